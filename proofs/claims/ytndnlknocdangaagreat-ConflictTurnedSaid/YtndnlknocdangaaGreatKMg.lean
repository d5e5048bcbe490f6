/-
 Texts,merged,without what is not reached.
-/
import Derived.Test.YtndnlknocdangaaGreatKMf
set_option linter.unusedSimpArgs false
set_option linter.unusedVariables false
open Go.IntKind (i64 u64)
namespace Go.Proofs.YtndnlknocdangaaGreat
open Go Go.G Go.Proofs Go.PL
abbrev dW:WE:=⟨0,0,0,0⟩
theorem Wr {a b:List Int} {p:Nat} {w:WE} {ws:List WE} (h:M6 a b p (w::ws)):∃ i:Nat,w.at_=i∧p≤i∧i<max a.length b.length∧Lw w.mask∧Bu w.new∧M6 a b (i+1) ws:=by
 cases h with
 |cons _ i m o n ws hp h hi hm ho hn h1 h2 g=>exact⟨i,rfl,hp,hi,⟨Int.le_of_lt hm.1,hm.2⟩,by rw[← hn];exact DT _ _ _,g⟩
theorem Jk {w:WE} {ws:List WE} {i:Nat} (h:w.at_=i):F5 (w::ws) i=w:=by
 unfold F5;rw[List.find?_cons,decide_eq_true h];rfl
theorem CR {w:WE} {ws:List WE} {i:Nat} (h:w.at_ ≠ i):F5 (w::ws) i=F5 ws i:=by
 unfold F5;rw[List.find?_cons,decide_eq_false h]
theorem Dw {a b:List Int} {p:Nat} {ws:List WE} (h:M6 a b p ws) {j:Nat} (hj:j<p):F5 ws j=dW:=by
 unfold F5;have hn:ws.find? (fun w=>decide (w.at_=(j:Int)))=none:=List.find?_eq_none.2 fun w hw=>by
  obtain⟨k,k1,k2,_⟩:=NJ h w hw;simp;omega
 rw[hn];rfl
theorem Qj {z:Int} (h:Bu z):JX z dW dW=z:=by
 unfold JX;rw[if_neg (by simp[JR])];rw[Kg h,Kg h]
theorem Y4 {a b:List Int} {p q:Nat} (h:M6 a b p []) (hq:p≤q):M6 a b q []:=by
 cases h with
 |nil _ h=>exact .nil q fun i hi=>h i (by omega)
theorem dV {a b:List Int} {p:Nat} {ws:List WE} (h:M6 a b p ws) (q:Nat) (hpq:p≤q) (hw:∀ z,z ∈ ws→(q:Int)≤z.at_):M6 a b q ws:=by
 cases h with
 |nil _ h=>exact .nil _ fun i hi=>h i (by omega)
 |cons _ i m o n ws hp h hi hm ho hn h1 h2 g=>
  have:=hw _ (List.mem_cons_self ..);have this:(q:Int)≤(i:Nat):=this;exact .cons _ i m o n ws (by omega) (fun j q1 q2=>h j (by omega) q2) hi hm ho hn h1 h2 g
structure rE (o:List Int) (gp gq:Nat→WE) (n i0:Nat) (ps qs:List WE) (X:List Int):Prop where
 lp:∀ j,i0≤j→F5 ps j=gp j
 lq:∀ j,i0≤j→F5 qs j=gq j
 x1:∀ j,j<i0→X.getD j 0=JX (o.getD j 0) (gp j) (gq j)
 x2:∀ j,i0≤j→X.getD j 0=o.getD j 0
 xu:∀ z,z ∈ X→Bu z
 xl:X.length≤900000
def nxX (o:List Int) (A B:WE) (i:Nat) (X:List Int):List Int:=if JR A B=true then X else (FA X i).set i (BP (BP (o.getD i 0) A.new A.mask) B.new B.mask)
theorem gw {o:List Int} (ho:∀ x,x ∈ o→Bu x) {gp gq:Nat→WE} {n i0 i:Nat} {ps qs ps' qs':List WE} {X:List Int} (h:rE o gp gq n i0 ps qs X) (hi:i0≤i) (hn:i<900000) (e1:∀ j,i0≤j→j<i→gp j=dW) (e2:∀ j,i0≤j→j<i→gq j=dW)
  (lp:∀ j,i+1≤j→F5 ps' j=gp j) (lq:∀ j,i+1≤j→F5 qs' j=gq j):rE o gp gq n (i+1) ps' qs' (nxX o (gp i) (gq i) i X):=by
 have hl:i<(FA X i).length:=by rw[HA];omega
 have hl2:=HA X i;have hxl:=h.xl;have gs:∀ z j,((FA X i).set i z).getD j 0=if j=i then z else X.getD j 0:=fun z j=>by
  rw[SS _ _ _ _ hl];unfold FA;rw[TQ]
 have low:∀ j,j<i→X.getD j 0=JX (o.getD j 0) (gp j) (gq j):=fun j hj=>by
  by_cases c:j<i0
  ·exact h.x1 j c
  ·rw[h.x2 j (by omega),e1 j (by omega) hj,e2 j (by omega) hj,Qj (Ge ho j)]
 unfold nxX;by_cases c:JR (gp i) (gq i)=true
 ·rw[if_pos c];refine⟨lp,lq,fun j hj=>?_,fun j hj=>h.x2 j (by omega),h.xu,h.xl⟩;by_cases e:j=i
  ·subst e;rw[h.x2 j hi,JX,if_pos c]
  ·exact low j (by omega)
 ·rw[if_neg c];refine⟨lp,lq,fun j hj=>?_,fun j hj=>?_,fun z hz=>?_,by rw[List.length_set];omega⟩
  ·rw[gs];by_cases e:j=i
   ·subst e;rw[if_pos rfl,JX,if_neg c]
   ·rw[if_neg e];exact low j (by omega)
  ·rw[gs,if_neg (by omega)];exact h.x2 j (by omega)
  ·rcases List.mem_or_eq_of_mem_set hz with hz | rfl
   ·unfold FA at hz;rcases List.mem_append.1 hz with hz | hz
    ·exact h.xu z hz
    ·rw[List.eq_of_mem_replicate hz];exact⟨by omega,by omega⟩
   ·exact DT _ _ _
def fT (at':C3) (o:List Int) (gp gq:Nat→WE) (n i0:Nat):List Cf:=(List.range' i0 (n-i0)).flatMap fun j=>Oz at' j (o.getD j 0) (gp j) (gq j)
theorem ax (i0 i n:Nat) (h1:i0≤i) (h2:i<n):List.range' i0 (n-i0)=List.range' i0 (i-i0)++i::List.range' (i+1) (n-(i+1)):=by
 have e:n-i0=(i-i0)+(1+(n-(i+1))):=by omega
 rw[e,← List.range'_append_1,show i0+(i-i0)=i from by omega,← List.range'_append_1];rfl
theorem ZD (at':C3) (i:Nat) (z:Int):Oz at' i z dW dW=[]:=by
 unfold Oz;rw[if_neg (by simp[JR])]
theorem mH (at':C3) (o:List Int) {gp gq:Nat→WE} {n i0 i:Nat} (h1:i0≤i) (h2:i<n) (e1:∀ j,i0≤j→j<i→gp j=dW) (e2:∀ j,i0≤j→j<i→gq j=dW):fT at' o gp gq n i0=Oz at' i (o.getD i 0) (gp i) (gq i)++fT at' o gp gq n (i+1):=by
 unfold fT;rw[ax i0 i n h1 h2,List.flatMap_append,List.flatMap_cons];have:(List.range' i0 (i-i0)).flatMap (fun j=>Oz at' j (o.getD j 0) (gp j) (gq j))=[]:=List.flatMap_eq_nil_iff.2 fun j hj=>by
  obtain⟨k,k1,k2⟩:=List.mem_range'.1 hj;rw[e1 j (by omega) (by omega),e2 j (by omega) (by omega),ZD]
 rw[this,List.nil_append]
theorem qt (at':C3) (o:List Int) {gp gq:Nat→WE} {n i0:Nat} (e1:∀ j,i0≤j→gp j=dW) (e2:∀ j,i0≤j→gq j=dW):fT at' o gp gq n i0=[]:=by
 unfold fT;exact List.flatMap_eq_nil_iff.2 fun j hj=>by
  obtain⟨k,k1,k2⟩:=List.mem_range'.1 hj;rw[e1 j (by omega),e2 j (by omega),ZD]
theorem ko {o x y:List Int} {ot:T} (wo:AK ot) (ho:ot.words=o) {gp gq:Nat→WE} {n:Nat} (hn:n≤800000) {at':C3} (hat:at'.length≤999999):∀ (N:Nat) (ps qs:List WE) (i0:Nat) (X:List Int),ps.length+qs.length≤N→N≤1000000000→M6 o x i0 ps→M6 o y i0 qs→(∀ z,z ∈ ps→z.at_<n)→(∀ z,z ∈ qs→z.at_<n)→rE o gp gq n i0 ps qs X →
  ∃ X':List Int,(∀ j,X'.getD j 0=JX (o.getD j 0) (gp j) (gq j))∧(∀ z,z ∈ X'→Bu z)∧X'.length≤900000∧∀ {n0:Nat} {w0:World} {I0:Nat→Prop} {M0:Nm→Nat→Prop} {m0:Mu} (Q:Exit→Sta→Prop) (v w u:Nat) (C:List Cf) (H:Hp),C.length+(fT at' o gp gq n i0).length≤100000000000→WdH v w ot C u X H→(∀ (H':Hp) (u':Nat),WdH v w ot (C++fT at' o gp gq n i0) u' X' H'→Q (.exit 0) ⟨lk [(0,.pob [0] v 0),(1,Dh at'),(3,QB []),(4,QB []),(7,.pob [1] 1 0),(11,.pob [2] 1 0),(12,.fnc 131 [] [.pob [2] 1 0]),(31,bv false)],H'⟩) →
   LoopC (DC Tryz.prog w0 I0 M0 n0 m0) AL Q ⟨lk [(0,.pob [0] v 0),(1,Dh at'),(3,QB ps),(4,QB qs),(7,.pob [1] 1 0),(11,.pob [2] 1 0),(12,.fnc 131 [] [.pob [2] 1 0])],H⟩:=by
 have fin:∀ (i0:Nat) (X:List Int),rE o gp gq n i0 [] [] X→∃ X':List Int,(∀ j,X'.getD j 0=JX (o.getD j 0) (gp j) (gq j))∧(∀ z,z ∈ X'→Bu z)∧X'.length≤900000∧∀ {n0:Nat} {w0:World} {I0:Nat→Prop} {M0:Nm→Nat→Prop} {m0:Mu} (Q:Exit→Sta→Prop) (v w u:Nat) (C:List Cf) (H:Hp),C.length+(fT at' o gp gq n i0).length≤100000000000→WdH v w ot C u X H→(∀ (H':Hp) (u':Nat),WdH v w ot (C++fT at' o gp gq n i0) u' X' H'→Q (.exit 0) ⟨lk [(0,.pob [0] v 0),(1,Dh at'),(3,QB []),(4,QB []),(7,.pob [1] 1 0),(11,.pob [2] 1 0),(12,.fnc 131 [] [.pob [2] 1 0]),(31,bv false)],H'⟩) →
   LoopC (DC Tryz.prog w0 I0 M0 n0 m0) AL Q ⟨lk [(0,.pob [0] v 0),(1,Dh at'),(3,QB []),(4,QB []),(7,.pob [1] 1 0),(11,.pob [2] 1 0),(12,.fnc 131 [] [.pob [2] 1 0])],H⟩:=fun i0 X hI=>by
  have d1:∀ j,i0≤j→gp j=dW:=fun j hj=>(hI.lp j hj).symm;have d2:∀ j,i0≤j→gq j=dW:=fun j hj=>(hI.lq j hj).symm;refine⟨X,fun j=>?_,hI.xu,hI.xl,fun {n0 w0 I0 M0 m0} Q v w u C H hC hH hq=>?_⟩
  ·by_cases c:j<i0
   ·exact hI.x1 j c
   ·rw[hI.x2 j (by omega),d1 j (by omega),d2 j (by omega),Qj (by rw[← ho];exact Ge (wfT_iff.1 wo).w j)]
  ·rw[qt at' o d1 d2,List.append_nil] at hq;refine Ab Ai AL.eq_1 ?_;simp;exact hq H u hH
 intro N;induction N with
 |zero=>
  intro ps qs i0 X hN _ hp hq _ _ hI;have e1:=List.eq_nil_of_length_eq_zero (show ps.length=0 by omega);have e2:=List.eq_nil_of_length_eq_zero (show qs.length=0 by omega);subst e1;subst e2;exact fin i0 X hI
 |succ N ih=>
  intro ps qs i0 X hN hN2 hp hq np nq hI;have hou:∀ x,x ∈ o→Bu x:=by rw[← ho];exact(wfT_iff.1 wo).w
  have step:∀ (Aw Bw:WE) (i:Nat) (ps' qs':List WE),gp i=Aw→gq i=Bw→i0≤i→i<n→Lw Aw.mask→Lw Bw.mask→Bu Aw.new→Bu Bw.new→M6 o x (i+1) ps'→M6 o y (i+1) qs'→(∀ j,i+1≤j→F5 ps' j=gp j)→(∀ j,i+1≤j→F5 qs' j=gq j)→(∀ j,i0≤j→j<i→gp j=dW)→(∀ j,i0≤j→j<i→gq j=dW)→ps'.length+qs'.length≤N→(∀ z,z ∈ ps'→z.at_<n)→(∀ z,z ∈ qs'→z.at_<n) →
    ∃ X':List Int,(∀ j,X'.getD j 0=JX (o.getD j 0) (gp j) (gq j))∧(∀ z,z ∈ X'→Bu z)∧X'.length≤900000∧∀ {n0:Nat} {w0:World} {I0:Nat→Prop} {M0:Nm→Nat→Prop} {m0:Mu} (Q:Exit→Sta→Prop) (v w u u3 u4:Nat) (C:List Cf) (H:Hp),C.length+(fT at' o gp gq n i0).length≤100000000000→WdH v w ot C u X H→H [3]=⟨u3,.cells (qv Aw)⟩→H [4]=⟨u4,.cells (qv Bw)⟩→(∀ (H':Hp) (u':Nat),WdH v w ot (C++fT at' o gp gq n i0) u' X' H'→Q (.exit 0) ⟨lk [(0,.pob [0] v 0),(1,Dh at'),(3,QB []),(4,QB []),(7,.pob [1] 1 0),(11,.pob [2] 1 0),(12,.fnc 131 [] [.pob [2] 1 0]),(31,bv false)],H'⟩) →
     WPC (DC Tryz.prog w0 I0 M0 n0 m0) C8 (BR 1 (F3 (LoopC (DC Tryz.prog w0 I0 M0 n0 m0) AL Q) Q)) ⟨lk [(0,.pob [0] v 0),(1,Dh at'),(3,QB ps'),(4,QB qs'),(7,.pob [1] 1 0),(11,.pob [2] 1 0),(12,.fnc 131 [] [.pob [2] 1 0]),(13,.pob [3] u3 0),(14,.pob [4] u4 0),(15,iv i)],H⟩:=fun Aw Bw i ps' qs' eA eB h1 h2 mA mB uA uB g1 g2 g3 g4 e1 e2 hl np' nq'=>by
   have hc:=mH at' o (gp:=gp) (gq:=gq) h1 h2 e1 e2;have hI2:=gw hou hI h1 (by omega) e1 e2 g3 g4;rw[eA,eB] at hc hI2;obtain⟨X',f1,f2,f3,f4⟩:=ih ps' qs' (i+1) (nxX o Aw Bw i X) hl (by omega) g1 g2 np' nq' hI2;refine⟨X',f1,f2,f3,fun {n0 w0 I0 M0 m0} Q v w u u3 u4 C H hC hH h3 h4 hq=>?_⟩;have xl:=hI.xl;rw[hc,← List.append_assoc] at hq;have hlen:C.length+(Oz at' i (o.getD i 0) Aw Bw).length+(fT at' o gp gq n (i+1)).length≤100000000000:=by rw[hc,List.length_append] at hC;omega
   refine kE (a:=Aw) (b:=Bw) (i:=i) wo mA mB uA uB hat (by omega) (by omega) (by omega) hH h3 h4 (fun c H' hH'=>?_) (fun c H' hH'=>?_)
   ·have q1:Oz at' i (o.getD i 0) Aw Bw=[⟨at'++[(1,(i:Int))],Ag (Cr (o.getD i 0)),Ag (Cr (BP (o.getD i 0) Aw.new Aw.mask)),Ag (Cr (BP (o.getD i 0) Bw.new Bw.mask))⟩]:=if_pos c;have q2:nxX o Aw Bw i X=X:=if_pos c;rw[q2] at f4;rw[q1] at hq hlen;rw[ho] at hH';exact f4 Q v w _ _ H' (by rw[List.length_append];exact hlen) hH' hq
   ·have q1:Oz at' i (o.getD i 0) Aw Bw=[]:=if_neg c;have q2:nxX o Aw Bw i X=(FA X i).set i (BP (BP (o.getD i 0) Aw.new Aw.mask) Bw.new Bw.mask):=if_neg c;rw[q2] at f4;rw[q1,List.append_nil] at hq;rw[q1] at hlen;rw[ho] at hH';exact f4 Q v w _ _ H' (by simpa using hlen) hH' hq
  cases ps with
  |nil=>
   cases qs with
   |nil=>exact fin i0 X hI
   |cons Bw qs=>
    obtain⟨i,h1,h2,h3,h4,h5,h6⟩:=Wr hq;have hin:=nq Bw (by simp);obtain⟨X',f1,f2,f3,f4⟩:=step dW Bw i [] qs (by rw[← hI.lp i h2];rfl) (by rw[← hI.lq i h2,Jk h1]) h2 (by omega) ⟨by decide,by decide⟩ h4 ⟨by decide,by decide⟩ h5 (Y4 hp (by omega)) h6 (fun j hj=>by rw[← hI.lp j (by omega)]) (fun j hj=>by rw[← hI.lq j (by omega),CR (by omega)]) (fun j q1 q2=>by rw[← hI.lp j q1];rfl) (fun j q1 q2=>by rw[← hI.lq j q1,CR (by omega),Dw h6 (by omega)]) (by simp at hN ⊢; omega) (fun z hz=>nomatch hz) (fun z hz=>nq z (List.mem_cons_of_mem _ hz));refine⟨X',f1,f2,f3,fun {n0 w0 I0 M0 m0} Q v w u C H hC hH hq=>?_⟩;have c1:¬ ((qs.length:Int)+1=0):=by omega
    have c2:(1:Int)≤(qs.length:Int)+1:=by omega
    have c3:List.take qs.length (qs.map wA)=qs.map wA:=AX (by simp);refine Ab Ai AL.eq_1 ?_;simp[h1,c1,c2,c3,Aa];exact f4 Q v w u _ _ C _ hC ((hH.put _ (by simp) (by simp) (by simp) (by simp)).put _ (by simp) (by simp) (by simp) (by simp)) (by simp[Aa]) (by simp[Aa,h1]) hq
  |cons Aw ps=>
   obtain⟨i,h1,h2,h3,h4,h5,h6⟩:=Wr hp;have hin:=np Aw (by simp);have d1:¬ ((ps.length:Int)+1=0):=by omega
   have d2:(1:Int)≤(ps.length:Int)+1:=by omega
   have d3:List.take ps.length (ps.map wA)=ps.map wA:=AX (by simp);cases qs with
   |nil=>
    obtain⟨X',f1,f2,f3,f4⟩:=step Aw dW i ps [] (by rw[← hI.lp i h2,Jk h1]) (by rw[← hI.lq i h2];rfl) h2 (by omega) h4 ⟨by decide,by decide⟩ h5 ⟨by decide,by decide⟩ h6 (Y4 hq (by omega)) (fun j hj=>by rw[← hI.lp j (by omega),CR (by omega)]) (fun j hj=>by rw[← hI.lq j (by omega)]) (fun j q1 q2=>by rw[← hI.lp j q1,CR (by omega),Dw h6 (by omega)]) (fun j q1 q2=>by rw[← hI.lq j q1];rfl) (by simp at hN ⊢; omega) (fun z hz=>np z (List.mem_cons_of_mem _ hz)) (fun z hz=>nomatch hz);refine⟨X',f1,f2,f3,fun {n0 w0 I0 M0 m0} Q v w u C H hC hH hq=>?_⟩;refine Ab Ai AL.eq_1 ?_;simp[h1,d1,d2,d3,Aa];exact f4 Q v w u _ _ C _ hC (((hH.put _ (by simp) (by simp) (by simp) (by simp)).put _ (by simp) (by simp) (by simp) (by simp)).put _ (by simp) (by simp) (by simp) (by simp)) (by simp[Aa,h1]) (by simp[Aa]) hq
   |cons Bw qs=>
    obtain⟨k,g1,g2,g3,g4,g5,g6⟩:=Wr hq;have hkn:=nq Bw (by simp);have c1:¬ ((qs.length:Int)+1=0):=by omega
    have c2:(1:Int)≤(qs.length:Int)+1:=by omega
    have c3:List.take qs.length (qs.map wA)=qs.map wA:=AX (by simp);by_cases c:(i:Int)<k
    ·obtain⟨X',f1,f2,f3,f4⟩:=step Aw dW i ps (Bw::qs) (by rw[← hI.lp i h2,Jk h1]) (by rw[← hI.lq i h2,CR (by omega),Dw g6 (by omega)]) h2 (by omega) h4 ⟨by decide,by decide⟩ h5 ⟨by decide,by decide⟩ h6 (dV hq (i+1) (by omega) (fun z hz=>by
      rcases List.mem_cons.1 hz with rfl | hz
      ·omega
      ·obtain⟨m,m1,m2,_⟩:=NJ g6 z hz;omega)) (fun j hj=>by rw[← hI.lp j (by omega),CR (by omega)]) (fun j hj=>by rw[← hI.lq j (by omega)]) (fun j q1 q2=>by rw[← hI.lp j q1,CR (by omega),Dw h6 (by omega)]) (fun j q1 q2=>by rw[← hI.lq j q1,CR (by omega),Dw g6 (by omega)]) (by simp at hN ⊢; omega) (fun z hz=>np z (List.mem_cons_of_mem _ hz)) nq
     refine⟨X',f1,f2,f3,fun {n0 w0 I0 M0 m0} Q v w u C H hC hH hq=>?_⟩;refine Ab Ai AL.eq_1 ?_;simp[h1,g1,c,Aa];simp[d1,d2,d3];exact f4 Q v w u _ _ C _ hC (((hH.put _ (by simp) (by simp) (by simp) (by simp)).put _ (by simp) (by simp) (by simp) (by simp)).put _ (by simp) (by simp) (by simp) (by simp)) (by simp[Aa,h1]) (by simp[Aa]) hq
    ·by_cases d:(k:Int)<i
     ·obtain⟨X',f1,f2,f3,f4⟩:=step dW Bw k (Aw::ps) qs (by rw[← hI.lp k g2,CR (by omega),Dw h6 (by omega)]) (by rw[← hI.lq k g2,Jk g1]) g2 (by omega) ⟨by decide,by decide⟩ g4 ⟨by decide,by decide⟩ g5 (dV hp (k+1) (by omega) (fun z hz=>by
       rcases List.mem_cons.1 hz with rfl | hz
       ·omega
       ·obtain⟨m,m1,m2,_⟩:=NJ h6 z hz;omega)) g6 (fun j hj=>by rw[← hI.lp j (by omega)]) (fun j hj=>by rw[← hI.lq j (by omega),CR (by omega)]) (fun j q1 q2=>by rw[← hI.lp j q1,CR (by omega),Dw h6 (by omega)]) (fun j q1 q2=>by rw[← hI.lq j q1,CR (by omega),Dw g6 (by omega)]) (by simp at hN ⊢; omega) np (fun z hz=>nq z (List.mem_cons_of_mem _ hz))
      refine⟨X',f1,f2,f3,fun {n0 w0 I0 M0 m0} Q v w u C H hC hH hq=>?_⟩;refine Ab Ai AL.eq_1 ?_;simp[h1,g1,c,d,Aa];simp[c1,c2,c3,d1];exact f4 Q v w u _ _ C _ hC ((hH.put _ (by simp) (by simp) (by simp) (by simp)).put _ (by simp) (by simp) (by simp) (by simp)) (by simp[Aa]) (by simp[Aa,g1]) hq
     ·have e:k=i:=by omega
      subst e;obtain⟨X',f1,f2,f3,f4⟩:=step Aw Bw k ps qs (by rw[← hI.lp k h2,Jk h1]) (by rw[← hI.lq k g2,Jk g1]) g2 (by omega) h4 g4 h5 g5 h6 g6 (fun j hj=>by rw[← hI.lp j (by omega),CR (by omega)]) (fun j hj=>by rw[← hI.lq j (by omega),CR (by omega)]) (fun j q1 q2=>by rw[← hI.lp j q1,CR (by omega),Dw h6 (by omega)]) (fun j q1 q2=>by rw[← hI.lq j q1,CR (by omega),Dw g6 (by omega)]) (by simp at hN ⊢; omega) (fun z hz=>np z (List.mem_cons_of_mem _ hz)) (fun z hz=>nq z (List.mem_cons_of_mem _ hz));refine⟨X',f1,f2,f3,fun {n0 w0 I0 M0 m0} Q v w u C H hC hH hq=>?_⟩;refine Ab Ai AL.eq_1 ?_;simp[h1,g1,c,d,Aa];simp[c1,c2,c3,d1,d2,d3];exact f4 Q v w u _ _ C _ hC ((((hH.put _ (by simp) (by simp) (by simp) (by simp)).put _ (by simp) (by simp) (by simp) (by simp)).put _ (by simp) (by simp) (by simp) (by simp)).put _ (by simp) (by simp) (by simp) (by simp)) (by simp[Aa,h1]) (by simp[Aa,g1]) hq
theorem Zf {ot:T} (wo:AK ot) {x y:List Int} {ps qs:List WE} (hp:M6 ot.words x 0 ps) (hq:M6 ot.words y 0 qs) (hn:Dc (Dc ot.words.length ps) qs≤800000) (hl:ps.length+qs.length≤1000000000) {at':C3} (hat:at'.length≤999999) :
  ∃ X:List Int,(∀ j,X.getD j 0=JX (ot.words.getD j 0) (F5 ps j) (F5 qs j))∧(∀ z,z ∈ X→Bu z)∧X.length≤900000∧∀ (v w:Nat) (C:List Cf),C.length+((List.range (Dc (Dc ot.words.length ps) qs)).flatMap fun i:Nat=>Oz at' i (ot.words.getD i 0) (F5 ps i) (F5 qs i)).length≤100000000000 →
   SpecF Tryz.prog 83 (fun r=>[.pob [r] v 0,Dh at',tX ot,QB ps,QB qs]) (NB v w C) (fun _=>DL X) (NB v w (C++(List.range (Dc (Dc ot.words.length ps) qs)).flatMap fun i:Nat=>Oz at' i (ot.words.getD i 0) (F5 ps i) (F5 qs i))):=by
 have hwl:ot.words.length≤800000:=by
  rw[CB,CB] at hn;omega
 have e0:fT at' ot.words (F5 ps) (F5 qs) (Dc (Dc ot.words.length ps) qs) 0=(List.range (Dc (Dc ot.words.length ps) qs)).flatMap fun i:Nat=>Oz at' i (ot.words.getD i 0) (F5 ps i) (F5 qs i):=by
  unfold fT;rw[List.range_eq_range',Nat.sub_zero]
 rw[← e0];have np:∀ z,z ∈ ps→z.at_<(Dc (Dc ot.words.length ps) qs:Nat):=fun z hz=>by
  have:=Ki (n:=ot.words.length) hz;rw[CB qs];omega
 have nq:∀ z,z ∈ qs→z.at_<(Dc (Dc ot.words.length ps) qs:Nat):=fun z hz=>Ki hz;have C1:=Q3 ot.words (by omega);obtain⟨X,f1,f2,f3,f4⟩:=ko wo rfl hn hat (ps.length+qs.length) ps qs 0 ot.words (Cc _) hl hp hq np nq ⟨fun j _=>rfl,fun j _=>rfl,fun j hj=>by omega,fun j _=>rfl,(wfT_iff.1 wo).w,by omega⟩;refine⟨X,f1,f2,f3,fun v w C hC=>It LN (by simp) (Ae Au (Ae Ba (Ae (BC ot) (Ae Ba (Ae Ba Ah))))) Ba fun w0 I0 M0 m0 hM=>?_⟩;unfold Hv;simp;refine Ar 15 C1 (fun p=>by simp) (by simp) (by simp) ?_;simp;refine LoopC.le (Ao [(0,.pob [0] v 0),(1,Dh at'),(3,QB ps),(4,QB qs),(7,.pob [1] 1 0),(11,.pob [2] 1 0),(12,.fnc 131 [] [.pob [2] 1 0])] (by simp)) ?_;refine f4 _ v w 1 C _ hC ⟨fun p=>by simp,by simp,fun p=>?_,fun p=>by simp⟩ fun H' u' hH'=>?_
 ·by_cases hp:p=[]
  ·subst hp;simp
  ·simp[hp,FZ,Ne.symm hp]
 ·have h2:H' [2]=⟨1,.cells [.osl [15] u' 1 0 X.length]⟩:=by rw[hH'.b];simp
  simp[h2];obtain⟨H2,g1,g2⟩:=Oj (c:=DC Tryz.prog w0 I0 M0 149 m0) (s:=lk [(10,.osl [15] u' 1 0 X.length)]) (H:=H') (fun r=>r=15) (fun r p b hr=>hM r p b (by omega)) 10 (DL X) (fun H1 e1=>by
   have e2:H1 [15]=H' [15]:=e1 15 [] rfl;simp;exact BW (f:=uv) (by rw[e2,hH'.c];simp) rfl (fun x=>by simp))
  refine Ib g1 (Ax (r0:=DL X) (by simp[upd,E4]) rfl (fun p=>?_));exact(g2 0 p (by omega)).trans (hH'.f p)
theorem Wo {ks:List KE} {x:KE} (hx:ks.getLast? = some x) (h:∀ w,w ∈ ks→w.at_≤x.at_) (n:Nat):Ch n ks=max n (x.at_+1).toNat:=by
 have key:∀ (l:List KE),(∀ w,w ∈ l→w.at_≤x.at_)→Ch 0 l≤(x.at_+1).toNat:=by
  intro l;induction l with
  |nil=>intro _;simp[Ch]
  |cons y l ih=>
   intro hl;have e:Ch 0 (y::l)=Ch (max 0 (y.at_+1).toNat) l:=rfl;have:=ih fun w hw=>hl w (List.mem_cons_of_mem _ hw);have:=hl y (by simp);rw[e,DE];omega
 have k1:=key ks h;have k2:=Tg (n:=0) (List.mem_of_getLast? hx);rw[DE];omega
def oh (f:Nat) (at':C3) (o:T) (p q:E) (u:T):Prop:=AK u∧Ag u=(mg f at' o p q).1∧∀ (v w:Nat) (C:List Cf),C.length+(mg f at' o p q).2.length≤100000000000 →
 SpecF Tryz.prog 34 (fun r=>[.pob [r] v 0,Dh at',tX o,eX p,eX q]) (NB v w C) (fun _=>tX u) (NB v w (C++(mg f at' o p q).2))
structure StH (v w:Nat) (o:T) (p q:E) (C:List Cf) (X:List Int) (L:List T) (u:Nat) (H:Hp):Prop where
 f:∀ r,H (0::r)=(NB v w C).F 0 r
 o:H [1]=⟨1,.cells (Xz o)⟩
 p:H [2]=⟨1,.cells (eL p)⟩
 q:H [3]=⟨1,.cells (eL q)⟩
 z:H [4]=⟨1,.cells [iv 0,.sl true [],.sl true []]⟩
 b:H [5]=⟨1,.cells [iv 1,DL X,.osl [6] u 3 0 L.length]⟩
 c:H [6]=⟨u,.arr 3 (L.map tA)⟩
variable {n0:Nat} {w0:World} {I0:Nat→Prop} {M0:Nm→Nat→Prop} {m0:Mu} {Q:Exit→Sta→Prop}
theorem su {f:Nat} {at':C3} (hat:at'.length≤900000) {o:T} {p q:E} {X:List Int} {U:Nat→T} {m:Nat} (hm:m≤800000) (lp:p.kids.length≤10000000000000) (lq:q.kids.length≤10000000000000) (hU:∀ i:Nat,oh f (at'++[(0,(i:Int))]) (o.kids.getD i T0) (GJ p.kids i) (GJ q.kids i) (U i)) {v w:Nat} {C:List Cf} (hC:C.length+((List.range m).flatMap fun i:Nat=>(mg f (at'++[(0,(i:Int))]) (o.kids.getD i T0) (GJ p.kids i) (GJ q.kids i)).2).length≤100000000000)
  (hq:∀ (H':Hp),StH v w o p q (C++(List.range m).flatMap fun i:Nat=>(mg f (at'++[(0,(i:Int))]) (o.kids.getD i T0) (GJ p.kids i) (GJ q.kids i)).2) X ((List.range m).map U) (m+1) H'→Q (.exit 2) ⟨lk [(0,.pob [0] v 0),(1,Dh at'),(7,.pob [1] 1 0),(8,.pob [2] 1 0),(9,.pob [3] 1 0),(10,.pob [4] 1 0),(11,.pob [5] 1 0),(53,iv m),(54,iv m),(55,bv false)],H'⟩) :
  ∀ (j i:Nat) (H:Hp),i+j=m→StH v w o p q (C++(List.range i).flatMap fun i:Nat=>(mg f (at'++[(0,(i:Int))]) (o.kids.getD i T0) (GJ p.kids i) (GJ q.kids i)).2) X ((List.range i).map U) (i+1) H →
  LoopC (DC Tryz.prog w0 I0 M0 n0 m0) B0 Q ⟨lk [(0,.pob [0] v 0),(1,Dh at'),(7,.pob [1] 1 0),(8,.pob [2] 1 0),(9,.pob [3] 1 0),(10,.pob [4] 1 0),(11,.pob [5] 1 0),(53,iv m),(54,iv i)],H⟩:=by
 intro j;induction j with
 |zero=>
  intro i H hj hH;have:i=m:=by omega
  subst this;refine Ab Ai B0.eq_1 ?_;simp;exact hq H hH
 |succ j ih=>
  intro i H hj hH;have hlt:i<m:=by omega
  have ew:=AO i;have F:=Io at' 0 i (by omega);have K0:=Fs o i;have K1:=Vn p.kids lp i;have K2:=Vn q.kids lq i;obtain⟨u1,u2,u3⟩:=hU i;have hr:List.range (i+1)=List.range i++[i]:=List.range_succ;have hsub:((List.range (i+1)).flatMap fun i:Nat=>(mg f (at'++[(0,(i:Int))]) (o.kids.getD i T0) (GJ p.kids i) (GJ q.kids i)).2).length≤((List.range m).flatMap fun i:Nat=>(mg f (at'++[(0,(i:Int))]) (o.kids.getD i T0) (GJ p.kids i) (GJ q.kids i)).2).length:=by
   have e:List.range m=List.range (i+1)++List.range' (i+1) (m-(i+1)):=by
    rw[List.range_eq_range',List.range_eq_range',show m=(i+1)+(m-(i+1)) from by omega,← List.range'_append_1];simp
   rw[e,List.flatMap_append,List.length_append];omega
  have next:=ih (i+1)
  rw[hr] at hsub next
  rw[List.flatMap_append,List.flatMap_singleton,List.length_append] at hsub;rw[List.flatMap_append,List.flatMap_singleton,List.map_append,← List.append_assoc] at next
  have S:=u3 v w (C++(List.range i).flatMap fun i:Nat=>(mg f (at'++[(0,(i:Int))]) (o.kids.getD i T0) (GJ p.kids i) (GJ q.kids i)).2) (by rw[List.length_append];omega);generalize (List.range i).flatMap (fun i:Nat=>(mg f (at'++[(0,(i:Int))]) (o.kids.getD i T0) (GJ p.kids i) (GJ q.kids i)).2)=D at *;generalize hL:(List.range i).map U=L at *;have hLl:L.length=i:=by rw[← hL];simp
  generalize (mg f (at'++[(0,(i:Int))]) (o.kids.getD i T0) (GJ p.kids i) (GJ q.kids i)).2=c at *;have h1:=hH.o;have h2:=hH.p;have h3:=hH.q;have h5:=hH.b;have h6:=hH.c;refine Ab Ai B0.eq_1 ?_;simp[hlt,h1,h2,h3,h5];refine Af F (by simp) ?_;simp[h1,h2,h3];refine Af K0 (by simp) ?_;simp[h1,h2,h3];refine Af K1 (by simp) ?_;simp[h1,h2,h3];refine Af K2 (by simp) ?_;simp;refine Ar 0 S hH.f (by simp) (by simp[List.isPrefixOf]) ?_;simp[h5,h6,Aa];refine⟨by omega,?_⟩;rw[ew];have h4:=hH.z;exact next _ (by omega) ⟨fun r=>by simp,by simp[Aa,h1],by simp[Aa,h2],by simp[Aa,h3],by simp[Aa,h4],by simp[Aa],by simp[Aa,AX]⟩
theorem qD {at':C3} {p q:E} (ap:∀ k,k ∈ p.kids→0≤k.at_∧k.at_≤900000) (aq:∀ k,k ∈ q.kids→0≤k.at_∧k.at_≤900000) (sp:∀ x,p.kids.getLast? = some x→∀ w,w ∈ p.kids→w.at_≤x.at_) (sq:∀ x,q.kids.getLast? = some x→∀ w,w ∈ q.kids→w.at_≤x.at_) (lp:p.kids.length≤10000000000000) (lq:q.kids.length≤10000000000000) {v:Nat} {n:Nat} (hn:n≤10000000) {H:Hp}
  (hq:Q (.exit 0) ⟨lk [(0,.pob [0] v 0),(1,Dh at'),(7,.pob [1] 1 0),(8,.pob [2] 1 0),(9,.pob [3] 1 0),(10,.pob [4] 1 0),(11,.pob [5] 1 0),(12,iv (Ch (Ch n p.kids) q.kids)),(33,.sl true [Re p.kids,Re q.kids]),(34,iv 2),(35,iv 2),(36,bv false)],H⟩) :
  LoopC (DC Tryz.prog w0 I0 M0 n0 m0) AY Q ⟨lk [(0,.pob [0] v 0),(1,Dh at'),(7,.pob [1] 1 0),(8,.pob [2] 1 0),(9,.pob [3] 1 0),(10,.pob [4] 1 0),(11,.pob [5] 1 0),(12,iv n),(33,.sl true [Re p.kids,Re q.kids]),(34,iv 2),(35,iv 0)],H⟩:=by
 have one:∀ (ks:List KE) (n:Nat) (j:Nat),n≤10000000→j<2→[Re p.kids,Re q.kids][j]? = some (Re ks)→ks.length≤10000000000000→(∀ k,k ∈ ks→0≤k.at_∧k.at_≤900000)→(∀ x,ks.getLast? = some x→∀ w,w ∈ ks→w.at_≤x.at_)→LoopC (DC Tryz.prog w0 I0 M0 n0 m0) AY Q ⟨lk [(0,.pob [0] v 0),(1,Dh at'),(7,.pob [1] 1 0),(8,.pob [2] 1 0),(9,.pob [3] 1 0),(10,.pob [4] 1 0),(11,.pob [5] 1 0),(12,iv (Ch n ks)),(33,.sl true [Re p.kids,Re q.kids]),(34,iv 2),(35,iv (j+1:Nat))],H⟩ →
   LoopC (DC Tryz.prog w0 I0 M0 n0 m0) AY Q ⟨lk [(0,.pob [0] v 0),(1,Dh at'),(7,.pob [1] 1 0),(8,.pob [2] 1 0),(9,.pob [3] 1 0),(10,.pob [4] 1 0),(11,.pob [5] 1 0),(12,iv n),(33,.sl true [Re p.kids,Re q.kids]),(34,iv 2),(35,iv j)],H⟩:=fun ks n j hn hj hks hl ha hs next=>by
  have ew:=AO j;have hj2:(j:Int)<2:=by omega
  have hk2:[Re p.kids,Re q.kids][j]=Re ks:=by
   rw[List.getElem?_eq_getElem hj] at hks;exact Option.some.inj hks
  cases e:ks.getLast? with
  |none=>
   have:ks=[]:=List.getLast?_eq_none_iff.1 e;subst this;refine Ab Ai AY.eq_1 ?_;simp[hj2,hj,hk2];rw[ew];exact next
  |some x=>
   have e1:=Wo e (hs x e) n;have hx:=ha x (List.mem_of_getLast? e);rw[e1] at next
   have hne:ks ≠ []:=fun h=>by rw[h] at e;cases e
   have h0:=List.length_pos_iff.2 hne;have h0':(0:Int)<ks.length:=by omega
   have e9:i64.wrap ((ks.length:Int)-1)=((ks.length-1:Nat):Int):=(Be (n:=(ks.length:Int)-1) (by omega) (by omega)).trans (by omega);have hlt:ks.length-1<ks.length:=by omega
   have hx2:ks[ks.length-1]=x:=by
    rw[List.getLast?_eq_getElem?,List.getElem?_eq_getElem hlt] at e;exact Option.some.inj e
   have e10:i64.wrap (x.at_+1)=x.at_+1:=EO;have e11:max (n:Int) (x.at_+1)=((max n (x.at_+1).toNat:Nat):Int):=by omega
   refine Ab Ai AY.eq_1 ?_;simp[hj2,hj,hk2,h0,h0',e9,hlt,hx2,e10];rw[ew,e11];exact next
 have b1:Ch n p.kids≤10000000:=by
  cases e:p.kids.getLast? with
  |none=>
   rw[List.getLast?_eq_none_iff.1 e];exact hn
  |some x=>
   have hx:=ap x (List.mem_of_getLast? e);rw[Wo e (sp x e)];omega
 refine one p.kids n 0 hn (by decide) rfl lp ap sp ?_;refine one q.kids _ 1 b1 (by decide) rfl lq aq sq ?_;refine Ab Ai AY.eq_1 ?_;simp;exact hq
theorem WL:∀ {ws:List WE} {n m:Nat},n≤m→(∀ w,w ∈ ws→w.at_<(m:Int))→Dc n ws≤m
 |[],n,m,h,_=>h
 |w::ws,n,m,h,hw=>WL (ws:=ws) (n:=max n (w.at_+1).toNat) (by have:=hw w (by simp);omega) fun z hz=>hw z (List.mem_cons_of_mem _ hz)
theorem WV:∀ {ws:List KE} {n m:Nat},n≤m→(∀ w,w ∈ ws→w.at_<(m:Int))→Ch n ws≤m
 |[],n,m,h,_=>h
 |w::ws,n,m,h,hw=>WV (ws:=ws) (n:=max n (w.at_+1).toNat) (by have:=hw w (by simp);omega) fun z hz=>hw z (List.mem_cons_of_mem _ hz)
theorem m5 {f:Nat} {at':C3} {o:T} (wo:AK o) {p q:E} {x y:List Int} (hp:M6 o.words x 0 p.words) (hq:M6 o.words y 0 q.words) {U:Nat→T} (hU:∀ i:Nat,oh f (at'++[(0,(i:Int))]) (o.kids.getD i T0) (GJ p.kids i) (GJ q.kids i) (U i)) {X:List Int} (hX:∀ j,X.getD j 0=JX (o.words.getD j 0) (F5 p.words j) (F5 q.words j)) :
  Ag (.mk 1 X ((List.range (Ch (Ch o.kids.length p.kids) q.kids)).map U))=(fh (mg f) at' o p q).1:=by
 unfold fh;refine struct_eq.2 ⟨fun j=>?_,fun j=>?_⟩
 ·rw[hX];refine(L3 (fun i:Nat=>JX (o.words.getD i 0) (F5 p.words i) (F5 q.words i)) 0 _ j fun hj=>?_).symm;show JX (o.words.getD j 0) (F5 p.words j) (F5 q.words j)=0;have hw:o.words.length≤j:=by
   rw[CB q.words,CB p.words] at hj;omega
  have e0:o.words.getD j 0=0:=by rw[List.getD_eq_getElem?_getD,List.getElem?_eq_none hw];rfl
  have far:∀ {ws:List WE},(∀ w,w ∈ ws→w.at_<(j:Int))→F5 ws j=dW:=fun {ws} h=>by
   unfold F5;rw[List.find?_eq_none.2 fun w hw=>by have:=h w hw;simp;omega];rfl
  rw[e0,far (ws:=p.words) fun w hw=>by
   have:=Ki (n:=o.words.length) hw;rw[CB q.words,CB p.words] at hj;rw[CB] at this;omega,far (ws:=q.words) fun w hw=>by
   have:=Ki (n:=Dc o.words.length p.words) hw;omega,Qj ⟨by decide,by decide⟩]
 ·by_cases c:j<Ch (Ch o.kids.length p.kids) q.kids
  ·have:=(hU j).2.1;simp only[List.getD_eq_getElem?_getD,List.getElem?_map,List.getElem?_range c,Option.map_some,Option.getD_some];rw[List.getD_eq_getElem?_getD] at this;rw[← this,Cm]
  ·rw[List.getD_eq_getElem?_getD,List.getD_eq_getElem?_getD,List.getElem?_eq_none (by simp;omega),List.getElem?_eq_none (by simp;omega)]
theorem iV {f:Nat} {at':C3} (hat:at'.length≤900000) {o:T} (wo:AK o) {p q:E} {x y:T} (hp:M6 o.words x.words 0 p.words) (hq:M6 o.words y.words 0 q.words) {R:E→T→T→Prop} (kp:W0 R o.kids x.kids 0 p.kids) (kq:W0 R o.kids y.kids 0 q.kids) (b1:o.words.length≤700000∧o.kids.length≤700000) (b2:x.words.length≤700000∧x.kids.length≤700000) (b3:y.words.length≤700000∧y.kids.length≤700000) (wp:p.words.length≤500000000∧p.kids.length≤10000000000000) (wq:q.words.length≤500000000∧q.kids.length≤10000000000000)
  (hU:∀ i:Nat,∃ u,oh f (at'++[(0,(i:Int))]) (o.kids.getD i T0) (GJ p.kids i) (GJ q.kids i) u) :
  ∃ u,AK u∧Ag u=(fh (mg f) at' o p q).1∧∀ (v w:Nat) (C:List Cf),C.length+(fh (mg f) at' o p q).2.length≤100000000000 →
   SpecF Tryz.prog 55 (fun r=>[.pob [r] v 0,Dh at',tX o,eX p,eX q]) (NB v w C) (fun _=>tX u) (NB v w (C++(fh (mg f) at' o p q).2)):=by
 obtain⟨U,hU⟩:=Classical.axiomOfChoice hU;have tw:Dc (Dc o.words.length p.words) q.words≤700000:=WL (WL b1.1 fun w hw=>by
  obtain⟨i,k1,k2,k3,_⟩:=NJ hp w hw;omega) fun w hw=>by
  obtain⟨i,k1,k2,k3,_⟩:=NJ hq w hw;omega
 have tk:Ch (Ch o.kids.length p.kids) q.kids≤700000:=WV (WV b1.2 fun w hw=>by
  obtain⟨i,k1,k2,k3,_⟩:=Qc kp w hw;omega) fun w hw=>by
  obtain⟨i,k1,k2,k3,_⟩:=Qc kq w hw;omega
 have O:=wfT_iff.1 wo;have ap:∀ k,k ∈ p.kids→0≤k.at_∧k.at_≤900000:=fun w hw=>by
  obtain⟨i,k1,k2,k3,_⟩:=Qc kp w hw;omega
 have aq:∀ k,k ∈ q.kids→0≤k.at_∧k.at_≤900000:=fun w hw=>by
  obtain⟨i,k1,k2,k3,_⟩:=Qc kq w hw;omega
 have hc2:(fh (mg f) at' o p q).2=((List.range (Dc (Dc o.words.length p.words) q.words)).flatMap (fun i:Nat=>Oz at' i (o.words.getD i 0) (F5 p.words i) (F5 q.words i)))++((List.range (Ch (Ch o.kids.length p.kids) q.kids)).flatMap fun i:Nat=>(mg f (at'++[(0,(i:Int))]) (o.kids.getD i T0) (GJ p.kids i) (GJ q.kids i)).2):=rfl;obtain⟨X,f1,f2,f3,f4⟩:=Zf wo hp hq (by omega) (by omega) (at':=at') (by omega);have ht:=m5 wo hp hq hU f1;have hkl:o.kids.length≤Ch (Ch o.kids.length p.kids) q.kids:=by
  rw[DE,DE];omega
 refine⟨.mk 1 X ((List.range (Ch (Ch o.kids.length p.kids) q.kids)).map U),wfT_iff.2 ⟨by simp[BG],f2,by show X.length*8≤_;omega,by simp;omega,fun t ht=>?_⟩,ht,fun v w C hC=>?_⟩
 ·obtain⟨i,_,rfl⟩:=List.mem_map.1 (show t ∈ (List.range _).map U from ht);exact(hU i).1
 rw[hc2] at hC ⊢;rw[List.length_append] at hC;have W:=f4 v w C (by omega);have L2:=fun {n0:Nat} {w0:World} {I0:Nat→Prop} {M0:Nm→Nat→Prop} {m0:Mu} {Q:Exit→Sta→Prop}=>su (n0:=n0) (w0:=w0) (I0:=I0) (M0:=M0) (m0:=m0) (Q:=Q) hat (o:=o) (p:=p) (q:=q) (X:=X) (m:=Ch (Ch o.kids.length p.kids) q.kids) (by omega) wp.2 wq.2 hU (v:=v) (w:=w) (C:=C++(List.range (Dc (Dc o.words.length p.words) q.words)).flatMap fun i:Nat=>Oz at' i (o.words.getD i 0) (F5 p.words i) (F5 q.words i)) (by rw[List.length_append];omega);rw[← List.append_assoc];have sp:=TY kp;have sq:=TY kq;generalize (List.range (Dc (Dc o.words.length p.words) q.words)).flatMap (fun i:Nat=>Oz at' i (o.words.getD i 0) (F5 p.words i) (F5 q.words i))=CW at *;generalize hCK:(fun i:Nat=>(mg f (at'++[(0,(i:Int))]) (o.kids.getD i T0) (GJ p.kids i) (GJ q.kids i)).2)=CK at *;refine It I8 (by simp) (Ae Au (Ae Ba (Ae (BC o) (Ae (Ci p) (Ae (Ci q) Ah))))) (BC _) fun w0 I0 M0 m0 hM=>?_;unfold Fx;simp;refine Ar 0 W (fun p=>by simp) (by simp) (by simp) ?_;simp;refine LoopC.le (BU (d:=[5]) (u:=1) 2 [6] 3 (by simp;rfl) rfl (by simp)) ?_;refine LoopC.le (Ao [(0,.pob [0] v 0),(1,Dh at'),(7,.pob [1] 1 0),(8,.pob [2] 1 0),(9,.pob [3] 1 0),(10,.pob [4] 1 0),(11,.pob [5] 1 0),(12,iv o.kids.length),(33,.sl true [Re p.kids,Re q.kids]),(34,iv 2),(35,iv 0)] (by simp)) ?_;refine qD ap aq sp sq wp.2 wq.2 (by omega) ?_;simp;refine LoopC.le (Ao [(0,.pob [0] v 0),(1,Dh at'),(7,.pob [1] 1 0),(8,.pob [2] 1 0),(9,.pob [3] 1 0),(10,.pob [4] 1 0),(11,.pob [5] 1 0),(53,iv (Ch (Ch o.kids.length p.kids) q.kids:Nat)),(54,iv (0:Nat))] (by simp)) ?_;refine L2 (fun H' hH=>?_) (Ch (Ch o.kids.length p.kids) q.kids) 0 _ (by omega) ⟨fun r=>?_,by simp[Aa],by simp[Aa],by simp[Aa],by simp[Aa],by simp[Aa],by simp[Aa]⟩
 ·have h4:=hH.z;have h5:=hH.b;simp[h4,h5,Aa];have h6:=hH.c;have hf:=hH.f;rw[List.append_assoc] at hf;generalize hLL:(List.range (Ch (Ch o.kids.length p.kids) q.kids)).map U=LL at *;have hlen:Ch (Ch o.kids.length p.kids) q.kids=LL.length:=by rw[← hLL];simp
  generalize Ch (Ch o.kids.length p.kids) q.kids=m at *;obtain⟨H4,y1,y2⟩:=I5 (c:=DC Tryz.prog w0 I0 M0 80 m0) (s:=lk [(10,.pob [4] 1 0)]) (H:=AI H' [4] ⟨1,.cells [iv 1,DL X,.osl [6] (m+1) 3 0 m]⟩) (fun r=>r=6) (fun r p b h=>hM r p b (by omega)) (r0:=4) (p0:=[]) (by omega) (u:=1) (cs:=[iv 1,DL X,.osl [6] (m+1) 3 0 m]) (by simp[Aa]) (cs':=Xz (.mk 1 X LL)) (by simp[A.ones]) (fun H1 h1=>⟨Ad rfl,Ad rfl,BW (f:=tA) (l:=LL) (by rw[h1 6 [] rfl];simp[Aa,h6]) hlen (fun x=>by simp),trivial⟩);refine Ib y1 (Ax (r0:=tX (.mk 1 X LL)) (by simp[E4]) rfl fun r=>?_);have e1:=y2 0 r (by omega);dsimp only;rw[AE (by simp),e1,AE (by simp),hf]
 ·simp[Aa]
end Go.Proofs.YtndnlknocdangaaGreat
namespace Go.G
open Go
structure u9 where
 B:Nat→Nat→Nat→Nm→VOb
 C:Nat→Nat→Nat→Nm→VOb
 D:Nat→Nat→Nat→Nm→VOb
 ren:∀ {g:Nm→Nm} {δ:Nm→Nat} {r r' q q' t t':Nat},(∀ p,g (r::p)=r'::p)→(∀ p,g (q::p)=q'::p)→(∀ p,g (t::p)=t'::p)→(∀ p,δ (r::p)=0)→(∀ p,δ (q::p)=0)→(∀ p,δ (t::p)=0)→∀ p,(B r q t p).ren g δ 0=B r' q' t' p∧(C r q t p).ren g δ 0=C r' q' t' p∧(D r q t p).ren g δ 0=D r' q' t' p
 refs:∀ {P:Nm→Prop} {r q t:Nat},(∀ p,P (r::p))→(∀ p,P (q::p))→(∀ p,P (t::p))→∀ p,(B r q t p).ob.refs P∧(C r q t p).ob.refs P∧(D r q t p).ob.refs P
section
variable {P:Program} {K:Sta→Prop} {rest:List CO} {s:Nat→A} {H:Hp} {dd:Option Nat} {nm:Nm} {ix:Nat} {un:List Nat} {l:Bool} {lg:Lg} {g:FuncId} {aa:Array Operand} {ts:Array TypeId}
theorem dt {as':Nat→Nat→Nat→List A} {F:u9} {x:A} (r q t:Nat) (h1:r ≠ q) (h2:r ≠ t) (h3:q ≠ t)
  (hx1:∀ g δ,x.ren g δ=x) (hx2:∀ D,x.refs D)
  (fa1:∀ {g:Nm→Nm} {δ:Nm→Nat} {r r' q q' t t':Nat},(∀ p,g (r::p)=r'::p)→(∀ p,g (q::p)=q'::p)→(∀ p,g (t::p)=t'::p)→(∀ p,δ (r::p)=0)→(∀ p,δ (q::p)=0)→(∀ p,δ (t::p)=0)→A.renL g δ (as' r q t)=as' r' q' t')
  (fa2:∀ {P:Nm→Prop} {r q t:Nat},(∀ p,P (r::p))→(∀ p,P (q::p))→(∀ p,P (t::p))→A.refsL P (as' r q t))
  (hS:SpecH P g 3 (as' 0 1 2) (ov 0 (F.B 0 1 2) (ov 1 (F.C 0 1 2) (ov 2 (F.D 0 1 2) (FZ [])))) x (ov 0 (F.B 0 1 2) (ov 1 (F.C 0 1 2) (ov 2 (F.D 0 1 2) (FZ [])))))
  (hB:∀ p,H (r::p)=F.B r q t p) (hC:∀ p,H (q::p)=F.C r q t p) (hD:∀ p,H (t::p)=F.D r q t p) :
  ∃ E,Tf P H g (as' r q t) x E [] ([r,q,t].map fun r=>([r],true))∧E.app H=H:=by
 have hd:∀ p,MS [r,q,t] 3 H (0::p)=0:=fun p=>rfl;have hd1:∀ p,MS [r,q,t] 3 H (1::p)=0:=fun p=>rfl;have hd2:∀ p,MS [r,q,t] 3 H (2::p)=0:=fun p=>rfl;have i0:[r,q,t].idxOf r=0:=by simp
 have i1:[r,q,t].idxOf q=1:=by simp[List.idxOf_cons,beq_eq_false_iff_ne.2 h1]
 have i2:[r,q,t].idxOf t=2:=by simp[List.idxOf_cons,beq_eq_false_iff_ne.2 h2,beq_eq_false_iff_ne.2 h3]
 have d0:∀ p,Rl [r,q,t] (r::p)=0::p:=fun p=>by simp[Rl]
 have d1:∀ p,Rl [r,q,t] (q::p)=1::p:=fun p=>by simp[Rl,i1]
 have d2:∀ p,Rl [r,q,t] (t::p)=2::p:=fun p=>by simp[Rl,i2]
 have u0:∀ p,OB [r,q,t] (0::p)=r::p:=fun p=>by simp[OB]
 have u1:∀ p,OB [r,q,t] (1::p)=q::p:=fun p=>by simp[OB]
 have u2:∀ p,OB [r,q,t] (2::p)=t::p:=fun p=>by simp[OB]
 have jin:∀ {j:Nat},[r,q,t].idxOf j<3→j=r∨j=q∨j=t:=fun {j} hj=>by
  have:=(idx_mem (rs:=[r,q,t])).1 (by simpa using hj);simpa using this
 have key:=eV (H:=H) (L:=as' r q t) (H':=H) [r,q,t] 3 hS (by simp[h1,h2,h3]) (by simp) (fa1 d0 d1 d2 (fun _=>rfl) (fun _=>rfl) (fun _=>rfl)) (fa2 (fun p=>by simp[Oy]) (fun p=>by simp[Oy,i1]) (fun p=>by simp[Oy,i2])) ?_ ?_ (hx2 _) ?_ (fun i p h1 h2=>by simp at h2;omega) ?_
 ·rw[hx1] at key;exact key
 ·funext o;cases o with
  |nil=>rfl
  |cons i p=>
   by_cases hi:i<3
   ·simp only[Lm,if_pos hi];have h01:i=0∨i=1∨i=2:=by omega
    rcases h01 with rfl | rfl | rfl
    ·show(H (r::p)).ren _ _ 0=_;rw[hB];simp only[Bd,if_true];exact(F.ren d0 d1 d2 (fun _=>rfl) (fun _=>rfl) (fun _=>rfl) p).1
    ·show(H (q::p)).ren _ _ 0=_;rw[hC];simp only[Bd,if_true];rw[if_neg (by omega)];exact(F.ren d0 d1 d2 (fun _=>rfl) (fun _=>rfl) (fun _=>rfl) p).2.1
    ·show(H (t::p)).ren _ _ 0=_;rw[hD];simp only[Bd,if_true];rw[if_neg (by omega),if_neg (by omega)];exact(F.ren d0 d1 d2 (fun _=>rfl) (fun _=>rfl) (fun _=>rfl) p).2.2
   ·simp only[Lm,if_neg hi,Bd];rw[if_neg (by omega),if_neg (by omega),if_neg (by omega)];rfl
 ·intro j p hj;have R:=F.refs (P:=Oy [r,q,t] 3) (r:=r) (q:=q) (t:=t) (fun p=>by simp[Oy]) (fun p=>by simp[Oy,i1]) (fun p=>by simp[Oy,i2]) p;rcases jin hj with rfl | rfl | rfl
  ·rw[hB];exact R.1
  ·rw[hC];exact R.2.1
  ·rw[hD];exact R.2.2
 ·intro i p hi;have hi:i<3:=hi;have R:=F.refs (P:=Gb 3) (r:=0) (q:=1) (t:=2) (fun p=>by simp[Gb]) (fun p=>by simp[Gb]) (fun p=>by simp[Gb]) p;by_cases e0:i=0
  ·subst e0;simp only[Bd,if_true];exact R.1
  ·by_cases e1:i=1
   ·subst e1;simp only[Bd,if_true];rw[if_neg (by omega)];exact R.2.1
   ·have:i=2:=by omega
    subst this;simp only[Bd,if_true];rw[if_neg (by omega),if_neg (by omega)];exact R.2.2
 ·funext o;cases o with
  |nil=>rfl
  |cons j p=>
   by_cases hj:j=r
   ·subst hj;simp only[LB,Bd,if_true];rw[if_pos (by simp),i0,if_pos rfl,hd,hB];exact(F.ren u0 u1 u2 hd hd1 hd2 p).1
   ·by_cases hj2:j=q
    ·subst hj2;simp only[LB,Bd,if_true];rw[if_pos (by simp),i1,if_neg (by omega),if_pos rfl,hd1,hC];exact(F.ren u0 u1 u2 hd hd1 hd2 p).2.1
    ·by_cases hj3:j=t
     ·subst hj3;simp only[LB,Bd,if_true];rw[if_pos (by simp),i2,if_neg (by omega),if_neg (by omega),if_pos rfl,hd2,hD];exact(F.ren u0 u1 u2 hd hd1 hd2 p).2.2
     ·have:¬ [r,q,t].contains j=true:=by simp[hj,hj2,hj3]
      simp only[LB,if_neg this]
theorem SZ {as':Nat→Nat→Nat→List A} {F:u9} {x:A} {fo:Operand} {fs caps:List A} (r q t:Nat) (h1:r ≠ q) (h2:r ≠ t) (h3:q ≠ t) (hv0:evs s fo = .fnc g fs caps)
  (hx1:∀ g δ,x.ren g δ=x) (hx2:∀ D,x.refs D)
  (fa1:∀ {g:Nm→Nm} {δ:Nm→Nat} {r r' q q' t t':Nat},(∀ p,g (r::p)=r'::p)→(∀ p,g (q::p)=q'::p)→(∀ p,g (t::p)=t'::p)→(∀ p,δ (r::p)=0)→(∀ p,δ (q::p)=0)→(∀ p,δ (t::p)=0)→A.renL g δ (as' r q t)=as' r' q' t')
  (fa2:∀ {P:Nm→Prop} {r q t:Nat},(∀ p,P (r::p))→(∀ p,P (q::p))→(∀ p,P (t::p))→A.refsL P (as' r q t))
  (hS:SpecH P g 3 (as' 0 1 2) (ov 0 (F.B 0 1 2) (ov 1 (F.C 0 1 2) (ov 2 (F.D 0 1 2) (FZ [])))) x (ov 0 (F.B 0 1 2) (ov 1 (F.C 0 1 2) (ov 2 (F.D 0 1 2) (FZ [])))))
  (hB:∀ p,H (r::p)=F.B r q t p) (hC:∀ p,H (q::p)=F.C r q t p) (hD:∀ p,H (t::p)=F.D r q t p) (ha:fs++(aa.toList.map (evs s)++caps)=as' r q t) (hck:Ck un lg ⟨[([r],true),([q],true),([t],true)],[]⟩)
  (h:Am P K rest (A9 l ix ⟨[([r],true),([q],true),([t],true)],[]⟩ lg) (Sta.put ⟨s,H⟩ dd x H)) :
  Am P K (⟨dd,.call { callee:=.value fo,args:=aa,argTypes:=ts },none,nm,ix,un,l⟩::rest) lg ⟨s,H⟩:=by
 refine Vx hv0 ha .nil [([r],true),([q],true),([t],true)] [] (fun H2 hag=>?_) (fun o H2 ho=>rfl) hck h;have e1:∀ p,H2 (r::p)=F.B r q t p:=fun p=>by rw[hag (r::p) (by simp[TN,OO,List.isPrefixOf]),hB]
 have e2:∀ p,H2 (q::p)=F.C r q t p:=fun p=>by rw[hag (q::p) (by simp[TN,OO,List.isPrefixOf]),hC]
 have e3:∀ p,H2 (t::p)=F.D r q t p:=fun p=>by rw[hag (t::p) (by simp[TN,OO,List.isPrefixOf]),hD]
 obtain⟨E,hc,hE⟩:=dt r q t h1 h2 h3 hx1 hx2 fa1 fa2 hS e1 e2 e3;have hc3:QA P H2 g (as' r q t) x E:=by
  rcases hc with ⟨_,_,_,_,h5⟩ | ⟨_,_,_,h4⟩ | ⟨h1,_⟩
  ·cases h5
  ·cases h4
  ·exact h1 H2 (fun o _=>rfl)
 refine⟨hc3.1,fun c w I μ vs a b d e=>?_⟩;have:=hc3.2 c w I μ vs a b d e;rw[hE] at this;exact this
end
end Go.G
namespace Go.Proofs.YtndnlknocdangaaGreat
open Go Go.G Go.Proofs Go.PL
abbrev jA (x:Bool × List T):A:=.sl x.1 (x.2.map tA)
def P1 (v w:Nat) (C:List Cf) (at':C3) (o:T) (n vo:Nat) (out:List T) (m h:Bool × List T) (vs:Nat):Qr:=⟨fun r _=>(NB v w C).F r,fun r q p=>if p=[] then ⟨vs,.cells [.pob [r] v 0,Dh at',iv o.kind,DL o.words,BF o.kids,iv n,.osl [q,0] vo 3 0 out.length,jA m,jA h]⟩ else if p=[0] then ⟨vo,.arr 3 (out.map tA)⟩ else ⟨0,.none⟩,fun {g δ r r' q q'} h1 h2 h3 h4 p=>by
  refine⟨(NB v w C).ren h1 h2 p,?_⟩;by_cases hp:p=[]
  ·simp only[if_pos hp];exact Fam.cells_ren (by simp[A.renL,A.ren,h1,h2,h3,h4])
  ·by_cases hp2:p=[0]
   ·simp only[if_neg hp,if_pos hp2];refine Fam.arr_ren ?_;simp only[Cg,List.map_map];exact List.map_congr_left fun x _=>by simp[A.ren,A.renL]
   ·simp only[if_neg hp,if_neg hp2];rfl,fun {D r q} h1 h2 p=>by
  refine⟨(NB v w C).refs h1 p,?_⟩;by_cases hp:p=[]
  ·simp only[if_pos hp];simp[Ob.refs,A.refsL,A.refs,h1,h2]
  ·by_cases hp2:p=[0]
   ·simp only[if_neg hp,if_pos hp2,Ob.refs,refsL_iff];intro y hy;obtain⟨x,_,rfl⟩:=List.mem_map.1 hy;simp[A.refs,A.refsL]
   ·simp only[if_neg hp,if_neg hp2];trivial⟩
@[simp] theorem AhD {v w:Nat} {C:List Cf} {at':C3} {o:T} {n vo:Nat} {out:List T} {m h:Bool × List T} {vs r q:Nat} {p:Nm}:(P1 v w C at' o n vo out m h vs).B r q p=(NB v w C).F r p:=rfl
@[simp] theorem AhO {v w:Nat} {C:List Cf} {at':C3} {o:T} {n vo:Nat} {out:List T} {m h:Bool × List T} {vs r q:Nat} {p:Nm}:(P1 v w C at' o n vo out m h vs).C r q p=if p=[] then ⟨vs,.cells [.pob [r] v 0,Dh at',iv o.kind,DL o.words,BF o.kids,iv n,.osl [q,0] vo 3 0 out.length,jA m,jA h]⟩ else if p=[0] then ⟨vo,.arr 3 (out.map tA)⟩ else ⟨0,.none⟩:=rfl
def aG (S:Qr) (vs:Nat):u9:=⟨fun r q t p=>if p=[] then ⟨1,.cells [.pob [q] vs 0]⟩ else ⟨0,.none⟩,fun r q t p=>S.C t q p,fun r q t p=>S.B t q p,fun {g δ r r' q q' t t'} h1 h2 h3 d1 d2 d3 p=>by
  refine⟨?_,(S.ren h3 d3 h2 d2 p).2,(S.ren h3 d3 h2 d2 p).1⟩;by_cases hp:p=[]
  ·simp only[if_pos hp];exact Fam.cells_ren (by simp[A.renL,A.ren,h2,d2])
  ·simp only[if_neg hp];rfl,fun {D r q t} h1 h2 h3 p=>by
  refine⟨?_,(S.refs h3 h2 p).2,(S.refs h3 h2 p).1⟩;by_cases hp:p=[]
  ·simp only[if_pos hp];simp[Ob.refs,A.refsL,A.refs,h2]
  ·simp only[if_neg hp];trivial⟩
@[simp] theorem Ahz {S:Qr} {vs r q t:Nat} {p:Nm}:(aG S vs).B r q t p=if p=[] then ⟨1,.cells [.pob [q] vs 0]⟩ else ⟨0,.none⟩:=rfl
@[simp] theorem Ahs {S:Qr} {vs r q t:Nat} {p:Nm}:(aG S vs).C r q t p=S.C t q p:=rfl
@[simp] theorem AhG {S:Qr} {vs r q t:Nat} {p:Nm}:(aG S vs).D r q t p=S.B t q p:=rfl
theorem P9 {v w:Nat} {C:List Cf} {at':C3} {o:T} {n vo:Nat} {out:List T} {m h:Bool × List T} {vs:Nat} (b:Bool) (l:List T) :
  SpecH Tryz.prog 134 3 [.sl b (l.map tA),.pob [0] 1 0] (ov 0 ((aG (P1 v w C at' o n vo out m h vs) vs).B 0 1 2) (ov 1 ((aG (P1 v w C at' o n vo out m h vs) vs).C 0 1 2) (ov 2 ((aG (P1 v w C at' o n vo out m h vs) vs).D 0 1 2) (FZ [])))) (tX (.mk o.kind [] l)) (ov 0 ((aG (P1 v w C at' o n vo out m h vs) vs).B 0 1 2) (ov 1 ((aG (P1 v w C at' o n vo out m h vs) vs).C 0 1 2) (ov 2 ((aG (P1 v w C at' o n vo out m h vs) vs).D 0 1 2) (FZ [])))):=by
 refine MI MM (by simp) fun w0 I0 M0 m0 hM=>?_;unfold HY;simp;generalize hH:ov 0 ((aG (P1 v w C at' o n vo out m h vs) vs).B 0 1 2) (ov 1 ((aG (P1 v w C at' o n vo out m h vs) vs).C 0 1 2) (ov 2 ((aG (P1 v w C at' o n vo out m h vs) vs).D 0 1 2) (FZ [([3],⟨1,.cells [iv o.kind,.sl true [],.sl b (l.map tA)]⟩)])))=H;have h3:H [3]=⟨1,.cells [iv o.kind,.sl true [],.sl b (l.map tA)]⟩:=by rw[← hH];simp
 obtain⟨H2,g1,g2⟩:=I5 (c:=DC Tryz.prog w0 I0 M0 11 m0) (s:=lk [(3,.pob [3] 1 0)]) (H:=H) (fun _=>False) (fun _ _ _ h=>h.elim) (r0:=3) (p0:=[]) (by simp) h3 (cs':=Xz (.mk o.kind [] l)) (by simp[A.ones]) (fun H1 _=>⟨Ad rfl,An,An,trivial⟩);refine Ib g1 (SV (r0:=tX (.mk o.kind [] l)) (by simp[E4]) rfl fun i p hi=>?_);have e1:=g2 i p (by simp);dsimp only;rw[AE (by simp;omega),e1,← hH];by_cases e0:i=0
 ·subst e0;simp
 ·by_cases e1:i=1
  ·subst e1;simp
  ·have:i=2:=by omega
   subst this;simp
theorem ur {l m:List T}:(decide (l.length=m.length)&&(l.zip m).all fun p=>Ln p.1 p.2)=true ↔ l.map Ag=m.map Ag:=by
 induction l generalizing m with
 |nil=>cases m<;>simp
 |cons x l ih=>
  cases m with
  |nil=>simp
  |cons y m=>
   have:=ih (m:=m);simp only[Bool.and_eq_true,decide_eq_true_eq] at this ⊢;rw[List.zip_cons_cons,List.all_cons,Bool.and_eq_true,List.map_cons,List.map_cons,List.cons.injEq,← this,eqT_iff];simp only[List.length_cons,Nat.add_right_cancel_iff];constructor
   ·rintro⟨a,b,c⟩;exact⟨b,a,c⟩
   ·rintro⟨b,a,c⟩;exact⟨a,b,c⟩
noncomputable def Qf (l m:List T):Bool:=decide (l.length=m.length)&&(l.zip m).all fun p=>Ln p.1 p.2
theorem eqLs_iff {l m:List T}:Qf l m=true ↔ l.map Ag=m.map Ag:=ur
theorem Wb {l m:List T} (he:l.length=m.length):Qf l m=true ↔ ∀ k,k<l.length→Ln (l.getD k T0) (m.getD k T0)=true:=by
 rw[eqLs_iff];constructor
 ·intro h k hk;have:=congrArg (fun x=>x.getD k T0) h;simp only[Fi] at this;exact eqT_iff.2 this
 ·intro h;refine List.ext_getElem (by simp[he]) fun k h1 h2=>?_;have hk:k<l.length:=by simpa using h1
  have hk2:k<m.length:=by omega
  have:=eqT_iff.1 (h k hk);simpa[hk,hk2] using this
variable {n0:Nat} {w0:World} {I0:Nat→Prop} {Q:Exit→Sta→Prop}
theorem xo {l m:List T} (hl:∀ t,t ∈ l→AK t) (hm:∀ t,t ∈ m→AK t) (he:l.length=m.length) (hb:l.length≤10000000000000) (hq:Qf l m=true→∀ st H,Q (.exit 0) ⟨lk ([(1,BF m),(2,.fnc 57 [] [])]++st),H⟩) (hf:Qf l m=false→∀ H,Q .ret ⟨lk [(6,bv false)],H⟩):∀ (j i:Nat) (H:Hp),i+j=l.length→(∀ k,k<i→Ln (l.getD k T0) (m.getD k T0)=true) →
  LoopC (cx Tryz.prog w0 I0 n0) Aj Q ⟨lk [(1,BF m),(2,.fnc 57 [] []),(15,BF l),(16,iv l.length),(17,iv i)],H⟩:=by
 intro j;induction j with
 |zero=>
  intro i H hj hp;have:i=l.length:=by omega
  subst this;refine Ab Ai Aj.eq_1 ?_;simp;have:=hq ((Wb he).2 hp) [(15,BF l),(16,iv l.length),(17,iv l.length),(18,bv false)] H;simpa using this
 |succ j ih=>
  intro i H hj hp;have h1:i<l.length:=by omega
  have h2:i<m.length:=by omega
  have ew:=AO i;have E:=HF (hl _ (Dg h1)) (hm _ (Dg h2));have eg:Ln (l.getD i T0) (m.getD i T0)=Ln l[i] m[i]:=by simp[h1,h2]
  refine Ab Ai Aj.eq_1 ?_;cases hc:Ln l[i] m[i] with
  |true=>
   rw[hc] at E;simp[h1,h2,Aa];refine LI rfl E (by simp) ?_;simp[ew];refine ih (i+1) _ (by omega) fun k hk=>?_;by_cases e:k=i
   ·subst e;rw[eg,hc]
   ·exact hp k (by omega)
  |false=>
   rw[hc] at E;simp[h1,h2,Aa];refine LI rfl E (by simp) ?_;simp[ew];refine hf ?_ _;cases hx:Qf l m with
   |false=>rfl
   |true=>
    have:=(Wb he).1 hx i h1;rw[eg,hc] at this;cases this
theorem nT {l m:List T} (hl:∀ t,t ∈ l→AK t) (hm:∀ t,t ∈ m→AK t) (hb:l.length≤10000000000000):G.Spec Tryz.prog 127 [BF l,BF m,.fnc 57 [] []] (bv (Qf l m)):=by
 refine Ak Bo (by simp) fun w0 I0=>?_;unfold AN;by_cases he:l.length=m.length
 ·simp[he];refine LoopC.le (Ao [(1,BF m),(2,.fnc 57 [] []),(15,BF l),(16,iv l.length),(17,iv (0:Nat))] (by simp[he])) ?_;refine xo hl hm he hb (fun hx st H=>?_) (fun hx H=>?_) l.length 0 _ (by omega) (fun k hk=>by omega)
  ·rw[hx];simp;exact Ad rfl
  ·rw[hx];simp;exact Ad rfl
 ·have hx:Qf l m=false:=by
   cases hx:Qf l m with
   |false=>rfl
   |true=>exact absurd (by simpa using congrArg List.length (eqLs_iff.1 hx)) he
  have hi:¬ ((l.length:Int)=m.length):=by omega
  rw[hx];simp[he,hi];exact Ad rfl
noncomputable def GM (mine hers:List T):Option (List T):=if mine=[] then some hers else if Qf mine hers=true then some hers else if hers=[] then some mine else none
noncomputable def Ty (mine hers:List T):Nat:=if (GM mine hers).isSome=true then 1 else 0
theorem bz (at':C3) (kind:Int) (n:Nat) (mine hers:List T):(∀ l,GM mine hers=some l→FB at' kind n mine hers=(l.map Ag,[]))∧(GM mine hers=none→FB at' kind n mine hers=([],[⟨at'++[(2,(n:Int))],Ag (.mk kind [] []),Ag (.mk kind [] mine),Ag (.mk kind [] hers)⟩])):=by
 unfold GM FB;by_cases h1:mine=[]
 ·simp[h1]
 ·by_cases h2:Qf mine hers=true
  ·simp[h1,h2,eqLs_iff.1 h2]
  ·have h2':¬ mine.map Ag=hers.map Ag:=fun h=>h2 (eqLs_iff.2 h);by_cases h3:hers=[]
   ·subst h3;simp[h1,h2,h2']
   ·simp[h1,h2,h2',h3]
theorem V0 {v w:Nat} {C:List Cf} {at':C3} {o:T} {n vo:Nat} {out mine hers:List T} {vs:Nat} (hm:∀ t,t ∈ mine→AK t) (hh:∀ t,t ∈ hers→AK t) (wo:BG o.kind) (lm:mine.length≤1000000) (lh:hers.length≤1000000) (lo:out.length≤1000000000) (hat:at'.length≤900000) (hC:C.length≤100000000000) :
  JO Tryz.prog 87 (fun r q=>[.pob [q] vs 0]) (P1 v w C at' o n vo out (false,mine) (false,hers) vs) (fun _ _=>.tup []) (P1 v w (C++(FB at' o.kind n mine hers).2) at' o n (vo+Ty mine hers) (out++(GM mine hers).getD []) (true,[]) (true,[]) vs):=by
 have E:=nT hm hh (by omega);have G:=bz at' o.kind n mine hers;have hml:(mine.length:Int)=0 ↔ mine=[]:=by rw[← List.length_eq_zero_iff];omega
 have hhl:(hers.length:Int)=0 ↔ hers=[]:=by rw[← List.length_eq_zero_iff];omega
 refine F4 PS (by simp) (Az (JE Au) Er) (Bi (A4 Ah)) fun w0 I0 M0 m0=>?_;unfold JD;by_cases h1:mine=[]
 ·have hR:GM mine hers=some hers:=if_pos h1;rw[G.1 _ hR,Ty,hR];subst h1;simp;refine Bs rfl ?_;simp[Aa,splice];refine⟨by omega,?_⟩;refine Dy rfl rfl (fun p=>?_) (fun p=>?_)
  ·simp[Aa]
  ·by_cases p1:p=[]
   ·subst p1;simp[Aa]
   ·by_cases p2:p=[0]
    ·subst p2;simp[Aa,AX]
    ·simp[Aa,p1,p2]
 ·have hml':¬ (mine.length:Int)=0:=fun h=>h1 (hml.1 h);by_cases h2:Qf mine hers=true
  ·have hR:GM mine hers=some hers:=by rw[GM,if_neg h1,if_pos h2]
   rw[G.1 _ hR,Ty,hR];rw[h2] at E;simp[h1,hml'];rw[Ay];simp[h1,hml'];refine Af E (by simp) ?_;simp[Aa,splice];refine⟨by omega,?_⟩;refine Dy rfl rfl (fun p=>?_) (fun p=>?_)
   ·simp[Aa]
   ·by_cases p1:p=[]
    ·subst p1;simp[Aa]
    ·by_cases p2:p=[0]
     ·subst p2;simp[Aa,AX]
     ·simp[Aa,p1,p2]
  ·have h2f:Qf mine hers=false:=by
    cases h:Qf mine hers with
    |false=>rfl
    |true=>exact absurd h h2
   rw[h2f] at E;by_cases h3:hers=[]
   ·have hR:GM mine hers=some mine:=by rw[GM,if_neg h1,if_neg h2,if_pos h3]
    rw[G.1 _ hR,Ty,hR];subst h3;simp[h1,hml'];rw[Ay];simp[h1,hml'];refine Af E (by simp) ?_;simp[Aa,splice];refine⟨by omega,?_⟩;refine Dy rfl rfl (fun p=>?_) (fun p=>?_)
    ·simp[Aa]
    ·by_cases p1:p=[]
     ·subst p1;simp[Aa]
     ·by_cases p2:p=[0]
      ·subst p2;simp[Aa,AX]
      ·simp[Aa,p1,p2]
   ·have hR:GM mine hers=none:=by rw[GM,if_neg h1,if_neg h2,if_neg h3]
    have hhl':¬ (hers.length:Int)=0:=fun h=>h3 (hhl.1 h);rw[G.2 hR,Ty,hR];have F:=Io at' 2 n (by omega);simp[h1,hml'];rw[Ay];simp[h1,hml'];refine Af E (by simp) ?_;simp[Aa,h3,hhl'];refine Af F (by simp) ?_;simp;have B1:=P9 (v:=v) (w:=w) (C:=C) (at':=at') (o:=o) (n:=n) (vo:=vo) (out:=out) (m:=(false,mine)) (h:=(false,hers)) (vs:=vs) true [];have B2:=P9 (v:=v) (w:=w) (C:=C) (at':=at') (o:=o) (n:=n) (vo:=vo) (out:=out) (m:=(false,mine)) (h:=(false,hers)) (vs:=vs) false mine;have B3:=P9 (v:=v) (w:=w) (C:=C) (at':=at') (o:=o) (n:=n) (vo:=vo) (out:=out) (m:=(false,mine)) (h:=(false,hers)) (vs:=vs) false hers;have wf1:∀ l:List T,(∀ t,t ∈ l→AK t)→l.length≤1000000→AK (.mk o.kind [] l):=fun l h1 h2=>wfT_iff.2 ⟨wo,by simp,by simp,by show l.length*56≤_;omega,h1⟩;have CL:=N8 (l:=at'++[(2,(n:Int))]) (b:=.mk o.kind [] []) (o:=.mk o.kind [] mine) (t:=.mk o.kind [] hers) (by simp;omega) (wf1 [] (fun t ht=>nomatch ht) (by simp)) (wf1 mine hm lm) (wf1 hers hh lh) v w hC;have hB:∀ p,(ov 0 ((P1 v w C at' o n vo out (false,mine) (false,hers) vs).B 0 1) (ov 1 ((P1 v w C at' o n vo out (false,mine) (false,hers) vs).C 0 1) (FZ [([2],⟨1,.cells [.pob [1] vs 0]⟩)]))) (2::p)=(aG (P1 v w C at' o n vo out (false,mine) (false,hers) vs) vs).B 2 1 0 p:=fun p=>by
     by_cases hp:p=[]
     ·subst hp;simp
     ·simp[hp,FZ,Ne.symm hp]
    have fa1:∀ (b:Bool) (l:List T) {g:Nm→Nm} {δ:Nm→Nat} {r r' q q' t t':Nat},(∀ p,g (r::p)=r'::p)→(∀ p,g (q::p)=q'::p)→(∀ p,g (t::p)=t'::p)→(∀ p,δ (r::p)=0)→(∀ p,δ (q::p)=0)→(∀ p,δ (t::p)=0)→A.renL g δ [.sl b (l.map tA),.pob [r] 1 0]=[.sl b (l.map tA),.pob [r'] 1 0]:=fun b l _ _ _ _ _ _ _ _ h1 _ _ d1 _ _=>by simp[A.renL,A.ren,h1,d1]
    have fa2:∀ (b:Bool) (l:List T) {P:Nm→Prop} {r q t:Nat},(∀ p,P (r::p))→(∀ p,P (q::p))→(∀ p,P (t::p))→A.refsL P [.sl b (l.map tA),.pob [r] 1 0]:=fun b l _ _ _ _ h1 _ _=>by simp[A.refsL,A.refs,h1]
    refine SZ (as':=fun r q t=>[.sl true [],.pob [r] 1 0]) (F:=aG (P1 v w C at' o n vo out (false,mine) (false,hers) vs) vs) (fs:=[]) (caps:=[.pob [2] 1 0]) 2 1 0 (by decide) (by decide) (by decide) (by simp) (fun g δ=>by simp[A.ren,A.renL]) (fun D=>by simp[A.refs,A.refsL]) (fa1 true []) (fa2 true []) B1 hB (fun p=>by simp) (fun p=>by simp) (by simp) (by simp) ?_;simp;refine SZ (as':=fun r q t=>[.sl false (mine.map tA),.pob [r] 1 0]) (F:=aG (P1 v w C at' o n vo out (false,mine) (false,hers) vs) vs) (fs:=[]) (caps:=[.pob [2] 1 0]) 2 1 0 (by decide) (by decide) (by decide) (by simp) (fun g δ=>by simp[A.ren,A.renL]) (fun D=>by simp[A.refs,A.refsL]) (fa1 false mine) (fa2 false mine) B2 hB (fun p=>by simp) (fun p=>by simp) (by simp) (by simp) ?_;simp;refine SZ (as':=fun r q t=>[.sl false (hers.map tA),.pob [r] 1 0]) (F:=aG (P1 v w C at' o n vo out (false,mine) (false,hers) vs) vs) (fs:=[]) (caps:=[.pob [2] 1 0]) 2 1 0 (by decide) (by decide) (by decide) (by simp) (fun g δ=>by simp[A.ren,A.renL]) (fun D=>by simp[A.refs,A.refsL]) (fa1 false hers) (fa2 false hers) B3 hB (fun p=>by simp) (fun p=>by simp) (by simp) (by simp) ?_;simp;refine Ar 0 CL (fun p=>by simp) (by simp) (by simp[List.isPrefixOf]) ?_;simp[Aa,splice];refine Dy rfl rfl (fun p=>?_) (fun p=>?_)
    ·simp[Aa]
    ·by_cases p1:p=[]
     ·subst p1;simp[Aa]
     ·by_cases p2:p=[0]
      ·subst p2;simp[Aa]
      ·simp[Aa,p1,p2]
def aH (e:E) (t:T):Prop:=G.Spec Tryz.prog 54 [eX e,tX t] (tX (IV e t))∧AK (IV e t)∧Ag (IV e t)=IV e t
theorem Ph:Ag T0=T0:=rfl
def UtS (f:Nat) (at':C3) (o:T) (n:Nat) (p q:OP) (us:List T) (cs:List Cf):Prop:=∀ (v w:Nat) (C:List Cf) (vo:Nat) (out:List T) (vs:Nat),C.length+cs.length≤100000000000→out.length≤1000000000 →
 JO Tryz.prog 88 (fun r q'=>[.pob [q'] vs 0,oX p,oX q]) (P1 v w C at' o n vo out (true,[]) (true,[]) vs) (fun _ _=>.tup []) (P1 v w (C++cs) at' o (n+1) (vo+us.length) (out++us) (true,[]) (true,[]) vs)
theorem bU {f:Nat} {at':C3} (hat:at'.length≤900000) {o:T} (wo:AK o) {n:Nat} (hn:n<o.kids.length) (hn2:n≤1000000000) {p q:OP} (hp:(p.kind=0∧p.e=E0)∨(p.kind=1∧p.e=E0)∨(p.kind=3∧aH p.e o.kids[n])) (hq:(q.kind=0∧q.e=E0)∨(q.kind=1∧q.e=E0)∨(q.kind=3∧aH q.e o.kids[n])) {u:T} (hu:oh f (at'++[(0,(n:Int))]) o.kids[n] p.e q.e u) :
  ∃ us,(∀ t,t ∈ us→AK t)∧us.length≤1∧us.map Ag=(Cn (mg f) (at'++[(0,(n:Int))]) o.kids[n] (JM p) (JM q)).1∧UtS f at' o n p q us (Cn (mg f) (at'++[(0,(n:Int))]) o.kids[n] (JM p) (JM q)).2:=by
 have wk:AK o.kids[n]:=(wfT_iff.1 wo).ks _ (Dg hn);have F:=Io at' 0 n (by omega);have ew:=AO n;by_cases a1:p.kind=1∧q.kind=3
 ·have e1:JM p = .del T0:=by unfold JM;rw[if_neg (by omega),if_pos a1.1]
  have e2:JM q = .desc q.e:=by unfold JM;rw[if_neg (by omega),if_neg (by omega)]
  have D:aH q.e o.kids[n]:=by
   rcases hq with h | h | h
   ·omega
   ·omega
   ·exact h.2
  rw[e1,e2];refine⟨[o.kids[n]],fun t ht=>by rw[List.mem_singleton.1 ht];exact wk,by simp,rfl,fun v w C vo out vs hC ho=>?_⟩;have CL:=Lz (l:=at'++[(0,(n:Int))]) (b:=o.kids[n]) (o:=T0) (t:=IV q.e o.kids[n]) true false (by simp;omega) wk dR D.2.1 v w (C:=C) (by simp[Cn] at hC;omega);rw[Ph,D.2.2] at CL;have D1:=D.1;simp only[Cn];refine F4 EA (by simp) (Az (JE Au) (Az (Bi (Gg p)) (Az (Bi (Gg q)) Er))) (Bi (A4 Ah)) fun w0 I0 M0 m0=>?_;unfold Dt;simp[hn];refine Af F (by simp) ?_;simp[a1.1,a1.2,Aa];refine Af D1 (by simp) ?_;simp;refine Ar 0 CL (fun p=>by simp) (by simp) (by simp[List.isPrefixOf]) ?_;simp[Aa,splice];refine⟨by omega,by omega,?_⟩;refine Dy rfl rfl (fun p=>?_) (fun p=>?_)
  ·simp[Aa]
  ·by_cases p1:p=[]
   ·subst p1;simp[Aa,ew]
   ·by_cases p2:p=[0]
    ·subst p2;simp[Aa,AX]
    ·simp[Aa,p1,p2]
 by_cases a2:p.kind=3∧q.kind=1
 ·have e1:JM q = .del T0:=by unfold JM;rw[if_neg (by omega),if_pos a2.2]
  have e2:JM p = .desc p.e:=by unfold JM;rw[if_neg (by omega),if_neg (by omega)]
  have D:aH p.e o.kids[n]:=by
   rcases hp with h | h | h
   ·omega
   ·omega
   ·exact h.2
  rw[e1,e2];refine⟨[o.kids[n]],fun t ht=>by rw[List.mem_singleton.1 ht];exact wk,by simp,rfl,fun v w C vo out vs hC ho=>?_⟩;have CL:=Lz (l:=at'++[(0,(n:Int))]) (b:=o.kids[n]) (o:=IV p.e o.kids[n]) (t:=T0) false true (by simp;omega) wk D.2.1 dR v w (C:=C) (by simp[Cn] at hC;omega);rw[Ph,D.2.2] at CL;have D1:=D.1;simp only[Cn];refine F4 EA (by simp) (Az (JE Au) (Az (Bi (Gg p)) (Az (Bi (Gg q)) Er))) (Bi (A4 Ah)) fun w0 I0 M0 m0=>?_;unfold Dt;simp[hn];refine Af F (by simp) ?_;simp[a2.1,a2.2,Aa];refine Af D1 (by simp) ?_;simp;refine Ar 0 CL (fun p=>by simp) (by simp) (by simp[List.isPrefixOf]) ?_;simp[Aa,splice];refine⟨by omega,by omega,?_⟩;refine Dy rfl rfl (fun p=>?_) (fun p=>?_)
  ·simp[Aa]
  ·by_cases p1:p=[]
   ·subst p1;simp[Aa,ew]
   ·by_cases p2:p=[0]
    ·subst p2;simp[Aa,AX]
    ·simp[Aa,p1,p2]
 by_cases a3:p.kind=1∨q.kind=1
 ·have hM:Cn (mg f) (at'++[(0,(n:Int))]) o.kids[n] (JM p) (JM q)=([],[]):=by
   rcases hp with h | h | h<;>rcases hq with g | g | g<;>(try omega)<;>simp[JM,h.1,g.1,Cn]
  rw[hM];refine⟨[],(fun t ht=>by simp at ht),by simp,rfl,fun v w C vo out vs hC ho=>?_⟩;refine F4 EA (by simp) (Az (JE Au) (Az (Bi (Gg p)) (Az (Bi (Gg q)) Er))) (Bi (A4 Ah)) fun w0 I0 M0 m0=>?_;unfold Dt;simp[hn];refine Af F (by simp) ?_;by_cases b1:p.kind=1
  ·have b2:¬ q.kind=3:=fun h=>a1 ⟨b1,h⟩;simp[b1,b2,Aa];refine Dy rfl rfl (fun p=>?_) (fun p=>?_)
   ·simp[Aa]
   ·by_cases p1:p=[]
    ·subst p1;simp[Aa,ew]
    ·simp[Aa,p1]
  ·have b2:q.kind=1:=by omega
   have b3:¬ p.kind=3:=fun h=>a2 ⟨h,b2⟩;simp[b1,b2,b3,Aa];refine Dy rfl rfl (fun p=>?_) (fun p=>?_)
   ·simp[Aa]
   ·by_cases p1:p=[]
    ·subst p1;simp[Aa,ew]
    ·simp[Aa,p1]
 ·have b1:¬ p.kind=1:=fun h=>a3 (.inl h);have b2:¬ q.kind=1:=fun h=>a3 (.inr h);have hM:Cn (mg f) (at'++[(0,(n:Int))]) o.kids[n] (JM p) (JM q)=([(mg f (at'++[(0,(n:Int))]) o.kids[n] p.e q.e).1],(mg f (at'++[(0,(n:Int))]) o.kids[n] p.e q.e).2):=by
   rcases hp with h | h | h<;>rcases hq with g | g | g<;>(try omega)
   ·rw[h.2,g.2];simp[JM,h.1,g.1,Cn,eU]
   ·rw[h.2];simp[JM,h.1,g.1,Cn,eU]
   ·rw[g.2];simp[JM,h.1,g.1,Cn,eU]
   ·simp[JM,h.1,g.1,Cn,eU]
  obtain⟨u1,u2,u3⟩:=hu;rw[hM];refine⟨[u],fun t ht=>by rw[List.mem_singleton.1 ht];exact u1,by simp,by simp[u2],fun v w C vo out vs hC ho=>?_⟩;have S:=u3 v w C hC;refine F4 EA (by simp) (Az (JE Au) (Az (Bi (Gg p)) (Az (Bi (Gg q)) Er))) (Bi (A4 Ah)) fun w0 I0 M0 m0=>?_;unfold Dt;simp[hn];refine Af F (by simp) ?_;simp[b1,b2,Aa];refine Ar 0 S (fun p=>by simp) (by simp) (by simp[List.isPrefixOf]) ?_;simp[Aa,splice];refine⟨by omega,by omega,?_⟩;refine Dy rfl rfl (fun p=>?_) (fun p=>?_)
  ·simp[Aa]
  ·by_cases p1:p=[]
   ·subst p1;simp[Aa,ew]
   ·by_cases p2:p=[0]
    ·subst p2;simp[Aa,AX]
    ·simp[Aa,p1,p2]
end Go.Proofs.YtndnlknocdangaaGreat
namespace Go.G
open Go
theorem cX {c:Cx} {s:Nat→A} {H:Hp} (R:Nat→Prop) [DecidablePred R] (hM:∀ r p b,R r→¬ c.M0 (r::p) b) {r0:Nat} {p0:Nm} (hr0:¬ R r0) {u:Nat} {cs cs':List A} (hd:H (r0::p0)=⟨u,.cells cs⟩) (h1:A.ones cs'=true)
  (hf:∀ H1:Hp,(∀ r p,R r→H1 (r::p)=H (r::p))→cs.length=cs'.length∧∀ (k:Nat) (x y:A),cs[k]? = some x→cs'[k]? = some y→y=x∨I7 H1 x y) :
  ∃ H2:Hp,Le c ⟨s,H⟩ ⟨s,AI H2 (r0::p0) ⟨u,.cells cs'⟩⟩∧∀ r p,¬ R r→H2 (r::p)=H (r::p):=by
 refine⟨fun o=>match o with | r::p=>if R r then ⟨(H (r::p)).u,.none⟩ else H (r::p) | []=>H [],fun a w I μ hs=>?_,fun r p h=>if_neg h⟩;have part1:Part H (fun o=>match o with | r::p=>if R r then H (r::p) else ⟨(H (r::p)).u,.none⟩ | []=>⟨(H []).u,.none⟩):=fun o=>by
  cases o with
  |nil=>exact .inr rfl
  |cons r p=>
   by_cases hr:R r
   ·exact .inl (by simp[hr])
   ·exact .inr (by simp[hr])
 have part2:Part H (fun o=>match o with | r::p=>if R r then ⟨(H (r::p)).u,.none⟩ else H (r::p) | []=>H []):=fun o=>by
  cases o with
  |nil=>exact .inl rfl
  |cons r p=>
   by_cases hr:R r
   ·exact .inr (by simp[hr])
   ·exact .inl (by simp[hr])
 have h3:=hs.sim.freezeAll part1 part2 (fun o=>by
  cases o with
  |nil=>exact .inl rfl
  |cons r p=>
   by_cases hr:R r
   ·exact .inr (by simp[hr])
   ·exact .inl (by simp[hr])) (fun o b h=>by
  cases o with
  |nil=>exact absurd rfl h
  |cons r p=>
   by_cases hr:R r
   ·exact hM r p b hr
   ·exact absurd (by simp[hr]) h)
 have hd2:(fun o=>match o with | r::p=>if R r then (⟨(H (r::p)).u,.none⟩:VOb) else H (r::p) | []=>H []:Hp) (r0::p0)=⟨u,.cells cs⟩:=by
  show(if R r0 then _ else _)=_;rw[if_neg hr0,hd]
 have hob:=hs.sim.ob (r0::p0);have hob:OSim w I μ (μ (r0::p0)) (.cells cs):=by
  have e:(⟨s,H⟩:Sta).H (r0::p0)=⟨u,.cells cs⟩:=hd;rw[e] at hob;exact hob
 obtain⟨vs,k1,k2,k3⟩:=hob;obtain⟨hl,hg⟩:=(hf (fun o=>match o with | r::p=>if R r then H (r::p) else ⟨(H (r::p)).u,.none⟩ | []=>⟨(H []).u,.none⟩) fun r p h=>if_pos h);have hB:DM (μ (r0::p0)) ((fun o=>match o with | r::p=>if R r then (⟨(H (r::p)).u,.none⟩:VOb) else H (r::p) | []=>H []:Hp) (r0::p0)).ob=true:=by rw[hd2];rfl
 obtain⟨hx2,hs2⟩:=h3.upd (Fc w none) (r0::p0) (μ (r0::p0)) (.cells cs') (.inl rfl) (.inr rfl) (fun _=>.inr ⟨hB,rfl⟩) (fun _=>h3.tag _ hB) (fun hx2=>by
  refine⟨vs,k1,by rw[k2,hl],fun k y hk=>?_⟩;rw[Fj];have hlt:k<cs.length:=by have:=(List.getElem?_eq_some_iff.1 hk).1;omega
  have hx:cs[k]? = some cs[k]:=List.getElem?_eq_getElem hlt;simp only[A.ones,List.all_eq_true] at h1;refine⟨h1 y (List.mem_of_getElem? hk),?_⟩;rcases hg k _ y hx hk with e | hfx
  ·rw[e];exact(k3 k _ hx).2.mono0 (fun b h=>.inl h) (fun _ _=>rfl)
  ·exact(hfx c w I μ _ (hs.sim.part part1) (k3 k _ hx).2).ofI)
 have hu:(μ (r0::p0)).u=u:=by exact(h3.ver (r0::p0)).trans (congrArg VOb.u hd2)
 rw[hu] at hs2;exact⟨_,_,hs2,hs.size,hs.defers,fun t=>hx2.rel ((hs.rel t).mono0 (fun b h=>.inl h) (fun _ _=>rfl))⟩
end Go.G
namespace Go.Proofs.YtndnlknocdangaaGreat
open Go Go.G Go.Proofs Go.PL
structure LsK (v w:Nat) (C:List Cf) (at':C3) (o:T) (n vo:Nat) (out:List T) (H:Hp):Prop where
 f:∀ p,H (0::p)=(P1 v w C at' o n vo out (true,[]) (true,[]) 1).B 0 5 p
 s:∀ p,H (5::p)=(P1 v w C at' o n vo out (true,[]) (true,[]) 1).C 0 5 p
 o:H [1]=⟨1,.cells (Xz o)⟩
 z:H [4]=⟨1,.cells [iv 0,.sl true [],.sl true []]⟩
def tl:Pc→OP × OP
 |.a o=>(o,O0)
 |.b o=>(O0,o)
 |.both o o'=>(o,o')
theorem oE {f:Nat} {at':C3} (hat:at'.length≤900000) {o:T} (wo:AK o) (hko:o.kids.length≤1000000) {o1 o2:OP} {l:List Pc} {k m:Nat} (hm:m≤10000000):∀ (ks:List T) (i n:Nat),i+ks.length=m→ks=(o.kids.drop n).take ks.length→n+ks.length≤o.kids.length →
  (∀ (i:Nat) (h:i<o.kids.length),o.kids[i] ∈ ks→((o1.kind=0∧o1.e=E0)∨(o1.kind=1∧o1.e=E0)∨(o1.kind=3∧aH o1.e o.kids[i]))∧((o2.kind=0∧o2.e=E0)∨(o2.kind=1∧o2.e=E0)∨(o2.kind=3∧aH o2.e o.kids[i]))∧∃ u,oh f (at'++[(0,(i:Int))]) o.kids[i] o1.e o2.e u) →
  ∃ us,(∀ t,t ∈ us→AK t)∧us.length≤ks.length∧us.map Ag=(Kq (mg f) at' o1 o2 ks n).1∧∀ {n0:Nat} {w0:World} {I0:Nat→Prop} {M0:Nm→Nat→Prop} {m0:Mu} {Q:Exit→Sta→Prop} (v w:Nat) (C:List Cf) (vo u6:Nat) (out:List T) (H:Hp),C.length+(Kq (mg f) at' o1 o2 ks n).2.length≤100000000000→out.length+ks.length≤1000000000→LsK v w C at' o n vo out H→H [6]=⟨u6,.cells (iv 0::(QI o1++QI o2))⟩ →
   (∀ (H':Hp) (vo':Nat),LsK v w (C++(Kq (mg f) at' o1 o2 ks n).2) at' o (n+ks.length) vo' (out++us) H'→Q (.exit 3) ⟨lk [(7,.pob [1] 1 0),(10,.pob [4] 1 0),(11,.pob [5] 1 0),(15,.pob [6] u6 0),(29,gD l),(30,iv l.length),(31,iv k),(47,iv m),(48,iv m),(49,bv false)],H'⟩) →
   LoopC (DC Tryz.prog w0 I0 M0 n0 m0) Db Q ⟨lk [(7,.pob [1] 1 0),(10,.pob [4] 1 0),(11,.pob [5] 1 0),(15,.pob [6] u6 0),(29,gD l),(30,iv l.length),(31,iv k),(47,iv m),(48,iv i)],H⟩:=by
 intro ks;induction ks with
 |nil=>
  intro i n hi _ _ _;have:i=m:=by simpa using hi
  subst this;refine⟨[],(fun t ht=>by simp at ht),by simp,rfl,fun {n0 w0 I0 M0 m0 Q} v w C vo u6 out H hC ho hH h6 hq=>?_⟩;refine Ab Ai Db.eq_1 ?_;simp;exact hq H vo (by simpa[Kq] using hH)
 |cons t ks ih=>
  intro i n hi hks hn hU;rw[List.length_cons] at hi hks hn;have hlt:i<m:=by omega
  have hnl:n<o.kids.length:=by omega
  have hd:o.kids.drop n=o.kids[n]::o.kids.drop (n+1):=(List.getElem_cons_drop hnl).symm;rw[hd,List.take_succ_cons] at hks;obtain⟨e1,e2⟩:=List.cons.inj hks;obtain⟨d1,d2,u,hu⟩:=hU n hnl (by rw[← e1];simp);obtain⟨us1,a1,a2,a3,a4⟩:=bU hat wo hnl (by omega) d1 d2 hu;obtain⟨us2,b1,b2,b3,b4⟩:=ih (i+1) (n+1) (by omega) e2 (by omega) fun j hj hm=>hU j hj (List.mem_cons_of_mem _ hm);have ew:=AO i;have er:Kq (mg f) at' o1 o2 (t::ks) n=((Cn (mg f) (at'++[(0,(n:Int))]) o.kids[n] (JM o1) (JM o2)).1++(Kq (mg f) at' o1 o2 ks (n+1)).1,(Cn (mg f) (at'++[(0,(n:Int))]) o.kids[n] (JM o1) (JM o2)).2++(Kq (mg f) at' o1 o2 ks (n+1)).2):=by
   rw[Kq,e1]
  rw[er];refine⟨us1++us2,fun t ht=>?_,by simp;omega,by rw[List.map_append,a3,b3],fun {n0 w0 I0 M0 m0 Q} v w C vo u6 out H hC ho hH h6 hq=>?_⟩
  ·rcases List.mem_append.1 ht with ht | ht
   ·exact a1 t ht
   ·exact b1 t ht
  rw[List.length_append] at hC;rw[List.length_cons] at ho;have S:=a4 v w C vo out 1 (by omega) (by omega);have next:=b4 (n0:=n0) (w0:=w0) (I0:=I0) (M0:=M0) (m0:=m0) (Q:=Q) v w (C++(Cn (mg f) (at'++[(0,(n:Int))]) o.kids[n] (JM o1) (JM o2)).2) (vo+us1.length) u6 (out++us1)
  generalize (Cn (mg f) (at'++[(0,(n:Int))]) o.kids[n] (JM o1) (JM o2)).2=c at *;refine Ab Ai Db.eq_1 ?_;simp[hlt,h6];refine JI 0 5 (by decide) S hH.f hH.s (by simp) (by simp) ?_;simp;rw[ew];refine next _ (by rw[List.length_append];omega) (by rw[List.length_append];omega) ⟨fun p=>by simp,fun p=>by simp,by simp[hH.o],by simp[hH.z]⟩ (by simp[h6]) fun H' vo' hH'=>?_
  refine hq H' vo' ?_;rw[List.length_cons];have e5:n+1+ks.length=n+(ks.length+1):=by omega
  rw[e5,List.append_assoc,List.append_assoc] at hH';exact hH'
structure LsM (v w:Nat) (C:List Cf) (at':C3) (o:T) (n vo:Nat) (out:List T) (vm vh:Nat) (mine hers:List T) (H:Hp):Prop where
 f:∀ p,H (0::p)=(NB v w C).F 0 p
 s:H [5]=⟨1,.cells [.pob [0] v 0,Dh at',iv o.kind,DL o.words,BF o.kids,iv n,.osl [5,0] vo 3 0 out.length,.osl [7] vm 3 0 mine.length,.osl [8] vh 3 0 hers.length]⟩
 so:H [5,0]=⟨vo,.arr 3 (out.map tA)⟩
 s0:∀ p,p ≠ []→p ≠ [0]→H (5::p)=⟨0,.none⟩
 m:H [7]=⟨vm,.arr 3 (mine.map tA)⟩
 h:H [8]=⟨vh,.arr 3 (hers.map tA)⟩
 o:H [1]=⟨1,.cells (Xz o)⟩
 z:H [4]=⟨1,.cells [iv 0,.sl true [],.sl true []]⟩
theorem ZO {c:Cx} {s:Nat→A} {v w:Nat} {C:List Cf} {at':C3} {o:T} {n vo:Nat} {out:List T} {H:Hp} (hH:LsK v w C at' o n vo out H):∃ (H2:Hp) (vm vh:Nat),Le c ⟨s,H⟩ ⟨s,H2⟩∧LsM v w C at' o n vo out vm vh [] [] H2:=by
 have h5:H [5]=⟨1,.cells [.pob [0] v 0,Dh at',iv o.kind,DL o.words,BF o.kids,iv n,.osl [5,0] vo 3 0 out.length,jA (true,[]),jA (true,[])]⟩:=by rw[hH.s];simp
 have l1:=BU (c:=c) (s:=s) (H:=H) (d:=[5]) 7 [7] 3 h5 rfl (by simp);have l2:=BU (c:=c) (s:=s) (H:=AI (AI H [7] ⟨(H [7]).u+1,.arr 3 []⟩) [5] ⟨1,.cells [.pob [0] v 0,Dh at',iv o.kind,DL o.words,BF o.kids,iv n,.osl [5,0] vo 3 0 out.length,.osl [7] ((H [7]).u+1) 3 0 0,jA (true,[])]⟩) (d:=[5]) (u:=1) (cs:=[.pob [0] v 0,Dh at',iv o.kind,DL o.words,BF o.kids,iv n,.osl [5,0] vo 3 0 out.length,.osl [7] ((H [7]).u+1) 3 0 0,jA (true,[])]) 8 [8] 3 (by simp[Aa]) rfl (by simp);refine⟨_,(H [7]).u+1,(H [8]).u+1,l1.trans l2,⟨fun p=>?_,?_,?_,fun p p1 p2=>?_,?_,?_,?_,?_⟩⟩
 ·have:=hH.f p;simp[Aa] at this ⊢;exact this
 ·simp[Aa]
 ·have:=hH.s [0];simp[Aa] at this ⊢;exact this
 ·have:=hH.s p;simp[Aa,p1,p2] at this ⊢;exact this
 ·simp[Aa]
 ·simp[Aa]
 ·simp[Aa,hH.o]
 ·simp[Aa,hH.z]
theorem Wf {c:Cx} {s:Nat→A} {v w:Nat} {C:List Cf} {at':C3} {o:T} {n vo:Nat} {out mine hers:List T} {vm vh:Nat} {H:Hp} (hM:∀ r p b,1≤r→¬ c.M0 (r::p) b) (hH:LsM v w C at' o n vo out vm vh mine hers H):∃ H2:Hp,Le c ⟨s,H⟩ ⟨s,H2⟩∧(∀ p,H2 (0::p)=(P1 v w C at' o n vo out (false,mine) (false,hers) 1).B 0 5 p)∧(∀ p,H2 (5::p)=(P1 v w C at' o n vo out (false,mine) (false,hers) 1).C 0 5 p)∧H2 [1]=H [1]∧H2 [4]=H [4]∧H2 [6]=H [6]:=by
 obtain⟨H2,g1,g2⟩:=cX (c:=c) (s:=s) (H:=H) (fun r=>r=7∨r=8) (fun r p b h=>hM r p b (by omega)) (r0:=5) (p0:=[]) (by omega) hH.s (cs':=[.pob [0] v 0,Dh at',iv o.kind,DL o.words,BF o.kids,iv n,.osl [5,0] vo 3 0 out.length,jA (false,mine),jA (false,hers)]) (by simp[A.ones]) (fun H1 h1=>by
  have f7:I7 H1 (.osl [7] vm 3 0 mine.length) (jA (false,mine)):=BW (f:=tA) (by rw[h1 7 [] (.inl rfl),hH.m];simp) rfl (fun x=>by simp);have f8:I7 H1 (.osl [8] vh 3 0 hers.length) (jA (false,hers)):=BW (f:=tA) (by rw[h1 8 [] (.inr rfl),hH.h];simp) rfl (fun x=>by simp);refine⟨rfl,fun k x y hx hy=>?_⟩
  match k with
  |0=>simp at hx hy;exact .inl (by rw[← hx,← hy])
  |1=>simp at hx hy;exact .inl (by rw[← hx,← hy])
  |2=>simp at hx hy;exact .inl (by rw[← hx,← hy])
  |3=>simp at hx hy;exact .inl (by rw[← hx,← hy])
  |4=>simp at hx hy;exact .inl (by rw[← hx,← hy])
  |5=>simp at hx hy;exact .inl (by rw[← hx,← hy])
  |6=>simp at hx hy;exact .inl (by rw[← hx,← hy])
  |7=>simp at hx hy;exact .inr (by rw[← hx,← hy];exact f7)
  |8=>simp at hx hy;exact .inr (by rw[← hx,← hy];exact f8)
  |k+9=>simp at hx)
 refine⟨_,g1,fun p=>?_,fun p=>?_,?_,?_,?_⟩
 ·have:=g2 0 p (by omega);simp[Aa] at this ⊢;rw[this,hH.f];simp
 ·by_cases p1:p=[]
  ·subst p1;simp[Aa]
  ·have:=g2 5 p (by omega);simp only[Aa];rw[if_neg (by simp[p1]),this];by_cases p2:p=[0]
   ·subst p2;simp[hH.so]
   ·simp[hH.s0 p p1 p2,p1,p2]
 ·have:=g2 1 [] (by omega);simpa[Aa] using this
 ·have:=g2 4 [] (by omega);simpa[Aa] using this
 ·have:=g2 6 [] (by omega);simpa[Aa] using this
def U8:List Pc→Nat
 |[]=>0
 |.a o::l=>o.l.length+U8 l
 |.b o::l=>o.l.length+U8 l
 |.both _ _::l=>U8 l
theorem kU {f:Nat} {at':C3} (hat:at'.length≤900000) {o:T} (wo:AK o) (hko:o.kids.length≤1000000) {R:E→T→T→Prop} {l:List Pc} (hl:l.length≤100000000)
  (hW:∀ o,(.a o ∈ l∨.b o ∈ l)→∀ t,t ∈ o.l→AK t)
  (hR:∀ (i:Nat) (h:i<o.kids.length) (o1 o2:OP),.both o1 o2 ∈ l→Uy R o1 o.kids[i]→Uy R o2 o.kids[i]→((o1.kind=0∧o1.e=E0)∨(o1.kind=1∧o1.e=E0)∨(o1.kind=3∧aH o1.e o.kids[i]))∧((o2.kind=0∧o2.e=E0)∨(o2.kind=1∧o2.e=E0)∨(o2.kind=3∧aH o2.e o.kids[i]))∧∃ u,oh f (at'++[(0,(i:Int))]) o.kids[i] o1.e o2.e u) :
  ∀ (j k:Nat) (mine hers:List T) (n:Nat),k+j=l.length→n≤o.kids.length→Na R (l.drop k) (o.kids.drop n)→(∀ t,t ∈ mine→AK t)→(∀ t,t ∈ hers→AK t)→mine.length+hers.length+U8 (l.drop k)≤1000000 →
  ∃ (us mF hF:List T) (nF:Nat) (cs:List Cf),(∀ t,t ∈ us→AK t)∧(∀ t,t ∈ mF→AK t)∧(∀ t,t ∈ hF→AK t)∧mF.length+hF.length≤1000000∧us.length+mF.length+hF.length≤mine.length+hers.length+U8 (l.drop k)+(o.kids.length-n) ∧
   (run (mg f) at' o.kind (l.drop k) mine hers (o.kids.drop n) n).1=us.map Ag++(FB at' o.kind nF mF hF).1∧(run (mg f) at' o.kind (l.drop k) mine hers (o.kids.drop n) n).2=cs++(FB at' o.kind nF mF hF).2 ∧
   ∀ {n0:Nat} {w0:World} {I0:Nat→Prop} {M0:Nm→Nat→Prop} {m0:Mu} {Q:Exit→Sta→Prop} (hM:∀ r p b,1≤r→¬ M0 (r::p) b) (v w:Nat) (C:List Cf) (vo vm vh:Nat) (out:List T) (H:Hp),C.length+cs.length≤100000000000→out.length+mine.length+hers.length+U8 (l.drop k)+(o.kids.length-n)≤1000000000→LsM v w C at' o n vo out vm vh mine hers H →
    (∀ (H':Hp) (vo' vm' vh':Nat),LsM v w (C++cs) at' o nF vo' (out++us) vm' vh' mF hF H'→Q (.exit 0) ⟨lk [(7,.pob [1] 1 0),(10,.pob [4] 1 0),(11,.pob [5] 1 0),(29,gD l),(30,iv l.length),(31,iv l.length),(32,bv false)],H'⟩) →
    LoopC (DC Tryz.prog w0 I0 M0 n0 m0) BM Q ⟨lk [(7,.pob [1] 1 0),(10,.pob [4] 1 0),(11,.pob [5] 1 0),(29,gD l),(30,iv l.length),(31,iv k)],H⟩:=by
 intro j;induction j with
 |zero=>
  intro k mine hers n hk hn hP wm wh hs;have:k=l.length:=by omega
  subst this;rw[List.drop_length] at hP ⊢;refine⟨[],mine,hers,n,[],(fun t ht=>by simp at ht),wm,wh,by omega,by simp;omega,by simp[run],by simp[run],fun {n0 w0 I0 M0 m0 Q} hM v w C vo vm vh out H hC ho hH hq=>?_⟩;refine Ab Ai BM.eq_1 ?_;simp;exact hq H vo vm vh (by simpa using hH)
 |succ j ih=>
  intro k mine hers n hk hn hP wm wh hs;have hlt:k<l.length:=by omega
  have hd:l.drop k=l[k]::l.drop (k+1):=(List.getElem_cons_drop hlt).symm;have hmem:l[k] ∈ l:=Dg hlt;have ew:=AO k;rw[hd] at hP hs ⊢;generalize hx:l[k]=x at *;generalize ha:o.kids.drop n=ks at hP;cases hP with
  |a oo _ _ hk2 g=>
   subst ha;simp only[U8] at hs;obtain⟨us,mF,hF,nF,cs,f1,f2,f3,f4,f5,f6,f7,f8⟩:=ih (k+1) (mine++oo.l) hers n (by omega) hn g (fun t ht=>by
    rcases List.mem_append.1 ht with ht | ht
    ·exact wm t ht
    ·exact hW oo (.inl hmem) t ht) wh (by rw[List.length_append];omega)
   rw[List.length_append] at f5;refine⟨us,mF,hF,nF,cs,f1,f2,f3,f4,by simp only[U8];omega,f6,f7,fun {n0 w0 I0 M0 m0 Q} hM v w C vo vm vh out H hC ho hH hq=>?_⟩;simp only[U8] at ho;have h5:=hH.s;have h7:=hH.m;refine Ab Ai BM.eq_1 ?_;simp[hlt,hx,xf,h5,h7,Aa];refine⟨by omega,?_⟩;rw[ew];refine f8 hM v w C vo (vm+1) vh out _ hC (by rw[List.length_append];omega) ⟨fun p=>?_,by simp[Aa],by simp[Aa,hH.so],fun p p1 p2=>?_,by simp[Aa,AX],by simp[Aa,hH.h],by simp[Aa,hH.o],by simp[Aa,hH.z]⟩ hq
   ·simp[Aa,hH.f]
   ·simp[Aa,p1,hH.s0 p p1 p2]
  |b oo _ _ hk2 g=>
   subst ha;simp only[U8] at hs;obtain⟨us,mF,hF,nF,cs,f1,f2,f3,f4,f5,f6,f7,f8⟩:=ih (k+1) mine (hers++oo.l) n (by omega) hn g wm (fun t ht=>by
    rcases List.mem_append.1 ht with ht | ht
    ·exact wh t ht
    ·exact hW oo (.inr hmem) t ht) (by rw[List.length_append];omega)
   rw[List.length_append] at f5;refine⟨us,mF,hF,nF,cs,f1,f2,f3,f4,by simp only[U8];omega,f6,f7,fun {n0 w0 I0 M0 m0 Q} hM v w C vo vm vh out H hC ho hH hq=>?_⟩;simp only[U8] at ho;have h5:=hH.s;have h8:=hH.h;refine Ab Ai BM.eq_1 ?_;simp[hlt,hx,xf,h5,h8,Aa];refine⟨by omega,?_⟩;rw[ew];refine f8 hM v w C vo vm (vh+1) out _ hC (by rw[List.length_append];omega) ⟨fun p=>?_,by simp[Aa],by simp[Aa,hH.so],fun p p1 p2=>?_,by simp[Aa,hH.m],by simp[Aa,AX],by simp[Aa,hH.o],by simp[Aa,hH.z]⟩ hq
   ·simp[Aa,hH.f]
   ·simp[Aa,p1,hH.s0 p p1 p2]
  |both o1 o2 _ a1 a2 hn1 hl1 h g=>
   simp only[U8] at hs;have hal:a1.length+a2.length=o.kids.length-n:=by rw[← List.length_append,← ha,List.length_drop]
   have ha1:(o.kids.drop n).take a1.length=a1:=by rw[ha,List.take_left]
   have ha2:o.kids.drop (n+a1.length)=a2:=by rw[← List.drop_drop,ha,List.drop_left]
   obtain⟨us1,b1,b2,b3,b4⟩:=oE (f:=f) hat wo hko (o1:=o1) (o2:=o2) (l:=l) (k:=k) (m:=a1.length) (by omega) a1 0 n (by omega) ha1.symm (by omega) fun i hi hm=>by
    obtain⟨h1,h2⟩:=h _ hm;exact hR i hi o1 o2 hmem h1 h2
   rw[← ha2] at g;obtain⟨us,mF,hF,nF,cs,f1,f2,f3,f4,f5,f6,f7,f8⟩:=ih (k+1) [] [] (n+a1.length) (by omega) (by omega) g (fun t ht=>by simp at ht) (fun t ht=>by simp at ht) (by simp;omega);have hgap:=bz at' o.kind n mine hers;have hgl:((GM mine hers).getD []).length≤mine.length+hers.length:=by
    unfold GM;split
    ·simp
    ·split
     ·simp
     ·split<;>simp
   have hgw:∀ t,t ∈ (GM mine hers).getD []→AK t:=by
    unfold GM;intro t ht;split at ht
    ·exact wh t ht
    ·split at ht
     ·exact wh t ht
     ·split at ht
      ·exact wm t ht
      ·simp at ht
   have hgn:((GM mine hers).getD []).map Ag=(FB at' o.kind n mine hers).1:=by
    cases e:GM mine hers with
    |none=>rw[hgap.2 e];rfl
    |some z=>rw[hgap.1 z e];rfl
   have er:run (mg f) at' o.kind (.both o1 o2::l.drop (k+1)) mine hers (a1++a2) n=((FB at' o.kind n mine hers).1++((Kq (mg f) at' o1 o2 a1 n).1++(run (mg f) at' o.kind (l.drop (k+1)) [] [] (o.kids.drop (n+a1.length)) (n+a1.length)).1),(FB at' o.kind n mine hers).2++((Kq (mg f) at' o1 o2 a1 n).2++(run (mg f) at' o.kind (l.drop (k+1)) [] [] (o.kids.drop (n+a1.length)) (n+a1.length)).2)):=by
    rw[run,← hn1,List.take_left,List.drop_left,ha2]
   rw[er];refine⟨(GM mine hers).getD []++(us1++us),mF,hF,nF,(FB at' o.kind n mine hers).2++((Kq (mg f) at' o1 o2 a1 n).2++cs),fun t ht=>?_,f2,f3,f4,by simp only[U8,List.length_append];simp at f5;omega,?_,?_,fun {n0 w0 I0 M0 m0 Q} hM v w C vo vm vh out H hC ho hH hq=>?_⟩
   ·rcases List.mem_append.1 ht with ht | ht
    ·exact hgw t ht
    ·rcases List.mem_append.1 ht with ht | ht
     ·exact b1 t ht
     ·exact f1 t ht
   ·simp only[List.map_append,hgn,b3,f6,List.append_assoc]
   ·simp only[f7,List.append_assoc]
   simp only[U8] at ho;rw[List.length_append,List.length_append] at hC;have G:=V0 (v:=v) (w:=w) (C:=C) (at':=at') (o:=o) (n:=n) (vo:=vo) (out:=out) (mine:=mine) (hers:=hers) (vs:=1) wm wh (wfT_iff.1 wo).k (by omega) (by omega) (by omega) hat (by omega);generalize (FB at' o.kind n mine hers).2=cg at *;generalize (GM mine hers).getD []=gl at *;generalize (Kq (mg f) at' o1 o2 a1 n).2=cr at *;have hn64:(0:Int)≤o1.n∧o1.n≤10000000:=by
    unfold MW at hn1;omega
   have hl64:o1.l.length≤10000000:=by
    unfold MW at hn1;omega
   have ea:i64.wrap (o1.n+o1.l.length)=o1.n+o1.l.length:=EO;have em:max (o1.n+(o1.l.length:Int)) 1=((a1.length:Nat):Int):=by
    rw[hn1];unfold MW;omega
   obtain⟨H2,g1,g2,g3,g4,g5,g6⟩:=Wf (c:=DC Tryz.prog w0 I0 M0 n0 m0) (s:=lk [(7,.pob [1] 1 0),(10,.pob [4] 1 0),(11,.pob [5] 1 0),(29,gD l),(30,iv l.length),(31,iv k)]) hM hH;rw[hH.o] at g4;rw[hH.z] at g5;refine LoopC.le g1 ?_;refine Ab Ai BM.eq_1 ?_;simp[hlt,hx,xf,Aa];refine JI 0 5 (by decide) G (fun p=>by simp[Aa,g2]) (fun p=>by simp[Aa,g3]) (by simp) (by simp) ?_;simp[ea,em,Aa];refine LoopC.le (Ao [(7,.pob [1] 1 0),(10,.pob [4] 1 0),(11,.pob [5] 1 0),(15,.pob [6] ((H2 [6]).u+1) 0),(29,gD l),(30,iv l.length),(31,iv k),(47,iv a1.length),(48,iv (0:Nat))] (by simp)) ?_;refine b4 v w (C++cg) (vo+Ty mine hers) ((H2 [6]).u+1) (out++gl) _ (by rw[List.length_append];omega) (by rw[List.length_append];omega) ⟨fun p=>by simp,fun p=>by simp,by simp[Aa,g4],by simp[Aa,g5]⟩ (by simp[Aa]) fun H' vo' hH'=>?_;simp;rw[ew];obtain⟨H3,vm',vh',y1,y2⟩:=ZO (c:=DC Tryz.prog w0 I0 M0 n0 m0) (s:=lk [(7,.pob [1] 1 0),(10,.pob [4] 1 0),(11,.pob [5] 1 0),(29,gD l),(30,iv l.length),(31,iv (k+1:Nat))]) hH';refine LoopC.le y1 ?_;refine f8 hM v w _ vo' vm' vh' _ H3 (by rw[List.length_append,List.length_append];omega) (by simp only[List.length_append,List.length_nil];simp at f5;omega) y2 fun H4 vo2 vm2 vh2 z=>?_;refine hq H4 vo2 vm2 vh2 ?_;simp only[List.append_assoc] at z;exact z
theorem oI {c:Cx} {x:CC} {Q:Exit→Sta→Prop} {s:Nat→A} {v w:Nat} {C:List Cf} {at':C3} {o:T} {H:Hp} (h0:∀ p,H (0::p)=(NB v w C).F 0 p) (h1:H [1]=⟨1,.cells (Xz o)⟩) (h4:H [4]=⟨1,.cells [iv 0,.sl true [],.sl true []]⟩) (h5:H [5]=⟨1,.cells [.pob [0] v 0,Dh at',iv o.kind,DL o.words,BF o.kids,iv 0,.sl true [],.sl true [],.sl true []]⟩) (h6:∀ p,p ≠ []→H (5::p)=⟨0,.none⟩)
  (k:∀ (H2:Hp) (vm vh:Nat),LsM v w C at' o 0 1 [] vm vh [] [] H2→LoopC c x Q ⟨s,H2⟩):LoopC c x Q ⟨s,H⟩:=by
 have e5:=h6 [0] (by simp);refine LoopC.le (BU (d:=[5]) (u:=1) 6 [5,0] 3 h5 rfl (by simp)) ?_;have hK:LsK v w C at' o 0 1 [] (AI (AI H [5,0] ⟨(H [5,0]).u+1,.arr 3 []⟩) [5] ⟨1,.cells ([.pob [0] v 0,Dh at',iv o.kind,DL o.words,BF o.kids,iv 0,.sl true [],.sl true [],.sl true []].set 6 (.osl [5,0] ((H [5,0]).u+1) 3 0 0))⟩):=by
  refine⟨fun p=>?_,fun p=>?_,?_,?_⟩
  ·simp[Aa,h0]
  ·by_cases p1:p=[]
   ·subst p1;simp[Aa,e5]
   ·by_cases p2:p=[0]
    ·subst p2;simp[Aa,e5]
    ·simp[Aa,p1,p2,h6]
  ·simp[Aa,h1]
  ·simp[Aa,h4]
 obtain⟨H3,vm',vh',y1,y2⟩:=ZO (c:=c) (s:=s) hK;exact LoopC.le y1 (k H3 vm' vh' y2)
theorem Zq {f:Nat} {at':C3} (hat:at'.length≤900000) {o:T} (wo:AK o) (hko:o.kids.length≤1000000) {R:E→T→T→Prop} {p q:E} {l:List Pc} (hT:dU p.ops q.ops l) (gp:∀ o,o ∈ p.ops→X5 o) (gq:∀ o,o ∈ q.ops→X5 o) (lp:p.ops.length≤1000000) (lq:q.ops.length≤1000000) (hl:l.length≤100000000) (hP:Na R l o.kids) (hI:U8 l≤1000000)
  (hrun:run (mg f) at' o.kind l [] [] o.kids 0=La (mg f) at' o.kind o.kids (JK p.ops) (JK q.ops) 0)
  (hW:∀ o,(.a o ∈ l∨.b o ∈ l)→∀ t,t ∈ o.l→AK t)
  (hR:∀ (i:Nat) (h:i<o.kids.length) (o1 o2:OP),.both o1 o2 ∈ l→Uy R o1 o.kids[i]→Uy R o2 o.kids[i]→((o1.kind=0∧o1.e=E0)∨(o1.kind=1∧o1.e=E0)∨(o1.kind=3∧aH o1.e o.kids[i]))∧((o2.kind=0∧o2.e=E0)∨(o2.kind=1∧o2.e=E0)∨(o2.kind=3∧aH o2.e o.kids[i]))∧∃ u,oh f (at'++[(0,(i:Int))]) o.kids[i] o1.e o2.e u) :
  ∃ us:List T,(∀ t,t ∈ us→AK t)∧us.length≤10000000∧us.map Ag=(La (mg f) at' o.kind o.kids (JK p.ops) (JK q.ops) 0).1∧∀ (v w:Nat) (C:List Cf),C.length+(La (mg f) at' o.kind o.kids (JK p.ops) (JK q.ops) 0).2.length≤100000000000 →
   SpecF Tryz.prog 56 (fun r=>[.pob [r] v 0,Dh at',tX o,eX p,eX q]) (NB v w C) (fun _=>tX (.mk o.kind [] us)) (NB v w (C++(La (mg f) at' o.kind o.kids (JK p.ops) (JK q.ops) 0).2)):=by
 have TH:=U5 hT gp gq lp lq hl;obtain⟨us,mF,hF,nF,cs,f1,f2,f3,f4,f5,f6,f7,f8⟩:=kU (f:=f) hat wo hko hl hW hR l.length 0 [] [] 0 (by omega) (by omega) (by simpa using hP) (fun t ht=>by simp at ht) (fun t ht=>by simp at ht) (by simpa using hI);rw[List.drop_zero,List.drop_zero,hrun] at f6 f7;rw[List.drop_zero] at f5;simp only[List.length_nil,Nat.zero_add,Nat.sub_zero] at f5;have hgap:=bz at' o.kind nF mF hF;have hgl:((GM mF hF).getD []).length≤mF.length+hF.length:=by
  unfold GM;split
  ·simp
  ·split
   ·simp
   ·split<;>simp
 have hgw:∀ t,t ∈ (GM mF hF).getD []→AK t:=by
  unfold GM;intro t ht;split at ht
  ·exact f3 t ht
  ·split at ht
   ·exact f3 t ht
   ·split at ht
    ·exact f2 t ht
    ·simp at ht
 have hgn:((GM mF hF).getD []).map Ag=(FB at' o.kind nF mF hF).1:=by
  cases e:GM mF hF with
  |none=>rw[hgap.2 e];rfl
  |some z=>rw[hgap.1 z e];rfl
 refine⟨us++(GM mF hF).getD [],fun t ht=>?_,by rw[List.length_append];omega,by rw[f6,List.map_append,hgn],fun v w C hC=>?_⟩
 ·rcases List.mem_append.1 ht with ht | ht
  ·exact f1 t ht
  ·exact hgw t ht
 rw[f7] at hC ⊢;rw[List.length_append] at hC;refine It LX (by simp) (Ae Au (Ae Ba (Ae (BC o) (Ae (Ci p) (Ae (Ci q) Ah))))) (BC _) fun w0 I0 M0 m0 hM=>?_;unfold Hw;simp;refine Af TH (by simp) ?_;simp;refine LoopC.le (Ao [(7,.pob [1] 1 0),(10,.pob [4] 1 0),(11,.pob [5] 1 0),(29,gD l),(30,iv l.length),(31,iv (0:Nat))] (by simp)) ?_;refine oI (v:=v) (w:=w) (C:=C) (at':=at') (o:=o) (fun p=>by simp) (by simp) (by simp) (by simp) (fun p hp=>by simp[hp,FZ,Ne.symm hp]) fun H2 vm vh hH2=>?_;refine f8 hM v w C 1 vm vh [] H2 (by omega) (by simp;omega) hH2 fun H' vo' vm' vh' hH'=>?_;have G:=V0 (v:=v) (w:=w) (C:=C++cs) (at':=at') (o:=o) (n:=nF) (vo:=vo') (out:=us) (mine:=mF) (hers:=hF) (vs:=1) f2 f3 (wfT_iff.1 wo).k (by omega) (by omega) (by omega) hat (by rw[List.length_append];omega);rw[List.nil_append] at hH';generalize (FB at' o.kind nF mF hF).2=cg at *;generalize (GM mF hF).getD []=gl at *;obtain⟨H3,g1,g2,g3,g4,g5,g6⟩:=Wf (c:=DC Tryz.prog w0 I0 M0 93 m0) (s:=lk [(7,.pob [1] 1 0),(10,.pob [4] 1 0),(11,.pob [5] 1 0)]) hM hH';rw[hH'.o] at g4;rw[hH'.z] at g5;simp;refine Ho g1 (Gz ?_);simp;refine JI 0 5 (by decide) G (fun p=>by simp[g2]) (fun p=>by simp[g3]) (by simp) (by simp) ?_;simp[g4,g5,Aa];have hlen:us.length+gl.length=(us++gl).length:=by simp
 rw[hlen];generalize us++gl=L at *;generalize hHH:ov 0 ((P1 v w (C++(cs++cg)) at' o nF (vo'+Ty mF hF) L (true,[]) (true,[]) 1).B 0 5) (ov 5 ((P1 v w (C++(cs++cg)) at' o nF (vo'+Ty mF hF) L (true,[]) (true,[]) 1).C 0 5) (AI H3 [4] ⟨1,.cells [iv o.kind,.sl true [],.osl [5,0] (vo'+Ty mF hF) 3 0 L.length]⟩))=HH;have z0:∀ p,HH (0::p)=(NB v w (C++(cs++cg))).F 0 p:=fun p=>by rw[← hHH];simp
 have z4:HH [4]=⟨1,.cells [iv o.kind,.sl true [],.osl [5,0] (vo'+Ty mF hF) 3 0 L.length]⟩:=by rw[← hHH];simp[Aa]
 have z5:HH [5,0]=⟨vo'+Ty mF hF,.arr 3 (L.map tA)⟩:=by rw[← hHH];simp[Aa]
 obtain⟨H4,y1,y2⟩:=I5 (c:=DC Tryz.prog w0 I0 M0 93 m0) (s:=lk [(10,.pob [4] 1 0)]) (H:=HH) (fun r=>r=5) (fun r p b h=>hM r p b (by omega)) (r0:=4) (p0:=[]) (by omega) z4 (cs':=Xz (.mk o.kind [] L)) (by simp[A.ones]) (fun H1 h1=>⟨Ad rfl,An,BW (f:=tA) (l:=L) (by rw[h1 5 [0] rfl,z5];simp) rfl (fun x=>by simp),trivial⟩);refine Ib y1 (Ax (r0:=tX (.mk o.kind [] L)) (by simp[E4]) rfl fun r=>?_);have e1:=y2 0 r (by omega);dsimp only;rw[AE (by simp),e1,z0]
theorem af {R R':E→T→T→Prop} {os:List OP} {a b:List T} (h:LdO R os a b):(∀ e x y,x ∈ a→y ∈ b→R e x y→R' e x y)→LdO R' os a b:=by
 induction h with
 |nil=>exact fun _=>.nil
 |keep l m hne hl _ ih=>exact fun hR=>.keep l m hne hl (ih fun e x y hx hy=>hR e x y (List.mem_append_right _ hx) (List.mem_append_right _ hy))
 |del l m hne hl _ ih=>exact fun hR=>.del l m hne hl (ih fun e x y hx hy=>hR e x y (List.mem_append_right _ hx) hy)
 |ins l m hne hl _ ih=>exact fun hR=>.ins l m hne hl (ih fun e x y hx hy=>hR e x y hx (List.mem_append_right _ hy))
 |desc e x y r _ ih=>exact fun hR=>.desc e x y (hR e x y (by simp) (by simp) r) (ih fun e x y hx hy=>hR e x y (List.mem_cons_of_mem _ hx) (List.mem_cons_of_mem _ hy))
def Ca:List OP→Nat
 |[]=>0
 |o::os=>(if o.kind=2 then o.l.length else 0)+Ca os
theorem VO {R:E→T→T→Prop} {os:List OP} {a b:List T} (h:LdO R os a b):os.length≤a.length+b.length∧Ca os≤b.length∧(a.length≤1000000→b.length≤1000000→∀ o,o ∈ os→X5 o):=by
 induction h with
 |nil=>exact⟨by simp,by simp[Ca],fun _ _ o ho=>by simp at ho⟩
 |keep l m hne hl _ ih=>
  have h1:=List.length_pos_iff.2 hne;have h2:l.length=m.length:=by simpa using congrArg List.length hl
  refine⟨by simp;omega,by simp[Ca];omega,fun ha hb o ho=>?_⟩;rw[List.length_append] at ha hb;rcases List.mem_cons.1 ho with rfl | ho
  ·exact⟨.inl ⟨rfl,by simp;omega,by simp;omega,rfl⟩,fun h=>by simp at h,by simp⟩
  ·exact ih.2.2 (by omega) (by omega) o ho
 |del l m hne hl _ ih=>
  have h1:=List.length_pos_iff.2 hne;have h2:l.length=m.length:=by simpa using congrArg List.length hl
  refine⟨by simp;omega,by simp[Ca];omega,fun ha hb o ho=>?_⟩;rw[List.length_append] at ha;rcases List.mem_cons.1 ho with rfl | ho
  ·exact⟨.inr (.inl ⟨rfl,rfl⟩),fun _=>hne,by simp;omega⟩
  ·exact ih.2.2 (by omega) (by omega) o ho
 |ins l m hne hl _ ih=>
  have h1:=List.length_pos_iff.2 hne;have h2:l.length=m.length:=by simpa using congrArg List.length hl
  refine⟨by simp;omega,by simp[Ca];omega,fun ha hb o ho=>?_⟩;rw[List.length_append] at hb;rcases List.mem_cons.1 ho with rfl | ho
  ·exact⟨.inr (.inr (.inl ⟨rfl,rfl⟩)),fun _=>hne,by simp;omega⟩
  ·exact ih.2.2 (by omega) (by omega) o ho
 |desc e x y r _ ih=>
  refine⟨by simp;omega,by simp[Ca];omega,fun ha hb o ho=>?_⟩;rw[List.length_cons] at ha hb;rcases List.mem_cons.1 ho with rfl | ho
  ·exact⟨.inr (.inr (.inr ⟨rfl,rfl,rfl⟩)),fun h=>by simp at h,by simp⟩
  ·exact ih.2.2 (by omega) (by omega) o ho
theorem kQ (o:OP) (n:Nat):(kd o n).kind=o.kind:=by unfold kd;split<;>rfl
theorem fE {p:OP} (hp:p.kind ≠ 2) (n:Nat) (ps:List OP):Ca (MT p n ps)=Ca ps:=by
 unfold MT;split
 ·rfl
 ·rw[Ca,kQ,if_neg hp,Nat.zero_add]
theorem rD {ps qs:List OP} {l:List Pc} (h:dU ps qs l):U8 l≤Ca ps+Ca qs:=by
 induction h with
 |nil=>simp[U8]
 |fst p ps qs l h g ih=>rw[U8,Ca,if_pos h];omega
 |snd ps q qs l hp h g ih=>rw[U8,Ca,if_pos h];omega
 |both p ps q qs n l hp hq hn g ih=>
  rw[fE hp,fE hq] at ih;rw[U8,Ca,if_neg hp,Ca,if_neg hq];omega
def l8 (o:OP):Prop:=(∀ t,t ∈ o.l→AK t)∧ND o.e
theorem kN {o:OP} (h:l8 o) (n:Nat):l8 (K3 o n):=by
 unfold K3;split
 ·exact h
 ·unfold yg;split
  ·exact h
  ·exact⟨fun t ht=>h.1 t (Qw ht),h.2⟩
theorem mM {p:OP} {ps:List OP} (h:∀ o,o ∈ p::ps→l8 o) (n:Nat):∀ o,o ∈ MT p n ps→l8 o:=by
 intro o ho;unfold MT at ho;split at ho
 ·exact h o (List.mem_cons_of_mem _ ho)
 ·rcases List.mem_cons.1 ho with rfl | ho
  ·have:=h p (by simp);unfold kd;split
   ·exact this
   ·exact⟨fun t ht=>this.1 t (V2 ht),this.2⟩
  ·exact h o (List.mem_cons_of_mem _ ho)
theorem Abq {ps qs:List OP} {l:List Pc} (h:dU ps qs l):(∀ o,o ∈ ps→l8 o)→(∀ o,o ∈ qs→l8 o)→∀ c,c ∈ l→l8 (tl c).1∧l8 (tl c).2:=by
 have w0:l8 O0:=⟨fun t ht=>by simp at ht,CE⟩;induction h with
 |nil=>intro _ _ c hc;simp at hc
 |fst p ps qs l h g ih=>
  intro hp hq c hc;rcases List.mem_cons.1 hc with rfl | hc
  ·exact⟨hp p (by simp),w0⟩
  ·exact ih (fun o ho=>hp o (List.mem_cons_of_mem _ ho)) hq c hc
 |snd ps q qs l _ h g ih=>
  intro hp hq c hc;rcases List.mem_cons.1 hc with rfl | hc
  ·exact⟨w0,hq q (by simp)⟩
  ·exact ih hp (fun o ho=>hq o (List.mem_cons_of_mem _ ho)) c hc
 |both p ps q qs n l hpk hqk hn g ih=>
  intro hp hq c hc;rcases List.mem_cons.1 hc with rfl | hc
  ·exact⟨kN (hp p (by simp)) n,kN (hq q (by simp)) n⟩
  ·exact ih (mM hp n) (mM hq n) c hc
def Sq:Nat→T→Prop
 |0,_=>True
 |f+1,t=>t.words.length≤400000∧t.kids.length≤400000∧∀ k,k ∈ t.kids→Sq f k
theorem zR:∀ f,Sq f T0
 |0=>trivial
 |f+1=>⟨by simp,by simp,fun k hk=>by simp at hk⟩
theorem Rr {f:Nat} {t:T} (h:Sq (f+1) t) (i:Nat):Sq f (t.kids.getD i T0):=by
 rw[List.getD_eq_getElem?_getD];cases e:t.kids[i]? with
 |none=>exact zR f
 |some z=>exact h.2.2 z (List.mem_of_getElem? e)
theorem Tp:∀ (f:Nat) (t:T),Sq f t→Sz f t
 |0,_,_=>trivial
 |f+1,t,h=>⟨by have:=h.1;omega,by have:=h.2.1;omega,fun k hk=>Tp f k (h.2.2 k hk)⟩
theorem Sw:∀ (f:Nat) (t:T),A8 t≤100000→Sq f t
 |0,t,_=>trivial
 |f+1,t,h=>by
  obtain⟨k,w,l⟩:=t;rw[Fu] at h;have hl:=IZ l;exact⟨by show w.length≤400000;omega,by show l.length≤400000;omega,fun x hx=>Sw f x (by have:=Uh (show x ∈ l from hx);omega)⟩
theorem Sn {f:Nat} {e:E} {a b:T} (hw:ND e) (ha:AK a) (hb:AK b) (sa:Sq f a) (sb:Sq f b) (h:Ld f e a b):aH e a∧IV e a=Ag b:=by
 obtain⟨u,h1,h2⟩:=ki f e a b hw ha hb (Tp f a sa) (Tp f b sb) h;have e1:IV e a=Ag u:=by rw[Ow h,h2]
 refine⟨⟨?_,?_,?_⟩,Ow h⟩
 ·rw[e1];exact gW (L4 h1)
 ·rw[e1];exact Cs u h1.1
 ·rw[e1,Cm]
theorem VC {f:Nat} {at':C3} {o:T} {p q:E} (hp:aH p o) (hq:aH q o) (wo:AK o) (hat:at'.length≤900000) (h2:¬ (p.kind=2∧q.kind=2)) (h3:¬ (p.kind=3∧q.kind=3)) (hm:mg f at' o p q=Ur at' o p q):∃ u,oh f at' o p q u:=by
 have D1:=hp.1;have D2:=hq.1;by_cases k0:p.kind=0
 ·have e:mg f at' o p q=(IV q o,[]):=by rw[hm,Ur,if_pos k0]
  refine⟨IV q o,hq.2.1,by rw[e,hq.2.2],fun v w C hC=>?_⟩;rw[e];refine Aq B8 (by simp) (Ae Au (Ae Ba (Ae (BC o) (Ae (Ci p) (Ae (Ci q) Ah))))) (BC _) fun w0 I0 M0 m0=>?_;unfold BH;simp[k0];refine Af D2 (by simp) ?_;simp[Aa];exact Ax (r0:=tX (IV q o)) (by simp[E4]) rfl (fun p=>by simp[Aa])
 by_cases q0:q.kind=0
 ·have e:mg f at' o p q=(IV p o,[]):=by rw[hm,Ur,if_neg k0,if_pos q0]
  refine⟨IV p o,hp.2.1,by rw[e,hp.2.2],fun v w C hC=>?_⟩;rw[e];refine Aq B8 (by simp) (Ae Au (Ae Ba (Ae (BC o) (Ae (Ci p) (Ae (Ci q) Ah))))) (BC _) fun w0 I0 M0 m0=>?_;unfold BH;simp[k0,q0];refine Af D1 (by simp) ?_;simp[Aa];exact Ax (r0:=tX (IV p o)) (by simp[E4]) rfl (fun p=>by simp[Aa])
 have E:=HF hp.2.1 hq.2.1;by_cases c:IV p o=IV q o
 ·have e:mg f at' o p q=(IV p o,[]):=by rw[hm,Ur,if_neg k0,if_neg q0,if_pos c]
  rw[eqT_iff.2 (by rw[c])] at E;refine⟨IV p o,hp.2.1,by rw[e,hp.2.2],fun v w C hC=>?_⟩;rw[e];refine Aq B8 (by simp) (Ae Au (Ae Ba (Ae (BC o) (Ae (Ci p) (Ae (Ci q) Ah))))) (BC _) fun w0 I0 M0 m0=>?_;unfold BH;by_cases p2:p.kind=2
  ·have q2:¬ q.kind=2:=fun h=>h2 ⟨p2,h⟩;obtain⟨kp,op,np,wp,ksp,lp,osp⟩:=p;have p2:kp=2:=p2;subst p2;simp[q0,q2];refine Af D1 (by simp) ?_;simp[Aa];refine Af D2 (by simp) ?_;simp[Aa];refine Af E (by simp) ?_;simp[Aa];exact Ax (r0:=tX (IV (.mk 2 op np wp ksp lp osp) o)) (by simp[E4]) rfl (fun p=>by simp[Aa])
  ·by_cases p3:p.kind=3
   ·have q3:¬ q.kind=3:=fun h=>h3 ⟨p3,h⟩;obtain⟨kp,op,np,wp,ksp,lp,osp⟩:=p;have p3:kp=3:=p3;subst p3;simp[q0,q3];refine Af D1 (by simp) ?_;simp[Aa];refine Af D2 (by simp) ?_;simp[Aa];refine Af E (by simp) ?_;simp[Aa];exact Ax (r0:=tX (IV (.mk 3 op np wp ksp lp osp) o)) (by simp[E4]) rfl (fun p=>by simp[Aa])
   ·simp[k0,p2,p3,q0];refine Af D1 (by simp) ?_;simp[Aa];refine Af D2 (by simp) ?_;simp[Aa];refine Af E (by simp) ?_;simp[Aa];exact Ax (r0:=tX (IV p o)) (by simp[E4]) rfl (fun p=>by simp[Aa])
 ·have e:mg f at' o p q=(Ag o,[⟨at',Ag o,IV p o,IV q o⟩]):=by rw[hm,Ur,if_neg k0,if_neg q0,if_neg c]
  have ef:Ln (IV p o) (IV q o)=false:=by
   cases h:Ln (IV p o) (IV q o) with
   |false=>rfl
   |true=>
    have:=eqT_iff.1 h;rw[hp.2.2,hq.2.2] at this;exact absurd this c
  rw[ef] at E;refine⟨o,wo,by rw[e],fun v w C hC=>?_⟩;rw[e] at hC ⊢;have CL:=N8 (l:=at') (b:=o) (o:=IV p o) (t:=IV q o) (by omega) wo hp.2.1 hq.2.1 v w (C:=C) (by simp at hC;omega);rw[hp.2.2,hq.2.2] at CL;refine Aq B8 (by simp) (Ae Au (Ae Ba (Ae (BC o) (Ae (Ci p) (Ae (Ci q) Ah))))) (BC _) fun w0 I0 M0 m0=>?_;unfold BH;by_cases p2:p.kind=2
  ·have q2:¬ q.kind=2:=fun h=>h2 ⟨p2,h⟩;obtain⟨kp,op,np,wp,ksp,lp,osp⟩:=p;have p2:kp=2:=p2;subst p2;simp[q0,q2];refine Af D1 (by simp) ?_;simp[Aa];refine Af D2 (by simp) ?_;simp[Aa];refine Af E (by simp) ?_;simp[Aa];refine Ar 0 CL (fun p=>by simp[Aa]) (by simp) (by simp) ?_;simp[Aa];exact Ax (r0:=tX o) (by simp[E4]) rfl (fun p=>by simp[Aa])
  ·by_cases p3:p.kind=3
   ·have q3:¬ q.kind=3:=fun h=>h3 ⟨p3,h⟩;obtain⟨kp,op,np,wp,ksp,lp,osp⟩:=p;have p3:kp=3:=p3;subst p3;simp[q0,q3];refine Af D1 (by simp) ?_;simp[Aa];refine Af D2 (by simp) ?_;simp[Aa];refine Af E (by simp) ?_;simp[Aa];refine Ar 0 CL (fun p=>by simp[Aa]) (by simp) (by simp) ?_;simp[Aa];exact Ax (r0:=tX o) (by simp[E4]) rfl (fun p=>by simp[Aa])
   ·simp[k0,p2,p3,q0];refine Af D1 (by simp) ?_;simp[Aa];refine Af D2 (by simp) ?_;simp[Aa];refine Af E (by simp) ?_;simp[Aa];refine Ar 0 CL (fun p=>by simp[Aa]) (by simp) (by simp) ?_;simp[Aa];exact Ax (r0:=tX o) (by simp[E4]) rfl (fun p=>by simp[Aa])
theorem pf {at':C3} {o:T} {p q:E} {u:T} (hp:p.kind=2) (hq:q.kind=2) {v w:Nat} {C C':List Cf} (S:SpecF Tryz.prog 55 (fun r=>[.pob [r] v 0,Dh at',tX o,eX p,eX q]) (NB v w C) (fun _=>tX u) (NB v w C')) :
  SpecF Tryz.prog 34 (fun r=>[.pob [r] v 0,Dh at',tX o,eX p,eX q]) (NB v w C) (fun _=>tX u) (NB v w C'):=by
 refine Aq B8 (by simp) (Ae Au (Ae Ba (Ae (BC o) (Ae (Ci p) (Ae (Ci q) Ah))))) (BC _) fun w0 I0 M0 m0=>?_;obtain⟨kp,op,np,wp,ksp,lp,osp⟩:=p;obtain⟨kq,oq,nq,wq,ksq,lq,osq⟩:=q;have hp:kp=2:=hp;have hq:kq=2:=hq;subst hp;subst hq;unfold BH;simp;refine Ar 0 S (fun p=>by simp[Aa]) (by simp) (by simp) ?_;simp[Aa];exact Ax (r0:=tX u) (by simp[E4]) rfl (fun p=>by simp[Aa])
theorem hY {at':C3} {o:T} {p q:E} {u:T} (hp:p.kind=3) (hq:q.kind=3) {v w:Nat} {C C':List Cf} (S:SpecF Tryz.prog 56 (fun r=>[.pob [r] v 0,Dh at',tX o,eX p,eX q]) (NB v w C) (fun _=>tX u) (NB v w C')) :
  SpecF Tryz.prog 34 (fun r=>[.pob [r] v 0,Dh at',tX o,eX p,eX q]) (NB v w C) (fun _=>tX u) (NB v w C'):=by
 refine Aq B8 (by simp) (Ae Au (Ae Ba (Ae (BC o) (Ae (Ci p) (Ae (Ci q) Ah))))) (BC _) fun w0 I0 M0 m0=>?_;obtain⟨kp,op,np,wp,ksp,lp,osp⟩:=p;obtain⟨kq,oq,nq,wq,ksq,lq,osq⟩:=q;have hp:kp=3:=hp;have hq:kq=3:=hq;subst hp;subst hq;unfold BH;simp;refine Ar 0 S (fun p=>by simp[Aa]) (by simp) (by simp) ?_;simp[Aa];exact Ax (r0:=tX u) (by simp[E4]) rfl (fun p=>by simp[Aa])
def ia (f:Nat) (e:E) (x y:T):Prop:=Ld f e x y∧ND e∧AK x∧AK y∧Sq f x∧Sq f y
theorem bc {f:Nat} {k:T} (w:AK k) (s:Sq f k):ia f E0 k k:=⟨MJ (.inl ⟨rfl,rfl⟩),CE,w,w,s,s⟩
def xA (f:Nat) (e:E) (x y:T):Prop:=∃ z,Ld f e x z∧AK z∧Sq f z
theorem Ww {a b:List Int} {p:Nat} {ws:List WE} (h:M6 a b p ws):ws.length+p≤max p (max a.length b.length):=by
 induction h with
 |nil p h=>simp;omega
 |cons p i m o n ws hp h hi hm ho hn h1 h2 _ ih=>
  rw[List.length_cons];omega
theorem sC:∀ (f:Nat) (p q:E) (o x y:T),ia f p o x→ia f q o y→∀ at':C3,at'.length+f≤800000→∃ u,oh f at' o p q u:=by
 intro f;induction f with
 |zero=>
  intro p q o x y hp hq at' hat;have D1:=(Sn hp.2.1 hp.2.2.1 hp.2.2.2.1 hp.2.2.2.2.1 hp.2.2.2.2.2 hp.1).1;have D2:=(Sn hq.2.1 hq.2.2.1 hq.2.2.2.1 hq.2.2.2.2.1 hq.2.2.2.2.2 hq.1).1;have k1:p.kind=0∨p.kind=1:=by
   rcases hp.1 with ⟨rfl,_⟩ | ⟨_,_,rfl,_⟩
   ·exact .inl rfl
   ·exact .inr rfl
  exact VC D1 D2 hp.2.2.1 (by omega) (fun h=>by omega) (fun h=>by omega) rfl
 |succ f ih=>
  intro p q o x y hp hq at' hat;have D1:=(Sn hp.2.1 hp.2.2.1 hp.2.2.2.1 hp.2.2.2.2.1 hp.2.2.2.2.2 hp.1).1;have D2:=(Sn hq.2.1 hq.2.2.1 hq.2.2.2.1 hq.2.2.2.2.1 hq.2.2.2.2.2 hq.1).1;by_cases k2:p.kind=2∧q.kind=2
  ·obtain⟨hp1,hp2,hp3,hp4,hp5,hp6⟩:=hp;obtain⟨hq1,hq2,hq3,hq4,hq5,hq6⟩:=hq;rcases hp1 with h | ⟨ws,ks,rfl,h1,h2,h3,h4⟩ | ⟨os,rfl,h1,h2,hv,h3⟩
   ·rcases h with ⟨rfl,_⟩ | ⟨_,_,rfl,_⟩<;>exact absurd k2.1 (by simp)
   rotate_left
   ·exact absurd k2.1 (by simp)
   rcases hq1 with g | ⟨ws',ks',rfl,g1,g2,g3,g4⟩ | ⟨os',rfl,g1,g2,gv,g3⟩
   ·rcases g with ⟨rfl,_⟩ | ⟨_,_,rfl,_⟩<;>exact absurd k2.2 (by simp)
   rotate_left
   ·exact absurd k2.2 (by simp)
   have P:=wfE_iff.1 hp2;have Q:=wfE_iff.1 hq2;have pwl:ws.length*32≤140737488355328:=P.wl;have pkl:ks.length*208≤140737488355328:=P.kl;have qwl:ws'.length*32≤140737488355328:=Q.wl;have qkl:ks'.length*208≤140737488355328:=Q.kl;have lw:=Ww h3;have lw':=Ww g3;have s1:=hp5.1;have s2:=hp5.2.1;have s3:=hp6.1;have s4:=hp6.2.1;have s5:=hq6.1;have s6:=hq6.2.1;have hk:∀ i:Nat,∃ u,oh f (at'++[(0,(i:Int))]) (o.kids.getD i T0) (GJ ks i) (GJ ks' i) u:=fun i=>by
    have a1:Ld f (GJ ks i) (o.kids.getD i T0) (x.kids.getD i T0):=Ub (fun x y h=>MJ (.inl ⟨rfl,h⟩)) h4 i (Nat.zero_le _);have a2:Ld f (GJ ks' i) (o.kids.getD i T0) (y.kids.getD i T0):=Ub (fun x y h=>MJ (.inl ⟨rfl,h⟩)) g4 i (Nat.zero_le _);exact ih _ _ _ _ _ ⟨a1,Vw CE (fun x h=>(P.ks x h).2) i,GC hp3 i,GC hp4 i,Rr hp5 i,Rr hp6 i⟩ ⟨a2,Vw CE (fun x h=>(Q.ks x h).2) i,GC hp3 i,GC hq4 i,Rr hp5 i,Rr hq6 i⟩ _ (by rw[List.length_append];simp;omega)
   obtain⟨u,u1,u2,u3⟩:=iV (f:=f) (at':=at') (by omega) hp3 (p:=.mk 2 T0 T0 ws ks 0 []) (q:=.mk 2 T0 T0 ws' ks' 0 []) h3 g3 h4 g4 (by omega) (by omega) (by omega) ⟨by show ws.length≤_;omega,by show ks.length≤_;omega⟩ ⟨by show ws'.length≤_;omega,by show ks'.length≤_;omega⟩ hk;have em:mg (f+1) at' o (.mk 2 T0 T0 ws ks 0 []) (.mk 2 T0 T0 ws' ks' 0 [])=fh (mg f) at' o (.mk 2 T0 T0 ws ks 0 []) (.mk 2 T0 T0 ws' ks' 0 []):=by rw[mg,if_pos ⟨rfl,rfl⟩]
   refine⟨u,u1,by rw[em];exact u2,fun v w C hC=>?_⟩;rw[em] at hC ⊢;exact pf rfl rfl (u3 v w C hC)
  ·by_cases k3:p.kind=3∧q.kind=3
   ·obtain⟨hp1,hp2,hp3,hp4,hp5,hp6⟩:=hp;obtain⟨hq1,hq2,hq3,hq4,hq5,hq6⟩:=hq;rcases hp1 with h | ⟨ws,ks,rfl,h1,h2,h3,h4⟩ | ⟨os,rfl,h1,h2,hv,h3⟩
    ·rcases h with ⟨rfl,_⟩ | ⟨_,_,rfl,_⟩<;>exact absurd k3.1 (by simp)
    ·exact absurd k3.1 (by simp)
    rcases hq1 with g | ⟨ws',ks',rfl,g1,g2,g3,g4⟩ | ⟨os',rfl,g1,g2,gv,g3⟩
    ·rcases g with ⟨rfl,_⟩ | ⟨_,_,rfl,_⟩<;>exact absurd k3.2 (by simp)
    ·exact absurd k3.2 (by simp)
    have P:=wfE_iff.1 hp2;have Q:=wfE_iff.1 hq2;have O:=wfT_iff.1 hp3;have X:=wfT_iff.1 hp4;have Y:=wfT_iff.1 hq4;have s2:=hp5.2.1;have s4:=hp6.2.1;have s6:=hq6.2.1;have h3':LdO (xA f) os o.kids x.kids:=af h3 fun e a b ha hb r=>⟨b,r,X.ks b hb,hp6.2.2 b hb⟩;have g3':LdO (xA f) os' o.kids y.kids:=af g3 fun e a b ha hb r=>⟨b,r,Y.ks b hb,hq6.2.2 b hb⟩;obtain⟨f1,f2,f3⟩:=VO h3;obtain⟨e1,e2,e3⟩:=VO g3;obtain⟨l,t1,t2,t3,t4⟩:=uM (os.length+os'.length+2*o.kids.length) os os' o.kids x.kids y.kids h3' g3' (f3 (by omega) (by omega)) (e3 (by omega) (by omega)) (Cc _);have hW:=Abq t1 (fun o ho=>⟨(P.os o ho).l,(P.os o ho).e⟩) (fun o ho=>⟨(Q.os o ho).l,(Q.os o ho).e⟩);have hI:=rD t1;have hR:∀ (i:Nat) (h:i<o.kids.length) (o1 o2:OP),.both o1 o2 ∈ l→Uy (xA f) o1 o.kids[i]→Uy (xA f) o2 o.kids[i]→((o1.kind=0∧o1.e=E0)∨(o1.kind=1∧o1.e=E0)∨(o1.kind=3∧aH o1.e o.kids[i]))∧((o2.kind=0∧o2.e=E0)∨(o2.kind=1∧o2.e=E0)∨(o2.kind=3∧aH o2.e o.kids[i]))∧∃ u,oh f (at'++[(0,(i:Int))]) o.kids[i] o1.e o2.e u:=fun i hi o1 o2 hm a1 a2=>by
     have wk:AK o.kids[i]:=O.ks _ (Dg hi);have sk:Sq f o.kids[i]:=hp5.2.2 _ (Dg hi);have W:=hW _ hm;have one:∀ oo:OP,l8 oo→Uy (xA f) oo o.kids[i]→((oo.kind=0∧oo.e=E0)∨(oo.kind=1∧oo.e=E0)∨(oo.kind=3∧aH oo.e o.kids[i]))∧∃ z,ia f oo.e o.kids[i] z:=fun oo w a=>by
      rcases a with ⟨k0,e0⟩ | ⟨k0,e0⟩ | ⟨k0,x',z,hz1,hz2,hz3⟩
      ·exact⟨.inl ⟨k0,e0⟩,o.kids[i],by rw[e0];exact bc wk sk⟩
      ·exact⟨.inr (.inl ⟨k0,e0⟩),o.kids[i],by rw[e0];exact bc wk sk⟩
      ·exact⟨.inr (.inr ⟨k0,(Sn w.2 wk hz2 sk hz3 hz1).1⟩),z,hz1,w.2,wk,hz2,sk,hz3⟩
     obtain⟨r1,z1,q1⟩:=one o1 W.1 a1;obtain⟨r2,z2,q2⟩:=one o2 W.2 a2;exact⟨r1,r2,ih _ _ _ _ _ q1 q2 _ (by rw[List.length_append];simp;omega)⟩
    have t4':=t4 (mg f) at' o.kind [] [] 0;simp only[List.map_nil,List.nil_append] at t4';obtain⟨us,u1,u2,u3,u4⟩:=Zq (f:=f) (at':=at') (by omega) hp3 (by omega) (R:=xA f) (p:=.mk 3 T0 T0 [] [] o.kind os) (q:=.mk 3 T0 T0 [] [] o.kind os') t1 (f3 (by omega) (by omega)) (e3 (by omega) (by omega)) (by show os.length≤_;omega) (by show os'.length≤_;omega) (by omega) t3 (by omega) t4' (fun oo h=>by
     rcases h with h | h
     ·exact(hW _ h).1.1
     ·exact(hW _ h).2.1) hR
    have em:mg (f+1) at' o (.mk 3 T0 T0 [] [] o.kind os) (.mk 3 T0 T0 [] [] o.kind os')=(Ag (.mk o.kind [] (La (mg f) at' o.kind o.kids (JK os) (JK os') 0).1),(La (mg f) at' o.kind o.kids (JK os) (JK os') 0).2):=by rw[mg,if_neg (by simp),if_pos ⟨rfl,rfl⟩];rfl
    refine⟨.mk o.kind [] us,wfT_iff.2 ⟨O.k,by simp,by simp,by show us.length*56≤_;omega,u1⟩,?_,fun v w C hC=>?_⟩
    ·rw[em];refine(L1 (by omega) (by omega)).2 ⟨rfl,?_⟩;have u3':us.map Ag=(La (mg f) at' o.kind o.kids (JK os) (JK os') 0).1:=u3;rw[← u3',Mo]
    ·rw[em] at hC ⊢;exact hY rfl rfl (u4 v w C hC)
   ·have hm:mg (f+1) at' o p q=Ur at' o p q:=by rw[mg,if_neg k2,if_neg k3]
    exact VC D1 D2 hp.2.2.1 (by omega) k2 k3 hm
end Go.Proofs.YtndnlknocdangaaGreat
namespace Go.G
open Go
theorem SpecH.soft {P:Program} {f:FuncId} {k:Nat} {as' as2:List A} {Hc Hr:Hp} {r:A} (h:SpecH P f k as2 Hc r Hr) (e:A.softL as'=as2):SpecH P f k as' Hc r Hr:=by
 subst e;refine⟨h.1,fun w I M0 n μ vs hM hs hl ha=>h.2 w I M0 n μ vs hM hs (by simpa[Bq] using hl) fun k y hk=>?_⟩;rw[Bq,List.getElem?_map,Option.map_eq_some_iff] at hk;obtain⟨y',hy,rfl⟩:=hk;exact(ha k y' hy).soft
theorem SpecF.soft {P:Program} {f:FuncId} {as' as2:Nat→List A} {F F':Fam} {x:Nat→A} (h:SpecF P f as2 F x F') (fa:FamL as') (e:A.softL (as' 0)=as2 0):SpecF P f as' F x F':=
 ⟨fa,h.fx,h.h.soft e⟩
end Go.G
namespace Go.Proofs.YtndnlknocdangaaGreat
open Go Go.G Go.Proofs Go.PL
theorem dY {H:Hp} {o:Nm} {u n:Nat} {l:List Cf} (h:vr (H o) u=some (10,l.map aE)) (hn:n=l.length):I7 H (.osl o u 10 0 n) (OA l):=
 BW h hn fun x=>by simp[aE]
theorem Zd {f:Nat} {p q:E} {o x y:T} (hp:ia f p o x) (hq:ia f q o y) (hf:f≤800000) (hc:(mg f [] o p q).2.length≤100000000000):G.Spec Tryz.prog 14 [tX o,eX p,eX q] (.tup [tX (mg f [] o p q).1,OA (mg f [] o p q).2,bv true]):=by
 obtain⟨u,u1,u2,u3⟩:=sC f p q o x y hp hq [] (by simpa using hf);obtain⟨x',x1,x2⟩:=ki f p o x hp.2.1 hp.2.2.1 hp.2.2.2.1 (Tp f o hp.2.2.2.2.1) (Tp f x hp.2.2.2.2.2) hp.1;obtain⟨y',y1,y2⟩:=ki f q o y hq.2.1 hq.2.2.1 hq.2.2.2.1 (Tp f o hq.2.2.2.2.1) (Tp f y hq.2.2.2.2.2) hq.1;have A1:=L4 x1;have A2:=L4 y1;have S:=u3 1 1 [] (by simpa using hc);have S':SpecF Tryz.prog 34 (fun r=>[.pob [r] 1 0,.sl true [],tX o,eX p,eX q]) (NB 1 1 []) (fun _=>tX u) (NB 1 1 (mg f [] o p q).2):=S.soft (Ae Au (Ae Ba (Ae (BC o) (Ae (Ci p) (Ae (Ci q) Ah))))) (by simp[A.softL,A.soft,JH,FF,OG,Ug,Uc]);have N:=C5 u u1;rw[u2] at N;generalize mg f [] o p q=M at *;refine Ak Vb (by simp) fun w0 I0=>?_;unfold NC;simp;refine Af A1 (by simp) ?_;simp[Aa];refine Af A2 (by simp) ?_;simp[Aa];refine Ho (BU (d:=[6]) (u:=1) (cs:=[.sl true []]) 0 [6,0] 10 (by simp) rfl (by simp)) (Gz ?_);simp[Aa];refine Ar 6 S' (fun p=>?_) (by simp) (by simp) ?_
 ·by_cases p1:p=[]
  ·subst p1;simp[Aa]
  ·by_cases p2:p=[0]
   ·subst p2;simp[Aa]
   ·simp[Aa,p1,p2,FZ,Ne.symm p1,Ne.symm p2]
 simp[Aa];refine Af N (by simp) ?_;simp[Aa];refine FR ⟨Ad (by simp),dY ?_ rfl,Ad rfl,trivial⟩;simp[Aa]
noncomputable def EK (most:Int) (o x y:T):T × List Cf:=mg 1000 [] (Ag o) (Uv most o x) (Uv most o y)
theorem OW {t:T} (pt:A8 t≤1000):A8 (Ag t)≤1000:=by
 have:=a7 t;omega
theorem XK {a b:T} (ha:AK a) (hb:AK b) (pa:A8 a≤1000) (pb:A8 b≤1000) {da db:Nat} (ra:B5 da a=true) (rb:B5 db b=true) {most:Int}:ia 1000 (Uv most a b) (Ag a) (Ag b):=
 ⟨fN ha hb pa pb ra rb,nj ha hb pa pb,Cs a ha,Cs b hb,Sw 1000 (Ag a) (by have:=OW pa;omega),Sw 1000 (Ag b) (by have:=OW pb;omega)⟩
mutual
def Fy:E→Nat
 |.mk _ _ _ ws ks _ os=>1+ws.length+jZ ks+pB os
def jZ:List KE→Nat
 |[]=>0
 |.mk _ e::l=>Fy e+jZ l
def pB:List OP→Nat
 |[]=>0
 |.mk k _ t e::l=>(if k=0 then 0 else if k=1∨k=2 then t.length else Fy e)+pB l
end
theorem Uo (k:Int) (o n:T) (ws:List WE) (ks:List KE) (l:Int) (os:List OP):Fy (.mk k o n ws ks l os)=1+ws.length+jZ ks+pB os:=by rw[Fy]
@[simp] theorem AeP:jZ []=0:=by rw[jZ]
theorem YR (x:KE) (l:List KE):jZ (x::l)=Fy x.e+jZ l:=by cases x;rw[jZ];rfl
@[simp] theorem AdK:pB []=0:=by rw[pB]
theorem Lu (x:OP) (l:List OP):pB (x::l)=(if x.kind=0 then 0 else if x.kind=1∨x.kind=2 then x.l.length else Fy x.e)+pB l:=by cases x;rw[pB];rfl
theorem nu (e:E):1≤Fy e:=by
 cases e;rw[Uo];omega
theorem eH {α:Type} (at_:α→Int) (G:α→Nat) (k:α):∀ m:Nat,((List.range m).map fun i:Nat=>if at_ k=(i:Int) then G k else 0).sum≤G k
 |0=>by simp
 |m+1=>by
  have ih:=eH at_ G k m;rw[List.range_succ,List.map_append,List.sum_append];by_cases h:at_ k=(m:Int)
  ·have z:((List.range m).map fun i:Nat=>if at_ k=(i:Int) then G k else 0).sum=0:=by
    refine List.sum_eq_zero_iff_forall_eq_nat.2 fun x hx=>?_;obtain⟨i,hi,rfl⟩:=List.mem_map.1 hx;have:=List.mem_range.1 hi;rw[if_neg (by omega)]
   rw[z];simp[h]
  ·simp[h];exact ih
def gF {α:Type} (at_:α→Int) (G:α→Nat) (ks:List α) (i:Nat):Nat:=match ks.find? (fun k=>decide (at_ k=(i:Int))) with
 |some k=>G k
 |none=>0
theorem q8 {α:Type} (at_:α→Int) (G:α→Nat) (k:α) (ks:List α) (i:Nat):gF at_ G (k::ks) i≤(if at_ k=(i:Int) then G k else 0)+gF at_ G ks i:=by
 by_cases c:at_ k=(i:Int)
 ·have:gF at_ G (k::ks) i=G k:=by unfold gF;rw[List.find?_cons,decide_eq_true c]
  rw[this,if_pos c];omega
 ·have:gF at_ G (k::ks) i=gF at_ G ks i:=by unfold gF;rw[List.find?_cons,decide_eq_false c]
  rw[this,if_neg c];omega
theorem TT {α:Type} (at_:α→Int) (G:α→Nat) (m:Nat):∀ ks:List α,((List.range m).map (gF at_ G ks)).sum≤(ks.map G).sum
 |[]=>by
  refine Nat.le_of_eq (List.sum_eq_zero_iff_forall_eq_nat.2 fun x hx=>?_);obtain⟨i,_,rfl⟩:=List.mem_map.1 hx;rfl
 |k::ks=>by
  have ih:=TT at_ G m ks;have h1:=eH at_ G k m;have key:∀ l:List Nat,(l.map (gF at_ G (k::ks))).sum≤(l.map fun i:Nat=>if at_ k=(i:Int) then G k else 0).sum+(l.map (gF at_ G ks)).sum:=by
   intro l;induction l with
   |nil=>simp
   |cons i l ihl=>
    have:=q8 at_ G k ks i;simp only[List.map_cons,List.sum_cons];omega
  have:=key (List.range m);rw[List.map_cons,List.sum_cons];omega
theorem Ox {α:Type} (L:Nat→List α) (g:Nat→Nat) (h:∀ i,(L i).length≤g i):∀ l:List Nat,(l.flatMap L).length≤(l.map g).sum
 |[]=>by simp
 |i::l=>by
  have:=Ox L g h l;have:=h i;rw[List.flatMap_cons,List.length_append,List.map_cons,List.sum_cons];omega
theorem dq (k:Int):GO 0 k=0:=by
 show IntKind.u8.wrap ((BitVec.ofInt 8 0 &&& BitVec.ofInt 8 k).toNat:Nat)=0;simp;rfl
theorem ou (at':C3) (i:Nat) (w:Int) (b:WE):Oz at' i w dW b=[]:=by
 unfold Oz;rw[if_neg];unfold JR;rw[dq,Kg ⟨by decide,by decide⟩,Kg ⟨by decide,by decide⟩];simp
theorem vI (at':C3) (i:Nat) (w:Int) (a b:WE):(Oz at' i w a b).length≤1:=by
 unfold Oz;split<;>simp
theorem Yo (ws:List WE):(ws.map fun _=>1).sum=ws.length:=by induction ws<;>simp_all [Nat.add_comm]
theorem j8 (at':C3) (o:List Int) (ps qs:List WE) (n:Nat):((List.range n).flatMap fun i:Nat=>Oz at' i (o.getD i 0) (F5 ps i) (F5 qs i)).length≤ps.length:=by
 have h1:=Ox (fun i:Nat=>Oz at' i (o.getD i 0) (F5 ps i) (F5 qs i)) (gF (fun k:WE=>k.at_) (fun _=>1) ps) (fun i=>by
  unfold gF;cases e:ps.find? (fun k=>decide (k.at_=(i:Int))) with
  |none=>
   have:F5 ps i=dW:=by unfold F5;rw[e];rfl
   simp only[this,ou];simp
  |some k=>exact vI _ _ _ _ _) (List.range n)
 have h2:=TT (fun k:WE=>k.at_) (fun _=>1) n ps;rw[Yo] at h2;exact Nat.le_trans h1 h2
theorem fq:∀ ks:List KE,(ks.map fun k=>Fy k.e).sum=jZ ks
 |[]=>by simp
 |k::ks=>by rw[List.map_cons,List.sum_cons,fq ks,YR]
theorem rf {M:C3→T→E→E→T × List Cf} (hM:∀ at' o p q,(M at' o p q).2.length≤Fy p) (h0:∀ at' o q,(M at' o E0 q).2=[]) (at':Nat→C3) (o:Nat→T) (ps:List KE) (q:Nat→E) (n:Nat):((List.range n).flatMap fun i:Nat=>(M (at' i) (o i) (GJ ps i) (q i)).2).length≤jZ ps:=by
 have h1:=Ox (fun i:Nat=>(M (at' i) (o i) (GJ ps i) (q i)).2) (gF (fun k:KE=>k.at_) (fun k=>Fy k.e) ps) (fun i=>by
  unfold gF;cases e:ps.find? (fun k=>decide (k.at_=(i:Int))) with
  |none=>
   have:GJ ps i=E0:=by unfold GJ;rw[e];rfl
   simp only[this,h0];simp
  |some k=>
   have:GJ ps i=k.e:=by unfold GJ;rw[e];rfl
   simp only[this];exact hM _ _ _ _) (List.range n)
 have h2:=TT (fun k:KE=>k.at_) (fun k=>Fy k.e) n ps;rw[fq] at h2;exact Nat.le_trans h1 h2
def cU:U→Nat
 |.keep=>0
 |.del _=>1
 |.ins _=>1
 |.desc e=>Fy e
def S5 (us:List U):Nat:=(us.map cU).sum
theorem O9 (u:U) (us:List U):S5 (u::us)=cU u+S5 us:=by simp[S5]
theorem WX:∀ us:List U,S5 us=(Gk us).length+S5 (DB us)
 |[]=>rfl
 |.ins t::us=>by rw[O9,Gk,DB,WX us,List.length_cons,cU];omega
 |.keep::us=>by simp[Gk,DB]
 |.del t::us=>by simp[Gk,DB]
 |.desc e::us=>by simp[Gk,DB]
theorem fH (at':C3) (kind:Int) (n:Nat) (a b:List T):(FB at' kind n a b).2.length≤a.length:=by
 unfold FB;split
 ·simp
 ·rename_i h;have:0<a.length:=List.length_pos_iff.2 fun e=>h (.inl e);split<;>simp<;>omega
theorem kP {M:C3→T→E→E→T × List Cf} (hM:∀ at' o p q,(M at' o p q).2.length≤Fy p) (h0:∀ at' o q,(M at' o E0 q).2=[]) (at':C3) (k:T) (u v:U):(Cn M at' k u v).2.length≤cU u:=by
 cases u<;>cases v<;>simp[Cn,cU,eU,h0,hM,nu]
theorem AbK (us:List U):cU (Ze us)+S5 us.tail≤S5 us:=by
 cases us with
 |nil=>simp[Ze,cU,S5]
 |cons u us=>rw[O9];simp[Ze]
theorem mb {M:C3→T→E→E→T × List Cf} (hM:∀ at' o p q,(M at' o p q).2.length≤Fy p) (h0:∀ at' o q,(M at' o E0 q).2=[]) (at':C3) (kind:Int):∀ (ks:List T) (us vs:List U) (n:Nat),(La M at' kind ks us vs n).2.length≤S5 us
 |[],us,vs,n=>by
  have:=fH at' kind n (Gk us) (Gk vs);have:=WX us;rw[La];omega
 |k::ks,us,vs,n=>by
  have h1:=fH at' kind n (Gk us) (Gk vs);have h2:=WX us;have h3:=kP hM h0 (at'++[(0,(n:Int))]) k (Ze (DB us)) (Ze (DB vs));have h4:=mb hM h0 at' kind ks (DB us).tail (DB vs).tail (n+1);have h5:=AbK (DB us);simp only[La,List.length_append];omega
theorem sm (a b:List U):S5 (a++b)=S5 a+S5 b:=by simp[S5]
theorem fZ:∀ os:List OP,S5 (JK os)≤pB os
 |[]=>by simp[JK,S5]
 |o::os=>by
  have ih:=fZ os;have rep:∀ n,S5 (List.replicate n U.keep)=0:=fun n=>by simp[S5,cU]
  have m1:∀ l:List T,S5 (l.map .del)=l.length:=fun l=>by
   induction l with
   |nil=>simp[S5]
   |cons x l ih=>rw[List.map_cons,O9,ih,cU,List.length_cons];omega
  have m2:∀ l:List T,S5 (l.map .ins)=l.length:=fun l=>by
   induction l with
   |nil=>simp[S5]
   |cons x l ih=>rw[List.map_cons,O9,ih,cU,List.length_cons];omega
  rw[C6,sm,Lu];unfold Nv;split
  ·rw[rep];omega
  ·split
   ·rename_i h;rw[m1,if_pos (.inl h)];omega
   ·split
    ·rename_i h;rw[m2,if_pos (.inr h)];omega
    ·rename_i h1 h2;have:S5 [.desc o.e]=Fy o.e:=by simp[S5,cU]
     rw[this,if_neg (by omega)];omega
theorem Acw:∀ (f:Nat) (at':C3) (o:T) (p q:E),(mg f at' o p q).2.length≤Fy p:=by
 have base:∀ (at':C3) (o:T) (p q:E),(Ur at' o p q).2.length≤Fy p:=fun at' o p q=>by
  have:=nu p;unfold Ur;split
  ·simp
  ·split
   ·simp
   ·split
    ·simp
    ·simpa using this
 intro f;induction f with
 |zero=>exact base
 |succ f ih=>
  intro at' o p q;have h0:∀ at' o q,(mg f at' o E0 q).2=[]:=fun at' o q=>by rw[XZ rfl]
  obtain⟨k,oo,nn,ws,ks,l,os⟩:=p;rw[mg];split
  ·rw[Uo];have h1:=j8 at' o.words ws q.words (Dc (Dc o.words.length ws) q.words);have h2:=rf ih h0 (fun i=>at'++[(0,(i:Int))]) (fun i=>o.kids.getD i T0) ks (fun i=>GJ q.kids i) (Ch (Ch o.kids.length ks) q.kids);unfold fh;simp only[E.words_mk,E.kids_mk,List.length_append];omega
  ·split
   ·rw[Uo];have h1:=mb ih h0 at' o.kind o.kids (JK os) (JK q.ops) 0;have h2:=fZ os;simp only[E.ops_mk];omega
   ·exact base _ _ _ _
theorem Fv:∀ a b:List T,BX (a++b)=BX a+BX b
 |[],b=>by simp
 |x::a,b=>by rw[List.cons_append,Cy,Cy,Fv a b];omega
theorem DJ:∀ l:List T,(l.length:Int)≤BX l:=fun l=>NN fun t _=>G9 t
theorem Rp (l:List T) {p i:Nat} (h:p≤i):BX (l.drop i)≤BX (l.drop p):=by
 have e:l.drop p=(l.drop p).take (i-p)++l.drop i:=by
  rw[show l.drop i=(l.drop p).drop (i-p) from by rw[List.drop_drop];congr 1;omega,List.take_append_drop]
 rw[e,Fv];have:=DJ ((l.drop p).take (i-p));omega
theorem VP (l:List T) (i:Nat):(i<l.length∧BX (l.drop i)=A8 (l.getD i T0)+BX (l.drop (i+1)))∨(l.length≤i∧BX (l.drop i)=0∧A8 (l.getD i T0)=1∧BX (l.drop (i+1))=0):=by
 by_cases h:i<l.length
 ·refine .inl ⟨h,?_⟩;rw[(List.getElem_cons_drop h).symm,Cy,List.getD_eq_getElem?_getD,List.getElem?_eq_getElem h];simp
 ·refine .inr ⟨by omega,?_,?_,?_⟩
  ·rw[List.drop_eq_nil_of_le (by omega)];simp
  ·rw[List.getD_eq_getElem?_getD,List.getElem?_eq_none (by omega)];simp
  ·rw[List.drop_eq_nil_of_le (by omega)];simp
theorem uz {R:E→T→T→Prop} (hR:∀ e x y,R e x y→(Fy e:Int)≤1+2*(A8 x-1+(A8 y-1))) {a b:List T} {p:Nat} {ks:List KE} (h:W0 R a b p ks):(jZ ks:Int)≤2*(BX (a.drop p)+BX (b.drop p)):=by
 induction h with
 |nil p h=>
  have:=DJ (a.drop p);have:=DJ (b.drop p);simp;omega
 |cons p i e ks hp h hi he hr _ ih=>
  have h1:=hR _ _ _ hr;have h2:=Rp a hp;have h3:=Rp b hp;have h4:=DJ (a.drop (i+1));have h5:=DJ (b.drop (i+1));rw[YR];show((Fy e+jZ ks:Nat):Int)≤_;rcases VP a i with ⟨a1,a2⟩ | ⟨a1,a2,a3,a4⟩<;>rcases VP b i with ⟨b1,b2⟩ | ⟨b1,b2,b3,b4⟩<;>omega
theorem vl {R:E→T→T→Prop} (hR:∀ e x y,R e x y→(Fy e:Int)≤1+2*(A8 x-1+(A8 y-1))) {os:List OP} {a b:List T} (h:LdO R os a b):(pB os:Int)≤2*(BX a+BX b):=by
 induction h with
 |nil=>simp
 |keep l m hne hl _ ih=>
  have h1:=DJ l;have h2:=DJ m;rw[Lu,Fv,Fv];simp;omega
 |del l m hne hl _ ih=>
  have h2:=DJ m;have h3:l.length=m.length:=by simpa using congrArg List.length hl
  rw[Lu,Fv];simp;omega
 |ins l m hne hl _ ih=>
  have h2:=DJ m;have h3:l.length=m.length:=by simpa using congrArg List.length hl
  rw[Lu,Fv];simp;omega
 |desc e x y r _ ih=>
  have h1:=hR _ _ _ r;rw[Lu,Cy,Cy];simp;omega
theorem AbI:∀ (f:Nat) (e:E) (a b:T),Ld f e a b→(Fy e:Int)≤1+2*(A8 a-1+(A8 b-1)):=by
 have base:∀ (e:E) (a b:T),oK e a b→(Fy e:Int)≤1+2*(A8 a-1+(A8 b-1)):=fun e a b h=>by
  have h1:=G9 a;have h2:=G9 b;rcases h with ⟨rfl,_⟩ | ⟨o,n,rfl,_⟩
  ·rw[Uo];simp;omega
  ·rw[Uo];simp;omega
 intro f;induction f with
 |zero=>exact fun e a b h=>base e a b h
 |succ f ih=>
  intro e a b h;rcases h with h | ⟨ws,ks,rfl,h1,h2,h3,h4⟩ | ⟨os,rfl,h1,h2,hv,h3⟩
  ·exact base e a b h
  ·have w:=Ww h3;have k:=uz ih h4;obtain⟨ka,wa,la⟩:=a;obtain⟨kb,wb,lb⟩:=b;simp only[List.drop_zero,T.kids_mk,T.words_mk] at k w;have n1:=DJ la;have n2:=DJ lb;rw[Uo,Fu,Fu];simp;omega
  ·have k:=vl ih h3;obtain⟨ka,wa,la⟩:=a;obtain⟨kb,wb,lb⟩:=b;simp only[T.kids_mk] at k;rw[Uo,Fu,Fu];simp;omega
theorem W8 {o x y:T} (ho:AK o) (hx:AK x) (po:A8 o≤1000) (px:A8 x≤1000) {da db:Nat} (ra:B5 da o=true) (rb:B5 db x=true) (most:Int):(EK most o x y).2.length≤100000:=by
 have h1:=Acw 1000 [] (Ag o) (Uv most o x) (Uv most o y);have h2:=AbI 1000 _ _ _ (fN ho hx po px ra rb (most:=most));have h3:=OW po;have h4:=OW px;unfold EK;omega
theorem Y8 {o x y:T} (ho:AK o) (hx:AK x) (hy:AK y) (po:A8 o≤1000) (px:A8 x≤1000) (py:A8 y≤1000) {d1 d2 d3:Nat} (r1:B5 d1 o=true) (r2:B5 d2 x=true) (r3:B5 d3 y=true) {most:Int} (hm:BG most) :
  G.Spec Tryz.prog 19 [tX o,tX x,tX y,iv most] (.tup [tX (EK most o x y).1,OA (EK most o x y).2]):=by
 have N:=C5 o ho;have D1:=Rs ho hx po px hm;have D2:=Rs ho hy po py hm;have L:=W8 (y:=y) ho hx po px r1 r2 most;have M:=Zd (XK (most:=most) ho hx po px r1 r2) (XK (most:=most) ho hy po py r1 r3) (by omega) (by unfold EK at L;omega);rw[show mg 1000 [] (Ag o) (Uv most o x) (Uv most o y)=EK most o x y from rfl] at M;generalize EK most o x y=R at *;refine Ak UG (by simp) fun w0 I0=>?_;unfold Ng;simp;refine Af N (by simp) ?_;simp;refine Af D1 (by simp) ?_;simp;refine Af D2 (by simp) ?_;simp;refine Af M (by simp) ?_;simp[Aa];exact FR ⟨Ad (by simp),An,trivial⟩
end Go.Proofs.YtndnlknocdangaaGreat
namespace Go.Proofs.YtndnlknocdangaaGreat
set_option maxRecDepth 20000
open Go Go.G Go.Proofs
@[simp] theorem AdS:DK Tryz.prog 51=some true:=by kernel_rfl
@[simp] theorem Adx:DK Tryz.prog 65=some true:=by kernel_rfl
@[simp] theorem l9:Al Tryz.prog 51 0=some 0:=by kernel_rfl
@[simp] theorem nJ:Al Tryz.prog 51 1=some 1:=by kernel_rfl
@[simp] theorem k8:Al Tryz.prog 51 2=some 4:=by kernel_rfl
@[simp] theorem oD:Al Tryz.prog 51 3=some 7:=by kernel_rfl
@[simp] theorem Ahb (x0 y0:Int) (x1 y1:Int):KW Tryz.prog 100 65 (.agg [A.v (.int .i64 x0),A.v (.int .i64 x1)]) (.agg [A.v (.int .i64 y0),A.v (.int .i64 y1)])=some (((x0 == y0)&&((x1 == y1)&&(true)))):=by kernel_rfl
@[simp] theorem Ago:Tryz.prog.eqGuardType Tryz.prog.depth 65=false:=by kernel_rfl
def Ed:CC:=sQ [mO 70 11,fO 71 51 8 0,lO 72 49 71,bN 73 72 49,bB .lss 74 3 70 73 3] [0,1,2,7,8,9,11,74] (cD 74 (.skip) (.exit 2)) [0,1,2,7,8,9,11] (.seq (.block 3 (sR [fO 77 51 8 0,lO 78 49 77,mO 79 11,iO 80 49 78 79,lO 81 65 80,fO 82 51 9 0,lO 83 49 82,mO 84 11,iO 85 49 83 84,lO 86 65 85,bB .neq 87 65 81 86 65] [0,1,2,7,8,9,11,87] (cD 87 (sR [aB 6 false] [6] (.ret)) (.skip)))) (.keep [0,1,2,7,8,9,11] (.reg [mO 75 11,bQ .add 76 3 75 1 3,aO 11 76] [0,1,2,7,8,9,11])))
def FV:CC:=sQ [fO 39 51 8 0,lO 40 49 39,bN 41 40 49,fO 42 51 9 0,lO 43 49 42,bN 44 43 49,bB .neq 45 3 41 44 3,mO 46 45,fG 47 51 8 1 46 false,lG 48 25 47 46 false,fG 49 51 9 1 46 false,lG 50 25 49 46 false,oG 51 (cL 16 #[(xT 48),(xT 50)] #[25,25]) 46 false,oG 52 (.unOp .not 4 (xT 51)) 46 false,pT 53 46 52,mO 54 53,fG 55 51 8 2 54 false,lG 56 25 55 54 false,fG 57 51 9 2 54 false,lG 58 25 57 54 false,oG 59 (cL 16 #[(xT 56),(xT 58)] #[25,25]) 54 false,oG 60 (.unOp .not 4 (xT 59)) 54 false,pT 61 54 60,mO 62 61,fG 63 51 8 3 62 false,lG 64 25 63 62 false,fG 65 51 9 3 62 false,lG 66 25 65 62 false,oG 67 (cL 16 #[(xT 64),(xT 66)] #[25,25]) 62 false,oG 68 (.unOp .not 4 (xT 67)) 62 false,pT 69 62 68] [0,1,2,7,8,9,69] (cD 69 (sR [aB 6 false] [6] (.ret)) (.skip)) [0,1,2,7,8,9] (sR [aI 11 0] [0,1,2,7,8,9,11] (.block 2 (.loop Ed)))
def DW:CC:=sQ [mO 17 7,mO 18 0,bN 19 18 35,bB .lss 20 3 17 19 3] [0,1,2,7,20] (cD 20 (.skip) (.exit 0)) [0,1,2,7] (.seq (.block 1 (sR [mO 23 0,mO 24 7,iO 25 35 23 24,lS 26 51 25 3,mO 27 1,mO 28 7,iO 29 35 27 28,lS 30 51 29 7,⟨some 8,(.alloc 51),none,[0],8,[3,7],true⟩,⟨some 9,(.alloc 51),none,[1],9,[3,7,8],false⟩,⟨none,(.store 51 (xT 8) (xT 26)),none,[],10,[7],false⟩,sT 51 9 30] [0,1,2,7,8,9] (sQ [mO 31 2] [0,1,2,7,8,9,31] (cD 31 (sR [fO 32 51 9 2,lO 33 25 32,aL 10 25 [2],sT 25 10 33] [0,1,2,7,8,9,10] (sR [fO 34 51 9 3,lO 35 25 34,fO 36 51 9 2,sT 25 36 35] [0,1,2,7,8,9,10] (.reg [lO 37 25 10,fO 38 51 9 3,sT 25 38 37] [0,1,2,7,8,9]))) (.skip)) [0,1,2,7,8,9] FV))) (.keep [0,1,2,7] (.reg [mO 21 7,bQ .add 22 3 21 1 3,aO 7 22] [0,1,2,7]))) 
def Jf:CC:=sR [aB 6 false] [0,1,2] (sQ [mO 12 0,bN 13 12 35,mO 14 1,bN 15 14 35,bB .neq 16 3 13 15 3] [0,1,2,16] (cD 16 (sR [aB 6 false] [6] (.ret)) (.skip)) [0,1,2] (sQ [aI 7 0] [0,1,2,7] (.block 0 (.loop DW)) [] (sR [aB 6 true] [6] (.ret))))
theorem PN:BN Tryz.prog 17 88 [(.tmp 6)] Jf:=AD Tryz.func17
def Kl:CC:=sR [aL 2 25 [0]] [0,2] (sR [mO 3 0,oO 4 (.buildSlice 22 1 #[(0,(xT 3))]),oO 5 (.build 25 #[(0,(nI 1)),(1,(xT 4))]),sT 25 2 5] [2] (.ret))
theorem Qn:BN Tryz.prog 33 6 [(.cell 2 25)] Kl:=AD Tryz.func33
def IK:CC:=sR [bX 3 25 0 [0],bX 4 25 1 [1],bX 5 25 2 [2],aB 6 false] [3,4,5] (sR [lO 7 25 3,cA 8 39 7 25,mO 9 8,lG 10 25 4 9 true,oG 11 (cL 39 #[(xT 10)] #[25]) 9 true,pF 12 9 11,mO 13 12,lG 14 25 5 13 true,oG 15 (cL 39 #[(xT 14)] #[25]) 13 true,pF 16 13 15,aO 6 16] [6] (.ret))
theorem N5:BN Tryz.prog 18 17 [(.tmp 6)] IK:=AD Tryz.func18
def IM:CC:=sR [aB 0 false] [] (sR [oO 4 (cL 33 #[(.const (.int .u64 1))] #[61]),oO 5 (cL 33 #[(.const (.int .u64 2))] #[61]),oO 6 (cL 33 #[(.const (.int .u64 3))] #[61]),oO 7 (cL 19 #[(xT 4),(xT 5),(xT 6),(nI 9)] #[25,25,25,3]),mO 3 7,xO 8 3 0,xO 9 3 1,aL 1 25 [0],sT 25 1 8,aO 2 9] [1,2] (sR [lS 10 25 1 0,⟨some 11,(cL 33 #[(.const (.int .u64 1))] #[61]),none,[],1,[0],false⟩,cB 12 16 10 11 25 25,mO 13 12,mG 14 2 13 true,oG 15 (bL 14 35) 13 true,oG 16 (.binOp .eql 3 (xT 15) (nI 1) 3) 13 true,pF 17 13 16,mO 18 17,mG 19 2 18 true,oG 20 (.indexAddr 35 (xT 19) (nI 0)) 18 true,fG 21 51 20 0 18 true,lG 22 49 21 18 true,oG 23 (bL 22 49) 18 true,oG 24 (.binOp .eql 3 (xT 23) (nI 1) 3) 18 true,pF 25 18 24,mO 26 25,mG 27 2 26 true,oG 28 (.indexAddr 35 (xT 27) (nI 0)) 26 true,fG 29 51 28 0 26 true,lG 30 49 29 26 true,oG 31 (.indexAddr 49 (xT 30) (nI 0)) 26 true,lG 32 65 31 26 true,oG 33 (.build 65 #[(0,(nI 1))]) 26 true,oG 34 (bO .eql 65 32 33 65) 26 true,pF 35 26 34,mO 36 35,mG 37 2 36 true,oG 38 (.indexAddr 35 (xT 37) (nI 0)) 36 true,fG 39 51 38 2 36 true,⟨some 40,(lD 25 39),(some (36,true)),[],30,[],true⟩,⟨some 41,(cL 33 #[(.const (.int .u64 2))] #[61]),(some (36,true)),[],31,[30],false⟩,oG 42 (cL 16 #[(xT 40),(xT 41)] #[25,25]) 36 true,pF 43 36 42,mO 44 43,mG 45 2 44 true,oG 46 (.indexAddr 35 (xT 45) (nI 0)) 44 true,fG 47 51 46 3 44 true,⟨some 48,(lD 25 47),(some (44,true)),[],38,[],true⟩,⟨some 49,(cL 33 #[(.const (.int .u64 3))] #[61]),(some (44,true)),[],39,[38],false⟩,oG 50 (cL 16 #[(xT 48),(xT 49)] #[25,25]) 44 true,pF 51 44 50,mO 52 51,mG 53 2 52 true,oG 54 (.indexAddr 35 (xT 53) (nI 0)) 52 true,fG 55 51 54 1 52 true,⟨some 56,(lD 25 55),(some (52,true)),[],46,[],true⟩,⟨some 57,(cL 33 #[(.const (.int .u64 1))] #[61]),(some (52,true)),[],47,[46],false⟩,oG 58 (cL 16 #[(xT 56),(xT 57)] #[25,25]) 52 true,pF 59 52 58,aO 0 59] [0] (.ret)))
theorem NR:BN Tryz.prog 13 60 [(.tmp 0)] IM:=AD Tryz.func13
def GW:CC:=sR [bX 3 25 0 [0],bX 4 25 1 [1],aB 6 false] [2,3,4] (sQ [lO 14 25 3,lO 15 25 4,lO 16 25 4,cE 17 18 14 15 16 25 25 25,oO 18 (.unOp .not 4 (xT 17))] [2,3,4,18] (cD 18 (sR [oO 19 (cL 13 #[] #[]),aO 6 19] [6] (.ret)) (.skip)) [2,3,4] (sR [lO 20 25 4,cA 21 21 20 25,aL 7 25 [2],sT 25 7 21] [2,3,4,7] (sR [lO 23 25 3,lO 24 25 4,lO 25 25 3,mO 26 2,oO 27 (cL 19 #[(xT 23),(xT 24),(xT 25),(xT 26)] #[25,25,25,3]),mO 22 27,xO 28 22 0,xO 29 22 1,aL 8 25 [3],sT 25 8 28,aO 9 29] [2,3,4,7,8,9] (sR [lO 31 25 3,lO 32 25 3,lO 33 25 4,mO 34 2,oO 35 (cL 19 #[(xT 31),(xT 32),(xT 33),(xT 34)] #[25,25,25,3]),mO 30 35,xO 36 30 0,xO 37 30 1,aL 10 25 [4],sT 25 10 36,aO 11 37] [2,3,4,7,8,9,10,11] (sR [lO 39 25 3,lO 40 25 4,lO 41 25 4,mO 42 2,oO 43 (cL 19 #[(xT 39),(xT 40),(xT 41),(xT 42)] #[25,25,25,3]),mO 38 43,xO 44 38 0,xO 45 38 1,aL 12 25 [5],sT 25 12 44,aO 13 45] [7,8,9,10,11,12,13] (sR [lO 46 25 8,lO 47 25 7,cB 48 16 46 47 25 25,mO 49 48,lG 50 25 10 49 true,lG 51 25 7 49 true,oG 52 (cL 16 #[(xT 50),(xT 51)] #[25,25]) 49 true,pF 53 49 52,mO 54 53,lG 55 25 12 54 true,lG 56 25 7 54 true,oG 57 (cL 16 #[(xT 55),(xT 56)] #[25,25]) 54 true,pF 58 54 57,mO 59 58,mG 60 9 59 true,oG 61 (bL 60 35) 59 true,mG 62 11 59 true,oG 63 (bL 62 35) 59 true,oG 64 (bO .add 3 61 63 3) 59 true,mG 65 13 59 true,oG 66 (bL 65 35) 59 true,oG 67 (bO .add 3 64 66 3) 59 true,oG 68 (.binOp .eql 3 (xT 67) (nI 0) 3) 59 true,pF 69 59 68,mO 70 69,oG 71 (cL 13 #[] #[]) 70 true,pF 72 70 71,aO 6 72] [6] (.ret)))))))
theorem Lr:BN Tryz.prog 6 73 [(.tmp 6)] GW:=AD Tryz.func6
def FG:CC:=sR [bX 4 25 0 [0],bX 5 25 1 [1],bX 6 25 2 [2],aB 8 false] [3,4,5,6] (sQ [lO 13 25 4,lO 14 25 5,lO 15 25 6,cE 16 18 13 14 15 25 25 25,oO 17 (.unOp .not 4 (xT 16))] [3,4,5,6,17] (cD 17 (sR [oO 18 (cL 13 #[] #[]),aO 8 18] [8] (.ret)) (.skip)) [3,4,5,6] (sR [lO 20 25 4,lO 21 25 5,lO 22 25 6,mO 23 3,oO 24 (cL 19 #[(xT 20),(xT 21),(xT 22),(xT 23)] #[25,25,25,3]),mO 19 24,xO 25 19 0,xO 26 19 1,aL 9 25 [3],sT 25 9 25,aO 10 26] [3,4,5,6,9,10] (sR [lO 28 25 4,lO 29 25 6,lO 30 25 5,mO 31 3,oO 32 (cL 19 #[(xT 28),(xT 29),(xT 30),(xT 31)] #[25,25,25,3]),mO 27 32,xO 33 27 0,xO 34 27 1,aL 11 25 [4],sT 25 11 33,aO 12 34] [9,10,11,12] (sR [lO 35 25 9,lO 36 25 11,cB 37 16 35 36 25 25,mO 38 37,mG 39 10 38 true,mG 40 12 38 true,oG 41 (cL 17 #[(xT 39),(xT 40),(nB true)] #[35,35,4]) 38 true,pF 42 38 41,mO 43 42,oG 44 (cL 13 #[] #[]) 43 true,pF 45 43 44,aO 8 45] [8] (.ret)))))
theorem JS:BN Tryz.prog 5 46 [(.tmp 8)] FG:=AD Tryz.func5
def J3:CC:=sR [bB .lss 10 3 9 8 3] [2,3,7,8,9,10] (.seq (cD 10 (.skip) (.exit 0)) (.keep [2,3,7,8,9] (.seq (.block 1 (sR [iO 11 35 7 9,lO 12 51 11,aL 5 51 [2],sT 51 5 12] [2,3,5,7,8,9] (.reg [fO 13 25 3 2,lS 14 23 13 1,lO 15 51 5,⟨some 16,(cL 68 #[(xT 15)] #[51]),none,[],3,[1],false⟩,⟨some 17,(.buildSlice 23 1 #[(0,(xT 16))]),none,[],4,[1],false⟩,aP 18 14 17 23 23 [3],fO 19 25 3 2,sT 23 19 18] [2,3,7,8,9]))) (.reg [bQ .add 20 3 9 1 3,mO 9 20] [2,3,7,8,9])))) 
def K4:CC:=sR [aL 2 25 [0]] [0,2] (sR [oO 6 (.build 25 #[(0,(nI 9))]),aL 3 25 [1],sT 25 3 6] [0,2,3] (sQ [mO 7 0,bN 8 7 35,oO 9 (.move (nI 0))] [2,3,7,8,9] (.block 0 (.loop J3)) [2,3] (sR [lO 21 25 3,sT 25 2 21] [2] (.ret))))
theorem RF:BN Tryz.prog 42 22 [(.cell 2 25)] K4:=AD Tryz.func42
def Kj:CC:=sR [bB .lss 13 3 12 11 3] [1,4,10,11,12,13] (.seq (cD 13 (.skip) (.exit 0)) (.keep [1,4,10,11,12] (.seq (.block 1 (sR [iO 14 23 10 12,lO 15 25 14,aL 6 25 [1],sT 25 6 15] [1,4,6,10,11,12] (sR [lO 17 25 6,oO 18 (cL 70 #[(xT 17),(nI 0)] #[25,3]),cA 19 69 18 25,mO 16 19,xO 20 16 0,xO 21 16 1,aO 7 20,aO 8 21] [1,4,6,7,8,10,11,12] (sQ [mO 22 8,oO 23 (.unOp .not 4 (xT 22))] [1,4,6,7,10,11,12,23] (cD 23 (sR [aN 2,aB 3 false] [2,3] (.ret)) (.skip)) [1,4,6,7,10,11,12] (.reg [mO 24 4,mO 25 7,lO 26 25 6,⟨some 27,(cL 70 #[(xT 26),(nI 1)] #[25,3]),none,[],3,[],true⟩,⟨some 28,(lD 25 6),none,[],4,[3],false⟩,⟨some 29,(cL 70 #[(xT 28),(nI 2)] #[25,3]),none,[],5,[],true⟩,⟨some 30,(lD 25 6),none,[],6,[3,5],false⟩,oO 31 (cL 70 #[(xT 30),(nI 3)] #[25,3]),oO 32 (.build 51 #[(0,(xT 25)),(1,(xT 27)),(2,(xT 29)),(3,(xT 31))]),oO 33 (.buildSlice 35 1 #[(0,(xT 32))]),aP 34 24 33 35 35 [2],aO 4 34] [1,4,10,11,12]))))) (.keep [1,4,10,11,12] (.reg [bQ .add 35 3 12 1 3,mO 12 35] [1,4,10,11,12]))))) 
def KY:CC:=sR [bX 1 25 0 [0],aN 2,aB 3 false] [1] (sR [aN 4] [1,4] (sQ [fO 9 25 1 2,lO 10 23 9,bN 11 10 23,oO 12 (.move (nI 0))] [1,4,10,11,12] (.block 0 (.loop Kj)) [1,4] (sQ [mO 36 4,⟨some 37,(cL 42 #[(xT 36)] #[35]),none,[],1,[],true⟩,⟨some 38,(lD 25 1),none,[],2,[1],false⟩,cB 39 57 37 38 25 25,oO 40 (.unOp .not 4 (xT 39))] [4,40] (cD 40 (sR [aN 2,aB 3 false] [2,3] (.ret)) (.skip)) [4] (sR [mO 41 4,aO 2 41,aB 3 true] [2,3] (.ret)))))
theorem RC:BN Tryz.prog 43 42 [(.tmp 2),(.tmp 3)] KY:=AD Tryz.func43
def Ea:CC:=sR [bB .lss 9 3 8 7 3] [3,6,7,8,9] (.seq (cD 9 (.skip) (.exit 0)) (.keep [3,6,7,8] (.seq (.block 1 (sR [iO 10 35 6 8,lO 11 51 10,aL 5 51 [0],sT 51 5 11] [3,5,6,7,8] (sR [fO 12 51 5 3,lO 13 25 12,fO 14 51 5 2,lO 15 25 14,fO 16 51 5 2,sT 25 16 13,fO 17 51 5 3,sT 25 17 15] [3,5,6,7,8] (.reg [mO 18 3,lO 19 51 5,oO 20 (.buildSlice 35 1 #[(0,(xT 19))]),aP 21 18 20 35 35 [1],aO 3 21] [3,6,7,8])))) (.reg [bQ .add 22 3 8 1 3,mO 8 22] [3,6,7,8])))) 
def Jt:CC:=sR [aN 2] [0] (sR [aN 3] [0,3] (sQ [mO 6 0,bN 7 6 35,oO 8 (.move (nI 0))] [3,6,7,8] (.block 0 (.loop Ea)) [3] (sR [mO 23 3,aO 2 23] [2] (.ret))))
theorem Pm:BN Tryz.prog 23 24 [(.tmp 2)] Jt:=AD Tryz.func23
def Iz:CC:=sR [aB 0 false] [] (sR [oO 4 (cL 42 #[nS] #[35]),aL 1 25 [0],sT 25 1 4] [1] (sR [oO 6 (.build 25 #[(0,(nI 9))]),cA 7 43 6 25,mO 5 7,xO 8 5 0,xO 9 5 1,aO 2 8,aO 3 9] [1,2,3] (sR [fO 10 25 1 0,lO 11 3 10,bQ .eql 12 3 11 9 3,mO 13 12,fG 14 25 1 2 13 true,lG 15 23 14 13 true,oG 16 (bL 15 23) 13 true,oG 17 (.binOp .eql 3 (xT 16) (nI 0) 3) 13 true,pF 18 13 17,mO 19 18,mG 20 3 19 true,pF 21 19 20,mO 22 21,mG 23 2 22 true,oG 24 (bL 23 35) 22 true,oG 25 (.binOp .eql 3 (xT 24) (nI 0) 3) 22 true,pF 26 22 25,aO 0 26] [0] (.ret))))
theorem NT:BN Tryz.prog 24 27 [(.tmp 0)] Iz:=AD Tryz.func24
def EH:CC:=sR [bX 6 25 1 [0],bX 7 25 2 [1],bX 8 25 3 [2],aB 10 false] [0,4,6,7,8] (sQ [mO 15 0,cA 16 23 15 35,cA 17 23 16 35,mO 18 0,oO 19 (cL 17 #[(xT 17),(xT 18),(nB false)] #[35,35,4]),oO 20 (.unOp .not 4 (xT 19)),mO 21 20,mG 22 0 21 false,oG 23 (cL 23 #[(xT 22)] #[35]) 21 false,mG 24 0 21 false,oG 25 (cL 17 #[(xT 23),(xT 24),(nB true)] #[35,35,4]) 21 false,oG 26 (.unOp .not 4 (xT 25)) 21 false,pT 27 21 26] [4,6,7,8,27] (cD 27 (sR [aB 10 false] [10] (.ret)) (.skip)) [4,6,7,8] (sQ [lO 28 25 6,lO 29 25 7,lO 30 25 8,cE 31 18 28 29 30 25 25 25,oO 32 (.unOp .not 4 (xT 31))] [4,6,7,8,32] (cD 32 (sR [oO 33 (cL 24 #[] #[]),aO 10 33] [10] (.ret)) (.skip)) [4,6,7,8] (sR [lO 35 25 6,lO 36 25 7,lO 37 25 8,mO 38 4,oO 39 (cL 19 #[(xT 35),(xT 36),(xT 37),(xT 38)] #[25,25,25,3]),mO 34 39,xO 40 34 0,xO 41 34 1,aL 11 25 [3],sT 25 11 40,aO 12 41] [4,6,7,8,12] (sR [lO 43 25 6,lO 44 25 8,lO 45 25 7,mO 46 4,oO 47 (cL 19 #[(xT 43),(xT 44),(xT 45),(xT 46)] #[25,25,25,3]),mO 42 47,xO 48 42 0,xO 49 42 1,aL 13 25 [4],sT 25 13 48,aO 14 49] [12,14] (sR [mO 50 12,cA 51 23 50 35,mO 52 14,oO 53 (cL 17 #[(xT 51),(xT 52),(nB false)] #[35,35,4]),mO 54 53,oG 55 (cL 24 #[] #[]) 54 true,pF 56 54 55,aO 10 56] [10] (.ret))))))
theorem Ie:BN Tryz.prog 8 57 [(.tmp 10)] EH:=AD Tryz.func8
end Go.Proofs.YtndnlknocdangaaGreat
namespace Go.Proofs.YtndnlknocdangaaGreat
open Go Go.G Go.Proofs Go.PL
def bI (c:Cf):Prop:=AK c.base∧AK c.ours∧AK c.theirs
def Wy (t:Bool) (c:Cf):Cf:=if t=true then Co c else c
theorem jt (c:Cf):Co (Co c)=c:=rfl
variable {n0:Nat} {w0:World} {I0:Nat→Prop} {Q:Exit→Sta→Prop}
theorem o6 {l m:List Cf} {t:Bool} {k u0 u1:Nat} {c:Cf} (hp:c.path.length≤10000000000000) {H:Hp} (h0:H [0]=⟨u0,.cells (zd c)⟩) (h1:H [1]=⟨u1,.cells (zd c)⟩)
  (hq:Q (.exit 2) ⟨lk [(0,OA l),(1,OA m),(2,bv t),(7,iv k),(8,.pob [0] u0 0),(9,.pob [1] u1 0),(11,iv c.path.length),(74,bv false)],H⟩):∀ (j i:Nat),i+j=c.path.length →
  LoopC (cx Tryz.prog w0 I0 n0) Ed Q ⟨lk [(0,OA l),(1,OA m),(2,bv t),(7,iv k),(8,.pob [0] u0 0),(9,.pob [1] u1 0),(11,iv i)],H⟩:=by
 intro j;induction j with
 |zero=>
  intro i hj;have:i=c.path.length:=by omega
  subst this;refine Ab Ai Ed.eq_1 ?_;simp[h0,h1];exact hq
 |succ j ih=>
  intro i hj;have hlt:i<c.path.length:=by omega
  have ew:=AO i;refine Ab Ai Ed.eq_1 ?_;simp[h0,h1,hlt];rw[ew];exact ih (i+1) (by omega)
theorem Yx {l m:List Cf} {t:Bool} {k u0 u1:Nat} {c:Cf} (hc:bI c) (hp:c.path.length≤10000000000000) {H:Hp} (h0:H [0]=⟨u0,.cells (zd c)⟩) (h1:H [1]=⟨u1,.cells (zd c)⟩)
  (hq:∀ st,Q .normal ⟨lk ([(0,OA l),(1,OA m),(2,bv t),(7,iv k)]++st),H⟩) :
  WPC (cx Tryz.prog w0 I0 n0) FV Q ⟨lk [(0,OA l),(1,OA m),(2,bv t),(7,iv k),(8,.pob [0] u0 0),(9,.pob [1] u1 0)],H⟩:=by
 obtain⟨w1,w2,w3⟩:=hc;have S1:=F8 c.base w1 c.base;have S2:=F8 c.ours w2 c.ours;have S3:=F8 c.theirs w3 c.theirs;rw[show El c.base c.base=true from sameB_iff.2 rfl] at S1;rw[show El c.ours c.ours=true from sameB_iff.2 rfl] at S2;rw[show El c.theirs c.theirs=true from sameB_iff.2 rfl] at S3;rw[FV.eq_1];simp[h0,h1];refine D8 rfl (fun _=>S1) (fun _=>by simp) (by simp) ?_;simp[h0,h1];refine D8 rfl (fun _=>S2) (fun _=>by simp) (by simp) ?_;simp[h0,h1];refine D8 rfl (fun _=>S3) (fun _=>by simp) (by simp) ?_;simp;refine LoopC.le (Ao [(0,OA l),(1,OA m),(2,bv t),(7,iv k),(8,.pob [0] u0 0),(9,.pob [1] u1 0),(11,iv (0:Nat))] (by simp)) ?_;refine o6 (c:=c) hp h0 h1 ?_ c.path.length 0 (by omega);simp;have:=hq [(8,.pob [0] u0 0),(9,.pob [1] u1 0),(11,iv c.path.length),(74,bv false)];simpa using this
theorem me {l m:List Cf} {t:Bool} (hm:m=l.map (Wy t)) (hl:l.length≤10000000000000) (hw:∀ c,c ∈ l→bI c) (hp:∀ c,c ∈ l→c.path.length≤10000000000000)
  (hq:∀ H,Q (.exit 0) ⟨lk [(0,OA l),(1,OA m),(2,bv t),(7,iv l.length),(20,bv false)],H⟩):∀ (j i:Nat) (H:Hp),i+j=l.length →
  LoopC (cx Tryz.prog w0 I0 n0) DW Q ⟨lk [(0,OA l),(1,OA m),(2,bv t),(7,iv i)],H⟩:=by
 intro j;induction j with
 |zero=>
  intro i H hj;have:i=l.length:=by omega
  subst this;refine Ab Ai DW.eq_1 ?_;simp;exact hq H
 |succ j ih=>
  intro i H hj;have hlt:i<l.length:=by omega
  have hlt2:i<m.length:=by rw[hm,List.length_map];exact hlt
  have ew:=AO i;have hmi:m[i]=Wy t l[i]:=by simp[hm]
  have hc:=hw _ (Dg hlt);have hpp:=hp _ (Dg hlt);generalize hx:l[i]=c at *;refine Ab Ai DW.eq_1 ?_;cases t with
  |true=>
   simp[hlt,hlt2,hx,hmi,Aa,Wy,Co];refine Yx hc hpp (by simp[Aa]) (by simp[Aa]) fun st=>?_;simp[ew];exact ih (i+1) _ (by omega)
  |false=>
   simp[hlt,hlt2,hx,hmi,Aa,Wy];refine Yx hc hpp (by simp[Aa]) (by simp[Aa]) fun st=>?_;simp[ew];exact ih (i+1) _ (by omega)
theorem Jr {l m:List Cf} {t:Bool} (hm:m=l.map (Wy t)) (hl:l.length≤10000000000000) (hw:∀ c,c ∈ l→bI c) (hp:∀ c,c ∈ l→c.path.length≤10000000000000):G.Spec Tryz.prog 17 [OA l,OA m,bv t] (bv true):=by
 have hlen:m.length=l.length:=by rw[hm,List.length_map]
 refine Ak PN (by simp) fun w0 I0=>?_;unfold Jf;simp[hlen];refine LoopC.le (Ao [(0,OA l),(1,OA m),(2,bv t),(7,iv (0:Nat))] (by simp)) ?_;refine me hm hl hw hp (fun H=>?_) l.length 0 _ (by omega);simp;exact Ad rfl
def UW (u:U):Prop:=match u with
 |.ins t=>AK t
 |.desc e=>ND e
 |_=>True
theorem tH {os:List OP} (h:∀ o,o ∈ os→l8 o):∀ u,u ∈ JK os→UW u:=by
 intro u hu;obtain⟨o,ho,hu⟩:=List.mem_flatMap.1 hu;have:=h o ho;unfold Nv at hu;split at hu
 ·rw[List.eq_of_mem_replicate hu];trivial
 ·split at hu
  ·obtain⟨t,_,rfl⟩:=List.mem_map.1 hu;trivial
  ·split at hu
   ·obtain⟨t,ht,rfl⟩:=List.mem_map.1 hu;exact this.1 t ht
   ·rw[List.mem_singleton.1 hu];exact this.2
theorem NK:∀ {us:List U},(∀ u,u ∈ us→UW u)→(∀ t,t ∈ Gk us→AK t)∧∀ u,u ∈ DB us→UW u
 |[],_=>⟨fun t ht=>by simp[Gk] at ht,fun u hu=>by simp[DB] at hu⟩
 |.ins t::us,h=>by
  obtain⟨h1,h2⟩:=NK fun u hu=>h u (List.mem_cons_of_mem _ hu);refine⟨fun x hx=>?_,h2⟩;rcases List.mem_cons.1 hx with rfl | hx
  ·exact h (.ins x) (by simp)
  ·exact h1 x hx
 |.keep::us,h=>⟨fun t ht=>by simp[Gk] at ht,h⟩
 |.del t::us,h=>⟨fun t ht=>by simp[Gk] at ht,h⟩
 |.desc e::us,h=>⟨fun t ht=>by simp[Gk] at ht,h⟩
theorem mT {at':C3} {kind:Int} (hk:BG kind) {n:Nat} {a b:List T} (ha:∀ t,t ∈ a→AK t) (hb:∀ t,t ∈ b→AK t) (la:a.length≤1000000) (lb:b.length≤1000000):∀ c,c ∈ (FB at' kind n a b).2→bI c:=by
 intro c hc;unfold FB at hc;have w:∀ l:List T,(∀ t,t ∈ l→AK t)→l.length≤1000000→AK (Ag (.mk kind [] l)):=fun l h1 h2=>Cs _ (wfT_iff.2 ⟨hk,by simp,by simp,by show l.length*56≤_;omega,h1⟩);split at hc
 ·simp at hc
 ·split at hc
  ·simp at hc
  ·rw[List.mem_singleton.1 hc];exact⟨w [] (fun t ht=>by simp at ht) (by simp),w a ha la,w b hb lb⟩
def DnW (e:E) (x:T):Prop:=AK (IV e x)
theorem pQ {M:C3→T→E→E→T × List Cf} {R:E→T→T→Prop} {W:T→Prop} (hW:∀ k,W k→AK k) (hM:∀ at' k p q x y,W k→R p k x→R q k y→∀ c,c ∈ (M at' k p q).2→bI c) (h0:∀ k,W k→R E0 k k) (hD:∀ e k x,W k→R e k x→DnW e k) {at':C3} {k:T} (wk:W k) {u v:U} (hu:∃ x,R (eU u) k x) (hv:∃ x,R (eU v) k x):∀ c,c ∈ (Cn M at' k u v).2→bI c:=by
 obtain⟨x,hx⟩:=hu;obtain⟨y,hy⟩:=hv;intro c hc;cases u<;>cases v<;>simp only[Cn] at hc<;>first | exact hM _ _ _ _ _ _ wk hx hy c hc | (rw[List.mem_singleton.1 hc];exact⟨Cs k (hW k wk),dR,hD _ _ _ wk hy⟩) | (rw[List.mem_singleton.1 hc];exact⟨Cs k (hW k wk),hD _ _ _ wk hx,dR⟩) | (simp at hc)
theorem nD {R:E→T→T→Prop} {us:List U} {k:T} {ks ys:List T} (h:LdU R us (k::ks) ys):∃ y2,LdU R (DB us).tail ks y2∧(Ze (DB us) = .keep∨(∃ t,Ze (DB us) = .del t)∨∃ e x,Ze (DB us) = .desc e∧R e k x)∧y2.length≤ys.length∧(Gk us).length≤ys.length:=by
 obtain⟨y1,y2,rfl,h1,h2,h3⟩:=OX h;have hl:(Gk us).length=y1.length:=by simpa using congrArg List.length h1
 cases e:DB us with
 |nil=>rw[e] at h2;cases h2
 |cons u vs=>
  rw[e] at h2;cases h2 with
  |keep x y hh g=>exact⟨_,g,.inl rfl,by simp;omega,by simp;omega⟩
  |del t x hh g=>exact⟨_,g,.inr (.inl ⟨t,rfl⟩),by simp,by simp;omega⟩
  |ins t y hh g=>exact absurd e (h3 _ _)
  |desc ee x y hh g=>exact⟨_,g,.inr (.inr ⟨ee,y,rfl,hh⟩),by simp;omega,by simp;omega⟩
theorem tn {M:C3→T→E→E→T × List Cf} {R:E→T→T→Prop} {W:T→Prop} (hW:∀ k,W k→AK k) (hM:∀ at' k p q x y,W k→R p k x→R q k y→∀ c,c ∈ (M at' k p q).2→bI c) (h0:∀ k,W k→R E0 k k) (hD:∀ e k x,W k→R e k x→DnW e k) {at':C3} {kind:Int} (hk:BG kind):∀ (ks:List T) (us vs:List U) (ys zs:List T) (n:Nat),(∀ k,k ∈ ks→W k)→LdU R us ks ys→LdU R vs ks zs→(∀ u,u ∈ us→UW u)→(∀ u,u ∈ vs→UW u)→ys.length≤1000000→zs.length≤1000000→∀ c,c ∈ (La M at' kind ks us vs n).2→bI c
 |[],us,vs,ys,zs,n,_,hu,hv,wu,wv,ly,lz=>by
  obtain⟨y1,y2,rfl,h1,_,_⟩:=OX hu;obtain⟨z1,z2,rfl,g1,_,_⟩:=OX hv;have hl:(Gk us).length=y1.length:=by simpa using congrArg List.length h1
  have gl:(Gk vs).length=z1.length:=by simpa using congrArg List.length g1
  rw[List.length_append] at ly lz;rw[La];exact mT hk (NK wu).1 (NK wv).1 (by omega) (by omega)
 |k::ks,us,vs,ys,zs,n,wk,hu,hv,wu,wv,ly,lz=>by
  obtain⟨y2,a1,a2,a3,a4⟩:=nD hu;obtain⟨z2,b1,b2,b3,b4⟩:=nD hv;have ih:=tn hW hM h0 hD (at':=at') hk ks (DB us).tail (DB vs).tail y2 z2 (n+1) (fun x hx=>wk x (List.mem_cons_of_mem _ hx)) a1 b1 (fun u hu=>(NK wu).2 u (List.mem_of_mem_tail hu)) (fun u hu=>(NK wv).2 u (List.mem_of_mem_tail hu)) (by omega) (by omega);have wkk:=wk k (by simp);have ex:∀ u:U,(u = .keep∨(∃ t,u = .del t)∨∃ e x,u = .desc e∧R e k x)→∃ x,R (eU u) k x:=fun u h=>by
   rcases h with rfl | ⟨t,rfl⟩ | ⟨e,x,rfl,h⟩
   ·exact⟨k,h0 k wkk⟩
   ·exact⟨k,h0 k wkk⟩
   ·exact⟨x,h⟩
  have hU:=pQ hW hM h0 hD (at':=at'++[(0,(n:Int))]) wkk (ex _ a2) (ex _ b2);intro c hc;simp only[La,List.mem_append] at hc;rcases hc with hc | hc | hc
  ·exact mT hk (NK wu).1 (NK wv).1 (by omega) (by omega) c hc
  ·exact hU c hc
  ·exact ih c hc
theorem fM {R R':E→T→T→Prop} {us:List U} {a b:List T} (h:LdU R us a b):(∀ e,U.desc e ∈ us→ND e)→(∀ e x y,x ∈ a→y ∈ b→ND e→R e x y→R' e x y)→LdU R' us a b:=by
 induction h with
 |nil=>exact fun _ _=>.nil
 |keep x y h g ih=>exact fun hw hR=>.keep x y h (ih (fun e he=>hw e (List.mem_cons_of_mem _ he)) fun e x y hx hy=>hR e x y (List.mem_cons_of_mem _ hx) (List.mem_cons_of_mem _ hy))
 |del t x h g ih=>exact fun hw hR=>.del t x h (ih (fun e he=>hw e (List.mem_cons_of_mem _ he)) fun e x y hx hy=>hR e x y (List.mem_cons_of_mem _ hx) hy)
 |ins t y h g ih=>exact fun hw hR=>.ins t y h (ih (fun e he=>hw e (List.mem_cons_of_mem _ he)) fun e x y hx hy=>hR e x y hx (List.mem_cons_of_mem _ hy))
 |desc e x y h g ih=>exact fun hw hR=>.desc e x y (hR e x y (by simp) (by simp) (hw e (by simp)) h) (ih (fun e he=>hw e (List.mem_cons_of_mem _ he)) fun e x y hx hy=>hR e x y (List.mem_cons_of_mem _ hx) (List.mem_cons_of_mem _ hy))
theorem nH {R:E→T→T→Prop} {os:List OP} {a b:List T} (h:LdO R os a b) (hw:∀ o,o ∈ os→ND o.e):∀ e,U.desc e ∈ JK os→ND e:=by
 intro e he;obtain⟨o,ho,he⟩:=List.mem_flatMap.1 he;unfold Nv at he;split at he
 ·exact absurd (List.eq_of_mem_replicate he) (by simp)
 ·split at he
  ·obtain⟨t,_,h⟩:=List.mem_map.1 he;cases h
  ·split at he
   ·obtain⟨t,_,h⟩:=List.mem_map.1 he;cases h
   ·have:=List.mem_singleton.1 he;cases this;exact hw o ho
theorem AgQ:∀ (f:Nat) (at':C3) (o:T) (p q:E) (x y:T),ia f p o x→ia f q o y→∀ c,c ∈ (mg f at' o p q).2→bI c:=by
 have base:∀ (f:Nat) (at':C3) (o:T) (p q:E) (x y:T),ia f p o x→ia f q o y→∀ c,c ∈ (Ur at' o p q).2→bI c:=fun f at' o p q x y hp hq c hc=>by
  unfold Ur at hc;split at hc
  ·simp at hc
  ·split at hc
   ·simp at hc
   ·split at hc
    ·simp at hc
    ·rw[List.mem_singleton.1 hc,Ow hp.1,Ow hq.1];exact⟨Cs o hp.2.2.1,Cs x hp.2.2.2.1,Cs y hq.2.2.2.1⟩
 intro f;induction f with
 |zero=>exact base 0
 |succ f ih=>
  intro at' o p q x y hp hq c hc;rw[mg] at hc;split at hc
  ·rename_i k2;obtain⟨hp1,hp2,hp3,hp4,hp5,hp6⟩:=hp;obtain⟨hq1,hq2,hq3,hq4,hq5,hq6⟩:=hq;rcases hp1 with h | ⟨ws,ks,rfl,h1,h2,h3,h4⟩ | ⟨os,rfl,h1,h2,hv,h3⟩
   ·rcases h with ⟨rfl,_⟩ | ⟨_,_,rfl,_⟩<;>exact absurd k2.1 (by simp)
   rotate_left
   ·exact absurd k2.1 (by simp)
   rcases hq1 with g | ⟨ws',ks',rfl,g1,g2,g3,g4⟩ | ⟨os',rfl,g1,g2,gv,g3⟩
   ·rcases g with ⟨rfl,_⟩ | ⟨_,_,rfl,_⟩<;>exact absurd k2.2 (by simp)
   rotate_left
   ·exact absurd k2.2 (by simp)
   have P:=wfE_iff.1 hp2;have Q:=wfE_iff.1 hq2;unfold fh at hc;rcases List.mem_append.1 hc with hc | hc
   ·obtain⟨i,_,hc⟩:=List.mem_flatMap.1 hc;unfold Oz at hc;split at hc
    ·rw[List.mem_singleton.1 hc];exact⟨Cs _ (IQ (Ge (wfT_iff.1 hp3).w i)),Cs _ (IQ (DT _ _ _)),Cs _ (IQ (DT _ _ _))⟩
    ·simp at hc
   ·obtain⟨i,_,hc⟩:=List.mem_flatMap.1 hc;have a1:Ld f (GJ ks i) (o.kids.getD i T0) (x.kids.getD i T0):=Ub (fun x y h=>MJ (.inl ⟨rfl,h⟩)) h4 i (Nat.zero_le _);have a2:Ld f (GJ ks' i) (o.kids.getD i T0) (y.kids.getD i T0):=Ub (fun x y h=>MJ (.inl ⟨rfl,h⟩)) g4 i (Nat.zero_le _);exact ih _ _ _ _ _ _ ⟨a1,Vw CE (fun x h=>(P.ks x h).2) i,GC hp3 i,GC hp4 i,Rr hp5 i,Rr hp6 i⟩ ⟨a2,Vw CE (fun x h=>(Q.ks x h).2) i,GC hp3 i,GC hq4 i,Rr hp5 i,Rr hq6 i⟩ c hc
  ·split at hc
   ·rename_i k2 k3;obtain⟨hp1,hp2,hp3,hp4,hp5,hp6⟩:=hp;obtain⟨hq1,hq2,hq3,hq4,hq5,hq6⟩:=hq;rcases hp1 with h | ⟨ws,ks,rfl,h1,h2,h3,h4⟩ | ⟨os,rfl,h1,h2,hv,h3⟩
    ·rcases h with ⟨rfl,_⟩ | ⟨_,_,rfl,_⟩<;>exact absurd k3.1 (by simp)
    ·exact absurd k3.1 (by simp)
    rcases hq1 with g | ⟨ws',ks',rfl,g1,g2,g3,g4⟩ | ⟨os',rfl,g1,g2,gv,g3⟩
    ·rcases g with ⟨rfl,_⟩ | ⟨_,_,rfl,_⟩<;>exact absurd k3.2 (by simp)
    ·exact absurd k3.2 (by simp)
    have P:=wfE_iff.1 hp2;have Q:=wfE_iff.1 hq2;have O:=wfT_iff.1 hp3;have X:=wfT_iff.1 hp4;have Y:=wfT_iff.1 hq4;have s4:=hp6.2.1;have s6:=hq6.2.1;have p1:=nH h3 (fun o ho=>(P.os o ho).e);have q1:=nH g3 (fun o ho=>(Q.os o ho).e);have u1:LdU (ia f) (JK os) o.kids x.kids:=fM (bF h3) p1 fun e a b ha hb he r=>⟨r,he,O.ks a ha,X.ks b hb,hp5.2.2 a ha,hp6.2.2 b hb⟩;have u2:LdU (ia f) (JK os') o.kids y.kids:=fM (bF g3) q1 fun e a b ha hb he r=>⟨r,he,O.ks a ha,Y.ks b hb,hp5.2.2 a ha,hq6.2.2 b hb⟩;exact tn (W:=fun k=>AK k∧Sq f k) (fun k h=>h.1) (fun at' k p q x y _ h1 h2=>ih at' k p q x y h1 h2) (fun k h=>bc h.1 h.2) (fun e k x _ h=>by
     unfold DnW;rw[Ow h.1];exact Cs x h.2.2.2.1) O.k o.kids (JK os) (JK os') x.kids y.kids 0 (fun k hk=>⟨O.ks k hk,hp5.2.2 k hk⟩) u1 u2 (tH fun o ho=>⟨(P.os o ho).l,(P.os o ho).e⟩) (tH fun o ho=>⟨(Q.os o ho).l,(Q.os o ho).e⟩) (by omega) (by omega) c hc
   ·exact base (f+1) at' o p q x y hp hq c hc
theorem p6:∀ (f:Nat) (at':C3) (o:T) (p q:E),∀ c,c ∈ (mg f at' o p q).2→c.path.length≤at'.length+f+1:=by
 have base:∀ (at':C3) (o:T) (p q:E),∀ c,c ∈ (Ur at' o p q).2→c.path.length≤at'.length:=fun at' o p q c hc=>by
  unfold Ur at hc;split at hc
  ·simp at hc
  ·split at hc
   ·simp at hc
   ·split at hc
    ·simp at hc
    ·rw[List.mem_singleton.1 hc];exact Cc _
 have gap:∀ (at':C3) (kind:Int) (n:Nat) (a b:List T),∀ c,c ∈ (FB at' kind n a b).2→c.path.length≤at'.length+1:=fun at' kind n a b c hc=>by
  unfold FB at hc;split at hc
  ·simp at hc
  ·split at hc
   ·simp at hc
   ·rw[List.mem_singleton.1 hc];simp
 have lst:∀ (f:Nat),(∀ (at':C3) (o:T) (p q:E),∀ c,c ∈ (mg f at' o p q).2→c.path.length≤at'.length+f+1)→∀ (at':C3) (kind:Int) (ks:List T) (us vs:List U) (n:Nat),∀ c,c ∈ (La (mg f) at' kind ks us vs n).2→c.path.length≤at'.length+f+2:=fun f ih at' kind ks=>by
  induction ks with
  |nil=>
   intro us vs n c hc;rw[La] at hc;have:=gap _ _ _ _ _ c hc;omega
  |cons k ks ihk=>
   intro us vs n c hc;simp only[La,List.mem_append] at hc;rcases hc with hc | hc | hc
   ·have:=gap _ _ _ _ _ c hc;omega
   ·generalize Ze (DB us)=u at hc;generalize Ze (DB vs)=v at hc;cases u<;>cases v<;>simp only[Cn] at hc<;>first | (have:=ih _ _ _ _ c hc;simp at this;omega) | (rw[List.mem_singleton.1 hc];simp;omega) | (simp at hc)
   ·exact ihk _ _ _ c hc
 intro f;induction f with
 |zero=>
  intro at' o p q c hc;have:=base _ _ _ _ c hc;omega
 |succ f ih=>
  intro at' o p q c hc;rw[mg] at hc;split at hc
  ·unfold fh at hc;rcases List.mem_append.1 hc with hc | hc
   ·obtain⟨i,_,hc⟩:=List.mem_flatMap.1 hc;unfold Oz at hc;split at hc
    ·rw[List.mem_singleton.1 hc];simp
    ·simp at hc
   ·obtain⟨i,_,hc⟩:=List.mem_flatMap.1 hc;have:=ih _ _ _ _ c hc;simp at this;omega
  ·split at hc
   ·have:=lst f ih _ _ _ _ _ _ c hc;omega
   ·have:=base _ _ _ _ c hc;omega
theorem ir {f:Nat} {at':C3} {o:T} {p q:E} (h:q.kind=0):mg f at' o p q=(IV p o,[]):=by
 by_cases hp:p.kind=0
 ·rw[XZ hp,Pd h,Pd hp]
 ·have e:mg f at' o p q=Ur at' o p q:=by
   cases f with
   |zero=>rfl
   |succ f=>rw[mg,if_neg (by omega),if_neg (by omega)]
  rw[e,Ur,if_neg hp,if_pos h]
section
variable {o x y:T} {most:Int}
structure EU (t:T):Prop where
 w:AK t
 p:A8 t≤1000
 r:B5 64 t=true
theorem LF {t:T} (h:AK t) (g:D4 t=true):EU t:=by
 have:=XQ g;exact⟨h,by omega,this.2.1⟩
theorem Qd (ho:EU o) (hx:EU x) (hy:EU y):EK most o y x=((EK most o x y).1,(EK most o x y).2.map Co):=
 eE 1000 [] (Ag o) (Uv most o x) (Uv most o y) (nj ho.w hx.w ho.p hx.p) (nj ho.w hy.w ho.p hy.p)
theorem S8 (ho:EU o) (hx:EU x):EK most o x o=(Ag x,[]):=by
 unfold EK;rw[ir ((sd ho.w ho.w ho.p ho.p ho.r ho.r).2 (eqT_iff.2 rfl)),Ow (fN ho.w hx.w ho.p hx.p ho.r hx.r),Cm]
theorem ik (ho:EU o) (hx:EU x):EK most o o x=(Ag x,[]):=by
 rw[Qd ho hx ho,S8 ho hx];rfl
theorem gZ (ho:EU o) (hx:EU x):EK most o x x=(Ag x,[]):=by
 unfold EK;rw[vT 1000 [] _ _ _ (Cs o ho.w) (fN ho.w hx.w ho.p hx.p ho.r hx.r),Cm]
theorem aZ (ho:EU o) (hx:EU x) (hy:EU y):(∀ c,c ∈ (EK most o x y).2→bI c)∧(∀ c,c ∈ (EK most o x y).2→c.path.length≤10000000000000)∧(EK most o x y).2.length≤10000000000000∧AK (EK most o x y).1∧Ag (EK most o x y).1=(EK most o x y).1:=by
 have l1:=XK (most:=most) ho.w hx.w ho.p hx.p ho.r hx.r;have l2:=XK (most:=most) ho.w hy.w ho.p hy.p ho.r hy.r;obtain⟨u,u1,u2,_⟩:=sC 1000 _ _ _ _ _ l1 l2 [] (by simp);have L:=W8 (y:=y) ho.w hx.w ho.p hx.p ho.r hx.r most;refine⟨AgQ 1000 [] _ _ _ _ _ l1 l2,fun c hc=>?_,by omega,?_,?_⟩
 ·have:=p6 1000 [] _ _ _ c hc;simp at this;omega
 ·show AK (mg 1000 [] (Ag o) (Uv most o x) (Uv most o y)).1;rw[← u2];exact Cs u u1
 ·show Ag (mg 1000 [] (Ag o) (Uv most o x) (Uv most o y)).1=(mg 1000 [] (Ag o) (Uv most o x) (Uv most o y)).1;rw[← u2,Cm]
theorem Jg (ho:EU o) (hx:EU x) (hy:EU y) (hm:BG most):G.Spec Tryz.prog 19 [tX o,tX x,tX y,iv most] (.tup [tX (EK most o x y).1,OA (EK most o x y).2]):=Y8 ho.w hx.w hy.w ho.p hx.p hy.p ho.r hx.r hy.r hm
end
theorem NG {o x y:T} (ho:AK o) (hx:AK x) (hy:AK y):G.Spec Tryz.prog 18 [tX o,tX x,tX y] (bv (D4 o&&D4 x&&D4 y)):=by
 have G1:=Mj ho;have G2:=Mj hx;have G3:=Mj hy;refine Ak N5 (by simp) fun w0 I0=>?_;unfold IK;simp;refine Af G1 (by simp) ?_;cases h1:D4 o with
 |false=>
  simp;refine Bs rfl ?_;simp;refine Bs rfl ?_;simp;exact Ad rfl
 |true=>
  simp;refine BJ rfl (fun _=>G2) (fun _=>by simp) (by simp) ?_;cases h2:D4 x with
  |false=>
   simp;refine Bs rfl ?_;simp;exact Ad rfl
  |true=>
   simp;refine BJ rfl (fun _=>G3) (fun _=>by simp) (by simp) ?_;simp;exact Ad rfl
theorem Oc (w:Int):G.Spec Tryz.prog 33 [uv w] (tX (Cr w)):=by
 refine Ak Qn (by simp) fun w0 I0=>?_;unfold Kl;simp;exact CH ⟨Ad rfl,An,An,trivial⟩
theorem EZ {w:Int} (h:w ≠ 0):Ag (Cr w)=Cr w:=by
 unfold Cr;rw[CU,if_neg (by decide),if_pos rfl];simp[CY,h]
theorem YH {a b:Int} (ha:a ≠ 0) (hb:b ≠ 0) (hne:a ≠ b) (hu:DR a b ≠ 0) (most:Int):Uv most (Cr a) (Cr b) = .mk 2 T0 T0 [X8 0 a b] [] 0 []:=by
 have he:Ln (Cr a) (Cr b)=false:=by
  rw[Bool.eq_false_iff];intro h;rw[eqT_iff,EZ ha,EZ hb] at h;exact hne (by simpa[Cr] using h)
 unfold Uv;rw[EZ ha,EZ hb,show(1000:Nat)=999+1 from rfl,Oo,he];rw[if_neg (by simp),if_pos (by simp[Cr])];unfold cz;rw[II];simp[J2,Eu,Cr,hu,List.range_succ]
theorem iw:EK 9 (Cr 1) (Cr 2) (Cr 3)=(Cr 1,[⟨[(1,0)],Cr 1,Cr 2,Cr 3⟩]):=by
 have u2:DR 1 2=1:=by decide
 have u3:DR 1 3=1:=by decide
 have d2:=YH (a:=1) (b:=2) (by decide) (by decide) (by decide) (by rw[u2];decide) 9;have d3:=YH (a:=1) (b:=3) (by decide) (by decide) (by decide) (by rw[u3];decide) 9;have c1:JR (X8 0 1 2) (X8 0 1 3)=true:=by decide
 have m2:BP 1 (X8 0 1 2).new (X8 0 1 2).mask=2:=by decide
 have m3:BP 1 (X8 0 1 3).new (X8 0 1 3).mask=3:=by decide
 unfold EK;rw[EZ (by decide),d2,d3,show(1000:Nat)=999+1 from rfl,mg,if_pos ⟨rfl,rfl⟩];have t1:Dc (Dc (Cr 1).words.length [X8 0 1 2]) [X8 0 1 3]=1:=by decide
 have w2:F5 [X8 0 1 2] 0=X8 0 1 2:=Jk rfl;have w3:F5 [X8 0 1 3] 0=X8 0 1 3:=Jk rfl;unfold fh;simp only[E.words_mk,E.kids_mk,t1];have r1:List.range 1=[0]:=rfl;have k0:Ch (Ch (Cr 1).kids.length []) []=0:=rfl;have r0:List.range 0=[]:=rfl;have o1:(Cr 1).words.getD 0 0=1:=rfl;rw[k0,r0,r1];simp only[List.map_cons,List.map_nil,List.flatMap_cons,List.flatMap_nil,List.append_nil,w2,w3,o1,JX,Oz,c1,if_true,m2,m3,List.nil_append];rw[EZ (by decide),EZ (by decide),EZ (by decide)];rfl
theorem Kw {w:Int} (h0:0≤w) (h1:w<100):EU (Cr w):=by
 refine⟨IQ ⟨by omega,by omega⟩,by simp[Cr],?_⟩;unfold Cr;rw[En];simp[FU]
theorem Ik:G.Spec Tryz.prog 13 [] (bv true):=by
 have T:=Jg (o:=Cr 1) (x:=Cr 2) (y:=Cr 3) (most:=9) (Kw (by decide) (by decide)) (Kw (by decide) (by decide)) (Kw (by decide) (by decide)) (by simp[BG]);rw[iw] at T;have O1:=Oc 1;have O2:=Oc 2;have O3:=Oc 3;have S:=fun w (h0:(0:Int)≤w) (h1:w<100)=>F8 (Cr w) (Kw h0 h1).w (Cr w);have S1:=S 1 (by decide) (by decide);have S2:=S 2 (by decide) (by decide);have S3:=S 3 (by decide) (by decide);rw[show El (Cr 1) (Cr 1)=true from sameB_iff.2 rfl] at S1;rw[show El (Cr 2) (Cr 2)=true from sameB_iff.2 rfl] at S2;rw[show El (Cr 3) (Cr 3)=true from sameB_iff.2 rfl] at S3;refine Ak NR (by simp) fun w0 I0=>?_;unfold IM;simp;refine Af O1 (by simp) ?_;simp;refine Af O2 (by simp) ?_;simp;refine Af O3 (by simp) ?_;simp;refine Af T (by simp) ?_;simp[Aa];refine Af O1 (by simp) ?_;simp;refine Af S1 (by simp) ?_;simp;refine BJ rfl (fun _=>O2) (fun _=>by simp) (by simp) ?_;simp;refine BJ rfl (fun _=>S2) (fun _=>by simp) (by simp) ?_;simp;refine BJ rfl (fun _=>O3) (fun _=>by simp) (by simp) ?_;simp;refine BJ rfl (fun _=>S3) (fun _=>by simp) (by simp) ?_;simp;refine BJ rfl (fun _=>O1) (fun _=>by simp) (by simp) ?_;simp;refine BJ rfl (fun _=>S1) (fun _=>by simp) (by simp) ?_;simp;exact Ad rfl
theorem UJ {o x:T} (ho:AK o) (hx:AK x) {most:Int} (hm:BG most):G.Spec Tryz.prog 6 [tX o,tX x,iv most] (bv true):=by
 have T3:=NG ho hx hx;refine Ak Lr (by simp) fun w0 I0=>?_;unfold GW;simp;refine Af T3 (by simp) ?_;cases hg:D4 o&&D4 x&&D4 x with
 |false=>
  simp;refine Af Ik (by simp) ?_;simp;exact Ad rfl
 |true=>
  simp only[Bool.and_eq_true] at hg;have g1:=LF ho hg.1.1;have g2:=LF hx hg.1.2;have A1:=Jg (most:=most) g1 g2 g1 hm;have A2:=Jg (most:=most) g1 g1 g2 hm;have A3:=Jg (most:=most) g1 g2 g2 hm;rw[S8 g1 g2] at A1;rw[ik g1 g2] at A2;rw[gZ g1 g2] at A3;have N:=b9 x hx;have S:=F8 (Ag x) (Cs x hx) (Ag x);rw[show El (Ag x) (Ag x)=true from sameB_iff.2 rfl] at S;generalize Ag x=nx at *;simp;refine Af N (by simp) ?_;simp[Aa];refine Af A1 (by simp) ?_;simp[Aa];refine Af A2 (by simp) ?_;simp[Aa];refine Af A3 (by simp) ?_;simp[Aa];refine Af S (by simp) ?_;simp[Aa];refine BJ rfl (fun _=>S) (fun _=>by simp) (by simp) ?_;simp[Aa];refine BJ rfl (fun _=>S) (fun _=>by simp) (by simp) ?_;simp[Aa];refine BJ rfl (fun _=>Ik) (fun _=>by simp) (by simp) ?_;simp;exact Ad rfl
theorem Qp {o x y:T} (ho:AK o) (hx:AK x) (hy:AK y) {most:Int} (hm:BG most):G.Spec Tryz.prog 5 [tX o,tX x,tX y,iv most] (bv true):=by
 have T3:=NG ho hx hy;refine Ak JS (by simp) fun w0 I0=>?_;unfold FG;simp;refine Af T3 (by simp) ?_;cases hg:D4 o&&D4 x&&D4 y with
 |false=>
  simp;refine Af Ik (by simp) ?_;simp;exact Ad rfl
 |true=>
  simp only[Bool.and_eq_true] at hg;have g1:=LF ho hg.1.1;have g2:=LF hx hg.1.2;have g3:=LF hy hg.2;have A1:=Jg (most:=most) g1 g2 g3 hm;have A2:=Jg (most:=most) g1 g3 g2 hm;obtain⟨w1,w2,w3,w4,w5⟩:=aZ (most:=most) g1 g2 g3;rw[Qd g1 g2 g3] at A2;have SC:=Jr (t:=true) (l:=(EK most o x y).2) (m:=(EK most o x y).2.map Co) (by simp[Wy]) w3 w1 w2;have S:=F8 (EK most o x y).1 w4 (EK most o x y).1;rw[show El (EK most o x y).1 (EK most o x y).1=true from sameB_iff.2 rfl] at S;generalize EK most o x y=M at *;generalize M.2.map Co=M2 at *;simp;refine Af A1 (by simp) ?_;simp[Aa];refine Af A2 (by simp) ?_;simp[Aa];refine Af S (by simp) ?_;simp[Aa];refine BJ rfl (fun _=>SC) (fun _=>by simp) (by simp) ?_;simp[Aa];refine BJ rfl (fun _=>Ik) (fun _=>by simp) (by simp) ?_;simp;exact Ad rfl
theorem Zm {l:List Cf} (hl:l.length*192≤140737488355328)
  (hq:∀ (H':Hp) (v:Nat) (st:List (Nat × A)),H' [1]=⟨v,.arr 10 ((l.map Co).map aE)⟩→Q (.exit 0) ⟨lk ([(3,.osl [1] v 10 0 l.length)]++st),H'⟩) :
  ∀ (j i v:Nat) (H:Hp),i+j=l.length→H [1]=⟨v,.arr 10 (((l.take i).map Co).map aE)⟩ →
  LoopC (cx Tryz.prog w0 I0 n0) Ea Q ⟨lk [(3,.osl [1] v 10 0 i),(6,OA l),(7,iv l.length),(8,iv i)],H⟩:=by
 intro j;induction j with
 |zero=>
  intro i v H hj h1;have:i=l.length:=by omega
  subst this;rw[AX (Cc _)] at h1;refine Ab Ai Ea.eq_1 ?_;simp;have:=hq H v [(6,OA l),(7,iv l.length),(8,iv l.length),(9,bv false)] h1;simpa using this
 |succ j ih=>
  intro i v H hj h1;have hlt:i<l.length:=by omega
  have ew:=AO i;have htk:l.take (i+1)=l.take i++[l[i]]:=HD hlt;have next:=ih (i+1) (v+1)
  rw[htk,List.map_append,List.map_append] at next
  have hlen:((l.take i).map Co).length=i:=by simp;omega
  generalize (l.take i).map Co=B at *;generalize hx:l[i]=c at *;refine Ab Ai Ea.eq_1 ?_;simp[hlt,hx,h1,Aa];refine⟨by omega,?_⟩;rw[ew];refine next _ (by omega) ?_
  simp[Aa,aE,Co];rw[AX (by simp;omega)]
theorem JL (l:List Cf) (hl:l.length*192≤140737488355328):G.Spec Tryz.prog 23 [OA l] (OA (l.map Co)):=by
 refine Ak Pm (by simp) fun w0 I0=>?_;unfold Jt;simp;refine LoopC.le (ES 3 [1] 10 (by simp)) ?_;refine LoopC.le (Ao [(3,.osl [1] 1 10 0 0),(6,OA l),(7,iv l.length),(8,iv (0:Nat))] (by simp[upd])) ?_;refine Zm hl (fun H' v st h1=>?_) l.length 0 1 _ (by omega) (by simp[Aa]);simp;have:=dY (H:=H') (o:=[1]) (u:=v) (n:=l.length) (l:=l.map Co) (by rw[h1];simp) (by simp);simpa using this
theorem Q6 (b:Bool):G.Spec Tryz.prog 42 [.sl b []] (tX (.mk 9 [] [])):=by
 have:G.Spec Tryz.prog 42 [.sl false []] (tX (.mk 9 [] [])):=by
  refine Ak RF (by simp) fun w0 I0=>?_;unfold K4;simp;refine Ab Ai J3.eq_1 ?_;simp[Aa];exact CH ⟨Ad rfl,An,An,trivial⟩
 exact this.soft (by simp[A.softL,A.soft])
theorem Z8 (b1 b2:Bool):G.Spec Tryz.prog 43 [.agg [iv 9,.sl b1 [],.sl b2 []]] (.tup [OA [],bv true]):=by
 have w9:AK (.mk 9 [] []):=wfT_iff.2 ⟨by simp[BG],by simp,by simp,by simp,by simp⟩;have E:=HF w9 w9;rw[eqT_iff.2 rfl] at E;have:G.Spec Tryz.prog 43 [tX (.mk 9 [] [])] (.tup [OA [],bv true]):=by
  refine Ak RC (by simp) fun w0 I0=>?_;unfold KY;simp;refine Ab Ai Kj.eq_1 ?_;simp[Aa];refine Af (Q6 true) (by simp) ?_;simp;refine Af E (by simp) ?_;simp;exact FR ⟨An,Ad rfl,trivial⟩
 exact this.soft (by simp[A.softL,A.soft])
theorem Po:G.Spec Tryz.prog 24 [] (bv true):=by
 refine Ak NT (by simp) fun w0 I0=>?_;unfold Iz;simp;refine Af (Q6 true) (by simp) ?_;simp[Aa];refine Af (Z8 true true) (by simp) ?_;simp[Aa];exact Ad rfl
theorem MP {l:List Cf} (hl:l.length*192≤140737488355328) (hw:∀ c,c ∈ l→bI c) (hp:∀ c,c ∈ l→c.path.length≤10000000000000) {o x y:T} (ho:AK o) (hx:AK x) (hy:AK y) {most:Int} (hm:BG most):G.Spec Tryz.prog 8 [OA l,tX o,tX x,tX y,iv most] (bv true):=by
 have T3:=NG ho hx hy;have U1:=JL l hl;have U2:=JL (l.map Co) (by simpa using hl);have e2:(l.map Co).map Co=l:=by rw[List.map_map];exact List.map_id'' (fun c=>jt c) l
 rw[e2] at U2;have wt:∀ c,c ∈ l.map Co→bI c:=fun c hc=>by
  obtain⟨d,hd,rfl⟩:=List.mem_map.1 hc;have:=hw d hd;exact⟨this.1,this.2.2,this.2.1⟩
 have pt:∀ c,c ∈ l.map Co→c.path.length≤10000000000000:=fun c hc=>by
  obtain⟨d,hd,rfl⟩:=List.mem_map.1 hc;exact hp d hd
 have tf:∀ l:List Cf,l.map (Wy false)=l:=fun l=>List.map_id'' (fun c=>by simp[Wy]) l;have S1:=Jr (t:=false) (l:=l) (m:=l) (tf l).symm (by omega) hw hp;have S2:=Jr (t:=true) (l:=l.map Co) (m:=l) (by rw[show Wy true=Co from rfl,e2]) (by simp;omega) wt pt;refine Ak Ie (by simp) fun w0 I0=>?_;unfold EH;generalize l.map Co=lt at *;simp;refine Af U1 (by simp) ?_;simp;refine Af U2 (by simp) ?_;simp;refine Af S1 (by simp) ?_;simp;refine D8 rfl (fun _=>U1) (fun _=>by simp) (by simp) ?_;simp;refine D8 rfl (fun _=>S2) (fun _=>by simp) (by simp) ?_;simp;refine Af T3 (by simp) ?_;cases hg:D4 o&&D4 x&&D4 y with
 |false=>
  simp;refine Af Po (by simp) ?_;simp;exact Ad rfl
 |true=>
  simp only[Bool.and_eq_true] at hg;have g1:=LF ho hg.1.1;have g2:=LF hx hg.1.2;have g3:=LF hy hg.2;have A1:=Jg (most:=most) g1 g2 g3 hm;have A2:=Jg (most:=most) g1 g3 g2 hm;obtain⟨w1,w2,w3,w4,w5⟩:=aZ (most:=most) g1 g2 g3;obtain⟨v1,v2,v3,v4,v5⟩:=aZ (most:=most) g1 g3 g2;have L:=W8 (y:=y) g1.w g2.w g1.p g2.p g1.r g2.r most;have V:=JL (EK most o x y).2 (by omega);rw[Qd g1 g2 g3] at A2 v1 v2 v3;have SC:=Jr (t:=false) (l:=(EK most o x y).2.map Co) (m:=(EK most o x y).2.map Co) (tf _).symm v3 v1 v2;generalize EK most o x y=M at *;generalize M.2.map Co=M2 at *;simp;refine Af A1 (by simp) ?_;simp[Aa];refine Af A2 (by simp) ?_;simp[Aa];refine Af V (by simp) ?_;simp;refine Af SC (by simp) ?_;simp;refine BJ rfl (fun _=>Po) (fun _=>by simp) (by simp) ?_;simp;exact Ad rfl
end Go.Proofs.YtndnlknocdangaaGreat
namespace Go.Proofs.YtndnlknocdangaaGreat
open Go Go.G Go.Proofs Go.PL Go.RowKit
theorem ry {m:Int} (h:(Lit.int .i64 m).wf=true):BG m:=by
 simp[Lit.wf,IntKind.min,IntKind.max,IntKind.bits,IntKind.signed] at h;unfold BG;omega
theorem qb {m:Int} (h:(Lit.int .u64 m).wf=true):Bu m:=by
 simp[Lit.wf,IntKind.min,IntKind.max,IntKind.bits,IntKind.signed] at h;unfold Bu;omega
theorem YG:Tryz.prog.underlying 3=some (.int .i64):=by kernel_rfl
theorem Z6:Tryz.prog.underlying 61=some (.int .u64):=by kernel_rfl
theorem ib {n:Nat} {b:List A} (h:Has Tryz.prog n 3 b):∃ m,BG m∧b=[iv m]:=by
 cases n with
 |zero=>exact h.elim
 |succ n=>
  unfold Has at h;rw[YG] at h;obtain⟨m,hm,rfl⟩:=h;exact⟨m,ry hm,rfl⟩
theorem Af2 {n:Nat} {b:List A} (h:Has Tryz.prog n 61 b):∃ m,Bu m∧b=[uv m]:=by
 cases n with
 |zero=>exact h.elim
 |succ n=>
  unfold Has at h;rw[Z6] at h;obtain⟨m,hm,rfl⟩:=h;exact⟨m,qb hm,rfl⟩
theorem AbT {α:Type} {xs:List A} {g:α→A} {R:α→Prop} (h:∀ x,x ∈ xs→∃ y,R y∧x.soft=g y):∃ l:List α,A.softL xs=l.map g∧l.length=xs.length∧∀ y,y ∈ l→R y:=by
 induction xs with
 |nil=>exact⟨[],rfl,rfl,fun y h=>nomatch h⟩
 |cons x xs ih=>
  obtain⟨y,hy,e⟩:=h x (by simp);obtain⟨l,e2,e3,hl⟩:=ih fun z hz=>h z (by simp[hz]);refine⟨y::l,by simp[A.softL,e,e2],by simp[e3],fun z hz=>?_⟩;rcases List.mem_cons.1 hz with rfl | hz
  ·exact hy
  ·exact hl z hz
theorem fX {P:Program} {t e:TypeId} {m:Nat} (u:P.underlying t=some (.slice e)) (hb:P.bytesOf e=m) {n:Nat} {b:List A} (h:Has P n t b) {α:Type} {g:α→A} {R:α→Prop} (hx:∀ k b,k<n→Has P k e b→∃ y,R y∧(mk P e b).soft=g y) :
  ∃ (f:Bool) (xs:List A) (l:List α),b=[.sl f xs]∧A.softL xs=l.map g∧l.length*m≤140737488355328∧∀ y,y ∈ l→R y:=by
 cases n with
 |zero=>exact h.elim
 |succ n=>
  unfold Has at h;rw[u] at h;obtain⟨f,xs,rfl,_,hz,hf,hx'⟩:=h;rw[hb] at hz;obtain⟨l,e1,e2,hl⟩:=AbT (g:=g) (R:=R) (xs:=xs) fun x hxx=>by
   obtain⟨b,hb',rfl⟩:=hx' x hxx;exact hx n b (by omega) hb'
  exact⟨f,xs,l,rfl,e1,by rw[e2];exact Nat.le_trans hz (by decide),hl⟩
theorem cV (b:List A):mk Tryz.prog 3 b=b.headD .any:=by unfold mk;rw[YG]
theorem wP (b:List A):mk Tryz.prog 61 b=b.headD .any:=by unfold mk;rw[Z6]
theorem AaI {n:Nat} {b:List A} (h:Has Tryz.prog n 22 b):∃ (f:Bool) (xs:List A) (l:List Int),b=[.sl f xs]∧A.softL xs=l.map uv∧l.length*8≤140737488355328∧∀ y,y ∈ l→Bu y:=
 fX (e:=61) (by kernel_rfl) (by kernel_rfl) h fun k b _ hb=>by
  obtain⟨m,h1,rfl⟩:=Af2 hb;exact⟨m,h1,by rw[wP];rfl⟩
theorem ZT:Tryz.prog.underlying 25=some (.struct (Tryz.prog.fieldsOf 25)):=by kernel_rfl
theorem l7:(Tryz.prog.fieldsOf 25).toList.map Field.type=[3,22,23]:=by kernel_rfl
theorem Im (b:List A):mk Tryz.prog 25 b = .agg b:=by unfold mk;rw[ZT]
theorem Gi:∀ (n:Nat) (b:List A),Has Tryz.prog n 25 b→∃ t,AK t∧A.softL b=[iv t.kind,DL t.words,BF t.kids]:=by
 intro n;induction n using Nat.strongRecOn with
 |ind n ih=>
  intro b h;cases n with
  |zero=>exact h.elim
  |succ n=>
   unfold Has at h;rw[ZT] at h;simp only at h;rw[Kr,l7] at h;obtain⟨_,_,rfl,h1,_,_,rfl,h2,_,_,rfl,h3,rfl⟩:=h;obtain⟨k,hk,rfl⟩:=ib h1;obtain⟨f,xs,w,rfl,e2,l2,r2⟩:=AaI h2;obtain⟨f3,ys,l,rfl,e3,l3,r3⟩:=fX (m:=56) (e:=25) (g:=tA) (R:=AK) (by kernel_rfl) (by kernel_rfl) h3 fun j b hj hb=>by
    obtain⟨t,ht,e⟩:=ih j (by omega) b hb;exact⟨t,ht,by rw[Im];simp only[A.soft,e];rw[tA_eq]⟩
   refine⟨.mk k w l,wfT_iff.2 ⟨hk,r2,l2,l3,r3⟩,?_⟩;simp only[List.cons_append,List.nil_append,List.append_nil,A.softL,A.soft,e2,e3];rfl
theorem V6:∀ (a b:List A),A.softL (a++b)=A.softL a++A.softL b
 |[],b=>by simp[A.softL]
 |x::a,b=>by simp[A.softL,V6 a b]
end Go.Proofs.YtndnlknocdangaaGreat
namespace Go.Proofs.YtndnlknocdangaaGreat
open Go Go.G Go.Proofs Go.PL Go.RowKit
set_option maxRecDepth 100000 in
theorem said_mergeOne (xs:List A) (h:ArgsHas Tryz.prog Tryz.f6.params.toList xs):G.Spec Tryz.prog 6 xs (.v (.bool true)):=by
 have h:ArgsHas Tryz.prog [25,25,3] xs:=h
 match xs,h with
 |[a,a2,a3],⟨⟨n,b,h1,h2⟩,⟨n2,b2,h12,h22⟩,⟨n3,b3,h13,h23⟩,_⟩=>
  obtain⟨t,ht,et⟩:=Gi _ _ h1;obtain⟨t2,ht2,et2⟩:=Gi _ _ h12;obtain⟨m,hm,rfl⟩:=ib h13;rw[h2,Im,h22,Im,h23,cV];exact(UJ ht ht2 hm).soft (by simp only[A.softL,A.soft,et,et2];rfl)
set_option maxRecDepth 100000 in
theorem said_mergeTurned (xs:List A) (h:ArgsHas Tryz.prog Tryz.f5.params.toList xs):G.Spec Tryz.prog 5 xs (.v (.bool true)):=by
 have h:ArgsHas Tryz.prog [25,25,25,3] xs:=h
 match xs,h with
 |[a,a2,a4,a3],⟨⟨n,b,h1,h2⟩,⟨n2,b2,h12,h22⟩,⟨n4,b4,h14,h24⟩,⟨n3,b3,h13,h23⟩,_⟩=>
  obtain⟨t,ht,et⟩:=Gi _ _ h1;obtain⟨t2,ht2,et2⟩:=Gi _ _ h12;obtain⟨t4,ht4,et4⟩:=Gi _ _ h14;obtain⟨m,hm,rfl⟩:=ib h13;rw[h2,Im,h22,Im,h24,Im,h23,cV];exact(Qp ht ht2 ht4 hm).soft (by simp only[A.softL,A.soft,et,et2,et4];rfl)
theorem ZC:Tryz.prog.underlying 65=some (.struct (Tryz.prog.fieldsOf 65)):=by kernel_rfl
theorem oP:(Tryz.prog.fieldsOf 65).toList.map Field.type=[3,3]:=by kernel_rfl
theorem rh (b:List A):mk Tryz.prog 65 b = .agg b:=by unfold mk;rw[ZC]
theorem rm {n:Nat} {b:List A} (h:Has Tryz.prog n 65 b):∃ s:Int × Int,True∧(mk Tryz.prog 65 b).soft=Uz s:=by
 cases n with
 |zero=>exact h.elim
 |succ n=>
  unfold Has at h;rw[ZC] at h;simp only at h;rw[Kr,oP] at h;obtain⟨_,_,rfl,h1,_,_,rfl,h2,rfl⟩:=h;obtain⟨a,ha,rfl⟩:=ib h1;obtain⟨m,hm,rfl⟩:=ib h2;exact⟨(a,m),trivial,by rw[rh];rfl⟩
theorem oV {n:Nat} {b:List A} (h:Has Tryz.prog n 49 b):∃ (f:Bool) (xs:List A) (l:C3),b=[.sl f xs]∧A.softL xs=l.map Uz∧l.length*16≤140737488355328∧∀ y,y ∈ l→True:=
 fX (e:=65) (by kernel_rfl) (by kernel_rfl) h fun k b _ hb=>rm hb
theorem aj:Tryz.prog.underlying 51=some (.struct (Tryz.prog.fieldsOf 51)):=by kernel_rfl
theorem kY:(Tryz.prog.fieldsOf 51).toList.map Field.type=[49,25,25,25]:=by kernel_rfl
theorem qI (b:List A):mk Tryz.prog 51 b = .agg b:=by unfold mk;rw[aj]
theorem Abv {n:Nat} {b:List A} (h:Has Tryz.prog n 51 b):∃ c:Cf,(bI c∧c.path.length≤10000000000000)∧(mk Tryz.prog 51 b).soft=aE c:=by
 cases n with
 |zero=>exact h.elim
 |succ n=>
  unfold Has at h;rw[aj] at h;simp only at h;rw[Kr,kY] at h;obtain⟨_,_,rfl,h1,_,_,rfl,h2,_,_,rfl,h3,_,_,rfl,h4,rfl⟩:=h;obtain⟨f,xs,l,rfl,e1,e2,_⟩:=oV h1;obtain⟨t2,w2,s2⟩:=Gi _ _ h2;obtain⟨t3,w3,s3⟩:=Gi _ _ h3;obtain⟨t4,w4,s4⟩:=Gi _ _ h4;refine⟨⟨l,t2,t3,t4⟩,⟨⟨w2,w3,w4⟩,by show l.length≤_;omega⟩,?_⟩;rw[qI];simp[A.soft,A.softL,V6,s2,s3,s4,e1,aE]
theorem xk {n:Nat} {b:List A} (h:Has Tryz.prog n 35 b):∃ (f:Bool) (xs:List A) (l:List Cf),b=[.sl f xs]∧A.softL xs=l.map aE∧l.length*192≤140737488355328∧∀ y,y ∈ l→bI y∧y.path.length≤10000000000000:=
 fX (e:=51) (by kernel_rfl) (by kernel_rfl) h fun k b _ hb=>Abv hb
theorem jb:Tryz.prog.underlying 35=some (.slice 51):=by kernel_rfl
theorem m8 (b:List A):mk Tryz.prog 35 b=b.headD .any:=by unfold mk;rw[jb]
set_option maxRecDepth 100000 in
theorem said_conflictTurned (xs:List A) (h:ArgsHas Tryz.prog Tryz.f8.params.toList xs):G.Spec Tryz.prog 8 xs (.v (.bool true)):=by
 have h:ArgsHas Tryz.prog [35,25,25,25,3] xs:=h
 match xs,h with
 |[a5,a,a2,a4,a3],⟨⟨n5,b5,h15,h25⟩,⟨n,b,h1,h2⟩,⟨n2,b2,h12,h22⟩,⟨n4,b4,h14,h24⟩,⟨n3,b3,h13,h23⟩,_⟩=>
  obtain⟨f,ys,l,e1,e2,e3,e4⟩:=xk h15;obtain⟨t,ht,et⟩:=Gi _ _ h1;obtain⟨t2,ht2,et2⟩:=Gi _ _ h12;obtain⟨t4,ht4,et4⟩:=Gi _ _ h14;obtain⟨m,hm,rfl⟩:=ib h13;rw[h25,m8,e1,h2,Im,h22,Im,h24,Im,h23,cV];exact(MP e3 (fun c hc=>(e4 c hc).1) (fun c hc=>(e4 c hc).2) ht ht2 ht4 hm).soft (by simp only[A.softL,A.soft,List.headD,et,et2,et4,e2])
end Go.Proofs.YtndnlknocdangaaGreat
namespace Go.G
open Go.RowKit Go.ChangeShapes Go.WideShapes
section
variable {H:Type} {enc:TypeId × Value→H} {P:Program}
def L6 (P:Program) (ts:List TypeId):Bool:=ts.all fun t=>P.readableRec t&&decide (t<P.types.size)
theorem Np (hl:laidOutB P=true) {W W':World} (hb:Below W.heap.size W W') (sp:Nat→Bool):∀ {ts:List TypeId} {vs:List Value} {ds:List (DataW H)} {ps:List MemPlace},L6 P ts=true →
  DataW.TrodAll enc P W 0 (fun _=>true) true ts vs ds ps→(∀ x ∈ ps,x.block<W.heap.size)→(∀ x ∈ ps,sp x.block=true)→DataW.TrodAll enc P W' 0 sp true ts vs ds ps
 |[],_,_,_,_,h,_,_=>by
  obtain⟨rfl,rfl,rfl⟩:=trodAll_nil h;exact trodAll_mk0
 |t::ts,_,_,_,hr,h,hlt,hsp=>by
  obtain⟨v,vs,d,ds,p,q,rfl,rfl,rfl,h1,h2⟩:=trodAll_cons h;simp only[L6,List.all_cons,Bool.and_eq_true,decide_eq_true_eq] at hr;exact⟨p,q,WideElems.Trod_stays hl hr.1.1 hr.1.2 h1 (fun x hx=>hb.same (hlt x (by simp[hx]))) (fun x hx=>hsp x (by simp[hx])),
   Np hl hb sp (by simpa[L6] using hr.2) h2 (fun x hx=>hlt x (by simp[hx])) (fun x hx=>hsp x (by simp[hx])),rfl⟩
theorem LK {w:World} {base:Nat} {spare:Nat→Bool} {held:Bool}:∀ {ts:List TypeId} {vs:List Value} {ds:List (DataW H)} {ps:List MemPlace},DataW.TrodAll enc P w base spare held ts vs ds ps→ds.length=ts.length∧vs.length=ts.length
 |[],_,_,_,h=>by
  obtain⟨rfl,rfl,rfl⟩:=trodAll_nil h;exact⟨rfl,rfl⟩
 |t::ts,_,_,_,h=>by
  obtain⟨v,vs,d,ds,p,q,rfl,rfl,rfl,h1,h2⟩:=trodAll_cons h;have:=LK h2;simp[this]
theorem mX {f:Func} {s:ChangeSpec} {apart fresh handsOn again:Bool} {W W':World} {args:Array Value} {ds gs:List (DataW H)} {before:List MemPlace} {t:TypeId}
  (hl:laidOutB P=true) (hp:L6 P f.params.toList=true) (hsv:s.vars=[]) (hW:DataW.Whole enc P f.params.toList s.vars apart W args.toList ds gs before) (hB:Below W.heap.size W W')
  (hrt:f.resultTypes = #[t]) (ht:P.underlying t=some .bool) (hfn:∀ ds':List (DataW H),ds'.length=f.params.size→s.fn H ds'={ results:=[.lit (.bool true)],args:=ds' }) :
  s.post enc P f apart fresh handsOn again W args (.bool true) W':=by
 have hlt:=hW.lt;have hW':=hW;obtain⟨p,q,hA,hV,rfl,hz,hn⟩:=hW';rw[hsv] at hV;obtain⟨rfl,rfl⟩:=trodVars_none hV;have hfn:=hfn ds (by have:=(LK hA).1;simpa using this);simp only[List.append_nil] at hlt hz hn;have hA':=fun sp=>Np hl hB sp hp hA hlt;have hr:∀ (b:Nat) (sp:Nat→Bool) (hd:Bool),DataW.TrodAll enc P W' b sp hd f.resultTypes.toList ((Value.bool true).resultList f.resultTypes.size) [.lit (.bool true)] []:=fun b sp hd=>by
  rw[hrt];exact trodAll_cons_mk (shut_bool ht _) trodAll_mk0
 refine⟨ds,[],p++[],[],p,[],hW,?_,?_,?_,Below.frame hB _,fun _=>?_⟩
 ·simp only[List.append_nil,hfn];exact hr _ _ _
 ·simp only[List.append_nil,hfn];exact hA' _ (fun x hx=>by simpa using hlt x hx)
 ·simp only[List.append_nil,hfn,hsv];exact rfl
 ·refine⟨ok_one hrt rfl (okWide_bool_mk ht _),_,[],([]++p)++[],⟨[]++p,[],trodAll_append (hA' (fun _=>true) (fun _ _=>rfl)) (hr _ _ _),by rw[hsv];rfl,rfl,?_,?_⟩,?_⟩
  ·intro b off hx;have hx:MemPlace.cell b off ∈ p:=by simpa using hx
   rw[Below.frozen hB (hlt _ hx)];exact hz b off hx
  ·intro ha;have:=hn ha;simpa using this
  ·intro x hx _;simpa using hx
theorem law_calls {f:Func} {fid:FuncId} {s:ChangeSpec} {apart fresh handsOn again:Bool} {W:World} {base:Nat} {args:Array Value} {ds gs:List (DataW H)} {before:List MemPlace} {t:TypeId} (S:List TypeId)
  (hl:laidOutB P=true) (hp:L6 P f.params.toList=true) (hS:Md P S=true) (hts:f.params.toList.all S.contains=true) (hsv:s.vars=[]) (hrt:f.resultTypes = #[t]) (ht:P.underlying t=some .bool)
  (hfn:∀ ds':List (DataW H),ds'.length=f.params.size→s.fn H ds'={ results:=[.lit (.bool true)],args:=ds' })
  (hspec:∀ as',ArgsHas P f.params.toList as'→Spec P fid as' (.v (.bool true))) (htb:Tabs P W (tc W))
  (hval:∀ (j:Nat) t v,f.params[j]? = some t→args[j]? = some v→Value.okWide P W .any base t v) (hW:DataW.Whole enc P f.params.toList s.vars apart W args.toList ds gs before)
  (hwt:(DataW.weightsEach P (f.params.toList++s.plain.varTypes P) (ds++gs)).all (·≤reachBytes)=true) :
  Calls P fid args W fun e W'=>∃ v,e = .returned v∧s.post enc P f apart fresh handsOn again W args v W':=by
 have hW':=hW;obtain⟨p,q,hA,hV,rfl,hz,hn⟩:=hW;have hV':=hV;rw[hsv] at hV';obtain⟨rfl,_⟩:=trodVars_none hV';have hwt':∀ m,m ∈ DataW.weightsEach P f.params.toList ds→m≤reachBytes:=by
  have e:s.plain.varTypes P=[]:=by simp[ChangeSpec.plain,DataSpec.varTypes,hsv]
  rw[e,List.append_nil,List.append_nil,List.all_eq_true] at hwt;exact fun m hm=>by simpa using hwt m hm
 obtain⟨as',h1,h2,h3⟩:=OV hS (fun t ht=>by rw[List.all_eq_true] at hts;simpa using hts t ht) hwt' hA (fun j u v hj hv=>hval j u v (by simpa using hj) (by simpa using hv));refine((hspec as' h2).2 W (tc W) args (fun _ h=>h) htb (by simpa using h1.symm) (fun k y hk=>?_)).mono fun e W' ⟨v,he,hB,hr⟩=>?_
 ·have:=h3 k y hk;simpa[List.getD,Array.getD_eq_getD_getElem?] using this
 ·cases hr;exact⟨_,he,mX hl hp hsv hW' hB hrt ht hfn⟩
end
end Go.G
