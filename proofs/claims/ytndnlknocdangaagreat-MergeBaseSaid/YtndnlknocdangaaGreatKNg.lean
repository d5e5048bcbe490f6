/-
 Texts,merged,without what is not reached.
-/
import Derived.Test.YtndnlknocdangaaGreatKNf
set_option linter.unusedSimpArgs false
set_option linter.unusedVariables false
open Go.IntKind (i64 u64)
namespace Go.Proofs.YtndnlknocdangaaGreat
open Go Go.G Go.Proofs Go.PL
abbrev dW:WE:=⟨0,0,0,0⟩
theorem Wd {a b:List Int} {p:Nat} {w:WE} {ws:List WE} (h:K9 a b p (w::ws)):∃ i:Nat,w.at_=i∧p≤i∧i<max a.length b.length∧PM w.mask∧Bo w.new∧K9 a b (i+1) ws:=by
 cases h with
 |cons _ i m o n ws hp h hi hm ho hn h1 h2 g=>exact⟨i,rfl,hp,hi,⟨Int.le_of_lt hm.1,hm.2⟩,by rw[← hn];exact Fk _ _ _,g⟩
theorem Jp {w:WE} {ws:List WE} {i:Nat} (h:w.at_=i):GA (w::ws) i=w:=by
 unfold GA;rw[List.find?_cons,decide_eq_true h];rfl
theorem CS {w:WE} {ws:List WE} {i:Nat} (h:w.at_ ≠ i):GA (w::ws) i=GA ws i:=by
 unfold GA;rw[List.find?_cons,decide_eq_false h]
theorem DA {a b:List Int} {p:Nat} {ws:List WE} (h:K9 a b p ws) {j:Nat} (hj:j<p):GA ws j=dW:=by
 unfold GA;have hn:ws.find? (fun w=>decide (w.at_=(j:Int)))=none:=List.find?_eq_none.2 fun w hw=>by
  obtain⟨k,k1,k2,_⟩:=JN h w hw;simp;omega
 rw[hn];rfl
theorem P4 {z:Int} (h:Bo z):NP z dW dW=z:=by
 unfold NP;rw[if_neg (by simp[Lj])];rw[J5 h,J5 h]
theorem Zw {a b:List Int} {p q:Nat} (h:K9 a b p []) (hq:p≤q):K9 a b q []:=by
 cases h with
 |nil _ h=>exact .nil q fun i hi=>h i (by omega)
theorem dS {a b:List Int} {p:Nat} {ws:List WE} (h:K9 a b p ws) (q:Nat) (hpq:p≤q) (hw:∀ z,z ∈ ws→(q:Int)≤z.at_):K9 a b q ws:=by
 cases h with
 |nil _ h=>exact .nil _ fun i hi=>h i (by omega)
 |cons _ i m o n ws hp h hi hm ho hn h1 h2 g=>
  have:=hw _ (List.mem_cons_self ..);have this:(q:Int)≤(i:Nat):=this;exact .cons _ i m o n ws (by omega) (fun j q1 q2=>h j (by omega) q2) hi hm ho hn h1 h2 g
structure qj (o:List Int) (gp gq:Nat→WE) (n i0:Nat) (ps qs:List WE) (X:List Int):Prop where
 lp:∀ j,i0≤j→GA ps j=gp j
 lq:∀ j,i0≤j→GA qs j=gq j
 x1:∀ j,j<i0→X.getD j 0=NP (o.getD j 0) (gp j) (gq j)
 x2:∀ j,i0≤j→X.getD j 0=o.getD j 0
 xu:∀ z,z ∈ X→Bo z
 xl:X.length≤900000
def nxX (o:List Int) (A B:WE) (i:Nat) (X:List Int):List Int:=if Lj A B=true then X else (Fw X i).set i (BV (BV (o.getD i 0) A.new A.mask) B.new B.mask)
theorem iM {o:List Int} (ho:∀ x,x ∈ o→Bo x) {gp gq:Nat→WE} {n i0 i:Nat} {ps qs ps' qs':List WE} {X:List Int} (h:qj o gp gq n i0 ps qs X) (hi:i0≤i) (hn:i<900000) (e1:∀ j,i0≤j→j<i→gp j=dW) (e2:∀ j,i0≤j→j<i→gq j=dW)
  (lp:∀ j,i+1≤j→GA ps' j=gp j) (lq:∀ j,i+1≤j→GA qs' j=gq j):qj o gp gq n (i+1) ps' qs' (nxX o (gp i) (gq i) i X):=by
 have hl:i<(Fw X i).length:=by rw[Hz];omega
 have hl2:=Hz X i;have hxl:=h.xl;have gs:∀ z j,((Fw X i).set i z).getD j 0=if j=i then z else X.getD j 0:=fun z j=>by
  rw[R9 _ _ _ _ hl];unfold Fw;rw[TF]
 have low:∀ j,j<i→X.getD j 0=NP (o.getD j 0) (gp j) (gq j):=fun j hj=>by
  by_cases c:j<i0
  ·exact h.x1 j c
  ·rw[h.x2 j (by omega),e1 j (by omega) hj,e2 j (by omega) hj,P4 (Ej ho j)]
 unfold nxX;by_cases c:Lj (gp i) (gq i)=true
 ·rw[if_pos c];refine⟨lp,lq,fun j hj=>?_,fun j hj=>h.x2 j (by omega),h.xu,h.xl⟩;by_cases e:j=i
  ·subst e;rw[h.x2 j hi,NP,if_pos c]
  ·exact low j (by omega)
 ·rw[if_neg c];refine⟨lp,lq,fun j hj=>?_,fun j hj=>?_,fun z hz=>?_,by rw[List.length_set];omega⟩
  ·rw[gs];by_cases e:j=i
   ·subst e;rw[if_pos rfl,NP,if_neg c]
   ·rw[if_neg e];exact low j (by omega)
  ·rw[gs,if_neg (by omega)];exact h.x2 j (by omega)
  ·rcases List.mem_or_eq_of_mem_set hz with hz | rfl
   ·unfold Fw at hz;rcases List.mem_append.1 hz with hz | hz
    ·exact h.xu z hz
    ·rw[List.eq_of_mem_replicate hz];exact⟨by omega,by omega⟩
   ·exact Fk _ _ _
def dK (at':CV) (o:List Int) (gp gq:Nat→WE) (n i0:Nat):List Cf:=(List.range' i0 (n-i0)).flatMap fun j=>PD at' j (o.getD j 0) (gp j) (gq j)
theorem YG (i0 i n:Nat) (h1:i0≤i) (h2:i<n):List.range' i0 (n-i0)=List.range' i0 (i-i0)++i::List.range' (i+1) (n-(i+1)):=by
 have e:n-i0=(i-i0)+(1+(n-(i+1))):=by omega
 rw[e,← List.range'_append_1,show i0+(i-i0)=i from by omega,← List.range'_append_1];rfl
theorem XY (at':CV) (i:Nat) (z:Int):PD at' i z dW dW=[]:=by
 unfold PD;rw[if_neg (by simp[Lj])]
theorem mZ (at':CV) (o:List Int) {gp gq:Nat→WE} {n i0 i:Nat} (h1:i0≤i) (h2:i<n) (e1:∀ j,i0≤j→j<i→gp j=dW) (e2:∀ j,i0≤j→j<i→gq j=dW):dK at' o gp gq n i0=PD at' i (o.getD i 0) (gp i) (gq i)++dK at' o gp gq n (i+1):=by
 unfold dK;rw[YG i0 i n h1 h2,List.flatMap_append,List.flatMap_cons];have:(List.range' i0 (i-i0)).flatMap (fun j=>PD at' j (o.getD j 0) (gp j) (gq j))=[]:=List.flatMap_eq_nil_iff.2 fun j hj=>by
  obtain⟨k,k1,k2⟩:=List.mem_range'.1 hj;rw[e1 j (by omega) (by omega),e2 j (by omega) (by omega),XY]
 rw[this,List.nil_append]
theorem se (at':CV) (o:List Int) {gp gq:Nat→WE} {n i0:Nat} (e1:∀ j,i0≤j→gp j=dW) (e2:∀ j,i0≤j→gq j=dW):dK at' o gp gq n i0=[]:=by
 unfold dK;exact List.flatMap_eq_nil_iff.2 fun j hj=>by
  obtain⟨k,k1,k2⟩:=List.mem_range'.1 hj;rw[e1 j (by omega),e2 j (by omega),XY]
theorem j8 {o x y:List Int} {ot:T} (wo:AK ot) (ho:ot.words=o) {gp gq:Nat→WE} {n:Nat} (hn:n≤800000) {at':CV} (hat:at'.length≤999999):∀ (N:Nat) (ps qs:List WE) (i0:Nat) (X:List Int),ps.length+qs.length≤N→N≤1000000000→K9 o x i0 ps→K9 o y i0 qs→(∀ z,z ∈ ps→z.at_<n)→(∀ z,z ∈ qs→z.at_<n)→qj o gp gq n i0 ps qs X →
  ∃ X':List Int,(∀ j,X'.getD j 0=NP (o.getD j 0) (gp j) (gq j))∧(∀ z,z ∈ X'→Bo z)∧X'.length≤900000∧∀ {n0:Nat} {w0:World} {I0:Nat→Prop} {M0:Nm→Nat→Prop} {m0:Mu} (Q:Exit→Sta→Prop) (v w u:Nat) (C:List Cf) (H:Hp),C.length+(dK at' o gp gq n i0).length≤100000000000→WdH v w ot C u X H→(∀ (H':Hp) (u':Nat),WdH v w ot (C++dK at' o gp gq n i0) u' X' H'→Q (.exit 0) ⟨lk [(0,.pob [0] v 0),(1,Ce at'),(3,Qn []),(4,Qn []),(7,.pob [1] 1 0),(11,.pob [2] 1 0),(12,.fnc 131 [] [.pob [2] 1 0]),(31,bv false)],H'⟩) →
   LoopC (DD Tryz.prog w0 I0 M0 n0 m0) AL Q ⟨lk [(0,.pob [0] v 0),(1,Ce at'),(3,Qn ps),(4,Qn qs),(7,.pob [1] 1 0),(11,.pob [2] 1 0),(12,.fnc 131 [] [.pob [2] 1 0])],H⟩:=by
 have fin:∀ (i0:Nat) (X:List Int),qj o gp gq n i0 [] [] X→∃ X':List Int,(∀ j,X'.getD j 0=NP (o.getD j 0) (gp j) (gq j))∧(∀ z,z ∈ X'→Bo z)∧X'.length≤900000∧∀ {n0:Nat} {w0:World} {I0:Nat→Prop} {M0:Nm→Nat→Prop} {m0:Mu} (Q:Exit→Sta→Prop) (v w u:Nat) (C:List Cf) (H:Hp),C.length+(dK at' o gp gq n i0).length≤100000000000→WdH v w ot C u X H→(∀ (H':Hp) (u':Nat),WdH v w ot (C++dK at' o gp gq n i0) u' X' H'→Q (.exit 0) ⟨lk [(0,.pob [0] v 0),(1,Ce at'),(3,Qn []),(4,Qn []),(7,.pob [1] 1 0),(11,.pob [2] 1 0),(12,.fnc 131 [] [.pob [2] 1 0]),(31,bv false)],H'⟩) →
   LoopC (DD Tryz.prog w0 I0 M0 n0 m0) AL Q ⟨lk [(0,.pob [0] v 0),(1,Ce at'),(3,Qn []),(4,Qn []),(7,.pob [1] 1 0),(11,.pob [2] 1 0),(12,.fnc 131 [] [.pob [2] 1 0])],H⟩:=fun i0 X hI=>by
  have d1:∀ j,i0≤j→gp j=dW:=fun j hj=>(hI.lp j hj).symm;have d2:∀ j,i0≤j→gq j=dW:=fun j hj=>(hI.lq j hj).symm;refine⟨X,fun j=>?_,hI.xu,hI.xl,fun {n0 w0 I0 M0 m0} Q v w u C H hC hH hq=>?_⟩
  ·by_cases c:j<i0
   ·exact hI.x1 j c
   ·rw[hI.x2 j (by omega),d1 j (by omega),d2 j (by omega),P4 (by rw[← ho];exact Ej (wfT_iff.1 wo).w j)]
  ·rw[se at' o d1 d2,List.append_nil] at hq;refine Ab Ai AL.eq_1 ?_;simp;exact hq H u hH
 intro N;induction N with
 |zero=>
  intro ps qs i0 X hN _ hp hq _ _ hI;have e1:=List.eq_nil_of_length_eq_zero (show ps.length=0 by omega);have e2:=List.eq_nil_of_length_eq_zero (show qs.length=0 by omega);subst e1;subst e2;exact fin i0 X hI
 |succ N ih=>
  intro ps qs i0 X hN hN2 hp hq np nq hI;have hou:∀ x,x ∈ o→Bo x:=by rw[← ho];exact(wfT_iff.1 wo).w
  have step:∀ (Aw Bw:WE) (i:Nat) (ps' qs':List WE),gp i=Aw→gq i=Bw→i0≤i→i<n→PM Aw.mask→PM Bw.mask→Bo Aw.new→Bo Bw.new→K9 o x (i+1) ps'→K9 o y (i+1) qs'→(∀ j,i+1≤j→GA ps' j=gp j)→(∀ j,i+1≤j→GA qs' j=gq j)→(∀ j,i0≤j→j<i→gp j=dW)→(∀ j,i0≤j→j<i→gq j=dW)→ps'.length+qs'.length≤N→(∀ z,z ∈ ps'→z.at_<n)→(∀ z,z ∈ qs'→z.at_<n) →
    ∃ X':List Int,(∀ j,X'.getD j 0=NP (o.getD j 0) (gp j) (gq j))∧(∀ z,z ∈ X'→Bo z)∧X'.length≤900000∧∀ {n0:Nat} {w0:World} {I0:Nat→Prop} {M0:Nm→Nat→Prop} {m0:Mu} (Q:Exit→Sta→Prop) (v w u u3 u4:Nat) (C:List Cf) (H:Hp),C.length+(dK at' o gp gq n i0).length≤100000000000→WdH v w ot C u X H→H [3]=⟨u3,.cells (rM Aw)⟩→H [4]=⟨u4,.cells (rM Bw)⟩→(∀ (H':Hp) (u':Nat),WdH v w ot (C++dK at' o gp gq n i0) u' X' H'→Q (.exit 0) ⟨lk [(0,.pob [0] v 0),(1,Ce at'),(3,Qn []),(4,Qn []),(7,.pob [1] 1 0),(11,.pob [2] 1 0),(12,.fnc 131 [] [.pob [2] 1 0]),(31,bv false)],H'⟩) →
     WPC (DD Tryz.prog w0 I0 M0 n0 m0) C9 (BR 1 (F7 (LoopC (DD Tryz.prog w0 I0 M0 n0 m0) AL Q) Q)) ⟨lk [(0,.pob [0] v 0),(1,Ce at'),(3,Qn ps'),(4,Qn qs'),(7,.pob [1] 1 0),(11,.pob [2] 1 0),(12,.fnc 131 [] [.pob [2] 1 0]),(13,.pob [3] u3 0),(14,.pob [4] u4 0),(15,iv i)],H⟩:=fun Aw Bw i ps' qs' eA eB h1 h2 mA mB uA uB g1 g2 g3 g4 e1 e2 hl np' nq'=>by
   have hc:=mZ at' o (gp:=gp) (gq:=gq) h1 h2 e1 e2;have hI2:=iM hou hI h1 (by omega) e1 e2 g3 g4;rw[eA,eB] at hc hI2;obtain⟨X',f1,f2,f3,f4⟩:=ih ps' qs' (i+1) (nxX o Aw Bw i X) hl (by omega) g1 g2 np' nq' hI2;refine⟨X',f1,f2,f3,fun {n0 w0 I0 M0 m0} Q v w u u3 u4 C H hC hH h3 h4 hq=>?_⟩;have xl:=hI.xl;rw[hc,← List.append_assoc] at hq;have hlen:C.length+(PD at' i (o.getD i 0) Aw Bw).length+(dK at' o gp gq n (i+1)).length≤100000000000:=by rw[hc,List.length_append] at hC;omega
   refine jO (a:=Aw) (b:=Bw) (i:=i) wo mA mB uA uB hat (by omega) (by omega) (by omega) hH h3 h4 (fun c H' hH'=>?_) (fun c H' hH'=>?_)
   ·have q1:PD at' i (o.getD i 0) Aw Bw=[⟨at'++[(1,(i:Int))],Ag (B5 (o.getD i 0)),Ag (B5 (BV (o.getD i 0) Aw.new Aw.mask)),Ag (B5 (BV (o.getD i 0) Bw.new Bw.mask))⟩]:=if_pos c;have q2:nxX o Aw Bw i X=X:=if_pos c;rw[q2] at f4;rw[q1] at hq hlen;rw[ho] at hH';exact f4 Q v w _ _ H' (by rw[List.length_append];exact hlen) hH' hq
   ·have q1:PD at' i (o.getD i 0) Aw Bw=[]:=if_neg c;have q2:nxX o Aw Bw i X=(Fw X i).set i (BV (BV (o.getD i 0) Aw.new Aw.mask) Bw.new Bw.mask):=if_neg c;rw[q2] at f4;rw[q1,List.append_nil] at hq;rw[q1] at hlen;rw[ho] at hH';exact f4 Q v w _ _ H' (by simpa using hlen) hH' hq
  cases ps with
  |nil=>
   cases qs with
   |nil=>exact fin i0 X hI
   |cons Bw qs=>
    obtain⟨i,h1,h2,h3,h4,h5,h6⟩:=Wd hq;have hin:=nq Bw (by simp);obtain⟨X',f1,f2,f3,f4⟩:=step dW Bw i [] qs (by rw[← hI.lp i h2];rfl) (by rw[← hI.lq i h2,Jp h1]) h2 (by omega) ⟨by decide,by decide⟩ h4 ⟨by decide,by decide⟩ h5 (Zw hp (by omega)) h6 (fun j hj=>by rw[← hI.lp j (by omega)]) (fun j hj=>by rw[← hI.lq j (by omega),CS (by omega)]) (fun j q1 q2=>by rw[← hI.lp j q1];rfl) (fun j q1 q2=>by rw[← hI.lq j q1,CS (by omega),DA h6 (by omega)]) (by simp at hN ⊢; omega) (fun z hz=>nomatch hz) (fun z hz=>nq z (List.mem_cons_of_mem _ hz));refine⟨X',f1,f2,f3,fun {n0 w0 I0 M0 m0} Q v w u C H hC hH hq=>?_⟩;have c1:¬ ((qs.length:Int)+1=0):=by omega
    have c2:(1:Int)≤(qs.length:Int)+1:=by omega
    have c3:List.take qs.length (qs.map wA)=qs.map wA:=AX (by simp);refine Ab Ai AL.eq_1 ?_;simp[h1,c1,c2,c3,Aa];exact f4 Q v w u _ _ C _ hC ((hH.put _ (by simp) (by simp) (by simp) (by simp)).put _ (by simp) (by simp) (by simp) (by simp)) (by simp[Aa]) (by simp[Aa,h1]) hq
  |cons Aw ps=>
   obtain⟨i,h1,h2,h3,h4,h5,h6⟩:=Wd hp;have hin:=np Aw (by simp);have d1:¬ ((ps.length:Int)+1=0):=by omega
   have d2:(1:Int)≤(ps.length:Int)+1:=by omega
   have d3:List.take ps.length (ps.map wA)=ps.map wA:=AX (by simp);cases qs with
   |nil=>
    obtain⟨X',f1,f2,f3,f4⟩:=step Aw dW i ps [] (by rw[← hI.lp i h2,Jp h1]) (by rw[← hI.lq i h2];rfl) h2 (by omega) h4 ⟨by decide,by decide⟩ h5 ⟨by decide,by decide⟩ h6 (Zw hq (by omega)) (fun j hj=>by rw[← hI.lp j (by omega),CS (by omega)]) (fun j hj=>by rw[← hI.lq j (by omega)]) (fun j q1 q2=>by rw[← hI.lp j q1,CS (by omega),DA h6 (by omega)]) (fun j q1 q2=>by rw[← hI.lq j q1];rfl) (by simp at hN ⊢; omega) (fun z hz=>np z (List.mem_cons_of_mem _ hz)) (fun z hz=>nomatch hz);refine⟨X',f1,f2,f3,fun {n0 w0 I0 M0 m0} Q v w u C H hC hH hq=>?_⟩;refine Ab Ai AL.eq_1 ?_;simp[h1,d1,d2,d3,Aa];exact f4 Q v w u _ _ C _ hC (((hH.put _ (by simp) (by simp) (by simp) (by simp)).put _ (by simp) (by simp) (by simp) (by simp)).put _ (by simp) (by simp) (by simp) (by simp)) (by simp[Aa,h1]) (by simp[Aa]) hq
   |cons Bw qs=>
    obtain⟨k,g1,g2,g3,g4,g5,g6⟩:=Wd hq;have hkn:=nq Bw (by simp);have c1:¬ ((qs.length:Int)+1=0):=by omega
    have c2:(1:Int)≤(qs.length:Int)+1:=by omega
    have c3:List.take qs.length (qs.map wA)=qs.map wA:=AX (by simp);by_cases c:(i:Int)<k
    ·obtain⟨X',f1,f2,f3,f4⟩:=step Aw dW i ps (Bw::qs) (by rw[← hI.lp i h2,Jp h1]) (by rw[← hI.lq i h2,CS (by omega),DA g6 (by omega)]) h2 (by omega) h4 ⟨by decide,by decide⟩ h5 ⟨by decide,by decide⟩ h6 (dS hq (i+1) (by omega) (fun z hz=>by
      rcases List.mem_cons.1 hz with rfl | hz
      ·omega
      ·obtain⟨m,m1,m2,_⟩:=JN g6 z hz;omega)) (fun j hj=>by rw[← hI.lp j (by omega),CS (by omega)]) (fun j hj=>by rw[← hI.lq j (by omega)]) (fun j q1 q2=>by rw[← hI.lp j q1,CS (by omega),DA h6 (by omega)]) (fun j q1 q2=>by rw[← hI.lq j q1,CS (by omega),DA g6 (by omega)]) (by simp at hN ⊢; omega) (fun z hz=>np z (List.mem_cons_of_mem _ hz)) nq
     refine⟨X',f1,f2,f3,fun {n0 w0 I0 M0 m0} Q v w u C H hC hH hq=>?_⟩;refine Ab Ai AL.eq_1 ?_;simp[h1,g1,c,Aa];simp[d1,d2,d3];exact f4 Q v w u _ _ C _ hC (((hH.put _ (by simp) (by simp) (by simp) (by simp)).put _ (by simp) (by simp) (by simp) (by simp)).put _ (by simp) (by simp) (by simp) (by simp)) (by simp[Aa,h1]) (by simp[Aa]) hq
    ·by_cases d:(k:Int)<i
     ·obtain⟨X',f1,f2,f3,f4⟩:=step dW Bw k (Aw::ps) qs (by rw[← hI.lp k g2,CS (by omega),DA h6 (by omega)]) (by rw[← hI.lq k g2,Jp g1]) g2 (by omega) ⟨by decide,by decide⟩ g4 ⟨by decide,by decide⟩ g5 (dS hp (k+1) (by omega) (fun z hz=>by
       rcases List.mem_cons.1 hz with rfl | hz
       ·omega
       ·obtain⟨m,m1,m2,_⟩:=JN h6 z hz;omega)) g6 (fun j hj=>by rw[← hI.lp j (by omega)]) (fun j hj=>by rw[← hI.lq j (by omega),CS (by omega)]) (fun j q1 q2=>by rw[← hI.lp j q1,CS (by omega),DA h6 (by omega)]) (fun j q1 q2=>by rw[← hI.lq j q1,CS (by omega),DA g6 (by omega)]) (by simp at hN ⊢; omega) np (fun z hz=>nq z (List.mem_cons_of_mem _ hz))
      refine⟨X',f1,f2,f3,fun {n0 w0 I0 M0 m0} Q v w u C H hC hH hq=>?_⟩;refine Ab Ai AL.eq_1 ?_;simp[h1,g1,c,d,Aa];simp[c1,c2,c3,d1];exact f4 Q v w u _ _ C _ hC ((hH.put _ (by simp) (by simp) (by simp) (by simp)).put _ (by simp) (by simp) (by simp) (by simp)) (by simp[Aa]) (by simp[Aa,g1]) hq
     ·have e:k=i:=by omega
      subst e;obtain⟨X',f1,f2,f3,f4⟩:=step Aw Bw k ps qs (by rw[← hI.lp k h2,Jp h1]) (by rw[← hI.lq k g2,Jp g1]) g2 (by omega) h4 g4 h5 g5 h6 g6 (fun j hj=>by rw[← hI.lp j (by omega),CS (by omega)]) (fun j hj=>by rw[← hI.lq j (by omega),CS (by omega)]) (fun j q1 q2=>by rw[← hI.lp j q1,CS (by omega),DA h6 (by omega)]) (fun j q1 q2=>by rw[← hI.lq j q1,CS (by omega),DA g6 (by omega)]) (by simp at hN ⊢; omega) (fun z hz=>np z (List.mem_cons_of_mem _ hz)) (fun z hz=>nq z (List.mem_cons_of_mem _ hz));refine⟨X',f1,f2,f3,fun {n0 w0 I0 M0 m0} Q v w u C H hC hH hq=>?_⟩;refine Ab Ai AL.eq_1 ?_;simp[h1,g1,c,d,Aa];simp[c1,c2,c3,d1,d2,d3];exact f4 Q v w u _ _ C _ hC ((((hH.put _ (by simp) (by simp) (by simp) (by simp)).put _ (by simp) (by simp) (by simp) (by simp)).put _ (by simp) (by simp) (by simp) (by simp)).put _ (by simp) (by simp) (by simp) (by simp)) (by simp[Aa,h1]) (by simp[Aa,g1]) hq
theorem YR {ot:T} (wo:AK ot) {x y:List Int} {ps qs:List WE} (hp:K9 ot.words x 0 ps) (hq:K9 ot.words y 0 qs) (hn:DG (DG ot.words.length ps) qs≤800000) (hl:ps.length+qs.length≤1000000000) {at':CV} (hat:at'.length≤999999) :
  ∃ X:List Int,(∀ j,X.getD j 0=NP (ot.words.getD j 0) (GA ps j) (GA qs j))∧(∀ z,z ∈ X→Bo z)∧X.length≤900000∧∀ (v w:Nat) (C:List Cf),C.length+((List.range (DG (DG ot.words.length ps) qs)).flatMap fun i:Nat=>PD at' i (ot.words.getD i 0) (GA ps i) (GA qs i)).length≤100000000000 →
   SpecF Tryz.prog 83 (fun r=>[.pob [r] v 0,Ce at',tX ot,Qn ps,Qn qs]) (Ni v w C) (fun _=>DN X) (Ni v w (C++(List.range (DG (DG ot.words.length ps) qs)).flatMap fun i:Nat=>PD at' i (ot.words.getD i 0) (GA ps i) (GA qs i))):=by
 have hwl:ot.words.length≤800000:=by
  rw[EV,EV] at hn;omega
 have e0:dK at' ot.words (GA ps) (GA qs) (DG (DG ot.words.length ps) qs) 0=(List.range (DG (DG ot.words.length ps) qs)).flatMap fun i:Nat=>PD at' i (ot.words.getD i 0) (GA ps i) (GA qs i):=by
  unfold dK;rw[List.range_eq_range',Nat.sub_zero]
 rw[← e0];have np:∀ z,z ∈ ps→z.at_<(DG (DG ot.words.length ps) qs:Nat):=fun z hz=>by
  have:=Ln (n:=ot.words.length) hz;rw[EV qs];omega
 have nq:∀ z,z ∈ qs→z.at_<(DG (DG ot.words.length ps) qs:Nat):=fun z hz=>Ln hz;have C1:=QK ot.words (by omega);obtain⟨X,f1,f2,f3,f4⟩:=j8 wo rfl hn hat (ps.length+qs.length) ps qs 0 ot.words (Cj _) hl hp hq np nq ⟨fun j _=>rfl,fun j _=>rfl,fun j hj=>by omega,fun j _=>rfl,(wfT_iff.1 wo).w,by omega⟩;refine⟨X,f1,f2,f3,fun v w C hC=>Iq Md (by simp) (Ae Au (Ae Ba (Ae (BD ot) (Ae Ba (Ae Ba Ah))))) Ba fun w0 I0 M0 m0 hM=>?_⟩;unfold HC;simp;refine Ar 15 C1 (fun p=>by simp) (by simp) (by simp) ?_;simp;refine LoopC.le (Ao [(0,.pob [0] v 0),(1,Ce at'),(3,Qn ps),(4,Qn qs),(7,.pob [1] 1 0),(11,.pob [2] 1 0),(12,.fnc 131 [] [.pob [2] 1 0])] (by simp)) ?_;refine f4 _ v w 1 C _ hC ⟨fun p=>by simp,by simp,fun p=>?_,fun p=>by simp⟩ fun H' u' hH'=>?_
 ·by_cases hp:p=[]
  ·subst hp;simp
  ·simp[hp,FR,Ne.symm hp]
 ·have h2:H' [2]=⟨1,.cells [.osl [15] u' 1 0 X.length]⟩:=by rw[hH'.b];simp
  simp[h2];obtain⟨H2,g1,g2⟩:=N7 (c:=DD Tryz.prog w0 I0 M0 149 m0) (s:=lk [(10,.osl [15] u' 1 0 X.length)]) (H:=H') (fun r=>r=15) (fun r p b hr=>hM r p b (by omega)) 10 (DN X) (fun H1 e1=>by
   have e2:H1 [15]=H' [15]:=e1 15 [] rfl;simp;exact B0 (f:=uv) (by rw[e2,hH'.c];simp) rfl (fun x=>by simp))
  refine H5 g1 (Ax (r0:=DN X) (by simp[upd,EU]) rfl (fun p=>?_));exact(g2 0 p (by omega)).trans (hH'.f p)
theorem U9 {ks:List KE} {x:KE} (hx:ks.getLast? = some x) (h:∀ w,w ∈ ks→w.at_≤x.at_) (n:Nat):CR n ks=max n (x.at_+1).toNat:=by
 have key:∀ (l:List KE),(∀ w,w ∈ l→w.at_≤x.at_)→CR 0 l≤(x.at_+1).toNat:=by
  intro l;induction l with
  |nil=>intro _;simp[CR]
  |cons y l ih=>
   intro hl;have e:CR 0 (y::l)=CR (max 0 (y.at_+1).toNat) l:=rfl;have:=ih fun w hw=>hl w (List.mem_cons_of_mem _ hw);have:=hl y (by simp);rw[e,IU];omega
 have k1:=key ks h;have k2:=Zh (n:=0) (List.mem_of_getLast? hx);rw[IU];omega
def nR (f:Nat) (at':CV) (o:T) (p q:E) (u:T):Prop:=AK u∧Ag u=(mg f at' o p q).1∧∀ (v w:Nat) (C:List Cf),C.length+(mg f at' o p q).2.length≤100000000000 →
 SpecF Tryz.prog 34 (fun r=>[.pob [r] v 0,Ce at',tX o,eX p,eX q]) (Ni v w C) (fun _=>tX u) (Ni v w (C++(mg f at' o p q).2))
structure StH (v w:Nat) (o:T) (p q:E) (C:List Cf) (X:List Int) (L:List T) (u:Nat) (H:Hp):Prop where
 f:∀ r,H (0::r)=(Ni v w C).F 0 r
 o:H [1]=⟨1,.cells (Xu o)⟩
 p:H [2]=⟨1,.cells (eL p)⟩
 q:H [3]=⟨1,.cells (eL q)⟩
 z:H [4]=⟨1,.cells [iv 0,.sl true [],.sl true []]⟩
 b:H [5]=⟨1,.cells [iv 1,DN X,.osl [6] u 3 0 L.length]⟩
 c:H [6]=⟨u,.arr 3 (L.map tA)⟩
variable {n0:Nat} {w0:World} {I0:Nat→Prop} {M0:Nm→Nat→Prop} {m0:Mu} {Q:Exit→Sta→Prop}
theorem r8 {f:Nat} {at':CV} (hat:at'.length≤900000) {o:T} {p q:E} {X:List Int} {U:Nat→T} {m:Nat} (hm:m≤800000) (lp:p.kids.length≤10000000000000) (lq:q.kids.length≤10000000000000) (hU:∀ i:Nat,nR f (at'++[(0,(i:Int))]) (o.kids.getD i T0) (F3 p.kids i) (F3 q.kids i) (U i)) {v w:Nat} {C:List Cf} (hC:C.length+((List.range m).flatMap fun i:Nat=>(mg f (at'++[(0,(i:Int))]) (o.kids.getD i T0) (F3 p.kids i) (F3 q.kids i)).2).length≤100000000000)
  (hq:∀ (H':Hp),StH v w o p q (C++(List.range m).flatMap fun i:Nat=>(mg f (at'++[(0,(i:Int))]) (o.kids.getD i T0) (F3 p.kids i) (F3 q.kids i)).2) X ((List.range m).map U) (m+1) H'→Q (.exit 2) ⟨lk [(0,.pob [0] v 0),(1,Ce at'),(7,.pob [1] 1 0),(8,.pob [2] 1 0),(9,.pob [3] 1 0),(10,.pob [4] 1 0),(11,.pob [5] 1 0),(53,iv m),(54,iv m),(55,bv false)],H'⟩) :
  ∀ (j i:Nat) (H:Hp),i+j=m→StH v w o p q (C++(List.range i).flatMap fun i:Nat=>(mg f (at'++[(0,(i:Int))]) (o.kids.getD i T0) (F3 p.kids i) (F3 q.kids i)).2) X ((List.range i).map U) (i+1) H →
  LoopC (DD Tryz.prog w0 I0 M0 n0 m0) B8 Q ⟨lk [(0,.pob [0] v 0),(1,Ce at'),(7,.pob [1] 1 0),(8,.pob [2] 1 0),(9,.pob [3] 1 0),(10,.pob [4] 1 0),(11,.pob [5] 1 0),(53,iv m),(54,iv i)],H⟩:=by
 intro j;induction j with
 |zero=>
  intro i H hj hH;have:i=m:=by omega
  subst this;refine Ab Ai B8.eq_1 ?_;simp;exact hq H hH
 |succ j ih=>
  intro i H hj hH;have hlt:i<m:=by omega
  have ew:=AW i;have F:=Ii at' 0 i (by omega);have K0:=Fl o i;have K1:=Vh p.kids lp i;have K2:=Vh q.kids lq i;obtain⟨u1,u2,u3⟩:=hU i;have hr:List.range (i+1)=List.range i++[i]:=List.range_succ;have hsub:((List.range (i+1)).flatMap fun i:Nat=>(mg f (at'++[(0,(i:Int))]) (o.kids.getD i T0) (F3 p.kids i) (F3 q.kids i)).2).length≤((List.range m).flatMap fun i:Nat=>(mg f (at'++[(0,(i:Int))]) (o.kids.getD i T0) (F3 p.kids i) (F3 q.kids i)).2).length:=by
   have e:List.range m=List.range (i+1)++List.range' (i+1) (m-(i+1)):=by
    rw[List.range_eq_range',List.range_eq_range',show m=(i+1)+(m-(i+1)) from by omega,← List.range'_append_1];simp
   rw[e,List.flatMap_append,List.length_append];omega
  have next:=ih (i+1)
  rw[hr] at hsub next
  rw[List.flatMap_append,List.flatMap_singleton,List.length_append] at hsub;rw[List.flatMap_append,List.flatMap_singleton,List.map_append,← List.append_assoc] at next
  have S:=u3 v w (C++(List.range i).flatMap fun i:Nat=>(mg f (at'++[(0,(i:Int))]) (o.kids.getD i T0) (F3 p.kids i) (F3 q.kids i)).2) (by rw[List.length_append];omega);generalize (List.range i).flatMap (fun i:Nat=>(mg f (at'++[(0,(i:Int))]) (o.kids.getD i T0) (F3 p.kids i) (F3 q.kids i)).2)=D at *;generalize hL:(List.range i).map U=L at *;have hLl:L.length=i:=by rw[← hL];simp
  generalize (mg f (at'++[(0,(i:Int))]) (o.kids.getD i T0) (F3 p.kids i) (F3 q.kids i)).2=c at *;have h1:=hH.o;have h2:=hH.p;have h3:=hH.q;have h5:=hH.b;have h6:=hH.c;refine Ab Ai B8.eq_1 ?_;simp[hlt,h1,h2,h3,h5];refine Af F (by simp) ?_;simp[h1,h2,h3];refine Af K0 (by simp) ?_;simp[h1,h2,h3];refine Af K1 (by simp) ?_;simp[h1,h2,h3];refine Af K2 (by simp) ?_;simp;refine Ar 0 S hH.f (by simp) (by simp[List.isPrefixOf]) ?_;simp[h5,h6,Aa];refine⟨by omega,?_⟩;rw[ew];have h4:=hH.z;exact next _ (by omega) ⟨fun r=>by simp,by simp[Aa,h1],by simp[Aa,h2],by simp[Aa,h3],by simp[Aa,h4],by simp[Aa],by simp[Aa,AX]⟩
theorem rR {at':CV} {p q:E} (ap:∀ k,k ∈ p.kids→0≤k.at_∧k.at_≤900000) (aq:∀ k,k ∈ q.kids→0≤k.at_∧k.at_≤900000) (sp:∀ x,p.kids.getLast? = some x→∀ w,w ∈ p.kids→w.at_≤x.at_) (sq:∀ x,q.kids.getLast? = some x→∀ w,w ∈ q.kids→w.at_≤x.at_) (lp:p.kids.length≤10000000000000) (lq:q.kids.length≤10000000000000) {v:Nat} {n:Nat} (hn:n≤10000000) {H:Hp}
  (hq:Q (.exit 0) ⟨lk [(0,.pob [0] v 0),(1,Ce at'),(7,.pob [1] 1 0),(8,.pob [2] 1 0),(9,.pob [3] 1 0),(10,.pob [4] 1 0),(11,.pob [5] 1 0),(12,iv (CR (CR n p.kids) q.kids)),(33,.sl true [QA p.kids,QA q.kids]),(34,iv 2),(35,iv 2),(36,bv false)],H⟩) :
  LoopC (DD Tryz.prog w0 I0 M0 n0 m0) AZ Q ⟨lk [(0,.pob [0] v 0),(1,Ce at'),(7,.pob [1] 1 0),(8,.pob [2] 1 0),(9,.pob [3] 1 0),(10,.pob [4] 1 0),(11,.pob [5] 1 0),(12,iv n),(33,.sl true [QA p.kids,QA q.kids]),(34,iv 2),(35,iv 0)],H⟩:=by
 have one:∀ (ks:List KE) (n:Nat) (j:Nat),n≤10000000→j<2→[QA p.kids,QA q.kids][j]? = some (QA ks)→ks.length≤10000000000000→(∀ k,k ∈ ks→0≤k.at_∧k.at_≤900000)→(∀ x,ks.getLast? = some x→∀ w,w ∈ ks→w.at_≤x.at_)→LoopC (DD Tryz.prog w0 I0 M0 n0 m0) AZ Q ⟨lk [(0,.pob [0] v 0),(1,Ce at'),(7,.pob [1] 1 0),(8,.pob [2] 1 0),(9,.pob [3] 1 0),(10,.pob [4] 1 0),(11,.pob [5] 1 0),(12,iv (CR n ks)),(33,.sl true [QA p.kids,QA q.kids]),(34,iv 2),(35,iv (j+1:Nat))],H⟩ →
   LoopC (DD Tryz.prog w0 I0 M0 n0 m0) AZ Q ⟨lk [(0,.pob [0] v 0),(1,Ce at'),(7,.pob [1] 1 0),(8,.pob [2] 1 0),(9,.pob [3] 1 0),(10,.pob [4] 1 0),(11,.pob [5] 1 0),(12,iv n),(33,.sl true [QA p.kids,QA q.kids]),(34,iv 2),(35,iv j)],H⟩:=fun ks n j hn hj hks hl ha hs next=>by
  have ew:=AW j;have hj2:(j:Int)<2:=by omega
  have hk2:[QA p.kids,QA q.kids][j]=QA ks:=by
   rw[List.getElem?_eq_getElem hj] at hks;exact Option.some.inj hks
  cases e:ks.getLast? with
  |none=>
   have:ks=[]:=List.getLast?_eq_none_iff.1 e;subst this;refine Ab Ai AZ.eq_1 ?_;simp[hj2,hj,hk2];rw[ew];exact next
  |some x=>
   have e1:=U9 e (hs x e) n;have hx:=ha x (List.mem_of_getLast? e);rw[e1] at next
   have hne:ks ≠ []:=fun h=>by rw[h] at e;cases e
   have h0:=List.length_pos_iff.2 hne;have h0':(0:Int)<ks.length:=by omega
   have e9:i64.wrap ((ks.length:Int)-1)=((ks.length-1:Nat):Int):=(Bf (n:=(ks.length:Int)-1) (by omega) (by omega)).trans (by omega);have hlt:ks.length-1<ks.length:=by omega
   have hx2:ks[ks.length-1]=x:=by
    rw[List.getLast?_eq_getElem?,List.getElem?_eq_getElem hlt] at e;exact Option.some.inj e
   have e10:i64.wrap (x.at_+1)=x.at_+1:=EJ;have e11:max (n:Int) (x.at_+1)=((max n (x.at_+1).toNat:Nat):Int):=by omega
   refine Ab Ai AZ.eq_1 ?_;simp[hj2,hj,hk2,h0,h0',e9,hlt,hx2,e10];rw[ew,e11];exact next
 have b1:CR n p.kids≤10000000:=by
  cases e:p.kids.getLast? with
  |none=>
   rw[List.getLast?_eq_none_iff.1 e];exact hn
  |some x=>
   have hx:=ap x (List.mem_of_getLast? e);rw[U9 e (sp x e)];omega
 refine one p.kids n 0 hn (by decide) rfl lp ap sp ?_;refine one q.kids _ 1 b1 (by decide) rfl lq aq sq ?_;refine Ab Ai AZ.eq_1 ?_;simp;exact hq
theorem Pm:∀ {ws:List WE} {n m:Nat},n≤m→(∀ w,w ∈ ws→w.at_<(m:Int))→DG n ws≤m
 |[],n,m,h,_=>h
 |w::ws,n,m,h,hw=>Pm (ws:=ws) (n:=max n (w.at_+1).toNat) (by have:=hw w (by simp);omega) fun z hz=>hw z (List.mem_cons_of_mem _ hz)
theorem O8:∀ {ws:List KE} {n m:Nat},n≤m→(∀ w,w ∈ ws→w.at_<(m:Int))→CR n ws≤m
 |[],n,m,h,_=>h
 |w::ws,n,m,h,hw=>O8 (ws:=ws) (n:=max n (w.at_+1).toNat) (by have:=hw w (by simp);omega) fun z hz=>hw z (List.mem_cons_of_mem _ hz)
theorem mq {f:Nat} {at':CV} {o:T} (wo:AK o) {p q:E} {x y:List Int} (hp:K9 o.words x 0 p.words) (hq:K9 o.words y 0 q.words) {U:Nat→T} (hU:∀ i:Nat,nR f (at'++[(0,(i:Int))]) (o.kids.getD i T0) (F3 p.kids i) (F3 q.kids i) (U i)) {X:List Int} (hX:∀ j,X.getD j 0=NP (o.words.getD j 0) (GA p.words j) (GA q.words j)) :
  Ag (.mk 1 X ((List.range (CR (CR o.kids.length p.kids) q.kids)).map U))=(gM (mg f) at' o p q).1:=by
 unfold gM;refine struct_eq.2 ⟨fun j=>?_,fun j=>?_⟩
 ·rw[hX];refine(X8 (fun i:Nat=>NP (o.words.getD i 0) (GA p.words i) (GA q.words i)) 0 _ j fun hj=>?_).symm;show NP (o.words.getD j 0) (GA p.words j) (GA q.words j)=0;have hw:o.words.length≤j:=by
   rw[EV q.words,EV p.words] at hj;omega
  have e0:o.words.getD j 0=0:=by rw[List.getD_eq_getElem?_getD,List.getElem?_eq_none hw];rfl
  have far:∀ {ws:List WE},(∀ w,w ∈ ws→w.at_<(j:Int))→GA ws j=dW:=fun {ws} h=>by
   unfold GA;rw[List.find?_eq_none.2 fun w hw=>by have:=h w hw;simp;omega];rfl
  rw[e0,far (ws:=p.words) fun w hw=>by
   have:=Ln (n:=o.words.length) hw;rw[EV q.words,EV p.words] at hj;rw[EV] at this;omega,far (ws:=q.words) fun w hw=>by
   have:=Ln (n:=DG o.words.length p.words) hw;omega,P4 ⟨by decide,by decide⟩]
 ·by_cases c:j<CR (CR o.kids.length p.kids) q.kids
  ·have:=(hU j).2.1;simp only[List.getD_eq_getElem?_getD,List.getElem?_map,List.getElem?_range c,Option.map_some,Option.getD_some];rw[List.getD_eq_getElem?_getD] at this;rw[← this,Es]
  ·rw[List.getD_eq_getElem?_getD,List.getD_eq_getElem?_getD,List.getElem?_eq_none (by simp;omega),List.getElem?_eq_none (by simp;omega)]
theorem gS {f:Nat} {at':CV} (hat:at'.length≤900000) {o:T} (wo:AK o) {p q:E} {x y:T} (hp:K9 o.words x.words 0 p.words) (hq:K9 o.words y.words 0 q.words) {R:E→T→T→Prop} (kp:Uf R o.kids x.kids 0 p.kids) (kq:Uf R o.kids y.kids 0 q.kids) (b1:o.words.length≤700000∧o.kids.length≤700000) (b2:x.words.length≤700000∧x.kids.length≤700000) (b3:y.words.length≤700000∧y.kids.length≤700000) (wp:p.words.length≤500000000∧p.kids.length≤10000000000000) (wq:q.words.length≤500000000∧q.kids.length≤10000000000000)
  (hU:∀ i:Nat,∃ u,nR f (at'++[(0,(i:Int))]) (o.kids.getD i T0) (F3 p.kids i) (F3 q.kids i) u) :
  ∃ u,AK u∧Ag u=(gM (mg f) at' o p q).1∧∀ (v w:Nat) (C:List Cf),C.length+(gM (mg f) at' o p q).2.length≤100000000000 →
   SpecF Tryz.prog 55 (fun r=>[.pob [r] v 0,Ce at',tX o,eX p,eX q]) (Ni v w C) (fun _=>tX u) (Ni v w (C++(gM (mg f) at' o p q).2)):=by
 obtain⟨U,hU⟩:=Classical.axiomOfChoice hU;have tw:DG (DG o.words.length p.words) q.words≤700000:=Pm (Pm b1.1 fun w hw=>by
  obtain⟨i,k1,k2,k3,_⟩:=JN hp w hw;omega) fun w hw=>by
  obtain⟨i,k1,k2,k3,_⟩:=JN hq w hw;omega
 have tk:CR (CR o.kids.length p.kids) q.kids≤700000:=O8 (O8 b1.2 fun w hw=>by
  obtain⟨i,k1,k2,k3,_⟩:=L9 kp w hw;omega) fun w hw=>by
  obtain⟨i,k1,k2,k3,_⟩:=L9 kq w hw;omega
 have O:=wfT_iff.1 wo;have ap:∀ k,k ∈ p.kids→0≤k.at_∧k.at_≤900000:=fun w hw=>by
  obtain⟨i,k1,k2,k3,_⟩:=L9 kp w hw;omega
 have aq:∀ k,k ∈ q.kids→0≤k.at_∧k.at_≤900000:=fun w hw=>by
  obtain⟨i,k1,k2,k3,_⟩:=L9 kq w hw;omega
 have hc2:(gM (mg f) at' o p q).2=((List.range (DG (DG o.words.length p.words) q.words)).flatMap (fun i:Nat=>PD at' i (o.words.getD i 0) (GA p.words i) (GA q.words i)))++((List.range (CR (CR o.kids.length p.kids) q.kids)).flatMap fun i:Nat=>(mg f (at'++[(0,(i:Int))]) (o.kids.getD i T0) (F3 p.kids i) (F3 q.kids i)).2):=rfl;obtain⟨X,f1,f2,f3,f4⟩:=YR wo hp hq (by omega) (by omega) (at':=at') (by omega);have ht:=mq wo hp hq hU f1;have hkl:o.kids.length≤CR (CR o.kids.length p.kids) q.kids:=by
  rw[IU,IU];omega
 refine⟨.mk 1 X ((List.range (CR (CR o.kids.length p.kids) q.kids)).map U),wfT_iff.2 ⟨by simp[BN],f2,by show X.length*8≤_;omega,by simp;omega,fun t ht=>?_⟩,ht,fun v w C hC=>?_⟩
 ·obtain⟨i,_,rfl⟩:=List.mem_map.1 (show t ∈ (List.range _).map U from ht);exact(hU i).1
 rw[hc2] at hC ⊢;rw[List.length_append] at hC;have W:=f4 v w C (by omega);have L2:=fun {n0:Nat} {w0:World} {I0:Nat→Prop} {M0:Nm→Nat→Prop} {m0:Mu} {Q:Exit→Sta→Prop}=>r8 (n0:=n0) (w0:=w0) (I0:=I0) (M0:=M0) (m0:=m0) (Q:=Q) hat (o:=o) (p:=p) (q:=q) (X:=X) (m:=CR (CR o.kids.length p.kids) q.kids) (by omega) wp.2 wq.2 hU (v:=v) (w:=w) (C:=C++(List.range (DG (DG o.words.length p.words) q.words)).flatMap fun i:Nat=>PD at' i (o.words.getD i 0) (GA p.words i) (GA q.words i)) (by rw[List.length_append];omega);rw[← List.append_assoc];have sp:=SA kp;have sq:=SA kq;generalize (List.range (DG (DG o.words.length p.words) q.words)).flatMap (fun i:Nat=>PD at' i (o.words.getD i 0) (GA p.words i) (GA q.words i))=CW at *;generalize hCK:(fun i:Nat=>(mg f (at'++[(0,(i:Int))]) (o.kids.getD i T0) (F3 p.kids i) (F3 q.kids i)).2)=CK at *;refine Iq I4 (by simp) (Ae Au (Ae Ba (Ae (BD o) (Ae (Cn p) (Ae (Cn q) Ah))))) (BD _) fun w0 I0 M0 m0 hM=>?_;unfold Fv;simp;refine Ar 0 W (fun p=>by simp) (by simp) (by simp) ?_;simp;refine LoopC.le (BX (d:=[5]) (u:=1) 2 [6] 3 (by simp;rfl) rfl (by simp)) ?_;refine LoopC.le (Ao [(0,.pob [0] v 0),(1,Ce at'),(7,.pob [1] 1 0),(8,.pob [2] 1 0),(9,.pob [3] 1 0),(10,.pob [4] 1 0),(11,.pob [5] 1 0),(12,iv o.kids.length),(33,.sl true [QA p.kids,QA q.kids]),(34,iv 2),(35,iv 0)] (by simp)) ?_;refine rR ap aq sp sq wp.2 wq.2 (by omega) ?_;simp;refine LoopC.le (Ao [(0,.pob [0] v 0),(1,Ce at'),(7,.pob [1] 1 0),(8,.pob [2] 1 0),(9,.pob [3] 1 0),(10,.pob [4] 1 0),(11,.pob [5] 1 0),(53,iv (CR (CR o.kids.length p.kids) q.kids:Nat)),(54,iv (0:Nat))] (by simp)) ?_;refine L2 (fun H' hH=>?_) (CR (CR o.kids.length p.kids) q.kids) 0 _ (by omega) ⟨fun r=>?_,by simp[Aa],by simp[Aa],by simp[Aa],by simp[Aa],by simp[Aa],by simp[Aa]⟩
 ·have h4:=hH.z;have h5:=hH.b;simp[h4,h5,Aa];have h6:=hH.c;have hf:=hH.f;rw[List.append_assoc] at hf;generalize hLL:(List.range (CR (CR o.kids.length p.kids) q.kids)).map U=LL at *;have hlen:CR (CR o.kids.length p.kids) q.kids=LL.length:=by rw[← hLL];simp
  generalize CR (CR o.kids.length p.kids) q.kids=m at *;obtain⟨H4,y1,y2⟩:=Iz (c:=DD Tryz.prog w0 I0 M0 80 m0) (s:=lk [(10,.pob [4] 1 0)]) (H:=AJ H' [4] ⟨1,.cells [iv 1,DN X,.osl [6] (m+1) 3 0 m]⟩) (fun r=>r=6) (fun r p b h=>hM r p b (by omega)) (r0:=4) (p0:=[]) (by omega) (u:=1) (cs:=[iv 1,DN X,.osl [6] (m+1) 3 0 m]) (by simp[Aa]) (cs':=Xu (.mk 1 X LL)) (by simp[A.ones]) (fun H1 h1=>⟨Ad rfl,Ad rfl,B0 (f:=tA) (l:=LL) (by rw[h1 6 [] rfl];simp[Aa,h6]) hlen (fun x=>by simp),trivial⟩);refine H5 y1 (Ax (r0:=tX (.mk 1 X LL)) (by simp[EU]) rfl fun r=>?_);have e1:=y2 0 r (by omega);dsimp only;rw[AD (by simp),e1,AD (by simp),hf]
 ·simp[Aa]
end Go.Proofs.YtndnlknocdangaaGreat
namespace Go.G
open Go
structure vD where
 B:Nat→Nat→Nat→Nm→VOb
 C:Nat→Nat→Nat→Nm→VOb
 D:Nat→Nat→Nat→Nm→VOb
 ren:∀ {g:Nm→Nm} {δ:Nm→Nat} {r r' q q' t t':Nat},(∀ p,g (r::p)=r'::p)→(∀ p,g (q::p)=q'::p)→(∀ p,g (t::p)=t'::p)→(∀ p,δ (r::p)=0)→(∀ p,δ (q::p)=0)→(∀ p,δ (t::p)=0)→∀ p,(B r q t p).ren g δ 0=B r' q' t' p∧(C r q t p).ren g δ 0=C r' q' t' p∧(D r q t p).ren g δ 0=D r' q' t' p
 refs:∀ {P:Nm→Prop} {r q t:Nat},(∀ p,P (r::p))→(∀ p,P (q::p))→(∀ p,P (t::p))→∀ p,(B r q t p).ob.refs P∧(C r q t p).ob.refs P∧(D r q t p).ob.refs P
section
variable {P:Program} {K:Sta→Prop} {rest:List CO} {s:Nat→A} {H:Hp} {dd:Option Nat} {nm:Nm} {ix:Nat} {un:List Nat} {l:Bool} {lg:Lg} {g:FuncId} {aa:Array Operand} {ts:Array TypeId}
theorem cj {as':Nat→Nat→Nat→List A} {F:vD} {x:A} (r q t:Nat) (h1:r ≠ q) (h2:r ≠ t) (h3:q ≠ t)
  (hx1:∀ g δ,x.ren g δ=x) (hx2:∀ D,x.refs D)
  (fa1:∀ {g:Nm→Nm} {δ:Nm→Nat} {r r' q q' t t':Nat},(∀ p,g (r::p)=r'::p)→(∀ p,g (q::p)=q'::p)→(∀ p,g (t::p)=t'::p)→(∀ p,δ (r::p)=0)→(∀ p,δ (q::p)=0)→(∀ p,δ (t::p)=0)→A.renL g δ (as' r q t)=as' r' q' t')
  (fa2:∀ {P:Nm→Prop} {r q t:Nat},(∀ p,P (r::p))→(∀ p,P (q::p))→(∀ p,P (t::p))→A.refsL P (as' r q t))
  (hS:SpecH P g 3 (as' 0 1 2) (ov 0 (F.B 0 1 2) (ov 1 (F.C 0 1 2) (ov 2 (F.D 0 1 2) (FR [])))) x (ov 0 (F.B 0 1 2) (ov 1 (F.C 0 1 2) (ov 2 (F.D 0 1 2) (FR [])))))
  (hB:∀ p,H (r::p)=F.B r q t p) (hC:∀ p,H (q::p)=F.C r q t p) (hD:∀ p,H (t::p)=F.D r q t p) :
  ∃ E,Tm P H g (as' r q t) x E [] ([r,q,t].map fun r=>([r],true))∧E.app H=H:=by
 have hd:∀ p,MP [r,q,t] 3 H (0::p)=0:=fun p=>rfl;have hd1:∀ p,MP [r,q,t] 3 H (1::p)=0:=fun p=>rfl;have hd2:∀ p,MP [r,q,t] 3 H (2::p)=0:=fun p=>rfl;have i0:[r,q,t].idxOf r=0:=by simp
 have i1:[r,q,t].idxOf q=1:=by simp[List.idxOf_cons,beq_eq_false_iff_ne.2 h1]
 have i2:[r,q,t].idxOf t=2:=by simp[List.idxOf_cons,beq_eq_false_iff_ne.2 h2,beq_eq_false_iff_ne.2 h3]
 have d0:∀ p,Q2 [r,q,t] (r::p)=0::p:=fun p=>by simp[Q2]
 have d1:∀ p,Q2 [r,q,t] (q::p)=1::p:=fun p=>by simp[Q2,i1]
 have d2:∀ p,Q2 [r,q,t] (t::p)=2::p:=fun p=>by simp[Q2,i2]
 have u0:∀ p,Og [r,q,t] (0::p)=r::p:=fun p=>by simp[Og]
 have u1:∀ p,Og [r,q,t] (1::p)=q::p:=fun p=>by simp[Og]
 have u2:∀ p,Og [r,q,t] (2::p)=t::p:=fun p=>by simp[Og]
 have jin:∀ {j:Nat},[r,q,t].idxOf j<3→j=r∨j=q∨j=t:=fun {j} hj=>by
  have:=(idx_mem (rs:=[r,q,t])).1 (by simpa using hj);simpa using this
 have key:=dj (H:=H) (L:=as' r q t) (H':=H) [r,q,t] 3 hS (by simp[h1,h2,h3]) (by simp) (fa1 d0 d1 d2 (fun _=>rfl) (fun _=>rfl) (fun _=>rfl)) (fa2 (fun p=>by simp[Oh]) (fun p=>by simp[Oh,i1]) (fun p=>by simp[Oh,i2])) ?_ ?_ (hx2 _) ?_ (fun i p h1 h2=>by simp at h2;omega) ?_
 ·rw[hx1] at key;exact key
 ·funext o;cases o with
  |nil=>rfl
  |cons i p=>
   by_cases hi:i<3
   ·simp only[K7,if_pos hi];have h01:i=0∨i=1∨i=2:=by omega
    rcases h01 with rfl | rfl | rfl
    ·show(H (r::p)).ren _ _ 0=_;rw[hB];simp only[Be,if_true];exact(F.ren d0 d1 d2 (fun _=>rfl) (fun _=>rfl) (fun _=>rfl) p).1
    ·show(H (q::p)).ren _ _ 0=_;rw[hC];simp only[Be,if_true];rw[if_neg (by omega)];exact(F.ren d0 d1 d2 (fun _=>rfl) (fun _=>rfl) (fun _=>rfl) p).2.1
    ·show(H (t::p)).ren _ _ 0=_;rw[hD];simp only[Be,if_true];rw[if_neg (by omega),if_neg (by omega)];exact(F.ren d0 d1 d2 (fun _=>rfl) (fun _=>rfl) (fun _=>rfl) p).2.2
   ·simp only[K7,if_neg hi,Be];rw[if_neg (by omega),if_neg (by omega),if_neg (by omega)];rfl
 ·intro j p hj;have R:=F.refs (P:=Oh [r,q,t] 3) (r:=r) (q:=q) (t:=t) (fun p=>by simp[Oh]) (fun p=>by simp[Oh,i1]) (fun p=>by simp[Oh,i2]) p;rcases jin hj with rfl | rfl | rfl
  ·rw[hB];exact R.1
  ·rw[hC];exact R.2.1
  ·rw[hD];exact R.2.2
 ·intro i p hi;have hi:i<3:=hi;have R:=F.refs (P:=Ga 3) (r:=0) (q:=1) (t:=2) (fun p=>by simp[Ga]) (fun p=>by simp[Ga]) (fun p=>by simp[Ga]) p;by_cases e0:i=0
  ·subst e0;simp only[Be,if_true];exact R.1
  ·by_cases e1:i=1
   ·subst e1;simp only[Be,if_true];rw[if_neg (by omega)];exact R.2.1
   ·have:i=2:=by omega
    subst this;simp only[Be,if_true];rw[if_neg (by omega),if_neg (by omega)];exact R.2.2
 ·funext o;cases o with
  |nil=>rfl
  |cons j p=>
   by_cases hj:j=r
   ·subst hj;simp only[Lk,Be,if_true];rw[if_pos (by simp),i0,if_pos rfl,hd,hB];exact(F.ren u0 u1 u2 hd hd1 hd2 p).1
   ·by_cases hj2:j=q
    ·subst hj2;simp only[Lk,Be,if_true];rw[if_pos (by simp),i1,if_neg (by omega),if_pos rfl,hd1,hC];exact(F.ren u0 u1 u2 hd hd1 hd2 p).2.1
    ·by_cases hj3:j=t
     ·subst hj3;simp only[Lk,Be,if_true];rw[if_pos (by simp),i2,if_neg (by omega),if_neg (by omega),if_pos rfl,hd2,hD];exact(F.ren u0 u1 u2 hd hd1 hd2 p).2.2
     ·have:¬ [r,q,t].contains j=true:=by simp[hj,hj2,hj3]
      simp only[Lk,if_neg this]
theorem Se {as':Nat→Nat→Nat→List A} {F:vD} {x:A} {fo:Operand} {fs caps:List A} (r q t:Nat) (h1:r ≠ q) (h2:r ≠ t) (h3:q ≠ t) (hv0:evs s fo = .fnc g fs caps)
  (hx1:∀ g δ,x.ren g δ=x) (hx2:∀ D,x.refs D)
  (fa1:∀ {g:Nm→Nm} {δ:Nm→Nat} {r r' q q' t t':Nat},(∀ p,g (r::p)=r'::p)→(∀ p,g (q::p)=q'::p)→(∀ p,g (t::p)=t'::p)→(∀ p,δ (r::p)=0)→(∀ p,δ (q::p)=0)→(∀ p,δ (t::p)=0)→A.renL g δ (as' r q t)=as' r' q' t')
  (fa2:∀ {P:Nm→Prop} {r q t:Nat},(∀ p,P (r::p))→(∀ p,P (q::p))→(∀ p,P (t::p))→A.refsL P (as' r q t))
  (hS:SpecH P g 3 (as' 0 1 2) (ov 0 (F.B 0 1 2) (ov 1 (F.C 0 1 2) (ov 2 (F.D 0 1 2) (FR [])))) x (ov 0 (F.B 0 1 2) (ov 1 (F.C 0 1 2) (ov 2 (F.D 0 1 2) (FR [])))))
  (hB:∀ p,H (r::p)=F.B r q t p) (hC:∀ p,H (q::p)=F.C r q t p) (hD:∀ p,H (t::p)=F.D r q t p) (ha:fs++(aa.toList.map (evs s)++caps)=as' r q t) (hck:Ck un lg ⟨[([r],true),([q],true),([t],true)],[]⟩)
  (h:An P K rest (A9 l ix ⟨[([r],true),([q],true),([t],true)],[]⟩ lg) (Sta.put ⟨s,H⟩ dd x H)) :
  An P K (⟨dd,.call { callee:=.value fo,args:=aa,argTypes:=ts },none,nm,ix,un,l⟩::rest) lg ⟨s,H⟩:=by
 refine VK hv0 ha .nil [([r],true),([q],true),([t],true)] [] (fun H2 hag=>?_) (fun o H2 ho=>rfl) hck h;have e1:∀ p,H2 (r::p)=F.B r q t p:=fun p=>by rw[hag (r::p) (by simp[SH,Pp,List.isPrefixOf]),hB]
 have e2:∀ p,H2 (q::p)=F.C r q t p:=fun p=>by rw[hag (q::p) (by simp[SH,Pp,List.isPrefixOf]),hC]
 have e3:∀ p,H2 (t::p)=F.D r q t p:=fun p=>by rw[hag (t::p) (by simp[SH,Pp,List.isPrefixOf]),hD]
 obtain⟨E,hc,hE⟩:=cj r q t h1 h2 h3 hx1 hx2 fa1 fa2 hS e1 e2 e3;have hc3:Qj P H2 g (as' r q t) x E:=by
  rcases hc with ⟨_,_,_,_,h5⟩ | ⟨_,_,_,h4⟩ | ⟨h1,_⟩
  ·cases h5
  ·cases h4
  ·exact h1 H2 (fun o _=>rfl)
 refine⟨hc3.1,fun c w I μ vs a b d e=>?_⟩;have:=hc3.2 c w I μ vs a b d e;rw[hE] at this;exact this
end
end Go.G
namespace Go.Proofs.YtndnlknocdangaaGreat
open Go Go.G Go.Proofs Go.PL
abbrev jk (x:Bool × List T):A:=.sl x.1 (x.2.map tA)
def Qg (v w:Nat) (C:List Cf) (at':CV) (o:T) (n vo:Nat) (out:List T) (m h:Bool × List T) (vs:Nat):Qm:=⟨fun r _=>(Ni v w C).F r,fun r q p=>if p=[] then ⟨vs,.cells [.pob [r] v 0,Ce at',iv o.kind,DN o.words,BG o.kids,iv n,.osl [q,0] vo 3 0 out.length,jk m,jk h]⟩ else if p=[0] then ⟨vo,.arr 3 (out.map tA)⟩ else ⟨0,.none⟩,fun {g δ r r' q q'} h1 h2 h3 h4 p=>by
  refine⟨(Ni v w C).ren h1 h2 p,?_⟩;by_cases hp:p=[]
  ·simp only[if_pos hp];exact Fam.cells_ren (by simp[A.renL,A.ren,h1,h2,h3,h4])
  ·by_cases hp2:p=[0]
   ·simp only[if_neg hp,if_pos hp2];refine Fam.arr_ren ?_;simp only[Co,List.map_map];exact List.map_congr_left fun x _=>by simp[A.ren,A.renL]
   ·simp only[if_neg hp,if_neg hp2];rfl,fun {D r q} h1 h2 p=>by
  refine⟨(Ni v w C).refs h1 p,?_⟩;by_cases hp:p=[]
  ·simp only[if_pos hp];simp[Ob.refs,A.refsL,A.refs,h1,h2]
  ·by_cases hp2:p=[0]
   ·simp only[if_neg hp,if_pos hp2,Ob.refs,refsL_iff];intro y hy;obtain⟨x,_,rfl⟩:=List.mem_map.1 hy;simp[A.refs,A.refsL]
   ·simp only[if_neg hp,if_neg hp2];trivial⟩
@[simp] theorem AhW {v w:Nat} {C:List Cf} {at':CV} {o:T} {n vo:Nat} {out:List T} {m h:Bool × List T} {vs r q:Nat} {p:Nm}:(Qg v w C at' o n vo out m h vs).B r q p=(Ni v w C).F r p:=rfl
@[simp] theorem Ah4 {v w:Nat} {C:List Cf} {at':CV} {o:T} {n vo:Nat} {out:List T} {m h:Bool × List T} {vs r q:Nat} {p:Nm}:(Qg v w C at' o n vo out m h vs).C r q p=if p=[] then ⟨vs,.cells [.pob [r] v 0,Ce at',iv o.kind,DN o.words,BG o.kids,iv n,.osl [q,0] vo 3 0 out.length,jk m,jk h]⟩ else if p=[0] then ⟨vo,.arr 3 (out.map tA)⟩ else ⟨0,.none⟩:=rfl
def Z7 (S:Qm) (vs:Nat):vD:=⟨fun r q t p=>if p=[] then ⟨1,.cells [.pob [q] vs 0]⟩ else ⟨0,.none⟩,fun r q t p=>S.C t q p,fun r q t p=>S.B t q p,fun {g δ r r' q q' t t'} h1 h2 h3 d1 d2 d3 p=>by
  refine⟨?_,(S.ren h3 d3 h2 d2 p).2,(S.ren h3 d3 h2 d2 p).1⟩;by_cases hp:p=[]
  ·simp only[if_pos hp];exact Fam.cells_ren (by simp[A.renL,A.ren,h2,d2])
  ·simp only[if_neg hp];rfl,fun {D r q t} h1 h2 h3 p=>by
  refine⟨?_,(S.refs h3 h2 p).2,(S.refs h3 h2 p).1⟩;by_cases hp:p=[]
  ·simp only[if_pos hp];simp[Ob.refs,A.refsL,A.refs,h2]
  ·simp only[if_neg hp];trivial⟩
@[simp] theorem Ahy {S:Qm} {vs r q t:Nat} {p:Nm}:(Z7 S vs).B r q t p=if p=[] then ⟨1,.cells [.pob [q] vs 0]⟩ else ⟨0,.none⟩:=rfl
@[simp] theorem AhL {S:Qm} {vs r q t:Nat} {p:Nm}:(Z7 S vs).C r q t p=S.C t q p:=rfl
@[simp] theorem AhN {S:Qm} {vs r q t:Nat} {p:Nm}:(Z7 S vs).D r q t p=S.B t q p:=rfl
theorem Qa {v w:Nat} {C:List Cf} {at':CV} {o:T} {n vo:Nat} {out:List T} {m h:Bool × List T} {vs:Nat} (b:Bool) (l:List T) :
  SpecH Tryz.prog 134 3 [.sl b (l.map tA),.pob [0] 1 0] (ov 0 ((Z7 (Qg v w C at' o n vo out m h vs) vs).B 0 1 2) (ov 1 ((Z7 (Qg v w C at' o n vo out m h vs) vs).C 0 1 2) (ov 2 ((Z7 (Qg v w C at' o n vo out m h vs) vs).D 0 1 2) (FR [])))) (tX (.mk o.kind [] l)) (ov 0 ((Z7 (Qg v w C at' o n vo out m h vs) vs).B 0 1 2) (ov 1 ((Z7 (Qg v w C at' o n vo out m h vs) vs).C 0 1 2) (ov 2 ((Z7 (Qg v w C at' o n vo out m h vs) vs).D 0 1 2) (FR [])))):=by
 refine Mw MI (by simp) fun w0 I0 M0 m0 hM=>?_;unfold HU;simp;generalize hH:ov 0 ((Z7 (Qg v w C at' o n vo out m h vs) vs).B 0 1 2) (ov 1 ((Z7 (Qg v w C at' o n vo out m h vs) vs).C 0 1 2) (ov 2 ((Z7 (Qg v w C at' o n vo out m h vs) vs).D 0 1 2) (FR [([3],⟨1,.cells [iv o.kind,.sl true [],.sl b (l.map tA)]⟩)])))=H;have h3:H [3]=⟨1,.cells [iv o.kind,.sl true [],.sl b (l.map tA)]⟩:=by rw[← hH];simp
 obtain⟨H2,g1,g2⟩:=Iz (c:=DD Tryz.prog w0 I0 M0 11 m0) (s:=lk [(3,.pob [3] 1 0)]) (H:=H) (fun _=>False) (fun _ _ _ h=>h.elim) (r0:=3) (p0:=[]) (by simp) h3 (cs':=Xu (.mk o.kind [] l)) (by simp[A.ones]) (fun H1 _=>⟨Ad rfl,Am,Am,trivial⟩);refine H5 g1 (SN (r0:=tX (.mk o.kind [] l)) (by simp[EU]) rfl fun i p hi=>?_);have e1:=g2 i p (by simp);dsimp only;rw[AD (by simp;omega),e1,← hH];by_cases e0:i=0
 ·subst e0;simp
 ·by_cases e1:i=1
  ·subst e1;simp
  ·have:i=2:=by omega
   subst this;simp
theorem uL {l m:List T}:(decide (l.length=m.length)&&(l.zip m).all fun p=>Kd p.1 p.2)=true ↔ l.map Ag=m.map Ag:=by
 induction l generalizing m with
 |nil=>cases m<;>simp
 |cons x l ih=>
  cases m with
  |nil=>simp
  |cons y m=>
   have:=ih (m:=m);simp only[Bool.and_eq_true,decide_eq_true_eq] at this ⊢;rw[List.zip_cons_cons,List.all_cons,Bool.and_eq_true,List.map_cons,List.map_cons,List.cons.injEq,← this,eqT_iff];simp only[List.length_cons,Nat.add_right_cancel_iff];constructor
   ·rintro⟨a,b,c⟩;exact⟨b,a,c⟩
   ·rintro⟨b,a,c⟩;exact⟨a,b,c⟩
noncomputable def P0 (l m:List T):Bool:=decide (l.length=m.length)&&(l.zip m).all fun p=>Kd p.1 p.2
theorem eqLs_iff {l m:List T}:P0 l m=true ↔ l.map Ag=m.map Ag:=uL
theorem Vx {l m:List T} (he:l.length=m.length):P0 l m=true ↔ ∀ k,k<l.length→Kd (l.getD k T0) (m.getD k T0)=true:=by
 rw[eqLs_iff];constructor
 ·intro h k hk;have:=congrArg (fun x=>x.getD k T0) h;simp only[Fq] at this;exact eqT_iff.2 this
 ·intro h;refine List.ext_getElem (by simp[he]) fun k h1 h2=>?_;have hk:k<l.length:=by simpa using h1
  have hk2:k<m.length:=by omega
  have:=eqT_iff.1 (h k hk);simpa[hk,hk2] using this
variable {n0:Nat} {w0:World} {I0:Nat→Prop} {Q:Exit→Sta→Prop}
theorem vE {l m:List T} (hl:∀ t,t ∈ l→AK t) (hm:∀ t,t ∈ m→AK t) (he:l.length=m.length) (hb:l.length≤10000000000000) (hq:P0 l m=true→∀ st H,Q (.exit 0) ⟨lk ([(1,BG m),(2,.fnc 57 [] [])]++st),H⟩) (hf:P0 l m=false→∀ H,Q .ret ⟨lk [(6,bv false)],H⟩):∀ (j i:Nat) (H:Hp),i+j=l.length→(∀ k,k<i→Kd (l.getD k T0) (m.getD k T0)=true) →
  LoopC (cx Tryz.prog w0 I0 n0) Ak Q ⟨lk [(1,BG m),(2,.fnc 57 [] []),(15,BG l),(16,iv l.length),(17,iv i)],H⟩:=by
 intro j;induction j with
 |zero=>
  intro i H hj hp;have:i=l.length:=by omega
  subst this;refine Ab Ai Ak.eq_1 ?_;simp;have:=hq ((Vx he).2 hp) [(15,BG l),(16,iv l.length),(17,iv l.length),(18,bv false)] H;simpa using this
 |succ j ih=>
  intro i H hj hp;have h1:i<l.length:=by omega
  have h2:i<m.length:=by omega
  have ew:=AW i;have E:=Iw (hl _ (C5 h1)) (hm _ (C5 h2));have eg:Kd (l.getD i T0) (m.getD i T0)=Kd l[i] m[i]:=by simp[h1,h2]
  refine Ab Ai Ak.eq_1 ?_;cases hc:Kd l[i] m[i] with
  |true=>
   rw[hc] at E;simp[h1,h2,Aa];refine LI rfl E (by simp) ?_;simp[ew];refine ih (i+1) _ (by omega) fun k hk=>?_;by_cases e:k=i
   ·subst e;rw[eg,hc]
   ·exact hp k (by omega)
  |false=>
   rw[hc] at E;simp[h1,h2,Aa];refine LI rfl E (by simp) ?_;simp[ew];refine hf ?_ _;cases hx:P0 l m with
   |false=>rfl
   |true=>
    have:=(Vx he).1 hx i h1;rw[eg,hc] at this;cases this
theorem lj {l m:List T} (hl:∀ t,t ∈ l→AK t) (hm:∀ t,t ∈ m→AK t) (hb:l.length≤10000000000000):G.Spec Tryz.prog 127 [BG l,BG m,.fnc 57 [] []] (bv (P0 l m)):=by
 refine Al Bp (by simp) fun w0 I0=>?_;unfold AM;by_cases he:l.length=m.length
 ·simp[he];refine LoopC.le (Ao [(1,BG m),(2,.fnc 57 [] []),(15,BG l),(16,iv l.length),(17,iv (0:Nat))] (by simp[he])) ?_;refine vE hl hm he hb (fun hx st H=>?_) (fun hx H=>?_) l.length 0 _ (by omega) (fun k hk=>by omega)
  ·rw[hx];simp;exact Ad rfl
  ·rw[hx];simp;exact Ad rfl
 ·have hx:P0 l m=false:=by
   cases hx:P0 l m with
   |false=>rfl
   |true=>exact absurd (by simpa using congrArg List.length (eqLs_iff.1 hx)) he
  have hi:¬ ((l.length:Int)=m.length):=by omega
  rw[hx];simp[he,hi];exact Ad rfl
noncomputable def GK (mine hers:List T):Option (List T):=if mine=[] then some hers else if P0 mine hers=true then some hers else if hers=[] then some mine else none
noncomputable def SI (mine hers:List T):Nat:=if (GK mine hers).isSome=true then 1 else 0
theorem cH (at':CV) (kind:Int) (n:Nat) (mine hers:List T):(∀ l,GK mine hers=some l→F9 at' kind n mine hers=(l.map Ag,[]))∧(GK mine hers=none→F9 at' kind n mine hers=([],[⟨at'++[(2,(n:Int))],Ag (.mk kind [] []),Ag (.mk kind [] mine),Ag (.mk kind [] hers)⟩])):=by
 unfold GK F9;by_cases h1:mine=[]
 ·simp[h1]
 ·by_cases h2:P0 mine hers=true
  ·simp[h1,h2,eqLs_iff.1 h2]
  ·have h2':¬ mine.map Ag=hers.map Ag:=fun h=>h2 (eqLs_iff.2 h);by_cases h3:hers=[]
   ·subst h3;simp[h1,h2,h2']
   ·simp[h1,h2,h2',h3]
theorem UO {v w:Nat} {C:List Cf} {at':CV} {o:T} {n vo:Nat} {out mine hers:List T} {vs:Nat} (hm:∀ t,t ∈ mine→AK t) (hh:∀ t,t ∈ hers→AK t) (wo:BN o.kind) (lm:mine.length≤1000000) (lh:hers.length≤1000000) (lo:out.length≤1000000000) (hat:at'.length≤900000) (hC:C.length≤100000000000) :
  JB Tryz.prog 87 (fun r q=>[.pob [q] vs 0]) (Qg v w C at' o n vo out (false,mine) (false,hers) vs) (fun _ _=>.tup []) (Qg v w (C++(F9 at' o.kind n mine hers).2) at' o n (vo+SI mine hers) (out++(GK mine hers).getD []) (true,[]) (true,[]) vs):=by
 have E:=lj hm hh (by omega);have G:=cH at' o.kind n mine hers;have hml:(mine.length:Int)=0 ↔ mine=[]:=by rw[← List.length_eq_zero_iff];omega
 have hhl:(hers.length:Int)=0 ↔ hers=[]:=by rw[← List.length_eq_zero_iff];omega
 refine F8 Pq (by simp) (Az (Jj Au) Eo) (Bj (A5 Ah)) fun w0 I0 M0 m0=>?_;unfold Jr;by_cases h1:mine=[]
 ·have hR:GK mine hers=some hers:=if_pos h1;rw[G.1 _ hR,SI,hR];subst h1;simp;refine Bv rfl ?_;simp[Aa,splice];refine⟨by omega,?_⟩;refine Dx rfl rfl (fun p=>?_) (fun p=>?_)
  ·simp[Aa]
  ·by_cases p1:p=[]
   ·subst p1;simp[Aa]
   ·by_cases p2:p=[0]
    ·subst p2;simp[Aa,AX]
    ·simp[Aa,p1,p2]
 ·have hml':¬ (mine.length:Int)=0:=fun h=>h1 (hml.1 h);by_cases h2:P0 mine hers=true
  ·have hR:GK mine hers=some hers:=by rw[GK,if_neg h1,if_pos h2]
   rw[G.1 _ hR,SI,hR];rw[h2] at E;simp[h1,hml'];rw[Ay];simp[h1,hml'];refine Af E (by simp) ?_;simp[Aa,splice];refine⟨by omega,?_⟩;refine Dx rfl rfl (fun p=>?_) (fun p=>?_)
   ·simp[Aa]
   ·by_cases p1:p=[]
    ·subst p1;simp[Aa]
    ·by_cases p2:p=[0]
     ·subst p2;simp[Aa,AX]
     ·simp[Aa,p1,p2]
  ·have h2f:P0 mine hers=false:=by
    cases h:P0 mine hers with
    |false=>rfl
    |true=>exact absurd h h2
   rw[h2f] at E;by_cases h3:hers=[]
   ·have hR:GK mine hers=some mine:=by rw[GK,if_neg h1,if_neg h2,if_pos h3]
    rw[G.1 _ hR,SI,hR];subst h3;simp[h1,hml'];rw[Ay];simp[h1,hml'];refine Af E (by simp) ?_;simp[Aa,splice];refine⟨by omega,?_⟩;refine Dx rfl rfl (fun p=>?_) (fun p=>?_)
    ·simp[Aa]
    ·by_cases p1:p=[]
     ·subst p1;simp[Aa]
     ·by_cases p2:p=[0]
      ·subst p2;simp[Aa,AX]
      ·simp[Aa,p1,p2]
   ·have hR:GK mine hers=none:=by rw[GK,if_neg h1,if_neg h2,if_neg h3]
    have hhl':¬ (hers.length:Int)=0:=fun h=>h3 (hhl.1 h);rw[G.2 hR,SI,hR];have F:=Ii at' 2 n (by omega);simp[h1,hml'];rw[Ay];simp[h1,hml'];refine Af E (by simp) ?_;simp[Aa,h3,hhl'];refine Af F (by simp) ?_;simp;have B1:=Qa (v:=v) (w:=w) (C:=C) (at':=at') (o:=o) (n:=n) (vo:=vo) (out:=out) (m:=(false,mine)) (h:=(false,hers)) (vs:=vs) true [];have B2:=Qa (v:=v) (w:=w) (C:=C) (at':=at') (o:=o) (n:=n) (vo:=vo) (out:=out) (m:=(false,mine)) (h:=(false,hers)) (vs:=vs) false mine;have B3:=Qa (v:=v) (w:=w) (C:=C) (at':=at') (o:=o) (n:=n) (vo:=vo) (out:=out) (m:=(false,mine)) (h:=(false,hers)) (vs:=vs) false hers;have wf1:∀ l:List T,(∀ t,t ∈ l→AK t)→l.length≤1000000→AK (.mk o.kind [] l):=fun l h1 h2=>wfT_iff.2 ⟨wo,by simp,by simp,by show l.length*56≤_;omega,h1⟩;have CL:=NZ (l:=at'++[(2,(n:Int))]) (b:=.mk o.kind [] []) (o:=.mk o.kind [] mine) (t:=.mk o.kind [] hers) (by simp;omega) (wf1 [] (fun t ht=>nomatch ht) (by simp)) (wf1 mine hm lm) (wf1 hers hh lh) v w hC;have hB:∀ p,(ov 0 ((Qg v w C at' o n vo out (false,mine) (false,hers) vs).B 0 1) (ov 1 ((Qg v w C at' o n vo out (false,mine) (false,hers) vs).C 0 1) (FR [([2],⟨1,.cells [.pob [1] vs 0]⟩)]))) (2::p)=(Z7 (Qg v w C at' o n vo out (false,mine) (false,hers) vs) vs).B 2 1 0 p:=fun p=>by
     by_cases hp:p=[]
     ·subst hp;simp
     ·simp[hp,FR,Ne.symm hp]
    have fa1:∀ (b:Bool) (l:List T) {g:Nm→Nm} {δ:Nm→Nat} {r r' q q' t t':Nat},(∀ p,g (r::p)=r'::p)→(∀ p,g (q::p)=q'::p)→(∀ p,g (t::p)=t'::p)→(∀ p,δ (r::p)=0)→(∀ p,δ (q::p)=0)→(∀ p,δ (t::p)=0)→A.renL g δ [.sl b (l.map tA),.pob [r] 1 0]=[.sl b (l.map tA),.pob [r'] 1 0]:=fun b l _ _ _ _ _ _ _ _ h1 _ _ d1 _ _=>by simp[A.renL,A.ren,h1,d1]
    have fa2:∀ (b:Bool) (l:List T) {P:Nm→Prop} {r q t:Nat},(∀ p,P (r::p))→(∀ p,P (q::p))→(∀ p,P (t::p))→A.refsL P [.sl b (l.map tA),.pob [r] 1 0]:=fun b l _ _ _ _ h1 _ _=>by simp[A.refsL,A.refs,h1]
    refine Se (as':=fun r q t=>[.sl true [],.pob [r] 1 0]) (F:=Z7 (Qg v w C at' o n vo out (false,mine) (false,hers) vs) vs) (fs:=[]) (caps:=[.pob [2] 1 0]) 2 1 0 (by decide) (by decide) (by decide) (by simp) (fun g δ=>by simp[A.ren,A.renL]) (fun D=>by simp[A.refs,A.refsL]) (fa1 true []) (fa2 true []) B1 hB (fun p=>by simp) (fun p=>by simp) (by simp) (by simp) ?_;simp;refine Se (as':=fun r q t=>[.sl false (mine.map tA),.pob [r] 1 0]) (F:=Z7 (Qg v w C at' o n vo out (false,mine) (false,hers) vs) vs) (fs:=[]) (caps:=[.pob [2] 1 0]) 2 1 0 (by decide) (by decide) (by decide) (by simp) (fun g δ=>by simp[A.ren,A.renL]) (fun D=>by simp[A.refs,A.refsL]) (fa1 false mine) (fa2 false mine) B2 hB (fun p=>by simp) (fun p=>by simp) (by simp) (by simp) ?_;simp;refine Se (as':=fun r q t=>[.sl false (hers.map tA),.pob [r] 1 0]) (F:=Z7 (Qg v w C at' o n vo out (false,mine) (false,hers) vs) vs) (fs:=[]) (caps:=[.pob [2] 1 0]) 2 1 0 (by decide) (by decide) (by decide) (by simp) (fun g δ=>by simp[A.ren,A.renL]) (fun D=>by simp[A.refs,A.refsL]) (fa1 false hers) (fa2 false hers) B3 hB (fun p=>by simp) (fun p=>by simp) (by simp) (by simp) ?_;simp;refine Ar 0 CL (fun p=>by simp) (by simp) (by simp[List.isPrefixOf]) ?_;simp[Aa,splice];refine Dx rfl rfl (fun p=>?_) (fun p=>?_)
    ·simp[Aa]
    ·by_cases p1:p=[]
     ·subst p1;simp[Aa]
     ·by_cases p2:p=[0]
      ·subst p2;simp[Aa]
      ·simp[Aa,p1,p2]
def ad (e:E) (t:T):Prop:=G.Spec Tryz.prog 54 [eX e,tX t] (tX (JC e t))∧AK (JC e t)∧Ag (JC e t)=JC e t
theorem Pf:Ag T0=T0:=rfl
def UtS (f:Nat) (at':CV) (o:T) (n:Nat) (p q:OP) (us:List T) (cs:List Cf):Prop:=∀ (v w:Nat) (C:List Cf) (vo:Nat) (out:List T) (vs:Nat),C.length+cs.length≤100000000000→out.length≤1000000000 →
 JB Tryz.prog 88 (fun r q'=>[.pob [q'] vs 0,oX p,oX q]) (Qg v w C at' o n vo out (true,[]) (true,[]) vs) (fun _ _=>.tup []) (Qg v w (C++cs) at' o (n+1) (vo+us.length) (out++us) (true,[]) (true,[]) vs)
theorem av {f:Nat} {at':CV} (hat:at'.length≤900000) {o:T} (wo:AK o) {n:Nat} (hn:n<o.kids.length) (hn2:n≤1000000000) {p q:OP} (hp:(p.kind=0∧p.e=E0)∨(p.kind=1∧p.e=E0)∨(p.kind=3∧ad p.e o.kids[n])) (hq:(q.kind=0∧q.e=E0)∨(q.kind=1∧q.e=E0)∨(q.kind=3∧ad q.e o.kids[n])) {u:T} (hu:nR f (at'++[(0,(n:Int))]) o.kids[n] p.e q.e u) :
  ∃ us,(∀ t,t ∈ us→AK t)∧us.length≤1∧us.map Ag=(CG (mg f) (at'++[(0,(n:Int))]) o.kids[n] (JE p) (JE q)).1∧UtS f at' o n p q us (CG (mg f) (at'++[(0,(n:Int))]) o.kids[n] (JE p) (JE q)).2:=by
 have wk:AK o.kids[n]:=(wfT_iff.1 wo).ks _ (C5 hn);have F:=Ii at' 0 n (by omega);have ew:=AW n;by_cases a1:p.kind=1∧q.kind=3
 ·have e1:JE p = .del T0:=by unfold JE;rw[if_neg (by omega),if_pos a1.1]
  have e2:JE q = .desc q.e:=by unfold JE;rw[if_neg (by omega),if_neg (by omega)]
  have D:ad q.e o.kids[n]:=by
   rcases hq with h | h | h
   ·omega
   ·omega
   ·exact h.2
  rw[e1,e2];refine⟨[o.kids[n]],fun t ht=>by rw[List.mem_singleton.1 ht];exact wk,by simp,rfl,fun v w C vo out vs hC ho=>?_⟩;have CL:=Lh (l:=at'++[(0,(n:Int))]) (b:=o.kids[n]) (o:=T0) (t:=JC q.e o.kids[n]) true false (by simp;omega) wk Yr D.2.1 v w (C:=C) (by simp[CG] at hC;omega);rw[Pf,D.2.2] at CL;have D1:=D.1;simp only[CG];refine F8 EF (by simp) (Az (Jj Au) (Az (Bj (GF p)) (Az (Bj (GF q)) Eo))) (Bj (A5 Ah)) fun w0 I0 M0 m0=>?_;unfold Dl;simp[hn];refine Af F (by simp) ?_;simp[a1.1,a1.2,Aa];refine Af D1 (by simp) ?_;simp;refine Ar 0 CL (fun p=>by simp) (by simp) (by simp[List.isPrefixOf]) ?_;simp[Aa,splice];refine⟨by omega,by omega,?_⟩;refine Dx rfl rfl (fun p=>?_) (fun p=>?_)
  ·simp[Aa]
  ·by_cases p1:p=[]
   ·subst p1;simp[Aa,ew]
   ·by_cases p2:p=[0]
    ·subst p2;simp[Aa,AX]
    ·simp[Aa,p1,p2]
 by_cases a2:p.kind=3∧q.kind=1
 ·have e1:JE q = .del T0:=by unfold JE;rw[if_neg (by omega),if_pos a2.2]
  have e2:JE p = .desc p.e:=by unfold JE;rw[if_neg (by omega),if_neg (by omega)]
  have D:ad p.e o.kids[n]:=by
   rcases hp with h | h | h
   ·omega
   ·omega
   ·exact h.2
  rw[e1,e2];refine⟨[o.kids[n]],fun t ht=>by rw[List.mem_singleton.1 ht];exact wk,by simp,rfl,fun v w C vo out vs hC ho=>?_⟩;have CL:=Lh (l:=at'++[(0,(n:Int))]) (b:=o.kids[n]) (o:=JC p.e o.kids[n]) (t:=T0) false true (by simp;omega) wk D.2.1 Yr v w (C:=C) (by simp[CG] at hC;omega);rw[Pf,D.2.2] at CL;have D1:=D.1;simp only[CG];refine F8 EF (by simp) (Az (Jj Au) (Az (Bj (GF p)) (Az (Bj (GF q)) Eo))) (Bj (A5 Ah)) fun w0 I0 M0 m0=>?_;unfold Dl;simp[hn];refine Af F (by simp) ?_;simp[a2.1,a2.2,Aa];refine Af D1 (by simp) ?_;simp;refine Ar 0 CL (fun p=>by simp) (by simp) (by simp[List.isPrefixOf]) ?_;simp[Aa,splice];refine⟨by omega,by omega,?_⟩;refine Dx rfl rfl (fun p=>?_) (fun p=>?_)
  ·simp[Aa]
  ·by_cases p1:p=[]
   ·subst p1;simp[Aa,ew]
   ·by_cases p2:p=[0]
    ·subst p2;simp[Aa,AX]
    ·simp[Aa,p1,p2]
 by_cases a3:p.kind=1∨q.kind=1
 ·have hM:CG (mg f) (at'++[(0,(n:Int))]) o.kids[n] (JE p) (JE q)=([],[]):=by
   rcases hp with h | h | h<;>rcases hq with g | g | g<;>(try omega)<;>simp[JE,h.1,g.1,CG]
  rw[hM];refine⟨[],(fun t ht=>by simp at ht),by simp,rfl,fun v w C vo out vs hC ho=>?_⟩;refine F8 EF (by simp) (Az (Jj Au) (Az (Bj (GF p)) (Az (Bj (GF q)) Eo))) (Bj (A5 Ah)) fun w0 I0 M0 m0=>?_;unfold Dl;simp[hn];refine Af F (by simp) ?_;by_cases b1:p.kind=1
  ·have b2:¬ q.kind=3:=fun h=>a1 ⟨b1,h⟩;simp[b1,b2,Aa];refine Dx rfl rfl (fun p=>?_) (fun p=>?_)
   ·simp[Aa]
   ·by_cases p1:p=[]
    ·subst p1;simp[Aa,ew]
    ·simp[Aa,p1]
  ·have b2:q.kind=1:=by omega
   have b3:¬ p.kind=3:=fun h=>a2 ⟨h,b2⟩;simp[b1,b2,b3,Aa];refine Dx rfl rfl (fun p=>?_) (fun p=>?_)
   ·simp[Aa]
   ·by_cases p1:p=[]
    ·subst p1;simp[Aa,ew]
    ·simp[Aa,p1]
 ·have b1:¬ p.kind=1:=fun h=>a3 (.inl h);have b2:¬ q.kind=1:=fun h=>a3 (.inr h);have hM:CG (mg f) (at'++[(0,(n:Int))]) o.kids[n] (JE p) (JE q)=([(mg f (at'++[(0,(n:Int))]) o.kids[n] p.e q.e).1],(mg f (at'++[(0,(n:Int))]) o.kids[n] p.e q.e).2):=by
   rcases hp with h | h | h<;>rcases hq with g | g | g<;>(try omega)
   ·rw[h.2,g.2];simp[JE,h.1,g.1,CG,eU]
   ·rw[h.2];simp[JE,h.1,g.1,CG,eU]
   ·rw[g.2];simp[JE,h.1,g.1,CG,eU]
   ·simp[JE,h.1,g.1,CG,eU]
  obtain⟨u1,u2,u3⟩:=hu;rw[hM];refine⟨[u],fun t ht=>by rw[List.mem_singleton.1 ht];exact u1,by simp,by simp[u2],fun v w C vo out vs hC ho=>?_⟩;have S:=u3 v w C hC;refine F8 EF (by simp) (Az (Jj Au) (Az (Bj (GF p)) (Az (Bj (GF q)) Eo))) (Bj (A5 Ah)) fun w0 I0 M0 m0=>?_;unfold Dl;simp[hn];refine Af F (by simp) ?_;simp[b1,b2,Aa];refine Ar 0 S (fun p=>by simp) (by simp) (by simp[List.isPrefixOf]) ?_;simp[Aa,splice];refine⟨by omega,by omega,?_⟩;refine Dx rfl rfl (fun p=>?_) (fun p=>?_)
  ·simp[Aa]
  ·by_cases p1:p=[]
   ·subst p1;simp[Aa,ew]
   ·by_cases p2:p=[0]
    ·subst p2;simp[Aa,AX]
    ·simp[Aa,p1,p2]
end Go.Proofs.YtndnlknocdangaaGreat
namespace Go.G
open Go
theorem aD {c:Cx} {s:Nat→A} {H:Hp} (R:Nat→Prop) [DecidablePred R] (hM:∀ r p b,R r→¬ c.M0 (r::p) b) {r0:Nat} {p0:Nm} (hr0:¬ R r0) {u:Nat} {cs cs':List A} (hd:H (r0::p0)=⟨u,.cells cs⟩) (h1:A.ones cs'=true)
  (hf:∀ H1:Hp,(∀ r p,R r→H1 (r::p)=H (r::p))→cs.length=cs'.length∧∀ (k:Nat) (x y:A),cs[k]? = some x→cs'[k]? = some y→y=x∨IZ H1 x y) :
  ∃ H2:Hp,Le c ⟨s,H⟩ ⟨s,AJ H2 (r0::p0) ⟨u,.cells cs'⟩⟩∧∀ r p,¬ R r→H2 (r::p)=H (r::p):=by
 refine⟨fun o=>match o with | r::p=>if R r then ⟨(H (r::p)).u,.none⟩ else H (r::p) | []=>H [],fun a w I μ hs=>?_,fun r p h=>if_neg h⟩;have part1:Part H (fun o=>match o with | r::p=>if R r then H (r::p) else ⟨(H (r::p)).u,.none⟩ | []=>⟨(H []).u,.none⟩):=fun o=>by
  cases o with
  |nil=>exact .inr rfl
  |cons r p=>
   by_cases hr:R r
   ·exact .inl (by simp[hr])
   ·exact .inr (by simp[hr])
 have part2:Part H (fun o=>match o with | r::p=>if R r then ⟨(H (r::p)).u,.none⟩ else H (r::p) | []=>H []):=fun o=>by
  cases o with
  |nil=>exact .inl rfl
  |cons r p=>
   by_cases hr:R r
   ·exact .inr (by simp[hr])
   ·exact .inl (by simp[hr])
 have h3:=hs.sim.freezeAll part1 part2 (fun o=>by
  cases o with
  |nil=>exact .inl rfl
  |cons r p=>
   by_cases hr:R r
   ·exact .inr (by simp[hr])
   ·exact .inl (by simp[hr])) (fun o b h=>by
  cases o with
  |nil=>exact absurd rfl h
  |cons r p=>
   by_cases hr:R r
   ·exact hM r p b hr
   ·exact absurd (by simp[hr]) h)
 have hd2:(fun o=>match o with | r::p=>if R r then (⟨(H (r::p)).u,.none⟩:VOb) else H (r::p) | []=>H []:Hp) (r0::p0)=⟨u,.cells cs⟩:=by
  show(if R r0 then _ else _)=_;rw[if_neg hr0,hd]
 have hob:=hs.sim.ob (r0::p0);have hob:OSim w I μ (μ (r0::p0)) (.cells cs):=by
  have e:(⟨s,H⟩:Sta).H (r0::p0)=⟨u,.cells cs⟩:=hd;rw[e] at hob;exact hob
 obtain⟨vs,k1,k2,k3⟩:=hob;obtain⟨hl,hg⟩:=(hf (fun o=>match o with | r::p=>if R r then H (r::p) else ⟨(H (r::p)).u,.none⟩ | []=>⟨(H []).u,.none⟩) fun r p h=>if_pos h);have hB:DR (μ (r0::p0)) ((fun o=>match o with | r::p=>if R r then (⟨(H (r::p)).u,.none⟩:VOb) else H (r::p) | []=>H []:Hp) (r0::p0)).ob=true:=by rw[hd2];rfl
 obtain⟨hx2,hs2⟩:=h3.upd (Fh w none) (r0::p0) (μ (r0::p0)) (.cells cs') (.inl rfl) (.inr rfl) (fun _=>.inr ⟨hB,rfl⟩) (fun _=>h3.tag _ hB) (fun hx2=>by
  refine⟨vs,k1,by rw[k2,hl],fun k y hk=>?_⟩;rw[Fg];have hlt:k<cs.length:=by have:=(List.getElem?_eq_some_iff.1 hk).1;omega
  have hx:cs[k]? = some cs[k]:=List.getElem?_eq_getElem hlt;simp only[A.ones,List.all_eq_true] at h1;refine⟨h1 y (List.mem_of_getElem? hk),?_⟩;rcases hg k _ y hx hk with e | hfx
  ·rw[e];exact(k3 k _ hx).2.mono0 (fun b h=>.inl h) (fun _ _=>rfl)
  ·exact(hfx c w I μ _ (hs.sim.part part1) (k3 k _ hx).2).ofI)
 have hu:(μ (r0::p0)).u=u:=by exact(h3.ver (r0::p0)).trans (congrArg VOb.u hd2)
 rw[hu] at hs2;exact⟨_,_,hs2,hs.size,hs.defers,fun t=>hx2.rel ((hs.rel t).mono0 (fun b h=>.inl h) (fun _ _=>rfl))⟩
end Go.G
namespace Go.Proofs.YtndnlknocdangaaGreat
open Go Go.G Go.Proofs Go.PL
structure LsK (v w:Nat) (C:List Cf) (at':CV) (o:T) (n vo:Nat) (out:List T) (H:Hp):Prop where
 f:∀ p,H (0::p)=(Qg v w C at' o n vo out (true,[]) (true,[]) 1).B 0 5 p
 s:∀ p,H (5::p)=(Qg v w C at' o n vo out (true,[]) (true,[]) 1).C 0 5 p
 o:H [1]=⟨1,.cells (Xu o)⟩
 z:H [4]=⟨1,.cells [iv 0,.sl true [],.sl true []]⟩
def tv:Pc→OP × OP
 |.a o=>(o,O0)
 |.b o=>(O0,o)
 |.both o o'=>(o,o')
theorem mP {f:Nat} {at':CV} (hat:at'.length≤900000) {o:T} (wo:AK o) (hko:o.kids.length≤1000000) {o1 o2:OP} {l:List Pc} {k m:Nat} (hm:m≤10000000):∀ (ks:List T) (i n:Nat),i+ks.length=m→ks=(o.kids.drop n).take ks.length→n+ks.length≤o.kids.length →
  (∀ (i:Nat) (h:i<o.kids.length),o.kids[i] ∈ ks→((o1.kind=0∧o1.e=E0)∨(o1.kind=1∧o1.e=E0)∨(o1.kind=3∧ad o1.e o.kids[i]))∧((o2.kind=0∧o2.e=E0)∨(o2.kind=1∧o2.e=E0)∨(o2.kind=3∧ad o2.e o.kids[i]))∧∃ u,nR f (at'++[(0,(i:Int))]) o.kids[i] o1.e o2.e u) →
  ∃ us,(∀ t,t ∈ us→AK t)∧us.length≤ks.length∧us.map Ag=(Ka (mg f) at' o1 o2 ks n).1∧∀ {n0:Nat} {w0:World} {I0:Nat→Prop} {M0:Nm→Nat→Prop} {m0:Mu} {Q:Exit→Sta→Prop} (v w:Nat) (C:List Cf) (vo u6:Nat) (out:List T) (H:Hp),C.length+(Ka (mg f) at' o1 o2 ks n).2.length≤100000000000→out.length+ks.length≤1000000000→LsK v w C at' o n vo out H→H [6]=⟨u6,.cells (iv 0::(Ql o1++Ql o2))⟩ →
   (∀ (H':Hp) (vo':Nat),LsK v w (C++(Ka (mg f) at' o1 o2 ks n).2) at' o (n+ks.length) vo' (out++us) H'→Q (.exit 3) ⟨lk [(7,.pob [1] 1 0),(10,.pob [4] 1 0),(11,.pob [5] 1 0),(15,.pob [6] u6 0),(29,gg l),(30,iv l.length),(31,iv k),(47,iv m),(48,iv m),(49,bv false)],H'⟩) →
   LoopC (DD Tryz.prog w0 I0 M0 n0 m0) Dc Q ⟨lk [(7,.pob [1] 1 0),(10,.pob [4] 1 0),(11,.pob [5] 1 0),(15,.pob [6] u6 0),(29,gg l),(30,iv l.length),(31,iv k),(47,iv m),(48,iv i)],H⟩:=by
 intro ks;induction ks with
 |nil=>
  intro i n hi _ _ _;have:i=m:=by simpa using hi
  subst this;refine⟨[],(fun t ht=>by simp at ht),by simp,rfl,fun {n0 w0 I0 M0 m0 Q} v w C vo u6 out H hC ho hH h6 hq=>?_⟩;refine Ab Ai Dc.eq_1 ?_;simp;exact hq H vo (by simpa[Ka] using hH)
 |cons t ks ih=>
  intro i n hi hks hn hU;rw[List.length_cons] at hi hks hn;have hlt:i<m:=by omega
  have hnl:n<o.kids.length:=by omega
  have hd:o.kids.drop n=o.kids[n]::o.kids.drop (n+1):=(List.getElem_cons_drop hnl).symm;rw[hd,List.take_succ_cons] at hks;obtain⟨e1,e2⟩:=List.cons.inj hks;obtain⟨d1,d2,u,hu⟩:=hU n hnl (by rw[← e1];simp);obtain⟨us1,a1,a2,a3,a4⟩:=av hat wo hnl (by omega) d1 d2 hu;obtain⟨us2,b1,b2,b3,b4⟩:=ih (i+1) (n+1) (by omega) e2 (by omega) fun j hj hm=>hU j hj (List.mem_cons_of_mem _ hm);have ew:=AW i;have er:Ka (mg f) at' o1 o2 (t::ks) n=((CG (mg f) (at'++[(0,(n:Int))]) o.kids[n] (JE o1) (JE o2)).1++(Ka (mg f) at' o1 o2 ks (n+1)).1,(CG (mg f) (at'++[(0,(n:Int))]) o.kids[n] (JE o1) (JE o2)).2++(Ka (mg f) at' o1 o2 ks (n+1)).2):=by
   rw[Ka,e1]
  rw[er];refine⟨us1++us2,fun t ht=>?_,by simp;omega,by rw[List.map_append,a3,b3],fun {n0 w0 I0 M0 m0 Q} v w C vo u6 out H hC ho hH h6 hq=>?_⟩
  ·rcases List.mem_append.1 ht with ht | ht
   ·exact a1 t ht
   ·exact b1 t ht
  rw[List.length_append] at hC;rw[List.length_cons] at ho;have S:=a4 v w C vo out 1 (by omega) (by omega);have next:=b4 (n0:=n0) (w0:=w0) (I0:=I0) (M0:=M0) (m0:=m0) (Q:=Q) v w (C++(CG (mg f) (at'++[(0,(n:Int))]) o.kids[n] (JE o1) (JE o2)).2) (vo+us1.length) u6 (out++us1)
  generalize (CG (mg f) (at'++[(0,(n:Int))]) o.kids[n] (JE o1) (JE o2)).2=c at *;refine Ab Ai Dc.eq_1 ?_;simp[hlt,h6];refine Jn 0 5 (by decide) S hH.f hH.s (by simp) (by simp) ?_;simp;rw[ew];refine next _ (by rw[List.length_append];omega) (by rw[List.length_append];omega) ⟨fun p=>by simp,fun p=>by simp,by simp[hH.o],by simp[hH.z]⟩ (by simp[h6]) fun H' vo' hH'=>?_
  refine hq H' vo' ?_;rw[List.length_cons];have e5:n+1+ks.length=n+(ks.length+1):=by omega
  rw[e5,List.append_assoc,List.append_assoc] at hH';exact hH'
structure LsM (v w:Nat) (C:List Cf) (at':CV) (o:T) (n vo:Nat) (out:List T) (vm vh:Nat) (mine hers:List T) (H:Hp):Prop where
 f:∀ p,H (0::p)=(Ni v w C).F 0 p
 s:H [5]=⟨1,.cells [.pob [0] v 0,Ce at',iv o.kind,DN o.words,BG o.kids,iv n,.osl [5,0] vo 3 0 out.length,.osl [7] vm 3 0 mine.length,.osl [8] vh 3 0 hers.length]⟩
 so:H [5,0]=⟨vo,.arr 3 (out.map tA)⟩
 s0:∀ p,p ≠ []→p ≠ [0]→H (5::p)=⟨0,.none⟩
 m:H [7]=⟨vm,.arr 3 (mine.map tA)⟩
 h:H [8]=⟨vh,.arr 3 (hers.map tA)⟩
 o:H [1]=⟨1,.cells (Xu o)⟩
 z:H [4]=⟨1,.cells [iv 0,.sl true [],.sl true []]⟩
theorem XS {c:Cx} {s:Nat→A} {v w:Nat} {C:List Cf} {at':CV} {o:T} {n vo:Nat} {out:List T} {H:Hp} (hH:LsK v w C at' o n vo out H):∃ (H2:Hp) (vm vh:Nat),Le c ⟨s,H⟩ ⟨s,H2⟩∧LsM v w C at' o n vo out vm vh [] [] H2:=by
 have h5:H [5]=⟨1,.cells [.pob [0] v 0,Ce at',iv o.kind,DN o.words,BG o.kids,iv n,.osl [5,0] vo 3 0 out.length,jk (true,[]),jk (true,[])]⟩:=by rw[hH.s];simp
 have l1:=BX (c:=c) (s:=s) (H:=H) (d:=[5]) 7 [7] 3 h5 rfl (by simp);have l2:=BX (c:=c) (s:=s) (H:=AJ (AJ H [7] ⟨(H [7]).u+1,.arr 3 []⟩) [5] ⟨1,.cells [.pob [0] v 0,Ce at',iv o.kind,DN o.words,BG o.kids,iv n,.osl [5,0] vo 3 0 out.length,.osl [7] ((H [7]).u+1) 3 0 0,jk (true,[])]⟩) (d:=[5]) (u:=1) (cs:=[.pob [0] v 0,Ce at',iv o.kind,DN o.words,BG o.kids,iv n,.osl [5,0] vo 3 0 out.length,.osl [7] ((H [7]).u+1) 3 0 0,jk (true,[])]) 8 [8] 3 (by simp[Aa]) rfl (by simp);refine⟨_,(H [7]).u+1,(H [8]).u+1,l1.trans l2,⟨fun p=>?_,?_,?_,fun p p1 p2=>?_,?_,?_,?_,?_⟩⟩
 ·have:=hH.f p;simp[Aa] at this ⊢;exact this
 ·simp[Aa]
 ·have:=hH.s [0];simp[Aa] at this ⊢;exact this
 ·have:=hH.s p;simp[Aa,p1,p2] at this ⊢;exact this
 ·simp[Aa]
 ·simp[Aa]
 ·simp[Aa,hH.o]
 ·simp[Aa,hH.z]
theorem Vj {c:Cx} {s:Nat→A} {v w:Nat} {C:List Cf} {at':CV} {o:T} {n vo:Nat} {out mine hers:List T} {vm vh:Nat} {H:Hp} (hM:∀ r p b,1≤r→¬ c.M0 (r::p) b) (hH:LsM v w C at' o n vo out vm vh mine hers H):∃ H2:Hp,Le c ⟨s,H⟩ ⟨s,H2⟩∧(∀ p,H2 (0::p)=(Qg v w C at' o n vo out (false,mine) (false,hers) 1).B 0 5 p)∧(∀ p,H2 (5::p)=(Qg v w C at' o n vo out (false,mine) (false,hers) 1).C 0 5 p)∧H2 [1]=H [1]∧H2 [4]=H [4]∧H2 [6]=H [6]:=by
 obtain⟨H2,g1,g2⟩:=aD (c:=c) (s:=s) (H:=H) (fun r=>r=7∨r=8) (fun r p b h=>hM r p b (by omega)) (r0:=5) (p0:=[]) (by omega) hH.s (cs':=[.pob [0] v 0,Ce at',iv o.kind,DN o.words,BG o.kids,iv n,.osl [5,0] vo 3 0 out.length,jk (false,mine),jk (false,hers)]) (by simp[A.ones]) (fun H1 h1=>by
  have f7:IZ H1 (.osl [7] vm 3 0 mine.length) (jk (false,mine)):=B0 (f:=tA) (by rw[h1 7 [] (.inl rfl),hH.m];simp) rfl (fun x=>by simp);have f8:IZ H1 (.osl [8] vh 3 0 hers.length) (jk (false,hers)):=B0 (f:=tA) (by rw[h1 8 [] (.inr rfl),hH.h];simp) rfl (fun x=>by simp);refine⟨rfl,fun k x y hx hy=>?_⟩
  match k with
  |0=>simp at hx hy;exact .inl (by rw[← hx,← hy])
  |1=>simp at hx hy;exact .inl (by rw[← hx,← hy])
  |2=>simp at hx hy;exact .inl (by rw[← hx,← hy])
  |3=>simp at hx hy;exact .inl (by rw[← hx,← hy])
  |4=>simp at hx hy;exact .inl (by rw[← hx,← hy])
  |5=>simp at hx hy;exact .inl (by rw[← hx,← hy])
  |6=>simp at hx hy;exact .inl (by rw[← hx,← hy])
  |7=>simp at hx hy;exact .inr (by rw[← hx,← hy];exact f7)
  |8=>simp at hx hy;exact .inr (by rw[← hx,← hy];exact f8)
  |k+9=>simp at hx)
 refine⟨_,g1,fun p=>?_,fun p=>?_,?_,?_,?_⟩
 ·have:=g2 0 p (by omega);simp[Aa] at this ⊢;rw[this,hH.f];simp
 ·by_cases p1:p=[]
  ·subst p1;simp[Aa]
  ·have:=g2 5 p (by omega);simp only[Aa];rw[if_neg (by simp[p1]),this];by_cases p2:p=[0]
   ·subst p2;simp[hH.so]
   ·simp[hH.s0 p p1 p2,p1,p2]
 ·have:=g2 1 [] (by omega);simpa[Aa] using this
 ·have:=g2 4 [] (by omega);simpa[Aa] using this
 ·have:=g2 6 [] (by omega);simpa[Aa] using this
def Uv:List Pc→Nat
 |[]=>0
 |.a o::l=>o.l.length+Uv l
 |.b o::l=>o.l.length+Uv l
 |.both _ _::l=>Uv l
theorem kW {f:Nat} {at':CV} (hat:at'.length≤900000) {o:T} (wo:AK o) (hko:o.kids.length≤1000000) {R:E→T→T→Prop} {l:List Pc} (hl:l.length≤100000000)
  (hW:∀ o,(.a o ∈ l∨.b o ∈ l)→∀ t,t ∈ o.l→AK t)
  (hR:∀ (i:Nat) (h:i<o.kids.length) (o1 o2:OP),.both o1 o2 ∈ l→UA R o1 o.kids[i]→UA R o2 o.kids[i]→((o1.kind=0∧o1.e=E0)∨(o1.kind=1∧o1.e=E0)∨(o1.kind=3∧ad o1.e o.kids[i]))∧((o2.kind=0∧o2.e=E0)∨(o2.kind=1∧o2.e=E0)∨(o2.kind=3∧ad o2.e o.kids[i]))∧∃ u,nR f (at'++[(0,(i:Int))]) o.kids[i] o1.e o2.e u) :
  ∀ (j k:Nat) (mine hers:List T) (n:Nat),k+j=l.length→n≤o.kids.length→M8 R (l.drop k) (o.kids.drop n)→(∀ t,t ∈ mine→AK t)→(∀ t,t ∈ hers→AK t)→mine.length+hers.length+Uv (l.drop k)≤1000000 →
  ∃ (us mF hF:List T) (nF:Nat) (cs:List Cf),(∀ t,t ∈ us→AK t)∧(∀ t,t ∈ mF→AK t)∧(∀ t,t ∈ hF→AK t)∧mF.length+hF.length≤1000000∧us.length+mF.length+hF.length≤mine.length+hers.length+Uv (l.drop k)+(o.kids.length-n) ∧
   (run (mg f) at' o.kind (l.drop k) mine hers (o.kids.drop n) n).1=us.map Ag++(F9 at' o.kind nF mF hF).1∧(run (mg f) at' o.kind (l.drop k) mine hers (o.kids.drop n) n).2=cs++(F9 at' o.kind nF mF hF).2 ∧
   ∀ {n0:Nat} {w0:World} {I0:Nat→Prop} {M0:Nm→Nat→Prop} {m0:Mu} {Q:Exit→Sta→Prop} (hM:∀ r p b,1≤r→¬ M0 (r::p) b) (v w:Nat) (C:List Cf) (vo vm vh:Nat) (out:List T) (H:Hp),C.length+cs.length≤100000000000→out.length+mine.length+hers.length+Uv (l.drop k)+(o.kids.length-n)≤1000000000→LsM v w C at' o n vo out vm vh mine hers H →
    (∀ (H':Hp) (vo' vm' vh':Nat),LsM v w (C++cs) at' o nF vo' (out++us) vm' vh' mF hF H'→Q (.exit 0) ⟨lk [(7,.pob [1] 1 0),(10,.pob [4] 1 0),(11,.pob [5] 1 0),(29,gg l),(30,iv l.length),(31,iv l.length),(32,bv false)],H'⟩) →
    LoopC (DD Tryz.prog w0 I0 M0 n0 m0) BO Q ⟨lk [(7,.pob [1] 1 0),(10,.pob [4] 1 0),(11,.pob [5] 1 0),(29,gg l),(30,iv l.length),(31,iv k)],H⟩:=by
 intro j;induction j with
 |zero=>
  intro k mine hers n hk hn hP wm wh hs;have:k=l.length:=by omega
  subst this;rw[List.drop_length] at hP ⊢;refine⟨[],mine,hers,n,[],(fun t ht=>by simp at ht),wm,wh,by omega,by simp;omega,by simp[run],by simp[run],fun {n0 w0 I0 M0 m0 Q} hM v w C vo vm vh out H hC ho hH hq=>?_⟩;refine Ab Ai BO.eq_1 ?_;simp;exact hq H vo vm vh (by simpa using hH)
 |succ j ih=>
  intro k mine hers n hk hn hP wm wh hs;have hlt:k<l.length:=by omega
  have hd:l.drop k=l[k]::l.drop (k+1):=(List.getElem_cons_drop hlt).symm;have hmem:l[k] ∈ l:=C5 hlt;have ew:=AW k;rw[hd] at hP hs ⊢;generalize hx:l[k]=x at *;generalize ha:o.kids.drop n=ks at hP;cases hP with
  |a oo _ _ hk2 g=>
   subst ha;simp only[Uv] at hs;obtain⟨us,mF,hF,nF,cs,f1,f2,f3,f4,f5,f6,f7,f8⟩:=ih (k+1) (mine++oo.l) hers n (by omega) hn g (fun t ht=>by
    rcases List.mem_append.1 ht with ht | ht
    ·exact wm t ht
    ·exact hW oo (.inl hmem) t ht) wh (by rw[List.length_append];omega)
   rw[List.length_append] at f5;refine⟨us,mF,hF,nF,cs,f1,f2,f3,f4,by simp only[Uv];omega,f6,f7,fun {n0 w0 I0 M0 m0 Q} hM v w C vo vm vh out H hC ho hH hq=>?_⟩;simp only[Uv] at ho;have h5:=hH.s;have h7:=hH.m;refine Ab Ai BO.eq_1 ?_;simp[hlt,hx,uy,h5,h7,Aa];refine⟨by omega,?_⟩;rw[ew];refine f8 hM v w C vo (vm+1) vh out _ hC (by rw[List.length_append];omega) ⟨fun p=>?_,by simp[Aa],by simp[Aa,hH.so],fun p p1 p2=>?_,by simp[Aa,AX],by simp[Aa,hH.h],by simp[Aa,hH.o],by simp[Aa,hH.z]⟩ hq
   ·simp[Aa,hH.f]
   ·simp[Aa,p1,hH.s0 p p1 p2]
  |b oo _ _ hk2 g=>
   subst ha;simp only[Uv] at hs;obtain⟨us,mF,hF,nF,cs,f1,f2,f3,f4,f5,f6,f7,f8⟩:=ih (k+1) mine (hers++oo.l) n (by omega) hn g wm (fun t ht=>by
    rcases List.mem_append.1 ht with ht | ht
    ·exact wh t ht
    ·exact hW oo (.inr hmem) t ht) (by rw[List.length_append];omega)
   rw[List.length_append] at f5;refine⟨us,mF,hF,nF,cs,f1,f2,f3,f4,by simp only[Uv];omega,f6,f7,fun {n0 w0 I0 M0 m0 Q} hM v w C vo vm vh out H hC ho hH hq=>?_⟩;simp only[Uv] at ho;have h5:=hH.s;have h8:=hH.h;refine Ab Ai BO.eq_1 ?_;simp[hlt,hx,uy,h5,h8,Aa];refine⟨by omega,?_⟩;rw[ew];refine f8 hM v w C vo vm (vh+1) out _ hC (by rw[List.length_append];omega) ⟨fun p=>?_,by simp[Aa],by simp[Aa,hH.so],fun p p1 p2=>?_,by simp[Aa,hH.m],by simp[Aa,AX],by simp[Aa,hH.o],by simp[Aa,hH.z]⟩ hq
   ·simp[Aa,hH.f]
   ·simp[Aa,p1,hH.s0 p p1 p2]
  |both o1 o2 _ a1 a2 hn1 hl1 h g=>
   simp only[Uv] at hs;have hal:a1.length+a2.length=o.kids.length-n:=by rw[← List.length_append,← ha,List.length_drop]
   have ha1:(o.kids.drop n).take a1.length=a1:=by rw[ha,List.take_left]
   have ha2:o.kids.drop (n+a1.length)=a2:=by rw[← List.drop_drop,ha,List.drop_left]
   obtain⟨us1,b1,b2,b3,b4⟩:=mP (f:=f) hat wo hko (o1:=o1) (o2:=o2) (l:=l) (k:=k) (m:=a1.length) (by omega) a1 0 n (by omega) ha1.symm (by omega) fun i hi hm=>by
    obtain⟨h1,h2⟩:=h _ hm;exact hR i hi o1 o2 hmem h1 h2
   rw[← ha2] at g;obtain⟨us,mF,hF,nF,cs,f1,f2,f3,f4,f5,f6,f7,f8⟩:=ih (k+1) [] [] (n+a1.length) (by omega) (by omega) g (fun t ht=>by simp at ht) (fun t ht=>by simp at ht) (by simp;omega);have hgap:=cH at' o.kind n mine hers;have hgl:((GK mine hers).getD []).length≤mine.length+hers.length:=by
    unfold GK;split
    ·simp
    ·split
     ·simp
     ·split<;>simp
   have hgw:∀ t,t ∈ (GK mine hers).getD []→AK t:=by
    unfold GK;intro t ht;split at ht
    ·exact wh t ht
    ·split at ht
     ·exact wh t ht
     ·split at ht
      ·exact wm t ht
      ·simp at ht
   have hgn:((GK mine hers).getD []).map Ag=(F9 at' o.kind n mine hers).1:=by
    cases e:GK mine hers with
    |none=>rw[hgap.2 e];rfl
    |some z=>rw[hgap.1 z e];rfl
   have er:run (mg f) at' o.kind (.both o1 o2::l.drop (k+1)) mine hers (a1++a2) n=((F9 at' o.kind n mine hers).1++((Ka (mg f) at' o1 o2 a1 n).1++(run (mg f) at' o.kind (l.drop (k+1)) [] [] (o.kids.drop (n+a1.length)) (n+a1.length)).1),(F9 at' o.kind n mine hers).2++((Ka (mg f) at' o1 o2 a1 n).2++(run (mg f) at' o.kind (l.drop (k+1)) [] [] (o.kids.drop (n+a1.length)) (n+a1.length)).2)):=by
    rw[run,← hn1,List.take_left,List.drop_left,ha2]
   rw[er];refine⟨(GK mine hers).getD []++(us1++us),mF,hF,nF,(F9 at' o.kind n mine hers).2++((Ka (mg f) at' o1 o2 a1 n).2++cs),fun t ht=>?_,f2,f3,f4,by simp only[Uv,List.length_append];simp at f5;omega,?_,?_,fun {n0 w0 I0 M0 m0 Q} hM v w C vo vm vh out H hC ho hH hq=>?_⟩
   ·rcases List.mem_append.1 ht with ht | ht
    ·exact hgw t ht
    ·rcases List.mem_append.1 ht with ht | ht
     ·exact b1 t ht
     ·exact f1 t ht
   ·simp only[List.map_append,hgn,b3,f6,List.append_assoc]
   ·simp only[f7,List.append_assoc]
   simp only[Uv] at ho;rw[List.length_append,List.length_append] at hC;have G:=UO (v:=v) (w:=w) (C:=C) (at':=at') (o:=o) (n:=n) (vo:=vo) (out:=out) (mine:=mine) (hers:=hers) (vs:=1) wm wh (wfT_iff.1 wo).k (by omega) (by omega) (by omega) hat (by omega);generalize (F9 at' o.kind n mine hers).2=cg at *;generalize (GK mine hers).getD []=gl at *;generalize (Ka (mg f) at' o1 o2 a1 n).2=cr at *;have hn64:(0:Int)≤o1.n∧o1.n≤10000000:=by
    unfold ML at hn1;omega
   have hl64:o1.l.length≤10000000:=by
    unfold ML at hn1;omega
   have ea:i64.wrap (o1.n+o1.l.length)=o1.n+o1.l.length:=EJ;have em:max (o1.n+(o1.l.length:Int)) 1=((a1.length:Nat):Int):=by
    rw[hn1];unfold ML;omega
   obtain⟨H2,g1,g2,g3,g4,g5,g6⟩:=Vj (c:=DD Tryz.prog w0 I0 M0 n0 m0) (s:=lk [(7,.pob [1] 1 0),(10,.pob [4] 1 0),(11,.pob [5] 1 0),(29,gg l),(30,iv l.length),(31,iv k)]) hM hH;rw[hH.o] at g4;rw[hH.z] at g5;refine LoopC.le g1 ?_;refine Ab Ai BO.eq_1 ?_;simp[hlt,hx,uy,Aa];refine Jn 0 5 (by decide) G (fun p=>by simp[Aa,g2]) (fun p=>by simp[Aa,g3]) (by simp) (by simp) ?_;simp[ea,em,Aa];refine LoopC.le (Ao [(7,.pob [1] 1 0),(10,.pob [4] 1 0),(11,.pob [5] 1 0),(15,.pob [6] ((H2 [6]).u+1) 0),(29,gg l),(30,iv l.length),(31,iv k),(47,iv a1.length),(48,iv (0:Nat))] (by simp)) ?_;refine b4 v w (C++cg) (vo+SI mine hers) ((H2 [6]).u+1) (out++gl) _ (by rw[List.length_append];omega) (by rw[List.length_append];omega) ⟨fun p=>by simp,fun p=>by simp,by simp[Aa,g4],by simp[Aa,g5]⟩ (by simp[Aa]) fun H' vo' hH'=>?_;simp;rw[ew];obtain⟨H3,vm',vh',y1,y2⟩:=XS (c:=DD Tryz.prog w0 I0 M0 n0 m0) (s:=lk [(7,.pob [1] 1 0),(10,.pob [4] 1 0),(11,.pob [5] 1 0),(29,gg l),(30,iv l.length),(31,iv (k+1:Nat))]) hH';refine LoopC.le y1 ?_;refine f8 hM v w _ vo' vm' vh' _ H3 (by rw[List.length_append,List.length_append];omega) (by simp only[List.length_append,List.length_nil];simp at f5;omega) y2 fun H4 vo2 vm2 vh2 z=>?_;refine hq H4 vo2 vm2 vh2 ?_;simp only[List.append_assoc] at z;exact z
theorem oe {c:Cx} {x:CC} {Q:Exit→Sta→Prop} {s:Nat→A} {v w:Nat} {C:List Cf} {at':CV} {o:T} {H:Hp} (h0:∀ p,H (0::p)=(Ni v w C).F 0 p) (h1:H [1]=⟨1,.cells (Xu o)⟩) (h4:H [4]=⟨1,.cells [iv 0,.sl true [],.sl true []]⟩) (h5:H [5]=⟨1,.cells [.pob [0] v 0,Ce at',iv o.kind,DN o.words,BG o.kids,iv 0,.sl true [],.sl true [],.sl true []]⟩) (h6:∀ p,p ≠ []→H (5::p)=⟨0,.none⟩)
  (k:∀ (H2:Hp) (vm vh:Nat),LsM v w C at' o 0 1 [] vm vh [] [] H2→LoopC c x Q ⟨s,H2⟩):LoopC c x Q ⟨s,H⟩:=by
 have e5:=h6 [0] (by simp);refine LoopC.le (BX (d:=[5]) (u:=1) 6 [5,0] 3 h5 rfl (by simp)) ?_;have hK:LsK v w C at' o 0 1 [] (AJ (AJ H [5,0] ⟨(H [5,0]).u+1,.arr 3 []⟩) [5] ⟨1,.cells ([.pob [0] v 0,Ce at',iv o.kind,DN o.words,BG o.kids,iv 0,.sl true [],.sl true [],.sl true []].set 6 (.osl [5,0] ((H [5,0]).u+1) 3 0 0))⟩):=by
  refine⟨fun p=>?_,fun p=>?_,?_,?_⟩
  ·simp[Aa,h0]
  ·by_cases p1:p=[]
   ·subst p1;simp[Aa,e5]
   ·by_cases p2:p=[0]
    ·subst p2;simp[Aa,e5]
    ·simp[Aa,p1,p2,h6]
  ·simp[Aa,h1]
  ·simp[Aa,h4]
 obtain⟨H3,vm',vh',y1,y2⟩:=XS (c:=c) (s:=s) hK;exact LoopC.le y1 (k H3 vm' vh' y2)
theorem XP {f:Nat} {at':CV} (hat:at'.length≤900000) {o:T} (wo:AK o) (hko:o.kids.length≤1000000) {R:E→T→T→Prop} {p q:E} {l:List Pc} (hT:fC p.ops q.ops l) (gp:∀ o,o ∈ p.ops→XI o) (gq:∀ o,o ∈ q.ops→XI o) (lp:p.ops.length≤1000000) (lq:q.ops.length≤1000000) (hl:l.length≤100000000) (hP:M8 R l o.kids) (hI:Uv l≤1000000)
  (hrun:run (mg f) at' o.kind l [] [] o.kids 0=Mt (mg f) at' o.kind o.kids (Ku p.ops) (Ku q.ops) 0)
  (hW:∀ o,(.a o ∈ l∨.b o ∈ l)→∀ t,t ∈ o.l→AK t)
  (hR:∀ (i:Nat) (h:i<o.kids.length) (o1 o2:OP),.both o1 o2 ∈ l→UA R o1 o.kids[i]→UA R o2 o.kids[i]→((o1.kind=0∧o1.e=E0)∨(o1.kind=1∧o1.e=E0)∨(o1.kind=3∧ad o1.e o.kids[i]))∧((o2.kind=0∧o2.e=E0)∨(o2.kind=1∧o2.e=E0)∨(o2.kind=3∧ad o2.e o.kids[i]))∧∃ u,nR f (at'++[(0,(i:Int))]) o.kids[i] o1.e o2.e u) :
  ∃ us:List T,(∀ t,t ∈ us→AK t)∧us.length≤10000000∧us.map Ag=(Mt (mg f) at' o.kind o.kids (Ku p.ops) (Ku q.ops) 0).1∧∀ (v w:Nat) (C:List Cf),C.length+(Mt (mg f) at' o.kind o.kids (Ku p.ops) (Ku q.ops) 0).2.length≤100000000000 →
   SpecF Tryz.prog 56 (fun r=>[.pob [r] v 0,Ce at',tX o,eX p,eX q]) (Ni v w C) (fun _=>tX (.mk o.kind [] us)) (Ni v w (C++(Mt (mg f) at' o.kind o.kids (Ku p.ops) (Ku q.ops) 0).2)):=by
 have TH:=Ut hT gp gq lp lq hl;obtain⟨us,mF,hF,nF,cs,f1,f2,f3,f4,f5,f6,f7,f8⟩:=kW (f:=f) hat wo hko hl hW hR l.length 0 [] [] 0 (by omega) (by omega) (by simpa using hP) (fun t ht=>by simp at ht) (fun t ht=>by simp at ht) (by simpa using hI);rw[List.drop_zero,List.drop_zero,hrun] at f6 f7;rw[List.drop_zero] at f5;simp only[List.length_nil,Nat.zero_add,Nat.sub_zero] at f5;have hgap:=cH at' o.kind nF mF hF;have hgl:((GK mF hF).getD []).length≤mF.length+hF.length:=by
  unfold GK;split
  ·simp
  ·split
   ·simp
   ·split<;>simp
 have hgw:∀ t,t ∈ (GK mF hF).getD []→AK t:=by
  unfold GK;intro t ht;split at ht
  ·exact f3 t ht
  ·split at ht
   ·exact f3 t ht
   ·split at ht
    ·exact f2 t ht
    ·simp at ht
 have hgn:((GK mF hF).getD []).map Ag=(F9 at' o.kind nF mF hF).1:=by
  cases e:GK mF hF with
  |none=>rw[hgap.2 e];rfl
  |some z=>rw[hgap.1 z e];rfl
 refine⟨us++(GK mF hF).getD [],fun t ht=>?_,by rw[List.length_append];omega,by rw[f6,List.map_append,hgn],fun v w C hC=>?_⟩
 ·rcases List.mem_append.1 ht with ht | ht
  ·exact f1 t ht
  ·exact hgw t ht
 rw[f7] at hC ⊢;rw[List.length_append] at hC;refine Iq LM (by simp) (Ae Au (Ae Ba (Ae (BD o) (Ae (Cn p) (Ae (Cn q) Ah))))) (BD _) fun w0 I0 M0 m0 hM=>?_;unfold HK;simp;refine Af TH (by simp) ?_;simp;refine LoopC.le (Ao [(7,.pob [1] 1 0),(10,.pob [4] 1 0),(11,.pob [5] 1 0),(29,gg l),(30,iv l.length),(31,iv (0:Nat))] (by simp)) ?_;refine oe (v:=v) (w:=w) (C:=C) (at':=at') (o:=o) (fun p=>by simp) (by simp) (by simp) (by simp) (fun p hp=>by simp[hp,FR,Ne.symm hp]) fun H2 vm vh hH2=>?_;refine f8 hM v w C 1 vm vh [] H2 (by omega) (by simp;omega) hH2 fun H' vo' vm' vh' hH'=>?_;have G:=UO (v:=v) (w:=w) (C:=C++cs) (at':=at') (o:=o) (n:=nF) (vo:=vo') (out:=us) (mine:=mF) (hers:=hF) (vs:=1) f2 f3 (wfT_iff.1 wo).k (by omega) (by omega) (by omega) hat (by rw[List.length_append];omega);rw[List.nil_append] at hH';generalize (F9 at' o.kind nF mF hF).2=cg at *;generalize (GK mF hF).getD []=gl at *;obtain⟨H3,g1,g2,g3,g4,g5,g6⟩:=Vj (c:=DD Tryz.prog w0 I0 M0 93 m0) (s:=lk [(7,.pob [1] 1 0),(10,.pob [4] 1 0),(11,.pob [5] 1 0)]) hM hH';rw[hH'.o] at g4;rw[hH'.z] at g5;simp;refine Hl g1 (Gs ?_);simp;refine Jn 0 5 (by decide) G (fun p=>by simp[g2]) (fun p=>by simp[g3]) (by simp) (by simp) ?_;simp[g4,g5,Aa];have hlen:us.length+gl.length=(us++gl).length:=by simp
 rw[hlen];generalize us++gl=L at *;generalize hHH:ov 0 ((Qg v w (C++(cs++cg)) at' o nF (vo'+SI mF hF) L (true,[]) (true,[]) 1).B 0 5) (ov 5 ((Qg v w (C++(cs++cg)) at' o nF (vo'+SI mF hF) L (true,[]) (true,[]) 1).C 0 5) (AJ H3 [4] ⟨1,.cells [iv o.kind,.sl true [],.osl [5,0] (vo'+SI mF hF) 3 0 L.length]⟩))=HH;have z0:∀ p,HH (0::p)=(Ni v w (C++(cs++cg))).F 0 p:=fun p=>by rw[← hHH];simp
 have z4:HH [4]=⟨1,.cells [iv o.kind,.sl true [],.osl [5,0] (vo'+SI mF hF) 3 0 L.length]⟩:=by rw[← hHH];simp[Aa]
 have z5:HH [5,0]=⟨vo'+SI mF hF,.arr 3 (L.map tA)⟩:=by rw[← hHH];simp[Aa]
 obtain⟨H4,y1,y2⟩:=Iz (c:=DD Tryz.prog w0 I0 M0 93 m0) (s:=lk [(10,.pob [4] 1 0)]) (H:=HH) (fun r=>r=5) (fun r p b h=>hM r p b (by omega)) (r0:=4) (p0:=[]) (by omega) z4 (cs':=Xu (.mk o.kind [] L)) (by simp[A.ones]) (fun H1 h1=>⟨Ad rfl,Am,B0 (f:=tA) (l:=L) (by rw[h1 5 [0] rfl,z5];simp) rfl (fun x=>by simp),trivial⟩);refine H5 y1 (Ax (r0:=tX (.mk o.kind [] L)) (by simp[EU]) rfl fun r=>?_);have e1:=y2 0 r (by omega);dsimp only;rw[AD (by simp),e1,z0]
theorem Zy {R R':E→T→T→Prop} {os:List OP} {a b:List T} (h:LdO R os a b):(∀ e x y,x ∈ a→y ∈ b→R e x y→R' e x y)→LdO R' os a b:=by
 induction h with
 |nil=>exact fun _=>.nil
 |keep l m hne hl _ ih=>exact fun hR=>.keep l m hne hl (ih fun e x y hx hy=>hR e x y (List.mem_append_right _ hx) (List.mem_append_right _ hy))
 |del l m hne hl _ ih=>exact fun hR=>.del l m hne hl (ih fun e x y hx hy=>hR e x y (List.mem_append_right _ hx) hy)
 |ins l m hne hl _ ih=>exact fun hR=>.ins l m hne hl (ih fun e x y hx hy=>hR e x y hx (List.mem_append_right _ hy))
 |desc e x y r _ ih=>exact fun hR=>.desc e x y (hR e x y (by simp) (by simp) r) (ih fun e x y hx hy=>hR e x y (List.mem_cons_of_mem _ hx) (List.mem_cons_of_mem _ hy))
def B7:List OP→Nat
 |[]=>0
 |o::os=>(if o.kind=2 then o.l.length else 0)+B7 os
theorem UR {R:E→T→T→Prop} {os:List OP} {a b:List T} (h:LdO R os a b):os.length≤a.length+b.length∧B7 os≤b.length∧(a.length≤1000000→b.length≤1000000→∀ o,o ∈ os→XI o):=by
 induction h with
 |nil=>exact⟨by simp,by simp[B7],fun _ _ o ho=>by simp at ho⟩
 |keep l m hne hl _ ih=>
  have h1:=List.length_pos_iff.2 hne;have h2:l.length=m.length:=by simpa using congrArg List.length hl
  refine⟨by simp;omega,by simp[B7];omega,fun ha hb o ho=>?_⟩;rw[List.length_append] at ha hb;rcases List.mem_cons.1 ho with rfl | ho
  ·exact⟨.inl ⟨rfl,by simp;omega,by simp;omega,rfl⟩,fun h=>by simp at h,by simp⟩
  ·exact ih.2.2 (by omega) (by omega) o ho
 |del l m hne hl _ ih=>
  have h1:=List.length_pos_iff.2 hne;have h2:l.length=m.length:=by simpa using congrArg List.length hl
  refine⟨by simp;omega,by simp[B7];omega,fun ha hb o ho=>?_⟩;rw[List.length_append] at ha;rcases List.mem_cons.1 ho with rfl | ho
  ·exact⟨.inr (.inl ⟨rfl,rfl⟩),fun _=>hne,by simp;omega⟩
  ·exact ih.2.2 (by omega) (by omega) o ho
 |ins l m hne hl _ ih=>
  have h1:=List.length_pos_iff.2 hne;have h2:l.length=m.length:=by simpa using congrArg List.length hl
  refine⟨by simp;omega,by simp[B7];omega,fun ha hb o ho=>?_⟩;rw[List.length_append] at hb;rcases List.mem_cons.1 ho with rfl | ho
  ·exact⟨.inr (.inr (.inl ⟨rfl,rfl⟩)),fun _=>hne,by simp;omega⟩
  ·exact ih.2.2 (by omega) (by omega) o ho
 |desc e x y r _ ih=>
  refine⟨by simp;omega,by simp[B7];omega,fun ha hb o ho=>?_⟩;rw[List.length_cons] at ha hb;rcases List.mem_cons.1 ho with rfl | ho
  ·exact⟨.inr (.inr (.inr ⟨rfl,rfl,rfl⟩)),fun h=>by simp at h,by simp⟩
  ·exact ih.2.2 (by omega) (by omega) o ho
theorem nV (o:OP) (n:Nat):(mr o n).kind=o.kind:=by unfold mr;split<;>rfl
theorem dh {p:OP} (hp:p.kind ≠ 2) (n:Nat) (ps:List OP):B7 (MN p n ps)=B7 ps:=by
 unfold MN;split
 ·rfl
 ·rw[B7,nV,if_neg hp,Nat.zero_add]
theorem r7 {ps qs:List OP} {l:List Pc} (h:fC ps qs l):Uv l≤B7 ps+B7 qs:=by
 induction h with
 |nil=>simp[Uv]
 |fst p ps qs l h g ih=>rw[Uv,B7,if_pos h];omega
 |snd ps q qs l hp h g ih=>rw[Uv,B7,if_pos h];omega
 |both p ps q qs n l hp hq hn g ih=>
  rw[dh hp,dh hq] at ih;rw[Uv,B7,if_neg hp,B7,if_neg hq];omega
def ns (o:OP):Prop:=(∀ t,t ∈ o.l→AK t)∧Pn o.e
theorem nD {o:OP} (h:ns o) (n:Nat):ns (KW o n):=by
 unfold KW;split
 ·exact h
 ·unfold zv;split
  ·exact h
  ·exact⟨fun t ht=>h.1 t (OB ht),h.2⟩
theorem l7 {p:OP} {ps:List OP} (h:∀ o,o ∈ p::ps→ns o) (n:Nat):∀ o,o ∈ MN p n ps→ns o:=by
 intro o ho;unfold MN at ho;split at ho
 ·exact h o (List.mem_cons_of_mem _ ho)
 ·rcases List.mem_cons.1 ho with rfl | ho
  ·have:=h p (by simp);unfold mr;split
   ·exact this
   ·exact⟨fun t ht=>this.1 t (QL ht),this.2⟩
  ·exact h o (List.mem_cons_of_mem _ ho)
theorem Ac6 {ps qs:List OP} {l:List Pc} (h:fC ps qs l):(∀ o,o ∈ ps→ns o)→(∀ o,o ∈ qs→ns o)→∀ c,c ∈ l→ns (tv c).1∧ns (tv c).2:=by
 have w0:ns O0:=⟨fun t ht=>by simp at ht,D8⟩;induction h with
 |nil=>intro _ _ c hc;simp at hc
 |fst p ps qs l h g ih=>
  intro hp hq c hc;rcases List.mem_cons.1 hc with rfl | hc
  ·exact⟨hp p (by simp),w0⟩
  ·exact ih (fun o ho=>hp o (List.mem_cons_of_mem _ ho)) hq c hc
 |snd ps q qs l _ h g ih=>
  intro hp hq c hc;rcases List.mem_cons.1 hc with rfl | hc
  ·exact⟨w0,hq q (by simp)⟩
  ·exact ih hp (fun o ho=>hq o (List.mem_cons_of_mem _ ho)) c hc
 |both p ps q qs n l hpk hqk hn g ih=>
  intro hp hq c hc;rcases List.mem_cons.1 hc with rfl | hc
  ·exact⟨nD (hp p (by simp)) n,nD (hq q (by simp)) n⟩
  ·exact ih (l7 hp n) (l7 hq n) c hc
def Sq:Nat→T→Prop
 |0,_=>True
 |f+1,t=>t.words.length≤400000∧t.kids.length≤400000∧∀ k,k ∈ t.kids→Sq f k
theorem AbQ:∀ f,Sq f T0
 |0=>trivial
 |f+1=>⟨by simp,by simp,fun k hk=>by simp at hk⟩
theorem Qz {f:Nat} {t:T} (h:Sq (f+1) t) (i:Nat):Sq f (t.kids.getD i T0):=by
 rw[List.getD_eq_getElem?_getD];cases e:t.kids[i]? with
 |none=>exact AbQ f
 |some z=>exact h.2.2 z (List.mem_of_getElem? e)
theorem Sk:∀ (f:Nat) (t:T),Sq f t→Sz f t
 |0,_,_=>trivial
 |f+1,t,h=>⟨by have:=h.1;omega,by have:=h.2.1;omega,fun k hk=>Sk f k (h.2.2 k hk)⟩
theorem SU:∀ (f:Nat) (t:T),Bc t≤100000→Sq f t
 |0,t,_=>trivial
 |f+1,t,h=>by
  obtain⟨k,w,l⟩:=t;rw[Fb] at h;have hl:=Ir l;exact⟨by show w.length≤400000;omega,by show l.length≤400000;omega,fun x hx=>SU f x (by have:=Tk (show x ∈ l from hx);omega)⟩
theorem SP {f:Nat} {e:E} {a b:T} (hw:Pn e) (ha:AK a) (hb:AK b) (sa:Sq f a) (sb:Sq f b) (h:Ld f e a b):ad e a∧JC e a=Ag b:=by
 obtain⟨u,h1,h2⟩:=lX f e a b hw ha hb (Sk f a sa) (Sk f b sb) h;have e1:JC e a=Ag u:=by rw[La h,h2]
 refine⟨⟨?_,?_,?_⟩,La h⟩
 ·rw[e1];exact iB (Lw h1)
 ·rw[e1];exact CQ u h1.1
 ·rw[e1,Es]
theorem VW {f:Nat} {at':CV} {o:T} {p q:E} (hp:ad p o) (hq:ad q o) (wo:AK o) (hat:at'.length≤900000) (h2:¬ (p.kind=2∧q.kind=2)) (h3:¬ (p.kind=3∧q.kind=3)) (hm:mg f at' o p q=ab at' o p q):∃ u,nR f at' o p q u:=by
 have D1:=hp.1;have D2:=hq.1;by_cases k0:p.kind=0
 ·have e:mg f at' o p q=(JC q o,[]):=by rw[hm,ab,if_pos k0]
  refine⟨JC q o,hq.2.1,by rw[e,hq.2.2],fun v w C hC=>?_⟩;rw[e];refine Aq Cc (by simp) (Ae Au (Ae Ba (Ae (BD o) (Ae (Cn p) (Ae (Cn q) Ah))))) (BD _) fun w0 I0 M0 m0=>?_;unfold BJ;simp[k0];refine Af D2 (by simp) ?_;simp[Aa];exact Ax (r0:=tX (JC q o)) (by simp[EU]) rfl (fun p=>by simp[Aa])
 by_cases q0:q.kind=0
 ·have e:mg f at' o p q=(JC p o,[]):=by rw[hm,ab,if_neg k0,if_pos q0]
  refine⟨JC p o,hp.2.1,by rw[e,hp.2.2],fun v w C hC=>?_⟩;rw[e];refine Aq Cc (by simp) (Ae Au (Ae Ba (Ae (BD o) (Ae (Cn p) (Ae (Cn q) Ah))))) (BD _) fun w0 I0 M0 m0=>?_;unfold BJ;simp[k0,q0];refine Af D1 (by simp) ?_;simp[Aa];exact Ax (r0:=tX (JC p o)) (by simp[EU]) rfl (fun p=>by simp[Aa])
 have E:=Iw hp.2.1 hq.2.1;by_cases c:JC p o=JC q o
 ·have e:mg f at' o p q=(JC p o,[]):=by rw[hm,ab,if_neg k0,if_neg q0,if_pos c]
  rw[eqT_iff.2 (by rw[c])] at E;refine⟨JC p o,hp.2.1,by rw[e,hp.2.2],fun v w C hC=>?_⟩;rw[e];refine Aq Cc (by simp) (Ae Au (Ae Ba (Ae (BD o) (Ae (Cn p) (Ae (Cn q) Ah))))) (BD _) fun w0 I0 M0 m0=>?_;unfold BJ;by_cases p2:p.kind=2
  ·have q2:¬ q.kind=2:=fun h=>h2 ⟨p2,h⟩;obtain⟨kp,op,np,wp,ksp,lp,osp⟩:=p;have p2:kp=2:=p2;subst p2;simp[q0,q2];refine Af D1 (by simp) ?_;simp[Aa];refine Af D2 (by simp) ?_;simp[Aa];refine Af E (by simp) ?_;simp[Aa];exact Ax (r0:=tX (JC (.mk 2 op np wp ksp lp osp) o)) (by simp[EU]) rfl (fun p=>by simp[Aa])
  ·by_cases p3:p.kind=3
   ·have q3:¬ q.kind=3:=fun h=>h3 ⟨p3,h⟩;obtain⟨kp,op,np,wp,ksp,lp,osp⟩:=p;have p3:kp=3:=p3;subst p3;simp[q0,q3];refine Af D1 (by simp) ?_;simp[Aa];refine Af D2 (by simp) ?_;simp[Aa];refine Af E (by simp) ?_;simp[Aa];exact Ax (r0:=tX (JC (.mk 3 op np wp ksp lp osp) o)) (by simp[EU]) rfl (fun p=>by simp[Aa])
   ·simp[k0,p2,p3,q0];refine Af D1 (by simp) ?_;simp[Aa];refine Af D2 (by simp) ?_;simp[Aa];refine Af E (by simp) ?_;simp[Aa];exact Ax (r0:=tX (JC p o)) (by simp[EU]) rfl (fun p=>by simp[Aa])
 ·have e:mg f at' o p q=(Ag o,[⟨at',Ag o,JC p o,JC q o⟩]):=by rw[hm,ab,if_neg k0,if_neg q0,if_neg c]
  have ef:Kd (JC p o) (JC q o)=false:=by
   cases h:Kd (JC p o) (JC q o) with
   |false=>rfl
   |true=>
    have:=eqT_iff.1 h;rw[hp.2.2,hq.2.2] at this;exact absurd this c
  rw[ef] at E;refine⟨o,wo,by rw[e],fun v w C hC=>?_⟩;rw[e] at hC ⊢;have CL:=NZ (l:=at') (b:=o) (o:=JC p o) (t:=JC q o) (by omega) wo hp.2.1 hq.2.1 v w (C:=C) (by simp at hC;omega);rw[hp.2.2,hq.2.2] at CL;refine Aq Cc (by simp) (Ae Au (Ae Ba (Ae (BD o) (Ae (Cn p) (Ae (Cn q) Ah))))) (BD _) fun w0 I0 M0 m0=>?_;unfold BJ;by_cases p2:p.kind=2
  ·have q2:¬ q.kind=2:=fun h=>h2 ⟨p2,h⟩;obtain⟨kp,op,np,wp,ksp,lp,osp⟩:=p;have p2:kp=2:=p2;subst p2;simp[q0,q2];refine Af D1 (by simp) ?_;simp[Aa];refine Af D2 (by simp) ?_;simp[Aa];refine Af E (by simp) ?_;simp[Aa];refine Ar 0 CL (fun p=>by simp[Aa]) (by simp) (by simp) ?_;simp[Aa];exact Ax (r0:=tX o) (by simp[EU]) rfl (fun p=>by simp[Aa])
  ·by_cases p3:p.kind=3
   ·have q3:¬ q.kind=3:=fun h=>h3 ⟨p3,h⟩;obtain⟨kp,op,np,wp,ksp,lp,osp⟩:=p;have p3:kp=3:=p3;subst p3;simp[q0,q3];refine Af D1 (by simp) ?_;simp[Aa];refine Af D2 (by simp) ?_;simp[Aa];refine Af E (by simp) ?_;simp[Aa];refine Ar 0 CL (fun p=>by simp[Aa]) (by simp) (by simp) ?_;simp[Aa];exact Ax (r0:=tX o) (by simp[EU]) rfl (fun p=>by simp[Aa])
   ·simp[k0,p2,p3,q0];refine Af D1 (by simp) ?_;simp[Aa];refine Af D2 (by simp) ?_;simp[Aa];refine Af E (by simp) ?_;simp[Aa];refine Ar 0 CL (fun p=>by simp[Aa]) (by simp) (by simp) ?_;simp[Aa];exact Ax (r0:=tX o) (by simp[EU]) rfl (fun p=>by simp[Aa])
theorem nK {at':CV} {o:T} {p q:E} {u:T} (hp:p.kind=2) (hq:q.kind=2) {v w:Nat} {C C':List Cf} (S:SpecF Tryz.prog 55 (fun r=>[.pob [r] v 0,Ce at',tX o,eX p,eX q]) (Ni v w C) (fun _=>tX u) (Ni v w C')) :
  SpecF Tryz.prog 34 (fun r=>[.pob [r] v 0,Ce at',tX o,eX p,eX q]) (Ni v w C) (fun _=>tX u) (Ni v w C'):=by
 refine Aq Cc (by simp) (Ae Au (Ae Ba (Ae (BD o) (Ae (Cn p) (Ae (Cn q) Ah))))) (BD _) fun w0 I0 M0 m0=>?_;obtain⟨kp,op,np,wp,ksp,lp,osp⟩:=p;obtain⟨kq,oq,nq,wq,ksq,lq,osq⟩:=q;have hp:kp=2:=hp;have hq:kq=2:=hq;subst hp;subst hq;unfold BJ;simp;refine Ar 0 S (fun p=>by simp[Aa]) (by simp) (by simp) ?_;simp[Aa];exact Ax (r0:=tX u) (by simp[EU]) rfl (fun p=>by simp[Aa])
theorem gX {at':CV} {o:T} {p q:E} {u:T} (hp:p.kind=3) (hq:q.kind=3) {v w:Nat} {C C':List Cf} (S:SpecF Tryz.prog 56 (fun r=>[.pob [r] v 0,Ce at',tX o,eX p,eX q]) (Ni v w C) (fun _=>tX u) (Ni v w C')) :
  SpecF Tryz.prog 34 (fun r=>[.pob [r] v 0,Ce at',tX o,eX p,eX q]) (Ni v w C) (fun _=>tX u) (Ni v w C'):=by
 refine Aq Cc (by simp) (Ae Au (Ae Ba (Ae (BD o) (Ae (Cn p) (Ae (Cn q) Ah))))) (BD _) fun w0 I0 M0 m0=>?_;obtain⟨kp,op,np,wp,ksp,lp,osp⟩:=p;obtain⟨kq,oq,nq,wq,ksq,lq,osq⟩:=q;have hp:kp=3:=hp;have hq:kq=3:=hq;subst hp;subst hq;unfold BJ;simp;refine Ar 0 S (fun p=>by simp[Aa]) (by simp) (by simp) ?_;simp[Aa];exact Ax (r0:=tX u) (by simp[EU]) rfl (fun p=>by simp[Aa])
def gn (f:Nat) (e:E) (x y:T):Prop:=Ld f e x y∧Pn e∧AK x∧AK y∧Sq f x∧Sq f y
theorem bH {f:Nat} {k:T} (w:AK k) (s:Sq f k):gn f E0 k k:=⟨Ol (.inl ⟨rfl,rfl⟩),D8,w,w,s,s⟩
def zq (f:Nat) (e:E) (x y:T):Prop:=∃ z,Ld f e x z∧AK z∧Sq f z
theorem Wf {a b:List Int} {p:Nat} {ws:List WE} (h:K9 a b p ws):ws.length+p≤max p (max a.length b.length):=by
 induction h with
 |nil p h=>simp;omega
 |cons p i m o n ws hp h hi hm ho hn h1 h2 _ ih=>
  rw[List.length_cons];omega
theorem sC:∀ (f:Nat) (p q:E) (o x y:T),gn f p o x→gn f q o y→∀ at':CV,at'.length+f≤800000→∃ u,nR f at' o p q u:=by
 intro f;induction f with
 |zero=>
  intro p q o x y hp hq at' hat;have D1:=(SP hp.2.1 hp.2.2.1 hp.2.2.2.1 hp.2.2.2.2.1 hp.2.2.2.2.2 hp.1).1;have D2:=(SP hq.2.1 hq.2.2.1 hq.2.2.2.1 hq.2.2.2.2.1 hq.2.2.2.2.2 hq.1).1;have k1:p.kind=0∨p.kind=1:=by
   rcases hp.1 with ⟨rfl,_⟩ | ⟨_,_,rfl,_⟩
   ·exact .inl rfl
   ·exact .inr rfl
  exact VW D1 D2 hp.2.2.1 (by omega) (fun h=>by omega) (fun h=>by omega) rfl
 |succ f ih=>
  intro p q o x y hp hq at' hat;have D1:=(SP hp.2.1 hp.2.2.1 hp.2.2.2.1 hp.2.2.2.2.1 hp.2.2.2.2.2 hp.1).1;have D2:=(SP hq.2.1 hq.2.2.1 hq.2.2.2.1 hq.2.2.2.2.1 hq.2.2.2.2.2 hq.1).1;by_cases k2:p.kind=2∧q.kind=2
  ·obtain⟨hp1,hp2,hp3,hp4,hp5,hp6⟩:=hp;obtain⟨hq1,hq2,hq3,hq4,hq5,hq6⟩:=hq;rcases hp1 with h | ⟨ws,ks,rfl,h1,h2,h3,h4⟩ | ⟨os,rfl,h1,h2,hv,h3⟩
   ·rcases h with ⟨rfl,_⟩ | ⟨_,_,rfl,_⟩<;>exact absurd k2.1 (by simp)
   rotate_left
   ·exact absurd k2.1 (by simp)
   rcases hq1 with g | ⟨ws',ks',rfl,g1,g2,g3,g4⟩ | ⟨os',rfl,g1,g2,gv,g3⟩
   ·rcases g with ⟨rfl,_⟩ | ⟨_,_,rfl,_⟩<;>exact absurd k2.2 (by simp)
   rotate_left
   ·exact absurd k2.2 (by simp)
   have P:=wfE_iff.1 hp2;have Q:=wfE_iff.1 hq2;have pwl:ws.length*32≤140737488355328:=P.wl;have pkl:ks.length*208≤140737488355328:=P.kl;have qwl:ws'.length*32≤140737488355328:=Q.wl;have qkl:ks'.length*208≤140737488355328:=Q.kl;have lw:=Wf h3;have lw':=Wf g3;have s1:=hp5.1;have s2:=hp5.2.1;have s3:=hp6.1;have s4:=hp6.2.1;have s5:=hq6.1;have s6:=hq6.2.1;have hk:∀ i:Nat,∃ u,nR f (at'++[(0,(i:Int))]) (o.kids.getD i T0) (F3 ks i) (F3 ks' i) u:=fun i=>by
    have a1:Ld f (F3 ks i) (o.kids.getD i T0) (x.kids.getD i T0):=WJ (fun x y h=>Ol (.inl ⟨rfl,h⟩)) h4 i (Nat.zero_le _);have a2:Ld f (F3 ks' i) (o.kids.getD i T0) (y.kids.getD i T0):=WJ (fun x y h=>Ol (.inl ⟨rfl,h⟩)) g4 i (Nat.zero_le _);exact ih _ _ _ _ _ ⟨a1,dw D8 (fun x h=>(P.ks x h).2) i,Hb hp3 i,Hb hp4 i,Qz hp5 i,Qz hp6 i⟩ ⟨a2,dw D8 (fun x h=>(Q.ks x h).2) i,Hb hp3 i,Hb hq4 i,Qz hp5 i,Qz hq6 i⟩ _ (by rw[List.length_append];simp;omega)
   obtain⟨u,u1,u2,u3⟩:=gS (f:=f) (at':=at') (by omega) hp3 (p:=.mk 2 T0 T0 ws ks 0 []) (q:=.mk 2 T0 T0 ws' ks' 0 []) h3 g3 h4 g4 (by omega) (by omega) (by omega) ⟨by show ws.length≤_;omega,by show ks.length≤_;omega⟩ ⟨by show ws'.length≤_;omega,by show ks'.length≤_;omega⟩ hk;have em:mg (f+1) at' o (.mk 2 T0 T0 ws ks 0 []) (.mk 2 T0 T0 ws' ks' 0 [])=gM (mg f) at' o (.mk 2 T0 T0 ws ks 0 []) (.mk 2 T0 T0 ws' ks' 0 []):=by rw[mg,if_pos ⟨rfl,rfl⟩]
   refine⟨u,u1,by rw[em];exact u2,fun v w C hC=>?_⟩;rw[em] at hC ⊢;exact nK rfl rfl (u3 v w C hC)
  ·by_cases k3:p.kind=3∧q.kind=3
   ·obtain⟨hp1,hp2,hp3,hp4,hp5,hp6⟩:=hp;obtain⟨hq1,hq2,hq3,hq4,hq5,hq6⟩:=hq;rcases hp1 with h | ⟨ws,ks,rfl,h1,h2,h3,h4⟩ | ⟨os,rfl,h1,h2,hv,h3⟩
    ·rcases h with ⟨rfl,_⟩ | ⟨_,_,rfl,_⟩<;>exact absurd k3.1 (by simp)
    ·exact absurd k3.1 (by simp)
    rcases hq1 with g | ⟨ws',ks',rfl,g1,g2,g3,g4⟩ | ⟨os',rfl,g1,g2,gv,g3⟩
    ·rcases g with ⟨rfl,_⟩ | ⟨_,_,rfl,_⟩<;>exact absurd k3.2 (by simp)
    ·exact absurd k3.2 (by simp)
    have P:=wfE_iff.1 hp2;have Q:=wfE_iff.1 hq2;have O:=wfT_iff.1 hp3;have X:=wfT_iff.1 hp4;have Y:=wfT_iff.1 hq4;have s2:=hp5.2.1;have s4:=hp6.2.1;have s6:=hq6.2.1;have h3':LdO (zq f) os o.kids x.kids:=Zy h3 fun e a b ha hb r=>⟨b,r,X.ks b hb,hp6.2.2 b hb⟩;have g3':LdO (zq f) os' o.kids y.kids:=Zy g3 fun e a b ha hb r=>⟨b,r,Y.ks b hb,hq6.2.2 b hb⟩;obtain⟨f1,f2,f3⟩:=UR h3;obtain⟨e1,e2,e3⟩:=UR g3;obtain⟨l,t1,t2,t3,t4⟩:=vu (os.length+os'.length+2*o.kids.length) os os' o.kids x.kids y.kids h3' g3' (f3 (by omega) (by omega)) (e3 (by omega) (by omega)) (Cj _);have hW:=Ac6 t1 (fun o ho=>⟨(P.os o ho).l,(P.os o ho).e⟩) (fun o ho=>⟨(Q.os o ho).l,(Q.os o ho).e⟩);have hI:=r7 t1;have hR:∀ (i:Nat) (h:i<o.kids.length) (o1 o2:OP),.both o1 o2 ∈ l→UA (zq f) o1 o.kids[i]→UA (zq f) o2 o.kids[i]→((o1.kind=0∧o1.e=E0)∨(o1.kind=1∧o1.e=E0)∨(o1.kind=3∧ad o1.e o.kids[i]))∧((o2.kind=0∧o2.e=E0)∨(o2.kind=1∧o2.e=E0)∨(o2.kind=3∧ad o2.e o.kids[i]))∧∃ u,nR f (at'++[(0,(i:Int))]) o.kids[i] o1.e o2.e u:=fun i hi o1 o2 hm a1 a2=>by
     have wk:AK o.kids[i]:=O.ks _ (C5 hi);have sk:Sq f o.kids[i]:=hp5.2.2 _ (C5 hi);have W:=hW _ hm;have one:∀ oo:OP,ns oo→UA (zq f) oo o.kids[i]→((oo.kind=0∧oo.e=E0)∨(oo.kind=1∧oo.e=E0)∨(oo.kind=3∧ad oo.e o.kids[i]))∧∃ z,gn f oo.e o.kids[i] z:=fun oo w a=>by
      rcases a with ⟨k0,e0⟩ | ⟨k0,e0⟩ | ⟨k0,x',z,hz1,hz2,hz3⟩
      ·exact⟨.inl ⟨k0,e0⟩,o.kids[i],by rw[e0];exact bH wk sk⟩
      ·exact⟨.inr (.inl ⟨k0,e0⟩),o.kids[i],by rw[e0];exact bH wk sk⟩
      ·exact⟨.inr (.inr ⟨k0,(SP w.2 wk hz2 sk hz3 hz1).1⟩),z,hz1,w.2,wk,hz2,sk,hz3⟩
     obtain⟨r1,z1,q1⟩:=one o1 W.1 a1;obtain⟨r2,z2,q2⟩:=one o2 W.2 a2;exact⟨r1,r2,ih _ _ _ _ _ q1 q2 _ (by rw[List.length_append];simp;omega)⟩
    have t4':=t4 (mg f) at' o.kind [] [] 0;simp only[List.map_nil,List.nil_append] at t4';obtain⟨us,u1,u2,u3,u4⟩:=XP (f:=f) (at':=at') (by omega) hp3 (by omega) (R:=zq f) (p:=.mk 3 T0 T0 [] [] o.kind os) (q:=.mk 3 T0 T0 [] [] o.kind os') t1 (f3 (by omega) (by omega)) (e3 (by omega) (by omega)) (by show os.length≤_;omega) (by show os'.length≤_;omega) (by omega) t3 (by omega) t4' (fun oo h=>by
     rcases h with h | h
     ·exact(hW _ h).1.1
     ·exact(hW _ h).2.1) hR
    have em:mg (f+1) at' o (.mk 3 T0 T0 [] [] o.kind os) (.mk 3 T0 T0 [] [] o.kind os')=(Ag (.mk o.kind [] (Mt (mg f) at' o.kind o.kids (Ku os) (Ku os') 0).1),(Mt (mg f) at' o.kind o.kids (Ku os) (Ku os') 0).2):=by rw[mg,if_neg (by simp),if_pos ⟨rfl,rfl⟩];rfl
    refine⟨.mk o.kind [] us,wfT_iff.2 ⟨O.k,by simp,by simp,by show us.length*56≤_;omega,u1⟩,?_,fun v w C hC=>?_⟩
    ·rw[em];refine(LR (by omega) (by omega)).2 ⟨rfl,?_⟩;have u3':us.map Ag=(Mt (mg f) at' o.kind o.kids (Ku os) (Ku os') 0).1:=u3;rw[← u3',JW]
    ·rw[em] at hC ⊢;exact gX rfl rfl (u4 v w C hC)
   ·have hm:mg (f+1) at' o p q=ab at' o p q:=by rw[mg,if_neg k2,if_neg k3]
    exact VW D1 D2 hp.2.2.1 (by omega) k2 k3 hm
end Go.Proofs.YtndnlknocdangaaGreat
namespace Go.G
open Go
theorem SpecH.soft {P:Program} {f:FuncId} {k:Nat} {as' as2:List A} {Hc Hr:Hp} {r:A} (h:SpecH P f k as2 Hc r Hr) (e:A.softL as'=as2):SpecH P f k as' Hc r Hr:=by
 subst e;refine⟨h.1,fun w I M0 n μ vs hM hs hl ha=>h.2 w I M0 n μ vs hM hs (by simpa[Bi] using hl) fun k y hk=>?_⟩;rw[Bi,List.getElem?_map,Option.map_eq_some_iff] at hk;obtain⟨y',hy,rfl⟩:=hk;exact(ha k y' hy).soft
theorem SpecF.soft {P:Program} {f:FuncId} {as' as2:Nat→List A} {F F':Fam} {x:Nat→A} (h:SpecF P f as2 F x F') (fa:FamL as') (e:A.softL (as' 0)=as2 0):SpecF P f as' F x F':=
 ⟨fa,h.fx,h.h.soft e⟩
end Go.G
namespace Go.Proofs.YtndnlknocdangaaGreat
open Go Go.G Go.Proofs Go.PL
theorem qS {H:Hp} {o:Nm} {u n:Nat} {l:List Cf} (h:vr (H o) u=some (10,l.map oY)) (hn:n=l.length):IZ H (.osl o u 10 0 n) (vZ l):=
 B0 h hn fun x=>by simp[oY]
theorem Y1 {f:Nat} {p q:E} {o x y:T} (hp:gn f p o x) (hq:gn f q o y) (hf:f≤800000) (hc:(mg f [] o p q).2.length≤100000000000):G.Spec Tryz.prog 14 [tX o,eX p,eX q] (.tup [tX (mg f [] o p q).1,vZ (mg f [] o p q).2,bv true]):=by
 obtain⟨u,u1,u2,u3⟩:=sC f p q o x y hp hq [] (by simpa using hf);obtain⟨x',x1,x2⟩:=lX f p o x hp.2.1 hp.2.2.1 hp.2.2.2.1 (Sk f o hp.2.2.2.2.1) (Sk f x hp.2.2.2.2.2) hp.1;obtain⟨y',y1,y2⟩:=lX f q o y hq.2.1 hq.2.2.1 hq.2.2.2.1 (Sk f o hq.2.2.2.2.1) (Sk f y hq.2.2.2.2.2) hq.1;have A1:=Lw x1;have A2:=Lw y1;have S:=u3 1 1 [] (by simpa using hc);have S':SpecF Tryz.prog 34 (fun r=>[.pob [r] 1 0,.sl true [],tX o,eX p,eX q]) (Ni 1 1 []) (fun _=>tX u) (Ni 1 1 (mg f [] o p q).2):=S.soft (Ae Au (Ae Ba (Ae (BD o) (Ae (Cn p) (Ae (Cn q) Ah))))) (by simp[A.softL,A.soft,Ji,FB,OX,Su,Sb]);have N:=C8 u u1;rw[u2] at N;generalize mg f [] o p q=M at *;refine Al Uo (by simp) fun w0 I0=>?_;unfold Ns;simp;refine Af A1 (by simp) ?_;simp[Aa];refine Af A2 (by simp) ?_;simp[Aa];refine Hl (BX (d:=[6]) (u:=1) (cs:=[.sl true []]) 0 [6,0] 10 (by simp) rfl (by simp)) (Gs ?_);simp[Aa];refine Ar 6 S' (fun p=>?_) (by simp) (by simp) ?_
 ·by_cases p1:p=[]
  ·subst p1;simp[Aa]
  ·by_cases p2:p=[0]
   ·subst p2;simp[Aa]
   ·simp[Aa,p1,p2,FR,Ne.symm p1,Ne.symm p2]
 simp[Aa];refine Af N (by simp) ?_;simp[Aa];refine CP ⟨Ad (by simp),qS ?_ rfl,Ad rfl,trivial⟩;simp[Aa]
noncomputable def Kl (most:Int) (o x y:T):T × List Cf:=mg 1000 [] (Ag o) (VJ most o x) (VJ most o y)
theorem PH {t:T} (pt:Bc t≤1000):Bc (Ag t)≤1000:=by
 have:=ct t;omega
theorem WZ {a b:T} (ha:AK a) (hb:AK b) (pa:Bc a≤1000) (pb:Bc b≤1000) {da db:Nat} (ra:Cr da a=true) (rb:Cr db b=true) {most:Int}:gn 1000 (VJ most a b) (Ag a) (Ag b):=
 ⟨s8 ha hb pa pb ra rb,Ab6 ha hb pa pb,CQ a ha,CQ b hb,SU 1000 (Ag a) (by have:=PH pa;omega),SU 1000 (Ag b) (by have:=PH pb;omega)⟩
mutual
def Fu:E→Nat
 |.mk _ _ _ ws ks _ os=>1+ws.length+jG ks+oP os
def jG:List KE→Nat
 |[]=>0
 |.mk _ e::l=>Fu e+jG l
def oP:List OP→Nat
 |[]=>0
 |.mk k _ t e::l=>(if k=0 then 0 else if k=1∨k=2 then t.length else Fu e)+oP l
end
theorem SD (k:Int) (o n:T) (ws:List WE) (ks:List KE) (l:Int) (os:List OP):Fu (.mk k o n ws ks l os)=1+ws.length+jG ks+oP os:=by rw[Fu]
@[simp] theorem Afb:jG []=0:=by rw[jG]
theorem Yb (x:KE) (l:List KE):jG (x::l)=Fu x.e+jG l:=by cases x;rw[jG];rfl
@[simp] theorem Afs:oP []=0:=by rw[oP]
theorem Lq (x:OP) (l:List OP):oP (x::l)=(if x.kind=0 then 0 else if x.kind=1∨x.kind=2 then x.l.length else Fu x.e)+oP l:=by cases x;rw[oP];rfl
theorem oC (e:E):1≤Fu e:=by
 cases e;rw[SD];omega
theorem eE {α:Type} (at_:α→Int) (G:α→Nat) (k:α):∀ m:Nat,((List.range m).map fun i:Nat=>if at_ k=(i:Int) then G k else 0).sum≤G k
 |0=>by simp
 |m+1=>by
  have ih:=eE at_ G k m;rw[List.range_succ,List.map_append,List.sum_append];by_cases h:at_ k=(m:Int)
  ·have z:((List.range m).map fun i:Nat=>if at_ k=(i:Int) then G k else 0).sum=0:=by
    refine List.sum_eq_zero_iff_forall_eq_nat.2 fun x hx=>?_;obtain⟨i,hi,rfl⟩:=List.mem_map.1 hx;have:=List.mem_range.1 hi;rw[if_neg (by omega)]
   rw[z];simp[h]
  ·simp[h];exact ih
def gF {α:Type} (at_:α→Int) (G:α→Nat) (ks:List α) (i:Nat):Nat:=match ks.find? (fun k=>decide (at_ k=(i:Int))) with
 |some k=>G k
 |none=>0
theorem pD {α:Type} (at_:α→Int) (G:α→Nat) (k:α) (ks:List α) (i:Nat):gF at_ G (k::ks) i≤(if at_ k=(i:Int) then G k else 0)+gF at_ G ks i:=by
 by_cases c:at_ k=(i:Int)
 ·have:gF at_ G (k::ks) i=G k:=by unfold gF;rw[List.find?_cons,decide_eq_true c]
  rw[this,if_pos c];omega
 ·have:gF at_ G (k::ks) i=gF at_ G ks i:=by unfold gF;rw[List.find?_cons,decide_eq_false c]
  rw[this,if_neg c];omega
theorem Sm {α:Type} (at_:α→Int) (G:α→Nat) (m:Nat):∀ ks:List α,((List.range m).map (gF at_ G ks)).sum≤(ks.map G).sum
 |[]=>by
  refine Nat.le_of_eq (List.sum_eq_zero_iff_forall_eq_nat.2 fun x hx=>?_);obtain⟨i,_,rfl⟩:=List.mem_map.1 hx;rfl
 |k::ks=>by
  have ih:=Sm at_ G m ks;have h1:=eE at_ G k m;have key:∀ l:List Nat,(l.map (gF at_ G (k::ks))).sum≤(l.map fun i:Nat=>if at_ k=(i:Int) then G k else 0).sum+(l.map (gF at_ G ks)).sum:=by
   intro l;induction l with
   |nil=>simp
   |cons i l ihl=>
    have:=pD at_ G k ks i;simp only[List.map_cons,List.sum_cons];omega
  have:=key (List.range m);rw[List.map_cons,List.sum_cons];omega
theorem NU {α:Type} (L:Nat→List α) (g:Nat→Nat) (h:∀ i,(L i).length≤g i):∀ l:List Nat,(l.flatMap L).length≤(l.map g).sum
 |[]=>by simp
 |i::l=>by
  have:=NU L g h l;have:=h i;rw[List.flatMap_cons,List.length_append,List.map_cons,List.sum_cons];omega
theorem bm (k:Int):HV 0 k=0:=by
 show IntKind.u8.wrap ((BitVec.ofInt 8 0 &&& BitVec.ofInt 8 k).toNat:Nat)=0;simp;rfl
theorem SL (at':CV) (i:Nat) (w:Int) (b:WE):PD at' i w dW b=[]:=by
 unfold PD;rw[if_neg];unfold Lj;rw[bm,J5 ⟨by decide,by decide⟩,J5 ⟨by decide,by decide⟩];simp
theorem uK (at':CV) (i:Nat) (w:Int) (a b:WE):(PD at' i w a b).length≤1:=by
 unfold PD;split<;>simp
theorem Zz (ws:List WE):(ws.map fun _=>1).sum=ws.length:=by induction ws<;>simp_all [Nat.add_comm]
theorem n5 (at':CV) (o:List Int) (ps qs:List WE) (n:Nat):((List.range n).flatMap fun i:Nat=>PD at' i (o.getD i 0) (GA ps i) (GA qs i)).length≤ps.length:=by
 have h1:=NU (fun i:Nat=>PD at' i (o.getD i 0) (GA ps i) (GA qs i)) (gF (fun k:WE=>k.at_) (fun _=>1) ps) (fun i=>by
  unfold gF;cases e:ps.find? (fun k=>decide (k.at_=(i:Int))) with
  |none=>
   have:GA ps i=dW:=by unfold GA;rw[e];rfl
   simp only[this,SL];simp
  |some k=>exact uK _ _ _ _ _) (List.range n)
 have h2:=Sm (fun k:WE=>k.at_) (fun _=>1) n ps;rw[Zz] at h2;exact Nat.le_trans h1 h2
theorem dR:∀ ks:List KE,(ks.map fun k=>Fu k.e).sum=jG ks
 |[]=>by simp
 |k::ks=>by rw[List.map_cons,List.sum_cons,dR ks,Yb]
theorem pr {M:CV→T→E→E→T × List Cf} (hM:∀ at' o p q,(M at' o p q).2.length≤Fu p) (h0:∀ at' o q,(M at' o E0 q).2=[]) (at':Nat→CV) (o:Nat→T) (ps:List KE) (q:Nat→E) (n:Nat):((List.range n).flatMap fun i:Nat=>(M (at' i) (o i) (F3 ps i) (q i)).2).length≤jG ps:=by
 have h1:=NU (fun i:Nat=>(M (at' i) (o i) (F3 ps i) (q i)).2) (gF (fun k:KE=>k.at_) (fun k=>Fu k.e) ps) (fun i=>by
  unfold gF;cases e:ps.find? (fun k=>decide (k.at_=(i:Int))) with
  |none=>
   have:F3 ps i=E0:=by unfold F3;rw[e];rfl
   simp only[this,h0];simp
  |some k=>
   have:F3 ps i=k.e:=by unfold F3;rw[e];rfl
   simp only[this];exact hM _ _ _ _) (List.range n)
 have h2:=Sm (fun k:KE=>k.at_) (fun k=>Fu k.e) n ps;rw[dR] at h2;exact Nat.le_trans h1 h2
def cU:U→Nat
 |.keep=>0
 |.del _=>1
 |.ins _=>1
 |.desc e=>Fu e
def TC (us:List U):Nat:=(us.map cU).sum
theorem OS (u:U) (us:List U):TC (u::us)=cU u+TC us:=by simp[TC]
theorem W7:∀ us:List U,TC us=(G7 us).length+TC (EG us)
 |[]=>rfl
 |.ins t::us=>by rw[OS,G7,EG,W7 us,List.length_cons,cU];omega
 |.keep::us=>by simp[G7,EG]
 |.del t::us=>by simp[G7,EG]
 |.desc e::us=>by simp[G7,EG]
theorem dc (at':CV) (kind:Int) (n:Nat) (a b:List T):(F9 at' kind n a b).2.length≤a.length:=by
 unfold F9;split
 ·simp
 ·rename_i h;have:0<a.length:=List.length_pos_iff.2 fun e=>h (.inl e);split<;>simp<;>omega
theorem lZ {M:CV→T→E→E→T × List Cf} (hM:∀ at' o p q,(M at' o p q).2.length≤Fu p) (h0:∀ at' o q,(M at' o E0 q).2=[]) (at':CV) (k:T) (u v:U):(CG M at' k u v).2.length≤cU u:=by
 cases u<;>cases v<;>simp[CG,cU,eU,h0,hM,oC]
theorem Ace (us:List U):cU (ZM us)+TC us.tail≤TC us:=by
 cases us with
 |nil=>simp[ZM,cU,TC]
 |cons u us=>rw[OS];simp[ZM]
theorem ou {M:CV→T→E→E→T × List Cf} (hM:∀ at' o p q,(M at' o p q).2.length≤Fu p) (h0:∀ at' o q,(M at' o E0 q).2=[]) (at':CV) (kind:Int):∀ (ks:List T) (us vs:List U) (n:Nat),(Mt M at' kind ks us vs n).2.length≤TC us
 |[],us,vs,n=>by
  have:=dc at' kind n (G7 us) (G7 vs);have:=W7 us;rw[Mt];omega
 |k::ks,us,vs,n=>by
  have h1:=dc at' kind n (G7 us) (G7 vs);have h2:=W7 us;have h3:=lZ hM h0 (at'++[(0,(n:Int))]) k (ZM (EG us)) (ZM (EG vs));have h4:=ou hM h0 at' kind ks (EG us).tail (EG vs).tail (n+1);have h5:=Ace (EG us);simp only[Mt,List.length_append];omega
theorem ri (a b:List U):TC (a++b)=TC a+TC b:=by simp[TC]
theorem fy:∀ os:List OP,TC (Ku os)≤oP os
 |[]=>by simp[Ku,TC]
 |o::os=>by
  have ih:=fy os;have rep:∀ n,TC (List.replicate n U.keep)=0:=fun n=>by simp[TC,cU]
  have m1:∀ l:List T,TC (l.map .del)=l.length:=fun l=>by
   induction l with
   |nil=>simp[TC]
   |cons x l ih=>rw[List.map_cons,OS,ih,cU,List.length_cons];omega
  have m2:∀ l:List T,TC (l.map .ins)=l.length:=fun l=>by
   induction l with
   |nil=>simp[TC]
   |cons x l ih=>rw[List.map_cons,OS,ih,cU,List.length_cons];omega
  rw[C6,ri,Lq];unfold NR;split
  ·rw[rep];omega
  ·split
   ·rename_i h;rw[m1,if_pos (.inl h)];omega
   ·split
    ·rename_i h;rw[m2,if_pos (.inr h)];omega
    ·rename_i h1 h2;have:TC [.desc o.e]=Fu o.e:=by simp[TC,cU]
     rw[this,if_neg (by omega)];omega
theorem Ac0:∀ (f:Nat) (at':CV) (o:T) (p q:E),(mg f at' o p q).2.length≤Fu p:=by
 have base:∀ (at':CV) (o:T) (p q:E),(ab at' o p q).2.length≤Fu p:=fun at' o p q=>by
  have:=oC p;unfold ab;split
  ·simp
  ·split
   ·simp
   ·split
    ·simp
    ·simpa using this
 intro f;induction f with
 |zero=>exact base
 |succ f ih=>
  intro at' o p q;have h0:∀ at' o q,(mg f at' o E0 q).2=[]:=fun at' o q=>by rw[qM rfl]
  obtain⟨k,oo,nn,ws,ks,l,os⟩:=p;rw[mg];split
  ·rw[SD];have h1:=n5 at' o.words ws q.words (DG (DG o.words.length ws) q.words);have h2:=pr ih h0 (fun i=>at'++[(0,(i:Int))]) (fun i=>o.kids.getD i T0) ks (fun i=>F3 q.kids i) (CR (CR o.kids.length ks) q.kids);unfold gM;simp only[E.words_mk,E.kids_mk,List.length_append];omega
  ·split
   ·rw[SD];have h1:=ou ih h0 at' o.kind o.kids (Ku os) (Ku q.ops) 0;have h2:=fy os;simp only[E.ops_mk];omega
   ·exact base _ _ _ _
theorem E9:∀ a b:List T,B4 (a++b)=B4 a+B4 b
 |[],b=>by simp
 |x::a,b=>by rw[List.cons_append,Cz,Cz,E9 a b];omega
theorem DI:∀ l:List T,(l.length:Int)≤B4 l:=fun l=>NS fun t _=>GW t
theorem QC (l:List T) {p i:Nat} (h:p≤i):B4 (l.drop i)≤B4 (l.drop p):=by
 have e:l.drop p=(l.drop p).take (i-p)++l.drop i:=by
  rw[show l.drop i=(l.drop p).drop (i-p) from by rw[List.drop_drop];congr 1;omega,List.take_append_drop]
 rw[e,E9];have:=DI ((l.drop p).take (i-p));omega
theorem U7 (l:List T) (i:Nat):(i<l.length∧B4 (l.drop i)=Bc (l.getD i T0)+B4 (l.drop (i+1)))∨(l.length≤i∧B4 (l.drop i)=0∧Bc (l.getD i T0)=1∧B4 (l.drop (i+1))=0):=by
 by_cases h:i<l.length
 ·refine .inl ⟨h,?_⟩;rw[(List.getElem_cons_drop h).symm,Cz,List.getD_eq_getElem?_getD,List.getElem?_eq_getElem h];simp
 ·refine .inr ⟨by omega,?_,?_,?_⟩
  ·rw[List.drop_eq_nil_of_le (by omega)];simp
  ·rw[List.getD_eq_getElem?_getD,List.getElem?_eq_none (by omega)];simp
  ·rw[List.drop_eq_nil_of_le (by omega)];simp
theorem vG {R:E→T→T→Prop} (hR:∀ e x y,R e x y→(Fu e:Int)≤1+2*(Bc x-1+(Bc y-1))) {a b:List T} {p:Nat} {ks:List KE} (h:Uf R a b p ks):(jG ks:Int)≤2*(B4 (a.drop p)+B4 (b.drop p)):=by
 induction h with
 |nil p h=>
  have:=DI (a.drop p);have:=DI (b.drop p);simp;omega
 |cons p i e ks hp h hi he hr _ ih=>
  have h1:=hR _ _ _ hr;have h2:=QC a hp;have h3:=QC b hp;have h4:=DI (a.drop (i+1));have h5:=DI (b.drop (i+1));rw[Yb];show((Fu e+jG ks:Nat):Int)≤_;rcases U7 a i with ⟨a1,a2⟩ | ⟨a1,a2,a3,a4⟩<;>rcases U7 b i with ⟨b1,b2⟩ | ⟨b1,b2,b3,b4⟩<;>omega
theorem uY {R:E→T→T→Prop} (hR:∀ e x y,R e x y→(Fu e:Int)≤1+2*(Bc x-1+(Bc y-1))) {os:List OP} {a b:List T} (h:LdO R os a b):(oP os:Int)≤2*(B4 a+B4 b):=by
 induction h with
 |nil=>simp
 |keep l m hne hl _ ih=>
  have h1:=DI l;have h2:=DI m;rw[Lq,E9,E9];simp;omega
 |del l m hne hl _ ih=>
  have h2:=DI m;have h3:l.length=m.length:=by simpa using congrArg List.length hl
  rw[Lq,E9];simp;omega
 |ins l m hne hl _ ih=>
  have h2:=DI m;have h3:l.length=m.length:=by simpa using congrArg List.length hl
  rw[Lq,E9];simp;omega
 |desc e x y r _ ih=>
  have h1:=hR _ _ _ r;rw[Lq,Cz,Cz];simp;omega
theorem Aa0:∀ (f:Nat) (e:E) (a b:T),Ld f e a b→(Fu e:Int)≤1+2*(Bc a-1+(Bc b-1)):=by
 have base:∀ (e:E) (a b:T),lx e a b→(Fu e:Int)≤1+2*(Bc a-1+(Bc b-1)):=fun e a b h=>by
  have h1:=GW a;have h2:=GW b;rcases h with ⟨rfl,_⟩ | ⟨o,n,rfl,_⟩
  ·rw[SD];simp;omega
  ·rw[SD];simp;omega
 intro f;induction f with
 |zero=>exact fun e a b h=>base e a b h
 |succ f ih=>
  intro e a b h;rcases h with h | ⟨ws,ks,rfl,h1,h2,h3,h4⟩ | ⟨os,rfl,h1,h2,hv,h3⟩
  ·exact base e a b h
  ·have w:=Wf h3;have k:=vG ih h4;obtain⟨ka,wa,la⟩:=a;obtain⟨kb,wb,lb⟩:=b;simp only[List.drop_zero,T.kids_mk,T.words_mk] at k w;have n1:=DI la;have n2:=DI lb;rw[SD,Fb,Fb];simp;omega
  ·have k:=uY ih h3;obtain⟨ka,wa,la⟩:=a;obtain⟨kb,wb,lb⟩:=b;simp only[T.kids_mk] at k;rw[SD,Fb,Fb];simp;omega
theorem du {o x y:T} (ho:AK o) (hx:AK x) (po:Bc o≤1000) (px:Bc x≤1000) {da db:Nat} (ra:Cr da o=true) (rb:Cr db x=true) (most:Int):(Kl most o x y).2.length≤100000:=by
 have h1:=Ac0 1000 [] (Ag o) (VJ most o x) (VJ most o y);have h2:=Aa0 1000 _ _ _ (s8 ho hx po px ra rb (most:=most));have h3:=PH po;have h4:=PH px;unfold Kl;omega
theorem ZT {o x y:T} (ho:AK o) (hx:AK x) (hy:AK y) (po:Bc o≤1000) (px:Bc x≤1000) (py:Bc y≤1000) {d1 d2 d3:Nat} (r1:Cr d1 o=true) (r2:Cr d2 x=true) (r3:Cr d3 y=true) {most:Int} (hm:BN most) :
  G.Spec Tryz.prog 19 [tX o,tX x,tX y,iv most] (.tup [tX (Kl most o x y).1,vZ (Kl most o x y).2]):=by
 have N:=C8 o ho;have D1:=QE ho hx po px hm;have D2:=QE ho hy po py hm;have L:=du (y:=y) ho hx po px r1 r2 most;have M:=Y1 (WZ (most:=most) ho hx po px r1 r2) (WZ (most:=most) ho hy po py r1 r3) (by omega) (by unfold Kl at L;omega);rw[show mg 1000 [] (Ag o) (VJ most o x) (VJ most o y)=Kl most o x y from rfl] at M;generalize Kl most o x y=R at *;refine Al UN (by simp) fun w0 I0=>?_;unfold M6;simp;refine Af N (by simp) ?_;simp;refine Af D1 (by simp) ?_;simp;refine Af D2 (by simp) ?_;simp;refine Af M (by simp) ?_;simp[Aa];exact CP ⟨Ad (by simp),Am,trivial⟩
end Go.Proofs.YtndnlknocdangaaGreat
namespace Go.Proofs.YtndnlknocdangaaGreat
set_option maxRecDepth 20000
open Go Go.G Go.Proofs
@[simp] theorem Aey:Dj Tryz.prog 51=some true:=by kernel_rfl
@[simp] theorem AdY:Dj Tryz.prog 65=some true:=by kernel_rfl
@[simp] theorem lr:Aj Tryz.prog 51 0=some 0:=by kernel_rfl
@[simp] theorem kr:Aj Tryz.prog 51 1=some 1:=by kernel_rfl
@[simp] theorem lW:Aj Tryz.prog 51 2=some 4:=by kernel_rfl
@[simp] theorem nZ:Aj Tryz.prog 51 3=some 7:=by kernel_rfl
@[simp] theorem Ahj (x0 y0:Int) (x1 y1:Int):Kx Tryz.prog 100 65 (.agg [A.v (.int .i64 x0),A.v (.int .i64 x1)]) (.agg [A.v (.int .i64 y0),A.v (.int .i64 y1)])=some (((x0 == y0)&&((x1 == y1)&&(true)))):=by kernel_rfl
@[simp] theorem Agp:Tryz.prog.eqGuardType Tryz.prog.depth 65=false:=by kernel_rfl
def Kb:CC:=sR [aL 2 25 [0]] [0,2] (sR [mO 3 0,oO 4 (.buildSlice 22 1 #[(0,(xT 3))]),oO 5 (.build 25 #[(0,(nI 1)),(1,(xT 4))]),sT 25 2 5] [2] (.ret))
theorem Qk:BU Tryz.prog 33 6 [(.cell 2 25)] Kb:=AH Tryz.func33
def IC:CC:=sR [bX 3 25 0 [0],bX 4 25 1 [1],bX 5 25 2 [2],aB 6 false] [3,4,5] (sR [lO 7 25 3,cA 8 39 7 25,mO 9 8,lG 10 25 4 9 true,oG 11 (cL 39 #[(xT 10)] #[25]) 9 true,pF 12 9 11,mO 13 12,lG 14 25 5 13 true,oG 15 (cL 39 #[(xT 14)] #[25]) 13 true,pF 16 13 15,aO 6 16] [6] (.ret))
theorem Nw:BU Tryz.prog 18 17 [(.tmp 6)] IC:=AH Tryz.func18
def Ix:CC:=sR [aB 0 false] [] (sR [oO 4 (cL 33 #[(.const (.int .u64 1))] #[61]),oO 5 (cL 33 #[(.const (.int .u64 2))] #[61]),oO 6 (cL 33 #[(.const (.int .u64 3))] #[61]),oO 7 (cL 19 #[(xT 4),(xT 5),(xT 6),(nI 9)] #[25,25,25,3]),mO 3 7,xO 8 3 0,xO 9 3 1,aL 1 25 [0],sT 25 1 8,aO 2 9] [1,2] (sR [lS 10 25 1 0,⟨some 11,(cL 33 #[(.const (.int .u64 1))] #[61]),none,[],1,[0],false⟩,cB 12 16 10 11 25 25,mO 13 12,mG 14 2 13 true,oG 15 (bL 14 35) 13 true,oG 16 (.binOp .eql 3 (xT 15) (nI 1) 3) 13 true,pF 17 13 16,mO 18 17,mG 19 2 18 true,oG 20 (.indexAddr 35 (xT 19) (nI 0)) 18 true,fG 21 51 20 0 18 true,lG 22 49 21 18 true,oG 23 (bL 22 49) 18 true,oG 24 (.binOp .eql 3 (xT 23) (nI 1) 3) 18 true,pF 25 18 24,mO 26 25,mG 27 2 26 true,oG 28 (.indexAddr 35 (xT 27) (nI 0)) 26 true,fG 29 51 28 0 26 true,lG 30 49 29 26 true,oG 31 (.indexAddr 49 (xT 30) (nI 0)) 26 true,lG 32 65 31 26 true,oG 33 (.build 65 #[(0,(nI 1))]) 26 true,oG 34 (bO .eql 65 32 33 65) 26 true,pF 35 26 34,mO 36 35,mG 37 2 36 true,oG 38 (.indexAddr 35 (xT 37) (nI 0)) 36 true,fG 39 51 38 2 36 true,⟨some 40,(lD 25 39),(some (36,true)),[],30,[],true⟩,⟨some 41,(cL 33 #[(.const (.int .u64 2))] #[61]),(some (36,true)),[],31,[30],false⟩,oG 42 (cL 16 #[(xT 40),(xT 41)] #[25,25]) 36 true,pF 43 36 42,mO 44 43,mG 45 2 44 true,oG 46 (.indexAddr 35 (xT 45) (nI 0)) 44 true,fG 47 51 46 3 44 true,⟨some 48,(lD 25 47),(some (44,true)),[],38,[],true⟩,⟨some 49,(cL 33 #[(.const (.int .u64 3))] #[61]),(some (44,true)),[],39,[38],false⟩,oG 50 (cL 16 #[(xT 48),(xT 49)] #[25,25]) 44 true,pF 51 44 50,mO 52 51,mG 53 2 52 true,oG 54 (.indexAddr 35 (xT 53) (nI 0)) 52 true,fG 55 51 54 1 52 true,⟨some 56,(lD 25 55),(some (52,true)),[],46,[],true⟩,⟨some 57,(cL 33 #[(.const (.int .u64 1))] #[61]),(some (52,true)),[],47,[46],false⟩,oG 58 (cL 16 #[(xT 56),(xT 57)] #[25,25]) 52 true,pF 59 52 58,aO 0 59] [0] (.ret)))
theorem NN:BU Tryz.prog 13 60 [(.tmp 0)] Ix:=AH Tryz.func13
end Go.Proofs.YtndnlknocdangaaGreat
namespace Go.Proofs.YtndnlknocdangaaGreat
open Go Go.G Go.Proofs Go.PL
def qt (c:Cf):Prop:=AK c.base∧AK c.ours∧AK c.theirs
variable {n0:Nat} {w0:World} {I0:Nat→Prop} {Q:Exit→Sta→Prop}
def UW (u:U):Prop:=match u with
 |.ins t=>AK t
 |.desc e=>Pn e
 |_=>True
theorem sB {os:List OP} (h:∀ o,o ∈ os→ns o):∀ u,u ∈ Ku os→UW u:=by
 intro u hu;obtain⟨o,ho,hu⟩:=List.mem_flatMap.1 hu;have:=h o ho;unfold NR at hu;split at hu
 ·rw[List.eq_of_mem_replicate hu];trivial
 ·split at hu
  ·obtain⟨t,_,rfl⟩:=List.mem_map.1 hu;trivial
  ·split at hu
   ·obtain⟨t,ht,rfl⟩:=List.mem_map.1 hu;exact this.1 t ht
   ·rw[List.mem_singleton.1 hu];exact this.2
theorem NF:∀ {us:List U},(∀ u,u ∈ us→UW u)→(∀ t,t ∈ G7 us→AK t)∧∀ u,u ∈ EG us→UW u
 |[],_=>⟨fun t ht=>by simp[G7] at ht,fun u hu=>by simp[EG] at hu⟩
 |.ins t::us,h=>by
  obtain⟨h1,h2⟩:=NF fun u hu=>h u (List.mem_cons_of_mem _ hu);refine⟨fun x hx=>?_,h2⟩;rcases List.mem_cons.1 hx with rfl | hx
  ·exact h (.ins x) (by simp)
  ·exact h1 x hx
 |.keep::us,h=>⟨fun t ht=>by simp[G7] at ht,h⟩
 |.del t::us,h=>⟨fun t ht=>by simp[G7] at ht,h⟩
 |.desc e::us,h=>⟨fun t ht=>by simp[G7] at ht,h⟩
theorem kM {at':CV} {kind:Int} (hk:BN kind) {n:Nat} {a b:List T} (ha:∀ t,t ∈ a→AK t) (hb:∀ t,t ∈ b→AK t) (la:a.length≤1000000) (lb:b.length≤1000000):∀ c,c ∈ (F9 at' kind n a b).2→qt c:=by
 intro c hc;unfold F9 at hc;have w:∀ l:List T,(∀ t,t ∈ l→AK t)→l.length≤1000000→AK (Ag (.mk kind [] l)):=fun l h1 h2=>CQ _ (wfT_iff.2 ⟨hk,by simp,by simp,by show l.length*56≤_;omega,h1⟩);split at hc
 ·simp at hc
 ·split at hc
  ·simp at hc
  ·rw[List.mem_singleton.1 hc];exact⟨w [] (fun t ht=>by simp at ht) (by simp),w a ha la,w b hb lb⟩
def DnW (e:E) (x:T):Prop:=AK (JC e x)
theorem pC {M:CV→T→E→E→T × List Cf} {R:E→T→T→Prop} {W:T→Prop} (hW:∀ k,W k→AK k) (hM:∀ at' k p q x y,W k→R p k x→R q k y→∀ c,c ∈ (M at' k p q).2→qt c) (h0:∀ k,W k→R E0 k k) (hD:∀ e k x,W k→R e k x→DnW e k) {at':CV} {k:T} (wk:W k) {u v:U} (hu:∃ x,R (eU u) k x) (hv:∃ x,R (eU v) k x):∀ c,c ∈ (CG M at' k u v).2→qt c:=by
 obtain⟨x,hx⟩:=hu;obtain⟨y,hy⟩:=hv;intro c hc;cases u<;>cases v<;>simp only[CG] at hc<;>first | exact hM _ _ _ _ _ _ wk hx hy c hc | (rw[List.mem_singleton.1 hc];exact⟨CQ k (hW k wk),Yr,hD _ _ _ wk hy⟩) | (rw[List.mem_singleton.1 hc];exact⟨CQ k (hW k wk),hD _ _ _ wk hx,Yr⟩) | (simp at hc)
theorem Xb {R:E→T→T→Prop} {us:List U} {k:T} {ks ys:List T} (h:LdU R us (k::ks) ys):∃ y2,LdU R (EG us).tail ks y2∧(ZM (EG us) = .keep∨(∃ t,ZM (EG us) = .del t)∨∃ e x,ZM (EG us) = .desc e∧R e k x)∧y2.length≤ys.length∧(G7 us).length≤ys.length:=by
 obtain⟨y1,y2,rfl,h1,h2,h3⟩:=V2 h;have hl:(G7 us).length=y1.length:=by simpa using congrArg List.length h1
 cases e:EG us with
 |nil=>rw[e] at h2;cases h2
 |cons u vs=>
  rw[e] at h2;cases h2 with
  |keep x y hh g=>exact⟨_,g,.inl rfl,by simp;omega,by simp;omega⟩
  |del t x hh g=>exact⟨_,g,.inr (.inl ⟨t,rfl⟩),by simp,by simp;omega⟩
  |ins t y hh g=>exact absurd e (h3 _ _)
  |desc ee x y hh g=>exact⟨_,g,.inr (.inr ⟨ee,y,rfl,hh⟩),by simp;omega,by simp;omega⟩
theorem tx {M:CV→T→E→E→T × List Cf} {R:E→T→T→Prop} {W:T→Prop} (hW:∀ k,W k→AK k) (hM:∀ at' k p q x y,W k→R p k x→R q k y→∀ c,c ∈ (M at' k p q).2→qt c) (h0:∀ k,W k→R E0 k k) (hD:∀ e k x,W k→R e k x→DnW e k) {at':CV} {kind:Int} (hk:BN kind):∀ (ks:List T) (us vs:List U) (ys zs:List T) (n:Nat),(∀ k,k ∈ ks→W k)→LdU R us ks ys→LdU R vs ks zs→(∀ u,u ∈ us→UW u)→(∀ u,u ∈ vs→UW u)→ys.length≤1000000→zs.length≤1000000→∀ c,c ∈ (Mt M at' kind ks us vs n).2→qt c
 |[],us,vs,ys,zs,n,_,hu,hv,wu,wv,ly,lz=>by
  obtain⟨y1,y2,rfl,h1,_,_⟩:=V2 hu;obtain⟨z1,z2,rfl,g1,_,_⟩:=V2 hv;have hl:(G7 us).length=y1.length:=by simpa using congrArg List.length h1
  have gl:(G7 vs).length=z1.length:=by simpa using congrArg List.length g1
  rw[List.length_append] at ly lz;rw[Mt];exact kM hk (NF wu).1 (NF wv).1 (by omega) (by omega)
 |k::ks,us,vs,ys,zs,n,wk,hu,hv,wu,wv,ly,lz=>by
  obtain⟨y2,a1,a2,a3,a4⟩:=Xb hu;obtain⟨z2,b1,b2,b3,b4⟩:=Xb hv;have ih:=tx hW hM h0 hD (at':=at') hk ks (EG us).tail (EG vs).tail y2 z2 (n+1) (fun x hx=>wk x (List.mem_cons_of_mem _ hx)) a1 b1 (fun u hu=>(NF wu).2 u (List.mem_of_mem_tail hu)) (fun u hu=>(NF wv).2 u (List.mem_of_mem_tail hu)) (by omega) (by omega);have wkk:=wk k (by simp);have ex:∀ u:U,(u = .keep∨(∃ t,u = .del t)∨∃ e x,u = .desc e∧R e k x)→∃ x,R (eU u) k x:=fun u h=>by
   rcases h with rfl | ⟨t,rfl⟩ | ⟨e,x,rfl,h⟩
   ·exact⟨k,h0 k wkk⟩
   ·exact⟨k,h0 k wkk⟩
   ·exact⟨x,h⟩
  have hU:=pC hW hM h0 hD (at':=at'++[(0,(n:Int))]) wkk (ex _ a2) (ex _ b2);intro c hc;simp only[Mt,List.mem_append] at hc;rcases hc with hc | hc | hc
  ·exact kM hk (NF wu).1 (NF wv).1 (by omega) (by omega) c hc
  ·exact hU c hc
  ·exact ih c hc
theorem dp {R R':E→T→T→Prop} {us:List U} {a b:List T} (h:LdU R us a b):(∀ e,U.desc e ∈ us→Pn e)→(∀ e x y,x ∈ a→y ∈ b→Pn e→R e x y→R' e x y)→LdU R' us a b:=by
 induction h with
 |nil=>exact fun _ _=>.nil
 |keep x y h g ih=>exact fun hw hR=>.keep x y h (ih (fun e he=>hw e (List.mem_cons_of_mem _ he)) fun e x y hx hy=>hR e x y (List.mem_cons_of_mem _ hx) (List.mem_cons_of_mem _ hy))
 |del t x h g ih=>exact fun hw hR=>.del t x h (ih (fun e he=>hw e (List.mem_cons_of_mem _ he)) fun e x y hx hy=>hR e x y (List.mem_cons_of_mem _ hx) hy)
 |ins t y h g ih=>exact fun hw hR=>.ins t y h (ih (fun e he=>hw e (List.mem_cons_of_mem _ he)) fun e x y hx hy=>hR e x y hx (List.mem_cons_of_mem _ hy))
 |desc e x y h g ih=>exact fun hw hR=>.desc e x y (hR e x y (by simp) (by simp) (hw e (by simp)) h) (ih (fun e he=>hw e (List.mem_cons_of_mem _ he)) fun e x y hx hy=>hR e x y (List.mem_cons_of_mem _ hx) (List.mem_cons_of_mem _ hy))
theorem lQ {R:E→T→T→Prop} {os:List OP} {a b:List T} (h:LdO R os a b) (hw:∀ o,o ∈ os→Pn o.e):∀ e,U.desc e ∈ Ku os→Pn e:=by
 intro e he;obtain⟨o,ho,he⟩:=List.mem_flatMap.1 he;unfold NR at he;split at he
 ·exact absurd (List.eq_of_mem_replicate he) (by simp)
 ·split at he
  ·obtain⟨t,_,h⟩:=List.mem_map.1 he;cases h
  ·split at he
   ·obtain⟨t,_,h⟩:=List.mem_map.1 he;cases h
   ·have:=List.mem_singleton.1 he;cases this;exact hw o ho
theorem Ahn:∀ (f:Nat) (at':CV) (o:T) (p q:E) (x y:T),gn f p o x→gn f q o y→∀ c,c ∈ (mg f at' o p q).2→qt c:=by
 have base:∀ (f:Nat) (at':CV) (o:T) (p q:E) (x y:T),gn f p o x→gn f q o y→∀ c,c ∈ (ab at' o p q).2→qt c:=fun f at' o p q x y hp hq c hc=>by
  unfold ab at hc;split at hc
  ·simp at hc
  ·split at hc
   ·simp at hc
   ·split at hc
    ·simp at hc
    ·rw[List.mem_singleton.1 hc,La hp.1,La hq.1];exact⟨CQ o hp.2.2.1,CQ x hp.2.2.2.1,CQ y hq.2.2.2.1⟩
 intro f;induction f with
 |zero=>exact base 0
 |succ f ih=>
  intro at' o p q x y hp hq c hc;rw[mg] at hc;split at hc
  ·rename_i k2;obtain⟨hp1,hp2,hp3,hp4,hp5,hp6⟩:=hp;obtain⟨hq1,hq2,hq3,hq4,hq5,hq6⟩:=hq;rcases hp1 with h | ⟨ws,ks,rfl,h1,h2,h3,h4⟩ | ⟨os,rfl,h1,h2,hv,h3⟩
   ·rcases h with ⟨rfl,_⟩ | ⟨_,_,rfl,_⟩<;>exact absurd k2.1 (by simp)
   rotate_left
   ·exact absurd k2.1 (by simp)
   rcases hq1 with g | ⟨ws',ks',rfl,g1,g2,g3,g4⟩ | ⟨os',rfl,g1,g2,gv,g3⟩
   ·rcases g with ⟨rfl,_⟩ | ⟨_,_,rfl,_⟩<;>exact absurd k2.2 (by simp)
   rotate_left
   ·exact absurd k2.2 (by simp)
   have P:=wfE_iff.1 hp2;have Q:=wfE_iff.1 hq2;unfold gM at hc;rcases List.mem_append.1 hc with hc | hc
   ·obtain⟨i,_,hc⟩:=List.mem_flatMap.1 hc;unfold PD at hc;split at hc
    ·rw[List.mem_singleton.1 hc];exact⟨CQ _ (Iv (Ej (wfT_iff.1 hp3).w i)),CQ _ (Iv (Fk _ _ _)),CQ _ (Iv (Fk _ _ _))⟩
    ·simp at hc
   ·obtain⟨i,_,hc⟩:=List.mem_flatMap.1 hc;have a1:Ld f (F3 ks i) (o.kids.getD i T0) (x.kids.getD i T0):=WJ (fun x y h=>Ol (.inl ⟨rfl,h⟩)) h4 i (Nat.zero_le _);have a2:Ld f (F3 ks' i) (o.kids.getD i T0) (y.kids.getD i T0):=WJ (fun x y h=>Ol (.inl ⟨rfl,h⟩)) g4 i (Nat.zero_le _);exact ih _ _ _ _ _ _ ⟨a1,dw D8 (fun x h=>(P.ks x h).2) i,Hb hp3 i,Hb hp4 i,Qz hp5 i,Qz hp6 i⟩ ⟨a2,dw D8 (fun x h=>(Q.ks x h).2) i,Hb hp3 i,Hb hq4 i,Qz hp5 i,Qz hq6 i⟩ c hc
  ·split at hc
   ·rename_i k2 k3;obtain⟨hp1,hp2,hp3,hp4,hp5,hp6⟩:=hp;obtain⟨hq1,hq2,hq3,hq4,hq5,hq6⟩:=hq;rcases hp1 with h | ⟨ws,ks,rfl,h1,h2,h3,h4⟩ | ⟨os,rfl,h1,h2,hv,h3⟩
    ·rcases h with ⟨rfl,_⟩ | ⟨_,_,rfl,_⟩<;>exact absurd k3.1 (by simp)
    ·exact absurd k3.1 (by simp)
    rcases hq1 with g | ⟨ws',ks',rfl,g1,g2,g3,g4⟩ | ⟨os',rfl,g1,g2,gv,g3⟩
    ·rcases g with ⟨rfl,_⟩ | ⟨_,_,rfl,_⟩<;>exact absurd k3.2 (by simp)
    ·exact absurd k3.2 (by simp)
    have P:=wfE_iff.1 hp2;have Q:=wfE_iff.1 hq2;have O:=wfT_iff.1 hp3;have X:=wfT_iff.1 hp4;have Y:=wfT_iff.1 hq4;have s4:=hp6.2.1;have s6:=hq6.2.1;have p1:=lQ h3 (fun o ho=>(P.os o ho).e);have q1:=lQ g3 (fun o ho=>(Q.os o ho).e);have u1:LdU (gn f) (Ku os) o.kids x.kids:=dp (V8 h3) p1 fun e a b ha hb he r=>⟨r,he,O.ks a ha,X.ks b hb,hp5.2.2 a ha,hp6.2.2 b hb⟩;have u2:LdU (gn f) (Ku os') o.kids y.kids:=dp (V8 g3) q1 fun e a b ha hb he r=>⟨r,he,O.ks a ha,Y.ks b hb,hp5.2.2 a ha,hq6.2.2 b hb⟩;exact tx (W:=fun k=>AK k∧Sq f k) (fun k h=>h.1) (fun at' k p q x y _ h1 h2=>ih at' k p q x y h1 h2) (fun k h=>bH h.1 h.2) (fun e k x _ h=>by
     unfold DnW;rw[La h.1];exact CQ x h.2.2.2.1) O.k o.kids (Ku os) (Ku os') x.kids y.kids 0 (fun k hk=>⟨O.ks k hk,hp5.2.2 k hk⟩) u1 u2 (sB fun o ho=>⟨(P.os o ho).l,(P.os o ho).e⟩) (sB fun o ho=>⟨(Q.os o ho).l,(Q.os o ho).e⟩) (by omega) (by omega) c hc
   ·exact base (f+1) at' o p q x y hp hq c hc
theorem si:∀ (f:Nat) (at':CV) (o:T) (p q:E),∀ c,c ∈ (mg f at' o p q).2→c.path.length≤at'.length+f+1:=by
 have base:∀ (at':CV) (o:T) (p q:E),∀ c,c ∈ (ab at' o p q).2→c.path.length≤at'.length:=fun at' o p q c hc=>by
  unfold ab at hc;split at hc
  ·simp at hc
  ·split at hc
   ·simp at hc
   ·split at hc
    ·simp at hc
    ·rw[List.mem_singleton.1 hc];exact Cj _
 have gap:∀ (at':CV) (kind:Int) (n:Nat) (a b:List T),∀ c,c ∈ (F9 at' kind n a b).2→c.path.length≤at'.length+1:=fun at' kind n a b c hc=>by
  unfold F9 at hc;split at hc
  ·simp at hc
  ·split at hc
   ·simp at hc
   ·rw[List.mem_singleton.1 hc];simp
 have lst:∀ (f:Nat),(∀ (at':CV) (o:T) (p q:E),∀ c,c ∈ (mg f at' o p q).2→c.path.length≤at'.length+f+1)→∀ (at':CV) (kind:Int) (ks:List T) (us vs:List U) (n:Nat),∀ c,c ∈ (Mt (mg f) at' kind ks us vs n).2→c.path.length≤at'.length+f+2:=fun f ih at' kind ks=>by
  induction ks with
  |nil=>
   intro us vs n c hc;rw[Mt] at hc;have:=gap _ _ _ _ _ c hc;omega
  |cons k ks ihk=>
   intro us vs n c hc;simp only[Mt,List.mem_append] at hc;rcases hc with hc | hc | hc
   ·have:=gap _ _ _ _ _ c hc;omega
   ·generalize ZM (EG us)=u at hc;generalize ZM (EG vs)=v at hc;cases u<;>cases v<;>simp only[CG] at hc<;>first | (have:=ih _ _ _ _ c hc;simp at this;omega) | (rw[List.mem_singleton.1 hc];simp;omega) | (simp at hc)
   ·exact ihk _ _ _ c hc
 intro f;induction f with
 |zero=>
  intro at' o p q c hc;have:=base _ _ _ _ c hc;omega
 |succ f ih=>
  intro at' o p q c hc;rw[mg] at hc;split at hc
  ·unfold gM at hc;rcases List.mem_append.1 hc with hc | hc
   ·obtain⟨i,_,hc⟩:=List.mem_flatMap.1 hc;unfold PD at hc;split at hc
    ·rw[List.mem_singleton.1 hc];simp
    ·simp at hc
   ·obtain⟨i,_,hc⟩:=List.mem_flatMap.1 hc;have:=ih _ _ _ _ c hc;simp at this;omega
  ·split at hc
   ·have:=lst f ih _ _ _ _ _ _ c hc;omega
   ·have:=base _ _ _ _ c hc;omega
section
variable {o x y:T} {most:Int}
structure Ma (t:T):Prop where
 w:AK t
 p:Bc t≤1000
 r:Cr 64 t=true
theorem aG {t:T} (h:AK t) (g:G6 t=true):Ma t:=by
 have:=WS g;exact⟨h,by omega,this.2.1⟩
theorem vk (ho:Ma o) (hx:Ma x) (hy:Ma y):(∀ c,c ∈ (Kl most o x y).2→qt c)∧(∀ c,c ∈ (Kl most o x y).2→c.path.length≤10000000000000)∧(Kl most o x y).2.length≤10000000000000∧AK (Kl most o x y).1∧Ag (Kl most o x y).1=(Kl most o x y).1:=by
 have l1:=WZ (most:=most) ho.w hx.w ho.p hx.p ho.r hx.r;have l2:=WZ (most:=most) ho.w hy.w ho.p hy.p ho.r hy.r;obtain⟨u,u1,u2,_⟩:=sC 1000 _ _ _ _ _ l1 l2 [] (by simp);have L:=du (y:=y) ho.w hx.w ho.p hx.p ho.r hx.r most;refine⟨Ahn 1000 [] _ _ _ _ _ l1 l2,fun c hc=>?_,by omega,?_,?_⟩
 ·have:=si 1000 [] _ _ _ c hc;simp at this;omega
 ·show AK (mg 1000 [] (Ag o) (VJ most o x) (VJ most o y)).1;rw[← u2];exact CQ u u1
 ·show Ag (mg 1000 [] (Ag o) (VJ most o x) (VJ most o y)).1=(mg 1000 [] (Ag o) (VJ most o x) (VJ most o y)).1;rw[← u2,Es]
theorem dn (ho:Ma o) (hx:Ma x) (hy:Ma y) (hm:BN most):G.Spec Tryz.prog 19 [tX o,tX x,tX y,iv most] (.tup [tX (Kl most o x y).1,vZ (Kl most o x y).2]):=ZT ho.w hx.w hy.w ho.p hx.p hy.p ho.r hx.r hy.r hm
end
theorem bW {o x y:T} (ho:AK o) (hx:AK x) (hy:AK y):G.Spec Tryz.prog 18 [tX o,tX x,tX y] (bv (G6 o&&G6 x&&G6 y)):=by
 have G1:=Lp ho;have G2:=Lp hx;have G3:=Lp hy;refine Al Nw (by simp) fun w0 I0=>?_;unfold IC;simp;refine Af G1 (by simp) ?_;cases h1:G6 o with
 |false=>
  simp;refine Bv rfl ?_;simp;refine Bv rfl ?_;simp;exact Ad rfl
 |true=>
  simp;refine Dy rfl (fun _=>G2) (fun _=>by simp) (by simp) ?_;cases h2:G6 x with
  |false=>
   simp;refine Bv rfl ?_;simp;exact Ad rfl
  |true=>
   simp;refine Dy rfl (fun _=>G3) (fun _=>by simp) (by simp) ?_;simp;exact Ad rfl
theorem NL (w:Int):G.Spec Tryz.prog 33 [uv w] (tX (B5 w)):=by
 refine Al Qk (by simp) fun w0 I0=>?_;unfold Kb;simp;exact BZ ⟨Ad rfl,Am,Am,trivial⟩
theorem DU {w:Int} (h:w ≠ 0):Ag (B5 w)=B5 w:=by
 unfold B5;rw[Ci,if_neg (by decide),if_pos rfl];simp[C4,h]
theorem YX {a b:Int} (ha:a ≠ 0) (hb:b ≠ 0) (hne:a ≠ b) (hu:DL a b ≠ 0) (most:Int):VJ most (B5 a) (B5 b) = .mk 2 T0 T0 [Wa 0 a b] [] 0 []:=by
 have he:Kd (B5 a) (B5 b)=false:=by
  rw[Bool.eq_false_iff];intro h;rw[eqT_iff,DU ha,DU hb] at h;exact hne (by simpa[B5] using h)
 unfold VJ;rw[DU ha,DU hb,show(1000:Nat)=999+1 from rfl,DP,he];rw[if_neg (by simp),if_pos (by simp[B5])];unfold XU;rw[GZ];simp[Hv,Cq,B5,hu,List.range_succ]
theorem gG:Kl 9 (B5 1) (B5 2) (B5 3)=(B5 1,[⟨[(1,0)],B5 1,B5 2,B5 3⟩]):=by
 have u2:DL 1 2=1:=by decide
 have u3:DL 1 3=1:=by decide
 have d2:=YX (a:=1) (b:=2) (by decide) (by decide) (by decide) (by rw[u2];decide) 9;have d3:=YX (a:=1) (b:=3) (by decide) (by decide) (by decide) (by rw[u3];decide) 9;have c1:Lj (Wa 0 1 2) (Wa 0 1 3)=true:=by decide
 have m2:BV 1 (Wa 0 1 2).new (Wa 0 1 2).mask=2:=by decide
 have m3:BV 1 (Wa 0 1 3).new (Wa 0 1 3).mask=3:=by decide
 unfold Kl;rw[DU (by decide),d2,d3,show(1000:Nat)=999+1 from rfl,mg,if_pos ⟨rfl,rfl⟩];have t1:DG (DG (B5 1).words.length [Wa 0 1 2]) [Wa 0 1 3]=1:=by decide
 have w2:GA [Wa 0 1 2] 0=Wa 0 1 2:=Jp rfl;have w3:GA [Wa 0 1 3] 0=Wa 0 1 3:=Jp rfl;unfold gM;simp only[E.words_mk,E.kids_mk,t1];have r1:List.range 1=[0]:=rfl;have k0:CR (CR (B5 1).kids.length []) []=0:=rfl;have r0:List.range 0=[]:=rfl;have o1:(B5 1).words.getD 0 0=1:=rfl;rw[k0,r0,r1];simp only[List.map_cons,List.map_nil,List.flatMap_cons,List.flatMap_nil,List.append_nil,w2,w3,o1,NP,PD,c1,if_true,m2,m3,List.nil_append];rw[DU (by decide),DU (by decide),DU (by decide)];rfl
theorem Kg {w:Int} (h0:0≤w) (h1:w<100):Ma (B5 w):=by
 refine⟨Iv ⟨by omega,by omega⟩,by simp[B5],?_⟩;unfold B5;rw[Em];simp[FT]
theorem Oq:G.Spec Tryz.prog 13 [] (bv true):=by
 have T:=dn (o:=B5 1) (x:=B5 2) (y:=B5 3) (most:=9) (Kg (by decide) (by decide)) (Kg (by decide) (by decide)) (Kg (by decide) (by decide)) (by simp[BN]);rw[gG] at T;have O1:=NL 1;have O2:=NL 2;have O3:=NL 3;have S:=fun w (h0:(0:Int)≤w) (h1:w<100)=>HB (B5 w) (Kg h0 h1).w (B5 w);have S1:=S 1 (by decide) (by decide);have S2:=S 2 (by decide) (by decide);have S3:=S 3 (by decide) (by decide);rw[show ET (B5 1) (B5 1)=true from sameB_iff.2 rfl] at S1;rw[show ET (B5 2) (B5 2)=true from sameB_iff.2 rfl] at S2;rw[show ET (B5 3) (B5 3)=true from sameB_iff.2 rfl] at S3;refine Al NN (by simp) fun w0 I0=>?_;unfold Ix;simp;refine Af O1 (by simp) ?_;simp;refine Af O2 (by simp) ?_;simp;refine Af O3 (by simp) ?_;simp;refine Af T (by simp) ?_;simp[Aa];refine Af O1 (by simp) ?_;simp;refine Af S1 (by simp) ?_;simp;refine Dy rfl (fun _=>O2) (fun _=>by simp) (by simp) ?_;simp;refine Dy rfl (fun _=>S2) (fun _=>by simp) (by simp) ?_;simp;refine Dy rfl (fun _=>O3) (fun _=>by simp) (by simp) ?_;simp;refine Dy rfl (fun _=>S3) (fun _=>by simp) (by simp) ?_;simp;refine Dy rfl (fun _=>O1) (fun _=>by simp) (by simp) ?_;simp;refine Dy rfl (fun _=>S1) (fun _=>by simp) (by simp) ?_;simp;exact Ad rfl
theorem gf {R R':E→T→T→Prop} {os:List OP} {a b:List T} (h:LdO R os a b):(∀ o x y,o ∈ os→o.kind=3→x ∈ a→y ∈ b→R o.e x y→R' o.e x y)→LdO R' os a b:=by
 induction h with
 |nil=>exact fun _=>.nil
 |keep l m hne hl _ ih=>exact fun hR=>.keep l m hne hl (ih fun e x y ho hk hx hy=>hR e x y (List.mem_cons_of_mem _ ho) hk (List.mem_append_right _ hx) (List.mem_append_right _ hy))
 |del l m hne hl _ ih=>exact fun hR=>.del l m hne hl (ih fun e x y ho hk hx hy=>hR e x y (List.mem_cons_of_mem _ ho) hk (List.mem_append_right _ hx) hy)
 |ins l m hne hl _ ih=>exact fun hR=>.ins l m hne hl (ih fun e x y ho hk hx hy=>hR e x y (List.mem_cons_of_mem _ ho) hk hx (List.mem_append_right _ hy))
 |desc e x y r _ ih=>exact fun hR=>.desc e x y (hR (.mk 3 0 [] e) x y (by simp) rfl (by simp) (by simp) r) (ih fun e x y ho hk hx hy=>hR e x y (List.mem_cons_of_mem _ ho) hk (List.mem_cons_of_mem _ hx) (List.mem_cons_of_mem _ hy))
theorem tZ {R R2:E→T→T→Prop} {list:Int} (hR:∀ e x y,R e x y→(HJ list (JP e)=true→Ag x=Ag y)∧(HJ list (JP e)=false→R2 (JP e) x y)) {os:List OP} {a3 b3:List T} (h:LdO R os a3 b3):∀ (out:List OP) (g d a1 b1 a2 b2:List T),LdO R2 out a1 b1→g.map Ag=a2.map Ag→d.map Ag=b2.map Ag→a1.length+a2.length+a3.length≤1000000000→LdO R2 (FI list (os.map Mo) out g d) (a1++(a2++a3)) (b1++(b2++b3)):=by
 induction h with
 |nil=>
  intro out g d a1 b1 a2 b2 h1 hg hd hb;rw[List.map_nil,FI];simpa using Lv h1 hg hd
 |keep l m hne hl _ ih=>
  intro out g d a1 b1 a2 b2 h1 hg hd hb;rw[List.length_append] at hb;rw[List.map_cons,FI,if_pos (show(Mo (.mk 0 ((l.length:Nat):Int) [] E0)).kind=0 from rfl)];have:=ih (RH (Rz out g d) ((l.length:Nat):Int)) [] [] _ _ [] [] (Xg (Lv h1 hg hd) hne hl (by rw[List.length_append];omega)) rfl rfl (by simp only[List.length_append,List.length_nil];omega);simp at this ⊢;exact this
 |del l m hne hl _ ih=>
  intro out g d a1 b1 a2 b2 h1 hg hd hb;rw[List.length_append] at hb;rw[List.map_cons,FI,if_neg (show ¬ (Mo (.mk 1 0 l E0)).kind=0 by show ¬ (1:Int)=0;decide),if_pos (show(Mo (.mk 1 0 l E0)).kind=1 from rfl)];have:=ih out (g++l.map Ag) d a1 b1 (a2++m) b2 h1 (by rw[List.map_append,List.map_append,JW,hg,hl]) hd (by rw[List.length_append];omega);simp at this ⊢;exact this
 |ins l m hne hl _ ih=>
  intro out g d a1 b1 a2 b2 h1 hg hd hb;rw[List.map_cons,FI,if_neg (show ¬ (Mo (.mk 2 0 l E0)).kind=0 by show ¬ (2:Int)=0;decide),if_neg (show ¬ (Mo (.mk 2 0 l E0)).kind=1 by show ¬ (2:Int)=1;decide),if_pos (show(Mo (.mk 2 0 l E0)).kind=2 from rfl)];have:=ih out g (d++l.map Ag) a1 b1 a2 (b2++m) h1 hg (by rw[List.map_append,List.map_append,JW,hd,hl]) (by omega);simp at this ⊢;exact this
 |desc e x y r _ ih=>
  intro out g d a1 b1 a2 b2 h1 hg hd hb;rw[List.length_cons] at hb;rw[List.map_cons,FI,if_neg (show ¬ (Mo (.mk 3 0 [] e)).kind=0 by show ¬ (3:Int)=0;decide),if_neg (show ¬ (Mo (.mk 3 0 [] e)).kind=1 by show ¬ (3:Int)=1;decide),if_neg (show ¬ (Mo (.mk 3 0 [] e)).kind=2 by show ¬ (3:Int)=2;decide)];obtain⟨r1,r2⟩:=hR e x y r;split
  ·rename_i hi;have hn:=r1 (show HJ list (JP e)=true from hi);have:=ih (RH (Rz out g d) (([x]:List T).length:Nat)) [] [] _ _ [] [] (Xg (l:=[x]) (m:=[y]) (Lv h1 hg hd) (by simp) (by simp[hn]) (by rw[List.length_append];simp;omega)) rfl rfl (by simp only[List.length_append,List.length_nil,List.length_cons];omega);simp at this ⊢;exact this
  ·rename_i hi;have hi2:¬ HJ list (JP e)=true:=hi;have r':=r2 (by simpa using hi2);have:=ih (Rz out g d++[.mk 3 0 [] (JP e)]) [] [] _ _ [] [] (FL (Lv h1 hg hd) (.desc (JP e) x y r' .nil)) rfl rfl (by simp only[List.length_append,List.length_nil,List.length_cons];omega);simp at this ⊢;exact this
theorem ky:∀ (f g:Nat) (t:T),Rs g t→YO f t
 |0,g,t,_=>trivial
 |f+1,g,t,h=>⟨by have:=(AV h).2.2.2;omega,fun k hk=>ky f (g-1) k (BI h k hk)⟩
def Df (most:Int) (f:Nat) (p:E) (o x:T):Prop:=Rs f o∧(∃ g,Rs g x)∧NW f o∧NW f x∧p=JP (DP most f o x)
section
variable {most:Int} {f:Nat} {p:E} {o x:T}
theorem kG (h:Df most f p o x):Ld f (DP most f o x) o x:=by
 obtain⟨h1,⟨g,h2⟩,h3,h4,_⟩:=h;exact W4 most f g o x h1 h2 h3 h4
theorem LJ (h:Df most f p o x):Ld f p o x:=by
 have:=j4 f _ _ _ (ky f f o h.1) (kG h);rw[h.2.2.2.2];exact this
theorem OI (h:Df most f p o x):p.kind=(DP most f o x).kind:=by rw[h.2.2.2.2];exact Zp (kG h)
theorem Qp (most:Int) (f:Nat) (o x:T):(DP most f o x).kind=0 ↔ Ag o=Ag x:=by
 rw[← eqT_iff];cases f with
 |zero=>
  rw[DP];by_cases h:Kd o x=true
  ·rw[if_pos h];exact⟨fun _=>h,fun _=>rfl⟩
  ·rw[if_neg h];exact⟨fun e=>absurd e (by show ¬ (1:Int)=0;decide),fun e=>absurd e h⟩
 |succ f=>
  rw[DP];by_cases h:Kd o x=true
  ·rw[if_pos h];exact⟨fun _=>h,fun _=>rfl⟩
  ·rw[if_neg h];refine⟨fun e=>?_,fun e=>absurd e h⟩;split at e
   ·exact absurd e (by show ¬ (2:Int)=0;decide)
   ·split at e
    ·exact absurd e (by show ¬ (3:Int)=0;decide)
    ·exact absurd e (by show ¬ (1:Int)=0;decide)
theorem Xr (h:Df most f p o x):p.kind=0 ↔ Ag o=Ag x:=by rw[OI h,Qp]
theorem SV (most:Int) (f:Nat) {o x:T} (h:Ag o=Ag x):DP most f o x=E0:=by
 cases f<;>rw[DP,if_pos (eqT_iff.2 h)]
theorem Ab4 (h1:Rs f o) (h3:NW f o):Df most f E0 o o:=⟨h1,⟨f,h1⟩,h3,h3,by rw[SV most f rfl,Qh]⟩
def DfK (most:Int) (f:Nat) (e:E) (k y:T):Prop:=Df most f e k y∧e.kind ≠ 0∧k.kind ≠ 0∧y.kind ≠ 0
theorem mI (most:Int) (f:Nat) (y:T):DP most f T0 y=(if Kd T0 y=true then E0 else .mk 1 T0 y [] [] 0 [])∧DP most f y T0=(if Kd y T0=true then E0 else .mk 1 y T0 [] [] 0 []):=by
 cases f with
 |zero=>exact⟨by rw[DP],by rw[DP]⟩
 |succ f=>
  have n1:¬ ((T0:T).kind=1∧y.kind=1):=fun h=>absurd h.1 (by show ¬ (0:Int)=1;decide);have n2:¬ (y.kind=1∧(T0:T).kind=1):=fun h=>absurd h.2 (by show ¬ (0:Int)=1;decide);have n3:¬ ((T0:T).kind=y.kind∧2≤(T0:T).kind∧(T0:T).kind≤9):=fun h=>absurd h.2.1 (by show ¬ (2:Int)≤0;decide);have n4:¬ (y.kind=(T0:T).kind∧2≤y.kind∧y.kind≤9):=fun h=>by have h1:y.kind=0:=h.1;omega
  exact⟨by rw[DP,if_neg n1,if_neg n3],by rw[DP,if_neg n2,if_neg n4]⟩
theorem fj {f:Nat} {t:T} (h:Rs f t) (hk:t.kind=0):t=T0:=by
 have hn:=(AV h).2.1;obtain⟨k,w,l⟩:=t;have hk:k=0:=hk;subst hk;rw[Ci,if_pos rfl] at hn;exact hn.symm
theorem PT (h:Df most (f+1) p o x) (hk:p.kind=2):o.kind=1∧x.kind=1∧p = .mk 2 T0 T0 (Hv o x (max o.words.length x.words.length)) ((Cq (DP most f) o x (max o.kids.length x.kids.length)).map Ui) 0 []:=by
 have e1:=OI h;obtain⟨_,_,_,_,e⟩:=h;rw[hk,DP] at e1;rw[DP] at e;by_cases c:Kd o x=true
 ·rw[if_pos c] at e1;exact absurd e1 (by show ¬ (2:Int)=0;decide)
 rw[if_neg c] at e e1;by_cases c2:o.kind=1∧x.kind=1
 ·rw[if_pos c2,XU,GZ,if_neg (by decide),if_pos rfl] at e;exact⟨c2.1,c2.2,e⟩
 rw[if_neg c2] at e1;split at e1
 ·exact absurd e1 (by show ¬ (2:Int)=3;decide)
 ·exact absurd e1 (by show ¬ (2:Int)=1;decide)
theorem X7 {ks:List KE} {i:Nat} (h:∀ k,k ∈ ks→k.at_ ≠ (i:Int)):F3 ks i=E0:=by
 unfold F3;rw[List.find?_eq_none.2 fun k hk=>by simp[h k hk]];rfl
theorem oE {one:T→T→E} {a b:T} {i:Nat}:∀ m:Nat,(i<m→one (a.kids.getD i T0) (b.kids.getD i T0) ≠ E0→(one (a.kids.getD i T0) (b.kids.getD i T0)).kind ≠ 0)→F3 ((Cq one a b m).map Ui) i=if i<m then JP (one (a.kids.getD i T0) (b.kids.getD i T0)) else E0:=by
 intro m;induction m with
 |zero=>intro _;rw[if_neg (by omega)];rfl
 |succ m ih=>
  intro h0;have hs:Cq one a b (m+1)=Cq one a b m++(if (one (a.kids.getD m T0) (b.kids.getD m T0)).kind=0 then [] else [.mk m (one (a.kids.getD m T0) (b.kids.getD m T0))]):=by
   unfold Cq;rw[List.range_succ,List.filterMap_append];congr 1;rw[List.filterMap_cons,List.filterMap_nil];split<;>split<;>simp_all
  rw[hs,List.map_append];have happ:∀ (l m:List KE),F3 (l++m) i=if (∃ k,k ∈ l∧k.at_=(i:Int)) then F3 l i else F3 m i:=fun l m=>by
   unfold F3;rw[List.find?_append];split
   ·rename_i hex;obtain⟨k,hk,hk2⟩:=hex;cases e:l.find? (fun k=>decide (k.at_=(i:Int))) with
    |none=>have:=List.find?_eq_none.1 e k hk;simp[hk2] at this
    |some z=>rfl
   ·rename_i hex;rw[List.find?_eq_none.2 fun k hk=>by simp;exact fun e=>hex ⟨k,hk,e⟩];rfl
  have hat:∀ (n:Nat) (k:KE),k ∈ (Cq one a b n).map Ui→∃ j:Nat,k.at_=j∧j<n∧(one (a.kids.getD j T0) (b.kids.getD j T0)).kind ≠ 0:=fun n k hk=>by
   obtain⟨k2,hk2,rfl⟩:=List.mem_map.1 hk;unfold Cq at hk2;obtain⟨j,hj,hj2⟩:=List.mem_filterMap.1 hk2;rw[List.mem_range] at hj;split at hj2
   ·cases hj2
   ·rename_i hne;cases hj2;exact⟨j,rfl,hj,hne⟩
  rw[happ];by_cases him:i<m
  ·have ih':=ih fun _=>h0 (by omega);rw[if_pos him] at ih';rw[if_pos (show i<m+1 by omega)];by_cases c:(one (a.kids.getD i T0) (b.kids.getD i T0))=E0
   ·rw[if_neg]
    ·rw[X7 fun k hk=>?_,c,Qh];split at hk
     ·simp at hk
     ·simp[Ui] at hk;rw[hk];show((m:Nat):Int) ≠ i;omega
    ·rintro⟨k,hk,hk2⟩;obtain⟨j,j1,j2,j3⟩:=hat m k hk;have:j=i:=by omega
     subst this;rw[c] at j3;exact j3 rfl
   ·rw[if_pos,ih'];refine⟨Ui (.mk i (one (a.kids.getD i T0) (b.kids.getD i T0))),List.mem_map.2 ⟨_,?_,rfl⟩,rfl⟩;unfold Cq;exact List.mem_filterMap.2 ⟨i,List.mem_range.2 him,by rw[if_neg (h0 (by omega) c)]⟩
  ·rw[if_neg (by rintro⟨k,hk,hk2⟩;obtain⟨j,j1,j2,_⟩:=hat m k hk;omega)];by_cases e:i=m
   ·subst e;rw[if_pos (show i<i+1 by omega)];by_cases c:(one (a.kids.getD i T0) (b.kids.getD i T0))=E0
    ·rw[if_pos (by rw[c];rfl),c,Qh];rfl
    ·rw[if_neg (h0 (by omega) c)];unfold F3;simp[Ui,List.find?_cons]
   ·rw[if_neg (show ¬ i<m+1 by omega)];refine X7 fun k hk=>?_;split at hk
    ·simp at hk
    ·simp[Ui] at hk;rw[hk];show((m:Nat):Int) ≠ i;omega
theorem nT (h:Df most (f+1) p o x) (hk:p.kind=2) (i:Nat):Df most f (F3 p.kids i) (o.kids.getD i T0) (x.kids.getD i T0):=by
 obtain⟨_,_,e⟩:=PT h hk;obtain⟨h1,⟨g,h2⟩,h3,h4,_⟩:=h;refine⟨JI h1 i,⟨_,JI h2 i⟩,eO h3 i,eO h4 i,?_⟩;rw[e];show F3 ((Cq (DP most f) o x (max o.kids.length x.kids.length)).map Ui) i=_;rw[oE _ fun _ hne hz=>hne (SV most f ((Qp most f _ _).1 hz))];split
 ·rfl
 ·rename_i hi;have e1:o.kids.getD i T0=T0:=by rw[List.getD_eq_getElem?_getD,List.getElem?_eq_none (by omega)];rfl
  have e2:x.kids.getD i T0=T0:=by rw[List.getD_eq_getElem?_getD,List.getElem?_eq_none (by omega)];rfl
  rw[e1,e2,SV most f rfl,Qh]
theorem de (h:Df most (f+1) p o x) (hk:p.kind=3):o.kind=x.kind∧2≤o.kind∧o.kind≤9∧LdO (DfK most f) p.ops o.kids x.kids:=by
 have e1:=OI h;obtain⟨h1,⟨g,h2⟩,h3,h4,e⟩:=h;rw[hk,DP] at e1;rw[DP] at e;by_cases c:Kd o x=true
 ·rw[if_pos c] at e1;exact absurd e1 (by show ¬ (3:Int)=0;decide)
 rw[if_neg c] at e e1;by_cases c2:o.kind=1∧x.kind=1
 ·rw[if_pos c2] at e1;exact absurd e1 (by show ¬ (3:Int)=2;decide)
 rw[if_neg c2] at e e1;by_cases c3:o.kind=x.kind∧2≤o.kind∧o.kind≤9;rotate_left
 ·rw[if_neg c3] at e1;exact absurd e1 (by show ¬ (3:Int)=1;decide)
 rw[if_pos c3,Pd,GZ,if_neg (by decide),if_neg (by decide),if_pos rfl] at e;refine⟨c3.1,c3.2.1,c3.2.2,?_⟩;have o4:=(AV h1).2.2.2;have L1:LdO (fun e k y=>e=DP most f k y) (OO (DP most f) most o x) o.kids x.kids:=dV fun x hx y hy=>rfl;have L2:LdO (fun e k y=>e=DP most f k y∧k ∈ o.kids∧y ∈ x.kids∧(e.kind ≠ 0→k.kind ≠ 0∧y.kind ≠ 0)) (OO (DP most f) most o x) o.kids x.kids:=gf L1 fun oo k y ho hk3 hkm hym r=>by
  refine⟨r,hkm,hym,fun he=>?_⟩;obtain⟨k2,y2,m1,m2,sc,r2⟩:=pk _ _ _ _ oo ho hk3;have hkk:k2.kind=y2.kind∧k2.kind ≠ 0:=by
   unfold FW at sc;split at sc
   ·exact absurd rfl sc
   ·rename_i hc;simp only[not_or] at hc;exact⟨by omega,hc.2.1⟩
  have nn:Ag k2 ≠ Ag y2:=fun hn=>he (by rw[r2];exact(Qp most f _ _).2 hn);have one1:∀ z:T,oo.e ≠ .mk 1 T0 z [] [] 0 []∧oo.e ≠ .mk 1 z T0 [] [] 0 []:=fun z=>by
   have shape:oo.e = .mk 1 k2 y2 [] [] 0 []∨oo.e.kind ≠ 1:=by
    rw[r2];cases f with
    |zero=>
     rw[DP,if_neg (fun h=>nn (eqT_iff.1 h))];exact .inl rfl
    |succ f=>
     rw[DP,if_neg (fun h=>nn (eqT_iff.1 h))];split
     ·exact .inr (by show ¬ (2:Int)=1;decide)
     ·split
      ·exact .inr (by show ¬ (3:Int)=1;decide)
      ·exact .inl rfl
   rcases shape with sh | sh
   ·rw[sh];refine⟨fun h=>?_,fun h=>?_⟩
    ·injection h with _ h;exact hkk.2 (by rw[h];rfl)
    ·injection h with _ _ h;exact hkk.2 (by rw[hkk.1,h];rfl)
   ·exact⟨fun h=>sh (by rw[h];rfl),fun h=>sh (by rw[h];rfl)⟩
  refine⟨fun hz=>?_,fun hz=>?_⟩
  ·have:=fj (BI h1 k hkm) hz;subst this;rw[(mI most f y).1] at r;split at r
   ·exact he (by rw[r];rfl)
   ·exact(one1 y).1 r
  ·have:=fj (BI h2 y hym) hz;subst this;rw[(mI most f k).2] at r;split at r
   ·exact he (by rw[r];rfl)
   ·exact(one1 k).2 r
 have L3:=tZ (R2:=DfK most f) (list:=o.kind) (fun e k y r=>by
  obtain⟨r1,r2,r3,r4⟩:=r;have D:Df most f (JP e) k y:=⟨BI h1 k r2,⟨_,BI h2 y r3⟩,h3.2 k r2,h4.2 y r3,by rw[r1]⟩;refine⟨fun hi=>eP (LJ D) hi,fun hi=>?_⟩;have hne:(JP e).kind ≠ 0:=fun hz=>by unfold HJ at hi;simp[hz] at hi
  have he:e.kind ≠ 0:=by
   have:=OI D;rw[← r1] at this;omega
  exact⟨D,hne,(r4 he).1,(r4 he).2⟩) L2 [] [] [] [] [] [] [] .nil rfl rfl (by simp;omega)
 rw[e];simpa using L3
end
inductive Zn:T→CV→T→Prop
 |here (o:T):Zn o [] (Ag o)
 |kid (o:T) (i:Nat) (r:CV) (b:T) (hi:i<o.kids.length∨o.kind=1) (hb:i<65535) (g:Zn (o.kids.getD i T0) r b):Zn o ((0,(i:Int))::r) b
 |word (o:T) (i:Nat) (hk:o.kind=1) (hb:i<65535):Zn o [(1,(i:Int))] (Ag (B5 (o.words.getD i 0)))
 |gap (o:T) (i:Nat) (hk:2≤o.kind∧o.kind≤9) (hi:i≤o.kids.length):Zn o [(2,(i:Int))] (Ag (.mk o.kind [] []))
def aY (at':CV) (o:T) (c:Cf):Prop:=∃ r,c.path=at'++r∧Zn o r c.base∧c.ours ≠ c.theirs∧c.ours ≠ c.base∧c.theirs ≠ c.base
theorem kE {a b:T} {m i:Nat}:GA (Hv a b m) i=dW∨(DL (a.words.getD i 0) (b.words.getD i 0) ≠ 0∧i<m):=by
 unfold GA;cases e:(Hv a b m).find? (fun w=>decide (w.at_=(i:Int))) with
 |none=>exact .inl rfl
 |some w=>
  refine .inr ?_;have hm:=List.mem_of_find?_eq_some e;have hf:=List.find?_some e;unfold Hv at hm;obtain⟨j,hj,hj2⟩:=List.mem_filterMap.1 hm;rw[List.mem_range] at hj;split at hj2
  ·cases hj2
  ·rename_i hne;cases hj2;have:((j:Nat):Int)=i:=by simpa[Wa] using hf
   have:j=i:=by omega
   subst this;exact⟨hne,hj⟩
theorem Wc {u v:Int} (h:Ag (B5 u)=Ag (B5 v)):u=v:=by
 have:=(struct_eq.1 h).1 0;simpa using this
theorem vj {at':CV} {i:Nat} {w u v:Int} {a b:WE} (ha:PM a.mask) (hb:PM b.mask) (hu:BV w a.new a.mask=u) (hv:BV w b.new b.mask=v) (da:a=dW∨w ≠ u) (db:b=dW∨w ≠ v):∀ c,c ∈ PD at' i w a b→c.path=at'++[(1,(i:Int))]∧c.base=Ag (B5 w)∧c.ours ≠ c.theirs∧c.ours ≠ c.base∧c.theirs ≠ c.base:=by
 intro c hc;have na:a ≠ dW:=fun e=>by subst e;rw[SL] at hc;simp at hc
 have nb:b ≠ dW:=fun e=>by
  subst e;rw[jZ (a:=dW) (b:=a) ⟨by decide,by decide⟩ ha,SL] at hc;simp at hc
 have d1:=da.resolve_left na;have d2:=db.resolve_left nb;unfold PD at hc;split at hc;rotate_left
 ·simp at hc
 rename_i hcf;rw[List.mem_singleton.1 hc,hu,hv];refine⟨rfl,rfl,fun h=>?_,fun h=>d1 (Wc h).symm,fun h=>d2 (Wc h).symm⟩;have e:=Wc h;unfold Lj at hcf;rw[decide_eq_true_iff] at hcf;refine hcf (dq (Fk _ _ _) (Fk _ _ _) fun k hk=>?_);rw[LK _ _ _ hk,LK _ _ _ hk,ae ha hb];by_cases c1:Dz a.mask k=true
 ·by_cases c2:Dz b.mask k=true
  ·have e1:Bt u k=Bt a.new k:=by rw[← hu,LK _ _ _ hk,if_pos c1]
   have e2:Bt v k=Bt b.new k:=by rw[← hv,LK _ _ _ hk,if_pos c2]
   rw[c1,c2,← e1,← e2,e]
  ·rw[Bool.not_eq_true] at c2;rw[c2];simp
 ·rw[Bool.not_eq_true] at c1;rw[c1];simp
theorem dE {at':CV} {o:T} (hk:2≤o.kind∧o.kind≤9) {n:Nat} (hn:n≤o.kids.length) {a b:List T}:∀ c,c ∈ (F9 at' o.kind n a b).2→aY at' o c:=by
 intro c hc;unfold F9 at hc;split at hc
 ·simp at hc
 rename_i h1;split at hc
 ·simp at hc
 rename_i h2;rw[List.mem_singleton.1 hc];simp only[not_or] at h1;have hl:∀ {l m:List T},Ag (.mk o.kind [] l)=Ag (.mk o.kind [] m)→l.map Ag=m.map Ag:=fun h=>((LR (by omega) (by omega)).1 h).2;refine⟨[(2,(n:Int))],rfl,.gap o n hk hn,fun h=>h1.2 (hl h),fun h=>h1.1 ?_,fun h=>h2 ?_⟩
 ·have:=hl h;simpa using this
 ·have:=hl h;simpa using this
section
variable {most:Int} {f:Nat}
theorem Y3 {k:T} (h:k.kind ≠ 0):Ag k ≠ T0:=fun e=>h (by have:=congrArg T.kind e;rw[F5] at this;exact this)
theorem mbL (hM:∀ (at':CV) (p q:E) (o x y:T),Df most f p o x→Df most f q o y→∀ c,c ∈ (mg f at' o p q).2→aY at' o c) {at':CV} {o:T} (hk:2≤o.kind∧o.kind≤9) (hl:o.kids.length≤1000) (h0:∀ k,k ∈ o.kids→Rs f k∧NW f k):∀ (ks:List T) (n:Nat) (us vs:List U) (xs ys:List T),o.kids.drop n=ks→n≤o.kids.length→LdU (DfK most f) us ks xs→LdU (DfK most f) vs ks ys→∀ c,c ∈ (Mt (mg f) at' o.kind ks us vs n).2→aY at' o c
 |[],n,us,vs,xs,ys,hd,hn,hu,hv=>by
  rw[Mt];exact dE hk hn
 |k::ks,n,us,vs,xs,ys,hd,hn,hu,hv=>by
  have hnlt:n<o.kids.length:=by
   apply Classical.byContradiction;intro h;rw[List.drop_eq_nil_of_le (by omega)] at hd;cases hd
  have hk2:=List.getElem_cons_drop hnlt;rw[hd] at hk2;obtain⟨ek,ekd⟩:=List.cons.inj hk2;have hkm:k ∈ o.kids:=by rw[← ek];exact C5 hnlt
  have hg:o.kids.getD n T0=k:=by rw[List.getD_eq_getElem?_getD,List.getElem?_eq_getElem hnlt];exact ek
  obtain⟨y2,a1,a2,a3,a4⟩:=Xb hu;obtain⟨z2,b1,b2,b3,b4⟩:=Xb hv;rw[Mt];intro c hc;simp only at hc;have up:aY (at'++[(0,(n:Int))]) k c→aY at' o c:=fun h=>by
   obtain⟨r,r1,r2,r3⟩:=h;exact⟨(0,(n:Int))::r,by rw[r1];simp,.kid o n r _ (.inl hnlt) (by omega) (by rw[hg];exact r2),r3⟩
  have D0:Df most f E0 k k:=Ab4 (h0 k hkm).1 (h0 k hkm).2;have ra:∃ x,Df most f (eU (ZM (EG us))) k x:=by
   rcases a2 with h | ⟨t,h⟩ | ⟨e,x,h,hx⟩
   ·rw[h];exact⟨k,D0⟩
   ·rw[h];exact⟨k,D0⟩
   ·rw[h];exact⟨x,hx.1⟩
  have rb:∃ x,Df most f (eU (ZM (EG vs))) k x:=by
   rcases b2 with h | ⟨t,h⟩ | ⟨e,x,h,hx⟩
   ·rw[h];exact⟨k,D0⟩
   ·rw[h];exact⟨k,D0⟩
   ·rw[h];exact⟨x,hx.1⟩
  obtain⟨x1,ra⟩:=ra;obtain⟨x2,rb⟩:=rb;have both:=hM (at'++[(0,(n:Int))]) _ _ _ _ _ ra rb;have tail:=mbL hM (at':=at') hk hl h0 ks (n+1) (EG us).tail (EG vs).tail y2 z2 ekd (by omega) a1 b1;have one:∀ e x,DfK most f e k x→JC e k=Ag x∧Ag x ≠ Ag k∧Ag x ≠ T0∧Ag k ≠ T0:=fun e x h=>by
   refine⟨La (LJ h.1),fun e=>h.2.1 ((Xr h.1).2 e.symm),Y3 h.2.2.2,Y3 h.2.2.1⟩
  rcases List.mem_append.1 hc with hc | hc
  ·exact dE hk hn c hc
  rcases List.mem_append.1 hc with hc | hc
  ·refine up ?_;generalize ZM (EG us)=ua at *;generalize ZM (EG vs)=ub at *;rcases a2 with rfl | ⟨t,rfl⟩ | ⟨e,x,rfl,hx⟩
   ·rcases b2 with rfl | ⟨t,rfl⟩ | ⟨e,x,rfl,hx⟩
    ·exact both c hc
    ·simp[CG] at hc
    ·exact both c hc
   ·rcases b2 with rfl | ⟨t,rfl⟩ | ⟨e,x,rfl,hx⟩
    ·simp[CG] at hc
    ·simp[CG] at hc
    ·obtain⟨q1,q2,q3,q4⟩:=one e x hx;simp only[CG,List.mem_singleton] at hc;rw[hc,q1];exact⟨[],by simp,.here k,fun h=>q3 h.symm,fun h=>q4 h.symm,q2⟩
   ·rcases b2 with rfl | ⟨t,rfl⟩ | ⟨e2,z,rfl,hz⟩
    ·exact both c hc
    ·obtain⟨q1,q2,q3,q4⟩:=one e x hx;simp only[CG,List.mem_singleton] at hc;rw[hc,q1];exact⟨[],by simp,.here k,q3,q2,fun h=>q4 h.symm⟩
    ·exact both c hc
  ·exact tail c hc
theorem df {at':CV} {p q:E} {o x y:T} (hp:Df most f p o x) (hq:Df most f q o y):∀ c,c ∈ (ab at' o p q).2→aY at' o c:=by
 intro c hc;have e1:=La (LJ hp);have e2:=La (LJ hq);unfold ab at hc;split at hc
 ·simp at hc
 rename_i p0;split at hc
 ·simp at hc
 rename_i q0;split at hc
 ·simp at hc
 rename_i hne;rw[List.mem_singleton.1 hc,e1,e2];rw[e1,e2] at hne;exact⟨[],by simp,.here o,hne,fun h=>p0 ((Xr hp).2 h.symm),fun h=>q0 ((Xr hq).2 h.symm)⟩
end
theorem fr {a b:List Int} {ws:List WE} (h:K9 a b 0 ws) (i:Nat):PM (GA ws i).mask:=vf (fun w hw=>by
 obtain⟨_,_,_,_,h1,h2⟩:=JN h w hw;exact⟨Int.le_of_lt h1,h2⟩) i
theorem mb (most:Int):∀ (f:Nat) (at':CV) (p q:E) (o x y:T),Df most f p o x→Df most f q o y→∀ c,c ∈ (mg f at' o p q).2→aY at' o c:=by
 intro f;induction f with
 |zero=>exact fun at' p q o x y hp hq=>df hp hq
 |succ f ih=>
  intro at' p q o x y hp hq;rw[mg];have o4:=(AV hp.1).2.2;by_cases k2:p.kind=2∧q.kind=2
  ·rw[if_pos k2];obtain⟨p1,p2,p3⟩:=PT hp k2.1;obtain⟨q1,q2,q3⟩:=PT hq k2.2;have kp:=fun i=>nT hp k2.1 i;have kq:=fun i=>nT hq k2.2 i;have wo:=(AV hp.1).1;obtain⟨gx,hx⟩:=hp.2.1;obtain⟨gy,hy⟩:=hq.2.1;have wx:=AV hx;have wy:=AV hy;have LP:K9 o.words x.words 0 p.words:=by
    rcases LJ hp with h | ⟨ws,ks,rfl,_,_,h3,_⟩ | ⟨os,rfl,_⟩
    ·rcases h with ⟨rfl,_⟩ | ⟨_,_,rfl,_⟩<;>exact absurd k2.1 (by simp)
    ·exact h3
    ·exact absurd k2.1 (by simp)
   have LQ:K9 o.words y.words 0 q.words:=by
    rcases LJ hq with h | ⟨ws,ks,rfl,_,_,h3,_⟩ | ⟨os,rfl,_⟩
    ·rcases h with ⟨rfl,_⟩ | ⟨_,_,rfl,_⟩<;>exact absurd k2.2 (by simp)
    ·exact h3
    ·exact absurd k2.2 (by simp)
   have KP:Uf (Ld f) o.kids x.kids 0 p.kids:=by
    rcases LJ hp with h | ⟨ws,ks,rfl,_,_,_,h4⟩ | ⟨os,rfl,_⟩
    ·rcases h with ⟨rfl,_⟩ | ⟨_,_,rfl,_⟩<;>exact absurd k2.1 (by simp)
    ·exact h4
    ·exact absurd k2.1 (by simp)
   have KQ:Uf (Ld f) o.kids y.kids 0 q.kids:=by
    rcases LJ hq with h | ⟨ws,ks,rfl,_,_,_,h4⟩ | ⟨os,rfl,_⟩
    ·rcases h with ⟨rfl,_⟩ | ⟨_,_,rfl,_⟩<;>exact absurd k2.2 (by simp)
    ·exact h4
    ·exact absurd k2.2 (by simp)
   have tw:DG (DG o.words.length p.words) q.words≤1000:=Pm (Pm o4.1 fun w hw=>by
    obtain⟨i,k1,k2,k3,_⟩:=JN LP w hw;omega) fun w hw=>by
    obtain⟨i,k1,k2,k3,_⟩:=JN LQ w hw;omega
   have tk:CR (CR o.kids.length p.kids) q.kids≤1000:=O8 (O8 o4.2 fun w hw=>by
    obtain⟨i,k1,k2,k3,_⟩:=L9 KP w hw;omega) fun w hw=>by
    obtain⟨i,k1,k2,k3,_⟩:=L9 KQ w hw;omega
   have pw:p.words=Hv o x (max o.words.length x.words.length):=by rw[p3];rfl
   have qw:q.words=Hv o y (max o.words.length y.words.length):=by rw[q3];rfl
   intro c hc;unfold gM at hc;simp only at hc;rcases List.mem_append.1 hc with hc | hc
   ·obtain⟨i,hi,hc⟩:=List.mem_flatMap.1 hc;rw[List.mem_range] at hi;have hwo:Bo (o.words.getD i 0):=Ej (wfT_iff.1 wo).w i;have hwx:Bo (x.words.getD i 0):=Ej (wfT_iff.1 wx.1).w i;have hwy:Bo (y.words.getD i 0):=Ej (wfT_iff.1 wy.1).w i;have m1:=ml (wfT_iff.1 wo).w LP i (Nat.zero_le _);have m2:=ml (wfT_iff.1 wo).w LQ i (Nat.zero_le _);have d1:GA p.words i=dW∨o.words.getD i 0 ≠ x.words.getD i 0:=by
     rw[pw];rcases kE (a:=o) (b:=x) (m:=max o.words.length x.words.length) (i:=i) with h | h
     ·exact .inl h
     ·exact .inr fun e=>h.1 ((Tl hwo hwx).2 e)
    have d2:GA q.words i=dW∨o.words.getD i 0 ≠ y.words.getD i 0:=by
     rw[qw];rcases kE (a:=o) (b:=y) (m:=max o.words.length y.words.length) (i:=i) with h | h
     ·exact .inl h
     ·exact .inr fun e=>h.1 ((Tl hwo hwy).2 e)
    obtain⟨c1,c2,c3⟩:=vj (at':=at') (i:=i) (fr LP i) (fr LQ i) m1 m2 d1 d2 c hc;exact⟨[(1,(i:Int))],c1,by rw[c2];exact .word o i p1 (by omega),c3⟩
   ·obtain⟨i,hi,hc⟩:=List.mem_flatMap.1 hc;rw[List.mem_range] at hi;obtain⟨r,r1,r2,r3⟩:=ih _ _ _ _ _ _ (kp i) (kq i) c hc;exact⟨(0,(i:Int))::r,by rw[r1];simp,.kid o i r _ (.inr p1) (by omega) r2,r3⟩
  ·rw[if_neg k2];by_cases k3:p.kind=3∧q.kind=3
   ·rw[if_pos k3];obtain⟨p1,p2,p3,p4⟩:=de hp k3.1;obtain⟨q1,q2,q3,q4⟩:=de hq k3.2;exact mbL ih ⟨p2,p3⟩ o4.2 (fun k hk=>⟨BI hp.1 k hk,hp.2.2.1.2 k hk⟩) o.kids 0 _ _ _ _ rfl (Nat.zero_le _) (V8 p4) (V8 q4)
   ·rw[if_neg k3];exact df hp hq
end Go.Proofs.YtndnlknocdangaaGreat
namespace Go.Proofs.YtndnlknocdangaaGreat
set_option maxRecDepth 20000
open Go Go.G Go.Proofs
@[simp] theorem Afx:Tryz.prog.underlying 123=some (.slice 136):=by kernel_rfl
@[simp] theorem Ad0:Tryz.prog.underlying 126=some (.slice 134):=by kernel_rfl
@[simp] theorem AhJ:CX Tryz.prog 4=some 1:=by kernel_rfl
@[simp] theorem AeS:CX Tryz.prog 134=some 17:=by kernel_rfl
@[simp] theorem Afe:CX Tryz.prog 136=some 35:=by kernel_rfl
@[simp] theorem Ahm:Dj Tryz.prog 4=some false:=by kernel_rfl
@[simp] theorem AcW:Dj Tryz.prog 134=some true:=by kernel_rfl
@[simp] theorem Acn:Dj Tryz.prog 136=some true:=by kernel_rfl
@[simp] theorem x5:Bh Tryz.prog 134=some (Value.agg #[Value.int i64 0,Value.int i64 0,Value.int i64 0,Value.slice none 0 0,Value.slice none 0 0,Value.int i64 0,Value.int i64 0,Value.slice none 0 0,Value.slice none 0 0,Value.int i64 0,Value.slice none 0 0,Value.slice none 0 0,Value.slice none 0 0,Value.slice none 0 0,Value.int i64 0,Value.slice none 0 0,Value.bool false]):=by kernel_rfl
@[simp] theorem zh:Bh Tryz.prog 136=some (Value.agg #[Value.int i64 0,Value.int i64 0,Value.int i64 0,Value.int i64 0,Value.slice none 0 0,Value.slice none 0 0,Value.int i64 0,Value.int i64 0,Value.slice none 0 0,Value.slice none 0 0,Value.int i64 0,Value.slice none 0 0,Value.slice none 0 0,Value.slice none 0 0,Value.slice none 0 0,Value.int i64 0,Value.slice none 0 0,Value.bool false,Value.int i64 0,Value.int i64 0,Value.int i64 0,Value.slice none 0 0,Value.slice none 0 0,Value.int i64 0,Value.int i64 0,Value.slice none 0 0,Value.slice none 0 0,Value.int i64 0,Value.slice none 0 0,Value.slice none 0 0,Value.slice none 0 0,Value.slice none 0 0,Value.int i64 0,Value.slice none 0 0,Value.bool false]):=by kernel_rfl
@[simp] theorem w8:Bs Tryz.prog 134=some 280:=by kernel_rfl
@[simp] theorem xq:Bs Tryz.prog 136=some 568:=by kernel_rfl
@[simp] theorem jE:Aj Tryz.prog 134 1=some 1:=by kernel_rfl
@[simp] theorem jy:Aj Tryz.prog 134 2=some 2:=by kernel_rfl
@[simp] theorem jC:Aj Tryz.prog 134 3=some 5:=by kernel_rfl
@[simp] theorem i9:Aj Tryz.prog 134 4=some 16:=by kernel_rfl
@[simp] theorem iX:Aj Tryz.prog 136 0=some 0:=by kernel_rfl
@[simp] theorem jr:Aj Tryz.prog 136 1=some 1:=by kernel_rfl
@[simp] theorem jv:Aj Tryz.prog 136 2=some 18:=by kernel_rfl
@[simp] theorem vL (ps:List (Nat × A)):Ch Tryz.prog 134 ps=(CT (fun i=>([(0,1),(1,1),(2,3),(5,11),(16,1)]:List (Nat × Nat))[i]?) [iv 0,iv 0,iv 0,A.sl true [],A.sl true [],iv 0,iv 0,A.sl true [],A.sl true [],iv 0,A.sl true [],A.sl true [],A.sl true [],A.sl true [],iv 0,A.sl true [],A.v (Value.bool false)] ps).map A.agg:=by kernel_rfl
@[simp] theorem uz (ps:List (Nat × A)):Ch Tryz.prog 136 ps=(CT (fun i=>([(0,1),(1,17),(18,17)]:List (Nat × Nat))[i]?) [iv 0,iv 0,iv 0,iv 0,A.sl true [],A.sl true [],iv 0,iv 0,A.sl true [],A.sl true [],iv 0,A.sl true [],A.sl true [],A.sl true [],A.sl true [],iv 0,A.sl true [],A.v (Value.bool false),iv 0,iv 0,iv 0,A.sl true [],A.sl true [],iv 0,iv 0,A.sl true [],A.sl true [],iv 0,A.sl true [],A.sl true [],A.sl true [],A.sl true [],iv 0,A.sl true [],A.v (Value.bool false)] ps).map A.agg:=by kernel_rfl
@[simp] theorem mc:Aj Tryz.prog 65 0=some 0:=by kernel_rfl
@[simp] theorem m6:Aj Tryz.prog 65 1=some 1:=by kernel_rfl
def Bu:CC:=sR [bX 2 25 0 [0],aL 4 25 [1],aB 5 false] [1,2,4] (sQ [mO 9 1,bN 10 9 49,bQ .eql 11 3 10 0 3] [1,2,4,11] (cD 11 (sR [lO 12 25 2,cA 13 21 12 25,sT 25 4 13,aB 5 true] [4,5] (.ret)) (.skip)) [1,2,4] (sR [mO 14 1,oO 15 (.indexAddr 49 (xT 14) (nI 0)),lO 16 65 15,aL 6 65 [2],sT 65 6 16] [1,2,4,6] (sR [fO 17 25 2 0,lO 18 3 17,bQ .geq 19 3 18 2 3,mO 20 19,fG 21 25 2 0 20 true,lG 22 3 21 20 true,oG 23 (.binOp .leq 3 (xT 22) (nI 9) 3) 20 true,pF 24 20 23,aO 7 24] [1,2,4,6,7] (sQ [fO 25 65 6 1,lO 26 3 25,bQ .lss 27 3 26 0 3,mO 28 27,fG 29 25 2 0 28 false,lG 30 3 29 28 false,oG 31 (.binOp .eql 3 (xT 30) (nI 1) 3) 28 false,mG 32 31 28 false,fG 33 65 6 1 32 true,lG 34 3 33 32 true,oG 35 (.binOp .geq 3 (xT 34) (nI 65535) 3) 32 true,oG 36 (.pick (xT 32) (xT 35) (nB false)) 28 false,pT 37 28 36] [1,2,4,6,7,37] (cD 37 (sR [oO 38 (.build 25 #[]),sT 25 4 38,aB 5 false] [4,5] (.ret)) (.skip)) [1,2,4,6,7] (sQ [fO 39 65 6 0,lO 40 3 39] [1,2,4,6,7,40] (.block 0 (sR [bQ .eql 42 3 40 0 3,aO 41 42] [1,2,4,6,7,40,41] (cD 41 (sQ [fO 43 65 6 1,lO 44 3 43,fO 45 25 2 2,lO 46 23 45,bN 47 46 23,bB .lss 48 3 44 47 3] [1,2,4,6,48] (cD 48 (sR [fO 49 25 2 2,lO 50 23 49,fO 51 65 6 1,lO 52 3 51,iO 53 23 50 52,lO 54 25 53,mO 55 1,oO 56 (.slice 49 (xT 55) (some (nI 1)) none none),cB 57 22 54 56 25 49,xO 58 57 0,xO 59 57 1,sT 25 4 58,aO 5 59] [4,5] (.ret)) (.skip)) [1,2,4] (sR [fO 60 25 2 0,lO 61 3 60,bQ .eql 62 3 61 1 3] [1,4,62] (cD 62 (sR [oO 63 (.build 25 #[]),mO 64 1,oO 65 (.slice 49 (xT 64) (some (nI 1)) none none),cB 66 22 63 65 25 49,xO 67 66 0,xO 68 66 1,sT 25 4 67,aO 5 68] [4,5] (.ret)) (.skip)))) (sR [bQ .eql 70 3 40 1 3,aO 69 70] [1,2,4,6,7,40,69] (cD 69 (sR [mO 71 1,bN 72 71 49,bQ .eql 73 3 72 1 3,mO 74 73,fG 75 25 2 0 74 true,lG 76 3 75 74 true,oG 77 (.binOp .eql 3 (xT 76) (nI 1) 3) 74 true,pF 78 74 77] [2,4,6,78] (cD 78 (sR [oO 79 (.build 25 #[(0,(nI 1))]),aL 8 25 [3],sT 25 8 79] [2,4,6,8] (sQ [fO 80 65 6 1,lO 81 3 80,fO 82 25 2 1,lO 83 22 82,bN 84 83 22,bB .lss 85 3 81 84 3,mO 86 85,fG 87 25 2 1 86 true,lG 88 22 87 86 true,fG 89 65 6 1 86 true,lG 90 3 89 86 true,oG 91 (iA 22 88 90) 86 true,lG 92 61 91 86 true,oG 93 (.binOp .neq 61 (xT 92) (.const (.int .u64 0)) 61) 86 true,pF 94 86 93] [2,4,6,8,94] (cD 94 (.reg [fO 95 25 2 1,lO 96 22 95,fO 97 65 6 1,lO 98 3 97,iO 99 22 96 98,lO 100 61 99,oO 101 (.buildSlice 22 1 #[(0,(xT 100))]),fO 102 25 8 1,sT 22 102 101] [4,8]) (.skip)) [4,8] (sR [lO 103 25 8,sT 25 4 103,aB 5 true] [4,5] (.ret)))) (.skip))) (sR [bQ .eql 105 3 40 2 3,aO 104 105] [1,2,4,6,7,104] (cD 104 (sR [mO 106 1,bN 107 106 49,bQ .eql 108 3 107 1 3,mO 109 108,mG 110 7 109 true,pF 111 109 110,mO 112 111,fG 113 65 6 1 112 true,lG 114 3 113 112 true,fG 115 25 2 2 112 true,lG 116 23 115 112 true,oG 117 (bL 116 23) 112 true,oG 118 (bO .leq 3 114 117 3) 112 true,pF 119 112 118] [2,4,119] (cD 119 (sR [fO 120 25 2 0,lO 121 3 120,oO 122 (.build 25 #[(0,(xT 121))]),sT 25 4 122,aB 5 true] [4,5] (.ret)) (.skip))) (.skip)))))))) [4] (sR [oO 123 (.build 25 #[]),sT 25 4 123,aB 5 false] [4,5] (.ret)))))))
theorem BH:BU Tryz.prog 22 124 [(.cell 4 25),(.tmp 5)] Bu:=AH Tryz.func22
def CD:CC:=sQ [mO 28 11,mO 29 10,bN 30 29 35,bB .lss 31 3 28 30 3] [4,10,11,31] (cD 31 (.skip) (.exit 0)) [4,10,11] (.seq (.block 1 (sR [lS 35 25 4 0,⟨some 36,(cL 21 #[(xT 35)] #[25]),none,[],1,[],true⟩,mO 37 10,mO 38 11,iO 39 35 37 38,fO 40 51 39 0,⟨some 41,(lD 49 40),none,[],6,[1],true⟩,⟨some 42,(cL 22 #[(xT 36),(xT 41)] #[25,49]),none,[],7,[],true⟩,mO 34 42,xO 43 34 0,xO 44 34 1,⟨some 12,(.alloc 25),none,[4],11,[0,1,6,7],false⟩,sT 25 12 43,aO 13 44] [4,10,11,12,13] (sQ [mO 45 13,oO 46 (.unOp .not 4 (xT 45)),mO 47 46,lG 48 25 12 47 false,mG 49 10 47 false,mG 50 11 47 false,oG 51 (iA 35 49 50) 47 false,fG 52 51 51 1 47 false,lG 53 25 52 47 false,oG 54 (cL 16 #[(xT 48),(xT 53)] #[25,25]) 47 false,oG 55 (.unOp .not 4 (xT 54)) 47 false,pT 56 47 55,mO 57 56,mG 58 10 57 false,mG 59 11 57 false,oG 60 (iA 35 58 59) 57 false,fG 61 51 60 2 57 false,lG 62 25 61 57 false,mG 63 10 57 false,mG 64 11 57 false,oG 65 (iA 35 63 64) 57 false,fG 66 51 65 3 57 false,lG 67 25 66 57 false,oG 68 (cL 16 #[(xT 62),(xT 67)] #[25,25]) 57 false,pT 69 57 68] [4,10,11,69] (cD 69 (sR [aB 8 false] [8] (.ret)) (.skip)) [4,10,11] (sR [mO 70 10,mO 71 11,iO 72 35 70 71,fO 73 51 72 2,lO 74 25 73,mO 75 10,mO 76 11,iO 77 35 75 76,fO 78 51 77 1,lO 79 25 78,cB 80 16 74 79 25 25,mO 81 80,mG 82 10 81 false,mG 83 11 81 false,oG 84 (iA 35 82 83) 81 false,fG 85 51 84 3 81 false,lG 86 25 85 81 false,mG 87 10 81 false,mG 88 11 81 false,oG 89 (iA 35 87 88) 81 false,fG 90 51 89 1 81 false,lG 91 25 90 81 false,oG 92 (cL 16 #[(xT 86),(xT 91)] #[25,25]) 81 false,pT 93 81 92] [4,10,11,93] (cD 93 (sR [aB 8 false] [8] (.ret)) (.skip)))))) (.keep [4,10,11] (.reg [mO 32 11,bQ .add 33 3 32 1 3,aO 11 33] [4,10,11]))) 
def GD:CC:=sR [bX 4 25 0 [0],bX 5 25 1 [1],bX 6 25 2 [2],aB 8 false] [3,4,5,6] (sQ [lO 14 25 4,lO 15 25 5,lO 16 25 6,cE 17 18 14 15 16 25 25 25,oO 18 (.unOp .not 4 (xT 17))] [3,4,5,6,18] (cD 18 (sR [oO 19 (cL 13 #[] #[]),aO 8 19] [8] (.ret)) (.skip)) [3,4,5,6] (sR [lO 21 25 4,lO 22 25 5,lO 23 25 6,mO 24 3,oO 25 (cL 19 #[(xT 21),(xT 22),(xT 23),(xT 24)] #[25,25,25,3]),mO 20 25,xO 26 20 0,xO 27 20 1,aL 9 25 [3],sT 25 9 26,aO 10 27] [4,10] (sQ [aI 11 0] [4,10,11] (.block 0 (.loop CD)) [] (sR [oO 94 (cL 13 #[] #[]),aO 8 94] [8] (.ret)))))
theorem Kk:BU Tryz.prog 7 95 [(.tmp 8)] GD:=AH Tryz.func7
end Go.Proofs.YtndnlknocdangaaGreat
namespace Go.Proofs.YtndnlknocdangaaGreat
open Go Go.G Go.Proofs Go.PL
theorem gO (l:CV):A.softL (l.map KC)=l.map KC:=by
 rw[Bi,List.map_map];rfl
set_option maxRecDepth 20000 in
theorem ry {o:T} {i:Nat} {r:CV} {b:T} (hb:i<65535) (hil:i<o.kids.length) {t:T} (hg:o.kids[i]=t) (S:G.Spec Tryz.prog 22 [tX t,Ce r] (.tup [tX b,bv true])) (k1:o.kind=1):G.Spec Tryz.prog 22 [tX o,Ce ((0,(i:Int))::r)] (.tup [tX b,bv true]):=by
 have hneg:¬ ((i:Int)<0):=by omega
 have hbig:¬ (65535≤(i:Int)):=by omega
 have hlz:¬ ((r.length:Int)+1=0):=by omega
 have h1:(1:Int)≤(r.length:Int)+1:=by omega
 refine Al BH (by simp) fun w0 I0=>?_;unfold Bu;simp[KC,hlz,hneg,hbig,hil,hg,k1,h1,AX,Aa];refine Af S (by simp) ?_;simp[Aa];exact CP ⟨Ad (by simp),Ad rfl,trivial⟩
set_option maxRecDepth 20000 in
theorem pN {o:T} {i:Nat} {r:CV} {b:T} (hb:i<65535) (hil:i<o.kids.length) {t:T} (hg:o.kids[i]=t) (S:G.Spec Tryz.prog 22 [tX t,Ce r] (.tup [tX b,bv true])) (k1:o.kind ≠ 1) (k2:2≤o.kind):G.Spec Tryz.prog 22 [tX o,Ce ((0,(i:Int))::r)] (.tup [tX b,bv true]):=by
 have hneg:¬ ((i:Int)<0):=by omega
 have hbig:¬ (65535≤(i:Int)):=by omega
 have hlz:¬ ((r.length:Int)+1=0):=by omega
 have h1:(1:Int)≤(r.length:Int)+1:=by omega
 refine Al BH (by simp) fun w0 I0=>?_;unfold Bu;simp[KC,hlz,hneg,hbig,hil,hg,k1,k2,h1,AX,Aa];refine Af S (by simp) ?_;simp[Aa];exact CP ⟨Ad (by simp),Ad rfl,trivial⟩
set_option maxRecDepth 20000 in
theorem pJ {o:T} {i:Nat} {r:CV} {b:T} (hb:i<65535) (hil:i<o.kids.length) {t:T} (hg:o.kids[i]=t) (S:G.Spec Tryz.prog 22 [tX t,Ce r] (.tup [tX b,bv true])) (k1:o.kind ≠ 1) (k2:¬ 2≤o.kind):G.Spec Tryz.prog 22 [tX o,Ce ((0,(i:Int))::r)] (.tup [tX b,bv true]):=by
 have hneg:¬ ((i:Int)<0):=by omega
 have hbig:¬ (65535≤(i:Int)):=by omega
 have hlz:¬ ((r.length:Int)+1=0):=by omega
 have h1:(1:Int)≤(r.length:Int)+1:=by omega
 refine Al BH (by simp) fun w0 I0=>?_;unfold Bu;simp[KC,hlz,hneg,hbig,hil,hg,k1,k2,h1,AX,Aa];refine Af S (by simp) ?_;simp[Aa];exact CP ⟨Ad (by simp),Ad rfl,trivial⟩
set_option maxRecDepth 20000 in
theorem xi {o:T} {i:Nat} {r:CV} {b:T} (hb:i<65535) (hil:¬ i<o.kids.length) (S0:G.Spec Tryz.prog 22 [.agg [iv 0,.sl true [],.sl true []],Ce r] (.tup [tX b,bv true])) (k1:o.kind=1):G.Spec Tryz.prog 22 [tX o,Ce ((0,(i:Int))::r)] (.tup [tX b,bv true]):=by
 have hneg:¬ ((i:Int)<0):=by omega
 have hbig:¬ (65535≤(i:Int)):=by omega
 have hlz:¬ ((r.length:Int)+1=0):=by omega
 have h1:(1:Int)≤(r.length:Int)+1:=by omega
 refine Al BH (by simp) fun w0 I0=>?_;unfold Bu;simp[KC,hlz,hneg,hbig,hil,k1,h1,AX,Aa];refine Af S0 (by simp) ?_;simp[Aa];exact CP ⟨Ad (by simp),Ad rfl,trivial⟩
set_option maxRecDepth 20000 in
theorem pL {o:T} {i:Nat} (hb:i<65535) (k1:o.kind=1) (hil:i<o.words.length) (hg:o.words[i]=0):G.Spec Tryz.prog 22 [tX o,Ce [(1,(i:Int))]] (.tup [tX (.mk 1 [] []),bv true]):=by
 have hneg:¬ ((i:Int)<0):=by omega
 have hbig:¬ (65535≤(i:Int)):=by omega
 refine Al BH (by simp) fun w0 I0=>?_;unfold Bu;simp[KC,hneg,hbig,k1,hil,hg,Aa];exact CP ⟨BZ ⟨Ad rfl,Am,Am,trivial⟩,Ad rfl,trivial⟩
set_option maxRecDepth 20000 in
theorem qg {o:T} {i:Nat} (hb:i<65535) (k1:o.kind=1) (hil:i<o.words.length) {z:Int} (hg:o.words[i]=z) (z0:z ≠ 0):G.Spec Tryz.prog 22 [tX o,Ce [(1,(i:Int))]] (.tup [tX (B5 z),bv true]):=by
 have hneg:¬ ((i:Int)<0):=by omega
 have hbig:¬ (65535≤(i:Int)):=by omega
 refine Al BH (by simp) fun w0 I0=>?_;unfold Bu;simp[KC,hneg,hbig,k1,hil,hg,z0,Aa];exact CP ⟨BZ ⟨Ad rfl,Am,Am,trivial⟩,Ad rfl,trivial⟩
set_option maxRecDepth 20000 in
theorem qY {o:T} {i:Nat} (hb:i<65535) (k1:o.kind=1) (hil:¬ i<o.words.length):G.Spec Tryz.prog 22 [tX o,Ce [(1,(i:Int))]] (.tup [tX (.mk 1 [] []),bv true]):=by
 have hneg:¬ ((i:Int)<0):=by omega
 have hbig:¬ (65535≤(i:Int)):=by omega
 refine Al BH (by simp) fun w0 I0=>?_;unfold Bu;simp[KC,hneg,hbig,k1,hil,Aa];exact CP ⟨BZ ⟨Ad rfl,Am,Am,trivial⟩,Ad rfl,trivial⟩
set_option maxRecDepth 20000 in
theorem tU {o:T} {i:Nat} (h2:2≤o.kind) (h9:o.kind≤9) (hi:i≤o.kids.length):G.Spec Tryz.prog 22 [tX o,Ce [(2,(i:Int))]] (.tup [tX (.mk o.kind [] []),bv true]):=by
 have hneg:¬ ((i:Int)<0):=by omega
 have k1:¬ (o.kind=1):=by omega
 have hi':(i:Int)≤o.kids.length:=by omega
 refine Al BH (by simp) fun w0 I0=>?_;unfold Bu;simp[KC,hneg,h2,h9,k1,hi',Aa];exact CP ⟨BZ ⟨Ad rfl,Am,Am,trivial⟩,Ad rfl,trivial⟩
set_option maxRecDepth 20000 in
theorem fQ {o:T} {r:CV} {b:T} (h:Zn o r b):AK o→G.Spec Tryz.prog 22 [tX o,Ce r] (.tup [tX b,bv true]):=by
 induction h with
 |here o=>
  intro wo;refine Al BH (by simp) fun w0 I0=>?_;unfold Bu;simp;refine Af (So o wo) rfl ?_;simp[Aa];have e1:tX (Ag o) = .agg [iv o.kind,DN (Ag o).words,BG (Ag o).kids]:=by simp
  show IZ _ _ (.tup [tX (Ag o),bv true]);rw[e1];exact CP ⟨BZ ⟨Ad rfl,Am,Am,trivial⟩,Ad rfl,trivial⟩
 |kid o i r b hi hb g ih=>
  intro wo;have S:=ih (qC wo i);by_cases hil:i<o.kids.length
  ·have hg:o.kids[i]=o.kids.getD i T0:=by rw[List.getD_eq_getElem?_getD,List.getElem?_eq_getElem hil];rfl
   by_cases k1:o.kind=1
   ·exact ry hb hil hg S k1
   ·by_cases k2:2≤o.kind
    ·exact pN hb hil hg S k1 k2
    ·exact pJ hb hil hg S k1 k2
  ·have h0:o.kids.getD i T0=T0:=by rw[List.getD_eq_getElem?_getD,List.getElem?_eq_none (by omega)];rfl
   rw[h0] at S;exact xi hb hil (S.soft (by
    show [tX T0,.sl false (A.softL (r.map KC))]=_;rw[gO])) (hi.resolve_left hil)
 |word o i hk hb=>
  intro wo;have hz:Ag (B5 0) = .mk 1 [] []:=by rw[B5,Ci,if_neg (by decide),if_pos rfl];rfl
  by_cases hil:i<o.words.length
  ·have hg:o.words[i]=o.words.getD i 0:=by rw[List.getD_eq_getElem?_getD,List.getElem?_eq_getElem hil];rfl
   by_cases z0:o.words.getD i 0=0
   ·rw[z0,hz];exact pL hb hk hil (hg.trans z0)
   ·rw[DU z0];exact qg hb hk hil hg z0
  ·have h0:o.words.getD i 0=0:=by rw[List.getD_eq_getElem?_getD,List.getElem?_eq_none (by omega)];rfl
   rw[h0,hz];exact qY hb hk hil
 |gap o i hk hi=>
  intro wo;rw[show Ag (.mk o.kind [] []) = .mk o.kind [] [] from by rw[Ci,if_neg (by omega),if_neg (by omega)];rfl];exact tU hk.1 hk.2 hi
def CfB (o:T) (c:Cf):Prop:=qt c∧Zn (Ag o) c.path c.base∧c.ours ≠ c.theirs∧c.ours ≠ c.base∧c.theirs ≠ c.base
theorem W2 {a b:T} (h:a ≠ b):ET a b=false:=by
 cases e:ET a b with
 |false=>rfl
 |true=>exact absurd (sameB_iff.1 e) h
variable {n0:Nat} {w0:World} {I0:Nat→Prop} {Q:Exit→Sta→Prop}
theorem nH {o:T} (wo:AK o) {l:List Cf} (hl:l.length≤10000000000000) (hc:∀ c,c ∈ l→CfB o c)
  (hq:∀ (H':Hp),Q (.exit 0) ⟨lk [(4,.pob [0] 1 0),(10,vZ l),(11,iv l.length),(31,bv false)],H'⟩) :
  ∀ (j i:Nat) (H:Hp),i+j=l.length→H [0]=⟨1,.cells (tL o)⟩ →
  LoopC (cx Tryz.prog w0 I0 n0) CD Q ⟨lk [(4,.pob [0] 1 0),(10,vZ l),(11,iv i)],H⟩:=by
 intro j;induction j with
 |zero=>
  intro i H hj h1;have:i=l.length:=by omega
  subst this;refine Ab Ai CD.eq_1 ?_;simp;exact hq H
 |succ j ih=>
  intro i H hj h1;have hlt:i<l.length:=by omega
  have ew:=AW i;obtain⟨⟨w1,w2,w3⟩,g,d1,d2,d3⟩:=hc _ (C5 hlt);generalize hx:l[i]=c at *;have N:=So o wo;have G:=fQ g (CQ o wo);have S1:=HB _ w1 c.base;rw[show ET c.base c.base=true from sameB_iff.2 rfl] at S1;have S2:=HB _ w2 c.theirs;rw[W2 d1] at S2;have S3:=HB _ w2 c.base;rw[W2 d2] at S3;have S4:=HB _ w3 c.base;rw[W2 d3] at S4;refine Ab Ai CD.eq_1 ?_;simp[hlt,hx,h1];refine Af N rfl ?_;simp[hlt,hx];refine Af G (by simp) ?_;simp[hlt,hx,Aa];refine FQ rfl (fun _=>S1) (fun _=>by simp) (by simp) ?_;simp[hlt,hx,Aa];refine FQ rfl (fun _=>S2) (fun _=>by simp) (by simp) ?_;simp[hlt,hx,Aa];refine Af S3 (by simp) ?_;simp[hlt,hx,Aa];refine FQ rfl (fun _=>S4) (fun _=>by simp) (by simp) ?_;simp;rw[ew];exact ih (i+1) _ (by omega) (by simp[Aa,h1])
theorem S6 {o x y:T} (ho:AK o) (hx:AK x) (hy:AK y) {most:Int} (hm:BN most):G.Spec Tryz.prog 7 [tX o,tX x,tX y,iv most] (bv true):=by
 have T3:=bW ho hx hy;refine Al Kk (by simp) fun w0 I0=>?_;unfold GD;simp;refine Af T3 (by simp) ?_;cases hg:G6 o&&G6 x&&G6 y with
 |false=>
  simp;refine Af Oq (by simp) ?_;simp;exact Ad rfl
 |true=>
  simp only[Bool.and_eq_true] at hg;have g1:=aG ho hg.1.1;have g2:=aG hx hg.1.2;have g3:=aG hy hg.2;have A1:=dn (most:=most) g1 g2 g3 hm;obtain⟨w1,w2,w3,w4,w5⟩:=vk (most:=most) g1 g2 g3;have oo:=Ee o ho g1.p 1000 g1.p;have D1:Df most 1000 (VJ most o x) (Ag o) (Ag x):=⟨oo,⟨1000,Ee x hx g2.p 1000 g2.p⟩,IE 1000 64 _ (GU o 64 g1.r),IE 1000 64 _ (GU x 64 g2.r),rfl⟩;have D2:Df most 1000 (VJ most o y) (Ag o) (Ag y):=⟨oo,⟨1000,Ee y hy g3.p 1000 g3.p⟩,IE 1000 64 _ (GU o 64 g1.r),IE 1000 64 _ (GU y 64 g3.r),rfl⟩;have hB:∀ c,c ∈ (Kl most o x y).2→CfB o c:=fun c hc=>by
   obtain⟨r,r1,r2,r3⟩:=mb most 1000 [] _ _ _ _ _ D1 D2 c hc;rw[List.nil_append] at r1;exact⟨w1 c hc,by rw[r1];exact r2,r3⟩
  generalize Kl most o x y=M at *;simp;refine Af A1 (by simp) ?_;simp[Aa];refine LoopC.le (Ao [(4,.pob [0] 1 0),(10,vZ M.2),(11,iv (0:Nat))] (by simp)) ?_;refine nH ho w3 hB (fun H'=>?_) M.2.length 0 _ (Nat.zero_add _) (by simp);simp;refine Af Oq (by simp) ?_;simp;exact Ad rfl
end Go.Proofs.YtndnlknocdangaaGreat
namespace Go.Proofs.YtndnlknocdangaaGreat
open Go Go.G Go.Proofs Go.PL Go.RowKit
theorem pz {m:Int} (h:(Lit.int .i64 m).wf=true):BN m:=by
 simp[Lit.wf,IntKind.min,IntKind.max,IntKind.bits,IntKind.signed] at h;unfold BN;omega
theorem pZ {m:Int} (h:(Lit.int .u64 m).wf=true):Bo m:=by
 simp[Lit.wf,IntKind.min,IntKind.max,IntKind.bits,IntKind.signed] at h;unfold Bo;omega
theorem Zq:Tryz.prog.underlying 3=some (.int .i64):=by kernel_rfl
theorem ZE:Tryz.prog.underlying 61=some (.int .u64):=by kernel_rfl
theorem AaP {n:Nat} {b:List A} (h:Has Tryz.prog n 3 b):∃ m,BN m∧b=[iv m]:=by
 cases n with
 |zero=>exact h.elim
 |succ n=>
  unfold Has at h;rw[Zq] at h;obtain⟨m,hm,rfl⟩:=h;exact⟨m,pz hm,rfl⟩
theorem AgT {n:Nat} {b:List A} (h:Has Tryz.prog n 61 b):∃ m,Bo m∧b=[uv m]:=by
 cases n with
 |zero=>exact h.elim
 |succ n=>
  unfold Has at h;rw[ZE] at h;obtain⟨m,hm,rfl⟩:=h;exact⟨m,pZ hm,rfl⟩
theorem Aae {α:Type} {xs:List A} {g:α→A} {R:α→Prop} (h:∀ x,x ∈ xs→∃ y,R y∧x.soft=g y):∃ l:List α,A.softL xs=l.map g∧l.length=xs.length∧∀ y,y ∈ l→R y:=by
 induction xs with
 |nil=>exact⟨[],rfl,rfl,fun y h=>nomatch h⟩
 |cons x xs ih=>
  obtain⟨y,hy,e⟩:=h x (by simp);obtain⟨l,e2,e3,hl⟩:=ih fun z hz=>h z (by simp[hz]);refine⟨y::l,by simp[A.softL,e,e2],by simp[e3],fun z hz=>?_⟩;rcases List.mem_cons.1 hz with rfl | hz
  ·exact hy
  ·exact hl z hz
theorem tn {P:Program} {t e:TypeId} {m:Nat} (u:P.underlying t=some (.slice e)) (hb:P.bytesOf e=m) {n:Nat} {b:List A} (h:Has P n t b) {α:Type} {g:α→A} {R:α→Prop} (hx:∀ k b,k<n→Has P k e b→∃ y,R y∧(mk P e b).soft=g y) :
  ∃ (f:Bool) (xs:List A) (l:List α),b=[.sl f xs]∧A.softL xs=l.map g∧l.length*m≤140737488355328∧∀ y,y ∈ l→R y:=by
 cases n with
 |zero=>exact h.elim
 |succ n=>
  unfold Has at h;rw[u] at h;obtain⟨f,xs,rfl,_,hz,hf,hx'⟩:=h;rw[hb] at hz;obtain⟨l,e1,e2,hl⟩:=Aae (g:=g) (R:=R) (xs:=xs) fun x hxx=>by
   obtain⟨b,hb',rfl⟩:=hx' x hxx;exact hx n b (by omega) hb'
  exact⟨f,xs,l,rfl,e1,by rw[e2];exact Nat.le_trans hz (by decide),hl⟩
theorem xe (b:List A):mk Tryz.prog 3 b=b.headD .any:=by unfold mk;rw[Zq]
theorem uj (b:List A):mk Tryz.prog 61 b=b.headD .any:=by unfold mk;rw[ZE]
theorem AbG {n:Nat} {b:List A} (h:Has Tryz.prog n 22 b):∃ (f:Bool) (xs:List A) (l:List Int),b=[.sl f xs]∧A.softL xs=l.map uv∧l.length*8≤140737488355328∧∀ y,y ∈ l→Bo y:=
 tn (e:=61) (by kernel_rfl) (by kernel_rfl) h fun k b _ hb=>by
  obtain⟨m,h1,rfl⟩:=AgT hb;exact⟨m,h1,by rw[uj];rfl⟩
theorem Yw:Tryz.prog.underlying 25=some (.struct (Tryz.prog.fieldsOf 25)):=by kernel_rfl
theorem n6:(Tryz.prog.fieldsOf 25).toList.map Field.type=[3,22,23]:=by kernel_rfl
theorem RC (b:List A):mk Tryz.prog 25 b = .agg b:=by unfold mk;rw[Yw]
theorem XA:∀ (n:Nat) (b:List A),Has Tryz.prog n 25 b→∃ t,AK t∧A.softL b=[iv t.kind,DN t.words,BG t.kids]:=by
 intro n;induction n using Nat.strongRecOn with
 |ind n ih=>
  intro b h;cases n with
  |zero=>exact h.elim
  |succ n=>
   unfold Has at h;rw[Yw] at h;simp only at h;rw[Sx,n6] at h;obtain⟨_,_,rfl,h1,_,_,rfl,h2,_,_,rfl,h3,rfl⟩:=h;obtain⟨k,hk,rfl⟩:=AaP h1;obtain⟨f,xs,w,rfl,e2,l2,r2⟩:=AbG h2;obtain⟨f3,ys,l,rfl,e3,l3,r3⟩:=tn (m:=56) (e:=25) (g:=tA) (R:=AK) (by kernel_rfl) (by kernel_rfl) h3 fun j b hj hb=>by
    obtain⟨t,ht,e⟩:=ih j (by omega) b hb;exact⟨t,ht,by rw[RC];simp only[A.soft,e];rw[tA_eq]⟩
   refine⟨.mk k w l,wfT_iff.2 ⟨hk,r2,l2,l3,r3⟩,?_⟩;simp only[List.cons_append,List.nil_append,List.append_nil,A.softL,A.soft,e2,e3];rfl
end Go.Proofs.YtndnlknocdangaaGreat
namespace Go.Proofs.YtndnlknocdangaaGreat
open Go Go.G Go.Proofs Go.PL Go.RowKit
set_option maxRecDepth 100000 in
theorem said_mergeBase (xs:List A) (h:ArgsHas Tryz.prog Tryz.f7.params.toList xs):G.Spec Tryz.prog 7 xs (.v (.bool true)):=by
 have h:ArgsHas Tryz.prog [25,25,25,3] xs:=h
 match xs,h with
 |[a,a2,a4,a3],⟨⟨n,b,h1,h2⟩,⟨n2,b2,h12,h22⟩,⟨n4,b4,h14,h24⟩,⟨n3,b3,h13,h23⟩,_⟩=>
  obtain⟨t,ht,et⟩:=XA _ _ h1;obtain⟨t2,ht2,et2⟩:=XA _ _ h12;obtain⟨t4,ht4,et4⟩:=XA _ _ h14;obtain⟨m,hm,rfl⟩:=AaP h13;rw[h2,RC,h22,RC,h24,RC,h23,xe];exact(S6 ht ht2 ht4 hm).soft (by simp only[A.softL,A.soft,et,et2,et4];rfl)
end Go.Proofs.YtndnlknocdangaaGreat
namespace Go.G
open Go.RowKit Go.ChangeShapes Go.WideShapes
section
variable {H:Type} {enc:TypeId × Value→H} {P:Program}
def L0 (P:Program) (ts:List TypeId):Bool:=ts.all fun t=>P.readableRec t&&decide (t<P.types.size)
theorem MZ (hl:laidOutB P=true) {W W':World} (hb:Below W.heap.size W W') (sp:Nat→Bool):∀ {ts:List TypeId} {vs:List Value} {ds:List (DataW H)} {ps:List MemPlace},L0 P ts=true →
  DataW.TrodAll enc P W 0 (fun _=>true) true ts vs ds ps→(∀ x ∈ ps,x.block<W.heap.size)→(∀ x ∈ ps,sp x.block=true)→DataW.TrodAll enc P W' 0 sp true ts vs ds ps
 |[],_,_,_,_,h,_,_=>by
  obtain⟨rfl,rfl,rfl⟩:=trodAll_nil h;exact trodAll_mk0
 |t::ts,_,_,_,hr,h,hlt,hsp=>by
  obtain⟨v,vs,d,ds,p,q,rfl,rfl,rfl,h1,h2⟩:=trodAll_cons h;simp only[L0,List.all_cons,Bool.and_eq_true,decide_eq_true_eq] at hr;exact⟨p,q,WideElems.Trod_stays hl hr.1.1 hr.1.2 h1 (fun x hx=>hb.same (hlt x (by simp[hx]))) (fun x hx=>hsp x (by simp[hx])),
   MZ hl hb sp (by simpa[L0] using hr.2) h2 (fun x hx=>hlt x (by simp[hx])) (fun x hx=>hsp x (by simp[hx])),rfl⟩
theorem LD {w:World} {base:Nat} {spare:Nat→Bool} {held:Bool}:∀ {ts:List TypeId} {vs:List Value} {ds:List (DataW H)} {ps:List MemPlace},DataW.TrodAll enc P w base spare held ts vs ds ps→ds.length=ts.length∧vs.length=ts.length
 |[],_,_,_,h=>by
  obtain⟨rfl,rfl,rfl⟩:=trodAll_nil h;exact⟨rfl,rfl⟩
 |t::ts,_,_,_,h=>by
  obtain⟨v,vs,d,ds,p,q,rfl,rfl,rfl,h1,h2⟩:=trodAll_cons h;have:=LD h2;simp[this]
theorem nA {f:Func} {s:ChangeSpec} {apart fresh handsOn again:Bool} {W W':World} {args:Array Value} {ds gs:List (DataW H)} {before:List MemPlace} {t:TypeId}
  (hl:laidOutB P=true) (hp:L0 P f.params.toList=true) (hsv:s.vars=[]) (hW:DataW.Whole enc P f.params.toList s.vars apart W args.toList ds gs before) (hB:Below W.heap.size W W')
  (hrt:f.resultTypes = #[t]) (ht:P.underlying t=some .bool) (hfn:∀ ds':List (DataW H),ds'.length=f.params.size→s.fn H ds'={ results:=[.lit (.bool true)],args:=ds' }) :
  s.post enc P f apart fresh handsOn again W args (.bool true) W':=by
 have hlt:=hW.lt;have hW':=hW;obtain⟨p,q,hA,hV,rfl,hz,hn⟩:=hW';rw[hsv] at hV;obtain⟨rfl,rfl⟩:=trodVars_none hV;have hfn:=hfn ds (by have:=(LD hA).1;simpa using this);simp only[List.append_nil] at hlt hz hn;have hA':=fun sp=>MZ hl hB sp hp hA hlt;have hr:∀ (b:Nat) (sp:Nat→Bool) (hd:Bool),DataW.TrodAll enc P W' b sp hd f.resultTypes.toList ((Value.bool true).resultList f.resultTypes.size) [.lit (.bool true)] []:=fun b sp hd=>by
  rw[hrt];exact trodAll_cons_mk (shut_bool ht _) trodAll_mk0
 refine⟨ds,[],p++[],[],p,[],hW,?_,?_,?_,Below.frame hB _,fun _=>?_⟩
 ·simp only[List.append_nil,hfn];exact hr _ _ _
 ·simp only[List.append_nil,hfn];exact hA' _ (fun x hx=>by simpa using hlt x hx)
 ·simp only[List.append_nil,hfn,hsv];exact rfl
 ·refine⟨ok_one hrt rfl (okWide_bool_mk ht _),_,[],([]++p)++[],⟨[]++p,[],trodAll_append (hA' (fun _=>true) (fun _ _=>rfl)) (hr _ _ _),by rw[hsv];rfl,rfl,?_,?_⟩,?_⟩
  ·intro b off hx;have hx:MemPlace.cell b off ∈ p:=by simpa using hx
   rw[Below.frozen hB (hlt _ hx)];exact hz b off hx
  ·intro ha;have:=hn ha;simpa using this
  ·intro x hx _;simpa using hx
theorem law_calls {f:Func} {fid:FuncId} {s:ChangeSpec} {apart fresh handsOn again:Bool} {W:World} {base:Nat} {args:Array Value} {ds gs:List (DataW H)} {before:List MemPlace} {t:TypeId} (S:List TypeId)
  (hl:laidOutB P=true) (hp:L0 P f.params.toList=true) (hS:Lo P S=true) (hts:f.params.toList.all S.contains=true) (hsv:s.vars=[]) (hrt:f.resultTypes = #[t]) (ht:P.underlying t=some .bool)
  (hfn:∀ ds':List (DataW H),ds'.length=f.params.size→s.fn H ds'={ results:=[.lit (.bool true)],args:=ds' })
  (hspec:∀ as',ArgsHas P f.params.toList as'→Spec P fid as' (.v (.bool true))) (htb:Tabs P W (sV W))
  (hval:∀ (j:Nat) t v,f.params[j]? = some t→args[j]? = some v→Value.okWide P W .any base t v) (hW:DataW.Whole enc P f.params.toList s.vars apart W args.toList ds gs before)
  (hwt:(DataW.weightsEach P (f.params.toList++s.plain.varTypes P) (ds++gs)).all (·≤reachBytes)=true) :
  Calls P fid args W fun e W'=>∃ v,e = .returned v∧s.post enc P f apart fresh handsOn again W args v W':=by
 have hW':=hW;obtain⟨p,q,hA,hV,rfl,hz,hn⟩:=hW;have hV':=hV;rw[hsv] at hV';obtain⟨rfl,_⟩:=trodVars_none hV';have hwt':∀ m,m ∈ DataW.weightsEach P f.params.toList ds→m≤reachBytes:=by
  have e:s.plain.varTypes P=[]:=by simp[ChangeSpec.plain,DataSpec.varTypes,hsv]
  rw[e,List.append_nil,List.append_nil,List.all_eq_true] at hwt;exact fun m hm=>by simpa using hwt m hm
 obtain⟨as',h1,h2,h3⟩:=OT hS (fun t ht=>by rw[List.all_eq_true] at hts;simpa using hts t ht) hwt' hA (fun j u v hj hv=>hval j u v (by simpa using hj) (by simpa using hv));refine((hspec as' h2).2 W (sV W) args (fun _ h=>h) htb (by simpa using h1.symm) (fun k y hk=>?_)).mono fun e W' ⟨v,he,hB,hr⟩=>?_
 ·have:=h3 k y hk;simpa[List.getD,Array.getD_eq_getD_getElem?] using this
 ·cases hr;exact⟨_,he,nA hl hp hsv hW' hB hrt ht hfn⟩
end
end Go.G
