/-
 Texts,merged,without what is not reached.
-/
import Derived.Test.YtlaapfplenlfaaaGreatKRe
set_option linter.unusedSimpArgs false
set_option linter.unusedVariables false
open Go.IntKind (i64 u64)
namespace Go.Proofs.YtlaapfplenlfaaaGreat
open Go Go.G Go.Proofs Go.PL
inductive IT where
 |r (x:RI)
 |got (o:OP)
def IT.op:IT->OP
 |.r x=>x.op
 |.got o=>o
def fq:IT->List A
 |.r x=>Tj x
 |.got o=>(oA o).cells
def Ri(x:IT):A:=.agg (fq x)
@[simp]theorem Age{x:IT}:(Ri x).cells=fq x:=rfl
@[simp]theorem Alg{x:IT}:(fq x).length=14:=by
 cases x with
 |r x=>simp[fq]
 |got o=>simp[fq]
theorem Dq{l:List IT}:E8 14 (l.map Ri)=true:=by rw[Jb];simp
theorem AeY{H:Hp}(x:IT):IV H (fq x) (oA x.op).cells:=by
 cases x with
 |r x=>exact y3 x
 |got o=>exact NK (by simp[fq])
theorem Xu{H:Hp}{o:Nm}{u n:Nat}{its:List IT}(h1:H o=⟨u,.arr 14 (its.map Ri)⟩)(hn:n=its.length):Iz H (.osl o u 14 0 n) (HQ (its.map IT.op)):=by
 subst hn;refine LX (o:=o) (u:=u) (off:=0) (len:=its.length) (sz:=14) (xs:=its.map Ri) (ys:=(its.map IT.op).map oA) (by rw[Qw,h1];simp) iS iS (fun y hy=>by
  obtain⟨x,_,rfl⟩:=List.mem_map.1 hy;simp) ?_ ?_
 ·have:∀l:List OP,A.ones ((l.map oA).flatMap A.cells)=true:=fun l=>by
   induction l with
   |nil=>rfl
   |cons x l ih=>simp[A.ones]at ih ⊢
  exact this _
 ·rw[List.drop_zero,Ax iS,List.map_map];have:∀l:List IT,IV H ((l.map Ri).flatMap A.cells) ((l.map (oA ∘ IT.op)).flatMap A.cells):=fun l=>by
   induction l with
   |nil=>trivial
   |cons x l ih=>
    simp only[List.map_cons,List.flatMap_cons];exact Ur (AeY x) ih iS
  exact this its
theorem wW{H:Hp}(k:Int)(l:List T):Iz H (.sl true [.agg (iv k::iv 0::AV l::AY)]) (HQ [OP.mk k 0 l E0]):=by
 have h:=jT (H:=H) (a:=.sl true [.agg (iv k::iv 0::AV l::AY)]) (by simp[AY]);have e:(A.sl true [.agg (iv k::iv 0::AV l::AY)]).soft=HQ [OP.mk k 0 l E0]:=by simp[A.soft,A.softL,AY,Hf]
 rw[e]at h;exact h
theorem Y0(k:Int)(l:List T):G.Spec Tryz.prog 183 [iv k,AV l] (HQ (if l=[]then []else [.mk k 0 l E0])):=by
 refine Aj iZ iS fun w0 I0=>?_;rw[Ao WH.eq_1];by_cases h:l=[]
 ·simp[h];exact Ai
 ·have:¬l.length=0:=by simpa using h
  simp[h,this];exact wW k l
theorem N6(l:List T):G.Spec Tryz.prog 162 [AV l] (HQ (Dd l)):=by
 refine Aj aA iS fun w0 I0=>?_;rw[Ao RT.eq_1];simp;refine Ae (Y0 1 l) iS ?_;simp;exact Ad iS
theorem OD(l:List T):G.Spec Tryz.prog 160 [AV l] (HQ (Cb l)):=by
 refine Aj aI iS fun w0 I0=>?_;rw[Ao RF.eq_1];simp;refine Ae (Y0 2 l) iS ?_;simp;exact Ad iS
theorem U8(t:T)(i:Nat):G.Spec Tryz.prog 139 [tX t,iv i] (uv (t.words.getD i 0)):=by
 refine Aj Uv iS fun w0 I0=>?_;rw[Ao ML.eq_1];by_cases h:i<t.words.length
 ·simp[h];exact Ad rfl
 ·simp[h,List.getElem?_eq_none (Nat.le_of_not_lt h)];exact Ad rfl
theorem Wv(t:T)(i:Nat):G.Spec Tryz.prog 140 [tX t,iv i] (tX (t.kids.getD i T0)):=by
 refine Aj V3 iS fun w0 I0=>?_;rw[Ao Nz.eq_1];by_cases h:i<t.kids.length
 ·simp[h];exact Ad rfl
 ·simp[h,List.getElem?_eq_none (Nat.le_of_not_lt h)];exact Bb ⟨Ad rfl,Ai,Ai,trivial⟩
theorem AcR{l:List IT}:∀x,x∈l.map Ri->F5 (fun _=>x):=fun x hx=>by
 obtain⟨o,_,rfl⟩:=List.mem_map.1 hx;refine Fb (cs:=fq o) rfl fun y hy=>?_;cases o with
 |r o=>exact List.all_eq_true.1 (show(fq (.r o)).all A.bare1=true by cases o<;>rfl) y hy
 |got o=>exact List.all_eq_true.1 (show(fq (.got o)).all A.bare1=true by simp[fq,A.bare1]) y hy
abbrev itM(u:Nat)(l:List IT):Fam:=sc u 14 (l.map Ri) AcR
def Z7(k:Int)(l:List T):List IT:=if l=[]then []else if k=1 then [.r (.del l)]else [.r (.ins l)]
theorem LG(out:List IT)(u:Nat)(hu:1<=u)(hl:out.length<=1000000){k:Int}(hk:k=1\/k=2)(l:List T):SpecF Tryz.prog 144 (fun r=>[.osl [r] u 14 0 out.length,iv k,AV l]) (itM u out) (fun r=>.osl [r] (u+(Z7 k l).length) 14 0 (out++Z7 k l).length) (itM (u+(Z7 k l).length) (out++Z7 k l)):=by
 refine Az U3 iS (Af BH (Af AH (Af Bp Ak))) BH fun w0 I0 M0 m0=>?_;rw[Ao Me.eq_1];by_cases h:l=[]
 ·simp[h,Z7];exact Av rfl rfl (fun p=>iS)
 ·have:¬l.length=0:=by simpa using h
  rcases hk with rfl|rfl
  ·simp[h,this,Z7,Dq];refine⟨oF,?_⟩;refine Av rfl rfl (fun p=>?_);by_cases h1:p=[]
   ·subst h1;simp[Aa,Ri,fq,Tj,AY,Ax]
   ·simp[h1,Aa]
  ·simp[h,this,Z7,Dq];refine⟨oF,?_⟩;refine Av rfl rfl (fun p=>?_);by_cases h1:p=[]
   ·subst h1;simp[Aa,Ri,fq,Tj,AY,Ax]
   ·simp[h1,Aa]
variable {n0:Nat} {w0:World} {I0:Nat->Prop} {Q:Exit->Sta->Prop}
theorem Ah3{a b:List T}(hb:∀t,t∈b->Ay t)(hbl:b.length<=1000000){most:Int}{x:T}(hx:Ay x){R:A}{N i w:Nat}{H0:Hp}
  (hq:∀(H':Hp)(v:Nat),H' [2]=⟨v,.arr 1 ((b.map fun y=>(DK x y:Int)).map iv)⟩->(∀o,o≠[1]->o≠[2]->H' o=H0 o)->Q (.exit 2) ⟨lk [(1,AV a),(2,AV b),(3,iv most),(9,R),(11,.pob [0] w 0),(12,.osl [2] v 1 0 b.length),(20,AV a),(21,iv N),(22,iv i),(26,AV b),(27,iv b.length),(28,iv b.length),(29,bv false)],H'⟩) :
  ∀(m j:Nat)(v:Nat)(H:Hp),j+m=b.length->H [0]=⟨w,.cells (tL x)⟩->H [2]=⟨v,.arr 1 (((b.take j).map fun y=>(DK x y:Int)).map iv)⟩->(∀o,o≠[1]->o≠[2]->H o=H0 o) ->
  LoopC (cx Tryz.prog w0 I0 n0) Mn Q ⟨lk [(1,AV a),(2,AV b),(3,iv most),(9,R),(11,.pob [0] w 0),(12,.osl [2] v 1 0 j),(20,AV a),(21,iv N),(22,iv i),(26,AV b),(27,iv b.length),(28,iv j)],H⟩:=by
 intro m;induction m with
 |zero=>
  intro j v H hm h0 h2 hH;have:j=b.length:=oF
  subst this;rw[Ax (Cq _)]at h2;refine Ab Ah (Ao Mn.eq_1) ?_;simp;exact hq H v h2 hH
 |succ m ih=>
  intro j v H hm h0 h2 hH;have hlt:j<b.length:=oF
  have ew:=Ap j;have htk:b.take (j+1)=b.take j++[b[j]]:=HJ hlt;have next:=ih (j+1)
  rw[htk]at next
  refine Ab Ah (Ao Mn.eq_1) ?_;simp[hlt,h0,Aa];refine Ae (ij hx (hb _ (Bv hlt))) iS ?_;simp[h2,Aa,Nat.min_eq_left (Nat.le_of_lt hlt)];refine⟨oF,?_⟩;rw[ew];refine next (v+1) _ oF (by simp[Aa,h0]) ?_ (fun o h1 h2'=>by simp[Aa,h1,h2',hH])
  simp[Aa];rw[HJ (by simpa using hlt)];simp[List.take_take]
abbrev dZ(r:List Int):A:=.sl false (r.map iv)
theorem Ag9{a b:List T}(ha:∀t,t∈a->Ay t)(hb:∀t,t∈b->Ay t)(hal:a.length<=1000000)(hbl:b.length<=1000000){most:Int}
  (hq:∀(H':Hp),H' [3]=⟨a.length+1,.arr 1 ((KC a b).map dZ)⟩->H' [5]=⟨0,.none⟩->Q (.exit 0) ⟨lk [(1,AV a),(2,AV b),(3,iv most),(9,.osl [3] (a.length+1) 1 0 a.length),(20,AV a),(21,iv a.length),(22,iv a.length),(23,bv false)],H'⟩) :
  ∀(m i:Nat)(H:Hp),i+m=a.length->H [3]=⟨i+1,.arr 1 ((KC (a.take i) b).map dZ)⟩->H [5]=⟨0,.none⟩ ->
  LoopC (cx Tryz.prog w0 I0 n0) Mg Q ⟨lk [(1,AV a),(2,AV b),(3,iv most),(9,.osl [3] (i+1) 1 0 i),(20,AV a),(21,iv a.length),(22,iv i)],H⟩:=by
 intro m;induction m with
 |zero=>
  intro i H hm h3 h5;have:i=a.length:=oF
  subst this;rw[Ax (Cq _)]at h3;refine Ab Ah (BG Mg.eq_1) ?_;simp;exact hq H h3 h5
 |succ m ih=>
  intro i H hm h3 h5;have hlt:i<a.length:=oF
  have ew:=Ap i;have htk:a.take (i+1)=a.take i++[a[i]]:=HJ hlt;have next:=ih (i+1)
  rw[htk]at next
  have hrl:(KC (a.take i) b).length=i:=by simp[KC];omega
  refine Ab Ah (BG Mg.eq_1) ?_;simp[hlt];refine LoopC.le (BC 12 [2] 1 iS) ?_;refine LoopC.le (Al [(1,AV a),(2,AV b),(3,iv most),(9,.osl [3] (i+1) 1 0 i),(11,.pob [0] ((H [0]).u+1) 0),(12,.osl [2] ((H [2]).u+1) 1 0 0),(20,AV a),(21,iv a.length),(22,iv i),(26,AV b),(27,iv b.length),(28,iv (0:Nat))] (by simp[upd,Aa])) ?_;refine Ah3 (a:=a) hb hbl (ha _ (Bv hlt)) (H0:=Ar H [0] ⟨(H [0]).u+1,.cells (tL a[i])⟩) (fun H' v g2 gH=>?_) b.length 0 ((H [2]).u+1) _ oF (by simp[Aa]) (by simp[Aa]) (fun o h1 h2=>by simp[Aa,h1,h2]);simp;refine Dn (Jr (d:=[2]) (fun _ h=>h) 12 (dZ (b.map fun y=>(DK a[i] y:Int))) fun H1 e1=>?_) ?_
  ·simp;exact AQ (f:=iv) (l:=b.map fun y=>(DK a[i] y:Int)) (by rw[e1,g2];simp) iS (fun x=>iS)
  ·refine Dn (Al [(1,AV a),(2,AV b),(3,iv most),(9,.osl [3] (i+1) 1 0 i),(12,dZ (b.map fun y=>(DK a[i] y:Int))),(20,AV a),(21,iv a.length),(22,iv i)] (by simp[upd])) (Dr ?_);have g3:H' [3]=H [3]:=by rw[gH _ iS iS];simp[Aa]
   have g5:H' [5]=H [5]:=by rw[gH _ iS iS];simp[Aa]
   simp[Aa,g3,h3,hrl];refine⟨oF,?_⟩;rw[ew];refine next _ oF ?_ (by simp[Aa,g5,h5])
   have e1:List.take i (List.map dZ (KC (List.take i a) b))=List.map dZ (KC (List.take i a) b):=Ax (by simp[KC];omega);simp[Aa,e1,KC];rw[HJ (by simpa using hlt)];simp[List.take_take]
def fN(la lb:Nat):Nat->Nat->List Sc->Prop
 |i,j,[]=>i<=la/\j<=lb
 |i,j,x::P=>i<=x.i/\j<=x.j/\x.i<la/\x.j<lb/\fN la lb (x.i+1) (x.j+1) P
theorem lJ{la lb:Nat}:∀(P:List Sc)(i j:Nat),i<=la->j<=lb->(∀x,x∈P->i<=x.i/\j<=x.j/\x.i<la/\x.j<lb)->(P.Pairwise fun p q=>p.i<q.i/\p.j<q.j)->fN la lb i j P
 |[],i,j,h1,h2,_,_=>⟨h1,h2⟩
 |x::P,i,j,h1,h2,h3,h4=>by
  obtain⟨g1,g2,g3,g4⟩:=h3 x iS;rw[List.pairwise_cons]at h4;refine⟨g1,g2,g3,g4,lJ P _ _ oF oF (fun y hy=>?_) h4.2⟩;have:=h4.1 y hy;obtain⟨k1,k2,k3,k4⟩:=h3 y (by simp[hy]);omega
theorem Sb(a b:List T):fN a.length b.length 0 0 (Z8 (KC a b)):=by
 obtain⟨h,_⟩:=ZQ (KC a b);obtain⟨h1,h2⟩:=G5 h;obtain⟨g1,g2⟩:=Kk h1;refine lJ _ 0 0 oF oF (fun x hx=>?_) ?_
 ·obtain⟨_,_,_,_,r,k1,k2⟩:=JB (h2 x (g2.subset hx));have l1:=(List.getElem?_eq_some_iff.1 k1).1;have e1:=(List.getElem?_eq_some_iff.1 k1).2;have l2:=(List.getElem?_eq_some_iff.1 k2).1;rw[<-e1]at l2;simp[KC]at l1 l2;omega
 ·have hp:(Z8 (KC a b)).Pairwise fun p q=>Xp p q=true:=by
   refine(List.Perm.pairwise_iff (fun {p q} h=>?_) g2).2 h1;unfold Xp at h ⊢;simp at h ⊢;omega
  have hr:(Z8 (KC a b)).Pairwise fun p q=>p.i<q.i:=g1;refine(hp.and hr).imp fun {p q} h=>?_;obtain⟨h1,h2⟩:=h;unfold Xp at h1;simp at h1;omega
theorem Ajz{one:T->T->E}{a b:List T}(hal:a.length<=1000000)(hbl:b.length<=1000000){most:Int}(hone:∀x,x∈a->∀y,y∈b->G.Spec Tryz.prog 44 [tX x,tX y,iv most] (eX (one x y))){P:List Sc}(hP:P.length<=1000){R:List OP}
  (hq:∀(H':Hp)(its:List IT)(v i j:Nat),i<=a.length->j<=b.length->its.length<=3*P.length->R=HU one a b [] i j (its.map IT.op)->H' [5]=⟨v,.arr 14 (its.map Ri)⟩->Q (.exit 4) ⟨lk [(1,AV a),(2,AV b),(3,iv most),(15,.osl [5] v 14 0 its.length),(16,iv i),(17,iv j),(45,Wo P),(46,iv P.length),(47,iv P.length),(48,bv false)],H'⟩) :
  ∀(m k i j v:Nat)(its:List IT)(H:Hp),k+m=P.length->fN a.length b.length i j (P.drop k)->its.length<=3*k->R=HU one a b (P.drop k) i j (its.map IT.op)->H [5]=⟨v,.arr 14 (its.map Ri)⟩ ->
  LoopC (cx Tryz.prog w0 I0 n0) Mw Q ⟨lk [(1,AV a),(2,AV b),(3,iv most),(15,.osl [5] v 14 0 its.length),(16,iv i),(17,iv j),(45,Wo P),(46,iv P.length),(47,iv k)],H⟩:=by
 intro m;induction m with
 |zero=>
  intro k i j v its H hm hk hl hR h5;have:k=P.length:=oF
  subst this;rw[List.drop_length]at hk hR;refine Ab Ah (Ao Mw.eq_1) ?_;simp;exact hq H its v i j hk.1 hk.2 hl hR h5
 |succ m ih=>
  intro k i j v its H hm hk hl hR h5;have hlt:k<P.length:=oF
  have ew:=Ap k;have hd:P.drop k=P[k]::P.drop (k+1):=(List.getElem_cons_drop hlt).symm;rw[hd]at hk hR;have next:=ih (k+1)
  generalize hx:P[k]=x at *;obtain⟨k1,k2,k3,k4,k5⟩:=hk;rw[HU]at hR;have ei:i64.wrap ((x.i:Int)+1)=((x.i+1:Nat):Int):=AU;have ej:i64.wrap ((x.j:Int)+1)=((x.j+1:Nat):Int):=AU;have hO:=hone _ (Bv k3) _ (Bv k4);have D1:=N6 ((a.take x.i).drop i);have D2:=OD ((b.take x.j).drop j);refine Ab Ah (Ao Mw.eq_1) ?_;have f1:x.i<=a.length:=oF
  have f2:x.j<=b.length:=oF
  have dl:∀l,(Dd l).length<=1:=fun l=>by unfold Dd;split<;>simp
  have il:∀l,(Cb l).length<=1:=fun l=>by unfold Cb;split<;>simp
  have d1:=dl ((a.take x.i).drop i);have d2:=il ((b.take x.j).drop j);simp[hlt,hx,Jd,QA,Aa,k1,k2,f1,f2,h5];simp only[<-List.map_drop,<-List.map_take];simp only[List.drop_take]at D1 D2 hR d1 d2;refine Ae D1 iS ?_;generalize Dd ((a.drop i).take (x.i-i))=D at *;generalize hI:Cb ((b.drop j).take (x.j-j))=I at *;simp[k1,k2,f1,f2,h5,Aa,Dq];have hgot:∀D:List OP,D.map oA=(D.map IT.got).map Ri:=fun D=>by
   rw[List.map_map];refine List.map_congr_left fun o _=>?_;simp[Ri,fq]
  refine⟨oF,?_⟩;simp only[<-List.map_drop,<-List.map_take];refine Ae D2 iS ?_;simp[k3,k4,Aa,Dq];refine⟨oF,?_⟩;refine Ae hO iS ?_;simp[ei,ej,ew,Aa,Dq];refine⟨oF,?_⟩;have e1:a.getD x.i T0=a[x.i]:=by simp[k3]
  have e2:b.getD x.j T0=b[x.j]:=by simp[k4]
  rw[e1,e2]at hR;have hop:∀D:List OP,(D.map IT.got).map IT.op=D:=fun D=>by
   rw[List.map_map];exact List.map_id' _
  have hrow:List.take (its.length+D.length+I.length) (List.take (its.length+D.length) (List.map Ri its++List.map oA D)++List.map oA I)++[A.agg (A.v (Value.int i64 3)::A.v (Value.int i64 0)::A.sl true []::eL (one a[x.i] b[x.j]))]=(its++D.map IT.got++I.map IT.got++[IT.r (.desc (one a[x.i] b[x.j]))]).map Ri:=by
   rw[Ax iS,Ax iS,hgot D,hgot I];simp[Ri,fq,Tj]
  rw[hrow];have nx:=next (x.i+1) (x.j+1) (v+1+1+1) (its++D.map IT.got++I.map IT.got++[IT.r (.desc (one a[x.i] b[x.j]))]) (Ar (Ar H [4] ⟨(H [4]).u+1,.cells [iv x.i,iv x.j]⟩) [5] ⟨v+1+1+1,.arr 14 ((its++D.map IT.got++I.map IT.got++[IT.r (.desc (one a[x.i] b[x.j]))]).map Ri)⟩) oF k5 (by simp;omega) (by rw[hR];congr 1;simp[hop,IT.op,RI.op]) (by simp[Aa])
  have hlen:(its++D.map IT.got++I.map IT.got++[IT.r (.desc (one a[x.i] b[x.j]))]).length=its.length+D.length+I.length+1:=by simp;omega
  rw[hlen]at nx;simpa using nx
theorem rQ{one:T->T->E}{a b:List T}(ha:∀t,t∈a->Ay t)(hb:∀t,t∈b->Ay t)(hal:a.length<=1000000)(hbl:b.length<=1000000){most q:Int}(hone:∀x,x∈a->∀y,y∈b->G.Spec Tryz.prog 44 [tX x,tX y,iv most] (eX (one x y))) :
  G.Spec Tryz.prog 161 [iv q,AV a,AV b,iv most] (HQ (Fh one a b)):=by
 obtain⟨hpk,hp16⟩:=ZQ (KC a b);have hPl:(Z8 (KC a b)).length<=16:=by
  have:=(Kk (G5 hpk).1).2.length_eq;unfold Z8;omega
 have hPick:=tb (KC a b) (by simp[KC];omega) (fun r hr=>by
  obtain⟨x,_,rfl⟩:=List.mem_map.1 hr;simp;omega) hpk hp16
 refine Aj oh iS fun w0 I0=>?_;rw[gm ZO.eq_1];simp;refine LoopC.le (BC 9 [3] 1 iS) ?_;refine LoopC.le (Al [(1,AV a),(2,AV b),(3,iv most),(9,.osl [3] (0+1) 1 0 0),(20,AV a),(21,iv a.length),(22,iv (0:Nat))] (by simp[upd])) ?_;refine Ag9 ha hb hal hbl (fun H' h3 h5=>?_) a.length 0 _ oF (by simp[KC]) (by simp[Aa]);simp;refine Dn (Jr (d:=[3]) (fun _ h=>h) 9 (M6 (KC a b)) fun H1 e1=>?_) ?_
 ·simp;exact AQ (f:=dZ) (l:=KC a b) (by rw[e1,h3];simp) (by simp[KC]) (fun x=>iS)
 ·refine Dn (Al [(1,AV a),(2,AV b),(3,iv most),(9,M6 (KC a b)),(15,.sl true []),(16,iv 0),(17,iv 0)] (by simp[upd])) (Dr ?_);simp;refine Ae hPick iS ?_;simp;refine LoopC.le (BC 15 [5] 14 iS) ?_;refine LoopC.le (Al [(1,AV a),(2,AV b),(3,iv most),(15,.osl [5] 1 14 0 ([]:List IT).length),(16,iv (0:Nat)),(17,iv (0:Nat)),(45,Wo (Z8 (KC a b))),(46,iv (Z8 (KC a b)).length),(47,iv (0:Nat))] (by simp[upd,Aa,h5,Z8])) ?_;refine Ajz (one:=one) (a:=a) (b:=b) hal hbl hone (P:=Z8 (KC a b)) oF (R:=Fh one a b) (fun H2 its v i j hi hj hl hR k5=>?_) _ 0 0 0 1 [] _ (Nat.zero_add _) (Sb a b) iS rfl (by simp[Aa,h5]);have D1:=N6 ((a.drop i).take (a.length-i));have D2:=OD ((b.drop j).take (b.length-j));have dl:∀l,(Dd l).length<=1:=fun l=>by unfold Dd;split<;>simp
  have il:∀l,(Cb l).length<=1:=fun l=>by unfold Cb;split<;>simp
  have d1:=dl ((a.drop i).take (a.length-i));have d2:=il ((b.drop j).take (b.length-j));have ea:(a.drop i).take (a.length-i)=a.drop i:=Ax iS;have eb:(b.drop j).take (b.length-j)=b.drop j:=Ax iS;have hR2:Fh one a b=its.map IT.op++Dd ((a.drop i).take (a.length-i))++Cb ((b.drop j).take (b.length-j)):=by rw[ea,eb,hR,HU]
  clear ea eb;rw[hR2];have hgot:∀D:List OP,D.map oA=(D.map IT.got).map Ri:=fun D=>by
   rw[List.map_map];refine List.map_congr_left fun o _=>?_;simp[Ri,fq]
  have hop:∀D:List OP,(D.map IT.got).map IT.op=D:=fun D=>by
   rw[List.map_map];exact List.map_id' _
  clear hR2;generalize Dd ((a.drop i).take (a.length-i))=D at *;generalize Cb ((b.drop j).take (b.length-j))=I at *;simp[hi,hj];simp only[<-List.map_drop,<-List.map_take];refine Ae D1 iS ?_;simp[hj,k5,Aa,Dq];refine⟨oF,?_⟩;simp only[<-List.map_drop,<-List.map_take];refine Ae D2 iS ?_;simp[Aa,Dq];refine⟨oF,?_⟩;have hf:∀H:Hp,H [5]=⟨v+1+1,.arr 14 ((its++D.map IT.got++I.map IT.got).map Ri)⟩->Iz H (.osl [5] (v+1+1) 14 0 (its.length+D.length+I.length)) (HQ (its.map IT.op++(D++I))):=fun H hH=>by
   have:=Xu hH (n:=its.length+D.length+I.length) (by simp;omega);simpa[hop]using this
  refine hf _ ?_;rw[hgot D,hgot I,Ax iS];simp[Aa]
theorem bG{gap:List T->List T->List OP}{s:Sp}(h:s.k=0)(ss:List Sp)(a b:List T)(out:List OP):CA gap (s::ss) a b out=CA gap ss (a.drop s.n) (b.drop s.n) (out++[.mk 0 s.n [] E0]):=by
 cases ss with
 |nil=>simp[CA,h]
 |cons s2 ss=>simp[CA,h]
theorem ko{gap:List T->List T->List OP}{s:Sp}(h:s.k=2)(ss:List Sp)(a b:List T)(out:List OP):CA gap (s::ss) a b out=CA gap ss a (b.drop s.n) (out++Cb (b.take s.n)):=by
 cases ss with
 |nil=>simp[CA,h]
 |cons s2 ss=>simp[CA,h]
theorem ZM{gap:List T->List T->List OP}{s s2:Sp}(h:s.k=1)(h2:s2.k=2)(ss:List Sp)(a b:List T)(out:List OP):CA gap (s::s2::ss) a b out=CA gap ss (a.drop s.n) (b.drop s2.n) (out++gap (a.take s.n) (b.take s2.n)):=by
 simp[CA,h,h2]
theorem jL{gap:List T->List T->List OP}{s:Sp}(h:s.k=1){ss:List Sp}(h2:∀s2 r,ss=s2::r->s2.k≠2)(a b:List T)(out:List OP):CA gap (s::ss) a b out=CA gap ss (a.drop s.n) b (out++Dd (a.take s.n)):=by
 cases ss with
 |nil=>simp[CA,h]
 |cons s2 ss=>simp[CA,h,h2 s2 ss rfl]
theorem j0(one:T->T->E)(a b:List T):∀(P:List Sc)(i j:Nat)(out:List OP),(HU one a b P i j out).length<=out.length+3*P.length+2
 |[],i,j,out=>by
  have d1:(Dd (a.drop i)).length<=1:=by unfold Dd;split<;>simp
  have d2:(Cb (b.drop j)).length<=1:=by unfold Cb;split<;>simp
  simp[HU];omega
 |x::P,i,j,out=>by
  have d1:(Dd ((a.take x.i).drop i)).length<=1:=by unfold Dd;split<;>simp
  have d2:(Cb ((b.take x.j).drop j)).length<=1:=by unfold Cb;split<;>simp
  have:=j0 one a b P (x.i+1) (x.j+1) (out++Dd ((a.take x.i).drop i)++Cb ((b.take x.j).drop j)++[.mk 3 0 [] (one (a.getD x.i T0) (b.getD x.j T0))]);rw[HU];simp only[List.length_append,List.length_singleton]at this;simp only[List.length_cons];omega
theorem Ud(one:T->T->E)(a b:List T):(Fh one a b).length<=50:=by
 obtain⟨hpk,hp16⟩:=ZQ (KC a b);have hPl:(Z8 (KC a b)).length<=16:=by
  have:=(Kk (G5 hpk).1).2.length_eq;unfold Z8;omega
 have:=j0 one a b (Z8 (KC a b)) 0 0 [];simp at this;unfold Fh;omega
theorem V2(D:List OP):D.map oA=(D.map IT.got).map Ri:=by
 rw[List.map_map];refine List.map_congr_left fun o _=>?_;simp[Ri,fq]
theorem bL(D:List OP):(D.map IT.got).map IT.op=D:=by
 rw[List.map_map];exact List.map_id' _
theorem Aa9{one:T->T->E}{a b:T}(ha:∀t,t∈a.kids->Ay t)(hb:∀t,t∈b.kids->Ay t)(hal:a.kids.length<=1000000)(hbl:b.kids.length<=1000000){most:Int}(hone:∀x,x∈a.kids->∀y,y∈b.kids->G.Spec Tryz.prog 44 [tX x,tX y,iv most] (eX (one x y))){S:List Sp}(hS:S.length<=10000000)(hS2:∀s,s∈S->s.k<=2){R:List OP}
  (hq:∀(H':Hp)(its:List IT)(v:Nat)(st:List (Nat × A)),its.map IT.op=R->H' [2]=⟨v,.arr 14 (its.map Ri)⟩->Q (.exit 0) ⟨lk ([(0,Sk S),(3,iv most),(5,.pob [0] 1 0),(9,.osl [2] v 14 0 its.length)]++st),H'⟩) :
  ∀(m k v:Nat)(x y:List T)(its:List IT)(H:Hp),k+m=S.length->(∀t,t∈x->t∈a.kids)->(∀t,t∈y->t∈b.kids)->x.length<=1000000->y.length<=1000000->dA (A5 (S.drop k))<=x.length->dB (A5 (S.drop k))<=y.length->its.length<=50*k->R=CA (Fh one) (S.drop k) x y (its.map IT.op)->H [0]=⟨1,.cells (tL a)⟩->H [2]=⟨v,.arr 14 (its.map Ri)⟩ ->
  LoopC (cx Tryz.prog w0 I0 n0) G9 Q ⟨lk [(0,Sk S),(3,iv most),(5,.pob [0] 1 0),(9,.osl [2] v 14 0 its.length),(10,AV x),(11,AV y),(12,iv k)],H⟩:=by
 have tk:∀(l:List T)(n:Nat),(l.drop n).take (l.length-n)=l.drop n:=fun l n=>Ax iS;intro m;induction m using Nat.strongRecOn with
 |_ m ih=>
 intro k v x y its H hm hx hy hxl hyl hA hB hl hR h0 h2;cases m with
 |zero=>
  have:k=S.length:=oF
  subst this;rw[List.drop_length]at hR;refine Ab Ah (Ao G9.eq_1) ?_;simp;exact hq H its v [(10,AV x),(11,AV y),(12,iv S.length),(22,bv false)] hR.symm h2
 |succ m=>
  have hlt:k<S.length:=oF
  have ew:=Ap k;have hd:S.drop k=S[k]::S.drop (k+1):=(List.getElem_cons_drop hlt).symm;have hk:=hS2 _ (Bv hlt);rw[hd]at hR hA hB;rw[AN,Gm,Hi]at hA;rw[AN,Gp,He]at hB;have hg:(S.map Fm)[k]? = some (Fm S[k]):=by simp[hlt]
  generalize hs:S[k]=s at *;have hk3:s.k=0\/s.k=1\/s.k=2:=oF
  rcases hk3 with h|h|h
  ·rw[bG h]at hR;rw[if_neg oF]at hA hB;have f1:s.n<=x.length:=oF
   have f2:s.n<=y.length:=oF
   refine Ab Ah (Ao G9.eq_1) ?_;simp[hlt,hs,Fm,JD,h,f1,f2,h2,Dq,ew];refine⟨oF,?_⟩;simp only[<-List.map_drop,<-List.map_take,tk];have nx:=ih m oF (k+1) (v+1) (x.drop s.n) (y.drop s.n) (its++[IT.r (RI.keep (s.n:Int))]) (Ar H [2] ⟨v+1,.arr 14 ((its++[IT.r (RI.keep (s.n:Int))]).map Ri)⟩) oF (fun t ht=>hx t (Qy ht)) (fun t ht=>hy t (Qy ht)) (by simp;omega) (by simp;omega) (by simp;omega) (by simp;omega) (by simp;omega) (by rw[hR];simp[IT.op,RI.op]) (by simp[Aa,h0]) (by simp[Aa]);rw[Ax iS];rw[Int.natCast_add]at nx;simp only[List.length_append,List.length_map,List.length_singleton,List.length_cons,List.length_nil,List.map_append,List.map_cons,List.map_nil]at nx ⊢;exact nx
  ·rw[h]at hA hB;simp at hA hB;have f1:s.n<=x.length:=oF
   by_cases hg2:∃h3:k+1<S.length,S[k+1].k=2
   ·obtain⟨h3,h4⟩:=hg2;have hd2:S.drop (k+1)=S[k+1]::S.drop (k+1+1):=(List.getElem_cons_drop h3).symm;rw[hd2]at hR hA hB;rw[AN,Gm,Hi]at hA;rw[AN,Gp,He]at hB;generalize hs2:S[k+1]=s2 at *;rw[ZM h h4]at hR;rw[h4]at hA hB;simp at hA hB;have f2:s2.n<=y.length:=oF
    have ew2:i64.wrap ((k:Int)+1+1)=((k+1+1:Nat):Int):=AU;have G:=rQ (one:=one) (a:=x.take s.n) (b:=y.take s2.n) (q:=a.kind) (fun t ht=>ha t (hx t (O4 ht))) (fun t ht=>hb t (hy t (O4 ht))) (by simp;omega) (by simp;omega) (most:=most) (fun p hp q hq=>hone p (hx p (O4 hp)) q (hy q (O4 hq)));have gl:=Ud one (x.take s.n) (y.take s2.n);have i1:(k:Int)+1<S.length:=oF
    have i2:(0:Int)<=(k:Int)+1:=oF
    have i3:((k:Int)+1).toNat=k+1:=oF
    have i4:i64.wrap ((k:Int)+1)=(k:Int)+1:=by rw[ew];omega
    refine Ab Ah (Ao G9.eq_1) ?_;generalize Fh one (x.take s.n) (y.take s2.n)=I at *;simp[hlt,hs,Fm,JD,h,f1,f2,h2,Dq,i4,h3,hs2,h4,h0,i1,i2,i3];simp only[<-List.map_drop,<-List.map_take,tk];refine Ae G iS ?_;simp[f1,f2,h2,Dq,i4,h0,ew2];refine⟨oF,?_⟩;simp only[<-List.map_drop,<-List.map_take,tk];cases m with
    |zero=>omega
    |succ m=>
     have nx:=ih m oF (k+1+1) (v+1) (x.drop s.n) (y.drop s2.n) (its++I.map IT.got) (Ar H [2] ⟨v+1,.arr 14 ((its++I.map IT.got).map Ri)⟩) oF (fun t ht=>hx t (Qy ht)) (fun t ht=>hy t (Qy ht)) (by simp;omega) (by simp;omega) (by simp;omega) (by simp;omega) (by simp;omega) (by rw[hR,List.map_append,bL]) (by simp[Aa,h0]) (by simp[Aa]);rw[Ax iS,V2,<-List.map_append];rw[Int.natCast_add,Int.natCast_add]at nx;simp only[List.length_append,List.length_map,List.length_singleton,List.length_cons,List.length_nil,List.map_append,List.map_cons,List.map_nil]at nx ⊢;exact nx
   ·have hnd:∀s2 r,S.drop (k+1)=s2::r->s2.k≠2:=fun s2 r e h4=>by
     have h3:k+1<S.length:=by
      have:=congrArg List.length e;simp at this;omega
     have hd2:S.drop (k+1)=S[k+1]::S.drop (k+1+1):=(List.getElem_cons_drop h3).symm;rw[hd2]at e;injection e with e1 _;exact hg2 ⟨h3,by rw[e1];exact h4⟩
    rw[jL h hnd]at hR;have D:=N6 (x.take s.n);have dl:(Dd (x.take s.n)).length<=1:=by unfold Dd;split<;>simp
    generalize Dd (x.take s.n)=I at *;refine Ab Ah (Ao G9.eq_1) ?_;by_cases h3:k+1<S.length
    ·have h4:¬(S[k+1].k:Int)=2:=fun e=>hg2 ⟨h3,oF⟩;have h4':¬S[k+1].k=2:=fun e=>hg2 ⟨h3,e⟩;have i1:(k:Int)+1<S.length:=oF
     have i2:(0:Int)<=(k:Int)+1:=oF
     have i3:((k:Int)+1).toNat=k+1:=oF
     have i4:i64.wrap ((k:Int)+1)=(k:Int)+1:=by rw[ew];omega
     simp[hlt,hs,Fm,JD,h,f1,h2,Dq,i4,h3,h4,h4',i1,i2,i3];simp only[<-List.map_drop,<-List.map_take,tk];refine Ae D iS ?_;simp[f1,h2,Dq,i4];refine⟨oF,?_⟩;simp only[<-List.map_drop,<-List.map_take,tk];have nx:=ih m oF (k+1) (v+1) (x.drop s.n) y (its++I.map IT.got) (Ar H [2] ⟨v+1,.arr 14 ((its++I.map IT.got).map Ri)⟩) oF (fun t ht=>hx t (Qy ht)) hy (by simp;omega) oF (by simp;omega) oF (by simp;omega) (by rw[hR,List.map_append,bL]) (by simp[Aa,h0]) (by simp[Aa]);rw[Ax iS,V2,<-List.map_append];rw[Int.natCast_add]at nx;simp only[List.length_append,List.length_map,List.length_singleton,List.length_cons,List.length_nil,List.map_append,List.map_cons,List.map_nil]at nx ⊢;exact nx
    ·have i1:¬(k:Int)+1<S.length:=oF
     have i4:i64.wrap ((k:Int)+1)=(k:Int)+1:=by rw[ew];omega
     simp[hlt,hs,Fm,JD,h,f1,h2,Dq,i4,i1];simp only[<-List.map_drop,<-List.map_take,tk];refine Ae D iS ?_;simp[f1,h2,Dq,i4];refine⟨oF,?_⟩;simp only[<-List.map_drop,<-List.map_take,tk];have nx:=ih m oF (k+1) (v+1) (x.drop s.n) y (its++I.map IT.got) (Ar H [2] ⟨v+1,.arr 14 ((its++I.map IT.got).map Ri)⟩) oF (fun t ht=>hx t (Qy ht)) hy (by simp;omega) oF (by simp;omega) oF (by simp;omega) (by rw[hR,List.map_append,bL]) (by simp[Aa,h0]) (by simp[Aa]);rw[Ax iS,V2,<-List.map_append];rw[Int.natCast_add]at nx;simp only[List.length_append,List.length_map,List.length_singleton,List.length_cons,List.length_nil,List.map_append,List.map_cons,List.map_nil]at nx ⊢;exact nx
  ·rw[ko h]at hR;rw[h]at hA hB;simp at hA hB;have f2:s.n<=y.length:=oF
   have D:=OD (y.take s.n);have dl:(Cb (y.take s.n)).length<=1:=by unfold Cb;split<;>simp
   generalize Cb (y.take s.n)=I at *;refine Ab Ah (Ao G9.eq_1) ?_;simp[hlt,hs,Fm,JD,h,f2,h2,Dq,ew];simp only[<-List.map_drop,<-List.map_take,tk];refine Ae D iS ?_;simp[f2,h2,Dq,ew];refine⟨oF,?_⟩;simp only[<-List.map_drop,<-List.map_take,tk];have nx:=ih m oF (k+1) (v+1) x (y.drop s.n) (its++I.map IT.got) (Ar H [2] ⟨v+1,.arr 14 ((its++I.map IT.got).map Ri)⟩) oF hx (fun t ht=>hy t (Qy ht)) oF (by simp;omega) oF (by simp;omega) (by simp;omega) (by rw[hR,List.map_append,bL]) (by simp[Aa,h0]) (by simp[Aa]);rw[Ax iS,V2,<-List.map_append];rw[Int.natCast_add]at nx;simp only[List.length_append,List.length_map,List.length_singleton,List.length_cons,List.length_nil,List.map_append,List.map_cons,List.map_nil]at nx ⊢;exact nx
theorem jl{one:T->T->E}{a b:T}(ha:∀t,t∈a.kids->Ay t)(hb:∀t,t∈b.kids->Ay t)(hal:a.kids.length<=1000000)(hbl:b.kids.length<=1000000){most:Int}(hone:∀x,x∈a.kids->∀y,y∈b.kids->G.Spec Tryz.prog 44 [tX x,tX y,iv most] (eX (one x y))){S:List Sp}(hS:S.length<=10000000)(hS2:∀s,s∈S->s.k<=2)(hA:dA (A5 S)<=a.kids.length)(hB:dB (A5 S)<=b.kids.length) :
  G.Spec Tryz.prog 123 [Sk S,tX a,tX b,iv most] (HQ (CA (Fh one) S a.kids b.kids [])):=by
 refine Aj ns iS fun w0 I0=>?_;rw[BG YO.eq_1];simp;refine LoopC.le (BC 9 [2] 14 iS) ?_;refine LoopC.le (Al [(0,Sk S),(3,iv most),(5,.pob [0] 1 0),(9,.osl [2] 1 14 0 ([]:List IT).length),(10,AV a.kids),(11,AV b.kids),(12,iv (0:Nat))] (by simp[upd])) ?_;refine Aa9 (a:=a) (b:=b) ha hb hal hbl hone hS hS2 (R:=CA (Fh one) S a.kids b.kids []) (fun H' its v st hR k2=>?_) S.length 0 1 a.kids b.kids [] _ (Nat.zero_add _) (fun t h=>h) (fun t h=>h) hal hbl (by simpa using hA) (by simpa using hB) iS iS (by simp[Aa]) (by simp[Aa]);simp;rw[<-hR];exact Xu k2 rfl
theorem qk(l:List T):(Z7 1 l).map IT.op=Dd l:=by unfold Z7 Dd;split<;>simp[IT.op,RI.op]
theorem dx(l:List T):(Z7 2 l).map IT.op=Cb l:=by unfold Z7 Cb;split<;>simp[IT.op,RI.op]
theorem UM(k:Int)(l:List T):(Z7 k l).length<=1:=by unfold Z7;split<;>(try split)<;>simp
theorem Aes{one:T->T->E}{a b:List T}(hal:a.length<=1000000)(hbl:b.length<=1000000){most:Int}(hone:∀x,x∈a->∀y,y∈b->G.Spec Tryz.prog 67 [tX x,tX y,iv most] (eX (one x y))){P:List Sc}(hP:P.length<=1000){R:List OP}
  (hq:∀(H':Hp)(its:List IT)(v i j:Nat),1<=v->i<=a.length->j<=b.length->its.length<=3*P.length->R=HU one a b [] i j (its.map IT.op)->(∀p,H' (2::p)=(itM v its).F 2 p)->Q (.exit 4) ⟨lk [(0,AV a),(1,AV b),(2,iv most),(10,Wo P),(11,.osl [2] v 14 0 its.length),(12,iv i),(13,iv j),(14,iv P.length),(53,bv false)],H'⟩) :
  ∀(m k i j v:Nat)(its:List IT)(H:Hp),k+m=P.length->1<=v->fN a.length b.length i j (P.drop k)->its.length<=3*k->R=HU one a b (P.drop k) i j (its.map IT.op)->(∀p,H (2::p)=(itM v its).F 2 p) ->
  LoopC (cx Tryz.prog w0 I0 n0) GF Q ⟨lk [(0,AV a),(1,AV b),(2,iv most),(10,Wo P),(11,.osl [2] v 14 0 its.length),(12,iv i),(13,iv j),(14,iv k)],H⟩:=by
 intro m;induction m with
 |zero=>
  intro k i j v its H hm hv hk hl hR h5;have:k=P.length:=oF
  subst this;rw[List.drop_length]at hk hR;refine Ab Ah (Ao GF.eq_1) ?_;simp;exact hq H its v i j hv hk.1 hk.2 hl hR h5
 |succ m ih=>
  intro k i j v its H hm hv hk hl hR h5;have hlt:k<P.length:=oF
  have hd:P.drop k=P[k]::P.drop (k+1):=(List.getElem_cons_drop hlt).symm;rw[hd]at hk hR;have next:=ih (k+1)
  generalize hx:P[k]=x at *;obtain⟨k1,k2,k3,k4,k5⟩:=hk;rw[HU]at hR;simp only[List.drop_take]at hR;have f1:x.i<=a.length:=oF
  have f2:x.j<=b.length:=oF
  have F1:=LG its v hv oF (k:=1) (.inl rfl) ((a.drop i).take (x.i-i));refine Ab Ah (Ao GF.eq_1) ?_;simp[hlt,hx,Jd,QA,k1,k2,f1,f2];simp only[<-List.map_drop,<-List.map_take];refine Au 2 F1 h5 iS iS ?_;have d1:=UM 1 ((a.drop i).take (x.i-i));have d2:=UM 2 ((b.drop j).take (x.j-j));have o1:=qk ((a.drop i).take (x.i-i));have o2:=dx ((b.drop j).take (x.j-j));have F2:=LG (its++Z7 1 ((a.drop i).take (x.i-i))) (v+(Z7 1 ((a.drop i).take (x.i-i))).length) oF (by simp;omega) (k:=2) (.inr rfl) ((b.drop j).take (x.j-j));have hO:=hone _ (Bv k3) _ (Bv k4);rw[<-o1,<-o2]at hR;clear F1 o1 o2;generalize Z7 1 ((a.drop i).take (x.i-i))=D at *;generalize Z7 2 ((b.drop j).take (x.j-j))=I at *;simp only[List.length_append]at F2 ⊢;simp[hlt,hx,Jd,QA,k1,k2,f1,f2];simp only[<-List.map_drop,<-List.map_take];refine Au 2 F2 (fun p=>iS) iS iS ?_;simp[hlt,hx,Jd,QA,k3,k4];refine Ae hO iS ?_;simp[hlt,hx,Jd,QA,Aa,Dq];refine⟨⟨oF,oF⟩,?_⟩;have ew:=Ap k;have ei:i64.wrap ((x.i:Int)+1)=((x.i+1:Nat):Int):=AU;have ej:i64.wrap ((x.j:Int)+1)=((x.j+1:Nat):Int):=AU;rw[ei,ej,ew];have hlen:(its++(D++(I++[IT.r (.desc (one a[x.i] b[x.j]))]))).length=its.length+D.length+I.length+1:=by simp;omega
  have hR':R=HU one a b (P.drop (k+1)) (x.i+1) (x.j+1) ((its++(D++(I++[IT.r (.desc (one a[x.i] b[x.j]))]))).map IT.op):=by rw[hR];simp[IT.op,RI.op,k3,k4]
  have nx:=fun H'=>next (x.i+1) (x.j+1) (v+D.length+I.length+1) (its++(D++(I++[IT.r (.desc (one a[x.i] b[x.j]))]))) H' oF oF k5 (by rw[hlen];omega) hR'
  rw[hlen]at nx;refine nx _ fun p=>?_;by_cases h1:p=[]
  ·subst h1;rw[Ax (by simp;omega)];simp[Aa,Ri,fq,Tj]
  ·simp[h1,Aa]
def Ro(m n:Nat):List A:=(List.range n).map fun j=>.osl [5+j] (j+1) 1 0 m
@[simp]theorem AjC{m n:Nat}:(Ro m n).length=n:=by simp[Ro]
@[simp]theorem AkX{m n k:Nat}(h:k<(Ro m n).length):(Ro m n)[k]=.osl [5+k] (k+1) 1 0 m:=by simp[Ro]
theorem tp(m n:Nat):Ro m (n+1)=Ro m n++[.osl [5+n] (n+1) 1 0 m]:=by simp[Ro,List.range_succ]
noncomputable def scF(x:T)(b:List T)(q:Nat):Int:=(DK x (b.getD q T0):Nat)
theorem AbC(x:T)(b:List T):Hh (scF x b) b.length=(b.map fun y=>(DK x y:Int)).map iv:=by
 rw[jO,List.length_map];refine Jz fun q hq=>?_;simp[scF,hq]
theorem AdT{a b:List T}(ha:∀t,t∈a->Ay t)(hb:∀t,t∈b->Ay t){i:Nat}(hi:i<a.length)(hal:a.length<=1000000)(hbl:b.length<=1000000){most:Int}{H0:Hp}(h1:H0 [1]=⟨i+2,.arr 1 (Ro b.length (i+1))⟩)
  (hq:∀(f':Nat->Int)(H':Hp)(st:List (Nat × A)),(∀q,q<b.length->f' q=scF a[i] b q)->H' [5+i]=⟨i+1,.arr 1 (Hh f' b.length)⟩->(∀o,o≠[5+i]->H' o=H0 o)->Q (.exit 2) ⟨lk ([(0,AV a),(1,AV b),(2,iv most),(7,.osl [1] (i+2) 1 0 (i+1)),(8,iv i)]++st),H'⟩) :
  ∀(m j:Nat)(f:Nat->Int)(H:Hp),j+m=b.length->(∀q,q<j->f q=scF a[i] b q)->(∀o,o≠[5+i]->H o=H0 o)->H [5+i]=⟨i+1,.arr 1 (Hh f b.length)⟩ ->
  LoopC (cx Tryz.prog w0 I0 n0) GQ Q ⟨lk [(0,AV a),(1,AV b),(2,iv most),(7,.osl [1] (i+2) 1 0 (i+1)),(8,iv i),(9,iv j)],H⟩:=by
 intro m;induction m with
 |zero=>
  intro j f H hm hf hp h3;refine Ab Ah (Ao GQ.eq_1) ?_;have:j=b.length:=oF
  subst this;simp;have:=hq f H [(9,iv b.length),(30,bv false)] hf h3 hp;simpa using this
 |succ m ih=>
  intro j f H hm hf hp h3;have g1:=hp [1] (by simp;omega);rw[h1]at g1;have hj:j<b.length:=oF
  have c2:(0:Int)<=(i:Int):=oF
  have c3:(i:Int)<(i:Int)+1:=oF
  have e3:=Ap j;have hS:=jA (ha _ (Bv hi)) (hb _ (Bv hj));have next:=ih (j+1)
  refine Ab Ah (Ao GQ.eq_1) ?_;simp[hi,hj,g1,h3,c2,c3];refine Ae hS iS ?_;simp[g1,h3,hi,hj,c2,c3,e3];refine next (fun q=>if q=j then ((DK a[i] b[j]:Nat):Int)else f q) _ oF (fun q hq=>?_) (fun o ho=>by rw[AD ho];exact hp o ho) (by simp[Aa])
  by_cases e:q=j
  ·subst e;simp[scF,hj]
  ·rw[if_neg e];exact hf q oF
theorem AeM{a b:List T}(ha:∀t,t∈a->Ay t)(hb:∀t,t∈b->Ay t)(hal:a.length<=1000000)(hbl:b.length<=1000000){most:Int}
  (hq:∀(H:Hp) st,H [1]=⟨a.length+1,.arr 1 (Ro b.length a.length)⟩->(∀k (hk:k<a.length),∃f,(∀q,q<b.length->f q=scF a[k] b q)/\H [5+k]=⟨k+1,.arr 1 (Hh f b.length)⟩)->(∀p,H (2::p)=⟨0,.none⟩)->Q (.exit 0) ⟨lk ([(0,AV a),(1,AV b),(2,iv most),(7,.osl [1] (a.length+1) 1 0 a.length)]++st),H⟩):∀(m i:Nat)(H:Hp),i+m=a.length->H [0]=⟨i,.none⟩->H [1]=⟨i+1,.arr 1 (Ro b.length i)⟩->(∀k (hk:k<a.length),k<i->∃f,(∀q,q<b.length->f q=scF a[k] b q)/\H [5+k]=⟨k+1,.arr 1 (Hh f b.length)⟩)->(∀k,i<=k->H [5+k]=⟨0,.none⟩)->(∀p,H (2::p)=⟨0,.none⟩) ->
  LoopC (cx Tryz.prog w0 I0 n0) Gz Q ⟨lk [(0,AV a),(1,AV b),(2,iv most),(7,.osl [1] (i+1) 1 0 i),(8,iv i)],H⟩:=by
 intro m;induction m with
 |zero=>
  intro i H hm h0 h1 hk hf h2;refine Ab Ah (BG Gz.eq_1) ?_;have:i=a.length:=oF
  subst this;simp;have:=hq H [(8,iv a.length),(18,bv false)] h1 (fun k hk'=>hk k hk' hk') h2;simpa using this
 |succ m ih=>
  intro i H hm h0 h1 hk hf h2;have hi:i<a.length:=oF
  have e2:=Ap i;refine Ab Ah (BG Gz.eq_1) ?_;simp[hi,h0,h1,Aa];refine⟨oF,oF,?_⟩;have hfi:=hf i (Cq _);refine LoopC.le (ie (d:=[0]) (d':=[5+i]) (e:=[1]) (u:=i+1) (ue:=i+1+1) (sz:=1) (z:=1) (off:=0) (len:=b.length) (xs:=List.take i (Ro b.length i)) (fun _ h=>h) (by simp;omega) iS (by simp;omega) (by simp[Aa,hfi,show ¬5+i=1 by omega,show ¬5+i=3 by omega,show ¬5+i=0 from oF]) (by simp[Aa]) rfl (by simp[Aa])) ?_;rw[Ax iS,<-tp];generalize hG:(Ar _ [1] _:Hp)=G;have f0:G [0]=⟨i+1,.none⟩:=by rw[<-hG];simp[Aa]
  have f1:G [1]=⟨i+1+1,.arr 1 (Ro b.length (i+1))⟩:=by rw[<-hG];simp[Aa]
  have f5:G [5+i]=⟨i+1,.arr 1 (Hh (fun _=>0) b.length)⟩:=by
   rw[<-hG,<-PG];simp[Aa,show ¬5+i=1 by omega,show ¬5+i=0 from oF]
  have fo:∀k,k≠i->G [5+k]=H [5+k]:=fun k hne=>by
   rw[<-hG];simp[Aa,show ¬5+k=1 by omega,show ¬5+k=3 by omega,show ¬5+k=0 from oF,hne]
  have fp:∀p,G (2::p)=⟨0,.none⟩:=fun p=>by
   rw[<-hG,<-h2 p];simp[Aa,show ¬2=5+i from oF]
  clear hG;refine LoopC.le (Al [(0,AV a),(1,AV b),(2,iv most),(7,.osl [1] (i+2) 1 0 (i+1)),(8,iv i),(9,iv (0:Nat))] iS) ?_;refine AdT ha hb hi hal hbl (H0:=G) f1 (fun f2 G' st g1 g2 g3=>?_) b.length 0 (fun _=>0) G oF (fun q hq=>oF) (fun o _=>rfl) f5;simp[e2];refine ih (i+1) G' oF (by rw[g3 _ (by simp;omega),f0]) (by rw[g3 _ (by simp;omega),f1]) (fun k hk' hki=>?_) (fun k hki=>?_) (fun p=>by rw[g3 _ (by simp;omega),fp])
  ·by_cases e:k=i
   ·subst e;exact⟨f2,g1,g2⟩
   ·obtain⟨f',k1,k2⟩:=hk k hk' oF;exact⟨f',k1,by rw[g3 _ (by simp;omega),fo k e,k2]⟩
  ·rw[g3 _ (by simp;omega),fo k oF,hf k oF]
theorem dc{one:T->T->E}{a b:List T}(ha:∀t,t∈a->Ay t)(hb:∀t,t∈b->Ay t)(hal:a.length<=1000000)(hbl:b.length<=1000000){most:Int}(hone:∀x,x∈a->∀y,y∈b->G.Spec Tryz.prog 67 [tX x,tX y,iv most] (eX (one x y))) :
  G.Spec Tryz.prog 143 [AV a,AV b,iv most] (HQ (Fh one a b)):=by
 obtain⟨hpk,hp16⟩:=ZQ (KC a b);have hPl:(Z8 (KC a b)).length<=16:=by
  have:=(Kk (G5 hpk).1).2.length_eq;unfold Z8;omega
 have hPick:=x7 (KC a b) (by simp[KC];omega) (fun r hr=>by
  obtain⟨x,_,rfl⟩:=List.mem_map.1 hr;simp;omega) hpk hp16
 refine Aj Vz iS fun w0 I0=>?_;rw[gm NR.eq_1];simp;refine LoopC.le (BC 7 [1] 1 iS) ?_;refine LoopC.le (Al [(0,AV a),(1,AV b),(2,iv most),(7,.osl [1] (0+1) 1 0 0),(8,iv (0:Nat))] (by simp[upd])) ?_;refine AeM ha hb hal hbl (fun H' st h1 hk h2=>?_) a.length 0 _ oF (by simp[Aa]) (by simp[Aa,Ro]) (fun k _ h=>oF) (fun k _=>by simp[Aa,show ¬5+k=1 from oF]) (fun p=>by simp[Aa]);simp;obtain⟨H2,k1,k2⟩:=OB (c:=cx Tryz.prog w0 I0 120) (s:=lk [(0,AV a),(1,AV b),(2,iv most),(7,.osl [1] (a.length+1) 1 0 a.length)]) (H:=H') (fun r=>r=1\/5<=r) (fun r p b hr h=>h) 7 (M6 (KC a b)) (fun H1 e1=>by
  have e2:H1 [1]=H' [1]:=e1 1 [] (.inl rfl);simp;refine LX (o:=[1]) (u:=a.length+1) (off:=0) (len:=a.length) (sz:=1) (xs:=Ro b.length a.length) (ys:=(KC a b).map dZ) (by simp[e2,h1]) iS (by simp[KC]) iS ?_ ?_
  ·rw[Im (fun x=>rfl)];simp[A.ones]
  ·rw[List.drop_zero,Ax iS];have er:(KC a b).map dZ=(List.range a.length).map fun k=>.sl false (Hh (scF (a.getD k T0) b) b.length):=by
    refine List.ext_getElem (by simp[KC]) fun n n1 n2=>?_;have hn:n<a.length:=by simpa[KC]using n1
    simp[KC,AbC,hn]
   rw[er];unfold Ro;rw[Im (fun x=>rfl),Im (fun x=>rfl)];refine VD _ fun k hk0=>?_;have hk1:k<a.length:=by simpa using hk0
   obtain⟨f,g1,g2⟩:=hk k hk1;have ek:a.getD k T0=a[k]:=by simp[hk1]
   rw[ek,<-Jz g1];exact QT (by rw[e1 (5+k) [] (.inr oF)];exact g2))
 refine Dn k1 ?_;refine Dn (Al [(0,AV a),(1,AV b),(2,iv most),(7,M6 (KC a b))] (by simp[upd])) (Dr ?_);have hz:∀p,H2 (2::p)=⟨0,.none⟩:=fun p=>(k2 2 p oF).trans (h2 p);simp;refine Ae hPick iS ?_;simp;refine LoopC.le (BC 11 [2] 14 iS) ?_;refine LoopC.le (Al [(0,AV a),(1,AV b),(2,iv most),(10,Wo (Z8 (KC a b))),(11,.osl [2] 1 14 0 ([]:List IT).length),(12,iv (0:Nat)),(13,iv (0:Nat)),(14,iv (0:Nat))] (by simp[upd,Aa,hz,Z8])) ?_;refine Aes (one:=one) (a:=a) (b:=b) hal hbl hone (P:=Z8 (KC a b)) oF (R:=Fh one a b) (fun H3 its v i j hv hi hj hl hR k5=>?_) _ 0 0 0 1 [] _ (Nat.zero_add _) (Cq _) (Sb a b) iS rfl (fun p=>?_)
 ·have F1:=LG its v hv oF (k:=1) (.inl rfl) ((a.drop i).take (a.length-i));have d1:=UM 1 ((a.drop i).take (a.length-i));have d2:=UM 2 ((b.drop j).take (b.length-j));have o1:=qk ((a.drop i).take (a.length-i));have o2:=dx ((b.drop j).take (b.length-j));have ea:(a.drop i).take (a.length-i)=a.drop i:=Ax iS;have eb:(b.drop j).take (b.length-j)=b.drop j:=Ax iS;have hR2:Fh one a b=its.map IT.op++Dd ((a.drop i).take (a.length-i))++Cb ((b.drop j).take (b.length-j)):=by rw[ea,eb,hR,HU]
  clear ea eb;rw[hR2,<-o1,<-o2];have F2:=LG (its++Z7 1 ((a.drop i).take (a.length-i))) (v+(Z7 1 ((a.drop i).take (a.length-i))).length) oF (by simp;omega) (k:=2) (.inr rfl) ((b.drop j).take (b.length-j));clear hR2 o1 o2;simp[hi,hj];simp only[<-List.map_drop,<-List.map_take];refine Au 2 F1 k5 iS iS ?_;clear F1;generalize Z7 1 ((a.drop i).take (a.length-i))=D at *;generalize hI:Z7 2 ((b.drop j).take (b.length-j))=I at *;simp only[List.length_append]at F2 ⊢;simp[hi,hj];simp only[<-List.map_drop,<-List.map_take];refine Au 2 F2 (fun p=>iS) iS iS ?_;simp;have hf:∀H:Hp,H [2]=⟨v+D.length+I.length,.arr 14 ((its++D++I).map Ri)⟩->Iz H (.osl [2] (v+D.length+I.length) 14 0 (its.length+D.length+I.length)) (HQ (its.map IT.op++(D.map IT.op++I.map IT.op))):=fun H hH=>by
   have:=Xu hH (n:=its.length+D.length+I.length) (by simp;omega);simpa using this
  simpa[Nat.add_assoc]using hf _ (by simp[Nat.add_assoc])
 ·by_cases hp:p=[]
  ·subst hp;simp[Aa,hz]
  ·simp[Aa,hp,hz]
theorem eY(l:List Nat):(tG l).map iv=l.map nv:=by
 simp[tG]
theorem WU{us:List Nat}(h:∀x,x∈us->x<=2):∀s,s∈J7 us->s.k<=2/\1<=s.n:=fG us 0 0 0 h
theorem NB:∀(l:List Sp),(∀s,s∈l->s.k<=2/\1<=s.n)->l.length<=dA (A5 l)+dB (A5 l)
 |[],_=>iS
 |s::l,h=>by
  have ih:=NB l fun x hx=>h x (by simp[hx]);have hs:=h s iS;rw[AN,Gm,Gp,Hi,He,List.length_cons];split<;>split<;>omega
theorem pU(a b:List T)(h:a=[]\/b=[]):Z8 (KC a b)=[]:=by
 have hP:=Sb a b;cases hp:Z8 (KC a b) with
 |nil=>rfl
 |cons x P=>
  rw[hp]at hP;have h1:=hP.2.2.1;have h2:=hP.2.2.2.1;rcases h with rfl|rfl<;>simp at h1 h2
theorem kx(one:T->T->E)(b:List T):Fh one [] b=Cb b:=by
 unfold Fh;rw[pU _ _ (.inl rfl),HU];simp[Dd]
theorem cB(one:T->T->E)(a:List T):Fh one a []=Dd a:=by
 unfold Fh;rw[pU _ _ (.inr rfl),HU];simp[Cb]
theorem vT(one:T->T->E)(a b:List T):CA (Fh one) (J7 (A5 [⟨1,a.length⟩,⟨2,b.length⟩])) a b []=Fh one a b:=by
 have e:J7 (A5 [⟨1,a.length⟩,⟨2,b.length⟩])=fl 1 a.length++fl 2 b.length:=by
  unfold J7;rw[AN,AN,Hz];by_cases h1:a.length=0
  ·by_cases h2:b.length=0
   ·simp[h1,h2,Rd]
   ·rw[h1];simp only[List.replicate_zero,List.nil_append];rw[Uw b.length [] 0 0 0 oF];simp[Rd]
  ·rw[XK a.length _ 0 0 0 oF];by_cases h2:b.length=0
   ·simp[h2,Rd]
   ·rw[Uw b.length [] 0 _ 0 oF];simp[Rd]
 rw[e];by_cases h1:a.length=0
 ·have h1':a=[]:=by simpa using h1
  subst h1';by_cases h2:b.length=0
  ·have h2':b=[]:=by simpa using h2
   subst h2';simp[CA,kx,Cb]
  ·rw[MX (k:=2) (n:=b.length) oF];simp[CA,kx]
 ·rw[MX (k:=1) (n:=a.length) oF];by_cases h2:b.length=0
  ·have h2':b=[]:=by simpa using h2
   subst h2';simp[CA,cB]
  ·rw[MX (k:=2) (n:=b.length) oF];simp[CA]
theorem dw{one:T->T->E}{a b:T}(ha:Ay a)(hb:Ay b)(hna:∀t,t∈a.kids->Ag t=t)(hnb:∀t,t∈b.kids->Ag t=t)(hal:a.kids.length<=30000)(hbl:b.kids.length<=30000){most:Int}(hm:B6 most)(hone:∀x,x∈a.kids->∀y,y∈b.kids->G.Spec Tryz.prog 44 [tX x,tX y,iv most] (eX (one x y))) :
  G.Spec Tryz.prog 75 [tX a,tX b,iv most] (eX (OU one most a b)):=by
 have hka:=(wfT_iff.1 ha).ks;have hkb:=(wfT_iff.1 hb).ks;have C1:=Y6 (ks:=[]) (ts:=a.kids) iS iS hka hna (by simp;omega) 1;have hl1:=Pg a.kids [];simp at hl1;have C2:=Y6 (ks:=(BM [] a.kids).1) (ts:=b.kids) (TY (l:=a.kids) iS hka) (Za (l:=a.kids) iS) hkb hnb oF (YA 1 [] a.kids);have e1:(Rt a).length=a.kids.length:=by simp[Rt,tG,CU]
 have e2:(Q7 a b).length=b.kids.length:=by simp[Q7,tG,CU]
 have hD:=mI (a:=Rt a) (b:=Q7 a b) oF oF hm;have z1:(Rt a).map iv=(BM [] a.kids).2.map nv:=eY _;have z2:(Q7 a b).map iv=(BM (BM [] a.kids).1 b.kids).2.map nv:=eY _;simp only[CN,z1,z2]at hD;have key:∀(w0:World)(I0:Nat->Prop)(S:List Sp)(H:Hp),S.length<=10000000->(∀s,s∈S->s.k<=2)->dA (A5 S)<=a.kids.length->dB (A5 S)<=b.kids.length->H [0]=⟨1,.cells (tL a)⟩->H [1]=⟨1,.cells (tL b)⟩->H [2]=⟨1,.cells AY⟩ ->
   WPC (cx Tryz.prog w0 I0 47) Oe (Rn Tryz.prog [ResultVar.cell 6 30] (eX (.mk 3 T0 T0 [] [] a.kind (CA (Fh one) S a.kids b.kids [])))) ⟨lk [(2,iv most),(3,.pob [0] 1 0),(4,.pob [1] 1 0),(6,.pob [2] 1 0),(9,Sk S)],H⟩:=by
  intro w0 I0 S H s1 s2 s3 s4 h0 h1 h2;have O:=jl hka hkb oF oF hone s1 s2 s3 s4;rw[(Ao Oe.eq_1)];simp[h0,h1];refine Ae O iS ?_;simp[h0,h2,Aa,AY];exact Bb ⟨Ad rfl,Ad rfl,Ai,Ai,Ad rfl,Ai,Ai,Ai,Ai,Ad rfl,Ai,trivial⟩
 have wd:=dm (Rt a) (Q7 a b);have wi:=TA (Rt a) (Q7 a b);have wn:=Z3 _ wi;refine Aj im iS fun w0 I0=>?_;rw[BG WO.eq_1];simp;refine Dn (Bi (d:=[3]) (u:=1) (cs:=[.sl true []]) 0 [3,0] 3 (by simp[Aa]) rfl iS) (Dr ?_);simp;refine Au 3 C1 (fun p=>?_) iS iS ?_
 ·by_cases h1:p=[]
  ·subst h1;simp[Aa]
  ·by_cases h2:p=[0]
   ·subst h2;simp[Aa]
   ·simp[h1,h2,Ne.symm h1,Ne.symm h2,Aa]
 ·simp;refine Au 3 C2 (fun p=>iS) iS iS ?_;simp;refine Ae hD iS ?_;by_cases hd:(Ct (Rt a) (Q7 a b):Int)<=most
  ·have hL:OU one most a b=.mk 3 T0 T0 [] [] a.kind (CA (Fh one) (J7 (GU (Rt a) (Q7 a b))) a.kids b.kids []):=by unfold OU;rw[if_pos hd]
   rw[hL];simp[hd];refine key _ _ _ _ ?_ (fun s hs=>(WU wi s hs).1) oF oF iS iS (by simp[AY]);have:=NB _ (WU wi);omega
  ·have hL:OU one most a b=.mk 3 T0 T0 [] [] a.kind (CA (Fh one) (J7 (A5 [⟨1,a.kids.length⟩,⟨2,b.kids.length⟩])) a.kids b.kids []):=by unfold OU;rw[if_neg hd,vT]
   have N:=sY (all:=[⟨1,a.kids.length⟩,⟨2,b.kids.length⟩]) (fun s hs=>by
    simp at hs;rcases hs with rfl|rfl
    ·exact⟨iS,by simp;omega⟩
    ·exact⟨iS,by simp;omega⟩) iS
   have ui:∀x,x∈A5 [⟨1,a.kids.length⟩,⟨2,b.kids.length⟩]->x<=2:=fun x hx=>by
    rw[AN,AN,Hz,List.append_nil]at hx;rcases List.mem_append.1 hx with h|h<;>(have h':=List.eq_of_mem_replicate h;simp at h';omega)
   have ud:=Z3 _ ui;have ua:dA (A5 [⟨1,a.kids.length⟩,⟨2,b.kids.length⟩])=a.kids.length:=by
    rw[AN,AN,Hz,Gm,Gm,Hi,Hi];simp[dA]
   have ub:dB (A5 [⟨1,a.kids.length⟩,⟨2,b.kids.length⟩])=b.kids.length:=by
    rw[AN,AN,Hz,Gp,Gp,He,He];simp[dB]
   have ul:=NB _ (WU ui);have N2:G.Spec Tryz.prog 122 [.sl true [.agg [iv 1,iv a.kids.length],.agg [iv 2,iv b.kids.length]]] (Sk (J7 (A5 [⟨1,a.kids.length⟩,⟨2,b.kids.length⟩]))):=N.soft (by simp[A.softL,A.soft,Fm,JD]);clear N;rw[hL];clear hL;generalize A5 [⟨1,a.kids.length⟩,⟨2,b.kids.length⟩]=us at *;simp[hd];refine Ae N2 iS ?_;simp;refine key _ _ _ _ oF (fun s hs=>(WU ui s hs).1) oF oF iS iS (by simp[AY])
theorem ya{H:Hp}{o:Nm}{u:Nat}{l:List Nat}{n:Nat}(h:vr (H o) u=some (1,l.map nv))(hn:n=l.length):Iz H (.osl o u 1 0 n) (.sl false (l.map nv)):=AQ (f:=nv) h hn fun x=>iS
theorem lC(ks:List T)(n:T):ks <+: F8 ks n:=by
 unfold F8;split
 ·exact List.prefix_rfl
 ·exact List.prefix_append _ _
theorem Kf:∀(l ks:List T),ks <+: (BM ks l).1
 |[],ks=>List.prefix_rfl
 |t::l,ks=>(lC ks (Ag t)).trans (Kf l _)
theorem Sh:∀{l ks:List T},ks.Nodup->(BM ks l).1.Nodup
 |[],ks,h=>h
 |t::l,ks,h=>Sh (l:=l) (mX h)
theorem XE(ks:List T)(n:T):(F8 ks n)[Fj ks n]? = some n:=by
 unfold F8;have hle:=o3 ks n;split
 ·rename_i h;rw[List.getElem?_eq_getElem h];congr 1;exact sameB_iff.1 (List.findIdx_getElem (p:=fun k=>Fs k n) (w:=h))
 ·rename_i h;have:Fj ks n=ks.length:=oF
  rw[this];simp
theorem ZT{ks ks':List T}{n:T}(h:F8 ks n <+: ks')(hd:ks'.Nodup):Fj ks' n=Fj ks n:=by
 have h1:=XE ks n;obtain⟨hl,e⟩:=List.getElem?_eq_some_iff.1 h1;have hl2:Fj ks n<ks'.length:=Nat.lt_of_lt_of_le hl h.length_le;refine zv hl2 ?_ hd;obtain⟨m,rfl⟩:=h;rw[List.getElem_append_left hl];exact e
theorem oI{ks ks':List T}{n:T}(h:F8 ks n <+: ks')(hd:ks'.Nodup):F8 ks' n=ks':=by
 have h1:=ZT h hd;have h2:=XE ks n;obtain⟨hl,e⟩:=List.getElem?_eq_some_iff.1 h2;have hl2:Fj ks n<ks'.length:=Nat.lt_of_lt_of_le hl h.length_le;unfold F8;rw[if_pos oF]
theorem SX:∀{l ks ks':List T},(BM ks l).1 <+: ks'->ks'.Nodup->BM ks' l=(ks',(BM ks l).2)
 |[],ks,ks',_,_=>rfl
 |t::l,ks,ks',h,hd=>by
  have h1:F8 ks (Ag t) <+: ks':=(Kf l _).trans h;simp only[BM];rw[ZT h1 hd,oI h1 hd,SX (l:=l) (ks:=F8 ks (Ag t)) h hd]
theorem yL{c:Cx}{s:Nat->A}{H:Hp}(t:Nat):Le c ⟨s,H⟩ ⟨upd s t (A.soft (s t)),H⟩:=fun a w I μ hs=>
 ⟨I,μ,hs.sim,hs.size,hs.defers,fun k=>by
  show Rel w I μ (upd s t (A.soft (s t)) k) _;unfold upd;split
  ·rename_i e;subst e;exact(hs.rel _).soft
  ·exact hs.rel k⟩
theorem YM{α:Type}{H:Hp}{o:Nm}{u n sz:Nat}{l:List α}{f g:α->A}(h:vr (H o) u=some (sz,l.map f))(hn:n=l.length)
  (hf:∀x,x∈l->(f x).cells.all A.bare=true/\(f x).cells.map A.soft=(g x).cells/\(g x).cells.length=sz/\A.ones (g x).cells=true):Iz H (.osl o u sz 0 n) (.sl false (l.map g)):=by
 subst hn;refine LX (xs:=l.map f) (by simpa using h) iS iS (fun y hy=>?_) ?_ ?_
 ·obtain⟨x,hx,rfl⟩:=List.mem_map.1 hy;exact(hf x hx).2.2.1
 ·simp only[A.ones,List.all_eq_true,List.mem_flatMap];rintro y ⟨z,hz,hy⟩;obtain⟨x,hx,rfl⟩:=List.mem_map.1 hz;have:=(hf x hx).2.2.2;simp only[A.ones,List.all_eq_true]at this;exact this y hy
 ·rw[List.drop_zero,Ax iS];have:∀(m:List α),(∀x,x∈m->x∈l)->IV H ((m.map f).flatMap A.cells) ((m.map g).flatMap A.cells):=by
   intro m;induction m with
   |nil=>intro _;simp
   |cons x m ih=>
    intro hm;obtain⟨h1,h2,_,_⟩:=hf x (hm x iS);simp only[List.map_cons,List.flatMap_cons];rw[<-h2];have hr:=ih fun y hy=>hm y (by simp[hy]);have:∀(c:List A)(p q:List A),c.all A.bare=true->IV H p q->IV H (c++p) (c.map A.soft++q):=by
     intro c;induction c with
     |nil=>intro p q _ hpq;exact hpq
     |cons y c ihc=>
      intro p q hc hpq;simp only[List.all_cons,Bool.and_eq_true]at hc;exact⟨jT hc.1,ihc p q hc.2 hpq⟩
    exact this _ _ _ h1 hr
  exact this l fun x h=>h
section
variable {n0:Nat} {w0:World} {I0:Nat->Prop}
end
abbrev Aea(l:Int)(v n:Nat):List A:=[iv 3,iv 0,.sl true [],.sl true [],iv 0,.sl true [],.sl true [],.sl true [],.sl true [],iv l,.osl [4] v 14 0 n]
theorem uV{one:T->T->E}{a b:T}(ha:∀t,t∈a.kids->Ay t)(hb:∀t,t∈b.kids->Ay t)(hal:a.kids.length<=1000000)(hbl:b.kids.length<=1000000){most:Int}(hone:∀x,x∈a.kids->∀y,y∈b.kids->G.Spec Tryz.prog 67 [tX x,tX y,iv most] (eX (one x y))){S:List Sp}(hS:S.length<=10000)(hS2:∀s,s∈S->s.k<=2){R:List OP}
  (hq:∀(H':Hp)(its:List IT)(v:Nat)(st:List (Nat × A)),its.map IT.op=R->H' [2]=⟨1,.cells AY⟩->H' [3]=⟨1,.cells (Aea a.kind v its.length)⟩->H' [4]=⟨v,.arr 14 (its.map Ri)⟩->Q (.exit 0) ⟨lk ([(2,iv most),(3,.pob [0] 1 0),(4,.pob [1] 1 0),(6,.pob [2] 1 0),(11,Sk S),(13,.pob [3] 1 0)]++st),H'⟩) :
  ∀(m k i j v:Nat)(its:List IT)(H:Hp),k+m=S.length->1<=v->i+dA (A5 (S.drop k))<=a.kids.length->j+dB (A5 (S.drop k))<=b.kids.length->its.length<=50*k->R=CA (Fh one) (S.drop k) (a.kids.drop i) (b.kids.drop j) (its.map IT.op)->H [0]=⟨1,.cells (tL a)⟩->H [1]=⟨1,.cells (tL b)⟩->H [2]=⟨1,.cells AY⟩->H [3]=⟨1,.cells (Aea a.kind v its.length)⟩->(∀p,H (4::p)=(itM v its).F 4 p) ->
  LoopC (cx Tryz.prog w0 I0 n0) Bo Q ⟨lk [(2,iv most),(3,.pob [0] 1 0),(4,.pob [1] 1 0),(6,.pob [2] 1 0),(11,Sk S),(13,.pob [3] 1 0),(14,iv i),(15,iv j),(16,iv k)],H⟩:=by
 intro m;induction m using Nat.strongRecOn with
 |_ m ih=>
 intro k i j v its H hm hv hA hB hl hR h0 h1 h2 h3 h4;have h4':=h4 [];simp at h4';cases m with
 |zero=>
  have:k=S.length:=oF
  subst this;rw[List.drop_length]at hR;refine Ab Ah (BG Bo.eq_1) ?_;simp;have:=hq H its v [(14,iv i),(15,iv j),(16,iv S.length),(57,bv false)] hR.symm h2 h3 h4';simpa using this
 |succ m=>
  have hlt:k<S.length:=oF
  have ew:=Ap k;have hd:S.drop k=S[k]::S.drop (k+1):=(List.getElem_cons_drop hlt).symm;have hk:=hS2 _ (Bv hlt);rw[hd]at hR hA hB;rw[AN,Gm,Hi]at hA;rw[AN,Gp,He]at hB;generalize hs:S[k]=s at *;have hk3:s.k=0\/s.k=1\/s.k=2:=oF
  have ewi:i+s.n<=a.kids.length->i64.wrap ((i:Int)+s.n)=((i+s.n:Nat):Int):=fun h=>by rw[AJ oF oF];omega
  have ewj:j+s.n<=b.kids.length->i64.wrap ((j:Int)+s.n)=((j+s.n:Nat):Int):=fun h=>by rw[AJ oF oF];omega
  have sl:∀{p n q:Nat},p+n<=q->(0:Int)<=(p:Int)+n/\(p:Int)+n<=(q:Int)/\((p:Int)+n).toNat=p+n/\(p:Int)<=(p:Int)+n:=fun h=>⟨oF,oF,oF,oF⟩;rcases hk3 with h|h|h
  ·rw[bG h,List.drop_drop,List.drop_drop]at hR;rw[if_neg oF]at hA hB;have wi:=ewi oF;have wj:=ewj oF;have nx:=ih m oF (k+1) (i+s.n) (j+s.n) (v+1) (its++[IT.r (RI.keep (s.n:Int))]);simp only[List.length_append,List.length_cons,List.length_nil]at nx;refine Ab Ah (BG Bo.eq_1) ?_;simp[hlt,hs,Fm,JD,h,h3,h4',Dq,ew,wi,wj,Aa];refine⟨oF,?_⟩;refine nx _ oF oF oF oF oF (by rw[hR];simp[IT.op,RI.op]) (by simp[Aa,h0]) (by simp[Aa,h1]) (by simp[Aa,h2,AY]) (by simp[Aa]) (fun p=>?_);by_cases hp:p=[]
   ·subst hp;rw[Ax iS];simp[Aa,Ri,fq,Tj,AY]
   ·simp[Aa,hp,h4]
  ·rw[h]at hA hB;simp at hA hB;have wi:=ewi oF;by_cases hg2:∃h3:k+1<S.length,S[k+1].k=2
   ·obtain⟨h5,h6⟩:=hg2;have hd2:S.drop (k+1)=S[k+1]::S.drop (k+1+1):=(List.getElem_cons_drop h5).symm;rw[hd2]at hR hA hB;rw[AN,Gm,Hi]at hA;rw[AN,Gp,He]at hB;generalize hs2:S[k+1]=s2 at *;rw[ZM h h6,List.drop_drop,List.drop_drop]at hR;rw[h6]at hA hB;simp at hA hB;have ew2:i64.wrap ((k:Int)+1+1)=((k+1+1:Nat):Int):=AU;have wj2:i64.wrap ((j:Int)+s2.n)=((j+s2.n:Nat):Int):=AU;have G:=dc (one:=one) (a:=(a.kids.drop i).take s.n) (b:=(b.kids.drop j).take s2.n) (fun t ht=>ha t (Qy (O4 ht))) (fun t ht=>hb t (Qy (O4 ht))) (by simp;omega) (by simp;omega) (most:=most) (fun p hp q hq=>hone p (Qy (O4 hp)) q (Qy (O4 hq)));have gl:=Ud one ((a.kids.drop i).take s.n) ((b.kids.drop j).take s2.n);have i1:(k:Int)+1<S.length:=oF
    have i2:(0:Int)<=(k:Int)+1:=oF
    have i3:((k:Int)+1).toNat=k+1:=oF
    have i4:i64.wrap ((k:Int)+1)=(k:Int)+1:=by rw[ew];omega
    have c1:i+s.n<=a.kids.length:=oF
    have c2:j+s2.n<=b.kids.length:=oF
    obtain⟨p1,p2,p3,p4⟩:=sl c1;obtain⟨q1,q2,q3,q4⟩:=sl c2;generalize Fh one ((a.kids.drop i).take s.n) ((b.kids.drop j).take s2.n)=I at *;have nx:=fun H'=>ih (m-1) oF (k+1+1) (i+s.n) (j+s2.n) (v+1) (its++I.map IT.got) H' oF;simp only[List.length_append,List.length_map]at nx;refine Ab Ah (BG Bo.eq_1) ?_;simp[hlt,hs,Fm,JD,h,i4,h5,hs2,h6,i1,i2,i3];rw[(Ao EX.eq_1)];simp[h0,h1,h3,wi,wj2,c1,c2,p1,p2,p3,p4,q1,q2,q3,q4];simp only[<-List.map_drop,<-List.map_take];refine Ae G iS ?_;simp[h3,h4',Dq,wi,wj2,Aa,ew2];refine⟨oF,?_⟩;refine nx _ oF oF oF oF (by rw[hR,List.map_append,bL]) (by simp[Aa,h0]) (by simp[Aa,h1]) (by simp[Aa,h2,AY]) (by simp[Aa]) (fun p=>?_);by_cases hp:p=[]
    ·subst hp;rw[Ax iS,V2];simp[Aa]
    ·simp[Aa,hp,h4]
   ·have hnd:∀s2 r,S.drop (k+1)=s2::r->s2.k≠2:=fun s2 r e h4=>by
     have h3:k+1<S.length:=by
      have:=congrArg List.length e;simp at this;omega
     refine hg2 ⟨h3,?_⟩;have:S.drop (k+1)=S[k+1]::S.drop (k+1+1):=(List.getElem_cons_drop h3).symm;rw[this]at e;cases e;exact h4
    rw[jL h hnd,List.drop_drop]at hR;have G:=dc (one:=one) (a:=(a.kids.drop i).take s.n) (b:=[]) (fun t ht=>ha t (Qy (O4 ht))) (fun t ht=>by simp at ht) (by simp;omega) iS (most:=most) (fun p hp q hq=>by simp at hq);rw[cB]at G;have c1:i+s.n<=a.kids.length:=oF
    have c2:j<=b.kids.length:=oF
    obtain⟨p1,p2,p3,p4⟩:=sl c1;have wj0:i64.wrap (j:Int)=j:=CX;have gl:(Dd ((a.kids.drop i).take s.n)).length<=1:=by unfold Dd;split<;>simp
    generalize Dd ((a.kids.drop i).take s.n)=I at *;have nx:=fun H'=>ih m oF (k+1) (i+s.n) j (v+1) (its++I.map IT.got) H' oF;simp only[List.length_append,List.length_map]at nx;have i4:i64.wrap ((k:Int)+1)=(k:Int)+1:=by rw[ew];omega
    have key:WPC (cx Tryz.prog w0 I0 n0) EX (BA 2 (BA 1 (Ej (WPC (cx Tryz.prog w0 I0 n0) (.keep [2,3,4,6,11,13,14,15,16] (.reg [co (some 58) (.move (.tmp 16)) none,co (some 59) (.binOp .add 3 (.tmp 58) (.const (.int .i64 1)) 3) none,co (some 16) (.assign (.tmp 59)) none] [2,3,4,6,11,13,14,15,16]))
      (Ej (LoopC (cx Tryz.prog w0 I0 n0) Bo Q) Q)) (Ej (LoopC (cx Tryz.prog w0 I0 n0) Bo Q) Q)))) ⟨lk [(2,iv most),(3,.pob [0] 1 0),(4,.pob [1] 1 0),(6,.pob [2] 1 0),(11,Sk S),(13,.pob [3] 1 0),(14,iv i),(15,iv j),(16,iv k),(17,iv s.n),(18,iv 0)],H⟩:=by
     rw[(Ao EX.eq_1)];simp[h0,h1,h3,wi,wj0,c1,c2,p1,p2,p3,p4];simp only[<-List.map_drop,<-List.map_take];refine Ae G iS ?_;simp[h3,h4',Dq,wi,wj0,Aa,ew];refine⟨oF,?_⟩;refine nx _ oF oF oF oF (by rw[hR,List.map_append,bL]) (by simp[Aa,h0]) (by simp[Aa,h1]) (by simp[Aa,h2,AY]) (by simp[Aa]) (fun p=>?_);by_cases hp:p=[]
     ·subst hp;rw[Ax iS,V2];simp[Aa]
     ·simp[Aa,hp,h4]
    refine Ab Ah (BG Bo.eq_1) ?_;by_cases h5:k+1<S.length
    ·have h6:¬S[k+1].k=2:=fun e=>hg2 ⟨h5,e⟩;have i1:(k:Int)+1<S.length:=oF
     have i2:(0:Int)<=(k:Int)+1:=oF
     have i3:((k:Int)+1).toNat=k+1:=oF
     have h6':¬((S[k+1].k:Nat):Int)=2:=oF
     simp[hlt,hs,Fm,JD,h,i4,h5,h6,h6',i1,i2,i3];simpa using key
    ·have i1:¬(k:Int)+1<S.length:=oF
     simp[hlt,hs,Fm,JD,h,i4,h5,i1];simpa using key
  ·rw[ko h,List.drop_drop]at hR;rw[h]at hA hB;simp at hA hB;have wj:=ewj oF;have c2:j+s.n<=b.kids.length:=oF
   obtain⟨q1,q2,q3,q4⟩:=sl c2;have F2:=LG its v hv oF (k:=2) (.inr rfl) ((b.kids.drop j).take s.n);have d2:=UM 2 ((b.kids.drop j).take s.n);have o2:=dx ((b.kids.drop j).take s.n);rw[<-o2]at hR;clear o2;generalize Z7 2 ((b.kids.drop j).take s.n)=I at *;simp only[List.length_append]at F2;have nx:=fun H'=>ih m oF (k+1) i (j+s.n) (v+I.length) (its++I) H' oF;simp only[List.length_append]at nx;refine Ab Ah (BG Bo.eq_1) ?_;simp[hlt,hs,Fm,JD,h,h1,h3,wj,c2,q1,q2,q3,q4];simp only[<-List.map_drop,<-List.map_take];refine Au 4 F2 h4 iS iS ?_;simp[h1,h3,wj,ew,Aa];refine nx _ oF oF oF oF (by rw[hR];simp) (by simp[Aa,h0]) (by simp[Aa,h1]) (by simp[Aa,h2,AY]) (by simp[Aa]) (fun p=>?_);simp[Aa]
theorem fW{one:T->T->E}{a b:T}(ha:Ay a)(hb:Ay b)(hal:a.kids.length<=1000)(hbl:b.kids.length<=1000){most:Int}(hm:B6 most)(hone:∀x,x∈a.kids->∀y,y∈b.kids->G.Spec Tryz.prog 67 [tX x,tX y,iv most] (eX (one x y))) :
  G.Spec Tryz.prog 106 [tX a,tX b,iv most] (eX (OU one most a b)):=by
 have hka:=(wfT_iff.1 ha).ks;have hkb:=(wfT_iff.1 hb).ks;have C1:=R2 (ks:=[]) (ts:=a.kids) iS hka (by simp;omega) 1;have hl1:=Pg a.kids [];simp at hl1;have C2:=R2 (ks:=(BM [] a.kids).1) (ts:=b.kids) (TY (l:=a.kids) iS hka) hkb oF (L9 1 [] a.kids);have e1:(Rt a).length=a.kids.length:=by simp[Rt,tG,CU]
 have e2:(Q7 a b).length=b.kids.length:=by simp[Q7,tG,CU]
 have hD:=mM (a:=Rt a) (b:=Q7 a b) oF oF hm;have z1:(Rt a).map iv=(BM [] a.kids).2.map nv:=eY _;have z2:(Q7 a b).map iv=(BM (BM [] a.kids).1 b.kids).2.map nv:=eY _;simp only[CN,z1,z2]at hD;have key:∀(w0:World)(I0:Nat->Prop)(S:List Sp)(L:A)(H:Hp),(L=Sk S\/A.soft L=Sk S)->S.length<=10000->(∀s,s∈S->s.k<=2)->dA (A5 S)<=a.kids.length->dB (A5 S)<=b.kids.length->H [0]=⟨1,.cells (tL a)⟩->H [1]=⟨1,.cells (tL b)⟩->H [2]=⟨1,.cells AY⟩->(H [3]).u=0->(∀p,H (4::p)=⟨0,.none⟩) ->
   WPC (cx Tryz.prog w0 I0 150) HR (Rn Tryz.prog [ResultVar.cell 6 30] (eX (.mk 3 T0 T0 [] [] a.kind (CA (Fh one) S a.kids b.kids [])))) ⟨lk [(2,iv most),(3,.pob [0] 1 0),(4,.pob [1] 1 0),(6,.pob [2] 1 0),(11,L)],H⟩:=by
  intro w0 I0 S L H hL s1 s2 s3 s4 h0 h1 h2 h3 h4;rw[(BG HR.eq_1)];simp[h0,h1,h3,Aa];refine LoopC.le (Bi (d:=[3]) (u:=1) 10 [4] 14 (by simp[Aa,h3];rfl) rfl iS) ?_;simp[Aa,h3,h4];have soft:LoopC (cx Tryz.prog w0 I0 150) Bo (BA 0 (Ej (WPC (cx Tryz.prog w0 I0 150) (CC.keep [6,13] ((CC.reg [co (some 149) (Op.load 30 (Operand.tmp 13)) none,co none (Op.store 30 (Operand.tmp 6) (Operand.tmp 149)) none] [6]).seq CC.ret)) (Rn Tryz.prog [ResultVar.cell 6 30] (eX (E.mk 3 T0 T0 [] [] a.kind (CA (Fh one) S a.kids b.kids []))))) (Rn Tryz.prog [ResultVar.cell 6 30] (eX (E.mk 3 T0 T0 [] [] a.kind (CA (Fh one) S a.kids b.kids [])))))) ⟨lk [(2,iv most),(3,.pob [0] 1 0),(4,.pob [1] 1 0),(6,.pob [2] 1 0),(11,Sk S),(13,.pob [3] 1 0),(14,iv (0:Nat)),(15,iv (0:Nat)),(16,iv (0:Nat))],Ar (Ar (Ar H [3] ⟨1,.cells [iv 3,iv 0,.sl true [],.sl true [],iv 0,.sl true [],.sl true [],.sl true [],.sl true [],iv a.kind,.sl true []]⟩) [4] ⟨1,.arr 14 []⟩) [3] ⟨1,.cells (Aea a.kind 1 0)⟩⟩:=by
   refine uV (one:=one) (a:=a) (b:=b) hka hkb oF oF hone s1 s2 (R:=CA (Fh one) S a.kids b.kids []) (fun H' its v st hR g2 g3 g4=>?_) S.length 0 0 0 1 [] _ oF (Cq _) (by simpa using s3) (by simpa using s4) iS rfl (by simp[Aa,h0]) (by simp[Aa,h1]) (by simp[Aa,h2,AY]) (by simp[Aa]) (fun p=>?_)
   ·rw[<-hR];simp[g2,g3,g4,AY];refine Bb ⟨Ad rfl,Ad rfl,Ai,Ai,Ad rfl,Ai,Ai,Ai,Ai,Ad rfl,?_,trivial⟩;exact Xu (by simp[Aa,g4]) iS
   ·by_cases hp:p=[]
    ·subst hp;simp[Aa]
    ·simp[Aa,hp,h4]
  rcases hL with rfl|hL
  ·simpa using soft
  ·refine LoopC.le (yL 11) ?_;refine LoopC.le (Al [(2,iv most),(3,.pob [0] 1 0),(4,.pob [1] 1 0),(6,.pob [2] 1 0),(11,Sk S),(13,.pob [3] 1 0),(14,iv (0:Nat)),(15,iv (0:Nat)),(16,iv (0:Nat))] (by simp[upd,hL])) ?_;simpa using soft
 have wd:=dm (Rt a) (Q7 a b);have wi:=TA (Rt a) (Q7 a b);have wn:=Z3 _ wi;have l1:=CU a.kids [];have l2:=CU b.kids (BM [] a.kids).1;have hL1:OU one most a b=.mk 3 T0 T0 [] [] a.kind (CA (Fh one) (if (Ct (Rt a) (Q7 a b):Int)<=most then J7 (GU (Rt a) (Q7 a b))else [⟨1,a.kids.length⟩,⟨2,b.kids.length⟩]) a.kids b.kids []):=by
  unfold OU;split
  ·rfl
  ·rw[ZM rfl rfl];simp[CA]
 rw[hL1];clear hL1;generalize hx:Rt a=x at *;generalize hy:Q7 a b=y at *;clear z1 z2;generalize hX:(BM [] a.kids).2=X at *;generalize hY:(BM (BM [] a.kids).1 b.kids).2=Y at *;refine Aj Ti iS fun w0 I0=>?_;rw[BG Lq.eq_1];simp;refine Dn (BC 7 [5] 3 iS) (Dr ?_);simp;refine dF 5 6 dO C1 (fun p=>?_) (fun p=>iS) iS iS ?_
 ·by_cases hp:p=[]
  ·subst hp;simp
  ·simp[hp,Ne.symm hp]
 simp;refine dF 5 7 dO C2 (fun p=>iS) (fun p=>iS) iS iS ?_;simp;refine Dn (Jr (d:=[6]) (fun _ h=>h) 8 (.sl false (X.map nv)) fun H1 g1=>?_) ?_
 ·simp;exact ya (by rw[g1];simp) l1.symm
 refine Dn (Jr (d:=[7]) (fun _ h=>h) 10 (.sl false (Y.map nv)) fun H1 g1=>?_) ?_
 ·simp[upd];exact ya (by rw[g1];simp[Aa]) l2.symm
 refine Dn (Al [(2,iv most),(3,.pob [0] 1 0),(4,.pob [1] 1 0),(6,.pob [2] 1 0),(8,.sl false (X.map nv)),(10,.sl false (Y.map nv))] (by simp[upd])) (Dr ?_);simp;refine Ae hD iS ?_;by_cases hd:(Ct x y:Int)<=most
 ·simp[hd];refine key _ _ _ _ _ (.inl rfl) ?_ (fun s hs=>(WU wi s hs).1) oF oF iS iS (by simp[AY]) iS iS;have:=NB _ (WU wi);omega
 ·simp[hd];refine key _ _ _ _ _ (.inr (by simp[A.softL,A.soft,Fm,JD])) iS (fun s hs=>by
   simp at hs;rcases hs with rfl|rfl<;>simp) ?_ ?_ iS iS (by simp[AY]) iS iS
  ·rw[AN,AN,Hz,Gm,Gm,Hi,Hi];simp[dA]
  ·rw[AN,AN,Hz,Gp,Gp,He,He];simp[dB]
theorem VT(a b:T)(i:Nat):Iw a b (i+1)=Iw a b i++(if DW (a.words.getD i 0) (b.words.getD i 0)=0 then []else [ZL i (a.words.getD i 0) (b.words.getD i 0)]):=by
 unfold Iw;rw[List.range_succ,List.filterMap_append];congr 1;by_cases h:DW (a.words.getD i 0) (b.words.getD i 0)=0
 ·simp only[List.filterMap_cons,List.filterMap_nil,h,if_true]
 ·simp only[List.filterMap_cons,List.filterMap_nil,h,if_false]
theorem Qf(a b:T):∀i,(Iw a b i).length<=i
 |0=>by simp[Iw]
 |i+1=>by
  have:=Qf a b i;rw[VT];split<;>simp<;>omega
theorem P9(one:T->T->E)(a b:T)(i:Nat):DD one a b (i+1)=DD one a b i++(if (one (a.kids.getD i T0) (b.kids.getD i T0)).kind=0 then []else [.mk i (one (a.kids.getD i T0) (b.kids.getD i T0))]):=by
 unfold DD;rw[List.range_succ,List.filterMap_append];congr 1;by_cases h:(one (a.kids.getD i T0) (b.kids.getD i T0)).kind=0
 ·simp only[List.filterMap_cons,List.filterMap_nil,h,if_true]
 ·simp only[List.filterMap_cons,List.filterMap_nil,h,if_false]
theorem K3(one:T->T->E)(a b:T):∀i,(DD one a b i).length<=i
 |0=>by simp[DD]
 |i+1=>by
  have:=K3 one a b i;rw[P9];split<;>simp<;>omega
def tW(u n:Nat)(k:A):List A:=[iv 2,iv 0,.sl true [],.sl true [],iv 0,.sl true [],.sl true [],.osl [5] u 4 0 n,k,iv 0,.sl true []]
theorem Ai0{a b:T}(ha:Ay a)(hb:Ay b){most:A}{N:Nat}(hN:N<=1000000)
  (hq:∀(H':Hp)(u:Nat),H' [0]=⟨1,.cells (tL a)⟩->H' [1]=⟨1,.cells (tL b)⟩->H' [2]=⟨1,.cells AY⟩->H' [3]=⟨1,.cells (tW u (Iw a b N).length (.sl true []))⟩->H' [5]=⟨u,.arr 4 ((Iw a b N).map wA)⟩->H' [6]=⟨0,.none⟩->H' [7]=⟨0,.none⟩ ->
   Q (.exit 0) ⟨lk [(2,most),(3,.pob [0] 1 0),(4,.pob [1] 1 0),(6,.pob [2] 1 0),(7,.pob [3] 1 0),(20,iv N),(21,iv N),(22,bv false)],H'⟩) :
  ∀(m i:Nat)(u:Nat)(H:Hp),i+m=N->H [0]=⟨1,.cells (tL a)⟩->H [1]=⟨1,.cells (tL b)⟩->H [2]=⟨1,.cells AY⟩->H [3]=⟨1,.cells (tW u (Iw a b i).length (.sl true []))⟩->H [5]=⟨u,.arr 4 ((Iw a b i).map wA)⟩->H [6]=⟨0,.none⟩->H [7]=⟨0,.none⟩ ->
  LoopC (cx Tryz.prog w0 I0 n0) GJ Q ⟨lk [(2,most),(3,.pob [0] 1 0),(4,.pob [1] 1 0),(6,.pob [2] 1 0),(7,.pob [3] 1 0),(20,iv N),(21,iv i)],H⟩:=by
 intro m;induction m with
 |zero=>
  intro i u H hm h0 h1 h2 h3 h5 h6 h7;have:i=N:=oF
  subst this;refine Ab Ah (Ao GJ.eq_1) ?_;simp;exact hq H u h0 h1 h2 h3 h5 h6 h7
 |succ m ih=>
  intro i u H hm h0 h1 h2 h3 h5 h6 h7;have hlt:i<N:=oF
  have ew:=Ap i;have hwa:Ba (a.words.getD i 0):=pe ha i;have hwb:Ba (b.words.getD i 0):=pe hb i;have hW:=ml (i:=i) hwa hwb;have hwl:=Qf a b i;have next:=ih (i+1)
  rw[VT]at next
  refine Ab Ah (Ao GJ.eq_1) ?_;simp[hlt,h0,h1];refine Ae (Gl a i) iS ?_;simp[h0,h1];refine Ae (Gl b i) iS ?_;simp;refine Ae hW iS ?_;generalize a.words.getD i 0=x at *;generalize b.words.getD i 0=y at *;by_cases hz:DW x y=0
  ·rw[if_pos hz]at next
   simp[hz,Aa];rw[ew];refine next u _ oF (by simp[Aa,h0]) (by simp[Aa,h1]) (by simp[Aa,h2]) (by simp[Aa,h3]) (by simp[Aa,h5]) (by simp[Aa,h6]) (by simp[Aa,h7])
  ·rw[if_neg hz]at next
   simp[hz,Aa,h3,h5,tW];refine⟨oF,?_⟩;rw[ew];refine next (u+1) _ oF (by simp[Aa,h0]) (by simp[Aa,h1]) (by simp[Aa,h2]) (by simp[Aa,tW]) (by simp[Aa,Ax]) (by simp[Aa,h6]) (by simp[Aa,h7])
theorem Aip{one:T->T->E}{a b:T}{most:Int}{N:Nat}(hN:N<=1000000)(hone:∀i:Nat,G.Spec Tryz.prog 44 [tX (a.kids.getD i T0),tX (b.kids.getD i T0),iv most] (eX (one (a.kids.getD i T0) (b.kids.getD i T0)))){u n:Nat}{ws:List WE}
  (hq:∀(H':Hp)(v:Nat),H' [3]=⟨1,.cells (tW u n (.osl [7] v 12 0 (DD one a b N).length))⟩->H' [5]=⟨u,.arr 4 (ws.map wA)⟩->H' [7]=⟨v,.arr 12 ((DD one a b N).map kA)⟩->H' [2]=⟨1,.cells AY⟩ ->
   Q (.exit 2) ⟨lk [(2,iv most),(3,.pob [0] 1 0),(4,.pob [1] 1 0),(6,.pob [2] 1 0),(7,.pob [3] 1 0),(49,iv N),(50,iv N),(51,bv false)],H'⟩) :
  ∀(m i:Nat)(v:Nat)(H:Hp),i+m=N->H [0]=⟨1,.cells (tL a)⟩->H [1]=⟨1,.cells (tL b)⟩->H [2]=⟨1,.cells AY⟩->H [3]=⟨1,.cells (tW u n (.osl [7] v 12 0 (DD one a b i).length))⟩->H [5]=⟨u,.arr 4 (ws.map wA)⟩->H [7]=⟨v,.arr 12 ((DD one a b i).map kA)⟩ ->
  LoopC (cx Tryz.prog w0 I0 n0) GO Q ⟨lk [(2,iv most),(3,.pob [0] 1 0),(4,.pob [1] 1 0),(6,.pob [2] 1 0),(7,.pob [3] 1 0),(49,iv N),(50,iv i)],H⟩:=by
 intro m;induction m with
 |zero=>
  intro i v H hm h0 h1 h2 h3 h5 h7;have:i=N:=oF
  subst this;refine Ab Ah (Ao GO.eq_1) ?_;simp;exact hq H v h3 h5 h7 h2
 |succ m ih=>
  intro i v H hm h0 h1 h2 h3 h5 h7;have hlt:i<N:=oF
  have ew:=Ap i;have hO:=hone i;have hkl:=K3 one a b i;have next:=ih (i+1)
  rw[P9]at next
  have K1:=Hm a i;have K2:=Hm b i;generalize a.kids.getD i T0=x at *;generalize b.kids.getD i T0=y at *;generalize one x y=e at *;refine Ab Ah (Ao GO.eq_1) ?_;simp[hlt,h0,h1];refine Ae K1 iS ?_;simp[h0,h1];refine Ae K2 iS ?_;simp;refine Ae hO iS ?_;by_cases hz:e.kind=0
  ·rw[if_pos hz]at next
   simp[hz,Aa];rw[ew];refine next v _ oF (by simp[Aa,h0]) (by simp[Aa,h1]) (by simp[Aa,h2]) (by simp[Aa,h3]) (by simp[Aa,h5]) (by simp[Aa,h7])
  ·rw[if_neg hz]at next
   simp[hz,Aa,h3,h7,tW];refine⟨oF,?_⟩;rw[ew];refine next (v+1) _ oF (by simp[Aa,h0]) (by simp[Aa,h1]) (by simp[Aa,h2]) (by simp[Aa,tW]) (by simp[Aa,h5]) (by simp[Aa,Ax])
theorem Yd{one:T->T->E}{a b:T}(ha:Ay a)(hb:Ay b)(h1:a.words.length<=1000000)(h2:b.words.length<=1000000)(h3:a.kids.length<=1000000)(h4:b.kids.length<=1000000){most:Int}(hone:∀i:Nat,G.Spec Tryz.prog 44 [tX (a.kids.getD i T0),tX (b.kids.getD i T0),iv most] (eX (one (a.kids.getD i T0) (b.kids.getD i T0)))) :
  G.Spec Tryz.prog 73 [tX a,tX b,iv most] (eX (fr one a b)):=by
 refine Aj Wb iS fun w0 I0=>?_;rw[gm Nn.eq_1];simp;refine LoopC.le (Bi (d:=[3]) (u:=1) (cs:=[iv 2,iv 0,.sl true [],.sl true [],iv 0,.sl true [],.sl true [],.sl true [],.sl true [],iv 0,.sl true []]) 7 [5] 4 (by simp[Aa]) rfl iS) ?_;refine LoopC.le (Al [(2,iv most),(3,.pob [0] 1 0),(4,.pob [1] 1 0),(6,.pob [2] 1 0),(7,.pob [3] 1 0),(20,iv (max a.words.length b.words.length:Nat)),(21,iv (0:Nat))] (by simp;omega)) ?_;refine Ai0 ha hb (N:=max a.words.length b.words.length) oF (fun H' u g0 g1 g2 g3 g5 g6 g7=>?_) (max a.words.length b.words.length) 0 1 _ oF (by simp[Aa]) (by simp[Aa]) (by simp[Aa,AY]) (by simp[Aa,tW,Iw]) (by simp[Aa,Iw]) (by simp[Aa]) (by simp[Aa]);simp[g0,g1];refine LoopC.le (Bi (d:=[3]) (u:=1) (cs:=tW u (Iw a b (max a.words.length b.words.length)).length (.sl true [])) 8 [7] 12 g3 rfl iS) ?_;refine LoopC.le (Al [(2,iv most),(3,.pob [0] 1 0),(4,.pob [1] 1 0),(6,.pob [2] 1 0),(7,.pob [3] 1 0),(49,iv (max a.kids.length b.kids.length:Nat)),(50,iv (0:Nat))] (by simp;omega)) ?_;refine Aip (one:=one) (a:=a) (b:=b) (N:=max a.kids.length b.kids.length) oF hone (ws:=Iw a b (max a.words.length b.words.length)) (u:=u) (n:=(Iw a b (max a.words.length b.words.length)).length) (fun H2 v k3 k5 k7 k2=>?_) (max a.kids.length b.kids.length) 0 1 _ oF (by simp[Aa,g0]) (by simp[Aa,g1]) (by simp[Aa,g2]) (by simp[Aa,tW,DD,g7]) (by simp[Aa,g5]) (by simp[Aa,DD,g7]);simp[k3,k2,Aa,tW];refine⟨by simp[AY],?_⟩;refine Bb ⟨Ad rfl,Ad rfl,Ai,Ai,Ad rfl,Ai,Ai,?_,?_,Ad rfl,Ai,trivial⟩
 ·exact AQ (f:=wA) (l:=Iw a b (max a.words.length b.words.length)) (by rw[AD iS,k5];simp) rfl (fun x=>iS)
 ·exact AQ (f:=kA) (l:=DD one a b (max a.kids.length b.kids.length)) (by rw[AD iS,k7];simp) rfl (fun x=>iS)
def sF(u n:Nat)(k:A):List A:=[iv 2,iv 0,.sl true [],.sl true [],iv 0,.sl true [],.sl true [],.osl [4] u 4 0 n,k,iv 0,.sl true []]
theorem AeJ{a b:T}(ha:Ay a)(hb:Ay b){most:Int}{N:Nat}(hNN:N=max a.words.length b.words.length)(hN:N<=1000000)
  (hq:∀(H':Hp)(u:Nat),H' [0]=⟨1,.cells (tL a)⟩->H' [1]=⟨1,.cells (tL b)⟩->H' [2]=⟨1,.cells AY⟩->H' [3]=⟨1,.cells (sF u (Iw a b N).length (.sl true []))⟩->H' [4]=⟨u,.arr 4 ((Iw a b N).map wA)⟩->H' [6]=⟨0,.none⟩ ->
   Q (.exit 0) ⟨lk [(2,iv most),(3,.pob [0] 1 0),(4,.pob [1] 1 0),(6,.pob [2] 1 0),(7,.pob [3] 1 0),(8,iv N),(24,bv false)],H'⟩) :
  ∀(m i:Nat)(u:Nat)(H:Hp),i+m=N->H [0]=⟨1,.cells (tL a)⟩->H [1]=⟨1,.cells (tL b)⟩->H [2]=⟨1,.cells AY⟩->H [3]=⟨1,.cells (sF u (Iw a b i).length (.sl true []))⟩->H [4]=⟨u,.arr 4 ((Iw a b i).map wA)⟩->H [6]=⟨0,.none⟩ ->
  LoopC (cx Tryz.prog w0 I0 n0) Ee Q ⟨lk [(2,iv most),(3,.pob [0] 1 0),(4,.pob [1] 1 0),(6,.pob [2] 1 0),(7,.pob [3] 1 0),(8,iv i)],H⟩:=by
 intro m;induction m with
 |zero=>
  intro i u H hm h0 h1 h2 h3 h4 h6;have:i=N:=oF
  subst this;have g1:¬i<a.words.length:=oF
  have g2:¬i<b.words.length:=oF
  refine Ab Ah (Ao Ee.eq_1) ?_;simp[h0,h1,g1,g2];exact hq H u h0 h1 h2 h3 h4 h6
 |succ m ih=>
  intro i u H hm h0 h1 h2 h3 h4 h6;have hlt:i<N:=oF
  have ew:=Ap i;have hwa:Ba (a.words.getD i 0):=pe ha i;have hwb:Ba (b.words.getD i 0):=pe hb i;have hU:=fR hwa hwb;have hin:=Tm (a.words.getD i 0) (b.words.getD i 0);have z:Ba 0:=by unfold Ba;omega
  have M1:=Hs z hwa hin.1 hin.2;have M2:=Hs z hwb hin.1 hin.2;have W1:=U8 a i;have W2:=U8 b i;have hwl:=Qf a b i;have next:=ih (i+1)
  rw[VT]at next
  generalize a.words.getD i 0=x at *;generalize b.words.getD i 0=y at *;refine Ab Ah (Ao Ee.eq_1) ?_;have go:(i<a.words.length/\True)\/(¬i<a.words.length/\i<b.words.length):=by
   by_cases g:i<a.words.length
   ·exact .inl ⟨g,trivial⟩
   ·exact .inr ⟨g,oF⟩
  rcases go with ⟨g,g'⟩|⟨g,g'⟩;all_goals
   simp[h0,h1,g,g'];refine Ae W1 iS ?_;simp[h0,h1];refine Ae W2 iS ?_;simp;refine Ae hU iS ?_;by_cases hz:DW x y=0
   ·rw[if_pos hz,List.append_nil]at next
    simp[hz,ew];refine next u _ oF h0 h1 h2 h3 h4 h6
   ·rw[if_neg hz]at next
    simp[hz,Aa,h0,h1,h3,h4,sF];refine Ae W1 iS ?_;simp;refine Ae M1 iS ?_;simp[h1];refine Ae W2 iS ?_;simp;refine Ae M2 iS ?_;simp[h3,h4,sF,Aa];refine⟨oF,?_⟩;rw[ew];refine next (u+1) _ oF (by simp[Aa,h0]) (by simp[Aa,h1]) (by simp[Aa,h2]) (by simp[Aa,sF]) (by simp[Aa,Ax,ZL]) (by simp[Aa,h6])
theorem AeU{one:T->T->E}{a b:T}{most:Int}{N:Nat}(hNN:N=max a.kids.length b.kids.length)(hN:N<=1000000)(hone:∀i:Nat,G.Spec Tryz.prog 67 [tX (a.kids.getD i T0),tX (b.kids.getD i T0),iv most] (eX (one (a.kids.getD i T0) (b.kids.getD i T0)))){u n:Nat}{ws:List WE}
  (hq:∀(H':Hp)(v:Nat),H' [3]=⟨1,.cells (sF u n (.osl [6] v 12 0 (DD one a b N).length))⟩->H' [4]=⟨u,.arr 4 (ws.map wA)⟩->H' [6]=⟨v,.arr 12 ((DD one a b N).map kA)⟩->H' [2]=⟨1,.cells AY⟩ ->
   Q (.exit 2) ⟨lk [(2,iv most),(3,.pob [0] 1 0),(4,.pob [1] 1 0),(6,.pob [2] 1 0),(7,.pob [3] 1 0),(10,iv N),(65,bv false)],H'⟩) :
  ∀(m i:Nat)(v:Nat)(H:Hp),i+m=N->H [0]=⟨1,.cells (tL a)⟩->H [1]=⟨1,.cells (tL b)⟩->H [2]=⟨1,.cells AY⟩->H [3]=⟨1,.cells (sF u n (.osl [6] v 12 0 (DD one a b i).length))⟩->H [4]=⟨u,.arr 4 (ws.map wA)⟩->H [6]=⟨v,.arr 12 ((DD one a b i).map kA)⟩ ->
  LoopC (cx Tryz.prog w0 I0 n0) D9 Q ⟨lk [(2,iv most),(3,.pob [0] 1 0),(4,.pob [1] 1 0),(6,.pob [2] 1 0),(7,.pob [3] 1 0),(10,iv i)],H⟩:=by
 intro m;induction m with
 |zero=>
  intro i v H hm h0 h1 h2 h3 h4 h6;have:i=N:=oF
  subst this;have g1:¬i<a.kids.length:=oF
  have g2:¬i<b.kids.length:=oF
  refine Ab Ah (Ao D9.eq_1) ?_;simp[h0,h1,g1,g2];exact hq H v h3 h4 h6 h2
 |succ m ih=>
  intro i v H hm h0 h1 h2 h3 h4 h6;have hlt:i<N:=oF
  have ew:=Ap i;have hO:=hone i;have hkl:=K3 one a b i;have next:=ih (i+1)
  rw[P9]at next
  have K1:=Wv a i;have K2:=Wv b i;generalize a.kids.getD i T0=x at *;generalize b.kids.getD i T0=y at *;generalize one x y=e at *;have go:(i<a.kids.length/\True)\/(¬i<a.kids.length/\i<b.kids.length):=by
   by_cases g:i<a.kids.length
   ·exact .inl ⟨g,trivial⟩
   ·exact .inr ⟨g,oF⟩
  refine Ab Ah (Ao D9.eq_1) ?_;rcases go with ⟨g,g'⟩|⟨g,g'⟩;all_goals
   simp[h0,h1,g,g'];refine Ae K1 iS ?_;simp[h0,h1];refine Ae K2 iS ?_;simp;refine Ae hO iS ?_;by_cases hz:e.kind=0
   ·rw[if_pos hz,List.append_nil]at next
    simp[hz,Aa];rw[ew];refine next v _ oF (by simp[Aa,h0]) (by simp[Aa,h1]) (by simp[Aa,h2]) (by simp[Aa,h3]) (by simp[Aa,h4]) (by simp[Aa,h6])
   ·rw[if_neg hz]at next
    simp[hz,Aa,h3,h6,sF];refine⟨oF,?_⟩;rw[ew];refine next (v+1) _ oF (by simp[Aa,h0]) (by simp[Aa,h1]) (by simp[Aa,h2]) (by simp[Aa,sF]) (by simp[Aa,h4]) (by simp[Aa,Ax])
theorem Xg{one:T->T->E}{a b:T}(ha:Ay a)(hb:Ay b)(h1:a.words.length<=1000000)(h2:b.words.length<=1000000)(h3:a.kids.length<=1000000)(h4:b.kids.length<=1000000){most:Int}(hone:∀i:Nat,G.Spec Tryz.prog 67 [tX (a.kids.getD i T0),tX (b.kids.getD i T0),iv most] (eX (one (a.kids.getD i T0) (b.kids.getD i T0)))) :
  G.Spec Tryz.prog 105 [tX a,tX b,iv most] (eX (fr one a b)):=by
 refine Aj Qa iS fun w0 I0=>?_;rw[gm JZ.eq_1];simp;refine LoopC.le (Bi (d:=[3]) (u:=1) (cs:=[iv 2,iv 0,.sl true [],.sl true [],iv 0,.sl true [],.sl true [],.sl true [],.sl true [],iv 0,.sl true []]) 7 [4] 4 (by simp[Aa]) rfl iS) ?_;refine LoopC.le (Al [(2,iv most),(3,.pob [0] 1 0),(4,.pob [1] 1 0),(6,.pob [2] 1 0),(7,.pob [3] 1 0),(8,iv (0:Nat))] iS) ?_;refine AeJ ha hb (N:=max a.words.length b.words.length) rfl oF (fun H' u g0 g1 g2 g3 g5 g6=>?_) (max a.words.length b.words.length) 0 1 _ oF (by simp[Aa]) (by simp[Aa]) (by simp[Aa,AY]) (by simp[Aa,sF,Iw]) (by simp[Aa,Iw]) (by simp[Aa]);simp[g0,g1];refine LoopC.le (Bi (d:=[3]) (u:=1) (cs:=sF u (Iw a b (max a.words.length b.words.length)).length (.sl true [])) 8 [6] 12 g3 rfl iS) ?_;refine LoopC.le (Al [(2,iv most),(3,.pob [0] 1 0),(4,.pob [1] 1 0),(6,.pob [2] 1 0),(7,.pob [3] 1 0),(10,iv (0:Nat))] iS) ?_;refine AeU (one:=one) (a:=a) (b:=b) (N:=max a.kids.length b.kids.length) rfl oF hone (ws:=Iw a b (max a.words.length b.words.length)) (u:=u) (n:=(Iw a b (max a.words.length b.words.length)).length) (fun H2 v k3 k5 k7 k2=>?_) (max a.kids.length b.kids.length) 0 1 _ oF (by simp[Aa,g0]) (by simp[Aa,g1]) (by simp[Aa,g2]) (by simp[Aa,sF,DD,g6]) (by simp[Aa,g5]) (by simp[Aa,DD,g6]);simp[k3,k2,Aa,sF];refine⟨by simp[AY],?_⟩;refine Bb ⟨Ad rfl,Ad rfl,Ai,Ai,Ad rfl,Ai,Ai,?_,?_,Ad rfl,Ai,trivial⟩
 ·exact AQ (f:=wA) (l:=Iw a b (max a.words.length b.words.length)) (by rw[AD iS,k5];simp) rfl (fun x=>iS)
 ·exact AQ (f:=kA) (l:=DD one a b (max a.kids.length b.kids.length)) (by rw[AD iS,k7];simp) rfl (fun x=>iS)
theorem iC{a b:T}(ha:Ay a)(hb:Ay b){X Y:E}{most:Int}(hs:a.kind=1->b.kind=1->G.Spec Tryz.prog 73 [tX a,tX b,iv most] (eX X))(hl:a.kind=b.kind->2<=a.kind->a.kind<=9->G.Spec Tryz.prog 75 [tX a,tX b,iv most] (eX Y)) :
  G.Spec Tryz.prog 44 [tX a,tX b,iv most] (eX (if JE a b=true then E0 else if a.kind=1/\b.kind=1 then X else if a.kind=b.kind/\2<=a.kind/\a.kind<=9 then Y else .mk 1 a b [] [] 0 [])):=by
 have hE:=Lr ha hb;have hraw:∀H:Hp,Iz H (.agg AY) (eX E0):=fun H=>Bb ⟨Ad rfl,Ad rfl,Ai,Ai,Ad rfl,Ai,Ai,Ai,Ai,Ad rfl,Ai,trivial⟩;have hfr:∀(H:Hp)(k:Int),k=a.kind->Iz H (.agg [iv 1,iv k,C7 a.words,AV a.kids,iv b.kind,C7 b.words,AV b.kids,.sl true [],.sl true [],iv 0,.sl true []]) (eX (.mk 1 a b [] [] 0 [])):=fun H k hk=>by
  subst hk;exact Bb ⟨Ad rfl,Ad rfl,Ad rfl,Ad rfl,Ad rfl,Ad rfl,Ad rfl,Ai,Ai,Ad rfl,Ai,trivial⟩
 refine Aj n5 iS fun w0 I0=>?_;rw[Ao YH.eq_1];simp;refine Ae hE iS ?_;cases he:JE a b with
 |true=>
  simp;exact hraw _
 |false=>
  by_cases h1:a.kind=1
  ·by_cases h2:b.kind=1
   ·have S:=hs h1 h2;have S':G.Spec Tryz.prog 73 [.agg [iv 1,C7 a.words,AV a.kids],.agg [iv 1,C7 b.words,AV b.kids],iv most] (eX X):=by
     rw[<-h1];have e:([A.agg [iv a.kind,C7 a.words,AV a.kids],.agg [iv a.kind,C7 b.words,AV b.kids],iv most]:List A)=[tX a,tX b,iv most]:=by
      show [A.agg [iv a.kind,C7 a.words,AV a.kids],.agg [iv a.kind,C7 b.words,AV b.kids],iv most]=[A.agg [iv a.kind,C7 a.words,AV a.kids],.agg [iv b.kind,C7 b.words,AV b.kids],iv most];rw[h1,h2]
     rw[e];exact S
    simp[h1,h2];refine Ae S' iS ?_;simp;exact Ad iS
   ·have hne:¬(1:Int)=b.kind:=fun e=>h2 e.symm;simp[h1,h2,hne];refine Bx rfl ?_;simp;exact hfr _ 1 h1.symm
  ·by_cases h3:a.kind=b.kind
   ·have h2:¬b.kind=1:=fun e=>h1 (h3.trans e);simp[h1,h3,h2];rw[AR];simp;refine Ae (mZ b.kind) iS ?_;by_cases h5:2<=b.kind/\b.kind<=9
    ·have S:=hl h3 oF oF;have S':G.Spec Tryz.prog 75 [.agg [iv b.kind,C7 a.words,AV a.kids],.agg [iv b.kind,C7 b.words,AV b.kids],iv most] (eX Y):=by
      rw[<-h3];have e:([A.agg [iv a.kind,C7 a.words,AV a.kids],.agg [iv a.kind,C7 b.words,AV b.kids],iv most]:List A)=[tX a,tX b,iv most]:=by
       show [A.agg [iv a.kind,C7 a.words,AV a.kids],.agg [iv a.kind,C7 b.words,AV b.kids],iv most]=[A.agg [iv a.kind,C7 a.words,AV a.kids],.agg [iv b.kind,C7 b.words,AV b.kids],iv most];rw[h3]
      rw[e];exact S
     simp[h5.1,h5.2];refine Ae S' iS ?_;simp;exact Ad iS
    ·have h6:(decide (2<=b.kind)&&decide (b.kind<=9))=false:=by
      rw[Bool.eq_false_iff];simpa using h5
     rw[h6];simp[h5];exact hfr _ _ h3.symm
   ·simp[h1,h3];refine Bx rfl ?_;simp;exact hfr _ _ rfl
def XB:Nat->T->Prop
 |0,t=>t=T0
 |f+1,t=>t=T0\/(Ay t/\Ag t=t/\t.words.length<=1000/\t.kids.length<=1000/\∀k,k∈t.kids->XB f k)
theorem Adt(f:Nat):XB f T0:=by cases f with
 |zero=>rfl
 |succ f=>exact .inl rfl
theorem HB:Ay T0:=wfT_iff.2 ⟨by simp[B6],iS,iS,iS,iS⟩
theorem VQ:Ag T0=T0:=by simp[Ag,T0,DV,Dl]
theorem A4{f:Nat}{t:T}(h:XB f t):Ay t/\Ag t=t/\t.words.length<=1000/\t.kids.length<=1000:=by
 have z:Ay T0/\Ag T0=T0/\T0.words.length<=1000/\T0.kids.length<=1000:=⟨HB,VQ,dO,dO⟩;cases f with
 |zero=>cases h;exact z
 |succ f=>
  rcases h with rfl|h
  ·exact z
  ·exact⟨h.1,h.2.1,h.2.2.1,h.2.2.2.1⟩
theorem Bu{f:Nat}{t:T}(h:XB f t):∀k,k∈t.kids->XB (f-1) k:=by
 cases f with
 |zero=>cases h;intro k hk;simp[T0]at hk
 |succ f=>
  rcases h with rfl|h
  ·intro k hk;simp[T0]at hk
  ·exact h.2.2.2.2
theorem I4{f:Nat}{t:T}(h:XB f t)(i:Nat):XB (f-1) (t.kids.getD i T0):=by
 by_cases hi:i<t.kids.length
 ·have e:t.kids.getD i T0=t.kids[i]:=by simp[hi]
  rw[e];exact Bu h _ (Bv hi)
 ·have e:t.kids.getD i T0=T0:=by simp[List.getElem?_eq_none (Nat.le_of_not_lt hi)]
  rw[e];exact Adt _
theorem Wc{most:Int}(hm:B6 most):∀(f g:Nat)(a b:T),XB f a->XB g b->G.Spec Tryz.prog 44 [tX a,tX b,iv most] (eX (Hu most f a b))
 |0,g,a,b,ha,hb=>by
  obtain⟨a1,a2,a3,a4⟩:=A4 ha;obtain⟨b1,b2,b3,b4⟩:=A4 hb;have hk:a.kind=0:=by cases ha;rfl
  have:=iC a1 b1 (X:=E0) (Y:=E0) (most:=most) (fun h=>oF) (fun _ h=>oF);rw[if_neg (show ¬(a.kind=1/\b.kind=1) by omega),if_neg (show ¬(a.kind=b.kind/\2<=a.kind/\a.kind<=9) by omega)]at this;exact this
 |f+1,g,a,b,ha,hb=>by
  obtain⟨a1,a2,a3,a4⟩:=A4 ha;obtain⟨b1,b2,b3,b4⟩:=A4 hb;refine iC a1 b1 (fun h1 h2=>?_) (fun h1 h2 h3=>?_)
  ·exact Yd a1 b1 oF oF oF oF fun i=>Wc hm f (g-1) _ _ (I4 ha i) (I4 hb i)
  ·exact dw a1 b1 (fun t ht=>(A4 (Bu ha t ht)).2.1) (fun t ht=>(A4 (Bu hb t ht)).2.1) oF oF hm fun x hx y hy=>Wc hm f (g-1) _ _ (Bu ha x hx) (Bu hb y hy)
theorem cD{a b:T}(ha:Ay a)(hb:Ay b){X Y:E}{most:Int}(hs:a.kind=1->b.kind=1->G.Spec Tryz.prog 105 [tX a,tX b,iv most] (eX X))(hl:a.kind=b.kind->2<=a.kind->a.kind<=9->G.Spec Tryz.prog 106 [tX a,tX b,iv most] (eX Y)) :
  G.Spec Tryz.prog 67 [tX a,tX b,iv most] (eX (if JE a b=true then E0 else if a.kind=1/\b.kind=1 then X else if a.kind=b.kind/\2<=a.kind/\a.kind<=9 then Y else .mk 1 a b [] [] 0 [])):=by
 have hE:=It ha hb (BV _ ha);have hraw:∀H:Hp,Iz H (.agg AY) (eX E0):=fun H=>Bb ⟨Ad rfl,Ad rfl,Ai,Ai,Ad rfl,Ai,Ai,Ai,Ai,Ad rfl,Ai,trivial⟩;have hfr:∀(H:Hp)(k:Int),k=a.kind->Iz H (.agg [iv 1,iv k,C7 a.words,AV a.kids,iv b.kind,C7 b.words,AV b.kids,.sl true [],.sl true [],iv 0,.sl true []]) (eX (.mk 1 a b [] [] 0 [])):=fun H k hk=>by
  subst hk;exact Bb ⟨Ad rfl,Ad rfl,Ad rfl,Ad rfl,Ad rfl,Ad rfl,Ad rfl,Ai,Ai,Ad rfl,Ai,trivial⟩
 refine Aj Sl iS fun w0 I0=>?_;rw[Ao Lu.eq_1];simp;refine Ae hE iS ?_;cases he:JE a b with
 |true=>
  simp;exact hraw _
 |false=>
  by_cases h1:a.kind=1
  ·by_cases h2:b.kind=1
   ·have S:=hs h1 h2;have S':G.Spec Tryz.prog 105 [.agg [iv 1,C7 a.words,AV a.kids],.agg [iv 1,C7 b.words,AV b.kids],iv most] (eX X):=by
     rw[<-h1];have e:([A.agg [iv a.kind,C7 a.words,AV a.kids],.agg [iv a.kind,C7 b.words,AV b.kids],iv most]:List A)=[tX a,tX b,iv most]:=by
      show [A.agg [iv a.kind,C7 a.words,AV a.kids],.agg [iv a.kind,C7 b.words,AV b.kids],iv most]=[A.agg [iv a.kind,C7 a.words,AV a.kids],.agg [iv b.kind,C7 b.words,AV b.kids],iv most];rw[h1,h2]
     rw[e];exact S
    simp[h1,h2];refine Ae S' iS ?_;simp;exact Ad iS
   ·have hne:¬(1:Int)=b.kind:=fun e=>h2 e.symm;simp[h1,h2,hne];exact hfr _ 1 h1.symm
  ·by_cases h3:a.kind=b.kind
   ·have h2:¬b.kind=1:=fun e=>h1 (h3.trans e);by_cases h5:2<=b.kind/\b.kind<=9
    ·have S:=hl h3 oF oF;have S':G.Spec Tryz.prog 106 [.agg [iv b.kind,C7 a.words,AV a.kids],.agg [iv b.kind,C7 b.words,AV b.kids],iv most] (eX Y):=by
      rw[<-h3];have e:([A.agg [iv a.kind,C7 a.words,AV a.kids],.agg [iv a.kind,C7 b.words,AV b.kids],iv most]:List A)=[tX a,tX b,iv most]:=by
       show [A.agg [iv a.kind,C7 a.words,AV a.kids],.agg [iv a.kind,C7 b.words,AV b.kids],iv most]=[A.agg [iv a.kind,C7 a.words,AV a.kids],.agg [iv b.kind,C7 b.words,AV b.kids],iv most];rw[h3]
      rw[e];exact S
     simp[h1,h3,h2,h5.1,h5.2];refine Ae S' iS ?_;simp;exact Ad iS
    ·by_cases h6:2<=b.kind
     ·have h7:¬b.kind<=9:=fun h=>h5 ⟨h6,h⟩;simp[h1,h3,h2,h6,h7];exact hfr _ _ h3.symm
     ·simp[h1,h3,h2,h6];exact hfr _ _ h3.symm
   ·simp[h1,h3];exact hfr _ _ rfl
end Go.Proofs.YtlaapfplenlfaaaGreat
namespace Go.PL
theorem mz(d:Nat):AW d T0=true:=by rw[Ds];simp
theorem yE{d:Nat}{k:Int}{w:List Int}{l:List T}(h0:k≠0)(h10:k≠10)(hb:Fg k d w.length l.length=false)(h:∀t,t∈l->AW (d-1) t=true/\Fe k t=true):AW d (.mk k w l)=true:=by
 rw[Ds,if_neg h0,if_neg h10,if_neg (by rw[hb];simp)];exact rightL_all.2 h
mutual
def Bn:T->Int
 |.mk _ w l=>1+w.length+CB l
def CB:List T->Int
 |[]=>0
 |t::l=>Bn t+CB l
end
@[simp]theorem HA(k:Int)(w:List Int)(l:List T):Bn (.mk k w l)=1+w.length+CB l:=by rw[Bn]
@[simp]theorem AdU:CB []=0:=by rw[CB]
@[simp]theorem Dg(t:T)(l:List T):CB (t::l)=Bn t+CB l:=by rw[CB]
theorem SH{l:List T}(h:∀t,t∈l->1<=Bn t):(l.length:Int)<=CB l:=by
 induction l with
 |nil=>simp
 |cons t l ih=>
  have:=h t iS;have:=ih fun u hu=>h u (by simp[hu]);simp;omega
theorem Jx:∀t:T,1<=Bn t:=by
 refine T.ind fun k w l ih=>?_;have:=SH ih;simp;omega
theorem LK(l:List T):(l.length:Int)<=CB l:=SH fun t _=>Jx t
theorem ax:∀(t:T)(d:Nat)(n:Int),0<=EO d n t->Bn t<=n-EO d n t:=by
 refine T.ind fun k w l ih d n h=>?_;have hl:∀(m:List T)(d:Nat)(n:Int),(∀t,t∈m->t∈l)->0<=Es d n m->CB m<=n-Es d n m:=by
  intro m;induction m with
  |nil=>intro d n _ _;simp
  |cons t m ihm=>
   intro d n hin h;rw[JQ]at h ⊢;split at h
   ·omega
   ·rename_i hc;rw[if_neg hc];have h1:=ihm d (EO d n t) (fun u hu=>hin u (by simp[hu])) h;have h3:0<=EO d n t:=by
     cases m with
     |nil=>simpa using h
     |cons u m=>
      rw[JQ]at h;split at h<;>omega
    have:=ih t (hin t iS) d n h3;simp;omega
 rw[Sy]at h ⊢;split at h
 ·omega
 rename_i hc;rw[if_neg hc];have:=hl l (d-1) _ (fun t ht=>ht) h;simp;omega
end Go.PL
namespace Go.Proofs.YtlaapfplenlfaaaGreat
open Go Go.G Go.Proofs Go.PL
theorem I7(a b:List OP):Ez (a++b)=Ez a+Ez b:=by simp[Ez]
theorem VL(l:List T):Ez (Dd l)=l.length:=by
 unfold Dd;split
 ·rename_i h;subst h;rfl
 ·simp[Ez]
theorem Vn(l:List T):Ez (Cb l)=l.length:=by
 unfold Cb;split
 ·rename_i h;subst h;rfl
 ·simp[Ez]
theorem jQ(one:T->T->E)(a b:List T):∀(P:List Sc)(i j:Nat)(out:List OP),fN a.length b.length i j P->Ez (HU one a b P i j out)<=Ez out+(a.length-i)+(b.length-j)
 |[],i,j,out,h=>by
  rw[HU,I7,I7,VL,Vn];simp
 |x::P,i,j,out,h=>by
  obtain⟨k1,k2,k3,k4,k5⟩:=h;have:=jQ one a b P _ _ (out++Dd ((a.take x.i).drop i)++Cb ((b.take x.j).drop j)++[.mk 3 0 [] (one (a.getD x.i T0) (b.getD x.j T0))]) k5;rw[HU];rw[I7,I7,I7,VL,Vn,show Ez [OP.mk 3 0 [] (one (a.getD x.i T0) (b.getD x.j T0))]=0 from rfl,List.length_drop,List.length_take,List.length_drop,List.length_take]at this;omega
theorem kW(one:T->T->E)(a b:List T):Ez (Fh one a b)<=a.length+b.length:=by
 have:=jQ one a b (Z8 (KC a b)) 0 0 [] (Sb a b);rw[show Ez []=0 from rfl]at this;unfold Fh;omega
inductive eF(one:T->T->E)(A B:List T)(N:Nat):OP->Prop
 |keep (n:Nat) (h:n<=N):eF one A B N (.mk 0 n [] E0)
 |del (l:List T) (h:l≠[]) (g:∀t,t∈l->t∈A) (k:l.length<=A.length):eF one A B N (.mk 1 0 l E0)
 |ins (l:List T) (h:l≠[]) (g:∀t,t∈l->t∈B) (k:l.length<=B.length):eF one A B N (.mk 2 0 l E0)
 |desc (x y:T) (hx:x∈A) (hy:y∈B):eF one A B N (.mk 3 0 [] (one x y))
theorem wZ{one:T->T->E}{A B A' B':List T}{N:Nat}(hA:∀t,t∈A->t∈A')(hB:∀t,t∈B->t∈B')(lA:A.length<=A'.length)(lB:B.length<=B'.length){o:OP}(h:eF one A B N o):eF one A' B' N o:=by
 cases h with
 |keep n h=>exact .keep n h
 |del l h g k=>exact .del l h (fun t ht=>hA t (g t ht)) oF
 |ins l h g k=>exact .ins l h (fun t ht=>hB t (g t ht)) oF
 |desc x y hx hy=>exact .desc x y (hA x hx) (hB y hy)
theorem eV{one:T->T->E}{A B l:List T}{N:Nat}(h:∀t,t∈l->t∈A)(hl:l.length<=A.length):∀o,o∈Dd l->eF one A B N o:=by
 intro o ho;unfold Dd at ho;split at ho
 ·simp at ho
 ·rename_i hne;simp at ho;subst ho;exact .del l hne h hl
theorem eT{one:T->T->E}{A B l:List T}{N:Nat}(h:∀t,t∈l->t∈B)(hl:l.length<=B.length):∀o,o∈Cb l->eF one A B N o:=by
 intro o ho;unfold Cb at ho;split at ho
 ·simp at ho
 ·rename_i hne;simp at ho;subst ho;exact .ins l hne h hl
theorem ky(one:T->T->E)(a b:List T)(N:Nat):∀(P:List Sc)(i j:Nat)(out:List OP),fN a.length b.length i j P->(∀o,o∈out->eF one a b N o)->∀o,o∈HU one a b P i j out->eF one a b N o
 |[],i,j,out,h,g=>by
  intro o ho;rw[HU]at ho;rcases List.mem_append.1 ho with ho|ho
  ·rcases List.mem_append.1 ho with ho|ho
   ·exact g o ho
   ·exact eV (fun t ht=>Qy ht) iS o ho
  ·exact eT (fun t ht=>Qy ht) iS o ho
 |x::P,i,j,out,h,g=>by
  obtain⟨k1,k2,k3,k4,k5⟩:=h;rw[HU];refine ky one a b N P _ _ _ k5 fun o ho=>?_;rcases List.mem_append.1 ho with ho|ho
  ·rcases List.mem_append.1 ho with ho|ho
   ·rcases List.mem_append.1 ho with ho|ho
    ·exact g o ho
    ·exact eV (fun t ht=>O4 (Qy ht)) (by simp;omega) o ho
   ·exact eT (fun t ht=>O4 (Qy ht)) (by simp;omega) o ho
  ·rw[List.mem_singleton]at ho;subst ho;have e1:a.getD x.i T0=a[x.i]:=by simp[k3]
   have e2:b.getD x.j T0=b[x.j]:=by simp[k4]
   rw[e1,e2];exact .desc _ _ (Bv k3) (Bv k4)
theorem iA(one:T->T->E)(a b:List T)(N:Nat):∀o,o∈Fh one a b->eF one a b N o:=ky one a b N _ 0 0 [] (Sb a b) iS
theorem Lv{gap:List T->List T->List OP}{I:List T->List T->List OP->Prop}{S0:List Sp}(h0:∀s,s∈S0->∀a b out,I a b out->I (a.drop s.n) (b.drop s.n) (out++[.mk 0 s.n [] E0]))(h1:∀n a b out,I a b out->I (a.drop n) b (out++Dd (a.take n)))(h2:∀n a b out,I a b out->I a (b.drop n) (out++Cb (b.take n)))(h3:∀n m a b out,I a b out->I (a.drop n) (b.drop m) (out++gap (a.take n) (b.take m))):∀(S:List Sp)(a b:List T)(out:List OP),(∀s,s∈S->s∈S0)->I a b out->∃a' b',I a' b' (CA gap S a b out)
 |[],a,b,out,hS,h=>⟨a,b,by rw[CA];exact h⟩
 |[s],a,b,out,hS,h=>by
  have hs:=hS s iS;rw[CA];split
  ·exact⟨_,_,h0 s hs a b out h⟩
  ·split
   ·exact⟨_,_,h2 s.n a b out h⟩
   ·exact⟨_,_,h1 s.n a b out h⟩
 |s::s2::ss,a,b,out,hS,h=>by
  have hs:=hS s iS;have hS1:∀x,x∈s2::ss->x∈S0:=fun x hx=>hS x (List.mem_cons_of_mem _ hx);have hS2:∀x,x∈ss->x∈S0:=fun x hx=>hS1 x (List.mem_cons_of_mem _ hx);rw[CA];split
  ·exact Lv h0 h1 h2 h3 (s2::ss) _ _ _ hS1 (h0 s hs a b out h)
  ·split
   ·exact Lv h0 h1 h2 h3 (s2::ss) _ _ _ hS1 (h2 s.n a b out h)
   ·split
    ·exact Lv h0 h1 h2 h3 ss _ _ _ hS2 (h3 s.n s2.n a b out h)
    ·exact Lv h0 h1 h2 h3 (s2::ss) _ _ _ hS1 (h1 s.n a b out h)
theorem vf{gap:List T->List T->List OP}(hg:∀x y,Ez (gap x y)<=x.length+y.length)(S:List Sp)(a b:List T):Ez (CA gap S a b [])<=a.length+b.length:=by
 obtain⟨a',b',h⟩:=Lv (gap:=gap) (S0:=S) (I:=fun a' b' out=>Ez out+a'.length+b'.length<=a.length+b.length) (fun s hs a b out h=>by
  rw[I7,show Ez [OP.mk 0 (s.n:Nat) [] E0]=0 from rfl,List.length_drop,List.length_drop];omega) (fun n a b out h=>by
  rw[I7,VL,List.length_drop,List.length_take];omega) (fun n a b out h=>by
  rw[I7,Vn,List.length_drop,List.length_take];omega) (fun n m a b out h=>by
  have:=hg (a.take n) (b.take m);rw[List.length_take,List.length_take]at this;rw[I7,List.length_drop,List.length_drop];omega) S a b [] (fun s hs=>hs) (by rw[show Ez []=0 from rfl];omega)
 omega
theorem yS{one:T->T->E}{gap:List T->List T->List OP}{N:Nat}(hg:∀x y,∀o,o∈gap x y->eF one x y N o)(S:List Sp)(hS:∀s,s∈S->s.n<=N)(a b:List T):∀o,o∈CA gap S a b []->eF one a b N o:=by
 have app:∀{out l:List OP},(∀o,o∈out->eF one a b N o)->(∀o,o∈l->eF one a b N o)->∀o,o∈out++l->eF one a b N o:=fun h1 h2 o ho=>by
  rcases List.mem_append.1 ho with ho|ho
  ·exact h1 o ho
  ·exact h2 o ho
 have dr:∀{x y:List T} (n:Nat),((∀t,t∈x->t∈y)/\x.length<=y.length)->(∀t,t∈x.drop n->t∈y)/\(x.drop n).length<=y.length:=fun n h=>⟨fun t ht=>h.1 t (Qy ht),by rw[List.length_drop];omega⟩;have tk:∀{x y:List T} (n:Nat),((∀t,t∈x->t∈y)/\x.length<=y.length)->(∀t,t∈x.take n->t∈y)/\(x.take n).length<=y.length:=fun n h=>⟨fun t ht=>h.1 t (O4 ht),by rw[List.length_take];omega⟩;obtain⟨a',b',_,_,h⟩:=Lv (gap:=gap) (S0:=S) (I:=fun a' b' out=>((∀t,t∈a'->t∈a)/\a'.length<=a.length)/\((∀t,t∈b'->t∈b)/\b'.length<=b.length)/\∀o,o∈out->eF one a b N o) (fun s hs x y out h=>⟨dr _ h.1,dr _ h.2.1,app h.2.2 fun o ho=>by
   simp at ho;subst ho;exact .keep s.n (hS s hs)⟩) (fun n x y out h=>⟨dr _ h.1,h.2.1,app h.2.2 (eV (tk n h.1).1 (tk n h.1).2)⟩) (fun n x y out h=>⟨h.1,dr _ h.2.1,app h.2.2 (eT (tk n h.2.1).1 (tk n h.2.1).2)⟩) (fun n m x y out h=>⟨dr _ h.1,dr _ h.2.1,app h.2.2 fun o ho=>wZ (tk n h.1).1 (tk m h.2.1).1 (tk n h.1).2 (tk m h.2.1).2 (hg _ _ o ho)⟩) S a b [] (fun s hs=>hs) ⟨⟨fun t ht=>ht,Cq _⟩,⟨fun t ht=>ht,Cq _⟩,iS⟩
 exact h
theorem Ph{gap:List T->List T->List OP}(hg:∀x y,(gap x y).length<=50):∀(S:List Sp)(a b:List T)(out:List OP),(CA gap S a b out).length<=out.length+50*S.length
 |[],a,b,out=>by rw[CA];omega
 |[s],a,b,out=>by
  have d1:(Dd (a.take s.n)).length<=1:=by unfold Dd;split<;>simp
  have d2:(Cb (b.take s.n)).length<=1:=by unfold Cb;split<;>simp
  rw[CA];split
  ·simp
  ·split<;>(rw[List.length_append];simp only[List.length_cons,List.length_nil];omega)
 |s::s2::ss,a,b,out=>by
  have d1:(Dd (a.take s.n)).length<=1:=by unfold Dd;split<;>simp
  have d2:(Cb (b.take s.n)).length<=1:=by unfold Cb;split<;>simp
  rw[CA];split
  ·have:=Ph hg (s2::ss) (a.drop s.n) (b.drop s.n) (out++[.mk 0 s.n [] E0]);simp only[List.length_append,List.length_cons,List.length_nil]at this ⊢;omega
  ·split
   ·have:=Ph hg (s2::ss) a (b.drop s.n) (out++Cb (b.take s.n));simp only[List.length_append,List.length_cons,List.length_nil]at this ⊢;omega
   ·split
    ·have:=Ph hg ss (a.drop s.n) (b.drop s2.n) (out++gap (a.take s.n) (b.take s2.n));have:=hg (a.take s.n) (b.take s2.n);simp only[List.length_append,List.length_cons,List.length_nil]at this ⊢;simp only[List.length_append]at *;omega
    ·have:=Ph hg (s2::ss) (a.drop s.n) b (out++Dd (a.take s.n));simp only[List.length_append,List.length_cons,List.length_nil]at this ⊢;omega
noncomputable def TR(one:T->T->E)(most:Int)(a b:T):List OP:=if (Ct (Rt a) (Q7 a b):Int)<=most then CA (Fh one) (J7 (GU (Rt a) (Q7 a b))) a.kids b.kids []else Fh one a.kids b.kids
theorem Ue(one:T->T->E)(most:Int)(a b:T):OU one most a b=.mk 3 T0 T0 [] [] a.kind (TR one most a b):=rfl
theorem pn(a:T):(Rt a).length=a.kids.length:=by simp[Rt,tG,CU]
theorem pK(a b:T):(Q7 a b).length=b.kids.length:=by simp[Q7,tG,CU]
theorem WB:∀{l:List Sp} {s:Sp},s∈l->s.k≠2->s.n<=dA (A5 l)
 |x::l,s,h,hk=>by
  rw[AN,Gm,Hi];rcases List.mem_cons.1 h with rfl|h
  ·rw[if_neg hk];omega
  ·have:=WB h hk;omega
theorem Ug:∀{l:List Sp} {s:Sp},s∈l->s.k≠1->s.n<=dB (A5 l)
 |x::l,s,h,hk=>by
  rw[AN,Gp,He];rcases List.mem_cons.1 h with rfl|h
  ·rw[if_neg hk];omega
  ·have:=Ug h hk;omega
theorem Ai8(a b:T){s:Sp}(h:s∈J7 (GU (Rt a) (Q7 a b))):s.n<=a.kids.length+b.kids.length:=by
 have wd:=dm (Rt a) (Q7 a b);have wi:=TA (Rt a) (Q7 a b);have wn:=Z3 _ wi;rw[pn,pK]at wd;by_cases hk:s.k=2
 ·have:=Ug h oF;omega
 ·have:=WB h hk;omega
theorem Ux(one:T->T->E)(most:Int)(a b:T):∀o,o∈TR one most a b->eF one a.kids b.kids (a.kids.length+b.kids.length) o:=by
 unfold TR;split
 ·exact yS (fun x y=>iA one x y _) _ (fun s hs=>Ai8 a b hs) _ _
 ·exact iA one _ _ _
theorem xT(one:T->T->E)(most:Int)(a b:T):Ez (TR one most a b)<=a.kids.length+b.kids.length:=by
 unfold TR;split
 ·exact vf (fun x y=>kW one x y) _ _ _
 ·exact kW one _ _
theorem jx(one:T->T->E)(most:Int)(a b:T):(TR one most a b).length<=50*(a.kids.length+b.kids.length)+50:=by
 unfold TR;split
 ·have wd:=dm (Rt a) (Q7 a b);have wi:=TA (Rt a) (Q7 a b);have wn:=Z3 _ wi;have:=NB _ (WU wi);have h:=Ph (Ud one) (J7 (GU (Rt a) (Q7 a b))) a.kids b.kids [];rw[pn,pK]at wd;simp only[List.length_nil]at h;omega
 ·have:=Ud one a.kids b.kids;omega
theorem pv:∀{l:List KE},(∀x,x∈l->Vm x.e)->mS l
 |[],_=>by rw[mS];trivial
 |.mk a e::l,h=>by
  rw[mS];exact⟨h _ (List.mem_cons_self ..),pv fun x hx=>h x (List.mem_cons_of_mem _ hx)⟩
theorem pr:∀{l:List OP},(∀x,x∈l->(x.kind=0\/x.kind=1\/x.kind=2\/x.kind=3)/\(∀t,t∈x.l->Ay t)/\(x.kind=3->Vm x.e))->nQ l
 |[],_=>by rw[nQ];trivial
 |.mk k n t e::l,h=>by
  rw[nQ];exact⟨h _ (List.mem_cons_self ..),pr fun x hx=>h x (List.mem_cons_of_mem _ hx)⟩
theorem wO:Vm E0:=by
 unfold E0;rw[Vm];exact⟨.inl rfl,fun _=>rfl,fun h=>absurd h dO,iS,iS,iS,by simp[Ez],fun h=>absurd h dO,fun h=>absurd h dO⟩
theorem pO{a b:T}(ha:Ay a)(hb:Ay b):Vm (.mk 1 a b [] [] 0 []):=by
 rw[Vm];exact⟨.inr (.inl rfl),fun _=>rfl,fun _=>⟨ha,hb⟩,iS,iS,iS,by simp[Ez],fun h=>absurd h dO,fun h=>absurd h dO⟩
theorem Yh{one:T->T->E}{a b:T}{m:Nat}{x:KE}(h:x∈DD one a b m):∃i:Nat,i<m/\x=.mk i (one (a.kids.getD i T0) (b.kids.getD i T0))/\(one (a.kids.getD i T0) (b.kids.getD i T0)).kind≠0:=by
 unfold DD at h;rw[List.mem_filterMap]at h;obtain⟨i,hi,e⟩:=h;split at e
 ·cases e
 ·rename_i hk;simp only[Option.some.injEq]at e;exact⟨i,by simpa using hi,e.symm,hk⟩
theorem AbH{one:T->T->E}{a b:T}(ha:a.words.length<=1000)(hb:b.words.length<=1000)(ha2:a.kids.length<=1000)(hb2:b.kids.length<=1000)(h:∀i,Vm (one (a.kids.getD i T0) (b.kids.getD i T0))):Vm (fr one a b):=by
 have h1:=Qf a b (max a.words.length b.words.length);have h2:=K3 one a b (max a.kids.length b.kids.length);unfold fr;rw[Vm];refine⟨.inr (.inr (.inl rfl)),fun _=>rfl,fun h=>absurd h dO,oF,oF,iS,by simp[Ez],fun _=>pv fun x hx=>?_,fun h=>absurd h dO⟩;obtain⟨i,_,e,_⟩:=Yh hx;subst e;exact h i
theorem yY{one:T->T->E}{most:Int}{a b:T}(ha:a.kids.length<=1000)(hb:b.kids.length<=1000)(wa:∀t,t∈a.kids->Ay t)(wb:∀t,t∈b.kids->Ay t)(h:∀x,x∈a.kids->∀y,y∈b.kids->Vm (one x y)):Vm (OU one most a b):=by
 have h1:=jx one most a b;have h2:=xT one most a b;rw[Ue,Vm];refine⟨.inr (.inr (.inr rfl)),fun h=>absurd rfl h,fun h=>absurd h dO,iS,iS,oF,oF,fun h=>absurd h dO,fun _=>pr fun x hx=>?_⟩;cases Ux one most a b x hx with
 |keep n h=>exact⟨.inl rfl,fun t (ht:t∈([]:List T))=>by simp at ht,fun h=>absurd h (by show ¬(0:Int)=3;decide)⟩
 |del l h g k=>exact⟨.inr (.inl rfl),fun t ht=>wa t (g t ht),fun h=>absurd h (by show ¬(1:Int)=3;decide)⟩
 |ins l h g k=>exact⟨.inr (.inr (.inl rfl)),fun t ht=>wb t (g t ht),fun h=>absurd h (by show ¬(2:Int)=3;decide)⟩
 |desc p q hp hq=>exact⟨.inr (.inr (.inr rfl)),fun t (ht:t∈([]:List T))=>by simp at ht,fun _=>h p hp q hq⟩
theorem Qx(most:Int):∀(f g:Nat)(a b:T),XB f a->XB g b->Vm (Hu most f a b)
 |0,g,a,b,ha,hb=>by
  rw[Hu];split
  ·exact wO
  ·exact pO (A4 ha).1 (A4 hb).1
 |f+1,g,a,b,ha,hb=>by
  obtain⟨a1,a2,a3,a4⟩:=A4 ha;obtain⟨b1,b2,b3,b4⟩:=A4 hb;rw[Hu];split
  ·exact wO
  ·split
   ·exact AbH a3 b3 a4 b4 fun i=>Qx most f (g-1) _ _ (I4 ha i) (I4 hb i)
   ·split
    ·exact yY a4 b4 (fun t ht=>(A4 (Bu ha t ht)).1) (fun t ht=>(A4 (Bu hb t ht)).1) fun x hx y hy=>Qx most f (g-1) x y (Bu ha x hx) (Bu hb y hy)
    ·exact pO a1 b1
theorem Yp{l:List T}{t:T}(h:t∈l):Bn t<=CB l:=by
 induction l with
 |nil=>simp at h
 |cons x l ih=>
  rw[Dg];have hp:=Jx x;have hl:=LK l;rcases List.mem_cons.1 h with rfl|h
  ·omega
  ·have:=ih h;omega
theorem EJ:∀(t:T),Ay t->Bn t<=1000->∀f:Nat,Bn t<=f->XB f (Ag t):=by
 refine T.ind fun k w l ih hw hp f hf=>?_;rw[HA]at hp hf;have hl:=LK l;have hks:=(wfT_iff.1 hw).ks;cases f with
 |zero=>omega
 |succ f=>
  have hk:∀t,t∈l->XB f (Ag t):=fun t ht=>by
   have:=Yp ht;exact ih t ht (hks t ht) oF f oF
  rw[XB];refine .inr ⟨BV _ hw,Dt _,?_,?_,?_⟩
  ·rw[DS];split
   ·simp
   ·split
    ·have:=NC w;show(DV w).length<=1000;omega
    ·show w.length<=1000;omega
  ·rw[DS];split
   ·simp
   ·split
    ·have:=Ny (l.map Ag);rw[List.length_map]at this;show(Dl (l.map Ag)).length<=1000;omega
    ·show(l.map Ag).length<=1000;rw[List.length_map];omega
  ·intro x hx;have hx':x∈l.map Ag:=by
    rw[DS]at hx;split at hx
    ·simp at hx
    ·split at hx
     ·have hx2:x∈Dl (l.map Ag):=hx;rw[K6]at hx2;exact O4 hx2
     ·exact hx
   obtain⟨t,ht,rfl⟩:=List.mem_map.1 hx';exact hk t ht
structure Ab7(o:OP):Prop where
 k:o.kind=0\/o.kind=1\/o.kind=2\/o.kind=3
 l:∀t,t∈o.l->Ay t
 e:o.kind=3->G.Spec Tryz.prog 66 [eX o.e] (eX (Iy o.e))
variable {n0:Nat} {w0:World} {I0:Nat->Prop} {Q:Exit->Sta->Prop}
theorem nZ{i0:List RI}{x:RI}{n:Int}(h:x.op.kind≠0):(i0++[x,RI.keep n]).map RI.op=Q6 ((i0++[x]).map RI.op) n:=by
 have:=gW (i0.map RI.op) x.op n h;simp only[List.map_append,List.map_cons,List.map_nil];rw[this];simp[RI.op]
theorem eK{list:Int}{os:List OP}{J:List RI}{u w p:Nat}{H:Hp}{x:RI}(hx:(∃n,x=RI.keep n)\/∃e,x=RI.desc e)(hJ:J.length<=1000000)(h0:H [0]=⟨u,.arr 14 (J.map ND)⟩)(h2:H [2]=⟨w,.cells (Tj x)⟩)
  (hgo:∀(J2:List RI)(u2:Nat)(H2:Hp),H2 [0]=⟨u2,.arr 14 (J2.map ND)⟩->J2.length<=J.length+1->J2.map RI.op=(if x.op.kind=0 then Q6 (J.map RI.op) x.op.n else J.map RI.op++[x.op])->Q .normal ⟨lk [(0,iv list),(1,HQ os),(5,.osl [0] u2 14 0 J2.length),(6,iv p)],H2⟩) :
  WPC (cx Tryz.prog w0 I0 n0) IJ Q ⟨lk [(0,iv list),(1,HQ os),(5,.osl [0] u 14 0 J.length),(6,iv p),(11,.pob [2] w 0)],H⟩:=by
 rw[(Ao IJ.eq_1)];rcases hx with ⟨n,rfl⟩|⟨e,rfl⟩
 ·rcases Abt J with ⟨i0,m,rfl⟩|rfl|⟨i0,x,rfl,hx⟩
  ·simp at hJ;have e1:i64.wrap (i0.length:Int)=i0.length:=CX;simp[Tj,h0,h2,e1,qm,ND];refine⟨oF,rfl,?_⟩;have:=hgo (i0++[RI.keep (i64.wrap (m+n))]) u (Ar H [0] ⟨u,.arr 14 ((i0++[RI.keep (i64.wrap (m+n))]).map ND)⟩) (by simp[Aa]) iS (by simp[RI.op,ji]);simpa[ND,Tj,A.remake]using this
  ·simp[Tj,h0,h2,AY];have:=hgo [RI.keep n] (u+1) (Ar H [0] ⟨u+1,.arr 14 ([RI.keep n].map ND)⟩) (by simp[Aa]) iS (by simp[RI.op,ql]);simpa[ND,Tj,AY]using this
  ·simp at hJ;have e1:i64.wrap (i0.length:Int)=i0.length:=CX;cases x with
   |keep m=>exact absurd rfl hx
   |del l=>
    simp[Tj,h0,h2,e1,qm,ND,AY];refine⟨oF,oF,?_⟩;have:=hgo (i0++[RI.del l,RI.keep n]) (u+1) (Ar H [0] ⟨u+1,.arr 14 ((i0++[RI.del l,RI.keep n]).map ND)⟩) (by simp[Aa]) iS (by
     rw[if_pos (show(RI.keep n).op.kind=0 from rfl)];exact nZ hx)
    simpa[ND,Tj,AY,Tz]using this
   |ins l=>
    simp[Tj,h0,h2,e1,qm,ND,AY];refine⟨oF,oF,?_⟩;have:=hgo (i0++[RI.ins l,RI.keep n]) (u+1) (Ar H [0] ⟨u+1,.arr 14 ((i0++[RI.ins l,RI.keep n]).map ND)⟩) (by simp[Aa]) iS (by
     rw[if_pos (show(RI.keep n).op.kind=0 from rfl)];exact nZ hx)
    simpa[ND,Tj,AY,Tz]using this
   |desc e=>
    simp[Tj,h0,h2,e1,qm,ND,AY];refine⟨oF,oF,?_⟩;have:=hgo (i0++[RI.desc e,RI.keep n]) (u+1) (Ar H [0] ⟨u+1,.arr 14 ((i0++[RI.desc e,RI.keep n]).map ND)⟩) (by simp[Aa]) iS (by
     rw[if_pos (show(RI.keep n).op.kind=0 from rfl)];exact nZ hx)
    simpa[ND,Tj,AY,Tz]using this
 ·simp[Tj,h0,h2];refine⟨oF,?_⟩;have:=hgo (J++[RI.desc e]) (u+1) (Ar H [0] ⟨u+1,.arr 14 ((J++[RI.desc e]).map ND)⟩) (by simp[Aa]) iS (by simp[RI.op]);simpa[ND,Tj,Xx]using this
def xw(list:Int)(o:OP)(l:List OP):List OP:=if o.kind=3 then (if Gc list (Iy o.e)=true then Q6 l 1 else l++[.mk 3 0 [] (Iy o.e)])else Q6 l o.n
theorem Aaa{list:Int}{os:List OP}(hol:os.length<=300000){J:List RI}{u p:Nat}{H:Hp}(hJ:J.length<=1000000)(hp:p<=os.length)(h0:H [0]=⟨u,.arr 14 (J.map ND)⟩)(hO:∀h:p<os.length,(os[p].kind=0\/os[p].kind=3)/\(os[p].kind=3->G.Spec Tryz.prog 66 [eX os[p].e] (eX (Iy os[p].e))))
  (hret:p=os.length->∀H2:Hp,H2 [0]=H [0]->Q .ret ⟨lk [(4,.osl [0] u 14 0 J.length)],H2⟩)
  (hgo:∀(h:p<os.length)(J2:List RI)(u2:Nat)(H2:Hp),H2 [0]=⟨u2,.arr 14 (J2.map ND)⟩->J2.length<=J.length+1->J2.map RI.op=xw list os[p] (J.map RI.op)->Q .normal ⟨lk [(0,iv list),(1,HQ os),(5,.osl [0] u2 14 0 J2.length),(6,iv p)],H2⟩) :
  WPC (cx Tryz.prog w0 I0 n0) GC Q ⟨lk [(0,iv list),(1,HQ os),(5,.osl [0] u 14 0 J.length),(8,iv p)],H⟩:=by
 rw[(BG GC.eq_1)];by_cases h:p<os.length
 ·obtain⟨hk,hE⟩:=hO h;have hg:=hgo h;unfold xw at hg;generalize ho:os[p]=o at *;have hle:¬os.length<=p:=oF
  rcases hk with hk|hk
  ·simp[h,hle,ho,hk];refine eK (x:=RI.keep o.n) (.inl ⟨_,rfl⟩) hJ (by simp[Aa,h0]) (by simp[Aa,Tj,AY]) fun J2 u2 H2 a1 a2 a3=>hg J2 u2 H2 a1 a2 ?_;rw[a3,if_pos (show(RI.keep o.n).op.kind=0 from rfl),if_neg oF];rfl
  ·have hI:=iE list (Iy o.e);simp[h,hle,ho,hk];refine Ae (hE hk) iS ?_;simp[Aa];refine Ae hI iS ?_;cases hid:Gc list (Iy o.e) with
   |true=>
    simp[Aa];refine eK (x:=RI.keep 1) (.inl ⟨_,rfl⟩) hJ (by simp[Aa,h0]) (by simp[Aa,Tj,AY]) fun J2 u2 H2 a1 a2 a3=>hg J2 u2 H2 a1 a2 ?_;rw[a3,if_pos (show(RI.keep 1).op.kind=0 from rfl),if_pos hk,if_pos hid];rfl
   |false=>
    simp[Aa];refine eK (x:=RI.desc (Iy o.e)) (.inr ⟨_,rfl⟩) hJ (by simp[Aa,h0]) (by simp[Aa,Tj,AY]) fun J2 u2 H2 a1 a2 a3=>hg J2 u2 H2 a1 a2 ?_;rw[a3,if_neg (show ¬(RI.desc (Iy o.e)).op.kind=0 by simp[RI.op]),if_pos hk,if_neg (by rw[hid];decide)];rfl
 ·have:p=os.length:=oF
  simp[this];exact hret this H rfl
theorem zT{list:Int}{os:List OP}(hos:∀o,o∈os->Ab7 o)(hol:os.length<=300000)(hsum:Ez os<=1000000){res:List OP}
  (hq:∀(H:Hp)(its:List RI)(u:Nat) st,H [0]=⟨u,.arr 14 (its.map ND)⟩->its.map RI.op=res->Q (.exit 0) ⟨lk ([(0,iv list),(1,HQ os),(5,.osl [0] u 14 0 its.length)]++st),H⟩)
  (hq2:∀(H:Hp)(its:List RI)(u:Nat),H [0]=⟨u,.arr 14 (its.map ND)⟩->its.map RI.op=res->Q .ret ⟨lk [(4,.osl [0] u 14 0 its.length)],H⟩):∀(m i u:Nat)(its:List RI)(H:Hp),os.length<=i+m->i<=os.length->its.length<=3*i->H [0]=⟨u,.arr 14 (its.map ND)⟩->DG list ((os.drop i).map Kh) (its.map RI.op) [] []=res ->
  LoopC (cx Tryz.prog w0 I0 n0) CH Q ⟨lk [(0,iv list),(1,HQ os),(5,.osl [0] u 14 0 its.length),(6,iv i)],H⟩:=by
 intro m;induction m with
 |zero=>
  intro i u its H hm hile hil hH hres;have:i=os.length:=oF
  subst this;rw[List.drop_length,List.map_nil,DG]at hres;refine Ab Ah (BG CH.eq_1) ?_;simp;exact hq H its u [(6,iv os.length),(16,bv false)] hH (by rw[<-hres];simp[MU,Dd,Cb])
 |succ m ih=>
  intro i u its H hm hile hil hH hres;by_cases hi:i<os.length;rotate_left
  ·have:i=os.length:=oF
   subst this;rw[List.drop_length,List.map_nil,DG]at hres;refine Ab Ah (BG CH.eq_1) ?_;simp;exact hq H its u [(6,iv os.length),(16,bv false)] hH (by rw[<-hres];simp[MU,Dd,Cb])
  have g1:=iw (os:=os) (k:=1) (.inl rfl) (fun o ho=>(hos o ho).l) oF hsum (i:=i) oF;have g2:=iw (os:=os) (k:=2) (.inr rfl) (fun o ho=>(hos o ho).l) oF hsum (i:=i) oF;have hgn:=o6 (os.drop i);simp at hgn;rw[YF,List.drop_drop,List.nil_append,List.nil_append]at hres;have hnx:∀h:i+Lz (os.drop i)<os.length,os[i+Lz (os.drop i)].kind≠1/\os[i+Lz (os.drop i)].kind≠2:=fun h=>by
   have:=bx (os.drop i) (by simp;omega);simpa using this
  refine Ab Ah (BG CH.eq_1) ?_;simp[hi];refine Ae g1 iS ?_;simp;refine Ae g2 iS ?_;generalize PT 1 (os.drop i)=g at *;generalize PT 2 (os.drop i)=b at *;generalize Lz (os.drop i)=n at *;have hgl:True:=trivial;have ew:i64.wrap ((i:Int)+n+1)=(i:Int)+n+1:=CX
  -- behind what is deleted,and inserted
  have fin:∀(u2:Nat)(H2:Hp),H2 [0]=⟨u2,.arr 14 ((its++(SS g++SI b)).map ND)⟩->WPC (cx Tryz.prog w0 I0 n0) GC (BA 1 (Ej (WPC (cx Tryz.prog w0 I0 n0) (CC.keep [0,1,5,6] (CC.reg [co (some 17) (Op.move (Operand.tmp 6)) none,co (some 18) (Op.binOp BinOp.add 3 (Operand.tmp 17) (Operand.const (Value.int i64 1)) 3) none,co (some 6) (Op.assign (Operand.tmp 18)) none] [0,1,5,6])) (Ej (LoopC (cx Tryz.prog w0 I0 n0) CH Q) Q)) (Ej (LoopC (cx Tryz.prog w0 I0 n0) CH Q) Q))) ⟨lk [(0,iv list),(1,HQ os),(5,.osl [0] u2 14 0 (its++(SS g++SI b)).length),(8,iv (i+n:Nat))],H2⟩:=fun u2 H2 h2=>by
   have hJl:(its++(SS g++SI b)).length<=its.length+2:=by
    by_cases h1:g=[]<;>by_cases h2:b=[]<;>simp[SS,SI,h1,h2]
   have hm2:=Ads its g b;generalize its++(SS g++SI b)=J at *;refine Aaa hol oF oF h2 (fun h=>?_) (fun he H3 h3=>?_) (fun h J2 u3 H3 h3 hl3 ho3=>?_)
   ·have hO:=hos _ (Bv h);obtain⟨x1,x2⟩:=hnx h;refine⟨?_,fun hk=>hO.e hk⟩;have:=hO.k;omega
   ·simp;rw[he,List.drop_length,List.map_nil,DG,<-hm2]at hres;exact hq2 H3 J u2 (by rw[h3,h2]) hres
   ·simp[ew];have hdr:os.drop (i+n)=os[i+n]::os.drop (i+n+1):=(List.getElem_cons_drop h).symm;have hnx':=hnx h;have hO:=(hos _ (Bv h)).k;rw[hdr,List.map_cons,DG,<-hm2]at hres;have:=ih (i+n+1) u3 J2 H3 oF oF oF h3 (by
     rw[ho3,<-hres];unfold xw;have hk:(Kh os[i+n]).kind=os[i+n].kind:=rfl;have he:(Kh os[i+n]).e=Iy os[i+n].e:=rfl;have hn:(Kh os[i+n]).n=os[i+n].n:=rfl;rw[hk,he,hn];by_cases h30:os[i+n].kind=0
     ·rw[if_neg oF,if_pos h30]
     ·rw[if_pos oF,if_neg h30,if_neg hnx'.1,if_neg hnx'.2];split<;>rfl)
    simpa using this
  by_cases hg:g=[]
  ·simp[hg];rw[(BG IX.eq_1)];by_cases hb:b=[]
   ·simp[hb];have:=fin u H (by simp[hg,hb,SS,SI,hH]);simpa[hg,hb,SS,SI]using this
   ·have hbl:0<b.length:=List.length_pos_iff.2 hb;simp[hb,hbl,hH];refine⟨oF,?_⟩;have:=fin (u+1) (Ar H [0] ⟨u+1,.arr 14 ((its++[RI.ins b]).map ND)⟩) (by simp[Aa,hg,hb,SS,SI]);simpa[hg,hb,SS,SI,ND,Tj,AY,Xx]using this
  ·have hgl:0<g.length:=List.length_pos_iff.2 hg;simp[hg,hgl,hH];refine⟨oF,?_⟩;rw[(BG IX.eq_1)];by_cases hb:b=[]
   ·simp[hb];have:=fin (u+1) (Ar H [0] ⟨u+1,.arr 14 ((its++[RI.del g]).map ND)⟩) (by simp[Aa,hg,hb,SS,SI]);simpa[hg,hb,SS,SI,ND,Tj,AY,Xx]using this
   ·have hbl:0<b.length:=List.length_pos_iff.2 hb;simp[hb,hbl];refine⟨oF,?_⟩;have:=fin (u+1+1) (Ar H [0] ⟨u+1+1,.arr 14 ((its++[RI.del g,RI.ins b]).map ND)⟩) (by simp[Aa,hg,hb,SS,SI]);have ht:=Tz its (ND (RI.del g));simp[ND,Tj,AY]at ht;simpa[hg,hb,SS,SI,ND,Tj,AY,Xx,ht]using this
theorem rN{list:Int}{os:List OP}(hos:∀o,o∈os->Ab7 o)(hol:os.length<=300000)(hsum:Ez os<=1000000):G.Spec Tryz.prog 104 [iv list,HQ os] (HQ (DG list (os.map Kh) [] [] [])):=by
 refine Aj VN iS fun w0 I0=>?_;rw[BG N4.eq_1];simp;refine LoopC.le (BC 5 [0] 14 iS) ?_;refine LoopC.le (Al [(0,iv list),(1,HQ os),(5,.osl [0] 1 14 0 ([]:List RI).length),(6,iv (0:Nat))] iS) ?_;refine zT hos hol hsum (res:=DG list (os.map Kh) [] [] []) (fun H its u st h he=>?_) (fun H its u h he=>?_) os.length 0 1 [] _ oF oF iS (by simp[Aa]) iS
 ·simp;rw[<-he];exact qI h rfl
 ·simp;rw[<-he];exact qI h rfl
theorem yJ{e:E}(hl:e.kids.length<=1000000)(hk:∀x,x∈e.kids->G.Spec Tryz.prog 66 [eX x.e] (eX (Iy x.e))){v1 v3:VOb}{W:A}
  (hq:∀H u st,H [1]=v1->H [3]=v3->H [2]=⟨1,.cells [iv 2,iv 0,.sl true [],.sl true [],iv 0,.sl true [],.sl true [],W,.osl [4] u 12 0 e.kids.length,iv 0,.sl true []]⟩->H [4]=⟨u,.arr 12 (e.kids.map (kA ∘ Xr))⟩->Q (.exit 1) ⟨lk ([(1,.pob [0] 1 0),(2,.pob [1] 1 0),(3,.pob [2] 1 0)]++st),H⟩):∀(m i u:Nat)(H:Hp),i+m=e.kids.length->H [0]=⟨1,.cells (eL e)⟩->H [1]=v1->H [3]=v3->H [2]=⟨1,.cells [iv 2,iv 0,.sl true [],.sl true [],iv 0,.sl true [],.sl true [],W,.osl [4] u 12 0 i,iv 0,.sl true []]⟩->H [4]=⟨u,.arr 12 ((e.kids.take i).map (kA ∘ Xr))⟩ ->
  LoopC (cx Tryz.prog w0 I0 n0) FU Q ⟨lk [(1,.pob [0] 1 0),(2,.pob [1] 1 0),(3,.pob [2] 1 0),(4,iv i)],H⟩:=by
 intro m;induction m with
 |zero=>
  intro i u H hm h0 h1 h3 h2 h4;refine Ab Ah (Ao FU.eq_1) ?_;have:i=e.kids.length:=oF
  subst this;rw[Ax (Cq _)]at h4;simp[h0];exact hq H u [(4,iv e.kids.length),(29,bv false)] h1 h3 h2 h4
 |succ m ih=>
  intro i u H hm h0 h1 h3 h2 h4;have hi:i<e.kids.length:=oF
  have ew:=Ap i;have hE:=hk _ (Bv hi);have htk:(e.kids.take (i+1)).map (kA ∘ Xr)=(e.kids.take i).map (kA ∘ Xr)++[kA (Xr e.kids[i])]:=by rw[HJ hi,List.map_append];rfl
  have next:=ih (i+1) (u+1)
  rw[htk]at next
  generalize hx:e.kids[i]=x at *;refine Ab Ah (Ao FU.eq_1) ?_;simp[hi,hx,Aa,h0,h2];refine Ae hE (by simp[Aa]) ?_;simp[Aa,h2,h4,ew,h0,hi,hx];refine⟨⟨oF,oF⟩,?_⟩;refine next _ oF (by simp[Aa,h0]) (by simp[Aa,h1]) (by simp[Aa,h3]) (by simp[Aa]) ?_
  simp[Aa,List.take_take,Xr]
theorem dQ:∀e:E,Vm e->G.Spec Tryz.prog 66 [eX e] (eX (Iy e)):=by
 refine E.ind fun k o n ws ks l os ihk iho h=>?_;rw[Vm]at h;obtain⟨hk,hl,hon,hwl,hkl,hol,hsum,hks,hos⟩:=h;refine Aj TD iS fun w0 I0=>?_;rw[BG Mj.eq_1];rw[FI];rcases hk with rfl|rfl|rfl|rfl
 ·simp;exact Bb ⟨Ad rfl,Ad rfl,Ai,Ai,Ad rfl,Ai,Ai,Ai,Ai,Ad rfl,Ai,trivial⟩
 ·obtain⟨ho,hn⟩:=hon rfl;simp;refine Ae (CP o ho) iS ?_;simp[Aa];refine Ae (CP n hn) iS ?_;simp[Aa];exact Bb ⟨Ad rfl,GG (C8 o).symm,Ad rfl,Ad rfl,GG (C8 n).symm,Ad rfl,Ad rfl,Ai,Ai,Ad rfl,Ai,trivial⟩
 ·simp;refine⟨oF,?_⟩;refine LoopC.le (Bi (d:=[2]) (u:=1) (cs:=[iv 2,iv 0,.sl true [],.sl true [],iv 0,.sl true [],.sl true [],.osl [3] 1 4 0 ws.length,.sl true [],iv 0,.sl true []]) 8 [4] 12 rfl rfl iS) ?_;refine LoopC.le (Al [(1,.pob [0] 1 0),(2,.pob [1] 1 0),(3,.pob [2] 1 0),(4,iv (0:Nat))] iS) ?_;refine yJ (e:=.mk 2 o n ws ks l os) hkl (fun x hx=>ihk x hx (Pv (hks rfl) x hx)) (W:=.osl [3] 1 4 0 ws.length) (fun H u st h1 h3 h2 h5=>?_) ks.length 0 1 _ iS (by simp[Aa]) rfl rfl (by simp[Aa]) (by simp[Aa]);have h3':H [3]=⟨1,.arr 4 (ws.map wA)⟩:=by rw[h3];simp[Aa]
  simp only[E.kids_mk]at h2 h5;simp[h2,h1,Aa];have fw:=AQ (H:=Ar H [1] ⟨1,.cells [iv 2,iv 0,.sl true [],.sl true [],iv 0,.sl true [],.sl true [],.osl [3] 1 4 0 ws.length,.osl [4] u 12 0 ks.length,iv 0,.sl true []]⟩) (o:=[3]) (u:=1) (sz:=4) (l:=ws) (f:=wA) (n:=ws.length) (by simp[Aa,h3']) rfl (fun x=>rfl);have fk:=AQ (H:=Ar H [1] ⟨1,.cells [iv 2,iv 0,.sl true [],.sl true [],iv 0,.sl true [],.sl true [],.osl [3] 1 4 0 ws.length,.osl [4] u 12 0 ks.length,iv 0,.sl true []]⟩) (o:=[4]) (u:=u) (sz:=12) (l:=ks) (f:=kA ∘ Xr) (n:=ks.length) (by simp[Aa,h5]) rfl (fun x=>iS);rw[<-List.map_map]at fk;exact Bb ⟨Ad rfl,Ad rfl,Ai,Ai,Ad rfl,Ai,Ai,fw,fk,Ad rfl,Ai,trivial⟩
 ·have hO:=rN (list:=l) (os:=os) (fun x hx=>by
   obtain⟨a,b,c⟩:=Qd (hos rfl) x hx;exact⟨a,b,fun h=>iho x hx (c h)⟩) hol hsum
  simp;refine Ae hO (by simp[Aa]) ?_;simp[Aa];exact Bb ⟨Ad rfl,Ad rfl,Ai,Ai,Ad rfl,Ai,Ai,Ai,Ai,Ad rfl,Ad rfl,trivial⟩
theorem VV{most:Int}(hm:B6 most):∀(f g:Nat)(a b:T),XB f a->XB g b->G.Spec Tryz.prog 67 [tX a,tX b,iv most] (eX (Hu most f a b))
 |0,g,a,b,ha,hb=>by
  obtain⟨a1,a2,a3,a4⟩:=A4 ha;obtain⟨b1,b2,b3,b4⟩:=A4 hb;have hk:a.kind=0:=by cases ha;rfl
  have:=cD a1 b1 (X:=E0) (Y:=E0) (most:=most) (fun h=>oF) (fun _ h=>oF);rw[if_neg (show ¬(a.kind=1/\b.kind=1) by omega),if_neg (show ¬(a.kind=b.kind/\2<=a.kind/\a.kind<=9) by omega)]at this;exact this
 |f+1,g,a,b,ha,hb=>by
  obtain⟨a1,a2,a3,a4⟩:=A4 ha;obtain⟨b1,b2,b3,b4⟩:=A4 hb;refine cD a1 b1 (fun h1 h2=>?_) (fun h1 h2 h3=>?_)
  ·exact Xg a1 b1 oF oF oF oF fun i=>VV hm f (g-1) _ _ (I4 ha i) (I4 hb i)
  ·exact fW a1 b1 a4 b4 hm fun x hx y hy=>VV hm f (g-1) _ _ (Bu ha x hx) (Bu hb y hy)
noncomputable def ZA(most:Int)(a b:T):E:=Iy (Hu most 1000 (Ag a) (Ag b))
theorem WQ{a b:T}(ha:Ay a)(hb:Ay b)(pa:Bn a<=1000)(pb:Bn b<=1000){most:Int}(hm:B6 most):G.Spec Tryz.prog 24 [tX a,tX b,iv most] (eX (ZA most a b)):=by
 have oa:=EJ a ha pa 1000 pa;have ob:=EJ b hb pb 1000 pb;have h1:=Wc hm 1000 1000 _ _ oa ob;have h2:=oz _ (Qx most 1000 1000 _ _ oa ob);refine Aj fC iS fun w0 I0=>?_;rw[Ao Tl.eq_1];simp;refine Ae (D3 a ha) iS ?_;simp;refine Ae (D3 b hb) iS ?_;simp;refine Ae h1 iS ?_;simp;refine Ae h2 iS ?_;simp;exact Ad iS
theorem Wf{a b:T}(ha:Ay a)(hb:Ay b)(pa:Bn a<=1000)(pb:Bn b<=1000){most:Int}(hm:B6 most):G.Spec Tryz.prog 40 [tX a,tX b,iv most] (eX (ZA most a b)):=by
 have oa:=EJ a ha pa 1000 pa;have ob:=EJ b hb pb 1000 pb;have h1:=VV hm 1000 1000 _ _ oa ob;have h2:=dQ _ (Qx most 1000 1000 _ _ oa ob);refine Aj Sj iS fun w0 I0=>?_;rw[Ao La.eq_1];simp;refine Ae (CP a ha) iS ?_;simp;refine Ae (CP b hb) iS ?_;simp;refine Ae h1 iS ?_;simp;refine Ae h2 iS ?_;simp;exact Ad iS
def Gv(t:T):Bool:=decide (0<=EO 70 400 t)&&AW 64 t&&decide (t.kind≠10)
theorem P4{t:T}(h:Ay t):G.Spec Tryz.prog 39 [tX t] (bv (Gv t)):=by
 refine Aj Tp iS fun w0 I0=>?_;rw[Ao Mi.eq_1];simp;refine Ae (gD t h 70 400 oF oF oF) iS ?_;unfold Gv;by_cases hs:0<=EO 70 400 t
 ·simp[hs];refine CE rfl (fun _=>jM t h 64 oF) (fun _=>iS) iS ?_;cases hr:AW 64 t with
  |true=>
   simp;exact I8 rfl iS
  |false=>
   simp;exact I8 rfl iS
 ·simp[hs];refine Bx rfl ?_;simp;exact I8 rfl iS
theorem Ou{t:T}(h:Gv t=true):Bn t<=400/\AW 64 t=true/\t.kind≠10:=by
 unfold Gv at h;simp only[Bool.and_eq_true,decide_eq_true_eq]at h;obtain⟨⟨h1,h2⟩,h3⟩:=h;have:=ax t 70 400 h1;exact⟨oF,h2,h3⟩
theorem Eo:Qz E0:=wfE_iff.2 ⟨by simp[B6],by simp[B6],HB,HB,iS,iS,iS,iS,iS,iS⟩
theorem SK{n:Int}(h1:-1000000000<=n)(h2:n<=1000000000):B6 n:=⟨oF,oF⟩
theorem Aa1{i:Nat}(hi:i<=1000000)(a b:Int):WE.wf (ZL i a b):=
 ⟨SK (by show(-1000000000:Int)<=i;omega) (by show(i:Int)<=1000000000;omega),Tm a b,DB _ _ _,DB _ _ _⟩
theorem xq{one:T->T->E}{a b:T}(ha:a.words.length<=1000)(hb:b.words.length<=1000)(ha2:a.kids.length<=1000)(hb2:b.kids.length<=1000)(h:∀i,Qz (one (a.kids.getD i T0) (b.kids.getD i T0))):Qz (fr one a b):=by
 have h1:=Qf a b (max a.words.length b.words.length);have h2:=K3 one a b (max a.kids.length b.kids.length);unfold fr;refine wfE_iff.2 ⟨by simp[B6],by simp[B6],HB,HB,fun x hx=>?_,by show(Iw a b _).length*32<=_;omega,by show(DD one a b _).length*208<=_;omega,iS,fun x hx=>?_,iS⟩
 ·have hx':x∈Iw a b (max a.words.length b.words.length):=hx;unfold Iw at hx';rw[List.mem_filterMap]at hx';obtain⟨i,hi,e⟩:=hx';split at e
  ·cases e
  ·simp only[Option.some.injEq]at e;subst e;have:i<max a.words.length b.words.length:=by simpa using hi
   exact Aa1 oF _ _
 ·obtain⟨i,hi,e,_⟩:=Yh (show x∈DD one a b _ from hx);subst e;exact⟨SK (by show(-1000000000:Int)<=i;omega) (by show(i:Int)<=1000000000;omega),h i⟩
theorem Aaf{one:T->T->E}{A B:List T}{N:Nat}(hN:N<=1000000)(lA:A.length<=1000000)(lB:B.length<=1000000)(hA:∀t,t∈A->Ay t)(hB:∀t,t∈B->Ay t)(h1:∀x,x∈A->∀y,y∈B->Qz (one x y)){o:OP}(h:eF one A B N o):WfO o:=by
 cases h with
 |keep n h=>exact⟨by simp[B6],SK (by show(-1000000000:Int)<=n;omega) (by show(n:Int)<=1000000000;omega),iS,iS,Eo⟩
 |del l h g k=>exact⟨by simp[B6],by simp[B6],fun t ht=>hA t (g t ht),by show l.length*56<=_;omega,Eo⟩
 |ins l h g k=>exact⟨by simp[B6],by simp[B6],fun t ht=>hB t (g t ht),by show l.length*56<=_;omega,Eo⟩
 |desc x y hx hy=>exact⟨by simp[B6],by simp[B6],iS,iS,h1 x hx y hy⟩
theorem ZP{a b:T}(ha:Ay a)(hb:Ay b):Qz (.mk 1 a b [] [] 0 []):=wfE_iff.2 ⟨by simp[B6],by simp[B6],ha,hb,iS,iS,iS,iS,iS,iS⟩
theorem rR{one:T->T->E}{most:Int}{a b:T}(wfa:Ay a)(ha:a.kids.length<=1000)(hb:b.kids.length<=1000)(wa:∀t,t∈a.kids->Ay t)(wb:∀t,t∈b.kids->Ay t)(h:∀x,x∈a.kids->∀y,y∈b.kids->Qz (one x y)):Qz (OU one most a b):=by
 have h1:=jx one most a b;rw[Ue];exact wfE_iff.2 ⟨by simp[B6],(wfT_iff.1 wfa).k,HB,HB,iS,iS,iS,by show(TR one most a b).length*240<=_;omega,iS,fun x hx=>Aaf oF oF oF wa wb h (Ux one most a b x hx)⟩
theorem ZZ(most:Int):∀(f g:Nat)(a b:T),XB f a->XB g b->Qz (Hu most f a b)
 |0,g,a,b,ha,hb=>by
  rw[Hu];split
  ·exact Eo
  ·exact ZP (A4 ha).1 (A4 hb).1
 |f+1,g,a,b,ha,hb=>by
  obtain⟨a1,a2,a3,a4⟩:=A4 ha;obtain⟨b1,b2,b3,b4⟩:=A4 hb;rw[Hu];split
  ·exact Eo
  ·split
   ·exact xq a3 b3 a4 b4 fun i=>ZZ most f (g-1) _ _ (I4 ha i) (I4 hb i)
   ·split
    ·exact rR a1 a4 b4 (fun t ht=>(A4 (Bu ha t ht)).1) (fun t ht=>(A4 (Bu hb t ht)).1) fun x hx y hy=>ZZ most f (g-1) x y (Bu ha x hx) (Bu hb y hy)
    ·exact ZP a1 b1
theorem tr(n:Int):B6 (i64.wrap n):=by
 rw[IntKind.wrap_i64];exact⟨oF,oF⟩
theorem xR{out:List OP}{n:Int}(h:∀o,o∈out->WfO o)(hn:B6 n):∀o,o∈Q6 out n->WfO o:=by
 unfold Q6;split
 ·rename_i m l e he;intro o ho;have hm:=List.mem_of_getLast? he;rcases List.mem_append.1 ho with ho|ho
  ·exact h o (List.dropLast_subset _ ho)
  ·rw[List.mem_singleton]at ho;subst ho;have:=h _ hm;exact⟨this.k,tr _,this.l,this.ll,this.e⟩
 ·intro o ho;rcases List.mem_append.1 ho with ho|ho
  ·exact h o ho
  ·rw[List.mem_singleton]at ho;subst ho;exact⟨by simp[B6],hn,iS,iS,Eo⟩
theorem vy{out:List OP}{g b:List T}(h:∀o,o∈out->WfO o)(hg:∀t,t∈g->Ay t)(hb:∀t,t∈b->Ay t)(lg:g.length<=1000000)(lb:b.length<=1000000):∀o,o∈MU out g b->WfO o:=by
 intro o ho;unfold MU Dd Cb at ho;rcases List.mem_append.1 ho with ho|ho
 ·exact h o ho
 ·rcases List.mem_append.1 ho with ho|ho
  ·split at ho
   ·simp at ho
   ·rw[List.mem_singleton]at ho;subst ho;exact⟨by simp[B6],by simp[B6],hg,by show g.length*56<=_;omega,Eo⟩
  ·split at ho
   ·simp at ho
   ·rw[List.mem_singleton]at ho;subst ho;exact⟨by simp[B6],by simp[B6],hb,by show b.length*56<=_;omega,Eo⟩
def WfS(o:OP):Prop:=B6 o.n/\(∀t,t∈o.l->Ay t)/\(o.kind=0\/o.kind=1\/o.kind=2\/o.kind=3)/\(o.kind=3->Qz o.e)
theorem QM(list:Int):∀(os out:List OP)(g b:List T),(∀o,o∈os->WfS o)->(∀o,o∈out->WfO o)->(∀t,t∈g->Ay t)->(∀t,t∈b->Ay t)->g.length+b.length+Ez os<=1000000->∀o,o∈DG list os out g b->WfO o
 |[],out,g,b,h1,h2,h3,h4,h5=>by
  rw[DG];exact vy h2 h3 h4 oF oF
 |x::os,out,g,b,h1,h2,h3,h4,h5=>by
  rw[QC]at h5;have hx:=h1 x iS;have hos:∀o,o∈os->WfS o:=fun o ho=>h1 o (List.mem_cons_of_mem _ ho);have fl:=vy h2 h3 h4 oF oF;have nn:∀(l:List T),(∀t,t∈l->Ay t)->∀t,t∈l++x.l.map Ag->Ay t:=fun l hl t ht=>by
   rcases List.mem_append.1 ht with ht|ht
   ·exact hl t ht
   ·obtain⟨u,hu,rfl⟩:=List.mem_map.1 ht;exact BV _ (hx.2.1 u hu)
  have z:∀t:T,t∈([]:List T)->Ay t:=iS
  rw[DG];split
  ·exact QM list os _ _ _ hos (xR fl hx.1) z z (by simp;omega)
  ·split
   ·exact QM list os _ _ _ hos h2 (nn g h3) h4 (by simp;omega)
   ·split
    ·exact QM list os _ _ _ hos h2 h3 (nn b h4) (by simp;omega)
    ·split
     ·exact QM list os _ _ _ hos (xR fl (by simp[B6])) z z (by simp;omega)
     ·refine QM list os _ _ _ hos (fun o ho=>?_) z z (by simp;omega);rcases List.mem_append.1 ho with ho|ho
      ·exact fl o ho
      ·rw[List.mem_singleton]at ho;subst ho;exact⟨by simp[B6],by simp[B6],iS,iS,hx.2.2.2 (by have:=hx.2.2.1;omega)⟩
theorem zQ(out:List OP)(n:Int):(Q6 out n).length<=out.length+1:=by
 unfold Q6;split
 ·simp
  try omega
 ·simp
theorem qd(out:List OP)(g b:List T):(MU out g b).length<=out.length+2:=by
 unfold MU Dd Cb;split<;>split<;>simp
theorem NM(list:Int):∀(os out:List OP)(g b:List T),(DG list os out g b).length<=out.length+3*os.length+2
 |[],out,g,b=>by
  rw[DG];have:=qd out g b;simp;omega
 |x::os,out,g,b=>by
  have h1:=qd out g b;have h2:=zQ (MU out g b);rw[DG,List.length_cons];split
  ·have:=NM list os (Q6 (MU out g b) x.n) [] [];have:=h2 x.n;omega
  ·split
   ·have:=NM list os out (g++x.l.map Ag) b;omega
   ·split
    ·have:=NM list os out g (b++x.l.map Ag);omega
    ·split
     ·have:=NM list os (Q6 (MU out g b) 1) [] [];have:=h2 1;omega
     ·have:=NM list os (MU out g b++[.mk 3 0 [] x.e]) [] [];simp at this;omega
theorem xY(os:List OP):Ez (os.map Kh)=Ez os:=by
 unfold Ez;rw[List.map_map];rfl
theorem Ac3:∀e:E,Qz e->Vm e->Qz (Iy e):=by
 refine E.ind fun k o n ws ks l os ihk iho hw h=>?_;rw[Vm]at h;obtain⟨hk,hl,hon,hwl,hkl,hol,hsum,hks,hos⟩:=h;have w:=wfE_iff.1 hw;rw[FI];split
 ·exact ZP (BV _ w.o) (BV _ w.n)
 ·split
  ·rename_i h1 h2;refine wfE_iff.2 ⟨by simp[B6],by simp[B6],HB,HB,w.w,w.wl,by show(ks.map Xr).length*208<=_;simp;omega,iS,fun x hx=>?_,iS⟩;obtain⟨y,hy,rfl⟩:=List.mem_map.1 (show x∈ks.map Xr from hx);have:=w.ks y hy;exact⟨this.1,ihk y hy this.2 (Pv (hks h2) y hy)⟩
  ·split
   ·rename_i h1 h2 h3;have hO:∀o,o∈os.map Kh->WfS o:=fun o ho=>by
     obtain⟨y,hy,rfl⟩:=List.mem_map.1 ho;have g1:=w.os y hy;obtain⟨g2,g3,g4⟩:=Qd (hos h3) y hy;exact⟨g1.n,g3,g2,fun e=>iho y hy g1.e (g4 e)⟩
    have hlen:=NM l (os.map Kh) [] [] [];simp at hlen;refine wfE_iff.2 ⟨by simp[B6],w.l,HB,HB,iS,iS,iS,by show(DG l (os.map Kh) [] [] []).length*240<=_;omega,iS,fun x hx=>QM l _ _ _ _ hO iS iS iS (by rw[xY];simpa using hsum) x hx⟩
   ·exact Eo
theorem AhY{a b:T}(ha:Ay a)(hb:Ay b)(pa:Bn a<=1000)(pb:Bn b<=1000){most:Int}:Qz (ZA most a b):=by
 have oa:=EJ a ha pa 1000 pa;have ob:=EJ b hb pb 1000 pb;exact Ac3 _ (ZZ most 1000 1000 _ _ oa ob) (Qx most 1000 1000 _ _ oa ob)
inductive jJ(list:Int):OP->Prop
 |keep (n:Int):jJ list (.mk 0 n [] E0)
 |del (l:List T) (h:l≠[]) (g:l.map Ag=l):jJ list (.mk 1 0 l E0)
 |ins (l:List T) (h:l≠[]) (g:l.map Ag=l):jJ list (.mk 2 0 l E0)
 |desc (e:E) (h:Gc list e=false) (g:Iy e=e):jJ list (.mk 3 0 [] e)
def Aao(s t:Int):Prop:=¬(s=0/\t=0)/\(t=1->s≠1/\s≠2)/\(t=2->s≠2)
def Wr(list:Int):Int->List OP->Prop
 |_,[]=>True
 |s,o::os=>jJ list o/\Aao s o.kind/\Wr list o.kind os
def YI:Int->List OP->Int
 |s,[]=>s
 |_,o::os=>YI o.kind os
theorem Gh:∀(W:List OP)(s:Int)(o:OP),YI s (W++[o])=o.kind
 |[],s,o=>rfl
 |x::W,s,o=>Gh W x.kind o
theorem Ml{list:Int}:∀{W:List OP} {s:Int} {o:OP},Wr list s W->jJ list o->Aao (YI s W) o.kind->Wr list s (W++[o])
 |[],s,o,_,h2,h3=>⟨h2,h3,trivial⟩
 |x::W,s,o,h1,h2,h3=>⟨h1.1,h1.2.1,Ml h1.2.2 h2 h3⟩
theorem iQ{list:Int}:∀{W:List OP} {s:Int} {o:OP},Wr list s (W++[o])->Wr list s W/\jJ list o/\Aao (YI s W) o.kind
 |[],s,o,h=>⟨trivial,h.1,h.2.1⟩
 |x::W,s,o,h=>by
  obtain⟨h1,h2,h3⟩:=h;obtain⟨g1,g2,g3⟩:=iQ h3;exact⟨⟨h1,h2,g1⟩,g2,g3⟩
theorem We{out:List OP}{n:Int}(h:∀m l e,out.getLast?≠some (.mk 0 m l e)):Q6 out n=out++[.mk 0 n [] E0]:=by
 unfold Q6;split
 ·rename_i m l e he;exact absurd he (h m l e)
 ·rfl
theorem QY(out:List OP):MU out [] []=out:=by simp[MU,Dd,Cb]
theorem fy{out:List OP}{l:List T}(h:l≠[]):MU out l []=out++[.mk 1 0 l E0]:=by simp[MU,Dd,Cb,h]
theorem eP{out:List OP}(g:List T){l:List T}(h:l≠[]):MU out g l=MU out g []++[.mk 2 0 l E0]:=by simp[MU,Cb,h]
theorem kT{out:List OP}{g b:List T}(h:g≠[]\/b≠[]):∀m l e,(MU out g b).getLast?≠some (.mk 0 m l e):=by
 intro m l e;by_cases hb:b=[]
 ·subst hb;have hg:g≠[]:=by rcases h with h|h;exact h;exact absurd rfl h
  rw[fy hg];simp
 ·rw[eP g hb];simp
theorem ZI{list:Int}:∀(W:List OP)(s:Int)(out:List OP)(g b:List T),Wr list s W->(s=1->g≠[]/\b=[])->(s=2->b≠[])->(s≠1->s≠2->g=[]/\b=[])->(s≠0->s≠1->s≠2->∀m l e,out.getLast?≠some (.mk 0 m l e))->DG list (W.map Kh) out g b=MU out g b++W
 |[],s,out,g,b,_,_,_,_,_=>by simp[DG]
 |o::W,s,out,g,b,h,c1,c2,c3,c4=>by
  obtain⟨h1,h2,h3⟩:=h;rw[List.map_cons,DG];cases h1 with
  |keep n=>
   have hl:∀m l e,(MU out g b).getLast?≠some (.mk 0 m l e):=by
    have hs:s≠0:=fun e=>h2.1 ⟨e,rfl⟩;by_cases e1:s=1
    ·exact kT (.inl (c1 e1).1)
    ·by_cases e2:s=2
     ·exact kT (.inr (c2 e2))
     ·obtain⟨rfl,rfl⟩:=c3 e1 e2;rw[QY];exact c4 hs e1 e2
   rw[if_pos (show(Kh (.mk 0 n [] E0)).kind=0 from rfl)];show DG list (W.map Kh) (Q6 (MU out g b) n) [] []=_;rw[We hl,ZI W 0 _ [] [] h3 (fun h=>absurd h dO) (fun h=>absurd h dO) (fun _ _=>⟨rfl,rfl⟩) (fun h=>absurd rfl h),QY];simp
  |del l hne hn=>
   obtain⟨s1,s2⟩:=h2.2.1 rfl;obtain⟨rfl,rfl⟩:=c3 s1 s2;rw[if_neg (show ¬(Kh (.mk 1 0 l E0)).kind=0 by show ¬(1:Int)=0;decide),if_pos (show(Kh (.mk 1 0 l E0)).kind=1 from rfl)];show DG list (W.map Kh) out ([]++l.map Ag) []=_;rw[List.nil_append,hn,ZI W 1 _ l [] h3 (fun _=>⟨hne,rfl⟩) (fun h=>absurd h dO) (fun h=>absurd rfl h) (fun _ h=>absurd rfl h),fy hne,QY];simp
  |ins l hne hn=>
   have s2:=h2.2.2 rfl;have hb:b=[]:=by
    by_cases e1:s=1
    ·exact(c1 e1).2
    ·exact(c3 e1 s2).2
   subst hb;rw[if_neg (show ¬(Kh (.mk 2 0 l E0)).kind=0 by show ¬(2:Int)=0;decide),if_neg (show ¬(Kh (.mk 2 0 l E0)).kind=1 by show ¬(2:Int)=1;decide),if_pos (show(Kh (.mk 2 0 l E0)).kind=2 from rfl)];show DG list (W.map Kh) out g ([]++l.map Ag)=_;rw[List.nil_append,hn,ZI W 2 _ g l h3 (fun h=>absurd h dO) (fun _=>hne) (fun _ h=>absurd rfl h) (fun _ _ h=>absurd rfl h),eP g hne];simp
  |desc e hi hn=>
   have hi':Gc list (Kh (.mk 3 0 [] e)).e=false:=by show Gc list (Iy e)=false;rw[hn];exact hi
   rw[if_neg (show ¬(Kh (.mk 3 0 [] e)).kind=0 by show ¬(3:Int)=0;decide),if_neg (show ¬(Kh (.mk 3 0 [] e)).kind=1 by show ¬(3:Int)=1;decide),if_neg (show ¬(Kh (.mk 3 0 [] e)).kind=2 by show ¬(3:Int)=2;decide),if_neg (by rw[hi'];decide)];show DG list (W.map Kh) (MU out g b++[.mk 3 0 [] (Iy e)]) [] []=_;rw[hn,ZI W 3 _ [] [] h3 (fun h=>absurd h dO) (fun h=>absurd h dO) (fun _ _=>⟨rfl,rfl⟩) (fun _ _ _ m l e=>iS),QY];simp
theorem Acq{list:Int}{out:List OP}{g b:List T}(h:Wr list 4 out)(he:YI 4 out≠1/\YI 4 out≠2)(hg:g.map Ag=g)(hb:b.map Ag=b):Wr list 4 (MU out g b):=by
 have h1:Wr list 4 (MU out g [])/\YI 4 (MU out g [])≠2:=by
  by_cases e:g=[]
  ·subst e;rw[QY];exact⟨h,he.2⟩
  ·rw[fy e];refine⟨Ml h (.del g e hg) ⟨fun h=>absurd h.2 (by show ¬(1:Int)=0;decide),fun _=>he,fun h=>absurd h (by show ¬(1:Int)=2;decide)⟩,?_⟩;rw[Gh];show ¬(1:Int)=2;decide
 by_cases e:b=[]
 ·subst e;exact h1.1
 ·rw[eP g e];exact Ml h1.1 (.ins b e hb) ⟨fun h=>absurd h.2 (by show ¬(2:Int)=0;decide),fun h=>absurd h (by show ¬(2:Int)=1;decide),fun _=>h1.2⟩
theorem Ajj{list:Int}{F:List OP}(n:Int)(h:Wr list 4 F):Wr list 4 (Q6 F n)/\YI 4 (Q6 F n)=0:=by
 rcases List.eq_nil_or_concat F with rfl|⟨D,x,rfl⟩
 ·exact⟨⟨.keep n,⟨fun h=>absurd h.1 dO,fun h=>absurd h (by show ¬(0:Int)=1;decide),fun h=>absurd h (by show ¬(0:Int)=2;decide)⟩,trivial⟩,rfl⟩
 ·rw[List.concat_eq_append]at h ⊢;obtain⟨g1,g2,g3⟩:=iQ h;cases g2 with
  |keep m=>
   have e:Q6 (D++[OP.mk 0 m [] E0]) n=D++[.mk 0 (i64.wrap (m+n)) [] E0]:=by
    unfold Q6;rw[List.getLast?_concat];simp
   rw[e];exact⟨Ml g1 (.keep _) g3,Gh _ _ _⟩
  |del l hne hn=>
   rw[We iS];refine⟨Ml h (.keep n) ?_,Gh _ _ _⟩;rw[Gh];exact⟨fun h=>absurd h.1 (by show ¬(1:Int)=0;decide),fun h=>absurd h (by show ¬(0:Int)=1;decide),fun h=>absurd h (by show ¬(0:Int)=2;decide)⟩
  |ins l hne hn=>
   rw[We iS];refine⟨Ml h (.keep n) ?_,Gh _ _ _⟩;rw[Gh];exact⟨fun h=>absurd h.1 (by show ¬(2:Int)=0;decide),fun h=>absurd h (by show ¬(0:Int)=1;decide),fun h=>absurd h (by show ¬(0:Int)=2;decide)⟩
  |desc e hi hn=>
   rw[We iS];refine⟨Ml h (.keep n) ?_,Gh _ _ _⟩;rw[Gh];exact⟨fun h=>absurd h.1 (by show ¬(3:Int)=0;decide),fun h=>absurd h (by show ¬(0:Int)=1;decide),fun h=>absurd h (by show ¬(0:Int)=2;decide)⟩
theorem KX(l:List T):(l.map Ag).map Ag=l.map Ag:=by
 rw[List.map_map];exact List.map_congr_left fun x _=>Dt x
theorem SO{list:Int}:∀(os out:List OP)(g b:List T),(∀o,o∈os->o.kind≠0->o.kind≠1->o.kind≠2->Iy o.e=o.e)->Wr list 4 out->(YI 4 out≠1/\YI 4 out≠2)->g.map Ag=g->b.map Ag=b->Wr list 4 (DG list os out g b)
 |[],out,g,b,_,h,he,hg,hb=>by
  rw[DG];exact Acq h he hg hb
 |o::os,out,g,b,ho,h,he,hg,hb=>by
  have ho':∀o,o∈os->o.kind≠0->o.kind≠1->o.kind≠2->Iy o.e=o.e:=fun x hx=>ho x (List.mem_cons_of_mem _ hx);have hf:=Acq h he hg hb;have k:=fun n=>Ajj n hf;rw[DG];split
  ·exact SO os _ [] [] ho' (k o.n).1 (by rw[(k o.n).2];decide) rfl rfl
  ·split
   ·exact SO os _ _ _ ho' h he (by rw[List.map_append,hg,KX]) hb
   ·split
    ·exact SO os _ _ _ ho' h he hg (by rw[List.map_append,hb,KX])
    ·split
     ·exact SO os _ [] [] ho' (k 1).1 (by rw[(k 1).2];decide) rfl rfl
     ·rename_i h0 h1 h2 hi;have hlast:Aao (YI 4 (MU out g b)) (OP.mk 3 0 [] o.e).kind:=⟨fun h=>absurd h.2 (by show ¬(3:Int)=0;decide),fun h=>absurd h (by show ¬(3:Int)=1;decide),fun h=>absurd h (by show ¬(3:Int)=2;decide)⟩;refine SO os _ [] [] ho' (Ml hf (.desc o.e (by simpa using hi) (ho o iS h0 h1 h2)) hlast) ?_ rfl rfl;rw[Gh];show(3:Int)≠1/\(3:Int)≠2;decide
theorem ZN:Iy E0=E0:=by unfold E0;rw[FI];simp
theorem Abf:∀e:E,Vm e->Iy (Iy e)=Iy e:=by
 refine E.ind fun k o n ws ks l os ihk iho h=>?_;rw[Vm]at h;obtain⟨hk,hl,hon,hwl,hkl,hol,hsum,hks,hos⟩:=h;rw[FI];split
 ·rw[FI,if_pos rfl,Dt,Dt]
 ·split
  ·rename_i h1 h2;rw[FI,if_neg dO,if_pos rfl,List.map_map];congr 1;refine List.map_congr_left fun x hx=>?_;show KE.mk x.at_ (Iy (Iy x.e))=Xr x;rw[ihk x hx (Pv (hks h2) x hx)];rfl
  ·split
   ·rename_i h1 h2 h3;rw[FI,if_neg dO,if_neg dO,if_pos rfl];have hw:=SO (list:=l) (os.map Kh) [] [] [] (fun x hx e0 e1 e2=>by
     obtain⟨y,hy,rfl⟩:=List.mem_map.1 hx;obtain⟨g1,g2,g3⟩:=Qd (hos h3) y hy;have:y.kind=3:=by
      have e0':y.kind≠0:=e0;have e1':y.kind≠1:=e1;have e2':y.kind≠2:=e2;omega
     exact iho y hy (g3 this)) trivial (by show(4:Int)≠1/\(4:Int)≠2;decide) rfl rfl
    have:=ZI _ 4 [] [] [] hw (fun h=>absurd h dO) (fun h=>absurd h dO) (fun _ _=>⟨rfl,rfl⟩) (fun _ _ _ m l e=>iS);rw[this,QY,List.nil_append]
   ·exact ZN
inductive Sr{α β:Type}(R:α->β->Prop):List Nat->List α->List β->Prop
 |nil:Sr R [] [] []
 |keep {us:List Nat} {a:List α} {b:List β} (x:α) (y:β) (h:R x y):Sr R us a b->Sr R (0::us) (x::a) (y::b)
 |del {us:List Nat} {a:List α} {b:List β} (x:α):Sr R us a b->Sr R (1::us) (x::a) b
 |ins {us:List Nat} {a:List α} {b:List β} (y:β):Sr R us a b->Sr R (2::us) a (y::b)
section
variable {α β:Type} {R:α->β->Prop}
theorem Oa{us vs:List Nat}{a c:List α}{b d:List β}(h:Sr R us a b)(g:Sr R vs c d):Sr R (us++vs) (a++c) (b++d):=by
 induction h with
 |nil=>exact g
 |keep x y h _ ih=>exact .keep x y h ih
 |del x _ ih=>exact .del x ih
 |ins y _ ih=>exact .ins y ih
theorem Gk:∀{us vs:List Nat} {a:List α} {b:List β},Sr R (us++vs) a b->∃a1 a2 b1 b2,a=a1++a2/\b=b1++b2/\Sr R us a1 b1/\Sr R vs a2 b2
 |[],vs,a,b,h=>⟨[],a,[],b,rfl,rfl,.nil,h⟩
 |u::us,vs,a,b,h=>by
  cases h with
  |keep x y r h=>
   obtain⟨a1,a2,b1,b2,rfl,rfl,h1,h2⟩:=Gk h;exact⟨x::a1,a2,y::b1,b2,rfl,rfl,.keep x y r h1,h2⟩
  |del x h=>
   obtain⟨a1,a2,b1,b2,rfl,rfl,h1,h2⟩:=Gk h;exact⟨x::a1,a2,b1,b2,rfl,rfl,.del x h1,h2⟩
  |ins y h=>
   obtain⟨a1,a2,b1,b2,rfl,rfl,h1,h2⟩:=Gk h;exact⟨a1,a2,y::b1,b2,rfl,rfl,.ins y h1,h2⟩
theorem TU:∀(b:List β),Sr R (List.replicate b.length 2) [] b
 |[]=>.nil
 |y::b=>.ins y (TU b)
theorem jS:∀(i:Nat){us:List Nat}{a:List α}{b:List β},Sr R (List.replicate i 2++1::us) a b->Sr R (1::(List.replicate i 2++us)) a b
 |0,us,a,b,h=>h
 |i+1,us,a,b,h=>by
  cases h with
  |ins y h=>
   cases jS i h with
   |del x h=>exact .del x (.ins y h)
theorem My:∀(n:Nat){a:List α}{b:List β},Sr R (List.replicate n 2) a b->a=[]/\b.length=n
 |0,a,b,h=>by cases h;exact⟨rfl,rfl⟩
 |n+1,a,b,h=>by
  cases h with
  |ins y h=>
   obtain⟨h1,h2⟩:=My n h;exact⟨h1,by simp[h2]⟩
theorem P5:∀(n:Nat){a:List α}{b:List β},Sr R (List.replicate n 1) a b->b=[]/\a.length=n
 |0,a,b,h=>by cases h;exact⟨rfl,rfl⟩
 |n+1,a,b,h=>by
  cases h with
  |del y h=>
   obtain⟨h1,h2⟩:=P5 n h;exact⟨h1,by simp[h2]⟩
theorem XF:∀(us:List Nat)(k d i:Nat){a:List α}{b:List β},(k=0\/(d=0/\i=0))->Sr R (List.replicate k 0++(List.replicate d 1++(List.replicate i 2++us))) a b->Sr R (A5 (Rd us k d i)) a b
 |[],k,d,i,a,b,hc,h=>by
  simp only[Rd,Jv,PC];simpa using h
 |x::us,k,d,i,a,b,hc,h=>by
  rw[Rd];by_cases h0:x=0
  ·subst h0;rw[if_pos rfl];simp only[Jv,PC];have e:List.replicate k 0++(List.replicate d 1++(List.replicate i 2++0::us))=(List.replicate d 1++List.replicate i 2)++(List.replicate (k+1) 0++us):=by
    rcases hc with rfl|⟨rfl,rfl⟩
    ·simp
    ·simp[List.replicate_succ']
   rw[e]at h;obtain⟨a1,a2,b1,b2,rfl,rfl,h1,h2⟩:=Gk h;rw[<-List.append_assoc];exact Oa h1 (XF us (k+1) 0 0 (.inr ⟨rfl,rfl⟩) (by simpa using h2))
  ·rw[if_neg h0];simp only[Jv,PC];obtain⟨a1,a2,b1,b2,rfl,rfl,h1,h2⟩:=Gk h;refine Oa h1 ?_;by_cases h3:x=1
   ·subst h3;rw[if_pos rfl];refine XF us 0 (d+1) i (.inl rfl) ?_;obtain⟨a3,a4,b3,b4,rfl,rfl,h4,h5⟩:=Gk h2;have:=Oa h4 (jS i h5);have e:List.replicate d 1++(1::(List.replicate i 2++us))=List.replicate (d+1) 1++(List.replicate i 2++us):=by simp[List.replicate_succ']
    rw[e]at this;simpa using this
   ·rw[if_neg h3];obtain⟨a3,a4,b3,b4,rfl,rfl,h4,h5⟩:=Gk h2;obtain⟨a5,a6,b5,b6,rfl,rfl,h6,h7⟩:=Gk h5;clear h h2 h5;cases h7 with
    |keep x y r w=>exact absurd rfl h0
    |del x w=>exact absurd rfl h3
    |ins y w=>
     refine XF us 0 d (i+1) (.inl rfl) ?_;have:=Oa h4 (Oa h6 (.ins y w));have e:List.replicate d 1++(List.replicate i 2++2::us)=List.replicate d 1++(List.replicate (i+1) 2++us):=by simp[List.replicate_succ']
     rw[e]at this;simpa using this
theorem zz{us:List Nat}{a:List α}{b:List β}(h:Sr R us a b):Sr R (A5 (J7 us)) a b:=XF us 0 0 0 (.inl rfl) (by simpa using h)
end
theorem QO{α β:Type}{f:α->β}:∀{us:List Nat} {a b:List α},Sr (fun x y:β=>x=y) us (a.map f) (b.map f)->Sr (fun x y=>f x=f y) us a b
 |us,[],[],h=>by cases h;exact .nil
 |us,x::a,[],h=>by
  cases h with
  |del x h=>exact .del _ (QO (b:=[]) h)
 |us,[],y::b,h=>by
  cases h with
  |ins x h=>exact .ins _ (QO (a:=[]) h)
 |us,x::a,y::b,h=>by
  cases h with
  |keep x y r h=>exact .keep _ _ r (QO h)
  |del x h=>exact .del _ (QO (b:=y::b) h)
  |ins x h=>exact .ins _ (QO (a:=x::a) h)
theorem zW{α β:Type}{R R':α->β->Prop}{us:List Nat}{a:List α}{b:List β}(h:∀x,x∈a->∀y,y∈b->R x y->R' x y)(w:Sr R us a b):Sr R' us a b:=by
 induction w with
 |nil=>exact .nil
 |keep x y r _ ih=>exact .keep x y (h x iS y iS r) (ih fun p hp q hq=>h p (List.mem_cons_of_mem _ hp) q (List.mem_cons_of_mem _ hq))
 |del x _ ih=>exact .del x (ih fun p hp q hq=>h p (List.mem_cons_of_mem _ hp) q hq)
 |ins y _ ih=>exact .ins y (ih fun p hp q hq=>h p hp q (List.mem_cons_of_mem _ hq))
def cK(us:List Nat):Nat:=us.countP fun x=>x == 0
theorem vU(a b:List Nat):cK (a++b)=cK a+cK b:=List.countP_append
theorem fM(n k:Nat):cK (List.replicate n k)=if k=0 then n else 0:=by unfold cK;rw[List.countP_replicate];by_cases h:k=0<;>simp[h]
theorem qh(x:Nat)(us:List Nat):cK (x::us)=(if x=0 then 1 else 0)+cK us:=by
 unfold cK;rw[List.countP_cons];by_cases h:x=0<;>simp[h]
 omega
theorem xE(x:Int):∀b:List Int,Ef x b<b.length↔x∈b:=by
 intro b;constructor
 ·intro h;have:=UT x h;rw[<-this];exact Bv h
 ·intro h;apply Classical.byContradiction;intro hn;have hle:=Uf x b;have he:Ef x b=b.length:=oF
  have:=T8 x (b:=b) (j:=b.length) oF;rw[Ax (Cq _)]at this;exact this h
theorem AaN(x:Int)(b:List Int):Sr (fun x y:Int=>x=y) (GU [x] b) [x] b:=by
 rw[Ze];split
 ·rename_i h;have e:b=b.take (Ef x b)++(b[Ef x b]::b.drop (Ef x b+1)):=by
   conv=>lhs;rw[<-List.take_append_drop (Ef x b) b]
   rw[List.getElem_cons_drop]
  have h1:=TU (R:=fun x y:Int=>x=y) (b.take (Ef x b));have h2:=TU (R:=fun x y:Int=>x=y) (b.drop (Ef x b+1));rw[List.length_take,Nat.min_eq_left oF]at h1;rw[List.length_drop,show b.length-(Ef x b+1)=b.length-Ef x b-1 by omega]at h2;have:=Oa h1 (.keep x b[Ef x b] (UT x h).symm h2);rw[<-e]at this;exact this
 ·exact .del x (TU b)
theorem Aeb(x:Int)(b:List Int):cK (GU [x] b)=AK [x] b:=by
 rw[Ze,fA];have:=xE x b;split
 ·rename_i h;rw[if_pos (this.1 h),vU,qh,fM,fM];simp
 ·rename_i h;rw[if_neg (fun hx=>h (this.2 hx)),qh,fM];simp
theorem oT:∀(a b:List Int),Sr (fun x y:Int=>x=y) (GU a b) a b/\cK (GU a b)=AK a b
 |[],b=>by
  rw[jc];exact⟨TU b,by rw[fM];simp⟩
 |x::a,b=>by
  have hw:=Gx (a:=x::a) (b:=b) (i:=1) iS;rw[bb (x::a) b (h:=1) iS];generalize AX (x::a) b 1=w at *;have e1:(x::a).take 1=[x]:=iS
  have e2:(x::a).drop 1=a:=iS
  rw[e1,e2];obtain⟨g1,g2⟩:=oT a (b.drop w);constructor
  ·have:=Oa (AaN x (b.take w)) g1;rw[List.take_append_drop]at this;exact this
  ·rw[vU,Aeb,g2];have h:=hw.1;unfold S8 at h;have h:=of_decide_eq_true h;unfold F6 at h;rw[QZ,QZ,XR,XR,e1,e2]at h;exact h
theorem Zs{ks:List T}{n:T}(h:n∈ks):F8 ks n=ks/\ks[Fj ks n]? = some n:=by
 have h1:Fj ks n<ks.length:=by
  unfold Fj;exact List.findIdx_lt_length_of_exists ⟨n,h,sameB_iff.2 rfl⟩
 have e:F8 ks n=ks:=by unfold F8;rw[if_pos h1]
 have:=XE ks n;rw[e]at this;exact⟨e,this⟩
theorem X7:∀(l K:List T),(∀t,t∈l->Ag t∈K)->BM K l=(K,l.map fun t=>Fj K (Ag t))
 |[],K,_=>rfl
 |t::l,K,h=>by
  rw[BM,(Zs (h t iS)).1,X7 l K fun x hx=>h x (List.mem_cons_of_mem _ hx)];rfl
theorem YE:∀(l ks:List T),∀t,t∈l->Ag t∈(BM ks l).1
 |x::l,ks,t,h=>by
  rw[BM];rcases List.mem_cons.1 h with rfl|h
  ·have h1:=Kf l (F8 ks (Ag t));have h2:=XE ks (Ag t);exact h1.subset (List.mem_of_getElem? h2)
  ·exact YE l _ t h
theorem xi{K:List T}{s t:T}(hs:Ag s∈K)(ht:Ag t∈K)(h:Fj K (Ag s)=Fj K (Ag t)):Ag s=Ag t:=by
 have h1:=(Zs hs).2;have h2:=(Zs ht).2;rw[h,h2]at h1;exact(Option.some.inj h1).symm
noncomputable def zg(a b:List T):List T:=(BM (BM [] a).1 b).1
noncomputable def clZ(a b:List T)(t:T):Int:=(Fj (zg a b) (Ag t):Nat)
theorem bd(a b:List T):(zg a b).Nodup:=Sh (Sh List.nodup_nil)
theorem AbU(a b:List T):∀t,t∈a->Ag t∈zg a b:=fun t ht=>(Kf b (BM [] a).1).subset (YE a [] t ht)
theorem AcB(a b:List T):∀t,t∈b->Ag t∈zg a b:=YE b _
theorem AeP(a b:T):Rt a=a.kids.map (clZ a.kids b.kids):=by
 have h1:=SX (l:=a.kids) (ks:=[]) (ks':=zg a.kids b.kids) (Kf b.kids _) (bd _ _);rw[X7 _ _ (AbU a.kids b.kids)]at h1;have h2:(BM [] a.kids).2=a.kids.map fun t=>Fj (zg a.kids b.kids) (Ag t):=(Prod.mk.inj h1).2.symm;unfold Rt tG;rw[h2,List.map_map];rfl
theorem AcY(a b:T):Q7 a b=b.kids.map (clZ a.kids b.kids):=by
 have h1:=SX (l:=b.kids) (ks:=(BM [] a.kids).1) (ks':=zg a.kids b.kids) List.prefix_rfl (bd _ _);rw[X7 _ _ (AcB a.kids b.kids)]at h1;have h2:(BM (BM [] a.kids).1 b.kids).2=b.kids.map fun t=>Fj (zg a.kids b.kids) (Ag t):=(Prod.mk.inj h1).2.symm;unfold Q7 tG;rw[h2,List.map_map];rfl
theorem Ad4{a b:List T}{s t:T}(hs:Ag s∈zg a b)(ht:Ag t∈zg a b):clZ a b s=clZ a b t↔Ag s=Ag t:=by
 constructor
 ·intro h;unfold clZ at h;exact xi hs ht oF
 ·intro h;unfold clZ;rw[h]
theorem xr(a b:T):Sr (fun x y=>Ag x=Ag y) (A5 (J7 (GU (Rt a) (Q7 a b)))) a.kids b.kids:=by
 have h:=(oT (Rt a) (Q7 a b)).1;have h:=zz h;rw[AeP a b,AcY a b]at h ⊢;refine zW (fun x hx y hy e=>?_) (QO h);exact(Ad4 (AbU _ _ x hx) (AcB _ _ y hy)).1 e
theorem cF(a:Int):∀k,FY a a k=0
 |0=>rfl
 |k+1=>by
  unfold FY;rw[cF a k];simp
theorem cT{a b:Int}:∀k,FY a b k=0->∀i,i<k->BP a i=BP b i
 |0,_,i,h=>oF
 |k+1,h,i,hi=>by
  unfold FY at h;have h1:FY a b k=0:=oF
  have h2:(if BP a k≠BP b k then 2 ^ k else 0)=0:=oF
  by_cases e:i=k
  ·subst e;apply Classical.byContradiction;intro hne;rw[if_pos hne]at h2;have:=Nat.pow_pos (n:=i) (show 0<2 from oF);omega
  ·exact cT k h1 i oF
theorem vD{a b:Int}(ha:Ba a)(hb:Ba b):DW a b=0↔a=b:=by
 constructor
 ·intro h;have h':FY a b 8=0:=by unfold DW at h;omega
  have g:=cT 8 h';have g0:=g 0 oF;have g1:=g 1 oF;have g2:=g 2 oF;have g3:=g 3 oF;have g4:=g 4 oF;have g5:=g 5 oF;have g6:=g 6 oF;have g7:=g 7 oF;clear g h h';unfold BP at g0 g1 g2 g3 g4 g5 g6 g7;simp only[show(256:Int) ^ 0=1 from rfl,show(256:Int) ^ 1=256 from rfl,show(256:Int) ^ 2=65536 from rfl,show(256:Int) ^ 3=16777216 from rfl,show(256:Int) ^ 4=4294967296 from rfl,show(256:Int) ^ 5=1099511627776 from rfl,show(256:Int) ^ 6=281474976710656 from rfl,show(256:Int) ^ 7=72057594037927936 from rfl]at g0 g1 g2 g3 g4 g5 g6 g7;unfold Ba at ha hb;omega
 ·rintro rfl;unfold DW;rw[cF];rfl
inductive LdO(R:E->T->T->Prop):List OP->List T->List T->Prop
 |nil:LdO R [] [] []
 |keep {os:List OP} {a b:List T} (l m:List T) (hne:l≠[]) (h:l.map Ag=m.map Ag) (g:LdO R os a b):LdO R (.mk 0 (l.length:Nat) [] E0::os) (l++a) (m++b)
 |del {os:List OP} {a b:List T} (l m:List T) (hne:l≠[]) (h:l.map Ag=m.map Ag) (g:LdO R os a b):LdO R (.mk 1 0 l E0::os) (m++a) b
 |ins {os:List OP} {a b:List T} (l m:List T) (hne:l≠[]) (h:l.map Ag=m.map Ag) (g:LdO R os a b):LdO R (.mk 2 0 l E0::os) a (m++b)
 |desc {os:List OP} {a b:List T} (e:E) (x y:T) (h:R e x y) (g:LdO R os a b):LdO R (.mk 3 0 [] e::os) (x::a) (y::b)
inductive Z4(R:E->T->T->Prop)(a b:List T):Nat->List KE->Prop
 |nil (p:Nat) (h:∀i,p<=i->Ag (a.getD i T0)=Ag (b.getD i T0)):Z4 R a b p []
 |cons (p i:Nat) (e:E) (ks:List KE) (hp:p<=i) (h:∀j,p<=j->j<i->Ag (a.getD j T0)=Ag (b.getD j T0)) (hi:i<max a.length b.length) (he:e.kind≠0) (hr:R e (a.getD i T0) (b.getD i T0)) (g:Z4 R a b (i+1) ks):Z4 R a b p (.mk i e::ks)
inductive Pe(a b:List Int):Nat->List WE->Prop
 |nil (p:Nat) (h:∀i,p<=i->a.getD i 0=b.getD i 0):Pe a b p []
 |cons (p i:Nat) (m o n:Int) (ws:List WE) (hp:p<=i) (h:∀j,p<=j->j<i->a.getD j 0=b.getD j 0) (hi:i<max a.length b.length) (hm:0<m/\m<256) (ho:BI 0 (a.getD i 0) m=o) (hn:BI 0 (b.getD i 0) m=n) (h1:BI (a.getD i 0) n m=b.getD i 0) (h2:BI (b.getD i 0) o m=a.getD i 0) (g:Pe a b (i+1) ws):Pe a b p (⟨i,m,o,n⟩::ws)
def ur(e:E)(a b:T):Prop:=(e=E0/\Ag a=Ag b)\/∃o n,e=.mk 1 o n [] [] 0 []/\Ag o=Ag a/\Ag n=Ag b
def Ld:Nat->E->T->T->Prop
 |0,e,a,b=>ur e a b
 |f+1,e,a,b=>ur e a b\/(∃ws ks,e=.mk 2 T0 T0 ws ks 0 []/\a.kind=1/\b.kind=1/\Pe a.words b.words 0 ws/\Z4 (Ld f) a.kids b.kids 0 ks)\/(∃os,e=.mk 3 T0 T0 [] [] a.kind os/\b.kind=a.kind/\(2<=a.kind/\a.kind<=9)/\(a.words=[]/\b.words=[])/\LdO (Ld f) os a.kids b.kids)
theorem Ol{f:Nat}{e:E}{a b:T}(h:ur e a b):Ld f e a b:=by
 cases f with
 |zero=>exact h
 |succ f=>exact .inl h
theorem xh{f:Nat}{e:E}{a b:T}(h:Ld f e a b)(hk:e.kind=0):e=E0/\Ag a=Ag b:=by
 have base:ur e a b->e=E0/\Ag a=Ag b:=fun h=>by
  rcases h with h|⟨o,n,rfl,_⟩
  ·exact h
  ·cases hk
 cases f with
 |zero=>exact base h
 |succ f=>
  rcases h with h|⟨ws,ks,rfl,_⟩|⟨os,rfl,_⟩
  ·exact base h
  ·cases hk
  ·cases hk
section
variable {R:E->T->T->Prop}
theorem IC{os ps:List OP}{a b c d:List T}(h:LdO R os a b)(g:LdO R ps c d):LdO R (os++ps) (a++c) (b++d):=by
 induction h with
 |nil=>exact g
 |keep l m hne h _ ih=>rw[List.append_assoc,List.append_assoc];exact .keep l m hne h ih
 |del l m hne h _ ih=>rw[List.append_assoc];exact .del l m hne h ih
 |ins l m hne h _ ih=>rw[List.append_assoc];exact .ins l m hne h ih
 |desc e x y h _ ih=>exact .desc e x y h ih
theorem Nu:∀{os ps:List OP} {a b:List T},LdO R (os++ps) a b->∃a1 a2 b1 b2,a=a1++a2/\b=b1++b2/\LdO R os a1 b1/\LdO R ps a2 b2
 |[],ps,a,b,h=>⟨[],a,[],b,rfl,rfl,.nil,h⟩
 |o::os,ps,a,b,h=>by
  cases h with
  |keep l m hne h g=>
   obtain⟨a1,a2,b1,b2,rfl,rfl,h1,h2⟩:=Nu g;exact⟨l++a1,a2,m++b1,b2,iS,iS,.keep l m hne h h1,h2⟩
  |del l m hne h g=>
   obtain⟨a1,a2,b1,b2,rfl,rfl,h1,h2⟩:=Nu g;exact⟨m++a1,a2,b1,b2,iS,rfl,.del l m hne h h1,h2⟩
  |ins l m hne h g=>
   obtain⟨a1,a2,b1,b2,rfl,rfl,h1,h2⟩:=Nu g;exact⟨a1,a2,m++b1,b2,rfl,iS,.ins l m hne h h1,h2⟩
  |desc e x y h g=>
   obtain⟨a1,a2,b1,b2,rfl,rfl,h1,h2⟩:=Nu g;exact⟨x::a1,a2,y::b1,b2,rfl,rfl,.desc e x y h h1,h2⟩
theorem UR{l m:List T}(h:l.map Ag=m.map Ag):LdO R (Dd l) m []:=by
 unfold Dd;split
 ·rename_i e;subst e;have:m=[]:=by simpa using h.symm
  subst this;exact .nil
 ·rename_i e;have:=LdO.del (R:=R) l m e h .nil
  rwa [List.append_nil]at this
theorem U5{l m:List T}(h:l.map Ag=m.map Ag):LdO R (Cb l) [] m:=by
 unfold Cb;split
 ·rename_i e;subst e;have:m=[]:=by simpa using h.symm
  subst this;exact .nil
 ·rename_i e;have:=LdO.ins (R:=R) l m e h .nil
  rwa [List.append_nil]at this
end
theorem Zh(one:T->T->E)(a b:List T):∀(P:List Sc)(i j:Nat)(out:List OP),HU one a b P i j out=out++HU one a b P i j []
 |[],i,j,out=>by simp[HU]
 |x::P,i,j,out=>by
  rw[HU,Zh one a b P,HU,Zh one a b P _ _ ([]++_++_++_)];simp
theorem ir{R:E->T->T->Prop}{one:T->T->E}{a b:List T}(hone:∀x,x∈a->∀y,y∈b->R (one x y) x y):∀(P:List Sc)(i j:Nat),fN a.length b.length i j P->LdO R (HU one a b P i j []) (a.drop i) (b.drop j)
 |[],i,j,_=>by
  rw[HU,List.nil_append];have:=IC (UR (R:=R) (l:=a.drop i) rfl) (U5 (R:=R) (l:=b.drop j) rfl);simpa using this
 |x::P,i,j,h=>by
  obtain⟨k1,k2,k3,k4,k5⟩:=h;have ih:=ir hone P _ _ k5;rw[HU,Zh];have e1:a.getD x.i T0=a[x.i]:=by simp[k3]
  have e2:b.getD x.j T0=b[x.j]:=by simp[k4]
  rw[e1,e2];have d1:a.drop i=(a.take x.i).drop i++(a[x.i]::a.drop (x.i+1)):=by
   rw[List.getElem_cons_drop,<-List.drop_append_of_le_length (by simp;omega),List.take_append_drop]
  have d2:b.drop j=(b.take x.j).drop j++(b[x.j]::b.drop (x.j+1)):=by
   rw[List.getElem_cons_drop,<-List.drop_append_of_le_length (by simp;omega),List.take_append_drop]
  rw[d1,d2];have:=IC (UR (R:=R) (l:=(a.take x.i).drop i) rfl) (IC (U5 (R:=R) (l:=(b.take x.j).drop j) rfl) (.desc _ _ _ (hone _ (Bv k3) _ (Bv k4)) ih));simpa using this
theorem qp{R:E->T->T->Prop}{one:T->T->E}{a b:List T}(hone:∀x,x∈a->∀y,y∈b->R (one x y) x y):LdO R (Fh one a b) a b:=by
 have:=ir hone (Z8 (KC a b)) 0 0 (Sb a b);simpa[Fh]using this
theorem Ga(gap:List T->List T->List OP):∀(S:List Sp)(a b:List T)(out:List OP),CA gap S a b out=out++CA gap S a b []
 |[],a,b,out=>by simp[CA]
 |[s],a,b,out=>by
  rw[CA,CA];split
  ·simp
  ·split<;>simp
 |s::s2::ss,a,b,out=>by
  rw[CA,CA];split
  ·rw[Ga gap (s2::ss),Ga gap (s2::ss) _ _ ([]++_)];simp
  ·split
   ·rw[Ga gap (s2::ss),Ga gap (s2::ss) _ _ ([]++_)];simp
   ·split
    ·rw[Ga gap ss,Ga gap ss _ _ ([]++_)];simp
    ·rw[Ga gap (s2::ss),Ga gap (s2::ss) _ _ ([]++_)];simp
abbrev Nq:T->T->Prop:=fun x y=>Ag x=Ag y
theorem Oz:∀(n:Nat){a b:List T},Sr Nq (List.replicate n 0) a b->a.length=n/\b.length=n/\a.map Ag=b.map Ag
 |0,a,b,h=>by cases h;exact⟨rfl,rfl,rfl⟩
 |n+1,a,b,h=>by
  cases h with
  |keep x y r w=>
   obtain⟨h1,h2,h3⟩:=Oz n w;exact⟨by simp[h1],by simp[h2],by simp[h3];exact r⟩
theorem UN{R:E->T->T->Prop}{one:T->T->E}{A B:List T}(hone:∀x,x∈A->∀y,y∈B->R (one x y) x y):∀(S:List Sp)(a b:List T),(∀s,s∈S->s.k<=2/\1<=s.n)->(∀t,t∈a->t∈A)->(∀t,t∈b->t∈B)->Sr Nq (A5 S) a b->LdO R (CA (Fh one) S a b []) a b
 |[],a,b,_,_,_,h=>by
  cases h;rw[CA];exact .nil
 |[s],a,b,hS,hA,hB,h=>by
  have hs:=hS s iS;rw[AN,Hz,List.append_nil]at h;have hk:s.k=0\/s.k=1\/s.k=2:=oF
  rw[CA];rcases hk with hk|hk|hk
  ·rw[if_pos hk];rw[hk]at h;obtain⟨h1,h2,h3⟩:=Oz _ h;have:=LdO.keep (R:=R) a b (fun e=>by subst e;simp at h1;omega) h3 .nil;rw[h1]at this;simpa using this
  ·rw[if_neg oF,if_neg oF];rw[hk]at h;obtain⟨rfl,h2⟩:=P5 _ h;rw[Ax oF];exact UR rfl
  ·rw[if_neg oF,if_pos hk];rw[hk]at h;obtain⟨rfl,h2⟩:=My _ h;rw[Ax oF];exact U5 rfl
 |s::s2::ss,a,b,hS,hA,hB,h=>by
  have hs:=hS s iS;have hs2:=hS s2 iS;have hS1:∀x,x∈s2::ss->x.k<=2/\1<=x.n:=fun x hx=>hS x (List.mem_cons_of_mem _ hx);have hS2:∀x,x∈ss->x.k<=2/\1<=x.n:=fun x hx=>hS1 x (List.mem_cons_of_mem _ hx);rw[AN]at h;obtain⟨a1,a2,b1,b2,rfl,rfl,h1,h2⟩:=Gk h;have hA2:∀t,t∈a2->t∈A:=fun t ht=>hA t (List.mem_append_right _ ht);have hB2:∀t,t∈b2->t∈B:=fun t ht=>hB t (List.mem_append_right _ ht);have dr:∀{l m:List T} {n:Nat},l.length=n->(l++m).drop n=m/\(l++m).take n=l:=fun h=>by subst h;exact⟨List.drop_left ..,List.take_left ..⟩
  have hk:s.k=0\/s.k=1\/s.k=2:=oF
  rw[CA];rcases hk with hk|hk|hk
  ·rw[if_pos hk,Ga];rw[hk]at h1;obtain⟨g1,g2,g3⟩:=Oz _ h1;rw[(dr g1).1,(dr g2).1];have:=LdO.keep (R:=R) a1 b1 (fun e=>by subst e;simp at g1;omega) g3 (UN hone (s2::ss) a2 b2 hS1 hA2 hB2 h2);rw[g1]at this;simpa using this
  ·rw[if_neg oF,if_neg oF];rw[hk]at h1;obtain⟨rfl,g2⟩:=P5 _ h1;by_cases hk2:s2.k=2
   ·rw[if_pos hk2];rw[AN,hk2]at h2;obtain⟨a3,a4,b3,b4,rfl,rfl,h3,h4⟩:=Gk h2;obtain⟨rfl,g4⟩:=My _ h3;rw[Ga,List.nil_append,List.nil_append,List.nil_append,(dr g2).1,(dr g2).2,(dr g4).1,(dr g4).2];exact IC (qp fun x hx y hy=>hone x (hA x (by simp[hx])) y (hB y (by simp[hy]))) (UN hone ss a4 b4 hS2 (fun t ht=>hA2 t (by simp[ht])) (fun t ht=>hB2 t (by simp[ht])) h4)
   ·rw[if_neg hk2,Ga,List.nil_append,(dr g2).1,(dr g2).2];have:=IC (UR (R:=R) (l:=a1) rfl) (UN hone (s2::ss) a2 b2 hS1 hA2 hB2 h2);simpa using this
  ·rw[if_neg oF,if_pos hk,Ga,List.nil_append];rw[hk]at h1;obtain⟨rfl,g2⟩:=My _ h1;rw[(dr g2).1,(dr g2).2];have:=IC (U5 (R:=R) (l:=b1) rfl) (UN hone (s2::ss) a2 b2 hS1 hA2 hB2 h2);simpa using this
theorem o8{R:E->T->T->Prop}{one:T->T->E}{most:Int}{a b:T}(hone:∀x,x∈a.kids->∀y,y∈b.kids->R (one x y) x y):LdO R (TR one most a b) a.kids b.kids:=by
 unfold TR;split
 ·exact UN hone _ _ _ (fun s hs=>WU (TA _ _) s hs) (fun t ht=>ht) (fun t ht=>ht) (xr a b)
 ·exact qp hone
theorem Qg(a b:Int):∀(n i:Nat),i<n->(FY a b n).testBit i=decide (BP a i≠BP b i)
 |0,i,h=>oF
 |n+1,i,h=>by
  have hlt:=TK a b n;unfold FY;by_cases e:i=n
  ·subst e;by_cases c:BP a i≠BP b i
   ·rw[if_pos c,Nat.add_comm,Nat.testBit_two_pow_add_eq,Nat.testBit_lt_two_pow hlt];simp[c]
   ·rw[if_neg c,Nat.add_zero,Nat.testBit_lt_two_pow hlt];simp at c;simp[c]
  ·have hi:i<n:=oF
   by_cases c:BP a n≠BP b n
   ·rw[if_pos c,Nat.add_comm,Nat.testBit_two_pow_add_gt hi];exact Qg a b n i hi
   ·rw[if_neg c,Nat.add_zero];exact Qg a b n i hi
theorem rD(a b:Int){i:Nat}(h:i<8):Ff (DW a b) i=decide (BP a i≠BP b i):=by
 rw[<-Qg a b 8 i h,Nat.testBit_eq_decide_div_mod_eq];unfold Ff DW;rw[Bool.eq_iff_iff,decide_eq_true_iff,decide_eq_true_iff];have:((FY a b 8:Nat):Int) / 2 ^ i % 2=((FY a b 8 / 2 ^ i % 2:Nat):Int):=by
  rw[Int.natCast_emod,Int.natCast_ediv,Int.natCast_pow];rfl
 rw[this];omega
theorem VA{b:Int}(h:Ba b):XI (AI b)=b:=by
 unfold Ba at h;simp only[AI,C6,XI];omega
theorem Y2:∀(l:List Int),(∀b,b∈l->0<=b/\b<256)->C6 l.length (XI l)=l
 |[],_=>rfl
 |x::l,h=>by
  have hx:=h x iS;have ih:=Y2 l fun b hb=>h b (List.mem_cons_of_mem _ hb);simp only[List.length_cons,C6,XI];have e1:(x+256*XI l) % 256=x:=oF
  have e2:(x+256*XI l) / 256=XI l:=oF
  rw[e1,e2,ih]
theorem TQ{xs ys:List Int}{m:Int}{i:Nat}(hx:xs.length=8)(h:i<8):(J5 xs ys m 8).getD i 0=if Ff m i=true then ys.getD i 0 else xs.getD i 0:=by
 unfold J5;have e:xs.drop 8=[]:=List.drop_eq_nil_of_le oF;rw[e,List.append_nil,List.getD_eq_getElem?_getD,List.getElem?_map,List.getElem?_range h];rfl
theorem DZ(x:Int){i:Nat}(h:i<8):(AI x).getD i 0=BP x i:=by
 rw[List.getD_eq_getElem?_getD];unfold AI;rw[LW 8 x i h];rfl
theorem Qu(a b m:Int):AI (BI a b m)=J5 (AI a) (AI b) m 8:=by
 have hl:(J5 (AI a) (AI b) m 8).length=8:=by rw[Iu (by rw[BF];omega),BF]
 have:=Y2 (J5 (AI a) (AI b) m 8) SD;rw[hl]at this;exact this
theorem p9{a b:Int}(hb:Ba b):BI a (BI 0 b (DW a b)) (DW a b)=b:=by
 have e:J5 (AI a) (AI (BI 0 b (DW a b))) (DW a b) 8=AI b:=by
  have hl:(J5 (AI a) (AI (BI 0 b (DW a b))) (DW a b) 8).length=8:=by rw[Iu (by rw[BF];omega),BF]
  refine List.ext_getElem (by rw[hl,BF]) fun i h1 h2=>?_;have hi:i<8:=by rw[hl]at h1;exact h1
  have g1:=TQ (xs:=AI a) (ys:=AI (BI 0 b (DW a b))) (m:=DW a b) (BF a) hi;rw[Qu 0 b,TQ (BF 0) hi,DZ b hi,DZ a hi,rD a b hi]at g1;have g2:=DZ b hi;have k1:∀(l:List Int)(h:i<l.length),l.getD i 0=l[i]:=fun l h=>by simp[h]
  rw[k1 _ (by rw[Iu (by rw[BF];omega),BF];exact hi)]at g1;rw[k1 _ h2]at g2;rw[g2];have g3:(J5 (AI a) (AI (BI 0 b (DW a b))) (DW a b) 8)[i]=if decide (BP a i≠BP b i)=true then (if decide (BP a i≠BP b i)=true then BP b i else BP 0 i)else BP a i:=by
   rw[<-DZ 0 hi,<-g1];congr 1;rw[Qu 0 b]
  refine g3.trans ?_;by_cases c:BP a i=BP b i
  ·simp[c]
  ·simp[c]
 have:BI a (BI 0 b (DW a b)) (DW a b)=XI (AI b):=by
  unfold BI at e ⊢;rw[e]
 rw[this,VA hb]
theorem bg(a b:Int):∀k,FY a b k=FY b a k
 |0=>rfl
 |k+1=>by
  unfold FY;rw[bg a b k];by_cases c:BP a k=BP b k
  ·simp[c]
  ·simp[c,Ne.symm c]
theorem rr(a b:Int):DW a b=DW b a:=by unfold DW;rw[bg]
theorem yH{a b:List Int}{p:Nat}{ws:List WE}(h:Pe a b (p+1) ws)(e:a.getD p 0=b.getD p 0):Pe a b p ws:=by
 cases h with
 |nil _ h=>
  refine .nil p fun i hi=>?_;by_cases hp:i=p
  ·subst hp;exact e
  ·exact h i oF
 |cons _ i m o n ws hp h hi hm ho hn h1 h2 g=>
  refine .cons p i m o n ws oF (fun j h3 h4=>?_) hi hm ho hn h1 h2 g;by_cases hp:j=p
  ·subst hp;exact e
  ·exact h j oF h4
theorem xQ{R:E->T->T->Prop}{a b:List T}{p:Nat}{ks:List KE}(h:Z4 R a b (p+1) ks)(e:Ag (a.getD p T0)=Ag (b.getD p T0)):Z4 R a b p ks:=by
 cases h with
 |nil _ h=>
  refine .nil p fun i hi=>?_;by_cases hp:i=p
  ·subst hp;exact e
  ·exact h i oF
 |cons _ i x ks hp h hi he hr g=>
  refine .cons p i x ks oF (fun j h3 h4=>?_) hi he hr g;by_cases hp:j=p
  ·subst hp;exact e
  ·exact h j oF h4
theorem IZ{l:List Int}(h:∀x,x∈l->Ba x)(i:Nat):Ba (l.getD i 0):=by
 rw[List.getD_eq_getElem?_getD];cases e:l[i]? with
 |none=>exact⟨iS,iS⟩
 |some z=>exact h z (List.mem_of_getElem? e)
theorem qJ{a b:T}(ha:∀x,x∈a.words->Ba x)(hb:∀x,x∈b.words->Ba x):∀(n p:Nat),p+n=max a.words.length b.words.length->Pe a.words b.words p ((List.range' p n).filterMap fun i=>if DW (a.words.getD i 0) (b.words.getD i 0)=0 then none else some (ZL i (a.words.getD i 0) (b.words.getD i 0)))
 |0,p,h=>by
  refine .nil p fun i hi=>?_;rw[List.getD_eq_getElem?_getD,List.getD_eq_getElem?_getD,List.getElem?_eq_none oF,List.getElem?_eq_none oF]
 |n+1,p,h=>by
  have ih:=qJ ha hb n (p+1) oF;have ua:=IZ ha p;have ub:=IZ hb p;have ui:=Tm (a.words.getD p 0) (b.words.getD p 0);rw[List.range'_succ,List.filterMap_cons];by_cases c:DW (a.words.getD p 0) (b.words.getD p 0)=0
  ·rw[if_pos c];exact yH ih ((vD ua ub).1 c)
  ·rw[if_neg c];exact .cons p p _ _ _ _ (Cq _) (fun j h1 h2=>oF) oF ⟨oF,ui.2⟩ rfl rfl (p9 ub) (by rw[rr];exact p9 ua) ih
theorem oY{f:Nat}{one:T->T->E}{a b:T}(hone:∀i,Ld f (one (a.kids.getD i T0) (b.kids.getD i T0)) (a.kids.getD i T0) (b.kids.getD i T0)):∀(n p:Nat),p+n=max a.kids.length b.kids.length->Z4 (Ld f) a.kids b.kids p ((List.range' p n).filterMap fun i=>if (one (a.kids.getD i T0) (b.kids.getD i T0)).kind=0 then none else some (.mk i (one (a.kids.getD i T0) (b.kids.getD i T0))))
 |0,p,h=>by
  refine .nil p fun i hi=>?_;rw[List.getD_eq_getElem?_getD,List.getD_eq_getElem?_getD,List.getElem?_eq_none oF,List.getElem?_eq_none oF]
 |n+1,p,h=>by
  have ih:=oY hone n (p+1) oF;rw[List.range'_succ,List.filterMap_cons];by_cases c:(one (a.kids.getD p T0) (b.kids.getD p T0)).kind=0
  ·rw[if_pos c];exact xQ ih (xh (hone p) c).2
  ·rw[if_neg c];exact .cons p p _ _ (Cq _) (fun j h1 h2=>oF) oF c (hone p) ih
def NW:Nat->T->Prop
 |0,_=>True
 |f+1,t=>(2<=t.kind->t.kind<=9->t.words=[])/\∀k,k∈t.kids->NW f k
theorem AhU:∀f,NW f T0
 |0=>trivial
 |f+1=>⟨fun _ _=>rfl,fun k hk=>by simp at hk⟩
theorem qB{f:Nat}{t:T}(h:NW (f+1) t)(i:Nat):NW f (t.kids.getD i T0):=by
 rw[List.getD_eq_getElem?_getD];cases e:t.kids[i]? with
 |none=>exact AhU f
 |some z=>exact h.2 z (List.mem_of_getElem? e)
theorem PR:∀(f d:Nat)(t:T),AW d t=true->NW f t
 |0,d,t,_=>trivial
 |f+1,d,t,h=>by
  obtain⟨k,w,l⟩:=t;refine⟨fun h2 h9=>?_,fun x hx=>PR f (d-1) x (HV h x hx).1⟩;have h2:2<=k:=h2;have h9:k<=9:=h9;rw[Ds,if_neg oF,if_neg oF]at h;split at h
  ·cases h
  ·rename_i hb;unfold Fg at hb;simp at hb;exact hb.2 oF
theorem ZJ(most:Int):∀(f g:Nat)(a b:T),XB f a->XB g b->NW f a->NW f b->Ld f (Hu most f a b) a b
 |0,g,a,b,ha,hb,na,nb=>by
  rw[Hu];split
  ·rename_i h;exact .inl ⟨rfl,eqT_iff.1 h⟩
  ·exact .inr ⟨a,b,rfl,rfl,rfl⟩
 |f+1,g,a,b,ha,hb,na,nb=>by
  obtain⟨a1,a2,a3,a4⟩:=A4 ha;obtain⟨b1,b2,b3,b4⟩:=A4 hb;rw[Hu];split
  ·rename_i h;exact .inl (.inl ⟨rfl,eqT_iff.1 h⟩)
  ·split
   ·rename_i h;refine .inr (.inl ⟨_,_,rfl,h.1,h.2,?_,?_⟩)
    ·have:=qJ (a:=a) (b:=b) (wfT_iff.1 a1).w (wfT_iff.1 b1).w (max a.words.length b.words.length) 0 oF;rw[<-List.range_eq_range']at this;exact this
    ·have:=oY (a:=a) (b:=b) (fun i=>ZJ most f (g-1) _ _ (I4 ha i) (I4 hb i) (qB na i) (qB nb i)) (max a.kids.length b.kids.length) 0 oF;rw[<-List.range_eq_range']at this;exact this
   ·split
    ·rename_i h;rw[Ue];exact .inr (.inr ⟨_,rfl,h.1.symm,h.2,⟨na.1 h.2.1 h.2.2,nb.1 oF oF⟩,o8 fun x hx y hy=>ZJ most f (g-1) x y (Bu ha x hx) (Bu hb y hy) (na.2 x hx) (nb.2 y hy)⟩)
    ·exact .inl (.inr ⟨a,b,rfl,rfl,rfl⟩)
theorem AaU{f:Nat}{e:E}{x y:T}{l:Int}(h:Ld f e x y)(hi:Gc l e=true):Ag x=Ag y:=by
 have base:ur e x y->Ag x=Ag y:=fun h=>by
  rcases h with h|⟨o,n,rfl,_⟩
  ·exact h.2
  ·unfold Gc at hi;simp at hi
 cases f with
 |zero=>exact base h
 |succ f=>
  rcases h with h|⟨ws,ks,rfl,h1,h2,h3,h4⟩|⟨os,rfl,_⟩
  ·exact base h
  ·unfold Gc at hi;simp at hi;obtain⟨⟨_,rfl⟩,rfl⟩:=hi;cases h3 with
   |nil _ g3=>
    cases h4 with
    |nil _ g4=>
     obtain⟨k,w,c⟩:=x;obtain⟨k',w',c'⟩:=y;simp only[T.kind_mk]at h1 h2;subst h1;subst h2;exact struct_eq.2 ⟨fun i=>g3 i oF,fun i=>g4 i oF⟩
  ·unfold Gc at hi;simp at hi
section
variable {R:E->T->T->Prop}
theorem eI{out:List OP}{a b a2 b2 g d:List T}(h:LdO R out a b)(hg:g.map Ag=a2.map Ag)(hd:d.map Ag=b2.map Ag):LdO R (MU out g d) (a++a2) (b++b2):=by
 unfold MU;have:=IC h (IC (UR (R:=R) hg) (U5 hd));simpa using this
theorem wz{out:List OP}{a b l m:List T}(h:LdO R out a b)(hne:l≠[])(hl:l.map Ag=m.map Ag)(hb:a.length+l.length<=1000000000):LdO R (Q6 out (l.length:Nat)) (a++l) (b++m):=by
 rcases List.eq_nil_or_concat out with rfl|⟨D,x,rfl⟩
 ·cases h;have:=LdO.keep (R:=R) l m hne hl .nil;rw[We iS];simpa using this
 ·rw[List.concat_eq_append]at h ⊢;have app:(∀m l e,x≠.mk 0 m l e)->LdO R (Q6 (D++[x]) (l.length:Nat)) (a++l) (b++m):=fun hx=>by
   rw[We (by simpa using hx)];have:=IC h (LdO.keep (R:=R) l m hne hl .nil);simpa using this
  obtain⟨a1,a2,b1,b2,rfl,rfl,h1,h2⟩:=Nu h;cases h2 with
  |keep l1 m1 hne1 hl1 g=>
   cases g;have e:Q6 (D++[OP.mk 0 ((l1.length:Nat):Int) [] E0]) (l.length:Nat)=D++[.mk 0 (((l1++l).length:Nat):Int) [] E0]:=by
    unfold Q6;rw[List.getLast?_concat];simp only[List.dropLast_concat];have:i64.wrap (((l1.length:Nat):Int)+(l.length:Nat))=(((l1++l).length:Nat):Int):=by
     simp only[List.length_append]at hb ⊢;rw[AJ oF oF];omega
    rw[this]
   rw[e];have:=IC h1 (LdO.keep (R:=R) (l1++l) (m1++m) (by simp[hne1]) (by simp[hl1,hl]) .nil);simpa using this
  |del l1 m1 hne1 hl1 g=>exact app iS
  |ins l1 m1 hne1 hl1 g=>exact app iS
  |desc e x y r g=>exact app iS
end
theorem Acb{f:Nat}{list:Int}{P:T->Prop}(hR:∀e x y,P x->Ld f e x y->Ld f (Iy e) x y){os:List OP}{a3 b3:List T}(h:LdO (Ld f) os a3 b3):(∀t,t∈a3->P t)->∀(out:List OP)(g d a1 b1 a2 b2:List T),LdO (Ld f) out a1 b1->g.map Ag=a2.map Ag->d.map Ag=b2.map Ag->a1.length+a2.length+a3.length<=1000000000->LdO (Ld f) (DG list (os.map Kh) out g d) (a1++(a2++a3)) (b1++(b2++b3)):=by
 induction h with
 |nil=>
  intro hP out g d a1 b1 a2 b2 h1 hg hd hb;rw[List.map_nil,DG];simpa using eI h1 hg hd
 |keep l m hne hl _ ih=>
  intro hP out g d a1 b1 a2 b2 h1 hg hd hb;rw[List.length_append]at hb;rw[List.map_cons,DG,if_pos (show(Kh (.mk 0 ((l.length:Nat):Int) [] E0)).kind=0 from rfl)];have:=ih (fun t ht=>hP t (List.mem_append_right _ ht)) (Q6 (MU out g d) ((l.length:Nat):Int)) [] [] _ _ [] [] (wz (eI h1 hg hd) hne hl (by rw[List.length_append];omega)) rfl rfl (by simp only[List.length_append,List.length_nil];omega);simp at this ⊢;exact this
 |del l m hne hl _ ih=>
  intro hP out g d a1 b1 a2 b2 h1 hg hd hb;rw[List.length_append]at hb;rw[List.map_cons,DG,if_neg (show ¬(Kh (.mk 1 0 l E0)).kind=0 by show ¬(1:Int)=0;decide),if_pos (show(Kh (.mk 1 0 l E0)).kind=1 from rfl)];have:=ih (fun t ht=>hP t (List.mem_append_right _ ht)) out (g++l.map Ag) d a1 b1 (a2++m) b2 h1 (by rw[List.map_append,List.map_append,KX,hg,hl]) hd (by rw[List.length_append];omega);simp at this ⊢;exact this
 |ins l m hne hl _ ih=>
  intro hP out g d a1 b1 a2 b2 h1 hg hd hb;rw[List.map_cons,DG,if_neg (show ¬(Kh (.mk 2 0 l E0)).kind=0 by show ¬(2:Int)=0;decide),if_neg (show ¬(Kh (.mk 2 0 l E0)).kind=1 by show ¬(2:Int)=1;decide),if_pos (show(Kh (.mk 2 0 l E0)).kind=2 from rfl)];have:=ih hP out g (d++l.map Ag) a1 b1 a2 (b2++m) h1 hg (by rw[List.map_append,List.map_append,KX,hd,hl]) oF;simp at this ⊢;exact this
 |desc e x y r _ ih=>
  intro hP out g d a1 b1 a2 b2 h1 hg hd hb;rw[List.length_cons]at hb;rw[List.map_cons,DG,if_neg (show ¬(Kh (.mk 3 0 [] e)).kind=0 by show ¬(3:Int)=0;decide),if_neg (show ¬(Kh (.mk 3 0 [] e)).kind=1 by show ¬(3:Int)=1;decide),if_neg (show ¬(Kh (.mk 3 0 [] e)).kind=2 by show ¬(3:Int)=2;decide)];have r':=hR e x y (hP x iS) r;split
  ·rename_i hi;have hn:=AaU r' (show Gc list (Iy e)=true from hi);have:=ih (fun t ht=>hP t (List.mem_cons_of_mem _ ht)) (Q6 (MU out g d) (([x]:List T).length:Nat)) [] [] _ _ [] [] (wz (l:=[x]) (m:=[y]) (eI h1 hg hd) iS (by simp[hn]) (by rw[List.length_append];simp;omega)) rfl rfl (by simp only[List.length_append,List.length_nil,List.length_cons];omega);simp at this ⊢;exact this
  ·have:=ih (fun t ht=>hP t (List.mem_cons_of_mem _ ht)) (MU out g d++[.mk 3 0 [] (Iy e)]) [] [] _ _ [] [] (IC (eI h1 hg hd) (.desc (Iy e) x y r' .nil)) rfl rfl (by simp only[List.length_append,List.length_nil,List.length_cons];omega);simp at this ⊢;exact this
def az:Nat->T->Prop
 |0,_=>True
 |f+1,t=>t.kids.length<=1000000/\∀k,k∈t.kids->az f k
theorem AaJ:∀f,az f T0
 |0=>trivial
 |f+1=>⟨iS,fun k hk=>by simp at hk⟩
theorem AaY{f:Nat}{t:T}(h:az (f+1) t)(i:Nat):az f (t.kids.getD i T0):=by
 rw[List.getD_eq_getElem?_getD];cases e:t.kids[i]? with
 |none=>exact AaJ f
 |some z=>exact h.2 z (List.mem_of_getElem? e)
theorem iV{f:Nat}{e:E}{a b:T}(h:Ld f e a b):(Iy e).kind=e.kind:=by
 have base:ur e a b->(Iy e).kind=e.kind:=fun h=>by
  rcases h with ⟨rfl,_⟩|⟨o,n,rfl,_⟩
  ·rw[ZN]
  ·rw[FI,if_pos rfl];rfl
 cases f with
 |zero=>exact base h
 |succ f=>
  rcases h with h|⟨ws,ks,rfl,_⟩|⟨os,rfl,_⟩
  ·exact base h
  ·rw[FI,if_neg dO,if_pos rfl];rfl
  ·rw[FI,if_neg dO,if_neg dO,if_pos rfl];rfl
theorem Aa3{R R':E->T->T->Prop}{a b:List T}(hR:∀e i,R e (a.getD i T0) (b.getD i T0)->R' (Iy e) (a.getD i T0) (b.getD i T0)/\(Iy e).kind=e.kind):∀{ks:List KE} {p:Nat},Z4 R a b p ks->Z4 R' a b p (ks.map Xr):=by
 intro ks p h;induction h with
 |nil p h=>exact .nil p h
 |cons p i e ks hp h hi he hr _ ih=>
  have:=hR e i hr;exact .cons p i (Iy e) _ hp h hi (by rw[this.2];exact he) this.1 ih
theorem ow:∀(f:Nat)(e:E)(a b:T),az f a->Ld f e a b->Ld f (Iy e) a b:=by
 have base:∀{e a b},ur e a b->ur (Iy e) a b:=fun {e a b} h=>by
  rcases h with ⟨rfl,h⟩|⟨o,n,rfl,h1,h2⟩
  ·rw[ZN];exact .inl ⟨rfl,h⟩
  ·rw[FI,if_pos rfl];exact .inr ⟨Ag o,Ag n,rfl,by rw[Dt];exact h1,by rw[Dt];exact h2⟩
 intro f;induction f with
 |zero=>exact fun e a b _ h=>base h
 |succ f ih=>
  intro e a b hF h;rcases h with h|⟨ws,ks,rfl,h1,h2,h3,h4⟩|⟨os,rfl,h1,h2,hw,h3⟩
  ·exact .inl (base h)
  ·rw[FI,if_neg dO,if_pos rfl];exact .inr (.inl ⟨ws,ks.map Xr,rfl,h1,h2,h3,Aa3 (fun e i r=>⟨ih e _ _ (AaY hF i) r,iV r⟩) h4⟩)
  ·rw[FI,if_neg dO,if_neg dO,if_pos rfl];refine .inr (.inr ⟨_,rfl,h1,h2,hw,?_⟩);have:=Acb (list:=a.kind) (P:=az f) (fun e x y hx r=>ih e x y hx r) h3 hF.2 [] [] [] [] [] [] [] .nil rfl rfl (by have:=hF.1;simp;omega);simpa using this
theorem Ab6{a b:T}(ha:Ay a)(hb:Ay b)(pa:Bn a<=1000)(pb:Bn b<=1000){da db:Nat}(ra:AW da a=true)(rb:AW db b=true){most:Int}:Ld 1000 (ZA most a b) (Ag a) (Ag b):=by
 have oa:=EJ a ha pa 1000 pa;have ob:=EJ b hb pb 1000 pb;refine ow 1000 _ _ _ ?_ (ZJ most 1000 1000 _ _ oa ob (PR 1000 da _ (JF a da ra)) (PR 1000 db _ (JF b db rb)));have key:∀(f g:Nat)(t:T),XB g t->az f t:=fun f=>by
  induction f with
  |zero=>exact fun g t _=>trivial
  |succ f ih=>exact fun g t h=>⟨by have:=(A4 h).2.2.2;omega,fun k hk=>ih (g-1) k (Bu h k hk)⟩
 exact key 1000 1000 _ oa
end Go.Proofs.YtlaapfplenlfaaaGreat
namespace Go.Proofs.YtlaapfplenlfaaaGreat
set_option maxRecDepth 20000
open Go Go.G Go.Proofs
def B7:CC:=Bh (cG Tryz.f124 1 [[0],[4],[0,2,4],[995],[999,0,2],[0,2,3000]])
theorem CF:Bs Tryz.prog 124 8 [(.tmp 2)] B7:=Aq Tryz.func124
def An:CC:=Bh (cG Tryz.f126 75 [[1,2,15,16,17,18],[995],[999,18],[7,8,4000],[7,9,5001],[8,9,30],[1,2,6,15,16,17,30],[995],[999,1,2,6,15,16,17],[]])
def A8:CC:=CV (cG Tryz.f126 1 [[0,1,2],[14],[0,1,2,6,14],[995],[999,0,1,2,6],[0,15,16,17],[996],[999,1,2,15,16,17],[6]]) An
theorem BR:Bs Tryz.prog 126 32 [(.tmp 6)] A8:=Aq Tryz.func126
def JX:CC:=Bh (cG Tryz.f45 1 [[2,3,4,1000,2001,3002],[7],[8],[2,3,5,7,8],[2,3,5,7,11],[2,3,5,7,11],[2,3,5,7,19],[2,3,5,7,19],[2,3,5,26],[2,3,5,26],[995],[999,5],[5]])
theorem Mc:Bs Tryz.prog 45 34 [(.cell 4 25),(.tmp 5)] JX:=Aq Tryz.func45
def FM:CC:=Bh (cG Tryz.f76 145815 [[2,3,4,6,8,9,26,27,28,49],[995],[999,49],[4005]])
def Fx:CC:=CV (cG Tryz.f76 151 [[2,3,4,6,26,27,28,29],[995],[999,29],[8,3004],[9],[42],[2,3,5,6,8,9,26,27,28,42],[995],[999,2,3,5,6,8,9,26,27,28],[996],[999],[8,9],[999],[]]) FM
def FG:CC:=Bh (cG Tryz.f76 291631 [[3,4,6,11,12,68,69,70,92],[995],[999,92],[5008]])
def Fz:CC:=CV (cG Tryz.f76 303 [[3,4,6,68,69,70,71],[995],[999,71],[11,3006],[12,13,11007],[13,85],[3,5,6,11,12,68,69,70,85],[995],[999,3,5,6,11,12,68,69,70],[996],[999],[11,12],[999],[]]) FG
def Mv:CC:=gR (cG Tryz.f76 1 [[2,3,4,1000,2001,3002],[16],[2,3,5,16],[995],[999,2,3,5],[6,8003],[26,27,28],[996],[999,26,27,28],[2,68,69,70],[996],[999,3,68,69,70],[5,6]]) Fx Fz
theorem UB:Bs Tryz.prog 76 107 [(.cell 4 25),(.tmp 5)] Mv:=Aq Tryz.func76
def JS:CC:=Bh (cG Tryz.f77 62255 [[4,6,7,9,10,26,27,28,54],[5,6,7,9,10,26,27,28,54],[995],[999,5,6,7,9,10,26,27,28],[],[10,11],[80],[9,11,80,4006],[9,11,89],[9,11,89,97],[5,6,7,26,27,28,97],[5,6,7,12,13,26,27,28,10007],[13,72],[5,6,7,12,26,27,28,72],[995],[999,5,6,7,12,26,27,28],[12,5008]])
def JO:CC:=CV (cG Tryz.f77 303 [[4,6,7,26,27,28,29],[995],[999,29],[9,3004],[10],[35],[36],[9,10,35,36,5005],[9,10,35,44],[35,44],[49],[49],[999],[994],[999,9,10],[]]) JS
def T9:CC:=CV (cG Tryz.f77 1 [[2,3,4,1000,2001,3002],[18],[2,3,5,18],[995],[999,2,3,5],[6,4003],[3,7],[2,26,27,28],[996],[999,26,27,28],[5,6,7]]) JO
theorem dC:Bs Tryz.prog 77 104 [(.cell 4 25),(.tmp 5)] T9:=Aq Tryz.func77
def UE:CC:=Bh (cG Tryz.f25 1 [[2,3,4,1000,2001,3002],[2,3,6,7,7003],[7,15],[5,6,15],[995],[999,5,6],[5,6]])
theorem gI:Bs Tryz.prog 25 19 [(.cell 4 25),(.tmp 5)] UE:=Aq Tryz.func25
end Go.Proofs.YtlaapfplenlfaaaGreat
namespace Go.Proofs.YtlaapfplenlfaaaGreat
open Go Go.G Go.Proofs Go.PL
theorem zG{l:List Int}:∀x,x∈l.map uv->F5 (fun _=>x):=fun x hx=>by
 obtain⟨n,_,rfl⟩:=List.mem_map.1 hx;exact AH
abbrev uvM(u:Nat)(l:List Int):Fam:=sc u 1 (l.map uv) zG
variable {n0:Nat} {w0:World} {I0:Nat->Prop} {M0:Nm->Nat->Prop} {m0:Mu} {Q:Exit->Sta->Prop}
end Go.Proofs.YtlaapfplenlfaaaGreat
namespace Go.G
open Go
theorem bZ{P:Program}{f:FuncId}{k:Nat}{fl:Bool}{r:A}{Hc Hr:Hp}(h1:∀cap,SpecH P f k [.v (.slice none 0 cap)] Hc r Hr)(h2:∀a cap,SpecH P f k [.v (.slice (some a) 0 cap)] Hc r Hr):SpecH P f k [.sl fl []] Hc r Hr:=by
 refine⟨(h1 0).1,fun w I M0 n μ vs hM hs hl hr=>?_⟩;have h:=hr 0 _ rfl;have go:∀x,vs.getD 0 undef=x->∀(k:Nat)(y:A),[A.v x][k]? = some y->Rel w I μ y (vs.getD k undef):=fun x hx k y hk=>by
  cases k with
  |zero=>cases hk;rw[hx];exact .v _ _
  |succ k=>simp at hk
 generalize hq:vs.getD 0 undef=x at h;cases h with
 |slN _ _ a cap _=>
  cases a with
  |none=>exact(h1 cap).2 w I M0 n μ vs hM hs hl (go _ hq)
  |some a=>exact(h2 a cap).2 w I M0 n μ vs hM hs hl (go _ hq)
 |sl _ _ b off n0 cap sz _ g k1 k2=>
  have:n0=0:=k2;subst this;exact(h2 _ cap).2 w I M0 n μ vs hM hs hl (go _ hq)
end Go.G
namespace Go.Proofs.YtlaapfplenlfaaaGreat
open Go Go.G Go.Proofs Go.PL
theorem Wq(l:List Int)(h:l.length*8<=140737488355328):SpecF Tryz.prog 59 (fun _=>[C7 l]) Fam.no (fun r=>.osl [r] 1 1 0 l.length) (uvM 1 l):=by
 cases l with
 |nil=>
  refine⟨Af Bp Ak,BH,bZ (fun cap=>?_) (fun a cap=>?_)⟩
  ·refine @SpecF.h _ _ (fun _=>[.v (.slice none 0 cap)]) Fam.no (fun r=>.osl [r] 1 1 0 0) (uvM 1 []) (Az Bt iS (Af AH Ak) BH fun w0 I0 M0 m0=>?_);rw[Ao A9.eq_1];simp;refine KK (BC 2 [0] 1 iS) (Av (r0:=.osl [0] 1 1 0 0) (by simp[upd]) rfl fun p=>?_);by_cases hp:p=[]
   ·subst hp;simp[Aa]
   ·simp[Aa,hp]
  ·refine @SpecF.h _ _ (fun _=>[.v (.slice (some a) 0 cap)]) Fam.no (fun r=>.osl [r] 1 1 0 0) (uvM 1 []) (Az Bt iS (Af AH Ak) BH fun w0 I0 M0 m0=>?_);rw[Ao A9.eq_1];simp;refine Av rfl rfl fun p=>?_;by_cases hp:p=[]
   ·subst hp;simp[Aa]
   ·simp[Aa,hp,Ne.symm hp]
 |cons x l=>
  refine Az Bt iS (Af Bp Ak) BH fun w0 I0 M0 m0=>?_;rw[Ao A9.eq_1];rw[List.length_cons]at h;simp[h,C7];refine Av rfl rfl fun p=>?_;by_cases hp:p=[]
  ·subst hp;simp[Aa]
  ·simp[Aa,hp,Ne.symm hp]
theorem ib(l:List T)(h:l.length*56<=140737488355328):SpecF Tryz.prog 124 (fun _=>[AV l]) Fam.no (fun r=>.osl [r] 1 3 0 l.length) (trM 1 l):=by
 cases l with
 |nil=>
  refine⟨Af Bp Ak,BH,bZ (fun cap=>?_) (fun a cap=>?_)⟩
  ·refine @SpecF.h _ _ (fun _=>[.v (.slice none 0 cap)]) Fam.no (fun r=>.osl [r] 1 3 0 0) (trM 1 []) (Az CF iS (Af AH Ak) BH fun w0 I0 M0 m0=>?_);rw[Ao B7.eq_1];simp;refine KK (BC 2 [0] 3 iS) (Av (r0:=.osl [0] 1 3 0 0) (by simp[upd]) rfl fun p=>?_);by_cases hp:p=[]
   ·subst hp;simp[Aa]
   ·simp[Aa,hp]
  ·refine @SpecF.h _ _ (fun _=>[.v (.slice (some a) 0 cap)]) Fam.no (fun r=>.osl [r] 1 3 0 0) (trM 1 []) (Az CF iS (Af AH Ak) BH fun w0 I0 M0 m0=>?_);rw[Ao B7.eq_1];simp;refine Av rfl rfl fun p=>?_;by_cases hp:p=[]
   ·subst hp;simp[Aa]
   ·simp[Aa,hp,Ne.symm hp]
 |cons x l=>
  refine Az CF iS (Af Bp Ak) BH fun w0 I0 M0 m0=>?_;rw[Ao B7.eq_1];rw[List.length_cons]at h;simp[h,AV];refine Av rfl rfl fun p=>?_;by_cases hp:p=[]
  ·subst hp;simp[Aa]
  ·simp[Aa,hp,Ne.symm hp]
variable {n0:Nat} {w0:World} {I0:Nat->Prop} {Q:Exit->Sta->Prop}
theorem Aeh{l m:List T}(hl:∀t,t∈l->Ay t)(hm:∀t,t∈m->Ay t)(h:l.map Ag=m.map Ag)(hb:l.length<=10000000000000)(hq:∀st H,Q (.exit 0) ⟨lk ([(1,AV m),(2,.fnc 57 [] [])]++st),H⟩):∀(j i:Nat)(H:Hp),i+j=l.length ->
  LoopC (cx Tryz.prog w0 I0 n0) An Q ⟨lk [(1,AV m),(2,.fnc 57 [] []),(15,AV l),(16,iv l.length),(17,iv i)],H⟩:=by
 have hlen:l.length=m.length:=by simpa using congrArg List.length h
 intro j;induction j with
 |zero=>
  intro i H hj;have:i=l.length:=oF
  subst this;refine Ab Ah (Ao An.eq_1) ?_;simp;have:=hq [(15,AV l),(16,iv l.length),(17,iv l.length),(18,bv false)] H;simpa using this
 |succ j ih=>
  intro i H hj;have h1:i<l.length:=oF
  have h2:i<m.length:=oF
  have ew:=Ap i;have he:JE l[i] m[i]=true:=by
   rw[eqT_iff];have:(l.map Ag)[i]? = (m.map Ag)[i]?:=by rw[h]
   simpa[h1,h2]using this
  have E:=Lr (hl _ (Bv h1)) (hm _ (Bv h2));rw[he]at E;refine Ab Ah (Ao An.eq_1) ?_;simp[h1,h2,Aa];refine P0 rfl E iS ?_;simp[ew];exact ih (i+1) _ oF
theorem xC{l m:List T}(hl:∀t,t∈l->Ay t)(hm:∀t,t∈m->Ay t)(h:l.map Ag=m.map Ag)(hb:l.length<=10000000000000):G.Spec Tryz.prog 126 [AV l,AV m,.fnc 57 [] []] (bv true):=by
 have hlen:l.length=m.length:=by simpa using congrArg List.length h
 refine Aj BR iS fun w0 I0=>?_;rw[BG A8.eq_1];simp[hlen];refine LoopC.le (Al [(1,AV m),(2,.fnc 57 [] []),(15,AV l),(16,iv l.length),(17,iv (0:Nat))] (by simp[hlen])) ?_;refine Aeh hl hm h hb (fun st H=>?_) l.length 0 _ oF;simp;exact Ad rfl
inductive sd(P:E->T->T->Prop):List OP->List T->List T->Prop
 |nil:sd P [] [] []
 |keep {os:List OP} {a u:List T} (l:List T) (g:sd P os a u):sd P (.mk 0 (l.length:Nat) [] E0::os) (l++a) (l++u)
 |del {os:List OP} {a u:List T} (l m:List T) (h:l.map Ag=m.map Ag) (g:sd P os a u):sd P (.mk 1 0 l E0::os) (m++a) u
 |ins {os:List OP} {a u:List T} (l:List T) (g:sd P os a u):sd P (.mk 2 0 l E0::os) a (l++u)
 |desc {os:List OP} {a u:List T} (e:E) (x y:T) (h:P e x y) (g:sd P os a u):sd P (.mk 3 0 [] e::os) (x::a) (y::u)
theorem AdD{R P:E->T->T->Prop}{os:List OP}{a b:List T}(h:LdO R os a b):(∀o,o∈os->o.kind=3->∀x,x∈a->∀y,y∈b->R o.e x y->∃u,P o.e x u/\Ag u=Ag y)->∃u,sd P os a u/\u.map Ag=b.map Ag:=by
 induction h with
 |nil=>exact fun _=>⟨[],.nil,rfl⟩
 |keep l m hne hl _ ih=>
  intro hP;obtain⟨u,h1,h2⟩:=ih fun o ho hk x hx y hy=>hP o (List.mem_cons_of_mem _ ho) hk x (List.mem_append_right _ hx) y (List.mem_append_right _ hy);exact⟨l++u,.keep l h1,by rw[List.map_append,List.map_append,hl,h2]⟩
 |del l m hne hl _ ih=>
  intro hP;obtain⟨u,h1,h2⟩:=ih fun o ho hk x hx y hy=>hP o (List.mem_cons_of_mem _ ho) hk x (List.mem_append_right _ hx) y hy;exact⟨u,.del l m hl h1,h2⟩
 |ins l m hne hl _ ih=>
  intro hP;obtain⟨u,h1,h2⟩:=ih fun o ho hk x hx y hy=>hP o (List.mem_cons_of_mem _ ho) hk x hx y (List.mem_append_right _ hy);exact⟨l++u,.ins l h1,by rw[List.map_append,List.map_append,hl,h2]⟩
 |desc e x y r _ ih=>
  intro hP;obtain⟨u,h1,h2⟩:=ih fun o ho hk x hx y hy=>hP o (List.mem_cons_of_mem _ ho) hk x (List.mem_cons_of_mem _ hx) y (List.mem_cons_of_mem _ hy);obtain⟨v,k1,k2⟩:=hP (.mk 3 0 [] e) iS rfl x iS y iS r;exact⟨v::u,.desc e x v k1 h1,by rw[List.map_cons,List.map_cons,k2,h2]⟩
abbrev ZF(e:E)(x u:T):Prop:=Ay u/\G.Spec Tryz.prog 45 [eX e,tX x] (.tup [tX u,bv true])
theorem Ade{os:List OP}{a u:List T}(h:sd ZF os a u):(∀t,t∈a->Ay t)->(∀o,o∈os->∀t,t∈o.l->Ay t)->∀t,t∈u->Ay t:=by
 induction h with
 |nil=>intro _ _ t ht;simp at ht
 |keep l _ ih=>
  intro ha ho t ht;rcases List.mem_append.1 ht with ht|ht
  ·exact ha t (List.mem_append_left _ ht)
  ·exact ih (fun t ht=>ha t (List.mem_append_right _ ht)) (fun o h=>ho o (List.mem_cons_of_mem _ h)) t ht
 |del l m _ _ ih=>
  intro ha ho t ht;exact ih (fun t ht=>ha t (List.mem_append_right _ ht)) (fun o h=>ho o (List.mem_cons_of_mem _ h)) t ht
 |ins l _ ih=>
  intro ha ho t ht;rcases List.mem_append.1 ht with ht|ht
  ·exact ho (.mk 2 0 l E0) iS t ht
  ·exact ih ha (fun o h=>ho o (List.mem_cons_of_mem _ h)) t ht
 |desc e x y r _ ih=>
  intro ha ho t ht;rcases List.mem_cons.1 ht with rfl|ht
  ·exact r.1
  ·exact ih (fun t ht=>ha t (List.mem_cons_of_mem _ ht)) (fun o h=>ho o (List.mem_cons_of_mem _ h)) t ht
theorem AgY{k0:Int}{os:List OP}{R:List T}(hR:R.length<=1000000)(hol:os.length<=1000000000000)(how:∀o,o∈os->∀t,t∈o.l->Ay t)(hos:∀o,o∈os->o.l.length<=10000000000000)
  (hq:∀(H':Hp)(v:Nat)(st:List (Nat × A)),H' [2]=⟨1,.cells [iv 0,.sl true [],.sl true []]⟩->H' [3]=⟨1,.cells [iv k0,.sl true [],.osl [5] v 3 0 R.length]⟩->H' [5]=⟨v,.arr 3 (R.map tA)⟩->Q (.exit 0) ⟨lk ([(4,.pob [2] 1 0),(6,.pob [3] 1 0),(7,AV [])]++st),H'⟩) :
  ∀(m k v:Nat)(a u X:List T)(H:Hp),k+m=os.length->sd ZF (os.drop k) a u->(∀t,t∈a->Ay t)->a.length<=1000000->R=X++u->H [2]=⟨1,.cells [iv 0,.sl true [],.sl true []]⟩->H [3]=⟨1,.cells [iv k0,.sl true [],.osl [5] v 3 0 X.length]⟩->H [5]=⟨v,.arr 3 (X.map tA)⟩ ->
  LoopC (cx Tryz.prog w0 I0 n0) JO Q ⟨lk [(4,.pob [2] 1 0),(6,.pob [3] 1 0),(7,AV a),(26,HQ os),(27,iv os.length),(28,iv k)],H⟩:=by
 intro m;induction m with
 |zero=>
  intro k v a u X H hm h ha hal hX h2 h3 h5;have:k=os.length:=oF
  subst this;rw[List.drop_length]at h;cases h;rw[List.append_nil]at hX;subst hX;refine Ab Ah (BG JO.eq_1) ?_;simp;have:=hq H v [(26,HQ os),(27,iv os.length),(28,iv os.length),(29,bv false)] h2 h3 h5;simpa using this
 |succ m ih=>
  intro k v a u X H hm h ha hal hX h2 h3 h5;have hlt:k<os.length:=oF
  have ew:=Ap k;have hd:os.drop k=os[k]::os.drop (k+1):=(List.getElem_cons_drop hlt).symm;have hol1:=hos _ (Bv hlt);have how1:=how _ (Bv hlt);rw[hd]at h;have next:=ih (k+1) (v+1)
  generalize hx:os[k]=o at *;refine Ab Ah (BG JO.eq_1) ?_;have eX:List.take X.length (X.map tA)=X.map tA:=Ax iS;cases h with
  |keep l g=>
   rename_i a u;have nx:=next a u (X++l)
   rw[List.length_append]at nx hal;have c1:(l.length:Int)<=(l.length:Int)+a.length:=oF
   have c2:¬((l.length:Int)+a.length<(l.length:Int)):=oF
   have hR2:R.length=X.length+(l.length+u.length):=by rw[hX];simp
   have ea:List.take a.length (a.map tA)=a.map tA:=Ax iS;simp[hlt,hx,Aa,h3,h5];rw[(Ao JS.eq_1)];simp[hlt,hx,Aa,h3,h5,ew,c1,c2,eX,ea];refine⟨oF,?_⟩;exact nx _ oF g (fun t ht=>ha t (List.mem_append_right _ ht)) oF (by rw[hX];simp) (by simp[Aa,h2]) (by simp[Aa]) (by simp[Aa])
  |del l mm hn g=>
   rename_i a;have hlen:l.length=mm.length:=by simpa using congrArg List.length hn
   have nx:=ih (k+1) v a u X;rw[List.length_append]at hal;have c1:(l.length:Int)<=(mm.length:Int)+a.length:=oF
   have c2:¬((mm.length:Int)+a.length<(l.length:Int)):=oF
   have ea:List.take a.length (a.map tA)=a.map tA:=Ax iS;have et:List.take l.length (mm.map tA++a.map tA)=mm.map tA:=by rw[hlen];exact List.take_left' iS
   have ed:List.drop l.length (mm.map tA++a.map tA)=a.map tA:=by rw[hlen];exact List.drop_left' iS
   have eL:mm.length+a.length-l.length=a.length:=oF
   have E:=xC (l:=l) (m:=mm) (fun t ht=>how1 t ht) (fun t ht=>ha t (List.mem_append_left _ ht)) hn (by have:=hol1;show l.length<=_;have h':l.length<=10000000000000:=hol1;omega);simp[hlt,hx,Aa,h3,h5];rw[(Ao JS.eq_1)];simp[hlt,hx,Aa,h3,h5,ew,c1,c2,eX,ea,et,ed,eL];refine Ae E iS ?_;simp[ew];exact nx _ oF g (fun t ht=>ha t (List.mem_append_right _ ht)) oF hX (by simp[Aa,h2]) (by simp[Aa,h3]) (by simp[Aa,h5])
  |ins l g=>
   rename_i u;have nx:=next a u (X++l)
   rw[List.length_append]at nx;have hR2:R.length=X.length+(l.length+u.length):=by rw[hX];simp
   simp[hlt,hx,Aa,h3,h5,ew,eX];refine⟨oF,?_⟩;simp[BA,ew];exact nx _ oF g ha oF (by rw[hX];simp) (by simp[Aa,h2]) (by simp[Aa]) (by simp[Aa])
  |desc e x y r g=>
   rename_i a u;have nx:=next a u (X++[y])
   rw[List.length_append,List.length_singleton]at nx;rw[List.length_cons]at hal;have hR2:R.length=X.length+(1+u.length):=by rw[hX];simp;omega
   have c1:(1:Int)<=(a.length:Int)+1:=oF
   have c2:¬((a.length:Int)+1<1):=oF
   have ea:List.take a.length (a.map tA)=a.map tA:=Ax iS;simp[hlt,hx,Aa,h3,h5];rw[(Ao JS.eq_1)];simp[hlt,hx,Aa,h3,h5,ew,c1,c2,eX,ea];refine Ae r.2 iS ?_;simp[hlt,hx,Aa,h3,h5,ew,c1,c2,eX,ea];refine⟨oF,?_⟩;exact nx _ oF g (fun t ht=>ha t (List.mem_cons_of_mem _ ht)) oF (by rw[hX];simp) (by simp[Aa,h2]) (by simp[Aa]) (by simp[Aa])
theorem ki{l:Int}{os:List OP}{t:T}{u:List T}(hw:Ay t)(hol:os.length<=1000000000000)(how:∀o,o∈os->∀t,t∈o.l->Ay t)(hos:∀o,o∈os->o.l.length<=10000000000000)(hu:u.length<=1000000)(ht:t.kids.length<=1000000)(hk:t.kind=l)(h:sd ZF os t.kids u):G.Spec Tryz.prog 77 [eX (.mk 3 T0 T0 [] [] l os),tX t] (.tup [tX (.mk l [] u),bv true]):=by
 obtain⟨k,w,ks⟩:=t;have hk:k=l:=hk;subst hk;refine Aj dC iS fun w0 I0=>?_;rw[BG T9.eq_1];simp;refine LoopC.le (Bi (d:=[3]) (u:=1) 2 [5] 3 (by simp[Aa];rfl) rfl iS) ?_;refine LoopC.le (Al [(4,.pob [2] 1 0),(6,.pob [3] 1 0),(7,AV ks),(26,HQ os),(27,iv os.length),(28,iv (0:Nat))] iS) ?_;refine AgY (k0:=k) (R:=u) hu hol how hos (fun H' v st h2 h3 h5=>?_) os.length 0 1 ks u [] _ oF (by simpa using h) (fun t ht=>(wfT_iff.1 hw).ks t ht) ht rfl (by simp[Aa]) (by simp[Aa]) (by simp[Aa]);simp[h2,h3];refine AM ⟨Bb ⟨Ad rfl,Ai,?_,trivial⟩,Ad rfl,trivial⟩;have:=AQ (H:=Ar H' [2] ⟨1,.cells [iv k,.sl true [],.osl [5] v 3 0 u.length]⟩) (o:=[5]) (u:=v) (n:=u.length) (sz:=3) (l:=u) (f:=tA) (by simp[Aa,h5]) rfl (fun x=>iS);exact this
def HT(X:List Int)(i:Nat):List Int:=X++List.replicate (i+1-X.length) 0
theorem J1(X:List Int)(i:Nat):(HT X i).length=max X.length (i+1):=by simp[HT];omega
theorem X1{α:Type}(X:List α)(n:Nat)(z:α)(j:Nat):(X++List.replicate n z).getD j z=X.getD j z:=by
 rw[List.getD_eq_getElem?_getD,List.getD_eq_getElem?_getD];by_cases h:j<X.length
 ·rw[List.getElem?_append_left h]
 ·rw[List.getElem?_append_right oF,List.getElem?_eq_none (l:=X) oF];by_cases h2:j-X.length<n
  ·rw[List.getElem?_replicate,if_pos h2];rfl
  ·rw[List.getElem?_replicate,if_neg h2]
theorem Y9{α:Type}(X:List α)(i:Nat)(u z:α)(hi:i<X.length)(j:Nat):(X.set i u).getD j z=if j=i then u else X.getD j z:=by
 rw[List.getD_eq_getElem?_getD,List.getD_eq_getElem?_getD,List.getElem?_set];by_cases h:i=j
 ·subst h;rw[if_pos rfl,if_pos hi,if_pos rfl];rfl
 ·rw[if_neg h,if_neg (Ne.symm h)]
def bD(a:List Int):List WE->List Int->List Int
 |[],X=>X
 |w::ws,X=>bD a ws ((HT X w.at_.toNat).set w.at_.toNat (BI (a.getD w.at_.toNat 0) w.new w.mask))
theorem AeQ{a b:List Int}{p:Nat}{ws:List WE}(h:Pe a b p ws):∀X:List Int,(∀j,j<p->X.getD j 0=b.getD j 0)->(∀j,p<=j->X.getD j 0=a.getD j 0)->(∀j,(bD a ws X).getD j 0=b.getD j 0)/\(bD a ws X).length<=max X.length (max a.length b.length):=by
 induction h with
 |nil p h=>
  intro X h1 h2;refine⟨fun j=>?_,by show X.length<=_;omega⟩;by_cases hj:j<p
  ·exact h1 j hj
  ·rw[show(bD a [] X)=X from rfl,h2 j oF,h j oF]
 |cons p i m o n ws hp h hi hm ho hn g1 g2 _ ih=>
  intro X h1 h2;have hl:i<(HT X i).length:=by rw[J1];omega
  have e:bD a (⟨i,m,o,n⟩::ws) X=bD a ws ((HT X i).set i (b.getD i 0)):=by
   show bD a ws ((HT X ((i:Int)).toNat).set ((i:Int)).toNat (BI (a.getD ((i:Int)).toNat 0) n m))=_;rw[Int.toNat_natCast,g1]
  have gs:∀j,((HT X i).set i (b.getD i 0)).getD j 0=if j=i then b.getD i 0 else X.getD j 0:=fun j=>by
   rw[Y9 _ _ _ _ hl];unfold HT;rw[X1]
  obtain⟨k1,k2⟩:=ih ((HT X i).set i (b.getD i 0)) (fun j hj=>by
   rw[gs];by_cases e:j=i
   ·rw[if_pos e,e]
   ·rw[if_neg e];by_cases hjp:j<p
    ·exact h1 j hjp
    ·rw[h2 j oF,h j oF oF]) (fun j hj=>by
   rw[gs,if_neg oF];exact h2 j oF)
  rw[e];refine⟨k1,Nat.le_trans k2 ?_⟩;rw[List.length_set,J1];omega
theorem qt{a:List Int}:∀(ws:List WE)(X:List Int),(∀x,x∈X->Ba x)->∀x,x∈bD a ws X->Ba x
 |[],X,h=>h
 |w::ws,X,h=>by
  refine qt ws _ fun x hx=>?_;rcases List.mem_or_eq_of_mem_set hx with hx|rfl
  ·unfold HT at hx;rcases List.mem_append.1 hx with hx|hx
   ·exact h x hx
   ·rw[List.eq_of_mem_replicate hx];exact⟨oF,oF⟩
  ·exact DB _ _ _
abbrev KI:=Bool × T
def gQ(x:KI):T:=if x.1=true then T0 else x.2
def kiC(x:KI):List A:=if x.1=true then [iv 0,.sl true [],.sl true []]else [iv x.2.kind,C7 x.2.words,AV x.2.kids]
def zb(x:KI):A:=.agg (kiC x)
@[simp]theorem Afk{x:KI}:(zb x).cells=kiC x:=rfl
@[simp]theorem Ali{x:KI}:(kiC x).length=3:=by unfold kiC;split<;>rfl
def OA(Z:List KI)(i:Nat):List KI:=Z++List.replicate (i+1-Z.length) (true,T0)
theorem TS(Z:List KI)(i:Nat):(OA Z i).length=max Z.length (i+1):=by simp[OA];omega
def bP:List KE->List T->List KI->List KI
 |x::ks,u::us,Z=>bP ks us ((OA Z x.at_.toNat).set x.at_.toNat (false,u))
 |_,_,Z=>Z
inductive ApK(P:E->T->T->Prop)(a:List T):List KE->List T->Prop
 |nil:ApK P a [] []
 |cons (i:Nat) (e:E) (u:T) (ks:List KE) (us:List T) (h:P e (a.getD i T0) u) (g:ApK P a ks us):ApK P a (.mk i e::ks) (u::us)
theorem Aee{R P:E->T->T->Prop}{a b:List T}{p:Nat}{ks:List KE}(h:Z4 R a b p ks):(∀x,x∈ks->∀i,R x.e (a.getD i T0) (b.getD i T0)->∃u,P x.e (a.getD i T0) u/\Ag u=Ag (b.getD i T0))->∃us,ApK P a ks us/\∀Z:List KI,(∀j,j<p->Ag ((Z.map gQ).getD j T0)=Ag (b.getD j T0))->(∀j,p<=j->Ag ((Z.map gQ).getD j T0)=Ag (a.getD j T0))->(∀j,Ag (((bP ks us Z).map gQ).getD j T0)=Ag (b.getD j T0))/\(bP ks us Z).length<=max Z.length (max a.length b.length):=by
 induction h with
 |nil p h=>
  intro _;refine⟨[],.nil,fun Z h1 h2=>⟨fun j=>?_,by show Z.length<=_;omega⟩⟩;by_cases hj:j<p
  ·exact h1 j hj
  ·rw[show bP [] [] Z=Z from rfl,h2 j oF,h j oF]
 |cons p i e ks hp h hi he hr _ ih=>
  intro hP;obtain⟨u,k1,k2⟩:=hP (.mk i e) iS i hr;obtain⟨us,k3,k4⟩:=ih fun x hx=>hP x (List.mem_cons_of_mem _ hx);refine⟨u::us,.cons i e u ks us k1 k3,fun Z h1 h2=>?_⟩;have hl:i<(OA Z i).length:=by rw[TS];omega
  have ee:bP (.mk i e::ks) (u::us) Z=bP ks us ((OA Z i).set i (false,u)):=by
   show bP ks us ((OA Z ((i:Int)).toNat).set ((i:Int)).toNat (false,u))=_;rw[Int.toNat_natCast]
  have gs:∀j,(((OA Z i).set i (false,u)).map gQ).getD j T0=if j=i then u else (Z.map gQ).getD j T0:=fun j=>by
   rw[List.map_set,Y9 _ _ _ _ (by rw[List.length_map];exact hl)];have e1:(OA Z i).map gQ=Z.map gQ++List.replicate (i+1-Z.length) T0:=by
    unfold OA;rw[List.map_append,List.map_replicate];rfl
   rw[e1,X1];rfl
  obtain⟨g1,g2⟩:=k4 ((OA Z i).set i (false,u)) (fun j hj=>by
   rw[gs];by_cases ej:j=i
   ·rw[if_pos ej,ej,k2]
   ·rw[if_neg ej];by_cases hjp:j<p
    ·exact h1 j hjp
    ·rw[h2 j oF,h j oF oF]) (fun j hj=>by
   rw[gs,if_neg oF];exact h2 j oF)
  rw[ee];refine⟨g1,Nat.le_trans g2 ?_⟩;rw[List.length_set,TS];omega
theorem o4{Q:T->Prop}(h0:Q T0):∀(ks:List KE)(us:List T)(Z:List KI),(∀u,u∈us->Q u)->(∀z,z∈Z->Q (gQ z))->∀z,z∈bP ks us Z->Q (gQ z)
 |[],_,Z,_,h=>by
  intro z hz;exact h z (by simpa[bP]using hz)
 |x::ks,[],Z,_,h=>by
  intro z hz;exact h z (by simpa[bP]using hz)
 |x::ks,u::us,Z,hu,h=>by
  refine o4 h0 ks us _ (fun v hv=>hu v (List.mem_cons_of_mem _ hv)) fun z hz=>?_;rcases List.mem_or_eq_of_mem_set hz with hz|rfl
  ·unfold OA at hz;rcases List.mem_append.1 hz with hz|hz
   ·exact h z hz
   ·rw[List.eq_of_mem_replicate hz];exact h0
  ·exact hu u iS
end Go.Proofs.YtlaapfplenlfaaaGreat
