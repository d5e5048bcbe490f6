/-
 Texts,merged,without what is not reached.
-/
import Derived.Test.YtlaapfplenlfaaaGreatKRc
set_option linter.unusedSimpArgs false
set_option linter.unusedVariables false
open Go.IntKind (i64 u64)
namespace Go.Proofs.YtlaapfplenlfaaaGreat
open Go Go.G Go.Proofs Go.PL
def gN(x:Sc):List A:=[iv x.i,iv x.j,iv x.n]
def QD(x:Sc):A:=.agg (gN x)
@[simp]theorem Aff{x:Sc}:(QD x).cells=gN x:=rfl
@[simp]theorem AkW{x:Sc}:(gN x).length=3:=rfl
@[simp]theorem Ahu{a:A}:m7 Tryz.prog 242 a=some (.ifc 242 a):=by
 unfold m7;rw[show Tryz.prog.underlying 242=some (.pointer 244) by kernel_rfl]
@[simp]theorem AmB{a:A}:m7 Tryz.prog 247 a=some (.ifc 247 a):=by
 unfold m7;rw[show Tryz.prog.underlying 247=some (.struct (Tryz.prog.fieldsOf 247)) by kernel_rfl]
@[simp]theorem AgC{a:A}:QQ Tryz.prog 247 false (.ifc 247 a)=some a:=by
 simp only[QQ,if_true];rw[show Tryz.prog.underlying 247=some (.struct (Tryz.prog.fieldsOf 247)) by kernel_rfl];rfl
def Ng(l junk:List Sc)(v:Nat):Fam:=⟨fun r p=>if p=[]then ⟨1,.cells [.osl (r::[0]) v 3 0 l.length]⟩else if p=[0]then ⟨v,.arr 3 ((l++junk).map QD)⟩else ⟨0,.none⟩,fun {g δ r r'} hg hd p=>by
  by_cases h1:p=[]
  ·rw[if_pos h1,if_pos h1];refine Fam.cells_ren ?_;simp[A.renL,A.ren,hg,hd]
  ·rw[if_neg h1,if_neg h1];by_cases h2:p=[0]
   ·rw[if_pos h2];refine Fam.arr_ren ?_;have e:∀x:Sc,(QD x).ren g δ=QD x:=fun x=>by simp[QD,gN,A.ren,A.renL]
    simp only[C0,List.map_map];refine List.map_congr_left fun x _=>?_;exact e x
   ·rw[if_neg h2];rfl,fun {D r} hD p=>by
  by_cases h1:p=[]
  ·rw[if_pos h1];simp[Ob.refs,A.refsL,A.refs,hD]
  ·rw[if_neg h1];by_cases h2:p=[0]
   ·rw[if_pos h2];simp only[Ob.refs,refsL_iff];intro y hy;obtain⟨x,_,rfl⟩:=List.mem_map.1 hy;simp[A.refs,A.refsL,QD,gN]
   ·rw[if_neg h2];trivial⟩
@[simp]theorem Acj{l junk:List Sc}{v r:Nat}{p:Nm}:(Ng l junk v).F r p=if p=[]then ⟨1,.cells [.osl (r::[0]) v 3 0 l.length]⟩else if p=[0]then ⟨v,.arr 3 ((l++junk).map QD)⟩else ⟨0,.none⟩:=rfl
abbrev lO(r:Nat):A:=.pob [r] 1 0
abbrev nj(r:Nat):A:=.ifc 242 (lO r)
abbrev scI(x:Sc):A:=.ifc 247 (QD x)
theorem Abo{x:Sc}:∀y,y∈gN x->y.bare1=true:=fun y hy=>by simp[gN]at hy;rcases hy with rfl|rfl|rfl<;>rfl
@[simp]theorem AlP{x:Sc}:A.ones (gN x)=true:=rfl
@[simp]theorem Ale{x:Sc}:(gN x).take 3=gN x:=rfl
theorem vb{x:Sc}:A.agg (gN x)=QD x:=rfl
theorem AaT{l:List Sc}:E8 3 (l.map QD)=true:=by rw[Jb];simp
theorem Ui(x:Sc):F5 (fun _=>scI x):=Pm (Fb (cs:=gN x) rfl fun y hy=>by simp[gN]at hy;rcases hy with rfl|rfl|rfl<;>rfl)
theorem QJ(l junk:List Sc)(v:Nat)(hl:l.length<=1000):SpecF Tryz.prog 194 (fun r=>[.osl (r::[0]) v 3 0 l.length]) (Ng l junk v) (fun _=>iv l.length) (Ng l junk v):=by
 refine Az Zb iS (Af BH Ak) AH fun w0 I0 M0 m0=>?_;rw[Ao PH.eq_1];simp;exact Av rfl rfl (fun p=>iS)
theorem mQ(l junk:List Sc)(v:Nat)(hl:l.length<=1000)(x:Sc):SpecF Tryz.prog 242 (fun r=>[lO r,scI x]) (Ng l junk v) (fun _=>.tup []) (Ng (l++[x]) [] (v+1)):=by
 refine Az Xm iS (Af AB (Af (Ui x) Ak)) (Bj Ak) fun w0 I0 M0 m0=>?_;rw[Ao OG.eq_1];simp[AaT,Aa];refine⟨Abo,oF,?_⟩;exact Bg rfl rfl (fun p=>by by_cases h1:p=[]<;>by_cases h2:p=[0]<;>simp[h1,h2,Aa])
theorem tc(l junk:List Sc)(v:Nat)(hl:l.length<=1000)(x:Sc):SpecF Tryz.prog 241 (fun r=>[lO r]) (Ng (l++[x]) junk v) (fun _=>scI x) (Ng l (x::junk) v):=by
 refine Az Zr iS (Af AB Ak) (Ui x) fun w0 I0 M0 m0=>?_;have e1:i64.wrap (l.length:Int)=(l.length:Int):=CX;have he:(l.map QD++QD x::junk.map QD)[l.length]? = some (QD x):=by
  rw[List.getElem?_append_right iS];simp
 rw[Ao Qn.eq_1];simp[e1,he,Aa,show(l.length:Int)<l.length+1 by omega,show(l.length:Int)<=l.length+1 by omega];exact Bg rfl rfl (fun p=>by by_cases h1:p=[]<;>by_cases h2:p=[0]<;>simp[h1,h2,Aa])
theorem YP(n:Int):G.Spec Tryz.prog 207 [iv n] (bv false):=by
 refine Aj Xd iS fun w0 I0=>?_;rw[Ao OJ.eq_1];simp;exact Ad rfl
def Gq(a b:Int):Int:=if a<b then -1 else if b<a then 1 else 0
theorem Uu(a b:Int):G.Spec Tryz.prog 200 [iv a,iv b] (iv (Gq a b)):=by
 refine Aj UF iS fun w0 I0=>?_;rw[Ao Mh.eq_1];unfold Gq;simp;refine Ae (YP a) rfl ?_;simp;refine Ae (YP b) rfl ?_;by_cases h:a<b
 ·simp[h];exact Ad rfl
 ·by_cases h2:b<a
  ·simp[h,h2];exact Ad rfl
  ·simp[h,h2];exact Ad rfl
theorem Abg(a b c:Int):G.Spec Tryz.prog 245 [.sl true [iv a,iv b,iv c]] (iv (if a≠0 then a else if b≠0 then b else c)):=by
 refine Aj gn iS fun w0 I0=>?_;have w1:i64.wrap 1=1:=rfl;have w2:i64.wrap 2=2:=rfl;have w3:i64.wrap 3=3:=rfl;rw[BG Uz.eq_1];simp;refine Ab Ah (Ao H5.eq_1) ?_;by_cases h1:a=0
 ·simp[h1,w1];refine Ab Ah (Ao H5.eq_1) ?_;by_cases h2:b=0
  ·simp[h2,w2];refine Ab Ah (Ao H5.eq_1) ?_;by_cases h3:c=0
   ·simp[h3,w3];refine Ab Ah (Ao H5.eq_1) ?_;simp;exact Ad rfl
   ·simp[h3];exact Ad rfl
  ·simp[h2];exact Ad rfl
 ·simp[h1];exact Ad rfl
theorem rH(a b:Sc):decide ((if Gq b.n a.n≠0 then Gq b.n a.n else if Gq a.i b.i≠0 then Gq a.i b.i else Gq a.j b.j)<0)=BB a b:=by
 have h3:∀x y:Int,(x<y/\Gq x y=-1)\/(x=y/\Gq x y=0)\/(y<x/\Gq x y=1):=fun x y=>by
  unfold Gq;rcases Int.lt_trichotomy x y with h|h|h
  ·exact .inl ⟨h,if_pos h⟩
  ·exact .inr (.inl ⟨h,by rw[if_neg oF,if_neg oF]⟩)
  ·exact .inr (.inr ⟨h,by rw[if_neg oF,if_pos h]⟩)
 unfold BB;rcases h3 b.n a.n with ⟨h,e⟩|⟨h,e⟩|⟨h,e⟩
 ·rw[e];simp[h]
 ·rw[e];rcases h3 a.i b.i with ⟨h2,e2⟩|⟨h2,e2⟩|⟨h2,e2⟩
  ·rw[e2];have:a.i<b.i:=oF
   simp[h,this]
  ·rw[e2];have h2':a.i=b.i:=oF
   rcases h3 a.j b.j with ⟨h4,e4⟩|⟨h4,e4⟩|⟨h4,e4⟩
   ·rw[e4];have:a.j<b.j:=oF
    simp[h,h2',this]
   ·rw[e4];have:¬a.j<b.j:=oF
    simp[h,h2',this]
   ·rw[e4];have:¬a.j<b.j:=oF
    simp[h,h2',this]
  ·rw[e2];have h5:¬a.i<b.i:=oF
   have h6:¬a.i=b.i:=oF
   simp[h,h5,h6]
 ·rw[e];have h5:¬b.n<a.n:=oF
  have h6:¬a.n=b.n:=oF
  simp[h5,h6]
theorem mE(a b:Sc):G.Spec Tryz.prog 244 [QD a,QD b] (bv (BB a b)):=by
 refine Aj Rj iS fun w0 I0=>?_;have hO:=Abg (Gq b.n a.n) (Gq a.i b.i) (Gq a.j b.j);rw[Ao Kr.eq_1];simp[QD,gN];refine Ae (Uu b.n a.n) rfl ?_;simp;refine Ae (Uu a.i b.i) rfl ?_;simp;refine Ae (Uu a.j b.j) rfl ?_;simp;refine Ae hO rfl ?_;simp;refine BJ ?_;rw[<-rH];simp
theorem Ta(l junk:List Sc)(v:Nat)(hl:l.length<=1000)(i j:Nat)(hi:i<l.length)(hj:j<l.length):SpecF Tryz.prog 240 (fun r=>[.osl (r::[0]) v 3 0 l.length,iv i,iv j]) (Ng l junk v) (fun _=>bv (BB l[i] l[j])) (Ng l junk v):=by
 refine Az Xi iS (Af BH (Af AH (Af AH Ak))) AH fun w0 I0 M0 m0=>?_;have hA:=mE l[i] l[j];have gi:(l.map QD++junk.map QD)[i]? = some (QD l[i]):=by rw[List.getElem?_append_left (by simpa using hi)];simp[hi]
 have gj:(l.map QD++junk.map QD)[j]? = some (QD l[j]):=by rw[List.getElem?_append_left (by simpa using hj)];simp[hj]
 rw[Ao OQ.eq_1];simp[gi,gj,hi,hj,show(i:Int)<l.length by omega,show(j:Int)<l.length by omega,vb];refine Ae hA rfl ?_;simp;exact Av rfl rfl (fun p=>iS)
theorem SJ(l junk:List Sc)(v:Nat)(hl:l.length<=1000)(i j:Nat)(hi:i<l.length)(hj:j<l.length):SpecF Tryz.prog 243 (fun r=>[.osl (r::[0]) v 3 0 l.length,iv i,iv j]) (Ng l junk v) (fun _=>.tup []) (Ng ((l.set i l[j]).set j l[i]) junk v):=by
 refine Az Xl iS (Af BH (Af AH (Af AH Ak))) (Bj Ak) fun w0 I0 M0 m0=>?_;have gi:(l.map QD++junk.map QD)[i]? = some (QD l[i]):=by rw[List.getElem?_append_left (by simpa using hi)];simp[hi]
 have gj:(l.map QD++junk.map QD)[j]? = some (QD l[j]):=by rw[List.getElem?_append_left (by simpa using hj)];simp[hj]
 rw[Ao OE.eq_1];simp[gi,gj,hi,hj,show(i:Int)<l.length by omega,show(j:Int)<l.length by omega,vb];have gk:((l.map QD).set i (QD l[j])++junk.map QD)[j]? = some (QD l[j]):=by
  rw[List.getElem?_append_left (by simpa using hj)];by_cases e:i=j
  ·subst e;simp[hi]
  ·rw[List.getElem?_set_ne e];simp[hj]
 rw[gk];simp[hj];exact Bg rfl rfl (fun p=>by by_cases h1:p=[]<;>by_cases h2:p=[0]<;>simp[h1,h2,Aa,List.map_set])
theorem Vl:RN Tryz.prog 242 "Less" = some (240,some 244):=by kernel_rfl
theorem V0:RN Tryz.prog 242 "Swap" = some (243,some 244):=by kernel_rfl
theorem jz:RN Tryz.prog 242 "Len" = some (194,some 244):=by kernel_rfl
theorem sM:RN Tryz.prog 242 "Push" = some (242,none):=by kernel_rfl
theorem yi:RN Tryz.prog 242 "Pop" = some (241,none):=by kernel_rfl
theorem IW{l:List Sc}{i:Nat}(h:i<l.length):l.getD i sc0=l[i]:=by rw[List.getD_eq_getElem?_getD,List.getElem?_eq_getElem h];rfl
theorem nT{l:List Sc}{i j:Nat}(hi:i<l.length)(hj:j<l.length):aY l i j=(l.set i l[j]).set j l[i]:=by unfold aY;rw[IW hi,IW hj]
theorem J3{H:Hp}{l junk:List Sc}{v:Nat}(hH:∀p,H (0::p)=(Ng l junk v).F 0 p):bc Tryz.prog H (some 244) (lO 0)=some (.osl [0,0] v 3 0 l.length):=by
 have:=hH [];unfold bc;simp[this]
theorem AgP{n0:Nat}{w0:World}{I0:Nat->Prop}{M0:Nm->Nat->Prop}{m0:Mu}{Q:Exit->Sta->Prop}{junk:List Sc}{v:Nat}:∀(f:Nat)(l:List Sc)(j:Nat)(H:Hp),l.length<=1000->j<l.length->j<f->(∀p,H (0::p)=(Ng l junk v).F 0 p) ->
  (∀(H':Hp)(st:List (Nat × A)),(∀p,H' (0::p)=(Ng (te f l j) junk v).F 0 p)->Q (.exit 0) ⟨lk st,H'⟩) ->
  LoopC (En Tryz.prog w0 I0 M0 n0 m0) G6 Q ⟨lk [(0,nj 0),(1,iv j)],H⟩:=by
 intro f;induction f with
 |zero=>intro l j H _ _ hf;omega
 |succ f ih=>
  intro l j H hl hj hf hH hq;obtain⟨i,hi⟩:∃i,i=(j-1) / 2:=⟨_,rfl⟩;have hil:i<l.length:=oF
  have e1:i64.wrap ((j:Int)-1)=(j:Int)-1:=CX;have e2:i64.wrap (((j:Int)-1).tdiv 2)=(i:Int):=by
   by_cases h0:j=0
   ·subst h0;have:i=0:=oF
    subst this;rfl
   ·rw[Int.tdiv_eq_ediv_of_nonneg oF,AJ oF oF];omega
  have hL:=Ta l junk v hl j i hj hil;have hS:=SJ l junk v hl i j hil hj;rw[te,<-hi,IW hj,IW hil,nT hil hj]at hq;refine Ab Ah (Ao G6.eq_1) ?_;by_cases hij:i=j
  ·rw[if_pos (.inl hij)]at hq;simp[e1,e2,hij];rw[AR];simp;exact hq H [(0,nj 0),(1,iv j),(4,iv j),(17,bv true)] hH
  ·have hij':¬(i:Int)=j:=oF
   simp[e1,e2,hij,hij'];rw[AR];simp;refine JK 0 hL hH rfl Vl (J3 hH) rfl iS ?_;cases hA:BB l[j] l[i] with
   |false=>
    rw[hA,if_pos (.inr rfl)]at hq;simp;exact hq _ [(0,nj 0),(1,iv j),(4,iv i),(17,bv true)] (fun p=>iS)
   |true=>
    rw[hA,if_neg (by simp[hij])]at hq;simp;have hH2:∀p,(ov 0 ((Ng l junk v).F 0) H) (0::p)=(Ng l junk v).F 0 p:=fun p=>iS
    refine JK 0 hS hH2 rfl V0 (J3 hH2) rfl iS ?_;simp;refine ih _ i _ (by simp;omega) (by simp;omega) oF (fun p=>iS) hq
theorem Abu(l junk:List Sc)(v:Nat)(hl:l.length<=1000)(j:Nat)(hj:j<l.length):SpecF Tryz.prog 202 (fun r=>[nj r,iv j]) (Ng l junk v) (fun _=>.tup []) (Ng (te (j+1) l j) junk v):=by
 refine Az Rv iS (Af (Pm AB) (Af AH Ak)) (Bj Ak) fun w0 I0 M0 m0=>?_;rw[BG Kl.eq_1];simp;refine LoopC.le (Al [(0,nj 0),(1,iv j)] iS) ?_;refine AgP (junk:=junk) (v:=v) (j+1) l j _ hl hj oF (fun p=>iS) fun H' st hH=>?_;simp;exact Bg rfl rfl hH
theorem Aa4{l:List Sc}{i n:Nat}(h:2*i+1<n):NG l i n<n/\i<NG l i n:=by
 unfold NG;split
 ·rename_i h2;omega
 ·omega
theorem zB{n0:Nat}{w0:World}{I0:Nat->Prop}{M0:Nm->Nat->Prop}{m0:Mu}{Q':Exit->Sta->Prop}{junk l:List Sc}{v i k:Nat}{i0 n:Int}{H:Hp}(hl:l.length<=1000)(hi:i<l.length)(hk:k<l.length)(hH:∀p,H (0::p)=(Ng l junk v).F 0 p)
  (h0:BB l[k] l[i]=false->∀(H':Hp),(∀p,H' (0::p)=(Ng l junk v).F 0 p)->Q' (.exit 0) ⟨lk [(0,nj 0),(1,iv i0),(2,iv n),(7,iv i),(9,iv k),(39,bv true)],H'⟩)
  (h1:BB l[k] l[i]=true->∀(H':Hp),(∀p,H' (0::p)=(Ng (aY l i k) junk v).F 0 p)->Q' .normal ⟨lk [(0,nj 0),(1,iv i0),(2,iv n),(7,iv k)],H'⟩) :
  WPC (En Tryz.prog w0 I0 M0 n0 m0) DR Q' ⟨lk [(0,nj 0),(1,iv i0),(2,iv n),(7,iv i),(9,iv k)],H⟩:=by
 have hL:=Ta l junk v hl k i hk hi;have hS:=SJ l junk v hl i k hi hk;rw[<-nT hi hk]at hS;rw[(Ao DR.eq_1)];simp;refine JK 0 hL hH rfl Vl (J3 hH) rfl iS ?_;cases hA:BB l[k] l[i] with
 |false=>
  simp;exact h0 hA _ (fun p=>iS)
 |true=>
  simp;have hH2:∀p,(ov 0 ((Ng l junk v).F 0) H) (0::p)=(Ng l junk v).F 0 p:=fun p=>iS
  refine JK 0 hS hH2 rfl V0 (J3 hH2) rfl iS ?_;simp;exact h1 hA _ (fun p=>iS)
theorem AaB{n0:Nat}{w0:World}{I0:Nat->Prop}{M0:Nm->Nat->Prop}{m0:Mu}{Q:Exit->Sta->Prop}{junk:List Sc}{v n:Nat}{i0:Int}:∀(f:Nat)(l:List Sc)(i:Nat)(H:Hp),l.length<=1000->n<=l.length->(i<n\/(n=0/\i=0))->n<i+f->i<l.length->(∀p,H (0::p)=(Ng l junk v).F 0 p) ->
  (∀(H':Hp)(st:List (Nat × A)),(∀p,H' (0::p)=(Ng (Jl f l i n).1 junk v).F 0 p)->(lk st) 1=iv i0->(lk st) 7=iv (Jl f l i n).2->Q (.exit 0) ⟨lk st,H'⟩) ->
  LoopC (En Tryz.prog w0 I0 M0 n0 m0) DM Q ⟨lk [(0,nj 0),(1,iv i0),(2,iv n),(7,iv i)],H⟩:=by
 intro f;induction f with
 |zero=>intro l i H hl hn hi hf hil hH hq;omega
 |succ f ih=>
  intro l i H hl hn hi hf hil hH hq;have e1:i64.wrap (2*(i:Int))=2*(i:Int):=CX;have e2:i64.wrap (2*(i:Int)+1)=((2*i+1:Nat):Int):=AU;rw[Jl]at hq;refine Ab Ah (BG DM.eq_1) ?_;by_cases h1:n<=2*i+1
  ·rw[if_pos h1]at hq;simp[e1,e2,show(n:Int)<=2*i+1 by omega];exact hq H [(0,nj 0),(1,iv i0),(2,iv n),(7,iv i),(8,iv (2*i+1:Nat)),(21,bv true)] hH rfl rfl
  ·rw[if_neg h1]at hq;have e3:i64.wrap (2*(i:Int)+1+1)=((2*i+2:Nat):Int):=AU;have hkl:=Aa4 (l:=l) (i:=i) (n:=n) oF;have fin:∀(H':Hp),(∀p,H' (0::p)=(Ng l junk v).F 0 p)->WPC (En Tryz.prog w0 I0 M0 n0 m0) DR (BA 1 (Ej (LoopC (En Tryz.prog w0 I0 M0 n0 m0) DM Q) Q)) ⟨lk [(0,nj 0),(1,iv i0),(2,iv n),(7,iv i),(9,iv (NG l i n))],H'⟩:=fun H' hH'=>by
    refine zB hl hil (k:=NG l i n) oF hH' (fun hA H2 h2=>?_) (fun hA H2 h2=>?_)
    ·rw[<-IW oF,<-IW hil]at hA;rw[if_neg (by rw[hA];simp)]at hq;exact hq H2 _ h2 rfl rfl
    ·rw[<-IW oF,<-IW hil]at hA;rw[if_pos hA]at hq;simp;exact ih _ _ H2 (by simp;omega) (by simp;omega) (.inl hkl.1) oF (by simp;omega) h2 hq
   clear hq ih;simp[e1,e2,show ¬(n:Int)<=2*i+1 by omega,show ¬2*(i:Int)+1<0 by omega,e3];by_cases h2:2*i+2<n
   ·have hL:=Ta l junk v hl (2*i+2) (2*i+1) oF oF;simp[show 2*(i:Int)+2<n by omega];rw[AR];simp;refine JK 0 hL hH rfl Vl (J3 hH) rfl iS ?_;have hk:NG l i n=if BB l[2*i+2] l[2*i+1]=true then 2*i+2 else 2*i+1:=by
     unfold NG;rw[IW oF,IW oF];simp[h2]
    rw[hk]at fin;cases hA:BB l[2*i+2] l[2*i+1] with
    |false=>
     rw[hA]at fin;simp;exact fin _ (fun p=>iS)
    |true=>
     rw[hA]at fin;simp;exact fin _ (fun p=>iS)
   ·have hk:NG l i n=2*i+1:=by
     unfold NG;rw[if_neg (fun e=>h2 e.1)]
    rw[hk]at fin;simp[show ¬2*(i:Int)+2<n by omega];rw[AR];simp;exact fin _ hH
theorem si(l junk:List Sc)(v:Nat)(hl:l.length<=1000)(n:Nat)(hn:n<=l.length)(h0:0<l.length):SpecF Tryz.prog 203 (fun r=>[nj r,iv 0,iv n]) (Ng l junk v) (fun _=>bv (decide (0<(Jl (n+1) l 0 n).2))) (Ng (Jl (n+1) l 0 n).1 junk v):=by
 refine Az O6 iS (Af (Pm AB) (Af AH (Af AH Ak))) AH fun w0 I0 M0 m0=>?_;rw[BG Jh.eq_1];simp;refine LoopC.le (Al [(0,nj 0),(1,iv 0),(2,iv n),(7,iv (0:Nat))] iS) ?_;refine AaB (junk:=junk) (v:=v) (n+1) l 0 _ hl hn oF oF h0 (fun p=>iS) fun H' st hH h1 h7=>?_;simp[h1,h7];exact Av rfl rfl hH
theorem jR(l junk:List Sc)(v:Nat)(hl:l.length<=900)(x:Sc):SpecF Tryz.prog 193 (fun r=>[nj r,scI x]) (Ng l junk v) (fun _=>.tup []) (Ng (te (l.length+1) (l++[x]) l.length) [] (v+1)):=by
 refine Az OZ iS (Af (Pm AB) (Af (Ui x) Ak)) (Bj Ak) fun w0 I0 M0 m0=>?_;have hP:=mQ l junk v oF x;have hL:=QJ (l++[x]) [] (v+1) (by simp;omega);have hU:=Abu (l++[x]) [] (v+1) (by simp;omega) l.length iS;have e1:i64.wrap (l.length:Int)=(l.length:Int):=CX;rw[Ao Jo.eq_1];simp;refine JK 0 hP (fun p=>iS) rfl sM rfl rfl iS ?_;simp;have hH2:∀p,(ov 0 ((Ng (l++[x]) [] (v+1)).F 0) (HO []):Hp) (0::p)=(Ng (l++[x]) [] (v+1)).F 0 p:=fun p=>iS
 refine JK 0 hL hH2 rfl jz (J3 hH2) rfl iS ?_;simp[e1];refine Au 0 hU (fun p=>iS) iS iS ?_;simp;exact Bg rfl rfl (fun p=>iS)
theorem nB(l junk:List Sc)(v:Nat)(hl:l.length<=900)(h0:0<l.length):SpecF Tryz.prog 195 (fun r=>[nj r]) (Ng l junk v) (fun _=>scI ((LU l).getD (l.length-1) sc0)) (Ng ((LU l).take (l.length-1)) ((LU l).getD (l.length-1) sc0::junk) v):=by
 refine Az PX iS (Af (Pm AB) Ak) (Ui _) fun w0 I0 M0 m0=>?_;obtain⟨n,hn⟩:∃n,n=l.length-1:=⟨_,rfl⟩;have hlen:=XV l;rw[<-hn];have hL:=QJ l junk v oF;have hS:=SJ l junk v oF 0 n h0 oF;rw[<-nT h0 oF]at hS;have hD:=si (aY l 0 n) junk v (by simp;omega) n (by simp;omega) (by simp;omega);have hpd:(Jl (n+1) (aY l 0 n) 0 n).1=LU l:=by unfold LU;rw[<-hn]
 rw[hpd]at hD;have hsplit:LU l=(LU l).take n++[(LU l).getD n sc0]:=by
  rw[IW oF,List.take_append_getElem,Ax oF]
 have hP:=tc ((LU l).take n) junk v (by simp;omega) ((LU l).getD n sc0);rw[<-hsplit]at hP;have e1:i64.wrap ((l.length:Int)-1)=(n:Int):=AU;have hH1:∀p,(ov 0 ((Ng l junk v).F 0) (HO []):Hp) (0::p)=(Ng l junk v).F 0 p:=fun p=>iS
 have hH3:∀l2:List Sc,∀p,(ov 0 ((Ng l2 junk v).F 0) (HO []):Hp) (0::p)=(Ng l2 junk v).F 0 p:=fun l2 p=>iS
 generalize (LU l).getD n sc0=z at hP ⊢;generalize (LU l).take n=l3 at hP ⊢;generalize LU l=l2 at hD hP;generalize (Jl (n+1) (aY l 0 n) 0 n).2=dd at hD;generalize aY l 0 n=l1 at hS hD;rw[Ao J6.eq_1];simp;refine JK 0 hL hH1 rfl jz (J3 hH1) rfl iS ?_;simp[e1];refine JK 0 hS hH1 rfl V0 (J3 hH1) rfl iS ?_;simp;refine Au 0 hD (fun p=>iS) iS iS ?_;simp;refine JK 0 hP (fun p=>iS) rfl yi rfl rfl iS ?_;simp;exact Av rfl rfl (fun p=>iS)
def QA(x:Sc):List A:=[iv x.i,iv x.j]
def Jd(x:Sc):A:=.agg (QA x)
@[simp]theorem Afl{x:Sc}:(Jd x).cells=QA x:=rfl
@[simp]theorem AlH{x:Sc}:(QA x).length=2:=rfl
@[simp]theorem AlU{x:Sc}:A.ones (QA x)=true:=rfl
@[simp]theorem Alv{x:Sc}:(QA x).take 2=QA x:=rfl
theorem DN{x:Sc}:A.agg (QA x)=Jd x:=rfl
theorem qi{x:Sc}:∀y,y∈QA x->y.bare1=true:=fun y hy=>by simp[QA]at hy;rcases hy with rfl|rfl<;>rfl
theorem oZ{l:List Sc}:E8 2 (l.map Jd)=true:=by rw[Jb];simp
theorem Aag(x:Sc):F5 (fun _=>Jd x):=Fb (cs:=QA x) rfl qi
def lM(l:List Sc)(v:Nat):Fam:=⟨fun r p=>if p=[]then ⟨v,.arr 2 (l.map Jd)⟩else ⟨0,.none⟩,fun {g δ r r'} hg hd p=>by
  by_cases h1:p=[]
  ·rw[if_pos h1];refine Fam.arr_ren ?_;have e:∀x:Sc,(Jd x).ren g δ=Jd x:=fun x=>by simp[Jd,QA,A.ren,A.renL]
   simp only[C0,List.map_map];refine List.map_congr_left fun x _=>?_;exact e x
  ·rw[if_neg h1];rfl,fun {D r} hD p=>by
  by_cases h1:p=[]
  ·rw[if_pos h1];simp only[Ob.refs,refsL_iff];intro y hy;obtain⟨x,_,rfl⟩:=List.mem_map.1 hy;simp[A.refs,A.refsL,Jd,QA]
  ·rw[if_neg h1];trivial⟩
@[simp]theorem MJ{l:List Sc}{v r:Nat}{p:Nm}:(lM l v).F r p=if p=[]then ⟨v,.arr 2 (l.map Jd)⟩else ⟨0,.none⟩:=rfl
abbrev zd(l:List Sc)(v r:Nat):A:=.osl [r] v 2 0 l.length
theorem dz(p q:Sc):G.Spec Tryz.prog 197 [Jd p,Jd q] (bv (!Xp p q)):=by
 refine Aj Rq iS fun w0 I0=>?_;rw[Ao Ku.eq_1];unfold Xp;by_cases h1:p.i<q.i<;>by_cases h2:p.j<q.j<;>by_cases h3:q.i<p.i<;>by_cases h4:q.j<p.j<;>simp[Jd,QA,h1,h2,h3,h4,Aa]<;>exact BJ rfl
abbrev crF(x:Sc):A:=.fnc 197 [Jd x] []
theorem lD(x:Sc):F5 (fun _=>crF x):=kg (Af (Aag x) Ak) Ak
def RD(x:Sc):List Sc->Nat->Int
 |[],_=>-1
 |q::l,i=>if Xp x q=true then RD x l (i+1)else i
theorem XQ(x:Sc):∀(l:List Sc)(i:Nat),decide (0<=RD x l i)=!(l.all fun q=>Xp x q)
 |[],i=>rfl
 |q::l,i=>by
  unfold RD;cases h:Xp x q with
  |true=>simp[h,XQ x l (i+1)]
  |false=>simp[h]
theorem AdG{n0:Nat}{w0:World}{I0:Nat->Prop}{M0:Nm->Nat->Prop}{m0:Mu}{Q:Exit->Sta->Prop}{x:Sc}{l:List Sc}{v:Nat}{H:Hp}(hl:l.length<=1000)(hH:∀p,H (0::p)=(lM l v).F 0 p)
  (hq:∀y:Int,y=RD x l 0->y≠-1->Q .ret ⟨lk [(4,iv y)],H⟩) (hq2:RD x l 0=-1->Q (.exit 0) ⟨lk [(0,zd l v 0),(1,crF x),(7,iv l.length),(8,iv l.length),(9,bv false)],H⟩):∀(m i:Nat),i+m=l.length->RD x (l.drop i) i=RD x l 0 ->
  LoopC (En Tryz.prog w0 I0 M0 n0 m0) Bq Q ⟨lk [(0,zd l v 0),(1,crF x),(7,iv l.length),(8,iv i)],H⟩:=by
 intro m;induction m with
 |zero=>
  intro i hi he;have:i=l.length:=oF
  subst this;rw[List.drop_length]at he;refine Ab Ah (Ao Bq.eq_1) ?_;simp;exact hq2 (he.symm.trans rfl)
 |succ m ih=>
  intro i hi he;have hlt:i<l.length:=oF
  have h0:=hH [];have hg:(l.map Jd)[i]? = some (Jd l[i]):=by simp[hlt]
  have e1:=Ap i;rw[List.drop_eq_getElem_cons hlt,RD]at he;refine Ab Ah (Ao Bq.eq_1) ?_;simp[h0,hg,hlt,DN,show(i:Int)<l.length by omega];refine P0 (fs:=[Jd x]) (caps:=[]) rfl (dz x l[i]) rfl ?_;cases hp:Xp x l[i] with
  |true=>
   rw[hp,if_pos rfl]at he;simp[e1];exact ih (i+1) oF he
  |false=>
   rw[hp,if_neg iS]at he;simp;exact hq _ he oF
theorem rC(x:Sc)(l:List Sc)(v:Nat)(hl:l.length<=1000):SpecF Tryz.prog 204 (fun r=>[zd l v r,crF x]) (lM l v) (fun _=>iv (RD x l 0)) (lM l v):=by
 refine Az Hl iS (Af BH (Af (lD x) Ak)) AH fun w0 I0 M0 m0=>?_;rw[BG Dj.eq_1];simp;refine AdG (v:=v) (x:=x) hl (fun p=>iS) (fun y hy hn=>?_) (fun h=>?_) l.length 0 oF rfl
 ·simp;exact Av (by rw[hy];rfl) rfl (fun p=>iS)
 ·simp;exact Av (by rw[h];rfl) rfl (fun p=>iS)
theorem bS(x:Sc)(l:List Sc)(v:Nat)(hl:l.length<=1000):SpecF Tryz.prog 196 (fun r=>[zd l v r,crF x]) (lM l v) (fun _=>bv (!CD l x)) (lM l v):=by
 have hI:=rC x l v hl;have e:decide (0<=RD x l 0)=!CD l x:=by
  rw[XQ];unfold CD;congr 2;funext q;exact jq
 refine Az F9 iS (Af BH (Af (lD x) Ak)) AH fun w0 I0 M0 m0=>?_;rw[Ao CT.eq_1];simp;refine Au 0 hI (fun p=>iS) iS iS ?_;simp;rw[<-e];exact Av rfl rfl (fun p=>iS)
end Go.Proofs.YtlaapfplenlfaaaGreat
namespace Go.Proofs.YtlaapfplenlfaaaGreat
set_option maxRecDepth 20000
open Go Go.G Go.Proofs
@[simp]theorem Akp:Eg Tryz.prog 276=some 1:=by kernel_rfl
@[simp]theorem Ain:EE Tryz.prog 276=some false:=by kernel_rfl
@[simp]theorem Agk:BW Tryz.prog 276=some (Value.int u64 0):=by kernel_rfl
def LN:CC:=Bh (cG Tryz.f217 15 [[0,2,14],[14],[],[999],[0]])
def LP:CC:=CV (cG Tryz.f217 7 [[0,2,8],[8],[],[999],[994]]) LN
def MC:CC:=CV (cG Tryz.f217 1 [[0,2],[4],[2,4],[2],[999],[994]]) LP
theorem UL:Bs Tryz.prog 217 25 [(.tmp 2)] MC:=Aq Tryz.func217
def OV:CC:=Bh (cG Tryz.f206 1 [[0],[0,2],[995],[999,0,2],[0,2]])
theorem Xo:Bs Tryz.prog 206 8 [(.tmp 2)] OV:=Aq Tryz.func206
def Bl:CC:=Bh (cG Tryz.f208 585 [[0,1,2,3,8,9,34],[995],[999,34],[],[]])
def Bm:CC:=CV (cG Tryz.f208 9 [[0,1,2,3,8,14],[995],[999,14],[9],[996],[999,9],[]]) Bl
def Da:CC:=CV (cG Tryz.f208 1 [[0,1,2,3,8],[996]]) Bm
theorem GX:Bs Tryz.prog 208 53 [] Da:=Aq Tryz.func208
def Iv:CC:=Bh (cG Tryz.f219 1 [[0],[0,2]])
theorem NN:Bs Tryz.prog 219 7 [(.tmp 2)] Iv:=Aq Tryz.func219
def IQ:CC:=Bh (cG Tryz.f220 1 [[0],[],[],[],[0,2]])
theorem N7:Bs Tryz.prog 220 33 [(.tmp 2)] IQ:=Aq Tryz.func220
def BZ:CC:=Bh (cG Tryz.f210 14651 [[0,1,8,9,10,11]])
def AA:CC:=CV (cG Tryz.f210 315 [[0,1,8,9,10,11,35],[995],[999,35],[12],[45],[45],[999],[994],[999,12],[]]) BZ
def Db:CC:=CV (cG Tryz.f210 1 [[0,1,8],[17],[9,17,3001],[10],[11],[996]]) AA
theorem GW:Bs Tryz.prog 210 67 [] Db:=Aq Tryz.func210
def Ex:CC:=Bh (cG Tryz.f223 1 [[0,1,2,3,4],[0,4,22],[3,22],[1,2,10,11],[995],[999,1,2,10,11],[1,2,10,11]])
theorem I5:Bs Tryz.prog 223 32 [(.tmp 10),(.tmp 11)] Ex:=Aq Tryz.func223
def Eu:CC:=Bh (cG Tryz.f222 1 [[0,1,2,3,4,5],[],[3],[0,1,4,5],[2,12]])
theorem IU:Bs Tryz.prog 222 41 [(.tmp 12)] Eu:=Aq Tryz.func222
def Dh:CC:=Bh (cG Tryz.f211 255 [[13,55],[57],[8,9,13,55,57],[8,9,13,60],[8,9,13,60],[]])
def Du:CC:=CV (cG Tryz.f211 1 [[0,1,2,3],[2,10],[11,1001],[12],[13],[1,14],[34],[10,34,36],[36],[],[],[999],[0,3,12,14],[999],[994]]) Dh
theorem HC:Bs Tryz.prog 211 63 [(.tmp 8),(.tmp 9)] Du:=Aq Tryz.func211
def AZ:CC:=Bh (cG Tryz.f212 19 [[0,8,9,15],[995],[999,15],[],[],[]])
def De:CC:=CV (cG Tryz.f212 1 [[0,2,8],[2,9],[996]]) AZ
theorem G8:Bs Tryz.prog 212 34 [] De:=Aq Tryz.func212
def AG:CC:=Bh (cG Tryz.f213 4171 [[0,1,2,3,9,10,36],[995],[999,36],[]])
def Er:CC:=Bh (cG Tryz.f213 613963 [[0,1,2,3,9,10,11,69],[995],[999,69],[84],[995],[999,84],[],[999],[]])
def Ey:CC:=Bh (cG Tryz.f213 622155 [[0,1,2,3,9,10,12,109],[995],[999,109],[124],[995],[999,124],[],[999],[]])
def Ev:CC:=CV (cG Tryz.f213 32331 [[0,1,2,3,9,10,104],[12,104],[996]]) Ey
def Ci:CC:=pk3 (cG Tryz.f213 75 [[0,1,2,3,9,10,16],[995],[999,16],[996],[999],[41],[0,1,2,3,8,9,10,41],[995],[999,0,1,2,3,8,9,10],[45],[0,1,2,3,8,9,10,45],[995],[999,0,1,2,3,8,9,10],[],[65],[11,65],[996],[999,11],[994],[999],[]]) AG Er Ev
def Cp:CC:=CV (cG Tryz.f213 1 [[0,1,2,3],[9],[10],[996],[999,0,1,2,3,9,10],[8]]) Ci
theorem EI:Bs Tryz.prog 213 141 [(.tmp 8)] Cp:=Aq Tryz.func213
def AP:CC:=Bh (cG Tryz.f214 1031 [[0,1,4,11,12,47],[995],[999,47],[]])
def AO:CC:=Bh (cG Tryz.f214 2183 [[0,1,4,11,12,65],[995],[999,65],[]])
def BQ:CC:=gR (cG Tryz.f214 71 [[996],[999,0,1,4,11,12],[996],[999],[70],[995],[999,70],[],[],[]]) AP AO
def CZ:CC:=CV (cG Tryz.f214 1 [[0,1,2,3,4],[3],[2,11,12],[996],[999,0,1,4,12],[10,11]]) BQ
theorem Gu:Bs Tryz.prog 214 90 [(.tmp 10)] CZ:=Aq Tryz.func214
def Bf:CC:=Bh (cG Tryz.f215 71 [[0,1,4,12,13,47],[995],[999,47],[]])
def Bc:CC:=Bh (cG Tryz.f215 143 [[0,1,4,12,13,66],[995],[999,66],[]])
def Bd:CC:=Bh (cG Tryz.f215 66047 [[0,1,4,12,13,120],[995],[999,120],[]])
def Be:CC:=Bh (cG Tryz.f215 139775 [[0,1,4,12,13,139],[995],[999,139],[]])
def Ch:CC:=gR (cG Tryz.f215 4607 [[996],[999,0,1,4,12,13],[996],[999],[144],[995],[999,144],[],[],[]]) Bd Be
def DU:CC:=pk3 (cG Tryz.f215 1 [[0,1,2,3,4],[3],[2,12,13],[996],[999],[996],[999],[71],[0,1,4,12,71],[10,11,13],[995],[999,0,1,4,10,11,12,13],[],[],[],[996],[999,4,12],[0,1],[10,11,13]]) Bf Bc Ch
theorem H7:Bs Tryz.prog 215 178 [(.tmp 10),(.tmp 11)] DU:=Aq Tryz.func215
def BO:CC:=Bh (cG Tryz.f205 8163 [[0,1,2,3,4,10,11,12,13,97],[1,12,13,15,97],[1,15],[995],[999,10,11,12,13],[13,16,17],[11,17],[18,19],[12,20],[125],[10,18,19,20,125],[1],[1,16],[16],[2],[2,16]])
def Cw:CC:=CV (cG Tryz.f205 4067 [[0,1,2,3,4,10,11,12,13,75],[75,80],[995],[999,80],[994]]) BO
def Cv:CC:=CV (cG Tryz.f205 995 [[0,1,2,3,4,10,11,12,13,14],[56],[14,56],[],[14],[999],[994]]) Cw
def AL:CC:=CV (cG Tryz.f205 19 [[0,1,2,3,4,10,11,12],[25],[0,1,2,3,4,10,11,12,25],[995],[999,0,1,2,3,4,10,11,12],[32],[0,1,2,3,4,10,11,12,32],[995],[999,0,1,2,3,4,10,11,12],[39],[39],[],[999],[994]]) Cv
def Ei:CC:=CV (cG Tryz.f205 1 [[0,1,2,3,4,10],[11],[996]]) AL
theorem IA:Bs Tryz.prog 205 148 [] Ei:=Aq Tryz.func205
def Dp:CC:=Bh (cG Tryz.f198 1 [[0,1,4],[0,1,4]])
theorem Ht:Bs Tryz.prog 198 14 [] Dp:=Aq Tryz.func198
end Go.Proofs.YtlaapfplenlfaaaGreat
namespace Go.Proofs.YtlaapfplenlfaaaGreat
open Go Go.G Go.Proofs Go.PL
theorem Gf{P:Program}{K:Sta->Prop}{rest:List CO}{s:Nat->A}{H:Hp}{dd:Option Nat}{nm:Nm}{ix:Nat}{un:List Nat}{l:Bool}{lg:Lg}{o:Operand}{g:FuncId}{aa:Array Operand}{ts:Array TypeId}{L:List A}{x:A}(ho:evs s o=.fnc g [] [])(hs:G.Spec P g L x)(hL:aa.toList.map (evs s)=L)(hb:L.all A.bare=true)(h:AE P K rest (Cc l ix ⟨[],[]⟩ lg) (Sta.put ⟨s,H⟩ dd x H)) :
  AE P K (⟨dd,.call { callee:=.value o,args:=aa,argTypes:=ts },none,nm,ix,un,l⟩::rest) lg ⟨s,H⟩:=by
 subst hL;exact P0 ho (by simpa using hs) (by simpa using hb) h
instance:Inhabited Sc:=⟨sc0⟩
def B8(a b:Sc):Bool:=decide (a.i<b.i)
theorem aD(a b:Sc):decide (Gq a.i b.i<0)=B8 a b:=by
 unfold Gq B8;by_cases h:a.i<b.i
 ·rw[if_pos oF];simp[h]
 ·rw[if_neg oF];by_cases h2:b.i<a.i
  ·rw[if_pos oF];simp[h]
  ·rw[if_neg oF];simp[h]
abbrev DF:A:=.fnc 199 [] []
theorem E5:F5 (fun _=>DF):=kg Ak Ak
theorem EF(a b:Sc):G.Spec Tryz.prog 199 [Jd a,Jd b] (iv (Gq a.i b.i)):=by
 refine Aj au iS fun w0 I0=>?_;rw[Ao RB.eq_1];simp[Jd,QA];refine Ae (Uu a.i b.i) rfl ?_;simp;exact Ad rfl
abbrev Br(d:Array Sc)(v:Nat):Fam:=lM d.toList v
theorem BT{d:Array Sc}{i:Nat}(h:i<d.size):(d.toList.map Jd)[i]? = some (Jd d[i]!):=by
 rw[List.getElem?_map,Array.getElem?_toList,getElem!_pos d i h,Array.getElem?_eq_getElem h];rfl
theorem Nc{d:Array Sc}{i j:Nat}:(Sort.swp d i j).toList.map Jd=((d.toList.map Jd).set i (Jd d[j]!)).set j (Jd d[i]!):=by
 unfold Sort.swp;simp[List.map_set]
theorem G0{d:Array Sc}{i j:Nat}:(Sort.swp d i j).size=d.size:=by simp[Sort.swp]
theorem JR{d:Array Sc}{i j:Nat}(hi:i<d.size)(hj:j<d.size):((d.toList.map Jd).set i (Jd d[j]!))[j]? = some (Jd d[j]!):=by
 by_cases e:i=j
 ·subst e;rw[List.getElem?_set_self (by simpa using hi)]
 ·rw[List.getElem?_set_ne e,BT hj]
variable {n0:Nat} {w0:World} {I0:Nat->Prop} {M0:Nm->Nat->Prop} {m0:Mu} {Q:Exit->Sta->Prop} {v:Nat}
abbrev Ji(n v r:Nat):A:=.osl [r] v 2 0 n
theorem Aen{a n:Nat}{b i:Int}(hn:n<=1000)(ha:a<=1000):∀(j:Nat)(d:Array Sc)(H:Hp),d.size=n->j<n->(∀p,H (0::p)=(Br d v).F 0 p) ->
  (∀(H':Hp)(st:List (Nat × A)),(∀p,H' (0::p)=(Br (Sort.insInner B8 a j d) v).F 0 p)->Q (.exit 2) ⟨lk ([(0,Ji n v 0),(1,iv a),(2,iv b),(3,DF),(8,iv i)]++st),H'⟩) ->
  LoopC (En Tryz.prog w0 I0 M0 n0 m0) Bl Q ⟨lk [(0,Ji n v 0),(1,iv a),(2,iv b),(3,DF),(8,iv i),(9,iv j)],H⟩:=by
 intro j;induction j with
 |zero=>
  intro d H hd hj hH hq;refine Ab Ah (Ao Bl.eq_1) ?_;simp[show ¬(a:Int)<0 by omega];rw[AR];simp;exact hq H [(9,iv 0),(34,bv false)] hH
 |succ j ih=>
  intro d H hd hj hH hq;have h0:=hH [];have g1:=BT (d:=d) (i:=j+1) oF;have g0:=BT (d:=d) (i:=j) oF;rw[Sort.insInner]at hq;have e1:i64.wrap ((j:Int)+1-1)=(j:Int):=AU;simp only[Int.add_sub_cancel]at e1;refine Ab Ah (Ao Bl.eq_1) ?_;by_cases h1:a<j+1
  ·have hc:=aD d[j+1]! d[j]!;simp only[MJ]at h0;generalize hx:d[j+1]! = x at *;generalize hy:d[j]! = y at *;simp[show(a:Int)<j+1 by omega,h0,e1,g1,g0,hj,show j<n from oF,show(j:Int)+1<n by omega,show(j:Int)<n by omega,show(0:Int)<=(j:Int)+1 by omega,DN];rw[AR];simp;refine Gf rfl (EF x y) iS rfl ?_;cases hL:B8 x y with
   |false=>
    rw[hL]at hc hq;rw[if_neg iS]at hq;have hc':¬Gq x.i y.i<0:=by simpa using hc
    simp[hc'];exact hq H [(9,iv (j+1:Nat)),(34,bv false)] (fun p=>by simp[hH])
   |true=>
    rw[hL]at hc hq;rw[if_pos (by simp;omega)]at hq;have hc':Gq x.i y.i<0:=by simpa using hc
    have g2:=JR (d:=d) (i:=j+1) (j:=j) oF oF;have hs:=Nc (d:=d) (i:=j+1) (j:=j);rw[hx,hy]at hs;rw[hy]at g2;simp[hc',h0,e1,g1,g0,g2,hj,show j<n from oF,show(j:Int)+1<n by omega,show(j:Int)<n by omega,show(0:Int)<=(j:Int)+1 by omega,DN];exact ih (Sort.swp d (j+1) j) _ (by rw[G0];exact hd) oF (fun p=>by by_cases hp:p=[]<;>simp[hp,hs,Aa,hH]) hq
  ·rw[if_neg (by simp;omega)]at hq;simp[show ¬(a:Int)<j+1 by omega];rw[AR];simp;exact hq H [(9,iv (j+1:Nat)),(34,bv false)] hH
theorem MV(lt:Sc->Sc->Bool)(a:Nat):∀(j:Nat)(d:Array Sc),(Sort.insInner lt a j d).size=d.size
 |0,d=>rfl
 |j+1,d=>by
  unfold Sort.insInner;split
  ·rw[MV lt a j,G0]
  ·rfl
theorem Aer{a b n:Nat}(hn:n<=1000)(ha:a<=1000)(hb:b<=n):∀(m i:Nat)(d:Array Sc)(H:Hp),(i+m=b\/(b<=i/\m=0/\i<=1001))->d.size=n->(∀p,H (0::p)=(Br d v).F 0 p) ->
  (∀(H':Hp)(st:List (Nat × A)),(∀p,H' (0::p)=(Br (Sort.insOuter B8 a b i d) v).F 0 p)->Q (.exit 0) ⟨lk st,H'⟩) ->
  LoopC (En Tryz.prog w0 I0 M0 n0 m0) Bm Q ⟨lk [(0,Ji n v 0),(1,iv a),(2,iv b),(3,DF),(8,iv i)],H⟩:=by
 intro m;induction m with
 |zero=>
  intro i d H hi hd hH hq;rw[Sort.insOuter,if_neg oF]at hq;refine Ab Ah (BG Bm.eq_1) ?_;simp[show ¬(i:Int)<b by omega,show ¬i<b from oF];exact hq H [(0,Ji n v 0),(1,iv a),(2,iv b),(3,DF),(8,iv i),(14,bv false)] hH
 |succ m ih=>
  intro i d H hi hd hH hq;have hib:i<b:=oF
  have e1:=Ap i;rw[Sort.insOuter,if_pos hib]at hq;refine Ab Ah (BG Bm.eq_1) ?_;simp[show(i:Int)<b by omega,hib];refine Aen (n:=n) (v:=v) hn ha i d H hd oF hH fun H' st h'=>?_;simp[e1];exact ih (i+1) _ H' oF (by rw[MV];exact hd) h' hq
theorem RV(lt:Sc->Sc->Bool)(a b:Nat):∀(m i:Nat)(d:Array Sc),b-i<=m->(Sort.insOuter lt a b i d).size=d.size
 |0,i,d,h=>by rw[Sort.insOuter,if_neg oF]
 |m+1,i,d,h=>by
  rw[Sort.insOuter];split
  ·rw[RV lt a b m _ _ oF,MV]
  ·rfl
theorem R6(n v:Nat):F5 (fun r=>Ji n v r):=BH
theorem dY(d:Array Sc)(v a b:Nat)(hn:d.size<=900)(ha:a<=900)(hb:b<=d.size):SpecF Tryz.prog 208 (fun r=>[Ji d.size v r,iv a,iv b,DF]) (Br d v) (fun _=>.tup []) (Br (Sort.insertionSort B8 d a b) v):=by
 refine Az GX iS (Af (R6 _ _) (Af AH (Af AH (Af E5 Ak)))) (Bj Ak) fun w0 I0 M0 m0=>?_;have e1:=Ap a;rw[BG Da.eq_1];simp[e1];refine LoopC.le (Al [(0,Ji d.size v 0),(1,iv a),(2,iv b),(3,DF),(8,iv (a+1:Nat))] iS) ?_;refine Aer (n:=d.size) (v:=v) oF oF hb (b-(a+1)) (a+1) d _ oF rfl (fun p=>iS) fun H' st h'=>?_;simp;exact Bg rfl rfl (fun p=>h' p)
theorem Ad7{n:Nat}(hn:n<=1000):∀(m i j:Nat)(d:Array Sc)(H:Hp),j-i<=m->i<=n->j<n->d.size=n->(∀p,H (0::p)=(Br d v).F 0 p) ->
  (∀(H':Hp)(st:List (Nat × A)),(∀p,H' (0::p)=(Br (Sort.reverseLoop i j d) v).F 0 p)->Q (.exit 0) ⟨lk st,H'⟩) ->
  LoopC (En Tryz.prog w0 I0 M0 n0 m0) AZ Q ⟨lk [(0,Ji n v 0),(8,iv i),(9,iv j)],H⟩:=by
 intro m;induction m with
 |zero=>
  intro i j d H hm hi hj hd hH hq;rw[Sort.reverseLoop,if_neg oF]at hq;refine Ab Ah (Ao AZ.eq_1) ?_;simp[show ¬(i:Int)<j by omega,show ¬i<j from oF];exact hq H [(0,Ji n v 0),(8,iv i),(9,iv j),(15,bv false)] hH
 |succ m ih=>
  intro i j d H hm hi hj hd hH hq;by_cases hij:i<j
  ·rw[Sort.reverseLoop,if_pos hij]at hq;have h0:=hH [];simp only[MJ]at h0;have e1:=Ap i;have e2:i64.wrap ((j:Int)-1)=((j-1:Nat):Int):=AU;have g1:=BT (d:=d) (i:=i) oF;have g0:=BT (d:=d) (i:=j) oF;have g2:=JR (d:=d) (i:=i) (j:=j) oF oF;have hs:=Nc (d:=d) (i:=i) (j:=j);generalize d[i]! = x at g1 g2 hs;generalize d[j]! = y at g0 g2 hs;refine Ab Ah (Ao AZ.eq_1) ?_;simp[hij,show(i:Int)<j by omega,h0,g0,g1,g2,e1,e2,show(i:Int)<n by omega,show(j:Int)<n by omega,show i<n from oF,hj,DN];refine LoopC.le (Al [(0,Ji n v 0),(8,iv (i+1:Nat)),(9,iv (j-1:Nat))] iS) ?_;exact ih (i+1) (j-1) (Sort.swp d i j) _ oF oF oF (by rw[G0];exact hd) (fun p=>by by_cases hp:p=[]<;>simp[hp,hs,Aa,hH]) hq
  ·rw[Sort.reverseLoop,if_neg hij]at hq;refine Ab Ah (Ao AZ.eq_1) ?_;simp[show ¬(i:Int)<j by omega,hij];exact hq H [(0,Ji n v 0),(8,iv i),(9,iv j),(15,bv false)] hH
theorem gu(d:Array Sc)(v a b:Nat)(hn:d.size<=900)(ha:a<=d.size)(hb:1<=b)(hb2:b<=d.size):SpecF Tryz.prog 212 (fun r=>[Ji d.size v r,iv a,iv b,DF]) (Br d v) (fun _=>.tup []) (Br (Sort.reverseRange d a b) v):=by
 refine Az G8 iS (Af (R6 _ _) (Af AH (Af AH (Af E5 Ak)))) (Bj Ak) fun w0 I0 M0 m0=>?_;have e1:i64.wrap ((b:Int)-1)=((b-1:Nat):Int):=AU;rw[BG De.eq_1];simp[e1];refine Ad7 (n:=d.size) (v:=v) oF (b-1-a) a (b-1) d _ (Cq _) ha oF rfl (fun p=>iS) fun H' st h'=>?_;simp;exact Bg rfl rfl (fun p=>h' p)
def ceF(s:Nat):Fam:=⟨fun r p=>if p=[]then ⟨1,.cells [iv s]⟩else ⟨0,.none⟩,fun {g δ r r'} hg hd p=>by
  by_cases h1:p=[]
  ·rw[if_pos h1];exact Fam.cells_ren (by simp[A.renL,A.ren])
  ·rw[if_neg h1];rfl,fun {D r} hD p=>by
  by_cases h1:p=[]
  ·rw[if_pos h1];simp[Ob.refs,A.refsL,A.refs]
  ·rw[if_neg h1];trivial⟩
@[simp]theorem Anj{s r:Nat}{p:Nm}:(ceF s).F r p=if p=[]then ⟨1,.cells [iv s]⟩else ⟨0,.none⟩:=rfl
abbrev ceP(q:Nat):A:=.pob [q] 1 0
theorem PD(d:Array Sc)(v a b s:Nat)(hn:d.size<=900)(ha:a<d.size)(hb:b<d.size)(hs:s<=900):MR Tryz.prog 223 (fun r q=>[Ji d.size v r,iv a,iv b,ceP q,DF]) ((Br d v).two (ceF s)) (fun _ _=>.tup [iv (Sort.order2 B8 d a b s).1,iv (Sort.order2 B8 d a b s).2.1]) ((Br d v).two (ceF (Sort.order2 B8 d a b s).2.2)):=by
 refine Iq I5 iS (AF (BD (R6 _ _)) (AF (BD AH) (AF (BD AH) (AF (JN AB) (AF (BD E5) E6))))) (cY (AF (BD AH) (AF (BD AH) E6))) fun w0 I0 M0 m0=>?_;have ga:=BT (d:=d) (i:=a) oF;have gb:=BT (d:=d) (i:=b) oF;have hc:=aD d[b]! d[a]!;have e1:=Ap s;unfold Sort.order2;generalize d[a]! = x at *;generalize d[b]! = y at *;generalize d.size=n at hn ha hb ⊢;rw[Ao Ex.eq_1];simp[ga,gb,ha,hb,show(a:Int)<n by omega,show(b:Int)<n by omega,DN];refine Gf rfl (EF y x) iS rfl ?_;cases hL:B8 y x with
 |true=>
  rw[hL]at hc;have hc':Gq y.i x.i<0:=by simpa using hc
  simp[hc',e1,Aa];exact KU rfl rfl (fun p=>iS) (fun p=>by by_cases hp:p=[]<;>simp[hp,Aa])
 |false=>
  rw[hL]at hc;have hc':¬Gq y.i x.i<0:=by simpa using hc
  simp[hc'];exact KU rfl rfl (fun p=>iS) (fun p=>iS)
theorem SV(lt:Sc->Sc->Bool)(d:Array Sc)(a b s n:Nat)(ha:a<n)(hb:b<n)(hs:s<=100):(Sort.order2 lt d a b s).1<n/\(Sort.order2 lt d a b s).2.1<n/\(Sort.order2 lt d a b s).2.2<=s+1:=by
 unfold Sort.order2;split
 ·exact⟨hb,ha,iS⟩
 ·exact⟨ha,hb,iS⟩
theorem g9(d:Array Sc)(v a b c s:Nat)(hn:d.size<=900)(ha:a<d.size)(hb:b<d.size)(hcc:c<d.size)(hs:s<=90):MR Tryz.prog 222 (fun r q=>[Ji d.size v r,iv a,iv b,iv c,ceP q,DF]) ((Br d v).two (ceF s)) (fun _ _=>iv (Sort.median B8 d a b c s).1) ((Br d v).two (ceF (Sort.median B8 d a b c s).2)):=by
 refine Iq IU iS (AF (BD (R6 _ _)) (AF (BD AH) (AF (BD AH) (AF (BD AH) (AF (JN AB) (AF (BD E5) E6)))))) (BD AH) fun w0 I0 M0 m0=>?_;obtain⟨q1,q2,q3⟩:=SV B8 d a b s d.size ha hb oF;have h1:=PD d v a b s hn ha hb oF;unfold Sort.median;simp only;generalize Sort.order2 B8 d a b s=R at h1 q1 q2 q3 ⊢;obtain⟨p1,p2,p3⟩:=SV B8 d R.2.1 c R.2.2 d.size q2 hcc oF;have h2:=PD d v R.2.1 c R.2.2 hn q2 hcc oF;generalize Sort.order2 B8 d R.2.1 c R.2.2=S2 at h2 p1 p2 p3 ⊢;obtain⟨z1,z2,z3⟩:=SV B8 d R.1 S2.1 S2.2.2 d.size q1 p1 oF;have h3:=PD d v R.1 S2.1 S2.2.2 hn q1 p1 oF;generalize Sort.order2 B8 d R.1 S2.1 S2.2.2=T3 at h3 z1 z2 z3 ⊢;rw[Ao Eu.eq_1];simp;refine Mt 0 1 oF h1 (fun p=>iS) (fun p=>iS) iS iS ?_;simp;refine Mt 0 1 oF h2 (fun p=>iS) (fun p=>iS) iS iS ?_;simp;refine Mt 0 1 oF h3 (fun p=>iS) (fun p=>iS) iS iS ?_;simp;exact KU rfl rfl (fun p=>iS) (fun p=>iS)
def Ql:Sort.Hint->Int
 |.unknown=>0
 |.increasing=>1
 |.decreasing=>2
theorem choose_spec(d:Array Sc)(v a b:Nat)(hn:d.size<=900)(hab:a+13<=b)(hb:b<=d.size)(hl:b-a<50):SpecF Tryz.prog 211 (fun r=>[Ji d.size v r,iv a,iv b,DF]) (Br d v) (fun _=>.tup [iv (Sort.choosePivot B8 d a b).1,iv (Ql (Sort.choosePivot B8 d a b).2)]) (Br d v):=by
 refine Az HC iS (Af (R6 _ _) (Af AH (Af AH (Af E5 Ak)))) (Bj (Af AH (Af AH Ak))) fun w0 I0 M0 m0=>?_;obtain⟨l,hll⟩:∃l,l=b-a:=⟨_,rfl⟩;have e1:i64.wrap ((b:Int)-a)=(l:Int):=AU;obtain⟨q,hq⟩:∃q,q=l / 4:=⟨_,rfl⟩;have e2:i64.wrap ((l:Int).tdiv 4)=(q:Int):=by rw[Int.tdiv_eq_ediv_of_nonneg oF,AJ oF oF];omega
 have e3:i64.wrap ((q:Int)*1)=(q:Int):=AU;have e4:i64.wrap ((q:Int)*2)=((q*2:Nat):Int):=AU;have e5:i64.wrap ((q:Int)*3)=((q*3:Nat):Int):=AU;have e6:i64.wrap ((a:Int)+q)=((a+q:Nat):Int):=AU;have e7:i64.wrap ((a:Int)+(q:Int)*2)=((a+q*2:Nat):Int):=AU;have e8:i64.wrap ((a:Int)+(q:Int)*3)=((a+q*3:Nat):Int):=AU;have e9:i64.wrap ((l:Int) / 4)=(q:Int):=AU;have e10:i64.wrap (q:Int)=(q:Int):=CX;have hm:=g9 d v (a+q) (a+q*2) (a+q*3) 0 hn oF oF oF oF;unfold Sort.choosePivot;simp only[<-hll,<-hq,Nat.mul_one,ge_iff_le,if_pos (show 8<=l from oF),if_neg (show ¬50<=l from oF)];generalize Sort.median B8 d (a+q) (a+q*2) (a+q*3) 0=R at hm ⊢;rw[BG Du.eq_1];simp[e1,e2,e3,e4,e5,e6,e7,e8,e9,e10,show(8:Int)<=l by omega,show ¬(50:Int)<=l by omega,Aa];refine Mt 0 1 oF hm (fun p=>iS) (fun p=>?_) iS iS ?_
 ·by_cases hp:p=[]
  ·subst hp;simp[HO]
  ·simp[HO,hp,Ne.symm hp]
 rw[AhQ];simp;rw[(Ao Dh.eq_1)];by_cases h0:R.2=0
 ·simp[h0,Ql];exact Av rfl rfl (fun p=>iS)
 ·by_cases h12:R.2=12
  ·simp[h12,Ql];exact Av rfl rfl (fun p=>iS)
  ·have h0':¬(R.2:Int)=0:=oF
   have h12':¬(R.2:Int)=12:=oF
   simp[h0,h12,h0',h12',Ql];exact Av rfl rfl (fun p=>iS)
theorem qn(lt:Sc->Sc->Bool)(d:Array Sc)(b:Nat):∀(m i:Nat),b-i<=m->i<=b->i<=Sort.scanSorted lt d b i/\Sort.scanSorted lt d b i<=b
 |0,i,h,hi=>by rw[Sort.scanSorted,if_neg (by simp;omega)];omega
 |m+1,i,h,hi=>by
  rw[Sort.scanSorted];split
  ·rename_i hc;simp at hc;have:=qn lt d b m (i+1) oF oF;omega
  ·omega
theorem AbJ{n a b:Nat}{k:Int}{d:Array Sc}{H:Hp}(hn:n<=900)(hb:b<=n)(hd:d.size=n)(hH:∀p,H (0::p)=(Br d v).F 0 p):∀(m i:Nat),b-i<=m->1<=i->i<=b ->
  (∀(st:List (Nat × A)),Q (.exit 2) ⟨lk ([(0,Ji n v 0),(1,iv a),(2,iv b),(3,DF),(9,iv (Sort.scanSorted B8 d b i)),(10,iv k)]++st),H⟩) ->
  LoopC (En Tryz.prog w0 I0 M0 n0 m0) AG Q ⟨lk [(0,Ji n v 0),(1,iv a),(2,iv b),(3,DF),(9,iv i),(10,iv k)],H⟩:=by
 intro m;induction m with
 |zero=>
  intro i hm h1 hi hq;rw[Sort.scanSorted,if_neg (by simp;omega)]at hq;refine Ab Ah (Ao AG.eq_1) ?_;simp[show ¬(i:Int)<b by omega,show ¬i<b from oF];rw[AR];simp;exact hq [(36,bv false)]
 |succ m ih=>
  intro i hm h1 hi hq;by_cases hib:i<b
  ·have h0:=hH [];simp only[MJ]at h0;have g1:=BT (d:=d) (i:=i) oF;have g0:=BT (d:=d) (i:=i-1) oF;have e1:=Ap i;have e2:i64.wrap ((i:Int)-1)=((i-1:Nat):Int):=AU;have hc:=aD d[i]! d[i-1]!;rw[Sort.scanSorted]at hq;generalize d[i]! = x at g1 hc hq;generalize d[i-1]! = y at g0 hc hq;refine Ab Ah (Ao AG.eq_1) ?_;simp[hib,show(i:Int)<b by omega,h0,g1,g0,e2,show(i:Int)<n by omega,show i<n by omega,show i-1<n from oF,show((i-1:Nat):Int)<n by omega,DN];rw[AR];simp;refine Gf rfl (EF x y) iS rfl ?_;cases hL:B8 x y with
   |true=>
    rw[hL]at hc hq;rw[if_neg iS]at hq;have hc':Gq x.i y.i<0:=by simpa using hc
    simp[hc'];exact hq [(36,bv false)]
   |false=>
    rw[hL]at hc hq;rw[if_pos (by simp[hib])]at hq;have hc':¬Gq x.i y.i<0:=by simpa using hc
    simp[hc',e1];exact ih (i+1) oF oF oF hq
  ·rw[Sort.scanSorted,if_neg (by simp;omega)]at hq;refine Ab Ah (Ao AG.eq_1) ?_;simp[show ¬(i:Int)<b by omega,hib];rw[AR];simp;exact hq [(36,bv false)]
theorem Zc(d:Array Sc)(a b:Nat)(hl:b-a<50):Sort.partialInsertionSort B8 d a b=(d,decide (Sort.scanSorted B8 d b (a+1)=b)):=by
 unfold Sort.partialInsertionSort;rw[Sort.partialIns];simp only;split
 ·rename_i h;simp[h]
 ·rename_i h;simp[h,hl]
theorem eH(d:Array Sc)(v a b:Nat)(hn:d.size<=900)(hab:a<b)(hb:b<=d.size)(hl:b-a<50):SpecF Tryz.prog 213 (fun r=>[Ji d.size v r,iv a,iv b,DF]) (Br d v) (fun _=>bv (Sort.partialInsertionSort B8 d a b).2) (Br (Sort.partialInsertionSort B8 d a b).1 v):=by
 rw[Zc d a b hl];refine Az EI iS (Af (R6 _ _) (Af AH (Af AH (Af E5 Ak)))) AH fun w0 I0 M0 m0=>?_;have e1:=Ap a;have e2:i64.wrap ((b:Int)-a)=((b-a:Nat):Int):=AU;have hsc:=qn B8 d b (b-(a+1)) (a+1) oF oF;have l1:=fun (Q:Exit->Sta->Prop) (H:Hp) (k:Int) (hH:∀p,H (0::p)=(Br d v).F 0 p)=>AbJ (n0:=141) (w0:=w0) (I0:=I0) (M0:=M0) (m0:=m0) (Q:=Q) (v:=v) (k:=k) (a:=a) hn hb rfl hH (b-(a+1)) (a+1) (Cq _) oF oF;generalize Sort.scanSorted B8 d b (a+1)=z at hsc l1 ⊢;rw[BG Cp.eq_1];simp[e1];refine Ab Ah (pe3 Ci.eq_1) ?_;simp;refine LoopC.le (Al [(0,Ji d.size v 0),(1,iv a),(2,iv b),(3,DF),(9,iv (a+1:Nat)),(10,iv 0)] iS) ?_;refine l1 _ _ 0 (fun p=>iS) fun st=>?_;by_cases hz:z=b
 ·simp[hz];exact Av rfl rfl (fun p=>iS)
 ·have hz':¬(z:Int)=b:=oF
  simp[hz,hz',e2,show((b-a:Nat):Int)<50 by omega];exact Av rfl rfl (fun p=>iS)
theorem Ahj{n a j:Nat}{z:Sc}{d:Array Sc}{H:Hp}(hn:n<=900)(ha:a<n)(hj:j<n)(hd:d.size=n)(hz:d[a]! = z)(hH:∀p,H (0::p)=(Br d v).F 0 p):∀(m i:Nat),j+1-i<=m->i<=n ->
  (∀(st:List (Nat × A)),Q (.exit 0) ⟨lk ([(0,Ji n v 0),(1,iv a),(4,DF),(12,iv (Sort.scanUp (fun x=>B8 x z) d j i)),(13,iv j)]++st),H⟩) ->
  LoopC (En Tryz.prog w0 I0 M0 n0 m0) Bf Q ⟨lk [(0,Ji n v 0),(1,iv a),(4,DF),(12,iv i),(13,iv j)],H⟩:=by
 intro m;induction m with
 |zero=>
  intro i hm hi hq;rw[Sort.scanUp,if_neg (by simp;omega)]at hq;refine Ab Ah (Ao Bf.eq_1) ?_;simp[show ¬(i:Int)<=j by omega,show ¬i<=j from oF];rw[AR];simp;exact hq [(47,bv false)]
 |succ m ih=>
  intro i hm hi hq;by_cases hij:i<=j
  ·have h0:=hH [];simp only[MJ]at h0;have gi:=BT (d:=d) (i:=i) oF;have ga:=BT (d:=d) (i:=a) oF;rw[hz]at ga;have e1:=Ap i;rw[Sort.scanUp]at hq;generalize d[i]! = x at gi hq;have hc:=aD x z;refine Ab Ah (Ao Bf.eq_1) ?_;simp[hij,show(i:Int)<=j by omega,h0,gi,ga,show(i:Int)<n by omega,show i<n from oF,ha,show(a:Int)<n by omega,DN];rw[AR];simp;refine Gf rfl (EF x z) iS rfl ?_;cases hL:B8 x z with
   |true=>
    rw[hL]at hc hq;have hc':Gq x.i z.i<0:=by simpa using hc
    rw[if_pos (by simp[hij])]at hq;simp[hc',e1];exact ih (i+1) oF oF hq
   |false=>
    rw[hL]at hc hq;have hc':¬Gq x.i z.i<0:=by simpa using hc
    rw[if_neg iS]at hq;simp[hc'];exact hq [(47,bv false)]
  ·rw[Sort.scanUp,if_neg (by simp;omega)]at hq;refine Ab Ah (Ao Bf.eq_1) ?_;simp[show ¬(i:Int)<=j by omega,hij];rw[AR];simp;exact hq [(47,bv false)]
theorem AiE{n a j:Nat}{z:Sc}{d:Array Sc}{H:Hp}(hn:n<=900)(ha:a<n)(hj:j<n)(hd:d.size=n)(hz:d[a]! = z)(hH:∀p,H (0::p)=(Br d v).F 0 p):∀(m i:Nat),j+1-i<=m->i<=n ->
  (∀(st:List (Nat × A)),Q (.exit 6) ⟨lk ([(0,Ji n v 0),(1,iv a),(4,DF),(12,iv (Sort.scanUp (fun x=>B8 x z) d j i)),(13,iv j)]++st),H⟩) ->
  LoopC (En Tryz.prog w0 I0 M0 n0 m0) Bd Q ⟨lk [(0,Ji n v 0),(1,iv a),(4,DF),(12,iv i),(13,iv j)],H⟩:=by
 intro m;induction m with
 |zero=>
  intro i hm hi hq;rw[Sort.scanUp,if_neg (by simp;omega)]at hq;refine Ab Ah (Ao Bd.eq_1) ?_;simp[show ¬(i:Int)<=j by omega,show ¬i<=j from oF];rw[AR];simp;exact hq [(120,bv false)]
 |succ m ih=>
  intro i hm hi hq;by_cases hij:i<=j
  ·have h0:=hH [];simp only[MJ]at h0;have gi:=BT (d:=d) (i:=i) oF;have ga:=BT (d:=d) (i:=a) oF;rw[hz]at ga;have e1:=Ap i;rw[Sort.scanUp]at hq;generalize d[i]! = x at gi hq;have hc:=aD x z;refine Ab Ah (Ao Bd.eq_1) ?_;simp[hij,show(i:Int)<=j by omega,h0,gi,ga,show(i:Int)<n by omega,show i<n from oF,ha,show(a:Int)<n by omega,DN];rw[AR];simp;refine Gf rfl (EF x z) iS rfl ?_;cases hL:B8 x z with
   |true=>
    rw[hL]at hc hq;have hc':Gq x.i z.i<0:=by simpa using hc
    rw[if_pos (by simp[hij])]at hq;simp[hc',e1];exact ih (i+1) oF oF hq
   |false=>
    rw[hL]at hc hq;have hc':¬Gq x.i z.i<0:=by simpa using hc
    rw[if_neg iS]at hq;simp[hc'];exact hq [(120,bv false)]
  ·rw[Sort.scanUp,if_neg (by simp;omega)]at hq;refine Ab Ah (Ao Bd.eq_1) ?_;simp[show ¬(i:Int)<=j by omega,hij];rw[AR];simp;exact hq [(120,bv false)]
theorem AhR{n a i:Nat}{z:Sc}{d:Array Sc}{H:Hp}(hn:n<=900)(ha:a<n)(hi:i<=n)(hi1:1<=i)(hd:d.size=n)(hz:d[a]! = z)(hH:∀p,H (0::p)=(Br d v).F 0 p):∀(j:Nat),j<n ->
  (∀(st:List (Nat × A)),Q (.exit 2) ⟨lk ([(0,Ji n v 0),(1,iv a),(4,DF),(12,iv i),(13,iv (Sort.scanDown (fun x=>!B8 x z) d i j))]++st),H⟩) ->
  LoopC (En Tryz.prog w0 I0 M0 n0 m0) Bc Q ⟨lk [(0,Ji n v 0),(1,iv a),(4,DF),(12,iv i),(13,iv j)],H⟩:=by
 intro j;induction j with
 |zero=>
  intro hj hq;rw[Sort.scanDown]at hq;refine Ab Ah (Ao Bc.eq_1) ?_;simp[show ¬(i:Int)<=0 by omega,show ¬i=0 from oF];rw[AR];simp;exact hq [(66,bv false)]
 |succ j ih=>
  intro hj hq;rw[Sort.scanDown]at hq;by_cases hij:i<=j+1
  ·have h0:=hH [];simp only[MJ]at h0;have gi:=BT (d:=d) (i:=j+1) oF;have ga:=BT (d:=d) (i:=a) oF;rw[hz]at ga;have e1:i64.wrap (((j+1:Nat):Int)-1)=(j:Int):=AU;have e2:i64.wrap (j:Int)=(j:Int):=CX;generalize d[j+1]! = x at gi hq;have hc:=aD x z;have hij':(i:Int)<=((j+1:Nat):Int):=oF
   have hj':((j+1:Nat):Int)<n:=oF
   generalize hjj:j+1=jj at gi hij hij' hj hj' e1 hq ⊢;refine Ab Ah (Ao Bc.eq_1) ?_;simp[hij,hij',h0,gi,ga,hj,hj',ha,show(a:Int)<n by omega,DN];rw[AR];simp;refine Gf rfl (EF x z) iS rfl ?_;cases hL:B8 x z with
   |true=>
    rw[hL]at hc hq;have hc':Gq x.i z.i<0:=by simpa using hc
    rw[if_neg iS]at hq;simp[hc'];exact hq [(66,bv false)]
   |false=>
    rw[hL]at hc hq;have hc':¬Gq x.i z.i<0:=by simpa using hc
    rw[if_pos (by simp[hij])]at hq;simp[hc',e1];exact ih oF hq
  ·rw[if_neg (by simp;omega)]at hq;refine Ab Ah (Ao Bc.eq_1) ?_;have hij':¬(i:Int)<=((j+1:Nat):Int):=oF
   generalize hjj:j+1=jj at hij hij' hq ⊢;simp[hij,hij'];rw[AR];simp;exact hq [(66,bv false)]
theorem AhN{n a i:Nat}{z:Sc}{d:Array Sc}{H:Hp}(hn:n<=900)(ha:a<n)(hi:i<=n)(hi1:1<=i)(hd:d.size=n)(hz:d[a]! = z)(hH:∀p,H (0::p)=(Br d v).F 0 p):∀(j:Nat),j<n ->
  (∀(st:List (Nat × A)),Q (.exit 8) ⟨lk ([(0,Ji n v 0),(1,iv a),(4,DF),(12,iv i),(13,iv (Sort.scanDown (fun x=>!B8 x z) d i j))]++st),H⟩) ->
  LoopC (En Tryz.prog w0 I0 M0 n0 m0) Be Q ⟨lk [(0,Ji n v 0),(1,iv a),(4,DF),(12,iv i),(13,iv j)],H⟩:=by
 intro j;induction j with
 |zero=>
  intro hj hq;rw[Sort.scanDown]at hq;refine Ab Ah (Ao Be.eq_1) ?_;simp[show ¬(i:Int)<=0 by omega,show ¬i=0 from oF];rw[AR];simp;exact hq [(139,bv false)]
 |succ j ih=>
  intro hj hq;rw[Sort.scanDown]at hq;by_cases hij:i<=j+1
  ·have h0:=hH [];simp only[MJ]at h0;have gi:=BT (d:=d) (i:=j+1) oF;have ga:=BT (d:=d) (i:=a) oF;rw[hz]at ga;have e1:i64.wrap (((j+1:Nat):Int)-1)=(j:Int):=AU;have e2:i64.wrap (j:Int)=(j:Int):=CX;generalize d[j+1]! = x at gi hq;have hc:=aD x z;have hij':(i:Int)<=((j+1:Nat):Int):=oF
   have hj':((j+1:Nat):Int)<n:=oF
   generalize hjj:j+1=jj at gi hij hij' hj hj' e1 hq ⊢;refine Ab Ah (Ao Be.eq_1) ?_;simp[hij,hij',h0,gi,ga,hj,hj',ha,show(a:Int)<n by omega,DN];rw[AR];simp;refine Gf rfl (EF x z) iS rfl ?_;cases hL:B8 x z with
   |true=>
    rw[hL]at hc hq;have hc':Gq x.i z.i<0:=by simpa using hc
    rw[if_neg iS]at hq;simp[hc'];exact hq [(139,bv false)]
   |false=>
    rw[hL]at hc hq;have hc':¬Gq x.i z.i<0:=by simpa using hc
    rw[if_pos (by simp[hij])]at hq;simp[hc',e1];exact ih oF hq
  ·rw[if_neg (by simp;omega)]at hq;refine Ab Ah (Ao Be.eq_1) ?_;have hij':¬(i:Int)<=((j+1:Nat):Int):=oF
   generalize hjj:j+1=jj at hij hij' hq ⊢;simp[hij,hij'];rw[AR];simp;exact hq [(139,bv false)]
theorem AhL{n a j:Nat}{z:Sc}{d:Array Sc}{H:Hp}(hn:n<=900)(ha:a<n)(hj:j<n)(hd:d.size=n)(hz:d[a]! = z)(hH:∀p,H (0::p)=(Br d v).F 0 p):∀(m i:Nat),j+1-i<=m->i<=n ->
  (∀(st:List (Nat × A)),Q (.exit 2) ⟨lk ([(0,Ji n v 0),(1,iv a),(4,DF),(11,iv (Sort.scanUp (fun x=>!B8 z x) d j i)),(12,iv j)]++st),H⟩) ->
  LoopC (En Tryz.prog w0 I0 M0 n0 m0) AP Q ⟨lk [(0,Ji n v 0),(1,iv a),(4,DF),(11,iv i),(12,iv j)],H⟩:=by
 intro m;induction m with
 |zero=>
  intro i hm hi hq;rw[Sort.scanUp,if_neg (by simp;omega)]at hq;refine Ab Ah (Ao AP.eq_1) ?_;simp[show ¬(i:Int)<=j by omega,show ¬i<=j from oF];rw[AR];simp;exact hq [(47,bv false)]
 |succ m ih=>
  intro i hm hi hq;by_cases hij:i<=j
  ·have h0:=hH [];simp only[MJ]at h0;have gi:=BT (d:=d) (i:=i) oF;have ga:=BT (d:=d) (i:=a) oF;rw[hz]at ga;have e1:=Ap i;rw[Sort.scanUp]at hq;generalize d[i]! = x at gi hq;have hc:=aD z x;refine Ab Ah (Ao AP.eq_1) ?_;simp[hij,show(i:Int)<=j by omega,h0,gi,ga,show(i:Int)<n by omega,show i<n from oF,ha,show(a:Int)<n by omega,DN];rw[AR];simp;refine Gf rfl (EF z x) iS rfl ?_;cases hL:B8 z x with
   |true=>
    rw[hL]at hc hq;have hc':Gq z.i x.i<0:=by simpa using hc
    rw[if_neg iS]at hq;simp[hc'];exact hq [(47,bv false)]
   |false=>
    rw[hL]at hc hq;have hc':¬Gq z.i x.i<0:=by simpa using hc
    rw[if_pos (by simp[hij])]at hq;simp[hc',e1];exact ih (i+1) oF oF hq
  ·rw[Sort.scanUp,if_neg (by simp;omega)]at hq;refine Ab Ah (Ao AP.eq_1) ?_;simp[show ¬(i:Int)<=j by omega,hij];rw[AR];simp;exact hq [(47,bv false)]
theorem Aji{n a i:Nat}{z:Sc}{d:Array Sc}{H:Hp}(hn:n<=900)(ha:a<n)(hi:i<=n)(hi1:1<=i)(hd:d.size=n)(hz:d[a]! = z)(hH:∀p,H (0::p)=(Br d v).F 0 p):∀(j:Nat),j<n ->
  (∀(st:List (Nat × A)),Q (.exit 4) ⟨lk ([(0,Ji n v 0),(1,iv a),(4,DF),(11,iv i),(12,iv (Sort.scanDown (fun x=>B8 z x) d i j))]++st),H⟩) ->
  LoopC (En Tryz.prog w0 I0 M0 n0 m0) AO Q ⟨lk [(0,Ji n v 0),(1,iv a),(4,DF),(11,iv i),(12,iv j)],H⟩:=by
 intro j;induction j with
 |zero=>
  intro hj hq;rw[Sort.scanDown]at hq;refine Ab Ah (Ao AO.eq_1) ?_;simp[show ¬(i:Int)<=0 by omega,show ¬i=0 from oF];rw[AR];simp;exact hq [(65,bv false)]
 |succ j ih=>
  intro hj hq;rw[Sort.scanDown]at hq;by_cases hij:i<=j+1
  ·have h0:=hH [];simp only[MJ]at h0;have gi:=BT (d:=d) (i:=j+1) oF;have ga:=BT (d:=d) (i:=a) oF;rw[hz]at ga;have e1:i64.wrap (((j+1:Nat):Int)-1)=(j:Int):=AU;have e2:i64.wrap (j:Int)=(j:Int):=CX;generalize d[j+1]! = x at gi hq;have hc:=aD z x;have hij':(i:Int)<=((j+1:Nat):Int):=oF
   have hj':((j+1:Nat):Int)<n:=oF
   generalize hjj:j+1=jj at gi hij hij' hj hj' e1 hq ⊢;refine Ab Ah (Ao AO.eq_1) ?_;simp[hij,hij',h0,gi,ga,hj,hj',ha,show(a:Int)<n by omega,DN];rw[AR];simp;refine Gf rfl (EF z x) iS rfl ?_;cases hL:B8 z x with
   |true=>
    rw[hL]at hc hq;have hc':Gq z.i x.i<0:=by simpa using hc
    rw[if_pos (by simp[hij])]at hq;simp[hc',e1];exact ih oF hq
   |false=>
    rw[hL]at hc hq;have hc':¬Gq z.i x.i<0:=by simpa using hc
    rw[if_neg iS]at hq;simp[hc'];exact hq [(65,bv false)]
  ·rw[if_neg (by simp;omega)]at hq;refine Ab Ah (Ao AO.eq_1) ?_;have hij':¬(i:Int)<=((j+1:Nat):Int):=oF
   generalize hjj:j+1=jj at hij hij' hq ⊢;simp[hij,hij'];rw[AR];simp;exact hq [(65,bv false)]
theorem Nl(p:Sc->Bool)(d:Array Sc)(j:Nat):∀(m i:Nat),j+1-i<=m->i<=Sort.scanUp p d j i/\(Sort.scanUp p d j i<=j+1\/Sort.scanUp p d j i=i)
 |0,i,h=>by rw[Sort.scanUp,if_neg (by simp;omega)];exact⟨Cq _,.inr rfl⟩
 |m+1,i,h=>by
  rw[Sort.scanUp];split
  ·rename_i hc;simp at hc;have:=Nl p d j m (i+1) oF;refine⟨oF,.inl ?_⟩;rcases this.2 with h|h<;>omega
  ·exact⟨Cq _,.inr rfl⟩
theorem Kc(p:Sc->Bool)(d:Array Sc)(i:Nat)(hi:1<=i):∀j:Nat,Sort.scanDown p d i j<=j/\(i-1<=Sort.scanDown p d i j\/Sort.scanDown p d i j=j)
 |0=>by rw[Sort.scanDown];exact⟨Cq _,.inr rfl⟩
 |j+1=>by
  rw[Sort.scanDown];split
  ·rename_i hc;simp at hc;have:=Kc p d i hi j;refine⟨oF,?_⟩;rcases this.2 with h|h
   ·exact .inl h
   ·left;omega
  ·exact⟨Cq _,.inr rfl⟩
theorem Aii{n a:Nat}(hn:n<=900)(ha:a<n):∀(m i j:Nat)(d:Array Sc)(H:Hp),j+1-i<=m->a+1<=i->i<=n->j<n->a<=j->i<=j+2->d.size=n->(∀p,H (0::p)=(Br d v).F 0 p) ->
  (∀(H':Hp)(x:A)(st:List (Nat × A)),(∀p,H' (0::p)=(Br (Sort.partLoop B8 a i j d).2 v).F 0 p)->a<=(Sort.partLoop B8 a i j d).1->(Sort.partLoop B8 a i j d).1<n->(Sort.partLoop B8 a i j d).2.size=n ->
   Q (.exit 4) ⟨lk ([(0,Ji n v 0),(1,iv a),(4,DF),(12,x),(13,iv (Sort.partLoop B8 a i j d).1)]++st),H'⟩) ->
  LoopC (En Tryz.prog w0 I0 M0 n0 m0) Ch Q ⟨lk [(0,Ji n v 0),(1,iv a),(4,DF),(12,iv i),(13,iv j)],H⟩:=by
 intro m;induction m using Nat.strongRecOn with
 |_ m ih=>
  intro i j d H hm h1 hi hj haj hij hd hH hq;rw[Sort.partLoop]at hq;have hu:=Nl (fun x=>B8 x d[a]!) d j (j+1-i) i (Cq _);have lu:=fun (Q:Exit->Sta->Prop)=>AiE (n0:=n0) (w0:=w0) (I0:=I0) (M0:=M0) (m0:=m0) (Q:=Q) (v:=v) (a:=a) (j:=j) (H:=H) hn ha hj hd rfl hH (j+1-i) i (Cq _) hi;generalize Sort.scanUp (fun x=>B8 x d[a]!) d j i=i2 at hq hu lu;have hi2:i2<=n:=by rcases hu.2 with h|h<;>omega
  have hdn:=Kc (fun x=>!B8 x d[a]!) d i2 oF j;have ld:=fun (Q:Exit->Sta->Prop)=>AhN (n0:=n0) (w0:=w0) (I0:=I0) (M0:=M0) (m0:=m0) (Q:=Q) (v:=v) (a:=a) (i:=i2) (H:=H) hn ha hi2 oF hd rfl hH j hj;generalize Sort.scanDown (fun x=>!B8 x d[a]!) d i2 j=j2 at hq hdn ld;refine Ab Ah (gm Ch.eq_1) ?_;simp;refine lu _ fun st=>?_;simp;refine ld _ fun st2=>?_;by_cases hc:j2<i2
  ·rw[if_pos hc]at hq;simp[hc,show(j2:Int)<i2 by omega];exact hq H (iv i2) [(144,bv true)] hH (by rcases hdn.2 with h|h<;>omega) oF hd
  ·rw[if_neg hc]at hq;have hg:j2-1+1-(i2+1)<j+1-i:=oF
   rw[dif_pos hg]at hq;have h0:=hH [];simp only[MJ]at h0;have e1:=Ap i2;have e2:i64.wrap ((j2:Int)-1)=((j2-1:Nat):Int):=AU;have g1:=BT (d:=d) (i:=i2) oF;have g0:=BT (d:=d) (i:=j2) oF;have g2:=JR (d:=d) (i:=i2) (j:=j2) oF oF;have hs:=Nc (d:=d) (i:=i2) (j:=j2);generalize d[i2]! = x at g1 g2 hs;generalize d[j2]! = y at g0 g2 hs;simp[hc,show ¬(j2:Int)<i2 by omega,h0,g0,g1,g2,e1,e2,show(i2:Int)<n by omega,show(j2:Int)<n by omega,show i2<n by omega,show j2<n from oF,DN];refine LoopC.le (Al [(0,Ji n v 0),(1,iv a),(4,DF),(12,iv (i2+1:Nat)),(13,iv (j2-1:Nat))] iS) ?_;exact ih (j2-1+1-(i2+1)) oF (i2+1) (j2-1) (Sort.swp d i2 j2) _ (Cq _) oF oF oF oF oF (by rw[G0];exact hd) (fun p=>by by_cases hp:p=[]<;>simp[hp,hs,Aa,hH]) hq
theorem AgL{n a:Nat}(hn:n<=900)(ha:a<n):∀(m i j:Nat)(d:Array Sc)(H:Hp),j+1-i<=m->a+1<=i->i<=n->j<n->a<=j->i<=j+2->d.size=n->(∀p,H (0::p)=(Br d v).F 0 p) ->
  (∀(H':Hp)(x:A)(st:List (Nat × A)),(∀p,H' (0::p)=(Br (Sort.partEqLoop B8 a i j d).2 v).F 0 p)->a<(Sort.partEqLoop B8 a i j d).1->(Sort.partEqLoop B8 a i j d).1<=n->(Sort.partEqLoop B8 a i j d).2.size=n ->
   Q (.exit 0) ⟨lk ([(0,Ji n v 0),(1,iv a),(4,DF),(11,iv (Sort.partEqLoop B8 a i j d).1),(12,x)]++st),H'⟩) ->
  LoopC (En Tryz.prog w0 I0 M0 n0 m0) BQ Q ⟨lk [(0,Ji n v 0),(1,iv a),(4,DF),(11,iv i),(12,iv j)],H⟩:=by
 intro m;induction m using Nat.strongRecOn with
 |_ m ih=>
  intro i j d H hm h1 hi hj haj hij hd hH hq;rw[Sort.partEqLoop]at hq;have hu:=Nl (fun x=>!B8 d[a]! x) d j (j+1-i) i (Cq _);have lu:=fun (Q:Exit->Sta->Prop)=>AhL (n0:=n0) (w0:=w0) (I0:=I0) (M0:=M0) (m0:=m0) (Q:=Q) (v:=v) (a:=a) (j:=j) (H:=H) hn ha hj hd rfl hH (j+1-i) i (Cq _) hi;generalize Sort.scanUp (fun x=>!B8 d[a]! x) d j i=i2 at hq hu lu;have hi2:i2<=n:=by rcases hu.2 with h|h<;>omega
  have hdn:=Kc (fun x=>B8 d[a]! x) d i2 oF j;have ld:=fun (Q:Exit->Sta->Prop)=>Aji (n0:=n0) (w0:=w0) (I0:=I0) (M0:=M0) (m0:=m0) (Q:=Q) (v:=v) (a:=a) (i:=i2) (H:=H) hn ha hi2 oF hd rfl hH j hj;generalize Sort.scanDown (fun x=>B8 d[a]! x) d i2 j=j2 at hq hdn ld;refine Ab Ah (gm BQ.eq_1) ?_;simp;refine lu _ fun st=>?_;simp;refine ld _ fun st2=>?_;by_cases hc:j2<i2
  ·rw[if_pos hc]at hq;simp[hc,show(j2:Int)<i2 by omega];exact hq H (iv j2) [(70,bv true)] hH oF hi2 hd
  ·rw[if_neg hc]at hq;have hg:j2-1+1-(i2+1)<j+1-i:=oF
   rw[dif_pos hg]at hq;have h0:=hH [];simp only[MJ]at h0;have e1:=Ap i2;have e2:i64.wrap ((j2:Int)-1)=((j2-1:Nat):Int):=AU;have g1:=BT (d:=d) (i:=i2) oF;have g0:=BT (d:=d) (i:=j2) oF;have g2:=JR (d:=d) (i:=i2) (j:=j2) oF oF;have hs:=Nc (d:=d) (i:=i2) (j:=j2);generalize d[i2]! = x at g1 g2 hs;generalize d[j2]! = y at g0 g2 hs;simp[hc,show ¬(j2:Int)<i2 by omega,h0,g0,g1,g2,e1,e2,show(i2:Int)<n by omega,show(j2:Int)<n by omega,show i2<n by omega,show j2<n from oF,DN];refine LoopC.le (Al [(0,Ji n v 0),(1,iv a),(4,DF),(11,iv (i2+1:Nat)),(12,iv (j2-1:Nat))] iS) ?_;exact ih (j2-1+1-(i2+1)) oF (i2+1) (j2-1) (Sort.swp d i2 j2) _ (Cq _) oF oF oF oF oF (by rw[G0];exact hd) (fun p=>by by_cases hp:p=[]<;>simp[hp,hs,Aa,hH]) hq
theorem ZU(d:Array Sc)(v a b q:Nat)(hn:d.size<=900)(hab:a+2<=b)(hb:b<=d.size)(hq:q<d.size):SpecF Tryz.prog 215 (fun r=>[Ji d.size v r,iv a,iv b,iv q,DF]) (Br d v) (fun _=>.tup [iv (Sort.partition B8 d a b q).1,bv (Sort.partition B8 d a b q).2.1]) (Br (Sort.partition B8 d a b q).2.2 v):=by
 refine Az H7 iS (Af (R6 _ _) (Af AH (Af AH (Af AH (Af E5 Ak))))) (Bj (Af AH (Af AH Ak))) fun w0 I0 M0 m0=>?_;obtain⟨n,hnn⟩:∃n,d.size=n:=⟨_,rfl⟩;rw[hnn]at hn hb hq ⊢;have e1:=Ap a;have e2:i64.wrap ((b:Int)-1)=((b-1:Nat):Int):=AU;have g1:=BT (d:=d) (i:=a) oF;have g0:=BT (d:=d) (i:=q) oF;have g2:=JR (d:=d) (i:=a) (j:=q) oF oF;have hs:=Nc (d:=d) (i:=a) (j:=q);have hsz:(Sort.swp d a q).size=n:=by rw[G0];exact hnn
 obtain⟨R,hR⟩:∃R,R=Sort.partition B8 d a b q:=⟨_,rfl⟩;rw[<-hR];unfold Sort.partition at hR;generalize d[a]! = x at g1 g2 hs;generalize d[q]! = y at g0 g2 hs;generalize hd1:Sort.swp d a q=d1 at hs hsz hR;have hu:=Nl (fun x=>B8 x d1[a]!) d1 (b-1) (b-1+1-(a+1)) (a+1) (Cq _);have lu:=fun (Q:Exit->Sta->Prop) (H:Hp) (hH:∀p,H (0::p)=(Br d1 v).F 0 p)=>Ahj (n0:=178) (w0:=w0) (I0:=I0) (M0:=M0) (m0:=m0) (Q:=Q) (v:=v) (a:=a) (j:=b-1) (H:=H) hn oF oF hsz rfl hH (b-1+1-(a+1)) (a+1) (Cq _) oF;simp only at hR;generalize Sort.scanUp (fun x=>B8 x d1[a]!) d1 (b-1) (a+1)=i2 at hR hu lu;have hi2:i2<=n:=by rcases hu.2 with h|h<;>omega
 have hdn:=Kc (fun x=>!B8 x d1[a]!) d1 i2 oF (b-1);have ld:=fun (Q:Exit->Sta->Prop) (H:Hp) (hH:∀p,H (0::p)=(Br d1 v).F 0 p)=>AhR (n0:=178) (w0:=w0) (I0:=I0) (M0:=M0) (m0:=m0) (Q:=Q) (v:=v) (a:=a) (i:=i2) (H:=H) hn oF hi2 oF hsz rfl hH (b-1) oF;generalize Sort.scanDown (fun x=>!B8 x d1[a]!) d1 i2 (b-1)=j2 at hR hdn ld;have hj2:a<=j2:=by rcases hdn.2 with h|h<;>omega
 have hj2n:j2<n:=oF
 rw[pe3 DU.eq_1];simp[g0,g1,g2,e1,e2,show(a:Int)<n by omega,show(q:Int)<n by omega,show a<n from oF,hq,DN,Aa];refine LoopC.le (Al [(0,Ji n v 0),(1,iv a),(4,DF),(12,iv (a+1:Nat)),(13,iv (b-1:Nat))] iS) ?_;have hH1:∀p,(ov 0 (Ar ((Br d v).F 0) [] ⟨v,.arr 2 (((d.toList.map Jd).set a (Jd y)).set q (Jd x))⟩) (HO []):Hp) (0::p)=(Br d1 v).F 0 p:=fun p=>by by_cases hp:p=[]<;>simp[hp,hs,Aa]
 refine lu _ _ hH1 fun st=>?_;simp;refine ld _ _ hH1 fun st2=>?_;have m1:=BT (d:=d1) (i:=a) oF;have m2:=BT (d:=d1) (i:=j2) oF;by_cases hc:j2<i2
 ·rw[if_pos hc]at hR;subst hR;have m3:=JR (d:=d1) (i:=j2) (j:=a) oF oF;have ms:=Nc (d:=d1) (i:=j2) (j:=a);rw[hs]at m1 m2 m3 ms;simp only;generalize d1[a]! = z at m1 m3 ms;generalize d1[j2]! = u at m2 m3 ms;generalize hL:(((d.toList.map Jd).set a (Jd y)).set q (Jd x))=L at *;simp[hc,show(j2:Int)<i2 by omega,m1,m2,m3,Aa,show(a:Int)<n by omega,show(j2:Int)<n by omega,show a<n from oF,hj2n,DN];exact Av rfl rfl (fun p=>by by_cases hp:p=[]<;>simp[hp,ms,Aa])
 ·rw[if_neg hc]at hR;have e3:=Ap i2;have e4:i64.wrap ((j2:Int)-1)=((j2-1:Nat):Int):=AU;have m1:=BT (d:=d1) (i:=i2) oF;have m3:=JR (d:=d1) (i:=i2) (j:=j2) oF oF;have ms:=Nc (d:=d1) (i:=i2) (j:=j2);have hsz2:(Sort.swp d1 i2 j2).size=n:=by rw[G0];exact hsz
  rw[hs]at m1 m2 m3 ms;generalize d1[i2]! = z at m1 m3 ms;generalize d1[j2]! = u at m2 m3 ms;generalize hd2:Sort.swp d1 i2 j2=d2 at ms hsz2 hR;have l5:=fun (Q:Exit->Sta->Prop) (H:Hp) (hH:∀p,H (0::p)=(Br d2 v).F 0 p)=>Aii (n0:=178) (w0:=w0) (I0:=I0) (M0:=M0) (m0:=m0) (Q:=Q) (v:=v) hn (show a<n from oF) (j2-1+1-(i2+1)) (i2+1) (j2-1) d2 H (Cq _) oF oF oF oF oF hsz2 hH;generalize Sort.partLoop B8 a (i2+1) (j2-1) d2=T at hR l5;generalize hL:(((d.toList.map Jd).set a (Jd y)).set q (Jd x))=L at *;simp[hc,show ¬(j2:Int)<i2 by omega,m1,m2,m3,e3,e4,Aa,show(i2:Int)<n by omega,show(j2:Int)<n by omega,show i2<n from oF,hj2n,DN];refine LoopC.le (Al [(0,Ji n v 0),(1,iv a),(4,DF),(12,iv (i2+1:Nat)),(13,iv (j2-1:Nat))] iS) ?_;refine l5 _ _ (fun p=>by by_cases hp:p=[]<;>simp[hp,ms,Aa]) fun H' xx st3 hT t1 t2 t3=>?_;have h0:=hT [];simp only[MJ]at h0;have k1:=BT (d:=T.2) (i:=a) oF;have k2:=BT (d:=T.2) (i:=T.1) oF;have k3:=JR (d:=T.2) (i:=T.1) (j:=a) oF oF;have ks:=Nc (d:=T.2) (i:=T.1) (j:=a);subst hR;simp only;generalize T.2[a]! = z' at k1 k3 ks;generalize T.2[T.1]! = u' at k2 k3 ks;simp[h0,k1,k2,k3,show(a:Int)<n by omega,show(T.1:Int)<n by omega,show a<n from oF,t2,DN];exact Av rfl rfl (fun p=>by by_cases hp:p=[]<;>simp[hp,ks,hT,Aa])
theorem jb(d:Array Sc)(v a b q:Nat)(hn:d.size<=900)(hab:a+2<=b)(hb:b<=d.size)(hq:q<d.size):SpecF Tryz.prog 214 (fun r=>[Ji d.size v r,iv a,iv b,iv q,DF]) (Br d v) (fun _=>iv (Sort.partitionEqual B8 d a b q).1) (Br (Sort.partitionEqual B8 d a b q).2 v):=by
 refine Az Gu iS (Af (R6 _ _) (Af AH (Af AH (Af AH (Af E5 Ak))))) AH fun w0 I0 M0 m0=>?_;obtain⟨n,hnn⟩:∃n,d.size=n:=⟨_,rfl⟩;rw[hnn]at hn hb hq ⊢;have e1:=Ap a;have e2:i64.wrap ((b:Int)-1)=((b-1:Nat):Int):=AU;have g1:=BT (d:=d) (i:=a) oF;have g0:=BT (d:=d) (i:=q) oF;have g2:=JR (d:=d) (i:=a) (j:=q) oF oF;have hs:=Nc (d:=d) (i:=a) (j:=q);have hsz:(Sort.swp d a q).size=n:=by rw[G0];exact hnn
 unfold Sort.partitionEqual;generalize d[a]! = x at g1 g2 hs;generalize d[q]! = y at g0 g2 hs;generalize Sort.swp d a q=d1 at hs hsz ⊢;have l3:=fun (Q:Exit->Sta->Prop) (H:Hp) (hH:∀p,H (0::p)=(Br d1 v).F 0 p)=>AgL (n0:=90) (w0:=w0) (I0:=I0) (M0:=M0) (m0:=m0) (Q:=Q) (v:=v) hn (show a<n from oF) (b-1+1-(a+1)) (a+1) (b-1) d1 H (Cq _) oF oF oF oF oF hsz hH;generalize Sort.partEqLoop B8 a (a+1) (b-1) d1=T at l3 ⊢;rw[BG CZ.eq_1];simp[g0,g1,g2,e1,e2,show(a:Int)<n by omega,show(q:Int)<n by omega,show a<n from oF,hq,DN,Aa];refine LoopC.le (Al [(0,Ji n v 0),(1,iv a),(4,DF),(11,iv (a+1:Nat)),(12,iv (b-1:Nat))] iS) ?_;refine l3 _ _ (fun p=>by by_cases hp:p=[]<;>simp[hp,hs,Aa]) fun H' xx st hT t1 t2 t3=>?_;simp;exact Av rfl rfl hT
abbrev Ag6:List UInt8:=[0,1,2,2,3,3,3,3,4,4,4,4,4,4,4,4,5,5,5,5,5,5,5,5,5,5,5,5,5,5,5,5,6,6,6,6,6,6,6,6,6,6,6,6,6,6,6,6,6,6,6,6,6,6,6,6,6,6,6,6,6,6,6,6,7,7,7,7,7,7,7,7,7,7,7,7,7,7,7,7,7,7,7,7,7,7,7,7,7,7,7,7,7,7,7,7,7,7,7,7,7,7,7,7,7,7,7,7,7,7,7,7,7,7,7,7,7,7,7,7,7,7,7,7,7,7,7,7,8,8,8,8,8,8,8,8,8,8,8,8,8,8,8,8,8,8,8,8,8,8,8,8,8,8,8,8,8,8,8,8,8,8,8,8,8,8,8,8,8,8,8,8,8,8,8,8,8,8,8,8,8,8,8,8,8,8,8,8,8,8,8,8,8,8,8,8,8,8,8,8,8,8,8,8,8,8,8,8,8,8,8,8,8,8,8,8,8,8,8,8,8,8,8,8,8,8,8,8,8,8,8,8,8,8,8,8,8,8,8,8,8,8,8,8,8,8,8,8,8,8,8,8,8,8,8,8]
set_option maxRecDepth 100000 in
theorem ZH(n:Nat)(h:n<256):Ag6[n]? = some (UInt8.ofNat (Sort.bitsLen n))/\Sort.bitsLen n<=8:=by
 have:∀n:Fin 256,Ag6[n.val]? = some (UInt8.ofNat (Sort.bitsLen n.val))/\Sort.bitsLen n.val<=8:=by decide +kernel
 exact this ⟨n,h⟩
set_option maxRecDepth 100000 in
theorem om(n:Nat)(hn:n<256):G.Spec Tryz.prog 217 [uv n] (iv (Sort.bitsLen n)):=by
 refine Aj UL iS fun w0 I0=>?_;rw[BG MC.eq_1];simp[show ¬(4294967296:Int)<=n by omega];rw[(BG LP.eq_1)];simp[show ¬(65536:Int)<=n by omega];rw[(Ao LN.eq_1)];obtain⟨ht,hb⟩:=ZH n hn;have hx:(UInt8.ofNat (Sort.bitsLen n)).toNat=Sort.bitsLen n:=by rw[UInt8.toNat_ofNat'];exact Nat.mod_eq_of_lt oF
 generalize UInt8.ofNat (Sort.bitsLen n)=y at ht hx;have e1:i64.wrap (Sort.bitsLen n:Int)=(Sort.bitsLen n:Int):=CX;have e2:IntKind.u8.wrap (n:Int)=(n:Int):=by rw[IntKind.wrap_u8];omega
 simp[show ¬(256:Int)<=n by omega,ht,e2];rw[hx,e1,e1];exact Ad rfl
theorem UD(n:Nat)(hn:n<256):G.Spec Tryz.prog 206 [uv n] (iv (Sort.bitsLen n)):=by
 refine Aj Xo iS fun w0 I0=>?_;rw[Ao OV.eq_1];simp;refine Ae (om n hn) rfl ?_;simp;exact Ad rfl
theorem gz(n:Nat)(hn:n<256):G.Spec Tryz.prog 219 [iv n] (uv (1 <<< Sort.bitsLen n:Nat)):=by
 refine Aj NN iS fun w0 I0=>?_;obtain⟨_,hb⟩:=ZH n hn;have e1:u64.wrap (n:Int)=(n:Int):=EZ oF oF;have h2:(2:Nat) ^ Sort.bitsLen n<=2 ^ 8:=Nat.pow_le_pow_right oF hb;have h3:((2 ^ Sort.bitsLen n:Nat):Int)<18446744073709551616:=Int.ofNat_lt.2 (Nat.lt_of_le_of_lt h2 dO);have e2:u64.wrap (2 ^ min (Sort.bitsLen n) u64.bits:Int)=((1 <<< Sort.bitsLen n:Nat):Int):=by
  rw[show min (Sort.bitsLen n) u64.bits=Sort.bitsLen n from Nat.min_eq_left (Nat.le_trans hb dO),Nat.one_shiftLeft];rw[show((2:Int) ^ Sort.bitsLen n)=((2 ^ Sort.bitsLen n:Nat):Int) by simp];exact EZ (Int.natCast_nonneg _) h3
 generalize hz:((1 <<< Sort.bitsLen n:Nat):Int)=z at e2 ⊢;rw[Ao Iv.eq_1];simp[e1];refine Ae (UD n hn) rfl ?_;simp[e2];exact Ad rfl
theorem AgV(s:UInt64)(k:UInt64)(hk:k.toNat<64):bits .xor .u64 (s.toNat:Int) (u64.wrap ((s.toNat:Int)*2 ^ k.toNat))=((s ^^^ (s <<< k)).toNat:Int):=by
 have h:=s.toNat_lt;have e:u64.wrap ((s.toNat:Int)*2 ^ k.toNat)=((s <<< k).toNat:Int):=by
  rw[IntKind.wrap_u64,UInt64.toNat_shiftLeft,Nat.mod_eq_of_lt hk,Nat.shiftLeft_eq];rw[show((s.toNat:Int)*2 ^ k.toNat)=((s.toNat*2 ^ k.toNat:Nat):Int) by simp];omega
 rw[e,bits_xor_u64_nat _ _ h (s <<< k).toNat_lt,UInt64.toNat_xor]
theorem Amh(s:UInt64)(k:UInt64)(hk:k.toNat<64):bits .xor .u64 (s.toNat:Int) ((s.toNat:Int) / 2 ^ k.toNat)=((s ^^^ (s >>> k)).toNat:Int):=by
 have h:=s.toNat_lt;have e:(s.toNat:Int) / 2 ^ k.toNat=((s >>> k).toNat:Int):=by
  rw[UInt64.toNat_shiftRight,Nat.mod_eq_of_lt hk,Nat.shiftRight_eq_div_pow];simp
 rw[e,bits_xor_u64_nat _ _ h (s >>> k).toNat_lt,UInt64.toNat_xor]
def ceU(s:UInt64):Fam:=⟨fun r p=>if p=[]then ⟨1,.cells [uv s.toNat]⟩else ⟨0,.none⟩,fun {g δ r r'} hg hd p=>by
  by_cases h1:p=[]
  ·rw[if_pos h1];exact Fam.cells_ren (by simp[A.renL,A.ren])
  ·rw[if_neg h1];rfl,fun {D r} hD p=>by
  by_cases h1:p=[]
  ·rw[if_pos h1];simp[Ob.refs,A.refsL,A.refs]
  ·rw[if_neg h1];trivial⟩
@[simp]theorem AnJ{s:UInt64}{r:Nat}{p:Nm}:(ceU s).F r p=if p=[]then ⟨1,.cells [uv s.toNat]⟩else ⟨0,.none⟩:=rfl
theorem kE(s:UInt64):SpecF Tryz.prog 220 (fun r=>[ceP r]) (ceU s) (fun _=>uv (Sort.xorNext s).toNat) (ceU (Sort.xorNext s)):=by
 refine Az N7 iS (Af AB Ak) AH fun w0 I0 M0 m0=>?_;rw[Ao IQ.eq_1];simp[Aa];have x1:bits .xor .u64 (s.toNat:Int) (u64.wrap ((s.toNat:Int)*2 ^ min 13 u64.bits))=((s ^^^ (s <<< 13)).toNat:Int):=AgV s 13 dO;rw[x1];have x2:=fun r:UInt64=>Amh r 7 dO;have x2':∀r:UInt64,bits .xor .u64 (r.toNat:Int) ((r.toNat:Int) / 2 ^ min 7 u64.bits)=((r ^^^ (r >>> 7)).toNat:Int):=fun r=>x2 r;rw[x2'];have x3:∀r:UInt64,bits .xor .u64 (r.toNat:Int) (u64.wrap ((r.toNat:Int)*2 ^ min 17 u64.bits))=((r ^^^ (r <<< 17)).toNat:Int):=fun r=>AgV r 17 dO;rw[x3];exact Av rfl rfl (fun p=>by by_cases hp:p=[]<;>simp[hp,Aa,Sort.xorNext])
theorem Pw(a l m:Nat)(st:UInt64 × Array Sc)(i:Nat):(Sort.breakStep a l m st i).2.size=st.2.size:=by
 unfold Sort.breakStep;exact G0
theorem AaD{n a l k:Nat}(hn:n<=900)(hal:a+l<=n)(h13:13<=l)(h16:l<=49)(hk:k=Sort.bitsLen l){i:Nat}(hi:i<n)(hib:i<=a+l / 4*2+1){r:UInt64}{d:Array Sc}{H:Hp}(hd:d.size=n)(hH:∀p,H (0::p)=(Br d v).F 0 p)(hG:∀p,H (1::p)=(ceU r).F 1 p)
  (hq:∀H':Hp,(∀p,H' (0::p)=(Br (Sort.breakStep a l (1 <<< k) (r,d) i).2 v).F 0 p)->(∀p,H' (1::p)=(ceU (Sort.breakStep a l (1 <<< k) (r,d) i).1).F 1 p)->LoopC (En Tryz.prog w0 I0 M0 n0 m0) AA Q ⟨lk [(0,Ji n v 0),(1,iv a),(8,iv l),(9,ceP 1),(10,uv (1 <<< k:Nat)),(11,iv (i+1:Nat))],H'⟩) :
  LoopC (En Tryz.prog w0 I0 M0 n0 m0) AA Q ⟨lk [(0,Ji n v 0),(1,iv a),(8,iv l),(9,ceP 1),(10,uv (1 <<< k:Nat)),(11,iv i)],H⟩:=by
 have hN:=kE r;obtain⟨m,hm⟩:∃m,m=(1 <<< k:Nat):=⟨_,rfl⟩;obtain⟨q4,hq4⟩:∃q4,q4=l / 4:=⟨_,rfl⟩;have e1:i64.wrap ((l:Int).tdiv 4)=(q4:Int):=by rw[Int.tdiv_eq_ediv_of_nonneg oF,AJ oF oF];omega
 have e1':i64.wrap ((l:Int) / 4)=(q4:Int):=AU;have e2:i64.wrap ((q4:Int)*2)=(q4:Int)*2:=CX;have e3:i64.wrap ((a:Int)+(q4:Int)*2)=(a:Int)+(q4:Int)*2:=CX;have e4:i64.wrap ((a:Int)+(q4:Int)*2+1)=(a:Int)+(q4:Int)*2+1:=CX;rw[<-hm]at hq ⊢;refine Ab Ah (BG AA.eq_1) ?_;simp[e1,e1',e2,e3,e4,show(i:Int)<=(a:Int)+(q4:Int)*2+1 by omega];refine Au 1 hN hG iS iS ?_;simp;have hX:=(Sort.xorNext r).toNat_lt;have hml:m<=2*l:=by
  rw[hm,hk,Nat.one_shiftLeft];exact Sort.two_pow_bitsLen_le oF
 have hm1:1<=m:=by
  rw[hm,Nat.one_shiftLeft];exact Nat.one_le_two_pow
 obtain⟨o,ho⟩:∃o,o=(Sort.xorNext r).toNat &&& (m-1):=⟨_,rfl⟩;have hol:o<=m-1:=by rw[ho];exact Nat.and_le_right
 have eA:bits .and .u64 ((Sort.xorNext r).toNat:Int) (u64.wrap ((m:Int)-1))=(o:Int):=by
  rw[show u64.wrap ((m:Int)-1)=((m-1:Nat):Int) by rw[EZ oF oF];omega,bits_and_u64_nat _ _ hX oF,<-ho]
 have eB:i64.wrap (o:Int)=(o:Int):=CX;have e5:=Ap i;have fin:∀o2:Nat,o2<l->Sort.breakStep a l m (r,d) i=(Sort.xorNext r,Sort.swp d i (a+o2))->WPC (En Tryz.prog w0 I0 M0 n0 m0) BZ
   (BA 1 (Ej (WPC (En Tryz.prog w0 I0 M0 n0 m0) (.keep [0,1,8,9,10,11] (.reg [co (some 36) (.move (.tmp 11)) none,co (some 37) (.binOp .add 3 (.tmp 36) (.const (.int .i64 1)) 3) none,co (some 11) (.assign (.tmp 37)) none] [0,1,8,9,10,11]))
    (Ej (LoopC (En Tryz.prog w0 I0 M0 n0 m0) AA Q) Q)) (Ej (LoopC (En Tryz.prog w0 I0 M0 n0 m0) AA Q) Q)))
   ⟨lk [(0,Ji n v 0),(1,iv a),(8,iv l),(9,ceP 1),(10,uv m),(11,iv i),(12,iv o2)],ov 1 ((ceU (Sort.xorNext r)).F 1) H⟩:=fun o2 ho2 hst=>by
  have h0:=hH [];simp only[MJ]at h0;have e6:i64.wrap ((a:Int)+(o2:Int))=((a+o2:Nat):Int):=AU;have g1:=BT (d:=d) (i:=i) oF;have g0:=BT (d:=d) (i:=a+o2) oF;have g2:=JR (d:=d) (i:=i) (j:=a+o2) oF oF;have hs:=Nc (d:=d) (i:=i) (j:=a+o2);rw[hst]at hq;generalize d[i]! = x at g1 g2 hs;generalize d[a+o2]! = y at g0 g2 hs;have hj:((a+o2:Nat):Int)<n:=oF
  have hj':a+o2<n:=oF
  generalize Sort.swp d i (a+o2)=d2 at hs hq;generalize a+o2=jj at e6 g0 g2 hs hj hj';rw[(Ao BZ.eq_1)];simp[e6,h0,g0,g1,g2,e5,show(i:Int)<n by omega,hi,hj,hj',DN];exact hq _ (fun p=>by by_cases hp:p=[]<;>simp[hp,hs,Aa,hH]) (fun p=>by simp[Aa])
 simp only[eA,eB];have hbs:Sort.breakStep a l m (r,d) i=(Sort.xorNext r,Sort.swp d i (a+(if o≥l then o-l else o))):=by
  unfold Sort.breakStep;simp only[<-ho]
 by_cases hc:l<=o
 ·rw[if_pos (show o≥l from hc)]at hbs;refine⟨fun _=>?_,fun h=>oF⟩;have e7:i64.wrap ((o:Int)-l)=((o-l:Nat):Int):=AU;rw[e7];exact fin (o-l) oF hbs
 ·rw[if_neg hc]at hbs;refine⟨fun h=>oF,fun _=>?_⟩;exact fin o oF hbs
theorem m5(d:Array Sc)(v a b:Nat)(hn:d.size<=900)(hab:a+13<=b)(hb:b<=d.size)(hl:b-a<50):SpecF Tryz.prog 210 (fun r=>[Ji d.size v r,iv a,iv b,DF]) (Br d v) (fun _=>.tup []) (Br (Sort.breakPatterns d a b) v):=by
 refine Az GW iS (Af (R6 _ _) (Af AH (Af AH (Af E5 Ak)))) (Bj Ak) fun w0 I0 M0 m0=>?_;obtain⟨n,hnn⟩:∃n,d.size=n:=⟨_,rfl⟩;rw[hnn]at hn hb ⊢;obtain⟨l,hll⟩:∃l,l=b-a:=⟨_,rfl⟩;obtain⟨q4,hq4⟩:∃q4,q4=l / 4:=⟨_,rfl⟩;have e0:i64.wrap ((b:Int)-a)=(l:Int):=AU;have e1:i64.wrap ((l:Int).tdiv 4)=(q4:Int):=by rw[Int.tdiv_eq_ediv_of_nonneg oF,AJ oF oF];omega
 have e1':i64.wrap ((l:Int) / 4)=(q4:Int):=AU;have e2:i64.wrap ((q4:Int)*2)=(q4:Int)*2:=CX;have e3:i64.wrap ((a:Int)+(q4:Int)*2)=(a:Int)+(q4:Int)*2:=CX;have e4:i64.wrap ((a:Int)+(q4:Int)*2-1)=((a+q4*2-1:Nat):Int):=AU;have e5:i64.wrap ((a:Int)+(q4:Int)*2+1)=(a:Int)+(q4:Int)*2+1:=CX;have eu:u64.wrap (l:Int)=(l:Int):=EZ oF oF;have hNx:=gz l oF;have ho:(UInt64.ofNat l).toNat=l:=by rw[UInt64.toNat_ofNat'];exact Nat.mod_eq_of_lt oF
 unfold Sort.breakPatterns;simp only[<-hll,ge_iff_le,if_pos (show 8<=l from oF),<-hq4];have st:=@AaD (n0:=67) w0 I0 M0 m0;generalize hid:a+q4*2-1=id0 at e4 ⊢;rw[BG Db.eq_1];generalize hmm:(1 <<< Sort.bitsLen l:Nat)=mm at hNx ⊢;simp[e0,eu,show(8:Int)<=l by omega,Aa];refine Ae hNx rfl ?_;simp[e1,e1',e2,e3,e4];rw[<-hmm];refine st hn oF oF oF rfl (i:=id0) (r:=UInt64.ofNat l) (d:=d) oF oF hnn (fun p=>iS) (fun p=>?_) fun H1 f1 g1=>?_
 ·by_cases hp:p=[]
  ·subst hp;simp[HO,ho]
  ·simp[HO,hp,Ne.symm hp]
 have s1:=Pw a l (1 <<< Sort.bitsLen l) (UInt64.ofNat l,d) id0;simp only[hnn]at s1;generalize Sort.breakStep a l (1 <<< Sort.bitsLen l) (UInt64.ofNat l,d) id0=S1 at f1 g1 s1 ⊢;refine st hn oF oF oF rfl (i:=id0+1) (r:=S1.1) (d:=S1.2) oF oF s1 f1 g1 fun H2 f2 g2=>?_;have s2:=Pw a l (1 <<< Sort.bitsLen l) (S1.1,S1.2) (id0+1);simp only[s1]at s2;have eS:(S1.1,S1.2)=S1:=rfl;rw[eS]at f2 g2 s2;generalize Sort.breakStep a l (1 <<< Sort.bitsLen l) S1 (id0+1)=S2 at f2 g2 s2 ⊢;refine st hn oF oF oF rfl (i:=id0+1+1) (r:=S2.1) (d:=S2.2) oF oF s2 f2 g2 fun H3 f3 g3=>?_;refine Ab Ah (BG AA.eq_1) ?_;have big:¬((id0+1+1+1:Nat):Int)<=(a:Int)+(q4:Int)*2+1:=oF
 generalize id0+1+1+1=id3 at big ⊢;simp[e1,e1',e2,e3,e5,big];exact Bg rfl rfl (fun p=>f3 p)
def pq1(d:Array Sc)(a b lim q:Nat)(wb wp:Bool):Array Sc:=
 if (decide (a > 0)&&!B8 d[a-1]! d[q]!)=true then
  if a<(Sort.partitionEqual B8 d a b q).1/\(Sort.partitionEqual B8 d a b q).1<=b then Sort.pdq B8 (Sort.partitionEqual B8 d a b q).2 (Sort.partitionEqual B8 d a b q).1 b lim wb wp else (Sort.partitionEqual B8 d a b q).2
 else
  if a<=(Sort.partition B8 d a b q).1/\(Sort.partition B8 d a b q).1<b then
   if (Sort.partition B8 d a b q).1-a<b-(Sort.partition B8 d a b q).1 then
    Sort.pdq B8 (Sort.pdq B8 (Sort.partition B8 d a b q).2.2 a (Sort.partition B8 d a b q).1 lim true true) ((Sort.partition B8 d a b q).1+1) b lim (decide ((Sort.partition B8 d a b q).1-a≥(b-a) / 8)) (Sort.partition B8 d a b q).2.1
   else
    Sort.pdq B8 (Sort.pdq B8 (Sort.partition B8 d a b q).2.2 ((Sort.partition B8 d a b q).1+1) b lim true true) a (Sort.partition B8 d a b q).1 lim (decide (b-(Sort.partition B8 d a b q).1≥(b-a) / 8)) (Sort.partition B8 d a b q).2.1
  else (Sort.partition B8 d a b q).2.2
def pq2(d:Array Sc)(a b lim q:Nat)(hint:Sort.Hint)(wb wp:Bool):Array Sc:=
 if (wb&&wp&&decide (hint=.increasing))=true then
  if (Sort.partialInsertionSort B8 d a b).2=true then (Sort.partialInsertionSort B8 d a b).1 else pq1 (Sort.partialInsertionSort B8 d a b).1 a b lim q wb wp
 else pq1 d a b lim q wb wp
def pq3(d:Array Sc)(a b lim:Nat)(wb wp:Bool):Array Sc:=
 if (Sort.choosePivot B8 d a b).2=.decreasing then pq2 (Sort.reverseRange d a b) a b lim ((b-1)-((Sort.choosePivot B8 d a b).1-a)) .increasing wb wp
 else pq2 d a b lim (Sort.choosePivot B8 d a b).1 (Sort.choosePivot B8 d a b).2 wb wp
theorem yd(d:Array Sc)(a b lim:Nat)(wb wp:Bool):Sort.pdq B8 d a b lim wb wp=if b-a<=12 then Sort.insertionSort B8 d a b else if lim=0 then Sort.heapSort B8 d a b else
  if wb=true then pq3 d a b lim wb wp else pq3 (Sort.breakPatterns d a b) a b (lim-1) wb wp:=by
 rw[Sort.pdq];split
 ·rfl
 ·split
  ·rfl
  ·have main:∀(d:Array Sc)(lim:Nat),(let c:=Sort.choosePivot B8 d a b
    let d2:=if c.2=.decreasing then Sort.reverseRange d a b else d
    let pivot:=if c.2=.decreasing then (b-1)-(c.1-a)else c.1
    let hint:=if c.2=.decreasing then Sort.Hint.increasing else c.2
    let pi:=if (wb&&wp&&hint=.increasing)=true then Sort.partialInsertionSort B8 d2 a b else (d2,false)
    if pi.2=true then pi.1 else pq1 pi.1 a b lim pivot wb wp)=pq3 d a b lim wb wp:=fun d lim=>by
    simp only;unfold pq3 pq2;by_cases hd:(Sort.choosePivot B8 d a b).2=.decreasing
    ·simp only[hd,if_true];cases wb<;>cases wp<;>simp
    ·simp only[hd,if_false];by_cases hw:(wb&&wp&&decide ((Sort.choosePivot B8 d a b).2=.increasing))=true
     ·rw[if_pos hw,if_pos hw]
     ·rw[if_neg hw,if_neg hw];simp
   cases wb with
   |true=>
    rw[if_pos rfl,<-main];simp only[Bool.not_true,Bool.false_eq_true,if_false];unfold pq1;rfl
   |false=>
    have e2:(if (false:Bool)=true then pq3 d a b lim false wp else pq3 (Sort.breakPatterns d a b) a b (lim-1) false wp)=pq3 (Sort.breakPatterns d a b) a b (lim-1) false wp:=if_neg iS;rw[e2,<-main];simp only[Bool.not_false,if_true];unfold pq1;rfl
def gJ(l lim:Nat)(wb:Bool):Prop:=l<=12\/(l-12)+(if wb=true then 0 else 1)<=lim
section
variable {v n:Nat}
theorem PJ{l l' lim:Nat}(wb:Bool)(h:l'<l)(h2:l-12<=lim):gJ l' lim wb:=by
 unfold gJ;by_cases h3:l'<=12
 ·exact .inl h3
 ·right;split<;>omega
def LPs(v n a b lim:Nat)(wb wp:Bool)(d:Array Sc):Prop:=∀{n0:Nat} {w0:World} {I0:Nat->Prop} {M0:Nm->Nat->Prop} {m0:Mu} {Q:Exit->Sta->Prop} (H:Hp),(∀p,H (0::p)=(Br d v).F 0 p) ->
  (∀(H':Hp)(st:List (Nat × A)),(∀p,H' (0::p)=(Br (Sort.pdq B8 d a b lim wb wp) v).F 0 p)->Q .ret ⟨lk st,H'⟩) ->
  LoopC (En Tryz.prog w0 I0 M0 n0 m0) AL Q ⟨lk [(0,Ji n v 0),(1,iv a),(2,iv b),(3,iv lim),(4,DF),(10,bv wb),(11,bv wp)],H⟩
def PQs(v n a b lim:Nat)(d:Array Sc):Prop:=SpecF Tryz.prog 205 (fun r=>[Ji n v r,iv a,iv b,iv lim,DF]) (Br d v) (fun _=>.tup []) (Br (Sort.pdq B8 d a b lim true true) v)
theorem lr{a b lim:Nat}{d:Array Sc}(h:LPs v n a b lim true true d):PQs v n a b lim d:=by
 refine Az IA iS (Af (R6 _ _) (Af AH (Af AH (Af AH (Af E5 Ak))))) (Bj Ak) fun w0 I0 M0 m0=>?_;rw[BG Ei.eq_1];simp;refine LoopC.le (Al [(0,Ji n v 0),(1,iv a),(2,iv b),(3,iv lim),(4,DF),(10,bv true),(11,bv true)] iS) ?_;refine h _ (fun p=>iS) fun H' st h'=>?_;simp;exact Bg rfl rfl (fun p=>h' p)
end
theorem oL(a:Nat):∀(m i j J:Nat)(d:Array Sc),j+1-i<=m->1<=i->i<=J+1->j<=J->i<=(Sort.partEqLoop B8 a i j d).1/\(Sort.partEqLoop B8 a i j d).1<=J+1/\(Sort.partEqLoop B8 a i j d).2.size=d.size:=by
 intro m;induction m using Nat.strongRecOn with
 |_ m ih=>
  intro i j J d hm h1 hi hj;rw[Sort.partEqLoop];have hu:=Nl (fun x=>!B8 d[a]! x) d j (j+1-i) i (Cq _);generalize Sort.scanUp (fun x=>!B8 d[a]! x) d j i=i2 at hu ⊢;have hdn:=Kc (fun x=>B8 d[a]! x) d i2 oF j;generalize Sort.scanDown (fun x=>B8 d[a]! x) d i2 j=j2 at hdn ⊢;by_cases hc:i2 > j2
  ·simp only[hc,if_true];refine⟨hu.1,?_,trivial⟩;rcases hu.2 with h|h<;>omega
  ·have hg:j2-1+1-(i2+1)<j+1-i:=oF
   simp only[hc,if_false,dif_pos hg];have:=ih (j2-1+1-(i2+1)) oF (i2+1) (j2-1) J (Sort.swp d i2 j2) (Cq _) oF oF oF;rw[G0]at this;omega
theorem rO(d:Array Sc)(a b q:Nat)(hab:a+2<=b):a<(Sort.partitionEqual B8 d a b q).1/\(Sort.partitionEqual B8 d a b q).1<=b/\(Sort.partitionEqual B8 d a b q).2.size=d.size:=by
 unfold Sort.partitionEqual;have:=oL a (b-1+1-(a+1)) (a+1) (b-1) (b-1) (Sort.swp d a q) (Cq _) oF oF (Cq _);rw[G0]at this;omega
theorem Aiy:Sort.SWO B8 where
 irrefl x:=by simp[B8]
 trans x y z h1 h2:=by simp[B8]at *; omega
 ntrans x y z h1 h2:=by simp[B8]at *; omega
theorem zD(d:Array Sc)(a b q:Nat)(h1:a<=q)(h2:q<b)(hb:b<=d.size):a<=(Sort.partition B8 d a b q).1/\(Sort.partition B8 d a b q).1<b/\(Sort.partition B8 d a b q).2.2.size=d.size:=by
 obtain⟨k1,k2,k3,_⟩:=Sort.partition_holds B8 Aiy d a b q h1 h2 hb;exact⟨k1,k2,k3.1⟩
theorem Ot(d:Array Sc)(a b lim:Nat)(h:b-a<=12):(Sort.pdq B8 d a b lim true true).size=d.size:=by
 rw[yd,if_pos h];exact RV B8 a b (b-(a+1)) (a+1) d (Cq _)
section
variable {n0:Nat} {w0:World} {I0:Nat->Prop} {M0:Nm->Nat->Prop} {m0:Mu} {Q:Exit->Sta->Prop} {v n:Nat}
theorem Ajt{a b lim q l:Nat}{wb wp:Bool}{d:Array Sc}(hn:n<=900)(hd:d.size=n)(hab:a+13<=b)(hb:b<=n)(hl:l=b-a)(hl24:l<=24)(hq1:a<=q)(hq2:q<b)(hlim:l-12<=lim)(hlm:lim<=900)
  (ihL:∀(a' b' lim':Nat)(wb' wp':Bool)(d':Array Sc),d'.size=n->a'<=b'->b'<=n->b'-a'<l->lim'<=900->gJ (b'-a') lim' wb'->LPs v n a' b' lim' wb' wp' d')
  {H:Hp} (hH:∀p,H (0::p)=(Br d v).F 0 p) (hq:∀(H':Hp)(st:List (Nat × A)),(∀p,H' (0::p)=(Br (pq1 d a b lim q wb wp) v).F 0 p)->Q .ret ⟨lk st,H'⟩) :
  WPC (En Tryz.prog w0 I0 M0 n0 m0) BO (BA 1 (Ej (LoopC (En Tryz.prog w0 I0 M0 n0 m0) AL Q) Q)) ⟨lk [(0,Ji n v 0),(1,iv a),(2,iv b),(3,iv lim),(4,DF),(10,bv wb),(11,bv wp),(12,iv l),(13,iv q)],H⟩:=by
 have hP:=ZU d v a b q oF oF oF oF;have hE:=jb d v a b q oF oF oF oF;obtain⟨p1,p2,p3⟩:=zD d a b q hq1 hq2 oF;obtain⟨c1,c2,c3⟩:=rO d a b q oF;unfold pq1 at hq;rw[if_pos (show a<(Sort.partitionEqual B8 d a b q).1/\(Sort.partitionEqual B8 d a b q).1<=b from⟨c1,c2⟩),if_pos (show a<=(Sort.partition B8 d a b q).1/\(Sort.partition B8 d a b q).1<b from⟨p1,p2⟩)]at hq;generalize Sort.partitionEqual B8 d a b q=E at hE c1 c2 c3 hq;generalize Sort.partition B8 d a b q=R at hP p1 p2 p3 hq;obtain⟨mid,ap,d4⟩:=R;simp only at hP p1 p2 p3 hq;rw[hd]at hP hE p3 c3;have f1:i64.wrap ((mid:Int)-a)=((mid-a:Nat):Int):=AU;have f2:i64.wrap ((b:Int)-mid)=((b-mid:Nat):Int):=AU;have f3:i64.wrap ((l:Int).tdiv 8)=((l / 8:Nat):Int):=by rw[Int.tdiv_eq_ediv_of_nonneg oF,AJ oF oF];omega
 have f4:i64.wrap ((l:Int) / 8)=((l / 8:Nat):Int):=AU;have f5:=Ap mid;rw[(Ao BO.eq_1)];by_cases ha0:0<a
 ·have h0:=hH [];simp only[MJ]at h0;have g1:=BT (d:=d) (i:=a-1) oF;have g0:=BT (d:=d) (i:=q) oF;have hc:=aD d[a-1]! d[q]!;have f6:i64.wrap ((a:Int)-1)=((a-1:Nat):Int):=AU;generalize d[a-1]! = x at g1 hc hq;generalize d[q]! = y at g0 hc hq;simp[show(0:Int)<a by omega,ha0,h0,f6,g1,g0,show(q:Int)<n by omega,show q<n by omega,show a-1<n from oF,show((a-1:Nat):Int)<n by omega,DN];rw[AR];simp;refine Gf rfl (EF x y) iS rfl ?_;cases hL:B8 x y with
  |false=>
   rw[hL]at hc hq;rw[if_pos (by simp;omega)]at hq;have hc':¬Gq x.i y.i<0:=by simpa using hc
   simp[hc'];refine Au 0 hE hH iS iS ?_;simp;exact ihL E.1 b lim wb wp E.2 c3 oF hb oF hlm (PJ _ oF hlim) _ (fun p=>iS) hq
  |true=>
   rw[hL]at hc hq;rw[if_neg iS]at hq;have hc':Gq x.i y.i<0:=by simpa using hc
   simp[hc'];refine Au 0 hP hH iS iS ?_;simp[f1,f2,f3,f4,f5];refine⟨fun hs=>?_,fun hs=>?_⟩
   ·rw[if_pos hs]at hq;have hS:PQs v n a mid lim d4:=lr (ihL a mid lim true true d4 p3 oF oF oF hlm (.inl oF));have hsz:=Ot d4 a mid lim oF;have hdec:decide ((l:Int) / 8<=((mid-a:Nat):Int))=decide (mid-a≥(b-a) / 8):=by rw[decide_eq_decide];omega
    refine Au 0 hS (fun p=>iS) iS iS ?_;simp[f5];rw[hdec];refine LoopC.le (Al [(0,Ji n v 0),(1,iv (mid+1:Nat)),(2,iv b),(3,iv lim),(4,DF),(10,bv (decide (mid-a≥(b-a) / 8))),(11,bv ap)] iS) ?_;exact ihL (mid+1) b lim _ ap _ (by rw[hsz];exact p3) oF hb oF hlm (PJ _ oF hlim) _ (fun p=>iS) hq
   ·have hs':¬mid-a<b-mid:=oF
    rw[if_neg hs']at hq;have hS:PQs v n (mid+1) b lim d4:=lr (ihL (mid+1) b lim true true d4 p3 oF oF oF hlm (.inl oF));have hsz:=Ot d4 (mid+1) b lim oF;have hdec:decide ((l:Int) / 8<=((b-mid:Nat):Int))=decide (b-mid≥(b-a) / 8):=by rw[decide_eq_decide];omega
    refine Au 0 hS (fun p=>iS) iS iS ?_;simp;rw[hdec];exact ihL a mid lim _ ap _ (by rw[hsz];exact p3) oF oF oF hlm (PJ _ oF hlim) _ (fun p=>iS) hq
 ·rw[if_neg (by simp;omega)]at hq;have ha00:a=0:=oF
  simp[show ¬(0:Int)<a by omega,ha0];rw[AR];simp;refine Au 0 hP hH iS iS ?_;simp[f1,f2,f3,f4,f5];refine⟨fun hs=>?_,fun hs=>?_⟩
  ·rw[if_pos hs]at hq;have hS:PQs v n a mid lim d4:=lr (ihL a mid lim true true d4 p3 oF oF oF hlm (.inl oF));have hsz:=Ot d4 a mid lim oF;have hdec:decide ((l:Int) / 8<=((mid-a:Nat):Int))=decide (mid-a≥(b-a) / 8):=by rw[decide_eq_decide];omega
   refine Au 0 hS (fun p=>iS) iS iS ?_;simp[f5];rw[hdec];refine LoopC.le (Al [(0,Ji n v 0),(1,iv (mid+1:Nat)),(2,iv b),(3,iv lim),(4,DF),(10,bv (decide (mid-a≥(b-a) / 8))),(11,bv ap)] iS) ?_;exact ihL (mid+1) b lim _ ap _ (by rw[hsz];exact p3) oF hb oF hlm (PJ _ oF hlim) _ (fun p=>iS) hq
  ·have hs':¬mid-a<b-mid:=oF
   rw[if_neg hs']at hq;have hS:PQs v n (mid+1) b lim d4:=lr (ihL (mid+1) b lim true true d4 p3 oF oF oF hlm (.inl oF));have hsz:=Ot d4 (mid+1) b lim oF;have hdec:decide ((l:Int) / 8<=((b-mid:Nat):Int))=decide (b-mid≥(b-a) / 8):=by rw[decide_eq_decide];omega
   refine Au 0 hS (fun p=>iS) iS iS ?_;simp;rw[hdec];exact ihL a mid lim _ ap _ (by rw[hsz];exact p3) oF oF oF hlm (PJ _ oF hlim) _ (fun p=>iS) hq
theorem AcE{a b lim q l:Nat}{wb wp:Bool}{h:Sort.Hint}{d:Array Sc}(hn:n<=900)(hd:d.size=n)(hab:a+13<=b)(hb:b<=n)(hl:l=b-a)(hl24:l<=24)(hq1:a<=q)(hq2:q<b)(hlim:l-12<=lim)(hlm:lim<=900)
  (ihL:∀(a' b' lim':Nat)(wb' wp':Bool)(d':Array Sc),d'.size=n->a'<=b'->b'<=n->b'-a'<l->lim'<=900->gJ (b'-a') lim' wb'->LPs v n a' b' lim' wb' wp' d')
  {H:Hp} (hH:∀p,H (0::p)=(Br d v).F 0 p) (hq:∀(H':Hp)(st:List (Nat × A)),(∀p,H' (0::p)=(Br (pq2 d a b lim q h wb wp) v).F 0 p)->Q .ret ⟨lk st,H'⟩) :
  WPC (En Tryz.prog w0 I0 M0 n0 m0) Cw (BA 1 (Ej (LoopC (En Tryz.prog w0 I0 M0 n0 m0) AL Q) Q)) ⟨lk [(0,Ji n v 0),(1,iv a),(2,iv b),(3,iv lim),(4,DF),(10,bv wb),(11,bv wp),(12,iv l),(13,iv q),(14,iv (Ql h))],H⟩:=by
 have hP:=eH d v a b oF oF oF oF;have hpe:=Zc d a b oF;have h1:(Sort.partialInsertionSort B8 d a b).1=d:=by rw[hpe]
 have hk:∀{H:Hp},(∀p,H (0::p)=(Br d v).F 0 p)->(∀(H':Hp)(st:List (Nat × A)),(∀p,H' (0::p)=(Br (pq1 d a b lim q wb wp) v).F 0 p)->Q .ret ⟨lk st,H'⟩)->WPC (En Tryz.prog w0 I0 M0 n0 m0) BO (BA 1 (Ej (LoopC (En Tryz.prog w0 I0 M0 n0 m0) AL Q) Q)) ⟨lk [(0,Ji n v 0),(1,iv a),(2,iv b),(3,iv lim),(4,DF),(10,bv wb),(11,bv wp),(12,iv l),(13,iv q)],H⟩:=fun hH hq=>Ajt hn hd hab hb hl hl24 hq1 hq2 hlim hlm ihL hH hq;unfold pq2 at hq;rw[h1]at hP hq;rw[hd]at hP;rw[(BG Cw.eq_1)];by_cases hw:(wb&&wp&&decide (h=.increasing))=true
 ·rw[if_pos hw]at hq;simp at hw;obtain⟨⟨rfl,rfl⟩,rfl⟩:=hw;simp[Ql];refine Au 0 hP hH iS iS ?_;cases hp:(Sort.partialInsertionSort B8 d a b).2 with
  |true=>
   rw[if_pos hp]at hq;simp;exact hq _ [(0,Ji n v 0),(1,iv a),(2,iv b),(3,iv lim),(4,DF),(10,bv true),(11,bv true),(12,iv l),(13,iv q),(80,bv true)] (fun p=>iS)
  |false=>
   rw[if_neg (by rw[hp];simp)]at hq;simp;exact hk (fun p=>iS) hq
 ·rw[if_neg hw]at hq;cases wb with
  |false=>
   simp;exact hk hH hq
  |true=>cases wp with
   |false=>
    simp;exact hk hH hq
   |true=>
    cases h with
    |increasing=>simp at hw
    |unknown=>
     simp[Ql];exact hk hH hq
    |decreasing=>
     simp[Ql];exact hk hH hq
theorem Ack{a b lim l:Nat}{wb wp:Bool}{d:Array Sc}(hn:n<=900)(hd:d.size=n)(hab:a+13<=b)(hb:b<=n)(hl:l=b-a)(hl24:l<=24)(hlim:l-12<=lim)(hlm:lim<=900)
  (ihL:∀(a' b' lim':Nat)(wb' wp':Bool)(d':Array Sc),d'.size=n->a'<=b'->b'<=n->b'-a'<l->lim'<=900->gJ (b'-a') lim' wb'->LPs v n a' b' lim' wb' wp' d')
  {H:Hp} (hH:∀p,H (0::p)=(Br d v).F 0 p) (hq:∀(H':Hp)(st:List (Nat × A)),(∀p,H' (0::p)=(Br (pq3 d a b lim wb wp) v).F 0 p)->Q .ret ⟨lk st,H'⟩) :
  WPC (En Tryz.prog w0 I0 M0 n0 m0) Cv (BA 1 (Ej (LoopC (En Tryz.prog w0 I0 M0 n0 m0) AL Q) Q)) ⟨lk [(0,Ji n v 0),(1,iv a),(2,iv b),(3,iv lim),(4,DF),(10,bv wb),(11,bv wp),(12,iv l)],H⟩:=by
 have hC:=choose_spec d v a b oF hab oF oF;have hR:=gu d v a b oF oF oF oF;obtain⟨c1,c2⟩:=Sort.choosePivot_holds B8 d a b oF;have hrs:(Sort.reverseRange d a b).size=n:=by
  have:=(Sort.reverseRange_holds d a b oF oF).1;rw[this];exact hd
 unfold pq3 at hq;rw[hd]at hC hR;rcases hqq:Sort.choosePivot B8 d a b with ⟨q,h⟩;rw[hqq]at hC c1 c2 hq;simp only at hC c1 c2 hq;rw[(BG Cv.eq_1)];simp;refine Au 0 hC hH iS iS ?_;by_cases hdec:h=.decreasing
 ·subst hdec;rw[if_pos rfl]at hq;have e1:i64.wrap ((b:Int)-1)=(b:Int)-1:=CX;have e2:i64.wrap ((q:Int)-a)=(q:Int)-a:=CX;have e3:i64.wrap ((b:Int)-1-((q:Int)-a))=((b-1-(q-a):Nat):Int):=AU;simp[Ql];refine Au 0 hR (fun p=>iS) iS iS ?_;simp[e1,e2,e3];exact AcE (h:=.increasing) hn hrs hab hb hl hl24 oF oF hlim hlm ihL (fun p=>iS) hq
 ·rw[if_neg hdec]at hq;have h2:¬Ql h=2:=by cases h<;>simp[Ql]at hdec ⊢
  simp[h2];exact AcE hn hd hab hb hl hl24 oF oF hlim hlm ihL (fun p=>iS) hq
theorem Ac2(hn:n<=900):∀(l:Nat),l<=24->∀(a b lim:Nat)(wb wp:Bool)(d:Array Sc),d.size=n->a<=b->b<=n->b-a=l->lim<=900->gJ l lim wb->LPs v n a b lim wb wp d:=by
 intro l;induction l using Nat.strongRecOn with
 |_ l ih=>
  intro hl24 a b lim wb wp d hd hab hb hl hlm hfar n0 w0 I0 M0 m0 Q H hH hq;have e0:i64.wrap ((b:Int)-a)=(l:Int):=AU;refine Ab Ah (BG AL.eq_1) ?_;rw[yd]at hq;by_cases h12:l<=12
  ·rw[if_pos oF]at hq;have hI:=dY d v a b oF oF oF;rw[hd]at hI;simp[e0,show(l:Int)<=12 by omega,h12];refine Au 0 hI hH iS iS ?_;simp;exact hq _ [] (fun p=>iS)
  ·rw[if_neg oF]at hq;have hlim:(l-12)+(if wb=true then 0 else 1)<=lim:=by
    rcases hfar with h|h
    ·omega
    ·exact h
   have hlim0:¬lim=0:=by split at hlim<;>omega
   rw[if_neg hlim0]at hq;have ihL:∀(a' b' lim':Nat)(wb' wp':Bool)(d':Array Sc),d'.size=n->a'<=b'->b'<=n->b'-a'<l->lim'<=900->gJ (b'-a') lim' wb'->LPs v n a' b' lim' wb' wp' d':=fun a' b' lim' wb' wp' d' k1 k2 k3 k4 k5 k6=>ih (b'-a') k4 oF a' b' lim' wb' wp' d' k1 k2 k3 rfl k5 k6;cases wb with
   |true=>
    rw[if_pos rfl]at hq;simp at hlim;simp[e0,show ¬(l:Int)<=12 by omega,h12,hlim0];exact Ack hn hd oF hb hl.symm hl24 oF hlm ihL hH hq
   |false=>
    rw[if_neg iS]at hq;simp at hlim;have hB:=m5 d v a b oF oF oF oF;rw[hd]at hB;have hbs:(Sort.breakPatterns d a b).size=n:=by
     have:=(Sort.breakPatterns_holds d a b hab oF).1;rw[this];exact hd
    have e1:i64.wrap ((lim:Int)-1)=((lim-1:Nat):Int):=AU;simp[e0,show ¬(l:Int)<=12 by omega,h12,hlim0];refine Au 0 hB hH iS iS ?_;simp[e1];exact Ack hn hbs oF hb hl.symm hl24 oF oF ihL (fun p=>iS) hq
end
theorem eO{o:List Sc}(ho:ES o){d:Array Sc}(hp:d.toList.Perm o)(hs:Sort.SortedIn B8 0 d.size d):d.toList=Dc o:=by
 have ha:ES d.toList:=by
  unfold ES at ho ⊢;exact(hp.pairwise_iff (fun {x y} h=>by rw[jq];exact h)).2 ho
 have hr:L0 d.toList:=by
  unfold L0 ES at *;rw[List.pairwise_iff_getElem]at ha ⊢;intro i j hi hj hij;have h1:=ha i j hi hj hij;have h2:=hs i j (Nat.zero_le _) hij (by simpa using hj);have e1:d[i]! = d.toList[i]:=by rw[getElem!_pos d i (by simpa using hi)];simp
  have e2:d[j]! = d.toList[j]:=by rw[getElem!_pos d j (by simpa using hj)];simp
  rw[e1,e2]at h2;simp[B8]at h2;simp[Xp]at h1;simp at h1 h2 ⊢;omega
 obtain⟨k1,k2⟩:=Kk ho;exact cN hr k1 (hp.trans k2.symm)
theorem oc{o:List Sc}(ho:ES o)(hl:o.length<=16)(v:Nat):SpecF Tryz.prog 198 (fun r=>[zd o v r,DF]) (lM o v) (fun _=>.tup []) (lM (Dc o) v):=by
 obtain⟨d,hd⟩:∃d:Array Sc,d=o.toArray:=⟨_,rfl⟩;have hdl:d.toList=o:=by rw[hd]
 have hds:d.size=o.length:=by rw[hd];simp
 have hb:Sort.bitsLen o.length<=8:=(ZH o.length oF).2;have hfar:gJ o.length (Sort.bitsLen o.length) true:=by
  have:∀n:Fin 17,n.val<=12\/(n.val-12)+0<=Sort.bitsLen n.val:=by decide +kernel
  unfold gJ;simpa using this ⟨o.length,oF⟩
 have hP:PQs v o.length 0 o.length (Sort.bitsLen o.length) d:=lr (Ac2 oF o.length oF 0 o.length _ true true d hds oF (Cq _) oF oF hfar);have hS:=Sort.pdq_sorts B8 Aiy d 0 d.size (Sort.bitsLen o.length) true true (Nat.zero_le _) (Cq _) (.inl rfl);have hres:(Sort.pdq B8 d 0 o.length (Sort.bitsLen o.length) true true).toList=Dc o:=by
  rw[hds]at hS;obtain⟨⟨s1,_,s3⟩,s4⟩:=hS;refine eO ho ?_ (by rw[s1,hds];exact s4);have e1:∀x:Array Sc,x.size=o.length->x.extract 0 o.length=x:=fun x hx=>by rw[<-hx];simp
  rw[e1 _ (by rw[s1,hds]),e1 _ hds,hdl]at s3;exact s3
 unfold PQs at hP;rw[show(Br d v)=lM o v by unfold Br;rw[hdl],show Br (Sort.pdq B8 d 0 o.length (Sort.bitsLen o.length) true true) v=lM (Dc o) v by unfold Br;rw[hres]]at hP;refine Az Ht iS (Af BH (Af E5 Ak)) (Bj Ak) fun w0 I0 M0 m0=>?_;have e1:u64.wrap (o.length:Int)=(o.length:Int):=EZ oF oF;have hL:=UD o.length oF;rw[Ao Dp.eq_1];simp[e1];refine Ae hL rfl ?_;simp;refine Au 0 hP (fun p=>iS) iS iS ?_;simp;exact Bg rfl rfl (fun p=>iS)
@[simp]theorem Ahv{x:Sc}:(gN x).take 2=QA x:=rfl
theorem o5{all:List Sc}:∀(m:Nat)(l junk o:List Sc)(v:Nat),l.length=m->l.length<=300->o.length+l.length<=300->OH l l.length->(∀y,y∈all->y∈l\/CD o y=false)->(∀y,y∈l->y∈all) ->
  ∃o',LD all o o'/\∀{n0:Nat} {w0:World} {I0:Nat->Prop} {Q:Exit->Sta->Prop} (u:Nat) (H:Hp),(∀p,H (0::p)=(Ng l junk v).F 0 p)->(∀p,H (2::p)=(lM o u).F 2 p) ->
   (∀(H':Hp)(u':Nat)(st:List (Nat × A)),(∀p,H' (2::p)=(lM o' u').F 2 p)->Q (.exit 4) ⟨lk ([(3,lO 0),(8,zd o' u' 2)]++st),H'⟩) ->
   LoopC (cx Tryz.prog w0 I0 n0) I9 Q ⟨lk [(3,lO 0),(8,zd o u 2)],H⟩:=by
 intro m;induction m with
 |zero=>
  intro l junk o v hm hl hol hh hall hsub;have:l=[]:=List.eq_nil_of_length_eq_zero hm;subst this;have hdone:∀y,y∈all->CD o y=false:=fun y hy=>by
   rcases hall y hy with h|h
   ·simp at h
   ·exact h
  refine⟨o,.done hdone,fun {n0 w0 I0 Q} u H hH hG hq=>?_⟩;have hL:=QJ [] junk v iS;have h0:=hH [];refine Ab Ah (Ao I9.eq_1) ?_;simp[h0];refine Au 0 hL hH iS iS ?_;simp;exact hq _ u [(51,bv false)] (fun p=>by simp[hG])
 |succ m ih=>
  intro l junk o v hm hl hol hh hall hsub;obtain⟨q1,q2,q3⟩:=Adr (l:=l) oF hh;have hmin:∀y,y∈l->BB y (gt l 0)=false:=fun y hy=>by
   obtain⟨k,hk,rfl⟩:=List.getElem_of_mem hy;rw[<-Acx hk];exact yZ hh k hk
  obtain⟨g1,g2⟩:=vI q3 hmin hall hsub;have hP:=nB l junk v oF oF;have hL:=QJ l junk v oF;have hlen:=XV l;have hrl:((LU l).take (l.length-1)).length=m:=by simp;omega
  have q1':(LU l).getD (l.length-1) sc0=gt l 0:=q1;rw[q1']at hP;have q2':OH ((LU l).take (l.length-1)) m:=fun k h1 h2=>q2 k h1 oF;clear q2;generalize gt l 0=x at hP g1 g2 q3 hmin;generalize (LU l).take (l.length-1)=rest at hP hrl q2' q3 g1 g2;have q2:OH rest rest.length:=fun k h1 h2=>q2' k h1 oF;have hsub':∀y,y∈rest->y∈all:=fun y hy=>hsub y (q3.subset (by simp[hy]));cases hf:CD o x with
  |true=>
   obtain⟨b1,b2⟩:=g1 hf;obtain⟨o',p1,p2⟩:=ih rest (x::junk) (o++[x]) v hrl oF (by simp;omega) q2 b2 hsub';refine⟨o',.step b1 p1,fun {n0 w0 I0 Q} u H hH hG hq=>?_⟩;have hC:=bS x o u oF;rw[hf]at hC;have h0:=hH [];simp only[Acj]at h0;refine Ab Ah (Ao I9.eq_1) ?_;simp[h0];refine Au 0 hL hH iS iS ?_;simp[show 0<l.length from oF];refine Au 0 hP (fun p=>iS) iS iS ?_;simp[Aa,DN];have hG2:∀p,(ov 0 ((Ng rest (x::junk) v).F 0) (Ar H [1] ⟨(H [1]).u+1,.cells (gN x)⟩):Hp) (2::p)=(lM o u).F 2 p:=fun p=>by simp[Aa,hG]
   refine Au 2 hC hG2 iS iS ?_;have ht:(o.map Jd).take o.length=o.map Jd:=Ax iS;simp[Aa,oZ,ht,DN];refine⟨qi,oF,?_⟩;refine LoopC.le (Al [(3,lO 0),(8,zd (o++[x]) (u+1) 2)] iS) ?_;exact p2 (u+1) _ (fun p=>by simp[Aa]) (fun p=>by by_cases hp:p=[]<;>simp[hp,Aa]) hq
  |false=>
   obtain⟨o',p1,p2⟩:=ih rest (x::junk) o v hrl oF oF q2 (g2 hf) hsub';refine⟨o',p1,fun {n0 w0 I0 Q} u H hH hG hq=>?_⟩;have hC:=bS x o u oF;rw[hf]at hC;have h0:=hH [];simp only[Acj]at h0;refine Ab Ah (Ao I9.eq_1) ?_;simp[h0];refine Au 0 hL hH iS iS ?_;simp[show 0<l.length from oF];refine Au 0 hP (fun p=>iS) iS iS ?_;simp[Aa,DN];have hG2:∀p,(ov 0 ((Ng rest (x::junk) v).F 0) (Ar H [1] ⟨(H [1]).u+1,.cells (gN x)⟩):Hp) (2::p)=(lM o u).F 2 p:=fun p=>by simp[Aa,hG]
   refine Au 2 hC hG2 iS iS ?_;simp;refine LoopC.le (Al [(3,lO 0),(8,zd o u 2)] iS) ?_;exact p2 u _ (fun p=>by simp[Aa]) (fun p=>iS) hq
end Go.Proofs.YtlaapfplenlfaaaGreat
namespace Go.PL
open List
def DY(i:Nat):Nat->List Int->List Sc
 |_,[]=>[]
 |j,n::r=>if 0<n/\i<16/\j<16 then ⟨i,j,n⟩::DY i (j+1) r else DY i (j+1) r
def Df:Nat->List (List Int)->List Sc
 |_,[]=>[]
 |i,r::rs=>DY i 0 r++Df (i+1) rs
theorem VK{i:Nat}:∀{r:List Int} {j:Nat},(DY i j r).length<=16-j
 |[],j=>by simp[DY]
 |n::r,j=>by
  have:=VK (i:=i) (r:=r) (j:=j+1);unfold DY;split
  ·simp;omega
  ·omega
theorem cu{i:Nat}(h:16<=i):∀{r:List Int} {j:Nat},DY i j r=[]
 |[],j=>rfl
 |n::r,j=>by
  unfold DY;rw[if_neg oF,cu h]
theorem QR:∀{rs:List (List Int)} {i:Nat},(Df i rs).length<=(16-i)*16
 |[],i=>by simp[Df]
 |r::rs,i=>by
  have h1:=QR (rs:=rs) (i:=i+1);have h2:=VK (i:=i) (r:=r) (j:=0);unfold Df;rw[List.length_append];by_cases h:16<=i
  ·rw[cu h];simp;omega
  ·omega
theorem UG{i:Nat}:∀{r:List Int} {j:Nat} {x:Sc},x∈DY i j r->x.i=i/\i<16/\x.j<16/\j<=x.j/\x.j<j+r.length/\r[x.j-j]? = some x.n/\0<x.n
 |[],j,x,h=>by simp[DY]at h
 |n::r,j,x,h=>by
  have ih:x∈DY i (j+1) r->x.i=i/\i<16/\x.j<16/\j<=x.j/\x.j<j+(n::r).length/\(n::r)[x.j-j]? = some x.n/\0<x.n:=fun h=>by
   obtain⟨h1,h2,h3,h4,h5,h6,h7⟩:=UG h;refine⟨h1,h2,h3,oF,by simp;omega,?_,h7⟩;rw[show x.j-j=(x.j-(j+1))+1 by omega];simpa using h6
  unfold DY at h;split at h
  ·rename_i hc;rcases List.mem_cons.1 h with rfl|h
   ·exact⟨rfl,hc.2.1,hc.2.2,Cq _,iS,iS,hc.1⟩
   ·exact ih h
  ·exact ih h
end Go.PL
namespace Go.Proofs.YtlaapfplenlfaaaGreat
open Go Go.G Go.Proofs Go.PL
abbrev M6(l:List (List Int)):A:=.sl false (l.map CN)
def HpI(H:Hp)(all:List Sc):Prop:=∃(l junk:List Sc)(v:Nat),(∀p,H (0::p)=(Ng l junk v).F 0 p)/\OH l l.length/\List.Perm l all/\∀p,H (2::p)=⟨0,.none⟩
theorem Aav{n0:Nat}{w0:World}{I0:Nat->Prop}{Q:Exit->Sta->Prop}{X:A}{N:Nat}{r:List Int}{i:Nat}(hr:r.length<=1000000):∀(m j:Nat)(all:List Sc)(H:Hp),r.length=j+m->all.length+(DY i j (r.drop j)).length<=256->HpI H all ->
  (∀(H':Hp)(st:List (Nat × A)),HpI H' (all++DY i j (r.drop j))->Q (.exit 2) ⟨lk ([(3,lO 0),(4,iv i),(12,X),(13,iv N),(14,iv i)]++st),H'⟩) ->
  LoopC (cx Tryz.prog w0 I0 n0) I6 Q ⟨lk [(3,lO 0),(4,iv i),(12,X),(13,iv N),(14,iv i),(19,CN r),(20,iv r.length),(21,iv j)],H⟩:=by
 intro m;induction m with
 |zero=>
  intro j all H hm hl hI hq;refine Ab Ah (Ao I6.eq_1) ?_;have:¬(j:Int)<r.length:=oF
  simp[this];have hd:r.drop j=[]:=List.drop_eq_nil_of_le oF;rw[hd]at hq;exact hq H [(19,CN r),(20,iv r.length),(21,iv j),(22,bv false)] (by simpa[DY]using hI)
 |succ m ih=>
  intro j all H hm hl hI hq;have hj:j<r.length:=oF
  have hd:r.drop j=r[j]::r.drop (j+1):=(List.getElem_cons_drop hj).symm;have e1:=Ap j;rw[hd]at hl hq;unfold DY at hl hq;refine Ab Ah (Ao I6.eq_1) ?_;simp[hj,show(j:Int)<r.length by omega];have next:∀(all':List Sc)(H':Hp),all'.length+(DY i (j+1) (r.drop (j+1))).length<=256->HpI H' all'->all'++DY i (j+1) (r.drop (j+1))=all++(if 0<r[j]/\i<16/\j<16 then ⟨i,j,r[j]⟩::DY i (j+1) (r.drop (j+1))else DY i (j+1) (r.drop (j+1)))->LoopC (cx Tryz.prog w0 I0 n0) I6 Q ⟨lk [(3,lO 0),(4,iv i),(12,X),(13,iv N),(14,iv i),(19,CN r),(20,iv r.length),(21,iv (j+1:Nat))],H'⟩:=fun all' H' hl' hI' he=>ih (j+1) all' H' oF hl' hI' (by rw[he];exact hq)
  by_cases h1:0<r[j]
  ·by_cases h2:i<16
   ·by_cases h3:j<16
    ·rw[if_pos ⟨h1,h2,h3⟩]at hl;obtain⟨l,junk,v,q1,q2,q3,q4⟩:=hI;have hll:=q3.length_eq;simp at hl;have hP:=jR l junk v oF ⟨i,j,r[j]⟩;obtain⟨g1,g2⟩:=pX q2 ⟨i,j,r[j]⟩;simp[h1,show(i:Int)<16 by omega,show(j:Int)<16 by omega];refine⟨?_,fun h=>oF⟩;refine Au 0 hP q1 (by simp[QD,gN]) iS ?_;simp[e1];refine next (all++[⟨i,j,r[j]⟩]) _ (by simp;omega) ⟨te (l.length+1) (l++[⟨i,j,r[j]⟩]) l.length,[],v+1,fun p=>iS,?_,?_,fun p=>by simp[q4]⟩ (by rw[if_pos ⟨h1,h2,h3⟩];simp)
     ·rw[eR];simpa using g1
     ·exact g2.trans ((q3.cons _).trans (List.perm_append_singleton _ _).symm)
    ·have:¬(j:Int)<16:=oF
     simp[h1,show(i:Int)<16 by omega,this,e1];intro _;refine next all H (by rw[if_neg oF]at hl;exact hl) hI (by rw[if_neg oF])
   ·have:¬(i:Int)<16:=oF
    simp[h1,this,e1];refine next all H (by rw[if_neg oF]at hl;exact hl) hI (by rw[if_neg oF])
  ·simp[h1,e1];refine next all H (by rw[if_neg oF]at hl;exact hl) hI (by rw[if_neg oF])
theorem AaK{n0:Nat}{w0:World}{I0:Nat->Prop}{Q:Exit->Sta->Prop}{rs:List (List Int)}(hrs:rs.length<=1000000)(hr:∀r,r∈rs->r.length<=1000000):∀(m i:Nat)(all:List Sc)(H:Hp),rs.length=i+m->all.length+(Df i (rs.drop i)).length<=256->HpI H all ->
  (∀(H':Hp)(st:List (Nat × A)),HpI H' (all++Df i (rs.drop i))->Q (.exit 0) ⟨lk ([(3,lO 0)]++st),H'⟩) ->
  LoopC (cx Tryz.prog w0 I0 n0) Kx Q ⟨lk [(3,lO 0),(12,M6 rs),(13,iv rs.length),(14,iv i)],H⟩:=by
 intro m;induction m with
 |zero=>
  intro i all H hm hl hI hq;refine Ab Ah (BG Kx.eq_1) ?_;have:¬(i:Int)<rs.length:=oF
  simp[this];have hd:rs.drop i=[]:=List.drop_eq_nil_of_le oF;rw[hd]at hq;exact hq H [(12,M6 rs),(13,iv rs.length),(14,iv i),(15,bv false)] (by simpa[Df]using hI)
 |succ m ih=>
  intro i all H hm hl hI hq;have hj:i<rs.length:=oF
  have hd:rs.drop i=rs[i]::rs.drop (i+1):=(List.getElem_cons_drop hj).symm;have e1:=Ap i;have hri:=hr rs[i] (Bv hj);rw[hd]at hl hq;unfold Df at hl hq;rw[List.length_append]at hl;refine Ab Ah (BG Kx.eq_1) ?_;simp[hj,show(i:Int)<rs.length by omega];refine LoopC.le (Al [(3,lO 0),(4,iv i),(12,M6 rs),(13,iv rs.length),(14,iv i),(19,CN rs[i]),(20,iv rs[i].length),(21,iv (0:Nat))] iS) ?_;refine Aav hri rs[i].length 0 all H oF (by simp;omega) hI fun H' st hI'=>?_;simp[e1];refine ih (i+1) _ H' oF ?_ (by simpa using hI') fun H2 st2 hI2=>?_
  ·simp;omega
  ·refine hq H2 st2 (by simpa using hI2)
theorem ku:∀all:List Sc,∃l,OH l l.length/\List.Perm l all
 |[]=>⟨[],fun k _ h=>by simp at h,List.Perm.refl _⟩
 |x::all=>by
  obtain⟨l,h1,h2⟩:=ku all;obtain⟨g1,g2⟩:=pX h1 x;exact⟨_,by rw[eR];simpa using g1,g2.trans (h2.cons x)⟩
theorem r9{all:List Sc}(h:all.length<=300):∃o',LD all [] o':=by
 obtain⟨l,h1,h2⟩:=ku all;have:=h2.length_eq;obtain⟨o',h3,_⟩:=o5 (all:=all) l.length l [] [] 0 rfl oF (by simp;omega) h1 (fun y hy=>.inl (h2.symm.subset hy)) (fun y hy=>h2.subset hy);exact⟨o',h3⟩
theorem G5{rs:List (List Int)}{o':List Sc}(h:LD (Df 0 rs) [] o'):ES o'/\(∀x,x∈o'->x∈Df 0 rs):=j7 h (by simp[ES]) iS
theorem tb(rs:List (List Int))(hrs:rs.length<=1000000)(hr:∀r,r∈rs->r.length<=1000000){o':List Sc}(ho:LD (Df 0 rs) [] o')(hl16:o'.length<=16):G.Spec Tryz.prog 185 [M6 rs] (.sl false ((Dc o').map Jd)):=by
 obtain⟨hap,_⟩:=G5 ho;have hcl:=QR (rs:=rs) (i:=0);refine Aj iX iS fun w0 I0=>?_;rw[gm WK.eq_1];simp;refine LoopC.le (Bi (d:=[0]) (u:=1) (cs:=[.sl true []]) 0 [0,0] 3 rfl rfl iS) ?_;simp;refine LoopC.le (Al [(3,lO 0),(12,M6 rs),(13,iv rs.length),(14,iv (0:Nat))] iS) ?_;refine AaK hrs hr rs.length 0 [] _ oF (by simpa using hcl) ⟨[],[],1,fun p=>?_,fun k _ h=>by simp at h,List.Perm.refl _,fun p=>iS⟩ fun H' st hI=>?_
 ·by_cases h1:p=[]
  ·subst h1;simp
  ·by_cases h2:p=[0]
   ·subst h2;simp
   ·simp[h1,h2,Ne.symm h1,Ne.symm h2]
 ·obtain⟨l,junk,v,q1,q2,q3,q4⟩:=hI;simp only[List.nil_append,List.drop_zero]at q3;have hll:=q3.length_eq;simp;refine LoopC.le (BC 8 [2] 2 iS) ?_;obtain⟨o2,p1,p2⟩:=o5 (all:=Df 0 rs) l.length l junk [] v rfl oF (by simp;omega) q2 (fun y hy=>.inl (q3.symm.subset hy)) (fun y hy=>q3.subset hy);have:=sK p1 ho;subst this;refine LoopC.le (Al [(3,lO 0),(8,zd [] ((H' [2]).u+1) 2)] iS) ?_;refine p2 _ _ (fun p=>by simp[Aa,q1]) (fun p=>?_) fun H2 u2 st2 hG=>?_
  ·by_cases h1:p=[]<;>simp[h1,Aa,q4]
  ·have hS:=oc hap hl16 u2;simp;refine Au 2 hS hG iS iS ?_;simp;have hsl:(Dc o2).length=o2.length:=(Kk hap).2.length_eq;have:=Zq (H:=ov 2 ((lM (Dc o2) u2).F 2) H2) (o:=[2]) (u:=u2) (sz:=2) (l:=Dc o2) (f:=Jd) (n:=o2.length) iS oF (by intro x;rfl);rw[Ax oF]at this;exact this
end Go.Proofs.YtlaapfplenlfaaaGreat
namespace Go.Proofs.YtlaapfplenlfaaaGreat
set_option maxRecDepth 20000
open Go Go.G Go.Proofs
@[simp]theorem Alc:Eg Tryz.prog 159=some 1:=by kernel_rfl
@[simp]theorem AkY:Eg Tryz.prog 164=some 2:=by kernel_rfl
@[simp]theorem Ak2:Eg Tryz.prog 190=some 2:=by kernel_rfl
@[simp]theorem AjH:EE Tryz.prog 159=some false:=by kernel_rfl
@[simp]theorem Ai7:EE Tryz.prog 164=some true:=by kernel_rfl
@[simp]theorem AjK:EE Tryz.prog 190=some true:=by kernel_rfl
@[simp]theorem Af3:BW Tryz.prog 159=some (Value.slice none 0 0):=by kernel_rfl
@[simp]theorem Afj:BW Tryz.prog 164=some (Value.agg #[Value.int i64 0,Value.int i64 0]):=by kernel_rfl
@[simp]theorem AfC:BW Tryz.prog 190=some (Value.agg #[Value.int i64 0,Value.int i64 0]):=by kernel_rfl
@[simp]theorem Afa:BW Tryz.prog 209=some (Value.agg #[Value.int i64 0,Value.int i64 0,Value.int i64 0]):=by kernel_rfl
@[simp]theorem AeE:Ce Tryz.prog 164=some 16:=by kernel_rfl
@[simp]theorem Adw:Ce Tryz.prog 190=some 16:=by kernel_rfl
@[simp]theorem tx:Am Tryz.prog 164 0=some 0:=by kernel_rfl
@[simp]theorem tQ:Am Tryz.prog 164 1=some 1:=by kernel_rfl
@[simp]theorem tD:Am Tryz.prog 190 0=some 0:=by kernel_rfl
@[simp]theorem ux:Am Tryz.prog 190 1=some 1:=by kernel_rfl
@[simp]theorem tZ:Am Tryz.prog 207 0=some 0:=by kernel_rfl
@[simp]theorem AeV(ps:List (Nat × A)):CY Tryz.prog 164 ps=(DI (fun i=>([(0,1),(1,1)]:List (Nat × Nat))[i]?) [iv 0,iv 0] ps).map A.agg:=by kernel_rfl
@[simp]theorem Aeq(ps:List (Nat × A)):CY Tryz.prog 190 ps=(DI (fun i=>([(0,1),(1,1)]:List (Nat × Nat))[i]?) [iv 0,iv 0] ps).map A.agg:=by kernel_rfl
@[simp]theorem AeA(ps:List (Nat × A)):CY Tryz.prog 207 ps=(DI (fun i=>([(0,1)]:List (Nat × Nat))[i]?) [A.sl true []] ps).map A.agg:=by kernel_rfl
def Ws:CC:=Bh (cG Tryz.f179 1 [[0,1,2,3],[9],[0,1,2,3,8,9],[0,1,8,14],[0,1,8,14],[995],[999,0,1,8],[0,1,8]])
theorem je:Bs Tryz.prog 179 44 [(.tmp 8)] Ws:=Aq Tryz.func179
def Ia:CC:=Bh (cG Tryz.f156 9212511 [[0,1,2,8,9,10,11,12,13,14,99],[995],[999,99],[]])
def Ig:CC:=CV (cG Tryz.f156 37471 [[0,1,2,8,9,10,11,12,54],[995],[999,54],[13],[14],[996],[999],[],[13,14,118],[0,1,2,6,7,8,9,10,11,12,118],[995],[999,0,1,2,6,7,8,9,10,11,12],[]]) Ia
def Ie:CC:=CV (cG Tryz.f156 607 [[0,1,2,8,9,10,11,47],[995],[999,47],[12],[996],[999,12],[]]) Ig
def PN:CC:=CV (cG Tryz.f156 1 [[0,1,2],[8,9],[],[40],[0,1,2,6,7,8,9,40],[995],[999,0,1,2,6,7,8,9],[10,4000],[11],[996],[999,0,1,2,8,9,10,11],[6,7]]) Ie
theorem X6:Bs Tryz.prog 156 120 [(.tmp 6),(.tmp 7)] PN:=Aq Tryz.func156
def So:CC:=Bh (cG Tryz.f191 7969995 [[1,5,7,8,16,17,18,22,23,24]])
def LV:CC:=CV (cG Tryz.f191 40139 [[1,5,7,8,16,17,18,22,23,24,25],[995],[999,25],[9,10],[11],[10,36],[8,36],[999],[994],[999,8,9,11],[]]) So
def Oy:CC:=CV (cG Tryz.f191 75 [[1,5,16,17,18,19],[995],[999,19],[7],[8],[22,23,24],[996],[999,7,8,22,23,24],[]]) LV
def cV:CC:=CV (cG Tryz.f191 1 [[0,1],[5,4000],[0,16,17,18],[996],[999,1,16,17,18],[4,5]]) Oy
theorem rl:Bs Tryz.prog 191 61 [(.tmp 4)] cV:=Aq Tryz.func191
def JJ:CC:=Bh (cG Tryz.f192 75 [[0,3,9,10,11,12],[995],[999,12],[4,5],[4,5],[]])
def Tn:CC:=CV (cG Tryz.f192 1 [[0],[3,3000],[9,10,11],[996],[999,0,9,10,11],[2,3]]) JJ
theorem fB:Bs Tryz.prog 192 26 [(.tmp 2)] Tn:=Aq Tryz.func192
def KN:CC:=Bh (cG Tryz.f182 151 [[1,7,8,9,24,25,26],[995],[999,26],[10],[52],[10,52],[999],[]])
def Ww:CC:=CV (cG Tryz.f182 1 [[0,1,2],[0,2,7,8],[9],[24,25],[996],[999,1,7,8,24,25],[6,9]]) KN
theorem lH:Bs Tryz.prog 182 56 [(.tmp 6)] Ww:=Aq Tryz.func182
def NP:CC:=Bh (cG Tryz.f180 1 [[0,1,2,7],[0,1,2,7,10001]])
theorem V7:Bs Tryz.prog 180 20 [] NP:=Aq Tryz.func180
def GH:CC:=Bh (cG Tryz.f181 18 [[0,1,2,8,9,10,11],[995],[999,11],[6,7],[7,17],[1,8,9,10,17],[],[0,2,6],[995],[999,0,1,2,8,9,10],[]])
def NJ:CC:=CV (cG Tryz.f181 1 [[0,1,2,8,9,10],[996],[999,1,8,9,10],[],[0,2]]) GH
theorem VZ:Bs Tryz.prog 181 37 [] NJ:=Aq Tryz.func181
def Ew:CC:=Bh (cG Tryz.f157 1 [[0,1,2,31],[1,31],[0,2],[0,1,2,48],[0,1,2,48],[0,1,2,6],[7],[],[0,1,2,6,7]])
theorem GK:Bs Tryz.prog 157 58 [] Ew:=Aq Tryz.func157
def Kt:CC:=Bh (cG Tryz.f159 1 [[1,1000],[1,2]])
theorem Q8:Bs Tryz.prog 159 21 [(.tmp 2)] Kt:=Aq Tryz.func159
def FZ:CC:=Bh (cG Tryz.f158 9 [[1,2,6,7,8,9],[995],[999,9],[5],[15],[15,8001],[999],[5],[999],[]])
def Mo:CC:=CV (cG Tryz.f158 1 [[1,2,6,7,8],[996]]) FZ
theorem UY:Bs Tryz.prog 158 27 [] Mo:=Aq Tryz.func158
def Hx:CC:=Bh (cG Tryz.f122 29487 [[3,4,5,9,10,11]])
def Fi:CC:=CV (cG Tryz.f122 303 [[3,4,5,9,10,11,12],[995],[999,12],[7,3002],[18],[18,22],[22],[],[999],[994],[999,7],[]]) Hx
def OW:CC:=CV (cG Tryz.f122 1 [[0],[3,1000],[4,1000,1001],[5],[0,9,10,11],[996],[999,4,9,10,11],[5],[2,3]]) Fi
theorem Xn:Bs Tryz.prog 122 42 [(.tmp 2)] OW:=Aq Tryz.func122
def Zw:CC:=Bh (cG Tryz.f121 1 [[0,1,2],[2,9],[9,19],[0,1,6,7,19],[995],[999,0,1,6,7],[10,2000],[998],[0,1],[6,7,10]])
theorem mj:Bs Tryz.prog 121 31 [(.tmp 6),(.tmp 7)] Zw:=Aq Tryz.func121
def HP:CC:=Bh (cG Tryz.f186 468555 [[0,1,5,6,7,8,68],[68],[999],[8]])
def BX:CC:=CV (cG Tryz.f186 9803 [[0,1,5,6,7,29],[995],[999,29],[8],[49],[49],[999],[994],[999,8],[]]) HP
def DH:CC:=CV (cG Tryz.f186 75 [[0,1,5,6,12],[995],[999,12],[5000,6002,7001],[7],[996],[999,7],[]]) BX
def LM:CC:=CV (cG Tryz.f186 1 [[0,1],[5],[6],[996],[999,0,1,6],[4,5]]) DH
theorem Sx:Bs Tryz.prog 186 87 [(.tmp 4)] LM:=Aq Tryz.func186
def Kp:CC:=Bh (cG Tryz.f170 1 [[0,1],[0,1,4]])
theorem Rr:Bs Tryz.prog 170 16 [(.tmp 4)] Kp:=Aq Tryz.func170
def Et:CC:=Bh (cG Tryz.f187 75 [[0,3,4,9],[995],[999,9],[7000],[]])
def Ks:CC:=CV (cG Tryz.f187 1 [[0],[3],[4],[996],[999,0,4],[2,3]]) Et
theorem Rk:Bs Tryz.prog 187 20 [(.tmp 2)] Ks:=Aq Tryz.func187
def ED:CC:=Bh (cG Tryz.f171 17559 [[0,1,5,6,7,8,9,60],[995],[999,60],[]])
def Gy:CC:=CV (cG Tryz.f171 151 [[0,1,5,6,7,8,21],[995],[999,21],[9],[996],[999],[9,4000],[999],[]]) ED
def Ns:CC:=CV (cG Tryz.f171 1 [[0,1],[5,6],[7],[8],[996],[999,0,1,5,6,8],[4,7]]) Gy
theorem V1:Bs Tryz.prog 171 68 [(.tmp 4)] Ns:=Aq Tryz.func171
def Ln:CC:=Bh (cG Tryz.f188 1 [[1,1000],[1,2]])
theorem SY:Bs Tryz.prog 188 21 [(.tmp 2)] Ln:=Aq Tryz.func188
def JC:CC:=Bh (cG Tryz.f189 1 [[0,3,1005],[9],[0,3,4,9],[995],[999,0,3,4],[5],[25],[6,25],[0,3001],[3,5],[4,6],[995],[999,0,3,4],[0,3,4,4003]])
theorem NI:Bs Tryz.prog 189 48 [(.tmp 4)] JC:=Aq Tryz.func189
def Dk:CC:=Bh (cG Tryz.f172 151 [[0,3,4,5,6,10],[995],[999,10],[24],[995],[999,24],[36],[36],[995],[999],[55],[55],[995],[999],[4],[5],[4],[5],[74],[74],[999],[]])
def Kq:CC:=CV (cG Tryz.f172 1 [[0],[3],[4,5],[6],[996],[999,0,4,5,6],[2,3]]) Dk
theorem Rs:Bs Tryz.prog 172 82 [(.tmp 2)] Kq:=Aq Tryz.func172
def F4:CC:=Bh (cG Tryz.f142 303 [[0,1,8,9,10,35],[995],[999,35],[11],[49],[11,49,7000],[4001],[999],[]])
def ME:CC:=CV (cG Tryz.f142 1 [[0,1,2],[2,23],[0,1,6,7,23],[995],[999,0,1,6,7],[8],[9,5000],[10],[996],[999,10],[0,1,6,7,8,9,12002]]) F4
theorem T6:Bs Tryz.prog 142 74 [(.tmp 6),(.tmp 7)] ME:=Aq Tryz.func142
end Go.Proofs.YtlaapfplenlfaaaGreat
namespace Go.PL
open List
def gO(x:Int):List Int->Option (List Int)
 |[]=>none
 |y::b=>if x=y then some b else gO x b
def AK:List Int->List Int->Nat
 |[],_=>0
 |x::a,b=>max (AK a b) (match gO x b with|some b'=>AK a b'+1|none=>0)
theorem oW{x:Int}{s:List Int}:∀{b:List Int},x::s <+ b->∃b',gO x b=some b'/\s <+ b'
 |[],h=>by cases h
 |y::b,h=>by
  unfold gO;by_cases e:x=y
  ·subst e;refine⟨b,iS,?_⟩;cases h with
   |cons _ h=>exact(List.sublist_cons_self x s).trans h
   |cons_cons _ h=>exact h
  ·rw[if_neg e];cases h with
   |cons _ h=>exact oW h
   |cons_cons _ h=>exact absurd rfl e
theorem QN{x:Int}:∀{b b':List Int},gO x b=some b'->∃b0,b=b0++x::b'/\x∉b0
 |[],b',h=>by cases h
 |y::b,b',h=>by
  unfold gO at h;by_cases e:x=y
  ·rw[if_pos e]at h;cases h;exact⟨[],by simp[e],iS⟩
  ·rw[if_neg e]at h;obtain⟨b0,h1,h2⟩:=QN h;exact⟨y::b0,by simp[h1],by simp[e,h2]⟩
theorem gU{x:Int}:∀{b:List Int},gO x b=none->x∉b
 |[],_=>iS
 |y::b,h=>by
  unfold gO at h;by_cases e:x=y
  ·rw[if_pos e]at h;cases h
  ·rw[if_neg e]at h;simp[e,gU h]
theorem dE{x:Int}:∀{b0 b':List Int},x∉b0->gO x (b0++x::b')=some b'
 |[],b',_=>by simp[gO]
 |y::b0,b',h=>by
  simp at h;simp[gO,h.1,dE h.2]
theorem JU:∀a b:List Int,∃s,s <+ a/\s <+ b/\s.length=AK a b
 |[],b=>⟨[],iS,iS,rfl⟩
 |x::a,b=>by
  obtain⟨s,h1,h2,h3⟩:=JU a b;unfold AK;cases e:gO x b with
  |none=>exact⟨s,h1.cons x,h2,by simp[h3]⟩
  |some b'=>
   obtain⟨t,g1,g2,g3⟩:=JU a b';simp only;by_cases hle:AK a b<=AK a b'+1
   ·obtain⟨b0,rfl,_⟩:=QN e;exact⟨x::t,g1.cons_cons x,(g2.cons_cons x).trans (List.sublist_append_right _ _),by simp;omega⟩
   ·exact⟨s,h1.cons x,h2,oF⟩
theorem JG:∀{a b s:List Int},s <+ a->s <+ b->s.length<=AK a b
 |[],b,s,h1,h2=>by
  have:=List.sublist_nil.1 h1;subst this;simp
 |x::a,b,s,h1,h2=>by
  unfold AK;cases h1 with
  |cons _ h=>have:=JG h h2;omega
  |@cons_cons s' _ _ h=>
   obtain⟨b',e,h3⟩:=oW h2;have:=JG h h3;rw[e];simp;omega
theorem AeX{a b:List Int}{n:Nat}(h1:∃s,s <+ a/\s <+ b/\s.length=n)(h2:∀s,s <+ a->s <+ b->s.length<=n):AK a b=n:=by
 obtain⟨s,g1,g2,g3⟩:=h1;obtain⟨t,k1,k2,k3⟩:=JU a b;have:=JG g1 g2;have:=h2 t k1 k2;omega
theorem KO(a b:List Int):AK a.reverse b.reverse=AK a b:=by
 obtain⟨s,h1,h2,h3⟩:=JU a b;refine AeX ⟨s.reverse,h1.reverse,h2.reverse,by simpa using h3⟩ fun t g1 g2=>?_;have:=JG (a:=a) (b:=b) (s:=t.reverse) (by simpa using g1.reverse) (by simpa using g2.reverse);simpa using this
theorem QG{a b a' b':List Int}(h1:a <+ a')(h2:b <+ b'):AK a b<=AK a' b':=by
 obtain⟨s,g1,g2,g3⟩:=JU a b;have:=JG (g1.trans h1) (g2.trans h2);omega
theorem pS(a b a' b':List Int):AK a b+AK a' b'<=AK (a++a') (b++b'):=by
 obtain⟨s,g1,g2,g3⟩:=JU a b;obtain⟨t,k1,k2,k3⟩:=JU a' b';have:=JG (g1.append k1) (g2.append k2);simp at this;omega
theorem sj(a a' b:List Int):∃b1 b2,b=b1++b2/\AK (a++a') b=AK a b1+AK a' b2:=by
 obtain⟨s,g1,g2,g3⟩:=JU (a++a') b;obtain⟨s1,s2,rfl,k1,k2⟩:=List.sublist_append_iff.1 g1;obtain⟨b1,b2,rfl,m1,m2⟩:=List.append_sublist_iff.1 g2;refine⟨b1,b2,rfl,?_⟩;have h1:=JG k1 m1;have h2:=JG k2 m2;have h3:=pS a b1 a' b2;simp at g3;omega
theorem HI(a b:List Int):AK a b<=a.length/\AK a b<=b.length:=by
 obtain⟨s,g1,g2,g3⟩:=JU a b;have:=g1.length_le;have:=g2.length_le;omega
theorem Nb(x:Int)(a b:List Int):AK (x::a) (x::b)=AK a b+1:=by
 have h:AK a (x::b)<=AK a b+1:=by
  obtain⟨s,g1,g2,g3⟩:=JU a (x::b);cases g2 with
  |cons _ h=>have:=JG g1 h;omega
  |@cons_cons s' _ _ h=>
   have:=JG ((List.sublist_cons_self x s').trans g1) h;simp at g3;omega
 rw[AK];simp[gO];omega
theorem ay{x y:Int}(h:x≠y)(a b:List Int):AK (x::a) (y::b)=max (AK a (y::b)) (AK (x::a) b):=by
 have h1:AK a b<=AK a (y::b):=QG (List.Sublist.refl _) (List.sublist_cons_self _ _);rw[AK,AK];simp only[gO,if_neg h];omega
theorem MW(x:Int)(a b:List Int):AK (a++[x]) (b++[x])=AK a b+1:=by
 rw[<-KO];simp[Nb,KO]
theorem MZ{x y:Int}(h:x≠y)(a b:List Int):AK (a++[x]) (b++[y])=max (AK a (b++[y])) (AK (a++[x]) b):=by
 rw[<-KO,<-KO a (b++[y]),<-KO (a++[x]) b];simp[ay h]
theorem jy(x:Int)(a b:List Int):AK (x::a) b<=AK a b+1:=by
 rw[AK];cases e:gO x b with
 |none=>simp
 |some b'=>
  obtain⟨b0,rfl,_⟩:=QN e;have:AK a b'<=AK a (b0++x::b'):=QG (List.Sublist.refl _) ((List.sublist_cons_self x b').trans (List.sublist_append_right _ _));simp only;omega
theorem kG(x:Int)(a b:List Int):AK (a++[x]) b<=AK a b+1:=by
 rw[<-KO,<-KO a b];simpa using jy x a.reverse b.reverse
@[simp]theorem AkZ(a:List Int):AK a []=0:=by have:=(HI a []).2;simpa using this
@[simp]theorem Ajg(b:List Int):AK [] b=0:=rfl
theorem Nx:∀(a u v w:List Int),AK a (u++(v++w))+AK a v<=AK a (u++v)+AK a (v++w)
 |[],u,v,w=>iS
 |x::a,u,v,w=>by
  have m1:∀p q:List Int,AK a q<=AK a (p++q):=fun p q=>QG (List.Sublist.refl _) (List.sublist_append_right _ _);have up:∀q:List Int,AK a q<=AK (x::a) q:=fun q=>by rw[AK];omega
  have tk:∀q0 q':List Int,x∉q0->AK a q'+1<=AK (x::a) (q0++x::q'):=fun q0 q' h=>by rw[AK,dE h];simp;omega
  have tk':∀q0 q':List Int,AK a q'+1<=AK (x::a) (q0++x::q'):=fun q0 q'=>by
   have:=Nb x a q';have h2:AK (x::a) (x::q')<=AK (x::a) (q0++x::q'):=QG (List.Sublist.refl _) (List.sublist_append_right _ _);omega
  -- what the two of the left take
  have c1:AK (x::a) (u++(v++w))=AK a (u++(v++w))\/∃q0 q',u++(v++w)=q0++x::q'/\x∉q0/\AK (x::a) (u++(v++w))=AK a q'+1:=by
   rw[AK];cases e:gO x (u++(v++w)) with
   |none=>left;simp
   |some q'=>
    obtain⟨q0,h1,h2⟩:=QN e;simp only;by_cases hle:AK a (u++(v++w))<=AK a q'+1
    ·right;exact⟨q0,q',h1,h2,oF⟩
    ·left;omega
  have c2:AK (x::a) v=AK a v\/∃v0 v',v=v0++x::v'/\x∉v0/\AK (x::a) v=AK a v'+1:=by
   rw[AK];cases e:gO x v with
   |none=>left;simp
   |some q'=>
    obtain⟨q0,h1,h2⟩:=QN e;simp only;by_cases hle:AK a v<=AK a q'+1
    ·right;exact⟨q0,q',h1,h2,oF⟩
    ·left;omega
  rcases c1 with e1|⟨q0,q',h1,hn,e1⟩
  ·rcases c2 with e2|⟨v0,v',rfl,hv,e2⟩
   ·have:=Nx a u v w;have:=up (u++v);have:=up (v++w);omega
   ·have h:=Nx a (u++(v0++[x])) v' w;have g1:=up (u++(v0++x::v'));have g2:=tk v0 (v'++w) hv;simp at h g1 g2 e1 e2 ⊢;omega
  ·-- where the first x stands
   rcases List.append_eq_append_iff.1 h1 with ⟨t,ht1,ht2⟩|⟨t,ht1,ht2⟩
   ·-- q0=u++t,v++w=t++x::q'
    subst ht1;have hnu:x∉u:=fun h=>hn (by simp[h]);have hnt:x∉t:=fun h=>hn (by simp[h]);rcases List.append_eq_append_iff.1 ht2 with ⟨t2,hs1,hs2⟩|⟨t2,hs1,hs2⟩
    ·-- t=v++t2: x stands in w
     subst hs1;have hnv:x∉v:=fun h=>hnt (by simp[h]);have e2:AK (x::a) v=AK a v:=by
      rcases c2 with e2|⟨v0,v',rfl,_,_⟩
      ·exact e2
      ·exact absurd iS hnv
     have g1:=tk (v++t2) q' hnt;have g2:=up (u++v);have g3:=m1 u v;rw[ht2]at e1 ⊢;omega
    ·-- v=t++t2,x::q'=t2++w
     subst hs1;cases t2 with
     |nil=>
      simp at hs2;subst hs2;have e2:AK (x::a) t=AK a t:=by
       rcases c2 with e2|⟨v0,v',hv,_,_⟩
       ·simpa using e2
       ·exact absurd (by simp at hv;simp[hv]) hnt
      have g1:=tk t q' hnt;have g2:=up (u++t);have g3:=m1 u t;simp at e1 e2 g1 g2 g3 ⊢;omega
     |cons y v'=>
      simp at hs2;obtain⟨rfl,rfl⟩:=hs2;have g1:=tk t (v'++w) hnt;have e2:AK (x::a) (t++x::v')<=max (AK a (t++x::v')) (AK a v'+1):=by rw[AK,dE hnt];simp
      have g2:=up (u++(t++x::v'));have g3:=m1 u (t++x::v');have g4:=tk' (u++t) v';simp at e1 e2 g1 g2 g3 g4 ⊢;omega
   ·-- u=q0++t,x::q'=t++(v++w)
    cases t with
    |nil=>
     simp at ht2 ht1;subst ht1
     -- x heads v++w
     cases v with
     |nil=>
      simp at ht2;have g1:=tk [] q' iS;have g0:=up u;simp at g1 e1 ⊢;rw[<-ht2]at e1 ⊢;rw[e1];omega
     |cons y v'=>
      simp at ht2;obtain⟨rfl,rfl⟩:=ht2;have g1:=tk [] (v'++w) iS;have e2:=Nb x a v';have g4:=tk' u v';simp at e1 g1 g4 ⊢;omega
    |cons y u'=>
     simp at ht2;obtain⟨rfl,rfl⟩:=ht2;subst ht1;rcases c2 with e2|⟨v0,v',rfl,hv,e2⟩
     ·have h:=Nx a u' v w;have g1:=tk q0 (u'++v) hn;have g2:=up (v++w);simp at e1 e2 g1 g2 h ⊢;omega
     ·have h:=Nx a (u'++(v0++[x])) v' w;have g1:=tk q0 (u'++(v0++x::v')) hn;have g2:=tk v0 (v'++w) hv;simp at e1 e2 g1 g2 h ⊢;omega
def sg(l:List Int)(p q:Nat):List Int:=(l.take q).drop p
def F6(a b:List Int)(i h j k:Nat):Nat:=AK (sg a i h) (sg b j k)
theorem MQ(l:List Int)(p q:Nat)(h:q<=l.length):(sg l p q).length=q-p:=by simp[sg];omega
theorem Sf{l:List Int}{p k q:Nat}(h1:p<=k)(h2:k<=q):sg l p q=sg l p k++sg l k q:=by
 unfold sg;have e:(l.take q).drop p=((l.take q).drop p).take (k-p)++((l.take q).drop p).drop (k-p):=(List.take_append_drop _ _).symm;rw[e,List.drop_drop,List.take_drop,List.take_take];congr 3<;>first|omega|skip
theorem QZ(l:List Int)(q:Nat):sg l 0 q=l.take q:=by simp[sg]
theorem XR(l:List Int)(p:Nat):sg l p l.length=l.drop p:=by simp[sg]
theorem Adm(l:List Int)(p:Nat):sg l p p=[]:=by simp[sg]
theorem XP{l:List Int}{n p q:Nat}(h:q<=n):sg (l.take n) p q=sg l p q:=by
 unfold sg;rw[List.take_take];congr 2;omega
theorem Xq{l:List Int}{n p q:Nat}:sg (l.drop n) p q=sg l (n+p) (n+q):=by
 unfold sg;rw[List.take_drop,List.drop_drop]
theorem Ib{a b:List Int}{i h t j k q:Nat}(h1:i<=h)(h2:h<=t)(h3:j<=k)(h4:k<=q):F6 a b i h j k+F6 a b h t k q<=F6 a b i t j q:=by
 unfold F6;rw[Sf h1 h2,Sf h3 h4];exact pS _ _ _ _
theorem KW(a b:List Int){i h t j q:Nat}(h1:i<=h)(h2:h<=t)(h3:j<=q)(h4:q<=b.length):∃k,j<=k/\k<=q/\F6 a b i h j k+F6 a b h t k q=F6 a b i t j q:=by
 unfold F6;rw[Sf h1 h2];obtain⟨b1,b2,e,hs⟩:=sj (sg a i h) (sg a h t) (sg b j q);have hl:=MQ b j q h4;rw[e]at hl;simp at hl;refine⟨j+b1.length,oF,oF,?_⟩;have e2:=Sf (l:=b) (p:=j) (k:=j+b1.length) (q:=q) oF oF;rw[e]at e2;obtain⟨g1,g2⟩:=List.append_inj e2 (by rw[MQ _ _ _ oF];omega);rw[<-g1,<-g2,<-hs]
theorem bC(a b:List Int)(i h:Nat){p p' q q':Nat}(h1:p<=p')(h2:p'<=q)(h3:q<=q'):F6 a b i h p q'+F6 a b i h p' q<=F6 a b i h p q+F6 a b i h p' q':=by
 unfold F6;rw[Sf (l:=b) h1 (by omega:p'<=q'),Sf (l:=b) h2 h3,Sf (l:=b) h1 h2];exact Nx _ _ _ _
def j5(p:Nat->Bool):Nat->Nat->Nat
 |0,j=>j
 |f+1,j=>if p j=true then j else j5 p f (j+1)
theorem du{p:Nat->Bool}:∀{f j k:Nat},j<=k->k<=j+f->p k=true->p (j5 p f j)=true/\j<=j5 p f j/\j5 p f j<=k
 |0,j,k,h1,h2,h=>by
  have:k=j:=oF
  subst this;exact⟨h,by simp[j5],by simp[j5]⟩
 |f+1,j,k,h1,h2,h=>by
  unfold j5;by_cases e:p j=true
  ·simp[e,h1]
  ·rw[if_neg e];have hne:j≠k:=fun h'=>by rw[h']at e;exact e h
   have:=du (f:=f) (j:=j+1) (k:=k) oF oF h;exact⟨this.1,oF,this.2.2⟩
def S8(a b:List Int)(i j:Nat):Bool:=decide (F6 a b 0 i 0 j+F6 a b i a.length j b.length=AK a b)
def AX(a b:List Int)(i:Nat):Nat:=j5 (S8 a b i) b.length 0
theorem qG(a b:List Int):F6 a b 0 a.length 0 b.length=AK a b:=by simp[F6,sg]
theorem Om{a b:List Int}{i j:Nat}(hi:i<=a.length)(hj:j<=b.length):F6 a b 0 i 0 j+F6 a b i a.length j b.length<=AK a b:=by
 rw[<-qG];exact Ib oF hi oF hj
theorem Gx{a b:List Int}{i:Nat}(hi:i<=a.length):S8 a b i (AX a b i)=true/\AX a b i<=b.length/\∀j,j<=b.length->S8 a b i j=true->AX a b i<=j:=by
 obtain⟨k,h1,h2,h3⟩:=KW a b (i:=0) (h:=i) (t:=a.length) (j:=0) (q:=b.length) oF hi oF oF;rw[qG]at h3;have:=du (p:=S8 a b i) (f:=b.length) (j:=0) (k:=k) oF oF (by simpa[S8]using h3);refine⟨this.1,by unfold AX;omega,fun j hj h=>?_⟩;exact(du (p:=S8 a b i) (f:=b.length) (j:=0) (k:=j) oF oF h).2.2
theorem Wa{a b:List Int}{i k:Nat}(hi:i<=a.length)(hk:k<=b.length)(h1:S8 a b i k=true)(h2:∀j,j<k->S8 a b i j=false):AX a b i=k:=by
 obtain⟨g1,g2,g3⟩:=Gx (a:=a) (b:=b) hi;have:=g3 k hk h1;by_cases e:AX a b i<k
 ·have:=h2 _ e;rw[g1]at this;cases this
 ·omega
theorem Vb(a b:List Int):AX a b 0=0:=Wa oF oF (by simp[S8,F6,sg]) oF
theorem TM{a b:List Int}{i h:Nat}(hih:i<=h)(hh:h<=a.length):AX a b i<=AX a b h:=by
 obtain⟨g1,g2,g3⟩:=Gx (a:=a) (b:=b) hh;obtain⟨k,h1,h2,h3⟩:=KW a b (i:=0) (h:=i) (t:=h) (j:=0) (q:=AX a b h) oF hih oF g2;have h4:=Ib (a:=a) (b:=b) (i:=i) (h:=h) (t:=a.length) (j:=k) (k:=AX a b h) (q:=b.length) hih hh h2 g2;have h5:=Om (a:=a) (b:=b) (i:=i) (j:=k) oF oF;have hg:=g1;unfold S8 at hg;simp only[decide_eq_true_eq]at hg;have:=(Gx (a:=a) (b:=b) (i:=i) oF).2.2 k oF (by unfold S8;simp only[decide_eq_true_eq];omega);omega
theorem dS{a b:List Int}{i h:Nat}(hih:i<=h)(hh:h<=a.length):AX (a.take h) (b.take (AX a b h)) i=AX a b i:=by
 obtain⟨g1,g2,g3⟩:=Gx (a:=a) (b:=b) hh;obtain⟨f1,f2,f3⟩:=Gx (a:=a) (b:=b) (i:=i) oF;have hm:=TM (a:=a) (b:=b) hih hh;generalize hJ:AX a b h=J at *;generalize hj:AX a b i=j at *;have la:(a.take h).length=h:=by simp;omega
 have lb:(b.take J).length=J:=by simp;omega
 have e0:AK (a.take h) (b.take J)=F6 a b 0 h 0 J:=by simp[F6,QZ]
 have e1:∀k,k<=J->S8 (a.take h) (b.take J) i k=decide (F6 a b 0 i 0 k+F6 a b i h k J=F6 a b 0 h 0 J):=fun k hk=>by
  unfold S8;rw[e0,la,lb];unfold F6;rw[XP hih,XP hk,XP (Cq _),XP (Cq _)]
 unfold S8 at g1 f1;simp only[decide_eq_true_eq]at g1 f1;refine Wa oF oF ?_ fun k hk=>?_
 ·rw[e1 j hm,decide_eq_true_eq]
  -- the way through (i,j) comes to row h at k
  obtain⟨k,h1,h2,h3⟩:=KW a b (i:=i) (h:=h) (t:=a.length) (j:=j) (q:=b.length) hih hh f2 oF;have h4:=Ib (a:=a) (b:=b) (i:=0) (h:=i) (t:=h) (j:=0) (k:=j) (q:=k) oF hih oF h1;have h5:=Om (a:=a) (b:=b) (i:=h) (j:=k) hh h2;have hJk:J<=k:=g3 k h2 (by unfold S8;simp only[decide_eq_true_eq];omega);obtain⟨k2,i1,i2,i3⟩:=KW a b (i:=0) (h:=i) (t:=h) (j:=0) (q:=J) oF hih oF g2;have i4:=Ib (a:=a) (b:=b) (i:=i) (h:=h) (t:=a.length) (j:=k2) (k:=J) (q:=b.length) hih hh i2 g2;have i5:=Om (a:=a) (b:=b) (i:=i) (j:=k2) oF oF;have hjk2:j<=k2:=f3 k2 oF (by unfold S8;simp only[decide_eq_true_eq];omega);have m:=bC a b i h (p:=j) (p':=k2) (q:=J) (q':=k) hjk2 i2 hJk;have t1:=Ib (a:=a) (b:=b) (i:=0) (h:=i) (t:=h) (j:=0) (k:=j) (q:=J) oF hih oF hm;have t2:=Ib (a:=a) (b:=b) (i:=i) (h:=h) (t:=a.length) (j:=k2) (k:=k) (q:=b.length) hih hh oF h2;omega
 ·rw[e1 k oF,decide_eq_false_iff_not];intro e;have h4:=Ib (a:=a) (b:=b) (i:=i) (h:=h) (t:=a.length) (j:=k) (k:=J) (q:=b.length) hih hh oF g2;have h5:=Om (a:=a) (b:=b) (i:=i) (j:=k) oF oF;have:=f3 k oF (by unfold S8;simp only[decide_eq_true_eq];omega);omega
theorem gh{a b:List Int}{i h:Nat}(hh:h+i<=a.length):AX (a.drop h) (b.drop (AX a b h)) i+AX a b h=AX a b (h+i):=by
 obtain⟨g1,g2,g3⟩:=Gx (a:=a) (b:=b) (i:=h) oF;obtain⟨f1,f2,f3⟩:=Gx (a:=a) (b:=b) (i:=h+i) hh;have hm:=TM (a:=a) (b:=b) (i:=h) (h:=h+i) oF hh;generalize hJ:AX a b h=J at *;generalize hj:AX a b (h+i)=j at *;have la:h+(a.drop h).length=a.length:=by simp;omega
 have lb:J+(b.drop J).length=b.length:=by simp;omega
 have e0:AK (a.drop h) (b.drop J)=F6 a b h a.length J b.length:=by simp[F6,XR]
 have e1:∀k,S8 (a.drop h) (b.drop J) i k=decide (F6 a b h (h+i) J (J+k)+F6 a b (h+i) a.length (J+k) b.length=F6 a b h a.length J b.length):=fun k=>by
  unfold S8;rw[e0];unfold F6;rw[Xq,Xq,Xq,Xq,la,lb,Nat.add_zero,Nat.add_zero]
 unfold S8 at g1 f1;simp only[decide_eq_true_eq]at g1 f1
 suffices hw:AX (a.drop h) (b.drop J) i=j-J by omega
 refine Wa oF oF ?_ fun k hk=>?_
 ·rw[e1,decide_eq_true_eq,show J+(j-J)=j by omega]
  -- the way through (h+i,j) comes from row h at k
  obtain⟨k,h1,h2,h3⟩:=KW a b (i:=0) (h:=h) (t:=h+i) (j:=0) (q:=j) oF oF oF f2;have h4:=Ib (a:=a) (b:=b) (i:=h) (h:=h+i) (t:=a.length) (j:=k) (k:=j) (q:=b.length) oF hh h2 f2;have h5:=Om (a:=a) (b:=b) (i:=h) (j:=k) oF oF;have hJk:J<=k:=g3 k oF (by unfold S8;simp only[decide_eq_true_eq];omega);obtain⟨k2,i1,i2,i3⟩:=KW a b (i:=h) (h:=h+i) (t:=a.length) (j:=J) (q:=b.length) oF hh g2 oF;have i4:=Ib (a:=a) (b:=b) (i:=0) (h:=h) (t:=h+i) (j:=0) (k:=J) (q:=k2) oF oF oF i1;have i5:=Om (a:=a) (b:=b) (i:=h+i) (j:=k2) hh i2;have hjk2:j<=k2:=f3 k2 oF (by unfold S8;simp only[decide_eq_true_eq];omega);have m:=bC a b h (h+i) (p:=J) (p':=k) (q:=j) (q':=k2) hJk h2 hjk2;have t1:=Ib (a:=a) (b:=b) (i:=h) (h:=h+i) (t:=a.length) (j:=J) (k:=j) (q:=b.length) oF hh hm f2;have t2:=Ib (a:=a) (b:=b) (i:=0) (h:=h) (t:=h+i) (j:=0) (k:=k) (q:=k2) oF oF oF oF;omega
 ·rw[e1,decide_eq_false_iff_not];intro e;have h4:=Ib (a:=a) (b:=b) (i:=0) (h:=h) (t:=h+i) (j:=0) (k:=J) (q:=J+k) oF oF oF oF;have h5:=Om (a:=a) (b:=b) (i:=h+i) (j:=J+k) hh oF;have:=f3 (J+k) oF (by unfold S8;simp only[decide_eq_true_eq];omega);omega
structure Sp where
 k:Nat
 n:Nat
 deriving DecidableEq
def Sp.ok(s:Sp):Prop:=s.k<=2/\1<=s.n/\s.n<=1048576
def Sp.may(s:Sp):Prop:=s.k<=2/\s.n<=1048576
def A5(l:List Sp):List Nat:=l.flatMap fun s=>replicate s.n s.k
@[simp]theorem Hz:A5 []=[]:=rfl
@[simp]theorem AN(s:Sp)(l:List Sp):A5 (s::l)=replicate s.n s.k++A5 l:=rfl
@[simp]theorem Jv(l m:List Sp):A5 (l++m)=A5 l++A5 m:=by simp[A5]
def fl(k n:Nat):List Sp:=if n=0 then []else [⟨k,n⟩]
@[simp]theorem AlJ(k:Nat):fl k 0=[]:=rfl
theorem MX{k n:Nat}(h:0<n):fl k n=[⟨k,n⟩]:=by unfold fl;rw[if_neg oF]
@[simp]theorem PC(k n:Nat):A5 (fl k n)=replicate n k:=by
 unfold fl;split
 ·rename_i h;simp[h]
 ·simp[A5]
theorem ZS{k n:Nat}(hk:k<=2)(hn:n<=1048576):∀s,s∈fl k n->s.ok:=by
 intro s hs;unfold fl at hs;split at hs
 ·simp at hs
 ·simp at hs;subst hs;exact⟨hk,by simp;omega,hn⟩
def Rd:List Nat->Nat->Nat->Nat->List Sp
 |[],k,d,i=>fl 0 k++(fl 1 d++fl 2 i)
 |x::us,k,d,i=>if x=0 then fl 1 d++(fl 2 i++Rd us (k+1) 0 0)else fl 0 k++(if x=1 then Rd us 0 (d+1) i else Rd us 0 d (i+1))
def J7(us:List Nat):List Sp:=Rd us 0 0 0
theorem Y5:∀(n:Nat)(us:List Nat)(k d i:Nat),0<n->(d=0/\i=0\/k=0)->Rd (replicate n 0++us) k d i=fl 1 d++(fl 2 i++Rd us (k+n) 0 0)
 |n+1,us,k,d,i,_,h=>by
  rw[List.replicate_succ,List.cons_append,Rd,if_pos rfl];cases n with
  |zero=>simp
  |succ n=>
   rw[Y5 (n+1) us (k+1) 0 0 oF (.inl ⟨rfl,rfl⟩)];simp;rw[show k+1+(n+1)=k+(n+1+1) by omega]
theorem XK:∀(n:Nat)(us:List Nat)(k d i:Nat),0<n->Rd (replicate n 1++us) k d i=fl 0 k++Rd us 0 (d+n) i
 |n+1,us,k,d,i,_=>by
  rw[List.replicate_succ,List.cons_append,Rd,if_neg dO,if_pos rfl];cases n with
  |zero=>simp
  |succ n=>
   rw[XK (n+1) us 0 (d+1) i oF];simp;rw[show d+1+(n+1)=d+(n+1+1) by omega]
theorem Uw:∀(n:Nat)(us:List Nat)(k d i:Nat),0<n->Rd (replicate n 2++us) k d i=fl 0 k++Rd us 0 d (i+n)
 |n+1,us,k,d,i,_=>by
  rw[List.replicate_succ,List.cons_append,Rd,if_neg dO,if_neg dO];cases n with
  |zero=>simp
  |succ n=>
   rw[Uw (n+1) us 0 d (i+1) oF];simp;rw[show i+1+(n+1)=i+(n+1+1) by omega]
def N9(p q:Nat):List Nat:=if p<q then replicate (q-p-1) 2++[0]else [1]
def GU(a b:List Int):List Nat:=(List.range a.length).flatMap (fun i=>N9 (AX a b i) (AX a b (i+1)))++replicate (b.length-AX a b a.length) 2
theorem TI{α:Type}(f:Nat->List α)(m n:Nat):(List.range (m+n)).flatMap f=(List.range m).flatMap f++(List.range n).flatMap (fun i=>f (m+i)):=by
 rw[List.range_add,List.flatMap_append,List.flatMap_map]
theorem HS{α:Type}{f g:Nat->List α}{n:Nat}(h:∀i,i<n->f i=g i):(List.range n).flatMap f=(List.range n).flatMap g:=by
 induction n with
 |zero=>rfl
 |succ n ih=>
  rw[List.range_succ,List.flatMap_append,List.flatMap_append,ih fun i hi=>h i oF];simp[h n oF]
theorem yc(p q t:Nat):N9 (p+t) (q+t)=N9 p q:=by
 unfold N9;by_cases h:p<q
 ·rw[if_pos h,if_pos oF,show q+t-(p+t)-1=q-p-1 by omega]
 ·rw[if_neg h,if_neg oF]
theorem bb(a b:List Int){h:Nat}(hh:h<=a.length):GU a b=GU (a.take h) (b.take (AX a b h))++GU (a.drop h) (b.drop (AX a b h)):=by
 obtain⟨g1,g2,g3⟩:=Gx (a:=a) (b:=b) hh;have la:(a.take h).length=h:=by simp;omega
 have lb:(b.take (AX a b h)).length=AX a b h:=by simp;omega
 have ld:(a.drop h).length=a.length-h:=iS
 have le:(b.drop (AX a b h)).length=b.length-AX a b h:=iS
 have e1:GU (a.take h) (b.take (AX a b h))=(List.range h).flatMap fun i=>N9 (AX a b i) (AX a b (i+1)):=by
  unfold GU;rw[la,lb,dS (Cq _) hh,Nat.sub_self,List.replicate_zero,List.append_nil];exact HS fun i hi=>by rw[dS oF hh,dS oF hh]
 have e2:GU (a.drop h) (b.drop (AX a b h))=(List.range (a.length-h)).flatMap (fun i=>N9 (AX a b (h+i)) (AX a b (h+i+1)))++replicate (b.length-AX a b a.length) 2:=by
  unfold GU;rw[ld,le];have hw:=gh (a:=a) (b:=b) (h:=h) (i:=a.length-h) oF;rw[show h+(a.length-h)=a.length by omega]at hw;congr 1
  ·refine HS fun i hi=>?_;have w1:=gh (a:=a) (b:=b) (h:=h) (i:=i) oF;have w2:=gh (a:=a) (b:=b) (h:=h) (i:=i+1) oF;rw[<-yc _ _ (AX a b h),w1,w2];rfl
  ·congr 1;omega
 rw[e1,e2,<-List.append_assoc];unfold GU;congr 1;have:=TI (fun i=>N9 (AX a b i) (AX a b (i+1))) h (a.length-h);rw[show h+(a.length-h)=a.length by omega]at this;exact this
theorem jc(b:List Int):GU [] b=replicate b.length 2:=by
 unfold GU;simp[Vb]
theorem tt(a:List Int):GU a []=replicate a.length 1:=by
 have h:∀i,i<=a.length->AX a [] i=0:=fun i hi=>by have:=(Gx (a:=a) (b:=[]) hi).2.1;simpa using this
 unfold GU;rw[h _ (Cq _)];simp;rw[HS (g:=fun _=>[1]) fun i hi=>by rw[h i oF,h (i+1) oF];rfl];generalize a.length=n;induction n with
 |zero=>rfl
 |succ n ih=>rw[List.range_succ,List.flatMap_append,ih,List.replicate_succ'];simp
def Ef(x:Int):List Int->Nat
 |[]=>0
 |y::b=>if x=y then 0 else Ef x b+1
theorem Uf(x:Int):∀b,Ef x b<=b.length
 |[]=>by simp[Ef]
 |y::b=>by
  have:=Uf x b;unfold Ef;split<;>simp<;>omega
theorem UT(x:Int):∀{b},(h:Ef x b<b.length)->b[Ef x b]=x
 |[],h=>by simp[Ef]at h
 |y::b,h=>by
  unfold Ef at h;by_cases e:x=y
  ·simp[Ef,e]
  ·rw[if_neg e]at h;simp only[Ef,if_neg e,List.getElem_cons_succ];exact UT x (by simpa using h)
theorem T8(x:Int):∀{b:List Int} {j:Nat},j<=Ef x b->x∉b.take j
 |[],j,h=>iS
 |y::b,0,h=>iS
 |y::b,j+1,h=>by
  unfold Ef at h;by_cases e:x=y
  ·rw[if_pos e]at h;omega
  ·rw[if_neg e]at h;simp[e,T8 x (b:=b) (j:=j) oF]
theorem fA(x:Int)(b:List Int):AK [x] b=if x∈b then 1 else 0:=by
 unfold AK;cases e:gO x b with
 |none=>simp[gU e]
 |some b'=>
  obtain⟨b0,rfl,_⟩:=QN e;simp
theorem qK(x:Int)(b:List Int):AX [x] b 1=if Ef x b<b.length then Ef x b+1 else 0:=by
 have on:∀j,S8 [x] b 1 j=decide ((if x∈b.take j then 1 else 0)=if x∈b then 1 else 0):=fun j=>by
  unfold S8 F6;rw[fA];simp[QZ,Adm,fA,sg]
 have hle:=Uf x b;by_cases h:Ef x b<b.length
 ·rw[if_pos h];have hx:x∈b:=by rw[<-UT x h];exact Bv h
  refine Wa iS oF ?_ fun j hj=>?_
  ·rw[on,if_pos hx,if_pos ?_]
   ·rfl
   ·rw[HJ h,UT x h];simp
  ·rw[on,if_pos hx,if_neg (T8 x oF)];rfl
 ·rw[if_neg h];refine Wa iS oF ?_ fun j hj=>oF
  rw[on,if_neg iS,if_neg ?_]
  ·rfl
  ·have:=T8 x (b:=b) (j:=b.length) oF
   rwa [Ax (Cq _)]at this
theorem Ze(x:Int)(b:List Int):GU [x] b=if Ef x b<b.length then replicate (Ef x b) 2++(0::replicate (b.length-Ef x b-1) 2)else 1::replicate b.length 2:=by
 unfold GU;have:(List.range [x].length)=[0]:=rfl;rw[this,show [x].length=1 from rfl,qK];simp only[List.flatMap_cons,List.flatMap_nil,List.append_nil,Vb,Nat.zero_add];rw[qK];split
 ·unfold N9;rw[if_pos oF,show Ef x b+1-0-1=Ef x b from oF,show b.length-(Ef x b+1)=b.length-Ef x b-1 by omega];simp
 ·simp[N9]
def Em(a b:List Int)(i j:Nat):Nat:=i+j-2*AK (a.take i) (b.take j)
theorem KT(a b:List Int)(i j:Nat):AK (a.take i) (b.take j)<=i/\AK (a.take i) (b.take j)<=j:=by
 have h:=HI (a.take i) (b.take j);simp at h;omega
theorem ZV(a b:List Int)(i j:Nat):i<=j+Em a b i j/\j<=i+Em a b i j:=by
 have h:=KT a b i j;unfold Em;omega
theorem R5{l:List Int}{i:Nat}(h:l.length<=i):l.take (i+1)=l.take i:=by
 rw[Ax oF,Ax h]
theorem Yu{a b:List Int}{i j:Nat}(h:¬∃(h1:i<a.length)(h2:j<b.length),a[i]=b[j]):Em a b (i+1) (j+1)=Em a b i (j+1)+1\/Em a b (i+1) (j+1)=Em a b (i+1) j+1:=by
 have g1:=KT a b i (j+1);have g2:=KT a b (i+1) j;have g3:=KT a b (i+1) (j+1);unfold Em;by_cases h1:i<a.length
 ·by_cases h2:j<b.length
  ·have hne:a[i]≠b[j]:=fun e=>h ⟨h1,h2,e⟩;have e:=MZ hne (a.take i) (b.take j);rw[<-HJ h1,<-HJ h2]at e;omega
  ·rw[R5 (l:=b) oF]at *;omega
 ·rw[R5 (l:=a) oF]at *;omega
theorem Th{a b:List Int}{i j:Nat}(h1:i<a.length)(h2:j<b.length)(h:a[i]=b[j]):Em a b (i+1) (j+1)=Em a b i j:=by
 have g:=KT a b i j;unfold Em;rw[HJ h1,HJ h2,h,MW];omega
theorem rz(a b:List Int)(i j:Nat):Em a b (i+1) j<=Em a b i j+1:=by
 have:AK (a.take i) (b.take j)<=AK (a.take (i+1)) (b.take j):=QG (List.take_sublist_take_left oF) (List.Sublist.refl _);unfold Em;omega
theorem sL(a b:List Int)(i j:Nat):Em a b i (j+1)<=Em a b i j+1:=by
 have:AK (a.take i) (b.take j)<=AK (a.take i) (b.take (j+1)):=QG (List.Sublist.refl _) (List.take_sublist_take_left oF);unfold Em;omega
def Ct(a b:List Int):Nat:=a.length+b.length-2*AK a b
theorem zY(a b:List Int):Em a b a.length b.length=Ct a b:=by simp[Em,Ct]
theorem zA{a b:List Int}{i j:Nat}(h1:a.length<=i)(h2:b.length<=j):Ct a b<=Em a b i j:=by
 unfold Em Ct;rw[Ax h1,Ax h2];omega
structure Ss(a b:List Int)(c d p x:Nat):Prop where
 on:p<=x+c
 may:Em a b x (x+c-p)<=d
 most:∀i j,i+c=j+p->Em a b i j<=d->i<=x
structure gM(a b:List Int)(c d p x:Nat):Prop where
 on:p<=x+c
 may:Em a b x (x+c-p)<=d
 most:∀i j,i+c=j+p->Em a b i j<=d->i<=x\/∃i' j',i=i'+1/\j=j'+1/\(∃(h1:i'<a.length)(h2:j'<b.length),a[i']=b[j'])/\Em a b i' j'<=d
theorem vP(a b:List Int)(c:Nat):gM a b c 0 c 0:=by
 refine⟨oF,by simp[Em],fun i j h hm=>?_⟩;have:i=j:=oF
 subst this;cases i with
 |zero=>exact .inl oF
 |succ i=>
  right;refine⟨i,i,rfl,rfl,?_⟩;by_cases hs:∃(h1:i<a.length)(h2:i<b.length),a[i]=b[i]
  ·obtain⟨h1,h2,e⟩:=hs;rw[Th h1 h2 e]at hm;exact⟨⟨h1,h2,e⟩,hm⟩
  ·have:=Yu hs;omega
theorem U9{a b:List Int}{c d p x:Nat}(hc:d+1<=c)(hp1:c<=p+(d+1))(hp2:p<=c+(d+1))(hp0:1<=p){y z:Nat}(hy:p+(d+1)≠c->Ss a b c d (p-1) y)(hz:p≠c+(d+1)->Ss a b c d (p+1) z)
  (hx:(p+(d+1)≠c/\x=y+1)\/(p≠c+(d+1)/\x=z)) (hxy:p+(d+1)≠c->y+1<=x) (hxz:p≠c+(d+1)->z<=x):gM a b c (d+1) p x:=by
 have on:p<=x+c/\Em a b x (x+c-p)<=d+1:=by
  rcases hx with ⟨h,rfl⟩|⟨h,rfl⟩
  ·have g:=hy h;have g1:=g.on;have g2:=g.may;have:=rz a b y (y+c-(p-1));refine⟨oF,?_⟩;rw[show y+1+c-p=y+c-(p-1) by omega];omega
  ·have g:=hz h;have g1:=g.on;have g2:=g.may;have:=sL a b x (x+c-(p+1));refine⟨oF,?_⟩;rw[show x+c-p=x+c-(p+1)+1 by omega];omega
 refine⟨on.1,on.2,fun i j h hm=>?_⟩;cases i with
 |zero=>exact .inl oF
 |succ i=>
  cases j with
  |zero=>exact .inl oF
  |succ j=>
   by_cases hs:∃(h1:i<a.length)(h2:j<b.length),a[i]=b[j]
   ·obtain⟨h1,h2,e⟩:=hs;rw[Th h1 h2 e]at hm;exact .inr ⟨i,j,rfl,rfl,⟨h1,h2,e⟩,hm⟩
   ·left;rcases Yu hs with e|e
    ·have hd:=ZV a b i (j+1);have hne:p+(d+1)≠c:=fun h'=>oF
     have:=(hy hne).most i (j+1) oF oF;have:=hxy hne;omega
    ·have hd:=ZV a b (i+1) j;have hne:p≠c+(d+1):=fun h'=>oF
     have:=(hz hne).most (i+1) j oF oF;have:=hxz hne;omega
theorem Ad6{a b:List Int}{c d p x:Nat}(h:gM a b c d p x){y:Nat}(hy:x+c=y+p)(h1:x<a.length)(h2:y<b.length)(e:a[x]=b[y]):gM a b c d p (x+1):=by
 have hm:=h.may;rw[show x+c-p=y from oF]at hm;refine⟨oF,?_,fun i j hij hc=>?_⟩
 ·rw[show x+1+c-p=y+1 from oF,Th h1 h2 e];exact hm
 ·rcases h.most i j hij hc with k|k
  ·exact .inl oF
  ·exact .inr k
theorem XO{a b:List Int}{c d p x:Nat}(h:gM a b c d p x){y:Nat}(hy:x+c=y+p)(hs:¬∃(h1:x<a.length)(h2:y<b.length),a[x]=b[y]):Ss a b c d p x:=by
 refine⟨h.on,h.may,fun i=>?_⟩;induction i with
 |zero=>intro j _ _;omega
 |succ i ih=>
  intro j hij hc;rcases h.most _ _ hij hc with k|⟨i',j',e1,e2,k,km⟩
  ·exact k
  ·have e1:i=i':=oF
   subst e1;have:=ih j' oF km;by_cases e:i=x
   ·subst e;have:j'=y:=oF
    subst this;exact absurd k hs
   ·omega
theorem wF{a b:List Int}{c d p x y:Nat}(h:Ss a b c d p x)(hy:x+c=y+p)(h1:a.length<=x)(h2:b.length<=y):Ct a b<=d:=by
 have:=h.may;rw[show x+c-p=y from oF]at this;have:=zA (a:=a) (b:=b) h1 h2;omega
theorem tg{a b:List Int}{c d p x y:Nat}(h:Ss a b c d p x)(hy:x+c=y+p)(hp:a.length+c=b.length+p)(hd:Ct a b<=d):a.length<=x/\b.length<=y:=by
 have:=h.most a.length b.length hp (by rw[zY];exact hd);omega
theorem bj(a b:List Int):a.length<=b.length+Ct a b/\b.length<=a.length+Ct a b/\(a.length+b.length+Ct a b) % 2=0:=by
 have h:=HI a b;unfold Ct;omega
end Go.PL
namespace Go.Proofs.YtlaapfplenlfaaaGreat
open Go Go.G Go.Proofs Go.PL
def Hh(f:Nat->Int)(n:Nat):List A:=(List.range n).map fun q=>iv (f q)
@[simp]theorem AlY{f:Nat->Int}{n:Nat}:(Hh f n).length=n:=by simp[Hh]
@[simp]theorem KA{f:Nat->Int}{n k:Nat}(h:k<n):(Hh f n)[k]? = some (iv (f k)):=by simp[Hh,h]
@[simp]theorem Am2{f:Nat->Int}{n k:Nat}(h:k<(Hh f n).length):(Hh f n)[k]=iv (f k):=by simp[Hh]
@[simp]theorem Aj3{f:Nat->Int}{n k:Nat}{z:Int}:(Hh f n).set k (iv z)=Hh (fun q=>if q=k then z else f q) n:=by
 apply List.ext_getElem?;intro i;rw[List.getElem?_set];by_cases hi:i<n
 ·rw[KA hi];by_cases e:k=i
  ·subst e;simp[hi,KA hi]
  ·rw[if_neg e,KA hi,if_neg (Ne.symm e)]
 ·rw[List.getElem?_eq_none (l:=Hh _ n) (by simp;omega)];split
  ·rename_i e;rw[if_neg (by simp;omega),List.getElem?_eq_none (by simp;omega)]
  ·rw[List.getElem?_eq_none (by simp;omega)]
theorem PG{n:Nat}:List.replicate n (iv 0)=Hh (fun _=>0) n:=by
 apply List.ext_getElem?;intro i;by_cases hi:i<n
 ·rw[KA hi];simp[hi]
 ·rw[List.getElem?_eq_none (by simp;omega),List.getElem?_eq_none (by simp;omega)]
theorem Jz{f g:Nat->Int}{n:Nat}(h:∀q,q<n->f q=g q):Hh f n=Hh g n:=by
 unfold Hh;exact List.map_congr_left fun q hq=>by rw[h q (by simpa using hq)]
theorem jO(l:List Int):l.map iv=Hh (fun q=>l.getD q 0) l.length:=by
 apply List.ext_getElem?;intro i;by_cases hi:i<l.length
 ·rw[KA hi];simp[hi]
 ·rw[List.getElem?_eq_none (by simp;omega),List.getElem?_eq_none (by simp;omega)]
theorem QT{H:Hp}{o:Nm}{u n:Nat}{f:Nat->Int}(h:H o=⟨u,.arr 1 (Hh f n)⟩):Iz H (.osl o u 1 0 n) (.sl false (Hh f n)):=by
 have:=AQ (H:=H) (o:=o) (u:=u) (sz:=1) (l:=List.range n) (f:=fun q=>iv (f q)) (n:=n) (by rw[h];simp[Hh]) iS (fun x=>rfl);exact this
theorem QW(l:List Int):A.softL (l.map iv)=l.map iv:=by rw[BK,List.map_map];rfl
theorem fK(l:List Int)(n:Nat):A.softL ((l.map iv).take n)=(l.map iv).take n:=by rw[<-List.map_take,QW]
theorem gf(l:List Int)(n:Nat):A.softL ((l.map iv).drop n)=(l.map iv).drop n:=by rw[<-List.map_drop,QW]
theorem nX{f:Nat->Int}{n k:Nat}{lo hi:Bool}(hk:1<=k)(hk2:k+1<n)(hn:n<=100000000)(hf:∀q,-1000000000<=f q/\f q<=1000000000):G.Spec Tryz.prog 179 [.sl false (Hh f n),iv k,bv lo,bv hi] (iv (if lo=true/\hi=true then 0 else if lo=true\/(hi=false/\f (k-1)<f (k+1))then f (k+1)else f (k-1)+1)):=by
 have e1:i64.wrap ((k:Int)-1)=((k-1:Nat):Int):=AU;have e2:=Ap k;have h1:=hf (k-1);have e3:i64.wrap (f (k-1)+1)=f (k-1)+1:=CX;have g1:(Hh f n)[k-1]? = some (iv (f (k-1))):=KA oF;have g2:(Hh f n)[k+1]? = some (iv (f (k+1))):=KA hk2;have b1:k-1<n:=oF
 have b2:(0:Int)<=(k:Int)+1:=oF
 have b3:(k:Int)+1<n:=oF
 refine Aj je iS fun w0 I0=>?_;rw[Ao Ws.eq_1];cases lo<;>cases hi
 ·by_cases h:f (k-1)<f (k+1)
  ·simp[e1,e2,e3,g1,g2,h,b1,b2,b3,hk2];exact Ad rfl
  ·simp[e1,e2,e3,g1,g2,h,b1,b2,b3,hk2];exact GG rfl
 ·simp[e1,e2,e3,g1,g2,b1,b2,b3,hk2];exact Ad rfl
 ·simp[e1,e2,e3,g1,g2,b1,b2,b3,hk2];exact Ad rfl
 ·simp;exact Ad rfl
variable {n0:Nat} {w0:World} {I0:Nat->Prop} {Q:Exit->Sta->Prop}
theorem AdQ{a b:List Int}{i u:Nat}{x:Int}(hi:i<a.length)(hx:a[i]=x)(hb:b.length<=1000000):∀(m j:Nat)(f:Nat->Int)(H:Hp),j+m=b.length->(∀q,q<=b.length->f q=if q<=j then (AK (a.take (i+1)) (b.take q):Nat)else (AK (a.take i) (b.take q):Nat))->H [0]=⟨u,.arr 1 (Hh f (b.length+1))⟩ ->
  (∀(f':Nat->Int)(z:Int)(H':Hp)(st:List (Nat × A)),(∀q,q<=b.length->f' q=(AK (a.take (i+1)) (b.take q):Nat))->H' [0]=⟨u,.arr 1 (Hh f' (b.length+1))⟩->Q (.exit 2) ⟨lk ([(1,CN b),(5,.osl [0] u 1 0 (b.length+1)),(7,iv x),(8,iv z),(16,CN a),(17,iv a.length),(18,iv i)]++st),H'⟩) ->
  LoopC (cx Tryz.prog w0 I0 n0) LV Q ⟨lk [(1,CN b),(5,.osl [0] u 1 0 (b.length+1)),(7,iv x),(8,iv (AK (a.take i) (b.take j):Nat)),(16,CN a),(17,iv a.length),(18,iv i),(22,CN b),(23,iv b.length),(24,iv j)],H⟩:=by
 intro m;induction m with
 |zero=>
  intro j f H hm hf hH hq;refine Ab Ah (BG LV.eq_1) ?_;have:j=b.length:=oF
  subst this;simp;exact hq f _ H [(22,CN b),(23,iv b.length),(24,iv b.length),(25,bv false)] (fun q hq=>by rw[hf q hq,if_pos hq]) hH
 |succ m ih=>
  intro j f H hm hf hH hq;have hj:j<b.length:=oF
  have e1:=Ap j;have g1:(Hh f (b.length+1))[j]? = some (iv (f j)):=KA oF;have g2:(Hh f (b.length+1))[j+1]? = some (iv (f (j+1))):=KA oF;have f1:=hf j oF;have f2:=hf (j+1) oF;rw[if_pos (Cq _)]at f1;rw[if_neg oF]at f2;have m0:(0:Int)<=(j:Int)+1:=oF
  have m1:(j:Int)<(b.length:Int)+1:=oF
  have ll:=HI (a.take i) (b.take j);simp at ll;have e2:i64.wrap ((AK (a.take i) (b.take j):Nat)+1)=((AK (a.take i) (b.take j)+1:Nat):Int):=AU;have tk:a.take (i+1)=a.take i++[x]:=by rw[HJ hi,hx]
  have tj:b.take (j+1)=b.take j++[b[j]]:=HJ hj;have next:∀(z:Int)(f':Nat->Int),z=(AK (a.take (i+1)) (b.take (j+1)):Nat)->(∀q,q≠j+1->f' q=f q)->f' (j+1)=z->LoopC (cx Tryz.prog w0 I0 n0) LV Q ⟨lk [(1,CN b),(5,.osl [0] u 1 0 (b.length+1)),(7,iv x),(8,iv (AK (a.take i) (b.take (j+1)):Nat)),(16,CN a),(17,iv a.length),(18,iv i),(22,CN b),(23,iv b.length),(24,iv (j+1:Nat))],Ar H [0] ⟨u,.arr 1 (Hh f' (b.length+1))⟩⟩:=fun z f' hz h1 h2=>by
   refine ih (j+1) f' _ oF (fun q hq=>?_) (by simp[Aa]) hq;by_cases e:q=j+1
   ·subst e;rw[if_pos (Cq _),h2,hz]
   ·rw[h1 q e,hf q hq];by_cases h3:q<=j
    ·rw[if_pos h3,if_pos oF]
    ·rw[if_neg h3,if_neg oF]
  refine Ab Ah (BG LV.eq_1) ?_;by_cases h:x=b[j]
  ·simp[hj,h,e1,g2,hH,m0,m1];rw[(Ao So.eq_1)];have hjb:j<b.length+1:=oF
   simp[hj,h,e1,hjb,hH,m0,m1,Aa,e2];rw[f2,<-h];have e:=MW x (a.take i) (b.take j);have e':=kG x (a.take i) (b.take j);rw[<-tk]at e e';rw[h,<-tj]at e;refine next _ _ rfl (fun q hq=>by simp[hq]) ?_
   simp;rw[f1,e];omega
  ·simp[hj,h,e1,g2,hH,m0,m1];rw[(Ao So.eq_1)];have hjb:j<b.length+1:=oF
   simp[hj,h,e1,hjb,hH,m0,m1];rw[f2];have e:=MZ h (a.take i) (b.take j);rw[<-tj,<-tk]at e;refine next _ _ rfl (fun q hq=>by simp[hq]) ?_
   simp;rw[f1,e];omega
theorem AeR{a b:List Int}{u:Nat}(ha:a.length<=1000000)(hb:b.length<=1000000)(hq:∀(f':Nat->Int)(H':Hp)(st:List (Nat × A)),(∀q,q<=b.length->f' q=(AK a (b.take q):Nat))->H' [0]=⟨u,.arr 1 (Hh f' (b.length+1))⟩->Q (.exit 0) ⟨lk ([(1,CN b),(5,.osl [0] u 1 0 (b.length+1))]++st),H'⟩):∀(m i:Nat)(f:Nat->Int)(H:Hp),i+m=a.length->(∀q,q<=b.length->f q=(AK (a.take i) (b.take q):Nat))->H [0]=⟨u,.arr 1 (Hh f (b.length+1))⟩ ->
  LoopC (cx Tryz.prog w0 I0 n0) Oy Q ⟨lk [(1,CN b),(5,.osl [0] u 1 0 (b.length+1)),(16,CN a),(17,iv a.length),(18,iv i)],H⟩:=by
 intro m;induction m with
 |zero=>
  intro i f H hm hf hH;refine Ab Ah (BG Oy.eq_1) ?_;have:i=a.length:=oF
  subst this;simp;exact hq f H [(16,CN a),(17,iv a.length),(18,iv a.length),(19,bv false)] (fun q hq=>by rw[hf q hq,Ax (Cq _)]) hH
 |succ m ih=>
  intro i f H hm hf hH;have hi:i<a.length:=oF
  have e1:=Ap i;refine Ab Ah (BG Oy.eq_1) ?_;simp[hi];refine LoopC.le (Al [(1,CN b),(5,.osl [0] u 1 0 (b.length+1)),(7,iv a[i]),(8,iv (AK (a.take i) (b.take 0):Nat)),(16,CN a),(17,iv a.length),(18,iv i),(22,CN b),(23,iv b.length),(24,iv (0:Nat))] iS) ?_;refine AdQ hi rfl hb b.length 0 f H oF (fun q hq=>?_) hH fun f' z H' st h1 h2=>?_
  ·rw[hf q hq];by_cases h0:q<=0
   ·have:q=0:=oF
    subst this;simp
   ·rw[if_neg h0]
  ·simp[e1];exact ih (i+1) f' H' oF h1 h2
theorem rM{l:List Int}{u:Nat}(hl:l.length<=1000000)(hq:∀(f':Nat->Int)(H':Hp)(st:List (Nat × A)),(∀q,q<l.length->f' q=l.getD (l.length-1-q) 0)->H' [0]=⟨u,.arr 1 (Hh f' l.length)⟩->Q (.exit 0) ⟨lk ([(0,CN l),(3,.osl [0] u 1 0 l.length)]++st),H'⟩):∀(m i:Nat)(f:Nat->Int)(H:Hp),i+m=l.length->(∀q,q<l.length->l.length<=q+i->f q=l.getD (l.length-1-q) 0)->H [0]=⟨u,.arr 1 (Hh f l.length)⟩ ->
  LoopC (cx Tryz.prog w0 I0 n0) JJ Q ⟨lk [(0,CN l),(3,.osl [0] u 1 0 l.length),(9,CN l),(10,iv l.length),(11,iv i)],H⟩:=by
 intro m;induction m with
 |zero=>
  intro i f H hm hf hH;refine Ab Ah (Ao JJ.eq_1) ?_;have:i=l.length:=oF
  subst this;simp;exact hq f H [(9,CN l),(10,iv l.length),(11,iv l.length),(12,bv false)] (fun q hq=>hf q hq oF) hH
 |succ m ih=>
  intro i f H hm hf hH;have hi:i<l.length:=oF
  have e1:=Ap i;have e2:i64.wrap (i64.wrap ((l.length:Int)-1)-i)=((l.length-1-i:Nat):Int):=by rw[AJ (n:=(l.length:Int)-1) oF oF,AJ oF oF];omega
  have b1:l.length-1-i<l.length:=oF
  refine Ab Ah (Ao JJ.eq_1) ?_;simp[hi,e1,e2,hH,b1];refine ih (i+1) _ _ oF (fun q hq1 hq2=>?_) (by simp[Aa];rfl);by_cases e:q=l.length-1-i
  ·rw[if_pos e];have:l.length-1-q=i:=oF
   rw[this];simp[List.getD_eq_getElem?_getD,hi]
  ·rw[if_neg e];exact hf q hq1 oF
theorem YX{a b:List Int}(ha:a.length<=1000000)(hb:b.length<=1000000):G.Spec Tryz.prog 191 [CN a,CN b] (.sl false (Hh (fun q=>(AK a (b.take q):Nat)) (b.length+1))):=by
 have e1:i64.wrap ((b.length:Int)+1)=((b.length+1:Nat):Int):=AU;refine Aj rl iS fun w0 I0=>?_;rw[BG cV.eq_1];simp[e1];refine⟨oF,?_⟩;refine LoopC.le (Al [(1,CN b),(5,.osl [0] 1 1 0 (b.length+1)),(16,CN a),(17,iv a.length),(18,iv (0:Nat))] iS) ?_;refine AeR ha hb (fun f' H' st h1 h2=>?_) a.length 0 (fun _=>0) _ oF (fun q hq=>iS) (by simp[PG]);simp;rw[<-Jz fun q hq=>h1 q oF];exact QT h2
theorem WN{l:List Int}(hl:l.length<=1000000):G.Spec Tryz.prog 192 [CN l] (CN l.reverse):=by
 refine Aj fB iS fun w0 I0=>?_;rw[BG Tn.eq_1];simp;refine⟨oF,?_⟩;refine LoopC.le (Al [(0,CN l),(3,.osl [0] 1 1 0 l.length),(9,CN l),(10,iv l.length),(11,iv (0:Nat))] iS) ?_;refine rM hl (fun f' H' st h1 h2=>?_) l.length 0 (fun _=>0) _ oF (fun q hq=>oF) (by simp[PG]);simp;have e:l.reverse.map iv=Hh f' l.length:=by
  rw[jO,List.length_reverse];refine Jz fun q hq=>?_;rw[h1 q hq];simp[List.getD_eq_getElem?_getD,List.getElem?_reverse hq]
 have e':CN l.reverse=.sl false (Hh f' l.length):=by rw[<-e]
 rw[e'];exact QT h2
theorem vw{n0:Nat}{w0:World}{I0:Nat->Prop}{Q:Exit->Sta->Prop}{a b:List Int}{half:Nat}(hh:half<=a.length)(hb:b.length<=1000000){H:Hp}{f g:Nat->Int}(hf:∀q,q<=b.length->f q=(F6 a b 0 half 0 q:Nat))(hg:∀q,q<=b.length->g (b.length-q)=(F6 a b half a.length q b.length:Nat))
  (hq:∀st,Q (.exit 0) ⟨lk ([(1,CN b),(7,.sl false (Hh f (b.length+1))),(8,.sl false (Hh g (b.length+1))),(9,iv (AX a b half))]++st),H⟩):∀(m i best:Nat),i+m=b.length+1->best<=b.length->(∀q,q<best->F6 a b 0 half 0 q+F6 a b half a.length q b.length<F6 a b 0 half 0 best+F6 a b half a.length best b.length)->(∀q,q<i->F6 a b 0 half 0 q+F6 a b half a.length q b.length<=F6 a b 0 half 0 best+F6 a b half a.length best b.length) ->
  LoopC (cx Tryz.prog w0 I0 n0) KN Q ⟨lk [(1,CN b),(7,.sl false (Hh f (b.length+1))),(8,.sl false (Hh g (b.length+1))),(9,iv best),(24,iv (b.length+1:Nat)),(25,iv i)],H⟩:=by
 intro m;induction m with
 |zero=>
  intro i best hm hbl h1 h2;refine Ab Ah (Ao KN.eq_1) ?_;have:i=b.length+1:=oF
  subst this;have hw:AX a b half=best:=by
   obtain⟨g1,g2,g3⟩:=Gx (a:=a) (b:=b) hh;have hle:=Om (a:=a) (b:=b) (i:=half) (j:=best) hh hbl;have h3:=h2 (AX a b half) oF;unfold S8 at g1;simp only[decide_eq_true_eq]at g1;refine Wa hh hbl (by unfold S8;simp only[decide_eq_true_eq];omega) fun j hj=>?_;have:=h1 j hj;unfold S8;simp only[decide_eq_false_iff_not];omega
  simp;rw[<-hw];exact hq [(24,iv (b.length+1:Nat)),(25,iv (b.length+1:Nat)),(26,bv false)]
 |succ m ih=>
  intro i best hm hbl h1 h2;have hi:i<b.length+1:=oF
  have e1:=Ap i;have e2:i64.wrap ((b.length:Int)-i)=((b.length-i:Nat):Int):=AU;have e3:i64.wrap ((b.length:Int)-best)=((b.length-best:Nat):Int):=AU;have fi:=hf i oF;have gi:=hg i oF;have fb:=hf best hbl;have gb:=hg best hbl;have l1:=HI (sg a 0 half) (sg b 0 i);have l2:=HI (sg a half a.length) (sg b i b.length);have l3:=HI (sg a 0 half) (sg b 0 best);have l4:=HI (sg a half a.length) (sg b best b.length);rw[MQ _ _ _ hh,MQ _ _ _ oF]at l1;rw[MQ _ _ _ oF,MQ _ _ _ oF]at l2;rw[MQ _ _ _ hh,MQ _ _ _ hbl]at l3;rw[MQ _ _ _ oF,MQ _ _ _ oF]at l4;have e4:i64.wrap (f i+g (b.length-i))=((F6 a b 0 half 0 i+F6 a b half a.length i b.length:Nat):Int):=by rw[fi,gi,AJ (by unfold F6;omega) (by unfold F6;omega)];omega
  have e5:i64.wrap (f best+g (b.length-best))=((F6 a b 0 half 0 best+F6 a b half a.length best b.length:Nat):Int):=by rw[fb,gb,AJ (by unfold F6;omega) (by unfold F6;omega)];omega
  have b1:b.length-i<b.length+1:=oF
  have b2:b.length-best<b.length+1:=oF
  have b3:best<b.length+1:=oF
  refine Ab Ah (Ao KN.eq_1) ?_;have c1:(i:Int)<(b.length:Int)+1:=oF
  have c2:((b.length-i:Nat):Int)<(b.length:Int)+1:=oF
  have c3:(best:Int)<(b.length:Int)+1:=oF
  have c4:((b.length-best:Nat):Int)<(b.length:Int)+1:=oF
  by_cases h:(F6 a b 0 half 0 best:Int)+(F6 a b half a.length best b.length:Int)<(F6 a b 0 half 0 i:Int)+(F6 a b half a.length i b.length:Int)
  ·simp[hi,e1,e2,e3,e4,e5,b1,b2,b3,h,c1,c2,c3,c4];refine ih (i+1) i oF oF (fun q hq=>?_) (fun q hq=>?_)
   ·have:=h2 q hq;omega
   ·by_cases e:q=i
    ·subst e;omega
    ·have:=h2 q oF;omega
  ·simp[hi,e1,e2,e3,e4,e5,b1,b2,b3,h,c1,c2,c3,c4];refine ih (i+1) best oF hbl h1 (fun q hq=>?_);by_cases e:q=i
   ·subst e;omega
   ·exact h2 q oF
theorem nr{a b:List Int}{half:Nat}(hh:half<=a.length)(ha:a.length<=1000000)(hb:b.length<=1000000):G.Spec Tryz.prog 182 [CN a,CN b,iv half] (iv (AX a b half)):=by
 refine Aj lH iS fun w0 I0=>?_;have s1:=YX (a:=a.take half) (b:=b) (by simp;omega) hb;have s2:=WN (l:=a.drop half) (by simp;omega);have s3:=WN (l:=b) hb;have s4:=YX (a:=(a.drop half).reverse) (b:=b.reverse) (by simp;omega) (by simpa using hb);rw[List.length_reverse]at s4;rw[BG Ww.eq_1];simp[hh];refine Ae (s1.soft (by simp[A.softL,A.soft,QW,fK])) iS ?_;simp[hh];refine Ae (s2.soft (by simp[A.softL,A.soft,QW,gf,Ax])) iS ?_;simp[hh];refine Ae s3 iS ?_;simp[hh];refine Ae s4 iS ?_;simp[hh];refine LoopC.le (Al [(1,CN b),(7,.sl false (Hh (fun q=>(AK (a.take half) (b.take q):Nat)) (b.length+1))),(8,.sl false (Hh (fun q=>(AK (a.drop half).reverse (b.reverse.take q):Nat)) (b.length+1))),(9,iv (0:Nat)),(24,iv (b.length+1:Nat)),(25,iv (0:Nat))] iS) ?_;refine vw hh hb (fun q hq=>by simp[F6,QZ]) (fun q hq=>?_) (fun st=>?_) (b.length+1) 0 0 oF oF (fun q hq=>oF) (fun q hq=>oF)
 ·have e:b.reverse.take (b.length-q)=(b.drop q).reverse:=by
   rw[List.take_reverse];congr 2;omega
  show((AK (a.drop half).reverse (b.reverse.take (b.length-q)):Nat):Int)=_;rw[e,KO];simp[F6,XR]
 ·simp;exact Ad rfl
theorem Zl{a b:List Int}{c d p x y:Nat}(h:gM a b c d p x)(hy:x+c=y+p):x<=d+a.length/\y<=d+b.length:=by
 have h1:=h.may;rw[show x+c-p=y from oF]at h1;have h2:=HI (a.take x) (b.take y);have h3:=KT a b x y;unfold Em at h1;simp at h2;omega
theorem AeF{a b:List Int}{M d p t:Nat}{f:Nat->Nat}(hd:d<=M)(ht:t<=d)(hp:p+d=M+1+2*t)(hold:∀p s,s<d->p+d=M+1+1+2*s->Ss a b (M+1) (d-1) p (f p)):∃x:Nat,(if decide (t=0)=true/\decide (t=d)=true then (0:Int)else if decide (t=0)=true\/(decide (t=d)=false/\((f (p-1):Nat):Int)<(f (p+1):Nat))then ((f (p+1):Nat):Int)else ((f (p-1):Nat):Int)+1)=(x:Int)/\gM a b (M+1) d p x:=by
 cases d with
 |zero=>
  have:t=0:=oF
  subst this;have:p=M+1:=oF
  subst this;exact⟨0,iS,vP a b (M+1)⟩
 |succ d=>
  have hy:p+(d+1)≠M+1->Ss a b (M+1) d (p-1) (f (p-1)):=fun h=>hold (p-1) (t-1) oF oF;have hz:p≠M+1+(d+1)->Ss a b (M+1) d (p+1) (f (p+1)):=fun h=>hold (p+1) t oF oF;by_cases h0:t=0
  ·exact⟨f (p+1),by simp[h0],U9 oF oF oF oF hy hz (.inr ⟨oF,rfl⟩) (fun h=>oF) (fun h=>Cq _)⟩
  ·by_cases h1:t=d+1
   ·exact⟨f (p-1)+1,by simp[h1],U9 oF oF oF oF hy hz (.inl ⟨oF,rfl⟩) (fun h=>Cq _) (fun h=>oF)⟩
   ·by_cases h2:f (p-1)<f (p+1)
    ·exact⟨f (p+1),by simp[h0,h1,h2],U9 oF oF oF oF hy hz (.inr ⟨oF,rfl⟩) (fun h=>oF) (fun h=>Cq _)⟩
    ·exact⟨f (p-1)+1,by simp[h0,h1,h2],U9 oF oF oF oF hy hz (.inl ⟨oF,rfl⟩) (fun h=>Cq _) (fun h=>oF)⟩
theorem AaS{a b:List Int}(ha:a.length<=1000000)(hb:b.length<=1000000){c d p:Nat}{X:A}{M k:Int}{H:Hp}
  (hq:∀(x y:Nat) st,gM a b c d p x->Ss a b c d p x->x+c=y+p->Q (.exit 4) ⟨lk ([(0,CN a),(1,CN b),(2,iv M),(8,iv a.length),(9,iv b.length),(10,X),(11,iv d),(12,iv k),(13,iv x),(14,iv y)]++st),H⟩):∀(m x y:Nat),a.length<=x+m->gM a b c d p x->x+c=y+p ->
  LoopC (cx Tryz.prog w0 I0 n0) Ia Q ⟨lk [(0,CN a),(1,CN b),(2,iv M),(8,iv a.length),(9,iv b.length),(10,X),(11,iv d),(12,iv k),(13,iv x),(14,iv y)],H⟩:=by
 intro m;induction m with
 |zero=>
  intro x y hm hS hy;refine Ab Ah (Ao Ia.eq_1) ?_;simp[show ¬x<a.length from oF];exact hq x y [(99,bv false)] hS (XO hS hy fun ⟨h1,_,_⟩=>oF) hy
 |succ m ih=>
  intro x y hm hS hy;refine Ab Ah (Ao Ia.eq_1) ?_;by_cases h1:x<a.length
  ·by_cases h2:y<b.length
   ·have e1:=Ap x;have e2:=Ap y;by_cases h3:a[x]=b[y]
    ·simp[h1,h2,h3,e1,e2];exact ih (x+1) (y+1) oF (Ad6 hS hy h1 h2 h3) oF
    ·simp[h1,h2,h3];exact hq x y [(99,bv false)] hS (XO hS hy fun ⟨_,_,h⟩=>h3 h) hy
   ·simp[h1,h2];exact hq x y [(99,bv false)] hS (XO hS hy fun ⟨_,h,_⟩=>h2 h) hy
  ·simp[h1];exact hq x y [(99,bv false)] hS (XO hS hy fun ⟨h,_,_⟩=>h1 h) hy
theorem zO{a b:List Int}(ha:a.length<=1000000)(hb:b.length<=1000000){M d u:Nat}(hM:M<=a.length+b.length)(hd:d<=M)(hdd:d<=Ct a b)
  (hq:∀(f:Nat->Nat)(H:Hp) st,(∀q,f q<=10000000)->(∀p s,s<=d->p+d=M+1+2*s->Ss a b (M+1) d p (f p))->d<Ct a b->H [0]=⟨u,.arr 1 (Hh (fun q=>(f q:Nat)) (2*M+3))⟩->Q (.exit 2) ⟨lk ([(0,CN a),(1,CN b),(2,iv M),(8,iv a.length),(9,iv b.length),(10,.osl [0] u 1 0 (2*M+3)),(11,iv d)]++st),H⟩)
  (hq2:∀H,d=Ct a b->Q .ret ⟨lk [(6,iv d),(7,bv true)],H⟩):∀(m t:Nat)(f:Nat->Nat)(H:Hp),t+m=d+1->(∀q,f q<=10000000) ->
  (∀p s,s<d->p+d=M+1+1+2*s->Ss a b (M+1) (d-1) p (f p))->(∀p s,s<t->p+d=M+1+2*s->Ss a b (M+1) d p (f p)/\¬(a.length<=f p/\b.length+p<=f p+(M+1)))->H [0]=⟨u,.arr 1 (Hh (fun q=>(f q:Nat)) (2*M+3))⟩ ->
  LoopC (cx Tryz.prog w0 I0 n0) Ig Q ⟨lk [(0,CN a),(1,CN b),(2,iv M),(8,iv a.length),(9,iv b.length),(10,.osl [0] u 1 0 (2*M+3)),(11,iv d),(12,iv (2*(t:Int)-d))],H⟩:=by
 intro m;induction m with
 |zero=>
  intro t f H hm hb0 hold hnew hH;have:t=d+1:=oF
  subst this;refine Ab Ah (BG Ig.eq_1) ?_;have hk:¬(2*((d+1:Nat):Int)-d<=d):=oF
  simp only[Int.natCast_add,Int.cast_ofNat_Int]at hk;simp[hk];refine hq f H _ hb0 (fun p s hs hp=>(hnew p s oF hp).1) ?_ hH;by_cases h:d<Ct a b
  ·exact h
  ·exfalso;have hdg:=bj a b;have he:Ct a b=d:=oF
   rw[he]at hdg;obtain⟨p,hp⟩:∃p,a.length+(M+1)=b.length+p:=⟨a.length+(M+1)-b.length,oF⟩;obtain⟨s,hs⟩:∃s,a.length+d=b.length+2*s:=⟨(a.length+d-b.length) / 2,oF⟩;obtain⟨g1,g2⟩:=hnew p s oF oF;have g3:=g1.on;have:=tg (y:=f p+(M+1)-p) g1 oF hp oF;exact g2 ⟨this.1,oF⟩
 |succ m ih=>
  intro t f H hm hb0 hold hnew hH;have ht:t<=d:=oF
  obtain⟨p,hp⟩:∃p,p+d=M+1+2*t:=⟨M+1+2*t-d,oF⟩;have hk:(2*(t:Int)-d<=d):=oF
  have e0:i64.wrap ((M:Int)+1)=(M:Int)+1:=CX;have e1:i64.wrap ((M:Int)+1+(2*(t:Int)-d))=(p:Int):=AU;have e2:i64.wrap (2*(t:Int)-d+2)=2*((t+1:Nat):Int)-d:=AU;have e3:i64.wrap (-(d:Int))=-(d:Int):=CX;have lo:decide (2*(t:Int)-d=-(d:Int))=decide (t=0):=by by_cases h:t=0<;>simp[h]<;>omega
  have hi:decide (2*(t:Int)-d=(d:Int))=decide (t=d):=by by_cases h:t=d<;>simp[h]<;>omega
  have hR:=nX (f:=fun q=>(f q:Nat)) (n:=2*M+3) (k:=p) (lo:=decide (t=0)) (hi:=decide (t=d)) oF oF oF (fun q=>by have:=hb0 q;omega)
  -- the step's place
  obtain⟨x,hx,hS⟩:=AeF hd ht hp hold;rw[hx]at hR;have hon:=hS.on;obtain⟨y,hy⟩:∃y,x+(M+1)=y+p:=⟨x+(M+1)-p,oF⟩;have hbd:=Zl hS hy;have e4:i64.wrap ((x:Int)-(2*(t:Int)-d))=(y:Int):=AU;refine Ab Ah (BG Ig.eq_1) ?_;simp[hk,e0,e1,e3,lo,hi];refine Yk [.sl false (Hh (fun q=>(f q:Nat)) (2*M+3)),iv p,bv (decide (t=0)),bv (decide (t=d))] (hR.toB rfl) (by simp;exact⟨QT hH,Ad rfl,Ad rfl,Ad rfl⟩) iS ?_;simp[e4];refine LoopC.le (Al [(0,CN a),(1,CN b),(2,iv M),(8,iv a.length),(9,iv b.length),(10,.osl [0] u 1 0 (2*M+3)),(11,iv d),(12,iv (2*(t:Int)-d)),(13,iv x),(14,iv y)] iS) ?_;refine AaS ha hb (c:=M+1) (p:=p) (fun x y st hS hG hy=>?_) a.length x y oF hS hy;have hbd:=Zl hS hy;have hpl:p<2*M+3:=oF
  have hpl':(p:Int)<2*(M:Int)+3:=oF
  by_cases hdone:a.length<=x/\b.length<=y
  ·have he:=wF hG hy hdone.1 hdone.2;simp[hk,e0,e1,e3,lo,hi,hH,hpl,hpl',hdone.1,hdone.2];exact hq2 _ oF
  ·simp[hk,e0,e1,e2,hH,hpl,hpl'];refine⟨fun h1 h2=>absurd ⟨h1,h2⟩ hdone,fun _=>?_⟩;refine ih (t+1) (fun q=>if q=p then x else f q) _ oF (fun q=>?_) (fun p' s hs hp'=>?_) (fun p' s hs hp'=>?_) ?_
   ·show(if q=p then x else f q)<=_;split
    ·omega
    ·exact hb0 q
   ·show Ss a b (M+1) (d-1) p' (if p'=p then x else f p');rw[if_neg oF];exact hold p' s hs hp'
   ·show Ss a b (M+1) d p' (if p'=p then x else f p')/\¬(a.length<=(if p'=p then x else f p')/\b.length+p'<=(if p'=p then x else f p')+(M+1));by_cases e:s=t
    ·have:p'=p:=oF
     subst this;rw[if_pos rfl];exact⟨hG,fun h=>hdone ⟨h.1,oF⟩⟩
    ·rw[if_neg oF];exact hnew p' s oF hp'
   ·simp only[Aa,if_true];congr 2;refine Jz fun q _=>?_;split<;>rfl
theorem zV{a b:List Int}(ha:a.length<=1000000)(hb:b.length<=1000000){M u:Nat}(hM:M<=a.length+b.length)
  (hq:∀H st,M<Ct a b->Q (.exit 0) ⟨lk st,H⟩) (hq2:∀H,Ct a b<=M->Q .ret ⟨lk [(6,iv (Ct a b)),(7,bv true)],H⟩):∀(m d:Nat)(f:Nat->Nat)(H:Hp),d+m=M+1->(∀q,f q<=10000000)->d<=Ct a b ->
  (∀p s,s<d->p+d=M+1+1+2*s->Ss a b (M+1) (d-1) p (f p))->H [0]=⟨u,.arr 1 (Hh (fun q=>(f q:Nat)) (2*M+3))⟩ ->
  LoopC (cx Tryz.prog w0 I0 n0) Ie Q ⟨lk [(0,CN a),(1,CN b),(2,iv M),(8,iv a.length),(9,iv b.length),(10,.osl [0] u 1 0 (2*M+3)),(11,iv d)],H⟩:=by
 intro m;induction m with
 |zero=>
  intro d f H hm hb0 hdd hold hH;have:d=M+1:=oF
  subst this;refine Ab Ah (BG Ie.eq_1) ?_;have hk:¬(((M+1:Nat):Int)<=M):=oF
  simp only[Int.natCast_add,Int.cast_ofNat_Int]at hk;simp[hk];exact hq H _ oF
 |succ m ih=>
  intro d f H hm hb0 hdd hold hH;have e1:=Ap d;have e3:i64.wrap (-(d:Int))=-(d:Int):=CX;have hd:d<=M:=oF
  refine Ab Ah (BG Ie.eq_1) ?_;simp[hd,e3];refine LoopC.le (Al [(0,CN a),(1,CN b),(2,iv M),(8,iv a.length),(9,iv b.length),(10,.osl [0] u 1 0 (2*M+3)),(11,iv d),(12,iv (2*((0:Nat):Int)-d))] iS) ?_;refine zO ha hb hM hd hdd (fun f' H' st g1 g2 g3 g4=>?_) (fun H' he=>?_) (d+1) 0 f H oF hb0 hold (fun p s hs=>oF) hH
  ·simp[e1];refine ih (d+1) f' H' oF g1 oF (fun p s hs hp=>?_) g4;exact g2 p s oF oF
  ·simp;have:=hq2 H' oF;rw[<-he]at this;exact this
theorem qY{a b:List Int}(ha:a.length<=1000000)(hb:b.length<=1000000){M0:Int}(hM0:B6 M0):∃d:Int,G.Spec Tryz.prog 156 [CN a,CN b,iv M0] (.tup [iv d,bv (decide ((Ct a b:Int)<=M0))]):=by
 refine⟨if (Ct a b:Int)<=M0 then Ct a b else 0,?_⟩;refine Aj X6 iS fun w0 I0=>?_;have hdg:=bj a b;have hdl:Ct a b<=a.length+b.length:=by unfold Ct;omega
 have e1:i64.wrap ((a.length:Int)+b.length)=((a.length+b.length:Nat):Int):=AU;have e2:i64.wrap ((a.length:Int)-b.length)=(a.length:Int)-b.length:=CX;have e3:i64.wrap ((b.length:Int)-a.length)=(b.length:Int)-a.length:=CX;obtain⟨M1,hM1⟩:∃M1:Int,min (max M0 (-1)) ((a.length:Int)+b.length)=M1:=⟨_,rfl⟩;have hle:((Ct a b:Int)<=M0)↔((Ct a b:Int)<=M1):=oF
 have hMb:M1<=(a.length:Int)+b.length:=oF
 rw[BG PN.eq_1];simp[e1,e2,e3,hM1];refine⟨fun h=>?_,fun h1 h2 h3=>?_⟩
 ·have hno:¬(Ct a b:Int)<=M0:=oF
  simp[hno];exact Ad rfl
 ·obtain⟨M,rfl⟩:∃M:Nat,M1=M:=⟨M1.toNat,oF⟩;have e4:i64.wrap (2*(M:Int))=2*(M:Int):=CX;have e5:i64.wrap (2*(M:Int)+3)=((2*M+3:Nat):Int):=AU;have e6:(2*(M:Int)+3).toNat=2*M+3:=oF
  rw[e4,e5];refine⟨oF,?_⟩;refine LoopC.le (Al [(0,CN a),(1,CN b),(2,iv M),(8,iv a.length),(9,iv b.length),(10,.osl [0] 1 1 0 (2*M+3)),(11,iv (0:Nat))] (by simp[e6])) ?_;refine zV ha hb oF (fun H st h=>?_) (fun H h=>?_) (M+1) 0 (fun _=>0) _ oF (fun q=>oF) oF (fun p s hs=>oF) (by simp[PG,e6])
  ·have hno:¬(Ct a b:Int)<=M0:=oF
   simp[hno];exact Ad rfl
  ·have hyes:(Ct a b:Int)<=M0:=oF
   simp[hyes];exact Ad rfl
def JD(s:Sp):List A:=[iv s.k,iv s.n]
def Fm(s:Sp):A:=.agg (JD s)
@[simp]theorem Agh{s:Sp}:(Fm s).cells=JD s:=rfl
@[simp]theorem AlB{s:Sp}:(JD s).length=2:=rfl
theorem qP{l:List Sp}:E8 2 (l.map Fm)=true:=by rw[Jb];simp
def fdF(l:List Sp)(v:Nat):Fam:=⟨fun r p=>if p=[]then ⟨1,.cells [.osl (r::[0]) v 2 0 l.length]⟩else if p=[0]then ⟨v,.arr 2 (l.map Fm)⟩else ⟨0,.none⟩,fun {g δ r r'} hg hd p=>by
  by_cases h1:p=[]
  ·rw[if_pos h1,if_pos h1];refine Fam.cells_ren ?_;simp[A.renL,A.ren,hg,hd]
  ·rw[if_neg h1,if_neg h1];by_cases h2:p=[0]
   ·rw[if_pos h2];refine Fam.arr_ren ?_;have e:∀x:Sp,(Fm x).ren g δ=Fm x:=fun x=>by simp[Fm,JD,A.ren,A.renL]
    simp only[C0,List.map_map];refine List.map_congr_left fun x _=>?_;exact e x
   ·rw[if_neg h2];rfl,fun {D r} hD p=>by
  by_cases h1:p=[]
  ·rw[if_pos h1];simp[Ob.refs,A.refsL,A.refs,hD]
  ·rw[if_neg h1];by_cases h2:p=[0]
   ·rw[if_pos h2];simp only[Ob.refs,refsL_iff];intro y hy;obtain⟨x,_,rfl⟩:=List.mem_map.1 hy;simp[A.refs,A.refsL,Fm,JD]
   ·rw[if_neg h2];trivial⟩
@[simp]theorem AnC{l:List Sp}{v r:Nat}{p:Nm}:(fdF l v).F r p=if p=[]then ⟨1,.cells [.osl (r::[0]) v 2 0 l.length]⟩else if p=[0]then ⟨v,.arr 2 (l.map Fm)⟩else ⟨0,.none⟩:=rfl
abbrev fdP(r:Nat):A:=.pob [r] 1 0
theorem IP(l:List Sp)(v:Nat)(hl:l.length<=100000000)(k n:Nat):SpecF Tryz.prog 180 (fun r=>[fdP r,iv k,iv n]) (fdF l v) (fun _=>.tup []) (fdF (l++fl k n) (v+(fl k n).length)):=by
 refine Az V7 iS (Af AB (Af AH (Af AH Ak))) (Bj Ak) fun w0 I0 M0 m0=>?_;rw[Ao NP.eq_1];by_cases h:0<n
 ·rw[MX h];simp[h,qP,Aa];refine⟨oF,?_⟩;refine Bg rfl rfl (fun p=>?_);by_cases h1:p=[]<;>by_cases h2:p=[0]<;>simp[h1,h2,Aa,Fm,JD]
  rw[Ax iS]
 ·have h0:n=0:=oF
  subst h0;simp;refine Bg rfl rfl (fun p=>iS)
def Tf(x:Int)(b:List Int):List Sp:=if Ef x b<b.length then fl 2 (Ef x b)++(fl 0 1++fl 2 (b.length-Ef x b-1))else fl 1 1++fl 2 b.length
theorem m6(x:Int)(b:List Int):A5 (Tf x b)=GU [x] b:=by
 rw[Ze];unfold Tf;split<;>simp
theorem Fy(k n:Nat):(fl k n).length<=1:=by unfold fl;split<;>simp
theorem vF(x:Int)(b:List Int):(Tf x b).length<=3:=by
 unfold Tf;have:=Fy 2 (Ef x b);have:=Fy 0 1;have:=Fy 1 1;have:=Fy 2 (b.length-Ef x b-1);have:=Fy 2 b.length;split<;>simp<;>omega
theorem Aba{x:Int}{b:List Int}(hb:b.length<=1000000):∀s,s∈Tf x b->s.ok:=by
 intro s hs;have:=Uf x b;unfold Tf at hs;split at hs<;>simp only[List.mem_append]at hs
 ·rcases hs with hs|hs|hs
  ·exact ZS oF oF s hs
  ·exact ZS oF oF s hs
  ·exact ZS oF oF s hs
 ·rcases hs with hs|hs
  ·exact ZS oF oF s hs
  ·exact ZS oF oF s hs
theorem lG{x:Int}:∀{b:List Int} {j:Nat},j<=Ef x b->(h:j<b.length)->(b[j]=x↔Ef x b=j)
 |[],j,_,h=>by simp at h
 |y::b,0,_,h=>by
  unfold Ef;by_cases e:x=y
  ·simp[e]
  ·simp[e];exact fun h=>e h.symm
 |y::b,j+1,hj,h=>by
  unfold Ef at hj ⊢;by_cases e:x=y
  ·rw[if_pos e]at hj;omega
  ·rw[if_neg e]at hj ⊢;have:=lG (x:=x) (b:=b) (j:=j) oF (by simpa using h);simp only[List.getElem_cons_succ];omega
section
variable {n0:Nat} {w0:World} {I0:Nat->Prop} {M0:Nm->Nat->Prop} {m0:Mu} {Q:Exit->Sta->Prop}
theorem AeT{l:List Sp}{v:Nat}{x:Int}{b:List Int}{H:Hp}(hl:l.length<=10000000)(hb:b.length<=1000000)(hH:∀p,H (0::p)=(fdF l v).F 0 p)
  (hq:Ef x b=b.length->∀st,Q (.exit 0) ⟨lk ([(0,fdP 0),(1,iv x),(2,CN b)]++st),H⟩)
  (hq2:∀H',Ef x b<b.length->(∀p,H' (0::p)=(fdF (l++Tf x b) (v+(Tf x b).length)).F 0 p)->∀st,Q .ret ⟨lk st,H'⟩):∀(m j:Nat),j+m=b.length->j<=Ef x b ->
  LoopC (En Tryz.prog w0 I0 M0 n0 m0) GH Q ⟨lk [(0,fdP 0),(1,iv x),(2,CN b),(8,CN b),(9,iv b.length),(10,iv j)],H⟩:=by
 have hle:=Uf x b;intro m;induction m with
 |zero=>
  intro j hm hj;refine Ab Ah (Ao GH.eq_1) ?_;have:j=b.length:=oF
  subst this;simp;exact hq oF [(8,CN b),(9,iv b.length),(10,iv b.length),(11,bv false)]
 |succ m ih=>
  intro j hm hj;have hlt:j<b.length:=oF
  have e1:=Ap j;have hd:=lG hj hlt;refine Ab Ah (Ao GH.eq_1) ?_;by_cases h:x=b[j]
  ·have hf:=hd.1 h.symm;have e2:i64.wrap (i64.wrap ((b.length:Int)-j)-1)=((b.length-j-1:Nat):Int):=by rw[AJ (n:=(b.length:Int)-j) oF oF,AJ oF oF];omega
   have A1:=IP l v oF 2 j;have l1:=Fy 2 j;have l2:=Fy 0 1;have A2:=IP (l++fl 2 j) (v+(fl 2 j).length) (by simp;omega) 0 1;have A3:=IP (l++fl 2 j++fl 0 1) (v+(fl 2 j).length+(fl 0 1).length) (by simp;omega) 2 (b.length-j-1);simp[hlt,h];refine Au 0 A1 hH iS iS ?_;simp;refine Au 0 A2 (fun p=>iS) iS iS ?_;simp[e2];refine Au 0 A3 (fun p=>iS) iS iS ?_;simp;refine hq2 _ oF (fun p=>?_) _;have eo:Tf x b=fl 2 j++(fl 0 1++fl 2 (b.length-j-1)):=by unfold Tf;rw[if_pos oF,hf]
   rw[eo];simp[Nat.add_assoc]
  ·have hne:¬Ef x b=j:=fun e=>h (hd.2 e).symm;simp[hlt,h,e1];exact ih (j+1) oF oF
end
theorem yw(l:List Sp)(v:Nat)(hl:l.length<=10000000)(x:Int)(b:List Int)(hb:b.length<=1000000):SpecF Tryz.prog 181 (fun r=>[fdP r,iv x,CN b]) (fdF l v) (fun _=>.tup []) (fdF (l++Tf x b) (v+(Tf x b).length)):=by
 refine Az VZ iS (Af AB (Af AH (Af Bp Ak))) (Bj Ak) fun w0 I0 M0 m0=>?_;rw[BG NJ.eq_1];simp;refine LoopC.le (Al [(0,fdP 0),(1,iv x),(2,CN b),(8,CN b),(9,iv b.length),(10,iv (0:Nat))] iS) ?_;refine AeT (l:=l) (v:=v) hl hb (fun p=>iS) (fun hn st=>?_) (fun H' hf hH st=>?_) b.length 0 oF oF
 ·have A1:=IP l v oF 1 1;have l1:=Fy 1 1;have A2:=IP (l++fl 1 1) (v+(fl 1 1).length) (by simp;omega) 2 b.length;simp;refine Au 0 A1 (fun p=>iS) iS iS ?_;simp;refine Au 0 A2 (fun p=>iS) iS iS ?_;simp;have eo:Tf x b=fl 1 1++fl 2 b.length:=by unfold Tf;rw[if_neg oF]
  rw[eo];refine Bg rfl rfl (fun p=>by simp[Nat.add_assoc])
 ·simp;exact Av rfl rfl hH
theorem cp{P:Sp->Prop}{l m:List Sp}(h1:∀s,s∈l->P s)(h2:∀s,s∈m->P s):∀s,s∈l++m->P s:=fun s hs=>(List.mem_append.1 hs).elim (h1 s) (h2 s)
theorem xm:∀(n:Nat)(a b:List Int),a.length<=n->a.length<=1000000->b.length<=1000000->∃sts:List Sp,A5 sts=GU a b/\(∀s,s∈sts->s.ok)/\sts.length<=max 1 (3*a.length) /\
  ∀(l:List Sp)(v:Nat),l.length+3*a.length<=9000000->SpecF Tryz.prog 157 (fun r=>[fdP r,CN a,CN b]) (fdF l v) (fun _=>.tup []) (fdF (l++sts) (v+sts.length)):=by
 intro n;induction n with
 |zero=>
  intro a b hn ha hb;have:=List.eq_nil_of_length_eq_zero (by omega:a.length=0);subst this;refine⟨fl 2 b.length,by rw[jc];simp,ZS oF oF,by have:=Fy 2 b.length;simp;omega,fun l v hl=>?_⟩;have A1:=IP l v (by simp at hl;omega) 1 0;have A2:=IP (l++fl 1 0) (v+(fl 1 0).length) (by simp at hl;simp;omega) 2 b.length;refine Az GK iS (Af AB (Af Bp (Af Bp Ak))) (Bj Ak) fun w0 I0 M0 m0=>?_;rw[Ao Ew.eq_1];simp;refine Au 0 A1 (fun p=>iS) iS iS ?_;simp;refine Au 0 A2 (fun p=>iS) iS iS ?_;simp;refine Bg rfl rfl (fun p=>iS)
 |succ n ih=>
  intro a b hn ha hb;by_cases hb0:b=[]
  ·subst hb0;refine⟨fl 1 a.length,by rw[tt];simp,ZS oF oF,by have:=Fy 1 a.length;omega,fun l v hl=>?_⟩;have:=Fy 1 a.length;have A1:=IP l v oF 1 a.length;have A2:=IP (l++fl 1 a.length) (v+(fl 1 a.length).length) (by simp;omega) 2 0;refine Az GK iS (Af AB (Af Bp (Af Bp Ak))) (Bj Ak) fun w0 I0 M0 m0=>?_;rw[Ao Ew.eq_1];simp;refine Au 0 A1 (fun p=>iS) iS iS ?_;simp;refine Au 0 A2 (fun p=>iS) iS iS ?_;simp;refine Bg rfl rfl (fun p=>iS)
  have hbl:0<b.length:=List.length_pos_iff.2 hb0
  match a,hn,ha with
  |[],hn,ha=>
   obtain⟨sts,h⟩:=ih [] b iS ha hb;exact⟨sts,h⟩
  |[x],hn,ha=>
   refine⟨Tf x b,m6 x b,Aba hb,by have:=vF x b;simp;omega,fun l v hl=>?_⟩;have A1:=yw l v (by simp at hl;omega) x b hb;refine Az GK iS (Af AB (Af Bp (Af Bp Ak))) (Bj Ak) fun w0 I0 M0 m0=>?_;rw[Ao Ew.eq_1];simp[hb0];refine Au 0 A1 (fun p=>iS) iS iS ?_;simp;refine Bg rfl rfl (fun p=>iS)
  |x::y::a',hn,ha=>
   have e0:∃a:List Int,a=x::y::a':=⟨_,rfl⟩;obtain⟨a,ea⟩:=e0;rw[<-ea]at hn ha ⊢;have hal:2<=a.length:=by rw[ea];simp
   clear ea;obtain⟨h,eh⟩:∃h,a.length / 2=h:=⟨_,rfl⟩;have hh:h<=a.length:=oF
   obtain⟨w1,w2,w3⟩:=Gx (a:=a) (b:=b) hh;obtain⟨s1,u1,o1,n1,F1⟩:=ih (a.take h) (b.take (AX a b h)) (by simp;omega) (by simp;omega) (by simp;omega);obtain⟨s2,u2,o2,n2,F2⟩:=ih (a.drop h) (b.drop (AX a b h)) (by simp;omega) (by simp;omega) (by simp;omega);simp at n1 n2;refine⟨s1++s2,by rw[Jv,u1,u2,<-bb a b hh],cp o1 o2,by simp;omega,fun l v hl=>?_⟩;have G1:=F1 l v (by simp;omega);have G2:=F2 (l++s1) (v+s1.length) (by simp;omega);have hS:=nr (a:=a) (b:=b) hh ha hb;refine Az GK iS (Af AB (Af Bp (Af Bp Ak))) (Bj Ak) fun w0 I0 M0 m0=>?_;have c1:¬a=[]:=fun e=>by rw[e]at hal;simp at hal
   have c2:¬a.length=1:=oF
   have c3:¬(a.length:Int)=1:=oF
   have c4:((a.length:Int)).tdiv 2=(h:Int):=by rw[Int.tdiv_eq_ediv_of_nonneg oF];omega
   have c5:i64.wrap (h:Int)=(h:Int):=CX;rw[Ao Ew.eq_1];simp[hb0,c1,c2,c3,c4,c5];refine Ae hS iS ?_;simp[hh,w2];refine Au 0 G1 (fun p=>iS) iS iS ?_;simp[hh,w2];refine Au 0 G2 (fun p=>iS) (by simp[Ax]) iS ?_;simp;refine Bg rfl rfl (fun p=>by simp[Nat.add_assoc])
end Go.Proofs.YtlaapfplenlfaaaGreat
