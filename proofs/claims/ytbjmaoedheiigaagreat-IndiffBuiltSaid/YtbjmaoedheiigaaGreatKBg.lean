/-
 Texts,merged,without what is not reached.
-/
import Derived.Test.YtbjmaoedheiigaaGreatKBf
set_option linter.unusedSimpArgs false
set_option linter.unusedVariables false
open Go.IntKind (i64 u64)
namespace Go.Proofs.YtbjmaoedheiigaaGreat
open Go Go.G Go.Proofs Go.PL
theorem fu {a b:List Int} (hal:a.length≤1000000) (hb:b.length≤1000000):G.Spec Tryz.prog 212 [Cq a,Cq b] (iv (AI a b:Nat)):=by
 refine Aj PU (by simp) fun w0 I0=>?_;unfold JI;simp;refine Ae (Q9 hal hb) rfl ?_;have h1:F6 a b a.length b.length=AI a b:=by simp[F6]
 simp[Oe,h1];exact⟨by omega,by omega,Ad rfl⟩
variable {n0:Nat} {w0:World} {I0:Nat→Prop} {Q:Exit→Sta→Prop}
theorem jo {l:List Int} (hl:l.length≤1000000) (hq:∀ (H:Hp) (u:Nat) st,H [0]=⟨u,.arr 1 (l.reverse.map iv)⟩→Q (.exit 0) ⟨lk ([(0,Cq l),(3,.osl [0] u 1 0 l.length)]++st),H⟩):∀ (t:Nat) (u:Nat) (H:Hp),t≤l.length→H [0]=⟨u,.arr 1 ((l.drop t).reverse.map iv)⟩ →
  LoopC (cx Tryz.prog w0 I0 n0) DK Q ⟨lk [(0,Cq l),(3,.osl [0] u 1 0 (l.length-t)),(4,iv ((t:Int)-1))],H⟩:=by
 intro t;induction t with
 |zero=>
  intro u H ht hH;refine Ab Ai DK.eq_1 ?_;simp;exact hq H u [(4,iv (-1)),(9,bv false)] (by simpa using hH)
 |succ t ih=>
  intro u H ht hH;have hlt:t<l.length:=by omega
  have e1:i64.wrap ((t:Int)-1)=(t:Int)-1:=BJ;have hd:l.drop t=l[t]::l.drop (t+1):=(List.getElem_cons_drop hlt).symm;refine Ab Ai DK.eq_1 ?_;simp[hlt,e1,hH];refine⟨by omega,?_⟩;have:=ih (u+1) (Ay H [0] ⟨u+1,.arr 1 ((l.drop t).reverse.map iv)⟩) (by omega) (by simp[Aa]);rw[show l.length-(t+1)+1=l.length-t by omega];have e2:List.take (l.length-(t+1)) (List.drop (t+1) (List.map iv l)).reverse++[iv l[t]]=(l.drop t).reverse.map iv:=by
   have hd2:(l.map iv).drop t=iv l[t]::(l.map iv).drop (t+1):=by rw[List.drop_eq_getElem_cons (by simpa using hlt)];simp
   rw[AL (by simp)];simp[hd2]
  rw[e2];exact this
theorem SK {l:List Int} (hl:l.length≤1000000):G.Spec Tryz.prog 247 [Cq l] (Cq l.reverse):=by
 have e1:i64.wrap ((l.length:Int)-1)=(l.length:Int)-1:=BJ;refine Aj P9 (by simp) fun w0 I0=>?_;unfold JE;simp[e1];refine LoopC.le (Cd 3 [0] 1 (by simp)) ?_;refine LoopC.le (Ao [(0,Cq l),(3,.osl [0] 1 1 0 (l.length-l.length)),(4,iv ((l.length:Int)-1))] (by simp)) ?_;refine jo hl (fun H u st h=>?_) l.length 1 _ (BZ _) (by simp[Aa]);simp;exact Bx (f:=iv) (l:=l.reverse) (by rw[h];simp) (by simp) (fun x=>rfl)
theorem lW {a b:List Int} {i j:Nat}:F6 a b i j=(Ff a b 0 i 0 j:Nat):=by simp[F6,Ff,Wq]
theorem gY {a b:List Int} {i j:Nat} (hi:i≤a.length) (hj:j≤b.length):F6 a.reverse b.reverse (a.length-i) (b.length-j)=(Ff a b i a.length j b.length:Nat):=by
 unfold F6;have e1:a.reverse.take (a.length-i)=(a.drop i).reverse:=by rw[List.take_reverse];congr 2;omega
 have e2:b.reverse.take (b.length-j)=(b.drop j).reverse:=by rw[List.take_reverse];congr 2;omega
 rw[e1,e2,JM];simp[Ff,j5]
theorem Aat {a b:List Int} {i:Nat} (hi:i≤a.length) (hal:a.length≤1000000) (hb:b.length≤1000000) {X:A} {H:Hp} (hq:∀ st,Q (.exit 2) ⟨lk ([(0,Cq a),(1,Cq b),(5,Oe a b),(6,Oe a.reverse b.reverse),(7,X),(8,iv i),(9,iv (AW a b i))]++st),H⟩):∀ (m j:Nat),j+m=AW a b i →
  LoopC (cx Tryz.prog w0 I0 n0) DV Q ⟨lk [(0,Cq a),(1,Cq b),(5,Oe a b),(6,Oe a.reverse b.reverse),(7,X),(8,iv i),(9,iv j)],H⟩:=by
 obtain⟨g1,g2,g3⟩:=FY (a:=a) (b:=b) hi;unfold RS at g1;simp only[decide_eq_true_eq] at g1;intro m;induction m with
 |zero=>
  intro j hm;have:j=AW a b i:=by omega
  subst this;generalize hjj:AW a b i=j at *;by_cases hj:j<b.length
  ·have e1:=Av j;have e2:i64.wrap ((a.length:Int)-i)=((a.length-i:Nat):Int):=AP;have e3:i64.wrap ((b.length:Int)-j)=((b.length-j:Nat):Int):=AP;have t1:=lW (a:=a) (b:=b) (i:=i) (j:=j);have t2:=gY (a:=a) (b:=b) (i:=i) (j:=j) hi (by omega);have t3:F6 a b a.length b.length=AI a b:=by simp[F6]
   have ll:=Gm a b;have e4:i64.wrap ((Ff a b 0 i 0 j:Int)+(Ff a b i a.length j b.length:Int))=(Ff a b 0 i 0 j:Int)+(Ff a b i a.length j b.length:Int):=BJ;have c1:(i:Int)<(a.length:Int)+1:=by omega
   have c2:(j:Int)<(b.length:Int)+1:=by omega
   have c3:((a.length-i:Nat):Int)<(a.length:Int)+1:=by omega
   have c4:((b.length-j:Nat):Int)<(b.length:Int)+1:=by omega
   have c5:(a.length:Int)<(a.length:Int)+1:=by omega
   have c6:(b.length:Int)<(b.length:Int)+1:=by omega
   have d1:i<a.length+1:=by omega
   have d2:j<b.length+1:=by omega
   have d3:a.length-i<a.length+1:=by omega
   have d4:b.length-j<b.length+1:=by omega
   have hne':¬ (Ff a b 0 i 0 j:Int)+(Ff a b i a.length j b.length:Int)<(AI a b:Int):=by omega
   refine Ab Ai DV.eq_1 ?_;simp[hj,Oe,e1,e2,e3,t1,t2,t3,e4,c1,c2,c3,c4,c5,c6,d1,d2,d3,d4,hne'];have:=hq [(60,bv false)];simpa[Oe] using this
  ·refine Ab Ai DV.eq_1 ?_;simp[hj];have:=hq [(60,bv false)];simpa using this
 |succ m ih=>
  intro j hm;have hj:j<b.length:=by omega
  have hle:=Nn (a:=a) (b:=b) (i:=i) (j:=j) hi (by omega);have hne:Ff a b 0 i 0 j+Ff a b i a.length j b.length<AI a b:=by
   by_cases e:Ff a b 0 i 0 j+Ff a b i a.length j b.length=AI a b
   ·have:=g3 j (by omega) (by unfold RS;simpa using e);omega
   ·omega
  have e1:=Av j;have e2:i64.wrap ((a.length:Int)-i)=((a.length-i:Nat):Int):=AP;have e3:i64.wrap ((b.length:Int)-j)=((b.length-j:Nat):Int):=AP;have t1:=lW (a:=a) (b:=b) (i:=i) (j:=j);have t2:=gY (a:=a) (b:=b) (i:=i) (j:=j) hi (by omega);have t3:F6 a b a.length b.length=AI a b:=by simp[F6]
  have ll:=Gm a b;have e4:i64.wrap ((Ff a b 0 i 0 j:Int)+(Ff a b i a.length j b.length:Int))=(Ff a b 0 i 0 j:Int)+(Ff a b i a.length j b.length:Int):=BJ;have c1:(i:Int)<(a.length:Int)+1:=by omega
  have c2:(j:Int)<(b.length:Int)+1:=by omega
  have c3:((a.length-i:Nat):Int)<(a.length:Int)+1:=by omega
  have c4:((b.length-j:Nat):Int)<(b.length:Int)+1:=by omega
  have c5:(a.length:Int)<(a.length:Int)+1:=by omega
  have c6:(b.length:Int)<(b.length:Int)+1:=by omega
  have d1:i<a.length+1:=by omega
  have d2:j<b.length+1:=by omega
  have d3:a.length-i<a.length+1:=by omega
  have d4:b.length-j<b.length+1:=by omega
  have hne':(Ff a b 0 i 0 j:Int)+(Ff a b i a.length j b.length:Int)<(AI a b:Int):=by omega
  refine Ab Ai DV.eq_1 ?_;simp[hj,Oe,e1,e2,e3,t1,t2,t3,e4,c1,c2,c3,c4,c5,c6,d1,d2,d3,d4,hne'];have:=ih (j+1) (by omega);simpa[Oe] using this
theorem zu {a b:List Int} (hal:a.length≤1000000) (hb:b.length≤1000000) (hq:∀ (H:Hp) (u:Nat) st,H [0]=⟨u,.arr 1 (FL (fun i=>(AW a b i:Nat)) (a.length+1))⟩→Q (.exit 0) ⟨lk ([(0,Cq a),(1,Cq b),(5,Oe a b),(6,Oe a.reverse b.reverse),(7,.osl [0] u 1 0 (a.length+1))]++st),H⟩):∀ (m i u:Nat) (H:Hp),i+m=a.length+1→H [0]=⟨u,.arr 1 (FL (fun i=>(AW a b i:Nat)) i)⟩ →
  LoopC (cx Tryz.prog w0 I0 n0) FD Q ⟨lk [(0,Cq a),(1,Cq b),(5,Oe a b),(6,Oe a.reverse b.reverse),(7,.osl [0] u 1 0 i),(8,iv i)],H⟩:=by
 intro m;induction m with
 |zero=>
  intro i u H hm hH;refine Ab Ai FD.eq_1 ?_;have:i=a.length+1:=by omega
  subst this;have hle:¬ ((a.length:Int)+1≤a.length):=by omega
  simp[hle];have:=hq H u [(8,iv (a.length+1:Nat)),(21,bv false)] hH;simpa using this
 |succ m ih=>
  intro i u H hm hH;have hi:i≤a.length:=by omega
  have e1:=Av i;refine Ab Ai FD.eq_1 ?_;simp[hi];refine LoopC.le (Ao [(0,Cq a),(1,Cq b),(5,Oe a b),(6,Oe a.reverse b.reverse),(7,.osl [0] u 1 0 i),(8,iv i),(9,iv (0:Nat))] (by simp)) ?_;refine Aat hi hal hb (fun st=>?_) (AW a b i) 0 (by omega);simp[e1,hH];refine⟨by omega,?_⟩;have:=ih (i+1) (u+1) (Ay H [0] ⟨u+1,.arr 1 (FL (fun i=>(AW a b i:Nat)) (i+1))⟩) (by omega) (by simp[Aa]);have e2:List.take i (FL (fun i=>(AW a b i:Nat)) i)++[iv (AW a b i:Nat)]=FL (fun i=>(AW a b i:Nat)) (i+1):=by
   rw[AL (by simp)];simp[FL,List.range_succ]
  rw[e2];simpa using this
theorem qM {a b:List Int} (hal:a.length≤1000000) (hb:b.length≤1000000):G.Spec Tryz.prog 213 [Cq a,Cq b] (.sl false (FL (fun i=>(AW a b i:Nat)) (a.length+1))):=by
 have s4:=Q9 (a:=a.reverse) (b:=b.reverse) (by simpa using hal) (by simpa using hb);refine Aj TZ (by simp) fun w0 I0=>?_;unfold MA;simp;refine Ae (Q9 hal hb) (by simp) ?_;simp;refine Ae (SK hal) (by simp) ?_;simp;refine Ae (SK hb) (by simp) ?_;simp;refine Ae s4 (by simp) ?_;simp;refine LoopC.le (Cd 7 [0] 1 (by simp)) ?_;refine LoopC.le (Ao [(0,Cq a),(1,Cq b),(5,Oe a b),(6,Oe a.reverse b.reverse),(7,.osl [0] 1 1 0 0),(8,iv (0:Nat))] (by simp)) ?_;refine zu hal hb (fun H u st h=>?_) (a.length+1) 0 1 _ (by omega) (by simp[Aa,FL]);simp;exact PD h
def VW (p q:Nat):List Sp:=if p<q then [⟨2,q-p-1⟩,⟨0,1⟩] else [⟨1,1⟩]
theorem jG (p q:Nat):AO (VW p q)=Nv p q:=by
 unfold VW Nv;split<;>simp
def JT (a b:List Int) (i:Nat):List Sp:=(⟨2,0⟩:Sp)::(List.range i).flatMap (fun i=>VW (AW a b i) (AW a b (i+1)))
theorem TX (a b:List Int) (i:Nat):JT a b (i+1)=JT a b i++VW (AW a b i) (AW a b (i+1)):=by simp[JT,List.range_succ]
theorem gJ (a b:List Int) (i:Nat):(JT a b i).length≤2*i+1:=by
 induction i with
 |zero=>simp[JT]
 |succ i ih=>
  rw[TX,List.length_append];have:(VW (AW a b i) (AW a b (i+1))).length≤2:=by unfold VW;split<;>simp
  omega
theorem jE (a b:List Int):AO (JT a b a.length++[⟨2,b.length-AW a b a.length⟩])=GG a b:=by
 have:∀ l:List Nat,AO (l.flatMap fun i=>VW (AW a b i) (AW a b (i+1)))=l.flatMap fun i=>Nv (AW a b i) (AW a b (i+1)):=by
  intro l;induction l with
  |nil=>rfl
  |cons x l ih=>simp[jG,ih]
 rw[PE];unfold JT GG;rw[Az,this];simp
theorem tY {a b:List Int} (hb:b.length≤1000000):∀ i,i≤a.length→∀ s,s ∈ JT a b i→s.may:=by
 intro i;induction i with
 |zero=>intro _ s hs;simp[JT] at hs;subst hs;exact⟨by simp,by simp⟩
 |succ i ih=>
  intro hi s hs;rw[TX] at hs;rcases List.mem_append.1 hs with hs | hs
  ·exact ih (by omega) s hs
  ·have h1:=(FY (a:=a) (b:=b) (i:=i+1) hi).2.1;unfold VW at hs;split at hs
   ·simp at hs;rcases hs with rfl | rfl
    ·exact⟨by simp,by simp;omega⟩
    ·exact⟨by simp,by simp⟩
   ·simp at hs;subst hs;exact⟨by simp,by simp⟩
theorem sF {a b:List Int} (hal:a.length≤100000) (hb:b.length≤1000000) (hq:∀ (H:Hp) (u:Nat) st,H [0]=⟨u,.arr 2 ((JT a b a.length).map Dp)⟩→Q (.exit 0) ⟨lk ([(0,Cq a),(1,Cq b),(8,.sl false (FL (fun i=>(AW a b i:Nat)) (a.length+1))),(9,.osl [0] u 2 0 (JT a b a.length).length)]++st),H⟩):∀ (m i u:Nat) (H:Hp),i+m=a.length→H [0]=⟨u,.arr 2 ((JT a b i).map Dp)⟩ →
  LoopC (cx Tryz.prog w0 I0 n0) E9 Q ⟨lk [(0,Cq a),(1,Cq b),(8,.sl false (FL (fun i=>(AW a b i:Nat)) (a.length+1))),(9,.osl [0] u 2 0 (JT a b i).length),(10,iv i)],H⟩:=by
 intro m;induction m with
 |zero=>
  intro i u H hm hH;refine Ab Ai E9.eq_1 ?_;have:i=a.length:=by omega
  subst this;simp;exact hq H u [(10,iv a.length),(35,bv false)] hH
 |succ m ih=>
  intro i u H hm hH;have hi:i<a.length:=by omega
  have hlen:=gJ a b i;have e1:=Av i;have w1:=(FY (a:=a) (b:=b) (i:=i) (by omega)).2.1;have w2:=(FY (a:=a) (b:=b) (i:=i+1) (by omega)).2.1;have wm:=R1 (a:=a) (b:=b) (i:=i) (h:=i+1) (by omega) (by omega);have e2:i64.wrap ((AW a b (i+1):Int)-(AW a b i:Int))=((AW a b (i+1)-AW a b i:Nat):Int):=AP;have c1:(i:Int)<(a.length:Int)+1:=by omega
  have c2:(i:Int)+1<(a.length:Int)+1:=by omega
  have c3:(0:Int)≤(i:Int)+1:=by omega
  have d1:i<a.length+1:=by omega
  have d2:i+1<a.length+1:=by omega
  have next:=ih (i+1)
  rw[TX] at next
  refine Ab Ai E9.eq_1 ?_;by_cases h:AW a b i<AW a b (i+1)
  ·have hs:VW (AW a b i) (AW a b (i+1))=[⟨2,AW a b (i+1)-AW a b i-1⟩,⟨0,1⟩]:=by rw[VW,if_pos h]
   have hgt:(0:Int)<((AW a b (i+1)-AW a b i:Nat):Int):=by omega
   have e3:i64.wrap (((AW a b (i+1)-AW a b i:Nat):Int)-1)=((AW a b (i+1)-AW a b i-1:Nat):Int):=AP;rw[hs] at next
   simp[hi,e1,e2,c1,c2,c3,d1,d2,hgt,e3,hH];refine⟨fun _=>⟨by omega,?_⟩,fun _=>by omega⟩;rw[AL (by simp)];have:=next (u+1) (Ay H [0] ⟨u+1,.arr 2 ((JT a b i++[(⟨2,AW a b (i+1)-AW a b i-1⟩:Sp),⟨0,1⟩]).map Dp)⟩) (by omega) (by simp[Aa])
   simpa[Dp,He] using this
  ·have hs:VW (AW a b i) (AW a b (i+1))=[⟨1,1⟩]:=by rw[VW,if_neg h]
   have h0:AW a b (i+1)-AW a b i=0:=by omega
   rw[hs] at next
   simp[hi,e1,e2,c1,c2,c3,d1,d2,h0,hH];refine⟨by omega,?_⟩;rw[AL (by simp)];have:=next (u+1) (Ay H [0] ⟨u+1,.arr 2 ((JT a b i++[(⟨1,1⟩:Sp)]).map Dp)⟩) (by omega) (by simp[Aa])
   simpa[Dp,He] using this
theorem jd {a b:List Int} (hal:a.length≤30000) (hb:b.length≤1000000) {M0:Int} (hM0:B9 M0):G.Spec Tryz.prog 166 [Cq a,Cq b,iv M0] (if (B7 a b:Int)≤M0 then .tup [Od (Il (GG a b)),bv true] else .tup [.sl false [],bv false]):=by
 have hc:=fu (a:=a) (b:=b) (by omega) hb;have hw:=qM (a:=a) (b:=b) (by omega) hb;have ll:=Gm a b;have e0:i64.wrap ((a.length:Int)+b.length)=(a.length:Int)+b.length:=BJ;have e1:i64.wrap (2*(AI a b:Int))=2*(AI a b:Int):=BJ;have e2:i64.wrap ((a.length:Int)+b.length-2*(AI a b:Int))=(B7 a b:Int):=by unfold B7;rw[Al (by omega) (by omega)];omega
 have hlen:=gJ a b a.length;have wl:=(FY (a:=a) (b:=b) (BZ a.length)).2.1;have hN:=gh (all:=JT a b a.length++[⟨2,b.length-AW a b a.length⟩]) (Zt (tY hb a.length (BZ _)) (by simp;exact⟨by simp,by simp;omega⟩)) (by simp;omega);rw[jE] at hN;refine Aj TA (by simp) fun w0 I0=>?_;unfold LZ;simp;refine Ae hc (by simp) ?_;by_cases h:(B7 a b:Int)≤M0
 ·have h':¬ M0<(B7 a b:Int):=by omega
  simp[e0,e1,e2,h,h'];refine Ae hw (by simp) ?_;simp[Tg];refine LoopC.le (Ao [(0,Cq a),(1,Cq b),(8,.sl false (FL (fun i=>(AW a b i:Nat)) (a.length+1))),(9,.osl [0] 1 2 0 (JT a b 0).length),(10,iv (0:Nat))] (by simp[JT])) ?_;refine sF (by omega) hb (fun H u st hH=>?_) a.length 0 1 _ (by omega) (by simp[JT,Dp,He]);have e3:i64.wrap ((b.length:Int)-(AW a b a.length:Int))=((b.length-AW a b a.length:Nat):Int):=AP;have c1:(a.length:Int)<(a.length:Int)+1:=by omega
  simp[hH,e3,c1];refine⟨by omega,?_⟩;refine Kf [Od (JT a b a.length++[⟨2,b.length-AW a b a.length⟩])] hN (by
   simp[Aa];rw[AL (by simp)];have:=Bx (H:=Ay H [0] ⟨u+1,.arr 2 ((JT a b a.length++[(⟨2,b.length-AW a b a.length⟩:Sp)]).map Dp)⟩) (o:=[0]) (u:=u+1) (sz:=2) (l:=JT a b a.length++[(⟨2,b.length-AW a b a.length⟩:Sp)]) (f:=Dp) (n:=(JT a b a.length).length+1) (by simp[Aa]) (by simp) (fun x=>rfl);show J3 _ _ (.sl false (List.map Dp (JT a b a.length++[(⟨2,b.length-AW a b a.length⟩:Sp)])));simpa[Dp,He] using this) (by simp) ?_
  simp;exact Ad rfl
 ·have h':M0<(B7 a b:Int):=by omega
  simp[e0,e1,e2,h,h'];exact J1 (by simp;exact⟨Ak,Ad rfl⟩)
end Go.Proofs.YtbjmaoedheiigaaGreat
namespace Go.PL
open Go
def I9 (list:Int) (e:E):Bool:=decide (e.kind=0) || (decide (list=9)&&decide (e.kind=2)&&e.words.isEmpty&&e.kids.isEmpty)
def De (g:List T):List OP:=if g=[] then [] else [.mk 1 0 g E0]
def Dn (b:List T):List OP:=if b=[] then [] else [.mk 2 0 b E0]
def YB (out:List OP) (g b:List T):List OP:=out++(De g++Dn b)
def br (out:List OP) (n:Int):List OP:=match out.getLast? with
 |some (.mk 0 m l e)=>out.dropLast++[.mk 0 (i64.wrap (m+n)) l e]
 |_=>out++[.mk 0 n [] E0]
def GK (list:Int):List OP→List OP→List T→List T→List OP
 |[],out,g,b=>YB out g b
 |o::os,out,g,b=>
  if o.kind=0 then GK list os (br (YB out g b) o.n) [] []
  else if o.kind=1 then GK list os out (g++o.l.map Ah) b
  else if o.kind=2 then GK list os out g (b++o.l.map Ah)
  else if I9 list o.e=true then GK list os (br (YB out g b) 1) [] []
  else GK list os (YB out g b++[.mk 3 0 [] o.e]) [] []
mutual
def RO:E→E
 |.mk k o n ws ks l os=>if k=1 then .mk 1 (Ah o) (Ah n) [] [] 0 [] else if k=2 then .mk 2 T0 T0 ws (tg ks) 0 [] else if k=3 then .mk 3 T0 T0 [] [] l (GK l (qL os) [] [] []) else E0
def tg:List KE→List KE
 |[]=>[]
 |.mk a e::l=>.mk a (RO e)::tg l
def qL:List OP→List OP
 |[]=>[]
 |.mk k n t e::l=>.mk k n t (RO e)::qL l
end
def aZ (x:KE):KE:=.mk x.at_ (RO x.e)
def VE (x:OP):OP:=.mk x.kind x.n x.l (RO x.e)
theorem gn:∀ l,tg l=l.map aZ
 |[]=>by simp[tg]
 |.mk a e::l=>by rw[tg,gn l];rfl
theorem eZ:∀ l,qL l=l.map VE
 |[]=>by simp[qL]
 |.mk k n t e::l=>by rw[qL,eZ l];rfl
theorem Yr (k:Int) (o n:T) (ws:List WE) (ks:List KE) (l:Int) (os:List OP):RO (.mk k o n ws ks l os)=if k=1 then .mk 1 (Ah o) (Ah n) [] [] 0 [] else if k=2 then .mk 2 T0 T0 ws (ks.map aZ) 0 [] else if k=3 then .mk 3 T0 T0 [] [] l (GK l (os.map VE) [] [] []) else E0:=by
 rw[RO,gn,eZ]
end Go.PL
namespace Go.Proofs.YtbjmaoedheiigaaGreat
open Go Go.G Go.Proofs Go.PL
def al:Nat→Nat→Nat→Nat→Nat
 |0,_,_,_=>0
 |k+1,a,b,m=>(if m % 2=1 then b % 256 else a % 256)+256*al k (a / 256) (b / 256) (m / 2)
def Ej:Nat→Nat→Nat
 |0,_=>0
 |k+1,m=>(if m % 2=1 then 255 else 0)+256*Ej k (m / 2)
theorem WD:∀ k m,Ej k m<256 ^ k
 |0,m=>by simp[Ej]
 |k+1,m=>by
  have:=WD k (m / 2);simp only[Ej,Nat.pow_succ];split<;>omega
theorem ZJ:∀ k a b m,a<256 ^ k→b<256 ^ k→(a &&& (256 ^ k-1-Ej k m)) ||| (b &&& Ej k m)=al k a b m
 |0,a,b,m,ha,hb=>by
  simp at ha hb;subst ha hb;simp[al,Ej]
 |k+1,a,b,m,ha,hb=>by
  have hw:=WD k (m / 2);rw[Nat.pow_succ] at ha hb;have ih:=ZJ k (a / 256) (b / 256) (m / 2) (by omega) (by omega);have p0:0<256 ^ k:=Nat.pow_pos (by decide);generalize hx:(a &&& (256 ^ (k+1)-1-Ej (k+1) m)) ||| (b &&& Ej (k+1) m)=x;have d1:Ej (k+1) m / 256=Ej k (m / 2):=by simp only[Ej];split<;>omega
  have d2:(256 ^ (k+1)-1-Ej (k+1) m) / 256=256 ^ k-1-Ej k (m / 2):=by simp only[Ej,Nat.pow_succ];split<;>omega
  have m1:Ej (k+1) m % 256=if m % 2=1 then 255 else 0:=by simp only[Ej];split<;>omega
  have m2:(256 ^ (k+1)-1-Ej (k+1) m) % 256=if m % 2=1 then 0 else 255:=by simp only[Ej,Nat.pow_succ];split<;>omega
  have e1:x / 256=al k (a / 256) (b / 256) (m / 2):=by
   have q1:=@Nat.or_div_two_pow (a &&& (256 ^ (k+1)-1-Ej (k+1) m)) (b &&& Ej (k+1) m) 8;have q2:=@Nat.and_div_two_pow a (256 ^ (k+1)-1-Ej (k+1) m) 8;have q3:=@Nat.and_div_two_pow b (Ej (k+1) m) 8;have c:(2:Nat) ^ 8=256:=rfl;rw[q2,q3,c,d1,d2,hx] at q1;rw[q1,ih]
  have e2:x % 256=if m % 2=1 then b % 256 else a % 256:=by
   have h:x % 2 ^ 8=(a % 2 ^ 8 &&& (256 ^ (k+1)-1-Ej (k+1) m) % 2 ^ 8) ||| (b % 2 ^ 8 &&& Ej (k+1) m % 2 ^ 8):=by
    rw[← hx,Nat.or_mod_two_pow,Nat.and_mod_two_pow,Nat.and_mod_two_pow]
   have c:(2:Nat) ^ 8=256:=rfl;rw[c,m1,m2] at h;rw[h];have h255:(255:Nat)=2 ^ 8-1:=rfl;split
   ·rw[h255,Nat.and_two_pow_sub_one_eq_mod];simp
   ·rw[h255,Nat.and_two_pow_sub_one_eq_mod];simp
  simp only[al];omega
theorem gx:∀ (k:Nat) (a b mask:Int),0≤a→0≤b→0≤mask→ie ((List.range k).map fun i=>if Ix mask i=true then (Ed k b).getD i 0 else (Ed k a).getD i 0)=(al k a.toNat b.toNat mask.toNat:Nat)
 |0,a,b,mask,_,_,_=>by simp[ie,al]
 |k+1,a,b,mask,ha,hb,hm=>by
  have ih:=gx k (a / 256) (b / 256) (mask / 2) (by omega) (by omega) (by omega);have e1:(a / 256).toNat=a.toNat / 256:=by omega
  have e2:(b / 256).toNat=b.toNat / 256:=by omega
  have e3:(mask / 2).toNat=mask.toNat / 2:=by omega
  rw[e1,e2,e3] at ih;rw[List.range_succ_eq_map,List.map_cons,List.map_map,ie];have h:(List.range k).map ((fun i=>if Ix mask i=true then (Ed (k+1) b).getD i 0 else (Ed (k+1) a).getD i 0) ∘ Nat.succ)=(List.range k).map fun i=>if Ix (mask / 2) i=true then (Ed k (b / 256)).getD i 0 else (Ed k (a / 256)).getD i 0:=by
   refine List.map_congr_left fun i _=>?_;have hn:Ix mask (i+1)=Ix (mask / 2) i:=by
    unfold Ix;have:mask / 2 ^ (i+1)=mask / 2 / 2 ^ i:=by
     rw[Int.ediv_ediv_of_nonneg (by decide),Int.pow_succ,Int.mul_comm]
    rw[this]
   simp[Ed,hn]
  rw[h,ih];have h0:(Ix mask 0=true)=(mask.toNat % 2=1):=by
   simp[Ix];omega
  simp only[h0,al,Ed,List.getD_cons_zero];split<;>omega
theorem tp {a b mask:Int} (ha:Bw a) (hb:Bw b) (h0:0≤mask):aM a b mask=(al 8 a.toNat b.toNat mask.toNat:Nat):=by
 rw[← gx 8 a b mask ha.1 hb.1 h0];unfold aM Oc Bo;rw[List.drop_eq_nil_of_le (by simp),List.append_nil]
def wS (mask:Int):Nat→Int
 |0=>0
 |i+1=>if bits .and .u8 (mask / 2 ^ min i 8) 1=1 then bits .or .u64 (wS mask i) (u64.wrap (255*2 ^ min (8*i) 64)) else wS mask i
theorem zT:∀ m:Nat,m<256→wS m 8=(Ej 8 m:Nat):=by decide +kernel
variable {n0:Nat} {w0:World} {I0:Nat→Prop} {Q:Exit→Sta→Prop}
theorem pK {mask:Int} (hq:∀ q,Q (.exit 0) ⟨lk [(0,u8 mask),(3,uv (wS mask 8)),(5,iv 8),(6,bv q)],EH []⟩) :
  ∀ (j i:Nat),i+j=8→LoopC (cx Tryz.prog w0 I0 n0) JY Q ⟨lk [(0,u8 mask),(3,uv (wS mask i)),(5,iv i)],EH []⟩:=by
 intro j;induction j with
 |zero=>
  intro i hi;have:i=8:=by omega
  subst this;refine Ab Ai JY.eq_1 ?_;simp;exact hq _
 |succ j ih=>
  intro i hi;refine Ab Ai JY.eq_1 ?_;have hlt:i<8:=by omega
  have hlt2:(i:Int)<8:=by omega
  have e8:i64.wrap (8*(i:Int))=((8*i:Nat):Int):=(Al (by omega) (by omega)).trans (by omega);have ei:=Av i;have b8:IntKind.u8.bits=8:=rfl;have b64:u64.bits=64:=rfl;have hs:=ih (i+1) (by omega);rw[wS] at hs;have e9:(8*(i:Int)).toNat=8*i:=by omega
  simp[hlt,hlt2,e8,ei,b8,b64,e9];refine⟨fun hc=>⟨by omega,?_⟩,fun hc=>?_⟩
  ·rw[if_pos hc] at hs;exact hs
  ·rw[if_neg hc] at hs;exact hs
theorem XC {mask:Int} (h0:0≤mask) (h1:mask<256):G.Spec Tryz.prog 218 [u8 mask] (uv (Ej 8 mask.toNat:Nat)):=by
 refine Aj du (by simp) fun w0 I0=>?_;unfold UY;simp;obtain⟨m,rfl⟩:=Int.eq_ofNat_of_zero_le h0;refine pK (fun q=>?_) 8 0 rfl;simp;rw[zT m (by omega)];exact Ad rfl
theorem UH {x:Nat} (h:x<2 ^ 64):(BitVec.ofInt 64 (x:Int)).toNat=x:=by
 rw[BitVec.toNat_ofInt];omega
theorem AaX {x y:Nat} (hx:x<2 ^ 64) (hy:y<2 ^ 64):bits .and .u64 x y=(x &&& y:Nat):=by
 have h:=Nat.lt_of_le_of_lt (Nat.and_le_left (n:=x) (m:=y)) hx;show u64.wrap ((BitVec.ofInt 64 x &&& BitVec.ofInt 64 y).toNat:Nat)=_;rw[BitVec.toNat_and,UH hx,UH hy];exact AG (by omega) (by omega)
theorem Ad6 {x y:Nat} (hx:x<2 ^ 64) (hy:y<2 ^ 64):bits .or .u64 x y=(x ||| y:Nat):=by
 have h:=Nat.or_lt_two_pow hx hy;show u64.wrap ((BitVec.ofInt 64 x ||| BitVec.ofInt 64 y).toNat:Nat)=_;rw[BitVec.toNat_or,UH hx,UH hy];exact AG (by omega) (by omega)
theorem vk {x y:Nat} (hx:x<2 ^ 64) (hy:y<2 ^ 64):bits .andNot .u64 x y=(x &&& (256 ^ 8-1-y):Nat):=by
 have h:=Nat.lt_of_le_of_lt (Nat.and_le_left (n:=x) (m:=256 ^ 8-1-y)) hx;show u64.wrap ((BitVec.ofInt 64 x &&& ~~~ BitVec.ofInt 64 y).toNat:Nat)=_;rw[BitVec.toNat_and,BitVec.toNat_not,UH hx,UH hy];have e:(2:Nat) ^ 64-1-y=256 ^ 8-1-y:=rfl;rw[e];exact AG (by omega) (by omega)
theorem ZZ {a b mask:Int} (ha:Bw a) (hb:Bw b) (h0:0≤mask) (h1:mask<256):G.Spec Tryz.prog 174 [uv a,uv b,u8 mask] (uv (aM a b mask)):=by
 refine Aj kr (by simp) fun w0 I0=>?_;unfold X8;simp;refine Ae (XC h0 h1) (by simp) ?_;simp;refine Ae (XC h0 h1) (by simp) ?_;simp;refine CE ?_;rw[tp ha hb h0];obtain⟨x,rfl⟩:=Int.eq_ofNat_of_zero_le ha.1;obtain⟨y,rfl⟩:=Int.eq_ofNat_of_zero_le hb.1;have hx:x<2 ^ 64:=by have:=ha.2;omega
 have hy:y<2 ^ 64:=by have:=hb.2;omega
 have hw:Ej 8 mask.toNat<2 ^ 64:=WD 8 _;rw[vk hx hw,AaX hy hw,Ad6 (Nat.lt_of_le_of_lt Nat.and_le_left hx) (Nat.lt_of_le_of_lt Nat.and_le_left hy)];have:=ZJ 8 x y mask.toNat hx hy;simp only[Int.toNat_natCast];rw[← this]
theorem tv:∀ i:Fin 8,∀ m:Fin 256,m.val<2 ^ i.val→bits .or .u8 (m.val:Int) ((2 ^ i.val:Nat):Int)=(m.val:Int)+((2 ^ i.val:Nat):Int):=by decide +kernel
def Hg (x:Int) (i:Nat):Int:=x / 256 ^ i % 256
def Jj (a b:Int):Nat→Nat
 |0=>0
 |k+1=>Jj a b k+(if Hg a k ≠ Hg b k then 2 ^ k else 0)
def K5 (a b:Int):Int:=(Jj a b 8:Nat)
theorem Wk (a b:Int):∀ k,Jj a b k<2 ^ k
 |0=>by simp[Jj]
 |k+1=>by
  have:=Wk a b k;unfold Jj;rw[Nat.pow_succ];split<;>omega
theorem We (a b:Int):0≤K5 a b∧K5 a b<256:=by
 have:=Wk a b 8;unfold K5;omega
theorem Nk:∀ (n:Nat) (x:Int) (i:Nat),i<n→(Ed n x)[i]? = some (Hg x i)
 |n+1,x,0,_=>by simp[Ed,Hg]
 |n+1,x,i+1,h=>by
  have:=Nk n (x / 256) i (by omega);simp only[Ed,List.getElem?_cons_succ];rw[this];unfold Hg;rw[Int.ediv_ediv_of_nonneg (by omega),Int.pow_succ,Int.mul_comm]
theorem uH {a b:Int} (ha:Bw a) (hb:Bw b) (i:Nat):Hg (bits .xor .u64 a b) i=0 ↔ Hg a i=Hg b i:=by
 obtain⟨x,rfl⟩:∃ x:Nat,a=x:=⟨a.toNat,by unfold Bw at ha;omega⟩;obtain⟨y,rfl⟩:∃ y:Nat,b=y:=⟨b.toNat,by unfold Bw at hb;omega⟩;unfold Bw at ha hb;rw[bits_xor_u64_nat x y (by omega) (by omega)];unfold Hg;have h:∀ z:Nat,((z:Int) / 256 ^ i % 256)=(((z / 2 ^ (8*i)) % 2 ^ 8:Nat):Int):=fun z=>by
  have h1:((256:Int) ^ i)=((2 ^ (8*i):Nat):Int):=by
   rw[Nat.pow_mul,Int.natCast_pow];rfl
  rw[h1,Int.natCast_emod,Int.natCast_ediv];rfl
 rw[h,h,h];have e:((x ^^^ y) / 2 ^ (8*i)) % 2 ^ 8=((x / 2 ^ (8*i)) % 2 ^ 8) ^^^ ((y / 2 ^ (8*i)) % 2 ^ 8):=by
  rw[← Nat.shiftRight_eq_div_pow,← Nat.shiftRight_eq_div_pow,← Nat.shiftRight_eq_div_pow,Nat.shiftRight_xor_distrib,Nat.xor_mod_two_pow]
 rw[e];constructor
 ·intro h;have h:((x / 2 ^ (8*i)) % 2 ^ 8) ^^^ ((y / 2 ^ (8*i)) % 2 ^ 8)=0:=by omega
  generalize (x / 2 ^ (8*i)) % 2 ^ 8=p at h ⊢;generalize (y / 2 ^ (8*i)) % 2 ^ 8=q at h ⊢;have h2:p ^^^ q ^^^ q=q:=by rw[h,Nat.zero_xor]
  rw[Nat.xor_assoc,Nat.xor_self,Nat.xor_zero] at h2;rw[h2]
 ·intro h;have h:(x / 2 ^ (8*i)) % 2 ^ 8=(y / 2 ^ (8*i)) % 2 ^ 8:=by omega
  rw[h,Nat.xor_self];rfl
theorem zB {a b:Int} (ha:Bw a) (hb:Bw b) {H:Hp} (hq:∀ st,Q (.exit 0) ⟨lk ([(5,u8 (K5 a b))]++st),H⟩):∀ (m i:Nat),i+m=8 →
  LoopC (cx Tryz.prog w0 I0 n0) HK Q ⟨lk [(5,u8 (Jj a b i:Nat)),(11,.agg (O8 (Bo (bits .xor .u64 a b)))),(12,iv i)],H⟩:=by
 intro m;induction m with
 |zero=>
  intro i hm;refine Ab Ai HK.eq_1 ?_;have:i=8:=by omega
  subst this;simp;exact hq [(11,.agg (O8 (Bo (bits .xor .u64 a b)))),(12,iv 8),(13,bv false)]
 |succ m ih=>
  intro i hm;have hi:i<8:=by omega
  have hi':(i:Int)<8:=by omega
  have ew:=Av i;have hb1:(Bo (bits .xor .u64 a b))[i]? = some (Hg (bits .xor .u64 a b) i):=Nk 8 _ i hi;have hx:=uH ha hb i;have hlt:=Wk a b i;have next:=ih (i+1) (by omega)
  refine Ab Ai HK.eq_1 ?_;by_cases h:Hg a i=Hg b i
  ·have h0:=hx.2 h;have e:Jj a b (i+1)=Jj a b i:=by simp[Jj,h]
   rw[e] at next
   simp[hi',hi,ew,O8,hb1,h0];simpa[O8] using next
  ·have h0:¬ Hg (bits .xor .u64 a b) i=0:=fun e=>h (hx.1 e);have e:Jj a b (i+1)=Jj a b i+2 ^ i:=by simp[Jj,h]
   rw[e] at next
   have p8:2 ^ i<256:=by
    have:2 ^ i≤2 ^ 7:=Nat.pow_le_pow_right (by omega) (by omega);omega
   have eb:IntKind.u8.wrap (2 ^ min i IntKind.u8.bits)=((2 ^ i:Nat):Int):=by
    have:min i IntKind.u8.bits=i:=Nat.min_eq_left (by show i≤8;omega);rw[this,IntKind.wrap_u8,Int.natCast_pow];have:((2:Int) ^ i)=((2 ^ i:Nat):Int):=by rw[Int.natCast_pow];rfl
    omega
   have eo:=tv ⟨i,hi⟩ ⟨Jj a b i,by omega⟩ hlt;simp only at eo;simp[hi',hi,ew,O8,hb1,h0];rw[eb,eo,← Int.natCast_add];simpa[O8] using next
def WQ (x:Int) (i:Nat):List Int:=(List.range 8).map fun j=>if j<i then Hg x j else 0
theorem Nc (x:Int) (i:Nat):(WQ x i).length=8:=by simp[WQ]
theorem m9 (x:Int):WQ x 0=List.replicate 8 0:=by simp[WQ];rfl
theorem tE (x:Int):WQ x 8=Bo x:=by
 apply List.ext_getElem?;intro j;by_cases h:j<8
 ·rw[show(Bo x)[j]? = _ from Nk 8 x j h];simp[WQ,h]
 ·rw[List.getElem?_eq_none (by rw[Nc];omega),List.getElem?_eq_none (by simp[Bo];omega)]
theorem s0 (x:Int) {i:Nat} (h:i<8):(WQ x i).set i (Hg x i)=WQ x (i+1):=by
 apply List.ext_getElem?;intro j;by_cases hj:j<8
 ·by_cases e:j=i
  ·subst e;rw[List.getElem?_set_self (by rw[Nc];omega)];simp[WQ,hj]
  ·rw[List.getElem?_set_ne (by omega)];simp[WQ,hj];have:(j<i+1)=(j<i):=by simp;omega
   simp[this]
 ·rw[List.getElem?_eq_none (by simp[Nc];omega),List.getElem?_eq_none (by rw[Nc];omega)]
theorem xA {x:Int} (hx:Bw x) (hq:∀ (st:List (Nat × A)) (H:Hp),H [0]=⟨1,.cells (O8 (List.replicate 8 0))⟩→H [1]=⟨1,.cells (O8 (Bo x))⟩→Q (.exit 0) ⟨lk ([(0,uv x),(2,.pob [0] 1 0),(3,.pob [1] 1 0)]++st),H⟩):∀ (m i:Nat) (H:Hp),i+m=8→H [0]=⟨1,.cells (O8 (List.replicate 8 0))⟩→H [1]=⟨1,.cells (O8 (WQ x i))⟩ →
  LoopC (cx Tryz.prog w0 I0 n0) IW Q ⟨lk [(0,uv x),(2,.pob [0] 1 0),(3,.pob [1] 1 0),(5,iv i)],H⟩:=by
 intro m;induction m with
 |zero=>
  intro i H hm h0 h1;refine Ab Ai IW.eq_1 ?_;have:i=8:=by omega
  subst this;rw[tE] at h1;simp;exact hq [(5,iv 8),(6,bv false)] H h0 h1
 |succ m ih=>
  intro i H hm h0 h1;have hi:i<8:=by omega
  have hi':(i:Int)<8:=by omega
  have ew:=Av i;have e8:i64.wrap (8*(i:Int))=((8*i:Nat):Int):=(Al (by omega) (by omega)).trans (by omega);have b64:u64.bits=64:=rfl;have e9:(8*(i:Int)).toNat=8*i:=by omega
  have ev:IntKind.u8.wrap (x / 2 ^ min (8*i) 64)=Hg x i:=by
   rw[IntKind.wrap_u8,Nat.min_eq_left (by omega)];unfold Hg;have h1:((256:Int) ^ i)=((2:Int) ^ (8*i)):=by rw[Int.pow_mul];rfl
   rw[h1]
   try rfl
  refine Ab Ai IW.eq_1 ?_;simp[hi',hi,ew,e8,e9,b64,ev,h1,Nc];refine⟨by omega,by omega,?_⟩;rw[X1 (by rw[Nc];omega),s0 x hi];simpa using ih (i+1) _ (by omega) (by simp[Aa,h0]) (by simp[Aa])
theorem gA {x:Int} (h:Bw x):G.Spec Tryz.prog 217 [uv x] (.agg (O8 (Bo x))):=by
 refine Aj aX (by simp) fun w0 I0=>?_;unfold SU;simp;refine LoopC.le (Ao [(0,uv x),(2,.pob [0] 1 0),(3,.pob [1] 1 0),(5,iv (0:Nat))] (by simp)) ?_;refine xA h (fun st H h0 h1=>?_) 8 0 _ rfl (by simp[Aa]) (by simp[Aa,m9]);have e:List.take 8 (O8 (Bo x))=O8 (Bo x):=AL (by simp[Bo]);have el:(Bo x).length=8:=by simp[Bo]
 simp[h1,h0,Aa,e,el];exact⟨by simp[A.ones],Za⟩
theorem bT {a b:Int} (ha:Bw a) (hb:Bw b):G.Spec Tryz.prog 173 [uv a,uv b] (u8 (K5 a b)):=by
 have hu:Bw (bits .xor .u64 a b):=by
  obtain⟨x,rfl⟩:∃ x:Nat,a=x:=⟨a.toNat,by unfold Bw at ha;omega⟩;obtain⟨y,rfl⟩:∃ y:Nat,b=y:=⟨b.toNat,by unfold Bw at hb;omega⟩;unfold Bw at ha hb;rw[bits_xor_u64_nat x y (by omega) (by omega)];have:=@Nat.xor_lt_two_pow x y 64 (by omega) (by omega);unfold Bw;omega
 refine Aj YS (by simp) fun w0 I0=>?_;unfold Qy;simp;refine Ae (gA hu) (by simp) ?_;simp;refine LoopC.le (Ao [(5,u8 (Jj a b 0:Nat)),(11,.agg (O8 (Bo (bits .xor .u64 a b)))),(12,iv (0:Nat))] (by simp[Jj])) ?_;refine zB ha hb (fun st=>?_) 8 0 rfl;simp;exact Ad rfl
theorem Aaj {a b:Int} {H:Hp} (h0:H [0]=⟨1,.cells (O8 (Bo a))⟩) (h1:H [1]=⟨1,.cells (O8 (Bo b))⟩) (hq:Q (.exit 0) ⟨lk [(5,.pob [0] 1 0),(6,.pob [1] 1 0),(7,iv (K5 a b)),(8,iv 256),(9,iv 8),(15,bv false)],H⟩):∀ (m i:Nat),i+m=8 →
  LoopC (cx Tryz.prog w0 I0 n0) D5 Q ⟨lk [(5,.pob [0] 1 0),(6,.pob [1] 1 0),(7,iv (Jj a b i:Nat)),(8,iv (2 ^ i:Nat)),(9,iv i)],H⟩:=by
 intro m;induction m with
 |zero=>
  intro i hm;refine Ab Ai D5.eq_1 ?_;have:i=8:=by omega
  subst this;simp;exact hq
 |succ m ih=>
  intro i hm;have hi:i<8:=by omega
  have hi':(i:Int)<8:=by omega
  have ew:=Av i;have hg:∀ (x:Int) (g:i<(Bo x).length),(Bo x)[i]=Hg x i:=fun x g=>by
   have:=Nk 8 x i hi;exact(List.getElem_eq_iff g).2 this
  have hlt:=Wk a b i;have p8:2 ^ i<256:=by
   have:2 ^ i≤2 ^ 7:=Nat.pow_le_pow_right (by omega) (by omega);omega
  have e2:i64.wrap (2*((2 ^ i:Nat):Int))=((2 ^ (i+1):Nat):Int):=by rw[Al (by omega) (by omega),Nat.pow_succ];omega
  have e1:i64.wrap ((Jj a b i:Int)+((2 ^ i:Nat):Int))=((Jj a b i+2 ^ i:Nat):Int):=AP;have next:=ih (i+1) (by omega)
  refine Ab Ai D5.eq_1 ?_;generalize hp:2 ^ i=p at *;have hlb:∀ x:Int,(Bo x).length=8:=fun x=>by simp[Bo]
  by_cases h:Hg a i=Hg b i
  ·have e:Jj a b (i+1)=Jj a b i:=by simp[Jj,h]
   rw[e] at next
   simp[hi',hi,ew,hg,h0,h1,h,hlb,e2,hp];simpa using next
  ·have e:Jj a b (i+1)=Jj a b i+p:=by simp[Jj,h,hp]
   rw[e] at next
   simp[hi',hi,ew,hg,h0,h1,h,hlb,e2,hp];rw[e1];simpa using next
theorem b6 {a b:Int} (ha:Bw a) (hb:Bw b):G.Spec Tryz.prog 161 [uv a,uv b] (u8 (K5 a b)):=by
 have hin:=We a b;have e8:IntKind.u8.wrap (K5 a b)=K5 a b:=by rw[IntKind.wrap_u8];omega
 refine Aj P7 (by simp) fun w0 I0=>?_;unfold Jw;simp;refine Ae (LO ha) (by simp) ?_;simp;refine Ae (LO hb) (by simp) ?_;simp;have el:∀ x:Int,(Bo x).length=8:=fun x=>by simp[Bo]
 refine⟨⟨el a,by simp[A.ones]⟩,⟨el b,by simp[A.ones]⟩,?_⟩;refine LoopC.le (Ao [(5,.pob [0] 1 0),(6,.pob [1] 1 0),(7,iv (Jj a b 0:Nat)),(8,iv (2 ^ 0:Nat)),(9,iv (0:Nat))] (by simp[Jj])) ?_;refine Aaj (a:=a) (b:=b) (by simp[Aa,el]) (by simp[Aa,el]) ?_ 8 0 rfl;simp[e8];exact Ad rfl
def wdE (at_:Int) (a b:Int):WE:=⟨at_,K5 a b,aM 0 a (K5 a b),aM 0 b (K5 a b)⟩
def WE0:WE:=⟨0,0,0,0⟩
theorem Xh {i a b:Int} (ha:Bw a) (hb:Bw b):G.Spec Tryz.prog 117 [iv i,uv a,uv b] (.tup [wX (if K5 a b=0 then WE0 else wdE i a b),bv (!decide (K5 a b=0))]):=by
 have hin:=We a b;have z:Bw 0:=by unfold Bw;omega
 refine Aj dH (by simp) fun w0 I0=>?_;unfold Vq;simp;refine Ae (bT ha hb) (by simp) ?_;by_cases h:K5 a b=0
 ·simp[h];exact Ad rfl
 ·simp[h];refine Ae (ZZ z ha hin.1 hin.2) (by simp) ?_;simp;refine Ae (ZZ z hb hin.1 hin.2) (by simp) ?_;simp;exact Ad rfl
theorem Yn (k:Int):G.Spec Tryz.prog 61 [iv k] (bv (decide (2≤k)&&decide (k≤9))):=by
 refine Aj dF (by simp) fun w0 I0=>?_;unfold U7;simp;exact Ad rfl
theorem ze {a b:List Int} (hl:a.length=b.length) (hb:a.length*8≤140737488355328) {H:Hp}:∀ (m i:Nat),i+m=a.length→a.take i=b.take i→(a=b→∀ q,Q (.exit 0) ⟨lk [(0,Dz a),(1,Dz b),(12,iv a.length),(13,iv a.length),(14,bv q)],H⟩)→(a ≠ b→Q .ret ⟨lk [(4,bv false)],H⟩) →
  LoopC (cx Tryz.prog w0 I0 n0) B8 Q ⟨lk [(0,Dz a),(1,Dz b),(12,iv a.length),(13,iv i)],H⟩:=by
 intro m;induction m with
 |zero=>
  intro i hi ht h1 h2;have:i=a.length:=by omega
  subst this;rw[AL (BZ _),AL (by omega)] at ht;refine Ab Ai B8.eq_1 ?_;simp;exact h1 ht _
 |succ m ih=>
  intro i hi ht h1 h2;have hlt:i<a.length:=by omega
  have hlt':i<b.length:=by omega
  have ei:=Av i;refine Ab Ai B8.eq_1 ?_;by_cases e:a[i]=b[i]
  ·simp[hlt,hlt',e,ei];refine ih (i+1) (by omega) ?_ h1 h2;rw[Fm hlt,Fm hlt',ht,e]
  ·simp[hlt,hlt',e];exact h2 fun q=>e (by simp[q])
theorem fI (a b:List Int) (hb:a.length*8≤140737488355328):G.Spec Tryz.prog 114 [Dz a,Dz b] (bv (decide (a=b))):=by
 refine Aj Jr (by simp) fun w0 I0=>?_;unfold Fg;by_cases hl:a.length=b.length
 ·simp[hl];have:=ze (n0:=26) (w0:=w0) (I0:=I0) (a:=a) (b:=b) (H:=EH []) (Q:=BD 0 (D4 (WPC (cx Tryz.prog w0 I0 26) (.keep [] (.seq (.reg [co (some 4) (.assign (.const (.bool true))) none] [4]) .ret)) (TS Tryz.prog [.tmp 4] (bv (decide (a=b))))) (TS Tryz.prog [.tmp 4] (bv (decide (a=b)))))) hl hb a.length 0 (by simp) rfl (fun e q=>?_) (fun e=>?_)
  ·rw[hl] at this;simpa using this
  ·simp;exact Bc (by simp[e])
  ·simp;exact Bc (by simp[e])
 ·have hl':¬ (a.length:Int)=b.length:=by omega
  simp[hl,hl'];exact Bc (by simp;intro e;exact absurd (by rw[e]) hl)
theorem rB {t u:T} (h:t.kind ≠ u.kind∨t.kind=0):LK t u=decide (t.kind=u.kind):=by
 rw[Bool.eq_iff_iff,eqT_iff,decide_eq_true_eq];constructor
 ·intro e;rw[← CB t,e,CB]
 ·intro e;rcases h with h | h
  ·exact absurd e h
  ·rw[G6 h,G6 (by omega)]
theorem U4 {t u:T} (h:t.kind ≠ u.kind∨t.kind=0):G.Spec Tryz.prog 59 [tX t,tX u] (bv (LK t u)):=by
 refine Aj RX (by simp) fun w0 I0=>?_;unfold Nf;rw[rB h];by_cases e:t.kind=u.kind
 ·have h0:u.kind=0:=by omega
  simp[e,h0];exact Ad rfl
 ·simp[e];exact Bc (by simp[e])
theorem od {t u:T} {n:Nat} (hN:n≤100000000000000) {H:Hp} (h0:H [0]=⟨1,.cells (tL t)⟩) (h1:H [1]=⟨1,.cells (tL u)⟩)
  (hq:(∀ i,i<n→t.words.getD i 0=u.words.getD i 0)→∀ (q:Bool),Q (.exit 0) ⟨lk [(2,.pob [0] 1 0),(3,.pob [1] 1 0),(48,iv n),(49,iv n),(50,bv q)],H⟩)
  (hf:(∃ i,t.words.getD i 0 ≠ u.words.getD i 0)→Q .ret ⟨lk [(4,bv false)],H⟩) :
  ∀ (j i:Nat),i+j=n→(∀ i',i'<i→t.words.getD i' 0=u.words.getD i' 0) →
  LoopC (cx Tryz.prog w0 I0 n0) IU Q ⟨lk [(2,.pob [0] 1 0),(3,.pob [1] 1 0),(48,iv n),(49,iv i)],H⟩:=by
 intro j;induction j with
 |zero=>
  intro i hi he;have:i=n:=by omega
  subst this;refine Ab Ai IU.eq_1 ?_;simp;exact hq he _
 |succ j ih=>
  intro i hi he;have hlt:i<n:=by omega
  have ei:=Av i;refine Ab Ai IU.eq_1 ?_;simp[hlt,h0,h1];refine Ae (IA t i) (by simp) ?_;simp[h0,h1];refine Ae (IA u i) (by simp) ?_;by_cases hw:t.words.getD i 0=u.words.getD i 0
  ·have hw':=hw;simp only[List.getD_eq_getElem?_getD] at hw';simp[hw',ei];refine ih (i+1) (by omega) (fun i' hi'=>?_);by_cases e:i'=i
   ·rw[e];exact hw
   ·exact he i' (by omega)
  ·have hw':=hw;simp only[List.getD_eq_getElem?_getD] at hw';simp[hw'];exact hf ⟨i,hw⟩
theorem M6 {α:Type} {l:List α} {i:Nat} {z:α} (h:l.length≤i):l.getD i z=z:=by rw[List.getD_eq_getElem?_getD,List.getElem?_eq_none h];rfl
theorem gR {u:T} (hw:BH u) (i:Nat):BH (u.kids.getD i T0):=by
 by_cases hi':i<u.kids.length
 ·have e:u.kids.getD i T0=u.kids[i]:=by simp[List.getD_eq_getElem?_getD,hi']
  rw[e];exact(wfT_iff.1 hw).ks _ (Bg hi')
 ·have e:u.kids.getD i T0=T0:=by rw[List.getD_eq_getElem?_getD,List.getElem?_eq_none (by simpa using hi')];rfl
  rw[e];exact wfT_iff.2 ⟨by simp[B9],by simp,by simp,by simp,by simp⟩
def EqG (t:T):Prop:=∀ u:T,BH t→BH u→G.Spec Tryz.prog 59 [tX t,tX u] (bv (LK t u))
theorem lr {k:Int} {w:List Int} {a:List T} {u:T} (h0:k ≠ 0):LK (.mk k w a) u=true ↔ k=u.kind∧(k=1∨(a.length=u.kids.length∧w=u.words))∧(∀ i,w.getD i 0=u.words.getD i 0)∧∀ i,Ah (a.getD i T0)=Ah (u.kids.getD i T0):=by
 rw[eqT_iff];obtain⟨k',w',b⟩:=u;by_cases hk:k=k';rotate_left
 ·constructor
  ·intro h;have:=congrArg T.kind h;simp at this;exact absurd this hk
  ·intro h;exact absurd h.1 hk
 subst hk;by_cases h1:k=1
 ·subst h1;rw[struct_eq];simp
 rw[Xq h0 h1];constructor
 ·rintro⟨rfl,h⟩;have hl:a.length=b.length:=by simpa using congrArg List.length h
  exact⟨rfl,.inr ⟨hl,rfl⟩,fun i=>rfl,(Zb hl).1 h⟩
 ·rintro⟨_,h,_,h3⟩;rcases h with h | ⟨hl,rfl⟩
  ·exact absurd h h1
  ·exact⟨rfl,(Zb hl).2 h3⟩
theorem zr {t u:T} {n:Nat} (hn:n≤100000000000000) (hw:BH t) (hwu:BH u) (hk:∀ i,i<n→EqG (t.kids.getD i T0)) {H:Hp} (h0:H [0]=⟨1,.cells (tL t)⟩) (h1:H [1]=⟨1,.cells (tL u)⟩)
  (hq:(∀ i,i<n→Ah (t.kids.getD i T0)=Ah (u.kids.getD i T0))→∀ (q:Bool),Q (.exit 2) ⟨lk [(2,.pob [0] 1 0),(3,.pob [1] 1 0),(66,iv n),(67,iv n),(68,bv q)],H⟩)
  (hf:(∃ i,Ah (t.kids.getD i T0) ≠ Ah (u.kids.getD i T0))→Q .ret ⟨lk [(4,bv false)],H⟩) :
  ∀ (j i:Nat),i+j=n→(∀ i',i'<i→Ah (t.kids.getD i' T0)=Ah (u.kids.getD i' T0)) →
  LoopC (cx Tryz.prog w0 I0 n0) IK Q ⟨lk [(2,.pob [0] 1 0),(3,.pob [1] 1 0),(66,iv n),(67,iv i)],H⟩:=by
 intro j;induction j with
 |zero=>
  intro i hi he;have:i=n:=by omega
  subst this;refine Ab Ai IK.eq_1 ?_;simp;exact hq he _
 |succ j ih=>
  intro i hi he;have hlt:i<n:=by omega
  have ei:=Av i;have hrec:=hk i hlt (u.kids.getD i T0) (gR hw i) (gR hwu i);refine Ab Ai IK.eq_1 ?_;simp[hlt,h0,h1];refine Ae (JR t i) (by simp) ?_;simp[h0,h1];refine Ae (JR u i) (by simp) ?_;simp[h0,h1];refine Ae hrec (by simp) ?_;cases hb:LK (t.kids.getD i T0) (u.kids.getD i T0) with
  |true=>
   simp[ei];refine ih (i+1) (by omega) (fun i' hi'=>?_);by_cases e:i'=i
   ·rw[e];exact eqT_iff.1 hb
   ·exact he i' (by omega)
  |false=>
   simp;exact hf ⟨i,fun e=>by rw[eqT_iff.2 e] at hb;cases hb⟩
set_option maxRecDepth 8000 in
theorem vN:∀ t:T,EqG t:=by
 refine T.ind fun k w ks ih u hw hwu=>?_;have hw':=wfT_iff.1 hw;have hu':=wfT_iff.1 hwu;have hwl:=hw'.wl;have hkl:=hw'.kl;have hul:=hu'.wl;have huk:=hu'.kl;simp only[T.words_mk,T.kids_mk] at hwl hkl;have hk0:∀ i,EqG ((T.mk k w ks).kids.getD i T0):=fun i=>by
  by_cases hi:i<ks.length
  ·have e:(T.mk k w ks).kids.getD i T0=ks[i]:=by simp[List.getD_eq_getElem?_getD,hi]
   rw[e];exact ih _ (Bg hi)
  ·have e:(T.mk k w ks).kids.getD i T0=T0:=M6 (by simpa using hi);rw[e];intro u _ _;exact U4 (.inr rfl)
 by_cases hkk:k ≠ u.kind∨k=0
 ·exact U4 hkk
 have h1:k=u.kind:=by omega
 have h0:¬ u.kind=0:=by omega
 simp only[T.kids_mk] at hk0;have yes:(k=1∨(ks.length=u.kids.length∧w=u.words))→(∀ i,w.getD i 0=u.words.getD i 0)→(∀ i,Ah (ks.getD i T0)=Ah (u.kids.getD i T0))→LK (.mk k w ks) u=true:=fun a b c=>(lr (by omega)).2 ⟨h1,a,b,c⟩;have no:¬ ((k=1∨(ks.length=u.kids.length∧w=u.words))∧(∀ i,w.getD i 0=u.words.getD i 0)∧(∀ i,Ah (ks.getD i T0)=Ah (u.kids.getD i T0)))→LK (.mk k w ks) u=false:=fun h=>by
  rw[Bool.eq_false_iff];intro e;exact h ((lr (by omega)).1 e).2
 obtain⟨N,hN⟩:∃ N:Nat,N=max w.length u.words.length:=⟨_,rfl⟩;obtain⟨M,hM⟩:∃ M:Nat,M=max ks.length u.kids.length:=⟨_,rfl⟩;have eN:max (w.length:Int) (u.words.length:Int)=(N:Int):=by omega
 have eM:max (ks.length:Int) (u.kids.length:Int)=(M:Int):=by omega
 refine Aj RX (by simp) fun w0 I0=>?_;have main:(k=1∨(ks.length=u.kids.length∧w=u.words))→WPC (cx Tryz.prog w0 I0 79) Ma (TS Tryz.prog [.tmp 4] (bv (LK (.mk k w ks) u))) ⟨lk [(2,.pob [0] 1 0),(3,.pob [1] 1 0)],EH [([0],⟨1,.cells [iv k,Dz w,Bm ks]⟩),([1],⟨1,.cells [iv u.kind,Dz u.words,Bm u.kids]⟩)]⟩:=fun hc=>by
  rw[Ma.eq_1];simp[eN];refine od (t:=.mk k w ks) (u:=u) (by omega) (by simp) (by simp) (fun he q=>?_) (fun hf=>?_) N 0 (by omega) (fun i hi=>by omega)
  ·have heq:∀ i,w.getD i 0=u.words.getD i 0:=fun i=>by
    by_cases hi:i<N
    ·exact he i hi
    ·rw[M6 (by omega),M6 (by omega)]
   simp[eM];refine zr (t:=.mk k w ks) (u:=u) (by omega) hw hwu (fun i _=>hk0 i) (by simp) (by simp) (fun he2 q=>?_) (fun hf=>?_) M 0 (by omega) (fun i hi=>by omega)
   ·simp;refine Bc (yes hc heq fun i=>?_).symm;by_cases hi:i<M
    ·exact he2 i hi
    ·rw[M6 (by omega),M6 (by omega)]
   ·simp;refine Bc (no fun h=>?_).symm;obtain⟨i,hi⟩:=hf;exact hi (h.2.2 i)
  ·simp;refine Bc (no fun h=>?_).symm;obtain⟨i,hi⟩:=hf;exact hi (h.2.1 i)
 unfold Nf;by_cases k1:k=1
 ·have u1:u.kind=1:=by omega
  have hm:=main (.inl k1);rw[u1] at hm;subst k1;simp[u1];refine AY rfl ?_;simp;exact CQ hm
 ·have u1:¬ u.kind=1:=by omega
  by_cases hl:ks.length=u.kids.length
  ·have hl':(ks.length:Int)=u.kids.length:=by omega
   simp[h1,h0,u1,hl'];refine B0 rfl (fun _=>fI w u.words (by omega)) (fun _=>rfl) rfl ?_;by_cases hww:w=u.words
   ·simp[hww];have:=main (.inr ⟨hl,hww⟩);rw[h1,hww] at this;exact CQ this
   ·simp[hww];refine Bc ?_;rw[← h1];refine(no fun h=>?_).symm;rcases h.1 with h | h
    ·exact k1 h
    ·exact hww h.2
  ·have hl':¬ (ks.length:Int)=u.kids.length:=by omega
   simp[h1,h0,u1,hl,hl'];refine AY rfl ?_;simp;refine Bc ?_;rw[← h1];exact(no fun h=>by
    rcases h.1 with h | h
    ·exact k1 h
    ·exact hl h.1).symm
theorem Xi {t u:T} (hw:BH t) (hwu:BH u):G.Spec Tryz.prog 59 [tX t,tX u] (bv (LK t u)):=vN t u hw hwu
def yr (v:Nat) (l:List T):Fam:=⟨fun r p=>if p=[] then ⟨1,.cells [.osl (r::[0]) v 3 0 l.length]⟩ else if p=[0] then ⟨v,.arr 3 (l.map tA)⟩ else ⟨0,.none⟩,fun {γ δ r r'} hg hd p=>by
  by_cases h1:p=[]
  ·rw[if_pos h1,if_pos h1];refine Fam.cells_ren ?_;simp[A.renL,A.ren,hg,hd]
  ·rw[if_neg h1,if_neg h1];by_cases h2:p=[0]
   ·rw[if_pos h2];exact Fam.arr_ren ((FamL.all av).ren hg hd)
   ·rw[if_neg h2];rfl,fun {D r} hD p=>by
  by_cases h1:p=[]
  ·rw[if_pos h1];simp[Ob.refs,A.refsL,A.refs,hD]
  ·rw[if_neg h1];by_cases h2:p=[0]
   ·rw[if_pos h2];exact(FamL.all av).refs hD
   ·rw[if_neg h2];trivial⟩
@[simp] theorem Ai9 {v:Nat} {l:List T} {r:Nat} {p:Nm}:(yr v l).F r p=if p=[] then ⟨1,.cells [.osl (r::[0]) v 3 0 l.length]⟩ else if p=[0] then ⟨v,.arr 3 (l.map tA)⟩ else ⟨0,.none⟩:=rfl
noncomputable def ofU (v:Nat) (ks:List T) (t:T):Nat:=if FX ks t<ks.length then v else v+1
noncomputable def Ws:Nat→List T→List T→Nat
 |v,_,[]=>v
 |v,ks,t::l=>Ws (ofU v ks (Ah t)) (JO ks (Ah t)) l
theorem U3:∀ (l:List T) (u:Nat) (ks:List T) (t:T),Ws u ks (l++[t])=ofU (Ws u ks l) (Br ks l).1 (Ah t)
 |[],u,ks,t=>by simp[Ws,Br]
 |a::l,u,ks,t=>by simp[Ws,Br,U3 l]
theorem rC {ks:List T} {n:T} (h:∀ k,k ∈ ks→Ah k=k) (hn:Ah n=n):∀ k,k ∈ JO ks n→Ah k=k:=by
 unfold JO;split
 ·exact h
 ·intro k hk;rcases List.mem_append.1 hk with hk | hk
  ·exact h k hk
  ·simp at hk;subst hk;exact hn
theorem Xl:∀ {l ks:List T},(∀ k,k ∈ ks→Ah k=k)→∀ k,k ∈ (Br ks l).1→Ah k=k
 |[],ks,h=>h
 |t::l,ks,h=>Xl (l:=l) (rC h (Ka t))
section
variable {n0:Nat} {w0:World} {I0:Nat→Prop} {M0:Nm→Nat→Prop} {m0:Mu} {Q:Exit→Sta→Prop}
theorem Ae8 {ks:List T} (hw:∀ k,k ∈ ks→BH k) (hn:∀ k,k ∈ ks→Ah k=k) (hl:ks.length≤1000000) {t:T} (wt:BH t) (nt:Ah t=t) {v w i N y:Nat} {na:Nat} {acc:List Nat} (hna:na=acc.length) (hacc:acc.length≤1000000) {X:A}
  (hq:FX ks t=ks.length→∀ (st:List (Nat × A)) (H':Hp),(∀ p,H' (0::p)=(yr v ks).F 0 p)→H' [1]=⟨y,.cells (tL t)⟩→H' [3]=⟨w,.arr 1 (acc.map nv)⟩→Q (.exit 2) ⟨lk ([(0,.pob [0] 1 0),(5,.osl [3] w 1 0 na),(7,.pob [1] y 0),(10,X),(11,iv N),(12,iv i)]++st),H'⟩)
  (hq2:FX ks t<ks.length→∀ (H':Hp),(∀ p,H' (0::p)=(yr v ks).F 0 p)→H' [3]=⟨w+1,.arr 1 ((acc++[FX ks t]).map nv)⟩→Q (.exit 1) ⟨lk [(0,.pob [0] 1 0),(5,.osl [3] (w+1) 1 0 (na+1)),(10,X),(11,iv N),(12,iv i)],H'⟩) :
  ∀ (m j:Nat) (H:Hp),j+m=ks.length→(∀ (x:Nat) (hx:x<j) (h:x<ks.length),ks[x] ≠ t)→(∀ p,H (0::p)=(yr v ks).F 0 p)→H [1]=⟨y,.cells (tL t)⟩→H [3]=⟨w,.arr 1 (acc.map nv)⟩ →
  LoopC (DG Tryz.prog w0 I0 M0 n0 m0) E5 Q ⟨lk [(0,.pob [0] 1 0),(5,.osl [3] w 1 0 na),(7,.pob [1] y 0),(10,X),(11,iv N),(12,iv i),(19,.osl [0,0] v 3 0 ks.length),(20,iv ks.length),(21,iv j)],H⟩:=by
 subst hna;intro m;induction m with
 |zero=>
  intro j H hj hb hF h1 h3;have:j=ks.length:=by omega
  subst this;refine Ab Ai E5.eq_1 ?_;simp;exact hq (Uk fun hm=>by
   obtain⟨x,hx,e⟩:=List.mem_iff_getElem.1 hm;exact hb x hx hx e) [(19,.osl [0,0] v 3 0 ks.length),(20,iv ks.length),(21,iv ks.length),(22,bv false)] H hF h1 h3
 |succ m ih=>
  intro j H hj hb hF h1 h3;have hlt:j<ks.length:=by omega
  have ew:=Av j;have hF1:=hF [0];simp at hF1;have hk:=Bg hlt;refine Ab Ai E5.eq_1 ?_;simp[hlt,hF1,h1,Aa];refine Ae (Xi (hw _ hk) wt) (by simp) ?_;have hE:LK ks[j] t=HA ks[j] t:=by unfold LK;rw[hn _ hk,nt]
  rw[hE];by_cases he:ks[j]=t
  ·have hc:=Wu hlt he fun x hx=>hb x hx (by omega);have hs:HA ks[j] t=true:=sameB_iff.2 he;rw[hc] at hq2;simp[hs,Aa,h3];refine⟨by omega,?_⟩;simp[BD];exact hq2 hlt _ (fun p=>by simp[Aa,hF]) (by simp[Aa,AL])
  ·have hs:HA ks[j] t=false:=by rw[Bool.eq_false_iff];exact fun h=>he (sameB_iff.1 h)
   simp[hs,ew];refine ih (j+1) _ (by omega) (fun x hx h=>?_) (fun p=>by simp[Aa,hF]) (by simp[Aa,h1]) (by simp[Aa,h3]);by_cases e:x=j
   ·subst e;exact he
   ·exact hb x (by omega) h
theorem AcP {ks0 ts:List T} (hw:∀ k,k ∈ ks0→BH k) (hn:∀ k,k ∈ ks0→Ah k=k) (ht:∀ k,k ∈ ts→BH k) (htn:∀ k,k ∈ ts→Ah k=k) (hl:ks0.length+ts.length≤1000000) {v0:Nat}
  (hq:∀ (st:List (Nat × A)) (H':Hp),(∀ p,H' (0::p)=(yr (Ws v0 ks0 ts) (Br ks0 ts).1).F 0 p)→H' [3]=⟨ts.length+1,.arr 1 ((Br ks0 ts).2.map nv)⟩→Q (.exit 0) ⟨lk ([(0,.pob [0] 1 0),(5,.osl [3] (ts.length+1) 1 0 ts.length)]++st),H'⟩) :
  ∀ (m i:Nat) (H:Hp),i+m=ts.length→(∀ p,H (0::p)=(yr (Ws v0 ks0 (ts.take i)) (Br ks0 (ts.take i)).1).F 0 p)→H [3]=⟨i+1,.arr 1 ((Br ks0 (ts.take i)).2.map nv)⟩ →
  LoopC (DG Tryz.prog w0 I0 M0 n0 m0) ES Q ⟨lk [(0,.pob [0] 1 0),(5,.osl [3] (i+1) 1 0 i),(10,Bm ts),(11,iv ts.length),(12,iv i)],H⟩:=by
 intro m;induction m with
 |zero=>
  intro i H hi hF h3;have:i=ts.length:=by omega
  subst this;rw[AL (BZ _)] at hF h3;refine Ab Ai ES.eq_1 ?_;simp;exact hq [(10,Bm ts),(11,iv ts.length),(12,iv ts.length),(13,bv false)] H hF h3
 |succ m ih=>
  intro i H hi hF h3;have hlt:i<ts.length:=by omega
  have ew:=Av i;have htk:ts.take (i+1)=ts.take i++[ts[i]]:=Fm hlt;have hti:=Bg hlt;have nt:=htn _ hti;have hlen:=OS (ts.take i) ks0;rw[List.length_take,Nat.min_eq_left (by omega)] at hlen;have hkw:=R5 hw (l:=ts.take i) fun k hk=>ht k (Oh hk);have hkn:=Xl hn (l:=ts.take i) ;have hlL:(Br ks0 (ts.take i)).2.length=i:=by rw[BA,List.length_take,Nat.min_eq_left (by omega)]
  have ihn:=ih (i+1);rw[htk,U3,LX,nt] at ihn;simp only at ihn;have hF0:=hF [];have hF1:=hF [0];simp at hF0 hF1;generalize hv:Ws v0 ks0 (ts.take i)=v at *;generalize hL:(Br ks0 (ts.take i)).2=L at *;generalize hK:(Br ks0 (ts.take i)).1=K at *;refine Ab Ai ES.eq_1 ?_;simp[hlt,hF0,Aa];refine LoopC.le (Ao [(0,.pob [0] 1 0),(5,.osl [3] (i+1) 1 0 i),(7,.pob [1] ((H [1]).u+1) 0),(10,Bm ts),(11,iv ts.length),(12,iv i),(19,.osl [0,0] v 3 0 K.length),(20,iv K.length),(21,iv (0:Nat))] (by simp)) ?_;refine Ae8 hkw hkn (by omega) (ht _ hti) nt (v:=v) (w:=i+1) (i:=i) (N:=ts.length) (acc:=L) hlL.symm (by omega) (X:=Bm ts) (y:=(H [1]).u+1) (fun hc st H' g0 g1 g3=>?_) (fun hc H' g0 g3=>?_) K.length 0 _ (by omega) (fun x hx=>by omega) (fun p=>by simp[hF,Aa]) (by simp[Aa]) (by simp[Aa,h3])
  ·have g00:=g0 [];have g01:=g0 [0];simp at g00 g01;rw[hc] at ihn;have hcK:JO K ts[i]=K++[ts[i]]:=by unfold JO;rw[if_neg (by omega)]
   have hcU:ofU v K ts[i]=v+1:=by unfold ofU;rw[if_neg (by omega)]
   rw[hcK,hcU] at ihn;simp[BD,g00,g01,g1,g3,hlL,Aa];refine⟨by omega,by omega,by omega,?_⟩;rw[ew];refine ihn _ (by omega) (fun p=>?_) (by simp[Aa,hlL,AL]);by_cases h1:p=[]
   ·subst h1;simp[Aa]
   ·by_cases h2:p=[0]
    ·subst h2;simp[Aa,AL]
    ·simp[h1,h2,Aa,g0]
  ·have hcK:JO K ts[i]=K:=by unfold JO;rw[if_pos hc]
   have hcU:ofU v K ts[i]=v:=by unfold ofU;rw[if_pos hc]
   rw[hcK,hcU] at ihn;simp[BD,ew];exact ihn _ (by omega) g0 g3
end
theorem WK {ks ts:List T} (hw:∀ k,k ∈ ks→BH k) (hn:∀ k,k ∈ ks→Ah k=k) (ht:∀ k,k ∈ ts→BH k) (htn:∀ k,k ∈ ts→Ah k=k) (hl:ks.length+ts.length≤1000000) (v:Nat) :
  Bh Tryz.prog 118 (fun r=>[.pob [r] 1 0,Bm ts]) (yr v ks) (fun r=>.sl false ((Br ks ts).2.map nv)) (yr (Ws v ks ts) (Br ks ts).1):=by
 refine MS Tk (by simp) (Af AJ (Af Dl Am)) Dl fun w0 I0 M0 m0 hM=>?_;unfold Lz;simp;refine LoopC.le (Cd 5 [3] 1 (by simp)) ?_;refine LoopC.le (Ao [(0,.pob [0] 1 0),(5,.osl [3] (0+1) 1 0 0),(10,Bm ts),(11,iv ts.length),(12,iv (0:Nat))] (by simp[upd])) ?_;refine AcP hw hn ht htn hl (v0:=v) (fun st H' g0 g3=>?_) ts.length 0 _ (by omega) (fun p=>?_) ?_
 ·simp;obtain⟨H2,k1,k2⟩:=QS (c:=DG Tryz.prog w0 I0 M0 55 m0) (s:=lk [(5,.osl [3] (ts.length+1) 1 0 ts.length)]) (H:=H') (fun r=>1≤r) (fun r p b hr=>hM r p b hr) 5 (.sl false ((Br ks ts).2.map nv)) (fun H1 e1=>by
   have e2:H1 [3]=H' [3]:=e1 3 [] (by omega);simp;exact Bx (o:=[3]) (u:=ts.length+1) (n:=ts.length) (sz:=1) (l:=(Br ks ts).2) (f:=nv) (by rw[e2,g3];simp) (BA ts ks).symm (fun x=>rfl))
  refine Cm k1 (CQ ?_);simp[upd];exact AM rfl rfl fun p=>(k2 0 p (by omega)).trans (g0 p)
 ·simp[Br,Ws]
 ·simp[Br]
end Go.Proofs.YtbjmaoedheiigaaGreat
namespace Go.PL
def Og:List Int→List Int→Nat
 |a::l,b::m=>(if a=b then 1 else 0)+Og l m
 |_,_=>0
noncomputable def VU:List T→List T→Nat
 |a::l,b::m=>(if LK a b=true then 1 else 0)+VU l m
 |_,_=>0
noncomputable def EZ (a b:T):Nat:=if a.kind ≠ b.kind∨a.kind=0∨a.kind=10 then 0 else 1+Og a.words b.words+VU a.kids b.kids
theorem mh {l m:List Int} {i:Nat} (h1:i<l.length) (h2:i<m.length):Og (l.drop i) (m.drop i)=(if l[i]=m[i] then 1 else 0)+Og (l.drop (i+1)) (m.drop (i+1)):=by
 rw[(List.getElem_cons_drop h1).symm,(List.getElem_cons_drop h2).symm,Og]
theorem lK {l m:List T} {i:Nat} (h1:i<l.length) (h2:i<m.length):VU (l.drop i) (m.drop i)=(if LK l[i] m[i]=true then 1 else 0)+VU (l.drop (i+1)) (m.drop (i+1)):=by
 rw[(List.getElem_cons_drop h1).symm,(List.getElem_cons_drop h2).symm,VU]
theorem dT {l m:List Int} {i:Nat} (h:i=min l.length m.length):Og (l.drop i) (m.drop i)=0:=by
 by_cases h1:i=l.length
 ·rw[List.drop_eq_nil_of_le (by omega:l.length≤i)];cases m.drop i<;>rfl
 ·rw[List.drop_eq_nil_of_le (by omega:m.length≤i)];cases l.drop i<;>rfl
theorem gZ {l m:List T} {i:Nat} (h:i=min l.length m.length):VU (l.drop i) (m.drop i)=0:=by
 by_cases h1:i=l.length
 ·rw[List.drop_eq_nil_of_le (by omega:l.length≤i)];cases m.drop i<;>rfl
 ·rw[List.drop_eq_nil_of_le (by omega:m.length≤i)];cases l.drop i<;>rfl
theorem Xg:∀ l m,Og l m≤l.length
 |[],_=>by simp[Og]
 |_::_,[]=>by simp[Og]
 |a::l,b::m=>by
  have:=Xg l m;unfold Og;simp;split<;>omega
end Go.PL
namespace Go.PL
open List
def Fx (o:List Sc) (b:Sc) (l:List Sc):Sc:=l.foldl (fun b y=>if b.n<y.n∧Cp o y=true then y else b) b
def bef (a b:Sc):Prop:=a.i<b.i∨(a.i=b.i∧a.j<b.j)
theorem dN {o:List Sc}:∀ (l p:List Sc) (b:Sc),(p++l).Pairwise bef→(∀ y,y ∈ p++l→0<y.n)→((b=sc0∧∀ y,y ∈ p→Cp o y=false)∨j9 p o b) →
  ((Fx o b l=sc0∧∀ y,y ∈ p++l→Cp o y=false)∨j9 (p++l) o (Fx o b l))
 |[],p,b,_,_,h=>by simpa[Fx] using h
 |x::l,p,b,hs,hn,h=>by
  have hx:=hn x (by simp);have hbx:∀ y,y ∈ p→bef y x:=fun y hy=>by
   rw[List.pairwise_append] at hs;exact hs.2.2 y hy x (by simp)
  have hst:Fx o b (x::l)=Fx o (if b.n<x.n∧Cp o x=true then x else b) l:=rfl;have:=dN (o:=o) l (p++[x]) (if b.n<x.n∧Cp o x=true then x else b) (by simpa using hs) (by simpa using hn) ?_
  ·rw[hst];simpa using this
  ·by_cases hf:Cp o x=true
   ·rcases h with ⟨rfl,h⟩ | h
    ·rw[if_pos ⟨by simpa[sc0] using hx,hf⟩];refine .inr ⟨by simp,hf,fun y hy hyf=>?_⟩;rcases List.mem_append.1 hy with hy | hy
     ·rw[h y hy] at hyf;cases hyf
     ·simp at hy;subst hy;exact Mr _
    ·by_cases hl:b.n<x.n
     ·rw[if_pos ⟨hl,hf⟩];refine .inr ⟨by simp,hf,fun y hy hyf=>?_⟩;rcases List.mem_append.1 hy with hy | hy
      ·have:=h.2.2 y hy hyf;unfold Bs at this ⊢;simp at this ⊢;omega
      ·simp at hy;subst hy;exact Mr _
     ·rw[if_neg (fun k=>hl k.1)];refine .inr ⟨by simp[h.1],h.2.1,fun y hy hyf=>?_⟩;rcases List.mem_append.1 hy with hy | hy
      ·exact h.2.2 y hy hyf
      ·simp at hy;subst hy;have:=hbx b h.1;unfold bef at this;unfold Bs;simp;omega
   ·rw[if_neg (fun k=>hf k.2)];rcases h with ⟨rfl,h⟩ | h
    ·refine .inl ⟨rfl,fun y hy=>?_⟩;rcases List.mem_append.1 hy with hy | hy
     ·exact h y hy
     ·simp at hy;subst hy;simpa using hf
    ·refine .inr ⟨by simp[h.1],h.2.1,fun y hy hyf=>?_⟩;rcases List.mem_append.1 hy with hy | hy
     ·exact h.2.2 y hy hyf
     ·simp at hy;subst hy;exact absurd hyf hf
theorem T6 {i:Nat}:∀ {r:List Int} {j:Nat},(Dr i j r).Pairwise bef
 |[],j=>by simp[Dr]
 |n::r,j=>by
  unfold Dr;split
  ·rw[List.pairwise_cons];refine⟨fun y hy=>?_,T6⟩;obtain⟨h1,_,_,h4,_⟩:=TB hy;exact .inr ⟨h1.symm,by simp;omega⟩
  ·exact T6
theorem Kb:∀ {rs:List (List Int)} {i:Nat} {x:Sc},x ∈ CT i rs→i≤x.i∧x.i<16∧x.j<16∧0<x.n∧∃ r,rs[x.i-i]? = some r∧r[x.j]? = some x.n
 |[],i,x,h=>by simp[CT] at h
 |r::rs,i,x,h=>by
  unfold CT at h;rcases List.mem_append.1 h with h | h
  ·obtain⟨h1,h2,h3,h4,h5,h6,h7⟩:=TB h;exact⟨by omega,by omega,h3,h7,r,by rw[h1];simp,by simpa using h6⟩
  ·obtain⟨h1,h2,h3,h4,r',h5,h6⟩:=Kb h;refine⟨by omega,h2,h3,h4,r',?_,h6⟩;rw[show x.i-i=(x.i-(i+1))+1 by omega];simpa using h5
theorem Zu:∀ {rs:List (List Int)} {i:Nat},(CT i rs).Pairwise bef
 |[],i=>by simp[CT]
 |r::rs,i=>by
  unfold CT;rw[List.pairwise_append];refine⟨T6,Zu,fun x hx y hy=>?_⟩;have h1:=(TB hx).1;have h2:=(Kb hy).1;exact .inl (by omega)
theorem W4 {rs:List (List Int)} {o:List Sc}:(Fx o sc0 (CT 0 rs)=sc0∧∀ y,y ∈ CT 0 rs→Cp o y=false)∨j9 (CT 0 rs) o (Fx o sc0 (CT 0 rs)):=by
 have:=dN (o:=o) (CT 0 rs) [] sc0 (by simpa using Zu) (by simpa using fun y hy=>(Kb hy).2.2.2.1) (.inl ⟨rfl,by simp⟩);simpa using this
end Go.PL
namespace Go.Proofs.YtbjmaoedheiigaaGreat
open Go Go.G Go.Proofs Go.PL
theorem UL (rs:List (List Int)):∃ o',Ks (CT 0 rs) [] o'∧o'.length≤16:=by
 obtain⟨o',h⟩:=pD (all:=CT 0 rs) (by have:=Pw (rs:=rs) (i:=0);omega);obtain⟨h1,h2⟩:=Hb h;refine⟨o',h,?_⟩;have hs:=Kt h1;rw[← hs.2.length_eq];have:=ZP (CP o') 0 16 hs.1 fun x hx=>⟨by omega,(Kb (h2 x (hs.2.subset hx))).2.1⟩;omega
noncomputable def KX (a b:List T):List (List Int):=a.map fun x=>b.map fun y=>(EZ x y:Int)
noncomputable def pkO (rs:List (List Int)):List Sc:=(UL rs).choose
noncomputable def YL (rs:List (List Int)):List Sc:=CP (pkO rs)
theorem b7 (rs:List (List Int)):Ks (CT 0 rs) [] (pkO rs)∧(pkO rs).length≤16:=(UL rs).choose_spec
def KY (one:T→T→E) (a b:List T):List Sc→Nat→Nat→List OP→List OP
 |[],i,j,out=>out++De (a.drop i)++Dn (b.drop j)
 |x::xs,i,j,out=>KY one a b xs (x.i+1) (x.j+1) (out++De ((a.take x.i).drop i)++Dn ((b.take x.j).drop j)++[.mk 3 0 [] (one (a.getD x.i T0) (b.getD x.j T0))])
noncomputable def D8 (one:T→T→E) (a b:List T):List OP:=KY one a b (YL (KX a b)) 0 0 []
def CX (gap:List T→List T→List OP):List Sp→List T→List T→List OP→List OP
 |[],_,_,out=>out
 |[s],a,b,out=>if s.k=0 then out++[.mk 0 s.n [] E0] else if s.k=2 then out++Dn (b.take s.n) else out++De (a.take s.n)
 |s::s2::ss,a,b,out=>
  if s.k=0 then CX gap (s2::ss) (a.drop s.n) (b.drop s.n) (out++[.mk 0 s.n [] E0])
  else if s.k=2 then CX gap (s2::ss) a (b.drop s.n) (out++Dn (b.take s.n))
  else if s2.k=2 then CX gap ss (a.drop s.n) (b.drop s2.n) (out++gap (a.take s.n) (b.take s2.n))
  else CX gap (s2::ss) (a.drop s.n) b (out++De (a.take s.n))
abbrev qE (l:List Nat):List Int:=l.map fun n:Nat=>(n:Int)
noncomputable def Mo (a:T):List Int:=qE (Br [] a.kids).2
noncomputable def Mp (a b:T):List Int:=qE (Br (Br [] a.kids).1 b.kids).2
noncomputable def JG (one:T→T→E) (most:Int) (a b:T):E:=
 .mk 3 T0 T0 [] [] a.kind (if (B7 (Mo a) (Mp a b):Int)≤most then CX (D8 one) (Il (GG (Mo a) (Mp a b))) a.kids b.kids [] else D8 one a.kids b.kids)
def D6 (a b:T) (m:Nat):List WE:=(List.range m).filterMap fun i=>if K5 (a.words.getD i 0) (b.words.getD i 0)=0 then none else some (wdE i (a.words.getD i 0) (b.words.getD i 0))
def BW (one:T→T→E) (a b:T) (m:Nat):List KE:=(List.range m).filterMap fun i=>if (one (a.kids.getD i T0) (b.kids.getD i T0)).kind=0 then none else some (.mk i (one (a.kids.getD i T0) (b.kids.getD i T0)))
def UG (one:T→T→E) (a b:T):E:=.mk 2 T0 T0 (D6 a b (max a.words.length b.words.length)) (BW one a b (max a.kids.length b.kids.length)) 0 []
noncomputable def MR (most:Int):Nat→T→T→E
 |0,a,b=>if LK a b=true then E0 else .mk 1 a b [] [] 0 []
 |f+1,a,b=>if LK a b=true then E0 else if a.kind=1∧b.kind=1 then UG (MR most f) a b else if a.kind=b.kind∧2≤a.kind∧a.kind≤9 then JG (MR most f) most a b else .mk 1 a b [] [] 0 []
def dA (us:List Nat):Nat:=us.countP fun x=>x != 2
def dB (us:List Nat):Nat:=us.countP fun x=>x != 1
theorem Eg (n k:Nat):dA (List.replicate n k)=if k=2 then 0 else n:=by unfold dA;rw[List.countP_replicate];by_cases h:k=2<;>simp[h]
theorem D7 (n k:Nat):dB (List.replicate n k)=if k=1 then 0 else n:=by unfold dB;rw[List.countP_replicate];by_cases h:k=1<;>simp[h]
theorem DD (a b:List Nat):dA (a++b)=dA a+dA b:=List.countP_append
theorem DF (a b:List Nat):dB (a++b)=dB a+dB b:=List.countP_append
theorem cr:∀ (us:List Nat) (k d i:Nat),(∀ x,x ∈ us→x≤2)→dA (AO (RQ us k d i))=k+d+dA us∧dB (AO (RQ us k d i))=k+i+dB us
 |[],k,d,i,_=>by
  simp only[RQ,PE,fQ,DD,DF,Eg,D7];simp[dA,dB]
 |x::us,k,d,i,h=>by
  have hx:=h x (by simp);have hu:∀ y,y ∈ us→y≤2:=fun y hy=>h y (by simp[hy]);have e1:dA (x::us)=(if x=2 then 0 else 1)+dA us:=by
   have:=DD [x] us;rw[show [x]=List.replicate 1 x from rfl,Eg] at this;simpa using this
  have e2:dB (x::us)=(if x=1 then 0 else 1)+dB us:=by
   have:=DF [x] us;rw[show [x]=List.replicate 1 x from rfl,D7] at this;simpa using this
  rw[e1,e2,RQ];have hx3:x=0∨x=1∨x=2:=by omega
  rcases hx3 with rfl | rfl | rfl
  ·obtain⟨h1,h2⟩:=cr us (k+1) 0 0 hu;simp only[if_true,PE,fQ,DD,DF,Eg,D7,h1,h2];simp;omega
  ·obtain⟨h1,h2⟩:=cr us 0 (d+1) i hu;simp[DD,DF,Eg,D7,h1,h2];omega
  ·obtain⟨h1,h2⟩:=cr us 0 d (i+1) hu;simp[DD,DF,Eg,D7,h1,h2];omega
theorem Q7 (us:List Nat) (h:∀ x,x ∈ us→x≤2):dA (AO (Il us))=dA us∧dB (AO (Il us))=dB us:=by
 have:=cr us 0 0 0 h;unfold Il;omega
theorem Z9:∀ (us:List Nat) (k d i:Nat),(∀ x,x ∈ us→x≤2)→∀ s,s ∈ RQ us k d i→s.k≤2∧1≤s.n
 |[],k,d,i,_,s,hs=>by
  simp only[RQ,List.mem_append] at hs;rcases hs with hs | hs | hs<;>(unfold fl at hs;split at hs<;>simp at hs;subst hs;simp;omega)
 |x::us,k,d,i,h,s,hs=>by
  have hu:∀ y,y ∈ us→y≤2:=fun y hy=>h y (by simp[hy]);rw[RQ] at hs;have fin:∀ q n,q≤2→s ∈ fl q n→s.k≤2∧1≤s.n:=fun q n hq hs=>by
   unfold fl at hs;split at hs<;>simp at hs;subst hs;simp;omega
  split at hs
  ·simp only[List.mem_append] at hs;rcases hs with hs | hs | hs
   ·exact fin 1 _ (by omega) hs
   ·exact fin 2 _ (by omega) hs
   ·exact Z9 us _ _ _ hu s hs
  ·rw[List.mem_append] at hs;rcases hs with hs | hs
   ·exact fin 0 _ (by omega) hs
   ·split at hs
    ·exact Z9 us _ _ _ hu s hs
    ·exact Z9 us _ _ _ hu s hs
theorem xE (p q:Nat):∀ x,x ∈ Nv p q→x≤2:=by
 intro x hx;unfold Nv at hx;split at hx
 ·rcases List.mem_append.1 hx with h | h
  ·have:=List.eq_of_mem_replicate h;omega
  ·simp at h;omega
 ·simp at hx;omega
theorem y9 {p q:Nat} (h:p≤q):dA (Nv p q)=1∧dB (Nv p q)=q-p:=by
 unfold Nv;split
 ·rw[DD,DF,Eg,D7];simp[dA,dB];omega
 ·simp[dA,dB];omega
theorem Sq (a b:List Int):∀ x,x ∈ GG a b→x≤2:=by
 intro x hx;unfold GG at hx;rcases List.mem_append.1 hx with h | h
 ·obtain⟨i,_,hi⟩:=List.mem_flatMap.1 h;exact xE _ _ x hi
 ·have:=List.eq_of_mem_replicate h;omega
theorem lC (a b:List Int):∀ n,n≤a.length→dA ((List.range n).flatMap (fun i=>Nv (AW a b i) (AW a b (i+1))))=n∧dB ((List.range n).flatMap (fun i=>Nv (AW a b i) (AW a b (i+1))))=AW a b n
 |0,_=>by simp[dA,dB,Tg]
 |n+1,h=>by
  obtain⟨h1,h2⟩:=lC a b n (by omega);have hm:=R1 (a:=a) (b:=b) (i:=n) (h:=n+1) (by omega) h;obtain⟨g1,g2⟩:=y9 hm;rw[List.range_succ,List.flatMap_append,DD,DF,h1,h2];simp[g1,g2];omega
theorem WL (a b:List Int):dA (GG a b)=a.length∧dB (GG a b)=b.length:=by
 obtain⟨h1,h2⟩:=lC a b a.length (BZ _);have hl:=(FY (a:=a) (b:=b) (i:=a.length) (BZ _)).2.1;unfold GG;rw[DD,DF,h1,h2,Eg,D7];simp;omega
abbrev Vy (l:List Sc):A:=.sl false (l.map H7)
theorem vu {n0:Nat} {w0:World} {I0:Nat→Prop} {Q:Exit→Sta→Prop} {l:List Sc} {x:Sc} {H:Hp} (hl:l.length≤1000) (hq:Cp l x=true→∀ st,Q (.exit 0) ⟨lk st,H⟩) (hq2:Cp l x=false→Q .ret ⟨lk [(6,bv false)],H⟩):∀ (m i:Nat),i+m=l.length→Cp (l.drop i) x=Cp l x →
  LoopC (cx Tryz.prog w0 I0 n0) EM Q ⟨lk [(0,Vy l),(1,iv x.i),(2,iv x.j),(7,iv i)],H⟩:=by
 intro m;induction m with
 |zero=>
  intro i hm hf;refine Ab Ai EM.eq_1 ?_;have:¬ (i:Int)<l.length:=by omega
  simp[this];rw[List.drop_eq_nil_of_le (by omega)] at hf;exact hq hf.symm [(0,Vy l),(1,iv x.i),(2,iv x.j),(7,iv i),(11,bv false)]
 |succ m ih=>
  intro i hm hf;have hi:i<l.length:=by omega
  have e1:=Av i;have hd:l.drop i=l[i]::l.drop (i+1):=(List.getElem_cons_drop hi).symm;have hgo:V5 l[i] x=true→Cp (l.drop (i+1)) x=Cp l x:=fun h=>by rw[← hf,hd];unfold Cp;rw[List.all_cons,h,Bool.true_and]
  have hno:V5 l[i] x=false→Cp l x=false:=fun h=>by rw[← hf,hd];unfold Cp;rw[List.all_cons,h,Bool.false_and]
  have ih':=fun h=>ih (i+1) (by omega) (hgo h);refine Ab Ai EM.eq_1 ?_;unfold V5 at hgo hno ih';generalize hy:l[i]=y at hgo hno ih';by_cases h1:y.i<x.i<;>by_cases h2:y.j<x.j<;>by_cases h3:x.i<y.i<;>by_cases h4:x.j<y.j<;>first | omega | skip
  all_goals simp[h1,h2,h3,h4] at hno ih'
  all_goals simp[hi,hy,H7,Pz,h1,h2,h3,h4,e1]
  all_goals first | exact hq2 hno | exact ih' | skip
theorem pC (l:List Sc) (x:Sc) (hl:l.length≤1000):G.Spec Tryz.prog 268 [Vy l,iv x.i,iv x.j] (bv (Cp l x)):=by
 refine Aj Tw (by simp) fun w0 I0=>?_;unfold LS;simp;refine LoopC.le (Ao [(0,Vy l),(1,iv x.i),(2,iv x.j),(7,iv (0:Nat))] (by simp)) ?_;refine vu hl (fun h st=>?_) (fun h=>?_) l.length 0 (by omega) (by simp)
 ·simp[h];exact Ad rfl
 ·simp[h];exact Ad rfl
theorem wJ {n0:Nat} {w0:World} {I0:Nat→Prop} {Q:Exit→Sta→Prop} {rs:List (List Int)} {o:List Sc} (ho:o.length≤1000) {i:Nat} (hi:i<rs.length) (hi16:i<16) (hr:rs[i].length≤1000000):∀ (m j:Nat) (b:Sc) (H:Hp),rs[i].length=j+m→0≤b.n→H [1]=⟨1,.cells (Pz b)⟩→H [0]=⟨1,.cells [iv 0,iv 0]⟩ →
  (∀ (b':Sc) (H':Hp) (st:List (Nat × A)),b'=Fx o b (Dr i j (rs[i].drop j))→0≤b'.n→H' [1]=⟨1,.cells (Pz b')⟩→H' [0]=⟨1,.cells [iv 0,iv 0]⟩→Q (.exit 2) ⟨lk ([(0,L8 rs),(1,Vy o),(4,.pob [0] 1 0),(6,.pob [1] 1 0),(7,iv b'.n),(8,iv i)]++st),H'⟩) →
  LoopC (cx Tryz.prog w0 I0 n0) Ds Q ⟨lk [(0,L8 rs),(1,Vy o),(4,.pob [0] 1 0),(6,.pob [1] 1 0),(7,iv b.n),(8,iv i),(9,iv j)],H⟩:=by
 intro m;induction m with
 |zero=>
  intro j b H hm hb0 hH hH0 hq;refine Ab Ai Ds.eq_1 ?_;have:¬ (j:Int)<rs[i].length:=by omega
  have hd:rs[i].drop j=[]:=List.drop_eq_nil_of_le (by omega);rw[hd] at hq;simp[hi,show(i:Int)<rs.length by omega,this];exact hq b H [(9,iv j),(31,bv false)] rfl hb0 hH hH0
 |succ m ih=>
  intro j b H hm hb0 hH hH0 hq;have hj:j<rs[i].length:=by omega
  have hd:rs[i].drop j=rs[i][j]::rs[i].drop (j+1):=(List.getElem_cons_drop hj).symm;have e1:=Av j;have hfar:¬ j<16→Dr i j (rs[i].drop j)=[]:=fun h=>by
   have:=UE (i:=i) (r:=rs[i].drop j) (j:=j);exact List.eq_nil_of_length_eq_zero (by omega)
  refine Ab Ai Ds.eq_1 ?_;by_cases h16:j<16
  ·have hF:=pC o ⟨i,j,rs[i][j]⟩ ho;simp[hi,hj,show(i:Int)<rs.length by omega,show(j:Int)<rs[i].length by omega,h16,show(j:Int)<16 by omega];have hstep:Dr i j (rs[i].drop j)=if 0<rs[i][j] then ⟨i,j,rs[i][j]⟩::Dr i (j+1) (rs[i].drop (j+1)) else Dr i (j+1) (rs[i].drop (j+1)):=by
    rw[hd,Dr];simp[hi16,h16]
   have next:∀ (b2:Sc) (H2:Hp),0≤b2.n→H2 [1]=⟨1,.cells (Pz b2)⟩→H2 [0]=⟨1,.cells [iv 0,iv 0]⟩→Fx o b2 (Dr i (j+1) (rs[i].drop (j+1)))=Fx o b (Dr i j (rs[i].drop j))→LoopC (cx Tryz.prog w0 I0 n0) Ds Q ⟨lk [(0,L8 rs),(1,Vy o),(4,.pob [0] 1 0),(6,.pob [1] 1 0),(7,iv b2.n),(8,iv i),(9,iv (j+1:Nat))],H2⟩:=fun b2 H2 h0 q1 q2 he=>ih (j+1) b2 H2 (by omega) h0 q1 q2 (by rw[he];exact hq)
   by_cases h1:b.n<rs[i][j]
   ·rw[AU];simp[h1];refine Ae hF rfl ?_;cases hf:Cp o ⟨i,j,rs[i][j]⟩ with
    |true=>
     simp[hi,hj,show(i:Int)<rs.length by omega,show(j:Int)<rs[i].length by omega,h1,hH,e1];refine next ⟨i,j,rs[i][j]⟩ _ (by simp;omega) (by simp[Aa,Pz]) (by simp[Aa,hH0]) ?_
     rw[hstep,if_pos (by omega)];simp[Fx,h1,hf]
    |false=>
     simp[h1,e1];refine next b H hb0 hH hH0 ?_
     rw[hstep];split
     ·simp[Fx,hf]
     ·rfl
   ·rw[AU];simp[h1,e1];refine next b H hb0 hH hH0 ?_
    rw[hstep];split
    ·simp[Fx,h1]
    ·rfl
  ·simp[hi,show(i:Int)<rs.length by omega,show(j:Int)<rs[i].length by omega,show ¬ (j:Int)<16 by omega];exact hq b H [(9,iv j),(31,bv false)] (by rw[hfar h16];rfl) hb0 hH hH0
theorem w6 {n0:Nat} {w0:World} {I0:Nat→Prop} {Q:Exit→Sta→Prop} {rs:List (List Int)} {o:List Sc} (ho:o.length≤1000) (hrs:rs.length≤1000000) (hr:∀ r,r ∈ rs→r.length≤1000000):∀ (m i:Nat) (b:Sc) (H:Hp),rs.length=i+m→0≤b.n→H [1]=⟨1,.cells (Pz b)⟩→H [0]=⟨1,.cells [iv 0,iv 0]⟩ →
  (∀ (b':Sc) (H':Hp) (st:List (Nat × A)),b'=Fx o b (CT i (rs.drop i))→H' [1]=⟨1,.cells (Pz b')⟩→H' [0]=⟨1,.cells [iv 0,iv 0]⟩→Q (.exit 0) ⟨lk ([(0,L8 rs),(1,Vy o),(4,.pob [0] 1 0),(6,.pob [1] 1 0),(7,iv b'.n)]++st),H'⟩) →
  LoopC (cx Tryz.prog w0 I0 n0) Fa Q ⟨lk [(0,L8 rs),(1,Vy o),(4,.pob [0] 1 0),(6,.pob [1] 1 0),(7,iv b.n),(8,iv i)],H⟩:=by
 intro m;induction m with
 |zero=>
  intro i b H hm hb0 hH hH0 hq;refine Ab Ai Fa.eq_1 ?_;have:¬ (i:Int)<rs.length:=by omega
  have hd:rs.drop i=[]:=List.drop_eq_nil_of_le (by omega);rw[hd] at hq;simp[this];exact hq b H [(8,iv i),(18,bv false)] rfl hH hH0
 |succ m ih=>
  intro i b H hm hb0 hH hH0 hq;have hi:i<rs.length:=by omega
  have hd:rs.drop i=rs[i]::rs.drop (i+1):=(List.getElem_cons_drop hi).symm;have e1:=Av i;refine Ab Ai Fa.eq_1 ?_;by_cases h16:i<16
  ·simp[show(i:Int)<rs.length by omega,show(i:Int)<16 by omega];refine LoopC.le (Ao [(0,L8 rs),(1,Vy o),(4,.pob [0] 1 0),(6,.pob [1] 1 0),(7,iv b.n),(8,iv i),(9,iv (0:Nat))] (by simp)) ?_;refine wJ ho hi h16 (hr _ (Bg hi)) rs[i].length 0 b H (by omega) hb0 hH hH0 fun b' H' st hb' hn' q1 q0=>?_;simp[e1];refine ih (i+1) b' H' (by omega) hn' q1 q0 fun b2 H2 st2 hb2 r1 r0=>hq b2 H2 st2 ?_ r1 r0;rw[hb2,hb',hd,CT,Fx,Fx,Fx,List.foldl_append,List.drop_zero]
  ·have hz:CT i (rs.drop i)=[]:=List.eq_nil_of_length_eq_zero (by have:=Pw (rs:=rs.drop i) (i:=i);rw[show 16-i=0 by omega] at this;omega);simp[show(i:Int)<rs.length by omega,show ¬ (i:Int)<16 by omega];exact hq b H [(8,iv i),(18,bv false)] (by rw[hz];rfl) hH hH0
theorem ZG (rs:List (List Int)) (o:List Sc) (hl:o.length≤1000) (hrs:rs.length≤1000000) (hr:∀ r,r ∈ rs→r.length≤1000000):G.Spec Tryz.prog 250 [L8 rs,Vy o] (.tup [H7 (Fx o sc0 (CT 0 rs)),iv (Fx o sc0 (CT 0 rs)).n]):=by
 refine Aj Sz (by simp) fun w0 I0=>?_;unfold Lx;simp;refine LoopC.le (Ao [(0,L8 rs),(1,Vy o),(4,.pob [0] 1 0),(6,.pob [1] 1 0),(7,iv sc0.n),(8,iv (0:Nat))] (by simp[sc0])) ?_;refine w6 hl hrs hr rs.length 0 sc0 _ (by omega) (by simp[sc0]) (by simp[Aa,Pz,sc0]) (by simp[Aa]) fun b' H' st hb' q1 q0=>?_;rw[List.drop_zero] at hb';rw[← hb'];simp[q1,q0,Aa,Pz];exact Ad rfl
end Go.Proofs.YtbjmaoedheiigaaGreat
namespace Go.PL
open List
def VK (x:Sc):List Sc→Nat
 |[]=>0
 |y::l=>if y.i<x.i then VK x l+1 else 0
theorem uT (x:Sc):∀ l,VK x l≤l.length
 |[]=>by simp[VK]
 |y::l=>by
  have:=uT x l;unfold VK;split<;>simp<;>omega
theorem kT (x:Sc):∀ l,R3 x l=l.take (VK x l)++x::l.drop (VK x l)
 |[]=>by simp[R3,VK]
 |y::l=>by
  unfold R3 VK;split
  ·simp[kT x l]
  ·simp
theorem oc (o:List Sc) (x:Sc):CP (o++[x])=R3 x (CP o):=by simp[CP]
theorem pd {a b:List Sc} (h:a ~ b) (x:Sc):Cp a x=Cp b x:=by
 unfold Cp;rw[Bool.eq_iff_iff,List.all_eq_true,List.all_eq_true];exact⟨fun k y hy=>k y (h.symm.subset hy),fun k y hy=>k y (h.subset hy)⟩
theorem RK {a b:List Sc} (h:a ~ b):∀ (l:List Sc) (s:Sc),Fx a s l=Fx b s l
 |[],s=>rfl
 |y::l,s=>by
  have:=RK h l;unfold Fx at this ⊢;simp only[List.foldl_cons,pd h,this]
theorem sP {all o o':List Sc} (h:Ks all o o'):o <+: o':=by
 induction h with
 |done h=>exact List.prefix_rfl
 |step hx hp ih=>exact(List.prefix_append _ _).trans ih
end Go.PL
namespace Go.Proofs.YtbjmaoedheiigaaGreat
open Go Go.G Go.Proofs Go.PL
theorem pq {c:Cx} {s:Nat→A} {H:Hp} (t:Nat):Le c ⟨s,H⟩ ⟨upd s t (A.soft (s t)),H⟩:=fun a w I μ hs=>
 ⟨I,μ,hs.sim,hs.size,hs.defers,fun k=>by
  show Rel w I μ (upd s t (A.soft (s t)) k) _;unfold upd;split
  ·rename_i e;subst e;exact(hs.rel _).soft
  ·exact hs.rel k⟩
theorem zz {n0:Nat} {w0:World} {I0:Nat→Prop} {Q:Exit→Sta→Prop} {X:A} {l:List Sc} {x:Sc} {k u:Nat} {H:Hp} (hl:l.length≤1000) (hH:H [0]=⟨u,.cells (Pz x)⟩) (hq:∀ st,Q (.exit 2) ⟨lk ([(0,X),(3,Vy l),(4,iv k),(5,.pob [0] u 0),(7,.sl true []),(8,iv (VK x l))]++st),H⟩):∀ (m i:Nat),i+m=l.length→i+VK x (l.drop i)=VK x l →
  LoopC (cx Tryz.prog w0 I0 n0) EY Q ⟨lk [(0,X),(3,Vy l),(4,iv k),(5,.pob [0] u 0),(7,.sl true []),(8,iv i)],H⟩:=by
 intro m;induction m with
 |zero=>
  intro i hm hf;refine Ab Ai EY.eq_1 ?_;have:¬ (i:Int)<l.length:=by omega
  rw[List.drop_eq_nil_of_le (by omega)] at hf;have:i=VK x l:=by rw[← hf];rfl
  simp[show ¬ (i:Int)<l.length by omega];rw[this];exact hq [(35,bv false)]
 |succ m ih=>
  intro i hm hf;have hi:i<l.length:=by omega
  have e1:=Av i;have hd:l.drop i=l[i]::l.drop (i+1):=(List.getElem_cons_drop hi).symm;rw[hd,VK] at hf;refine Ab Ai EY.eq_1 ?_;by_cases h1:l[i].i<x.i
  ·rw[if_pos h1] at hf;simp[hi,hH,H7,Pz,h1,e1];exact ih (i+1) (by omega) (by omega)
  ·rw[if_neg h1] at hf;have:i=VK x l:=by rw[← hf];rfl
   simp[hi,hH,H7,Pz,h1,e1];rw[this];exact hq [(35,bv false)]
theorem zk {n0:Nat} {w0:World} {I0:Nat→Prop} {rs:List (List Int)} (hrs:rs.length≤1000000) (hr:∀ r,r ∈ rs→r.length≤1000000) {Q:Exit→Sta→Prop} {o o':List Sc} (h:Ks (CT 0 rs) o o') (hl:o'.length≤16) (ha:En o) (hq:∀ H,Q .ret ⟨lk [(2,Vy (CP o'))],H⟩):∀ (H:Hp),
  LoopC (cx Tryz.prog w0 I0 n0) EL Q ⟨lk [(0,L8 rs),(3,Vy (CP o)),(4,iv o.length)],H⟩:=by
 induction h with
 |@done o h=>
  intro H;have hsl:(CP o).length=o.length:=(Kt ha).2.length_eq;have hB:=ZG rs (CP o) (by omega) hrs hr;refine Ab Ai EL.eq_1 ?_;simp[show(o.length:Int)<17 by omega];refine Ae hB rfl ?_;have hb:Fx (CP o) sc0 (CT 0 rs)=sc0:=by
   rw[RK (Kt ha).2];rcases W4 (rs:=rs) (o:=o) with ⟨h,_⟩ | h'
   ·exact h
   ·have:=h _ h'.1;rw[h'.2.1] at this;cases this
  rw[hb];simp[sc0,H7,Pz];exact hq _
 |@step o x o' hx hp ih=>
  intro H;have hol:=(sP hp).length_le;simp at hol;have hsl:(CP o).length=o.length:=(Kt ha).2.length_eq;have hB:=ZG rs (CP o) (by omega) hrs hr;refine Ab Ai EL.eq_1 ?_;simp[show(o.length:Int)<17 by omega];refine Ae hB rfl ?_;have hb:Fx (CP o) sc0 (CT 0 rs)=x:=by
   rw[RK (Kt ha).2];rcases W4 (rs:=rs) (o:=o) with ⟨_,h⟩ | h
   ·have:=h x hx.1;rw[hx.2.1] at this;cases this
   ·exact dM h hx
  have hn:=(Kb hx.1).2.2.2.1;rw[hb];simp[show ¬ x.n=0 by omega];refine zz (x:=x) (u:=(H [0]).u+1) (by omega) (by simp[Aa]) (fun st=>?_) (CP o).length 0 (by omega) (by simp);have hat:=uT x (CP o);simp[Aa,hat];have f1:List.take (VK x (CP o)) (List.map H7 (CP o))=List.map H7 ((CP o).take (VK x (CP o))):=by simp
  have f2:List.take ((CP o).length-VK x (CP o)) (List.drop (VK x (CP o)) (List.map H7 (CP o)))=List.map H7 ((CP o).drop (VK x (CP o))):=by
   rw[AL (by simp)];simp
  have f3:CP (o++[x])=(CP o).take (VK x (CP o))++x::(CP o).drop (VK x (CP o)):=by rw[oc,kT]
  have f4:((CP o).take (VK x (CP o))).length+((CP o).drop (VK x (CP o))).length≤16:=by simp;omega
  rw[f1,f2];generalize (CP o).take (VK x (CP o))=A1 at f3 f4;generalize (CP o).drop (VK x (CP o))=A2 at f3 f4;have e1:i64.wrap ((o.length:Int)+1)=(((o++[x]).length:Nat):Int):=by rw[Al (by omega) (by omega)];simp
  rw[e1];have d3:Pz x=[iv x.i,iv x.j]:=rfl;simp[mq,Aa,d3];refine⟨by omega,by omega,by omega,?_⟩;refine LoopC.le (FW (d:=[1]) (fun _ h=>h) 3 (Vy (CP (o++[x]))) fun H1 h1=>?_) ?_
  ·rw[f3];refine Bx (u:=(H [1]).u+1+1+1) (sz:=2) ?_ (by simp;omega) (fun x=>rfl);rw[h1];simp[Aa];rw[AL (by simp)];rw[AL (by simp)];simp;rfl
  ·refine LoopC.le (Ao [(0,L8 rs),(3,Vy (CP (o++[x]))),(4,iv (o++[x]).length)] (by simp)) ?_;exact ih hl (Xn ha hx.2.1) hq _
theorem tZ (rs:List (List Int)) (hrs:rs.length≤1000000) (hr:∀ r,r ∈ rs→r.length≤1000000) {o':List Sc} (ho:Ks (CT 0 rs) [] o') (hl16:o'.length≤16):G.Spec Tryz.prog 216 [L8 rs] (Vy (CP o')):=by
 refine Aj TD (by simp) fun w0 I0=>?_;unfold LM;simp;refine LoopC.le (pq 3) ?_;refine LoopC.le (Ao [(0,L8 rs),(3,Vy (CP [])),(4,iv (([]:List Sc).length:Nat))] (by simp[A.soft,A.softL,CP])) ?_;refine zk hrs hr ho hl16 (by simp[En]) (fun H=>?_) _;simp;exact Ad rfl
variable {n0:Nat} {w0:World} {I0:Nat→Prop} {Q:Exit→Sta→Prop}
theorem AaB {a b:T} {H:Hp} (ha:BH a) (hb:BH b) (h0:H [0]=⟨1,.cells (tL a)⟩) (h1:H [1]=⟨1,.cells (tL b)⟩):∀ (m i n:Nat),i+m=min a.words.length b.words.length→n≤1+i →
  (∀ st,Q (.exit 0) ⟨lk ([(2,.pob [0] 1 0),(3,.pob [1] 1 0),(5,nv (n+Og (a.words.drop i) (b.words.drop i)))]++st),H⟩) →
  LoopC (cx Tryz.prog w0 I0 n0) Em Q ⟨lk [(2,.pob [0] 1 0),(3,.pob [1] 1 0),(5,nv n),(6,iv i)],H⟩:=by
 have hal:=(wfT_iff.1 ha).wl;intro m;induction m with
 |zero=>
  intro i n hm hn hq;refine Ab Ai Em.eq_1 ?_;rw[dT (by omega)] at hq;by_cases hlt:i<a.words.length
  ·have:¬ i<b.words.length:=by omega
   simp[h0,h1,hlt,this];exact hq [(6,iv i),(34,bv false)]
  ·simp[h0,h1,hlt];exact hq [(6,iv i),(34,bv false)]
 |succ m ih=>
  intro i n hm hn hq;have hi:i<a.words.length:=by omega
  have hj:i<b.words.length:=by omega
  have e1:=Av i;have e2:=Av n;rw[mh hi hj] at hq;refine Ab Ai Em.eq_1 ?_;by_cases h:a.words[i]=b.words[i]
  ·simp[h0,h1,hi,hj,h,e1,e2];refine ih (i+1) (n+1) (by omega) (by omega) fun st=>?_;have:=hq st;rw[if_pos h] at this;rw[show n+1+Og (a.words.drop (i+1)) (b.words.drop (i+1))=n+(1+Og (a.words.drop (i+1)) (b.words.drop (i+1))) by omega];exact this
  ·simp[h0,h1,hi,hj,h,e1];refine ih (i+1) n (by omega) (by omega) fun st=>?_;have:=hq st;rw[if_neg h,Nat.zero_add] at this;exact this
theorem z7 {a b:T} {H:Hp} (ha:BH a) (hb:BH b) (h0:H [0]=⟨1,.cells (tL a)⟩) (h1:H [1]=⟨1,.cells (tL b)⟩):∀ (m i n:Nat),i+m=min a.kids.length b.kids.length→n≤100000000000000+i →
  (∀ st,Q (.exit 2) ⟨lk ([(2,.pob [0] 1 0),(3,.pob [1] 1 0),(5,nv (n+VU (a.kids.drop i) (b.kids.drop i)))]++st),H⟩) →
  LoopC (cx Tryz.prog w0 I0 n0) Eo Q ⟨lk [(2,.pob [0] 1 0),(3,.pob [1] 1 0),(5,nv n),(7,iv i)],H⟩:=by
 have hal:=(wfT_iff.1 ha).kl;intro m;induction m with
 |zero=>
  intro i n hm hn hq;refine Ab Ai Eo.eq_1 ?_;rw[gZ (by omega)] at hq;by_cases hlt:i<a.kids.length
  ·have:¬ i<b.kids.length:=by omega
   simp[h0,h1,hlt,this];exact hq [(7,iv i),(61,bv false)]
  ·simp[h0,h1,hlt];exact hq [(7,iv i),(61,bv false)]
 |succ m ih=>
  intro i n hm hn hq;have hi:i<a.kids.length:=by omega
  have hj:i<b.kids.length:=by omega
  have e1:=Av i;have e2:=Av n;have hE:=Vu ((wfT_iff.1 ha).ks _ (Bg hi)) ((wfT_iff.1 hb).ks _ (Bg hj)) (GU _ ((wfT_iff.1 ha).ks _ (Bg hi)));rw[lK hi hj] at hq;refine Ab Ai Eo.eq_1 ?_;simp[h0,h1,hi,hj];refine Ae hE (by simp) ?_;cases h:LK a.kids[i] b.kids[i] with
  |true=>
   simp[e1,e2];refine ih (i+1) (n+1) (by omega) (by omega) fun st=>?_;have:=hq st;rw[if_pos h] at this;rw[show n+1+VU (a.kids.drop (i+1)) (b.kids.drop (i+1))=n+(1+VU (a.kids.drop (i+1)) (b.kids.drop (i+1))) by omega];exact this
  |false=>
   simp[e1];refine ih (i+1) n (by omega) (by omega) fun st=>?_;have:=hq st;rw[if_neg (by rw[h];decide),Nat.zero_add] at this;exact this
theorem dn {a b:T} (ha:BH a) (hb:BH b):G.Spec Tryz.prog 215 [tX a,tX b] (nv (EZ a b)):=by
 have hal:=(wfT_iff.1 ha).wl;refine Aj RN (by simp) fun w0 I0=>?_;unfold Kr;by_cases hk:a.kind=b.kind
 ·by_cases h0:b.kind=0
  ·simp[hk,h0];exact CE (by simp[EZ,hk,h0])
  ·by_cases h10:b.kind=10
   ·simp[hk,h0,h10];exact CE (by simp[EZ,hk,h10])
   ·simp[hk,h0,h10];refine LoopC.le (Ao [(2,.pob [0] 1 0),(3,.pob [1] 1 0),(5,nv 1),(6,iv (0:Nat))] (by simp)) ?_;refine AaB ha hb (by simp[Aa,hk]) (by simp[Aa]) _ 0 1 (Nat.zero_add _) (by omega) fun st=>?_;simp;refine LoopC.le (Ao [(2,.pob [0] 1 0),(3,.pob [1] 1 0),(5,nv (1+Og a.words b.words)),(7,iv (0:Nat))] (by simp)) ?_;have:=Xg a.words b.words;refine z7 ha hb (by simp[Aa,hk]) (by simp[Aa]) _ 0 _ (Nat.zero_add _) (by omega) fun st=>?_;simp;refine CE ?_;simp[EZ,hk,h0,h10]
 ·simp[hk];exact CE (by simp[EZ,hk])
theorem Aab {a b:T} {H:Hp} (ha:BH a) (hb:BH b) (h0:H [0]=⟨1,.cells (tL a)⟩) (h1:H [1]=⟨1,.cells (tL b)⟩):∀ (m i n:Nat),i+m=min a.words.length b.words.length→n≤1+i →
  (∀ st,Q (.exit 0) ⟨lk ([(2,.pob [0] 1 0),(3,.pob [1] 1 0),(5,nv (n+Og (a.words.drop i) (b.words.drop i)))]++st),H⟩) →
  LoopC (cx Tryz.prog w0 I0 n0) IG Q ⟨lk [(2,.pob [0] 1 0),(3,.pob [1] 1 0),(5,nv n),(29,iv (min a.words.length b.words.length:Nat)),(30,iv i)],H⟩:=by
 have hal:=(wfT_iff.1 ha).wl;intro m;induction m with
 |zero=>
  intro i n hm hn hq;refine Ab Ai IG.eq_1 ?_;rw[dT (by omega)] at hq;generalize min a.words.length b.words.length=N at *;simp[show ¬ i<N by omega];exact hq [(29,iv N),(30,iv i),(31,bv false)]
 |succ m ih=>
  intro i n hm hn hq;have hi:i<a.words.length:=by omega
  have hj:i<b.words.length:=by omega
  have e1:=Av i;have e2:=Av n;rw[mh hi hj] at hq;generalize min a.words.length b.words.length=N at *;have hN:i<N:=by omega
  refine Ab Ai IG.eq_1 ?_;by_cases h:a.words[i]=b.words[i]
  ·simp[h0,h1,hi,hj,hN,h,e1,e2];refine ih (i+1) (n+1) (by omega) (by omega) fun st=>?_;have:=hq st;rw[if_pos h] at this;rw[show n+1+Og (a.words.drop (i+1)) (b.words.drop (i+1))=n+(1+Og (a.words.drop (i+1)) (b.words.drop (i+1))) by omega];exact this
  ·simp[h0,h1,hi,hj,hN,h,e1];refine ih (i+1) n (by omega) (by omega) fun st=>?_;have:=hq st;rw[if_neg h,Nat.zero_add] at this;exact this
theorem zx {a b:T} {H:Hp} (ha:BH a) (hb:BH b) (h0:H [0]=⟨1,.cells (tL a)⟩) (h1:H [1]=⟨1,.cells (tL b)⟩):∀ (m i n:Nat),i+m=min a.kids.length b.kids.length→n≤100000000000000+i →
  (∀ st,Q (.exit 2) ⟨lk ([(2,.pob [0] 1 0),(3,.pob [1] 1 0),(5,nv (n+VU (a.kids.drop i) (b.kids.drop i)))]++st),H⟩) →
  LoopC (cx Tryz.prog w0 I0 n0) IM Q ⟨lk [(2,.pob [0] 1 0),(3,.pob [1] 1 0),(5,nv n),(53,iv (min a.kids.length b.kids.length:Nat)),(54,iv i)],H⟩:=by
 have hal:=(wfT_iff.1 ha).kl;intro m;induction m with
 |zero=>
  intro i n hm hn hq;refine Ab Ai IM.eq_1 ?_;rw[gZ (by omega)] at hq;generalize min a.kids.length b.kids.length=N at *;simp[show ¬ i<N by omega];exact hq [(53,iv N),(54,iv i),(55,bv false)]
 |succ m ih=>
  intro i n hm hn hq;have hi:i<a.kids.length:=by omega
  have hj:i<b.kids.length:=by omega
  have e1:=Av i;have e2:=Av n;have hE:=Xi ((wfT_iff.1 ha).ks _ (Bg hi)) ((wfT_iff.1 hb).ks _ (Bg hj));rw[lK hi hj] at hq;generalize min a.kids.length b.kids.length=N at *;have hN:i<N:=by omega
  refine Ab Ai IM.eq_1 ?_;simp[h0,h1,hi,hj,hN];refine Ae hE (by simp) ?_;cases h:LK a.kids[i] b.kids[i] with
  |true=>
   simp[e1,e2];refine ih (i+1) (n+1) (by omega) (by omega) fun st=>?_;have:=hq st;rw[if_pos h] at this;rw[show n+1+VU (a.kids.drop (i+1)) (b.kids.drop (i+1))=n+(1+VU (a.kids.drop (i+1)) (b.kids.drop (i+1))) by omega];exact this
  |false=>
   simp[e1];refine ih (i+1) n (by omega) (by omega) fun st=>?_;have:=hq st;rw[if_neg (by rw[h];decide),Nat.zero_add] at this;exact this
theorem dJ {a b:T} (ha:BH a) (hb:BH b):G.Spec Tryz.prog 202 [tX a,tX b] (nv (EZ a b)):=by
 have hal:=(wfT_iff.1 ha).wl;refine Aj bA (by simp) fun w0 I0=>?_;unfold Sd;by_cases hk:a.kind=b.kind
 ·by_cases h0:b.kind=0
  ·simp[hk,h0];exact CE (by simp[EZ,hk,h0])
  ·by_cases h10:b.kind=10
   ·simp[hk,h0,h10];exact CE (by simp[EZ,hk,h10])
   ·simp[hk,h0,h10];refine LoopC.le (Ao [(2,.pob [0] 1 0),(3,.pob [1] 1 0),(5,nv 1),(29,iv (min a.words.length b.words.length:Nat)),(30,iv (0:Nat))] (by simp;omega)) ?_;refine Aab ha hb (by simp[Aa,hk]) (by simp[Aa]) _ 0 1 (Nat.zero_add _) (by omega) fun st=>?_;simp;refine LoopC.le (Ao [(2,.pob [0] 1 0),(3,.pob [1] 1 0),(5,nv (1+Og a.words b.words)),(53,iv (min a.kids.length b.kids.length:Nat)),(54,iv (0:Nat))] (by simp;omega)) ?_;have:=Xg a.words b.words;refine zx ha hb (by simp[Aa,hk]) (by simp[Aa]) _ 0 _ (Nat.zero_add _) (by omega) fun st=>?_;simp;refine CE ?_;simp[EZ,hk,h0,h10]
 ·simp[hk];exact CE (by simp[EZ,hk])
theorem ux {t:T} (hl:t.kids.length*56≤140737488355328) (ih:∀ c,c ∈ t.kids→G.Spec Tryz.prog 31 [tX c] (tX (Ah c))) {v v0:VOb} {k w:A}:∀ (m i:Nat) (u:Nat) (H:Hp),i+m=t.kids.length→H [0]=v0→H [1]=v→H [2]=⟨1,.cells [k,w,.osl [4] u 3 0 i]⟩→H [4]=⟨u,.arr 3 ((t.kids.take i).map (tA ∘ Ah))⟩ →
  (∀ i' q (u':Nat) (H':Hp),H' [0]=v0→H' [1]=v→H' [2]=⟨1,.cells [k,w,.osl [4] u' 3 0 t.kids.length]⟩→H' [4]=⟨u',.arr 3 (t.kids.map (tA ∘ Ah))⟩→Q (.exit 0) ⟨lk [(1,.pob [0] 1 0),(2,.pob [1] 1 0),(3,.pob [2] 1 0),(17,Bm t.kids),(18,iv t.kids.length),(19,iv i'),(20,bv q)],H'⟩) →
  LoopC (cx Tryz.prog w0 I0 n0) J8 Q ⟨lk [(1,.pob [0] 1 0),(2,.pob [1] 1 0),(3,.pob [2] 1 0),(17,Bm t.kids),(18,iv t.kids.length),(19,iv i)],H⟩:=by
 intro m;induction m with
 |zero=>
  intro i u H hi hA hR hO hB hq;have:i=t.kids.length:=by omega
  subst this;refine Ab Ai J8.eq_1 ?_;simp;exact hq _ _ u H hA hR hO (by rw[hB];simp)
 |succ m ihm=>
  intro i u H hi hA hR hO hB hq;have hlt:i<t.kids.length:=by omega
  have ei:=Av i;refine Ab Ai J8.eq_1 ?_;simp[hlt,Aa,hO];refine Ae (ih _ (Bg hlt)) rfl ?_;simp[Aa,hO,hB];have hrow:=gp (f:=tA ∘ Ah) hlt (x:=tX (Ah t.kids[i])) (by simp);rw[hrow,ei];refine⟨⟨by omega,by omega⟩,?_⟩;exact ihm (i+1) (u+1) _ (by omega) (by simp[Aa,hA]) (by simp[Aa,hR]) (by simp[Aa]) (by simp[Aa]) hq
theorem rT {w:List Int} (hl:w.length*8≤140737488355328) {v v4:VOb} {K:A}:∀ (n:Nat) (H:Hp),n≤w.length→Cf (w.take n)=Cf w→H [1]=v→H [2]=⟨1,.cells [iv 1,Dz (w.take n),K]⟩→H [4]=v4 →
  (∀ q (H':Hp),H' [1]=v→H' [2]=⟨1,.cells [iv 1,Dz (Cf w),K]⟩→H' [4]=v4→Q (.exit 2) ⟨lk [(2,.pob [1] 1 0),(3,.pob [2] 1 0),(48,bv q)],H'⟩) →
  LoopC (cx Tryz.prog w0 I0 n0) JK Q ⟨lk [(2,.pob [1] 1 0),(3,.pob [2] 1 0)],H⟩:=by
 intro n;induction n with
 |zero=>
  intro H hn ht hR hO hB hq;refine Ab Ai JK.eq_1 ?_;simp[hO];refine hq _ H hR ?_ hB;rw[← ht];simpa using hO
 |succ n ihn=>
  intro H hn ht hR hO hB hq;have hlt:n<w.length:=by omega
  have en:i64.wrap (n:Int)=n:=BJ;have emin:min (n+1) w.length=n+1:=by omega
  refine Ab Ai JK.eq_1 ?_;by_cases h0:w[n]=0
  ·have hnn:(n:Int)<n+1:=by omega
   have hnn':(n:Int)≤n+1:=by omega
   have hs:List.take n (List.take (n+1) (List.map uv w))=(w.take n).map uv:=by rw[List.take_take,Nat.min_eq_left (by omega),List.map_take]
   simp[hO,emin,en,hlt,h0,hnn,hnn',hs];exact ihn _ (by omega) (by rw[← QH hlt h0];exact ht) (by simp[Aa,hR]) (by simp[Aa]) (by simp[Aa,hB]) hq
  ·have hnn:(n:Int)<n+1:=by omega
   simp[hO,emin,en,hlt,h0,hnn];refine hq _ H hR ?_ hB;rw[hO,← ht,RB hlt h0]
theorem tq {l:List T} (hl:l.length*56≤140737488355328) {v:VOb} {W:A} {u:Nat}:∀ (n:Nat) (H:Hp),n≤l.length→BO (l.take n)=BO l→H [1]=v→H [2]=⟨1,.cells [iv 1,W,.osl [4] u 3 0 n]⟩→H [4]=⟨u,.arr 3 (l.map (tA ∘ Ah))⟩ →
  (∀ q (H':Hp),H' [1]=v→H' [2]=⟨1,.cells [iv 1,W,.osl [4] u 3 0 (BO l).length]⟩→H' [4]=⟨u,.arr 3 (l.map (tA ∘ Ah))⟩→Q (.exit 4) ⟨lk [(2,.pob [1] 1 0),(3,.pob [2] 1 0),(72,bv q)],H'⟩) →
  LoopC (cx Tryz.prog w0 I0 n0) JP Q ⟨lk [(2,.pob [1] 1 0),(3,.pob [2] 1 0)],H⟩:=by
 intro n;induction n with
 |zero=>
  intro H hn ht hR hO hB hq;refine Ab Ai JP.eq_1 ?_;simp[hO];refine hq _ H hR ?_ hB;rw[← ht];simpa using hO
 |succ n ihn=>
  intro H hn ht hR hO hB hq;have hlt:n<l.length:=by omega
  have en:i64.wrap (n:Int)=n:=BJ;have hnn:(n:Int)<n+1:=by omega
  have hnn':(n:Int)≤n+1:=by omega
  refine Ab Ai JP.eq_1 ?_;by_cases h0:l[n].kind=0
  ·simp[hO,hB,en,hlt,h0,hnn,hnn'];exact ihn _ (by omega) (by rw[← Rj hlt h0];exact ht) (by simp[Aa,hR]) (by simp[Aa]) (by simp[Aa,hB]) hq
  ·simp[hO,hB,en,hlt,h0,hnn];refine hq _ H hR ?_ hB;rw[hO,← ht,Rp hlt h0];simp;omega
theorem Ns:∀ (t:T),BH t→G.Spec Tryz.prog 31 [tX t] (tX (Ah t)):=by
 refine T.ind fun k w l ih hw=>?_;have hw':=wfT_iff.1 hw;have hwl:=hw'.wl;have hkl:=hw'.kl;simp at hwl hkl;refine Aj fe (by simp) fun w0 I0=>?_;unfold Vd;rw[BS];by_cases h0:k=0
 ·simp[h0];exact sO
 ·simp[h0];refine Ae (Ru false w hwl).spec rfl ?_;simp;refine LoopC.le (Bu (d:=[2]) 2 [4] 3 rfl rfl (by simp)) ?_;simp;refine ux (t:=.mk k w l) (k:=iv k) (w:=Dz w) (by simpa using hkl) (fun c hc=>ih c hc (hw'.ks c hc)) l.length 0 1 _ (by simp) rfl rfl (by simp) (by simp) fun i' q u' H' hA hR hO hB=>?_;by_cases h1:k=1
  ·subst h1;simp at hA hR hO hB;simp[hA,hR,hO,hB];refine LoopC.le (Ao [(2,.pob [1] 1 0),(3,.pob [2] 1 0)] (by simp)) ?_;refine rT hwl w.length _ (BZ _) (by rw[AL (BZ _)]) hR (by rw[hO,AL (BZ _)]) hB fun q H2 hR2 hO2 hB2=>?_;simp;refine tq hkl l.length _ (BZ _) (by rw[AL (BZ _)]) hR2 hO2 hB2 fun q H3 hR3 hO3 hB3=>?_;simp[hO3,hR3,Aa];refine Cn ?_;simp;rw[PN];refine⟨Ad rfl,Ad rfl,?_⟩;have:=Yo (H:=Ay H3 [1] ⟨1,.cells [iv 1,Dz (Cf w),A.osl [4] u' 3 0 (BO l).length]⟩) (o:=[4]) (u:=u') (sz:=3) (l:=l) (f:=tA ∘ Ah) (by simp[Aa,hB3]) (Ji l) (by simp);rw[← List.map_take];show J3 _ _ (A.sl false (((l.take (BO l).length).map Ah).map tA));rw[List.map_map];exact this
  ·simp at hA hR hO hB;simp[hA,hR,hO,hB,h1,Aa];refine Cn ?_;simp;refine⟨Ad rfl,Ad rfl,?_⟩;have:=Bx (H:=Ay H' [1] ⟨1,.cells [iv k,Dz w,A.osl [4] u' 3 0 l.length]⟩) (o:=[4]) (u:=u') (sz:=3) (l:=l) (f:=tA ∘ Ah) (by simp[Aa,hB]) rfl (by simp);show J3 _ _ (A.sl false ((l.map Ah).map tA));rw[List.map_map];exact this
end Go.Proofs.YtbjmaoedheiigaaGreat
namespace Go.PL
def ft (ws:List WE):Prop:=∀ w,w ∈ ws→0≤w.mask∧w.mask<256
end Go.PL
namespace Go.Proofs.YtbjmaoedheiigaaGreat
open Go Go.G Go.Proofs Go.PL
theorem ZI {t:T} (h:BH t) (i:Nat):Bw (wdT t i):=by
 unfold wdT;rw[List.getD_eq_getElem?_getD];cases e:t.words[i]? with
 |none=>exact⟨by simp,by simp⟩
 |some x=>exact(wfT_iff.1 h).w x (List.mem_of_getElem? e)
variable {n0:Nat} {w0:World} {I0:Nat→Prop} {Q:Exit→Sta→Prop}
inductive WI where
 |keep (n:Int)
 |del (k v:Nat) (l:List T)
 |ins (k v:Nat) (l:List T)
 |desc (e:E)
def WI.op:WI→OP
 |.keep n=>.mk 0 n [] E0
 |.del _ _ l=>.mk 1 0 l E0
 |.ins _ _ l=>.mk 2 0 l E0
 |.desc e=>.mk 3 0 [] e
def BB:List A:=[iv 0,iv 0,.sl true [],.sl true [],iv 0,.sl true [],.sl true [],.sl true [],.sl true [],iv 0,.sl true []]
def Yx (r:Nat):WI→List A
 |.keep n=>iv 0::iv n :: .sl true []::BB
 |.del k v l=>iv 1::iv 0 :: .osl (r::[k]) v 3 0 l.length::BB
 |.ins k v l=>iv 2::iv 0 :: .osl (r::[k]) v 3 0 l.length::BB
 |.desc e=>iv 3::iv 0 :: .sl true []::eL e
def Vv (r:Nat) (x:WI):A:=.agg (Yx r x)
@[simp] theorem Ab7 {r:Nat} {x:WI}:(Vv r x).cells=Yx r x:=rfl
@[simp] theorem Ahj {r:Nat} {x:WI}:(Yx r x).length=14:=by cases x<;>rfl
theorem xc {g:Nm→Nm} {δ:Nm→Nat} {r r':Nat} (hg:∀ p,g (r::p)=r'::p) (hd:∀ p,δ (r::p)=0) (x:WI):A.renL g δ (Yx r x)=Yx r' x:=by
 cases x<;>simp[Yx,BB,A.renL,A.ren,hg,hd]
theorem rG {D:Nm→Prop} {r:Nat} (hD:∀ p,D (r::p)) (x:WI):A.refsL D (Yx r x):=by
 cases x<;>simp[Yx,BB,A.refsL,A.refs,hD]
def PI (r:Nat):Option (Nat × Nat × List T)→A
 |some (k,v,l)=>.osl (r::[k]) v 3 0 l.length
 |none=>.sl true []
abbrev Wl:=Nat→Option (Nat × List T)
def mH:Option (Nat × List T)→VOb
 |some (v,l)=>⟨v,.arr 3 (l.map tA)⟩
 |none=>⟨0,.none⟩
theorem xw {g:Nm→Nm} {δ:Nm→Nat} {r r':Nat} (hg:∀ p,g (r::p)=r'::p) (hd:∀ p,δ (r::p)=0) (o:Option (Nat × Nat × List T)):(PI r o).ren g δ=PI r' o:=by
 rcases o with _ | ⟨k,v,l⟩
 ·simp[PI,A.ren]
 ·simp[PI,A.ren,hg,hd]
def UU (R:Wl):Nm→VOb
 |[k]=>mH (R k)
 |_=>⟨0,.none⟩
@[simp] theorem AcB {R:Wl} {k:Nat}:UU R [k]=mH (R k):=rfl
theorem xm {g:Nm→Nm} {δ:Nm→Nat} (o:Option (Nat × List T)):VOb.ren g δ 0 (mH o)=mH o:=by
 rcases o with _ | ⟨v,l⟩
 ·rfl
 ·refine Fam.arr_ren ?_;simp only[Cv,List.map_map];refine List.map_congr_left fun x _=>?_;simp[A.ren,A.renL]
theorem oo {g:Nm→Nm} {δ:Nm→Nat} (R:Wl):∀ p,VOb.ren g δ 0 (UU R p)=UU R p
 |[]=>rfl
 |[k]=>xm _
 |_::_::_=>rfl
theorem uE {D:Nm→Prop} (o:Option (Nat × List T)):(mH o).ob.refs D:=by
 rcases o with _ | ⟨v,l⟩
 ·trivial
 ·simp only[mH,Ob.refs,refsL_iff];intro y hy;obtain⟨x,_,rfl⟩:=List.mem_map.1 hy;simp[A.refs,A.refsL]
theorem im {D:Nm→Prop} (R:Wl):∀ p,(UU R p).ob.refs D
 |[]=>trivial
 |[k]=>uE _
 |_::_::_=>trivial
def Yb (its:List WI) (vo:Nat) (g b:Option (Nat × Nat × List T)) (R:Wl):Fam:=⟨fun r p=>if p=[] then ⟨1,.cells [.osl (r::[0]) vo 14 0 its.length,PI r g,PI r b]⟩ else if p=[0] then ⟨vo,.arr 14 (its.map (Vv r))⟩ else UU R p,fun {γ δ r r'} hg hd p=>by
  by_cases h1:p=[]
  ·rw[if_pos h1,if_pos h1];refine Fam.cells_ren ?_;simp[A.renL,A.ren,hg,hd,xw hg hd]
  ·rw[if_neg h1,if_neg h1];by_cases h2:p=[0]
   ·rw[if_pos h2,if_pos h2];refine Fam.arr_ren ?_;simp only[Cv,List.map_map];refine List.map_congr_left fun x _=>?_;simp[Vv,A.ren,xc hg hd]
   ·rw[if_neg h2,if_neg h2];exact oo R p,fun {D r} hD p=>by
  by_cases h1:p=[]
  ·rw[if_pos h1];rcases g with _ | ⟨k,v,l⟩<;>rcases b with _ | ⟨k',v',l'⟩<;>simp[Ob.refs,A.refsL,A.refs,hD,PI]
  ·rw[if_neg h1];by_cases h2:p=[0]
   ·rw[if_pos h2];simp only[Ob.refs,refsL_iff];intro y hy;obtain⟨x,_,rfl⟩:=List.mem_map.1 hy;simp only[A.refs,Vv];exact rG hD x
   ·rw[if_neg h2];exact im R p⟩
@[simp] theorem lP {its:List WI} {vo:Nat} {g b:Option (Nat × Nat × List T)} {R:Wl} {r:Nat} {p:Nm}:(Yb its vo g b R).F r p=if p=[] then ⟨1,.cells [.osl (r::[0]) vo 14 0 its.length,PI r g,PI r b]⟩ else if p=[0] then ⟨vo,.arr 14 (its.map (Vv r))⟩ else UU R p:=rfl
abbrev xG (r:Nat):A:=.pob [r] 1 0
theorem Wb {r:Nat} {l:List WI}:Gh 14 (l.map (Vv r))=true:=by rw[I7];simp
def FH:Nat × Nat × List T→List WI
 |(k,v,l)=>if l=[] then [] else [.del k v l]
def BQ:Nat × Nat × List T→List WI
 |(k,v,l)=>if l=[] then [] else [.ins k v l]
theorem JN (its:List WI) (vo:Nat) (g b:Nat × Nat × List T) (R:Wl) (hl:its.length≤1000000) (hg:R g.1=some (g.2.1,g.2.2)) (hb:R b.1=some (b.2.1,b.2.2)) (hg0:1≤g.1) (hb0:1≤b.1):Bh Tryz.prog 113 (fun r=>[xG r]) (Yb its vo (some g) (some b) R) (fun _=>.tup []) (Yb (its++(FH g++BQ b)) (vo+(FH g++BQ b).length) none none R):=by
 obtain⟨gk,gv,gl⟩:=g;obtain⟨bk,bv',bl⟩:=b;refine AE N6 (by simp) (Af AJ Am) (Bz Am) fun w0 I0 M0 m0=>?_;unfold H9;by_cases h1:gl=[]
 ·by_cases h2:bl=[]
  ·simp[h1,h2,PI];rw[Cs.eq_1];simp[h1,h2,PI,Aa];refine AX rfl rfl (fun p=>?_);by_cases p1:p=[]
   ·subst p1;simp[Aa,FH,BQ,PI]
   ·by_cases p2:p=[0]
    ·subst p2;simp[Aa,FH,BQ]
    ·simp[p1,p2,Aa]
  ·have h2':(0:Int)<bl.length:=by have:=List.length_pos_iff.2 h2;omega
   have h2n:=List.length_pos_iff.2 h2;simp[h1,h2,PI];rw[Cs.eq_1];simp[h1,h2,h2',h2n,PI,Aa,Wb];refine⟨by omega,by omega,?_⟩;refine AX rfl rfl (fun p=>?_);by_cases p1:p=[]
   ·subst p1;simp[Aa,FH,BQ,PI,h1,h2]
   ·by_cases p2:p=[0]
    ·subst p2;simp[Aa,FH,BQ,h1,h2,Vv,Yx,BB,AL]
    ·simp[p1,p2,Aa]
 ·have h1':(0:Int)<gl.length:=by have:=List.length_pos_iff.2 h1;omega
  have h1n:=List.length_pos_iff.2 h1;by_cases h2:bl=[]
  ·simp[h1,h1',h1n,h2,PI,Aa,Wb];refine⟨by omega,by omega,?_⟩;rw[Cs.eq_1];simp[h1,h2,PI,Aa];refine AX rfl rfl (fun p=>?_);by_cases p1:p=[]
   ·subst p1;simp[Aa,FH,BQ,PI,h1,h2]
   ·by_cases p2:p=[0]
    ·subst p2;simp[Aa,FH,BQ,h1,h2,Vv,Yx,BB,AL]
    ·simp[p1,p2,Aa]
  ·have h2':(0:Int)<bl.length:=by have:=List.length_pos_iff.2 h2;omega
   have h2n:=List.length_pos_iff.2 h2;simp[h1,h1',h1n,h2,PI,Aa,Wb];refine⟨by omega,by omega,?_⟩;rw[Cs.eq_1];simp[h1,h2,h2',h2n,PI,Aa];refine⟨by omega,⟨by omega,by omega⟩,?_⟩;refine AX rfl rfl (fun p=>?_);by_cases p1:p=[]
   ·subst p1;simp[Aa,FH,BQ,PI,h1,h2]
   ·by_cases p2:p=[0]
    ·subst p2;simp[Aa,FH,BQ,h1,h2,Vv,Yx,BB,AL]
    ·simp[p1,p2,Aa]
theorem Aek (l:List T) (x:A):(l.map tA++[x])[l.length]? = some x:=by rw[List.getElem?_append_right (by simp)];simp
theorem xf (l:List T):List.take l.length (l.map tA)=l.map tA:=AL (by simp)
theorem mL {n0:Nat} {w0:World} {I0:Nat→Prop} {M0:Nm→Nat→Prop} {m0:Mu} {Q:Exit→Sta→Prop} {its:List WI} {vo off k:Nat} {g b:Option (Nat × Nat × List T)} {R:Wl} {ts l0:List T} {v0:Nat} (hts:∀ t,t ∈ ts→BH t) (hl:l0.length+ts.length≤1000000) (hk:1≤k)
  (F:Nat→List T→Fam) (hF0:∀ v l,(F v l).F 0 []=⟨1,.cells [.osl [0,0] vo 14 0 its.length,if off=1 then .osl [0,k] v 3 0 l.length else PI 0 g,if off=1 then PI 0 b else .osl [0,k] v 3 0 l.length]⟩) (hoff:off=1∨off=2) (hFk:∀ v l,(F v l).F 0 [k]=⟨v,.arr 3 (l.map tA)⟩) (hFo:∀ v l v' l' p,p ≠ []→p ≠ [k]→(F v l).F 0 p=(F v' l').F 0 p)
  (hq:∀ H st,(∀ p,H (0::p)=(F (v0+ts.length) (l0++ts.map Ah)).F 0 p)→Q (.exit 0) ⟨lk st,H⟩):∀ (m i:Nat) (H:Hp),i+m=ts.length→(∀ p,H (0::p)=(F (v0+i) (l0++(ts.take i).map Ah)).F 0 p) →
  LoopC (DG Tryz.prog w0 I0 M0 n0 m0) HU Q ⟨lk [(0,.pob [0] 1 off),(6,Bm ts),(7,iv ts.length),(8,iv i)],H⟩:=by
 intro m;induction m with
 |zero=>
  intro i H hm hH;refine Ab Ai HU.eq_1 ?_;have:i=ts.length:=by omega
  subst this;rw[AL (BZ _)] at hH;simp;exact hq H _ hH
 |succ m ih=>
  intro i H hm hH;have hi:i<ts.length:=by omega
  have ew:=Av i;have h0:=hH [];rw[hF0] at h0;have h1:=hH [k];rw[hFk] at h1;have hN:=Ns ts[i] (hts _ (Bg hi));have hLs:l0++(ts.take (i+1)).map Ah=l0++(ts.take i).map Ah++[Ah ts[i]]:=by rw[Fm hi,List.map_append,← List.append_assoc];rfl
  have hLl:(l0++(ts.take i).map Ah).length≤1000000:=by simp;omega
  have next:=ih (i+1)
  rw[hLs,← Nat.add_assoc] at next
  generalize l0++(ts.take i).map Ah=L at *;generalize v0+i=v at *;have hH':∀ (p:Nm) (H2:Hp),p ≠ []→p ≠ [k]→H2 (0::p)=H (0::p)→H2 (0::p)=(F (v+1) (L++[Ah ts[i]])).F 0 p:=fun p H2 p1 p2 he=>by rw[he,hH,hFo _ _ _ _ p p1 p2]
  refine Ab Ai HU.eq_1 ?_;rcases hoff with rfl | rfl;all_goals
   simp at h0 h1;simp[hi,Aa,h0];refine Ae hN (by simp[Aa]) ?_;simp[Aa,h0,h1,show ¬ k=0 by omega,show ¬ 0=k by omega,Aek,xf,ew];refine⟨by omega,by omega,?_⟩;refine next _ (by omega) (fun p=>?_)
   by_cases p1:p=[]
   ·subst p1;rw[hF0];simp[Aa,show ¬ k=0 by omega,show ¬ 0=k by omega]
   ·by_cases p2:p=[k]
    ·subst p2;rw[hFk];simp[Aa,show ¬ k=0 by omega,show ¬ 0=k by omega]
    ·exact hH' p _ p1 p2 (by simp[Aa,p1,p2,Ne.symm p1,Ne.symm p2])
def GI (R:Wl) (k:Nat) (v:Nat) (l:List T):Wl:=fun q=>if q=k then some (v,l) else R q
theorem ZQ {R:Wl} {k v:Nat} {l:List T} (h:R k=some (v,l)):GI R k v l=R:=by
 funext q;unfold GI;split
 ·rename_i e;rw[e,h]
 ·rfl
theorem iG (its:List WI) (vo k v:Nat) (l:List T) (b:Option (Nat × Nat × List T)) (R:Wl) (hR:R k=some (v,l)) (hk:1≤k) (hb:∀ x,b=some x→x.1 ≠ k) {ts:List T} (hts:∀ t,t ∈ ts→BH t) (hl:l.length+ts.length≤1000000) :
  Bh Tryz.prog 111 (fun r=>[.pob [r] 1 1,Bm ts]) (Yb its vo (some (k,v,l)) b R) (fun _=>.tup []) (Yb its vo (some (k,v+ts.length,l++ts.map Ah)) b (GI R k (v+ts.length) (l++ts.map Ah))):=by
 refine AE Qj (by simp) (Af AJ (Af Dl Am)) (Bz Am) fun w0 I0 M0 m0=>?_;unfold L5;simp;refine LoopC.le (Ao [(0,.pob [0] 1 1),(6,Bm ts),(7,iv ts.length),(8,iv (0:Nat))] (by simp)) ?_;refine mL (its:=its) (vo:=vo) (off:=1) (k:=k) (g:=none) (b:=b) (R:=R) (ts:=ts) (l0:=l) (v0:=v) hts hl hk (fun v l=>Yb its vo (some (k,v,l)) b (GI R k v l)) (fun v l=>by simp[PI]) (.inl rfl) (fun v l=>by simp[mH,GI,show ¬ k=0 by omega]) (fun v l v' l' p p1 p2=>?_) (fun H st hH=>?_) ts.length 0 _ (by omega) (fun p=>?_)
 ·rw[lP,lP,if_neg p1,if_neg p1];split
  ·rfl
  ·match p with
   |[]=>rfl
   |[q]=>simp[GI,show ¬ q=k from fun e=>p2 (by rw[e])]
   |_::_::_=>rfl
 ·simp;exact AX rfl rfl hH
 ·simp only[List.take_zero,List.map_nil,List.append_nil,Nat.add_zero];rw[ZQ hR];simp
theorem iW (its:List WI) (vo k v:Nat) (l:List T) (g:Option (Nat × Nat × List T)) (R:Wl) (hR:R k=some (v,l)) (hk:1≤k) {ts:List T} (hts:∀ t,t ∈ ts→BH t) (hl:l.length+ts.length≤1000000) :
  Bh Tryz.prog 111 (fun r=>[.pob [r] 1 2,Bm ts]) (Yb its vo g (some (k,v,l)) R) (fun _=>.tup []) (Yb its vo g (some (k,v+ts.length,l++ts.map Ah)) (GI R k (v+ts.length) (l++ts.map Ah))):=by
 refine AE Qj (by simp) (Af AJ (Af Dl Am)) (Bz Am) fun w0 I0 M0 m0=>?_;unfold L5;simp;refine LoopC.le (Ao [(0,.pob [0] 1 2),(6,Bm ts),(7,iv ts.length),(8,iv (0:Nat))] (by simp)) ?_;refine mL (its:=its) (vo:=vo) (off:=2) (k:=k) (g:=g) (b:=none) (R:=R) (ts:=ts) (l0:=l) (v0:=v) hts hl hk (fun v l=>Yb its vo g (some (k,v,l)) (GI R k v l)) (fun v l=>by simp[PI]) (.inr rfl) (fun v l=>by simp[mH,GI,show ¬ k=0 by omega]) (fun v l v' l' p p1 p2=>?_) (fun H st hH=>?_) ts.length 0 _ (by omega) (fun p=>?_)
 ·rw[lP,lP,if_neg p1,if_neg p1];split
  ·rfl
  ·match p with
   |[]=>rfl
   |[q]=>simp[GI,show ¬ q=k from fun e=>p2 (by rw[e])]
   |_::_::_=>rfl
 ·simp;exact AX rfl rfl hH
 ·simp only[List.take_zero,List.map_nil,List.append_nil,Nat.add_zero];rw[ZQ hR];simp
theorem dQ (l:List WI) (r:Nat) (x:A):(l.map (Vv r)++[x])[l.length]? = some x:=by rw[List.getElem?_append_right (by simp)];simp
theorem v8 (l:List WI) (r:Nat):List.take l.length (l.map (Vv r))=l.map (Vv r):=AL (by simp)
theorem Om (l:List WI) (r:Nat) (x:A):List.take (l.length+1) (l.map (Vv r)++[x])=l.map (Vv r)++[x]:=AL (by simp)
theorem TI:∀ g,(FH g).length≤1
 |(a,b,c)=>by
  by_cases h:c=[]<;>simp[FH,h]
theorem NH:∀ g,(BQ g).length≤1
 |(a,b,c)=>by
  by_cases h:c=[]<;>simp[BQ,h]
theorem ky (its i0:List WI) (vo:Nat) (m n:Int) (g b:Nat × Nat × List T) (R:Wl) (hl:its.length≤1000000) (hg:R g.1=some (g.2.1,g.2.2)) (hb:R b.1=some (b.2.1,b.2.2)) (hg0:1≤g.1) (hb0:1≤b.1) (hi:its++(FH g++BQ b)=i0++[.keep m]):Bh Tryz.prog 110 (fun r=>[xG r,iv n]) (Yb its vo (some g) (some b) R) (fun _=>.tup []) (Yb (i0++[.keep (i64.wrap (m+n))]) (vo+(FH g++BQ b).length) none none R):=by
 have F1:=JN its vo g b R hl hg hb hg0 hb0;rw[hi] at F1;have hlen:i0.length≤1000002:=by
  have e:=congrArg List.length hi;have:=TI g;have:=NH b;simp at e;omega
 generalize vo+(FH g++BQ b).length=v at *;have e1:i64.wrap (i0.length:Int)=i0.length:=BJ;refine AE Jm (by simp) (Af AJ (Af Au Am)) (Bz Am) fun w0 I0 M0 m0=>?_;unfold F4;simp;refine Aw 0 F1 (fun p=>by simp) (by simp) (by simp) ?_;simp[e1,dQ,Vv,Yx];refine⟨by omega,rfl,?_⟩;refine AM rfl rfl (fun p=>?_);by_cases p1:p=[]
 ·subst p1;simp[Aa,PI]
 ·by_cases p2:p=[0]
  ·subst p2;simp[Aa,Vv,Yx,BB,A.remake,Om]
  ·simp[p1,p2,Aa]
theorem jS (its:List WI) (vo:Nat) (n:Int) (g b:Nat × Nat × List T) (R:Wl) (hl:its.length≤1000000) (hg:R g.1=some (g.2.1,g.2.2)) (hb:R b.1=some (b.2.1,b.2.2)) (hg0:1≤g.1) (hb0:1≤b.1) (hi:its++(FH g++BQ b)=[]∨∃ i0 x,its++(FH g++BQ b)=i0++[x]∧x.op.kind ≠ 0):Bh Tryz.prog 110 (fun r=>[xG r,iv n]) (Yb its vo (some g) (some b) R) (fun _=>.tup []) (Yb (its++(FH g++BQ b)++[.keep n]) (vo+(FH g++BQ b).length+1) none none R):=by
 have F1:=JN its vo g b R hl hg hb hg0 hb0;have hlen:(its++(FH g++BQ b)).length≤1000002:=by
  have:=TI g;have:=NH b;simp;omega
 generalize vo+(FH g++BQ b).length=v at *;generalize its++(FH g++BQ b)=J at *;refine AE Jm (by simp) (Af AJ (Af Au Am)) (Bz Am) fun w0 I0 M0 m0=>?_;unfold F4;simp;refine Aw 0 F1 (fun p=>by simp) (by simp) (by simp) ?_;rcases hi with rfl | ⟨i0,x,rfl,hx⟩
 ·simp[Aa,show i64.wrap (-1) = -1 from rfl];refine AX rfl rfl (fun p=>?_);by_cases p1:p=[]
  ·subst p1;simp[Aa,PI]
  ·by_cases p2:p=[0]
   ·subst p2;simp[Aa,Vv,Yx,BB,A.remake,Om]
   ·simp[p1,p2,Aa]
 ·simp at hlen;have e1:i64.wrap (i0.length:Int)=i0.length:=BJ;cases x with
  |keep m=>exact absurd rfl hx
  |del a b c=>
   simp[e1,dQ,Vv,Yx,Aa];refine⟨by omega,by omega,⟨by omega,by omega⟩,?_⟩;refine AX rfl rfl (fun p=>?_);by_cases p1:p=[]
   ·subst p1;simp[Aa,PI]
   ·by_cases p2:p=[0]
    ·subst p2;simp[Aa,Vv,Yx,BB,A.remake,Om]
    ·simp[p1,p2,Aa]
  |ins a b c=>
   simp[e1,dQ,Vv,Yx,Aa];refine⟨by omega,by omega,⟨by omega,by omega⟩,?_⟩;refine AX rfl rfl (fun p=>?_);by_cases p1:p=[]
   ·subst p1;simp[Aa,PI]
   ·by_cases p2:p=[0]
    ·subst p2;simp[Aa,Vv,Yx,BB,A.remake,Om]
    ·simp[p1,p2,Aa]
  |desc e=>
   simp[e1,dQ,Vv,Yx,Aa];refine⟨by omega,by omega,⟨by omega,by omega⟩,?_⟩;refine AX rfl rfl (fun p=>?_);by_cases p1:p=[]
   ·subst p1;simp[Aa,PI]
   ·by_cases p2:p=[0]
    ·subst p2;simp[Aa,Vv,Yx,BB,A.remake,Om]
    ·simp[p1,p2,Aa]
def WI.row:WI→Option (Nat × Nat × List T)
 |.del k v l=>some (k,v,l)
 |.ins k v l=>some (k,v,l)
 |_=>none
def ItR (R:Wl) (its:List WI):Prop:=∀ x,x ∈ its→∀ k v l,x.row=some (k,v,l)→R k=some (v,l)∧1≤k
theorem ym {c:Cx} {s:Nat→A} {H:Hp} {its:List WI} {v K:Nat} {R:Wl} (hH:∀ p,H (0::p)=(Yb its v none none R).F 0 p) (hK:∀ q,K≤q→R q=none) (hK1:1≤K):∃ H',Le c ⟨s,H⟩ ⟨s,H'⟩∧(∀ p,H' (0::p)=(Yb its v (some (K,1,[])) (some (K+1,1,[])) (GI (GI R K 1 []) (K+1) 1 [])).F 0 p):=by
 have h0:=hH [];simp[PI] at h0;have hK0:H [0,K]=⟨0,.none⟩:=by rw[hH];simp[show ¬ K=0 by omega,hK K (BZ _),mH]
 have hK2:H [0,K+1]=⟨0,.none⟩:=by rw[hH];simp[hK (K+1) (by omega),mH]
 have l1:=Bu (c:=c) (s:=s) (H:=H) (d:=[0]) (u:=1) (cs:=[.osl [0,0] v 14 0 its.length,.sl true [],.sl true []]) 1 [0,K] 3 h0 rfl (by simp);refine⟨_,l1.trans (Bu (d:=[0]) (u:=1) (cs:=[.osl [0,0] v 14 0 its.length,.osl [0,K] 1 3 0 0,.sl true []]) 2 [0,K+1] 3 (by simp[Aa,hK0]) rfl (by simp)),fun p=>?_⟩;by_cases p1:p=[]
 ·subst p1;simp[Aa,PI,hK0,hK2]
 ·by_cases p2:p=[0]
  ·subst p2;simp[Aa,hH,show ¬ 0=K by omega]
  ·match p,p1,p2 with
   |[q],p1,p2=>
    have hq0:¬ q=0:=fun e=>p2 (by rw[e]);by_cases e1:q=K
    ·subst e1;simp[Aa,GI,mH,hK0,hq0]
    ·by_cases e2:q=K+1
     ·subst e2;simp[Aa,GI,mH,hK2]
     ·simp[Aa,GI,hH,e1,e2,hq0]
   |_::_::_,p1,p2=>simp[Aa,hH,UU]
theorem zW {H:Hp} {R:Wl} {its:List WI} {v:Nat} {g b:Option (Nat × Nat × List T)} (hH:∀ p,H (0::p)=(Yb its v g b R).F 0 p) (x:WI) (hx:∀ k v l,x.row=some (k,v,l)→R k=some (v,l)∧1≤k):G9 H (Yx 0 x) (oA x.op).cells:=by
 have key:∀ k v' l,x.row=some (k,v',l)→J3 H (.osl [0,k] v' 3 0 l.length) (Bm l):=fun k v' l h=>by
  obtain⟨h1,h2⟩:=hx k v' l h;have:=hH [k];simp[show ¬ k=0 by omega,h1,mH] at this;exact Bx (f:=tA) (by rw[this];simp) rfl (by simp)
 have hraw:G9 H BB (eL E0):=⟨Ad rfl,Ad rfl,Ak,Ak,Ad rfl,Ak,Ak,Ak,Ak,Ad rfl,Ak,trivial⟩;rw[oA_eq];cases x with
 |keep n=>exact⟨Ad rfl,Ad rfl,Ak,hraw⟩
 |del k v' l=>exact⟨Ad rfl,Ad rfl,key k v' l rfl,hraw⟩
 |ins k v' l=>exact⟨Ad rfl,Ad rfl,key k v' l rfl,hraw⟩
 |desc e=>exact⟨Ad rfl,Ad rfl,Ak,Ad rfl,Ad rfl,Ad rfl,Ad rfl,Ad rfl,Ad rfl,Ad rfl,Ad rfl,Ad rfl,Ad rfl,Ad rfl,trivial⟩
theorem SX {H:Hp}:∀ {a b a' b':List A},G9 H a a'→G9 H b b'→a.length=a'.length→G9 H (a++b) (a'++b')
 |[],b,[],b',_,h,_=>h
 |x::a,b,y::a',b',h1,h,hl=>⟨h1.1,SX h1.2 h (by simpa using hl)⟩
 |[],b,y::a',b',_,_,hl=>by simp at hl
 |x::a,b,[],b',_,_,hl=>by simp at hl
theorem vj {H:Hp} {R:Wl} {its:List WI} {v:Nat} {g b:Option (Nat × Nat × List T)} (hH:∀ p,H (0::p)=(Yb its v g b R).F 0 p) (hx:ItR R its):J3 H (.osl [0,0] v 14 0 its.length) (MV (its.map WI.op)):=by
 have h1:=hH [0];simp at h1;refine Jh (o:=[0,0]) (u:=v) (off:=0) (len:=its.length) (sz:=14) (xs:=its.map (Vv 0)) (ys:=(its.map WI.op).map oA) (by rw[PC,h1];simp) (by simp) (by simp) (fun y hy=>by
  obtain⟨x,_,rfl⟩:=List.mem_map.1 hy;simp) ?_ ?_
 ·have:∀ l:List OP,A.ones ((l.map oA).flatMap A.cells)=true:=fun l=>by
   induction l with
   |nil=>rfl
   |cons x l ih=>simp[A.ones] at ih ⊢
  exact this _
 ·rw[List.drop_zero,AL (by simp),List.map_map];have:∀ l:List WI,(∀ x,x ∈ l→x ∈ its)→G9 H ((l.map (Vv 0)).flatMap A.cells) ((l.map (oA ∘ WI.op)).flatMap A.cells):=fun l hl=>by
   induction l with
   |nil=>trivial
   |cons x l ih=>
    simp only[List.map_cons,List.flatMap_cons];exact SX (zW hH x fun k v l h=>hx x (hl x (by simp)) k v l h) (ih fun y hy=>hl y (by simp[hy])) (by simp)
  exact this its fun x h=>h
theorem oU (list:Int) (e:E) (h1:e.words.length≤100000000000000) (h2:e.kids.length≤100000000000000):G.Spec Tryz.prog 112 [iv list,eX e] (bv (I9 list e)):=by
 have e1:i64.wrap ((e.words.length:Int)+e.kids.length)=((e.words.length+e.kids.length:Nat):Int):=AP;refine Aj YD (by simp) fun w0 I0=>?_;unfold Qg;by_cases k0:e.kind=0
 ·simp[k0,I9];exact Ad rfl
 ·by_cases k9:list=9
  ·by_cases k2:e.kind=2
   ·simp[k0,k9,k2,I9,e1];refine Bc ?_;rw[Bool.eq_iff_iff];simp only[decide_eq_true_eq,Bool.and_eq_true,List.isEmpty_iff];constructor
    ·intro h;exact⟨List.eq_nil_of_length_eq_zero (by omega),List.eq_nil_of_length_eq_zero (by omega)⟩
    ·rintro⟨h1,h2⟩;rw[h1,h2];rfl
   ·simp[k0,k9,k2,I9];exact Ad rfl
  ·simp[k0,k9,I9];exact Ad rfl
theorem V9 (its:List WI) (g b:Nat × Nat × List T):(its++(FH g++BQ b)).map WI.op=YB (its.map WI.op) g.2.2 b.2.2:=by
 obtain⟨a,c,l⟩:=g;obtain⟨a',c',l'⟩:=b;by_cases h1:l=[]<;>by_cases h2:l'=[]<;>simp[FH,BQ,YB,De,Dn,h1,h2,WI.op]
theorem xN (J:List WI):(∃ i0 m,J=i0++[.keep m])∨(J=[]∨∃ i0 x,J=i0++[x]∧x.op.kind ≠ 0):=by
 rcases List.eq_nil_or_concat J with h | ⟨i0,x,h⟩
 ·exact .inr (.inl h)
 ·rw[List.concat_eq_append] at h;cases x with
  |keep m=>exact .inl ⟨i0,m,h⟩
  |del a b c=>exact .inr (.inr ⟨i0,.del a b c,h,by simp[WI.op]⟩)
  |ins a b c=>exact .inr (.inr ⟨i0,.ins a b c,h,by simp[WI.op]⟩)
  |desc e=>exact .inr (.inr ⟨i0,.desc e,h,by simp[WI.op]⟩)
theorem dh (l:List OP) (m n:Int) (t:List T) (e:E):br (l++[.mk 0 m t e]) n=l++[.mk 0 (i64.wrap (m+n)) t e]:=by simp[br]
theorem lL (n:Int):br [] n=[.mk 0 n [] E0]:=rfl
theorem fm (l:List OP) (x:OP) (n:Int) (h:x.kind ≠ 0):br (l++[x]) n=l++[x]++[.mk 0 n [] E0]:=by
 obtain⟨k,m,t,e⟩:=x;unfold br;rw[List.getLast?_append];simp only[List.getLast?_singleton,Option.some_or];split
 ·rename_i h2;injection h2 with h2;injection h2 with h2;exact absurd h2 h
 ·rfl
structure WrI (its:List WI) (g b:Nat × Nat × List T) (R:Wl) (K:Nat):Prop where
 g1:1≤g.1
 b1:1≤b.1
 gb:g.1 ≠ b.1
 gK:g.1<K
 bK:b.1<K
 Rg:R g.1=some (g.2.1,g.2.2)
 Rb:R b.1=some (b.2.1,b.2.2)
 rK:∀ q,K≤q→R q=none
 it:ItR R its
 ng:∀ x,x ∈ its→∀ k v l,x.row=some (k,v,l)→k ≠ g.1∧k ≠ b.1
theorem WrI.flushed {its:List WI} {g b:Nat × Nat × List T} {R:Wl} {K:Nat} (h:WrI its g b R K):ItR R (its++(FH g++BQ b)):=by
 intro x hx k v l hr;rcases List.mem_append.1 hx with hx | hx
 ·exact h.it x hx k v l hr
 ·rcases List.mem_append.1 hx with hx | hx
  ·obtain⟨a,c,d⟩:=g;by_cases e:d=[]<;>simp[FH,e] at hx
   subst hx;simp[WI.row] at hr;obtain⟨rfl,rfl,rfl⟩:=hr;exact⟨h.Rg,h.g1⟩
  ·obtain⟨a,c,d⟩:=b;by_cases e:d=[]<;>simp[BQ,e] at hx
   subst hx;simp[WI.row] at hr;obtain⟨rfl,rfl,rfl⟩:=hr;exact⟨h.Rb,h.b1⟩
theorem cY {its:List WI} {g b:Nat × Nat × List T} {R:Wl} {K:Nat} (h:WrI its g b R K) (hl:its.length≤1000000) (vo:Nat) (n:Int):∃ its2 v2,Bh Tryz.prog 110 (fun r=>[xG r,iv n]) (Yb its vo (some g) (some b) R) (fun _=>.tup []) (Yb its2 v2 none none R)∧its2.map WI.op=br (YB (its.map WI.op) g.2.2 b.2.2) n∧its2.length≤its.length+3∧ItR R its2:=by
 have hF:=h.flushed;have d1:=TI g;have d2:=NH b;rcases xN (its++(FH g++BQ b)) with ⟨i0,m,hi⟩ | hi
 ·have hlen:=congrArg List.length hi;simp at hlen;refine⟨_,_,ky its i0 vo m n g b R hl h.Rg h.Rb h.g1 h.b1 hi,?_,?_,?_⟩
  ·rw[← V9,hi];simp[WI.op,dh]
  ·simp;omega
  ·rw[hi] at hF;intro x hx k v l hr;rcases List.mem_append.1 hx with hx | hx
   ·exact hF x (by simp[hx]) k v l hr
   ·simp at hx;subst hx;simp[WI.row] at hr
 ·refine⟨_,_,jS its vo n g b R hl h.Rg h.Rb h.g1 h.b1 hi,?_,?_,?_⟩
  ·rw[← V9];rcases hi with hi | ⟨i0,x,hi,hx⟩
   ·rw[hi];simp[lL,WI.op]
   ·rw[hi];simp only[List.map_append,List.map_cons,List.map_nil];rw[fm _ _ _ hx];simp[WI.op]
  ·simp;omega
  ·intro x hx k v l hr;rcases List.mem_append.1 hx with hx | hx
   ·exact hF x hx k v l hr
   ·simp at hx;subst hx;simp[WI.row] at hr
structure OpG (o:OP):Prop where
 k:o.kind=0∨o.kind=1∨o.kind=2∨o.kind=3
 l:∀ t,t ∈ o.l→BH t
 e:o.kind=3→G.Spec Tryz.prog 29 [eX o.e] (eX (RO o.e))∧(RO o.e).words.length≤100000000000000∧(RO o.e).kids.length≤100000000000000
def DP (os:List OP):Nat:=(os.map fun o=>o.l.length).sum
theorem PF (o:OP) (os:List OP):DP (o::os)=o.l.length+DP os:=by simp[DP]
theorem Aaf {list:Int} {os:List OP} (hos:∀ o,o ∈ os→OpG o) (hol:os.length≤300000) {res:List OP}
  (hq:∀ (H:Hp) (its:List WI) (v:Nat) (g b:Nat × Nat × List T) (R:Wl) (K:Nat) st,(∀ p,H (0::p)=(Yb its v (some g) (some b) R).F 0 p)→WrI its g b R K→YB (its.map WI.op) g.2.2 b.2.2=res→its.length≤1000000→Q (.exit 0) ⟨lk ([(0,iv list),(5,xG 0)]++st),H⟩):∀ (m i:Nat) (its:List WI) (v:Nat) (g b:Nat × Nat × List T) (R:Wl) (K:Nat) (H:Hp),i+m=os.length→its.length≤3*i→g.2.2.length+b.2.2.length+DP (os.drop i)≤1000000→WrI its g b R K→(∀ p,H (0::p)=(Yb its v (some g) (some b) R).F 0 p)→GK list ((os.drop i).map VE) (its.map WI.op) g.2.2 b.2.2=res →
  LoopC (cx Tryz.prog w0 I0 n0) GM Q ⟨lk [(0,iv list),(5,xG 0),(11,MV os),(12,iv os.length),(13,iv i)],H⟩:=by
 intro m;induction m with
 |zero=>
  intro i its v g b R K H hm hil hsum hW hH hres;refine Ab Ai GM.eq_1 ?_;have:i=os.length:=by omega
  subst this;rw[List.drop_length,List.map_nil,GK] at hres;simp;exact hq H its v g b R K [(11,MV os),(12,iv os.length),(13,iv os.length),(14,bv false)] hH hW hres (by omega)
 |succ m ih=>
  intro i its v g b R K H hm hil hsum hW hH hres;have hi:i<os.length:=by omega
  have ew:=Av i;have hd:os.drop i=os[i]::os.drop (i+1):=(List.getElem_cons_drop hi).symm;have hO:=hos _ (Bg hi);rw[hd,List.map_cons,GK] at hres;rw[hd,PF] at hsum;have hoi:(os.map oA)[i]? = some (oX os[i]):=by simp[hi]
  generalize ho:os[i]=o at *;have hnk:(VE o).kind=o.kind:=rfl;have hnn:(VE o).n=o.n:=rfl;have hnl:(VE o).l=o.l:=rfl;have hne:(VE o).e=RO o.e:=rfl;rw[hnk,hnn,hnl,hne] at hres
  -- what goes on when all is laid
  have next:∀ (its2:List WI) (v2:Nat) (H2:Hp),its2.length≤its.length+3→(∀ p,H2 (0::p)=(Yb its2 v2 none none R).F 0 p)→ItR R its2→GK list ((os.drop (i+1)).map VE) (its2.map WI.op) [] []=res→LoopC (cx Tryz.prog w0 I0 n0) GM Q ⟨lk [(0,iv list),(5,xG 0),(11,MV os),(12,iv os.length),(13,iv (i+1:Nat))],H2⟩:=fun its2 v2 H2 h1 h2 h3 h4=>by
   obtain⟨H3,hle,hF⟩:=ym (c:=cx Tryz.prog w0 I0 n0) (s:=lk [(0,iv list),(5,xG 0),(11,MV os),(12,iv os.length),(13,iv (i+1:Nat))]) h2 hW.rK (by have:=hW.gK;omega);refine LoopC.le hle ?_;refine ih (i+1) its2 v2 (K,1,[]) (K+1,1,[]) _ (K+2) H3 (by omega) (by omega) (by simp;omega) ?_ hF h4;have hg:=hW.g1;have hgK:=hW.gK;refine⟨by simp;omega,by simp,by simp,by simp,by simp,by simp[GI],by simp[GI],fun q hq=>?_,fun x hx k v' l hr=>?_,fun x hx k v' l hr=>?_⟩
   ·simp[GI,show ¬ q=K+1 by omega,show ¬ q=K by omega];exact hW.rK q (by omega)
   ·obtain⟨a1,a2⟩:=h3 x hx k v' l hr;have hkK:k<K:=by
     by_cases e:K≤k
     ·rw[hW.rK k e] at a1;cases a1
     ·omega
    exact⟨by simp[GI,show ¬ k=K+1 by omega,show ¬ k=K by omega,a1],a2⟩
   ·obtain⟨a1,a2⟩:=h3 x hx k v' l hr;have hkK:k<K:=by
     by_cases e:K≤k
     ·rw[hW.rK k e] at a1;cases a1
     ·omega
    exact⟨by simp;omega,by simp;omega⟩
  refine Ab Ai GM.eq_1 ?_;rcases hO.k with h0 | h0 | h0 | h0
  ·rw[if_pos h0] at hres;obtain⟨its2,v2,S1,S2,S3,S4⟩:=cY hW (by omega) v o.n;rw[← S2] at hres;simp[hi,ho,h0,Aa];refine Aw 0 S1 (fun p=>by simp[Aa,hH]) (by simp) (by simp) ?_;simp[ew];exact next its2 v2 _ S3 (fun p=>by simp) S4 hres
  ·rw[if_neg (by omega),if_pos h0] at hres;have hF:=iG its v g.1 g.2.1 g.2.2 (some b) R hW.Rg hW.g1 (fun x hx=>by cases hx;exact Ne.symm hW.gb) hO.l (by omega);simp[hi,ho,h0,Aa];refine Aw 0 hF (fun p=>by simp[Aa,hH]) (by simp) (by simp) ?_;simp[ew];refine ih (i+1) its v (g.1,g.2.1+o.l.length,g.2.2++o.l.map Ah) b (GI R g.1 (g.2.1+o.l.length) (g.2.2++o.l.map Ah)) K _ (by omega) (by omega) (by simp;omega) ?_ (fun p=>by simp) hres;have w1:=hW.g1;have w2:=hW.gK;refine⟨hW.g1,hW.b1,hW.gb,hW.gK,hW.bK,by simp[GI],?_,fun q hq=>?_,fun x hx k v' l hr=>?_,fun x hx k v' l hr=>hW.ng x hx k v' l hr⟩
   ·simp only[GI,if_neg (Ne.symm hW.gb)];exact hW.Rb
   ·simp only[GI,if_neg (show ¬ q=g.1 by omega)];exact hW.rK q hq
   ·obtain⟨a1,a2⟩:=hW.it x hx k v' l hr;exact⟨by simp only[GI,if_neg (hW.ng x hx k v' l hr).1];exact a1,a2⟩
  ·rw[if_neg (by omega),if_neg (by omega),if_pos h0] at hres;have hF:=iW its v b.1 b.2.1 b.2.2 (some g) R hW.Rb hW.b1 hO.l (by omega);simp[hi,ho,h0,Aa];refine Aw 0 hF (fun p=>by simp[Aa,hH]) (by simp) (by simp) ?_;simp[ew];refine ih (i+1) its v g (b.1,b.2.1+o.l.length,b.2.2++o.l.map Ah) (GI R b.1 (b.2.1+o.l.length) (b.2.2++o.l.map Ah)) K _ (by omega) (by omega) (by simp;omega) ?_ (fun p=>by simp) hres;have w2:=hW.bK;refine⟨hW.g1,hW.b1,hW.gb,hW.gK,hW.bK,?_,by simp[GI],fun q hq=>?_,fun x hx k v' l hr=>?_,fun x hx k v' l hr=>hW.ng x hx k v' l hr⟩
   ·simp only[GI,if_neg hW.gb];exact hW.Rg
   ·simp only[GI,if_neg (show ¬ q=b.1 by omega)];exact hW.rK q hq
   ·obtain⟨a1,a2⟩:=hW.it x hx k v' l hr;exact⟨by simp only[GI,if_neg (hW.ng x hx k v' l hr).2];exact a1,a2⟩
  ·rw[if_neg (by omega),if_neg (by omega),if_neg (by omega)] at hres;obtain⟨E1,E2,E3⟩:=hO.e h0;have hI:=oU list (RO o.e) E2 E3;simp[hi,ho,h0,Aa];refine Ae E1 (by simp) ?_;simp[Aa];refine Ae hI (by simp) ?_;cases hid:I9 list (RO o.e) with
   |true=>
    rw[if_pos hid] at hres;obtain⟨its2,v2,S1,S2,S3,S4⟩:=cY hW (by omega) v 1;rw[← S2] at hres;simp;refine Aw 0 S1 (fun p=>by simp[Aa,hH]) (by simp) (by simp) ?_;simp[ew];exact next its2 v2 _ S3 (fun p=>by simp) S4 hres
   |false=>
    rw[if_neg (by rw[hid];decide),← V9] at hres;have F1:=JN its v g b R (by omega) hW.Rg hW.Rb hW.g1 hW.b1;have d1:=TI g;have d2:=NH b;simp;refine Aw 0 F1 (fun p=>by simp[Aa,hH]) (by simp) (by simp) ?_;have hJl:(its++(FH g++BQ b)).length≤its.length+2:=by simp;omega
    have hJr:=hW.flushed;have next':=next (its++(FH g++BQ b)++[.desc (RO o.e)]) (v+(FH g++BQ b).length+1)
    generalize its++(FH g++BQ b)=J at *;generalize v+(FH g++BQ b).length=v1 at *;simp[Aa,Wb,v8,dQ,ew];refine⟨by omega,by omega,?_⟩;refine next' _ (by simp;omega) (fun p=>?_) (fun x hx k v' l hr=>?_) ?_
    ·by_cases p1:p=[]
     ·subst p1;simp[Aa,PI]
     ·by_cases p2:p=[0]
      ·subst p2;simp[Aa,Vv,Yx]
      ·simp[p1,p2,Aa]
    ·rcases List.mem_append.1 hx with hx | hx
     ·exact hJr x hx k v' l hr
     ·simp at hx;subst hx;simp[WI.row] at hr
    ·simpa[WI.op] using hres
theorem gX {list:Int} {os:List OP} (hos:∀ o,o ∈ os→OpG o) (hol:os.length≤300000) (hsum:DP os≤1000000):G.Spec Tryz.prog 58 [iv list,MV os] (MV (GK list (os.map VE) [] [] [])):=by
 refine Aj bn (by simp) fun w0 I0=>?_;unfold Sn;simp;refine LoopC.le (Bu (d:=[0]) (u:=1) (cs:=[.sl true [],.sl true [],.sl true []]) 0 [0,0] 14 rfl rfl (by simp)) ?_;obtain⟨H3,hle,hF⟩:=ym (c:=cx Tryz.prog w0 I0 72) (s:=lk [(0,iv list),(5,xG 0),(11,MV os),(12,iv os.length),(13,iv (0:Nat))]) (H:=Ay (Ay (EH [([0],⟨1,.cells [.sl true [],.sl true [],.sl true []]⟩)]) [0,0] ⟨1,.arr 14 []⟩) [0] ⟨1,.cells [.osl [0,0] 1 14 0 0,.sl true [],.sl true []]⟩) (its:=[]) (v:=1) (K:=1) (R:=fun _=>none) (fun p=>by
  by_cases p1:p=[]
  ·subst p1;simp[Aa,PI]
  ·by_cases p2:p=[0]
   ·subst p2;simp[Aa]
   ·match p,p1,p2 with
    |[q],p1,p2=>
     have hq0:¬ q=0:=fun e=>p2 (by rw[e]);simp[Aa,mH,hq0,Ne.symm hq0]
    |_::_::_,p1,p2=>simp[Aa,UU]) (fun q _=>rfl) (by omega)
 refine LoopC.le hle ?_;refine Aaf hos hol (res:=GK list (os.map VE) [] [] []) (fun H its v g b R K st hH hW hres hil=>?_) os.length 0 [] 1 (1,1,[]) (1+1,1,[]) _ 3 H3 (by omega) (by simp) (by simpa using hsum) ?_ hF (by simp)
 ·have F1:=JN its v g b R hil hW.Rg hW.Rb hW.g1 hW.b1;have hJr:=hW.flushed;have hm:=V9 its g b;rw[hres] at hm;simp;refine Aw 0 F1 hH (by simp) (by simp) ?_;simp;rw[← hm];have:=vj (H:=ov 0 ((Yb (its++(FH g++BQ b)) (v+(FH g++BQ b).length) none none R).F 0) H) (its:=its++(FH g++BQ b)) (v:=v+(FH g++BQ b).length) (g:=none) (b:=none) (R:=R) (fun p=>by simp) hJr;simpa using this
 ·refine⟨by simp,by simp,by simp,by simp,by simp,by simp[GI],by simp[GI],fun q hq=>?_,fun x hx=>by simp at hx,fun x hx=>by simp at hx⟩;simp[GI,show ¬ q=1 by omega,show ¬ q=2 by omega]
mutual
def VG:E→Prop
 |.mk k o n ws ks l os=>(k=0∨k=1∨k=2∨k=3)∧(k ≠ 3→l=0)∧(k=1→BH o∧BH n)∧ws.length≤1000000∧ks.length≤1000000∧os.length≤300000∧DP os≤1000000∧(k=2→iI ks)∧(k=3→j7 os)
def iI:List KE→Prop
 |[]=>True
 |.mk a e::l=>VG e∧iI l
def j7:List OP→Prop
 |[]=>True
 |.mk k n t e::l=>((k=0∨k=1∨k=2∨k=3)∧(∀ x,x ∈ t→BH x)∧(k=3→VG e))∧j7 l
end
theorem SI:∀ {l:List KE},iI l→∀ x,x ∈ l→VG x.e
 |[],_,x,hx=>by simp at hx
 |.mk a e::l,h,x,hx=>by
  rw[iI] at h;rcases List.mem_cons.1 hx with rfl | hx
  ·exact h.1
  ·exact SI h.2 x hx
theorem Tq:∀ {l:List OP},j7 l→∀ x,x ∈ l→(x.kind=0∨x.kind=1∨x.kind=2∨x.kind=3)∧(∀ t,t ∈ x.l→BH t)∧(x.kind=3→VG x.e)
 |[],_,x,hx=>by simp at hx
 |.mk k n t e::l,h,x,hx=>by
  rw[j7] at h;rcases List.mem_cons.1 hx with rfl | hx
  ·exact h.1
  ·exact Tq h.2 x hx
theorem uA (e:E) (h:VG e):(RO e).words.length≤100000000000000∧(RO e).kids.length≤100000000000000:=by
 obtain⟨k,o,n,ws,ks,l,os⟩:=e;rw[VG] at h;rw[Yr];split
 ·simp
 ·split
  ·simp;omega
  ·split<;>simp
theorem sD {ks:List KE} (hl:ks.length≤1000000) (hk:∀ x,x ∈ ks→G.Spec Tryz.prog 29 [eX x.e] (eX (RO x.e))) {v1 v3:VOb} {W:A}
  (hq:∀ H u st,H [1]=v1→H [3]=v3→H [2]=⟨1,.cells [iv 2,iv 0,.sl true [],.sl true [],iv 0,.sl true [],.sl true [],W,.osl [5] u 12 0 ks.length,iv 0,.sl true []]⟩→H [5]=⟨u,.arr 12 (ks.map (kA ∘ aZ))⟩→Q (.exit 1) ⟨lk ([(2,.pob [1] 1 0),(3,.pob [2] 1 0)]++st),H⟩):∀ (m i u:Nat) (H:Hp),i+m=ks.length→H [1]=v1→H [3]=v3→H [2]=⟨1,.cells [iv 2,iv 0,.sl true [],.sl true [],iv 0,.sl true [],.sl true [],W,.osl [5] u 12 0 i,iv 0,.sl true []]⟩→H [5]=⟨u,.arr 12 ((ks.take i).map (kA ∘ aZ))⟩ →
  LoopC (cx Tryz.prog w0 I0 n0) Hw Q ⟨lk [(2,.pob [1] 1 0),(3,.pob [2] 1 0),(32,kKs ks),(33,iv ks.length),(34,iv i)],H⟩:=by
 intro m;induction m with
 |zero=>
  intro i u H hm h1 h3 h2 h5;refine Ab Ai Hw.eq_1 ?_;have:i=ks.length:=by omega
  subst this;rw[AL (BZ _)] at h5;simp;exact hq H u [(32,kKs ks),(33,iv ks.length),(34,iv ks.length),(35,bv false)] h1 h3 h2 h5
 |succ m ih=>
  intro i u H hm h1 h3 h2 h5;have hi:i<ks.length:=by omega
  have ew:=Av i;have hE:=hk _ (Bg hi);have htk:(ks.take (i+1)).map (kA ∘ aZ)=(ks.take i).map (kA ∘ aZ)++[kA (aZ ks[i])]:=by rw[Fm hi,List.map_append];rfl
  have next:=ih (i+1) (u+1)
  rw[htk] at next
  generalize hx:ks[i]=x at *;refine Ab Ai Hw.eq_1 ?_;simp[hi,hx,Aa,h2];refine Ae hE (by simp[Aa]) ?_;simp[Aa,h2,h5,ew];refine⟨⟨by omega,by omega⟩,?_⟩;refine next _ (by omega) (by simp[Aa,h1]) (by simp[Aa,h3]) (by simp[Aa]) ?_
  simp[Aa,List.take_take,aZ]
theorem kF:∀ e:E,VG e→G.Spec Tryz.prog 29 [eX e] (eX (RO e)):=by
 refine E.ind fun k o n ws ks l os ihk iho h=>?_;rw[VG] at h;obtain⟨hk,hl,hon,hwl,hkl,hol,hsum,hks,hos⟩:=h;refine Aj YF (by simp) fun w0 I0=>?_;unfold Qz;rw[Yr];rcases hk with rfl | rfl | rfl | rfl
 ·simp[hl (by decide)];exact Cn ⟨Ad rfl,Ad rfl,Ak,Ak,Ad rfl,Ak,Ak,Ak,Ak,Ad rfl,Ak,trivial⟩
 ·obtain⟨ho,hn⟩:=hon rfl;simp[hl (by decide)];refine Ae (Ns o ho) (by simp) ?_;simp[Aa];refine Ae (Ns n hn) (by simp) ?_;simp[Aa];exact Cn ⟨Ad rfl,CE (CB o).symm,Ad rfl,Ad rfl,CE (CB n).symm,Ad rfl,Ad rfl,Ak,Ak,Ad rfl,Ak,trivial⟩
 ·simp[hl (by decide)];refine⟨by omega,?_⟩;refine LoopC.le (Bu (d:=[2]) (u:=1) (cs:=[iv 2,iv 0,.sl true [],.sl true [],iv 0,.sl true [],.sl true [],.osl [3] 1 4 0 ws.length,.sl true [],iv 0,.sl true []]) 8 [5] 12 rfl rfl (by simp)) ?_;refine LoopC.le (Ao [(2,.pob [1] 1 0),(3,.pob [2] 1 0),(32,kKs ks),(33,iv ks.length),(34,iv (0:Nat))] (by simp)) ?_;refine sD hkl (fun x hx=>ihk x hx (SI (hks rfl) x hx)) (W:=.osl [3] 1 4 0 ws.length) (fun H u st h1 h3 h2 h5=>?_) ks.length 0 1 _ (by omega) rfl rfl (by simp[Aa]) (by simp[Aa]);have h3':H [3]=⟨1,.arr 4 (ws.map wA)⟩:=by rw[h3];simp[Aa]
  simp[h2,h1,Aa];have fw:=Bx (H:=Ay H [1] ⟨1,.cells [iv 2,iv 0,.sl true [],.sl true [],iv 0,.sl true [],.sl true [],.osl [3] 1 4 0 ws.length,.osl [5] u 12 0 ks.length,iv 0,.sl true []]⟩) (o:=[3]) (u:=1) (sz:=4) (l:=ws) (f:=wA) (n:=ws.length) (by simp[Aa,h3']) rfl (fun x=>rfl);have fk:=Bx (H:=Ay H [1] ⟨1,.cells [iv 2,iv 0,.sl true [],.sl true [],iv 0,.sl true [],.sl true [],.osl [3] 1 4 0 ws.length,.osl [5] u 12 0 ks.length,iv 0,.sl true []]⟩) (o:=[5]) (u:=u) (sz:=12) (l:=ks) (f:=kA ∘ aZ) (n:=ks.length) (by simp[Aa,h5]) rfl (fun x=>by simp);rw[← List.map_map] at fk;exact Cn ⟨Ad rfl,Ad rfl,Ak,Ak,Ad rfl,Ak,Ak,fw,fk,Ad rfl,Ak,trivial⟩
 ·have hO:=gX (list:=l) (os:=os) (fun x hx=>by
   obtain⟨a,b,c⟩:=Tq (hos rfl) x hx;exact⟨a,b,fun h=>⟨iho x hx (c h),uA _ (c h)⟩⟩) hol hsum
  simp;refine Ae hO (by simp[Aa]) ?_;simp[Aa];exact Cn ⟨Ad rfl,Ad rfl,Ak,Ak,Ad rfl,Ak,Ak,Ak,Ak,Ad rfl,Ak,trivial⟩
def Kj:List OP→Nat
 |[]=>0
 |o::l=>if o.kind=1∨o.kind=2 then Kj l+1 else 0
def OJ (k:Int):List OP→List T
 |[]=>[]
 |o::l=>if o.kind=1∨o.kind=2 then (if o.kind=k then o.l.map Ah else [])++OJ k l else []
theorem mn:∀ l,Kj l≤l.length
 |[]=>by simp[Kj]
 |o::l=>by
  have:=mn l;unfold Kj;split<;>simp<;>omega
theorem fN (k:Int):∀ l,(OJ k l).length≤DP l
 |[]=>by simp[OJ]
 |o::l=>by
  have:=fN k l;rw[PF];unfold OJ;split
  ·split<;>simp<;>omega
  ·simp
theorem XA (list:Int):∀ (os:List OP) (out:List OP) (g b:List T),GK list (os.map VE) out g b=GK list ((os.drop (Kj os)).map VE) out (g++OJ 1 os) (b++OJ 2 os)
 |[],out,g,b=>by simp[Kj,OJ]
 |o::os,out,g,b=>by
  have hk:(VE o).kind=o.kind:=rfl;have hl:(VE o).l=o.l:=rfl;by_cases h1:o.kind=1
  ·have h0:¬ o.kind=0:=by omega
   rw[List.map_cons,GK,hk,if_neg h0,if_pos h1,XA list os,hl];simp[Kj,OJ,h1]
  ·by_cases h2:o.kind=2
   ·have h0:¬ o.kind=0:=by omega
    rw[List.map_cons,GK,hk,if_neg h0,if_neg h1,if_pos h2,XA list os,hl];simp[Kj,OJ,h2]
   ·simp[Kj,OJ,h1,h2]
theorem Y0:∀ (os:List OP) (h:Kj os<os.length),os[Kj os].kind ≠ 1∧os[Kj os].kind ≠ 2
 |[],h=>by simp at h
 |o::os,h=>by
  by_cases e:o.kind=1∨o.kind=2
  ·simp[Kj,e] at h ⊢;exact Y0 os h
  ·simp[Kj,e];omega
theorem rQ {ts:List T} (hts:∀ t,t ∈ ts→BH t) (hl:ts.length≤1000000) (hq:∀ H u st,H [0]=⟨u,.arr 3 (ts.map (tA ∘ Ah))⟩→Q (.exit 0) ⟨lk ([(0,Bm ts),(3,.osl [0] u 3 0 ts.length)]++st),H⟩):∀ (m i u:Nat) (H:Hp),i+m=ts.length→H [0]=⟨u,.arr 3 ((ts.take i).map (tA ∘ Ah))⟩ →
  LoopC (cx Tryz.prog w0 I0 n0) Er Q ⟨lk [(0,Bm ts),(3,.osl [0] u 3 0 i),(4,iv i)],H⟩:=by
 intro m;induction m with
 |zero=>
  intro i u H hm hH;refine Ab Ai Er.eq_1 ?_;have:i=ts.length:=by omega
  subst this;rw[AL (BZ _)] at hH;simp;exact hq H u [(4,iv ts.length),(8,bv false)] hH
 |succ m ih=>
  intro i u H hm hH;have hi:i<ts.length:=by omega
  have ew:=Av i;have hN:=EN ts[i] (hts _ (Bg hi));have htk:(ts.take (i+1)).map (tA ∘ Ah)=(ts.take i).map (tA ∘ Ah)++[tA (Ah ts[i])]:=by rw[Fm hi,List.map_append];rfl
  have next:=ih (i+1) (u+1)
  rw[htk] at next
  refine Ab Ai Er.eq_1 ?_;simp[hi];refine Ae hN (by simp) ?_;simp[hH,ew];refine⟨⟨by omega,by omega⟩,?_⟩;refine next _ (by omega) ?_
  simp[Aa,List.take_take]
theorem jg {ts:List T} (hts:∀ t,t ∈ ts→BH t) (hl:ts.length≤1000000):G.Spec Tryz.prog 207 [Bm ts] (Bm (ts.map Ah)):=by
 refine Aj QK (by simp) fun w0 I0=>?_;unfold Kh;simp;refine LoopC.le (Cd 3 [0] 3 (by simp)) ?_;refine LoopC.le (Ao [(0,Bm ts),(3,.osl [0] 1 3 0 0),(4,iv (0:Nat))] (by simp)) ?_;refine rQ hts hl (fun H u st h=>?_) ts.length 0 1 _ (by omega) (by simp[Aa]);simp;have:=Bx (H:=H) (o:=[0]) (u:=u) (sz:=3) (l:=ts) (f:=tA ∘ Ah) (n:=ts.length) (by rw[h];simp) rfl (by simp);rw[← List.map_map] at this;exact this
theorem kR (l:List T):Gh 3 (l.map (tA ∘ Ah))=true:=by rw[I7];simp
theorem Aau {os:List OP} {k:Int} (hk:k=1∨k=2) (hos:∀ o,o ∈ os→∀ t,t ∈ o.l→BH t) (hol:os.length≤1000000) (hsum:∀ o,o ∈ os→o.l.length≤1000000) {res:List T} {n:Nat} (hres:res.length≤10000000)
  (hq:∀ H u st,H [0]=⟨u,.arr 3 (res.map tA)⟩→Q (.exit 0) ⟨lk ([(0,MV os),(2,iv k),(8,.osl [0] u 3 0 res.length),(9,iv n)]++st),H⟩):∀ (m i u:Nat) (g:List T) (H:Hp),i+m=os.length→H [0]=⟨u,.arr 3 (g.map tA)⟩→g++OJ k (os.drop i)=res→i+Kj (os.drop i)=n →
  LoopC (cx Tryz.prog w0 I0 n0) C9 Q ⟨lk [(0,MV os),(2,iv k),(8,.osl [0] u 3 0 g.length),(9,iv i)],H⟩:=by
 intro m;induction m with
 |zero=>
  intro i u g H hm hH hg hn;refine Ab Ai C9.eq_1 ?_;have:i=os.length:=by omega
  subst this;rw[List.drop_length] at hg hn;simp[OJ] at hg;simp[Kj] at hn;subst hg hn;simp;exact hq H u [(30,bv false)] hH
 |succ m ih=>
  intro i u g H hm hH hg hn;have hi:i<os.length:=by omega
  have ew:=Av i;have hd:os.drop i=os[i]::os.drop (i+1):=(List.getElem_cons_drop hi).symm;have hO:=hos _ (Bg hi);have hS:=hsum _ (Bg hi);rw[hd] at hg hn;generalize ho:os[i]=o at *;unfold OJ at hg;unfold Kj at hn;have nrm:=jg hO hS;refine Ab Ai C9.eq_1 ?_;by_cases h12:o.kind=1∨o.kind=2
  ·rw[if_pos h12] at hg hn;have add:∀ H',H' [0]=⟨u+1,.arr 3 ((g++o.l.map Ah).map tA)⟩→o.kind=k→LoopC (cx Tryz.prog w0 I0 n0) C9 Q ⟨lk [(0,MV os),(2,iv k),(8,.osl [0] (u+1) 3 0 (g++o.l.map Ah).length),(9,iv (i+1:Nat))],H'⟩:=fun H' h1 h2=>by
    rw[if_pos h2] at hg;exact ih (i+1) (u+1) (g++o.l.map Ah) H' (by omega) h1 (by rw[← hg];simp) (by omega)
   have skip:o.kind ≠ k→LoopC (cx Tryz.prog w0 I0 n0) C9 Q ⟨lk [(0,MV os),(2,iv k),(8,.osl [0] u 3 0 g.length),(9,iv (i+1:Nat))],H⟩:=fun h2=>by
    rw[if_neg h2] at hg;exact ih (i+1) u g H (by omega) hH (by rw[← hg];simp) (by omega)
   have hgl:g.length≤10000000:=by have:=congrArg List.length hg;simp at this;omega
   rcases hk with rfl | rfl<;>rcases h12 with h | h
   ·simp[hi,ho,h];refine Ae nrm (by simp) ?_;simp[hH,ew,kR];refine⟨by omega,?_⟩;have:=add (Ay H [0] ⟨u+1,.arr 3 ((g++o.l.map Ah).map tA)⟩) (by simp[Aa]) h;simpa[AL] using this
   ·simp[hi,ho,h,ew];have:=skip (by omega);simpa using this
   ·simp[hi,ho,h,ew];have:=skip (by omega);simpa using this
   ·simp[hi,ho,h];refine Ae nrm (by simp) ?_;simp[hH,ew,kR];refine⟨by omega,?_⟩;have:=add (Ay H [0] ⟨u+1,.arr 3 ((g++o.l.map Ah).map tA)⟩) (by simp[Aa]) h;simpa[AL] using this
  ·rw[if_neg h12] at hg hn;have h1:¬ o.kind=1:=fun h=>h12 (.inl h);have h2:¬ o.kind=2:=fun h=>h12 (.inr h);simp at hg hn;subst hg hn;simp[hi,ho,h1,h2];exact hq H u [(30,bv false)] hH
theorem gN:∀ {os:List OP} {o:OP},o ∈ os→o.l.length≤DP os
 |[],o,h=>by simp at h
 |x::os,o,h=>by
  rw[PF];rcases List.mem_cons.1 h with rfl | h
  ·omega
  ·have:=gN h;omega
theorem ff {os:List OP} {k:Int} (hk:k=1∨k=2) (hos:∀ o,o ∈ os→∀ t,t ∈ o.l→BH t) (hol:os.length≤1000000) (hsum:DP os≤1000000) {i:Nat} (hi:i≤os.length):G.Spec Tryz.prog 159 [MV os,iv i,iv k] (.tup [Bm (OJ k (os.drop i)),iv (i+Kj (os.drop i):Nat)]):=by
 have hs1:∀ o,o ∈ os→o.l.length≤DP os:=fun o ho=>by
  exact gN ho
 have hsd:DP (os.drop i)≤DP os:=by
  have:DP os=DP (os.take i)+DP (os.drop i):=by
   unfold DP;rw[← List.sum_append,← List.map_append,List.take_append_drop]
  omega
 have hgl:=fN k (os.drop i);refine Aj Uv (by simp) fun w0 I0=>?_;unfold MB;simp;refine LoopC.le (Cd 8 [0] 3 (by simp)) ?_;refine LoopC.le (Ao [(0,MV os),(2,iv k),(8,.osl [0] 1 3 0 ([]:List T).length),(9,iv i)] (by simp)) ?_;refine Aau hk hos hol (fun o ho=>by have:=hs1 o ho;omega) (res:=OJ k (os.drop i)) (n:=i+Kj (os.drop i)) (by omega) (fun H u st h=>?_) (os.length-i) i 1 [] _ (by omega) (by simp[Aa]) (by simp) rfl;simp;refine J1 ⟨Bx (f:=tA) (by rw[h];simp) rfl (by simp),Ad rfl,trivial⟩
theorem cX (list:Int) (e:E):G.Spec Tryz.prog 160 [iv list,eX e] (bv (I9 list e)):=by
 refine Aj Sh (by simp) fun w0 I0=>?_;unfold LW;by_cases k0:e.kind=0
 ·simp[k0,I9];exact Ad rfl
 ·by_cases k2:e.kind=2
  ·by_cases k9:list=9
   ·by_cases w:e.words=[]
    ·by_cases k:e.kids=[]
     ·simp[k0,k9,k2,I9,w,k];exact Ad rfl
     ·have ke:e.kids.isEmpty=false:=by
       cases h:e.kids with
       |nil=>exact absurd h k
       |cons=>rfl
      simp[k0,k9,k2,I9,w,k,ke];exact Ad rfl
    ·have we:e.words.isEmpty=false:=by
      cases h:e.words with
      |nil=>exact absurd h w
      |cons=>rfl
     simp[k0,k9,k2,I9,w,we];exact Ad rfl
   ·simp[k0,k9,k2,I9];exact Ad rfl
  ·simp[k0,k2,I9];exact Ad rfl
inductive RI where
 |keep (n:Int)
 |del (l:List T)
 |ins (l:List T)
 |desc (e:E)
def RI.op:RI→OP
 |.keep n=>.mk 0 n [] E0
 |.del l=>.mk 1 0 l E0
 |.ins l=>.mk 2 0 l E0
 |.desc e=>.mk 3 0 [] e
def Ra:RI→List A
 |.keep n=>iv 0::iv n :: .sl true []::BB
 |.del l=>iv 1::iv 0::Bm l::BB
 |.ins l=>iv 2::iv 0::Bm l::BB
 |.desc e=>iv 3::iv 0 :: .sl true []::eL e
def Nd (x:RI):A:=.agg (Ra x)
@[simp] theorem Abx {x:RI}:(Nd x).cells=Ra x:=rfl
@[simp] theorem AgT {x:RI}:(Ra x).length=14:=by cases x<;>rfl
theorem r8 {H:Hp} (x:RI):G9 H (Ra x) (oA x.op).cells:=by
 have hraw:G9 H BB (eL E0):=⟨Ad rfl,Ad rfl,Ak,Ak,Ad rfl,Ak,Ak,Ak,Ak,Ad rfl,Ak,trivial⟩;rw[oA_eq];cases x with
 |keep n=>exact⟨Ad rfl,Ad rfl,Ak,hraw⟩
 |del l=>exact⟨Ad rfl,Ad rfl,Ad rfl,hraw⟩
 |ins l=>exact⟨Ad rfl,Ad rfl,Ad rfl,hraw⟩
 |desc e=>exact⟨Ad rfl,Ad rfl,Ak,Ad rfl,Ad rfl,Ad rfl,Ad rfl,Ad rfl,Ad rfl,Ad rfl,Ad rfl,Ad rfl,Ad rfl,Ad rfl,trivial⟩
theorem lR {H:Hp} {o:Nm} {u n:Nat} {its:List RI} (h1:H o=⟨u,.arr 14 (its.map Nd)⟩) (hn:n=its.length):J3 H (.osl o u 14 0 n) (MV (its.map RI.op)):=by
 subst hn;refine Jh (o:=o) (u:=u) (off:=0) (len:=its.length) (sz:=14) (xs:=its.map Nd) (ys:=(its.map RI.op).map oA) (by rw[PC,h1];simp) (by simp) (by simp) (fun y hy=>by
  obtain⟨x,_,rfl⟩:=List.mem_map.1 hy;simp) ?_ ?_
 ·have:∀ l:List OP,A.ones ((l.map oA).flatMap A.cells)=true:=fun l=>by
   induction l with
   |nil=>rfl
   |cons x l ih=>simp[A.ones] at ih ⊢
  exact this _
 ·rw[List.drop_zero,AL (by simp),List.map_map];have:∀ l:List RI,G9 H ((l.map Nd).flatMap A.cells) ((l.map (oA ∘ RI.op)).flatMap A.cells):=fun l=>by
   induction l with
   |nil=>trivial
   |cons x l ih=>
    simp only[List.map_cons,List.flatMap_cons];exact SX (r8 x) ih (by simp)
  exact this its
theorem lj (l:List RI) (x:A):(l.map Nd++[x])[l.length]? = some x:=by rw[List.getElem?_append_right (by simp)];simp
theorem Wg (l:List RI):List.take l.length (l.map Nd)=l.map Nd:=AL (by simp)
theorem SD (l:List RI) (x:A):List.take (l.length+1) (l.map Nd++[x])=l.map Nd++[x]:=AL (by simp)
def QV (g:List T):List RI:=if g=[] then [] else [.del g]
def RC (b:List T):List RI:=if b=[] then [] else [.ins b]
theorem AaM (its:List RI) (g b:List T):(its++(QV g++RC b)).map RI.op=YB (its.map RI.op) g b:=by
 by_cases h1:g=[]<;>by_cases h2:b=[]<;>simp[QV,RC,YB,De,Dn,h1,h2,RI.op]
theorem xj (J:List RI):(∃ i0 m,J=i0++[.keep m])∨(J=[]∨∃ i0 x,J=i0++[x]∧x.op.kind ≠ 0):=by
 rcases List.eq_nil_or_concat J with h | ⟨i0,x,h⟩
 ·exact .inr (.inl h)
 ·rw[List.concat_eq_append] at h;cases x with
  |keep m=>exact .inl ⟨i0,m,h⟩
  |del a=>exact .inr (.inr ⟨i0,.del a,h,by simp[RI.op]⟩)
  |ins a=>exact .inr (.inr ⟨i0,.ins a,h,by simp[RI.op]⟩)
  |desc e=>exact .inr (.inr ⟨i0,.desc e,h,by simp[RI.op]⟩)
inductive IT where
 |r (x:RI)
 |got (o:OP)
def IT.op:IT→OP
 |.r x=>x.op
 |.got o=>o
def Zw:IT→List A
 |.r x=>Ra x
 |.got o=>(oA o).cells
def NF (x:IT):A:=.agg (Zw x)
@[simp] theorem Abu {x:IT}:(NF x).cells=Zw x:=rfl
@[simp] theorem Ahf {x:IT}:(Zw x).length=14:=by
 cases x with
 |r x=>simp[Zw]
 |got o=>simp[Zw]
theorem CG {l:List IT}:Gh 14 (l.map NF)=true:=by rw[I7];simp
theorem AaG {H:Hp} (x:IT):G9 H (Zw x) (oA x.op).cells:=by
 cases x with
 |r x=>exact r8 x
 |got o=>exact M8 (by simp[Zw])
theorem R7 {H:Hp} {o:Nm} {u n:Nat} {its:List IT} (h1:H o=⟨u,.arr 14 (its.map NF)⟩) (hn:n=its.length):J3 H (.osl o u 14 0 n) (MV (its.map IT.op)):=by
 subst hn;refine Jh (o:=o) (u:=u) (off:=0) (len:=its.length) (sz:=14) (xs:=its.map NF) (ys:=(its.map IT.op).map oA) (by rw[PC,h1];simp) (by simp) (by simp) (fun y hy=>by
  obtain⟨x,_,rfl⟩:=List.mem_map.1 hy;simp) ?_ ?_
 ·have:∀ l:List OP,A.ones ((l.map oA).flatMap A.cells)=true:=fun l=>by
   induction l with
   |nil=>rfl
   |cons x l ih=>simp[A.ones] at ih ⊢
  exact this _
 ·rw[List.drop_zero,AL (by simp),List.map_map];have:∀ l:List IT,G9 H ((l.map NF).flatMap A.cells) ((l.map (oA ∘ IT.op)).flatMap A.cells):=fun l=>by
   induction l with
   |nil=>trivial
   |cons x l ih=>
    simp only[List.map_cons,List.flatMap_cons];exact SX (AaG x) ih (by simp)
  exact this its
theorem rI {H:Hp} (k:Int) (l:List T):J3 H (.sl true [.agg (iv k::iv 0::Bm l::BB)]) (MV [OP.mk k 0 l E0]):=by
 have h:=rj (H:=H) (a:=.sl true [.agg (iv k::iv 0::Bm l::BB)]) (by simp[BB]);have e:(A.sl true [.agg (iv k::iv 0::Bm l::BB)]).soft=MV [OP.mk k 0 l E0]:=by simp[A.soft,A.softL,BB,tx]
 rw[e] at h;exact h
theorem Ys (k:Int) (l:List T):G.Spec Tryz.prog 223 [iv k,Bm l] (MV (if l=[] then [] else [.mk k 0 l E0])):=by
 refine Aj da (by simp) fun w0 I0=>?_;unfold U0;by_cases h:l=[]
 ·simp[h];exact Ak
 ·have:¬ l.length=0:=by simpa using h
  simp[h,this];exact rI k l
theorem NJ (l:List T):G.Spec Tryz.prog 180 [Bm l] (MV (De l)):=by
 refine Aj YG (by simp) fun w0 I0=>?_;unfold Qq;simp;refine Ae (Ys 1 l) (by simp) ?_;simp;exact Ad (by simp)
theorem NN (l:List T):G.Spec Tryz.prog 179 [Bm l] (MV (Dn l)):=by
 refine Aj YR (by simp) fun w0 I0=>?_;unfold Ql;simp;refine Ae (Ys 2 l) (by simp) ?_;simp;exact Ad (by simp)
theorem Ti (t:T) (i:Nat):G.Spec Tryz.prog 162 [tX t,iv i] (uv (t.words.getD i 0)):=by
 refine Aj Sb (by simp) fun w0 I0=>?_;unfold Ls;by_cases h:i<t.words.length
 ·simp[h];exact Ad rfl
 ·simp[h,List.getElem?_eq_none (Nat.le_of_not_lt h)];exact Ad rfl
theorem US (t:T) (i:Nat):G.Spec Tryz.prog 164 [tX t,iv i] (tX (t.kids.getD i T0)):=by
 refine Aj Ug (by simp) fun w0 I0=>?_;unfold M9;by_cases h:i<t.kids.length
 ·simp[h];exact Ad rfl
 ·simp[h,List.getElem?_eq_none (Nat.le_of_not_lt h)];exact Cn ⟨Ad rfl,Ak,Ak,trivial⟩
theorem zE {l:List IT}:∀ x,x ∈ l.map NF→EU (fun _=>x):=fun x hx=>by
 obtain⟨o,_,rfl⟩:=List.mem_map.1 hx;refine Ez (cs:=Zw o) rfl fun y hy=>?_;cases o with
 |r o=>exact List.all_eq_true.1 (show(Zw (.r o)).all A.bare1=true by cases o<;>rfl) y hy
 |got o=>exact List.all_eq_true.1 (show(Zw (.got o)).all A.bare1=true by simp[Zw,A.bare1]) y hy
abbrev itM (u:Nat) (l:List IT):Fam:=ta u 14 (l.map NF) zE
def Yu (k:Int) (l:List T):List IT:=if l=[] then [] else if k=1 then [.r (.del l)] else [.r (.ins l)]
theorem KD (out:List IT) (u:Nat) (hu:1≤u) (hl:out.length≤1000000) {k:Int} (hk:k=1∨k=2) (l:List T):Bh Tryz.prog 168 (fun r=>[.osl [r] u 14 0 out.length,iv k,Bm l]) (itM u out) (fun r=>.osl [r] (u+(Yu k l).length) 14 0 (out++Yu k l).length) (itM (u+(Yu k l).length) (out++Yu k l)):=by
 refine AE SO (by simp) (Af Cu (Af Au (Af Dl Am))) Cu fun w0 I0 M0 m0=>?_;unfold K7;by_cases h:l=[]
 ·simp[h,Yu];exact AM rfl rfl (fun p=>by simp)
 ·have:¬ l.length=0:=by simpa using h
  rcases hk with rfl | rfl
  ·simp[h,this,Yu,CG];refine⟨by omega,?_⟩;refine AM rfl rfl (fun p=>?_);by_cases h1:p=[]
   ·subst h1;simp[Aa,NF,Zw,Ra,BB,AL]
   ·simp[h1,Aa]
  ·simp[h,this,Yu,CG];refine⟨by omega,?_⟩;refine AM rfl rfl (fun p=>?_);by_cases h1:p=[]
   ·subst h1;simp[Aa,NF,Zw,Ra,BB,AL]
   ·simp[h1,Aa]
theorem AeX {a b:List T} (hb:∀ t,t ∈ b→BH t) (hbl:b.length≤1000000) {most:Int} {x:T} (hx:BH x) {R:A} {N i w:Nat} {H0:Hp}
  (hq:∀ (H':Hp) (v:Nat),H' [2]=⟨v,.arr 1 ((b.map fun y=>(EZ x y:Int)).map iv)⟩→(∀ o,o ≠ [1]→o ≠ [2]→H' o=H0 o)→Q (.exit 2) ⟨lk [(1,Bm a),(2,Bm b),(3,iv most),(9,R),(11,.pob [0] w 0),(12,.osl [2] v 1 0 b.length),(20,Bm a),(21,iv N),(22,iv i),(26,Bm b),(27,iv b.length),(28,iv b.length),(29,bv false)],H'⟩) :
  ∀ (m j:Nat) (v:Nat) (H:Hp),j+m=b.length→H [0]=⟨w,.cells (tL x)⟩→H [2]=⟨v,.arr 1 (((b.take j).map fun y=>(EZ x y:Int)).map iv)⟩→(∀ o,o ≠ [1]→o ≠ [2]→H o=H0 o) →
  LoopC (cx Tryz.prog w0 I0 n0) LI Q ⟨lk [(1,Bm a),(2,Bm b),(3,iv most),(9,R),(11,.pob [0] w 0),(12,.osl [2] v 1 0 j),(20,Bm a),(21,iv N),(22,iv i),(26,Bm b),(27,iv b.length),(28,iv j)],H⟩:=by
 intro m;induction m with
 |zero=>
  intro j v H hm h0 h2 hH;have:j=b.length:=by omega
  subst this;rw[AL (BZ _)] at h2;refine Ab Ai LI.eq_1 ?_;simp;exact hq H v h2 hH
 |succ m ih=>
  intro j v H hm h0 h2 hH;have hlt:j<b.length:=by omega
  have ew:=Av j;have htk:b.take (j+1)=b.take j++[b[j]]:=Fm hlt;have next:=ih (j+1)
  rw[htk] at next
  refine Ab Ai LI.eq_1 ?_;simp[hlt,h0,Aa];refine Ae (dJ hx (hb _ (Bg hlt))) (by simp) ?_;simp[h2,Aa,Nat.min_eq_left (Nat.le_of_lt hlt)];refine⟨by omega,?_⟩;rw[ew];refine next (v+1) _ (by omega) (by simp[Aa,h0]) ?_ (fun o h1 h2'=>by simp[Aa,h1,h2',hH])
  simp[Aa];rw[Fm (by simpa using hlt)];simp[List.take_take]
abbrev aG (r:List Int):A:=.sl false (r.map iv)
theorem Aev {a b:List T} (ha:∀ t,t ∈ a→BH t) (hb:∀ t,t ∈ b→BH t) (hal:a.length≤1000000) (hbl:b.length≤1000000) {most:Int}
  (hq:∀ (H':Hp),H' [3]=⟨a.length+1,.arr 1 ((KX a b).map aG)⟩→H' [5]=⟨0,.none⟩→Q (.exit 0) ⟨lk [(1,Bm a),(2,Bm b),(3,iv most),(9,.osl [3] (a.length+1) 1 0 a.length),(20,Bm a),(21,iv a.length),(22,iv a.length),(23,bv false)],H'⟩) :
  ∀ (m i:Nat) (H:Hp),i+m=a.length→H [3]=⟨i+1,.arr 1 ((KX (a.take i) b).map aG)⟩→H [5]=⟨0,.none⟩ →
  LoopC (cx Tryz.prog w0 I0 n0) K9 Q ⟨lk [(1,Bm a),(2,Bm b),(3,iv most),(9,.osl [3] (i+1) 1 0 i),(20,Bm a),(21,iv a.length),(22,iv i)],H⟩:=by
 intro m;induction m with
 |zero=>
  intro i H hm h3 h5;have:i=a.length:=by omega
  subst this;rw[AL (BZ _)] at h3;refine Ab Ai K9.eq_1 ?_;simp;exact hq H h3 h5
 |succ m ih=>
  intro i H hm h3 h5;have hlt:i<a.length:=by omega
  have ew:=Av i;have htk:a.take (i+1)=a.take i++[a[i]]:=Fm hlt;have next:=ih (i+1)
  rw[htk] at next
  have hrl:(KX (a.take i) b).length=i:=by simp[KX];omega
  refine Ab Ai K9.eq_1 ?_;simp[hlt];refine LoopC.le (Cd 12 [2] 1 (by simp)) ?_;refine LoopC.le (Ao [(1,Bm a),(2,Bm b),(3,iv most),(9,.osl [3] (i+1) 1 0 i),(11,.pob [0] ((H [0]).u+1) 0),(12,.osl [2] ((H [2]).u+1) 1 0 0),(20,Bm a),(21,iv a.length),(22,iv i),(26,Bm b),(27,iv b.length),(28,iv (0:Nat))] (by simp[upd,Aa])) ?_;refine AeX (a:=a) hb hbl (ha _ (Bg hlt)) (H0:=Ay H [0] ⟨(H [0]).u+1,.cells (tL a[i])⟩) (fun H' v g2 gH=>?_) b.length 0 ((H [2]).u+1) _ (by omega) (by simp[Aa]) (by simp[Aa]) (fun o h1 h2=>by simp[Aa,h1,h2]);simp;refine Cm (FW (d:=[2]) (fun _ h=>h) 12 (aG (b.map fun y=>(EZ a[i] y:Int))) fun H1 e1=>?_) ?_
  ·simp;exact Bx (f:=iv) (l:=b.map fun y=>(EZ a[i] y:Int)) (by rw[e1,g2];simp) (by simp) (fun x=>by simp)
  ·refine Cm (Ao [(1,Bm a),(2,Bm b),(3,iv most),(9,.osl [3] (i+1) 1 0 i),(12,aG (b.map fun y=>(EZ a[i] y:Int))),(20,Bm a),(21,iv a.length),(22,iv i)] (by simp[upd])) (CQ ?_);have g3:H' [3]=H [3]:=by rw[gH _ (by simp) (by simp)];simp[Aa]
   have g5:H' [5]=H [5]:=by rw[gH _ (by simp) (by simp)];simp[Aa]
   simp[Aa,g3,h3,hrl];refine⟨by omega,?_⟩;rw[ew];refine next _ (by omega) ?_ (by simp[Aa,g5,h5])
   have e1:List.take i (List.map aG (KX (List.take i a) b))=List.map aG (KX (List.take i a) b):=AL (by simp[KX];omega);simp[Aa,e1,KX];rw[Fm (by simpa using hlt)];simp[List.take_take]
def jn (la lb:Nat):Nat→Nat→List Sc→Prop
 |i,j,[]=>i≤la∧j≤lb
 |i,j,x::P=>i≤x.i∧j≤x.j∧x.i<la∧x.j<lb∧jn la lb (x.i+1) (x.j+1) P
theorem dk {la lb:Nat}:∀ (P:List Sc) (i j:Nat),i≤la→j≤lb→(∀ x,x ∈ P→i≤x.i∧j≤x.j∧x.i<la∧x.j<lb)→(P.Pairwise fun p q=>p.i<q.i∧p.j<q.j)→jn la lb i j P
 |[],i,j,h1,h2,_,_=>⟨h1,h2⟩
 |x::P,i,j,h1,h2,h3,h4=>by
  obtain⟨g1,g2,g3,g4⟩:=h3 x (by simp);rw[List.pairwise_cons] at h4;refine⟨g1,g2,g3,g4,dk P _ _ (by omega) (by omega) (fun y hy=>?_) h4.2⟩;have:=h4.1 y hy;obtain⟨k1,k2,k3,k4⟩:=h3 y (by simp[hy]);omega
theorem W7 (a b:List T):jn a.length b.length 0 0 (YL (KX a b)):=by
 obtain⟨h,_⟩:=b7 (KX a b);obtain⟨h1,h2⟩:=Hb h;obtain⟨g1,g2⟩:=Kt h1;refine dk _ 0 0 (by omega) (by omega) (fun x hx=>?_) ?_
 ·obtain⟨_,_,_,_,r,k1,k2⟩:=Kb (h2 x (g2.subset hx));have l1:=(List.getElem?_eq_some_iff.1 k1).1;have e1:=(List.getElem?_eq_some_iff.1 k1).2;have l2:=(List.getElem?_eq_some_iff.1 k2).1;rw[← e1] at l2;simp[KX] at l1 l2;omega
 ·have hp:(YL (KX a b)).Pairwise fun p q=>V5 p q=true:=by
   refine(List.Perm.pairwise_iff (fun {p q} h=>?_) g2).2 h1;unfold V5 at h ⊢;simp at h ⊢;omega
  have hr:(YL (KX a b)).Pairwise fun p q=>p.i<q.i:=g1;refine(hp.and hr).imp fun {p q} h=>?_;obtain⟨h1,h2⟩:=h;unfold V5 at h1;simp at h1;omega
theorem Adb {one:T→T→E} {a b:List T} (hal:a.length≤1000000) (hbl:b.length≤1000000) {most:Int} (hone:∀ x,x ∈ a→∀ y,y ∈ b→G.Spec Tryz.prog 30 [tX x,tX y,iv most] (eX (one x y))) {P:List Sc} (hP:P.length≤1000) {R:List OP}
  (hq:∀ (H':Hp) (its:List IT) (v i j:Nat),i≤a.length→j≤b.length→its.length≤3*P.length→R=KY one a b [] i j (its.map IT.op)→H' [5]=⟨v,.arr 14 (its.map NF)⟩→Q (.exit 4) ⟨lk [(1,Bm a),(2,Bm b),(3,iv most),(15,.osl [5] v 14 0 its.length),(16,iv i),(17,iv j),(45,Vy P),(46,iv P.length),(47,iv P.length),(48,bv false)],H'⟩) :
  ∀ (m k i j v:Nat) (its:List IT) (H:Hp),k+m=P.length→jn a.length b.length i j (P.drop k)→its.length≤3*k→R=KY one a b (P.drop k) i j (its.map IT.op)→H [5]=⟨v,.arr 14 (its.map NF)⟩ →
  LoopC (cx Tryz.prog w0 I0 n0) Lv Q ⟨lk [(1,Bm a),(2,Bm b),(3,iv most),(15,.osl [5] v 14 0 its.length),(16,iv i),(17,iv j),(45,Vy P),(46,iv P.length),(47,iv k)],H⟩:=by
 intro m;induction m with
 |zero=>
  intro k i j v its H hm hk hl hR h5;have:k=P.length:=by omega
  subst this;rw[List.drop_length] at hk hR;refine Ab Ai Lv.eq_1 ?_;simp;exact hq H its v i j hk.1 hk.2 hl hR h5
 |succ m ih=>
  intro k i j v its H hm hk hl hR h5;have hlt:k<P.length:=by omega
  have ew:=Av k;have hd:P.drop k=P[k]::P.drop (k+1):=(List.getElem_cons_drop hlt).symm;rw[hd] at hk hR;have next:=ih (k+1)
  generalize hx:P[k]=x at *;obtain⟨k1,k2,k3,k4,k5⟩:=hk;rw[KY] at hR;have ei:i64.wrap ((x.i:Int)+1)=((x.i+1:Nat):Int):=AP;have ej:i64.wrap ((x.j:Int)+1)=((x.j+1:Nat):Int):=AP;have hO:=hone _ (Bg k3) _ (Bg k4);have D1:=NJ ((a.take x.i).drop i);have D2:=NN ((b.take x.j).drop j);refine Ab Ai Lv.eq_1 ?_;have f1:x.i≤a.length:=by omega
  have f2:x.j≤b.length:=by omega
  have dl:∀ l,(De l).length≤1:=fun l=>by unfold De;split<;>simp
  have il:∀ l,(Dn l).length≤1:=fun l=>by unfold Dn;split<;>simp
  have d1:=dl ((a.take x.i).drop i);have d2:=il ((b.take x.j).drop j);simp[hlt,hx,H7,Pz,Aa,k1,k2,f1,f2,h5];simp only[← List.map_drop,← List.map_take];simp only[List.drop_take] at D1 D2 hR d1 d2;refine Ae D1 (by simp) ?_;generalize De ((a.drop i).take (x.i-i))=D at *;generalize hI:Dn ((b.drop j).take (x.j-j))=I at *;simp[k1,k2,f1,f2,h5,Aa,CG];have hgot:∀ D:List OP,D.map oA=(D.map IT.got).map NF:=fun D=>by
   rw[List.map_map];refine List.map_congr_left fun o _=>?_;simp[NF,Zw]
  refine⟨by omega,?_⟩;simp only[← List.map_drop,← List.map_take];refine Ae D2 (by simp) ?_;simp[k3,k4,Aa,CG];refine⟨by omega,?_⟩;refine Ae hO (by simp) ?_;simp[ei,ej,ew,Aa,CG];refine⟨by omega,?_⟩;have e1:a.getD x.i T0=a[x.i]:=by simp[k3]
  have e2:b.getD x.j T0=b[x.j]:=by simp[k4]
  rw[e1,e2] at hR;have hop:∀ D:List OP,(D.map IT.got).map IT.op=D:=fun D=>by
   rw[List.map_map];exact List.map_id' _
  have hrow:List.take (its.length+D.length+I.length) (List.take (its.length+D.length) (List.map NF its++List.map oA D)++List.map oA I)++[A.agg (A.v (Value.int i64 3)::A.v (Value.int i64 0)::A.sl true []::eL (one a[x.i] b[x.j]))]=(its++D.map IT.got++I.map IT.got++[IT.r (.desc (one a[x.i] b[x.j]))]).map NF:=by
   rw[AL (by simp),AL (by simp),hgot D,hgot I];simp[NF,Zw,Ra]
  rw[hrow];have nx:=next (x.i+1) (x.j+1) (v+1+1+1) (its++D.map IT.got++I.map IT.got++[IT.r (.desc (one a[x.i] b[x.j]))]) (Ay (Ay H [4] ⟨(H [4]).u+1,.cells [iv x.i,iv x.j]⟩) [5] ⟨v+1+1+1,.arr 14 ((its++D.map IT.got++I.map IT.got++[IT.r (.desc (one a[x.i] b[x.j]))]).map NF)⟩) (by omega) k5 (by simp;omega) (by rw[hR];congr 1;simp[hop,IT.op,RI.op]) (by simp[Aa])
  have hlen:(its++D.map IT.got++I.map IT.got++[IT.r (.desc (one a[x.i] b[x.j]))]).length=its.length+D.length+I.length+1:=by simp;omega
  rw[hlen] at nx;simpa using nx
theorem Zj {one:T→T→E} {a b:List T} (ha:∀ t,t ∈ a→BH t) (hb:∀ t,t ∈ b→BH t) (hal:a.length≤1000000) (hbl:b.length≤1000000) {most q:Int} (hone:∀ x,x ∈ a→∀ y,y ∈ b→G.Spec Tryz.prog 30 [tX x,tX y,iv most] (eX (one x y))) :
  G.Spec Tryz.prog 154 [iv q,Bm a,Bm b,iv most] (MV (D8 one a b)):=by
 obtain⟨hpk,hp16⟩:=b7 (KX a b);have hPl:(YL (KX a b)).length≤16:=by
  have:=(Kt (Hb hpk).1).2.length_eq;unfold YL;omega
 have hPick:=o9 (KX a b) (by simp[KX];omega) (fun r hr=>by
  obtain⟨x,_,rfl⟩:=List.mem_map.1 hr;simp;omega) hpk hp16
 refine Aj i9 (by simp) fun w0 I0=>?_;unfold WZ;simp;refine LoopC.le (Cd 9 [3] 1 (by simp)) ?_;refine LoopC.le (Ao [(1,Bm a),(2,Bm b),(3,iv most),(9,.osl [3] (0+1) 1 0 0),(20,Bm a),(21,iv a.length),(22,iv (0:Nat))] (by simp[upd])) ?_;refine Aev ha hb hal hbl (fun H' h3 h5=>?_) a.length 0 _ (by omega) (by simp[KX]) (by simp[Aa]);simp;refine Cm (FW (d:=[3]) (fun _ h=>h) 9 (L8 (KX a b)) fun H1 e1=>?_) ?_
 ·simp;exact Bx (f:=aG) (l:=KX a b) (by rw[e1,h3];simp) (by simp[KX]) (fun x=>by simp)
 ·refine Cm (Ao [(1,Bm a),(2,Bm b),(3,iv most),(9,L8 (KX a b)),(15,.sl true []),(16,iv 0),(17,iv 0)] (by simp[upd])) (CQ ?_);simp;refine Ae hPick (by simp) ?_;simp;refine LoopC.le (Cd 15 [5] 14 (by simp)) ?_;refine LoopC.le (Ao [(1,Bm a),(2,Bm b),(3,iv most),(15,.osl [5] 1 14 0 ([]:List IT).length),(16,iv (0:Nat)),(17,iv (0:Nat)),(45,Vy (YL (KX a b))),(46,iv (YL (KX a b)).length),(47,iv (0:Nat))] (by simp[upd,Aa,h5,YL])) ?_;refine Adb (one:=one) (a:=a) (b:=b) hal hbl hone (P:=YL (KX a b)) (by omega) (R:=D8 one a b) (fun H2 its v i j hi hj hl hR k5=>?_) _ 0 0 0 1 [] _ (Nat.zero_add _) (W7 a b) (by simp) rfl (by simp[Aa,h5]);have D1:=NJ ((a.drop i).take (a.length-i));have D2:=NN ((b.drop j).take (b.length-j));have dl:∀ l,(De l).length≤1:=fun l=>by unfold De;split<;>simp
  have il:∀ l,(Dn l).length≤1:=fun l=>by unfold Dn;split<;>simp
  have d1:=dl ((a.drop i).take (a.length-i));have d2:=il ((b.drop j).take (b.length-j));have ea:(a.drop i).take (a.length-i)=a.drop i:=AL (by simp);have eb:(b.drop j).take (b.length-j)=b.drop j:=AL (by simp);have hR2:D8 one a b=its.map IT.op++De ((a.drop i).take (a.length-i))++Dn ((b.drop j).take (b.length-j)):=by rw[ea,eb,hR,KY]
  clear ea eb;rw[hR2];have hgot:∀ D:List OP,D.map oA=(D.map IT.got).map NF:=fun D=>by
   rw[List.map_map];refine List.map_congr_left fun o _=>?_;simp[NF,Zw]
  have hop:∀ D:List OP,(D.map IT.got).map IT.op=D:=fun D=>by
   rw[List.map_map];exact List.map_id' _
  clear hR2;generalize De ((a.drop i).take (a.length-i))=D at *;generalize Dn ((b.drop j).take (b.length-j))=I at *;simp[hi,hj];simp only[← List.map_drop,← List.map_take];refine Ae D1 (by simp) ?_;simp[hj,k5,Aa,CG];refine⟨by omega,?_⟩;simp only[← List.map_drop,← List.map_take];refine Ae D2 (by simp) ?_;simp[Aa,CG];refine⟨by omega,?_⟩;have hf:∀ H:Hp,H [5]=⟨v+1+1,.arr 14 ((its++D.map IT.got++I.map IT.got).map NF)⟩→J3 H (.osl [5] (v+1+1) 14 0 (its.length+D.length+I.length)) (MV (its.map IT.op++(D++I))):=fun H hH=>by
   have:=R7 hH (n:=its.length+D.length+I.length) (by simp;omega);simpa[hop] using this
  refine hf _ ?_;rw[hgot D,hgot I,AL (by simp)];simp[Aa]
theorem T5 {gap:List T→List T→List OP} {s:Sp} (h:s.k=0) (ss:List Sp) (a b:List T) (out:List OP):CX gap (s::ss) a b out=CX gap ss (a.drop s.n) (b.drop s.n) (out++[.mk 0 s.n [] E0]):=by
 cases ss with
 |nil=>simp[CX,h]
 |cons s2 ss=>simp[CX,h]
theorem WN {gap:List T→List T→List OP} {s:Sp} (h:s.k=2) (ss:List Sp) (a b:List T) (out:List OP):CX gap (s::ss) a b out=CX gap ss a (b.drop s.n) (out++Dn (b.take s.n)):=by
 cases ss with
 |nil=>simp[CX,h]
 |cons s2 ss=>simp[CX,h]
theorem SN {gap:List T→List T→List OP} {s s2:Sp} (h:s.k=1) (h2:s2.k=2) (ss:List Sp) (a b:List T) (out:List OP):CX gap (s::s2::ss) a b out=CX gap ss (a.drop s.n) (b.drop s2.n) (out++gap (a.take s.n) (b.take s2.n)):=by
 simp[CX,h,h2]
theorem WH {gap:List T→List T→List OP} {s:Sp} (h:s.k=1) {ss:List Sp} (h2:∀ s2 r,ss=s2::r→s2.k ≠ 2) (a b:List T) (out:List OP):CX gap (s::ss) a b out=CX gap ss (a.drop s.n) b (out++De (a.take s.n)):=by
 cases ss with
 |nil=>simp[CX,h]
 |cons s2 ss=>simp[CX,h,h2 s2 ss rfl]
theorem fV (one:T→T→E) (a b:List T):∀ (P:List Sc) (i j:Nat) (out:List OP),(KY one a b P i j out).length≤out.length+3*P.length+2
 |[],i,j,out=>by
  have d1:(De (a.drop i)).length≤1:=by unfold De;split<;>simp
  have d2:(Dn (b.drop j)).length≤1:=by unfold Dn;split<;>simp
  simp[KY];omega
 |x::P,i,j,out=>by
  have d1:(De ((a.take x.i).drop i)).length≤1:=by unfold De;split<;>simp
  have d2:(Dn ((b.take x.j).drop j)).length≤1:=by unfold Dn;split<;>simp
  have:=fV one a b P (x.i+1) (x.j+1) (out++De ((a.take x.i).drop i)++Dn ((b.take x.j).drop j)++[.mk 3 0 [] (one (a.getD x.i T0) (b.getD x.j T0))]);rw[KY];simp only[List.length_append,List.length_singleton] at this;simp only[List.length_cons];omega
theorem OE (one:T→T→E) (a b:List T):(D8 one a b).length≤50:=by
 obtain⟨hpk,hp16⟩:=b7 (KX a b);have hPl:(YL (KX a b)).length≤16:=by
  have:=(Kt (Hb hpk).1).2.length_eq;unfold YL;omega
 have:=fV one a b (YL (KX a b)) 0 0 [];simp at this;unfold D8;omega
theorem QY (D:List OP):D.map oA=(D.map IT.got).map NF:=by
 rw[List.map_map];refine List.map_congr_left fun o _=>?_;simp[NF,Zw]
theorem Ts (D:List OP):(D.map IT.got).map IT.op=D:=by
 rw[List.map_map];exact List.map_id' _
theorem wh {one:T→T→E} {a b:T} (ha:∀ t,t ∈ a.kids→BH t) (hb:∀ t,t ∈ b.kids→BH t) (hal:a.kids.length≤1000000) (hbl:b.kids.length≤1000000) {most:Int} (hone:∀ x,x ∈ a.kids→∀ y,y ∈ b.kids→G.Spec Tryz.prog 30 [tX x,tX y,iv most] (eX (one x y))) {S:List Sp} (hS:S.length≤10000000) (hS2:∀ s,s ∈ S→s.k≤2) {R:List OP}
  (hq:∀ (H':Hp) (its:List IT) (v:Nat) (st:List (Nat × A)),its.map IT.op=R→H' [2]=⟨v,.arr 14 (its.map NF)⟩→Q (.exit 0) ⟨lk ([(0,Od S),(3,iv most),(5,.pob [0] 1 0),(9,.osl [2] v 14 0 its.length)]++st),H'⟩) :
  ∀ (m k v:Nat) (x y:List T) (its:List IT) (H:Hp),k+m=S.length→(∀ t,t ∈ x→t ∈ a.kids)→(∀ t,t ∈ y→t ∈ b.kids)→x.length≤1000000→y.length≤1000000→dA (AO (S.drop k))≤x.length→dB (AO (S.drop k))≤y.length→its.length≤50*k→R=CX (D8 one) (S.drop k) x y (its.map IT.op)→H [0]=⟨1,.cells (tL a)⟩→H [2]=⟨v,.arr 14 (its.map NF)⟩ →
  LoopC (cx Tryz.prog w0 I0 n0) F3 Q ⟨lk [(0,Od S),(3,iv most),(5,.pob [0] 1 0),(9,.osl [2] v 14 0 its.length),(10,Bm x),(11,Bm y),(12,iv k)],H⟩:=by
 have tk:∀ (l:List T) (n:Nat),(l.drop n).take (l.length-n)=l.drop n:=fun l n=>AL (by simp);intro m;induction m using Nat.strongRecOn with
 |_ m ih=>
 intro k v x y its H hm hx hy hxl hyl hA hB hl hR h0 h2;cases m with
 |zero=>
  have:k=S.length:=by omega
  subst this;rw[List.drop_length] at hR;refine Ab Ai F3.eq_1 ?_;simp;exact hq H its v [(10,Bm x),(11,Bm y),(12,iv S.length),(22,bv false)] hR.symm h2
 |succ m=>
  have hlt:k<S.length:=by omega
  have ew:=Av k;have hd:S.drop k=S[k]::S.drop (k+1):=(List.getElem_cons_drop hlt).symm;have hk:=hS2 _ (Bg hlt);rw[hd] at hR hA hB;rw[Az,DD,Eg] at hA;rw[Az,DF,D7] at hB;have hg:(S.map Dp)[k]? = some (Dp S[k]):=by simp[hlt]
  generalize hs:S[k]=s at *;have hk3:s.k=0∨s.k=1∨s.k=2:=by omega
  rcases hk3 with h | h | h
  ·rw[T5 h] at hR;rw[if_neg (by omega)] at hA hB;have f1:s.n≤x.length:=by omega
   have f2:s.n≤y.length:=by omega
   refine Ab Ai F3.eq_1 ?_;simp[hlt,hs,Dp,He,h,f1,f2,h2,CG,ew];refine⟨by omega,?_⟩;simp only[← List.map_drop,← List.map_take,tk];have nx:=ih m (by omega) (k+1) (v+1) (x.drop s.n) (y.drop s.n) (its++[IT.r (RI.keep (s.n:Int))]) (Ay H [2] ⟨v+1,.arr 14 ((its++[IT.r (RI.keep (s.n:Int))]).map NF)⟩) (by omega) (fun t ht=>hx t (TK ht)) (fun t ht=>hy t (TK ht)) (by simp;omega) (by simp;omega) (by simp;omega) (by simp;omega) (by simp;omega) (by rw[hR];simp[IT.op,RI.op]) (by simp[Aa,h0]) (by simp[Aa]);rw[AL (by simp)];rw[Int.natCast_add] at nx;simp only[List.length_append,List.length_map,List.length_singleton,List.length_cons,List.length_nil,List.map_append,List.map_cons,List.map_nil] at nx ⊢;exact nx
  ·rw[h] at hA hB;simp at hA hB;have f1:s.n≤x.length:=by omega
   by_cases hg2:∃ h3:k+1<S.length,S[k+1].k=2
   ·obtain⟨h3,h4⟩:=hg2;have hd2:S.drop (k+1)=S[k+1]::S.drop (k+1+1):=(List.getElem_cons_drop h3).symm;rw[hd2] at hR hA hB;rw[Az,DD,Eg] at hA;rw[Az,DF,D7] at hB;generalize hs2:S[k+1]=s2 at *;rw[SN h h4] at hR;rw[h4] at hA hB;simp at hA hB;have f2:s2.n≤y.length:=by omega
    have ew2:i64.wrap ((k:Int)+1+1)=((k+1+1:Nat):Int):=AP;have G:=Zj (one:=one) (a:=x.take s.n) (b:=y.take s2.n) (q:=a.kind) (fun t ht=>ha t (hx t (Oh ht))) (fun t ht=>hb t (hy t (Oh ht))) (by simp;omega) (by simp;omega) (most:=most) (fun p hp q hq=>hone p (hx p (Oh hp)) q (hy q (Oh hq)));have gl:=OE one (x.take s.n) (y.take s2.n);have i1:(k:Int)+1<S.length:=by omega
    have i2:(0:Int)≤(k:Int)+1:=by omega
    have i3:((k:Int)+1).toNat=k+1:=by omega
    have i4:i64.wrap ((k:Int)+1)=(k:Int)+1:=by rw[ew];omega
    refine Ab Ai F3.eq_1 ?_;generalize D8 one (x.take s.n) (y.take s2.n)=I at *;simp[hlt,hs,Dp,He,h,f1,f2,h2,CG,i4,h3,hs2,h4,h0,i1,i2,i3];simp only[← List.map_drop,← List.map_take,tk];refine Ae G (by simp) ?_;simp[f1,f2,h2,CG,i4,h0,ew2];refine⟨by omega,?_⟩;simp only[← List.map_drop,← List.map_take,tk];cases m with
    |zero=>omega
    |succ m=>
     have nx:=ih m (by omega) (k+1+1) (v+1) (x.drop s.n) (y.drop s2.n) (its++I.map IT.got) (Ay H [2] ⟨v+1,.arr 14 ((its++I.map IT.got).map NF)⟩) (by omega) (fun t ht=>hx t (TK ht)) (fun t ht=>hy t (TK ht)) (by simp;omega) (by simp;omega) (by simp;omega) (by simp;omega) (by simp;omega) (by rw[hR,List.map_append,Ts]) (by simp[Aa,h0]) (by simp[Aa]);rw[AL (by simp),QY,← List.map_append];rw[Int.natCast_add,Int.natCast_add] at nx;simp only[List.length_append,List.length_map,List.length_singleton,List.length_cons,List.length_nil,List.map_append,List.map_cons,List.map_nil] at nx ⊢;exact nx
   ·have hnd:∀ s2 r,S.drop (k+1)=s2::r→s2.k ≠ 2:=fun s2 r e h4=>by
     have h3:k+1<S.length:=by
      have:=congrArg List.length e;simp at this;omega
     have hd2:S.drop (k+1)=S[k+1]::S.drop (k+1+1):=(List.getElem_cons_drop h3).symm;rw[hd2] at e;injection e with e1 _;exact hg2 ⟨h3,by rw[e1];exact h4⟩
    rw[WH h hnd] at hR;have D:=NJ (x.take s.n);have dl:(De (x.take s.n)).length≤1:=by unfold De;split<;>simp
    generalize De (x.take s.n)=I at *;refine Ab Ai F3.eq_1 ?_;by_cases h3:k+1<S.length
    ·have h4:¬ (S[k+1].k:Int)=2:=fun e=>hg2 ⟨h3,by omega⟩;have h4':¬ S[k+1].k=2:=fun e=>hg2 ⟨h3,e⟩;have i1:(k:Int)+1<S.length:=by omega
     have i2:(0:Int)≤(k:Int)+1:=by omega
     have i3:((k:Int)+1).toNat=k+1:=by omega
     have i4:i64.wrap ((k:Int)+1)=(k:Int)+1:=by rw[ew];omega
     simp[hlt,hs,Dp,He,h,f1,h2,CG,i4,h3,h4,h4',i1,i2,i3];simp only[← List.map_drop,← List.map_take,tk];refine Ae D (by simp) ?_;simp[f1,h2,CG,i4];refine⟨by omega,?_⟩;simp only[← List.map_drop,← List.map_take,tk];have nx:=ih m (by omega) (k+1) (v+1) (x.drop s.n) y (its++I.map IT.got) (Ay H [2] ⟨v+1,.arr 14 ((its++I.map IT.got).map NF)⟩) (by omega) (fun t ht=>hx t (TK ht)) hy (by simp;omega) (by omega) (by simp;omega) (by omega) (by simp;omega) (by rw[hR,List.map_append,Ts]) (by simp[Aa,h0]) (by simp[Aa]);rw[AL (by simp),QY,← List.map_append];rw[Int.natCast_add] at nx;simp only[List.length_append,List.length_map,List.length_singleton,List.length_cons,List.length_nil,List.map_append,List.map_cons,List.map_nil] at nx ⊢;exact nx
    ·have i1:¬ (k:Int)+1<S.length:=by omega
     have i4:i64.wrap ((k:Int)+1)=(k:Int)+1:=by rw[ew];omega
     simp[hlt,hs,Dp,He,h,f1,h2,CG,i4,i1];simp only[← List.map_drop,← List.map_take,tk];refine Ae D (by simp) ?_;simp[f1,h2,CG,i4];refine⟨by omega,?_⟩;simp only[← List.map_drop,← List.map_take,tk];have nx:=ih m (by omega) (k+1) (v+1) (x.drop s.n) y (its++I.map IT.got) (Ay H [2] ⟨v+1,.arr 14 ((its++I.map IT.got).map NF)⟩) (by omega) (fun t ht=>hx t (TK ht)) hy (by simp;omega) (by omega) (by simp;omega) (by omega) (by simp;omega) (by rw[hR,List.map_append,Ts]) (by simp[Aa,h0]) (by simp[Aa]);rw[AL (by simp),QY,← List.map_append];rw[Int.natCast_add] at nx;simp only[List.length_append,List.length_map,List.length_singleton,List.length_cons,List.length_nil,List.map_append,List.map_cons,List.map_nil] at nx ⊢;exact nx
  ·rw[WN h] at hR;rw[h] at hA hB;simp at hA hB;have f2:s.n≤y.length:=by omega
   have D:=NN (y.take s.n);have dl:(Dn (y.take s.n)).length≤1:=by unfold Dn;split<;>simp
   generalize Dn (y.take s.n)=I at *;refine Ab Ai F3.eq_1 ?_;simp[hlt,hs,Dp,He,h,f2,h2,CG,ew];simp only[← List.map_drop,← List.map_take,tk];refine Ae D (by simp) ?_;simp[f2,h2,CG,ew];refine⟨by omega,?_⟩;simp only[← List.map_drop,← List.map_take,tk];have nx:=ih m (by omega) (k+1) (v+1) x (y.drop s.n) (its++I.map IT.got) (Ay H [2] ⟨v+1,.arr 14 ((its++I.map IT.got).map NF)⟩) (by omega) hx (fun t ht=>hy t (TK ht)) (by omega) (by simp;omega) (by omega) (by simp;omega) (by simp;omega) (by rw[hR,List.map_append,Ts]) (by simp[Aa,h0]) (by simp[Aa]);rw[AL (by simp),QY,← List.map_append];rw[Int.natCast_add] at nx;simp only[List.length_append,List.length_map,List.length_singleton,List.length_cons,List.length_nil,List.map_append,List.map_cons,List.map_nil] at nx ⊢;exact nx
theorem dj {one:T→T→E} {a b:T} (ha:∀ t,t ∈ a.kids→BH t) (hb:∀ t,t ∈ b.kids→BH t) (hal:a.kids.length≤1000000) (hbl:b.kids.length≤1000000) {most:Int} (hone:∀ x,x ∈ a.kids→∀ y,y ∈ b.kids→G.Spec Tryz.prog 30 [tX x,tX y,iv most] (eX (one x y))) {S:List Sp} (hS:S.length≤10000000) (hS2:∀ s,s ∈ S→s.k≤2) (hA:dA (AO S)≤a.kids.length) (hB:dB (AO S)≤b.kids.length) :
  G.Spec Tryz.prog 121 [Od S,tX a,tX b,iv most] (MV (CX (D8 one) S a.kids b.kids [])):=by
 refine Aj kf (by simp) fun w0 I0=>?_;unfold Yi;simp;refine LoopC.le (Cd 9 [2] 14 (by simp)) ?_;refine LoopC.le (Ao [(0,Od S),(3,iv most),(5,.pob [0] 1 0),(9,.osl [2] 1 14 0 ([]:List IT).length),(10,Bm a.kids),(11,Bm b.kids),(12,iv (0:Nat))] (by simp[upd])) ?_;refine wh (a:=a) (b:=b) ha hb hal hbl hone hS hS2 (R:=CX (D8 one) S a.kids b.kids []) (fun H' its v st hR k2=>?_) S.length 0 1 a.kids b.kids [] _ (Nat.zero_add _) (fun t h=>h) (fun t h=>h) hal hbl (by simpa using hA) (by simpa using hB) (by simp) (by simp) (by simp[Aa]) (by simp[Aa]);simp;rw[← hR];exact R7 k2 rfl
theorem lp (l:List T):(Yu 1 l).map IT.op=De l:=by unfold Yu De;split<;>simp[IT.op,RI.op]
theorem aQ (l:List T):(Yu 2 l).map IT.op=Dn l:=by unfold Yu Dn;split<;>simp[IT.op,RI.op]
theorem R4 (k:Int) (l:List T):(Yu k l).length≤1:=by unfold Yu;split<;>(try split)<;>simp
theorem yS {one:T→T→E} {a b:List T} (hal:a.length≤1000000) (hbl:b.length≤1000000) {most:Int} (hone:∀ x,x ∈ a→∀ y,y ∈ b→G.Spec Tryz.prog 53 [tX x,tX y,iv most] (eX (one x y))) {P:List Sc} (hP:P.length≤1000) {R:List OP}
  (hq:∀ (H':Hp) (its:List IT) (v i j:Nat),1≤v→i≤a.length→j≤b.length→its.length≤3*P.length→R=KY one a b [] i j (its.map IT.op)→(∀ p,H' (2::p)=(itM v its).F 2 p)→Q (.exit 4) ⟨lk [(0,Bm a),(1,Bm b),(2,iv most),(10,Vy P),(11,.osl [2] v 14 0 its.length),(12,iv i),(13,iv j),(14,iv P.length),(53,bv false)],H'⟩) :
  ∀ (m k i j v:Nat) (its:List IT) (H:Hp),k+m=P.length→1≤v→jn a.length b.length i j (P.drop k)→its.length≤3*k→R=KY one a b (P.drop k) i j (its.map IT.op)→(∀ p,H (2::p)=(itM v its).F 2 p) →
  LoopC (cx Tryz.prog w0 I0 n0) FC Q ⟨lk [(0,Bm a),(1,Bm b),(2,iv most),(10,Vy P),(11,.osl [2] v 14 0 its.length),(12,iv i),(13,iv j),(14,iv k)],H⟩:=by
 intro m;induction m with
 |zero=>
  intro k i j v its H hm hv hk hl hR h5;have:k=P.length:=by omega
  subst this;rw[List.drop_length] at hk hR;refine Ab Ai FC.eq_1 ?_;simp;exact hq H its v i j hv hk.1 hk.2 hl hR h5
 |succ m ih=>
  intro k i j v its H hm hv hk hl hR h5;have hlt:k<P.length:=by omega
  have hd:P.drop k=P[k]::P.drop (k+1):=(List.getElem_cons_drop hlt).symm;rw[hd] at hk hR;have next:=ih (k+1)
  generalize hx:P[k]=x at *;obtain⟨k1,k2,k3,k4,k5⟩:=hk;rw[KY] at hR;simp only[List.drop_take] at hR;have f1:x.i≤a.length:=by omega
  have f2:x.j≤b.length:=by omega
  have F1:=KD its v hv (by omega) (k:=1) (.inl rfl) ((a.drop i).take (x.i-i));refine Ab Ai FC.eq_1 ?_;simp[hlt,hx,H7,Pz,k1,k2,f1,f2];simp only[← List.map_drop,← List.map_take];refine Aw 2 F1 h5 (by simp) (by simp) ?_;have d1:=R4 1 ((a.drop i).take (x.i-i));have d2:=R4 2 ((b.drop j).take (x.j-j));have o1:=lp ((a.drop i).take (x.i-i));have o2:=aQ ((b.drop j).take (x.j-j));have F2:=KD (its++Yu 1 ((a.drop i).take (x.i-i))) (v+(Yu 1 ((a.drop i).take (x.i-i))).length) (by omega) (by simp;omega) (k:=2) (.inr rfl) ((b.drop j).take (x.j-j));have hO:=hone _ (Bg k3) _ (Bg k4);rw[← o1,← o2] at hR;clear F1 o1 o2;generalize Yu 1 ((a.drop i).take (x.i-i))=D at *;generalize Yu 2 ((b.drop j).take (x.j-j))=I at *;simp only[List.length_append] at F2 ⊢;simp[hlt,hx,H7,Pz,k1,k2,f1,f2];simp only[← List.map_drop,← List.map_take];refine Aw 2 F2 (fun p=>by simp) (by simp) (by simp) ?_;simp[hlt,hx,H7,Pz,k3,k4];refine Ae hO (by simp) ?_;simp[hlt,hx,H7,Pz,Aa,CG];refine⟨⟨by omega,by omega⟩,?_⟩;have ew:=Av k;have ei:i64.wrap ((x.i:Int)+1)=((x.i+1:Nat):Int):=AP;have ej:i64.wrap ((x.j:Int)+1)=((x.j+1:Nat):Int):=AP;rw[ei,ej,ew];have hlen:(its++(D++(I++[IT.r (.desc (one a[x.i] b[x.j]))]))).length=its.length+D.length+I.length+1:=by simp;omega
  have hR':R=KY one a b (P.drop (k+1)) (x.i+1) (x.j+1) ((its++(D++(I++[IT.r (.desc (one a[x.i] b[x.j]))]))).map IT.op):=by rw[hR];simp[IT.op,RI.op,k3,k4]
  have nx:=fun H'=>next (x.i+1) (x.j+1) (v+D.length+I.length+1) (its++(D++(I++[IT.r (.desc (one a[x.i] b[x.j]))]))) H' (by omega) (by omega) k5 (by rw[hlen];omega) hR'
  rw[hlen] at nx;refine nx _ fun p=>?_;by_cases h1:p=[]
  ·subst h1;rw[AL (by simp;omega)];simp[Aa,NF,Zw,Ra]
  ·simp[h1,Aa]
def PY (m n:Nat):List A:=(List.range n).map fun j=>.osl [5+j] (j+1) 1 0 m
@[simp] theorem AfK {m n:Nat}:(PY m n).length=n:=by simp[PY]
@[simp] theorem AgL {m n k:Nat} (h:k<(PY m n).length):(PY m n)[k] = .osl [5+k] (k+1) 1 0 m:=by simp[PY]
theorem pN (m n:Nat):PY m (n+1)=PY m n++[.osl [5+n] (n+1) 1 0 m]:=by simp[PY,List.range_succ]
noncomputable def xX (x:T) (b:List T) (q:Nat):Int:=(EZ x (b.getD q T0):Nat)
theorem vL (x:T) (b:List T):FL (xX x b) b.length=(b.map fun y=>(EZ x y:Int)).map iv:=by
 rw[dP,List.length_map];refine Ir fun q hq=>?_;simp[xX,hq]
theorem zm {a b:List T} (ha:∀ t,t ∈ a→BH t) (hb:∀ t,t ∈ b→BH t) {i:Nat} (hi:i<a.length) (hal:a.length≤1000000) (hbl:b.length≤1000000) {most:Int} {H0:Hp} (h1:H0 [1]=⟨i+2,.arr 1 (PY b.length (i+1))⟩)
  (hq:∀ (f':Nat→Int) (H':Hp) (st:List (Nat × A)),(∀ q,q<b.length→f' q=xX a[i] b q)→H' [5+i]=⟨i+1,.arr 1 (FL f' b.length)⟩→(∀ o,o ≠ [5+i]→H' o=H0 o)→Q (.exit 2) ⟨lk ([(0,Bm a),(1,Bm b),(2,iv most),(7,.osl [1] (i+2) 1 0 (i+1)),(8,iv i)]++st),H'⟩) :
  ∀ (m j:Nat) (f:Nat→Int) (H:Hp),j+m=b.length→(∀ q,q<j→f q=xX a[i] b q)→(∀ o,o ≠ [5+i]→H o=H0 o)→H [5+i]=⟨i+1,.arr 1 (FL f b.length)⟩ →
  LoopC (cx Tryz.prog w0 I0 n0) FG Q ⟨lk [(0,Bm a),(1,Bm b),(2,iv most),(7,.osl [1] (i+2) 1 0 (i+1)),(8,iv i),(9,iv j)],H⟩:=by
 intro m;induction m with
 |zero=>
  intro j f H hm hf hp h3;refine Ab Ai FG.eq_1 ?_;have:j=b.length:=by omega
  subst this;simp;have:=hq f H [(9,iv b.length),(30,bv false)] hf h3 hp;simpa using this
 |succ m ih=>
  intro j f H hm hf hp h3;have g1:=hp [1] (by simp;omega);rw[h1] at g1;have hj:j<b.length:=by omega
  have c2:(0:Int)≤(i:Int):=by omega
  have c3:(i:Int)<(i:Int)+1:=by omega
  have e3:=Av j;have hS:=dn (ha _ (Bg hi)) (hb _ (Bg hj));have next:=ih (j+1)
  refine Ab Ai FG.eq_1 ?_;simp[hi,hj,g1,h3,c2,c3];refine Ae hS (by simp) ?_;simp[g1,h3,hi,hj,c2,c3,e3];refine next (fun q=>if q=j then ((EZ a[i] b[j]:Nat):Int) else f q) _ (by omega) (fun q hq=>?_) (fun o ho=>by rw[AH ho];exact hp o ho) (by simp[Aa])
  by_cases e:q=j
  ·subst e;simp[xX,hj]
  ·rw[if_neg e];exact hf q (by omega)
theorem Aas {a b:List T} (ha:∀ t,t ∈ a→BH t) (hb:∀ t,t ∈ b→BH t) (hal:a.length≤1000000) (hbl:b.length≤1000000) {most:Int}
  (hq:∀ (H:Hp) st,H [1]=⟨a.length+1,.arr 1 (PY b.length a.length)⟩→(∀ k (hk:k<a.length),∃ f,(∀ q,q<b.length→f q=xX a[k] b q)∧H [5+k]=⟨k+1,.arr 1 (FL f b.length)⟩)→(∀ p,H (2::p)=⟨0,.none⟩)→Q (.exit 0) ⟨lk ([(0,Bm a),(1,Bm b),(2,iv most),(7,.osl [1] (a.length+1) 1 0 a.length)]++st),H⟩):∀ (m i:Nat) (H:Hp),i+m=a.length→H [0]=⟨i,.none⟩→H [1]=⟨i+1,.arr 1 (PY b.length i)⟩→(∀ k (hk:k<a.length),k<i→∃ f,(∀ q,q<b.length→f q=xX a[k] b q)∧H [5+k]=⟨k+1,.arr 1 (FL f b.length)⟩)→(∀ k,i≤k→H [5+k]=⟨0,.none⟩)→(∀ p,H (2::p)=⟨0,.none⟩) →
  LoopC (cx Tryz.prog w0 I0 n0) FF Q ⟨lk [(0,Bm a),(1,Bm b),(2,iv most),(7,.osl [1] (i+1) 1 0 i),(8,iv i)],H⟩:=by
 intro m;induction m with
 |zero=>
  intro i H hm h0 h1 hk hf h2;refine Ab Ai FF.eq_1 ?_;have:i=a.length:=by omega
  subst this;simp;have:=hq H [(8,iv a.length),(18,bv false)] h1 (fun k hk'=>hk k hk' hk') h2;simpa using this
 |succ m ih=>
  intro i H hm h0 h1 hk hf h2;have hi:i<a.length:=by omega
  have e2:=Av i;refine Ab Ai FF.eq_1 ?_;simp[hi,h0,h1,Aa];refine⟨by omega,by omega,?_⟩;have hfi:=hf i (BZ _);refine LoopC.le (eY (d:=[0]) (d':=[5+i]) (e:=[1]) (u:=i+1) (ue:=i+1+1) (sz:=1) (z:=1) (off:=0) (len:=b.length) (xs:=List.take i (PY b.length i)) (fun _ h=>h) (by simp;omega) (by simp) (by simp;omega) (by simp[Aa,hfi,show ¬ 5+i=1 by omega,show ¬ 5+i=3 by omega,show ¬ 5+i=0 by omega]) (by simp[Aa]) rfl (by simp[Aa])) ?_;rw[AL (by simp),← pN];generalize hG:(Ay _ [1] _:Hp)=G;have f0:G [0]=⟨i+1,.none⟩:=by rw[← hG];simp[Aa]
  have f1:G [1]=⟨i+1+1,.arr 1 (PY b.length (i+1))⟩:=by rw[← hG];simp[Aa]
  have f5:G [5+i]=⟨i+1,.arr 1 (FL (fun _=>0) b.length)⟩:=by
   rw[← hG,← OB];simp[Aa,show ¬ 5+i=1 by omega,show ¬ 5+i=0 by omega]
  have fo:∀ k,k ≠ i→G [5+k]=H [5+k]:=fun k hne=>by
   rw[← hG];simp[Aa,show ¬ 5+k=1 by omega,show ¬ 5+k=3 by omega,show ¬ 5+k=0 by omega,hne]
  have fp:∀ p,G (2::p)=⟨0,.none⟩:=fun p=>by
   rw[← hG,← h2 p];simp[Aa,show ¬ 2=5+i by omega]
  clear hG;refine LoopC.le (Ao [(0,Bm a),(1,Bm b),(2,iv most),(7,.osl [1] (i+2) 1 0 (i+1)),(8,iv i),(9,iv (0:Nat))] (by simp)) ?_;refine zm ha hb hi hal hbl (H0:=G) f1 (fun f2 G' st g1 g2 g3=>?_) b.length 0 (fun _=>0) G (by omega) (fun q hq=>by omega) (fun o _=>rfl) f5;simp[e2];refine ih (i+1) G' (by omega) (by rw[g3 _ (by simp;omega),f0]) (by rw[g3 _ (by simp;omega),f1]) (fun k hk' hki=>?_) (fun k hki=>?_) (fun p=>by rw[g3 _ (by simp;omega),fp])
  ·by_cases e:k=i
   ·subst e;exact⟨f2,g1,g2⟩
   ·obtain⟨f',k1,k2⟩:=hk k hk' (by omega);exact⟨f',k1,by rw[g3 _ (by simp;omega),fo k e,k2]⟩
  ·rw[g3 _ (by simp;omega),fo k (by omega),hf k (by omega)]
theorem ZF {one:T→T→E} {a b:List T} (ha:∀ t,t ∈ a→BH t) (hb:∀ t,t ∈ b→BH t) (hal:a.length≤1000000) (hbl:b.length≤1000000) {most:Int} (hone:∀ x,x ∈ a→∀ y,y ∈ b→G.Spec Tryz.prog 53 [tX x,tX y,iv most] (eX (one x y))) :
  G.Spec Tryz.prog 167 [Bm a,Bm b,iv most] (MV (D8 one a b)):=by
 obtain⟨hpk,hp16⟩:=b7 (KX a b);have hPl:(YL (KX a b)).length≤16:=by
  have:=(Kt (Hb hpk).1).2.length_eq;unfold YL;omega
 have hPick:=tZ (KX a b) (by simp[KX];omega) (fun r hr=>by
  obtain⟨x,_,rfl⟩:=List.mem_map.1 hr;simp;omega) hpk hp16
 refine Aj TR (by simp) fun w0 I0=>?_;unfold M5;simp;refine LoopC.le (Cd 7 [1] 1 (by simp)) ?_;refine LoopC.le (Ao [(0,Bm a),(1,Bm b),(2,iv most),(7,.osl [1] (0+1) 1 0 0),(8,iv (0:Nat))] (by simp[upd])) ?_;refine Aas ha hb hal hbl (fun H' st h1 hk h2=>?_) a.length 0 _ (by omega) (by simp[Aa]) (by simp[Aa,PY]) (fun k _ h=>by omega) (fun k _=>by simp[Aa,show ¬ 5+k=1 by omega]) (fun p=>by simp[Aa]);simp;obtain⟨H2,k1,k2⟩:=QS (c:=cx Tryz.prog w0 I0 120) (s:=lk [(0,Bm a),(1,Bm b),(2,iv most),(7,.osl [1] (a.length+1) 1 0 a.length)]) (H:=H') (fun r=>r=1∨5≤r) (fun r p b hr h=>h) 7 (L8 (KX a b)) (fun H1 e1=>by
  have e2:H1 [1]=H' [1]:=e1 1 [] (.inl rfl);simp;refine Jh (o:=[1]) (u:=a.length+1) (off:=0) (len:=a.length) (sz:=1) (xs:=PY b.length a.length) (ys:=(KX a b).map aG) (by simp[e2,h1]) (by simp) (by simp[KX]) (by simp) ?_ ?_
  ·rw[Hd (fun x=>rfl)];simp[A.ones]
  ·rw[List.drop_zero,AL (by simp)];have er:(KX a b).map aG=(List.range a.length).map fun k=>.sl false (FL (xX (a.getD k T0) b) b.length):=by
    refine List.ext_getElem (by simp[KX]) fun n n1 n2=>?_;have hn:n<a.length:=by simpa[KX] using n1
    simp[KX,vL,hn]
   rw[er];unfold PY;rw[Hd (fun x=>rfl),Hd (fun x=>rfl)];refine Ud _ fun k hk0=>?_;have hk1:k<a.length:=by simpa using hk0
   obtain⟨f,g1,g2⟩:=hk k hk1;have ek:a.getD k T0=a[k]:=by simp[hk1]
   rw[ek,← Ir g1];exact PD (by rw[e1 (5+k) [] (.inr (by omega))];exact g2))
 refine Cm k1 ?_;refine Cm (Ao [(0,Bm a),(1,Bm b),(2,iv most),(7,L8 (KX a b))] (by simp[upd])) (CQ ?_);have hz:∀ p,H2 (2::p)=⟨0,.none⟩:=fun p=>(k2 2 p (by omega)).trans (h2 p);simp;refine Ae hPick (by simp) ?_;simp;refine LoopC.le (Cd 11 [2] 14 (by simp)) ?_;refine LoopC.le (Ao [(0,Bm a),(1,Bm b),(2,iv most),(10,Vy (YL (KX a b))),(11,.osl [2] 1 14 0 ([]:List IT).length),(12,iv (0:Nat)),(13,iv (0:Nat)),(14,iv (0:Nat))] (by simp[upd,Aa,hz,YL])) ?_;refine yS (one:=one) (a:=a) (b:=b) hal hbl hone (P:=YL (KX a b)) (by omega) (R:=D8 one a b) (fun H3 its v i j hv hi hj hl hR k5=>?_) _ 0 0 0 1 [] _ (Nat.zero_add _) (BZ _) (W7 a b) (by simp) rfl (fun p=>?_)
 ·have F1:=KD its v hv (by omega) (k:=1) (.inl rfl) ((a.drop i).take (a.length-i));have d1:=R4 1 ((a.drop i).take (a.length-i));have d2:=R4 2 ((b.drop j).take (b.length-j));have o1:=lp ((a.drop i).take (a.length-i));have o2:=aQ ((b.drop j).take (b.length-j));have ea:(a.drop i).take (a.length-i)=a.drop i:=AL (by simp);have eb:(b.drop j).take (b.length-j)=b.drop j:=AL (by simp);have hR2:D8 one a b=its.map IT.op++De ((a.drop i).take (a.length-i))++Dn ((b.drop j).take (b.length-j)):=by rw[ea,eb,hR,KY]
  clear ea eb;rw[hR2,← o1,← o2];have F2:=KD (its++Yu 1 ((a.drop i).take (a.length-i))) (v+(Yu 1 ((a.drop i).take (a.length-i))).length) (by omega) (by simp;omega) (k:=2) (.inr rfl) ((b.drop j).take (b.length-j));clear hR2 o1 o2;simp[hi,hj];simp only[← List.map_drop,← List.map_take];refine Aw 2 F1 k5 (by simp) (by simp) ?_;clear F1;generalize Yu 1 ((a.drop i).take (a.length-i))=D at *;generalize hI:Yu 2 ((b.drop j).take (b.length-j))=I at *;simp only[List.length_append] at F2 ⊢;simp[hi,hj];simp only[← List.map_drop,← List.map_take];refine Aw 2 F2 (fun p=>by simp) (by simp) (by simp) ?_;simp;have hf:∀ H:Hp,H [2]=⟨v+D.length+I.length,.arr 14 ((its++D++I).map NF)⟩→J3 H (.osl [2] (v+D.length+I.length) 14 0 (its.length+D.length+I.length)) (MV (its.map IT.op++(D.map IT.op++I.map IT.op))):=fun H hH=>by
   have:=R7 hH (n:=its.length+D.length+I.length) (by simp;omega);simpa using this
  simpa[Nat.add_assoc] using hf _ (by simp[Nat.add_assoc])
 ·by_cases hp:p=[]
  ·subst hp;simp[Aa,hz]
  ·simp[Aa,hp,hz]
theorem Ur (l:List Nat):(qE l).map iv=l.map nv:=by
 simp[qE]
theorem O9 {us:List Nat} (h:∀ x,x ∈ us→x≤2):∀ s,s ∈ Il us→s.k≤2∧1≤s.n:=Z9 us 0 0 0 h
theorem Ih:∀ (l:List Sp),(∀ s,s ∈ l→s.k≤2∧1≤s.n)→l.length≤dA (AO l)+dB (AO l)
 |[],_=>by simp
 |s::l,h=>by
  have ih:=Ih l fun x hx=>h x (by simp[hx]);have hs:=h s (by simp);rw[Az,DD,DF,Eg,D7,List.length_cons];split<;>split<;>omega
theorem mc (a b:List T) (h:a=[]∨b=[]):YL (KX a b)=[]:=by
 have hP:=W7 a b;cases hp:YL (KX a b) with
 |nil=>rfl
 |cons x P=>
  rw[hp] at hP;have h1:=hP.2.2.1;have h2:=hP.2.2.2.1;rcases h with rfl | rfl<;>simp at h1 h2
theorem XK (one:T→T→E) (b:List T):D8 one [] b=Dn b:=by
 unfold D8;rw[mc _ _ (.inl rfl),KY];simp[De]
theorem Ul (one:T→T→E) (a:List T):D8 one a []=De a:=by
 unfold D8;rw[mc _ _ (.inr rfl),KY];simp[Dn]
theorem fR (one:T→T→E) (a b:List T):CX (D8 one) (Il (AO [⟨1,a.length⟩,⟨2,b.length⟩])) a b []=D8 one a b:=by
 have e:Il (AO [⟨1,a.length⟩,⟨2,b.length⟩])=fl 1 a.length++fl 2 b.length:=by
  unfold Il;rw[Az,Az,ED];by_cases h1:a.length=0
  ·by_cases h2:b.length=0
   ·simp[h1,h2,RQ]
   ·rw[h1];simp only[List.replicate_zero,List.nil_append];rw[Tl b.length [] 0 0 0 (by omega)];simp[RQ]
  ·rw[V2 a.length _ 0 0 0 (by omega)];by_cases h2:b.length=0
   ·simp[h2,RQ]
   ·rw[Tl b.length [] 0 _ 0 (by omega)];simp[RQ]
 rw[e];by_cases h1:a.length=0
 ·have h1':a=[]:=by simpa using h1
  subst h1';by_cases h2:b.length=0
  ·have h2':b=[]:=by simpa using h2
   subst h2';simp[CX,XK,Dn]
  ·rw[L0 (k:=2) (n:=b.length) (by omega)];simp[CX,XK]
 ·rw[L0 (k:=1) (n:=a.length) (by omega)];by_cases h2:b.length=0
  ·have h2':b=[]:=by simpa using h2
   subst h2';simp[CX,Ul]
  ·rw[L0 (k:=2) (n:=b.length) (by omega)];simp[CX]
theorem b9 {one:T→T→E} {a b:T} (ha:BH a) (hb:BH b) (hna:∀ t,t ∈ a.kids→Ah t=t) (hnb:∀ t,t ∈ b.kids→Ah t=t) (hal:a.kids.length≤30000) (hbl:b.kids.length≤30000) {most:Int} (hm:B9 most) (hone:∀ x,x ∈ a.kids→∀ y,y ∈ b.kids→G.Spec Tryz.prog 30 [tX x,tX y,iv most] (eX (one x y))) :
  G.Spec Tryz.prog 62 [tX a,tX b,iv most] (eX (JG one most a b)):=by
 have hka:=(wfT_iff.1 ha).ks;have hkb:=(wfT_iff.1 hb).ks;have C1:=WK (ks:=[]) (ts:=a.kids) (by simp) (by simp) hka hna (by simp;omega) 1;have hl1:=OS a.kids [];simp at hl1;have C2:=WK (ks:=(Br [] a.kids).1) (ts:=b.kids) (R5 (l:=a.kids) (by simp) hka) (Xl (l:=a.kids) (by simp)) hkb hnb (by omega) (Ws 1 [] a.kids);have e1:(Mo a).length=a.kids.length:=by simp[Mo,qE,BA]
 have e2:(Mp a b).length=b.kids.length:=by simp[Mp,qE,BA]
 have hD:=W8 (a:=Mo a) (b:=Mp a b) (by omega) (by omega) hm;have z1:(Mo a).map iv=(Br [] a.kids).2.map nv:=Ur _;have z2:(Mp a b).map iv=(Br (Br [] a.kids).1 b.kids).2.map nv:=Ur _;simp only[Cq,z1,z2] at hD;have key:∀ (w0:World) (I0:Nat→Prop) (S:List Sp) (H:Hp),S.length≤10000000→(∀ s,s ∈ S→s.k≤2)→dA (AO S)≤a.kids.length→dB (AO S)≤b.kids.length→H [0]=⟨1,.cells (tL a)⟩→H [1]=⟨1,.cells (tL b)⟩→H [2]=⟨1,.cells BB⟩ →
   WPC (cx Tryz.prog w0 I0 47) Np (TS Tryz.prog [ResultVar.cell 6 33] (eX (.mk 3 T0 T0 [] [] a.kind (CX (D8 one) S a.kids b.kids [])))) ⟨lk [(2,iv most),(3,.pob [0] 1 0),(4,.pob [1] 1 0),(6,.pob [2] 1 0),(9,Od S)],H⟩:=by
  intro w0 I0 S H s1 s2 s3 s4 h0 h1 h2;have O:=dj hka hkb (by omega) (by omega) hone s1 s2 s3 s4;rw[Np.eq_1];simp[h0,h1];refine Ae O (by simp) ?_;simp[h0,h2,Aa,BB];exact Cn ⟨Ad rfl,Ad rfl,Ak,Ak,Ad rfl,Ak,Ak,Ak,Ak,Ad rfl,Ak,trivial⟩
 have wd:=WL (Mo a) (Mp a b);have wi:=Sq (Mo a) (Mp a b);have wn:=Q7 _ wi;refine Aj eD (by simp) fun w0 I0=>?_;unfold Vm;simp;refine Cm (Bu (d:=[3]) (u:=1) (cs:=[.sl true []]) 0 [3,0] 3 (by simp[Aa]) rfl (by simp)) (CQ ?_);simp;refine Aw 3 C1 (fun p=>?_) (by simp) (by simp) ?_
 ·by_cases h1:p=[]
  ·subst h1;simp[Aa]
  ·by_cases h2:p=[0]
   ·subst h2;simp[Aa]
   ·simp[h1,h2,Ne.symm h1,Ne.symm h2,Aa]
 ·simp;refine Aw 3 C2 (fun p=>by simp) (by simp) (by simp) ?_;simp;refine Ae hD (by simp) ?_;by_cases hd:(B7 (Mo a) (Mp a b):Int)≤most
  ·have hL:JG one most a b = .mk 3 T0 T0 [] [] a.kind (CX (D8 one) (Il (GG (Mo a) (Mp a b))) a.kids b.kids []):=by unfold JG;rw[if_pos hd]
   rw[hL];simp[hd];refine key _ _ _ _ ?_ (fun s hs=>(O9 wi s hs).1) (by omega) (by omega) (by simp) (by simp) (by simp[BB]);have:=Ih _ (O9 wi);omega
  ·have hL:JG one most a b = .mk 3 T0 T0 [] [] a.kind (CX (D8 one) (Il (AO [⟨1,a.kids.length⟩,⟨2,b.kids.length⟩])) a.kids b.kids []):=by unfold JG;rw[if_neg hd,fR]
   have N:=Z3 (all:=[⟨1,a.kids.length⟩,⟨2,b.kids.length⟩]) (fun s hs=>by
    simp at hs;rcases hs with rfl | rfl
    ·exact⟨by simp,by simp;omega⟩
    ·exact⟨by simp,by simp;omega⟩) (by simp)
   have ui:∀ x,x ∈ AO [⟨1,a.kids.length⟩,⟨2,b.kids.length⟩]→x≤2:=fun x hx=>by
    rw[Az,Az,ED,List.append_nil] at hx;rcases List.mem_append.1 hx with h | h<;>(have h':=List.eq_of_mem_replicate h;simp at h';omega)
   have ud:=Q7 _ ui;have ua:dA (AO [⟨1,a.kids.length⟩,⟨2,b.kids.length⟩])=a.kids.length:=by
    rw[Az,Az,ED,DD,DD,Eg,Eg];simp[dA]
   have ub:dB (AO [⟨1,a.kids.length⟩,⟨2,b.kids.length⟩])=b.kids.length:=by
    rw[Az,Az,ED,DF,DF,D7,D7];simp[dB]
   have ul:=Ih _ (O9 ui);have N2:G.Spec Tryz.prog 120 [.sl true [.agg [iv 1,iv a.kids.length],.agg [iv 2,iv b.kids.length]]] (Od (Il (AO [⟨1,a.kids.length⟩,⟨2,b.kids.length⟩]))):=N.soft (by simp[A.softL,A.soft,Dp,He]);clear N;rw[hL];clear hL;generalize AO [⟨1,a.kids.length⟩,⟨2,b.kids.length⟩]=us at *;simp[hd];refine Ae N2 (by simp) ?_;simp;refine key _ _ _ _ (by omega) (fun s hs=>(O9 ui s hs).1) (by omega) (by omega) (by simp) (by simp) (by simp[BB])
end Go.Proofs.YtbjmaoedheiigaaGreat
