/-
 Texts,merged,without what is not reached.
-/
import Derived.Test.YtbjmaoedheiigaaGreatKVf
set_option linter.unusedSimpArgs false
set_option linter.unusedVariables false
namespace Go.PL
def Np:List Int→List Int→Nat
 |a::l,b::m=>(if a=b then 1 else 0)+Np l m
 |_,_=>0
noncomputable def U2:List T→List T→Nat
 |a::l,b::m=>(if KJ a b=true then 1 else 0)+U2 l m
 |_,_=>0
noncomputable def Ej (a b:T):Nat:=if a.kind ≠ b.kind∨a.kind=0∨a.kind=10 then 0 else 1+Np a.words b.words+U2 a.kids b.kids
theorem iU {l m:List Int} {i:Nat} (h1:i<l.length) (h2:i<m.length):Np (l.drop i) (m.drop i)=(if l[i]=m[i] then 1 else 0)+Np (l.drop (i+1)) (m.drop (i+1)):=by
 rw[(List.getElem_cons_drop h1).symm,(List.getElem_cons_drop h2).symm,Np]
theorem jn {l m:List T} {i:Nat} (h1:i<l.length) (h2:i<m.length):U2 (l.drop i) (m.drop i)=(if KJ l[i] m[i]=true then 1 else 0)+U2 (l.drop (i+1)) (m.drop (i+1)):=by
 rw[(List.getElem_cons_drop h1).symm,(List.getElem_cons_drop h2).symm,U2]
theorem dF {l m:List Int} {i:Nat} (h:i=min l.length m.length):Np (l.drop i) (m.drop i)=0:=by
 by_cases h1:i=l.length
 ·rw[List.drop_eq_nil_of_le (by omega:l.length≤i)];cases m.drop i<;>rfl
 ·rw[List.drop_eq_nil_of_le (by omega:m.length≤i)];cases l.drop i<;>rfl
theorem bb {l m:List T} {i:Nat} (h:i=min l.length m.length):U2 (l.drop i) (m.drop i)=0:=by
 by_cases h1:i=l.length
 ·rw[List.drop_eq_nil_of_le (by omega:l.length≤i)];cases m.drop i<;>rfl
 ·rw[List.drop_eq_nil_of_le (by omega:m.length≤i)];cases l.drop i<;>rfl
theorem V3:∀ l m,Np l m≤l.length
 |[],_=>by simp[Np]
 |_::_,[]=>by simp[Np]
 |a::l,b::m=>by
  have:=V3 l m
  unfold Np
  simp
  split<;>omega
end Go.PL
namespace Go.PL
open List
def Fb (o:List Sc) (b:Sc) (l:List Sc):Sc:=l.foldl (fun b y=>if b.n<y.n∧B4 o y=true then y else b) b
def bef (a b:Sc):Prop:=a.i<b.i∨(a.i=b.i∧a.j<b.j)
theorem dK {o:List Sc}:∀ (l p:List Sc) (b:Sc),(p++l).Pairwise bef→(∀ y,y ∈ p++l→0<y.n)→((b=sc0∧∀ y,y ∈ p→B4 o y=false)∨gN p o b) →
  ((Fb o b l=sc0∧∀ y,y ∈ p++l→B4 o y=false)∨gN (p++l) o (Fb o b l))
 |[],p,b,_,_,h=>by simpa[Fb] using h
 |x::l,p,b,hs,hn,h=>by
  have hx:=hn x (by simp)
  have hbx:∀ y,y ∈ p→bef y x:=fun y hy=>by
   rw[List.pairwise_append] at hs
   exact hs.2.2 y hy x (by simp)
  have hst:Fb o b (x::l)=Fb o (if b.n<x.n∧B4 o x=true then x else b) l:=rfl
  have:=dK (o:=o) l (p++[x]) (if b.n<x.n∧B4 o x=true then x else b) (by simpa using hs) (by simpa using hn) ?_
  ·rw[hst];simpa using this
  ·by_cases hf:B4 o x=true
   ·rcases h with ⟨rfl,h⟩ | h
    ·rw[if_pos ⟨by simpa[sc0] using hx,hf⟩]
     refine .inr ⟨by simp,hf,fun y hy hyf=>?_⟩
     rcases List.mem_append.1 hy with hy | hy
     ·rw[h y hy] at hyf;cases hyf
     ·simp at hy;subst hy;exact LL _
    ·by_cases hl:b.n<x.n
     ·rw[if_pos ⟨hl,hf⟩]
      refine .inr ⟨by simp,hf,fun y hy hyf=>?_⟩
      rcases List.mem_append.1 hy with hy | hy
      ·have:=h.2.2 y hy hyf
       unfold Bh at this ⊢
       simp at this ⊢
       omega
      ·simp at hy;subst hy;exact LL _
     ·rw[if_neg (fun k=>hl k.1)]
      refine .inr ⟨by simp[h.1],h.2.1,fun y hy hyf=>?_⟩
      rcases List.mem_append.1 hy with hy | hy
      ·exact h.2.2 y hy hyf
      ·simp at hy;subst hy
       have:=hbx b h.1
       unfold bef at this
       unfold Bh
       simp
       omega
   ·rw[if_neg (fun k=>hf k.2)]
    rcases h with ⟨rfl,h⟩ | h
    ·refine .inl ⟨rfl,fun y hy=>?_⟩
     rcases List.mem_append.1 hy with hy | hy
     ·exact h y hy
     ·simp at hy;subst hy;simpa using hf
    ·refine .inr ⟨by simp[h.1],h.2.1,fun y hy hyf=>?_⟩
     rcases List.mem_append.1 hy with hy | hy
     ·exact h.2.2 y hy hyf
     ·simp at hy;subst hy;exact absurd hyf hf
theorem TR {i:Nat}:∀ {r:List Int} {j:Nat},(C6 i j r).Pairwise bef
 |[],j=>by simp[C6]
 |n::r,j=>by
  unfold C6
  split
  ·rw[List.pairwise_cons]
   refine⟨fun y hy=>?_,TR⟩
   obtain⟨h1,_,_,h4,_⟩:=Rh hy
   exact .inr ⟨h1.symm,by simp;omega⟩
  ·exact TR
theorem JB:∀ {rs:List (List Int)} {i:Nat} {x:Sc},x ∈ CE i rs→i≤x.i∧x.i<16∧x.j<16∧0<x.n∧∃ r,rs[x.i-i]? = some r∧r[x.j]? = some x.n
 |[],i,x,h=>by simp[CE] at h
 |r::rs,i,x,h=>by
  unfold CE at h
  rcases List.mem_append.1 h with h | h
  ·obtain⟨h1,h2,h3,h4,h5,h6,h7⟩:=Rh h
   exact⟨by omega,by omega,h3,h7,r,by rw[h1];simp,by simpa using h6⟩
  ·obtain⟨h1,h2,h3,h4,r',h5,h6⟩:=JB h
   refine⟨by omega,h2,h3,h4,r',?_,h6⟩
   rw[show x.i-i=(x.i-(i+1))+1 by omega]
   simpa using h5
theorem X3:∀ {rs:List (List Int)} {i:Nat},(CE i rs).Pairwise bef
 |[],i=>by simp[CE]
 |r::rs,i=>by
  unfold CE
  rw[List.pairwise_append]
  refine⟨TR,X3,fun x hx y hy=>?_⟩
  have h1:=(Rh hx).1
  have h2:=(JB hy).1
  exact .inl (by omega)
theorem WM {rs:List (List Int)} {o:List Sc}:(Fb o sc0 (CE 0 rs)=sc0∧∀ y,y ∈ CE 0 rs→B4 o y=false)∨gN (CE 0 rs) o (Fb o sc0 (CE 0 rs)):=by
 have:=dK (o:=o) (CE 0 rs) [] sc0 (by simpa using X3) (by simpa using fun y hy=>(JB hy).2.2.2.1) (.inl ⟨rfl,by simp⟩)
 simpa using this
end Go.PL
namespace Go.Proofs.YtbjmaoedheiigaaGreat
open Go Go.G Go.Proofs Go.PL
theorem Ur (rs:List (List Int)):∃ o',Kg (CE 0 rs) [] o'∧o'.length≤16:=by
 obtain⟨o',h⟩:=kt (all:=CE 0 rs) (by have:=OM (rs:=rs) (i:=0);omega)
 obtain⟨h1,h2⟩:=GF h
 refine⟨o',h,?_⟩
 have hs:=J1 h1
 rw[← hs.2.length_eq]
 have:=Yt (Ct o') 0 16 hs.1 fun x hx=>⟨by omega,(JB (h2 x (hs.2.subset hx))).2.1⟩
 omega
noncomputable def Km (a b:List T):List (List Int):=a.map fun x=>b.map fun y=>(Ej x y:Int)
noncomputable def pkO (rs:List (List Int)):List Sc:=(Ur rs).choose
noncomputable def Xy (rs:List (List Int)):List Sc:=Ct (pkO rs)
theorem Zw (rs:List (List Int)):Kg (CE 0 rs) [] (pkO rs)∧(pkO rs).length≤16:=(Ur rs).choose_spec
def Kq (one:T→T→E) (a b:List T):List Sc→Nat→Nat→List OP→List OP
 |[],i,j,out=>out++CS (a.drop i)++CY (b.drop j)
 |x::xs,i,j,out=>Kq one a b xs (x.i+1) (x.j+1) (out++CS ((a.take x.i).drop i)++CY ((b.take x.j).drop j)++[.mk 3 0 [] (one (a.getD x.i T0) (b.getD x.j T0))])
noncomputable def DM (one:T→T→E) (a b:List T):List OP:=Kq one a b (Xy (Km a b)) 0 0 []
def Cv (gap:List T→List T→List OP):List Sp→List T→List T→List OP→List OP
 |[],_,_,out=>out
 |[s],a,b,out=>if s.k=0 then out++[.mk 0 s.n [] E0] else if s.k=2 then out++CY (b.take s.n) else out++CS (a.take s.n)
 |s::s2::ss,a,b,out=>
  if s.k=0 then Cv gap (s2::ss) (a.drop s.n) (b.drop s.n) (out++[.mk 0 s.n [] E0])
  else if s.k=2 then Cv gap (s2::ss) a (b.drop s.n) (out++CY (b.take s.n))
  else if s2.k=2 then Cv gap ss (a.drop s.n) (b.drop s2.n) (out++gap (a.take s.n) (b.take s2.n))
  else Cv gap (s2::ss) (a.drop s.n) b (out++CS (a.take s.n))
abbrev np (l:List Nat):List Int:=l.map fun n:Nat=>(n:Int)
noncomputable def Lw (a:T):List Int:=np (Bf [] a.kids).2
noncomputable def Lv (a b:T):List Int:=np (Bf (Bf [] a.kids).1 b.kids).2
noncomputable def IQ (one:T→T→E) (most:Int) (a b:T):E:=
 .mk 3 T0 T0 [] [] a.kind (if (BN (Lw a) (Lv a b):Int)≤most then Cv (DM one) (HK (Gg (Lw a) (Lv a b))) a.kids b.kids [] else DM one a.kids b.kids)
def DJ (a b:T) (m:Nat):List WE:=(List.range m).filterMap fun i=>if Kr (a.words.getD i 0) (b.words.getD i 0)=0 then none else some (wdE i (a.words.getD i 0) (b.words.getD i 0))
def BH (one:T→T→E) (a b:T) (m:Nat):List KE:=(List.range m).filterMap fun i=>if (one (a.kids.getD i T0) (b.kids.getD i T0)).kind=0 then none else some (.mk i (one (a.kids.getD i T0) (b.kids.getD i T0)))
def Te (one:T→T→E) (a b:T):E:=.mk 2 T0 T0 (DJ a b (max a.words.length b.words.length)) (BH one a b (max a.kids.length b.kids.length)) 0 []
noncomputable def LC (most:Int):Nat→T→T→E
 |0,a,b=>if KJ a b=true then E0 else .mk 1 a b [] [] 0 []
 |f+1,a,b=>if KJ a b=true then E0 else if a.kind=1∧b.kind=1 then Te (LC most f) a b else if a.kind=b.kind∧2≤a.kind∧a.kind≤9 then IQ (LC most f) most a b else .mk 1 a b [] [] 0 []
def dA (us:List Nat):Nat:=us.countP fun x=>x != 2
def dB (us:List Nat):Nat:=us.countP fun x=>x != 1
theorem DN (n k:Nat):dA (List.replicate n k)=if k=2 then 0 else n:=by unfold dA;rw[List.countP_replicate];by_cases h:k=2<;>simp[h]
theorem DL (n k:Nat):dB (List.replicate n k)=if k=1 then 0 else n:=by unfold dB;rw[List.countP_replicate];by_cases h:k=1<;>simp[h]
theorem Dl (a b:List Nat):dA (a++b)=dA a+dA b:=List.countP_append
theorem Dk (a b:List Nat):dB (a++b)=dB a+dB b:=List.countP_append
theorem ZB:∀ (us:List Nat) (k d i:Nat),(∀ x,x ∈ us→x≤2)→dA (AJ (Q2 us k d i))=k+d+dA us∧dB (AJ (Q2 us k d i))=k+i+dB us
 |[],k,d,i,_=>by
  simp only[Q2,OS,dn,Dl,Dk,DN,DL]
  simp[dA,dB]
 |x::us,k,d,i,h=>by
  have hx:=h x (by simp)
  have hu:∀ y,y ∈ us→y≤2:=fun y hy=>h y (by simp[hy])
  have e1:dA (x::us)=(if x=2 then 0 else 1)+dA us:=by
   have:=Dl [x] us
   rw[show [x]=List.replicate 1 x from rfl,DN] at this
   simpa using this
  have e2:dB (x::us)=(if x=1 then 0 else 1)+dB us:=by
   have:=Dk [x] us
   rw[show [x]=List.replicate 1 x from rfl,DL] at this
   simpa using this
  rw[e1,e2,Q2]
  have hx3:x=0∨x=1∨x=2:=by omega
  rcases hx3 with rfl | rfl | rfl
  ·obtain⟨h1,h2⟩:=ZB us (k+1) 0 0 hu
   simp only[if_true,OS,dn,Dl,Dk,DN,DL,h1,h2]
   simp
   omega
  ·obtain⟨h1,h2⟩:=ZB us 0 (d+1) i hu
   simp[Dl,Dk,DN,DL,h1,h2]
   omega
  ·obtain⟨h1,h2⟩:=ZB us 0 d (i+1) hu
   simp[Dl,Dk,DN,DL,h1,h2]
   omega
theorem P6 (us:List Nat) (h:∀ x,x ∈ us→x≤2):dA (AJ (HK us))=dA us∧dB (AJ (HK us))=dB us:=by
 have:=ZB us 0 0 0 h
 unfold HK
 omega
theorem ZM:∀ (us:List Nat) (k d i:Nat),(∀ x,x ∈ us→x≤2)→∀ s,s ∈ Q2 us k d i→s.k≤2∧1≤s.n
 |[],k,d,i,_,s,hs=>by
  simp only[Q2,List.mem_append] at hs
  rcases hs with hs | hs | hs<;>(unfold fl at hs;split at hs<;>simp at hs;subst hs;simp;omega)
 |x::us,k,d,i,h,s,hs=>by
  have hu:∀ y,y ∈ us→y≤2:=fun y hy=>h y (by simp[hy])
  rw[Q2] at hs
  have fin:∀ q n,q≤2→s ∈ fl q n→s.k≤2∧1≤s.n:=fun q n hq hs=>by
   unfold fl at hs;split at hs<;>simp at hs;subst hs;simp;omega
  split at hs
  ·simp only[List.mem_append] at hs
   rcases hs with hs | hs | hs
   ·exact fin 1 _ (by omega) hs
   ·exact fin 2 _ (by omega) hs
   ·exact ZM us _ _ _ hu s hs
  ·rw[List.mem_append] at hs
   rcases hs with hs | hs
   ·exact fin 0 _ (by omega) hs
   ·split at hs
    ·exact ZM us _ _ _ hu s hs
    ·exact ZM us _ _ _ hu s hs
theorem sw (p q:Nat):∀ x,x ∈ MV p q→x≤2:=by
 intro x hx
 unfold MV at hx
 split at hx
 ·rcases List.mem_append.1 hx with h | h
  ·have:=List.eq_of_mem_replicate h;omega
  ·simp at h;omega
 ·simp at hx;omega
theorem yP {p q:Nat} (h:p≤q):dA (MV p q)=1∧dB (MV p q)=q-p:=by
 unfold MV
 split
 ·rw[Dl,Dk,DN,DL]
  simp[dA,dB]
  omega
 ·simp[dA,dB]
  omega
theorem Sa (a b:List Int):∀ x,x ∈ Gg a b→x≤2:=by
 intro x hx
 unfold Gg at hx
 rcases List.mem_append.1 hx with h | h
 ·obtain⟨i,_,hi⟩:=List.mem_flatMap.1 h
  exact sw _ _ x hi
 ·have:=List.eq_of_mem_replicate h;omega
theorem im (a b:List Int):∀ n,n≤a.length→dA ((List.range n).flatMap (fun i=>MV (AP a b i) (AP a b (i+1))))=n∧dB ((List.range n).flatMap (fun i=>MV (AP a b i) (AP a b (i+1))))=AP a b n
 |0,_=>by simp[dA,dB,Sq]
 |n+1,h=>by
  obtain⟨h1,h2⟩:=im a b n (by omega)
  have hm:=Rc (a:=a) (b:=b) (i:=n) (h:=n+1) (by omega) h
  obtain⟨g1,g2⟩:=yP hm
  rw[List.range_succ,List.flatMap_append,Dl,Dk,h1,h2]
  simp[g1,g2]
  omega
theorem WO (a b:List Int):dA (Gg a b)=a.length∧dB (Gg a b)=b.length:=by
 obtain⟨h1,h2⟩:=im a b a.length (BW _)
 have hl:=(Fv (a:=a) (b:=b) (i:=a.length) (BW _)).2.1
 unfold Gg
 rw[Dl,Dk,h1,h2,DN,DL]
 simp
 omega
abbrev UF (l:List Sc):A:=.sl false (l.map Ho)
theorem sX {n0:Nat} {w0:World} {I0:Nat→Prop} {Q:Exit→Sta→Prop} {l:List Sc} {x:Sc} {H:Hp} (hl:l.length≤1000) (hq:B4 l x=true→∀ st,Q (.exit 0) ⟨lk st,H⟩) (hq2:B4 l x=false→Q .ret ⟨lk [(6,bv false)],H⟩):∀ (m i:Nat),i+m=l.length→B4 (l.drop i) x=B4 l x →
  LoopC (cx Tryz.prog w0 I0 n0) Ex Q ⟨lk [(0,UF l),(1,iv x.i),(2,iv x.j),(7,iv i)],H⟩:=by
 intro m
 induction m with
 |zero=>
  intro i hm hf
  refine Ad Ah Ex.eq_1 ?_
  have:¬ (i:Int)<l.length:=by omega
  simp[this]
  rw[List.drop_eq_nil_of_le (by omega)] at hf
  exact hq hf.symm [(0,UF l),(1,iv x.i),(2,iv x.j),(7,iv i),(11,bv false)]
 |succ m ih=>
  intro i hm hf
  have hi:i<l.length:=by omega
  have e1:IntKind.i64.wrap ((i:Int)+1)=((i+1:Nat):Int):=An
  have hd:l.drop i=l[i]::l.drop (i+1):=(List.getElem_cons_drop hi).symm
  have hgo:Vr l[i] x=true→B4 (l.drop (i+1)) x=B4 l x:=fun h=>by rw[← hf,hd];unfold B4;rw[List.all_cons,h,Bool.true_and]
  have hno:Vr l[i] x=false→B4 l x=false:=fun h=>by rw[← hf,hd];unfold B4;rw[List.all_cons,h,Bool.false_and]
  have ih':=fun h=>ih (i+1) (by omega) (hgo h)
  refine Ad Ah Ex.eq_1 ?_
  unfold Vr at hgo hno ih'
  generalize hy:l[i]=y at hgo hno ih'
  by_cases h1:y.i<x.i<;>by_cases h2:y.j<x.j<;>by_cases h3:x.i<y.i<;>by_cases h4:x.j<y.j<;>first | omega | skip
  all_goals simp[h1,h2,h3,h4] at hno ih'
  all_goals simp[hi,hy,Ho,OG,h1,h2,h3,h4,e1]
  all_goals first | exact hq2 hno | exact ih' | skip
theorem lR (l:List Sc) (x:Sc) (hl:l.length≤1000):G.Spec Tryz.prog 268 [UF l,iv x.i,iv x.j] (bv (B4 l x)):=by
 refine Aj Sr (by simp) fun w0 I0=>?_
 unfold KA
 simp
 refine LoopC.le (Ao [(0,UF l),(1,iv x.i),(2,iv x.j),(7,iv (0:Nat))] (by simp)) ?_
 refine sX hl (fun h st=>?_) (fun h=>?_) l.length 0 (by omega) (by simp)
 ·simp[h]
  exact Ab rfl
 ·simp[h]
  exact Ab rfl
theorem tF {n0:Nat} {w0:World} {I0:Nat→Prop} {Q:Exit→Sta→Prop} {rs:List (List Int)} {o:List Sc} (ho:o.length≤1000) {i:Nat} (hi:i<rs.length) (hi16:i<16) (hr:rs[i].length≤1000000):∀ (m j:Nat) (b:Sc) (H:Hp),rs[i].length=j+m→0≤b.n→H [1]=⟨1,.cells (OG b)⟩→H [0]=⟨1,.cells [iv 0,iv 0]⟩ →
  (∀ (b':Sc) (H':Hp) (st:List (Nat × A)),b'=Fb o b (C6 i j (rs[i].drop j))→0≤b'.n→H' [1]=⟨1,.cells (OG b')⟩→H' [0]=⟨1,.cells [iv 0,iv 0]⟩→Q (.exit 2) ⟨lk ([(0,Lr rs),(1,UF o),(4,.pob [0] 1 0),(6,.pob [1] 1 0),(7,iv b'.n),(8,iv i)]++st),H'⟩) →
  LoopC (cx Tryz.prog w0 I0 n0) C3 Q ⟨lk [(0,Lr rs),(1,UF o),(4,.pob [0] 1 0),(6,.pob [1] 1 0),(7,iv b.n),(8,iv i),(9,iv j)],H⟩:=by
 intro m
 induction m with
 |zero=>
  intro j b H hm hb0 hH hH0 hq
  refine Ad Ah C3.eq_1 ?_
  have:¬ (j:Int)<rs[i].length:=by omega
  have hd:rs[i].drop j=[]:=List.drop_eq_nil_of_le (by omega)
  rw[hd] at hq
  simp[hi,show(i:Int)<rs.length by omega,this]
  exact hq b H [(9,iv j),(31,bv false)] rfl hb0 hH hH0
 |succ m ih=>
  intro j b H hm hb0 hH hH0 hq
  have hj:j<rs[i].length:=by omega
  have hd:rs[i].drop j=rs[i][j]::rs[i].drop (j+1):=(List.getElem_cons_drop hj).symm
  have e1:IntKind.i64.wrap ((j:Int)+1)=((j+1:Nat):Int):=An
  have hfar:¬ j<16→C6 i j (rs[i].drop j)=[]:=fun h=>by
   have:=SW (i:=i) (r:=rs[i].drop j) (j:=j)
   exact List.eq_nil_of_length_eq_zero (by omega)
  refine Ad Ah C3.eq_1 ?_
  by_cases h16:j<16
  ·have hF:=lR o ⟨i,j,rs[i][j]⟩ ho
   simp[hi,hj,show(i:Int)<rs.length by omega,show(j:Int)<rs[i].length by omega,h16,show(j:Int)<16 by omega]
   have hstep:C6 i j (rs[i].drop j)=if 0<rs[i][j] then ⟨i,j,rs[i][j]⟩::C6 i (j+1) (rs[i].drop (j+1)) else C6 i (j+1) (rs[i].drop (j+1)):=by
    rw[hd,C6];simp[hi16,h16]
   have next:∀ (b2:Sc) (H2:Hp),0≤b2.n→H2 [1]=⟨1,.cells (OG b2)⟩→H2 [0]=⟨1,.cells [iv 0,iv 0]⟩→Fb o b2 (C6 i (j+1) (rs[i].drop (j+1)))=Fb o b (C6 i j (rs[i].drop j))→LoopC (cx Tryz.prog w0 I0 n0) C3 Q ⟨lk [(0,Lr rs),(1,UF o),(4,.pob [0] 1 0),(6,.pob [1] 1 0),(7,iv b2.n),(8,iv i),(9,iv (j+1:Nat))],H2⟩:=fun b2 H2 h0 q1 q2 he=>ih (j+1) b2 H2 (by omega) h0 q1 q2 (by rw[he];exact hq)
   by_cases h1:b.n<rs[i][j]
   ·rw[Az]
    simp[h1]
    refine Ae hF rfl ?_
    cases hf:B4 o ⟨i,j,rs[i][j]⟩ with
    |true=>
     simp[hi,hj,show(i:Int)<rs.length by omega,show(j:Int)<rs[i].length by omega,h1,hH,e1]
     refine next ⟨i,j,rs[i][j]⟩ _ (by simp;omega) (by simp[Aa,OG]) (by simp[Aa,hH0]) ?_
     rw[hstep,if_pos (by omega)]
     simp[Fb,h1,hf]
    |false=>
     simp[h1,e1]
     refine next b H hb0 hH hH0 ?_
     rw[hstep]
     split
     ·simp[Fb,hf]
     ·rfl
   ·rw[Az]
    simp[h1,e1]
    refine next b H hb0 hH hH0 ?_
    rw[hstep]
    split
    ·simp[Fb,h1]
    ·rfl
  ·simp[hi,show(i:Int)<rs.length by omega,show(j:Int)<rs[i].length by omega,show ¬ (j:Int)<16 by omega]
   exact hq b H [(9,iv j),(31,bv false)] (by rw[hfar h16];rfl) hb0 hH hH0
theorem tQ {n0:Nat} {w0:World} {I0:Nat→Prop} {Q:Exit→Sta→Prop} {rs:List (List Int)} {o:List Sc} (ho:o.length≤1000) (hrs:rs.length≤1000000) (hr:∀ r,r ∈ rs→r.length≤1000000):∀ (m i:Nat) (b:Sc) (H:Hp),rs.length=i+m→0≤b.n→H [1]=⟨1,.cells (OG b)⟩→H [0]=⟨1,.cells [iv 0,iv 0]⟩ →
  (∀ (b':Sc) (H':Hp) (st:List (Nat × A)),b'=Fb o b (CE i (rs.drop i))→H' [1]=⟨1,.cells (OG b')⟩→H' [0]=⟨1,.cells [iv 0,iv 0]⟩→Q (.exit 0) ⟨lk ([(0,Lr rs),(1,UF o),(4,.pob [0] 1 0),(6,.pob [1] 1 0),(7,iv b'.n)]++st),H'⟩) →
  LoopC (cx Tryz.prog w0 I0 n0) Eu Q ⟨lk [(0,Lr rs),(1,UF o),(4,.pob [0] 1 0),(6,.pob [1] 1 0),(7,iv b.n),(8,iv i)],H⟩:=by
 intro m
 induction m with
 |zero=>
  intro i b H hm hb0 hH hH0 hq
  refine Ad Ah Eu.eq_1 ?_
  have:¬ (i:Int)<rs.length:=by omega
  have hd:rs.drop i=[]:=List.drop_eq_nil_of_le (by omega)
  rw[hd] at hq
  simp[this]
  exact hq b H [(8,iv i),(18,bv false)] rfl hH hH0
 |succ m ih=>
  intro i b H hm hb0 hH hH0 hq
  have hi:i<rs.length:=by omega
  have hd:rs.drop i=rs[i]::rs.drop (i+1):=(List.getElem_cons_drop hi).symm
  have e1:IntKind.i64.wrap ((i:Int)+1)=((i+1:Nat):Int):=An
  refine Ad Ah Eu.eq_1 ?_
  by_cases h16:i<16
  ·simp[show(i:Int)<rs.length by omega,show(i:Int)<16 by omega]
   refine LoopC.le (Ao [(0,Lr rs),(1,UF o),(4,.pob [0] 1 0),(6,.pob [1] 1 0),(7,iv b.n),(8,iv i),(9,iv (0:Nat))] (by simp)) ?_
   refine tF ho hi h16 (hr _ (Bq hi)) rs[i].length 0 b H (by omega) hb0 hH hH0 fun b' H' st hb' hn' q1 q0=>?_
   simp[e1]
   refine ih (i+1) b' H' (by omega) hn' q1 q0 fun b2 H2 st2 hb2 r1 r0=>hq b2 H2 st2 ?_ r1 r0
   rw[hb2,hb',hd,CE,Fb,Fb,Fb,List.foldl_append,List.drop_zero]
  ·have hz:CE i (rs.drop i)=[]:=List.eq_nil_of_length_eq_zero (by have:=OM (rs:=rs.drop i) (i:=i);rw[show 16-i=0 by omega] at this;omega)
   simp[show(i:Int)<rs.length by omega,show ¬ (i:Int)<16 by omega]
   exact hq b H [(8,iv i),(18,bv false)] (by rw[hz];rfl) hH hH0
theorem YW (rs:List (List Int)) (o:List Sc) (hl:o.length≤1000) (hrs:rs.length≤1000000) (hr:∀ r,r ∈ rs→r.length≤1000000):G.Spec Tryz.prog 250 [Lr rs,UF o] (.tup [Ho (Fb o sc0 (CE 0 rs)),iv (Fb o sc0 (CE 0 rs)).n]):=by
 refine Aj R3 (by simp) fun w0 I0=>?_
 unfold KS
 simp
 refine LoopC.le (Ao [(0,Lr rs),(1,UF o),(4,.pob [0] 1 0),(6,.pob [1] 1 0),(7,iv sc0.n),(8,iv (0:Nat))] (by simp[sc0])) ?_
 refine tQ hl hrs hr rs.length 0 sc0 _ (by omega) (by simp[sc0]) (by simp[Aa,OG,sc0]) (by simp[Aa]) fun b' H' st hb' q1 q0=>?_
 rw[List.drop_zero] at hb'
 rw[← hb']
 simp[q1,q0,Aa,OG]
 exact Ab rfl
end Go.Proofs.YtbjmaoedheiigaaGreat
namespace Go.PL
open List
def U3 (x:Sc):List Sc→Nat
 |[]=>0
 |y::l=>if y.i<x.i then U3 x l+1 else 0
theorem py (x:Sc):∀ l,U3 x l≤l.length
 |[]=>by simp[U3]
 |y::l=>by
  have:=py x l
  unfold U3
  split<;>simp<;>omega
theorem jJ (x:Sc):∀ l,RU x l=l.take (U3 x l)++x::l.drop (U3 x l)
 |[]=>by simp[RU,U3]
 |y::l=>by
  unfold RU U3
  split
  ·simp[jJ x l]
  ·simp
theorem ky (o:List Sc) (x:Sc):Ct (o++[x])=RU x (Ct o):=by simp[Ct]
theorem lM {a b:List Sc} (h:a ~ b) (x:Sc):B4 a x=B4 b x:=by
 unfold B4
 rw[Bool.eq_iff_iff,List.all_eq_true,List.all_eq_true]
 exact⟨fun k y hy=>k y (h.symm.subset hy),fun k y hy=>k y (h.subset hy)⟩
theorem Qq {a b:List Sc} (h:a ~ b):∀ (l:List Sc) (s:Sc),Fb a s l=Fb b s l
 |[],s=>rfl
 |y::l,s=>by
  have:=Qq h l
  unfold Fb at this ⊢
  simp only[List.foldl_cons,lM h,this]
theorem qm {all o o':List Sc} (h:Kg all o o'):o <+: o':=by
 induction h with
 |done h=>exact List.prefix_rfl
 |step hx hp ih=>exact(List.prefix_append _ _).trans ih
end Go.PL
namespace Go.Proofs.YtbjmaoedheiigaaGreat
open Go Go.G Go.Proofs Go.PL
theorem jX {c:Cx} {s:Nat→A} {H:Hp} (t:Nat):Le c ⟨s,H⟩ ⟨upd s t (A.soft (s t)),H⟩:=fun a w I μ hs=>
 ⟨I,μ,hs.sim,hs.size,hs.defers,fun k=>by
  show Rel w I μ (upd s t (A.soft (s t)) k) _
  unfold upd
  split
  ·rename_i e
   subst e
   exact(hs.rel _).soft
  ·exact hs.rel k⟩
theorem yh {n0:Nat} {w0:World} {I0:Nat→Prop} {Q:Exit→Sta→Prop} {X:A} {l:List Sc} {x:Sc} {k u:Nat} {H:Hp} (hl:l.length≤1000) (hH:H [0]=⟨u,.cells (OG x)⟩) (hq:∀ st,Q (.exit 2) ⟨lk ([(0,X),(3,UF l),(4,iv k),(5,.pob [0] u 0),(7,.sl true []),(8,iv (U3 x l))]++st),H⟩):∀ (m i:Nat),i+m=l.length→i+U3 x (l.drop i)=U3 x l →
  LoopC (cx Tryz.prog w0 I0 n0) El Q ⟨lk [(0,X),(3,UF l),(4,iv k),(5,.pob [0] u 0),(7,.sl true []),(8,iv i)],H⟩:=by
 intro m
 induction m with
 |zero=>
  intro i hm hf
  refine Ad Ah El.eq_1 ?_
  have:¬ (i:Int)<l.length:=by omega
  rw[List.drop_eq_nil_of_le (by omega)] at hf
  have:i=U3 x l:=by rw[← hf];rfl
  simp[show ¬ (i:Int)<l.length by omega]
  rw[this]
  exact hq [(35,bv false)]
 |succ m ih=>
  intro i hm hf
  have hi:i<l.length:=by omega
  have e1:IntKind.i64.wrap ((i:Int)+1)=((i+1:Nat):Int):=An
  have hd:l.drop i=l[i]::l.drop (i+1):=(List.getElem_cons_drop hi).symm
  rw[hd,U3] at hf
  refine Ad Ah El.eq_1 ?_
  by_cases h1:l[i].i<x.i
  ·rw[if_pos h1] at hf
   simp[hi,hH,Ho,OG,h1,e1]
   exact ih (i+1) (by omega) (by omega)
  ·rw[if_neg h1] at hf
   have:i=U3 x l:=by rw[← hf];rfl
   simp[hi,hH,Ho,OG,h1,e1]
   rw[this]
   exact hq [(35,bv false)]
theorem xU {n0:Nat} {w0:World} {I0:Nat→Prop} {rs:List (List Int)} (hrs:rs.length≤1000000) (hr:∀ r,r ∈ rs→r.length≤1000000) {Q:Exit→Sta→Prop} {o o':List Sc} (h:Kg (CE 0 rs) o o') (hl:o'.length≤16) (ha:DZ o) (hq:∀ H,Q .ret ⟨lk [(2,UF (Ct o'))],H⟩):∀ (H:Hp),
  LoopC (cx Tryz.prog w0 I0 n0) EE Q ⟨lk [(0,Lr rs),(3,UF (Ct o)),(4,iv o.length)],H⟩:=by
 induction h with
 |@done o h=>
  intro H
  have hsl:(Ct o).length=o.length:=(J1 ha).2.length_eq
  have hB:=YW rs (Ct o) (by omega) hrs hr
  refine Ad Ah EE.eq_1 ?_
  simp[show(o.length:Int)<17 by omega]
  refine Ae hB rfl ?_
  have hb:Fb (Ct o) sc0 (CE 0 rs)=sc0:=by
   rw[Qq (J1 ha).2]
   rcases WM (rs:=rs) (o:=o) with ⟨h,_⟩ | h'
   ·exact h
   ·have:=h _ h'.1;rw[h'.2.1] at this;cases this
  rw[hb]
  simp[sc0,Ho,OG]
  exact hq _
 |@step o x o' hx hp ih=>
  intro H
  have hol:=(qm hp).length_le
  simp at hol
  have hsl:(Ct o).length=o.length:=(J1 ha).2.length_eq
  have hB:=YW rs (Ct o) (by omega) hrs hr
  refine Ad Ah EE.eq_1 ?_
  simp[show(o.length:Int)<17 by omega]
  refine Ae hB rfl ?_
  have hb:Fb (Ct o) sc0 (CE 0 rs)=x:=by
   rw[Qq (J1 ha).2]
   rcases WM (rs:=rs) (o:=o) with ⟨_,h⟩ | h
   ·have:=h x hx.1;rw[hx.2.1] at this;cases this
   ·exact cP h hx
  have hn:=(JB hx.1).2.2.2.1
  rw[hb]
  simp[show ¬ x.n=0 by omega]
  refine yh (x:=x) (u:=(H [0]).u+1) (by omega) (by simp[Aa]) (fun st=>?_) (Ct o).length 0 (by omega) (by simp)
  have hat:=py x (Ct o)
  simp[Aa,hat]
  have f1:List.take (U3 x (Ct o)) (List.map Ho (Ct o))=List.map Ho ((Ct o).take (U3 x (Ct o))):=by simp
  have f2:List.take ((Ct o).length-U3 x (Ct o)) (List.drop (U3 x (Ct o)) (List.map Ho (Ct o)))=List.map Ho ((Ct o).drop (U3 x (Ct o))):=by
   rw[AI (by simp)];simp
  have f3:Ct (o++[x])=(Ct o).take (U3 x (Ct o))++x::(Ct o).drop (U3 x (Ct o)):=by rw[ky,jJ]
  have f4:((Ct o).take (U3 x (Ct o))).length+((Ct o).drop (U3 x (Ct o))).length≤16:=by simp;omega
  rw[f1,f2]
  generalize (Ct o).take (U3 x (Ct o))=A1 at f3 f4
  generalize (Ct o).drop (U3 x (Ct o))=A2 at f3 f4
  have e1:IntKind.i64.wrap ((o.length:Int)+1)=(((o++[x]).length:Nat):Int):=by rw[Af (by omega) (by omega)];simp
  rw[e1]
  have d3:OG x=[iv x.i,iv x.j]:=rfl
  simp[iq,Aa,d3]
  refine⟨by omega,by omega,by omega,?_⟩
  refine LoopC.le (Fz (d:=[1]) (fun _ h=>h) 3 (UF (Ct (o++[x]))) fun H1 h1=>?_) ?_
  ·rw[f3]
   refine Bb (u:=(H [1]).u+1+1+1) (sz:=2) ?_ (by simp;omega) (fun x=>rfl)
   rw[h1]
   simp[Aa]
   rw[AI (by simp)]
   rw[AI (by simp)]
   simp
   rfl
  ·refine LoopC.le (Ao [(0,Lr rs),(3,UF (Ct (o++[x]))),(4,iv (o++[x]).length)] (by simp)) ?_
   exact ih hl (Xe ha hx.2.1) hq _
theorem rq (rs:List (List Int)) (hrs:rs.length≤1000000) (hr:∀ r,r ∈ rs→r.length≤1000000) {o':List Sc} (ho:Kg (CE 0 rs) [] o') (hl16:o'.length≤16):G.Spec Tryz.prog 216 [Lr rs] (UF (Ct o')):=by
 refine Aj R8 (by simp) fun w0 I0=>?_
 unfold Lb
 simp
 refine LoopC.le (jX 3) ?_
 refine LoopC.le (Ao [(0,Lr rs),(3,UF (Ct [])),(4,iv (([]:List Sc).length:Nat))] (by simp[A.soft,A.softL,Ct])) ?_
 refine xU hrs hr ho hl16 (by simp[DZ]) (fun H=>?_) _
 simp
 exact Ab rfl
variable {n0:Nat} {w0:World} {I0:Nat→Prop} {Q:Exit→Sta→Prop}
theorem w6 {a b:T} {H:Hp} (ha:BB a) (hb:BB b) (h0:H [0]=⟨1,.cells (tL a)⟩) (h1:H [1]=⟨1,.cells (tL b)⟩):∀ (m i n:Nat),i+m=min a.words.length b.words.length→n≤1+i →
  (∀ st,Q (.exit 0) ⟨lk ([(2,.pob [0] 1 0),(3,.pob [1] 1 0),(5,nv (n+Np (a.words.drop i) (b.words.drop i)))]++st),H⟩) →
  LoopC (cx Tryz.prog w0 I0 n0) D6 Q ⟨lk [(2,.pob [0] 1 0),(3,.pob [1] 1 0),(5,nv n),(6,iv i)],H⟩:=by
 have hal:=(wfT_iff.1 ha).wl
 intro m
 induction m with
 |zero=>
  intro i n hm hn hq
  refine Ad Ah D6.eq_1 ?_
  rw[dF (by omega)] at hq
  by_cases hlt:i<a.words.length
  ·have:¬ i<b.words.length:=by omega
   simp[h0,h1,hlt,this]
   exact hq [(6,iv i),(34,bv false)]
  ·simp[h0,h1,hlt]
   exact hq [(6,iv i),(34,bv false)]
 |succ m ih=>
  intro i n hm hn hq
  have hi:i<a.words.length:=by omega
  have hj:i<b.words.length:=by omega
  have e1:IntKind.i64.wrap ((i:Int)+1)=((i+1:Nat):Int):=An
  have e2:IntKind.i64.wrap ((n:Int)+1)=((n+1:Nat):Int):=An
  rw[iU hi hj] at hq
  refine Ad Ah D6.eq_1 ?_
  by_cases h:a.words[i]=b.words[i]
  ·simp[h0,h1,hi,hj,h,e1,e2]
   refine ih (i+1) (n+1) (by omega) (by omega) fun st=>?_
   have:=hq st
   rw[if_pos h] at this
   rw[show n+1+Np (a.words.drop (i+1)) (b.words.drop (i+1))=n+(1+Np (a.words.drop (i+1)) (b.words.drop (i+1))) by omega]
   exact this
  ·simp[h0,h1,hi,hj,h,e1]
   refine ih (i+1) n (by omega) (by omega) fun st=>?_
   have:=hq st
   rw[if_neg h,Nat.zero_add] at this
   exact this
theorem wY {a b:T} {H:Hp} (ha:BB a) (hb:BB b) (h0:H [0]=⟨1,.cells (tL a)⟩) (h1:H [1]=⟨1,.cells (tL b)⟩):∀ (m i n:Nat),i+m=min a.kids.length b.kids.length→n≤100000000000000+i →
  (∀ st,Q (.exit 2) ⟨lk ([(2,.pob [0] 1 0),(3,.pob [1] 1 0),(5,nv (n+U2 (a.kids.drop i) (b.kids.drop i)))]++st),H⟩) →
  LoopC (cx Tryz.prog w0 I0 n0) D7 Q ⟨lk [(2,.pob [0] 1 0),(3,.pob [1] 1 0),(5,nv n),(7,iv i)],H⟩:=by
 have hal:=(wfT_iff.1 ha).kl
 intro m
 induction m with
 |zero=>
  intro i n hm hn hq
  refine Ad Ah D7.eq_1 ?_
  rw[bb (by omega)] at hq
  by_cases hlt:i<a.kids.length
  ·have:¬ i<b.kids.length:=by omega
   simp[h0,h1,hlt,this]
   exact hq [(7,iv i),(61,bv false)]
  ·simp[h0,h1,hlt]
   exact hq [(7,iv i),(61,bv false)]
 |succ m ih=>
  intro i n hm hn hq
  have hi:i<a.kids.length:=by omega
  have hj:i<b.kids.length:=by omega
  have e1:IntKind.i64.wrap ((i:Int)+1)=((i+1:Nat):Int):=An
  have e2:IntKind.i64.wrap ((n:Int)+1)=((n+1:Nat):Int):=An
  have hE:=UH ((wfT_iff.1 ha).ks _ (Bq hi)) ((wfT_iff.1 hb).ks _ (Bq hj)) (GM _ ((wfT_iff.1 ha).ks _ (Bq hi)))
  rw[jn hi hj] at hq
  refine Ad Ah D7.eq_1 ?_
  simp[h0,h1,hi,hj]
  refine Ae hE (by simp) ?_
  cases h:KJ a.kids[i] b.kids[i] with
  |true=>
   simp[e1,e2]
   refine ih (i+1) (n+1) (by omega) (by omega) fun st=>?_
   have:=hq st
   rw[if_pos h] at this
   rw[show n+1+U2 (a.kids.drop (i+1)) (b.kids.drop (i+1))=n+(1+U2 (a.kids.drop (i+1)) (b.kids.drop (i+1))) by omega]
   exact this
  |false=>
   simp[e1]
   refine ih (i+1) n (by omega) (by omega) fun st=>?_
   have:=hq st
   rw[if_neg (by rw[h];decide),Nat.zero_add] at this
   exact this
theorem cj {a b:T} (ha:BB a) (hb:BB b):G.Spec Tryz.prog 215 [tX a,tX b] (nv (Ej a b)):=by
 have hal:=(wfT_iff.1 ha).wl
 refine Aj QL (by simp) fun w0 I0=>?_
 unfold JN
 by_cases hk:a.kind=b.kind
 ·by_cases h0:b.kind=0
  ·simp[hk,h0]
   exact BS (by simp[Ej,hk,h0])
  ·by_cases h10:b.kind=10
   ·simp[hk,h0,h10]
    exact BS (by simp[Ej,hk,h10])
   ·simp[hk,h0,h10]
    refine LoopC.le (Ao [(2,.pob [0] 1 0),(3,.pob [1] 1 0),(5,nv 1),(6,iv (0:Nat))] (by simp)) ?_
    refine w6 ha hb (by simp[Aa,hk]) (by simp[Aa]) _ 0 1 (Nat.zero_add _) (by omega) fun st=>?_
    simp
    refine LoopC.le (Ao [(2,.pob [0] 1 0),(3,.pob [1] 1 0),(5,nv (1+Np a.words b.words)),(7,iv (0:Nat))] (by simp)) ?_
    have:=V3 a.words b.words
    refine wY ha hb (by simp[Aa,hk]) (by simp[Aa]) _ 0 _ (Nat.zero_add _) (by omega) fun st=>?_
    simp
    refine BS ?_
    simp[Ej,hk,h0,h10]
 ·simp[hk]
  exact BS (by simp[Ej,hk])
theorem wK {a b:T} {H:Hp} (ha:BB a) (hb:BB b) (h0:H [0]=⟨1,.cells (tL a)⟩) (h1:H [1]=⟨1,.cells (tL b)⟩):∀ (m i n:Nat),i+m=min a.words.length b.words.length→n≤1+i →
  (∀ st,Q (.exit 0) ⟨lk ([(2,.pob [0] 1 0),(3,.pob [1] 1 0),(5,nv (n+Np (a.words.drop i) (b.words.drop i)))]++st),H⟩) →
  LoopC (cx Tryz.prog w0 I0 n0) HX Q ⟨lk [(2,.pob [0] 1 0),(3,.pob [1] 1 0),(5,nv n),(29,iv (min a.words.length b.words.length:Nat)),(30,iv i)],H⟩:=by
 have hal:=(wfT_iff.1 ha).wl
 intro m
 induction m with
 |zero=>
  intro i n hm hn hq
  refine Ad Ah HX.eq_1 ?_
  rw[dF (by omega)] at hq
  generalize min a.words.length b.words.length=N at *
  simp[show ¬ i<N by omega]
  exact hq [(29,iv N),(30,iv i),(31,bv false)]
 |succ m ih=>
  intro i n hm hn hq
  have hi:i<a.words.length:=by omega
  have hj:i<b.words.length:=by omega
  have e1:IntKind.i64.wrap ((i:Int)+1)=((i+1:Nat):Int):=An
  have e2:IntKind.i64.wrap ((n:Int)+1)=((n+1:Nat):Int):=An
  rw[iU hi hj] at hq
  generalize min a.words.length b.words.length=N at *
  have hN:i<N:=by omega
  refine Ad Ah HX.eq_1 ?_
  by_cases h:a.words[i]=b.words[i]
  ·simp[h0,h1,hi,hj,hN,h,e1,e2]
   refine ih (i+1) (n+1) (by omega) (by omega) fun st=>?_
   have:=hq st
   rw[if_pos h] at this
   rw[show n+1+Np (a.words.drop (i+1)) (b.words.drop (i+1))=n+(1+Np (a.words.drop (i+1)) (b.words.drop (i+1))) by omega]
   exact this
  ·simp[h0,h1,hi,hj,hN,h,e1]
   refine ih (i+1) n (by omega) (by omega) fun st=>?_
   have:=hq st
   rw[if_neg h,Nat.zero_add] at this
   exact this
theorem xQ {a b:T} {H:Hp} (ha:BB a) (hb:BB b) (h0:H [0]=⟨1,.cells (tL a)⟩) (h1:H [1]=⟨1,.cells (tL b)⟩):∀ (m i n:Nat),i+m=min a.kids.length b.kids.length→n≤100000000000000+i →
  (∀ st,Q (.exit 2) ⟨lk ([(2,.pob [0] 1 0),(3,.pob [1] 1 0),(5,nv (n+U2 (a.kids.drop i) (b.kids.drop i)))]++st),H⟩) →
  LoopC (cx Tryz.prog w0 I0 n0) HR Q ⟨lk [(2,.pob [0] 1 0),(3,.pob [1] 1 0),(5,nv n),(53,iv (min a.kids.length b.kids.length:Nat)),(54,iv i)],H⟩:=by
 have hal:=(wfT_iff.1 ha).kl
 intro m
 induction m with
 |zero=>
  intro i n hm hn hq
  refine Ad Ah HR.eq_1 ?_
  rw[bb (by omega)] at hq
  generalize min a.kids.length b.kids.length=N at *
  simp[show ¬ i<N by omega]
  exact hq [(53,iv N),(54,iv i),(55,bv false)]
 |succ m ih=>
  intro i n hm hn hq
  have hi:i<a.kids.length:=by omega
  have hj:i<b.kids.length:=by omega
  have e1:IntKind.i64.wrap ((i:Int)+1)=((i+1:Nat):Int):=An
  have e2:IntKind.i64.wrap ((n:Int)+1)=((n+1:Nat):Int):=An
  have hE:=Xk ((wfT_iff.1 ha).ks _ (Bq hi)) ((wfT_iff.1 hb).ks _ (Bq hj))
  rw[jn hi hj] at hq
  generalize min a.kids.length b.kids.length=N at *
  have hN:i<N:=by omega
  refine Ad Ah HR.eq_1 ?_
  simp[h0,h1,hi,hj,hN]
  refine Ae hE (by simp) ?_
  cases h:KJ a.kids[i] b.kids[i] with
  |true=>
   simp[e1,e2]
   refine ih (i+1) (n+1) (by omega) (by omega) fun st=>?_
   have:=hq st
   rw[if_pos h] at this
   rw[show n+1+U2 (a.kids.drop (i+1)) (b.kids.drop (i+1))=n+(1+U2 (a.kids.drop (i+1)) (b.kids.drop (i+1))) by omega]
   exact this
  |false=>
   simp[e1]
   refine ih (i+1) n (by omega) (by omega) fun st=>?_
   have:=hq st
   rw[if_neg (by rw[h];decide),Nat.zero_add] at this
   exact this
theorem bh {a b:T} (ha:BB a) (hb:BB b):G.Spec Tryz.prog 202 [tX a,tX b] (nv (Ej a b)):=by
 have hal:=(wfT_iff.1 ha).wl
 refine Aj Zv (by simp) fun w0 I0=>?_
 unfold Q9
 by_cases hk:a.kind=b.kind
 ·by_cases h0:b.kind=0
  ·simp[hk,h0]
   exact BS (by simp[Ej,hk,h0])
  ·by_cases h10:b.kind=10
   ·simp[hk,h0,h10]
    exact BS (by simp[Ej,hk,h10])
   ·simp[hk,h0,h10]
    refine LoopC.le (Ao [(2,.pob [0] 1 0),(3,.pob [1] 1 0),(5,nv 1),(29,iv (min a.words.length b.words.length:Nat)),(30,iv (0:Nat))] (by simp;omega)) ?_
    refine wK ha hb (by simp[Aa,hk]) (by simp[Aa]) _ 0 1 (Nat.zero_add _) (by omega) fun st=>?_
    simp
    refine LoopC.le (Ao [(2,.pob [0] 1 0),(3,.pob [1] 1 0),(5,nv (1+Np a.words b.words)),(53,iv (min a.kids.length b.kids.length:Nat)),(54,iv (0:Nat))] (by simp;omega)) ?_
    have:=V3 a.words b.words
    refine xQ ha hb (by simp[Aa,hk]) (by simp[Aa]) _ 0 _ (Nat.zero_add _) (by omega) fun st=>?_
    simp
    refine BS ?_
    simp[Ej,hk,h0,h10]
 ·simp[hk]
  exact BS (by simp[Ej,hk])
theorem nE {t:T} (hl:t.kids.length*56≤140737488355328) (ih:∀ c,c ∈ t.kids→G.Spec Tryz.prog 31 [tX c] (tX (Ai c))) {v v0:VOb} {k w:A}:∀ (m i:Nat) (u:Nat) (H:Hp),i+m=t.kids.length→H [0]=v0→H [1]=v→H [2]=⟨1,.cells [k,w,.osl [4] u 3 0 i]⟩→H [4]=⟨u,.arr 3 ((t.kids.take i).map (tA ∘ Ai))⟩ →
  (∀ i' q (u':Nat) (H':Hp),H' [0]=v0→H' [1]=v→H' [2]=⟨1,.cells [k,w,.osl [4] u' 3 0 t.kids.length]⟩→H' [4]=⟨u',.arr 3 (t.kids.map (tA ∘ Ai))⟩→Q (.exit 0) ⟨lk [(1,.pob [0] 1 0),(2,.pob [1] 1 0),(3,.pob [2] 1 0),(17,Ba t.kids),(18,iv t.kids.length),(19,iv i'),(20,bv q)],H'⟩) →
  LoopC (cx Tryz.prog w0 I0 n0) Js Q ⟨lk [(1,.pob [0] 1 0),(2,.pob [1] 1 0),(3,.pob [2] 1 0),(17,Ba t.kids),(18,iv t.kids.length),(19,iv i)],H⟩:=by
 intro m
 induction m with
 |zero=>
  intro i u H hi hA hR hO hB hq
  have:i=t.kids.length:=by omega
  subst this
  refine Ad Ah Js.eq_1 ?_
  simp
  exact hq _ _ u H hA hR hO (by rw[hB];simp)
 |succ m ihm=>
  intro i u H hi hA hR hO hB hq
  have hlt:i<t.kids.length:=by omega
  have ei:IntKind.i64.wrap ((i:Int)+1)=((i+1:Nat):Int):=Af (by omega) (by omega)
  refine Ad Ah Js.eq_1 ?_
  simp[hlt,Aa,hO]
  refine Ae (ih _ (Bq hlt)) rfl ?_
  simp[Aa,hO,hB]
  have hrow:=aW (f:=tA ∘ Ai) hlt (x:=tX (Ai t.kids[i])) (by simp)
  rw[hrow,ei]
  refine⟨⟨by omega,by omega⟩,?_⟩
  exact ihm (i+1) (u+1) _ (by omega) (by simp[Aa,hA]) (by simp[Aa,hR]) (by simp[Aa]) (by simp[Aa]) hq
theorem nN {w:List Int} (hl:w.length*8≤140737488355328) {v v4:VOb} {K:A}:∀ (n:Nat) (H:Hp),n≤w.length→BT (w.take n)=BT w→H [1]=v→H [2]=⟨1,.cells [iv 1,C5 (w.take n),K]⟩→H [4]=v4 →
  (∀ q (H':Hp),H' [1]=v→H' [2]=⟨1,.cells [iv 1,C5 (BT w),K]⟩→H' [4]=v4→Q (.exit 2) ⟨lk [(2,.pob [1] 1 0),(3,.pob [2] 1 0),(48,bv q)],H'⟩) →
  LoopC (cx Tryz.prog w0 I0 n0) Jn Q ⟨lk [(2,.pob [1] 1 0),(3,.pob [2] 1 0)],H⟩:=by
 intro n
 induction n with
 |zero=>
  intro H hn ht hR hO hB hq
  refine Ad Ah Jn.eq_1 ?_
  simp[hO]
  refine hq _ H hR ?_ hB
  rw[← ht]
  simpa using hO
 |succ n ihn=>
  intro H hn ht hR hO hB hq
  have hlt:n<w.length:=by omega
  have en:IntKind.i64.wrap (n:Int)=n:=Af (by omega) (by omega)
  have emin:min (n+1) w.length=n+1:=by omega
  refine Ad Ah Jn.eq_1 ?_
  by_cases h0:w[n]=0
  ·have hnn:(n:Int)<n+1:=by omega
   have hnn':(n:Int)≤n+1:=by omega
   have hs:List.take n (List.take (n+1) (List.map uv w))=(w.take n).map uv:=by rw[List.take_take,Nat.min_eq_left (by omega),List.map_take]
   simp[hO,emin,en,hlt,h0,hnn,hnn',hs]
   exact ihn _ (by omega) (by rw[← Q0 hlt h0];exact ht) (by simp[Aa,hR]) (by simp[Aa]) (by simp[Aa,hB]) hq
  ·have hnn:(n:Int)<n+1:=by omega
   simp[hO,emin,en,hlt,h0,hnn]
   refine hq _ H hR ?_ hB
   rw[hO,← ht,Qt hlt h0]
theorem rz {l:List T} (hl:l.length*56≤140737488355328) {v:VOb} {W:A} {u:Nat}:∀ (n:Nat) (H:Hp),n≤l.length→BC (l.take n)=BC l→H [1]=v→H [2]=⟨1,.cells [iv 1,W,.osl [4] u 3 0 n]⟩→H [4]=⟨u,.arr 3 (l.map (tA ∘ Ai))⟩ →
  (∀ q (H':Hp),H' [1]=v→H' [2]=⟨1,.cells [iv 1,W,.osl [4] u 3 0 (BC l).length]⟩→H' [4]=⟨u,.arr 3 (l.map (tA ∘ Ai))⟩→Q (.exit 4) ⟨lk [(2,.pob [1] 1 0),(3,.pob [2] 1 0),(72,bv q)],H'⟩) →
  LoopC (cx Tryz.prog w0 I0 n0) Jh Q ⟨lk [(2,.pob [1] 1 0),(3,.pob [2] 1 0)],H⟩:=by
 intro n
 induction n with
 |zero=>
  intro H hn ht hR hO hB hq
  refine Ad Ah Jh.eq_1 ?_
  simp[hO]
  refine hq _ H hR ?_ hB
  rw[← ht]
  simpa using hO
 |succ n ihn=>
  intro H hn ht hR hO hB hq
  have hlt:n<l.length:=by omega
  have en:IntKind.i64.wrap (n:Int)=n:=Af (by omega) (by omega)
  have hnn:(n:Int)<n+1:=by omega
  have hnn':(n:Int)≤n+1:=by omega
  refine Ad Ah Jh.eq_1 ?_
  by_cases h0:l[n].kind=0
  ·simp[hO,hB,en,hlt,h0,hnn,hnn']
   exact ihn _ (by omega) (by rw[← QB hlt h0];exact ht) (by simp[Aa,hR]) (by simp[Aa]) (by simp[Aa,hB]) hq
  ·simp[hO,hB,en,hlt,h0,hnn]
   refine hq _ H hR ?_ hB
   rw[hO,← ht,QO hlt h0]
   simp;omega
theorem MU:∀ (t:T),BB t→G.Spec Tryz.prog 31 [tX t] (tX (Ai t)):=by
 refine T.ind fun k w l ih hw=>?_
 have hw':=wfT_iff.1 hw
 have hwl:=hw'.wl
 have hkl:=hw'.kl
 simp at hwl hkl
 refine Aj cC (by simp) fun w0 I0=>?_
 unfold Uk
 rw[B2]
 by_cases h0:k=0
 ·simp[h0]
  exact ZE
 ·simp[h0]
  refine Ae (PY false w hwl).spec rfl ?_
  simp
  refine LoopC.le (Bd (d:=[2]) 2 [4] 3 rfl rfl (by simp)) ?_
  simp
  refine nE (t:=.mk k w l) (k:=iv k) (w:=C5 w) (by simpa using hkl) (fun c hc=>ih c hc (hw'.ks c hc)) l.length 0 1 _ (by simp) rfl rfl (by simp) (by simp) fun i' q u' H' hA hR hO hB=>?_
  by_cases h1:k=1
  ·subst h1
   simp at hA hR hO hB
   simp[hA,hR,hO,hB]
   refine LoopC.le (Ao [(2,.pob [1] 1 0),(3,.pob [2] 1 0)] (by simp)) ?_
   refine nN hwl w.length _ (BW _) (by rw[AI (BW _)]) hR (by rw[hO,AI (BW _)]) hB fun q H2 hR2 hO2 hB2=>?_
   simp
   refine rz hkl l.length _ (BW _) (by rw[AI (BW _)]) hR2 hO2 hB2 fun q H3 hR3 hO3 hB3=>?_
   simp[hO3,hR3,Aa]
   refine BG ?_
   simp
   rw[SU]
   refine⟨Ab rfl,Ab rfl,?_⟩
   have:=VQ (H:=Ay H3 [1] ⟨1,.cells [iv 1,C5 (BT w),A.osl [4] u' 3 0 (BC l).length]⟩) (o:=[4]) (u:=u') (sz:=3) (l:=l) (f:=tA ∘ Ai) (by simp[Aa,hB3]) (Mf l) (by simp)
   rw[← List.map_take]
   show Jd _ _ (A.sl false (((l.take (BC l).length).map Ai).map tA))
   rw[List.map_map]
   exact this
  ·simp at hA hR hO hB
   simp[hA,hR,hO,hB,h1,Aa]
   refine BG ?_
   simp
   refine⟨Ab rfl,Ab rfl,?_⟩
   have:=Bb (H:=Ay H' [1] ⟨1,.cells [iv k,C5 w,A.osl [4] u' 3 0 l.length]⟩) (o:=[4]) (u:=u') (sz:=3) (l:=l) (f:=tA ∘ Ai) (by simp[Aa,hB]) rfl (by simp)
   show Jd _ _ (A.sl false ((l.map Ai).map tA))
   rw[List.map_map]
   exact this
end Go.Proofs.YtbjmaoedheiigaaGreat
namespace Go.PL
def ck (ws:List WE):Prop:=∀ w,w ∈ ws→0≤w.mask∧w.mask<256
end Go.PL
namespace Go.Proofs.YtbjmaoedheiigaaGreat
open Go Go.G Go.Proofs Go.PL
theorem YG {t:T} (h:BB t) (i:Nat):Ci (wdT t i):=by
 unfold wdT
 rw[List.getD_eq_getElem?_getD]
 cases e:t.words[i]? with
 |none=>exact⟨by simp,by simp⟩
 |some x=>exact(wfT_iff.1 h).w x (List.mem_of_getElem? e)
variable {n0:Nat} {w0:World} {I0:Nat→Prop} {Q:Exit→Sta→Prop}
inductive WI where
 |keep (n:Int)
 |del (k v:Nat) (l:List T)
 |ins (k v:Nat) (l:List T)
 |desc (e:E)
def WI.op:WI→OP
 |.keep n=>.mk 0 n [] E0
 |.del _ _ l=>.mk 1 0 l E0
 |.ins _ _ l=>.mk 2 0 l E0
 |.desc e=>.mk 3 0 [] e
def Bk:List A:=[iv 0,iv 0,.sl true [],.sl true [],iv 0,.sl true [],.sl true [],.sl true [],.sl true [],iv 0,.sl true []]
def Xs (r:Nat):WI→List A
 |.keep n=>iv 0::iv n :: .sl true []::Bk
 |.del k v l=>iv 1::iv 0 :: .osl (r::[k]) v 3 0 l.length::Bk
 |.ins k v l=>iv 2::iv 0 :: .osl (r::[k]) v 3 0 l.length::Bk
 |.desc e=>iv 3::iv 0 :: .sl true []::eL e
def T4 (r:Nat) (x:WI):A:=.agg (Xs r x)
@[simp] theorem zZ {r:Nat} {x:WI}:(T4 r x).cells=Xs r x:=rfl
@[simp] theorem Af4 {r:Nat} {x:WI}:(Xs r x).length=14:=by cases x<;>rfl
theorem uR {g:Nm→Nm} {δ:Nm→Nat} {r r':Nat} (hg:∀ p,g (r::p)=r'::p) (hd:∀ p,δ (r::p)=0) (x:WI):A.renL g δ (Xs r x)=Xs r' x:=by
 cases x<;>simp[Xs,Bk,A.renL,A.ren,hg,hd]
theorem og {D:Nm→Prop} {r:Nat} (hD:∀ p,D (r::p)) (x:WI):A.refsL D (Xs r x):=by
 cases x<;>simp[Xs,Bk,A.refsL,A.refs,hD]
def OB (r:Nat):Option (Nat × Nat × List T)→A
 |some (k,v,l)=>.osl (r::[k]) v 3 0 l.length
 |none=>.sl true []
abbrev Vk:=Nat→Option (Nat × List T)
def iY:Option (Nat × List T)→VOb
 |some (v,l)=>⟨v,.arr 3 (l.map tA)⟩
 |none=>⟨0,.none⟩
theorem sq {g:Nm→Nm} {δ:Nm→Nat} {r r':Nat} (hg:∀ p,g (r::p)=r'::p) (hd:∀ p,δ (r::p)=0) (o:Option (Nat × Nat × List T)):(OB r o).ren g δ=OB r' o:=by
 rcases o with _ | ⟨k,v,l⟩
 ·simp[OB,A.ren]
 ·simp[OB,A.ren,hg,hd]
def TZ (R:Vk):Nm→VOb
 |[k]=>iY (R k)
 |_=>⟨0,.none⟩
@[simp] theorem Aan {R:Vk} {k:Nat}:TZ R [k]=iY (R k):=rfl
theorem uM {g:Nm→Nm} {δ:Nm→Nat} (o:Option (Nat × List T)):VOb.ren g δ 0 (iY o)=iY o:=by
 rcases o with _ | ⟨v,l⟩
 ·rfl
 ·refine Fam.arr_ren ?_
  simp only[CD,List.map_map]
  refine List.map_congr_left fun x _=>?_
  simp[A.ren,A.renL]
theorem kM {g:Nm→Nm} {δ:Nm→Nat} (R:Vk):∀ p,VOb.ren g δ 0 (TZ R p)=TZ R p
 |[]=>rfl
 |[k]=>uM _
 |_::_::_=>rfl
theorem ru {D:Nm→Prop} (o:Option (Nat × List T)):(iY o).ob.refs D:=by
 rcases o with _ | ⟨v,l⟩
 ·trivial
 ·simp only[iY,Ob.refs,refsL_iff]
  intro y hy
  obtain⟨x,_,rfl⟩:=List.mem_map.1 hy
  simp[A.refs,A.refsL]
theorem gQ {D:Nm→Prop} (R:Vk):∀ p,(TZ R p).ob.refs D
 |[]=>trivial
 |[k]=>ru _
 |_::_::_=>trivial
def VA (its:List WI) (vo:Nat) (g b:Option (Nat × Nat × List T)) (R:Vk):Fam:=⟨fun r p=>if p=[] then ⟨1,.cells [.osl (r::[0]) vo 14 0 its.length,OB r g,OB r b]⟩ else if p=[0] then ⟨vo,.arr 14 (its.map (T4 r))⟩ else TZ R p,fun {γ δ r r'} hg hd p=>by
  by_cases h1:p=[]
  ·rw[if_pos h1,if_pos h1]
   refine Fam.cells_ren ?_
   simp[A.renL,A.ren,hg,hd,sq hg hd]
  ·rw[if_neg h1,if_neg h1]
   by_cases h2:p=[0]
   ·rw[if_pos h2,if_pos h2]
    refine Fam.arr_ren ?_
    simp only[CD,List.map_map]
    refine List.map_congr_left fun x _=>?_
    simp[T4,A.ren,uR hg hd]
   ·rw[if_neg h2,if_neg h2]
    exact kM R p,fun {D r} hD p=>by
  by_cases h1:p=[]
  ·rw[if_pos h1]
   rcases g with _ | ⟨k,v,l⟩<;>rcases b with _ | ⟨k',v',l'⟩<;>simp[Ob.refs,A.refsL,A.refs,hD,OB]
  ·rw[if_neg h1]
   by_cases h2:p=[0]
   ·rw[if_pos h2]
    simp only[Ob.refs,refsL_iff]
    intro y hy
    obtain⟨x,_,rfl⟩:=List.mem_map.1 hy
    simp only[A.refs,T4]
    exact og hD x
   ·rw[if_neg h2]
    exact gQ R p⟩
@[simp] theorem jE {its:List WI} {vo:Nat} {g b:Option (Nat × Nat × List T)} {R:Vk} {r:Nat} {p:Nm}:(VA its vo g b R).F r p=if p=[] then ⟨1,.cells [.osl (r::[0]) vo 14 0 its.length,OB r g,OB r b]⟩ else if p=[0] then ⟨vo,.arr 14 (its.map (T4 r))⟩ else TZ R p:=rfl
abbrev tY (r:Nat):A:=.pob [r] 1 0
theorem U7 {r:Nat} {l:List WI}:Dq 14 (l.map (T4 r))=true:=by rw[Hg];simp
def Fi:Nat × Nat × List T→List WI
 |(k,v,l)=>if l=[] then [] else [.del k v l]
def BA:Nat × Nat × List T→List WI
 |(k,v,l)=>if l=[] then [] else [.ins k v l]
theorem Je (its:List WI) (vo:Nat) (g b:Nat × Nat × List T) (R:Vk) (hl:its.length≤1000000) (hg:R g.1=some (g.2.1,g.2.2)) (hb:R b.1=some (b.2.1,b.2.2)) (hg0:1≤g.1) (hb0:1≤b.1):A4 Tryz.prog 113 (fun r=>[tY r]) (VA its vo (some g) (some b) R) (fun _=>.tup []) (VA (its++(Fi g++BA b)) (vo+(Fi g++BA b).length) none none R):=by
 obtain⟨gk,gv,gl⟩:=g
 obtain⟨bk,bv',bl⟩:=b
 refine Ax Ns (by simp) (Ag AN Am) (Bn Am) fun w0 I0 M0 m0=>?_
 unfold Hv
 by_cases h1:gl=[]
 ·by_cases h2:bl=[]
  ·simp[h1,h2,OB]
   rw[Cc.eq_1]
   simp[h1,h2,OB,Aa]
   refine AQ rfl rfl (fun p=>?_)
   by_cases p1:p=[]
   ·subst p1;simp[Aa,Fi,BA,OB]
   ·by_cases p2:p=[0]
    ·subst p2;simp[Aa,Fi,BA]
    ·simp[p1,p2,Aa]
  ·have h2':(0:Int)<bl.length:=by have:=List.length_pos_iff.2 h2;omega
   have h2n:=List.length_pos_iff.2 h2
   simp[h1,h2,OB]
   rw[Cc.eq_1]
   simp[h1,h2,h2',h2n,OB,Aa,U7]
   refine⟨by omega,by omega,?_⟩
   refine AQ rfl rfl (fun p=>?_)
   by_cases p1:p=[]
   ·subst p1;simp[Aa,Fi,BA,OB,h1,h2]
   ·by_cases p2:p=[0]
    ·subst p2;simp[Aa,Fi,BA,h1,h2,T4,Xs,Bk,AI]
    ·simp[p1,p2,Aa]
 ·have h1':(0:Int)<gl.length:=by have:=List.length_pos_iff.2 h1;omega
  have h1n:=List.length_pos_iff.2 h1
  by_cases h2:bl=[]
  ·simp[h1,h1',h1n,h2,OB,Aa,U7]
   refine⟨by omega,by omega,?_⟩
   rw[Cc.eq_1]
   simp[h1,h2,OB,Aa]
   refine AQ rfl rfl (fun p=>?_)
   by_cases p1:p=[]
   ·subst p1;simp[Aa,Fi,BA,OB,h1,h2]
   ·by_cases p2:p=[0]
    ·subst p2;simp[Aa,Fi,BA,h1,h2,T4,Xs,Bk,AI]
    ·simp[p1,p2,Aa]
  ·have h2':(0:Int)<bl.length:=by have:=List.length_pos_iff.2 h2;omega
   have h2n:=List.length_pos_iff.2 h2
   simp[h1,h1',h1n,h2,OB,Aa,U7]
   refine⟨by omega,by omega,?_⟩
   rw[Cc.eq_1]
   simp[h1,h2,h2',h2n,OB,Aa]
   refine⟨by omega,⟨by omega,by omega⟩,?_⟩
   refine AQ rfl rfl (fun p=>?_)
   by_cases p1:p=[]
   ·subst p1;simp[Aa,Fi,BA,OB,h1,h2]
   ·by_cases p2:p=[0]
    ·subst p2;simp[Aa,Fi,BA,h1,h2,T4,Xs,Bk,AI]
    ·simp[p1,p2,Aa]
theorem Ad5 (l:List T) (x:A):(l.map tA++[x])[l.length]? = some x:=by rw[List.getElem?_append_right (by simp)];simp
theorem sC (l:List T):List.take l.length (l.map tA)=l.map tA:=AI (by simp)
theorem jF {n0:Nat} {w0:World} {I0:Nat→Prop} {M0:Nm→Nat→Prop} {m0:Mu} {Q:Exit→Sta→Prop} {its:List WI} {vo off k:Nat} {g b:Option (Nat × Nat × List T)} {R:Vk} {ts l0:List T} {v0:Nat} (hts:∀ t,t ∈ ts→BB t) (hl:l0.length+ts.length≤1000000) (hk:1≤k)
  (F:Nat→List T→Fam) (hF0:∀ v l,(F v l).F 0 []=⟨1,.cells [.osl [0,0] vo 14 0 its.length,if off=1 then .osl [0,k] v 3 0 l.length else OB 0 g,if off=1 then OB 0 b else .osl [0,k] v 3 0 l.length]⟩) (hoff:off=1∨off=2) (hFk:∀ v l,(F v l).F 0 [k]=⟨v,.arr 3 (l.map tA)⟩) (hFo:∀ v l v' l' p,p ≠ []→p ≠ [k]→(F v l).F 0 p=(F v' l').F 0 p)
  (hq:∀ H st,(∀ p,H (0::p)=(F (v0+ts.length) (l0++ts.map Ai)).F 0 p)→Q (.exit 0) ⟨lk st,H⟩):∀ (m i:Nat) (H:Hp),i+m=ts.length→(∀ p,H (0::p)=(F (v0+i) (l0++(ts.take i).map Ai)).F 0 p) →
  LoopC (EP Tryz.prog w0 I0 M0 n0 m0) GK Q ⟨lk [(0,.pob [0] 1 off),(6,Ba ts),(7,iv ts.length),(8,iv i)],H⟩:=by
 intro m
 induction m with
 |zero=>
  intro i H hm hH
  refine Ad Ah GK.eq_1 ?_
  have:i=ts.length:=by omega
  subst this
  rw[AI (BW _)] at hH
  simp
  exact hq H _ hH
 |succ m ih=>
  intro i H hm hH
  have hi:i<ts.length:=by omega
  have ew:IntKind.i64.wrap ((i:Int)+1)=((i+1:Nat):Int):=An
  have h0:=hH []
  rw[hF0] at h0
  have h1:=hH [k]
  rw[hFk] at h1
  have hN:=MU ts[i] (hts _ (Bq hi))
  have hLs:l0++(ts.take (i+1)).map Ai=l0++(ts.take i).map Ai++[Ai ts[i]]:=by rw[Fj hi,List.map_append,← List.append_assoc];rfl
  have hLl:(l0++(ts.take i).map Ai).length≤1000000:=by simp;omega
  have next:=ih (i+1)
  rw[hLs,← Nat.add_assoc] at next
  generalize l0++(ts.take i).map Ai=L at *
  generalize v0+i=v at *
  have hH':∀ (p:Nm) (H2:Hp),p ≠ []→p ≠ [k]→H2 (0::p)=H (0::p)→H2 (0::p)=(F (v+1) (L++[Ai ts[i]])).F 0 p:=fun p H2 p1 p2 he=>by rw[he,hH,hFo _ _ _ _ p p1 p2]
  refine Ad Ah GK.eq_1 ?_
  rcases hoff with rfl | rfl
  all_goals
   simp at h0 h1
   simp[hi,Aa,h0]
   refine Ae hN (by simp[Aa]) ?_
   simp[Aa,h0,h1,show ¬ k=0 by omega,show ¬ 0=k by omega,Ad5,sC,ew]
   refine⟨by omega,by omega,?_⟩
   refine next _ (by omega) (fun p=>?_)
   by_cases p1:p=[]
   ·subst p1;rw[hF0];simp[Aa,show ¬ k=0 by omega,show ¬ 0=k by omega]
   ·by_cases p2:p=[k]
    ·subst p2;rw[hFk];simp[Aa,show ¬ k=0 by omega,show ¬ 0=k by omega]
    ·exact hH' p _ p1 p2 (by simp[Aa,p1,p2,Ne.symm p1,Ne.symm p2])
def Gf (R:Vk) (k:Nat) (v:Nat) (l:List T):Vk:=fun q=>if q=k then some (v,l) else R q
theorem YN {R:Vk} {k v:Nat} {l:List T} (h:R k=some (v,l)):Gf R k v l=R:=by
 funext q
 unfold Gf
 split
 ·rename_i e;rw[e,h]
 ·rfl
theorem eK (its:List WI) (vo k v:Nat) (l:List T) (b:Option (Nat × Nat × List T)) (R:Vk) (hR:R k=some (v,l)) (hk:1≤k) (hb:∀ x,b=some x→x.1 ≠ k) {ts:List T} (hts:∀ t,t ∈ ts→BB t) (hl:l.length+ts.length≤1000000) :
  A4 Tryz.prog 111 (fun r=>[.pob [r] 1 1,Ba ts]) (VA its vo (some (k,v,l)) b R) (fun _=>.tup []) (VA its vo (some (k,v+ts.length,l++ts.map Ai)) b (Gf R k (v+ts.length) (l++ts.map Ai))):=by
 refine Ax Pw (by simp) (Ag AN (Ag De Am)) (Bn Am) fun w0 I0 M0 m0=>?_
 unfold Lu
 simp
 refine LoopC.le (Ao [(0,.pob [0] 1 1),(6,Ba ts),(7,iv ts.length),(8,iv (0:Nat))] (by simp)) ?_
 refine jF (its:=its) (vo:=vo) (off:=1) (k:=k) (g:=none) (b:=b) (R:=R) (ts:=ts) (l0:=l) (v0:=v) hts hl hk (fun v l=>VA its vo (some (k,v,l)) b (Gf R k v l)) (fun v l=>by simp[OB]) (.inl rfl) (fun v l=>by simp[iY,Gf,show ¬ k=0 by omega]) (fun v l v' l' p p1 p2=>?_) (fun H st hH=>?_) ts.length 0 _ (by omega) (fun p=>?_)
 ·rw[jE,jE,if_neg p1,if_neg p1]
  split
  ·rfl
  ·match p with
   |[]=>rfl
   |[q]=>simp[Gf,show ¬ q=k from fun e=>p2 (by rw[e])]
   |_::_::_=>rfl
 ·simp
  exact AQ rfl rfl hH
 ·simp only[List.take_zero,List.map_nil,List.append_nil,Nat.add_zero]
  rw[YN hR]
  simp
theorem fE (its:List WI) (vo k v:Nat) (l:List T) (g:Option (Nat × Nat × List T)) (R:Vk) (hR:R k=some (v,l)) (hk:1≤k) {ts:List T} (hts:∀ t,t ∈ ts→BB t) (hl:l.length+ts.length≤1000000) :
  A4 Tryz.prog 111 (fun r=>[.pob [r] 1 2,Ba ts]) (VA its vo g (some (k,v,l)) R) (fun _=>.tup []) (VA its vo g (some (k,v+ts.length,l++ts.map Ai)) (Gf R k (v+ts.length) (l++ts.map Ai))):=by
 refine Ax Pw (by simp) (Ag AN (Ag De Am)) (Bn Am) fun w0 I0 M0 m0=>?_
 unfold Lu
 simp
 refine LoopC.le (Ao [(0,.pob [0] 1 2),(6,Ba ts),(7,iv ts.length),(8,iv (0:Nat))] (by simp)) ?_
 refine jF (its:=its) (vo:=vo) (off:=2) (k:=k) (g:=g) (b:=none) (R:=R) (ts:=ts) (l0:=l) (v0:=v) hts hl hk (fun v l=>VA its vo g (some (k,v,l)) (Gf R k v l)) (fun v l=>by simp[OB]) (.inr rfl) (fun v l=>by simp[iY,Gf,show ¬ k=0 by omega]) (fun v l v' l' p p1 p2=>?_) (fun H st hH=>?_) ts.length 0 _ (by omega) (fun p=>?_)
 ·rw[jE,jE,if_neg p1,if_neg p1]
  split
  ·rfl
  ·match p with
   |[]=>rfl
   |[q]=>simp[Gf,show ¬ q=k from fun e=>p2 (by rw[e])]
   |_::_::_=>rfl
 ·simp
  exact AQ rfl rfl hH
 ·simp only[List.take_zero,List.map_nil,List.append_nil,Nat.add_zero]
  rw[YN hR]
  simp
theorem cu (l:List WI) (r:Nat) (x:A):(l.map (T4 r)++[x])[l.length]? = some x:=by rw[List.getElem?_append_right (by simp)];simp
theorem sf (l:List WI) (r:Nat):List.take l.length (l.map (T4 r))=l.map (T4 r):=AI (by simp)
theorem NL (l:List WI) (r:Nat) (x:A):List.take (l.length+1) (l.map (T4 r)++[x])=l.map (T4 r)++[x]:=AI (by simp)
theorem Rt:∀ g,(Fi g).length≤1
 |(a,b,c)=>by
  by_cases h:c=[]<;>simp[Fi,h]
theorem Mm:∀ g,(BA g).length≤1
 |(a,b,c)=>by
  by_cases h:c=[]<;>simp[BA,h]
theorem gO (its i0:List WI) (vo:Nat) (m n:Int) (g b:Nat × Nat × List T) (R:Vk) (hl:its.length≤1000000) (hg:R g.1=some (g.2.1,g.2.2)) (hb:R b.1=some (b.2.1,b.2.2)) (hg0:1≤g.1) (hb0:1≤b.1) (hi:its++(Fi g++BA b)=i0++[.keep m]):A4 Tryz.prog 110 (fun r=>[tY r,iv n]) (VA its vo (some g) (some b) R) (fun _=>.tup []) (VA (i0++[.keep (IntKind.i64.wrap (m+n))]) (vo+(Fi g++BA b).length) none none R):=by
 have F1:=Je its vo g b R hl hg hb hg0 hb0
 rw[hi] at F1
 have hlen:i0.length≤1000002:=by
  have e:=congrArg List.length hi
  have:=Rt g
  have:=Mm b
  simp at e
  omega
 generalize vo+(Fi g++BA b).length=v at *
 have e1:IntKind.i64.wrap (i0.length:Int)=i0.length:=Af (by omega) (by omega)
 refine Ax Ia (by simp) (Ag AN (Ag AE Am)) (Bn Am) fun w0 I0 M0 m0=>?_
 unfold FB
 simp
 refine Au 0 F1 (fun p=>by simp) (by simp) (by simp) ?_
 simp[e1,cu,T4,Xs]
 refine⟨by omega,rfl,?_⟩
 refine AH rfl rfl (fun p=>?_)
 by_cases p1:p=[]
 ·subst p1;simp[Aa,OB]
 ·by_cases p2:p=[0]
  ·subst p2;simp[Aa,T4,Xs,Bk,A.remake,NL]
  ·simp[p1,p2,Aa]
theorem gX (its:List WI) (vo:Nat) (n:Int) (g b:Nat × Nat × List T) (R:Vk) (hl:its.length≤1000000) (hg:R g.1=some (g.2.1,g.2.2)) (hb:R b.1=some (b.2.1,b.2.2)) (hg0:1≤g.1) (hb0:1≤b.1) (hi:its++(Fi g++BA b)=[]∨∃ i0 x,its++(Fi g++BA b)=i0++[x]∧x.op.kind ≠ 0):A4 Tryz.prog 110 (fun r=>[tY r,iv n]) (VA its vo (some g) (some b) R) (fun _=>.tup []) (VA (its++(Fi g++BA b)++[.keep n]) (vo+(Fi g++BA b).length+1) none none R):=by
 have F1:=Je its vo g b R hl hg hb hg0 hb0
 have hlen:(its++(Fi g++BA b)).length≤1000002:=by
  have:=Rt g
  have:=Mm b
  simp
  omega
 generalize vo+(Fi g++BA b).length=v at *
 generalize its++(Fi g++BA b)=J at *
 refine Ax Ia (by simp) (Ag AN (Ag AE Am)) (Bn Am) fun w0 I0 M0 m0=>?_
 unfold FB
 simp
 refine Au 0 F1 (fun p=>by simp) (by simp) (by simp) ?_
 rcases hi with rfl | ⟨i0,x,rfl,hx⟩
 ·simp[Aa,show IntKind.i64.wrap (-1) = -1 from rfl]
  refine AQ rfl rfl (fun p=>?_)
  by_cases p1:p=[]
  ·subst p1;simp[Aa,OB]
  ·by_cases p2:p=[0]
   ·subst p2;simp[Aa,T4,Xs,Bk,A.remake,NL]
   ·simp[p1,p2,Aa]
 ·simp at hlen
  have e1:IntKind.i64.wrap (i0.length:Int)=i0.length:=Af (by omega) (by omega)
  cases x with
  |keep m=>exact absurd rfl hx
  |del a b c=>
   simp[e1,cu,T4,Xs,Aa]
   refine⟨by omega,by omega,⟨by omega,by omega⟩,?_⟩
   refine AQ rfl rfl (fun p=>?_)
   by_cases p1:p=[]
   ·subst p1;simp[Aa,OB]
   ·by_cases p2:p=[0]
    ·subst p2;simp[Aa,T4,Xs,Bk,A.remake,NL]
    ·simp[p1,p2,Aa]
  |ins a b c=>
   simp[e1,cu,T4,Xs,Aa]
   refine⟨by omega,by omega,⟨by omega,by omega⟩,?_⟩
   refine AQ rfl rfl (fun p=>?_)
   by_cases p1:p=[]
   ·subst p1;simp[Aa,OB]
   ·by_cases p2:p=[0]
    ·subst p2;simp[Aa,T4,Xs,Bk,A.remake,NL]
    ·simp[p1,p2,Aa]
  |desc e=>
   simp[e1,cu,T4,Xs,Aa]
   refine⟨by omega,by omega,⟨by omega,by omega⟩,?_⟩
   refine AQ rfl rfl (fun p=>?_)
   by_cases p1:p=[]
   ·subst p1;simp[Aa,OB]
   ·by_cases p2:p=[0]
    ·subst p2;simp[Aa,T4,Xs,Bk,A.remake,NL]
    ·simp[p1,p2,Aa]
def WI.row:WI→Option (Nat × Nat × List T)
 |.del k v l=>some (k,v,l)
 |.ins k v l=>some (k,v,l)
 |_=>none
def ItR (R:Vk) (its:List WI):Prop:=∀ x,x ∈ its→∀ k v l,x.row=some (k,v,l)→R k=some (v,l)∧1≤k
theorem vf {c:Cx} {s:Nat→A} {H:Hp} {its:List WI} {v K:Nat} {R:Vk} (hH:∀ p,H (0::p)=(VA its v none none R).F 0 p) (hK:∀ q,K≤q→R q=none) (hK1:1≤K):∃ H',Le c ⟨s,H⟩ ⟨s,H'⟩∧(∀ p,H' (0::p)=(VA its v (some (K,1,[])) (some (K+1,1,[])) (Gf (Gf R K 1 []) (K+1) 1 [])).F 0 p):=by
 have h0:=hH []
 simp[OB] at h0
 have hK0:H [0,K]=⟨0,.none⟩:=by rw[hH];simp[show ¬ K=0 by omega,hK K (BW _),iY]
 have hK2:H [0,K+1]=⟨0,.none⟩:=by rw[hH];simp[hK (K+1) (by omega),iY]
 have l1:=Bd (c:=c) (s:=s) (H:=H) (d:=[0]) (u:=1) (cs:=[.osl [0,0] v 14 0 its.length,.sl true [],.sl true []]) 1 [0,K] 3 h0 rfl (by simp)
 refine⟨_,l1.trans (Bd (d:=[0]) (u:=1) (cs:=[.osl [0,0] v 14 0 its.length,.osl [0,K] 1 3 0 0,.sl true []]) 2 [0,K+1] 3 (by simp[Aa,hK0]) rfl (by simp)),fun p=>?_⟩
 by_cases p1:p=[]
 ·subst p1;simp[Aa,OB,hK0,hK2]
 ·by_cases p2:p=[0]
  ·subst p2;simp[Aa,hH,show ¬ 0=K by omega]
  ·match p,p1,p2 with
   |[q],p1,p2=>
    have hq0:¬ q=0:=fun e=>p2 (by rw[e])
    by_cases e1:q=K
    ·subst e1;simp[Aa,Gf,iY,hK0,hq0]
    ·by_cases e2:q=K+1
     ·subst e2;simp[Aa,Gf,iY,hK2]
     ·simp[Aa,Gf,hH,e1,e2,hq0]
   |_::_::_,p1,p2=>simp[Aa,hH,TZ]
theorem wU {H:Hp} {R:Vk} {its:List WI} {v:Nat} {g b:Option (Nat × Nat × List T)} (hH:∀ p,H (0::p)=(VA its v g b R).F 0 p) (x:WI) (hx:∀ k v l,x.row=some (k,v,l)→R k=some (v,l)∧1≤k):Hd H (Xs 0 x) (oA x.op).cells:=by
 have key:∀ k v' l,x.row=some (k,v',l)→Jd H (.osl [0,k] v' 3 0 l.length) (Ba l):=fun k v' l h=>by
  obtain⟨h1,h2⟩:=hx k v' l h
  have:=hH [k]
  simp[show ¬ k=0 by omega,h1,iY] at this
  exact Bb (f:=tA) (by rw[this];simp) rfl (by simp)
 have hraw:Hd H Bk (eL E0):=⟨Ab rfl,Ab rfl,Al,Al,Ab rfl,Al,Al,Al,Al,Ab rfl,Al,trivial⟩
 rw[oA_eq]
 cases x with
 |keep n=>exact⟨Ab rfl,Ab rfl,Al,hraw⟩
 |del k v' l=>exact⟨Ab rfl,Ab rfl,key k v' l rfl,hraw⟩
 |ins k v' l=>exact⟨Ab rfl,Ab rfl,key k v' l rfl,hraw⟩
 |desc e=>exact⟨Ab rfl,Ab rfl,Al,Ab rfl,Ab rfl,Ab rfl,Ab rfl,Ab rfl,Ab rfl,Ab rfl,Ab rfl,Ab rfl,Ab rfl,Ab rfl,trivial⟩
theorem Rr {H:Hp}:∀ {a b a' b':List A},Hd H a a'→Hd H b b'→a.length=a'.length→Hd H (a++b) (a'++b')
 |[],b,[],b',_,h,_=>h
 |x::a,b,y::a',b',h1,h,hl=>⟨h1.1,Rr h1.2 h (by simpa using hl)⟩
 |[],b,y::a',b',_,_,hl=>by simp at hl
 |x::a,b,[],b',_,_,hl=>by simp at hl
theorem tn {H:Hp} {R:Vk} {its:List WI} {v:Nat} {g b:Option (Nat × Nat × List T)} (hH:∀ p,H (0::p)=(VA its v g b R).F 0 p) (hx:ItR R its):Jd H (.osl [0,0] v 14 0 its.length) (Lz (its.map WI.op)):=by
 have h1:=hH [0]
 simp at h1
 refine JG (o:=[0,0]) (u:=v) (off:=0) (len:=its.length) (sz:=14) (xs:=its.map (T4 0)) (ys:=(its.map WI.op).map oA) (by rw[MN,h1];simp) (by simp) (by simp) (fun y hy=>by
  obtain⟨x,_,rfl⟩:=List.mem_map.1 hy
  simp) ?_ ?_
 ·have:∀ l:List OP,A.ones ((l.map oA).flatMap A.cells)=true:=fun l=>by
   induction l with
   |nil=>rfl
   |cons x l ih=>simp[A.ones] at ih ⊢
  exact this _
 ·rw[List.drop_zero,AI (by simp),List.map_map]
  have:∀ l:List WI,(∀ x,x ∈ l→x ∈ its)→Hd H ((l.map (T4 0)).flatMap A.cells) ((l.map (oA ∘ WI.op)).flatMap A.cells):=fun l hl=>by
   induction l with
   |nil=>trivial
   |cons x l ih=>
    simp only[List.map_cons,List.flatMap_cons]
    exact Rr (wU hH x fun k v l h=>hx x (hl x (by simp)) k v l h) (ih fun y hy=>hl y (by simp[hy])) (by simp)
  exact this its fun x h=>h
theorem jL (list:Int) (e:E) (h1:e.words.length≤100000000000000) (h2:e.kids.length≤100000000000000):G.Spec Tryz.prog 112 [iv list,eX e] (bv (Iq list e)):=by
 have e1:IntKind.i64.wrap ((e.words.length:Int)+e.kids.length)=((e.words.length+e.kids.length:Nat):Int):=An
 refine Aj XN (by simp) fun w0 I0=>?_
 unfold PN
 by_cases k0:e.kind=0
 ·simp[k0,Iq]
  exact Ab rfl
 ·by_cases k9:list=9
  ·by_cases k2:e.kind=2
   ·simp[k0,k9,k2,Iq,e1]
    refine Bm ?_
    rw[Bool.eq_iff_iff]
    simp only[decide_eq_true_eq,Bool.and_eq_true,List.isEmpty_iff]
    constructor
    ·intro h
     exact⟨List.eq_nil_of_length_eq_zero (by omega),List.eq_nil_of_length_eq_zero (by omega)⟩
    ·rintro⟨h1,h2⟩
     rw[h1,h2];rfl
   ·simp[k0,k9,k2,Iq]
    exact Ab rfl
  ·simp[k0,k9,Iq]
   exact Ab rfl
theorem Ve (its:List WI) (g b:Nat × Nat × List T):(its++(Fi g++BA b)).map WI.op=XP (its.map WI.op) g.2.2 b.2.2:=by
 obtain⟨a,c,l⟩:=g
 obtain⟨a',c',l'⟩:=b
 by_cases h1:l=[]<;>by_cases h2:l'=[]<;>simp[Fi,BA,XP,CS,CY,h1,h2,WI.op]
theorem tq (J:List WI):(∃ i0 m,J=i0++[.keep m])∨(J=[]∨∃ i0 x,J=i0++[x]∧x.op.kind ≠ 0):=by
 rcases List.eq_nil_or_concat J with h | ⟨i0,x,h⟩
 ·exact .inr (.inl h)
 ·rw[List.concat_eq_append] at h
  cases x with
  |keep m=>exact .inl ⟨i0,m,h⟩
  |del a b c=>exact .inr (.inr ⟨i0,.del a b c,h,by simp[WI.op]⟩)
  |ins a b c=>exact .inr (.inr ⟨i0,.ins a b c,h,by simp[WI.op]⟩)
  |desc e=>exact .inr (.inr ⟨i0,.desc e,h,by simp[WI.op]⟩)
theorem cy (l:List OP) (m n:Int) (t:List T) (e:E):ZH (l++[.mk 0 m t e]) n=l++[.mk 0 (IntKind.i64.wrap (m+n)) t e]:=by simp[ZH]
theorem iB (n:Int):ZH [] n=[.mk 0 n [] E0]:=rfl
theorem dt (l:List OP) (x:OP) (n:Int) (h:x.kind ≠ 0):ZH (l++[x]) n=l++[x]++[.mk 0 n [] E0]:=by
 obtain⟨k,m,t,e⟩:=x
 unfold ZH
 rw[List.getLast?_append]
 simp only[List.getLast?_singleton,Option.some_or]
 split
 ·rename_i h2;injection h2 with h2;injection h2 with h2;exact absurd h2 h
 ·rfl
structure WrI (its:List WI) (g b:Nat × Nat × List T) (R:Vk) (K:Nat):Prop where
 g1:1≤g.1
 b1:1≤b.1
 gb:g.1 ≠ b.1
 gK:g.1<K
 bK:b.1<K
 Rg:R g.1=some (g.2.1,g.2.2)
 Rb:R b.1=some (b.2.1,b.2.2)
 rK:∀ q,K≤q→R q=none
 it:ItR R its
 ng:∀ x,x ∈ its→∀ k v l,x.row=some (k,v,l)→k ≠ g.1∧k ≠ b.1
theorem WrI.flushed {its:List WI} {g b:Nat × Nat × List T} {R:Vk} {K:Nat} (h:WrI its g b R K):ItR R (its++(Fi g++BA b)):=by
 intro x hx k v l hr
 rcases List.mem_append.1 hx with hx | hx
 ·exact h.it x hx k v l hr
 ·rcases List.mem_append.1 hx with hx | hx
  ·obtain⟨a,c,d⟩:=g
   by_cases e:d=[]<;>simp[Fi,e] at hx
   subst hx
   simp[WI.row] at hr
   obtain⟨rfl,rfl,rfl⟩:=hr
   exact⟨h.Rg,h.g1⟩
  ·obtain⟨a,c,d⟩:=b
   by_cases e:d=[]<;>simp[BA,e] at hx
   subst hx
   simp[WI.row] at hr
   obtain⟨rfl,rfl,rfl⟩:=hr
   exact⟨h.Rb,h.b1⟩
theorem cE {its:List WI} {g b:Nat × Nat × List T} {R:Vk} {K:Nat} (h:WrI its g b R K) (hl:its.length≤1000000) (vo:Nat) (n:Int):∃ its2 v2,A4 Tryz.prog 110 (fun r=>[tY r,iv n]) (VA its vo (some g) (some b) R) (fun _=>.tup []) (VA its2 v2 none none R)∧its2.map WI.op=ZH (XP (its.map WI.op) g.2.2 b.2.2) n∧its2.length≤its.length+3∧ItR R its2:=by
 have hF:=h.flushed
 have d1:=Rt g
 have d2:=Mm b
 rcases tq (its++(Fi g++BA b)) with ⟨i0,m,hi⟩ | hi
 ·have hlen:=congrArg List.length hi
  simp at hlen
  refine⟨_,_,gO its i0 vo m n g b R hl h.Rg h.Rb h.g1 h.b1 hi,?_,?_,?_⟩
  ·rw[← Ve,hi]
   simp[WI.op,cy]
  ·simp;omega
  ·rw[hi] at hF
   intro x hx k v l hr
   rcases List.mem_append.1 hx with hx | hx
   ·exact hF x (by simp[hx]) k v l hr
   ·simp at hx;subst hx;simp[WI.row] at hr
 ·refine⟨_,_,gX its vo n g b R hl h.Rg h.Rb h.g1 h.b1 hi,?_,?_,?_⟩
  ·rw[← Ve]
   rcases hi with hi | ⟨i0,x,hi,hx⟩
   ·rw[hi];simp[iB,WI.op]
   ·rw[hi]
    simp only[List.map_append,List.map_cons,List.map_nil]
    rw[dt _ _ _ hx]
    simp[WI.op]
  ·simp;omega
  ·intro x hx k v l hr
   rcases List.mem_append.1 hx with hx | hx
   ·exact hF x hx k v l hr
   ·simp at hx;subst hx;simp[WI.row] at hr
structure OpG (o:OP):Prop where
 k:o.kind=0∨o.kind=1∨o.kind=2∨o.kind=3
 l:∀ t,t ∈ o.l→BB t
 e:o.kind=3→G.Spec Tryz.prog 29 [eX o.e] (eX (Q5 o.e))∧(Q5 o.e).words.length≤100000000000000∧(Q5 o.e).kids.length≤100000000000000
def Dp (os:List OP):Nat:=(os.map fun o=>o.l.length).sum
theorem OV (o:OP) (os:List OP):Dp (o::os)=o.l.length+Dp os:=by simp[Dp]
theorem yJ {list:Int} {os:List OP} (hos:∀ o,o ∈ os→OpG o) (hol:os.length≤300000) {res:List OP}
  (hq:∀ (H:Hp) (its:List WI) (v:Nat) (g b:Nat × Nat × List T) (R:Vk) (K:Nat) st,(∀ p,H (0::p)=(VA its v (some g) (some b) R).F 0 p)→WrI its g b R K→XP (its.map WI.op) g.2.2 b.2.2=res→its.length≤1000000→Q (.exit 0) ⟨lk ([(0,iv list),(5,tY 0)]++st),H⟩):∀ (m i:Nat) (its:List WI) (v:Nat) (g b:Nat × Nat × List T) (R:Vk) (K:Nat) (H:Hp),i+m=os.length→its.length≤3*i→g.2.2.length+b.2.2.length+Dp (os.drop i)≤1000000→WrI its g b R K→(∀ p,H (0::p)=(VA its v (some g) (some b) R).F 0 p)→Gd list ((os.drop i).map UN) (its.map WI.op) g.2.2 b.2.2=res →
  LoopC (cx Tryz.prog w0 I0 n0) Gk Q ⟨lk [(0,iv list),(5,tY 0),(11,Lz os),(12,iv os.length),(13,iv i)],H⟩:=by
 intro m
 induction m with
 |zero=>
  intro i its v g b R K H hm hil hsum hW hH hres
  refine Ad Ah Gk.eq_1 ?_
  have:i=os.length:=by omega
  subst this
  rw[List.drop_length,List.map_nil,Gd] at hres
  simp
  exact hq H its v g b R K [(11,Lz os),(12,iv os.length),(13,iv os.length),(14,bv false)] hH hW hres (by omega)
 |succ m ih=>
  intro i its v g b R K H hm hil hsum hW hH hres
  have hi:i<os.length:=by omega
  have ew:IntKind.i64.wrap ((i:Int)+1)=((i+1:Nat):Int):=An
  have hd:os.drop i=os[i]::os.drop (i+1):=(List.getElem_cons_drop hi).symm
  have hO:=hos _ (Bq hi)
  rw[hd,List.map_cons,Gd] at hres
  rw[hd,OV] at hsum
  have hoi:(os.map oA)[i]? = some (oX os[i]):=by simp[hi]
  generalize ho:os[i]=o at *
  have hnk:(UN o).kind=o.kind:=rfl
  have hnn:(UN o).n=o.n:=rfl
  have hnl:(UN o).l=o.l:=rfl
  have hne:(UN o).e=Q5 o.e:=rfl
  rw[hnk,hnn,hnl,hne] at hres
  -- what goes on when all is laid
  have next:∀ (its2:List WI) (v2:Nat) (H2:Hp),its2.length≤its.length+3→(∀ p,H2 (0::p)=(VA its2 v2 none none R).F 0 p)→ItR R its2→Gd list ((os.drop (i+1)).map UN) (its2.map WI.op) [] []=res→LoopC (cx Tryz.prog w0 I0 n0) Gk Q ⟨lk [(0,iv list),(5,tY 0),(11,Lz os),(12,iv os.length),(13,iv (i+1:Nat))],H2⟩:=fun its2 v2 H2 h1 h2 h3 h4=>by
   obtain⟨H3,hle,hF⟩:=vf (c:=cx Tryz.prog w0 I0 n0) (s:=lk [(0,iv list),(5,tY 0),(11,Lz os),(12,iv os.length),(13,iv (i+1:Nat))]) h2 hW.rK (by have:=hW.gK;omega)
   refine LoopC.le hle ?_
   refine ih (i+1) its2 v2 (K,1,[]) (K+1,1,[]) _ (K+2) H3 (by omega) (by omega) (by simp;omega) ?_ hF h4
   have hg:=hW.g1
   have hgK:=hW.gK
   refine⟨by simp;omega,by simp,by simp,by simp,by simp,by simp[Gf],by simp[Gf],fun q hq=>?_,fun x hx k v' l hr=>?_,fun x hx k v' l hr=>?_⟩
   ·simp[Gf,show ¬ q=K+1 by omega,show ¬ q=K by omega]
    exact hW.rK q (by omega)
   ·obtain⟨a1,a2⟩:=h3 x hx k v' l hr
    have hkK:k<K:=by
     by_cases e:K≤k
     ·rw[hW.rK k e] at a1;cases a1
     ·omega
    exact⟨by simp[Gf,show ¬ k=K+1 by omega,show ¬ k=K by omega,a1],a2⟩
   ·obtain⟨a1,a2⟩:=h3 x hx k v' l hr
    have hkK:k<K:=by
     by_cases e:K≤k
     ·rw[hW.rK k e] at a1;cases a1
     ·omega
    exact⟨by simp;omega,by simp;omega⟩
  refine Ad Ah Gk.eq_1 ?_
  rcases hO.k with h0 | h0 | h0 | h0
  ·rw[if_pos h0] at hres
   obtain⟨its2,v2,S1,S2,S3,S4⟩:=cE hW (by omega) v o.n
   rw[← S2] at hres
   simp[hi,ho,h0,Aa]
   refine Au 0 S1 (fun p=>by simp[Aa,hH]) (by simp) (by simp) ?_
   simp[ew]
   exact next its2 v2 _ S3 (fun p=>by simp) S4 hres
  ·rw[if_neg (by omega),if_pos h0] at hres
   have hF:=eK its v g.1 g.2.1 g.2.2 (some b) R hW.Rg hW.g1 (fun x hx=>by cases hx;exact Ne.symm hW.gb) hO.l (by omega)
   simp[hi,ho,h0,Aa]
   refine Au 0 hF (fun p=>by simp[Aa,hH]) (by simp) (by simp) ?_
   simp[ew]
   refine ih (i+1) its v (g.1,g.2.1+o.l.length,g.2.2++o.l.map Ai) b (Gf R g.1 (g.2.1+o.l.length) (g.2.2++o.l.map Ai)) K _ (by omega) (by omega) (by simp;omega) ?_ (fun p=>by simp) hres
   have w1:=hW.g1
   have w2:=hW.gK
   refine⟨hW.g1,hW.b1,hW.gb,hW.gK,hW.bK,by simp[Gf],?_,fun q hq=>?_,fun x hx k v' l hr=>?_,fun x hx k v' l hr=>hW.ng x hx k v' l hr⟩
   ·simp only[Gf,if_neg (Ne.symm hW.gb)];exact hW.Rb
   ·simp only[Gf,if_neg (show ¬ q=g.1 by omega)];exact hW.rK q hq
   ·obtain⟨a1,a2⟩:=hW.it x hx k v' l hr
    exact⟨by simp only[Gf,if_neg (hW.ng x hx k v' l hr).1];exact a1,a2⟩
  ·rw[if_neg (by omega),if_neg (by omega),if_pos h0] at hres
   have hF:=fE its v b.1 b.2.1 b.2.2 (some g) R hW.Rb hW.b1 hO.l (by omega)
   simp[hi,ho,h0,Aa]
   refine Au 0 hF (fun p=>by simp[Aa,hH]) (by simp) (by simp) ?_
   simp[ew]
   refine ih (i+1) its v g (b.1,b.2.1+o.l.length,b.2.2++o.l.map Ai) (Gf R b.1 (b.2.1+o.l.length) (b.2.2++o.l.map Ai)) K _ (by omega) (by omega) (by simp;omega) ?_ (fun p=>by simp) hres
   have w2:=hW.bK
   refine⟨hW.g1,hW.b1,hW.gb,hW.gK,hW.bK,?_,by simp[Gf],fun q hq=>?_,fun x hx k v' l hr=>?_,fun x hx k v' l hr=>hW.ng x hx k v' l hr⟩
   ·simp only[Gf,if_neg hW.gb];exact hW.Rg
   ·simp only[Gf,if_neg (show ¬ q=b.1 by omega)];exact hW.rK q hq
   ·obtain⟨a1,a2⟩:=hW.it x hx k v' l hr
    exact⟨by simp only[Gf,if_neg (hW.ng x hx k v' l hr).2];exact a1,a2⟩
  ·rw[if_neg (by omega),if_neg (by omega),if_neg (by omega)] at hres
   obtain⟨E1,E2,E3⟩:=hO.e h0
   have hI:=jL list (Q5 o.e) E2 E3
   simp[hi,ho,h0,Aa]
   refine Ae E1 (by simp) ?_
   simp[Aa]
   refine Ae hI (by simp) ?_
   cases hid:Iq list (Q5 o.e) with
   |true=>
    rw[if_pos hid] at hres
    obtain⟨its2,v2,S1,S2,S3,S4⟩:=cE hW (by omega) v 1
    rw[← S2] at hres
    simp
    refine Au 0 S1 (fun p=>by simp[Aa,hH]) (by simp) (by simp) ?_
    simp[ew]
    exact next its2 v2 _ S3 (fun p=>by simp) S4 hres
   |false=>
    rw[if_neg (by rw[hid];decide),← Ve] at hres
    have F1:=Je its v g b R (by omega) hW.Rg hW.Rb hW.g1 hW.b1
    have d1:=Rt g
    have d2:=Mm b
    simp
    refine Au 0 F1 (fun p=>by simp[Aa,hH]) (by simp) (by simp) ?_
    have hJl:(its++(Fi g++BA b)).length≤its.length+2:=by simp;omega
    have hJr:=hW.flushed
    have next':=next (its++(Fi g++BA b)++[.desc (Q5 o.e)]) (v+(Fi g++BA b).length+1)
    generalize its++(Fi g++BA b)=J at *
    generalize v+(Fi g++BA b).length=v1 at *
    simp[Aa,U7,sf,cu,ew]
    refine⟨by omega,by omega,?_⟩
    refine next' _ (by simp;omega) (fun p=>?_) (fun x hx k v' l hr=>?_) ?_
    ·by_cases p1:p=[]
     ·subst p1;simp[Aa,OB]
     ·by_cases p2:p=[0]
      ·subst p2;simp[Aa,T4,Xs]
      ·simp[p1,p2,Aa]
    ·rcases List.mem_append.1 hx with hx | hx
     ·exact hJr x hx k v' l hr
     ·simp at hx;subst hx;simp[WI.row] at hr
    ·simpa[WI.op] using hres
theorem dG {list:Int} {os:List OP} (hos:∀ o,o ∈ os→OpG o) (hol:os.length≤300000) (hsum:Dp os≤1000000):G.Spec Tryz.prog 58 [iv list,Lz os] (Lz (Gd list (os.map UN) [] [] [])):=by
 refine Aj Y7 (by simp) fun w0 I0=>?_
 unfold SB
 simp
 refine LoopC.le (Bd (d:=[0]) (u:=1) (cs:=[.sl true [],.sl true [],.sl true []]) 0 [0,0] 14 rfl rfl (by simp)) ?_
 obtain⟨H3,hle,hF⟩:=vf (c:=cx Tryz.prog w0 I0 72) (s:=lk [(0,iv list),(5,tY 0),(11,Lz os),(12,iv os.length),(13,iv (0:Nat))]) (H:=Ay (Ay (HM [([0],⟨1,.cells [.sl true [],.sl true [],.sl true []]⟩)]) [0,0] ⟨1,.arr 14 []⟩) [0] ⟨1,.cells [.osl [0,0] 1 14 0 0,.sl true [],.sl true []]⟩) (its:=[]) (v:=1) (K:=1) (R:=fun _=>none) (fun p=>by
  by_cases p1:p=[]
  ·subst p1;simp[Aa,OB]
  ·by_cases p2:p=[0]
   ·subst p2;simp[Aa]
   ·match p,p1,p2 with
    |[q],p1,p2=>
     have hq0:¬ q=0:=fun e=>p2 (by rw[e])
     simp[Aa,iY,hq0,Ne.symm hq0]
    |_::_::_,p1,p2=>simp[Aa,TZ]) (fun q _=>rfl) (by omega)
 refine LoopC.le hle ?_
 refine yJ hos hol (res:=Gd list (os.map UN) [] [] []) (fun H its v g b R K st hH hW hres hil=>?_) os.length 0 [] 1 (1,1,[]) (1+1,1,[]) _ 3 H3 (by omega) (by simp) (by simpa using hsum) ?_ hF (by simp)
 ·have F1:=Je its v g b R hil hW.Rg hW.Rb hW.g1 hW.b1
  have hJr:=hW.flushed
  have hm:=Ve its g b
  rw[hres] at hm
  simp
  refine Au 0 F1 hH (by simp) (by simp) ?_
  simp
  rw[← hm]
  have:=tn (H:=ov 0 ((VA (its++(Fi g++BA b)) (v+(Fi g++BA b).length) none none R).F 0) H) (its:=its++(Fi g++BA b)) (v:=v+(Fi g++BA b).length) (g:=none) (b:=none) (R:=R) (fun p=>by simp) hJr
  simpa using this
 ·refine⟨by simp,by simp,by simp,by simp,by simp,by simp[Gf],by simp[Gf],fun q hq=>?_,fun x hx=>by simp at hx,fun x hx=>by simp at hx⟩
  simp[Gf,show ¬ q=1 by omega,show ¬ q=2 by omega]
mutual
def U0:E→Prop
 |.mk k o n ws ks l os=>(k=0∨k=1∨k=2∨k=3)∧(k ≠ 3→l=0)∧(k=1→BB o∧BB n)∧ws.length≤1000000∧ks.length≤1000000∧os.length≤300000∧Dp os≤1000000∧(k=2→fM ks)∧(k=3→gr os)
def fM:List KE→Prop
 |[]=>True
 |.mk a e::l=>U0 e∧fM l
def gr:List OP→Prop
 |[]=>True
 |.mk k n t e::l=>((k=0∨k=1∨k=2∨k=3)∧(∀ x,x ∈ t→BB x)∧(k=3→U0 e))∧gr l
end
theorem SD:∀ {l:List KE},fM l→∀ x,x ∈ l→U0 x.e
 |[],_,x,hx=>by simp at hx
 |.mk a e::l,h,x,hx=>by
  rw[fM] at h
  rcases List.mem_cons.1 hx with rfl | hx
  ·exact h.1
  ·exact SD h.2 x hx
theorem SI:∀ {l:List OP},gr l→∀ x,x ∈ l→(x.kind=0∨x.kind=1∨x.kind=2∨x.kind=3)∧(∀ t,t ∈ x.l→BB t)∧(x.kind=3→U0 x.e)
 |[],_,x,hx=>by simp at hx
 |.mk k n t e::l,h,x,hx=>by
  rw[gr] at h
  rcases List.mem_cons.1 hx with rfl | hx
  ·exact h.1
  ·exact SI h.2 x hx
theorem oU (e:E) (h:U0 e):(Q5 e).words.length≤100000000000000∧(Q5 e).kids.length≤100000000000000:=by
 obtain⟨k,o,n,ws,ks,l,os⟩:=e
 rw[U0] at h
 rw[Vy]
 split
 ·simp
 ·split
  ·simp;omega
  ·split<;>simp
theorem pv {ks:List KE} (hl:ks.length≤1000000) (hk:∀ x,x ∈ ks→G.Spec Tryz.prog 29 [eX x.e] (eX (Q5 x.e))) {v1 v3:VOb} {W:A}
  (hq:∀ H u st,H [1]=v1→H [3]=v3→H [2]=⟨1,.cells [iv 2,iv 0,.sl true [],.sl true [],iv 0,.sl true [],.sl true [],W,.osl [5] u 12 0 ks.length,iv 0,.sl true []]⟩→H [5]=⟨u,.arr 12 (ks.map (kA ∘ ak))⟩→Q (.exit 1) ⟨lk ([(2,.pob [1] 1 0),(3,.pob [2] 1 0)]++st),H⟩):∀ (m i u:Nat) (H:Hp),i+m=ks.length→H [1]=v1→H [3]=v3→H [2]=⟨1,.cells [iv 2,iv 0,.sl true [],.sl true [],iv 0,.sl true [],.sl true [],W,.osl [5] u 12 0 i,iv 0,.sl true []]⟩→H [5]=⟨u,.arr 12 ((ks.take i).map (kA ∘ ak))⟩ →
  LoopC (cx Tryz.prog w0 I0 n0) GL Q ⟨lk [(2,.pob [1] 1 0),(3,.pob [2] 1 0),(32,kKs ks),(33,iv ks.length),(34,iv i)],H⟩:=by
 intro m
 induction m with
 |zero=>
  intro i u H hm h1 h3 h2 h5
  refine Ad Ah GL.eq_1 ?_
  have:i=ks.length:=by omega
  subst this
  rw[AI (BW _)] at h5
  simp
  exact hq H u [(32,kKs ks),(33,iv ks.length),(34,iv ks.length),(35,bv false)] h1 h3 h2 h5
 |succ m ih=>
  intro i u H hm h1 h3 h2 h5
  have hi:i<ks.length:=by omega
  have ew:IntKind.i64.wrap ((i:Int)+1)=((i+1:Nat):Int):=An
  have hE:=hk _ (Bq hi)
  have htk:(ks.take (i+1)).map (kA ∘ ak)=(ks.take i).map (kA ∘ ak)++[kA (ak ks[i])]:=by rw[Fj hi,List.map_append];rfl
  have next:=ih (i+1) (u+1)
  rw[htk] at next
  generalize hx:ks[i]=x at *
  refine Ad Ah GL.eq_1 ?_
  simp[hi,hx,Aa,h2]
  refine Ae hE (by simp[Aa]) ?_
  simp[Aa,h2,h5,ew]
  refine⟨⟨by omega,by omega⟩,?_⟩
  refine next _ (by omega) (by simp[Aa,h1]) (by simp[Aa,h3]) (by simp[Aa]) ?_
  simp[Aa,List.take_take,ak]
theorem fV:∀ e:E,U0 e→G.Spec Tryz.prog 29 [eX e] (eX (Q5 e)):=by
 refine E.ind fun k o n ws ks l os ihk iho h=>?_
 rw[U0] at h
 obtain⟨hk,hl,hon,hwl,hkl,hol,hsum,hks,hos⟩:=h
 refine Aj XG (by simp) fun w0 I0=>?_
 unfold PS
 rw[Vy]
 rcases hk with rfl | rfl | rfl | rfl
 ·simp[hl (by decide)]
  exact BG ⟨Ab rfl,Ab rfl,Al,Al,Ab rfl,Al,Al,Al,Al,Ab rfl,Al,trivial⟩
 ·obtain⟨ho,hn⟩:=hon rfl
  simp[hl (by decide)]
  refine Ae (MU o ho) (by simp) ?_
  simp[Aa]
  refine Ae (MU n hn) (by simp) ?_
  simp[Aa]
  exact BG ⟨Ab rfl,BS (CL o).symm,Ab rfl,Ab rfl,BS (CL n).symm,Ab rfl,Ab rfl,Al,Al,Ab rfl,Al,trivial⟩
 ·simp[hl (by decide)]
  refine⟨by omega,?_⟩
  refine LoopC.le (Bd (d:=[2]) (u:=1) (cs:=[iv 2,iv 0,.sl true [],.sl true [],iv 0,.sl true [],.sl true [],.osl [3] 1 4 0 ws.length,.sl true [],iv 0,.sl true []]) 8 [5] 12 rfl rfl (by simp)) ?_
  refine LoopC.le (Ao [(2,.pob [1] 1 0),(3,.pob [2] 1 0),(32,kKs ks),(33,iv ks.length),(34,iv (0:Nat))] (by simp)) ?_
  refine pv hkl (fun x hx=>ihk x hx (SD (hks rfl) x hx)) (W:=.osl [3] 1 4 0 ws.length) (fun H u st h1 h3 h2 h5=>?_) ks.length 0 1 _ (by omega) rfl rfl (by simp[Aa]) (by simp[Aa])
  have h3':H [3]=⟨1,.arr 4 (ws.map wA)⟩:=by rw[h3];simp[Aa]
  simp[h2,h1,Aa]
  have fw:=Bb (H:=Ay H [1] ⟨1,.cells [iv 2,iv 0,.sl true [],.sl true [],iv 0,.sl true [],.sl true [],.osl [3] 1 4 0 ws.length,.osl [5] u 12 0 ks.length,iv 0,.sl true []]⟩) (o:=[3]) (u:=1) (sz:=4) (l:=ws) (f:=wA) (n:=ws.length) (by simp[Aa,h3']) rfl (fun x=>rfl)
  have fk:=Bb (H:=Ay H [1] ⟨1,.cells [iv 2,iv 0,.sl true [],.sl true [],iv 0,.sl true [],.sl true [],.osl [3] 1 4 0 ws.length,.osl [5] u 12 0 ks.length,iv 0,.sl true []]⟩) (o:=[5]) (u:=u) (sz:=12) (l:=ks) (f:=kA ∘ ak) (n:=ks.length) (by simp[Aa,h5]) rfl (fun x=>by simp)
  rw[← List.map_map] at fk
  exact BG ⟨Ab rfl,Ab rfl,Al,Al,Ab rfl,Al,Al,fw,fk,Ab rfl,Al,trivial⟩
 ·have hO:=dG (list:=l) (os:=os) (fun x hx=>by
   obtain⟨a,b,c⟩:=SI (hos rfl) x hx
   exact⟨a,b,fun h=>⟨iho x hx (c h),oU _ (c h)⟩⟩) hol hsum
  simp
  refine Ae hO (by simp[Aa]) ?_
  simp[Aa]
  exact BG ⟨Ab rfl,Ab rfl,Al,Al,Ab rfl,Al,Al,Al,Al,Ab rfl,Al,trivial⟩
def JY:List OP→Nat
 |[]=>0
 |o::l=>if o.kind=1∨o.kind=2 then JY l+1 else 0
def Nu (k:Int):List OP→List T
 |[]=>[]
 |o::l=>if o.kind=1∨o.kind=2 then (if o.kind=k then o.l.map Ai else [])++Nu k l else []
theorem jw:∀ l,JY l≤l.length
 |[]=>by simp[JY]
 |o::l=>by
  have:=jw l
  unfold JY
  split<;>simp<;>omega
theorem a7 (k:Int):∀ l,(Nu k l).length≤Dp l
 |[]=>by simp[Nu]
 |o::l=>by
  have:=a7 k l
  rw[OV]
  unfold Nu
  split
  ·split<;>simp<;>omega
  ·simp
theorem Wb (list:Int):∀ (os:List OP) (out:List OP) (g b:List T),Gd list (os.map UN) out g b=Gd list ((os.drop (JY os)).map UN) out (g++Nu 1 os) (b++Nu 2 os)
 |[],out,g,b=>by simp[JY,Nu]
 |o::os,out,g,b=>by
  have hk:(UN o).kind=o.kind:=rfl
  have hl:(UN o).l=o.l:=rfl
  by_cases h1:o.kind=1
  ·have h0:¬ o.kind=0:=by omega
   rw[List.map_cons,Gd,hk,if_neg h0,if_pos h1,Wb list os,hl]
   simp[JY,Nu,h1]
  ·by_cases h2:o.kind=2
   ·have h0:¬ o.kind=0:=by omega
    rw[List.map_cons,Gd,hk,if_neg h0,if_neg h1,if_pos h2,Wb list os,hl]
    simp[JY,Nu,h2]
   ·simp[JY,Nu,h1,h2]
theorem YP:∀ (os:List OP) (h:JY os<os.length),os[JY os].kind ≠ 1∧os[JY os].kind ≠ 2
 |[],h=>by simp at h
 |o::os,h=>by
  by_cases e:o.kind=1∨o.kind=2
  ·simp[JY,e] at h ⊢
   exact YP os h
  ·simp[JY,e]
   omega
theorem pF {ts:List T} (hts:∀ t,t ∈ ts→BB t) (hl:ts.length≤1000000) (hq:∀ H u st,H [0]=⟨u,.arr 3 (ts.map (tA ∘ Ai))⟩→Q (.exit 0) ⟨lk ([(0,Ba ts),(3,.osl [0] u 3 0 ts.length)]++st),H⟩):∀ (m i u:Nat) (H:Hp),i+m=ts.length→H [0]=⟨u,.arr 3 ((ts.take i).map (tA ∘ Ai))⟩ →
  LoopC (cx Tryz.prog w0 I0 n0) D8 Q ⟨lk [(0,Ba ts),(3,.osl [0] u 3 0 i),(4,iv i)],H⟩:=by
 intro m
 induction m with
 |zero=>
  intro i u H hm hH
  refine Ad Ah D8.eq_1 ?_
  have:i=ts.length:=by omega
  subst this
  rw[AI (BW _)] at hH
  simp
  exact hq H u [(4,iv ts.length),(8,bv false)] hH
 |succ m ih=>
  intro i u H hm hH
  have hi:i<ts.length:=by omega
  have ew:IntKind.i64.wrap ((i:Int)+1)=((i+1:Nat):Int):=An
  have hN:=Fl ts[i] (hts _ (Bq hi))
  have htk:(ts.take (i+1)).map (tA ∘ Ai)=(ts.take i).map (tA ∘ Ai)++[tA (Ai ts[i])]:=by rw[Fj hi,List.map_append];rfl
  have next:=ih (i+1) (u+1)
  rw[htk] at next
  refine Ad Ah D8.eq_1 ?_
  simp[hi]
  refine Ae hN (by simp) ?_
  simp[hH,ew]
  refine⟨⟨by omega,by omega⟩,?_⟩
  refine next _ (by omega) ?_
  simp[Aa,List.take_take]
theorem fz {ts:List T} (hts:∀ t,t ∈ ts→BB t) (hl:ts.length≤1000000):G.Spec Tryz.prog 207 [Ba ts] (Ba (ts.map Ai)):=by
 refine Aj QH (by simp) fun w0 I0=>?_
 unfold JW
 simp
 refine LoopC.le (BX 3 [0] 3 (by simp)) ?_
 refine LoopC.le (Ao [(0,Ba ts),(3,.osl [0] 1 3 0 0),(4,iv (0:Nat))] (by simp)) ?_
 refine pF hts hl (fun H u st h=>?_) ts.length 0 1 _ (by omega) (by simp[Aa])
 simp
 have:=Bb (H:=H) (o:=[0]) (u:=u) (sz:=3) (l:=ts) (f:=tA ∘ Ai) (n:=ts.length) (by rw[h];simp) rfl (by simp)
 rw[← List.map_map] at this
 exact this
theorem ji (l:List T):Dq 3 (l.map (tA ∘ Ai))=true:=by rw[Hg];simp
theorem xp {os:List OP} {k:Int} (hk:k=1∨k=2) (hos:∀ o,o ∈ os→∀ t,t ∈ o.l→BB t) (hol:os.length≤1000000) (hsum:∀ o,o ∈ os→o.l.length≤1000000) {res:List T} {n:Nat} (hres:res.length≤10000000)
  (hq:∀ H u st,H [0]=⟨u,.arr 3 (res.map tA)⟩→Q (.exit 0) ⟨lk ([(0,Lz os),(2,iv k),(8,.osl [0] u 3 0 res.length),(9,iv n)]++st),H⟩):∀ (m i u:Nat) (g:List T) (H:Hp),i+m=os.length→H [0]=⟨u,.arr 3 (g.map tA)⟩→g++Nu k (os.drop i)=res→i+JY (os.drop i)=n →
  LoopC (cx Tryz.prog w0 I0 n0) CI Q ⟨lk [(0,Lz os),(2,iv k),(8,.osl [0] u 3 0 g.length),(9,iv i)],H⟩:=by
 intro m
 induction m with
 |zero=>
  intro i u g H hm hH hg hn
  refine Ad Ah CI.eq_1 ?_
  have:i=os.length:=by omega
  subst this
  rw[List.drop_length] at hg hn
  simp[Nu] at hg
  simp[JY] at hn
  subst hg hn
  simp
  exact hq H u [(30,bv false)] hH
 |succ m ih=>
  intro i u g H hm hH hg hn
  have hi:i<os.length:=by omega
  have ew:IntKind.i64.wrap ((i:Int)+1)=((i+1:Nat):Int):=An
  have hd:os.drop i=os[i]::os.drop (i+1):=(List.getElem_cons_drop hi).symm
  have hO:=hos _ (Bq hi)
  have hS:=hsum _ (Bq hi)
  rw[hd] at hg hn
  generalize ho:os[i]=o at *
  unfold Nu at hg
  unfold JY at hn
  have nrm:=fz hO hS
  refine Ad Ah CI.eq_1 ?_
  by_cases h12:o.kind=1∨o.kind=2
  ·rw[if_pos h12] at hg hn
   have add:∀ H',H' [0]=⟨u+1,.arr 3 ((g++o.l.map Ai).map tA)⟩→o.kind=k→LoopC (cx Tryz.prog w0 I0 n0) CI Q ⟨lk [(0,Lz os),(2,iv k),(8,.osl [0] (u+1) 3 0 (g++o.l.map Ai).length),(9,iv (i+1:Nat))],H'⟩:=fun H' h1 h2=>by
    rw[if_pos h2] at hg
    exact ih (i+1) (u+1) (g++o.l.map Ai) H' (by omega) h1 (by rw[← hg];simp) (by omega)
   have skip:o.kind ≠ k→LoopC (cx Tryz.prog w0 I0 n0) CI Q ⟨lk [(0,Lz os),(2,iv k),(8,.osl [0] u 3 0 g.length),(9,iv (i+1:Nat))],H⟩:=fun h2=>by
    rw[if_neg h2] at hg
    exact ih (i+1) u g H (by omega) hH (by rw[← hg];simp) (by omega)
   have hgl:g.length≤10000000:=by have:=congrArg List.length hg;simp at this;omega
   rcases hk with rfl | rfl<;>rcases h12 with h | h
   ·simp[hi,ho,h]
    refine Ae nrm (by simp) ?_
    simp[hH,ew,ji]
    refine⟨by omega,?_⟩
    have:=add (Ay H [0] ⟨u+1,.arr 3 ((g++o.l.map Ai).map tA)⟩) (by simp[Aa]) h
    simpa[AI] using this
   ·simp[hi,ho,h,ew]
    have:=skip (by omega)
    simpa using this
   ·simp[hi,ho,h,ew]
    have:=skip (by omega)
    simpa using this
   ·simp[hi,ho,h]
    refine Ae nrm (by simp) ?_
    simp[hH,ew,ji]
    refine⟨by omega,?_⟩
    have:=add (Ay H [0] ⟨u+1,.arr 3 ((g++o.l.map Ai).map tA)⟩) (by simp[Aa]) h
    simpa[AI] using this
  ·rw[if_neg h12] at hg hn
   have h1:¬ o.kind=1:=fun h=>h12 (.inl h)
   have h2:¬ o.kind=2:=fun h=>h12 (.inr h)
   simp at hg hn
   subst hg hn
   simp[hi,ho,h1,h2]
   exact hq H u [(30,bv false)] hH
theorem df:∀ {os:List OP} {o:OP},o ∈ os→o.l.length≤Dp os
 |[],o,h=>by simp at h
 |x::os,o,h=>by
  rw[OV]
  rcases List.mem_cons.1 h with rfl | h
  ·omega
  ·have:=df h;omega
theorem cp {os:List OP} {k:Int} (hk:k=1∨k=2) (hos:∀ o,o ∈ os→∀ t,t ∈ o.l→BB t) (hol:os.length≤1000000) (hsum:Dp os≤1000000) {i:Nat} (hi:i≤os.length):G.Spec Tryz.prog 159 [Lz os,iv i,iv k] (.tup [Ba (Nu k (os.drop i)),iv (i+JY (os.drop i):Nat)]):=by
 have hs1:∀ o,o ∈ os→o.l.length≤Dp os:=fun o ho=>by
  exact df ho
 have hsd:Dp (os.drop i)≤Dp os:=by
  have:Dp os=Dp (os.take i)+Dp (os.drop i):=by
   unfold Dp
   rw[← List.sum_append,← List.map_append,List.take_append_drop]
  omega
 have hgl:=a7 k (os.drop i)
 refine Aj Ti (by simp) fun w0 I0=>?_
 unfold L6
 simp
 refine LoopC.le (BX 8 [0] 3 (by simp)) ?_
 refine LoopC.le (Ao [(0,Lz os),(2,iv k),(8,.osl [0] 1 3 0 ([]:List T).length),(9,iv i)] (by simp)) ?_
 refine xp hk hos hol (fun o ho=>by have:=hs1 o ho;omega) (res:=Nu k (os.drop i)) (n:=i+JY (os.drop i)) (by omega) (fun H u st h=>?_) (os.length-i) i 1 [] _ (by omega) (by simp[Aa]) (by simp) rfl
 simp
 refine G4 ⟨Bb (f:=tA) (by rw[h];simp) rfl (by simp),Ab rfl,trivial⟩
theorem aH (list:Int) (e:E):G.Spec Tryz.prog 160 [iv list,eX e] (bv (Iq list e)):=by
 refine Aj SG (by simp) fun w0 I0=>?_
 unfold La
 by_cases k0:e.kind=0
 ·simp[k0,Iq]
  exact Ab rfl
 ·by_cases k2:e.kind=2
  ·by_cases k9:list=9
   ·by_cases w:e.words=[]
    ·by_cases k:e.kids=[]
     ·simp[k0,k9,k2,Iq,w,k]
      exact Ab rfl
     ·have ke:e.kids.isEmpty=false:=by
       cases h:e.kids with
       |nil=>exact absurd h k
       |cons=>rfl
      simp[k0,k9,k2,Iq,w,k,ke]
      exact Ab rfl
    ·have we:e.words.isEmpty=false:=by
      cases h:e.words with
      |nil=>exact absurd h w
      |cons=>rfl
     simp[k0,k9,k2,Iq,w,we]
     exact Ab rfl
   ·simp[k0,k9,k2,Iq]
    exact Ab rfl
  ·simp[k0,k2,Iq]
   exact Ab rfl
inductive RI where
 |keep (n:Int)
 |del (l:List T)
 |ins (l:List T)
 |desc (e:E)
def RI.op:RI→OP
 |.keep n=>.mk 0 n [] E0
 |.del l=>.mk 1 0 l E0
 |.ins l=>.mk 2 0 l E0
 |.desc e=>.mk 3 0 [] e
def QE:RI→List A
 |.keep n=>iv 0::iv n :: .sl true []::Bk
 |.del l=>iv 1::iv 0::Ba l::Bk
 |.ins l=>iv 2::iv 0::Ba l::Bk
 |.desc e=>iv 3::iv 0 :: .sl true []::eL e
def Me (x:RI):A:=.agg (QE x)
@[simp] theorem AaK {x:RI}:(Me x).cells=QE x:=rfl
@[simp] theorem AgT {x:RI}:(QE x).length=14:=by cases x<;>rfl
theorem ra {H:Hp} (x:RI):Hd H (QE x) (oA x.op).cells:=by
 have hraw:Hd H Bk (eL E0):=⟨Ab rfl,Ab rfl,Al,Al,Ab rfl,Al,Al,Al,Al,Ab rfl,Al,trivial⟩
 rw[oA_eq]
 cases x with
 |keep n=>exact⟨Ab rfl,Ab rfl,Al,hraw⟩
 |del l=>exact⟨Ab rfl,Ab rfl,Ab rfl,hraw⟩
 |ins l=>exact⟨Ab rfl,Ab rfl,Ab rfl,hraw⟩
 |desc e=>exact⟨Ab rfl,Ab rfl,Al,Ab rfl,Ab rfl,Ab rfl,Ab rfl,Ab rfl,Ab rfl,Ab rfl,Ab rfl,Ab rfl,Ab rfl,Ab rfl,trivial⟩
theorem i9 {H:Hp} {o:Nm} {u n:Nat} {its:List RI} (h1:H o=⟨u,.arr 14 (its.map Me)⟩) (hn:n=its.length):Jd H (.osl o u 14 0 n) (Lz (its.map RI.op)):=by
 subst hn
 refine JG (o:=o) (u:=u) (off:=0) (len:=its.length) (sz:=14) (xs:=its.map Me) (ys:=(its.map RI.op).map oA) (by rw[MN,h1];simp) (by simp) (by simp) (fun y hy=>by
  obtain⟨x,_,rfl⟩:=List.mem_map.1 hy
  simp) ?_ ?_
 ·have:∀ l:List OP,A.ones ((l.map oA).flatMap A.cells)=true:=fun l=>by
   induction l with
   |nil=>rfl
   |cons x l ih=>simp[A.ones] at ih ⊢
  exact this _
 ·rw[List.drop_zero,AI (by simp),List.map_map]
  have:∀ l:List RI,Hd H ((l.map Me).flatMap A.cells) ((l.map (oA ∘ RI.op)).flatMap A.cells):=fun l=>by
   induction l with
   |nil=>trivial
   |cons x l ih=>
    simp only[List.map_cons,List.flatMap_cons]
    exact Rr (ra x) ih (by simp)
  exact this its
theorem jq (l:List RI) (x:A):(l.map Me++[x])[l.length]? = some x:=by rw[List.getElem?_append_right (by simp)];simp
theorem Vs (l:List RI):List.take l.length (l.map Me)=l.map Me:=AI (by simp)
theorem RA (l:List RI) (x:A):List.take (l.length+1) (l.map Me++[x])=l.map Me++[x]:=AI (by simp)
def Qz (g:List T):List RI:=if g=[] then [] else [.del g]
def QR (b:List T):List RI:=if b=[] then [] else [.ins b]
theorem wg (its:List RI) (g b:List T):(its++(Qz g++QR b)).map RI.op=XP (its.map RI.op) g b:=by
 by_cases h1:g=[]<;>by_cases h2:b=[]<;>simp[Qz,QR,XP,CS,CY,h1,h2,RI.op]
theorem tZ (J:List RI):(∃ i0 m,J=i0++[.keep m])∨(J=[]∨∃ i0 x,J=i0++[x]∧x.op.kind ≠ 0):=by
 rcases List.eq_nil_or_concat J with h | ⟨i0,x,h⟩
 ·exact .inr (.inl h)
 ·rw[List.concat_eq_append] at h
  cases x with
  |keep m=>exact .inl ⟨i0,m,h⟩
  |del a=>exact .inr (.inr ⟨i0,.del a,h,by simp[RI.op]⟩)
  |ins a=>exact .inr (.inr ⟨i0,.ins a,h,by simp[RI.op]⟩)
  |desc e=>exact .inr (.inr ⟨i0,.desc e,h,by simp[RI.op]⟩)
inductive IT where
 |r (x:RI)
 |got (o:OP)
def IT.op:IT→OP
 |.r x=>x.op
 |.got o=>o
def X8:IT→List A
 |.r x=>QE x
 |.got o=>(oA o).cells
def Mz (x:IT):A:=.agg (X8 x)
@[simp] theorem za {x:IT}:(Mz x).cells=X8 x:=rfl
@[simp] theorem AgQ {x:IT}:(X8 x).length=14:=by
 cases x with
 |r x=>simp[X8]
 |got o=>simp[X8]
theorem Cf {l:List IT}:Dq 14 (l.map Mz)=true:=by rw[Hg];simp
theorem ya {H:Hp} (x:IT):Hd H (X8 x) (oA x.op).cells:=by
 cases x with
 |r x=>exact ra x
 |got o=>exact LY (by simp[X8])
theorem Sw {H:Hp} {o:Nm} {u n:Nat} {its:List IT} (h1:H o=⟨u,.arr 14 (its.map Mz)⟩) (hn:n=its.length):Jd H (.osl o u 14 0 n) (Lz (its.map IT.op)):=by
 subst hn
 refine JG (o:=o) (u:=u) (off:=0) (len:=its.length) (sz:=14) (xs:=its.map Mz) (ys:=(its.map IT.op).map oA) (by rw[MN,h1];simp) (by simp) (by simp) (fun y hy=>by
  obtain⟨x,_,rfl⟩:=List.mem_map.1 hy
  simp) ?_ ?_
 ·have:∀ l:List OP,A.ones ((l.map oA).flatMap A.cells)=true:=fun l=>by
   induction l with
   |nil=>rfl
   |cons x l ih=>simp[A.ones] at ih ⊢
  exact this _
 ·rw[List.drop_zero,AI (by simp),List.map_map]
  have:∀ l:List IT,Hd H ((l.map Mz).flatMap A.cells) ((l.map (oA ∘ IT.op)).flatMap A.cells):=fun l=>by
   induction l with
   |nil=>trivial
   |cons x l ih=>
    simp only[List.map_cons,List.flatMap_cons]
    exact Rr (ya x) ih (by simp)
  exact this its
theorem pk {H:Hp} (k:Int) (l:List T):Jd H (.sl true [.agg (iv k::iv 0::Ba l::Bk)]) (Lz [OP.mk k 0 l E0]):=by
 have h:=nJ (H:=H) (a:=.sl true [.agg (iv k::iv 0::Ba l::Bk)]) (by simp[Bk])
 have e:(A.sl true [.agg (iv k::iv 0::Ba l::Bk)]).soft=Lz [OP.mk k 0 l E0]:=by simp[A.soft,A.softL,Bk,qv]
 rw[e] at h
 exact h
theorem V6 (k:Int) (l:List T):G.Spec Tryz.prog 223 [iv k,Ba l] (Lz (if l=[] then [] else [.mk k 0 l E0])):=by
 refine Aj bQ (by simp) fun w0 I0=>?_
 unfold Uj
 by_cases h:l=[]
 ·simp[h]
  exact Al
 ·have:¬ l.length=0:=by simpa using h
  simp[h,this]
  exact pk k l
theorem Mt (l:List T):G.Spec Tryz.prog 180 [Ba l] (Lz (CS l)):=by
 refine Aj XA (by simp) fun w0 I0=>?_
 unfold PJ
 simp
 refine Ae (V6 1 l) (by simp) ?_
 simp
 exact Ab (by simp)
theorem MF (l:List T):G.Spec Tryz.prog 179 [Ba l] (Lz (CY l)):=by
 refine Aj XB (by simp) fun w0 I0=>?_
 unfold Py
 simp
 refine Ae (V6 2 l) (by simp) ?_
 simp
 exact Ab (by simp)
theorem Rz (t:T) (i:Nat):G.Spec Tryz.prog 162 [tX t,iv i] (uv (t.words.getD i 0)):=by
 refine Aj Rm (by simp) fun w0 I0=>?_
 unfold K8
 by_cases h:i<t.words.length
 ·simp[h]
  exact Ab rfl
 ·simp[h,List.getElem?_eq_none (Nat.le_of_not_lt h)]
  exact Ab rfl
theorem UC (t:T) (i:Nat):G.Spec Tryz.prog 164 [tX t,iv i] (tX (t.kids.getD i T0)):=by
 refine Aj TM (by simp) fun w0 I0=>?_
 unfold LM
 by_cases h:i<t.kids.length
 ·simp[h]
  exact Ab rfl
 ·simp[h,List.getElem?_eq_none (Nat.le_of_not_lt h)]
  exact BG ⟨Ab rfl,Al,Al,trivial⟩
theorem wJ {l:List IT}:∀ x,x ∈ l.map Mz→Ez (fun _=>x):=fun x hx=>by
 obtain⟨o,_,rfl⟩:=List.mem_map.1 hx
 refine EN (cs:=X8 o) rfl fun y hy=>?_
 cases o with
 |r o=>exact List.all_eq_true.1 (show(X8 (.r o)).all A.bare1=true by cases o<;>rfl) y hy
 |got o=>exact List.all_eq_true.1 (show(X8 (.got o)).all A.bare1=true by simp[X8,A.bare1]) y hy
abbrev itM (u:Nat) (l:List IT):Fam:=qU u 14 (l.map Mz) wJ
def Xq (k:Int) (l:List T):List IT:=if l=[] then [] else if k=1 then [.r (.del l)] else [.r (.ins l)]
theorem JZ (out:List IT) (u:Nat) (hu:1≤u) (hl:out.length≤1000000) {k:Int} (hk:k=1∨k=2) (l:List T):A4 Tryz.prog 168 (fun r=>[.osl [r] u 14 0 out.length,iv k,Ba l]) (itM u out) (fun r=>.osl [r] (u+(Xq k l).length) 14 0 (out++Xq k l).length) (itM (u+(Xq k l).length) (out++Xq k l)):=by
 refine Ax SO (by simp) (Ag B8 (Ag AE (Ag De Am))) B8 fun w0 I0 M0 m0=>?_
 unfold KG
 by_cases h:l=[]
 ·simp[h,Xq]
  exact AH rfl rfl (fun p=>by simp)
 ·have:¬ l.length=0:=by simpa using h
  rcases hk with rfl | rfl
  ·simp[h,this,Xq,Cf]
   refine⟨by omega,?_⟩
   refine AH rfl rfl (fun p=>?_)
   by_cases h1:p=[]
   ·subst h1;simp[Aa,Mz,X8,QE,Bk,AI]
   ·simp[h1,Aa]
  ·simp[h,this,Xq,Cf]
   refine⟨by omega,?_⟩
   refine AH rfl rfl (fun p=>?_)
   by_cases h1:p=[]
   ·subst h1;simp[Aa,Mz,X8,QE,Bk,AI]
   ·simp[h1,Aa]
theorem Adq {a b:List T} (hb:∀ t,t ∈ b→BB t) (hbl:b.length≤1000000) {most:Int} {x:T} (hx:BB x) {R:A} {N i w:Nat} {H0:Hp}
  (hq:∀ (H':Hp) (v:Nat),H' [2]=⟨v,.arr 1 ((b.map fun y=>(Ej x y:Int)).map iv)⟩→(∀ o,o ≠ [1]→o ≠ [2]→H' o=H0 o)→Q (.exit 2) ⟨lk [(1,Ba a),(2,Ba b),(3,iv most),(9,R),(11,.pob [0] w 0),(12,.osl [2] v 1 0 b.length),(20,Ba a),(21,iv N),(22,iv i),(26,Ba b),(27,iv b.length),(28,iv b.length),(29,bv false)],H'⟩) :
  ∀ (m j:Nat) (v:Nat) (H:Hp),j+m=b.length→H [0]=⟨w,.cells (tL x)⟩→H [2]=⟨v,.arr 1 (((b.take j).map fun y=>(Ej x y:Int)).map iv)⟩→(∀ o,o ≠ [1]→o ≠ [2]→H o=H0 o) →
  LoopC (cx Tryz.prog w0 I0 n0) Kt Q ⟨lk [(1,Ba a),(2,Ba b),(3,iv most),(9,R),(11,.pob [0] w 0),(12,.osl [2] v 1 0 j),(20,Ba a),(21,iv N),(22,iv i),(26,Ba b),(27,iv b.length),(28,iv j)],H⟩:=by
 intro m
 induction m with
 |zero=>
  intro j v H hm h0 h2 hH
  have:j=b.length:=by omega
  subst this
  rw[AI (BW _)] at h2
  refine Ad Ah Kt.eq_1 ?_
  simp
  exact hq H v h2 hH
 |succ m ih=>
  intro j v H hm h0 h2 hH
  have hlt:j<b.length:=by omega
  have ew:IntKind.i64.wrap ((j:Int)+1)=((j+1:Nat):Int):=An
  have htk:b.take (j+1)=b.take j++[b[j]]:=Fj hlt
  have next:=ih (j+1)
  rw[htk] at next
  refine Ad Ah Kt.eq_1 ?_
  simp[hlt,h0,Aa]
  refine Ae (bh hx (hb _ (Bq hlt))) (by simp) ?_
  simp[h2,Aa,Nat.min_eq_left (Nat.le_of_lt hlt)]
  refine⟨by omega,?_⟩
  rw[ew]
  refine next (v+1) _ (by omega) (by simp[Aa,h0]) ?_ (fun o h1 h2'=>by simp[Aa,h1,h2',hH])
  simp[Aa]
  rw[Fj (by simpa using hlt)]
  simp[List.take_take]
abbrev Y9 (r:List Int):A:=.sl false (r.map iv)
theorem Adg {a b:List T} (ha:∀ t,t ∈ a→BB t) (hb:∀ t,t ∈ b→BB t) (hal:a.length≤1000000) (hbl:b.length≤1000000) {most:Int}
  (hq:∀ (H':Hp),H' [3]=⟨a.length+1,.arr 1 ((Km a b).map Y9)⟩→H' [5]=⟨0,.none⟩→Q (.exit 0) ⟨lk [(1,Ba a),(2,Ba b),(3,iv most),(9,.osl [3] (a.length+1) 1 0 a.length),(20,Ba a),(21,iv a.length),(22,iv a.length),(23,bv false)],H'⟩) :
  ∀ (m i:Nat) (H:Hp),i+m=a.length→H [3]=⟨i+1,.arr 1 ((Km (a.take i) b).map Y9)⟩→H [5]=⟨0,.none⟩ →
  LoopC (cx Tryz.prog w0 I0 n0) Kw Q ⟨lk [(1,Ba a),(2,Ba b),(3,iv most),(9,.osl [3] (i+1) 1 0 i),(20,Ba a),(21,iv a.length),(22,iv i)],H⟩:=by
 intro m
 induction m with
 |zero=>
  intro i H hm h3 h5
  have:i=a.length:=by omega
  subst this
  rw[AI (BW _)] at h3
  refine Ad Ah Kw.eq_1 ?_
  simp
  exact hq H h3 h5
 |succ m ih=>
  intro i H hm h3 h5
  have hlt:i<a.length:=by omega
  have ew:IntKind.i64.wrap ((i:Int)+1)=((i+1:Nat):Int):=An
  have htk:a.take (i+1)=a.take i++[a[i]]:=Fj hlt
  have next:=ih (i+1)
  rw[htk] at next
  have hrl:(Km (a.take i) b).length=i:=by simp[Km];omega
  refine Ad Ah Kw.eq_1 ?_
  simp[hlt]
  refine LoopC.le (BX 12 [2] 1 (by simp)) ?_
  refine LoopC.le (Ao [(1,Ba a),(2,Ba b),(3,iv most),(9,.osl [3] (i+1) 1 0 i),(11,.pob [0] ((H [0]).u+1) 0),(12,.osl [2] ((H [2]).u+1) 1 0 0),(20,Ba a),(21,iv a.length),(22,iv i),(26,Ba b),(27,iv b.length),(28,iv (0:Nat))] (by simp[upd,Aa])) ?_
  refine Adq (a:=a) hb hbl (ha _ (Bq hlt)) (H0:=Ay H [0] ⟨(H [0]).u+1,.cells (tL a[i])⟩) (fun H' v g2 gH=>?_) b.length 0 ((H [2]).u+1) _ (by omega) (by simp[Aa]) (by simp[Aa]) (fun o h1 h2=>by simp[Aa,h1,h2])
  simp
  refine CJ (Fz (d:=[2]) (fun _ h=>h) 12 (Y9 (b.map fun y=>(Ej a[i] y:Int))) fun H1 e1=>?_) ?_
  ·simp
   exact Bb (f:=iv) (l:=b.map fun y=>(Ej a[i] y:Int)) (by rw[e1,g2];simp) (by simp) (fun x=>by simp)
  ·refine CJ (Ao [(1,Ba a),(2,Ba b),(3,iv most),(9,.osl [3] (i+1) 1 0 i),(12,Y9 (b.map fun y=>(Ej a[i] y:Int))),(20,Ba a),(21,iv a.length),(22,iv i)] (by simp[upd])) (Ep ?_)
   have g3:H' [3]=H [3]:=by rw[gH _ (by simp) (by simp)];simp[Aa]
   have g5:H' [5]=H [5]:=by rw[gH _ (by simp) (by simp)];simp[Aa]
   simp[Aa,g3,h3,hrl]
   refine⟨by omega,?_⟩
   rw[ew]
   refine next _ (by omega) ?_ (by simp[Aa,g5,h5])
   have e1:List.take i (List.map Y9 (Km (List.take i a) b))=List.map Y9 (Km (List.take i a) b):=AI (by simp[Km];omega)
   simp[Aa,e1,Km]
   rw[Fj (by simpa using hlt)]
   simp[List.take_take]
def eU (la lb:Nat):Nat→Nat→List Sc→Prop
 |i,j,[]=>i≤la∧j≤lb
 |i,j,x::P=>i≤x.i∧j≤x.j∧x.i<la∧x.j<lb∧eU la lb (x.i+1) (x.j+1) P
theorem da {la lb:Nat}:∀ (P:List Sc) (i j:Nat),i≤la→j≤lb→(∀ x,x ∈ P→i≤x.i∧j≤x.j∧x.i<la∧x.j<lb)→(P.Pairwise fun p q=>p.i<q.i∧p.j<q.j)→eU la lb i j P
 |[],i,j,h1,h2,_,_=>⟨h1,h2⟩
 |x::P,i,j,h1,h2,h3,h4=>by
  obtain⟨g1,g2,g3,g4⟩:=h3 x (by simp)
  rw[List.pairwise_cons] at h4
  refine⟨g1,g2,g3,g4,da P _ _ (by omega) (by omega) (fun y hy=>?_) h4.2⟩
  have:=h4.1 y hy
  obtain⟨k1,k2,k3,k4⟩:=h3 y (by simp[hy])
  omega
theorem Wk (a b:List T):eU a.length b.length 0 0 (Xy (Km a b)):=by
 obtain⟨h,_⟩:=Zw (Km a b)
 obtain⟨h1,h2⟩:=GF h
 obtain⟨g1,g2⟩:=J1 h1
 refine da _ 0 0 (by omega) (by omega) (fun x hx=>?_) ?_
 ·obtain⟨_,_,_,_,r,k1,k2⟩:=JB (h2 x (g2.subset hx))
  have l1:=(List.getElem?_eq_some_iff.1 k1).1
  have e1:=(List.getElem?_eq_some_iff.1 k1).2
  have l2:=(List.getElem?_eq_some_iff.1 k2).1
  rw[← e1] at l2
  simp[Km] at l1 l2
  omega
 ·have hp:(Xy (Km a b)).Pairwise fun p q=>Vr p q=true:=by
   refine(List.Perm.pairwise_iff (fun {p q} h=>?_) g2).2 h1
   unfold Vr at h ⊢
   simp at h ⊢
   omega
  have hr:(Xy (Km a b)).Pairwise fun p q=>p.i<q.i:=g1
  refine(hp.and hr).imp fun {p q} h=>?_
  obtain⟨h1,h2⟩:=h
  unfold Vr at h1
  simp at h1
  omega
theorem AbP {one:T→T→E} {a b:List T} (hal:a.length≤1000000) (hbl:b.length≤1000000) {most:Int} (hone:∀ x,x ∈ a→∀ y,y ∈ b→G.Spec Tryz.prog 30 [tX x,tX y,iv most] (eX (one x y))) {P:List Sc} (hP:P.length≤1000) {R:List OP}
  (hq:∀ (H':Hp) (its:List IT) (v i j:Nat),i≤a.length→j≤b.length→its.length≤3*P.length→R=Kq one a b [] i j (its.map IT.op)→H' [5]=⟨v,.arr 14 (its.map Mz)⟩→Q (.exit 4) ⟨lk [(1,Ba a),(2,Ba b),(3,iv most),(15,.osl [5] v 14 0 its.length),(16,iv i),(17,iv j),(45,UF P),(46,iv P.length),(47,iv P.length),(48,bv false)],H'⟩) :
  ∀ (m k i j v:Nat) (its:List IT) (H:Hp),k+m=P.length→eU a.length b.length i j (P.drop k)→its.length≤3*k→R=Kq one a b (P.drop k) i j (its.map IT.op)→H [5]=⟨v,.arr 14 (its.map Mz)⟩ →
  LoopC (cx Tryz.prog w0 I0 n0) KF Q ⟨lk [(1,Ba a),(2,Ba b),(3,iv most),(15,.osl [5] v 14 0 its.length),(16,iv i),(17,iv j),(45,UF P),(46,iv P.length),(47,iv k)],H⟩:=by
 intro m
 induction m with
 |zero=>
  intro k i j v its H hm hk hl hR h5
  have:k=P.length:=by omega
  subst this
  rw[List.drop_length] at hk hR
  refine Ad Ah KF.eq_1 ?_
  simp
  exact hq H its v i j hk.1 hk.2 hl hR h5
 |succ m ih=>
  intro k i j v its H hm hk hl hR h5
  have hlt:k<P.length:=by omega
  have ew:IntKind.i64.wrap ((k:Int)+1)=((k+1:Nat):Int):=An
  have hd:P.drop k=P[k]::P.drop (k+1):=(List.getElem_cons_drop hlt).symm
  rw[hd] at hk hR
  have next:=ih (k+1)
  generalize hx:P[k]=x at *
  obtain⟨k1,k2,k3,k4,k5⟩:=hk
  rw[Kq] at hR
  have ei:IntKind.i64.wrap ((x.i:Int)+1)=((x.i+1:Nat):Int):=An
  have ej:IntKind.i64.wrap ((x.j:Int)+1)=((x.j+1:Nat):Int):=An
  have hO:=hone _ (Bq k3) _ (Bq k4)
  have D1:=Mt ((a.take x.i).drop i)
  have D2:=MF ((b.take x.j).drop j)
  refine Ad Ah KF.eq_1 ?_
  have f1:x.i≤a.length:=by omega
  have f2:x.j≤b.length:=by omega
  have dl:∀ l,(CS l).length≤1:=fun l=>by unfold CS;split<;>simp
  have il:∀ l,(CY l).length≤1:=fun l=>by unfold CY;split<;>simp
  have d1:=dl ((a.take x.i).drop i)
  have d2:=il ((b.take x.j).drop j)
  simp[hlt,hx,Ho,OG,Aa,k1,k2,f1,f2,h5]
  simp only[← List.map_drop,← List.map_take]
  simp only[List.drop_take] at D1 D2 hR d1 d2
  refine Ae D1 (by simp) ?_
  generalize CS ((a.drop i).take (x.i-i))=D at *
  generalize hI:CY ((b.drop j).take (x.j-j))=I at *
  simp[k1,k2,f1,f2,h5,Aa,Cf]
  have hgot:∀ D:List OP,D.map oA=(D.map IT.got).map Mz:=fun D=>by
   rw[List.map_map]
   refine List.map_congr_left fun o _=>?_
   simp[Mz,X8]
  refine⟨by omega,?_⟩
  simp only[← List.map_drop,← List.map_take]
  refine Ae D2 (by simp) ?_
  simp[k3,k4,Aa,Cf]
  refine⟨by omega,?_⟩
  refine Ae hO (by simp) ?_
  simp[ei,ej,ew,Aa,Cf]
  refine⟨by omega,?_⟩
  have e1:a.getD x.i T0=a[x.i]:=by simp[k3]
  have e2:b.getD x.j T0=b[x.j]:=by simp[k4]
  rw[e1,e2] at hR
  have hop:∀ D:List OP,(D.map IT.got).map IT.op=D:=fun D=>by
   rw[List.map_map]
   exact List.map_id' _
  have hrow:List.take (its.length+D.length+I.length) (List.take (its.length+D.length) (List.map Mz its++List.map oA D)++List.map oA I)++[A.agg (A.v (Value.int IntKind.i64 3)::A.v (Value.int IntKind.i64 0)::A.sl true []::eL (one a[x.i] b[x.j]))]=(its++D.map IT.got++I.map IT.got++[IT.r (.desc (one a[x.i] b[x.j]))]).map Mz:=by
   rw[AI (by simp),AI (by simp),hgot D,hgot I]
   simp[Mz,X8,QE]
  rw[hrow]
  have nx:=next (x.i+1) (x.j+1) (v+1+1+1) (its++D.map IT.got++I.map IT.got++[IT.r (.desc (one a[x.i] b[x.j]))]) (Ay (Ay H [4] ⟨(H [4]).u+1,.cells [iv x.i,iv x.j]⟩) [5] ⟨v+1+1+1,.arr 14 ((its++D.map IT.got++I.map IT.got++[IT.r (.desc (one a[x.i] b[x.j]))]).map Mz)⟩) (by omega) k5 (by simp;omega) (by rw[hR];congr 1;simp[hop,IT.op,RI.op]) (by simp[Aa])
  have hlen:(its++D.map IT.got++I.map IT.got++[IT.r (.desc (one a[x.i] b[x.j]))]).length=its.length+D.length+I.length+1:=by simp;omega
  rw[hlen] at nx
  simpa using nx
theorem Ym {one:T→T→E} {a b:List T} (ha:∀ t,t ∈ a→BB t) (hb:∀ t,t ∈ b→BB t) (hal:a.length≤1000000) (hbl:b.length≤1000000) {most q:Int} (hone:∀ x,x ∈ a→∀ y,y ∈ b→G.Spec Tryz.prog 30 [tX x,tX y,iv most] (eX (one x y))) :
  G.Spec Tryz.prog 154 [iv q,Ba a,Ba b,iv most] (Lz (DM one a b)):=by
 obtain⟨hpk,hp16⟩:=Zw (Km a b)
 have hPl:(Xy (Km a b)).length≤16:=by
  have:=(J1 (GF hpk).1).2.length_eq
  unfold Xy
  omega
 have hPick:=jY (Km a b) (by simp[Km];omega) (fun r hr=>by
  obtain⟨x,_,rfl⟩:=List.mem_map.1 hr
  simp;omega) hpk hp16
 refine Aj fR (by simp) fun w0 I0=>?_
 unfold Xj
 simp
 refine LoopC.le (BX 9 [3] 1 (by simp)) ?_
 refine LoopC.le (Ao [(1,Ba a),(2,Ba b),(3,iv most),(9,.osl [3] (0+1) 1 0 0),(20,Ba a),(21,iv a.length),(22,iv (0:Nat))] (by simp[upd])) ?_
 refine Adg ha hb hal hbl (fun H' h3 h5=>?_) a.length 0 _ (by omega) (by simp[Km]) (by simp[Aa])
 simp
 refine CJ (Fz (d:=[3]) (fun _ h=>h) 9 (Lr (Km a b)) fun H1 e1=>?_) ?_
 ·simp
  exact Bb (f:=Y9) (l:=Km a b) (by rw[e1,h3];simp) (by simp[Km]) (fun x=>by simp)
 ·refine CJ (Ao [(1,Ba a),(2,Ba b),(3,iv most),(9,Lr (Km a b)),(15,.sl true []),(16,iv 0),(17,iv 0)] (by simp[upd])) (Ep ?_)
  simp
  refine Ae hPick (by simp) ?_
  simp
  refine LoopC.le (BX 15 [5] 14 (by simp)) ?_
  refine LoopC.le (Ao [(1,Ba a),(2,Ba b),(3,iv most),(15,.osl [5] 1 14 0 ([]:List IT).length),(16,iv (0:Nat)),(17,iv (0:Nat)),(45,UF (Xy (Km a b))),(46,iv (Xy (Km a b)).length),(47,iv (0:Nat))] (by simp[upd,Aa,h5,Xy])) ?_
  refine AbP (one:=one) (a:=a) (b:=b) hal hbl hone (P:=Xy (Km a b)) (by omega) (R:=DM one a b) (fun H2 its v i j hi hj hl hR k5=>?_) _ 0 0 0 1 [] _ (Nat.zero_add _) (Wk a b) (by simp) rfl (by simp[Aa,h5])
  have D1:=Mt ((a.drop i).take (a.length-i))
  have D2:=MF ((b.drop j).take (b.length-j))
  have dl:∀ l,(CS l).length≤1:=fun l=>by unfold CS;split<;>simp
  have il:∀ l,(CY l).length≤1:=fun l=>by unfold CY;split<;>simp
  have d1:=dl ((a.drop i).take (a.length-i))
  have d2:=il ((b.drop j).take (b.length-j))
  have ea:(a.drop i).take (a.length-i)=a.drop i:=AI (by simp)
  have eb:(b.drop j).take (b.length-j)=b.drop j:=AI (by simp)
  have hR2:DM one a b=its.map IT.op++CS ((a.drop i).take (a.length-i))++CY ((b.drop j).take (b.length-j)):=by rw[ea,eb,hR,Kq]
  clear ea eb
  rw[hR2]
  have hgot:∀ D:List OP,D.map oA=(D.map IT.got).map Mz:=fun D=>by
   rw[List.map_map]
   refine List.map_congr_left fun o _=>?_
   simp[Mz,X8]
  have hop:∀ D:List OP,(D.map IT.got).map IT.op=D:=fun D=>by
   rw[List.map_map]
   exact List.map_id' _
  clear hR2
  generalize CS ((a.drop i).take (a.length-i))=D at *
  generalize CY ((b.drop j).take (b.length-j))=I at *
  simp[hi,hj]
  simp only[← List.map_drop,← List.map_take]
  refine Ae D1 (by simp) ?_
  simp[hj,k5,Aa,Cf]
  refine⟨by omega,?_⟩
  simp only[← List.map_drop,← List.map_take]
  refine Ae D2 (by simp) ?_
  simp[Aa,Cf]
  refine⟨by omega,?_⟩
  have hf:∀ H:Hp,H [5]=⟨v+1+1,.arr 14 ((its++D.map IT.got++I.map IT.got).map Mz)⟩→Jd H (.osl [5] (v+1+1) 14 0 (its.length+D.length+I.length)) (Lz (its.map IT.op++(D++I))):=fun H hH=>by
   have:=Sw hH (n:=its.length+D.length+I.length) (by simp;omega)
   simpa[hop] using this
  refine hf _ ?_
  rw[hgot D,hgot I,AI (by simp)]
  simp[Aa]
theorem TD {gap:List T→List T→List OP} {s:Sp} (h:s.k=0) (ss:List Sp) (a b:List T) (out:List OP):Cv gap (s::ss) a b out=Cv gap ss (a.drop s.n) (b.drop s.n) (out++[.mk 0 s.n [] E0]):=by
 cases ss with
 |nil=>simp[Cv,h]
 |cons s2 ss=>simp[Cv,h]
theorem VZ {gap:List T→List T→List OP} {s:Sp} (h:s.k=2) (ss:List Sp) (a b:List T) (out:List OP):Cv gap (s::ss) a b out=Cv gap ss a (b.drop s.n) (out++CY (b.take s.n)):=by
 cases ss with
 |nil=>simp[Cv,h]
 |cons s2 ss=>simp[Cv,h]
theorem SP {gap:List T→List T→List OP} {s s2:Sp} (h:s.k=1) (h2:s2.k=2) (ss:List Sp) (a b:List T) (out:List OP):Cv gap (s::s2::ss) a b out=Cv gap ss (a.drop s.n) (b.drop s2.n) (out++gap (a.take s.n) (b.take s2.n)):=by
 simp[Cv,h,h2]
theorem VB {gap:List T→List T→List OP} {s:Sp} (h:s.k=1) {ss:List Sp} (h2:∀ s2 r,ss=s2::r→s2.k ≠ 2) (a b:List T) (out:List OP):Cv gap (s::ss) a b out=Cv gap ss (a.drop s.n) b (out++CS (a.take s.n)):=by
 cases ss with
 |nil=>simp[Cv,h]
 |cons s2 ss=>simp[Cv,h,h2 s2 ss rfl]
theorem bM (one:T→T→E) (a b:List T):∀ (P:List Sc) (i j:Nat) (out:List OP),(Kq one a b P i j out).length≤out.length+3*P.length+2
 |[],i,j,out=>by
  have d1:(CS (a.drop i)).length≤1:=by unfold CS;split<;>simp
  have d2:(CY (b.drop j)).length≤1:=by unfold CY;split<;>simp
  simp[Kq]
  omega
 |x::P,i,j,out=>by
  have d1:(CS ((a.take x.i).drop i)).length≤1:=by unfold CS;split<;>simp
  have d2:(CY ((b.take x.j).drop j)).length≤1:=by unfold CY;split<;>simp
  have:=bM one a b P (x.i+1) (x.j+1) (out++CS ((a.take x.i).drop i)++CY ((b.take x.j).drop j)++[.mk 3 0 [] (one (a.getD x.i T0) (b.getD x.j T0))])
  rw[Kq]
  simp only[List.length_append,List.length_singleton] at this
  simp only[List.length_cons]
  omega
theorem NB (one:T→T→E) (a b:List T):(DM one a b).length≤50:=by
 obtain⟨hpk,hp16⟩:=Zw (Km a b)
 have hPl:(Xy (Km a b)).length≤16:=by
  have:=(J1 (GF hpk).1).2.length_eq
  unfold Xy
  omega
 have:=bM one a b (Xy (Km a b)) 0 0 []
 simp at this
 unfold DM
 omega
theorem Qs (D:List OP):D.map oA=(D.map IT.got).map Mz:=by
 rw[List.map_map]
 refine List.map_congr_left fun o _=>?_
 simp[Mz,X8]
theorem RP (D:List OP):(D.map IT.got).map IT.op=D:=by
 rw[List.map_map]
 exact List.map_id' _
theorem uQ {one:T→T→E} {a b:T} (ha:∀ t,t ∈ a.kids→BB t) (hb:∀ t,t ∈ b.kids→BB t) (hal:a.kids.length≤1000000) (hbl:b.kids.length≤1000000) {most:Int} (hone:∀ x,x ∈ a.kids→∀ y,y ∈ b.kids→G.Spec Tryz.prog 30 [tX x,tX y,iv most] (eX (one x y))) {S:List Sp} (hS:S.length≤10000000) (hS2:∀ s,s ∈ S→s.k≤2) {R:List OP}
  (hq:∀ (H':Hp) (its:List IT) (v:Nat) (st:List (Nat × A)),its.map IT.op=R→H' [2]=⟨v,.arr 14 (its.map Mz)⟩→Q (.exit 0) ⟨lk ([(0,Nj S),(3,iv most),(5,.pob [0] 1 0),(9,.osl [2] v 14 0 its.length)]++st),H'⟩) :
  ∀ (m k v:Nat) (x y:List T) (its:List IT) (H:Hp),k+m=S.length→(∀ t,t ∈ x→t ∈ a.kids)→(∀ t,t ∈ y→t ∈ b.kids)→x.length≤1000000→y.length≤1000000→dA (AJ (S.drop k))≤x.length→dB (AJ (S.drop k))≤y.length→its.length≤50*k→R=Cv (DM one) (S.drop k) x y (its.map IT.op)→H [0]=⟨1,.cells (tL a)⟩→H [2]=⟨v,.arr 14 (its.map Mz)⟩ →
  LoopC (cx Tryz.prog w0 I0 n0) FH Q ⟨lk [(0,Nj S),(3,iv most),(5,.pob [0] 1 0),(9,.osl [2] v 14 0 its.length),(10,Ba x),(11,Ba y),(12,iv k)],H⟩:=by
 have tk:∀ (l:List T) (n:Nat),(l.drop n).take (l.length-n)=l.drop n:=fun l n=>AI (by simp)
 intro m
 induction m using Nat.strongRecOn with
 |_ m ih=>
 intro k v x y its H hm hx hy hxl hyl hA hB hl hR h0 h2
 cases m with
 |zero=>
  have:k=S.length:=by omega
  subst this
  rw[List.drop_length] at hR
  refine Ad Ah FH.eq_1 ?_
  simp
  exact hq H its v [(10,Ba x),(11,Ba y),(12,iv S.length),(22,bv false)] hR.symm h2
 |succ m=>
  have hlt:k<S.length:=by omega
  have ew:IntKind.i64.wrap ((k:Int)+1)=((k+1:Nat):Int):=An
  have hd:S.drop k=S[k]::S.drop (k+1):=(List.getElem_cons_drop hlt).symm
  have hk:=hS2 _ (Bq hlt)
  rw[hd] at hR hA hB
  rw[Aw,Dl,DN] at hA
  rw[Aw,Dk,DL] at hB
  have hg:(S.map C0)[k]? = some (C0 S[k]):=by simp[hlt]
  generalize hs:S[k]=s at *
  have hk3:s.k=0∨s.k=1∨s.k=2:=by omega
  rcases hk3 with h | h | h
  ·rw[TD h] at hR
   rw[if_neg (by omega)] at hA hB
   have f1:s.n≤x.length:=by omega
   have f2:s.n≤y.length:=by omega
   refine Ad Ah FH.eq_1 ?_
   simp[hlt,hs,C0,GA,h,f1,f2,h2,Cf,ew]
   refine⟨by omega,?_⟩
   simp only[← List.map_drop,← List.map_take,tk]
   have nx:=ih m (by omega) (k+1) (v+1) (x.drop s.n) (y.drop s.n) (its++[IT.r (RI.keep (s.n:Int))]) (Ay H [2] ⟨v+1,.arr 14 ((its++[IT.r (RI.keep (s.n:Int))]).map Mz)⟩) (by omega) (fun t ht=>hx t (Q3 ht)) (fun t ht=>hy t (Q3 ht)) (by simp;omega) (by simp;omega) (by simp;omega) (by simp;omega) (by simp;omega) (by rw[hR];simp[IT.op,RI.op]) (by simp[Aa,h0]) (by simp[Aa])
   rw[AI (by simp)]
   rw[Int.natCast_add] at nx
   simp only[List.length_append,List.length_map,List.length_singleton,List.length_cons,List.length_nil,List.map_append,List.map_cons,List.map_nil] at nx ⊢
   exact nx
  ·rw[h] at hA hB
   simp at hA hB
   have f1:s.n≤x.length:=by omega
   by_cases hg2:∃ h3:k+1<S.length,S[k+1].k=2
   ·obtain⟨h3,h4⟩:=hg2
    have hd2:S.drop (k+1)=S[k+1]::S.drop (k+1+1):=(List.getElem_cons_drop h3).symm
    rw[hd2] at hR hA hB
    rw[Aw,Dl,DN] at hA
    rw[Aw,Dk,DL] at hB
    generalize hs2:S[k+1]=s2 at *
    rw[SP h h4] at hR
    rw[h4] at hA hB
    simp at hA hB
    have f2:s2.n≤y.length:=by omega
    have ew2:IntKind.i64.wrap ((k:Int)+1+1)=((k+1+1:Nat):Int):=An
    have G:=Ym (one:=one) (a:=x.take s.n) (b:=y.take s2.n) (q:=a.kind) (fun t ht=>ha t (hx t (O5 ht))) (fun t ht=>hb t (hy t (O5 ht))) (by simp;omega) (by simp;omega) (most:=most) (fun p hp q hq=>hone p (hx p (O5 hp)) q (hy q (O5 hq)))
    have gl:=NB one (x.take s.n) (y.take s2.n)
    have i1:(k:Int)+1<S.length:=by omega
    have i2:(0:Int)≤(k:Int)+1:=by omega
    have i3:((k:Int)+1).toNat=k+1:=by omega
    have i4:IntKind.i64.wrap ((k:Int)+1)=(k:Int)+1:=by rw[ew];omega
    refine Ad Ah FH.eq_1 ?_
    generalize DM one (x.take s.n) (y.take s2.n)=I at *
    simp[hlt,hs,C0,GA,h,f1,f2,h2,Cf,i4,h3,hs2,h4,h0,i1,i2,i3]
    simp only[← List.map_drop,← List.map_take,tk]
    refine Ae G (by simp) ?_
    simp[f1,f2,h2,Cf,i4,h0,ew2]
    refine⟨by omega,?_⟩
    simp only[← List.map_drop,← List.map_take,tk]
    cases m with
    |zero=>omega
    |succ m=>
     have nx:=ih m (by omega) (k+1+1) (v+1) (x.drop s.n) (y.drop s2.n) (its++I.map IT.got) (Ay H [2] ⟨v+1,.arr 14 ((its++I.map IT.got).map Mz)⟩) (by omega) (fun t ht=>hx t (Q3 ht)) (fun t ht=>hy t (Q3 ht)) (by simp;omega) (by simp;omega) (by simp;omega) (by simp;omega) (by simp;omega) (by rw[hR,List.map_append,RP]) (by simp[Aa,h0]) (by simp[Aa])
     rw[AI (by simp),Qs,← List.map_append]
     rw[Int.natCast_add,Int.natCast_add] at nx
     simp only[List.length_append,List.length_map,List.length_singleton,List.length_cons,List.length_nil,List.map_append,List.map_cons,List.map_nil] at nx ⊢
     exact nx
   ·have hnd:∀ s2 r,S.drop (k+1)=s2::r→s2.k ≠ 2:=fun s2 r e h4=>by
     have h3:k+1<S.length:=by
      have:=congrArg List.length e
      simp at this
      omega
     have hd2:S.drop (k+1)=S[k+1]::S.drop (k+1+1):=(List.getElem_cons_drop h3).symm
     rw[hd2] at e
     injection e with e1 _
     exact hg2 ⟨h3,by rw[e1];exact h4⟩
    rw[VB h hnd] at hR
    have D:=Mt (x.take s.n)
    have dl:(CS (x.take s.n)).length≤1:=by unfold CS;split<;>simp
    generalize CS (x.take s.n)=I at *
    refine Ad Ah FH.eq_1 ?_
    by_cases h3:k+1<S.length
    ·have h4:¬ (S[k+1].k:Int)=2:=fun e=>hg2 ⟨h3,by omega⟩
     have h4':¬ S[k+1].k=2:=fun e=>hg2 ⟨h3,e⟩
     have i1:(k:Int)+1<S.length:=by omega
     have i2:(0:Int)≤(k:Int)+1:=by omega
     have i3:((k:Int)+1).toNat=k+1:=by omega
     have i4:IntKind.i64.wrap ((k:Int)+1)=(k:Int)+1:=by rw[ew];omega
     simp[hlt,hs,C0,GA,h,f1,h2,Cf,i4,h3,h4,h4',i1,i2,i3]
     simp only[← List.map_drop,← List.map_take,tk]
     refine Ae D (by simp) ?_
     simp[f1,h2,Cf,i4]
     refine⟨by omega,?_⟩
     simp only[← List.map_drop,← List.map_take,tk]
     have nx:=ih m (by omega) (k+1) (v+1) (x.drop s.n) y (its++I.map IT.got) (Ay H [2] ⟨v+1,.arr 14 ((its++I.map IT.got).map Mz)⟩) (by omega) (fun t ht=>hx t (Q3 ht)) hy (by simp;omega) (by omega) (by simp;omega) (by omega) (by simp;omega) (by rw[hR,List.map_append,RP]) (by simp[Aa,h0]) (by simp[Aa])
     rw[AI (by simp),Qs,← List.map_append]
     rw[Int.natCast_add] at nx
     simp only[List.length_append,List.length_map,List.length_singleton,List.length_cons,List.length_nil,List.map_append,List.map_cons,List.map_nil] at nx ⊢
     exact nx
    ·have i1:¬ (k:Int)+1<S.length:=by omega
     have i4:IntKind.i64.wrap ((k:Int)+1)=(k:Int)+1:=by rw[ew];omega
     simp[hlt,hs,C0,GA,h,f1,h2,Cf,i4,i1]
     simp only[← List.map_drop,← List.map_take,tk]
     refine Ae D (by simp) ?_
     simp[f1,h2,Cf,i4]
     refine⟨by omega,?_⟩
     simp only[← List.map_drop,← List.map_take,tk]
     have nx:=ih m (by omega) (k+1) (v+1) (x.drop s.n) y (its++I.map IT.got) (Ay H [2] ⟨v+1,.arr 14 ((its++I.map IT.got).map Mz)⟩) (by omega) (fun t ht=>hx t (Q3 ht)) hy (by simp;omega) (by omega) (by simp;omega) (by omega) (by simp;omega) (by rw[hR,List.map_append,RP]) (by simp[Aa,h0]) (by simp[Aa])
     rw[AI (by simp),Qs,← List.map_append]
     rw[Int.natCast_add] at nx
     simp only[List.length_append,List.length_map,List.length_singleton,List.length_cons,List.length_nil,List.map_append,List.map_cons,List.map_nil] at nx ⊢
     exact nx
  ·rw[VZ h] at hR
   rw[h] at hA hB
   simp at hA hB
   have f2:s.n≤y.length:=by omega
   have D:=MF (y.take s.n)
   have dl:(CY (y.take s.n)).length≤1:=by unfold CY;split<;>simp
   generalize CY (y.take s.n)=I at *
   refine Ad Ah FH.eq_1 ?_
   simp[hlt,hs,C0,GA,h,f2,h2,Cf,ew]
   simp only[← List.map_drop,← List.map_take,tk]
   refine Ae D (by simp) ?_
   simp[f2,h2,Cf,ew]
   refine⟨by omega,?_⟩
   simp only[← List.map_drop,← List.map_take,tk]
   have nx:=ih m (by omega) (k+1) (v+1) x (y.drop s.n) (its++I.map IT.got) (Ay H [2] ⟨v+1,.arr 14 ((its++I.map IT.got).map Mz)⟩) (by omega) hx (fun t ht=>hy t (Q3 ht)) (by omega) (by simp;omega) (by omega) (by simp;omega) (by simp;omega) (by rw[hR,List.map_append,RP]) (by simp[Aa,h0]) (by simp[Aa])
   rw[AI (by simp),Qs,← List.map_append]
   rw[Int.natCast_add] at nx
   simp only[List.length_append,List.length_map,List.length_singleton,List.length_cons,List.length_nil,List.map_append,List.map_cons,List.map_nil] at nx ⊢
   exact nx
theorem cV {one:T→T→E} {a b:T} (ha:∀ t,t ∈ a.kids→BB t) (hb:∀ t,t ∈ b.kids→BB t) (hal:a.kids.length≤1000000) (hbl:b.kids.length≤1000000) {most:Int} (hone:∀ x,x ∈ a.kids→∀ y,y ∈ b.kids→G.Spec Tryz.prog 30 [tX x,tX y,iv most] (eX (one x y))) {S:List Sp} (hS:S.length≤10000000) (hS2:∀ s,s ∈ S→s.k≤2) (hA:dA (AJ S)≤a.kids.length) (hB:dB (AJ S)≤b.kids.length) :
  G.Spec Tryz.prog 121 [Nj S,tX a,tX b,iv most] (Lz (Cv (DM one) S a.kids b.kids [])):=by
 refine Aj gI (by simp) fun w0 I0=>?_
 unfold Wo
 simp
 refine LoopC.le (BX 9 [2] 14 (by simp)) ?_
 refine LoopC.le (Ao [(0,Nj S),(3,iv most),(5,.pob [0] 1 0),(9,.osl [2] 1 14 0 ([]:List IT).length),(10,Ba a.kids),(11,Ba b.kids),(12,iv (0:Nat))] (by simp[upd])) ?_
 refine uQ (a:=a) (b:=b) ha hb hal hbl hone hS hS2 (R:=Cv (DM one) S a.kids b.kids []) (fun H' its v st hR k2=>?_) S.length 0 1 a.kids b.kids [] _ (Nat.zero_add _) (fun t h=>h) (fun t h=>h) hal hbl (by simpa using hA) (by simpa using hB) (by simp) (by simp) (by simp[Aa]) (by simp[Aa])
 simp
 rw[← hR]
 exact Sw k2 rfl
theorem jD (l:List T):(Xq 1 l).map IT.op=CS l:=by unfold Xq CS;split<;>simp[IT.op,RI.op]
theorem Zd (l:List T):(Xq 2 l).map IT.op=CY l:=by unfold Xq CY;split<;>simp[IT.op,RI.op]
theorem Sy (k:Int) (l:List T):(Xq k l).length≤1:=by unfold Xq;split<;>(try split)<;>simp
theorem yX {one:T→T→E} {a b:List T} (hal:a.length≤1000000) (hbl:b.length≤1000000) {most:Int} (hone:∀ x,x ∈ a→∀ y,y ∈ b→G.Spec Tryz.prog 53 [tX x,tX y,iv most] (eX (one x y))) {P:List Sc} (hP:P.length≤1000) {R:List OP}
  (hq:∀ (H':Hp) (its:List IT) (v i j:Nat),1≤v→i≤a.length→j≤b.length→its.length≤3*P.length→R=Kq one a b [] i j (its.map IT.op)→(∀ p,H' (2::p)=(itM v its).F 2 p)→Q (.exit 4) ⟨lk [(0,Ba a),(1,Ba b),(2,iv most),(10,UF P),(11,.osl [2] v 14 0 its.length),(12,iv i),(13,iv j),(14,iv P.length),(53,bv false)],H'⟩) :
  ∀ (m k i j v:Nat) (its:List IT) (H:Hp),k+m=P.length→1≤v→eU a.length b.length i j (P.drop k)→its.length≤3*k→R=Kq one a b (P.drop k) i j (its.map IT.op)→(∀ p,H (2::p)=(itM v its).F 2 p) →
  LoopC (cx Tryz.prog w0 I0 n0) E7 Q ⟨lk [(0,Ba a),(1,Ba b),(2,iv most),(10,UF P),(11,.osl [2] v 14 0 its.length),(12,iv i),(13,iv j),(14,iv k)],H⟩:=by
 intro m
 induction m with
 |zero=>
  intro k i j v its H hm hv hk hl hR h5
  have:k=P.length:=by omega
  subst this
  rw[List.drop_length] at hk hR
  refine Ad Ah E7.eq_1 ?_
  simp
  exact hq H its v i j hv hk.1 hk.2 hl hR h5
 |succ m ih=>
  intro k i j v its H hm hv hk hl hR h5
  have hlt:k<P.length:=by omega
  have hd:P.drop k=P[k]::P.drop (k+1):=(List.getElem_cons_drop hlt).symm
  rw[hd] at hk hR
  have next:=ih (k+1)
  generalize hx:P[k]=x at *
  obtain⟨k1,k2,k3,k4,k5⟩:=hk
  rw[Kq] at hR
  simp only[List.drop_take] at hR
  have f1:x.i≤a.length:=by omega
  have f2:x.j≤b.length:=by omega
  have F1:=JZ its v hv (by omega) (k:=1) (.inl rfl) ((a.drop i).take (x.i-i))
  refine Ad Ah E7.eq_1 ?_
  simp[hlt,hx,Ho,OG,k1,k2,f1,f2]
  simp only[← List.map_drop,← List.map_take]
  refine Au 2 F1 h5 (by simp) (by simp) ?_
  have d1:=Sy 1 ((a.drop i).take (x.i-i))
  have d2:=Sy 2 ((b.drop j).take (x.j-j))
  have o1:=jD ((a.drop i).take (x.i-i))
  have o2:=Zd ((b.drop j).take (x.j-j))
  have F2:=JZ (its++Xq 1 ((a.drop i).take (x.i-i))) (v+(Xq 1 ((a.drop i).take (x.i-i))).length) (by omega) (by simp;omega) (k:=2) (.inr rfl) ((b.drop j).take (x.j-j))
  have hO:=hone _ (Bq k3) _ (Bq k4)
  rw[← o1,← o2] at hR
  clear F1 o1 o2
  generalize Xq 1 ((a.drop i).take (x.i-i))=D at *
  generalize Xq 2 ((b.drop j).take (x.j-j))=I at *
  simp only[List.length_append] at F2 ⊢
  simp[hlt,hx,Ho,OG,k1,k2,f1,f2]
  simp only[← List.map_drop,← List.map_take]
  refine Au 2 F2 (fun p=>by simp) (by simp) (by simp) ?_
  simp[hlt,hx,Ho,OG,k3,k4]
  refine Ae hO (by simp) ?_
  simp[hlt,hx,Ho,OG,Aa,Cf]
  refine⟨⟨by omega,by omega⟩,?_⟩
  have ew:IntKind.i64.wrap ((k:Int)+1)=((k+1:Nat):Int):=An
  have ei:IntKind.i64.wrap ((x.i:Int)+1)=((x.i+1:Nat):Int):=An
  have ej:IntKind.i64.wrap ((x.j:Int)+1)=((x.j+1:Nat):Int):=An
  rw[ei,ej,ew]
  have hlen:(its++(D++(I++[IT.r (.desc (one a[x.i] b[x.j]))]))).length=its.length+D.length+I.length+1:=by simp;omega
  have hR':R=Kq one a b (P.drop (k+1)) (x.i+1) (x.j+1) ((its++(D++(I++[IT.r (.desc (one a[x.i] b[x.j]))]))).map IT.op):=by rw[hR];simp[IT.op,RI.op,k3,k4]
  have nx:=fun H'=>next (x.i+1) (x.j+1) (v+D.length+I.length+1) (its++(D++(I++[IT.r (.desc (one a[x.i] b[x.j]))]))) H' (by omega) (by omega) k5 (by rw[hlen];omega) hR'
  rw[hlen] at nx
  refine nx _ fun p=>?_
  by_cases h1:p=[]
  ·subst h1
   rw[AI (by simp;omega)]
   simp[Aa,Mz,X8,QE]
  ·simp[h1,Aa]
def Nn (m n:Nat):List A:=(List.range n).map fun j=>.osl [5+j] (j+1) 1 0 m
@[simp] theorem Ac9 {m n:Nat}:(Nn m n).length=n:=by simp[Nn]
@[simp] theorem AdY {m n k:Nat} (h:k<n):(Nn m n)[k]? = some (.osl [5+k] (k+1) 1 0 m):=by simp[Nn,h]
@[simp] theorem Ae3 {m n k:Nat} (h:k<(Nn m n).length):(Nn m n)[k] = .osl [5+k] (k+1) 1 0 m:=by simp[Nn]
theorem jQ (m n:Nat):Nn m (n+1)=Nn m n++[.osl [5+n] (n+1) 1 0 m]:=by simp[Nn,List.range_succ]
noncomputable def vL (x:T) (b:List T) (q:Nat):Int:=(Ej x (b.getD q T0):Nat)
theorem tu (x:T) (b:List T):Fu (vL x b) b.length=(b.map fun y=>(Ej x y:Int)).map iv:=by
 rw[dP,List.length_map]
 refine HL fun q hq=>?_
 simp[vL,hq]
theorem yp {a b:List T} (ha:∀ t,t ∈ a→BB t) (hb:∀ t,t ∈ b→BB t) {i:Nat} (hi:i<a.length) (hal:a.length≤1000000) (hbl:b.length≤1000000) {most:Int} {H0:Hp} (h1:H0 [1]=⟨i+2,.arr 1 (Nn b.length (i+1))⟩)
  (hq:∀ (f':Nat→Int) (H':Hp) (st:List (Nat × A)),(∀ q,q<b.length→f' q=vL a[i] b q)→H' [5+i]=⟨i+1,.arr 1 (Fu f' b.length)⟩→(∀ o,o ≠ [5+i]→H' o=H0 o)→Q (.exit 2) ⟨lk ([(0,Ba a),(1,Ba b),(2,iv most),(7,.osl [1] (i+2) 1 0 (i+1)),(8,iv i)]++st),H'⟩) :
  ∀ (m j:Nat) (f:Nat→Int) (H:Hp),j+m=b.length→(∀ q,q<j→f q=vL a[i] b q)→(∀ o,o ≠ [5+i]→H o=H0 o)→H [5+i]=⟨i+1,.arr 1 (Fu f b.length)⟩ →
  LoopC (cx Tryz.prog w0 I0 n0) Ff Q ⟨lk [(0,Ba a),(1,Ba b),(2,iv most),(7,.osl [1] (i+2) 1 0 (i+1)),(8,iv i),(9,iv j)],H⟩:=by
 intro m
 induction m with
 |zero=>
  intro j f H hm hf hp h3
  refine Ad Ah Ff.eq_1 ?_
  have:j=b.length:=by omega
  subst this
  simp
  have:=hq f H [(9,iv b.length),(30,bv false)] hf h3 hp
  simpa using this
 |succ m ih=>
  intro j f H hm hf hp h3
  have g1:=hp [1] (by simp;omega)
  rw[h1] at g1
  have hj:j<b.length:=by omega
  have c2:(0:Int)≤(i:Int):=by omega
  have c3:(i:Int)<(i:Int)+1:=by omega
  have e3:IntKind.i64.wrap ((j:Int)+1)=((j+1:Nat):Int):=An
  have hS:=cj (ha _ (Bq hi)) (hb _ (Bq hj))
  have next:=ih (j+1)
  refine Ad Ah Ff.eq_1 ?_
  simp[hi,hj,g1,h3,c2,c3]
  refine Ae hS (by simp) ?_
  simp[g1,h3,hi,hj,c2,c3,e3]
  refine next (fun q=>if q=j then ((Ej a[i] b[j]:Nat):Int) else f q) _ (by omega) (fun q hq=>?_) (fun o ho=>by rw[AK ho];exact hp o ho) (by simp[Aa])
  by_cases e:q=j
  ·subst e;simp[vL,hj]
  ·rw[if_neg e];exact hf q (by omega)
theorem xV {a b:List T} (ha:∀ t,t ∈ a→BB t) (hb:∀ t,t ∈ b→BB t) (hal:a.length≤1000000) (hbl:b.length≤1000000) {most:Int}
  (hq:∀ (H:Hp) st,H [1]=⟨a.length+1,.arr 1 (Nn b.length a.length)⟩→(∀ k (hk:k<a.length),∃ f,(∀ q,q<b.length→f q=vL a[k] b q)∧H [5+k]=⟨k+1,.arr 1 (Fu f b.length)⟩)→(∀ p,H (2::p)=⟨0,.none⟩)→Q (.exit 0) ⟨lk ([(0,Ba a),(1,Ba b),(2,iv most),(7,.osl [1] (a.length+1) 1 0 a.length)]++st),H⟩):∀ (m i:Nat) (H:Hp),i+m=a.length→H [0]=⟨i,.none⟩→H [1]=⟨i+1,.arr 1 (Nn b.length i)⟩→(∀ k (hk:k<a.length),k<i→∃ f,(∀ q,q<b.length→f q=vL a[k] b q)∧H [5+k]=⟨k+1,.arr 1 (Fu f b.length)⟩)→(∀ k,i≤k→H [5+k]=⟨0,.none⟩)→(∀ p,H (2::p)=⟨0,.none⟩) →
  LoopC (cx Tryz.prog w0 I0 n0) E5 Q ⟨lk [(0,Ba a),(1,Ba b),(2,iv most),(7,.osl [1] (i+1) 1 0 i),(8,iv i)],H⟩:=by
 intro m
 induction m with
 |zero=>
  intro i H hm h0 h1 hk hf h2
  refine Ad Ah E5.eq_1 ?_
  have:i=a.length:=by omega
  subst this
  simp
  have:=hq H [(8,iv a.length),(18,bv false)] h1 (fun k hk'=>hk k hk' hk') h2
  simpa using this
 |succ m ih=>
  intro i H hm h0 h1 hk hf h2
  have hi:i<a.length:=by omega
  have e2:IntKind.i64.wrap ((i:Int)+1)=((i+1:Nat):Int):=An
  refine Ad Ah E5.eq_1 ?_
  simp[hi,h0,h1,Aa]
  refine⟨by omega,by omega,?_⟩
  have hfi:=hf i (BW _)
  refine LoopC.le (cG (d:=[0]) (d':=[5+i]) (e:=[1]) (u:=i+1) (ue:=i+1+1) (sz:=1) (z:=1) (off:=0) (len:=b.length) (xs:=List.take i (Nn b.length i)) (fun _ h=>h) (by simp;omega) (by simp) (by simp;omega) (by simp[Aa,hfi,show ¬ 5+i=1 by omega,show ¬ 5+i=3 by omega,show ¬ 5+i=0 by omega]) (by simp[Aa]) rfl (by simp[Aa])) ?_
  rw[AI (by simp),← jQ]
  generalize hG:(Ay _ [1] _:Hp)=G
  have f0:G [0]=⟨i+1,.none⟩:=by rw[← hG];simp[Aa]
  have f1:G [1]=⟨i+1+1,.arr 1 (Nn b.length (i+1))⟩:=by rw[← hG];simp[Aa]
  have f5:G [5+i]=⟨i+1,.arr 1 (Fu (fun _=>0) b.length)⟩:=by
   rw[← hG,← Od]
   simp[Aa,show ¬ 5+i=1 by omega,show ¬ 5+i=0 by omega]
  have fo:∀ k,k ≠ i→G [5+k]=H [5+k]:=fun k hne=>by
   rw[← hG]
   simp[Aa,show ¬ 5+k=1 by omega,show ¬ 5+k=3 by omega,show ¬ 5+k=0 by omega,hne]
  have fp:∀ p,G (2::p)=⟨0,.none⟩:=fun p=>by
   rw[← hG,← h2 p]
   simp[Aa,show ¬ 2=5+i by omega]
  clear hG
  refine LoopC.le (Ao [(0,Ba a),(1,Ba b),(2,iv most),(7,.osl [1] (i+2) 1 0 (i+1)),(8,iv i),(9,iv (0:Nat))] (by simp)) ?_
  refine yp ha hb hi hal hbl (H0:=G) f1 (fun f2 G' st g1 g2 g3=>?_) b.length 0 (fun _=>0) G (by omega) (fun q hq=>by omega) (fun o _=>rfl) f5
  simp[e2]
  refine ih (i+1) G' (by omega) (by rw[g3 _ (by simp;omega),f0]) (by rw[g3 _ (by simp;omega),f1]) (fun k hk' hki=>?_) (fun k hki=>?_) (fun p=>by rw[g3 _ (by simp;omega),fp])
  ·by_cases e:k=i
   ·subst e;exact⟨f2,g1,g2⟩
   ·obtain⟨f',k1,k2⟩:=hk k hk' (by omega)
    exact⟨f',k1,by rw[g3 _ (by simp;omega),fo k e,k2]⟩
  ·rw[g3 _ (by simp;omega),fo k (by omega),hf k (by omega)]
theorem YZ {one:T→T→E} {a b:List T} (ha:∀ t,t ∈ a→BB t) (hb:∀ t,t ∈ b→BB t) (hal:a.length≤1000000) (hbl:b.length≤1000000) {most:Int} (hone:∀ x,x ∈ a→∀ y,y ∈ b→G.Spec Tryz.prog 53 [tX x,tX y,iv most] (eX (one x y))) :
  G.Spec Tryz.prog 167 [Ba a,Ba b,iv most] (Lz (DM one a b)):=by
 obtain⟨hpk,hp16⟩:=Zw (Km a b)
 have hPl:(Xy (Km a b)).length≤16:=by
  have:=(J1 (GF hpk).1).2.length_eq
  unfold Xy
  omega
 have hPick:=rq (Km a b) (by simp[Km];omega) (fun r hr=>by
  obtain⟨x,_,rfl⟩:=List.mem_map.1 hr
  simp;omega) hpk hp16
 refine Aj TA (by simp) fun w0 I0=>?_
 unfold LZ
 simp
 refine LoopC.le (BX 7 [1] 1 (by simp)) ?_
 refine LoopC.le (Ao [(0,Ba a),(1,Ba b),(2,iv most),(7,.osl [1] (0+1) 1 0 0),(8,iv (0:Nat))] (by simp[upd])) ?_
 refine xV ha hb hal hbl (fun H' st h1 hk h2=>?_) a.length 0 _ (by omega) (by simp[Aa]) (by simp[Aa,Nn]) (fun k _ h=>by omega) (fun k _=>by simp[Aa,show ¬ 5+k=1 by omega]) (fun p=>by simp[Aa])
 simp
 obtain⟨H2,k1,k2⟩:=Qf (c:=cx Tryz.prog w0 I0 120) (s:=lk [(0,Ba a),(1,Ba b),(2,iv most),(7,.osl [1] (a.length+1) 1 0 a.length)]) (H:=H') (fun r=>r=1∨5≤r) (fun r p b hr h=>h) 7 (Lr (Km a b)) (fun H1 e1=>by
  have e2:H1 [1]=H' [1]:=e1 1 [] (.inl rfl)
  simp
  refine JG (o:=[1]) (u:=a.length+1) (off:=0) (len:=a.length) (sz:=1) (xs:=Nn b.length a.length) (ys:=(Km a b).map Y9) (by simp[e2,h1]) (by simp) (by simp[Km]) (by simp) ?_ ?_
  ·rw[Gz (fun x=>rfl)]
   simp[A.ones]
  ·rw[List.drop_zero,AI (by simp)]
   have er:(Km a b).map Y9=(List.range a.length).map fun k=>.sl false (Fu (vL (a.getD k T0) b) b.length):=by
    refine List.ext_getElem (by simp[Km]) fun n n1 n2=>?_
    have hn:n<a.length:=by simpa[Km] using n1
    simp[Km,tu,hn]
   rw[er]
   unfold Nn
   rw[Gz (fun x=>rfl),Gz (fun x=>rfl)]
   refine Tt _ fun k hk0=>?_
   have hk1:k<a.length:=by simpa using hk0
   obtain⟨f,g1,g2⟩:=hk k hk1
   have ek:a.getD k T0=a[k]:=by simp[hk1]
   rw[ek,← HL g1]
   exact OH (by rw[e1 (5+k) [] (.inr (by omega))];exact g2))
 refine CJ k1 ?_
 refine CJ (Ao [(0,Ba a),(1,Ba b),(2,iv most),(7,Lr (Km a b))] (by simp[upd])) (Ep ?_)
 have hz:∀ p,H2 (2::p)=⟨0,.none⟩:=fun p=>(k2 2 p (by omega)).trans (h2 p)
 simp
 refine Ae hPick (by simp) ?_
 simp
 refine LoopC.le (BX 11 [2] 14 (by simp)) ?_
 refine LoopC.le (Ao [(0,Ba a),(1,Ba b),(2,iv most),(10,UF (Xy (Km a b))),(11,.osl [2] 1 14 0 ([]:List IT).length),(12,iv (0:Nat)),(13,iv (0:Nat)),(14,iv (0:Nat))] (by simp[upd,Aa,hz,Xy])) ?_
 refine yX (one:=one) (a:=a) (b:=b) hal hbl hone (P:=Xy (Km a b)) (by omega) (R:=DM one a b) (fun H3 its v i j hv hi hj hl hR k5=>?_) _ 0 0 0 1 [] _ (Nat.zero_add _) (BW _) (Wk a b) (by simp) rfl (fun p=>?_)
 ·have F1:=JZ its v hv (by omega) (k:=1) (.inl rfl) ((a.drop i).take (a.length-i))
  have d1:=Sy 1 ((a.drop i).take (a.length-i))
  have d2:=Sy 2 ((b.drop j).take (b.length-j))
  have o1:=jD ((a.drop i).take (a.length-i))
  have o2:=Zd ((b.drop j).take (b.length-j))
  have ea:(a.drop i).take (a.length-i)=a.drop i:=AI (by simp)
  have eb:(b.drop j).take (b.length-j)=b.drop j:=AI (by simp)
  have hR2:DM one a b=its.map IT.op++CS ((a.drop i).take (a.length-i))++CY ((b.drop j).take (b.length-j)):=by rw[ea,eb,hR,Kq]
  clear ea eb
  rw[hR2,← o1,← o2]
  have F2:=JZ (its++Xq 1 ((a.drop i).take (a.length-i))) (v+(Xq 1 ((a.drop i).take (a.length-i))).length) (by omega) (by simp;omega) (k:=2) (.inr rfl) ((b.drop j).take (b.length-j))
  clear hR2 o1 o2
  simp[hi,hj]
  simp only[← List.map_drop,← List.map_take]
  refine Au 2 F1 k5 (by simp) (by simp) ?_
  clear F1
  generalize Xq 1 ((a.drop i).take (a.length-i))=D at *
  generalize hI:Xq 2 ((b.drop j).take (b.length-j))=I at *
  simp only[List.length_append] at F2 ⊢
  simp[hi,hj]
  simp only[← List.map_drop,← List.map_take]
  refine Au 2 F2 (fun p=>by simp) (by simp) (by simp) ?_
  simp
  have hf:∀ H:Hp,H [2]=⟨v+D.length+I.length,.arr 14 ((its++D++I).map Mz)⟩→Jd H (.osl [2] (v+D.length+I.length) 14 0 (its.length+D.length+I.length)) (Lz (its.map IT.op++(D.map IT.op++I.map IT.op))):=fun H hH=>by
   have:=Sw hH (n:=its.length+D.length+I.length) (by simp;omega)
   simpa using this
  simpa[Nat.add_assoc] using hf _ (by simp[Nat.add_assoc])
 ·by_cases hp:p=[]
  ·subst hp;simp[Aa,hz]
  ·simp[Aa,hp,hz]
theorem Td (l:List Nat):(np l).map iv=l.map nv:=by
 simp[np]
theorem NH {us:List Nat} (h:∀ x,x ∈ us→x≤2):∀ s,s ∈ HK us→s.k≤2∧1≤s.n:=ZM us 0 0 0 h
theorem HH:∀ (l:List Sp),(∀ s,s ∈ l→s.k≤2∧1≤s.n)→l.length≤dA (AJ l)+dB (AJ l)
 |[],_=>by simp
 |s::l,h=>by
  have ih:=HH l fun x hx=>h x (by simp[hx])
  have hs:=h s (by simp)
  rw[Aw,Dl,Dk,DN,DL,List.length_cons]
  split<;>split<;>omega
theorem i7 (a b:List T) (h:a=[]∨b=[]):Xy (Km a b)=[]:=by
 have hP:=Wk a b
 cases hp:Xy (Km a b) with
 |nil=>rfl
 |cons x P=>
  rw[hp] at hP
  have h1:=hP.2.2.1
  have h2:=hP.2.2.2.1
  rcases h with rfl | rfl<;>simp at h1 h2
theorem WA (one:T→T→E) (b:List T):DM one [] b=CY b:=by
 unfold DM
 rw[i7 _ _ (.inl rfl),Kq]
 simp[CS]
theorem Tv (one:T→T→E) (a:List T):DM one a []=CS a:=by
 unfold DM
 rw[i7 _ _ (.inr rfl),Kq]
 simp[CY]
theorem bR (one:T→T→E) (a b:List T):Cv (DM one) (HK (AJ [⟨1,a.length⟩,⟨2,b.length⟩])) a b []=DM one a b:=by
 have e:HK (AJ [⟨1,a.length⟩,⟨2,b.length⟩])=fl 1 a.length++fl 2 b.length:=by
  unfold HK
  rw[Aw,Aw,Ed]
  by_cases h1:a.length=0
  ·by_cases h2:b.length=0
   ·simp[h1,h2,Q2]
   ·rw[h1]
    simp only[List.replicate_zero,List.nil_append]
    rw[RM b.length [] 0 0 0 (by omega)]
    simp[Q2]
  ·rw[Vn a.length _ 0 0 0 (by omega)]
   by_cases h2:b.length=0
   ·simp[h2,Q2]
   ·rw[RM b.length [] 0 _ 0 (by omega)]
    simp[Q2]
 rw[e]
 by_cases h1:a.length=0
 ·have h1':a=[]:=by simpa using h1
  subst h1'
  by_cases h2:b.length=0
  ·have h2':b=[]:=by simpa using h2
   subst h2'
   simp[Cv,WA,CY]
  ·rw[Ld (k:=2) (n:=b.length) (by omega)]
   simp[Cv,WA]
 ·rw[Ld (k:=1) (n:=a.length) (by omega)]
  by_cases h2:b.length=0
  ·have h2':b=[]:=by simpa using h2
   subst h2'
   simp[Cv,Tv]
  ·rw[Ld (k:=2) (n:=b.length) (by omega)]
   simp[Cv]
theorem au {one:T→T→E} {a b:T} (ha:BB a) (hb:BB b) (hna:∀ t,t ∈ a.kids→Ai t=t) (hnb:∀ t,t ∈ b.kids→Ai t=t) (hal:a.kids.length≤30000) (hbl:b.kids.length≤30000) {most:Int} (hm:BQ most) (hone:∀ x,x ∈ a.kids→∀ y,y ∈ b.kids→G.Spec Tryz.prog 30 [tX x,tX y,iv most] (eX (one x y))) :
  G.Spec Tryz.prog 62 [tX a,tX b,iv most] (eX (IQ one most a b)):=by
 have hka:=(wfT_iff.1 ha).ks
 have hkb:=(wfT_iff.1 hb).ks
 have C1:=V2 (ks:=[]) (ts:=a.kids) (by simp) (by simp) hka hna (by simp;omega) 1
 have hl1:=NX a.kids []
 simp at hl1
 have C2:=V2 (ks:=(Bf [] a.kids).1) (ts:=b.kids) (RR (l:=a.kids) (by simp) hka) (V5 (l:=a.kids) (by simp)) hkb hnb (by omega) (WQ 1 [] a.kids)
 have e1:(Lw a).length=a.kids.length:=by simp[Lw,np,Bl]
 have e2:(Lv a b).length=b.kids.length:=by simp[Lv,np,Bl]
 have hD:=W7 (a:=Lw a) (b:=Lv a b) (by omega) (by omega) hm
 have z1:(Lw a).map iv=(Bf [] a.kids).2.map nv:=Td _
 have z2:(Lv a b).map iv=(Bf (Bf [] a.kids).1 b.kids).2.map nv:=Td _
 simp only[B5,z1,z2] at hD
 have key:∀ (w0:World) (I0:Nat→Prop) (S:List Sp) (H:Hp),S.length≤10000000→(∀ s,s ∈ S→s.k≤2)→dA (AJ S)≤a.kids.length→dB (AJ S)≤b.kids.length→H [0]=⟨1,.cells (tL a)⟩→H [1]=⟨1,.cells (tL b)⟩→H [2]=⟨1,.cells Bk⟩ →
   WPC (cx Tryz.prog w0 I0 47) MD (RY Tryz.prog [ResultVar.cell 6 33] (eX (.mk 3 T0 T0 [] [] a.kind (Cv (DM one) S a.kids b.kids [])))) ⟨lk [(2,iv most),(3,.pob [0] 1 0),(4,.pob [1] 1 0),(6,.pob [2] 1 0),(9,Nj S)],H⟩:=by
  intro w0 I0 S H s1 s2 s3 s4 h0 h1 h2
  have O:=cV hka hkb (by omega) (by omega) hone s1 s2 s3 s4
  rw[MD.eq_1]
  simp[h0,h1]
  refine Ae O (by simp) ?_
  simp[h0,h2,Aa,Bk]
  exact BG ⟨Ab rfl,Ab rfl,Al,Al,Ab rfl,Al,Al,Al,Al,Ab rfl,Al,trivial⟩
 have wd:=WO (Lw a) (Lv a b)
 have wi:=Sa (Lw a) (Lv a b)
 have wn:=P6 _ wi
 refine Aj bd (by simp) fun w0 I0=>?_
 unfold T9
 simp
 refine CJ (Bd (d:=[3]) (u:=1) (cs:=[.sl true []]) 0 [3,0] 3 (by simp[Aa]) rfl (by simp)) (Ep ?_)
 simp
 refine Au 3 C1 (fun p=>?_) (by simp) (by simp) ?_
 ·by_cases h1:p=[]
  ·subst h1;simp[Aa]
  ·by_cases h2:p=[0]
   ·subst h2;simp[Aa]
   ·simp[h1,h2,Ne.symm h1,Ne.symm h2,Aa]
 ·simp
  refine Au 3 C2 (fun p=>by simp) (by simp) (by simp) ?_
  simp
  refine Ae hD (by simp) ?_
  by_cases hd:(BN (Lw a) (Lv a b):Int)≤most
  ·have hL:IQ one most a b = .mk 3 T0 T0 [] [] a.kind (Cv (DM one) (HK (Gg (Lw a) (Lv a b))) a.kids b.kids []):=by unfold IQ;rw[if_pos hd]
   rw[hL]
   simp[hd]
   refine key _ _ _ _ ?_ (fun s hs=>(NH wi s hs).1) (by omega) (by omega) (by simp) (by simp) (by simp[Bk])
   have:=HH _ (NH wi)
   omega
  ·have hL:IQ one most a b = .mk 3 T0 T0 [] [] a.kind (Cv (DM one) (HK (AJ [⟨1,a.kids.length⟩,⟨2,b.kids.length⟩])) a.kids b.kids []):=by unfold IQ;rw[if_neg hd,bR]
   have N:=X9 (all:=[⟨1,a.kids.length⟩,⟨2,b.kids.length⟩]) (fun s hs=>by
    simp at hs
    rcases hs with rfl | rfl
    ·exact⟨by simp,by simp;omega⟩
    ·exact⟨by simp,by simp;omega⟩) (by simp)
   have ui:∀ x,x ∈ AJ [⟨1,a.kids.length⟩,⟨2,b.kids.length⟩]→x≤2:=fun x hx=>by
    rw[Aw,Aw,Ed,List.append_nil] at hx
    rcases List.mem_append.1 hx with h | h<;>(have h':=List.eq_of_mem_replicate h;simp at h';omega)
   have ud:=P6 _ ui
   have ua:dA (AJ [⟨1,a.kids.length⟩,⟨2,b.kids.length⟩])=a.kids.length:=by
    rw[Aw,Aw,Ed,Dl,Dl,DN,DN];simp[dA]
   have ub:dB (AJ [⟨1,a.kids.length⟩,⟨2,b.kids.length⟩])=b.kids.length:=by
    rw[Aw,Aw,Ed,Dk,Dk,DL,DL];simp[dB]
   have ul:=HH _ (NH ui)
   have N2:G.Spec Tryz.prog 120 [.sl true [.agg [iv 1,iv a.kids.length],.agg [iv 2,iv b.kids.length]]] (Nj (HK (AJ [⟨1,a.kids.length⟩,⟨2,b.kids.length⟩]))):=N.soft (by simp[A.softL,A.soft,C0,GA])
   clear N
   rw[hL]
   clear hL
   generalize AJ [⟨1,a.kids.length⟩,⟨2,b.kids.length⟩]=us at *
   simp[hd]
   refine Ae N2 (by simp) ?_
   simp
   refine key _ _ _ _ (by omega) (fun s hs=>(NH ui s hs).1) (by omega) (by omega) (by simp) (by simp) (by simp[Bk])
theorem dC:newTb.Ok:=⟨by decide,by decide,by decide,by simpa[newTb] using Pl.nil 8,fun c hc=>by simp[newTb] at hc,by simp[newTb]⟩
theorem Y5 {H:Hp} {o:Nm} {u:Nat} {l:List Nat} {n:Nat} (h:vr (H o) u=some (1,l.map nv)) (hn:n=l.length):Jd H (.osl o u 1 0 n) (.sl false (l.map nv)):=Bb (f:=nv) h hn fun x=>by simp
theorem qN {c:Cx} {s:Nat→A} {H:Hp} (t:Nat):Le c ⟨s,H⟩ ⟨upd s t (A.soft (s t)),H⟩:=fun a w I μ hs=>
 ⟨I,μ,hs.sim,hs.size,hs.defers,fun k=>by
  show Rel w I μ (upd s t (A.soft (s t)) k) _
  unfold upd
  split
  ·rename_i e
   subst e
   exact(hs.rel _).soft
  ·exact hs.rel k⟩
theorem dk {l:List (List Int)} (hs:Sg l) {r:Rf}:∀ (ts:List T) (S:Tb) (i:Nat),S.Ok→(∀ (j:Nat) (h:j<ts.length),AG l (Cj l r ((i+j:Nat):Int)).1 ts[j])→(DV l r S i ts).Ok
 |[],S,i,h,_=>h
 |t::ts,S,i,h,hm=>by
  rw[DV]
  refine dk hs ts _ (i+1) (jA h hs (by have:=hm 0 (by simp);exact this)) fun j hj=>?_
  have:=hm (j+1) (by simpa using hj)
  rwa [show i+(j+1)=i+1+j from by omega] at this
section
variable {n0:Nat} {w0:World} {I0:Nat→Prop}
end
abbrev yW (l:Int) (v n:Nat):List A:=[iv 3,iv 0,.sl true [],.sl true [],iv 0,.sl true [],.sl true [],.sl true [],.sl true [],iv l,.osl [4] v 14 0 n]
theorem rl {one:T→T→E} {a b:T} (ha:∀ t,t ∈ a.kids→BB t) (hb:∀ t,t ∈ b.kids→BB t) (hal:a.kids.length≤1000000) (hbl:b.kids.length≤1000000) {most:Int} (hone:∀ x,x ∈ a.kids→∀ y,y ∈ b.kids→G.Spec Tryz.prog 53 [tX x,tX y,iv most] (eX (one x y))) {S:List Sp} (hS:S.length≤10000) (hS2:∀ s,s ∈ S→s.k≤2) {R:List OP}
  (hq:∀ (H':Hp) (its:List IT) (v:Nat) (st:List (Nat × A)),its.map IT.op=R→H' [2]=⟨1,.cells Bk⟩→H' [3]=⟨1,.cells (yW a.kind v its.length)⟩→H' [4]=⟨v,.arr 14 (its.map Mz)⟩→Q (.exit 0) ⟨lk ([(2,iv most),(3,.pob [0] 1 0),(4,.pob [1] 1 0),(6,.pob [2] 1 0),(11,Nj S),(13,.pob [3] 1 0)]++st),H'⟩) :
  ∀ (m k i j v:Nat) (its:List IT) (H:Hp),k+m=S.length→1≤v→i+dA (AJ (S.drop k))≤a.kids.length→j+dB (AJ (S.drop k))≤b.kids.length→its.length≤50*k→R=Cv (DM one) (S.drop k) (a.kids.drop i) (b.kids.drop j) (its.map IT.op)→H [0]=⟨1,.cells (tL a)⟩→H [1]=⟨1,.cells (tL b)⟩→H [2]=⟨1,.cells Bk⟩→H [3]=⟨1,.cells (yW a.kind v its.length)⟩→(∀ p,H (4::p)=(itM v its).F 4 p) →
  LoopC (cx Tryz.prog w0 I0 n0) A5 Q ⟨lk [(2,iv most),(3,.pob [0] 1 0),(4,.pob [1] 1 0),(6,.pob [2] 1 0),(11,Nj S),(13,.pob [3] 1 0),(14,iv i),(15,iv j),(16,iv k)],H⟩:=by
 intro m
 induction m using Nat.strongRecOn with
 |_ m ih=>
 intro k i j v its H hm hv hA hB hl hR h0 h1 h2 h3 h4
 have h4':=h4 []
 simp at h4'
 cases m with
 |zero=>
  have:k=S.length:=by omega
  subst this
  rw[List.drop_length] at hR
  refine Ad Ah A5.eq_1 ?_
  simp
  have:=hq H its v [(14,iv i),(15,iv j),(16,iv S.length),(57,bv false)] hR.symm h2 h3 h4'
  simpa using this
 |succ m=>
  have hlt:k<S.length:=by omega
  have ew:IntKind.i64.wrap ((k:Int)+1)=((k+1:Nat):Int):=An
  have hd:S.drop k=S[k]::S.drop (k+1):=(List.getElem_cons_drop hlt).symm
  have hk:=hS2 _ (Bq hlt)
  rw[hd] at hR hA hB
  rw[Aw,Dl,DN] at hA
  rw[Aw,Dk,DL] at hB
  generalize hs:S[k]=s at *
  have hk3:s.k=0∨s.k=1∨s.k=2:=by omega
  have ewi:i+s.n≤a.kids.length→IntKind.i64.wrap ((i:Int)+s.n)=((i+s.n:Nat):Int):=fun h=>by rw[Af (by omega) (by omega)];omega
  have ewj:j+s.n≤b.kids.length→IntKind.i64.wrap ((j:Int)+s.n)=((j+s.n:Nat):Int):=fun h=>by rw[Af (by omega) (by omega)];omega
  have sl:∀ {p n q:Nat},p+n≤q→(0:Int)≤(p:Int)+n∧(p:Int)+n≤(q:Int)∧((p:Int)+n).toNat=p+n∧(p:Int)≤(p:Int)+n:=fun h=>⟨by omega,by omega,by omega,by omega⟩
  rcases hk3 with h | h | h
  ·rw[TD h,List.drop_drop,List.drop_drop] at hR
   rw[if_neg (by omega)] at hA hB
   have wi:=ewi (by omega)
   have wj:=ewj (by omega)
   have nx:=ih m (by omega) (k+1) (i+s.n) (j+s.n) (v+1) (its++[IT.r (RI.keep (s.n:Int))])
   simp only[List.length_append,List.length_cons,List.length_nil] at nx
   refine Ad Ah A5.eq_1 ?_
   simp[hlt,hs,C0,GA,h,h3,h4',Cf,ew,wi,wj,Aa]
   refine⟨by omega,?_⟩
   refine nx _ (by omega) (by omega) (by omega) (by omega) (by omega) (by rw[hR];simp[IT.op,RI.op]) (by simp[Aa,h0]) (by simp[Aa,h1]) (by simp[Aa,h2,Bk]) (by simp[Aa]) (fun p=>?_)
   by_cases hp:p=[]
   ·subst hp;rw[AI (by simp)];simp[Aa,Mz,X8,QE,Bk]
   ·simp[Aa,hp,h4]
  ·rw[h] at hA hB
   simp at hA hB
   have wi:=ewi (by omega)
   by_cases hg2:∃ h3:k+1<S.length,S[k+1].k=2
   ·obtain⟨h5,h6⟩:=hg2
    have hd2:S.drop (k+1)=S[k+1]::S.drop (k+1+1):=(List.getElem_cons_drop h5).symm
    rw[hd2] at hR hA hB
    rw[Aw,Dl,DN] at hA
    rw[Aw,Dk,DL] at hB
    generalize hs2:S[k+1]=s2 at *
    rw[SP h h6,List.drop_drop,List.drop_drop] at hR
    rw[h6] at hA hB
    simp at hA hB
    have ew2:IntKind.i64.wrap ((k:Int)+1+1)=((k+1+1:Nat):Int):=An
    have wj2:IntKind.i64.wrap ((j:Int)+s2.n)=((j+s2.n:Nat):Int):=An
    have G:=YZ (one:=one) (a:=(a.kids.drop i).take s.n) (b:=(b.kids.drop j).take s2.n) (fun t ht=>ha t (Q3 (O5 ht))) (fun t ht=>hb t (Q3 (O5 ht))) (by simp;omega) (by simp;omega) (most:=most) (fun p hp q hq=>hone p (Q3 (O5 hp)) q (Q3 (O5 hq)))
    have gl:=NB one ((a.kids.drop i).take s.n) ((b.kids.drop j).take s2.n)
    have i1:(k:Int)+1<S.length:=by omega
    have i2:(0:Int)≤(k:Int)+1:=by omega
    have i3:((k:Int)+1).toNat=k+1:=by omega
    have i4:IntKind.i64.wrap ((k:Int)+1)=(k:Int)+1:=by rw[ew];omega
    have c1:i+s.n≤a.kids.length:=by omega
    have c2:j+s2.n≤b.kids.length:=by omega
    obtain⟨p1,p2,p3,p4⟩:=sl c1
    obtain⟨q1,q2,q3,q4⟩:=sl c2
    generalize DM one ((a.kids.drop i).take s.n) ((b.kids.drop j).take s2.n)=I at *
    have nx:=fun H'=>ih (m-1) (by omega) (k+1+1) (i+s.n) (j+s2.n) (v+1) (its++I.map IT.got) H' (by omega)
    simp only[List.length_append,List.length_map] at nx
    refine Ad Ah A5.eq_1 ?_
    simp[hlt,hs,C0,GA,h,i4,h5,hs2,h6,i1,i2,i3]
    rw[D3.eq_1]
    simp[h0,h1,h3,wi,wj2,c1,c2,p1,p2,p3,p4,q1,q2,q3,q4]
    simp only[← List.map_drop,← List.map_take]
    refine Ae G (by simp) ?_
    simp[h3,h4',Cf,wi,wj2,Aa,ew2]
    refine⟨by omega,?_⟩
    refine nx _ (by omega) (by omega) (by omega) (by omega) (by rw[hR,List.map_append,RP]) (by simp[Aa,h0]) (by simp[Aa,h1]) (by simp[Aa,h2,Bk]) (by simp[Aa]) (fun p=>?_)
    by_cases hp:p=[]
    ·subst hp;rw[AI (by simp),Qs];simp[Aa]
    ·simp[Aa,hp,h4]
   ·have hnd:∀ s2 r,S.drop (k+1)=s2::r→s2.k ≠ 2:=fun s2 r e h4=>by
     have h3:k+1<S.length:=by
      have:=congrArg List.length e
      simp at this
      omega
     refine hg2 ⟨h3,?_⟩
     have:S.drop (k+1)=S[k+1]::S.drop (k+1+1):=(List.getElem_cons_drop h3).symm
     rw[this] at e
     cases e
     exact h4
    rw[VB h hnd,List.drop_drop] at hR
    have G:=YZ (one:=one) (a:=(a.kids.drop i).take s.n) (b:=[]) (fun t ht=>ha t (Q3 (O5 ht))) (fun t ht=>by simp at ht) (by simp;omega) (by simp) (most:=most) (fun p hp q hq=>by simp at hq)
    rw[Tv] at G
    have c1:i+s.n≤a.kids.length:=by omega
    have c2:j≤b.kids.length:=by omega
    obtain⟨p1,p2,p3,p4⟩:=sl c1
    have wj0:IntKind.i64.wrap (j:Int)=j:=Af (by omega) (by omega)
    have gl:(CS ((a.kids.drop i).take s.n)).length≤1:=by unfold CS;split<;>simp
    generalize CS ((a.kids.drop i).take s.n)=I at *
    have nx:=fun H'=>ih m (by omega) (k+1) (i+s.n) j (v+1) (its++I.map IT.got) H' (by omega)
    simp only[List.length_append,List.length_map] at nx
    have i4:IntKind.i64.wrap ((k:Int)+1)=(k:Int)+1:=by rw[ew];omega
    have key:WPC (cx Tryz.prog w0 I0 n0) D3 (Bu 2 (Bu 1 (DB (WPC (cx Tryz.prog w0 I0 n0) (.keep [2,3,4,6,11,13,14,15,16] (.reg [co (some 58) (.move (.tmp 16)) none,co (some 59) (.binOp .add 3 (.tmp 58) (.const (.int .i64 1)) 3) none,co (some 16) (.assign (.tmp 59)) none] [2,3,4,6,11,13,14,15,16]))
      (DB (LoopC (cx Tryz.prog w0 I0 n0) A5 Q) Q)) (DB (LoopC (cx Tryz.prog w0 I0 n0) A5 Q) Q)))) ⟨lk [(2,iv most),(3,.pob [0] 1 0),(4,.pob [1] 1 0),(6,.pob [2] 1 0),(11,Nj S),(13,.pob [3] 1 0),(14,iv i),(15,iv j),(16,iv k),(17,iv s.n),(18,iv 0)],H⟩:=by
     rw[D3.eq_1]
     simp[h0,h1,h3,wi,wj0,c1,c2,p1,p2,p3,p4]
     simp only[← List.map_drop,← List.map_take]
     refine Ae G (by simp) ?_
     simp[h3,h4',Cf,wi,wj0,Aa,ew]
     refine⟨by omega,?_⟩
     refine nx _ (by omega) (by omega) (by omega) (by omega) (by rw[hR,List.map_append,RP]) (by simp[Aa,h0]) (by simp[Aa,h1]) (by simp[Aa,h2,Bk]) (by simp[Aa]) (fun p=>?_)
     by_cases hp:p=[]
     ·subst hp;rw[AI (by simp),Qs];simp[Aa]
     ·simp[Aa,hp,h4]
    refine Ad Ah A5.eq_1 ?_
    by_cases h5:k+1<S.length
    ·have h6:¬ S[k+1].k=2:=fun e=>hg2 ⟨h5,e⟩
     have i1:(k:Int)+1<S.length:=by omega
     have i2:(0:Int)≤(k:Int)+1:=by omega
     have i3:((k:Int)+1).toNat=k+1:=by omega
     have h6':¬ ((S[k+1].k:Nat):Int)=2:=by omega
     simp[hlt,hs,C0,GA,h,i4,h5,h6,h6',i1,i2,i3]
     simpa using key
    ·have i1:¬ (k:Int)+1<S.length:=by omega
     simp[hlt,hs,C0,GA,h,i4,h5,i1]
     simpa using key
  ·rw[VZ h,List.drop_drop] at hR
   rw[h] at hA hB
   simp at hA hB
   have wj:=ewj (by omega)
   have c2:j+s.n≤b.kids.length:=by omega
   obtain⟨q1,q2,q3,q4⟩:=sl c2
   have F2:=JZ its v hv (by omega) (k:=2) (.inr rfl) ((b.kids.drop j).take s.n)
   have d2:=Sy 2 ((b.kids.drop j).take s.n)
   have o2:=Zd ((b.kids.drop j).take s.n)
   rw[← o2] at hR
   clear o2
   generalize Xq 2 ((b.kids.drop j).take s.n)=I at *
   simp only[List.length_append] at F2
   have nx:=fun H'=>ih m (by omega) (k+1) i (j+s.n) (v+I.length) (its++I) H' (by omega)
   simp only[List.length_append] at nx
   refine Ad Ah A5.eq_1 ?_
   simp[hlt,hs,C0,GA,h,h1,h3,wj,c2,q1,q2,q3,q4]
   simp only[← List.map_drop,← List.map_take]
   refine Au 4 F2 h4 (by simp) (by simp) ?_
   simp[h1,h3,wj,ew,Aa]
   refine nx _ (by omega) (by omega) (by omega) (by omega) (by rw[hR];simp) (by simp[Aa,h0]) (by simp[Aa,h1]) (by simp[Aa,h2,Bk]) (by simp[Aa]) (fun p=>?_)
   simp[Aa]
theorem Z1 {one:T→T→E} {a b:T} (ha:BB a) (hb:BB b) (hal:a.kids.length≤1000) (hbl:b.kids.length≤1000) {most:Int} (hm:BQ most) (hone:∀ x,x ∈ a.kids→∀ y,y ∈ b.kids→G.Spec Tryz.prog 53 [tX x,tX y,iv most] (eX (one x y))) :
  G.Spec Tryz.prog 103 [tX a,tX b,iv most] (eX (IQ one most a b)):=by
 have hka:=(wfT_iff.1 ha).ks
 have hkb:=(wfT_iff.1 hb).ks
 have C1:=PR (ks:=[]) (ts:=a.kids) (by simp) hka (by simp;omega) 1
 have hl1:=NX a.kids []
 simp at hl1
 have C2:=PR (ks:=(Bf [] a.kids).1) (ts:=b.kids) (RR (l:=a.kids) (by simp) hka) hkb (by omega) (KC 1 [] a.kids)
 have e1:(Lw a).length=a.kids.length:=by simp[Lw,np,Bl]
 have e2:(Lv a b).length=b.kids.length:=by simp[Lv,np,Bl]
 have hD:=ie (a:=Lw a) (b:=Lv a b) (by omega) (by omega) hm
 have z1:(Lw a).map iv=(Bf [] a.kids).2.map nv:=Td _
 have z2:(Lv a b).map iv=(Bf (Bf [] a.kids).1 b.kids).2.map nv:=Td _
 simp only[B5,z1,z2] at hD
 have key:∀ (w0:World) (I0:Nat→Prop) (S:List Sp) (L:A) (H:Hp),(L=Nj S∨A.soft L=Nj S)→S.length≤10000→(∀ s,s ∈ S→s.k≤2)→dA (AJ S)≤a.kids.length→dB (AJ S)≤b.kids.length→H [0]=⟨1,.cells (tL a)⟩→H [1]=⟨1,.cells (tL b)⟩→H [2]=⟨1,.cells Bk⟩→(H [3]).u=0→(∀ p,H (4::p)=⟨0,.none⟩) →
   WPC (cx Tryz.prog w0 I0 150) F8 (RY Tryz.prog [ResultVar.cell 6 33] (eX (.mk 3 T0 T0 [] [] a.kind (Cv (DM one) S a.kids b.kids [])))) ⟨lk [(2,iv most),(3,.pob [0] 1 0),(4,.pob [1] 1 0),(6,.pob [2] 1 0),(11,L)],H⟩:=by
  intro w0 I0 S L H hL s1 s2 s3 s4 h0 h1 h2 h3 h4
  rw[F8.eq_1]
  simp[h0,h1,h3,Aa]
  refine LoopC.le (Bd (d:=[3]) (u:=1) 10 [4] 14 (by simp[Aa,h3];rfl) rfl (by simp)) ?_
  simp[Aa,h3,h4]
  have soft:LoopC (cx Tryz.prog w0 I0 150) A5 (Bu 0 (DB (WPC (cx Tryz.prog w0 I0 150) (CC.keep [6,13] ((CC.reg [co (some 149) (Op.load 33 (Operand.tmp 13)) none,co none (Op.store 33 (Operand.tmp 6) (Operand.tmp 149)) none] [6]).seq CC.ret)) (RY Tryz.prog [ResultVar.cell 6 33] (eX (E.mk 3 T0 T0 [] [] a.kind (Cv (DM one) S a.kids b.kids []))))) (RY Tryz.prog [ResultVar.cell 6 33] (eX (E.mk 3 T0 T0 [] [] a.kind (Cv (DM one) S a.kids b.kids [])))))) ⟨lk [(2,iv most),(3,.pob [0] 1 0),(4,.pob [1] 1 0),(6,.pob [2] 1 0),(11,Nj S),(13,.pob [3] 1 0),(14,iv (0:Nat)),(15,iv (0:Nat)),(16,iv (0:Nat))],Ay (Ay (Ay H [3] ⟨1,.cells [iv 3,iv 0,.sl true [],.sl true [],iv 0,.sl true [],.sl true [],.sl true [],.sl true [],iv a.kind,.sl true []]⟩) [4] ⟨1,.arr 14 []⟩) [3] ⟨1,.cells (yW a.kind 1 0)⟩⟩:=by
   refine rl (one:=one) (a:=a) (b:=b) hka hkb (by omega) (by omega) hone s1 s2 (R:=Cv (DM one) S a.kids b.kids []) (fun H' its v st hR g2 g3 g4=>?_) S.length 0 0 0 1 [] _ (by omega) (BW _) (by simpa using s3) (by simpa using s4) (by simp) rfl (by simp[Aa,h0]) (by simp[Aa,h1]) (by simp[Aa,h2,Bk]) (by simp[Aa]) (fun p=>?_)
   ·rw[← hR]
    simp[g2,g3,g4,Bk]
    refine BG ⟨Ab rfl,Ab rfl,Al,Al,Ab rfl,Al,Al,Al,Al,Ab rfl,?_,trivial⟩
    exact Sw (by simp[Aa,g4]) (by simp)
   ·by_cases hp:p=[]
    ·subst hp;simp[Aa]
    ·simp[Aa,hp,h4]
  rcases hL with rfl | hL
  ·simpa using soft
  ·refine LoopC.le (qN 11) ?_
   refine LoopC.le (Ao [(2,iv most),(3,.pob [0] 1 0),(4,.pob [1] 1 0),(6,.pob [2] 1 0),(11,Nj S),(13,.pob [3] 1 0),(14,iv (0:Nat)),(15,iv (0:Nat)),(16,iv (0:Nat))] (by simp[upd,hL])) ?_
   simpa using soft
 have wd:=WO (Lw a) (Lv a b)
 have wi:=Sa (Lw a) (Lv a b)
 have wn:=P6 _ wi
 have l1:=Bl a.kids []
 have l2:=Bl b.kids (Bf [] a.kids).1
 have hL1:IQ one most a b = .mk 3 T0 T0 [] [] a.kind (Cv (DM one) (if (BN (Lw a) (Lv a b):Int)≤most then HK (Gg (Lw a) (Lv a b)) else [⟨1,a.kids.length⟩,⟨2,b.kids.length⟩]) a.kids b.kids []):=by
  unfold IQ
  split
  ·rfl
  ·rw[SP rfl rfl]
   simp[Cv]
 rw[hL1]
 clear hL1
 generalize hx:Lw a=x at *
 generalize hy:Lv a b=y at *
 clear z1 z2
 generalize hX:(Bf [] a.kids).2=X at *
 generalize hY:(Bf (Bf [] a.kids).1 b.kids).2=Y at *
 refine Aj Qw (by simp) fun w0 I0=>?_
 unfold J0
 simp
 refine CJ (BX 7 [5] 3 (by simp)) (Ep ?_)
 simp
 refine Sx 5 6 (by decide) C1 (fun p=>?_) (fun p=>by simp) (by simp) (by simp) ?_
 ·by_cases hp:p=[]
  ·subst hp;simp
  ·simp[hp,Ne.symm hp]
 simp
 refine Sx 5 7 (by decide) C2 (fun p=>by simp) (fun p=>by simp) (by simp) (by simp) ?_
 simp
 refine CJ (Fz (d:=[6]) (fun _ h=>h) 8 (.sl false (X.map nv)) fun H1 g1=>?_) ?_
 ·simp
  exact Y5 (by rw[g1];simp) l1.symm
 refine CJ (Fz (d:=[7]) (fun _ h=>h) 10 (.sl false (Y.map nv)) fun H1 g1=>?_) ?_
 ·simp[upd]
  exact Y5 (by rw[g1];simp[Aa]) l2.symm
 refine CJ (Ao [(2,iv most),(3,.pob [0] 1 0),(4,.pob [1] 1 0),(6,.pob [2] 1 0),(8,.sl false (X.map nv)),(10,.sl false (Y.map nv))] (by simp[upd])) (Ep ?_)
 simp
 refine Ae hD (by simp) ?_
 by_cases hd:(BN x y:Int)≤most
 ·simp[hd]
  refine key _ _ _ _ _ (.inl rfl) ?_ (fun s hs=>(NH wi s hs).1) (by omega) (by omega) (by simp) (by simp) (by simp[Bk]) (by simp) (by simp)
  have:=HH _ (NH wi)
  omega
 ·simp[hd]
  refine key _ _ _ _ _ (.inr (by simp[A.softL,A.soft,C0,GA])) (by simp) (fun s hs=>by
   simp at hs
   rcases hs with rfl | rfl<;>simp) ?_ ?_ (by simp) (by simp) (by simp[Bk]) (by simp) (by simp)
  ·rw[Aw,Aw,Ed,Dl,Dl,DN,DN];simp[dA]
  ·rw[Aw,Aw,Ed,Dk,Dk,DL,DL];simp[dB]
theorem Ma (a b:T) (i:Nat):DJ a b (i+1)=DJ a b i++(if Kr (a.words.getD i 0) (b.words.getD i 0)=0 then [] else [wdE i (a.words.getD i 0) (b.words.getD i 0)]):=by
 unfold DJ
 rw[List.range_succ,List.filterMap_append]
 congr 1
 by_cases h:Kr (a.words.getD i 0) (b.words.getD i 0)=0
 ·simp only[List.filterMap_cons,List.filterMap_nil,h,if_true]
 ·simp only[List.filterMap_cons,List.filterMap_nil,h,if_false]
theorem LU (a b:T):∀ i,(DJ a b i).length≤i
 |0=>by simp[DJ]
 |i+1=>by
  have:=LU a b i
  rw[Ma]
  split<;>simp<;>omega
theorem K0 (one:T→T→E) (a b:T) (i:Nat):BH one a b (i+1)=BH one a b i++(if (one (a.kids.getD i T0) (b.kids.getD i T0)).kind=0 then [] else [.mk i (one (a.kids.getD i T0) (b.kids.getD i T0))]):=by
 unfold BH
 rw[List.range_succ,List.filterMap_append]
 congr 1
 by_cases h:(one (a.kids.getD i T0) (b.kids.getD i T0)).kind=0
 ·simp only[List.filterMap_cons,List.filterMap_nil,h,if_true]
 ·simp only[List.filterMap_cons,List.filterMap_nil,h,if_false]
theorem HC (one:T→T→E) (a b:T):∀ i,(BH one a b i).length≤i
 |0=>by simp[BH]
 |i+1=>by
  have:=HC one a b i
  rw[K0]
  split<;>simp<;>omega
def mz (u n:Nat) (k:A):List A:=[iv 2,iv 0,.sl true [],.sl true [],iv 0,.sl true [],.sl true [],.osl [5] u 4 0 n,k,iv 0,.sl true []]
theorem Aec {a b:T} (ha:BB a) (hb:BB b) {most:A} {N:Nat} (hN:N≤1000000)
  (hq:∀ (H':Hp) (u:Nat),H' [0]=⟨1,.cells (tL a)⟩→H' [1]=⟨1,.cells (tL b)⟩→H' [2]=⟨1,.cells Bk⟩→H' [3]=⟨1,.cells (mz u (DJ a b N).length (.sl true []))⟩→H' [5]=⟨u,.arr 4 ((DJ a b N).map wA)⟩→H' [6]=⟨0,.none⟩→H' [7]=⟨0,.none⟩ →
   Q (.exit 0) ⟨lk [(2,most),(3,.pob [0] 1 0),(4,.pob [1] 1 0),(6,.pob [2] 1 0),(7,.pob [3] 1 0),(20,iv N),(21,iv N),(22,bv false)],H'⟩) :
  ∀ (m i:Nat) (u:Nat) (H:Hp),i+m=N→H [0]=⟨1,.cells (tL a)⟩→H [1]=⟨1,.cells (tL b)⟩→H [2]=⟨1,.cells Bk⟩→H [3]=⟨1,.cells (mz u (DJ a b i).length (.sl true []))⟩→H [5]=⟨u,.arr 4 ((DJ a b i).map wA)⟩→H [6]=⟨0,.none⟩→H [7]=⟨0,.none⟩ →
  LoopC (cx Tryz.prog w0 I0 n0) E4 Q ⟨lk [(2,most),(3,.pob [0] 1 0),(4,.pob [1] 1 0),(6,.pob [2] 1 0),(7,.pob [3] 1 0),(20,iv N),(21,iv i)],H⟩:=by
 intro m
 induction m with
 |zero=>
  intro i u H hm h0 h1 h2 h3 h5 h6 h7
  have:i=N:=by omega
  subst this
  refine Ad Ah E4.eq_1 ?_
  simp
  exact hq H u h0 h1 h2 h3 h5 h6 h7
 |succ m ih=>
  intro i u H hm h0 h1 h2 h3 h5 h6 h7
  have hlt:i<N:=by omega
  have ew:IntKind.i64.wrap ((i:Int)+1)=((i+1:Nat):Int):=An
  have hwa:Ci (a.words.getD i 0):=YG ha i
  have hwb:Ci (b.words.getD i 0):=YG hb i
  have hW:=W5 (i:=i) hwa hwb
  have hwl:=LU a b i
  have next:=ih (i+1)
  rw[Ma] at next
  refine Ad Ah E4.eq_1 ?_
  simp[hlt,h0,h1]
  refine Ae (HP a i) (by simp) ?_
  simp[h0,h1]
  refine Ae (HP b i) (by simp) ?_
  simp
  refine Ae hW (by simp) ?_
  generalize a.words.getD i 0=x at *
  generalize b.words.getD i 0=y at *
  by_cases hz:Kr x y=0
  ·rw[if_pos hz] at next
   simp[hz,Aa]
   rw[ew]
   refine next u _ (by omega) (by simp[Aa,h0]) (by simp[Aa,h1]) (by simp[Aa,h2]) (by simp[Aa,h3]) (by simp[Aa,h5]) (by simp[Aa,h6]) (by simp[Aa,h7])
  ·rw[if_neg hz] at next
   simp[hz,Aa,h3,h5,mz]
   refine⟨by omega,?_⟩
   rw[ew]
   refine next (u+1) _ (by omega) (by simp[Aa,h0]) (by simp[Aa,h1]) (by simp[Aa,h2]) (by simp[Aa,mz]) (by simp[Aa,AI]) (by simp[Aa,h6]) (by simp[Aa,h7])
theorem AeB {one:T→T→E} {a b:T} {most:Int} {N:Nat} (hN:N≤1000000) (hone:∀ i:Nat,G.Spec Tryz.prog 30 [tX (a.kids.getD i T0),tX (b.kids.getD i T0),iv most] (eX (one (a.kids.getD i T0) (b.kids.getD i T0)))) {u n:Nat} {ws:List WE}
  (hq:∀ (H':Hp) (v:Nat),H' [3]=⟨1,.cells (mz u n (.osl [7] v 12 0 (BH one a b N).length))⟩→H' [5]=⟨u,.arr 4 (ws.map wA)⟩→H' [7]=⟨v,.arr 12 ((BH one a b N).map kA)⟩→H' [2]=⟨1,.cells Bk⟩ →
   Q (.exit 2) ⟨lk [(2,iv most),(3,.pob [0] 1 0),(4,.pob [1] 1 0),(6,.pob [2] 1 0),(7,.pob [3] 1 0),(49,iv N),(50,iv N),(51,bv false)],H'⟩) :
  ∀ (m i:Nat) (v:Nat) (H:Hp),i+m=N→H [0]=⟨1,.cells (tL a)⟩→H [1]=⟨1,.cells (tL b)⟩→H [2]=⟨1,.cells Bk⟩→H [3]=⟨1,.cells (mz u n (.osl [7] v 12 0 (BH one a b i).length))⟩→H [5]=⟨u,.arr 4 (ws.map wA)⟩→H [7]=⟨v,.arr 12 ((BH one a b i).map kA)⟩ →
  LoopC (cx Tryz.prog w0 I0 n0) E8 Q ⟨lk [(2,iv most),(3,.pob [0] 1 0),(4,.pob [1] 1 0),(6,.pob [2] 1 0),(7,.pob [3] 1 0),(49,iv N),(50,iv i)],H⟩:=by
 intro m
 induction m with
 |zero=>
  intro i v H hm h0 h1 h2 h3 h5 h7
  have:i=N:=by omega
  subst this
  refine Ad Ah E8.eq_1 ?_
  simp
  exact hq H v h3 h5 h7 h2
 |succ m ih=>
  intro i v H hm h0 h1 h2 h3 h5 h7
  have hlt:i<N:=by omega
  have ew:IntKind.i64.wrap ((i:Int)+1)=((i+1:Nat):Int):=An
  have hO:=hone i
  have hkl:=HC one a b i
  have next:=ih (i+1)
  rw[K0] at next
  have K1:=Ju a i
  have K2:=Ju b i
  generalize a.kids.getD i T0=x at *
  generalize b.kids.getD i T0=y at *
  generalize one x y=e at *
  refine Ad Ah E8.eq_1 ?_
  simp[hlt,h0,h1]
  refine Ae K1 (by simp) ?_
  simp[h0,h1]
  refine Ae K2 (by simp) ?_
  simp
  refine Ae hO (by simp) ?_
  by_cases hz:e.kind=0
  ·rw[if_pos hz] at next
   simp[hz,Aa]
   rw[ew]
   refine next v _ (by omega) (by simp[Aa,h0]) (by simp[Aa,h1]) (by simp[Aa,h2]) (by simp[Aa,h3]) (by simp[Aa,h5]) (by simp[Aa,h7])
  ·rw[if_neg hz] at next
   simp[hz,Aa,h3,h7,mz]
   refine⟨by omega,?_⟩
   rw[ew]
   refine next (v+1) _ (by omega) (by simp[Aa,h0]) (by simp[Aa,h1]) (by simp[Aa,h2]) (by simp[Aa,mz]) (by simp[Aa,h5]) (by simp[Aa,AI])
theorem Wj {one:T→T→E} {a b:T} (ha:BB a) (hb:BB b) (h1:a.words.length≤1000000) (h2:b.words.length≤1000000) (h3:a.kids.length≤1000000) (h4:b.kids.length≤1000000) {most:Int} (hone:∀ i:Nat,G.Spec Tryz.prog 30 [tX (a.kids.getD i T0),tX (b.kids.getD i T0),iv most] (eX (one (a.kids.getD i T0) (b.kids.getD i T0)))) :
  G.Spec Tryz.prog 60 [tX a,tX b,iv most] (eX (Te one a b)):=by
 refine Aj SZ (by simp) fun w0 I0=>?_
 unfold LO
 simp
 refine LoopC.le (Bd (d:=[3]) (u:=1) (cs:=[iv 2,iv 0,.sl true [],.sl true [],iv 0,.sl true [],.sl true [],.sl true [],.sl true [],iv 0,.sl true []]) 7 [5] 4 (by simp[Aa]) rfl (by simp)) ?_
 refine LoopC.le (Ao [(2,iv most),(3,.pob [0] 1 0),(4,.pob [1] 1 0),(6,.pob [2] 1 0),(7,.pob [3] 1 0),(20,iv (max a.words.length b.words.length:Nat)),(21,iv (0:Nat))] (by simp;omega)) ?_
 refine Aec ha hb (N:=max a.words.length b.words.length) (by omega) (fun H' u g0 g1 g2 g3 g5 g6 g7=>?_) (max a.words.length b.words.length) 0 1 _ (by omega) (by simp[Aa]) (by simp[Aa]) (by simp[Aa,Bk]) (by simp[Aa,mz,DJ]) (by simp[Aa,DJ]) (by simp[Aa]) (by simp[Aa])
 simp[g0,g1]
 refine LoopC.le (Bd (d:=[3]) (u:=1) (cs:=mz u (DJ a b (max a.words.length b.words.length)).length (.sl true [])) 8 [7] 12 g3 rfl (by simp)) ?_
 refine LoopC.le (Ao [(2,iv most),(3,.pob [0] 1 0),(4,.pob [1] 1 0),(6,.pob [2] 1 0),(7,.pob [3] 1 0),(49,iv (max a.kids.length b.kids.length:Nat)),(50,iv (0:Nat))] (by simp;omega)) ?_
 refine AeB (one:=one) (a:=a) (b:=b) (N:=max a.kids.length b.kids.length) (by omega) hone (ws:=DJ a b (max a.words.length b.words.length)) (u:=u) (n:=(DJ a b (max a.words.length b.words.length)).length) (fun H2 v k3 k5 k7 k2=>?_) (max a.kids.length b.kids.length) 0 1 _ (by omega) (by simp[Aa,g0]) (by simp[Aa,g1]) (by simp[Aa,g2]) (by simp[Aa,mz,BH,g7]) (by simp[Aa,g5]) (by simp[Aa,BH,g7])
 simp[k3,k2,Aa,mz]
 refine⟨by simp[Bk],?_⟩
 refine BG ⟨Ab rfl,Ab rfl,Al,Al,Ab rfl,Al,Al,?_,?_,Ab rfl,Al,trivial⟩
 ·exact Bb (f:=wA) (l:=DJ a b (max a.words.length b.words.length)) (by rw[AK (by simp),k5];simp) rfl (fun x=>by simp)
 ·exact Bb (f:=kA) (l:=BH one a b (max a.kids.length b.kids.length)) (by rw[AK (by simp),k7];simp) rfl (fun x=>by simp)
def jP (u n:Nat) (k:A):List A:=[iv 2,iv 0,.sl true [],.sl true [],iv 0,.sl true [],.sl true [],.osl [4] u 4 0 n,k,iv 0,.sl true []]
theorem xN {a b:T} (ha:BB a) (hb:BB b) {most:Int} {N:Nat} (hNN:N=max a.words.length b.words.length) (hN:N≤1000000)
  (hq:∀ (H':Hp) (u:Nat),H' [0]=⟨1,.cells (tL a)⟩→H' [1]=⟨1,.cells (tL b)⟩→H' [2]=⟨1,.cells Bk⟩→H' [3]=⟨1,.cells (jP u (DJ a b N).length (.sl true []))⟩→H' [4]=⟨u,.arr 4 ((DJ a b N).map wA)⟩→H' [6]=⟨0,.none⟩ →
   Q (.exit 0) ⟨lk [(2,iv most),(3,.pob [0] 1 0),(4,.pob [1] 1 0),(6,.pob [2] 1 0),(7,.pob [3] 1 0),(8,iv N),(24,bv false)],H'⟩) :
  ∀ (m i:Nat) (u:Nat) (H:Hp),i+m=N→H [0]=⟨1,.cells (tL a)⟩→H [1]=⟨1,.cells (tL b)⟩→H [2]=⟨1,.cells Bk⟩→H [3]=⟨1,.cells (jP u (DJ a b i).length (.sl true []))⟩→H [4]=⟨u,.arr 4 ((DJ a b i).map wA)⟩→H [6]=⟨0,.none⟩ →
  LoopC (cx Tryz.prog w0 I0 n0) Da Q ⟨lk [(2,iv most),(3,.pob [0] 1 0),(4,.pob [1] 1 0),(6,.pob [2] 1 0),(7,.pob [3] 1 0),(8,iv i)],H⟩:=by
 intro m
 induction m with
 |zero=>
  intro i u H hm h0 h1 h2 h3 h4 h6
  have:i=N:=by omega
  subst this
  have g1:¬ i<a.words.length:=by omega
  have g2:¬ i<b.words.length:=by omega
  refine Ad Ah Da.eq_1 ?_
  simp[h0,h1,g1,g2]
  exact hq H u h0 h1 h2 h3 h4 h6
 |succ m ih=>
  intro i u H hm h0 h1 h2 h3 h4 h6
  have hlt:i<N:=by omega
  have ew:IntKind.i64.wrap ((i:Int)+1)=((i+1:Nat):Int):=An
  have hwa:Ci (a.words.getD i 0):=YG ha i
  have hwb:Ci (b.words.getD i 0):=YG hb i
  have hU:=ae hwa hwb
  have hin:=Vj (a.words.getD i 0) (b.words.getD i 0)
  have z:Ci 0:=by unfold Ci;omega
  have M1:=YY z hwa hin.1 hin.2
  have M2:=YY z hwb hin.1 hin.2
  have W1:=Rz a i
  have W2:=Rz b i
  have hwl:=LU a b i
  have next:=ih (i+1)
  rw[Ma] at next
  generalize a.words.getD i 0=x at *
  generalize b.words.getD i 0=y at *
  refine Ad Ah Da.eq_1 ?_
  have go:(i<a.words.length∧True)∨(¬ i<a.words.length∧i<b.words.length):=by
   by_cases g:i<a.words.length
   ·exact .inl ⟨g,trivial⟩
   ·exact .inr ⟨g,by omega⟩
  rcases go with ⟨g,g'⟩ | ⟨g,g'⟩
  all_goals
   simp[h0,h1,g,g']
   refine Ae W1 (by simp) ?_
   simp[h0,h1]
   refine Ae W2 (by simp) ?_
   simp
   refine Ae hU (by simp) ?_
   by_cases hz:Kr x y=0
   ·rw[if_pos hz,List.append_nil] at next
    simp[hz,ew]
    refine next u _ (by omega) h0 h1 h2 h3 h4 h6
   ·rw[if_neg hz] at next
    simp[hz,Aa,h0,h1,h3,h4,jP]
    refine Ae W1 (by simp) ?_
    simp
    refine Ae M1 (by simp) ?_
    simp[h1]
    refine Ae W2 (by simp) ?_
    simp
    refine Ae M2 (by simp) ?_
    simp[h3,h4,jP,Aa]
    refine⟨by omega,?_⟩
    rw[ew]
    refine next (u+1) _ (by omega) (by simp[Aa,h0]) (by simp[Aa,h1]) (by simp[Aa,h2]) (by simp[Aa,jP]) (by simp[Aa,AI,wdE]) (by simp[Aa,h6])
theorem xB {one:T→T→E} {a b:T} {most:Int} {N:Nat} (hNN:N=max a.kids.length b.kids.length) (hN:N≤1000000) (hone:∀ i:Nat,G.Spec Tryz.prog 53 [tX (a.kids.getD i T0),tX (b.kids.getD i T0),iv most] (eX (one (a.kids.getD i T0) (b.kids.getD i T0)))) {u n:Nat} {ws:List WE}
  (hq:∀ (H':Hp) (v:Nat),H' [3]=⟨1,.cells (jP u n (.osl [6] v 12 0 (BH one a b N).length))⟩→H' [4]=⟨u,.arr 4 (ws.map wA)⟩→H' [6]=⟨v,.arr 12 ((BH one a b N).map kA)⟩→H' [2]=⟨1,.cells Bk⟩ →
   Q (.exit 2) ⟨lk [(2,iv most),(3,.pob [0] 1 0),(4,.pob [1] 1 0),(6,.pob [2] 1 0),(7,.pob [3] 1 0),(10,iv N),(65,bv false)],H'⟩) :
  ∀ (m i:Nat) (v:Nat) (H:Hp),i+m=N→H [0]=⟨1,.cells (tL a)⟩→H [1]=⟨1,.cells (tL b)⟩→H [2]=⟨1,.cells Bk⟩→H [3]=⟨1,.cells (jP u n (.osl [6] v 12 0 (BH one a b i).length))⟩→H [4]=⟨u,.arr 4 (ws.map wA)⟩→H [6]=⟨v,.arr 12 ((BH one a b i).map kA)⟩ →
  LoopC (cx Tryz.prog w0 I0 n0) C8 Q ⟨lk [(2,iv most),(3,.pob [0] 1 0),(4,.pob [1] 1 0),(6,.pob [2] 1 0),(7,.pob [3] 1 0),(10,iv i)],H⟩:=by
 intro m
 induction m with
 |zero=>
  intro i v H hm h0 h1 h2 h3 h4 h6
  have:i=N:=by omega
  subst this
  have g1:¬ i<a.kids.length:=by omega
  have g2:¬ i<b.kids.length:=by omega
  refine Ad Ah C8.eq_1 ?_
  simp[h0,h1,g1,g2]
  exact hq H v h3 h4 h6 h2
 |succ m ih=>
  intro i v H hm h0 h1 h2 h3 h4 h6
  have hlt:i<N:=by omega
  have ew:IntKind.i64.wrap ((i:Int)+1)=((i+1:Nat):Int):=An
  have hO:=hone i
  have hkl:=HC one a b i
  have next:=ih (i+1)
  rw[K0] at next
  have K1:=UC a i
  have K2:=UC b i
  generalize a.kids.getD i T0=x at *
  generalize b.kids.getD i T0=y at *
  generalize one x y=e at *
  have go:(i<a.kids.length∧True)∨(¬ i<a.kids.length∧i<b.kids.length):=by
   by_cases g:i<a.kids.length
   ·exact .inl ⟨g,trivial⟩
   ·exact .inr ⟨g,by omega⟩
  refine Ad Ah C8.eq_1 ?_
  rcases go with ⟨g,g'⟩ | ⟨g,g'⟩
  all_goals
   simp[h0,h1,g,g']
   refine Ae K1 (by simp) ?_
   simp[h0,h1]
   refine Ae K2 (by simp) ?_
   simp
   refine Ae hO (by simp) ?_
   by_cases hz:e.kind=0
   ·rw[if_pos hz,List.append_nil] at next
    simp[hz,Aa]
    rw[ew]
    refine next v _ (by omega) (by simp[Aa,h0]) (by simp[Aa,h1]) (by simp[Aa,h2]) (by simp[Aa,h3]) (by simp[Aa,h4]) (by simp[Aa,h6])
   ·rw[if_neg hz] at next
    simp[hz,Aa,h3,h6,jP]
    refine⟨by omega,?_⟩
    rw[ew]
    refine next (v+1) _ (by omega) (by simp[Aa,h0]) (by simp[Aa,h1]) (by simp[Aa,h2]) (by simp[Aa,jP]) (by simp[Aa,h4]) (by simp[Aa,AI])
theorem UR {one:T→T→E} {a b:T} (ha:BB a) (hb:BB b) (h1:a.words.length≤1000000) (h2:b.words.length≤1000000) (h3:a.kids.length≤1000000) (h4:b.kids.length≤1000000) {most:Int} (hone:∀ i:Nat,G.Spec Tryz.prog 53 [tX (a.kids.getD i T0),tX (b.kids.getD i T0),iv most] (eX (one (a.kids.getD i T0) (b.kids.getD i T0)))) :
  G.Spec Tryz.prog 102 [tX a,tX b,iv most] (eX (Te one a b)):=by
 refine Aj NQ (by simp) fun w0 I0=>?_
 unfold Ir
 simp
 refine LoopC.le (Bd (d:=[3]) (u:=1) (cs:=[iv 2,iv 0,.sl true [],.sl true [],iv 0,.sl true [],.sl true [],.sl true [],.sl true [],iv 0,.sl true []]) 7 [4] 4 (by simp[Aa]) rfl (by simp)) ?_
 refine LoopC.le (Ao [(2,iv most),(3,.pob [0] 1 0),(4,.pob [1] 1 0),(6,.pob [2] 1 0),(7,.pob [3] 1 0),(8,iv (0:Nat))] (by simp)) ?_
 refine xN ha hb (N:=max a.words.length b.words.length) rfl (by omega) (fun H' u g0 g1 g2 g3 g5 g6=>?_) (max a.words.length b.words.length) 0 1 _ (by omega) (by simp[Aa]) (by simp[Aa]) (by simp[Aa,Bk]) (by simp[Aa,jP,DJ]) (by simp[Aa,DJ]) (by simp[Aa])
 simp[g0,g1]
 refine LoopC.le (Bd (d:=[3]) (u:=1) (cs:=jP u (DJ a b (max a.words.length b.words.length)).length (.sl true [])) 8 [6] 12 g3 rfl (by simp)) ?_
 refine LoopC.le (Ao [(2,iv most),(3,.pob [0] 1 0),(4,.pob [1] 1 0),(6,.pob [2] 1 0),(7,.pob [3] 1 0),(10,iv (0:Nat))] (by simp)) ?_
 refine xB (one:=one) (a:=a) (b:=b) (N:=max a.kids.length b.kids.length) rfl (by omega) hone (ws:=DJ a b (max a.words.length b.words.length)) (u:=u) (n:=(DJ a b (max a.words.length b.words.length)).length) (fun H2 v k3 k5 k7 k2=>?_) (max a.kids.length b.kids.length) 0 1 _ (by omega) (by simp[Aa,g0]) (by simp[Aa,g1]) (by simp[Aa,g2]) (by simp[Aa,jP,BH,g6]) (by simp[Aa,g5]) (by simp[Aa,BH,g6])
 simp[k3,k2,Aa,jP]
 refine⟨by simp[Bk],?_⟩
 refine BG ⟨Ab rfl,Ab rfl,Al,Al,Ab rfl,Al,Al,?_,?_,Ab rfl,Al,trivial⟩
 ·exact Bb (f:=wA) (l:=DJ a b (max a.words.length b.words.length)) (by rw[AK (by simp),k5];simp) rfl (fun x=>by simp)
 ·exact Bb (f:=kA) (l:=BH one a b (max a.kids.length b.kids.length)) (by rw[AK (by simp),k7];simp) rfl (fun x=>by simp)
theorem cX {a b:T} (ha:BB a) (hb:BB b) {X Y:E} {most:Int} (hs:a.kind=1→b.kind=1→G.Spec Tryz.prog 60 [tX a,tX b,iv most] (eX X)) (hl:a.kind=b.kind→2≤a.kind→a.kind≤9→G.Spec Tryz.prog 62 [tX a,tX b,iv most] (eX Y)) :
  G.Spec Tryz.prog 30 [tX a,tX b,iv most] (eX (if KJ a b=true then E0 else if a.kind=1∧b.kind=1 then X else if a.kind=b.kind∧2≤a.kind∧a.kind≤9 then Y else .mk 1 a b [] [] 0 [])):=by
 have hE:=Xk ha hb
 have hraw:∀ H:Hp,Jd H (.agg Bk) (eX E0):=fun H=>BG ⟨Ab rfl,Ab rfl,Al,Al,Ab rfl,Al,Al,Al,Al,Ab rfl,Al,trivial⟩
 have hfr:∀ (H:Hp) (k:Int),k=a.kind→Jd H (.agg [iv 1,iv k,C5 a.words,Ba a.kids,iv b.kind,C5 b.words,Ba b.kids,.sl true [],.sl true [],iv 0,.sl true []]) (eX (.mk 1 a b [] [] 0 [])):=fun H k hk=>by
  subst hk
  exact BG ⟨Ab rfl,Ab rfl,Ab rfl,Ab rfl,Ab rfl,Ab rfl,Ab rfl,Al,Al,Ab rfl,Al,trivial⟩
 refine Aj fN (by simp) fun w0 I0=>?_
 unfold Wy
 simp
 refine Ae hE (by simp) ?_
 cases he:KJ a b with
 |true=>
  simp
  exact hraw _
 |false=>
  by_cases h1:a.kind=1
  ·by_cases h2:b.kind=1
   ·have S:=hs h1 h2
    have S':G.Spec Tryz.prog 60 [.agg [iv 1,C5 a.words,Ba a.kids],.agg [iv 1,C5 b.words,Ba b.kids],iv most] (eX X):=by
     rw[← h1]
     have e:([A.agg [iv a.kind,C5 a.words,Ba a.kids],.agg [iv a.kind,C5 b.words,Ba b.kids],iv most]:List A)=[tX a,tX b,iv most]:=by
      show [A.agg [iv a.kind,C5 a.words,Ba a.kids],.agg [iv a.kind,C5 b.words,Ba b.kids],iv most]=[A.agg [iv a.kind,C5 a.words,Ba a.kids],.agg [iv b.kind,C5 b.words,Ba b.kids],iv most]
      rw[h1,h2]
     rw[e]
     exact S
    simp[h1,h2]
    refine Ae S' (by simp) ?_
    simp
    exact Ab (by simp)
   ·have hne:¬ (1:Int)=b.kind:=fun e=>h2 e.symm
    simp[h1,h2,hne]
    refine A8 rfl ?_
    simp
    exact hfr _ 1 h1.symm
  ·by_cases h3:a.kind=b.kind
   ·have h2:¬ b.kind=1:=fun e=>h1 (h3.trans e)
    simp[h1,h3,h2]
    rw[Az]
    simp
    refine Ae (WB b.kind) (by simp) ?_
    by_cases h5:2≤b.kind∧b.kind≤9
    ·have S:=hl h3 (by omega) (by omega)
     have S':G.Spec Tryz.prog 62 [.agg [iv b.kind,C5 a.words,Ba a.kids],.agg [iv b.kind,C5 b.words,Ba b.kids],iv most] (eX Y):=by
      rw[← h3]
      have e:([A.agg [iv a.kind,C5 a.words,Ba a.kids],.agg [iv a.kind,C5 b.words,Ba b.kids],iv most]:List A)=[tX a,tX b,iv most]:=by
       show [A.agg [iv a.kind,C5 a.words,Ba a.kids],.agg [iv a.kind,C5 b.words,Ba b.kids],iv most]=[A.agg [iv a.kind,C5 a.words,Ba a.kids],.agg [iv b.kind,C5 b.words,Ba b.kids],iv most]
       rw[h3]
      rw[e]
      exact S
     simp[h5.1,h5.2]
     refine Ae S' (by simp) ?_
     simp
     exact Ab (by simp)
    ·have h6:(decide (2≤b.kind)&&decide (b.kind≤9))=false:=by
      rw[Bool.eq_false_iff];simpa using h5
     rw[h6]
     simp[h5]
     exact hfr _ _ h3.symm
   ·simp[h1,h3]
    refine A8 rfl ?_
    simp
    exact hfr _ _ rfl
def Va:Nat→T→Prop
 |0,t=>t=T0
 |f+1,t=>t=T0∨(BB t∧Ai t=t∧t.words.length≤1000∧t.kids.length≤1000∧∀ k,k ∈ t.kids→Va f k)
theorem wN (f:Nat):Va f T0:=by cases f with
 |zero=>rfl
 |succ f=>exact .inl rfl
theorem GQ:BB T0:=wfT_iff.2 ⟨by simp[BQ],by simp,by simp,by simp,by simp⟩
theorem jR:Ai T0=T0:=by simp[Ai,T0,BT,BC]
theorem Bc {f:Nat} {t:T} (h:Va f t):BB t∧Ai t=t∧t.words.length≤1000∧t.kids.length≤1000:=by
 have z:BB T0∧Ai T0=T0∧T0.words.length≤1000∧T0.kids.length≤1000:=⟨GQ,jR,by decide,by decide⟩
 cases f with
 |zero=>cases h;exact z
 |succ f=>
  rcases h with rfl | h
  ·exact z
  ·exact⟨h.1,h.2.1,h.2.2.1,h.2.2.2.1⟩
theorem Cw {f:Nat} {t:T} (h:Va f t):∀ k,k ∈ t.kids→Va (f-1) k:=by
 cases f with
 |zero=>cases h;intro k hk;simp[T0] at hk
 |succ f=>
  rcases h with rfl | h
  ·intro k hk;simp[T0] at hk
  ·exact h.2.2.2.2
theorem Li {f:Nat} {t:T} (h:Va f t) (i:Nat):Va (f-1) (t.kids.getD i T0):=by
 by_cases hi:i<t.kids.length
 ·have e:t.kids.getD i T0=t.kids[i]:=by simp[hi]
  rw[e]
  exact Cw h _ (Bq hi)
 ·have e:t.kids.getD i T0=T0:=by simp[List.getElem?_eq_none (Nat.le_of_not_lt hi)]
  rw[e]
  exact wN _
theorem TS {most:Int} (hm:BQ most):∀ (f g:Nat) (a b:T),Va f a→Va g b→G.Spec Tryz.prog 30 [tX a,tX b,iv most] (eX (LC most f a b))
 |0,g,a,b,ha,hb=>by
  obtain⟨a1,a2,a3,a4⟩:=Bc ha
  obtain⟨b1,b2,b3,b4⟩:=Bc hb
  have hk:a.kind=0:=by cases ha;rfl
  have:=cX a1 b1 (X:=E0) (Y:=E0) (most:=most) (fun h=>by omega) (fun _ h=>by omega)
  rw[if_neg (show ¬ (a.kind=1∧b.kind=1) by omega),if_neg (show ¬ (a.kind=b.kind∧2≤a.kind∧a.kind≤9) by omega)] at this
  exact this
 |f+1,g,a,b,ha,hb=>by
  obtain⟨a1,a2,a3,a4⟩:=Bc ha
  obtain⟨b1,b2,b3,b4⟩:=Bc hb
  refine cX a1 b1 (fun h1 h2=>?_) (fun h1 h2 h3=>?_)
  ·exact Wj a1 b1 (by omega) (by omega) (by omega) (by omega) fun i=>TS hm f (g-1) _ _ (Li ha i) (Li hb i)
  ·exact au a1 b1 (fun t ht=>(Bc (Cw ha t ht)).2.1) (fun t ht=>(Bc (Cw hb t ht)).2.1) (by omega) (by omega) hm fun x hx y hy=>TS hm f (g-1) _ _ (Cw ha x hx) (Cw hb y hy)
theorem XT {a b:T} (ha:BB a) (hb:BB b) {X Y:E} {most:Int} (hs:a.kind=1→b.kind=1→G.Spec Tryz.prog 102 [tX a,tX b,iv most] (eX X)) (hl:a.kind=b.kind→2≤a.kind→a.kind≤9→G.Spec Tryz.prog 103 [tX a,tX b,iv most] (eX Y)) :
  G.Spec Tryz.prog 53 [tX a,tX b,iv most] (eX (if KJ a b=true then E0 else if a.kind=1∧b.kind=1 then X else if a.kind=b.kind∧2≤a.kind∧a.kind≤9 then Y else .mk 1 a b [] [] 0 [])):=by
 have hE:=UH ha hb (GM _ ha)
 have hraw:∀ H:Hp,Jd H (.agg Bk) (eX E0):=fun H=>BG ⟨Ab rfl,Ab rfl,Al,Al,Ab rfl,Al,Al,Al,Al,Ab rfl,Al,trivial⟩
 have hfr:∀ (H:Hp) (k:Int),k=a.kind→Jd H (.agg [iv 1,iv k,C5 a.words,Ba a.kids,iv b.kind,C5 b.words,Ba b.kids,.sl true [],.sl true [],iv 0,.sl true []]) (eX (.mk 1 a b [] [] 0 [])):=fun H k hk=>by
  subst hk
  exact BG ⟨Ab rfl,Ab rfl,Ab rfl,Ab rfl,Ab rfl,Ab rfl,Ab rfl,Al,Al,Ab rfl,Al,trivial⟩
 refine Aj Qe (by simp) fun w0 I0=>?_
 unfold JE
 simp
 refine Ae hE (by simp) ?_
 cases he:KJ a b with
 |true=>
  simp
  exact hraw _
 |false=>
  by_cases h1:a.kind=1
  ·by_cases h2:b.kind=1
   ·have S:=hs h1 h2
    have S':G.Spec Tryz.prog 102 [.agg [iv 1,C5 a.words,Ba a.kids],.agg [iv 1,C5 b.words,Ba b.kids],iv most] (eX X):=by
     rw[← h1]
     have e:([A.agg [iv a.kind,C5 a.words,Ba a.kids],.agg [iv a.kind,C5 b.words,Ba b.kids],iv most]:List A)=[tX a,tX b,iv most]:=by
      show [A.agg [iv a.kind,C5 a.words,Ba a.kids],.agg [iv a.kind,C5 b.words,Ba b.kids],iv most]=[A.agg [iv a.kind,C5 a.words,Ba a.kids],.agg [iv b.kind,C5 b.words,Ba b.kids],iv most]
      rw[h1,h2]
     rw[e]
     exact S
    simp[h1,h2]
    refine Ae S' (by simp) ?_
    simp
    exact Ab (by simp)
   ·have hne:¬ (1:Int)=b.kind:=fun e=>h2 e.symm
    simp[h1,h2,hne]
    exact hfr _ 1 h1.symm
  ·by_cases h3:a.kind=b.kind
   ·have h2:¬ b.kind=1:=fun e=>h1 (h3.trans e)
    by_cases h5:2≤b.kind∧b.kind≤9
    ·have S:=hl h3 (by omega) (by omega)
     have S':G.Spec Tryz.prog 103 [.agg [iv b.kind,C5 a.words,Ba a.kids],.agg [iv b.kind,C5 b.words,Ba b.kids],iv most] (eX Y):=by
      rw[← h3]
      have e:([A.agg [iv a.kind,C5 a.words,Ba a.kids],.agg [iv a.kind,C5 b.words,Ba b.kids],iv most]:List A)=[tX a,tX b,iv most]:=by
       show [A.agg [iv a.kind,C5 a.words,Ba a.kids],.agg [iv a.kind,C5 b.words,Ba b.kids],iv most]=[A.agg [iv a.kind,C5 a.words,Ba a.kids],.agg [iv b.kind,C5 b.words,Ba b.kids],iv most]
       rw[h3]
      rw[e]
      exact S
     simp[h1,h3,h2,h5.1,h5.2]
     refine Ae S' (by simp) ?_
     simp
     exact Ab (by simp)
    ·by_cases h6:2≤b.kind
     ·have h7:¬ b.kind≤9:=fun h=>h5 ⟨h6,h⟩
      simp[h1,h3,h2,h6,h7]
      exact hfr _ _ h3.symm
     ·simp[h1,h3,h2,h6]
      exact hfr _ _ h3.symm
   ·simp[h1,h3]
    exact hfr _ _ rfl
end Go.Proofs.YtbjmaoedheiigaaGreat
namespace Go.PL
mutual
def F9:T→Int
 |.mk _ w l=>1+w.length+IE l
def IE:List T→Int
 |[]=>0
 |t::l=>F9 t+IE l
end
@[simp] theorem j4 (k:Int) (w:List Int) (l:List T):F9 (.mk k w l)=1+w.length+IE l:=by rw[F9]
@[simp] theorem x9:IE []=0:=by rw[IE]
@[simp] theorem bF (t:T) (l:List T):IE (t::l)=F9 t+IE l:=by rw[IE]
theorem VC {l:List T} (h:∀ t,t ∈ l→1≤F9 t):(l.length:Int)≤IE l:=by
 induction l with
 |nil=>simp
 |cons t l ih=>
  have:=h t (by simp)
  have:=ih fun u hu=>h u (by simp[hu])
  simp
  omega
theorem Vz:∀ t:T,1≤F9 t:=by
 refine T.ind fun k w l ih=>?_
 have:=VC ih
 simp
 omega
theorem VP (l:List T):(l.length:Int)≤IE l:=VC fun t _=>Vz t
theorem PC:∀ (t:T) (d:Nat) (n:Int),0≤Dv d n t→F9 t≤n-Dv d n t:=by
 refine T.ind fun k w l ih d n h=>?_
 have hl:∀ (m:List T) (d:Nat) (n:Int),(∀ t,t ∈ m→t ∈ l)→0≤DD d n m→IE m≤n-DD d n m:=by
  intro m
  induction m with
  |nil=>intro d n _ _;simp
  |cons t m ihm=>
   intro d n hin h
   rw[HW] at h ⊢
   split at h
   ·omega
   ·rename_i hc
    rw[if_neg hc]
    have h1:=ihm d (Dv d n t) (fun u hu=>hin u (by simp[hu])) h
    have h3:0≤Dv d n t:=by
     cases m with
     |nil=>simpa using h
     |cons u m=>
      rw[HW] at h
      split at h<;>omega
    have:=ih t (hin t (by simp)) d n h3
    simp
    omega
 rw[Qb] at h ⊢
 split at h
 ·omega
 rename_i hc
 rw[if_neg hc]
 have:=hl l (d-1) _ (fun t ht=>ht) h
 simp
 omega
end Go.PL
namespace Go.Proofs.YtbjmaoedheiigaaGreat
open Go Go.G Go.Proofs Go.PL
theorem G6 (a b:List OP):Dp (a++b)=Dp a+Dp b:=by simp[Dp]
theorem S7 (l:List T):Dp (CS l)=l.length:=by
 unfold CS
 split
 ·rename_i h;subst h;rfl
 ·simp[Dp]
theorem SX (l:List T):Dp (CY l)=l.length:=by
 unfold CY
 split
 ·rename_i h;subst h;rfl
 ·simp[Dp]
theorem aZ (one:T→T→E) (a b:List T):∀ (P:List Sc) (i j:Nat) (out:List OP),eU a.length b.length i j P→Dp (Kq one a b P i j out)≤Dp out+(a.length-i)+(b.length-j)
 |[],i,j,out,h=>by
  rw[Kq,G6,G6,S7,SX]
  simp
 |x::P,i,j,out,h=>by
  obtain⟨k1,k2,k3,k4,k5⟩:=h
  have:=aZ one a b P _ _ (out++CS ((a.take x.i).drop i)++CY ((b.take x.j).drop j)++[.mk 3 0 [] (one (a.getD x.i T0) (b.getD x.j T0))]) k5
  rw[Kq]
  rw[G6,G6,G6,S7,SX,show Dp [OP.mk 3 0 [] (one (a.getD x.i T0) (b.getD x.j T0))]=0 from rfl,List.length_drop,List.length_take,List.length_drop,List.length_take] at this
  omega
theorem bn (one:T→T→E) (a b:List T):Dp (DM one a b)≤a.length+b.length:=by
 have:=aZ one a b (Xy (Km a b)) 0 0 [] (Wk a b)
 rw[show Dp []=0 from rfl] at this
 unfold DM
 omega
inductive Zb (one:T→T→E) (A B:List T) (N:Nat):OP→Prop
 |keep (n:Nat) (h:n≤N):Zb one A B N (.mk 0 n [] E0)
 |del (l:List T) (h:l ≠ []) (g:∀ t,t ∈ l→t ∈ A) (k:l.length≤A.length):Zb one A B N (.mk 1 0 l E0)
 |ins (l:List T) (h:l ≠ []) (g:∀ t,t ∈ l→t ∈ B) (k:l.length≤B.length):Zb one A B N (.mk 2 0 l E0)
 |desc (x y:T) (hx:x ∈ A) (hy:y ∈ B):Zb one A B N (.mk 3 0 [] (one x y))
theorem nP {one:T→T→E} {A B A' B':List T} {N:Nat} (hA:∀ t,t ∈ A→t ∈ A') (hB:∀ t,t ∈ B→t ∈ B') (lA:A.length≤A'.length) (lB:B.length≤B'.length) {o:OP} (h:Zb one A B N o):Zb one A' B' N o:=by
 cases h with
 |keep n h=>exact .keep n h
 |del l h g k=>exact .del l h (fun t ht=>hA t (g t ht)) (by omega)
 |ins l h g k=>exact .ins l h (fun t ht=>hB t (g t ht)) (by omega)
 |desc x y hx hy=>exact .desc x y (hA x hx) (hB y hy)
theorem ar {one:T→T→E} {A B l:List T} {N:Nat} (h:∀ t,t ∈ l→t ∈ A) (hl:l.length≤A.length):∀ o,o ∈ CS l→Zb one A B N o:=by
 intro o ho
 unfold CS at ho
 split at ho
 ·simp at ho
 ·rename_i hne
  simp at ho
  subst ho
  exact .del l hne h hl
theorem ZO {one:T→T→E} {A B l:List T} {N:Nat} (h:∀ t,t ∈ l→t ∈ B) (hl:l.length≤B.length):∀ o,o ∈ CY l→Zb one A B N o:=by
 intro o ho
 unfold CY at ho
 split at ho
 ·simp at ho
 ·rename_i hne
  simp at ho
  subst ho
  exact .ins l hne h hl
theorem dh (one:T→T→E) (a b:List T) (N:Nat):∀ (P:List Sc) (i j:Nat) (out:List OP),eU a.length b.length i j P→(∀ o,o ∈ out→Zb one a b N o)→∀ o,o ∈ Kq one a b P i j out→Zb one a b N o
 |[],i,j,out,h,g=>by
  intro o ho
  rw[Kq] at ho
  rcases List.mem_append.1 ho with ho | ho
  ·rcases List.mem_append.1 ho with ho | ho
   ·exact g o ho
   ·exact ar (fun t ht=>Q3 ht) (by simp) o ho
  ·exact ZO (fun t ht=>Q3 ht) (by simp) o ho
 |x::P,i,j,out,h,g=>by
  obtain⟨k1,k2,k3,k4,k5⟩:=h
  rw[Kq]
  refine dh one a b N P _ _ _ k5 fun o ho=>?_
  rcases List.mem_append.1 ho with ho | ho
  ·rcases List.mem_append.1 ho with ho | ho
   ·rcases List.mem_append.1 ho with ho | ho
    ·exact g o ho
    ·exact ar (fun t ht=>O5 (Q3 ht)) (by simp;omega) o ho
   ·exact ZO (fun t ht=>O5 (Q3 ht)) (by simp;omega) o ho
  ·rw[List.mem_singleton] at ho
   subst ho
   have e1:a.getD x.i T0=a[x.i]:=by simp[k3]
   have e2:b.getD x.j T0=b[x.j]:=by simp[k4]
   rw[e1,e2]
   exact .desc _ _ (Bq k3) (Bq k4)
theorem br (one:T→T→E) (a b:List T) (N:Nat):∀ o,o ∈ DM one a b→Zb one a b N o:=dh one a b N _ 0 0 [] (Wk a b) (by simp)
theorem LK {gap:List T→List T→List OP} {I:List T→List T→List OP→Prop} {S0:List Sp} (h0:∀ s,s ∈ S0→∀ a b out,I a b out→I (a.drop s.n) (b.drop s.n) (out++[.mk 0 s.n [] E0])) (h1:∀ n a b out,I a b out→I (a.drop n) b (out++CS (a.take n))) (h2:∀ n a b out,I a b out→I a (b.drop n) (out++CY (b.take n))) (h3:∀ n m a b out,I a b out→I (a.drop n) (b.drop m) (out++gap (a.take n) (b.take m))):∀ (S:List Sp) (a b:List T) (out:List OP),(∀ s,s ∈ S→s ∈ S0)→I a b out→∃ a' b',I a' b' (Cv gap S a b out)
 |[],a,b,out,hS,h=>⟨a,b,by rw[Cv];exact h⟩
 |[s],a,b,out,hS,h=>by
  have hs:=hS s (by simp)
  rw[Cv]
  split
  ·exact⟨_,_,h0 s hs a b out h⟩
  ·split
   ·exact⟨_,_,h2 s.n a b out h⟩
   ·exact⟨_,_,h1 s.n a b out h⟩
 |s::s2::ss,a,b,out,hS,h=>by
  have hs:=hS s (by simp)
  have hS1:∀ x,x ∈ s2::ss→x ∈ S0:=fun x hx=>hS x (List.mem_cons_of_mem _ hx)
  have hS2:∀ x,x ∈ ss→x ∈ S0:=fun x hx=>hS1 x (List.mem_cons_of_mem _ hx)
  rw[Cv]
  split
  ·exact LK h0 h1 h2 h3 (s2::ss) _ _ _ hS1 (h0 s hs a b out h)
  ·split
   ·exact LK h0 h1 h2 h3 (s2::ss) _ _ _ hS1 (h2 s.n a b out h)
   ·split
    ·exact LK h0 h1 h2 h3 ss _ _ _ hS2 (h3 s.n s2.n a b out h)
    ·exact LK h0 h1 h2 h3 (s2::ss) _ _ _ hS1 (h1 s.n a b out h)
theorem qR {gap:List T→List T→List OP} (hg:∀ x y,Dp (gap x y)≤x.length+y.length) (S:List Sp) (a b:List T):Dp (Cv gap S a b [])≤a.length+b.length:=by
 obtain⟨a',b',h⟩:=LK (gap:=gap) (S0:=S) (I:=fun a' b' out=>Dp out+a'.length+b'.length≤a.length+b.length) (fun s hs a b out h=>by
  rw[G6,show Dp [OP.mk 0 (s.n:Nat) [] E0]=0 from rfl,List.length_drop,List.length_drop];omega) (fun n a b out h=>by
  rw[G6,S7,List.length_drop,List.length_take];omega) (fun n a b out h=>by
  rw[G6,SX,List.length_drop,List.length_take];omega) (fun n m a b out h=>by
  have:=hg (a.take n) (b.take m)
  rw[List.length_take,List.length_take] at this
  rw[G6,List.length_drop,List.length_drop];omega) S a b [] (fun s hs=>hs) (by rw[show Dp []=0 from rfl];omega)
 omega
theorem rk {one:T→T→E} {gap:List T→List T→List OP} {N:Nat} (hg:∀ x y,∀ o,o ∈ gap x y→Zb one x y N o) (S:List Sp) (hS:∀ s,s ∈ S→s.n≤N) (a b:List T):∀ o,o ∈ Cv gap S a b []→Zb one a b N o:=by
 have app:∀ {out l:List OP},(∀ o,o ∈ out→Zb one a b N o)→(∀ o,o ∈ l→Zb one a b N o)→∀ o,o ∈ out++l→Zb one a b N o:=fun h1 h2 o ho=>by
  rcases List.mem_append.1 ho with ho | ho
  ·exact h1 o ho
  ·exact h2 o ho
 have dr:∀ {x y:List T} (n:Nat),((∀ t,t ∈ x→t ∈ y)∧x.length≤y.length)→(∀ t,t ∈ x.drop n→t ∈ y)∧(x.drop n).length≤y.length:=fun n h=>⟨fun t ht=>h.1 t (Q3 ht),by rw[List.length_drop];omega⟩
 have tk:∀ {x y:List T} (n:Nat),((∀ t,t ∈ x→t ∈ y)∧x.length≤y.length)→(∀ t,t ∈ x.take n→t ∈ y)∧(x.take n).length≤y.length:=fun n h=>⟨fun t ht=>h.1 t (O5 ht),by rw[List.length_take];omega⟩
 obtain⟨a',b',_,_,h⟩:=LK (gap:=gap) (S0:=S) (I:=fun a' b' out=>((∀ t,t ∈ a'→t ∈ a)∧a'.length≤a.length)∧((∀ t,t ∈ b'→t ∈ b)∧b'.length≤b.length)∧∀ o,o ∈ out→Zb one a b N o) (fun s hs x y out h=>⟨dr _ h.1,dr _ h.2.1,app h.2.2 fun o ho=>by
   simp at ho;subst ho;exact .keep s.n (hS s hs)⟩) (fun n x y out h=>⟨dr _ h.1,h.2.1,app h.2.2 (ar (tk n h.1).1 (tk n h.1).2)⟩) (fun n x y out h=>⟨h.1,dr _ h.2.1,app h.2.2 (ZO (tk n h.2.1).1 (tk n h.2.1).2)⟩) (fun n m x y out h=>⟨dr _ h.1,dr _ h.2.1,app h.2.2 fun o ho=>nP (tk n h.1).1 (tk m h.2.1).1 (tk n h.1).2 (tk m h.2.1).2 (hg _ _ o ho)⟩) S a b [] (fun s hs=>hs) ⟨⟨fun t ht=>ht,BW _⟩,⟨fun t ht=>ht,BW _⟩,by simp⟩
 exact h
theorem Oe {gap:List T→List T→List OP} (hg:∀ x y,(gap x y).length≤50):∀ (S:List Sp) (a b:List T) (out:List OP),(Cv gap S a b out).length≤out.length+50*S.length
 |[],a,b,out=>by rw[Cv];omega
 |[s],a,b,out=>by
  have d1:(CS (a.take s.n)).length≤1:=by unfold CS;split<;>simp
  have d2:(CY (b.take s.n)).length≤1:=by unfold CY;split<;>simp
  rw[Cv]
  split
  ·simp
  ·split<;>(rw[List.length_append];simp only[List.length_cons,List.length_nil];omega)
 |s::s2::ss,a,b,out=>by
  have d1:(CS (a.take s.n)).length≤1:=by unfold CS;split<;>simp
  have d2:(CY (b.take s.n)).length≤1:=by unfold CY;split<;>simp
  rw[Cv]
  split
  ·have:=Oe hg (s2::ss) (a.drop s.n) (b.drop s.n) (out++[.mk 0 s.n [] E0])
   simp only[List.length_append,List.length_cons,List.length_nil] at this ⊢
   omega
  ·split
   ·have:=Oe hg (s2::ss) a (b.drop s.n) (out++CY (b.take s.n))
    simp only[List.length_append,List.length_cons,List.length_nil] at this ⊢
    omega
   ·split
    ·have:=Oe hg ss (a.drop s.n) (b.drop s2.n) (out++gap (a.take s.n) (b.take s2.n))
     have:=hg (a.take s.n) (b.take s2.n)
     simp only[List.length_append,List.length_cons,List.length_nil] at this ⊢
     simp only[List.length_append] at *
     omega
    ·have:=Oe hg (s2::ss) (a.drop s.n) b (out++CS (a.take s.n))
     simp only[List.length_append,List.length_cons,List.length_nil] at this ⊢
     omega
noncomputable def bP (one:T→T→E) (most:Int) (a b:T):List OP:=if (BN (Lw a) (Lv a b):Int)≤most then Cv (DM one) (HK (Gg (Lw a) (Lv a b))) a.kids b.kids [] else DM one a.kids b.kids
theorem db (one:T→T→E) (most:Int) (a b:T):IQ one most a b = .mk 3 T0 T0 [] [] a.kind (bP one most a b):=rfl
theorem ZF (a:T):(Lw a).length=a.kids.length:=by simp[Lw,np,Bl]
theorem ZL (a b:T):(Lv a b).length=b.kids.length:=by simp[Lv,np,Bl]
theorem Um:∀ {l:List Sp} {s:Sp},s ∈ l→s.k ≠ 2→s.n≤dA (AJ l)
 |x::l,s,h,hk=>by
  rw[Aw,Dl,DN]
  rcases List.mem_cons.1 h with rfl | h
  ·rw[if_neg hk];omega
  ·have:=Um h hk;omega
theorem SS:∀ {l:List Sp} {s:Sp},s ∈ l→s.k ≠ 1→s.n≤dB (AJ l)
 |x::l,s,h,hk=>by
  rw[Aw,Dk,DL]
  rcases List.mem_cons.1 h with rfl | h
  ·rw[if_neg hk];omega
  ·have:=SS h hk;omega
theorem AdB (a b:T) {s:Sp} (h:s ∈ HK (Gg (Lw a) (Lv a b))):s.n≤a.kids.length+b.kids.length:=by
 have wd:=WO (Lw a) (Lv a b)
 have wi:=Sa (Lw a) (Lv a b)
 have wn:=P6 _ wi
 rw[ZF,ZL] at wd
 by_cases hk:s.k=2
 ·have:=SS h (by omega);omega
 ·have:=Um h hk;omega
theorem dH (one:T→T→E) (most:Int) (a b:T):∀ o,o ∈ bP one most a b→Zb one a.kids b.kids (a.kids.length+b.kids.length) o:=by
 unfold bP
 split
 ·exact rk (fun x y=>br one x y _) _ (fun s hs=>AdB a b hs) _ _
 ·exact br one _ _ _
theorem qX (one:T→T→E) (most:Int) (a b:T):Dp (bP one most a b)≤a.kids.length+b.kids.length:=by
 unfold bP
 split
 ·exact qR (fun x y=>bn one x y) _ _ _
 ·exact bn one _ _
theorem bT (one:T→T→E) (most:Int) (a b:T):(bP one most a b).length≤50*(a.kids.length+b.kids.length)+50:=by
 unfold bP
 split
 ·have wd:=WO (Lw a) (Lv a b)
  have wi:=Sa (Lw a) (Lv a b)
  have wn:=P6 _ wi
  have:=HH _ (NH wi)
  have h:=Oe (NB one) (HK (Gg (Lw a) (Lv a b))) a.kids b.kids []
  rw[ZF,ZL] at wd
  simp only[List.length_nil] at h
  omega
 ·have:=NB one a.kids b.kids
  omega
theorem jm:∀ {l:List KE},(∀ x,x ∈ l→U0 x.e)→fM l
 |[],_=>by rw[fM];trivial
 |.mk a e::l,h=>by
  rw[fM]
  exact⟨h _ (List.mem_cons_self ..),jm fun x hx=>h x (List.mem_cons_of_mem _ hx)⟩
theorem jB:∀ {l:List OP},(∀ x,x ∈ l→(x.kind=0∨x.kind=1∨x.kind=2∨x.kind=3)∧(∀ t,t ∈ x.l→BB t)∧(x.kind=3→U0 x.e))→gr l
 |[],_=>by rw[gr];trivial
 |.mk k n t e::l,h=>by
  rw[gr]
  exact⟨h _ (List.mem_cons_self ..),jB fun x hx=>h x (List.mem_cons_of_mem _ hx)⟩
theorem qY:U0 E0:=by
 unfold E0
 rw[U0]
 exact⟨.inl rfl,fun _=>rfl,fun h=>absurd h (by decide),by simp,by simp,by simp,by simp[Dp],fun h=>absurd h (by decide),fun h=>absurd h (by decide)⟩
theorem iw {a b:T} (ha:BB a) (hb:BB b):U0 (.mk 1 a b [] [] 0 []):=by
 rw[U0]
 exact⟨.inr (.inl rfl),fun _=>rfl,fun _=>⟨ha,hb⟩,by simp,by simp,by simp,by simp[Dp],fun h=>absurd h (by decide),fun h=>absurd h (by decide)⟩
theorem W4 {one:T→T→E} {a b:T} {m:Nat} {x:KE} (h:x ∈ BH one a b m):∃ i:Nat,i<m∧x = .mk i (one (a.kids.getD i T0) (b.kids.getD i T0))∧(one (a.kids.getD i T0) (b.kids.getD i T0)).kind ≠ 0:=by
 unfold BH at h
 rw[List.mem_filterMap] at h
 obtain⟨i,hi,e⟩:=h
 split at e
 ·cases e
 ·rename_i hk
  simp only[Option.some.injEq] at e
  exact⟨i,by simpa using hi,e.symm,hk⟩
theorem te {one:T→T→E} {a b:T} (ha:a.words.length≤1000) (hb:b.words.length≤1000) (ha2:a.kids.length≤1000) (hb2:b.kids.length≤1000) (h:∀ i,U0 (one (a.kids.getD i T0) (b.kids.getD i T0))):U0 (Te one a b):=by
 have h1:=LU a b (max a.words.length b.words.length)
 have h2:=HC one a b (max a.kids.length b.kids.length)
 unfold Te
 rw[U0]
 refine⟨.inr (.inr (.inl rfl)),fun _=>rfl,fun h=>absurd h (by decide),by omega,by omega,by simp,by simp[Dp],fun _=>jm fun x hx=>?_,fun h=>absurd h (by decide)⟩
 obtain⟨i,_,e,_⟩:=W4 hx
 subst e
 exact h i
theorem pU {one:T→T→E} {most:Int} {a b:T} (ha:a.kids.length≤1000) (hb:b.kids.length≤1000) (wa:∀ t,t ∈ a.kids→BB t) (wb:∀ t,t ∈ b.kids→BB t) (h:∀ x,x ∈ a.kids→∀ y,y ∈ b.kids→U0 (one x y)):U0 (IQ one most a b):=by
 have h1:=bT one most a b
 have h2:=qX one most a b
 rw[db,U0]
 refine⟨.inr (.inr (.inr rfl)),fun h=>absurd rfl h,fun h=>absurd h (by decide),by simp,by simp,by omega,by omega,fun h=>absurd h (by decide),fun _=>jB fun x hx=>?_⟩
 cases dH one most a b x hx with
 |keep n h=>exact⟨.inl rfl,fun t (ht:t ∈ ([]:List T))=>by simp at ht,fun h=>absurd h (by show ¬ (0:Int)=3;decide)⟩
 |del l h g k=>exact⟨.inr (.inl rfl),fun t ht=>wa t (g t ht),fun h=>absurd h (by show ¬ (1:Int)=3;decide)⟩
 |ins l h g k=>exact⟨.inr (.inr (.inl rfl)),fun t ht=>wb t (g t ht),fun h=>absurd h (by show ¬ (2:Int)=3;decide)⟩
 |desc p q hp hq=>exact⟨.inr (.inr (.inr rfl)),fun t (ht:t ∈ ([]:List T))=>by simp at ht,fun _=>h p hp q hq⟩
theorem R4 (most:Int):∀ (f g:Nat) (a b:T),Va f a→Va g b→U0 (LC most f a b)
 |0,g,a,b,ha,hb=>by
  rw[LC]
  split
  ·exact qY
  ·exact iw (Bc ha).1 (Bc hb).1
 |f+1,g,a,b,ha,hb=>by
  obtain⟨a1,a2,a3,a4⟩:=Bc ha
  obtain⟨b1,b2,b3,b4⟩:=Bc hb
  rw[LC]
  split
  ·exact qY
  ·split
   ·exact te a3 b3 a4 b4 fun i=>R4 most f (g-1) _ _ (Li ha i) (Li hb i)
   ·split
    ·exact pU a4 b4 (fun t ht=>(Bc (Cw ha t ht)).1) (fun t ht=>(Bc (Cw hb t ht)).1) fun x hx y hy=>R4 most f (g-1) x y (Cw ha x hx) (Cw hb y hy)
    ·exact iw a1 b1
theorem ig {l:List T} {t:T} (h:t ∈ l):F9 t≤IE l:=by
 induction l with
 |nil=>simp at h
 |cons x l ih=>
  rw[bF]
  have hp:=Vz x
  have hl:=VP l
  rcases List.mem_cons.1 h with rfl | h
  ·omega
  ·have:=ih h;omega
theorem HB:∀ (t:T),BB t→F9 t≤1000→∀ f:Nat,F9 t≤f→Va f (Ai t):=by
 refine T.ind fun k w l ih hw hp f hf=>?_
 rw[j4] at hp hf
 have hl:=VP l
 have hks:=(wfT_iff.1 hw).ks
 cases f with
 |zero=>omega
 |succ f=>
  have hk:∀ t,t ∈ l→Va f (Ai t):=fun t ht=>by
   have:=ig ht
   exact ih t ht (hks t ht) (by omega) f (by omega)
  rw[Va]
  refine .inr ⟨GM _ hw,LA _,?_,?_,?_⟩
  ·rw[B2]
   split
   ·simp
   ·split
    ·have:=Oc w
     show(BT w).length≤1000
     omega
    ·show w.length≤1000
     omega
  ·rw[B2]
   split
   ·simp
   ·split
    ·have:=Mf (l.map Ai)
     rw[List.length_map] at this
     show(BC (l.map Ai)).length≤1000
     omega
    ·show(l.map Ai).length≤1000
     rw[List.length_map]
     omega
  ·intro x hx
   have hx':x ∈ l.map Ai:=by
    rw[B2] at hx
    split at hx
    ·simp at hx
    ·split at hx
     ·have hx2:x ∈ BC (l.map Ai):=hx
      rw[QW] at hx2
      exact O5 hx2
     ·exact hx
   obtain⟨t,ht,rfl⟩:=List.mem_map.1 hx'
   exact hk t ht
end Go.Proofs.YtbjmaoedheiigaaGreat
