/-
 Texts,merged,without what is not reached.
-/
import Derived.Test.YtndnlknocdangaaGreatKNd
set_option linter.unusedSimpArgs false
set_option linter.unusedVariables false
open Go.IntKind (i64 u64)
namespace Go.Proofs.YtndnlknocdangaaGreat
open Go Go.G Go.Proofs Go.PL
def bJ (g:Nat→Nat):List A:=[iv (g 0),iv (g 1),iv (g 2)]
def tE (l:List Sp) (v:Nat) (g:Nat→Nat):Fam:=⟨fun r p=>if p=[] then ⟨1,.cells [.osl (r::[0]) v 2 0 l.length]⟩ else if p=[0] then ⟨v,.arr 2 (l.map Mp)⟩ else if p=[1] then ⟨1,.cells (bJ g)⟩ else ⟨0,.none⟩,fun {γ δ r r'} hg hd p=>by
  by_cases h1:p=[]
  ·rw[if_pos h1,if_pos h1];refine Fam.cells_ren ?_;simp[A.renL,A.ren,hg,hd]
  ·rw[if_neg h1,if_neg h1];by_cases h2:p=[0]
   ·rw[if_pos h2];refine Fam.arr_ren ?_;have e:∀ x:Sp,(Mp x).ren γ δ=Mp x:=fun x=>by simp[Mp,Uq,A.ren,A.renL]
    simp only[Co,List.map_map];refine List.map_congr_left fun x _=>?_;exact e x
   ·rw[if_neg h2];by_cases h3:p=[1]
    ·rw[if_pos h3];refine Fam.cells_ren ?_;simp[A.renL,A.ren,bJ]
    ·rw[if_neg h3];rfl,fun {D r} hD p=>by
  by_cases h1:p=[]
  ·rw[if_pos h1];simp[Ob.refs,A.refsL,A.refs,hD]
  ·rw[if_neg h1];by_cases h2:p=[0]
   ·rw[if_pos h2];simp only[Ob.refs,refsL_iff];intro y hy;obtain⟨x,_,rfl⟩:=List.mem_map.1 hy;simp[A.refs,A.refsL,Mp,Uq]
   ·rw[if_neg h2];by_cases h3:p=[1]
    ·rw[if_pos h3];simp[Ob.refs,A.refsL,A.refs,bJ]
    ·rw[if_neg h3];trivial⟩
@[simp] theorem Ah0 {l:List Sp} {v r:Nat} {g:Nat→Nat} {p:Nm}:(tE l v g).F r p=if p=[] then ⟨1,.cells [.osl (r::[0]) v 2 0 l.length]⟩ else if p=[0] then ⟨v,.arr 2 (l.map Mp)⟩ else if p=[1] then ⟨1,.cells (bJ g)⟩ else ⟨0,.none⟩:=rfl
def Q5:List Nat→(Nat→Nat)→List Sp
 |[],_=>[]
 |k::ks,g=>fl k (g k)++Q5 ks (fun q=>if q=k then 0 else g q)
def Oi:List Nat→(Nat→Nat)→Nat→Nat
 |[],g=>g
 |k::ks,g=>Oi ks (fun q=>if q=k then 0 else g q)
abbrev nvs (ks:List Nat):A:=.sl true (ks.map fun k:Nat=>iv (k:Int))
theorem cm (s:Sp):G.Spec Tryz.prog 159 [Mp s] (bv (decide (s.k≤2∧1≤s.n∧s.n≤1048576))):=by
 refine Al MS (by simp) fun w0 I0=>?_;unfold HT;have m0:(0:Int)≤(s.k:Int):=by omega
 by_cases h1:s.k≤2
 ·by_cases h2:1≤s.n
  ·by_cases h3:s.n≤1048576
   ·simp[Mp,Uq,m0,h1,h2,h3,show(s.k:Int)≤2 by omega,show(1:Int)≤s.n by omega,show(s.n:Int)≤1048576 by omega];exact Ad rfl
   ·simp[Mp,Uq,m0,h1,h2,h3,show(s.k:Int)≤2 by omega,show(1:Int)≤s.n by omega,show ¬ (s.n:Int)≤1048576 by omega];exact Ad rfl
  ·simp[Mp,Uq,m0,h1,h2,show(s.k:Int)≤2 by omega,show ¬ (1:Int)≤s.n by omega];exact BE (by simp)
 ·simp[Mp,Uq,m0,h1,show ¬ (s.k:Int)≤2 by omega];exact Ad rfl
variable {n0:Nat} {w0:World} {I0:Nat→Prop} {M0:Nm→Nat→Prop} {m0:Mu} {Q:Exit→Sta→Prop}
theorem kn {ks:List Nat} (hks:∀ k,k ∈ ks→k≤2) (hkl:ks.length≤1000) {l0:List Sp} {v0:Nat} {g0:Nat→Nat} (hq:∀ H' st,(∀ p,H' (0::p)=(tE (l0++Q5 ks g0) (v0+(Q5 ks g0).length) (Oi ks g0)).F 0 p)→Q (.exit 0) ⟨lk st,H'⟩):∀ (m j:Nat) (l:List Sp) (v:Nat) (g:Nat→Nat) (H:Hp),j+m=ks.length→l.length+m≤100000000→(∀ p,H (0::p)=(tE l v g).F 0 p)→l0++Q5 ks g0=l++Q5 (ks.drop j) g→v0+(Q5 ks g0).length=v+(Q5 (ks.drop j) g).length→Oi ks g0=Oi (ks.drop j) g →
  LoopC (DD Tryz.prog w0 I0 M0 n0 m0) D6 Q ⟨lk [(1,.pob [0,1] 1 0),(2,.pob [0] 1 0),(6,nvs ks),(7,iv ks.length),(8,iv j)],H⟩:=by
 intro m;induction m with
 |zero=>
  intro j l v g H hm hl hH e1 e2 e3;refine Ab Ai D6.eq_1 ?_;have:j=ks.length:=by omega
  subst this;rw[List.drop_length] at e1 e2 e3;simp;refine hq H _ fun p=>?_;rw[e1,e2,e3,hH];simp[Q5,Oi]
 |succ m ih=>
  intro j l v g H hm hl hH e1 e2 e3;have hlt:j<ks.length:=by omega
  have ew:=AW j;have hd:ks.drop j=ks[j]::ks.drop (j+1):=(List.getElem_cons_drop hlt).symm;rw[hd] at e1 e2 e3;have hk:=hks _ (C5 hlt);generalize hkk:ks[j]=k at *;simp only[Q5,Oi] at e1 e2 e3;have hH0:=hH [];have hH1:=hH [0];have hH2:=hH [1];simp at hH0 hH1 hH2;refine Ab Ai D6.eq_1 ?_;have hk3:k=0∨k=1∨k=2:=by omega
  by_cases h:0<g k
  ·rw[R4 h] at e1 e2;have next:=fun (H':Hp) hF=>ih (j+1) (l++[⟨k,g k⟩]) (v+1) (fun q=>if q=k then 0 else g q) H' (by omega) (by simp;omega) hF (by rw[e1];simp) (by rw[e2];simp;omega) e3
   rcases hk3 with rfl | rfl | rfl;all_goals
    simp[hlt,hkk,hH0,hH1,hH2,bJ,h,ew,Aa,dD];refine⟨by omega,?_⟩;refine next _ (fun p=>?_)
    by_cases h1:p=[]
    ·subst h1;simp[Aa]
    ·by_cases h2:p=[0]
     ·subst h2;simp[Aa,Mp,Uq,AX]
     ·by_cases h3:p=[1]
      ·subst h3;simp[Aa,bJ]
      ·simp[h1,h2,h3,Aa,hH]
  ·have h0:g k=0:=by omega
   rw[h0] at e1 e2;rcases hk3 with rfl | rfl | rfl;all_goals
    simp[hlt,hkk,hH0,hH1,hH2,bJ,h0,ew,Aa];refine ih (j+1) l v _ _ (by omega) (by omega) (fun p=>?_) (by rw[e1];simp) (by rw[e2];simp) e3;by_cases h1:p=[]
    ·subst h1;simp[Aa,hH0]
    ·by_cases h2:p=[0]
     ·subst h2;simp[Aa,hH1]
     ·by_cases h3:p=[1]
      ·subst h3;simp[Aa,bJ]
      ·simp[h1,h2,h3,Aa,hH]
theorem Kj {ks:List Nat} (hks:∀ k,k ∈ ks→k≤2) (hkl:ks.length≤1000) (l:List Sp) (v:Nat) (g:Nat→Nat) (hl:l.length≤10000000):SpecF Tryz.prog 158 (fun r=>[nvs ks,.pob (r::[1]) 1 0,.pob [r] 1 0]) (tE l v g) (fun _=>.tup []) (tE (l++Q5 ks g) (v+(Q5 ks g).length) (Oi ks g)):=by
 refine Aq O7 (by simp) (Ae Ba (Ae Au (Ae Au Ah))) (A5 Ah) fun w0 I0 M0 m0=>?_;unfold Jl;simp;refine LoopC.le (Ao [(1,.pob [0,1] 1 0),(2,.pob [0] 1 0),(6,nvs ks),(7,iv ks.length),(8,iv (0:Nat))] (by simp)) ?_;refine kn hks hkl (l0:=l) (v0:=v) (g0:=g) (fun H' st hH=>?_) ks.length 0 l v g _ (by omega) (by omega) (fun p=>by simp) (by simp) (by simp) (by simp);simp;exact AU rfl rfl hH
abbrev qR:A:=.fnc 158 [] [.pob [0,1] 1 0,.pob [0] 1 0]
abbrev ZL (l:List Sp):A:=.sl false (l.map Mp)
theorem pX (g:Nat→Nat):N9 [] (g 0) (g 1) (g 2)=Q5 [0,1,2] g:=by simp[N9,Q5]
theorem RB (ks:List Nat) (g:Nat→Nat):(Q5 ks g).length≤ks.length:=by
 induction ks generalizing g with
 |nil=>simp[Q5]
 |cons k ks ih=>
  have:=ih (fun q=>if q=k then 0 else g q);have:=HO k (g k);simp[Q5];omega
theorem V0:∀ (ks:List Nat) (g:Nat→Nat) (B q:Nat),(∀ q,g q≤B)→Oi ks g q≤B
 |[],g,B,q,h=>h q
 |k::ks,g,B,q,h=>V0 ks _ B q fun q=>by
  show(if q=k then 0 else g q)≤B;split
  ·omega
  ·exact h q
theorem rP {n0:Nat} {w0:World} {I0:Nat→Prop} {Q:Exit→Sta→Prop} {all:List Sp} (hok:∀ s,s ∈ all→s.may) (hal:all.length≤1000000) {R:List Sp}
  (hq:∀ (H':Hp) (out:List Sp) (v:Nat) (g:Nat→Nat) st,(∀ p,H' (0::p)=(tE out v g).F 0 p)→out++Q5 [0,1,2] g=R→out.length≤2000000→Q (.exit 0) ⟨lk ([(3,.pob [0] 1 0),(4,.pob [0,1] 1 0),(5,qR)]++st),H'⟩):∀ (m i:Nat) (out:List Sp) (v:Nat) (g:Nat→Nat) (H:Hp),i+m=all.length→out.length≤2*i→(∀ q,g q≤i*1048576)→(g 0=0∨(g 1=0∧g 2=0))→(∀ p,H (0::p)=(tE out v g).F 0 p)→out++N9 (Bb (all.drop i)) (g 0) (g 1) (g 2)=R →
  LoopC (cx Tryz.prog w0 I0 n0) DH Q ⟨lk [(3,.pob [0] 1 0),(4,.pob [0,1] 1 0),(5,qR),(9,ZL all),(10,iv all.length),(11,iv i)],H⟩:=by
 intro m;induction m with
 |zero=>
  intro i out v g H hm hl hg h01 hH hR;refine Ab Ai DH.eq_1 ?_;have:i=all.length:=by omega
  subst this;rw[List.drop_length,Ip,pX] at hR;simp;exact hq H out v g [(9,ZL all),(10,iv all.length),(11,iv all.length),(12,bv false)] hH hR (by omega)
 |succ m ih=>
  intro i out v g H hm hl hg h01 hH hR;have hlt:i<all.length:=by omega
  have ew:=AW i;have hd:all.drop i=all[i]::all.drop (i+1):=(List.getElem_cons_drop hlt).symm;have hs:=hok _ (C5 hlt);rw[hd,Bl] at hR;generalize hss:all[i]=s at *;have hsr:=cm s;have hg0:=hg 0;have hg1:=hg 1;have hg2:=hg 2;refine Ab Ai DH.eq_1 ?_;have hspC:Uq s=[iv s.k,iv s.n]:=rfl;simp[hlt,hss,hspC];refine Af hsr (by simp[Mp,Uq,Aa]) ?_;by_cases hn:1≤s.n
  ·have hdec:decide (s.k≤2∧1≤s.n∧s.n≤1048576)=true:=by have:=hs.1;have:=hs.2;simp;omega
   simp[hdec,Aa];have next:∀ (o2:List Sp) (v2:Nat) (g2:Nat→Nat) (H2:Hp),o2.length≤out.length+2→(∀ q,g2 q≤(i+1)*1048576)→(g2 0=0∨(g2 1=0∧g2 2=0))→(∀ p,H2 (0::p)=(tE o2 v2 g2).F 0 p)→o2++N9 (Bb (all.drop (i+1))) (g2 0) (g2 1) (g2 2)=R→LoopC (cx Tryz.prog w0 I0 n0) DH Q ⟨lk [(3,.pob [0] 1 0),(4,.pob [0,1] 1 0),(5,qR),(9,ZL all),(10,iv all.length),(11,iv (i+1:Nat))],H2⟩:=fun o2 v2 g2 H2 h1 h2 h3 h4 h5=>ih (i+1) o2 v2 g2 H2 (by omega) (by omega) h2 h3 h4 h5
   have hk3:s.k=0∨s.k=1∨s.k=2:=by have:=hs.1;omega
   rcases hk3 with hk | hk | hk
   ·have F1:=Kj (ks:=[1,2]) (by simp) (by simp) out v g (by omega);have hlen:=RB [1,2] g;rw[hk,YW s.n _ _ _ _ (by omega) (by omega)] at hR;have ev:i64.wrap ((g 0:Int)+s.n)=((g 0+s.n:Nat):Int):=by have:=hs.2;rw[Bf (by omega) (by omega)];omega
    simp[hk];refine RV 0 rfl F1 (fun p=>by simp[Aa,hH]) (by simp) (by simp) ?_;simp;rw[Fi.eq_1];simp[Aa,bJ,Oi,ew,ev,hk];refine next (out++Q5 [1,2] g) (v+(Q5 [1,2] g).length) (fun q=>if q=0 then g 0+s.n else Oi [1,2] g q) _ (by simp at hlen;simp;omega) (fun q=>?_) ?_ (fun p=>?_) ?_
    ·have hb:∀ (ks:List Nat) (g:Nat→Nat) (B q:Nat),(∀ q,g q≤B)→Oi ks g q≤B:=V0;show(if q=0 then g 0+s.n else Oi [1,2] g q)≤_;have h3:=hs.2;split
     ·omega
     ·exact Nat.le_trans (hb _ g _ q hg) (Nat.mul_le_mul_right _ (by omega))
    ·simp[Oi]
    ·by_cases h1:p=[]
     ·subst h1;simp[Aa]
     ·by_cases h2:p=[0]
      ·subst h2;simp[Aa]
      ·by_cases h3:p=[1]
       ·subst h3;simp[Aa,bJ,Oi]
       ·simp[h1,h2,h3,Aa]
    ·simp only[Oi,Q5] at hR ⊢;simpa using hR
   ·have F1:=Kj (ks:=[0]) (by simp) (by simp) out v g (by omega);have hlen:=RB [0] g;rw[hk,V7 s.n _ _ _ _ (by omega)] at hR;have ev:i64.wrap ((g 1:Int)+s.n)=((g 1+s.n:Nat):Int):=by have:=hs.2;rw[Bf (by omega) (by omega)];omega
    simp[hk];refine RV 0 rfl F1 (fun p=>by simp[Aa,hH]) (by simp) (by simp) ?_;simp;rw[Fi.eq_1];simp[Aa,bJ,Oi,ew,ev,hk];refine next (out++Q5 [0] g) (v+(Q5 [0] g).length) (fun q=>if q=1 then g 1+s.n else Oi [0] g q) _ (by simp at hlen;simp;omega) (fun q=>?_) ?_ (fun p=>?_) ?_
    ·have hb:∀ (ks:List Nat) (g:Nat→Nat) (B q:Nat),(∀ q,g q≤B)→Oi ks g q≤B:=V0;show(if q=1 then g 1+s.n else Oi [0] g q)≤_;have h3:=hs.2;split
     ·omega
     ·exact Nat.le_trans (hb _ g _ q hg) (Nat.mul_le_mul_right _ (by omega))
    ·simp[Oi]
    ·by_cases h1:p=[]
     ·subst h1;simp[Aa]
     ·by_cases h2:p=[0]
      ·subst h2;simp[Aa]
      ·by_cases h3:p=[1]
       ·subst h3;simp[Aa,bJ,Oi]
       ·simp[h1,h2,h3,Aa]
    ·simp only[Oi,Q5] at hR ⊢;simpa using hR
   ·have F1:=Kj (ks:=[0]) (by simp) (by simp) out v g (by omega);have hlen:=RB [0] g;rw[hk,RF s.n _ _ _ _ (by omega)] at hR;have ev:i64.wrap ((g 2:Int)+s.n)=((g 2+s.n:Nat):Int):=by have:=hs.2;rw[Bf (by omega) (by omega)];omega
    simp[hk];refine RV 0 rfl F1 (fun p=>by simp[Aa,hH]) (by simp) (by simp) ?_;simp;rw[Fi.eq_1];simp[Aa,bJ,Oi,ew,ev,hk];refine next (out++Q5 [0] g) (v+(Q5 [0] g).length) (fun q=>if q=2 then g 2+s.n else Oi [0] g q) _ (by simp at hlen;simp;omega) (fun q=>?_) ?_ (fun p=>?_) ?_
    ·have hb:∀ (ks:List Nat) (g:Nat→Nat) (B q:Nat),(∀ q,g q≤B)→Oi ks g q≤B:=V0;show(if q=2 then g 2+s.n else Oi [0] g q)≤_;have h3:=hs.2;split
     ·omega
     ·exact Nat.le_trans (hb _ g _ q hg) (Nat.mul_le_mul_right _ (by omega))
    ·simp[Oi]
    ·by_cases h1:p=[]
     ·subst h1;simp[Aa]
     ·by_cases h2:p=[0]
      ·subst h2;simp[Aa]
      ·by_cases h3:p=[1]
       ·subst h3;simp[Aa,bJ,Oi]
       ·simp[h1,h2,h3,Aa]
    ·simp only[Oi,Q5] at hR ⊢;simpa using hR
  ·have hdec:decide (s.k≤2∧1≤s.n∧s.n≤1048576)=false:=by simp;omega
   have h0:s.n=0:=by omega
   simp[hdec,ew,Aa,BR];refine ih (i+1) out v g _ (by omega) (by omega) (fun q=>Nat.le_trans (hg q) (Nat.mul_le_mul_right _ (by omega))) h01 (fun p=>?_) ?_
   ·simp[Aa,hH]
   ·rw[h0] at hR;simpa using hR
theorem lJ {H:Hp} {o:Nm} {u n:Nat} {l:List Sp} (h:H o=⟨u,.arr 2 (l.map Mp)⟩) (hn:n=l.length):b7 H (.osl o u 2 0 n) (ZL l):=by
 subst hn;have:=PI (H:=H) (o:=o) (u:=u) (off:=0) (len:=l.length) (sz:=2) (xs:=l.map Mp) (by simp[h]) (by simp) (by
  simp only[List.drop_zero,List.all_eq_true];intro x hx;obtain⟨s,_,rfl⟩:=List.mem_map.1 (OB hx);rfl)
 rw[List.drop_zero,AX (by simp)] at this;exact this
theorem S8 {all:List Sp} (hok:∀ s,s ∈ all→s.may) (hal:all.length≤1000000):SpecB Tryz.prog 123 [ZL all] (ZL (JD (Bb all))):=by
 refine J9 Rj (by simp) fun w0 I0=>?_;unfold KY;simp;refine LoopC.le (BX (d:=[0]) (u:=1) (cs:=[.sl true []]) 0 [0,0] 2 rfl rfl (by simp)) ?_;refine LoopC.le (Ao [(3,.pob [0] 1 0),(4,.pob [0,1] 1 0),(5,qR),(9,ZL all),(10,iv all.length),(11,iv (0:Nat))] (by simp)) ?_;refine rP hok hal (R:=JD (Bb all)) (fun H' out v g st hH hR hl=>?_) all.length 0 [] 1 (fun _=>0) _ (by omega) (by simp) (fun q=>by omega) (.inl rfl) (fun p=>?_) (by simp[JD])
 ·have F1:=Kj (ks:=[0,1,2]) (by simp) (by simp) out v g (by omega);have hlen:=RB [0,1,2] g;simp;refine RV 0 rfl F1 hH (by simp) (by simp) ?_;simp;rw[← hR];exact lJ (by simp) (by simp)
 ·by_cases h1:p=[]
  ·subst h1;simp[Aa]
  ·by_cases h2:p=[0]
   ·subst h2;simp[Aa]
   ·by_cases h3:p=[1]
    ·subst h3;simp[Aa,bJ]
    ·simp[h1,h2,h3,Ne.symm h1,Ne.symm h2,Ne.symm h3,Aa]
theorem gQ {all:List Sp} (hok:∀ s,s ∈ all→s.may) (hal:all.length≤1000000):G.Spec Tryz.prog 123 [ZL all] (ZL (JD (Bb all))):=(S8 hok hal).spec
theorem vN {s:Sp} (h:s.ok):s.may:=⟨h.1,h.2.2⟩
theorem aM {a b:List Int} (ha:a.length≤300000) (hb:b.length≤1000000) {M0:Int} (hM0:BN M0):G.Spec Tryz.prog 122 [Fc a,Fc b,iv M0] (if (CH a b:Int)≤M0 then .tup [ZL (JD (FH a b)),bv true] else .tup [.sl false [],bv false]):=by
 obtain⟨d,hD⟩:=iy (a:=a) (b:=b) (by omega) hb hM0;obtain⟨sts,h1,h2,h3,h4⟩:=lC a.length a b (Cj _) (by omega) hb;have hN:=S8 (all:=sts) (fun s hs=>vN (h2 s hs)) (by omega);rw[h1] at hN;refine Al aQ (by simp) fun w0 I0=>?_;unfold TR;simp;refine Af hD (by simp) ?_;by_cases h:(CH a b:Int)≤M0
 ·have hF:=h4 [] 1 (by simp;omega);simp[h];refine Hl (BX (d:=[0]) (u:=1) (cs:=[.sl true []]) 0 [0,0] 2 rfl rfl (by simp)) (Gs ?_);simp;refine Ar 0 hF (fun p=>?_) (by simp) (by simp) ?_
  ·by_cases h1:p=[]
   ·subst h1;simp[Aa]
   ·by_cases h2:p=[0]
    ·subst h2;simp[Aa]
    ·simp[h1,h2,Ne.symm h1,Ne.symm h2,Aa]
  ·simp;refine ZV [ZL sts] hN (by simp;exact B0 (l:=sts) (f:=Mp) (by simp) rfl (fun x=>rfl)) (by simp) ?_;simp;exact Ad rfl
 ·simp[h];exact CP (by simp;exact⟨Am,Ad rfl⟩)
section
variable {n0:Nat} {w0:World} {I0:Nat→Prop} {Q:Exit→Sta→Prop}
end
theorem Vn {α:Type} {f:α→A} (h:∀ x,(f x).cells=[f x]) (l:List α):(l.map f).flatMap A.cells=l.map f:=by
 induction l with
 |nil=>rfl
 |cons x l ih=>simp[ih,h]
end Go.Proofs.YtndnlknocdangaaGreat
namespace Go.PL
open Go
def HJ (list:Int) (e:E):Bool:=decide (e.kind=0) || (decide (list=9)&&decide (e.kind=2)&&e.words.isEmpty&&e.kids.isEmpty)
def DE (g:List T):List OP:=if g=[] then [] else [.mk 1 0 g E0]
def B7 (b:List T):List OP:=if b=[] then [] else [.mk 2 0 b E0]
def Rz (out:List OP) (g b:List T):List OP:=out++(DE g++B7 b)
def RH (out:List OP) (n:Int):List OP:=match out.getLast? with
 |some (.mk 0 m l e)=>out.dropLast++[.mk 0 (i64.wrap (m+n)) l e]
 |_=>out++[.mk 0 n [] E0]
def FI (list:Int):List OP→List OP→List T→List T→List OP
 |[],out,g,b=>Rz out g b
 |o::os,out,g,b=>
  if o.kind=0 then FI list os (RH (Rz out g b) o.n) [] []
  else if o.kind=1 then FI list os out (g++o.l.map Ag) b
  else if o.kind=2 then FI list os out g (b++o.l.map Ag)
  else if HJ list o.e=true then FI list os (RH (Rz out g b) 1) [] []
  else FI list os (Rz out g b++[.mk 3 0 [] o.e]) [] []
mutual
def JP:E→E
 |.mk k o n ws ks l os=>if k=1 then .mk 1 (Ag o) (Ag n) [] [] 0 [] else if k=2 then .mk 2 T0 T0 ws (mJ ks) 0 [] else if k=3 then .mk 3 T0 T0 [] [] l (FI l (kh os) [] [] []) else E0
def mJ:List KE→List KE
 |[]=>[]
 |.mk a e::l=>.mk a (JP e)::mJ l
def kh:List OP→List OP
 |[]=>[]
 |.mk k n t e::l=>.mk k n t (JP e)::kh l
end
def Ui (x:KE):KE:=.mk x.at_ (JP x.e)
def Mo (x:OP):OP:=.mk x.kind x.n x.l (JP x.e)
theorem X4:∀ l,mJ l=l.map Ui
 |[]=>by simp[mJ]
 |.mk a e::l=>by rw[mJ,X4 l];rfl
theorem YV:∀ l,kh l=l.map Mo
 |[]=>by simp[kh]
 |.mk k n t e::l=>by rw[kh,YV l];rfl
theorem GZ (k:Int) (o n:T) (ws:List WE) (ks:List KE) (l:Int) (os:List OP):JP (.mk k o n ws ks l os)=if k=1 then .mk 1 (Ag o) (Ag n) [] [] 0 [] else if k=2 then .mk 2 T0 T0 ws (ks.map Ui) 0 [] else if k=3 then .mk 3 T0 T0 [] [] l (FI l (os.map Mo) [] [] []) else E0:=by
 rw[JP,X4,YV]
end Go.PL
namespace Go.Proofs.YtndnlknocdangaaGreat
set_option maxRecDepth 20000
open Go Go.G Go.Proofs
@[simp] theorem Abj:Bh Tryz.prog 30=some (Value.agg #[Value.int i64 0,Value.int i64 0,Value.slice none 0 0,Value.slice none 0 0,Value.int i64 0,Value.slice none 0 0,Value.slice none 0 0,Value.slice none 0 0,Value.slice none 0 0,Value.int i64 0,Value.slice none 0 0]):=by kernel_rfl
@[simp] theorem i6:Aj Tryz.prog 150 0=some 0:=by kernel_rfl
@[simp] theorem jl:Aj Tryz.prog 150 1=some 1:=by kernel_rfl
@[simp] theorem i7:Aj Tryz.prog 150 2=some 2:=by kernel_rfl
@[simp] theorem jh:Aj Tryz.prog 158 0=some 0:=by kernel_rfl
@[simp] theorem xU (ps:List (Nat × A)):Ch Tryz.prog 30 ps=(CT (fun i=>([(0,1),(1,3),(4,3),(7,1),(8,1),(9,1),(10,1)]:List (Nat × Nat))[i]?) [iv 0,iv 0,A.sl true [],A.sl true [],iv 0,A.sl true [],A.sl true [],A.sl true [],A.sl true [],iv 0,A.sl true []] ps).map A.agg:=by kernel_rfl
@[simp] theorem ym (ps:List (Nat × A)):Ch Tryz.prog 85 ps=(CT (fun i=>([(0,1),(1,1),(2,1),(3,1)]:List (Nat × Nat))[i]?) [iv 0,A.v (Value.int IntKind.u8 0),A.v (Value.int u64 0),A.v (Value.int u64 0)] ps).map A.agg:=by kernel_rfl
@[simp] theorem yn (ps:List (Nat × A)):Ch Tryz.prog 88 ps=(CT (fun i=>([(0,1),(1,11)]:List (Nat × Nat))[i]?) [iv 0,iv 0,iv 0,A.sl true [],A.sl true [],iv 0,A.sl true [],A.sl true [],A.sl true [],A.sl true [],iv 0,A.sl true []] ps).map A.agg:=by kernel_rfl
@[simp] theorem xw (ps:List (Nat × A)):Ch Tryz.prog 91 ps=(CT (fun i=>([(0,1),(1,1),(2,1),(3,11)]:List (Nat × Nat))[i]?) [iv 0,iv 0,A.sl true [],iv 0,iv 0,A.sl true [],A.sl true [],iv 0,A.sl true [],A.sl true [],A.sl true [],A.sl true [],iv 0,A.sl true []] ps).map A.agg:=by kernel_rfl
@[simp] theorem uf (ps:List (Nat × A)):Ch Tryz.prog 150 ps=(CT (fun i=>([(0,1),(1,1),(2,1)]:List (Nat × Nat))[i]?) [A.sl true [],A.sl true [],A.sl true []] ps).map A.agg:=by kernel_rfl
@[simp] theorem vC (ps:List (Nat × A)):Ch Tryz.prog 158 ps=(CT (fun i=>([(0,1)]:List (Nat × Nat))[i]?) [A.sl true []] ps).map A.agg:=by kernel_rfl
def Hm:CC:=sR [bQ .lss 6 3 5 8 3] [0,2,3,5,6] (.seq (cD 6 (.skip) (.exit 0)) (.keep [0,2,3,5] (.seq (.block 1 (sR [mO 7 5,aO 4 7] [0,2,3,4,5] (.reg [mO 8 4,mO 9 0,mO 10 4,oO 11 (.binOp .mul 3 (nI 8) (xT 10) 3),bB .shr 12 61 9 11 3,oO 13 (.convert 61 5 (xT 12)),iO 14 170 3 8,sT 5 14 13] [0,2,3,5]))) (.reg [bQ .add 15 3 5 1 3,mO 5 15] [0,2,3,5])))) 
def Px:CC:=sR [aL 2 170 [0]] [0,2] (sR [aL 3 170 [1]] [0,2,3] (sQ [oO 5 (.move (nI 0))] [0,2,3,5] (.block 0 (.loop Hm)) [2,3] (sR [lO 16 170 3,sT 170 2 16] [2] (.ret))))
theorem XE:BU Tryz.prog 178 17 [(.cell 2 170)] Px:=AH Tryz.func178
def Gl:CC:=sR [bQ .lss 13 3 12 8 3] [5,11,12,13] (.seq (cD 13 (.skip) (.exit 0)) (.keep [5,11,12] (.seq (.block 1 (sR [mO 14 12,oO 15 (.index 170 (xT 11) (xT 12)),aO 6 14,aO 7 15] [5,6,7,11,12] (sR [mO 16 7,oO 17 (.binOp .neq 5 (xT 16) (.const (.int .u8 0)) 5)] [5,6,11,12,17] (cD 17 (.reg [mO 18 5,mO 19 6,oO 20 (.binOp .shl 5 (.const (.int .u8 1)) (xT 19) 3),bB .or 21 5 18 20 5,aO 5 21] [5,11,12]) (.skip))))) (.keep [5,11,12] (.reg [bQ .add 22 3 12 1 3,mO 12 22] [5,11,12]))))) 
def Nr:CC:=sR [oO 4 (.assign (.const (.int .u8 0)))] [0,1] (sR [oO 5 (.assign (.const (.int .u8 0)))] [0,1,5] (sQ [mO 8 0,mO 9 1,bB .xor 10 61 8 9 61,cA 11 178 10 61,oO 12 (.move (nI 0))] [5,11,12] (.block 0 (.loop Gl)) [5] (sR [mO 23 5,aO 4 23] [4] (.ret))))
theorem Uu:BU Tryz.prog 155 24 [(.tmp 4)] Nr:=AH Tryz.func155
def Nk:CC:=sR [bX 3 30 1 [0],aB 4 false] [0,3] (sR [fO 5 30 3 0,lO 6 3 5,bQ .eql 7 3 6 0 3,mO 8 7,mG 9 0 8 false,oG 10 (.binOp .eql 3 (xT 9) (nI 9) 3) 8 false,mG 11 10 8 false,fG 12 30 3 0 11 true,lG 13 3 12 11 true,oG 14 (.binOp .eql 3 (xT 13) (nI 2) 3) 11 true,oG 15 (.pick (xT 11) (xT 14) (nB false)) 8 false,mG 16 15 8 false,fG 17 30 3 3 16 true,lG 18 26 17 16 true,oG 19 (bL 18 26) 16 true,fG 20 30 3 4 16 true,lG 21 27 20 16 true,oG 22 (bL 21 27) 16 true,oG 23 (bO .add 3 19 22 3) 16 true,oG 24 (.binOp .eql 3 (xT 23) (nI 0) 3) 16 true,oG 25 (.pick (xT 16) (xT 24) (nB false)) 8 false,pT 26 8 25,aO 4 26] [4] (.ret))
theorem UC:BU Tryz.prog 118 27 [(.tmp 4)] Nk:=AH Tryz.func118
def Gy:CC:=sR [bB .lss 9 3 8 7 3] [0,6,7,8,9] (.seq (cD 9 (.skip) (.exit 0)) (.keep [0,6,7,8] (.seq (.block 1 (sR [iO 10 23 6 8,lO 11 25 10,aL 5 25 [1],sT 25 5 11] [0,5,6,7,8] (.reg [mO 12 0,nC 13 12,lS 14 23 13 2,lS 15 25 5 3,⟨some 16,(cL 35 #[(xT 15)] #[25]),none,[],4,[2],true⟩,bN 17 14 23,⟨some 18,(.buildSlice 23 1 #[(0,(.const (.agg #[(.int .i64 0),(.slice none 0 0),(.slice none 0 0)])))]),none,[],6,[2,3,4],false⟩,aP 19 14 18 23 23 [2],iO 20 23 19 17,⟨none,(.store 25 (xT 20) (xT 16)),none,[],9,[],true⟩,nC 21 12,⟨none,(.store 23 (xT 21) (xT 19)),none,[],11,[9],false⟩] [0,6,7,8]))) (.reg [bQ .add 22 3 8 1 3,mO 8 22] [0,6,7,8])))) 
def JA:CC:=sR [mO 6 1,bN 7 6 23,oO 8 (.move (nI 0))] [0,6,7,8] (.block 0 (.loop Gy))
theorem MU:BU Tryz.prog 117 23 [] JA:=AH Tryz.func117
def B9:CC:=sQ [mO 23 0,nC 24 23,fO 25 150 24 2,lO 26 23 25,bN 27 26 23,bQ .gtr 28 3 27 0 3] [0,28] (cD 28 (.reg [mO 29 0,nC 30 29,fO 31 150 30 0,lS 32 28 31 3,mO 33 0,nC 34 33,fO 35 150 34 2,lS 36 23 35 7,oO 37 (.build 91 #[(0,(nI 2)),(2,(xT 36))]),bN 38 32 28,⟨some 39,(.buildSlice 28 1 #[(0,(.const (.agg #[(.int .i64 0),(.int .i64 0),(.slice none 0 0),(.int .i64 0),(.int .i64 0),(.slice none 0 0),(.slice none 0 0),(.int .i64 0),(.slice none 0 0),(.slice none 0 0),(.slice none 0 0),(.slice none 0 0),(.int .i64 0),(.slice none 0 0)])))]),none,[],10,[3,7],false⟩,aP 40 32 39 28 28 [2],iO 41 28 40 38,⟨none,(.store 91 (xT 41) (xT 37)),none,[],13,[],true⟩,nC 42 29,fO 43 150 42 0,⟨none,(.store 28 (xT 43) (xT 40)),none,[],16,[13],false⟩] [0]) (.skip)) [0] (.reg [mO 44 0,mO 45 0,nC 46 44,fO 47 150 46 1,oS (.store 23 (xT 47) nS),nC 48 45,fO 49 150 48 2,oS (.store 23 (xT 49) nS)] []) 
def GM:CC:=sQ [mO 2 0,nC 3 2,fO 4 150 3 1,lO 5 23 4,bN 6 5 23,bQ .gtr 7 3 6 0 3] [0,7] (cD 7 (.reg [mO 8 0,nC 9 8,fO 10 150 9 0,lS 11 28 10 3,mO 12 0,nC 13 12,fO 14 150 13 1,lS 15 23 14 7,oO 16 (.build 91 #[(0,(nI 1)),(2,(xT 15))]),bN 17 11 28,⟨some 18,(.buildSlice 28 1 #[(0,(.const (.agg #[(.int .i64 0),(.int .i64 0),(.slice none 0 0),(.int .i64 0),(.int .i64 0),(.slice none 0 0),(.slice none 0 0),(.int .i64 0),(.slice none 0 0),(.slice none 0 0),(.slice none 0 0),(.slice none 0 0),(.int .i64 0),(.slice none 0 0)])))]),none,[],10,[3,7],false⟩,aP 19 11 18 28 28 [1],iO 20 28 19 17,⟨none,(.store 91 (xT 20) (xT 16)),none,[],13,[],true⟩,nC 21 8,fO 22 150 21 0,⟨none,(.store 28 (xT 22) (xT 19)),none,[],16,[13],false⟩] [0]) (.skip)) [0] B9
theorem K8:BU Tryz.prog 119 50 [] GM:=AH Tryz.func119
def EP:CC:=sR [mO 5 0,cA 6 119 5 148] [0,1] (sQ [mO 7 0,nC 8 7,fO 9 150 8 0,lO 10 28 9,bN 11 10 28,bQ .sub 12 3 11 1 3,aO 4 12] [0,1,4] (sR [mO 13 4,bQ .geq 14 3 13 0 3,mO 15 14,mG 16 0 15 true,oG 17 (.nilCheck (xT 16)) 15 true,fG 18 150 17 0 15 true,lG 19 28 18 15 true,mG 20 4 15 true,oG 21 (iA 28 19 20) 15 true,fG 22 91 21 0 15 true,lG 23 3 22 15 true,oG 24 (.binOp .eql 3 (xT 23) (nI 0) 3) 15 true,pF 25 15 24] [0,1,4,25] (cD 25 (sR [mO 26 0,nC 27 26,fO 28 150 27 0,lO 29 28 28,mO 30 4,iO 31 28 29 30,fO 32 91 31 1,lO 33 3 32,mO 34 1,bB .add 35 3 33 34 3,iO 36 28 29 30,fO 37 91 36 1,sT 3 37 35] [] (.ret)) (.skip))) [0,1] (.reg [mO 38 0,nC 39 38,fO 40 150 39 0,lS 41 28 40 3,mO 42 1,oO 43 (.build 91 #[(0,(nI 0)),(1,(xT 42))]),bN 44 41 28,⟨some 45,(.buildSlice 28 1 #[(0,(.const (.agg #[(.int .i64 0),(.int .i64 0),(.slice none 0 0),(.int .i64 0),(.int .i64 0),(.slice none 0 0),(.slice none 0 0),(.int .i64 0),(.slice none 0 0),(.slice none 0 0),(.slice none 0 0),(.slice none 0 0),(.int .i64 0),(.slice none 0 0)])))]),none,[],7,[3],false⟩,aP 46 41 45 28 28 [1],iO 47 28 46 44,⟨none,(.store 91 (xT 47) (xT 43)),none,[],10,[],true⟩,nC 48 38,fO 49 150 48 0,⟨none,(.store 28 (xT 49) (xT 46)),none,[],13,[10],false⟩] []))
theorem Hw:BU Tryz.prog 116 50 [] EP:=AH Tryz.func116
def FD:CC:=sR [bB .lss 14 3 13 12 3] [0,5,11,12,13,14] (.seq (cD 14 (.skip) (.exit 0)) (.keep [0,5,11,12,13] (.seq (.block 1 (sR [iO 15 28 11 13,lO 16 91 15,aL 7 91 [1],sT 91 7 16] [0,5,7,11,12,13] (sR [fO 17 91 7 0,lO 18 3 17] [0,5,7,11,12,13,18] (.block 2 (sR [bQ .eql 20 3 18 0 3,aO 19 20] [0,5,7,11,12,13,18,19] (cD 19 (.reg [mO 21 5,fO 22 91 7 1,lO 23 3 22,cB 24 116 21 23 148 3] [0,5,11,12,13]) (sR [bQ .eql 26 3 18 1 3,aO 25 26] [0,5,7,11,12,13,18,25] (cD 25 (.reg [mO 27 5,nC 28 27,fO 29 150 28 1,fO 30 91 7 2,lO 31 23 30,cB 32 117 29 31 153 23] [0,5,11,12,13]) (sR [bQ .eql 34 3 18 2 3,aO 33 34] [0,5,7,11,12,13,18,33] (cD 33 (.reg [mO 35 5,nC 36 35,fO 37 150 36 2,fO 38 91 7 2,lO 39 23 38,cB 40 117 37 39 153 23] [0,5,11,12,13]) (sR [bQ .eql 42 3 18 3 3,aO 41 42] [0,5,7,11,12,13,41] (cD 41 (sR [fO 43 91 7 3,lO 44 30 43,cA 45 45 44 30,aL 8 30 [2],sT 30 8 45] [0,5,8,11,12,13] (sR [mO 46 0,lO 47 30 8,cB 48 118 46 47 3 30] [0,5,8,11,12,13,48] (cD 48 (.reg [mO 49 5,oO 50 (cL 116 #[(xT 49),(nI 1)] #[148,3])] [0,5,11,12,13]) (sR [mO 51 5,cA 52 119 51 148] [0,5,8,11,12,13] (.reg [mO 53 5,nC 54 53,fO 55 150 54 0,lS 56 28 55 3,lS 57 30 8 4,oO 58 (.build 91 #[(0,(nI 3)),(3,(xT 57))]),bN 59 56 28,⟨some 60,(.buildSlice 28 1 #[(0,(.const (.agg #[(.int .i64 0),(.int .i64 0),(.slice none 0 0),(.int .i64 0),(.int .i64 0),(.slice none 0 0),(.slice none 0 0),(.int .i64 0),(.slice none 0 0),(.slice none 0 0),(.slice none 0 0),(.slice none 0 0),(.int .i64 0),(.slice none 0 0)])))]),none,[],7,[3,4],false⟩,aP 61 56 60 28 28 [3],iO 62 28 61 59,⟨none,(.store 91 (xT 62) (xT 58)),none,[],10,[],true⟩,nC 63 53,fO 64 150 63 0,⟨none,(.store 28 (xT 64) (xT 61)),none,[],13,[10],false⟩] [0,5,11,12,13]))))) (.skip))))))))))))) (.keep [0,5,11,12,13] (.reg [bQ .add 65 3 13 1 3,mO 13 65] [0,5,11,12,13]))))) 
def PG:CC:=sR [aN 4] [0,1] (sR [oO 9 (.build 150 #[]),bX 10 150 9 [0],aO 5 10] [0,1,5] (sQ [mO 11 1,bN 12 11 28,oO 13 (.move (nI 0))] [0,5,11,12,13] (.block 0 (.loop FD)) [5] (sR [mO 66 5,cA 67 119 66 148] [5] (sR [mO 68 5,nC 69 68,fO 70 150 69 0,lO 71 28 70,aO 4 71] [4] (.ret)))))
theorem Wt:BU Tryz.prog 75 72 [(.tmp 4)] PG:=AH Tryz.func75
def Gf:CC:=sR [bB .lss 35 3 34 33 3] [2,3,32,33,34,35] (.seq (cD 35 (.skip) (.exit 1)) (.keep [2,3,32,33,34] (.seq (.block 2 (sR [iO 36 27 32 34,lO 37 88 36,aL 5 88 [4],sT 88 5 37] [2,3,5,32,33,34] (.reg [fO 38 30 3 4,lS 39 27 38 1,fO 40 88 5 0,lS 41 3 40 3,fO 42 88 5 1,lO 43 30 42,⟨some 44,(cL 45 #[(xT 43)] #[30]),none,[],6,[1,3],false⟩,oO 45 (.build 88 #[(0,(xT 41)),(1,(xT 44))]),⟨some 46,(.buildSlice 27 1 #[(0,(xT 45))]),none,[],8,[1],false⟩,aP 47 39 46 27 27 [5],fO 48 30 3 4,sT 27 48 47] [2,3,32,33,34]))) (.reg [bQ .add 49 3 34 1 3,mO 34 49] [2,3,32,33,34])))) 
def Nu:CC:=sR [bX 1 30 0 [0],aL 2 30 [1]] [1,2] (sR [fO 6 30 1 0,lO 7 3 6,fO 8 30 1 5,lO 9 3 8,oO 10 (.build 30 #[(0,(xT 7)),(5,(xT 9))]),aL 3 30 [2],sT 30 3 10] [1,2,3] (sQ [fO 11 30 1 0,lO 12 3 11] [1,2,3,12] (.block 0 (sR [bQ .eql 14 3 12 1 3,aO 13 14] [1,2,3,12,13] (cD 13 (.reg [fO 15 30 1 1,lO 16 25 15,⟨some 17,(cL 35 #[(xT 16)] #[25]),none,[],2,[],true⟩,fO 18 30 1 2,⟨some 19,(lD 25 18),none,[],4,[2],false⟩,cA 20 35 19 25,fO 21 30 3 1,sT 25 21 17,fO 22 30 3 2,sT 25 22 20] [2,3]) (sR [bQ .eql 24 3 12 2 3,aO 23 24] [1,2,3,12,23] (cD 23 (sR [fO 25 30 3 3,lO 26 26 25,fO 27 30 1 3,lO 28 26 27,aP 29 26 28 26 26 [3],fO 30 30 3 3,sT 26 30 29] [1,2,3] (sR [fO 31 30 1 4,lO 32 27 31,bN 33 32 27,oO 34 (.move (nI 0))] [2,3,32,33,34] (.block 1 (.loop Gf)))) (sR [bQ .eql 51 3 12 3 3,aO 50 51] [1,2,3,50] (cD 50 (.reg [fO 52 30 1 5,lO 53 3 52,fO 54 30 1 6,lO 55 28 54,cB 56 75 53 55 3 28,fO 57 30 3 6,sT 28 57 56] [2,3]) (.skip)))))))) [2,3] (sR [lO 58 30 3,sT 30 2 58] [2] (.ret))))
theorem Uz:BU Tryz.prog 45 59 [(.cell 2 30)] Nu:=AH Tryz.func45
def QY:CC:=sR [aL 6 85 [0],aB 7 false] [0,1,2,6] (sR [mO 9 1,mO 10 2,cB 11 155 9 10 61 61,aO 8 11] [0,1,2,6,8] (sQ [mO 12 8,oO 13 (.binOp .eql 5 (xT 12) (.const (.int .u8 0)) 5)] [0,1,2,6,8,13] (cD 13 (sR [oO 14 (.build 85 #[]),sT 85 6 14,aB 7 false] [6,7] (.ret)) (.skip)) [0,1,2,6,8] (sR [mO 15 0,mO 16 8,mO 17 1,mO 18 8,oO 19 (cL 126 #[(.const (.int .u64 0)),(xT 17),(xT 18)] #[61,61,5]),mO 20 2,mO 21 8,oO 22 (cL 126 #[(.const (.int .u64 0)),(xT 20),(xT 21)] #[61,61,5]),oO 23 (.build 85 #[(0,(xT 15)),(1,(xT 16)),(2,(xT 19)),(3,(xT 22))]),sT 85 6 23,aB 7 true] [6,7] (.ret))))
theorem Yp:BU Tryz.prog 120 24 [(.cell 6 85),(.tmp 7)] QY:=AH Tryz.func120
def Ey:CC:=sR [bB .lss 22 3 21 20 3] [2,3,4,6,7,20,21,22] (.seq (cD 22 (.skip) (.exit 0)) (.keep [2,3,4,6,7,20,21] (.seq (.block 1 (sR [mO 23 21,aO 8 23] [2,3,4,6,7,8,20,21] (sR [mO 25 8,lS 26 25 3 1,mO 27 8,⟨some 28,(cL 90 #[(xT 26),(xT 27)] #[25,3]),none,[],3,[],true⟩,⟨some 29,(lD 25 4),none,[],4,[3],true⟩,mO 30 8,⟨some 31,(cL 90 #[(xT 29),(xT 30)] #[25,3]),none,[],6,[],true⟩,⟨some 32,(cL 120 #[(xT 25),(xT 28),(xT 31)] #[3,61,61]),none,[],7,[],true⟩,mO 24 32,xO 33 24 0,xO 34 24 1,⟨some 9,(.alloc 85),none,[4],11,[1,3,4,6,7],false⟩,sT 85 9 33,aO 10 34] [2,3,4,6,7,9,10,20,21] (sR [mO 35 10] [2,3,4,6,7,9,20,21,35] (cD 35 (.reg [fO 36 30 7 3,lO 37 26 36,lO 38 85 9,oO 39 (.buildSlice 26 1 #[(0,(xT 38))]),aP 40 37 39 26 26 [5],fO 41 30 7 3,sT 26 41 40] [2,3,4,6,7,20,21]) (.skip)))))) (.keep [2,3,4,6,7,20,21] (.reg [bQ .add 42 3 21 1 3,mO 21 42] [2,3,4,6,7,20,21])))))
def Ez:CC:=sR [bB .lss 51 3 50 49 3] [2,3,4,6,7,49,50,51] (.seq (cD 51 (.skip) (.exit 2)) (.keep [2,3,4,6,7,49,50] (.seq (.block 3 (sR [mO 52 50,aO 11 52] [2,3,4,6,7,11,49,50] (sR [lS 53 25 3 0,mO 54 11,⟨some 55,(cL 70 #[(xT 53),(xT 54)] #[25,3]),none,[],2,[],true⟩,⟨some 56,(lD 25 4),none,[],3,[2],true⟩,mO 57 11,⟨some 58,(cL 70 #[(xT 56),(xT 57)] #[25,3]),none,[],5,[],true⟩,mO 59 2,⟨some 60,(cL 46 #[(xT 55),(xT 58),(xT 59)] #[25,25,3]),none,[],7,[],true⟩,⟨some 12,(.alloc 30),none,[6],8,[0,2,3,5,7],false⟩,sT 30 12 60] [2,3,4,6,7,11,12,49,50] (sR [fO 61 30 12 0,lO 62 3 61,bQ .neq 63 3 62 0 3] [2,3,4,6,7,11,12,49,50,63] (cD 63 (.reg [fO 64 30 7 4,lO 65 27 64,mO 66 11,lO 67 30 12,oO 68 (.build 88 #[(0,(xT 66)),(1,(xT 67))]),oO 69 (.buildSlice 27 1 #[(0,(xT 68))]),aP 70 65 69 27 27 [7],fO 71 30 7 4,sT 27 71 70] [2,3,4,6,7,49,50]) (.skip)))))) (.keep [2,3,4,6,7,49,50] (.reg [bQ .add 72 3 50 1 3,mO 50 72] [2,3,4,6,7,49,50]))))) 
def JY:CC:=sR [bX 3 25 0 [0],bX 4 25 1 [1],aL 6 30 [2]] [2,3,4,6] (sR [oO 13 (.build 30 #[(0,(nI 2))]),aL 7 30 [3],sT 30 7 13] [2,3,4,6,7] (sQ [fO 14 25 3 1,lO 15 22 14,bN 16 15 22,fO 17 25 4 1,lO 18 22 17,bN 19 18 22,oO 20 (bC .max #[(xT 16),(xT 19)] #[3,3]),oO 21 (.move (nI 0))] [2,3,4,6,7,20,21] (.block 0 (.loop Ey)) [2,3,4,6,7] (sQ [fO 43 25 3 2,lO 44 23 43,bN 45 44 23,fO 46 25 4 2,lO 47 23 46,bN 48 47 23,oO 49 (bC .max #[(xT 45),(xT 48)] #[3,3]),oO 50 (.move (nI 0))] [2,3,4,6,7,49,50] (.block 2 (.loop Ez)) [6,7] (sR [lO 73 30 7,sT 30 6 73] [6] (.ret)))))
theorem PY:BU Tryz.prog 76 74 [(.cell 6 30)] JY:=AH Tryz.func76
def D3:CC:=sR [bB .lss 22 3 21 20 3] [0,5,7,10,11,12,19,20,21,22] (.seq (cD 22 (.skip) (.exit 2)) (.keep [0,5,7,10,11,12,19,20,21] (.seq (.block 3 (sR [mO 23 21,iO 24 23 19 21,lO 25 25 24,aL 9 25 [2],aO 8 23,sT 25 9 25] [0,5,7,8,9,10,11,12,19,20,21] (sR [lO 26 25 9,lO 27 25 7,cB 28 57 26 27 25 25] [0,5,7,8,10,11,12,19,20,21,28] (cD 28 (sR [mO 29 5,mO 30 8,oO 31 (.buildSlice 159 1 #[(0,(xT 30))]),aP 32 29 31 159 159 [3],aO 5 32] [0,5,10,11,12] (.exit 1)) (.skip))))) (.keep [0,5,7,10,11,12,19,20,21] (.reg [bQ .add 33 3 21 1 3,mO 21 33] [0,5,7,10,11,12,19,20,21])))))
def Ea:CC:=sR [bB .lss 13 3 12 11 3] [0,5,10,11,12,13] (.seq (cD 13 (.skip) (.exit 0)) (.keep [0,5,10,11,12] (.seq (.block 1 (sR [iO 14 23 10 12,lO 15 25 14,aL 7 25 [1],sT 25 7 15] [0,5,7,10,11,12] (sQ [mO 16 0,nC 17 16,fO 18 158 17 0,lO 19 23 18,bN 20 19 23,oO 21 (.move (nI 0))] [0,5,7,10,11,12,19,20,21] (.block 2 (.loop D3)) [0,5,7,10,11,12] (sR [mO 34 5,mO 35 0,nC 36 35,fO 37 158 36 0,lO 38 23 37,bN 39 38 23,oO 40 (.buildSlice 159 1 #[(0,(xT 39))]),aP 41 34 40 159 159 [3],aO 5 41] [0,5,7,10,11,12] (.reg [mO 42 0,nC 43 42,fO 44 158 43 0,lS 45 23 44 3,lS 46 25 7 4,bN 47 45 23,⟨some 48,(.buildSlice 23 1 #[(0,(.const (.agg #[(.int .i64 0),(.slice none 0 0),(.slice none 0 0)])))]),none,[],6,[3,4],false⟩,aP 49 45 48 23 23 [5],iO 50 23 49 47,⟨none,(.store 25 (xT 50) (xT 46)),none,[],9,[],true⟩,nC 51 42,fO 52 158 51 0,⟨none,(.store 23 (xT 52) (xT 49)),none,[],12,[9],false⟩] [0,5,10,11,12]))))) (.keep [0,5,10,11,12] (.reg [bQ .add 53 3 12 1 3,mO 12 53] [0,5,10,11,12]))))) 
def Js:CC:=sR [aN 4] [0,1] (.scope (sR [aN 5] [0,1,5] (.seq (.skip) (sQ [mO 10 1,bN 11 10 23,oO 12 (.move (nI 0))] [0,5,10,11,12] (.block 0 (.loop Ea)) [5] (.stop (sR [mO 54 5,aO 4 54] [4] (.ret)))))))
theorem Ov:BU Tryz.prog 121 55 [(.tmp 4)] Js:=AH Tryz.func121
def QR:CC:=sR [aN 4] [0,1] (sQ [mO 5 1,bN 6 5 23,bQ .eql 7 3 6 0 3] [0,1,7] (cD 7 (sR [aN 4] [4] (.ret)) (.skip)) [0,1] (sR [mO 8 0,mO 9 1,oO 10 (.build 91 #[(0,(xT 8)),(2,(xT 9))]),oO 11 (.buildSlice 28 1 #[(0,(xT 10))]),aO 4 11] [4] (.ret)))
theorem X9:BU Tryz.prog 183 12 [(.tmp 4)] QR:=AH Tryz.func183
def MW:CC:=sR [aN 2] [0] (sR [mO 3 0,oO 4 (cL 183 #[(nI 1),(xT 3)] #[3,23]),aO 2 4] [2] (.ret))
theorem UI:BU Tryz.prog 162 5 [(.tmp 2)] MW:=AH Tryz.func162
def MX:CC:=sR [aN 2] [0] (sR [mO 3 0,oO 4 (cL 183 #[(nI 2),(xT 3)] #[3,23]),aO 2 4] [2] (.ret))
theorem Ux:BU Tryz.prog 160 5 [(.tmp 2)] MX:=AH Tryz.func160
def Jb:CC:=sR [bB .lss 29 3 28 27 3] [1,2,3,9,11,12,20,21,22,26,27,28,29] (.seq (cD 29 (.skip) (.exit 2)) (.keep [1,2,3,9,11,12,20,21,22,26,27,28] (.seq (.block 3 (sR [iO 30 23 26 28,lO 31 25 30,aL 14 25 [1],sT 25 14 31] [1,2,3,9,11,12,14,20,21,22,26,27,28] (.reg [mO 32 12,lO 33 25 11,lO 34 25 14,cB 35 184 33 34 25 25,oO 36 (.buildSlice 159 1 #[(0,(xT 35))]),aP 37 32 36 159 159 [2],aO 12 37] [1,2,3,9,11,12,20,21,22,26,27,28]))) (.reg [bQ .add 38 3 28 1 3,mO 28 38] [1,2,3,9,11,12,20,21,22,26,27,28]))))
def Je:CC:=sR [bB .lss 23 3 22 21 3] [1,2,3,9,20,21,22,23] (.seq (cD 23 (.skip) (.exit 0)) (.keep [1,2,3,9,20,21,22] (.seq (.block 1 (sR [iO 24 23 20 22,lO 25 25 24,aL 11 25 [0],sT 25 11 25] [1,2,3,9,11,20,21,22] (sR [aN 12] [1,2,3,9,11,12,20,21,22] (sQ [mO 26 2,bN 27 26 23,oO 28 (.move (nI 0))] [1,2,3,9,11,12,20,21,22,26,27,28] (.block 2 (.loop Jb)) [1,2,3,9,12,20,21,22] (.stop (.reg [mO 39 9,mO 40 12,oO 41 (.buildSlice 219 1 #[(0,(xT 40))]),aP 42 39 41 219 219 [3],aO 9 42] [1,2,3,9,20,21,22])))))) (.keep [1,2,3,9,20,21,22] (.reg [bQ .add 43 3 22 1 3,mO 22 43] [1,2,3,9,20,21,22])))))
def Ja:CC:=sR [bB .lss 48 3 47 46 3] [1,2,3,15,16,17,45,46,47,48] (.seq (cD 48 (.skip) (.exit 4)) (.keep [1,2,3,15,16,17,45,46,47] (.seq (.block 5 (sR [iO 49 233 45 47,lO 50 235 49,aL 19 235 [4],sT 235 19 50] [1,2,3,15,16,17,19,45,46,47] (sR [mO 51 15,mO 52 1,mO 53 16,fO 54 235 19 0,lO 55 3 54,oO 56 (.slice 23 (xT 52) (some (xT 53)) (some (xT 55)) none),⟨some 57,(cL 162 #[(xT 56)] #[23]),none,[],6,[],true⟩,⟨some 58,(bC .append #[(xT 51),(xT 57)] #[28,28]),none,[5],7,[],true⟩,mO 59 2,mO 60 17,fO 61 235 19 1,⟨some 62,(lD 3 61),none,[],11,[6,7],false⟩,oO 63 (.slice 23 (xT 59) (some (xT 60)) (some (xT 62)) none),cA 64 160 63 23,aP 65 58 64 28 28 [6],aO 15 65] [1,2,3,15,19,45,46,47] (sR [mO 66 15,mO 67 1,fO 68 235 19 0,lO 69 3 68,iO 70 23 67 69,lO 71 25 70,mO 72 2,fO 73 235 19 1,lO 74 3 73,iO 75 23 72 74,lO 76 25 75,mO 77 3,cE 78 46 71 76 77 25 25 3,oO 79 (.build 91 #[(0,(nI 3)),(3,(xT 78))]),oO 80 (.buildSlice 28 1 #[(0,(xT 79))]),aP 81 66 80 28 28 [7],aO 15 81] [1,2,3,15,19,45,46,47] (.reg [fO 82 235 19 0,lO 83 3 82,bQ .add 84 3 83 1 3,fO 85 235 19 1,lO 86 3 85,bQ .add 87 3 86 1 3,aO 16 84,aO 17 87] [1,2,3,15,16,17,45,46,47]))))) (.reg [bQ .add 88 3 47 1 3,mO 47 88] [1,2,3,15,16,17,45,46,47])))) 
def Ty:CC:=sR [aN 8] [1,2,3] (sR [aN 9] [1,2,3,9] (sQ [mO 20 1,bN 21 20 23,oO 22 (.move (nI 0))] [1,2,3,9,20,21,22] (.block 0 (.loop Je)) [1,2,3,9] (sR [aN 15] [1,2,3,9,15] (sR [aI 16 0,aI 17 0] [1,2,3,9,15,16,17] (.stop (sQ [mO 44 9,cA 45 185 44 219,bN 46 45 233,oO 47 (.move (nI 0))] [1,2,3,15,16,17,45,46,47] (.block 4 (.loop Ja)) [1,2,15,16,17] (sR [mO 89 15,mO 90 1,mO 91 16,oO 92 (.slice 23 (xT 90) (some (xT 91)) none none),cA 93 162 92 23,aP 94 89 93 28 28 [8],mO 95 2,mO 96 17,oO 97 (.slice 23 (xT 95) (some (xT 96)) none none),cA 98 160 97 23,aP 99 94 98 28 28 [9],aO 8 99] [8] (.ret))))))))
theorem cO:BU Tryz.prog 161 100 [(.tmp 8)] Ty:=AH Tryz.func161
def EW:CC:=sQ [mO 19 12,mO 20 0,bN 21 20 161,bB .lss 22 3 19 21 3] [0,3,5,9,10,11,12,22] (cD 22 (.skip) (.exit 0)) [0,3,5,9,10,11,12] (.seq (.block 1 (sR [mO 25 0,mO 26 12,iO 27 161 25 26,fO 28 166 27 1,lO 29 3 28,aO 13 29] [0,3,5,9,10,11,12,13] (.block 2 (sR [mO 40 0,mO 41 12,iO 42 161 40 41,fO 43 166 42 0,lO 44 3 43,bQ .eql 45 3 44 0 3,aO 39 45] [0,3,5,9,10,11,12,13,39] (cD 39 (.reg [mO 46 9,mO 47 13,oO 48 (.build 91 #[(1,(xT 47))]),oO 49 (.buildSlice 28 1 #[(0,(xT 48))]),aP 50 46 49 28 28 [2],mO 51 10,mO 52 13,oO 53 (.slice 23 (xT 51) (some (xT 52)) none none),mO 54 11,mO 55 13,oO 56 (.slice 23 (xT 54) (some (xT 55)) none none),aO 9 50,aO 10 53,aO 11 56] [0,3,5,9,10,11,12]) (sR [mO 58 0,mO 59 12,iO 60 161 58 59,fO 61 166 60 0,lO 62 3 61,bQ .eql 63 3 62 2 3,aO 57 63] [0,3,5,9,10,11,12,13,57] (cD 57 (.reg [mO 64 9,mO 65 11,mO 66 13,oO 67 (.slice 23 (xT 65) none (some (xT 66)) none),cA 68 160 67 23,aP 69 64 68 28 28 [3],mO 70 11,mO 71 13,oO 72 (.slice 23 (xT 70) (some (xT 71)) none none),aO 9 69,aO 11 72] [0,3,5,9,10,11,12]) (sR [mO 74 12,bQ .add 75 3 74 1 3,mO 76 0,bN 77 76 161,bB .lss 78 3 75 77 3,mO 79 78,mG 80 0 79 true,mG 81 12 79 true,oG 82 (.binOp .add 3 (xT 81) (nI 1) 3) 79 true,oG 83 (iA 161 80 82) 79 true,fG 84 166 83 0 79 true,lG 85 3 84 79 true,oG 86 (.binOp .eql 3 (xT 85) (nI 2) 3) 79 true,pF 87 79 86,aO 73 87] [0,3,5,9,10,11,12,13,73] (cD 73 (sR [mO 88 0,mO 89 12,bQ .add 90 3 89 1 3,iO 91 161 88 90,fO 92 166 91 1,lO 93 3 92,aO 14 93] [0,3,5,9,10,11,12,13,14] (sR [mO 94 9,fO 95 25 5 0,lO 96 3 95,mO 97 10,mO 98 13,oO 99 (.slice 23 (xT 97) none (some (xT 98)) none),mO 100 11,mO 101 14,oO 102 (.slice 23 (xT 100) none (some (xT 101)) none),mO 103 3,oO 104 (cL 161 #[(xT 96),(xT 99),(xT 102),(xT 103)] #[3,23,23,3]),aP 105 94 104 28 28 [4],aO 9 105] [0,3,5,9,10,11,12,13,14] (sR [mO 106 10,mO 107 13,oO 108 (.slice 23 (xT 106) (some (xT 107)) none none),mO 109 11,mO 110 14,oO 111 (.slice 23 (xT 109) (some (xT 110)) none none),aO 10 108,aO 11 111] [0,3,5,9,10,11,12] (.reg [mO 112 12,bQ .add 113 3 112 1 3,aO 12 113] [0,3,5,9,10,11,12])))) (.reg [mO 30 9,mO 31 10,mO 32 13,oO 33 (.slice 23 (xT 31) none (some (xT 32)) none),cA 34 162 33 23,aP 35 30 34 28 28 [5],mO 36 10,mO 37 13,oO 38 (.slice 23 (xT 36) (some (xT 37)) none none),aO 9 35,aO 10 38] [0,3,5,9,10,11,12])))))))))) (.keep [0,3,5,9,10,11,12] (.reg [mO 23 12,bQ .add 24 3 23 1 3,aO 12 24] [0,3,5,9,10,11,12]))) 
def SS:CC:=sR [bX 5 25 1 [0],bX 6 25 2 [1],aN 8] [0,3,5,6] (sR [aN 9] [0,3,5,6,9] (sR [fO 15 25 5 2,lO 16 23 15,fO 17 25 6 2,lO 18 23 17,aO 10 16,aO 11 18] [0,3,5,9,10,11] (sQ [aI 12 0] [0,3,5,9,10,11,12] (.block 0 (.loop EW)) [9] (sR [mO 114 9,aO 8 114] [8] (.ret)))))
theorem aj:BU Tryz.prog 124 115 [(.tmp 8)] SS:=AH Tryz.func124
def KF:CC:=sR [fO 39 25 3 0,lS 40 3 39 1,mO 41 9,lO 42 25 3,lO 43 25 4,mO 44 2,⟨some 45,(cL 124 #[(xT 41),(xT 42),(xT 43),(xT 44)] #[161,25,25,3]),none,[],6,[1],false⟩,oO 46 (.build 30 #[(0,(nI 3)),(5,(xT 40)),(6,(xT 45))]),sT 30 6 46] [6] (.ret) 
def QG:CC:=sR [bX 3 25 0 [0],bX 4 25 1 [1],aL 6 30 [2]] [2,3,4,6] (sR [oO 11 (.build 158 #[]),bX 12 158 11 [3],aO 7 12] [2,3,4,6,7] (.stop (sR [mO 13 7,fO 14 25 3 2,lO 15 23 14,cB 16 121 13 15 156 23,aO 8 16] [2,3,4,6,7,8] (sR [mO 18 8,mO 19 7,fO 20 25 4 2,lO 21 23 20,cB 22 121 19 21 156 23,mO 23 2,cE 24 122 18 22 23 159 159 3,mO 17 24,xO 25 17 0,xO 26 17 1,aO 9 25,aO 10 26] [2,3,4,6,9,10] (sQ [mO 27 10,oO 28 (.unOp .not 4 (xT 27))] [2,3,4,6,9,28] (cD 28 (.reg [fO 29 25 3 2,lO 30 23 29,bN 31 30 23,oO 32 (.build 166 #[(0,(nI 1)),(1,(xT 31))]),fO 33 25 4 2,lO 34 23 33,bN 35 34 23,oO 36 (.build 166 #[(0,(nI 2)),(1,(xT 35))]),oO 37 (.buildSlice 161 2 #[(0,(xT 32)),(1,(xT 36))]),cA 38 123 37 161,aO 9 38] [2,3,4,6,9]) (.skip)) [2,3,4,6,9] KF)))))
theorem Y5:BU Tryz.prog 78 47 [(.cell 6 30)] QG:=AH Tryz.func78
def TL:CC:=sR [bX 3 25 0 [0],bX 4 25 1 [1],aL 6 30 [2]] [2,3,4,6] (.seq (.block 0 (sR [lO 8 25 3,lO 9 25 4,cB 10 57 8 9 25 25,aO 7 10] [2,3,4,6,7] (cD 7 (sR [oO 11 (.build 30 #[]),sT 30 6 11] [6] (.ret)) (sR [fO 13 25 3 0,lO 14 3 13,bQ .eql 15 3 14 1 3,mO 16 15,fG 17 25 4 0 16 true,lG 18 3 17 16 true,oG 19 (.binOp .eql 3 (xT 18) (nI 1) 3) 16 true,pF 20 16 19,aO 12 20] [2,3,4,6,12] (cD 12 (sR [lO 21 25 3,lO 22 25 4,mO 23 2,cE 24 76 21 22 23 25 25 3,sT 30 6 24] [6] (.ret)) (sR [fO 26 25 3 0,lO 27 3 26,fO 28 25 4 0,lO 29 3 28,bB .eql 30 3 27 29 3,mO 31 30,fG 32 25 3 0 31 true,lG 33 3 32 31 true,oG 34 (cL 77 #[(xT 33)] #[3]) 31 true,pF 35 31 34,aO 25 35] [2,3,4,6,25] (cD 25 (sR [lO 36 25 3,lO 37 25 4,mO 38 2,cE 39 78 36 37 38 25 25 3,sT 30 6 39] [6] (.ret)) (.skip)))))))) (.keep [3,4,6] (sR [lO 40 25 3,lO 41 25 4,oO 42 (.build 30 #[(0,(nI 1)),(1,(xT 40)),(2,(xT 41))]),sT 30 6 42] [6] (.ret))))
theorem cS:BU Tryz.prog 46 43 [(.cell 6 30)] TL:=AH Tryz.func46
def Pa:CC:=sR [bX 3 25 0 [0],bX 4 25 1 [1],aL 6 30 [2]] [2,3,4,6] (sR [lO 7 25 3,⟨some 8,(cL 35 #[(xT 7)] #[25]),none,[],1,[],true⟩,⟨some 9,(lD 25 4),none,[],2,[1],false⟩,cA 10 35 9 25,mO 11 2,cE 12 46 8 10 11 25 25 3,cA 13 45 12 30,sT 30 6 13] [6] (.ret))
theorem XB:BU Tryz.prog 26 14 [(.cell 6 30)] Pa:=AH Tryz.func26
def Jk:CC:=sR [bX 1 25 0 [0],aB 2 false] [1] (sR [lO 3 25 1,oO 4 (cL 28 #[(xT 3),(nI 70),(nI 400)] #[25,3,3]),bQ .geq 5 3 4 0 3,mO 6 5,lG 7 25 1 6 true,oG 8 (cL 11 #[(xT 7),(nI 64)] #[25,3]) 6 true,pF 9 6 8,mO 10 9,fG 11 25 1 0 10 true,lG 12 3 11 10 true,oG 13 (.binOp .neq 3 (xT 12) (nI 10) 3) 10 true,pF 14 10 13,aO 2 14] [2] (.ret))
theorem OC:BU Tryz.prog 39 15 [(.tmp 2)] Jk:=AH Tryz.func39
end Go.Proofs.YtndnlknocdangaaGreat
namespace Go.Proofs.YtndnlknocdangaaGreat
open Go Go.G Go.Proofs Go.PL
theorem lP:∀ i:Fin 8,∀ m:Fin 256,m.val<2 ^ i.val→bits .or .u8 (m.val:Int) ((2 ^ i.val:Nat):Int)=(m.val:Int)+((2 ^ i.val:Nat):Int):=by decide +kernel
def Bt (x:Int) (i:Nat):Int:=x / 256 ^ i % 256
def GJ (a b:Int):Nat→Nat
 |0=>0
 |k+1=>GJ a b k+(if Bt a k ≠ Bt b k then 2 ^ k else 0)
def DL (a b:Int):Int:=(GJ a b 8:Nat)
theorem Ry (a b:Int):∀ k,GJ a b k<2 ^ k
 |0=>by simp[GJ]
 |k+1=>by
  have:=Ry a b k;unfold GJ;rw[Nat.pow_succ];split<;>omega
theorem Ws (a b:Int):0≤DL a b∧DL a b<256:=by
 have:=Ry a b 8;unfold DL;omega
theorem Kf:∀ (n:Nat) (x:Int) (i:Nat),i<n→(Dh n x)[i]? = some (Bt x i)
 |n+1,x,0,_=>by simp[Dh,Bt]
 |n+1,x,i+1,h=>by
  have:=Kf n (x / 256) i (by omega);simp only[Dh,List.getElem?_cons_succ];rw[this];unfold Bt;rw[Int.ediv_ediv_of_nonneg (by omega),Int.pow_succ,Int.mul_comm]
theorem kD {a b:Int} (ha:Bo a) (hb:Bo b) (i:Nat):Bt (bits .xor .u64 a b) i=0 ↔ Bt a i=Bt b i:=by
 obtain⟨x,rfl⟩:∃ x:Nat,a=x:=⟨a.toNat,by unfold Bo at ha;omega⟩;obtain⟨y,rfl⟩:∃ y:Nat,b=y:=⟨b.toNat,by unfold Bo at hb;omega⟩;unfold Bo at ha hb;rw[bits_xor_u64_nat x y (by omega) (by omega)];unfold Bt;have h:∀ z:Nat,((z:Int) / 256 ^ i % 256)=(((z / 2 ^ (8*i)) % 2 ^ 8:Nat):Int):=fun z=>by
  have h1:((256:Int) ^ i)=((2 ^ (8*i):Nat):Int):=by
   rw[Nat.pow_mul,Int.natCast_pow];rfl
  rw[h1,Int.natCast_emod,Int.natCast_ediv];rfl
 rw[h,h,h];have e:((x ^^^ y) / 2 ^ (8*i)) % 2 ^ 8=((x / 2 ^ (8*i)) % 2 ^ 8) ^^^ ((y / 2 ^ (8*i)) % 2 ^ 8):=by
  rw[← Nat.shiftRight_eq_div_pow,← Nat.shiftRight_eq_div_pow,← Nat.shiftRight_eq_div_pow,Nat.shiftRight_xor_distrib,Nat.xor_mod_two_pow]
 rw[e];constructor
 ·intro h;have h:((x / 2 ^ (8*i)) % 2 ^ 8) ^^^ ((y / 2 ^ (8*i)) % 2 ^ 8)=0:=by omega
  generalize (x / 2 ^ (8*i)) % 2 ^ 8=p at h ⊢;generalize (y / 2 ^ (8*i)) % 2 ^ 8=q at h ⊢;have h2:p ^^^ q ^^^ q=q:=by rw[h,Nat.zero_xor]
  rw[Nat.xor_assoc,Nat.xor_self,Nat.xor_zero] at h2;rw[h2]
 ·intro h;have h:(x / 2 ^ (8*i)) % 2 ^ 8=(y / 2 ^ (8*i)) % 2 ^ 8:=by omega
  rw[h,Nat.xor_self];rfl
variable {n0:Nat} {w0:World} {I0:Nat→Prop} {Q:Exit→Sta→Prop}
theorem wL {a b:Int} (ha:Bo a) (hb:Bo b) {H:Hp} (hq:∀ st,Q (.exit 0) ⟨lk ([(5,u8 (DL a b))]++st),H⟩):∀ (m i:Nat),i+m=8 →
  LoopC (cx Tryz.prog w0 I0 n0) Gl Q ⟨lk [(5,u8 (GJ a b i:Nat)),(11,.agg (Z9 (AY (bits .xor .u64 a b)))),(12,iv i)],H⟩:=by
 intro m;induction m with
 |zero=>
  intro i hm;refine Ab Ai Gl.eq_1 ?_;have:i=8:=by omega
  subst this;simp;exact hq [(11,.agg (Z9 (AY (bits .xor .u64 a b)))),(12,iv 8),(13,bv false)]
 |succ m ih=>
  intro i hm;have hi:i<8:=by omega
  have hi':(i:Int)<8:=by omega
  have ew:=AW i;have hb1:(AY (bits .xor .u64 a b))[i]? = some (Bt (bits .xor .u64 a b) i):=Kf 8 _ i hi;have hx:=kD ha hb i;have hlt:=Ry a b i;have next:=ih (i+1) (by omega)
  refine Ab Ai Gl.eq_1 ?_;by_cases h:Bt a i=Bt b i
  ·have h0:=hx.2 h;have e:GJ a b (i+1)=GJ a b i:=by simp[GJ,h]
   rw[e] at next
   simp[hi',hi,ew,Z9,hb1,h0];simpa[Z9] using next
  ·have h0:¬ Bt (bits .xor .u64 a b) i=0:=fun e=>h (hx.1 e);have e:GJ a b (i+1)=GJ a b i+2 ^ i:=by simp[GJ,h]
   rw[e] at next
   have p8:2 ^ i<256:=by
    have:2 ^ i≤2 ^ 7:=Nat.pow_le_pow_right (by omega) (by omega);omega
   have eb:IntKind.u8.wrap (2 ^ min i IntKind.u8.bits)=((2 ^ i:Nat):Int):=by
    have:min i IntKind.u8.bits=i:=Nat.min_eq_left (by show i≤8;omega);rw[this,IntKind.wrap_u8,Int.natCast_pow];have:((2:Int) ^ i)=((2 ^ i:Nat):Int):=by rw[Int.natCast_pow];rfl
    omega
   have eo:=lP ⟨i,hi⟩ ⟨GJ a b i,by omega⟩ hlt;simp only at eo;simp[hi',hi,ew,Z9,hb1,h0];rw[eb,eo,← Int.natCast_add];simpa[Z9] using next
def T9 (x:Int) (i:Nat):List Int:=(List.range 8).map fun j=>if j<i then Bt x j else 0
theorem J4 (x:Int) (i:Nat):(T9 x i).length=8:=by simp[T9]
theorem ib (x:Int):T9 x 0=List.replicate 8 0:=by simp[T9];rfl
theorem oh (x:Int):T9 x 8=AY x:=by
 apply List.ext_getElem?;intro j;by_cases h:j<8
 ·rw[show(AY x)[j]? = _ from Kf 8 x j h];simp[T9,h]
 ·rw[List.getElem?_eq_none (by rw[J4];omega),List.getElem?_eq_none (by simp[AY];omega)]
theorem j6 (x:Int) {i:Nat} (h:i<8):(T9 x i).set i (Bt x i)=T9 x (i+1):=by
 apply List.ext_getElem?;intro j;by_cases hj:j<8
 ·by_cases e:j=i
  ·subst e;rw[List.getElem?_set_self (by rw[J4];omega)];simp[T9,hj]
  ·rw[List.getElem?_set_ne (by omega)];simp[T9,hj];have:(j<i+1)=(j<i):=by simp;omega
   simp[this]
 ·rw[List.getElem?_eq_none (by simp[J4];omega),List.getElem?_eq_none (by rw[J4];omega)]
theorem q8 {x:Int} (hx:Bo x) (hq:∀ (st:List (Nat × A)) (H:Hp),H [0]=⟨1,.cells (Z9 (List.replicate 8 0))⟩→H [1]=⟨1,.cells (Z9 (AY x))⟩→Q (.exit 0) ⟨lk ([(0,uv x),(2,.pob [0] 1 0),(3,.pob [1] 1 0)]++st),H⟩):∀ (m i:Nat) (H:Hp),i+m=8→H [0]=⟨1,.cells (Z9 (List.replicate 8 0))⟩→H [1]=⟨1,.cells (Z9 (T9 x i))⟩ →
  LoopC (cx Tryz.prog w0 I0 n0) Hm Q ⟨lk [(0,uv x),(2,.pob [0] 1 0),(3,.pob [1] 1 0),(5,iv i)],H⟩:=by
 intro m;induction m with
 |zero=>
  intro i H hm h0 h1;refine Ab Ai Hm.eq_1 ?_;have:i=8:=by omega
  subst this;rw[oh] at h1;simp;exact hq [(5,iv 8),(6,bv false)] H h0 h1
 |succ m ih=>
  intro i H hm h0 h1;have hi:i<8:=by omega
  have hi':(i:Int)<8:=by omega
  have ew:=AW i;have e8:i64.wrap (8*(i:Int))=((8*i:Nat):Int):=(Bf (by omega) (by omega)).trans (by omega);have b64:u64.bits=64:=rfl;have e9:(8*(i:Int)).toNat=8*i:=by omega
  have ev:IntKind.u8.wrap (x / 2 ^ min (8*i) 64)=Bt x i:=by
   rw[IntKind.wrap_u8,Nat.min_eq_left (by omega)];unfold Bt;have h1:((256:Int) ^ i)=((2:Int) ^ (8*i)):=by rw[Int.pow_mul];rfl
   rw[h1]
   try rfl
  refine Ab Ai Hm.eq_1 ?_;simp[hi',hi,ew,e8,e9,b64,ev,h1,J4];refine⟨by omega,by omega,?_⟩;rw[bj (by rw[J4];omega),j6 x hi];simpa using ih (i+1) _ (by omega) (by simp[Aa,h0]) (by simp[Aa])
theorem Zv {x:Int} (h:Bo x):G.Spec Tryz.prog 178 [uv x] (.agg (Z9 (AY x))):=by
 refine Al XE (by simp) fun w0 I0=>?_;unfold Px;simp;refine LoopC.le (Ao [(0,uv x),(2,.pob [0] 1 0),(3,.pob [1] 1 0),(5,iv (0:Nat))] (by simp)) ?_;refine q8 h (fun st H h0 h1=>?_) 8 0 _ rfl (by simp[Aa]) (by simp[Aa,ib]);have e:List.take 8 (Z9 (AY x))=Z9 (AY x):=AX (by simp[AY]);have el:(AY x).length=8:=by simp[AY]
 simp[h1,h0,Aa,e,el];exact⟨by simp[A.ones],iQ⟩
theorem Xj {a b:Int} (ha:Bo a) (hb:Bo b):G.Spec Tryz.prog 155 [uv a,uv b] (u8 (DL a b)):=by
 have hu:Bo (bits .xor .u64 a b):=by
  obtain⟨x,rfl⟩:∃ x:Nat,a=x:=⟨a.toNat,by unfold Bo at ha;omega⟩;obtain⟨y,rfl⟩:∃ y:Nat,b=y:=⟨b.toNat,by unfold Bo at hb;omega⟩;unfold Bo at ha hb;rw[bits_xor_u64_nat x y (by omega) (by omega)];have:=@Nat.xor_lt_two_pow x y 64 (by omega) (by omega);unfold Bo;omega
 refine Al Uu (by simp) fun w0 I0=>?_;unfold Nr;simp;refine Af (Zv hu) (by simp) ?_;simp;refine LoopC.le (Ao [(5,u8 (GJ a b 0:Nat)),(11,.agg (Z9 (AY (bits .xor .u64 a b)))),(12,iv (0:Nat))] (by simp[GJ])) ?_;refine wL ha hb (fun st=>?_) 8 0 rfl;simp;exact Ad rfl
def Wa (at_:Int) (a b:Int):WE:=⟨at_,DL a b,BV 0 a (DL a b),BV 0 b (DL a b)⟩
def WE0:WE:=⟨0,0,0,0⟩
theorem cw {i a b:Int} (ha:Bo a) (hb:Bo b):G.Spec Tryz.prog 120 [iv i,uv a,uv b] (.tup [wX (if DL a b=0 then WE0 else Wa i a b),bv (!decide (DL a b=0))]):=by
 have hin:=Ws a b;have z:Bo 0:=by unfold Bo;omega
 refine Al Yp (by simp) fun w0 I0=>?_;unfold QY;simp;refine Af (Xj ha hb) (by simp) ?_;by_cases h:DL a b=0
 ·simp[h];exact Ad rfl
 ·simp[h];refine Af (Fa z ha hin.1 hin.2) (by simp) ?_;simp;refine Af (Fa z hb hin.1 hin.2) (by simp) ?_;simp;exact Ad rfl
theorem Rc:∀ (l:List T) (ks:List T) (t:T),Cs ks (l++[t])=(FV (Cs ks l).1 (Ag t),(Cs ks l).2++[EL (Cs ks l).1 (Ag t)])
 |[],ks,t=>by simp[Cs]
 |a::l,ks,t=>by simp[Cs,Rc l]
theorem ES:∀ (l:List T) (ks:List T),(Cs ks l).2.length=l.length
 |[],ks=>rfl
 |a::l,ks=>by simp[Cs,ES l]
section
variable {n0:Nat} {w0:World} {I0:Nat→Prop} {M0:Nm→Nat→Prop} {m0:Mu} {Q:Exit→Sta→Prop}
end
theorem Xd {l:List T}:∀ x,x ∈ l.map tA→EH (fun _=>x):=fun x hx=>by
 obtain⟨t,_,rfl⟩:=List.mem_map.1 hx;exact GV (tA_eq t) fun y hy=>by
  simp at hy;rcases hy with rfl | rfl | rfl<;>rfl
abbrev trM (u:Nat) (l:List T):Fam:=xb u 3 (l.map tA) Xd
theorem cP {ks:List T} {n:T} {i:Nat} (h:i<ks.length) (e:ks[i]=n) (hb:∀ (x:Nat) (hx:x<i),ks[x]'(by omega) ≠ n):EL ks n=i:=by
 unfold EL;rw[List.findIdx_eq h];refine⟨sameB_iff.2 e,fun j hj=>?_⟩;rw[Bool.eq_false_iff];exact fun h2=>hb j hj (sameB_iff.1 h2)
section
variable {n0:Nat} {w0:World} {I0:Nat→Prop} {M0:Nm→Nat→Prop} {m0:Mu} {Q:Exit→Sta→Prop}
end
theorem oM (ks:List T) (n:T):(FV ks n).length≤ks.length+1:=by
 unfold FV;split<;>simp
theorem TM:∀ (l ks:List T),(Cs ks l).1.length≤ks.length+l.length
 |[],ks=>by simp[Cs]
 |t::l,ks=>by
  have:=TM l (FV ks (Ag t));have:=oM ks (Ag t);simp only[Cs,List.length_cons];omega
theorem qE {ks:List T} {n:T} (h:∀ k,k ∈ ks→AK k) (hn:AK n):∀ k,k ∈ FV ks n→AK k:=by
 unfold FV;split
 ·exact h
 ·intro k hk;rcases List.mem_append.1 hk with hk | hk
  ·exact h k hk
  ·simp at hk;subst hk;exact hn
theorem Xy:∀ {l ks:List T},(∀ k,k ∈ ks→AK k)→(∀ k,k ∈ l→AK k)→∀ k,k ∈ (Cs ks l).1→AK k
 |[],ks,h,_=>h
 |t::l,ks,h,hl=>Xy (l:=l) (qE h (CQ _ (hl t (by simp)))) fun k hk=>hl k (by simp[hk])
section
variable {n0:Nat} {w0:World} {I0:Nat→Prop} {M0:Nm→Nat→Prop} {m0:Mu} {Q:Exit→Sta→Prop}
end
section
variable {n0:Nat} {w0:World} {I0:Nat→Prop} {Q:Exit→Sta→Prop} {H:Hp}
end
end Go.Proofs.YtndnlknocdangaaGreat
namespace Go.PL
def hd (t:T):Int:=t.words.headD 0
structure PutI (w i:Nat) (out:List Int):Prop where
 rng:∀ (j:Nat) (h:j<out.length),0≤out[j]∧out[j]<18446744073709551616
 here:∀ (h:i*w / 64<out.length),out[i*w / 64]<2 ^ (i*w % 64)
 zero:∀ (j:Nat) (h:j<out.length),i*w / 64<j→out[j]=0
theorem PutI.start (w m:Nat):PutI w 0 (List.replicate m 0):=⟨fun j h=>by simp,fun h=>by simp,fun j h _=>by simp⟩
def wdT (t:T) (i:Nat):Int:=t.words.getD i 0
theorem GU:∀ (t:T) (d:Nat),Cr d t=true→Cr d (Ag t)=true:=by
 refine T.ind fun k w l ih d h=>?_;have hk:=M7 h;rw[Em] at h;rw[Ci];by_cases h0:k=0
 ·rw[if_pos h0,Em];rfl
 rw[if_neg h0] at h ⊢;by_cases h10:k=10
 ·subst h10;rw[if_pos rfl] at h;simp at h;obtain⟨hw,rfl⟩:=h;rw[if_neg (by decide),Em];simp[hw]
 rw[if_neg h10] at h;by_cases hb:FT k d w.length l.length=true
 ·rw[if_pos hb] at h;cases h
 have hm:∀ (m:List T),(∀ t,t ∈ m→∃ u,u ∈ l∧t=Ag u)→FP (d-1) k m=true:=fun m hm=>rightL_all.2 fun t ht=>by
  obtain⟨u,hu,rfl⟩:=hm t ht;obtain⟨g1,g2⟩:=hk u hu;refine⟨ih u hu _ g1,?_⟩;unfold Gj at g2 ⊢;rw[F5];cases hd:Kt k with
  |false=>rw[hd] at g2;simpa using g2
  |true=>
   rw[hd] at g2;simp at g2;obtain⟨⟨g3,g4⟩,g5⟩:=g2;obtain⟨uk,uw,ul⟩:=u;simp at g3;subst g3;rw[Ci];simp at g4 g5 ⊢;exact⟨g4,g5⟩
 by_cases h1:k=1
 ·subst h1;have hw:=J7 w;have hl:=JT (l.map Ag);rw[List.length_map] at hl;have hb':¬ FT 1 d (C4 w).length (Cy (l.map Ag)).length=true:=by
   simp[FT] at hb ⊢;omega
  rw[if_pos rfl,Em,if_neg (by decide),if_neg (by decide),if_neg hb'];refine hm _ fun t ht=>?_;rw[IQ] at ht;obtain⟨u,hu,rfl⟩:=List.mem_map.1 (OB ht);exact⟨u,hu,rfl⟩
 ·rw[if_neg h1,Em,if_neg h0,if_neg h10,if_neg (by rw[List.length_map];exact hb)];refine hm _ fun t ht=>?_;obtain⟨u,hu,rfl⟩:=List.mem_map.1 ht;exact⟨u,hu,rfl⟩
inductive SmT:T→Prop
 |mk (k:Int) (w:List Int) (l:List T):l.length≤1048576→(∀ t,t ∈ l→SmT t)→SmT (.mk k w l)
theorem SmT.len {t:T} (h:SmT t):t.kids.length≤1048576:=by cases h;assumption
theorem SmT.kid {t:T} (h:SmT t):∀ c,c ∈ t.kids→SmT c:=by cases h;assumption
end Go.PL
namespace Go.Proofs.YtndnlknocdangaaGreat
open Go Go.G Go.Proofs Go.PL
theorem bZ (k:Int):G.Spec Tryz.prog 77 [iv k] (bv (decide (2≤k)&&decide (k≤9))):=by
 refine Al ZA (by simp) fun w0 I0=>?_;unfold QH;simp;exact Ad rfl
variable {n0:Nat} {w0:World} {I0:Nat→Prop} {Q:Exit→Sta→Prop}
theorem vU {a b:List Int} (hl:a.length=b.length) (hb:a.length*8≤140737488355328) {H:Hp}:∀ (m i:Nat),i+m=a.length→a.take i=b.take i→(a=b→∀ q,Q (.exit 0) ⟨lk [(0,DN a),(1,DN b),(12,iv a.length),(13,iv a.length),(14,bv q)],H⟩)→(a ≠ b→Q .ret ⟨lk [(4,bv false)],H⟩) →
  LoopC (cx Tryz.prog w0 I0 n0) BL Q ⟨lk [(0,DN a),(1,DN b),(12,iv a.length),(13,iv i)],H⟩:=by
 intro m;induction m with
 |zero=>
  intro i hi ht h1 h2;have:i=a.length:=by omega
  subst this;rw[AX (Cj _),AX (by omega)] at ht;refine Ab Ai BL.eq_1 ?_;simp;exact h1 ht _
 |succ m ih=>
  intro i hi ht h1 h2;have hlt:i<a.length:=by omega
  have hlt':i<b.length:=by omega
  have ei:=AW i;refine Ab Ai BL.eq_1 ?_;by_cases e:a[i]=b[i]
  ·simp[hlt,hlt',e,ei];refine ih (i+1) (by omega) ?_ h1 h2;rw[HP hlt,HP hlt',ht,e]
  ·simp[hlt,hlt',e];exact h2 fun q=>e (by simp[q])
theorem Za (a b:List Int) (hb:a.length*8≤140737488355328):G.Spec Tryz.prog 89 [DN a,DN b] (bv (decide (a=b))):=by
 refine Al HM (by simp) fun w0 I0=>?_;unfold Eg;by_cases hl:a.length=b.length
 ·simp[hl];have:=vU (n0:=26) (w0:=w0) (I0:=I0) (a:=a) (b:=b) (H:=FR []) (Q:=BR 0 (F7 (WPC (cx Tryz.prog w0 I0 26) (.keep [] (.seq (.reg [co (some 4) (.assign (.const (.bool true))) none] [4]) .ret)) (Xt Tryz.prog [.tmp 4] (bv (decide (a=b))))) (Xt Tryz.prog [.tmp 4] (bv (decide (a=b)))))) hl hb a.length 0 (by simp) rfl (fun e q=>?_) (fun e=>?_)
  ·rw[hl] at this;simpa using this
  ·simp;exact BE (by simp[e])
  ·simp;exact BE (by simp[e])
 ·have hl':¬ (a.length:Int)=b.length:=by omega
  simp[hl,hl'];exact BE (by simp;intro e;exact absurd (by rw[e]) hl)
theorem l6 {t u:T} (h:t.kind ≠ u.kind∨t.kind=0):Kd t u=decide (t.kind=u.kind):=by
 rw[Bool.eq_iff_iff,eqT_iff,decide_eq_true_eq];constructor
 ·intro e;rw[← F5 t,e,F5]
 ·intro e;rcases h with h | h
  ·exact absurd e h
  ·rw[IV h,IV (by omega)]
theorem QW {t u:T} (h:t.kind ≠ u.kind∨t.kind=0):G.Spec Tryz.prog 57 [tX t,tX u] (bv (Kd t u)):=by
 refine Al Pb (by simp) fun w0 I0=>?_;unfold KK;rw[l6 h];by_cases e:t.kind=u.kind
 ·have h0:u.kind=0:=by omega
  simp[e,h0];exact Ad rfl
 ·simp[e];exact BE (by simp[e])
theorem iR {t u:T} {n:Nat} (hN:n≤100000000000000) {H:Hp} (h0:H [0]=⟨1,.cells (tL t)⟩) (h1:H [1]=⟨1,.cells (tL u)⟩)
  (hq:(∀ i,i<n→t.words.getD i 0=u.words.getD i 0)→∀ (q:Bool),Q (.exit 0) ⟨lk [(2,.pob [0] 1 0),(3,.pob [1] 1 0),(48,iv n),(49,iv n),(50,bv q)],H⟩)
  (hf:(∃ i,t.words.getD i 0 ≠ u.words.getD i 0)→Q .ret ⟨lk [(4,bv false)],H⟩) :
  ∀ (j i:Nat),i+j=n→(∀ i',i'<i→t.words.getD i' 0=u.words.getD i' 0) →
  LoopC (cx Tryz.prog w0 I0 n0) Hq Q ⟨lk [(2,.pob [0] 1 0),(3,.pob [1] 1 0),(48,iv n),(49,iv i)],H⟩:=by
 intro j;induction j with
 |zero=>
  intro i hi he;have:i=n:=by omega
  subst this;refine Ab Ai Hq.eq_1 ?_;simp;exact hq he _
 |succ j ih=>
  intro i hi he;have hlt:i<n:=by omega
  have ei:=AW i;refine Ab Ai Hq.eq_1 ?_;simp[hlt,h0,h1];refine Af (Et t i) (by simp) ?_;simp[h0,h1];refine Af (Et u i) (by simp) ?_;by_cases hw:t.words.getD i 0=u.words.getD i 0
  ·have hw':=hw;simp only[List.getD_eq_getElem?_getD] at hw';simp[hw',ei];refine ih (i+1) (by omega) (fun i' hi'=>?_);by_cases e:i'=i
   ·rw[e];exact hw
   ·exact he i' (by omega)
  ·have hw':=hw;simp only[List.getD_eq_getElem?_getD] at hw';simp[hw'];exact hf ⟨i,hw⟩
theorem J6 {α:Type} {l:List α} {i:Nat} {z:α} (h:l.length≤i):l.getD i z=z:=by rw[List.getD_eq_getElem?_getD,List.getElem?_eq_none h];rfl
theorem YN {u:T} (hw:AK u) (i:Nat):AK (u.kids.getD i T0):=by
 by_cases hi':i<u.kids.length
 ·have e:u.kids.getD i T0=u.kids[i]:=by simp[List.getD_eq_getElem?_getD,hi']
  rw[e];exact(wfT_iff.1 hw).ks _ (C5 hi')
 ·have e:u.kids.getD i T0=T0:=by rw[List.getD_eq_getElem?_getD,List.getElem?_eq_none (by simpa using hi')];rfl
  rw[e];exact wfT_iff.2 ⟨by simp[BN],by simp,by simp,by simp,by simp⟩
def EqG (t:T):Prop:=∀ u:T,AK t→AK u→G.Spec Tryz.prog 57 [tX t,tX u] (bv (Kd t u))
theorem eK {k:Int} {w:List Int} {a:List T} {u:T} (h0:k ≠ 0):Kd (.mk k w a) u=true ↔ k=u.kind∧(k=1∨(a.length=u.kids.length∧w=u.words))∧(∀ i,w.getD i 0=u.words.getD i 0)∧∀ i,Ag (a.getD i T0)=Ag (u.kids.getD i T0):=by
 rw[eqT_iff];obtain⟨k',w',b⟩:=u;by_cases hk:k=k';rotate_left
 ·constructor
  ·intro h;have:=congrArg T.kind h;simp at this;exact absurd this hk
  ·intro h;exact absurd h.1 hk
 subst hk;by_cases h1:k=1
 ·subst h1;rw[struct_eq];simp
 rw[LR h0 h1];constructor
 ·rintro⟨rfl,h⟩;have hl:a.length=b.length:=by simpa using congrArg List.length h
  exact⟨rfl,.inr ⟨hl,rfl⟩,fun i=>rfl,(VT hl).1 h⟩
 ·rintro⟨_,h,_,h3⟩;rcases h with h | ⟨hl,rfl⟩
  ·exact absurd h h1
  ·exact⟨rfl,(VT hl).2 h3⟩
theorem wT {t u:T} {n:Nat} (hn:n≤100000000000000) (hw:AK t) (hwu:AK u) (hk:∀ i,i<n→EqG (t.kids.getD i T0)) {H:Hp} (h0:H [0]=⟨1,.cells (tL t)⟩) (h1:H [1]=⟨1,.cells (tL u)⟩)
  (hq:(∀ i,i<n→Ag (t.kids.getD i T0)=Ag (u.kids.getD i T0))→∀ (q:Bool),Q (.exit 2) ⟨lk [(2,.pob [0] 1 0),(3,.pob [1] 1 0),(66,iv n),(67,iv n),(68,bv q)],H⟩)
  (hf:(∃ i,Ag (t.kids.getD i T0) ≠ Ag (u.kids.getD i T0))→Q .ret ⟨lk [(4,bv false)],H⟩) :
  ∀ (j i:Nat),i+j=n→(∀ i',i'<i→Ag (t.kids.getD i' T0)=Ag (u.kids.getD i' T0)) →
  LoopC (cx Tryz.prog w0 I0 n0) Hj Q ⟨lk [(2,.pob [0] 1 0),(3,.pob [1] 1 0),(66,iv n),(67,iv i)],H⟩:=by
 intro j;induction j with
 |zero=>
  intro i hi he;have:i=n:=by omega
  subst this;refine Ab Ai Hj.eq_1 ?_;simp;exact hq he _
 |succ j ih=>
  intro i hi he;have hlt:i<n:=by omega
  have ei:=AW i;have hrec:=hk i hlt (u.kids.getD i T0) (YN hw i) (YN hwu i);refine Ab Ai Hj.eq_1 ?_;simp[hlt,h0,h1];refine Af (Fl t i) (by simp) ?_;simp[h0,h1];refine Af (Fl u i) (by simp) ?_;simp[h0,h1];refine Af hrec (by simp) ?_;cases hb:Kd (t.kids.getD i T0) (u.kids.getD i T0) with
  |true=>
   simp[ei];refine ih (i+1) (by omega) (fun i' hi'=>?_);by_cases e:i'=i
   ·rw[e];exact eqT_iff.1 hb
   ·exact he i' (by omega)
  |false=>
   simp;exact hf ⟨i,fun e=>by rw[eqT_iff.2 e] at hb;cases hb⟩
set_option maxRecDepth 8000 in
theorem rA:∀ t:T,EqG t:=by
 refine T.ind fun k w ks ih u hw hwu=>?_;have hw':=wfT_iff.1 hw;have hu':=wfT_iff.1 hwu;have hwl:=hw'.wl;have hkl:=hw'.kl;have hul:=hu'.wl;have huk:=hu'.kl;simp only[T.words_mk,T.kids_mk] at hwl hkl;have hk0:∀ i,EqG ((T.mk k w ks).kids.getD i T0):=fun i=>by
  by_cases hi:i<ks.length
  ·have e:(T.mk k w ks).kids.getD i T0=ks[i]:=by simp[List.getD_eq_getElem?_getD,hi]
   rw[e];exact ih _ (C5 hi)
  ·have e:(T.mk k w ks).kids.getD i T0=T0:=J6 (by simpa using hi);rw[e];intro u _ _;exact QW (.inr rfl)
 by_cases hkk:k ≠ u.kind∨k=0
 ·exact QW hkk
 have h1:k=u.kind:=by omega
 have h0:¬ u.kind=0:=by omega
 simp only[T.kids_mk] at hk0;have yes:(k=1∨(ks.length=u.kids.length∧w=u.words))→(∀ i,w.getD i 0=u.words.getD i 0)→(∀ i,Ag (ks.getD i T0)=Ag (u.kids.getD i T0))→Kd (.mk k w ks) u=true:=fun a b c=>(eK (by omega)).2 ⟨h1,a,b,c⟩;have no:¬ ((k=1∨(ks.length=u.kids.length∧w=u.words))∧(∀ i,w.getD i 0=u.words.getD i 0)∧(∀ i,Ag (ks.getD i T0)=Ag (u.kids.getD i T0)))→Kd (.mk k w ks) u=false:=fun h=>by
  rw[Bool.eq_false_iff];intro e;exact h ((eK (by omega)).1 e).2
 obtain⟨N,hN⟩:∃ N:Nat,N=max w.length u.words.length:=⟨_,rfl⟩;obtain⟨M,hM⟩:∃ M:Nat,M=max ks.length u.kids.length:=⟨_,rfl⟩;have eN:max (w.length:Int) (u.words.length:Int)=(N:Int):=by omega
 have eM:max (ks.length:Int) (u.kids.length:Int)=(M:Int):=by omega
 refine Al Pb (by simp) fun w0 I0=>?_;have main:(k=1∨(ks.length=u.kids.length∧w=u.words))→WPC (cx Tryz.prog w0 I0 79) JF (Xt Tryz.prog [.tmp 4] (bv (Kd (.mk k w ks) u))) ⟨lk [(2,.pob [0] 1 0),(3,.pob [1] 1 0)],FR [([0],⟨1,.cells [iv k,DN w,BG ks]⟩),([1],⟨1,.cells [iv u.kind,DN u.words,BG u.kids]⟩)]⟩:=fun hc=>by
  rw[JF.eq_1];simp[eN];refine iR (t:=.mk k w ks) (u:=u) (by omega) (by simp) (by simp) (fun he q=>?_) (fun hf=>?_) N 0 (by omega) (fun i hi=>by omega)
  ·have heq:∀ i,w.getD i 0=u.words.getD i 0:=fun i=>by
    by_cases hi:i<N
    ·exact he i hi
    ·rw[J6 (by omega),J6 (by omega)]
   simp[eM];refine wT (t:=.mk k w ks) (u:=u) (by omega) hw hwu (fun i _=>hk0 i) (by simp) (by simp) (fun he2 q=>?_) (fun hf=>?_) M 0 (by omega) (fun i hi=>by omega)
   ·simp;refine BE (yes hc heq fun i=>?_).symm;by_cases hi:i<M
    ·exact he2 i hi
    ·rw[J6 (by omega),J6 (by omega)]
   ·simp;refine BE (no fun h=>?_).symm;obtain⟨i,hi⟩:=hf;exact hi (h.2.2 i)
  ·simp;refine BE (no fun h=>?_).symm;obtain⟨i,hi⟩:=hf;exact hi (h.2.1 i)
 unfold KK;by_cases k1:k=1
 ·have u1:u.kind=1:=by omega
  have hm:=main (.inl k1);rw[u1] at hm;subst k1;simp[u1];refine Bv rfl ?_;simp;exact Gs hm
 ·have u1:¬ u.kind=1:=by omega
  by_cases hl:ks.length=u.kids.length
  ·have hl':(ks.length:Int)=u.kids.length:=by omega
   simp[h1,h0,u1,hl'];refine FQ rfl (fun _=>Za w u.words (by omega)) (fun _=>rfl) rfl ?_;by_cases hww:w=u.words
   ·simp[hww];have:=main (.inr ⟨hl,hww⟩);rw[h1,hww] at this;exact Gs this
   ·simp[hww];refine BE ?_;rw[← h1];refine(no fun h=>?_).symm;rcases h.1 with h | h
    ·exact k1 h
    ·exact hww h.2
  ·have hl':¬ (ks.length:Int)=u.kids.length:=by omega
   simp[h1,h0,u1,hl,hl'];refine Bv rfl ?_;simp;refine BE ?_;rw[← h1];exact(no fun h=>by
    rcases h.1 with h | h
    ·exact k1 h
    ·exact hl h.1).symm
theorem Iw {t u:T} (hw:AK t) (hwu:AK u):G.Spec Tryz.prog 57 [tX t,tX u] (bv (Kd t u)):=rA t u hw hwu
def tb (v:Nat) (l:List T):Fam:=⟨fun r p=>if p=[] then ⟨1,.cells [.osl (r::[0]) v 3 0 l.length]⟩ else if p=[0] then ⟨v,.arr 3 (l.map tA)⟩ else ⟨0,.none⟩,fun {γ δ r r'} hg hd p=>by
  by_cases h1:p=[]
  ·rw[if_pos h1,if_pos h1];refine Fam.cells_ren ?_;simp[A.renL,A.ren,hg,hd]
  ·rw[if_neg h1,if_neg h1];by_cases h2:p=[0]
   ·rw[if_pos h2];exact Fam.arr_ren ((FamL.all Xd).ren hg hd)
   ·rw[if_neg h2];rfl,fun {D r} hD p=>by
  by_cases h1:p=[]
  ·rw[if_pos h1];simp[Ob.refs,A.refsL,A.refs,hD]
  ·rw[if_neg h1];by_cases h2:p=[0]
   ·rw[if_pos h2];exact(FamL.all Xd).refs hD
   ·rw[if_neg h2];trivial⟩
@[simp] theorem Aia {v:Nat} {l:List T} {r:Nat} {p:Nm}:(tb v l).F r p=if p=[] then ⟨1,.cells [.osl (r::[0]) v 3 0 l.length]⟩ else if p=[0] then ⟨v,.arr 3 (l.map tA)⟩ else ⟨0,.none⟩:=rfl
noncomputable def yR (v:Nat) (ks:List T) (t:T):Nat:=if EL ks t<ks.length then v else v+1
noncomputable def S9:Nat→List T→List T→Nat
 |v,_,[]=>v
 |v,ks,t::l=>S9 (yR v ks (Ag t)) (FV ks (Ag t)) l
theorem Q7:∀ (l:List T) (u:Nat) (ks:List T) (t:T),S9 u ks (l++[t])=yR (S9 u ks l) (Cs ks l).1 (Ag t)
 |[],u,ks,t=>by simp[S9,Cs]
 |a::l,u,ks,t=>by simp[S9,Cs,Q7 l]
theorem ko {ks:List T} {n:T} (h:∀ k,k ∈ ks→Ag k=k) (hn:Ag n=n):∀ k,k ∈ FV ks n→Ag k=k:=by
 unfold FV;split
 ·exact h
 ·intro k hk;rcases List.mem_append.1 hk with hk | hk
  ·exact h k hk
  ·simp at hk;subst hk;exact hn
theorem TG:∀ {l ks:List T},(∀ k,k ∈ ks→Ag k=k)→∀ k,k ∈ (Cs ks l).1→Ag k=k
 |[],ks,h=>h
 |t::l,ks,h=>TG (l:=l) (ko h (Es t))
section
variable {n0:Nat} {w0:World} {I0:Nat→Prop} {M0:Nm→Nat→Prop} {m0:Mu} {Q:Exit→Sta→Prop}
theorem Abu {ks:List T} (hw:∀ k,k ∈ ks→AK k) (hn:∀ k,k ∈ ks→Ag k=k) (hl:ks.length≤1000000) {t:T} (wt:AK t) (nt:Ag t=t) {v w i N y:Nat} {na:Nat} {acc:List Nat} (hna:na=acc.length) (hacc:acc.length≤1000000) {X:A}
  (hq:EL ks t=ks.length→∀ (st:List (Nat × A)) (H':Hp),(∀ p,H' (0::p)=(tb v ks).F 0 p)→H' [1]=⟨y,.cells (tL t)⟩→H' [3]=⟨w,.arr 1 (acc.map nv)⟩→Q (.exit 2) ⟨lk ([(0,.pob [0] 1 0),(5,.osl [3] w 1 0 na),(7,.pob [1] y 0),(10,X),(11,iv N),(12,iv i)]++st),H'⟩)
  (hq2:EL ks t<ks.length→∀ (H':Hp),(∀ p,H' (0::p)=(tb v ks).F 0 p)→H' [3]=⟨w+1,.arr 1 ((acc++[EL ks t]).map nv)⟩→Q (.exit 1) ⟨lk [(0,.pob [0] 1 0),(5,.osl [3] (w+1) 1 0 (na+1)),(10,X),(11,iv N),(12,iv i)],H'⟩) :
  ∀ (m j:Nat) (H:Hp),j+m=ks.length→(∀ (x:Nat) (hx:x<j) (h:x<ks.length),ks[x] ≠ t)→(∀ p,H (0::p)=(tb v ks).F 0 p)→H [1]=⟨y,.cells (tL t)⟩→H [3]=⟨w,.arr 1 (acc.map nv)⟩ →
  LoopC (DD Tryz.prog w0 I0 M0 n0 m0) D3 Q ⟨lk [(0,.pob [0] 1 0),(5,.osl [3] w 1 0 na),(7,.pob [1] y 0),(10,X),(11,iv N),(12,iv i),(19,.osl [0,0] v 3 0 ks.length),(20,iv ks.length),(21,iv j)],H⟩:=by
 subst hna;intro m;induction m with
 |zero=>
  intro j H hj hb hF h1 h3;have:j=ks.length:=by omega
  subst this;refine Ab Ai D3.eq_1 ?_;simp;exact hq (gZ fun hm=>by
   obtain⟨x,hx,e⟩:=List.mem_iff_getElem.1 hm;exact hb x hx hx e) [(19,.osl [0,0] v 3 0 ks.length),(20,iv ks.length),(21,iv ks.length),(22,bv false)] H hF h1 h3
 |succ m ih=>
  intro j H hj hb hF h1 h3;have hlt:j<ks.length:=by omega
  have ew:=AW j;have hF1:=hF [0];simp at hF1;have hk:=C5 hlt;refine Ab Ai D3.eq_1 ?_;simp[hlt,hF1,h1,Aa];refine Af (Iw (hw _ hk) wt) (by simp) ?_;have hE:Kd ks[j] t=ET ks[j] t:=by unfold Kd;rw[hn _ hk,nt]
  rw[hE];by_cases he:ks[j]=t
  ·have hc:=cP hlt he fun x hx=>hb x hx (by omega);have hs:ET ks[j] t=true:=sameB_iff.2 he;rw[hc] at hq2;simp[hs,Aa,h3];refine⟨by omega,?_⟩;simp[BR];exact hq2 hlt _ (fun p=>by simp[Aa,hF]) (by simp[Aa,AX])
  ·have hs:ET ks[j] t=false:=by rw[Bool.eq_false_iff];exact fun h=>he (sameB_iff.1 h)
   simp[hs,ew];refine ih (j+1) _ (by omega) (fun x hx h=>?_) (fun p=>by simp[Aa,hF]) (by simp[Aa,h1]) (by simp[Aa,h3]);by_cases e:x=j
   ·subst e;exact he
   ·exact hb x (by omega) h
theorem Adl {ks0 ts:List T} (hw:∀ k,k ∈ ks0→AK k) (hn:∀ k,k ∈ ks0→Ag k=k) (ht:∀ k,k ∈ ts→AK k) (htn:∀ k,k ∈ ts→Ag k=k) (hl:ks0.length+ts.length≤1000000) {v0:Nat}
  (hq:∀ (st:List (Nat × A)) (H':Hp),(∀ p,H' (0::p)=(tb (S9 v0 ks0 ts) (Cs ks0 ts).1).F 0 p)→H' [3]=⟨ts.length+1,.arr 1 ((Cs ks0 ts).2.map nv)⟩→Q (.exit 0) ⟨lk ([(0,.pob [0] 1 0),(5,.osl [3] (ts.length+1) 1 0 ts.length)]++st),H'⟩) :
  ∀ (m i:Nat) (H:Hp),i+m=ts.length→(∀ p,H (0::p)=(tb (S9 v0 ks0 (ts.take i)) (Cs ks0 (ts.take i)).1).F 0 p)→H [3]=⟨i+1,.arr 1 ((Cs ks0 (ts.take i)).2.map nv)⟩ →
  LoopC (DD Tryz.prog w0 I0 M0 n0 m0) Ea Q ⟨lk [(0,.pob [0] 1 0),(5,.osl [3] (i+1) 1 0 i),(10,BG ts),(11,iv ts.length),(12,iv i)],H⟩:=by
 intro m;induction m with
 |zero=>
  intro i H hi hF h3;have:i=ts.length:=by omega
  subst this;rw[AX (Cj _)] at hF h3;refine Ab Ai Ea.eq_1 ?_;simp;exact hq [(10,BG ts),(11,iv ts.length),(12,iv ts.length),(13,bv false)] H hF h3
 |succ m ih=>
  intro i H hi hF h3;have hlt:i<ts.length:=by omega
  have ew:=AW i;have htk:ts.take (i+1)=ts.take i++[ts[i]]:=HP hlt;have hti:=C5 hlt;have nt:=htn _ hti;have hlen:=TM (ts.take i) ks0;rw[List.length_take,Nat.min_eq_left (by omega)] at hlen;have hkw:=Xy hw (l:=ts.take i) fun k hk=>ht k (OB hk);have hkn:=TG hn (l:=ts.take i) ;have hlL:(Cs ks0 (ts.take i)).2.length=i:=by rw[ES,List.length_take,Nat.min_eq_left (by omega)]
  have ihn:=ih (i+1);rw[htk,Q7,Rc,nt] at ihn;simp only at ihn;have hF0:=hF [];have hF1:=hF [0];simp at hF0 hF1;generalize hv:S9 v0 ks0 (ts.take i)=v at *;generalize hL:(Cs ks0 (ts.take i)).2=L at *;generalize hK:(Cs ks0 (ts.take i)).1=K at *;refine Ab Ai Ea.eq_1 ?_;simp[hlt,hF0,Aa];refine LoopC.le (Ao [(0,.pob [0] 1 0),(5,.osl [3] (i+1) 1 0 i),(7,.pob [1] ((H [1]).u+1) 0),(10,BG ts),(11,iv ts.length),(12,iv i),(19,.osl [0,0] v 3 0 K.length),(20,iv K.length),(21,iv (0:Nat))] (by simp)) ?_;refine Abu hkw hkn (by omega) (ht _ hti) nt (v:=v) (w:=i+1) (i:=i) (N:=ts.length) (acc:=L) hlL.symm (by omega) (X:=BG ts) (y:=(H [1]).u+1) (fun hc st H' g0 g1 g3=>?_) (fun hc H' g0 g3=>?_) K.length 0 _ (by omega) (fun x hx=>by omega) (fun p=>by simp[hF,Aa]) (by simp[Aa]) (by simp[Aa,h3])
  ·have g00:=g0 [];have g01:=g0 [0];simp at g00 g01;rw[hc] at ihn;have hcK:FV K ts[i]=K++[ts[i]]:=by unfold FV;rw[if_neg (by omega)]
   have hcU:yR v K ts[i]=v+1:=by unfold yR;rw[if_neg (by omega)]
   rw[hcK,hcU] at ihn;simp[BR,g00,g01,g1,g3,hlL,Aa];refine⟨by omega,by omega,by omega,?_⟩;rw[ew];refine ihn _ (by omega) (fun p=>?_) (by simp[Aa,hlL,AX]);by_cases h1:p=[]
   ·subst h1;simp[Aa]
   ·by_cases h2:p=[0]
    ·subst h2;simp[Aa,AX]
    ·simp[h1,h2,Aa,g0]
  ·have hcK:FV K ts[i]=K:=by unfold FV;rw[if_pos hc]
   have hcU:yR v K ts[i]=v:=by unfold yR;rw[if_pos hc]
   rw[hcK,hcU] at ihn;simp[BR,ew];exact ihn _ (by omega) g0 g3
end
theorem Tt {ks ts:List T} (hw:∀ k,k ∈ ks→AK k) (hn:∀ k,k ∈ ks→Ag k=k) (ht:∀ k,k ∈ ts→AK k) (htn:∀ k,k ∈ ts→Ag k=k) (hl:ks.length+ts.length≤1000000) (v:Nat) :
  SpecF Tryz.prog 121 (fun r=>[.pob [r] 1 0,BG ts]) (tb v ks) (fun r=>.sl false ((Cs ks ts).2.map nv)) (tb (S9 v ks ts) (Cs ks ts).1):=by
 refine Iq Ov (by simp) (Ae Au (Ae Ba Ah)) Ba fun w0 I0 M0 m0 hM=>?_;unfold Js;simp;refine LoopC.le (FF 5 [3] 1 (by simp)) ?_;refine LoopC.le (Ao [(0,.pob [0] 1 0),(5,.osl [3] (0+1) 1 0 0),(10,BG ts),(11,iv ts.length),(12,iv (0:Nat))] (by simp[upd])) ?_;refine Adl hw hn ht htn hl (v0:=v) (fun st H' g0 g3=>?_) ts.length 0 _ (by omega) (fun p=>?_) ?_
 ·simp;obtain⟨H2,k1,k2⟩:=N7 (c:=DD Tryz.prog w0 I0 M0 55 m0) (s:=lk [(5,.osl [3] (ts.length+1) 1 0 ts.length)]) (H:=H') (fun r=>1≤r) (fun r p b hr=>hM r p b hr) 5 (.sl false ((Cs ks ts).2.map nv)) (fun H1 e1=>by
   have e2:H1 [3]=H' [3]:=e1 3 [] (by omega);simp;exact B0 (o:=[3]) (u:=ts.length+1) (n:=ts.length) (sz:=1) (l:=(Cs ks ts).2) (f:=nv) (by rw[e2,g3];simp) (ES ts ks).symm (fun x=>rfl))
  refine Hl k1 (Gs ?_);simp[upd];exact Ax rfl rfl fun p=>(k2 0 p (by omega)).trans (g0 p)
 ·simp[Cs,S9]
 ·simp[Cs]
end Go.Proofs.YtndnlknocdangaaGreat
namespace Go.PL
def OE:List Int→List Int→Nat
 |a::l,b::m=>(if a=b then 1 else 0)+OE l m
 |_,_=>0
noncomputable def WW:List T→List T→Nat
 |a::l,b::m=>(if Kd a b=true then 1 else 0)+WW l m
 |_,_=>0
noncomputable def FW (a b:T):Nat:=if a.kind ≠ b.kind∨a.kind=0∨a.kind=10 then 0 else 1+OE a.words b.words+WW a.kids b.kids
theorem rl {l m:List Int} {i:Nat} (h1:i<l.length) (h2:i<m.length):OE (l.drop i) (m.drop i)=(if l[i]=m[i] then 1 else 0)+OE (l.drop (i+1)) (m.drop (i+1)):=by
 rw[(List.getElem_cons_drop h1).symm,(List.getElem_cons_drop h2).symm,OE]
theorem qz {l m:List T} {i:Nat} (h1:i<l.length) (h2:i<m.length):WW (l.drop i) (m.drop i)=(if Kd l[i] m[i]=true then 1 else 0)+WW (l.drop (i+1)) (m.drop (i+1)):=by
 rw[(List.getElem_cons_drop h1).symm,(List.getElem_cons_drop h2).symm,WW]
theorem ku {l m:List Int} {i:Nat} (h:i=min l.length m.length):OE (l.drop i) (m.drop i)=0:=by
 by_cases h1:i=l.length
 ·rw[List.drop_eq_nil_of_le (by omega:l.length≤i)];cases m.drop i<;>rfl
 ·rw[List.drop_eq_nil_of_le (by omega:m.length≤i)];cases l.drop i<;>rfl
theorem mR {l m:List T} {i:Nat} (h:i=min l.length m.length):WW (l.drop i) (m.drop i)=0:=by
 by_cases h1:i=l.length
 ·rw[List.drop_eq_nil_of_le (by omega:l.length≤i)];cases m.drop i<;>rfl
 ·rw[List.drop_eq_nil_of_le (by omega:m.length≤i)];cases l.drop i<;>rfl
theorem Yf:∀ l m,OE l m≤l.length
 |[],_=>by simp[OE]
 |_::_,[]=>by simp[OE]
 |a::l,b::m=>by
  have:=Yf l m;unfold OE;simp;split<;>omega
end Go.PL
namespace Go.PL
open List
theorem Mn:∀ {rs:List (List Int)} {i:Nat} {x:Sc},x ∈ GL i rs→i≤x.i∧x.i<16∧x.j<16∧0<x.n∧∃ r,rs[x.i-i]? = some r∧r[x.j]? = some x.n
 |[],i,x,h=>by simp[GL] at h
 |r::rs,i,x,h=>by
  unfold GL at h;rcases List.mem_append.1 h with h | h
  ·obtain⟨h1,h2,h3,h4,h5,h6,h7⟩:=YJ h;exact⟨by omega,by omega,h3,h7,r,by rw[h1];simp,by simpa using h6⟩
  ·obtain⟨h1,h2,h3,h4,r',h5,h6⟩:=Mn h;refine⟨by omega,h2,h3,h4,r',?_,h6⟩;rw[show x.i-i=(x.i-(i+1))+1 by omega];simpa using h5
end Go.PL
namespace Go.Proofs.YtndnlknocdangaaGreat
open Go Go.G Go.Proofs Go.PL
theorem Qy (rs:List (List Int)):∃ o',KV (GL 0 rs) [] o'∧o'.length≤16:=by
 obtain⟨o',h⟩:=gU (all:=GL 0 rs) (by have:=Qb (rs:=rs) (i:=0);omega);obtain⟨h1,h2⟩:=F4 h;refine⟨o',h,?_⟩;have hs:=N5 h1;rw[← hs.2.length_eq];have:=UX (P3 o') 0 16 hs.1 fun x hx=>⟨by omega,(Mn (h2 x (hs.2.subset hx))).2.1⟩;omega
noncomputable def LC (a b:List T):List (List Int):=a.map fun x=>b.map fun y=>(FW x y:Int)
noncomputable def pkO (rs:List (List Int)):List Sc:=(Qy rs).choose
noncomputable def YA (rs:List (List Int)):List Sc:=P3 (pkO rs)
theorem Wk (rs:List (List Int)):KV (GL 0 rs) [] (pkO rs)∧(pkO rs).length≤16:=(Qy rs).choose_spec
def GI (one:T→T→E) (a b:List T):List Sc→Nat→Nat→List OP→List OP
 |[],i,j,out=>out++DE (a.drop i)++B7 (b.drop j)
 |x::xs,i,j,out=>GI one a b xs (x.i+1) (x.j+1) (out++DE ((a.take x.i).drop i)++B7 ((b.take x.j).drop j)++[.mk 3 0 [] (one (a.getD x.i T0) (b.getD x.j T0))])
noncomputable def FU (one:T→T→E) (a b:List T):List OP:=GI one a b (YA (LC a b)) 0 0 []
def Cv (gap:List T→List T→List OP):List Sp→List T→List T→List OP→List OP
 |[],_,_,out=>out
 |[s],a,b,out=>if s.k=0 then out++[.mk 0 s.n [] E0] else if s.k=2 then out++B7 (b.take s.n) else out++DE (a.take s.n)
 |s::s2::ss,a,b,out=>
  if s.k=0 then Cv gap (s2::ss) (a.drop s.n) (b.drop s.n) (out++[.mk 0 s.n [] E0])
  else if s.k=2 then Cv gap (s2::ss) a (b.drop s.n) (out++B7 (b.take s.n))
  else if s2.k=2 then Cv gap ss (a.drop s.n) (b.drop s2.n) (out++gap (a.take s.n) (b.take s2.n))
  else Cv gap (s2::ss) (a.drop s.n) b (out++DE (a.take s.n))
abbrev pj (l:List Nat):List Int:=l.map fun n:Nat=>(n:Int)
noncomputable def Ru (a:T):List Int:=pj (Cs [] a.kids).2
noncomputable def RP (a b:T):List Int:=pj (Cs (Cs [] a.kids).1 b.kids).2
noncomputable def OD (one:T→T→E) (most:Int) (a b:T):E:=
 .mk 3 T0 T0 [] [] a.kind (if (CH (Ru a) (RP a b):Int)≤most then Cv (FU one) (JD (FH (Ru a) (RP a b))) a.kids b.kids [] else FU one a.kids b.kids)
def Hv (a b:T) (m:Nat):List WE:=(List.range m).filterMap fun i=>if DL (a.words.getD i 0) (b.words.getD i 0)=0 then none else some (Wa i (a.words.getD i 0) (b.words.getD i 0))
def Cq (one:T→T→E) (a b:T) (m:Nat):List KE:=(List.range m).filterMap fun i=>if (one (a.kids.getD i T0) (b.kids.getD i T0)).kind=0 then none else some (.mk i (one (a.kids.getD i T0) (b.kids.getD i T0)))
def XU (one:T→T→E) (a b:T):E:=.mk 2 T0 T0 (Hv a b (max a.words.length b.words.length)) (Cq one a b (max a.kids.length b.kids.length)) 0 []
noncomputable def DP (most:Int):Nat→T→T→E
 |0,a,b=>if Kd a b=true then E0 else .mk 1 a b [] [] 0 []
 |f+1,a,b=>if Kd a b=true then E0 else if a.kind=1∧b.kind=1 then XU (DP most f) a b else if a.kind=b.kind∧2≤a.kind∧a.kind≤9 then OD (DP most f) most a b else .mk 1 a b [] [] 0 []
def dA (us:List Nat):Nat:=us.countP fun x=>x != 2
def dB (us:List Nat):Nat:=us.countP fun x=>x != 1
theorem G9 (n k:Nat):dA (List.replicate n k)=if k=2 then 0 else n:=by unfold dA;rw[List.countP_replicate];by_cases h:k=2<;>simp[h]
theorem GX (n k:Nat):dB (List.replicate n k)=if k=1 then 0 else n:=by unfold dB;rw[List.countP_replicate];by_cases h:k=1<;>simp[h]
theorem GC (a b:List Nat):dA (a++b)=dA a+dA b:=List.countP_append
theorem Gr (a b:List Nat):dB (a++b)=dB a+dB b:=List.countP_append
theorem WK:∀ (us:List Nat) (k d i:Nat),(∀ x,x ∈ us→x≤2)→dA (Bb (N9 us k d i))=k+d+dA us∧dB (Bb (N9 us k d i))=k+i+dB us
 |[],k,d,i,_=>by
  simp only[N9,Il,LW,GC,Gr,G9,GX];simp[dA,dB]
 |x::us,k,d,i,h=>by
  have hx:=h x (by simp);have hu:∀ y,y ∈ us→y≤2:=fun y hy=>h y (by simp[hy]);have e1:dA (x::us)=(if x=2 then 0 else 1)+dA us:=by
   have:=GC [x] us;rw[show [x]=List.replicate 1 x from rfl,G9] at this;simpa using this
  have e2:dB (x::us)=(if x=1 then 0 else 1)+dB us:=by
   have:=Gr [x] us;rw[show [x]=List.replicate 1 x from rfl,GX] at this;simpa using this
  rw[e1,e2,N9];have hx3:x=0∨x=1∨x=2:=by omega
  rcases hx3 with rfl | rfl | rfl
  ·obtain⟨h1,h2⟩:=WK us (k+1) 0 0 hu;simp only[if_true,Il,LW,GC,Gr,G9,GX,h1,h2];simp;omega
  ·obtain⟨h1,h2⟩:=WK us 0 (d+1) i hu;simp[GC,Gr,G9,GX,h1,h2];omega
  ·obtain⟨h1,h2⟩:=WK us 0 d (i+1) hu;simp[GC,Gr,G9,GX,h1,h2];omega
theorem WT (us:List Nat) (h:∀ x,x ∈ us→x≤2):dA (Bb (JD us))=dA us∧dB (Bb (JD us))=dB us:=by
 have:=WK us 0 0 0 h;unfold JD;omega
theorem XD:∀ (us:List Nat) (k d i:Nat),(∀ x,x ∈ us→x≤2)→∀ s,s ∈ N9 us k d i→s.k≤2∧1≤s.n
 |[],k,d,i,_,s,hs=>by
  simp only[N9,List.mem_append] at hs;rcases hs with hs | hs | hs<;>(unfold fl at hs;split at hs<;>simp at hs;subst hs;simp;omega)
 |x::us,k,d,i,h,s,hs=>by
  have hu:∀ y,y ∈ us→y≤2:=fun y hy=>h y (by simp[hy]);rw[N9] at hs;have fin:∀ q n,q≤2→s ∈ fl q n→s.k≤2∧1≤s.n:=fun q n hq hs=>by
   unfold fl at hs;split at hs<;>simp at hs;subst hs;simp;omega
  split at hs
  ·simp only[List.mem_append] at hs;rcases hs with hs | hs | hs
   ·exact fin 1 _ (by omega) hs
   ·exact fin 2 _ (by omega) hs
   ·exact XD us _ _ _ hu s hs
  ·rw[List.mem_append] at hs;rcases hs with hs | hs
   ·exact fin 0 _ (by omega) hs
   ·split at hs
    ·exact XD us _ _ _ hu s hs
    ·exact XD us _ _ _ hu s hs
theorem qG (p q:Nat):∀ x,x ∈ MM p q→x≤2:=by
 intro x hx;unfold MM at hx;split at hx
 ·rcases List.mem_append.1 hx with h | h
  ·have:=List.eq_of_mem_replicate h;omega
  ·simp at h;omega
 ·simp at hx;omega
theorem wB {p q:Nat} (h:p≤q):dA (MM p q)=1∧dB (MM p q)=q-p:=by
 unfold MM;split
 ·rw[GC,Gr,G9,GX];simp[dA,dB];omega
 ·simp[dA,dB];omega
theorem RU (a b:List Int):∀ x,x ∈ FH a b→x≤2:=by
 intro x hx;unfold FH at hx;rcases List.mem_append.1 hx with h | h
 ·obtain⟨i,_,hi⟩:=List.mem_flatMap.1 h;exact qG _ _ x hi
 ·have:=List.eq_of_mem_replicate h;omega
theorem fe (a b:List Int):∀ n,n≤a.length→dA ((List.range n).flatMap (fun i=>MM (Cp a b i) (Cp a b (i+1))))=n∧dB ((List.range n).flatMap (fun i=>MM (Cp a b i) (Cp a b (i+1))))=Cp a b n
 |0,_=>by simp[dA,dB,Ti]
 |n+1,h=>by
  obtain⟨h1,h2⟩:=fe a b n (by omega);have hm:=SB (a:=a) (b:=b) (i:=n) (h:=n+1) (by omega) h;obtain⟨g1,g2⟩:=wB hm;rw[List.range_succ,List.flatMap_append,GC,Gr,h1,h2];simp[g1,g2];omega
theorem cq (a b:List Int):dA (FH a b)=a.length∧dB (FH a b)=b.length:=by
 obtain⟨h1,h2⟩:=fe a b a.length (Cj _);have hl:=(G8 (a:=a) (b:=b) (i:=a.length) (Cj _)).2.1;unfold FH;rw[GC,Gr,h1,h2,G9,GX];simp;omega
abbrev prs (l:List Sc):A:=.sl false (l.map Jh)
variable {n0:Nat} {w0:World} {I0:Nat→Prop} {Q:Exit→Sta→Prop}
theorem xa {a b:T} {H:Hp} (ha:AK a) (hb:AK b) (h0:H [0]=⟨1,.cells (tL a)⟩) (h1:H [1]=⟨1,.cells (tL b)⟩):∀ (m i n:Nat),i+m=min a.words.length b.words.length→n≤1+i →
  (∀ st,Q (.exit 0) ⟨lk ([(2,.pob [0] 1 0),(3,.pob [1] 1 0),(5,nv (n+OE (a.words.drop i) (b.words.drop i)))]++st),H⟩) →
  LoopC (cx Tryz.prog w0 I0 n0) Ho Q ⟨lk [(2,.pob [0] 1 0),(3,.pob [1] 1 0),(5,nv n),(29,iv (min a.words.length b.words.length:Nat)),(30,iv i)],H⟩:=by
 have hal:=(wfT_iff.1 ha).wl;intro m;induction m with
 |zero=>
  intro i n hm hn hq;refine Ab Ai Ho.eq_1 ?_;rw[ku (by omega)] at hq;generalize min a.words.length b.words.length=N at *;simp[show ¬ i<N by omega];exact hq [(29,iv N),(30,iv i),(31,bv false)]
 |succ m ih=>
  intro i n hm hn hq;have hi:i<a.words.length:=by omega
  have hj:i<b.words.length:=by omega
  have e1:=AW i;have e2:=AW n;rw[rl hi hj] at hq;generalize min a.words.length b.words.length=N at *;have hN:i<N:=by omega
  refine Ab Ai Ho.eq_1 ?_;by_cases h:a.words[i]=b.words[i]
  ·simp[h0,h1,hi,hj,hN,h,e1,e2];refine ih (i+1) (n+1) (by omega) (by omega) fun st=>?_;have:=hq st;rw[if_pos h] at this;rw[show n+1+OE (a.words.drop (i+1)) (b.words.drop (i+1))=n+(1+OE (a.words.drop (i+1)) (b.words.drop (i+1))) by omega];exact this
  ·simp[h0,h1,hi,hj,hN,h,e1];refine ih (i+1) n (by omega) (by omega) fun st=>?_;have:=hq st;rw[if_neg h,Nat.zero_add] at this;exact this
theorem vS {a b:T} {H:Hp} (ha:AK a) (hb:AK b) (h0:H [0]=⟨1,.cells (tL a)⟩) (h1:H [1]=⟨1,.cells (tL b)⟩):∀ (m i n:Nat),i+m=min a.kids.length b.kids.length→n≤100000000000000+i →
  (∀ st,Q (.exit 2) ⟨lk ([(2,.pob [0] 1 0),(3,.pob [1] 1 0),(5,nv (n+WW (a.kids.drop i) (b.kids.drop i)))]++st),H⟩) →
  LoopC (cx Tryz.prog w0 I0 n0) Hg Q ⟨lk [(2,.pob [0] 1 0),(3,.pob [1] 1 0),(5,nv n),(53,iv (min a.kids.length b.kids.length:Nat)),(54,iv i)],H⟩:=by
 have hal:=(wfT_iff.1 ha).kl;intro m;induction m with
 |zero=>
  intro i n hm hn hq;refine Ab Ai Hg.eq_1 ?_;rw[mR (by omega)] at hq;generalize min a.kids.length b.kids.length=N at *;simp[show ¬ i<N by omega];exact hq [(53,iv N),(54,iv i),(55,bv false)]
 |succ m ih=>
  intro i n hm hn hq;have hi:i<a.kids.length:=by omega
  have hj:i<b.kids.length:=by omega
  have e1:=AW i;have e2:=AW n;have hE:=Iw ((wfT_iff.1 ha).ks _ (C5 hi)) ((wfT_iff.1 hb).ks _ (C5 hj));rw[qz hi hj] at hq;generalize min a.kids.length b.kids.length=N at *;have hN:i<N:=by omega
  refine Ab Ai Hg.eq_1 ?_;simp[h0,h1,hi,hj,hN];refine Af hE (by simp) ?_;cases h:Kd a.kids[i] b.kids[i] with
  |true=>
   simp[e1,e2];refine ih (i+1) (n+1) (by omega) (by omega) fun st=>?_;have:=hq st;rw[if_pos h] at this;rw[show n+1+WW (a.kids.drop (i+1)) (b.kids.drop (i+1))=n+(1+WW (a.kids.drop (i+1)) (b.kids.drop (i+1))) by omega];exact this
  |false=>
   simp[e1];refine ih (i+1) n (by omega) (by omega) fun st=>?_;have:=hq st;rw[if_neg (by rw[h];decide),Nat.zero_add] at this;exact this
theorem Ya {a b:T} (ha:AK a) (hb:AK b):G.Spec Tryz.prog 184 [tX a,tX b] (nv (FW a b)):=by
 have hal:=(wfT_iff.1 ha).wl;refine Al Wo (by simp) fun w0 I0=>?_;unfold PN;by_cases hk:a.kind=b.kind
 ·by_cases h0:b.kind=0
  ·simp[hk,h0];exact Jz (by simp[FW,hk,h0])
  ·by_cases h10:b.kind=10
   ·simp[hk,h0,h10];exact Jz (by simp[FW,hk,h10])
   ·simp[hk,h0,h10];refine LoopC.le (Ao [(2,.pob [0] 1 0),(3,.pob [1] 1 0),(5,nv 1),(29,iv (min a.words.length b.words.length:Nat)),(30,iv (0:Nat))] (by simp;omega)) ?_;refine xa ha hb (by simp[Aa,hk]) (by simp[Aa]) _ 0 1 (Nat.zero_add _) (by omega) fun st=>?_;simp;refine LoopC.le (Ao [(2,.pob [0] 1 0),(3,.pob [1] 1 0),(5,nv (1+OE a.words b.words)),(53,iv (min a.kids.length b.kids.length:Nat)),(54,iv (0:Nat))] (by simp;omega)) ?_;have:=Yf a.words b.words;refine vS ha hb (by simp[Aa,hk]) (by simp[Aa]) _ 0 _ (Nat.zero_add _) (by omega) fun st=>?_;simp;refine Jz ?_;simp[FW,hk,h0,h10]
 ·simp[hk];exact Jz (by simp[FW,hk])
theorem tz {t:T} (h:AK t) (i:Nat):Bo (wdT t i):=by
 unfold wdT;rw[List.getD_eq_getElem?_getD];cases e:t.words[i]? with
 |none=>exact⟨by simp,by simp⟩
 |some x=>exact(wfT_iff.1 h).w x (List.mem_of_getElem? e)
inductive WI where
 |keep (n:Int)
 |del (k v:Nat) (l:List T)
 |ins (k v:Nat) (l:List T)
 |desc (e:E)
def WI.op:WI→OP
 |.keep n=>.mk 0 n [] E0
 |.del _ _ l=>.mk 1 0 l E0
 |.ins _ _ l=>.mk 2 0 l E0
 |.desc e=>.mk 3 0 [] e
def DS:List A:=[iv 0,iv 0,.sl true [],.sl true [],iv 0,.sl true [],.sl true [],.sl true [],.sl true [],iv 0,.sl true []]
def Ud (r:Nat):WI→List A
 |.keep n=>iv 0::iv n :: .sl true []::DS
 |.del k v l=>iv 1::iv 0 :: .osl (r::[k]) v 3 0 l.length::DS
 |.ins k v l=>iv 2::iv 0 :: .osl (r::[k]) v 3 0 l.length::DS
 |.desc e=>iv 3::iv 0 :: .sl true []::eL e
def QM (r:Nat) (x:WI):A:=.agg (Ud r x)
@[simp] theorem yC {r:Nat} {x:WI}:(QM r x).cells=Ud r x:=rfl
@[simp] theorem AeQ {r:Nat} {x:WI}:(Ud r x).length=14:=by cases x<;>rfl
theorem rY {g:Nm→Nm} {δ:Nm→Nat} {r r':Nat} (hg:∀ p,g (r::p)=r'::p) (hd:∀ p,δ (r::p)=0) (x:WI):A.renL g δ (Ud r x)=Ud r' x:=by
 cases x<;>simp[Ud,DS,A.renL,A.ren,hg,hd]
theorem jU {D:Nm→Prop} {r:Nat} (hD:∀ p,D (r::p)) (x:WI):A.refsL D (Ud r x):=by
 cases x<;>simp[Ud,DS,A.refsL,A.refs,hD]
def Mv (r:Nat):Option (Nat × Nat × List T)→A
 |some (k,v,l)=>.osl (r::[k]) v 3 0 l.length
 |none=>.sl true []
abbrev RQ:=Nat→Option (Nat × List T)
def fc:Option (Nat × List T)→VOb
 |some (v,l)=>⟨v,.arr 3 (l.map tA)⟩
 |none=>⟨0,.none⟩
theorem qH {g:Nm→Nm} {δ:Nm→Nat} {r r':Nat} (hg:∀ p,g (r::p)=r'::p) (hd:∀ p,δ (r::p)=0) (o:Option (Nat × Nat × List T)):(Mv r o).ren g δ=Mv r' o:=by
 rcases o with _ | ⟨k,v,l⟩
 ·simp[Mv,A.ren]
 ·simp[Mv,A.ren,hg,hd]
def Q3 (R:RQ):Nm→VOb
 |[k]=>fc (R k)
 |_=>⟨0,.none⟩
@[simp] theorem x7 {R:RQ} {k:Nat}:Q3 R [k]=fc (R k):=rfl
theorem rr {g:Nm→Nm} {δ:Nm→Nat} (o:Option (Nat × List T)):VOb.ren g δ 0 (fc o)=fc o:=by
 rcases o with _ | ⟨v,l⟩
 ·rfl
 ·refine Fam.arr_ren ?_;simp only[Co,List.map_map];refine List.map_congr_left fun x _=>?_;simp[A.ren,A.renL]
theorem gP {g:Nm→Nm} {δ:Nm→Nat} (R:RQ):∀ p,VOb.ren g δ 0 (Q3 R p)=Q3 R p
 |[]=>rfl
 |[k]=>rr _
 |_::_::_=>rfl
theorem og {D:Nm→Prop} (o:Option (Nat × List T)):(fc o).ob.refs D:=by
 rcases o with _ | ⟨v,l⟩
 ·trivial
 ·simp only[fc,Ob.refs,refsL_iff];intro y hy;obtain⟨x,_,rfl⟩:=List.mem_map.1 hy;simp[A.refs,A.refsL]
theorem cR {D:Nm→Prop} (R:RQ):∀ p,(Q3 R p).ob.refs D
 |[]=>trivial
 |[k]=>og _
 |_::_::_=>trivial
def Tv (its:List WI) (vo:Nat) (g b:Option (Nat × Nat × List T)) (R:RQ):Fam:=⟨fun r p=>if p=[] then ⟨1,.cells [.osl (r::[0]) vo 14 0 its.length,Mv r g,Mv r b]⟩ else if p=[0] then ⟨vo,.arr 14 (its.map (QM r))⟩ else Q3 R p,fun {γ δ r r'} hg hd p=>by
  by_cases h1:p=[]
  ·rw[if_pos h1,if_pos h1];refine Fam.cells_ren ?_;simp[A.renL,A.ren,hg,hd,qH hg hd]
  ·rw[if_neg h1,if_neg h1];by_cases h2:p=[0]
   ·rw[if_pos h2,if_pos h2];refine Fam.arr_ren ?_;simp only[Co,List.map_map];refine List.map_congr_left fun x _=>?_;simp[QM,A.ren,rY hg hd]
   ·rw[if_neg h2,if_neg h2];exact gP R p,fun {D r} hD p=>by
  by_cases h1:p=[]
  ·rw[if_pos h1];rcases g with _ | ⟨k,v,l⟩<;>rcases b with _ | ⟨k',v',l'⟩<;>simp[Ob.refs,A.refsL,A.refs,hD,Mv]
  ·rw[if_neg h1];by_cases h2:p=[0]
   ·rw[if_pos h2];simp only[Ob.refs,refsL_iff];intro y hy;obtain⟨x,_,rfl⟩:=List.mem_map.1 hy;simp only[A.refs,QM];exact jU hD x
   ·rw[if_neg h2];exact cR R p⟩
@[simp] theorem dm {its:List WI} {vo:Nat} {g b:Option (Nat × Nat × List T)} {R:RQ} {r:Nat} {p:Nm}:(Tv its vo g b R).F r p=if p=[] then ⟨1,.cells [.osl (r::[0]) vo 14 0 its.length,Mv r g,Mv r b]⟩ else if p=[0] then ⟨vo,.arr 14 (its.map (QM r))⟩ else Q3 R p:=rfl
abbrev qy (r:Nat):A:=.pob [r] 1 0
theorem RM {r:Nat} {l:List WI}:Dd 14 (l.map (QM r))=true:=by rw[EX];simp
def EI:Nat × Nat × List T→List WI
 |(k,v,l)=>if l=[] then [] else [.del k v l]
def BC:Nat × Nat × List T→List WI
 |(k,v,l)=>if l=[] then [] else [.ins k v l]
theorem H9 (its:List WI) (vo:Nat) (g b:Nat × Nat × List T) (R:RQ) (hl:its.length≤1000000) (hg:R g.1=some (g.2.1,g.2.2)) (hb:R b.1=some (b.2.1,b.2.2)) (hg0:1≤g.1) (hb0:1≤b.1):SpecF Tryz.prog 119 (fun r=>[qy r]) (Tv its vo (some g) (some b) R) (fun _=>.tup []) (Tv (its++(EI g++BC b)) (vo+(EI g++BC b).length) none none R):=by
 obtain⟨gk,gv,gl⟩:=g;obtain⟨bk,bv',bl⟩:=b;refine Aq K8 (by simp) (Ae Au Ah) (A5 Ah) fun w0 I0 M0 m0=>?_;unfold GM;by_cases h1:gl=[]
 ·by_cases h2:bl=[]
  ·simp[h1,h2,Mv];rw[B9.eq_1];simp[h1,h2,Mv,Aa];refine AU rfl rfl (fun p=>?_);by_cases p1:p=[]
   ·subst p1;simp[Aa,EI,BC,Mv]
   ·by_cases p2:p=[0]
    ·subst p2;simp[Aa,EI,BC]
    ·simp[p1,p2,Aa]
  ·have h2':(0:Int)<bl.length:=by have:=List.length_pos_iff.2 h2;omega
   have h2n:=List.length_pos_iff.2 h2;simp[h1,h2,Mv];rw[B9.eq_1];simp[h1,h2,h2',h2n,Mv,Aa,RM];refine⟨by omega,by omega,?_⟩;refine AU rfl rfl (fun p=>?_);by_cases p1:p=[]
   ·subst p1;simp[Aa,EI,BC,Mv,h1,h2]
   ·by_cases p2:p=[0]
    ·subst p2;simp[Aa,EI,BC,h1,h2,QM,Ud,DS,AX]
    ·simp[p1,p2,Aa]
 ·have h1':(0:Int)<gl.length:=by have:=List.length_pos_iff.2 h1;omega
  have h1n:=List.length_pos_iff.2 h1;by_cases h2:bl=[]
  ·simp[h1,h1',h1n,h2,Mv,Aa,RM];refine⟨by omega,by omega,?_⟩;rw[B9.eq_1];simp[h1,h2,Mv,Aa];refine AU rfl rfl (fun p=>?_);by_cases p1:p=[]
   ·subst p1;simp[Aa,EI,BC,Mv,h1,h2]
   ·by_cases p2:p=[0]
    ·subst p2;simp[Aa,EI,BC,h1,h2,QM,Ud,DS,AX]
    ·simp[p1,p2,Aa]
  ·have h2':(0:Int)<bl.length:=by have:=List.length_pos_iff.2 h2;omega
   have h2n:=List.length_pos_iff.2 h2;simp[h1,h1',h1n,h2,Mv,Aa,RM];refine⟨by omega,by omega,?_⟩;rw[B9.eq_1];simp[h1,h2,h2',h2n,Mv,Aa];refine⟨by omega,⟨by omega,by omega⟩,?_⟩;refine AU rfl rfl (fun p=>?_);by_cases p1:p=[]
   ·subst p1;simp[Aa,EI,BC,Mv,h1,h2]
   ·by_cases p2:p=[0]
    ·subst p2;simp[Aa,EI,BC,h1,h2,QM,Ud,DS,AX]
    ·simp[p1,p2,Aa]
theorem AaF (l:List T) (x:A):(l.map tA++[x])[l.length]? = some x:=by rw[List.getElem?_append_right (by simp)];simp
theorem rG (l:List T):List.take l.length (l.map tA)=l.map tA:=AX (by simp)
theorem cX {n0:Nat} {w0:World} {I0:Nat→Prop} {M0:Nm→Nat→Prop} {m0:Mu} {Q:Exit→Sta→Prop} {its:List WI} {vo off k:Nat} {g b:Option (Nat × Nat × List T)} {R:RQ} {ts l0:List T} {v0:Nat} (hts:∀ t,t ∈ ts→AK t) (hl:l0.length+ts.length≤1000000) (hk:1≤k)
  (F:Nat→List T→Fam) (hF0:∀ v l,(F v l).F 0 []=⟨1,.cells [.osl [0,0] vo 14 0 its.length,if off=1 then .osl [0,k] v 3 0 l.length else Mv 0 g,if off=1 then Mv 0 b else .osl [0,k] v 3 0 l.length]⟩) (hoff:off=1∨off=2) (hFk:∀ v l,(F v l).F 0 [k]=⟨v,.arr 3 (l.map tA)⟩) (hFo:∀ v l v' l' p,p ≠ []→p ≠ [k]→(F v l).F 0 p=(F v' l').F 0 p)
  (hq:∀ H st,(∀ p,H (0::p)=(F (v0+ts.length) (l0++ts.map Ag)).F 0 p)→Q (.exit 0) ⟨lk st,H⟩):∀ (m i:Nat) (H:Hp),i+m=ts.length→(∀ p,H (0::p)=(F (v0+i) (l0++(ts.take i).map Ag)).F 0 p) →
  LoopC (DD Tryz.prog w0 I0 M0 n0 m0) Gy Q ⟨lk [(0,.pob [0] 1 off),(6,BG ts),(7,iv ts.length),(8,iv i)],H⟩:=by
 intro m;induction m with
 |zero=>
  intro i H hm hH;refine Ab Ai Gy.eq_1 ?_;have:i=ts.length:=by omega
  subst this;rw[AX (Cj _)] at hH;simp;exact hq H _ hH
 |succ m ih=>
  intro i H hm hH;have hi:i<ts.length:=by omega
  have ew:=AW i;have h0:=hH [];rw[hF0] at h0;have h1:=hH [k];rw[hFk] at h1;have hN:=C8 ts[i] (hts _ (C5 hi));have hLs:l0++(ts.take (i+1)).map Ag=l0++(ts.take i).map Ag++[Ag ts[i]]:=by rw[HP hi,List.map_append,← List.append_assoc];rfl
  have hLl:(l0++(ts.take i).map Ag).length≤1000000:=by simp;omega
  have next:=ih (i+1)
  rw[hLs,← Nat.add_assoc] at next
  generalize l0++(ts.take i).map Ag=L at *;generalize v0+i=v at *;have hH':∀ (p:Nm) (H2:Hp),p ≠ []→p ≠ [k]→H2 (0::p)=H (0::p)→H2 (0::p)=(F (v+1) (L++[Ag ts[i]])).F 0 p:=fun p H2 p1 p2 he=>by rw[he,hH,hFo _ _ _ _ p p1 p2]
  refine Ab Ai Gy.eq_1 ?_;rcases hoff with rfl | rfl;all_goals
   simp at h0 h1;simp[hi,Aa,h0];refine Af hN (by simp[Aa]) ?_;simp[Aa,h0,h1,show ¬ k=0 by omega,show ¬ 0=k by omega,AaF,rG,ew];refine⟨by omega,by omega,?_⟩;refine next _ (by omega) (fun p=>?_)
   by_cases p1:p=[]
   ·subst p1;rw[hF0];simp[Aa,show ¬ k=0 by omega,show ¬ 0=k by omega]
   ·by_cases p2:p=[k]
    ·subst p2;rw[hFk];simp[Aa,show ¬ k=0 by omega,show ¬ 0=k by omega]
    ·exact hH' p _ p1 p2 (by simp[Aa,p1,p2,Ne.symm p1,Ne.symm p2])
def Fz (R:RQ) (k:Nat) (v:Nat) (l:List T):RQ:=fun q=>if q=k then some (v,l) else R q
theorem VY {R:RQ} {k v:Nat} {l:List T} (h:R k=some (v,l)):Fz R k v l=R:=by
 funext q;unfold Fz;split
 ·rename_i e;rw[e,h]
 ·rfl
theorem ck (its:List WI) (vo k v:Nat) (l:List T) (b:Option (Nat × Nat × List T)) (R:RQ) (hR:R k=some (v,l)) (hk:1≤k) (hb:∀ x,b=some x→x.1 ≠ k) {ts:List T} (hts:∀ t,t ∈ ts→AK t) (hl:l.length+ts.length≤1000000) :
  SpecF Tryz.prog 117 (fun r=>[.pob [r] 1 1,BG ts]) (Tv its vo (some (k,v,l)) b R) (fun _=>.tup []) (Tv its vo (some (k,v+ts.length,l++ts.map Ag)) b (Fz R k (v+ts.length) (l++ts.map Ag))):=by
 refine Aq MU (by simp) (Ae Au (Ae Ba Ah)) (A5 Ah) fun w0 I0 M0 m0=>?_;unfold JA;simp;refine LoopC.le (Ao [(0,.pob [0] 1 1),(6,BG ts),(7,iv ts.length),(8,iv (0:Nat))] (by simp)) ?_;refine cX (its:=its) (vo:=vo) (off:=1) (k:=k) (g:=none) (b:=b) (R:=R) (ts:=ts) (l0:=l) (v0:=v) hts hl hk (fun v l=>Tv its vo (some (k,v,l)) b (Fz R k v l)) (fun v l=>by simp[Mv]) (.inl rfl) (fun v l=>by simp[fc,Fz,show ¬ k=0 by omega]) (fun v l v' l' p p1 p2=>?_) (fun H st hH=>?_) ts.length 0 _ (by omega) (fun p=>?_)
 ·rw[dm,dm,if_neg p1,if_neg p1];split
  ·rfl
  ·match p with
   |[]=>rfl
   |[q]=>simp[Fz,show ¬ q=k from fun e=>p2 (by rw[e])]
   |_::_::_=>rfl
 ·simp;exact AU rfl rfl hH
 ·simp only[List.take_zero,List.map_nil,List.append_nil,Nat.add_zero];rw[VY hR];simp
theorem cI (its:List WI) (vo k v:Nat) (l:List T) (g:Option (Nat × Nat × List T)) (R:RQ) (hR:R k=some (v,l)) (hk:1≤k) {ts:List T} (hts:∀ t,t ∈ ts→AK t) (hl:l.length+ts.length≤1000000) :
  SpecF Tryz.prog 117 (fun r=>[.pob [r] 1 2,BG ts]) (Tv its vo g (some (k,v,l)) R) (fun _=>.tup []) (Tv its vo g (some (k,v+ts.length,l++ts.map Ag)) (Fz R k (v+ts.length) (l++ts.map Ag))):=by
 refine Aq MU (by simp) (Ae Au (Ae Ba Ah)) (A5 Ah) fun w0 I0 M0 m0=>?_;unfold JA;simp;refine LoopC.le (Ao [(0,.pob [0] 1 2),(6,BG ts),(7,iv ts.length),(8,iv (0:Nat))] (by simp)) ?_;refine cX (its:=its) (vo:=vo) (off:=2) (k:=k) (g:=g) (b:=none) (R:=R) (ts:=ts) (l0:=l) (v0:=v) hts hl hk (fun v l=>Tv its vo g (some (k,v,l)) (Fz R k v l)) (fun v l=>by simp[Mv]) (.inr rfl) (fun v l=>by simp[fc,Fz,show ¬ k=0 by omega]) (fun v l v' l' p p1 p2=>?_) (fun H st hH=>?_) ts.length 0 _ (by omega) (fun p=>?_)
 ·rw[dm,dm,if_neg p1,if_neg p1];split
  ·rfl
  ·match p with
   |[]=>rfl
   |[q]=>simp[Fz,show ¬ q=k from fun e=>p2 (by rw[e])]
   |_::_::_=>rfl
 ·simp;exact AU rfl rfl hH
 ·simp only[List.take_zero,List.map_nil,List.append_nil,Nat.add_zero];rw[VY hR];simp
theorem YL (l:List WI) (r:Nat) (x:A):(l.map (QM r)++[x])[l.length]? = some x:=by rw[List.getElem?_append_right (by simp)];simp
theorem rz (l:List WI) (r:Nat):List.take l.length (l.map (QM r))=l.map (QM r):=AX (by simp)
theorem Ls (l:List WI) (r:Nat) (x:A):List.take (l.length+1) (l.map (QM r)++[x])=l.map (QM r)++[x]:=AX (by simp)
theorem Pz:∀ g,(EI g).length≤1
 |(a,b,c)=>by
  by_cases h:c=[]<;>simp[EI,h]
theorem Kv:∀ g,(BC g).length≤1
 |(a,b,c)=>by
  by_cases h:c=[]<;>simp[BC,h]
theorem bu (its i0:List WI) (vo:Nat) (m n:Int) (g b:Nat × Nat × List T) (R:RQ) (hl:its.length≤1000000) (hg:R g.1=some (g.2.1,g.2.2)) (hb:R b.1=some (b.2.1,b.2.2)) (hg0:1≤g.1) (hb0:1≤b.1) (hi:its++(EI g++BC b)=i0++[.keep m]):SpecF Tryz.prog 116 (fun r=>[qy r,iv n]) (Tv its vo (some g) (some b) R) (fun _=>.tup []) (Tv (i0++[.keep (i64.wrap (m+n))]) (vo+(EI g++BC b).length) none none R):=by
 have F1:=H9 its vo g b R hl hg hb hg0 hb0;rw[hi] at F1;have hlen:i0.length≤1000002:=by
  have e:=congrArg List.length hi;have:=Pz g;have:=Kv b;simp at e;omega
 generalize vo+(EI g++BC b).length=v at *;have e1:i64.wrap (i0.length:Int)=i0.length:=EJ;refine Aq Hw (by simp) (Ae Au (Ae AB Ah)) (A5 Ah) fun w0 I0 M0 m0=>?_;unfold EP;simp;refine Ar 0 F1 (fun p=>by simp) (by simp) (by simp) ?_;simp[e1,YL,QM,Ud];refine⟨by omega,rfl,?_⟩;refine Ax rfl rfl (fun p=>?_);by_cases p1:p=[]
 ·subst p1;simp[Aa,Mv]
 ·by_cases p2:p=[0]
  ·subst p2;simp[Aa,QM,Ud,DS,A.remake,Ls]
  ·simp[p1,p2,Aa]
theorem bn (its:List WI) (vo:Nat) (n:Int) (g b:Nat × Nat × List T) (R:RQ) (hl:its.length≤1000000) (hg:R g.1=some (g.2.1,g.2.2)) (hb:R b.1=some (b.2.1,b.2.2)) (hg0:1≤g.1) (hb0:1≤b.1) (hi:its++(EI g++BC b)=[]∨∃ i0 x,its++(EI g++BC b)=i0++[x]∧x.op.kind ≠ 0):SpecF Tryz.prog 116 (fun r=>[qy r,iv n]) (Tv its vo (some g) (some b) R) (fun _=>.tup []) (Tv (its++(EI g++BC b)++[.keep n]) (vo+(EI g++BC b).length+1) none none R):=by
 have F1:=H9 its vo g b R hl hg hb hg0 hb0;have hlen:(its++(EI g++BC b)).length≤1000002:=by
  have:=Pz g;have:=Kv b;simp;omega
 generalize vo+(EI g++BC b).length=v at *;generalize its++(EI g++BC b)=J at *;refine Aq Hw (by simp) (Ae Au (Ae AB Ah)) (A5 Ah) fun w0 I0 M0 m0=>?_;unfold EP;simp;refine Ar 0 F1 (fun p=>by simp) (by simp) (by simp) ?_;rcases hi with rfl | ⟨i0,x,rfl,hx⟩
 ·simp[Aa,show i64.wrap (-1) = -1 from rfl];refine AU rfl rfl (fun p=>?_);by_cases p1:p=[]
  ·subst p1;simp[Aa,Mv]
  ·by_cases p2:p=[0]
   ·subst p2;simp[Aa,QM,Ud,DS,A.remake,Ls]
   ·simp[p1,p2,Aa]
 ·simp at hlen;have e1:i64.wrap (i0.length:Int)=i0.length:=EJ;cases x with
  |keep m=>exact absurd rfl hx
  |del a b c=>
   simp[e1,YL,QM,Ud,Aa];refine⟨by omega,by omega,⟨by omega,by omega⟩,?_⟩;refine AU rfl rfl (fun p=>?_);by_cases p1:p=[]
   ·subst p1;simp[Aa,Mv]
   ·by_cases p2:p=[0]
    ·subst p2;simp[Aa,QM,Ud,DS,A.remake,Ls]
    ·simp[p1,p2,Aa]
  |ins a b c=>
   simp[e1,YL,QM,Ud,Aa];refine⟨by omega,by omega,⟨by omega,by omega⟩,?_⟩;refine AU rfl rfl (fun p=>?_);by_cases p1:p=[]
   ·subst p1;simp[Aa,Mv]
   ·by_cases p2:p=[0]
    ·subst p2;simp[Aa,QM,Ud,DS,A.remake,Ls]
    ·simp[p1,p2,Aa]
  |desc e=>
   simp[e1,YL,QM,Ud,Aa];refine⟨by omega,by omega,⟨by omega,by omega⟩,?_⟩;refine AU rfl rfl (fun p=>?_);by_cases p1:p=[]
   ·subst p1;simp[Aa,Mv]
   ·by_cases p2:p=[0]
    ·subst p2;simp[Aa,QM,Ud,DS,A.remake,Ls]
    ·simp[p1,p2,Aa]
def WI.row:WI→Option (Nat × Nat × List T)
 |.del k v l=>some (k,v,l)
 |.ins k v l=>some (k,v,l)
 |_=>none
def ItR (R:RQ) (its:List WI):Prop:=∀ x,x ∈ its→∀ k v l,x.row=some (k,v,l)→R k=some (v,l)∧1≤k
theorem th {c:Cx} {s:Nat→A} {H:Hp} {its:List WI} {v K:Nat} {R:RQ} (hH:∀ p,H (0::p)=(Tv its v none none R).F 0 p) (hK:∀ q,K≤q→R q=none) (hK1:1≤K):∃ H',Le c ⟨s,H⟩ ⟨s,H'⟩∧(∀ p,H' (0::p)=(Tv its v (some (K,1,[])) (some (K+1,1,[])) (Fz (Fz R K 1 []) (K+1) 1 [])).F 0 p):=by
 have h0:=hH [];simp[Mv] at h0;have hK0:H [0,K]=⟨0,.none⟩:=by rw[hH];simp[show ¬ K=0 by omega,hK K (Cj _),fc]
 have hK2:H [0,K+1]=⟨0,.none⟩:=by rw[hH];simp[hK (K+1) (by omega),fc]
 have l1:=BX (c:=c) (s:=s) (H:=H) (d:=[0]) (u:=1) (cs:=[.osl [0,0] v 14 0 its.length,.sl true [],.sl true []]) 1 [0,K] 3 h0 rfl (by simp);refine⟨_,l1.trans (BX (d:=[0]) (u:=1) (cs:=[.osl [0,0] v 14 0 its.length,.osl [0,K] 1 3 0 0,.sl true []]) 2 [0,K+1] 3 (by simp[Aa,hK0]) rfl (by simp)),fun p=>?_⟩;by_cases p1:p=[]
 ·subst p1;simp[Aa,Mv,hK0,hK2]
 ·by_cases p2:p=[0]
  ·subst p2;simp[Aa,hH,show ¬ 0=K by omega]
  ·match p,p1,p2 with
   |[q],p1,p2=>
    have hq0:¬ q=0:=fun e=>p2 (by rw[e]);by_cases e1:q=K
    ·subst e1;simp[Aa,Fz,fc,hK0,hq0]
    ·by_cases e2:q=K+1
     ·subst e2;simp[Aa,Fz,fc,hK2]
     ·simp[Aa,Fz,hH,e1,e2,hq0]
   |_::_::_,p1,p2=>simp[Aa,hH,Q3]
theorem tV {H:Hp} {R:RQ} {its:List WI} {v:Nat} {g b:Option (Nat × Nat × List T)} (hH:∀ p,H (0::p)=(Tv its v g b R).F 0 p) (x:WI) (hx:∀ k v l,x.row=some (k,v,l)→R k=some (v,l)∧1≤k):Hy H (Ud 0 x) (oA x.op).cells:=by
 have key:∀ k v' l,x.row=some (k,v',l)→IZ H (.osl [0,k] v' 3 0 l.length) (BG l):=fun k v' l h=>by
  obtain⟨h1,h2⟩:=hx k v' l h;have:=hH [k];simp[show ¬ k=0 by omega,h1,fc] at this;exact B0 (f:=tA) (by rw[this];simp) rfl (by simp)
 have hraw:Hy H DS (eL E0):=⟨Ad rfl,Ad rfl,Am,Am,Ad rfl,Am,Am,Am,Am,Ad rfl,Am,trivial⟩;rw[oA_eq];cases x with
 |keep n=>exact⟨Ad rfl,Ad rfl,Am,hraw⟩
 |del k v' l=>exact⟨Ad rfl,Ad rfl,key k v' l rfl,hraw⟩
 |ins k v' l=>exact⟨Ad rfl,Ad rfl,key k v' l rfl,hraw⟩
 |desc e=>exact⟨Ad rfl,Ad rfl,Am,Ad rfl,Ad rfl,Ad rfl,Ad rfl,Ad rfl,Ad rfl,Ad rfl,Ad rfl,Ad rfl,Ad rfl,Ad rfl,trivial⟩
theorem S5 {H:Hp}:∀ {a b a' b':List A},Hy H a a'→Hy H b b'→a.length=a'.length→Hy H (a++b) (a'++b')
 |[],b,[],b',_,h,_=>h
 |x::a,b,y::a',b',h1,h,hl=>⟨h1.1,S5 h1.2 h (by simpa using hl)⟩
 |[],b,y::a',b',_,_,hl=>by simp at hl
 |x::a,b,[],b',_,_,hl=>by simp at hl
theorem qN {H:Hp} {R:RQ} {its:List WI} {v:Nat} {g b:Option (Nat × Nat × List T)} (hH:∀ p,H (0::p)=(Tv its v g b R).F 0 p) (hx:ItR R its):IZ H (.osl [0,0] v 14 0 its.length) (LO (its.map WI.op)):=by
 have h1:=hH [0];simp at h1;refine Om (o:=[0,0]) (u:=v) (off:=0) (len:=its.length) (sz:=14) (xs:=its.map (QM 0)) (ys:=(its.map WI.op).map oA) (by rw[Ms,h1];simp) (by simp) (by simp) (fun y hy=>by
  obtain⟨x,_,rfl⟩:=List.mem_map.1 hy;simp) ?_ ?_
 ·have:∀ l:List OP,A.ones ((l.map oA).flatMap A.cells)=true:=fun l=>by
   induction l with
   |nil=>rfl
   |cons x l ih=>simp[A.ones] at ih ⊢
  exact this _
 ·rw[List.drop_zero,AX (by simp),List.map_map];have:∀ l:List WI,(∀ x,x ∈ l→x ∈ its)→Hy H ((l.map (QM 0)).flatMap A.cells) ((l.map (oA ∘ WI.op)).flatMap A.cells):=fun l hl=>by
   induction l with
   |nil=>trivial
   |cons x l ih=>
    simp only[List.map_cons,List.flatMap_cons];exact S5 (tV hH x fun k v l h=>hx x (hl x (by simp)) k v l h) (ih fun y hy=>hl y (by simp[hy])) (by simp)
  exact this its fun x h=>h
theorem gD (list:Int) (e:E) (h1:e.words.length≤100000000000000) (h2:e.kids.length≤100000000000000):G.Spec Tryz.prog 118 [iv list,eX e] (bv (HJ list e)):=by
 have e1:i64.wrap ((e.words.length:Int)+e.kids.length)=((e.words.length+e.kids.length:Nat):Int):=Bg;refine Al UC (by simp) fun w0 I0=>?_;unfold Nk;by_cases k0:e.kind=0
 ·simp[k0,HJ];exact Ad rfl
 ·by_cases k9:list=9
  ·by_cases k2:e.kind=2
   ·simp[k0,k9,k2,HJ,e1];refine BE ?_;rw[Bool.eq_iff_iff];simp only[decide_eq_true_eq,Bool.and_eq_true,List.isEmpty_iff];constructor
    ·intro h;exact⟨List.eq_nil_of_length_eq_zero (by omega),List.eq_nil_of_length_eq_zero (by omega)⟩
    ·rintro⟨h1,h2⟩;rw[h1,h2];rfl
   ·simp[k0,k9,k2,HJ];exact Ad rfl
  ·simp[k0,k9,HJ];exact Ad rfl
theorem RG (its:List WI) (g b:Nat × Nat × List T):(its++(EI g++BC b)).map WI.op=Rz (its.map WI.op) g.2.2 b.2.2:=by
 obtain⟨a,c,l⟩:=g;obtain⟨a',c',l'⟩:=b;by_cases h1:l=[]<;>by_cases h2:l'=[]<;>simp[EI,BC,Rz,DE,B7,h1,h2,WI.op]
theorem pB (J:List WI):(∃ i0 m,J=i0++[.keep m])∨(J=[]∨∃ i0 x,J=i0++[x]∧x.op.kind ≠ 0):=by
 rcases List.eq_nil_or_concat J with h | ⟨i0,x,h⟩
 ·exact .inr (.inl h)
 ·rw[List.concat_eq_append] at h;cases x with
  |keep m=>exact .inl ⟨i0,m,h⟩
  |del a b c=>exact .inr (.inr ⟨i0,.del a b c,h,by simp[WI.op]⟩)
  |ins a b c=>exact .inr (.inr ⟨i0,.ins a b c,h,by simp[WI.op]⟩)
  |desc e=>exact .inr (.inr ⟨i0,.desc e,h,by simp[WI.op]⟩)
theorem mL (l:List OP) (m n:Int) (t:List T) (e:E):RH (l++[.mk 0 m t e]) n=l++[.mk 0 (i64.wrap (m+n)) t e]:=by simp[RH]
theorem rT (n:Int):RH [] n=[.mk 0 n [] E0]:=rfl
theorem kz (l:List OP) (x:OP) (n:Int) (h:x.kind ≠ 0):RH (l++[x]) n=l++[x]++[.mk 0 n [] E0]:=by
 obtain⟨k,m,t,e⟩:=x;unfold RH;rw[List.getLast?_append];simp only[List.getLast?_singleton,Option.some_or];split
 ·rename_i h2;injection h2 with h2;injection h2 with h2;exact absurd h2 h
 ·rfl
structure WrI (its:List WI) (g b:Nat × Nat × List T) (R:RQ) (K:Nat):Prop where
 g1:1≤g.1
 b1:1≤b.1
 gb:g.1 ≠ b.1
 gK:g.1<K
 bK:b.1<K
 Rg:R g.1=some (g.2.1,g.2.2)
 Rb:R b.1=some (b.2.1,b.2.2)
 rK:∀ q,K≤q→R q=none
 it:ItR R its
 ng:∀ x,x ∈ its→∀ k v l,x.row=some (k,v,l)→k ≠ g.1∧k ≠ b.1
theorem WrI.flushed {its:List WI} {g b:Nat × Nat × List T} {R:RQ} {K:Nat} (h:WrI its g b R K):ItR R (its++(EI g++BC b)):=by
 intro x hx k v l hr;rcases List.mem_append.1 hx with hx | hx
 ·exact h.it x hx k v l hr
 ·rcases List.mem_append.1 hx with hx | hx
  ·obtain⟨a,c,d⟩:=g;by_cases e:d=[]<;>simp[EI,e] at hx
   subst hx;simp[WI.row] at hr;obtain⟨rfl,rfl,rfl⟩:=hr;exact⟨h.Rg,h.g1⟩
  ·obtain⟨a,c,d⟩:=b;by_cases e:d=[]<;>simp[BC,e] at hx
   subst hx;simp[WI.row] at hr;obtain⟨rfl,rfl,rfl⟩:=hr;exact⟨h.Rb,h.b1⟩
theorem YH {its:List WI} {g b:Nat × Nat × List T} {R:RQ} {K:Nat} (h:WrI its g b R K) (hl:its.length≤1000000) (vo:Nat) (n:Int):∃ its2 v2,SpecF Tryz.prog 116 (fun r=>[qy r,iv n]) (Tv its vo (some g) (some b) R) (fun _=>.tup []) (Tv its2 v2 none none R)∧its2.map WI.op=RH (Rz (its.map WI.op) g.2.2 b.2.2) n∧its2.length≤its.length+3∧ItR R its2:=by
 have hF:=h.flushed;have d1:=Pz g;have d2:=Kv b;rcases pB (its++(EI g++BC b)) with ⟨i0,m,hi⟩ | hi
 ·have hlen:=congrArg List.length hi;simp at hlen;refine⟨_,_,bu its i0 vo m n g b R hl h.Rg h.Rb h.g1 h.b1 hi,?_,?_,?_⟩
  ·rw[← RG,hi];simp[WI.op,mL]
  ·simp;omega
  ·rw[hi] at hF;intro x hx k v l hr;rcases List.mem_append.1 hx with hx | hx
   ·exact hF x (by simp[hx]) k v l hr
   ·simp at hx;subst hx;simp[WI.row] at hr
 ·refine⟨_,_,bn its vo n g b R hl h.Rg h.Rb h.g1 h.b1 hi,?_,?_,?_⟩
  ·rw[← RG];rcases hi with hi | ⟨i0,x,hi,hx⟩
   ·rw[hi];simp[rT,WI.op]
   ·rw[hi];simp only[List.map_append,List.map_cons,List.map_nil];rw[kz _ _ _ hx];simp[WI.op]
  ·simp;omega
  ·intro x hx k v l hr;rcases List.mem_append.1 hx with hx | hx
   ·exact hF x hx k v l hr
   ·simp at hx;subst hx;simp[WI.row] at hr
structure OpG (o:OP):Prop where
 k:o.kind=0∨o.kind=1∨o.kind=2∨o.kind=3
 l:∀ t,t ∈ o.l→AK t
 e:o.kind=3→G.Spec Tryz.prog 45 [eX o.e] (eX (JP o.e))∧(JP o.e).words.length≤100000000000000∧(JP o.e).kids.length≤100000000000000
def FE (os:List OP):Nat:=(os.map fun o=>o.l.length).sum
theorem Vs (o:OP) (os:List OP):FE (o::os)=o.l.length+FE os:=by simp[FE]
theorem wM {list:Int} {os:List OP} (hos:∀ o,o ∈ os→OpG o) (hol:os.length≤300000) {res:List OP}
  (hq:∀ (H:Hp) (its:List WI) (v:Nat) (g b:Nat × Nat × List T) (R:RQ) (K:Nat) st,(∀ p,H (0::p)=(Tv its v (some g) (some b) R).F 0 p)→WrI its g b R K→Rz (its.map WI.op) g.2.2 b.2.2=res→its.length≤1000000→Q (.exit 0) ⟨lk ([(0,iv list),(5,qy 0)]++st),H⟩):∀ (m i:Nat) (its:List WI) (v:Nat) (g b:Nat × Nat × List T) (R:RQ) (K:Nat) (H:Hp),i+m=os.length→its.length≤3*i→g.2.2.length+b.2.2.length+FE (os.drop i)≤1000000→WrI its g b R K→(∀ p,H (0::p)=(Tv its v (some g) (some b) R).F 0 p)→FI list ((os.drop i).map Mo) (its.map WI.op) g.2.2 b.2.2=res →
  LoopC (cx Tryz.prog w0 I0 n0) FD Q ⟨lk [(0,iv list),(5,qy 0),(11,LO os),(12,iv os.length),(13,iv i)],H⟩:=by
 intro m;induction m with
 |zero=>
  intro i its v g b R K H hm hil hsum hW hH hres;refine Ab Ai FD.eq_1 ?_;have:i=os.length:=by omega
  subst this;rw[List.drop_length,List.map_nil,FI] at hres;simp;exact hq H its v g b R K [(11,LO os),(12,iv os.length),(13,iv os.length),(14,bv false)] hH hW hres (by omega)
 |succ m ih=>
  intro i its v g b R K H hm hil hsum hW hH hres;have hi:i<os.length:=by omega
  have ew:=AW i;have hd:os.drop i=os[i]::os.drop (i+1):=(List.getElem_cons_drop hi).symm;have hO:=hos _ (C5 hi);rw[hd,List.map_cons,FI] at hres;rw[hd,Vs] at hsum;have hoi:(os.map oA)[i]? = some (oX os[i]):=by simp[hi]
  generalize ho:os[i]=o at *;have hnk:(Mo o).kind=o.kind:=rfl;have hnn:(Mo o).n=o.n:=rfl;have hnl:(Mo o).l=o.l:=rfl;have hne:(Mo o).e=JP o.e:=rfl;rw[hnk,hnn,hnl,hne] at hres
  -- what goes on when all is laid
  have next:∀ (its2:List WI) (v2:Nat) (H2:Hp),its2.length≤its.length+3→(∀ p,H2 (0::p)=(Tv its2 v2 none none R).F 0 p)→ItR R its2→FI list ((os.drop (i+1)).map Mo) (its2.map WI.op) [] []=res→LoopC (cx Tryz.prog w0 I0 n0) FD Q ⟨lk [(0,iv list),(5,qy 0),(11,LO os),(12,iv os.length),(13,iv (i+1:Nat))],H2⟩:=fun its2 v2 H2 h1 h2 h3 h4=>by
   obtain⟨H3,hle,hF⟩:=th (c:=cx Tryz.prog w0 I0 n0) (s:=lk [(0,iv list),(5,qy 0),(11,LO os),(12,iv os.length),(13,iv (i+1:Nat))]) h2 hW.rK (by have:=hW.gK;omega);refine LoopC.le hle ?_;refine ih (i+1) its2 v2 (K,1,[]) (K+1,1,[]) _ (K+2) H3 (by omega) (by omega) (by simp;omega) ?_ hF h4;have hg:=hW.g1;have hgK:=hW.gK;refine⟨by simp;omega,by simp,by simp,by simp,by simp,by simp[Fz],by simp[Fz],fun q hq=>?_,fun x hx k v' l hr=>?_,fun x hx k v' l hr=>?_⟩
   ·simp[Fz,show ¬ q=K+1 by omega,show ¬ q=K by omega];exact hW.rK q (by omega)
   ·obtain⟨a1,a2⟩:=h3 x hx k v' l hr;have hkK:k<K:=by
     by_cases e:K≤k
     ·rw[hW.rK k e] at a1;cases a1
     ·omega
    exact⟨by simp[Fz,show ¬ k=K+1 by omega,show ¬ k=K by omega,a1],a2⟩
   ·obtain⟨a1,a2⟩:=h3 x hx k v' l hr;have hkK:k<K:=by
     by_cases e:K≤k
     ·rw[hW.rK k e] at a1;cases a1
     ·omega
    exact⟨by simp;omega,by simp;omega⟩
  refine Ab Ai FD.eq_1 ?_;rcases hO.k with h0 | h0 | h0 | h0
  ·rw[if_pos h0] at hres;obtain⟨its2,v2,S1,S2,S3,S4⟩:=YH hW (by omega) v o.n;rw[← S2] at hres;simp[hi,ho,h0,Aa];refine Ar 0 S1 (fun p=>by simp[Aa,hH]) (by simp) (by simp) ?_;simp[ew];exact next its2 v2 _ S3 (fun p=>by simp) S4 hres
  ·rw[if_neg (by omega),if_pos h0] at hres;have hF:=ck its v g.1 g.2.1 g.2.2 (some b) R hW.Rg hW.g1 (fun x hx=>by cases hx;exact Ne.symm hW.gb) hO.l (by omega);simp[hi,ho,h0,Aa];refine Ar 0 hF (fun p=>by simp[Aa,hH]) (by simp) (by simp) ?_;simp[ew];refine ih (i+1) its v (g.1,g.2.1+o.l.length,g.2.2++o.l.map Ag) b (Fz R g.1 (g.2.1+o.l.length) (g.2.2++o.l.map Ag)) K _ (by omega) (by omega) (by simp;omega) ?_ (fun p=>by simp) hres;have w1:=hW.g1;have w2:=hW.gK;refine⟨hW.g1,hW.b1,hW.gb,hW.gK,hW.bK,by simp[Fz],?_,fun q hq=>?_,fun x hx k v' l hr=>?_,fun x hx k v' l hr=>hW.ng x hx k v' l hr⟩
   ·simp only[Fz,if_neg (Ne.symm hW.gb)];exact hW.Rb
   ·simp only[Fz,if_neg (show ¬ q=g.1 by omega)];exact hW.rK q hq
   ·obtain⟨a1,a2⟩:=hW.it x hx k v' l hr;exact⟨by simp only[Fz,if_neg (hW.ng x hx k v' l hr).1];exact a1,a2⟩
  ·rw[if_neg (by omega),if_neg (by omega),if_pos h0] at hres;have hF:=cI its v b.1 b.2.1 b.2.2 (some g) R hW.Rb hW.b1 hO.l (by omega);simp[hi,ho,h0,Aa];refine Ar 0 hF (fun p=>by simp[Aa,hH]) (by simp) (by simp) ?_;simp[ew];refine ih (i+1) its v g (b.1,b.2.1+o.l.length,b.2.2++o.l.map Ag) (Fz R b.1 (b.2.1+o.l.length) (b.2.2++o.l.map Ag)) K _ (by omega) (by omega) (by simp;omega) ?_ (fun p=>by simp) hres;have w2:=hW.bK;refine⟨hW.g1,hW.b1,hW.gb,hW.gK,hW.bK,?_,by simp[Fz],fun q hq=>?_,fun x hx k v' l hr=>?_,fun x hx k v' l hr=>hW.ng x hx k v' l hr⟩
   ·simp only[Fz,if_neg hW.gb];exact hW.Rg
   ·simp only[Fz,if_neg (show ¬ q=b.1 by omega)];exact hW.rK q hq
   ·obtain⟨a1,a2⟩:=hW.it x hx k v' l hr;exact⟨by simp only[Fz,if_neg (hW.ng x hx k v' l hr).2];exact a1,a2⟩
  ·rw[if_neg (by omega),if_neg (by omega),if_neg (by omega)] at hres;obtain⟨E1,E2,E3⟩:=hO.e h0;have hI:=gD list (JP o.e) E2 E3;simp[hi,ho,h0,Aa];refine Af E1 (by simp) ?_;simp[Aa];refine Af hI (by simp) ?_;cases hid:HJ list (JP o.e) with
   |true=>
    rw[if_pos hid] at hres;obtain⟨its2,v2,S1,S2,S3,S4⟩:=YH hW (by omega) v 1;rw[← S2] at hres;simp;refine Ar 0 S1 (fun p=>by simp[Aa,hH]) (by simp) (by simp) ?_;simp[ew];exact next its2 v2 _ S3 (fun p=>by simp) S4 hres
   |false=>
    rw[if_neg (by rw[hid];decide),← RG] at hres;have F1:=H9 its v g b R (by omega) hW.Rg hW.Rb hW.g1 hW.b1;have d1:=Pz g;have d2:=Kv b;simp;refine Ar 0 F1 (fun p=>by simp[Aa,hH]) (by simp) (by simp) ?_;have hJl:(its++(EI g++BC b)).length≤its.length+2:=by simp;omega
    have hJr:=hW.flushed;have next':=next (its++(EI g++BC b)++[.desc (JP o.e)]) (v+(EI g++BC b).length+1)
    generalize its++(EI g++BC b)=J at *;generalize v+(EI g++BC b).length=v1 at *;simp[Aa,RM,rz,YL,ew];refine⟨by omega,by omega,?_⟩;refine next' _ (by simp;omega) (fun p=>?_) (fun x hx k v' l hr=>?_) ?_
    ·by_cases p1:p=[]
     ·subst p1;simp[Aa,Mv]
     ·by_cases p2:p=[0]
      ·subst p2;simp[Aa,QM,Ud]
      ·simp[p1,p2,Aa]
    ·rcases List.mem_append.1 hx with hx | hx
     ·exact hJr x hx k v' l hr
     ·simp at hx;subst hx;simp[WI.row] at hr
    ·simpa[WI.op] using hres
theorem ZJ {list:Int} {os:List OP} (hos:∀ o,o ∈ os→OpG o) (hol:os.length≤300000) (hsum:FE os≤1000000):G.Spec Tryz.prog 75 [iv list,LO os] (LO (FI list (os.map Mo) [] [] [])):=by
 refine Al Wt (by simp) fun w0 I0=>?_;unfold PG;simp;refine LoopC.le (BX (d:=[0]) (u:=1) (cs:=[.sl true [],.sl true [],.sl true []]) 0 [0,0] 14 rfl rfl (by simp)) ?_;obtain⟨H3,hle,hF⟩:=th (c:=cx Tryz.prog w0 I0 72) (s:=lk [(0,iv list),(5,qy 0),(11,LO os),(12,iv os.length),(13,iv (0:Nat))]) (H:=AJ (AJ (FR [([0],⟨1,.cells [.sl true [],.sl true [],.sl true []]⟩)]) [0,0] ⟨1,.arr 14 []⟩) [0] ⟨1,.cells [.osl [0,0] 1 14 0 0,.sl true [],.sl true []]⟩) (its:=[]) (v:=1) (K:=1) (R:=fun _=>none) (fun p=>by
  by_cases p1:p=[]
  ·subst p1;simp[Aa,Mv]
  ·by_cases p2:p=[0]
   ·subst p2;simp[Aa]
   ·match p,p1,p2 with
    |[q],p1,p2=>
     have hq0:¬ q=0:=fun e=>p2 (by rw[e]);simp[Aa,fc,hq0,Ne.symm hq0]
    |_::_::_,p1,p2=>simp[Aa,Q3]) (fun q _=>rfl) (by omega)
 refine LoopC.le hle ?_;refine wM hos hol (res:=FI list (os.map Mo) [] [] []) (fun H its v g b R K st hH hW hres hil=>?_) os.length 0 [] 1 (1,1,[]) (1+1,1,[]) _ 3 H3 (by omega) (by simp) (by simpa using hsum) ?_ hF (by simp)
 ·have F1:=H9 its v g b R hil hW.Rg hW.Rb hW.g1 hW.b1;have hJr:=hW.flushed;have hm:=RG its g b;rw[hres] at hm;simp;refine Ar 0 F1 hH (by simp) (by simp) ?_;simp;rw[← hm];have:=qN (H:=ov 0 ((Tv (its++(EI g++BC b)) (v+(EI g++BC b).length) none none R).F 0) H) (its:=its++(EI g++BC b)) (v:=v+(EI g++BC b).length) (g:=none) (b:=none) (R:=R) (fun p=>by simp) hJr;simpa using this
 ·refine⟨by simp,by simp,by simp,by simp,by simp,by simp[Fz],by simp[Fz],fun q hq=>?_,fun x hx=>by simp at hx,fun x hx=>by simp at hx⟩;simp[Fz,show ¬ q=1 by omega,show ¬ q=2 by omega]
mutual
def TI:E→Prop
 |.mk k o n ws ks l os=>(k=0∨k=1∨k=2∨k=3)∧(k ≠ 3→l=0)∧(k=1→AK o∧AK n)∧ws.length≤1000000∧ks.length≤1000000∧os.length≤300000∧FE os≤1000000∧(k=2→bV ks)∧(k=3→bG os)
def bV:List KE→Prop
 |[]=>True
 |.mk a e::l=>TI e∧bV l
def bG:List OP→Prop
 |[]=>True
 |.mk k n t e::l=>((k=0∨k=1∨k=2∨k=3)∧(∀ x,x ∈ t→AK x)∧(k=3→TI e))∧bG l
end
theorem Ub:∀ {l:List KE},bV l→∀ x,x ∈ l→TI x.e
 |[],_,x,hx=>by simp at hx
 |.mk a e::l,h,x,hx=>by
  rw[bV] at h;rcases List.mem_cons.1 hx with rfl | hx
  ·exact h.1
  ·exact Ub h.2 x hx
theorem SZ:∀ {l:List OP},bG l→∀ x,x ∈ l→(x.kind=0∨x.kind=1∨x.kind=2∨x.kind=3)∧(∀ t,t ∈ x.l→AK t)∧(x.kind=3→TI x.e)
 |[],_,x,hx=>by simp at hx
 |.mk k n t e::l,h,x,hx=>by
  rw[bG] at h;rcases List.mem_cons.1 hx with rfl | hx
  ·exact h.1
  ·exact SZ h.2 x hx
theorem kx (e:E) (h:TI e):(JP e).words.length≤100000000000000∧(JP e).kids.length≤100000000000000:=by
 obtain⟨k,o,n,ws,ks,l,os⟩:=e;rw[TI] at h;rw[GZ];split
 ·simp
 ·split
  ·simp;omega
  ·split<;>simp
theorem ni {ks:List KE} (hl:ks.length≤1000000) (hk:∀ x,x ∈ ks→G.Spec Tryz.prog 45 [eX x.e] (eX (JP x.e))) {v1 v3:VOb} {W:A}
  (hq:∀ H u st,H [1]=v1→H [3]=v3→H [2]=⟨1,.cells [iv 2,iv 0,.sl true [],.sl true [],iv 0,.sl true [],.sl true [],W,.osl [5] u 12 0 ks.length,iv 0,.sl true []]⟩→H [5]=⟨u,.arr 12 (ks.map (kA ∘ Ui))⟩→Q (.exit 1) ⟨lk ([(2,.pob [1] 1 0),(3,.pob [2] 1 0)]++st),H⟩):∀ (m i u:Nat) (H:Hp),i+m=ks.length→H [1]=v1→H [3]=v3→H [2]=⟨1,.cells [iv 2,iv 0,.sl true [],.sl true [],iv 0,.sl true [],.sl true [],W,.osl [5] u 12 0 i,iv 0,.sl true []]⟩→H [5]=⟨u,.arr 12 ((ks.take i).map (kA ∘ Ui))⟩ →
  LoopC (cx Tryz.prog w0 I0 n0) Gf Q ⟨lk [(2,.pob [1] 1 0),(3,.pob [2] 1 0),(32,QA ks),(33,iv ks.length),(34,iv i)],H⟩:=by
 intro m;induction m with
 |zero=>
  intro i u H hm h1 h3 h2 h5;refine Ab Ai Gf.eq_1 ?_;have:i=ks.length:=by omega
  subst this;rw[AX (Cj _)] at h5;simp;exact hq H u [(32,QA ks),(33,iv ks.length),(34,iv ks.length),(35,bv false)] h1 h3 h2 h5
 |succ m ih=>
  intro i u H hm h1 h3 h2 h5;have hi:i<ks.length:=by omega
  have ew:=AW i;have hE:=hk _ (C5 hi);have htk:(ks.take (i+1)).map (kA ∘ Ui)=(ks.take i).map (kA ∘ Ui)++[kA (Ui ks[i])]:=by rw[HP hi,List.map_append];rfl
  have next:=ih (i+1) (u+1)
  rw[htk] at next
  generalize hx:ks[i]=x at *;refine Ab Ai Gf.eq_1 ?_;simp[hi,hx,Aa,h2];refine Af hE (by simp[Aa]) ?_;simp[Aa,h2,h5,ew];refine⟨⟨by omega,by omega⟩,?_⟩;refine next _ (by omega) (by simp[Aa,h1]) (by simp[Aa,h3]) (by simp[Aa]) ?_
  simp[Aa,List.take_take,Ui]
theorem bz:∀ e:E,TI e→G.Spec Tryz.prog 45 [eX e] (eX (JP e)):=by
 refine E.ind fun k o n ws ks l os ihk iho h=>?_;rw[TI] at h;obtain⟨hk,hl,hon,hwl,hkl,hol,hsum,hks,hos⟩:=h;refine Al Uz (by simp) fun w0 I0=>?_;unfold Nu;rw[GZ];rcases hk with rfl | rfl | rfl | rfl
 ·simp[hl (by decide)];exact BZ ⟨Ad rfl,Ad rfl,Am,Am,Ad rfl,Am,Am,Am,Am,Ad rfl,Am,trivial⟩
 ·obtain⟨ho,hn⟩:=hon rfl;simp[hl (by decide)];refine Af (C8 o ho) (by simp) ?_;simp[Aa];refine Af (C8 n hn) (by simp) ?_;simp[Aa];exact BZ ⟨Ad rfl,Jz (F5 o).symm,Ad rfl,Ad rfl,Jz (F5 n).symm,Ad rfl,Ad rfl,Am,Am,Ad rfl,Am,trivial⟩
 ·simp[hl (by decide)];refine⟨by omega,?_⟩;refine LoopC.le (BX (d:=[2]) (u:=1) (cs:=[iv 2,iv 0,.sl true [],.sl true [],iv 0,.sl true [],.sl true [],.osl [3] 1 4 0 ws.length,.sl true [],iv 0,.sl true []]) 8 [5] 12 rfl rfl (by simp)) ?_;refine LoopC.le (Ao [(2,.pob [1] 1 0),(3,.pob [2] 1 0),(32,QA ks),(33,iv ks.length),(34,iv (0:Nat))] (by simp)) ?_;refine ni hkl (fun x hx=>ihk x hx (Ub (hks rfl) x hx)) (W:=.osl [3] 1 4 0 ws.length) (fun H u st h1 h3 h2 h5=>?_) ks.length 0 1 _ (by omega) rfl rfl (by simp[Aa]) (by simp[Aa]);have h3':H [3]=⟨1,.arr 4 (ws.map wA)⟩:=by rw[h3];simp[Aa]
  simp[h2,h1,Aa];have fw:=B0 (H:=AJ H [1] ⟨1,.cells [iv 2,iv 0,.sl true [],.sl true [],iv 0,.sl true [],.sl true [],.osl [3] 1 4 0 ws.length,.osl [5] u 12 0 ks.length,iv 0,.sl true []]⟩) (o:=[3]) (u:=1) (sz:=4) (l:=ws) (f:=wA) (n:=ws.length) (by simp[Aa,h3']) rfl (fun x=>rfl);have fk:=B0 (H:=AJ H [1] ⟨1,.cells [iv 2,iv 0,.sl true [],.sl true [],iv 0,.sl true [],.sl true [],.osl [3] 1 4 0 ws.length,.osl [5] u 12 0 ks.length,iv 0,.sl true []]⟩) (o:=[5]) (u:=u) (sz:=12) (l:=ks) (f:=kA ∘ Ui) (n:=ks.length) (by simp[Aa,h5]) rfl (fun x=>by simp);rw[← List.map_map] at fk;exact BZ ⟨Ad rfl,Ad rfl,Am,Am,Ad rfl,Am,Am,fw,fk,Ad rfl,Am,trivial⟩
 ·have hO:=ZJ (list:=l) (os:=os) (fun x hx=>by
   obtain⟨a,b,c⟩:=SZ (hos rfl) x hx;exact⟨a,b,fun h=>⟨iho x hx (c h),kx _ (c h)⟩⟩) hol hsum
  simp;refine Af hO (by simp[Aa]) ?_;simp[Aa];exact BZ ⟨Ad rfl,Ad rfl,Am,Am,Ad rfl,Am,Am,Am,Am,Ad rfl,Am,trivial⟩
inductive RI where
 |keep (n:Int)
 |del (l:List T)
 |ins (l:List T)
 |desc (e:E)
def RI.op:RI→OP
 |.keep n=>.mk 0 n [] E0
 |.del l=>.mk 1 0 l E0
 |.ins l=>.mk 2 0 l E0
 |.desc e=>.mk 3 0 [] e
def riC:RI→List A
 |.keep n=>iv 0::iv n :: .sl true []::DS
 |.del l=>iv 1::iv 0::BG l::DS
 |.ins l=>iv 2::iv 0::BG l::DS
 |.desc e=>iv 3::iv 0 :: .sl true []::eL e
@[simp] theorem AeO {x:RI}:(riC x).length=14:=by cases x<;>rfl
theorem we {H:Hp} (x:RI):Hy H (riC x) (oA x.op).cells:=by
 have hraw:Hy H DS (eL E0):=⟨Ad rfl,Ad rfl,Am,Am,Ad rfl,Am,Am,Am,Am,Ad rfl,Am,trivial⟩;rw[oA_eq];cases x with
 |keep n=>exact⟨Ad rfl,Ad rfl,Am,hraw⟩
 |del l=>exact⟨Ad rfl,Ad rfl,Ad rfl,hraw⟩
 |ins l=>exact⟨Ad rfl,Ad rfl,Ad rfl,hraw⟩
 |desc e=>exact⟨Ad rfl,Ad rfl,Am,Ad rfl,Ad rfl,Ad rfl,Ad rfl,Ad rfl,Ad rfl,Ad rfl,Ad rfl,Ad rfl,Ad rfl,Ad rfl,trivial⟩
inductive IT where
 |r (x:RI)
 |got (o:OP)
def IT.op:IT→OP
 |.r x=>x.op
 |.got o=>o
def kc:IT→List A
 |.r x=>riC x
 |.got o=>(oA o).cells
def Rr (x:IT):A:=.agg (kc x)
@[simp] theorem xv {x:IT}:(Rr x).cells=kc x:=rfl
@[simp] theorem Afd {x:IT}:(kc x).length=14:=by
 cases x with
 |r x=>simp[kc]
 |got o=>simp[kc]
theorem EC {l:List IT}:Dd 14 (l.map Rr)=true:=by rw[EX];simp
theorem wG {H:Hp} (x:IT):Hy H (kc x) (oA x.op).cells:=by
 cases x with
 |r x=>exact we x
 |got o=>exact MC (by simp[kc])
theorem eT {H:Hp} {o:Nm} {u n:Nat} {its:List IT} (h1:H o=⟨u,.arr 14 (its.map Rr)⟩) (hn:n=its.length):IZ H (.osl o u 14 0 n) (LO (its.map IT.op)):=by
 subst hn;refine Om (o:=o) (u:=u) (off:=0) (len:=its.length) (sz:=14) (xs:=its.map Rr) (ys:=(its.map IT.op).map oA) (by rw[Ms,h1];simp) (by simp) (by simp) (fun y hy=>by
  obtain⟨x,_,rfl⟩:=List.mem_map.1 hy;simp) ?_ ?_
 ·have:∀ l:List OP,A.ones ((l.map oA).flatMap A.cells)=true:=fun l=>by
   induction l with
   |nil=>rfl
   |cons x l ih=>simp[A.ones] at ih ⊢
  exact this _
 ·rw[List.drop_zero,AX (by simp),List.map_map];have:∀ l:List IT,Hy H ((l.map Rr).flatMap A.cells) ((l.map (oA ∘ IT.op)).flatMap A.cells):=fun l=>by
   induction l with
   |nil=>trivial
   |cons x l ih=>
    simp only[List.map_cons,List.flatMap_cons];exact S5 (wG x) ih (by simp)
  exact this its
theorem mS {H:Hp} (k:Int) (l:List T):IZ H (.sl true [.agg (iv k::iv 0::BG l::DS)]) (LO [OP.mk k 0 l E0]):=by
 have h:=XN (H:=H) (a:=.sl true [.agg (iv k::iv 0::BG l::DS)]) (by simp[DS]);have e:(A.sl true [.agg (iv k::iv 0::BG l::DS)]).soft=LO [OP.mk k 0 l E0]:=by simp[A.soft,A.softL,DS,FB]
 rw[e] at h;exact h
theorem T4 (k:Int) (l:List T):G.Spec Tryz.prog 183 [iv k,BG l] (LO (if l=[] then [] else [.mk k 0 l E0])):=by
 refine Al X9 (by simp) fun w0 I0=>?_;unfold QR;by_cases h:l=[]
 ·simp[h];exact Am
 ·have:¬ l.length=0:=by simpa using h
  simp[h,this];exact mS k l
theorem Kh (l:List T):G.Spec Tryz.prog 162 [BG l] (LO (DE l)):=by
 refine Al UI (by simp) fun w0 I0=>?_;unfold MW;simp;refine Af (T4 1 l) (by simp) ?_;simp;exact Ad (by simp)
theorem Kr (l:List T):G.Spec Tryz.prog 160 [BG l] (LO (B7 l)):=by
 refine Al Ux (by simp) fun w0 I0=>?_;unfold MX;simp;refine Af (T4 2 l) (by simp) ?_;simp;exact Ad (by simp)
theorem Ade {a b:List T} (hb:∀ t,t ∈ b→AK t) (hbl:b.length≤1000000) {most:Int} {x:T} (hx:AK x) {R:A} {N i w:Nat} {H0:Hp}
  (hq:∀ (H':Hp) (v:Nat),H' [2]=⟨v,.arr 1 ((b.map fun y=>(FW x y:Int)).map iv)⟩→(∀ o,o ≠ [1]→o ≠ [2]→H' o=H0 o)→Q (.exit 2) ⟨lk [(1,BG a),(2,BG b),(3,iv most),(9,R),(11,.pob [0] w 0),(12,.osl [2] v 1 0 b.length),(20,BG a),(21,iv N),(22,iv i),(26,BG b),(27,iv b.length),(28,iv b.length),(29,bv false)],H'⟩) :
  ∀ (m j:Nat) (v:Nat) (H:Hp),j+m=b.length→H [0]=⟨w,.cells (tL x)⟩→H [2]=⟨v,.arr 1 (((b.take j).map fun y=>(FW x y:Int)).map iv)⟩→(∀ o,o ≠ [1]→o ≠ [2]→H o=H0 o) →
  LoopC (cx Tryz.prog w0 I0 n0) Jb Q ⟨lk [(1,BG a),(2,BG b),(3,iv most),(9,R),(11,.pob [0] w 0),(12,.osl [2] v 1 0 j),(20,BG a),(21,iv N),(22,iv i),(26,BG b),(27,iv b.length),(28,iv j)],H⟩:=by
 intro m;induction m with
 |zero=>
  intro j v H hm h0 h2 hH;have:j=b.length:=by omega
  subst this;rw[AX (Cj _)] at h2;refine Ab Ai Jb.eq_1 ?_;simp;exact hq H v h2 hH
 |succ m ih=>
  intro j v H hm h0 h2 hH;have hlt:j<b.length:=by omega
  have ew:=AW j;have htk:b.take (j+1)=b.take j++[b[j]]:=HP hlt;have next:=ih (j+1)
  rw[htk] at next
  refine Ab Ai Jb.eq_1 ?_;simp[hlt,h0,Aa];refine Af (Ya hx (hb _ (C5 hlt))) (by simp) ?_;simp[h2,Aa,Nat.min_eq_left (Nat.le_of_lt hlt)];refine⟨by omega,?_⟩;rw[ew];refine next (v+1) _ (by omega) (by simp[Aa,h0]) ?_ (fun o h1 h2'=>by simp[Aa,h1,h2',hH])
  simp[Aa];rw[HP (by simpa using hlt)];simp[List.take_take]
abbrev aU (r:List Int):A:=.sl false (r.map iv)
theorem Aan {a b:List T} (ha:∀ t,t ∈ a→AK t) (hb:∀ t,t ∈ b→AK t) (hal:a.length≤1000000) (hbl:b.length≤1000000) {most:Int}
  (hq:∀ (H':Hp),H' [3]=⟨a.length+1,.arr 1 ((LC a b).map aU)⟩→H' [5]=⟨0,.none⟩→Q (.exit 0) ⟨lk [(1,BG a),(2,BG b),(3,iv most),(9,.osl [3] (a.length+1) 1 0 a.length),(20,BG a),(21,iv a.length),(22,iv a.length),(23,bv false)],H'⟩) :
  ∀ (m i:Nat) (H:Hp),i+m=a.length→H [3]=⟨i+1,.arr 1 ((LC (a.take i) b).map aU)⟩→H [5]=⟨0,.none⟩ →
  LoopC (cx Tryz.prog w0 I0 n0) Je Q ⟨lk [(1,BG a),(2,BG b),(3,iv most),(9,.osl [3] (i+1) 1 0 i),(20,BG a),(21,iv a.length),(22,iv i)],H⟩:=by
 intro m;induction m with
 |zero=>
  intro i H hm h3 h5;have:i=a.length:=by omega
  subst this;rw[AX (Cj _)] at h3;refine Ab Ai Je.eq_1 ?_;simp;exact hq H h3 h5
 |succ m ih=>
  intro i H hm h3 h5;have hlt:i<a.length:=by omega
  have ew:=AW i;have htk:a.take (i+1)=a.take i++[a[i]]:=HP hlt;have next:=ih (i+1)
  rw[htk] at next
  have hrl:(LC (a.take i) b).length=i:=by simp[LC];omega
  refine Ab Ai Je.eq_1 ?_;simp[hlt];refine LoopC.le (FF 12 [2] 1 (by simp)) ?_;refine LoopC.le (Ao [(1,BG a),(2,BG b),(3,iv most),(9,.osl [3] (i+1) 1 0 i),(11,.pob [0] ((H [0]).u+1) 0),(12,.osl [2] ((H [2]).u+1) 1 0 0),(20,BG a),(21,iv a.length),(22,iv i),(26,BG b),(27,iv b.length),(28,iv (0:Nat))] (by simp[upd,Aa])) ?_;refine Ade (a:=a) hb hbl (ha _ (C5 hlt)) (H0:=AJ H [0] ⟨(H [0]).u+1,.cells (tL a[i])⟩) (fun H' v g2 gH=>?_) b.length 0 ((H [2]).u+1) _ (by omega) (by simp[Aa]) (by simp[Aa]) (fun o h1 h2=>by simp[Aa,h1,h2]);simp;refine Hl (TZ (d:=[2]) (fun _ h=>h) 12 (aU (b.map fun y=>(FW a[i] y:Int))) fun H1 e1=>?_) ?_
  ·simp;exact B0 (f:=iv) (l:=b.map fun y=>(FW a[i] y:Int)) (by rw[e1,g2];simp) (by simp) (fun x=>by simp)
  ·refine Hl (Ao [(1,BG a),(2,BG b),(3,iv most),(9,.osl [3] (i+1) 1 0 i),(12,aU (b.map fun y=>(FW a[i] y:Int))),(20,BG a),(21,iv a.length),(22,iv i)] (by simp[upd])) (Gs ?_);have g3:H' [3]=H [3]:=by rw[gH _ (by simp) (by simp)];simp[Aa]
   have g5:H' [5]=H [5]:=by rw[gH _ (by simp) (by simp)];simp[Aa]
   simp[Aa,g3,h3,hrl];refine⟨by omega,?_⟩;rw[ew];refine next _ (by omega) ?_ (by simp[Aa,g5,h5])
   have e1:List.take i (List.map aU (LC (List.take i a) b))=List.map aU (LC (List.take i a) b):=AX (by simp[LC];omega);simp[Aa,e1,LC];rw[HP (by simpa using hlt)];simp[List.take_take]
def Y7 (la lb:Nat):Nat→Nat→List Sc→Prop
 |i,j,[]=>i≤la∧j≤lb
 |i,j,x::P=>i≤x.i∧j≤x.j∧x.i<la∧x.j<lb∧Y7 la lb (x.i+1) (x.j+1) P
theorem Y4 {la lb:Nat}:∀ (P:List Sc) (i j:Nat),i≤la→j≤lb→(∀ x,x ∈ P→i≤x.i∧j≤x.j∧x.i<la∧x.j<lb)→(P.Pairwise fun p q=>p.i<q.i∧p.j<q.j)→Y7 la lb i j P
 |[],i,j,h1,h2,_,_=>⟨h1,h2⟩
 |x::P,i,j,h1,h2,h3,h4=>by
  obtain⟨g1,g2,g3,g4⟩:=h3 x (by simp);rw[List.pairwise_cons] at h4;refine⟨g1,g2,g3,g4,Y4 P _ _ (by omega) (by omega) (fun y hy=>?_) h4.2⟩;have:=h4.1 y hy;obtain⟨k1,k2,k3,k4⟩:=h3 y (by simp[hy]);omega
theorem Qw (a b:List T):Y7 a.length b.length 0 0 (YA (LC a b)):=by
 obtain⟨h,_⟩:=Wk (LC a b);obtain⟨h1,h2⟩:=F4 h;obtain⟨g1,g2⟩:=N5 h1;refine Y4 _ 0 0 (by omega) (by omega) (fun x hx=>?_) ?_
 ·obtain⟨_,_,_,_,r,k1,k2⟩:=Mn (h2 x (g2.subset hx));have l1:=(List.getElem?_eq_some_iff.1 k1).1;have e1:=(List.getElem?_eq_some_iff.1 k1).2;have l2:=(List.getElem?_eq_some_iff.1 k2).1;rw[← e1] at l2;simp[LC] at l1 l2;omega
 ·have hp:(YA (LC a b)).Pairwise fun p q=>Ug p q=true:=by
   refine(List.Perm.pairwise_iff (fun {p q} h=>?_) g2).2 h1;unfold Ug at h ⊢;simp at h ⊢;omega
  have hr:(YA (LC a b)).Pairwise fun p q=>p.i<q.i:=g1;refine(hp.and hr).imp fun {p q} h=>?_;obtain⟨h1,h2⟩:=h;unfold Ug at h1;simp at h1;omega
theorem AcA {one:T→T→E} {a b:List T} (hal:a.length≤1000000) (hbl:b.length≤1000000) {most:Int} (hone:∀ x,x ∈ a→∀ y,y ∈ b→G.Spec Tryz.prog 46 [tX x,tX y,iv most] (eX (one x y))) {P:List Sc} (hP:P.length≤1000) {R:List OP}
  (hq:∀ (H':Hp) (its:List IT) (v i j:Nat),i≤a.length→j≤b.length→its.length≤3*P.length→R=GI one a b [] i j (its.map IT.op)→H' [5]=⟨v,.arr 14 (its.map Rr)⟩→Q (.exit 4) ⟨lk [(1,BG a),(2,BG b),(3,iv most),(15,.osl [5] v 14 0 its.length),(16,iv i),(17,iv j),(45,prs P),(46,iv P.length),(47,iv P.length),(48,bv false)],H'⟩) :
  ∀ (m k i j v:Nat) (its:List IT) (H:Hp),k+m=P.length→Y7 a.length b.length i j (P.drop k)→its.length≤3*k→R=GI one a b (P.drop k) i j (its.map IT.op)→H [5]=⟨v,.arr 14 (its.map Rr)⟩ →
  LoopC (cx Tryz.prog w0 I0 n0) Ja Q ⟨lk [(1,BG a),(2,BG b),(3,iv most),(15,.osl [5] v 14 0 its.length),(16,iv i),(17,iv j),(45,prs P),(46,iv P.length),(47,iv k)],H⟩:=by
 intro m;induction m with
 |zero=>
  intro k i j v its H hm hk hl hR h5;have:k=P.length:=by omega
  subst this;rw[List.drop_length] at hk hR;refine Ab Ai Ja.eq_1 ?_;simp;exact hq H its v i j hk.1 hk.2 hl hR h5
 |succ m ih=>
  intro k i j v its H hm hk hl hR h5;have hlt:k<P.length:=by omega
  have ew:=AW k;have hd:P.drop k=P[k]::P.drop (k+1):=(List.getElem_cons_drop hlt).symm;rw[hd] at hk hR;have next:=ih (k+1)
  generalize hx:P[k]=x at *;obtain⟨k1,k2,k3,k4,k5⟩:=hk;rw[GI] at hR;have ei:i64.wrap ((x.i:Int)+1)=((x.i+1:Nat):Int):=Bg;have ej:i64.wrap ((x.j:Int)+1)=((x.j+1:Nat):Int):=Bg;have hO:=hone _ (C5 k3) _ (C5 k4);have D1:=Kh ((a.take x.i).drop i);have D2:=Kr ((b.take x.j).drop j);refine Ab Ai Ja.eq_1 ?_;have f1:x.i≤a.length:=by omega
  have f2:x.j≤b.length:=by omega
  have dl:∀ l,(DE l).length≤1:=fun l=>by unfold DE;split<;>simp
  have il:∀ l,(B7 l).length≤1:=fun l=>by unfold B7;split<;>simp
  have d1:=dl ((a.take x.i).drop i);have d2:=il ((b.take x.j).drop j);simp[hlt,hx,Jh,Z6,Aa,k1,k2,f1,f2,h5];simp only[← List.map_drop,← List.map_take];simp only[List.drop_take] at D1 D2 hR d1 d2;refine Af D1 (by simp) ?_;generalize DE ((a.drop i).take (x.i-i))=D at *;generalize hI:B7 ((b.drop j).take (x.j-j))=I at *;simp[k1,k2,f1,f2,h5,Aa,EC];have hgot:∀ D:List OP,D.map oA=(D.map IT.got).map Rr:=fun D=>by
   rw[List.map_map];refine List.map_congr_left fun o _=>?_;simp[Rr,kc]
  refine⟨by omega,?_⟩;simp only[← List.map_drop,← List.map_take];refine Af D2 (by simp) ?_;simp[k3,k4,Aa,EC];refine⟨by omega,?_⟩;refine Af hO (by simp) ?_;simp[ei,ej,ew,Aa,EC];refine⟨by omega,?_⟩;have e1:a.getD x.i T0=a[x.i]:=by simp[k3]
  have e2:b.getD x.j T0=b[x.j]:=by simp[k4]
  rw[e1,e2] at hR;have hop:∀ D:List OP,(D.map IT.got).map IT.op=D:=fun D=>by
   rw[List.map_map];exact List.map_id' _
  have hrow:List.take (its.length+D.length+I.length) (List.take (its.length+D.length) (List.map Rr its++List.map oA D)++List.map oA I)++[A.agg (A.v (Value.int i64 3)::A.v (Value.int i64 0)::A.sl true []::eL (one a[x.i] b[x.j]))]=(its++D.map IT.got++I.map IT.got++[IT.r (.desc (one a[x.i] b[x.j]))]).map Rr:=by
   rw[AX (by simp),AX (by simp),hgot D,hgot I];simp[Rr,kc,riC]
  rw[hrow];have nx:=next (x.i+1) (x.j+1) (v+1+1+1) (its++D.map IT.got++I.map IT.got++[IT.r (.desc (one a[x.i] b[x.j]))]) (AJ (AJ H [4] ⟨(H [4]).u+1,.cells [iv x.i,iv x.j]⟩) [5] ⟨v+1+1+1,.arr 14 ((its++D.map IT.got++I.map IT.got++[IT.r (.desc (one a[x.i] b[x.j]))]).map Rr)⟩) (by omega) k5 (by simp;omega) (by rw[hR];congr 1;simp[hop,IT.op,RI.op]) (by simp[Aa])
  have hlen:(its++D.map IT.got++I.map IT.got++[IT.r (.desc (one a[x.i] b[x.j]))]).length=its.length+D.length+I.length+1:=by simp;omega
  rw[hlen] at nx;simpa using nx
theorem gJ {one:T→T→E} {a b:List T} (ha:∀ t,t ∈ a→AK t) (hb:∀ t,t ∈ b→AK t) (hal:a.length≤1000000) (hbl:b.length≤1000000) {most q:Int} (hone:∀ x,x ∈ a→∀ y,y ∈ b→G.Spec Tryz.prog 46 [tX x,tX y,iv most] (eX (one x y))) :
  G.Spec Tryz.prog 161 [iv q,BG a,BG b,iv most] (LO (FU one a b)):=by
 obtain⟨hpk,hp16⟩:=Wk (LC a b);have hPl:(YA (LC a b)).length≤16:=by
  have:=(N5 (F4 hpk).1).2.length_eq;unfold YA;omega
 have hPick:=gE (LC a b) (by simp[LC];omega) (fun r hr=>by
  obtain⟨x,_,rfl⟩:=List.mem_map.1 hr;simp;omega) hpk hp16
 refine Al cO (by simp) fun w0 I0=>?_;unfold Ty;simp;refine LoopC.le (FF 9 [3] 1 (by simp)) ?_;refine LoopC.le (Ao [(1,BG a),(2,BG b),(3,iv most),(9,.osl [3] (0+1) 1 0 0),(20,BG a),(21,iv a.length),(22,iv (0:Nat))] (by simp[upd])) ?_;refine Aan ha hb hal hbl (fun H' h3 h5=>?_) a.length 0 _ (by omega) (by simp[LC]) (by simp[Aa]);simp;refine Hl (TZ (d:=[3]) (fun _ h=>h) 9 (bP (LC a b)) fun H1 e1=>?_) ?_
 ·simp;exact B0 (f:=aU) (l:=LC a b) (by rw[e1,h3];simp) (by simp[LC]) (fun x=>by simp)
 ·refine Hl (Ao [(1,BG a),(2,BG b),(3,iv most),(9,bP (LC a b)),(15,.sl true []),(16,iv 0),(17,iv 0)] (by simp[upd])) (Gs ?_);simp;refine Af hPick (by simp) ?_;simp;refine LoopC.le (FF 15 [5] 14 (by simp)) ?_;refine LoopC.le (Ao [(1,BG a),(2,BG b),(3,iv most),(15,.osl [5] 1 14 0 ([]:List IT).length),(16,iv (0:Nat)),(17,iv (0:Nat)),(45,prs (YA (LC a b))),(46,iv (YA (LC a b)).length),(47,iv (0:Nat))] (by simp[upd,Aa,h5,YA])) ?_;refine AcA (one:=one) (a:=a) (b:=b) hal hbl hone (P:=YA (LC a b)) (by omega) (R:=FU one a b) (fun H2 its v i j hi hj hl hR k5=>?_) _ 0 0 0 1 [] _ (Nat.zero_add _) (Qw a b) (by simp) rfl (by simp[Aa,h5]);have D1:=Kh ((a.drop i).take (a.length-i));have D2:=Kr ((b.drop j).take (b.length-j));have dl:∀ l,(DE l).length≤1:=fun l=>by unfold DE;split<;>simp
  have il:∀ l,(B7 l).length≤1:=fun l=>by unfold B7;split<;>simp
  have d1:=dl ((a.drop i).take (a.length-i));have d2:=il ((b.drop j).take (b.length-j));have ea:(a.drop i).take (a.length-i)=a.drop i:=AX (by simp);have eb:(b.drop j).take (b.length-j)=b.drop j:=AX (by simp);have hR2:FU one a b=its.map IT.op++DE ((a.drop i).take (a.length-i))++B7 ((b.drop j).take (b.length-j)):=by rw[ea,eb,hR,GI]
  clear ea eb;rw[hR2];have hgot:∀ D:List OP,D.map oA=(D.map IT.got).map Rr:=fun D=>by
   rw[List.map_map];refine List.map_congr_left fun o _=>?_;simp[Rr,kc]
  have hop:∀ D:List OP,(D.map IT.got).map IT.op=D:=fun D=>by
   rw[List.map_map];exact List.map_id' _
  clear hR2;generalize DE ((a.drop i).take (a.length-i))=D at *;generalize B7 ((b.drop j).take (b.length-j))=I at *;simp[hi,hj];simp only[← List.map_drop,← List.map_take];refine Af D1 (by simp) ?_;simp[hj,k5,Aa,EC];refine⟨by omega,?_⟩;simp only[← List.map_drop,← List.map_take];refine Af D2 (by simp) ?_;simp[Aa,EC];refine⟨by omega,?_⟩;have hf:∀ H:Hp,H [5]=⟨v+1+1,.arr 14 ((its++D.map IT.got++I.map IT.got).map Rr)⟩→IZ H (.osl [5] (v+1+1) 14 0 (its.length+D.length+I.length)) (LO (its.map IT.op++(D++I))):=fun H hH=>by
   have:=eT hH (n:=its.length+D.length+I.length) (by simp;omega);simpa[hop] using this
  refine hf _ ?_;rw[hgot D,hgot I,AX (by simp)];simp[Aa]
theorem gA {gap:List T→List T→List OP} {s:Sp} (h:s.k=0) (ss:List Sp) (a b:List T) (out:List OP):Cv gap (s::ss) a b out=Cv gap ss (a.drop s.n) (b.drop s.n) (out++[.mk 0 s.n [] E0]):=by
 cases ss with
 |nil=>simp[Cv,h]
 |cons s2 ss=>simp[Cv,h]
theorem jV {gap:List T→List T→List OP} {s:Sp} (h:s.k=2) (ss:List Sp) (a b:List T) (out:List OP):Cv gap (s::ss) a b out=Cv gap ss a (b.drop s.n) (out++B7 (b.take s.n)):=by
 cases ss with
 |nil=>simp[Cv,h]
 |cons s2 ss=>simp[Cv,h]
theorem kj {gap:List T→List T→List OP} {s s2:Sp} (h:s.k=1) (h2:s2.k=2) (ss:List Sp) (a b:List T) (out:List OP):Cv gap (s::s2::ss) a b out=Cv gap ss (a.drop s.n) (b.drop s2.n) (out++gap (a.take s.n) (b.take s2.n)):=by
 simp[Cv,h,h2]
theorem kT {gap:List T→List T→List OP} {s:Sp} (h:s.k=1) {ss:List Sp} (h2:∀ s2 r,ss=s2::r→s2.k ≠ 2) (a b:List T) (out:List OP):Cv gap (s::ss) a b out=Cv gap ss (a.drop s.n) b (out++DE (a.take s.n)):=by
 cases ss with
 |nil=>simp[Cv,h]
 |cons s2 ss=>simp[Cv,h,h2 s2 ss rfl]
theorem X1 (one:T→T→E) (a b:List T):∀ (P:List Sc) (i j:Nat) (out:List OP),(GI one a b P i j out).length≤out.length+3*P.length+2
 |[],i,j,out=>by
  have d1:(DE (a.drop i)).length≤1:=by unfold DE;split<;>simp
  have d2:(B7 (b.drop j)).length≤1:=by unfold B7;split<;>simp
  simp[GI];omega
 |x::P,i,j,out=>by
  have d1:(DE ((a.take x.i).drop i)).length≤1:=by unfold DE;split<;>simp
  have d2:(B7 ((b.take x.j).drop j)).length≤1:=by unfold B7;split<;>simp
  have:=X1 one a b P (x.i+1) (x.j+1) (out++DE ((a.take x.i).drop i)++B7 ((b.take x.j).drop j)++[.mk 3 0 [] (one (a.getD x.i T0) (b.getD x.j T0))]);rw[GI];simp only[List.length_append,List.length_singleton] at this;simp only[List.length_cons];omega
theorem Tw (one:T→T→E) (a b:List T):(FU one a b).length≤50:=by
 obtain⟨hpk,hp16⟩:=Wk (LC a b);have hPl:(YA (LC a b)).length≤16:=by
  have:=(N5 (F4 hpk).1).2.length_eq;unfold YA;omega
 have:=X1 one a b (YA (LC a b)) 0 0 [];simp at this;unfold FU;omega
theorem WB (D:List OP):D.map oA=(D.map IT.got).map Rr:=by
 rw[List.map_map];refine List.map_congr_left fun o _=>?_;simp[Rr,kc]
theorem eD (D:List OP):(D.map IT.got).map IT.op=D:=by
 rw[List.map_map];exact List.map_id' _
theorem qx {one:T→T→E} {a b:T} (ha:∀ t,t ∈ a.kids→AK t) (hb:∀ t,t ∈ b.kids→AK t) (hal:a.kids.length≤1000000) (hbl:b.kids.length≤1000000) {most:Int} (hone:∀ x,x ∈ a.kids→∀ y,y ∈ b.kids→G.Spec Tryz.prog 46 [tX x,tX y,iv most] (eX (one x y))) {S:List Sp} (hS:S.length≤10000000) (hS2:∀ s,s ∈ S→s.k≤2) {R:List OP}
  (hq:∀ (H':Hp) (its:List IT) (v:Nat) (st:List (Nat × A)),its.map IT.op=R→H' [2]=⟨v,.arr 14 (its.map Rr)⟩→Q (.exit 0) ⟨lk ([(0,ZL S),(3,iv most),(5,.pob [0] 1 0),(9,.osl [2] v 14 0 its.length)]++st),H'⟩) :
  ∀ (m k v:Nat) (x y:List T) (its:List IT) (H:Hp),k+m=S.length→(∀ t,t ∈ x→t ∈ a.kids)→(∀ t,t ∈ y→t ∈ b.kids)→x.length≤1000000→y.length≤1000000→dA (Bb (S.drop k))≤x.length→dB (Bb (S.drop k))≤y.length→its.length≤50*k→R=Cv (FU one) (S.drop k) x y (its.map IT.op)→H [0]=⟨1,.cells (tL a)⟩→H [2]=⟨v,.arr 14 (its.map Rr)⟩ →
  LoopC (cx Tryz.prog w0 I0 n0) EW Q ⟨lk [(0,ZL S),(3,iv most),(5,.pob [0] 1 0),(9,.osl [2] v 14 0 its.length),(10,BG x),(11,BG y),(12,iv k)],H⟩:=by
 have tk:∀ (l:List T) (n:Nat),(l.drop n).take (l.length-n)=l.drop n:=fun l n=>AX (by simp);intro m;induction m using Nat.strongRecOn with
 |_ m ih=>
 intro k v x y its H hm hx hy hxl hyl hA hB hl hR h0 h2;cases m with
 |zero=>
  have:k=S.length:=by omega
  subst this;rw[List.drop_length] at hR;refine Ab Ai EW.eq_1 ?_;simp;exact hq H its v [(10,BG x),(11,BG y),(12,iv S.length),(22,bv false)] hR.symm h2
 |succ m=>
  have hlt:k<S.length:=by omega
  have ew:=AW k;have hd:S.drop k=S[k]::S.drop (k+1):=(List.getElem_cons_drop hlt).symm;have hk:=hS2 _ (C5 hlt);rw[hd] at hR hA hB;rw[Bl,GC,G9] at hA;rw[Bl,Gr,GX] at hB;have hg:(S.map Mp)[k]? = some (Mp S[k]):=by simp[hlt]
  generalize hs:S[k]=s at *;have hk3:s.k=0∨s.k=1∨s.k=2:=by omega
  rcases hk3 with h | h | h
  ·rw[gA h] at hR;rw[if_neg (by omega)] at hA hB;have f1:s.n≤x.length:=by omega
   have f2:s.n≤y.length:=by omega
   refine Ab Ai EW.eq_1 ?_;simp[hlt,hs,Mp,Uq,h,f1,f2,h2,EC,ew];refine⟨by omega,?_⟩;simp only[← List.map_drop,← List.map_take,tk];have nx:=ih m (by omega) (k+1) (v+1) (x.drop s.n) (y.drop s.n) (its++[IT.r (RI.keep (s.n:Int))]) (AJ H [2] ⟨v+1,.arr 14 ((its++[IT.r (RI.keep (s.n:Int))]).map Rr)⟩) (by omega) (fun t ht=>hx t (QL ht)) (fun t ht=>hy t (QL ht)) (by simp;omega) (by simp;omega) (by simp;omega) (by simp;omega) (by simp;omega) (by rw[hR];simp[IT.op,RI.op]) (by simp[Aa,h0]) (by simp[Aa]);rw[AX (by simp)];rw[Int.natCast_add] at nx;simp only[List.length_append,List.length_map,List.length_singleton,List.length_cons,List.length_nil,List.map_append,List.map_cons,List.map_nil] at nx ⊢;exact nx
  ·rw[h] at hA hB;simp at hA hB;have f1:s.n≤x.length:=by omega
   by_cases hg2:∃ h3:k+1<S.length,S[k+1].k=2
   ·obtain⟨h3,h4⟩:=hg2;have hd2:S.drop (k+1)=S[k+1]::S.drop (k+1+1):=(List.getElem_cons_drop h3).symm;rw[hd2] at hR hA hB;rw[Bl,GC,G9] at hA;rw[Bl,Gr,GX] at hB;generalize hs2:S[k+1]=s2 at *;rw[kj h h4] at hR;rw[h4] at hA hB;simp at hA hB;have f2:s2.n≤y.length:=by omega
    have ew2:i64.wrap ((k:Int)+1+1)=((k+1+1:Nat):Int):=Bg;have G:=gJ (one:=one) (a:=x.take s.n) (b:=y.take s2.n) (q:=a.kind) (fun t ht=>ha t (hx t (OB ht))) (fun t ht=>hb t (hy t (OB ht))) (by simp;omega) (by simp;omega) (most:=most) (fun p hp q hq=>hone p (hx p (OB hp)) q (hy q (OB hq)));have gl:=Tw one (x.take s.n) (y.take s2.n);have i1:(k:Int)+1<S.length:=by omega
    have i2:(0:Int)≤(k:Int)+1:=by omega
    have i3:((k:Int)+1).toNat=k+1:=by omega
    have i4:i64.wrap ((k:Int)+1)=(k:Int)+1:=by rw[ew];omega
    refine Ab Ai EW.eq_1 ?_;generalize FU one (x.take s.n) (y.take s2.n)=I at *;simp[hlt,hs,Mp,Uq,h,f1,f2,h2,EC,i4,h3,hs2,h4,h0,i1,i2,i3];simp only[← List.map_drop,← List.map_take,tk];refine Af G (by simp) ?_;simp[f1,f2,h2,EC,i4,h0,ew2];refine⟨by omega,?_⟩;simp only[← List.map_drop,← List.map_take,tk];cases m with
    |zero=>omega
    |succ m=>
     have nx:=ih m (by omega) (k+1+1) (v+1) (x.drop s.n) (y.drop s2.n) (its++I.map IT.got) (AJ H [2] ⟨v+1,.arr 14 ((its++I.map IT.got).map Rr)⟩) (by omega) (fun t ht=>hx t (QL ht)) (fun t ht=>hy t (QL ht)) (by simp;omega) (by simp;omega) (by simp;omega) (by simp;omega) (by simp;omega) (by rw[hR,List.map_append,eD]) (by simp[Aa,h0]) (by simp[Aa]);rw[AX (by simp),WB,← List.map_append];rw[Int.natCast_add,Int.natCast_add] at nx;simp only[List.length_append,List.length_map,List.length_singleton,List.length_cons,List.length_nil,List.map_append,List.map_cons,List.map_nil] at nx ⊢;exact nx
   ·have hnd:∀ s2 r,S.drop (k+1)=s2::r→s2.k ≠ 2:=fun s2 r e h4=>by
     have h3:k+1<S.length:=by
      have:=congrArg List.length e;simp at this;omega
     have hd2:S.drop (k+1)=S[k+1]::S.drop (k+1+1):=(List.getElem_cons_drop h3).symm;rw[hd2] at e;injection e with e1 _;exact hg2 ⟨h3,by rw[e1];exact h4⟩
    rw[kT h hnd] at hR;have D:=Kh (x.take s.n);have dl:(DE (x.take s.n)).length≤1:=by unfold DE;split<;>simp
    generalize DE (x.take s.n)=I at *;refine Ab Ai EW.eq_1 ?_;by_cases h3:k+1<S.length
    ·have h4:¬ (S[k+1].k:Int)=2:=fun e=>hg2 ⟨h3,by omega⟩;have h4':¬ S[k+1].k=2:=fun e=>hg2 ⟨h3,e⟩;have i1:(k:Int)+1<S.length:=by omega
     have i2:(0:Int)≤(k:Int)+1:=by omega
     have i3:((k:Int)+1).toNat=k+1:=by omega
     have i4:i64.wrap ((k:Int)+1)=(k:Int)+1:=by rw[ew];omega
     simp[hlt,hs,Mp,Uq,h,f1,h2,EC,i4,h3,h4,h4',i1,i2,i3];simp only[← List.map_drop,← List.map_take,tk];refine Af D (by simp) ?_;simp[f1,h2,EC,i4];refine⟨by omega,?_⟩;simp only[← List.map_drop,← List.map_take,tk];have nx:=ih m (by omega) (k+1) (v+1) (x.drop s.n) y (its++I.map IT.got) (AJ H [2] ⟨v+1,.arr 14 ((its++I.map IT.got).map Rr)⟩) (by omega) (fun t ht=>hx t (QL ht)) hy (by simp;omega) (by omega) (by simp;omega) (by omega) (by simp;omega) (by rw[hR,List.map_append,eD]) (by simp[Aa,h0]) (by simp[Aa]);rw[AX (by simp),WB,← List.map_append];rw[Int.natCast_add] at nx;simp only[List.length_append,List.length_map,List.length_singleton,List.length_cons,List.length_nil,List.map_append,List.map_cons,List.map_nil] at nx ⊢;exact nx
    ·have i1:¬ (k:Int)+1<S.length:=by omega
     have i4:i64.wrap ((k:Int)+1)=(k:Int)+1:=by rw[ew];omega
     simp[hlt,hs,Mp,Uq,h,f1,h2,EC,i4,i1];simp only[← List.map_drop,← List.map_take,tk];refine Af D (by simp) ?_;simp[f1,h2,EC,i4];refine⟨by omega,?_⟩;simp only[← List.map_drop,← List.map_take,tk];have nx:=ih m (by omega) (k+1) (v+1) (x.drop s.n) y (its++I.map IT.got) (AJ H [2] ⟨v+1,.arr 14 ((its++I.map IT.got).map Rr)⟩) (by omega) (fun t ht=>hx t (QL ht)) hy (by simp;omega) (by omega) (by simp;omega) (by omega) (by simp;omega) (by rw[hR,List.map_append,eD]) (by simp[Aa,h0]) (by simp[Aa]);rw[AX (by simp),WB,← List.map_append];rw[Int.natCast_add] at nx;simp only[List.length_append,List.length_map,List.length_singleton,List.length_cons,List.length_nil,List.map_append,List.map_cons,List.map_nil] at nx ⊢;exact nx
  ·rw[jV h] at hR;rw[h] at hA hB;simp at hA hB;have f2:s.n≤y.length:=by omega
   have D:=Kr (y.take s.n);have dl:(B7 (y.take s.n)).length≤1:=by unfold B7;split<;>simp
   generalize B7 (y.take s.n)=I at *;refine Ab Ai EW.eq_1 ?_;simp[hlt,hs,Mp,Uq,h,f2,h2,EC,ew];simp only[← List.map_drop,← List.map_take,tk];refine Af D (by simp) ?_;simp[f2,h2,EC,ew];refine⟨by omega,?_⟩;simp only[← List.map_drop,← List.map_take,tk];have nx:=ih m (by omega) (k+1) (v+1) x (y.drop s.n) (its++I.map IT.got) (AJ H [2] ⟨v+1,.arr 14 ((its++I.map IT.got).map Rr)⟩) (by omega) hx (fun t ht=>hy t (QL ht)) (by omega) (by simp;omega) (by omega) (by simp;omega) (by simp;omega) (by rw[hR,List.map_append,eD]) (by simp[Aa,h0]) (by simp[Aa]);rw[AX (by simp),WB,← List.map_append];rw[Int.natCast_add] at nx;simp only[List.length_append,List.length_map,List.length_singleton,List.length_cons,List.length_nil,List.map_append,List.map_cons,List.map_nil] at nx ⊢;exact nx
theorem ZS {one:T→T→E} {a b:T} (ha:∀ t,t ∈ a.kids→AK t) (hb:∀ t,t ∈ b.kids→AK t) (hal:a.kids.length≤1000000) (hbl:b.kids.length≤1000000) {most:Int} (hone:∀ x,x ∈ a.kids→∀ y,y ∈ b.kids→G.Spec Tryz.prog 46 [tX x,tX y,iv most] (eX (one x y))) {S:List Sp} (hS:S.length≤10000000) (hS2:∀ s,s ∈ S→s.k≤2) (hA:dA (Bb S)≤a.kids.length) (hB:dB (Bb S)≤b.kids.length) :
  G.Spec Tryz.prog 124 [ZL S,tX a,tX b,iv most] (LO (Cv (FU one) S a.kids b.kids [])):=by
 refine Al aj (by simp) fun w0 I0=>?_;unfold SS;simp;refine LoopC.le (FF 9 [2] 14 (by simp)) ?_;refine LoopC.le (Ao [(0,ZL S),(3,iv most),(5,.pob [0] 1 0),(9,.osl [2] 1 14 0 ([]:List IT).length),(10,BG a.kids),(11,BG b.kids),(12,iv (0:Nat))] (by simp[upd])) ?_;refine qx (a:=a) (b:=b) ha hb hal hbl hone hS hS2 (R:=Cv (FU one) S a.kids b.kids []) (fun H' its v st hR k2=>?_) S.length 0 1 a.kids b.kids [] _ (Nat.zero_add _) (fun t h=>h) (fun t h=>h) hal hbl (by simpa using hA) (by simpa using hB) (by simp) (by simp) (by simp[Aa]) (by simp[Aa]);simp;rw[← hR];exact eT k2 rfl
theorem jS (l:List Nat):(pj l).map iv=l.map nv:=by
 simp[pj]
theorem U3 {us:List Nat} (h:∀ x,x ∈ us→x≤2):∀ s,s ∈ JD us→s.k≤2∧1≤s.n:=XD us 0 0 0 h
theorem Mr:∀ (l:List Sp),(∀ s,s ∈ l→s.k≤2∧1≤s.n)→l.length≤dA (Bb l)+dB (Bb l)
 |[],_=>by simp
 |s::l,h=>by
  have ih:=Mr l fun x hx=>h x (by simp[hx]);have hs:=h s (by simp);rw[Bl,GC,Gr,G9,GX,List.length_cons];split<;>split<;>omega
theorem dY (a b:List T) (h:a=[]∨b=[]):YA (LC a b)=[]:=by
 have hP:=Qw a b;cases hp:YA (LC a b) with
 |nil=>rfl
 |cons x P=>
  rw[hp] at hP;have h1:=hP.2.2.1;have h2:=hP.2.2.2.1;rcases h with rfl | rfl<;>simp at h1 h2
theorem Yq (one:T→T→E) (b:List T):FU one [] b=B7 b:=by
 unfold FU;rw[dY _ _ (.inl rfl),GI];simp[DE]
theorem gI (one:T→T→E) (a:List T):FU one a []=DE a:=by
 unfold FU;rw[dY _ _ (.inr rfl),GI];simp[B7]
theorem jR (one:T→T→E) (a b:List T):Cv (FU one) (JD (Bb [⟨1,a.length⟩,⟨2,b.length⟩])) a b []=FU one a b:=by
 have e:JD (Bb [⟨1,a.length⟩,⟨2,b.length⟩])=fl 1 a.length++fl 2 b.length:=by
  unfold JD;rw[Bl,Bl,Ip];by_cases h1:a.length=0
  ·by_cases h2:b.length=0
   ·simp[h1,h2,N9]
   ·rw[h1];simp only[List.replicate_zero,List.nil_append];rw[RF b.length [] 0 0 0 (by omega)];simp[N9]
  ·rw[V7 a.length _ 0 0 0 (by omega)];by_cases h2:b.length=0
   ·simp[h2,N9]
   ·rw[RF b.length [] 0 _ 0 (by omega)];simp[N9]
 rw[e];by_cases h1:a.length=0
 ·have h1':a=[]:=by simpa using h1
  subst h1';by_cases h2:b.length=0
  ·have h2':b=[]:=by simpa using h2
   subst h2';simp[Cv,Yq,B7]
  ·rw[R4 (k:=2) (n:=b.length) (by omega)];simp[Cv,Yq]
 ·rw[R4 (k:=1) (n:=a.length) (by omega)];by_cases h2:b.length=0
  ·have h2':b=[]:=by simpa using h2
   subst h2';simp[Cv,gI]
  ·rw[R4 (k:=2) (n:=b.length) (by omega)];simp[Cv]
theorem Wy {one:T→T→E} {a b:T} (ha:AK a) (hb:AK b) (hna:∀ t,t ∈ a.kids→Ag t=t) (hnb:∀ t,t ∈ b.kids→Ag t=t) (hal:a.kids.length≤30000) (hbl:b.kids.length≤30000) {most:Int} (hm:BN most) (hone:∀ x,x ∈ a.kids→∀ y,y ∈ b.kids→G.Spec Tryz.prog 46 [tX x,tX y,iv most] (eX (one x y))) :
  G.Spec Tryz.prog 78 [tX a,tX b,iv most] (eX (OD one most a b)):=by
 have hka:=(wfT_iff.1 ha).ks;have hkb:=(wfT_iff.1 hb).ks;have C1:=Tt (ks:=[]) (ts:=a.kids) (by simp) (by simp) hka hna (by simp;omega) 1;have hl1:=TM a.kids [];simp at hl1;have C2:=Tt (ks:=(Cs [] a.kids).1) (ts:=b.kids) (Xy (l:=a.kids) (by simp) hka) (TG (l:=a.kids) (by simp)) hkb hnb (by omega) (S9 1 [] a.kids);have e1:(Ru a).length=a.kids.length:=by simp[Ru,pj,ES]
 have e2:(RP a b).length=b.kids.length:=by simp[RP,pj,ES]
 have hD:=aM (a:=Ru a) (b:=RP a b) (by omega) (by omega) hm;have z1:(Ru a).map iv=(Cs [] a.kids).2.map nv:=jS _;have z2:(RP a b).map iv=(Cs (Cs [] a.kids).1 b.kids).2.map nv:=jS _;simp only[Fc,z1,z2] at hD;have key:∀ (w0:World) (I0:Nat→Prop) (S:List Sp) (H:Hp),S.length≤10000000→(∀ s,s ∈ S→s.k≤2)→dA (Bb S)≤a.kids.length→dB (Bb S)≤b.kids.length→H [0]=⟨1,.cells (tL a)⟩→H [1]=⟨1,.cells (tL b)⟩→H [2]=⟨1,.cells DS⟩ →
   WPC (cx Tryz.prog w0 I0 47) KF (Xt Tryz.prog [ResultVar.cell 6 30] (eX (.mk 3 T0 T0 [] [] a.kind (Cv (FU one) S a.kids b.kids [])))) ⟨lk [(2,iv most),(3,.pob [0] 1 0),(4,.pob [1] 1 0),(6,.pob [2] 1 0),(9,ZL S)],H⟩:=by
  intro w0 I0 S H s1 s2 s3 s4 h0 h1 h2;have O:=ZS hka hkb (by omega) (by omega) hone s1 s2 s3 s4;rw[KF.eq_1];simp[h0,h1];refine Af O (by simp) ?_;simp[h0,h2,Aa,DS];exact BZ ⟨Ad rfl,Ad rfl,Am,Am,Ad rfl,Am,Am,Am,Am,Ad rfl,Am,trivial⟩
 have wd:=cq (Ru a) (RP a b);have wi:=RU (Ru a) (RP a b);have wn:=WT _ wi;refine Al Y5 (by simp) fun w0 I0=>?_;unfold QG;simp;refine Hl (BX (d:=[3]) (u:=1) (cs:=[.sl true []]) 0 [3,0] 3 (by simp[Aa]) rfl (by simp)) (Gs ?_);simp;refine Ar 3 C1 (fun p=>?_) (by simp) (by simp) ?_
 ·by_cases h1:p=[]
  ·subst h1;simp[Aa]
  ·by_cases h2:p=[0]
   ·subst h2;simp[Aa]
   ·simp[h1,h2,Ne.symm h1,Ne.symm h2,Aa]
 ·simp;refine Ar 3 C2 (fun p=>by simp) (by simp) (by simp) ?_;simp;refine Af hD (by simp) ?_;by_cases hd:(CH (Ru a) (RP a b):Int)≤most
  ·have hL:OD one most a b = .mk 3 T0 T0 [] [] a.kind (Cv (FU one) (JD (FH (Ru a) (RP a b))) a.kids b.kids []):=by unfold OD;rw[if_pos hd]
   rw[hL];simp[hd];refine key _ _ _ _ ?_ (fun s hs=>(U3 wi s hs).1) (by omega) (by omega) (by simp) (by simp) (by simp[DS]);have:=Mr _ (U3 wi);omega
  ·have hL:OD one most a b = .mk 3 T0 T0 [] [] a.kind (Cv (FU one) (JD (Bb [⟨1,a.kids.length⟩,⟨2,b.kids.length⟩])) a.kids b.kids []):=by unfold OD;rw[if_neg hd,jR]
   have N:=gQ (all:=[⟨1,a.kids.length⟩,⟨2,b.kids.length⟩]) (fun s hs=>by
    simp at hs;rcases hs with rfl | rfl
    ·exact⟨by simp,by simp;omega⟩
    ·exact⟨by simp,by simp;omega⟩) (by simp)
   have ui:∀ x,x ∈ Bb [⟨1,a.kids.length⟩,⟨2,b.kids.length⟩]→x≤2:=fun x hx=>by
    rw[Bl,Bl,Ip,List.append_nil] at hx;rcases List.mem_append.1 hx with h | h<;>(have h':=List.eq_of_mem_replicate h;simp at h';omega)
   have ud:=WT _ ui;have ua:dA (Bb [⟨1,a.kids.length⟩,⟨2,b.kids.length⟩])=a.kids.length:=by
    rw[Bl,Bl,Ip,GC,GC,G9,G9];simp[dA]
   have ub:dB (Bb [⟨1,a.kids.length⟩,⟨2,b.kids.length⟩])=b.kids.length:=by
    rw[Bl,Bl,Ip,Gr,Gr,GX,GX];simp[dB]
   have ul:=Mr _ (U3 ui);have N2:G.Spec Tryz.prog 123 [.sl true [.agg [iv 1,iv a.kids.length],.agg [iv 2,iv b.kids.length]]] (ZL (JD (Bb [⟨1,a.kids.length⟩,⟨2,b.kids.length⟩]))):=N.soft (by simp[A.softL,A.soft,Mp,Uq]);clear N;rw[hL];clear hL;generalize Bb [⟨1,a.kids.length⟩,⟨2,b.kids.length⟩]=us at *;simp[hd];refine Af N2 (by simp) ?_;simp;refine key _ _ _ _ (by omega) (fun s hs=>(U3 ui s hs).1) (by omega) (by omega) (by simp) (by simp) (by simp[DS])
theorem Y8 (ks:List T) (n:T):ks <+: FV ks n:=by
 unfold FV;split
 ·exact List.prefix_rfl
 ·exact List.prefix_append _ _
theorem HL:∀ (l ks:List T),ks <+: (Cs ks l).1
 |[],ks=>List.prefix_rfl
 |t::l,ks=>(Y8 ks (Ag t)).trans (HL l _)
theorem N4:∀ {l ks:List T},ks.Nodup→(Cs ks l).1.Nodup
 |[],ks,h=>h
 |t::l,ks,h=>N4 (l:=l) (ai h)
theorem RR (ks:List T) (n:T):(FV ks n)[EL ks n]? = some n:=by
 unfold FV;have hle:=eR ks n;split
 ·rename_i h;rw[List.getElem?_eq_getElem h];congr 1;exact sameB_iff.1 (List.findIdx_getElem (p:=fun k=>ET k n) (w:=h))
 ·rename_i h;have:EL ks n=ks.length:=by omega
  rw[this];simp
theorem Ua {ks ks':List T} {n:T} (h:FV ks n <+: ks') (hd:ks'.Nodup):EL ks' n=EL ks n:=by
 have h1:=RR ks n;obtain⟨hl,e⟩:=List.getElem?_eq_some_iff.1 h1;have hl2:EL ks n<ks'.length:=Nat.lt_of_lt_of_le hl h.length_le;refine rj hl2 ?_ hd;obtain⟨m,rfl⟩:=h;rw[List.getElem_append_left hl];exact e
theorem bT {ks ks':List T} {n:T} (h:FV ks n <+: ks') (hd:ks'.Nodup):FV ks' n=ks':=by
 have h1:=Ua h hd;have h2:=RR ks n;obtain⟨hl,e⟩:=List.getElem?_eq_some_iff.1 h2;have hl2:EL ks n<ks'.length:=Nat.lt_of_lt_of_le hl h.length_le;unfold FV;rw[if_pos (by omega)]
theorem N0:∀ {l ks ks':List T},(Cs ks l).1 <+: ks'→ks'.Nodup→Cs ks' l=(ks',(Cs ks l).2)
 |[],ks,ks',_,_=>rfl
 |t::l,ks,ks',h,hd=>by
  have h1:FV ks (Ag t) <+: ks':=(HL l _).trans h;simp only[Cs];rw[Ua h1 hd,bT h1 hd,N0 (l:=l) (ks:=FV ks (Ag t)) h hd]
theorem R8 {α:Type} {H:Hp} {o:Nm} {u n sz:Nat} {l:List α} {f g:α→A} (h:vr (H o) u=some (sz,l.map f)) (hn:n=l.length)
  (hf:∀ x,x ∈ l→(f x).cells.all A.bare=true∧(f x).cells.map A.soft=(g x).cells∧(g x).cells.length=sz∧A.ones (g x).cells=true):IZ H (.osl o u sz 0 n) (.sl false (l.map g)):=by
 subst hn;refine Om (xs:=l.map f) (by simpa using h) (by simp) (by simp) (fun y hy=>?_) ?_ ?_
 ·obtain⟨x,hx,rfl⟩:=List.mem_map.1 hy;exact(hf x hx).2.2.1
 ·simp only[A.ones,List.all_eq_true,List.mem_flatMap];rintro y ⟨z,hz,hy⟩;obtain⟨x,hx,rfl⟩:=List.mem_map.1 hz;have:=(hf x hx).2.2.2;simp only[A.ones,List.all_eq_true] at this;exact this y hy
 ·rw[List.drop_zero,AX (by simp)];have:∀ (m:List α),(∀ x,x ∈ m→x ∈ l)→Hy H ((m.map f).flatMap A.cells) ((m.map g).flatMap A.cells):=by
   intro m;induction m with
   |nil=>intro _;simp
   |cons x m ih=>
    intro hm;obtain⟨h1,h2,_,_⟩:=hf x (hm x (by simp));simp only[List.map_cons,List.flatMap_cons];rw[← h2];have hr:=ih fun y hy=>hm y (by simp[hy]);have:∀ (c:List A) (p q:List A),c.all A.bare=true→Hy H p q→Hy H (c++p) (c.map A.soft++q):=by
     intro c;induction c with
     |nil=>intro p q _ hpq;exact hpq
     |cons y c ihc=>
      intro p q hc hpq;simp only[List.all_cons,Bool.and_eq_true] at hc;exact⟨XN hc.1,ihc p q hc.2 hpq⟩
    exact this _ _ _ h1 hr
  exact this l fun x h=>h
section
variable {n0:Nat} {w0:World} {I0:Nat→Prop}
end
theorem Vp (a b:T) (i:Nat):Hv a b (i+1)=Hv a b i++(if DL (a.words.getD i 0) (b.words.getD i 0)=0 then [] else [Wa i (a.words.getD i 0) (b.words.getD i 0)]):=by
 unfold Hv;rw[List.range_succ,List.filterMap_append];congr 1;by_cases h:DL (a.words.getD i 0) (b.words.getD i 0)=0
 ·simp only[List.filterMap_cons,List.filterMap_nil,h,if_true]
 ·simp only[List.filterMap_cons,List.filterMap_nil,h,if_false]
theorem Oo (a b:T):∀ i,(Hv a b i).length≤i
 |0=>by simp[Hv]
 |i+1=>by
  have:=Oo a b i;rw[Vp];split<;>simp<;>omega
theorem Q0 (one:T→T→E) (a b:T) (i:Nat):Cq one a b (i+1)=Cq one a b i++(if (one (a.kids.getD i T0) (b.kids.getD i T0)).kind=0 then [] else [.mk i (one (a.kids.getD i T0) (b.kids.getD i T0))]):=by
 unfold Cq;rw[List.range_succ,List.filterMap_append];congr 1;by_cases h:(one (a.kids.getD i T0) (b.kids.getD i T0)).kind=0
 ·simp only[List.filterMap_cons,List.filterMap_nil,h,if_true]
 ·simp only[List.filterMap_cons,List.filterMap_nil,h,if_false]
theorem KH (one:T→T→E) (a b:T):∀ i,(Cq one a b i).length≤i
 |0=>by simp[Cq]
 |i+1=>by
  have:=KH one a b i;rw[Q0];split<;>simp<;>omega
def jH (u n:Nat) (k:A):List A:=[iv 2,iv 0,.sl true [],.sl true [],iv 0,.sl true [],.sl true [],.osl [5] u 4 0 n,k,iv 0,.sl true []]
theorem AaK {a b:T} (ha:AK a) (hb:AK b) {most:A} {N:Nat} (hN:N≤1000000)
  (hq:∀ (H':Hp) (u:Nat),H' [0]=⟨1,.cells (tL a)⟩→H' [1]=⟨1,.cells (tL b)⟩→H' [2]=⟨1,.cells DS⟩→H' [3]=⟨1,.cells (jH u (Hv a b N).length (.sl true []))⟩→H' [5]=⟨u,.arr 4 ((Hv a b N).map wA)⟩→H' [6]=⟨0,.none⟩→H' [7]=⟨0,.none⟩ →
   Q (.exit 0) ⟨lk [(2,most),(3,.pob [0] 1 0),(4,.pob [1] 1 0),(6,.pob [2] 1 0),(7,.pob [3] 1 0),(20,iv N),(21,iv N),(22,bv false)],H'⟩) :
  ∀ (m i:Nat) (u:Nat) (H:Hp),i+m=N→H [0]=⟨1,.cells (tL a)⟩→H [1]=⟨1,.cells (tL b)⟩→H [2]=⟨1,.cells DS⟩→H [3]=⟨1,.cells (jH u (Hv a b i).length (.sl true []))⟩→H [5]=⟨u,.arr 4 ((Hv a b i).map wA)⟩→H [6]=⟨0,.none⟩→H [7]=⟨0,.none⟩ →
  LoopC (cx Tryz.prog w0 I0 n0) Ey Q ⟨lk [(2,most),(3,.pob [0] 1 0),(4,.pob [1] 1 0),(6,.pob [2] 1 0),(7,.pob [3] 1 0),(20,iv N),(21,iv i)],H⟩:=by
 intro m;induction m with
 |zero=>
  intro i u H hm h0 h1 h2 h3 h5 h6 h7;have:i=N:=by omega
  subst this;refine Ab Ai Ey.eq_1 ?_;simp;exact hq H u h0 h1 h2 h3 h5 h6 h7
 |succ m ih=>
  intro i u H hm h0 h1 h2 h3 h5 h6 h7;have hlt:i<N:=by omega
  have ew:=AW i;have hwa:Bo (a.words.getD i 0):=tz ha i;have hwb:Bo (b.words.getD i 0):=tz hb i;have hW:=cw (i:=i) hwa hwb;have hwl:=Oo a b i;have next:=ih (i+1)
  rw[Vp] at next
  refine Ab Ai Ey.eq_1 ?_;simp[hlt,h0,h1];refine Af (Et a i) (by simp) ?_;simp[h0,h1];refine Af (Et b i) (by simp) ?_;simp;refine Af hW (by simp) ?_;generalize a.words.getD i 0=x at *;generalize b.words.getD i 0=y at *;by_cases hz:DL x y=0
  ·rw[if_pos hz] at next
   simp[hz,Aa];rw[ew];refine next u _ (by omega) (by simp[Aa,h0]) (by simp[Aa,h1]) (by simp[Aa,h2]) (by simp[Aa,h3]) (by simp[Aa,h5]) (by simp[Aa,h6]) (by simp[Aa,h7])
  ·rw[if_neg hz] at next
   simp[hz,Aa,h3,h5,jH];refine⟨by omega,?_⟩;rw[ew];refine next (u+1) _ (by omega) (by simp[Aa,h0]) (by simp[Aa,h1]) (by simp[Aa,h2]) (by simp[Aa,jH]) (by simp[Aa,AX]) (by simp[Aa,h6]) (by simp[Aa,h7])
theorem Abz {one:T→T→E} {a b:T} {most:Int} {N:Nat} (hN:N≤1000000) (hone:∀ i:Nat,G.Spec Tryz.prog 46 [tX (a.kids.getD i T0),tX (b.kids.getD i T0),iv most] (eX (one (a.kids.getD i T0) (b.kids.getD i T0)))) {u n:Nat} {ws:List WE}
  (hq:∀ (H':Hp) (v:Nat),H' [3]=⟨1,.cells (jH u n (.osl [7] v 12 0 (Cq one a b N).length))⟩→H' [5]=⟨u,.arr 4 (ws.map wA)⟩→H' [7]=⟨v,.arr 12 ((Cq one a b N).map kA)⟩→H' [2]=⟨1,.cells DS⟩ →
   Q (.exit 2) ⟨lk [(2,iv most),(3,.pob [0] 1 0),(4,.pob [1] 1 0),(6,.pob [2] 1 0),(7,.pob [3] 1 0),(49,iv N),(50,iv N),(51,bv false)],H'⟩) :
  ∀ (m i:Nat) (v:Nat) (H:Hp),i+m=N→H [0]=⟨1,.cells (tL a)⟩→H [1]=⟨1,.cells (tL b)⟩→H [2]=⟨1,.cells DS⟩→H [3]=⟨1,.cells (jH u n (.osl [7] v 12 0 (Cq one a b i).length))⟩→H [5]=⟨u,.arr 4 (ws.map wA)⟩→H [7]=⟨v,.arr 12 ((Cq one a b i).map kA)⟩ →
  LoopC (cx Tryz.prog w0 I0 n0) Ez Q ⟨lk [(2,iv most),(3,.pob [0] 1 0),(4,.pob [1] 1 0),(6,.pob [2] 1 0),(7,.pob [3] 1 0),(49,iv N),(50,iv i)],H⟩:=by
 intro m;induction m with
 |zero=>
  intro i v H hm h0 h1 h2 h3 h5 h7;have:i=N:=by omega
  subst this;refine Ab Ai Ez.eq_1 ?_;simp;exact hq H v h3 h5 h7 h2
 |succ m ih=>
  intro i v H hm h0 h1 h2 h3 h5 h7;have hlt:i<N:=by omega
  have ew:=AW i;have hO:=hone i;have hkl:=KH one a b i;have next:=ih (i+1)
  rw[Q0] at next
  have K1:=Fl a i;have K2:=Fl b i;generalize a.kids.getD i T0=x at *;generalize b.kids.getD i T0=y at *;generalize one x y=e at *;refine Ab Ai Ez.eq_1 ?_;simp[hlt,h0,h1];refine Af K1 (by simp) ?_;simp[h0,h1];refine Af K2 (by simp) ?_;simp;refine Af hO (by simp) ?_;by_cases hz:e.kind=0
  ·rw[if_pos hz] at next
   simp[hz,Aa];rw[ew];refine next v _ (by omega) (by simp[Aa,h0]) (by simp[Aa,h1]) (by simp[Aa,h2]) (by simp[Aa,h3]) (by simp[Aa,h5]) (by simp[Aa,h7])
  ·rw[if_neg hz] at next
   simp[hz,Aa,h3,h7,jH];refine⟨by omega,?_⟩;rw[ew];refine next (v+1) _ (by omega) (by simp[Aa,h0]) (by simp[Aa,h1]) (by simp[Aa,h2]) (by simp[Aa,jH]) (by simp[Aa,h5]) (by simp[Aa,AX])
theorem TE {one:T→T→E} {a b:T} (ha:AK a) (hb:AK b) (h1:a.words.length≤1000000) (h2:b.words.length≤1000000) (h3:a.kids.length≤1000000) (h4:b.kids.length≤1000000) {most:Int} (hone:∀ i:Nat,G.Spec Tryz.prog 46 [tX (a.kids.getD i T0),tX (b.kids.getD i T0),iv most] (eX (one (a.kids.getD i T0) (b.kids.getD i T0)))) :
  G.Spec Tryz.prog 76 [tX a,tX b,iv most] (eX (XU one a b)):=by
 refine Al PY (by simp) fun w0 I0=>?_;unfold JY;simp;refine LoopC.le (BX (d:=[3]) (u:=1) (cs:=[iv 2,iv 0,.sl true [],.sl true [],iv 0,.sl true [],.sl true [],.sl true [],.sl true [],iv 0,.sl true []]) 7 [5] 4 (by simp[Aa]) rfl (by simp)) ?_;refine LoopC.le (Ao [(2,iv most),(3,.pob [0] 1 0),(4,.pob [1] 1 0),(6,.pob [2] 1 0),(7,.pob [3] 1 0),(20,iv (max a.words.length b.words.length:Nat)),(21,iv (0:Nat))] (by simp;omega)) ?_;refine AaK ha hb (N:=max a.words.length b.words.length) (by omega) (fun H' u g0 g1 g2 g3 g5 g6 g7=>?_) (max a.words.length b.words.length) 0 1 _ (by omega) (by simp[Aa]) (by simp[Aa]) (by simp[Aa,DS]) (by simp[Aa,jH,Hv]) (by simp[Aa,Hv]) (by simp[Aa]) (by simp[Aa]);simp[g0,g1];refine LoopC.le (BX (d:=[3]) (u:=1) (cs:=jH u (Hv a b (max a.words.length b.words.length)).length (.sl true [])) 8 [7] 12 g3 rfl (by simp)) ?_;refine LoopC.le (Ao [(2,iv most),(3,.pob [0] 1 0),(4,.pob [1] 1 0),(6,.pob [2] 1 0),(7,.pob [3] 1 0),(49,iv (max a.kids.length b.kids.length:Nat)),(50,iv (0:Nat))] (by simp;omega)) ?_;refine Abz (one:=one) (a:=a) (b:=b) (N:=max a.kids.length b.kids.length) (by omega) hone (ws:=Hv a b (max a.words.length b.words.length)) (u:=u) (n:=(Hv a b (max a.words.length b.words.length)).length) (fun H2 v k3 k5 k7 k2=>?_) (max a.kids.length b.kids.length) 0 1 _ (by omega) (by simp[Aa,g0]) (by simp[Aa,g1]) (by simp[Aa,g2]) (by simp[Aa,jH,Cq,g7]) (by simp[Aa,g5]) (by simp[Aa,Cq,g7]);simp[k3,k2,Aa,jH];refine⟨by simp[DS],?_⟩;refine BZ ⟨Ad rfl,Ad rfl,Am,Am,Ad rfl,Am,Am,?_,?_,Ad rfl,Am,trivial⟩
 ·exact B0 (f:=wA) (l:=Hv a b (max a.words.length b.words.length)) (by rw[AD (by simp),k5];simp) rfl (fun x=>by simp)
 ·exact B0 (f:=kA) (l:=Cq one a b (max a.kids.length b.kids.length)) (by rw[AD (by simp),k7];simp) rfl (fun x=>by simp)
theorem ZD {a b:T} (ha:AK a) (hb:AK b) {X Y:E} {most:Int} (hs:a.kind=1→b.kind=1→G.Spec Tryz.prog 76 [tX a,tX b,iv most] (eX X)) (hl:a.kind=b.kind→2≤a.kind→a.kind≤9→G.Spec Tryz.prog 78 [tX a,tX b,iv most] (eX Y)) :
  G.Spec Tryz.prog 46 [tX a,tX b,iv most] (eX (if Kd a b=true then E0 else if a.kind=1∧b.kind=1 then X else if a.kind=b.kind∧2≤a.kind∧a.kind≤9 then Y else .mk 1 a b [] [] 0 [])):=by
 have hE:=Iw ha hb;have hraw:∀ H:Hp,IZ H (.agg DS) (eX E0):=fun H=>BZ ⟨Ad rfl,Ad rfl,Am,Am,Ad rfl,Am,Am,Am,Am,Ad rfl,Am,trivial⟩;have hfr:∀ (H:Hp) (k:Int),k=a.kind→IZ H (.agg [iv 1,iv k,DN a.words,BG a.kids,iv b.kind,DN b.words,BG b.kids,.sl true [],.sl true [],iv 0,.sl true []]) (eX (.mk 1 a b [] [] 0 [])):=fun H k hk=>by
  subst hk;exact BZ ⟨Ad rfl,Ad rfl,Ad rfl,Ad rfl,Ad rfl,Ad rfl,Ad rfl,Am,Am,Ad rfl,Am,trivial⟩
 refine Al cS (by simp) fun w0 I0=>?_;unfold TL;simp;refine Af hE (by simp) ?_;cases he:Kd a b with
 |true=>
  simp;exact hraw _
 |false=>
  by_cases h1:a.kind=1
  ·by_cases h2:b.kind=1
   ·have S:=hs h1 h2;have S':G.Spec Tryz.prog 76 [.agg [iv 1,DN a.words,BG a.kids],.agg [iv 1,DN b.words,BG b.kids],iv most] (eX X):=by
     rw[← h1];have e:([A.agg [iv a.kind,DN a.words,BG a.kids],.agg [iv a.kind,DN b.words,BG b.kids],iv most]:List A)=[tX a,tX b,iv most]:=by
      show [A.agg [iv a.kind,DN a.words,BG a.kids],.agg [iv a.kind,DN b.words,BG b.kids],iv most]=[A.agg [iv a.kind,DN a.words,BG a.kids],.agg [iv b.kind,DN b.words,BG b.kids],iv most];rw[h1,h2]
     rw[e];exact S
    simp[h1,h2];refine Af S' (by simp) ?_;simp;exact Ad (by simp)
   ·have hne:¬ (1:Int)=b.kind:=fun e=>h2 e.symm;simp[h1,h2,hne];refine Bv rfl ?_;simp;exact hfr _ 1 h1.symm
  ·by_cases h3:a.kind=b.kind
   ·have h2:¬ b.kind=1:=fun e=>h1 (h3.trans e);simp[h1,h3,h2];rw[Ay];simp;refine Af (bZ b.kind) (by simp) ?_;by_cases h5:2≤b.kind∧b.kind≤9
    ·have S:=hl h3 (by omega) (by omega);have S':G.Spec Tryz.prog 78 [.agg [iv b.kind,DN a.words,BG a.kids],.agg [iv b.kind,DN b.words,BG b.kids],iv most] (eX Y):=by
      rw[← h3];have e:([A.agg [iv a.kind,DN a.words,BG a.kids],.agg [iv a.kind,DN b.words,BG b.kids],iv most]:List A)=[tX a,tX b,iv most]:=by
       show [A.agg [iv a.kind,DN a.words,BG a.kids],.agg [iv a.kind,DN b.words,BG b.kids],iv most]=[A.agg [iv a.kind,DN a.words,BG a.kids],.agg [iv b.kind,DN b.words,BG b.kids],iv most];rw[h3]
      rw[e];exact S
     simp[h5.1,h5.2];refine Af S' (by simp) ?_;simp;exact Ad (by simp)
    ·have h6:(decide (2≤b.kind)&&decide (b.kind≤9))=false:=by
      rw[Bool.eq_false_iff];simpa using h5
     rw[h6];simp[h5];exact hfr _ _ h3.symm
   ·simp[h1,h3];refine Bv rfl ?_;simp;exact hfr _ _ rfl
def Rs:Nat→T→Prop
 |0,t=>t=T0
 |f+1,t=>t=T0∨(AK t∧Ag t=t∧t.words.length≤1000∧t.kids.length≤1000∧∀ k,k ∈ t.kids→Rs f k)
theorem vQ (f:Nat):Rs f T0:=by cases f with
 |zero=>rfl
 |succ f=>exact .inl rfl
theorem E8:AK T0:=wfT_iff.2 ⟨by simp[BN],by simp,by simp,by simp,by simp⟩
theorem fP:Ag T0=T0:=by simp[Ag,T0,C4,Cy]
theorem AV {f:Nat} {t:T} (h:Rs f t):AK t∧Ag t=t∧t.words.length≤1000∧t.kids.length≤1000:=by
 have z:AK T0∧Ag T0=T0∧T0.words.length≤1000∧T0.kids.length≤1000:=⟨E8,fP,by decide,by decide⟩;cases f with
 |zero=>cases h;exact z
 |succ f=>
  rcases h with rfl | h
  ·exact z
  ·exact⟨h.1,h.2.1,h.2.2.1,h.2.2.2.1⟩
theorem BI {f:Nat} {t:T} (h:Rs f t):∀ k,k ∈ t.kids→Rs (f-1) k:=by
 cases f with
 |zero=>cases h;intro k hk;simp[T0] at hk
 |succ f=>
  rcases h with rfl | h
  ·intro k hk;simp[T0] at hk
  ·exact h.2.2.2.2
theorem JI {f:Nat} {t:T} (h:Rs f t) (i:Nat):Rs (f-1) (t.kids.getD i T0):=by
 by_cases hi:i<t.kids.length
 ·have e:t.kids.getD i T0=t.kids[i]:=by simp[hi]
  rw[e];exact BI h _ (C5 hi)
 ·have e:t.kids.getD i T0=T0:=by simp[List.getElem?_eq_none (Nat.le_of_not_lt hi)]
  rw[e];exact vQ _
theorem Qx {most:Int} (hm:BN most):∀ (f g:Nat) (a b:T),Rs f a→Rs g b→G.Spec Tryz.prog 46 [tX a,tX b,iv most] (eX (DP most f a b))
 |0,g,a,b,ha,hb=>by
  obtain⟨a1,a2,a3,a4⟩:=AV ha;obtain⟨b1,b2,b3,b4⟩:=AV hb;have hk:a.kind=0:=by cases ha;rfl
  have:=ZD a1 b1 (X:=E0) (Y:=E0) (most:=most) (fun h=>by omega) (fun _ h=>by omega);rw[if_neg (show ¬ (a.kind=1∧b.kind=1) by omega),if_neg (show ¬ (a.kind=b.kind∧2≤a.kind∧a.kind≤9) by omega)] at this;exact this
 |f+1,g,a,b,ha,hb=>by
  obtain⟨a1,a2,a3,a4⟩:=AV ha;obtain⟨b1,b2,b3,b4⟩:=AV hb;refine ZD a1 b1 (fun h1 h2=>?_) (fun h1 h2 h3=>?_)
  ·exact TE a1 b1 (by omega) (by omega) (by omega) (by omega) fun i=>Qx hm f (g-1) _ _ (JI ha i) (JI hb i)
  ·exact Wy a1 b1 (fun t ht=>(AV (BI ha t ht)).2.1) (fun t ht=>(AV (BI hb t ht)).2.1) (by omega) (by omega) hm fun x hx y hy=>Qx hm f (g-1) _ _ (BI ha x hx) (BI hb y hy)
end Go.Proofs.YtndnlknocdangaaGreat
namespace Go.PL
mutual
def Bc:T→Int
 |.mk _ w l=>1+w.length+B4 l
def B4:List T→Int
 |[]=>0
 |t::l=>Bc t+B4 l
end
@[simp] theorem Fb (k:Int) (w:List Int) (l:List T):Bc (.mk k w l)=1+w.length+B4 l:=by rw[Bc]
@[simp] theorem uT:B4 []=0:=by rw[B4]
@[simp] theorem Cz (t:T) (l:List T):B4 (t::l)=Bc t+B4 l:=by rw[B4]
theorem NS {l:List T} (h:∀ t,t ∈ l→1≤Bc t):(l.length:Int)≤B4 l:=by
 induction l with
 |nil=>simp
 |cons t l ih=>
  have:=h t (by simp);have:=ih fun u hu=>h u (by simp[hu]);simp;omega
theorem GW:∀ t:T,1≤Bc t:=by
 refine T.ind fun k w l ih=>?_;have:=NS ih;simp;omega
theorem Ir (l:List T):(l.length:Int)≤B4 l:=NS fun t _=>GW t
theorem Ul:∀ (t:T) (d:Nat) (n:Int),0≤DF d n t→Bc t≤n-DF d n t:=by
 refine T.ind fun k w l ih d n h=>?_;have hl:∀ (m:List T) (d:Nat) (n:Int),(∀ t,t ∈ m→t ∈ l)→0≤Dm d n m→B4 m≤n-Dm d n m:=by
  intro m;induction m with
  |nil=>intro d n _ _;simp
  |cons t m ihm=>
   intro d n hin h;rw[Ha] at h ⊢;split at h
   ·omega
   ·rename_i hc;rw[if_neg hc];have h1:=ihm d (DF d n t) (fun u hu=>hin u (by simp[hu])) h;have h3:0≤DF d n t:=by
     cases m with
     |nil=>simpa using h
     |cons u m=>
      rw[Ha] at h;split at h<;>omega
    have:=ih t (hin t (by simp)) d n h3;simp;omega
 rw[ND] at h ⊢;split at h
 ·omega
 rename_i hc;rw[if_neg hc];have:=hl l (d-1) _ (fun t ht=>ht) h;simp;omega
end Go.PL
namespace Go.Proofs.YtndnlknocdangaaGreat
open Go Go.G Go.Proofs Go.PL
theorem Gx (a b:List OP):FE (a++b)=FE a+FE b:=by simp[FE]
theorem P2 (l:List T):FE (DE l)=l.length:=by
 unfold DE;split
 ·rename_i h;subst h;rfl
 ·simp[FE]
theorem PR (l:List T):FE (B7 l)=l.length:=by
 unfold B7;split
 ·rename_i h;subst h;rfl
 ·simp[FE]
theorem Zs (one:T→T→E) (a b:List T):∀ (P:List Sc) (i j:Nat) (out:List OP),Y7 a.length b.length i j P→FE (GI one a b P i j out)≤FE out+(a.length-i)+(b.length-j)
 |[],i,j,out,h=>by
  rw[GI,Gx,Gx,P2,PR];simp
 |x::P,i,j,out,h=>by
  obtain⟨k1,k2,k3,k4,k5⟩:=h;have:=Zs one a b P _ _ (out++DE ((a.take x.i).drop i)++B7 ((b.take x.j).drop j)++[.mk 3 0 [] (one (a.getD x.i T0) (b.getD x.j T0))]) k5;rw[GI];rw[Gx,Gx,Gx,P2,PR,show FE [OP.mk 3 0 [] (one (a.getD x.i T0) (b.getD x.j T0))]=0 from rfl,List.length_drop,List.length_take,List.length_drop,List.length_take] at this;omega
theorem Ym (one:T→T→E) (a b:List T):FE (FU one a b)≤a.length+b.length:=by
 have:=Zs one a b (YA (LC a b)) 0 0 [] (Qw a b);rw[show FE []=0 from rfl] at this;unfold FU;omega
inductive Xf (one:T→T→E) (A B:List T) (N:Nat):OP→Prop
 |keep (n:Nat) (h:n≤N):Xf one A B N (.mk 0 n [] E0)
 |del (l:List T) (h:l ≠ []) (g:∀ t,t ∈ l→t ∈ A) (k:l.length≤A.length):Xf one A B N (.mk 1 0 l E0)
 |ins (l:List T) (h:l ≠ []) (g:∀ t,t ∈ l→t ∈ B) (k:l.length≤B.length):Xf one A B N (.mk 2 0 l E0)
 |desc (x y:T) (hx:x ∈ A) (hy:y ∈ B):Xf one A B N (.mk 3 0 [] (one x y))
theorem mE {one:T→T→E} {A B A' B':List T} {N:Nat} (hA:∀ t,t ∈ A→t ∈ A') (hB:∀ t,t ∈ B→t ∈ B') (lA:A.length≤A'.length) (lB:B.length≤B'.length) {o:OP} (h:Xf one A B N o):Xf one A' B' N o:=by
 cases h with
 |keep n h=>exact .keep n h
 |del l h g k=>exact .del l h (fun t ht=>hA t (g t ht)) (by omega)
 |ins l h g k=>exact .ins l h (fun t ht=>hB t (g t ht)) (by omega)
 |desc x y hx hy=>exact .desc x y (hA x hx) (hB y hy)
theorem V4 {one:T→T→E} {A B l:List T} {N:Nat} (h:∀ t,t ∈ l→t ∈ A) (hl:l.length≤A.length):∀ o,o ∈ DE l→Xf one A B N o:=by
 intro o ho;unfold DE at ho;split at ho
 ·simp at ho
 ·rename_i hne;simp at ho;subst ho;exact .del l hne h hl
theorem WQ {one:T→T→E} {A B l:List T} {N:Nat} (h:∀ t,t ∈ l→t ∈ B) (hl:l.length≤B.length):∀ o,o ∈ B7 l→Xf one A B N o:=by
 intro o ho;unfold B7 at ho;split at ho
 ·simp at ho
 ·rename_i hne;simp at ho;subst ho;exact .ins l hne h hl
theorem YC (one:T→T→E) (a b:List T) (N:Nat):∀ (P:List Sc) (i j:Nat) (out:List OP),Y7 a.length b.length i j P→(∀ o,o ∈ out→Xf one a b N o)→∀ o,o ∈ GI one a b P i j out→Xf one a b N o
 |[],i,j,out,h,g=>by
  intro o ho;rw[GI] at ho;rcases List.mem_append.1 ho with ho | ho
  ·rcases List.mem_append.1 ho with ho | ho
   ·exact g o ho
   ·exact V4 (fun t ht=>QL ht) (by simp) o ho
  ·exact WQ (fun t ht=>QL ht) (by simp) o ho
 |x::P,i,j,out,h,g=>by
  obtain⟨k1,k2,k3,k4,k5⟩:=h;rw[GI];refine YC one a b N P _ _ _ k5 fun o ho=>?_;rcases List.mem_append.1 ho with ho | ho
  ·rcases List.mem_append.1 ho with ho | ho
   ·rcases List.mem_append.1 ho with ho | ho
    ·exact g o ho
    ·exact V4 (fun t ht=>OB (QL ht)) (by simp;omega) o ho
   ·exact WQ (fun t ht=>OB (QL ht)) (by simp;omega) o ho
  ·rw[List.mem_singleton] at ho;subst ho;have e1:a.getD x.i T0=a[x.i]:=by simp[k3]
   have e2:b.getD x.j T0=b[x.j]:=by simp[k4]
   rw[e1,e2];exact .desc _ _ (C5 k3) (C5 k4)
theorem ZF (one:T→T→E) (a b:List T) (N:Nat):∀ o,o ∈ FU one a b→Xf one a b N o:=YC one a b N _ 0 0 [] (Qw a b) (by simp)
theorem IH {gap:List T→List T→List OP} {I:List T→List T→List OP→Prop} {S0:List Sp} (h0:∀ s,s ∈ S0→∀ a b out,I a b out→I (a.drop s.n) (b.drop s.n) (out++[.mk 0 s.n [] E0])) (h1:∀ n a b out,I a b out→I (a.drop n) b (out++DE (a.take n))) (h2:∀ n a b out,I a b out→I a (b.drop n) (out++B7 (b.take n))) (h3:∀ n m a b out,I a b out→I (a.drop n) (b.drop m) (out++gap (a.take n) (b.take m))):∀ (S:List Sp) (a b:List T) (out:List OP),(∀ s,s ∈ S→s ∈ S0)→I a b out→∃ a' b',I a' b' (Cv gap S a b out)
 |[],a,b,out,hS,h=>⟨a,b,by rw[Cv];exact h⟩
 |[s],a,b,out,hS,h=>by
  have hs:=hS s (by simp);rw[Cv];split
  ·exact⟨_,_,h0 s hs a b out h⟩
  ·split
   ·exact⟨_,_,h2 s.n a b out h⟩
   ·exact⟨_,_,h1 s.n a b out h⟩
 |s::s2::ss,a,b,out,hS,h=>by
  have hs:=hS s (by simp);have hS1:∀ x,x ∈ s2::ss→x ∈ S0:=fun x hx=>hS x (List.mem_cons_of_mem _ hx);have hS2:∀ x,x ∈ ss→x ∈ S0:=fun x hx=>hS1 x (List.mem_cons_of_mem _ hx);rw[Cv];split
  ·exact IH h0 h1 h2 h3 (s2::ss) _ _ _ hS1 (h0 s hs a b out h)
  ·split
   ·exact IH h0 h1 h2 h3 (s2::ss) _ _ _ hS1 (h2 s.n a b out h)
   ·split
    ·exact IH h0 h1 h2 h3 ss _ _ _ hS2 (h3 s.n s2.n a b out h)
    ·exact IH h0 h1 h2 h3 (s2::ss) _ _ _ hS1 (h1 s.n a b out h)
theorem kS {gap:List T→List T→List OP} (hg:∀ x y,FE (gap x y)≤x.length+y.length) (S:List Sp) (a b:List T):FE (Cv gap S a b [])≤a.length+b.length:=by
 obtain⟨a',b',h⟩:=IH (gap:=gap) (S0:=S) (I:=fun a' b' out=>FE out+a'.length+b'.length≤a.length+b.length) (fun s hs a b out h=>by
  rw[Gx,show FE [OP.mk 0 (s.n:Nat) [] E0]=0 from rfl,List.length_drop,List.length_drop];omega) (fun n a b out h=>by
  rw[Gx,P2,List.length_drop,List.length_take];omega) (fun n a b out h=>by
  rw[Gx,PR,List.length_drop,List.length_take];omega) (fun n m a b out h=>by
  have:=hg (a.take n) (b.take m);rw[List.length_take,List.length_take] at this;rw[Gx,List.length_drop,List.length_drop];omega) S a b [] (fun s hs=>hs) (by rw[show FE []=0 from rfl];omega)
 omega
theorem jN {one:T→T→E} {gap:List T→List T→List OP} {N:Nat} (hg:∀ x y,∀ o,o ∈ gap x y→Xf one x y N o) (S:List Sp) (hS:∀ s,s ∈ S→s.n≤N) (a b:List T):∀ o,o ∈ Cv gap S a b []→Xf one a b N o:=by
 have app:∀ {out l:List OP},(∀ o,o ∈ out→Xf one a b N o)→(∀ o,o ∈ l→Xf one a b N o)→∀ o,o ∈ out++l→Xf one a b N o:=fun h1 h2 o ho=>by
  rcases List.mem_append.1 ho with ho | ho
  ·exact h1 o ho
  ·exact h2 o ho
 have dr:∀ {x y:List T} (n:Nat),((∀ t,t ∈ x→t ∈ y)∧x.length≤y.length)→(∀ t,t ∈ x.drop n→t ∈ y)∧(x.drop n).length≤y.length:=fun n h=>⟨fun t ht=>h.1 t (QL ht),by rw[List.length_drop];omega⟩;have tk:∀ {x y:List T} (n:Nat),((∀ t,t ∈ x→t ∈ y)∧x.length≤y.length)→(∀ t,t ∈ x.take n→t ∈ y)∧(x.take n).length≤y.length:=fun n h=>⟨fun t ht=>h.1 t (OB ht),by rw[List.length_take];omega⟩;obtain⟨a',b',_,_,h⟩:=IH (gap:=gap) (S0:=S) (I:=fun a' b' out=>((∀ t,t ∈ a'→t ∈ a)∧a'.length≤a.length)∧((∀ t,t ∈ b'→t ∈ b)∧b'.length≤b.length)∧∀ o,o ∈ out→Xf one a b N o) (fun s hs x y out h=>⟨dr _ h.1,dr _ h.2.1,app h.2.2 fun o ho=>by
   simp at ho;subst ho;exact .keep s.n (hS s hs)⟩) (fun n x y out h=>⟨dr _ h.1,h.2.1,app h.2.2 (V4 (tk n h.1).1 (tk n h.1).2)⟩) (fun n x y out h=>⟨h.1,dr _ h.2.1,app h.2.2 (WQ (tk n h.2.1).1 (tk n h.2.1).2)⟩) (fun n m x y out h=>⟨dr _ h.1,dr _ h.2.1,app h.2.2 fun o ho=>mE (tk n h.1).1 (tk m h.2.1).1 (tk n h.1).2 (tk m h.2.1).2 (hg _ _ o ho)⟩) S a b [] (fun s hs=>hs) ⟨⟨fun t ht=>ht,Cj _⟩,⟨fun t ht=>ht,Cj _⟩,by simp⟩
 exact h
theorem L5 {gap:List T→List T→List OP} (hg:∀ x y,(gap x y).length≤50):∀ (S:List Sp) (a b:List T) (out:List OP),(Cv gap S a b out).length≤out.length+50*S.length
 |[],a,b,out=>by rw[Cv];omega
 |[s],a,b,out=>by
  have d1:(DE (a.take s.n)).length≤1:=by unfold DE;split<;>simp
  have d2:(B7 (b.take s.n)).length≤1:=by unfold B7;split<;>simp
  rw[Cv];split
  ·simp
  ·split<;>(rw[List.length_append];simp only[List.length_cons,List.length_nil];omega)
 |s::s2::ss,a,b,out=>by
  have d1:(DE (a.take s.n)).length≤1:=by unfold DE;split<;>simp
  have d2:(B7 (b.take s.n)).length≤1:=by unfold B7;split<;>simp
  rw[Cv];split
  ·have:=L5 hg (s2::ss) (a.drop s.n) (b.drop s.n) (out++[.mk 0 s.n [] E0]);simp only[List.length_append,List.length_cons,List.length_nil] at this ⊢;omega
  ·split
   ·have:=L5 hg (s2::ss) a (b.drop s.n) (out++B7 (b.take s.n));simp only[List.length_append,List.length_cons,List.length_nil] at this ⊢;omega
   ·split
    ·have:=L5 hg ss (a.drop s.n) (b.drop s2.n) (out++gap (a.take s.n) (b.take s2.n));have:=hg (a.take s.n) (b.take s2.n);simp only[List.length_append,List.length_cons,List.length_nil] at this ⊢;simp only[List.length_append] at *;omega
    ·have:=L5 hg (s2::ss) (a.drop s.n) b (out++DE (a.take s.n));simp only[List.length_append,List.length_cons,List.length_nil] at this ⊢;omega
noncomputable def OO (one:T→T→E) (most:Int) (a b:T):List OP:=if (CH (Ru a) (RP a b):Int)≤most then Cv (FU one) (JD (FH (Ru a) (RP a b))) a.kids b.kids [] else FU one a.kids b.kids
theorem Pd (one:T→T→E) (most:Int) (a b:T):OD one most a b = .mk 3 T0 T0 [] [] a.kind (OO one most a b):=rfl
theorem di (a:T):(Ru a).length=a.kids.length:=by simp[Ru,pj,ES]
theorem fh (a b:T):(RP a b).length=b.kids.length:=by simp[RP,pj,ES]
theorem Ra:∀ {l:List Sp} {s:Sp},s ∈ l→s.k ≠ 2→s.n≤dA (Bb l)
 |x::l,s,h,hk=>by
  rw[Bl,GC,G9];rcases List.mem_cons.1 h with rfl | h
  ·rw[if_neg hk];omega
  ·have:=Ra h hk;omega
theorem Pe:∀ {l:List Sp} {s:Sp},s ∈ l→s.k ≠ 1→s.n≤dB (Bb l)
 |x::l,s,h,hk=>by
  rw[Bl,Gr,GX];rcases List.mem_cons.1 h with rfl | h
  ·rw[if_neg hk];omega
  ·have:=Pe h hk;omega
theorem Aak (a b:T) {s:Sp} (h:s ∈ JD (FH (Ru a) (RP a b))):s.n≤a.kids.length+b.kids.length:=by
 have wd:=cq (Ru a) (RP a b);have wi:=RU (Ru a) (RP a b);have wn:=WT _ wi;rw[di,fh] at wd;by_cases hk:s.k=2
 ·have:=Pe h (by omega);omega
 ·have:=Ra h hk;omega
theorem Y6 (one:T→T→E) (most:Int) (a b:T):∀ o,o ∈ OO one most a b→Xf one a.kids b.kids (a.kids.length+b.kids.length) o:=by
 unfold OO;split
 ·exact jN (fun x y=>ZF one x y _) _ (fun s hs=>Aak a b hs) _ _
 ·exact ZF one _ _ _
theorem kR (one:T→T→E) (most:Int) (a b:T):FE (OO one most a b)≤a.kids.length+b.kids.length:=by
 unfold OO;split
 ·exact kS (fun x y=>Ym one x y) _ _ _
 ·exact Ym one _ _
theorem YP (one:T→T→E) (most:Int) (a b:T):(OO one most a b).length≤50*(a.kids.length+b.kids.length)+50:=by
 unfold OO;split
 ·have wd:=cq (Ru a) (RP a b);have wi:=RU (Ru a) (RP a b);have wn:=WT _ wi;have:=Mr _ (U3 wi);have h:=L5 (Tw one) (JD (FH (Ru a) (RP a b))) a.kids b.kids [];rw[di,fh] at wd;simp only[List.length_nil] at h;omega
 ·have:=Tw one a.kids b.kids;omega
theorem ey:∀ {l:List KE},(∀ x,x ∈ l→TI x.e)→bV l
 |[],_=>by rw[bV];trivial
 |.mk a e::l,h=>by
  rw[bV];exact⟨h _ (List.mem_cons_self ..),ey fun x hx=>h x (List.mem_cons_of_mem _ hx)⟩
theorem dx:∀ {l:List OP},(∀ x,x ∈ l→(x.kind=0∨x.kind=1∨x.kind=2∨x.kind=3)∧(∀ t,t ∈ x.l→AK t)∧(x.kind=3→TI x.e))→bG l
 |[],_=>by rw[bG];trivial
 |.mk k n t e::l,h=>by
  rw[bG];exact⟨h _ (List.mem_cons_self ..),dx fun x hx=>h x (List.mem_cons_of_mem _ hx)⟩
theorem jL:TI E0:=by
 unfold E0;rw[TI];exact⟨.inl rfl,fun _=>rfl,fun h=>absurd h (by decide),by simp,by simp,by simp,by simp[FE],fun h=>absurd h (by decide),fun h=>absurd h (by decide)⟩
theorem cY {a b:T} (ha:AK a) (hb:AK b):TI (.mk 1 a b [] [] 0 []):=by
 rw[TI];exact⟨.inr (.inl rfl),fun _=>rfl,fun _=>⟨ha,hb⟩,by simp,by simp,by simp,by simp[FE],fun h=>absurd h (by decide),fun h=>absurd h (by decide)⟩
theorem R7 {one:T→T→E} {a b:T} {m:Nat} {x:KE} (h:x ∈ Cq one a b m):∃ i:Nat,i<m∧x = .mk i (one (a.kids.getD i T0) (b.kids.getD i T0))∧(one (a.kids.getD i T0) (b.kids.getD i T0)).kind ≠ 0:=by
 unfold Cq at h;rw[List.mem_filterMap] at h;obtain⟨i,hi,e⟩:=h;split at e
 ·cases e
 ·rename_i hk;simp only[Option.some.injEq] at e;exact⟨i,by simpa using hi,e.symm,hk⟩
theorem rF {one:T→T→E} {a b:T} (ha:a.words.length≤1000) (hb:b.words.length≤1000) (ha2:a.kids.length≤1000) (hb2:b.kids.length≤1000) (h:∀ i,TI (one (a.kids.getD i T0) (b.kids.getD i T0))):TI (XU one a b):=by
 have h1:=Oo a b (max a.words.length b.words.length);have h2:=KH one a b (max a.kids.length b.kids.length);unfold XU;rw[TI];refine⟨.inr (.inr (.inl rfl)),fun _=>rfl,fun h=>absurd h (by decide),by omega,by omega,by simp,by simp[FE],fun _=>ey fun x hx=>?_,fun h=>absurd h (by decide)⟩;obtain⟨i,_,e,_⟩:=R7 hx;subst e;exact h i
theorem ln {one:T→T→E} {most:Int} {a b:T} (ha:a.kids.length≤1000) (hb:b.kids.length≤1000) (wa:∀ t,t ∈ a.kids→AK t) (wb:∀ t,t ∈ b.kids→AK t) (h:∀ x,x ∈ a.kids→∀ y,y ∈ b.kids→TI (one x y)):TI (OD one most a b):=by
 have h1:=YP one most a b;have h2:=kR one most a b;rw[Pd,TI];refine⟨.inr (.inr (.inr rfl)),fun h=>absurd rfl h,fun h=>absurd h (by decide),by simp,by simp,by omega,by omega,fun h=>absurd h (by decide),fun _=>dx fun x hx=>?_⟩;cases Y6 one most a b x hx with
 |keep n h=>exact⟨.inl rfl,fun t (ht:t ∈ ([]:List T))=>by simp at ht,fun h=>absurd h (by show ¬ (0:Int)=3;decide)⟩
 |del l h g k=>exact⟨.inr (.inl rfl),fun t ht=>wa t (g t ht),fun h=>absurd h (by show ¬ (1:Int)=3;decide)⟩
 |ins l h g k=>exact⟨.inr (.inr (.inl rfl)),fun t ht=>wb t (g t ht),fun h=>absurd h (by show ¬ (2:Int)=3;decide)⟩
 |desc p q hp hq=>exact⟨.inr (.inr (.inr rfl)),fun t (ht:t ∈ ([]:List T))=>by simp at ht,fun _=>h p hp q hq⟩
theorem Rv (most:Int):∀ (f g:Nat) (a b:T),Rs f a→Rs g b→TI (DP most f a b)
 |0,g,a,b,ha,hb=>by
  rw[DP];split
  ·exact jL
  ·exact cY (AV ha).1 (AV hb).1
 |f+1,g,a,b,ha,hb=>by
  obtain⟨a1,a2,a3,a4⟩:=AV ha;obtain⟨b1,b2,b3,b4⟩:=AV hb;rw[DP];split
  ·exact jL
  ·split
   ·exact rF a3 b3 a4 b4 fun i=>Rv most f (g-1) _ _ (JI ha i) (JI hb i)
   ·split
    ·exact ln a4 b4 (fun t ht=>(AV (BI ha t ht)).1) (fun t ht=>(AV (BI hb t ht)).1) fun x hx y hy=>Rv most f (g-1) x y (BI ha x hx) (BI hb y hy)
    ·exact cY a1 b1
theorem Tk {l:List T} {t:T} (h:t ∈ l):Bc t≤B4 l:=by
 induction l with
 |nil=>simp at h
 |cons x l ih=>
  rw[Cz];have hp:=GW x;have hl:=Ir l;rcases List.mem_cons.1 h with rfl | h
  ·omega
  ·have:=ih h;omega
theorem Ee:∀ (t:T),AK t→Bc t≤1000→∀ f:Nat,Bc t≤f→Rs f (Ag t):=by
 refine T.ind fun k w l ih hw hp f hf=>?_;rw[Fb] at hp hf;have hl:=Ir l;have hks:=(wfT_iff.1 hw).ks;cases f with
 |zero=>omega
 |succ f=>
  have hk:∀ t,t ∈ l→Rs f (Ag t):=fun t ht=>by
   have:=Tk ht;exact ih t ht (hks t ht) (by omega) f (by omega)
  rw[Rs];refine .inr ⟨CQ _ hw,Es _,?_,?_,?_⟩
  ·rw[Ci];split
   ·simp
   ·split
    ·have:=J7 w;show(C4 w).length≤1000;omega
    ·show w.length≤1000;omega
  ·rw[Ci];split
   ·simp
   ·split
    ·have:=JT (l.map Ag);rw[List.length_map] at this;show(Cy (l.map Ag)).length≤1000;omega
    ·show(l.map Ag).length≤1000;rw[List.length_map];omega
  ·intro x hx;have hx':x ∈ l.map Ag:=by
    rw[Ci] at hx;split at hx
    ·simp at hx
    ·split at hx
     ·have hx2:x ∈ Cy (l.map Ag):=hx;rw[IQ] at hx2;exact OB hx2
     ·exact hx
   obtain⟨t,ht,rfl⟩:=List.mem_map.1 hx';exact hk t ht
noncomputable def VJ (most:Int) (a b:T):E:=JP (DP most 1000 (Ag a) (Ag b))
theorem QE {a b:T} (ha:AK a) (hb:AK b) (pa:Bc a≤1000) (pb:Bc b≤1000) {most:Int} (hm:BN most):G.Spec Tryz.prog 26 [tX a,tX b,iv most] (eX (VJ most a b)):=by
 have oa:=Ee a ha pa 1000 pa;have ob:=Ee b hb pb 1000 pb;have h1:=Qx hm 1000 1000 _ _ oa ob;have h2:=bz _ (Rv most 1000 1000 _ _ oa ob);refine Al XB (by simp) fun w0 I0=>?_;unfold Pa;simp;refine Af (C8 a ha) (by simp) ?_;simp;refine Af (C8 b hb) (by simp) ?_;simp;refine Af h1 (by simp) ?_;simp;refine Af h2 (by simp) ?_;simp;exact Ad (by simp)
def G6 (t:T):Bool:=decide (0≤DF 70 400 t)&&Cr 64 t&&decide (t.kind ≠ 10)
theorem Lp {t:T} (h:AK t):G.Spec Tryz.prog 39 [tX t] (bv (G6 t)):=by
 refine Al OC (by simp) fun w0 I0=>?_;unfold Jk;simp;refine Af (WA t h 70 400 (by omega) (by omega) (by omega)) (by simp) ?_;unfold G6;by_cases hs:0≤DF 70 400 t
 ·simp[hs];refine Dy rfl (fun _=>Yt t h 64 (by omega)) (fun _=>by simp) (by simp) ?_;cases hr:Cr 64 t with
  |true=>
   simp;exact HN rfl (by simp)
  |false=>
   simp;exact HN rfl (by simp)
 ·simp[hs];refine Bv rfl ?_;simp;exact HN rfl (by simp)
theorem WS {t:T} (h:G6 t=true):Bc t≤400∧Cr 64 t=true∧t.kind ≠ 10:=by
 unfold G6 at h;simp only[Bool.and_eq_true,decide_eq_true_eq] at h;obtain⟨⟨h1,h2⟩,h3⟩:=h;have:=Ul t 70 400 h1;exact⟨by omega,h2,h3⟩
theorem D8:Pn E0:=wfE_iff.2 ⟨by simp[BN],by simp[BN],E8,E8,by simp,by simp,by simp,by simp,by simp,by simp⟩
theorem NA {n:Int} (h1:-1000000000≤n) (h2:n≤1000000000):BN n:=⟨by omega,by omega⟩
theorem pG {i:Nat} (hi:i≤1000000) (a b:Int):WE.wf (Wa i a b):=
 ⟨NA (by show(-1000000000:Int)≤i;omega) (by show(i:Int)≤1000000000;omega),Ws a b,Fk _ _ _,Fk _ _ _⟩
theorem n8 {one:T→T→E} {a b:T} (ha:a.words.length≤1000) (hb:b.words.length≤1000) (ha2:a.kids.length≤1000) (hb2:b.kids.length≤1000) (h:∀ i,Pn (one (a.kids.getD i T0) (b.kids.getD i T0))):Pn (XU one a b):=by
 have h1:=Oo a b (max a.words.length b.words.length);have h2:=KH one a b (max a.kids.length b.kids.length);unfold XU;refine wfE_iff.2 ⟨by simp[BN],by simp[BN],E8,E8,fun x hx=>?_,by show(Hv a b _).length*32≤_;omega,by show(Cq one a b _).length*208≤_;omega,by simp,fun x hx=>?_,by simp⟩
 ·have hx':x ∈ Hv a b (max a.words.length b.words.length):=hx;unfold Hv at hx';rw[List.mem_filterMap] at hx';obtain⟨i,hi,e⟩:=hx';split at e
  ·cases e
  ·simp only[Option.some.injEq] at e;subst e;have:i<max a.words.length b.words.length:=by simpa using hi
   exact pG (by omega) _ _
 ·obtain⟨i,hi,e,_⟩:=R7 (show x ∈ Cq one a b _ from hx);subst e;exact⟨NA (by show(-1000000000:Int)≤i;omega) (by show(i:Int)≤1000000000;omega),h i⟩
theorem rS {one:T→T→E} {A B:List T} {N:Nat} (hN:N≤1000000) (lA:A.length≤1000000) (lB:B.length≤1000000) (hA:∀ t,t ∈ A→AK t) (hB:∀ t,t ∈ B→AK t) (h1:∀ x,x ∈ A→∀ y,y ∈ B→Pn (one x y)) {o:OP} (h:Xf one A B N o):pn o:=by
 cases h with
 |keep n h=>exact⟨by simp[BN],NA (by show(-1000000000:Int)≤n;omega) (by show(n:Int)≤1000000000;omega),by simp,by simp,D8⟩
 |del l h g k=>exact⟨by simp[BN],by simp[BN],fun t ht=>hA t (g t ht),by show l.length*56≤_;omega,D8⟩
 |ins l h g k=>exact⟨by simp[BN],by simp[BN],fun t ht=>hB t (g t ht),by show l.length*56≤_;omega,D8⟩
 |desc x y hx hy=>exact⟨by simp[BN],by simp[BN],by simp,by simp,h1 x hx y hy⟩
theorem Tu {a b:T} (ha:AK a) (hb:AK b):Pn (.mk 1 a b [] [] 0 []):=wfE_iff.2 ⟨by simp[BN],by simp[BN],ha,hb,by simp,by simp,by simp,by simp,by simp,by simp⟩
theorem ik {one:T→T→E} {most:Int} {a b:T} (wfa:AK a) (ha:a.kids.length≤1000) (hb:b.kids.length≤1000) (wa:∀ t,t ∈ a.kids→AK t) (wb:∀ t,t ∈ b.kids→AK t) (h:∀ x,x ∈ a.kids→∀ y,y ∈ b.kids→Pn (one x y)):Pn (OD one most a b):=by
 have h1:=YP one most a b;rw[Pd];exact wfE_iff.2 ⟨by simp[BN],(wfT_iff.1 wfa).k,E8,E8,by simp,by simp,by simp,by show(OO one most a b).length*240≤_;omega,by simp,fun x hx=>rS (by omega) (by omega) (by omega) wa wb h (Y6 one most a b x hx)⟩
theorem TB (most:Int):∀ (f g:Nat) (a b:T),Rs f a→Rs g b→Pn (DP most f a b)
 |0,g,a,b,ha,hb=>by
  rw[DP];split
  ·exact D8
  ·exact Tu (AV ha).1 (AV hb).1
 |f+1,g,a,b,ha,hb=>by
  obtain⟨a1,a2,a3,a4⟩:=AV ha;obtain⟨b1,b2,b3,b4⟩:=AV hb;rw[DP];split
  ·exact D8
  ·split
   ·exact n8 a3 b3 a4 b4 fun i=>TB most f (g-1) _ _ (JI ha i) (JI hb i)
   ·split
    ·exact ik a1 a4 b4 (fun t ht=>(AV (BI ha t ht)).1) (fun t ht=>(AV (BI hb t ht)).1) fun x hx y hy=>TB most f (g-1) x y (BI ha x hx) (BI hb y hy)
    ·exact Tu a1 b1
theorem ir (n:Int):BN (i64.wrap n):=by
 rw[IntKind.wrap_i64];exact⟨by omega,by omega⟩
theorem nf {out:List OP} {n:Int} (h:∀ o,o ∈ out→pn o) (hn:BN n):∀ o,o ∈ RH out n→pn o:=by
 unfold RH;split
 ·rename_i m l e he;intro o ho;have hm:=List.mem_of_getLast? he;rcases List.mem_append.1 ho with ho | ho
  ·exact h o (List.dropLast_subset _ ho)
  ·rw[List.mem_singleton] at ho;subst ho;have:=h _ hm;exact⟨this.k,ir _,this.l,this.ll,this.e⟩
 ·intro o ho;rcases List.mem_append.1 ho with ho | ho
  ·exact h o ho
  ·rw[List.mem_singleton] at ho;subst ho;exact⟨by simp[BN],hn,by simp,by simp,D8⟩
theorem oL {out:List OP} {g b:List T} (h:∀ o,o ∈ out→pn o) (hg:∀ t,t ∈ g→AK t) (hb:∀ t,t ∈ b→AK t) (lg:g.length≤1000000) (lb:b.length≤1000000):∀ o,o ∈ Rz out g b→pn o:=by
 intro o ho;unfold Rz DE B7 at ho;rcases List.mem_append.1 ho with ho | ho
 ·exact h o ho
 ·rcases List.mem_append.1 ho with ho | ho
  ·split at ho
   ·simp at ho
   ·rw[List.mem_singleton] at ho;subst ho;exact⟨by simp[BN],by simp[BN],hg,by show g.length*56≤_;omega,D8⟩
  ·split at ho
   ·simp at ho
   ·rw[List.mem_singleton] at ho;subst ho;exact⟨by simp[BN],by simp[BN],hb,by show b.length*56≤_;omega,D8⟩
def WfS (o:OP):Prop:=BN o.n∧(∀ t,t ∈ o.l→AK t)∧(o.kind=0∨o.kind=1∨o.kind=2∨o.kind=3)∧(o.kind=3→Pn o.e)
theorem Mz (list:Int):∀ (os out:List OP) (g b:List T),(∀ o,o ∈ os→WfS o)→(∀ o,o ∈ out→pn o)→(∀ t,t ∈ g→AK t)→(∀ t,t ∈ b→AK t)→g.length+b.length+FE os≤1000000→∀ o,o ∈ FI list os out g b→pn o
 |[],out,g,b,h1,h2,h3,h4,h5=>by
  rw[FI];exact oL h2 h3 h4 (by omega) (by omega)
 |x::os,out,g,b,h1,h2,h3,h4,h5=>by
  rw[Vs] at h5;have hx:=h1 x (by simp);have hos:∀ o,o ∈ os→WfS o:=fun o ho=>h1 o (List.mem_cons_of_mem _ ho);have fl:=oL h2 h3 h4 (by omega) (by omega);have nn:∀ (l:List T),(∀ t,t ∈ l→AK t)→∀ t,t ∈ l++x.l.map Ag→AK t:=fun l hl t ht=>by
   rcases List.mem_append.1 ht with ht | ht
   ·exact hl t ht
   ·obtain⟨u,hu,rfl⟩:=List.mem_map.1 ht;exact CQ _ (hx.2.1 u hu)
  have z:∀ t:T,t ∈ ([]:List T)→AK t:=by simp
  rw[FI];split
  ·exact Mz list os _ _ _ hos (nf fl hx.1) z z (by simp;omega)
  ·split
   ·exact Mz list os _ _ _ hos h2 (nn g h3) h4 (by simp;omega)
   ·split
    ·exact Mz list os _ _ _ hos h2 h3 (nn b h4) (by simp;omega)
    ·split
     ·exact Mz list os _ _ _ hos (nf fl (by simp[BN])) z z (by simp;omega)
     ·refine Mz list os _ _ _ hos (fun o ho=>?_) z z (by simp;omega);rcases List.mem_append.1 ho with ho | ho
      ·exact fl o ho
      ·rw[List.mem_singleton] at ho;subst ho;exact⟨by simp[BN],by simp[BN],by simp,by simp,hx.2.2.2 (by have:=hx.2.2.1;omega)⟩
theorem r9 (out:List OP) (n:Int):(RH out n).length≤out.length+1:=by
 unfold RH;split
 ·simp
  try omega
 ·simp
theorem fE (out:List OP) (g b:List T):(Rz out g b).length≤out.length+2:=by
 unfold Rz DE B7;split<;>split<;>simp
theorem JZ (list:Int):∀ (os out:List OP) (g b:List T),(FI list os out g b).length≤out.length+3*os.length+2
 |[],out,g,b=>by
  rw[FI];have:=fE out g b;simp;omega
 |x::os,out,g,b=>by
  have h1:=fE out g b;have h2:=r9 (Rz out g b);rw[FI,List.length_cons];split
  ·have:=JZ list os (RH (Rz out g b) x.n) [] [];have:=h2 x.n;omega
  ·split
   ·have:=JZ list os out (g++x.l.map Ag) b;omega
   ·split
    ·have:=JZ list os out g (b++x.l.map Ag);omega
    ·split
     ·have:=JZ list os (RH (Rz out g b) 1) [] [];have:=h2 1;omega
     ·have:=JZ list os (Rz out g b++[.mk 3 0 [] x.e]) [] [];simp at this;omega
theorem kC (os:List OP):FE (os.map Mo)=FE os:=by
 unfold FE;rw[List.map_map];rfl
theorem vx:∀ e:E,Pn e→TI e→Pn (JP e):=by
 refine E.ind fun k o n ws ks l os ihk iho hw h=>?_;rw[TI] at h;obtain⟨hk,hl,hon,hwl,hkl,hol,hsum,hks,hos⟩:=h;have w:=wfE_iff.1 hw;rw[GZ];split
 ·exact Tu (CQ _ w.o) (CQ _ w.n)
 ·split
  ·rename_i h1 h2;refine wfE_iff.2 ⟨by simp[BN],by simp[BN],E8,E8,w.w,w.wl,by show(ks.map Ui).length*208≤_;simp;omega,by simp,fun x hx=>?_,by simp⟩;obtain⟨y,hy,rfl⟩:=List.mem_map.1 (show x ∈ ks.map Ui from hx);have:=w.ks y hy;exact⟨this.1,ihk y hy this.2 (Ub (hks h2) y hy)⟩
  ·split
   ·rename_i h1 h2 h3;have hO:∀ o,o ∈ os.map Mo→WfS o:=fun o ho=>by
     obtain⟨y,hy,rfl⟩:=List.mem_map.1 ho;have g1:=w.os y hy;obtain⟨g2,g3,g4⟩:=SZ (hos h3) y hy;exact⟨g1.n,g3,g2,fun e=>iho y hy g1.e (g4 e)⟩
    have hlen:=JZ l (os.map Mo) [] [] [];simp at hlen;refine wfE_iff.2 ⟨by simp[BN],w.l,E8,E8,by simp,by simp,by simp,by show(FI l (os.map Mo) [] [] []).length*240≤_;omega,by simp,fun x hx=>Mz l _ _ _ _ hO (by simp) (by simp) (by simp) (by rw[kC];simpa using hsum) x hx⟩
   ·exact D8
theorem Ab6 {a b:T} (ha:AK a) (hb:AK b) (pa:Bc a≤1000) (pb:Bc b≤1000) {most:Int}:Pn (VJ most a b):=by
 have oa:=Ee a ha pa 1000 pa;have ob:=Ee b hb pb 1000 pb;exact vx _ (TB most 1000 1000 _ _ oa ob) (Rv most 1000 1000 _ _ oa ob)
theorem nX {out:List OP} {n:Int} (h:∀ m l e,out.getLast? ≠ some (.mk 0 m l e)):RH out n=out++[.mk 0 n [] E0]:=by
 unfold RH;split
 ·rename_i m l e he;exact absurd he (h m l e)
 ·rfl
theorem JW (l:List T):(l.map Ag).map Ag=l.map Ag:=by
 rw[List.map_map];exact List.map_congr_left fun x _=>Es x
theorem Qh:JP E0=E0:=by unfold E0;rw[GZ];simp
end Go.Proofs.YtndnlknocdangaaGreat
