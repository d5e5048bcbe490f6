/-
 Texts,merged,without what is not reached.
-/
import Derived.Test.YtlaapfplenlfaaaGreatKRd
set_option linter.unusedSimpArgs false
set_option linter.unusedVariables false
open Go.IntKind (i64 u64)
namespace Go.Proofs.YtlaapfplenlfaaaGreat
open Go Go.G Go.Proofs Go.PL
def mP(g:Nat->Nat):List A:=[iv (g 0),iv (g 1),iv (g 2)]
def gpF(l:List Sp)(v:Nat)(g:Nat->Nat):Fam:=⟨fun r p=>if p=[]then ⟨1,.cells [.osl (r::[0]) v 2 0 l.length]⟩else if p=[0]then ⟨v,.arr 2 (l.map Fm)⟩else if p=[1]then ⟨1,.cells (mP g)⟩else ⟨0,.none⟩,fun {γ δ r r'} hg hd p=>by
  by_cases h1:p=[]
  ·rw[if_pos h1,if_pos h1];refine Fam.cells_ren ?_;simp[A.renL,A.ren,hg,hd]
  ·rw[if_neg h1,if_neg h1];by_cases h2:p=[0]
   ·rw[if_pos h2];refine Fam.arr_ren ?_;have e:∀x:Sp,(Fm x).ren γ δ=Fm x:=fun x=>by simp[Fm,JD,A.ren,A.renL]
    simp only[C0,List.map_map];refine List.map_congr_left fun x _=>?_;exact e x
   ·rw[if_neg h2];by_cases h3:p=[1]
    ·rw[if_pos h3];refine Fam.cells_ren ?_;simp[A.renL,A.ren,mP]
    ·rw[if_neg h3];rfl,fun {D r} hD p=>by
  by_cases h1:p=[]
  ·rw[if_pos h1];simp[Ob.refs,A.refsL,A.refs,hD]
  ·rw[if_neg h1];by_cases h2:p=[0]
   ·rw[if_pos h2];simp only[Ob.refs,refsL_iff];intro y hy;obtain⟨x,_,rfl⟩:=List.mem_map.1 hy;simp[A.refs,A.refsL,Fm,JD]
   ·rw[if_neg h2];by_cases h3:p=[1]
    ·rw[if_pos h3];simp[Ob.refs,A.refsL,A.refs,mP]
    ·rw[if_neg h3];trivial⟩
@[simp]theorem Am9{l:List Sp}{v r:Nat}{g:Nat->Nat}{p:Nm}:(gpF l v g).F r p=if p=[]then ⟨1,.cells [.osl (r::[0]) v 2 0 l.length]⟩else if p=[0]then ⟨v,.arr 2 (l.map Fm)⟩else if p=[1]then ⟨1,.cells (mP g)⟩else ⟨0,.none⟩:=rfl
def Wi:List Nat->(Nat->Nat)->List Sp
 |[],_=>[]
 |k::ks,g=>fl k (g k)++Wi ks (fun q=>if q=k then 0 else g q)
def Tk:List Nat->(Nat->Nat)->Nat->Nat
 |[],g=>g
 |k::ks,g=>Tk ks (fun q=>if q=k then 0 else g q)
abbrev nvs(ks:List Nat):A:=.sl true (ks.map fun k:Nat=>iv (k:Int))
theorem mY(s:Sp):G.Spec Tryz.prog 159 [Fm s] (bv (decide (s.k<=2/\1<=s.n/\s.n<=1048576))):=by
 refine Aj Q8 iS fun w0 I0=>?_;rw[Ao Kt.eq_1];have m0:(0:Int)<=(s.k:Int):=oF
 by_cases h1:s.k<=2
 ·by_cases h2:1<=s.n
  ·by_cases h3:s.n<=1048576
   ·simp[Fm,JD,m0,h1,h2,h3,show(s.k:Int)<=2 by omega,show(1:Int)<=s.n by omega,show(s.n:Int)<=1048576 by omega];exact Ad rfl
   ·simp[Fm,JD,m0,h1,h2,h3,show(s.k:Int)<=2 by omega,show(1:Int)<=s.n by omega,show ¬(s.n:Int)<=1048576 by omega];exact Ad rfl
  ·simp[Fm,JD,m0,h1,h2,show(s.k:Int)<=2 by omega,show ¬(1:Int)<=s.n by omega];exact BJ iS
 ·simp[Fm,JD,m0,h1,show ¬(s.k:Int)<=2 by omega];exact Ad rfl
variable {n0:Nat} {w0:World} {I0:Nat->Prop} {M0:Nm->Nat->Prop} {m0:Mu} {Q:Exit->Sta->Prop}
theorem v9{ks:List Nat}(hks:∀k,k∈ks->k<=2)(hkl:ks.length<=1000){l0:List Sp}{v0:Nat}{g0:Nat->Nat}(hq:∀H' st,(∀p,H' (0::p)=(gpF (l0++Wi ks g0) (v0+(Wi ks g0).length) (Tk ks g0)).F 0 p)->Q (.exit 0) ⟨lk st,H'⟩):∀(m j:Nat)(l:List Sp)(v:Nat)(g:Nat->Nat)(H:Hp),j+m=ks.length->l.length+m<=100000000->(∀p,H (0::p)=(gpF l v g).F 0 p)->l0++Wi ks g0=l++Wi (ks.drop j) g->v0+(Wi ks g0).length=v+(Wi (ks.drop j) g).length->Tk ks g0=Tk (ks.drop j) g ->
  LoopC (En Tryz.prog w0 I0 M0 n0 m0) FZ Q ⟨lk [(1,.pob [0,1] 1 0),(2,.pob [0] 1 0),(6,nvs ks),(7,iv ks.length),(8,iv j)],H⟩:=by
 intro m;induction m with
 |zero=>
  intro j l v g H hm hl hH e1 e2 e3;refine Ab Ah (Ao FZ.eq_1) ?_;have:j=ks.length:=oF
  subst this;rw[List.drop_length]at e1 e2 e3;simp;refine hq H _ fun p=>?_;rw[e1,e2,e3,hH];simp[Wi,Tk]
 |succ m ih=>
  intro j l v g H hm hl hH e1 e2 e3;have hlt:j<ks.length:=oF
  have ew:=Ap j;have hd:ks.drop j=ks[j]::ks.drop (j+1):=(List.getElem_cons_drop hlt).symm;rw[hd]at e1 e2 e3;have hk:=hks _ (Bv hlt);generalize hkk:ks[j]=k at *;simp only[Wi,Tk]at e1 e2 e3;have hH0:=hH [];have hH1:=hH [0];have hH2:=hH [1];simp at hH0 hH1 hH2;refine Ab Ah (Ao FZ.eq_1) ?_;have hk3:k=0\/k=1\/k=2:=oF
  by_cases h:0<g k
  ·rw[MX h]at e1 e2;have next:=fun (H':Hp) hF=>ih (j+1) (l++[⟨k,g k⟩]) (v+1) (fun q=>if q=k then 0 else g q) H' oF (by simp;omega) hF (by rw[e1];simp) (by rw[e2];simp;omega) e3
   rcases hk3 with rfl|rfl|rfl;all_goals
    simp[hlt,hkk,hH0,hH1,hH2,mP,h,ew,Aa,qP];refine⟨oF,?_⟩;refine next _ (fun p=>?_)
    by_cases h1:p=[]
    ·subst h1;simp[Aa]
    ·by_cases h2:p=[0]
     ·subst h2;simp[Aa,Fm,JD,Ax]
     ·by_cases h3:p=[1]
      ·subst h3;simp[Aa,mP]
      ·simp[h1,h2,h3,Aa,hH]
  ·have h0:g k=0:=oF
   rw[h0]at e1 e2;rcases hk3 with rfl|rfl|rfl;all_goals
    simp[hlt,hkk,hH0,hH1,hH2,mP,h0,ew,Aa];refine ih (j+1) l v _ _ oF oF (fun p=>?_) (by rw[e1];simp) (by rw[e2];simp) e3;by_cases h1:p=[]
    ·subst h1;simp[Aa,hH0]
    ·by_cases h2:p=[0]
     ·subst h2;simp[Aa,hH1]
     ·by_cases h3:p=[1]
      ·subst h3;simp[Aa,mP]
      ·simp[h1,h2,h3,Aa,hH]
theorem Oh{ks:List Nat}(hks:∀k,k∈ks->k<=2)(hkl:ks.length<=1000)(l:List Sp)(v:Nat)(g:Nat->Nat)(hl:l.length<=10000000):SpecF Tryz.prog 158 (fun r=>[nvs ks,.pob (r::[1]) 1 0,.pob [r] 1 0]) (gpF l v g) (fun _=>.tup []) (gpF (l++Wi ks g) (v+(Wi ks g).length) (Tk ks g)):=by
 refine Az UY iS (Af Bp (Af AB (Af AB Ak))) (Bj Ak) fun w0 I0 M0 m0=>?_;rw[BG Mo.eq_1];simp;refine LoopC.le (Al [(1,.pob [0,1] 1 0),(2,.pob [0] 1 0),(6,nvs ks),(7,iv ks.length),(8,iv (0:Nat))] iS) ?_;refine v9 hks hkl (l0:=l) (v0:=v) (g0:=g) (fun H' st hH=>?_) ks.length 0 l v g _ oF oF (fun p=>iS) iS iS iS;simp;exact Bg rfl rfl hH
abbrev zp:A:=.fnc 158 [] [.pob [0,1] 1 0,.pob [0] 1 0]
abbrev Sk(l:List Sp):A:=.sl false (l.map Fm)
theorem Abh(g:Nat->Nat):Rd [] (g 0) (g 1) (g 2)=Wi [0,1,2] g:=by simp[Rd,Wi]
theorem XC(ks:List Nat)(g:Nat->Nat):(Wi ks g).length<=ks.length:=by
 induction ks generalizing g with
 |nil=>simp[Wi]
 |cons k ks ih=>
  have:=ih (fun q=>if q=k then 0 else g q);have:=Fy k (g k);simp[Wi];omega
theorem eE:∀(ks:List Nat)(g:Nat->Nat)(B q:Nat),(∀q,g q<=B)->Tk ks g q<=B
 |[],g,B,q,h=>h q
 |k::ks,g,B,q,h=>eE ks _ B q fun q=>by
  show(if q=k then 0 else g q)<=B;split
  ·omega
  ·exact h q
theorem zS{n0:Nat}{w0:World}{I0:Nat->Prop}{Q:Exit->Sta->Prop}{all:List Sp}(hok:∀s,s∈all->s.may)(hal:all.length<=1000000){R:List Sp}
  (hq:∀(H':Hp)(out:List Sp)(v:Nat)(g:Nat->Nat) st,(∀p,H' (0::p)=(gpF out v g).F 0 p)->out++Wi [0,1,2] g=R->out.length<=2000000->Q (.exit 0) ⟨lk ([(3,.pob [0] 1 0),(4,.pob [0,1] 1 0),(5,zp)]++st),H'⟩):∀(m i:Nat)(out:List Sp)(v:Nat)(g:Nat->Nat)(H:Hp),i+m=all.length->out.length<=2*i->(∀q,g q<=i*1048576)->(g 0=0\/(g 1=0/\g 2=0))->(∀p,H (0::p)=(gpF out v g).F 0 p)->out++Rd (A5 (all.drop i)) (g 0) (g 1) (g 2)=R ->
  LoopC (cx Tryz.prog w0 I0 n0) Fi Q ⟨lk [(3,.pob [0] 1 0),(4,.pob [0,1] 1 0),(5,zp),(9,Sk all),(10,iv all.length),(11,iv i)],H⟩:=by
 intro m;induction m with
 |zero=>
  intro i out v g H hm hl hg h01 hH hR;refine Ab Ah (BG Fi.eq_1) ?_;have:i=all.length:=oF
  subst this;rw[List.drop_length,Hz,Abh]at hR;simp;exact hq H out v g [(9,Sk all),(10,iv all.length),(11,iv all.length),(12,bv false)] hH hR oF
 |succ m ih=>
  intro i out v g H hm hl hg h01 hH hR;have hlt:i<all.length:=oF
  have ew:=Ap i;have hd:all.drop i=all[i]::all.drop (i+1):=(List.getElem_cons_drop hlt).symm;have hs:=hok _ (Bv hlt);rw[hd,AN]at hR;generalize hss:all[i]=s at *;have hsr:=mY s;have hg0:=hg 0;have hg1:=hg 1;have hg2:=hg 2;refine Ab Ah (BG Fi.eq_1) ?_;have hspC:JD s=[iv s.k,iv s.n]:=rfl;simp[hlt,hss,hspC];refine Ae hsr (by simp[Fm,JD,Aa]) ?_;by_cases hn:1<=s.n
  ·have hdec:decide (s.k<=2/\1<=s.n/\s.n<=1048576)=true:=by have:=hs.1;have:=hs.2;simp;omega
   simp[hdec,Aa];have next:∀(o2:List Sp)(v2:Nat)(g2:Nat->Nat)(H2:Hp),o2.length<=out.length+2->(∀q,g2 q<=(i+1)*1048576)->(g2 0=0\/(g2 1=0/\g2 2=0))->(∀p,H2 (0::p)=(gpF o2 v2 g2).F 0 p)->o2++Rd (A5 (all.drop (i+1))) (g2 0) (g2 1) (g2 2)=R->LoopC (cx Tryz.prog w0 I0 n0) Fi Q ⟨lk [(3,.pob [0] 1 0),(4,.pob [0,1] 1 0),(5,zp),(9,Sk all),(10,iv all.length),(11,iv (i+1:Nat))],H2⟩:=fun o2 v2 g2 H2 h1 h2 h3 h4 h5=>ih (i+1) o2 v2 g2 H2 oF oF h2 h3 h4 h5
   have hk3:s.k=0\/s.k=1\/s.k=2:=by have:=hs.1;omega
   rcases hk3 with hk|hk|hk
   ·have F1:=Oh (ks:=[1,2]) iS iS out v g oF;have hlen:=XC [1,2] g;rw[hk,Y5 s.n _ _ _ _ oF oF]at hR;have ev:i64.wrap ((g 0:Int)+s.n)=((g 0+s.n:Nat):Int):=by have:=hs.2;rw[AJ oF oF];omega
    simp[hk];refine XL 0 rfl F1 (fun p=>by simp[Aa,hH]) iS iS ?_;simp;rw[(Ao Hx.eq_1)];simp[Aa,mP,Tk,ew,ev,hk];refine next (out++Wi [1,2] g) (v+(Wi [1,2] g).length) (fun q=>if q=0 then g 0+s.n else Tk [1,2] g q) _ (by simp at hlen;simp;omega) (fun q=>?_) ?_ (fun p=>?_) ?_
    ·have hb:∀(ks:List Nat)(g:Nat->Nat)(B q:Nat),(∀q,g q<=B)->Tk ks g q<=B:=eE;show(if q=0 then g 0+s.n else Tk [1,2] g q)<=_;have h3:=hs.2;split
     ·omega
     ·exact Nat.le_trans (hb _ g _ q hg) (Nat.mul_le_mul_right _ oF)
    ·simp[Tk]
    ·by_cases h1:p=[]
     ·subst h1;simp[Aa]
     ·by_cases h2:p=[0]
      ·subst h2;simp[Aa]
      ·by_cases h3:p=[1]
       ·subst h3;simp[Aa,mP,Tk]
       ·simp[h1,h2,h3,Aa]
    ·simp only[Tk,Wi]at hR ⊢;simpa using hR
   ·have F1:=Oh (ks:=[0]) iS iS out v g oF;have hlen:=XC [0] g;rw[hk,XK s.n _ _ _ _ oF]at hR;have ev:i64.wrap ((g 1:Int)+s.n)=((g 1+s.n:Nat):Int):=by have:=hs.2;rw[AJ oF oF];omega
    simp[hk];refine XL 0 rfl F1 (fun p=>by simp[Aa,hH]) iS iS ?_;simp;rw[(Ao Hx.eq_1)];simp[Aa,mP,Tk,ew,ev,hk];refine next (out++Wi [0] g) (v+(Wi [0] g).length) (fun q=>if q=1 then g 1+s.n else Tk [0] g q) _ (by simp at hlen;simp;omega) (fun q=>?_) ?_ (fun p=>?_) ?_
    ·have hb:∀(ks:List Nat)(g:Nat->Nat)(B q:Nat),(∀q,g q<=B)->Tk ks g q<=B:=eE;show(if q=1 then g 1+s.n else Tk [0] g q)<=_;have h3:=hs.2;split
     ·omega
     ·exact Nat.le_trans (hb _ g _ q hg) (Nat.mul_le_mul_right _ oF)
    ·simp[Tk]
    ·by_cases h1:p=[]
     ·subst h1;simp[Aa]
     ·by_cases h2:p=[0]
      ·subst h2;simp[Aa]
      ·by_cases h3:p=[1]
       ·subst h3;simp[Aa,mP,Tk]
       ·simp[h1,h2,h3,Aa]
    ·simp only[Tk,Wi]at hR ⊢;simpa using hR
   ·have F1:=Oh (ks:=[0]) iS iS out v g oF;have hlen:=XC [0] g;rw[hk,Uw s.n _ _ _ _ oF]at hR;have ev:i64.wrap ((g 2:Int)+s.n)=((g 2+s.n:Nat):Int):=by have:=hs.2;rw[AJ oF oF];omega
    simp[hk];refine XL 0 rfl F1 (fun p=>by simp[Aa,hH]) iS iS ?_;simp;rw[(Ao Hx.eq_1)];simp[Aa,mP,Tk,ew,ev,hk];refine next (out++Wi [0] g) (v+(Wi [0] g).length) (fun q=>if q=2 then g 2+s.n else Tk [0] g q) _ (by simp at hlen;simp;omega) (fun q=>?_) ?_ (fun p=>?_) ?_
    ·have hb:∀(ks:List Nat)(g:Nat->Nat)(B q:Nat),(∀q,g q<=B)->Tk ks g q<=B:=eE;show(if q=2 then g 2+s.n else Tk [0] g q)<=_;have h3:=hs.2;split
     ·omega
     ·exact Nat.le_trans (hb _ g _ q hg) (Nat.mul_le_mul_right _ oF)
    ·simp[Tk]
    ·by_cases h1:p=[]
     ·subst h1;simp[Aa]
     ·by_cases h2:p=[0]
      ·subst h2;simp[Aa]
      ·by_cases h3:p=[1]
       ·subst h3;simp[Aa,mP,Tk]
       ·simp[h1,h2,h3,Aa]
    ·simp only[Tk,Wi]at hR ⊢;simpa using hR
  ·have hdec:decide (s.k<=2/\1<=s.n/\s.n<=1048576)=false:=by simp;omega
   have h0:s.n=0:=oF
   simp[hdec,ew,Aa,BA];refine ih (i+1) out v g _ oF oF (fun q=>Nat.le_trans (hg q) (Nat.mul_le_mul_right _ oF)) h01 (fun p=>?_) ?_
   ·simp[Aa,hH]
   ·rw[h0]at hR;simpa using hR
theorem iG{H:Hp}{o:Nm}{u n:Nat}{l:List Sp}(h:H o=⟨u,.arr 2 (l.map Fm)⟩)(hn:n=l.length):rV H (.osl o u 2 0 n) (Sk l):=by
 subst hn;have:=Un (H:=H) (o:=o) (u:=u) (off:=0) (len:=l.length) (sz:=2) (xs:=l.map Fm) (by simp[h]) iS (by
  simp only[List.drop_zero,List.all_eq_true];intro x hx;obtain⟨s,_,rfl⟩:=List.mem_map.1 (O4 hx);rfl)
 rw[List.drop_zero,Ax iS]at this;exact this
theorem ZB{all:List Sp}(hok:∀s,s∈all->s.may)(hal:all.length<=1000000):SpecB Tryz.prog 122 [Sk all] (Sk (J7 (A5 all))):=by
 refine Ly Xn iS fun w0 I0=>?_;rw[BG OW.eq_1];simp;refine LoopC.le (Bi (d:=[0]) (u:=1) (cs:=[.sl true []]) 0 [0,0] 2 rfl rfl iS) ?_;refine LoopC.le (Al [(3,.pob [0] 1 0),(4,.pob [0,1] 1 0),(5,zp),(9,Sk all),(10,iv all.length),(11,iv (0:Nat))] iS) ?_;refine zS hok hal (R:=J7 (A5 all)) (fun H' out v g st hH hR hl=>?_) all.length 0 [] 1 (fun _=>0) _ oF iS (fun q=>oF) (.inl rfl) (fun p=>?_) (by simp[J7])
 ·have F1:=Oh (ks:=[0,1,2]) iS iS out v g oF;have hlen:=XC [0,1,2] g;simp;refine XL 0 rfl F1 hH iS iS ?_;simp;rw[<-hR];exact iG iS iS
 ·by_cases h1:p=[]
  ·subst h1;simp[Aa]
  ·by_cases h2:p=[0]
   ·subst h2;simp[Aa]
   ·by_cases h3:p=[1]
    ·subst h3;simp[Aa,mP]
    ·simp[h1,h2,h3,Ne.symm h1,Ne.symm h2,Ne.symm h3,Aa]
theorem sY{all:List Sp}(hok:∀s,s∈all->s.may)(hal:all.length<=1000000):G.Spec Tryz.prog 122 [Sk all] (Sk (J7 (A5 all))):=(ZB hok hal).spec
theorem AdA{s:Sp}(h:s.ok):s.may:=⟨h.1,h.2.2⟩
theorem mI{a b:List Int}(ha:a.length<=300000)(hb:b.length<=1000000){M0:Int}(hM0:B6 M0):G.Spec Tryz.prog 121 [CN a,CN b,iv M0] (if (Ct a b:Int)<=M0 then .tup [Sk (J7 (GU a b)),bv true]else .tup [.sl false [],bv false]):=by
 obtain⟨d,hD⟩:=qY (a:=a) (b:=b) oF hb hM0;obtain⟨sts,h1,h2,h3,h4⟩:=xm a.length a b (Cq _) oF hb;have hN:=ZB (all:=sts) (fun s hs=>AdA (h2 s hs)) oF;rw[h1]at hN;refine Aj mj iS fun w0 I0=>?_;rw[Ao Zw.eq_1];simp;refine Ae hD iS ?_;by_cases h:(Ct a b:Int)<=M0
 ·have hF:=h4 [] 1 (by simp;omega);simp[h];refine Dn (Bi (d:=[0]) (u:=1) (cs:=[.sl true []]) 0 [0,0] 2 rfl rfl iS) (Dr ?_);simp;refine Au 0 hF (fun p=>?_) iS iS ?_
  ·by_cases h1:p=[]
   ·subst h1;simp[Aa]
   ·by_cases h2:p=[0]
    ·subst h2;simp[Aa]
    ·simp[h1,h2,Ne.symm h1,Ne.symm h2,Aa]
  ·simp;refine Yk [Sk sts] hN (by simp;exact AQ (l:=sts) (f:=Fm) iS rfl (fun x=>rfl)) iS ?_;simp;exact Ad rfl
 ·simp[h];exact AM (by simp;exact⟨Ai,Ad rfl⟩)
theorem Ada{l:List Sp}:∀x,x∈l.map Fm->F5 (fun _=>x):=fun x hx=>by
 obtain⟨s,_,rfl⟩:=List.mem_map.1 hx;exact Fb (cs:=JD s) rfl fun y hy=>by
  simp[JD]at hy;rcases hy with rfl|rfl<;>rfl
theorem qC(s:Sp):F5 (fun _=>Fm s):=Fb (cs:=JD s) rfl fun y hy=>by
 simp[JD]at hy;rcases hy with rfl|rfl<;>rfl
abbrev xI(u:Nat)(l:List Sp):Fam:=sc u 2 (l.map Fm) Ada
theorem fL(s:Sp):G.Spec Tryz.prog 188 [Fm s] (bv (decide (s.k<=2/\1<=s.n/\s.n<=1048576))):=by
 refine Aj SY iS fun w0 I0=>?_;rw[Ao Ln.eq_1];have m0:(0:Int)<=(s.k:Int):=oF
 by_cases h1:s.k<=2
 ·by_cases h2:1<=s.n
  ·by_cases h3:s.n<=1048576
   ·simp[Fm,JD,m0,h1,h2,h3,show(s.k:Int)<=2 by omega,show(1:Int)<=s.n by omega,show(s.n:Int)<=1048576 by omega];exact Ad rfl
   ·simp[Fm,JD,m0,h1,h2,h3,show(s.k:Int)<=2 by omega,show(1:Int)<=s.n by omega,show ¬(s.n:Int)<=1048576 by omega];exact Ad rfl
  ·simp[Fm,JD,m0,h1,h2,show(s.k:Int)<=2 by omega,show ¬(1:Int)<=s.n by omega];exact BJ iS
 ·simp[Fm,JD,m0,h1,show ¬(s.k:Int)<=2 by omega];exact Ad rfl
theorem pY(l:List Sp)(x:A):(l.map Fm++[x])[l.length]? = some x:=by rw[List.getElem?_append_right iS];simp
theorem cq(l:List Sp)(x:A):List.take (l.length+1) (l.map Fm++[x])=l.map Fm++[x]:=Ax iS
theorem NY(l:List Sp)(v:Nat)(hl:l.length<=1000000)(k n:Nat)(h:n=0\/l=[]\/∃l0 s,l=l0++[s]/\s.k≠k):SpecF Tryz.prog 189 (fun r=>[.osl [r] v 2 0 l.length,Fm ⟨k,n⟩]) (xI v l) (fun r=>.osl [r] (v+(fl k n).length) 2 0 (l++fl k n).length) (xI (v+(fl k n).length) (l++fl k n)):=by
 refine Az NI iS (Af BH (Af (qC _) Ak)) BH fun w0 I0 M0 m0=>?_;rw[Ao JC.eq_1];by_cases h0:n=0
 ·subst h0;simp[Fm,JD];exact Av rfl rfl (fun p=>iS)
 ·rw[MX oF];rcases h with h|h|⟨l0,s,h,hne⟩
  ·exact absurd h h0
  ·subst h;simp[Fm,JD,h0,Aa];refine Av rfl rfl (fun p=>?_);by_cases h1:p=[]
   ·subst h1;simp[Aa,Fm,JD]
   ·simp[h1,Aa]
  ·subst h;have e1:i64.wrap (l0.length:Int)=(l0.length:Int):=by simp at hl;rw[AJ oF oF]
   have hne':¬(s.k:Int)=k:=oF
   simp at hl;simp[Fm,JD,h0,Aa,e1,hne',pY,cq];refine⟨oF,oF,?_⟩;refine Av rfl rfl (fun p=>?_);by_cases h1:p=[]
   ·subst h1;simp[Aa,Fm,JD]
   ·simp[h1,Aa]
theorem sw(l0:List Sp)(v:Nat)(hl:l0.length<=1000000)(k m n:Nat)(hn:0<n)(hm:m+n<=100000000000000):pf Tryz.prog 189 (fun r=>[.osl [r] v 2 0 (l0++[(⟨k,m⟩:Sp)]).length,Fm ⟨k,n⟩]) (xI v (l0++[(⟨k,m⟩:Sp)])) (fun r q=>.osl [q] 1 2 0 (l0++[(⟨k,m+n⟩:Sp)]).length) (xI v (l0++[(⟨k,m⟩:Sp)])) (xI 1 (l0++[(⟨k,m+n⟩:Sp)])):=by
 refine kJ NI iS (Af BH (Af (qC _) Ak)) (JN BH) ?_ fun w0 I0 M0 m0=>?_
 ·intro p;by_cases h1:p=[]
  ·subst h1;simp
  ·simp[h1]
 ·rw[Ao JC.eq_1];have h0:¬n=0:=oF
  have e1:i64.wrap (l0.length:Int)=(l0.length:Int):=by rw[AJ oF oF]
  have e2:i64.wrap ((m:Int)+n)=((m+n:Nat):Int):=AU;simp[Fm,JD,h0,Aa,e1,e2,pY,cq];refine⟨oF,oF,oF,rfl,?_⟩;refine KU rfl rfl (fun p=>?_) (fun p=>?_)
  ·simp
  ·by_cases h1:p=[]
   ·subst h1;simp[Aa,Fm,JD,A.remake]
   ·simp[h1,Ne.symm h1,Aa]
def S7(l:List Sp)(k:Nat):Prop:=l=[]\/∃l0 s,l=l0++[s]/\s.k≠k
theorem Gg{l:List Sp}{a n k:Nat}(hn:0<n)(h:a≠k):S7 (l++fl a n) k:=by
 rw[MX hn];exact .inr ⟨l,⟨a,n⟩,rfl,h⟩
theorem Di{l:List Sp}{a k:Nat}(h:S7 l k):S7 (l++fl a 0) k:=by simpa using h
structure Aim(o:List Sp)(k d i:Nat):Prop where
 kd:0<k->d=0/\i=0
 st:k=0->d=0->i=0->o=[]
 l0:0<k->S7 o 0
 l1:k=0->S7 o 1
 l2:k=0->S7 o 2
def y8(n:Nat):Nat:=n*1048576
theorem vQ(n:Nat):y8 (n+1)=y8 n+1048576:=by unfold y8;omega
theorem AeO{n:Nat}(h:n<=100000):y8 n<=104857600000:=Nat.le_trans (Nat.mul_le_mul_right _ h) dO
section
variable {n0:Nat} {w0:World} {I0:Nat->Prop} {Q:Exit->Sta->Prop}
theorem vv{all:List Sp}(hok:∀s,s∈all->s.may)(hal:all.length<=100000){R:List Sp}
  (hq:∀(H':Hp)(ρ v:Nat) st,H' [ρ]=⟨v,.arr 2 (R.map Fm)⟩->Q (.exit 0) ⟨lk ([(0,Sk all),(3,.osl [ρ] v 2 0 R.length)]++st),H'⟩):∀(m idx:Nat)(o:List Sp)(k d i ρ v:Nat)(H:Hp),idx+m=all.length->o.length<=3*idx->k<=y8 idx->d<=y8 idx->i<=y8 idx->Aim o k d i->(∀p,H (ρ::p)=(xI v (o++fl 0 k)).F ρ p)->(∀q p,ρ<q->H (q::p)=⟨0,.none⟩)->o++Rd (A5 (all.drop idx)) k d i=R ->
  LoopC (cx Tryz.prog w0 I0 n0) Dk Q ⟨lk [(0,Sk all),(3,.osl [ρ] v 2 0 (o++fl 0 k).length),(4,iv d),(5,iv i),(6,iv idx)],H⟩:=by
 intro m;induction m with
 |zero=>
  intro idx o k d i ρ v H hm hol hk hd hi hW hH hf hR;have:idx=all.length:=oF
  subst this;have ew:i64.wrap ((all.length:Int)+1)=((all.length+1:Nat):Int):=AU;rw[List.drop_length,Hz,Rd]at hR;have f0:=Fy 0 k;have f1:=Fy 1 d;have P1:=NY (o++fl 0 k) v (by simp;omega) 1 d (by
   by_cases h:0<k
   ·exact .inl (hW.kd h).1
   ·have:k=0:=oF
    subst this;rcases hW.l1 rfl with h|h
    ·exact .inr (.inl (by simp[h]))
    ·exact .inr (.inr (by simpa using h)))
  have P2:=NY (o++fl 0 k++fl 1 d) (v+(fl 1 d).length) (by simp;omega) 2 i (by
   by_cases h:0<k
   ·exact .inl (hW.kd h).2
   ·have:k=0:=oF
    subst this;right;by_cases hd0:0<d
    ·exact Gg hd0 dO
    ·have:d=0:=oF
     subst this;exact Di (Di (hW.l2 rfl)))
  have hle:¬((all.length:Int)+1<=all.length):=oF
  refine Ab Ah (Ao Dk.eq_1) ?_;simp;refine Bx rfl ?_;simp;refine Au ρ P1 hH (by simp[Fm,JD]) iS ?_;simp;refine Au ρ P2 (fun p=>iS) (by simp[Fm,JD]) iS ?_;simp[ew];refine Ab Ah (Ao Dk.eq_1) ?_;simp[hle];have hl:R.length=o.length+((fl 0 k).length+((fl 1 d).length+(fl 2 i).length)):=by rw[<-hR];simp
  have:=hq (ov ρ ((xI (v+(fl 1 d).length+(fl 2 i).length) R).F ρ) H) ρ (v+(fl 1 d).length+(fl 2 i).length) [(4,iv 0),(5,iv 0),(6,iv ((all.length:Int)+1)),(10,bv false)] iS;rw[hl]at this;rw[hR];exact this
 |succ m ih=>
  intro idx o k d i ρ v H hm hol hk hd hi hW hH hf hR;have hlt:idx<all.length:=oF
  have ew:=Ap idx;have hdr:all.drop idx=all[idx]::all.drop (idx+1):=(List.getElem_cons_drop hlt).symm;have hs:=hok _ (Bv hlt);have hmul:=vQ idx;have hmul2:=AeO (n:=idx) oF;rw[hdr,AN]at hR;generalize hss:all[idx]=s at *;have hsr:=fL s;have hle:idx<=all.length:=oF
  refine Ab Ah (Ao Dk.eq_1) ?_;have hspA:Fm s=.agg [iv s.k,iv s.n]:=rfl;have hspC:JD s=[iv s.k,iv s.n]:=rfl;simp[hlt,hss,hle];by_cases hn:1<=s.n
  ·have hdec:decide (s.k<=2/\1<=s.n/\s.n<=1048576)=true:=by have:=hs.1;have:=hs.2;simp;omega
   rw[hdec]at hsr;refine CE rfl (fun _=>hsr) (fun _=>by simp[hspA,hspC]) (by simp[Fm,JD]) ?_;have h1:=hs.1;have h2:=hs.2;rcases (by omega:s.k=0\/s.k=1\/s.k=2)with h0|h0|h0
   ·rw[h0,Y5 s.n _ _ _ _ oF (by
     by_cases h:0<k
     ·exact .inl (hW.kd h)
     ·exact .inr oF)]at hR
    have f0:=Fy 0 k;have f1:=Fy 1 d;have f2:=Fy 2 i;have P1:=NY (o++fl 0 k) v (by simp;omega) 1 d (by
     by_cases h:0<k
     ·exact .inl (hW.kd h).1
     ·have:k=0:=oF
      subst this;exact .inr (Di (hW.l1 rfl)))
    have P2:=NY (o++fl 0 k++fl 1 d) (v+(fl 1 d).length) (by simp;omega) 2 i (by
     by_cases h:0<k
     ·exact .inl (hW.kd h).2
     ·have:k=0:=oF
      subst this;right;by_cases hd0:0<d
      ·exact Gg hd0 dO
      ·have:d=0:=oF
       subst this;exact Di (Di (hW.l2 rfl)))
    simp[hlt,hss,hle,hspA,h0];refine Au ρ P1 hH (by simp[Fm,JD]) iS ?_;simp;refine Au ρ P2 (fun p=>iS) (by simp[Fm,JD]) iS ?_;simp[hlt,hss,hspA,hspC,h0];by_cases hk0:0<k
    ·obtain⟨d0,i0⟩:=hW.kd hk0;subst d0 i0;have P3:=sw o v oF 0 k s.n oF oF;simp[MX hk0];refine dF ρ (ρ+1) oF P3 (fun p=>iS) (fun p=>?_) (by simp[Fm,JD]) iS ?_
     ·simp[hf]
     ·simp[ew];have:=ih (idx+1) o (k+s.n) 0 0 (ρ+1) 1 (ov ρ ((xI v (o++[(⟨0,k⟩:Sp)])).F ρ) (ov (ρ+1) ((xI 1 (o++[(⟨0,k+s.n⟩:Sp)])).F (ρ+1)) (ov ρ ((xI v (o++[(⟨0,k⟩:Sp)])).F ρ) H))) oF oF oF oF oF ⟨fun _=>⟨rfl,rfl⟩,fun h=>oF,fun _=>hW.l0 hk0,fun h=>oF,fun h=>oF⟩ (fun p=>by rw[MX oF];simp) (fun q p hq=>by simp[show ¬q=ρ+1 by omega,show ¬q=ρ from oF,hf q p oF]) (by simpa using hR);rw[MX oF]at this;simpa using this
    ·have k0:k=0:=oF
     subst k0;have P3:=NY (o++fl 1 d++fl 2 i) (v+(fl 1 d).length+(fl 2 i).length) (by simp;omega) 0 s.n (by
      right;by_cases hi0:0<i
      ·exact Gg hi0 dO
      ·have:i=0:=oF
       subst this;by_cases hd0:0<d
       ·exact Di (Gg hd0 dO)
       ·have:d=0:=oF
        subst this;exact .inl (by simp[hW.st rfl rfl rfl]))
     simp;refine Au ρ P3 (fun p=>iS) (by simp[Fm,JD]) iS ?_;simp[ew];have hl0:S7 (o++fl 1 d++fl 2 i) 0:=by
      by_cases hi0:0<i
      ·exact Gg hi0 dO
      ·have:i=0:=oF
       subst this;by_cases hd0:0<d
       ·exact Di (Gg hd0 dO)
       ·have:d=0:=oF
        subst this;exact .inl (by simp[hW.st rfl rfl rfl])
     have:=ih (idx+1) (o++fl 1 d++fl 2 i) (0+s.n) 0 0 ρ (v+(fl 1 d).length+(fl 2 i).length+(fl 0 s.n).length) (ov ρ ((xI (v+(fl 1 d).length+(fl 2 i).length+(fl 0 s.n).length) (o++fl 1 d++fl 2 i++fl 0 s.n)).F ρ) H) oF (by simp;omega) oF oF oF ⟨fun _=>⟨rfl,rfl⟩,fun h=>oF,fun _=>hl0,fun h=>oF,fun h=>oF⟩ (fun p=>iS) (fun q p hq=>by simp[show ¬q=ρ from oF,hf q p oF]) (by simpa using hR);simpa using this
   ·rw[h0,XK s.n _ _ _ _ oF]at hR;have ev:i64.wrap ((d:Int)+s.n)=((d+s.n:Nat):Int):=AU;simp[hlt,hss,hle,hspA,h0,ev,ew,BA];have:=ih (idx+1) (o++fl 0 k) 0 (d+s.n) i ρ v H oF (by have:=Fy 0 k;simp;omega) oF oF oF ⟨fun h=>oF,fun _ h=>oF,fun h=>oF,fun _=>?_,fun _=>?_⟩ (by simpa using hH) hf (by simpa using hR)
    ·simpa using this
    ·by_cases hk0:0<k
     ·exact Gg hk0 dO
     ·have:k=0:=oF
      subst this;exact Di (hW.l1 rfl)
    ·by_cases hk0:0<k
     ·exact Gg hk0 dO
     ·have:k=0:=oF
      subst this;exact Di (hW.l2 rfl)
   ·rw[h0,Uw s.n _ _ _ _ oF]at hR;have ev:i64.wrap ((i:Int)+s.n)=((i+s.n:Nat):Int):=AU;simp[hlt,hss,hle,hspA,h0,ev,ew,BA];have:=ih (idx+1) (o++fl 0 k) 0 d (i+s.n) ρ v H oF (by have:=Fy 0 k;simp;omega) oF oF oF ⟨fun h=>oF,fun _ _ h=>oF,fun h=>oF,fun _=>?_,fun _=>?_⟩ (by simpa using hH) hf (by simpa using hR)
    ·simpa using this
    ·by_cases hk0:0<k
     ·exact Gg hk0 dO
     ·have:k=0:=oF
      subst this;exact Di (hW.l1 rfl)
    ·by_cases hk0:0<k
     ·exact Gg hk0 dO
     ·have:k=0:=oF
      subst this;exact Di (hW.l2 rfl)
  ·have hdec:decide (s.k<=2/\1<=s.n/\s.n<=1048576)=false:=by simp;omega
   rw[hdec]at hsr;refine CE rfl (fun _=>hsr) (fun _=>by simp[hspA,hspC]) (by simp[Fm,JD]) ?_;have h0:s.n=0:=oF
   simp[ew,BA];have:=ih (idx+1) o k d i ρ v H oF oF oF oF oF hW hH hf (by rw[h0]at hR;simpa using hR);simpa using this
end
theorem jH{all:List Sp}(hok:∀s,s∈all->s.may)(hal:all.length<=100000):SpecB Tryz.prog 172 [Sk all] (Sk (J7 (A5 all))):=by
 refine Ly Rs iS fun w0 I0=>?_;rw[BG Kq.eq_1];simp;refine LoopC.le (BC 3 [0] 2 iS) ?_;refine LoopC.le (Al [(0,Sk all),(3,.osl [0] 1 2 0 (([]:List Sp)++fl 0 0).length),(4,iv (0:Nat)),(5,iv (0:Nat)),(6,iv (0:Nat))] iS) ?_;refine vv hok hal (R:=J7 (A5 all)) (fun H' ρ v st hH=>?_) all.length 0 [] 0 0 0 0 1 _ oF iS (by simp[y8]) (by simp[y8]) (by simp[y8]) ⟨fun h=>oF,fun _ _ _=>rfl,fun h=>oF,fun _=>.inl rfl,fun _=>.inl rfl⟩ (fun p=>?_) (fun q p hq=>?_) (by simp[J7])
 ·simp;exact iG hH rfl
 ·by_cases h1:p=[]
  ·subst h1;simp[Aa]
  ·simp[h1,Aa]
 ·simp[Aa,show ¬q=0 from oF]
def Qb(m n:Nat):List A:=(List.range n).map fun j=>.osl [5+j] (j+1) 1 0 (m+1)
@[simp]theorem AiB{m n:Nat}:(Qb m n).length=n:=by simp[Qb]
@[simp]theorem AkE{m n k:Nat}(h:k<(Qb m n).length):(Qb m n)[k]=.osl [5+k] (k+1) 1 0 (m+1):=by simp[Qb]
theorem sJ(m n:Nat):Qb m (n+1)=Qb m n++[.osl [5+n] (n+1) 1 0 (m+1)]:=by simp[Qb,List.range_succ]
def HE(a b:List Int)(i q:Nat):Int:=(AK (a.take i) (b.take q):Nat)
theorem rA{a b:List Int}{i j:Nat}(hi:i<a.length)(hj:j<b.length):HE a b (i+1) (j+1)=if a[i]=b[j]then HE a b i j+1 else max (HE a b i (j+1)) (HE a b (i+1) j):=by
 unfold HE;have tk:a.take (i+1)=a.take i++[a[i]]:=HJ hi;have tj:b.take (j+1)=b.take j++[b[j]]:=HJ hj;by_cases h:a[i]=b[j]
 ·rw[if_pos h,tk,tj,h,MW];omega
 ·rw[if_neg h];have:=MZ h (a.take i) (b.take j);rw[<-tk,<-tj]at this;rw[this];omega
theorem zH(a b:List Int)(i j:Nat):0<=HE a b i j/\HE a b i j<=a.length:=by
 have:=HI (a.take i) (b.take j);unfold HE;simp at this;omega
section
variable {n0:Nat} {w0:World} {I0:Nat->Prop} {Q:Exit->Sta->Prop}
theorem wT{a b:List Int}{i:Nat}(hi:i<a.length)(hal:a.length<=1000000)(hb:b.length<=1000000){H0:Hp}(h1:H0 [1]=⟨i+3,.arr 1 (Qb b.length (i+2))⟩)(h2:H0 [5+i]=⟨i+1,.arr 1 (Hh (HE a b i) (b.length+1))⟩)(hq:∀(f':Nat->Int)(H':Hp)(st:List (Nat × A)),(∀q,q<=b.length->f' q=HE a b (i+1) q)->H' [5+(i+1)]=⟨i+2,.arr 1 (Hh f' (b.length+1))⟩->(∀o,o≠[5+(i+1)]->H' o=H0 o)->Q (.exit 2) ⟨lk ([(0,CN a),(1,CN b),(5,.osl [1] (i+3) 1 0 (i+2)),(6,iv (i+1:Nat))]++st),H'⟩):∀(m j:Nat)(f:Nat->Int)(H:Hp),j+m=b.length->(∀q,q<=j->f q=HE a b (i+1) q)->(∀o,o≠[5+(i+1)]->H o=H0 o)->H [5+(i+1)]=⟨i+2,.arr 1 (Hh f (b.length+1))⟩ ->
  LoopC (cx Tryz.prog w0 I0 n0) BX Q ⟨lk [(0,CN a),(1,CN b),(5,.osl [1] (i+3) 1 0 (i+2)),(6,iv (i+1:Nat)),(7,iv (j+1:Nat))],H⟩:=by
 intro m;induction m with
 |zero=>
  intro j f H hm hf hp h3;refine Ab Ah (BG BX.eq_1) ?_;have:j=b.length:=oF
  subst this;have hle:¬((b.length:Int)+1<=b.length):=oF
  simp[hle];have:=hq f H [(7,iv (b.length+1:Nat)),(29,bv false)] hf h3 hp;simpa using this
 |succ m ih=>
  intro j f H hm hf hp h3;have g1:=hp [1] (by simp;omega);have g2:=hp [5+i] iS;rw[h1]at g1;rw[h2]at g2;have hj:j<b.length:=oF
  have hj1:j+1<b.length+1:=oF
  have hj2:j<b.length+1:=oF
  have c1:(j:Int)+1<=b.length:=oF
  have c2:(0:Int)<(i:Int)+1:=oF
  have c3:(i:Int)<(i:Int)+2:=oF
  have c4:(0:Int)<=(j:Int)+1:=oF
  have c5:(0:Int)<=(i:Int)+1:=oF
  have c6:(j:Int)<(b.length:Int)+1:=oF
  have e1:i64.wrap (i:Int)=i:=CX;have e2:i64.wrap (j:Int)=j:=CX;have e3:i64.wrap ((j:Int)+1+1)=((j+1+1:Nat):Int):=AU;have hb2:=zH a b i j;have e4:i64.wrap (HE a b i j+1)=HE a b i j+1:=CX;have fj:=hf j (Cq _);have hst:=rA hi hj;have next:∀z:Int,z=HE a b (i+1) (j+1)->LoopC (cx Tryz.prog w0 I0 n0) BX Q ⟨lk [(0,CN a),(1,CN b),(5,.osl [1] (i+3) 1 0 (i+2)),(6,iv (i+1:Nat)),(7,iv (j+1+1:Nat))],Ar H [5+(i+1)] ⟨i+2,.arr 1 (Hh (fun q=>if q=j+1 then z else f q) (b.length+1))⟩⟩:=fun z hz=>by
   refine ih (j+1) _ _ oF (fun q hq=>?_) (fun o ho=>by rw[AD ho];exact hp o ho) (by simp[Aa];rfl);by_cases e:q=j+1
   ·subst e;rw[if_pos rfl,hz]
   ·rw[if_neg e];exact hf q oF
  have key:∀z:Int,z=max (HE a b i (j+1)) (f j)->WPC (cx Tryz.prog w0 I0 n0) HP
          (BA 3
           (Ej
            (WPC (cx Tryz.prog w0 I0 n0)
             (CC.keep [0,1,5,6,7]
              (CC.reg
               [co (some 30) (Op.move (Operand.tmp 7)) none,
                co (some 31)
                 (Op.binOp BinOp.add 3 (Operand.tmp 30) (Operand.const (Value.int i64 1)) 3)
                 none,
                co (some 7) (Op.assign (Operand.tmp 31)) none]
               [0,1,5,6,7]))
             (Ej (LoopC (cx Tryz.prog w0 I0 n0) BX Q) Q))
            (Ej (LoopC (cx Tryz.prog w0 I0 n0) BX Q) Q)))
          ⟨lk [(0,CN a),(1,CN b),(5,.osl [1] (i+3) 1 0 (i+2)),(6,iv (i+1:Nat)),(7,iv (j+1:Nat)),(8,iv z)],H⟩:=fun z hz=>by
   rw[(Ao HP.eq_1)];by_cases h:a[i]=b[j]
   ·rw[if_pos h]at hst;simp[c1,c2,c3,c4,c5,c6,e1,e2,g1,g2,h3,hj1,hj2,hi,hj,h,e3,e4];have:=next _ hst.symm
    simpa using this
   ·rw[if_neg h,<-fj]at hst;simp[c1,c2,c3,c4,c5,c6,e1,e2,g1,g2,h3,hj1,hj2,hi,hj,h,e3,e4];have:=next z (by rw[hz,hst])
    simpa using this
  refine Ab Ah (BG BX.eq_1) ?_;simp[c1,c2,c3,c4,c5,c6,e1,e2,g1,g2,h3,hj1,hj2,hj];refine⟨fun h=>?_,fun h=>?_⟩
  ·have:=key (f j) oF;simpa using this
  ·have:=key (HE a b i (j+1)) oF;simpa using this
theorem uY{a b:List Int}(hal:a.length<=1000000)(hb:b.length<=1000000)(hq:∀(H:Hp) st,H [1]=⟨a.length+2,.arr 1 (Qb b.length (a.length+1))⟩->(∀k,k<a.length+1->∃f,(∀q,q<b.length+1->f q=HE a b k q)/\H [5+k]=⟨k+1,.arr 1 (Hh f (b.length+1))⟩)->Q (.exit 0) ⟨lk ([(0,CN a),(1,CN b),(5,.osl [1] (a.length+2) 1 0 (a.length+1))]++st),H⟩):∀(m i:Nat)(H:Hp),i+m=a.length+1->H [0]=⟨i,.none⟩->H [1]=⟨i+1,.arr 1 (Qb b.length i)⟩->(∀k,k<i->∃f,(∀q,q<b.length+1->f q=HE a b k q)/\H [5+k]=⟨k+1,.arr 1 (Hh f (b.length+1))⟩)->(∀k,i<=k->H [5+k]=⟨0,.none⟩) ->
  LoopC (cx Tryz.prog w0 I0 n0) DH Q ⟨lk [(0,CN a),(1,CN b),(5,.osl [1] (i+1) 1 0 i),(6,iv i)],H⟩:=by
 intro m;induction m with
 |zero=>
  intro i H hm h0 h1 hk hf;refine Ab Ah (BG DH.eq_1) ?_;have:i=a.length+1:=oF
  subst this;have hle:¬((a.length:Int)+1<=a.length):=oF
  simp[hle];have:=hq H [(6,iv (a.length+1:Nat)),(12,bv false)] h1 hk;simpa using this
 |succ m ih=>
  intro i H hm h0 h1 hk hf;have hi:i<=a.length:=oF
  have e1:i64.wrap ((b.length:Int)+1)=((b.length+1:Nat):Int):=AU;have e2:=Ap i;refine Ab Ah (BG DH.eq_1) ?_;simp[hi,e1,h0,h1,Aa];refine⟨⟨oF,oF⟩,oF,?_⟩;have hfi:=hf i (Cq _);refine LoopC.le (ie (d:=[0]) (d':=[5+i]) (e:=[1]) (u:=i+1) (ue:=i+1+1) (sz:=1) (z:=1) (off:=0) (len:=b.length+1) (xs:=List.take i (Qb b.length i)) (fun _ h=>h) (by simp;omega) iS (by simp;omega) (by simp[Aa,hfi,show ¬5+i=1 by omega,show ¬5+i=2 by omega,show ¬5+i=0 from oF]) (by simp[Aa]) rfl (by simp[Aa])) ?_;rw[Ax iS,<-sJ];generalize hG:(Ar (Ar (Ar (Ar (Ar (Ar H [0] ⟨i+1,.arr 1 (List.replicate (b.length+1) (iv 0))⟩) [2] ⟨(H [2]).u+1,.arr 1 [.osl [0] (i+1) 1 0 (b.length+1)]⟩) [1] ⟨i+1+1,.arr 1 (Qb b.length i++[.osl [0] (i+1) 1 0 (b.length+1)])⟩) [5+i] _) [0] _) [1] _:Hp)=G;have f0:G [0]=⟨i+1,.none⟩:=by rw[<-hG];simp[Aa]
  have f1:G [1]=⟨i+1+1,.arr 1 (Qb b.length (i+1))⟩:=by rw[<-hG];simp[Aa]
  have f5:G [5+i]=⟨i+1,.arr 1 (Hh (fun _=>0) (b.length+1))⟩:=by
   rw[<-hG,<-PG];simp[Aa,show ¬5+i=1 by omega,show ¬5+i=0 from oF]
  have fo:∀k,k≠i->G [5+k]=H [5+k]:=fun k hne=>by
   rw[<-hG];simp[Aa,show ¬5+k=1 by omega,show ¬5+k=2 by omega,show ¬5+k=0 from oF,hne]
  clear hG;have next:∀(f:Nat->Int)(G':Hp),(∀q,q<b.length+1->f q=HE a b i q)->G' [5+i]=⟨i+1,.arr 1 (Hh f (b.length+1))⟩->(∀o,o≠[5+i]->G' o=G o)->LoopC (cx Tryz.prog w0 I0 n0) DH Q ⟨lk [(0,CN a),(1,CN b),(5,.osl [1] (i+1+1) 1 0 (i+1)),(6,iv (i+1:Nat))],G'⟩:=fun f G' g1 g2 g3=>by
   refine ih (i+1) G' oF (by rw[g3 _ (by simp;omega),f0]) (by rw[g3 _ (by simp;omega),f1]) (fun k hki=>?_) (fun k hki=>?_)
   ·by_cases e:k=i
    ·subst e;exact⟨f,g1,g2⟩
    ·obtain⟨f',k1,k2⟩:=hk k oF;exact⟨f',k1,by rw[g3 _ (by simp;omega),fo k e,k2]⟩
   ·rw[g3 _ (by simp;omega),fo k oF,hf k oF]
  cases i with
  |zero=>
   refine Ab Ah (BG BX.eq_1) ?_;by_cases hb0:(1:Int)<=b.length
   ·simp[hb0,show i64.wrap 1=1 from rfl];have:=next (fun _=>0) G (fun q hq=>by simp[HE]) f5 (fun o _=>rfl)
    simpa using this
   ·simp[hb0,show i64.wrap 1=1 from rfl];have:=next (fun _=>0) G (fun q hq=>by simp[HE]) f5 (fun o _=>rfl)
    simpa using this
  |succ i=>
   obtain⟨f',k1,k2⟩:=hk i oF;refine LoopC.le (Al [(0,CN a),(1,CN b),(5,.osl [1] (i+3) 1 0 (i+2)),(6,iv (i+1:Nat)),(7,iv (0+1:Nat))] iS) ?_;refine wT oF hal hb (H0:=G) f1 (by rw[fo i oF,k2,Jz k1]) (fun f2 G' st g1 g2 g3=>?_) b.length 0 (fun _=>0) G oF (fun q hq=>?_) (fun o _=>rfl) f5
   ·have e3:i64.wrap ((i:Int)+1+1)=(i:Int)+1+1:=CX;simp[e3];have:=next f2 G' (fun q hq=>g1 q oF) g2 g3
    simpa using this
   ·have:q=0:=oF
    subst this;simp[HE]
end
theorem VD{α:Type}{H:Hp}{f g:α->A}:∀(l:List α),(∀x,x∈l->Iz H (f x) (g x))->IV H (l.map f) (l.map g)
 |[],_=>iS
 |x::l,h=>by
  simp only[List.map_cons,tl];exact⟨h x iS,VD l fun y hy=>h y (by simp[hy])⟩
theorem Im{α:Type}{f:α->A}(h:∀x,(f x).cells=[f x])(l:List α):(l.map f).flatMap A.cells=l.map f:=by
 induction l with
 |nil=>rfl
 |cons x l ih=>simp[ih,h]
def O7(a b:List Int):A:=.sl false ((List.range (a.length+1)).map fun i=>.sl false (Hh (HE a b i) (b.length+1)))
theorem Sa{a b:List Int}(hal:a.length<=1000000)(hb:b.length<=1000000):G.Spec Tryz.prog 186 [CN a,CN b] (O7 a b):=by
 refine Aj Sx iS fun w0 I0=>?_;rw[BG LM.eq_1];simp;refine LoopC.le (BC 5 [1] 1 iS) ?_;refine LoopC.le (Al [(0,CN a),(1,CN b),(5,.osl [1] (0+1) 1 0 0),(6,iv (0:Nat))] iS) ?_;refine uY hal hb (fun H st h1 hk=>?_) (a.length+1) 0 _ oF (by simp[Aa]) (by simp[Aa,Qb]) (fun k h=>oF) (fun k _=>by simp[Aa,show ¬5+k=1 from oF]);simp;refine LX (o:=[1]) (u:=a.length+2) (off:=0) (len:=a.length+1) (sz:=1) (xs:=Qb b.length (a.length+1)) (ys:=(List.range (a.length+1)).map fun i=>.sl false (Hh (HE a b i) (b.length+1))) (by simp[h1]) iS iS iS ?_ ?_
 ·rw[Im (fun x=>rfl)];simp[A.ones]
 ·rw[List.drop_zero,Ax iS];unfold Qb;rw[Im (fun x=>rfl),Im (fun x=>rfl)];refine VD _ fun k hk0=>?_;obtain⟨f,g1,g2⟩:=hk k (by simpa using hk0);rw[<-Jz g1];exact QT g2
theorem iP{a b:List Int}(hal:a.length<=1000000)(hb:b.length<=1000000):G.Spec Tryz.prog 170 [CN a,CN b] (iv (AK a b:Nat)):=by
 refine Aj Rr iS fun w0 I0=>?_;rw[Ao Kp.eq_1];simp;refine Ae (Sa hal hb) rfl ?_;have h1:HE a b a.length b.length=AK a b:=by simp[HE]
 simp[O7,h1];exact⟨oF,oF,Ad rfl⟩
section
variable {n0:Nat} {w0:World} {I0:Nat->Prop} {Q:Exit->Sta->Prop}
theorem nE{l:List Int}(hl:l.length<=1000000)(hq:∀(H:Hp)(u:Nat) st,H [0]=⟨u,.arr 1 (l.reverse.map iv)⟩->Q (.exit 0) ⟨lk ([(0,CN l),(3,.osl [0] u 1 0 l.length)]++st),H⟩):∀(t:Nat)(u:Nat)(H:Hp),t<=l.length->H [0]=⟨u,.arr 1 ((l.drop t).reverse.map iv)⟩ ->
  LoopC (cx Tryz.prog w0 I0 n0) Et Q ⟨lk [(0,CN l),(3,.osl [0] u 1 0 (l.length-t)),(4,iv ((t:Int)-1))],H⟩:=by
 intro t;induction t with
 |zero=>
  intro u H ht hH;refine Ab Ah (Ao Et.eq_1) ?_;simp;exact hq H u [(4,iv (-1)),(9,bv false)] (by simpa using hH)
 |succ t ih=>
  intro u H ht hH;have hlt:t<l.length:=oF
  have e1:i64.wrap ((t:Int)-1)=(t:Int)-1:=CX;have hd:l.drop t=l[t]::l.drop (t+1):=(List.getElem_cons_drop hlt).symm;refine Ab Ah (Ao Et.eq_1) ?_;simp[hlt,e1,hH];refine⟨oF,?_⟩;have:=ih (u+1) (Ar H [0] ⟨u+1,.arr 1 ((l.drop t).reverse.map iv)⟩) oF (by simp[Aa]);rw[show l.length-(t+1)+1=l.length-t by omega];have e2:List.take (l.length-(t+1)) (List.drop (t+1) (List.map iv l)).reverse++[iv l[t]]=(l.drop t).reverse.map iv:=by
   have hd2:(l.map iv).drop t=iv l[t]::(l.map iv).drop (t+1):=by rw[List.drop_eq_getElem_cons (by simpa using hlt)];simp
   rw[Ax iS];simp[hd2]
  rw[e2];exact this
end
theorem TW{l:List Int}(hl:l.length<=1000000):G.Spec Tryz.prog 187 [CN l] (CN l.reverse):=by
 have e1:i64.wrap ((l.length:Int)-1)=(l.length:Int)-1:=CX;refine Aj Rk iS fun w0 I0=>?_;rw[BG Ks.eq_1];simp[e1];refine LoopC.le (BC 3 [0] 1 iS) ?_;refine LoopC.le (Al [(0,CN l),(3,.osl [0] 1 1 0 (l.length-l.length)),(4,iv ((l.length:Int)-1))] iS) ?_;refine nE hl (fun H u st h=>?_) l.length 1 _ (Cq _) (by simp[Aa]);simp;exact AQ (f:=iv) (l:=l.reverse) (by rw[h];simp) iS (fun x=>rfl)
theorem o7{a b:List Int}{i j:Nat}:HE a b i j=(F6 a b 0 i 0 j:Nat):=by simp[HE,F6,QZ]
theorem ln{a b:List Int}{i j:Nat}(hi:i<=a.length)(hj:j<=b.length):HE a.reverse b.reverse (a.length-i) (b.length-j)=(F6 a b i a.length j b.length:Nat):=by
 unfold HE;have e1:a.reverse.take (a.length-i)=(a.drop i).reverse:=by rw[List.take_reverse];congr 2;omega
 have e2:b.reverse.take (b.length-j)=(b.drop j).reverse:=by rw[List.take_reverse];congr 2;omega
 rw[e1,e2,KO];simp[F6,XR]
section
variable {n0:Nat} {w0:World} {I0:Nat->Prop} {Q:Exit->Sta->Prop}
theorem AcX{a b:List Int}{i:Nat}(hi:i<=a.length)(hal:a.length<=1000000)(hb:b.length<=1000000){X:A}{H:Hp}(hq:∀st,Q (.exit 2) ⟨lk ([(0,CN a),(1,CN b),(5,O7 a b),(6,O7 a.reverse b.reverse),(7,X),(8,iv i),(9,iv (AX a b i))]++st),H⟩):∀(m j:Nat),j+m=AX a b i ->
  LoopC (cx Tryz.prog w0 I0 n0) ED Q ⟨lk [(0,CN a),(1,CN b),(5,O7 a b),(6,O7 a.reverse b.reverse),(7,X),(8,iv i),(9,iv j)],H⟩:=by
 obtain⟨g1,g2,g3⟩:=Gx (a:=a) (b:=b) hi;unfold S8 at g1;simp only[decide_eq_true_eq]at g1;intro m;induction m with
 |zero=>
  intro j hm;have:j=AX a b i:=oF
  subst this;generalize hjj:AX a b i=j at *;by_cases hj:j<b.length
  ·have e1:=Ap j;have e2:i64.wrap ((a.length:Int)-i)=((a.length-i:Nat):Int):=AU;have e3:i64.wrap ((b.length:Int)-j)=((b.length-j:Nat):Int):=AU;have t1:=o7 (a:=a) (b:=b) (i:=i) (j:=j);have t2:=ln (a:=a) (b:=b) (i:=i) (j:=j) hi oF;have t3:HE a b a.length b.length=AK a b:=by simp[HE]
   have ll:=HI a b;have e4:i64.wrap ((F6 a b 0 i 0 j:Int)+(F6 a b i a.length j b.length:Int))=(F6 a b 0 i 0 j:Int)+(F6 a b i a.length j b.length:Int):=CX;have c1:(i:Int)<(a.length:Int)+1:=oF
   have c2:(j:Int)<(b.length:Int)+1:=oF
   have c3:((a.length-i:Nat):Int)<(a.length:Int)+1:=oF
   have c4:((b.length-j:Nat):Int)<(b.length:Int)+1:=oF
   have c5:(a.length:Int)<(a.length:Int)+1:=oF
   have c6:(b.length:Int)<(b.length:Int)+1:=oF
   have d1:i<a.length+1:=oF
   have d2:j<b.length+1:=oF
   have d3:a.length-i<a.length+1:=oF
   have d4:b.length-j<b.length+1:=oF
   have hne':¬(F6 a b 0 i 0 j:Int)+(F6 a b i a.length j b.length:Int)<(AK a b:Int):=oF
   refine Ab Ah (Ao ED.eq_1) ?_;simp[hj,O7,e1,e2,e3,t1,t2,t3,e4,c1,c2,c3,c4,c5,c6,d1,d2,d3,d4,hne'];have:=hq [(60,bv false)];simpa[O7]using this
  ·refine Ab Ah (Ao ED.eq_1) ?_;simp[hj];have:=hq [(60,bv false)];simpa using this
 |succ m ih=>
  intro j hm;have hj:j<b.length:=oF
  have hle:=Om (a:=a) (b:=b) (i:=i) (j:=j) hi oF;have hne:F6 a b 0 i 0 j+F6 a b i a.length j b.length<AK a b:=by
   by_cases e:F6 a b 0 i 0 j+F6 a b i a.length j b.length=AK a b
   ·have:=g3 j oF (by unfold S8;simpa using e);omega
   ·omega
  have e1:=Ap j;have e2:i64.wrap ((a.length:Int)-i)=((a.length-i:Nat):Int):=AU;have e3:i64.wrap ((b.length:Int)-j)=((b.length-j:Nat):Int):=AU;have t1:=o7 (a:=a) (b:=b) (i:=i) (j:=j);have t2:=ln (a:=a) (b:=b) (i:=i) (j:=j) hi oF;have t3:HE a b a.length b.length=AK a b:=by simp[HE]
  have ll:=HI a b;have e4:i64.wrap ((F6 a b 0 i 0 j:Int)+(F6 a b i a.length j b.length:Int))=(F6 a b 0 i 0 j:Int)+(F6 a b i a.length j b.length:Int):=CX;have c1:(i:Int)<(a.length:Int)+1:=oF
  have c2:(j:Int)<(b.length:Int)+1:=oF
  have c3:((a.length-i:Nat):Int)<(a.length:Int)+1:=oF
  have c4:((b.length-j:Nat):Int)<(b.length:Int)+1:=oF
  have c5:(a.length:Int)<(a.length:Int)+1:=oF
  have c6:(b.length:Int)<(b.length:Int)+1:=oF
  have d1:i<a.length+1:=oF
  have d2:j<b.length+1:=oF
  have d3:a.length-i<a.length+1:=oF
  have d4:b.length-j<b.length+1:=oF
  have hne':(F6 a b 0 i 0 j:Int)+(F6 a b i a.length j b.length:Int)<(AK a b:Int):=oF
  refine Ab Ah (Ao ED.eq_1) ?_;simp[hj,O7,e1,e2,e3,t1,t2,t3,e4,c1,c2,c3,c4,c5,c6,d1,d2,d3,d4,hne'];have:=ih (j+1) oF;simpa[O7]using this
theorem Aex{a b:List Int}(hal:a.length<=1000000)(hb:b.length<=1000000)(hq:∀(H:Hp)(u:Nat) st,H [0]=⟨u,.arr 1 (Hh (fun i=>(AX a b i:Nat)) (a.length+1))⟩->Q (.exit 0) ⟨lk ([(0,CN a),(1,CN b),(5,O7 a b),(6,O7 a.reverse b.reverse),(7,.osl [0] u 1 0 (a.length+1))]++st),H⟩):∀(m i u:Nat)(H:Hp),i+m=a.length+1->H [0]=⟨u,.arr 1 (Hh (fun i=>(AX a b i:Nat)) i)⟩ ->
  LoopC (cx Tryz.prog w0 I0 n0) Gy Q ⟨lk [(0,CN a),(1,CN b),(5,O7 a b),(6,O7 a.reverse b.reverse),(7,.osl [0] u 1 0 i),(8,iv i)],H⟩:=by
 intro m;induction m with
 |zero=>
  intro i u H hm hH;refine Ab Ah (BG Gy.eq_1) ?_;have:i=a.length+1:=oF
  subst this;have hle:¬((a.length:Int)+1<=a.length):=oF
  simp[hle];have:=hq H u [(8,iv (a.length+1:Nat)),(21,bv false)] hH;simpa using this
 |succ m ih=>
  intro i u H hm hH;have hi:i<=a.length:=oF
  have e1:=Ap i;refine Ab Ah (BG Gy.eq_1) ?_;simp[hi];refine LoopC.le (Al [(0,CN a),(1,CN b),(5,O7 a b),(6,O7 a.reverse b.reverse),(7,.osl [0] u 1 0 i),(8,iv i),(9,iv (0:Nat))] iS) ?_;refine AcX hi hal hb (fun st=>?_) (AX a b i) 0 oF;simp[e1,hH];refine⟨oF,?_⟩;have:=ih (i+1) (u+1) (Ar H [0] ⟨u+1,.arr 1 (Hh (fun i=>(AX a b i:Nat)) (i+1))⟩) oF (by simp[Aa]);have e2:List.take i (Hh (fun i=>(AX a b i:Nat)) i)++[iv (AX a b i:Nat)]=Hh (fun i=>(AX a b i:Nat)) (i+1):=by
   rw[Ax iS];simp[Hh,List.range_succ]
  rw[e2];simpa using this
end
theorem xP{a b:List Int}(hal:a.length<=1000000)(hb:b.length<=1000000):G.Spec Tryz.prog 171 [CN a,CN b] (.sl false (Hh (fun i=>(AX a b i:Nat)) (a.length+1))):=by
 have s4:=Sa (a:=a.reverse) (b:=b.reverse) (by simpa using hal) (by simpa using hb);refine Aj V1 iS fun w0 I0=>?_;rw[BG Ns.eq_1];simp;refine Ae (Sa hal hb) iS ?_;simp;refine Ae (TW hal) iS ?_;simp;refine Ae (TW hb) iS ?_;simp;refine Ae s4 iS ?_;simp;refine LoopC.le (BC 7 [0] 1 iS) ?_;refine LoopC.le (Al [(0,CN a),(1,CN b),(5,O7 a b),(6,O7 a.reverse b.reverse),(7,.osl [0] 1 1 0 0),(8,iv (0:Nat))] iS) ?_;refine Aex hal hb (fun H u st h=>?_) (a.length+1) 0 1 _ oF (by simp[Aa,Hh]);simp;exact QT h
def Xb(p q:Nat):List Sp:=if p<q then [⟨2,q-p-1⟩,⟨0,1⟩]else [⟨1,1⟩]
theorem n6(p q:Nat):A5 (Xb p q)=N9 p q:=by
 unfold Xb N9;split<;>simp
def KQ(a b:List Int)(i:Nat):List Sp:=(⟨2,0⟩:Sp)::(List.range i).flatMap (fun i=>Xb (AX a b i) (AX a b (i+1)))
theorem VS(a b:List Int)(i:Nat):KQ a b (i+1)=KQ a b i++Xb (AX a b i) (AX a b (i+1)):=by simp[KQ,List.range_succ]
theorem kv(a b:List Int)(i:Nat):(KQ a b i).length<=2*i+1:=by
 induction i with
 |zero=>simp[KQ]
 |succ i ih=>
  rw[VS,List.length_append];have:(Xb (AX a b i) (AX a b (i+1))).length<=2:=by unfold Xb;split<;>simp
  omega
theorem mH(a b:List Int):A5 (KQ a b a.length++[⟨2,b.length-AX a b a.length⟩])=GU a b:=by
 have:∀l:List Nat,A5 (l.flatMap fun i=>Xb (AX a b i) (AX a b (i+1)))=l.flatMap fun i=>N9 (AX a b i) (AX a b (i+1)):=by
  intro l;induction l with
  |nil=>rfl
  |cons x l ih=>simp[n6,ih]
 rw[Jv];unfold KQ GU;rw[AN,this];simp
theorem xX{a b:List Int}(hb:b.length<=1000000):∀i,i<=a.length->∀s,s∈KQ a b i->s.may:=by
 intro i;induction i with
 |zero=>intro _ s hs;simp[KQ]at hs;subst hs;exact⟨iS,iS⟩
 |succ i ih=>
  intro hi s hs;rw[VS]at hs;rcases List.mem_append.1 hs with hs|hs
  ·exact ih oF s hs
  ·have h1:=(Gx (a:=a) (b:=b) (i:=i+1) hi).2.1;unfold Xb at hs;split at hs
   ·simp at hs;rcases hs with rfl|rfl
    ·exact⟨iS,by simp;omega⟩
    ·exact⟨iS,iS⟩
   ·simp at hs;subst hs;exact⟨iS,iS⟩
section
variable {n0:Nat} {w0:World} {I0:Nat->Prop} {Q:Exit->Sta->Prop}
theorem yz{a b:List Int}(hal:a.length<=100000)(hb:b.length<=1000000)(hq:∀(H:Hp)(u:Nat) st,H [0]=⟨u,.arr 2 ((KQ a b a.length).map Fm)⟩->Q (.exit 0) ⟨lk ([(0,CN a),(1,CN b),(8,.sl false (Hh (fun i=>(AX a b i:Nat)) (a.length+1))),(9,.osl [0] u 2 0 (KQ a b a.length).length)]++st),H⟩):∀(m i u:Nat)(H:Hp),i+m=a.length->H [0]=⟨u,.arr 2 ((KQ a b i).map Fm)⟩ ->
  LoopC (cx Tryz.prog w0 I0 n0) F4 Q ⟨lk [(0,CN a),(1,CN b),(8,.sl false (Hh (fun i=>(AX a b i:Nat)) (a.length+1))),(9,.osl [0] u 2 0 (KQ a b i).length),(10,iv i)],H⟩:=by
 intro m;induction m with
 |zero=>
  intro i u H hm hH;refine Ab Ah (Ao F4.eq_1) ?_;have:i=a.length:=oF
  subst this;simp;exact hq H u [(10,iv a.length),(35,bv false)] hH
 |succ m ih=>
  intro i u H hm hH;have hi:i<a.length:=oF
  have hlen:=kv a b i;have e1:=Ap i;have w1:=(Gx (a:=a) (b:=b) (i:=i) oF).2.1;have w2:=(Gx (a:=a) (b:=b) (i:=i+1) oF).2.1;have wm:=TM (a:=a) (b:=b) (i:=i) (h:=i+1) oF oF;have e2:i64.wrap ((AX a b (i+1):Int)-(AX a b i:Int))=((AX a b (i+1)-AX a b i:Nat):Int):=AU;have c1:(i:Int)<(a.length:Int)+1:=oF
  have c2:(i:Int)+1<(a.length:Int)+1:=oF
  have c3:(0:Int)<=(i:Int)+1:=oF
  have d1:i<a.length+1:=oF
  have d2:i+1<a.length+1:=oF
  have next:=ih (i+1)
  rw[VS]at next
  refine Ab Ah (Ao F4.eq_1) ?_;by_cases h:AX a b i<AX a b (i+1)
  ·have hs:Xb (AX a b i) (AX a b (i+1))=[⟨2,AX a b (i+1)-AX a b i-1⟩,⟨0,1⟩]:=by rw[Xb,if_pos h]
   have hgt:(0:Int)<((AX a b (i+1)-AX a b i:Nat):Int):=oF
   have e3:i64.wrap (((AX a b (i+1)-AX a b i:Nat):Int)-1)=((AX a b (i+1)-AX a b i-1:Nat):Int):=AU;rw[hs]at next
   simp[hi,e1,e2,c1,c2,c3,d1,d2,hgt,e3,hH];refine⟨fun _=>⟨oF,?_⟩,fun _=>oF⟩;rw[Ax iS];have:=next (u+1) (Ar H [0] ⟨u+1,.arr 2 ((KQ a b i++[(⟨2,AX a b (i+1)-AX a b i-1⟩:Sp),⟨0,1⟩]).map Fm)⟩) oF (by simp[Aa])
   simpa[Fm,JD]using this
  ·have hs:Xb (AX a b i) (AX a b (i+1))=[⟨1,1⟩]:=by rw[Xb,if_neg h]
   have h0:AX a b (i+1)-AX a b i=0:=oF
   rw[hs]at next
   simp[hi,e1,e2,c1,c2,c3,d1,d2,h0,hH];refine⟨oF,?_⟩;rw[Ax iS];have:=next (u+1) (Ar H [0] ⟨u+1,.arr 2 ((KQ a b i++[(⟨1,1⟩:Sp)]).map Fm)⟩) oF (by simp[Aa])
   simpa[Fm,JD]using this
end
theorem mM{a b:List Int}(hal:a.length<=30000)(hb:b.length<=1000000){M0:Int}(hM0:B6 M0):G.Spec Tryz.prog 142 [CN a,CN b,iv M0] (if (Ct a b:Int)<=M0 then .tup [Sk (J7 (GU a b)),bv true]else .tup [.sl false [],bv false]):=by
 have hc:=iP (a:=a) (b:=b) oF hb;have hw:=xP (a:=a) (b:=b) oF hb;have ll:=HI a b;have e0:i64.wrap ((a.length:Int)+b.length)=(a.length:Int)+b.length:=CX;have e1:i64.wrap (2*(AK a b:Int))=2*(AK a b:Int):=CX;have e2:i64.wrap ((a.length:Int)+b.length-2*(AK a b:Int))=(Ct a b:Int):=by unfold Ct;rw[AJ oF oF];omega
 have hlen:=kv a b a.length;have wl:=(Gx (a:=a) (b:=b) (Cq a.length)).2.1;have hN:=jH (all:=KQ a b a.length++[⟨2,b.length-AX a b a.length⟩]) (cp (xX hb a.length (Cq _)) (by simp;exact⟨iS,by simp;omega⟩)) (by simp;omega);rw[mH]at hN;refine Aj T6 iS fun w0 I0=>?_;rw[BG ME.eq_1];simp;refine Ae hc iS ?_;by_cases h:(Ct a b:Int)<=M0
 ·have h':¬M0<(Ct a b:Int):=oF
  simp[e0,e1,e2,h,h'];refine Ae hw iS ?_;simp[Vb];refine LoopC.le (Al [(0,CN a),(1,CN b),(8,.sl false (Hh (fun i=>(AX a b i:Nat)) (a.length+1))),(9,.osl [0] 1 2 0 (KQ a b 0).length),(10,iv (0:Nat))] (by simp[KQ])) ?_;refine yz oF hb (fun H u st hH=>?_) a.length 0 1 _ oF (by simp[KQ,Fm,JD]);have e3:i64.wrap ((b.length:Int)-(AX a b a.length:Int))=((b.length-AX a b a.length:Nat):Int):=AU;have c1:(a.length:Int)<(a.length:Int)+1:=oF
  simp[hH,e3,c1];refine⟨oF,?_⟩;refine Yk [Sk (KQ a b a.length++[⟨2,b.length-AX a b a.length⟩])] hN (by
   simp[Aa];rw[Ax iS];have:=AQ (H:=Ar H [0] ⟨u+1,.arr 2 ((KQ a b a.length++[(⟨2,b.length-AX a b a.length⟩:Sp)]).map Fm)⟩) (o:=[0]) (u:=u+1) (sz:=2) (l:=KQ a b a.length++[(⟨2,b.length-AX a b a.length⟩:Sp)]) (f:=Fm) (n:=(KQ a b a.length).length+1) (by simp[Aa]) iS (fun x=>rfl);show Iz _ _ (.sl false (List.map Fm (KQ a b a.length++[(⟨2,b.length-AX a b a.length⟩:Sp)])));simpa[Fm,JD]using this) iS ?_
  simp;exact Ad rfl
 ·have h':M0<(Ct a b:Int):=oF
  simp[e0,e1,e2,h,h'];exact AM (by simp;exact⟨Ai,Ad rfl⟩)
end Go.Proofs.YtlaapfplenlfaaaGreat
namespace Go.PL
open Go
def Gc(list:Int)(e:E):Bool:=decide (e.kind=0)|| (decide (list=9)&&decide (e.kind=2)&&e.words.isEmpty&&e.kids.isEmpty)
def Dd(g:List T):List OP:=if g=[]then []else [.mk 1 0 g E0]
def Cb(b:List T):List OP:=if b=[]then []else [.mk 2 0 b E0]
def MU(out:List OP)(g b:List T):List OP:=out++(Dd g++Cb b)
def Q6(out:List OP)(n:Int):List OP:=match out.getLast? with
 |some (.mk 0 m l e)=>out.dropLast++[.mk 0 (i64.wrap (m+n)) l e]
 |_=>out++[.mk 0 n [] E0]
def DG(list:Int):List OP->List OP->List T->List T->List OP
 |[],out,g,b=>MU out g b
 |o::os,out,g,b=>
  if o.kind=0 then DG list os (Q6 (MU out g b) o.n) [] []
  else if o.kind=1 then DG list os out (g++o.l.map Ag) b
  else if o.kind=2 then DG list os out g (b++o.l.map Ag)
  else if Gc list o.e=true then DG list os (Q6 (MU out g b) 1) [] []
  else DG list os (MU out g b++[.mk 3 0 [] o.e]) [] []
mutual
def Iy:E->E
 |.mk k o n ws ks l os=>if k=1 then .mk 1 (Ag o) (Ag n) [] [] 0 []else if k=2 then .mk 2 T0 T0 ws (yR ks) 0 []else if k=3 then .mk 3 T0 T0 [] [] l (DG l (yk os) [] [] [])else E0
def yR:List KE->List KE
 |[]=>[]
 |.mk a e::l=>.mk a (Iy e)::yR l
def yk:List OP->List OP
 |[]=>[]
 |.mk k n t e::l=>.mk k n t (Iy e)::yk l
end
def Xr(x:KE):KE:=.mk x.at_ (Iy x.e)
def Kh(x:OP):OP:=.mk x.kind x.n x.l (Iy x.e)
theorem kf:∀l,yR l=l.map Xr
 |[]=>by simp[yR]
 |.mk a e::l=>by rw[yR,kf l];rfl
theorem jW:∀l,yk l=l.map Kh
 |[]=>by simp[yk]
 |.mk k n t e::l=>by rw[yk,jW l];rfl
theorem FI(k:Int)(o n:T)(ws:List WE)(ks:List KE)(l:Int)(os:List OP):Iy (.mk k o n ws ks l os)=if k=1 then .mk 1 (Ag o) (Ag n) [] [] 0 []else if k=2 then .mk 2 T0 T0 ws (ks.map Xr) 0 []else if k=3 then .mk 3 T0 T0 [] [] l (DG l (os.map Kh) [] [] [])else E0:=by
 rw[Iy,kf,jW]
end Go.PL
namespace Go.Proofs.YtlaapfplenlfaaaGreat
set_option maxRecDepth 20000
open Go Go.G Go.Proofs
@[simp]theorem Ahk:BW Tryz.prog 30=some (Value.agg #[Value.int i64 0,Value.int i64 0,Value.slice none 0 0,Value.slice none 0 0,Value.int i64 0,Value.slice none 0 0,Value.slice none 0 0,Value.slice none 0 0,Value.slice none 0 0,Value.int i64 0,Value.slice none 0 0]):=by kernel_rfl
@[simp]theorem tY:Am Tryz.prog 148 0=some 0:=by kernel_rfl
@[simp]theorem tB:Am Tryz.prog 148 1=some 1:=by kernel_rfl
@[simp]theorem tR:Am Tryz.prog 148 2=some 2:=by kernel_rfl
@[simp]theorem tV:Am Tryz.prog 156 0=some 0:=by kernel_rfl
@[simp]theorem Ae8(ps:List (Nat × A)):CY Tryz.prog 30 ps=(DI (fun i=>([(0,1),(1,3),(4,3),(7,1),(8,1),(9,1),(10,1)]:List (Nat × Nat))[i]?) [iv 0,iv 0,A.sl true [],A.sl true [],iv 0,A.sl true [],A.sl true [],A.sl true [],A.sl true [],iv 0,A.sl true []] ps).map A.agg:=by kernel_rfl
@[simp]theorem Agy(ps:List (Nat × A)):CY Tryz.prog 85 ps=(DI (fun i=>([(0,1),(1,1),(2,1),(3,1)]:List (Nat × Nat))[i]?) [iv 0,A.v (Value.int IntKind.u8 0),A.v (Value.int u64 0),A.v (Value.int u64 0)] ps).map A.agg:=by kernel_rfl
@[simp]theorem Afw(ps:List (Nat × A)):CY Tryz.prog 88 ps=(DI (fun i=>([(0,1),(1,11)]:List (Nat × Nat))[i]?) [iv 0,iv 0,iv 0,A.sl true [],A.sl true [],iv 0,A.sl true [],A.sl true [],A.sl true [],A.sl true [],iv 0,A.sl true []] ps).map A.agg:=by kernel_rfl
@[simp]theorem Afg(ps:List (Nat × A)):CY Tryz.prog 91 ps=(DI (fun i=>([(0,1),(1,1),(2,1),(3,11)]:List (Nat × Nat))[i]?) [iv 0,iv 0,A.sl true [],iv 0,iv 0,A.sl true [],A.sl true [],iv 0,A.sl true [],A.sl true [],A.sl true [],A.sl true [],iv 0,A.sl true []] ps).map A.agg:=by kernel_rfl
@[simp]theorem Aeo(ps:List (Nat × A)):CY Tryz.prog 148 ps=(DI (fun i=>([(0,1),(1,1),(2,1)]:List (Nat × Nat))[i]?) [A.sl true [],A.sl true [],A.sl true []] ps).map A.agg:=by kernel_rfl
@[simp]theorem Adb(ps:List (Nat × A)):CY Tryz.prog 156 ps=(DI (fun i=>([(0,1)]:List (Nat × Nat))[i]?) [A.sl true []] ps).map A.agg:=by kernel_rfl
def JM:CC:=Bh (cG Tryz.f178 75 [[0,2,3,5,6],[995],[999,6],[4],[4],[]])
def UK:CC:=CV (cG Tryz.f178 1 [[0,2,1000],[3,1001],[5],[996],[999,0,5],[3]]) JM
theorem fE:Bs Tryz.prog 178 17 [(.cell 2 170)] UK:=Aq Tryz.func178
def IE:CC:=Bh (cG Tryz.f155 75 [[5,11,12,13],[995],[999,13],[6,7],[7,17],[6,17],[999],[]])
def RX:CC:=CV (cG Tryz.f155 1 [[0,1],[5],[0,1,11,12],[996],[999,11,12],[4,5]]) IE
theorem aN:Bs Tryz.prog 155 24 [(.tmp 4)] RX:=Aq Tryz.func155
def Ep:CC:=Bh (cG Tryz.f138 151 [[5,6,7,8,9,15],[995],[999,15],[24],[24],[999],[],[999],[]])
def Kv:CC:=CV (cG Tryz.f138 1 [[0,1],[0,1,5,6,5000,6001],[7,8],[9],[996],[999,5,6,8,9],[4,7]]) Ep
theorem RA:Bs Tryz.prog 138 32 [(.tmp 4)] Kv:=Aq Tryz.func138
def R4:CC:=Bh (cG Tryz.f117 1 [[0,3,1000],[0,3,4]])
theorem aB:Bs Tryz.prog 117 27 [(.tmp 4)] R4:=Aq Tryz.func117
def IG:CC:=Bh (cG Tryz.f116 9 [[0,6,7,8,9],[995],[999,9],[5,3001],[5,8002],[]])
def MY:CC:=CV (cG Tryz.f116 1 [[0,6,7,8],[996]]) IG
theorem RO:Bs Tryz.prog 116 23 [] MY:=Aq Tryz.func116
def CM:CC:=Bh (cG Tryz.f118 3 [[0,28],[28,12002],[999],[0]])
def Jn:CC:=CV (cG Tryz.f118 1 [[0,7],[7,12001],[999],[994]]) CM
theorem Pb:Bs Tryz.prog 118 50 [] Jn:=Aq Tryz.func118
def Hb:CC:=Bh (cG Tryz.f115 1 [[0,1],[4],[25],[0,1,4,25],[995],[999,0,1],[0,1,9001]])
theorem JW:Bs Tryz.prog 115 50 [] Hb:=Aq Tryz.func115
def HY:CC:=Bh (cG Tryz.f72 75 [[0,5,11,12,13,14],[995],[999,14],[7,3001],[18],[19],[7,18,19],[7,18,25],[7,18,25],[7,18,33],[7,18,33],[7,41],[7,8,41,4002],[48],[8,48],[8],[8,9003],[999],[]])
def Vd:CC:=CV (cG Tryz.f72 1 [[0,1],[5,2000],[1,11,12,13],[996],[999,0,11,12,13],[],[4,5]]) HY
theorem fz:Bs Tryz.prog 72 72 [(.tmp 4)] Vd:=Aq Tryz.func72
def Ja:CC:=Bh (cG Tryz.f43 9963 [[2,3,32,33,34,35],[995],[999,35],[5,3004],[5,10005],[]])
def R3:CC:=CV (cG Tryz.f43 1 [[1,2,1000,2001],[3,6002],[12],[13],[1,12,13],[1,12,23],[12,23,5003],[1,32,33,34],[996],[1,32,33,34,50],[1,50],[999],[3]]) Ja
theorem aO:Bs Tryz.prog 43 59 [(.cell 2 30)] R3:=Aq Tryz.func43
def Mm:CC:=Bh (cG Tryz.f137 1 [[0,3,1000],[0,3,4]])
theorem Uy:Bs Tryz.prog 137 29 [(.tmp 4)] Mm:=Aq Tryz.func137
def EW:CC:=Bh (cG Tryz.f168 75 [[0,3,4,8],[995],[999,8],[8000],[]])
def LF:CC:=CV (cG Tryz.f168 1 [[0],[3],[4],[996],[999,0,4],[2,3]]) EW
theorem Sv:Bs Tryz.prog 168 20 [(.tmp 2)] LF:=Aq Tryz.func168
def Dm:CC:=Bh (cG Tryz.f136 71 [[0,2,8,9,30],[995],[999,30],[37],[37,8000],[999],[]])
def NV:CC:=CV (cG Tryz.f136 1 [[0,1,2],[8],[1,9],[996],[999,0,2],[6,7,8,9]]) Dm
theorem VO:Bs Tryz.prog 136 50 [(.tmp 6),(.tmp 7)] NV:=Aq Tryz.func136
def IJ:CC:=Bh (cG Tryz.f104 261707 [[0,1,5,6,11,12],[94],[11,12,94],[4003]])
def GC:CC:=CV (cG Tryz.f104 15947 [[0,1,5,6],[51],[0,1,4,5,6,51],[995],[999,0,1,4,5,6],[11,7002],[64],[64],[75],[75],[999],[994]]) IJ
def IX:CC:=CV (cG Tryz.f104 7755 [[0,1,5,8,9,41],[9,41,5001],[999],[994]]) GC
def CH:CC:=CV (cG Tryz.f104 75 [[0,1,5,6,16],[995],[999,16],[7,8],[6,9],[33],[7,33,5000],[999],[994],[999,6,8,9],[]]) IX
def N4:CC:=CV (cG Tryz.f104 1 [[0,1],[5],[6],[996],[999,0,1,6],[4,5]]) CH
theorem VN:Bs Tryz.prog 104 114 [(.tmp 4)] N4:=Aq Tryz.func104
def FU:CC:=Bh (cG Tryz.f66 19317 [[1,2,3,4,29],[995],[999,29],[18004],[]])
def Mj:CC:=CV (cG Tryz.f66 1 [[1,2,1000,2001],[6],[7],[1,6,7],[1,6,16],[3,6,16,2002],[5003],[4],[996],[999,1,4],[3],[1,52],[1,52],[995],[999],[]]) FU
theorem TD:Bs Tryz.prog 66 63 [(.cell 2 30)] Mj:=Aq Tryz.func66
def W0:CC:=Bh (cG Tryz.f119 1 [[0,1,2,6,1000],[8],[13],[0,1,2,7,8,13],[995],[999,0,1,2,7,8],[0,1,2,7,8]])
theorem jk:Bs Tryz.prog 119 24 [(.cell 6 85),(.tmp 7)] W0:=Aq Tryz.func119
def GJ:CC:=Bh (cG Tryz.f73 75 [[2,3,4,6,7,20,21,22],[995],[999,22],[8],[8,9,10,12004],[10,35],[9,35,5005],[999],[]])
def GO:CC:=Bh (cG Tryz.f73 151 [[2,3,4,6,7,49,50,51],[995],[999,51],[11],[12,9006],[63],[11,12,63,7007],[999],[]])
def Nn:CC:=gR (cG Tryz.f73 1 [[2,3,4,6,1000,2001,3002],[7,2003],[20,21],[996],[999,20,21],[49,50],[996],[999,2,3,4,49,50],[7]]) GJ GO
theorem Wb:Bs Tryz.prog 73 74 [(.cell 6 30)] Nn:=Aq Tryz.func73
def FR:CC:=Bh (cG Tryz.f120 152365 [[0,5,7,10,11,12,19,20,21,22],[995],[999,22],[8,9,4002],[9,28],[7,8,19,20,21,28,4003],[995],[999,7,19,20,21],[]])
def Fw:CC:=CV (cG Tryz.f120 301 [[0,5,10,11,12,13],[995],[999,13],[7,3001],[19,20,21],[996],[999,19,20,21],[8003],[7,8005],[999],[]]) FR
def MN:CC:=CV (cG Tryz.f120 1 [[0,1],[5],[1,10,11,12],[996],[997,0,10,11,12],[4,5]]) Fw
theorem UZ:Bs Tryz.prog 120 55 [(.tmp 4)] MN:=Aq Tryz.func120
def WH:CC:=Bh (cG Tryz.f183 1 [[0,1],[7],[0,1,4,7],[995],[999,0,1,4],[0,1,4]])
theorem iZ:Bs Tryz.prog 183 12 [(.tmp 4)] WH:=Aq Tryz.func183
def RT:CC:=Bh (cG Tryz.f162 1 [[0],[0,2]])
theorem aA:Bs Tryz.prog 162 5 [(.tmp 2)] RT:=Aq Tryz.func162
def RF:CC:=Bh (cG Tryz.f160 1 [[0],[0,2]])
theorem aI:Bs Tryz.prog 160 5 [(.tmp 2)] RF:=Aq Tryz.func160
def Mn:CC:=Bh (cG Tryz.f161 77003 [[1,2,3,9,11,12,20,21,22,26,27,28,29],[995],[999,29],[14,3001],[14,6002],[]])
def Mg:CC:=CV (cG Tryz.f161 75 [[1,2,3,9,20,21,22,23],[995],[999,23],[11,3000],[12],[26,27,28],[996],[997,11,26,27,28],[12,4003],[999],[]]) Mn
def Mw:CC:=Bh (cG Tryz.f161 607 [[1,2,3,15,16,17,45,46,47,48],[995],[999,48],[19,3004],[16,17,8005,15006],[16007],[16,17,19],[]])
def ZO:CC:=gR (cG Tryz.f161 1 [[1,2,3],[9],[20,21,22],[996],[999,20,21,22],[15],[16,17],[998],[9,45,46,47],[996],[999,3,45,46,47],[1,2,8,15,16,17,6008,11009]]) Mg Mw
theorem oh:Bs Tryz.prog 161 100 [(.tmp 8)] ZO:=Aq Tryz.func161
def G9:CC:=Bh (cG Tryz.f123 151 [[0,3,5,9,10,11,12,22],[995],[999,22],[13],[39],[13,39,5002],[13,57],[13,57,6003],[13,73],[14,73],[12004],[13,14],[],[6005],[999],[]])
def YO:CC:=CV (cG Tryz.f123 1 [[0,3,5,6,1000,2001],[9],[6,10,11],[12],[996],[999,0,3,5,10,11,12],[8,9]]) G9
theorem ns:Bs Tryz.prog 123 115 [(.tmp 8)] YO:=Aq Tryz.func123
def Oe:CC:=Bh (cG Tryz.f75 63 [[6]])
def WO:CC:=CV (cG Tryz.f75 1 [[2,3,4,6,1000,2001,3002],[7,2003],[998],[8],[7,8,9,10],[10,28],[28],[999],[994]]) Oe
theorem im:Bs Tryz.prog 75 47 [(.cell 6 30)] WO:=Aq Tryz.func75
def YH:CC:=Bh (cG Tryz.f44 1 [[2,3,4,6,1000,2001,3002],[7],[2,3,4,7],[2,3,4,12],[2,3,4,12],[2,3,4,25],[2,3,4,25],[995],[999,3,4],[3,4]])
theorem n5:Bs Tryz.prog 44 43 [(.cell 6 30)] YH:=Aq Tryz.func44
def Tl:CC:=Bh (cG Tryz.f24 1 [[2,3,4,6,1000,2001,3002],[2,3,4]])
theorem fC:Bs Tryz.prog 24 14 [(.cell 6 30)] Tl:=Aq Tryz.func24
def ML:CC:=Bh (cG Tryz.f139 1 [[1,2,1000],[9],[1,2,4,9],[995],[999,4],[4]])
theorem Uv:Bs Tryz.prog 139 15 [(.tmp 4)] ML:=Aq Tryz.func139
def Nz:CC:=Bh (cG Tryz.f140 1 [[1,2,4,1000,2001],[9],[1,2,9],[995],[999],[]])
theorem V3:Bs Tryz.prog 140 16 [(.cell 4 25)] Nz:=Aq Tryz.func140
def Ee:CC:=Bh (cG Tryz.f105 75 [[2,3,4,6,7,8,24],[995],[999,24],[9],[35],[9,35,17004],[999],[]])
def D9:CC:=Bh (cG Tryz.f105 151 [[2,3,4,6,7,10,65],[995],[999,65],[11,9005],[78],[11,78,7006],[999],[]])
def JZ:CC:=gR (cG Tryz.f105 1 [[2,3,4,6,1000,2001,3002],[7,2003],[8],[996],[999,8],[10],[996],[999,2,3,4,10],[7]]) Ee D9
theorem Qa:Bs Tryz.prog 105 88 [(.cell 6 30)] JZ:=Aq Tryz.func105
def Me:CC:=Bh (cG Tryz.f144 1 [[0,1,2],[9],[0,1,2,6,9],[995],[999,0,1,2,6],[0,1,2,6,6000]])
theorem U3:Bs Tryz.prog 144 17 [(.tmp 6)] Me:=Aq Tryz.func144
def GQ:CC:=Bh (cG Tryz.f143 9803 [[0,1,2,7,8,9,30],[995],[999,30],[],[]])
def Gz:CC:=CV (cG Tryz.f143 75 [[0,1,2,7,8,18],[995],[999,18],[4000,5003,6001],[9],[996],[999,9],[]]) GQ
def GF:CC:=Bh (cG Tryz.f143 1215 [[0,1,2,10,11,12,13,14,53],[995],[999,53],[12],[13],[22002],[12],[13],[]])
def NR:CC:=gR (cG Tryz.f143 1 [[0,1,2],[7],[8],[996],[997,8],[7,10],[11],[12,13],[14],[996],[999,2,10,14],[0,12],[1,6,11,13]]) Gz GF
theorem Vz:Bs Tryz.prog 143 120 [(.tmp 6)] NR:=Aq Tryz.func143
def EX:CC:=Bh (cG Tryz.f106 31298303 [[2,3,4,6,11,13,14,15,16,17,18,19005],[17],[18]])
def Bo:CC:=CV (cG Tryz.f106 4863 [[2,3,4,6,11,13,14,15,16,57],[995],[999,57],[17],[69],[84],[69,84,6004],[],[17],[17,99],[18,99],[114],[114],[],[999],[994],[18],[17],[999],[]]) EX
def HR:CC:=CV (cG Tryz.f106 127 [[2,3,4,6,11,13,4003],[14,15],[16],[996],[999,2,3,4,11,14,15,16],[13]]) Bo
def Lq:CC:=CV (cG Tryz.f106 1 [[2,3,4,6,1000,2001,3002],[7],[998],[8],[7,10],[998],[8,10,11,12],[12,41],[41],[999],[994]]) HR
theorem Ti:Bs Tryz.prog 106 150 [(.cell 6 30)] Lq:=Aq Tryz.func106
def Lu:CC:=Bh (cG Tryz.f67 1 [[2,3,4,6,1000,2001,3002],[9],[2,3,4,9],[995],[999,2,3,4],[18],[2,3,4,18],[995],[999,2,3,4],[37],[2,3,4,37],[995],[999,3,4],[3,4]])
theorem Sl:Bs Tryz.prog 67 45 [(.cell 6 30)] Lu:=Aq Tryz.func67
def La:CC:=Bh (cG Tryz.f40 1 [[2,3,4,6,1000,2001,3002],[2,3,4]])
theorem Sj:Bs Tryz.prog 40 14 [(.cell 6 30)] La:=Aq Tryz.func40
def Mi:CC:=Bh (cG Tryz.f39 1 [[1,1000],[1,2]])
theorem Tp:Bs Tryz.prog 39 15 [(.tmp 2)] Mi:=Aq Tryz.func39
end Go.Proofs.YtlaapfplenlfaaaGreat
namespace Go.Proofs.YtlaapfplenlfaaaGreat
open Go Go.G Go.Proofs Go.PL
theorem yW:∀i:Fin 8,∀m:Fin 256,m.val<2 ^ i.val->bits .or .u8 (m.val:Int) ((2 ^ i.val:Nat):Int)=(m.val:Int)+((2 ^ i.val:Nat):Int):=by decide +kernel
def BP(x:Int)(i:Nat):Int:=x / 256 ^ i % 256
def FY(a b:Int):Nat->Nat
 |0=>0
 |k+1=>FY a b k+(if BP a k≠BP b k then 2 ^ k else 0)
def DW(a b:Int):Int:=(FY a b 8:Nat)
theorem TK(a b:Int):∀k,FY a b k<2 ^ k
 |0=>by simp[FY]
 |k+1=>by
  have:=TK a b k;unfold FY;rw[Nat.pow_succ];split<;>omega
theorem Tm(a b:Int):0<=DW a b/\DW a b<256:=by
 have:=TK a b 8;unfold DW;omega
theorem LW:∀(n:Nat)(x:Int)(i:Nat),i<n->(C6 n x)[i]? = some (BP x i)
 |n+1,x,0,_=>by simp[C6,BP]
 |n+1,x,i+1,h=>by
  have:=LW n (x / 256) i oF;simp only[C6,List.getElem?_cons_succ];rw[this];unfold BP;rw[Int.ediv_ediv_of_nonneg oF,Int.pow_succ,Int.mul_comm]
theorem yF{a b:Int}(ha:Ba a)(hb:Ba b)(i:Nat):BP (bits .xor .u64 a b) i=0↔BP a i=BP b i:=by
 obtain⟨x,rfl⟩:∃x:Nat,a=x:=⟨a.toNat,by unfold Ba at ha;omega⟩;obtain⟨y,rfl⟩:∃y:Nat,b=y:=⟨b.toNat,by unfold Ba at hb;omega⟩;unfold Ba at ha hb;rw[bits_xor_u64_nat x y oF oF];unfold BP;have h:∀z:Nat,((z:Int) / 256 ^ i % 256)=(((z / 2 ^ (8*i)) % 2 ^ 8:Nat):Int):=fun z=>by
  have h1:((256:Int) ^ i)=((2 ^ (8*i):Nat):Int):=by
   rw[Nat.pow_mul,Int.natCast_pow];rfl
  rw[h1,Int.natCast_emod,Int.natCast_ediv];rfl
 rw[h,h,h];have e:((x ^^^ y) / 2 ^ (8*i)) % 2 ^ 8=((x / 2 ^ (8*i)) % 2 ^ 8) ^^^ ((y / 2 ^ (8*i)) % 2 ^ 8):=by
  rw[<-Nat.shiftRight_eq_div_pow,<-Nat.shiftRight_eq_div_pow,<-Nat.shiftRight_eq_div_pow,Nat.shiftRight_xor_distrib,Nat.xor_mod_two_pow]
 rw[e];constructor
 ·intro h;have h:((x / 2 ^ (8*i)) % 2 ^ 8) ^^^ ((y / 2 ^ (8*i)) % 2 ^ 8)=0:=oF
  generalize (x / 2 ^ (8*i)) % 2 ^ 8=p at h ⊢;generalize (y / 2 ^ (8*i)) % 2 ^ 8=q at h ⊢;have h2:p ^^^ q ^^^ q=q:=by rw[h,Nat.zero_xor]
  rw[Nat.xor_assoc,Nat.xor_self,Nat.xor_zero]at h2;rw[h2]
 ·intro h;have h:(x / 2 ^ (8*i)) % 2 ^ 8=(y / 2 ^ (8*i)) % 2 ^ 8:=oF
  rw[h,Nat.xor_self];rfl
variable {n0:Nat} {w0:World} {I0:Nat->Prop} {Q:Exit->Sta->Prop}
theorem AcV{a b:Int}(ha:Ba a)(hb:Ba b){H:Hp}(hq:∀st,Q (.exit 0) ⟨lk ([(5,u8 (DW a b))]++st),H⟩):∀(m i:Nat),i+m=8 ->
  LoopC (cx Tryz.prog w0 I0 n0) IE Q ⟨lk [(5,u8 (FY a b i:Nat)),(11,.agg (PV (AI (bits .xor .u64 a b)))),(12,iv i)],H⟩:=by
 intro m;induction m with
 |zero=>
  intro i hm;refine Ab Ah (Ao IE.eq_1) ?_;have:i=8:=oF
  subst this;simp;exact hq [(11,.agg (PV (AI (bits .xor .u64 a b)))),(12,iv 8),(13,bv false)]
 |succ m ih=>
  intro i hm;have hi:i<8:=oF
  have hi':(i:Int)<8:=oF
  have ew:=Ap i;have hb1:(AI (bits .xor .u64 a b))[i]? = some (BP (bits .xor .u64 a b) i):=LW 8 _ i hi;have hx:=yF ha hb i;have hlt:=TK a b i;have next:=ih (i+1) oF
  refine Ab Ah (Ao IE.eq_1) ?_;by_cases h:BP a i=BP b i
  ·have h0:=hx.2 h;have e:FY a b (i+1)=FY a b i:=by simp[FY,h]
   rw[e]at next
   simp[hi',hi,ew,PV,hb1,h0];simpa[PV]using next
  ·have h0:¬BP (bits .xor .u64 a b) i=0:=fun e=>h (hx.1 e);have e:FY a b (i+1)=FY a b i+2 ^ i:=by simp[FY,h]
   rw[e]at next
   have p8:2 ^ i<256:=by
    have:2 ^ i<=2 ^ 7:=Nat.pow_le_pow_right oF oF;omega
   have eb:IntKind.u8.wrap (2 ^ min i IntKind.u8.bits)=((2 ^ i:Nat):Int):=by
    have:min i IntKind.u8.bits=i:=Nat.min_eq_left (by show i<=8;omega);rw[this,IntKind.wrap_u8,Int.natCast_pow];have:((2:Int) ^ i)=((2 ^ i:Nat):Int):=by rw[Int.natCast_pow];rfl
    omega
   have eo:=yW ⟨i,hi⟩ ⟨FY a b i,oF⟩ hlt;simp only at eo;simp[hi',hi,ew,PV,hb1,h0];rw[eb,eo,<-Int.natCast_add];simpa[PV]using next
def Zj(x:Int)(i:Nat):List Int:=(List.range 8).map fun j=>if j<i then BP x j else 0
theorem Nt(x:Int)(i:Nat):(Zj x i).length=8:=by simp[Zj]
theorem tf(x:Int):Zj x 0=List.replicate 8 0:=by simp[Zj];rfl
theorem xO(x:Int):Zj x 8=AI x:=by
 apply List.ext_getElem?;intro j;by_cases h:j<8
 ·rw[show(AI x)[j]? = _ from LW 8 x j h];simp[Zj,h]
 ·rw[List.getElem?_eq_none (by rw[Nt];omega),List.getElem?_eq_none (by simp[AI];omega)]
theorem yo(x:Int){i:Nat}(h:i<8):(Zj x i).set i (BP x i)=Zj x (i+1):=by
 apply List.ext_getElem?;intro j;by_cases hj:j<8
 ·by_cases e:j=i
  ·subst e;rw[List.getElem?_set_self (by rw[Nt];omega)];simp[Zj,hj]
  ·rw[List.getElem?_set_ne oF];simp[Zj,hj];have:(j<i+1)=(j<i):=by simp;omega
   simp[this]
 ·rw[List.getElem?_eq_none (by simp[Nt];omega),List.getElem?_eq_none (by rw[Nt];omega)]
theorem zn{x:Int}(hx:Ba x)(hq:∀(st:List (Nat × A))(H:Hp),H [0]=⟨1,.cells (PV (List.replicate 8 0))⟩->H [1]=⟨1,.cells (PV (AI x))⟩->Q (.exit 0) ⟨lk ([(0,uv x),(2,.pob [0] 1 0),(3,.pob [1] 1 0)]++st),H⟩):∀(m i:Nat)(H:Hp),i+m=8->H [0]=⟨1,.cells (PV (List.replicate 8 0))⟩->H [1]=⟨1,.cells (PV (Zj x i))⟩ ->
  LoopC (cx Tryz.prog w0 I0 n0) JM Q ⟨lk [(0,uv x),(2,.pob [0] 1 0),(3,.pob [1] 1 0),(5,iv i)],H⟩:=by
 intro m;induction m with
 |zero=>
  intro i H hm h0 h1;refine Ab Ah (Ao JM.eq_1) ?_;have:i=8:=oF
  subst this;rw[xO]at h1;simp;exact hq [(5,iv 8),(6,bv false)] H h0 h1
 |succ m ih=>
  intro i H hm h0 h1;have hi:i<8:=oF
  have hi':(i:Int)<8:=oF
  have ew:=Ap i;have e8:i64.wrap (8*(i:Int))=((8*i:Nat):Int):=(AJ oF oF).trans oF;have b64:u64.bits=64:=rfl;have e9:(8*(i:Int)).toNat=8*i:=oF
  have ev:IntKind.u8.wrap (x / 2 ^ min (8*i) 64)=BP x i:=by
   rw[IntKind.wrap_u8,Nat.min_eq_left oF];unfold BP;have h1:((256:Int) ^ i)=((2:Int) ^ (8*i)):=by rw[Int.pow_mul];rfl
   rw[h1]
   try rfl
  refine Ab Ah (Ao JM.eq_1) ?_;simp[hi',hi,ew,e8,e9,b64,ev,h1,Nt];refine⟨oF,oF,?_⟩;rw[Y8 (by rw[Nt];omega),yo x hi];simpa using ih (i+1) _ oF (by simp[Aa,h0]) (by simp[Aa])
theorem jB{x:Int}(h:Ba x):G.Spec Tryz.prog 178 [uv x] (.agg (PV (AI x))):=by
 refine Aj fE iS fun w0 I0=>?_;rw[BG UK.eq_1];simp;refine LoopC.le (Al [(0,uv x),(2,.pob [0] 1 0),(3,.pob [1] 1 0),(5,iv (0:Nat))] iS) ?_;refine zn h (fun st H h0 h1=>?_) 8 0 _ rfl (by simp[Aa]) (by simp[Aa,tf]);have e:List.take 8 (PV (AI x))=PV (AI x):=Ax (by simp[AI]);have el:(AI x).length=8:=by simp[AI]
 simp[h1,h0,Aa,e,el];exact⟨by simp[A.ones],bm⟩
theorem dM{a b:Int}(ha:Ba a)(hb:Ba b):G.Spec Tryz.prog 155 [uv a,uv b] (u8 (DW a b)):=by
 have hu:Ba (bits .xor .u64 a b):=by
  obtain⟨x,rfl⟩:∃x:Nat,a=x:=⟨a.toNat,by unfold Ba at ha;omega⟩;obtain⟨y,rfl⟩:∃y:Nat,b=y:=⟨b.toNat,by unfold Ba at hb;omega⟩;unfold Ba at ha hb;rw[bits_xor_u64_nat x y oF oF];have:=@Nat.xor_lt_two_pow x y 64 oF oF;unfold Ba;omega
 refine Aj aN iS fun w0 I0=>?_;rw[BG RX.eq_1];simp;refine Ae (jB hu) iS ?_;simp;refine LoopC.le (Al [(5,u8 (FY a b 0:Nat)),(11,.agg (PV (AI (bits .xor .u64 a b)))),(12,iv (0:Nat))] (by simp[FY])) ?_;refine AcV ha hb (fun st=>?_) 8 0 rfl;simp;exact Ad rfl
theorem Adc{a b:Int}{H:Hp}(h0:H [0]=⟨1,.cells (PV (AI a))⟩)(h1:H [1]=⟨1,.cells (PV (AI b))⟩)(hq:Q (.exit 0) ⟨lk [(5,.pob [0] 1 0),(6,.pob [1] 1 0),(7,iv (DW a b)),(8,iv 256),(9,iv 8),(15,bv false)],H⟩):∀(m i:Nat),i+m=8 ->
  LoopC (cx Tryz.prog w0 I0 n0) Ep Q ⟨lk [(5,.pob [0] 1 0),(6,.pob [1] 1 0),(7,iv (FY a b i:Nat)),(8,iv (2 ^ i:Nat)),(9,iv i)],H⟩:=by
 intro m;induction m with
 |zero=>
  intro i hm;refine Ab Ah (Ao Ep.eq_1) ?_;have:i=8:=oF
  subst this;simp;exact hq
 |succ m ih=>
  intro i hm;have hi:i<8:=oF
  have hi':(i:Int)<8:=oF
  have ew:=Ap i;have hg:∀(x:Int)(g:i<(AI x).length),(AI x)[i]=BP x i:=fun x g=>by
   have:=LW 8 x i hi;exact(List.getElem_eq_iff g).2 this
  have hlt:=TK a b i;have p8:2 ^ i<256:=by
   have:2 ^ i<=2 ^ 7:=Nat.pow_le_pow_right oF oF;omega
  have e2:i64.wrap (2*((2 ^ i:Nat):Int))=((2 ^ (i+1):Nat):Int):=by rw[AJ oF oF,Nat.pow_succ];omega
  have e1:i64.wrap ((FY a b i:Int)+((2 ^ i:Nat):Int))=((FY a b i+2 ^ i:Nat):Int):=AU;have next:=ih (i+1) oF
  refine Ab Ah (Ao Ep.eq_1) ?_;generalize hp:2 ^ i=p at *;have hlb:∀x:Int,(AI x).length=8:=fun x=>by simp[AI]
  by_cases h:BP a i=BP b i
  ·have e:FY a b (i+1)=FY a b i:=by simp[FY,h]
   rw[e]at next
   simp[hi',hi,ew,hg,h0,h1,h,hlb,e2,hp];simpa using next
  ·have e:FY a b (i+1)=FY a b i+p:=by simp[FY,h,hp]
   rw[e]at next
   simp[hi',hi,ew,hg,h0,h1,h,hlb,e2,hp];rw[e1];simpa using next
theorem fR{a b:Int}(ha:Ba a)(hb:Ba b):G.Spec Tryz.prog 138 [uv a,uv b] (u8 (DW a b)):=by
 have hin:=Tm a b;have e8:IntKind.u8.wrap (DW a b)=DW a b:=by rw[IntKind.wrap_u8];omega
 refine Aj RA iS fun w0 I0=>?_;rw[BG Kv.eq_1];simp;refine Ae (Ms ha) iS ?_;simp;refine Ae (Ms hb) iS ?_;simp;have el:∀x:Int,(AI x).length=8:=fun x=>by simp[AI]
 refine⟨⟨el a,by simp[A.ones]⟩,⟨el b,by simp[A.ones]⟩,?_⟩;refine LoopC.le (Al [(5,.pob [0] 1 0),(6,.pob [1] 1 0),(7,iv (FY a b 0:Nat)),(8,iv (2 ^ 0:Nat)),(9,iv (0:Nat))] (by simp[FY])) ?_;refine Adc (a:=a) (b:=b) (by simp[Aa,el]) (by simp[Aa,el]) ?_ 8 0 rfl;simp[e8];exact Ad rfl
def ZL(at_:Int)(a b:Int):WE:=⟨at_,DW a b,BI 0 a (DW a b),BI 0 b (DW a b)⟩
def WE0:WE:=⟨0,0,0,0⟩
theorem ml{i a b:Int}(ha:Ba a)(hb:Ba b):G.Spec Tryz.prog 119 [iv i,uv a,uv b] (.tup [wX (if DW a b=0 then WE0 else ZL i a b),bv (!decide (DW a b=0))]):=by
 have hin:=Tm a b;have z:Ba 0:=by unfold Ba;omega
 refine Aj jk iS fun w0 I0=>?_;rw[Ao W0.eq_1];simp;refine Ae (dM ha hb) iS ?_;by_cases h:DW a b=0
 ·simp[h];exact Ad rfl
 ·simp[h];refine Ae (Hy z ha hin.1 hin.2) iS ?_;simp;refine Ae (Hy z hb hin.1 hin.2) iS ?_;simp;exact Ad rfl
theorem Aae{l:List Nat}:∀x,x∈l.map nv->F5 (fun _=>x):=fun x hx=>by
 obtain⟨n,_,rfl⟩:=List.mem_map.1 hx;exact AH
abbrev nvM(u:Nat)(l:List Nat):Fam:=sc u 1 (l.map nv) Aae
theorem P7:∀(l:List T)(ks:List T)(t:T),BM ks (l++[t])=(F8 (BM ks l).1 (Ag t),(BM ks l).2++[Fj (BM ks l).1 (Ag t)])
 |[],ks,t=>by simp[BM]
 |a::l,ks,t=>by simp[BM,P7 l]
theorem CU:∀(l:List T)(ks:List T),(BM ks l).2.length=l.length
 |[],ks=>rfl
 |a::l,ks=>by simp[BM,CU l]
section
variable {n0:Nat} {w0:World} {I0:Nat->Prop} {M0:Nm->Nat->Prop} {m0:Mu} {Q:Exit->Sta->Prop}
end
theorem fV{l:List T}:∀x,x∈l.map tA->F5 (fun _=>x):=fun x hx=>by
 obtain⟨t,_,rfl⟩:=List.mem_map.1 hx;exact Fb (tA_eq t) fun y hy=>by
  simp at hy;rcases hy with rfl|rfl|rfl<;>rfl
abbrev trM(u:Nat)(l:List T):Fam:=sc u 3 (l.map tA) fV
theorem Aax(t:T):F5 (fun _=>tX t):=Fb rfl fun y hy=>by
 simp at hy;rcases hy with rfl|rfl|rfl<;>rfl
theorem YY{ks:List T}{n:T}{i:Nat}(h:i<ks.length)(e:ks[i]=n)(hb:∀(x:Nat)(hx:x<i),ks[x]'oF≠n):Fj ks n=i:=by
 unfold Fj;rw[List.findIdx_eq h];refine⟨sameB_iff.2 e,fun j hj=>?_⟩;rw[Bool.eq_false_iff];exact fun h2=>hb j hj (sameB_iff.1 h2)
noncomputable def lF(u:Nat)(ks:List T)(n:T):Nat:=if Fj ks n<ks.length then u else u+1
section
variable {n0:Nat} {w0:World} {I0:Nat->Prop} {M0:Nm->Nat->Prop} {m0:Mu} {Q:Exit->Sta->Prop}
theorem zu{ks:List T}(hw:∀k,k∈ks->Ay k)(hl:ks.length<=1000000){n:T}{u:Nat}{H:Hp}(hN:H [2]=⟨1,.cells (tL n)⟩)(hK:H [0]=⟨u,.arr 3 (ks.map tA)⟩)
  (hq:Fj ks n=ks.length->∀i q,Q (.exit 0) ⟨lk [(0,.osl [0] u 3 0 ks.length),(6,.pob [2] 1 0),(7,i),(13,bv q)],H⟩) (hq2:Fj ks n<ks.length->Q .ret ⟨lk [(4,.osl [0] u 3 0 ks.length),(5,nv (Fj ks n))],H⟩):∀(j i:Nat),i+j=ks.length->(∀(x:Nat)(hx:x<i)(h:x<ks.length),ks[x]≠n) ->
  LoopC (En Tryz.prog w0 I0 M0 n0 m0) EN Q ⟨lk [(0,.osl [0] u 3 0 ks.length),(6,.pob [2] 1 0),(7,nv i)],H⟩:=by
 intro j;induction j with
 |zero=>
  intro i hi hb;have:i=ks.length:=oF
  subst this;refine Ab Ah (Ao EN.eq_1) ?_;simp;exact hq (cQ fun hm=>by
   obtain⟨x,hx,e⟩:=List.mem_iff_getElem.1 hm;exact hb x hx hx e) _ _
 |succ j ih=>
  intro i hi hb;have hlt:i<ks.length:=oF
  have ei:=Ap i;refine Ab Ah (Ao EN.eq_1) ?_;simp[hlt,hN,hK];refine Ae (Hg _ (hw _ (Bv hlt)) n) iS ?_;by_cases he:ks[i]=n
  ·have hc:=YY hlt he fun x hx=>hb x hx oF;rw[hc]at hq2;have:Fs ks[i] n=true:=sameB_iff.2 he;simp[this];exact hq2 hlt
  ·have:Fs ks[i] n=false:=by rw[Bool.eq_false_iff];exact fun h=>he (sameB_iff.1 h)
   simp[this,ei];refine ih (i+1) oF fun x hx h=>?_;by_cases e:x=i
   ·subst e;exact he
   ·exact hb x oF h
end
theorem iB{ks:List T}(hw:∀k,k∈ks->Ay k)(hl:ks.length<=1000000){t:T}(ht:Ay t)(u:Nat) :
  SpecF Tryz.prog 169 (fun r=>[.osl [r] u 3 0 ks.length,tX t]) (trM u ks) (fun r=>.tup [.osl [r] (lF u ks (Ag t)) 3 0 (F8 ks (Ag t)).length,nv (Fj ks (Ag t))]) (trM (lF u ks (Ag t)) (F8 ks (Ag t))):=by
 refine Az S6 iS (Af BH (Af (Aax t) Ak)) (Bj (Af BH (Af AH Ak))) fun w0 I0 M0 m0=>?_;rw[BG LZ.eq_1];simp;refine Ae (CP t ht) iS ?_;simp;refine zu hw hl (n:=Ag t) (u:=u) iS iS (fun hc i q=>?_) (fun hc=>?_) ks.length 0 oF (fun x hx=>oF)
 ·have h1:lF u ks (Ag t)=u+1:=by simp[lF,hc]
  have h2:F8 ks (Ag t)=ks++[Ag t]:=by simp[F8,hc]
  have h3:(ks.length+1)*56<=140737488355328:=oF
  simp[h3];refine Av rfl ?_ fun p=>?_
  ·simp[h1,h2,hc]
  ·rw[h1,h2];by_cases hp:p=[]
   ·subst hp;simp[Aa,Ax]
   ·simp[Aa,hp]
 ·have h1:lF u ks (Ag t)=u:=by simp[lF,hc]
  have h2:F8 ks (Ag t)=ks:=by simp[F8,hc]
  simp[h1,h2];exact Av rfl rfl fun p=>rfl
noncomputable def L9:Nat->List T->List T->Nat
 |u,_,[]=>u
 |u,ks,t::l=>L9 (lF u ks (Ag t)) (F8 ks (Ag t)) l
theorem U7:∀(l:List T)(u:Nat)(ks:List T)(t:T),L9 u ks (l++[t])=lF (L9 u ks l) (BM ks l).1 (Ag t)
 |[],u,ks,t=>by simp[L9,BM]
 |a::l,u,ks,t=>by simp[L9,BM,U7 l]
theorem yG(ks:List T)(n:T):(F8 ks n).length<=ks.length+1:=by
 unfold F8;split<;>simp
theorem Pg:∀(l ks:List T),(BM ks l).1.length<=ks.length+l.length
 |[],ks=>by simp[BM]
 |t::l,ks=>by
  have:=Pg l (F8 ks (Ag t));have:=yG ks (Ag t);simp only[BM,List.length_cons];omega
theorem Aby{ks:List T}{n:T}(h:∀k,k∈ks->Ay k)(hn:Ay n):∀k,k∈F8 ks n->Ay k:=by
 unfold F8;split
 ·exact h
 ·intro k hk;rcases List.mem_append.1 hk with hk|hk
  ·exact h k hk
  ·simp at hk;subst hk;exact hn
theorem TY:∀{l ks:List T},(∀k,k∈ks->Ay k)->(∀k,k∈l->Ay k)->∀k,k∈(BM ks l).1->Ay k
 |[],ks,h,_=>h
 |t::l,ks,h,hl=>TY (l:=l) (Aby h (BV _ (hl t iS))) fun k hk=>hl k (by simp[hk])
section
variable {n0:Nat} {w0:World} {I0:Nat->Prop} {M0:Nm->Nat->Prop} {m0:Mu} {Q:Exit->Sta->Prop}
theorem xD{ks0 ts:List T}(hw:∀k,k∈ks0->Ay k)(ht:∀k,k∈ts->Ay k)(hl:ks0.length+ts.length<=1000000){u0:Nat}(hq:∀(q:Bool)(H:Hp),(∀p,H (0::p)=(trM (L9 u0 ks0 ts) (BM ks0 ts).1).F 0 p)->(∀p,H (1::p)=(nvM (ts.length+1) (BM ks0 ts).2).F 1 p) ->
   Q (.exit 0) ⟨lk [(0,.osl [0] (L9 u0 ks0 ts) 3 0 (BM ks0 ts).1.length),(1,AV ts),(6,.osl [1] (ts.length+1) 1 0 ts.length),(7,nv ts.length),(13,bv q)],H⟩) :
  ∀(j i:Nat)(H:Hp),i+j=ts.length->(∀p,H (0::p)=(trM (L9 u0 ks0 (ts.take i)) (BM ks0 (ts.take i)).1).F 0 p)->(∀p,H (1::p)=(nvM (i+1) (BM ks0 (ts.take i)).2).F 1 p) ->
  LoopC (En Tryz.prog w0 I0 M0 n0 m0) Eb Q ⟨lk [(0,.osl [0] (L9 u0 ks0 (ts.take i)) 3 0 (BM ks0 (ts.take i)).1.length),(1,AV ts),(6,.osl [1] (i+1) 1 0 i),(7,nv i)],H⟩:=by
 intro j;induction j with
 |zero=>
  intro i H hi hH hN;have:i=ts.length:=oF
  subst this;rw[Ax (Cq _)]at hH hN ⊢;refine Ab Ah (Ao Eb.eq_1) ?_;simp;exact hq _ H hH hN
 |succ j ih=>
  intro i H hi hH hN;have hlt:i<ts.length:=oF
  have ei:=Ap i;have htk:ts.take (i+1)=ts.take i++[ts[i]]:=HJ hlt;have hlen:=Pg (ts.take i) ks0;rw[List.length_take,Nat.min_eq_left oF]at hlen;have hwt:=ht _ (Bv hlt);have hC:=iB (TY hw (l:=ts.take i) fun k hk=>ht k (O4 hk)) oF hwt (L9 u0 ks0 (ts.take i));have hlL:(BM ks0 (ts.take i)).2.length=i:=by rw[CU,List.length_take,Nat.min_eq_left oF]
  have ihn:=ih (i+1);rw[htk,U7,P7]at ihn;simp only at ihn;have hN0:=hN [];simp at hN0;refine Ab Ah (Ao Eb.eq_1) ?_;simp[hlt];refine Au 0 hC hH iS iS ?_;generalize (BM ks0 (ts.take i)).2=L at hN hN0 ihn hlL;simp[hN0,ei];refine⟨⟨oF,oF⟩,?_⟩;refine ihn _ oF (fun p=>iS) (fun p=>?_);by_cases hp:p=[]
  ·subst hp;simp[Aa,Ax,hlL]
  ·simp[Aa,hp,hN]
end
theorem R2{ks ts:List T}(hw:∀k,k∈ks->Ay k)(ht:∀k,k∈ts->Ay k)(hl:ks.length+ts.length<=1000000)(u:Nat) :
  pf Tryz.prog 141 (fun r=>[.osl [r] u 3 0 ks.length,AV ts]) (trM u ks) (fun r q=>.tup [.osl [r] (L9 u ks ts) 3 0 (BM ks ts).1.length,.osl [q] (ts.length+1) 1 0 ts.length]) (trM (L9 u ks ts) (BM ks ts).1) (nvM (ts.length+1) (BM ks ts).2):=by
 refine kJ PE iS (Af BH (Af Bp Ak)) (cY (AF (BD BH) (AF (JN BH) E6))) (fun p=>?_) fun w0 I0 M0 m0=>?_
 ·by_cases hp:p=[]
  ·subst hp;exact .inr iS
  ·exact .inl (by simp[hp])
 rw[BG J0.eq_1];simp;refine LoopC.le (BC 6 [1] 1 iS) ?_;simp;refine LoopC.le (Al [(0,.osl [0] u 3 0 ks.length),(1,AV ts),(6,.osl [1] 1 1 0 0),(7,nv 0)] (by simp[upd])) ?_;refine xD hw ht hl (u0:=u) (fun q H h1 h2=>?_) ts.length 0 _ oF (fun p=>by simp[L9,BM]) (fun p=>?_)
 ·simp;exact KU rfl rfl h1 h2
 ·by_cases hp:p=[]
  ·subst hp;simp[BM]
  ·simp[hp,Ne.symm hp]
section
variable {n0:Nat} {w0:World} {I0:Nat->Prop} {Q:Exit->Sta->Prop} {H:Hp}
end
end Go.Proofs.YtlaapfplenlfaaaGreat
namespace Go.PL
def hd(t:T):Int:=t.words.headD 0
structure PutI(w i:Nat)(out:List Int):Prop where
 rng:∀(j:Nat)(h:j<out.length),0<=out[j]/\out[j]<18446744073709551616
 here:∀(h:i*w / 64<out.length),out[i*w / 64]<2 ^ (i*w % 64)
 zero:∀(j:Nat)(h:j<out.length),i*w / 64<j->out[j]=0
theorem PutI.start(w m:Nat):PutI w 0 (List.replicate m 0):=⟨fun j h=>iS,fun h=>iS,fun j h _=>iS⟩
theorem Pp:∀(t:T)(d d':Nat),d<=d'->AW d t=true->AW d' t=true:=by
 refine T.ind fun k w ks ih d d' hd h=>?_;rw[Ds]at h ⊢;by_cases h0:k=0
 ·rw[if_pos h0]at h ⊢; exact h
 ·rw[if_neg h0]at h ⊢;by_cases h10:k=10
  ·rw[if_pos h10]at h ⊢; exact h
  ·rw[if_neg h10]at h ⊢;split at h
   ·cases h
   ·rename_i hb;have hb':¬Fg k d' w.length ks.length=true:=by
     intro e;apply hb;unfold Fg at e ⊢;simp only[Bool.or_eq_true,decide_eq_true_eq]at e ⊢;have:d'=0->d=0:=oF
     rcases e with (((((e|e)|e)|e)|e)|e)|e
     ·exact .inl (.inl (.inl (.inl (.inl (.inl e)))))
     ·exact .inl (.inl (.inl (.inl (.inl (.inr e)))))
     ·exact .inl (.inl (.inl (.inl (.inr (this e)))))
     ·exact .inl (.inl (.inl (.inr e)))
     ·exact .inl (.inl (.inr e))
     ·exact .inl (.inr e)
     ·exact .inr e
    rw[if_neg hb'];refine rightL_all.2 fun t ht=>?_;obtain⟨h1,h2⟩:=rightL_all.1 h t ht;exact⟨ih t ht _ _ oF h1,h2⟩
def wdT(t:T)(i:Nat):Int:=t.words.getD i 0
def kdT(t:T)(i:Nat):T:=t.kids.getD i T0
theorem kc{t:T}(h:WV t=true):t=T0:=by
 obtain⟨k,w,l⟩:=t;simp only[WV,Bool.and_eq_true,decide_eq_true_eq,List.isEmpty_iff,T.kind_mk,T.words_mk,T.kids_mk]at h;obtain⟨⟨h0,rfl⟩,rfl⟩:=h;obtain rfl:=of_decide_eq_true h0;rfl
theorem headOk_iff{d:Nat}{k:Int}{o n:T}{nw nk:Nat}{l:Int}{no:Nat}:Vj d k o n nw nk l no=true↔d≠0/\0<=k/\k<=3/\(k≠1->WV o=true/\WV n=true)/\(k≠2->nw=0/\nk=0)/\(k≠3->l=0/\no=0):=by
 unfold Vj;simp only[Bool.and_eq_true,Bool.not_eq_true',Bool.or_eq_false_iff,Bool.and_eq_false_iff,decide_eq_false_iff_not,Bool.not_eq_false',decide_eq_true_eq];constructor
 ·rintro⟨⟨⟨h1,h2⟩,h3⟩,⟨h4,h5⟩,h6⟩;refine⟨h1,oF,oF,fun hk=>?_,fun hk=>?_,fun hk=>?_⟩
  ·rcases h4 with h4|h4
   ·exact absurd h4 hk
   ·exact h4
  ·rcases h5 with h5|h5
   ·exact absurd h5 hk
   ·omega
  ·rcases h6 with h6|h6
   ·exact absurd h6 hk
   ·exact⟨h6.1,oF⟩
 ·rintro⟨h1,h2,h3,h4,h5,h6⟩;refine⟨⟨⟨h1,oF⟩,oF⟩,⟨?_,?_⟩,?_⟩
  ·by_cases hk:k=1
   ·exact .inl hk
   ·exact .inr (h4 hk)
  ·by_cases hk:k=2
   ·exact .inl hk
   ·exact .inr (by have:=h5 hk;omega)
  ·by_cases hk:k=3
   ·exact .inl hk
   ·exact .inr ⟨(h6 hk).1,by have:=h6 hk;omega⟩
structure Adk(d:Nat)(k:Int)(o n:T)(ws:List WE)(ks:List KE)(l:Int)(os:List OP):Prop where
 d0:d≠0
 k0:0<=k
 k3:k<=3
 one:k≠1->o=T0/\n=T0
 two:k≠2->ws=[]/\ks=[]
 three:k≠3->l=0/\os=[]
 rep:k=1->AW 64 o=true/\AW 64 n=true/\o.kind≠10/\n.kind≠10
 wok:KD (-1) ws=true
 kok:I3 (d-1) (-1) ks=true
 lst:k=3->2<=l/\l<=9
 ook:JT (d-1) l os=true
 len:(BU 0 0 os).1<1048576/\(BU 0 0 os).2<1048576
theorem rightE_iff{d:Nat}{k:Int}{o n:T}{ws:List WE}{ks:List KE}{l:Int}{os:List OP}:DT d (.mk k o n ws ks l os)=true↔Adk d k o n ws ks l os:=by
 rw[Vo];constructor
 ·intro h;by_cases hh:Vj d k o n ws.length ks.length l os.length=true
  ·rw[if_neg (by rw[hh];simp)]at h;obtain⟨h1,h2,h3,h4,h5,h6⟩:=headOk_iff.1 hh;have g1:k≠1->o=T0/\n=T0:=fun hk=>⟨kc (h4 hk).1,kc (h4 hk).2⟩;have g2:k≠2->ws=[]/\ks=[]:=fun hk=>⟨List.length_eq_zero_iff.1 (h5 hk).1,List.length_eq_zero_iff.1 (h5 hk).2⟩;have g3:k≠3->l=0/\os=[]:=fun hk=>⟨(h6 hk).1,List.length_eq_zero_iff.1 (h6 hk).2⟩;by_cases hk:k=1
   ·rw[if_pos hk]at h;simp at h;obtain⟨rfl,rfl⟩:=g2 oF;obtain⟨rfl,rfl⟩:=g3 oF;exact⟨h1,h2,h3,g1,g2,g3,fun _=>⟨h.1.1.1,h.1.1.2,h.1.2,h.2⟩,by simp[KD],iS,fun e=>oF,iS,by simp[BU]⟩
   ·rw[if_neg hk]at h;split at h
    ·cases h
    ·rename_i hw;split at h
     ·cases h
     ·rename_i hks;split at h
      ·cases h
      ·rename_i hl;split at h
       ·cases h
       ·rename_i ho;simp at h hw hks ho;exact⟨h1,h2,h3,g1,g2,g3,fun e=>absurd e hk,hw,hks,fun e=>oF,ho,h⟩
  ·rw[if_pos (by simpa using hh)]at h;cases h
 ·intro h;have hh:Vj d k o n ws.length ks.length l os.length=true:=headOk_iff.2 ⟨h.d0,h.k0,h.k3,fun hk=>by rw[(h.one hk).1,(h.one hk).2];exact⟨rfl,rfl⟩,fun hk=>by rw[(h.two hk).1,(h.two hk).2];exact⟨rfl,rfl⟩,fun hk=>by rw[(h.three hk).1,(h.three hk).2];exact⟨rfl,rfl⟩⟩;rw[if_neg (by rw[hh];simp)];by_cases hk:k=1
  ·rw[if_pos hk];obtain⟨a,b,c,e⟩:=h.rep hk;simp[a,b,c,e]
  ·rw[if_neg hk,if_neg (by rw[h.wok];simp),if_neg (by rw[h.kok];simp),if_neg (by have:=h.lst;omega),if_neg (by rw[h.ook];simp)];simp[h.len]
structure AcW(d:Nat)(list:Int)(x:OP):Prop where
 k0:0<=x.kind
 k3:x.kind<=3
 keep:x.kind=0->1<=x.n/\x.n<=1048576/\x.l=[]
 nn:x.kind≠0->x.n=0
 same:x.kind≠3->x.e=E0
 some:x.kind=1\/x.kind=2->x.l≠[]/\∀t,t∈x.l->AW 64 (.mk list [] [t])=true
 down:x.kind=3->x.l=[]/\x.e.kind≠0/\8<=list/\DT d x.e=true/\pV list x=true
theorem iU:yl E0=true:=rfl
theorem td{d:Nat}{list:Int}{x:OP}(O:AcW d list x):VC d list x=true:=by
 rw[NX,Bool.and_eq_true];unfold Yf;by_cases k0:x.kind=0
 ·obtain⟨a,b,c⟩:=O.keep k0;rw[if_pos k0,if_neg oF,O.same oF,c];exact⟨by simp[a,b,iU],rfl⟩
 ·have hn:=O.nn k0;have h0:=O.k0;have h3:=O.k3;rw[if_neg k0,if_neg oF];by_cases k3:x.kind=3
  ·obtain⟨a,b,c,e,f⟩:=O.down k3;rw[if_neg oF,if_pos k3];refine⟨rfl,?_⟩;rw[e,f];simp[ZY,a,b];omega
  ·obtain⟨a,b⟩:=O.some oF;rw[if_pos oF,if_neg k3,O.same k3];refine⟨?_,rfl⟩;simp[iU,a];exact b
theorem JF:∀(t:T)(d:Nat),AW d t=true->AW d (Ag t)=true:=by
 refine T.ind fun k w l ih d h=>?_;have hk:=HV h;rw[Ds]at h;rw[DS];by_cases h0:k=0
 ·rw[if_pos h0,Ds];rfl
 rw[if_neg h0]at h ⊢;by_cases h10:k=10
 ·subst h10;rw[if_pos rfl]at h;simp at h;obtain⟨hw,rfl⟩:=h;rw[if_neg dO,Ds];simp[hw]
 rw[if_neg h10]at h;by_cases hb:Fg k d w.length l.length=true
 ·rw[if_pos hb]at h;cases h
 have hm:∀(m:List T),(∀t,t∈m->∃u,u∈l/\t=Ag u)->Ih (d-1) k m=true:=fun m hm=>rightL_all.2 fun t ht=>by
  obtain⟨u,hu,rfl⟩:=hm t ht;obtain⟨g1,g2⟩:=hk u hu;refine⟨ih u hu _ g1,?_⟩;unfold Fe at g2 ⊢;rw[C8];cases hd:Jt k with
  |false=>rw[hd]at g2;simpa using g2
  |true=>
   rw[hd]at g2;simp at g2;obtain⟨⟨g3,g4⟩,g5⟩:=g2;obtain⟨uk,uw,ul⟩:=u;simp at g3;subst g3;rw[DS];simp at g4 g5 ⊢;exact⟨g4,g5⟩
 by_cases h1:k=1
 ·subst h1;have hw:=NC w;have hl:=Ny (l.map Ag);rw[List.length_map]at hl;have hb':¬Fg 1 d (DV w).length (Dl (l.map Ag)).length=true:=by
   simp[Fg]at hb ⊢;omega
  rw[if_pos rfl,Ds,if_neg dO,if_neg dO,if_neg hb'];refine hm _ fun t ht=>?_;rw[K6]at ht;obtain⟨u,hu,rfl⟩:=List.mem_map.1 (O4 ht);exact⟨u,hu,rfl⟩
 ·rw[if_neg h1,Ds,if_neg h0,if_neg h10,if_neg (by rw[List.length_map];exact hb)];refine hm _ fun t ht=>?_;obtain⟨u,hu,rfl⟩:=List.mem_map.1 ht;exact⟨u,hu,rfl⟩
inductive SmT:T->Prop
 |mk (k:Int) (w:List Int) (l:List T):l.length<=1048576->(∀t,t∈l->SmT t)->SmT (.mk k w l)
theorem SmT.len{t:T}(h:SmT t):t.kids.length<=1048576:=by cases h;assumption
theorem SmT.kid{t:T}(h:SmT t):∀c,c∈t.kids->SmT c:=by cases h;assumption
theorem Ajc:SmT T0:=.mk _ _ _ (Nat.zero_le _) (fun t h=>by cases h)
theorem SmT.kd{t:T}(h:SmT t)(i:Nat):SmT (kdT t i):=by
 unfold kdT;rw[List.getD_eq_getElem?_getD];cases e:t.kids[i]? with
 |none=>exact Ajc
 |some x=>exact h.kid x (List.mem_of_getElem? e)
theorem Zi{n:Int}:Pa n<=1048576:=by unfold Pa;split<;>omega
theorem KR:∀(os:List OP)(n m:Int),(∀x,x∈os->0<=D4 x)->n<=1048576->m<=1048576->n<=(BU n m os).1/\m<=(BU n m os).2
 |[],n,m,_,_,_=>⟨Int.le_refl _,Int.le_refl _⟩
 |x::os,n,m,h,hn,hm=>by
  have h0:=h x iS;rw[BU];have:=KR os (Pa (if x.kind≠2 then n+D4 x else n)) (Pa (if x.kind≠1 then m+D4 x else m)) (fun y hy=>h y (by simp[hy])) Zi Zi;have a:n<=Pa (if x.kind≠2 then n+D4 x else n):=by unfold Pa;split<;>split<;>omega
  have b:m<=Pa (if x.kind≠1 then m+D4 x else m):=by unfold Pa;split<;>split<;>omega
  omega
end Go.PL
namespace Go.Proofs.YtlaapfplenlfaaaGreat
open Go Go.G Go.Proofs Go.PL
theorem mZ(k:Int):G.Spec Tryz.prog 74 [iv k] (bv (decide (2<=k)&&decide (k<=9))):=by
 refine Aj iK iS fun w0 I0=>?_;rw[Ao W5.eq_1];simp;exact Ad rfl
variable {n0:Nat} {w0:World} {I0:Nat->Prop} {Q:Exit->Sta->Prop}
theorem AeN{a b:List Int}(hl:a.length=b.length)(hb:a.length*8<=140737488355328){H:Hp}:∀(m i:Nat),i+m=a.length->a.take i=b.take i->(a=b->∀q,Q (.exit 0) ⟨lk [(0,C7 a),(1,C7 b),(12,iv a.length),(13,iv a.length),(14,bv q)],H⟩)->(a≠b->Q .ret ⟨lk [(4,bv false)],H⟩) ->
  LoopC (cx Tryz.prog w0 I0 n0) Cj Q ⟨lk [(0,C7 a),(1,C7 b),(12,iv a.length),(13,iv i)],H⟩:=by
 intro m;induction m with
 |zero=>
  intro i hi ht h1 h2;have:i=a.length:=oF
  subst this;rw[Ax (Cq _),Ax oF]at ht;refine Ab Ah (Ao Cj.eq_1) ?_;simp;exact h1 ht _
 |succ m ih=>
  intro i hi ht h1 h2;have hlt:i<a.length:=oF
  have hlt':i<b.length:=oF
  have ei:=Ap i;refine Ab Ah (Ao Cj.eq_1) ?_;by_cases e:a[i]=b[i]
  ·simp[hlt,hlt',e,ei];refine ih (i+1) oF ?_ h1 h2;rw[HJ hlt,HJ hlt',ht,e]
  ·simp[hlt,hlt',e];exact h2 fun q=>e (by simp[q])
theorem kh(a b:List Int)(hb:a.length*8<=140737488355328):G.Spec Tryz.prog 89 [C7 a,C7 b] (bv (decide (a=b))):=by
 refine Aj Kj iS fun w0 I0=>?_;rw[BG Gd.eq_1];by_cases hl:a.length=b.length
 ·simp[hl];have:=AeN (n0:=26) (w0:=w0) (I0:=I0) (a:=a) (b:=b) (H:=HO []) (Q:=BA 0 (Ej (WPC (cx Tryz.prog w0 I0 26) (.keep [] (.seq (.reg [co (some 4) (.assign (.const (.bool true))) none] [4]) .ret)) (Rn Tryz.prog [.tmp 4] (bv (decide (a=b))))) (Rn Tryz.prog [.tmp 4] (bv (decide (a=b)))))) hl hb a.length 0 iS rfl (fun e q=>?_) (fun e=>?_)
  ·rw[hl]at this;simpa using this
  ·simp;exact BJ (by simp[e])
  ·simp;exact BJ (by simp[e])
 ·have hl':¬(a.length:Int)=b.length:=oF
  simp[hl,hl'];exact BJ (by simp;intro e;exact absurd (by rw[e]) hl)
theorem vL{t u:T}(h:t.kind≠u.kind\/t.kind=0):JE t u=decide (t.kind=u.kind):=by
 rw[Bool.eq_iff_iff,eqT_iff,decide_eq_true_eq];constructor
 ·intro e;rw[<-C8 t,e,C8]
 ·intro e;rcases h with h|h
  ·exact absurd e h
  ·rw[Lp h,Lp oF]
theorem WX{t u:T}(h:t.kind≠u.kind\/t.kind=0):G.Spec Tryz.prog 57 [tX t,tX u] (bv (JE t u)):=by
 refine Aj UH iS fun w0 I0=>?_;rw[BG Oj.eq_1];rw[vL h];by_cases e:t.kind=u.kind
 ·have h0:u.kind=0:=oF
  simp[e,h0];exact Ad rfl
 ·simp[e];exact BJ (by simp[e])
theorem su{t u:T}{n:Nat}(hN:n<=100000000000000){H:Hp}(h0:H [0]=⟨1,.cells (tL t)⟩)(h1:H [1]=⟨1,.cells (tL u)⟩)
  (hq:(∀i,i<n->t.words.getD i 0=u.words.getD i 0)->∀(q:Bool),Q (.exit 0) ⟨lk [(2,.pob [0] 1 0),(3,.pob [1] 1 0),(48,iv n),(49,iv n),(50,bv q)],H⟩)
  (hf:(∃i,t.words.getD i 0≠u.words.getD i 0)->Q .ret ⟨lk [(4,bv false)],H⟩) :
  ∀(j i:Nat),i+j=n->(∀i',i'<i->t.words.getD i' 0=u.words.getD i' 0) ->
  LoopC (cx Tryz.prog w0 I0 n0) JL Q ⟨lk [(2,.pob [0] 1 0),(3,.pob [1] 1 0),(48,iv n),(49,iv i)],H⟩:=by
 intro j;induction j with
 |zero=>
  intro i hi he;have:i=n:=oF
  subst this;refine Ab Ah (Ao JL.eq_1) ?_;simp;exact hq he _
 |succ j ih=>
  intro i hi he;have hlt:i<n:=oF
  have ei:=Ap i;refine Ab Ah (Ao JL.eq_1) ?_;simp[hlt,h0,h1];refine Ae (Gl t i) iS ?_;simp[h0,h1];refine Ae (Gl u i) iS ?_;by_cases hw:t.words.getD i 0=u.words.getD i 0
  ·have hw':=hw;simp only[List.getD_eq_getElem?_getD]at hw';simp[hw',ei];refine ih (i+1) oF (fun i' hi'=>?_);by_cases e:i'=i
   ·rw[e];exact hw
   ·exact he i' oF
  ·have hw':=hw;simp only[List.getD_eq_getElem?_getD]at hw';simp[hw'];exact hf ⟨i,hw⟩
theorem NH{α:Type}{l:List α}{i:Nat}{z:α}(h:l.length<=i):l.getD i z=z:=by rw[List.getD_eq_getElem?_getD,List.getElem?_eq_none h];rfl
theorem iT{u:T}(hw:Ay u)(i:Nat):Ay (u.kids.getD i T0):=by
 by_cases hi':i<u.kids.length
 ·have e:u.kids.getD i T0=u.kids[i]:=by simp[List.getD_eq_getElem?_getD,hi']
  rw[e];exact(wfT_iff.1 hw).ks _ (Bv hi')
 ·have e:u.kids.getD i T0=T0:=by rw[List.getD_eq_getElem?_getD,List.getElem?_eq_none (by simpa using hi')];rfl
  rw[e];exact wfT_iff.2 ⟨by simp[B6],iS,iS,iS,iS⟩
def EqG(t:T):Prop:=∀u:T,Ay t->Ay u->G.Spec Tryz.prog 57 [tX t,tX u] (bv (JE t u))
theorem pR{k:Int}{w:List Int}{a:List T}{u:T}(h0:k≠0):JE (.mk k w a) u=true↔k=u.kind/\(k=1\/(a.length=u.kids.length/\w=u.words))/\(∀i,w.getD i 0=u.words.getD i 0)/\∀i,Ag (a.getD i T0)=Ag (u.kids.getD i T0):=by
 rw[eqT_iff];obtain⟨k',w',b⟩:=u;by_cases hk:k=k';rotate_left
 ·constructor
  ·intro h;have:=congrArg T.kind h;simp at this;exact absurd this hk
  ·intro h;exact absurd h.1 hk
 subst hk;by_cases h1:k=1
 ·subst h1;rw[struct_eq];simp
 rw[P6 h0 h1];constructor
 ·rintro⟨rfl,h⟩;have hl:a.length=b.length:=by simpa using congrArg List.length h
  exact⟨rfl,.inr ⟨hl,rfl⟩,fun i=>rfl,(dg hl).1 h⟩
 ·rintro⟨_,h,_,h3⟩;rcases h with h|⟨hl,rfl⟩
  ·exact absurd h h1
  ·exact⟨rfl,(dg hl).2 h3⟩
theorem Ael{t u:T}{n:Nat}(hn:n<=100000000000000)(hw:Ay t)(hwu:Ay u)(hk:∀i,i<n->EqG (t.kids.getD i T0)){H:Hp}(h0:H [0]=⟨1,.cells (tL t)⟩)(h1:H [1]=⟨1,.cells (tL u)⟩)
  (hq:(∀i,i<n->Ag (t.kids.getD i T0)=Ag (u.kids.getD i T0))->∀(q:Bool),Q (.exit 2) ⟨lk [(2,.pob [0] 1 0),(3,.pob [1] 1 0),(66,iv n),(67,iv n),(68,bv q)],H⟩)
  (hf:(∃i,Ag (t.kids.getD i T0)≠Ag (u.kids.getD i T0))->Q .ret ⟨lk [(4,bv false)],H⟩) :
  ∀(j i:Nat),i+j=n->(∀i',i'<i->Ag (t.kids.getD i' T0)=Ag (u.kids.getD i' T0)) ->
  LoopC (cx Tryz.prog w0 I0 n0) JV Q ⟨lk [(2,.pob [0] 1 0),(3,.pob [1] 1 0),(66,iv n),(67,iv i)],H⟩:=by
 intro j;induction j with
 |zero=>
  intro i hi he;have:i=n:=oF
  subst this;refine Ab Ah (Ao JV.eq_1) ?_;simp;exact hq he _
 |succ j ih=>
  intro i hi he;have hlt:i<n:=oF
  have ei:=Ap i;have hrec:=hk i hlt (u.kids.getD i T0) (iT hw i) (iT hwu i);refine Ab Ah (Ao JV.eq_1) ?_;simp[hlt,h0,h1];refine Ae (Hm t i) iS ?_;simp[h0,h1];refine Ae (Hm u i) iS ?_;simp[h0,h1];refine Ae hrec iS ?_;cases hb:JE (t.kids.getD i T0) (u.kids.getD i T0) with
  |true=>
   simp[ei];refine ih (i+1) oF (fun i' hi'=>?_);by_cases e:i'=i
   ·rw[e];exact eqT_iff.1 hb
   ·exact he i' oF
  |false=>
   simp;exact hf ⟨i,fun e=>by rw[eqT_iff.2 e]at hb;cases hb⟩
set_option maxRecDepth 8000 in
theorem Aa8:∀t:T,EqG t:=by
 refine T.ind fun k w ks ih u hw hwu=>?_;have hw':=wfT_iff.1 hw;have hu':=wfT_iff.1 hwu;have hwl:=hw'.wl;have hkl:=hw'.kl;have hul:=hu'.wl;have huk:=hu'.kl;simp only[T.words_mk,T.kids_mk]at hwl hkl;have hk0:∀i,EqG ((T.mk k w ks).kids.getD i T0):=fun i=>by
  by_cases hi:i<ks.length
  ·have e:(T.mk k w ks).kids.getD i T0=ks[i]:=by simp[List.getD_eq_getElem?_getD,hi]
   rw[e];exact ih _ (Bv hi)
  ·have e:(T.mk k w ks).kids.getD i T0=T0:=NH (by simpa using hi);rw[e];intro u _ _;exact WX (.inr rfl)
 by_cases hkk:k≠u.kind\/k=0
 ·exact WX hkk
 have h1:k=u.kind:=oF
 have h0:¬u.kind=0:=oF
 simp only[T.kids_mk]at hk0;have yes:(k=1\/(ks.length=u.kids.length/\w=u.words))->(∀i,w.getD i 0=u.words.getD i 0)->(∀i,Ag (ks.getD i T0)=Ag (u.kids.getD i T0))->JE (.mk k w ks) u=true:=fun a b c=>(pR oF).2 ⟨h1,a,b,c⟩;have no:¬((k=1\/(ks.length=u.kids.length/\w=u.words))/\(∀i,w.getD i 0=u.words.getD i 0)/\(∀i,Ag (ks.getD i T0)=Ag (u.kids.getD i T0)))->JE (.mk k w ks) u=false:=fun h=>by
  rw[Bool.eq_false_iff];intro e;exact h ((pR oF).1 e).2
 obtain⟨N,hN⟩:∃N:Nat,N=max w.length u.words.length:=⟨_,rfl⟩;obtain⟨M,hM⟩:∃M:Nat,M=max ks.length u.kids.length:=⟨_,rfl⟩;have eN:max (w.length:Int) (u.words.length:Int)=(N:Int):=oF
 have eM:max (ks.length:Int) (u.kids.length:Int)=(M:Int):=oF
 refine Aj UH iS fun w0 I0=>?_;have main:(k=1\/(ks.length=u.kids.length/\w=u.words))->WPC (cx Tryz.prog w0 I0 79) M7 (Rn Tryz.prog [.tmp 4] (bv (JE (.mk k w ks) u))) ⟨lk [(2,.pob [0] 1 0),(3,.pob [1] 1 0)],HO [([0],⟨1,.cells [iv k,C7 w,AV ks]⟩),([1],⟨1,.cells [iv u.kind,C7 u.words,AV u.kids]⟩)]⟩:=fun hc=>by
  rw[(gm M7.eq_1)];simp[eN];refine su (t:=.mk k w ks) (u:=u) oF iS iS (fun he q=>?_) (fun hf=>?_) N 0 oF (fun i hi=>oF)
  ·have heq:∀i,w.getD i 0=u.words.getD i 0:=fun i=>by
    by_cases hi:i<N
    ·exact he i hi
    ·rw[NH oF,NH oF]
   simp[eM];refine Ael (t:=.mk k w ks) (u:=u) oF hw hwu (fun i _=>hk0 i) iS iS (fun he2 q=>?_) (fun hf=>?_) M 0 oF (fun i hi=>oF)
   ·simp;refine BJ (yes hc heq fun i=>?_).symm;by_cases hi:i<M
    ·exact he2 i hi
    ·rw[NH oF,NH oF]
   ·simp;refine BJ (no fun h=>?_).symm;obtain⟨i,hi⟩:=hf;exact hi (h.2.2 i)
  ·simp;refine BJ (no fun h=>?_).symm;obtain⟨i,hi⟩:=hf;exact hi (h.2.1 i)
 rw[BG Oj.eq_1];by_cases k1:k=1
 ·have u1:u.kind=1:=oF
  have hm:=main (.inl k1);rw[u1]at hm;subst k1;simp[u1];refine Bx rfl ?_;simp;exact Dr hm
 ·have u1:¬u.kind=1:=oF
  by_cases hl:ks.length=u.kids.length
  ·have hl':(ks.length:Int)=u.kids.length:=oF
   simp[h1,h0,u1,hl'];refine DC rfl (fun _=>kh w u.words oF) (fun _=>rfl) rfl ?_;by_cases hww:w=u.words
   ·simp[hww];have:=main (.inr ⟨hl,hww⟩);rw[h1,hww]at this;exact Dr this
   ·simp[hww];refine BJ ?_;rw[<-h1];refine(no fun h=>?_).symm;rcases h.1 with h|h
    ·exact k1 h
    ·exact hww h.2
  ·have hl':¬(ks.length:Int)=u.kids.length:=oF
   simp[h1,h0,u1,hl,hl'];refine Bx rfl ?_;simp;refine BJ ?_;rw[<-h1];exact(no fun h=>by
    rcases h.1 with h|h
    ·exact k1 h
    ·exact hl h.1).symm
theorem Lr{t u:T}(hw:Ay t)(hwu:Ay u):G.Spec Tryz.prog 57 [tX t,tX u] (bv (JE t u)):=Aa8 t u hw hwu
def kmF(v:Nat)(l:List T):Fam:=⟨fun r p=>if p=[]then ⟨1,.cells [.osl (r::[0]) v 3 0 l.length]⟩else if p=[0]then ⟨v,.arr 3 (l.map tA)⟩else ⟨0,.none⟩,fun {γ δ r r'} hg hd p=>by
  by_cases h1:p=[]
  ·rw[if_pos h1,if_pos h1];refine Fam.cells_ren ?_;simp[A.renL,A.ren,hg,hd]
  ·rw[if_neg h1,if_neg h1];by_cases h2:p=[0]
   ·rw[if_pos h2];exact Fam.arr_ren ((FamL.all fV).ren hg hd)
   ·rw[if_neg h2];rfl,fun {D r} hD p=>by
  by_cases h1:p=[]
  ·rw[if_pos h1];simp[Ob.refs,A.refsL,A.refs,hD]
  ·rw[if_neg h1];by_cases h2:p=[0]
   ·rw[if_pos h2];exact(FamL.all fV).refs hD
   ·rw[if_neg h2];trivial⟩
@[simp]theorem Anw{v:Nat}{l:List T}{r:Nat}{p:Nm}:(kmF v l).F r p=if p=[]then ⟨1,.cells [.osl (r::[0]) v 3 0 l.length]⟩else if p=[0]then ⟨v,.arr 3 (l.map tA)⟩else ⟨0,.none⟩:=rfl
noncomputable def ofU(v:Nat)(ks:List T)(t:T):Nat:=if Fj ks t<ks.length then v else v+1
noncomputable def YA:Nat->List T->List T->Nat
 |v,_,[]=>v
 |v,ks,t::l=>YA (ofU v ks (Ag t)) (F8 ks (Ag t)) l
theorem W6:∀(l:List T)(u:Nat)(ks:List T)(t:T),YA u ks (l++[t])=ofU (YA u ks l) (BM ks l).1 (Ag t)
 |[],u,ks,t=>by simp[YA,BM]
 |a::l,u,ks,t=>by simp[YA,BM,W6 l]
theorem xc{ks:List T}{n:T}(h:∀k,k∈ks->Ag k=k)(hn:Ag n=n):∀k,k∈F8 ks n->Ag k=k:=by
 unfold F8;split
 ·exact h
 ·intro k hk;rcases List.mem_append.1 hk with hk|hk
  ·exact h k hk
  ·simp at hk;subst hk;exact hn
theorem Za:∀{l ks:List T},(∀k,k∈ks->Ag k=k)->∀k,k∈(BM ks l).1->Ag k=k
 |[],ks,h=>h
 |t::l,ks,h=>Za (l:=l) (xc h (Dt t))
section
variable {n0:Nat} {w0:World} {I0:Nat->Prop} {M0:Nm->Nat->Prop} {m0:Mu} {Q:Exit->Sta->Prop}
theorem AjE{ks:List T}(hw:∀k,k∈ks->Ay k)(hn:∀k,k∈ks->Ag k=k)(hl:ks.length<=1000000){t:T}(wt:Ay t)(nt:Ag t=t){v w i N y:Nat}{na:Nat}{acc:List Nat}(hna:na=acc.length)(hacc:acc.length<=1000000){X:A}
  (hq:Fj ks t=ks.length->∀(st:List (Nat × A))(H':Hp),(∀p,H' (0::p)=(kmF v ks).F 0 p)->H' [1]=⟨y,.cells (tL t)⟩->H' [3]=⟨w,.arr 1 (acc.map nv)⟩->Q (.exit 2) ⟨lk ([(0,.pob [0] 1 0),(5,.osl [3] w 1 0 na),(7,.pob [1] y 0),(10,X),(11,iv N),(12,iv i)]++st),H'⟩)
  (hq2:Fj ks t<ks.length->∀(H':Hp),(∀p,H' (0::p)=(kmF v ks).F 0 p)->H' [3]=⟨w+1,.arr 1 ((acc++[Fj ks t]).map nv)⟩->Q (.exit 1) ⟨lk [(0,.pob [0] 1 0),(5,.osl [3] (w+1) 1 0 (na+1)),(10,X),(11,iv N),(12,iv i)],H'⟩) :
  ∀(m j:Nat)(H:Hp),j+m=ks.length->(∀(x:Nat)(hx:x<j)(h:x<ks.length),ks[x]≠t)->(∀p,H (0::p)=(kmF v ks).F 0 p)->H [1]=⟨y,.cells (tL t)⟩->H [3]=⟨w,.arr 1 (acc.map nv)⟩ ->
  LoopC (En Tryz.prog w0 I0 M0 n0 m0) FR Q ⟨lk [(0,.pob [0] 1 0),(5,.osl [3] w 1 0 na),(7,.pob [1] y 0),(10,X),(11,iv N),(12,iv i),(19,.osl [0,0] v 3 0 ks.length),(20,iv ks.length),(21,iv j)],H⟩:=by
 subst hna;intro m;induction m with
 |zero=>
  intro j H hj hb hF h1 h3;have:j=ks.length:=oF
  subst this;refine Ab Ah (Ao FR.eq_1) ?_;simp;exact hq (cQ fun hm=>by
   obtain⟨x,hx,e⟩:=List.mem_iff_getElem.1 hm;exact hb x hx hx e) [(19,.osl [0,0] v 3 0 ks.length),(20,iv ks.length),(21,iv ks.length),(22,bv false)] H hF h1 h3
 |succ m ih=>
  intro j H hj hb hF h1 h3;have hlt:j<ks.length:=oF
  have ew:=Ap j;have hF1:=hF [0];simp at hF1;have hk:=Bv hlt;refine Ab Ah (Ao FR.eq_1) ?_;simp[hlt,hF1,h1,Aa];refine Ae (Lr (hw _ hk) wt) iS ?_;have hE:JE ks[j] t=Fs ks[j] t:=by unfold JE;rw[hn _ hk,nt]
  rw[hE];by_cases he:ks[j]=t
  ·have hc:=YY hlt he fun x hx=>hb x hx oF;have hs:Fs ks[j] t=true:=sameB_iff.2 he;rw[hc]at hq2;simp[hs,Aa,h3];refine⟨oF,?_⟩;simp[BA];exact hq2 hlt _ (fun p=>by simp[Aa,hF]) (by simp[Aa,Ax])
  ·have hs:Fs ks[j] t=false:=by rw[Bool.eq_false_iff];exact fun h=>he (sameB_iff.1 h)
   simp[hs,ew];refine ih (j+1) _ oF (fun x hx h=>?_) (fun p=>by simp[Aa,hF]) (by simp[Aa,h1]) (by simp[Aa,h3]);by_cases e:x=j
   ·subst e;exact he
   ·exact hb x oF h
theorem AjM{ks0 ts:List T}(hw:∀k,k∈ks0->Ay k)(hn:∀k,k∈ks0->Ag k=k)(ht:∀k,k∈ts->Ay k)(htn:∀k,k∈ts->Ag k=k)(hl:ks0.length+ts.length<=1000000){v0:Nat}
  (hq:∀(st:List (Nat × A))(H':Hp),(∀p,H' (0::p)=(kmF (YA v0 ks0 ts) (BM ks0 ts).1).F 0 p)->H' [3]=⟨ts.length+1,.arr 1 ((BM ks0 ts).2.map nv)⟩->Q (.exit 0) ⟨lk ([(0,.pob [0] 1 0),(5,.osl [3] (ts.length+1) 1 0 ts.length)]++st),H'⟩) :
  ∀(m i:Nat)(H:Hp),i+m=ts.length->(∀p,H (0::p)=(kmF (YA v0 ks0 (ts.take i)) (BM ks0 (ts.take i)).1).F 0 p)->H [3]=⟨i+1,.arr 1 ((BM ks0 (ts.take i)).2.map nv)⟩ ->
  LoopC (En Tryz.prog w0 I0 M0 n0 m0) Fw Q ⟨lk [(0,.pob [0] 1 0),(5,.osl [3] (i+1) 1 0 i),(10,AV ts),(11,iv ts.length),(12,iv i)],H⟩:=by
 intro m;induction m with
 |zero=>
  intro i H hi hF h3;have:i=ts.length:=oF
  subst this;rw[Ax (Cq _)]at hF h3;refine Ab Ah (BG Fw.eq_1) ?_;simp;exact hq [(10,AV ts),(11,iv ts.length),(12,iv ts.length),(13,bv false)] H hF h3
 |succ m ih=>
  intro i H hi hF h3;have hlt:i<ts.length:=oF
  have ew:=Ap i;have htk:ts.take (i+1)=ts.take i++[ts[i]]:=HJ hlt;have hti:=Bv hlt;have nt:=htn _ hti;have hlen:=Pg (ts.take i) ks0;rw[List.length_take,Nat.min_eq_left oF]at hlen;have hkw:=TY hw (l:=ts.take i) fun k hk=>ht k (O4 hk);have hkn:=Za hn (l:=ts.take i) ;have hlL:(BM ks0 (ts.take i)).2.length=i:=by rw[CU,List.length_take,Nat.min_eq_left oF]
  have ihn:=ih (i+1);rw[htk,W6,P7,nt]at ihn;simp only at ihn;have hF0:=hF [];have hF1:=hF [0];simp at hF0 hF1;generalize hv:YA v0 ks0 (ts.take i)=v at *;generalize hL:(BM ks0 (ts.take i)).2=L at *;generalize hK:(BM ks0 (ts.take i)).1=K at *;refine Ab Ah (BG Fw.eq_1) ?_;simp[hlt,hF0,Aa];refine LoopC.le (Al [(0,.pob [0] 1 0),(5,.osl [3] (i+1) 1 0 i),(7,.pob [1] ((H [1]).u+1) 0),(10,AV ts),(11,iv ts.length),(12,iv i),(19,.osl [0,0] v 3 0 K.length),(20,iv K.length),(21,iv (0:Nat))] iS) ?_;refine AjE hkw hkn oF (ht _ hti) nt (v:=v) (w:=i+1) (i:=i) (N:=ts.length) (acc:=L) hlL.symm oF (X:=AV ts) (y:=(H [1]).u+1) (fun hc st H' g0 g1 g3=>?_) (fun hc H' g0 g3=>?_) K.length 0 _ oF (fun x hx=>oF) (fun p=>by simp[hF,Aa]) (by simp[Aa]) (by simp[Aa,h3])
  ·have g00:=g0 [];have g01:=g0 [0];simp at g00 g01;rw[hc]at ihn;have hcK:F8 K ts[i]=K++[ts[i]]:=by unfold F8;rw[if_neg oF]
   have hcU:ofU v K ts[i]=v+1:=by unfold ofU;rw[if_neg oF]
   rw[hcK,hcU]at ihn;simp[BA,g00,g01,g1,g3,hlL,Aa];refine⟨oF,oF,oF,?_⟩;rw[ew];refine ihn _ oF (fun p=>?_) (by simp[Aa,hlL,Ax]);by_cases h1:p=[]
   ·subst h1;simp[Aa]
   ·by_cases h2:p=[0]
    ·subst h2;simp[Aa,Ax]
    ·simp[h1,h2,Aa,g0]
  ·have hcK:F8 K ts[i]=K:=by unfold F8;rw[if_pos hc]
   have hcU:ofU v K ts[i]=v:=by unfold ofU;rw[if_pos hc]
   rw[hcK,hcU]at ihn;simp[BA,ew];exact ihn _ oF g0 g3
end
theorem Y6{ks ts:List T}(hw:∀k,k∈ks->Ay k)(hn:∀k,k∈ks->Ag k=k)(ht:∀k,k∈ts->Ay k)(htn:∀k,k∈ts->Ag k=k)(hl:ks.length+ts.length<=1000000)(v:Nat) :
  SpecF Tryz.prog 120 (fun r=>[.pob [r] 1 0,AV ts]) (kmF v ks) (fun r=>.sl false ((BM ks ts).2.map nv)) (kmF (YA v ks ts) (BM ks ts).1):=by
 refine KV UZ iS (Af AB (Af Bp Ak)) Bp fun w0 I0 M0 m0 hM=>?_;rw[BG MN.eq_1];simp;refine LoopC.le (BC 5 [3] 1 iS) ?_;refine LoopC.le (Al [(0,.pob [0] 1 0),(5,.osl [3] (0+1) 1 0 0),(10,AV ts),(11,iv ts.length),(12,iv (0:Nat))] (by simp[upd])) ?_;refine AjM hw hn ht htn hl (v0:=v) (fun st H' g0 g3=>?_) ts.length 0 _ oF (fun p=>?_) ?_
 ·simp;obtain⟨H2,k1,k2⟩:=OB (c:=En Tryz.prog w0 I0 M0 55 m0) (s:=lk [(5,.osl [3] (ts.length+1) 1 0 ts.length)]) (H:=H') (fun r=>1<=r) (fun r p b hr=>hM r p b hr) 5 (.sl false ((BM ks ts).2.map nv)) (fun H1 e1=>by
   have e2:H1 [3]=H' [3]:=e1 3 [] oF;simp;exact AQ (o:=[3]) (u:=ts.length+1) (n:=ts.length) (sz:=1) (l:=(BM ks ts).2) (f:=nv) (by rw[e2,g3];simp) (CU ts ks).symm (fun x=>rfl))
  refine Dn k1 (Dr ?_);simp[upd];exact Av rfl rfl fun p=>(k2 0 p oF).trans (g0 p)
 ·simp[BM,YA]
 ·simp[BM]
end Go.Proofs.YtlaapfplenlfaaaGreat
namespace Go.PL
def O9:List Int->List Int->Nat
 |a::l,b::m=>(if a=b then 1 else 0)+O9 l m
 |_,_=>0
noncomputable def Xa:List T->List T->Nat
 |a::l,b::m=>(if JE a b=true then 1 else 0)+Xa l m
 |_,_=>0
noncomputable def DK(a b:T):Nat:=if a.kind≠b.kind\/a.kind=0\/a.kind=10 then 0 else 1+O9 a.words b.words+Xa a.kids b.kids
theorem pd{l m:List Int}{i:Nat}(h1:i<l.length)(h2:i<m.length):O9 (l.drop i) (m.drop i)=(if l[i]=m[i]then 1 else 0)+O9 (l.drop (i+1)) (m.drop (i+1)):=by
 rw[(List.getElem_cons_drop h1).symm,(List.getElem_cons_drop h2).symm,O9]
theorem pq{l m:List T}{i:Nat}(h1:i<l.length)(h2:i<m.length):Xa (l.drop i) (m.drop i)=(if JE l[i] m[i]=true then 1 else 0)+Xa (l.drop (i+1)) (m.drop (i+1)):=by
 rw[(List.getElem_cons_drop h1).symm,(List.getElem_cons_drop h2).symm,Xa]
theorem kS{l m:List Int}{i:Nat}(h:i=min l.length m.length):O9 (l.drop i) (m.drop i)=0:=by
 by_cases h1:i=l.length
 ·rw[List.drop_eq_nil_of_le (by omega:l.length<=i)];cases m.drop i<;>rfl
 ·rw[List.drop_eq_nil_of_le (by omega:m.length<=i)];cases l.drop i<;>rfl
theorem kN{l m:List T}{i:Nat}(h:i=min l.length m.length):Xa (l.drop i) (m.drop i)=0:=by
 by_cases h1:i=l.length
 ·rw[List.drop_eq_nil_of_le (by omega:l.length<=i)];cases m.drop i<;>rfl
 ·rw[List.drop_eq_nil_of_le (by omega:m.length<=i)];cases l.drop i<;>rfl
theorem Yj:∀l m,O9 l m<=l.length
 |[],_=>by simp[O9]
 |_::_,[]=>by simp[O9]
 |a::l,b::m=>by
  have:=Yj l m;unfold O9;simp;split<;>omega
end Go.PL
namespace Go.PL
open List
def GD(o:List Sc)(b:Sc)(l:List Sc):Sc:=l.foldl (fun b y=>if b.n<y.n/\CD o y=true then y else b) b
def bef(a b:Sc):Prop:=a.i<b.i\/(a.i=b.i/\a.j<b.j)
theorem iY{o:List Sc}:∀(l p:List Sc)(b:Sc),(p++l).Pairwise bef->(∀y,y∈p++l->0<y.n)->((b=sc0/\∀y,y∈p->CD o y=false)\/oK p o b) ->
  ((GD o b l=sc0/\∀y,y∈p++l->CD o y=false)\/oK (p++l) o (GD o b l))
 |[],p,b,_,_,h=>by simpa[GD]using h
 |x::l,p,b,hs,hn,h=>by
  have hx:=hn x iS;have hbx:∀y,y∈p->bef y x:=fun y hy=>by
   rw[List.pairwise_append]at hs;exact hs.2.2 y hy x iS
  have hst:GD o b (x::l)=GD o (if b.n<x.n/\CD o x=true then x else b) l:=rfl;have:=iY (o:=o) l (p++[x]) (if b.n<x.n/\CD o x=true then x else b) (by simpa using hs) (by simpa using hn) ?_
  ·rw[hst];simpa using this
  ·by_cases hf:CD o x=true
   ·rcases h with ⟨rfl,h⟩|h
    ·rw[if_pos ⟨by simpa[sc0]using hx,hf⟩];refine .inr ⟨iS,hf,fun y hy hyf=>?_⟩;rcases List.mem_append.1 hy with hy|hy
     ·rw[h y hy]at hyf;cases hyf
     ·simp at hy;subst hy;exact NA _
    ·by_cases hl:b.n<x.n
     ·rw[if_pos ⟨hl,hf⟩];refine .inr ⟨iS,hf,fun y hy hyf=>?_⟩;rcases List.mem_append.1 hy with hy|hy
      ·have:=h.2.2 y hy hyf;unfold BB at this ⊢;simp at this ⊢;omega
      ·simp at hy;subst hy;exact NA _
     ·rw[if_neg (fun k=>hl k.1)];refine .inr ⟨by simp[h.1],h.2.1,fun y hy hyf=>?_⟩;rcases List.mem_append.1 hy with hy|hy
      ·exact h.2.2 y hy hyf
      ·simp at hy;subst hy;have:=hbx b h.1;unfold bef at this;unfold BB;simp;omega
   ·rw[if_neg (fun k=>hf k.2)];rcases h with ⟨rfl,h⟩|h
    ·refine .inl ⟨rfl,fun y hy=>?_⟩;rcases List.mem_append.1 hy with hy|hy
     ·exact h y hy
     ·simp at hy;subst hy;simpa using hf
    ·refine .inr ⟨by simp[h.1],h.2.1,fun y hy hyf=>?_⟩;rcases List.mem_append.1 hy with hy|hy
     ·exact h.2.2 y hy hyf
     ·simp at hy;subst hy;exact absurd hyf hf
theorem VW{i:Nat}:∀{r:List Int} {j:Nat},(DY i j r).Pairwise bef
 |[],j=>by simp[DY]
 |n::r,j=>by
  unfold DY;split
  ·rw[List.pairwise_cons];refine⟨fun y hy=>?_,VW⟩;obtain⟨h1,_,_,h4,_⟩:=UG hy;exact .inr ⟨h1.symm,by simp;omega⟩
  ·exact VW
theorem JB:∀{rs:List (List Int)} {i:Nat} {x:Sc},x∈Df i rs->i<=x.i/\x.i<16/\x.j<16/\0<x.n/\∃r,rs[x.i-i]? = some r/\r[x.j]? = some x.n
 |[],i,x,h=>by simp[Df]at h
 |r::rs,i,x,h=>by
  unfold Df at h;rcases List.mem_append.1 h with h|h
  ·obtain⟨h1,h2,h3,h4,h5,h6,h7⟩:=UG h;exact⟨oF,oF,h3,h7,r,by rw[h1];simp,by simpa using h6⟩
  ·obtain⟨h1,h2,h3,h4,r',h5,h6⟩:=JB h;refine⟨oF,h2,h3,h4,r',?_,h6⟩;rw[show x.i-i=(x.i-(i+1))+1 by omega];simpa using h5
theorem cE:∀{rs:List (List Int)} {i:Nat},(Df i rs).Pairwise bef
 |[],i=>by simp[Df]
 |r::rs,i=>by
  unfold Df;rw[List.pairwise_append];refine⟨VW,cE,fun x hx y hy=>?_⟩;have h1:=(UG hx).1;have h2:=(JB hy).1;exact .inl oF
theorem ZX{rs:List (List Int)}{o:List Sc}:(GD o sc0 (Df 0 rs)=sc0/\∀y,y∈Df 0 rs->CD o y=false)\/oK (Df 0 rs) o (GD o sc0 (Df 0 rs)):=by
 have:=iY (o:=o) (Df 0 rs) [] sc0 (by simpa using cE) (by simpa using fun y hy=>(JB hy).2.2.2.1) (.inl ⟨rfl,iS⟩);simpa using this
end Go.PL
namespace Go.Proofs.YtlaapfplenlfaaaGreat
open Go Go.G Go.Proofs Go.PL
theorem WZ(rs:List (List Int)):∃o',LD (Df 0 rs) [] o'/\o'.length<=16:=by
 obtain⟨o',h⟩:=r9 (all:=Df 0 rs) (by have:=QR (rs:=rs) (i:=0);omega);obtain⟨h1,h2⟩:=G5 h;refine⟨o',h,?_⟩;have hs:=Kk h1;rw[<-hs.2.length_eq];have:=cX (Dc o') 0 16 hs.1 fun x hx=>⟨oF,(JB (h2 x (hs.2.subset hx))).2.1⟩;omega
noncomputable def KC(a b:List T):List (List Int):=a.map fun x=>b.map fun y=>(DK x y:Int)
noncomputable def pkO(rs:List (List Int)):List Sc:=(WZ rs).choose
noncomputable def Z8(rs:List (List Int)):List Sc:=Dc (pkO rs)
theorem ZQ(rs:List (List Int)):LD (Df 0 rs) [] (pkO rs)/\(pkO rs).length<=16:=(WZ rs).choose_spec
def HU(one:T->T->E)(a b:List T):List Sc->Nat->Nat->List OP->List OP
 |[],i,j,out=>out++Dd (a.drop i)++Cb (b.drop j)
 |x::xs,i,j,out=>HU one a b xs (x.i+1) (x.j+1) (out++Dd ((a.take x.i).drop i)++Cb ((b.take x.j).drop j)++[.mk 3 0 [] (one (a.getD x.i T0) (b.getD x.j T0))])
noncomputable def Fh(one:T->T->E)(a b:List T):List OP:=HU one a b (Z8 (KC a b)) 0 0 []
def CA(gap:List T->List T->List OP):List Sp->List T->List T->List OP->List OP
 |[],_,_,out=>out
 |[s],a,b,out=>if s.k=0 then out++[.mk 0 s.n [] E0]else if s.k=2 then out++Cb (b.take s.n)else out++Dd (a.take s.n)
 |s::s2::ss,a,b,out=>
  if s.k=0 then CA gap (s2::ss) (a.drop s.n) (b.drop s.n) (out++[.mk 0 s.n [] E0])
  else if s.k=2 then CA gap (s2::ss) a (b.drop s.n) (out++Cb (b.take s.n))
  else if s2.k=2 then CA gap ss (a.drop s.n) (b.drop s2.n) (out++gap (a.take s.n) (b.take s2.n))
  else CA gap (s2::ss) (a.drop s.n) b (out++Dd (a.take s.n))
abbrev tG(l:List Nat):List Int:=l.map fun n:Nat=>(n:Int)
noncomputable def Rt(a:T):List Int:=tG (BM [] a.kids).2
noncomputable def Q7(a b:T):List Int:=tG (BM (BM [] a.kids).1 b.kids).2
noncomputable def OU(one:T->T->E)(most:Int)(a b:T):E:=
 .mk 3 T0 T0 [] [] a.kind (if (Ct (Rt a) (Q7 a b):Int)<=most then CA (Fh one) (J7 (GU (Rt a) (Q7 a b))) a.kids b.kids []else Fh one a.kids b.kids)
def Iw(a b:T)(m:Nat):List WE:=(List.range m).filterMap fun i=>if DW (a.words.getD i 0) (b.words.getD i 0)=0 then none else some (ZL i (a.words.getD i 0) (b.words.getD i 0))
def DD(one:T->T->E)(a b:T)(m:Nat):List KE:=(List.range m).filterMap fun i=>if (one (a.kids.getD i T0) (b.kids.getD i T0)).kind=0 then none else some (.mk i (one (a.kids.getD i T0) (b.kids.getD i T0)))
def fr(one:T->T->E)(a b:T):E:=.mk 2 T0 T0 (Iw a b (max a.words.length b.words.length)) (DD one a b (max a.kids.length b.kids.length)) 0 []
noncomputable def Hu(most:Int):Nat->T->T->E
 |0,a,b=>if JE a b=true then E0 else .mk 1 a b [] [] 0 []
 |f+1,a,b=>if JE a b=true then E0 else if a.kind=1/\b.kind=1 then fr (Hu most f) a b else if a.kind=b.kind/\2<=a.kind/\a.kind<=9 then OU (Hu most f) most a b else .mk 1 a b [] [] 0 []
def dA(us:List Nat):Nat:=us.countP fun x=>x != 2
def dB(us:List Nat):Nat:=us.countP fun x=>x != 1
theorem Hi(n k:Nat):dA (List.replicate n k)=if k=2 then 0 else n:=by unfold dA;rw[List.countP_replicate];by_cases h:k=2<;>simp[h]
theorem He(n k:Nat):dB (List.replicate n k)=if k=1 then 0 else n:=by unfold dB;rw[List.countP_replicate];by_cases h:k=1<;>simp[h]
theorem Gm(a b:List Nat):dA (a++b)=dA a+dA b:=List.countP_append
theorem Gp(a b:List Nat):dB (a++b)=dB a+dB b:=List.countP_append
theorem dk:∀(us:List Nat)(k d i:Nat),(∀x,x∈us->x<=2)->dA (A5 (Rd us k d i))=k+d+dA us/\dB (A5 (Rd us k d i))=k+i+dB us
 |[],k,d,i,_=>by
  simp only[Rd,Jv,PC,Gm,Gp,Hi,He];simp[dA,dB]
 |x::us,k,d,i,h=>by
  have hx:=h x iS;have hu:∀y,y∈us->y<=2:=fun y hy=>h y (by simp[hy]);have e1:dA (x::us)=(if x=2 then 0 else 1)+dA us:=by
   have:=Gm [x] us;rw[show [x]=List.replicate 1 x from rfl,Hi]at this;simpa using this
  have e2:dB (x::us)=(if x=1 then 0 else 1)+dB us:=by
   have:=Gp [x] us;rw[show [x]=List.replicate 1 x from rfl,He]at this;simpa using this
  rw[e1,e2,Rd];have hx3:x=0\/x=1\/x=2:=oF
  rcases hx3 with rfl|rfl|rfl
  ·obtain⟨h1,h2⟩:=dk us (k+1) 0 0 hu;simp only[if_true,Jv,PC,Gm,Gp,Hi,He,h1,h2];simp;omega
  ·obtain⟨h1,h2⟩:=dk us 0 (d+1) i hu;simp[Gm,Gp,Hi,He,h1,h2];omega
  ·obtain⟨h1,h2⟩:=dk us 0 d (i+1) hu;simp[Gm,Gp,Hi,He,h1,h2];omega
theorem Z3(us:List Nat)(h:∀x,x∈us->x<=2):dA (A5 (J7 us))=dA us/\dB (A5 (J7 us))=dB us:=by
 have:=dk us 0 0 0 h;unfold J7;omega
theorem fG:∀(us:List Nat)(k d i:Nat),(∀x,x∈us->x<=2)->∀s,s∈Rd us k d i->s.k<=2/\1<=s.n
 |[],k,d,i,_,s,hs=>by
  simp only[Rd,List.mem_append]at hs;rcases hs with hs|hs|hs<;>(unfold fl at hs;split at hs<;>simp at hs;subst hs;simp;omega)
 |x::us,k,d,i,h,s,hs=>by
  have hu:∀y,y∈us->y<=2:=fun y hy=>h y (by simp[hy]);rw[Rd]at hs;have fin:∀q n,q<=2->s∈fl q n->s.k<=2/\1<=s.n:=fun q n hq hs=>by
   unfold fl at hs;split at hs<;>simp at hs;subst hs;simp;omega
  split at hs
  ·simp only[List.mem_append]at hs;rcases hs with hs|hs|hs
   ·exact fin 1 _ oF hs
   ·exact fin 2 _ oF hs
   ·exact fG us _ _ _ hu s hs
  ·rw[List.mem_append]at hs;rcases hs with hs|hs
   ·exact fin 0 _ oF hs
   ·split at hs
    ·exact fG us _ _ _ hu s hs
    ·exact fG us _ _ _ hu s hs
theorem AbL(p q:Nat):∀x,x∈N9 p q->x<=2:=by
 intro x hx;unfold N9 at hx;split at hx
 ·rcases List.mem_append.1 hx with h|h
  ·have:=List.eq_of_mem_replicate h;omega
  ·simp at h;omega
 ·simp at hx;omega
theorem AeI{p q:Nat}(h:p<=q):dA (N9 p q)=1/\dB (N9 p q)=q-p:=by
 unfold N9;split
 ·rw[Gm,Gp,Hi,He];simp[dA,dB];omega
 ·simp[dA,dB];omega
theorem TA(a b:List Int):∀x,x∈GU a b->x<=2:=by
 intro x hx;unfold GU at hx;rcases List.mem_append.1 hx with h|h
 ·obtain⟨i,_,hi⟩:=List.mem_flatMap.1 h;exact AbL _ _ x hi
 ·have:=List.eq_of_mem_replicate h;omega
theorem o0(a b:List Int):∀n,n<=a.length->dA ((List.range n).flatMap (fun i=>N9 (AX a b i) (AX a b (i+1))))=n/\dB ((List.range n).flatMap (fun i=>N9 (AX a b i) (AX a b (i+1))))=AX a b n
 |0,_=>by simp[dA,dB,Vb]
 |n+1,h=>by
  obtain⟨h1,h2⟩:=o0 a b n oF;have hm:=TM (a:=a) (b:=b) (i:=n) (h:=n+1) oF h;obtain⟨g1,g2⟩:=AeI hm;rw[List.range_succ,List.flatMap_append,Gm,Gp,h1,h2];simp[g1,g2];omega
theorem dm(a b:List Int):dA (GU a b)=a.length/\dB (GU a b)=b.length:=by
 obtain⟨h1,h2⟩:=o0 a b a.length (Cq _);have hl:=(Gx (a:=a) (b:=b) (i:=a.length) (Cq _)).2.1;unfold GU;rw[Gm,Gp,h1,h2,Hi,He];simp;omega
abbrev Wo(l:List Sc):A:=.sl false (l.map Jd)
theorem Aa6{n0:Nat}{w0:World}{I0:Nat->Prop}{Q:Exit->Sta->Prop}{l:List Sc}{x:Sc}{H:Hp}(hl:l.length<=1000)(hq:CD l x=true->∀st,Q (.exit 0) ⟨lk st,H⟩)(hq2:CD l x=false->Q .ret ⟨lk [(6,bv false)],H⟩):∀(m i:Nat),i+m=l.length->CD (l.drop i) x=CD l x ->
  LoopC (cx Tryz.prog w0 I0 n0) FH Q ⟨lk [(0,Wo l),(1,iv x.i),(2,iv x.j),(7,iv i)],H⟩:=by
 intro m;induction m with
 |zero=>
  intro i hm hf;refine Ab Ah (Ao FH.eq_1) ?_;have:¬(i:Int)<l.length:=oF
  simp[this];rw[List.drop_eq_nil_of_le oF]at hf;exact hq hf.symm [(0,Wo l),(1,iv x.i),(2,iv x.j),(7,iv i),(11,bv false)]
 |succ m ih=>
  intro i hm hf;have hi:i<l.length:=oF
  have e1:=Ap i;have hd:l.drop i=l[i]::l.drop (i+1):=(List.getElem_cons_drop hi).symm;have hgo:Xp l[i] x=true->CD (l.drop (i+1)) x=CD l x:=fun h=>by rw[<-hf,hd];unfold CD;rw[List.all_cons,h,Bool.true_and]
  have hno:Xp l[i] x=false->CD l x=false:=fun h=>by rw[<-hf,hd];unfold CD;rw[List.all_cons,h,Bool.false_and]
  have ih':=fun h=>ih (i+1) oF (hgo h);refine Ab Ah (Ao FH.eq_1) ?_;unfold Xp at hgo hno ih';generalize hy:l[i]=y at hgo hno ih';by_cases h1:y.i<x.i<;>by_cases h2:y.j<x.j<;>by_cases h3:x.i<y.i<;>by_cases h4:x.j<y.j<;>first|omega|skip
  all_goals simp[h1,h2,h3,h4]at hno ih'
  all_goals simp[hi,hy,Jd,QA,h1,h2,h3,h4,e1]
  all_goals first|exact hq2 hno|exact ih' | skip
theorem rS(l:List Sc)(x:Sc)(hl:l.length<=1000):G.Spec Tryz.prog 201 [Wo l,iv x.i,iv x.j] (bv (CD l x)):=by
 refine Aj UO iS fun w0 I0=>?_;rw[BG Mq.eq_1];simp;refine LoopC.le (Al [(0,Wo l),(1,iv x.i),(2,iv x.j),(7,iv (0:Nat))] iS) ?_;refine Aa6 hl (fun h st=>?_) (fun h=>?_) l.length 0 oF iS
 ·simp[h];exact Ad rfl
 ·simp[h];exact Ad rfl
theorem Abm{n0:Nat}{w0:World}{I0:Nat->Prop}{Q:Exit->Sta->Prop}{rs:List (List Int)}{o:List Sc}(ho:o.length<=1000){i:Nat}(hi:i<rs.length)(hi16:i<16)(hr:rs[i].length<=1000000):∀(m j:Nat)(b:Sc)(H:Hp),rs[i].length=j+m->0<=b.n->H [1]=⟨1,.cells (QA b)⟩->H [0]=⟨1,.cells [iv 0,iv 0]⟩ ->
  (∀(b':Sc)(H':Hp)(st:List (Nat × A)),b'=GD o b (DY i j (rs[i].drop j))->0<=b'.n->H' [1]=⟨1,.cells (QA b')⟩->H' [0]=⟨1,.cells [iv 0,iv 0]⟩->Q (.exit 2) ⟨lk ([(0,M6 rs),(1,Wo o),(4,.pob [0] 1 0),(6,.pob [1] 1 0),(7,iv b'.n),(8,iv i)]++st),H'⟩) ->
  LoopC (cx Tryz.prog w0 I0 n0) DX Q ⟨lk [(0,M6 rs),(1,Wo o),(4,.pob [0] 1 0),(6,.pob [1] 1 0),(7,iv b.n),(8,iv i),(9,iv j)],H⟩:=by
 intro m;induction m with
 |zero=>
  intro j b H hm hb0 hH hH0 hq;refine Ab Ah (Ao DX.eq_1) ?_;have:¬(j:Int)<rs[i].length:=oF
  have hd:rs[i].drop j=[]:=List.drop_eq_nil_of_le oF;rw[hd]at hq;simp[hi,show(i:Int)<rs.length by omega,this];exact hq b H [(9,iv j),(31,bv false)] rfl hb0 hH hH0
 |succ m ih=>
  intro j b H hm hb0 hH hH0 hq;have hj:j<rs[i].length:=oF
  have hd:rs[i].drop j=rs[i][j]::rs[i].drop (j+1):=(List.getElem_cons_drop hj).symm;have e1:=Ap j;have hfar:¬j<16->DY i j (rs[i].drop j)=[]:=fun h=>by
   have:=VK (i:=i) (r:=rs[i].drop j) (j:=j);exact List.eq_nil_of_length_eq_zero oF
  refine Ab Ah (Ao DX.eq_1) ?_;by_cases h16:j<16
  ·have hF:=rS o ⟨i,j,rs[i][j]⟩ ho;simp[hi,hj,show(i:Int)<rs.length by omega,show(j:Int)<rs[i].length by omega,h16,show(j:Int)<16 by omega];have hstep:DY i j (rs[i].drop j)=if 0<rs[i][j]then ⟨i,j,rs[i][j]⟩::DY i (j+1) (rs[i].drop (j+1))else DY i (j+1) (rs[i].drop (j+1)):=by
    rw[hd,DY];simp[hi16,h16]
   have next:∀(b2:Sc)(H2:Hp),0<=b2.n->H2 [1]=⟨1,.cells (QA b2)⟩->H2 [0]=⟨1,.cells [iv 0,iv 0]⟩->GD o b2 (DY i (j+1) (rs[i].drop (j+1)))=GD o b (DY i j (rs[i].drop j))->LoopC (cx Tryz.prog w0 I0 n0) DX Q ⟨lk [(0,M6 rs),(1,Wo o),(4,.pob [0] 1 0),(6,.pob [1] 1 0),(7,iv b2.n),(8,iv i),(9,iv (j+1:Nat))],H2⟩:=fun b2 H2 h0 q1 q2 he=>ih (j+1) b2 H2 oF h0 q1 q2 (by rw[he];exact hq)
   by_cases h1:b.n<rs[i][j]
   ·rw[AR];simp[h1];refine Ae hF rfl ?_;cases hf:CD o ⟨i,j,rs[i][j]⟩ with
    |true=>
     simp[hi,hj,show(i:Int)<rs.length by omega,show(j:Int)<rs[i].length by omega,h1,hH,e1];refine next ⟨i,j,rs[i][j]⟩ _ (by simp;omega) (by simp[Aa,QA]) (by simp[Aa,hH0]) ?_
     rw[hstep,if_pos oF];simp[GD,h1,hf]
    |false=>
     simp[h1,e1];refine next b H hb0 hH hH0 ?_
     rw[hstep];split
     ·simp[GD,hf]
     ·rfl
   ·rw[AR];simp[h1,e1];refine next b H hb0 hH hH0 ?_
    rw[hstep];split
    ·simp[GD,h1]
    ·rfl
  ·simp[hi,show(i:Int)<rs.length by omega,show(j:Int)<rs[i].length by omega,show ¬(j:Int)<16 by omega];exact hq b H [(9,iv j),(31,bv false)] (by rw[hfar h16];rfl) hb0 hH hH0
theorem zJ{n0:Nat}{w0:World}{I0:Nat->Prop}{Q:Exit->Sta->Prop}{rs:List (List Int)}{o:List Sc}(ho:o.length<=1000)(hrs:rs.length<=1000000)(hr:∀r,r∈rs->r.length<=1000000):∀(m i:Nat)(b:Sc)(H:Hp),rs.length=i+m->0<=b.n->H [1]=⟨1,.cells (QA b)⟩->H [0]=⟨1,.cells [iv 0,iv 0]⟩ ->
  (∀(b':Sc)(H':Hp)(st:List (Nat × A)),b'=GD o b (Df i (rs.drop i))->H' [1]=⟨1,.cells (QA b')⟩->H' [0]=⟨1,.cells [iv 0,iv 0]⟩->Q (.exit 0) ⟨lk ([(0,M6 rs),(1,Wo o),(4,.pob [0] 1 0),(6,.pob [1] 1 0),(7,iv b'.n)]++st),H'⟩) ->
  LoopC (cx Tryz.prog w0 I0 n0) FV Q ⟨lk [(0,M6 rs),(1,Wo o),(4,.pob [0] 1 0),(6,.pob [1] 1 0),(7,iv b.n),(8,iv i)],H⟩:=by
 intro m;induction m with
 |zero=>
  intro i b H hm hb0 hH hH0 hq;refine Ab Ah (BG FV.eq_1) ?_;have:¬(i:Int)<rs.length:=oF
  have hd:rs.drop i=[]:=List.drop_eq_nil_of_le oF;rw[hd]at hq;simp[this];exact hq b H [(8,iv i),(18,bv false)] rfl hH hH0
 |succ m ih=>
  intro i b H hm hb0 hH hH0 hq;have hi:i<rs.length:=oF
  have hd:rs.drop i=rs[i]::rs.drop (i+1):=(List.getElem_cons_drop hi).symm;have e1:=Ap i;refine Ab Ah (BG FV.eq_1) ?_;by_cases h16:i<16
  ·simp[show(i:Int)<rs.length by omega,show(i:Int)<16 by omega];refine LoopC.le (Al [(0,M6 rs),(1,Wo o),(4,.pob [0] 1 0),(6,.pob [1] 1 0),(7,iv b.n),(8,iv i),(9,iv (0:Nat))] iS) ?_;refine Abm ho hi h16 (hr _ (Bv hi)) rs[i].length 0 b H oF hb0 hH hH0 fun b' H' st hb' hn' q1 q0=>?_;simp[e1];refine ih (i+1) b' H' oF hn' q1 q0 fun b2 H2 st2 hb2 r1 r0=>hq b2 H2 st2 ?_ r1 r0;rw[hb2,hb',hd,Df,GD,GD,GD,List.foldl_append,List.drop_zero]
  ·have hz:Df i (rs.drop i)=[]:=List.eq_nil_of_length_eq_zero (by have:=QR (rs:=rs.drop i) (i:=i);rw[show 16-i=0 from oF]at this;omega);simp[show(i:Int)<rs.length by omega,show ¬(i:Int)<16 by omega];exact hq b H [(8,iv i),(18,bv false)] (by rw[hz];rfl) hH hH0
theorem cw(rs:List (List Int))(o:List Sc)(hl:o.length<=1000)(hrs:rs.length<=1000000)(hr:∀r,r∈rs->r.length<=1000000):G.Spec Tryz.prog 190 [M6 rs,Wo o] (.tup [Jd (GD o sc0 (Df 0 rs)),iv (GD o sc0 (Df 0 rs)).n]):=by
 refine Aj Ut iS fun w0 I0=>?_;rw[BG MI.eq_1];simp;refine LoopC.le (Al [(0,M6 rs),(1,Wo o),(4,.pob [0] 1 0),(6,.pob [1] 1 0),(7,iv sc0.n),(8,iv (0:Nat))] (by simp[sc0])) ?_;refine zJ hl hrs hr rs.length 0 sc0 _ oF (by simp[sc0]) (by simp[Aa,QA,sc0]) (by simp[Aa]) fun b' H' st hb' q1 q0=>?_;rw[List.drop_zero]at hb';rw[<-hb'];simp[q1,q0,Aa,QA];exact Ad rfl
end Go.Proofs.YtlaapfplenlfaaaGreat
namespace Go.PL
open List
def Xc(x:Sc):List Sc->Nat
 |[]=>0
 |y::l=>if y.i<x.i then Xc x l+1 else 0
theorem xV(x:Sc):∀l,Xc x l<=l.length
 |[]=>by simp[Xc]
 |y::l=>by
  have:=xV x l;unfold Xc;split<;>simp<;>omega
theorem qD(x:Sc):∀l,Um x l=l.take (Xc x l)++x::l.drop (Xc x l)
 |[]=>by simp[Um,Xc]
 |y::l=>by
  unfold Um Xc;split
  ·simp[qD x l]
  ·simp
theorem sW(o:List Sc)(x:Sc):Dc (o++[x])=Um x (Dc o):=by simp[Dc]
theorem sS{a b:List Sc}(h:a ~ b)(x:Sc):CD a x=CD b x:=by
 unfold CD;rw[Bool.eq_iff_iff,List.all_eq_true,List.all_eq_true];exact⟨fun k y hy=>k y (h.symm.subset hy),fun k y hy=>k y (h.subset hy)⟩
theorem SA{a b:List Sc}(h:a ~ b):∀(l:List Sc)(s:Sc),GD a s l=GD b s l
 |[],s=>rfl
 |y::l,s=>by
  have:=SA h l;unfold GD at this ⊢;simp only[List.foldl_cons,sS h,this]
theorem vu{all o o':List Sc}(h:LD all o o'):o <+: o':=by
 induction h with
 |done h=>exact List.prefix_rfl
 |step hx hp ih=>exact(List.prefix_append _ _).trans ih
end Go.PL
namespace Go.Proofs.YtlaapfplenlfaaaGreat
open Go Go.G Go.Proofs Go.PL
theorem qX{c:Cx}{s:Nat->A}{H:Hp}(t:Nat):Le c ⟨s,H⟩ ⟨upd s t (A.soft (s t)),H⟩:=fun a w I μ hs=>
 ⟨I,μ,hs.sim,hs.size,hs.defers,fun k=>by
  show Rel w I μ (upd s t (A.soft (s t)) k) _;unfold upd;split
  ·rename_i e;subst e;exact(hs.rel _).soft
  ·exact hs.rel k⟩
theorem Adz{n0:Nat}{w0:World}{I0:Nat->Prop}{Q:Exit->Sta->Prop}{X:A}{l:List Sc}{x:Sc}{k u:Nat}{H:Hp}(hl:l.length<=1000)(hH:H [0]=⟨u,.cells (QA x)⟩)(hq:∀st,Q (.exit 2) ⟨lk ([(0,X),(3,Wo l),(4,iv k),(5,.pob [0] u 0),(7,.sl true []),(8,iv (Xc x l))]++st),H⟩):∀(m i:Nat),i+m=l.length->i+Xc x (l.drop i)=Xc x l ->
  LoopC (cx Tryz.prog w0 I0 n0) FN Q ⟨lk [(0,X),(3,Wo l),(4,iv k),(5,.pob [0] u 0),(7,.sl true []),(8,iv i)],H⟩:=by
 intro m;induction m with
 |zero=>
  intro i hm hf;refine Ab Ah (Ao FN.eq_1) ?_;have:¬(i:Int)<l.length:=oF
  rw[List.drop_eq_nil_of_le oF]at hf;have:i=Xc x l:=by rw[<-hf];rfl
  simp[show ¬(i:Int)<l.length by omega];rw[this];exact hq [(35,bv false)]
 |succ m ih=>
  intro i hm hf;have hi:i<l.length:=oF
  have e1:=Ap i;have hd:l.drop i=l[i]::l.drop (i+1):=(List.getElem_cons_drop hi).symm;rw[hd,Xc]at hf;refine Ab Ah (Ao FN.eq_1) ?_;by_cases h1:l[i].i<x.i
  ·rw[if_pos h1]at hf;simp[hi,hH,Jd,QA,h1,e1];exact ih (i+1) oF oF
  ·rw[if_neg h1]at hf;have:i=Xc x l:=by rw[<-hf];rfl
   simp[hi,hH,Jd,QA,h1,e1];rw[this];exact hq [(35,bv false)]
theorem Ac1{n0:Nat}{w0:World}{I0:Nat->Prop}{rs:List (List Int)}(hrs:rs.length<=1000000)(hr:∀r,r∈rs->r.length<=1000000){Q:Exit->Sta->Prop}{o o':List Sc}(h:LD (Df 0 rs) o o')(hl:o'.length<=16)(ha:ES o)(hq:∀H,Q .ret ⟨lk [(2,Wo (Dc o'))],H⟩):∀(H:Hp),
  LoopC (cx Tryz.prog w0 I0 n0) F0 Q ⟨lk [(0,M6 rs),(3,Wo (Dc o)),(4,iv o.length)],H⟩:=by
 induction h with
 |@done o h=>
  intro H;have hsl:(Dc o).length=o.length:=(Kk ha).2.length_eq;have hB:=cw rs (Dc o) oF hrs hr;refine Ab Ah (BG F0.eq_1) ?_;simp[show(o.length:Int)<17 by omega];refine Ae hB rfl ?_;have hb:GD (Dc o) sc0 (Df 0 rs)=sc0:=by
   rw[SA (Kk ha).2];rcases ZX (rs:=rs) (o:=o)with ⟨h,_⟩|h'
   ·exact h
   ·have:=h _ h'.1;rw[h'.2.1]at this;cases this
  rw[hb];simp[sc0,Jd,QA];exact hq _
 |@step o x o' hx hp ih=>
  intro H;have hol:=(vu hp).length_le;simp at hol;have hsl:(Dc o).length=o.length:=(Kk ha).2.length_eq;have hB:=cw rs (Dc o) oF hrs hr;refine Ab Ah (BG F0.eq_1) ?_;simp[show(o.length:Int)<17 by omega];refine Ae hB rfl ?_;have hb:GD (Dc o) sc0 (Df 0 rs)=x:=by
   rw[SA (Kk ha).2];rcases ZX (rs:=rs) (o:=o)with ⟨_,h⟩|h
   ·have:=h x hx.1;rw[hx.2.1]at this;cases this
   ·exact j1 h hx
  have hn:=(JB hx.1).2.2.2.1;rw[hb];simp[show ¬x.n=0 from oF];refine Adz (x:=x) (u:=(H [0]).u+1) oF (by simp[Aa]) (fun st=>?_) (Dc o).length 0 oF iS;have hat:=xV x (Dc o);simp[Aa,hat];have f1:List.take (Xc x (Dc o)) (List.map Jd (Dc o))=List.map Jd ((Dc o).take (Xc x (Dc o))):=iS
  have f2:List.take ((Dc o).length-Xc x (Dc o)) (List.drop (Xc x (Dc o)) (List.map Jd (Dc o)))=List.map Jd ((Dc o).drop (Xc x (Dc o))):=by
   rw[Ax iS];simp
  have f3:Dc (o++[x])=(Dc o).take (Xc x (Dc o))++x::(Dc o).drop (Xc x (Dc o)):=by rw[sW,qD]
  have f4:((Dc o).take (Xc x (Dc o))).length+((Dc o).drop (Xc x (Dc o))).length<=16:=by simp;omega
  rw[f1,f2];generalize (Dc o).take (Xc x (Dc o))=A1 at f3 f4;generalize (Dc o).drop (Xc x (Dc o))=A2 at f3 f4;have e1:i64.wrap ((o.length:Int)+1)=(((o++[x]).length:Nat):Int):=by rw[AJ oF oF];simp
  rw[e1];have d3:QA x=[iv x.i,iv x.j]:=rfl;simp[oZ,Aa,d3];refine⟨oF,oF,oF,?_⟩;refine LoopC.le (Jr (d:=[1]) (fun _ h=>h) 3 (Wo (Dc (o++[x]))) fun H1 h1=>?_) ?_
  ·rw[f3];refine AQ (u:=(H [1]).u+1+1+1) (sz:=2) ?_ (by simp;omega) (fun x=>rfl);rw[h1];simp[Aa];rw[Ax iS];rw[Ax iS];simp;rfl
  ·refine LoopC.le (Al [(0,M6 rs),(3,Wo (Dc (o++[x]))),(4,iv (o++[x]).length)] iS) ?_;exact ih hl (Zy ha hx.2.1) hq _
theorem x7(rs:List (List Int))(hrs:rs.length<=1000000)(hr:∀r,r∈rs->r.length<=1000000){o':List Sc}(ho:LD (Df 0 rs) [] o')(hl16:o'.length<=16):G.Spec Tryz.prog 174 [M6 rs] (Wo (Dc o')):=by
 refine Aj Tu iS fun w0 I0=>?_;rw[BG MF.eq_1];simp;refine LoopC.le (qX 3) ?_;refine LoopC.le (Al [(0,M6 rs),(3,Wo (Dc [])),(4,iv (([]:List Sc).length:Nat))] (by simp[A.soft,A.softL,Dc])) ?_;refine Ac1 hrs hr ho hl16 (by simp[ES]) (fun H=>?_) _;simp;exact Ad rfl
variable {n0:Nat} {w0:World} {I0:Nat->Prop} {Q:Exit->Sta->Prop}
theorem Aeg{a b:T}{H:Hp}(ha:Ay a)(hb:Ay b)(h0:H [0]=⟨1,.cells (tL a)⟩)(h1:H [1]=⟨1,.cells (tL b)⟩):∀(m i n:Nat),i+m=min a.words.length b.words.length->n<=1+i ->
  (∀st,Q (.exit 0) ⟨lk ([(2,.pob [0] 1 0),(3,.pob [1] 1 0),(5,nv (n+O9 (a.words.drop i) (b.words.drop i)))]++st),H⟩) ->
  LoopC (cx Tryz.prog w0 I0 n0) EP Q ⟨lk [(2,.pob [0] 1 0),(3,.pob [1] 1 0),(5,nv n),(6,iv i)],H⟩:=by
 have hal:=(wfT_iff.1 ha).wl;intro m;induction m with
 |zero=>
  intro i n hm hn hq;refine Ab Ah (Ao EP.eq_1) ?_;rw[kS oF]at hq;by_cases hlt:i<a.words.length
  ·have:¬i<b.words.length:=oF
   simp[h0,h1,hlt,this];exact hq [(6,iv i),(34,bv false)]
  ·simp[h0,h1,hlt];exact hq [(6,iv i),(34,bv false)]
 |succ m ih=>
  intro i n hm hn hq;have hi:i<a.words.length:=oF
  have hj:i<b.words.length:=oF
  have e1:=Ap i;have e2:=Ap n;rw[pd hi hj]at hq;refine Ab Ah (Ao EP.eq_1) ?_;by_cases h:a.words[i]=b.words[i]
  ·simp[h0,h1,hi,hj,h,e1,e2];refine ih (i+1) (n+1) oF oF fun st=>?_;have:=hq st;rw[if_pos h]at this;rw[show n+1+O9 (a.words.drop (i+1)) (b.words.drop (i+1))=n+(1+O9 (a.words.drop (i+1)) (b.words.drop (i+1))) by omega];exact this
  ·simp[h0,h1,hi,hj,h,e1];refine ih (i+1) n oF oF fun st=>?_;have:=hq st;rw[if_neg h,Nat.zero_add]at this;exact this
theorem Aey{a b:T}{H:Hp}(ha:Ay a)(hb:Ay b)(h0:H [0]=⟨1,.cells (tL a)⟩)(h1:H [1]=⟨1,.cells (tL b)⟩):∀(m i n:Nat),i+m=min a.kids.length b.kids.length->n<=100000000000000+i ->
  (∀st,Q (.exit 2) ⟨lk ([(2,.pob [0] 1 0),(3,.pob [1] 1 0),(5,nv (n+Xa (a.kids.drop i) (b.kids.drop i)))]++st),H⟩) ->
  LoopC (cx Tryz.prog w0 I0 n0) EM Q ⟨lk [(2,.pob [0] 1 0),(3,.pob [1] 1 0),(5,nv n),(7,iv i)],H⟩:=by
 have hal:=(wfT_iff.1 ha).kl;intro m;induction m with
 |zero=>
  intro i n hm hn hq;refine Ab Ah (Ao EM.eq_1) ?_;rw[kN oF]at hq;by_cases hlt:i<a.kids.length
  ·have:¬i<b.kids.length:=oF
   simp[h0,h1,hlt,this];exact hq [(7,iv i),(61,bv false)]
  ·simp[h0,h1,hlt];exact hq [(7,iv i),(61,bv false)]
 |succ m ih=>
  intro i n hm hn hq;have hi:i<a.kids.length:=oF
  have hj:i<b.kids.length:=oF
  have e1:=Ap i;have e2:=Ap n;have hE:=It ((wfT_iff.1 ha).ks _ (Bv hi)) ((wfT_iff.1 hb).ks _ (Bv hj)) (BV _ ((wfT_iff.1 ha).ks _ (Bv hi)));rw[pq hi hj]at hq;refine Ab Ah (Ao EM.eq_1) ?_;simp[h0,h1,hi,hj];refine Ae hE iS ?_;cases h:JE a.kids[i] b.kids[i] with
  |true=>
   simp[e1,e2];refine ih (i+1) (n+1) oF oF fun st=>?_;have:=hq st;rw[if_pos h]at this;rw[show n+1+Xa (a.kids.drop (i+1)) (b.kids.drop (i+1))=n+(1+Xa (a.kids.drop (i+1)) (b.kids.drop (i+1))) by omega];exact this
  |false=>
   simp[e1];refine ih (i+1) n oF oF fun st=>?_;have:=hq st;rw[if_neg (by rw[h];decide),Nat.zero_add]at this;exact this
theorem jA{a b:T}(ha:Ay a)(hb:Ay b):G.Spec Tryz.prog 173 [tX a,tX b] (nv (DK a b)):=by
 have hal:=(wfT_iff.1 ha).wl;refine Aj R9 iS fun w0 I0=>?_;rw[gm K9.eq_1];by_cases hk:a.kind=b.kind
 ·by_cases h0:b.kind=0
  ·simp[hk,h0];exact GG (by simp[DK,hk,h0])
  ·by_cases h10:b.kind=10
   ·simp[hk,h0,h10];exact GG (by simp[DK,hk,h10])
   ·simp[hk,h0,h10];refine LoopC.le (Al [(2,.pob [0] 1 0),(3,.pob [1] 1 0),(5,nv 1),(6,iv (0:Nat))] iS) ?_;refine Aeg ha hb (by simp[Aa,hk]) (by simp[Aa]) _ 0 1 (Nat.zero_add _) oF fun st=>?_;simp;refine LoopC.le (Al [(2,.pob [0] 1 0),(3,.pob [1] 1 0),(5,nv (1+O9 a.words b.words)),(7,iv (0:Nat))] iS) ?_;have:=Yj a.words b.words;refine Aey ha hb (by simp[Aa,hk]) (by simp[Aa]) _ 0 _ (Nat.zero_add _) oF fun st=>?_;simp;refine GG ?_;simp[DK,hk,h0,h10]
 ·simp[hk];exact GG (by simp[DK,hk])
theorem Aec{a b:T}{H:Hp}(ha:Ay a)(hb:Ay b)(h0:H [0]=⟨1,.cells (tL a)⟩)(h1:H [1]=⟨1,.cells (tL b)⟩):∀(m i n:Nat),i+m=min a.words.length b.words.length->n<=1+i ->
  (∀st,Q (.exit 0) ⟨lk ([(2,.pob [0] 1 0),(3,.pob [1] 1 0),(5,nv (n+O9 (a.words.drop i) (b.words.drop i)))]++st),H⟩) ->
  LoopC (cx Tryz.prog w0 I0 n0) JP Q ⟨lk [(2,.pob [0] 1 0),(3,.pob [1] 1 0),(5,nv n),(29,iv (min a.words.length b.words.length:Nat)),(30,iv i)],H⟩:=by
 have hal:=(wfT_iff.1 ha).wl;intro m;induction m with
 |zero=>
  intro i n hm hn hq;refine Ab Ah (Ao JP.eq_1) ?_;rw[kS oF]at hq;generalize min a.words.length b.words.length=N at *;simp[show ¬i<N from oF];exact hq [(29,iv N),(30,iv i),(31,bv false)]
 |succ m ih=>
  intro i n hm hn hq;have hi:i<a.words.length:=oF
  have hj:i<b.words.length:=oF
  have e1:=Ap i;have e2:=Ap n;rw[pd hi hj]at hq;generalize min a.words.length b.words.length=N at *;have hN:i<N:=oF
  refine Ab Ah (Ao JP.eq_1) ?_;by_cases h:a.words[i]=b.words[i]
  ·simp[h0,h1,hi,hj,hN,h,e1,e2];refine ih (i+1) (n+1) oF oF fun st=>?_;have:=hq st;rw[if_pos h]at this;rw[show n+1+O9 (a.words.drop (i+1)) (b.words.drop (i+1))=n+(1+O9 (a.words.drop (i+1)) (b.words.drop (i+1))) by omega];exact this
  ·simp[h0,h1,hi,hj,hN,h,e1];refine ih (i+1) n oF oF fun st=>?_;have:=hq st;rw[if_neg h,Nat.zero_add]at this;exact this
theorem Adu{a b:T}{H:Hp}(ha:Ay a)(hb:Ay b)(h0:H [0]=⟨1,.cells (tL a)⟩)(h1:H [1]=⟨1,.cells (tL b)⟩):∀(m i n:Nat),i+m=min a.kids.length b.kids.length->n<=100000000000000+i ->
  (∀st,Q (.exit 2) ⟨lk ([(2,.pob [0] 1 0),(3,.pob [1] 1 0),(5,nv (n+Xa (a.kids.drop i) (b.kids.drop i)))]++st),H⟩) ->
  LoopC (cx Tryz.prog w0 I0 n0) JI Q ⟨lk [(2,.pob [0] 1 0),(3,.pob [1] 1 0),(5,nv n),(53,iv (min a.kids.length b.kids.length:Nat)),(54,iv i)],H⟩:=by
 have hal:=(wfT_iff.1 ha).kl;intro m;induction m with
 |zero=>
  intro i n hm hn hq;refine Ab Ah (Ao JI.eq_1) ?_;rw[kN oF]at hq;generalize min a.kids.length b.kids.length=N at *;simp[show ¬i<N from oF];exact hq [(53,iv N),(54,iv i),(55,bv false)]
 |succ m ih=>
  intro i n hm hn hq;have hi:i<a.kids.length:=oF
  have hj:i<b.kids.length:=oF
  have e1:=Ap i;have e2:=Ap n;have hE:=Lr ((wfT_iff.1 ha).ks _ (Bv hi)) ((wfT_iff.1 hb).ks _ (Bv hj));rw[pq hi hj]at hq;generalize min a.kids.length b.kids.length=N at *;have hN:i<N:=oF
  refine Ab Ah (Ao JI.eq_1) ?_;simp[h0,h1,hi,hj,hN];refine Ae hE iS ?_;cases h:JE a.kids[i] b.kids[i] with
  |true=>
   simp[e1,e2];refine ih (i+1) (n+1) oF oF fun st=>?_;have:=hq st;rw[if_pos h]at this;rw[show n+1+Xa (a.kids.drop (i+1)) (b.kids.drop (i+1))=n+(1+Xa (a.kids.drop (i+1)) (b.kids.drop (i+1))) by omega];exact this
  |false=>
   simp[e1];refine ih (i+1) n oF oF fun st=>?_;have:=hq st;rw[if_neg (by rw[h];decide),Nat.zero_add]at this;exact this
theorem ij{a b:T}(ha:Ay a)(hb:Ay b):G.Spec Tryz.prog 184 [tX a,tX b] (nv (DK a b)):=by
 have hal:=(wfT_iff.1 ha).wl;refine Aj dH iS fun w0 I0=>?_;rw[gm TB.eq_1];by_cases hk:a.kind=b.kind
 ·by_cases h0:b.kind=0
  ·simp[hk,h0];exact GG (by simp[DK,hk,h0])
  ·by_cases h10:b.kind=10
   ·simp[hk,h0,h10];exact GG (by simp[DK,hk,h10])
   ·simp[hk,h0,h10];refine LoopC.le (Al [(2,.pob [0] 1 0),(3,.pob [1] 1 0),(5,nv 1),(29,iv (min a.words.length b.words.length:Nat)),(30,iv (0:Nat))] (by simp;omega)) ?_;refine Aec ha hb (by simp[Aa,hk]) (by simp[Aa]) _ 0 1 (Nat.zero_add _) oF fun st=>?_;simp;refine LoopC.le (Al [(2,.pob [0] 1 0),(3,.pob [1] 1 0),(5,nv (1+O9 a.words b.words)),(53,iv (min a.kids.length b.kids.length:Nat)),(54,iv (0:Nat))] (by simp;omega)) ?_;have:=Yj a.words b.words;refine Adu ha hb (by simp[Aa,hk]) (by simp[Aa]) _ 0 _ (Nat.zero_add _) oF fun st=>?_;simp;refine GG ?_;simp[DK,hk,h0,h10]
 ·simp[hk];exact GG (by simp[DK,hk])
theorem pe{t:T}(h:Ay t)(i:Nat):Ba (wdT t i):=by
 unfold wdT;rw[List.getD_eq_getElem?_getD];cases e:t.words[i]? with
 |none=>exact⟨iS,iS⟩
 |some x=>exact(wfT_iff.1 h).w x (List.mem_of_getElem? e)
inductive WI where
 |keep (n:Int)
 |del (k v:Nat) (l:List T)
 |ins (k v:Nat) (l:List T)
 |desc (e:E)
def WI.op:WI->OP
 |.keep n=>.mk 0 n [] E0
 |.del _ _ l=>.mk 1 0 l E0
 |.ins _ _ l=>.mk 2 0 l E0
 |.desc e=>.mk 3 0 [] e
def AY:List A:=[iv 0,iv 0,.sl true [],.sl true [],iv 0,.sl true [],.sl true [],.sl true [],.sl true [],iv 0,.sl true []]
def Z9(r:Nat):WI->List A
 |.keep n=>iv 0::iv n :: .sl true []::AY
 |.del k v l=>iv 1::iv 0 :: .osl (r::[k]) v 3 0 l.length::AY
 |.ins k v l=>iv 2::iv 0 :: .osl (r::[k]) v 3 0 l.length::AY
 |.desc e=>iv 3::iv 0 :: .sl true []::eL e
def WT(r:Nat)(x:WI):A:=.agg (Z9 r x)
@[simp]theorem Afz{r:Nat}{x:WI}:(WT r x).cells=Z9 r x:=rfl
@[simp]theorem AkO{r:Nat}{x:WI}:(Z9 r x).length=14:=by cases x<;>rfl
theorem zo{g:Nm->Nm}{δ:Nm->Nat}{r r':Nat}(hg:∀p,g (r::p)=r'::p)(hd:∀p,δ (r::p)=0)(x:WI):A.renL g δ (Z9 r x)=Z9 r' x:=by
 cases x<;>simp[Z9,AY,A.renL,A.ren,hg,hd]
theorem vX{D:Nm->Prop}{r:Nat}(hD:∀p,D (r::p))(x:WI):A.refsL D (Z9 r x):=by
 cases x<;>simp[Z9,AY,A.refsL,A.refs,hD]
def QU(r:Nat):Option (Nat × Nat × List T)->A
 |some (k,v,l)=>.osl (r::[k]) v 3 0 l.length
 |none=>.sl true []
abbrev Xt:=Nat->Option (Nat × List T)
def qS:Option (Nat × List T)->VOb
 |some (v,l)=>⟨v,.arr 3 (l.map tA)⟩
 |none=>⟨0,.none⟩
theorem AbA{g:Nm->Nm}{δ:Nm->Nat}{r r':Nat}(hg:∀p,g (r::p)=r'::p)(hd:∀p,δ (r::p)=0)(o:Option (Nat × Nat × List T)):(QU r o).ren g δ=QU r' o:=by
 rcases o with _|⟨k,v,l⟩
 ·simp[QU,A.ren]
 ·simp[QU,A.ren,hg,hd]
def WJ(R:Xt):Nm->VOb
 |[k]=>qS (R k)
 |_=>⟨0,.none⟩
@[simp]theorem Afb{R:Xt}{k:Nat}:WJ R [k]=qS (R k):=rfl
theorem AbG{g:Nm->Nm}{δ:Nm->Nat}(o:Option (Nat × List T)):VOb.ren g δ 0 (qS o)=qS o:=by
 rcases o with _|⟨v,l⟩
 ·rfl
 ·refine Fam.arr_ren ?_;simp only[C0,List.map_map];refine List.map_congr_left fun x _=>?_;simp[A.ren,A.renL]
theorem sQ{g:Nm->Nm}{δ:Nm->Nat}(R:Xt):∀p,VOb.ren g δ 0 (WJ R p)=WJ R p
 |[]=>rfl
 |[k]=>AbG _
 |_::_::_=>rfl
theorem w8{D:Nm->Prop}(o:Option (Nat × List T)):(qS o).ob.refs D:=by
 rcases o with _|⟨v,l⟩
 ·trivial
 ·simp only[qS,Ob.refs,refsL_iff];intro y hy;obtain⟨x,_,rfl⟩:=List.mem_map.1 hy;simp[A.refs,A.refsL]
theorem ou{D:Nm->Prop}(R:Xt):∀p,(WJ R p).ob.refs D
 |[]=>trivial
 |[k]=>w8 _
 |_::_::_=>trivial
def Zf(its:List WI)(vo:Nat)(g b:Option (Nat × Nat × List T))(R:Xt):Fam:=⟨fun r p=>if p=[]then ⟨1,.cells [.osl (r::[0]) vo 14 0 its.length,QU r g,QU r b]⟩else if p=[0]then ⟨vo,.arr 14 (its.map (WT r))⟩else WJ R p,fun {γ δ r r'} hg hd p=>by
  by_cases h1:p=[]
  ·rw[if_pos h1,if_pos h1];refine Fam.cells_ren ?_;simp[A.renL,A.ren,hg,hd,AbA hg hd]
  ·rw[if_neg h1,if_neg h1];by_cases h2:p=[0]
   ·rw[if_pos h2,if_pos h2];refine Fam.arr_ren ?_;simp only[C0,List.map_map];refine List.map_congr_left fun x _=>?_;simp[WT,A.ren,zo hg hd]
   ·rw[if_neg h2,if_neg h2];exact sQ R p,fun {D r} hD p=>by
  by_cases h1:p=[]
  ·rw[if_pos h1];rcases g with _|⟨k,v,l⟩<;>rcases b with _|⟨k',v',l'⟩<;>simp[Ob.refs,A.refsL,A.refs,hD,QU]
  ·rw[if_neg h1];by_cases h2:p=[0]
   ·rw[if_pos h2];simp only[Ob.refs,refsL_iff];intro y hy;obtain⟨x,_,rfl⟩:=List.mem_map.1 hy;simp only[A.refs,WT];exact vX hD x
   ·rw[if_neg h2];exact ou R p⟩
@[simp]theorem pT{its:List WI}{vo:Nat}{g b:Option (Nat × Nat × List T)}{R:Xt}{r:Nat}{p:Nm}:(Zf its vo g b R).F r p=if p=[]then ⟨1,.cells [.osl (r::[0]) vo 14 0 its.length,QU r g,QU r b]⟩else if p=[0]then ⟨vo,.arr 14 (its.map (WT r))⟩else WJ R p:=rfl
abbrev wrP(r:Nat):A:=.pob [r] 1 0
theorem Xy{r:Nat}{l:List WI}:E8 14 (l.map (WT r))=true:=by rw[Jb];simp
def GS:Nat × Nat × List T->List WI
 |(k,v,l)=>if l=[]then []else [.del k v l]
def B9:Nat × Nat × List T->List WI
 |(k,v,l)=>if l=[]then []else [.ins k v l]
theorem Ky(its:List WI)(vo:Nat)(g b:Nat × Nat × List T)(R:Xt)(hl:its.length<=1000000)(hg:R g.1=some (g.2.1,g.2.2))(hb:R b.1=some (b.2.1,b.2.2))(hg0:1<=g.1)(hb0:1<=b.1):SpecF Tryz.prog 118 (fun r=>[wrP r]) (Zf its vo (some g) (some b) R) (fun _=>.tup []) (Zf (its++(GS g++B9 b)) (vo+(GS g++B9 b).length) none none R):=by
 obtain⟨gk,gv,gl⟩:=g;obtain⟨bk,bv',bl⟩:=b;refine Az Pb iS (Af AB Ak) (Bj Ak) fun w0 I0 M0 m0=>?_;rw[BG Jn.eq_1];by_cases h1:gl=[]
 ·by_cases h2:bl=[]
  ·simp[h1,h2,QU];rw[(Ao CM.eq_1)];simp[h1,h2,QU,Aa];refine Bg rfl rfl (fun p=>?_);by_cases p1:p=[]
   ·subst p1;simp[Aa,GS,B9,QU]
   ·by_cases p2:p=[0]
    ·subst p2;simp[Aa,GS,B9]
    ·simp[p1,p2,Aa]
  ·have h2':(0:Int)<bl.length:=by have:=List.length_pos_iff.2 h2;omega
   have h2n:=List.length_pos_iff.2 h2;simp[h1,h2,QU];rw[(Ao CM.eq_1)];simp[h1,h2,h2',h2n,QU,Aa,Xy];refine⟨oF,oF,?_⟩;refine Bg rfl rfl (fun p=>?_);by_cases p1:p=[]
   ·subst p1;simp[Aa,GS,B9,QU,h1,h2]
   ·by_cases p2:p=[0]
    ·subst p2;simp[Aa,GS,B9,h1,h2,WT,Z9,AY,Ax]
    ·simp[p1,p2,Aa]
 ·have h1':(0:Int)<gl.length:=by have:=List.length_pos_iff.2 h1;omega
  have h1n:=List.length_pos_iff.2 h1;by_cases h2:bl=[]
  ·simp[h1,h1',h1n,h2,QU,Aa,Xy];refine⟨oF,oF,?_⟩;rw[(Ao CM.eq_1)];simp[h1,h2,QU,Aa];refine Bg rfl rfl (fun p=>?_);by_cases p1:p=[]
   ·subst p1;simp[Aa,GS,B9,QU,h1,h2]
   ·by_cases p2:p=[0]
    ·subst p2;simp[Aa,GS,B9,h1,h2,WT,Z9,AY,Ax]
    ·simp[p1,p2,Aa]
  ·have h2':(0:Int)<bl.length:=by have:=List.length_pos_iff.2 h2;omega
   have h2n:=List.length_pos_iff.2 h2;simp[h1,h1',h1n,h2,QU,Aa,Xy];refine⟨oF,oF,?_⟩;rw[(Ao CM.eq_1)];simp[h1,h2,h2',h2n,QU,Aa];refine⟨oF,⟨oF,oF⟩,?_⟩;refine Bg rfl rfl (fun p=>?_);by_cases p1:p=[]
   ·subst p1;simp[Aa,GS,B9,QU,h1,h2]
   ·by_cases p2:p=[0]
    ·subst p2;simp[Aa,GS,B9,h1,h2,WT,Z9,AY,Ax]
    ·simp[p1,p2,Aa]
theorem AjT(l:List T)(x:A):(l.map tA++[x])[l.length]? = some x:=by rw[List.getElem?_append_right iS];simp
theorem zK(l:List T):List.take l.length (l.map tA)=l.map tA:=Ax iS
theorem pz{n0:Nat}{w0:World}{I0:Nat->Prop}{M0:Nm->Nat->Prop}{m0:Mu}{Q:Exit->Sta->Prop}{its:List WI}{vo off k:Nat}{g b:Option (Nat × Nat × List T)}{R:Xt}{ts l0:List T}{v0:Nat}(hts:∀t,t∈ts->Ay t)(hl:l0.length+ts.length<=1000000)(hk:1<=k)
  (F:Nat->List T->Fam) (hF0:∀v l,(F v l).F 0 []=⟨1,.cells [.osl [0,0] vo 14 0 its.length,if off=1 then .osl [0,k] v 3 0 l.length else QU 0 g,if off=1 then QU 0 b else .osl [0,k] v 3 0 l.length]⟩) (hoff:off=1\/off=2) (hFk:∀v l,(F v l).F 0 [k]=⟨v,.arr 3 (l.map tA)⟩) (hFo:∀v l v' l' p,p≠[]->p≠[k]->(F v l).F 0 p=(F v' l').F 0 p)
  (hq:∀H st,(∀p,H (0::p)=(F (v0+ts.length) (l0++ts.map Ag)).F 0 p)->Q (.exit 0) ⟨lk st,H⟩):∀(m i:Nat)(H:Hp),i+m=ts.length->(∀p,H (0::p)=(F (v0+i) (l0++(ts.take i).map Ag)).F 0 p) ->
  LoopC (En Tryz.prog w0 I0 M0 n0 m0) IG Q ⟨lk [(0,.pob [0] 1 off),(6,AV ts),(7,iv ts.length),(8,iv i)],H⟩:=by
 intro m;induction m with
 |zero=>
  intro i H hm hH;refine Ab Ah (Ao IG.eq_1) ?_;have:i=ts.length:=oF
  subst this;rw[Ax (Cq _)]at hH;simp;exact hq H _ hH
 |succ m ih=>
  intro i H hm hH;have hi:i<ts.length:=oF
  have ew:=Ap i;have h0:=hH [];rw[hF0]at h0;have h1:=hH [k];rw[hFk]at h1;have hN:=D3 ts[i] (hts _ (Bv hi));have hLs:l0++(ts.take (i+1)).map Ag=l0++(ts.take i).map Ag++[Ag ts[i]]:=by rw[HJ hi,List.map_append,<-List.append_assoc];rfl
  have hLl:(l0++(ts.take i).map Ag).length<=1000000:=by simp;omega
  have next:=ih (i+1)
  rw[hLs,<-Nat.add_assoc]at next
  generalize l0++(ts.take i).map Ag=L at *;generalize v0+i=v at *;have hH':∀(p:Nm)(H2:Hp),p≠[]->p≠[k]->H2 (0::p)=H (0::p)->H2 (0::p)=(F (v+1) (L++[Ag ts[i]])).F 0 p:=fun p H2 p1 p2 he=>by rw[he,hH,hFo _ _ _ _ p p1 p2]
  refine Ab Ah (Ao IG.eq_1) ?_;rcases hoff with rfl|rfl;all_goals
   simp at h0 h1;simp[hi,Aa,h0];refine Ae hN (by simp[Aa]) ?_;simp[Aa,h0,h1,show ¬k=0 by omega,show ¬0=k from oF,AjT,zK,ew];refine⟨oF,oF,?_⟩;refine next _ oF (fun p=>?_)
   by_cases p1:p=[]
   ·subst p1;rw[hF0];simp[Aa,show ¬k=0 by omega,show ¬0=k from oF]
   ·by_cases p2:p=[k]
    ·subst p2;rw[hFk];simp[Aa,show ¬k=0 by omega,show ¬0=k from oF]
    ·exact hH' p _ p1 p2 (by simp[Aa,p1,p2,Ne.symm p1,Ne.symm p2])
def HZ(R:Xt)(k:Nat)(v:Nat)(l:List T):Xt:=fun q=>if q=k then some (v,l)else R q
theorem cL{R:Xt}{k v:Nat}{l:List T}(h:R k=some (v,l)):HZ R k v l=R:=by
 funext q;unfold HZ;split
 ·rename_i e;rw[e,h]
 ·rfl
theorem nR(its:List WI)(vo k v:Nat)(l:List T)(b:Option (Nat × Nat × List T))(R:Xt)(hR:R k=some (v,l))(hk:1<=k)(hb:∀x,b=some x->x.1≠k){ts:List T}(hts:∀t,t∈ts->Ay t)(hl:l.length+ts.length<=1000000) :
  SpecF Tryz.prog 116 (fun r=>[.pob [r] 1 1,AV ts]) (Zf its vo (some (k,v,l)) b R) (fun _=>.tup []) (Zf its vo (some (k,v+ts.length,l++ts.map Ag)) b (HZ R k (v+ts.length) (l++ts.map Ag))):=by
 refine Az RO iS (Af AB (Af Bp Ak)) (Bj Ak) fun w0 I0 M0 m0=>?_;rw[BG MY.eq_1];simp;refine LoopC.le (Al [(0,.pob [0] 1 1),(6,AV ts),(7,iv ts.length),(8,iv (0:Nat))] iS) ?_;refine pz (its:=its) (vo:=vo) (off:=1) (k:=k) (g:=none) (b:=b) (R:=R) (ts:=ts) (l0:=l) (v0:=v) hts hl hk (fun v l=>Zf its vo (some (k,v,l)) b (HZ R k v l)) (fun v l=>by simp[QU]) (.inl rfl) (fun v l=>by simp[qS,HZ,show ¬k=0 from oF]) (fun v l v' l' p p1 p2=>?_) (fun H st hH=>?_) ts.length 0 _ oF (fun p=>?_)
 ·rw[pT,pT,if_neg p1,if_neg p1];split
  ·rfl
  ·match p with
   |[]=>rfl
   |[q]=>simp[HZ,show ¬q=k from fun e=>p2 (by rw[e])]
   |_::_::_=>rfl
 ·simp;exact Bg rfl rfl hH
 ·simp only[List.take_zero,List.map_nil,List.append_nil,Nat.add_zero];rw[cL hR];simp
theorem og(its:List WI)(vo k v:Nat)(l:List T)(g:Option (Nat × Nat × List T))(R:Xt)(hR:R k=some (v,l))(hk:1<=k){ts:List T}(hts:∀t,t∈ts->Ay t)(hl:l.length+ts.length<=1000000) :
  SpecF Tryz.prog 116 (fun r=>[.pob [r] 1 2,AV ts]) (Zf its vo g (some (k,v,l)) R) (fun _=>.tup []) (Zf its vo g (some (k,v+ts.length,l++ts.map Ag)) (HZ R k (v+ts.length) (l++ts.map Ag))):=by
 refine Az RO iS (Af AB (Af Bp Ak)) (Bj Ak) fun w0 I0 M0 m0=>?_;rw[BG MY.eq_1];simp;refine LoopC.le (Al [(0,.pob [0] 1 2),(6,AV ts),(7,iv ts.length),(8,iv (0:Nat))] iS) ?_;refine pz (its:=its) (vo:=vo) (off:=2) (k:=k) (g:=g) (b:=none) (R:=R) (ts:=ts) (l0:=l) (v0:=v) hts hl hk (fun v l=>Zf its vo g (some (k,v,l)) (HZ R k v l)) (fun v l=>by simp[QU]) (.inr rfl) (fun v l=>by simp[qS,HZ,show ¬k=0 from oF]) (fun v l v' l' p p1 p2=>?_) (fun H st hH=>?_) ts.length 0 _ oF (fun p=>?_)
 ·rw[pT,pT,if_neg p1,if_neg p1];split
  ·rfl
  ·match p with
   |[]=>rfl
   |[q]=>simp[HZ,show ¬q=k from fun e=>p2 (by rw[e])]
   |_::_::_=>rfl
 ·simp;exact Bg rfl rfl hH
 ·simp only[List.take_zero,List.map_nil,List.append_nil,Nat.add_zero];rw[cL hR];simp
theorem kV(l:List WI)(r:Nat)(x:A):(l.map (WT r)++[x])[l.length]? = some x:=by rw[List.getElem?_append_right iS];simp
theorem AaV(l:List WI)(r:Nat):List.take l.length (l.map (WT r))=l.map (WT r):=Ax iS
theorem PF(l:List WI)(r:Nat)(x:A):List.take (l.length+1) (l.map (WT r)++[x])=l.map (WT r)++[x]:=Ax iS
theorem Tt:∀g,(GS g).length<=1
 |(a,b,c)=>by
  by_cases h:c=[]<;>simp[GS,h]
theorem N8:∀g,(B9 g).length<=1
 |(a,b,c)=>by
  by_cases h:c=[]<;>simp[B9,h]
theorem n8(its i0:List WI)(vo:Nat)(m n:Int)(g b:Nat × Nat × List T)(R:Xt)(hl:its.length<=1000000)(hg:R g.1=some (g.2.1,g.2.2))(hb:R b.1=some (b.2.1,b.2.2))(hg0:1<=g.1)(hb0:1<=b.1)(hi:its++(GS g++B9 b)=i0++[.keep m]):SpecF Tryz.prog 115 (fun r=>[wrP r,iv n]) (Zf its vo (some g) (some b) R) (fun _=>.tup []) (Zf (i0++[.keep (i64.wrap (m+n))]) (vo+(GS g++B9 b).length) none none R):=by
 have F1:=Ky its vo g b R hl hg hb hg0 hb0;rw[hi]at F1;have hlen:i0.length<=1000002:=by
  have e:=congrArg List.length hi;have:=Tt g;have:=N8 b;simp at e;omega
 generalize vo+(GS g++B9 b).length=v at *;have e1:i64.wrap (i0.length:Int)=i0.length:=CX;refine Az JW iS (Af AB (Af AH Ak)) (Bj Ak) fun w0 I0 M0 m0=>?_;rw[Ao Hb.eq_1];simp;refine Au 0 F1 (fun p=>iS) iS iS ?_;simp[e1,kV,WT,Z9];refine⟨oF,rfl,?_⟩;refine Av rfl rfl (fun p=>?_);by_cases p1:p=[]
 ·subst p1;simp[Aa,QU]
 ·by_cases p2:p=[0]
  ·subst p2;simp[Aa,WT,Z9,AY,A.remake,PF]
  ·simp[p1,p2,Aa]
theorem oO(its:List WI)(vo:Nat)(n:Int)(g b:Nat × Nat × List T)(R:Xt)(hl:its.length<=1000000)(hg:R g.1=some (g.2.1,g.2.2))(hb:R b.1=some (b.2.1,b.2.2))(hg0:1<=g.1)(hb0:1<=b.1)(hi:its++(GS g++B9 b)=[]\/∃i0 x,its++(GS g++B9 b)=i0++[x]/\x.op.kind≠0):SpecF Tryz.prog 115 (fun r=>[wrP r,iv n]) (Zf its vo (some g) (some b) R) (fun _=>.tup []) (Zf (its++(GS g++B9 b)++[.keep n]) (vo+(GS g++B9 b).length+1) none none R):=by
 have F1:=Ky its vo g b R hl hg hb hg0 hb0;have hlen:(its++(GS g++B9 b)).length<=1000002:=by
  have:=Tt g;have:=N8 b;simp;omega
 generalize vo+(GS g++B9 b).length=v at *;generalize its++(GS g++B9 b)=J at *;refine Az JW iS (Af AB (Af AH Ak)) (Bj Ak) fun w0 I0 M0 m0=>?_;rw[Ao Hb.eq_1];simp;refine Au 0 F1 (fun p=>iS) iS iS ?_;rcases hi with rfl|⟨i0,x,rfl,hx⟩
 ·simp[Aa,show i64.wrap (-1)=-1 from rfl];refine Bg rfl rfl (fun p=>?_);by_cases p1:p=[]
  ·subst p1;simp[Aa,QU]
  ·by_cases p2:p=[0]
   ·subst p2;simp[Aa,WT,Z9,AY,A.remake,PF]
   ·simp[p1,p2,Aa]
 ·simp at hlen;have e1:i64.wrap (i0.length:Int)=i0.length:=CX;cases x with
  |keep m=>exact absurd rfl hx
  |del a b c=>
   simp[e1,kV,WT,Z9,Aa];refine⟨oF,oF,⟨oF,oF⟩,?_⟩;refine Bg rfl rfl (fun p=>?_);by_cases p1:p=[]
   ·subst p1;simp[Aa,QU]
   ·by_cases p2:p=[0]
    ·subst p2;simp[Aa,WT,Z9,AY,A.remake,PF]
    ·simp[p1,p2,Aa]
  |ins a b c=>
   simp[e1,kV,WT,Z9,Aa];refine⟨oF,oF,⟨oF,oF⟩,?_⟩;refine Bg rfl rfl (fun p=>?_);by_cases p1:p=[]
   ·subst p1;simp[Aa,QU]
   ·by_cases p2:p=[0]
    ·subst p2;simp[Aa,WT,Z9,AY,A.remake,PF]
    ·simp[p1,p2,Aa]
  |desc e=>
   simp[e1,kV,WT,Z9,Aa];refine⟨oF,oF,⟨oF,oF⟩,?_⟩;refine Bg rfl rfl (fun p=>?_);by_cases p1:p=[]
   ·subst p1;simp[Aa,QU]
   ·by_cases p2:p=[0]
    ·subst p2;simp[Aa,WT,Z9,AY,A.remake,PF]
    ·simp[p1,p2,Aa]
def WI.row:WI->Option (Nat × Nat × List T)
 |.del k v l=>some (k,v,l)
 |.ins k v l=>some (k,v,l)
 |_=>none
def ItR(R:Xt)(its:List WI):Prop:=∀x,x∈its->∀k v l,x.row=some (k,v,l)->R k=some (v,l)/\1<=k
theorem AbY{c:Cx}{s:Nat->A}{H:Hp}{its:List WI}{v K:Nat}{R:Xt}(hH:∀p,H (0::p)=(Zf its v none none R).F 0 p)(hK:∀q,K<=q->R q=none)(hK1:1<=K):∃H',Le c ⟨s,H⟩ ⟨s,H'⟩/\(∀p,H' (0::p)=(Zf its v (some (K,1,[])) (some (K+1,1,[])) (HZ (HZ R K 1 []) (K+1) 1 [])).F 0 p):=by
 have h0:=hH [];simp[QU]at h0;have hK0:H [0,K]=⟨0,.none⟩:=by rw[hH];simp[show ¬K=0 from oF,hK K (Cq _),qS]
 have hK2:H [0,K+1]=⟨0,.none⟩:=by rw[hH];simp[hK (K+1) oF,qS]
 have l1:=Bi (c:=c) (s:=s) (H:=H) (d:=[0]) (u:=1) (cs:=[.osl [0,0] v 14 0 its.length,.sl true [],.sl true []]) 1 [0,K] 3 h0 rfl iS;refine⟨_,l1.trans (Bi (d:=[0]) (u:=1) (cs:=[.osl [0,0] v 14 0 its.length,.osl [0,K] 1 3 0 0,.sl true []]) 2 [0,K+1] 3 (by simp[Aa,hK0]) rfl iS),fun p=>?_⟩;by_cases p1:p=[]
 ·subst p1;simp[Aa,QU,hK0,hK2]
 ·by_cases p2:p=[0]
  ·subst p2;simp[Aa,hH,show ¬0=K from oF]
  ·match p,p1,p2 with
   |[q],p1,p2=>
    have hq0:¬q=0:=fun e=>p2 (by rw[e]);by_cases e1:q=K
    ·subst e1;simp[Aa,HZ,qS,hK0,hq0]
    ·by_cases e2:q=K+1
     ·subst e2;simp[Aa,HZ,qS,hK2]
     ·simp[Aa,HZ,hH,e1,e2,hq0]
   |_::_::_,p1,p2=>simp[Aa,hH,WJ]
theorem Ad9{H:Hp}{R:Xt}{its:List WI}{v:Nat}{g b:Option (Nat × Nat × List T)}(hH:∀p,H (0::p)=(Zf its v g b R).F 0 p)(x:WI)(hx:∀k v l,x.row=some (k,v,l)->R k=some (v,l)/\1<=k):IV H (Z9 0 x) (oA x.op).cells:=by
 have key:∀k v' l,x.row=some (k,v',l)->Iz H (.osl [0,k] v' 3 0 l.length) (AV l):=fun k v' l h=>by
  obtain⟨h1,h2⟩:=hx k v' l h;have:=hH [k];simp[show ¬k=0 from oF,h1,qS]at this;exact AQ (f:=tA) (by rw[this];simp) rfl iS
 have hraw:IV H AY (eL E0):=⟨Ad rfl,Ad rfl,Ai,Ai,Ad rfl,Ai,Ai,Ai,Ai,Ad rfl,Ai,trivial⟩;rw[oA_eq];cases x with
 |keep n=>exact⟨Ad rfl,Ad rfl,Ai,hraw⟩
 |del k v' l=>exact⟨Ad rfl,Ad rfl,key k v' l rfl,hraw⟩
 |ins k v' l=>exact⟨Ad rfl,Ad rfl,key k v' l rfl,hraw⟩
 |desc e=>exact⟨Ad rfl,Ad rfl,Ai,Ad rfl,Ad rfl,Ad rfl,Ad rfl,Ad rfl,Ad rfl,Ad rfl,Ad rfl,Ad rfl,Ad rfl,Ad rfl,trivial⟩
theorem Ur{H:Hp}:∀{a b a' b':List A},IV H a a'->IV H b b'->a.length=a'.length->IV H (a++b) (a'++b')
 |[],b,[],b',_,h,_=>h
 |x::a,b,y::a',b',h1,h,hl=>⟨h1.1,Ur h1.2 h (by simpa using hl)⟩
 |[],b,y::a',b',_,_,hl=>by simp at hl
 |x::a,b,[],b',_,_,hl=>by simp at hl
theorem z8{H:Hp}{R:Xt}{its:List WI}{v:Nat}{g b:Option (Nat × Nat × List T)}(hH:∀p,H (0::p)=(Zf its v g b R).F 0 p)(hx:ItR R its):Iz H (.osl [0,0] v 14 0 its.length) (HQ (its.map WI.op)):=by
 have h1:=hH [0];simp at h1;refine LX (o:=[0,0]) (u:=v) (off:=0) (len:=its.length) (sz:=14) (xs:=its.map (WT 0)) (ys:=(its.map WI.op).map oA) (by rw[Qw,h1];simp) iS iS (fun y hy=>by
  obtain⟨x,_,rfl⟩:=List.mem_map.1 hy;simp) ?_ ?_
 ·have:∀l:List OP,A.ones ((l.map oA).flatMap A.cells)=true:=fun l=>by
   induction l with
   |nil=>rfl
   |cons x l ih=>simp[A.ones]at ih ⊢
  exact this _
 ·rw[List.drop_zero,Ax iS,List.map_map];have:∀l:List WI,(∀x,x∈l->x∈its)->IV H ((l.map (WT 0)).flatMap A.cells) ((l.map (oA ∘ WI.op)).flatMap A.cells):=fun l hl=>by
   induction l with
   |nil=>trivial
   |cons x l ih=>
    simp only[List.map_cons,List.flatMap_cons];exact Ur (Ad9 hH x fun k v l h=>hx x (hl x iS) k v l h) (ih fun y hy=>hl y (by simp[hy])) iS
  exact this its fun x h=>h
theorem th(list:Int)(e:E)(h1:e.words.length<=100000000000000)(h2:e.kids.length<=100000000000000):G.Spec Tryz.prog 117 [iv list,eX e] (bv (Gc list e)):=by
 have e1:i64.wrap ((e.words.length:Int)+e.kids.length)=((e.words.length+e.kids.length:Nat):Int):=AU;refine Aj aB iS fun w0 I0=>?_;rw[Ao R4.eq_1];by_cases k0:e.kind=0
 ·simp[k0,Gc];exact Ad rfl
 ·by_cases k9:list=9
  ·by_cases k2:e.kind=2
   ·simp[k0,k9,k2,Gc,e1];refine BJ ?_;rw[Bool.eq_iff_iff];simp only[decide_eq_true_eq,Bool.and_eq_true,List.isEmpty_iff];constructor
    ·intro h;exact⟨List.eq_nil_of_length_eq_zero oF,List.eq_nil_of_length_eq_zero oF⟩
    ·rintro⟨h1,h2⟩;rw[h1,h2];rfl
   ·simp[k0,k9,k2,Gc];exact Ad rfl
  ·simp[k0,k9,Gc];exact Ad rfl
theorem Xs(its:List WI)(g b:Nat × Nat × List T):(its++(GS g++B9 b)).map WI.op=MU (its.map WI.op) g.2.2 b.2.2:=by
 obtain⟨a,c,l⟩:=g;obtain⟨a',c',l'⟩:=b;by_cases h1:l=[]<;>by_cases h2:l'=[]<;>simp[GS,B9,MU,Dd,Cb,h1,h2,WI.op]
theorem zC(J:List WI):(∃i0 m,J=i0++[.keep m])\/(J=[]\/∃i0 x,J=i0++[x]/\x.op.kind≠0):=by
 rcases List.eq_nil_or_concat J with h|⟨i0,x,h⟩
 ·exact .inr (.inl h)
 ·rw[List.concat_eq_append]at h;cases x with
  |keep m=>exact .inl ⟨i0,m,h⟩
  |del a b c=>exact .inr (.inr ⟨i0,.del a b c,h,by simp[WI.op]⟩)
  |ins a b c=>exact .inr (.inr ⟨i0,.ins a b c,h,by simp[WI.op]⟩)
  |desc e=>exact .inr (.inr ⟨i0,.desc e,h,by simp[WI.op]⟩)
theorem ji(l:List OP)(m n:Int)(t:List T)(e:E):Q6 (l++[.mk 0 m t e]) n=l++[.mk 0 (i64.wrap (m+n)) t e]:=by simp[Q6]
theorem ql(n:Int):Q6 [] n=[.mk 0 n [] E0]:=rfl
theorem gW(l:List OP)(x:OP)(n:Int)(h:x.kind≠0):Q6 (l++[x]) n=l++[x]++[.mk 0 n [] E0]:=by
 obtain⟨k,m,t,e⟩:=x;unfold Q6;rw[List.getLast?_append];simp only[List.getLast?_singleton,Option.some_or];split
 ·rename_i h2;injection h2 with h2;injection h2 with h2;exact absurd h2 h
 ·rfl
structure WrI(its:List WI)(g b:Nat × Nat × List T)(R:Xt)(K:Nat):Prop where
 g1:1<=g.1
 b1:1<=b.1
 gb:g.1≠b.1
 gK:g.1<K
 bK:b.1<K
 Rg:R g.1=some (g.2.1,g.2.2)
 Rb:R b.1=some (b.2.1,b.2.2)
 rK:∀q,K<=q->R q=none
 it:ItR R its
 ng:∀x,x∈its->∀k v l,x.row=some (k,v,l)->k≠g.1/\k≠b.1
theorem WrI.flushed{its:List WI}{g b:Nat × Nat × List T}{R:Xt}{K:Nat}(h:WrI its g b R K):ItR R (its++(GS g++B9 b)):=by
 intro x hx k v l hr;rcases List.mem_append.1 hx with hx|hx
 ·exact h.it x hx k v l hr
 ·rcases List.mem_append.1 hx with hx|hx
  ·obtain⟨a,c,d⟩:=g;by_cases e:d=[]<;>simp[GS,e]at hx
   subst hx;simp[WI.row]at hr;obtain⟨rfl,rfl,rfl⟩:=hr;exact⟨h.Rg,h.g1⟩
  ·obtain⟨a,c,d⟩:=b;by_cases e:d=[]<;>simp[B9,e]at hx
   subst hx;simp[WI.row]at hr;obtain⟨rfl,rfl,rfl⟩:=hr;exact⟨h.Rb,h.b1⟩
theorem iu{its:List WI}{g b:Nat × Nat × List T}{R:Xt}{K:Nat}(h:WrI its g b R K)(hl:its.length<=1000000)(vo:Nat)(n:Int):∃its2 v2,SpecF Tryz.prog 115 (fun r=>[wrP r,iv n]) (Zf its vo (some g) (some b) R) (fun _=>.tup []) (Zf its2 v2 none none R)/\its2.map WI.op=Q6 (MU (its.map WI.op) g.2.2 b.2.2) n/\its2.length<=its.length+3/\ItR R its2:=by
 have hF:=h.flushed;have d1:=Tt g;have d2:=N8 b;rcases zC (its++(GS g++B9 b))with ⟨i0,m,hi⟩|hi
 ·have hlen:=congrArg List.length hi;simp at hlen;refine⟨_,_,n8 its i0 vo m n g b R hl h.Rg h.Rb h.g1 h.b1 hi,?_,?_,?_⟩
  ·rw[<-Xs,hi];simp[WI.op,ji]
  ·simp;omega
  ·rw[hi]at hF;intro x hx k v l hr;rcases List.mem_append.1 hx with hx|hx
   ·exact hF x (by simp[hx]) k v l hr
   ·simp at hx;subst hx;simp[WI.row]at hr
 ·refine⟨_,_,oO its vo n g b R hl h.Rg h.Rb h.g1 h.b1 hi,?_,?_,?_⟩
  ·rw[<-Xs];rcases hi with hi|⟨i0,x,hi,hx⟩
   ·rw[hi];simp[ql,WI.op]
   ·rw[hi];simp only[List.map_append,List.map_cons,List.map_nil];rw[gW _ _ _ hx];simp[WI.op]
  ·simp;omega
  ·intro x hx k v l hr;rcases List.mem_append.1 hx with hx|hx
   ·exact hF x hx k v l hr
   ·simp at hx;subst hx;simp[WI.row]at hr
structure OpG(o:OP):Prop where
 k:o.kind=0\/o.kind=1\/o.kind=2\/o.kind=3
 l:∀t,t∈o.l->Ay t
 e:o.kind=3->G.Spec Tryz.prog 43 [eX o.e] (eX (Iy o.e))/\(Iy o.e).words.length<=100000000000000/\(Iy o.e).kids.length<=100000000000000
def Ez(os:List OP):Nat:=(os.map fun o=>o.l.length).sum
theorem QC(o:OP)(os:List OP):Ez (o::os)=o.l.length+Ez os:=by simp[Ez]
theorem AcM{list:Int}{os:List OP}(hos:∀o,o∈os->OpG o)(hol:os.length<=300000){res:List OP}
  (hq:∀(H:Hp)(its:List WI)(v:Nat)(g b:Nat × Nat × List T)(R:Xt)(K:Nat) st,(∀p,H (0::p)=(Zf its v (some g) (some b) R).F 0 p)->WrI its g b R K->MU (its.map WI.op) g.2.2 b.2.2=res->its.length<=1000000->Q (.exit 0) ⟨lk ([(0,iv list),(5,wrP 0)]++st),H⟩):∀(m i:Nat)(its:List WI)(v:Nat)(g b:Nat × Nat × List T)(R:Xt)(K:Nat)(H:Hp),i+m=os.length->its.length<=3*i->g.2.2.length+b.2.2.length+Ez (os.drop i)<=1000000->WrI its g b R K->(∀p,H (0::p)=(Zf its v (some g) (some b) R).F 0 p)->DG list ((os.drop i).map Kh) (its.map WI.op) g.2.2 b.2.2=res ->
  LoopC (cx Tryz.prog w0 I0 n0) HY Q ⟨lk [(0,iv list),(5,wrP 0),(11,HQ os),(12,iv os.length),(13,iv i)],H⟩:=by
 intro m;induction m with
 |zero=>
  intro i its v g b R K H hm hil hsum hW hH hres;refine Ab Ah (Ao HY.eq_1) ?_;have:i=os.length:=oF
  subst this;rw[List.drop_length,List.map_nil,DG]at hres;simp;exact hq H its v g b R K [(11,HQ os),(12,iv os.length),(13,iv os.length),(14,bv false)] hH hW hres oF
 |succ m ih=>
  intro i its v g b R K H hm hil hsum hW hH hres;have hi:i<os.length:=oF
  have ew:=Ap i;have hd:os.drop i=os[i]::os.drop (i+1):=(List.getElem_cons_drop hi).symm;have hO:=hos _ (Bv hi);rw[hd,List.map_cons,DG]at hres;rw[hd,QC]at hsum;have hoi:(os.map oA)[i]? = some (oX os[i]):=by simp[hi]
  generalize ho:os[i]=o at *;have hnk:(Kh o).kind=o.kind:=rfl;have hnn:(Kh o).n=o.n:=rfl;have hnl:(Kh o).l=o.l:=rfl;have hne:(Kh o).e=Iy o.e:=rfl;rw[hnk,hnn,hnl,hne]at hres
  -- what goes on when all is laid
  have next:∀(its2:List WI)(v2:Nat)(H2:Hp),its2.length<=its.length+3->(∀p,H2 (0::p)=(Zf its2 v2 none none R).F 0 p)->ItR R its2->DG list ((os.drop (i+1)).map Kh) (its2.map WI.op) [] []=res->LoopC (cx Tryz.prog w0 I0 n0) HY Q ⟨lk [(0,iv list),(5,wrP 0),(11,HQ os),(12,iv os.length),(13,iv (i+1:Nat))],H2⟩:=fun its2 v2 H2 h1 h2 h3 h4=>by
   obtain⟨H3,hle,hF⟩:=AbY (c:=cx Tryz.prog w0 I0 n0) (s:=lk [(0,iv list),(5,wrP 0),(11,HQ os),(12,iv os.length),(13,iv (i+1:Nat))]) h2 hW.rK (by have:=hW.gK;omega);refine LoopC.le hle ?_;refine ih (i+1) its2 v2 (K,1,[]) (K+1,1,[]) _ (K+2) H3 oF oF (by simp;omega) ?_ hF h4;have hg:=hW.g1;have hgK:=hW.gK;refine⟨by simp;omega,iS,iS,iS,iS,by simp[HZ],by simp[HZ],fun q hq=>?_,fun x hx k v' l hr=>?_,fun x hx k v' l hr=>?_⟩
   ·simp[HZ,show ¬q=K+1 by omega,show ¬q=K from oF];exact hW.rK q oF
   ·obtain⟨a1,a2⟩:=h3 x hx k v' l hr;have hkK:k<K:=by
     by_cases e:K<=k
     ·rw[hW.rK k e]at a1;cases a1
     ·omega
    exact⟨by simp[HZ,show ¬k=K+1 by omega,show ¬k=K from oF,a1],a2⟩
   ·obtain⟨a1,a2⟩:=h3 x hx k v' l hr;have hkK:k<K:=by
     by_cases e:K<=k
     ·rw[hW.rK k e]at a1;cases a1
     ·omega
    exact⟨by simp;omega,by simp;omega⟩
  refine Ab Ah (Ao HY.eq_1) ?_;rcases hO.k with h0|h0|h0|h0
  ·rw[if_pos h0]at hres;obtain⟨its2,v2,S1,S2,S3,S4⟩:=iu hW oF v o.n;rw[<-S2]at hres;simp[hi,ho,h0,Aa];refine Au 0 S1 (fun p=>by simp[Aa,hH]) iS iS ?_;simp[ew];exact next its2 v2 _ S3 (fun p=>iS) S4 hres
  ·rw[if_neg oF,if_pos h0]at hres;have hF:=nR its v g.1 g.2.1 g.2.2 (some b) R hW.Rg hW.g1 (fun x hx=>by cases hx;exact Ne.symm hW.gb) hO.l oF;simp[hi,ho,h0,Aa];refine Au 0 hF (fun p=>by simp[Aa,hH]) iS iS ?_;simp[ew];refine ih (i+1) its v (g.1,g.2.1+o.l.length,g.2.2++o.l.map Ag) b (HZ R g.1 (g.2.1+o.l.length) (g.2.2++o.l.map Ag)) K _ oF oF (by simp;omega) ?_ (fun p=>iS) hres;have w1:=hW.g1;have w2:=hW.gK;refine⟨hW.g1,hW.b1,hW.gb,hW.gK,hW.bK,by simp[HZ],?_,fun q hq=>?_,fun x hx k v' l hr=>?_,fun x hx k v' l hr=>hW.ng x hx k v' l hr⟩
   ·simp only[HZ,if_neg (Ne.symm hW.gb)];exact hW.Rb
   ·simp only[HZ,if_neg (show ¬q=g.1 from oF)];exact hW.rK q hq
   ·obtain⟨a1,a2⟩:=hW.it x hx k v' l hr;exact⟨by simp only[HZ,if_neg (hW.ng x hx k v' l hr).1];exact a1,a2⟩
  ·rw[if_neg oF,if_neg oF,if_pos h0]at hres;have hF:=og its v b.1 b.2.1 b.2.2 (some g) R hW.Rb hW.b1 hO.l oF;simp[hi,ho,h0,Aa];refine Au 0 hF (fun p=>by simp[Aa,hH]) iS iS ?_;simp[ew];refine ih (i+1) its v g (b.1,b.2.1+o.l.length,b.2.2++o.l.map Ag) (HZ R b.1 (b.2.1+o.l.length) (b.2.2++o.l.map Ag)) K _ oF oF (by simp;omega) ?_ (fun p=>iS) hres;have w2:=hW.bK;refine⟨hW.g1,hW.b1,hW.gb,hW.gK,hW.bK,?_,by simp[HZ],fun q hq=>?_,fun x hx k v' l hr=>?_,fun x hx k v' l hr=>hW.ng x hx k v' l hr⟩
   ·simp only[HZ,if_neg hW.gb];exact hW.Rg
   ·simp only[HZ,if_neg (show ¬q=b.1 from oF)];exact hW.rK q hq
   ·obtain⟨a1,a2⟩:=hW.it x hx k v' l hr;exact⟨by simp only[HZ,if_neg (hW.ng x hx k v' l hr).2];exact a1,a2⟩
  ·rw[if_neg oF,if_neg oF,if_neg oF]at hres;obtain⟨E1,E2,E3⟩:=hO.e h0;have hI:=th list (Iy o.e) E2 E3;simp[hi,ho,h0,Aa];refine Ae E1 iS ?_;simp[Aa];refine Ae hI iS ?_;cases hid:Gc list (Iy o.e) with
   |true=>
    rw[if_pos hid]at hres;obtain⟨its2,v2,S1,S2,S3,S4⟩:=iu hW oF v 1;rw[<-S2]at hres;simp;refine Au 0 S1 (fun p=>by simp[Aa,hH]) iS iS ?_;simp[ew];exact next its2 v2 _ S3 (fun p=>iS) S4 hres
   |false=>
    rw[if_neg (by rw[hid];decide),<-Xs]at hres;have F1:=Ky its v g b R oF hW.Rg hW.Rb hW.g1 hW.b1;have d1:=Tt g;have d2:=N8 b;simp;refine Au 0 F1 (fun p=>by simp[Aa,hH]) iS iS ?_;have hJl:(its++(GS g++B9 b)).length<=its.length+2:=by simp;omega
    have hJr:=hW.flushed;have next':=next (its++(GS g++B9 b)++[.desc (Iy o.e)]) (v+(GS g++B9 b).length+1)
    generalize its++(GS g++B9 b)=J at *;generalize v+(GS g++B9 b).length=v1 at *;simp[Aa,Xy,AaV,kV,ew];refine⟨oF,oF,?_⟩;refine next' _ (by simp;omega) (fun p=>?_) (fun x hx k v' l hr=>?_) ?_
    ·by_cases p1:p=[]
     ·subst p1;simp[Aa,QU]
     ·by_cases p2:p=[0]
      ·subst p2;simp[Aa,WT,Z9]
      ·simp[p1,p2,Aa]
    ·rcases List.mem_append.1 hx with hx|hx
     ·exact hJr x hx k v' l hr
     ·simp at hx;subst hx;simp[WI.row]at hr
    ·simpa[WI.op]using hres
theorem kr{list:Int}{os:List OP}(hos:∀o,o∈os->OpG o)(hol:os.length<=300000)(hsum:Ez os<=1000000):G.Spec Tryz.prog 72 [iv list,HQ os] (HQ (DG list (os.map Kh) [] [] [])):=by
 refine Aj fz iS fun w0 I0=>?_;rw[BG Vd.eq_1];simp;refine LoopC.le (Bi (d:=[0]) (u:=1) (cs:=[.sl true [],.sl true [],.sl true []]) 0 [0,0] 14 rfl rfl iS) ?_;obtain⟨H3,hle,hF⟩:=AbY (c:=cx Tryz.prog w0 I0 72) (s:=lk [(0,iv list),(5,wrP 0),(11,HQ os),(12,iv os.length),(13,iv (0:Nat))]) (H:=Ar (Ar (HO [([0],⟨1,.cells [.sl true [],.sl true [],.sl true []]⟩)]) [0,0] ⟨1,.arr 14 []⟩) [0] ⟨1,.cells [.osl [0,0] 1 14 0 0,.sl true [],.sl true []]⟩) (its:=[]) (v:=1) (K:=1) (R:=fun _=>none) (fun p=>by
  by_cases p1:p=[]
  ·subst p1;simp[Aa,QU]
  ·by_cases p2:p=[0]
   ·subst p2;simp[Aa]
   ·match p,p1,p2 with
    |[q],p1,p2=>
     have hq0:¬q=0:=fun e=>p2 (by rw[e]);simp[Aa,qS,hq0,Ne.symm hq0]
    |_::_::_,p1,p2=>simp[Aa,WJ]) (fun q _=>rfl) oF
 refine LoopC.le hle ?_;refine AcM hos hol (res:=DG list (os.map Kh) [] [] []) (fun H its v g b R K st hH hW hres hil=>?_) os.length 0 [] 1 (1,1,[]) (1+1,1,[]) _ 3 H3 oF iS (by simpa using hsum) ?_ hF iS
 ·have F1:=Ky its v g b R hil hW.Rg hW.Rb hW.g1 hW.b1;have hJr:=hW.flushed;have hm:=Xs its g b;rw[hres]at hm;simp;refine Au 0 F1 hH iS iS ?_;simp;rw[<-hm];have:=z8 (H:=ov 0 ((Zf (its++(GS g++B9 b)) (v+(GS g++B9 b).length) none none R).F 0) H) (its:=its++(GS g++B9 b)) (v:=v+(GS g++B9 b).length) (g:=none) (b:=none) (R:=R) (fun p=>iS) hJr;simpa using this
 ·refine⟨iS,iS,iS,iS,iS,by simp[HZ],by simp[HZ],fun q hq=>?_,fun x hx=>by simp at hx,fun x hx=>by simp at hx⟩;simp[HZ,show ¬q=1 by omega,show ¬q=2 from oF]
mutual
def Vm:E->Prop
 |.mk k o n ws ks l os=>(k=0\/k=1\/k=2\/k=3)/\(k≠3->l=0)/\(k=1->Ay o/\Ay n)/\ws.length<=1000000/\ks.length<=1000000/\os.length<=300000/\Ez os<=1000000/\(k=2->mS ks)/\(k=3->nQ os)
def mS:List KE->Prop
 |[]=>True
 |.mk a e::l=>Vm e/\mS l
def nQ:List OP->Prop
 |[]=>True
 |.mk k n t e::l=>((k=0\/k=1\/k=2\/k=3)/\(∀x,x∈t->Ay x)/\(k=3->Vm e))/\nQ l
end
theorem Pv:∀{l:List KE},mS l->∀x,x∈l->Vm x.e
 |[],_,x,hx=>by simp at hx
 |.mk a e::l,h,x,hx=>by
  rw[mS]at h;rcases List.mem_cons.1 hx with rfl|hx
  ·exact h.1
  ·exact Pv h.2 x hx
theorem Qd:∀{l:List OP},nQ l->∀x,x∈l->(x.kind=0\/x.kind=1\/x.kind=2\/x.kind=3)/\(∀t,t∈x.l->Ay t)/\(x.kind=3->Vm x.e)
 |[],_,x,hx=>by simp at hx
 |.mk k n t e::l,h,x,hx=>by
  rw[nQ]at h;rcases List.mem_cons.1 hx with rfl|hx
  ·exact h.1
  ·exact Qd h.2 x hx
theorem vg(e:E)(h:Vm e):(Iy e).words.length<=100000000000000/\(Iy e).kids.length<=100000000000000:=by
 obtain⟨k,o,n,ws,ks,l,os⟩:=e;rw[Vm]at h;rw[FI];split
 ·simp
 ·split
  ·simp;omega
  ·split<;>simp
theorem xJ{ks:List KE}(hl:ks.length<=1000000)(hk:∀x,x∈ks->G.Spec Tryz.prog 43 [eX x.e] (eX (Iy x.e))){v1 v3:VOb}{W:A}
  (hq:∀H u st,H [1]=v1->H [3]=v3->H [2]=⟨1,.cells [iv 2,iv 0,.sl true [],.sl true [],iv 0,.sl true [],.sl true [],W,.osl [5] u 12 0 ks.length,iv 0,.sl true []]⟩->H [5]=⟨u,.arr 12 (ks.map (kA ∘ Xr))⟩->Q (.exit 1) ⟨lk ([(2,.pob [1] 1 0),(3,.pob [2] 1 0)]++st),H⟩):∀(m i u:Nat)(H:Hp),i+m=ks.length->H [1]=v1->H [3]=v3->H [2]=⟨1,.cells [iv 2,iv 0,.sl true [],.sl true [],iv 0,.sl true [],.sl true [],W,.osl [5] u 12 0 i,iv 0,.sl true []]⟩->H [5]=⟨u,.arr 12 ((ks.take i).map (kA ∘ Xr))⟩ ->
  LoopC (cx Tryz.prog w0 I0 n0) Ja Q ⟨lk [(2,.pob [1] 1 0),(3,.pob [2] 1 0),(32,Ry ks),(33,iv ks.length),(34,iv i)],H⟩:=by
 intro m;induction m with
 |zero=>
  intro i u H hm h1 h3 h2 h5;refine Ab Ah (Ao Ja.eq_1) ?_;have:i=ks.length:=oF
  subst this;rw[Ax (Cq _)]at h5;simp;exact hq H u [(32,Ry ks),(33,iv ks.length),(34,iv ks.length),(35,bv false)] h1 h3 h2 h5
 |succ m ih=>
  intro i u H hm h1 h3 h2 h5;have hi:i<ks.length:=oF
  have ew:=Ap i;have hE:=hk _ (Bv hi);have htk:(ks.take (i+1)).map (kA ∘ Xr)=(ks.take i).map (kA ∘ Xr)++[kA (Xr ks[i])]:=by rw[HJ hi,List.map_append];rfl
  have next:=ih (i+1) (u+1)
  rw[htk]at next
  generalize hx:ks[i]=x at *;refine Ab Ah (Ao Ja.eq_1) ?_;simp[hi,hx,Aa,h2];refine Ae hE (by simp[Aa]) ?_;simp[Aa,h2,h5,ew];refine⟨⟨oF,oF⟩,?_⟩;refine next _ oF (by simp[Aa,h1]) (by simp[Aa,h3]) (by simp[Aa]) ?_
  simp[Aa,List.take_take,Xr]
theorem oz:∀e:E,Vm e->G.Spec Tryz.prog 43 [eX e] (eX (Iy e)):=by
 refine E.ind fun k o n ws ks l os ihk iho h=>?_;rw[Vm]at h;obtain⟨hk,hl,hon,hwl,hkl,hol,hsum,hks,hos⟩:=h;refine Aj aO iS fun w0 I0=>?_;rw[BG R3.eq_1];rw[FI];rcases hk with rfl|rfl|rfl|rfl
 ·simp[hl dO];exact Bb ⟨Ad rfl,Ad rfl,Ai,Ai,Ad rfl,Ai,Ai,Ai,Ai,Ad rfl,Ai,trivial⟩
 ·obtain⟨ho,hn⟩:=hon rfl;simp[hl dO];refine Ae (D3 o ho) iS ?_;simp[Aa];refine Ae (D3 n hn) iS ?_;simp[Aa];exact Bb ⟨Ad rfl,GG (C8 o).symm,Ad rfl,Ad rfl,GG (C8 n).symm,Ad rfl,Ad rfl,Ai,Ai,Ad rfl,Ai,trivial⟩
 ·simp[hl dO];refine⟨oF,?_⟩;refine LoopC.le (Bi (d:=[2]) (u:=1) (cs:=[iv 2,iv 0,.sl true [],.sl true [],iv 0,.sl true [],.sl true [],.osl [3] 1 4 0 ws.length,.sl true [],iv 0,.sl true []]) 8 [5] 12 rfl rfl iS) ?_;refine LoopC.le (Al [(2,.pob [1] 1 0),(3,.pob [2] 1 0),(32,Ry ks),(33,iv ks.length),(34,iv (0:Nat))] iS) ?_;refine xJ hkl (fun x hx=>ihk x hx (Pv (hks rfl) x hx)) (W:=.osl [3] 1 4 0 ws.length) (fun H u st h1 h3 h2 h5=>?_) ks.length 0 1 _ oF rfl rfl (by simp[Aa]) (by simp[Aa]);have h3':H [3]=⟨1,.arr 4 (ws.map wA)⟩:=by rw[h3];simp[Aa]
  simp[h2,h1,Aa];have fw:=AQ (H:=Ar H [1] ⟨1,.cells [iv 2,iv 0,.sl true [],.sl true [],iv 0,.sl true [],.sl true [],.osl [3] 1 4 0 ws.length,.osl [5] u 12 0 ks.length,iv 0,.sl true []]⟩) (o:=[3]) (u:=1) (sz:=4) (l:=ws) (f:=wA) (n:=ws.length) (by simp[Aa,h3']) rfl (fun x=>rfl);have fk:=AQ (H:=Ar H [1] ⟨1,.cells [iv 2,iv 0,.sl true [],.sl true [],iv 0,.sl true [],.sl true [],.osl [3] 1 4 0 ws.length,.osl [5] u 12 0 ks.length,iv 0,.sl true []]⟩) (o:=[5]) (u:=u) (sz:=12) (l:=ks) (f:=kA ∘ Xr) (n:=ks.length) (by simp[Aa,h5]) rfl (fun x=>iS);rw[<-List.map_map]at fk;exact Bb ⟨Ad rfl,Ad rfl,Ai,Ai,Ad rfl,Ai,Ai,fw,fk,Ad rfl,Ai,trivial⟩
 ·have hO:=kr (list:=l) (os:=os) (fun x hx=>by
   obtain⟨a,b,c⟩:=Qd (hos rfl) x hx;exact⟨a,b,fun h=>⟨iho x hx (c h),vg _ (c h)⟩⟩) hol hsum
  simp;refine Ae hO (by simp[Aa]) ?_;simp[Aa];exact Bb ⟨Ad rfl,Ad rfl,Ai,Ai,Ad rfl,Ai,Ai,Ai,Ai,Ad rfl,Ai,trivial⟩
def Lz:List OP->Nat
 |[]=>0
 |o::l=>if o.kind=1\/o.kind=2 then Lz l+1 else 0
def PT(k:Int):List OP->List T
 |[]=>[]
 |o::l=>if o.kind=1\/o.kind=2 then (if o.kind=k then o.l.map Ag else [])++PT k l else []
theorem o6:∀l,Lz l<=l.length
 |[]=>by simp[Lz]
 |o::l=>by
  have:=o6 l;unfold Lz;split<;>simp<;>omega
theorem kQ(k:Int):∀l,(PT k l).length<=Ez l
 |[]=>by simp[PT]
 |o::l=>by
  have:=kQ k l;rw[QC];unfold PT;split
  ·split<;>simp<;>omega
  ·simp
theorem YF(list:Int):∀(os:List OP)(out:List OP)(g b:List T),DG list (os.map Kh) out g b=DG list ((os.drop (Lz os)).map Kh) out (g++PT 1 os) (b++PT 2 os)
 |[],out,g,b=>by simp[Lz,PT]
 |o::os,out,g,b=>by
  have hk:(Kh o).kind=o.kind:=rfl;have hl:(Kh o).l=o.l:=rfl;by_cases h1:o.kind=1
  ·have h0:¬o.kind=0:=oF
   rw[List.map_cons,DG,hk,if_neg h0,if_pos h1,YF list os,hl];simp[Lz,PT,h1]
  ·by_cases h2:o.kind=2
   ·have h0:¬o.kind=0:=oF
    rw[List.map_cons,DG,hk,if_neg h0,if_neg h1,if_pos h2,YF list os,hl];simp[Lz,PT,h2]
   ·simp[Lz,PT,h1,h2]
theorem bx:∀(os:List OP)(h:Lz os<os.length),os[Lz os].kind≠1/\os[Lz os].kind≠2
 |[],h=>by simp at h
 |o::os,h=>by
  by_cases e:o.kind=1\/o.kind=2
  ·simp[Lz,e]at h ⊢;exact bx os h
  ·simp[Lz,e];omega
theorem wB{ts:List T}(hts:∀t,t∈ts->Ay t)(hl:ts.length<=1000000)(hq:∀H u st,H [0]=⟨u,.arr 3 (ts.map (tA ∘ Ag))⟩->Q (.exit 0) ⟨lk ([(0,AV ts),(3,.osl [0] u 3 0 ts.length)]++st),H⟩):∀(m i u:Nat)(H:Hp),i+m=ts.length->H [0]=⟨u,.arr 3 ((ts.take i).map (tA ∘ Ag))⟩ ->
  LoopC (cx Tryz.prog w0 I0 n0) EW Q ⟨lk [(0,AV ts),(3,.osl [0] u 3 0 i),(4,iv i)],H⟩:=by
 intro m;induction m with
 |zero=>
  intro i u H hm hH;refine Ab Ah (Ao EW.eq_1) ?_;have:i=ts.length:=oF
  subst this;rw[Ax (Cq _)]at hH;simp;exact hq H u [(4,iv ts.length),(8,bv false)] hH
 |succ m ih=>
  intro i u H hm hH;have hi:i<ts.length:=oF
  have ew:=Ap i;have hN:=CP ts[i] (hts _ (Bv hi));have htk:(ts.take (i+1)).map (tA ∘ Ag)=(ts.take i).map (tA ∘ Ag)++[tA (Ag ts[i])]:=by rw[HJ hi,List.map_append];rfl
  have next:=ih (i+1) (u+1)
  rw[htk]at next
  refine Ab Ah (Ao EW.eq_1) ?_;simp[hi];refine Ae hN iS ?_;simp[hH,ew];refine⟨⟨oF,oF⟩,?_⟩;refine next _ oF ?_
  simp[Aa,List.take_take]
theorem oS{ts:List T}(hts:∀t,t∈ts->Ay t)(hl:ts.length<=1000000):G.Spec Tryz.prog 168 [AV ts] (AV (ts.map Ag)):=by
 refine Aj Sv iS fun w0 I0=>?_;rw[BG LF.eq_1];simp;refine LoopC.le (BC 3 [0] 3 iS) ?_;refine LoopC.le (Al [(0,AV ts),(3,.osl [0] 1 3 0 0),(4,iv (0:Nat))] iS) ?_;refine wB hts hl (fun H u st h=>?_) ts.length 0 1 _ oF (by simp[Aa]);simp;have:=AQ (H:=H) (o:=[0]) (u:=u) (sz:=3) (l:=ts) (f:=tA ∘ Ag) (n:=ts.length) (by rw[h];simp) rfl iS;rw[<-List.map_map]at this;exact this
theorem pc(l:List T):E8 3 (l.map (tA ∘ Ag))=true:=by rw[Jb];simp
theorem AdJ{os:List OP}{k:Int}(hk:k=1\/k=2)(hos:∀o,o∈os->∀t,t∈o.l->Ay t)(hol:os.length<=1000000)(hsum:∀o,o∈os->o.l.length<=1000000){res:List T}{n:Nat}(hres:res.length<=10000000)
  (hq:∀H u st,H [0]=⟨u,.arr 3 (res.map tA)⟩->Q (.exit 0) ⟨lk ([(0,HQ os),(2,iv k),(8,.osl [0] u 3 0 res.length),(9,iv n)]++st),H⟩):∀(m i u:Nat)(g:List T)(H:Hp),i+m=os.length->H [0]=⟨u,.arr 3 (g.map tA)⟩->g++PT k (os.drop i)=res->i+Lz (os.drop i)=n ->
  LoopC (cx Tryz.prog w0 I0 n0) Dm Q ⟨lk [(0,HQ os),(2,iv k),(8,.osl [0] u 3 0 g.length),(9,iv i)],H⟩:=by
 intro m;induction m with
 |zero=>
  intro i u g H hm hH hg hn;refine Ab Ah (Ao Dm.eq_1) ?_;have:i=os.length:=oF
  subst this;rw[List.drop_length]at hg hn;simp[PT]at hg;simp[Lz]at hn;subst hg hn;simp;exact hq H u [(30,bv false)] hH
 |succ m ih=>
  intro i u g H hm hH hg hn;have hi:i<os.length:=oF
  have ew:=Ap i;have hd:os.drop i=os[i]::os.drop (i+1):=(List.getElem_cons_drop hi).symm;have hO:=hos _ (Bv hi);have hS:=hsum _ (Bv hi);rw[hd]at hg hn;generalize ho:os[i]=o at *;unfold PT at hg;unfold Lz at hn;have nrm:=oS hO hS;refine Ab Ah (Ao Dm.eq_1) ?_;by_cases h12:o.kind=1\/o.kind=2
  ·rw[if_pos h12]at hg hn;have add:∀H',H' [0]=⟨u+1,.arr 3 ((g++o.l.map Ag).map tA)⟩->o.kind=k->LoopC (cx Tryz.prog w0 I0 n0) Dm Q ⟨lk [(0,HQ os),(2,iv k),(8,.osl [0] (u+1) 3 0 (g++o.l.map Ag).length),(9,iv (i+1:Nat))],H'⟩:=fun H' h1 h2=>by
    rw[if_pos h2]at hg;exact ih (i+1) (u+1) (g++o.l.map Ag) H' oF h1 (by rw[<-hg];simp) oF
   have skip:o.kind≠k->LoopC (cx Tryz.prog w0 I0 n0) Dm Q ⟨lk [(0,HQ os),(2,iv k),(8,.osl [0] u 3 0 g.length),(9,iv (i+1:Nat))],H⟩:=fun h2=>by
    rw[if_neg h2]at hg;exact ih (i+1) u g H oF hH (by rw[<-hg];simp) oF
   have hgl:g.length<=10000000:=by have:=congrArg List.length hg;simp at this;omega
   rcases hk with rfl|rfl<;>rcases h12 with h|h
   ·simp[hi,ho,h];refine Ae nrm iS ?_;simp[hH,ew,pc];refine⟨oF,?_⟩;have:=add (Ar H [0] ⟨u+1,.arr 3 ((g++o.l.map Ag).map tA)⟩) (by simp[Aa]) h;simpa[Ax]using this
   ·simp[hi,ho,h,ew];have:=skip oF;simpa using this
   ·simp[hi,ho,h,ew];have:=skip oF;simpa using this
   ·simp[hi,ho,h];refine Ae nrm iS ?_;simp[hH,ew,pc];refine⟨oF,?_⟩;have:=add (Ar H [0] ⟨u+1,.arr 3 ((g++o.l.map Ag).map tA)⟩) (by simp[Aa]) h;simpa[Ax]using this
  ·rw[if_neg h12]at hg hn;have h1:¬o.kind=1:=fun h=>h12 (.inl h);have h2:¬o.kind=2:=fun h=>h12 (.inr h);simp at hg hn;subst hg hn;simp[hi,ho,h1,h2];exact hq H u [(30,bv false)] hH
theorem jK:∀{os:List OP} {o:OP},o∈os->o.l.length<=Ez os
 |[],o,h=>by simp at h
 |x::os,o,h=>by
  rw[QC];rcases List.mem_cons.1 h with rfl|h
  ·omega
  ·have:=jK h;omega
theorem iw{os:List OP}{k:Int}(hk:k=1\/k=2)(hos:∀o,o∈os->∀t,t∈o.l->Ay t)(hol:os.length<=1000000)(hsum:Ez os<=1000000){i:Nat}(hi:i<=os.length):G.Spec Tryz.prog 136 [HQ os,iv i,iv k] (.tup [AV (PT k (os.drop i)),iv (i+Lz (os.drop i):Nat)]):=by
 have hs1:∀o,o∈os->o.l.length<=Ez os:=fun o ho=>by
  exact jK ho
 have hsd:Ez (os.drop i)<=Ez os:=by
  have:Ez os=Ez (os.take i)+Ez (os.drop i):=by
   unfold Ez;rw[<-List.sum_append,<-List.map_append,List.take_append_drop]
  omega
 have hgl:=kQ k (os.drop i);refine Aj VO iS fun w0 I0=>?_;rw[BG NV.eq_1];simp;refine LoopC.le (BC 8 [0] 3 iS) ?_;refine LoopC.le (Al [(0,HQ os),(2,iv k),(8,.osl [0] 1 3 0 ([]:List T).length),(9,iv i)] iS) ?_;refine AdJ hk hos hol (fun o ho=>by have:=hs1 o ho;omega) (res:=PT k (os.drop i)) (n:=i+Lz (os.drop i)) oF (fun H u st h=>?_) (os.length-i) i 1 [] _ oF (by simp[Aa]) iS rfl;simp;refine AM ⟨AQ (f:=tA) (by rw[h];simp) rfl iS,Ad rfl,trivial⟩
theorem iE(list:Int)(e:E):G.Spec Tryz.prog 137 [iv list,eX e] (bv (Gc list e)):=by
 refine Aj Uy iS fun w0 I0=>?_;rw[Ao Mm.eq_1];by_cases k0:e.kind=0
 ·simp[k0,Gc];exact Ad rfl
 ·by_cases k2:e.kind=2
  ·by_cases k9:list=9
   ·by_cases w:e.words=[]
    ·by_cases k:e.kids=[]
     ·simp[k0,k9,k2,Gc,w,k];exact Ad rfl
     ·have ke:e.kids.isEmpty=false:=by
       cases h:e.kids with
       |nil=>exact absurd h k
       |cons=>rfl
      simp[k0,k9,k2,Gc,w,k,ke];exact Ad rfl
    ·have we:e.words.isEmpty=false:=by
      cases h:e.words with
      |nil=>exact absurd h w
      |cons=>rfl
     simp[k0,k9,k2,Gc,w,we];exact Ad rfl
   ·simp[k0,k9,k2,Gc];exact Ad rfl
  ·simp[k0,k2,Gc];exact Ad rfl
inductive RI where
 |keep (n:Int)
 |del (l:List T)
 |ins (l:List T)
 |desc (e:E)
def RI.op:RI->OP
 |.keep n=>.mk 0 n [] E0
 |.del l=>.mk 1 0 l E0
 |.ins l=>.mk 2 0 l E0
 |.desc e=>.mk 3 0 [] e
def Tj:RI->List A
 |.keep n=>iv 0::iv n :: .sl true []::AY
 |.del l=>iv 1::iv 0::AV l::AY
 |.ins l=>iv 2::iv 0::AV l::AY
 |.desc e=>iv 3::iv 0 :: .sl true []::eL e
def ND(x:RI):A:=.agg (Tj x)
@[simp]theorem Agb{x:RI}:(ND x).cells=Tj x:=rfl
@[simp]theorem Akr{x:RI}:(Tj x).length=14:=by cases x<;>rfl
theorem y3{H:Hp}(x:RI):IV H (Tj x) (oA x.op).cells:=by
 have hraw:IV H AY (eL E0):=⟨Ad rfl,Ad rfl,Ai,Ai,Ad rfl,Ai,Ai,Ai,Ai,Ad rfl,Ai,trivial⟩;rw[oA_eq];cases x with
 |keep n=>exact⟨Ad rfl,Ad rfl,Ai,hraw⟩
 |del l=>exact⟨Ad rfl,Ad rfl,Ad rfl,hraw⟩
 |ins l=>exact⟨Ad rfl,Ad rfl,Ad rfl,hraw⟩
 |desc e=>exact⟨Ad rfl,Ad rfl,Ai,Ad rfl,Ad rfl,Ad rfl,Ad rfl,Ad rfl,Ad rfl,Ad rfl,Ad rfl,Ad rfl,Ad rfl,Ad rfl,trivial⟩
theorem qI{H:Hp}{o:Nm}{u n:Nat}{its:List RI}(h1:H o=⟨u,.arr 14 (its.map ND)⟩)(hn:n=its.length):Iz H (.osl o u 14 0 n) (HQ (its.map RI.op)):=by
 subst hn;refine LX (o:=o) (u:=u) (off:=0) (len:=its.length) (sz:=14) (xs:=its.map ND) (ys:=(its.map RI.op).map oA) (by rw[Qw,h1];simp) iS iS (fun y hy=>by
  obtain⟨x,_,rfl⟩:=List.mem_map.1 hy;simp) ?_ ?_
 ·have:∀l:List OP,A.ones ((l.map oA).flatMap A.cells)=true:=fun l=>by
   induction l with
   |nil=>rfl
   |cons x l ih=>simp[A.ones]at ih ⊢
  exact this _
 ·rw[List.drop_zero,Ax iS,List.map_map];have:∀l:List RI,IV H ((l.map ND).flatMap A.cells) ((l.map (oA ∘ RI.op)).flatMap A.cells):=fun l=>by
   induction l with
   |nil=>trivial
   |cons x l ih=>
    simp only[List.map_cons,List.flatMap_cons];exact Ur (y3 x) ih iS
  exact this its
theorem qm(l:List RI)(x:A):(l.map ND++[x])[l.length]? = some x:=by rw[List.getElem?_append_right iS];simp
theorem Xx(l:List RI):List.take l.length (l.map ND)=l.map ND:=Ax iS
theorem Tz(l:List RI)(x:A):List.take (l.length+1) (l.map ND++[x])=l.map ND++[x]:=Ax iS
def SS(g:List T):List RI:=if g=[]then []else [.del g]
def SI(b:List T):List RI:=if b=[]then []else [.ins b]
theorem Ads(its:List RI)(g b:List T):(its++(SS g++SI b)).map RI.op=MU (its.map RI.op) g b:=by
 by_cases h1:g=[]<;>by_cases h2:b=[]<;>simp[SS,SI,MU,Dd,Cb,h1,h2,RI.op]
theorem Abt(J:List RI):(∃i0 m,J=i0++[.keep m])\/(J=[]\/∃i0 x,J=i0++[x]/\x.op.kind≠0):=by
 rcases List.eq_nil_or_concat J with h|⟨i0,x,h⟩
 ·exact .inr (.inl h)
 ·rw[List.concat_eq_append]at h;cases x with
  |keep m=>exact .inl ⟨i0,m,h⟩
  |del a=>exact .inr (.inr ⟨i0,.del a,h,by simp[RI.op]⟩)
  |ins a=>exact .inr (.inr ⟨i0,.ins a,h,by simp[RI.op]⟩)
  |desc e=>exact .inr (.inr ⟨i0,.desc e,h,by simp[RI.op]⟩)
end Go.Proofs.YtlaapfplenlfaaaGreat
