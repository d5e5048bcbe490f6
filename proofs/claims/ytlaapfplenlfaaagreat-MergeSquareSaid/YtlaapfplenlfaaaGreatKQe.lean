/-
 Texts,merged,without what is not reached.
-/
import Derived.Test.YtlaapfplenlfaaaGreatKQd
set_option linter.unusedSimpArgs false
set_option linter.unusedVariables false
open Go.IntKind (i64 u64)
namespace Go.Proofs.YtlaapfplenlfaaaGreat
open Go Go.G Go.Proofs Go.PL
theorem Tz:∀(l:List T)(ks:List T)(t:T),C6 ks (l++[t])=(GY (C6 ks l).1 (Af t),(C6 ks l).2++[FN (C6 ks l).1 (Af t)])
 |[],ks,t=>by simp[C6]
 |a::l,ks,t=>by simp[C6,Tz l]
theorem FU:∀(l:List T)(ks:List T),(C6 ks l).2.length=l.length
 |[],ks=>rfl
 |a::l,ks=>by simp[C6,FU l]
variable {n0:Nat} {w0:World} {I0:Nat->Prop} {M0:Nm->Nat->Prop} {m0:Mu} {Q:Exit->Sta->Prop}
theorem bF{l:List T}:∀x,x∈l.map tA->DV (fun _=>x):=fun x hx=>by
 obtain⟨t,_,rfl⟩:=List.mem_map.1 hx;exact DJ (tA_eq t) fun y hy=>by
  simp at hy;rcases hy with rfl|rfl|rfl<;>rfl
abbrev trM(u:Nat)(l:List T):Fam:=uR u 3 (l.map tA) bF
theorem jX{ks:List T}{n:T}{i:Nat}(h:i<ks.length)(e:ks[i]=n)(hb:∀(x:Nat)(hx:x<i),ks[x]'oF≠n):FN ks n=i:=by
 unfold FN;rw[List.findIdx_eq h];refine⟨sameB_iff.2 e,fun j hj=>?_⟩;rw[Bool.eq_false_iff];exact fun h2=>hb j hj (sameB_iff.1 h2)
theorem sP(ks:List T)(n:T):(GY ks n).length<=ks.length+1:=by
 unfold GY;split<;>simp
theorem Xb:∀(l ks:List T),(C6 ks l).1.length<=ks.length+l.length
 |[],ks=>by simp[C6]
 |t::l,ks=>by
  have:=Xb l (GY ks (Af t));have:=sP ks (Af t);simp only[C6,List.length_cons];omega
theorem yf{ks:List T}{n:T}(h:∀k,k∈ks->AE k)(hn:AE n):∀k,k∈GY ks n->AE k:=by
 unfold GY;split
 ·exact h
 ·intro k hk;rcases List.mem_append.1 hk with hk|hk
  ·exact h k hk
  ·simp at hk;subst hk;exact hn
theorem Zy:∀{l ks:List T},(∀k,k∈ks->AE k)->(∀k,k∈l->AE k)->∀k,k∈(C6 ks l).1->AE k
 |[],ks,h,_=>h
 |t::l,ks,h,hl=>Zy (l:=l) (yf h (CY _ (hl t iS))) fun k hk=>hl k (by simp[hk])
section
variable {n0:Nat} {w0:World} {I0:Nat->Prop} {Q:Exit->Sta->Prop} {H:Hp}
end
end Go.Proofs.YtlaapfplenlfaaaGreat
namespace Go.PL
def hd(t:T):Int:=t.words.headD 0
structure PutI(w i:Nat)(out:List Int):Prop where
 rng:∀(j:Nat)(h:j<out.length),0<=out[j]/\out[j]<18446744073709551616
 here:∀(h:i*w / 64<out.length),out[i*w / 64]<2 ^ (i*w % 64)
 zero:∀(j:Nat)(h:j<out.length),i*w / 64<j->out[j]=0
theorem PutI.start(w m:Nat):PutI w 0 (List.replicate m 0):=⟨fun j h=>iS,fun h=>iS,fun j h _=>iS⟩
def wdT(t:T)(i:Nat):Int:=t.words.getD i 0
def kdT(t:T)(i:Nat):T:=t.kids.getD i T0
theorem MH:∀(t:T)(d:Nat),C9 d t=true->C9 d (Af t)=true:=by
 refine T.ind fun k w l ih d h=>?_;have hk:=P5 h;rw[Fj]at h;rw[Cw];by_cases h0:k=0
 ·rw[if_pos h0,Fj];rfl
 rw[if_neg h0]at h ⊢;by_cases h10:k=10
 ·subst h10;rw[if_pos rfl]at h;simp at h;obtain⟨hw,rfl⟩:=h;rw[if_neg dO,Fj];simp[hw]
 rw[if_neg h10]at h;by_cases hb:G6 k d w.length l.length=true
 ·rw[if_pos hb]at h;cases h
 have hm:∀(m:List T),(∀t,t∈m->∃u,u∈l/\t=Af u)->GX (d-1) k m=true:=fun m hm=>rightL_all.2 fun t ht=>by
  obtain⟨u,hu,rfl⟩:=hm t ht;obtain⟨g1,g2⟩:=hk u hu;refine⟨ih u hu _ g1,?_⟩;unfold HM at g2 ⊢;rw[EC];cases hd:MJ k with
  |false=>rw[hd]at g2;simpa using g2
  |true=>
   rw[hd]at g2;simp at g2;obtain⟨⟨g3,g4⟩,g5⟩:=g2;obtain⟨uk,uw,ul⟩:=u;simp at g3;subst g3;rw[Cw];simp at g4 g5 ⊢;exact⟨g4,g5⟩
 by_cases h1:k=1
 ·subst h1;have hw:=LG w;have hl:=LC (l.map Af);rw[List.length_map]at hl;have hb':¬G6 1 d (EO w).length (DG (l.map Af)).length=true:=by
   simp[G6]at hb ⊢;omega
  rw[if_pos rfl,Fj,if_neg dO,if_neg dO,if_neg hb'];refine hm _ fun t ht=>?_;rw[Kl]at ht;obtain⟨u,hu,rfl⟩:=List.mem_map.1 (QD ht);exact⟨u,hu,rfl⟩
 ·rw[if_neg h1,Fj,if_neg h0,if_neg h10,if_neg (by rw[List.length_map];exact hb)];refine hm _ fun t ht=>?_;obtain⟨u,hu,rfl⟩:=List.mem_map.1 ht;exact⟨u,hu,rfl⟩
inductive SmT:T->Prop
 |mk (k:Int) (w:List Int) (l:List T):l.length<=1048576->(∀t,t∈l->SmT t)->SmT (.mk k w l)
theorem SmT.len{t:T}(h:SmT t):t.kids.length<=1048576:=by cases h;assumption
theorem SmT.kid{t:T}(h:SmT t):∀c,c∈t.kids->SmT c:=by cases h;assumption
theorem Ah7:SmT T0:=.mk _ _ _ (Nat.zero_le _) (fun t h=>by cases h)
theorem SmT.kd{t:T}(h:SmT t)(i:Nat):SmT (kdT t i):=by
 unfold kdT;rw[List.getD_eq_getElem?_getD];cases e:t.kids[i]? with
 |none=>exact Ah7
 |some x=>exact h.kid x (List.mem_of_getElem? e)
end Go.PL
namespace Go.Proofs.YtlaapfplenlfaaaGreat
open Go Go.G Go.Proofs Go.PL
theorem j5(k:Int):G.Spec Tryz.prog 74 [iv k] (bv (decide (2<=k)&&decide (k<=9))):=by
 refine Ak dK iS fun w0 I0=>?_;unfold Tw;simp;exact Ae rfl
variable {n0:Nat} {w0:World} {I0:Nat->Prop} {Q:Exit->Sta->Prop}
theorem AbC{a b:List Int}(hl:a.length=b.length)(hb:a.length*8<=140737488355328){H:Hp}:∀(m i:Nat),i+m=a.length->a.take i=b.take i->(a=b->∀q,Q (.exit 0) ⟨lk [(0,Fu a),(1,Fu b),(12,iv a.length),(13,iv a.length),(14,bv q)],H⟩)->(a≠b->Q .ret ⟨lk [(4,bv false)],H⟩) ->
  LoopC (cx Tryz.prog w0 I0 n0) Cd Q ⟨lk [(0,Fu a),(1,Fu b),(12,iv a.length),(13,iv i)],H⟩:=by
 intro m;induction m with
 |zero=>
  intro i hi ht h1 h2;have:i=a.length:=oF
  subst this;rw[AO (CX _),AO oF]at ht;refine Ad Ai Cd.eq_1 ?_;simp;exact h1 ht _
 |succ m ih=>
  intro i hi ht h1 h2;have hlt:i<a.length:=oF
  have hlt':i<b.length:=oF
  have ei:=AR i;refine Ad Ai Cd.eq_1 ?_;by_cases e:a[i]=b[i]
  ·simp[hlt,hlt',e,ei];refine ih (i+1) oF ?_ h1 h2;rw[F5 hlt,F5 hlt',ht,e]
  ·simp[hlt,hlt',e];exact h2 fun q=>e (by simp[q])
theorem fh(a b:List Int)(hb:a.length*8<=140737488355328):G.Spec Tryz.prog 89 [Fu a,Fu b] (bv (decide (a=b))):=by
 refine Ak Jq iS fun w0 I0=>?_;unfold Fe;by_cases hl:a.length=b.length
 ·simp[hl];have:=AbC (n0:=26) (w0:=w0) (I0:=I0) (a:=a) (b:=b) (H:=Gz []) (Q:=Co 0 (Hk (WPC (cx Tryz.prog w0 I0 26) (.keep [] (.seq (.reg [co (some 4) (.assign (.const (.bool true))) none] [4]) .ret)) (fH Tryz.prog [.tmp 4] (bv (decide (a=b))))) (fH Tryz.prog [.tmp 4] (bv (decide (a=b)))))) hl hb a.length 0 iS rfl (fun e q=>?_) (fun e=>?_)
  ·rw[hl]at this;simpa using this
  ·simp;exact BA (by simp[e])
  ·simp;exact BA (by simp[e])
 ·have hl':¬(a.length:Int)=b.length:=oF
  simp[hl,hl'];exact BA (by simp;intro e;exact absurd (by rw[e]) hl)
theorem sd{t u:T}(h:t.kind≠u.kind\/t.kind=0):J2 t u=decide (t.kind=u.kind):=by
 rw[Bool.eq_iff_iff,eqT_iff,decide_eq_true_eq];constructor
 ·intro e;rw[<-EC t,e,EC]
 ·intro e;rcases h with h|h
  ·exact absurd e h
  ·rw[Ir h,Ir oF]
theorem T8{t u:T}(h:t.kind≠u.kind\/t.kind=0):G.Spec Tryz.prog 57 [tX t,tX u] (bv (J2 t u)):=by
 refine Ak Sl iS fun w0 I0=>?_;unfold MN;rw[sd h];by_cases e:t.kind=u.kind
 ·have h0:u.kind=0:=oF
  simp[e,h0];exact Ae rfl
 ·simp[e];exact BA (by simp[e])
theorem oT{t u:T}{n:Nat}(hN:n<=100000000000000){H:Hp}(h0:H [0]=⟨1,.cells (tL t)⟩)(h1:H [1]=⟨1,.cells (tL u)⟩)
  (hq:(∀i,i<n->t.words.getD i 0=u.words.getD i 0)->∀(q:Bool),Q (.exit 0) ⟨lk [(2,.pob [0] 1 0),(3,.pob [1] 1 0),(48,iv n),(49,iv n),(50,bv q)],H⟩)
  (hf:(∃i,t.words.getD i 0≠u.words.getD i 0)->Q .ret ⟨lk [(4,bv false)],H⟩) :
  ∀(j i:Nat),i+j=n->(∀i',i'<i->t.words.getD i' 0=u.words.getD i' 0) ->
  LoopC (cx Tryz.prog w0 I0 n0) IA Q ⟨lk [(2,.pob [0] 1 0),(3,.pob [1] 1 0),(48,iv n),(49,iv i)],H⟩:=by
 intro j;induction j with
 |zero=>
  intro i hi he;have:i=n:=oF
  subst this;refine Ad Ai IA.eq_1 ?_;simp;exact hq he _
 |succ j ih=>
  intro i hi he;have hlt:i<n:=oF
  have ei:=AR i;refine Ad Ai IA.eq_1 ?_;simp[hlt,h0,h1];refine Ag (Fl t i) iS ?_;simp[h0,h1];refine Ag (Fl u i) iS ?_;by_cases hw:t.words.getD i 0=u.words.getD i 0
  ·have hw':=hw;simp only[List.getD_eq_getElem?_getD]at hw';simp[hw',ei];refine ih (i+1) oF (fun i' hi'=>?_);by_cases e:i'=i
   ·rw[e];exact hw
   ·exact he i' oF
  ·have hw':=hw;simp only[List.getD_eq_getElem?_getD]at hw';simp[hw'];exact hf ⟨i,hw⟩
theorem LM{α:Type}{l:List α}{i:Nat}{z:α}(h:l.length<=i):l.getD i z=z:=by rw[List.getD_eq_getElem?_getD,List.getElem?_eq_none h];rfl
theorem gD{u:T}(hw:AE u)(i:Nat):AE (u.kids.getD i T0):=by
 by_cases hi':i<u.kids.length
 ·have e:u.kids.getD i T0=u.kids[i]:=by simp[List.getD_eq_getElem?_getD,hi']
  rw[e];exact(wfT_iff.1 hw).ks _ (De hi')
 ·have e:u.kids.getD i T0=T0:=by rw[List.getD_eq_getElem?_getD,List.getElem?_eq_none (by simpa using hi')];rfl
  rw[e];exact wfT_iff.2 ⟨by simp[BD],iS,iS,iS,iS⟩
def EqG(t:T):Prop:=∀u:T,AE t->AE u->G.Spec Tryz.prog 57 [tX t,tX u] (bv (J2 t u))
theorem nL{k:Int}{w:List Int}{a:List T}{u:T}(h0:k≠0):J2 (.mk k w a) u=true↔k=u.kind/\(k=1\/(a.length=u.kids.length/\w=u.words))/\(∀i,w.getD i 0=u.words.getD i 0)/\∀i,Af (a.getD i T0)=Af (u.kids.getD i T0):=by
 rw[eqT_iff];obtain⟨k',w',b⟩:=u;by_cases hk:k=k';rotate_left
 ·constructor
  ·intro h;have:=congrArg T.kind h;simp at this;exact absurd this hk
  ·intro h;exact absurd h.1 hk
 subst hk;by_cases h1:k=1
 ·subst h1;rw[struct_eq];simp
 rw[LI h0 h1];constructor
 ·rintro⟨rfl,h⟩;have hl:a.length=b.length:=by simpa using congrArg List.length h
  exact⟨rfl,.inr ⟨hl,rfl⟩,fun i=>rfl,(Yz hl).1 h⟩
 ·rintro⟨_,h,_,h3⟩;rcases h with h|⟨hl,rfl⟩
  ·exact absurd h h1
  ·exact⟨rfl,(Yz hl).2 h3⟩
theorem Abb{t u:T}{n:Nat}(hn:n<=100000000000000)(hw:AE t)(hwu:AE u)(hk:∀i,i<n->EqG (t.kids.getD i T0)){H:Hp}(h0:H [0]=⟨1,.cells (tL t)⟩)(h1:H [1]=⟨1,.cells (tL u)⟩)
  (hq:(∀i,i<n->Af (t.kids.getD i T0)=Af (u.kids.getD i T0))->∀(q:Bool),Q (.exit 2) ⟨lk [(2,.pob [0] 1 0),(3,.pob [1] 1 0),(66,iv n),(67,iv n),(68,bv q)],H⟩)
  (hf:(∃i,Af (t.kids.getD i T0)≠Af (u.kids.getD i T0))->Q .ret ⟨lk [(4,bv false)],H⟩) :
  ∀(j i:Nat),i+j=n->(∀i',i'<i->Af (t.kids.getD i' T0)=Af (u.kids.getD i' T0)) ->
  LoopC (cx Tryz.prog w0 I0 n0) II Q ⟨lk [(2,.pob [0] 1 0),(3,.pob [1] 1 0),(66,iv n),(67,iv i)],H⟩:=by
 intro j;induction j with
 |zero=>
  intro i hi he;have:i=n:=oF
  subst this;refine Ad Ai II.eq_1 ?_;simp;exact hq he _
 |succ j ih=>
  intro i hi he;have hlt:i<n:=oF
  have ei:=AR i;have hrec:=hk i hlt (u.kids.getD i T0) (gD hw i) (gD hwu i);refine Ad Ai II.eq_1 ?_;simp[hlt,h0,h1];refine Ag (Gj t i) iS ?_;simp[h0,h1];refine Ag (Gj u i) iS ?_;simp[h0,h1];refine Ag hrec iS ?_;cases hb:J2 (t.kids.getD i T0) (u.kids.getD i T0) with
  |true=>
   simp[ei];refine ih (i+1) oF (fun i' hi'=>?_);by_cases e:i'=i
   ·rw[e];exact eqT_iff.1 hb
   ·exact he i' oF
  |false=>
   simp;exact hf ⟨i,fun e=>by rw[eqT_iff.2 e]at hb;cases hb⟩
set_option maxRecDepth 8000 in
theorem ye:∀t:T,EqG t:=by
 refine T.ind fun k w ks ih u hw hwu=>?_;have hw':=wfT_iff.1 hw;have hu':=wfT_iff.1 hwu;have hwl:=hw'.wl;have hkl:=hw'.kl;have hul:=hu'.wl;have huk:=hu'.kl;simp only[T.words_mk,T.kids_mk]at hwl hkl;have hk0:∀i,EqG ((T.mk k w ks).kids.getD i T0):=fun i=>by
  by_cases hi:i<ks.length
  ·have e:(T.mk k w ks).kids.getD i T0=ks[i]:=by simp[List.getD_eq_getElem?_getD,hi]
   rw[e];exact ih _ (De hi)
  ·have e:(T.mk k w ks).kids.getD i T0=T0:=LM (by simpa using hi);rw[e];intro u _ _;exact T8 (.inr rfl)
 by_cases hkk:k≠u.kind\/k=0
 ·exact T8 hkk
 have h1:k=u.kind:=oF
 have h0:¬u.kind=0:=oF
 simp only[T.kids_mk]at hk0;have yes:(k=1\/(ks.length=u.kids.length/\w=u.words))->(∀i,w.getD i 0=u.words.getD i 0)->(∀i,Af (ks.getD i T0)=Af (u.kids.getD i T0))->J2 (.mk k w ks) u=true:=fun a b c=>(nL oF).2 ⟨h1,a,b,c⟩;have no:¬((k=1\/(ks.length=u.kids.length/\w=u.words))/\(∀i,w.getD i 0=u.words.getD i 0)/\(∀i,Af (ks.getD i T0)=Af (u.kids.getD i T0)))->J2 (.mk k w ks) u=false:=fun h=>by
  rw[Bool.eq_false_iff];intro e;exact h ((nL oF).1 e).2
 obtain⟨N,hN⟩:∃N:Nat,N=max w.length u.words.length:=⟨_,rfl⟩;obtain⟨M,hM⟩:∃M:Nat,M=max ks.length u.kids.length:=⟨_,rfl⟩;have eN:max (w.length:Int) (u.words.length:Int)=(N:Int):=oF
 have eM:max (ks.length:Int) (u.kids.length:Int)=(M:Int):=oF
 refine Ak Sl iS fun w0 I0=>?_;have main:(k=1\/(ks.length=u.kids.length/\w=u.words))->WPC (cx Tryz.prog w0 I0 79) Lj (fH Tryz.prog [.tmp 4] (bv (J2 (.mk k w ks) u))) ⟨lk [(2,.pob [0] 1 0),(3,.pob [1] 1 0)],Gz [([0],⟨1,.cells [iv k,Fu w,B7 ks]⟩),([1],⟨1,.cells [iv u.kind,Fu u.words,B7 u.kids]⟩)]⟩:=fun hc=>by
  rw[Lj.eq_1];simp[eN];refine oT (t:=.mk k w ks) (u:=u) oF iS iS (fun he q=>?_) (fun hf=>?_) N 0 oF (fun i hi=>oF)
  ·have heq:∀i,w.getD i 0=u.words.getD i 0:=fun i=>by
    by_cases hi:i<N
    ·exact he i hi
    ·rw[LM oF,LM oF]
   simp[eM];refine Abb (t:=.mk k w ks) (u:=u) oF hw hwu (fun i _=>hk0 i) iS iS (fun he2 q=>?_) (fun hf=>?_) M 0 oF (fun i hi=>oF)
   ·simp;refine BA (yes hc heq fun i=>?_).symm;by_cases hi:i<M
    ·exact he2 i hi
    ·rw[LM oF,LM oF]
   ·simp;refine BA (no fun h=>?_).symm;obtain⟨i,hi⟩:=hf;exact hi (h.2.2 i)
  ·simp;refine BA (no fun h=>?_).symm;obtain⟨i,hi⟩:=hf;exact hi (h.2.1 i)
 unfold MN;by_cases k1:k=1
 ·have u1:u.kind=1:=oF
  have hm:=main (.inl k1);rw[u1]at hm;subst k1;simp[u1];refine BP rfl ?_;simp;exact Gk hm
 ·have u1:¬u.kind=1:=oF
  by_cases hl:ks.length=u.kids.length
  ·have hl':(ks.length:Int)=u.kids.length:=oF
   simp[h1,h0,u1,hl'];refine MC rfl (fun _=>fh w u.words oF) (fun _=>rfl) rfl ?_;by_cases hww:w=u.words
   ·simp[hww];have:=main (.inr ⟨hl,hww⟩);rw[h1,hww]at this;exact Gk this
   ·simp[hww];refine BA ?_;rw[<-h1];refine(no fun h=>?_).symm;rcases h.1 with h|h
    ·exact k1 h
    ·exact hww h.2
  ·have hl':¬(ks.length:Int)=u.kids.length:=oF
   simp[h1,h0,u1,hl,hl'];refine BP rfl ?_;simp;refine BA ?_;rw[<-h1];exact(no fun h=>by
    rcases h.1 with h|h
    ·exact k1 h
    ·exact hl h.1).symm
theorem Jf{t u:T}(hw:AE t)(hwu:AE u):G.Spec Tryz.prog 57 [tX t,tX u] (bv (J2 t u)):=ye t u hw hwu
def kmF(v:Nat)(l:List T):Fam:=⟨fun r p=>if p=[]then ⟨1,.cells [.osl (r::[0]) v 3 0 l.length]⟩else if p=[0]then ⟨v,.arr 3 (l.map tA)⟩else ⟨0,.none⟩,fun {γ δ r r'} hg hd p=>by
  by_cases h1:p=[]
  ·rw[if_pos h1,if_pos h1];refine Fam.cells_ren ?_;simp[A.renL,A.ren,hg,hd]
  ·rw[if_neg h1,if_neg h1];by_cases h2:p=[0]
   ·rw[if_pos h2];exact Fam.arr_ren ((FamL.all bF).ren hg hd)
   ·rw[if_neg h2];rfl,fun {D r} hD p=>by
  by_cases h1:p=[]
  ·rw[if_pos h1];simp[Ob.refs,A.refsL,A.refs,hD]
  ·rw[if_neg h1];by_cases h2:p=[0]
   ·rw[if_pos h2];exact(FamL.all bF).refs hD
   ·rw[if_neg h2];trivial⟩
@[simp]theorem Ama{v:Nat}{l:List T}{r:Nat}{p:Nm}:(kmF v l).F r p=if p=[]then ⟨1,.cells [.osl (r::[0]) v 3 0 l.length]⟩else if p=[0]then ⟨v,.arr 3 (l.map tA)⟩else ⟨0,.none⟩:=rfl
noncomputable def ofU(v:Nat)(ks:List T)(t:T):Nat:=if FN ks t<ks.length then v else v+1
noncomputable def VP:Nat->List T->List T->Nat
 |v,_,[]=>v
 |v,ks,t::l=>VP (ofU v ks (Af t)) (GY ks (Af t)) l
theorem Tr:∀(l:List T)(u:Nat)(ks:List T)(t:T),VP u ks (l++[t])=ofU (VP u ks l) (C6 ks l).1 (Af t)
 |[],u,ks,t=>by simp[VP,C6]
 |a::l,u,ks,t=>by simp[VP,C6,Tr l]
theorem wj{ks:List T}{n:T}(h:∀k,k∈ks->Af k=k)(hn:Af n=n):∀k,k∈GY ks n->Af k=k:=by
 unfold GY;split
 ·exact h
 ·intro k hk;rcases List.mem_append.1 hk with hk|hk
  ·exact h k hk
  ·simp at hk;subst hk;exact hn
theorem Xc:∀{l ks:List T},(∀k,k∈ks->Af k=k)->∀k,k∈(C6 ks l).1->Af k=k
 |[],ks,h=>h
 |t::l,ks,h=>Xc (l:=l) (wj h (B8 t))
section
variable {n0:Nat} {w0:World} {I0:Nat->Prop} {M0:Nm->Nat->Prop} {m0:Mu} {Q:Exit->Sta->Prop}
theorem Ahg{ks:List T}(hw:∀k,k∈ks->AE k)(hn:∀k,k∈ks->Af k=k)(hl:ks.length<=1000000){t:T}(wt:AE t)(nt:Af t=t){v w i N y:Nat}{na:Nat}{acc:List Nat}(hna:na=acc.length)(hacc:acc.length<=1000000){X:A}
  (hq:FN ks t=ks.length->∀(st:List (Nat × A))(H':Hp),(∀p,H' (0::p)=(kmF v ks).F 0 p)->H' [1]=⟨y,.cells (tL t)⟩->H' [3]=⟨w,.arr 1 (acc.map nv)⟩->Q (.exit 2) ⟨lk ([(0,.pob [0] 1 0),(5,.osl [3] w 1 0 na),(7,.pob [1] y 0),(10,X),(11,iv N),(12,iv i)]++st),H'⟩)
  (hq2:FN ks t<ks.length->∀(H':Hp),(∀p,H' (0::p)=(kmF v ks).F 0 p)->H' [3]=⟨w+1,.arr 1 ((acc++[FN ks t]).map nv)⟩->Q (.exit 1) ⟨lk [(0,.pob [0] 1 0),(5,.osl [3] (w+1) 1 0 (na+1)),(10,X),(11,iv N),(12,iv i)],H'⟩) :
  ∀(m j:Nat)(H:Hp),j+m=ks.length->(∀(x:Nat)(hx:x<j)(h:x<ks.length),ks[x]≠t)->(∀p,H (0::p)=(kmF v ks).F 0 p)->H [1]=⟨y,.cells (tL t)⟩->H [3]=⟨w,.arr 1 (acc.map nv)⟩ ->
  LoopC (DC Tryz.prog w0 I0 M0 n0 m0) EV Q ⟨lk [(0,.pob [0] 1 0),(5,.osl [3] w 1 0 na),(7,.pob [1] y 0),(10,X),(11,iv N),(12,iv i),(19,.osl [0,0] v 3 0 ks.length),(20,iv ks.length),(21,iv j)],H⟩:=by
 subst hna;intro m;induction m with
 |zero=>
  intro j H hj hb hF h1 h3;have:j=ks.length:=oF
  subst this;refine Ad Ai EV.eq_1 ?_;simp;exact hq (qq fun hm=>by
   obtain⟨x,hx,e⟩:=List.mem_iff_getElem.1 hm;exact hb x hx hx e) [(19,.osl [0,0] v 3 0 ks.length),(20,iv ks.length),(21,iv ks.length),(22,bv false)] H hF h1 h3
 |succ m ih=>
  intro j H hj hb hF h1 h3;have hlt:j<ks.length:=oF
  have ew:=AR j;have hF1:=hF [0];simp at hF1;have hk:=De hlt;refine Ad Ai EV.eq_1 ?_;simp[hlt,hF1,h1,Aa];refine Ag (Jf (hw _ hk) wt) iS ?_;have hE:J2 ks[j] t=GM ks[j] t:=by unfold J2;rw[hn _ hk,nt]
  rw[hE];by_cases he:ks[j]=t
  ·have hc:=jX hlt he fun x hx=>hb x hx oF;have hs:GM ks[j] t=true:=sameB_iff.2 he;rw[hc]at hq2;simp[hs,Aa,h3];refine⟨oF,?_⟩;simp[Co];exact hq2 hlt _ (fun p=>by simp[Aa,hF]) (by simp[Aa,AO])
  ·have hs:GM ks[j] t=false:=by rw[Bool.eq_false_iff];exact fun h=>he (sameB_iff.1 h)
   simp[hs,ew];refine ih (j+1) _ oF (fun x hx h=>?_) (fun p=>by simp[Aa,hF]) (by simp[Aa,h1]) (by simp[Aa,h3]);by_cases e:x=j
   ·subst e;exact he
   ·exact hb x oF h
theorem Afp{ks0 ts:List T}(hw:∀k,k∈ks0->AE k)(hn:∀k,k∈ks0->Af k=k)(ht:∀k,k∈ts->AE k)(htn:∀k,k∈ts->Af k=k)(hl:ks0.length+ts.length<=1000000){v0:Nat}
  (hq:∀(st:List (Nat × A))(H':Hp),(∀p,H' (0::p)=(kmF (VP v0 ks0 ts) (C6 ks0 ts).1).F 0 p)->H' [3]=⟨ts.length+1,.arr 1 ((C6 ks0 ts).2.map nv)⟩->Q (.exit 0) ⟨lk ([(0,.pob [0] 1 0),(5,.osl [3] (ts.length+1) 1 0 ts.length)]++st),H'⟩) :
  ∀(m i:Nat)(H:Hp),i+m=ts.length->(∀p,H (0::p)=(kmF (VP v0 ks0 (ts.take i)) (C6 ks0 (ts.take i)).1).F 0 p)->H [3]=⟨i+1,.arr 1 ((C6 ks0 (ts.take i)).2.map nv)⟩ ->
  LoopC (DC Tryz.prog w0 I0 M0 n0 m0) E6 Q ⟨lk [(0,.pob [0] 1 0),(5,.osl [3] (i+1) 1 0 i),(10,B7 ts),(11,iv ts.length),(12,iv i)],H⟩:=by
 intro m;induction m with
 |zero=>
  intro i H hi hF h3;have:i=ts.length:=oF
  subst this;rw[AO (CX _)]at hF h3;refine Ad Ai E6.eq_1 ?_;simp;exact hq [(10,B7 ts),(11,iv ts.length),(12,iv ts.length),(13,bv false)] H hF h3
 |succ m ih=>
  intro i H hi hF h3;have hlt:i<ts.length:=oF
  have ew:=AR i;have htk:ts.take (i+1)=ts.take i++[ts[i]]:=F5 hlt;have hti:=De hlt;have nt:=htn _ hti;have hlen:=Xb (ts.take i) ks0;rw[List.length_take,Nat.min_eq_left oF]at hlen;have hkw:=Zy hw (l:=ts.take i) fun k hk=>ht k (QD hk);have hkn:=Xc hn (l:=ts.take i) ;have hlL:(C6 ks0 (ts.take i)).2.length=i:=by rw[FU,List.length_take,Nat.min_eq_left oF]
  have ihn:=ih (i+1);rw[htk,Tr,Tz,nt]at ihn;simp only at ihn;have hF0:=hF [];have hF1:=hF [0];simp at hF0 hF1;generalize hv:VP v0 ks0 (ts.take i)=v at *;generalize hL:(C6 ks0 (ts.take i)).2=L at *;generalize hK:(C6 ks0 (ts.take i)).1=K at *;refine Ad Ai E6.eq_1 ?_;simp[hlt,hF0,Aa];refine LoopC.le (Ar [(0,.pob [0] 1 0),(5,.osl [3] (i+1) 1 0 i),(7,.pob [1] ((H [1]).u+1) 0),(10,B7 ts),(11,iv ts.length),(12,iv i),(19,.osl [0,0] v 3 0 K.length),(20,iv K.length),(21,iv (0:Nat))] iS) ?_;refine Ahg hkw hkn oF (ht _ hti) nt (v:=v) (w:=i+1) (i:=i) (N:=ts.length) (acc:=L) hlL.symm oF (X:=B7 ts) (y:=(H [1]).u+1) (fun hc st H' g0 g1 g3=>?_) (fun hc H' g0 g3=>?_) K.length 0 _ oF (fun x hx=>oF) (fun p=>by simp[hF,Aa]) (by simp[Aa]) (by simp[Aa,h3])
  ·have g00:=g0 [];have g01:=g0 [0];simp at g00 g01;rw[hc]at ihn;have hcK:GY K ts[i]=K++[ts[i]]:=by unfold GY;rw[if_neg oF]
   have hcU:ofU v K ts[i]=v+1:=by unfold ofU;rw[if_neg oF]
   rw[hcK,hcU]at ihn;simp[Co,g00,g01,g1,g3,hlL,Aa];refine⟨oF,oF,oF,?_⟩;rw[ew];refine ihn _ oF (fun p=>?_) (by simp[Aa,hlL,AO]);by_cases h1:p=[]
   ·subst h1;simp[Aa]
   ·by_cases h2:p=[0]
    ·subst h2;simp[Aa,AO]
    ·simp[h1,h2,Aa,g0]
  ·have hcK:GY K ts[i]=K:=by unfold GY;rw[if_pos hc]
   have hcU:ofU v K ts[i]=v:=by unfold ofU;rw[if_pos hc]
   rw[hcK,hcU]at ihn;simp[Co,ew];exact ihn _ oF g0 g3
end
theorem W2{ks ts:List T}(hw:∀k,k∈ks->AE k)(hn:∀k,k∈ks->Af k=k)(ht:∀k,k∈ts->AE k)(htn:∀k,k∈ts->Af k=k)(hl:ks.length+ts.length<=1000000)(v:Nat) :
  SpecF Tryz.prog 120 (fun r=>[.pob [r] 1 0,B7 ts]) (kmF v ks) (fun r=>.sl false ((C6 ks ts).2.map nv)) (kmF (VP v ks ts) (C6 ks ts).1):=by
 refine Hh Rx iS (Ab Aq (Ab Bc Ah)) Bc fun w0 I0 M0 m0 hM=>?_;unfold Kz;simp;refine LoopC.le (F0 5 [3] 1 iS) ?_;refine LoopC.le (Ar [(0,.pob [0] 1 0),(5,.osl [3] (0+1) 1 0 0),(10,B7 ts),(11,iv ts.length),(12,iv (0:Nat))] (by simp[upd])) ?_;refine Afp hw hn ht htn hl (v0:=v) (fun st H' g0 g3=>?_) ts.length 0 _ oF (fun p=>?_) ?_
 ·simp;obtain⟨H2,k1,k2⟩:=Qm (c:=DC Tryz.prog w0 I0 M0 55 m0) (s:=lk [(5,.osl [3] (ts.length+1) 1 0 ts.length)]) (H:=H') (fun r=>1<=r) (fun r p b hr=>hM r p b hr) 5 (.sl false ((C6 ks ts).2.map nv)) (fun H1 e1=>by
   have e2:H1 [3]=H' [3]:=e1 3 [] oF;simp;exact CI (o:=[3]) (u:=ts.length+1) (n:=ts.length) (sz:=1) (l:=(C6 ks ts).2) (f:=nv) (by rw[e2,g3];simp) (FU ts ks).symm (fun x=>rfl))
  refine GP k1 (Gk ?_);simp[upd];exact An rfl rfl fun p=>(k2 0 p oF).trans (g0 p)
 ·simp[C6,VP]
 ·simp[C6]
end Go.Proofs.YtlaapfplenlfaaaGreat
namespace Go.PL
def R8:List Int->List Int->Nat
 |a::l,b::m=>(if a=b then 1 else 0)+R8 l m
 |_,_=>0
noncomputable def aE:List T->List T->Nat
 |a::l,b::m=>(if J2 a b=true then 1 else 0)+aE l m
 |_,_=>0
noncomputable def G9(a b:T):Nat:=if a.kind≠b.kind\/a.kind=0\/a.kind=10 then 0 else 1+R8 a.words b.words+aE a.kids b.kids
theorem xD{l m:List Int}{i:Nat}(h1:i<l.length)(h2:i<m.length):R8 (l.drop i) (m.drop i)=(if l[i]=m[i]then 1 else 0)+R8 (l.drop (i+1)) (m.drop (i+1)):=by
 rw[(List.getElem_cons_drop h1).symm,(List.getElem_cons_drop h2).symm,R8]
theorem xS{l m:List T}{i:Nat}(h1:i<l.length)(h2:i<m.length):aE (l.drop i) (m.drop i)=(if J2 l[i] m[i]=true then 1 else 0)+aE (l.drop (i+1)) (m.drop (i+1)):=by
 rw[(List.getElem_cons_drop h1).symm,(List.getElem_cons_drop h2).symm,aE]
theorem uG{l m:List Int}{i:Nat}(h:i=min l.length m.length):R8 (l.drop i) (m.drop i)=0:=by
 by_cases h1:i=l.length
 ·rw[List.drop_eq_nil_of_le (by omega:l.length<=i)];cases m.drop i<;>rfl
 ·rw[List.drop_eq_nil_of_le (by omega:m.length<=i)];cases l.drop i<;>rfl
theorem vq{l m:List T}{i:Nat}(h:i=min l.length m.length):aE (l.drop i) (m.drop i)=0:=by
 by_cases h1:i=l.length
 ·rw[List.drop_eq_nil_of_le (by omega:l.length<=i)];cases m.drop i<;>rfl
 ·rw[List.drop_eq_nil_of_le (by omega:m.length<=i)];cases l.drop i<;>rfl
theorem gR:∀l m,R8 l m<=l.length
 |[],_=>by simp[R8]
 |_::_,[]=>by simp[R8]
 |a::l,b::m=>by
  have:=gR l m;unfold R8;simp;split<;>omega
end Go.PL
namespace Go.PL
open List
theorem OS:∀{rs:List (List Int)} {i:Nat} {x:Sc},x∈H8 i rs->i<=x.i/\x.i<16/\x.j<16/\0<x.n/\∃r,rs[x.i-i]? = some r/\r[x.j]? = some x.n
 |[],i,x,h=>by simp[H8]at h
 |r::rs,i,x,h=>by
  unfold H8 at h;rcases List.mem_append.1 h with h|h
  ·obtain⟨h1,h2,h3,h4,h5,h6,h7⟩:=fq h;exact⟨oF,oF,h3,h7,r,by rw[h1];simp,by simpa using h6⟩
  ·obtain⟨h1,h2,h3,h4,r',h5,h6⟩:=OS h;refine⟨oF,h2,h3,h4,r',?_,h6⟩;rw[show x.i-i=(x.i-(i+1))+1 by omega];simpa using h5
end Go.PL
namespace Go.Proofs.YtlaapfplenlfaaaGreat
open Go Go.G Go.Proofs Go.PL
theorem TN(rs:List (List Int)):∃o',MY (H8 0 rs) [] o'/\o'.length<=16:=by
 obtain⟨o',h⟩:=qB (all:=H8 0 rs) (by have:=Sr (rs:=rs) (i:=0);omega);obtain⟨h1,h2⟩:=Hf h;refine⟨o',h,?_⟩;have hs:=QJ h1;rw[<-hs.2.length_eq];have:=YH (Sx o') 0 16 hs.1 fun x hx=>⟨oF,(OS (h2 x (hs.2.subset hx))).2.1⟩;omega
noncomputable def Om(a b:List T):List (List Int):=a.map fun x=>b.map fun y=>(G9 x y:Int)
noncomputable def pkO(rs:List (List Int)):List Sc:=(TN rs).choose
noncomputable def cC(rs:List (List Int)):List Sc:=Sx (pkO rs)
theorem Z9(rs:List (List Int)):MY (H8 0 rs) [] (pkO rs)/\(pkO rs).length<=16:=(TN rs).choose_spec
def HW(one:T->T->E)(a b:List T):List Sc->Nat->Nat->List OP->List OP
 |[],i,j,out=>out++DX (a.drop i)++Cm (b.drop j)
 |x::xs,i,j,out=>HW one a b xs (x.i+1) (x.j+1) (out++DX ((a.take x.i).drop i)++Cm ((b.take x.j).drop j)++[.mk 3 0 [] (one (a.getD x.i T0) (b.getD x.j T0))])
noncomputable def G4(one:T->T->E)(a b:List T):List OP:=HW one a b (cC (Om a b)) 0 0 []
def Dg(gap:List T->List T->List OP):List Sp->List T->List T->List OP->List OP
 |[],_,_,out=>out
 |[s],a,b,out=>if s.k=0 then out++[.mk 0 s.n [] E0]else if s.k=2 then out++Cm (b.take s.n)else out++DX (a.take s.n)
 |s::s2::ss,a,b,out=>
  if s.k=0 then Dg gap (s2::ss) (a.drop s.n) (b.drop s.n) (out++[.mk 0 s.n [] E0])
  else if s.k=2 then Dg gap (s2::ss) a (b.drop s.n) (out++Cm (b.take s.n))
  else if s2.k=2 then Dg gap ss (a.drop s.n) (b.drop s2.n) (out++gap (a.take s.n) (b.take s2.n))
  else Dg gap (s2::ss) (a.drop s.n) b (out++DX (a.take s.n))
abbrev xh(l:List Nat):List Int:=l.map fun n:Nat=>(n:Int)
noncomputable def UN(a:T):List Int:=xh (C6 [] a.kids).2
noncomputable def U2(a b:T):List Int:=xh (C6 (C6 [] a.kids).1 b.kids).2
noncomputable def Si(one:T->T->E)(most:Int)(a b:T):E:=
 .mk 3 T0 T0 [] [] a.kind (if (Dr (UN a) (U2 a b):Int)<=most then Dg (G4 one) (Lb (GO (UN a) (U2 a b))) a.kids b.kids []else G4 one a.kids b.kids)
def HU(a b:T)(m:Nat):List WE:=(List.range m).filterMap fun i=>if Eu (a.words.getD i 0) (b.words.getD i 0)=0 then none else some (Z4 i (a.words.getD i 0) (b.words.getD i 0))
def C7(one:T->T->E)(a b:T)(m:Nat):List KE:=(List.range m).filterMap fun i=>if (one (a.kids.getD i T0) (b.kids.getD i T0)).kind=0 then none else some (.mk i (one (a.kids.getD i T0) (b.kids.getD i T0)))
def eP(one:T->T->E)(a b:T):E:=.mk 2 T0 T0 (HU a b (max a.words.length b.words.length)) (C7 one a b (max a.kids.length b.kids.length)) 0 []
noncomputable def El(most:Int):Nat->T->T->E
 |0,a,b=>if J2 a b=true then E0 else .mk 1 a b [] [] 0 []
 |f+1,a,b=>if J2 a b=true then E0 else if a.kind=1/\b.kind=1 then eP (El most f) a b else if a.kind=b.kind/\2<=a.kind/\a.kind<=9 then Si (El most f) most a b else .mk 1 a b [] [] 0 []
def dA(us:List Nat):Nat:=us.countP fun x=>x != 2
def dB(us:List Nat):Nat:=us.countP fun x=>x != 1
theorem Ic(n k:Nat):dA (List.replicate n k)=if k=2 then 0 else n:=by unfold dA;rw[List.countP_replicate];by_cases h:k=2<;>simp[h]
theorem Ii(n k:Nat):dB (List.replicate n k)=if k=1 then 0 else n:=by unfold dB;rw[List.countP_replicate];by_cases h:k=1<;>simp[h]
theorem HA(a b:List Nat):dA (a++b)=dA a+dA b:=List.countP_append
theorem HP(a b:List Nat):dB (a++b)=dB a+dB b:=List.countP_append
theorem ZH:∀(us:List Nat)(k d i:Nat),(∀x,x∈us->x<=2)->dA (Bu (QA us k d i))=k+d+dA us/\dB (Bu (QA us k d i))=k+i+dB us
 |[],k,d,i,_=>by
  simp only[QA,JX,ND,HA,HP,Ic,Ii];simp[dA,dB]
 |x::us,k,d,i,h=>by
  have hx:=h x iS;have hu:∀y,y∈us->y<=2:=fun y hy=>h y (by simp[hy]);have e1:dA (x::us)=(if x=2 then 0 else 1)+dA us:=by
   have:=HA [x] us;rw[show [x]=List.replicate 1 x from rfl,Ic]at this;simpa using this
  have e2:dB (x::us)=(if x=1 then 0 else 1)+dB us:=by
   have:=HP [x] us;rw[show [x]=List.replicate 1 x from rfl,Ii]at this;simpa using this
  rw[e1,e2,QA];have hx3:x=0\/x=1\/x=2:=oF
  rcases hx3 with rfl|rfl|rfl
  ·obtain⟨h1,h2⟩:=ZH us (k+1) 0 0 hu;simp only[if_true,JX,ND,HA,HP,Ic,Ii,h1,h2];simp;omega
  ·obtain⟨h1,h2⟩:=ZH us 0 (d+1) i hu;simp[HA,HP,Ic,Ii,h1,h2];omega
  ·obtain⟨h1,h2⟩:=ZH us 0 d (i+1) hu;simp[HA,HP,Ic,Ii,h1,h2];omega
theorem ZU(us:List Nat)(h:∀x,x∈us->x<=2):dA (Bu (Lb us))=dA us/\dB (Bu (Lb us))=dB us:=by
 have:=ZH us 0 0 0 h;unfold Lb;omega
theorem bE:∀(us:List Nat)(k d i:Nat),(∀x,x∈us->x<=2)->∀s,s∈QA us k d i->s.k<=2/\1<=s.n
 |[],k,d,i,_,s,hs=>by
  simp only[QA,List.mem_append]at hs;rcases hs with hs|hs|hs<;>(unfold fl at hs;split at hs<;>simp at hs;subst hs;simp;omega)
 |x::us,k,d,i,h,s,hs=>by
  have hu:∀y,y∈us->y<=2:=fun y hy=>h y (by simp[hy]);rw[QA]at hs;have fin:∀q n,q<=2->s∈fl q n->s.k<=2/\1<=s.n:=fun q n hq hs=>by
   unfold fl at hs;split at hs<;>simp at hs;subst hs;simp;omega
  split at hs
  ·simp only[List.mem_append]at hs;rcases hs with hs|hs|hs
   ·exact fin 1 _ oF hs
   ·exact fin 2 _ oF hs
   ·exact bE us _ _ _ hu s hs
  ·rw[List.mem_append]at hs;rcases hs with hs|hs
   ·exact fin 0 _ oF hs
   ·split at hs
    ·exact bE us _ _ _ hu s hs
    ·exact bE us _ _ _ hu s hs
theorem x4(p q:Nat):∀x,x∈Pg p q->x<=2:=by
 intro x hx;unfold Pg at hx;split at hx
 ·rcases List.mem_append.1 hx with h|h
  ·have:=List.eq_of_mem_replicate h;omega
  ·simp at h;omega
 ·simp at hx;omega
theorem AcX{p q:Nat}(h:p<=q):dA (Pg p q)=1/\dB (Pg p q)=q-p:=by
 unfold Pg;split
 ·rw[HA,HP,Ic,Ii];simp[dA,dB];omega
 ·simp[dA,dB];omega
theorem UB(a b:List Int):∀x,x∈GO a b->x<=2:=by
 intro x hx;unfold GO at hx;rcases List.mem_append.1 hx with h|h
 ·obtain⟨i,_,hi⟩:=List.mem_flatMap.1 h;exact x4 _ _ x hi
 ·have:=List.eq_of_mem_replicate h;omega
theorem oB(a b:List Int):∀n,n<=a.length->dA ((List.range n).flatMap (fun i=>Pg (C0 a b i) (C0 a b (i+1))))=n/\dB ((List.range n).flatMap (fun i=>Pg (C0 a b i) (C0 a b (i+1))))=C0 a b n
 |0,_=>by simp[dA,dB,Vm]
 |n+1,h=>by
  obtain⟨h1,h2⟩:=oB a b n oF;have hm:=VW (a:=a) (b:=b) (i:=n) (h:=n+1) oF h;obtain⟨g1,g2⟩:=AcX hm;rw[List.range_succ,List.flatMap_append,HA,HP,h1,h2];simp[g1,g2];omega
theorem kF(a b:List Int):dA (GO a b)=a.length/\dB (GO a b)=b.length:=by
 obtain⟨h1,h2⟩:=oB a b a.length (CX _);have hl:=(Iq (a:=a) (b:=b) (i:=a.length) (CX _)).2.1;unfold GO;rw[HA,HP,h1,h2,Ic,Ii];simp;omega
abbrev prs(l:List Sc):A:=.sl false (l.map K3)
variable {n0:Nat} {w0:World} {I0:Nat->Prop} {Q:Exit->Sta->Prop}
theorem Ach{a b:T}{H:Hp}(ha:AE a)(hb:AE b)(h0:H [0]=⟨1,.cells (tL a)⟩)(h1:H [1]=⟨1,.cells (tL b)⟩):∀(m i n:Nat),i+m=min a.words.length b.words.length->n<=1+i ->
  (∀st,Q (.exit 0) ⟨lk ([(2,.pob [0] 1 0),(3,.pob [1] 1 0),(5,nv (n+R8 (a.words.drop i) (b.words.drop i)))]++st),H⟩) ->
  LoopC (cx Tryz.prog w0 I0 n0) IL Q ⟨lk [(2,.pob [0] 1 0),(3,.pob [1] 1 0),(5,nv n),(29,iv (min a.words.length b.words.length:Nat)),(30,iv i)],H⟩:=by
 have hal:=(wfT_iff.1 ha).wl;intro m;induction m with
 |zero=>
  intro i n hm hn hq;refine Ad Ai IL.eq_1 ?_;rw[uG oF]at hq;generalize min a.words.length b.words.length=N at *;simp[show ¬i<N from oF];exact hq [(29,iv N),(30,iv i),(31,bv false)]
 |succ m ih=>
  intro i n hm hn hq;have hi:i<a.words.length:=oF
  have hj:i<b.words.length:=oF
  have e1:=AR i;have e2:=AR n;rw[xD hi hj]at hq;generalize min a.words.length b.words.length=N at *;have hN:i<N:=oF
  refine Ad Ai IL.eq_1 ?_;by_cases h:a.words[i]=b.words[i]
  ·simp[h0,h1,hi,hj,hN,h,e1,e2];refine ih (i+1) (n+1) oF oF fun st=>?_;have:=hq st;rw[if_pos h]at this;rw[show n+1+R8 (a.words.drop (i+1)) (b.words.drop (i+1))=n+(1+R8 (a.words.drop (i+1)) (b.words.drop (i+1))) by omega];exact this
  ·simp[h0,h1,hi,hj,hN,h,e1];refine ih (i+1) n oF oF fun st=>?_;have:=hq st;rw[if_neg h,Nat.zero_add]at this;exact this
theorem Abn{a b:T}{H:Hp}(ha:AE a)(hb:AE b)(h0:H [0]=⟨1,.cells (tL a)⟩)(h1:H [1]=⟨1,.cells (tL b)⟩):∀(m i n:Nat),i+m=min a.kids.length b.kids.length->n<=100000000000000+i ->
  (∀st,Q (.exit 2) ⟨lk ([(2,.pob [0] 1 0),(3,.pob [1] 1 0),(5,nv (n+aE (a.kids.drop i) (b.kids.drop i)))]++st),H⟩) ->
  LoopC (cx Tryz.prog w0 I0 n0) IB Q ⟨lk [(2,.pob [0] 1 0),(3,.pob [1] 1 0),(5,nv n),(53,iv (min a.kids.length b.kids.length:Nat)),(54,iv i)],H⟩:=by
 have hal:=(wfT_iff.1 ha).kl;intro m;induction m with
 |zero=>
  intro i n hm hn hq;refine Ad Ai IB.eq_1 ?_;rw[vq oF]at hq;generalize min a.kids.length b.kids.length=N at *;simp[show ¬i<N from oF];exact hq [(53,iv N),(54,iv i),(55,bv false)]
 |succ m ih=>
  intro i n hm hn hq;have hi:i<a.kids.length:=oF
  have hj:i<b.kids.length:=oF
  have e1:=AR i;have e2:=AR n;have hE:=Jf ((wfT_iff.1 ha).ks _ (De hi)) ((wfT_iff.1 hb).ks _ (De hj));rw[xS hi hj]at hq;generalize min a.kids.length b.kids.length=N at *;have hN:i<N:=oF
  refine Ad Ai IB.eq_1 ?_;simp[h0,h1,hi,hj,hN];refine Ag hE iS ?_;cases h:J2 a.kids[i] b.kids[i] with
  |true=>
   simp[e1,e2];refine ih (i+1) (n+1) oF oF fun st=>?_;have:=hq st;rw[if_pos h]at this;rw[show n+1+aE (a.kids.drop (i+1)) (b.kids.drop (i+1))=n+(1+aE (a.kids.drop (i+1)) (b.kids.drop (i+1))) by omega];exact this
  |false=>
   simp[e1];refine ih (i+1) n oF oF fun st=>?_;have:=hq st;rw[if_neg (by rw[h];decide),Nat.zero_add]at this;exact this
theorem dh{a b:T}(ha:AE a)(hb:AE b):G.Spec Tryz.prog 184 [tX a,tX b] (nv (G9 a b)):=by
 have hal:=(wfT_iff.1 ha).wl;refine Ak bz iS fun w0 I0=>?_;unfold Sf;by_cases hk:a.kind=b.kind
 ·by_cases h0:b.kind=0
  ·simp[hk,h0];exact K5 (by simp[G9,hk,h0])
  ·by_cases h10:b.kind=10
   ·simp[hk,h0,h10];exact K5 (by simp[G9,hk,h10])
   ·simp[hk,h0,h10];refine LoopC.le (Ar [(2,.pob [0] 1 0),(3,.pob [1] 1 0),(5,nv 1),(29,iv (min a.words.length b.words.length:Nat)),(30,iv (0:Nat))] (by simp;omega)) ?_;refine Ach ha hb (by simp[Aa,hk]) (by simp[Aa]) _ 0 1 (Nat.zero_add _) oF fun st=>?_;simp;refine LoopC.le (Ar [(2,.pob [0] 1 0),(3,.pob [1] 1 0),(5,nv (1+R8 a.words b.words)),(53,iv (min a.kids.length b.kids.length:Nat)),(54,iv (0:Nat))] (by simp;omega)) ?_;have:=gR a.words b.words;refine Abn ha hb (by simp[Aa,hk]) (by simp[Aa]) _ 0 _ (Nat.zero_add _) oF fun st=>?_;simp;refine K5 ?_;simp[G9,hk,h0,h10]
 ·simp[hk];exact K5 (by simp[G9,hk])
theorem Aay{t:T}(h:AE t)(i:Nat):Bs (wdT t i):=by
 unfold wdT;rw[List.getD_eq_getElem?_getD];cases e:t.words[i]? with
 |none=>exact⟨iS,iS⟩
 |some x=>exact(wfT_iff.1 h).w x (List.mem_of_getElem? e)
inductive WI where
 |keep (n:Int)
 |del (k v:Nat) (l:List T)
 |ins (k v:Nat) (l:List T)
 |desc (e:E)
def WI.op:WI->OP
 |.keep n=>.mk 0 n [] E0
 |.del _ _ l=>.mk 1 0 l E0
 |.ins _ _ l=>.mk 2 0 l E0
 |.desc e=>.mk 3 0 [] e
def Be:List A:=[iv 0,iv 0,.sl true [],.sl true [],iv 0,.sl true [],.sl true [],.sl true [],.sl true [],iv 0,.sl true []]
def Xh(r:Nat):WI->List A
 |.keep n=>iv 0::iv n :: .sl true []::Be
 |.del k v l=>iv 1::iv 0 :: .osl (r::[k]) v 3 0 l.length::Be
 |.ins k v l=>iv 2::iv 0 :: .osl (r::[k]) v 3 0 l.length::Be
 |.desc e=>iv 3::iv 0 :: .sl true []::eL e
def Tu(r:Nat)(x:WI):A:=.agg (Xh r x)
@[simp]theorem AeP{r:Nat}{x:WI}:(Tu r x).cells=Xh r x:=rfl
@[simp]theorem AjE{r:Nat}{x:WI}:(Xh r x).length=14:=by cases x<;>rfl
theorem xQ{g:Nm->Nm}{δ:Nm->Nat}{r r':Nat}(hg:∀p,g (r::p)=r'::p)(hd:∀p,δ (r::p)=0)(x:WI):A.renL g δ (Xh r x)=Xh r' x:=by
 cases x<;>simp[Xh,Be,A.renL,A.ren,hg,hd]
theorem sw{D:Nm->Prop}{r:Nat}(hD:∀p,D (r::p))(x:WI):A.refsL D (Xh r x):=by
 cases x<;>simp[Xh,Be,A.refsL,A.refs,hD]
def OL(r:Nat):Option (Nat × Nat × List T)->A
 |some (k,v,l)=>.osl (r::[k]) v 3 0 l.length
 |none=>.sl true []
abbrev UD:=Nat->Option (Nat × List T)
def oL:Option (Nat × List T)->VOb
 |some (v,l)=>⟨v,.arr 3 (l.map tA)⟩
 |none=>⟨0,.none⟩
theorem xL{g:Nm->Nm}{δ:Nm->Nat}{r r':Nat}(hg:∀p,g (r::p)=r'::p)(hd:∀p,δ (r::p)=0)(o:Option (Nat × Nat × List T)):(OL r o).ren g δ=OL r' o:=by
 rcases o with _|⟨k,v,l⟩
 ·simp[OL,A.ren]
 ·simp[OL,A.ren,hg,hd]
def Ts(R:UD):Nm->VOb
 |[k]=>oL (R k)
 |_=>⟨0,.none⟩
@[simp]theorem Ado{R:UD}{k:Nat}:Ts R [k]=oL (R k):=rfl
theorem xU{g:Nm->Nm}{δ:Nm->Nat}(o:Option (Nat × List T)):VOb.ren g δ 0 (oL o)=oL o:=by
 rcases o with _|⟨v,l⟩
 ·rfl
 ·refine Fam.arr_ren ?_;simp only[Cu,List.map_map];refine List.map_congr_left fun x _=>?_;simp[A.ren,A.renL]
theorem pB{g:Nm->Nm}{δ:Nm->Nat}(R:UD):∀p,VOb.ren g δ 0 (Ts R p)=Ts R p
 |[]=>rfl
 |[k]=>xU _
 |_::_::_=>rfl
theorem rV{D:Nm->Prop}(o:Option (Nat × List T)):(oL o).ob.refs D:=by
 rcases o with _|⟨v,l⟩
 ·trivial
 ·simp only[oL,Ob.refs,refsL_iff];intro y hy;obtain⟨x,_,rfl⟩:=List.mem_map.1 hy;simp[A.refs,A.refsL]
theorem jO{D:Nm->Prop}(R:UD):∀p,(Ts R p).ob.refs D
 |[]=>trivial
 |[k]=>rV _
 |_::_::_=>trivial
def Vz(its:List WI)(vo:Nat)(g b:Option (Nat × Nat × List T))(R:UD):Fam:=⟨fun r p=>if p=[]then ⟨1,.cells [.osl (r::[0]) vo 14 0 its.length,OL r g,OL r b]⟩else if p=[0]then ⟨vo,.arr 14 (its.map (Tu r))⟩else Ts R p,fun {γ δ r r'} hg hd p=>by
  by_cases h1:p=[]
  ·rw[if_pos h1,if_pos h1];refine Fam.cells_ren ?_;simp[A.renL,A.ren,hg,hd,xL hg hd]
  ·rw[if_neg h1,if_neg h1];by_cases h2:p=[0]
   ·rw[if_pos h2,if_pos h2];refine Fam.arr_ren ?_;simp only[Cu,List.map_map];refine List.map_congr_left fun x _=>?_;simp[Tu,A.ren,xQ hg hd]
   ·rw[if_neg h2,if_neg h2];exact pB R p,fun {D r} hD p=>by
  by_cases h1:p=[]
  ·rw[if_pos h1];rcases g with _|⟨k,v,l⟩<;>rcases b with _|⟨k',v',l'⟩<;>simp[Ob.refs,A.refsL,A.refs,hD,OL]
  ·rw[if_neg h1];by_cases h2:p=[0]
   ·rw[if_pos h2];simp only[Ob.refs,refsL_iff];intro y hy;obtain⟨x,_,rfl⟩:=List.mem_map.1 hy;simp only[A.refs,Tu];exact sw hD x
   ·rw[if_neg h2];exact jO R p⟩
@[simp]theorem nP{its:List WI}{vo:Nat}{g b:Option (Nat × Nat × List T)}{R:UD}{r:Nat}{p:Nm}:(Vz its vo g b R).F r p=if p=[]then ⟨1,.cells [.osl (r::[0]) vo 14 0 its.length,OL r g,OL r b]⟩else if p=[0]then ⟨vo,.arr 14 (its.map (Tu r))⟩else Ts R p:=rfl
abbrev zQ(r:Nat):A:=.pob [r] 1 0
theorem UG{r:Nat}{l:List WI}:EN 14 (l.map (Tu r))=true:=by rw[Jj];simp
def FL:Nat × Nat × List T->List WI
 |(k,v,l)=>if l=[]then []else [.del k v l]
def BX:Nat × Nat × List T->List WI
 |(k,v,l)=>if l=[]then []else [.ins k v l]
theorem JR(its:List WI)(vo:Nat)(g b:Nat × Nat × List T)(R:UD)(hl:its.length<=1000000)(hg:R g.1=some (g.2.1,g.2.2))(hb:R b.1=some (b.2.1,b.2.2))(hg0:1<=g.1)(hb0:1<=b.1):SpecF Tryz.prog 118 (fun r=>[zQ r]) (Vz its vo (some g) (some b) R) (fun _=>.tup []) (Vz (its++(FL g++BX b)) (vo+(FL g++BX b).length) none none R):=by
 obtain⟨gk,gv,gl⟩:=g;obtain⟨bk,bv',bl⟩:=b;refine Ao Nk iS (Ab Aq Ah) (Ay Ah) fun w0 I0 M0 m0=>?_;unfold H6;by_cases h1:gl=[]
 ·by_cases h2:bl=[]
  ·simp[h1,h2,OL];rw[CE.eq_1];simp[h1,h2,OL,Aa];refine AQ rfl rfl (fun p=>?_);by_cases p1:p=[]
   ·subst p1;simp[Aa,FL,BX,OL]
   ·by_cases p2:p=[0]
    ·subst p2;simp[Aa,FL,BX]
    ·simp[p1,p2,Aa]
  ·have h2':(0:Int)<bl.length:=by have:=List.length_pos_iff.2 h2;omega
   have h2n:=List.length_pos_iff.2 h2;simp[h1,h2,OL];rw[CE.eq_1];simp[h1,h2,h2',h2n,OL,Aa,UG];refine⟨oF,oF,?_⟩;refine AQ rfl rfl (fun p=>?_);by_cases p1:p=[]
   ·subst p1;simp[Aa,FL,BX,OL,h1,h2]
   ·by_cases p2:p=[0]
    ·subst p2;simp[Aa,FL,BX,h1,h2,Tu,Xh,Be,AO]
    ·simp[p1,p2,Aa]
 ·have h1':(0:Int)<gl.length:=by have:=List.length_pos_iff.2 h1;omega
  have h1n:=List.length_pos_iff.2 h1;by_cases h2:bl=[]
  ·simp[h1,h1',h1n,h2,OL,Aa,UG];refine⟨oF,oF,?_⟩;rw[CE.eq_1];simp[h1,h2,OL,Aa];refine AQ rfl rfl (fun p=>?_);by_cases p1:p=[]
   ·subst p1;simp[Aa,FL,BX,OL,h1,h2]
   ·by_cases p2:p=[0]
    ·subst p2;simp[Aa,FL,BX,h1,h2,Tu,Xh,Be,AO]
    ·simp[p1,p2,Aa]
  ·have h2':(0:Int)<bl.length:=by have:=List.length_pos_iff.2 h2;omega
   have h2n:=List.length_pos_iff.2 h2;simp[h1,h1',h1n,h2,OL,Aa,UG];refine⟨oF,oF,?_⟩;rw[CE.eq_1];simp[h1,h2,h2',h2n,OL,Aa];refine⟨oF,⟨oF,oF⟩,?_⟩;refine AQ rfl rfl (fun p=>?_);by_cases p1:p=[]
   ·subst p1;simp[Aa,FL,BX,OL,h1,h2]
   ·by_cases p2:p=[0]
    ·subst p2;simp[Aa,FL,BX,h1,h2,Tu,Xh,Be,AO]
    ·simp[p1,p2,Aa]
theorem Afx(l:List T)(x:A):(l.map tA++[x])[l.length]? = some x:=by rw[List.getElem?_append_right iS];simp
theorem yW(l:List T):List.take l.length (l.map tA)=l.map tA:=AO iS
theorem mN{n0:Nat}{w0:World}{I0:Nat->Prop}{M0:Nm->Nat->Prop}{m0:Mu}{Q:Exit->Sta->Prop}{its:List WI}{vo off k:Nat}{g b:Option (Nat × Nat × List T)}{R:UD}{ts l0:List T}{v0:Nat}(hts:∀t,t∈ts->AE t)(hl:l0.length+ts.length<=1000000)(hk:1<=k)
  (F:Nat->List T->Fam) (hF0:∀v l,(F v l).F 0 []=⟨1,.cells [.osl [0,0] vo 14 0 its.length,if off=1 then .osl [0,k] v 3 0 l.length else OL 0 g,if off=1 then OL 0 b else .osl [0,k] v 3 0 l.length]⟩) (hoff:off=1\/off=2) (hFk:∀v l,(F v l).F 0 [k]=⟨v,.arr 3 (l.map tA)⟩) (hFo:∀v l v' l' p,p≠[]->p≠[k]->(F v l).F 0 p=(F v' l').F 0 p)
  (hq:∀H st,(∀p,H (0::p)=(F (v0+ts.length) (l0++ts.map Af)).F 0 p)->Q (.exit 0) ⟨lk st,H⟩):∀(m i:Nat)(H:Hp),i+m=ts.length->(∀p,H (0::p)=(F (v0+i) (l0++(ts.take i).map Af)).F 0 p) ->
  LoopC (DC Tryz.prog w0 I0 M0 n0 m0) HI Q ⟨lk [(0,.pob [0] 1 off),(6,B7 ts),(7,iv ts.length),(8,iv i)],H⟩:=by
 intro m;induction m with
 |zero=>
  intro i H hm hH;refine Ad Ai HI.eq_1 ?_;have:i=ts.length:=oF
  subst this;rw[AO (CX _)]at hH;simp;exact hq H _ hH
 |succ m ih=>
  intro i H hm hH;have hi:i<ts.length:=oF
  have ew:=AR i;have h0:=hH [];rw[hF0]at h0;have h1:=hH [k];rw[hFk]at h1;have hN:=DM ts[i] (hts _ (De hi));have hLs:l0++(ts.take (i+1)).map Af=l0++(ts.take i).map Af++[Af ts[i]]:=by rw[F5 hi,List.map_append,<-List.append_assoc];rfl
  have hLl:(l0++(ts.take i).map Af).length<=1000000:=by simp;omega
  have next:=ih (i+1)
  rw[hLs,<-Nat.add_assoc]at next
  generalize l0++(ts.take i).map Af=L at *;generalize v0+i=v at *;have hH':∀(p:Nm)(H2:Hp),p≠[]->p≠[k]->H2 (0::p)=H (0::p)->H2 (0::p)=(F (v+1) (L++[Af ts[i]])).F 0 p:=fun p H2 p1 p2 he=>by rw[he,hH,hFo _ _ _ _ p p1 p2]
  refine Ad Ai HI.eq_1 ?_;rcases hoff with rfl|rfl;all_goals
   simp at h0 h1;simp[hi,Aa,h0];refine Ag hN (by simp[Aa]) ?_;simp[Aa,h0,h1,show ¬k=0 by omega,show ¬0=k from oF,Afx,yW,ew];refine⟨oF,oF,?_⟩;refine next _ oF (fun p=>?_)
   by_cases p1:p=[]
   ·subst p1;rw[hF0];simp[Aa,show ¬k=0 by omega,show ¬0=k from oF]
   ·by_cases p2:p=[k]
    ·subst p2;rw[hFk];simp[Aa,show ¬k=0 by omega,show ¬0=k from oF]
    ·exact hH' p _ p1 p2 (by simp[Aa,p1,p2,Ne.symm p1,Ne.symm p2])
def GN(R:UD)(k:Nat)(v:Nat)(l:List T):UD:=fun q=>if q=k then some (v,l)else R q
theorem YE{R:UD}{k v:Nat}{l:List T}(h:R k=some (v,l)):GN R k v l=R:=by
 funext q;unfold GN;split
 ·rename_i e;rw[e,h]
 ·rfl
theorem kJ(its:List WI)(vo k v:Nat)(l:List T)(b:Option (Nat × Nat × List T))(R:UD)(hR:R k=some (v,l))(hk:1<=k)(hb:∀x,b=some x->x.1≠k){ts:List T}(hts:∀t,t∈ts->AE t)(hl:l.length+ts.length<=1000000) :
  SpecF Tryz.prog 116 (fun r=>[.pob [r] 1 1,B7 ts]) (Vz its vo (some (k,v,l)) b R) (fun _=>.tup []) (Vz its vo (some (k,v+ts.length,l++ts.map Af)) b (GN R k (v+ts.length) (l++ts.map Af))):=by
 refine Ao Pv iS (Ab Aq (Ab Bc Ah)) (Ay Ah) fun w0 I0 M0 m0=>?_;unfold Lv;simp;refine LoopC.le (Ar [(0,.pob [0] 1 1),(6,B7 ts),(7,iv ts.length),(8,iv (0:Nat))] iS) ?_;refine mN (its:=its) (vo:=vo) (off:=1) (k:=k) (g:=none) (b:=b) (R:=R) (ts:=ts) (l0:=l) (v0:=v) hts hl hk (fun v l=>Vz its vo (some (k,v,l)) b (GN R k v l)) (fun v l=>by simp[OL]) (.inl rfl) (fun v l=>by simp[oL,GN,show ¬k=0 from oF]) (fun v l v' l' p p1 p2=>?_) (fun H st hH=>?_) ts.length 0 _ oF (fun p=>?_)
 ·rw[nP,nP,if_neg p1,if_neg p1];split
  ·rfl
  ·match p with
   |[]=>rfl
   |[q]=>simp[GN,show ¬q=k from fun e=>p2 (by rw[e])]
   |_::_::_=>rfl
 ·simp;exact AQ rfl rfl hH
 ·simp only[List.take_zero,List.map_nil,List.append_nil,Nat.add_zero];rw[YE hR];simp
theorem jq(its:List WI)(vo k v:Nat)(l:List T)(g:Option (Nat × Nat × List T))(R:UD)(hR:R k=some (v,l))(hk:1<=k){ts:List T}(hts:∀t,t∈ts->AE t)(hl:l.length+ts.length<=1000000) :
  SpecF Tryz.prog 116 (fun r=>[.pob [r] 1 2,B7 ts]) (Vz its vo g (some (k,v,l)) R) (fun _=>.tup []) (Vz its vo g (some (k,v+ts.length,l++ts.map Af)) (GN R k (v+ts.length) (l++ts.map Af))):=by
 refine Ao Pv iS (Ab Aq (Ab Bc Ah)) (Ay Ah) fun w0 I0 M0 m0=>?_;unfold Lv;simp;refine LoopC.le (Ar [(0,.pob [0] 1 2),(6,B7 ts),(7,iv ts.length),(8,iv (0:Nat))] iS) ?_;refine mN (its:=its) (vo:=vo) (off:=2) (k:=k) (g:=g) (b:=none) (R:=R) (ts:=ts) (l0:=l) (v0:=v) hts hl hk (fun v l=>Vz its vo g (some (k,v,l)) (GN R k v l)) (fun v l=>by simp[OL]) (.inr rfl) (fun v l=>by simp[oL,GN,show ¬k=0 from oF]) (fun v l v' l' p p1 p2=>?_) (fun H st hH=>?_) ts.length 0 _ oF (fun p=>?_)
 ·rw[nP,nP,if_neg p1,if_neg p1];split
  ·rfl
  ·match p with
   |[]=>rfl
   |[q]=>simp[GN,show ¬q=k from fun e=>p2 (by rw[e])]
   |_::_::_=>rfl
 ·simp;exact AQ rfl rfl hH
 ·simp only[List.take_zero,List.map_nil,List.append_nil,Nat.add_zero];rw[YE hR];simp
theorem fP(l:List WI)(r:Nat)(x:A):(l.map (Tu r)++[x])[l.length]? = some x:=by rw[List.getElem?_append_right iS];simp
theorem zc(l:List WI)(r:Nat):List.take l.length (l.map (Tu r))=l.map (Tu r):=AO iS
theorem Od(l:List WI)(r:Nat)(x:A):List.take (l.length+1) (l.map (Tu r)++[x])=l.map (Tu r)++[x]:=AO iS
theorem Ry:∀g,(FL g).length<=1
 |(a,b,c)=>by
  by_cases h:c=[]<;>simp[FL,h]
theorem Mp:∀g,(BX g).length<=1
 |(a,b,c)=>by
  by_cases h:c=[]<;>simp[BX,h]
theorem je(its i0:List WI)(vo:Nat)(m n:Int)(g b:Nat × Nat × List T)(R:UD)(hl:its.length<=1000000)(hg:R g.1=some (g.2.1,g.2.2))(hb:R b.1=some (b.2.1,b.2.2))(hg0:1<=g.1)(hb0:1<=b.1)(hi:its++(FL g++BX b)=i0++[.keep m]):SpecF Tryz.prog 115 (fun r=>[zQ r,iv n]) (Vz its vo (some g) (some b) R) (fun _=>.tup []) (Vz (i0++[.keep (i64.wrap (m+n))]) (vo+(FL g++BX b).length) none none R):=by
 have F1:=JR its vo g b R hl hg hb hg0 hb0;rw[hi]at F1;have hlen:i0.length<=1000002:=by
  have e:=congrArg List.length hi;have:=Ry g;have:=Mp b;simp at e;omega
 generalize vo+(FL g++BX b).length=v at *;have e1:i64.wrap (i0.length:Int)=i0.length:=Ga;refine Ao Jh iS (Ab Aq (Ab Az Ah)) (Ay Ah) fun w0 I0 M0 m0=>?_;unfold Gb;simp;refine Ap 0 F1 (fun p=>iS) iS iS ?_;simp[e1,fP,Tu,Xh];refine⟨oF,rfl,?_⟩;refine An rfl rfl (fun p=>?_);by_cases p1:p=[]
 ·subst p1;simp[Aa,OL]
 ·by_cases p2:p=[0]
  ·subst p2;simp[Aa,Tu,Xh,Be,A.remake,Od]
  ·simp[p1,p2,Aa]
theorem iJ(its:List WI)(vo:Nat)(n:Int)(g b:Nat × Nat × List T)(R:UD)(hl:its.length<=1000000)(hg:R g.1=some (g.2.1,g.2.2))(hb:R b.1=some (b.2.1,b.2.2))(hg0:1<=g.1)(hb0:1<=b.1)(hi:its++(FL g++BX b)=[]\/∃i0 x,its++(FL g++BX b)=i0++[x]/\x.op.kind≠0):SpecF Tryz.prog 115 (fun r=>[zQ r,iv n]) (Vz its vo (some g) (some b) R) (fun _=>.tup []) (Vz (its++(FL g++BX b)++[.keep n]) (vo+(FL g++BX b).length+1) none none R):=by
 have F1:=JR its vo g b R hl hg hb hg0 hb0;have hlen:(its++(FL g++BX b)).length<=1000002:=by
  have:=Ry g;have:=Mp b;simp;omega
 generalize vo+(FL g++BX b).length=v at *;generalize its++(FL g++BX b)=J at *;refine Ao Jh iS (Ab Aq (Ab Az Ah)) (Ay Ah) fun w0 I0 M0 m0=>?_;unfold Gb;simp;refine Ap 0 F1 (fun p=>iS) iS iS ?_;rcases hi with rfl|⟨i0,x,rfl,hx⟩
 ·simp[Aa,show i64.wrap (-1)=-1 from rfl];refine AQ rfl rfl (fun p=>?_);by_cases p1:p=[]
  ·subst p1;simp[Aa,OL]
  ·by_cases p2:p=[0]
   ·subst p2;simp[Aa,Tu,Xh,Be,A.remake,Od]
   ·simp[p1,p2,Aa]
 ·simp at hlen;have e1:i64.wrap (i0.length:Int)=i0.length:=Ga;cases x with
  |keep m=>exact absurd rfl hx
  |del a b c=>
   simp[e1,fP,Tu,Xh,Aa];refine⟨oF,oF,⟨oF,oF⟩,?_⟩;refine AQ rfl rfl (fun p=>?_);by_cases p1:p=[]
   ·subst p1;simp[Aa,OL]
   ·by_cases p2:p=[0]
    ·subst p2;simp[Aa,Tu,Xh,Be,A.remake,Od]
    ·simp[p1,p2,Aa]
  |ins a b c=>
   simp[e1,fP,Tu,Xh,Aa];refine⟨oF,oF,⟨oF,oF⟩,?_⟩;refine AQ rfl rfl (fun p=>?_);by_cases p1:p=[]
   ·subst p1;simp[Aa,OL]
   ·by_cases p2:p=[0]
    ·subst p2;simp[Aa,Tu,Xh,Be,A.remake,Od]
    ·simp[p1,p2,Aa]
  |desc e=>
   simp[e1,fP,Tu,Xh,Aa];refine⟨oF,oF,⟨oF,oF⟩,?_⟩;refine AQ rfl rfl (fun p=>?_);by_cases p1:p=[]
   ·subst p1;simp[Aa,OL]
   ·by_cases p2:p=[0]
    ·subst p2;simp[Aa,Tu,Xh,Be,A.remake,Od]
    ·simp[p1,p2,Aa]
def WI.row:WI->Option (Nat × Nat × List T)
 |.del k v l=>some (k,v,l)
 |.ins k v l=>some (k,v,l)
 |_=>none
def ItR(R:UD)(its:List WI):Prop:=∀x,x∈its->∀k v l,x.row=some (k,v,l)->R k=some (v,l)/\1<=k
theorem Aav{c:Cx}{s:Nat->A}{H:Hp}{its:List WI}{v K:Nat}{R:UD}(hH:∀p,H (0::p)=(Vz its v none none R).F 0 p)(hK:∀q,K<=q->R q=none)(hK1:1<=K):∃H',Le c ⟨s,H⟩ ⟨s,H'⟩/\(∀p,H' (0::p)=(Vz its v (some (K,1,[])) (some (K+1,1,[])) (GN (GN R K 1 []) (K+1) 1 [])).F 0 p):=by
 have h0:=hH [];simp[OL]at h0;have hK0:H [0,K]=⟨0,.none⟩:=by rw[hH];simp[show ¬K=0 from oF,hK K (CX _),oL]
 have hK2:H [0,K+1]=⟨0,.none⟩:=by rw[hH];simp[hK (K+1) oF,oL]
 have l1:=BO (c:=c) (s:=s) (H:=H) (d:=[0]) (u:=1) (cs:=[.osl [0,0] v 14 0 its.length,.sl true [],.sl true []]) 1 [0,K] 3 h0 rfl iS;refine⟨_,l1.trans (BO (d:=[0]) (u:=1) (cs:=[.osl [0,0] v 14 0 its.length,.osl [0,K] 1 3 0 0,.sl true []]) 2 [0,K+1] 3 (by simp[Aa,hK0]) rfl iS),fun p=>?_⟩;by_cases p1:p=[]
 ·subst p1;simp[Aa,OL,hK0,hK2]
 ·by_cases p2:p=[0]
  ·subst p2;simp[Aa,hH,show ¬0=K from oF]
  ·match p,p1,p2 with
   |[q],p1,p2=>
    have hq0:¬q=0:=fun e=>p2 (by rw[e]);by_cases e1:q=K
    ·subst e1;simp[Aa,GN,oL,hK0,hq0]
    ·by_cases e2:q=K+1
     ·subst e2;simp[Aa,GN,oL,hK2]
     ·simp[Aa,GN,hH,e1,e2,hq0]
   |_::_::_,p1,p2=>simp[Aa,hH,Ts]
theorem AbB{H:Hp}{R:UD}{its:List WI}{v:Nat}{g b:Option (Nat × Nat × List T)}(hH:∀p,H (0::p)=(Vz its v g b R).F 0 p)(x:WI)(hx:∀k v l,x.row=some (k,v,l)->R k=some (v,l)/\1<=k):HF H (Xh 0 x) (oA x.op).cells:=by
 have key:∀k v' l,x.row=some (k,v',l)->Jl H (.osl [0,k] v' 3 0 l.length) (B7 l):=fun k v' l h=>by
  obtain⟨h1,h2⟩:=hx k v' l h;have:=hH [k];simp[show ¬k=0 from oF,h1,oL]at this;exact CI (f:=tA) (by rw[this];simp) rfl iS
 have hraw:HF H Be (eL E0):=⟨Ae rfl,Ae rfl,Am,Am,Ae rfl,Am,Am,Am,Am,Ae rfl,Am,trivial⟩;rw[oA_eq];cases x with
 |keep n=>exact⟨Ae rfl,Ae rfl,Am,hraw⟩
 |del k v' l=>exact⟨Ae rfl,Ae rfl,key k v' l rfl,hraw⟩
 |ins k v' l=>exact⟨Ae rfl,Ae rfl,key k v' l rfl,hraw⟩
 |desc e=>exact⟨Ae rfl,Ae rfl,Am,Ae rfl,Ae rfl,Ae rfl,Ae rfl,Ae rfl,Ae rfl,Ae rfl,Ae rfl,Ae rfl,Ae rfl,Ae rfl,trivial⟩
theorem RT{H:Hp}:∀{a b a' b':List A},HF H a a'->HF H b b'->a.length=a'.length->HF H (a++b) (a'++b')
 |[],b,[],b',_,h,_=>h
 |x::a,b,y::a',b',h1,h,hl=>⟨h1.1,RT h1.2 h (by simpa using hl)⟩
 |[],b,y::a',b',_,_,hl=>by simp at hl
 |x::a,b,[],b',_,_,hl=>by simp at hl
theorem yC{H:Hp}{R:UD}{its:List WI}{v:Nat}{g b:Option (Nat × Nat × List T)}(hH:∀p,H (0::p)=(Vz its v g b R).F 0 p)(hx:ItR R its):Jl H (.osl [0,0] v 14 0 its.length) (Jo (its.map WI.op)):=by
 have h1:=hH [0];simp at h1;refine NV (o:=[0,0]) (u:=v) (off:=0) (len:=its.length) (sz:=14) (xs:=its.map (Tu 0)) (ys:=(its.map WI.op).map oA) (by rw[KF,h1];simp) iS iS (fun y hy=>by
  obtain⟨x,_,rfl⟩:=List.mem_map.1 hy;simp) ?_ ?_
 ·have:∀l:List OP,A.ones ((l.map oA).flatMap A.cells)=true:=fun l=>by
   induction l with
   |nil=>rfl
   |cons x l ih=>simp[A.ones]at ih ⊢
  exact this _
 ·rw[List.drop_zero,AO iS,List.map_map];have:∀l:List WI,(∀x,x∈l->x∈its)->HF H ((l.map (Tu 0)).flatMap A.cells) ((l.map (oA ∘ WI.op)).flatMap A.cells):=fun l hl=>by
   induction l with
   |nil=>trivial
   |cons x l ih=>
    simp only[List.map_cons,List.flatMap_cons];exact RT (AbB hH x fun k v l h=>hx x (hl x iS) k v l h) (ih fun y hy=>hl y (by simp[hy])) iS
  exact this its fun x h=>h
theorem pD(list:Int)(e:E)(h1:e.words.length<=100000000000000)(h2:e.kids.length<=100000000000000):G.Spec Tryz.prog 117 [iv list,eX e] (bv (Hb list e)):=by
 have e1:i64.wrap ((e.words.length:Int)+e.kids.length)=((e.words.length+e.kids.length:Nat):Int):=Bv;refine Ak XM iS fun w0 I0=>?_;unfold PB;by_cases k0:e.kind=0
 ·simp[k0,Hb];exact Ae rfl
 ·by_cases k9:list=9
  ·by_cases k2:e.kind=2
   ·simp[k0,k9,k2,Hb,e1];refine BA ?_;rw[Bool.eq_iff_iff];simp only[decide_eq_true_eq,Bool.and_eq_true,List.isEmpty_iff];constructor
    ·intro h;exact⟨List.eq_nil_of_length_eq_zero oF,List.eq_nil_of_length_eq_zero oF⟩
    ·rintro⟨h1,h2⟩;rw[h1,h2];rfl
   ·simp[k0,k9,k2,Hb];exact Ae rfl
  ·simp[k0,k9,Hb];exact Ae rfl
theorem U5(its:List WI)(g b:Nat × Nat × List T):(its++(FL g++BX b)).map WI.op=Ji (its.map WI.op) g.2.2 b.2.2:=by
 obtain⟨a,c,l⟩:=g;obtain⟨a',c',l'⟩:=b;by_cases h1:l=[]<;>by_cases h2:l'=[]<;>simp[FL,BX,Ji,DX,Cm,h1,h2,WI.op]
theorem zE(J:List WI):(∃i0 m,J=i0++[.keep m])\/(J=[]\/∃i0 x,J=i0++[x]/\x.op.kind≠0):=by
 rcases List.eq_nil_or_concat J with h|⟨i0,x,h⟩
 ·exact .inr (.inl h)
 ·rw[List.concat_eq_append]at h;cases x with
  |keep m=>exact .inl ⟨i0,m,h⟩
  |del a b c=>exact .inr (.inr ⟨i0,.del a b c,h,by simp[WI.op]⟩)
  |ins a b c=>exact .inr (.inr ⟨i0,.ins a b c,h,by simp[WI.op]⟩)
  |desc e=>exact .inr (.inr ⟨i0,.desc e,h,by simp[WI.op]⟩)
theorem wG(l:List OP)(m n:Int)(t:List T)(e:E):Ni (l++[.mk 0 m t e]) n=l++[.mk 0 (i64.wrap (m+n)) t e]:=by simp[Ni]
theorem xK(n:Int):Ni [] n=[.mk 0 n [] E0]:=rfl
theorem te(l:List OP)(x:OP)(n:Int)(h:x.kind≠0):Ni (l++[x]) n=l++[x]++[.mk 0 n [] E0]:=by
 obtain⟨k,m,t,e⟩:=x;unfold Ni;rw[List.getLast?_append];simp only[List.getLast?_singleton,Option.some_or];split
 ·rename_i h2;injection h2 with h2;injection h2 with h2;exact absurd h2 h
 ·rfl
structure WrI(its:List WI)(g b:Nat × Nat × List T)(R:UD)(K:Nat):Prop where
 g1:1<=g.1
 b1:1<=b.1
 gb:g.1≠b.1
 gK:g.1<K
 bK:b.1<K
 Rg:R g.1=some (g.2.1,g.2.2)
 Rb:R b.1=some (b.2.1,b.2.2)
 rK:∀q,K<=q->R q=none
 it:ItR R its
 ng:∀x,x∈its->∀k v l,x.row=some (k,v,l)->k≠g.1/\k≠b.1
theorem WrI.flushed{its:List WI}{g b:Nat × Nat × List T}{R:UD}{K:Nat}(h:WrI its g b R K):ItR R (its++(FL g++BX b)):=by
 intro x hx k v l hr;rcases List.mem_append.1 hx with hx|hx
 ·exact h.it x hx k v l hr
 ·rcases List.mem_append.1 hx with hx|hx
  ·obtain⟨a,c,d⟩:=g;by_cases e:d=[]<;>simp[FL,e]at hx
   subst hx;simp[WI.row]at hr;obtain⟨rfl,rfl,rfl⟩:=hr;exact⟨h.Rg,h.g1⟩
  ·obtain⟨a,c,d⟩:=b;by_cases e:d=[]<;>simp[BX,e]at hx
   subst hx;simp[WI.row]at hr;obtain⟨rfl,rfl,rfl⟩:=hr;exact⟨h.Rb,h.b1⟩
theorem ez{its:List WI}{g b:Nat × Nat × List T}{R:UD}{K:Nat}(h:WrI its g b R K)(hl:its.length<=1000000)(vo:Nat)(n:Int):∃its2 v2,SpecF Tryz.prog 115 (fun r=>[zQ r,iv n]) (Vz its vo (some g) (some b) R) (fun _=>.tup []) (Vz its2 v2 none none R)/\its2.map WI.op=Ni (Ji (its.map WI.op) g.2.2 b.2.2) n/\its2.length<=its.length+3/\ItR R its2:=by
 have hF:=h.flushed;have d1:=Ry g;have d2:=Mp b;rcases zE (its++(FL g++BX b))with ⟨i0,m,hi⟩|hi
 ·have hlen:=congrArg List.length hi;simp at hlen;refine⟨_,_,je its i0 vo m n g b R hl h.Rg h.Rb h.g1 h.b1 hi,?_,?_,?_⟩
  ·rw[<-U5,hi];simp[WI.op,wG]
  ·simp;omega
  ·rw[hi]at hF;intro x hx k v l hr;rcases List.mem_append.1 hx with hx|hx
   ·exact hF x (by simp[hx]) k v l hr
   ·simp at hx;subst hx;simp[WI.row]at hr
 ·refine⟨_,_,iJ its vo n g b R hl h.Rg h.Rb h.g1 h.b1 hi,?_,?_,?_⟩
  ·rw[<-U5];rcases hi with hi|⟨i0,x,hi,hx⟩
   ·rw[hi];simp[xK,WI.op]
   ·rw[hi];simp only[List.map_append,List.map_cons,List.map_nil];rw[te _ _ _ hx];simp[WI.op]
  ·simp;omega
  ·intro x hx k v l hr;rcases List.mem_append.1 hx with hx|hx
   ·exact hF x hx k v l hr
   ·simp at hx;subst hx;simp[WI.row]at hr
structure OpG(o:OP):Prop where
 k:o.kind=0\/o.kind=1\/o.kind=2\/o.kind=3
 l:∀t,t∈o.l->AE t
 e:o.kind=3->G.Spec Tryz.prog 43 [eX o.e] (eX (Hn o.e))/\(Hn o.e).words.length<=100000000000000/\(Hn o.e).kids.length<=100000000000000
def DI(os:List OP):Nat:=(os.map fun o=>o.l.length).sum
theorem SC(o:OP)(os:List OP):DI (o::os)=o.l.length+DI os:=by simp[DI]
theorem Abh{list:Int}{os:List OP}(hos:∀o,o∈os->OpG o)(hol:os.length<=300000){res:List OP}
  (hq:∀(H:Hp)(its:List WI)(v:Nat)(g b:Nat × Nat × List T)(R:UD)(K:Nat) st,(∀p,H (0::p)=(Vz its v (some g) (some b) R).F 0 p)->WrI its g b R K->Ji (its.map WI.op) g.2.2 b.2.2=res->its.length<=1000000->Q (.exit 0) ⟨lk ([(0,iv list),(5,zQ 0)]++st),H⟩):∀(m i:Nat)(its:List WI)(v:Nat)(g b:Nat × Nat × List T)(R:UD)(K:Nat)(H:Hp),i+m=os.length->its.length<=3*i->g.2.2.length+b.2.2.length+DI (os.drop i)<=1000000->WrI its g b R K->(∀p,H (0::p)=(Vz its v (some g) (some b) R).F 0 p)->Dw list ((os.drop i).map IY) (its.map WI.op) g.2.2 b.2.2=res ->
  LoopC (cx Tryz.prog w0 I0 n0) GA Q ⟨lk [(0,iv list),(5,zQ 0),(11,Jo os),(12,iv os.length),(13,iv i)],H⟩:=by
 intro m;induction m with
 |zero=>
  intro i its v g b R K H hm hil hsum hW hH hres;refine Ad Ai GA.eq_1 ?_;have:i=os.length:=oF
  subst this;rw[List.drop_length,List.map_nil,Dw]at hres;simp;exact hq H its v g b R K [(11,Jo os),(12,iv os.length),(13,iv os.length),(14,bv false)] hH hW hres oF
 |succ m ih=>
  intro i its v g b R K H hm hil hsum hW hH hres;have hi:i<os.length:=oF
  have ew:=AR i;have hd:os.drop i=os[i]::os.drop (i+1):=(List.getElem_cons_drop hi).symm;have hO:=hos _ (De hi);rw[hd,List.map_cons,Dw]at hres;rw[hd,SC]at hsum;have hoi:(os.map oA)[i]? = some (oX os[i]):=by simp[hi]
  generalize ho:os[i]=o at *;have hnk:(IY o).kind=o.kind:=rfl;have hnn:(IY o).n=o.n:=rfl;have hnl:(IY o).l=o.l:=rfl;have hne:(IY o).e=Hn o.e:=rfl;rw[hnk,hnn,hnl,hne]at hres
  -- what goes on when all is laid
  have next:∀(its2:List WI)(v2:Nat)(H2:Hp),its2.length<=its.length+3->(∀p,H2 (0::p)=(Vz its2 v2 none none R).F 0 p)->ItR R its2->Dw list ((os.drop (i+1)).map IY) (its2.map WI.op) [] []=res->LoopC (cx Tryz.prog w0 I0 n0) GA Q ⟨lk [(0,iv list),(5,zQ 0),(11,Jo os),(12,iv os.length),(13,iv (i+1:Nat))],H2⟩:=fun its2 v2 H2 h1 h2 h3 h4=>by
   obtain⟨H3,hle,hF⟩:=Aav (c:=cx Tryz.prog w0 I0 n0) (s:=lk [(0,iv list),(5,zQ 0),(11,Jo os),(12,iv os.length),(13,iv (i+1:Nat))]) h2 hW.rK (by have:=hW.gK;omega);refine LoopC.le hle ?_;refine ih (i+1) its2 v2 (K,1,[]) (K+1,1,[]) _ (K+2) H3 oF oF (by simp;omega) ?_ hF h4;have hg:=hW.g1;have hgK:=hW.gK;refine⟨by simp;omega,iS,iS,iS,iS,by simp[GN],by simp[GN],fun q hq=>?_,fun x hx k v' l hr=>?_,fun x hx k v' l hr=>?_⟩
   ·simp[GN,show ¬q=K+1 by omega,show ¬q=K from oF];exact hW.rK q oF
   ·obtain⟨a1,a2⟩:=h3 x hx k v' l hr;have hkK:k<K:=by
     by_cases e:K<=k
     ·rw[hW.rK k e]at a1;cases a1
     ·omega
    exact⟨by simp[GN,show ¬k=K+1 by omega,show ¬k=K from oF,a1],a2⟩
   ·obtain⟨a1,a2⟩:=h3 x hx k v' l hr;have hkK:k<K:=by
     by_cases e:K<=k
     ·rw[hW.rK k e]at a1;cases a1
     ·omega
    exact⟨by simp;omega,by simp;omega⟩
  refine Ad Ai GA.eq_1 ?_;rcases hO.k with h0|h0|h0|h0
  ·rw[if_pos h0]at hres;obtain⟨its2,v2,S1,S2,S3,S4⟩:=ez hW oF v o.n;rw[<-S2]at hres;simp[hi,ho,h0,Aa];refine Ap 0 S1 (fun p=>by simp[Aa,hH]) iS iS ?_;simp[ew];exact next its2 v2 _ S3 (fun p=>iS) S4 hres
  ·rw[if_neg oF,if_pos h0]at hres;have hF:=kJ its v g.1 g.2.1 g.2.2 (some b) R hW.Rg hW.g1 (fun x hx=>by cases hx;exact Ne.symm hW.gb) hO.l oF;simp[hi,ho,h0,Aa];refine Ap 0 hF (fun p=>by simp[Aa,hH]) iS iS ?_;simp[ew];refine ih (i+1) its v (g.1,g.2.1+o.l.length,g.2.2++o.l.map Af) b (GN R g.1 (g.2.1+o.l.length) (g.2.2++o.l.map Af)) K _ oF oF (by simp;omega) ?_ (fun p=>iS) hres;have w1:=hW.g1;have w2:=hW.gK;refine⟨hW.g1,hW.b1,hW.gb,hW.gK,hW.bK,by simp[GN],?_,fun q hq=>?_,fun x hx k v' l hr=>?_,fun x hx k v' l hr=>hW.ng x hx k v' l hr⟩
   ·simp only[GN,if_neg (Ne.symm hW.gb)];exact hW.Rb
   ·simp only[GN,if_neg (show ¬q=g.1 from oF)];exact hW.rK q hq
   ·obtain⟨a1,a2⟩:=hW.it x hx k v' l hr;exact⟨by simp only[GN,if_neg (hW.ng x hx k v' l hr).1];exact a1,a2⟩
  ·rw[if_neg oF,if_neg oF,if_pos h0]at hres;have hF:=jq its v b.1 b.2.1 b.2.2 (some g) R hW.Rb hW.b1 hO.l oF;simp[hi,ho,h0,Aa];refine Ap 0 hF (fun p=>by simp[Aa,hH]) iS iS ?_;simp[ew];refine ih (i+1) its v g (b.1,b.2.1+o.l.length,b.2.2++o.l.map Af) (GN R b.1 (b.2.1+o.l.length) (b.2.2++o.l.map Af)) K _ oF oF (by simp;omega) ?_ (fun p=>iS) hres;have w2:=hW.bK;refine⟨hW.g1,hW.b1,hW.gb,hW.gK,hW.bK,?_,by simp[GN],fun q hq=>?_,fun x hx k v' l hr=>?_,fun x hx k v' l hr=>hW.ng x hx k v' l hr⟩
   ·simp only[GN,if_neg hW.gb];exact hW.Rg
   ·simp only[GN,if_neg (show ¬q=b.1 from oF)];exact hW.rK q hq
   ·obtain⟨a1,a2⟩:=hW.it x hx k v' l hr;exact⟨by simp only[GN,if_neg (hW.ng x hx k v' l hr).2];exact a1,a2⟩
  ·rw[if_neg oF,if_neg oF,if_neg oF]at hres;obtain⟨E1,E2,E3⟩:=hO.e h0;have hI:=pD list (Hn o.e) E2 E3;simp[hi,ho,h0,Aa];refine Ag E1 iS ?_;simp[Aa];refine Ag hI iS ?_;cases hid:Hb list (Hn o.e) with
   |true=>
    rw[if_pos hid]at hres;obtain⟨its2,v2,S1,S2,S3,S4⟩:=ez hW oF v 1;rw[<-S2]at hres;simp;refine Ap 0 S1 (fun p=>by simp[Aa,hH]) iS iS ?_;simp[ew];exact next its2 v2 _ S3 (fun p=>iS) S4 hres
   |false=>
    rw[if_neg (by rw[hid];decide),<-U5]at hres;have F1:=JR its v g b R oF hW.Rg hW.Rb hW.g1 hW.b1;have d1:=Ry g;have d2:=Mp b;simp;refine Ap 0 F1 (fun p=>by simp[Aa,hH]) iS iS ?_;have hJl:(its++(FL g++BX b)).length<=its.length+2:=by simp;omega
    have hJr:=hW.flushed;have next':=next (its++(FL g++BX b)++[.desc (Hn o.e)]) (v+(FL g++BX b).length+1)
    generalize its++(FL g++BX b)=J at *;generalize v+(FL g++BX b).length=v1 at *;simp[Aa,UG,zc,fP,ew];refine⟨oF,oF,?_⟩;refine next' _ (by simp;omega) (fun p=>?_) (fun x hx k v' l hr=>?_) ?_
    ·by_cases p1:p=[]
     ·subst p1;simp[Aa,OL]
     ·by_cases p2:p=[0]
      ·subst p2;simp[Aa,Tu,Xh]
      ·simp[p1,p2,Aa]
    ·rcases List.mem_append.1 hx with hx|hx
     ·exact hJr x hx k v' l hr
     ·simp at hx;subst hx;simp[WI.row]at hr
    ·simpa[WI.op]using hres
theorem ig{list:Int}{os:List OP}(hos:∀o,o∈os->OpG o)(hol:os.length<=300000)(hsum:DI os<=1000000):G.Spec Tryz.prog 72 [iv list,Jo os] (Jo (Dw list (os.map IY) [] [] [])):=by
 refine Ak bM iS fun w0 I0=>?_;unfold R7;simp;refine LoopC.le (BO (d:=[0]) (u:=1) (cs:=[.sl true [],.sl true [],.sl true []]) 0 [0,0] 14 rfl rfl iS) ?_;obtain⟨H3,hle,hF⟩:=Aav (c:=cx Tryz.prog w0 I0 72) (s:=lk [(0,iv list),(5,zQ 0),(11,Jo os),(12,iv os.length),(13,iv (0:Nat))]) (H:=AK (AK (Gz [([0],⟨1,.cells [.sl true [],.sl true [],.sl true []]⟩)]) [0,0] ⟨1,.arr 14 []⟩) [0] ⟨1,.cells [.osl [0,0] 1 14 0 0,.sl true [],.sl true []]⟩) (its:=[]) (v:=1) (K:=1) (R:=fun _=>none) (fun p=>by
  by_cases p1:p=[]
  ·subst p1;simp[Aa,OL]
  ·by_cases p2:p=[0]
   ·subst p2;simp[Aa]
   ·match p,p1,p2 with
    |[q],p1,p2=>
     have hq0:¬q=0:=fun e=>p2 (by rw[e]);simp[Aa,oL,hq0,Ne.symm hq0]
    |_::_::_,p1,p2=>simp[Aa,Ts]) (fun q _=>rfl) oF
 refine LoopC.le hle ?_;refine Abh hos hol (res:=Dw list (os.map IY) [] [] []) (fun H its v g b R K st hH hW hres hil=>?_) os.length 0 [] 1 (1,1,[]) (1+1,1,[]) _ 3 H3 oF iS (by simpa using hsum) ?_ hF iS
 ·have F1:=JR its v g b R hil hW.Rg hW.Rb hW.g1 hW.b1;have hJr:=hW.flushed;have hm:=U5 its g b;rw[hres]at hm;simp;refine Ap 0 F1 hH iS iS ?_;simp;rw[<-hm];have:=yC (H:=ov 0 ((Vz (its++(FL g++BX b)) (v+(FL g++BX b).length) none none R).F 0) H) (its:=its++(FL g++BX b)) (v:=v+(FL g++BX b).length) (g:=none) (b:=none) (R:=R) (fun p=>iS) hJr;simpa using this
 ·refine⟨iS,iS,iS,iS,iS,by simp[GN],by simp[GN],fun q hq=>?_,fun x hx=>by simp at hx,fun x hx=>by simp at hx⟩;simp[GN,show ¬q=1 by omega,show ¬q=2 from oF]
mutual
def Mg:E->Prop
 |.mk k o n ws ks l os=>(k=0\/k=1\/k=2\/k=3)/\(k≠3->l=0)/\(k=1->AE o/\AE n)/\ws.length<=1000000/\ks.length<=1000000/\os.length<=300000/\DI os<=1000000/\(k=2->jb ks)/\(k=3->jx os)
def jb:List KE->Prop
 |[]=>True
 |.mk a e::l=>Mg e/\jb l
def jx:List OP->Prop
 |[]=>True
 |.mk k n t e::l=>((k=0\/k=1\/k=2\/k=3)/\(∀x,x∈t->AE x)/\(k=3->Mg e))/\jx l
end
theorem NP:∀{l:List KE},jb l->∀x,x∈l->Mg x.e
 |[],_,x,hx=>by simp at hx
 |.mk a e::l,h,x,hx=>by
  rw[jb]at h;rcases List.mem_cons.1 hx with rfl|hx
  ·exact h.1
  ·exact NP h.2 x hx
theorem LD:∀{l:List OP},jx l->∀x,x∈l->(x.kind=0\/x.kind=1\/x.kind=2\/x.kind=3)/\(∀t,t∈x.l->AE t)/\(x.kind=3->Mg x.e)
 |[],_,x,hx=>by simp at hx
 |.mk k n t e::l,h,x,hx=>by
  rw[jx]at h;rcases List.mem_cons.1 hx with rfl|hx
  ·exact h.1
  ·exact LD h.2 x hx
theorem sv(e:E)(h:Mg e):(Hn e).words.length<=100000000000000/\(Hn e).kids.length<=100000000000000:=by
 obtain⟨k,o,n,ws,ks,l,os⟩:=e;rw[Mg]at h;rw[EA];split
 ·simp
 ·split
  ·simp;omega
  ·split<;>simp
theorem sI{ks:List KE}(hl:ks.length<=1000000)(hk:∀x,x∈ks->G.Spec Tryz.prog 43 [eX x.e] (eX (Hn x.e))){v1 v3:VOb}{W:A}
  (hq:∀H u st,H [1]=v1->H [3]=v3->H [2]=⟨1,.cells [iv 2,iv 0,.sl true [],.sl true [],iv 0,.sl true [],.sl true [],W,.osl [5] u 12 0 ks.length,iv 0,.sl true []]⟩->H [5]=⟨u,.arr 12 (ks.map (kA ∘ Xf))⟩->Q (.exit 1) ⟨lk ([(2,.pob [1] 1 0),(3,.pob [2] 1 0)]++st),H⟩):∀(m i u:Nat)(H:Hp),i+m=ks.length->H [1]=v1->H [3]=v3->H [2]=⟨1,.cells [iv 2,iv 0,.sl true [],.sl true [],iv 0,.sl true [],.sl true [],W,.osl [5] u 12 0 i,iv 0,.sl true []]⟩->H [5]=⟨u,.arr 12 ((ks.take i).map (kA ∘ Xf))⟩ ->
  LoopC (cx Tryz.prog w0 I0 n0) HK Q ⟨lk [(2,.pob [1] 1 0),(3,.pob [2] 1 0),(32,MD ks),(33,iv ks.length),(34,iv i)],H⟩:=by
 intro m;induction m with
 |zero=>
  intro i u H hm h1 h3 h2 h5;refine Ad Ai HK.eq_1 ?_;have:i=ks.length:=oF
  subst this;rw[AO (CX _)]at h5;simp;exact hq H u [(32,MD ks),(33,iv ks.length),(34,iv ks.length),(35,bv false)] h1 h3 h2 h5
 |succ m ih=>
  intro i u H hm h1 h3 h2 h5;have hi:i<ks.length:=oF
  have ew:=AR i;have hE:=hk _ (De hi);have htk:(ks.take (i+1)).map (kA ∘ Xf)=(ks.take i).map (kA ∘ Xf)++[kA (Xf ks[i])]:=by rw[F5 hi,List.map_append];rfl
  have next:=ih (i+1) (u+1)
  rw[htk]at next
  generalize hx:ks[i]=x at *;refine Ad Ai HK.eq_1 ?_;simp[hi,hx,Aa,h2];refine Ag hE (by simp[Aa]) ?_;simp[Aa,h2,h5,ew];refine⟨⟨oF,oF⟩,?_⟩;refine next _ oF (by simp[Aa,h1]) (by simp[Aa,h3]) (by simp[Aa]) ?_
  simp[Aa,List.take_take,Xf]
theorem Kn:∀e:E,Mg e->G.Spec Tryz.prog 43 [eX e] (eX (Hn e)):=by
 refine E.ind fun k o n ws ks l os ihk iho h=>?_;rw[Mg]at h;obtain⟨hk,hl,hon,hwl,hkl,hol,hsum,hks,hos⟩:=h;refine Ak XO iS fun w0 I0=>?_;unfold Px;rw[EA];rcases hk with rfl|rfl|rfl|rfl
 ·simp[hl dO];exact CF ⟨Ae rfl,Ae rfl,Am,Am,Ae rfl,Am,Am,Am,Am,Ae rfl,Am,trivial⟩
 ·obtain⟨ho,hn⟩:=hon rfl;simp[hl dO];refine Ag (DM o ho) iS ?_;simp[Aa];refine Ag (DM n hn) iS ?_;simp[Aa];exact CF ⟨Ae rfl,K5 (EC o).symm,Ae rfl,Ae rfl,K5 (EC n).symm,Ae rfl,Ae rfl,Am,Am,Ae rfl,Am,trivial⟩
 ·simp[hl dO];refine⟨oF,?_⟩;refine LoopC.le (BO (d:=[2]) (u:=1) (cs:=[iv 2,iv 0,.sl true [],.sl true [],iv 0,.sl true [],.sl true [],.osl [3] 1 4 0 ws.length,.sl true [],iv 0,.sl true []]) 8 [5] 12 rfl rfl iS) ?_;refine LoopC.le (Ar [(2,.pob [1] 1 0),(3,.pob [2] 1 0),(32,MD ks),(33,iv ks.length),(34,iv (0:Nat))] iS) ?_;refine sI hkl (fun x hx=>ihk x hx (NP (hks rfl) x hx)) (W:=.osl [3] 1 4 0 ws.length) (fun H u st h1 h3 h2 h5=>?_) ks.length 0 1 _ oF rfl rfl (by simp[Aa]) (by simp[Aa]);have h3':H [3]=⟨1,.arr 4 (ws.map wA)⟩:=by rw[h3];simp[Aa]
  simp[h2,h1,Aa];have fw:=CI (H:=AK H [1] ⟨1,.cells [iv 2,iv 0,.sl true [],.sl true [],iv 0,.sl true [],.sl true [],.osl [3] 1 4 0 ws.length,.osl [5] u 12 0 ks.length,iv 0,.sl true []]⟩) (o:=[3]) (u:=1) (sz:=4) (l:=ws) (f:=wA) (n:=ws.length) (by simp[Aa,h3']) rfl (fun x=>rfl);have fk:=CI (H:=AK H [1] ⟨1,.cells [iv 2,iv 0,.sl true [],.sl true [],iv 0,.sl true [],.sl true [],.osl [3] 1 4 0 ws.length,.osl [5] u 12 0 ks.length,iv 0,.sl true []]⟩) (o:=[5]) (u:=u) (sz:=12) (l:=ks) (f:=kA ∘ Xf) (n:=ks.length) (by simp[Aa,h5]) rfl (fun x=>iS);rw[<-List.map_map]at fk;exact CF ⟨Ae rfl,Ae rfl,Am,Am,Ae rfl,Am,Am,fw,fk,Ae rfl,Am,trivial⟩
 ·have hO:=ig (list:=l) (os:=os) (fun x hx=>by
   obtain⟨a,b,c⟩:=LD (hos rfl) x hx;exact⟨a,b,fun h=>⟨iho x hx (c h),sv _ (c h)⟩⟩) hol hsum
  simp;refine Ag hO (by simp[Aa]) ?_;simp[Aa];exact CF ⟨Ae rfl,Ae rfl,Am,Am,Ae rfl,Am,Am,Am,Am,Ae rfl,Am,trivial⟩
inductive RI where
 |keep (n:Int)
 |del (l:List T)
 |ins (l:List T)
 |desc (e:E)
def RI.op:RI->OP
 |.keep n=>.mk 0 n [] E0
 |.del l=>.mk 1 0 l E0
 |.ins l=>.mk 2 0 l E0
 |.desc e=>.mk 3 0 [] e
def riC:RI->List A
 |.keep n=>iv 0::iv n :: .sl true []::Be
 |.del l=>iv 1::iv 0::B7 l::Be
 |.ins l=>iv 2::iv 0::B7 l::Be
 |.desc e=>iv 3::iv 0 :: .sl true []::eL e
@[simp]theorem Aj2{x:RI}:(riC x).length=14:=by cases x<;>rfl
theorem AcU{H:Hp}(x:RI):HF H (riC x) (oA x.op).cells:=by
 have hraw:HF H Be (eL E0):=⟨Ae rfl,Ae rfl,Am,Am,Ae rfl,Am,Am,Am,Am,Ae rfl,Am,trivial⟩;rw[oA_eq];cases x with
 |keep n=>exact⟨Ae rfl,Ae rfl,Am,hraw⟩
 |del l=>exact⟨Ae rfl,Ae rfl,Ae rfl,hraw⟩
 |ins l=>exact⟨Ae rfl,Ae rfl,Ae rfl,hraw⟩
 |desc e=>exact⟨Ae rfl,Ae rfl,Am,Ae rfl,Ae rfl,Ae rfl,Ae rfl,Ae rfl,Ae rfl,Ae rfl,Ae rfl,Ae rfl,Ae rfl,Ae rfl,trivial⟩
inductive IT where
 |r (x:RI)
 |got (o:OP)
def IT.op:IT->OP
 |.r x=>x.op
 |.got o=>o
def uM:IT->List A
 |.r x=>riC x
 |.got o=>(oA o).cells
def Uu(x:IT):A:=.agg (uM x)
@[simp]theorem AdI{x:IT}:(Uu x).cells=uM x:=rfl
@[simp]theorem AiO{x:IT}:(uM x).length=14:=by
 cases x with
 |r x=>simp[uM]
 |got o=>simp[uM]
theorem FG{l:List IT}:EN 14 (l.map Uu)=true:=by rw[Jj];simp
theorem Adj{H:Hp}(x:IT):HF H (uM x) (oA x.op).cells:=by
 cases x with
 |r x=>exact AcU x
 |got o=>exact LO (by simp[uM])
theorem oC{H:Hp}{o:Nm}{u n:Nat}{its:List IT}(h1:H o=⟨u,.arr 14 (its.map Uu)⟩)(hn:n=its.length):Jl H (.osl o u 14 0 n) (Jo (its.map IT.op)):=by
 subst hn;refine NV (o:=o) (u:=u) (off:=0) (len:=its.length) (sz:=14) (xs:=its.map Uu) (ys:=(its.map IT.op).map oA) (by rw[KF,h1];simp) iS iS (fun y hy=>by
  obtain⟨x,_,rfl⟩:=List.mem_map.1 hy;simp) ?_ ?_
 ·have:∀l:List OP,A.ones ((l.map oA).flatMap A.cells)=true:=fun l=>by
   induction l with
   |nil=>rfl
   |cons x l ih=>simp[A.ones]at ih ⊢
  exact this _
 ·rw[List.drop_zero,AO iS,List.map_map];have:∀l:List IT,HF H ((l.map Uu).flatMap A.cells) ((l.map (oA ∘ IT.op)).flatMap A.cells):=fun l=>by
   induction l with
   |nil=>trivial
   |cons x l ih=>
    simp only[List.map_cons,List.flatMap_cons];exact RT (Adj x) ih iS
  exact this its
theorem dY{H:Hp}(k:Int)(l:List T):Jl H (.sl true [.agg (iv k::iv 0::B7 l::Be)]) (Jo [OP.mk k 0 l E0]):=by
 have h:=Oh (H:=H) (a:=.sl true [.agg (iv k::iv 0::B7 l::Be)]) (by simp[Be]);have e:(A.sl true [.agg (iv k::iv 0::B7 l::Be)]).soft=Jo [OP.mk k 0 l E0]:=by simp[A.soft,A.softL,Be,FZ]
 rw[e]at h;exact h
theorem V4(k:Int)(l:List T):G.Spec Tryz.prog 183 [iv k,B7 l] (Jo (if l=[]then []else [.mk k 0 l E0])):=by
 refine Ak eQ iS fun w0 I0=>?_;unfold Ud;by_cases h:l=[]
 ·simp[h];exact Am
 ·have:¬l.length=0:=by simpa using h
  simp[h,this];exact dY k l
theorem MQ(l:List T):G.Spec Tryz.prog 162 [B7 l] (Jo (DX l)):=by
 refine Ak XA iS fun w0 I0=>?_;unfold PC;simp;refine Ag (V4 1 l) iS ?_;simp;exact Ae iS
theorem MB(l:List T):G.Spec Tryz.prog 160 [B7 l] (Jo (Cm l)):=by
 refine Ak XF iS fun w0 I0=>?_;unfold PY;simp;refine Ag (V4 2 l) iS ?_;simp;exact Ae iS
theorem Ae8{a b:List T}(hb:∀t,t∈b->AE t)(hbl:b.length<=1000000){most:Int}{x:T}(hx:AE x){R:A}{N i w:Nat}{H0:Hp}
  (hq:∀(H':Hp)(v:Nat),H' [2]=⟨v,.arr 1 ((b.map fun y=>(G9 x y:Int)).map iv)⟩->(∀o,o≠[1]->o≠[2]->H' o=H0 o)->Q (.exit 2) ⟨lk [(1,B7 a),(2,B7 b),(3,iv most),(9,R),(11,.pob [0] w 0),(12,.osl [2] v 1 0 b.length),(20,B7 a),(21,iv N),(22,iv i),(26,B7 b),(27,iv b.length),(28,iv b.length),(29,bv false)],H'⟩) :
  ∀(m j:Nat)(v:Nat)(H:Hp),j+m=b.length->H [0]=⟨w,.cells (tL x)⟩->H [2]=⟨v,.arr 1 (((b.take j).map fun y=>(G9 x y:Int)).map iv)⟩->(∀o,o≠[1]->o≠[2]->H o=H0 o) ->
  LoopC (cx Tryz.prog w0 I0 n0) KU Q ⟨lk [(1,B7 a),(2,B7 b),(3,iv most),(9,R),(11,.pob [0] w 0),(12,.osl [2] v 1 0 j),(20,B7 a),(21,iv N),(22,iv i),(26,B7 b),(27,iv b.length),(28,iv j)],H⟩:=by
 intro m;induction m with
 |zero=>
  intro j v H hm h0 h2 hH;have:j=b.length:=oF
  subst this;rw[AO (CX _)]at h2;refine Ad Ai KU.eq_1 ?_;simp;exact hq H v h2 hH
 |succ m ih=>
  intro j v H hm h0 h2 hH;have hlt:j<b.length:=oF
  have ew:=AR j;have htk:b.take (j+1)=b.take j++[b[j]]:=F5 hlt;have next:=ih (j+1)
  rw[htk]at next
  refine Ad Ai KU.eq_1 ?_;simp[hlt,h0,Aa];refine Ag (dh hx (hb _ (De hlt))) iS ?_;simp[h2,Aa,Nat.min_eq_left (Nat.le_of_lt hlt)];refine⟨oF,?_⟩;rw[ew];refine next (v+1) _ oF (by simp[Aa,h0]) ?_ (fun o h1 h2'=>by simp[Aa,h1,h2',hH])
  simp[Aa];rw[F5 (by simpa using hlt)];simp[List.take_take]
abbrev jy(r:List Int):A:=.sl false (r.map iv)
theorem Agg{a b:List T}(ha:∀t,t∈a->AE t)(hb:∀t,t∈b->AE t)(hal:a.length<=1000000)(hbl:b.length<=1000000){most:Int}
  (hq:∀(H':Hp),H' [3]=⟨a.length+1,.arr 1 ((Om a b).map jy)⟩->H' [5]=⟨0,.none⟩->Q (.exit 0) ⟨lk [(1,B7 a),(2,B7 b),(3,iv most),(9,.osl [3] (a.length+1) 1 0 a.length),(20,B7 a),(21,iv a.length),(22,iv a.length),(23,bv false)],H'⟩) :
  ∀(m i:Nat)(H:Hp),i+m=a.length->H [3]=⟨i+1,.arr 1 ((Om (a.take i) b).map jy)⟩->H [5]=⟨0,.none⟩ ->
  LoopC (cx Tryz.prog w0 I0 n0) KA Q ⟨lk [(1,B7 a),(2,B7 b),(3,iv most),(9,.osl [3] (i+1) 1 0 i),(20,B7 a),(21,iv a.length),(22,iv i)],H⟩:=by
 intro m;induction m with
 |zero=>
  intro i H hm h3 h5;have:i=a.length:=oF
  subst this;rw[AO (CX _)]at h3;refine Ad Ai KA.eq_1 ?_;simp;exact hq H h3 h5
 |succ m ih=>
  intro i H hm h3 h5;have hlt:i<a.length:=oF
  have ew:=AR i;have htk:a.take (i+1)=a.take i++[a[i]]:=F5 hlt;have next:=ih (i+1)
  rw[htk]at next
  have hrl:(Om (a.take i) b).length=i:=by simp[Om];omega
  refine Ad Ai KA.eq_1 ?_;simp[hlt];refine LoopC.le (F0 12 [2] 1 iS) ?_;refine LoopC.le (Ar [(1,B7 a),(2,B7 b),(3,iv most),(9,.osl [3] (i+1) 1 0 i),(11,.pob [0] ((H [0]).u+1) 0),(12,.osl [2] ((H [2]).u+1) 1 0 0),(20,B7 a),(21,iv a.length),(22,iv i),(26,B7 b),(27,iv b.length),(28,iv (0:Nat))] (by simp[upd,Aa])) ?_;refine Ae8 (a:=a) hb hbl (ha _ (De hlt)) (H0:=AK H [0] ⟨(H [0]).u+1,.cells (tL a[i])⟩) (fun H' v g2 gH=>?_) b.length 0 ((H [2]).u+1) _ oF (by simp[Aa]) (by simp[Aa]) (fun o h1 h2=>by simp[Aa,h1,h2]);simp;refine GP (VA (d:=[2]) (fun _ h=>h) 12 (jy (b.map fun y=>(G9 a[i] y:Int))) fun H1 e1=>?_) ?_
  ·simp;exact CI (f:=iv) (l:=b.map fun y=>(G9 a[i] y:Int)) (by rw[e1,g2];simp) iS (fun x=>iS)
  ·refine GP (Ar [(1,B7 a),(2,B7 b),(3,iv most),(9,.osl [3] (i+1) 1 0 i),(12,jy (b.map fun y=>(G9 a[i] y:Int))),(20,B7 a),(21,iv a.length),(22,iv i)] (by simp[upd])) (Gk ?_);have g3:H' [3]=H [3]:=by rw[gH _ iS iS];simp[Aa]
   have g5:H' [5]=H [5]:=by rw[gH _ iS iS];simp[Aa]
   simp[Aa,g3,h3,hrl];refine⟨oF,?_⟩;rw[ew];refine next _ oF ?_ (by simp[Aa,g5,h5])
   have e1:List.take i (List.map jy (Om (List.take i a) b))=List.map jy (Om (List.take i a) b):=AO (by simp[Om];omega);simp[Aa,e1,Om];rw[F5 (by simpa using hlt)];simp[List.take_take]
def eZ(la lb:Nat):Nat->Nat->List Sc->Prop
 |i,j,[]=>i<=la/\j<=lb
 |i,j,x::P=>i<=x.i/\j<=x.j/\x.i<la/\x.j<lb/\eZ la lb (x.i+1) (x.j+1) P
theorem di{la lb:Nat}:∀(P:List Sc)(i j:Nat),i<=la->j<=lb->(∀x,x∈P->i<=x.i/\j<=x.j/\x.i<la/\x.j<lb)->(P.Pairwise fun p q=>p.i<q.i/\p.j<q.j)->eZ la lb i j P
 |[],i,j,h1,h2,_,_=>⟨h1,h2⟩
 |x::P,i,j,h1,h2,h3,h4=>by
  obtain⟨g1,g2,g3,g4⟩:=h3 x iS;rw[List.pairwise_cons]at h4;refine⟨g1,g2,g3,g4,di P _ _ oF oF (fun y hy=>?_) h4.2⟩;have:=h4.1 y hy;obtain⟨k1,k2,k3,k4⟩:=h3 y (by simp[hy]);omega
theorem S7(a b:List T):eZ a.length b.length 0 0 (cC (Om a b)):=by
 obtain⟨h,_⟩:=Z9 (Om a b);obtain⟨h1,h2⟩:=Hf h;obtain⟨g1,g2⟩:=QJ h1;refine di _ 0 0 oF oF (fun x hx=>?_) ?_
 ·obtain⟨_,_,_,_,r,k1,k2⟩:=OS (h2 x (g2.subset hx));have l1:=(List.getElem?_eq_some_iff.1 k1).1;have e1:=(List.getElem?_eq_some_iff.1 k1).2;have l2:=(List.getElem?_eq_some_iff.1 k2).1;rw[<-e1]at l2;simp[Om]at l1 l2;omega
 ·have hp:(cC (Om a b)).Pairwise fun p q=>XC p q=true:=by
   refine(List.Perm.pairwise_iff (fun {p q} h=>?_) g2).2 h1;unfold XC at h ⊢;simp at h ⊢;omega
  have hr:(cC (Om a b)).Pairwise fun p q=>p.i<q.i:=g1;refine(hp.and hr).imp fun {p q} h=>?_;obtain⟨h1,h2⟩:=h;unfold XC at h1;simp at h1;omega
theorem Af8{one:T->T->E}{a b:List T}(hal:a.length<=1000000)(hbl:b.length<=1000000){most:Int}(hone:∀x,x∈a->∀y,y∈b->G.Spec Tryz.prog 44 [tX x,tX y,iv most] (eX (one x y))){P:List Sc}(hP:P.length<=1000){R:List OP}
  (hq:∀(H':Hp)(its:List IT)(v i j:Nat),i<=a.length->j<=b.length->its.length<=3*P.length->R=HW one a b [] i j (its.map IT.op)->H' [5]=⟨v,.arr 14 (its.map Uu)⟩->Q (.exit 4) ⟨lk [(1,B7 a),(2,B7 b),(3,iv most),(15,.osl [5] v 14 0 its.length),(16,iv i),(17,iv j),(45,prs P),(46,iv P.length),(47,iv P.length),(48,bv false)],H'⟩) :
  ∀(m k i j v:Nat)(its:List IT)(H:Hp),k+m=P.length->eZ a.length b.length i j (P.drop k)->its.length<=3*k->R=HW one a b (P.drop k) i j (its.map IT.op)->H [5]=⟨v,.arr 14 (its.map Uu)⟩ ->
  LoopC (cx Tryz.prog w0 I0 n0) K4 Q ⟨lk [(1,B7 a),(2,B7 b),(3,iv most),(15,.osl [5] v 14 0 its.length),(16,iv i),(17,iv j),(45,prs P),(46,iv P.length),(47,iv k)],H⟩:=by
 intro m;induction m with
 |zero=>
  intro k i j v its H hm hk hl hR h5;have:k=P.length:=oF
  subst this;rw[List.drop_length]at hk hR;refine Ad Ai K4.eq_1 ?_;simp;exact hq H its v i j hk.1 hk.2 hl hR h5
 |succ m ih=>
  intro k i j v its H hm hk hl hR h5;have hlt:k<P.length:=oF
  have ew:=AR k;have hd:P.drop k=P[k]::P.drop (k+1):=(List.getElem_cons_drop hlt).symm;rw[hd]at hk hR;have next:=ih (k+1)
  generalize hx:P[k]=x at *;obtain⟨k1,k2,k3,k4,k5⟩:=hk;rw[HW]at hR;have ei:i64.wrap ((x.i:Int)+1)=((x.i+1:Nat):Int):=Bv;have ej:i64.wrap ((x.j:Int)+1)=((x.j+1:Nat):Int):=Bv;have hO:=hone _ (De k3) _ (De k4);have D1:=MQ ((a.take x.i).drop i);have D2:=MB ((b.take x.j).drop j);refine Ad Ai K4.eq_1 ?_;have f1:x.i<=a.length:=oF
  have f2:x.j<=b.length:=oF
  have dl:∀l,(DX l).length<=1:=fun l=>by unfold DX;split<;>simp
  have il:∀l,(Cm l).length<=1:=fun l=>by unfold Cm;split<;>simp
  have d1:=dl ((a.take x.i).drop i);have d2:=il ((b.take x.j).drop j);simp[hlt,hx,K3,iz,Aa,k1,k2,f1,f2,h5];simp only[<-List.map_drop,<-List.map_take];simp only[List.drop_take]at D1 D2 hR d1 d2;refine Ag D1 iS ?_;generalize DX ((a.drop i).take (x.i-i))=D at *;generalize hI:Cm ((b.drop j).take (x.j-j))=I at *;simp[k1,k2,f1,f2,h5,Aa,FG];have hgot:∀D:List OP,D.map oA=(D.map IT.got).map Uu:=fun D=>by
   rw[List.map_map];refine List.map_congr_left fun o _=>?_;simp[Uu,uM]
  refine⟨oF,?_⟩;simp only[<-List.map_drop,<-List.map_take];refine Ag D2 iS ?_;simp[k3,k4,Aa,FG];refine⟨oF,?_⟩;refine Ag hO iS ?_;simp[ei,ej,ew,Aa,FG];refine⟨oF,?_⟩;have e1:a.getD x.i T0=a[x.i]:=by simp[k3]
  have e2:b.getD x.j T0=b[x.j]:=by simp[k4]
  rw[e1,e2]at hR;have hop:∀D:List OP,(D.map IT.got).map IT.op=D:=fun D=>by
   rw[List.map_map];exact List.map_id' _
  have hrow:List.take (its.length+D.length+I.length) (List.take (its.length+D.length) (List.map Uu its++List.map oA D)++List.map oA I)++[A.agg (A.v (Value.int i64 3)::A.v (Value.int i64 0)::A.sl true []::eL (one a[x.i] b[x.j]))]=(its++D.map IT.got++I.map IT.got++[IT.r (.desc (one a[x.i] b[x.j]))]).map Uu:=by
   rw[AO iS,AO iS,hgot D,hgot I];simp[Uu,uM,riC]
  rw[hrow];have nx:=next (x.i+1) (x.j+1) (v+1+1+1) (its++D.map IT.got++I.map IT.got++[IT.r (.desc (one a[x.i] b[x.j]))]) (AK (AK H [4] ⟨(H [4]).u+1,.cells [iv x.i,iv x.j]⟩) [5] ⟨v+1+1+1,.arr 14 ((its++D.map IT.got++I.map IT.got++[IT.r (.desc (one a[x.i] b[x.j]))]).map Uu)⟩) oF k5 (by simp;omega) (by rw[hR];congr 1;simp[hop,IT.op,RI.op]) (by simp[Aa])
  have hlen:(its++D.map IT.got++I.map IT.got++[IT.r (.desc (one a[x.i] b[x.j]))]).length=its.length+D.length+I.length+1:=by simp;omega
  rw[hlen]at nx;simpa using nx
theorem pH{one:T->T->E}{a b:List T}(ha:∀t,t∈a->AE t)(hb:∀t,t∈b->AE t)(hal:a.length<=1000000)(hbl:b.length<=1000000){most q:Int}(hone:∀x,x∈a->∀y,y∈b->G.Spec Tryz.prog 44 [tX x,tX y,iv most] (eX (one x y))) :
  G.Spec Tryz.prog 161 [iv q,B7 a,B7 b,iv most] (Jo (G4 one a b)):=by
 obtain⟨hpk,hp16⟩:=Z9 (Om a b);have hPl:(cC (Om a b)).length<=16:=by
  have:=(QJ (Hf hpk).1).2.length_eq;unfold cC;omega
 have hPick:=pR (Om a b) (by simp[Om];omega) (fun r hr=>by
  obtain⟨x,_,rfl⟩:=List.mem_map.1 hr;simp;omega) hpk hp16
 refine Ak i7 iS fun w0 I0=>?_;unfold WT;simp;refine LoopC.le (F0 9 [3] 1 iS) ?_;refine LoopC.le (Ar [(1,B7 a),(2,B7 b),(3,iv most),(9,.osl [3] (0+1) 1 0 0),(20,B7 a),(21,iv a.length),(22,iv (0:Nat))] (by simp[upd])) ?_;refine Agg ha hb hal hbl (fun H' h3 h5=>?_) a.length 0 _ oF (by simp[Om]) (by simp[Aa]);simp;refine GP (VA (d:=[3]) (fun _ h=>h) 9 (jT (Om a b)) fun H1 e1=>?_) ?_
 ·simp;exact CI (f:=jy) (l:=Om a b) (by rw[e1,h3];simp) (by simp[Om]) (fun x=>iS)
 ·refine GP (Ar [(1,B7 a),(2,B7 b),(3,iv most),(9,jT (Om a b)),(15,.sl true []),(16,iv 0),(17,iv 0)] (by simp[upd])) (Gk ?_);simp;refine Ag hPick iS ?_;simp;refine LoopC.le (F0 15 [5] 14 iS) ?_;refine LoopC.le (Ar [(1,B7 a),(2,B7 b),(3,iv most),(15,.osl [5] 1 14 0 ([]:List IT).length),(16,iv (0:Nat)),(17,iv (0:Nat)),(45,prs (cC (Om a b))),(46,iv (cC (Om a b)).length),(47,iv (0:Nat))] (by simp[upd,Aa,h5,cC])) ?_;refine Af8 (one:=one) (a:=a) (b:=b) hal hbl hone (P:=cC (Om a b)) oF (R:=G4 one a b) (fun H2 its v i j hi hj hl hR k5=>?_) _ 0 0 0 1 [] _ (Nat.zero_add _) (S7 a b) iS rfl (by simp[Aa,h5]);have D1:=MQ ((a.drop i).take (a.length-i));have D2:=MB ((b.drop j).take (b.length-j));have dl:∀l,(DX l).length<=1:=fun l=>by unfold DX;split<;>simp
  have il:∀l,(Cm l).length<=1:=fun l=>by unfold Cm;split<;>simp
  have d1:=dl ((a.drop i).take (a.length-i));have d2:=il ((b.drop j).take (b.length-j));have ea:(a.drop i).take (a.length-i)=a.drop i:=AO iS;have eb:(b.drop j).take (b.length-j)=b.drop j:=AO iS;have hR2:G4 one a b=its.map IT.op++DX ((a.drop i).take (a.length-i))++Cm ((b.drop j).take (b.length-j)):=by rw[ea,eb,hR,HW]
  clear ea eb;rw[hR2];have hgot:∀D:List OP,D.map oA=(D.map IT.got).map Uu:=fun D=>by
   rw[List.map_map];refine List.map_congr_left fun o _=>?_;simp[Uu,uM]
  have hop:∀D:List OP,(D.map IT.got).map IT.op=D:=fun D=>by
   rw[List.map_map];exact List.map_id' _
  clear hR2;generalize DX ((a.drop i).take (a.length-i))=D at *;generalize Cm ((b.drop j).take (b.length-j))=I at *;simp[hi,hj];simp only[<-List.map_drop,<-List.map_take];refine Ag D1 iS ?_;simp[hj,k5,Aa,FG];refine⟨oF,?_⟩;simp only[<-List.map_drop,<-List.map_take];refine Ag D2 iS ?_;simp[Aa,FG];refine⟨oF,?_⟩;have hf:∀H:Hp,H [5]=⟨v+1+1,.arr 14 ((its++D.map IT.got++I.map IT.got).map Uu)⟩->Jl H (.osl [5] (v+1+1) 14 0 (its.length+D.length+I.length)) (Jo (its.map IT.op++(D++I))):=fun H hH=>by
   have:=oC hH (n:=its.length+D.length+I.length) (by simp;omega);simpa[hop]using this
  refine hf _ ?_;rw[hgot D,hgot I,AO iS];simp[Aa]
theorem pv{gap:List T->List T->List OP}{s:Sp}(h:s.k=0)(ss:List Sp)(a b:List T)(out:List OP):Dg gap (s::ss) a b out=Dg gap ss (a.drop s.n) (b.drop s.n) (out++[.mk 0 s.n [] E0]):=by
 cases ss with
 |nil=>simp[Dg,h]
 |cons s2 ss=>simp[Dg,h]
theorem wE{gap:List T->List T->List OP}{s:Sp}(h:s.k=2)(ss:List Sp)(a b:List T)(out:List OP):Dg gap (s::ss) a b out=Dg gap ss a (b.drop s.n) (out++Cm (b.take s.n)):=by
 cases ss with
 |nil=>simp[Dg,h]
 |cons s2 ss=>simp[Dg,h]
theorem wQ{gap:List T->List T->List OP}{s s2:Sp}(h:s.k=1)(h2:s2.k=2)(ss:List Sp)(a b:List T)(out:List OP):Dg gap (s::s2::ss) a b out=Dg gap ss (a.drop s.n) (b.drop s2.n) (out++gap (a.take s.n) (b.take s2.n)):=by
 simp[Dg,h,h2]
theorem rT{gap:List T->List T->List OP}{s:Sp}(h:s.k=1){ss:List Sp}(h2:∀s2 r,ss=s2::r->s2.k≠2)(a b:List T)(out:List OP):Dg gap (s::ss) a b out=Dg gap ss (a.drop s.n) b (out++DX (a.take s.n)):=by
 cases ss with
 |nil=>simp[Dg,h]
 |cons s2 ss=>simp[Dg,h,h2 s2 ss rfl]
theorem dz(one:T->T->E)(a b:List T):∀(P:List Sc)(i j:Nat)(out:List OP),(HW one a b P i j out).length<=out.length+3*P.length+2
 |[],i,j,out=>by
  have d1:(DX (a.drop i)).length<=1:=by unfold DX;split<;>simp
  have d2:(Cm (b.drop j)).length<=1:=by unfold Cm;split<;>simp
  simp[HW];omega
 |x::P,i,j,out=>by
  have d1:(DX ((a.take x.i).drop i)).length<=1:=by unfold DX;split<;>simp
  have d2:(Cm ((b.take x.j).drop j)).length<=1:=by unfold Cm;split<;>simp
  have:=dz one a b P (x.i+1) (x.j+1) (out++DX ((a.take x.i).drop i)++Cm ((b.take x.j).drop j)++[.mk 3 0 [] (one (a.getD x.i T0) (b.getD x.j T0))]);rw[HW];simp only[List.length_append,List.length_singleton]at this;simp only[List.length_cons];omega
theorem WD(one:T->T->E)(a b:List T):(G4 one a b).length<=50:=by
 obtain⟨hpk,hp16⟩:=Z9 (Om a b);have hPl:(cC (Om a b)).length<=16:=by
  have:=(QJ (Hf hpk).1).2.length_eq;unfold cC;omega
 have:=dz one a b (cC (Om a b)) 0 0 [];simp at this;unfold G4;omega
theorem ar(D:List OP):D.map oA=(D.map IT.got).map Uu:=by
 rw[List.map_map];refine List.map_congr_left fun o _=>?_;simp[Uu,uM]
theorem mR(D:List OP):(D.map IT.got).map IT.op=D:=by
 rw[List.map_map];exact List.map_id' _
theorem zY{one:T->T->E}{a b:T}(ha:∀t,t∈a.kids->AE t)(hb:∀t,t∈b.kids->AE t)(hal:a.kids.length<=1000000)(hbl:b.kids.length<=1000000){most:Int}(hone:∀x,x∈a.kids->∀y,y∈b.kids->G.Spec Tryz.prog 44 [tX x,tX y,iv most] (eX (one x y))){S:List Sp}(hS:S.length<=10000000)(hS2:∀s,s∈S->s.k<=2){R:List OP}
  (hq:∀(H':Hp)(its:List IT)(v:Nat)(st:List (Nat × A)),its.map IT.op=R->H' [2]=⟨v,.arr 14 (its.map Uu)⟩->Q (.exit 0) ⟨lk ([(0,fV S),(3,iv most),(5,.pob [0] 1 0),(9,.osl [2] v 14 0 its.length)]++st),H'⟩) :
  ∀(m k v:Nat)(x y:List T)(its:List IT)(H:Hp),k+m=S.length->(∀t,t∈x->t∈a.kids)->(∀t,t∈y->t∈b.kids)->x.length<=1000000->y.length<=1000000->dA (Bu (S.drop k))<=x.length->dB (Bu (S.drop k))<=y.length->its.length<=50*k->R=Dg (G4 one) (S.drop k) x y (its.map IT.op)->H [0]=⟨1,.cells (tL a)⟩->H [2]=⟨v,.arr 14 (its.map Uu)⟩ ->
  LoopC (cx Tryz.prog w0 I0 n0) FY Q ⟨lk [(0,fV S),(3,iv most),(5,.pob [0] 1 0),(9,.osl [2] v 14 0 its.length),(10,B7 x),(11,B7 y),(12,iv k)],H⟩:=by
 have tk:∀(l:List T)(n:Nat),(l.drop n).take (l.length-n)=l.drop n:=fun l n=>AO iS;intro m;induction m using Nat.strongRecOn with
 |_ m ih=>
 intro k v x y its H hm hx hy hxl hyl hA hB hl hR h0 h2;cases m with
 |zero=>
  have:k=S.length:=oF
  subst this;rw[List.drop_length]at hR;refine Ad Ai FY.eq_1 ?_;simp;exact hq H its v [(10,B7 x),(11,B7 y),(12,iv S.length),(22,bv false)] hR.symm h2
 |succ m=>
  have hlt:k<S.length:=oF
  have ew:=AR k;have hd:S.drop k=S[k]::S.drop (k+1):=(List.getElem_cons_drop hlt).symm;have hk:=hS2 _ (De hlt);rw[hd]at hR hA hB;rw[BF,HA,Ic]at hA;rw[BF,HP,Ii]at hB;have hg:(S.map OY)[k]? = some (OY S[k]):=by simp[hlt]
  generalize hs:S[k]=s at *;have hk3:s.k=0\/s.k=1\/s.k=2:=oF
  rcases hk3 with h|h|h
  ·rw[pv h]at hR;rw[if_neg oF]at hA hB;have f1:s.n<=x.length:=oF
   have f2:s.n<=y.length:=oF
   refine Ad Ai FY.eq_1 ?_;simp[hlt,hs,OY,Xs,h,f1,f2,h2,FG,ew];refine⟨oF,?_⟩;simp only[<-List.map_drop,<-List.map_take,tk];have nx:=ih m oF (k+1) (v+1) (x.drop s.n) (y.drop s.n) (its++[IT.r (RI.keep (s.n:Int))]) (AK H [2] ⟨v+1,.arr 14 ((its++[IT.r (RI.keep (s.n:Int))]).map Uu)⟩) oF (fun t ht=>hx t (SF ht)) (fun t ht=>hy t (SF ht)) (by simp;omega) (by simp;omega) (by simp;omega) (by simp;omega) (by simp;omega) (by rw[hR];simp[IT.op,RI.op]) (by simp[Aa,h0]) (by simp[Aa]);rw[AO iS];rw[Int.natCast_add]at nx;simp only[List.length_append,List.length_map,List.length_singleton,List.length_cons,List.length_nil,List.map_append,List.map_cons,List.map_nil]at nx ⊢;exact nx
  ·rw[h]at hA hB;simp at hA hB;have f1:s.n<=x.length:=oF
   by_cases hg2:∃h3:k+1<S.length,S[k+1].k=2
   ·obtain⟨h3,h4⟩:=hg2;have hd2:S.drop (k+1)=S[k+1]::S.drop (k+1+1):=(List.getElem_cons_drop h3).symm;rw[hd2]at hR hA hB;rw[BF,HA,Ic]at hA;rw[BF,HP,Ii]at hB;generalize hs2:S[k+1]=s2 at *;rw[wQ h h4]at hR;rw[h4]at hA hB;simp at hA hB;have f2:s2.n<=y.length:=oF
    have ew2:i64.wrap ((k:Int)+1+1)=((k+1+1:Nat):Int):=Bv;have G:=pH (one:=one) (a:=x.take s.n) (b:=y.take s2.n) (q:=a.kind) (fun t ht=>ha t (hx t (QD ht))) (fun t ht=>hb t (hy t (QD ht))) (by simp;omega) (by simp;omega) (most:=most) (fun p hp q hq=>hone p (hx p (QD hp)) q (hy q (QD hq)));have gl:=WD one (x.take s.n) (y.take s2.n);have i1:(k:Int)+1<S.length:=oF
    have i2:(0:Int)<=(k:Int)+1:=oF
    have i3:((k:Int)+1).toNat=k+1:=oF
    have i4:i64.wrap ((k:Int)+1)=(k:Int)+1:=by rw[ew];omega
    refine Ad Ai FY.eq_1 ?_;generalize G4 one (x.take s.n) (y.take s2.n)=I at *;simp[hlt,hs,OY,Xs,h,f1,f2,h2,FG,i4,h3,hs2,h4,h0,i1,i2,i3];simp only[<-List.map_drop,<-List.map_take,tk];refine Ag G iS ?_;simp[f1,f2,h2,FG,i4,h0,ew2];refine⟨oF,?_⟩;simp only[<-List.map_drop,<-List.map_take,tk];cases m with
    |zero=>omega
    |succ m=>
     have nx:=ih m oF (k+1+1) (v+1) (x.drop s.n) (y.drop s2.n) (its++I.map IT.got) (AK H [2] ⟨v+1,.arr 14 ((its++I.map IT.got).map Uu)⟩) oF (fun t ht=>hx t (SF ht)) (fun t ht=>hy t (SF ht)) (by simp;omega) (by simp;omega) (by simp;omega) (by simp;omega) (by simp;omega) (by rw[hR,List.map_append,mR]) (by simp[Aa,h0]) (by simp[Aa]);rw[AO iS,ar,<-List.map_append];rw[Int.natCast_add,Int.natCast_add]at nx;simp only[List.length_append,List.length_map,List.length_singleton,List.length_cons,List.length_nil,List.map_append,List.map_cons,List.map_nil]at nx ⊢;exact nx
   ·have hnd:∀s2 r,S.drop (k+1)=s2::r->s2.k≠2:=fun s2 r e h4=>by
     have h3:k+1<S.length:=by
      have:=congrArg List.length e;simp at this;omega
     have hd2:S.drop (k+1)=S[k+1]::S.drop (k+1+1):=(List.getElem_cons_drop h3).symm;rw[hd2]at e;injection e with e1 _;exact hg2 ⟨h3,by rw[e1];exact h4⟩
    rw[rT h hnd]at hR;have D:=MQ (x.take s.n);have dl:(DX (x.take s.n)).length<=1:=by unfold DX;split<;>simp
    generalize DX (x.take s.n)=I at *;refine Ad Ai FY.eq_1 ?_;by_cases h3:k+1<S.length
    ·have h4:¬(S[k+1].k:Int)=2:=fun e=>hg2 ⟨h3,oF⟩;have h4':¬S[k+1].k=2:=fun e=>hg2 ⟨h3,e⟩;have i1:(k:Int)+1<S.length:=oF
     have i2:(0:Int)<=(k:Int)+1:=oF
     have i3:((k:Int)+1).toNat=k+1:=oF
     have i4:i64.wrap ((k:Int)+1)=(k:Int)+1:=by rw[ew];omega
     simp[hlt,hs,OY,Xs,h,f1,h2,FG,i4,h3,h4,h4',i1,i2,i3];simp only[<-List.map_drop,<-List.map_take,tk];refine Ag D iS ?_;simp[f1,h2,FG,i4];refine⟨oF,?_⟩;simp only[<-List.map_drop,<-List.map_take,tk];have nx:=ih m oF (k+1) (v+1) (x.drop s.n) y (its++I.map IT.got) (AK H [2] ⟨v+1,.arr 14 ((its++I.map IT.got).map Uu)⟩) oF (fun t ht=>hx t (SF ht)) hy (by simp;omega) oF (by simp;omega) oF (by simp;omega) (by rw[hR,List.map_append,mR]) (by simp[Aa,h0]) (by simp[Aa]);rw[AO iS,ar,<-List.map_append];rw[Int.natCast_add]at nx;simp only[List.length_append,List.length_map,List.length_singleton,List.length_cons,List.length_nil,List.map_append,List.map_cons,List.map_nil]at nx ⊢;exact nx
    ·have i1:¬(k:Int)+1<S.length:=oF
     have i4:i64.wrap ((k:Int)+1)=(k:Int)+1:=by rw[ew];omega
     simp[hlt,hs,OY,Xs,h,f1,h2,FG,i4,i1];simp only[<-List.map_drop,<-List.map_take,tk];refine Ag D iS ?_;simp[f1,h2,FG,i4];refine⟨oF,?_⟩;simp only[<-List.map_drop,<-List.map_take,tk];have nx:=ih m oF (k+1) (v+1) (x.drop s.n) y (its++I.map IT.got) (AK H [2] ⟨v+1,.arr 14 ((its++I.map IT.got).map Uu)⟩) oF (fun t ht=>hx t (SF ht)) hy (by simp;omega) oF (by simp;omega) oF (by simp;omega) (by rw[hR,List.map_append,mR]) (by simp[Aa,h0]) (by simp[Aa]);rw[AO iS,ar,<-List.map_append];rw[Int.natCast_add]at nx;simp only[List.length_append,List.length_map,List.length_singleton,List.length_cons,List.length_nil,List.map_append,List.map_cons,List.map_nil]at nx ⊢;exact nx
  ·rw[wE h]at hR;rw[h]at hA hB;simp at hA hB;have f2:s.n<=y.length:=oF
   have D:=MB (y.take s.n);have dl:(Cm (y.take s.n)).length<=1:=by unfold Cm;split<;>simp
   generalize Cm (y.take s.n)=I at *;refine Ad Ai FY.eq_1 ?_;simp[hlt,hs,OY,Xs,h,f2,h2,FG,ew];simp only[<-List.map_drop,<-List.map_take,tk];refine Ag D iS ?_;simp[f2,h2,FG,ew];refine⟨oF,?_⟩;simp only[<-List.map_drop,<-List.map_take,tk];have nx:=ih m oF (k+1) (v+1) x (y.drop s.n) (its++I.map IT.got) (AK H [2] ⟨v+1,.arr 14 ((its++I.map IT.got).map Uu)⟩) oF hx (fun t ht=>hy t (SF ht)) oF (by simp;omega) oF (by simp;omega) (by simp;omega) (by rw[hR,List.map_append,mR]) (by simp[Aa,h0]) (by simp[Aa]);rw[AO iS,ar,<-List.map_append];rw[Int.natCast_add]at nx;simp only[List.length_append,List.length_map,List.length_singleton,List.length_cons,List.length_nil,List.map_append,List.map_cons,List.map_nil]at nx ⊢;exact nx
theorem g8{one:T->T->E}{a b:T}(ha:∀t,t∈a.kids->AE t)(hb:∀t,t∈b.kids->AE t)(hal:a.kids.length<=1000000)(hbl:b.kids.length<=1000000){most:Int}(hone:∀x,x∈a.kids->∀y,y∈b.kids->G.Spec Tryz.prog 44 [tX x,tX y,iv most] (eX (one x y))){S:List Sp}(hS:S.length<=10000000)(hS2:∀s,s∈S->s.k<=2)(hA:dA (Bu S)<=a.kids.length)(hB:dB (Bu S)<=b.kids.length) :
  G.Spec Tryz.prog 123 [fV S,tX a,tX b,iv most] (Jo (Dg (G4 one) S a.kids b.kids [])):=by
 refine Ak iU iS fun w0 I0=>?_;unfold WM;simp;refine LoopC.le (F0 9 [2] 14 iS) ?_;refine LoopC.le (Ar [(0,fV S),(3,iv most),(5,.pob [0] 1 0),(9,.osl [2] 1 14 0 ([]:List IT).length),(10,B7 a.kids),(11,B7 b.kids),(12,iv (0:Nat))] (by simp[upd])) ?_;refine zY (a:=a) (b:=b) ha hb hal hbl hone hS hS2 (R:=Dg (G4 one) S a.kids b.kids []) (fun H' its v st hR k2=>?_) S.length 0 1 a.kids b.kids [] _ (Nat.zero_add _) (fun t h=>h) (fun t h=>h) hal hbl (by simpa using hA) (by simpa using hB) iS iS (by simp[Aa]) (by simp[Aa]);simp;rw[<-hR];exact oC k2 rfl
theorem uj(l:List Nat):(xh l).map iv=l.map nv:=by
 simp[xh]
theorem Yn{us:List Nat}(h:∀x,x∈us->x<=2):∀s,s∈Lb us->s.k<=2/\1<=s.n:=bE us 0 0 0 h
theorem OK:∀(l:List Sp),(∀s,s∈l->s.k<=2/\1<=s.n)->l.length<=dA (Bu l)+dB (Bu l)
 |[],_=>iS
 |s::l,h=>by
  have ih:=OK l fun x hx=>h x (by simp[hx]);have hs:=h s iS;rw[BF,HA,HP,Ic,Ii,List.length_cons];split<;>split<;>omega
theorem og(a b:List T)(h:a=[]\/b=[]):cC (Om a b)=[]:=by
 have hP:=S7 a b;cases hp:cC (Om a b) with
 |nil=>rfl
 |cons x P=>
  rw[hp]at hP;have h1:=hP.2.2.1;have h2:=hP.2.2.2.1;rcases h with rfl|rfl<;>simp at h1 h2
theorem eD(one:T->T->E)(b:List T):G4 one [] b=Cm b:=by
 unfold G4;rw[og _ _ (.inl rfl),HW];simp[DX]
theorem qA(one:T->T->E)(a:List T):G4 one a []=DX a:=by
 unfold G4;rw[og _ _ (.inr rfl),HW];simp[Cm]
theorem vu(one:T->T->E)(a b:List T):Dg (G4 one) (Lb (Bu [⟨1,a.length⟩,⟨2,b.length⟩])) a b []=G4 one a b:=by
 have e:Lb (Bu [⟨1,a.length⟩,⟨2,b.length⟩])=fl 1 a.length++fl 2 b.length:=by
  unfold Lb;rw[BF,BF,JY];by_cases h1:a.length=0
  ·by_cases h2:b.length=0
   ·simp[h1,h2,QA]
   ·rw[h1];simp only[List.replicate_zero,List.nil_append];rw[UF b.length [] 0 0 0 oF];simp[QA]
  ·rw[aR a.length _ 0 0 0 oF];by_cases h2:b.length=0
   ·simp[h2,QA]
   ·rw[UF b.length [] 0 _ 0 oF];simp[QA]
 rw[e];by_cases h1:a.length=0
 ·have h1':a=[]:=by simpa using h1
  subst h1';by_cases h2:b.length=0
  ·have h2':b=[]:=by simpa using h2
   subst h2';simp[Dg,eD,Cm]
  ·rw[Vp (k:=2) (n:=b.length) oF];simp[Dg,eD]
 ·rw[Vp (k:=1) (n:=a.length) oF];by_cases h2:b.length=0
  ·have h2':b=[]:=by simpa using h2
   subst h2';simp[Dg,qA]
  ·rw[Vp (k:=2) (n:=b.length) oF];simp[Dg]
theorem aG{one:T->T->E}{a b:T}(ha:AE a)(hb:AE b)(hna:∀t,t∈a.kids->Af t=t)(hnb:∀t,t∈b.kids->Af t=t)(hal:a.kids.length<=30000)(hbl:b.kids.length<=30000){most:Int}(hm:BD most)(hone:∀x,x∈a.kids->∀y,y∈b.kids->G.Spec Tryz.prog 44 [tX x,tX y,iv most] (eX (one x y))) :
  G.Spec Tryz.prog 75 [tX a,tX b,iv most] (eX (Si one most a b)):=by
 have hka:=(wfT_iff.1 ha).ks;have hkb:=(wfT_iff.1 hb).ks;have C1:=W2 (ks:=[]) (ts:=a.kids) iS iS hka hna (by simp;omega) 1;have hl1:=Xb a.kids [];simp at hl1;have C2:=W2 (ks:=(C6 [] a.kids).1) (ts:=b.kids) (Zy (l:=a.kids) iS hka) (Xc (l:=a.kids) iS) hkb hnb oF (VP 1 [] a.kids);have e1:(UN a).length=a.kids.length:=by simp[UN,xh,FU]
 have e2:(U2 a b).length=b.kids.length:=by simp[U2,xh,FU]
 have hD:=kC (a:=UN a) (b:=U2 a b) oF oF hm;have z1:(UN a).map iv=(C6 [] a.kids).2.map nv:=uj _;have z2:(U2 a b).map iv=(C6 (C6 [] a.kids).1 b.kids).2.map nv:=uj _;simp only[Ge,z1,z2]at hD;have key:∀(w0:World)(I0:Nat->Prop)(S:List Sp)(H:Hp),S.length<=10000000->(∀s,s∈S->s.k<=2)->dA (Bu S)<=a.kids.length->dB (Bu S)<=b.kids.length->H [0]=⟨1,.cells (tL a)⟩->H [1]=⟨1,.cells (tL b)⟩->H [2]=⟨1,.cells Be⟩ ->
   WPC (cx Tryz.prog w0 I0 47) MM (fH Tryz.prog [ResultVar.cell 6 30] (eX (.mk 3 T0 T0 [] [] a.kind (Dg (G4 one) S a.kids b.kids [])))) ⟨lk [(2,iv most),(3,.pob [0] 1 0),(4,.pob [1] 1 0),(6,.pob [2] 1 0),(9,fV S)],H⟩:=by
  intro w0 I0 S H s1 s2 s3 s4 h0 h1 h2;have O:=g8 hka hkb oF oF hone s1 s2 s3 s4;rw[MM.eq_1];simp[h0,h1];refine Ag O iS ?_;simp[h0,h2,Aa,Be];exact CF ⟨Ae rfl,Ae rfl,Am,Am,Ae rfl,Am,Am,Am,Am,Ae rfl,Am,trivial⟩
 have wd:=kF (UN a) (U2 a b);have wi:=UB (UN a) (U2 a b);have wn:=ZU _ wi;refine Ak iq iS fun w0 I0=>?_;unfold TM;simp;refine GP (BO (d:=[3]) (u:=1) (cs:=[.sl true []]) 0 [3,0] 3 (by simp[Aa]) rfl iS) (Gk ?_);simp;refine Ap 3 C1 (fun p=>?_) iS iS ?_
 ·by_cases h1:p=[]
  ·subst h1;simp[Aa]
  ·by_cases h2:p=[0]
   ·subst h2;simp[Aa]
   ·simp[h1,h2,Ne.symm h1,Ne.symm h2,Aa]
 ·simp;refine Ap 3 C2 (fun p=>iS) iS iS ?_;simp;refine Ag hD iS ?_;by_cases hd:(Dr (UN a) (U2 a b):Int)<=most
  ·have hL:Si one most a b=.mk 3 T0 T0 [] [] a.kind (Dg (G4 one) (Lb (GO (UN a) (U2 a b))) a.kids b.kids []):=by unfold Si;rw[if_pos hd]
   rw[hL];simp[hd];refine key _ _ _ _ ?_ (fun s hs=>(Yn wi s hs).1) oF oF iS iS (by simp[Be]);have:=OK _ (Yn wi);omega
  ·have hL:Si one most a b=.mk 3 T0 T0 [] [] a.kind (Dg (G4 one) (Lb (Bu [⟨1,a.kids.length⟩,⟨2,b.kids.length⟩])) a.kids b.kids []):=by unfold Si;rw[if_neg hd,vu]
   have N:=qH (all:=[⟨1,a.kids.length⟩,⟨2,b.kids.length⟩]) (fun s hs=>by
    simp at hs;rcases hs with rfl|rfl
    ·exact⟨iS,by simp;omega⟩
    ·exact⟨iS,by simp;omega⟩) iS
   have ui:∀x,x∈Bu [⟨1,a.kids.length⟩,⟨2,b.kids.length⟩]->x<=2:=fun x hx=>by
    rw[BF,BF,JY,List.append_nil]at hx;rcases List.mem_append.1 hx with h|h<;>(have h':=List.eq_of_mem_replicate h;simp at h';omega)
   have ud:=ZU _ ui;have ua:dA (Bu [⟨1,a.kids.length⟩,⟨2,b.kids.length⟩])=a.kids.length:=by
    rw[BF,BF,JY,HA,HA,Ic,Ic];simp[dA]
   have ub:dB (Bu [⟨1,a.kids.length⟩,⟨2,b.kids.length⟩])=b.kids.length:=by
    rw[BF,BF,JY,HP,HP,Ii,Ii];simp[dB]
   have ul:=OK _ (Yn ui);have N2:G.Spec Tryz.prog 122 [.sl true [.agg [iv 1,iv a.kids.length],.agg [iv 2,iv b.kids.length]]] (fV (Lb (Bu [⟨1,a.kids.length⟩,⟨2,b.kids.length⟩]))):=N.soft (by simp[A.softL,A.soft,OY,Xs]);clear N;rw[hL];clear hL;generalize Bu [⟨1,a.kids.length⟩,⟨2,b.kids.length⟩]=us at *;simp[hd];refine Ag N2 iS ?_;simp;refine key _ _ _ _ oF (fun s hs=>(Yn ui s hs).1) oF oF iS iS (by simp[Be])
theorem dT(ks:List T)(n:T):ks <+: GY ks n:=by
 unfold GY;split
 ·exact List.prefix_rfl
 ·exact List.prefix_append _ _
theorem IU:∀(l ks:List T),ks <+: (C6 ks l).1
 |[],ks=>List.prefix_rfl
 |t::l,ks=>(dT ks (Af t)).trans (IU l _)
theorem QG:∀{l ks:List T},ks.Nodup->(C6 ks l).1.Nodup
 |[],ks,h=>h
 |t::l,ks,h=>QG (l:=l) (kM h)
theorem UR(ks:List T)(n:T):(GY ks n)[FN ks n]? = some n:=by
 unfold GY;have hle:=ow ks n;split
 ·rename_i h;rw[List.getElem?_eq_getElem h];congr 1;exact sameB_iff.1 (List.findIdx_getElem (p:=fun k=>GM k n) (w:=h))
 ·rename_i h;have:FN ks n=ks.length:=oF
  rw[this];simp
theorem VX{ks ks':List T}{n:T}(h:GY ks n <+: ks')(hd:ks'.Nodup):FN ks' n=FN ks n:=by
 have h1:=UR ks n;obtain⟨hl,e⟩:=List.getElem?_eq_some_iff.1 h1;have hl2:FN ks n<ks'.length:=Nat.lt_of_lt_of_le hl h.length_le;refine yT hl2 ?_ hd;obtain⟨m,rfl⟩:=h;rw[List.getElem_append_left hl];exact e
theorem kY{ks ks':List T}{n:T}(h:GY ks n <+: ks')(hd:ks'.Nodup):GY ks' n=ks':=by
 have h1:=VX h hd;have h2:=UR ks n;obtain⟨hl,e⟩:=List.getElem?_eq_some_iff.1 h2;have hl2:FN ks n<ks'.length:=Nat.lt_of_lt_of_le hl h.length_le;unfold GY;rw[if_pos oF]
theorem QI:∀{l ks ks':List T},(C6 ks l).1 <+: ks'->ks'.Nodup->C6 ks' l=(ks',(C6 ks l).2)
 |[],ks,ks',_,_=>rfl
 |t::l,ks,ks',h,hd=>by
  have h1:GY ks (Af t) <+: ks':=(IU l _).trans h;simp only[C6];rw[VX h1 hd,kY h1 hd,QI (l:=l) (ks:=GY ks (Af t)) h hd]
theorem WV{α:Type}{H:Hp}{o:Nm}{u n sz:Nat}{l:List α}{f g:α->A}(h:vr (H o) u=some (sz,l.map f))(hn:n=l.length)
  (hf:∀x,x∈l->(f x).cells.all A.bare=true/\(f x).cells.map A.soft=(g x).cells/\(g x).cells.length=sz/\A.ones (g x).cells=true):Jl H (.osl o u sz 0 n) (.sl false (l.map g)):=by
 subst hn;refine NV (xs:=l.map f) (by simpa using h) iS iS (fun y hy=>?_) ?_ ?_
 ·obtain⟨x,hx,rfl⟩:=List.mem_map.1 hy;exact(hf x hx).2.2.1
 ·simp only[A.ones,List.all_eq_true,List.mem_flatMap];rintro y ⟨z,hz,hy⟩;obtain⟨x,hx,rfl⟩:=List.mem_map.1 hz;have:=(hf x hx).2.2.2;simp only[A.ones,List.all_eq_true]at this;exact this y hy
 ·rw[List.drop_zero,AO iS];have:∀(m:List α),(∀x,x∈m->x∈l)->HF H ((m.map f).flatMap A.cells) ((m.map g).flatMap A.cells):=by
   intro m;induction m with
   |nil=>intro _;simp
   |cons x m ih=>
    intro hm;obtain⟨h1,h2,_,_⟩:=hf x (hm x iS);simp only[List.map_cons,List.flatMap_cons];rw[<-h2];have hr:=ih fun y hy=>hm y (by simp[hy]);have:∀(c:List A)(p q:List A),c.all A.bare=true->HF H p q->HF H (c++p) (c.map A.soft++q):=by
     intro c;induction c with
     |nil=>intro p q _ hpq;exact hpq
     |cons y c ihc=>
      intro p q hc hpq;simp only[List.all_cons,Bool.and_eq_true]at hc;exact⟨Oh hc.1,ihc p q hc.2 hpq⟩
    exact this _ _ _ h1 hr
  exact this l fun x h=>h
section
variable {n0:Nat} {w0:World} {I0:Nat->Prop}
end
theorem X6(a b:T)(i:Nat):HU a b (i+1)=HU a b i++(if Eu (a.words.getD i 0) (b.words.getD i 0)=0 then []else [Z4 i (a.words.getD i 0) (b.words.getD i 0)]):=by
 unfold HU;rw[List.range_succ,List.filterMap_append];congr 1;by_cases h:Eu (a.words.getD i 0) (b.words.getD i 0)=0
 ·simp only[List.filterMap_cons,List.filterMap_nil,h,if_true]
 ·simp only[List.filterMap_cons,List.filterMap_nil,h,if_false]
theorem Q5(a b:T):∀i,(HU a b i).length<=i
 |0=>by simp[HU]
 |i+1=>by
  have:=Q5 a b i;rw[X6];split<;>simp<;>omega
theorem Tq(one:T->T->E)(a b:T)(i:Nat):C7 one a b (i+1)=C7 one a b i++(if (one (a.kids.getD i T0) (b.kids.getD i T0)).kind=0 then []else [.mk i (one (a.kids.getD i T0) (b.kids.getD i T0))]):=by
 unfold C7;rw[List.range_succ,List.filterMap_append];congr 1;by_cases h:(one (a.kids.getD i T0) (b.kids.getD i T0)).kind=0
 ·simp only[List.filterMap_cons,List.filterMap_nil,h,if_true]
 ·simp only[List.filterMap_cons,List.filterMap_nil,h,if_false]
theorem MR(one:T->T->E)(a b:T):∀i,(C7 one a b i).length<=i
 |0=>by simp[C7]
 |i+1=>by
  have:=MR one a b i;rw[Tq];split<;>simp<;>omega
def rk(u n:Nat)(k:A):List A:=[iv 2,iv 0,.sl true [],.sl true [],iv 0,.sl true [],.sl true [],.osl [5] u 4 0 n,k,iv 0,.sl true []]
theorem Ahz{a b:T}(ha:AE a)(hb:AE b){most:A}{N:Nat}(hN:N<=1000000)
  (hq:∀(H':Hp)(u:Nat),H' [0]=⟨1,.cells (tL a)⟩->H' [1]=⟨1,.cells (tL b)⟩->H' [2]=⟨1,.cells Be⟩->H' [3]=⟨1,.cells (rk u (HU a b N).length (.sl true []))⟩->H' [5]=⟨u,.arr 4 ((HU a b N).map wA)⟩->H' [6]=⟨0,.none⟩->H' [7]=⟨0,.none⟩ ->
   Q (.exit 0) ⟨lk [(2,most),(3,.pob [0] 1 0),(4,.pob [1] 1 0),(6,.pob [2] 1 0),(7,.pob [3] 1 0),(20,iv N),(21,iv N),(22,bv false)],H'⟩) :
  ∀(m i:Nat)(u:Nat)(H:Hp),i+m=N->H [0]=⟨1,.cells (tL a)⟩->H [1]=⟨1,.cells (tL b)⟩->H [2]=⟨1,.cells Be⟩->H [3]=⟨1,.cells (rk u (HU a b i).length (.sl true []))⟩->H [5]=⟨u,.arr 4 ((HU a b i).map wA)⟩->H [6]=⟨0,.none⟩->H [7]=⟨0,.none⟩ ->
  LoopC (cx Tryz.prog w0 I0 n0) FE Q ⟨lk [(2,most),(3,.pob [0] 1 0),(4,.pob [1] 1 0),(6,.pob [2] 1 0),(7,.pob [3] 1 0),(20,iv N),(21,iv i)],H⟩:=by
 intro m;induction m with
 |zero=>
  intro i u H hm h0 h1 h2 h3 h5 h6 h7;have:i=N:=oF
  subst this;refine Ad Ai FE.eq_1 ?_;simp;exact hq H u h0 h1 h2 h3 h5 h6 h7
 |succ m ih=>
  intro i u H hm h0 h1 h2 h3 h5 h6 h7;have hlt:i<N:=oF
  have ew:=AR i;have hwa:Bs (a.words.getD i 0):=Aay ha i;have hwb:Bs (b.words.getD i 0):=Aay hb i;have hW:=iW (i:=i) hwa hwb;have hwl:=Q5 a b i;have next:=ih (i+1)
  rw[X6]at next
  refine Ad Ai FE.eq_1 ?_;simp[hlt,h0,h1];refine Ag (Fl a i) iS ?_;simp[h0,h1];refine Ag (Fl b i) iS ?_;simp;refine Ag hW iS ?_;generalize a.words.getD i 0=x at *;generalize b.words.getD i 0=y at *;by_cases hz:Eu x y=0
  ·rw[if_pos hz]at next
   simp[hz,Aa];rw[ew];refine next u _ oF (by simp[Aa,h0]) (by simp[Aa,h1]) (by simp[Aa,h2]) (by simp[Aa,h3]) (by simp[Aa,h5]) (by simp[Aa,h6]) (by simp[Aa,h7])
  ·rw[if_neg hz]at next
   simp[hz,Aa,h3,h5,rk];refine⟨oF,?_⟩;rw[ew];refine next (u+1) _ oF (by simp[Aa,h0]) (by simp[Aa,h1]) (by simp[Aa,h2]) (by simp[Aa,rk]) (by simp[Aa,AO]) (by simp[Aa,h6]) (by simp[Aa,h7])
theorem AgV{one:T->T->E}{a b:T}{most:Int}{N:Nat}(hN:N<=1000000)(hone:∀i:Nat,G.Spec Tryz.prog 44 [tX (a.kids.getD i T0),tX (b.kids.getD i T0),iv most] (eX (one (a.kids.getD i T0) (b.kids.getD i T0)))){u n:Nat}{ws:List WE}
  (hq:∀(H':Hp)(v:Nat),H' [3]=⟨1,.cells (rk u n (.osl [7] v 12 0 (C7 one a b N).length))⟩->H' [5]=⟨u,.arr 4 (ws.map wA)⟩->H' [7]=⟨v,.arr 12 ((C7 one a b N).map kA)⟩->H' [2]=⟨1,.cells Be⟩ ->
   Q (.exit 2) ⟨lk [(2,iv most),(3,.pob [0] 1 0),(4,.pob [1] 1 0),(6,.pob [2] 1 0),(7,.pob [3] 1 0),(49,iv N),(50,iv N),(51,bv false)],H'⟩) :
  ∀(m i:Nat)(v:Nat)(H:Hp),i+m=N->H [0]=⟨1,.cells (tL a)⟩->H [1]=⟨1,.cells (tL b)⟩->H [2]=⟨1,.cells Be⟩->H [3]=⟨1,.cells (rk u n (.osl [7] v 12 0 (C7 one a b i).length))⟩->H [5]=⟨u,.arr 4 (ws.map wA)⟩->H [7]=⟨v,.arr 12 ((C7 one a b i).map kA)⟩ ->
  LoopC (cx Tryz.prog w0 I0 n0) FH Q ⟨lk [(2,iv most),(3,.pob [0] 1 0),(4,.pob [1] 1 0),(6,.pob [2] 1 0),(7,.pob [3] 1 0),(49,iv N),(50,iv i)],H⟩:=by
 intro m;induction m with
 |zero=>
  intro i v H hm h0 h1 h2 h3 h5 h7;have:i=N:=oF
  subst this;refine Ad Ai FH.eq_1 ?_;simp;exact hq H v h3 h5 h7 h2
 |succ m ih=>
  intro i v H hm h0 h1 h2 h3 h5 h7;have hlt:i<N:=oF
  have ew:=AR i;have hO:=hone i;have hkl:=MR one a b i;have next:=ih (i+1)
  rw[Tq]at next
  have K1:=Gj a i;have K2:=Gj b i;generalize a.kids.getD i T0=x at *;generalize b.kids.getD i T0=y at *;generalize one x y=e at *;refine Ad Ai FH.eq_1 ?_;simp[hlt,h0,h1];refine Ag K1 iS ?_;simp[h0,h1];refine Ag K2 iS ?_;simp;refine Ag hO iS ?_;by_cases hz:e.kind=0
  ·rw[if_pos hz]at next
   simp[hz,Aa];rw[ew];refine next v _ oF (by simp[Aa,h0]) (by simp[Aa,h1]) (by simp[Aa,h2]) (by simp[Aa,h3]) (by simp[Aa,h5]) (by simp[Aa,h7])
  ·rw[if_neg hz]at next
   simp[hz,Aa,h3,h7,rk];refine⟨oF,?_⟩;rw[ew];refine next (v+1) _ oF (by simp[Aa,h0]) (by simp[Aa,h1]) (by simp[Aa,h2]) (by simp[Aa,rk]) (by simp[Aa,h5]) (by simp[Aa,AO])
theorem W6{one:T->T->E}{a b:T}(ha:AE a)(hb:AE b)(h1:a.words.length<=1000000)(h2:b.words.length<=1000000)(h3:a.kids.length<=1000000)(h4:b.kids.length<=1000000){most:Int}(hone:∀i:Nat,G.Spec Tryz.prog 44 [tX (a.kids.getD i T0),tX (b.kids.getD i T0),iv most] (eX (one (a.kids.getD i T0) (b.kids.getD i T0)))) :
  G.Spec Tryz.prog 73 [tX a,tX b,iv most] (eX (eP one a b)):=by
 refine Ak Tc iS fun w0 I0=>?_;unfold Ma;simp;refine LoopC.le (BO (d:=[3]) (u:=1) (cs:=[iv 2,iv 0,.sl true [],.sl true [],iv 0,.sl true [],.sl true [],.sl true [],.sl true [],iv 0,.sl true []]) 7 [5] 4 (by simp[Aa]) rfl iS) ?_;refine LoopC.le (Ar [(2,iv most),(3,.pob [0] 1 0),(4,.pob [1] 1 0),(6,.pob [2] 1 0),(7,.pob [3] 1 0),(20,iv (max a.words.length b.words.length:Nat)),(21,iv (0:Nat))] (by simp;omega)) ?_;refine Ahz ha hb (N:=max a.words.length b.words.length) oF (fun H' u g0 g1 g2 g3 g5 g6 g7=>?_) (max a.words.length b.words.length) 0 1 _ oF (by simp[Aa]) (by simp[Aa]) (by simp[Aa,Be]) (by simp[Aa,rk,HU]) (by simp[Aa,HU]) (by simp[Aa]) (by simp[Aa]);simp[g0,g1];refine LoopC.le (BO (d:=[3]) (u:=1) (cs:=rk u (HU a b (max a.words.length b.words.length)).length (.sl true [])) 8 [7] 12 g3 rfl iS) ?_;refine LoopC.le (Ar [(2,iv most),(3,.pob [0] 1 0),(4,.pob [1] 1 0),(6,.pob [2] 1 0),(7,.pob [3] 1 0),(49,iv (max a.kids.length b.kids.length:Nat)),(50,iv (0:Nat))] (by simp;omega)) ?_;refine AgV (one:=one) (a:=a) (b:=b) (N:=max a.kids.length b.kids.length) oF hone (ws:=HU a b (max a.words.length b.words.length)) (u:=u) (n:=(HU a b (max a.words.length b.words.length)).length) (fun H2 v k3 k5 k7 k2=>?_) (max a.kids.length b.kids.length) 0 1 _ oF (by simp[Aa,g0]) (by simp[Aa,g1]) (by simp[Aa,g2]) (by simp[Aa,rk,C7,g7]) (by simp[Aa,g5]) (by simp[Aa,C7,g7]);simp[k3,k2,Aa,rk];refine⟨by simp[Be],?_⟩;refine CF ⟨Ae rfl,Ae rfl,Am,Am,Ae rfl,Am,Am,?_,?_,Ae rfl,Am,trivial⟩
 ·exact CI (f:=wA) (l:=HU a b (max a.words.length b.words.length)) (by rw[AI iS,k5];simp) rfl (fun x=>iS)
 ·exact CI (f:=kA) (l:=C7 one a b (max a.kids.length b.kids.length)) (by rw[AI iS,k7];simp) rfl (fun x=>iS)
theorem cX{a b:T}(ha:AE a)(hb:AE b){X Y:E}{most:Int}(hs:a.kind=1->b.kind=1->G.Spec Tryz.prog 73 [tX a,tX b,iv most] (eX X))(hl:a.kind=b.kind->2<=a.kind->a.kind<=9->G.Spec Tryz.prog 75 [tX a,tX b,iv most] (eX Y)) :
  G.Spec Tryz.prog 44 [tX a,tX b,iv most] (eX (if J2 a b=true then E0 else if a.kind=1/\b.kind=1 then X else if a.kind=b.kind/\2<=a.kind/\a.kind<=9 then Y else .mk 1 a b [] [] 0 [])):=by
 have hE:=Jf ha hb;have hraw:∀H:Hp,Jl H (.agg Be) (eX E0):=fun H=>CF ⟨Ae rfl,Ae rfl,Am,Am,Ae rfl,Am,Am,Am,Am,Ae rfl,Am,trivial⟩;have hfr:∀(H:Hp)(k:Int),k=a.kind->Jl H (.agg [iv 1,iv k,Fu a.words,B7 a.kids,iv b.kind,Fu b.words,B7 b.kids,.sl true [],.sl true [],iv 0,.sl true []]) (eX (.mk 1 a b [] [] 0 [])):=fun H k hk=>by
  subst hk;exact CF ⟨Ae rfl,Ae rfl,Ae rfl,Ae rfl,Ae rfl,Ae rfl,Ae rfl,Am,Am,Ae rfl,Am,trivial⟩
 refine Ak kN iS fun w0 I0=>?_;unfold Ww;simp;refine Ag hE iS ?_;cases he:J2 a b with
 |true=>
  simp;exact hraw _
 |false=>
  by_cases h1:a.kind=1
  ·by_cases h2:b.kind=1
   ·have S:=hs h1 h2;have S':G.Spec Tryz.prog 73 [.agg [iv 1,Fu a.words,B7 a.kids],.agg [iv 1,Fu b.words,B7 b.kids],iv most] (eX X):=by
     rw[<-h1];have e:([A.agg [iv a.kind,Fu a.words,B7 a.kids],.agg [iv a.kind,Fu b.words,B7 b.kids],iv most]:List A)=[tX a,tX b,iv most]:=by
      show [A.agg [iv a.kind,Fu a.words,B7 a.kids],.agg [iv a.kind,Fu b.words,B7 b.kids],iv most]=[A.agg [iv a.kind,Fu a.words,B7 a.kids],.agg [iv b.kind,Fu b.words,B7 b.kids],iv most];rw[h1,h2]
     rw[e];exact S
    simp[h1,h2];refine Ag S' iS ?_;simp;exact Ae iS
   ·have hne:¬(1:Int)=b.kind:=fun e=>h2 e.symm;simp[h1,h2,hne];refine BP rfl ?_;simp;exact hfr _ 1 h1.symm
  ·by_cases h3:a.kind=b.kind
   ·have h2:¬b.kind=1:=fun e=>h1 (h3.trans e);simp[h1,h3,h2];rw[AW];simp;refine Ag (j5 b.kind) iS ?_;by_cases h5:2<=b.kind/\b.kind<=9
    ·have S:=hl h3 oF oF;have S':G.Spec Tryz.prog 75 [.agg [iv b.kind,Fu a.words,B7 a.kids],.agg [iv b.kind,Fu b.words,B7 b.kids],iv most] (eX Y):=by
      rw[<-h3];have e:([A.agg [iv a.kind,Fu a.words,B7 a.kids],.agg [iv a.kind,Fu b.words,B7 b.kids],iv most]:List A)=[tX a,tX b,iv most]:=by
       show [A.agg [iv a.kind,Fu a.words,B7 a.kids],.agg [iv a.kind,Fu b.words,B7 b.kids],iv most]=[A.agg [iv a.kind,Fu a.words,B7 a.kids],.agg [iv b.kind,Fu b.words,B7 b.kids],iv most];rw[h3]
      rw[e];exact S
     simp[h5.1,h5.2];refine Ag S' iS ?_;simp;exact Ae iS
    ·have h6:(decide (2<=b.kind)&&decide (b.kind<=9))=false:=by
      rw[Bool.eq_false_iff];simpa using h5
     rw[h6];simp[h5];exact hfr _ _ h3.symm
   ·simp[h1,h3];refine BP rfl ?_;simp;exact hfr _ _ rfl
def SU:Nat->T->Prop
 |0,t=>t=T0
 |f+1,t=>t=T0\/(AE t/\Af t=t/\t.words.length<=1000/\t.kids.length<=1000/\∀k,k∈t.kids->SU f k)
theorem AbV(f:Nat):SU f T0:=by cases f with
 |zero=>rfl
 |succ f=>exact .inl rfl
theorem D8:AE T0:=wfT_iff.2 ⟨by simp[BD],iS,iS,iS,iS⟩
theorem qK:Af T0=T0:=by simp[Af,T0,EO,DG]
theorem Au{f:Nat}{t:T}(h:SU f t):AE t/\Af t=t/\t.words.length<=1000/\t.kids.length<=1000:=by
 have z:AE T0/\Af T0=T0/\T0.words.length<=1000/\T0.kids.length<=1000:=⟨D8,qK,dO,dO⟩;cases f with
 |zero=>cases h;exact z
 |succ f=>
  rcases h with rfl|h
  ·exact z
  ·exact⟨h.1,h.2.1,h.2.2.1,h.2.2.2.1⟩
theorem BI{f:Nat}{t:T}(h:SU f t):∀k,k∈t.kids->SU (f-1) k:=by
 cases f with
 |zero=>cases h;intro k hk;simp[T0]at hk
 |succ f=>
  rcases h with rfl|h
  ·intro k hk;simp[T0]at hk
  ·exact h.2.2.2.2
theorem Ll{f:Nat}{t:T}(h:SU f t)(i:Nat):SU (f-1) (t.kids.getD i T0):=by
 by_cases hi:i<t.kids.length
 ·have e:t.kids.getD i T0=t.kids[i]:=by simp[hi]
  rw[e];exact BI h _ (De hi)
 ·have e:t.kids.getD i T0=T0:=by simp[List.getElem?_eq_none (Nat.le_of_not_lt hi)]
  rw[e];exact AbV _
theorem Tm{most:Int}(hm:BD most):∀(f g:Nat)(a b:T),SU f a->SU g b->G.Spec Tryz.prog 44 [tX a,tX b,iv most] (eX (El most f a b))
 |0,g,a,b,ha,hb=>by
  obtain⟨a1,a2,a3,a4⟩:=Au ha;obtain⟨b1,b2,b3,b4⟩:=Au hb;have hk:a.kind=0:=by cases ha;rfl
  have:=cX a1 b1 (X:=E0) (Y:=E0) (most:=most) (fun h=>oF) (fun _ h=>oF);rw[if_neg (show ¬(a.kind=1/\b.kind=1) by omega),if_neg (show ¬(a.kind=b.kind/\2<=a.kind/\a.kind<=9) by omega)]at this;exact this
 |f+1,g,a,b,ha,hb=>by
  obtain⟨a1,a2,a3,a4⟩:=Au ha;obtain⟨b1,b2,b3,b4⟩:=Au hb;refine cX a1 b1 (fun h1 h2=>?_) (fun h1 h2 h3=>?_)
  ·exact W6 a1 b1 oF oF oF oF fun i=>Tm hm f (g-1) _ _ (Ll ha i) (Ll hb i)
  ·exact aG a1 b1 (fun t ht=>(Au (BI ha t ht)).2.1) (fun t ht=>(Au (BI hb t ht)).2.1) oF oF hm fun x hx y hy=>Tm hm f (g-1) _ _ (BI ha x hx) (BI hb y hy)
end Go.Proofs.YtlaapfplenlfaaaGreat
namespace Go.PL
mutual
def Bk:T->Int
 |.mk _ w l=>1+w.length+Cy l
def Cy:List T->Int
 |[]=>0
 |t::l=>Bk t+Cy l
end
@[simp]theorem Ey(k:Int)(w:List Int)(l:List T):Bk (.mk k w l)=1+w.length+Cy l:=by rw[Bk]
@[simp]theorem Acy:Cy []=0:=by rw[Cy]
@[simp]theorem Dl(t:T)(l:List T):Cy (t::l)=Bk t+Cy l:=by rw[Cy]
theorem Qi{l:List T}(h:∀t,t∈l->1<=Bk t):(l.length:Int)<=Cy l:=by
 induction l with
 |nil=>simp
 |cons t l ih=>
  have:=h t iS;have:=ih fun u hu=>h u (by simp[hu]);simp;omega
theorem Ij:∀t:T,1<=Bk t:=by
 refine T.ind fun k w l ih=>?_;have:=Qi ih;simp;omega
theorem G0(l:List T):(l.length:Int)<=Cy l:=Qi fun t _=>Ij t
theorem XH:∀(t:T)(d:Nat)(n:Int),0<=Ew d n t->Bk t<=n-Ew d n t:=by
 refine T.ind fun k w l ih d n h=>?_;have hl:∀(m:List T)(d:Nat)(n:Int),(∀t,t∈m->t∈l)->0<=Ea d n m->Cy m<=n-Ea d n m:=by
  intro m;induction m with
  |nil=>intro d n _ _;simp
  |cons t m ihm=>
   intro d n hin h;rw[Ix]at h ⊢;split at h
   ·omega
   ·rename_i hc;rw[if_neg hc];have h1:=ihm d (Ew d n t) (fun u hu=>hin u (by simp[hu])) h;have h3:0<=Ew d n t:=by
     cases m with
     |nil=>simpa using h
     |cons u m=>
      rw[Ix]at h;split at h<;>omega
    have:=ih t (hin t iS) d n h3;simp;omega
 rw[Qh]at h ⊢;split at h
 ·omega
 rename_i hc;rw[if_neg hc];have:=hl l (d-1) _ (fun t ht=>ht) h;simp;omega
end Go.PL
namespace Go.Proofs.YtlaapfplenlfaaaGreat
open Go Go.G Go.Proofs Go.PL
theorem DP(a b:List OP):DI (a++b)=DI a+DI b:=by simp[DI]
theorem OT(l:List T):DI (DX l)=l.length:=by
 unfold DX;split
 ·rename_i h;subst h;rfl
 ·simp[DI]
theorem OV(l:List T):DI (Cm l)=l.length:=by
 unfold Cm;split
 ·rename_i h;subst h;rfl
 ·simp[DI]
theorem dG(one:T->T->E)(a b:List T):∀(P:List Sc)(i j:Nat)(out:List OP),eZ a.length b.length i j P->DI (HW one a b P i j out)<=DI out+(a.length-i)+(b.length-j)
 |[],i,j,out,h=>by
  rw[HW,DP,DP,OT,OV];simp
 |x::P,i,j,out,h=>by
  obtain⟨k1,k2,k3,k4,k5⟩:=h;have:=dG one a b P _ _ (out++DX ((a.take x.i).drop i)++Cm ((b.take x.j).drop j)++[.mk 3 0 [] (one (a.getD x.i T0) (b.getD x.j T0))]) k5;rw[HW];rw[DP,DP,DP,OT,OV,show DI [OP.mk 3 0 [] (one (a.getD x.i T0) (b.getD x.j T0))]=0 from rfl,List.length_drop,List.length_take,List.length_drop,List.length_take]at this;omega
theorem fN(one:T->T->E)(a b:List T):DI (G4 one a b)<=a.length+b.length:=by
 have:=dG one a b (cC (Om a b)) 0 0 [] (S7 a b);rw[show DI []=0 from rfl]at this;unfold G4;omega
inductive Zq(one:T->T->E)(A B:List T)(N:Nat):OP->Prop
 |keep (n:Nat) (h:n<=N):Zq one A B N (.mk 0 n [] E0)
 |del (l:List T) (h:l≠[]) (g:∀t,t∈l->t∈A) (k:l.length<=A.length):Zq one A B N (.mk 1 0 l E0)
 |ins (l:List T) (h:l≠[]) (g:∀t,t∈l->t∈B) (k:l.length<=B.length):Zq one A B N (.mk 2 0 l E0)
 |desc (x y:T) (hx:x∈A) (hy:y∈B):Zq one A B N (.mk 3 0 [] (one x y))
theorem vI{one:T->T->E}{A B A' B':List T}{N:Nat}(hA:∀t,t∈A->t∈A')(hB:∀t,t∈B->t∈B')(lA:A.length<=A'.length)(lB:B.length<=B'.length){o:OP}(h:Zq one A B N o):Zq one A' B' N o:=by
 cases h with
 |keep n h=>exact .keep n h
 |del l h g k=>exact .del l h (fun t ht=>hA t (g t ht)) oF
 |ins l h g k=>exact .ins l h (fun t ht=>hB t (g t ht)) oF
 |desc x y hx hy=>exact .desc x y (hA x hx) (hB y hy)
theorem ZQ{one:T->T->E}{A B l:List T}{N:Nat}(h:∀t,t∈l->t∈A)(hl:l.length<=A.length):∀o,o∈DX l->Zq one A B N o:=by
 intro o ho;unfold DX at ho;split at ho
 ·simp at ho
 ·rename_i hne;simp at ho;subst ho;exact .del l hne h hl
theorem aF{one:T->T->E}{A B l:List T}{N:Nat}(h:∀t,t∈l->t∈B)(hl:l.length<=B.length):∀o,o∈Cm l->Zq one A B N o:=by
 intro o ho;unfold Cm at ho;split at ho
 ·simp at ho
 ·rename_i hne;simp at ho;subst ho;exact .ins l hne h hl
theorem eT(one:T->T->E)(a b:List T)(N:Nat):∀(P:List Sc)(i j:Nat)(out:List OP),eZ a.length b.length i j P->(∀o,o∈out->Zq one a b N o)->∀o,o∈HW one a b P i j out->Zq one a b N o
 |[],i,j,out,h,g=>by
  intro o ho;rw[HW]at ho;rcases List.mem_append.1 ho with ho|ho
  ·rcases List.mem_append.1 ho with ho|ho
   ·exact g o ho
   ·exact ZQ (fun t ht=>SF ht) iS o ho
  ·exact aF (fun t ht=>SF ht) iS o ho
 |x::P,i,j,out,h,g=>by
  obtain⟨k1,k2,k3,k4,k5⟩:=h;rw[HW];refine eT one a b N P _ _ _ k5 fun o ho=>?_;rcases List.mem_append.1 ho with ho|ho
  ·rcases List.mem_append.1 ho with ho|ho
   ·rcases List.mem_append.1 ho with ho|ho
    ·exact g o ho
    ·exact ZQ (fun t ht=>QD (SF ht)) (by simp;omega) o ho
   ·exact aF (fun t ht=>QD (SF ht)) (by simp;omega) o ho
  ·rw[List.mem_singleton]at ho;subst ho;have e1:a.getD x.i T0=a[x.i]:=by simp[k3]
   have e2:b.getD x.j T0=b[x.j]:=by simp[k4]
   rw[e1,e2];exact .desc _ _ (De k3) (De k4)
theorem dI(one:T->T->E)(a b:List T)(N:Nat):∀o,o∈G4 one a b->Zq one a b N o:=eT one a b N _ 0 0 [] (S7 a b) iS
theorem Kk{gap:List T->List T->List OP}{I:List T->List T->List OP->Prop}{S0:List Sp}(h0:∀s,s∈S0->∀a b out,I a b out->I (a.drop s.n) (b.drop s.n) (out++[.mk 0 s.n [] E0]))(h1:∀n a b out,I a b out->I (a.drop n) b (out++DX (a.take n)))(h2:∀n a b out,I a b out->I a (b.drop n) (out++Cm (b.take n)))(h3:∀n m a b out,I a b out->I (a.drop n) (b.drop m) (out++gap (a.take n) (b.take m))):∀(S:List Sp)(a b:List T)(out:List OP),(∀s,s∈S->s∈S0)->I a b out->∃a' b',I a' b' (Dg gap S a b out)
 |[],a,b,out,hS,h=>⟨a,b,by rw[Dg];exact h⟩
 |[s],a,b,out,hS,h=>by
  have hs:=hS s iS;rw[Dg];split
  ·exact⟨_,_,h0 s hs a b out h⟩
  ·split
   ·exact⟨_,_,h2 s.n a b out h⟩
   ·exact⟨_,_,h1 s.n a b out h⟩
 |s::s2::ss,a,b,out,hS,h=>by
  have hs:=hS s iS;have hS1:∀x,x∈s2::ss->x∈S0:=fun x hx=>hS x (List.mem_cons_of_mem _ hx);have hS2:∀x,x∈ss->x∈S0:=fun x hx=>hS1 x (List.mem_cons_of_mem _ hx);rw[Dg];split
  ·exact Kk h0 h1 h2 h3 (s2::ss) _ _ _ hS1 (h0 s hs a b out h)
  ·split
   ·exact Kk h0 h1 h2 h3 (s2::ss) _ _ _ hS1 (h2 s.n a b out h)
   ·split
    ·exact Kk h0 h1 h2 h3 ss _ _ _ hS2 (h3 s.n s2.n a b out h)
    ·exact Kk h0 h1 h2 h3 (s2::ss) _ _ _ hS1 (h1 s.n a b out h)
theorem rP{gap:List T->List T->List OP}(hg:∀x y,DI (gap x y)<=x.length+y.length)(S:List Sp)(a b:List T):DI (Dg gap S a b [])<=a.length+b.length:=by
 obtain⟨a',b',h⟩:=Kk (gap:=gap) (S0:=S) (I:=fun a' b' out=>DI out+a'.length+b'.length<=a.length+b.length) (fun s hs a b out h=>by
  rw[DP,show DI [OP.mk 0 (s.n:Nat) [] E0]=0 from rfl,List.length_drop,List.length_drop];omega) (fun n a b out h=>by
  rw[DP,OT,List.length_drop,List.length_take];omega) (fun n a b out h=>by
  rw[DP,OV,List.length_drop,List.length_take];omega) (fun n m a b out h=>by
  have:=hg (a.take n) (b.take m);rw[List.length_take,List.length_take]at this;rw[DP,List.length_drop,List.length_drop];omega) S a b [] (fun s hs=>hs) (by rw[show DI []=0 from rfl];omega)
 omega
theorem rN{one:T->T->E}{gap:List T->List T->List OP}{N:Nat}(hg:∀x y,∀o,o∈gap x y->Zq one x y N o)(S:List Sp)(hS:∀s,s∈S->s.n<=N)(a b:List T):∀o,o∈Dg gap S a b []->Zq one a b N o:=by
 have app:∀{out l:List OP},(∀o,o∈out->Zq one a b N o)->(∀o,o∈l->Zq one a b N o)->∀o,o∈out++l->Zq one a b N o:=fun h1 h2 o ho=>by
  rcases List.mem_append.1 ho with ho|ho
  ·exact h1 o ho
  ·exact h2 o ho
 have dr:∀{x y:List T} (n:Nat),((∀t,t∈x->t∈y)/\x.length<=y.length)->(∀t,t∈x.drop n->t∈y)/\(x.drop n).length<=y.length:=fun n h=>⟨fun t ht=>h.1 t (SF ht),by rw[List.length_drop];omega⟩;have tk:∀{x y:List T} (n:Nat),((∀t,t∈x->t∈y)/\x.length<=y.length)->(∀t,t∈x.take n->t∈y)/\(x.take n).length<=y.length:=fun n h=>⟨fun t ht=>h.1 t (QD ht),by rw[List.length_take];omega⟩;obtain⟨a',b',_,_,h⟩:=Kk (gap:=gap) (S0:=S) (I:=fun a' b' out=>((∀t,t∈a'->t∈a)/\a'.length<=a.length)/\((∀t,t∈b'->t∈b)/\b'.length<=b.length)/\∀o,o∈out->Zq one a b N o) (fun s hs x y out h=>⟨dr _ h.1,dr _ h.2.1,app h.2.2 fun o ho=>by
   simp at ho;subst ho;exact .keep s.n (hS s hs)⟩) (fun n x y out h=>⟨dr _ h.1,h.2.1,app h.2.2 (ZQ (tk n h.1).1 (tk n h.1).2)⟩) (fun n x y out h=>⟨h.1,dr _ h.2.1,app h.2.2 (aF (tk n h.2.1).1 (tk n h.2.1).2)⟩) (fun n m x y out h=>⟨dr _ h.1,dr _ h.2.1,app h.2.2 fun o ho=>vI (tk n h.1).1 (tk m h.2.1).1 (tk n h.1).2 (tk m h.2.1).2 (hg _ _ o ho)⟩) S a b [] (fun s hs=>hs) ⟨⟨fun t ht=>ht,CX _⟩,⟨fun t ht=>ht,CX _⟩,iS⟩
 exact h
theorem Oc{gap:List T->List T->List OP}(hg:∀x y,(gap x y).length<=50):∀(S:List Sp)(a b:List T)(out:List OP),(Dg gap S a b out).length<=out.length+50*S.length
 |[],a,b,out=>by rw[Dg];omega
 |[s],a,b,out=>by
  have d1:(DX (a.take s.n)).length<=1:=by unfold DX;split<;>simp
  have d2:(Cm (b.take s.n)).length<=1:=by unfold Cm;split<;>simp
  rw[Dg];split
  ·simp
  ·split<;>(rw[List.length_append];simp only[List.length_cons,List.length_nil];omega)
 |s::s2::ss,a,b,out=>by
  have d1:(DX (a.take s.n)).length<=1:=by unfold DX;split<;>simp
  have d2:(Cm (b.take s.n)).length<=1:=by unfold Cm;split<;>simp
  rw[Dg];split
  ·have:=Oc hg (s2::ss) (a.drop s.n) (b.drop s.n) (out++[.mk 0 s.n [] E0]);simp only[List.length_append,List.length_cons,List.length_nil]at this ⊢;omega
  ·split
   ·have:=Oc hg (s2::ss) a (b.drop s.n) (out++Cm (b.take s.n));simp only[List.length_append,List.length_cons,List.length_nil]at this ⊢;omega
   ·split
    ·have:=Oc hg ss (a.drop s.n) (b.drop s2.n) (out++gap (a.take s.n) (b.take s2.n));have:=hg (a.take s.n) (b.take s2.n);simp only[List.length_append,List.length_cons,List.length_nil]at this ⊢;simp only[List.length_append]at *;omega
    ·have:=Oc hg (s2::ss) (a.drop s.n) b (out++DX (a.take s.n));simp only[List.length_append,List.length_cons,List.length_nil]at this ⊢;omega
noncomputable def QT(one:T->T->E)(most:Int)(a b:T):List OP:=if (Dr (UN a) (U2 a b):Int)<=most then Dg (G4 one) (Lb (GO (UN a) (U2 a b))) a.kids b.kids []else G4 one a.kids b.kids
theorem RD(one:T->T->E)(most:Int)(a b:T):Si one most a b=.mk 3 T0 T0 [] [] a.kind (QT one most a b):=rfl
theorem oQ(a:T):(UN a).length=a.kids.length:=by simp[UN,xh,FU]
theorem lQ(a b:T):(U2 a b).length=b.kids.length:=by simp[U2,xh,FU]
theorem TK:∀{l:List Sp} {s:Sp},s∈l->s.k≠2->s.n<=dA (Bu l)
 |x::l,s,h,hk=>by
  rw[BF,HA,Ic];rcases List.mem_cons.1 h with rfl|h
  ·rw[if_neg hk];omega
  ·have:=TK h hk;omega
theorem Q9:∀{l:List Sp} {s:Sp},s∈l->s.k≠1->s.n<=dB (Bu l)
 |x::l,s,h,hk=>by
  rw[BF,HP,Ii];rcases List.mem_cons.1 h with rfl|h
  ·rw[if_neg hk];omega
  ·have:=Q9 h hk;omega
theorem Aim(a b:T){s:Sp}(h:s∈Lb (GO (UN a) (U2 a b))):s.n<=a.kids.length+b.kids.length:=by
 have wd:=kF (UN a) (U2 a b);have wi:=UB (UN a) (U2 a b);have wn:=ZU _ wi;rw[oQ,lQ]at wd;by_cases hk:s.k=2
 ·have:=Q9 h oF;omega
 ·have:=TK h hk;omega
theorem ik(one:T->T->E)(most:Int)(a b:T):∀o,o∈QT one most a b->Zq one a.kids b.kids (a.kids.length+b.kids.length) o:=by
 unfold QT;split
 ·exact rN (fun x y=>dI one x y _) _ (fun s hs=>Aim a b hs) _ _
 ·exact dI one _ _ _
theorem tv(one:T->T->E)(most:Int)(a b:T):DI (QT one most a b)<=a.kids.length+b.kids.length:=by
 unfold QT;split
 ·exact rP (fun x y=>fN one x y) _ _ _
 ·exact fN one _ _
theorem cz(one:T->T->E)(most:Int)(a b:T):(QT one most a b).length<=50*(a.kids.length+b.kids.length)+50:=by
 unfold QT;split
 ·have wd:=kF (UN a) (U2 a b);have wi:=UB (UN a) (U2 a b);have wn:=ZU _ wi;have:=OK _ (Yn wi);have h:=Oc (WD one) (Lb (GO (UN a) (U2 a b))) a.kids b.kids [];rw[oQ,lQ]at wd;simp only[List.length_nil]at h;omega
 ·have:=WD one a.kids b.kids;omega
theorem UH:∀{l:List KE},(∀x,x∈l->Mg x.e)->jb l
 |[],_=>by rw[jb];trivial
 |.mk a e::l,h=>by
  rw[jb];exact⟨h _ (List.mem_cons_self ..),UH fun x hx=>h x (List.mem_cons_of_mem _ hx)⟩
theorem UC:∀{l:List OP},(∀x,x∈l->(x.kind=0\/x.kind=1\/x.kind=2\/x.kind=3)/\(∀t,t∈x.l->AE t)/\(x.kind=3->Mg x.e))->jx l
 |[],_=>by rw[jx];trivial
 |.mk k n t e::l,h=>by
  rw[jx];exact⟨h _ (List.mem_cons_self ..),UC fun x hx=>h x (List.mem_cons_of_mem _ hx)⟩
theorem aH:Mg E0:=by
 unfold E0;rw[Mg];exact⟨.inl rfl,fun _=>rfl,fun h=>absurd h dO,iS,iS,iS,by simp[DI],fun h=>absurd h dO,fun h=>absurd h dO⟩
theorem UM{a b:T}(ha:AE a)(hb:AE b):Mg (.mk 1 a b [] [] 0 []):=by
 rw[Mg];exact⟨.inr (.inl rfl),fun _=>rfl,fun _=>⟨ha,hb⟩,iS,iS,iS,by simp[DI],fun h=>absurd h dO,fun h=>absurd h dO⟩
theorem Va{one:T->T->E}{a b:T}{m:Nat}{x:KE}(h:x∈C7 one a b m):∃i:Nat,i<m/\x=.mk i (one (a.kids.getD i T0) (b.kids.getD i T0))/\(one (a.kids.getD i T0) (b.kids.getD i T0)).kind≠0:=by
 unfold C7 at h;rw[List.mem_filterMap]at h;obtain⟨i,hi,e⟩:=h;split at e
 ·cases e
 ·rename_i hk;simp only[Option.some.injEq]at e;exact⟨i,by simpa using hi,e.symm,hk⟩
theorem y5{one:T->T->E}{a b:T}(ha:a.words.length<=1000)(hb:b.words.length<=1000)(ha2:a.kids.length<=1000)(hb2:b.kids.length<=1000)(h:∀i,Mg (one (a.kids.getD i T0) (b.kids.getD i T0))):Mg (eP one a b):=by
 have h1:=Q5 a b (max a.words.length b.words.length);have h2:=MR one a b (max a.kids.length b.kids.length);unfold eP;rw[Mg];refine⟨.inr (.inr (.inl rfl)),fun _=>rfl,fun h=>absurd h dO,oF,oF,iS,by simp[DI],fun _=>UH fun x hx=>?_,fun h=>absurd h dO⟩;obtain⟨i,_,e,_⟩:=Va hx;subst e;exact h i
theorem tM{one:T->T->E}{most:Int}{a b:T}(ha:a.kids.length<=1000)(hb:b.kids.length<=1000)(wa:∀t,t∈a.kids->AE t)(wb:∀t,t∈b.kids->AE t)(h:∀x,x∈a.kids->∀y,y∈b.kids->Mg (one x y)):Mg (Si one most a b):=by
 have h1:=cz one most a b;have h2:=tv one most a b;rw[RD,Mg];refine⟨.inr (.inr (.inr rfl)),fun h=>absurd rfl h,fun h=>absurd h dO,iS,iS,oF,oF,fun h=>absurd h dO,fun _=>UC fun x hx=>?_⟩;cases ik one most a b x hx with
 |keep n h=>exact⟨.inl rfl,fun t (ht:t∈([]:List T))=>by simp at ht,fun h=>absurd h (by show ¬(0:Int)=3;decide)⟩
 |del l h g k=>exact⟨.inr (.inl rfl),fun t ht=>wa t (g t ht),fun h=>absurd h (by show ¬(1:Int)=3;decide)⟩
 |ins l h g k=>exact⟨.inr (.inr (.inl rfl)),fun t ht=>wb t (g t ht),fun h=>absurd h (by show ¬(2:Int)=3;decide)⟩
 |desc p q hp hq=>exact⟨.inr (.inr (.inr rfl)),fun t (ht:t∈([]:List T))=>by simp at ht,fun _=>h p hp q hq⟩
theorem Mw(most:Int):∀(f g:Nat)(a b:T),SU f a->SU g b->Mg (El most f a b)
 |0,g,a,b,ha,hb=>by
  rw[El];split
  ·exact aH
  ·exact UM (Au ha).1 (Au hb).1
 |f+1,g,a,b,ha,hb=>by
  obtain⟨a1,a2,a3,a4⟩:=Au ha;obtain⟨b1,b2,b3,b4⟩:=Au hb;rw[El];split
  ·exact aH
  ·split
   ·exact y5 a3 b3 a4 b4 fun i=>Mw most f (g-1) _ _ (Ll ha i) (Ll hb i)
   ·split
    ·exact tM a4 b4 (fun t ht=>(Au (BI ha t ht)).1) (fun t ht=>(Au (BI hb t ht)).1) fun x hx y hy=>Mw most f (g-1) x y (BI ha x hx) (BI hb y hy)
    ·exact UM a1 b1
theorem Ms{l:List T}{t:T}(h:t∈l):Bk t<=Cy l:=by
 induction l with
 |nil=>simp at h
 |cons x l ih=>
  rw[Dl];have hp:=Ij x;have hl:=G0 l;rcases List.mem_cons.1 h with rfl|h
  ·omega
  ·have:=ih h;omega
theorem Ep:∀(t:T),AE t->Bk t<=1000->∀f:Nat,Bk t<=f->SU f (Af t):=by
 refine T.ind fun k w l ih hw hp f hf=>?_;rw[Ey]at hp hf;have hl:=G0 l;have hks:=(wfT_iff.1 hw).ks;cases f with
 |zero=>omega
 |succ f=>
  have hk:∀t,t∈l->SU f (Af t):=fun t ht=>by
   have:=Ms ht;exact ih t ht (hks t ht) oF f oF
  rw[SU];refine .inr ⟨CY _ hw,B8 _,?_,?_,?_⟩
  ·rw[Cw];split
   ·simp
   ·split
    ·have:=LG w;show(EO w).length<=1000;omega
    ·show w.length<=1000;omega
  ·rw[Cw];split
   ·simp
   ·split
    ·have:=LC (l.map Af);rw[List.length_map]at this;show(DG (l.map Af)).length<=1000;omega
    ·show(l.map Af).length<=1000;rw[List.length_map];omega
  ·intro x hx;have hx':x∈l.map Af:=by
    rw[Cw]at hx;split at hx
    ·simp at hx
    ·split at hx
     ·have hx2:x∈DG (l.map Af):=hx;rw[Kl]at hx2;exact QD hx2
     ·exact hx
   obtain⟨t,ht,rfl⟩:=List.mem_map.1 hx';exact hk t ht
noncomputable def JB(most:Int)(a b:T):E:=Hn (El most 1000 (Af a) (Af b))
theorem K8{a b:T}(ha:AE a)(hb:AE b)(pa:Bk a<=1000)(pb:Bk b<=1000){most:Int}(hm:BD most):G.Spec Tryz.prog 24 [tX a,tX b,iv most] (eX (JB most a b)):=by
 have oa:=Ep a ha pa 1000 pa;have ob:=Ep b hb pb 1000 pb;have h1:=Tm hm 1000 1000 _ _ oa ob;have h2:=Kn _ (Mw most 1000 1000 _ _ oa ob);refine Ak bf iS fun w0 I0=>?_;unfold RG;simp;refine Ag (DM a ha) iS ?_;simp;refine Ag (DM b hb) iS ?_;simp;refine Ag h1 iS ?_;simp;refine Ag h2 iS ?_;simp;exact Ae iS
def Ie(t:T):Bool:=decide (0<=Ew 70 400 t)&&C9 64 t&&decide (t.kind≠10)
theorem NS{t:T}(h:AE t):G.Spec Tryz.prog 39 [tX t] (bv (Ie t)):=by
 refine Ak RB iS fun w0 I0=>?_;unfold KS;simp;refine Ag (Zv t h 70 400 oF oF oF) iS ?_;unfold Ie;by_cases hs:0<=Ew 70 400 t
 ·simp[hs];refine CD rfl (fun _=>cM t h 64 oF) (fun _=>iS) iS ?_;cases hr:C9 64 t with
  |true=>
   simp;exact Jp rfl iS
  |false=>
   simp;exact Jp rfl iS
 ·simp[hs];refine BP rfl ?_;simp;exact Jp rfl iS
theorem aJ{t:T}(h:Ie t=true):Bk t<=400/\C9 64 t=true/\t.kind≠10:=by
 unfold Ie at h;simp only[Bool.and_eq_true,decide_eq_true_eq]at h;obtain⟨⟨h1,h2⟩,h3⟩:=h;have:=XH t 70 400 h1;exact⟨oF,h2,h3⟩
theorem Dh:Nh E0:=wfE_iff.2 ⟨by simp[BD],by simp[BD],D8,D8,iS,iS,iS,iS,iS,iS⟩
theorem Qr{n:Int}(h1:-1000000000<=n)(h2:n<=1000000000):BD n:=⟨oF,oF⟩
theorem xF{i:Nat}(hi:i<=1000000)(a b:Int):WE.wf (Z4 i a b):=
 ⟨Qr (by show(-1000000000:Int)<=i;omega) (by show(i:Int)<=1000000000;omega),Zp a b,BL _ _ _,BL _ _ _⟩
theorem uH{one:T->T->E}{a b:T}(ha:a.words.length<=1000)(hb:b.words.length<=1000)(ha2:a.kids.length<=1000)(hb2:b.kids.length<=1000)(h:∀i,Nh (one (a.kids.getD i T0) (b.kids.getD i T0))):Nh (eP one a b):=by
 have h1:=Q5 a b (max a.words.length b.words.length);have h2:=MR one a b (max a.kids.length b.kids.length);unfold eP;refine wfE_iff.2 ⟨by simp[BD],by simp[BD],D8,D8,fun x hx=>?_,by show(HU a b _).length*32<=_;omega,by show(C7 one a b _).length*208<=_;omega,iS,fun x hx=>?_,iS⟩
 ·have hx':x∈HU a b (max a.words.length b.words.length):=hx;unfold HU at hx';rw[List.mem_filterMap]at hx';obtain⟨i,hi,e⟩:=hx';split at e
  ·cases e
  ·simp only[Option.some.injEq]at e;subst e;have:i<max a.words.length b.words.length:=by simpa using hi
   exact xF oF _ _
 ·obtain⟨i,hi,e,_⟩:=Va (show x∈C7 one a b _ from hx);subst e;exact⟨Qr (by show(-1000000000:Int)<=i;omega) (by show(i:Int)<=1000000000;omega),h i⟩
theorem zz{one:T->T->E}{A B:List T}{N:Nat}(hN:N<=1000000)(lA:A.length<=1000000)(lB:B.length<=1000000)(hA:∀t,t∈A->AE t)(hB:∀t,t∈B->AE t)(h1:∀x,x∈A->∀y,y∈B->Nh (one x y)){o:OP}(h:Zq one A B N o):xi o:=by
 cases h with
 |keep n h=>exact⟨by simp[BD],Qr (by show(-1000000000:Int)<=n;omega) (by show(n:Int)<=1000000000;omega),iS,iS,Dh⟩
 |del l h g k=>exact⟨by simp[BD],by simp[BD],fun t ht=>hA t (g t ht),by show l.length*56<=_;omega,Dh⟩
 |ins l h g k=>exact⟨by simp[BD],by simp[BD],fun t ht=>hB t (g t ht),by show l.length*56<=_;omega,Dh⟩
 |desc x y hx hy=>exact⟨by simp[BD],by simp[BD],iS,iS,h1 x hx y hy⟩
theorem Wk{a b:T}(ha:AE a)(hb:AE b):Nh (.mk 1 a b [] [] 0 []):=wfE_iff.2 ⟨by simp[BD],by simp[BD],ha,hb,iS,iS,iS,iS,iS,iS⟩
theorem pq{one:T->T->E}{most:Int}{a b:T}(wfa:AE a)(ha:a.kids.length<=1000)(hb:b.kids.length<=1000)(wa:∀t,t∈a.kids->AE t)(wb:∀t,t∈b.kids->AE t)(h:∀x,x∈a.kids->∀y,y∈b.kids->Nh (one x y)):Nh (Si one most a b):=by
 have h1:=cz one most a b;rw[RD];exact wfE_iff.2 ⟨by simp[BD],(wfT_iff.1 wfa).k,D8,D8,iS,iS,iS,by show(QT one most a b).length*240<=_;omega,iS,fun x hx=>zz oF oF oF wa wb h (ik one most a b x hx)⟩
theorem V2(most:Int):∀(f g:Nat)(a b:T),SU f a->SU g b->Nh (El most f a b)
 |0,g,a,b,ha,hb=>by
  rw[El];split
  ·exact Dh
  ·exact Wk (Au ha).1 (Au hb).1
 |f+1,g,a,b,ha,hb=>by
  obtain⟨a1,a2,a3,a4⟩:=Au ha;obtain⟨b1,b2,b3,b4⟩:=Au hb;rw[El];split
  ·exact Dh
  ·split
   ·exact uH a3 b3 a4 b4 fun i=>V2 most f (g-1) _ _ (Ll ha i) (Ll hb i)
   ·split
    ·exact pq a1 a4 b4 (fun t ht=>(Au (BI ha t ht)).1) (fun t ht=>(Au (BI hb t ht)).1) fun x hx y hy=>V2 most f (g-1) x y (BI ha x hx) (BI hb y hy)
    ·exact Wk a1 b1
theorem o7(n:Int):BD (i64.wrap n):=by
 rw[IntKind.wrap_i64];exact⟨oF,oF⟩
theorem rZ{out:List OP}{n:Int}(h:∀o,o∈out->xi o)(hn:BD n):∀o,o∈Ni out n->xi o:=by
 unfold Ni;split
 ·rename_i m l e he;intro o ho;have hm:=List.mem_of_getLast? he;rcases List.mem_append.1 ho with ho|ho
  ·exact h o (List.dropLast_subset _ ho)
  ·rw[List.mem_singleton]at ho;subst ho;have:=h _ hm;exact⟨this.k,o7 _,this.l,this.ll,this.e⟩
 ·intro o ho;rcases List.mem_append.1 ho with ho|ho
  ·exact h o ho
  ·rw[List.mem_singleton]at ho;subst ho;exact⟨by simp[BD],hn,iS,iS,Dh⟩
theorem tR{out:List OP}{g b:List T}(h:∀o,o∈out->xi o)(hg:∀t,t∈g->AE t)(hb:∀t,t∈b->AE t)(lg:g.length<=1000000)(lb:b.length<=1000000):∀o,o∈Ji out g b->xi o:=by
 intro o ho;unfold Ji DX Cm at ho;rcases List.mem_append.1 ho with ho|ho
 ·exact h o ho
 ·rcases List.mem_append.1 ho with ho|ho
  ·split at ho
   ·simp at ho
   ·rw[List.mem_singleton]at ho;subst ho;exact⟨by simp[BD],by simp[BD],hg,by show g.length*56<=_;omega,Dh⟩
  ·split at ho
   ·simp at ho
   ·rw[List.mem_singleton]at ho;subst ho;exact⟨by simp[BD],by simp[BD],hb,by show b.length*56<=_;omega,Dh⟩
def WfS(o:OP):Prop:=BD o.n/\(∀t,t∈o.l->AE t)/\(o.kind=0\/o.kind=1\/o.kind=2\/o.kind=3)/\(o.kind=3->Nh o.e)
theorem OQ(list:Int):∀(os out:List OP)(g b:List T),(∀o,o∈os->WfS o)->(∀o,o∈out->xi o)->(∀t,t∈g->AE t)->(∀t,t∈b->AE t)->g.length+b.length+DI os<=1000000->∀o,o∈Dw list os out g b->xi o
 |[],out,g,b,h1,h2,h3,h4,h5=>by
  rw[Dw];exact tR h2 h3 h4 oF oF
 |x::os,out,g,b,h1,h2,h3,h4,h5=>by
  rw[SC]at h5;have hx:=h1 x iS;have hos:∀o,o∈os->WfS o:=fun o ho=>h1 o (List.mem_cons_of_mem _ ho);have fl:=tR h2 h3 h4 oF oF;have nn:∀(l:List T),(∀t,t∈l->AE t)->∀t,t∈l++x.l.map Af->AE t:=fun l hl t ht=>by
   rcases List.mem_append.1 ht with ht|ht
   ·exact hl t ht
   ·obtain⟨u,hu,rfl⟩:=List.mem_map.1 ht;exact CY _ (hx.2.1 u hu)
  have z:∀t:T,t∈([]:List T)->AE t:=iS
  rw[Dw];split
  ·exact OQ list os _ _ _ hos (rZ fl hx.1) z z (by simp;omega)
  ·split
   ·exact OQ list os _ _ _ hos h2 (nn g h3) h4 (by simp;omega)
   ·split
    ·exact OQ list os _ _ _ hos h2 h3 (nn b h4) (by simp;omega)
    ·split
     ·exact OQ list os _ _ _ hos (rZ fl (by simp[BD])) z z (by simp;omega)
     ·refine OQ list os _ _ _ hos (fun o ho=>?_) z z (by simp;omega);rcases List.mem_append.1 ho with ho|ho
      ·exact fl o ho
      ·rw[List.mem_singleton]at ho;subst ho;exact⟨by simp[BD],by simp[BD],iS,iS,hx.2.2.2 (by have:=hx.2.2.1;omega)⟩
theorem mi(out:List OP)(n:Int):(Ni out n).length<=out.length+1:=by
 unfold Ni;split
 ·simp
  try omega
 ·simp
theorem nV(out:List OP)(g b:List T):(Ji out g b).length<=out.length+2:=by
 unfold Ji DX Cm;split<;>split<;>simp
theorem L8(list:Int):∀(os out:List OP)(g b:List T),(Dw list os out g b).length<=out.length+3*os.length+2
 |[],out,g,b=>by
  rw[Dw];have:=nV out g b;simp;omega
 |x::os,out,g,b=>by
  have h1:=nV out g b;have h2:=mi (Ji out g b);rw[Dw,List.length_cons];split
  ·have:=L8 list os (Ni (Ji out g b) x.n) [] [];have:=h2 x.n;omega
  ·split
   ·have:=L8 list os out (g++x.l.map Af) b;omega
   ·split
    ·have:=L8 list os out g (b++x.l.map Af);omega
    ·split
     ·have:=L8 list os (Ni (Ji out g b) 1) [] [];have:=h2 1;omega
     ·have:=L8 list os (Ji out g b++[.mk 3 0 [] x.e]) [] [];simp at this;omega
theorem gG(os:List OP):DI (os.map IY)=DI os:=by
 unfold DI;rw[List.map_map];rfl
theorem uu:∀e:E,Nh e->Mg e->Nh (Hn e):=by
 refine E.ind fun k o n ws ks l os ihk iho hw h=>?_;rw[Mg]at h;obtain⟨hk,hl,hon,hwl,hkl,hol,hsum,hks,hos⟩:=h;have w:=wfE_iff.1 hw;rw[EA];split
 ·exact Wk (CY _ w.o) (CY _ w.n)
 ·split
  ·rename_i h1 h2;refine wfE_iff.2 ⟨by simp[BD],by simp[BD],D8,D8,w.w,w.wl,by show(ks.map Xf).length*208<=_;simp;omega,iS,fun x hx=>?_,iS⟩;obtain⟨y,hy,rfl⟩:=List.mem_map.1 (show x∈ks.map Xf from hx);have:=w.ks y hy;exact⟨this.1,ihk y hy this.2 (NP (hks h2) y hy)⟩
  ·split
   ·rename_i h1 h2 h3;have hO:∀o,o∈os.map IY->WfS o:=fun o ho=>by
     obtain⟨y,hy,rfl⟩:=List.mem_map.1 ho;have g1:=w.os y hy;obtain⟨g2,g3,g4⟩:=LD (hos h3) y hy;exact⟨g1.n,g3,g2,fun e=>iho y hy g1.e (g4 e)⟩
    have hlen:=L8 l (os.map IY) [] [] [];simp at hlen;refine wfE_iff.2 ⟨by simp[BD],w.l,D8,D8,iS,iS,iS,by show(Dw l (os.map IY) [] [] []).length*240<=_;omega,iS,fun x hx=>OQ l _ _ _ _ hO iS iS iS (by rw[gG];simpa using hsum) x hx⟩
   ·exact Dh
theorem AaH{a b:T}(ha:AE a)(hb:AE b)(pa:Bk a<=1000)(pb:Bk b<=1000){most:Int}:Nh (JB most a b):=by
 have oa:=Ep a ha pa 1000 pa;have ob:=Ep b hb pb 1000 pb;exact uu _ (V2 most 1000 1000 _ _ oa ob) (Mw most 1000 1000 _ _ oa ob)
inductive fM(list:Int):OP->Prop
 |keep (n:Int):fM list (.mk 0 n [] E0)
 |del (l:List T) (h:l≠[]) (g:l.map Af=l):fM list (.mk 1 0 l E0)
 |ins (l:List T) (h:l≠[]) (g:l.map Af=l):fM list (.mk 2 0 l E0)
 |desc (e:E) (h:Hb list e=false) (g:Hn e=e):fM list (.mk 3 0 [] e)
def zq(s t:Int):Prop:=¬(s=0/\t=0)/\(t=1->s≠1/\s≠2)/\(t=2->s≠2)
def Wr(list:Int):Int->List OP->Prop
 |_,[]=>True
 |s,o::os=>fM list o/\zq s o.kind/\Wr list o.kind os
def VG:Int->List OP->Int
 |s,[]=>s
 |_,o::os=>VG o.kind os
theorem Fm:∀(W:List OP)(s:Int)(o:OP),VG s (W++[o])=o.kind
 |[],s,o=>rfl
 |x::W,s,o=>Fm W x.kind o
theorem KV{list:Int}:∀{W:List OP} {s:Int} {o:OP},Wr list s W->fM list o->zq (VG s W) o.kind->Wr list s (W++[o])
 |[],s,o,_,h2,h3=>⟨h2,h3,trivial⟩
 |x::W,s,o,h1,h2,h3=>⟨h1.1,h1.2.1,KV h1.2.2 h2 h3⟩
theorem fu{list:Int}:∀{W:List OP} {s:Int} {o:OP},Wr list s (W++[o])->Wr list s W/\fM list o/\zq (VG s W) o.kind
 |[],s,o,h=>⟨trivial,h.1,h.2.1⟩
 |x::W,s,o,h=>by
  obtain⟨h1,h2,h3⟩:=h;obtain⟨g1,g2,g3⟩:=fu h3;exact⟨⟨h1,h2,g1⟩,g2,g3⟩
theorem SV{out:List OP}{n:Int}(h:∀m l e,out.getLast?≠some (.mk 0 m l e)):Ni out n=out++[.mk 0 n [] E0]:=by
 unfold Ni;split
 ·rename_i m l e he;exact absurd he (h m l e)
 ·rfl
theorem OD(out:List OP):Ji out [] []=out:=by simp[Ji,DX,Cm]
theorem bT{out:List OP}{l:List T}(h:l≠[]):Ji out l []=out++[.mk 1 0 l E0]:=by simp[Ji,DX,Cm,h]
theorem Z7{out:List OP}(g:List T){l:List T}(h:l≠[]):Ji out g l=Ji out g []++[.mk 2 0 l E0]:=by simp[Ji,Cm,h]
theorem dZ{out:List OP}{g b:List T}(h:g≠[]\/b≠[]):∀m l e,(Ji out g b).getLast?≠some (.mk 0 m l e):=by
 intro m l e;by_cases hb:b=[]
 ·subst hb;have hg:g≠[]:=by rcases h with h|h;exact h;exact absurd rfl h
  rw[bT hg];simp
 ·rw[Z7 g hb];simp
theorem Vc{list:Int}:∀(W:List OP)(s:Int)(out:List OP)(g b:List T),Wr list s W->(s=1->g≠[]/\b=[])->(s=2->b≠[])->(s≠1->s≠2->g=[]/\b=[])->(s≠0->s≠1->s≠2->∀m l e,out.getLast?≠some (.mk 0 m l e))->Dw list (W.map IY) out g b=Ji out g b++W
 |[],s,out,g,b,_,_,_,_,_=>by simp[Dw]
 |o::W,s,out,g,b,h,c1,c2,c3,c4=>by
  obtain⟨h1,h2,h3⟩:=h;rw[List.map_cons,Dw];cases h1 with
  |keep n=>
   have hl:∀m l e,(Ji out g b).getLast?≠some (.mk 0 m l e):=by
    have hs:s≠0:=fun e=>h2.1 ⟨e,rfl⟩;by_cases e1:s=1
    ·exact dZ (.inl (c1 e1).1)
    ·by_cases e2:s=2
     ·exact dZ (.inr (c2 e2))
     ·obtain⟨rfl,rfl⟩:=c3 e1 e2;rw[OD];exact c4 hs e1 e2
   rw[if_pos (show(IY (.mk 0 n [] E0)).kind=0 from rfl)];show Dw list (W.map IY) (Ni (Ji out g b) n) [] []=_;rw[SV hl,Vc W 0 _ [] [] h3 (fun h=>absurd h dO) (fun h=>absurd h dO) (fun _ _=>⟨rfl,rfl⟩) (fun h=>absurd rfl h),OD];simp
  |del l hne hn=>
   obtain⟨s1,s2⟩:=h2.2.1 rfl;obtain⟨rfl,rfl⟩:=c3 s1 s2;rw[if_neg (show ¬(IY (.mk 1 0 l E0)).kind=0 by show ¬(1:Int)=0;decide),if_pos (show(IY (.mk 1 0 l E0)).kind=1 from rfl)];show Dw list (W.map IY) out ([]++l.map Af) []=_;rw[List.nil_append,hn,Vc W 1 _ l [] h3 (fun _=>⟨hne,rfl⟩) (fun h=>absurd h dO) (fun h=>absurd rfl h) (fun _ h=>absurd rfl h),bT hne,OD];simp
  |ins l hne hn=>
   have s2:=h2.2.2 rfl;have hb:b=[]:=by
    by_cases e1:s=1
    ·exact(c1 e1).2
    ·exact(c3 e1 s2).2
   subst hb;rw[if_neg (show ¬(IY (.mk 2 0 l E0)).kind=0 by show ¬(2:Int)=0;decide),if_neg (show ¬(IY (.mk 2 0 l E0)).kind=1 by show ¬(2:Int)=1;decide),if_pos (show(IY (.mk 2 0 l E0)).kind=2 from rfl)];show Dw list (W.map IY) out g ([]++l.map Af)=_;rw[List.nil_append,hn,Vc W 2 _ g l h3 (fun h=>absurd h dO) (fun _=>hne) (fun _ h=>absurd rfl h) (fun _ _ h=>absurd rfl h),Z7 g hne];simp
  |desc e hi hn=>
   have hi':Hb list (IY (.mk 3 0 [] e)).e=false:=by show Hb list (Hn e)=false;rw[hn];exact hi
   rw[if_neg (show ¬(IY (.mk 3 0 [] e)).kind=0 by show ¬(3:Int)=0;decide),if_neg (show ¬(IY (.mk 3 0 [] e)).kind=1 by show ¬(3:Int)=1;decide),if_neg (show ¬(IY (.mk 3 0 [] e)).kind=2 by show ¬(3:Int)=2;decide),if_neg (by rw[hi'];decide)];show Dw list (W.map IY) (Ji out g b++[.mk 3 0 [] (Hn e)]) [] []=_;rw[hn,Vc W 3 _ [] [] h3 (fun h=>absurd h dO) (fun h=>absurd h dO) (fun _ _=>⟨rfl,rfl⟩) (fun _ _ _ m l e=>iS),OD];simp
theorem Aax{list:Int}{out:List OP}{g b:List T}(h:Wr list 4 out)(he:VG 4 out≠1/\VG 4 out≠2)(hg:g.map Af=g)(hb:b.map Af=b):Wr list 4 (Ji out g b):=by
 have h1:Wr list 4 (Ji out g [])/\VG 4 (Ji out g [])≠2:=by
  by_cases e:g=[]
  ·subst e;rw[OD];exact⟨h,he.2⟩
  ·rw[bT e];refine⟨KV h (.del g e hg) ⟨fun h=>absurd h.2 (by show ¬(1:Int)=0;decide),fun _=>he,fun h=>absurd h (by show ¬(1:Int)=2;decide)⟩,?_⟩;rw[Fm];show ¬(1:Int)=2;decide
 by_cases e:b=[]
 ·subst e;exact h1.1
 ·rw[Z7 g e];exact KV h1.1 (.ins b e hb) ⟨fun h=>absurd h.2 (by show ¬(2:Int)=0;decide),fun h=>absurd h (by show ¬(2:Int)=1;decide),fun _=>h1.2⟩
theorem Afy{list:Int}{F:List OP}(n:Int)(h:Wr list 4 F):Wr list 4 (Ni F n)/\VG 4 (Ni F n)=0:=by
 rcases List.eq_nil_or_concat F with rfl|⟨D,x,rfl⟩
 ·exact⟨⟨.keep n,⟨fun h=>absurd h.1 dO,fun h=>absurd h (by show ¬(0:Int)=1;decide),fun h=>absurd h (by show ¬(0:Int)=2;decide)⟩,trivial⟩,rfl⟩
 ·rw[List.concat_eq_append]at h ⊢;obtain⟨g1,g2,g3⟩:=fu h;cases g2 with
  |keep m=>
   have e:Ni (D++[OP.mk 0 m [] E0]) n=D++[.mk 0 (i64.wrap (m+n)) [] E0]:=by
    unfold Ni;rw[List.getLast?_concat];simp
   rw[e];exact⟨KV g1 (.keep _) g3,Fm _ _ _⟩
  |del l hne hn=>
   rw[SV iS];refine⟨KV h (.keep n) ?_,Fm _ _ _⟩;rw[Fm];exact⟨fun h=>absurd h.1 (by show ¬(1:Int)=0;decide),fun h=>absurd h (by show ¬(0:Int)=1;decide),fun h=>absurd h (by show ¬(0:Int)=2;decide)⟩
  |ins l hne hn=>
   rw[SV iS];refine⟨KV h (.keep n) ?_,Fm _ _ _⟩;rw[Fm];exact⟨fun h=>absurd h.1 (by show ¬(2:Int)=0;decide),fun h=>absurd h (by show ¬(0:Int)=1;decide),fun h=>absurd h (by show ¬(0:Int)=2;decide)⟩
  |desc e hi hn=>
   rw[SV iS];refine⟨KV h (.keep n) ?_,Fm _ _ _⟩;rw[Fm];exact⟨fun h=>absurd h.1 (by show ¬(3:Int)=0;decide),fun h=>absurd h (by show ¬(0:Int)=1;decide),fun h=>absurd h (by show ¬(0:Int)=2;decide)⟩
theorem Ch(l:List T):(l.map Af).map Af=l.map Af:=by
 rw[List.map_map];exact List.map_congr_left fun x _=>B8 x
theorem Qd{list:Int}:∀(os out:List OP)(g b:List T),(∀o,o∈os->o.kind≠0->o.kind≠1->o.kind≠2->Hn o.e=o.e)->Wr list 4 out->(VG 4 out≠1/\VG 4 out≠2)->g.map Af=g->b.map Af=b->Wr list 4 (Dw list os out g b)
 |[],out,g,b,_,h,he,hg,hb=>by
  rw[Dw];exact Aax h he hg hb
 |o::os,out,g,b,ho,h,he,hg,hb=>by
  have ho':∀o,o∈os->o.kind≠0->o.kind≠1->o.kind≠2->Hn o.e=o.e:=fun x hx=>ho x (List.mem_cons_of_mem _ hx);have hf:=Aax h he hg hb;have k:=fun n=>Afy n hf;rw[Dw];split
  ·exact Qd os _ [] [] ho' (k o.n).1 (by rw[(k o.n).2];decide) rfl rfl
  ·split
   ·exact Qd os _ _ _ ho' h he (by rw[List.map_append,hg,Ch]) hb
   ·split
    ·exact Qd os _ _ _ ho' h he hg (by rw[List.map_append,hb,Ch])
    ·split
     ·exact Qd os _ [] [] ho' (k 1).1 (by rw[(k 1).2];decide) rfl rfl
     ·rename_i h0 h1 h2 hi;have hlast:zq (VG 4 (Ji out g b)) (OP.mk 3 0 [] o.e).kind:=⟨fun h=>absurd h.2 (by show ¬(3:Int)=0;decide),fun h=>absurd h (by show ¬(3:Int)=1;decide),fun h=>absurd h (by show ¬(3:Int)=2;decide)⟩;refine Qd os _ [] [] ho' (KV hf (.desc o.e (by simpa using hi) (ho o iS h0 h1 h2)) hlast) ?_ rfl rfl;rw[Fm];show(3:Int)≠1/\(3:Int)≠2;decide
theorem Qx:Hn E0=E0:=by unfold E0;rw[EA];simp
theorem mI:∀e:E,Mg e->Hn (Hn e)=Hn e:=by
 refine E.ind fun k o n ws ks l os ihk iho h=>?_;rw[Mg]at h;obtain⟨hk,hl,hon,hwl,hkl,hol,hsum,hks,hos⟩:=h;rw[EA];split
 ·rw[EA,if_pos rfl,B8,B8]
 ·split
  ·rename_i h1 h2;rw[EA,if_neg dO,if_pos rfl,List.map_map];congr 1;refine List.map_congr_left fun x hx=>?_;show KE.mk x.at_ (Hn (Hn x.e))=Xf x;rw[ihk x hx (NP (hks h2) x hx)];rfl
  ·split
   ·rename_i h1 h2 h3;rw[EA,if_neg dO,if_neg dO,if_pos rfl];have hw:=Qd (list:=l) (os.map IY) [] [] [] (fun x hx e0 e1 e2=>by
     obtain⟨y,hy,rfl⟩:=List.mem_map.1 hx;obtain⟨g1,g2,g3⟩:=LD (hos h3) y hy;have:y.kind=3:=by
      have e0':y.kind≠0:=e0;have e1':y.kind≠1:=e1;have e2':y.kind≠2:=e2;omega
     exact iho y hy (g3 this)) trivial (by show(4:Int)≠1/\(4:Int)≠2;decide) rfl rfl
    have:=Vc _ 4 [] [] [] hw (fun h=>absurd h dO) (fun h=>absurd h dO) (fun _ _=>⟨rfl,rfl⟩) (fun _ _ _ m l e=>iS);rw[this,OD,List.nil_append]
   ·exact Qx
def Nz(l:List T):Nat:=if l=[]then 0 else 1
theorem gz(out:List OP)(g b:List T):(Ji out g b).length=out.length+Nz g+Nz b:=by
 unfold Ji DX Cm Nz;split<;>split<;>simp
theorem eW(l:List T):Nz l<=1:=by unfold Nz;split<;>omega
theorem JU(list:Int):∀(os out:List OP)(g b:List T),(Dw list os out g b).length<=out.length+os.length+Nz g+Nz b
 |[],out,g,b=>by
  rw[Dw,gz];simp
 |x::os,out,g,b=>by
  have h1:=gz out g b;have h2:=mi (Ji out g b);have z:Nz []=0:=rfl;rw[Dw,List.length_cons];split
  ·have:=JU list os (Ni (Ji out g b) x.n) [] [];have:=h2 x.n;omega
  ·split
   ·have:=JU list os out (g++x.l.map Af) b;have g1:=eW (g++x.l.map Af);have g2:Nz (g++x.l.map Af)<=Nz g+1:=oF
    omega
   ·split
    ·have:=JU list os out g (b++x.l.map Af);have g1:=eW (b++x.l.map Af);omega
    ·split
     ·have:=JU list os (Ni (Ji out g b) 1) [] [];have:=h2 1;omega
     ·have:=JU list os (Ji out g b++[.mk 3 0 [] x.e]) [] [];rw[List.length_append,List.length_singleton]at this;omega
theorem mU(out:List OP)(n:Int):DI (Ni out n)=DI out:=by
 unfold Ni;split
 ·rename_i m l e he;rcases List.eq_nil_or_concat out with rfl|⟨D,x,rfl⟩
  ·simp at he
  ·rw[List.concat_eq_append]at he ⊢;rw[List.getLast?_concat]at he;cases he;rw[List.dropLast_concat,DP,DP];rfl
 ·rw[DP];rfl
theorem UU(out:List OP)(g b:List T):DI (Ji out g b)=DI out+g.length+b.length:=by
 unfold Ji;rw[DP,DP,OT,OV];omega
theorem LV(list:Int):∀(os out:List OP)(g b:List T),DI (Dw list os out g b)<=DI out+g.length+b.length+DI os
 |[],out,g,b=>by
  rw[Dw,UU];omega
 |x::os,out,g,b=>by
  rw[Dw,SC];split
  ·have:=LV list os (Ni (Ji out g b) x.n) [] [];rw[mU,UU]at this;simp only[List.length_nil]at this;omega
  ·split
   ·have:=LV list os out (g++x.l.map Af) b;rw[List.length_append,List.length_map]at this;omega
   ·split
    ·have:=LV list os out g (b++x.l.map Af);rw[List.length_append,List.length_map]at this;omega
    ·split
     ·have:=LV list os (Ni (Ji out g b) 1) [] [];rw[mU,UU]at this;simp only[List.length_nil]at this;omega
     ·have:=LV list os (Ji out g b++[.mk 3 0 [] x.e]) [] [];rw[DP,UU,show DI [OP.mk 3 0 [] x.e]=0 from rfl]at this;simp only[List.length_nil]at this;omega
theorem vM{list:Int}{P:OP->Prop}(hk:∀n,P (.mk 0 n [] E0))(hk':∀m n l e,P (.mk 0 m l e)->P (.mk 0 n l e))(hd:∀l,(∀t,t∈l->AE t)->P (.mk 1 0 l E0))(hi:∀l,(∀t,t∈l->AE t)->P (.mk 2 0 l E0)):∀(os out:List OP)(g b:List T),(∀o,o∈os->(∀t,t∈o.l->AE t)/\(o.kind≠0->o.kind≠1->o.kind≠2->P (.mk 3 0 [] o.e)))->(∀o,o∈out->P o)->(∀t,t∈g->AE t)->(∀t,t∈b->AE t)->∀o,o∈Dw list os out g b->P o:=by
 have kp:∀{out:List OP} (n:Int),(∀o,o∈out->P o)->∀o,o∈Ni out n->P o:=fun {out} n h o ho=>by
  unfold Ni at ho;split at ho
  ·rename_i m l e he;rcases List.mem_append.1 ho with ho|ho
   ·exact h o (List.dropLast_subset _ ho)
   ·rw[List.mem_singleton]at ho;subst ho;exact hk' m _ l e (h _ (List.mem_of_getLast? he))
  ·rcases List.mem_append.1 ho with ho|ho
   ·exact h o ho
   ·rw[List.mem_singleton]at ho;subst ho;exact hk n
 have fl:∀{out:List OP} {g b:List T},(∀o,o∈out->P o)->(∀t,t∈g->AE t)->(∀t,t∈b->AE t)->∀o,o∈Ji out g b->P o:=fun {out g b} h hg hb o ho=>by
  unfold Ji DX Cm at ho;rcases List.mem_append.1 ho with ho|ho
  ·exact h o ho
  ·rcases List.mem_append.1 ho with ho|ho
   ·split at ho
    ·simp at ho
    ·rw[List.mem_singleton]at ho;subst ho;exact hd g hg
   ·split at ho
    ·simp at ho
    ·rw[List.mem_singleton]at ho;subst ho;exact hi b hb
 have z:∀t:T,t∈([]:List T)->AE t:=iS
 intro os;induction os with
 |nil=>
  intro out g b _ ho hg hb;rw[Dw];exact fl ho hg hb
 |cons x os ih=>
  intro out g b hos ho hg hb;have hos':=fun o (h:o∈os)=>hos o (List.mem_cons_of_mem _ h);have hx:=hos x iS;have nn:∀(l:List T),(∀t,t∈l->AE t)->∀t,t∈l++x.l.map Af->AE t:=fun l hl t ht=>by
   rcases List.mem_append.1 ht with ht|ht
   ·exact hl t ht
   ·obtain⟨u,hu,rfl⟩:=List.mem_map.1 ht;exact CY _ (hx.1 u hu)
  rw[Dw];split
  ·exact ih _ _ _ hos' (kp _ (fl ho hg hb)) z z
  ·split
   ·exact ih _ _ _ hos' ho (nn g hg) hb
   ·split
    ·exact ih _ _ _ hos' ho hg (nn b hb)
    ·split
     ·exact ih _ _ _ hos' (kp _ (fl ho hg hb)) z z
     ·rename_i h0 h1 h2 _;refine ih _ _ _ hos' (fun o h=>?_) z z;rcases List.mem_append.1 h with h|h
      ·exact fl ho hg hb o h
      ·rw[List.mem_singleton]at h;subst h;exact hx.2 h0 h1 h2
theorem zF:∀e:E,Mg e->Mg (Hn e):=by
 refine E.ind fun k o n ws ks l os ihk iho h=>?_;rw[Mg]at h;obtain⟨hk,hl,hon,hwl,hkl,hol,hsum,hks,hos⟩:=h;rw[EA];split
 ·rename_i h1;exact UM (CY _ (hon h1).1) (CY _ (hon h1).2)
 ·split
  ·rename_i h1 h2;rw[Mg];refine⟨.inr (.inr (.inl rfl)),fun _=>rfl,fun h=>absurd h dO,hwl,by simpa using hkl,iS,by simp[DI],fun _=>UH fun x hx=>?_,fun h=>absurd h dO⟩;obtain⟨y,hy,rfl⟩:=List.mem_map.1 hx;exact ihk y hy (NP (hks h2) y hy)
  ·split
   ·rename_i h1 h2 h3;have l1:=JU l (os.map IY) [] [] [];have l2:=LV l (os.map IY) [] [] [];rw[gG,show DI []=0 from rfl]at l2;rw[List.length_map,show Nz []=0 from rfl]at l1;simp only[List.length_nil]at l1 l2;rw[Mg];refine⟨.inr (.inr (.inr rfl)),fun h=>absurd rfl h,fun h=>absurd h dO,iS,iS,oF,oF,fun h=>absurd h dO,fun _=>UC fun x hx=>?_⟩;refine vM (P:=fun x=>(x.kind=0\/x.kind=1\/x.kind=2\/x.kind=3)/\(∀t,t∈x.l->AE t)/\(x.kind=3->Mg x.e)) (fun n=>⟨.inl rfl,fun t (h:t∈([]:List T))=>by simp at h,fun h=>absurd h (by show ¬(0:Int)=3;decide)⟩) (fun m n l e h=>⟨.inl rfl,h.2.1,fun h=>absurd h (by show ¬(0:Int)=3;decide)⟩) (fun l hl=>⟨.inr (.inl rfl),hl,fun h=>absurd h (by show ¬(1:Int)=3;decide)⟩) (fun l hl=>⟨.inr (.inr (.inl rfl)),hl,fun h=>absurd h (by show ¬(2:Int)=3;decide)⟩) _ _ _ _ (fun o ho=>?_) iS iS iS x hx;obtain⟨y,hy,rfl⟩:=List.mem_map.1 ho;obtain⟨g1,g2,g3⟩:=LD (hos h3) y hy;refine⟨g2,fun e0 e1 e2=>⟨.inr (.inr (.inr rfl)),fun t (h:t∈([]:List T))=>by simp at h,fun _=>?_⟩⟩;have:y.kind=3:=by
     have e0':y.kind≠0:=e0;have e1':y.kind≠1:=e1;have e2':y.kind≠2:=e2;omega
    exact iho y hy (g3 this)
   ·exact aH
theorem Ux{a b:T}(ha:AE a)(hb:AE b)(pa:Bk a<=1000)(pb:Bk b<=1000){most:Int}:Mg (JB most a b)/\Hn (JB most a b)=JB most a b:=by
 have h:=Mw most 1000 1000 _ _ (Ep a ha pa 1000 pa) (Ep b hb pb 1000 pb);exact⟨zF _ h,mI _ h⟩
inductive Qe{α β:Type}(R:α->β->Prop):List Nat->List α->List β->Prop
 |nil:Qe R [] [] []
 |keep {us:List Nat} {a:List α} {b:List β} (x:α) (y:β) (h:R x y):Qe R us a b->Qe R (0::us) (x::a) (y::b)
 |del {us:List Nat} {a:List α} {b:List β} (x:α):Qe R us a b->Qe R (1::us) (x::a) b
 |ins {us:List Nat} {a:List α} {b:List β} (y:β):Qe R us a b->Qe R (2::us) a (y::b)
section
variable {α β:Type} {R:α->β->Prop}
theorem Mt{us vs:List Nat}{a c:List α}{b d:List β}(h:Qe R us a b)(g:Qe R vs c d):Qe R (us++vs) (a++c) (b++d):=by
 induction h with
 |nil=>exact g
 |keep x y h _ ih=>exact .keep x y h ih
 |del x _ ih=>exact .del x ih
 |ins y _ ih=>exact .ins y ih
theorem Fk:∀{us vs:List Nat} {a:List α} {b:List β},Qe R (us++vs) a b->∃a1 a2 b1 b2,a=a1++a2/\b=b1++b2/\Qe R us a1 b1/\Qe R vs a2 b2
 |[],vs,a,b,h=>⟨[],a,[],b,rfl,rfl,.nil,h⟩
 |u::us,vs,a,b,h=>by
  cases h with
  |keep x y r h=>
   obtain⟨a1,a2,b1,b2,rfl,rfl,h1,h2⟩:=Fk h;exact⟨x::a1,a2,y::b1,b2,rfl,rfl,.keep x y r h1,h2⟩
  |del x h=>
   obtain⟨a1,a2,b1,b2,rfl,rfl,h1,h2⟩:=Fk h;exact⟨x::a1,a2,b1,b2,rfl,rfl,.del x h1,h2⟩
  |ins y h=>
   obtain⟨a1,a2,b1,b2,rfl,rfl,h1,h2⟩:=Fk h;exact⟨a1,a2,y::b1,b2,rfl,rfl,.ins y h1,h2⟩
theorem QV:∀(b:List β),Qe R (List.replicate b.length 2) [] b
 |[]=>.nil
 |y::b=>.ins y (QV b)
theorem dn:∀(i:Nat){us:List Nat}{a:List α}{b:List β},Qe R (List.replicate i 2++1::us) a b->Qe R (1::(List.replicate i 2++us)) a b
 |0,us,a,b,h=>h
 |i+1,us,a,b,h=>by
  cases h with
  |ins y h=>
   cases dn i h with
   |del x h=>exact .del x (.ins y h)
theorem KC:∀(n:Nat){a:List α}{b:List β},Qe R (List.replicate n 2) a b->a=[]/\b.length=n
 |0,a,b,h=>by cases h;exact⟨rfl,rfl⟩
 |n+1,a,b,h=>by
  cases h with
  |ins y h=>
   obtain⟨h1,h2⟩:=KC n h;exact⟨h1,by simp[h2]⟩
theorem Nv:∀(n:Nat){a:List α}{b:List β},Qe R (List.replicate n 1) a b->b=[]/\a.length=n
 |0,a,b,h=>by cases h;exact⟨rfl,rfl⟩
 |n+1,a,b,h=>by
  cases h with
  |del y h=>
   obtain⟨h1,h2⟩:=Nv n h;exact⟨h1,by simp[h2]⟩
theorem UT:∀(us:List Nat)(k d i:Nat){a:List α}{b:List β},(k=0\/(d=0/\i=0))->Qe R (List.replicate k 0++(List.replicate d 1++(List.replicate i 2++us))) a b->Qe R (Bu (QA us k d i)) a b
 |[],k,d,i,a,b,hc,h=>by
  simp only[QA,JX,ND];simpa using h
 |x::us,k,d,i,a,b,hc,h=>by
  rw[QA];by_cases h0:x=0
  ·subst h0;rw[if_pos rfl];simp only[JX,ND];have e:List.replicate k 0++(List.replicate d 1++(List.replicate i 2++0::us))=(List.replicate d 1++List.replicate i 2)++(List.replicate (k+1) 0++us):=by
    rcases hc with rfl|⟨rfl,rfl⟩
    ·simp
    ·simp[List.replicate_succ']
   rw[e]at h;obtain⟨a1,a2,b1,b2,rfl,rfl,h1,h2⟩:=Fk h;rw[<-List.append_assoc];exact Mt h1 (UT us (k+1) 0 0 (.inr ⟨rfl,rfl⟩) (by simpa using h2))
  ·rw[if_neg h0];simp only[JX,ND];obtain⟨a1,a2,b1,b2,rfl,rfl,h1,h2⟩:=Fk h;refine Mt h1 ?_;by_cases h3:x=1
   ·subst h3;rw[if_pos rfl];refine UT us 0 (d+1) i (.inl rfl) ?_;obtain⟨a3,a4,b3,b4,rfl,rfl,h4,h5⟩:=Fk h2;have:=Mt h4 (dn i h5);have e:List.replicate d 1++(1::(List.replicate i 2++us))=List.replicate (d+1) 1++(List.replicate i 2++us):=by simp[List.replicate_succ']
    rw[e]at this;simpa using this
   ·rw[if_neg h3];obtain⟨a3,a4,b3,b4,rfl,rfl,h4,h5⟩:=Fk h2;obtain⟨a5,a6,b5,b6,rfl,rfl,h6,h7⟩:=Fk h5;clear h h2 h5;cases h7 with
    |keep x y r w=>exact absurd rfl h0
    |del x w=>exact absurd rfl h3
    |ins y w=>
     refine UT us 0 d (i+1) (.inl rfl) ?_;have:=Mt h4 (Mt h6 (.ins y w));have e:List.replicate d 1++(List.replicate i 2++2::us)=List.replicate d 1++(List.replicate (i+1) 2++us):=by simp[List.replicate_succ']
     rw[e]at this;simpa using this
theorem xM{us:List Nat}{a:List α}{b:List β}(h:Qe R us a b):Qe R (Bu (Lb us)) a b:=UT us 0 0 0 (.inl rfl) (by simpa using h)
end
theorem O6{α β:Type}{f:α->β}:∀{us:List Nat} {a b:List α},Qe (fun x y:β=>x=y) us (a.map f) (b.map f)->Qe (fun x y=>f x=f y) us a b
 |us,[],[],h=>by cases h;exact .nil
 |us,x::a,[],h=>by
  cases h with
  |del x h=>exact .del _ (O6 (b:=[]) h)
 |us,[],y::b,h=>by
  cases h with
  |ins x h=>exact .ins _ (O6 (a:=[]) h)
 |us,x::a,y::b,h=>by
  cases h with
  |keep x y r h=>exact .keep _ _ r (O6 h)
  |del x h=>exact .del _ (O6 (b:=y::b) h)
  |ins x h=>exact .ins _ (O6 (a:=x::a) h)
theorem yV{α β:Type}{R R':α->β->Prop}{us:List Nat}{a:List α}{b:List β}(h:∀x,x∈a->∀y,y∈b->R x y->R' x y)(w:Qe R us a b):Qe R' us a b:=by
 induction w with
 |nil=>exact .nil
 |keep x y r _ ih=>exact .keep x y (h x iS y iS r) (ih fun p hp q hq=>h p (List.mem_cons_of_mem _ hp) q (List.mem_cons_of_mem _ hq))
 |del x _ ih=>exact .del x (ih fun p hp q hq=>h p (List.mem_cons_of_mem _ hp) q hq)
 |ins y _ ih=>exact .ins y (ih fun p hp q hq=>h p hp q (List.mem_cons_of_mem _ hq))
def cK(us:List Nat):Nat:=us.countP fun x=>x == 0
theorem rO(a b:List Nat):cK (a++b)=cK a+cK b:=List.countP_append
theorem ZP(n k:Nat):cK (List.replicate n k)=if k=0 then n else 0:=by unfold cK;rw[List.countP_replicate];by_cases h:k=0<;>simp[h]
theorem mZ(x:Nat)(us:List Nat):cK (x::us)=(if x=0 then 1 else 0)+cK us:=by
 unfold cK;rw[List.countP_cons];by_cases h:x=0<;>simp[h]
 omega
theorem tq(x:Int):∀b:List Int,DW x b<b.length↔x∈b:=by
 intro b;constructor
 ·intro h;have:=Rh x h;rw[<-this];exact De h
 ·intro h;apply Classical.byContradiction;intro hn;have hle:=QY x b;have he:DW x b=b.length:=oF
  have:=Q8 x (b:=b) (j:=b.length) oF;rw[AO (CX _)]at this;exact this h
theorem yx(x:Int)(b:List Int):Qe (fun x y:Int=>x=y) (GO [x] b) [x] b:=by
 rw[Vw];split
 ·rename_i h;have e:b=b.take (DW x b)++(b[DW x b]::b.drop (DW x b+1)):=by
   conv=>lhs;rw[<-List.take_append_drop (DW x b) b]
   rw[List.getElem_cons_drop]
  have h1:=QV (R:=fun x y:Int=>x=y) (b.take (DW x b));have h2:=QV (R:=fun x y:Int=>x=y) (b.drop (DW x b+1));rw[List.length_take,Nat.min_eq_left oF]at h1;rw[List.length_drop,show b.length-(DW x b+1)=b.length-DW x b-1 by omega]at h2;have:=Mt h1 (.keep x b[DW x b] (Rh x h).symm h2);rw[<-e]at this;exact this
 ·exact .del x (QV b)
theorem AbD(x:Int)(b:List Int):cK (GO [x] b)=AJ [x] b:=by
 rw[Vw,ZK];have:=tq x b;split
 ·rename_i h;rw[if_pos (this.1 h),rO,mZ,ZP,ZP];simp
 ·rename_i h;rw[if_neg (fun hx=>h (this.2 hx)),mZ,ZP];simp
theorem mC:∀(a b:List Int),Qe (fun x y:Int=>x=y) (GO a b) a b/\cK (GO a b)=AJ a b
 |[],b=>by
  rw[eJ];exact⟨QV b,by rw[ZP];simp⟩
 |x::a,b=>by
  have hw:=Iq (a:=x::a) (b:=b) (i:=1) iS;rw[YO (x::a) b (h:=1) iS];generalize C0 (x::a) b 1=w at *;have e1:(x::a).take 1=[x]:=iS
  have e2:(x::a).drop 1=a:=iS
  rw[e1,e2];obtain⟨g1,g2⟩:=mC a (b.drop w);constructor
  ·have:=Mt (yx x (b.take w)) g1;rw[List.take_append_drop]at this;exact this
  ·rw[rO,AbD,g2];have h:=hw.1;unfold QU at h;have h:=of_decide_eq_true h;unfold HT at h;rw[RX,RX,ae,ae,e1,e2]at h;exact h
theorem V8{ks:List T}{n:T}(h:n∈ks):GY ks n=ks/\ks[FN ks n]? = some n:=by
 have h1:FN ks n<ks.length:=by
  unfold FN;exact List.findIdx_lt_length_of_exists ⟨n,h,sameB_iff.2 rfl⟩
 have e:GY ks n=ks:=by unfold GY;rw[if_pos h1]
 have:=UR ks n;rw[e]at this;exact⟨e,this⟩
theorem W9:∀(l K:List T),(∀t,t∈l->Af t∈K)->C6 K l=(K,l.map fun t=>FN K (Af t))
 |[],K,_=>rfl
 |t::l,K,h=>by
  rw[C6,(V8 (h t iS)).1,W9 l K fun x hx=>h x (List.mem_cons_of_mem _ hx)];rfl
theorem V1:∀(l ks:List T),∀t,t∈l->Af t∈(C6 ks l).1
 |x::l,ks,t,h=>by
  rw[C6];rcases List.mem_cons.1 h with rfl|h
  ·have h1:=IU l (GY ks (Af t));have h2:=UR ks (Af t);exact h1.subset (List.mem_of_getElem? h2)
  ·exact V1 l _ t h
theorem va{K:List T}{s t:T}(hs:Af s∈K)(ht:Af t∈K)(h:FN K (Af s)=FN K (Af t)):Af s=Af t:=by
 have h1:=(V8 hs).2;have h2:=(V8 ht).2;rw[h,h2]at h1;exact(Option.some.inj h1).symm
noncomputable def xt(a b:List T):List T:=(C6 (C6 [] a).1 b).1
noncomputable def clZ(a b:List T)(t:T):Int:=(FN (xt a b) (Af t):Nat)
theorem YV(a b:List T):(xt a b).Nodup:=QG (QG List.nodup_nil)
theorem AaD(a b:List T):∀t,t∈a->Af t∈xt a b:=fun t ht=>(IU b (C6 [] a).1).subset (V1 a [] t ht)
theorem AaP(a b:List T):∀t,t∈b->Af t∈xt a b:=V1 b _
theorem AcB(a b:T):UN a=a.kids.map (clZ a.kids b.kids):=by
 have h1:=QI (l:=a.kids) (ks:=[]) (ks':=xt a.kids b.kids) (IU b.kids _) (YV _ _);rw[W9 _ _ (AaD a.kids b.kids)]at h1;have h2:(C6 [] a.kids).2=a.kids.map fun t=>FN (xt a.kids b.kids) (Af t):=(Prod.mk.inj h1).2.symm;unfold UN xh;rw[h2,List.map_map];rfl
theorem AcT(a b:T):U2 a b=b.kids.map (clZ a.kids b.kids):=by
 have h1:=QI (l:=b.kids) (ks:=(C6 [] a.kids).1) (ks':=xt a.kids b.kids) List.prefix_rfl (YV _ _);rw[W9 _ _ (AaP a.kids b.kids)]at h1;have h2:(C6 (C6 [] a.kids).1 b.kids).2=b.kids.map fun t=>FN (xt a.kids b.kids) (Af t):=(Prod.mk.inj h1).2.symm;unfold U2 xh;rw[h2,List.map_map];rfl
theorem AcO{a b:List T}{s t:T}(hs:Af s∈xt a b)(ht:Af t∈xt a b):clZ a b s=clZ a b t↔Af s=Af t:=by
 constructor
 ·intro h;unfold clZ at h;exact va hs ht oF
 ·intro h;unfold clZ;rw[h]
theorem ug(a b:T):Qe (fun x y=>Af x=Af y) (Bu (Lb (GO (UN a) (U2 a b)))) a.kids b.kids:=by
 have h:=(mC (UN a) (U2 a b)).1;have h:=xM h;rw[AcB a b,AcT a b]at h ⊢;refine yV (fun x hx y hy e=>?_) (O6 h);exact(AcO (AaD _ _ x hx) (AaP _ _ y hy)).1 e
theorem YG(a:Int):∀k,HX a a k=0
 |0=>rfl
 |k+1=>by
  unfold HX;rw[YG a k];simp
theorem YT{a b:Int}:∀k,HX a b k=0->∀i,i<k->AP a i=AP b i
 |0,_,i,h=>oF
 |k+1,h,i,hi=>by
  unfold HX at h;have h1:HX a b k=0:=oF
  have h2:(if AP a k≠AP b k then 2 ^ k else 0)=0:=oF
  by_cases e:i=k
  ·subst e;apply Classical.byContradiction;intro hne;rw[if_pos hne]at h2;have:=Nat.pow_pos (n:=i) (show 0<2 from oF);omega
  ·exact YT k h1 i oF
theorem V5{a b:Int}(ha:Bs a)(hb:Bs b):Eu a b=0↔a=b:=by
 constructor
 ·intro h;have h':HX a b 8=0:=by unfold Eu at h;omega
  have g:=YT 8 h';have g0:=g 0 oF;have g1:=g 1 oF;have g2:=g 2 oF;have g3:=g 3 oF;have g4:=g 4 oF;have g5:=g 5 oF;have g6:=g 6 oF;have g7:=g 7 oF;clear g h h';unfold AP at g0 g1 g2 g3 g4 g5 g6 g7;simp only[show(256:Int) ^ 0=1 from rfl,show(256:Int) ^ 1=256 from rfl,show(256:Int) ^ 2=65536 from rfl,show(256:Int) ^ 3=16777216 from rfl,show(256:Int) ^ 4=4294967296 from rfl,show(256:Int) ^ 5=1099511627776 from rfl,show(256:Int) ^ 6=281474976710656 from rfl,show(256:Int) ^ 7=72057594037927936 from rfl]at g0 g1 g2 g3 g4 g5 g6 g7;unfold Bs at ha hb;omega
 ·rintro rfl;unfold Eu;rw[YG];rfl
inductive LdO(R:E->T->T->Prop):List OP->List T->List T->Prop
 |nil:LdO R [] [] []
 |keep {os:List OP} {a b:List T} (l m:List T) (hne:l≠[]) (h:l.map Af=m.map Af) (g:LdO R os a b):LdO R (.mk 0 (l.length:Nat) [] E0::os) (l++a) (m++b)
 |del {os:List OP} {a b:List T} (l m:List T) (hne:l≠[]) (h:l.map Af=m.map Af) (g:LdO R os a b):LdO R (.mk 1 0 l E0::os) (m++a) b
 |ins {os:List OP} {a b:List T} (l m:List T) (hne:l≠[]) (h:l.map Af=m.map Af) (g:LdO R os a b):LdO R (.mk 2 0 l E0::os) a (m++b)
 |desc {os:List OP} {a b:List T} (e:E) (x y:T) (h:R e x y) (g:LdO R os a b):LdO R (.mk 3 0 [] e::os) (x::a) (y::b)
inductive MA(R:E->T->T->Prop)(a b:List T):Nat->List KE->Prop
 |nil (p:Nat) (h:∀i,p<=i->Af (a.getD i T0)=Af (b.getD i T0)):MA R a b p []
 |cons (p i:Nat) (e:E) (ks:List KE) (hp:p<=i) (h:∀j,p<=j->j<i->Af (a.getD j T0)=Af (b.getD j T0)) (hi:i<max a.length b.length) (he:e.kind≠0) (hr:R e (a.getD i T0) (b.getD i T0)) (g:MA R a b (i+1) ks):MA R a b p (.mk i e::ks)
inductive Jn(a b:List Int):Nat->List WE->Prop
 |nil (p:Nat) (h:∀i,p<=i->a.getD i 0=b.getD i 0):Jn a b p []
 |cons (p i:Nat) (m o n:Int) (ws:List WE) (hp:p<=i) (h:∀j,p<=j->j<i->a.getD j 0=b.getD j 0) (hi:i<max a.length b.length) (hm:0<m/\m<256) (ho:A5 0 (a.getD i 0) m=o) (hn:A5 0 (b.getD i 0) m=n) (h1:A5 (a.getD i 0) n m=b.getD i 0) (h2:A5 (b.getD i 0) o m=a.getD i 0) (g:Jn a b (i+1) ws):Jn a b p (⟨i,m,o,n⟩::ws)
def mH(e:E)(a b:T):Prop:=(e=E0/\Af a=Af b)\/∃o n,e=.mk 1 o n [] [] 0 []/\Af o=Af a/\Af n=Af b
def Ld:Nat->E->T->T->Prop
 |0,e,a,b=>mH e a b
 |f+1,e,a,b=>mH e a b\/(∃ws ks,e=.mk 2 T0 T0 ws ks 0 []/\a.kind=1/\b.kind=1/\Jn a.words b.words 0 ws/\MA (Ld f) a.kids b.kids 0 ks)\/(∃os,e=.mk 3 T0 T0 [] [] a.kind os/\b.kind=a.kind/\(2<=a.kind/\a.kind<=9)/\(a.words=[]/\b.words=[])/\LdO (Ld f) os a.kids b.kids)
theorem QP{f:Nat}{e:E}{a b:T}(h:mH e a b):Ld f e a b:=by
 cases f with
 |zero=>exact h
 |succ f=>exact .inl h
theorem IZ{f:Nat}{e:E}{a b:T}(h:Ld f e a b)(hk:e.kind=0):e=E0/\Af a=Af b:=by
 have base:mH e a b->e=E0/\Af a=Af b:=fun h=>by
  rcases h with h|⟨o,n,rfl,_⟩
  ·exact h
  ·cases hk
 cases f with
 |zero=>exact base h
 |succ f=>
  rcases h with h|⟨ws,ks,rfl,_⟩|⟨os,rfl,_⟩
  ·exact base h
  ·cases hk
  ·cases hk
section
variable {R:E->T->T->Prop}
theorem Ex{os ps:List OP}{a b c d:List T}(h:LdO R os a b)(g:LdO R ps c d):LdO R (os++ps) (a++c) (b++d):=by
 induction h with
 |nil=>exact g
 |keep l m hne h _ ih=>rw[List.append_assoc,List.append_assoc];exact .keep l m hne h ih
 |del l m hne h _ ih=>rw[List.append_assoc];exact .del l m hne h ih
 |ins l m hne h _ ih=>rw[List.append_assoc];exact .ins l m hne h ih
 |desc e x y h _ ih=>exact .desc e x y h ih
theorem LK:∀{os ps:List OP} {a b:List T},LdO R (os++ps) a b->∃a1 a2 b1 b2,a=a1++a2/\b=b1++b2/\LdO R os a1 b1/\LdO R ps a2 b2
 |[],ps,a,b,h=>⟨[],a,[],b,rfl,rfl,.nil,h⟩
 |o::os,ps,a,b,h=>by
  cases h with
  |keep l m hne h g=>
   obtain⟨a1,a2,b1,b2,rfl,rfl,h1,h2⟩:=LK g;exact⟨l++a1,a2,m++b1,b2,iS,iS,.keep l m hne h h1,h2⟩
  |del l m hne h g=>
   obtain⟨a1,a2,b1,b2,rfl,rfl,h1,h2⟩:=LK g;exact⟨m++a1,a2,b1,b2,iS,rfl,.del l m hne h h1,h2⟩
  |ins l m hne h g=>
   obtain⟨a1,a2,b1,b2,rfl,rfl,h1,h2⟩:=LK g;exact⟨a1,a2,m++b1,b2,rfl,iS,.ins l m hne h h1,h2⟩
  |desc e x y h g=>
   obtain⟨a1,a2,b1,b2,rfl,rfl,h1,h2⟩:=LK g;exact⟨x::a1,a2,y::b1,b2,rfl,rfl,.desc e x y h h1,h2⟩
theorem RM{l m:List T}(h:l.map Af=m.map Af):LdO R (DX l) m []:=by
 unfold DX;split
 ·rename_i e;subst e;have:m=[]:=by simpa using h.symm
  subst this;exact .nil
 ·rename_i e;have:=LdO.del (R:=R) l m e h .nil
  rwa [List.append_nil]at this
theorem R9{l m:List T}(h:l.map Af=m.map Af):LdO R (Cm l) [] m:=by
 unfold Cm;split
 ·rename_i e;subst e;have:m=[]:=by simpa using h.symm
  subst this;exact .nil
 ·rename_i e;have:=LdO.ins (R:=R) l m e h .nil
  rwa [List.append_nil]at this
end
theorem We(one:T->T->E)(a b:List T):∀(P:List Sc)(i j:Nat)(out:List OP),HW one a b P i j out=out++HW one a b P i j []
 |[],i,j,out=>by simp[HW]
 |x::P,i,j,out=>by
  rw[HW,We one a b P,HW,We one a b P _ _ ([]++_++_++_)];simp
theorem cP{R:E->T->T->Prop}{one:T->T->E}{a b:List T}(hone:∀x,x∈a->∀y,y∈b->R (one x y) x y):∀(P:List Sc)(i j:Nat),eZ a.length b.length i j P->LdO R (HW one a b P i j []) (a.drop i) (b.drop j)
 |[],i,j,_=>by
  rw[HW,List.nil_append];have:=Ex (RM (R:=R) (l:=a.drop i) rfl) (R9 (R:=R) (l:=b.drop j) rfl);simpa using this
 |x::P,i,j,h=>by
  obtain⟨k1,k2,k3,k4,k5⟩:=h;have ih:=cP hone P _ _ k5;rw[HW,We];have e1:a.getD x.i T0=a[x.i]:=by simp[k3]
  have e2:b.getD x.j T0=b[x.j]:=by simp[k4]
  rw[e1,e2];have d1:a.drop i=(a.take x.i).drop i++(a[x.i]::a.drop (x.i+1)):=by
   rw[List.getElem_cons_drop,<-List.drop_append_of_le_length (by simp;omega),List.take_append_drop]
  have d2:b.drop j=(b.take x.j).drop j++(b[x.j]::b.drop (x.j+1)):=by
   rw[List.getElem_cons_drop,<-List.drop_append_of_le_length (by simp;omega),List.take_append_drop]
  rw[d1,d2];have:=Ex (RM (R:=R) (l:=(a.take x.i).drop i) rfl) (Ex (R9 (R:=R) (l:=(b.take x.j).drop j) rfl) (.desc _ _ _ (hone _ (De k3) _ (De k4)) ih));simpa using this
theorem nh{R:E->T->T->Prop}{one:T->T->E}{a b:List T}(hone:∀x,x∈a->∀y,y∈b->R (one x y) x y):LdO R (G4 one a b) a b:=by
 have:=cP hone (cC (Om a b)) 0 0 (S7 a b);simpa[G4]using this
theorem Fg(gap:List T->List T->List OP):∀(S:List Sp)(a b:List T)(out:List OP),Dg gap S a b out=out++Dg gap S a b []
 |[],a,b,out=>by simp[Dg]
 |[s],a,b,out=>by
  rw[Dg,Dg];split
  ·simp
  ·split<;>simp
 |s::s2::ss,a,b,out=>by
  rw[Dg,Dg];split
  ·rw[Fg gap (s2::ss),Fg gap (s2::ss) _ _ ([]++_)];simp
  ·split
   ·rw[Fg gap (s2::ss),Fg gap (s2::ss) _ _ ([]++_)];simp
   ·split
    ·rw[Fg gap ss,Fg gap ss _ _ ([]++_)];simp
    ·rw[Fg gap (s2::ss),Fg gap (s2::ss) _ _ ([]++_)];simp
abbrev Nq:T->T->Prop:=fun x y=>Af x=Af y
theorem Ml:∀(n:Nat){a b:List T},Qe Nq (List.replicate n 0) a b->a.length=n/\b.length=n/\a.map Af=b.map Af
 |0,a,b,h=>by cases h;exact⟨rfl,rfl,rfl⟩
 |n+1,a,b,h=>by
  cases h with
  |keep x y r w=>
   obtain⟨h1,h2,h3⟩:=Ml n w;exact⟨by simp[h1],by simp[h2],by simp[h3];exact r⟩
theorem RQ{R:E->T->T->Prop}{one:T->T->E}{A B:List T}(hone:∀x,x∈A->∀y,y∈B->R (one x y) x y):∀(S:List Sp)(a b:List T),(∀s,s∈S->s.k<=2/\1<=s.n)->(∀t,t∈a->t∈A)->(∀t,t∈b->t∈B)->Qe Nq (Bu S) a b->LdO R (Dg (G4 one) S a b []) a b
 |[],a,b,_,_,_,h=>by
  cases h;rw[Dg];exact .nil
 |[s],a,b,hS,hA,hB,h=>by
  have hs:=hS s iS;rw[BF,JY,List.append_nil]at h;have hk:s.k=0\/s.k=1\/s.k=2:=oF
  rw[Dg];rcases hk with hk|hk|hk
  ·rw[if_pos hk];rw[hk]at h;obtain⟨h1,h2,h3⟩:=Ml _ h;have:=LdO.keep (R:=R) a b (fun e=>by subst e;simp at h1;omega) h3 .nil;rw[h1]at this;simpa using this
  ·rw[if_neg oF,if_neg oF];rw[hk]at h;obtain⟨rfl,h2⟩:=Nv _ h;rw[AO oF];exact RM rfl
  ·rw[if_neg oF,if_pos hk];rw[hk]at h;obtain⟨rfl,h2⟩:=KC _ h;rw[AO oF];exact R9 rfl
 |s::s2::ss,a,b,hS,hA,hB,h=>by
  have hs:=hS s iS;have hs2:=hS s2 iS;have hS1:∀x,x∈s2::ss->x.k<=2/\1<=x.n:=fun x hx=>hS x (List.mem_cons_of_mem _ hx);have hS2:∀x,x∈ss->x.k<=2/\1<=x.n:=fun x hx=>hS1 x (List.mem_cons_of_mem _ hx);rw[BF]at h;obtain⟨a1,a2,b1,b2,rfl,rfl,h1,h2⟩:=Fk h;have hA2:∀t,t∈a2->t∈A:=fun t ht=>hA t (List.mem_append_right _ ht);have hB2:∀t,t∈b2->t∈B:=fun t ht=>hB t (List.mem_append_right _ ht);have dr:∀{l m:List T} {n:Nat},l.length=n->(l++m).drop n=m/\(l++m).take n=l:=fun h=>by subst h;exact⟨List.drop_left ..,List.take_left ..⟩
  have hk:s.k=0\/s.k=1\/s.k=2:=oF
  rw[Dg];rcases hk with hk|hk|hk
  ·rw[if_pos hk,Fg];rw[hk]at h1;obtain⟨g1,g2,g3⟩:=Ml _ h1;rw[(dr g1).1,(dr g2).1];have:=LdO.keep (R:=R) a1 b1 (fun e=>by subst e;simp at g1;omega) g3 (RQ hone (s2::ss) a2 b2 hS1 hA2 hB2 h2);rw[g1]at this;simpa using this
  ·rw[if_neg oF,if_neg oF];rw[hk]at h1;obtain⟨rfl,g2⟩:=Nv _ h1;by_cases hk2:s2.k=2
   ·rw[if_pos hk2];rw[BF,hk2]at h2;obtain⟨a3,a4,b3,b4,rfl,rfl,h3,h4⟩:=Fk h2;obtain⟨rfl,g4⟩:=KC _ h3;rw[Fg,List.nil_append,List.nil_append,List.nil_append,(dr g2).1,(dr g2).2,(dr g4).1,(dr g4).2];exact Ex (nh fun x hx y hy=>hone x (hA x (by simp[hx])) y (hB y (by simp[hy]))) (RQ hone ss a4 b4 hS2 (fun t ht=>hA2 t (by simp[ht])) (fun t ht=>hB2 t (by simp[ht])) h4)
   ·rw[if_neg hk2,Fg,List.nil_append,(dr g2).1,(dr g2).2];have:=Ex (RM (R:=R) (l:=a1) rfl) (RQ hone (s2::ss) a2 b2 hS1 hA2 hB2 h2);simpa using this
  ·rw[if_neg oF,if_pos hk,Fg,List.nil_append];rw[hk]at h1;obtain⟨rfl,g2⟩:=KC _ h1;rw[(dr g2).1,(dr g2).2];have:=Ex (R9 (R:=R) (l:=b1) rfl) (RQ hone (s2::ss) a2 b2 hS1 hA2 hB2 h2);simpa using this
theorem lY{R:E->T->T->Prop}{one:T->T->E}{most:Int}{a b:T}(hone:∀x,x∈a.kids->∀y,y∈b.kids->R (one x y) x y):LdO R (QT one most a b) a.kids b.kids:=by
 unfold QT;split
 ·exact RQ hone _ _ _ (fun s hs=>Yn (UB _ _) s hs) (fun t ht=>ht) (fun t ht=>ht) (ug a b)
 ·exact nh hone
theorem Oy(a b:Int):∀(n i:Nat),i<n->(HX a b n).testBit i=decide (AP a i≠AP b i)
 |0,i,h=>oF
 |n+1,i,h=>by
  have hlt:=UQ a b n;unfold HX;by_cases e:i=n
  ·subst e;by_cases c:AP a i≠AP b i
   ·rw[if_pos c,Nat.add_comm,Nat.testBit_two_pow_add_eq,Nat.testBit_lt_two_pow hlt];simp[c]
   ·rw[if_neg c,Nat.add_zero,Nat.testBit_lt_two_pow hlt];simp at c;simp[c]
  ·have hi:i<n:=oF
   by_cases c:AP a n≠AP b n
   ·rw[if_pos c,Nat.add_comm,Nat.testBit_two_pow_add_gt hi];exact Oy a b n i hi
   ·rw[if_neg c,Nat.add_zero];exact Oy a b n i hi
theorem XZ(a b:Int){i:Nat}(h:i<8):AH (Eu a b) i=decide (AP a i≠AP b i):=by
 rw[<-Oy a b 8 i h,Nat.testBit_eq_decide_div_mod_eq];unfold AH Eu;rw[Bool.eq_iff_iff,decide_eq_true_iff,decide_eq_true_iff];have:((HX a b 8:Nat):Int) / 2 ^ i % 2=((HX a b 8 / 2 ^ i % 2:Nat):Int):=by
  rw[Int.natCast_emod,Int.natCast_ediv,Int.natCast_pow];rfl
 rw[this];omega
theorem Td{b:Int}(h:Bs b):gS (Bb b)=b:=by
 unfold Bs at h;simp only[Bb,DZ,gS];omega
theorem Xa:∀(l:List Int),(∀b,b∈l->0<=b/\b<256)->DZ l.length (gS l)=l
 |[],_=>rfl
 |x::l,h=>by
  have hx:=h x iS;have ih:=Xa l fun b hb=>h b (List.mem_cons_of_mem _ hb);simp only[List.length_cons,DZ,gS];have e1:(x+256*gS l) % 256=x:=oF
  have e2:(x+256*gS l) / 256=gS l:=oF
  rw[e1,e2,ih]
theorem Wb{xs ys:List Int}{m:Int}{i:Nat}(hx:xs.length=8)(h:i<8):(RC xs ys m 8).getD i 0=if AH m i=true then ys.getD i 0 else xs.getD i 0:=by
 unfold RC;have e:xs.drop 8=[]:=List.drop_eq_nil_of_le oF;rw[e,List.append_nil,List.getD_eq_getElem?_getD,List.getElem?_map,List.getElem?_range h];rfl
theorem E5(x:Int){i:Nat}(h:i<8):(Bb x).getD i 0=AP x i:=by
 rw[List.getD_eq_getElem?_getD];unfold Bb;rw[ML 8 x i h];rfl
theorem Tj(a b m:Int):Bb (A5 a b m)=RC (Bb a) (Bb b) m 8:=by
 have hl:(RC (Bb a) (Bb b) m 8).length=8:=by rw[KY (by rw[Cn];omega),Cn]
 have:=Xa (RC (Bb a) (Bb b) m 8) VJ;rw[hl]at this;exact this
theorem mQ{a b:Int}(hb:Bs b):A5 a (A5 0 b (Eu a b)) (Eu a b)=b:=by
 have e:RC (Bb a) (Bb (A5 0 b (Eu a b))) (Eu a b) 8=Bb b:=by
  have hl:(RC (Bb a) (Bb (A5 0 b (Eu a b))) (Eu a b) 8).length=8:=by rw[KY (by rw[Cn];omega),Cn]
  refine List.ext_getElem (by rw[hl,Cn]) fun i h1 h2=>?_;have hi:i<8:=by rw[hl]at h1;exact h1
  have g1:=Wb (xs:=Bb a) (ys:=Bb (A5 0 b (Eu a b))) (m:=Eu a b) (Cn a) hi;rw[Tj 0 b,Wb (Cn 0) hi,E5 b hi,E5 a hi,XZ a b hi]at g1;have g2:=E5 b hi;have k1:∀(l:List Int)(h:i<l.length),l.getD i 0=l[i]:=fun l h=>by simp[h]
  rw[k1 _ (by rw[KY (by rw[Cn];omega),Cn];exact hi)]at g1;rw[k1 _ h2]at g2;rw[g2];have g3:(RC (Bb a) (Bb (A5 0 b (Eu a b))) (Eu a b) 8)[i]=if decide (AP a i≠AP b i)=true then (if decide (AP a i≠AP b i)=true then AP b i else AP 0 i)else AP a i:=by
   rw[<-E5 0 hi,<-g1];congr 1;rw[Tj 0 b]
  refine g3.trans ?_;by_cases c:AP a i=AP b i
  ·simp[c]
  ·simp[c]
 have:A5 a (A5 0 b (Eu a b)) (Eu a b)=gS (Bb b):=by
  unfold A5 at e ⊢;rw[e]
 rw[this,Td hb]
theorem Yf(a b:Int):∀k,HX a b k=HX b a k
 |0=>rfl
 |k+1=>by
  unfold HX;rw[Yf a b k];by_cases c:AP a k=AP b k
  ·simp[c]
  ·simp[c,Ne.symm c]
theorem oY(a b:Int):Eu a b=Eu b a:=by unfold Eu;rw[Yf]
theorem uF{a b:List Int}{p:Nat}{ws:List WE}(h:Jn a b (p+1) ws)(e:a.getD p 0=b.getD p 0):Jn a b p ws:=by
 cases h with
 |nil _ h=>
  refine .nil p fun i hi=>?_;by_cases hp:i=p
  ·subst hp;exact e
  ·exact h i oF
 |cons _ i m o n ws hp h hi hm ho hn h1 h2 g=>
  refine .cons p i m o n ws oF (fun j h3 h4=>?_) hi hm ho hn h1 h2 g;by_cases hp:j=p
  ·subst hp;exact e
  ·exact h j oF h4
theorem uK{R:E->T->T->Prop}{a b:List T}{p:Nat}{ks:List KE}(h:MA R a b (p+1) ks)(e:Af (a.getD p T0)=Af (b.getD p T0)):MA R a b p ks:=by
 cases h with
 |nil _ h=>
  refine .nil p fun i hi=>?_;by_cases hp:i=p
  ·subst hp;exact e
  ·exact h i oF
 |cons _ i x ks hp h hi he hr g=>
  refine .cons p i x ks oF (fun j h3 h4=>?_) hi he hr g;by_cases hp:j=p
  ·subst hp;exact e
  ·exact h j oF h4
theorem Eb{l:List Int}(h:∀x,x∈l->Bs x)(i:Nat):Bs (l.getD i 0):=by
 rw[List.getD_eq_getElem?_getD];cases e:l[i]? with
 |none=>exact⟨iS,iS⟩
 |some z=>exact h z (List.mem_of_getElem? e)
theorem n9{a b:T}(ha:∀x,x∈a.words->Bs x)(hb:∀x,x∈b.words->Bs x):∀(n p:Nat),p+n=max a.words.length b.words.length->Jn a.words b.words p ((List.range' p n).filterMap fun i=>if Eu (a.words.getD i 0) (b.words.getD i 0)=0 then none else some (Z4 i (a.words.getD i 0) (b.words.getD i 0)))
 |0,p,h=>by
  refine .nil p fun i hi=>?_;rw[List.getD_eq_getElem?_getD,List.getD_eq_getElem?_getD,List.getElem?_eq_none oF,List.getElem?_eq_none oF]
 |n+1,p,h=>by
  have ih:=n9 ha hb n (p+1) oF;have ua:=Eb ha p;have ub:=Eb hb p;have ui:=Zp (a.words.getD p 0) (b.words.getD p 0);rw[List.range'_succ,List.filterMap_cons];by_cases c:Eu (a.words.getD p 0) (b.words.getD p 0)=0
  ·rw[if_pos c];exact uF ih ((V5 ua ub).1 c)
  ·rw[if_neg c];exact .cons p p _ _ _ _ (CX _) (fun j h1 h2=>oF) oF ⟨oF,ui.2⟩ rfl rfl (mQ ub) (by rw[oY];exact mQ ua) ih
theorem mj{f:Nat}{one:T->T->E}{a b:T}(hone:∀i,Ld f (one (a.kids.getD i T0) (b.kids.getD i T0)) (a.kids.getD i T0) (b.kids.getD i T0)):∀(n p:Nat),p+n=max a.kids.length b.kids.length->MA (Ld f) a.kids b.kids p ((List.range' p n).filterMap fun i=>if (one (a.kids.getD i T0) (b.kids.getD i T0)).kind=0 then none else some (.mk i (one (a.kids.getD i T0) (b.kids.getD i T0))))
 |0,p,h=>by
  refine .nil p fun i hi=>?_;rw[List.getD_eq_getElem?_getD,List.getD_eq_getElem?_getD,List.getElem?_eq_none oF,List.getElem?_eq_none oF]
 |n+1,p,h=>by
  have ih:=mj hone n (p+1) oF;rw[List.range'_succ,List.filterMap_cons];by_cases c:(one (a.kids.getD p T0) (b.kids.getD p T0)).kind=0
  ·rw[if_pos c];exact uK ih (IZ (hone p) c).2
  ·rw[if_neg c];exact .cons p p _ _ (CX _) (fun j h1 h2=>oF) oF c (hone p) ih
def NW:Nat->T->Prop
 |0,_=>True
 |f+1,t=>(2<=t.kind->t.kind<=9->t.words=[])/\∀k,k∈t.kids->NW f k
theorem Agk:∀f,NW f T0
 |0=>trivial
 |f+1=>⟨fun _ _=>rfl,fun k hk=>by simp at hk⟩
theorem fT{f:Nat}{t:T}(h:NW (f+1) t)(i:Nat):NW f (t.kids.getD i T0):=by
 rw[List.getD_eq_getElem?_getD];cases e:t.kids[i]? with
 |none=>exact Agk f
 |some z=>exact h.2 z (List.mem_of_getElem? e)
theorem L6:∀(f d:Nat)(t:T),C9 d t=true->NW f t
 |0,d,t,_=>trivial
 |f+1,d,t,h=>by
  obtain⟨k,w,l⟩:=t;refine⟨fun h2 h9=>?_,fun x hx=>L6 f (d-1) x (P5 h x hx).1⟩;have h2:2<=k:=h2;have h9:k<=9:=h9;rw[Fj,if_neg oF,if_neg oF]at h;split at h
  ·cases h
  ·rename_i hb;unfold G6 at hb;simp at hb;exact hb.2 oF
theorem az(most:Int):∀(f g:Nat)(a b:T),SU f a->SU g b->NW f a->NW f b->Ld f (El most f a b) a b
 |0,g,a,b,ha,hb,na,nb=>by
  rw[El];split
  ·rename_i h;exact .inl ⟨rfl,eqT_iff.1 h⟩
  ·exact .inr ⟨a,b,rfl,rfl,rfl⟩
 |f+1,g,a,b,ha,hb,na,nb=>by
  obtain⟨a1,a2,a3,a4⟩:=Au ha;obtain⟨b1,b2,b3,b4⟩:=Au hb;rw[El];split
  ·rename_i h;exact .inl (.inl ⟨rfl,eqT_iff.1 h⟩)
  ·split
   ·rename_i h;refine .inr (.inl ⟨_,_,rfl,h.1,h.2,?_,?_⟩)
    ·have:=n9 (a:=a) (b:=b) (wfT_iff.1 a1).w (wfT_iff.1 b1).w (max a.words.length b.words.length) 0 oF;rw[<-List.range_eq_range']at this;exact this
    ·have:=mj (a:=a) (b:=b) (fun i=>az most f (g-1) _ _ (Ll ha i) (Ll hb i) (fT na i) (fT nb i)) (max a.kids.length b.kids.length) 0 oF;rw[<-List.range_eq_range']at this;exact this
   ·split
    ·rename_i h;rw[RD];exact .inr (.inr ⟨_,rfl,h.1.symm,h.2,⟨na.1 h.2.1 h.2.2,nb.1 oF oF⟩,lY fun x hx y hy=>az most f (g-1) x y (BI ha x hx) (BI hb y hy) (na.2 x hx) (nb.2 y hy)⟩)
    ·exact .inl (.inr ⟨a,b,rfl,rfl,rfl⟩)
end Go.Proofs.YtlaapfplenlfaaaGreat
