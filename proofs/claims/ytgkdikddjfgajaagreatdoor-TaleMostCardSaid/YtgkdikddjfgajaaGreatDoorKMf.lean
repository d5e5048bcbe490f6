/-
 Texts,merged,without what is not reached.
-/
import Derived.Test.YtgkdikddjfgajaaGreatDoorKMe
set_option linter.unusedSimpArgs false
set_option linter.unusedVariables false
open Go.IntKind (i64 u64)
namespace Go.Proofs.YtgkdikddjfgajaaGreatDoor
open Go Go.G Go.Proofs Go.PL
theorem V8 {u:T} (hw:CG u) (i:Nat):CG (u.kids.getD i T0):=by
 by_cases hi':i<u.kids.length
 ·have e:u.kids.getD i T0=u.kids[i]:=by simp[List.getD_eq_getElem?_getD,hi']
  rw[e];exact(wfT_iff.1 hw).ks _ (EI hi')
 ·have e:u.kids.getD i T0=T0:=by rw[List.getD_eq_getElem?_getD,List.getElem?_eq_none (by simpa using hi')];rfl
  rw[e];exact wfT_iff.2 ⟨by simp[Bm],by simp,by simp,by simp,by simp⟩
def EqG (t:T):Prop:=∀ u:T,CG t→CG u→G.Spec Tryz.prog 176 [tX t,tX u] (bv (ca t u))
theorem YU {k:Int} {w:List Int} {a:List T} {u:T} (h0:k ≠ 0):ca (.mk k w a) u=true ↔ k=u.kind∧(k=1∨(a.length=u.kids.length∧w=u.words))∧(∀ i,w.getD i 0=u.words.getD i 0)∧∀ i,Aq (a.getD i T0)=Aq (u.kids.getD i T0):=by
 rw[eqT_iff];obtain⟨k',w',b⟩:=u;by_cases hk:k=k';rotate_left
 ·constructor
  ·intro h;have:=congrArg T.kind h;simp at this;exact absurd this hk
  ·intro h;exact absurd h.1 hk
 subst hk;by_cases h1:k=1
 ·subst h1;rw[struct_eq];simp
 rw[VH h0 h1];constructor
 ·rintro⟨rfl,h⟩;have hl:a.length=b.length:=by simpa using congrArg List.length h
  exact⟨rfl,.inr ⟨hl,rfl⟩,fun i=>rfl,(Td hl).1 h⟩
 ·rintro⟨_,h,_,h3⟩;rcases h with h | ⟨hl,rfl⟩
  ·exact absurd h h1
  ·exact⟨rfl,(Td hl).2 h3⟩
variable {n0:Nat} {w0:World} {I0:Nat→Prop} {Q:Exit→Sta→Prop}
theorem qk {t u:T} {n:Nat} (hn:n≤100000000000000) (hw:CG t) (hwu:CG u) (hk:∀ i,i<n→EqG (t.kids.getD i T0)) {H:Hp} (h0:H [0]=⟨1,.cells (tL t)⟩) (h1:H [1]=⟨1,.cells (tL u)⟩)
  (hq:(∀ i,i<n→Aq (t.kids.getD i T0)=Aq (u.kids.getD i T0))→∀ (q:Bool),Q (.exit 2) ⟨lk [(2,.pob [0] 1 0),(3,.pob [1] 1 0),(66,iv n),(67,iv n),(68,bv q)],H⟩)
  (hf:(∃ i,Aq (t.kids.getD i T0) ≠ Aq (u.kids.getD i T0))→Q .ret ⟨lk [(4,bv false)],H⟩) :
  ∀ (j i:Nat),i+j=n→(∀ i',i'<i→Aq (t.kids.getD i' T0)=Aq (u.kids.getD i' T0)) →
  LoopC (cx Tryz.prog w0 I0 n0) FM Q ⟨lk [(2,.pob [0] 1 0),(3,.pob [1] 1 0),(66,iv n),(67,iv i)],H⟩:=by
 intro j;induction j with
 |zero=>
  intro i hi he;have:i=n:=by omega
  subst this;refine Ad mixed FM.eq_1 ?_;simp;exact hq he _
 |succ j ih=>
  intro i hi he;have hlt:i<n:=by omega
  have ei:=B0 i;have hrec:=hk i hlt (u.kids.getD i T0) (V8 hw i) (V8 hwu i);refine Ad mixed FM.eq_1 ?_;simp[hlt,h0,h1];refine Af (Jd t i) (by simp) ?_;simp[h0,h1];refine Af (Jd u i) (by simp) ?_;simp[h0,h1];refine Af hrec (by simp) ?_;cases hb:ca (t.kids.getD i T0) (u.kids.getD i T0) with
  |true=>
   simp[ei];refine ih (i+1) (by omega) (fun i' hi'=>?_);by_cases e:i'=i
   ·rw[e];exact eqT_iff.1 hb
   ·exact he i' (by omega)
  |false=>
   simp;exact hf ⟨i,fun e=>by rw[eqT_iff.2 e] at hb;cases hb⟩
set_option maxRecDepth 8000 in
theorem lL:∀ t:T,EqG t:=by
 refine T.ind fun k w ks ih u hw hwu=>?_;have hw':=wfT_iff.1 hw;have hu':=wfT_iff.1 hwu;have hwl:=hw'.wl;have hkl:=hw'.kl;have hul:=hu'.wl;have huk:=hu'.kl;simp only[T.words_mk,T.kids_mk] at hwl hkl;have hk0:∀ i,EqG ((T.mk k w ks).kids.getD i T0):=fun i=>by
  by_cases hi:i<ks.length
  ·have e:(T.mk k w ks).kids.getD i T0=ks[i]:=by simp[List.getD_eq_getElem?_getD,hi]
   rw[e];exact ih _ (EI hi)
  ·have e:(T.mk k w ks).kids.getD i T0=T0:=Ic (by simpa using hi);rw[e];intro u _ _;exact N2 (.inr rfl)
 by_cases hkk:k ≠ u.kind∨k=0
 ·exact N2 hkk
 have h1:k=u.kind:=by omega
 have h0:¬ u.kind=0:=by omega
 simp only[T.kids_mk] at hk0;have yes:(k=1∨(ks.length=u.kids.length∧w=u.words))→(∀ i,w.getD i 0=u.words.getD i 0)→(∀ i,Aq (ks.getD i T0)=Aq (u.kids.getD i T0))→ca (.mk k w ks) u=true:=fun a b c=>(YU (by omega)).2 ⟨h1,a,b,c⟩;have no:¬ ((k=1∨(ks.length=u.kids.length∧w=u.words))∧(∀ i,w.getD i 0=u.words.getD i 0)∧(∀ i,Aq (ks.getD i T0)=Aq (u.kids.getD i T0)))→ca (.mk k w ks) u=false:=fun h=>by
  rw[Bool.eq_false_iff];intro e;exact h ((YU (by omega)).1 e).2
 obtain⟨N,hN⟩:∃ N:Nat,N=max w.length u.words.length:=⟨_,rfl⟩;obtain⟨M,hM⟩:∃ M:Nat,M=max ks.length u.kids.length:=⟨_,rfl⟩;have eN:max (w.length:Int) (u.words.length:Int)=(N:Int):=by omega
 have eM:max (ks.length:Int) (u.kids.length:Int)=(M:Int):=by omega
 refine Ap MS (by simp) fun w0 I0=>?_;have main:(k=1∨(ks.length=u.kids.length∧w=u.words))→WPC (cx Tryz.prog w0 I0 79) HH (Rx Tryz.prog [.tmp 4] (bv (ca (.mk k w ks) u))) ⟨lk [(2,.pob [0] 1 0),(3,.pob [1] 1 0)],Dj [([0],⟨1,.cells [iv k,Gn w,DY ks]⟩),([1],⟨1,.cells [iv u.kind,Gn u.words,DY u.kids]⟩)]⟩:=fun hc=>by
  rw[HH.eq_1];simp[eN];refine ZW (t:=.mk k w ks) (u:=u) (by omega) (by simp) (by simp) (fun he q=>?_) (fun hf=>?_) N 0 (by omega) (fun i hi=>by omega)
  ·have heq:∀ i,w.getD i 0=u.words.getD i 0:=fun i=>by
    by_cases hi:i<N
    ·exact he i hi
    ·rw[Ic (by omega),Ic (by omega)]
   simp[eM];refine qk (t:=.mk k w ks) (u:=u) (by omega) hw hwu (fun i _=>hk0 i) (by simp) (by simp) (fun he2 q=>?_) (fun hf=>?_) M 0 (by omega) (fun i hi=>by omega)
   ·simp;refine Ak (yes hc heq fun i=>?_).symm;by_cases hi:i<M
    ·exact he2 i hi
    ·rw[Ic (by omega),Ic (by omega)]
   ·simp;refine Ak (no fun h=>?_).symm;obtain⟨i,hi⟩:=hf;exact hi (h.2.2 i)
  ·simp;refine Ak (no fun h=>?_).symm;obtain⟨i,hi⟩:=hf;exact hi (h.2.1 i)
 unfold IA;by_cases k1:k=1
 ·have u1:u.kind=1:=by omega
  have hm:=main (.inl k1);rw[u1] at hm;subst k1;simp[u1];refine AA rfl ?_;simp;exact Ax hm
 ·have u1:¬ u.kind=1:=by omega
  by_cases hl:ks.length=u.kids.length
  ·have hl':(ks.length:Int)=u.kids.length:=by omega
   simp[h1,h0,u1,hl'];refine Bz rfl (fun _=>Wb w u.words (by omega)) (fun _=>rfl) rfl ?_;by_cases hww:w=u.words
   ·simp[hww];have:=main (.inr ⟨hl,hww⟩);rw[h1,hww] at this;exact Ax this
   ·simp[hww];refine Ak ?_;rw[← h1];refine(no fun h=>?_).symm;rcases h.1 with h | h
    ·exact k1 h
    ·exact hww h.2
  ·have hl':¬ (ks.length:Int)=u.kids.length:=by omega
   simp[h1,h0,u1,hl,hl'];refine AA rfl ?_;simp;refine Ak ?_;rw[← h1];exact(no fun h=>by
    rcases h.1 with h | h
    ·exact k1 h
    ·exact hl h.1).symm
theorem We {t u:T} (hw:CG t) (hwu:CG u):G.Spec Tryz.prog 176 [tX t,tX u] (bv (ca t u)):=lL t u hw hwu
inductive RI where
 |keep (n:Int)
 |del (l:List T)
 |ins (l:List T)
 |desc (e:E)
def RI.op:RI→OP
 |.keep n=>.mk 0 n [] E0
 |.del l=>.mk 1 0 l E0
 |.ins l=>.mk 2 0 l E0
 |.desc e=>.mk 3 0 [] e
inductive IT where
 |r (x:RI)
 |got (o:OP)
def IT.op:IT→OP
 |.r x=>x.op
 |.got o=>o
theorem Y4:CG T0:=wfT_iff.2 ⟨by simp[Bm],by simp,by simp,by simp,by simp⟩
theorem gS:CG T0:=wfT_iff.2 ⟨by simp[Bm],by simp,by simp,by simp,by simp⟩
theorem jK (a b mask:Int):EP (LJ a b mask):=by
 have h:=Nq (UM (Dv a) (Dv b) mask 8) Q1;rw[Wl (by rw[HR];exact CE _),HR] at h;have e:(256:Int) ^ 8=18446744073709551616:=by decide
 rw[e] at h;exact⟨h.1,h.2⟩
section
variable {n0:Nat} {w0:World} {I0:Nat→Prop}
end
inductive eh (R:E→T→T→Prop):List OP→List T→List T→Prop
 |nil:eh R [] [] []
 |keep {os:List OP} {a b:List T} (l m:List T) (hne:l ≠ []) (h:l.map Aq=m.map Aq) (g:eh R os a b):eh R (.mk 0 (l.length:Nat) [] E0::os) (l++a) (m++b)
 |del {os:List OP} {a b:List T} (l m:List T) (hne:l ≠ []) (h:l.map Aq=m.map Aq) (g:eh R os a b):eh R (.mk 1 0 l E0::os) (m++a) b
 |ins {os:List OP} {a b:List T} (l m:List T) (hne:l ≠ []) (h:l.map Aq=m.map Aq) (g:eh R os a b):eh R (.mk 2 0 l E0::os) a (m++b)
 |desc {os:List OP} {a b:List T} (e:E) (x y:T) (h:R e x y) (g:eh R os a b):eh R (.mk 3 0 [] e::os) (x::a) (y::b)
inductive r8 (R:E→T→T→Prop) (a b:List T):Nat→List KE→Prop
 |nil (p:Nat) (h:∀ i,p≤i→Aq (a.getD i T0)=Aq (b.getD i T0)):r8 R a b p []
 |cons (p i:Nat) (e:E) (ks:List KE) (hp:p≤i) (h:∀ j,p≤j→j<i→Aq (a.getD j T0)=Aq (b.getD j T0)) (hi:i<max a.length b.length) (he:e.kind ≠ 0) (hr:R e (a.getD i T0) (b.getD i T0)) (g:r8 R a b (i+1) ks):r8 R a b p (.mk i e::ks)
inductive pr (a b:List Int):Nat→List WE→Prop
 |nil (p:Nat) (h:∀ i,p≤i→a.getD i 0=b.getD i 0):pr a b p []
 |cons (p i:Nat) (m o n:Int) (ws:List WE) (hp:p≤i) (h:∀ j,p≤j→j<i→a.getD j 0=b.getD j 0) (hi:i<max a.length b.length) (hm:0<m∧m<256) (ho:LJ 0 (a.getD i 0) m=o) (hn:LJ 0 (b.getD i 0) m=n) (h1:LJ (a.getD i 0) n m=b.getD i 0) (h2:LJ (b.getD i 0) o m=a.getD i 0) (g:pr a b (i+1) ws):pr a b p (⟨i,m,o,n⟩::ws)
def LdB (e:E) (a b:T):Prop:=(e=E0∧Aq a=Aq b)∨∃ o n,e = .mk 1 o n [] [] 0 []∧Aq o=Aq a∧Aq n=Aq b
def Ld:Nat→E→T→T→Prop
 |0,e,a,b=>LdB e a b
 |f+1,e,a,b=>LdB e a b∨(∃ ws ks,e = .mk 2 T0 T0 ws ks 0 []∧a.kind=1∧b.kind=1∧pr a.words b.words 0 ws∧r8 (Ld f) a.kids b.kids 0 ks)∨(∃ os,e = .mk 3 T0 T0 [] [] a.kind os∧b.kind=a.kind∧(2≤a.kind∧a.kind≤9)∧(a.words=[]∧b.words=[])∧eh (Ld f) os a.kids b.kids)
section
variable {R:E→T→T→Prop}
end
theorem eA {l:List Int} (h:∀ x,x ∈ l→EP x) (i:Nat):EP (l.getD i 0):=by
 rw[List.getD_eq_getElem?_getD];cases e:l[i]? with
 |none=>exact⟨by simp,by simp⟩
 |some z=>exact h z (List.mem_of_getElem? e)
theorem jQ {l:List Int}:∀ x,x ∈ l.map uv→DV (fun _=>x):=fun x hx=>by
 obtain⟨n,_,rfl⟩:=List.mem_map.1 hx;exact AO
abbrev uvM (u:Nat) (l:List Int):Fam:=pE u 1 (l.map uv) jQ
section
variable {n0:Nat} {w0:World} {I0:Nat→Prop} {M0:Nm→Nat→Prop} {m0:Mu} {Q:Exit→Sta→Prop}
end
end Go.Proofs.YtgkdikddjfgajaaGreatDoor
namespace Go.G
open Go
theorem S8 {P:Program} {f:FuncId} {k:Nat} {fl:Bool} {r:A} {Hc Hr:Hp} (h1:∀ cap,SpecH P f k [.v (.slice none 0 cap)] Hc r Hr) (h2:∀ a cap,SpecH P f k [.v (.slice (some a) 0 cap)] Hc r Hr):SpecH P f k [.sl fl []] Hc r Hr:=by
 refine⟨(h1 0).1,fun w I M0 n μ vs hM hs hl hr=>?_⟩;have h:=hr 0 _ rfl;have go:∀ x,vs.getD 0 undef=x→∀ (k:Nat) (y:A),[A.v x][k]? = some y→Rel w I μ y (vs.getD k undef):=fun x hx k y hk=>by
  cases k with
  |zero=>cases hk;rw[hx];exact .v _ _
  |succ k=>simp at hk
 generalize hq:vs.getD 0 undef=x at h;cases h with
 |slN _ _ a cap _=>
  cases a with
  |none=>exact(h1 cap).2 w I M0 n μ vs hM hs hl (go _ hq)
  |some a=>exact(h2 a cap).2 w I M0 n μ vs hM hs hl (go _ hq)
 |sl _ _ b off n0 cap sz _ g k1 k2=>
  have:n0=0:=k2;subst this;exact(h2 _ cap).2 w I M0 n μ vs hM hs hl (go _ hq)
end Go.G
namespace Go.Proofs.YtgkdikddjfgajaaGreatDoor
open Go Go.G Go.Proofs Go.PL
theorem WA (l:List Int) (h:l.length*8≤140737488355328):SpecF Tryz.prog 43 (fun _=>[Gn l]) Fam.no (fun r=>.osl [r] 1 1 0 l.length) (uvM 1 l):=by
 cases l with
 |nil=>
  refine⟨Ag Ew Al,FR,S8 (fun cap=>?_) (fun a cap=>?_)⟩
  ·refine @SpecF.h _ _ (fun _=>[.v (.slice none 0 cap)]) Fam.no (fun r=>.osl [r] 1 1 0 0) (uvM 1 []) (Bk AP (by simp) (Ag AO Al) FR fun w0 I0 M0 m0=>?_);unfold AI;simp;refine DQ (EV 2 [0] 1 (by simp)) (AK (r0:=.osl [0] 1 1 0 0) (by simp[upd]) rfl fun p=>?_);by_cases hp:p=[]
   ·subst hp;simp[Aa]
   ·simp[Aa,hp]
  ·refine @SpecF.h _ _ (fun _=>[.v (.slice (some a) 0 cap)]) Fam.no (fun r=>.osl [r] 1 1 0 0) (uvM 1 []) (Bk AP (by simp) (Ag AO Al) FR fun w0 I0 M0 m0=>?_);unfold AI;simp;refine AK rfl rfl fun p=>?_;by_cases hp:p=[]
   ·subst hp;simp[Aa]
   ·simp[Aa,hp,Ne.symm hp]
 |cons x l=>
  refine Bk AP (by simp) (Ag Ew Al) FR fun w0 I0 M0 m0=>?_;unfold AI;rw[List.length_cons] at h;simp[h,Gn];refine AK rfl rfl fun p=>?_;by_cases hp:p=[]
  ·subst hp;simp[Aa]
  ·simp[Aa,hp,Ne.symm hp]
theorem VG (l:List T) (h:l.length*56≤140737488355328):SpecF Tryz.prog 217 (fun _=>[DY l]) Fam.no (fun r=>.osl [r] 1 3 0 l.length) (trM 1 l):=by
 cases l with
 |nil=>
  refine⟨Ag Ew Al,FR,S8 (fun cap=>?_) (fun a cap=>?_)⟩
  ·refine @SpecF.h _ _ (fun _=>[.v (.slice none 0 cap)]) Fam.no (fun r=>.osl [r] 1 3 0 0) (trM 1 []) (Bk BH (by simp) (Ag AO Al) FR fun w0 I0 M0 m0=>?_);unfold Bj;simp;refine DQ (EV 2 [0] 3 (by simp)) (AK (r0:=.osl [0] 1 3 0 0) (by simp[upd]) rfl fun p=>?_);by_cases hp:p=[]
   ·subst hp;simp[Aa]
   ·simp[Aa,hp]
  ·refine @SpecF.h _ _ (fun _=>[.v (.slice (some a) 0 cap)]) Fam.no (fun r=>.osl [r] 1 3 0 0) (trM 1 []) (Bk BH (by simp) (Ag AO Al) FR fun w0 I0 M0 m0=>?_);unfold Bj;simp;refine AK rfl rfl fun p=>?_;by_cases hp:p=[]
   ·subst hp;simp[Aa]
   ·simp[Aa,hp,Ne.symm hp]
 |cons x l=>
  refine Bk BH (by simp) (Ag Ew Al) FR fun w0 I0 M0 m0=>?_;unfold Bj;rw[List.length_cons] at h;simp[h,DY];refine AK rfl rfl fun p=>?_;by_cases hp:p=[]
  ·subst hp;simp[Aa]
  ·simp[Aa,hp,Ne.symm hp]
variable {n0:Nat} {w0:World} {I0:Nat→Prop} {Q:Exit→Sta→Prop}
theorem qV {l m:List T} (hl:∀ t,t ∈ l→CG t) (hm:∀ t,t ∈ m→CG t) (h:l.map Aq=m.map Aq) (hb:l.length≤10000000000000) (hq:∀ st H,Q (.exit 0) ⟨lk ([(1,DY m),(2,.fnc 176 [] [])]++st),H⟩):∀ (j i:Nat) (H:Hp),i+j=l.length →
  LoopC (cx Tryz.prog w0 I0 n0) Aw Q ⟨lk [(1,DY m),(2,.fnc 176 [] []),(15,DY l),(16,iv l.length),(17,iv i)],H⟩:=by
 have hlen:l.length=m.length:=by simpa using congrArg List.length h
 intro j;induction j with
 |zero=>
  intro i H hj;have:i=l.length:=by omega
  subst this;refine Ad mixed Aw.eq_1 ?_;simp;have:=hq [(15,DY l),(16,iv l.length),(17,iv l.length),(18,bv false)] H;simpa using this
 |succ j ih=>
  intro i H hj;have h1:i<l.length:=by omega
  have h2:i<m.length:=by omega
  have ew:=B0 i;have he:ca l[i] m[i]=true:=by
   rw[eqT_iff];have:(l.map Aq)[i]? = (m.map Aq)[i]?:=by rw[h]
   simpa[h1,h2] using this
  have E:=We (hl _ (EI h1)) (hm _ (EI h2));rw[he] at E;refine Ad mixed Aw.eq_1 ?_;simp[h1,h2,Aa];refine MV rfl E (by simp) ?_;simp[ew];exact ih (i+1) _ (by omega)
theorem eO {l m:List T} (hl:∀ t,t ∈ l→CG t) (hm:∀ t,t ∈ m→CG t) (h:l.map Aq=m.map Aq) (hb:l.length≤10000000000000):G.Spec Tryz.prog 218 [DY l,DY m,.fnc 176 [] []] (bv true):=by
 have hlen:l.length=m.length:=by simpa using congrArg List.length h
 refine Ap B5 (by simp) fun w0 I0=>?_;unfold Ba;simp[hlen];refine LoopC.le (Be [(1,DY m),(2,.fnc 176 [] []),(15,DY l),(16,iv l.length),(17,iv (0:Nat))] (by simp[hlen])) ?_;refine qV hl hm h hb (fun st H=>?_) l.length 0 _ (by omega);simp;exact Ab rfl
inductive aK (P:E→T→T→Prop):List OP→List T→List T→Prop
 |nil:aK P [] [] []
 |keep {os:List OP} {a u:List T} (l:List T) (g:aK P os a u):aK P (.mk 0 (l.length:Nat) [] E0::os) (l++a) (l++u)
 |del {os:List OP} {a u:List T} (l m:List T) (h:l.map Aq=m.map Aq) (g:aK P os a u):aK P (.mk 1 0 l E0::os) (m++a) u
 |ins {os:List OP} {a u:List T} (l:List T) (g:aK P os a u):aK P (.mk 2 0 l E0::os) a (l++u)
 |desc {os:List OP} {a u:List T} (e:E) (x y:T) (h:P e x y) (g:aK P os a u):aK P (.mk 3 0 [] e::os) (x::a) (y::u)
theorem oW {R P:E→T→T→Prop} {os:List OP} {a b:List T} (h:eh R os a b):(∀ o,o ∈ os→o.kind=3→∀ x,x ∈ a→∀ y,y ∈ b→R o.e x y→∃ u,P o.e x u∧Aq u=Aq y)→∃ u,aK P os a u∧u.map Aq=b.map Aq:=by
 induction h with
 |nil=>exact fun _=>⟨[],.nil,rfl⟩
 |keep l m hne hl _ ih=>
  intro hP;obtain⟨u,h1,h2⟩:=ih fun o ho hk x hx y hy=>hP o (List.mem_cons_of_mem _ ho) hk x (List.mem_append_right _ hx) y (List.mem_append_right _ hy);exact⟨l++u,.keep l h1,by rw[List.map_append,List.map_append,hl,h2]⟩
 |del l m hne hl _ ih=>
  intro hP;obtain⟨u,h1,h2⟩:=ih fun o ho hk x hx y hy=>hP o (List.mem_cons_of_mem _ ho) hk x (List.mem_append_right _ hx) y hy;exact⟨u,.del l m hl h1,h2⟩
 |ins l m hne hl _ ih=>
  intro hP;obtain⟨u,h1,h2⟩:=ih fun o ho hk x hx y hy=>hP o (List.mem_cons_of_mem _ ho) hk x hx y (List.mem_append_right _ hy);exact⟨l++u,.ins l h1,by rw[List.map_append,List.map_append,hl,h2]⟩
 |desc e x y r _ ih=>
  intro hP;obtain⟨u,h1,h2⟩:=ih fun o ho hk x hx y hy=>hP o (List.mem_cons_of_mem _ ho) hk x (List.mem_cons_of_mem _ hx) y (List.mem_cons_of_mem _ hy);obtain⟨v,k1,k2⟩:=hP (.mk 3 0 [] e) (by simp) rfl x (by simp) y (by simp) r;exact⟨v::u,.desc e x v k1 h1,by rw[List.map_cons,List.map_cons,k2,h2]⟩
abbrev Q5 (e:E) (x u:T):Prop:=CG u∧G.Spec Tryz.prog 132 [eX e,tX x] (.tup [tX u,bv true])
theorem pZ {os:List OP} {a u:List T} (h:aK Q5 os a u):(∀ t,t ∈ a→CG t)→(∀ o,o ∈ os→∀ t,t ∈ o.l→CG t)→∀ t,t ∈ u→CG t:=by
 induction h with
 |nil=>intro _ _ t ht;simp at ht
 |keep l _ ih=>
  intro ha ho t ht;rcases List.mem_append.1 ht with ht | ht
  ·exact ha t (List.mem_append_left _ ht)
  ·exact ih (fun t ht=>ha t (List.mem_append_right _ ht)) (fun o h=>ho o (List.mem_cons_of_mem _ h)) t ht
 |del l m _ _ ih=>
  intro ha ho t ht;exact ih (fun t ht=>ha t (List.mem_append_right _ ht)) (fun o h=>ho o (List.mem_cons_of_mem _ h)) t ht
 |ins l _ ih=>
  intro ha ho t ht;rcases List.mem_append.1 ht with ht | ht
  ·exact ho (.mk 2 0 l E0) (by simp) t ht
  ·exact ih ha (fun o h=>ho o (List.mem_cons_of_mem _ h)) t ht
 |desc e x y r _ ih=>
  intro ha ho t ht;rcases List.mem_cons.1 ht with rfl | ht
  ·exact r.1
  ·exact ih (fun t ht=>ha t (List.mem_cons_of_mem _ ht)) (fun o h=>ho o (List.mem_cons_of_mem _ h)) t ht
theorem wE {k0:Int} {os:List OP} {R:List T} (hR:R.length≤1000000) (hol:os.length≤1000000000000) (how:∀ o,o ∈ os→∀ t,t ∈ o.l→CG t) (hos:∀ o,o ∈ os→o.l.length≤10000000000000)
  (hq:∀ (H':Hp) (v:Nat) (st:List (Nat × A)),H' [2]=⟨1,.cells [iv 0,.sl true [],.sl true []]⟩→H' [3]=⟨1,.cells [iv k0,.sl true [],.osl [5] v 3 0 R.length]⟩→H' [5]=⟨v,.arr 3 (R.map tA)⟩→Q (.exit 0) ⟨lk ([(4,.pob [2] 1 0),(6,.pob [3] 1 0),(7,DY [])]++st),H'⟩) :
  ∀ (m k v:Nat) (a u X:List T) (H:Hp),k+m=os.length→aK Q5 (os.drop k) a u→(∀ t,t ∈ a→CG t)→a.length≤1000000→R=X++u→H [2]=⟨1,.cells [iv 0,.sl true [],.sl true []]⟩→H [3]=⟨1,.cells [iv k0,.sl true [],.osl [5] v 3 0 X.length]⟩→H [5]=⟨v,.arr 3 (X.map tA)⟩ →
  LoopC (cx Tryz.prog w0 I0 n0) FJ Q ⟨lk [(4,.pob [2] 1 0),(6,.pob [3] 1 0),(7,DY a),(26,SX os),(27,iv os.length),(28,iv k)],H⟩:=by
 intro m;induction m with
 |zero=>
  intro k v a u X H hm h ha hal hX h2 h3 h5;have:k=os.length:=by omega
  subst this;rw[List.drop_length] at h;cases h;rw[List.append_nil] at hX;subst hX;refine Ad mixed FJ.eq_1 ?_;simp;have:=hq H v [(26,SX os),(27,iv os.length),(28,iv os.length),(29,bv false)] h2 h3 h5;simpa using this
 |succ m ih=>
  intro k v a u X H hm h ha hal hX h2 h3 h5;have hlt:k<os.length:=by omega
  have ew:=B0 k;have hd:os.drop k=os[k]::os.drop (k+1):=(List.getElem_cons_drop hlt).symm;have hol1:=hos _ (EI hlt);have how1:=how _ (EI hlt);rw[hd] at h;have next:=ih (k+1) (v+1)
  generalize hx:os[k]=o at *;refine Ad mixed FJ.eq_1 ?_;have eX:List.take X.length (X.map tA)=X.map tA:=DE (by simp);cases h with
  |keep l g=>
   rename_i a u;have nx:=next a u (X++l)
   rw[List.length_append] at nx hal;have c1:(l.length:Int)≤(l.length:Int)+a.length:=by omega
   have c2:¬ ((l.length:Int)+a.length<(l.length:Int)):=by omega
   have hR2:R.length=X.length+(l.length+u.length):=by rw[hX];simp
   have ea:List.take a.length (a.map tA)=a.map tA:=DE (by simp);simp[hlt,hx,Aa,h3,h5];rw[FO.eq_1];simp[hlt,hx,Aa,h3,h5,ew,c1,c2,eX,ea];refine⟨by omega,?_⟩;exact nx _ (by omega) g (fun t ht=>ha t (List.mem_append_right _ ht)) (by omega) (by rw[hX];simp) (by simp[Aa,h2]) (by simp[Aa]) (by simp[Aa])
  |del l mm hn g=>
   rename_i a;have hlen:l.length=mm.length:=by simpa using congrArg List.length hn
   have nx:=ih (k+1) v a u X;rw[List.length_append] at hal;have c1:(l.length:Int)≤(mm.length:Int)+a.length:=by omega
   have c2:¬ ((mm.length:Int)+a.length<(l.length:Int)):=by omega
   have ea:List.take a.length (a.map tA)=a.map tA:=DE (by simp);have et:List.take l.length (mm.map tA++a.map tA)=mm.map tA:=by rw[hlen];exact List.take_left' (by simp)
   have ed:List.drop l.length (mm.map tA++a.map tA)=a.map tA:=by rw[hlen];exact List.drop_left' (by simp)
   have eL:mm.length+a.length-l.length=a.length:=by omega
   have E:=eO (l:=l) (m:=mm) (fun t ht=>how1 t ht) (fun t ht=>ha t (List.mem_append_left _ ht)) hn (by have:=hol1;show l.length≤_;have h':l.length≤10000000000000:=hol1;omega);simp[hlt,hx,Aa,h3,h5];rw[FO.eq_1];simp[hlt,hx,Aa,h3,h5,ew,c1,c2,eX,ea,et,ed,eL];refine Af E (by simp) ?_;simp[ew];exact nx _ (by omega) g (fun t ht=>ha t (List.mem_append_right _ ht)) (by omega) hX (by simp[Aa,h2]) (by simp[Aa,h3]) (by simp[Aa,h5])
  |ins l g=>
   rename_i u;have nx:=next a u (X++l)
   rw[List.length_append] at nx;have hR2:R.length=X.length+(l.length+u.length):=by rw[hX];simp
   simp[hlt,hx,Aa,h3,h5,ew,eX];refine⟨by omega,?_⟩;simp[DN,ew];exact nx _ (by omega) g ha (by omega) (by rw[hX];simp) (by simp[Aa,h2]) (by simp[Aa]) (by simp[Aa])
  |desc e x y r g=>
   rename_i a u;have nx:=next a u (X++[y])
   rw[List.length_append,List.length_singleton] at nx;rw[List.length_cons] at hal;have hR2:R.length=X.length+(1+u.length):=by rw[hX];simp;omega
   have c1:(1:Int)≤(a.length:Int)+1:=by omega
   have c2:¬ ((a.length:Int)+1<1):=by omega
   have ea:List.take a.length (a.map tA)=a.map tA:=DE (by simp);simp[hlt,hx,Aa,h3,h5];rw[FO.eq_1];simp[hlt,hx,Aa,h3,h5,ew,c1,c2,eX,ea];refine Af r.2 (by simp) ?_;simp[hlt,hx,Aa,h3,h5,ew,c1,c2,eX,ea];refine⟨by omega,?_⟩;exact nx _ (by omega) g (fun t ht=>ha t (List.mem_cons_of_mem _ ht)) (by omega) (by rw[hX];simp) (by simp[Aa,h2]) (by simp[Aa]) (by simp[Aa])
theorem UK {l:Int} {os:List OP} {t:T} {u:List T} (hw:CG t) (hol:os.length≤1000000000000) (how:∀ o,o ∈ os→∀ t,t ∈ o.l→CG t) (hos:∀ o,o ∈ os→o.l.length≤10000000000000) (hu:u.length≤1000000) (ht:t.kids.length≤1000000) (hk:t.kind=l) (h:aK Q5 os t.kids u):G.Spec Tryz.prog 178 [eX (.mk 3 T0 T0 [] [] l os),tX t] (.tup [tX (.mk l [] u),bv true]):=by
 obtain⟨k,w,ks⟩:=t;have hk:k=l:=hk;subst hk;refine Ap Tw (by simp) fun w0 I0=>?_;unfold MF;simp;refine LoopC.le (CZ (d:=[3]) (u:=1) 2 [5] 3 (by simp[Aa];rfl) rfl (by simp)) ?_;refine LoopC.le (Be [(4,.pob [2] 1 0),(6,.pob [3] 1 0),(7,DY ks),(26,SX os),(27,iv os.length),(28,iv (0:Nat))] (by simp)) ?_;refine wE (k0:=k) (R:=u) hu hol how hos (fun H' v st h2 h3 h5=>?_) os.length 0 1 ks u [] _ (by omega) (by simpa using h) (fun t ht=>(wfT_iff.1 hw).ks t ht) ht rfl (by simp[Aa]) (by simp[Aa]) (by simp[Aa]);simp[h2,h3];refine BL ⟨CK ⟨Ab rfl,Ae,?_,trivial⟩,Ab rfl,trivial⟩;have:=DT (H:=Ar H' [2] ⟨1,.cells [iv k,.sl true [],.osl [5] v 3 0 u.length]⟩) (o:=[5]) (u:=v) (n:=u.length) (sz:=3) (l:=u) (f:=tA) (by simp[Aa,h5]) rfl (fun x=>by simp);exact this
def Js (X:List Int) (i:Nat):List Int:=X++List.replicate (i+1-X.length) 0
theorem MI (X:List Int) (i:Nat):(Js X i).length=max X.length (i+1):=by simp[Js];omega
theorem U4 {α:Type} (X:List α) (n:Nat) (z:α) (j:Nat):(X++List.replicate n z).getD j z=X.getD j z:=by
 rw[List.getD_eq_getElem?_getD,List.getD_eq_getElem?_getD];by_cases h:j<X.length
 ·rw[List.getElem?_append_left h]
 ·rw[List.getElem?_append_right (by omega),List.getElem?_eq_none (l:=X) (by omega)];by_cases h2:j-X.length<n
  ·rw[List.getElem?_replicate,if_pos h2];rfl
  ·rw[List.getElem?_replicate,if_neg h2]
theorem Vl {α:Type} (X:List α) (i:Nat) (u z:α) (hi:i<X.length) (j:Nat):(X.set i u).getD j z=if j=i then u else X.getD j z:=by
 rw[List.getD_eq_getElem?_getD,List.getD_eq_getElem?_getD,List.getElem?_set];by_cases h:i=j
 ·subst h;rw[if_pos rfl,if_pos hi,if_pos rfl];rfl
 ·rw[if_neg h,if_neg (Ne.symm h)]
def SH (a:List Int):List WE→List Int→List Int
 |[],X=>X
 |w::ws,X=>SH a ws ((Js X w.at_.toNat).set w.at_.toNat (LJ (a.getD w.at_.toNat 0) w.new w.mask))
theorem qZ {a b:List Int} {p:Nat} {ws:List WE} (h:pr a b p ws):∀ X:List Int,(∀ j,j<p→X.getD j 0=b.getD j 0)→(∀ j,p≤j→X.getD j 0=a.getD j 0)→(∀ j,(SH a ws X).getD j 0=b.getD j 0)∧(SH a ws X).length≤max X.length (max a.length b.length):=by
 induction h with
 |nil p h=>
  intro X h1 h2;refine⟨fun j=>?_,by show X.length≤_;omega⟩;by_cases hj:j<p
  ·exact h1 j hj
  ·rw[show(SH a [] X)=X from rfl,h2 j (by omega),h j (by omega)]
 |cons p i m o n ws hp h hi hm ho hn g1 g2 _ ih=>
  intro X h1 h2;have hl:i<(Js X i).length:=by rw[MI];omega
  have e:SH a (⟨i,m,o,n⟩::ws) X=SH a ws ((Js X i).set i (b.getD i 0)):=by
   show SH a ws ((Js X ((i:Int)).toNat).set ((i:Int)).toNat (LJ (a.getD ((i:Int)).toNat 0) n m))=_;rw[Int.toNat_natCast,g1]
  have gs:∀ j,((Js X i).set i (b.getD i 0)).getD j 0=if j=i then b.getD i 0 else X.getD j 0:=fun j=>by
   rw[Vl _ _ _ _ hl];unfold Js;rw[U4]
  obtain⟨k1,k2⟩:=ih ((Js X i).set i (b.getD i 0)) (fun j hj=>by
   rw[gs];by_cases e:j=i
   ·rw[if_pos e,e]
   ·rw[if_neg e];by_cases hjp:j<p
    ·exact h1 j hjp
    ·rw[h2 j (by omega),h j (by omega) (by omega)]) (fun j hj=>by
   rw[gs,if_neg (by omega)];exact h2 j (by omega))
  rw[e];refine⟨k1,Nat.le_trans k2 ?_⟩;rw[List.length_set,MI];omega
theorem Zb {a:List Int}:∀ (ws:List WE) (X:List Int),(∀ x,x ∈ X→EP x)→∀ x,x ∈ SH a ws X→EP x
 |[],X,h=>h
 |w::ws,X,h=>by
  refine Zb ws _ fun x hx=>?_;rcases List.mem_or_eq_of_mem_set hx with hx | rfl
  ·unfold Js at hx;rcases List.mem_append.1 hx with hx | hx
   ·exact h x hx
   ·rw[List.eq_of_mem_replicate hx];exact⟨by omega,by omega⟩
  ·exact jK _ _ _
abbrev KI:=Bool × T
def Um (x:KI):T:=if x.1=true then T0 else x.2
def qT (x:KI):List A:=if x.1=true then [iv 0,.sl true [],.sl true []] else [iv x.2.kind,Gn x.2.words,DY x.2.kids]
def jH (x:KI):A:=.agg (qT x)
@[simp] theorem sP {x:KI}:(jH x).cells=qT x:=rfl
@[simp] theorem AaE {x:KI}:(qT x).length=3:=by unfold qT;split<;>rfl
def Ja (Z:List KI) (i:Nat):List KI:=Z++List.replicate (i+1-Z.length) (true,T0)
theorem Na (Z:List KI) (i:Nat):(Ja Z i).length=max Z.length (i+1):=by simp[Ja];omega
def SA:List KE→List T→List KI→List KI
 |x::ks,u::us,Z=>SA ks us ((Ja Z x.at_.toNat).set x.at_.toNat (false,u))
 |_,_,Z=>Z
inductive oK (P:E→T→T→Prop) (a:List T):List KE→List T→Prop
 |nil:oK P a [] []
 |cons (i:Nat) (e:E) (u:T) (ks:List KE) (us:List T) (h:P e (a.getD i T0) u) (g:oK P a ks us):oK P a (.mk i e::ks) (u::us)
theorem o5 {R P:E→T→T→Prop} {a b:List T} {p:Nat} {ks:List KE} (h:r8 R a b p ks):(∀ x,x ∈ ks→∀ i,R x.e (a.getD i T0) (b.getD i T0)→∃ u,P x.e (a.getD i T0) u∧Aq u=Aq (b.getD i T0))→∃ us,oK P a ks us∧∀ Z:List KI,(∀ j,j<p→Aq ((Z.map Um).getD j T0)=Aq (b.getD j T0))→(∀ j,p≤j→Aq ((Z.map Um).getD j T0)=Aq (a.getD j T0))→(∀ j,Aq (((SA ks us Z).map Um).getD j T0)=Aq (b.getD j T0))∧(SA ks us Z).length≤max Z.length (max a.length b.length):=by
 induction h with
 |nil p h=>
  intro _;refine⟨[],.nil,fun Z h1 h2=>⟨fun j=>?_,by show Z.length≤_;omega⟩⟩;by_cases hj:j<p
  ·exact h1 j hj
  ·rw[show SA [] [] Z=Z from rfl,h2 j (by omega),h j (by omega)]
 |cons p i e ks hp h hi he hr _ ih=>
  intro hP;obtain⟨u,k1,k2⟩:=hP (.mk i e) (by simp) i hr;obtain⟨us,k3,k4⟩:=ih fun x hx=>hP x (List.mem_cons_of_mem _ hx);refine⟨u::us,.cons i e u ks us k1 k3,fun Z h1 h2=>?_⟩;have hl:i<(Ja Z i).length:=by rw[Na];omega
  have ee:SA (.mk i e::ks) (u::us) Z=SA ks us ((Ja Z i).set i (false,u)):=by
   show SA ks us ((Ja Z ((i:Int)).toNat).set ((i:Int)).toNat (false,u))=_;rw[Int.toNat_natCast]
  have gs:∀ j,(((Ja Z i).set i (false,u)).map Um).getD j T0=if j=i then u else (Z.map Um).getD j T0:=fun j=>by
   rw[List.map_set,Vl _ _ _ _ (by rw[List.length_map];exact hl)];have e1:(Ja Z i).map Um=Z.map Um++List.replicate (i+1-Z.length) T0:=by
    unfold Ja;rw[List.map_append,List.map_replicate];rfl
   rw[e1,U4];rfl
  obtain⟨g1,g2⟩:=k4 ((Ja Z i).set i (false,u)) (fun j hj=>by
   rw[gs];by_cases ej:j=i
   ·rw[if_pos ej,ej,k2]
   ·rw[if_neg ej];by_cases hjp:j<p
    ·exact h1 j hjp
    ·rw[h2 j (by omega),h j (by omega) (by omega)]) (fun j hj=>by
   rw[gs,if_neg (by omega)];exact h2 j (by omega))
  rw[ee];refine⟨g1,Nat.le_trans g2 ?_⟩;rw[List.length_set,Na];omega
theorem Zu {Q:T→Prop} (h0:Q T0):∀ (ks:List KE) (us:List T) (Z:List KI),(∀ u,u ∈ us→Q u)→(∀ z,z ∈ Z→Q (Um z))→∀ z,z ∈ SA ks us Z→Q (Um z)
 |[],_,Z,_,h=>by
  intro z hz;exact h z (by simpa[SA] using hz)
 |x::ks,[],Z,_,h=>by
  intro z hz;exact h z (by simpa[SA] using hz)
 |x::ks,u::us,Z,hu,h=>by
  refine Zu h0 ks us _ (fun v hv=>hu v (List.mem_cons_of_mem _ hv)) fun z hz=>?_;rcases List.mem_or_eq_of_mem_set hz with hz | rfl
  ·unfold Ja at hz;rcases List.mem_append.1 hz with hz | hz
   ·exact h z hz
   ·rw[List.eq_of_mem_replicate hz];exact h0
  ·exact hu u (by simp)
theorem xa {X0:List Int} {i w:Nat} {c0 c1 c2:A} {K B L:A} {N k:Nat} (hX:X0.length≤1000000) (hi:i≤1000000) {H0:Hp} (h4:H0 [4]=⟨w,.cells [iv i,c0,c1,c2]⟩)
  (hq:∀ (H':Hp) (v:Nat),H' [3]=⟨1,.cells [iv 1,.osl [15] v 1 0 (Js X0 i).length,K]⟩→H' [15]=⟨v,.arr 1 ((Js X0 i).map uv)⟩→(∀ o,o ≠ [3]→o ≠ [15]→H' o=H0 o)→Q (.exit 2) ⟨lk [(2,.pob [0] 1 0),(3,.pob [1] 1 0),(4,.pob [2] 1 0),(6,.pob [3] 1 0),(8,.pob [4] w 0),(9,B),(26,L),(27,iv N),(28,iv k),(49,bv false)],H'⟩) :
  ∀ (j n v:Nat) (H:Hp),n+j=i+1-X0.length→H [3]=⟨1,.cells [iv 1,.osl [15] v 1 0 (X0.length+n),K]⟩→H [15]=⟨v,.arr 1 ((X0++List.replicate n 0).map uv)⟩→(∀ o,o ≠ [3]→o ≠ [15]→H o=H0 o) →
  LoopC (cx Tryz.prog w0 I0 n0) Dh Q ⟨lk [(2,.pob [0] 1 0),(3,.pob [1] 1 0),(4,.pob [2] 1 0),(6,.pob [3] 1 0),(8,.pob [4] w 0),(9,B),(26,L),(27,iv N),(28,iv k)],H⟩:=by
 intro j;induction j with
 |zero=>
  intro n v H hm h3 h15 hH;have g4:=hH [4] (by simp) (by simp);rw[h4] at g4;have hp:Js X0 i=X0++List.replicate n 0:=by unfold Js;rw[← hm];rfl
  have hc:¬ ((X0.length:Int)+n≤i):=by omega
  refine Ad mixed Dh.eq_1 ?_;simp[h3,g4,hc];refine hq H v (by rw[hp];simpa using h3) (by rw[hp];exact h15) hH
 |succ j ih=>
  intro n v H hm h3 h15 hH;have g4:=hH [4] (by simp) (by simp);rw[h4] at g4;have hc:(X0.length:Int)+n≤i:=by omega
  refine Ad mixed Dh.eq_1 ?_;simp[h3,g4,hc,h15,Aa];refine⟨by omega,?_⟩;refine ih (n+1) (v+1) _ (by omega) (by simp[Aa];omega) ?_ (fun o h1 h2=>by simp[Aa,h1,h2,hH]);simp[Aa,List.replicate_succ'];rw[DE (by simp)];simp
theorem xm {t:T} (ht:CG t) {ws:List WE} (hwl:ws.length≤10000000000000) {b R:List Int} {K:A} {v0 v2 v16:VOb} (hb:max t.words.length b.length≤900000) (hws:∀ x,x ∈ ws→EP x.old∧EP x.new)
  (hq:∀ (H':Hp) (v:Nat) (st:List (Nat × A)),H' [0]=v0→H' [1]=⟨1,.cells (tL t)⟩→H' [2]=v2→H' [3]=⟨1,.cells [iv 1,.osl [15] v 1 0 R.length,K]⟩→H' [15]=⟨v,.arr 1 (R.map uv)⟩→H' [16]=v16→Q (.exit 0) ⟨lk ([(2,.pob [0] 1 0),(3,.pob [1] 1 0),(4,.pob [2] 1 0),(6,.pob [3] 1 0)]++st),H'⟩) :
  ∀ (m k p v:Nat) (X:List Int) (H:Hp),k+m=ws.length→pr t.words b p (ws.drop k)→R=SH t.words (ws.drop k) X→X.length≤900000→H [0]=v0→H [1]=⟨1,.cells (tL t)⟩→H [2]=v2→H [3]=⟨1,.cells [iv 1,.osl [15] v 1 0 X.length,K]⟩→H [15]=⟨v,.arr 1 (X.map uv)⟩→H [16]=v16 →
  LoopC (cx Tryz.prog w0 I0 n0) Dm Q ⟨lk [(2,.pob [0] 1 0),(3,.pob [1] 1 0),(4,.pob [2] 1 0),(6,.pob [3] 1 0),(26,ar ws),(27,iv ws.length),(28,iv k)],H⟩:=by
 have z0:EP 0:=⟨by decide,by decide⟩;intro m;induction m with
 |zero=>
  intro k p v X H hm hL hR hX h0 h1 h2 h3 h15 h16;have:k=ws.length:=by omega
  subst this;rw[List.drop_length] at hR;have hR:R=X:=hR;subst hR;refine Ad mixed Dm.eq_1 ?_;simp;have:=hq H v [(26,ar ws),(27,iv ws.length),(28,iv ws.length),(29,bv false)] h0 h1 h2 h3 h15 h16;simpa using this
 |succ m ih=>
  intro k p v X H hm hL hR hX h0 h1 h2 h3 h15 h16;have hlt:k<ws.length:=by omega
  have ew:=B0 k;have hd:ws.drop k=ws[k]::ws.drop (k+1):=(List.getElem_cons_drop hlt).symm;rw[hd] at hL hR;have hwo:=hws _ (EI hlt);have next:=ih (k+1)
  generalize hx:ws[k]=x at *;cases hL with
  |cons _ i mk o n _ hp hh hi hmk ho hn g1 g2 g=>
   have hwa:=eA (wfT_iff.1 ht).w i;have M1:=Ku (mask:=mk) z0 hwa (by omega) (by omega);have M2:=Ku (mask:=mk) hwa hwo.2 (by omega) (by omega);have W1:=HS t i;simp only at M2;rw[ho] at M1;rw[g1] at M2;have hl:i<(Js X i).length:=by rw[MI];omega
   have hR':R=SH t.words (ws.drop (k+1)) ((Js X i).set i (b.getD i 0)):=by
    rw[hR];show SH t.words _ ((Js X ((i:Int)).toNat).set ((i:Int)).toNat (LJ (t.words.getD ((i:Int)).toNat 0) n mk))=_;rw[Int.toNat_natCast,g1]
   refine Ad mixed Dm.eq_1 ?_;simp[hlt,hx,Aa,h1];refine Af W1 (by simp) ?_;simp[Aa];refine Af M1 (by simp) ?_;simp[Aa];refine xa (X0:=X) (i:=i) (w:=(H [4]).u+1) (c0:=u8 mk) (c1:=uv o) (c2:=uv n) (K:=K) (by omega) (by omega) (H0:=Ar H [4] ⟨(H [4]).u+1,.cells [iv i,u8 mk,uv o,uv n]⟩) (by simp[Aa]) (fun H' v' k3 k15 kH=>?_) (i+1-X.length) 0 v _ (by omega) (by simp[Aa,h3]) (by simp[Aa,h15]) (fun o _ _=>rfl);have k4:=kH [4] (by simp) (by simp);have k0:=kH [0] (by simp) (by simp);have k1:=kH [1] (by simp) (by simp);have k2:=kH [2] (by simp) (by simp);have k16:=kH [16] (by simp) (by simp);simp[Aa] at k4 k0 k1 k2 k16;simp[k3,k4];refine Af M2 (by simp) ?_;simp[k3,k15,k4,hl,ew];refine next (i+1) v' ((Js X i).set i (b.getD i 0)) _ (by omega) g hR' (by rw[List.length_set,MI];omega) (by simp[Aa,k0,h0]) (by simp[Aa,k1,h1]) (by simp[Aa,k2,h2]) (by simp[Aa,k3]) (by simp[Aa,List.map_set]) (by simp[Aa,k16,h16])
theorem xd {Z0:List KI} {i w w7:Nat} {c4:List A} {K:A} {L:A} {N k:Nat} (hZ:Z0.length≤1000000) (hi:i≤1000000) {H0:Hp} (h6:H0 [6]=⟨w,.cells (iv i::c4)⟩)
  (hq:∀ (H':Hp) (v:Nat),H' [3]=⟨1,.cells [iv 1,K,.osl [16] v 3 0 (Ja Z0 i).length]⟩→H' [16]=⟨v,.arr 3 ((Ja Z0 i).map jH)⟩→(∀ o,o ≠ [3]→o ≠ [16]→H' o=H0 o)→Q (.exit 6) ⟨lk [(3,.pob [1] 1 0),(4,.pob [2] 1 0),(6,.pob [3] 1 0),(11,.pob [6] w 0),(12,.pob [7] w7 0),(68,L),(69,iv N),(70,iv k),(92,bv false)],H'⟩) :
  ∀ (j n v:Nat) (H:Hp),n+j=i+1-Z0.length→H [3]=⟨1,.cells [iv 1,K,.osl [16] v 3 0 (Z0.length+n)]⟩→H [16]=⟨v,.arr 3 ((Z0++List.replicate n (true,T0)).map jH)⟩→(∀ o,o ≠ [3]→o ≠ [16]→H o=H0 o) →
  LoopC (cx Tryz.prog w0 I0 n0) Dl Q ⟨lk [(3,.pob [1] 1 0),(4,.pob [2] 1 0),(6,.pob [3] 1 0),(11,.pob [6] w 0),(12,.pob [7] w7 0),(68,L),(69,iv N),(70,iv k)],H⟩:=by
 intro j;induction j with
 |zero=>
  intro n v H hm h3 h16 hH;have g6:=hH [6] (by simp) (by simp);rw[h6] at g6;have hp:Ja Z0 i=Z0++List.replicate n (true,T0):=by unfold Ja;rw[← hm];rfl
  have hc:¬ ((Z0.length:Int)+n≤i):=by omega
  refine Ad mixed Dl.eq_1 ?_;simp[h3,g6,hc];refine hq H v (by rw[hp];simpa using h3) (by rw[hp];exact h16) hH
 |succ j ih=>
  intro n v H hm h3 h16 hH;have g6:=hH [6] (by simp) (by simp);rw[h6] at g6;have hc:(Z0.length:Int)+n≤i:=by omega
  refine Ad mixed Dl.eq_1 ?_;simp[h3,g6,hc,h16,Aa];refine⟨by omega,?_⟩;refine ih (n+1) (v+1) _ (by omega) (by simp[Aa];omega) ?_ (fun o h1 h2=>by simp[Aa,h1,h2,hH]);simp[Aa,List.replicate_succ'];rw[DE (by simp)];simp[jH,qT]
theorem uj {t:T} {ks:List KE} (hkl:ks.length≤10000000000000) {Z1:List KI} {K:A} {v2 v15:VOb} (hat:∀ x,x ∈ ks→0≤x.at_∧x.at_≤900000)
  (hq:∀ (H':Hp) (v:Nat) (st:List (Nat × A)),H' [2]=v2→H' [3]=⟨1,.cells [iv 1,K,.osl [16] v 3 0 Z1.length]⟩→H' [16]=⟨v,.arr 3 (Z1.map jH)⟩→H' [15]=v15→Q (.exit 4) ⟨lk ([(3,.pob [1] 1 0),(4,.pob [2] 1 0),(6,.pob [3] 1 0)]++st),H'⟩) :
  ∀ (m k v:Nat) (us:List T) (Z:List KI) (H:Hp),k+m=ks.length→oK Q5 t.kids (ks.drop k) us→Z1=SA (ks.drop k) us Z→Z.length≤900001→H [1]=⟨1,.cells (tL t)⟩→H [2]=v2→H [3]=⟨1,.cells [iv 1,K,.osl [16] v 3 0 Z.length]⟩→H [16]=⟨v,.arr 3 (Z.map jH)⟩→H [15]=v15 →
  LoopC (cx Tryz.prog w0 I0 n0) Du Q ⟨lk [(3,.pob [1] 1 0),(4,.pob [2] 1 0),(6,.pob [3] 1 0),(68,W4 ks),(69,iv ks.length),(70,iv k)],H⟩:=by
 intro m;induction m with
 |zero=>
  intro k v us Z H hm hA hR hZ h1 h2 h3 h16 h15;have:k=ks.length:=by omega
  subst this;rw[List.drop_length] at hR hA;cases hA;have hR:Z1=Z:=hR;subst hR;refine Ad mixed Du.eq_1 ?_;simp;have:=hq H v [(68,W4 ks),(69,iv ks.length),(70,iv ks.length),(71,bv false)] h2 h3 h16 h15;simpa using this
 |succ m ih=>
  intro k v us Z H hm hA hR hZ h1 h2 h3 h16 h15;have hlt:k<ks.length:=by omega
  have ew:=B0 k;have hd:ks.drop k=ks[k]::ks.drop (k+1):=(List.getElem_cons_drop hlt).symm;rw[hd] at hA hR;have ha:=hat _ (EI hlt);have next:=ih (k+1)
  generalize hx:ks[k]=x at *;cases hA with
  |cons i e u _ us h g=>
   have ha:(0:Int)≤(i:Nat)∧((i:Nat):Int)≤900000:=ha;have K1:=Jd t i;have hl:i<(Ja Z i).length:=by rw[Na];omega
   have hR':Z1=SA (ks.drop (k+1)) us ((Ja Z i).set i (false,u)):=by
    rw[hR];show SA _ us ((Ja Z ((i:Int)).toNat).set ((i:Int)).toNat (false,u))=_;rw[Int.toNat_natCast]
   refine Ad mixed Du.eq_1 ?_;simp[hlt,hx,Aa,h1];refine Af K1 (by simp) ?_;simp[Aa];refine Af h.2 (by simp) ?_;simp[Aa];refine xd (Z0:=Z) (i:=i) (w:=(H [6]).u+1) (w7:=(H [7]).u+1) (c4:=eL e) (K:=K) (by omega) (by omega) (H0:=Ar (Ar H [6] ⟨(H [6]).u+1,.cells (iv i::eL e)⟩) [7] ⟨(H [7]).u+1,.cells (tL u)⟩) (by simp[Aa]) (fun H' v' k3 k16 kH=>?_) (i+1-Z.length) 0 v _ (by omega) (by simp[Aa,h3]) (by simp[Aa,h16]) (fun o _ _=>by rfl);have k6:=kH [6] (by simp) (by simp);have k7:=kH [7] (by simp) (by simp);have k1:=kH [1] (by simp) (by simp);have k2:=kH [2] (by simp) (by simp);have k15:=kH [15] (by simp) (by simp);simp[Aa] at k6 k7 k1 k2 k15;simp[k3,k6,k7,k16,hl,ew];refine next v' us ((Ja Z i).set i (false,u)) _ (by omega) g hR' (by rw[List.length_set,Na];omega) (by simp[Aa,k1,h1]) (by simp[Aa,k2,h2]) (by simp[Aa,k3]) (by simp[Aa,List.map_set];rfl) (by simp[Aa,k15,h15])
theorem qC (l:List T):(l.map fun k=>((false,k):KI)).map jH=l.map tA:=by
 rw[List.map_map];exact List.map_congr_left fun k _=>by simp[jH,qT]
theorem j9 (l:List T):(l.map fun k=>((false,k):KI)).map Um=l:=by
 rw[List.map_map];exact List.map_id'' (fun k=>by simp[Um]) l
theorem W7 {ws:List WE} {ks:List KE} {t:T} {b:List Int} {us:List T} (ht:CG t) (hk:t.kind=1) (hwl:ws.length≤10000000000000) (hkl:ks.length≤10000000000000) (hl:t.kids.length≤900000) (hb:max t.words.length b.length≤900000) (hws:∀ x,x ∈ ws→EP x.old∧EP x.new) (hat:∀ x,x ∈ ks→0≤x.at_∧x.at_≤900000) (hW:pr t.words b 0 ws) (hK:oK Q5 t.kids ks us) :
  G.Spec Tryz.prog 177 [eX (.mk 2 T0 T0 ws ks 0 []),tX t] (.tup [tX (.mk 1 (SH t.words ws t.words) ((SA ks us (t.kids.map fun k=>(false,k))).map Um)),bv true]):=by
 have C1:=WA t.words (by omega);have C2:=VG t.kids (by omega);have hkr:=qC t.kids;generalize hZ:(t.kids.map fun k=>((false,k):KI))=Z at *;have hZl:Z.length=t.kids.length:=by rw[← hZ];simp
 refine Ap LX (by simp) fun w0 I0=>?_;unfold HC;simp[hk];refine Ai 15 C1 (fun p=>by simp) (by simp) (by simp) ?_;simp;refine⟨by decide,?_⟩;refine Ai 16 C2 (fun p=>by simp) (by simp) (by simp) ?_;simp;refine⟨⟨by decide,by decide⟩,?_⟩;refine LoopC.le (Be [(2,.pob [0] 1 0),(3,.pob [1] 1 0),(4,.pob [2] 1 0),(6,.pob [3] 1 0),(26,ar ws),(27,iv ws.length),(28,iv (0:Nat))] (by simp)) ?_;refine xm (t:=t) (b:=b) (R:=SH t.words ws t.words) (K:=.osl [16] 1 3 0 t.kids.length) (v0:=⟨1,.cells (eL (.mk 2 T0 T0 ws ks 0 []))⟩) (v2:=⟨1,.cells [iv 0,.sl true [],.sl true []]⟩) (v16:=⟨1,.arr 3 (Z.map jH)⟩) ht hwl hb hws (fun H' v st h0 h1 h2 h3 h15 h16=>?_) ws.length 0 0 1 t.words _ (by omega) (by simpa using hW) (by simp) (by omega) (by simp[Aa]) (by simp[Aa,hk]) (by simp[Aa]) (by simp[Aa]) (by simp[Aa]) (by simp[Aa,hkr]);simp[h0];refine LoopC.le (Be [(3,.pob [1] 1 0),(4,.pob [2] 1 0),(6,.pob [3] 1 0),(68,W4 ks),(69,iv ks.length),(70,iv (0:Nat))] (by simp)) ?_;rw[← hZl] at h3;refine uj (t:=t) (Z1:=SA ks us Z) (K:=.osl [15] v 1 0 (SH t.words ws t.words).length) (v2:=⟨1,.cells [iv 0,.sl true [],.sl true []]⟩) (v15:=⟨v,.arr 1 ((SH t.words ws t.words).map uv)⟩) hkl hat (fun H2 v2 st2 k2 k3 k16 k15=>?_) ks.length 0 1 us Z _ (by omega) (by simpa using hK) (by simp) (by omega) h1 h2 h3 h16 h15;simp[k2,k3];refine BL ⟨CK ⟨Ab rfl,?_,?_,trivial⟩,Ab rfl,trivial⟩
 ·exact DT (o:=[15]) (u:=v) (n:=(SH t.words ws t.words).length) (sz:=1) (l:=SH t.words ws t.words) (f:=uv) (by simp[Aa,k15]) rfl (fun x=>by simp)
 ·have:=Us (H:=Ar H2 [2] ⟨1,.cells [iv 1,.osl [15] v 1 0 (SH t.words ws t.words).length,.osl [16] v2 3 0 (SA ks us Z).length]⟩) (o:=[16]) (u:=v2) (n:=(SA ks us Z).length) (sz:=3) (l:=SA ks us Z) (f:=jH) (g:=fun z=>tA (Um z)) (by simp[Aa,k16]) rfl (fun x _=>by
   obtain⟨c,t⟩:=x;cases c<;>simp[qT,Um,A.soft,A.softL,IU,JW])
  show Jw _ _ (.sl false (((SA ks us Z).map Um).map tA));rw[List.map_map];exact this
theorem PO {e:E} {a b:T} (hw:Nf e) (ha:CG a) (h:LdB e a b):∃ u,Q5 e a u∧Aq u=Aq b:=by
 rcases h with ⟨rfl,h⟩ | ⟨o,n,rfl,h1,h2⟩
 ·refine⟨a,⟨ha,?_⟩,h⟩;refine Ap Hx (by simp) fun w0 I0=>?_;unfold F7;simp;exact BL ⟨Ab (by simp),Ab rfl,trivial⟩
 ·have W:=wfE_iff.1 hw;have E1:=We (t:=o) (u:=a) W.o ha;rw[show ca o a=true from eqT_iff.2 h1] at E1;refine⟨n,⟨W.n,?_⟩,h2⟩;refine Ap Hx (by simp) fun w0 I0=>?_;unfold F7;simp;refine Af E1 (by simp) ?_;simp;exact BL ⟨Ab (by simp),Ab rfl,trivial⟩
theorem ZZ {e:E} {t u:T} (hk:e.kind=2) (h:G.Spec Tryz.prog 177 [eX e,tX t] (.tup [tX u,bv true])):G.Spec Tryz.prog 132 [eX e,tX t] (.tup [tX u,bv true]):=by
 obtain⟨k,o,n,ws,ks,l,os⟩:=e;have hk:k=2:=hk;subst hk;refine Ap Hx (by simp) fun w0 I0=>?_;unfold F7;simp;refine Af h (by simp) ?_;simp;exact BL ⟨Ab (by simp),Ab rfl,trivial⟩
theorem Yo {e:E} {t u:T} (hk:e.kind=3) (h:G.Spec Tryz.prog 178 [eX e,tX t] (.tup [tX u,bv true])):G.Spec Tryz.prog 132 [eX e,tX t] (.tup [tX u,bv true]):=by
 obtain⟨k,o,n,ws,ks,l,os⟩:=e;have hk:k=3:=hk;subst hk;refine Ap Hx (by simp) fun w0 I0=>?_;unfold F7;simp;refine Af h (by simp) ?_;simp;exact BL ⟨Ab (by simp),Ab rfl,trivial⟩
theorem qW {R:E→T→T→Prop} {a b:List T} {p:Nat} {ks:List KE} (h:r8 R a b p ks):∀ x,x ∈ ks→0≤x.at_∧x.at_<max a.length b.length:=by
 induction h with
 |nil p h=>intro x hx;simp at hx
 |cons p i e ks hp h hi he hr _ ih=>
  intro x hx;rcases List.mem_cons.1 hx with rfl | hx
  ·show(0:Int)≤(i:Nat)∧((i:Nat):Int)<_;omega
  ·exact ih x hx
def Sz:Nat→T→Prop
 |0,_=>True
 |f+1,t=>t.words.length≤900000∧t.kids.length≤900000∧∀ k,k ∈ t.kids→Sz f k
theorem yL:∀ f,Sz f T0
 |0=>trivial
 |f+1=>⟨by simp,by simp,fun k hk=>by simp at hk⟩
theorem mC {f:Nat} {t:T} (h:Sz (f+1) t) (i:Nat):Sz f (t.kids.getD i T0):=by
 rw[List.getD_eq_getElem?_getD];cases e:t.kids[i]? with
 |none=>exact yL f
 |some z=>exact h.2.2 z (List.mem_of_getElem? e)
theorem YW {t:T} (h:CG t) (i:Nat):CG (t.kids.getD i T0):=by
 rw[List.getD_eq_getElem?_getD];cases e:t.kids[i]? with
 |none=>exact Y4
 |some z=>exact(wfT_iff.1 h).ks z (List.mem_of_getElem? e)
theorem qS {a:List T} {ks:List KE} {us:List T} (h:oK Q5 a ks us):∀ u,u ∈ us→CG u:=by
 induction h with
 |nil=>intro u hu;simp at hu
 |cons i e u ks us h _ ih=>
  intro v hv;rcases List.mem_cons.1 hv with rfl | hv
  ·exact h.1
  ·exact ih v hv
theorem vb:∀ (f:Nat) (e:E) (a b:T),Nf e→CG a→CG b→Sz f a→Sz f b→Ld f e a b→∃ u,Q5 e a u∧Aq u=Aq b:=by
 intro f;induction f with
 |zero=>exact fun e a b hw ha hb _ _ h=>PO hw ha h
 |succ f ih=>
  intro e a b hw ha hb sa sb h;have A:=wfT_iff.1 ha;have B:=wfT_iff.1 hb;rcases h with h | ⟨ws,ks,rfl,h1,h2,h3,h4⟩ | ⟨os,rfl,h1,h2,hv,h3⟩
  ·exact PO hw ha h
  ·have W:=wfE_iff.1 hw;have hwl:ws.length*32≤140737488355328:=W.wl;have hkl:ks.length*208≤140737488355328:=W.kl;obtain⟨us,k1,k2⟩:=o5 (P:=Q5) h4 fun x hx i r=>ih x.e _ _ (W.ks x hx).2 (YW ha i) (YW hb i) (mC sa i) (mC sb i) r;obtain⟨g1,g2⟩:=qZ h3 a.words (fun j hj=>by omega) (fun j _=>rfl);have e0:=j9 a.kids;obtain⟨g3,g4⟩:=k2 (a.kids.map fun k=>(false,k)) (fun j hj=>by omega) (fun j _=>by rw[e0]);rw[List.length_map] at g4;have l1:=sa.1;have l2:=sb.1;have l3:=sa.2.1;have l4:=sb.2.1;have hat:=qW h4;have S:=W7 (ws:=ws) (ks:=ks) (us:=us) (b:=b.words) ha h1 (by omega) (by omega) l3 (by omega) (fun x hx=>⟨(W.w x hx).2.2.1,(W.w x hx).2.2.2⟩) (fun x hx=>by have:=hat x hx;omega) h3 k1;have hu:=Zu (Q:=CG) Y4 ks us (a.kids.map fun k=>(false,k)) (qS k1) (fun z hz=>by
    obtain⟨k,hk,rfl⟩:=List.mem_map.1 hz;exact A.ks k hk)
   generalize hZ:SA ks us (a.kids.map fun k=>((false,k):KI))=Z at *;refine⟨.mk 1 (SH a.words ws a.words) (Z.map Um),⟨wfT_iff.2 ⟨by simp[Bm],Zb ws a.words A.w,by show(SH a.words ws a.words).length*8≤_;omega,by show(Z.map Um).length*56≤_;rw[List.length_map];omega,fun x hx=>?_⟩,ZZ rfl S⟩,?_⟩
   ·obtain⟨z,hz,rfl⟩:=List.mem_map.1 (show x ∈ Z.map Um from hx);exact hu z hz
   ·obtain⟨kb,wb,lb⟩:=b;have h2:kb=1:=h2;subst h2;exact struct_eq.2 ⟨g1,g3⟩
  ·have W:=wfE_iff.1 hw;have hol:os.length*240≤140737488355328:=W.ol;obtain⟨U,k1,k2⟩:=oW (P:=Q5) h3 fun o ho hk x hx y hy r=>ih o.e x y (W.os o ho).e (A.ks x hx) (B.ks y hy) (sa.2.2 x hx) (sb.2.2 y hy) r;have hUl:U.length=b.kids.length:=by simpa using congrArg List.length k2
   have l3:=sa.2.1;have l4:=sb.2.1;have hUw:=pZ k1 A.ks (fun o ho=>(W.os o ho).l);have S:=UK (l:=a.kind) (os:=os) (u:=U) ha (by omega) (fun o ho=>(W.os o ho).l) (fun o ho=>by have:=(W.os o ho).ll;omega) (by omega) (by omega) rfl k1;refine⟨.mk a.kind [] U,⟨wfT_iff.2 ⟨A.k,by simp,by simp,by show U.length*56≤_;omega,hUw⟩,Yo rfl S⟩,?_⟩;obtain⟨kb,wb,lb⟩:=b;have h1:kb=a.kind:=h1;have hv2:wb=[]:=hv.2;subst h1;subst hv2;exact(VH (k:=a.kind) (by omega) (by omega)).2 ⟨rfl,k2⟩
theorem VZ {e:E} {a u:T} (h:Q5 e a u):G.Spec Tryz.prog 92 [eX e,tX a] (.tup [tX (Aq u),bv true]):=by
 refine Ap TQ (by simp) fun w0 I0=>?_;unfold ME;simp;refine Af h.2 (by simp) ?_;simp;refine Af (Hj u h.1) (by simp) ?_;have e1:tX (Aq u) = .agg [iv u.kind,Gn (Aq u).words,DY (Aq u).kids]:=by
  show A.agg [iv (Aq u).kind,Gn (Aq u).words,DY (Aq u).kids]=_;rw[GQ]
 simp;rw[e1];exact BL ⟨Ab (by simp),Ab rfl,trivial⟩
theorem Ot {num:List UInt8→Nat × Bool × Nat} (h:P3 num) {s:List UInt8} (ho:Un num s=true):Am (BX num s)=s∧Cw 64 (BX num s)∧Ay 64 (BX num s)=true:=by
 have hp:BX num s=(AU num 64 s).1:=by unfold BX;rw[if_pos ho]
 unfold Un at ho;simp only[Bool.and_eq_true,decide_eq_true_eq] at ho;obtain⟨⟨h1,h2⟩,h3⟩:=ho;have e:=ES h1;rw[h2] at e;obtain⟨_,e2,e3⟩:=Ya h h e;rw[hp];exact⟨e2,e3,h3⟩
theorem R4 {num:List UInt8→Nat × Bool × Nat} (h:P3 num) {t:T} (hp:Cw 64 t) (hr:Ay 64 t=true):Un num (Am t)=true∧BX num (Am t)=t:=by
 have e:=QM h 64 t [] hp;rw[List.append_nil] at e;have:Un num (Am t)=true:=by
  unfold Un;rw[e];simp[hr]
 refine⟨this,?_⟩;unfold BX;rw[if_pos this,e]
def HX:Nat→List UInt8→Option Nat
 |n,[]=>some n
 |n,c::r=>match BN c with
  |some d=>if n<1152921504606846976 then HX (n*16+d) r else none
  |none=>none
theorem T7:∀ (r:List UInt8) (n m:Nat),n<18446744073709551616→HX n r=some m→m<18446744073709551616
 |[],n,m,hn,h=>by cases h;exact hn
 |c::r,n,m,hn,h=>by
  unfold HX at h;split at h
  ·rename_i d hd;have:=(Ki hd).1;split at h
   ·exact T7 r _ m (by omega) h
   ·cases h
  ·cases h
theorem V3:∀ (l m:List UInt8) (n:Nat),HX n (l++m)=(HX n l).bind fun k=>HX k m
 |[],m,n=>rfl
 |c::l,m,n=>by
  simp only[List.cons_append,HX];split
  ·split
   ·exact V3 l m _
   ·rfl
  ·rfl
theorem fP:∀ q:Nat,q<18446744073709551616→HX 0 (Az q)=some q:=by
 intro q;induction q using Nat.strongRecOn with
 |_ q ih=>
  intro hq;by_cases h:q<16
  ·rw[FH h];simp only[HX,NT h];rw[if_pos (by omega)];simp
  ·rw[Hw (by omega),V3,ih (q / 16) (by omega) (by omega)];simp only[Option.bind_some,HX,NT (show q % 16<16 by omega)];rw[if_pos (by omega)];congr 1;omega
def RJ (r:List UInt8):List UInt8:=r.takeWhile fun c=>(BN c).isSome
theorem Y8:∀ {r:List UInt8},∀ c,c ∈ RJ r→∃ d,BN c=some d
 |[],c,hc=>by cases hc
 |x::r,c,hc=>by
  unfold RJ at hc;by_cases h:(BN x).isSome=true
  ·rw[List.takeWhile_cons_of_pos (p:=fun c=>(BN c).isSome) h] at hc;rcases List.mem_cons.1 hc with rfl | hc
   ·exact Option.isSome_iff_exists.1 h
   ·exact Y8 (r:=r) c hc
  ·rw[List.takeWhile_cons_of_neg (p:=fun c=>(BN c).isSome) h] at hc;cases hc
theorem eF (r:List UInt8):(RJ r).length≤r.length:=by
 unfold RJ;exact(List.takeWhile_prefix _).length_le
theorem Wf (r:List UInt8):r.take (RJ r).length=RJ r:=by
 unfold RJ;exact(List.prefix_iff_eq_take.1 (List.takeWhile_prefix _)).symm
theorem ku {l rest:List UInt8} (hl:∀ c,c ∈ l→∃ d,BN c=some d) (hr:∀ c,rest.head? = some c→BN c=none):RJ (l++rest)=l:=by
 unfold RJ;rw[List.takeWhile_append_of_pos (fun c hc=>Option.isSome_iff_exists.2 (hl c hc))];cases rest with
 |nil=>simp
 |cons c r=>rw[List.takeWhile_cons_of_neg (p:=fun c=>(BN c).isSome) (by rw[hr c rfl];simp),List.append_nil]
def Dr (most:Nat) (r:List UInt8):Option (Nat × Nat):=
 if RJ r=[] then none else match HX 0 (RJ r) with
  |some n=>if Az n=RJ r∧n≤most then some (n,(RJ r).length) else none
  |none=>none
theorem Kn {most n:Nat} {rest:List UInt8} (hn:n<18446744073709551616) (hm:n≤most) (hr:∀ c,rest.head? = some c→BN c=none):Dr most (Az n++rest)=some (n,(Az n).length):=by
 have e:=ku (Kb n) hr;unfold Dr;rw[e,fP n hn];have:=Ea n;rw[if_neg (fun h=>by rw[h] at this;simp at this)];simp[hm]
theorem Hm {most:Nat} {r:List UInt8} {n k:Nat} (h:Dr most r=some (n,k)):n≤most∧n<18446744073709551616∧r.take k=Az n∧k≤r.length∧1≤k:=by
 unfold Dr at h;split at h
 ·cases h
 ·rename_i hne;split at h
  ·rename_i m hm;split at h
   ·rename_i hh;cases h;refine⟨hh.2,T7 _ _ _ (by omega) hm,by rw[Wf,hh.1],eF r,?_⟩;cases hq:RJ r with
    |nil=>exact(hne hq).elim
    |cons c l=>simp
   ·cases h
  ·cases h
def A8:Nat→List UInt8→Nat
 |_,[]=>0
 |o,c::r=>if c=0 then 0 else if c=123∨c=91 then 1+A8 (o+1) r else if c=125∨c=93 then (if o≤1 then 1 else 1+A8 (o-1) r) else if c=95 then (if o=0 then 1 else 1+A8 o r) else 1+A8 o r
theorem PK:∀ (r:List UInt8) (o:Nat),A8 o r≤r.length
 |[],o=>by simp[A8]
 |c::r,o=>by
  have h:=PK r;have h1:=h (o+1);have h2:=h (o-1);have h3:=h o;unfold A8;simp only[List.length_cons]
  repeat' split
  all_goals omega
def Cs (r:List UInt8):Option (T × Nat):=if Un AB (r.take (A8 0 r))=true then some (BX AB (r.take (A8 0 r)),A8 0 r) else none
def AL (c:UInt8) (r:List UInt8):Option Nat:=if Bt r c=true then some 1 else none
def B9 (n:Nat) (r:List UInt8):Option Nat:=if n=0 then some 0 else AL 44 r
def Iq (r:List UInt8):Option (WE × Nat):=
 match Dr 1048576 r with
 |none=>none
 |some (a,k1)=>match AL 58 (r.drop k1) with
  |none=>none
  |some _=>match Dr 255 (r.drop (k1+1)) with
   |none=>none
   |some (m,k2)=>match AL 58 (r.drop (k1+1+k2)) with
    |none=>none
    |some _=>match Dr 18446744073709551615 (r.drop (k1+1+k2+1)) with
     |none=>none
     |some (o,k3)=>match AL 58 (r.drop (k1+1+k2+1+k3)) with
      |none=>none
      |some _=>match Dr 18446744073709551615 (r.drop (k1+1+k2+1+k3+1)) with
       |none=>none
       |some (w,k4)=>some (⟨a,m,o,w⟩,k1+1+k2+1+k3+1+k4)
def BZ:Nat→Nat→List UInt8→Option (List WE × Nat)
 |0,_,_=>none
 |f+1,n,r=>if Ej r=124 then some ([],0) else match B9 n r with
  |none=>none
  |some k0=>match Iq (r.drop k0) with
   |none=>none
   |some (w,k1)=>match BZ f (n+1) (r.drop (k0+k1)) with
    |none=>none
    |some (ws,k2)=>some (w::ws,k0+k1+k2)
section
variable (ed:List UInt8→Option (E × Nat))
def Ni (r:List UInt8):Option (KE × Nat):=
 match Dr 1048576 r with
 |none=>none
 |some (a,k1)=>match AL 58 (r.drop k1) with
  |none=>none
  |some _=>match ed (r.drop (k1+1)) with
   |none=>none
   |some (e,k2)=>some (.mk a e,k1+1+k2)
def Dc:Nat→Nat→List UInt8→Option (List KE × Nat)
 |0,_,_=>none
 |f+1,n,r=>if Ej r=125 then some ([],0) else match B9 n r with
  |none=>none
  |some k0=>match Ni ed (r.drop k0) with
   |none=>none
   |some (w,k1)=>match Dc f (n+1) (r.drop (k0+k1)) with
    |none=>none
    |some (ws,k2)=>some (w::ws,k0+k1+k2)
def Ei (r:List UInt8):Option (E × Nat):=
 match AL 123 r with
 |none=>none
 |some _=>match BZ (r.length+1) 0 (r.drop 1) with
  |none=>none
  |some (ws,k1)=>match AL 124 (r.drop (1+k1)) with
   |none=>none
   |some _=>match Dc ed (r.length+1) 0 (r.drop (1+k1+1)) with
    |none=>none
    |some (ks,k2)=>match AL 125 (r.drop (1+k1+1+k2)) with
     |none=>none
     |some _=>some (.mk 2 T0 T0 ws ks 0 [],1+k1+1+k2+1)
def CI (l:Int) (r:List UInt8):Option (OP × Nat):=
 if Ej r=107 then (match Dr 1048576 (r.drop 1) with
  |none=>none
  |some (n,k)=>some (.mk 0 n [] E0,1+k))
 else if Ej r=42 then (match ed (r.drop 1) with
  |none=>none
  |some (e,k)=>some (.mk 3 0 [] e,1+k))
 else if Ej r=45∨Ej r=43 then (match Cs (r.drop 1) with
  |none=>none
  |some (t,k)=>if t.kind=l then some (.mk (if Ej r=45 then 1 else 2) 0 t.kids E0,1+k) else none)
 else none
def BP (l:Int):Nat→Nat→List UInt8→Option (List OP × Nat)
 |0,_,_=>none
 |f+1,n,r=>if Ej r=93 then some ([],0) else match B9 n r with
  |none=>none
  |some k0=>match CI ed l (r.drop k0) with
   |none=>none
   |some (w,k1)=>match BP l f (n+1) (r.drop (k0+k1)) with
    |none=>none
    |some (ws,k2)=>some (w::ws,k0+k1+k2)
def Ec (r:List UInt8):Option (E × Nat):=
 if 2≤r.length∧Un AB (r.take 2++[93])=true then
  match BP ed (BX AB (r.take 2++[93])).kind (r.length+1) 0 (r.drop 2) with
  |none=>none
  |some (os,k1)=>match AL 93 (r.drop (2+k1)) with
   |none=>none
   |some _=>some (.mk 3 T0 T0 [] [] (BX AB (r.take 2++[93])).kind os,2+k1+1)
 else none
end
def Mj (r:List UInt8):Option (E × Nat):=
 match Cs r with
 |none=>none
 |some (o,k1)=>match AL 62 (r.drop k1) with
  |none=>none
  |some _=>match Cs (r.drop (k1+1)) with
   |none=>none
   |some (n,k2)=>match AL 41 (r.drop (k1+1+k2)) with
    |none=>none
    |some _=>some (.mk 1 o n [] [] 0 [],k1+1+k2+1)
def JR {α:Type} (k:Nat):Option (α × Nat)→Option (α × Nat)
 |some (x,n)=>some (x,k+n)
 |none=>none
def Bd:Nat→List UInt8→Option (E × Nat)
 |0,_=>none
 |d+1,r=>if Bt r 61=true then some (E0,1)
  else if Bt r 40=true then JR 1 (Mj (r.drop 1))
  else if Bt r 115=true then JR 1 (Ei (Bd d) (r.drop 1))
  else if Bt r 108=true then JR 1 (Ec (Bd d) (r.drop 1))
  else none
theorem GK:∀ l:List (List UInt8),Lib.join l [44]=Aj l
 |[]=>rfl
 |[x]=>by simp[Lib.join,List.intercalate]
 |x::y::l=>by
  have:=GK (y::l);rw[Aj,← this];simp[Lib.join,List.intercalate]
def AQ (w:WE):List UInt8:=Az w.at_.toNat++58::(Az w.mask.toNat++58::(Az w.old.toNat++58::Az w.new.toNat))
mutual
def CP:E→List UInt8
 |.mk k o n ws ks l os=>if k=1 then 40::(Am o++62::(Am n++[41]))
  else if k=2 then 115::123::(Aj (ws.map AQ)++124::(Aj (PX ks)++[125]))
  else if k=3 then 108::Cn l::91::(Aj (Qq l os)++[93]) else [61]
def PX:List KE→List (List UInt8)
 |[]=>[]
 |.mk a e::l=>(Az a.toNat++58::CP e)::PX l
def Qq:Int→List OP→List (List UInt8)
 |_,[]=>[]
 |l,.mk k n t e::r=>(if k=1 then 45::Am (.mk l [] t) else if k=2 then 43::Am (.mk l [] t) else if k=3 then 42::CP e else 107::Az n.toNat)::Qq l r
end
def AZ (x:KE):List UInt8:=Az x.at_.toNat++58::CP x.e
def A0 (l:Int) (x:OP):List UInt8:=if x.kind=1 then 45::Am (.mk l [] x.l) else if x.kind=2 then 43::Am (.mk l [] x.l) else if x.kind=3 then 42::CP x.e else 107::Az x.n.toNat
theorem P1:∀ l,PX l=l.map AZ
 |[]=>by rw[PX];rfl
 |.mk a e::l=>by rw[PX,P1 l];rfl
theorem Ql (k:Int):∀ l,Qq k l=l.map (A0 k)
 |[]=>by rw[Qq];rfl
 |.mk a n t e::l=>by rw[Qq,Ql k l];rfl
theorem Ke (k:Int) (o n:T) (ws:List WE) (ks:List KE) (l:Int) (os:List OP):CP (.mk k o n ws ks l os)=if k=1 then 40::(Am o++62::(Am n++[41]))
  else if k=2 then 115::123::(Aj (ws.map AQ)++124::(Aj (ks.map AZ)++[125]))
  else if k=3 then 108::Cn l::91::(Aj (os.map (A0 l))++[93]) else [61]:=by rw[CP,P1,Ql]
theorem IM:∀ {l:List (List UInt8)} {x:List UInt8},x ∈ l→x.length≤(Aj l).length
 |[y],x,h=>by simp at h;subst h;simp
 |y::z::l,x,h=>by
  rcases List.mem_cons.1 h with rfl | h
  ·simp[Aj]
  ·have:=IM h;simp[Aj];omega
theorem Cd:∀ {l:List (List UInt8)},l.length≤(Aj l).length+1
 |[]=>by simp
 |[x]=>by simp
 |x::y::l=>by
  have:=Cd (l:=y::l);simp[Aj] at this ⊢;omega
theorem JG {r:List UInt8} {c:UInt8} (h:Bt r c=true):1≤r.length:=by
 cases r with
 |nil=>cases h
 |cons x r=>simp
theorem Bv {c:UInt8} {r:List UInt8} {n:Nat} (h:AL c r=some n):n=1∧1≤r.length:=by
 unfold AL at h;split at h
 ·rename_i h1;cases h;exact⟨rfl,JG h1⟩
 ·cases h
theorem GJ {m n:Nat} {r:List UInt8} (h:B9 m r=some n):n≤r.length:=by
 unfold B9 at h;split at h
 ·cases h;omega
 ·obtain⟨rfl,h2⟩:=Bv h;exact h2
theorem E7 {most:Nat} {r:List UInt8} {q:Nat × Nat} (h:Dr most r=some q):q.1≤most∧q.1<18446744073709551616∧q.2≤r.length∧1≤q.2:=by
 obtain⟨n,k⟩:=q;obtain⟨h1,h2,_,h3,h4⟩:=Hm h;exact⟨h1,h2,h3,h4⟩
theorem Jz {r:List UInt8} {q:T × Nat} (h:Cs r=some q):q.2≤r.length:=by
 unfold Cs at h;split at h
 ·cases h;exact PK r 0
 ·cases h
def wOk (w:WE):Prop:=0≤w.at_∧w.at_≤1048576∧0≤w.mask∧w.mask≤255∧0≤w.old∧w.old<18446744073709551616∧0≤w.new∧w.new<18446744073709551616
theorem Vu {r:List UInt8} {q:WE × Nat} (h:Iq r=some q):1≤q.2∧q.2≤r.length∧wOk q.1:=by
 unfold Iq at h;cases e1:Dr 1048576 r with
 |none=>rw[e1] at h;cases h
 |some q1=>
  obtain⟨a,k1⟩:=q1;rw[e1] at h;simp only at h;have f1:=E7 e1;cases e2:AL 58 (r.drop k1) with
  |none=>rw[e2] at h;cases h
  |some u2=>
   rw[e2] at h;simp only at h;have f2:=Bv e2;cases e3:Dr 255 (r.drop (k1+1)) with
   |none=>rw[e3] at h;cases h
   |some q3=>
    obtain⟨m,k2⟩:=q3;rw[e3] at h;simp only at h;have f3:=E7 e3;cases e4:AL 58 (r.drop (k1+1+k2)) with
    |none=>rw[e4] at h;cases h
    |some u4=>
     rw[e4] at h;simp only at h;have f4:=Bv e4;cases e5:Dr 18446744073709551615 (r.drop (k1+1+k2+1)) with
     |none=>rw[e5] at h;cases h
     |some q5=>
      obtain⟨o,k3⟩:=q5;rw[e5] at h;simp only at h;have f5:=E7 e5;cases e6:AL 58 (r.drop (k1+1+k2+1+k3)) with
      |none=>rw[e6] at h;cases h
      |some u6=>
       rw[e6] at h;simp only at h;have f6:=Bv e6;cases e7:Dr 18446744073709551615 (r.drop (k1+1+k2+1+k3+1)) with
       |none=>rw[e7] at h;cases h
       |some q7=>
        obtain⟨w,k4⟩:=q7;rw[e7] at h;simp only at h;have f7:=E7 e7;cases h;simp only[List.length_drop] at f2 f3 f4 f5 f6 f7;simp only at f1 f3 f5 f7;refine⟨by simp only;omega,by simp only;omega,?_⟩;unfold wOk;simp only;omega
theorem Ky:∀ (f n:Nat) (r:List UInt8) (q:List WE × Nat),BZ f n r=some q→q.2≤r.length∧q.1.length≤r.length∧∀ w,w ∈ q.1→wOk w
 |0,n,r,q,h=>by cases h
 |f+1,n,r,q,h=>by
  unfold BZ at h;split at h
  ·cases h;simp
  ·cases e0:B9 n r with
   |none=>rw[e0] at h;cases h
   |some k0=>
    rw[e0] at h;simp only at h;have f0:=GJ e0;cases e1:Iq (r.drop k0) with
    |none=>rw[e1] at h;cases h
    |some q1=>
     obtain⟨w,k1⟩:=q1;rw[e1] at h;simp only at h;obtain⟨f1,f2,f3⟩:=Vu e1;cases e2:BZ f (n+1) (r.drop (k0+k1)) with
     |none=>rw[e2] at h;cases h
     |some q2=>
      obtain⟨ws,k2⟩:=q2;rw[e2] at h;simp only at h;obtain⟨g1,g2,g3⟩:=Ky f (n+1) _ _ e2;cases h;simp only[List.length_drop] at f2 g1 g2;simp only at f1 f2 g1 g2 g3;refine⟨by simp only;omega,by simp only[List.length_cons];omega,fun x hx=>?_⟩;rcases List.mem_cons.1 hx with rfl | hx
      ·exact f3
      ·exact g3 x hx
section
variable {ed:List UInt8→Option (E × Nat)} (hed:∀ r q,ed r=some q→q.2≤r.length)
include hed
theorem la {r:List UInt8} {q:KE × Nat} (h:Ni ed r=some q):1≤q.2∧q.2≤r.length∧0≤q.1.at_∧q.1.at_≤1048576∧∃ r' k,ed r'=some (q.1.e,k)∧r'.length≤r.length:=by
 unfold Ni at h;cases e1:Dr 1048576 r with
 |none=>rw[e1] at h;cases h
 |some q1=>
  obtain⟨a,k1⟩:=q1;rw[e1] at h;simp only at h;have f1:=E7 e1;cases e2:AL 58 (r.drop k1) with
  |none=>rw[e2] at h;cases h
  |some u2=>
   rw[e2] at h;simp only at h;have f2:=Bv e2;cases e3:ed (r.drop (k1+1)) with
   |none=>rw[e3] at h;cases h
   |some q3=>
    obtain⟨e,k2⟩:=q3;rw[e3] at h;simp only at h;have f3:=hed _ _ e3;cases h;simp only[List.length_drop] at f2 f3;simp only at f1 f3;refine⟨by simp only;omega,by simp only;omega,by simp only[KE.at_mk];omega,by simp only[KE.at_mk];omega,_,_,e3,by simp⟩
theorem Qp:∀ (f n:Nat) (r:List UInt8) (q:List KE × Nat),Dc ed f n r=some q→q.2≤r.length∧q.1.length≤r.length∧∀ x,x ∈ q.1→0≤x.at_∧x.at_≤1048576∧∃ r' k,ed r'=some (x.e,k)∧r'.length≤r.length
 |0,n,r,q,h=>by cases h
 |f+1,n,r,q,h=>by
  unfold Dc at h;split at h
  ·cases h;simp
  ·cases e0:B9 n r with
   |none=>rw[e0] at h;cases h
   |some k0=>
    rw[e0] at h;simp only at h;have f0:=GJ e0;cases e1:Ni ed (r.drop k0) with
    |none=>rw[e1] at h;cases h
    |some q1=>
     obtain⟨w,k1⟩:=q1;rw[e1] at h;simp only at h;obtain⟨f1,f2,f3,f4,r',k',f5,f6⟩:=la hed e1;cases e2:Dc ed f (n+1) (r.drop (k0+k1)) with
     |none=>rw[e2] at h;cases h
     |some q2=>
      obtain⟨ws,k2⟩:=q2;rw[e2] at h;simp only at h;obtain⟨g1,g2,g3⟩:=Qp f (n+1) _ _ e2;cases h;simp only[List.length_drop] at f2 f6 g1 g2 g3;simp only at f1 f2 g1 g2 g3;refine⟨by simp only;omega,by simp only[List.length_cons];omega,fun x hx=>?_⟩;rcases List.mem_cons.1 hx with rfl | hx
      ·exact⟨f3,f4,r',k',f5,by omega⟩
      ·obtain⟨a1,a2,r2,k3,a3,a4⟩:=g3 x hx;exact⟨a1,a2,r2,k3,a3,by omega⟩
theorem XR {r:List UInt8} {q:E × Nat} (h:Ei ed r=some q):q.2≤r.length:=by
 unfold Ei at h;cases e0:AL 123 r with
 |none=>rw[e0] at h;cases h
 |some u0=>
  rw[e0] at h;simp only at h;have f0:=Bv e0;cases e1:BZ (r.length+1) 0 (r.drop 1) with
  |none=>rw[e1] at h;cases h
  |some q1=>
   obtain⟨ws,k1⟩:=q1;rw[e1] at h;simp only at h;have f1:=Ky _ _ _ _ e1;cases e2:AL 124 (r.drop (1+k1)) with
   |none=>rw[e2] at h;cases h
   |some u2=>
    rw[e2] at h;simp only at h;have f2:=Bv e2;cases e3:Dc ed (r.length+1) 0 (r.drop (1+k1+1)) with
    |none=>rw[e3] at h;cases h
    |some q3=>
     obtain⟨ks,k2⟩:=q3;rw[e3] at h;simp only at h;have f3:=Qp hed _ _ _ _ e3;cases e4:AL 125 (r.drop (1+k1+1+k2)) with
     |none=>rw[e4] at h;cases h
     |some u4=>
      rw[e4] at h;simp only at h;have f4:=Bv e4;cases h;simp only[List.length_drop] at f2 f4;simp only;omega
theorem VD {l:Int} {r:List UInt8} {q:OP × Nat} (h:CI ed l r=some q):1≤q.2∧q.2≤r.length:=by
 have hr:Ej r ≠ 0→1≤r.length:=fun hn=>by
  cases r with
  |nil=>exact(hn rfl).elim
  |cons c r=>simp
 unfold CI at h;split at h
 ·rename_i h1;have hr:=hr (by rw[h1];decide);cases e1:Dr 1048576 (r.drop 1) with
  |none=>rw[e1] at h;cases h
  |some q1=>
   rw[e1] at h;simp only at h;have f1:=E7 e1;cases h;simp only[List.length_drop] at f1;simp only;omega
 ·split at h
  ·rename_i h1;have hr:=hr (by rw[h1];decide);cases e1:ed (r.drop 1) with
   |none=>rw[e1] at h;cases h
   |some q1=>
    rw[e1] at h;simp only at h;have f1:=hed _ _ e1;cases h;simp only[List.length_drop] at f1;simp only;omega
  ·split at h
   ·rename_i h1;have hr:=hr (by rcases h1 with h1 | h1<;>rw[h1]<;>decide);cases e1:Cs (r.drop 1) with
    |none=>rw[e1] at h;cases h
    |some q1=>
     rw[e1] at h;simp only at h;have f1:=Jz e1;split at h
     ·cases h;simp only[List.length_drop] at f1;simp only;omega
     ·cases h
   ·cases h
theorem Ns (l:Int):∀ (f n:Nat) (r:List UInt8) (q:List OP × Nat),BP ed l f n r=some q→q.2≤r.length∧q.1.length≤r.length
 |0,n,r,q,h=>by cases h
 |f+1,n,r,q,h=>by
  unfold BP at h;split at h
  ·cases h;simp
  ·cases e0:B9 n r with
   |none=>rw[e0] at h;cases h
   |some k0=>
    rw[e0] at h;simp only at h;have f0:=GJ e0;cases e1:CI ed l (r.drop k0) with
    |none=>rw[e1] at h;cases h
    |some q1=>
     obtain⟨w,k1⟩:=q1;rw[e1] at h;simp only at h;obtain⟨f1,f2⟩:=VD hed e1;cases e2:BP ed l f (n+1) (r.drop (k0+k1)) with
     |none=>rw[e2] at h;cases h
     |some q2=>
      obtain⟨ws,k2⟩:=q2;rw[e2] at h;simp only at h;obtain⟨g1,g2⟩:=Ns l f (n+1) _ _ e2;cases h;simp only[List.length_drop] at f2 g1 g2;simp only at f1 f2 g1 g2;exact⟨by simp only;omega,by simp only[List.length_cons];omega⟩
theorem fS {r:List UInt8} {q:E × Nat} (h:Ec ed r=some q):q.2≤r.length:=by
 unfold Ec at h;split at h
 ·rename_i hh;generalize (BX AB (r.take 2++[93])).kind=l at h;cases e1:BP ed l (r.length+1) 0 (r.drop 2) with
  |none=>rw[e1] at h;cases h
  |some q1=>
   obtain⟨os,k1⟩:=q1;rw[e1] at h;simp only at h;have f1:=Ns hed l _ _ _ _ e1;cases e2:AL 93 (r.drop (2+k1)) with
   |none=>rw[e2] at h;cases h
   |some u2=>
    rw[e2] at h;simp only at h;have f2:=Bv e2;cases h;simp only[List.length_drop] at f1 f2;simp only;omega
 ·cases h
end
theorem jb {r:List UInt8} {q:E × Nat} (h:Mj r=some q):q.2≤r.length:=by
 unfold Mj at h;cases e0:Cs r with
 |none=>rw[e0] at h;cases h
 |some q0=>
  obtain⟨o,k1⟩:=q0;rw[e0] at h;simp only at h;have f0:=Jz e0;cases e1:AL 62 (r.drop k1) with
  |none=>rw[e1] at h;cases h
  |some u1=>
   rw[e1] at h;simp only at h;have f1:=Bv e1;cases e2:Cs (r.drop (k1+1)) with
   |none=>rw[e2] at h;cases h
   |some q2=>
    obtain⟨n,k2⟩:=q2;rw[e2] at h;simp only at h;have f2:=Jz e2;cases e3:AL 41 (r.drop (k1+1+k2)) with
    |none=>rw[e3] at h;cases h
    |some u3=>
     rw[e3] at h;simp only at h;have f3:=Bv e3;cases h;simp only[List.length_drop] at f1 f2 f3;simp only;omega
theorem PR {α:Type} {k:Nat} {o:Option (α × Nat)} {q:α × Nat} (h:JR k o=some q):∃ n,o=some (q.1,n)∧q.2=k+n:=by
 unfold JR at h;split at h
 ·cases h;exact⟨_,rfl,rfl⟩
 ·cases h
theorem Kh:∀ (d:Nat) (r:List UInt8) (q:E × Nat),Bd d r=some q→q.2≤r.length
 |0,r,q,h=>by cases h
 |d+1,r,q,h=>by
  have ih:=Kh d;unfold Bd at h;split at h
  ·rename_i h1;have:=JG h1;cases h;exact this
  ·split at h
   ·rename_i h1;have:=JG h1;obtain⟨n,e1,e2⟩:=PR h;have f:=jb e1;simp only[List.length_drop] at f;omega
   ·split at h
    ·rename_i h1;have:=JG h1;obtain⟨n,e1,e2⟩:=PR h;have f:=XR ih e1;simp only[List.length_drop] at f;omega
    ·split at h
     ·rename_i h1;have:=JG h1;obtain⟨n,e1,e2⟩:=PR h;have f:=fS ih e1;simp only[List.length_drop] at f;omega
     ·cases h
def DB:List (List UInt8)→List UInt8
 |[]=>[]
 |x::l=>44::(x++DB l)
theorem Qu:∀ (l:List (List UInt8)) (x:List UInt8),Aj (x::l)=x++DB l
 |[],x=>by simp[DB]
 |y::l,x=>by rw[Aj,Qu l y];simp[DB]
def EE (n:Nat) (l:List (List UInt8)):List UInt8:=if n=0 then Aj l else DB l
theorem GM (n:Nat) (x:List UInt8) (l:List (List UInt8)):EE n (x::l)=(if n=0 then [] else [44])++(x++EE (n+1) l):=by
 unfold EE;by_cases h:n=0
 ·rw[if_pos h,if_pos h,if_neg (by omega),Qu];rfl
 ·rw[if_neg h,if_neg h,if_neg (by omega)];rfl
theorem Ig {r:List UInt8} {c:UInt8} (h:Bt r c=true):r.take 1=[c]:=by
 cases r with
 |nil=>simp at h
 |cons x r=>simp at h;subst h;rfl
theorem Cf {c:UInt8} {r:List UInt8} {k:Nat} (h:AL c r=some k):k=1∧r.take 1=[c]:=by
 unfold AL at h;split at h
 ·rename_i he;cases h;exact⟨rfl,Ig he⟩
 ·cases h
theorem LA {n:Nat} {r:List UInt8} {k:Nat} (h:B9 n r=some k):r.take k=if n=0 then [] else [44]:=by
 unfold B9 at h;split at h
 ·rename_i h0;cases h;rw[if_pos h0];simp
 ·rename_i h0;rw[if_neg h0];obtain⟨rfl,e⟩:=Cf h;exact e
theorem NJ {r:List UInt8} {t:T} {n:Nat} (h:Cs r=some (t,n)):Am t=r.take n∧Cw 64 t∧Ay 64 t=true∧(r.length≤1000000000→CG t):=by
 unfold Cs at h;split at h
 ·rename_i ho;cases h;obtain⟨h1,h2,h3⟩:=Ot JS ho;exact⟨h1,h2,h3,fun hl=>Ko 64 _ h2 (by rw[h1,List.length_take];omega)⟩
 ·cases h
theorem ak {r:List UInt8} {w:WE} {n:Nat} (h:Iq r=some (w,n)):AQ w=r.take n:=by
 unfold Iq at h;cases h1:Dr 1048576 r with
 |none=>rw[h1] at h;cases h
 |some q1=>
  obtain⟨a,k1⟩:=q1;rw[h1] at h;simp only at h;cases h2:AL 58 (r.drop k1) with
  |none=>rw[h2] at h;cases h
  |some m2=>
   rw[h2] at h;simp only at h;cases h3:Dr 255 (r.drop (k1+1)) with
   |none=>rw[h3] at h;cases h
   |some q3=>
    obtain⟨b,k3⟩:=q3;rw[h3] at h;simp only at h;cases h4:AL 58 (r.drop (k1+1+k3)) with
    |none=>rw[h4] at h;cases h
    |some m4=>
     rw[h4] at h;simp only at h;cases h5:Dr 18446744073709551615 (r.drop (k1+1+k3+1)) with
     |none=>rw[h5] at h;cases h
     |some q5=>
      obtain⟨c,k5⟩:=q5;rw[h5] at h;simp only at h;cases h6:AL 58 (r.drop (k1+1+k3+1+k5)) with
      |none=>rw[h6] at h;cases h
      |some m6=>
       rw[h6] at h;simp only at h;cases h7:Dr 18446744073709551615 (r.drop (k1+1+k3+1+k5+1)) with
       |none=>rw[h7] at h;cases h
       |some q7=>
        obtain⟨d,k7⟩:=q7;rw[h7] at h;simp only at h;cases h;have e1:=(Hm h1).2.2.1;have e2:=(Cf h2).2;have e3:=(Hm h3).2.2.1;have e4:=(Cf h4).2;have e5:=(Hm h5).2.2.1;have e6:=(Cf h6).2;have e7:=(Hm h7).2.2.1;simp only[List.take_add,e1,e2,e3,e4,e5,e6,e7];simp[AQ]
theorem Py:∀ (f n:Nat) (r:List UInt8) (ws:List WE) (k:Nat),BZ f n r=some (ws,k)→EE n (ws.map AQ)=r.take k
 |0,n,r,ws,k,h=>by cases h
 |f+1,n,r,ws,k,h=>by
  unfold BZ at h;split at h
  ·cases h;unfold EE;split<;>rfl
  ·cases h1:B9 n r with
   |none=>rw[h1] at h;cases h
   |some k0=>
    rw[h1] at h;simp only at h;cases h2:Iq (r.drop k0) with
    |none=>rw[h2] at h;cases h
    |some q2=>
     obtain⟨w,k1⟩:=q2;rw[h2] at h;simp only at h;cases h3:BZ f (n+1) (r.drop (k0+k1)) with
     |none=>rw[h3] at h;cases h
     |some q3=>
      obtain⟨ws',k2⟩:=q3;rw[h3] at h;simp only at h;cases h;have e1:=LA h1;have e2:=ak h2;have e3:=Py f (n+1) _ _ _ h3;rw[List.map_cons,GM];simp only[List.take_add,e1,e2,e3];simp
def oC (ed:List UInt8→Option (E × Nat)):Prop:=∀ (r:List UInt8) (e:E) (n:Nat),ed r=some (e,n)→CP e=r.take n∧(r.length≤1000000000→Nf e)
section
variable {ed:List UInt8→Option (E × Nat)}
theorem dM (hed:oC ed) {r:List UInt8} {x:KE} {n:Nat} (h:Ni ed r=some (x,n)):AZ x=r.take n∧(r.length≤1000000000→Bm x.at_∧Nf x.e):=by
 unfold Ni at h;cases h1:Dr 1048576 r with
 |none=>rw[h1] at h;cases h
 |some q1=>
  obtain⟨a,k1⟩:=q1;rw[h1] at h;simp only at h;cases h2:AL 58 (r.drop k1) with
  |none=>rw[h2] at h;cases h
  |some m2=>
   rw[h2] at h;simp only at h;cases h3:ed (r.drop (k1+1)) with
   |none=>rw[h3] at h;cases h
   |some q3=>
    obtain⟨e,k3⟩:=q3;rw[h3] at h;simp only at h;cases h;have e0:=Hm h1;have e1:=e0.2.2.1;have e2:=(Cf h2).2;obtain⟨e3,e4⟩:=hed _ _ _ h3;refine⟨?_,fun hl=>⟨?_,e4 (by rw[List.length_drop];omega)⟩⟩
    ·simp only[List.take_add,e1,e2,← e3];simp[AZ]
    ·have:=e0.1;unfold Bm;simp;omega
theorem SM (hed:oC ed):∀ (f n:Nat) (r:List UInt8) (ws:List KE) (k:Nat),Dc ed f n r=some (ws,k)→EE n (ws.map AZ)=r.take k∧(r.length≤1000000000→∀ x,x ∈ ws→Bm x.at_∧Nf x.e)
 |0,n,r,ws,k,h=>by cases h
 |f+1,n,r,ws,k,h=>by
  unfold Dc at h;split at h
  ·cases h;exact⟨by unfold EE;split<;>rfl,fun _ x hx=>nomatch hx⟩
  ·cases h1:B9 n r with
   |none=>rw[h1] at h;cases h
   |some k0=>
    rw[h1] at h;simp only at h;cases h2:Ni ed (r.drop k0) with
    |none=>rw[h2] at h;cases h
    |some q2=>
     obtain⟨w,k1⟩:=q2;rw[h2] at h;simp only at h;cases h3:Dc ed f (n+1) (r.drop (k0+k1)) with
     |none=>rw[h3] at h;cases h
     |some q3=>
      obtain⟨ws',k2⟩:=q3;rw[h3] at h;simp only at h;cases h;have e1:=LA h1;obtain⟨e2,g2⟩:=dM hed h2;obtain⟨e3,g3⟩:=SM hed f (n+1) _ _ _ h3;refine⟨?_,fun hl x hx=>?_⟩
      ·rw[List.map_cons,GM];simp only[List.take_add,e1,e2,e3];simp
      ·rcases List.mem_cons.1 hx with rfl | hx
       ·exact g2 (by rw[List.length_drop];omega)
       ·exact g3 (by rw[List.length_drop];omega) x hx
theorem Vn (hed:oC ed) {r:List UInt8} {e:E} {n:Nat} (h:Ei ed r=some (e,n)):CP e=115::r.take n∧(r.length≤1000000000→Nf e):=by
 unfold Ei at h;cases h1:AL 123 r with
 |none=>rw[h1] at h;cases h
 |some m1=>
  rw[h1] at h;simp only at h;cases h2:BZ (r.length+1) 0 (r.drop 1) with
  |none=>rw[h2] at h;cases h
  |some q2=>
   obtain⟨ws,k1⟩:=q2;rw[h2] at h;simp only at h;cases h3:AL 124 (r.drop (1+k1)) with
   |none=>rw[h3] at h;cases h
   |some m3=>
    rw[h3] at h;simp only at h;cases h4:Dc ed (r.length+1) 0 (r.drop (1+k1+1)) with
    |none=>rw[h4] at h;cases h
    |some q4=>
     obtain⟨ks,k2⟩:=q4;rw[h4] at h;simp only at h;cases h5:AL 125 (r.drop (1+k1+1+k2)) with
     |none=>rw[h5] at h;cases h
     |some m5=>
      rw[h5] at h;simp only at h;cases h;have e1:=(Cf h1).2;have e2:=Py _ _ _ _ _ h2;have e3:=(Cf h3).2;obtain⟨e4,g4⟩:=SM hed _ _ _ _ _ h4;have e5:=(Cf h5).2;have b2:=Ky _ _ _ _ h2;refine⟨?_,fun hl=>wfE_iff.2 ?_⟩
      ·rw[Ke,if_neg (by omega),if_pos rfl];simp only[List.take_add,e1,← e2,e3,← e4,e5,EE,if_true];simp
      ·have c1:=congrArg List.length e2;have c2:=congrArg List.length e4;have n1:=Cd (l:=ws.map AQ);have n2:=Cd (l:=ks.map AZ);simp only[EE,if_true,List.length_take,List.length_map,List.length_drop] at c1 c2 n1 n2;exact⟨by simp[Bm],by simp[Bm],wfT_iff.2 ⟨by simp[Bm],by simp,by simp,by simp,by simp⟩,wfT_iff.2 ⟨by simp[Bm],by simp,by simp,by simp,by simp⟩,fun w hw=>by
        obtain⟨u1,u2,u3,u4,u5,u6,u7,u8⟩:=b2.2.2 w hw;exact⟨by unfold Bm;omega,by omega,by unfold EP;omega,by unfold EP;omega⟩,by show ws.length*32≤_;omega,by show ks.length*208≤_;omega,by simp,g4 (by rw[List.length_drop];omega),by simp⟩
theorem O9 {r:List UInt8} {c:UInt8} (h:Ej r=c) (hc:c ≠ 0):r.take 1=[c]:=by
 cases r with
 |nil=>exact(hc (by rw[← h];rfl)).elim
 |cons x r=>have:x=c:=h;subst this;rfl
theorem oU:Nf E0:=wfE_iff.2 ⟨by simp[Bm],by simp[Bm],wfT_iff.2 ⟨by simp[Bm],by simp,by simp,by simp,by simp⟩,wfT_iff.2 ⟨by simp[Bm],by simp,by simp,by simp,by simp⟩,by simp,by simp,by simp,by simp,by simp,by simp⟩
theorem Wy {t:T} {l:Int} (hp:Cw 64 t) (hk:t.kind=l) (h2:2≤l):t = .mk l [] t.kids:=by
 rcases hp with h | ⟨h,_⟩ | ⟨_,_,h,_⟩
 ·rw[h] at hk;simp at hk;omega
 ·omega
 ·exact T.mkOf hk h rfl
theorem bI (hed:oC ed) {l:Int} (hl2:2≤l) {r:List UInt8} {x:OP} {n:Nat} (h:CI ed l r=some (x,n)):A0 l x=r.take n∧(r.length≤1000000000→jA x):=by
 unfold CI at h;split at h
 ·rename_i hc;have e0:=O9 hc (by decide);cases h1:Dr 1048576 (r.drop 1) with
  |none=>rw[h1] at h;cases h
  |some q=>
   obtain⟨m,k⟩:=q;rw[h1] at h;simp only at h;cases h;have hn:=Hm h1;refine⟨?_,fun hl=>⟨by simp[Bm],by simp[Bm];omega,by simp,by simp,oU⟩⟩;simp only[List.take_add,e0,hn.2.2.1];simp[A0]
 ·split at h
  ·rename_i hc;have e0:=O9 hc (by decide);cases h1:ed (r.drop 1) with
   |none=>rw[h1] at h;cases h
   |some q=>
    obtain⟨e,k⟩:=q;rw[h1] at h;simp only at h;cases h;obtain⟨g1,g2⟩:=hed _ _ _ h1;refine⟨?_,fun hl=>⟨by simp[Bm],by simp[Bm],by simp,by simp,g2 (by rw[List.length_drop];omega)⟩⟩;simp only[List.take_add,e0,← g1];simp[A0]
  ·split at h
   ·rename_i hc;cases h1:Cs (r.drop 1) with
    |none=>rw[h1] at h;cases h
    |some q=>
     obtain⟨t,k⟩:=q;rw[h1] at h;simp only at h;split at h
     ·rename_i hk;cases h;obtain⟨g1,g2,g3,g4⟩:=NJ h1;have ht:=Wy g2 hk hl2;refine⟨?_,fun hl=>?_⟩
      ·simp only[List.take_add,← g1];by_cases h45:Ej r=45
       ·rw[O9 h45 (by decide)];simp[A0,h45];exact congrArg Am ht.symm
       ·have h43:=hc.resolve_left h45;rw[O9 h43 (by decide)];simp[A0,h45];exact congrArg Am ht.symm
      ·have hw:=wfT_iff.1 (g4 (by rw[List.length_drop];omega));exact⟨by show Bm (if Ej r=45 then 1 else 2);split<;>simp[Bm],by simp[Bm],hw.ks,hw.kl,oU⟩
     ·cases h
   ·cases h
theorem QV (hed:oC ed) {l:Int} (hl2:2≤l):∀ (f n:Nat) (r:List UInt8) (ws:List OP) (k:Nat),BP ed l f n r=some (ws,k)→EE n (ws.map (A0 l))=r.take k∧(r.length≤1000000000→∀ x,x ∈ ws→jA x)
 |0,n,r,ws,k,h=>by cases h
 |f+1,n,r,ws,k,h=>by
  unfold BP at h;split at h
  ·cases h;exact⟨by unfold EE;split<;>rfl,fun _ x hx=>nomatch hx⟩
  ·cases h1:B9 n r with
   |none=>rw[h1] at h;cases h
   |some k0=>
    rw[h1] at h;simp only at h;cases h2:CI ed l (r.drop k0) with
    |none=>rw[h2] at h;cases h
    |some q2=>
     obtain⟨w,k1⟩:=q2;rw[h2] at h;simp only at h;cases h3:BP ed l f (n+1) (r.drop (k0+k1)) with
     |none=>rw[h3] at h;cases h
     |some q3=>
      obtain⟨ws',k2⟩:=q3;rw[h3] at h;simp only at h;cases h;have e1:=LA h1;obtain⟨e2,g2⟩:=bI hed hl2 h2;obtain⟨e3,g3⟩:=QV hed hl2 f (n+1) _ _ _ h3;refine⟨?_,fun hl x hx=>?_⟩
      ·rw[List.map_cons,GM];simp only[List.take_add,e1,e2,e3];simp
      ·rcases List.mem_cons.1 hx with rfl | hx
       ·exact g2 (by rw[List.length_drop];omega)
       ·exact g3 (by rw[List.length_drop];omega) x hx
theorem ZD {r:List UInt8} (h2:2≤r.length) (ho:Un AB (r.take 2++[93])=true):2≤(BX AB (r.take 2++[93])).kind∧(BX AB (r.take 2++[93])).kind≤9∧r.take 2=[Cn (BX AB (r.take 2++[93])).kind,91]:=by
 obtain⟨h1,hp,_⟩:=Ot JS ho;generalize BX AB (r.take 2++[93])=t at *;obtain⟨k,w,l⟩:=t;rcases hp with h | ⟨h,_⟩ | ⟨a1,a2,a3,_⟩
 ·rw[h,show Am T0=[95] by rw[AY];rfl] at h1;have:=congrArg List.length h1;simp only[List.length_append,List.length_take,List.length_cons,List.length_nil] at this;omega
 ·simp at h;subst h;rw[AY,if_neg (by simp),if_pos rfl] at h1;have e:∀ A B:List UInt8,123::(A++(B++[125]))=(123::(A++B))++[125]:=fun A B=>by simp
  rw[e] at h1;have:=congrArg List.getLast? h1;rw[List.getLast?_concat,List.getLast?_concat] at this;cases this
 ·simp at a1 a2;refine⟨a1,a2,?_⟩;rw[AY,if_neg (by simp;omega),if_neg (by omega),if_pos ⟨a1,a2⟩] at h1;obtain⟨a,b,r,rfl⟩:∃ a b r',r=a::b::r':=by
   match r,h2 with
   |a::b::r',_=>exact⟨a,b,r',rfl⟩
  simp at h1;simp[h1.1,h1.2.1]
theorem ZC (hed:oC ed) {r:List UInt8} {e:E} {n:Nat} (h:Ec ed r=some (e,n)):CP e=108::r.take n∧(r.length≤1000000000→Nf e):=by
 unfold Ec at h;split at h
 ·rename_i hc;obtain⟨l2,l9,e0⟩:=ZD hc.1 hc.2;generalize (BX AB (r.take 2++[93])).kind=l at *;cases h2:BP ed l (r.length+1) 0 (r.drop 2) with
  |none=>rw[h2] at h;cases h
  |some q2=>
   obtain⟨os,k1⟩:=q2;rw[h2] at h;simp only at h;cases h3:AL 93 (r.drop (2+k1)) with
   |none=>rw[h3] at h;cases h
   |some m3=>
    rw[h3] at h;simp only at h;cases h;obtain⟨e2,g2⟩:=QV hed l2 _ _ _ _ _ h2;have e3:=(Cf h3).2;refine⟨?_,fun hl=>wfE_iff.2 ?_⟩
    ·rw[Ke,if_neg (by omega),if_neg (by omega),if_pos rfl];simp only[List.take_add,e0,← e2,e3,EE,if_true];simp
    ·have c1:=congrArg List.length e2;have n1:=Cd (l:=os.map (A0 l));simp only[EE,if_true,List.length_take,List.length_map,List.length_drop] at c1 n1;exact⟨by simp[Bm],by simp[Bm];omega,wfT_iff.2 ⟨by simp[Bm],by simp,by simp,by simp,by simp⟩,wfT_iff.2 ⟨by simp[Bm],by simp,by simp,by simp,by simp⟩,by simp,by simp,by simp,by show os.length*240≤_;omega,by simp,g2 (by rw[List.length_drop];omega)⟩
 ·cases h
end
theorem bn {r:List UInt8} {e:E} {n:Nat} (h:Mj r=some (e,n)):CP e=40::r.take n∧(r.length≤1000000000→Nf e):=by
 unfold Mj at h;cases h1:Cs r with
 |none=>rw[h1] at h;cases h
 |some q1=>
  obtain⟨o,k1⟩:=q1;rw[h1] at h;simp only at h;cases h2:AL 62 (r.drop k1) with
  |none=>rw[h2] at h;cases h
  |some m2=>
   rw[h2] at h;simp only at h;cases h3:Cs (r.drop (k1+1)) with
   |none=>rw[h3] at h;cases h
   |some q3=>
    obtain⟨t,k3⟩:=q3;rw[h3] at h;simp only at h;cases h4:AL 41 (r.drop (k1+1+k3)) with
    |none=>rw[h4] at h;cases h
    |some m4=>
     rw[h4] at h;simp only at h;cases h;obtain⟨e1,_,_,g1⟩:=NJ h1;have e2:=(Cf h2).2;obtain⟨e3,_,_,g3⟩:=NJ h3;have e4:=(Cf h4).2;refine⟨?_,fun hl=>wfE_iff.2 ⟨by simp[Bm],by simp[Bm],g1 hl,g3 (by rw[List.length_drop];omega),by simp,by simp,by simp,by simp,by simp,by simp⟩⟩;rw[Ke,if_pos rfl];simp only[List.take_add,← e1,e2,← e3,e4];simp
theorem SE:∀ d,oC (Bd d)
 |0,r,e,n,h=>by cases h
 |d+1,r,e,n,h=>by
  have ih:=SE d;have plus:∀ {o:Option (E × Nat)},JR 1 o=some (e,n)→∃ m,o=some (e,m)∧n=1+m:=fun {o} h=>by
   cases o with
   |none=>cases h
   |some q=>obtain⟨x,m⟩:=q;cases h;exact⟨m,rfl,rfl⟩
  unfold Bd at h;split at h
  ·rename_i hc;cases h;exact⟨by rw[Ig hc];rfl,fun _=>oU⟩
  ·split at h
   ·rename_i hc;obtain⟨m,h1,rfl⟩:=plus h;obtain⟨g1,g2⟩:=bn h1;exact⟨by rw[g1,List.take_add,Ig hc];rfl,fun hl=>g2 (by rw[List.length_drop];omega)⟩
   ·split at h
    ·rename_i hc;obtain⟨m,h1,rfl⟩:=plus h;obtain⟨g1,g2⟩:=Vn ih h1;exact⟨by rw[g1,List.take_add,Ig hc];rfl,fun hl=>g2 (by rw[List.length_drop];omega)⟩
    ·split at h
     ·rename_i hc;obtain⟨m,h1,rfl⟩:=plus h;obtain⟨g1,g2⟩:=ZC ih h1;exact⟨by rw[g1,List.take_add,Ig hc];rfl,fun hl=>g2 (by rw[List.length_drop];omega)⟩
     ·cases h
end Go.Proofs.YtgkdikddjfgajaaGreatDoor
namespace Go.G
open Go.RowKit
def Fam.dead:Fam:=⟨fun _ p=>if p=[] then ⟨1,.cells [.any]⟩ else ⟨0,.none⟩,fun {g δ r r'} h1 h2 p=>by
 by_cases hp:p=[]
 ·subst hp;simp[VOb.ren,Ob.ren,A.renL,A.ren]
 ·rw[if_neg hp];rfl,fun {D r} h p=>by
 by_cases hp:p=[]
 ·subst hp;simp[Ob.refs,A.refsL,A.refs]
 ·rw[if_neg hp];trivial⟩
theorem AV {r:Nat}:Fam.dead.F r []=⟨1,.cells [.any]⟩:=rfl
theorem AF {c:Cx} {s:Nat→A} {H:Hp} (r:Nat) (h:H [r]=⟨1,.cells [.any]⟩):iK c ⟨s,H⟩:=fun a w I μ hs=>by
 have:=hs.sim.ob [r];rw[show(⟨s,H⟩:Sta).H=H from rfl,h] at this;obtain⟨vs,_,_,h3⟩:=this;have:=(h3 0 .any rfl).1;cases this
structure YZ (dt:TypeId) (P:Program) (f:FuncId) (as':Nat→List A) (F:Fam):Prop where
 fa:FamL as'
 h:g9 dt P f (as' 0) (ov 0 (F.F 0) (Dj []))
def NL (dt:TypeId) (P:Program) (f:FuncId) (as':Nat→List A) (F:Fam):Option ((Nat→A) × Fam)→Prop
 |some o=>SpecF P f as' F o.1 o.2
 |none=>YZ dt P f as' F
def HF (c:Cx) (rs:List ResultVar):Option ((Nat→A) × Fam)→Exit→Sta→Prop
 |some o=>HK c rs 1 (o.1 0) (ov 0 (o.2.F 0) (Dj []))
 |none=>mS c
theorem Ie {dt:TypeId} {P:Program} {f:FuncId} {n:Nat} {rs:List ResultVar} {cc:CC} {as':Nat→List A} {F:Fam} {o:Option ((Nat→A) × Fam)} (t:BM P f n rs cc) (ha:(as' 0).length≤n) (h0:FamL as') (h1:∀ q,o=some q→DV q.1)
  (h:∀ w0 I0 M0 m0,(∀ r p b,1≤r→¬ M0 (r::p) b)→WPC (OM dt (o=none) P w0 I0 M0 n m0) cc (HF (OM dt (o=none) P w0 I0 M0 n m0) rs o) ⟨Fk (as' 0),ov 0 (F.F 0) (Dj [])⟩):NL dt P f as' F o:=by
 have hM:∀ {M0:Nm→Nat→Prop},(∀ (o:Nm) (b:Nat),((ov 0 (F.F 0) (Dj []):Hp) o).ob = .none→¬ M0 o b)→∀ r p b,1≤r→¬ M0 (r::p) b:=fun hM r p b hr=>hM (r::p) b (by
  simp only[Bo];rw[if_neg (by omega)];rfl)
 cases o with
 |none=>
  refine⟨h0,dJ t ha fun w0 I0 M0 m0 hN=>?_⟩;have:=h w0 I0 M0 m0 (hM hN);rw[show((none:Option ((Nat→A) × Fam))=none)=True from eq_true rfl] at this;exact this
 |some q=>
  refine⟨h0,h1 q rfl,bb (dt:=dt) t ha fun w0 I0 M0 m0 hN=>?_⟩;have:=h w0 I0 M0 m0 (hM hN);rw[show(some q=none)=False from eq_false (fun e=>nomatch e)] at this;exact this
theorem MC {dt:TypeId} {P:Program} {f:FuncId} {n:Nat} {rs:List ResultVar} {cc:CC} {as':Nat→List A} {F:Fam} {o:Option ((Nat→A) × Fam)} (t:BM P f n rs cc) (ha:(as' 0).length≤n) (h0:FamL as') (h1:∀ q,o=some q→DV q.1)
  (h:∀ w0 I0 M0 m0,WPC (OM dt (o=none) P w0 I0 M0 n m0) cc (HF (OM dt (o=none) P w0 I0 M0 n m0) rs o) ⟨Fk (as' 0),ov 0 (F.F 0) (Dj [])⟩):NL dt P f as' F o:=Ie t ha h0 h1 fun w0 I0 M0 m0 _=>h w0 I0 M0 m0
section
variable {P:Program} {K:Lu} {rest:List CO} {s:Nat→A} {H:Hp} {dd:Option Nat} {nm:Nm} {ix:Nat} {un:List Nat} {l:Bool} {lg:Lg} {g:FuncId} {aa:Array Operand} {ts:Array TypeId}
theorem AE {dt:TypeId} {as':Nat→List A} {F:Fam} (x:A) (r:Nat) (hS:YZ dt P g as' F) (hD:K.D dt) (hF:∀ p,H (r::p)=F.F r p) (ha:aa.toList.map (evs s)=as' r) (hck:Ck un lg ⟨[],[([r],true)]⟩)
  (h:An P K rest (A2 l ix ⟨[],[([r],true)]⟩ lg) (Sta.put ⟨s,H⟩ dd x (ov r (Fam.dead.F r) H))) :
  An P K (⟨dd,.call { callee:=.value (.func g),args:=aa,argTypes:=ts },none,nm,ix,un,l⟩::rest) lg ⟨s,H⟩:=by
 have hE:(Eff.fn [r] (ov r (Fam.dead.F r) H)).app H=ov r (Fam.dead.F r) H:=by
  funext o;cases o with
  |nil=>rfl
  |cons j p=>
   by_cases hj:j=r
   ·subst hj;simp[Eff.app]
   ·simp[Eff.app,hj]
 rw[← hE] at h;refine⟨x,Eff.fn [r] (ov r (Fam.dead.F r) H),⟨[],[([r],true)]⟩,⟨g,[],[],rfl,.inr ⟨fun H2 hag=>?_,fun o H2 ho=>?_⟩⟩,hck,h⟩
 ·have ag:∀ p,H2 (r::p)=H (r::p):=fun p=>hag _ (by simp[Ug,Rn,List.isPrefixOf]);have hF2:∀ p,H2 (r::p)=F.F r p:=fun p=>(ag p).trans (hF p);have hH:=XV hF2;have hcl:=LL hF2;have ha':aa.toList.map (evs s)=as' r:=ha;have e1:A.renL (Uw [r]) (fun _=>0) (as' r)=as' 0:=hS.fa.ren (fun q=>by simp[Uw]) (fun _=>rfl);have e2:A.refsL (Zn [r] 1) (as' r):=hS.fa.refs (fun q=>by simp[Zn]);have:=Wp (dt:=dt) (P:=P) (f:=g) (rs:=[r]) (m:=1) (args:=as' r) (Hc:=ov 0 (F.F 0) (Dj [])) (H:=H2) (by simp) (by simp) (by rw[e1];exact hS.h)
   (fun i p hi=>by
    have:i=0:=by omega
    subst this;rw[← hH];simp only[NG,if_pos hi])
   (fun i p hi=>by rw[← hH];simp only[NG];rw[if_neg (by omega)]) (by rw[← hH];rfl) e2
   (fun i p hi=>by
    have:i=0:=by omega
    subst this;exact hcl _ _ (by simp)) (x:=x) (E:=Eff.fn [r] (ov r (Fam.dead.F r) H))
  simp only[List.nil_append,List.append_nil,ha'];exact⟨this.1,fun c w I μ vs hP hs hl hr=>(this.2 c w I μ vs hP hs hl hr).mono fun e w' hh=>hh.imp id fun ⟨t,ht,k⟩=>⟨t,by rw[show t=dt from ht];exact hD,k⟩⟩
 ·cases o with
  |nil=>rfl
  |cons j p=>
   have:¬ j=r:=fun hj=>by subst hj;simp[Ug,Rn,List.isPrefixOf] at ho
   simp[Eff.app,this]
end
end Go.G
namespace Go.Proofs.YtgkdikddjfgajaaGreatDoor
open Go Go.G Go.Proofs Go.PL
abbrev Mx:TypeId:=159
set_option maxHeartbeats 1000000 in
theorem dx (w:World):Calls Tryz.prog 121 #[] w fun e w'=>e = .panicked [LH Mx]∧w'=w:=by
 go_enter Tryz.func121,Tryz.ntmps121
 go_wp2
 rw[show(Sem.run Tryz.prog (Instr.panic (Value.iface 159 (Value.agg #[]))) w) = .halt (.panic (Value.iface 159 (Value.agg #[]))) w from rfl];exact⟨rfl,rfl,rfl⟩
theorem C0 (F:Fam):YZ Mx Tryz.prog 121 (fun _=>[]) F:=
 ⟨Al,by kernel_rfl,fun w I M0 n μ vs _ _ hl _=>by
  have:vs = #[]:=by
   apply Array.eq_empty_of_size_eq_zero;simpa using hl
  subst this;exact(dx w).mono fun e w' ⟨h1,h2⟩=>⟨h1,by subst h2;exact⟨rfl,rfl,rfl,CE _,fun _ _ _=>rfl⟩⟩⟩
theorem Di (s:List UInt8) (k:Nat) (hk:k≤s.length):SpecF Tryz.prog 167 (fun r=>[pp r]) (CF s k) (fun _=>IL (Ej (s.drop k))) (CF s k):=by
 refine Bk Tj (by simp) (Ag AJ Al) AO fun w0 I0 M0 m0=>?_;unfold MU;by_cases h:k=s.length
 ·subst h;rw[MP];simp;exact AK rfl rfl (fun p=>by simp)
 ·have hlt:k<s.length:=by omega
  rw[QX hlt];simp[show ¬ (s.length:Int)≤k by omega,show ¬ s.length≤k by omega,hlt];exact AK rfl rfl (fun p=>by simp)
theorem Ks (s:List UInt8) (k:Nat) (c:UInt8) (hk:k≤s.length) (hs:s.length≤1000000000) (hc:c ≠ 0):SpecF Tryz.prog 122 (fun r=>[pp r,IL c]) (CF s k) (fun _=>bv (Bt (s.drop k) c)) (CF s (k+one (Bt (s.drop k) c))):=by
 refine Bk Vc (by simp) (Ag AJ (Ag AO Al)) AO fun w0 I0 M0 m0=>?_;unfold N9;have hn:=Di s k hk;rcases Ed s k c hk with ⟨h1,h2,h3⟩ | ⟨h1,h2⟩
 ·rw[h1];rw[h3] at hn;have e1:=B0 k;simp;refine Ai 0 hn (fun p=>by simp) (by simp) (by simp) ?_;simp[e1];exact AK rfl rfl (fun p=>by by_cases hp:p=[]<;>simp[hp,Aa])
 ·rw[h1];have h3:Ej (s.drop k) ≠ c:=by
   rcases h2 with rfl | h2
   ·rw[MP];exact fun e=>hc e.symm
   ·exact h2
  have h4:¬ ((Ej (s.drop k)).toNat:Int)=c.toNat:=fun e=>h3 (u8_inj.1 e);generalize Ej (s.drop k)=x at hn h4;simp;refine Ai 0 hn (fun p=>by simp) (by simp) (by simp) ?_;simp[h4];exact AK rfl rfl (fun p=>by simp)
theorem Ut:DV (fun _=>A.tup []):=Bu Al
def Mg (s:List UInt8) (k:Nat) (c:UInt8):Option ((Nat→A) × Fam):=if Bt (s.drop k) c=true then some (fun _=>.tup [],CF s (k+1)) else none
theorem St {s:List UInt8} {k:Nat} {c:UInt8}:∀ q,Mg s k c=some q→DV q.1:=fun q h=>by
 unfold Mg at h;split at h
 ·cases h;exact Ut
 ·cases h
theorem Sy (s:List UInt8) (k:Nat) (c:UInt8) (hk:k≤s.length) (hs:s.length≤1000000000) (hc:c ≠ 0):NL Mx Tryz.prog 124 (fun r=>[pp r,IL c]) (CF s k) (Mg s k c):=by
 refine MC TS (by simp) (Ag AJ (Ag AO Al)) St fun w0 I0 M0 m0=>?_;unfold Md;have hn:=Ks s k c hk hs hc;unfold Mg;cases h:Bt (s.drop k) c with
 |true=>
  rw[h] at hn;simp;refine Ai 0 hn (fun p=>by simp) (by simp) (by simp) ?_;simp[HF];exact Bn rfl rfl (fun p=>by simp)
 |false=>
  rw[h] at hn;simp;refine Ai 0 hn (fun p=>by simp) (by simp) (by simp) ?_;simp;refine AE (.tup []) 0 (C0 (CF s k)) ⟨rfl,by simp⟩ (fun p=>by simp) (by simp) (by simp) ?_;simp[HF];exact AF 0 (by simp[AV])
def Nh (s:List UInt8) (k n:Nat):Option ((Nat→A) × Fam):=if n=0 then some (fun _=>.tup [],CF s k) else Mg s k 44
theorem XN {s:List UInt8} {k n:Nat}:∀ q,Nh s k n=some q→DV q.1:=fun q h=>by
 unfold Nh at h;split at h
 ·cases h;exact Ut
 ·exact St q h
theorem XY (s:List UInt8) (k n:Nat) (hk:k≤s.length) (hs:s.length≤1000000000):NL Mx Tryz.prog 168 (fun r=>[pp r,iv n]) (CF s k) (Nh s k n):=by
 refine MC Rl (by simp) (Ag AJ (Ag AO Al)) XN fun w0 I0 M0 m0=>?_;unfold KQ;have hn:=Sy s k 44 hk hs (by decide);unfold Nh;by_cases h0:n=0
 ·subst h0;simp[HF];exact Bn rfl rfl (fun p=>by simp)
 ·rw[if_neg h0];simp[show(0:Int)<n by omega,show 0<n by omega];cases h:Mg s k 44 with
  |none=>
   rw[h] at hn;refine AE (.tup []) 0 hn ⟨rfl,by simp⟩ (fun p=>by simp) (by simp) (by simp) ?_;simp[HF];exact AF 0 (by simp[AV])
  |some q=>
   rw[h] at hn;have hq:q=(fun _=>.tup [],CF s (k+1)):=by
    unfold Mg at h;split at h
    ·exact(Option.some.inj h).symm
    ·cases h
   subst hq;refine Ai 0 hn (fun p=>by simp) (by simp) (by simp) ?_;simp[HF];exact Bn rfl rfl (fun p=>by simp)
end Go.Proofs.YtgkdikddjfgajaaGreatDoor
namespace Go.Proofs.YtgkdikddjfgajaaGreatDoor
open Go Go.G Go.Proofs Go.RowKit Go.PL
theorem S9:∀ (xs:List (List UInt8)),(xs.map S).flatMap A.cells=xs.map S
 |[]=>rfl
 |a::l=>by rw[List.map_cons,List.flatMap_cons,S9 l];rfl
theorem HB (f:Bool) (xs:List (List UInt8)) (sep:List UInt8) (hN:xs.length≤140737488355328) (hlen:(Lib.join xs sep).length≤140737488355328):G.Spec Tryz.prog 67 [.sl f (xs.map S),S sep] (S (Lib.join xs sep)):=by
 refine⟨by kernel_rfl,fun w I vs hI ht hl hr=>?_⟩;have h0:=hr 0 _ rfl;have h1:=hr 1 _ rfl;obtain⟨v0,hv0⟩:∃ v,vs.getD 0 undef=v:=⟨_,rfl⟩;obtain⟨v1,hv1⟩:∃ v,vs.getD 1 undef=v:=⟨_,rfl⟩;have ev:vs = #[v0,v1]:=by
  apply Array.ext
  ·simpa using hl
  ·intro i h2 h3;have hi:vs[i]=vs.getD i undef:=by simp[h2]
   rw[hi];have:i=0∨i=1:=by simp at h3;omega
   rcases this with rfl | rfl
   ·simp[hv0]
   ·simp[hv1]
 rw[hv0] at h0;rw[hv1] at h1;subst ev;cases h1;have hj:∀ (bs:List ByteArray),bs.map (·.data.toList)=xs→(Lib.join (bs.map (·.data.toList)) (⟨sep.toArray⟩:ByteArray).data.toList)=Lib.join xs sep:=fun bs h=>by rw[h]
 generalize hxs:xs.map S=q at h0;cases h0 with
 |slN μ f a cap hc=>
  have:xs=[]:=by simpa using hxs
  subst this;exact(Any.strings_Join_none Tryz.lays156 Tryz.Builder_Extra_156 a cap ⟨sep.toArray⟩ w).mono fun e w' ⟨h1,h2⟩=>⟨_,h1,by rw[h2];exact Below.refl _ _,by exact .v _ _⟩
 |sl μ f b off n cap sz q g hb hn hcap hf hsz h1 h2 h3=>
  subst hxs;have e:=S9 xs;rw[e] at h2 h3;have hbs:(xs.map fun l=>(⟨l.toArray⟩:ByteArray)).map (·.data.toList)=xs:=by
   rw[List.map_map]
   conv=>rhs;rw[← List.map_id xs]
   apply List.map_congr_left;intro x _;simp
  have c:=Any.strings_Join Tryz.lays156 Tryz.Builder_Extra_156 b off cap (xs.map fun l=>(⟨l.toArray⟩:ByteArray)) ⟨sep.toArray⟩ w (fun j x hx=>by
    rw[List.getElem?_map] at hx;obtain⟨l,hl,rfl⟩:=Option.map_eq_some_iff.1 hx;have hy:(xs.map S)[j]? = some (S l):=by simp[hl]
    rw[h2 j _ hy];have:=h3 j _ hy;generalize g j=q at this;cases this;rfl) (hI b hb) (by simpa using hN) (by simpa using hcap) (by rw[hj _ hbs];exact hlen)
  rw[hj _ hbs] at c;have en:n=(xs.map fun l=>(⟨l.toArray⟩:ByteArray)).length:=by simpa using hn
  subst en;exact c.mono fun e w' ⟨h1,h2⟩=>⟨_,h1,h2,.v _ _⟩
theorem P9 (k:Int) (hk:k=1∨k=2) (fn l:List UInt8) (hl:l.length≤281474976710656):G.Spec Tryz.prog 66 [S fn,S l,iv 16,iv 64,.ifc 173 (iv k)] (.ifc 176 .any):=by
 refine⟨by kernel_rfl,fun w I vs hI ht hlv hr=>?_⟩;have ev:vs = #[.string ⟨fn.toArray⟩,.string ⟨l.toArray⟩,.int .i64 16,.int .i64 64,.iface 173 (.int .i64 k)]:=by
  have h0:=hr 0 _ rfl;have h1:=hr 1 _ rfl;have h2:=hr 2 _ rfl;have h3:=hr 3 _ rfl;have h4:=hr 4 _ rfl;apply Array.ext
  ·simpa using hlv
  ·intro i g1 g2;have hi:vs[i]=vs.getD i undef:=by simp[g1]
   rw[hi];have:i=0∨i=1∨i=2∨i=3∨i=4:=by simp at g2;omega
   rcases this with rfl | rfl | rfl | rfl | rfl
   ·generalize vs.getD 0 undef=x at h0;cases h0;rfl
   ·generalize vs.getD 1 undef=x at h1;cases h1;rfl
   ·generalize vs.getD 2 undef=x at h2;cases h2;rfl
   ·generalize vs.getD 3 undef=x at h3;cases h3;rfl
   ·generalize vs.getD 4 undef=x at h4;cases h4 with
    |ifc _ _ _ y hy=>cases hy;rfl
 subst ev;have hs:(⟨l.toArray⟩:ByteArray).size≤281474976710656:=by show l.toArray.size≤_;simpa using hl
 rcases hk with rfl | rfl
 ·obtain⟨_,te,pe,hv⟩:=ht.err 4 (by kernel_rfl);exact(Any.strconv_toError_range Tryz.laysC245 ⟨fn.toArray⟩ ⟨l.toArray⟩ 16 64 _ w hs hv (Or.inr ⟨te,pe,rfl⟩)).mono fun e w' ⟨N,h1,_,_,h2⟩=>⟨_,h1,h2,.ifc _ _ _ _ (.any _ _)⟩
 ·obtain⟨_,te,pe,hv⟩:=ht.err 3 (by kernel_rfl);exact(Any.strconv_toError_syntax Tryz.laysC245 ⟨fn.toArray⟩ ⟨l.toArray⟩ 16 64 _ w hs hv (Or.inr ⟨te,pe,rfl⟩)).mono fun e w' ⟨N,h1,_,_,h2⟩=>⟨_,h1,h2,.ifc _ _ _ _ (.any _ _)⟩
theorem RU {P:Program} {f:FuncId} {args:List A} {t:TypeId} (h:G.Spec P f args (.ifc t .any)):SpecB P f args (.ifc t .any):=
 ⟨h.1,fun w I J vs hI hJ ht hl ha=>(h.2 w (fun b=>I b∨J b) vs (fun b hb=>hb.elim (hI b) (hJ b)) (ht.mono (fun _ h=>.inl h) (fun _ _=>rfl)) hl ha).mono fun e w' ⟨v,he,hB,hr'⟩=>⟨v,he,hB,by
  cases hr' with
  |ifc _ _ _ y hy=>exact .ifc _ _ _ _ (.any _ _)⟩⟩
theorem Wc {l m:List UInt8}:O8 .eql ⟨l.toArray⟩ ⟨m.toArray⟩=some (bv (decide (l=m))):=by
 unfold O8;simp only[Lib.toList_data,List.toList_toArray];rw[show(l == m)=decide (l=m) by by_cases h:l=m<;>simp[h]]
theorem Vo {l m:List UInt8}:O8 .neq ⟨l.toArray⟩ ⟨m.toArray⟩=some (bv (decide (l ≠ m))):=by
 by_cases h:l=m
 ·subst h;simp[O8]
 ·have:¬ (ByteArray.mk l.toArray=ByteArray.mk m.toArray):=by rw[lf];exact h
  simp[O8,h]
theorem MD {H:Hp} {t:TypeId} {k:Int}:Jw H (.ifc t (iv k)) (.ifc t (iv k)):=fun c w I μ v hs hr=>by
 cases hr with
 |ifc _ _ _ y hy=>cases hy;exact .ifc _ _ _ _ (.v _ _)
theorem Zk {k:Int}:fT Tryz.prog 173 (iv k)=some (.ifc 173 (iv k)):=by kernel_rfl
theorem Xv (c:UInt8):G.Spec Tryz.prog 196 [IL c] (.v (.int .u8 (bits .or .u8 c.toNat 32))):=by
 refine Ap HT (by simp) fun w0 I0=>?_;unfold En;simp;exact Ab rfl
theorem ZS {c:UInt8} {d:Nat} (h:BN c=some d) (hc:¬ c.toNat≤57):bits .or .u8 c.toNat 32=c.toNat∧97≤c.toNat∧c.toNat≤102∧d=c.toNat-87:=by
 have h1:97≤c.toNat∧c.toNat≤102∧d=c.toNat-87:=by
  unfold BN at h;rw[if_neg (by omega)] at h;split at h
  ·cases h;omega
  ·cases h
 refine⟨?_,h1⟩;have:∀ n:Nat,n<6→bits .or .u8 ((97+n:Nat):Int) 32=((97+n:Nat):Int):=by decide
 have:=this (c.toNat-97) (by omega)
 rwa [show 97+(c.toNat-97)=c.toNat by omega] at this
variable {n0:Nat} {w0:World} {I0:Nat→Prop} {Q:Exit→Sta→Prop} {H:Hp}
set_option maxHeartbeats 2000000 in
theorem yJ {dg:List UInt8} (hl:dg.length≤1000000000) (hd:∀ c,c ∈ dg→∃ d,BN c=some d) (hq:∀ m,HX 0 dg=some m→Q (.exit 3) ⟨lk [(1,iv 16),(8,bv false),(9,S dg),(10,uv 1152921504606846976),(11,uv 18446744073709551615),(12,bv false),(13,uv m),(99,.sl false (dg.map IL)),(100,iv dg.length),(101,iv dg.length),(102,bv false)],H⟩)
  (hr:HX 0 dg=none→Q .ret ⟨lk [(6,uv 18446744073709551615),(7,.ifc 173 (iv 1))],H⟩) :
  ∀ (j i n:Nat),i+j=dg.length→n<18446744073709551616→HX 0 dg=HX n (dg.drop i)→LoopC (cx Tryz.prog w0 I0 n0) AM Q ⟨lk [(1,iv 16),(8,bv false),(9,S dg),(10,uv 1152921504606846976),(11,uv 18446744073709551615),(12,bv false),(13,uv n),(99,.sl false (dg.map IL)),(100,iv dg.length),(101,iv i)],H⟩:=by
 intro j;induction j with
 |zero=>
  intro i n hi hn he;have:i=dg.length:=by omega
  subst this;rw[List.drop_length] at he;refine Ad mixed AM.eq_1 ?_;simp;exact hq n he
 |succ j ih=>
  intro i n hi hn he;have hlt:i<dg.length:=by omega
  obtain⟨d,hx⟩:=hd dg[i] (EI hlt);rw[List.drop_eq_getElem_cons hlt,HX,hx] at he;simp only at he;have hd16:=(Ki hx).1;have hc:=Xv dg[i];have ei:=B0 i;have h95:¬ (dg[i].toNat:Int)=95:=by
   unfold BN at hx;split at hx
   ·omega
   ·split at hx
    ·omega
    ·cases hx
  have k1:WPC (cx Tryz.prog w0 I0 n0) BV (Hk (fun st=>WPC (cx Tryz.prog w0 I0 n0) (.keep [1,8,9,10,11,12,13,99,100,101] (.reg [co (some 163) (.binOp .add 3 (.tmp 101) (.const (.int .i64 1)) 3) none,co (some 101) (.move (.tmp 163)) none] [1,8,9,10,11,12,13,99,100,101])) (Hk (LoopC (cx Tryz.prog w0 I0 n0) AM Q) Q) st) (Hk (LoopC (cx Tryz.prog w0 I0 n0) AM Q) Q)) ⟨lk [(1,iv 16),(8,bv false),(9,S dg),(10,uv 1152921504606846976),(11,uv 18446744073709551615),(12,bv false),(13,uv n),(16,.v (.int .u8 d)),(99,.sl false (dg.map IL)),(100,iv dg.length),(101,iv i)],H⟩:=by
   rw[BV.eq_1];have e8:IntKind.u8.wrap 16=16:=by decide
   by_cases hlt2:n<1152921504606846976
   ·rw[if_pos hlt2] at he;have e1:u64.wrap ((n:Int)*16)=((n*16:Nat):Int):=by rw[Cr (by omega) (by omega)];omega
    have e2:u64.wrap (((n*16:Nat):Int)+(d:Int))=((n*16+d:Nat):Int):=by rw[Cr (by omega) (by omega)];omega
    have e3:u64.wrap (d:Int)=d:=Cr (by omega) (by omega);have e4:u64.wrap 16=16:=by decide
    have e5:u64.wrap ((n:Int)*16+(d:Int))=(n:Int)*16+d:=Cr (by omega) (by omega);simp[show ¬ (16:Int)≤d by omega,show ¬ 16≤d by omega,show ¬ (1152921504606846976:Int)≤n by omega,e1,e5,e3,e4,e8,ei,show ¬ ((n:Int)*16+d<n*16∨18446744073709551615<(n:Int)*16+d) by omega];intro _ _;exact ih (i+1) (n*16+d) (by omega) (by omega) he
   ·rw[if_neg hlt2] at he;simp[show ¬ (16:Int)≤d by omega,show ¬ 16≤d by omega,show(1152921504606846976:Int)≤n by omega,e8,Zk];exact hr he
  refine Ad mixed AM.eq_1 ?_;by_cases h57:dg[i].toNat≤57
  ·have h48:48≤dg[i].toNat∧d=dg[i].toNat-48:=by
    unfold BN at hx;split at hx
    ·cases hx;omega
    ·split at hx
     ·omega
     ·cases hx
   have ed:IntKind.u8.wrap ((dg[i].toNat:Int)-48)=d:=by
    have:(dg[i].toNat:Int)-48=d:=by omega
    rw[this];have:∀ d:Nat,d<16→IntKind.u8.wrap (d:Int)=d:=by decide
    exact this d hd16
   simp[hlt,h95,show(48:Int)≤dg[i].toNat by omega,show(dg[i].toNat:Int)≤57 by omega,ed];exact k1
  ·obtain⟨b1,b2,b3,b4⟩:=ZS hx h57;rw[b1] at hc;have ed:IntKind.u8.wrap (IntKind.u8.wrap ((dg[i].toNat:Int)-97)+10)=d:=by
    have:∀ n:Nat,n<6→IntKind.u8.wrap (IntKind.u8.wrap (((97+n:Nat):Int)-97)+10)=((10+n:Nat):Int):=by decide
    have:=this (dg[i].toNat-97) (by omega);rw[show 97+(dg[i].toNat-97)=dg[i].toNat by omega] at this;rw[this];omega
   simp[hlt,h95,show(48:Int)≤dg[i].toNat by omega,show ¬ (dg[i].toNat:Int)≤57 by omega];refine Af hc rfl ?_;simp[show(97:Int)≤dg[i].toNat by omega];refine BK (q:=true) rfl (fun _=>hc) (fun _=>rfl) rfl ?_;simp[show(dg[i].toNat:Int)≤122 by omega];refine Af hc rfl ?_;simp[ed];exact k1
def puA (dg:List UInt8):A:=if dg=[] then .tup [uv 0,.ifc 173 (iv 2)] else match HX 0 dg with
 |some m=>.tup [uv m,.v .nilIface]
 |none=>.tup [uv 18446744073709551615,.ifc 173 (iv 1)]
set_option maxHeartbeats 1000000 in
theorem ZR (dg:List UInt8) (hl:dg.length≤1000000000) (hd:∀ c,c ∈ dg→∃ d,BN c=some d):G.Spec Tryz.prog 140 [S dg,iv 16,iv 64] (puA dg):=by
 refine Ap Gh (by simp) fun w0 I0=>?_;unfold DA puA;by_cases h0:dg=[]
 ·subst h0;simp[Wc,Zk];exact BL ⟨Ab rfl,MD,trivial⟩
 ·rw[if_neg h0];simp[Wc,h0];rw[De.eq_1];simp;rw[Dd.eq_1];simp;rw[Df.eq_1];simp;refine⟨by decide,?_⟩;have e11:u64.wrap (u64.wrap (2 ^ min (u64.wrap 64).toNat u64.bits)-1)=18446744073709551615:=by decide
  refine LoopC.le (Be [(1,iv 16),(8,bv false),(9,S dg),(10,uv 1152921504606846976),(11,uv 18446744073709551615),(12,bv false),(13,uv (0:Nat)),(99,.sl false (dg.map IL)),(100,iv dg.length),(101,iv (0:Nat))] (by simp[e11])) ?_;refine yJ hl hd (fun m hm=>?_) (fun hm=>?_) dg.length 0 0 (by omega) (by omega) rfl
  ·rw[hm];simp;refine BK (L:=[]) (x:=bv false) (q:=false) rfl (fun h=>by cases h) (fun h=>by cases h) rfl ?_;simp;exact Ab rfl
  ·rw[hm];simp;exact BL ⟨Ab rfl,MD,trivial⟩
def og (dg:List UInt8):A:=if dg=[] then .tup [uv 0,.ifc 176 .any] else match HX 0 dg with
 |some m=>.tup [uv m,.v .nilIface]
 |none=>.tup [uv 18446744073709551615,.ifc 176 .any]
theorem Vq {H:Hp} {t:TypeId}:Jw H (.ifc t .any) (.ifc t .any):=fun c w I μ v hs hr=>by
 cases hr with
 |ifc _ _ _ y hy=>exact .ifc _ _ _ _ (.any _ _)
theorem kz (dg:List UInt8) (hl:dg.length≤1000000000) (hd:∀ c,c ∈ dg→∃ d,BN c=some d):G.Spec Tryz.prog 209 [S dg,iv 16,iv 64] (og dg):=by
 have h:=ZR dg hl hd;refine Ap KF (by simp) fun w0 I0=>?_;unfold Gm og;unfold puA at h;by_cases h0:dg=[]
 ·rw[if_pos h0] at h ⊢;simp;refine Af h rfl ?_;simp;refine JT [S [80,97,114,115,101,85,105,110,116],S dg,iv 16,iv 64,.ifc 173 (iv 2)] (RU (P9 2 (by decide) _ dg (by omega))) ?_ (by simp) ?_
  ·simp;exact⟨Ab rfl,Ab rfl,Ab rfl,Ab rfl,MD⟩
  ·simp;exact BL ⟨Ab rfl,Vq,trivial⟩
 ·rw[if_neg h0] at h ⊢;cases e:HX 0 dg with
  |some m=>
   rw[e] at h;simp;refine Af h rfl ?_;simp;exact Ab rfl
  |none=>
   rw[e] at h;simp;refine Af h rfl ?_;simp;refine JT [S [80,97,114,115,101,85,105,110,116],S dg,iv 16,iv 64,.ifc 173 (iv 1)] (RU (P9 1 (by decide) _ dg (by omega))) ?_ (by simp) ?_
   ·simp;exact⟨Ab rfl,Ab rfl,Ab rfl,Ab rfl,MD⟩
   ·simp;exact BL ⟨Ab rfl,Vq,trivial⟩
end Go.Proofs.YtgkdikddjfgajaaGreatDoor
namespace Go.Proofs.YtgkdikddjfgajaaGreatDoor
open Go Go.G Go.Proofs Go.PL
def Jv {α:Type} (f:α→A) (s:List UInt8) (k:Nat) (o:Option (α × Nat)):Option ((Nat→A) × Fam):=o.map fun q=>(fun _=>f q.1,CF s (k+q.2))
theorem FV {α:Type} {f:α→A} (hf:∀ x,DV (fun _=>f x)) {s:List UInt8} {k:Nat} {o:Option (α × Nat)}:∀ q,Jv f s k o=some q→DV q.1:=fun q h=>by
 unfold Jv at h;cases o with
 |none=>cases h
 |some x=>cases h;exact hf _
@[simp] theorem tc {α:Type} {f:α→A} {s:List UInt8} {k:Nat}:Jv f s k none=none:=rfl
@[simp] theorem th {α:Type} {f:α→A} {s:List UInt8} {k:Nat} {q:α × Nat}:Jv f s k (some q)=some (fun _=>f q.1,CF s (k+q.2)):=rfl
theorem FB (n:Nat) (hn:n<18446744073709551616):G.Spec Tryz.prog 68 [uv n] (S (Az n)):=by
 refine Ap U7 (by simp) fun w0 I0=>?_;unfold N3;simp;refine Af (IB n hn) rfl ?_;simp;exact Ab rfl
theorem YP {s:List UInt8} {k:Nat} (hk:k≤s.length):(∃ d,BN (Ej (s.drop k))=some d∧k<s.length∧RJ (s.drop k)=Ej (s.drop k)::RJ (s.drop (k+1)))∨(BN (Ej (s.drop k))=none∧RJ (s.drop k)=[]):=by
 by_cases h:k=s.length
 ·right;subst h;rw[MP,List.drop_length];exact⟨by decide,rfl⟩
 ·have hlt:k<s.length:=by omega
  rw[QX hlt,GX hlt];cases hx:BN s[k] with
  |none=>
   right;exact⟨rfl,List.takeWhile_cons_of_neg (p:=fun c=>(BN c).isSome) (by rw[hx];simp)⟩
  |some d=>
   left;exact⟨d,rfl,hlt,List.takeWhile_cons_of_pos (p:=fun c=>(BN c).isSome) (by rw[hx];rfl)⟩
variable {φ:Prop} {n0:Nat} {w0:World} {I0:Nat→Prop} {M0:Nm→Nat→Prop} {m0:Mu} {Q:Exit→Sta→Prop}
theorem lH {s:List UInt8} (hs:s.length≤1000000000) {k0:Nat} {y:A}:∀ (l:List UInt8) (k:Nat) (H:Hp),RJ (s.drop k)=l→k≤s.length→(∀ p,H (0::p)=(CF s k).F 0 p) →
  (∀ (H':Hp),(∀ p,H' (0::p)=(CF s (k+l.length)).F 0 p)→Q (.exit 0) ⟨lk [(0,pp 0),(1,y),(5,iv k0),(16,bv false)],H'⟩) →
  LoopC (OM Mx φ Tryz.prog w0 I0 M0 n0 m0) Ex Q ⟨lk [(0,pp 0),(1,y),(5,iv k0)],H⟩:=by
 intro l;induction l with
 |nil=>
  intro k H hl hk hH hq;have hn:=Di s k hk;refine Ad mixed Ex.eq_1 ?_;simp;refine Ai 0 hn hH (by simp) (by simp) ?_;rcases YP hk with ⟨d,h1,h2,h3⟩ | ⟨h1,h2⟩
  ·rw[hl] at h3;cases h3
  ·have hi:=Jy [48,49,50,51,52,53,54,55,56,57,97,98,99,100,101,102] (Ej (s.drop k));rw[Qd,h1] at hi;simp;refine Af hi rfl ?_;simp;exact hq _ (fun p=>by simp)
 |cons c l ih=>
  intro k H hl hk hH hq;have hn:=Di s k hk;refine Ad mixed Ex.eq_1 ?_;simp;refine Ai 0 hn hH (by simp) (by simp) ?_;rcases YP hk with ⟨d,h1,h2,h3⟩ | ⟨h1,h2⟩
  ·have hi:=Jy [48,49,50,51,52,53,54,55,56,57,97,98,99,100,101,102] (Ej (s.drop k));rw[Qd,h1] at hi;rw[hl] at h3;have e1:=B0 k;simp;refine Af hi rfl ?_;simp[e1,show(0:Int)≤d by omega];refine ih (k+1) _ (List.cons.inj h3).2.symm (by omega) (fun p=>by by_cases hp:p=[]<;>simp[hp,Aa]) (fun H' g=>?_);exact hq H' (by rw[List.length_cons,show k+(l.length+1)=k+1+l.length by omega];exact g)
  ·rw[hl] at h2;cases h2
theorem Iv {s:List UInt8} (hs:s.length≤1000000000) (k most:Nat) (hk:k≤s.length) (hm:most<18446744073709551616):NL Mx Tryz.prog 170 (fun r=>[pp r,uv most]) (CF s k) (Jv (fun n:Nat=>uv n) s k (Dr most (s.drop k))):=by
 refine MC Q0 (by simp) (Ag AJ (Ag AO Al)) (FV fun _=>AO) fun w0 I0 M0 m0=>?_;have hle:=eF (s.drop k);rw[List.length_drop] at hle;have htk:=Wf (s.drop k);have hpu:=kz (RJ (s.drop k)) (by omega) Y8;unfold J1;simp;refine LoopC.le (Be [(0,pp 0),(1,uv most),(5,iv k)] (by simp)) ?_;refine lH hs (RJ (s.drop k)) k _ rfl hk (fun p=>by simp) (fun H' g=>?_);unfold Dr;obtain⟨dg,hdg⟩:∃ dg,dg=RJ (s.drop k):=⟨_,rfl⟩;rw[← hdg] at hle htk hpu g ⊢;have c1:(0≤(k:Int)+dg.length∧(k:Int)+dg.length≤s.length)=True:=eq_true (by omega);have c2:((k:Int)+dg.length).toNat=k+dg.length:=by omega
 have c3:List.take (k+dg.length-k) (List.drop k s)=dg:=by rw[Nat.add_sub_cancel_left];exact htk
 unfold og at hpu;simp[g,c1,c2,htk,show(k:Int)≤(k:Int)+dg.length by omega];refine Af hpu rfl ?_;by_cases h0:dg=[]
 ·rw[if_pos h0,if_pos h0];simp;refine Bz (L:=[]) (x:=S []) (q:=true) rfl (fun h=>by cases h) (fun h=>by cases h) rfl ?_;simp;refine AE (.tup []) 0 (C0 (CF s (k+dg.length))) ⟨rfl,by simp⟩ (fun p=>by simp[g]) (by simp) (by simp) ?_;simp;exact Au (AF 0 (by simp[AV]))
 ·rw[if_neg h0,if_neg h0];cases hp:HX 0 dg with
  |none=>
   simp;refine Bz (L:=[]) (x:=S []) (q:=true) rfl (fun h=>by cases h) (fun h=>by cases h) rfl ?_;simp;refine AE (.tup []) 0 (C0 (CF s (k+dg.length))) ⟨rfl,by simp⟩ (fun p=>by simp[g]) (by simp) (by simp) ?_;simp;exact Au (AF 0 (by simp[AV]))
  |some n=>
   have hn:=T7 _ _ _ (by omega) hp;simp;refine Bz (q:=false) rfl (fun _=>FB n hn) (fun _=>rfl) rfl ?_;simp[Vo];by_cases hb:Az n=dg∧n≤most
   ·rw[if_pos hb];refine⟨fun h=>(h.elim (fun h=>h hb.1) (fun h=>by omega)).elim,fun _ _=>?_⟩;refine Ax ?_;simp[HF];exact AK rfl rfl (fun p=>by simp[g])
   ·rw[if_neg hb];refine⟨fun _=>?_,fun h1 h2=>(hb ⟨h1,h2⟩).elim⟩;refine AE (.tup []) 0 (C0 (CF s (k+dg.length))) ⟨rfl,by simp⟩ (fun p=>by simp[g]) (by simp) (by simp) ?_;simp;exact Au (AF 0 (by simp[AV]))
theorem jS {most:Nat} {r:List UInt8} {q:Nat × Nat} (h:Dr most r=some q):q.1≤most∧q.1<18446744073709551616∧q.2≤r.length∧1≤q.2:=by
 obtain⟨n,k⟩:=q;obtain⟨h1,h2,_,h3,h4⟩:=Hm h;exact⟨h1,h2,h3,h4⟩
theorem Kj {s:List UInt8} (hs:s.length≤1000000000) (k:Nat) (hk:k≤s.length):NL Mx Tryz.prog 169 (fun r=>[pp r]) (CF s k) (Jv (fun n:Nat=>iv n) s k (Dr 1048576 (s.drop k))):=by
 refine MC Ro (by simp) (Ag AJ Al) (FV fun _=>AO) fun w0 I0 M0 m0=>?_;have hn:=Iv hs k 1048576 hk (by omega);unfold KY;simp;cases h:Dr 1048576 (s.drop k) with
 |none=>
  rw[h] at hn;refine AE (uv 0) 0 hn ⟨rfl,by simp⟩ (fun p=>by simp) (by simp) (by simp) ?_;simp;exact Au (AF 0 (by simp[AV]))
 |some q=>
  rw[h] at hn;have hq:=jS h;have e:i64.wrap (q.1:Int)=q.1:=Ih;refine Ai 0 hn (fun p=>by simp) (by simp) (by simp) ?_;simp[e];refine Ax ?_;simp[HF];exact AK rfl rfl (fun p=>by simp)
end Go.Proofs.YtgkdikddjfgajaaGreatDoor
namespace Go.Proofs.YtgkdikddjfgajaaGreatDoor
set_option maxRecDepth 10000
open Go Go.G Go.Proofs Go.PL
def dep (o:Int) (c:UInt8):Int:=if c=123∨c=91∨c=40 then o+1 else if c=125∨c=93∨c=41 then o-1 else o
variable {n0:Nat} {w0:World} {I0:Nat→Prop} {Q:Exit→Sta→Prop}
def AN:Nat→List UInt8→Nat × Bool
 |n,[]=>(n,true)
 |n,c::r=>match BN c with
  |some d=>AN (16*n+d) r
  |none=>(0,false)
end Go.Proofs.YtgkdikddjfgajaaGreatDoor
namespace Go.Proofs.YtgkdikddjfgajaaGreatDoor
open Go Go.G Go.Proofs Go.PL
variable {φ:Prop} {n0:Nat} {w0:World} {I0:Nat→Prop} {M0:Nm→Nat→Prop} {m0:Mu} {Q:Exit→Sta→Prop}
set_option maxHeartbeats 4000000 in
theorem iy {s:List UInt8} (hs:s.length≤1000000000) {k0:Nat} {O1:VOb}:∀ (r:List UInt8) (k o:Nat) (H:Hp),s.drop k=r→k≤s.length→o≤k→(∀ p,H (0::p)=(CF s k).F 0 p)→H [1]=O1 →
  (∀ (H':Hp) (x y:A),(∀ p,H' (0::p)=(CF s (k+A8 o r)).F 0 p)→H' [1]=O1→Q (.exit 0) ⟨lk [(0,pp 0),(2,.pob [1] 1 0),(3,iv k0),(4,x),(14,y)],H'⟩) →
  (∀ (H':Hp) (x y:A),(∀ p,H' (0::p)=(CF s (k+A8 o r)).F 0 p)→H' [1]=O1→Q (.exit 0) ⟨lk [(0,pp 0),(2,.pob [1] 1 0),(3,iv k0),(4,x),(38,y)],H'⟩) →
  LoopC (OM Mx φ Tryz.prog w0 I0 M0 n0 m0) FL Q ⟨lk [(0,pp 0),(2,.pob [1] 1 0),(3,iv k0),(4,iv o)],H⟩:=by
 intro r;induction r with
 |nil=>
  intro k o H hr hk ho hH h1 hq hq2;have hke:k=s.length:=by
   have:=congrArg List.length hr;simp at this;omega
  have hn:=Di s k hk;rw[hr] at hn;rw[show Ej ([]:List UInt8)=0 from rfl] at hn;refine Ad mixed FL.eq_1 ?_;simp;refine Ai 0 hn hH (by simp) (by simp) ?_;simp;exact hq _ _ _ (fun p=>by simp[A8]) (by simp[h1])
 |cons c r ih=>
  intro k o H hr hk ho hH h1 hq hq2;have hlt:k<s.length:=by
   have:=congrArg List.length hr;simp at this;omega
  have hx:s[k]=c:=by
   rw[GX hlt] at hr;exact(List.cons.inj hr).1
  have hr':s.drop (k+1)=r:=by
   rw[GX hlt] at hr;exact(List.cons.inj hr).2
  have hn:=Di s k hk;rw[QX hlt,hx] at hn;have e1:=B0 k;refine Ad mixed FL.eq_1 ?_;by_cases c0:c=0
  ·subst c0;simp;refine Ai 0 hn hH (by simp) (by simp) ?_;simp;exact hq _ _ _ (fun p=>by simp[A8]) (by simp[h1])
  by_cases c123:c=123
  ·subst c123;simp;refine Ai 0 hn hH (by simp) (by simp) ?_;simp;refine Ai 0 hn (fun p=>by simp) (by simp) (by simp) ?_;simp[e1];rw[Cz.eq_1];have e2:=B0 o;have e3:A8 o (123::r)=1+A8 (o+1) r:=by rw[A8];simp
   rw[e3] at hq hq2;simp[e2,show ¬ ((o:Int)+1≤0) by omega];refine LoopC.le (Be [(0,pp 0),(2,.pob [1] 1 0),(3,iv k0),(4,iv ((o+1):Nat))] (by simp)) ?_;exact ih (k+1) (o+1) _ hr' (by omega) (by omega) (fun p=>by by_cases hp:p=[]<;>simp[hp,Aa]) (by simp[Aa,h1]) (fun H' x y g=>hq H' x y (fun p=>by rw[← Nat.add_assoc];exact g p)) (fun H' x y g=>hq2 H' x y (fun p=>by rw[← Nat.add_assoc];exact g p))
  by_cases c91:c=91
  ·subst c91;simp;refine Ai 0 hn hH (by simp) (by simp) ?_;simp;refine Ai 0 hn (fun p=>by simp) (by simp) (by simp) ?_;simp[e1];rw[Cz.eq_1];have e2:=B0 o;have e3:A8 o (91::r)=1+A8 (o+1) r:=by rw[A8];simp
   rw[e3] at hq hq2;simp[e2,show ¬ ((o:Int)+1≤0) by omega];refine LoopC.le (Be [(0,pp 0),(2,.pob [1] 1 0),(3,iv k0),(4,iv ((o+1):Nat))] (by simp)) ?_;exact ih (k+1) (o+1) _ hr' (by omega) (by omega) (fun p=>by by_cases hp:p=[]<;>simp[hp,Aa]) (by simp[Aa,h1]) (fun H' x y g=>hq H' x y (fun p=>by rw[← Nat.add_assoc];exact g p)) (fun H' x y g=>hq2 H' x y (fun p=>by rw[← Nat.add_assoc];exact g p))
  by_cases c125:c=125
  ·subst c125;simp;refine Ai 0 hn hH (by simp) (by simp) ?_;simp;refine Ai 0 hn (fun p=>by simp) (by simp) (by simp) ?_;simp[e1];rw[Cz.eq_1];have e2:i64.wrap ((o:Int)-1)=(o:Int)-1:=Ih;have e3:A8 o (125::r)=if o≤1 then 1 else 1+A8 (o-1) r:=by rw[A8];simp
   rw[e3] at hq hq2;by_cases ho1:o≤1
   ·rw[if_pos ho1] at hq hq2;simp[e2,show(o:Int)-1≤0 by omega,show(o:Int)≤1 by omega];exact hq2 _ _ _ (fun p=>by by_cases hp:p=[]<;>simp[hp,Aa]) (by simp[Aa,h1])
   ·rw[if_neg ho1] at hq hq2;simp[e2,show ¬ ((o:Int)-1≤0) by omega,show ¬ ((o:Int)≤1) by omega];have e4:(o:Int)-1=((o-1:Nat):Int):=by omega
    rw[e4];refine LoopC.le (Be [(0,pp 0),(2,.pob [1] 1 0),(3,iv k0),(4,iv ((o-1):Nat))] (by simp)) ?_;exact ih (k+1) (o-1) _ hr' (by omega) (by omega) (fun p=>by by_cases hp:p=[]<;>simp[hp,Aa]) (by simp[Aa,h1]) (fun H' x y g=>hq H' x y (fun p=>by rw[← Nat.add_assoc];exact g p)) (fun H' x y g=>hq2 H' x y (fun p=>by rw[← Nat.add_assoc];exact g p))
  by_cases c93:c=93
  ·subst c93;simp;refine Ai 0 hn hH (by simp) (by simp) ?_;simp;refine Ai 0 hn (fun p=>by simp) (by simp) (by simp) ?_;simp[e1];rw[Cz.eq_1];have e2:i64.wrap ((o:Int)-1)=(o:Int)-1:=Ih;have e3:A8 o (93::r)=if o≤1 then 1 else 1+A8 (o-1) r:=by rw[A8];simp
   rw[e3] at hq hq2;by_cases ho1:o≤1
   ·rw[if_pos ho1] at hq hq2;simp[e2,show(o:Int)-1≤0 by omega,show(o:Int)≤1 by omega];exact hq2 _ _ _ (fun p=>by by_cases hp:p=[]<;>simp[hp,Aa]) (by simp[Aa,h1])
   ·rw[if_neg ho1] at hq hq2;simp[e2,show ¬ ((o:Int)-1≤0) by omega,show ¬ ((o:Int)≤1) by omega];have e4:(o:Int)-1=((o-1:Nat):Int):=by omega
    rw[e4];refine LoopC.le (Be [(0,pp 0),(2,.pob [1] 1 0),(3,iv k0),(4,iv ((o-1):Nat))] (by simp)) ?_;exact ih (k+1) (o-1) _ hr' (by omega) (by omega) (fun p=>by by_cases hp:p=[]<;>simp[hp,Aa]) (by simp[Aa,h1]) (fun H' x y g=>hq H' x y (fun p=>by rw[← Nat.add_assoc];exact g p)) (fun H' x y g=>hq2 H' x y (fun p=>by rw[← Nat.add_assoc];exact g p))
  by_cases c95:c=95
  ·subst c95;simp;refine Ai 0 hn hH (by simp) (by simp) ?_;simp;refine Ai 0 hn (fun p=>by simp) (by simp) (by simp) ?_;simp[e1];rw[Cz.eq_1];have e3:A8 o (95::r)=if o=0 then 1 else 1+A8 o r:=by rw[A8];simp
   rw[e3] at hq hq2;by_cases ho1:o=0
   ·rw[if_pos ho1] at hq hq2;simp[show(o:Int)≤0 by omega,ho1];exact hq2 _ _ _ (fun p=>by by_cases hp:p=[]<;>simp[hp,Aa]) (by simp[Aa,h1])
   ·rw[if_neg ho1] at hq hq2;simp[show ¬ ((o:Int)≤0) by omega,ho1];refine LoopC.le (Be [(0,pp 0),(2,.pob [1] 1 0),(3,iv k0),(4,iv (o:Nat))] (by simp)) ?_;exact ih (k+1) o _ hr' (by omega) (by omega) (fun p=>by by_cases hp:p=[]<;>simp[hp,Aa]) (by simp[Aa,h1]) (fun H' x y g=>hq H' x y (fun p=>by rw[← Nat.add_assoc];exact g p)) (fun H' x y g=>hq2 H' x y (fun p=>by rw[← Nat.add_assoc];exact g p))
  have ne:∀ v:UInt8,c ≠ v→¬ (c.toNat:Int)=v.toNat∧¬ c.toNat=v.toNat:=fun v h=>⟨fun e=>h (u8_inj.1 e),fun e=>h (UInt8.toNat_inj.1 e)⟩;have f0:=ne 0 c0;have f1:=ne 123 c123;have f2:=ne 91 c91;have f3:=ne 125 c125;have f4:=ne 93 c93;have f5:=ne 95 c95;simp at f0 f1 f2 f3 f4 f5;have e3:A8 o (c::r)=1+A8 o r:=by rw[A8];simp[c0,c123,c91,c125,c93,c95]
  rw[e3] at hq hq2;simp;refine Ai 0 hn hH (by simp) (by simp) ?_;simp[f0,c0];refine Ai 0 hn (fun p=>by simp) (by simp) (by simp) ?_;simp[e1];rw[Cz.eq_1];simp[f1,f2,f3,f4,f5,c123,c91,c125,c93,c95];refine LoopC.le (Be [(0,pp 0),(2,.pob [1] 1 0),(3,iv k0),(4,iv (o:Nat))] (by simp)) ?_;exact ih (k+1) o _ hr' (by omega) (by omega) (fun p=>by by_cases hp:p=[]<;>simp[hp,Aa]) (by simp[Aa,h1]) (fun H' x y g=>hq H' x y (fun p=>by rw[← Nat.add_assoc];exact g p)) (fun H' x y g=>hq2 H' x y (fun p=>by rw[← Nat.add_assoc];exact g p))
theorem ko (t:T):DV (fun _=>tX t):=GN (cs:=[iv t.kind,Gn t.words,DY t.kids]) rfl fun x hx=>by simp at hx;rcases hx with rfl | rfl | rfl<;>rfl
set_option maxHeartbeats 1000000 in
theorem Jb {s:List UInt8} (hs:s.length≤1000000000) (k:Nat) (hk:k≤s.length):NL Mx Tryz.prog 123 (fun r=>[pp r]) (CF s k) (Jv tX s k (Cs (s.drop k))):=by
 refine MC Tr (by simp) (Ag AJ Al) (FV ko) fun w0 I0 M0 m0=>?_;have hle:=PK (s.drop k) 0;rw[List.length_drop] at hle;unfold M4;simp;refine LoopC.le (Be [(0,pp 0),(2,.pob [1] 1 0),(3,iv k),(4,iv (0:Nat))] (by simp)) ?_;have k2:∀ H':Hp,(∀ p,H' (0::p)=(CF s (k+A8 0 (s.drop k))).F 0 p)→H' [1]=⟨1,.cells [iv 0,.sl true [],.sl true []]⟩ →
   WPC (OM Mx (Jv tX s k (Cs (s.drop k))=none) Tryz.prog w0 I0 M0 57 m0) HO (HF (OM Mx (Jv tX s k (Cs (s.drop k))=none) Tryz.prog w0 I0 M0 57 m0) [.cell 2 29] (Jv tX s k (Cs (s.drop k)))) ⟨lk [(0,pp 0),(2,.pob [1] 1 0),(3,iv k)],H'⟩:=fun H' g g1=>by
  unfold Cs;obtain⟨n,hn⟩:∃ n,n=A8 0 (s.drop k):=⟨_,rfl⟩;rw[← hn] at hle g ⊢;have hp:=Lk (s:=(s.drop k).take n) (by simp;omega);have c1:(0≤(k:Int)+n∧(k:Int)+n≤s.length)=True:=eq_true (by omega);have c2:((k:Int)+n).toNat=k+n:=by omega
  rw[HO.eq_1];simp[g,c1,c2,show(k:Int)≤(k:Int)+n by omega];refine Af hp rfl ?_;generalize hT:BX AB ((s.drop k).take n)=T;cases hok:Un AB ((s.drop k).take n) with
  |false=>
   simp;refine AE (.tup []) 0 (C0 (CF s (k+n))) ⟨rfl,by simp⟩ (fun p=>by simp[g,Aa]) (by simp) (by simp) ?_;simp;exact Au (AF 0 (by simp[AV]))
  |true=>
   simp;refine Ax ?_;simp[g1,HF,Aa];exact AK (r0:=tX T) (by simp[FW]) rfl (fun p=>by simp[g,Aa])
 exact iy (O1:=⟨1,.cells [iv 0,.sl true [],.sl true []]⟩) hs (s.drop k) k 0 _ rfl hk (by omega) (fun p=>by simp) (by simp) (fun H' x y g g1=>by simp;exact k2 H' g g1) (fun H' x y g g1=>by simp;exact k2 H' g g1)
def gW (s:List UInt8) (k:Nat) (o:Option Nat):Option ((Nat→A) × Fam):=o.map fun n=>(fun _=>.tup [],CF s (k+n))
theorem Uy {s:List UInt8} {k:Nat} {c:UInt8}:Mg s k c=gW s k (AL c (s.drop k)):=by
 unfold Mg AL gW;split<;>rfl
theorem av {s:List UInt8} {k n:Nat}:Nh s k n=gW s k (B9 n (s.drop k)):=by
 unfold Nh B9;split
 ·rfl
 ·exact Uy
theorem Ff {s:List UInt8} {k:Nat} {c:UInt8} (hk:k≤s.length) (hs:s.length≤1000000000) (hc:c ≠ 0):NL Mx Tryz.prog 124 (fun r=>[pp r,IL c]) (CF s k) (gW s k (AL c (s.drop k))):=by
 rw[← Uy];exact Sy s k c hk hs hc
theorem P4 {s:List UInt8} {k n:Nat} (hk:k≤s.length) (hs:s.length≤1000000000):NL Mx Tryz.prog 168 (fun r=>[pp r,iv n]) (CF s k) (gW s k (B9 n (s.drop k))):=by
 rw[← av];exact XY s k n hk hs
theorem F9 (s:List UInt8) (p:Nat):Iq (s.drop p)=match Dr 1048576 (s.drop p) with
 |none=>none
 |some (a,k1)=>match AL 58 (s.drop (p+k1)) with
  |none=>none
  |some _=>match Dr 255 (s.drop (p+k1+1)) with
   |none=>none
   |some (m,k2)=>match AL 58 (s.drop (p+k1+1+k2)) with
    |none=>none
    |some _=>match Dr 18446744073709551615 (s.drop (p+k1+1+k2+1)) with
     |none=>none
     |some (o,k3)=>match AL 58 (s.drop (p+k1+1+k2+1+k3)) with
      |none=>none
      |some _=>match Dr 18446744073709551615 (s.drop (p+k1+1+k2+1+k3+1)) with
       |none=>none
       |some (w,k4)=>some (⟨a,m,o,w⟩,k1+1+k2+1+k3+1+k4):=by
 unfold Iq;simp only[List.drop_drop,Nat.add_assoc]<;>rfl
theorem DI (s:List UInt8) (f n k:Nat):BZ (f+1) n (s.drop k)=if Ej (s.drop k)=124 then some ([],0) else match B9 n (s.drop k) with
  |none=>none
  |some k0=>match Iq (s.drop (k+k0)) with
   |none=>none
   |some (w,k1)=>match BZ f (n+1) (s.drop (k+k0+k1)) with
    |none=>none
    |some (ws,k2)=>some (w::ws,k0+k1+k2):=by
 rw[BZ];simp only[List.drop_drop,Nat.add_assoc]<;>rfl
def sE (W K:A):List A:=[iv 2,iv 0,.sl true [],.sl true [],iv 0,.sl true [],.sl true [],W,K,iv 0,.sl true []]
set_option maxHeartbeats 8000000 in
theorem pd {s:List UInt8} (hs:s.length≤1000000000) {a1:A} {O1:VOb} {K:A}:∀ (f k v:Nat) (acc:List WE) (H:Hp),k≤s.length→s.length-k<f→acc.length≤k→(∀ p,H (0::p)=(CF s k).F 0 p)→H [1]=O1→H [2]=⟨1,.cells (sE (.osl [4] v 4 0 acc.length) K)⟩→H [4]=⟨v,.arr 4 (acc.map wX)⟩ →
  (BZ f acc.length (s.drop k)=none→φ) →
  (∀ (ws:List WE) (n:Nat),BZ f acc.length (s.drop k)=some (ws,n)→∀ (H':Hp) (v':Nat),(∀ p,H' (0::p)=(CF s (k+n)).F 0 p)→H' [1]=O1→H' [2]=⟨1,.cells (sE (.osl [4] v' 4 0 (acc++ws).length) K)⟩→H' [4]=⟨v',.arr 4 ((acc++ws).map wX)⟩ →
   Q (.exit 0) ⟨lk [(0,pp 0),(1,a1),(4,.pob [1] 1 0),(5,.pob [2] 1 0),(13,bv false)],H'⟩) →
  LoopC (OM Mx φ Tryz.prog w0 I0 M0 n0 m0) EG Q ⟨lk [(0,pp 0),(1,a1),(4,.pob [1] 1 0),(5,.pob [2] 1 0)],H⟩:=by
 intro f;induction f with
 |zero=>intro k v acc H hk hf;omega
 |succ f ih=>
  intro k v acc H hk hf hac hH h1 h2 h4 hφ hq;have hn:=Di s k hk;refine Ad mixed EG.eq_1 ?_;simp;refine Ai 0 hn hH (by simp) (by simp) ?_;by_cases hx:Ej (s.drop k)=124
  ·rw[hx];simp;exact hq [] 0 (by unfold BZ;rw[if_pos hx]) _ v (fun p=>by simp) (by simp[h1]) (by simp[h2]) (by simp[h4])
  ·have hx1:¬ ((Ej (s.drop k)).toNat:Int)=124:=fun e=>hx ((u8_inj (b:=124)).1 e);have hx2:¬ (Ej (s.drop k)).toNat=124:=fun e=>hx1 (by omega);simp[hx1,hx2,hx];have t0:=P4 (n:=acc.length) hk hs;have hdl:(s.drop k).length=s.length-k:=by simp
   simp[h2,sE];cases e0:B9 acc.length (s.drop k) with
   |none=>
    rw[e0] at t0;refine AE (.tup []) 0 t0 ⟨rfl,hφ (by rw[DI,if_neg hx,e0])⟩ (fun p=>by simp) (by simp) (by simp) ?_;simp;exact Au (AF 0 (by simp[AV]))
   |some k0=>
    rw[e0] at t0;have b0:=GJ e0;rw[hdl] at b0;refine Ai 0 t0 (fun p=>by simp) (by simp) (by simp) ?_;simp;refine Ax ?_;simp;have t1:=Kj hs (k+k0) (by omega);cases e1:Dr 1048576 (s.drop (k+k0)) with
    |none=>
     rw[e1] at t1;refine AE (iv 0) 0 t1 ⟨rfl,hφ (by rw[DI,if_neg hx,e0];simp only;rw[F9,e1])⟩ (fun p=>by simp) (by simp) (by simp) ?_;simp[Aa];exact Au (AF 0 (by simp[AV]))
    |some q1=>
     obtain⟨a,k1⟩:=q1;rw[e1] at t1;have b1:=E7 e1;simp only[List.length_drop] at b1;refine Ai 0 t1 (fun p=>by simp[Aa]) (by simp) (by simp) ?_;simp[Aa];refine Ax ?_;simp;have t2:=Ff (s:=s) (k:=k+k0+k1) (c:=58) (by omega) hs (by decide);cases e2:AL 58 (s.drop (k+k0+k1)) with
     |none=>
      rw[e2] at t2;refine AE (.tup []) 0 t2 ⟨rfl,hφ (by rw[DI,if_neg hx,e0];simp only;rw[F9,e1];simp only;rw[e2])⟩ (fun p=>by simp) (by simp) (by simp) ?_;simp[Aa];exact Au (AF 0 (by simp[AV]))
     |some n2=>
      rw[e2] at t2;obtain⟨rfl,b2⟩:=Bv e2;simp only[List.length_drop] at b2;refine Ai 0 t2 (fun p=>by simp[Aa]) (by simp) (by simp) ?_;simp[Aa];refine Ax ?_;simp;have t3:=Iv hs (k+k0+k1+1) 255 (by omega) (by omega);cases e3:Dr 255 (s.drop (k+k0+k1+1)) with
      |none=>
       rw[e3] at t3;refine AE (uv 0) 0 t3 ⟨rfl,hφ (by rw[DI,if_neg hx,e0];simp only;rw[F9,e1];simp only;rw[e2];simp only;rw[e3])⟩ (fun p=>by simp) (by simp) (by simp) ?_;simp[Aa];exact Au (AF 0 (by simp[AV]))
      |some q3=>
       obtain⟨m,k2⟩:=q3;rw[e3] at t3;have b3:=E7 e3;simp only[List.length_drop] at b3;refine Ai 0 t3 (fun p=>by simp[Aa]) (by simp) (by simp) ?_;simp[Aa];refine Ax ?_;simp;have t4:=Ff (s:=s) (k:=k+k0+k1+1+k2) (c:=58) (by omega) hs (by decide);cases e4:AL 58 (s.drop (k+k0+k1+1+k2)) with
       |none=>
        rw[e4] at t4;refine AE (.tup []) 0 t4 ⟨rfl,hφ (by rw[DI,if_neg hx,e0];simp only;rw[F9,e1];simp only;rw[e2];simp only;rw[e3];simp only;rw[e4])⟩ (fun p=>by simp) (by simp) (by simp) ?_;simp[Aa];exact Au (AF 0 (by simp[AV]))
       |some n4=>
        rw[e4] at t4;obtain⟨rfl,b4⟩:=Bv e4;simp only[List.length_drop] at b4;refine Ai 0 t4 (fun p=>by simp[Aa]) (by simp) (by simp) ?_;simp[Aa];refine Ax ?_;simp;have t5:=Iv hs (k+k0+k1+1+k2+1) 18446744073709551615 (by omega) (by omega);cases e5:Dr 18446744073709551615 (s.drop (k+k0+k1+1+k2+1)) with
        |none=>
         rw[e5] at t5;refine AE (uv 0) 0 t5 ⟨rfl,hφ (by rw[DI,if_neg hx,e0];simp only;rw[F9,e1];simp only;rw[e2];simp only;rw[e3];simp only;rw[e4];simp only;rw[e5])⟩ (fun p=>by simp) (by simp) (by simp) ?_;simp[Aa];exact Au (AF 0 (by simp[AV]))
        |some q5=>
         obtain⟨o,k3⟩:=q5;rw[e5] at t5;have b5:=E7 e5;simp only[List.length_drop] at b5;refine Ai 0 t5 (fun p=>by simp[Aa]) (by simp) (by simp) ?_;simp[Aa];refine Ax ?_;simp;have t6:=Ff (s:=s) (k:=k+k0+k1+1+k2+1+k3) (c:=58) (by omega) hs (by decide);cases e6:AL 58 (s.drop (k+k0+k1+1+k2+1+k3)) with
         |none=>
          rw[e6] at t6;refine AE (.tup []) 0 t6 ⟨rfl,hφ (by rw[DI,if_neg hx,e0];simp only;rw[F9,e1];simp only;rw[e2];simp only;rw[e3];simp only;rw[e4];simp only;rw[e5];simp only;rw[e6])⟩ (fun p=>by simp) (by simp) (by simp) ?_;simp[Aa];exact Au (AF 0 (by simp[AV]))
         |some n6=>
          rw[e6] at t6;obtain⟨rfl,b6⟩:=Bv e6;simp only[List.length_drop] at b6;refine Ai 0 t6 (fun p=>by simp[Aa]) (by simp) (by simp) ?_;simp[Aa];refine Ax ?_;simp;have t7:=Iv hs (k+k0+k1+1+k2+1+k3+1) 18446744073709551615 (by omega) (by omega);cases e7:Dr 18446744073709551615 (s.drop (k+k0+k1+1+k2+1+k3+1)) with
          |none=>
           rw[e7] at t7;refine AE (uv 0) 0 t7 ⟨rfl,hφ (by rw[DI,if_neg hx,e0];simp only;rw[F9,e1];simp only;rw[e2];simp only;rw[e3];simp only;rw[e4];simp only;rw[e5];simp only;rw[e6];simp only;rw[e7])⟩ (fun p=>by simp) (by simp) (by simp) ?_;simp[Aa];exact Au (AF 0 (by simp[AV]))
          |some q7=>
           obtain⟨w,k4⟩:=q7;rw[e7] at t7;have b7:=E7 e7;simp only[List.length_drop] at b7;refine Ai 0 t7 (fun p=>by simp[Aa]) (by simp) (by simp) ?_;simp[Aa];refine Ax ?_;simp;have hw:Iq (s.drop (k+k0))=some (⟨a,m,o,w⟩,k1+1+k2+1+k3+1+k4):=by rw[F9,e1];simp only;rw[e2];simp only;rw[e3];simp only;rw[e4];simp only;rw[e5];simp only;rw[e6];simp only;rw[e7]
           obtain⟨w1,w2,_⟩:=Vu hw;simp only[List.length_drop] at w2;have e9:IntKind.u8.wrap (m:Int)=m:=kk (by omega) (by omega);simp[Aa,h2,h4,sE,splice,e9];refine⟨by omega,?_⟩;have ew:∀ ws n,BZ f (acc++[(⟨a,m,o,w⟩:WE)]).length (s.drop (k+k0+k1+1+k2+1+k3+1+k4))=some (ws,n)→BZ (f+1) acc.length (s.drop k)=some (⟨a,m,o,w⟩::ws,k0+(k1+1+k2+1+k3+1+k4)+n):=fun ws n h=>by
            rw[DI,if_neg hx,e0];simp only;rw[hw];simp only;rw[show k+k0+(k1+1+k2+1+k3+1+k4)=k+k0+k1+1+k2+1+k3+1+k4 by omega];rw[List.length_append,List.length_singleton] at h;rw[h]
           have ew2:BZ f (acc++[(⟨a,m,o,w⟩:WE)]).length (s.drop (k+k0+k1+1+k2+1+k3+1+k4))=none→BZ (f+1) acc.length (s.drop k)=none:=fun h=>by
            rw[DI,if_neg hx,e0];simp only;rw[hw];simp only;rw[show k+k0+(k1+1+k2+1+k3+1+k4)=k+k0+k1+1+k2+1+k3+1+k4 by omega];rw[List.length_append,List.length_singleton] at h;rw[h]
           refine ih (k+k0+k1+1+k2+1+k3+1+k4) (v+1) (acc++[⟨a,m,o,w⟩]) _ (by omega) (by omega) (by simp;omega) (fun p=>by simp) (by simp[Aa,h1]) (by simp[Aa,sE]) (by simp[Aa,DE]) (fun hN=>hφ (ew2 hN)) (fun ws n h H' v' g0 g1 g2 g4=>?_);refine hq (⟨a,m,o,w⟩::ws) _ (ew ws n h) H' v' (fun p=>?_) g1 ?_ ?_
           ·rw[g0];congr 2;omega
           ·rw[g2];simp
           ·rw[g4];simp
theorem Pa (ed:List UInt8→Option (E × Nat)) (s:List UInt8) (p:Nat):Ni ed (s.drop p)=match Dr 1048576 (s.drop p) with
 |none=>none
 |some (a,k1)=>match AL 58 (s.drop (p+k1)) with
  |none=>none
  |some _=>match ed (s.drop (p+k1+1)) with
   |none=>none
   |some (e,k2)=>some (.mk a e,k1+1+k2):=by
 unfold Ni;simp only[List.drop_drop,Nat.add_assoc]<;>rfl
theorem Il (ed:List UInt8→Option (E × Nat)) (s:List UInt8) (f n k:Nat):Dc ed (f+1) n (s.drop k)=if Ej (s.drop k)=125 then some ([],0) else match B9 n (s.drop k) with
  |none=>none
  |some k0=>match Ni ed (s.drop (k+k0)) with
   |none=>none
   |some (w,k1)=>match Dc ed f (n+1) (s.drop (k+k0+k1)) with
    |none=>none
    |some (ws,k2)=>some (w::ws,k0+k1+k2):=by
 rw[Dc];simp only[List.drop_drop,Nat.add_assoc]<;>rfl
theorem Pd (e:E):DV (fun _=>eX e):=GN (cs:=eL e) rfl fun x hx=>by simp at hx;rcases hx with rfl | rfl | rfl | rfl | rfl | rfl | rfl | rfl | rfl | rfl | rfl<;>rfl
def s9 (d:Nat) (s:List UInt8):Prop:=∀ k,k≤s.length→NL Mx Tryz.prog 90 (fun r=>[pp r,iv d]) (CF s k) (Jv eX s k (Bd d (s.drop k)))
set_option maxHeartbeats 8000000 in
theorem px {s:List UInt8} (hs:s.length≤1000000000) {d:Nat} (hd:d≤1000) (hT:s9 d s) {O1 O4:VOb} {W:A}:∀ (f k v:Nat) (acc:List KE) (H:Hp),k≤s.length→s.length-k<f→acc.length≤k→(∀ p,H (0::p)=(CF s k).F 0 p)→H [1]=O1→H [2]=⟨1,.cells (sE W (.osl [6] v 12 0 acc.length))⟩→H [4]=O4→H [6]=⟨v,.arr 12 (acc.map kX)⟩ →
  (Dc (Bd d) f acc.length (s.drop k)=none→φ) →
  (∀ (ws:List KE) (n:Nat),Dc (Bd d) f acc.length (s.drop k)=some (ws,n)→∀ (H':Hp) (v':Nat),(∀ p,H' (0::p)=(CF s (k+n)).F 0 p)→H' [1]=O1→H' [2]=⟨1,.cells (sE W (.osl [6] v' 12 0 (acc++ws).length))⟩→H' [4]=O4→H' [6]=⟨v',.arr 12 ((acc++ws).map kX)⟩ →
   Q (.exit 2) ⟨lk [(0,pp 0),(1,iv (d+1:Nat)),(4,.pob [1] 1 0),(5,.pob [2] 1 0),(48,bv false)],H'⟩) →
  LoopC (OM Mx φ Tryz.prog w0 I0 M0 n0 m0) EB Q ⟨lk [(0,pp 0),(1,iv (d+1:Nat)),(4,.pob [1] 1 0),(5,.pob [2] 1 0)],H⟩:=by
 have ed1:i64.wrap ((d:Int)+1-1)=(d:Int):=H9;simp only[Int.add_sub_cancel] at ed1;intro f;induction f with
 |zero=>intro k v acc H hk hf;omega
 |succ f ih=>
  intro k v acc H hk hf hac hH h1 h2 h4 h6 hφ hq;have hn:=Di s k hk;refine Ad mixed EB.eq_1 ?_;simp;refine Ai 0 hn hH (by simp) (by simp) ?_;by_cases hx:Ej (s.drop k)=125
  ·rw[hx];simp;exact hq [] 0 (by unfold Dc;rw[if_pos hx]) _ v (fun p=>by simp) (by simp[h1]) (by simp[h2]) (by simp[h4]) (by simp[h6])
  ·have hx1:¬ ((Ej (s.drop k)).toNat:Int)=125:=fun e=>hx ((u8_inj (b:=125)).1 e);have hx2:¬ (Ej (s.drop k)).toNat=125:=fun e=>hx1 (by omega);simp[hx1,hx2,hx];have t0:=P4 (n:=acc.length) hk hs;have hdl:(s.drop k).length=s.length-k:=by simp
   simp[h2,sE];cases e0:B9 acc.length (s.drop k) with
   |none=>
    rw[e0] at t0;refine AE (.tup []) 0 t0 ⟨rfl,hφ (by rw[Il,if_neg hx,e0])⟩ (fun p=>by simp) (by simp) (by simp) ?_;simp;exact Au (AF 0 (by simp[AV]))
   |some k0=>
    rw[e0] at t0;have b0:=GJ e0;rw[hdl] at b0;refine Ai 0 t0 (fun p=>by simp) (by simp) (by simp) ?_;simp;refine Ax ?_;simp;have t1:=Kj hs (k+k0) (by omega);cases e1:Dr 1048576 (s.drop (k+k0)) with
    |none=>
     rw[e1] at t1;refine AE (iv 0) 0 t1 ⟨rfl,hφ (by rw[Il,if_neg hx,e0];simp only;rw[Pa,e1])⟩ (fun p=>by simp) (by simp) (by simp) ?_;simp[Aa];exact Au (AF 0 (by simp[AV]))
    |some q1=>
     obtain⟨a,k1⟩:=q1;rw[e1] at t1;have b1:=E7 e1;simp only[List.length_drop] at b1;refine Ai 0 t1 (fun p=>by simp[Aa]) (by simp) (by simp) ?_;simp[Aa];refine Ax ?_;simp;have t2:=Ff (s:=s) (k:=k+k0+k1) (c:=58) (by omega) hs (by decide);cases e2:AL 58 (s.drop (k+k0+k1)) with
     |none=>
      rw[e2] at t2;refine AE (.tup []) 0 t2 ⟨rfl,hφ (by rw[Il,if_neg hx,e0];simp only;rw[Pa,e1];simp only;rw[e2])⟩ (fun p=>by simp) (by simp) (by simp) ?_;simp[Aa];exact Au (AF 0 (by simp[AV]))
     |some n2=>
      rw[e2] at t2;obtain⟨rfl,b2⟩:=Bv e2;simp only[List.length_drop] at b2;refine Ai 0 t2 (fun p=>by simp[Aa]) (by simp) (by simp) ?_;simp[Aa];refine Ax ?_;simp[ed1];have t3:=hT (k+k0+k1+1) (by omega);cases e3:Bd d (s.drop (k+k0+k1+1)) with
      |none=>
       rw[e3] at t3;refine AE (eX E0) 0 t3 ⟨rfl,hφ (by rw[Il,if_neg hx,e0];simp only;rw[Pa,e1];simp only;rw[e2];simp only;rw[e3])⟩ (fun p=>by simp) (by simp) (by simp) ?_;simp[Aa];exact Au (AF 0 (by simp[AV]))
      |some q3=>
       obtain⟨e,k2⟩:=q3;rw[e3] at t3;have b3:=Kh _ _ _ e3;simp only[List.length_drop] at b3;refine Ai 0 t3 (fun p=>by simp[Aa]) (by simp) (by simp) ?_;simp[Aa];refine Ax ?_;simp;have hw:Ni (Bd d) (s.drop (k+k0))=some (.mk a e,k1+1+k2):=by rw[Pa,e1];simp only;rw[e2];simp only;rw[e3]
       simp[Aa,h2,h6,sE,splice];refine⟨by omega,?_⟩;have ew:∀ ws n,Dc (Bd d) f (acc++[KE.mk a e]).length (s.drop (k+k0+k1+1+k2))=some (ws,n)→Dc (Bd d) (f+1) acc.length (s.drop k)=some (KE.mk a e::ws,k0+(k1+1+k2)+n):=fun ws n h=>by
        rw[Il,if_neg hx,e0];simp only;rw[hw];simp only;rw[show k+k0+(k1+1+k2)=k+k0+k1+1+k2 by omega];rw[List.length_append,List.length_singleton] at h;rw[h]
       have ew2:Dc (Bd d) f (acc++[KE.mk a e]).length (s.drop (k+k0+k1+1+k2))=none→Dc (Bd d) (f+1) acc.length (s.drop k)=none:=fun h=>by
        rw[Il,if_neg hx,e0];simp only;rw[hw];simp only;rw[show k+k0+(k1+1+k2)=k+k0+k1+1+k2 by omega];rw[List.length_append,List.length_singleton] at h;rw[h]
       refine ih (k+k0+k1+1+k2) (v+1) (acc++[KE.mk a e]) _ (by omega) (by omega) (by simp;omega) (fun p=>by simp) (by simp[Aa,h1]) (by simp[Aa,sE]) (by simp[Aa,h4]) (by simp[Aa,DE]) (fun hN=>hφ (ew2 hN)) (fun ws n h H' v' g0 g1 g2 g4 g6=>?_);refine hq (KE.mk a e::ws) _ (ew ws n h) H' v' (fun p=>?_) g1 ?_ g4 ?_
       ·rw[g0];congr 2;omega
       ·rw[g2];simp
       ·rw[g6];simp
end Go.Proofs.YtgkdikddjfgajaaGreatDoor
namespace Go.Proofs.YtgkdikddjfgajaaGreatDoor
set_option maxRecDepth 10000
open Go Go.G Go.Proofs Go.PL
theorem Kz:∀ (r:List UInt8) (n v:Nat),1≤n→AN n r=(v,true)→Az v=Az n++r
 |[],n,v,hn,h=>by rw[AN] at h;cases h;simp
 |c::r,n,v,hn,h=>by
  rw[AN] at h;cases hv:BN c with
  |none=>rw[hv] at h;cases h
  |some d=>
   rw[hv] at h;simp only at h;obtain⟨h1,h2⟩:=Ki hv;rw[Kz r _ v (by omega) h,Nat.mul_comm,Tc hn h1,h2];simp
end Go.Proofs.YtgkdikddjfgajaaGreatDoor
namespace Go.Proofs.YtgkdikddjfgajaaGreatDoor
open Go Go.G Go.Proofs Go.PL
def RK (x:List UInt8):Prop:=∀ (o:Nat) (rest:List UInt8),1≤o→A8 o (x++rest)=x.length+A8 o rest
def Jx (c:UInt8):Prop:=c ≠ 0∧c ≠ 123∧c ≠ 91∧c ≠ 125∧c ≠ 93∧c ≠ 95
instance (c:UInt8):Decidable (Jx c):=by unfold Jx;infer_instance
theorem Hf {c:UInt8} (h:Jx c) (o:Nat) (rest:List UInt8):A8 o (c::rest)=1+A8 o rest:=by
 obtain⟨h0,h1,h2,h3,h4,h5⟩:=h;rw[A8,if_neg h0,if_neg (by simp[h1,h2]),if_neg (by simp[h3,h4]),if_neg h5]
theorem OT:∀ {x:List UInt8},(∀ c,c ∈ x→Jx c)→∀ (o:Nat) (rest:List UInt8),A8 o (x++rest)=x.length+A8 o rest
 |[],_,o,rest=>by simp
 |c::x,h,o,rest=>by
  rw[List.cons_append,Hf (h c (by simp)),OT (fun d hd=>h d (by simp[hd])),List.length_cons];omega
theorem aJ {c:UInt8} (h:∃ d,BN c=some d):Jx c:=by
 obtain⟨d,hd⟩:=h;unfold BN at hd;have hn:(48≤c.toNat∧c.toNat≤57)∨(97≤c.toNat∧c.toNat≤102):=by
  split at hd
  ·rename_i h;exact .inl h
  ·split at hd
   ·rename_i h;exact .inr h
   ·cases hd
 have ne:∀ k:UInt8,¬ ((48≤k.toNat∧k.toNat≤57)∨(97≤k.toNat∧k.toNat≤102))→c ≠ k:=fun k hk e=>hk (by rw[← e];exact hn);exact⟨ne 0 (by decide),ne 123 (by decide),ne 91 (by decide),ne 125 (by decide),ne 93 (by decide),ne 95 (by decide)⟩
theorem X1 (n:Nat):∀ c,c ∈ Az n→Jx c:=fun c hc=>aJ (Kb n c hc)
theorem UH (n:Nat):RK (Az n):=fun o rest _=>OT (X1 n) o rest
theorem Ii:∀ {l:List (List UInt8)},(∀ x,x ∈ l→RK x)→RK (Aj l)
 |[],_=>fun o rest _=>by simp
 |[x],h=>by simpa using h x (by simp)
 |x::y::l,h=>fun o rest ho=>by
  have ih:=Ii (l:=y::l) (fun z hz=>h z (by simp[hz]));rw[Aj,List.append_assoc,h x (by simp) o _ ho,List.cons_append,Hf (by decide),ih o rest ho];simp;omega
theorem P8 {k:Int} (h2:2≤k) (h9:k≤9):Jx (Cn k):=by
 have:∀ n:Nat,n<10→2≤n→Jx (letters.getD n 0):=by
  intro n h1 h2
  match n,h1,h2 with
  |2,_,_=>exact(by decide) | 3,_,_=>exact(by decide) | 4,_,_=>exact(by decide) | 5,_,_=>exact(by decide)
  |6,_,_=>exact(by decide) | 7,_,_=>exact(by decide) | 8,_,_=>exact(by decide) | 9,_,_=>exact(by decide)
 exact this k.toNat (by omega) (by omega)
theorem Kt {c:UInt8} (h:c=123∨c=91) (o:Nat) (rest:List UInt8):A8 o (c::rest)=1+A8 (o+1) rest:=by
 rw[A8,if_neg (by rcases h with rfl | rfl<;>decide),if_pos h]
theorem PQ {c:UInt8} (h:c=125∨c=93) {o:Nat} (ho:2≤o) (rest:List UInt8):A8 o (c::rest)=1+A8 (o-1) rest:=by
 rw[A8,if_neg (by rcases h with rfl | rfl<;>decide),if_neg (by rcases h with rfl | rfl<;>decide),if_pos h,if_neg (by omega)]
theorem So {c:UInt8} (h:c=125∨c=93) {o:Nat} (ho:o≤1) (rest:List UInt8):A8 o (c::rest)=1:=by
 rw[A8,if_neg (by rcases h with rfl | rfl<;>decide),if_neg (by rcases h with rfl | rfl<;>decide),if_pos h,if_pos ho]
theorem RS (w:List Int) (l:List T) (h:∀ t,t ∈ l→RK (Am t)):RK (Aj (w.map fun x=>Az x.toNat)++(if l=[] then [] else 124::Aj (l.map Am))):=fun o rest ho=>by
 have p1:RK (Aj (w.map fun x=>Az x.toNat)):=Ii fun x hx=>by
  obtain⟨y,_,rfl⟩:=List.mem_map.1 hx;exact UH _
 have p2:RK (Aj (l.map Am)):=Ii fun x hx=>by
  obtain⟨y,hy,rfl⟩:=List.mem_map.1 hx;exact h y hy
 rw[List.append_assoc,p1 o _ ho,List.length_append];split
 ·simp
 ·rw[List.cons_append,Hf (by decide),p2 o rest ho];simp;omega
theorem S0:∀ t:T,RK (Am t):=by
 refine T.ind fun k w l ih=>?_;intro o rest ho;rw[AY];split
 ·exact UH _ o rest ho
 ·split
  ·have p:=RS w l ih (o+1) (125::rest) (by omega);rw[show ∀ A B:List UInt8,(123::(A++(B++[125])))++rest=123::((A++B)++125::rest) from fun A B=>by simp];rw[Kt (.inl rfl),p,PQ (.inl rfl) (by omega),Nat.add_sub_cancel];simp;omega
  ·split
   ·rename_i hk;have p2:RK (Aj (l.map Am)):=Ii fun x hx=>by
     obtain⟨y,hy,rfl⟩:=List.mem_map.1 hx;exact ih y hy
    rw[show ∀ A:List UInt8,(Cn k::91::(A++[93]))++rest=Cn k::91::(A++93::rest) from fun A=>by simp];rw[Hf (P8 hk.1 hk.2),Kt (.inr rfl),p2 (o+1) _ (by omega),PQ (.inr rfl) (by omega),Nat.add_sub_cancel];simp;omega
   ·rw[List.cons_append,A8,if_neg (by decide),if_neg (by decide),if_neg (by decide),if_pos rfl,if_neg (by omega)];simp
theorem ZO {t:T} (h:¬ (t.kind=10∧t.words.length=1)) (rest:List UInt8):A8 0 (Am t++rest)=(Am t).length:=by
 obtain⟨k,w,l⟩:=t;rw[AY,if_neg (show ¬ (k=10∧w.length=1) from h)];split
 ·have p:=RS w l (fun t _=>S0 t) 1 (125::rest) (by omega);rw[show ∀ A B:List UInt8,(123::(A++(B++[125])))++rest=123::((A++B)++125::rest) from fun A B=>by simp];rw[Kt (.inl rfl),p,So (.inl rfl) (by omega)];simp;omega
 ·split
  ·rename_i hk;have p2:RK (Aj (l.map Am)):=Ii fun x hx=>by
    obtain⟨y,hy,rfl⟩:=List.mem_map.1 hx;exact S0 y
   rw[show ∀ A:List UInt8,(Cn k::91::(A++[93]))++rest=Cn k::91::(A++93::rest) from fun A=>by simp];rw[Hf (P8 hk.1 hk.2),Kt (.inr rfl),p2 1 _ (by omega),So (.inr rfl) (by omega)];simp;omega
  ·rw[List.cons_append,A8,if_neg (by decide),if_neg (by decide),if_neg (by decide),if_pos rfl,if_pos rfl];rfl
theorem PT {t:T} (hp:Cw 64 t) (hr:Ay 64 t=true) (h:¬ (t.kind=10∧t.words.length=1)) (rest:List UInt8):Cs (Am t++rest)=some (t,(Am t).length):=by
 have hs:=ZO h rest;obtain⟨h1,h2⟩:=R4 JS hp hr;unfold Cs;rw[hs,List.take_left];rw[if_pos h1,h2]
def free (c:UInt8):Int→List UInt8→Prop
 |_,[]=>True
 |o,y::x=>¬ (o=0∧y=c)∧free c (dep o y) x
def vE (c:UInt8):Prop:=¬ (c=123∨c=91∨c=40)∧¬ (c=125∨c=93∨c=41)
instance (c:UInt8):Decidable (vE c):=by unfold vE;infer_instance
end Go.Proofs.YtgkdikddjfgajaaGreatDoor
namespace Go.Proofs.YtgkdikddjfgajaaGreatDoor
set_option maxRecDepth 10000
open Go Go.G Go.Proofs Go.PL
def PrE (e:E):Prop:=∀ d,Bp d e=true→Nf e→(CP e).length≤1000000000→G.Spec Tryz.prog 41 [eX e] (S (CP e))
theorem QP:∀ {ws:List WE} {last:Int},BT last ws=true→-1≤last→∀ w,w ∈ ws→0≤w.at_
 |x::ws,last,h,hl,w,hw=>by
  rw[BT,Bool.and_eq_true] at h;have h0:last<x.at_:=by
   have:=h.1;unfold IG at this;simp at this;omega
  rcases List.mem_cons.1 hw with rfl | hw
  ·omega
  ·exact QP h.2 (by omega) w hw
theorem GY {d:Nat}:∀ {ks:List KE} {last:Int},CJ d last ks=true→-1≤last→∀ x,x ∈ ks→0≤x.at_∧Bp d x.e=true
 |y::ks,last,h,hl,x,hx=>by
  rw[Fh,Bool.and_eq_true,Bool.and_eq_true] at h;have h0:last<y.at_:=by
   have:=h.1.1;simp at this;omega
  rcases List.mem_cons.1 hx with rfl | hx
  ·exact⟨by omega,h.1.2⟩
  ·exact GY h.2 (by omega) x hx
theorem EN {d:Nat} {l:Int}:∀ {os:List OP},CH d l os=true→∀ x,x ∈ os→Fa d l x=true
 |y::os,h,x,hx=>by
  rw[M6,Bool.and_eq_true] at h;rcases List.mem_cons.1 hx with rfl | hx
  ·exact h.1
  ·exact EN h.2 x hx
theorem WD {d:Nat} {l:Int} {x:OP} (h:Fa d l x=true) (hk:x.kind=3):Bp d x.e=true:=by
 rw[GS,if_pos hk] at h;simp at h;exact h.2.1.2
theorem MT {d:Nat} {l:Int} {x:OP} (h:Fa d l x=true):0≤x.n∧x.n≤1048576:=by
 rw[GS,Bool.and_eq_true] at h;have h1:=h.1;unfold Lo at h1;split at h1
 ·simp at h1;omega
 ·split at h1
  ·cases h1
  ·omega
theorem GF {d:Nat} {k:Int} {o n:T} {ws:List WE} {ks:List KE} {l:Int} {os:List OP} (h:Bp d (.mk k o n ws ks l os)=true):0≤k∧k≤3∧(k ≠ 1→BT (-1) ws=true∧CJ (d-1) (-1) ks=true∧(k=3→2≤l∧l≤9)∧CH (d-1) l os=true):=by
 rw[Ib] at h;split at h
 ·cases h
 ·rename_i hh;have hh:Gg d k o n ws.length ks.length l os.length=true:=by simpa using hh
  unfold Gg at hh;simp at hh;refine⟨by omega,by omega,fun hk=>?_⟩;rw[if_neg hk] at h;split at h
  ·cases h
  ·rename_i h1;split at h
   ·cases h
   ·rename_i h2;split at h
    ·cases h
    ·rename_i h3;split at h
     ·cases h
     ·rename_i h4;exact⟨by simpa using h1,by simpa using h2,fun e=>by omega,by simpa using h4⟩
theorem Ln {l:Int} {L:List T} (f g:Bool) (hT:CG (.mk l [] L)) (hlen:(Am (.mk l [] L)).length≤70368744177664):G.Spec Tryz.prog 30 [.agg [iv l,.sl f [],.sl g (L.map tA)]] (S (Am (.mk l [] L))):=by
 refine(Iw hT hlen).soft ?_;have:L.map (A.soft ∘ tA)=L.map tA:=List.map_congr_left fun t _=>Zd t;simp[A.softL,A.soft,BC,this]
theorem dY {d:Nat} {l:Int} {x:OP} (hr:Fa d l x=true) (hl:Bm l) (hw:jA x) (he:PrE x.e) (hlen:(A0 l x).length≤1000000000):G.Spec Tryz.prog 69 [iv l,oX x] (S (A0 l x)):=by
 have hn:=MT hr;refine Ap X4 (by simp) fun w0 I0=>?_;unfold QW;unfold A0 at hlen ⊢;have hT:CG (.mk l [] x.l):=⟨hl,by simp,by simp,hw.ll,wfTs_all.2 hw.l⟩;by_cases h1:x.kind=1
 ·rw[if_pos h1] at hlen ⊢;simp at hlen;have hp:=Ln true false hT (by omega);have ha:=BE (l:=[45]) (m:=Am (.mk l [] x.l)) (by simp;omega);simp[h1];refine Af hp rfl ?_;simp[ha];exact Ab rfl
 ·rw[if_neg h1] at hlen ⊢;by_cases h2:x.kind=2
  ·rw[if_pos h2] at hlen ⊢;simp at hlen;have hp:=Ln true false hT (by omega);have ha:=BE (l:=[43]) (m:=Am (.mk l [] x.l)) (by simp;omega);simp[h2];refine Af hp rfl ?_;simp[ha];exact Ab rfl
  ·rw[if_neg h2] at hlen ⊢;by_cases h3:x.kind=3
   ·rw[if_pos h3] at hlen ⊢;simp at hlen;have hp:=he d (WD hr h3) hw.e (by omega);have ha:=BE (l:=[42]) (m:=CP x.e) (by simp;omega);simp[h3];refine Af hp rfl ?_;simp[ha];exact Ab rfl
   ·rw[if_neg h3] at hlen ⊢;simp at hlen;obtain⟨m,hm⟩:∃ m:Nat,x.n.toNat=m:=⟨_,rfl⟩;rw[hm] at hlen ⊢;have hh:=FB m (by omega);have ha:=BE (l:=[107]) (m:=Az m) (by simp;omega);have en:u64.wrap x.n=(m:Int):=by rw[Cr (by omega) (by omega)];omega
    simp[h1,h2,h3,en];refine Af hh rfl ?_;simp[ha];exact Ab rfl
theorem Yn (w:WE):AQ w=Lib.join [Az w.at_.toNat,Az w.mask.toNat,Az w.old.toNat,Az w.new.toNat] [58]:=by
 simp[AQ,Lib.join,List.intercalate]
variable {n0:Nat} {w0:World} {I0:Nat→Prop} {Q:Exit→Sta→Prop}
set_option maxHeartbeats 2000000 in
theorem xq {ws:List WE} {O0:VOb} (hwf:∀ w,w ∈ ws→WE.wf w∧0≤w.at_) (hl:ws.length≤1000000001) (hlen:∀ w,w ∈ ws→(AQ w).length≤1000000000)
  (hq:∀ (H:Hp) (v:Nat),H [0]=O0→H [2]=⟨v,.arr 1 (ws.map (S ∘ AQ))⟩→Q (.exit 1) ⟨lk [(1,.pob [0] 1 0),(3,.osl [2] v 1 0 ws.length),(4,.sl true []),(30,ar ws),(31,iv ws.length),(32,iv ws.length),(33,bv false)],H⟩):∀ (m i v:Nat) (H:Hp),i+m=ws.length→H [0]=O0→H [2]=⟨v,.arr 1 ((ws.take i).map (S ∘ AQ))⟩ →
  LoopC (cx Tryz.prog w0 I0 n0) Fc Q ⟨lk [(1,.pob [0] 1 0),(3,.osl [2] v 1 0 i),(4,.sl true []),(30,ar ws),(31,iv ws.length),(32,iv i)],H⟩:=by
 intro m;induction m with
 |zero=>
  intro i v H hm h0 hH;refine Ad mixed Fc.eq_1 ?_;have:i=ws.length:=by omega
  subst this;rw[DE (CE _)] at hH;simp;exact hq H v h0 hH
 |succ m ih=>
  intro i v H hm h0 hH;have hi:i<ws.length:=by omega
  have ew:=B0 i;obtain⟨hw,hat⟩:=hwf _ (EI hi);have htk:(ws.take (i+1)).map (S ∘ AQ)=(ws.take i).map (S ∘ AQ)++[S (AQ ws[i])]:=by rw[LW hi,List.map_append];rfl
  have next:=ih (i+1) (v+1)
  rw[htk] at next
  have hj:=Yn ws[i];have hll:=hlen _ (EI hi);rw[hj] at next hll
  obtain⟨h1,⟨h2,h3⟩,h4,h5⟩:=hw;unfold Bm at h1;unfold EP at h4 h5;obtain⟨a,ha⟩:∃ a:Nat,(ws[i]).at_.toNat=a:=⟨_,rfl⟩;obtain⟨b,hb⟩:∃ a:Nat,(ws[i]).mask.toNat=a:=⟨_,rfl⟩;obtain⟨c,hc⟩:∃ a:Nat,(ws[i]).old.toNat=a:=⟨_,rfl⟩;obtain⟨d,hd⟩:∃ a:Nat,(ws[i]).new.toNat=a:=⟨_,rfl⟩;rw[ha,hb,hc,hd] at next hll
  have ea:u64.wrap (ws[i]).at_=(a:Int):=by rw[Cr (by omega) (by omega)];omega
  have eb:u64.wrap (ws[i]).mask=(b:Int):=by rw[Cr (by omega) (by omega)];omega
  have ec:(ws[i]).old=(c:Int):=by omega
  have ed:(ws[i]).new=(d:Int):=by omega
  have t1:=FB a (by omega);have t2:=FB b (by omega);have t3:=FB c (by omega);have t4:=FB d (by omega);have t5:=HB true [Az a,Az b,Az c,Az d] [58] (by simp) (by omega);refine Ad mixed Fc.eq_1 ?_;simp[hi,ea];refine Af t1 rfl ?_;simp[eb];refine Af t2 rfl ?_;simp[ec];refine Af t3 rfl ?_;simp[ed];refine Af t4 rfl ?_;simp;refine Af t5 rfl ?_;simp[hH,ew,Aa];refine⟨⟨by omega,by omega⟩,?_⟩;refine next _ (by omega) (by simp[Aa,h0]) ?_
  simp[Aa,List.take_take]
set_option maxHeartbeats 2000000 in
theorem xi {ks:List KE} {O2:VOb} {a3:A} {d:Nat} (hwf:∀ x,x ∈ ks→Bm x.at_∧Nf x.e∧0≤x.at_∧Bp d x.e=true∧PrE x.e) (hl:ks.length≤1000000001) (hlen:∀ x,x ∈ ks→(AZ x).length≤1000000000)
  (hq:∀ (H:Hp) (v:Nat),H [2]=O2→H [4]=⟨v,.arr 1 (ks.map (S ∘ AZ))⟩→Q (.exit 3) ⟨lk [(3,a3),(4,.osl [4] v 1 0 ks.length),(57,W4 ks),(58,iv ks.length),(59,iv ks.length),(60,bv false)],H⟩):∀ (m i v:Nat) (H:Hp),i+m=ks.length→H [2]=O2→H [4]=⟨v,.arr 1 ((ks.take i).map (S ∘ AZ))⟩ →
  LoopC (cx Tryz.prog w0 I0 n0) ET Q ⟨lk [(3,a3),(4,.osl [4] v 1 0 i),(57,W4 ks),(58,iv ks.length),(59,iv i)],H⟩:=by
 intro m;induction m with
 |zero=>
  intro i v H hm h0 hH;refine Ad mixed ET.eq_1 ?_;have:i=ks.length:=by omega
  subst this;rw[DE (CE _)] at hH;simp;exact hq H v h0 hH
 |succ m ih=>
  intro i v H hm h0 hH;have hi:i<ks.length:=by omega
  have ew:=B0 i;obtain⟨h1,hwe,hat,hre,hpe⟩:=hwf _ (EI hi);have htk:(ks.take (i+1)).map (S ∘ AZ)=(ks.take i).map (S ∘ AZ)++[S (AZ ks[i])]:=by rw[LW hi,List.map_append];rfl
  have next:=ih (i+1) (v+1)
  rw[htk] at next
  have hll:=hlen _ (EI hi);unfold AZ at hll;rw[show AZ ks[i]=Az (ks[i]).at_.toNat++58::CP (ks[i]).e from rfl] at next
  unfold Bm at h1;obtain⟨a,ha⟩:∃ a:Nat,(ks[i]).at_.toNat=a:=⟨_,rfl⟩;rw[ha] at next hll
  simp at hll;have ea:u64.wrap (ks[i]).at_=(a:Int):=by rw[Cr (by omega) (by omega)];omega
  have t1:=FB a (by omega);have t2:=hpe d hre hwe (by omega);have s1:=BE (l:=Az a) (m:=[58]) (by simp;omega);have s2:=BE (l:=Az a++[58]) (m:=CP (ks[i]).e) (by simp;omega);refine Ad mixed ET.eq_1 ?_;simp[hi,ea];refine Af t1 rfl ?_;simp[s1];refine Af t2 rfl ?_;simp[hH,ew,s2,Aa];refine⟨⟨by omega,by omega⟩,?_⟩;refine next _ (by omega) (by simp[Aa,h0]) ?_
  simp[Aa,List.take_take]
set_option maxHeartbeats 2000000 in
theorem xH {os:List OP} {l:Int} {cs:List A} (hcs:cs[9]? = some (iv l)) {d:Nat} (hli:Bm l) (hwf:∀ x,x ∈ os→jA x∧Fa d l x=true∧PrE x.e) (hl:os.length≤1000000001) (hlen:∀ x,x ∈ os→(A0 l x).length≤1000000000)
  (hq:∀ (H:Hp) (v:Nat),H [0]=⟨1,.cells cs⟩→H [6]=⟨v,.arr 1 (os.map (S ∘ A0 l))⟩→Q (.exit 5) ⟨lk [(1,.pob [0] 1 0),(9,.osl [6] v 1 0 os.length),(87,SX os),(88,iv os.length),(89,iv os.length),(90,bv false)],H⟩):∀ (m i v:Nat) (H:Hp),i+m=os.length→H [0]=⟨1,.cells cs⟩→H [6]=⟨v,.arr 1 ((os.take i).map (S ∘ A0 l))⟩ →
  LoopC (cx Tryz.prog w0 I0 n0) Fj Q ⟨lk [(1,.pob [0] 1 0),(9,.osl [6] v 1 0 i),(87,SX os),(88,iv os.length),(89,iv i)],H⟩:=by
 intro m;induction m with
 |zero=>
  intro i v H hm h0 hH;refine Ad mixed Fj.eq_1 ?_;have:i=os.length:=by omega
  subst this;rw[DE (CE _)] at hH;simp;exact hq H v h0 hH
 |succ m ih=>
  intro i v H hm h0 hH;have hi:i<os.length:=by omega
  have ew:=B0 i;obtain⟨hw,hr,hpe⟩:=hwf _ (EI hi);have htk:(os.take (i+1)).map (S ∘ A0 l)=(os.take i).map (S ∘ A0 l)++[S (A0 l os[i])]:=by rw[LW hi,List.map_append];rfl
  have next:=ih (i+1) (v+1)
  rw[htk] at next
  have t1:=dY hr hli hw hpe (hlen _ (EI hi));refine Ad mixed Fj.eq_1 ?_;simp[hi,h0,hcs,Aa];refine Af t1 rfl ?_;simp[hH,ew,Aa];refine⟨⟨by omega,by omega⟩,?_⟩;refine next _ (by omega) (by simp[Aa,h0]) ?_
  simp[Aa,List.take_take]
theorem Yk {H:Hp} {x:Value}:Jw H (.v x) (.v x):=Ab rfl
set_option maxHeartbeats 4000000 in
theorem VY:∀ e:E,PrE e:=by
 refine E.ind fun k o nn ws ks l os ihk iho d hr hw hlen=>?_;have h:=wfE_iff.1 hw;have hwl:=h.wl;have hkl:=h.kl;have hol:=h.ol;simp at hwl hkl hol;obtain⟨k0,k3,hp⟩:=GF hr;refine Ap RH (by simp) fun w0 I0=>?_;unfold K0;rw[Ke] at hlen ⊢;by_cases h1:k=1
 ·subst h1;rw[if_pos rfl] at hlen ⊢;simp at hlen;have t1:=Iw (t:=o) h.o (by omega);have t2:=Iw (t:=nn) h.n (by omega);have s1:=BE (l:=[40]) (m:=Am o) (by simp;omega);have s2:=BE (l:=[40]++Am o) (m:=[62]) (by simp;omega);have s3:=BE (l:=[40]++Am o++[62]) (m:=Am nn) (by simp;omega);have s4:=BE (l:=[40]++Am o++[62]++Am nn) (m:=[41]) (by simp;omega);simp at s1 s2 s3 s4;simp;refine Af t1 rfl ?_;simp[s1,s2];refine Af t2 rfl ?_;simp[s3,s4];exact Yk
 ·rw[if_neg h1] at hlen ⊢;obtain⟨hwo,hks,hli,hos⟩:=hp h1;by_cases h2:k=2
  ·subst h2;rw[if_pos rfl] at hlen ⊢;simp at hlen;have lw:∀ w,w ∈ ws→(AQ w).length≤1000000000:=fun w hw'=>by have:=IM (List.mem_map_of_mem (f:=AQ) hw');omega
   have lk':∀ x,x ∈ ks→(AZ x).length≤1000000000:=fun w hw'=>by have:=IM (List.mem_map_of_mem (f:=AZ) hw');omega
   have nw:=Cd (l:=ws.map AQ);have nk:=Cd (l:=ks.map AZ);simp at nw nk;simp;refine LoopC.le (EV 3 [2] 1 (by simp)) ?_;refine LoopC.le (Be [(1,.pob [0] 1 0),(3,.osl [2] 1 1 0 0),(4,.sl true []),(30,ar ws),(31,iv ws.length),(32,iv (0:Nat))] (by simp)) ?_;refine xq (ws:=ws) (O0:=⟨1,.cells (eL (.mk 2 o nn ws ks l os))⟩) (fun w hw'=>⟨h.w w hw',QP hwo (by omega) w hw'⟩) (by omega) lw (fun H v h0 hH=>?_) ws.length 0 1 _ (by omega) (by simp[Aa]) (by simp[Aa]);simp[h0];refine LoopC.le (EV 4 [4] 1 (by simp)) ?_;refine LoopC.le (Be [(3,.osl [2] v 1 0 ws.length),(4,.osl [4] ((H [4]).u+1) 1 0 0),(57,W4 ks),(58,iv ks.length),(59,iv (0:Nat))] (by simp)) ?_;refine xi (ks:=ks) (d:=d-1) (O2:=⟨v,.arr 1 (ws.map (S ∘ AQ))⟩) (fun x hx=>⟨(h.ks x hx).1,(h.ks x hx).2,(GY hks (by omega) x hx).1,(GY hks (by omega) x hx).2,ihk x hx⟩) (by omega) lk' (fun H2 v2 g2 g4=>?_) ks.length 0 ((H [4]).u+1) _ (by omega) (by simp[Aa,hH]) (by simp[Aa]);simp;have t1:=HB false (ws.map AQ) [44] (by simp;omega) (by rw[GK];omega);have t2:=HB false (ks.map AZ) [44] (by simp;omega) (by rw[GK];omega);rw[GK] at t1 t2;have s1:=BE (l:=[115,123]) (m:=Aj (ws.map AQ)) (by simp;omega);have s2:=BE (l:=[115,123]++Aj (ws.map AQ)) (m:=[124]) (by simp;omega);have s3:=BE (l:=[115,123]++Aj (ws.map AQ)++[124]) (m:=Aj (ks.map AZ)) (by simp;omega);have s4:=BE (l:=[115,123]++Aj (ws.map AQ)++[124]++Aj (ks.map AZ)) (m:=[125]) (by simp;omega);simp at s1 s2 s3 s4;refine JT [.sl false ((ws.map AQ).map S),S [44]] (t1.toB rfl) ⟨?_,Yk,trivial⟩ (by simp) ?_
   ·simp only[List.map_map];simp;exact DT (f:=S ∘ AQ) (l:=ws) (by rw[g2];simp) rfl (by simp)
   simp[s1,s2];refine JT [.sl false ((ks.map AZ).map S),S [44]] (t2.toB rfl) ⟨?_,Yk,trivial⟩ (by simp) ?_
   ·simp only[List.map_map];simp;exact DT (f:=S ∘ AZ) (l:=ks) (by rw[g4];simp) rfl (by simp)
   simp[s3,s4];exact Yk
  ·rw[if_neg h2] at hlen ⊢;by_cases h3:k=3
   ·subst h3;rw[if_pos rfl] at hlen ⊢;simp at hlen;have lo:∀ x,x ∈ os→(A0 l x).length≤1000000000:=fun w hw'=>by have:=IM (List.mem_map_of_mem (f:=A0 l) hw');omega
    have no:=Cd (l:=os.map (A0 l));simp at no;simp;refine LoopC.le (EV 9 [6] 1 (by simp)) ?_;refine LoopC.le (Be [(1,.pob [0] 1 0),(9,.osl [6] 1 1 0 0),(87,SX os),(88,iv os.length),(89,iv (0:Nat))] (by simp)) ?_;refine xH (os:=os) (d:=d-1) (l:=l) (cs:=eL (.mk 3 o nn ws ks l os)) rfl h.l (fun x hx=>⟨h.os x hx,EN hos x hx,iho x hx⟩) (by omega) lo (fun H v h0 hH=>?_) os.length 0 1 _ (by omega) (by simp[Aa]) (by simp[Aa]);simp[h0];obtain⟨l2,l9⟩:=hli rfl;have hT:CG (.mk l [] []):=⟨h.l,by simp,by simp,by simp,wfTs_all.2 (by simp)⟩;have hsh:Am (.mk l [] [])=[Cn l,91,93]:=by rw[AY,if_neg (fun e=>by simp at e),if_neg (by omega),if_pos ⟨l2,l9⟩];rfl
    have t1:=Ln true true hT (by rw[hsh];simp);rw[hsh] at t1;have t2:=HB false (os.map (A0 l)) [44] (by simp;omega) (by rw[GK];omega);rw[GK] at t2;have s1:=BE (l:=[108]) (m:=[Cn l,91]) (by simp);have s2:=BE (l:=[108,Cn l,91]) (m:=Aj (os.map (A0 l))) (by simp;omega);have s3:=BE (l:=[108,Cn l,91]++Aj (os.map (A0 l))) (m:=[93]) (by simp;omega);simp at s1 s2 s3;refine Af t1 rfl ?_;simp[s1];refine JT [.sl false ((os.map (A0 l)).map S),S [44]] (t2.toB rfl) ⟨?_,Yk,trivial⟩ (by simp) ?_
    ·simp only[List.map_map];simp;exact DT (f:=S ∘ A0 l) (l:=os) (by rw[hH];simp) rfl (by simp)
    simp[s2,s3];exact Yk
   ·rw[if_neg h3] at hlen ⊢;have:k=0:=by omega
    subst this;simp;exact Yk
theorem Zo:∀ (os:List OP) (n m:Int),(∀ x,x ∈ os→0≤Cb x)→n≤1048576→m≤1048576→n≤(Bh n m os).1∧m≤(Bh n m os).2
 |[],n,m,_,_,_=>⟨by simp[Bh],by simp[Bh]⟩
 |x::os,n,m,h,hn,hm=>by
  rw[Bh];have hx:=h x (by simp);have st:∀ b:Int,LM b≤1048576:=fun b=>by unfold LM;split<;>omega
  have sl:∀ a b:Int,a≤b→a≤1048576→a≤LM b:=fun a b h1 h2=>by unfold LM;split<;>omega
  obtain⟨a,b⟩:=Zo os (LM (if x.kind ≠ 2 then n+Cb x else n)) (LM (if x.kind ≠ 1 then m+Cb x else m)) (fun y hy=>h y (by simp[hy])) (st _) (st _);exact⟨Int.le_trans (sl _ _ (by split<;>omega) hn) a,Int.le_trans (sl _ _ (by split<;>omega) hm) b⟩
theorem jV:∀ (os:List OP) (n m:Int),(∀ x,x ∈ os→0≤Cb x)→0≤n→0≤m→n≤1048576→m≤1048576→(Bh n m os).1<1048576→(Bh n m os).2<1048576→∀ x,x ∈ os→Cb x<1048576:=by
 intro os;induction os with
 |nil=>intro n m _ _ _ _ _ _ _ x hx;cases hx
 |cons y os ih=>
  intro n m h hn hm tn tm h1 h2 x hx;rw[Bh] at h1 h2;have hy:=h y (by simp);have hr:∀ z,z ∈ os→0≤Cb z:=fun z hz=>h z (by simp[hz]);have st:∀ b:Int,LM b≤1048576:=fun b=>by unfold LM;split<;>omega
  have s0:∀ b:Int,0≤b→0≤LM b:=fun b hb=>by unfold LM;split<;>omega
  obtain⟨a,b⟩:=Zo os (LM (if y.kind ≠ 2 then n+Cb y else n)) (LM (if y.kind ≠ 1 then m+Cb y else m)) hr (st _) (st _);rcases List.mem_cons.1 hx with rfl | hx
  ·have e1:=Int.lt_of_le_of_lt a h1;have e2:=Int.lt_of_le_of_lt b h2;by_cases k:x.kind=2
   ·rw[if_pos (by omega)] at e2;unfold LM at e2;split at e2<;>omega
   ·rw[if_pos k] at e1;unfold LM at e1;split at e1<;>omega
  ·exact ih _ _ hr (s0 _ (by split<;>omega)) (s0 _ (by split<;>omega)) (st _) (st _) h1 h2 x hx
theorem Mz {l:Int} (h2:2≤l) (h9:l≤9) {L:List T} (h:∀ t,t ∈ L→Ay 64 (.mk l [] [t])=true) (hn:L.length<1048576):Ay 64 (.mk l [] L)=true:=by
 rw[EJ,if_neg (by omega),if_neg (by omega),if_neg,rightL_all]
 ·intro t ht;have:=h t ht;rw[EJ,if_neg (by omega),if_neg (by omega)] at this;split at this
  ·cases this
  ·exact rightL_all.1 this t (by simp)
 ·unfold FD;simp;omega
theorem jT {d:Nat} {l:Int} {os:List OP} {o n:T} {ws:List WE} {ks:List KE} (h:Bp d (.mk 3 o n ws ks l os)=true) {x:OP} (hx:x ∈ os) (hk:x.kind=1∨x.kind=2):Ay 64 (.mk l [] x.l)=true:=by
 obtain⟨_,_,hp⟩:=GF h;obtain⟨_,_,hl,hos⟩:=hp (by omega);obtain⟨l2,l9⟩:=hl rfl;have hlen:(Bh 0 0 os).1<1048576∧(Bh 0 0 os).2<1048576:=by
  rw[Ib] at h;split at h
  ·cases h
  ·rw[if_neg (by omega)] at h
   repeat' (split at h;· cases h)
   simp at h;exact h
 have ho:=EN hos x hx;have hnn:∀ y,y ∈ os→0≤Cb y:=fun y hy=>by
  have:=(MT (EN hos y hy)).1;unfold Cb;split<;>omega
 have:=jV os 0 0 hnn (by omega) (by omega) (by omega) (by omega) hlen.1 hlen.2 x hx;have hn0:=(MT ho).1;refine Mz l2 l9 (fun t ht=>?_) (by unfold Cb at this;rw[if_neg (by omega)] at this;omega);rw[GS,Bool.and_eq_true] at ho;have hf:=ho.1;unfold Lo at hf;rw[if_neg (by omega)] at hf;split at hf
 ·cases hf
 ·rw[if_pos (by omega)] at hf;simp at hf;exact hf.1.1 t ht
end Go.Proofs.YtgkdikddjfgajaaGreatDoor
namespace Go.Proofs.YtgkdikddjfgajaaGreatDoor
open Go Go.G Go.Proofs Go.PL
def Ve (rest:List UInt8):Prop:=∀ c,rest.head? = some c→BN c=none
theorem Je {c:UInt8} (h:BN c=none) (r:List UInt8):Ve (c::r):=fun x hx=>by simp at hx;rw[← hx];exact h
theorem Jg {c:UInt8} {r:List UInt8}:AL c (c::r)=some 1:=by unfold AL;rw[if_pos (by simp)]
theorem Es {l r:List UInt8}:(l++r).drop l.length=r:=List.drop_left
theorem iX {w:WE} (h0:0≤w.at_) (h1:w.at_≤1048576) (hw:WE.wf w) {rest:List UInt8} (hr:Ve rest):Iq (AQ w++rest)=some (w,(AQ w).length):=by
 obtain⟨_,⟨m0,m1⟩,ho,hn⟩:=hw;unfold EP at ho hn;have d58:∀ r:List UInt8,Ve (58::r):=fun r=>Je (by decide) r;have e1:=Kn (most:=1048576) (n:=w.at_.toNat) (rest:=58::(Az w.mask.toNat++58::(Az w.old.toNat++58::(Az w.new.toNat++rest)))) (by omega) (by omega) (d58 _);have e2:=Kn (most:=255) (n:=w.mask.toNat) (rest:=58::(Az w.old.toNat++58::(Az w.new.toNat++rest))) (by omega) (by omega) (d58 _);have e3:=Kn (most:=18446744073709551615) (n:=w.old.toNat) (rest:=58::(Az w.new.toNat++rest)) (by omega) (by omega) (d58 _);have e4:=Kn (most:=18446744073709551615) (n:=w.new.toNat) (rest:=rest) (by omega) (by omega) hr;have hs:AQ w++rest=Az w.at_.toNat++58::(Az w.mask.toNat++58::(Az w.old.toNat++58::(Az w.new.toNat++rest))):=by simp[AQ]
 rw[hs];unfold Iq;rw[e1];simp only[Es,Jg,← List.drop_drop,List.drop_succ_cons,List.drop_zero,e2,e3,e4];simp only[Option.some.injEq,Prod.mk.injEq];refine⟨?_,by simp[AQ];omega⟩;obtain⟨a,m,o,n⟩:=w;simp only at h0 m0 ho hn ⊢;rw[Int.toNat_of_nonneg h0,Int.toNat_of_nonneg m0,Int.toNat_of_nonneg ho.1,Int.toNat_of_nonneg hn.1]
theorem iZ (n:Nat) (r:List UInt8) {c:UInt8} (hc:BN c=none):Ej (Az n++r) ≠ c:=by
 have h:=Kb n;have hp:=Ea n;cases hx:Az n with
 |nil=>rw[hx] at hp;simp at hp
 |cons x l=>
  rw[List.cons_append];intro e;have e:x=c:=e;obtain⟨d,hd⟩:=h x (by rw[hx];simp);rw[e,hc] at hd;cases hd
theorem QD {n:Nat} {r:List UInt8}:B9 n ((if n=0 then [] else [44])++r)=some (if n=0 then 0 else 1):=by
 unfold B9;split
 ·rfl
 ·exact Jg
theorem XA:∀ (l:List (List UInt8)) (r:List UInt8),DB l=[]∨∃ x,DB l=44::x
 |[],r=>.inl rfl
 |x::l,r=>.inr ⟨_,rfl⟩
theorem OU (l:List (List UInt8)) {c:UInt8} (hc:BN c=none) (r:List UInt8):Ve (DB l++c::r):=by
 rcases XA l [] with h | ⟨x,h⟩
 ·rw[h];exact Je hc r
 ·rw[h];exact Je (by decide) _
theorem GL {n:Nat} (l:List (List UInt8)):EE (n+1) l=DB l:=by unfold EE;rw[if_neg (by omega)]
theorem Si:∀ (ws:List WE) (f n:Nat) (rest:List UInt8),(∀ w,w ∈ ws→0≤w.at_∧w.at_≤1048576∧WE.wf w)→ws.length<f→BZ f n (EE n (ws.map AQ)++124::rest)=some (ws,(EE n (ws.map AQ)).length)
 |[],f+1,n,rest,_,_=>by
  have:EE n (([]:List WE).map AQ)=[]:=by unfold EE;split<;>rfl
  rw[this,BZ,if_pos (by rfl)];rfl
 |w::ws,f+1,n,rest,h,hf=>by
  obtain⟨h0,h1,hw⟩:=h w (by simp);rw[List.map_cons,GM,GL,BZ];have ih:=Si ws f (n+1) rest (fun x hx=>h x (by simp[hx])) (by simp at hf;omega);rw[GL] at ih;have e:((if n=0 then [] else [(44:UInt8)])++(AQ w++DB (ws.map AQ)))++124::rest=(if n=0 then [] else [44])++(AQ w++(DB (ws.map AQ)++124::rest)):=by simp
  rw[e,if_neg]
  ·rw[QD];have hd:((if n=0 then [] else [(44:UInt8)])++(AQ w++(DB (ws.map AQ)++124::rest))).drop (if n=0 then 0 else 1)=AQ w++(DB (ws.map AQ)++124::rest):=by split<;>rfl
   simp only[hd,iX h0 h1 hw (OU (ws.map AQ) (c:=124) (by decide) rest),← List.drop_drop,Es,ih];by_cases hn:n=0
   ·simp[hn]
   ·simp[hn];omega
  ·by_cases hn:n=0
   ·rw[if_pos hn,List.nil_append];rw[show AQ w++(DB (ws.map AQ)++124::rest)=Az w.at_.toNat++(58::(Az w.mask.toNat++58::(Az w.old.toNat++58::Az w.new.toNat))++(DB (ws.map AQ)++124::rest)) by simp[AQ]];exact iZ _ _ (by decide)
   ·rw[if_neg hn];show(44:UInt8) ≠ 124;decide
def uA (ed:List UInt8→Option (E × Nat)) (e:E):Prop:=∀ rest:List UInt8,ed (CP e++rest)=some (e,(CP e).length)
theorem lF {ed:List UInt8→Option (E × Nat)} {x:KE} (h:0≤x.at_∧x.at_≤1048576∧uA ed x.e) (rest:List UInt8):Ni ed (AZ x++rest)=some (x,(AZ x).length):=by
 obtain⟨h0,h1,hc⟩:=h;have e1:=Kn (most:=1048576) (n:=x.at_.toNat) (rest:=58::(CP x.e++rest)) (by omega) (by omega) (Je (by decide) _);have hs:AZ x++rest=Az x.at_.toNat++58::(CP x.e++rest):=by simp[AZ]
 rw[hs];unfold Ni;rw[e1];simp only[Es,Jg,← List.drop_drop,List.drop_succ_cons,List.drop_zero];rw[hc rest];show some (KE.mk (x.at_.toNat:Int) x.e,(Az x.at_.toNat).length+1+(CP x.e).length)=_;rw[Int.toNat_of_nonneg h0,show(AZ x).length=(Az x.at_.toNat).length+1+(CP x.e).length by simp[AZ];omega];cases x;rfl
theorem WJ {ed:List UInt8→Option (E × Nat)}:∀ (ws:List KE) (f n:Nat) (rest:List UInt8),(∀ w,w ∈ ws→0≤w.at_∧w.at_≤1048576∧uA ed w.e)→ws.length<f→Dc ed f n (EE n (ws.map AZ)++125::rest)=some (ws,(EE n (ws.map AZ)).length)
 |[],f+1,n,rest,_,_=>by
  have:EE n (([]:List KE).map AZ)=[]:=by unfold EE;split<;>rfl
  rw[this,Dc,if_pos (by rfl)];rfl
 |w::ws,f+1,n,rest,h,hf=>by
  have hw:=h w (by simp);rw[List.map_cons,GM,GL,Dc];have ih:=WJ ws f (n+1) rest (fun x hx=>h x (by simp[hx])) (by simp at hf;omega);rw[GL] at ih;have e:((if n=0 then [] else [(44:UInt8)])++(AZ w++DB (ws.map AZ)))++125::rest=(if n=0 then [] else [44])++(AZ w++(DB (ws.map AZ)++125::rest)):=by simp
  rw[e,if_neg]
  ·rw[QD];have hd:((if n=0 then [] else [(44:UInt8)])++(AZ w++(DB (ws.map AZ)++125::rest))).drop (if n=0 then 0 else 1)=AZ w++(DB (ws.map AZ)++125::rest):=by split<;>rfl
   simp only[hd,lF hw,← List.drop_drop,Es,ih];by_cases hn:n=0
   ·simp[hn]
   ·simp[hn];omega
  ·by_cases hn:n=0
   ·rw[if_pos hn,List.nil_append];rw[show AZ w++(DB (ws.map AZ)++125::rest)=Az w.at_.toNat++((58::CP w.e)++(DB (ws.map AZ)++125::rest)) by simp[AZ]];exact iZ _ _ (by decide)
   ·rw[if_neg hn];show(44:UInt8) ≠ 125;decide
theorem PH {e:E} (h:OD e=true):e=E0:=by
 obtain⟨k,⟨ok,ow,ol⟩,⟨nk,nw,nl⟩,ws,ks,l,os⟩:=e;simp[OD,FX] at h;obtain⟨⟨⟨⟨a,⟨b1,b2⟩,b3⟩,⟨c1,c2⟩,c3⟩,⟨d1,d2⟩,d3⟩,e5⟩:=h;have a':=of_decide_eq_true a;have b':=of_decide_eq_true b1;have c':=of_decide_eq_true c1;have e':=of_decide_eq_true e5;rw[a',b',b2,b3,c',c2,c3,d1,d2,d3,e']
def CoO (ed:List UInt8→Option (E × Nat)) (l:Int) (x:OP):Prop:=
 (x.kind=0∧(0≤x.n∧x.n≤1048576)∧x.l=[]∧x.e=E0)∨((x.kind=1∨x.kind=2)∧x.n=0∧x.e=E0∧Cw 64 (.mk l [] x.l)∧Ay 64 (.mk l [] x.l)=true∧l ≠ 10)∨(x.kind=3∧x.n=0∧x.l=[]∧uA ed x.e)
theorem TH {x:OP} {k n:Int} {l:List T} {e:E} (h1:x.kind=k) (h2:x.n=n) (h3:x.l=l) (h4:x.e=e):x = .mk k n l e:=by cases x;simp at h1 h2 h3 h4;rw[h1,h2,h3,h4]
theorem fi {ed:List UInt8→Option (E × Nat)} {l:Int} {x:OP} (h:CoO ed l x) {rest:List UInt8} (hr:Ve rest):CI ed l (A0 l x++rest)=some (x,(A0 l x).length):=by
 rcases h with ⟨hk,⟨n0,n1⟩,hl,he⟩ | ⟨hk,hn,he,hp,hrt,h10⟩ | ⟨hk,hn,hl,hc⟩
 ·have e1:=Kn (most:=1048576) (n:=x.n.toNat) (rest:=rest) (by omega) (by omega) hr;have hs:A0 l x=107::Az x.n.toNat:=by unfold A0;rw[if_neg (by omega),if_neg (by omega),if_neg (by omega)]
  rw[hs,List.cons_append];unfold CI;rw[if_pos (by rfl)];simp only[List.drop_succ_cons,List.drop_zero,e1];simp only[Option.some.injEq,Prod.mk.injEq,List.length_cons];exact⟨(TH hk (by omega) hl he).symm,by omega⟩
 ·have e1:=PT hp hrt (fun h=>h10 h.1) rest;rcases hk with hk | hk
  ·have hs:A0 l x=45::Am (.mk l [] x.l):=by unfold A0;rw[if_pos hk]
   rw[hs,List.cons_append];unfold CI;rw[if_neg (by show ¬ (45:UInt8)=107;decide),if_neg (by show ¬ (45:UInt8)=42;decide),if_pos (.inl rfl)];simp only[List.drop_succ_cons,List.drop_zero,e1];rw[if_pos (show(T.mk l [] x.l).kind=l from rfl),if_pos (by rfl)];simp only[Option.some.injEq,Prod.mk.injEq,List.length_cons];exact⟨(TH hk hn rfl he).symm,by omega⟩
  ·have hs:A0 l x=43::Am (.mk l [] x.l):=by unfold A0;rw[if_neg (by omega),if_pos hk]
   rw[hs,List.cons_append];unfold CI;rw[if_neg (by show ¬ (43:UInt8)=107;decide),if_neg (by show ¬ (43:UInt8)=42;decide),if_pos (.inr rfl)];simp only[List.drop_succ_cons,List.drop_zero,e1];rw[if_pos (show(T.mk l [] x.l).kind=l from rfl),if_neg (by show ¬ (43:UInt8)=45;decide)];simp only[Option.some.injEq,Prod.mk.injEq,List.length_cons];exact⟨(TH hk hn rfl he).symm,by omega⟩
 ·have hs:A0 l x=42::CP x.e:=by unfold A0;rw[if_neg (by omega),if_neg (by omega),if_pos hk]
  rw[hs,List.cons_append];unfold CI;rw[if_neg (by show ¬ (42:UInt8)=107;decide),if_pos (by rfl)];simp only[List.drop_succ_cons,List.drop_zero,hc rest];simp only[Option.some.injEq,Prod.mk.injEq,List.length_cons];exact⟨(TH hk hn hl rfl).symm,by omega⟩
theorem XJ (l:Int) (x:OP) (r:List UInt8):Ej (A0 l x++r) ≠ 93:=by
 unfold A0;split
 ·show(45:UInt8) ≠ 93;decide
 ·split
  ·show(43:UInt8) ≠ 93;decide
  ·split
   ·show(42:UInt8) ≠ 93;decide
   ·show(107:UInt8) ≠ 93;decide
theorem R2 {ed:List UInt8→Option (E × Nat)} {l:Int}:∀ (ws:List OP) (f n:Nat) (rest:List UInt8),(∀ w,w ∈ ws→CoO ed l w)→ws.length<f→BP ed l f n (EE n (ws.map (A0 l))++93::rest)=some (ws,(EE n (ws.map (A0 l))).length)
 |[],f+1,n,rest,_,_=>by
  have:EE n (([]:List OP).map (A0 l))=[]:=by unfold EE;split<;>rfl
  rw[this,BP,if_pos (by rfl)];rfl
 |w::ws,f+1,n,rest,h,hf=>by
  have hw:=h w (by simp);rw[List.map_cons,GM,GL,BP];have ih:=R2 ws f (n+1) rest (fun x hx=>h x (by simp[hx])) (by simp at hf;omega);rw[GL] at ih;have e:((if n=0 then [] else [(44:UInt8)])++(A0 l w++DB (ws.map (A0 l))))++93::rest=(if n=0 then [] else [44])++(A0 l w++(DB (ws.map (A0 l))++93::rest)):=by simp
  rw[e,if_neg]
  ·rw[QD];have hd:((if n=0 then [] else [(44:UInt8)])++(A0 l w++(DB (ws.map (A0 l))++93::rest))).drop (if n=0 then 0 else 1)=A0 l w++(DB (ws.map (A0 l))++93::rest):=by split<;>rfl
   simp only[hd,fi hw (OU (ws.map (A0 l)) (c:=93) (by decide) rest),← List.drop_drop,Es,ih];by_cases hn:n=0
   ·simp[hn]
   ·simp[hn];omega
  ·by_cases hn:n=0
   ·rw[if_pos hn,List.nil_append];exact XJ l w _
   ·rw[if_neg hn];show(44:UInt8) ≠ 93;decide
theorem QR {t:T} (h:FX t=true):t=T0:=by
 obtain⟨k,w,l⟩:=t;simp[FX] at h;obtain⟨⟨a,b⟩,c⟩:=h;rw[of_decide_eq_true a,b,c]
theorem Ul {d:Nat} {k:Int} {o n:T} {ws:List WE} {ks:List KE} {l:Int} {os:List OP} (h:Bp d (.mk k o n ws ks l os)=true):d ≠ 0∧(k ≠ 1→o=T0∧n=T0)∧(k ≠ 2→ws=[]∧ks=[])∧(k ≠ 3→l=0∧os=[])∧(k=1→Ay 64 o=true∧Ay 64 n=true∧o.kind ≠ 10∧n.kind ≠ 10):=by
 rw[Ib] at h;split at h
 ·cases h
 ·rename_i hh;have hh:Gg d k o n ws.length ks.length l os.length=true:=by simpa using hh
  have h0:=hh;rw[Gg] at hh;rw[Bool.and_eq_true] at hh;obtain⟨h1,h2⟩:=hh;simp only[Bool.not_eq_true',Bool.or_eq_false_iff,decide_eq_false_iff_not] at h1;simp only[Bool.not_eq_true',Bool.or_eq_false_iff] at h2;obtain⟨⟨a1,a2⟩,a3⟩:=h2;refine⟨h1.1.1,fun hk=>?_,fun hk=>?_,fun hk=>?_,fun hk=>?_⟩
  ·simp[hk] at a1;exact⟨QR a1.1,QR a1.2⟩
  ·rw[decide_eq_false hk] at a2;simp only[Bool.not_false,Bool.true_and,decide_eq_false_iff_not] at a2;exact⟨List.length_eq_zero_iff.1 (by omega),List.length_eq_zero_iff.1 (by omega)⟩
  ·rw[decide_eq_false hk] at a3;simp only[Bool.not_false,Bool.true_and,Bool.or_eq_false_iff,Bool.not_eq_false',decide_eq_true_eq,decide_eq_false_iff_not] at a3;exact⟨a3.1,List.length_eq_zero_iff.1 (by omega)⟩
  ·rw[if_pos hk] at h;simp at h;exact⟨h.1.1.1,h.1.1.2,h.1.2,h.2⟩
theorem U9:∀ {ws:List WE} {last:Int},BT last ws=true→∀ w,w ∈ ws→w.at_≤65534
 |x::ws,last,h,w,hw=>by
  rw[BT,Bool.and_eq_true] at h;rcases List.mem_cons.1 hw with rfl | hw
  ·have:=h.1;unfold IG at this;simp at this;omega
  ·exact U9 h.2 w hw
theorem QY {d:Nat}:∀ {ks:List KE} {last:Int},CJ d last ks=true→∀ x,x ∈ ks→x.at_≤65534
 |y::ks,last,h,x,hx=>by
  rw[Fh,Bool.and_eq_true,Bool.and_eq_true] at h;rcases List.mem_cons.1 hx with rfl | hx
  ·have:=h.1.1;simp at this;omega
  ·exact QY h.2 x hx
theorem aM {d:Nat} {l:Int} {os:List OP} {o n:T} {ws:List WE} {ks:List KE} (hr:Bp d (.mk 3 o n ws ks l os)=true) (hl:Bm l) {x:OP} (hx:x ∈ os) (hw:jA x) {ed:List UInt8→Option (E × Nat)} (he:x.kind=3→uA ed x.e) (htree:x.kind=1∨x.kind=2→Ay 64 (.mk l [] x.l)=true):CoO ed l x:=by
 obtain⟨_,_,hp⟩:=GF hr;obtain⟨_,_,hli,hos⟩:=hp (by omega);obtain⟨l2,l9⟩:=hli rfl;have ho:=EN hos x hx;have hn:=MT ho;rw[GS,Bool.and_eq_true] at ho;obtain⟨hf,hd⟩:=ho;unfold Lo at hf;split at hf
 ·rename_i h0;simp at hf;exact .inl ⟨h0,hn,hf.1.2,PH hf.2⟩
 ·rename_i h0;split at hf
  ·cases hf
  ·rename_i h1;split at hf
   ·rename_i h3;simp at hf;have hk:x.kind=1∨x.kind=2:=by omega
    have hT:CG (.mk l [] x.l):=wfT_iff.2 ⟨hl,by simp,by simp,hw.ll,hw.l⟩;exact .inr (.inl ⟨hk,by omega,PH hf.2,Eh 64 _ hT (htree hk) (by show l ≠ 10;omega),htree hk,by omega⟩)
   ·rename_i h3;have hk:x.kind=3:=by omega
    rw[if_pos hk] at hd;simp[QF] at hd;exact .inr (.inr ⟨hk,by omega,hd.1.1.1.1,he hk⟩)
theorem lI {l:Int} (l2:2≤l) (l9:l≤9):Un AB ([Cn l,91]++[93])=true∧BX AB ([Cn l,91]++[93]) = .mk l [] []:=by
 have hsh:Am (.mk l [] [])=[Cn l,91]++[93]:=by rw[AY,if_neg (fun e=>by simp at e),if_neg (by omega),if_pos ⟨l2,l9⟩];rfl
 have hw:CG (.mk l [] []):=wfT_iff.2 ⟨by show Bm l;unfold Bm;omega,by simp,by simp,by simp,by simp⟩;have hr:Ay 64 (.mk l [] [])=true:=Mz l2 l9 (by simp) (by simp);have hp:=Eh 64 _ hw hr (by show l ≠ 10;omega);have:=R4 JS hp hr;rw[hsh] at this;exact this
theorem Nx {c x:UInt8} (h:x ≠ c) (r:List UInt8):¬ Bt (x::r) c=true:=by rw[FA];simpa using h
theorem eD:∀ e:E,∀ d,Bp d e=true→Nf e→uA (Bd d) e:=by
 refine E.ind fun k o nn ws ks l os ihk iho d hr hw rest=>?_;have h:=wfE_iff.1 hw;obtain⟨hd,hT,hW,hL,hP⟩:=Ul hr;obtain⟨k0,k3,hp⟩:=GF hr;obtain⟨d,rfl⟩:∃ d',d=d'+1:=⟨d-1,by omega⟩;rw[Nat.add_sub_cancel] at hp;rw[Ke];by_cases c1:k=1
 ·subst c1;obtain⟨r1,r2,n1,n2⟩:=hP rfl;obtain⟨rfl,rfl⟩:=hW (by omega);obtain⟨rfl,rfl⟩:=hL (by omega);rw[if_pos rfl];have p1:=Eh 64 o h.o r1 n1;have p2:=Eh 64 nn h.n r2 n2;have e1:=PT p1 r1 (fun h=>n1 h.1) (62::(Am nn++41::rest));have e2:=PT p2 r2 (fun h=>n2 h.1) (41::rest);have hs:(40::(Am o++62::(Am nn++[41])))++rest=40::(Am o++62::(Am nn++41::rest)):=by simp
  rw[hs,Bd,if_neg (Nx (by decide) _),if_pos (by rfl)];simp only[List.drop_succ_cons,List.drop_zero];unfold Mj;rw[e1];simp only[Es,Jg,← List.drop_drop,List.drop_succ_cons,List.drop_zero,e2,JR];simp;omega
 ·rw[if_neg c1];obtain⟨rfl,rfl⟩:=hT c1;obtain⟨hwo,hks,hli,hos⟩:=hp c1;by_cases c2:k=2
  ·subst c2;obtain⟨rfl,rfl⟩:=hL (by omega);rw[if_pos rfl];have hs:(115::123::(Aj (ws.map AQ)++124::(Aj (ks.map AZ)++[125])))++rest=115::123::(Aj (ws.map AQ)++124::(Aj (ks.map AZ)++125::rest)):=by simp
   rw[hs,Bd,if_neg (Nx (by decide) _),if_neg (Nx (by decide) _),if_pos (by rfl)];simp only[List.drop_succ_cons,List.drop_zero];have nw:=Cd (l:=ws.map AQ);have nk:=Cd (l:=ks.map AZ);simp only[List.length_map] at nw nk;unfold Ei;rw[Jg];simp only[List.drop_succ_cons,List.drop_zero];have j1:∀ L:List (List UInt8),EE 0 L=Aj L:=fun L=>by unfold EE;rw[if_pos rfl]
   have e1:=Si ws ((123::(Aj (ws.map AQ)++124::(Aj (ks.map AZ)++125::rest))).length+1) 0 (Aj (ks.map AZ)++125::rest) (fun w hw'=>⟨QP hwo (by omega) w hw',by have:=U9 hwo w hw';omega,h.w w hw'⟩) (by simp;omega);rw[j1] at e1;have e2:=WJ (ed:=Bd d) ks ((123::(Aj (ws.map AQ)++124::(Aj (ks.map AZ)++125::rest))).length+1) 0 rest (fun x hx=>⟨(GY hks (by omega) x hx).1,by have:=QY hks x hx;omega,ihk x hx d (GY hks (by omega) x hx).2 (h.ks x hx).2⟩) (by simp;omega);rw[j1] at e2;rw[e1];have d1:(123::(Aj (ws.map AQ)++124::(Aj (ks.map AZ)++125::rest))).drop (1+(Aj (ws.map AQ)).length)=124::(Aj (ks.map AZ)++125::rest):=by rw[Nat.add_comm,List.drop_succ_cons,Es]
   have d2:(123::(Aj (ws.map AQ)++124::(Aj (ks.map AZ)++125::rest))).drop (1+(Aj (ws.map AQ)).length+1)=Aj (ks.map AZ)++125::rest:=by rw[← List.drop_drop,d1];rfl
   have d3:(123::(Aj (ws.map AQ)++124::(Aj (ks.map AZ)++125::rest))).drop (1+(Aj (ws.map AQ)).length+1+(Aj (ks.map AZ)).length)=125::rest:=by rw[← List.drop_drop,d2,Es]
   have d4:(Aj (ws.map AQ)++124::(Aj (ks.map AZ)++125::rest)).drop (1+(Aj (ws.map AQ)).length)=Aj (ks.map AZ)++125::rest:=by rw[Nat.add_comm,← List.drop_drop,Es];rfl
   simp only[d1,d2,d3,d4,Jg,e2,JR];refine congrArg some (Prod.ext rfl ?_);simp only[List.length_cons,List.length_append,List.length_nil];omega
  ·rw[if_neg c2];obtain⟨rfl,rfl⟩:=hW c2;by_cases c3:k=3
   ·subst c3;rw[if_pos rfl];obtain⟨l2,l9⟩:=hli rfl;obtain⟨q1,q2⟩:=lI l2 l9;have hs:(108::Cn l::91::(Aj (os.map (A0 l))++[93]))++rest=108::Cn l::91::(Aj (os.map (A0 l))++93::rest):=by simp
    rw[hs,Bd,if_neg (Nx (by decide) _),if_neg (Nx (by decide) _),if_neg (Nx (by decide) _),if_pos (by rfl)];simp only[List.drop_succ_cons,List.drop_zero];have no:=Cd (l:=os.map (A0 l));simp only[List.length_map] at no;have j1:∀ L:List (List UInt8),EE 0 L=Aj L:=fun L=>by unfold EE;rw[if_pos rfl]
    have e1:=R2 (ed:=Bd d) (l:=l) os ((Cn l::91::(Aj (os.map (A0 l))++93::rest)).length+1) 0 rest (fun x hx=>aM hr h.l hx (h.os x hx) (fun hk=>iho x hx d (WD (EN hos x hx) hk) (h.os x hx).e) (fun hk=>jT hr hx hk)) (by simp;omega);rw[j1] at e1;have t2:(Cn l::91::(Aj (os.map (A0 l))++93::rest)).take 2=[Cn l,91]:=rfl;unfold Ec;rw[t2,q1,q2,if_pos ⟨by simp,rfl⟩];simp only[List.drop_succ_cons,List.drop_zero];rw[show(T.mk l [] []).kind=l from rfl,e1];have d1:(Cn l::91::(Aj (os.map (A0 l))++93::rest)).drop (2+(Aj (os.map (A0 l))).length)=93::rest:=by rw[← List.drop_drop];exact Es
    simp only[d1,Jg,JR];simp;omega
   ·rw[if_neg c3];obtain⟨rfl,rfl⟩:=hL c3;have:k=0:=by omega
    subst this;rfl
theorem Fw (ed:List UInt8→Option (E × Nat)) (s:List UInt8) (p:Nat):Ei ed (s.drop p)=match AL 123 (s.drop p) with
 |none=>none
 |some _=>match BZ ((s.drop p).length+1) 0 (s.drop (p+1)) with
  |none=>none
  |some (ws,k1)=>match AL 124 (s.drop (p+1+k1)) with
   |none=>none
   |some _=>match Dc ed ((s.drop p).length+1) 0 (s.drop (p+1+k1+1)) with
    |none=>none
    |some (ks,k2)=>match AL 125 (s.drop (p+1+k1+1+k2)) with
     |none=>none
     |some _=>some (.mk 2 T0 T0 ws ks 0 [],1+k1+1+k2+1):=by
 unfold Ei;simp only[List.drop_drop,Nat.add_assoc]<;>rfl
def nK:List A:=[iv 0,iv 0,.sl true [],.sl true [],iv 0,.sl true [],.sl true [],.sl true [],.sl true [],iv 0,.sl true []]
theorem GU {n:Nat} {φ:Prop} {w0:World} {I0:Nat→Prop} {M0:Nm→Nat→Prop} {m0:Mu} (hM:∀ r p b,1≤r→¬ M0 (r::p) b) (R:Nat→Prop) [DecidablePred R] (hR:∀ r,R r→2≤r) {H:Hp} {u k':Nat} {s:List UInt8} {cs:List A} {e:E} (h1:H [1]=⟨u,.cells cs⟩) (hf:∀ H1:Hp,(∀ r p,R r→H1 (r::p)=H (r::p))→FF H1 cs (eL e)) (hH:∀ p,H (0::p)=(CF s k').F 0 p) :
  HK (OM Mx φ Tryz.prog w0 I0 M0 n m0) [.cell 4 73] 1 (eX e) (ov 0 ((CF s k').F 0) (Dj [])) .ret ⟨lk [(4,.pob [1] u 0)],H⟩:=by
 obtain⟨H2,g1,g2⟩:=IE (c:=OM Mx φ Tryz.prog w0 I0 M0 n m0) (s:=lk [(4,.pob [1] u 0)]) (H:=H) R (fun r p b h=>hM r p b (by have:=hR r h;omega)) (r0:=1) (p0:=[]) (fun h=>by have:=hR 1 h;omega) h1 (cs':=eL e) (by simp[A.ones]) hf;refine DQ g1 (AK (r0:=eX e) (by simp[FW,Ar]) rfl fun p=>?_);exact(Ao (f:=H2) (d:=[1]) (o:=0::p) (x:=(⟨u,.cells (eL e)⟩:VOb)) (by simp)).trans ((g2 0 p (fun h=>by have:=hR 0 h;omega)).trans (hH p))
set_option maxHeartbeats 4000000 in
theorem Tu {s:List UInt8} (hs:s.length≤1000000000) {d:Nat} (hd:d≤1000) (hT:s9 d s) (k:Nat) (hk:k≤s.length):NL Mx Tryz.prog 125 (fun r=>[pp r,iv (d+1:Nat)]) (CF s k) (Jv eX s k (Ei (Bd d) (s.drop k))):=by
 refine Ie Mn (by simp) (Ag AJ (Ag AO Al)) (FV Pd) fun w0 I0 M0 m0 hM=>?_;have hdl:(s.drop k).length=s.length-k:=by simp
 have t0:=Ff (s:=s) (k:=k) (c:=123) hk hs (by decide);have hO:∀ x,Ei (Bd d) (s.drop k)=x→(Jv eX s k (Ei (Bd d) (s.drop k))=none)=(x=none):=fun x h=>by rw[h];cases x<;>simp
 unfold Hs;simp;cases e0:AL 123 (s.drop k) with
 |none=>
  rw[e0] at t0;refine AE (.tup []) 0 t0 ⟨rfl,by rw[Fw,e0];rfl⟩ (fun p=>by simp[Aa]) (by simp) (by simp) ?_;simp;exact Au (AF 0 (by simp[AV]))
 |some n0=>
  rw[e0] at t0;obtain⟨rfl,b0⟩:=Bv e0;rw[hdl] at b0;refine Ai 0 t0 (fun p=>by simp[Aa]) (by simp) (by simp) ?_;simp;refine Ax ?_;simp;refine LoopC.le (CZ (d:=[2]) (u:=1) (cs:=sE (.sl true []) (.sl true [])) 7 [4] 4 (by simp[Aa,sE]) rfl (by simp)) ?_;refine pd (K:=.sl true []) (O1:=⟨1,.cells (nK)⟩) hs ((s.drop k).length+1) (k+1) 1 [] _ (by omega) (by omega) (by simp) (fun p=>by simp[Aa]) (by simp[Aa,nK]) (by simp[Aa,sE]) (by simp[Aa]) (fun hN=>?_) (fun ws k1 hW H' v' g0 g1 g2 g4=>?_)
  ·rw[Fw,e0];simp only;rw[show BZ ((s.drop k).length+1) 0 (s.drop (k+1))=none from hN];rfl
  ·have hW':BZ ((s.drop k).length+1) 0 (s.drop (k+1))=some (ws,k1):=hW;have b1:=Ky _ _ _ _ hW';simp only[List.length_drop] at b1;have t2:=Ff (s:=s) (k:=k+1+k1) (c:=124) (by omega) hs (by decide);simp;cases e2:AL 124 (s.drop (k+1+k1)) with
   |none=>
    rw[e2] at t2;refine AE (.tup []) 0 t2 ⟨rfl,by rw[Fw,e0];simp only;rw[hW'];simp only;rw[e2];rfl⟩ (fun p=>by simp[g0]) (by simp) (by simp) ?_;simp;exact Au (AF 0 (by simp[AV]))
   |some n2=>
    rw[e2] at t2;obtain⟨rfl,b2⟩:=Bv e2;simp only[List.length_drop] at b2;refine Ai 0 t2 (fun p=>by simp[g0]) (by simp) (by simp) ?_;simp;refine Ax ?_;simp;refine LoopC.le (CZ (d:=[2]) (u:=1) (cs:=sE (.osl [4] v' 4 0 ws.length) (.sl true [])) 8 [6] 12 (by simp[g2]) rfl (by simp)) ?_;refine LoopC.le (Be [(0,pp 0),(1,iv (d+1:Nat)),(4,.pob [1] 1 0),(5,.pob [2] 1 0)] (by simp)) ?_;refine px (W:=.osl [4] v' 4 0 ws.length) (O1:=⟨1,.cells (nK)⟩) (O4:=⟨v',.arr 4 (ws.map wX)⟩) hs hd hT ((s.drop k).length+1) (k+1+k1+1) ((H' [6]).u+1) [] _ (by omega) (by omega) (by simp) (fun p=>by simp[Aa]) (by simp[Aa,g1]) (by simp[Aa,sE]) (by simp[Aa,g4]) (by simp[Aa]) (fun hN=>?_) (fun ks k2 hK H2 v2 y0 y1 y2 y4 y6=>?_)
    ·rw[Fw,e0];simp only;rw[hW'];simp only;rw[e2];simp only;rw[show Dc (Bd d) ((s.drop k).length+1) 0 (s.drop (k+1+k1+1))=none from hN];rfl
    ·have hK':Dc (Bd d) ((s.drop k).length+1) 0 (s.drop (k+1+k1+1))=some (ks,k2):=hK;have b3:=Qp (Kh d) _ _ _ _ hK';simp only[List.length_drop] at b3;have t4:=Ff (s:=s) (k:=k+1+k1+1+k2) (c:=125) (by omega) hs (by decide);simp;cases e4:AL 125 (s.drop (k+1+k1+1+k2)) with
     |none=>
      rw[e4] at t4;refine AE (.tup []) 0 t4 ⟨rfl,by rw[Fw,e0];simp only;rw[hW'];simp only;rw[e2];simp only;rw[hK'];simp only;rw[e4];rfl⟩ (fun p=>by simp[y0]) (by simp) (by simp) ?_;simp;exact Au (AF 0 (by simp[AV]))
     |some n4=>
      rw[e4] at t4;obtain⟨rfl,b4⟩:=Bv e4;have hM2:Ei (Bd d) (s.drop k)=some (.mk 2 T0 T0 ws ks 0 [],1+k1+1+k2+1):=by rw[Fw,e0];simp only;rw[hW'];simp only;rw[e2];simp only;rw[hK'];simp only;rw[e4]
      rw[hM2];refine Ai 0 t4 (fun p=>by simp[y0]) (by simp) (by simp) ?_;simp;refine Ax ?_;simp[y1,y2,sE,nK,splice,HF];rw[show k+(1+k1+1+k2+1)=k+1+k1+1+k2+1 by omega];refine GU hM (fun r=>r=4∨r=6) (fun r h=>by omega) (e:=.mk 2 T0 T0 ws ks 0 []) (cs:=[iv 2,iv 0,.sl true [],.sl true [],iv 0,.sl true [],.sl true [],.osl [4] v' 4 0 ws.length,.osl [6] v2 12 0 ks.length,iv 0,.sl true []]) (by simp[Aa]) (fun H1 h1=>⟨Ab rfl,Ab rfl,Ae,Ae,Ab rfl,Ae,Ae,DT (f:=wA) (l:=ws) (by rw[h1 4 [] (by simp)];simp[Aa,y4]) rfl (fun x=>by simp),DT (f:=kA) (l:=ks) (by rw[h1 6 [] (by simp)];simp[Aa,y6]) rfl (fun x=>by simp),Ab rfl,Ae,trivial⟩) (fun p=>by simp)
abbrev kN (x:OP):List A:=iv x.kind::iv x.n::DY x.l::eL x.e
theorem lR (x:OP):DV (fun _=>oX x):=GN (cs:=kN x) rfl fun y hy=>by simp at hy;rcases hy with rfl | rfl | rfl | rfl | rfl | rfl | rfl | rfl | rfl | rfl | rfl | rfl | rfl | rfl<;>rfl
theorem Pc {n:Nat} {φ:Prop} {w0:World} {I0:Nat→Prop} {M0:Nm→Nat→Prop} {m0:Mu} {H:Hp} {u k':Nat} {s:List UInt8} {cs:List A} {x:OP} (h1:H [1]=⟨u,.cells cs⟩) (hf:∀ H1:Hp,FF H1 cs (kN x)) (hH:∀ p,H (0::p)=(CF s k').F 0 p) :
  HK (OM Mx φ Tryz.prog w0 I0 M0 n m0) [.cell 6 133] 1 (oX x) (ov 0 ((CF s k').F 0) (Dj [])) .ret ⟨lk [(6,.pob [1] u 0)],H⟩:=by
 obtain⟨H2,g1,g2⟩:=IE (c:=OM Mx φ Tryz.prog w0 I0 M0 n m0) (s:=lk [(6,.pob [1] u 0)]) (H:=H) (fun _=>False) (fun _ _ _ h=>h.elim) (r0:=1) (p0:=[]) (fun h=>h.elim) h1 (cs':=kN x) (by simp[A.ones]) (fun H1 _=>hf H1);refine DQ g1 (AK (r0:=oX x) (by simp[FW,Ar]) rfl fun p=>?_);exact(Ao (f:=H2) (d:=[1]) (o:=0::p) (x:=(⟨u,.cells (kN x)⟩:VOb)) (by simp)).trans ((g2 0 p (fun h=>h.elim)).trans (hH p))
theorem vC {s:List UInt8} {k:Nat} (hk:k≤s.length) (h:Ej (s.drop k) ≠ 0):k<s.length:=by
 rcases Nat.lt_or_ge k s.length with h1 | h1
 ·exact h1
 ·have:k=s.length:=by omega
  subst this;rw[MP] at h;exact(h rfl).elim
theorem eP {c:UInt8} (h1:c ≠ 107) (h2:c ≠ 45) (h3:c ≠ 43) (h4:c ≠ 42):A6 [107,45,43,42] c = -1:=by
 simp[A6,Ne.symm h1,Ne.symm h2,Ne.symm h3,Ne.symm h4]
set_option maxHeartbeats 4000000 in
theorem af {s:List UInt8} (hs:s.length≤1000000000) {d:Nat} (hd:d≤1000) (hT:s9 d s) (l:Int) (k:Nat) (hk:k≤s.length):NL Mx Tryz.prog 171 (fun r=>[pp r,iv l,iv (d+1:Nat)]) (CF s k) (Jv oX s k (CI (Bd d) l (s.drop k))):=by
 refine Ie VR (by simp) (Ag AJ (Ag AO (Ag AO Al))) (FV lR) fun w0 I0 M0 m0 hM=>?_;have hn:=Di s k hk;have ed1:i64.wrap ((d:Int)+1-1)=(d:Int):=H9;simp only[Int.add_sub_cancel] at ed1;have e1:=B0 k;unfold Ox;simp;refine Ai 0 hn (fun p=>by simp[Aa]) (by simp) (by simp) ?_;obtain⟨c,hc⟩:∃ c,c=Ej (s.drop k):=⟨_,rfl⟩;have hi:=Jy [107,45,43,42] c;unfold CI;rw[← hc];have hlt:c ≠ 0→k<s.length:=fun h=>vC hk (by rw[← hc];exact h);have hdd:(s.drop k).drop 1=s.drop (k+1):=by rw[List.drop_drop]
 rw[hdd];by_cases c1:c=107
 ·subst c1;have hlt:=hlt (by decide);rw[show A6 [107,45,43,42] 107=0 by decide] at hi;simp;refine Af hi rfl ?_;simp;refine Ax ?_;rw[EX.eq_1];simp[e1];have t1:=Kj hs (k+1) (by omega);cases e2:Dr 1048576 (s.drop (k+1)) with
  |none=>
   rw[e2] at t1;refine AE (iv 0) 0 t1 ⟨rfl,by simp⟩ (fun p=>by by_cases hp:p=[]<;>simp[hp,Aa]) (by simp) (by simp) ?_;simp[Aa];exact Au (AF 0 (by simp[AV]))
  |some q=>
   obtain⟨n,k1⟩:=q;rw[e2] at t1;refine Ai 0 t1 (fun p=>by by_cases hp:p=[]<;>simp[hp,Aa]) (by simp) (by simp) ?_;simp[Aa,splice];refine Ax ?_;simp[Aa,HF];rw[show k+(1+k1)=k+1+k1 by omega];refine Pc (x:=.mk 0 n [] E0) (cs:=[iv 0,iv n,.sl true [],iv 0,iv 0,.sl true [],.sl true [],iv 0,.sl true [],.sl true [],.sl true [],.sl true [],iv 0,.sl true []]) (by simp) (fun H1=>⟨Ab rfl,Ab rfl,Ae,Ab rfl,Ab rfl,Ae,Ae,Ab rfl,Ae,Ae,Ae,Ae,Ab rfl,Ae,trivial⟩) (fun p=>by simp)
 ·rw[if_neg c1];by_cases c2:c=42
  ·subst c2;have hlt:=hlt (by decide);rw[show A6 [107,45,43,42] 42=3 by decide] at hi;simp;refine Af hi rfl ?_;simp;refine Ax ?_;rw[EX.eq_1];simp[e1,ed1];have t1:=hT (k+1) (by omega);cases e2:Bd d (s.drop (k+1)) with
   |none=>
    rw[e2] at t1;refine AE (eX E0) 0 t1 ⟨rfl,by simp⟩ (fun p=>by by_cases hp:p=[]<;>simp[hp,Aa]) (by simp) (by simp) ?_;simp[Aa];exact Au (AF 0 (by simp[AV]))
   |some q=>
    obtain⟨e,k1⟩:=q;rw[e2] at t1;refine Ai 0 t1 (fun p=>by by_cases hp:p=[]<;>simp[hp,Aa]) (by simp) (by simp) ?_;simp[Aa,splice];refine Ax ?_;simp[Aa,HF];rw[show k+(1+k1)=k+1+k1 by omega];refine Pc (x:=.mk 3 0 [] e) (cs:=[iv 3,iv 0,.sl true []]++eL e) (by simp) (fun H1=>⟨Ab rfl,Ab rfl,Ae,Ab rfl,Ab rfl,Ae,Ae,Ab rfl,Ae,Ae,Ae,Ae,Ab rfl,Ae,trivial⟩) (fun p=>by simp)
  ·rw[if_neg c2];have tree:∀ (kd:Int) (H:Hp),(∀ p,H (0::p)=(CF s (k+1)).F 0 p)→True:=fun _ _ _=>trivial;by_cases c3:c=45
   ·subst c3;have hlt:=hlt (by decide);rw[show A6 [107,45,43,42] 45=1 by decide] at hi;simp;refine Af hi rfl ?_;simp;refine Ax ?_;rw[EX.eq_1];simp[e1];have t1:=Jb hs (k+1) (by omega);cases e2:Cs (s.drop (k+1)) with
    |none=>
     rw[e2] at t1;refine AE (tX T0) 0 t1 ⟨rfl,by simp⟩ (fun p=>by by_cases hp:p=[]<;>simp[hp,Aa]) (by simp) (by simp) ?_;simp[Aa];exact Au (AF 0 (by simp[AV]))
    |some q=>
     obtain⟨t,k1⟩:=q;rw[e2] at t1;refine Ai 0 t1 (fun p=>by by_cases hp:p=[]<;>simp[hp,Aa]) (by simp) (by simp) ?_;simp[Aa,splice];refine Ax ?_;simp[Aa];by_cases hk:t.kind=l
     ·simp[hk];refine Ax ?_;simp[Aa,splice];refine Ax ?_;simp[Aa,HF];rw[show k+(1+k1)=k+1+k1 by omega];refine Pc (x:=.mk 1 0 t.kids E0) (cs:=[iv 1,iv 0,DY t.kids,iv 0,iv 0,.sl true [],.sl true [],iv 0,.sl true [],.sl true [],.sl true [],.sl true [],iv 0,.sl true []]) (by simp) (fun H1=>⟨Ab rfl,Ab rfl,Ae,Ab rfl,Ab rfl,Ae,Ae,Ab rfl,Ae,Ae,Ae,Ae,Ab rfl,Ae,trivial⟩) (fun p=>by simp)
     ·simp[hk];refine AE (.tup []) 0 (C0 (CF s (k+1+k1))) ⟨rfl,by simp⟩ (fun p=>by by_cases hp:p=[]<;>simp[hp,Aa]) (by simp) (by simp) ?_;simp[Aa];exact Au (AF 0 (by simp[AV]))
   ·by_cases c4:c=43
    ·subst c4;have hlt:=hlt (by decide);rw[show A6 [107,45,43,42] 43=2 by decide] at hi;simp;refine Af hi rfl ?_;simp;refine Ax ?_;rw[EX.eq_1];simp[e1];have t1:=Jb hs (k+1) (by omega);cases e2:Cs (s.drop (k+1)) with
     |none=>
      rw[e2] at t1;refine AE (tX T0) 0 t1 ⟨rfl,by simp⟩ (fun p=>by by_cases hp:p=[]<;>simp[hp,Aa]) (by simp) (by simp) ?_;simp[Aa];exact Au (AF 0 (by simp[AV]))
     |some q=>
      obtain⟨t,k1⟩:=q;rw[e2] at t1;refine Ai 0 t1 (fun p=>by by_cases hp:p=[]<;>simp[hp,Aa]) (by simp) (by simp) ?_;simp[Aa,splice];refine Ax ?_;simp[Aa];by_cases hk:t.kind=l
      ·simp[hk];refine Ax ?_;simp[Aa,splice];refine Ax ?_;simp[Aa,HF];rw[show k+(1+k1)=k+1+k1 by omega];refine Pc (x:=.mk 2 0 t.kids E0) (cs:=[iv 2,iv 0,DY t.kids,iv 0,iv 0,.sl true [],.sl true [],iv 0,.sl true [],.sl true [],.sl true [],.sl true [],iv 0,.sl true []]) (by simp) (fun H1=>⟨Ab rfl,Ab rfl,Ae,Ab rfl,Ab rfl,Ae,Ae,Ab rfl,Ae,Ae,Ae,Ae,Ab rfl,Ae,trivial⟩) (fun p=>by simp)
      ·simp[hk];refine AE (.tup []) 0 (C0 (CF s (k+1+k1))) ⟨rfl,by simp⟩ (fun p=>by by_cases hp:p=[]<;>simp[hp,Aa]) (by simp) (by simp) ?_;simp[Aa];exact Au (AF 0 (by simp[AV]))
    ·have hx:=eP c1 c3 c4 c2;rw[hx] at hi;rw[if_neg (by simp[c3,c4])];generalize Ej (s.drop k)=y at *;subst hc;simp;refine Af hi rfl ?_;simp;refine AE (.tup []) 0 (C0 (CF s k)) ⟨rfl,by simp⟩ (fun p=>by by_cases hp:p=[]<;>simp[hp,Aa]) (by simp) (by simp) ?_;simp[Aa];exact Au (AF 0 (by simp[AV]))
end Go.Proofs.YtgkdikddjfgajaaGreatDoor
