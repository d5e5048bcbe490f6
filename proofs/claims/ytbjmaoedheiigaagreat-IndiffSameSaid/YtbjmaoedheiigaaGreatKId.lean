/-
 Texts,merged,without what is not reached.
-/
import Derived.Test.YtbjmaoedheiigaaGreatKIc
set_option linter.unusedSimpArgs false
set_option linter.unusedVariables false
namespace Go.Proofs.YtbjmaoedheiigaaGreat
open Go Go.G Go.Proofs Go.PL
theorem WU {l:List (List Int)} {s a:Int} (ha:0≤a) (k:Nat):((((seg l s).getD []).drop a.toNat)[k]?).getD 0=(B0 l s (a+k)).getD 0:=by
 unfold B0
 rw[if_pos (by omega)]
 cases seg l s with
 |none=>simp
 |some g=>
  simp only[Option.getD_some,Option.bind_some,List.getElem?_drop]
  have:a.toNat+k=(a+k).toNat:=by omega
  rw[this]
theorem kD {l:List (List Int)} (hs:Sg l) {c s a n:Int} (c0:0≤c) (c6:c<6) (n0:0≤n) (n1:n<536870912) (h:FV l s a ((n*D7 c+63) / 64)=true) {i:Int} (i0:0≤i) (i1:i<n) :
  G.Spec Tryz.prog 231 [Gx l ⟨2+c,s,a,0,0,n,0⟩,iv i] (uv (Rm l ⟨2+c,s,a,0,0,n,0⟩ i)):=by
 have hb:=C7 hs h
 have e2:IntKind.i64.wrap c=c:=Af (by omega) (by omega)
 have nz:¬ (2+c=0):=by omega
 have key:∀ w per:Int,Aw c=w→w*per=64→(w=1∨w=8∨w=16∨w=32∨w=64)→MO [(B0 l s (a+i / per)).getD 0] c (i % per)=Rm l ⟨2+c,s,a,0,0,n,0⟩ i:=fun w per hw hp hw'=>by
  unfold Rm MO
  simp only[show 2+c-2=c by omega,hw]
  have hk:(i % per*w / 64).toNat=0∧i % per*w % 64=i*w % 64∧i*w / 64=i / per∧¬ (i % per<0)∧¬ 1099511627776<i % per:=by
   rcases hw' with rfl | rfl | rfl | rfl | rfl
   ·have:per=64:=by omega
    subst this;omega
   ·have:per=8:=by omega
    subst this;omega
   ·have:per=4:=by omega
    subst this;omega
   ·have:per=2:=by omega
    subst this;omega
   ·have:per=1:=by omega
    subst this;omega
  obtain⟨k1,k2,k3,k4,k5⟩:=hk
  rw[if_neg (by omega),if_neg (by omega),k1,k2,k3]
  have hd0:0≤i / per:=by rw[← k3];rcases hw' with rfl | rfl | rfl | rfl | rfl<;>omega
  have:=WU (l:=l) (s:=s) (a:=a) hb.1 (i / per).toNat
  rw[show((i / per).toNat:Int)=i / per by omega] at this
  rw[this]
  simp
 have e2':IntKind.i64.wrap (2+c-2)=c:=Av
 have hw64:∀ x:Int,0≤(B0 l s x).getD 0∧(B0 l s x).getD 0<18446744073709551616:=fun x=>by
  cases e:B0 l s x with
  |none=>simp
  |some y=>exact DV hs.w e
 refine Al Rz (by simp) fun w0 I0=>?_
 unfold KM
 simp[e2']
 refine Ae (bB c) rfl ?_
 by_cases hc0:c=0
 ·subst hc0
  simp[Aw]
  exact Ao rfl (by simp[Rm,MO,Aw])
 have hx:∃ w per:Int,Aw c=w∧w*per=64∧(w=1∨w=8∨w=16∨w=32∨w=64)∧(per=64∨per=8∨per=4∨per=2∨per=1)∧IntKind.i64.wrap ((64:Int).tdiv w)=per:=by
  have hc:c=1∨c=2∨c=3∨c=4∨c=5:=by omega
  rcases hc with rfl | rfl | rfl | rfl | rfl
  ·exact⟨1,64,rfl,rfl,by omega,by omega,by decide⟩
  ·exact⟨8,8,rfl,rfl,by omega,by omega,by decide⟩
  ·exact⟨16,4,rfl,rfl,by omega,by omega,by decide⟩
  ·exact⟨32,2,rfl,rfl,by omega,by omega,by decide⟩
  ·exact⟨64,1,rfl,rfl,by omega,by omega,by decide⟩
 obtain⟨w,per,hw,hp,hw',hper,ep⟩:=hx
 have hk:=key w per hw hp hw'
 have wn:¬ w<0:=by omega
 have wz:¬ w=0:=by omega
 have pz:¬ per=0:=by omega
 have hq:0≤i / per∧i / per≤i:=by rcases hper with rfl | rfl | rfl | rfl | rfl<;>omega
 have hm:0≤i % per:=Int.emod_nonneg _ pz
 have e3:IntKind.i64.wrap (i.tdiv per)=i / per:=by rw[Int.tdiv_eq_ediv_of_nonneg i0,Af (by omega) (by omega)]
 have e4:IntKind.i64.wrap (a+i / per)=a+i / per:=Af (by omega) (by omega)
 have e5:i.tmod per=i % per:=Int.tmod_eq_emod_of_nonneg i0
 simp[hw,wn,wz,ep,pz,e3,e4,Pj,nz]
 refine Ae (Na l hs.b s (a+i / per)) rfl ?_
 simp[pz,e5]
 have hx:=hw64 (a+i / per)
 refine Ae ((kr (g:=[(B0 l s (a+i / per)).getD 0]) (fun x hx'=>by simp at hx';rw[hx'];exact hx) (by simp) c (i % per)).soft (by simp[A.softL,A.soft])) rfl ?_
 simp
 rw[hk]
 exact Ab rfl
theorem Ka {l:List (List Int)} (hs:Sg l) {r:Rf} (hr:Fj l r) (i:Int):G.Spec Tryz.prog 194 [Gx l r,iv i] (.tup [Gx l (BT l r i).1,iv (BT l r i).2]):=by
 refine Al RX (by simp) fun w0 I0=>?_
 unfold Lb
 simp
 refine C6 rfl (fun _=>DM l r) (fun e=>by simp[e]) (by simp) ?_
 by_cases hi:i<0∨nk r≤i
 ·have hd:(decide (i<0) || decide (nk r≤i))=true:=by simpa using hi
  simp[hd]
  exact Ao (DF (by simp)) (by simp[BT,hi,Rf.zero,Pj])
 ·have hd:(decide (i<0) || decide (nk r≤i))=false:=by simpa using hi
  have hi0:0≤i:=by omega
  have hi1:i<nk r:=by omega
  have hk:=JC hr
  rw[BT,if_neg hi]
  cases hr with
  |zero=>simp[nk,Rf.zero] at hi1;omega
  |str s a d k a1 a2 a3 a4 h=>
   have hb:=C7 hs h
   have e1:IntKind.i64.wrap (IntKind.i64.wrap (a+d)+i)=a+d+i:=by
    rw[Af (n:=a+d) (by omega) (by omega),Af (by omega) (by omega)]
   simp[hd,Pj,e1]
   refine Ae (Zj hs s (a+d+i)) rfl ?_
   simp
   exact Ab (DF (by simp))
  |dat c s a n a1 a2 a3 a4 h=>
   have n0:¬ (2+c=0):=by omega
   have n1:¬ (2+c=1):=by omega
   have n8:¬ (2+c=8):=by omega
   have n9:¬ (2+c=9):=by omega
   have hn:i<n:=by simpa[nk,n1] using hi1
   have:=kD hs a1 a2 a3 a4 h hi0 hn
   simp[hd,n1,n8,n9]
   refine Ae this (by simp) ?_
   simp
   exact Ao (DF (by simp)) (by simp[Pj,n0])
  |ptrs s a n a1 a2 h=>
   have hb:=C7 hs h
   have e1:IntKind.i64.wrap (a+i)=a+i:=Af (by omega) (by omega)
   simp[hd,Pj,e1]
   refine Ae (Zj hs s (a+i)) rfl ?_
   simp
   exact Ab (DF (by simp))
  |comp s a d k n a1 a2 a3 a4 a5 a6 h=>
   have hb:=C7 hs h
   have hn:i<n:=by simpa[nk] using hi1
   have m1:0≤i*(d+k):=Int.mul_nonneg hi0 (by omega)
   have m2:i*(d+k)≤n*(d+k):=Om (by omega) (by omega)
   have e1:IntKind.i64.wrap (d+k)=d+k:=Af (by omega) (by omega)
   have e2:IntKind.i64.wrap (i*(d+k))=i*(d+k):=Af (by omega) (by omega)
   have e3:IntKind.i64.wrap (a+i*(d+k))=a+i*(d+k):=Af (by omega) (by omega)
   simp[hd,Pj,e1,e2,e3]
   exact Ao (DF (by simp)) (by simp[Pj])
  |atom n a1 a2=>simp[nk] at hi1;omega
theorem CR {l:List (List Int)} {r:Rf} {t:T} (h:Az l r t):Ud r=t.words.length∧∀ (i:Nat) (hi:i<t.words.length),Md l r i=t.words[i]:=by
 cases h with
 |mk _ _ hr hk hw hn he hm=>
  have hl:Ud r=(BK l r).length:=by
   cases hr with
   |str s a d k a1 a2 a3 a4 h=>
    obtain⟨h1,h2,h3,h4,h5,e,h6⟩:=LN h
    simp[Ud,BK,part,e]
    omega
   |dat c s a n a1 a2 a3 a4 h=>
    have:¬ (2+c=10):=by omega
    have h1:¬ (2+c=1):=by omega
    simp[Ud,BK,this,h1]
   |_=>simp[Ud,BK,Rf.zero]
  rw[← hw]
  refine⟨hl,fun i hi=>?_⟩
  have hi':(i:Int)<Ud r:=by rw[hl];omega
  rw[Md,if_neg (by omega)]
  cases hr with
  |str s a d k a1 a2 a3 a4 h=>
   obtain⟨h1,h2,h3,h4,h5,e,h6⟩:=LN h
   simp[BK,part,e]
   have:=WU (l:=l) (s:=s) (a:=a) h3 i
   rw[e] at this
   simp at this
   rw[← this,List.getElem?_eq_getElem (by simp[Ud] at hi';omega)]
   simp
  |atom n a1 a2=>
   simp[BK] at hi ⊢
  |dat c s a n a1 a2 a3 a4 h=>
   have:¬ (2+c=10):=by omega
   have h1:¬ (2+c=1):=by omega
   simp[Ud,this,h1] at hi'
   omega
  |_=>simp[Ud,Rf.zero] at hi'<;>omega
theorem Ce {l:List (List Int)} {r:Rf} {t:T} (h:Az l r t):Fj l r:=by cases h;assumption
theorem Cv {l:List (List Int)} {r:Rf} {t:T} (h:Az l r t):r.kind=t.kind:=by cases h;assumption
theorem GI {l:List (List Int)} {r:Rf} {t:T} (h:Az l r t):nk r=t.kids.length:=by cases h;assumption
theorem Fq {l:List (List Int)} {r:Rf} {t:T} (h:Az l r t) {i:Nat} (hi:i<t.kids.length):(BT l r i).2=0∧Az l (BT l r i).1 t.kids[i]:=by
 cases h with
 |mk _ _ hr hk hw hn he hm=>exact⟨he i hi,hm i hi⟩
theorem PM {l:List (List Int)} {r:Rf} {t:T} (h:Az l r t):dU t:=fun h0=>by
 have hk:=Cv h
 have hw:=(CR h).1
 have hn:=GI h
 have hr:=Ce h
 rw[h0] at hk
 have:Ud r=0∧nk r=0:=by
  cases hr<;>simp[Ud,nk,Rf.zero] at hk ⊢<;>omega
 exact⟨List.eq_nil_of_length_eq_zero (by omega),List.eq_nil_of_length_eq_zero (by omega)⟩
theorem Dk {l:List (List Int)} {r:Rf} {t:T} (h:Az l r t):t.words.length≤65536∧t.kids.length<536870912:=by
 have hw:=(CR h).1
 have hn:=GI h
 have hr:=Ce h
 have:=JC hr
 have:Ud r≤65536:=by
  cases hr<;>simp[Ud,Rf.zero]<;>(try split)<;>omega
 omega
variable {n0:Nat} {w0:World} {I0:Nat→Prop} {Q:Exit→Sta→Prop} {H:Hp}
theorem tD {l:List (List Int)} (hs:Sg l) {r:Rf} {t:T} (hm:Az l r t) (hH:H [0]=⟨1,.cells (V5 l r)⟩) (hq:∀ q,Q (.exit 0) ⟨lk [(1,.pob [0] 1 0),(3,iv (BX t.words).length),(14,bv q)],H⟩):∀ (n:Nat),n≤t.words.length→BX (t.words.take n)=BX t.words →
  LoopC (cx Tryz.prog w0 I0 n0) Jp Q ⟨lk [(1,.pob [0] 1 0),(3,iv n)],H⟩:=by
 have hlen:=Dk hm
 intro n
 induction n with
 |zero=>
  intro hn ht
  refine Ad Ak Jp.eq_1 ?_
  simp
  refine A5 rfl ?_
  have e:(BX t.words).length=0:=by rw[← ht];rfl
  have:=hq false
  rw[e] at this
  simp
  exact this
 |succ n ih=>
  intro hn ht
  have hlt:n<t.words.length:=by omega
  have e:IntKind.i64.wrap (n:Int)=n:=Af (by omega) (by omega)
  have hp:(0:Int)<(n:Int)+1:=by omega
  have hwd:=(CR hm).2 n hlt
  refine Ad Ak Jp.eq_1 ?_
  simp[hp,hH,e]
  refine Gk rfl (fun _=>Gi hs (Ce hm) n) (fun _=>rfl) (by simp) ?_
  rw[hwd]
  by_cases h0:t.words[n]=0
  ·simp[h0,e]
   exact ih (by omega) (by rw[← PV hlt h0];exact ht)
  ·have e2:(BX t.words).length=n+1:=by rw[← ht,PT hlt h0];simp;omega
   have:=hq false
   rw[e2] at this
   simp[h0]
   exact this
theorem sI {l:List (List Int)} (hs:Sg l) {r:Rf} {t:T} (hm:Az l r t):∀ (n:Nat) (H:Hp),H [0]=⟨1,.cells (V5 l r)⟩→n≤t.kids.length→BA (t.kids.take n)=BA t.kids→((BA t.kids).length=0→∀ k q H',Q (.exit 0) ⟨lk [(1,.pob [0] 1 0),(4,iv k),(10,bv q)],H'⟩)→((BA t.kids).length ≠ 0→∀ H',Q .ret ⟨lk [(2,iv (BA t.kids).length),(3,iv 0)],H'⟩) →
  LoopC (cx Tryz.prog w0 I0 n0) Jl Q ⟨lk [(1,.pob [0] 1 0),(4,iv n)],H⟩:=by
 have hlen:=Dk hm
 intro n
 induction n with
 |zero=>
  intro H hH hn ht h1 h2
  refine Ad Ak Jl.eq_1 ?_
  simp
  exact h1 (by rw[← ht];rfl) _ _ _
 |succ n ih=>
  intro H hH hn ht h1 h2
  have hlt:n<t.kids.length:=by omega
  have e:IntKind.i64.wrap (n:Int)=n:=Af (by omega) (by omega)
  have hp:(0:Int)<(n:Int)+1:=by omega
  obtain⟨k1,k2⟩:=Fq hm hlt
  have kk:=Cv k2
  refine Ad Ak Jl.eq_1 ?_
  simp[hp,hH,e]
  refine Ae (Ka hs (Ce hm) n) (by simp) ?_
  simp[k1,Aa]
  refine C6 rfl (fun _=>Ch l (BT l r n).1) (fun _=>rfl) (by simp) ?_
  rw[kk]
  by_cases h0:t.kids[n].kind=0
  ·simp[h0,e]
   exact ih _ (by simp[Aa,hH]) (by omega) (by rw[← PZ hlt h0];exact ht) h1 h2
  ·have e2:(BA t.kids).length=n+1:=by rw[← ht,P2 hlt h0];simp;omega
   simp[h0]
   have:=h2 (by omega) 
   rw[e2] at this
   exact this _
theorem XP {l:List (List Int)} (hs:Sg l) {r:Rf} {t:T} (hm:Az l r t):G.Spec Tryz.prog 149 [Gx l r] (iv (BX t.words).length):=by
 refine Al bE (by simp) fun w0 I0=>?_
 unfold S7
 simp
 refine Ae (Hd l r) (by simp) ?_
 rw[(CR hm).1]
 simp
 refine tD hs hm (by simp) (fun q=>?_) t.words.length (Cc _) (by rw[Bb (Cc _)])
 simp
 exact Ab rfl
theorem XE {l:List (List Int)} (hs:Sg l) {r:Rf} {t:T} (hm:Az l r t):G.Spec Tryz.prog 199 [Gx l r] (.tup [iv (BA t.kids).length,iv 0]):=by
 refine Al ZJ (by simp) fun w0 I0=>?_
 unfold Th
 simp
 refine Ae (DM l r) (by simp) ?_
 rw[GI hm]
 simp
 refine sI hs hm t.kids.length _ (by simp) (Cc _) (by rw[Bb (Cc _)]) (fun h k q H'=>?_) (fun h H'=>?_)
 ·simp
  exact Ao rfl (by simp[h])
 ·simp
  exact Ab rfl
theorem PA {l:List (List Int)} (hs:Sg l) {r:Rf} {t:T} (hm:Az l r t):G.Spec Tryz.prog 233 [Gx l r] (.tup [iv (nK t),iv 0]):=by
 refine Al X2 (by simp) fun w0 I0=>?_
 unfold QB
 simp
 refine Ae (Ch l r) (by simp) ?_
 rw[Cv hm]
 by_cases h1:t.kind=1
 ·simp[h1]
  refine Ae (XE hs hm) (by simp) ?_
  simp
  exact Ao rfl (by simp[nK,h1])
 ·simp[h1]
  refine Ae (DM l r) (by simp) ?_
  rw[GI hm]
  simp
  exact Ao rfl (by simp[nK,h1])
theorem H9 {l:List (List Int)} (hs:Sg l) {r:Rf} {t:T} (hm:Az l r t):G.Spec Tryz.prog 232 [Gx l r] (iv (nW t)):=by
 refine Al Wn (by simp) fun w0 I0=>?_
 unfold Pb
 simp
 refine Ae (Ch l r) (by simp) ?_
 rw[Cv hm]
 by_cases h1:t.kind=1
 ·simp[h1]
  refine Ae (XP hs hm) (by simp) ?_
  simp
  exact Ao rfl (by simp[nW,h1])
 ·simp[h1]
  refine Ae (Hd l r) (by simp) ?_
  rw[(CR hm).1]
  simp
  exact Ao rfl (by simp[nW,h1])
noncomputable def NW (t u:T):Bool:=by classical exact decide (t.kind=u.kind∧nW t=nW u∧nK t=nK u∧∀ i:Nat,i<nW t→t.words[i]? = u.words[i]?)
theorem alikeB_iff {t u:T}:NW t u=true ↔ t.kind=u.kind∧nW t=nW u∧nK t=nK u∧∀ i:Nat,i<nW t→t.words[i]? = u.words[i]?:=by simp[NW]
theorem oW {l m:List (List Int)} (hl:Sg l) (hm:Sg m) {r s:Rf} {t u:T} (ht:Az l r t) (hu:Az m s u) (hW:nW t=nW u) (hA:H [0]=⟨1,.cells (V5 l r)⟩) (hB:H [1]=⟨1,.cells (V5 m s)⟩) {k:Int}:∀ (j i:Nat),i+j=nW t→(∀ x:Nat,x<i→t.words[x]? = u.words[x]?) →
  ((∀ x:Nat,x<nW t→t.words[x]? = u.words[x]?)→∀ i' q,Q (.exit 0) ⟨lk [(2,.pob [0] 1 0),(3,.pob [1] 1 0),(7,iv k),(10,.fnc 150 [] []),(46,iv (nW t)),(47,iv i'),(48,bv q)],H⟩) →
  (¬ (∀ x:Nat,x<nW t→t.words[x]? = u.words[x]?)→Q .ret ⟨lk [(4,iv 0),(5,bv false),(6,iv 0)],H⟩) →
  LoopC (cx Tryz.prog w0 I0 n0) GP Q ⟨lk [(2,.pob [0] 1 0),(3,.pob [1] 1 0),(7,iv k),(10,.fnc 150 [] []),(46,iv (nW t)),(47,iv i)],H⟩:=by
 have h1:=Dk ht
 have h2:=Dk hu
 have w1:=Xu t
 have w2:=Xu u
 intro j
 induction j with
 |zero=>
  intro i hi he hq hq2
  have:i=nW t:=by omega
  subst this
  refine Ad Ak GP.eq_1 ?_
  simp
  exact hq he _ _
 |succ j ih=>
  intro i hi he hq hq2
  have hlt:i<nW t:=by omega
  have lt1:i<t.words.length:=by omega
  have lt2:i<u.words.length:=by omega
  have hlt':(i:Int)<nW t:=by omega
  have ei:IntKind.i64.wrap ((i:Int)+1)=((i+1:Nat):Int):=Af (by omega) (by omega)
  refine Ad Ak GP.eq_1 ?_
  simp[hlt,hA,hB]
  refine Lo rfl (Gi hl (Ce ht) i) (by simp) ?_
  rw[(CR ht).2 i lt1]
  simp[hA,hB]
  refine Lo rfl (Gi hm (Ce hu) i) (by simp) ?_
  rw[(CR hu).2 i lt2]
  by_cases hx:t.words[i]=u.words[i]
  ·simp[hx,ei]
   refine ih (i+1) (by omega) (fun x hx'=>?_) hq hq2
   by_cases e:x=i
   ·subst e;rw[List.getElem?_eq_getElem lt1,List.getElem?_eq_getElem lt2,hx]
   ·exact he x (by omega)
  ·simp[hx]
   refine hq2 fun hh=>hx ?_
   have:=hh i hlt
   rw[List.getElem?_eq_getElem lt1,List.getElem?_eq_getElem lt2] at this
   exact Option.some.inj this
theorem eT {l m:List (List Int)} (hl:Sg l) (hm:Sg m) {r s:Rf} {t u:T} (ht:Az l r t) (hu:Az m s u):G.Spec Tryz.prog 197 [Gx l r,Gx m s] (.tup [iv (if NW t u=true then nK t else 0),bv (NW t u),iv 0]):=by
 refine Al Wq (by simp) fun w0 I0=>?_
 unfold OW
 simp
 refine Ae (Ch l r) (by simp) ?_
 simp
 refine Ae (Ch m s) (by simp) ?_
 rw[Cv ht,Cv hu]
 have no:¬ (t.kind=u.kind∧nW t=nW u∧nK t=nK u∧∀ i:Nat,i<nW t→t.words[i]? = u.words[i]?)→NW t u=false:=fun h=>by rw[Bool.eq_false_iff];exact fun e=>h (alikeB_iff.1 e)
 by_cases h1:t.kind=u.kind
 ·simp[h1]
  refine C6 rfl (fun _=>H9 hl ht) (fun _=>rfl) (by simp) ?_
  simp
  refine C6 rfl (fun _=>H9 hm hu) (fun _=>rfl) (by simp) ?_
  by_cases h2:nW t=nW u
  ·simp[h2]
   refine Ae (PA hl ht) (by simp) ?_
   simp
   refine Ae (PA hm hu) (by simp) ?_
   by_cases h3:nK t=nK u
   ·simp[h3]
    refine Ae (H9 hl ht) (by simp) ?_
    simp
    refine oW hl hm ht hu h2 (by simp) (by simp) (nW t) 0 (by omega) (fun x hx=>by omega) (fun hh i' q=>?_) (fun hh=>?_)
    ·have:NW t u=true:=alikeB_iff.2 ⟨h1,h2,h3,hh⟩
     simp
     exact Ao rfl (by simp[this,h3])
    ·have:=no fun ⟨_,_,_,h⟩=>hh h
     simp
     exact Ao rfl (by simp[this])
   ·have:=no fun ⟨_,_,h,_⟩=>h3 h
    simp[h3]
    refine⟨fun h=>absurd (by omega) h3,fun _=>?_⟩
    exact Ao rfl (by simp[this])
  ·have:=no fun ⟨_,h,_,_⟩=>h2 h
   simp[h2]
   refine⟨fun h=>absurd (by omega) h2,fun _=>?_⟩
   exact Ao rfl (by simp[this])
 ·have:=no fun ⟨h,_,_,_⟩=>h1 h
  simp[h1]
  refine A5 rfl ?_
  simp
  refine A5 rfl ?_
  simp
  exact Ao rfl (by simp[this])
theorem jd {t u:T} (ht:dU t) (hu:dU u):Lz t u=true ↔ NW t u=true∧∀ i:Nat,i<nK t→(t.kids[i]?).map Ai=(u.kids[i]?).map Ai:=by
 rw[eqT_iff,tU ht hu,alikeB_iff]
 constructor
 ·rintro⟨a,b,c,d,e⟩;exact⟨⟨a,b,c,d⟩,e⟩
 ·rintro⟨⟨a,b,c,d⟩,e⟩;exact⟨a,b,c,d,e⟩
section
variable {n0:Nat} {w0:World} {I0:Nat→Prop} {Q:Exit→Sta→Prop}
abbrev AcD (l m:List (List Int)) (t u:T):Prop:=∀ r s,Az l r t→Az m s u→G.Spec Tryz.prog 147 [Gx l r,Gx m s] (.tup [bv (Lz t u),iv 0])
theorem jU {l m:List (List Int)} (hl:Sg l) (hm:Sg m) {r s:Rf} {t u:T} (ht:Az l r t) (hu:Az m s u) (hK:nK t=nK u) (ih:∀ c,c ∈ t.kids→∀ d,AcD l m c d):∀ (j i:Nat) (H:Hp),i+j=nK t→H [0]=⟨1,.cells (V5 l r)⟩→H [1]=⟨1,.cells (V5 m s)⟩→(∀ x:Nat,x<i→(t.kids[x]?).map Ai=(u.kids[x]?).map Ai) →
  ((∀ x:Nat,x<nK t→(t.kids[x]?).map Ai=(u.kids[x]?).map Ai)→∀ i' q H',Q (.exit 0) ⟨lk [(2,.pob [0] 1 0),(3,.pob [1] 1 0),(29,iv (nK t)),(30,iv i'),(31,bv q)],H'⟩) →
  (¬ (∀ x:Nat,x<nK t→(t.kids[x]?).map Ai=(u.kids[x]?).map Ai)→∀ H',Q .ret ⟨lk [(4,bv false),(5,iv 0)],H'⟩) →
  LoopC (cx Tryz.prog w0 I0 n0) Gc Q ⟨lk [(2,.pob [0] 1 0),(3,.pob [1] 1 0),(29,iv (nK t)),(30,iv i)],H⟩:=by
 have h1:=Dk ht
 have h2:=Dk hu
 have w1:=Z8 t
 have w2:=Z8 u
 intro j
 induction j with
 |zero=>
  intro i H hi hA hB he hq hq2
  have:i=nK t:=by omega
  subst this
  refine Ad Ak Gc.eq_1 ?_
  simp
  exact hq he _ _ _
 |succ j ihj=>
  intro i H hi hA hB he hq hq2
  have hlt:i<nK t:=by omega
  have lt1:i<t.kids.length:=by omega
  have lt2:i<u.kids.length:=by omega
  have ei:IntKind.i64.wrap ((i:Int)+1)=((i+1:Nat):Int):=Af (by omega) (by omega)
  obtain⟨a1,a2⟩:=Fq ht lt1
  obtain⟨b1,b2⟩:=Fq hu lt2
  have ihc:=ih _ (BI lt1) u.kids[i] _ _ a2 b2
  refine Ad Ak Gc.eq_1 ?_
  simp[hlt,hA]
  refine Ae (Ka hl (Ce ht) i) (by simp) ?_
  simp[a1,Aa,hB]
  refine Ae (Ka hm (Ce hu) i) (by simp) ?_
  simp[b1,Aa]
  refine Ae ihc (by simp) ?_
  cases hq':Lz t.kids[i] u.kids[i] with
  |true=>
   simp[ei]
   refine ihj (i+1) _ (by omega) (by simp[Aa,hA]) (by simp[Aa,hB]) (fun x hx'=>?_) hq hq2
   by_cases e:x=i
   ·subst e;rw[List.getElem?_eq_getElem lt1,List.getElem?_eq_getElem lt2];simp[eqT_iff.1 hq']
   ·exact he x (by omega)
  |false=>
   simp
   refine hq2 (fun hh=>?_) _
   have:=hh i hlt
   rw[List.getElem?_eq_getElem lt1,List.getElem?_eq_getElem lt2] at this
   have:=eqT_iff.2 (Option.some.inj this)
   rw[hq'] at this
   cases this
end
theorem Tc {l m:List (List Int)} (hl:Sg l) (hm:Sg m):∀ t u,AcD l m t u:=by
 refine T.ind fun k w ks ih u r s ht hu=>?_
 have hb:=jd (PM ht) (PM hu)
 refine Al U5 (by simp) fun w0 I0=>?_
 unfold ND
 simp
 refine Ae (eT hl hm ht hu) (by simp) ?_
 cases ha:NW (.mk k w ks) u with
 |false=>
  have:Lz (.mk k w ks) u=false:=by rw[Bool.eq_false_iff];intro e;have:=(hb.1 e).1;rw[ha] at this;cases this
  simp
  exact Ao rfl (by simp[this])
 |true=>
  obtain⟨_,_,hK,_⟩:=alikeB_iff.1 ha
  simp
  refine jU hl hm ht hu hK (fun c hc d=>ih c hc d) (nK (.mk k w ks)) 0 _ (by omega) (by simp) (by simp) (fun x hx=>by omega) (fun hh i' q H'=>?_) (fun hh H'=>?_)
  ·have:=hb.2 ⟨ha,hh⟩
   simp
   exact Ao rfl (by simp[this])
  ·have:Lz (.mk k w ks) u=false:=by rw[Bool.eq_false_iff];intro e;exact hh (hb.1 e).2
   simp
   exact Ao rfl (by simp[this])
abbrev yb (r:Rf):A:=.agg [iv r.kind,iv r.s,iv r.at_,iv r.data,iv r.kids,iv r.count,uv r.n]
def oc (g:List Int) (i:Int):Int:=if i<0 then 0 else ((g[(i / 64).toNat]?).getD 0) / 2 ^ (i % 64).toNat % 2
theorem so {i:Int} (hi:0≤i):∀ (m:Nat) (x j:Int),0≤x→x<18446744073709551616→0≤j→j+m=i % 64→(∀ j' b,Q (.exit 0) ⟨lk [(1,iv i),(5,uv (x / 2 ^ m)),(6,iv j'),(24,bv b)],H⟩) →
  LoopC (cx Tryz.prog w0 I0 n0) EO Q ⟨lk [(1,iv i),(5,uv x),(6,iv j)],H⟩:=by
 have e:i.tmod 64=i % 64:=Int.tmod_eq_emod_of_nonneg hi
 intro m
 induction m with
 |zero=>
  intro x j h0 h1 h2 h3 hq
  have:j=i % 64:=by simpa using h3
  subst this
  refine Ad Ak EO.eq_1 ?_
  simp[e]
  simpa using hq _ _
 |succ m ih=>
  intro x j h0 h1 h2 h3 hq
  refine Ad Ak EO.eq_1 ?_
  have hj:j<i % 64:=by omega
  simp[e,hj]
  rw[Af (by omega) (by omega),Int.tdiv_eq_ediv_of_nonneg h0,AE (by omega) (by omega)]
  exact ih _ _ (by omega) (by omega) (by omega) (by omega) (by rw[Rx];exact hq)
theorem kJ {g:List Int} (hg:∀ x,x ∈ g→0≤x∧x<18446744073709551616) {i:Int} (hi1:i<1000000000000000000) (hi:0≤i):G.Spec Tryz.prog 196 [DP g,iv i] (uv (oc g i)):=by
 refine Al R8 (by simp) fun w0 I0=>?_
 unfold K8
 have e2:IntKind.i64.wrap (i.tdiv 64)=i / 64:=by rw[Int.tdiv_eq_ediv_of_nonneg hi,Af (by omega) (by omega)]
 have hn:¬ i<0:=by omega
 have hd0:0≤i / 64:=by omega
 by_cases hr:(g.length:Int)≤i / 64
 ·have en:g[(i / 64).toNat]? = none:=List.getElem?_eq_none (by omega)
  simp[hn,e2,hr,hi]
  exact Ao rfl (by simp[oc,en])
 ·have hlt:(i / 64).toNat<g.length:=by omega
  have hlt':i / 64<g.length:=by omega
  have hx:=hg _ (BI hlt)
  simp[hn,e2,hr,hi,hd0,hlt,hlt']
  have hx0:0≤g[(i / 64).toNat] / 2 ^ (i % 64).toNat:=Int.ediv_nonneg hx.1 (Int.le_of_lt (Int.pow_pos (by decide)))
  have hx1:g[(i / 64).toNat] / 2 ^ (i % 64).toNat<18446744073709551616:=Int.lt_of_le_of_lt (Int.ediv_le_self _ hx.1) hx.2
  refine so hi (i % 64).toNat _ 0 hx.1 hx.2 (by omega) (by omega) fun j' b=>?_
  simp[Int.tmod_eq_emod_of_nonneg hx0]
  exact Ao rfl (by simp[oc,hn,hlt])
theorem rS (y:Int) (m k:Nat):y / 2 ^ (m+1) % 2 ^ k*2+y / 2 ^ m % 2=y / 2 ^ m % 2 ^ (k+1):=by
 have e:y / 2 ^ (m+1)=y / 2 ^ m / 2:=by
  rw[Int.pow_succ,Int.ediv_ediv_of_nonneg (Int.le_of_lt (Int.pow_pos (by decide)))]
 rw[e]
 generalize y / 2 ^ m=z
 have e2:z % 2 ^ (k+1)=z-2 ^ (k+1)*(z / 2 ^ (k+1)):=Int.emod_def ..
 have e3:z / 2 ^ (k+1)=z / 2 / 2 ^ k:=by rw[Int.pow_succ,Int.mul_comm,Int.ediv_ediv_of_nonneg (by decide)]
 have e4:z / 2 % 2 ^ k=z / 2-2 ^ k*(z / 2 / 2 ^ k):=Int.emod_def ..
 rw[e2,e3,e4,Int.pow_succ,Int.mul_comm (2 ^ k) 2,Int.mul_assoc]
 generalize 2 ^ k*(z / 2 / 2 ^ k)=q
 omega
theorem x9 {g:List Int} {i w:Int} (hi:0≤i) (hw:w=1∨w=8∨w=16∨w=32∨w=64) (m:Nat) (hm:(m:Int)<w):oc g (i*w+m)=((g[(i*w / 64).toNat]?).getD 0) / 2 ^ (i*w % 64).toNat / 2 ^ m % 2:=by
 have hp:0≤i*w:=by rcases hw with rfl | rfl | rfl | rfl | rfl<;>omega
 have h1:(i*w+m) / 64=i*w / 64∧(i*w+m) % 64=i*w % 64+m:=by
  rcases hw with rfl | rfl | rfl | rfl | rfl<;>omega
 unfold oc
 rw[if_neg (by omega),h1.1,h1.2,Int.ediv_ediv_of_nonneg (Int.le_of_lt (Int.pow_pos (by decide))),← Int.pow_add]
 have:(i*w % 64+(m:Int)).toNat=(i*w % 64).toNat+m:=by omega
 rw[this]
theorem sf {g:List Int} (hg:∀ x,x ∈ g→0≤x∧x<18446744073709551616) {i w y:Int} (hi:0≤i) (hi1:i≤1099511627776) (hw:w=1∨w=8∨w=16∨w=32∨w=64) (hy:y=((g[(i*w / 64).toNat]?).getD 0) / 2 ^ (i*w % 64).toNat) (y0:0≤y) (y1:y<18446744073709551616):∀ (m:Nat) (k:Nat) (x j:Int),k+m=w→j=(m:Int)-1→x=y / 2 ^ m % 2 ^ k →
  (∀ j' b,Q (.exit 0) ⟨lk [(0,DP g),(2,iv i),(7,iv w),(8,uv (y % 2 ^ w.toNat)),(9,iv j'),(25,bv b)],H⟩) →
  LoopC (cx Tryz.prog w0 I0 n0) EF Q ⟨lk [(0,DP g),(2,iv i),(7,iv w),(8,uv x),(9,iv j)],H⟩:=by
 intro m
 induction m with
 |zero=>
  intro k x j hk hj hx hq
  subst hj
  refine Ad Ak EF.eq_1 ?_
  simp
  have:w.toNat=k:=by omega
  rw[this] at hq
  rw[hx]
  simpa using hq _ _
 |succ m ih=>
  intro k x j hk hj hx hq
  have hj':j=m:=by omega
  subst hj'
  have hm:(m:Int)<w:=by omega
  have hb:0≤i*w∧i*w≤70368744177664:=by rcases hw with rfl | rfl | rfl | rfl | rfl<;>omega
  have e1:IntKind.i64.wrap (i*w)=i*w:=Af (by omega) (by omega)
  have e2:IntKind.i64.wrap (i*w+m)=i*w+m:=Af (by omega) (by omega)
  have e3:IntKind.i64.wrap ((m:Int)-1)=m-1:=Af (by omega) (by omega)
  refine Ad Ak EF.eq_1 ?_
  simp[e1,e2]
  refine Ae (kJ hg (i:=i*w+m) (by omega) (by omega)) rfl ?_
  simp[e3]
  rw[x9 hi hw m hm,← hy]
  have hu:=rS y m k
  have hz0:0≤y / 2 ^ m:=Int.ediv_nonneg y0 (Int.le_of_lt (Int.pow_pos (by decide)))
  have hz1:y / 2 ^ m≤y:=Int.ediv_le_self _ y0
  have p2:(0:Int)<2 ^ (k+1):=Int.pow_pos (by omega)
  have m0:=Int.emod_nonneg (y / 2 ^ m) (by omega:(2:Int) ^ (k+1) ≠ 0)
  have m1:y / 2 ^ m % 2 ^ (k+1)≤y / 2 ^ m:=by
   rw[Int.emod_def]
   have:=Int.mul_nonneg (a:=2 ^ (k+1)) (b:=y / 2 ^ m / 2 ^ (k+1)) (by omega) (Int.ediv_nonneg hz0 (by omega))
   omega
  have p3:(0:Int)<2 ^ k:=Int.pow_pos (by omega)
  have n0:=Int.emod_nonneg (y / 2 ^ (m+1)) (by omega:(2:Int) ^ k ≠ 0)
  rw[← hx] at hu n0
  rw[AE (n:=x*2) (by omega) (by omega),AE (by omega) (by omega)]
  exact ih (k+1) _ _ (by omega) rfl hu hq
theorem kz {g:List Int} (hg:∀ x,x ∈ g→0≤x∧x<18446744073709551616) (c i:Int):G.Spec Tryz.prog 146 [DP g,iv c,iv i] (uv (MO g c i)):=by
 refine Al RH (by simp) fun w0 I0=>?_
 unfold La
 simp
 refine Ae (Il c) rfl ?_
 have hw:=Jh c
 by_cases h0:Aw c<1∨i<0∨1099511627776<i
 ·have e:MO g c i=0:=by unfold MO;rw[if_pos h0]
  rw[e]
  have hd:(decide (Aw c<1) || decide (i<0) || decide (1099511627776<i))=true:=by simp;omega
  simp[hd]
  exact Ab rfl
 ·have hw1:Aw c=1∨Aw c=8∨Aw c=16∨Aw c=32∨Aw c=64:=by omega
  have hd:(decide (Aw c<1) || decide (i<0) || decide (1099511627776<i))=false:=by simp;omega
  have hi0:0≤i:=by omega
  have e:MO g c i=((g[(i*Aw c / 64).toNat]?).getD 0) / 2 ^ (i*Aw c % 64).toNat % 2 ^ (Aw c).toNat:=by unfold MO;rw[if_neg h0]
  rw[e]
  simp[hd]
  clear e hw
  generalize Aw c=w at hw1 h0
  rw[Af (by omega) (by omega)]
  have hx:0≤(g[(i*w / 64).toNat]?).getD 0∧(g[(i*w / 64).toNat]?).getD 0<18446744073709551616:=by
   cases e:g[(i*w / 64).toNat]? with
   |none=>simp
   |some x=>exact hg x (List.mem_of_getElem? e)
  have y0:0≤(g[(i*w / 64).toNat]?).getD 0 / 2 ^ (i*w % 64).toNat:=Int.ediv_nonneg hx.1 (Int.le_of_lt (Int.pow_pos (by decide)))
  have y1:(g[(i*w / 64).toNat]?).getD 0 / 2 ^ (i*w % 64).toNat<18446744073709551616:=Int.lt_of_le_of_lt (Int.ediv_le_self _ hx.1) hx.2
  refine sf hg hi0 (by omega) hw1 rfl y0 y1 w.toNat 0 0 _ (by omega) (by omega) (by simp) fun j' b=>?_
  simp
  exact Ao rfl rfl
theorem Ko (r:Rf):G.Spec Tryz.prog 91 [yb r] (iv (nk r)):=by
 refine Al MQ (by simp) fun w0 I0=>?_
 unfold Hv
 by_cases h1:r.kind=1
 ·simp[h1];exact Ao rfl (by simp[nk,h1])
 ·simp[h1];exact Ao rfl (by simp[nk,h1])
theorem RN {l:List (List Int)} (hs:Sg l) (s a:Int):G.Spec Tryz.prog 46 [RA l,iv s,iv a] (.tup [yb (LK l s a).1,iv (LK l s a).2]):=by
 have hf:=Nl hs.w s a
 refine Al TI (by simp) fun w0 I0=>?_
 unfold Mv
 simp
 refine Ae (VJ l hs.b hs.w s a) rfl ?_
 unfold LK
 generalize BP l s a=x at hf
 obtain⟨x,e⟩:=x
 unfold jZ at hf
 simp only at hf ⊢
 by_cases hc:e ≠ 0∨x.p.kind=0
 ·have hd:(!decide (e=0) || decide (x.p.kind=0))=true:=by simp;omega
  simp[hd,hc]
  exact Ao rfl (by simp[Rf.zero])
 ·have hd:(!decide (e=0) || decide (x.p.kind=0))=false:=by simp;omega
  have he:e=0:=by omega
  obtain h0 | ⟨hk,hsh,hw⟩:=hf he
  ·omega
  have hbd:=C7 hs hw
  rw[if_neg hc]
  simp[hd]
  unfold Y9
  by_cases k1:x.p.kind=1
  ·simp[k1,he]
   exact Ao rfl rfl
  ·have k2:x.p.kind=2:=by omega
   obtain⟨c0,c1,_,_⟩:=hsh.k2 k2
   by_cases c7:x.p.code<7
   ·have e2:IntKind.i64.wrap (2+x.p.code)=2+x.p.code:=Af (by omega) (by omega)
    simp[k1,c7,e2]
    exact⟨Ao rfl rfl,fun h=>absurd h (by omega)⟩
   ·rw[Nt k2 (by omega)] at hw
    have hcnt:=(hsh.k2 k2).2.2
    obtain⟨q1,q2,q3,q4,q5,q6,q7⟩:=LN hw
    simp only[Option.getD_some] at q7
    have q8:x.at_.toNat<l[x.s.toNat].length:=by omega
    have q9:x.at_<l[x.s.toNat].length:=by omega
    have e0:(B0 l x.s x.at_).getD 0=l[x.s.toNat][x.at_.toNat]:=by
     unfold B0
     rw[if_pos q3,q6]
     simp[q8]
    have h0:0≤(B0 l x.s x.at_).getD 0∧(B0 l x.s x.at_).getD 0<18446744073709551616:=by
     cases e:B0 l x.s x.at_ with
     |none=>simp
     |some x=>exact DV hs.w e
    simp[k1,c7,q1,q2,q3,q5,q8,q9,ws]
    unfold Ts
    rw[← e0]
    generalize (B0 l x.s x.at_).getD 0=w at h0
    intro _
    refine Ae (Fi h0.1 h0.2) rfl ?_
    have hsh:=Od h0.1 h0.2
    have ho:=Mj h0.1 h0.2
    have hdp:0≤(CW w).data∧(CW w).data<65536∧0≤(CW w).ptrs∧(CW w).ptrs<65536:=by
     unfold CW
     repeat' split
     all_goals simp
     all_goals omega
    generalize CW w=p at hsh ho hdp
    have hb:-70368744177664≤p.off*(p.data+p.ptrs)∧p.off*(p.data+p.ptrs)≤70368744177664:=by
     have b1:p.off*(p.data+p.ptrs)≤536870912*(p.data+p.ptrs):=Int.mul_le_mul_of_nonneg_right (by omega) (by omega)
     have b2:-536870912*(p.data+p.ptrs)≤p.off*(p.data+p.ptrs):=Int.mul_le_mul_of_nonneg_right (by omega) (by omega)
     omega
    have e1:IntKind.i64.wrap (p.data+p.ptrs)=p.data+p.ptrs:=Af (by omega) (by omega)
    have e2:IntKind.i64.wrap (p.off*(p.data+p.ptrs))=p.off*(p.data+p.ptrs):=Af (by omega) (by omega)
    have e3:IntKind.i64.wrap (x.at_+1)=x.at_+1:=Af (by omega) (by omega)
    by_cases hc:(w ≠ 0∧p.kind ≠ 1)∨p.off<0∨x.p.count<p.off*(p.data+p.ptrs)
    ·have hd:(((!decide (w=0)&&!decide (p.kind=1)) || decide (p.off<0)) || decide (x.p.count<p.off*(p.data+p.ptrs)))=true:=by simp;omega
     rw[if_pos hc]
     simp[e1,e2,hd]
     exact Ao rfl (by simp[Rf.zero])
    ·have hd:(((!decide (w=0)&&!decide (p.kind=1)) || decide (p.off<0)) || decide (x.p.count<p.off*(p.data+p.ptrs)))=false:=by simp;omega
     rw[if_neg hc]
     simp[e1,e2,e3,hd]
     exact Ao rfl rfl
theorem Uo {l:List (List Int)} (hs:Sg l) {r:Rf} (hr:Fj l r) (i:Int):G.Spec Tryz.prog 92 [yb r,RA l,iv i] (.tup [yb (BT l r i).1,iv (BT l r i).2]):=by
 refine Al Nh (by simp) fun w0 I0=>?_
 unfold Ij
 simp
 refine C6 rfl (fun _=>Ko r) (fun e=>by simp[e]) (by simp) ?_
 by_cases hi:i<0∨nk r≤i
 ·have hd:(decide (i<0) || decide (nk r≤i))=true:=by simpa using hi
  simp[hd]
  exact Ao rfl (by simp[BT,hi,Rf.zero])
 ·have hd:(decide (i<0) || decide (nk r≤i))=false:=by simpa using hi
  have hi0:0≤i:=by omega
  have hi1:i<nk r:=by omega
  have hk:=JC hr
  rw[BT,if_neg hi]
  cases hr with
  |zero=>simp[nk,Rf.zero] at hi1;omega
  |str s a d k a1 a2 a3 a4 h=>
   have hb:=C7 hs h
   have e1:IntKind.i64.wrap (IntKind.i64.wrap (a+d)+i)=a+d+i:=by
    rw[Af (n:=a+d) (by omega) (by omega),Af (by omega) (by omega)]
   simp[hd,e1]
   refine Ae (RN hs s (a+d+i)) rfl ?_
   simp
   exact Ao rfl rfl
  |dat c s a n a1 a2 a3 a4 h=>
   have n1:¬ (2+c=1):=by omega
   have n8:¬ (2+c=8):=by omega
   have n9:¬ (2+c=9):=by omega
   obtain⟨q1,q2,q3,q4,q5,q6,q7⟩:=LN h
   have hz:0≤(n*D7 c+63) / 64:=q4
   have q8:a≤l[s.toNat].length:=by omega
   have e2:IntKind.i64.wrap (2+c-2)=2+c-2:=Af (by omega) (by omega)
   have et:List.take (l[s.toNat].length-a.toNat) (List.drop a.toNat (List.map uv l[s.toNat]))=(l[s.toNat].drop a.toNat).map uv:=by
    rw[Bb (by simp),List.map_drop]
   simp[hd,n1,n8,n9,q1,q2,q3,q5,q8,e2,et]
   refine nN (L:=[DP (l[s.toNat].drop a.toNat),iv (2+c-2),iv i]) (by simp) (kz (fun x hx=>hs.w _ (BI q5) x (V4 hx)) (2+c-2) i) rfl ?_
   simp
   exact Ao rfl (by simp[Rm,q6])
  |ptrs s a n a1 a2 h=>
   have hb:=C7 hs h
   have e1:IntKind.i64.wrap (a+i)=a+i:=Af (by omega) (by omega)
   simp[hd,e1]
   refine Ae (RN hs s (a+i)) rfl ?_
   simp
   exact Ao rfl rfl
  |comp s a d k n a1 a2 a3 a4 a5 a6 h=>
   have hb:=C7 hs h
   have hn:i<n:=by simpa[nk] using hi1
   have m1:0≤i*(d+k):=Int.mul_nonneg hi0 (by omega)
   have m2:i*(d+k)≤n*(d+k):=Om (by omega) (by omega)
   have e1:IntKind.i64.wrap (d+k)=d+k:=Af (by omega) (by omega)
   have e2:IntKind.i64.wrap (i*(d+k))=i*(d+k):=Af (by omega) (by omega)
   have e3:IntKind.i64.wrap (a+i*(d+k))=a+i*(d+k):=Af (by omega) (by omega)
   simp[hd,e1,e2,e3]
   exact Ao rfl rfl
  |atom n a1 a2=>simp[nk] at hi1;omega
theorem Mo {l:List (List Int)} (hs:Sg l) {r:Rf} (hr:Fj l r):G.Spec Tryz.prog 90 [yb r,RA l] (DP (BK l r)):=by
 refine Al LU (by simp) fun w0 I0=>?_
 unfold GK
 by_cases h10:r.kind=10
 ·simp[h10]
  have:BK l r=[r.n]:=by simp[BK,h10]
  rw[this]
  exact An
 by_cases h1:r.kind=1
 ·cases hr with
  |str s a d k a1 a2 a3 a4 h=>
   obtain⟨q1,q2,q3,q4,q5,q6,q7⟩:=LN h
   have hbd:=C7 hs h
   have e1:IntKind.i64.wrap (a+d)=a+d:=Af (by omega) (by omega)
   have g1:a≤a+d:=by omega
   have g2:a+d≤l[s.toNat].length:=by omega
   have g3:=hs.b _ (BI q5)
   have g4:0≤a+d:=by omega
   have g5:a.toNat≤(a+d).toNat:=by omega
   have g6:(a+d).toNat≤l[s.toNat].length:=by omega
   have g7:max (a+d) 0=a+d:=by omega
   simp[e1,q1,q2,q3,q5,g1,g2,g4,g5,g6,g7]
   have gl:(List.take ((a+d).toNat-a.toNat) (List.drop a.toNat (List.map uv l[s.toNat])))=(part l s a d).map uv:=by
    simp only[part,q6,Option.getD_some,List.map_take,List.map_drop]
    congr 1
    omega
   refine⟨by omega,?_⟩
   rw[gl]
   have:BK l ⟨1,s,a,d,k,0,0⟩=part l s a d:=by simp[BK]
   rw[this]
   exact BQ (sz:=1) (by simp) (by simp[part,q6];omega) (by simp)
  |dat c s a n a1 a2 a3 a4 h=>simp at h1;omega
  |_=>simp[Rf.zero] at h1
 ·have:BK l r=[]:=by simp[BK,h1,h10]
  rw[this]
  simp[h1,h10]
  exact An
abbrev LB (l:List (List Int)) (B:Int) (rec:Rf→Int→T × Int × Int):Prop:=∀ r,Fj l r→∀ left:Int,0≤left→left≤B→0≤(rec r left).2.1∧(rec r left).2.1≤B
theorem V3 {B:Int} {f:Nat→Int→T × Int × Int} (hf:∀ i left,0≤left→left≤B→0≤(f i left).2.1∧(f i left).2.1≤B):∀ (m i:Nat) (acc:List T) (left:Int),0≤left→left≤B→0≤(Dy f m i acc left).2.1∧(Dy f m i acc left).2.1≤B
 |0,i,acc,left,h0,h1=>⟨h0,h1⟩
 |m+1,i,acc,left,h0,h1=>by
  rw[Dy]
  have:=hf i left h0 h1
  split
  ·exact this
  ·exact V3 hf m _ _ _ this.1 this.2
theorem ZX {l:List (List Int)} (hw:Zu l) {B:Int} {rec:Rf→Int→T × Int × Int} (h:LB l B rec) {r:Rf} (hr:Fj l r) (i:Nat) (left:Int) (h0:0≤left) (h1:left≤B):0≤(Dh l rec r i left).2.1∧(Dh l rec r i left).2.1≤B:=by
 unfold Dh
 split
 ·exact⟨h0,h1⟩
 ·exact h _ (RG hw hr i) _ h0 h1
theorem az {l:List (List Int)} (hw:Zu l) {B:Int} {rec:Rf→Int→T × Int × Int} (h:LB l B rec):LB l B (JX l rec):=fun r hr left h0 h1=>
 V3 (ZX hw h hr) _ _ _ _ h0 h1
theorem qk {l:List (List Int)} {B:Int}:LB l B (Hn l):=fun r hr left h0 h1=>⟨h0,h1⟩
theorem Xh {l:List (List Int)} {r:Rf} (hr:Fj l r):1≤CU r∧CU r≤100000000000000:=by
 cases hr with
 |zero=>simp[CU,nk,Rf.zero]
 |str s a d k a1 a2 a3 a4 h=>simp[CU];omega
 |dat c s a n a1 a2 a3 a4 h=>simp[CU,nk];rw[if_neg (by omega),if_neg (by omega),if_neg (by omega)];omega
 |ptrs s a n a1 a2 h=>simp[CU,nk];omega
 |comp s a d k n a1 a2 a3 a4 a5 a6 h=>
  simp[CU]
  have m1:0≤n*(1+d+k):=Int.mul_nonneg (by omega) (by omega)
  have m2:n*(1+d+k)≤536870912*(1+d+k):=Om (by omega) (by omega)
  omega
 |atom n a1 a2=>simp[CU,nk]
theorem ae {l:List (List Int)} (hw:Zu l) {B:Int} {r:Rf} (hr:Fj l r) {rec1 rec2:Rf→Int→T × Int × Int} (h1:LB l B rec1) (h2:LB l B rec2) {left:Int} (h3:¬ left<CU r) (h4:left≤B):0≤(Pm l r rec1 rec2 left).2.1∧(Pm l r rec1 rec2 left).2.1≤B:=by
 have:=Xh hr
 unfold Pm
 refine V3 (ZX hw ?_ hr) _ _ _ _ (by omega) (by omega)
 split
 ·exact az hw h2
 ·split
  ·exact h1
  ·exact qk
theorem EZ {l:List (List Int)} (hw:Zu l) {B:Int}:∀ d:Nat,LB l B (Cb l d)
 |0,r,hr,left,h0,h1=>by
  rw[Cb];split<;>exact⟨h0,h1⟩
 |1,r,hr,left,h0,h1=>by
  rw[Cb]
  split
  ·exact⟨h0,h1⟩
  ·split
   ·exact⟨h0,h1⟩
   ·split
    ·exact⟨h0,h1⟩
    ·rename_i hc
     exact ae hw hr (EZ hw 0) (fun r hr left h0 h1=>⟨h0,h1⟩) hc h1
 |d+2,r,hr,left,h0,h1=>by
  rw[Cb]
  split
  ·exact⟨h0,h1⟩
  ·split
   ·exact⟨h0,h1⟩
   ·rename_i hc
    exact ae hw hr (EZ hw (d+1)) (EZ hw d) hc h1
abbrev M3 (x:T × Int × Int):A:=.tup [tX x.1,iv x.2.1,iv x.2.2]
abbrev raL (r:Rf):List A:=[iv r.kind,iv r.s,iv r.at_,iv r.data,iv r.kids,iv r.count,uv r.n]
abbrev aG (l:List (List Int)) (g:FuncId) (d:Nat) (B:Int) (rec:Rf→Int→T × Int × Int):Prop:=∀ r,Fj l r→∀ left:Int,0≤left→left≤B→G.Spec Tryz.prog g [RA l,yb r,iv d,iv left] (M3 (rec r left))
abbrev zT:List A:=[iv 0,.sl true [],.sl true []]
theorem gu {l:List (List Int)} {r:Rf} (hr:Fj l r):0≤r.kids∧r.kids<65536:=by
 cases hr<;>simp[Rf.zero]<;>omega
section
variable {n0:Nat} {w0:World} {I0:Nat→Prop} {Q:Exit→Sta→Prop}
theorem pX {l:List (List Int)} (hs:Sg l) {r:Rf} (hr:Fj l r) {rec:Rf→Int→T × Int × Int} {d:Nat} {B:Int} (hrec:aG l 47 d B rec) (hlb:LB l B rec) {W:List Int} {ks:List T} {lf e:Int}:∀ (m i u:Nat) (acc:List T) (left:Int) (H:Hp),(i:Int)+m=r.kids→acc.length=i→0≤left→left≤B→H [0]=⟨1,.cells (raL r)⟩→H [1]=⟨1,.cells zT⟩→H [2]=⟨1,.cells [iv 1,DP W,.osl [5] u 3 0 i]⟩→H [5]=⟨u,.arr 3 (acc.map tA)⟩→Dy (Dh l rec r) m i acc left=(ks,lf,e) →
  (e=0→∀ i' q u' H',H' [1]=⟨1,.cells zT⟩→H' [2]=⟨1,.cells [iv 1,DP W,.osl [5] u' 3 0 ks.length]⟩→H' [5]=⟨u',.arr 3 (ks.map tA)⟩→Q (.exit 0) ⟨lk [(0,RA l),(2,iv d),(3,iv lf),(5,.pob [0] 1 0),(8,.pob [1] 1 0),(11,.pob [2] 1 0),(12,iv i'),(25,bv q)],H'⟩) →
  (e ≠ 0→∀ u' H',H' [1]=⟨1,.cells [iv 1,DP W,.osl [5] u' 3 0 ks.length]⟩→H' [5]=⟨u',.arr 3 (ks.map tA)⟩→Q .ret ⟨lk [(8,.pob [1] 1 0),(9,iv lf),(10,iv e)],H'⟩) →
  LoopC (cx Tryz.prog w0 I0 n0) Er Q ⟨lk [(0,RA l),(2,iv d),(3,iv left),(5,.pob [0] 1 0),(8,.pob [1] 1 0),(11,.pob [2] 1 0),(12,iv i)],H⟩:=by
 have hb:=gu hr
 intro m
 induction m with
 |zero=>
  intro i u acc left H hi ha h0 h1 hA hR hO hK hX hq hq2
  have:(i:Int)=r.kids:=by omega
  rw[Dy] at hX
  cases hX
  refine Ad Ak Er.eq_1 ?_
  simp[hA,this]
  refine hq rfl _ _ u H hR (by rw[hO,ha]) hK
 |succ m ihm=>
  intro i u acc left H hi ha h0 h1 hA hR hO hK hX hq hq2
  have hlt:(i:Int)<r.kids:=by omega
  have ei:IntKind.i64.wrap ((i:Int)+1)=((i+1:Nat):Int):=Af (by omega) (by omega)
  rw[Dy] at hX
  refine Ad Ak Er.eq_1 ?_
  simp[hA,hlt]
  refine Ae (Uo hs hr i) (by simp) ?_
  by_cases he:(BT l r i).2=0
  ·have hst:Dh l rec r i left=rec (BT l r i).1 left:=by rw[Dh,if_neg (by omega)]
   rw[hst] at hX
   have hlb':=hlb _ (RG hs.w hr i) left h0 h1
   simp[he,hA,hR,hO,hK,Aa]
   refine Ae (hrec _ (RG hs.w hr i) left h0 h1) (by simp) ?_
   generalize hy:rec (BT l r i).1 left=y at hX hlb'
   obtain⟨y,yl,ye⟩:=y
   simp only at hX hlb'
   by_cases hye:ye=0
   ·rw[if_neg (by simp[hye])] at hX
    simp[hye,hA,hR,hO,hK,Aa]
    have hrow:List.take i (acc.map tA)++[tX y]=(acc++[y]).map tA:=by rw[Bb (by simp;omega)];simp
    have hrow':List.take i (acc.map tA)=acc.map tA:=Bb (by simp;omega)
    rw[ei]
    refine⟨⟨by omega,by omega⟩,?_⟩
    exact ihm (i+1) (u+1) (acc++[y]) yl _ (by omega) (by simp[ha]) hlb'.1 hlb'.2 (by simp[Aa,hA]) (by simp[Aa,hR]) (by simp[Aa]) (by simp[Aa,hrow']) hX hq hq2
   ·rw[if_pos hye] at hX
    simp only[Prod.mk.injEq] at hX
    obtain⟨rfl,rfl,rfl⟩:=hX
    simp[hye,hA,hR,hO,hK,Aa]
    refine hq2 hye u _ ?_ ?_
    ·simp[Aa,hR,ha]
    ·simp[Aa,hK]
  ·have hst:Dh l rec r i left=(T0,left,(BT l r i).2):=by rw[Dh,if_pos he]
   rw[hst,if_pos he] at hX
   simp only[Prod.mk.injEq] at hX
   obtain⟨rfl,rfl,rfl⟩:=hX
   simp[he,hA,hR,hO,hK,Aa]
   refine hq2 he u _ ?_ ?_
   ·simp[Aa,hR,ha]
   ·simp[Aa,hK]
end
theorem dq {l:List (List Int)} (hs:Sg l) {rec:Rf→Int→T × Int × Int} {d:Nat} {B:Int} (hrec:aG l 47 d B rec) (hlb:LB l B rec):aG l 93 d B (JX l rec):=fun r hr left h0 h1=>by
 have hb:=gu hr
 refine Al Ru (by simp) fun w0 I0=>?_
 unfold Kh
 simp
 refine Ae (Mo hs hr) (by simp) ?_
 simp
 refine LoopC.le (Bv (d:=[2]) 2 [5] 3 rfl rfl (by simp)) ?_
 simp
 generalize hX:Dy (Dh l rec r) r.kids.toNat 0 [] left=X
 obtain⟨ks,lf,e⟩:=X
 have fin:∀ (H:Hp) (u:Nat),H [5]=⟨u,.arr 3 (ks.map tA)⟩→Jw H (.tup [.agg [iv 1,DP (BK l r),.osl [5] u 3 0 ks.length],iv lf,iv e]) (M3 (JX l rec r left)):=fun H u hH=>by
  unfold JX
  rw[hX]
  refine F5 ?_
  simp
  refine⟨Dd ?_,Ab rfl,Ab rfl⟩
  simp
  exact⟨Ab rfl,Ab rfl,BQ (by simp[hH]) rfl (by simp)⟩
 refine pX (W:=BK l r) hs hr hrec hlb r.kids.toNat 0 1 [] left _ (by omega) rfl h0 h1 (by simp) (by simp) (by simp) (by simp) hX (fun he i' q u' H' hR hO hK=>?_) (fun he u' H' hR hK=>?_)
 ·simp[hR,hO,hK,Aa]
  rw[← he]
  exact fin _ u' (by simp[Aa,hK])
 ·simp[hR,hK,Aa]
  exact fin _ u' hK
def MW (b:Bool) (t:T):A:=if b=true then .agg [iv t.kind,DP t.words,.sl true []] else tA t
theorem s8 {H:Hp} {o:Nm} {u n:Nat} {b:Bool} {l:List T} (h:vr (H o) u=some (3,l.map (MW b))) (hn:n=l.length) (hb:b=true→∀ t,t ∈ l→t.kids=[]):Jw H (.osl o u 3 0 n) (Co l):=by
 subst hn
 cases b with
 |false=>
  have e:MW false=tA:=by funext t;simp[MW]
  rw[e] at h
  exact BQ (by simpa using h) rfl (by simp)
 |true=>
  refine K5 (xs:=l.map (MW true)) (by simpa using h) (by simp) (by simp) (fun y hy=>?_) ?_ ?_
  ·obtain⟨x,hx,rfl⟩:=List.mem_map.1 hy
   simp
  ·simp only[A.ones,List.all_eq_true,List.mem_flatMap]
   rintro y ⟨z,hz,hy⟩
   obtain⟨x,hx,rfl⟩:=List.mem_map.1 hz
   simp at hy
   rcases hy with rfl | rfl | rfl<;>rfl
  ·rw[List.drop_zero,Bb (by simp)]
   have:∀ (m:List T),(∀ x,x ∈ m→x ∈ l)→GG H ((m.map (MW true)).flatMap A.cells) ((m.map tA).flatMap A.cells):=by
    intro m
    induction m with
    |nil=>intro _;simp
    |cons x m ih=>
     intro hm
     have:=hb rfl x (hm x (by simp))
     have:=ih fun y hy=>hm y (by simp[hy])
     simp[MW] at this ⊢
     exact⟨Ab rfl,Ab rfl,by rw[hb rfl x (hm x (by simp))];exact An,this⟩
   exact this l fun x hx=>hx
def MT (l:List (List Int)) (r:Rf) (rec1 rec2:Rf→Int→T × Int × Int):Rf→Int→T × Int × Int:=if r.kind=9 then JX l rec2 else if r.kind=1∨r.kind=8 then rec1 else Hn l
def IJ (r:Rf):Bool:=!(decide (r.kind=9) || decide (r.kind=1) || decide (r.kind=8))
theorem W9 {l:List (List Int)} {r:Rf} {rec1 rec2:Rf→Int→T × Int × Int} (hb:IJ r=true):∀ (m i:Nat) (acc:List T) (left:Int),(∀ t,t ∈ acc→t.kids=[])→∀ t,t ∈ (Dy (Dh l (MT l r rec1 rec2) r) m i acc left).1→t.kids=[]
 |0,i,acc,left,ha,t,ht=>ha t ht
 |m+1,i,acc,left,ha,t,ht=>by
  have e:MT l r rec1 rec2=Hn l:=by
   simp[IJ] at hb
   rw[MT,if_neg hb.1.1,if_neg (by omega)]
  rw[Dy] at ht
  split at ht
  ·exact ha t ht
  ·refine W9 hb m _ _ _ (fun t ht=>?_) t ht
   rcases List.mem_append.1 ht with h | h
   ·exact ha t h
   ·simp only[List.mem_singleton] at h
    subst h
    rw[e]
    unfold Dh
    split
    ·rfl
    ·rfl
section
variable {n0:Nat} {w0:World} {I0:Nat→Prop} {Q:Exit→Sta→Prop}
theorem dg {l:List (List Int)} (hs:Sg l) {r:Rf} (hr:Fj l r) {rec1 rec2:Rf→Int→T × Int × Int} {d:Nat} (hd:d≤1000) {B:Int}
  (h1:r.kind=1∨r.kind=8→∃ d1:Nat,d=d1+1∧aG l 47 d1 B rec1∧LB l B rec1)
  (h2:r.kind=9→0<r.count→∃ d2:Nat,d=d2+2∧aG l 93 d2 B (JX l rec2)∧LB l B (JX l rec2))
  {W:List Int} {ks:List T} {lf e:Int}:∀ (m i u:Nat) (acc:List T) (left:Int) (H:Hp),(i:Int)+m=nk r→acc.length=i→0≤left→left≤B→H [0]=⟨1,.cells (raL r)⟩→H [1]=⟨1,.cells zT⟩→H [2]=⟨1,.cells [iv r.kind,DP W,.osl [5] u 3 0 i]⟩→H [5]=⟨u,.arr 3 (acc.map (MW (IJ r)))⟩→Dy (Dh l (MT l r rec1 rec2) r) m i acc left=(ks,lf,e) →
  (e=0→∀ i' q u' H',H' [1]=⟨1,.cells zT⟩→H' [2]=⟨1,.cells [iv r.kind,DP W,.osl [5] u' 3 0 ks.length]⟩→H' [5]=⟨u',.arr 3 (ks.map (MW (IJ r)))⟩→Q (.exit 0) ⟨lk [(0,RA l),(2,iv d),(3,iv lf),(5,.pob [0] 1 0),(8,.pob [1] 1 0),(11,.pob [2] 1 0),(13,iv i'),(82,bv q)],H'⟩) →
  (e ≠ 0→∀ u' H',H' [1]=⟨1,.cells [iv r.kind,DP W,.osl [5] u' 3 0 ks.length]⟩→H' [5]=⟨u',.arr 3 (ks.map (MW (IJ r)))⟩→Q .ret ⟨lk [(8,.pob [1] 1 0),(9,iv lf),(10,iv e)],H'⟩) →
  LoopC (cx Tryz.prog w0 I0 n0) Ct Q ⟨lk [(0,RA l),(2,iv d),(3,iv left),(5,.pob [0] 1 0),(8,.pob [1] 1 0),(11,.pob [2] 1 0),(13,iv i)],H⟩:=by
 have hb:=JC hr
 intro m
 induction m with
 |zero=>
  intro i u acc left H hi ha h0 hl hA hR hO hK hX hq hq2
  have:(i:Int)=nk r:=by omega
  rw[Dy] at hX
  cases hX
  refine Ad Ak Ct.eq_1 ?_
  simp[hA]
  refine Ae (Ko r) (by simp) ?_
  simp[this]
  refine hq rfl _ _ u H hR (by rw[hO,ha]) hK
 |succ m ihm=>
  intro i u acc left H hi ha h0 hl hA hR hO hK hX hq hq2
  have hlt:(i:Int)<nk r:=by omega
  have ei:IntKind.i64.wrap ((i:Int)+1)=((i+1:Nat):Int):=Af (by omega) (by omega)
  have hrow:List.take i (acc.map (MW (IJ r)))=acc.map (MW (IJ r)):=Bb (by simp;omega)
  rw[Dy] at hX
  refine Ad Ak Ct.eq_1 ?_
  simp[hA]
  refine Ae (Ko r) (by simp) ?_
  simp[hA,hlt]
  refine Ae (Uo hs hr i) (by simp) ?_
  have hok:=RG hs.w hr i
  have next:∀ (y:T) (yl ye:Int),Dh l (MT l r rec1 rec2) r i left=(y,yl,ye)→ye=0→0≤yl→yl≤B→∀ (x:A) (H':Hp),MW (IJ r) y=x→H' [0]=⟨1,.cells (raL r)⟩→H' [1]=⟨1,.cells zT⟩→H' [2]=⟨1,.cells [iv r.kind,DP W,.osl [5] (u+1) 3 0 (i+1)]⟩→H' [5]=⟨u+1,.arr 3 (acc.map (MW (IJ r))++[x])⟩ →
    LoopC (cx Tryz.prog w0 I0 n0) Ct Q ⟨lk [(0,RA l),(2,iv d),(3,iv yl),(5,.pob [0] 1 0),(8,.pob [1] 1 0),(11,.pob [2] 1 0),(13,iv ((i+1:Nat):Int))],H'⟩:=fun y yl ye hy he y0 y1 x H' hx a0 a1 a2 a5=>by
   rw[hy,if_neg (by simp[he])] at hX
   exact ihm (i+1) (u+1) (acc++[y]) yl H' (by omega) (by simp[ha]) y0 y1 a0 a1 a2 (by rw[a5,← hx];simp) hX hq hq2
  by_cases he:(BT l r i).2=0
  ·have hst:Dh l (MT l r rec1 rec2) r i left=MT l r rec1 rec2 (BT l r i).1 left:=by rw[Dh,if_neg (by omega)]
   rw[hst] at hX next
   simp[he,hA,hR,hO,hK,Aa]
   refine Ae (Mo hs hok) (by simp) ?_
   simp[he,hA,hR,hO,hK,Aa]
   by_cases h9:r.kind=9
   ·have hrec:MT l r rec1 rec2=JX l rec2:=by rw[MT,if_pos h9]
    have hlf:IJ r=false:=by simp[IJ,h9]
    rw[hrec] at hX next
    obtain⟨d2,ed,hsp,hlb⟩:=h2 h9 (by unfold nk at hlt;rw[if_neg (by omega)] at hlt;omega)
    have e2:IntKind.i64.wrap ((d:Int)-2)=(d2:Int):=Av
    have hlb':=hlb _ hok left h0 hl
    simp[h9,e2,hA,Aa]
    refine Ae (hsp _ hok left h0 hl) (by simp) ?_
    generalize hy:JX l rec2 (BT l r i).1 left=y at hX hlb' next
    obtain⟨y,yl,ye⟩:=y
    simp only at hX hlb'
    rw[Db.eq_1]
    by_cases hye:ye=0
    ·simp[hye,hA,hR,hO,hK,Aa,hrow]
     rw[ei]
     refine⟨⟨by omega,by omega⟩,?_⟩
     refine next y yl ye rfl hye hlb'.1 hlb'.2 _ _ rfl ?_ ?_ ?_ ?_
     ·simp[Aa,hA]
     ·simp[Aa,hR]
     ·simp[Aa,h9]
     ·simp[Aa,hlf,MW]
    ·rw[if_pos hye] at hX
     simp only[Prod.mk.injEq] at hX
     obtain⟨rfl,rfl,rfl⟩:=hX
     simp[hye,hA,hR,hO,hK,Aa]
     refine hq2 hye u _ ?_ ?_
     ·simp[Aa,hR,ha,h9]
     ·simp[Aa,hK]
   ·by_cases h18:r.kind=1∨r.kind=8
    ·have hrec:MT l r rec1 rec2=rec1:=by rw[MT,if_neg h9,if_pos h18]
     have hlf:IJ r=false:=by rcases h18 with h | h<;>simp[IJ,h]
     have hdc:(decide (r.kind=1) || decide (r.kind=8))=true:=by simpa using h18
     rw[hrec] at hX next
     obtain⟨d1,ed,hsp,hlb⟩:=h1 h18
     have e2:IntKind.i64.wrap ((d:Int)-1)=(d1:Int):=Av
     have hlb':=hlb _ hok left h0 hl
     simp[h9,hdc,e2,hA,Aa]
     refine⟨fun _=>?_,fun a b=>by omega⟩
     refine Ae (hsp _ hok left h0 hl) (by simp) ?_
     generalize hy:rec1 (BT l r i).1 left=y at hX hlb' next
     obtain⟨y,yl,ye⟩:=y
     simp only at hX hlb'
     rw[Db.eq_1]
     by_cases hye:ye=0
     ·simp[hye,hA,hR,hO,hK,Aa,hrow]
      rw[ei]
      refine⟨⟨by omega,by omega⟩,?_⟩
      refine next y yl ye rfl hye hlb'.1 hlb'.2 _ _ rfl ?_ ?_ ?_ ?_
      ·simp[Aa,hA]
      ·simp[Aa,hR]
      ·simp[Aa]
      ·simp[Aa,hlf,MW]
     ·rw[if_pos hye] at hX
      simp only[Prod.mk.injEq] at hX
      obtain⟨rfl,rfl,rfl⟩:=hX
      simp[hye,hA,hR,hO,hK,Aa]
      refine hq2 hye u _ ?_ ?_
      ·simp[Aa,hR,ha]
      ·simp[Aa,hK]
    ·have hrec:MT l r rec1 rec2=Hn l:=by rw[MT,if_neg h9,if_neg h18]
     have hlf:IJ r=true:=by simp[IJ];omega
     have hdc:(decide (r.kind=1) || decide (r.kind=8))=false:=by simpa using h18
     rw[hrec] at next
     simp[h9,hdc,hA,Aa]
     rw[Db.eq_1]
     simp[he,hA,hR,hO,hK,Aa,hrow]
     rw[ei]
     refine⟨fun h=>absurd h h18,fun _ _=>⟨⟨by omega,by omega⟩,?_⟩⟩
     refine next _ _ _ rfl rfl h0 hl _ _ rfl ?_ ?_ ?_ ?_
     ·simp[Aa,hA]
     ·simp[Aa,hR]
     ·simp[Aa]
     ·simp[Aa,hlf,MW]
  ·have hst:Dh l (MT l r rec1 rec2) r i left=(T0,left,(BT l r i).2):=by rw[Dh,if_pos he]
   rw[hst,if_pos he] at hX
   simp only[Prod.mk.injEq] at hX
   obtain⟨rfl,rfl,rfl⟩:=hX
   simp[he,hA,hR,hO,hK,Aa]
   refine hq2 he u _ ?_ ?_
   ·simp[Aa,hR,ha]
   ·simp[Aa,hK]
end
theorem Mt {l:List (List Int)} (hs:Sg l) {r:Rf} (hr:Fj l r) {rec1 rec2:Rf→Int→T × Int × Int} {d:Nat} (hd:d≤1000) {B:Int} (hB:B≤1000000)
  (h1:r.kind=1∨r.kind=8→0<d→∃ d1:Nat,d=d1+1∧aG l 47 d1 B rec1∧LB l B rec1)
  (h2:r.kind=9→0<r.count→1<d→∃ d2:Nat,d=d2+2∧aG l 93 d2 B (JX l rec2)∧LB l B (JX l rec2))
  {left:Int} (h0:0≤left) (hl:left≤B) {X:T × Int × Int} (hX:X=if r.kind=0 then Hn l r left else if d<1∨(r.kind=9∧0<r.count∧d<2) then KK l r left else if left<CU r then KK l r left else Pm l r rec1 rec2 left):G.Spec Tryz.prog 47 [RA l,yb r,iv d,iv left] (M3 X):=by
 have hb:=JC hr
 have hc:=Xh hr
 refine Al M8 (by simp) fun w0 I0=>?_
 unfold Ii
 simp
 refine Ae (Mo hs hr) (by simp) ?_
 have leaf:∀ (H:Hp) (k lf e:Int) (X:T × Int × Int),X=(.mk k (BK l r) [],lf,e)→Jw H (.tup [.agg [iv k,DP (BK l r),.sl true []],iv lf,iv e]) (M3 X):=fun H k lf e X hX=>by
  rw[hX]
  exact F5 (by simp;exact⟨Dd (by simp;exact⟨Ab rfl,Ab rfl,An⟩),Ab rfl,Ab rfl⟩)
 by_cases k0:r.kind=0
 ·rw[if_pos k0,Hn,k0] at hX
  simp[k0]
  exact leaf _ _ _ _ _ hX
 rw[if_neg k0] at hX
 by_cases hst:d<1∨(r.kind=9∧0<r.count∧d<2)
 ·have hd:(decide ((d:Int)<1) || ((decide (r.kind=9)&&decide (0<r.count))&&decide ((d:Int)<2)))=true:=by simp;omega
  rw[if_pos hst,KK] at hX
  by_cases d0:(d:Int)<1
  ·simp[k0,d0]
   exact leaf _ _ _ _ _ hX
  ·have h9:r.kind=9:=by omega
   have hcn:0<r.count:=by omega
   have d2:(d:Int)<2:=by omega
   simp[k0,d0,h9,hcn,d2]
   rw[h9] at hX
   exact leaf _ _ _ _ _ hX
 rw[if_neg hst] at hX
 have d0:¬ (d:Int)<1:=by omega
 have fin:∀ (H:Hp),H [0]=⟨1,.cells (raL r)⟩→H [1]=⟨1,.cells zT⟩→H [2]=⟨1,.cells [iv r.kind,DP (BK l r),.sl true []]⟩→H [5]=⟨0,.none⟩→WPC (cx Tryz.prog w0 I0 149) EC (PO Tryz.prog [.cell 8 25,.tmp 9,.tmp 10] (M3 X)) ⟨lk [(0,RA l),(2,iv d),(3,iv left),(5,.pob [0] 1 0),(8,.pob [1] 1 0),(11,.pob [2] 1 0),(12,iv (CU r))],H⟩:=fun H hA hR hO hN=>by
  rw[EC.eq_1]
  by_cases hlc:left<CU r
  ·rw[if_pos hlc,KK] at hX
   simp[hlc,hA,hR,hO,Aa]
   exact leaf _ _ _ _ _ hX
  ·rw[if_neg hlc,Pm] at hX
   have ew:IntKind.i64.wrap (left-CU r)=left-CU r:=Af (by omega) (by omega)
   simp[hlc,hA,hR,hO,Aa,ew]
   have hX':X=(.mk r.kind (BK l r) (Dy (Dh l (MT l r rec1 rec2) r) (nk r).toNat 0 [] (left-CU r)).1,(Dy (Dh l (MT l r rec1 rec2) r) (nk r).toNat 0 [] (left-CU r)).2.1,(Dy (Dh l (MT l r rec1 rec2) r) (nk r).toNat 0 [] (left-CU r)).2.2):=hX
   have hleaf:=fun hb=>W9 (rec1:=rec1) (rec2:=rec2) (l:=l) (r:=r) hb (nk r).toNat 0 [] (left-CU r) (by simp)
   generalize hY:Dy (Dh l (MT l r rec1 rec2) r) (nk r).toNat 0 [] (left-CU r)=Y at hX' hleaf
   obtain⟨ks,lf,e⟩:=Y
   have done:∀ (H:Hp) (u:Nat),H [5]=⟨u,.arr 3 (ks.map (MW (IJ r)))⟩→Jw H (.tup [.agg [iv r.kind,DP (BK l r),.osl [5] u 3 0 ks.length],iv lf,iv e]) (M3 X):=fun H u hH=>by
    rw[hX']
    exact F5 (by simp;exact⟨Dd (by simp;exact⟨Ab rfl,Ab rfl,s8 (by simp[hH]) rfl hleaf⟩),Ab rfl,Ab rfl⟩)
   refine LoopC.le (Bv (d:=[2]) 2 [5] 3 hO rfl (by simp)) ?_
   refine dg (W:=BK l r) hs hr hd (fun k=>h1 k (by omega)) (fun k k'=>h2 k k' (by omega)) (nk r).toNat 0 1 [] (left-CU r) _ (by omega) rfl (by omega) (by omega) (by simp[Aa,hA]) (by simp[Aa,hR]) (by simp[Aa,hN]) (by simp[Aa,hN]) hY (fun he i' q u' H' hR hO hK=>?_) (fun he u' H' hR hK=>?_)
   ·simp[hR,hO,hK,Aa]
    rw[← he]
    exact done _ u' (by simp[Aa,hK])
   ·simp[hR,hK,Aa]
    exact done _ u' hK
 have b0:decide (r.kind=0)=false:=by simpa using k0
 have hst':((decide (r.kind=9)&&decide (0<r.count))&&decide ((d:Int)<2))=false:=by
  simp only[Bool.and_eq_false_iff,decide_eq_false_iff_not]
  omega
 simp[b0,d0,hst']
 refine Ae (Ko r) (by simp) ?_
 have ek:IntKind.i64.wrap (1+nk r)=1+nk r:=Af (by omega) (by omega)
 by_cases k1:r.kind=1
 ·have b1:decide (r.kind=1)=true:=by simpa using k1
  have b9:decide (r.kind=9)=false:=by simp[k1]
  have ec:IntKind.i64.wrap (IntKind.i64.wrap (1+r.data)+r.kids)=CU r:=by
   cases hr with
   |str s a d k a1 a2 a3 a4 h=>
    rw[Af (n:=1+_) (by simp;omega) (by simp;omega),Af (by simp;omega) (by simp;omega)]
    simp[CU]
   |dat c s a n a1 a2 a3 a4 h=>simp at k1;omega
   |_=>simp[Rf.zero] at k1
  simp[b1]
  rw[Da.eq_1]
  simp[b9,ec]
  exact fin _ (by simp) (by simp) (by simp) (by simp)
 ·have b1:decide (r.kind=1)=false:=by simpa using k1
  by_cases k9:r.kind=9
  ·have b9:decide (r.kind=9)=true:=by simpa using k9
   have ec:IntKind.i64.wrap (1+IntKind.i64.wrap (r.count*IntKind.i64.wrap (IntKind.i64.wrap (1+r.data)+r.kids)))=CU r:=by
    have e:CU r=1+r.count*(1+r.data+r.kids):=by simp[CU,k9]
    have hd:0≤r.data∧r.data<65536∧0≤r.kids∧r.kids<65536:=by
     cases hr with
     |comp s a d k n a1 a2 a3 a4 a5 a6 h=>exact⟨a1,a2,a3,a4⟩
     |dat c s a n a1 a2 a3 a4 h=>simp at k9;omega
     |_=>simp[Rf.zero] at k9
    rw[Af (n:=1+r.data) (by omega) (by omega),Af (n:=1+r.data+r.kids) (by omega) (by omega),Af (n:=r.count*_) (by omega) (by omega),Af (by omega) (by omega),e]
   simp[b1,ek]
   rw[Da.eq_1]
   simp[b9,ec]
   exact fin _ (by simp) (by simp) (by simp) (by simp)
  ·have b9:decide (r.kind=9)=false:=by simpa using k9
   have ec:1+nk r=CU r:=by simp[CU,k1,k9]
   have ek':IntKind.i64.wrap (1+nk r)=CU r:=by rw[ek,ec]
   simp[b1,ek']
   rw[Da.eq_1]
   simp[b9]
   refine fin _ ?_ ?_ ?_ ?_<;>simp
theorem Jc {l:List (List Int)} (hs:Sg l) {B:Int} (hB:B≤1000000):∀ d:Nat,d≤1000→aG l 47 d B (Cb l d)
 |0,hd,r,hr,left,h0,hl=>by
  refine Mt hs hr hd hB (rec1:=Hn l) (rec2:=Hn l) (fun _ h=>absurd h (by omega)) (fun _ _ h=>absurd h (by omega)) h0 hl ?_
  rw[Cb]
  simp
 |1,hd,r,hr,left,h0,hl=>by
  refine Mt hs hr hd hB (rec1:=Cb l 0) (rec2:=fun r left=>KK l r left) (fun _ _=>⟨0,rfl,Jc hs hB 0 (by omega),EZ hs.w 0⟩) (fun _ _ h=>absurd h (by omega)) h0 hl ?_
  rw[Cb]
  simp
 |d+2,hd,r,hr,left,h0,hl=>by
  refine Mt hs hr hd hB (rec1:=Cb l (d+1)) (rec2:=Cb l d) (fun _ _=>⟨d+1,rfl,Jc hs hB (d+1) (by omega),EZ hs.w (d+1)⟩) (fun _ _ _=>⟨d,rfl,dq hs (Jc hs hB d (by omega)) (EZ hs.w d),az hs.w (EZ hs.w d)⟩) h0 hl ?_
  have n1:¬ (d+2<1∨r.kind=9∧0<r.count∧d+2<2):=by omega
  rw[Cb,if_neg n1]
def Cw (x m:Int):Int:=if x<0 then 0 else if m<x then m else x
theorem HO (x m:Int):G.Spec Tryz.prog 87 [iv x,iv m] (iv (Cw x m)):=by
 refine Al OU (by simp) fun w0 I0=>?_
 unfold IP
 by_cases h:x<0
 ·simp[h]
  exact Ao rfl (by simp[Cw,h])
 ·by_cases h2:m<x
  ·simp[h,h2]
   exact Ao rfl (by simp[Cw,h,h2])
  ·simp[h,h2]
   exact Ao rfl (by simp[Cw,h,h2])
abbrev ym (a b c d:Int):A:=.agg [iv a,iv b,iv c,iv d]
set_option maxRecDepth 100000 in
theorem Z1 (a b c d:Int):G.Spec Tryz.prog 45 [ym a b c d] (ym (Cw a 64) (Cw b 65536) (Cw c 4096) (Cw d 131072)):=by
 refine Al OD (by simp) fun w0 I0=>?_
 unfold IL
 simp
 refine Ae (HO a 64) rfl ?_
 simp
 refine Ae (HO b 65536) rfl ?_
 simp
 refine Ae (HO c 4096) rfl ?_
 simp
 refine Ae (HO d 131072) rfl ?_
 simp
 exact Ab rfl
def RY (b:Int):Int:=if 3000<b then 3000 else b
theorem dY (a b c d:Int):G.Spec Tryz.prog 18 [ym a b c d] (ym a (RY b) c d):=by
 refine Al PG (by simp) fun w0 I0=>?_
 unfold J0
 by_cases h:3000<b
 ·simp[h]
  exact Ao rfl (by simp[RY,h])
 ·simp[h]
  exact Ao rfl (by simp[RY,h])
def aJ (l:List (List Int)) (a b:Int):T × Int × Int:=
 if (LK l 0 0).2 ≠ 0 then (T0,0,(LK l 0 0).2)
 else if (Cb l (Cw a 64).toNat (LK l 0 0).1 (Cw b 65536)).2.2 ≠ 0 then (T0,0,(Cb l (Cw a 64).toNat (LK l 0 0).1 (Cw b 65536)).2.2)
 else ((Cb l (Cw a 64).toNat (LK l 0 0).1 (Cw b 65536)).1,Cw b 65536-(Cb l (Cw a 64).toNat (LK l 0 0).1 (Cw b 65536)).2.1,0)
theorem ct (x m:Int) (h:0≤m):0≤Cw x m∧Cw x m≤m:=by
 unfold Cw;split
 ·omega
 ·split<;>omega
theorem ax {l:List (List Int)} (hs:Sg l) (a b c d:Int):G.Spec Tryz.prog 19 [RA l,ym a b c d] (M3 (aJ l a b)):=by
 have ha:=ct a 64 (by decide)
 have hb:=ct b 65536 (by decide)
 refine Al OO (by simp) fun w0 I0=>?_
 unfold IV
 simp
 refine Ae (Z1 a b c d) rfl ?_
 simp
 refine Ae (RN hs 0 0) rfl ?_
 simp
 unfold aJ
 have hok:=gz hs.w 0 0
 generalize hx:LK l 0 0=x at hok
 obtain⟨r,e⟩:=x
 simp only
 by_cases he:e=0
 ·rw[if_neg (by simp[he])]
  obtain⟨D,hD⟩:∃ D:Nat,Cw a 64=(D:Int):=⟨(Cw a 64).toNat,by omega⟩
  have hm:=Jc hs (B:=65536) (by omega) D (by omega) r hok (Cw b 65536) hb.1 hb.2
  have hlb:=EZ hs.w (B:=65536) D r hok (Cw b 65536) hb.1 hb.2
  simp[he,hD]
  refine Ae hm (by simp) ?_
  generalize Cb l D r (Cw b 65536)=y at hlb
  obtain⟨t,lf,e2⟩:=y
  simp only at hlb ⊢
  by_cases he2:e2=0
  ·have ew:IntKind.i64.wrap (Cw b 65536-lf)=Cw b 65536-lf:=Af (by omega) (by omega)
   simp[he2,ew]
   exact Ab (DF (by simp))
  ·simp[he2]
   exact F5 (by simp;exact⟨XV,Ab rfl,Ab rfl⟩)
 ·rw[if_pos he]
  simp[he]
  exact F5 (by simp;exact⟨XV,Ab rfl,Ab rfl⟩)
theorem LO {l:List (List Int)} (hs:Sg l) {a b:Int} (h:(aJ l a b).2.2=0):Az l (LK l 0 0).1 (aJ l a b).1:=by
 unfold aJ at h ⊢
 split at h
 ·rename_i h0;exact absurd h h0
 ·rename_i h0
  rw[if_neg h0]
  split at h
  ·rename_i h1;exact absurd h h1
  ·rename_i h1
   rw[if_neg h1]
   exact HT hs.w _ _ _ (gz hs.w 0 0) (by omega)
end Go.Proofs.YtbjmaoedheiigaaGreat
namespace Go.PL
def Sy (at_ to kind upper:Int):Int:=4*(if to-at_-1<0 then to-at_-1+1073741824 else to-at_-1)+kind+upper*4294967296
def KT (w:Nat):List Int→Nat→List Int→List Int
 |[],_,out=>out
 |n::ns,i,out=>KT w ns (i+1) (if w=0 then out else out.set (i*w / 64) (out.getD (i*w / 64) 0+n*2 ^ (i*w % 64)))
def MS (c:Int) (ns:List Int):List Int:=KT (Aw c).toNat ns 0 (List.replicate (Kp c ns.length).toNat 0)
def hd (t:T):Int:=t.words.headD 0
theorem Nx:∀ (w:Nat) (ns:List Int) (i:Nat) (out:List Int),(KT w ns i out).length=out.length
 |w,[],i,out=>rfl
 |w,n::ns,i,out=>by
  rw[KT,Nx]
  split<;>simp
@[simp] theorem Tn (c:Int) (ns:List Int):(MS c ns).length=(Kp c ns.length).toNat:=by simp[MS,Nx]
structure PutI (w i:Nat) (out:List Int):Prop where
 rng:∀ (j:Nat) (h:j<out.length),0≤out[j]∧out[j]<18446744073709551616
 here:∀ (h:i*w / 64<out.length),out[i*w / 64]<2 ^ (i*w % 64)
 zero:∀ (j:Nat) (h:j<out.length),i*w / 64<j→out[j]=0
theorem PutI.start (w m:Nat):PutI w 0 (List.replicate m 0):=⟨fun j h=>by simp,fun h=>by simp,fun j h _=>by simp⟩
theorem Sh {w i:Nat} {out:List Int} (h:PutI w i out) (hw:w=1∨w=8∨w=16∨w=32∨w=64) {n:Int} (h0:0≤n) (h1:n<2 ^ w) (hl:i*w / 64<out.length):PutI w (i+1) (out.set (i*w / 64) (out.getD (i*w / 64) 0+n*2 ^ (i*w % 64))) ∧
  0≤out.getD (i*w / 64) 0∧out.getD (i*w / 64) 0<2 ^ (i*w % 64)∧n*2 ^ (i*w % 64)<18446744073709551616∧out.getD (i*w / 64) 0+n*2 ^ (i*w % 64)<18446744073709551616:=by
 have hg:out.getD (i*w / 64) 0=out[i*w / 64]:=by simp[hl]
 rw[hg]
 obtain⟨r0,r1⟩:=h.rng _ hl
 have hh:=h.here hl
 have hs:i*w % 64+w≤64:=by
  rcases hw with rfl | rfl | rfl | rfl | rfl<;>omega
 have hp:(0:Int)<2 ^ (i*w % 64):=Int.pow_pos (by decide)
 have hsum:out[i*w / 64]+n*2 ^ (i*w % 64)<2 ^ (i*w % 64+w):=by
  have e1:n*2 ^ (i*w % 64)≤(2 ^ w-1)*2 ^ (i*w % 64):=Int.mul_le_mul_of_nonneg_right (by omega) (by omega)
  have e2:(2 ^ w-1)*2 ^ (i*w % 64)=(2:Int) ^ (i*w % 64+w)-2 ^ (i*w % 64):=by
   rw[Int.sub_mul,Int.one_mul,Int.pow_add,Int.mul_comm]
  omega
 have hle:(2:Int) ^ (i*w % 64+w)≤2 ^ 64:=by
  have e:∀ k:Nat,(2:Int) ^ k=((2 ^ k:Nat):Int):=fun k=>by simp
  rw[e,e]
  exact Int.ofNat_le.2 (Nat.pow_le_pow_right (by decide) hs)
 have hnn:0≤n*2 ^ (i*w % 64):=Int.mul_nonneg h0 (by omega)
 have h64:(2:Int) ^ 64=18446744073709551616:=by decide
 refine⟨⟨fun j hj=>?_,fun hj=>?_,fun j hj hlt=>?_⟩,r0,hh,by omega,by omega⟩
 ·rw[List.getElem_set]
  split
  ·omega
  ·exact h.rng j (by simpa using hj)
 ·rw[List.getElem_set]
  split
  ·rename_i e
   have e3:(i+1)*w % 64=i*w % 64+w:=by
    rw[Nat.add_mul,Nat.one_mul] at e ⊢
    rcases hw with rfl | rfl | rfl | rfl | rfl<;>omega
   rw[e3]
   exact hsum
  ·rename_i e
   have e4:i*w / 64<(i+1)*w / 64:=by
    have:i*w / 64≤(i+1)*w / 64:=Nat.div_le_div_right (by rw[Nat.add_mul];omega)
    omega
   rw[h.zero _ (by simpa using hj) e4]
   exact Int.pow_pos (by decide)
 ·have e5:i*w / 64≤(i+1)*w / 64:=Nat.div_le_div_right (by rw[Nat.add_mul];omega)
  rw[List.getElem_set]
  split
  ·omega
  ·exact h.zero j (by simpa using hj) (by omega)
theorem dQ {w n i:Nat} (hw:w=1∨w=8∨w=16∨w=32∨w=64) (h:i<n):i*w / 64<(n*w+63) / 64:=by
 have:(i+1)*w≤n*w:=Nat.mul_le_mul_right _ h
 rw[Nat.add_mul] at this
 rcases hw with rfl | rfl | rfl | rfl | rfl<;>omega
inductive K7:T→Prop
 |null (w:List Int):K7 (.mk 0 w [])
 |str (w:List Int) (ks:List T):w.length<65536→ks.length<65536→(∀ t,t ∈ ks→K7 t)→K7 (.mk 1 w ks)
 |ptrs (w:List Int) (ks:List T):ks.length<536870912→(∀ t,t ∈ ks→K7 t)→K7 (.mk 8 w ks)
 |comp (w:List Int) (ks:List T):ks.length<536870912→(∀ t,t ∈ ks→t.words.length<65536∧t.kids.length<65536)→(∀ t,t ∈ ks→∀ u,u ∈ t.kids→K7 u)→K7 (.mk 9 w ks)
 |data (k:Int) (w:List Int) (ks:List T):2≤k→k≤7→ks.length<536870912→(∀ c,c ∈ ks→∃ x,c.words=[x]∧0≤x∧x<18446744073709551616∧I4 (k-2) x=true)→K7 (.mk k w ks)
theorem WM:∀ {ts:List T} {t:T},t ∈ ts→t.words.length≤FO ts
 |u::ts,t,h=>by
  rcases List.mem_cons.1 h with rfl | h
  ·simp only[FO];omega
  ·have:=WM h
   simp only[FO];omega
theorem Xc:∀ {ts:List T} {t:T},t ∈ ts→t.kids.length≤FN ts
 |u::ts,t,h=>by
  rcases List.mem_cons.1 h with rfl | h
  ·simp only[FN];omega
  ·have:=Xc h
   simp only[FN];omega
end Go.PL
namespace Go.Proofs.YtbjmaoedheiigaaGreat
open Go Go.G Go.Proofs Go.PL
abbrev s1:List (List Int):=[[4294967296,7]]
abbrev s2:List (List Int):=[[8589934592,7,0]]
abbrev s3:List (List Int):=[[4294967296,8]]
theorem sg1:Sg s1:=⟨fun x hx=>by simp at hx;subst hx;simp,fun x hx y hy=>by simp at hx;subst hx;simp at hy;omega⟩
theorem sg3:Sg s3:=⟨fun x hx=>by simp at hx;subst hx;simp,fun x hx y hy=>by simp at hx;subst hx;simp at hy;omega⟩
theorem Ac8:aJ s1 64 3000=(.mk 1 [7] [],2,0):=by kernel_rfl
theorem AcF:aJ s3 64 3000=(.mk 1 [8] [],2,0):=by kernel_rfl
end Go.Proofs.YtbjmaoedheiigaaGreat
namespace Go.G
open Go.RowKit
theorem ji {P:Program} {K:Sta→Prop} {rest:List CO} {s:Nat→A} {H:Hp} {dd:Option Nat} {nm:Nm} {ix:Nat} {un:List Nat} {l:Bool} {lg:Lg} {g:FuncId} {fo:Operand} {fs caps L:List A} {as':Array Operand} {ts:Array TypeId} {x:A} (hv0:evs s fo = .fnc g fs caps) (hL:fs++(as'.toList.map (evs s)++caps)=L) (E:Eff) (R W:Fp) (hs:∀ H2,Agree (R++W) H H2→Vw P H2 g L x E) (hw:Sn E W) (hc:Ck un lg ⟨R,W⟩) (h:Ap P K rest (Bd l ix ⟨R,W⟩ lg) (Sta.put ⟨s,H⟩ dd x (E.app H))) :
  Ap P K (⟨dd,.call { callee:=.value fo,args:=as',argTypes:=ts },none,nm,ix,un,l⟩::rest) lg ⟨s,H⟩:=by
 subst hL
 exact⟨x,E,⟨R,W⟩,⟨g,fs,caps,hv0,.inr (.inr ⟨hs,hw⟩)⟩,hc,h⟩
theorem Xn {P:Program} {K:Sta→Prop} {rest:List CO} {s:Nat→A} {H:Hp} {dd:Option Nat} {nm:Nm} {ix:Nat} {un:List Nat} {l:Bool} {lg:Lg} {g:FuncId} {fo:Operand} {fs caps L:List A} {as':Array Operand} {ts:Array TypeId}
  (hv0:evs s fo = .fnc g fs caps) (hL:fs++(as'.toList.map (evs s)++caps)=L) (rs:List Nat) (m:Nat) {args:List A} {Hc Hr H':Hp} {r x:A} (hS:Ia P g rs.length args Hc r Hr) (hnd:rs.Nodup) (hm:m≤rs.length)
  (ha:A.renL (Wj rs) (fun _=>0) L=args) (har:A.refsL (V9 rs m) L) (hH:KP rs m H=Hc) (hcl:T9 rs m H)
  (hr:r.refs (HB rs.length)) (ho:∀ (i:Nat) (p:Nm),i<rs.length→(Hr (i::p)).ob.refs (HB rs.length)) (hv:∀ (i:Nat) (p:Nm),m≤i→i<rs.length→(Hr (i::p)).ob = .none∨1≤(Hr (i::p)).u)
  (hx:r.ren (TD rs) (MZ rs m H)=x) (hH':Ms rs (MZ rs m H) H Hr=H') (hck:Ck un lg ⟨[],rs.map fun r=>([r],true)⟩)
  (h:Ap P K rest (Bd l ix ⟨[],rs.map fun r=>([r],true)⟩ lg) (Sta.put ⟨s,H⟩ dd x H')) :
  Ap P K (⟨dd,.call { callee:=.value fo,args:=as',argTypes:=ts },none,nm,ix,un,l⟩::rest) lg ⟨s,H⟩:=by
 have hit_in:∀ {j:Nat} {p:Nm},j ∈ rs→Xe (rs.map fun r=>([r],true)) (j::p)=true:=fun {j p} hj=>by
  simp only[Xe,List.any_map,List.any_eq_true]
  exact⟨j,hj,by simp[VD,List.isPrefixOf]⟩
 have hnil:(Eff.fn rs (HA rs m H Hr)).app H=H':=by rw[U9];exact hH'
 subst hx
 rw[← hnil] at h
 refine ji hv0 hL (Eff.fn rs (HA rs m H Hr)) [] (rs.map fun r=>([r],true)) (fun H2 hag=>?_) (fun o H2 ho'=>?_) hck h
 ·have ag:∀ {j:Nat} {p:Nm},j ∈ rs→H2 (j::p)=H (j::p):=fun {j p} hj=>hag _ (by simpa using hit_in hj)
  have agi:∀ {i:Nat} {p:Nm},i<rs.length→H2 (rs.getD i 0::p)=H (rs.getD i 0::p):=fun {i p} hi=>ag (by simp[List.getD,hi])
  have hd:MZ rs m H2=MZ rs m H:=by
   funext o
   cases o with
   |nil=>rfl
   |cons i p=>
    simp only[MZ]
    by_cases hi:i<rs.length
    ·rw[agi hi]
    ·rw[if_neg hi,if_neg hi]
  have hoH:HA rs m H2 Hr=HA rs m H Hr:=by
   funext o
   cases o with
   |nil=>rfl
   |cons j p=>simp only[HA,hd]
  subst ha
  have:=Sx (P:=P) (f:=g) (rs:=rs) (m:=m) (args:=L) (Hc:=Hc) (Hr:=Hr) (r:=r) (H:=H2) hnd hm hS
   (fun i p hi=>by rw[← hH,agi (by omega)];simp only[KP,if_pos hi]) (fun i p hi=>by rw[← hH];simp only[KP];rw[if_neg (by omega)]) (by rw[← hH];rfl) har
   (fun i p hi=>by rw[agi (by omega)];exact hcl _ _ (by rw[Ls hnd (by omega)];exact hi)) hr ho hv
  rwa [hd,hoH] at this
 ·cases o with
  |nil=>rfl
  |cons j p=>
   have:¬ j ∈ rs:=fun hj=>by rw[hit_in hj] at ho';cases ho'
   simp[Eff.app,this]
theorem rL {P:Program} {H:Hp} {g:FuncId} {L:List A} (rs:List Nat) (m:Nat) {args:List A} {Hc Hr H':Hp} {r:A} (hS:Ia P g rs.length args Hc r Hr) (hnd:rs.Nodup) (hm:m≤rs.length)
  (ha:A.renL (Wj rs) (fun _=>0) L=args) (har:A.refsL (V9 rs m) L) (hH:KP rs m H=Hc) (hcl:T9 rs m H)
  (hr:r.refs (HB rs.length)) (ho:∀ (i:Nat) (p:Nm),i<rs.length→(Hr (i::p)).ob.refs (HB rs.length)) (hv:∀ (i:Nat) (p:Nm),m≤i→i<rs.length→(Hr (i::p)).ob = .none∨1≤(Hr (i::p)).u)
  (hH':Ms rs (MZ rs m H) H Hr=H'):∃ E,XD P H g L (r.ren (TD rs) (MZ rs m H)) E [] (rs.map fun r=>([r],true))∧E.app H=H':=by
 have hit_in:∀ {j:Nat} {p:Nm},j ∈ rs→Xe (rs.map fun r=>([r],true)) (j::p)=true:=fun {j p} hj=>by
  simp only[Xe,List.any_map,List.any_eq_true]
  exact⟨j,hj,by simp[VD,List.isPrefixOf]⟩
 have hnil:(Eff.fn rs (HA rs m H Hr)).app H=H':=by rw[U9];exact hH'
 refine⟨Eff.fn rs (HA rs m H Hr),.inr (.inr ⟨fun H2 hag=>?_,fun o H2 ho'=>?_⟩),hnil⟩
 ·have ag:∀ {j:Nat} {p:Nm},j ∈ rs→H2 (j::p)=H (j::p):=fun {j p} hj=>hag _ (by simpa using hit_in hj)
  have agi:∀ {i:Nat} {p:Nm},i<rs.length→H2 (rs.getD i 0::p)=H (rs.getD i 0::p):=fun {i p} hi=>ag (by simp[List.getD,hi])
  have hd:MZ rs m H2=MZ rs m H:=by
   funext o
   cases o with
   |nil=>rfl
   |cons i p=>
    simp only[MZ]
    by_cases hi:i<rs.length
    ·rw[agi hi]
    ·rw[if_neg hi,if_neg hi]
  have hoH:HA rs m H2 Hr=HA rs m H Hr:=by
   funext o
   cases o with
   |nil=>rfl
   |cons j p=>simp only[HA,hd]
  subst ha
  have:=Sx (P:=P) (f:=g) (rs:=rs) (m:=m) (args:=L) (Hc:=Hc) (Hr:=Hr) (r:=r) (H:=H2) hnd hm hS
   (fun i p hi=>by rw[← hH,agi (by omega)];simp only[KP,if_pos hi]) (fun i p hi=>by rw[← hH];simp only[KP];rw[if_neg (by omega)]) (by rw[← hH];rfl) har
   (fun i p hi=>by rw[agi (by omega)];exact hcl _ _ (by rw[Ls hnd (by omega)];exact hi)) hr ho hv
  rwa [hd,hoH] at this
 ·cases o with
  |nil=>rfl
  |cons j p=>
   have:¬ j ∈ rs:=fun hj=>by rw[hit_in hj] at ho';cases ho'
   simp[Eff.app,this]
theorem wR {P:Program} {K:Sta→Prop} {rest:List CO} {s:Nat→A} {H H':Hp} {dd:Option Nat} {nm:Nm} {ix:Nat} {un:List Nat} {l:Bool} {lg:Lg} {ro:Operand} {name:String} {t:TypeId} {a a':A} {g:FuncId} {d:Option TypeId} {L:List A} {as':Array Operand} {ts:Array TypeId} {x:A} {R W:Fp}
  (hr:evs s ro = .ifc t a) (hm:Pg P t name=some (g,d)) (ha:XG P H d a=some a') (hL:a'::as'.toList.map (evs s)=L) (hc:∃ E,XD P H g L x E R W∧E.app H=H') (hck:Ck un lg ⟨refs a++R,W⟩)
  (h:Ap P K rest (Bd l ix ⟨refs a++R,W⟩ lg) (Sta.put ⟨s,H⟩ dd x H')) :
  Ap P K (⟨dd,.call { callee:=.invoke ro name,args:=as',argTypes:=ts },none,nm,ix,un,l⟩::rest) lg ⟨s,H⟩:=by
 obtain⟨E,h1,rfl⟩:=hc
 subst hL
 exact⟨x,E,⟨refs a++R,W⟩,⟨t,a,g,d,a',R,hr,hm,ha,h1,rfl⟩,hck,h⟩
end Go.G
namespace Go.Proofs.YtbjmaoedheiigaaGreat
open Go Go.G Go.Proofs Go.PL
def AaR (h x:Int):Int:=IntKind.u64.wrap (bits .xor .u64 h x*1099511628211)
def P3 (h x:Int):Int:=bits .xor .u64 (AaR h x) (AaR h x / 2 ^ min 29 IntKind.u64.bits)
mutual
def D4:T→Int
 |.mk k w l=>Rl (w.foldl P3 (P3 (P3 14695981039346656037 (IntKind.u64.wrap k)) (IntKind.u64.wrap w.length))) l
def Rl:Int→List T→Int
 |h,[]=>h
 |h,t::l=>Rl (P3 h (D4 t)) l
end
def iK (u:Nat) (h:Int):Nm→VOb
 |[]=>⟨u,.cells [uv h]⟩
 |_=>⟨0,.none⟩
@[simp] theorem AeB {u:Nat} {h:Int}:iK u h []=⟨u,.cells [uv h]⟩:=rfl
theorem Mg (u:Nat) (h x:Int):Ia Tryz.prog 269 1 [.pob [0] u 0,uv x] (ov 0 (iK u h) (DH [])) (.tup []) (ov 0 (iK u (P3 h x)) (DH [])):=by
 refine Iz QE (by simp) fun w0 I0 M0 m0=>?_
 unfold KA
 simp[Aa]
 refine NF rfl rfl (fun i p hi=>?_)
 have hi0:i=0:=by omega
 subst hi0
 simp only[AR,if_true]
 refine FE rfl (fun h1=>?_)
 cases p with
 |nil=>exact absurd rfl h1
 |cons a p=>rfl
theorem YV {P:Program} {K:Sta→Prop} {rest:List CO} {s:Nat→A} {H:Hp} {dd:Option Nat} {nm:Nm} {ix:Nat} {un:List Nat} {l:Bool} {lg:Lg} {g:FuncId} {fo:Operand} {aa:Array Operand} {ts:Array TypeId}
  {r u:Nat} {h x:Int} (ho:evs s fo = .fnc g [.pob [r] u 0] []) (hS:Ia P g 1 [.pob [0] u 0,uv x] (ov 0 (iK u h) (DH [])) (.tup []) (ov 0 (iK u (P3 h x)) (DH []))) (hF:∀ p,H (r::p)=iK u h p)
  (ha:aa.toList.map (evs s)=[uv x]) (hck:Ck un lg ⟨[],[([r],true)]⟩)
  (h:Ap P K rest (Bd l ix ⟨[],[([r],true)]⟩ lg) (Sta.put ⟨s,H⟩ dd (.tup []) (ov r (iK u (P3 h x)) H))) :
  Ap P K (⟨dd,.call { callee:=.value fo,args:=aa,argTypes:=ts },none,nm,ix,un,l⟩::rest) lg ⟨s,H⟩:=by
 have hd:∀ p,MZ [r] 1 H (0::p)=0:=fun p=>rfl
 refine Xn (L:=[.pob [r] u 0,uv x]) ho (by rw[ha];rfl) [r] 1 hS (by simp) (by simp) ?_ ?_ ?_ ?_ (by simp[A.refs,A.refsL]) ?_ (fun i p h1 h2=>by simp at h2;omega) rfl ?_ hck h
 ·simp[A.renL,A.ren,Wj]
 ·simp[A.refs,A.refsL,V9]
 ·funext o
  cases o with
  |nil=>rfl
  |cons i p=>
   by_cases hi:i<1
   ·have:i=0:=by omega
    subst this
    simp only[KP,if_pos hi,AR,if_true]
    show(H (r::p)).ren _ _ 0=_
    rw[hF]
    cases p<;>rfl
   ·simp only[KP,if_neg hi,AR]
    rw[if_neg (by omega)]
    rfl
 ·intro j p hj
  have hjr:j=r:=by
   have:=(idx_mem (rs:=[r])).1 (by simpa using hj)
   simpa using this
  rw[hjr,hF]
  cases p with
  |nil=>simp[iK,Ob.refs,A.refsL,A.refs]
  |cons a p=>trivial
 ·intro i p hi
  have:i=0:=by simp at hi;omega
  subst this
  simp only[AR,if_true]
  cases p with
  |nil=>simp[iK,Ob.refs,A.refsL,A.refs]
  |cons a p=>trivial
 ·funext o
  cases o with
  |nil=>rfl
  |cons j p=>
   by_cases hj:j=r
   ·subst hj
    simp only[Ms,AR,if_true]
    rw[if_pos (by simp)]
    have:[j].idxOf j=0:=by simp
    rw[this,if_pos rfl,hd]
    cases p<;>rfl
   ·have:¬ [r].contains j=true:=by simpa using hj
    simp only[Ms,if_neg this,AR,if_neg hj]
abbrev mxV:A:=.fnc 269 [.pob [1] 1 0] []
abbrev uU (l:List (List Int)) (t:T):Prop:=∀ r,Az l r t→G.Spec Tryz.prog 258 [Gx l r] (.tup [uv (D4 (Ai t)),iv 0])
variable {n0:Nat} {w0:World} {I0:Nat→Prop} {Q:Exit→Sta→Prop}
theorem rH {l:List (List Int)} (hl:Sg l) {r:Rf} {t:T} (ht:Az l r t):∀ (m i:Nat) (h:Int) (H:Hp),i+m=nW t→H [0]=⟨1,.cells (V5 l r)⟩→(∀ p,H (1::p)=iK 1 h p) →
  (∀ i' q H',H' [0]=⟨1,.cells (V5 l r)⟩→(∀ p,H' (1::p)=iK 1 (((t.words.take (nW t)).drop i).foldl P3 h) p)→Q (.exit 0) ⟨lk [(1,.pob [0] 1 0),(4,.pob [1] 1 0),(5,mxV),(6,iv (nK t)),(36,iv (nW t)),(37,iv i'),(38,bv q)],H'⟩) →
  LoopC (cx Tryz.prog w0 I0 n0) HV Q ⟨lk [(1,.pob [0] 1 0),(4,.pob [1] 1 0),(5,mxV),(6,iv (nK t)),(36,iv (nW t)),(37,iv i)],H⟩:=by
 have h1:=Dk ht
 have w1:=Xu t
 intro m
 induction m with
 |zero=>
  intro i h H hi hA hM hq
  have:i=nW t:=by omega
  subst this
  refine Ad Ak HV.eq_1 ?_
  simp
  exact hq _ _ H hA (fun p=>by rw[hM,List.drop_of_length_le (by simp;omega)];rfl)
 |succ m ihm=>
  intro i h H hi hA hM hq
  have hlt:i<nW t:=by omega
  have lt1:i<t.words.length:=by omega
  have ei:IntKind.i64.wrap ((i:Int)+1)=((i+1:Nat):Int):=Af (by omega) (by omega)
  have hw:=(CR ht).2 i lt1
  refine Ad Ak HV.eq_1 ?_
  simp[hlt,hA]
  refine Ae (Gi hl (Ce ht) i) (by simp) ?_
  rw[hw]
  simp
  refine YV (x:=t.words[i]) rfl (Mg 1 h _) hM (by simp) (by simp) ?_
  simp[ei]
  refine ihm (i+1) (P3 h t.words[i]) _ (by omega) (by simp[hA]) (fun p=>by simp) fun i' q H' a0 a1=>hq i' q H' a0 fun p=>?_
  rw[a1]
  have:(t.words.take (nW t)).drop i=t.words[i]::(t.words.take (nW t)).drop (i+1):=by
   rw[List.drop_eq_getElem_cons (by simp;omega)]
   simp
  rw[this]
  rfl
theorem sU {l:List (List Int)} (hl:Sg l) {r:Rf} {t:T} (ht:Az l r t) (ih:∀ c,c ∈ t.kids→uU l c):∀ (m i:Nat) (h:Int) (H:Hp),i+m=nK t→H [0]=⟨1,.cells (V5 l r)⟩→(∀ p,H (1::p)=iK 1 h p) →
  (∀ i' q H',(∀ p,H' (1::p)=iK 1 (Rl h (((t.kids.take (nK t)).map Ai).drop i)) p)→Q (.exit 2) ⟨lk [(1,.pob [0] 1 0),(4,.pob [1] 1 0),(5,mxV),(46,iv (nK t)),(47,iv i'),(48,bv q)],H'⟩) →
  LoopC (cx Tryz.prog w0 I0 n0) HL Q ⟨lk [(1,.pob [0] 1 0),(4,.pob [1] 1 0),(5,mxV),(46,iv (nK t)),(47,iv i)],H⟩:=by
 have h1:=Dk ht
 have w1:=Z8 t
 intro m
 induction m with
 |zero=>
  intro i h H hi hA hM hq
  have:i=nK t:=by omega
  subst this
  refine Ad Ak HL.eq_1 ?_
  simp
  exact hq _ _ H (fun p=>by rw[hM,List.drop_of_length_le (by simp;omega),Rl])
 |succ m ihm=>
  intro i h H hi hA hM hq
  have hlt:i<nK t:=by omega
  have lt1:i<t.kids.length:=by omega
  have ei:IntKind.i64.wrap ((i:Int)+1)=((i+1:Nat):Int):=Af (by omega) (by omega)
  obtain⟨a1,a2⟩:=Fq ht lt1
  have ihc:=ih _ (BI lt1) _ a2
  refine Ad Ak HL.eq_1 ?_
  simp[hlt,hA]
  refine Ae (Ka hl (Ce ht) i) (by simp) ?_
  simp[a1,Aa,hA]
  refine Ae ihc (by simp) ?_
  simp
  refine YV (x:=D4 (Ai t.kids[i])) rfl (Mg 1 h _) (fun p=>by simp[Aa,hM]) (by simp) (by simp) ?_
  simp[ei]
  refine ihm (i+1) (P3 h (D4 (Ai t.kids[i]))) _ (by omega) (by simp[Aa,hA]) (fun p=>by simp) fun i' q H' a3=>hq i' q H' fun p=>?_
  rw[a3]
  have:((t.kids.take (nK t)).map Ai).drop i=Ai t.kids[i]::((t.kids.take (nK t)).map Ai).drop (i+1):=by
   rw[List.drop_eq_getElem_cons (by simp;omega)]
   simp
  rw[this,Rl]
theorem j3 {l:List (List Int)} (hl:Sg l):∀ t,uU l t:=by
 refine T.ind fun k w ks ih r ht=>?_
 have hln:=Dk ht
 have w1:=Xu (.mk k w ks)
 have k1:=Cv ht
 refine Al Zn (by simp) fun w0 I0=>?_
 unfold Qz
 simp
 refine Ae (Ch l r) (by simp) ?_
 simp
 refine YV (x:=IntKind.u64.wrap r.kind) rfl (Mg 1 14695981039346656037 _) (fun p=>by cases p<;>simp[iK]) (by simp) (by simp) ?_
 simp
 refine Ae (PA hl ht) (by simp) ?_
 simp
 refine Ae (H9 hl ht) (by simp) ?_
 simp
 refine YV (x:=IntKind.u64.wrap (nW (.mk k w ks))) rfl (Mg 1 _ _) (fun p=>by simp;rfl) (by simp) (by simp) ?_
 simp
 refine Ae (H9 hl ht) (by simp) ?_
 simp
 refine rH hl ht (nW (.mk k w ks)) 0 _ _ (by omega) (by simp) (fun p=>by simp;rfl) fun i' q H' hA hM=>?_
 simp
 refine sU hl ht ih (nK (.mk k w ks)) 0 _ H' (by omega) hA hM fun i' q H2 hM2=>?_
 have h0:=hM2 []
 simp at h0
 simp[h0]
 refine Ao rfl ?_
 have hb:=PM ht
 have hw:=JZ hb
 have hk:=Lh hb
 have key:D4 (Ai (.mk k w ks))=Rl (((T.mk k w ks).words.take (nW (.mk k w ks))).foldl P3 (P3 (P3 14695981039346656037 (IntKind.u64.wrap k)) (IntKind.u64.wrap (nW (.mk k w ks))))) (((T.mk k w ks).kids.take (nK (.mk k w ks))).map Ai):=by
  rw[T.eta (Ai (.mk k w ks)),D4,CM,hw,hk]
  have:((T.mk k w ks).words.take (nW (.mk k w ks))).length=nW (.mk k w ks):=by simp at w1 ⊢; omega
  rw[this,T.kind_mk]
 rw[key,k1,T.kind_mk]
 simp[List.map_take]
mutual
theorem Po:∀ (t:T) (d:Nat) (n:Int),-1≤DX d n t∧(-1≤n→DX d n t≤n)
 |.mk k w l,d,n=>by
  rw[Qg]
  split
  ·omega
  ·have:=Np l (d-1) (n-1-w.length) (by omega)
   omega
theorem Np:∀ (l:List T) (d:Nat) (n:Int),-1≤n→-1≤DE d n l∧DE d n l≤n
 |[],d,n,h=>by simp;omega
 |t::l,d,n,h=>by
  rw[HQ]
  split
  ·omega
  ·have h1:=Po t d n
   have h2:=Np l d (DX d n t) h1.1
   omega
end
theorem XY (l:List T) (d:Nat) {n:Int} (h:n<0):DE d n l=n:=by
 cases l with
 |nil=>simp
 |cons t l=>simp[h]
theorem cJ {t:T} {d:Nat} (hd:1≤d) (hd1:d≤1000) (hl:t.kids.length*56≤140737488355328) (ih:∀ c,c ∈ t.kids→∀ (d:Nat) (n:Int),d≤1000→0≤n→n≤1000000→G.Spec Tryz.prog 27 [tX c,iv d,iv n] (iv (DX d n c)))
  {H:Hp} (hH:H [0]=⟨1,.cells [iv t.kind,DP t.words,Co t.kids]⟩):∀ (m i:Nat) (n:Int),i+m=t.kids.length→-1≤n→n≤1000000 →
  (∀ i' q,Q (.exit 0) ⟨lk [(1,iv d),(2,iv (DE (d-1) n (t.kids.drop i))),(3,.pob [0] 1 0),(7,iv i'),(28,bv q)],H⟩) →
  LoopC (cx Tryz.prog w0 I0 n0) Dc Q ⟨lk [(1,iv d),(2,iv n),(3,.pob [0] 1 0),(7,iv i)],H⟩:=by
 intro m
 induction m with
 |zero=>
  intro i n hi h1 h2 hq
  have:i=t.kids.length:=by omega
  subst this
  refine Ad Ak Dc.eq_1 ?_
  simp[hH]
  simpa using hq _ false
 |succ m ihm=>
  intro i n hi h1 h2 hq
  have hlt:i<t.kids.length:=by omega
  refine Ad Ak Dc.eq_1 ?_
  have e:t.kids.drop i=t.kids[i]::t.kids.drop (i+1):=List.drop_eq_getElem_cons hlt
  by_cases hn:n<0
  ·simp[hH,hlt,show ¬ (0:Int)≤n by omega]
   have:=hq i false
   rwa [XY _ _ hn] at this
  ·have hn':0≤n:=by omega
   simp[hH,hlt,hn']
   have ed:IntKind.i64.wrap ((d:Int)-1)=((d-1:Nat):Int):=Av
   rw[ed]
   refine Ae (ih _ (BI hlt) (d-1) n (by omega) hn' h2) rfl ?_
   simp
   have hr:=Po t.kids[i] (d-1) n
   rw[Af (by omega) (by omega)]
   refine ihm (i+1) _ (by omega) hr.1 (by omega) fun i' q=>?_
   have:=hq i' q
   rw[e,HQ,if_neg (by omega)] at this
   exact this
theorem Ze:∀ (t:T),DI t→∀ (d:Nat) (n:Int),d≤1000→0≤n→n≤1000000→G.Spec Tryz.prog 27 [tX t,iv d,iv n] (iv (DX d n t)):=by
 refine T.ind fun k w l ih hw d n hd hn hn1=>?_
 have hw':=wfT_iff.1 hw
 have hwl:=hw'.wl
 have hkl:=hw'.kl
 simp at hwl hkl
 have ihc:∀ c,c ∈ (T.mk k w l).kids→∀ (d:Nat) (n:Int),d≤1000→0≤n→n≤1000000→G.Spec Tryz.prog 27 [tX c,iv d,iv n] (iv (DX d n c)):=fun c hc=>ih c hc (hw'.ks c hc)
 refine Al M4 (by simp) fun w0 I0=>?_
 unfold Ix
 have e1:IntKind.i64.wrap (IntKind.i64.wrap (n-1)-(w.length:Int))=n-1-w.length:=by rw[Af (n:=n-1) (by omega) (by omega),Af (by omega) (by omega)]
 rw[Qg]
 by_cases hc:d=0∨n-1-(w.length:Int)<0
 ·have hd:(decide (d=0) || decide (n-1-(w.length:Int)<0))=true:=by simp;omega
  simp[e1,hd,hc]
  exact Ab rfl
 ·have hd:(decide (d=0) || decide (n-1-(w.length:Int)<0))=false:=by simp;omega
  simp[e1,hd,hc]
  refine cJ (t:=.mk k w l) (by omega) (by omega) hkl ihc (by simp) l.length 0 _ (by simp) (by omega) (by omega) fun i' q=>?_
  simp
  exact Ab rfl
abbrev tL (t:T):List A:=[iv t.kind,DP t.words,Co t.kids]
theorem nL {t:T} (hl:t.kids.length*56≤140737488355328) {H:Hp} (hH:H [0]=⟨1,.cells (tL t)⟩):∀ (m i a b:Nat),i+m=t.kids.length →
  (∀ i' q (x y:Nat),x=max a (FO (t.kids.drop i))→y=max b (FN (t.kids.drop i))→Q (.exit 0) ⟨lk [(1,.pob [0] 1 0),(4,iv x),(5,iv y),(6,iv i'),(11,bv q)],H⟩) →
  LoopC (cx Tryz.prog w0 I0 n0) DY Q ⟨lk [(1,.pob [0] 1 0),(4,iv a),(5,iv b),(6,iv i)],H⟩:=by
 intro m
 induction m with
 |zero=>
  intro i a b hi hq
  have:i=t.kids.length:=by omega
  subst this
  refine Ad Ak DY.eq_1 ?_
  simp[hH]
  exact hq _ false _ _ (by simp[FO]) (by simp[FN])
 |succ m ih=>
  intro i a b hi hq
  have hlt:i<t.kids.length:=by omega
  have e:t.kids.drop i=t.kids[i]::t.kids.drop (i+1):=List.drop_eq_getElem_cons hlt
  have ei:IntKind.i64.wrap ((i:Int)+1)=((i+1:Nat):Int):=Af (by omega) (by omega)
  refine Ad Ak DY.eq_1 ?_
  simp[hH,hlt]
  refine⟨fun h1=>?_,fun h1=>?_⟩
  all_goals
   rw[IU.eq_1]
   simp[hH,hlt,ei]
   refine⟨fun h2=>?_,fun h2=>?_⟩
  ·exact ih (i+1) _ _ (by omega) fun i' q x y hx hy=>hq i' q x y (by rw[hx,e,FO];omega) (by rw[hy,e,FN];omega)
  ·exact ih (i+1) _ _ (by omega) fun i' q x y hx hy=>hq i' q x y (by rw[hx,e,FO];omega) (by rw[hy,e,FN];omega)
  ·exact ih (i+1) _ _ (by omega) fun i' q x y hx hy=>hq i' q x y (by rw[hx,e,FO];omega) (by rw[hy,e,FN];omega)
  ·exact ih (i+1) _ _ (by omega) fun i' q x y hx hy=>hq i' q x y (by rw[hx,e,FO];omega) (by rw[hy,e,FN];omega)
theorem bF (t:T) (hl:t.kids.length*56≤140737488355328):G.Spec Tryz.prog 66 [tX t] (.tup [iv (FO t.kids),iv (FN t.kids)]):=by
 refine Al P1 (by simp) fun w0 I0=>?_
 unfold J6
 simp
 refine nL (t:=t) hl (by simp) t.kids.length 0 0 0 (by omega) fun i' q x y hx hy=>?_
 simp
 refine Ao rfl ?_
 simp[hx,hy]
theorem sk {t:T} (hl:t.kids.length*56≤140737488355328) (ih:∀ c,c ∈ t.kids→G.Spec Tryz.prog 32 [tX c] (tX (Ai c))) {v:VOb}:∀ (m i:Nat) (u:Nat) (H:Hp),i+m=t.kids.length→H [0]=⟨1,.cells (tL t)⟩→H [1]=v→H [3]=⟨u,.arr 3 (((t.kids.take i).map Ai).map tA)⟩ →
  (∀ i' q (u':Nat) (H':Hp),H' [0]=⟨1,.cells (tL t)⟩→H' [1]=v→H' [3]=⟨u',.arr 3 ((t.kids.map Ai).map tA)⟩→Q (.exit 0) ⟨lk [(1,.pob [0] 1 0),(2,.pob [1] 1 0),(3,.osl [3] u' 3 0 t.kids.length),(4,iv (BA t.kids).length),(5,iv i'),(16,bv q)],H'⟩) →
  LoopC (cx Tryz.prog w0 I0 n0) Ep Q ⟨lk [(1,.pob [0] 1 0),(2,.pob [1] 1 0),(3,.osl [3] u 3 0 i),(4,iv (BA (t.kids.take i)).length),(5,iv i)],H⟩:=by
 intro m
 induction m with
 |zero=>
  intro i u H hi hA hR hB hq
  have:i=t.kids.length:=by omega
  subst this
  refine Ad Ak Ep.eq_1 ?_
  simp[hA]
  have:=hq t.kids.length false u H hA hR (by rw[hB];simp)
  simpa using this
 |succ m ihm=>
  intro i u H hi hA hR hB hq
  have hlt:i<t.kids.length:=by omega
  refine Ad Ak Ep.eq_1 ?_
  simp[hA,hlt]
  refine Ae (ih _ (BI hlt)) rfl ?_
  simp[Aa,hB]
  have ei:IntKind.i64.wrap ((i:Int)+1)=((i+1:Nat):Int):=Af (by omega) (by omega)
  have hrow:=aq (f:=tA ∘ Ai) hlt (x:=A.agg [iv t.kids[i].kind,DP (Ai t.kids[i]).words,Co (Ai t.kids[i]).kids]) (by simp)
  rw[hrow]
  refine⟨⟨by omega,by omega⟩,fun h=>?_,fun h=>?_⟩
  ·rw[ei,← PZ hlt h]
   exact ihm (i+1) (u+1) _ (by omega) (by simp[Aa,hA]) (by simp[Aa,hR]) (by simp[Aa]) hq
  ·have ek:(BA (t.kids.take (i+1))).length=i+1:=by rw[P2 hlt h];simp;omega
   rw[ei]
   have:=fun H h1 h2 h3=>ihm (i+1) (u+1) H (by omega) h1 h2 h3 hq
   rw[ek] at this
   exact this _ (by simp[Aa,hA]) (by simp[Aa,hR]) (by simp[Aa])
theorem dn:∀ (t:T),DI t→G.Spec Tryz.prog 32 [tX t] (tX (Ai t)):=by
 refine T.ind fun k w l ih hw=>?_
 have hw':=wfT_iff.1 hw
 have hwl:=hw'.wl
 have hkl:=hw'.kl
 simp at hwl hkl
 refine Al Ry (by simp) fun w0 I0=>?_
 unfold Kj
 rw[BG]
 by_cases h0:k=0
 ·simp[h0]
  exact XV
 ·simp[h0]
  refine LoopC.le (FP 3 [3] 3 (by simp)) ?_
  simp
  refine LoopC.le (AA [(1,.pob [0] 1 0),(2,.pob [1] 1 0),(3,.osl [3] 1 3 0 0),(4,iv 0),(5,iv 0)] (by simp[upd])) ?_
  refine sk (t:=.mk k w l) (by simpa using hkl) (fun c hc=>ih c hc (hw'.ks c hc)) l.length 0 1 _ (by simp) (by simp) rfl (by simp) fun i' q u' H' hA hR hB=>?_
  have hle:=Iu l
  by_cases h1:k=1
  ·subst h1
   simp at hA hR hB
   simp[hA,hR,hB,hle,Aa]
   refine Ae (fW w hwl) rfl ?_
   simp[hA,hR,hB,hle,Aa]
   refine Dd ?_
   simp
   rw[N6]
   refine⟨Ab rfl,Ab rfl,?_⟩
   have:=UW (H:=AQ H' [1] ⟨1,.cells [iv 1,A.sl false (List.map uv (BX w)),A.osl [3] u' 3 0 (BA l).length]⟩) (o:=[3]) (u:=u') (sz:=3) (l:=l) (f:=tA ∘ Ai) (by simp[Aa,hB]) hle (by simp)
   rw[← List.map_take]
   show Jw _ _ (A.sl false (((l.take (BA l).length).map Ai).map tA))
   rw[List.map_map]
   exact this
  ·simp at hA hR hB
   simp[hA,hR,hB,h1,Aa]
   refine⟨hwl,Dd ?_⟩
   simp
   refine⟨Ab rfl,BQ (by simp[Aa]) rfl (by simp),?_⟩
   have:=BQ (H:=AQ (AQ H' [4] { u:=(H' [4]).u+1,ob:=Ob.arr 1 (List.map uv w) }) [1] ⟨1,.cells [A.v (Value.int IntKind.i64 k),A.osl [4] ((H' [4]).u+1) 1 0 w.length,A.osl [3] u' 3 0 l.length]⟩) (o:=[3]) (u:=u') (sz:=3) (l:=l) (f:=tA ∘ Ai) (by simp[Aa,hB]) rfl (by simp)
   show Jw _ _ (A.sl false ((l.map Ai).map tA))
   rw[List.map_map]
   exact this
theorem L6:∀ (t:T),DI t→DI (Ai t):=by
 refine T.ind fun k w l ih hw=>?_
 have hw':=wfT_iff.1 hw
 rw[BG]
 have h2:∀ (l:List T),(∀ t,t ∈ l→∃ u,u ∈ l∧t=u)→True:=fun _ _=>trivial
 have hm:∀ t,t ∈ l.map Ai→DI t:=fun t ht=>by
  obtain⟨u,hu,rfl⟩:=List.mem_map.1 ht
  exact ih u hu (hw'.ks u hu)
 split
 ·exact wfT_iff.2 ⟨by simp[Lm],by simp,by simp,by simp,by simp⟩
 ·split
  ·refine wfT_iff.2 ⟨by simp[Lm],fun x hx=>?_,?_,?_,fun t ht=>?_⟩
   ·simp only[T.words_mk] at hx
    rw[P8] at hx
    exact hw'.w x (Qo hx)
   ·have:=JE w
    have:=hw'.wl
    simp at this ⊢
    omega
   ·have:=Iu (l.map Ai)
    have:=hw'.kl
    simp at this ⊢
    simp at *
    omega
   ·simp only[T.kids_mk] at ht
    rw[L3] at ht
    exact hm t (Qo ht)
  ·exact wfT_iff.2 ⟨hw'.k,hw'.w,hw'.wl,by simpa using hw'.kl,by simpa using hm⟩
theorem jo {c:T} (h:DI c) (hl:c.words.length=1):∃ x,c.words=[x]∧BN x:=by
 have:=(wfT_iff.1 h).w
 match hc:c.words,hl with
 |[x],_=>exact⟨x,rfl,this x (by simp[hc])⟩
theorem Zk {d:Nat} {c:T} (h:DR d c=true) (h10:c.kind=10):c.words.length=1:=by
 obtain⟨k,w,l⟩:=c
 simp at h10
 subst h10
 rw[Dm] at h
 simp at h
 exact h.1
theorem oP {t:T} (hl:t.kids.length*56≤140737488355328) (hk0:0≤t.kind) (hk1:t.kind≤10) {d:Nat} (hd:1≤d) (hd1:d≤1000) (hw:∀ c,c ∈ t.kids→DI c) (ih:∀ c,c ∈ t.kids→∀ d:Nat,d≤1000→G.Spec Tryz.prog 28 [tX c,iv d] (bv (DR d c))):∀ (m i:Nat) (H:Hp),i+m=t.kids.length→H [0]=⟨1,.cells (tL t)⟩ →
  (Gj (d-1) t.kind (t.kids.drop i)=true→∀ i' q H',Q (.exit 0) ⟨lk [(1,iv d),(2,.pob [0] 1 0),(5,iv i'),(82,bv q)],H'⟩)→(Gj (d-1) t.kind (t.kids.drop i)=false→∀ H',Q .ret ⟨lk [(4,bv false)],H'⟩) →
  LoopC (cx Tryz.prog w0 I0 n0) Cn Q ⟨lk [(1,iv d),(2,.pob [0] 1 0),(5,iv i)],H⟩:=by
 intro m
 induction m with
 |zero=>
  intro i H hi hA h1 h2
  have:i=t.kids.length:=by omega
  subst this
  refine Ad Ak Cn.eq_1 ?_
  simp[hA]
  exact h1 (by simp) _ _ _
 |succ m ihm=>
  intro i H hi hA h1 h2
  have hlt:i<t.kids.length:=by omega
  have e:t.kids.drop i=t.kids[i]::t.kids.drop (i+1):=List.drop_eq_getElem_cons hlt
  have ei:IntKind.i64.wrap ((i:Int)+1)=((i+1:Nat):Int):=Af (by omega) (by omega)
  have ed:IntKind.i64.wrap ((d:Int)-1)=((d-1:Nat):Int):=Av
  rw[e,aP] at h1 h2
  have hwc:=hw _ (BI hlt)
  have ihc:=ih _ (BI hlt) (d-1) (by omega)
  generalize hc:t.kids[i]=c at *
  refine Ad Ak Cn.eq_1 ?_
  simp[hA,hlt,hc,Aa,ed]
  refine Ae ihc rfl ?_
  cases hr:DR (d-1) c with
  |false=>
   simp
   exact h2 (by simp[hr]) _
  |true=>
   rw[hr] at h1 h2
   have good:D8 t.kind c=true→∀ H',H' [0]=⟨1,.cells (tL t)⟩→LoopC (cx Tryz.prog w0 I0 n0) Cn Q ⟨lk [(1,iv d),(2,.pob [0] 1 0),(5,iv ((i:Int)+1))],H'⟩:=fun hg H' hA'=>
    ihm (i+1) H' (by omega) hA' (fun hh=>h1 (by simp[hg,hh])) (fun hh=>h2 (by simp[hh]))
   have bad:D8 t.kind c=false→∀ H',Q .ret ⟨lk [(4,bv false)],H'⟩:=fun hg=>h2 (by simp[hg])
   rw[show((i+1:Nat):Int)=(i:Int)+1 from rfl] at ei
   by_cases hD:2≤t.kind∧t.kind≤7
   ·obtain⟨d2,d7⟩:=hD
    have d9:¬ t.kind=9:=by omega
    by_cases h10:c.kind=10
    ·obtain⟨x,hx,hx64⟩:=jo hwc (Zk hr h10)
     have hk:D8 t.kind c=I4 (t.kind-2) x:=by simp[D8,E8,d2,d7,d9,h10,hx]
     have e2:IntKind.i64.wrap (t.kind-2)=t.kind-2:=Af (by omega) (by omega)
     simp[Aa,hA,d2,d7,d9,h10,hx,e2]
     refine Gk rfl (fun _=>Uv hx64) (fun _=>rfl) rfl ?_
     cases hf:I4 (t.kind-2) x with
     |false=>simp;exact bad (by rw[hk,hf]) _
     |true=>simp[ei];exact good (by rw[hk,hf]) _ (by simp[Aa,hA])
    ·have hk:D8 t.kind c=false:=by simp[D8,E8,d2,d7,d9,h10]
     simp[Aa,hA,d2,d7,d9,h10]
     refine A5 rfl ?_
     simp
     exact bad hk _
   ·have hD':(decide (2≤t.kind)&&decide (t.kind≤7))=false:=by simp;omega
    by_cases h10:c.kind=10
    ·have hk:D8 t.kind c=false:=by simp[D8,E8,hD',h10]
     simp[Aa,hA,hD',h10]
     refine A5 rfl ?_
     simp
     exact bad hk _
    ·by_cases h9:t.kind=9
     ·by_cases h1':c.kind=1
      ·have hk:D8 t.kind c=true:=by simp[D8,E8,hD',h9,h1']
       rw[h9] at hD'
       simp[Aa,hA,hD',h10,h9,h1']
       refine A5 rfl ?_
       simp[ei]
       exact good hk _ (by simp[Aa,hA])
      ·have hk:D8 t.kind c=false:=by simp[D8,E8,hD',h9,h1',h10]
       rw[h9] at hD'
       simp[Aa,hA,hD',h10,h9,h1']
       refine A5 rfl ?_
       simp
       exact bad hk _
     ·have hk:D8 t.kind c=true:=by simp[D8,E8,hD',h9,h10]
      simp[Aa,hA,hD',h10,h9]
      refine A5 rfl ?_
      simp[ei]
      exact good hk _ (by simp[Aa,hA])
theorem Tj:∀ (t:T),DI t→∀ d:Nat,d≤1000→G.Spec Tryz.prog 28 [tX t,iv d] (bv (DR d t)):=by
 refine T.ind fun k w l ih hw d hd=>?_
 have hw':=wfT_iff.1 hw
 have hwl:=hw'.wl
 have hkl:=hw'.kl
 simp at hwl hkl
 refine Al Ql (by simp) fun w0 I0=>?_
 unfold JD
 rw[Dm]
 by_cases h0:k=0
 ·simp[h0]
  exact Bl (by cases w<;>cases l<;>simp<;>(rw[← List.length_eq_zero_iff];omega))
 by_cases h10:k=10
 ·simp[h10]
  exact Bl (by cases w<;>cases l<;>simp<;>(rw[← List.length_eq_zero_iff];omega))
 rw[if_neg h0,if_neg h10]
 have bad:EW k d w.length l.length=true→∀ H,Jw H (bv false) (bv (if EW k d w.length l.length=true then false else Gj (d-1) k l)):=fun hb H=>Bl (by simp[hb])
 by_cases ha:k<0∨10<k∨d=0∨65536≤w.length
 ·have ha':(decide (k<0) || decide (10<k) || decide (d=0) || decide (65536≤(w.length:Int)))=true:=by simp;omega
  simp[h0,h10,ha']
  have:=bad (by simp[EW];omega) (DH [([0],{ u:=1,ob:=Ob.cells [iv k,DP w,Co l] })])
  simpa using this
 have ha':(decide (k<0) || decide (10<k) || decide (d=0) || decide (65536≤(w.length:Int)))=false:=by simp;omega
 by_cases h1:k=1∧65536≤l.length
 ·have hl:(65536:Int)≤l.length:=by omega
  simp[h0,h10,ha',h1.1,hl]
  have:=bad (by simp[EW];omega) (DH [([0],{ u:=1,ob:=Ob.cells [iv k,DP w,Co l] })])
  simpa[h1.1] using this
 by_cases h2:1048576≤l.length
 ·have hl:(1048576:Int)≤l.length:=by omega
  have hk1:¬ k=1:=by omega
  simp[h0,h10,ha',hk1,hl]
  have:=bad (by simp[EW];omega) (DH [([0],{ u:=1,ob:=Ob.cells [iv k,DP w,Co l] })])
  simpa using this
 have hl2:¬ (1048576:Int)≤l.length:=by omega
 by_cases h3:1<k∧0<w.length
 ·have hk1:¬ k=1:=by omega
  have hw0:w ≠ []:=fun e=>by simp[e] at h3
  simp[h0,h10,ha',hk1,hl2,h3.1,h3.2,hw0]
  have:=bad (by simp[EW];omega) (DH [([0],{ u:=1,ob:=Ob.cells [iv k,DP w,Co l] })])
  simpa using this
 have hb:EW k d w.length l.length=false:=by
  rw[Bool.eq_false_iff]
  unfold EW
  simp only[Bool.or_eq_true,Bool.and_eq_true,decide_eq_true_eq,ne_eq]
  omega
 have hw0:(1<k→w=[]):=fun h=>List.eq_nil_of_length_eq_zero (by omega)
 have fin:LoopC (cx Tryz.prog w0 I0 132) Cn (Cf 0 (Gv (WPC (cx Tryz.prog w0 I0 132) (.keep [] (.seq (.reg [co (some 4) (.assign (.const (.bool true))) none] [4]) .ret)) (PO Tryz.prog [.tmp 4] (bv (Gj (d-1) k l)))) (PO Tryz.prog [.tmp 4] (bv (Gj (d-1) k l))))) ⟨lk [(1,iv d),(2,.pob [0] 1 0),(5,iv 0)],DH [([0],⟨1,.cells [iv k,DP w,Co l]⟩)]⟩:=by
  refine oP (t:=.mk k w l) (by simpa using hkl) (by simp;omega) (by simp;omega) (by omega) hd (fun c hc=>hw'.ks c hc) (fun c hc=>ih c hc (hw'.ks c hc)) l.length 0 _ (by simp) (by simp) (fun hr i' q H'=>?_) (fun hr H'=>?_)
  ·simp
   exact Bl (by simpa using hr.symm)
  ·simp
   exact Bl (by simpa using hr.symm)
 rw[if_neg (by simp[hb])]
 by_cases k1:k=1
 ·have hl3:¬ (65536:Int)≤l.length:=by omega
  have ha1:(decide (d=0) || decide (65536≤(w.length:Int)))=false:=by simp;omega
  simp[ha1,k1,hl2,hl3]
  simpa[k1] using fin
 ·simp[h0,h10,ha',k1,hl2]
  refine⟨fun a b=>absurd ⟨a,by omega⟩ h3,fun _=>?_⟩
  exact fin
theorem It {l:List (List Int)} (hs:Sg l):∀ (t:T) (r:Rf),Az l r t→DI t:=by
 refine T.ind fun k w ks ih r ht=>?_
 have hln:=Dk ht
 have hk:=Cv ht
 have hok:=Ce ht
 simp at hln hk
 refine wfT_iff.2 ⟨?_,?_,?_,?_,?_⟩
 ·simp only[T.kind_mk]
  rw[← hk]
  unfold Lm
  cases hok<;>simp[Rf.zero]<;>omega
 ·intro x hx
  obtain⟨i,hi,rfl⟩:=List.mem_iff_getElem.1 hx
  have:=(CR ht).2 i hi
  rw[← this]
  unfold BN Md
  split
  ·omega
  ·split
   ·cases hok with
    |atom n a1 a2=>exact⟨a1,a2⟩
    |dat c s a n a1 a2 a3 a4 h=>simp
    |_=>simp[Rf.zero]
   ·cases e:B0 l r.s (r.at_+i) with
    |none=>simp
    |some x=>exact DV hs.w e
 ·simp;omega
 ·simp;omega
 ·intro c hc
  obtain⟨i,hi,rfl⟩:=List.mem_iff_getElem.1 hc
  exact ih _ (BI hi) _ (Fq ht hi).2
end Go.Proofs.YtbjmaoedheiigaaGreat
namespace Go.G
open Go.RowKit
structure Fam where
 F:Nat→Nm→VOb
 ren:∀ {g:Nm→Nm} {δ:Nm→Nat} {r r':Nat},(∀ p,g (r::p)=r'::p)→(∀ p,δ (r::p)=0)→∀ p,(F r p).ren g δ 0=F r' p
 refs:∀ {D:Nm→Prop} {r:Nat},(∀ p,D (r::p))→∀ p,(F r p).ob.refs D
def Fam.no:Fam:=⟨fun _ _=>⟨0,.none⟩,fun _ _ _=>rfl,fun _ _=>trivial⟩
@[simp] theorem Fam.no_F {r:Nat} {p:Nm}:Fam.no.F r p=⟨0,.none⟩:=rfl
structure ER (a:Nat→A):Prop where
 ren:∀ {g:Nm→Nm} {δ:Nm→Nat} {r r':Nat},(∀ p,g (r::p)=r'::p)→(∀ p,δ (r::p)=0)→(a r).ren g δ=a r'
 refs:∀ {D:Nm→Prop} {r:Nat},(∀ p,D (r::p))→(a r).refs D
structure FamL (a:Nat→List A):Prop where
 ren:∀ {g:Nm→Nm} {δ:Nm→Nat} {r r':Nat},(∀ p,g (r::p)=r'::p)→(∀ p,δ (r::p)=0)→A.renL g δ (a r)=a r'
 refs:∀ {D:Nm→Prop} {r:Nat},(∀ p,D (r::p))→A.refsL D (a r)
@[simp] theorem Am:FamL (fun _=>[]):=⟨fun _ _=>by simp[A.renL],fun _=>by simp[A.refsL]⟩
theorem Ah {a:Nat→A} {l:Nat→List A} (h:ER a) (k:FamL l):FamL (fun r=>a r::l r):=⟨fun h1 h2=>by simp[A.renL,h.ren h1 h2,k.ren h1 h2],fun h1=>by simp only[A.refsL];exact⟨h.refs h1,k.refs h1⟩⟩
@[simp] theorem ru {a:Nat→A} {l:Nat→List A} (h:ER a):FamL (fun r=>a r::l r)=FamL l:=by
 refine propext ⟨fun k=>⟨fun h1 h2=>?_,fun h1=>?_⟩,Ah h⟩
 ·have:=k.ren h1 h2
  simp only[A.renL,List.cons.injEq] at this
  exact this.2
 ·have:=k.refs h1
  simp only[A.refsL] at this
  exact this.2
theorem FamL.all {l:List A} (h:∀ x,x ∈ l→ER (fun _=>x)):FamL (fun _=>l):=by
 induction l with
 |nil=>simp
 |cons x l ih=>exact Ah (h x (by simp)) (ih fun y hy=>h y (by simp[hy]))
@[simp] theorem Adz:ER (fun _=>.any):=⟨fun _ _=>by simp[A.ren],fun _=>by simp[A.refs]⟩
@[simp] theorem Ax {x:Value}:ER (fun _=>.v x):=⟨fun _ _=>by simp[A.ren],fun _=>by simp[A.refs]⟩
@[simp] theorem Dw {f:Bool} {xs:List A}:ER (fun _=>.sl f xs):=⟨fun _ _=>by simp[A.ren],fun _=>by simp[A.refs]⟩
@[simp] theorem Acg {xs:List A}:ER (fun _=>.pim xs):=⟨fun _ _=>by simp[A.ren],fun _=>by simp[A.refs]⟩
@[simp] theorem AG {u off:Nat} {q:Nm}:ER (fun r=>.pob (r::q) u off):=⟨fun h1 h2=>by simp[A.ren,h1,h2],fun h=>by simp[A.refs,h]⟩
@[simp] theorem Iv {u sz off len:Nat} {q:Nm}:ER (fun r=>.osl (r::q) u sz off len):=⟨fun h1 h2=>by simp[A.ren,h1,h2],fun h=>by simp[A.refs,h]⟩
@[simp] theorem AbW {u i j:Nat} {q:Nm}:ER (fun r=>.pel (r::q) u i j):=⟨fun h1 h2=>by simp[A.ren,h1,h2],fun h=>by simp[A.refs,h]⟩
@[simp] theorem pq {l:Nat→List A} (h:FamL l):ER (fun r=>.agg (l r)):=⟨fun h1 h2=>by simp[A.ren,h.ren h1 h2],fun h1=>by simp only[A.refs];exact h.refs h1⟩
@[simp] theorem Bu {l:Nat→List A} (h:FamL l):ER (fun r=>.tup (l r)):=⟨fun h1 h2=>by simp[A.ren,h.ren h1 h2],fun h1=>by simp only[A.refs];exact h.refs h1⟩
@[simp] theorem ar {f:FuncId} {l m:Nat→List A} (h:FamL l) (k:FamL m):ER (fun r=>.fnc f (l r) (m r)):=⟨fun h1 h2=>by simp[A.ren,h.ren h1 h2,k.ren h1 h2],fun h1=>by simp only[A.refs];exact⟨h.refs h1,k.refs h1⟩⟩
@[simp] theorem Nr {t:TypeId} {a:Nat→A} (h:ER a):ER (fun r=>.ifc t (a r)):=⟨fun h1 h2=>by simp[A.ren,h.ren h1 h2],fun h1=>by simp only[A.refs];exact h.refs h1⟩
theorem dt {a:A} (h:a.bare1=true):ER (fun _=>a):=by cases a<;>simp[A.bare1] at h ⊢
theorem HE {a:A} {cs:List A} (ha:a = .agg cs) (h:∀ x,x ∈ cs→x.bare1=true):ER (fun _=>a):=by
 subst ha
 exact pq (l:=fun _=>cs) (FamL.all fun x hx=>dt (h x hx))
theorem Fam.cells_ren {g:Nm→Nm} {δ:Nm→Nat} {u:Nat} {l l':List A} (h:A.renL g δ l=l'):VOb.ren g δ 0 ⟨u,.cells l⟩=⟨u,.cells l'⟩:=by simp[VOb.ren,Ob.ren,h]
theorem Fam.arr_ren {g:Nm→Nm} {δ:Nm→Nat} {u sz:Nat} {l l':List A} (h:A.renL g δ l=l'):VOb.ren g δ 0 ⟨u,.arr sz l⟩=⟨u,.arr sz l'⟩:=by simp[VOb.ren,Ob.ren,h]
structure Bg (P:Program) (f:FuncId) (as':Nat→List A) (F:Fam) (x:Nat→A) (F':Fam):Prop where
 fa:FamL as'
 fx:ER x
 h:Ia P f 1 (as' 0) (ov 0 (F.F 0) (DH [])) (x 0) (ov 0 (F'.F 0) (DH []))
section
variable {P:Program} {K:Sta→Prop} {rest:List CO} {s:Nat→A} {H:Hp} {dd:Option Nat} {nm:Nm} {ix:Nat} {un:List Nat} {l:Bool} {lg:Lg} {g:FuncId} {aa:Array Operand} {ts:Array TypeId}
theorem fN {r:Nat} {F:Fam} (hF:∀ p,H (r::p)=F.F r p):KP [r] 1 H=ov 0 (F.F 0) (DH []):=by
 funext o
 cases o with
 |nil=>rfl
 |cons i p=>
  by_cases hi:i<1
  ·have:i=0:=by omega
   subst this
   simp only[KP,if_pos hi,AR,if_true]
   show(H (r::p)).ren _ _ 0=_
   rw[hF]
   exact F.ren (fun q=>by simp[Wj]) (fun _=>rfl) p
  ·simp only[KP,if_neg hi,AR]
   rw[if_neg (by omega)]
   rfl
theorem YQ {r:Nat} {F':Fam}:Ms [r] (MZ [r] 1 H) H (ov 0 (F'.F 0) (DH []))=ov r (F'.F r) H:=by
 have hd:∀ p,MZ [r] 1 H (0::p)=0:=fun p=>rfl
 funext o
 cases o with
 |nil=>rfl
 |cons j p=>
  by_cases hj:j=r
  ·subst hj
   simp only[Ms,AR,if_true]
   rw[if_pos (by simp)]
   have:[j].idxOf j=0:=by simp
   rw[this,if_pos rfl,hd]
   exact F'.ren (fun q=>by simp[TD]) hd p
  ·have:¬ [r].contains j=true:=by simpa using hj
   simp only[Ms,if_neg this,AR,if_neg hj]
theorem Ps {r:Nat} {F:Fam} (hF:∀ p,H (r::p)=F.F r p):T9 [r] 1 H:=by
 intro j p hj
 have hjr:j=r:=by
  have:=(idx_mem (rs:=[r])).1 (by simpa using hj)
  simpa using this
 rw[hjr,hF]
 exact F.refs (fun q=>by simp[V9]) p
theorem UA {F':Fam} (i:Nat) (p:Nm) (hi:i<1):((ov 0 (F'.F 0) (DH [])) (i::p)).ob.refs (HB 1):=by
 have:i=0:=by omega
 subst this
 simp only[AR,if_true]
 exact F'.refs (fun q=>by simp[HB]) p
theorem AB {as':Nat→List A} {F F':Fam} {x:Nat→A} (r:Nat) (hS:Bg P g as' F x F') (hF:∀ p,H (r::p)=F.F r p) (ha:aa.toList.map (evs s)=as' r) (hck:Ck un lg ⟨[],[([r],true)]⟩)
  (h:Ap P K rest (Bd l ix ⟨[],[([r],true)]⟩ lg) (Sta.put ⟨s,H⟩ dd (x r) (ov r (F'.F r) H))) :
  Ap P K (⟨dd,.call { callee:=.value (.func g),args:=aa,argTypes:=ts },none,nm,ix,un,l⟩::rest) lg ⟨s,H⟩:=by
 have hd:∀ p,MZ [r] 1 H (0::p)=0:=fun p=>rfl
 refine NT [r] 1 hS.h (by simp) (by simp) ?_ ?_ (fN hF) (Ps hF) (hS.fx.refs (fun p=>by simp[HB])) (fun i p hi=>UA i p hi) (fun i p h1 h2=>by simp at h2;omega) (hS.fx.ren (fun q=>by simp[TD]) hd) YQ hck h
 ·rw[ha];exact hS.fa.ren (fun q=>by simp[Wj]) (fun _=>rfl)
 ·rw[ha];exact hS.fa.refs (fun q=>by simp[V9])
theorem T5 {as':Nat→List A} {F F':Fam} {x:Nat→A} {fo:Operand} {fs caps:List A} (r:Nat) (hv0:evs s fo = .fnc g fs caps) (hS:Bg P g as' F x F') (hF:∀ p,H (r::p)=F.F r p) (ha:fs++(aa.toList.map (evs s)++caps)=as' r) (hck:Ck un lg ⟨[],[([r],true)]⟩)
  (h:Ap P K rest (Bd l ix ⟨[],[([r],true)]⟩ lg) (Sta.put ⟨s,H⟩ dd (x r) (ov r (F'.F r) H))) :
  Ap P K (⟨dd,.call { callee:=.value fo,args:=aa,argTypes:=ts },none,nm,ix,un,l⟩::rest) lg ⟨s,H⟩:=by
 have hd:∀ p,MZ [r] 1 H (0::p)=0:=fun p=>rfl
 refine Xn hv0 ha [r] 1 hS.h (by simp) (by simp) (hS.fa.ren (fun q=>by simp[Wj]) (fun _=>rfl)) (hS.fa.refs (fun q=>by simp[V9])) (fN hF) (Ps hF) (hS.fx.refs (fun p=>by simp[HB])) (fun i p hi=>UA i p hi) (fun i p h1 h2=>by simp at h2;omega) (hS.fx.ren (fun q=>by simp[TD]) hd) YQ hck h
end
section
variable {P:Program} {K:Sta→Prop} {rest:List CO} {s:Nat→A} {H:Hp} {dd:Option Nat} {nm:Nm} {ix:Nat} {un:List Nat} {l:Bool} {lg:Lg} {g:FuncId} {aa:Array Operand} {ts:Array TypeId}
theorem XK {as':Nat→List A} {F F':Fam} {x:Nat→A} (r:Nat) (hS:Bg P g as' F x F') (hF:∀ p,H (r::p)=F.F r p):∃ E,XD P H g (as' r) (x r) E [] [([r],true)]∧E.app H=ov r (F'.F r) H:=by
 have hd:∀ p,MZ [r] 1 H (0::p)=0:=fun p=>rfl
 have:=rL (H:=H) (L:=as' r) [r] 1 hS.h (by simp) (by simp) (hS.fa.ren (fun q=>by simp[Wj]) (fun _=>rfl)) (hS.fa.refs (fun q=>by simp[V9])) (fN hF) (Ps hF) (hS.fx.refs (fun p=>by simp[HB])) (fun i p hi=>UA i p hi) (fun i p h1 h2=>by simp at h2;omega) YQ
 have e:A.ren (TD [r]) (MZ [r] 1 H) (x 0)=x r:=hS.fx.ren (fun q=>by simp[TD]) hd
 rw[e] at this
 exact this
theorem HJ {as':Nat→List A} {F F':Fam} {x:Nat→A} {ro:Operand} {name:String} {t:TypeId} {a a':A} {d:Option TypeId} (r:Nat) (hS:Bg P g as' F x F') (hF:∀ p,H (r::p)=F.F r p) (hr:evs s ro = .ifc t a) (hm:Pg P t name=some (g,d)) (ha:XG P H d a=some a') (hL:a'::aa.toList.map (evs s)=as' r)
  (hck:Ck un lg ⟨refs a++[],[([r],true)]⟩) (h:Ap P K rest (Bd l ix ⟨refs a++[],[([r],true)]⟩ lg) (Sta.put ⟨s,H⟩ dd (x r) (ov r (F'.F r) H))) :
  Ap P K (⟨dd,.call { callee:=.invoke ro name,args:=aa,argTypes:=ts },none,nm,ix,un,l⟩::rest) lg ⟨s,H⟩:=
 wR hr hm ha hL (XK r hS hF) hck h
end
theorem Acx {r:Nat} {F F':Nm→VOb} {H:Hp}:ov r F (ov r F' H)=ov r F H:=by
 funext o
 cases o with
 |nil=>rfl
 |cons j p=>by_cases hj:j=r<;>simp[hj]
@[simp] theorem Afe {r:Nat} {F F':Nm→VOb} {H:Hp}:ov r F (ov r F' H)=ov r F H:=Acx
theorem AH {P:Program} {f:FuncId} {n:Nat} {rs:List ResultVar} {cc:CC} {as':Nat→List A} {F F':Fam} {x:Nat→A} (t:Bh P f n rs cc) (ha:(as' 0).length≤n) (h0:FamL as') (h1:ER x)
  (h:∀ w0 I0 M0 m0,WPC (Ds P w0 I0 M0 n m0) cc (Mc (Ds P w0 I0 M0 n m0) rs 1 (x 0) (ov 0 (F'.F 0) (DH []))) ⟨Qb (as' 0),ov 0 (F.F 0) (DH [])⟩):Bg P f as' F x F':=
 ⟨h0,h1,Iz t ha h⟩
theorem AZ {c:Cx} {rs:List ResultVar} {x:A} {F':Nm→VOb} {r0:A} {st:Sta} (h:Ll c.P st rs=some r0) (he:r0=x) (hh:∀ p,st.H (0::p)=F' p):Mc c rs 1 x (ov 0 F' (DH [])) .ret st:=
 E7 h he fun i p hi=>by
  have:i=0:=by omega
  subst this
  rw[hh]
  simp
theorem AO {c:Cx} {rs:List ResultVar} {x:A} {F':Nm→VOb} {r0:A} {st:Sta} (h:Ll c.P st rs=some r0) (he:r0=x) (hh:∀ p,st.H (0::p)=F' p):Mc c rs 1 x (ov 0 F' (DH [])) .normal st:=
 NF h he fun i p hi=>by
  have:i=0:=by omega
  subst this
  rw[hh]
  simp
structure Ti (a:Nat→Nat→A):Prop where
 ren:∀ {g:Nm→Nm} {δ:Nm→Nat} {r r' q q':Nat},(∀ p,g (r::p)=r'::p)→(∀ p,δ (r::p)=0)→(∀ p,g (q::p)=q'::p)→(∀ p,δ (q::p)=0)→(a r q).ren g δ=a r' q'
 refs:∀ {D:Nm→Prop} {r q:Nat},(∀ p,D (r::p))→(∀ p,D (q::p))→(a r q).refs D
structure Qv (a:Nat→Nat→List A):Prop where
 ren:∀ {g:Nm→Nm} {δ:Nm→Nat} {r r' q q':Nat},(∀ p,g (r::p)=r'::p)→(∀ p,δ (r::p)=0)→(∀ p,g (q::p)=q'::p)→(∀ p,δ (q::p)=0)→A.renL g δ (a r q)=a r' q'
 refs:∀ {D:Nm→Prop} {r q:Nat},(∀ p,D (r::p))→(∀ p,D (q::p))→A.refsL D (a r q)
@[simp] theorem A0:Qv (fun _ _=>[]):=⟨fun _ _ _ _=>by simp[A.renL],fun _ _=>by simp[A.refsL]⟩
theorem Aq {a:Nat→Nat→A} {l:Nat→Nat→List A} (h:Ti a) (k:Qv l):Qv (fun r q=>a r q::l r q):=⟨fun h1 h2 h3 h4=>by simp[A.renL,h.ren h1 h2 h3 h4,k.ren h1 h2 h3 h4],fun h1 h2=>by simp only[A.refsL];exact⟨h.refs h1 h2,k.refs h1 h2⟩⟩
theorem AU {a:Nat→A} (h:ER a):Ti (fun r _=>a r):=⟨fun h1 h2 _ _=>h.ren h1 h2,fun h1 _=>h.refs h1⟩
theorem Yx {a:Nat→A} (h:ER a):Ti (fun _ q=>a q):=⟨fun _ _ h1 h2=>h.ren h1 h2,fun _ h1=>h.refs h1⟩
theorem BF {l:Nat→Nat→List A} (h:Qv l):Ti (fun r q=>.tup (l r q)):=⟨fun h1 h2 h3 h4=>by simp[A.ren,h.ren h1 h2 h3 h4],fun h1 h2=>by simp only[A.refs];exact h.refs h1 h2⟩
structure pQ (P:Program) (f:FuncId) (as':Nat→List A) (F:Fam) (x:Nat→Nat→A) (F' N:Fam):Prop where
 fa:FamL as'
 fx:Ti x
 n:∀ p,(N.F 1 p).ob = .none∨1≤(N.F 1 p).u
 h:Ia P f 2 (as' 0) (ov 0 (F.F 0) (DH [])) (x 0 1) (ov 0 (F'.F 0) (ov 1 (N.F 1) (DH [])))
section
variable {P:Program} {K:Sta→Prop} {rest:List CO} {s:Nat→A} {H:Hp} {dd:Option Nat} {nm:Nm} {ix:Nat} {un:List Nat} {l:Bool} {lg:Lg} {g:FuncId} {aa:Array Operand} {ts:Array TypeId}
theorem gM {as':Nat→List A} {F F' N:Fam} {x:Nat→Nat→A} (r q:Nat) (hrq:r ≠ q) (hS:pQ P g as' F x F' N) (hF:∀ p,H (r::p)=F.F r p) (hq:∀ p,(H (q::p)).u=0) (ha:aa.toList.map (evs s)=as' r) (hck:Ck un lg ⟨[],[([r],true),([q],true)]⟩)
  (h:Ap P K rest (Bd l ix ⟨[],[([r],true),([q],true)]⟩ lg) (Sta.put ⟨s,H⟩ dd (x r q) (ov r (F'.F r) (ov q (N.F q) H)))) :
  Ap P K (⟨dd,.call { callee:=.value (.func g),args:=aa,argTypes:=ts },none,nm,ix,un,l⟩::rest) lg ⟨s,H⟩:=by
 have hd:∀ p,MZ [r,q] 1 H (0::p)=0:=fun p=>rfl
 have hd1:∀ p,MZ [r,q] 1 H (1::p)=0:=fun p=>by
  simp only[MZ]
  rw[if_neg (by omega),if_pos (by simp)]
  exact hq p
 have i0:[r,q].idxOf r=0:=by simp
 have i1:[r,q].idxOf q=1:=by simp[List.idxOf_cons,beq_eq_false_iff_ne.2 hrq]
 refine NT [r,q] 1 hS.h (by simp[hrq]) (by simp) ?_ ?_ ?_ ?_ (hS.fx.refs (fun p=>by simp[HB]) (fun p=>by simp[HB])) ?_ ?_ (hS.fx.ren (fun p=>by simp[TD]) hd (fun p=>by simp[TD]) hd1) ?_ hck h
 ·rw[ha];exact hS.fa.ren (fun p=>by simp[Wj]) (fun _=>rfl)
 ·rw[ha];exact hS.fa.refs (fun p=>by simp[V9])
 ·funext o
  cases o with
  |nil=>rfl
  |cons i p=>
   by_cases hi:i<1
   ·have:i=0:=by omega
    subst this
    simp only[KP,if_pos hi,AR,if_true]
    show(H (r::p)).ren _ _ 0=_
    rw[hF]
    exact F.ren (fun q=>by simp[Wj]) (fun _=>rfl) p
   ·simp only[KP,if_neg hi,AR]
    rw[if_neg (by omega)]
    rfl
 ·intro j p hj
  have hjr:j=r:=by
   by_cases e:r=j
   ·exact e.symm
   ·simp only[List.idxOf_cons,beq_eq_false_iff_ne.2 e] at hj
    simp at hj
  rw[hjr,hF]
  exact F.refs (fun q=>by simp[V9]) p
 ·intro i p hi
  have hi:i<2:=hi
  by_cases h0:i=0
  ·subst h0
   simp only[AR,if_true]
   exact F'.refs (fun q=>by simp[HB]) p
  ·have:i=1:=by omega
   subst this
   simp only[AR,if_true]
   rw[if_neg (by omega)]
   exact N.refs (fun q=>by simp[HB]) p
 ·intro i p hi hi2
  have:i=1:=by simp at hi2;omega
  subst this
  simp only[AR,if_true]
  rw[if_neg (by omega)]
  exact hS.n p
 ·funext o
  cases o with
  |nil=>rfl
  |cons j p=>
   by_cases hj:j=r
   ·subst hj
    simp only[Ms,AR,if_true]
    rw[if_pos (by simp),i0,if_pos rfl,hd]
    exact F'.ren (fun q=>by simp[TD]) hd p
   ·by_cases hj2:j=q
    ·subst hj2
     simp only[Ms,AR,if_true,if_neg hj]
     rw[if_pos (by simp),i1,if_neg (by omega),if_pos rfl,hd1]
     exact N.ren (fun q=>by simp[TD]) hd1 p
    ·have:¬ [r,q].contains j=true:=by simp[hj,hj2]
     simp only[Ms,if_neg this,AR,if_neg hj,if_neg hj2]
end
theorem pw {P:Program} {f:FuncId} {n:Nat} {rs:List ResultVar} {cc:CC} {as':Nat→List A} {F F' N:Fam} {x:Nat→Nat→A} (t:Bh P f n rs cc) (ha:(as' 0).length≤n) (h0:FamL as') (h1:Ti x) (hn:∀ p,(N.F 1 p).ob = .none∨1≤(N.F 1 p).u)
  (h:∀ w0 I0 M0 m0,WPC (Ds P w0 I0 M0 n m0) cc (Mc (Ds P w0 I0 M0 n m0) rs 2 (x 0 1) (ov 0 (F'.F 0) (ov 1 (N.F 1) (DH [])))) ⟨Qb (as' 0),ov 0 (F.F 0) (DH [])⟩):pQ P f as' F x F' N:=
 ⟨h0,h1,hn,Iz t ha h⟩
theorem Dl {c:Cx} {rs:List ResultVar} {x:A} {F' N:Nm→VOb} {r0:A} {st:Sta} (h:Ll c.P st rs=some r0) (he:r0=x) (hh:∀ p,st.H (0::p)=F' p) (hn:∀ p,st.H (1::p)=N p):Mc c rs 2 x (ov 0 F' (ov 1 N (DH []))) .ret st:=
 E7 h he fun i p hi=>by
  by_cases h0:i=0
  ·subst h0
   rw[hh]
   simp
  ·have:i=1:=by omega
   subst this
   rw[hn]
   simp
def Acm (u sz:Nat) (xs:List A) (h:∀ x,x ∈ xs→ER (fun _=>x)):Fam:=⟨fun _ p=>if p=[] then ⟨u,.arr sz xs⟩ else ⟨0,.none⟩,fun {g δ r r'} hg hd p=>by
  by_cases hp:p=[]
  ·rw[if_pos hp]
   exact Fam.arr_ren ((FamL.all h).ren hg hd)
  ·rw[if_neg hp];rfl,fun {D r} hD p=>by
  by_cases hp:p=[]
  ·rw[if_pos hp]
   exact(FamL.all h).refs hD
  ·rw[if_neg hp];trivial⟩
@[simp] theorem Ag4 {u sz:Nat} {xs:List A} {h:∀ x,x ∈ xs→ER (fun _=>x)} {r:Nat} {p:Nm}:(Acm u sz xs h).F r p=if p=[] then ⟨u,.arr sz xs⟩ else ⟨0,.none⟩:=rfl
structure kK where
 B:Nat→Nat→Nm→VOb
 C:Nat→Nat→Nm→VOb
 ren:∀ {g:Nm→Nm} {δ:Nm→Nat} {r r' q q':Nat},(∀ p,g (r::p)=r'::p)→(∀ p,δ (r::p)=0)→(∀ p,g (q::p)=q'::p)→(∀ p,δ (q::p)=0)→∀ p,(B r q p).ren g δ 0=B r' q' p∧(C r q p).ren g δ 0=C r' q' p
 refs:∀ {D:Nm→Prop} {r q:Nat},(∀ p,D (r::p))→(∀ p,D (q::p))→∀ p,(B r q p).ob.refs D∧(C r q p).ob.refs D
def Fam.two (F G:Fam):kK:=⟨fun r _=>F.F r,fun _ q=>G.F q,fun h1 h2 h3 h4 p=>⟨F.ren h1 h2 p,G.ren h3 h4 p⟩,fun h1 h2 p=>⟨F.refs h1 p,G.refs h2 p⟩⟩
@[simp] theorem AiF {F G:Fam} {r q:Nat}:(F.two G).B r q=F.F r:=rfl
@[simp] theorem AcM {F G:Fam} {r q:Nat}:(F.two G).C r q=G.F q:=rfl
structure Hw (P:Program) (f:FuncId) (as':Nat→Nat→List A) (F:kK) (x:Nat→Nat→A) (F':kK):Prop where
 fa:Qv as'
 fx:Ti x
 h:Ia P f 2 (as' 0 1) (ov 0 (F.B 0 1) (ov 1 (F.C 0 1) (DH []))) (x 0 1) (ov 0 (F'.B 0 1) (ov 1 (F'.C 0 1) (DH [])))
section
variable {P:Program} {K:Sta→Prop} {rest:List CO} {s:Nat→A} {H:Hp} {dd:Option Nat} {nm:Nm} {ix:Nat} {un:List Nat} {l:Bool} {lg:Lg} {g:FuncId} {aa:Array Operand} {ts:Array TypeId}
theorem Bj {as':Nat→Nat→List A} {F F':kK} {x:Nat→Nat→A} (r q:Nat) (hrq:r ≠ q) (hS:Hw P g as' F x F') (hF:∀ p,H (r::p)=F.B r q p) (hG:∀ p,H (q::p)=F.C r q p) (ha:aa.toList.map (evs s)=as' r q) (hck:Ck un lg ⟨[],[([r],true),([q],true)]⟩)
  (h:Ap P K rest (Bd l ix ⟨[],[([r],true),([q],true)]⟩ lg) (Sta.put ⟨s,H⟩ dd (x r q) (ov r (F'.B r q) (ov q (F'.C r q) H)))) :
  Ap P K (⟨dd,.call { callee:=.value (.func g),args:=aa,argTypes:=ts },none,nm,ix,un,l⟩::rest) lg ⟨s,H⟩:=by
 have hd:∀ p,MZ [r,q] 2 H (0::p)=0:=fun p=>rfl
 have hd1:∀ p,MZ [r,q] 2 H (1::p)=0:=fun p=>rfl
 have i0:[r,q].idxOf r=0:=by simp
 have i1:[r,q].idxOf q=1:=by simp[List.idxOf_cons,beq_eq_false_iff_ne.2 hrq]
 have d0:∀ p,Wj [r,q] (r::p)=0::p:=fun p=>by simp[Wj]
 have d1:∀ p,Wj [r,q] (q::p)=1::p:=fun p=>by simp[Wj,i1]
 have jin:∀ {j:Nat},[r,q].idxOf j<2→j=r∨j=q:=fun {j} hj=>by
  have:=(idx_mem (rs:=[r,q])).1 (by simpa using hj)
  simpa using this
 refine NT [r,q] 2 hS.h (by simp[hrq]) (by simp) ?_ ?_ ?_ ?_ (hS.fx.refs (fun p=>by simp[HB]) (fun p=>by simp[HB])) ?_ (fun i p h1 h2=>by simp at h2;omega) (hS.fx.ren (fun p=>by simp[TD]) hd (fun p=>by simp[TD]) hd1) ?_ hck h
 ·rw[ha];exact hS.fa.ren d0 (fun _=>rfl) d1 (fun _=>rfl)
 ·rw[ha];exact hS.fa.refs (fun p=>by simp[V9]) (fun p=>by simp[V9,i1])
 ·funext o
  cases o with
  |nil=>rfl
  |cons i p=>
   by_cases hi:i<2
   ·simp only[KP,if_pos hi]
    have h01:i=0∨i=1:=by omega
    rcases h01 with rfl | rfl
    ·show(H (r::p)).ren _ _ 0=_
     rw[hF]
     simp only[AR,if_true]
     exact(F.ren d0 (fun _=>rfl) d1 (fun _=>rfl) p).1
    ·show(H (q::p)).ren _ _ 0=_
     rw[hG]
     simp only[AR,if_true]
     rw[if_neg (by omega)]
     exact(F.ren d0 (fun _=>rfl) d1 (fun _=>rfl) p).2
   ·simp only[KP,if_neg hi,AR]
    rw[if_neg (by omega),if_neg (by omega)]
    rfl
 ·intro j p hj
  rcases jin hj with rfl | rfl
  ·rw[hF]
   exact(F.refs (fun p=>by simp[V9]) (fun p=>by simp[V9,i1]) p).1
  ·rw[hG]
   exact(F.refs (fun p=>by simp[V9]) (fun p=>by simp[V9,i1]) p).2
 ·intro i p hi
  have hi:i<2:=hi
  by_cases h0:i=0
  ·subst h0
   simp only[AR,if_true]
   exact(F'.refs (fun q=>by simp[HB]) (fun q=>by simp[HB]) p).1
  ·have:i=1:=by omega
   subst this
   simp only[AR,if_true]
   rw[if_neg (by omega)]
   exact(F'.refs (fun q=>by simp[HB]) (fun q=>by simp[HB]) p).2
 ·have u0:∀ p,TD [r,q] (0::p)=r::p:=fun p=>by simp[TD]
  have u1:∀ p,TD [r,q] (1::p)=q::p:=fun p=>by simp[TD]
  funext o
  cases o with
  |nil=>rfl
  |cons j p=>
   by_cases hj:j=r
   ·subst hj
    simp only[Ms,AR,if_true]
    rw[if_pos (by simp),i0,if_pos rfl,hd]
    exact(F'.ren u0 hd u1 hd1 p).1
   ·by_cases hj2:j=q
    ·subst hj2
     simp only[Ms,AR,if_true,if_neg hj]
     rw[if_pos (by simp),i1,if_neg (by omega),if_pos rfl,hd1]
     exact(F'.ren u0 hd u1 hd1 p).2
    ·have:¬ [r,q].contains j=true:=by simp[hj,hj2]
     simp only[Ms,if_neg this,AR,if_neg hj,if_neg hj2]
end
theorem BE {P:Program} {f:FuncId} {n:Nat} {rs:List ResultVar} {cc:CC} {as':Nat→Nat→List A} {F F':kK} {x:Nat→Nat→A} (t:Bh P f n rs cc) (ha:(as' 0 1).length≤n) (h0:Qv as') (h1:Ti x)
  (h:∀ w0 I0 M0 m0,WPC (Ds P w0 I0 M0 n m0) cc (Mc (Ds P w0 I0 M0 n m0) rs 2 (x 0 1) (ov 0 (F'.B 0 1) (ov 1 (F'.C 0 1) (DH [])))) ⟨Qb (as' 0 1),ov 0 (F.B 0 1) (ov 1 (F.C 0 1) (DH []))⟩):Hw P f as' F x F':=
 ⟨h0,h1,Iz t ha h⟩
end Go.G
namespace Go.PL
def Hg (stop:Nat→Bool) (pl:List Nat):Nat→Nat→Nat
 |0,a=>a
 |f+1,a=>if pl.getD a 0=0 then a else if stop (pl.getD a 0)=true then a else Hg stop pl f ((a+1) % pl.length)
theorem MX (a d m:Nat):((a+1) % m+d) % m=(a+(d+1)) % m:=by
 rw[Nat.mod_add_mod]
 congr 1
 omega
theorem WX {stop:Nat→Bool} {pl:List Nat}:∀ (f a d:Nat),a<pl.length→d<f→pl.getD ((a+d) % pl.length) 0=0 →
  Hg stop pl f a<pl.length∧(pl.getD (Hg stop pl f a) 0=0∨stop (pl.getD (Hg stop pl f a) 0)=true) ∧
   ∃ k,Hg stop pl f a=(a+k) % pl.length∧∀ e,e<k→pl.getD ((a+e) % pl.length) 0 ≠ 0∧stop (pl.getD ((a+e) % pl.length) 0)=false:=by
 intro f
 induction f with
 |zero=>intro a d _ h;omega
 |succ f ih=>
  intro a d ha hd hz
  unfold Hg
  have hself:∃ k,a=(a+k) % pl.length∧∀ e,e<k→pl.getD ((a+e) % pl.length) 0 ≠ 0∧stop (pl.getD ((a+e) % pl.length) 0)=false:=⟨0,by rw[Nat.add_zero,Nat.mod_eq_of_lt ha],fun e he=>by omega⟩
  split
  ·rename_i h0
   exact⟨ha,.inl h0,hself⟩
  ·rename_i h0
   split
   ·rename_i h1
    exact⟨ha,.inr h1,hself⟩
   ·rename_i h1
    cases d with
    |zero=>rw[Nat.add_zero,Nat.mod_eq_of_lt ha] at hz;exact absurd hz h0
    |succ d=>
     obtain⟨p1,p2,k,p3,p4⟩:=ih ((a+1) % pl.length) d (Nat.mod_lt _ (by omega)) (by omega) (by rw[MX];exact hz)
     refine⟨p1,p2,k+1,by rw[p3,MX],fun e he=>?_⟩
     cases e with
     |zero=>rw[Nat.add_zero,Nat.mod_eq_of_lt ha];exact⟨h0,by simpa using h1⟩
     |succ e=>
      have:=p4 e (by omega)
      rwa [MX] at this
structure Pl (hs:List Nat) (pl:List Nat):Prop where
 cnt:pl.countP (fun v=>v != 0)=hs.length
 vals:∀ v,v ∈ pl→v≤hs.length
 reach:∀ (c:Nat) (hc:c<hs.length),∃ d,pl[(hs[c]+d) % pl.length]? = some (c+1)∧∀ e,e<d→pl.getD ((hs[c]+e) % pl.length) 0 ≠ 0
theorem Pl.free {hs pl:List Nat} (h:Pl hs pl) (hl:hs.length<pl.length) (a:Nat):∃ d,d<pl.length∧pl.getD ((a+d) % pl.length) 0=0:=by
 have hm:∃ v,v ∈ pl∧v=0:=by
  apply Classical.byContradiction
  intro hn
  have:pl.countP (fun v=>v != 0)=pl.length:=List.countP_eq_length.2 fun v hv=>by
   simp only[bne_iff_ne,ne_eq]
   exact fun e=>hn ⟨v,hv,e⟩
  have:=h.cnt
  omega
 obtain⟨v,hv,rfl⟩:=hm
 obtain⟨i,hi,e⟩:=List.mem_iff_getElem.1 hv
 refine⟨(i+(pl.length-a % pl.length)) % pl.length,Nat.mod_lt _ (by omega),?_⟩
 have:(a+(i+(pl.length-a % pl.length)) % pl.length) % pl.length=i:=by
  rw[Nat.add_mod_mod]
  have h1:=Nat.mod_lt a (show 0<pl.length by omega)
  have h2:=Nat.div_add_mod a pl.length
  have h3:a+(i+(pl.length-a % pl.length))=i+pl.length*(a / pl.length+1):=by
   rw[Nat.mul_add,Nat.mul_one]
   omega
  rw[h3,Nat.add_mul_mod_self_left,Nat.mod_eq_of_lt hi]
 rw[this]
 simp[hi,e]
theorem fL {pl:List Nat} {a v:Nat} (ha:a<pl.length) (h0:pl.getD a 0=0) (hv:v ≠ 0):(pl.set a v).countP (fun v=>v != 0)=pl.countP (fun v=>v != 0)+1:=by
 induction pl generalizing a with
 |nil=>simp at ha
 |cons x l ih=>
  cases a with
  |zero=>
   simp at h0
   subst h0
   simp[hv]
  |succ a=>
   simp only[List.set_cons_succ,List.countP_cons]
   rw[ih (by simpa using ha) (by simpa using h0)]
   omega
theorem Pl.ins {hs pl:List Nat} (h:Pl hs pl) {x a k:Nat} (ha:a<pl.length) (h0:pl.getD a 0=0) (he:a=(x+k) % pl.length) (hk:∀ e,e<k→pl.getD ((x+e) % pl.length) 0 ≠ 0):Pl (hs++[x]) (pl.set a (hs.length+1)):=by
 have hmod:∀ y,y % pl.length<pl.length:=fun y=>Nat.mod_lt _ (by omega)
 have nz:∀ y,pl.getD (y % pl.length) 0 ≠ 0→(pl.set a (hs.length+1)).getD (y % pl.length) 0 ≠ 0:=fun y hy=>by
  have hne:a ≠ y % pl.length:=fun e=>hy (by rw[← e];exact h0)
  simpa[List.getD_eq_getElem?_getD,List.getElem?_set_ne hne] using hy
 refine⟨?_,fun v hv=>?_,fun c hc=>?_⟩
 ·rw[fL ha h0 (by omega),h.cnt];simp
 ·rw[List.length_append,List.length_singleton]
  rcases List.mem_or_eq_of_mem_set hv with hv | rfl
  ·have:=h.vals v hv;omega
  ·omega
 ·simp only[List.length_set]
  by_cases hcl:c<hs.length
  ·obtain⟨d,h1,h2⟩:=h.reach c hcl
   rw[List.getElem_append_left hcl]
   refine⟨d,?_,fun e he=>nz _ (h2 e he)⟩
   have hne:a ≠ (hs[c]+d) % pl.length:=fun e=>by
    rw[← e] at h1
    rw[List.getD_eq_getElem?_getD,h1] at h0
    simp at h0
   rw[List.getElem?_set_ne hne,h1]
  ·have:c=hs.length:=by simp at hc;omega
   subst this
   rw[List.getElem_append_right (Cc _)]
   simp only[Nat.sub_self,List.getElem_cons_zero]
   refine⟨k,?_,fun e he=>nz _ (hk e he)⟩
   rw[← he,List.getElem?_set_self ha]
def insP (pl:List Nat) (x v:Nat):List Nat:=pl.set (Hg (fun _=>false) pl pl.length (x % pl.length)) v
def MG:List Nat→Nat→List Nat→List Nat
 |pl,_,[]=>pl
 |pl,i,x::hs=>MG (insP pl x (i+1)) (i+1) hs
@[simp] theorem ZW {pl:List Nat} {x v:Nat}:(insP pl x v).length=pl.length:=by simp[insP]
theorem QH:∀ {hs pl:List Nat} {i:Nat},(MG pl i hs).length=pl.length
 |[],_,_=>rfl
 |x::hs,pl,i=>by rw[MG,QH,ZW]
theorem Pl.nil (m:Nat):Pl [] (List.replicate m 0):=by
 refine⟨?_,fun v hv=>?_,fun c hc=>?_⟩
 ·simp[List.countP_replicate]
 ·simp at hv;omega
 ·simp at hc
theorem ZK {stop:Nat→Bool} {pl:List Nat} {x:Nat} {hs:List Nat} (h:Pl hs pl) (hl:hs.length<pl.length) :
  Hg stop pl pl.length (x % pl.length)<pl.length∧(pl.getD (Hg stop pl pl.length (x % pl.length)) 0=0∨stop (pl.getD (Hg stop pl pl.length (x % pl.length)) 0)=true) ∧
   ∃ k,Hg stop pl pl.length (x % pl.length)=(x+k) % pl.length∧∀ e,e<k→pl.getD ((x+e) % pl.length) 0 ≠ 0∧stop (pl.getD ((x+e) % pl.length) 0)=false:=by
 obtain⟨d,h1,h2⟩:=h.free hl (x % pl.length)
 have:=WX (stop:=stop) pl.length (x % pl.length) d (Nat.mod_lt _ (by omega)) h1 h2
 simpa using this
theorem Pl.insP {hs pl:List Nat} (h:Pl hs pl) (hl:hs.length<pl.length) (x:Nat):Pl (hs++[x]) (insP pl x (hs.length+1)):=by
 obtain⟨h1,h2,k,h3,h4⟩:=ZK (stop:=fun _=>false) (x:=x) h hl
 refine h.ins h1 (h2.resolve_right (by simp)) h3 fun e he=>(h4 e he).1
theorem Pl.grow:∀ {hs2 hs pl:List Nat},Pl hs pl→hs.length+hs2.length≤pl.length→Pl (hs++hs2) (MG pl hs.length hs2)
 |[],hs,pl,h,_=>by simpa[MG] using h
 |x::hs2,hs,pl,h,hl=>by
  simp only[List.length_cons] at hl
  have h1:=h.insP (by omega) x
  have:=Pl.grow (hs2:=hs2) h1 (by simp;omega)
  rw[List.append_assoc] at this
  simpa[MG] using this
noncomputable def GC (ks:List T) (n:T):Nat:=ks.findIdx (fun k=>NM k n)
noncomputable def NB (ks:List T) (n:T):List T:=if GC ks n<ks.length then ks else ks++[n]
theorem sJ {ks:List T} {n:T} {i:Nat} (h:i<ks.length) (e:ks[i]=n) (hd:ks.Nodup):GC ks n=i:=by
 have h1:GC ks n≤i:=by
  apply Classical.byContradiction
  intro hn
  have:=List.not_of_lt_findIdx (p:=fun k=>NM k n) (xs:=ks) (i:=i) (by unfold GC at hn;omega)
  simp[sameB_iff.2 e] at this
 have h2:GC ks n<ks.length:=by omega
 have h3:ks[GC ks n]=n:=sameB_iff.1 (List.findIdx_getElem (p:=fun k=>NM k n) (w:=h2))
 apply Classical.byContradiction
 intro hn
 have h4:GC ks n<i:=by omega
 have:=List.pairwise_iff_getElem.1 hd _ _ h2 h h4
 exact this (by rw[h3,e])
theorem XH {ks:List T} {n:T} (h:n ∉ ks):GC ks n=ks.length:=by
 unfold GC
 rw[List.findIdx_eq_length]
 intro x hx
 rw[Bool.eq_false_iff]
 intro e
 rw[sameB_iff] at e
 subst e
 exact h hx
theorem iC (ks:List T) (n:T):GC ks n≤ks.length:=List.findIdx_le_length
theorem clsI_lt {ks:List T} {n:T}:GC ks n<ks.length ↔ n ∈ ks:=by
 constructor
 ·intro h
  have h3:ks[GC ks n]=n:=sameB_iff.1 (List.findIdx_getElem (p:=fun k=>NM k n) (w:=h))
  rw[← h3]
  exact BI _
 ·intro h
  have:=iC ks n
  apply Classical.byContradiction
  intro hn
  have e:GC ks n=ks.length:=by omega
  have:=(List.findIdx_eq_length (p:=fun k=>NM k n) (xs:=ks)).1 e n h
  rw[Bool.eq_false_iff] at this
  exact this (sameB_iff.2 rfl)
noncomputable def Cd:List T→List T→List T × List Nat
 |ks,[]=>(ks,[])
 |ks,t::l=>((Cd (NB ks (Ai t)) l).1,GC ks (Ai t)::(Cd (NB ks (Ai t)) l).2)
end Go.PL
namespace Go.Proofs.YtbjmaoedheiigaaGreat
open Go Go.G Go.Proofs Go.PL
structure Cl where
 l:List (List Int)
 r:Rf
 t:T
noncomputable def Cl.h (c:Cl):Int:=D4 (Ai c.t)
noncomputable def Cl.hn (c:Cl):Nat:=c.h.toNat
abbrev clL (h:Int) (l:List (List Int)) (r:Rf):List A:=uv h::V5 l r
noncomputable def Cl.a (c:Cl):A:=.agg (clL c.h c.l c.r)
abbrev nv (n:Nat):A:=iv (n:Int)
structure Tb where
 u:Nat
 uc:Nat
 up:Nat
 cl:List Cl
 pl:List Nat
noncomputable def bX (r:Nat) (S:Tb):Nm→VOb
 |[]=>⟨S.u,.cells [.osl [r,0] S.uc 9 0 S.cl.length,.osl [r,1] S.up 1 0 S.pl.length]⟩
 |[0]=>⟨S.uc,.arr 9 (S.cl.map Cl.a)⟩
 |[1]=>⟨S.up,.arr 1 (S.pl.map nv)⟩
 |_=>⟨0,.none⟩
@[simp] theorem Afl {r:Nat} {S:Tb}:bX r S []=⟨S.u,.cells [.osl [r,0] S.uc 9 0 S.cl.length,.osl [r,1] S.up 1 0 S.pl.length]⟩:=rfl
@[simp] theorem AiD {r:Nat} {S:Tb}:bX r S [0]=⟨S.uc,.arr 9 (S.cl.map Cl.a)⟩:=rfl
@[simp] theorem Aix {r:Nat} {S:Tb}:bX r S [1]=⟨S.up,.arr 1 (S.pl.map nv)⟩:=rfl
theorem sL {g:Nm→Nm} {δ:Nm→Nat} (l:List Nat):A.renL g δ (l.map nv)=l.map nv:=by
 rw[Cm,List.map_map]
 rfl
theorem xD {g:Nm→Nm} {δ:Nm→Nat} (c:Cl):c.a.ren g δ=c.a:=by
 have:(Pj c.l c.r).ren g δ=Pj c.l c.r:=by unfold Pj;split<;>simp[A.ren,lV]
 simp[Cl.a,A.ren,A.renL,this]
theorem tN {D:Nm→Prop} (c:Cl):c.a.refs D:=by
 have:(Pj c.l c.r).refs D:=by unfold Pj;split<;>simp[A.refs,lV]
 simp[Cl.a,A.refs,A.refsL,this]
noncomputable def vA (S:Tb):Fam:=⟨fun r=>bX r S,fun {g δ r r'} hg hd p=>by
  match p with
  |[]=>simp[VOb.ren,Ob.ren,A.renL,A.ren,hg,hd]
  |[0]=>
   refine Fam.arr_ren ?_
   rw[Cm,List.map_map]
   exact List.map_congr_left fun c _=>xD c
  |[1]=>exact Fam.arr_ren (sL _)
  |0::a::q=>rfl
  |1::a::q=>rfl
  |(a+2)::q=>rfl,fun {D r} hD p=>by
  match p with
  |[]=>simp[Ob.refs,A.refsL,A.refs,hD]
  |[0]=>
   refine refsL_iff.2 fun x hx=>?_
   obtain⟨c,_,rfl⟩:=List.mem_map.1 hx
   exact tN c
  |[1]=>
   refine refsL_iff.2 fun x hx=>?_
   obtain⟨c,_,rfl⟩:=List.mem_map.1 hx
   trivial
  |0::a::q=>trivial
  |1::a::q=>trivial
  |(a+2)::q=>trivial⟩
@[simp] theorem Aiq {S:Tb} {r:Nat}:(vA S).F r=bX r S:=rfl
theorem Zi {r:Nat} {S S':Tb} {p:Nm} (h0:p ≠ []) (h1:p ≠ [0]) (h2:p ≠ [1]):bX r S p=bX r S' p:=by
 match p,h0,h1,h2 with
 |[],h,_,_=>exact absurd rfl h
 |[0],_,h,_=>exact absurd rfl h
 |[1],_,_,h=>exact absurd rfl h
 |0::a::q,_,_,_=>rfl
 |1::a::q,_,_,_=>rfl
 |(a+2)::q,_,_,_=>rfl
theorem wI {r u uc up:Nat} {cl:List Cl} {pl pl':List Nat} {p:Nm} (h:p ≠ [1]) (hl:pl.length=pl'.length):bX r ⟨u,uc,up,cl,pl⟩ p=bX r ⟨u,uc,up,cl,pl'⟩ p:=by
 by_cases h0:p=[]
 ·subst h0;simp[hl]
 ·by_cases h1:p=[0]
  ·subst h1;rfl
  ·exact Zi h0 h1 h
noncomputable abbrev sx (S:Tb):A:=.pim [.sl false (S.cl.map Cl.a),.sl false (S.pl.map nv)]
theorem nV {r:Nat} {S:Tb} {H:Hp} (hF:∀ p,H (r::p)=bX r S p):Jw H (.pob [r] S.u 0) (sx S):=by
 refine YR (cs:=[.osl [r,0] S.uc 9 0 S.cl.length,.osl [r,1] S.up 1 0 S.pl.length]) (by simp[hF]) ?_ (by simp)
 simp
 refine⟨BQ (l:=S.cl) (f:=Cl.a) (by simp[hF]) rfl fun x=>?_,BQ (l:=S.pl) (f:=nv) (by simp[hF]) rfl fun x=>by simp⟩
 simp[Cl.a]
structure Tb.Ok (S:Tb):Prop where
 p8:8≤S.pl.length
 half:2*S.cl.length≤S.pl.length
 most:S.pl.length≤8+4*S.cl.length
 pl:Pl (S.cl.map Cl.hn) S.pl
 means:∀ c,c ∈ S.cl→Sg c.l∧Az c.l c.r c.t
 nd:(S.cl.map fun c=>Ai c.t).Nodup
noncomputable def Tb.ks (S:Tb):List T:=S.cl.map fun c=>Ai c.t
@[simp] theorem Tb.ks_length (S:Tb):S.ks.length=S.cl.length:=by simp[Tb.ks]
def newTb:Tb:=⟨1,1,1,[],List.replicate 8 0⟩
theorem kn:Bg Tryz.prog 200 (fun _=>[]) Fam.no (fun r=>.pob [r] 1 0) (vA newTb):=by
 refine AH Yh (by simp) (by simp) AG fun w0 I0 M0 m0=>?_
 unfold Qt
 simp
 refine Oc (Bv (d:=[0]) 0 [0,0] 9 rfl rfl (by simp)) ?_
 simp
 refine AZ rfl rfl fun p=>?_
 match p with
 |[]=>rfl
 |[0]=>rfl
 |[1]=>rfl
 |0::a::q=>rfl
 |1::a::q=>rfl
 |(a+2)::q=>rfl
theorem Vj (a m:Nat):((a:Int) % (m:Int))=((a % m:Nat):Int):=by omega
theorem VG (S:Tb) (h:S.pl.length<4611686018427387904) (a:Nat) (ha:a<S.pl.length):G.Spec Tryz.prog 270 [sx S,nv a] (nv ((a+1) % S.pl.length)):=by
 refine Al OE (by simp) fun w0 I0=>?_
 unfold I8
 have e:IntKind.i64.wrap ((a:Int)+1)=((a+1:Nat):Int):=Af (by omega) (by omega)
 have hne:¬ S.pl=[]:=fun e=>by rw[e] at ha;simp at ha
 simp[e,hne]
 refine Ao rfl ?_
 have h1:((a:Int)+1).tmod (S.pl.length:Int)=(((a+1) % S.pl.length:Nat):Int):=by
  rw[Int.tmod_eq_emod_of_nonneg (by omega)]
  have:=Vj (a+1) S.pl.length
  rw[Int.natCast_add] at this
  exact this
 rw[h1]
noncomputable def Lp (S:Tb) (t:T) (v:Nat):Bool:=match S.cl[v-1]? with
 |some c=>Lz c.t t
 |none=>false
noncomputable def Tb.fnd (S:Tb) (t:T):Nat:=Hg (Lp S t) S.pl S.pl.length ((D4 (Ai t)).toNat % S.pl.length)
theorem Tb.Ok.lt {S:Tb} (h:S.Ok):S.cl.length<S.pl.length:=by have:=h.p8;have:=h.half;omega
theorem Xr {S:Tb} (h:S.Ok) (t:T):S.fnd t<S.pl.length∧((∃ v,S.pl[S.fnd t]? = some (v+1)∧GC S.ks (Ai t)=v∧v<S.cl.length)∨(S.pl.getD (S.fnd t) 0=0∧GC S.ks (Ai t)=S.cl.length)) ∧
  ∃ k,S.fnd t=((D4 (Ai t)).toNat+k) % S.pl.length∧∀ e,e<k→S.pl.getD (((D4 (Ai t)).toNat+e) % S.pl.length) 0 ≠ 0:=by
 have hlt:=h.lt
 obtain⟨h1,h2,k,h3,h4⟩:=ZK (stop:=Lp S t) (x:=(D4 (Ai t)).toNat) h.pl (by simpa using hlt)
 refine⟨h1,?_,k,h3,fun e he=>(h4 e he).1⟩
 change S.fnd t<_ at h1
 change S.pl.getD (S.fnd t) 0=0∨Lp S t (S.pl.getD (S.fnd t) 0)=true at h2
 change S.fnd t=_ at h3
 by_cases h0:S.pl.getD (S.fnd t) 0=0
 ·refine .inr ⟨h0,?_⟩
  rw[← Tb.ks_length]
  refine XH fun hn=>?_
  simp only[Tb.ks,List.mem_map] at hn
  obtain⟨c,hc,e⟩:=hn
  obtain⟨i,hi,rfl⟩:=List.mem_iff_getElem.1 hc
  obtain⟨d,g1,g2⟩:=h.pl.reach i (by simpa using hi)
  have eh:(S.cl.map Cl.hn)[i]'(by simpa using hi)=(D4 (Ai t)).toNat:=by simp[Cl.hn,Cl.h,e]
  rw[eh] at g1
  have g2':∀ e,e<d→S.pl.getD (((D4 (Ai t)).toNat+e) % S.pl.length) 0 ≠ 0:=fun e' he'=>by have:=g2 e' he';rwa [eh] at this
  rcases Nat.lt_trichotomy d k with hd | hd | hd
  ·have:=(h4 d hd).2
   rw[List.getD_eq_getElem?_getD,g1] at this
   simp[Lp,hi] at this
   rw[eqT_iff.2 e] at this
   cases this
  ·subst hd
   rw[h3,List.getD_eq_getElem?_getD,g1] at h0
   simp at h0
  ·exact g2' k hd (by rw[← h3];exact h0)
 ·have h2:=h2.resolve_left h0
  rw[List.getD_eq_getElem?_getD,List.getElem?_eq_getElem h1] at h0 h2
  simp only[Option.getD_some] at h0 h2
  have hv:=h.pl.vals _ (BI h1)
  rw[List.length_map] at hv
  have hvl:S.pl[S.fnd t]-1<S.cl.length:=by omega
  simp[Lp,hvl] at h2
  refine .inl ⟨S.pl[S.fnd t]-1,by rw[List.getElem?_eq_getElem h1];congr 1;omega,?_,hvl⟩
  exact sJ (ks:=S.ks) (by simpa using hvl) (by simp[Tb.ks,eqT_iff.1 h2]) h.nd
noncomputable def ME (S:Tb):Tb:={ S with up:=S.up+1,pl:=MG (List.replicate (2*S.pl.length) 0) 0 (S.cl.map Cl.hn) }
noncomputable def IE (S:Tb) (l:List (List Int)) (r:Rf) (t:T):Tb:={ S with uc:=S.uc+1,cl:=S.cl++[⟨l,r,t⟩],pl:=S.pl.set (S.fnd t) (S.cl.length+1) }
noncomputable def K4 (S:Tb) (l:List (List Int)) (r:Rf) (t:T):Tb:=
 if GC S.ks (Ai t)<S.cl.length then S else if S.pl.length<2*(S.cl.length+1) then ME (IE S l r t) else IE S l r t
structure Tb.Ok1 (S:Tb):Prop where
 p8:8≤S.pl.length
 half:2*S.cl.length≤S.pl.length+2
 most:S.pl.length≤8+4*S.cl.length
 pl:Pl (S.cl.map Cl.hn) S.pl
 means:∀ c,c ∈ S.cl→Sg c.l∧Az c.l c.r c.t
 nd:(S.cl.map fun c=>Ai c.t).Nodup
theorem gE {S:Tb} (h:S.Ok) {l:List (List Int)} {r:Rf} {t:T} (hs:Sg l) (hm:Az l r t) (hn:GC S.ks (Ai t)=S.cl.length):(IE S l r t).Ok1:=by
 obtain⟨h1,h2,k,h3,h4⟩:=Xr h t
 have h0:S.pl.getD (S.fnd t) 0=0:=by
  rcases h2 with ⟨v,_,e,hv⟩ | ⟨h0,_⟩
  ·omega
  ·exact h0
 have p8:=h.p8
 have half:=h.half
 have most:=h.most
 refine⟨by simpa[IE] using p8,by simp[IE];omega,by simp[IE];omega,?_,fun c hc=>?_,?_⟩
 ·have:=h.pl.ins h1 h0 h3 h4
  simpa[IE,Cl.hn,Cl.h] using this
 ·simp only[IE,List.mem_append,List.mem_singleton] at hc
  rcases hc with hc | rfl
  ·exact h.means c hc
  ·exact⟨hs,hm⟩
 ·simp only[IE,List.map_append,List.map_cons,List.map_nil]
  rw[List.nodup_append]
  refine⟨h.nd,by simp,fun a ha b hb=>?_⟩
  simp at hb
  subst hb
  rintro rfl
  have:GC S.ks (Ai t)<S.ks.length:=clsI_lt.2 ha
  simp at this
  omega
theorem qz {S:Tb} (h:S.Ok1) (hf:S.pl.length<2*S.cl.length):(ME S).Ok:=by
 have p8:=h.p8
 have half:=h.half
 have most:=h.most
 have hl:(ME S).pl.length=2*S.pl.length:=by simp[ME,QH]
 refine⟨by rw[hl];omega,by rw[hl];show 2*S.cl.length≤_;omega,by rw[hl];show _≤8+4*S.cl.length;omega,?_,h.means,h.nd⟩
 have:=Pl.grow (hs2:=S.cl.map Cl.hn) (Pl.nil (2*S.pl.length)) (by simp;omega)
 simpa[ME] using this
theorem Tb.Ok1.ok {S:Tb} (h:S.Ok1) (hf:¬ S.pl.length<2*S.cl.length):S.Ok:=⟨h.p8,by omega,h.most,h.pl,h.means,h.nd⟩
theorem T6 {S:Tb} {l:List (List Int)} {r:Rf} {t:T}:(IE S l r t).cl.length=S.cl.length+1:=by simp[IE]
theorem TU {S:Tb} {l:List (List Int)} {r:Rf} {t:T}:(IE S l r t).pl.length=S.pl.length:=by simp[IE]
theorem gp {S:Tb} (h:S.Ok) {l:List (List Int)} {r:Rf} {t:T} (hs:Sg l) (hm:Az l r t):(K4 S l r t).Ok:=by
 unfold K4
 split
 ·exact h
 ·rename_i hn
  have hle:=iC S.ks (Ai t)
  have he:GC S.ks (Ai t)=S.cl.length:=by simp at hle;omega
  have h1:=gE h hs hm he
  split
  ·exact qz h1 (by rw[T6,TU];assumption)
  ·exact h1.ok (by rw[T6,TU];assumption)
theorem rF {S:Tb} {l:List (List Int)} {r:Rf} {t:T}:(K4 S l r t).ks=NB S.ks (Ai t):=by
 unfold K4 NB
 rw[Tb.ks_length]
 split
 ·rfl
 ·split<;>simp[Tb.ks,ME,IE]
theorem v8 {S:Tb} {l:List (List Int)} {r:Rf} {t:T}:(K4 S l r t).u=S.u:=by
 unfold K4
 split
 ·rfl
 ·split<;>rfl
variable {n0:Nat} {w0:World} {I0:Nat→Prop} {Q:Exit→Sta→Prop}
noncomputable abbrev od (S:Tb):A:=.fnc 270 [sx S] []
set_option pp.deepTerms true in
set_option pp.maxSteps 1000000 in
theorem r7 {S:Tb} (hS:S.Ok) (hb:S.cl.length≤1000000) {l:List (List Int)} (hs:Sg l) {r:Rf} {t:T} (hm:Az l r t):∀ (f a d:Nat) (H:Hp),a<S.pl.length→d<f→S.pl.getD ((a+d) % S.pl.length) 0=0→H [0]=⟨1,.cells (V5 l r)⟩ →
  (∀ H',S.pl.getD (Hg (Lp S t) S.pl f a) 0=0→Q (.exit 0) ⟨lk [(0,sx S),(1,uv (D4 (Ai t))),(5,.pob [0] 1 0),(8,od S),(9,nv (Hg (Lp S t) S.pl f a)),(31,bv false)],H'⟩) →
  (∀ H',Q .ret ⟨lk [(6,nv (Hg (Lp S t) S.pl f a)),(7,iv 0)],H'⟩) →
  LoopC (cx Tryz.prog w0 I0 n0) DB Q ⟨lk [(0,sx S),(1,uv (D4 (Ai t))),(5,.pob [0] 1 0),(8,od S),(9,nv a)],H⟩:=by
 have hp8:=hS.p8
 have hmost:=hS.most
 intro f
 induction f with
 |zero=>intro a d H _ h;omega
 |succ f ih=>
  intro a d H ha hd hz hA hq hq2
  have ha':(a:Int)<S.pl.length:=by omega
  refine Ad Ak DB.eq_1 ?_
  have hg:S.pl.getD a 0=S.pl[a]:=by simp[ha]
  by_cases h0:S.pl[a]=0
  ·simp[ha,h0]
   have e:Hg (Lp S t) S.pl (f+1) a=a:=by rw[Hg,if_pos (by rw[hg];exact h0)]
   rw[e] at hq
   exact hq H (by rw[hg];exact h0)
  ·have hd0:d ≠ 0:=fun e=>by
    subst e
    rw[Nat.add_zero,Nat.mod_eq_of_lt ha,hg] at hz
    exact h0 hz
   obtain⟨d,rfl⟩:∃ d',d=d'+1:=⟨d-1,by omega⟩
   have hv:=hS.pl.vals _ (BI ha)
   rw[List.length_map] at hv
   obtain⟨v,hv1⟩:∃ v,S.pl[a]=v+1:=⟨S.pl[a]-1,by omega⟩
   have hvl:v<S.cl.length:=by omega
   have hvl':(v:Int)<S.cl.length:=by omega
   have hpos:(0:Int)<(v:Int)+1:=by omega
   have e1:IntKind.i64.wrap ((v:Int)+1-1)=v:=(Af (by omega) (by omega)).trans (by omega)
   have e2:IntKind.i64.wrap (v:Int)=v:=Af (by omega) (by omega)
   have hst:Lp S t (S.pl.getD a 0)=Lz S.cl[v].t t:=by rw[hg,hv1];simp[Lp,hvl]
   have ef:Hg (Lp S t) S.pl (f+1) a=if Lz S.cl[v].t t=true then a else Hg (Lp S t) S.pl f ((a+1) % S.pl.length):=by
    rw[Hg,if_neg (by rw[hg];exact h0),hst]
   have ihn:=ih ((a+1) % S.pl.length) d
   rw[MX] at ihn
   obtain⟨hcs,hcm⟩:=hS.means _ (BI hvl)
   have hnx:=VG S (by omega) a ha
   simp[ha,hv1,hpos,e1,e2,hvl,Cl.a]
   have go:Lz S.cl[v].t t=false→∀ H2:Hp,H2 [0]=⟨1,.cells (V5 l r)⟩→LoopC (cx Tryz.prog w0 I0 n0) DB Q ⟨lk [(0,sx S),(1,uv (D4 (Ai t))),(5,.pob [0] 1 0),(8,od S),(9,nv ((a+1) % S.pl.length))],H2⟩:=fun he H2 h2=>by
    rw[ef,he] at hq hq2
    exact ihn H2 (Nat.mod_lt _ (by omega)) (by omega) hz h2 hq hq2
   refine⟨fun hh=>?_,fun hh=>?_⟩
   ·simp[Aa,hA]
    refine Ae (Tc hcs hs _ _ _ _ hcm hm) (by simp) ?_
    cases hq':Lz S.cl[v].t t with
    |true=>
     rw[ef,hq',if_pos rfl] at hq2
     simp
     exact hq2 _
    |false=>
     simp
     refine Lo rfl hnx (by simp) ?_
     simp
     exact go hq' _ (by simp[Aa,hA])
   ·refine Lo rfl hnx (by simp) ?_
    have he:Lz S.cl[v].t t=false:=by
     rw[Bool.eq_false_iff]
     intro e
     exact hh (by simp[Cl.h,eqT_iff.1 e])
    simp
    exact go he _ (by simp[Aa,hA])
theorem cY {S:Tb} (hS:S.Ok) (hb:S.cl.length≤1000000) {l:List (List Int)} (hs:Sg l) {r:Rf} {t:T} (hm:Az l r t) (hh:BN (D4 (Ai t))):G.Spec Tryz.prog 259 [sx S,uv (D4 (Ai t)),Gx l r] (.tup [nv (S.fnd t),iv 0]):=by
 have hp8:=hS.p8
 have hmost:=hS.most
 refine Al OA (by simp) fun w0 I0=>?_
 unfold I5
 obtain⟨d,h1,h2⟩:=hS.pl.free (by simpa using hS.lt) ((D4 (Ai t)).toNat % S.pl.length)
 have eu:IntKind.u64.wrap (S.pl.length:Int)=S.pl.length:=AE (by omega) (by omega)
 have hne:¬ S.pl=[]:=fun e=>by rw[e] at hp8;simp at hp8
 have et:IntKind.i64.wrap ((D4 (Ai t)).tmod (S.pl.length:Int))=(((D4 (Ai t)).toNat % S.pl.length:Nat):Int):=by
  rw[Int.tmod_eq_emod_of_nonneg hh.1]
  obtain⟨n,hn⟩:=Int.eq_ofNat_of_zero_le hh.1
  rw[hn,Vj]
  have:=Nat.mod_lt n (show 0<S.pl.length by omega)
  exact Af (by omega) (by omega)
 have hlt:(D4 (Ai t)).toNat % S.pl.length<S.pl.length:=Nat.mod_lt _ (by omega)
 unfold Tb.fnd
 generalize (D4 (Ai t)).toNat % S.pl.length=a at et hlt h2
 simp[eu,hne,et]
 refine r7 hS hb hs hm S.pl.length a d _ hlt h1 h2 (by simp) (fun H' _=>?_) fun H'=>?_
 ·simp
  exact Ab rfl
 ·simp
  exact Ab rfl
theorem nH {h:Int} (h0:BN h) {m:Nat} (hm:0<m) (hm2:m<4611686018427387904):IntKind.i64.wrap (h.tmod (m:Int))=((h.toNat % m:Nat):Int):=by
 rw[Int.tmod_eq_emod_of_nonneg h0.1]
 obtain⟨n,hn⟩:=Int.eq_ofNat_of_zero_le h0.1
 rw[hn,Vj]
 have:=Nat.mod_lt n hm
 exact Af (by omega) (by omega)
section
variable {n0:Nat} {w0:World} {I0:Nat→Prop} {M0:Nm→Nat→Prop} {m0:Mu} {Q:Exit→Sta→Prop}
theorem tx {S:Tb} (hb:S.pl.length<4611686018427387904) {i n uc:Nat} {k:Int}:∀ (f a d:Nat) (H:Hp),(∀ p,H (0::p)=bX 0 S p)→a<S.pl.length→d<f→S.pl.getD ((a+d) % S.pl.length) 0=0 →
  Q (.exit 2) ⟨lk [(0,.pob [0] S.u 0),(2,iv k),(4,nv (Hg (fun _=>false) S.pl f a)),(18,.osl [0,0] uc 9 0 n),(19,nv n),(20,nv i),(42,bv false)],H⟩ →
  LoopC (Ds Tryz.prog w0 I0 M0 n0 m0) E6 Q ⟨lk [(0,.pob [0] S.u 0),(2,iv k),(4,nv a),(18,.osl [0,0] uc 9 0 n),(19,nv n),(20,nv i)],H⟩:=by
 intro f
 induction f with
 |zero=>intro a d H _ _ h;omega
 |succ f ih=>
  intro a d H hH ha hd hz hq
  have ha':(a:Int)<S.pl.length:=by omega
  refine Ad Ak E6.eq_1 ?_
  have hg:S.pl.getD a 0=S.pl[a]:=by simp[ha]
  by_cases h0:S.pl[a]=0
  ·simp[ha,h0,hH]
   have e:Hg (fun _=>false) S.pl (f+1) a=a:=by rw[Hg,if_pos (by rw[hg];exact h0)]
   rw[e] at hq
   exact hq
  ·have hd0:d ≠ 0:=fun e=>by
    subst e
    rw[Nat.add_zero,Nat.mod_eq_of_lt ha,hg] at hz
    exact h0 hz
   obtain⟨d,rfl⟩:∃ d',d=d'+1:=⟨d-1,by omega⟩
   have hpos:(0:Int)<S.pl[a]:=by omega
   have hpos':0<S.pl[a]:=by omega
   have ef:Hg (fun _=>false) S.pl (f+1) a=Hg (fun _=>false) S.pl f ((a+1) % S.pl.length):=by
    rw[Hg,if_neg (by rw[hg];exact h0)]
    simp
   rw[ef] at hq
   simp[ha,hpos',hH]
   refine LG [sx S,nv a] ((VG S hb a ha).toB rfl) (by simp;exact⟨nV hH,Ab rfl⟩) (by simp) ?_
   simp
   exact ih ((a+1) % S.pl.length) d H hH (Nat.mod_lt _ (by omega)) (by omega) (by rw[MX];exact hz) hq
theorem th {cl:List Cl} {u uc up m:Nat} (hc:cl.length≤1000000) (hb:m<4611686018427387904) (hm:cl.length<m) (hh:∀ c,c ∈ cl→BN c.h):∀ (j i:Nat) (pl:List Nat) (H:Hp),i+j=cl.length→pl.length=m→Pl ((cl.take i).map Cl.hn) pl→(∀ p,H (0::p)=bX 0 ⟨u,uc,up,cl,pl⟩ p) →
  (∀ (q:Bool) (H':Hp),(∀ p,H' (0::p)=bX 0 ⟨u,uc,up,cl,MG pl i ((cl.drop i).map Cl.hn)⟩ p)→Q (.exit 0) ⟨lk [(0,.pob [0] u 0),(18,.osl [0,0] uc 9 0 cl.length),(19,nv cl.length),(20,nv cl.length),(21,bv q)],H'⟩) →
  LoopC (Ds Tryz.prog w0 I0 M0 n0 m0) Dp Q ⟨lk [(0,.pob [0] u 0),(18,.osl [0,0] uc 9 0 cl.length),(19,nv cl.length),(20,nv i)],H⟩:=by
 intro j
 induction j with
 |zero=>
  intro i pl H hi hl hpl hH hq
  have:i=cl.length:=by omega
  subst this
  refine Ad Ak Dp.eq_1 ?_
  simp
  exact hq _ H (by simpa[MG] using hH)
 |succ j ih=>
  intro i pl H hi hl hpl hH hq
  have hlt:i<cl.length:=by omega
  have hlt':(i:Int)<cl.length:=by omega
  have hpos:0<pl.length:=by omega
  have hne:¬ pl=[]:=fun e=>by rw[e] at hpos;simp at hpos
  have eu:IntKind.u64.wrap (pl.length:Int)=pl.length:=AE (by omega) (by omega)
  have hck:=hh _ (BI hlt)
  have et:=nH hck hpos (by omega)
  have ei:IntKind.i64.wrap ((i:Int)+1)=((i+1:Nat):Int):=Af (by omega) (by omega)
  refine Ad Ak Dp.eq_1 ?_
  obtain⟨d,f1,f2⟩:=hpl.free (by simp;omega) (cl[i].h.toNat % pl.length)
  have ha:cl[i].h.toNat % pl.length<pl.length:=Nat.mod_lt _ hpos
  have hins:insP pl cl[i].hn (i+1)=pl.set (Hg (fun _=>false) pl pl.length (cl[i].h.toNat % pl.length)) (i+1):=rfl
  have hpl2:=hpl.insP (by simp;omega) cl[i].hn
  have htk:(cl.take (i+1)).map Cl.hn=(cl.take i).map Cl.hn++[cl[i].hn]:=by rw[Hj hlt,List.map_append];rfl
  have hlen:((cl.take i).map Cl.hn).length+1=i+1:=by simp;omega
  rw[hlen,← htk] at hpl2
  have hgr:MG pl i ((cl.drop i).map Cl.hn)=MG (insP pl cl[i].hn (i+1)) (i+1) ((cl.drop (i+1)).map Cl.hn):=by rw[List.drop_eq_getElem_cons hlt,List.map_cons,MG]
  rw[hgr] at hq
  have f3:=(WX (stop:=fun _=>false) pl.length (cl[i].h.toNat % pl.length) d ha f1 f2).1
  rw[hins] at hpl2 hq
  generalize cl[i].h.toNat % pl.length=a at et ha f2 f3 hpl2 hq
  simp[hlt,hH,Aa,Cl.a,eu,hne,et]
  refine tx (S:=⟨u,uc,up,cl,pl⟩) (by simpa using (by omega)) pl.length a d _ (fun p=>by simp[Aa,hH]) ha f1 f2 ?_
  generalize Hg (fun _=>false) pl pl.length a=b at f3 hpl2 hq
  have f3':(b:Int)<pl.length:=by omega
  simp[f3,hH,Aa,ei]
  refine ih (i+1) (pl.set b (i+1)) _ (by omega) (by simpa using hl) hpl2 (fun p=>?_) hq
  by_cases hp:p=[1]
  ·subst hp
   simp[Aa,List.map_set]
   rfl
  ·simp[Aa,hp,hH]
   exact wI hp (by simp)
end
theorem dH {S:Tb} (hc:S.cl.length≤1000000) (hb:S.pl.length≤8000000) (hm:S.cl.length<2*S.pl.length) (hh:∀ c,c ∈ S.cl→BN c.h):Bg Tryz.prog 260 (fun r=>[.pob [r] S.u 0]) (vA S) (fun _=>.tup []) (vA (ME S)):=by
 refine AH OT (by simp) (by simp) (by simp) fun w0 I0 M0 m0=>?_
 unfold I7
 have e2:IntKind.i64.wrap (2*(S.pl.length:Int))=((2*S.pl.length:Nat):Int):=(Af (by omega) (by omega)).trans (by simp)
 have e3:(2*(S.pl.length:Int)).toNat=2*S.pl.length:=by omega
 simp[e2,e3,Aa]
 refine⟨⟨by omega,by omega⟩,?_⟩
 refine th (cl:=S.cl) (u:=S.u) (uc:=S.uc) (up:=S.up+1) (m:=2*S.pl.length) hc (by omega) hm hh S.cl.length 0 (List.replicate (2*S.pl.length) 0) _ (by omega) (by simp) (by simpa using Pl.nil _) (fun p=>?_) (fun q H' hH'=>?_)
 ·simp only[AR,if_true]
  refine FE ?_ (fun h1=>FE ?_ (fun h2=>?_))
  ·simp
  ·simp
  ·by_cases h3:p=[0]
   ·subst h3;rfl
   ·exact Zi h1 h3 h2
 ·simp
  exact AO rfl rfl fun p=>hH' p
theorem Ee (x:Int):BN (IntKind.u64.wrap x):=by
 rw[IntKind.wrap_u64]
 unfold BN
 omega
theorem Y5 (h x:Int):BN (P3 h x):=Ee _
theorem bj:∀ (w:List Int) (h:Int),BN h→BN (w.foldl P3 h)
 |[],_,h=>h
 |x::w,_,_=>bj w _ (Y5 _ _)
mutual
theorem qF:∀ t:T,BN (D4 t)
 |.mk k w l=>by rw[D4];exact Z7 l _ (bj _ _ (Y5 _ _))
theorem Z7:∀ (l:List T) (h:Int),BN h→BN (Rl h l)
 |[],_,h=>by rw[Rl];exact h
 |t::l,_,_=>by rw[Rl];exact Z7 l _ (Y5 _ _)
end
theorem Va (l:List (List Int)) (r:Rf):ER (fun _=>Gx l r):=HE rfl fun x hx=>by
 simp at hx
 rcases hx with rfl | rfl | rfl | rfl | rfl | rfl | rfl | rfl<;>simp
theorem cz {S:Tb} (hS:S.Ok) (hb:S.cl.length≤400000) {l:List (List Int)} (hs:Sg l) {r:Rf} {t:T} (hm:Az l r t) :
  Bg Tryz.prog 235 (fun q=>[.pob [q] S.u 0,Gx l r]) (vA S) (fun _=>.tup [nv (GC S.ks (Ai t)),iv 0]) (vA (K4 S l r t)):=by
 refine AH NR (by simp) (Ah AG (Ah (Va l r) Am)) (Bu (Ah Ax (Ah Ax Am))) fun w0 I0 M0 m0=>?_
 unfold Ir
 have hp8:=hS.p8
 have hmost:=hS.most
 have hhalf:=hS.half
 have hr:=qF
 obtain⟨f1,f2,_⟩:=Xr hS t
 simp
 refine Ae (j3 hs _ _ hm) (by simp) ?_
 simp
 refine LG [sx S,uv (D4 (Ai t)),Gx l r] ((cY hS (by omega) hs hm (hr _)).toB rfl) (by simp;exact⟨nV (fun p=>by simp),Ab rfl,Ab (by simp)⟩) (by simp) ?_
 have f1':(S.fnd t:Int)<S.pl.length:=by omega
 rcases f2 with ⟨v,g1,g2,g3⟩ | ⟨g1,g2⟩
 ·have e1:IntKind.i64.wrap ((v:Int)+1-1)=v:=(Af (by omega) (by omega)).trans (by omega)
  have hpos:(0:Int)<(v:Int)+1:=by omega
  have e1b:IntKind.i64.wrap (v:Int)=v:=Af (by omega) (by omega)
  have hcs:K4 S l r t=S:=by simp[K4,g2,g3]
  have g1':S.pl[S.fnd t]=v+1:=by rw[List.getElem?_eq_getElem f1] at g1;exact Option.some.inj g1
  simp[f1,g1',hpos,e1,e1b,hcs,g2]
  exact AZ rfl rfl fun p=>rfl
 ·have g1':S.pl[S.fnd t]=0:=by
   rw[List.getD_eq_getElem?_getD,List.getElem?_eq_getElem f1] at g1
   simpa using g1
  have e8:IntKind.i64.wrap ((S.cl.length:Int)+1-1)=S.cl.length:=(Af (by omega) (by omega)).trans (by omega)
  have e9:IntKind.i64.wrap (S.cl.length:Int)=S.cl.length:=Af (by omega) (by omega)
  have hfam:∀ p,(AQ (AQ (AQ (bX 0 S) [0] ⟨S.uc+1,.arr 9 (S.cl.map Cl.a++[.agg [uv (D4 (Ai t)),Pj l r,iv r.kind,iv r.s,iv r.at_,iv r.data,iv r.kids,iv r.count,uv r.n]])⟩) [] ⟨S.u,.cells [.osl [0,0] (S.uc+1) 9 0 (S.cl.length+1),.osl [0,1] S.up 1 0 S.pl.length]⟩) [1] ⟨S.up,.arr 1 ((S.pl.map nv).set (S.fnd t) (iv ((S.cl.length:Int)+1)))⟩:Nm→VOb) p=bX 0 (IE S l r t) p:=fun p=>by
   refine FE ?_ (fun h1=>FE ?_ (fun h2=>FE ?_ (fun h3=>?_)))
   ·simp[IE,List.map_set]
    rfl
   ·simp[IE]
   ·simp[IE,Cl.a,Cl.h]
   ·exact Zi h2 h3 h1
  have ew:IntKind.i64.wrap ((S.cl.length:Int)+1)=(S.cl.length:Int)+1:=Af (by omega) (by omega)
  have ew2:IntKind.i64.wrap (2*((S.cl.length:Int)+1))=2*((S.cl.length:Int)+1):=Af (by omega) (by omega)
  have hle:(S.cl.length+1)*72≤140737488355328:=by omega
  simp[f1,g1',Aa,Bb,hle,ew,ew2]
  refine⟨fun hf=>?_,fun hf=>?_⟩
  ·have hok:=gE hS hs hm g2
   have hcs:K4 S l r t=ME (IE S l r t):=by
    unfold K4
    rw[if_neg (by omega),if_pos (by omega)]
   have hcl:(ME (IE S l r t)).cl.length=S.cl.length+1:=by simp[ME,IE]
   have hu:(ME (IE S l r t)).u=S.u:=rfl
   refine AB 0 (dH (S:=IE S l r t) (by rw[T6];omega) (by rw[TU];omega) (by rw[T6,TU];omega) (fun c _=>hr _)) (fun p=>hfam p) rfl (by simp) ?_
   rw[hcs]
   simp
   unfold EB
   simp[hu,hcl,e8,e9]
   exact AZ rfl (by simp[g2]) fun p=>rfl
  ·have hcs:K4 S l r t=IE S l r t:=by
    unfold K4
    rw[if_neg (by omega),if_neg (by omega)]
   rw[hcs]
   unfold EB
   simp[Aa,e8,e9]
   exact AZ rfl (by simp[g2]) fun p=>hfam p
theorem Nu {c:Int} (h0:0≤c) (h6:c<6):∃ w:Nat,Aw c=w∧bV c=w∧(w=0∨w=1∨w=8∨w=16∨w=32∨w=64):=by
 have:c=0∨c=1∨c=2∨c=3∨c=4∨c=5:=by omega
 rcases this with rfl | rfl | rfl | rfl | rfl | rfl
 ·exact⟨0,rfl,rfl,by simp⟩
 ·exact⟨1,rfl,rfl,by simp⟩
 ·exact⟨8,rfl,rfl,by simp⟩
 ·exact⟨16,rfl,rfl,by simp⟩
 ·exact⟨32,rfl,rfl,by simp⟩
 ·exact⟨64,rfl,rfl,by simp⟩
theorem Yw {c n:Int} {w:Nat} (hw:Aw c=w) (h0:0≤n) (h:I4 c n=true):n<2 ^ w:=by
 simp only[I4,Bool.and_eq_true,decide_eq_true_eq,hw] at h
 have hp:(0:Int)<2 ^ w:=Int.pow_pos (by decide)
 have h2:=h.2
 simp only[Int.toNat_natCast] at h2
 have h3:=Int.emod_add_mul_ediv n (2 ^ w)
 rw[h2,Int.mul_zero,Int.add_zero] at h3
 rw[← h3]
 exact Int.emod_lt_of_pos _ hp
theorem bZ {i w:Nat} (hw:w≤64) (hi:i≤1000000000):IntKind.i64.wrap ((i:Int)*w)=(i:Int)*w∧((i:Int)*w).tmod 64=((i*w % 64:Nat):Int)∧((i:Int)*w).tdiv 64=((i*w / 64:Nat):Int):=by
 have him:i*w≤1000000000*64:=Nat.mul_le_mul hi hw
 have e:(i:Int)*w=((i*w:Nat):Int):=by rw[Int.natCast_mul]
 rw[e]
 refine⟨Af (by omega) (by omega),?_,?_⟩
 ·rw[Int.tmod_eq_emod_of_nonneg (by omega)];omega
 ·rw[Int.tdiv_eq_ediv_of_nonneg (by omega)];omega
theorem gN {c:A} {ns:List Int} {w i s:Nat} {m:Nat} {H:Hp} (hw:w≤64) (hi:i≤1000000000) (hs:i*w % 64=s):∀ (j k:Nat) (x:Int),k+j=s→0≤x→x*2 ^ j<18446744073709551616→(∀ q,Q (.exit 2) ⟨lk [(0,c),(1,DP ns),(6,nv w),(7,.osl [0] 1 1 0 m),(8,nv i),(9,uv (x*2 ^ j)),(10,nv s),(39,bv q)],H⟩) →
  LoopC (cx Tryz.prog w0 I0 n0) EJ Q ⟨lk [(0,c),(1,DP ns),(6,nv w),(7,.osl [0] 1 1 0 m),(8,nv i),(9,uv x),(10,nv k)],H⟩:=by
 obtain⟨e1,e2,_⟩:=bZ hw hi
 rw[hs] at e2
 have hs64:s<64:=by omega
 intro j
 induction j with
 |zero=>
  intro k x hk h0 hx hq
  have:k=s:=by omega
  subst this
  refine Ad Ak EJ.eq_1 ?_
  have:=hq false
  simp[e1,e2] at this ⊢
  exact this
 |succ j ih=>
  intro k x hk h0 hx hq
  have hlt:k<s:=by omega
  have ek:IntKind.i64.wrap ((k:Int)+1)=((k+1:Nat):Int):=Af (by omega) (by omega)
  have hp:(0:Int)<2 ^ j:=Int.pow_pos (by decide)
  rw[Int.pow_succ,Int.mul_comm (2 ^ j) 2,← Int.mul_assoc] at hx hq
  have h2:x*2≤x*2*2 ^ j:=by
   have:=Int.mul_le_mul_of_nonneg_left (show(1:Int)≤2 ^ j by omega) (show 0≤x*2 by omega)
   omega
  have ex:IntKind.u64.wrap (x*2)=x*2:=AE (by omega) (by omega)
  refine Ad Ak EJ.eq_1 ?_
  simp[e1,e2,hlt,ek,ex]
  exact ih (k+1) (x*2) (by omega) (by omega) hx hq
theorem rI {c:Int} {ns:List Int} (hn:ns.length≤1000000000) {w:Nat} (hw:w=0∨w=1∨w=8∨w=16∨w=32∨w=64) (hwc:Aw c=w) (hfit:∀ x,x ∈ ns→BN x∧I4 c x=true) {m:Nat} (hm:w ≠ 0→m=(ns.length*w+63) / 64)
  (hq:∀ (q:Bool) (H':Hp) (out:List Int),out=KT w ns 0 (List.replicate m 0)→H' [0]=⟨1,.arr 1 (out.map uv)⟩→Q (.exit 0) ⟨lk [(0,iv c),(1,DP ns),(6,nv w),(7,.osl [0] 1 1 0 m),(8,nv ns.length),(23,bv q)],H'⟩) :
  ∀ (j i:Nat) (out:List Int) (H:Hp),i+j=ns.length→out.length=m→(w ≠ 0→PutI w i out)→KT w (ns.drop i) i out=KT w ns 0 (List.replicate m 0)→H [0]=⟨1,.arr 1 (out.map uv)⟩ →
  LoopC (cx Tryz.prog w0 I0 n0) EG Q ⟨lk [(0,iv c),(1,DP ns),(6,nv w),(7,.osl [0] 1 1 0 m),(8,nv i)],H⟩:=by
 have hw64:w≤64:=by omega
 intro j
 induction j with
 |zero=>
  intro i out H hi hl hI hp hH
  have:i=ns.length:=by omega
  subst this
  rw[List.drop_eq_nil_of_le (Cc _),KT] at hp
  refine Ad Ak EG.eq_1 ?_
  simp
  exact hq _ H out hp hH
 |succ j ih=>
  intro i out H hi hl hI hp hH
  have hlt:i<ns.length:=by omega
  have ei:IntKind.i64.wrap ((i:Int)+1)=((i+1:Nat):Int):=Af (by omega) (by omega)
  obtain⟨f1,f2⟩:=hfit _ (BI hlt)
  have f1':=f1
  unfold BN at f1'
  have hx2:=Yw hwc f1'.1 f2
  obtain⟨e1,e2,e3⟩:=bZ (i:=i) hw64 (by omega)
  rw[List.drop_eq_getElem_cons hlt,KT] at hp
  refine Ad Ak EG.eq_1 ?_
  simp[hlt]
  refine Ae (Uv f1) (by simp) ?_
  simp[f2]
  by_cases h0:w=0
  ·subst h0
   rw[if_pos rfl] at hp
   refine gN (s:=0) hw64 (by omega) (by simp) 0 0 _ (by omega) f1'.1 (by simpa using f1'.2) (fun q=>?_)
   simp[ei]
   exact ih (i+1) out H (by omega) hl (fun h=>absurd rfl h) hp hH
  ·rw[if_neg h0] at hp
   have hat:i*w / 64<out.length:=by rw[hl,hm h0];exact dQ (by omega) hlt
   obtain⟨p1,p2,p3,p4,p5⟩:=Sh (hI h0) (by omega) f1'.1 hx2 hat
   refine gN (s:=i*w % 64) hw64 (by omega) rfl (i*w % 64) 0 _ (by omega) f1'.1 p4 (fun q=>?_)
   have hw0:(0:Int)<w:=by omega
   have hw0':0<w:=by omega
   have hg:out.getD (i*w / 64) 0=out[i*w / 64]:=by simp[hat]
   have hat':((i*w / 64:Nat):Int)<m:=by omega
   have hatm:i*w / 64<m:=by omega
   rw[hg] at p1 p2 p3 p5 hp
   have ex:IntKind.u64.wrap (out[i*w / 64]+ns[i]*2 ^ (i*w % 64))=out[i*w / 64]+ns[i]*2 ^ (i*w % 64):=by
    have:=Int.mul_nonneg f1'.1 (show(0:Int)≤2 ^ (i*w % 64) from Int.le_of_lt (Int.pow_pos (by decide)))
    exact AE (by omega) (by omega)
   have him:i*w≤1000000000*64:=Nat.mul_le_mul (by omega) hw64
   have eP:IntKind.i64.wrap ((i*w / 64:Nat):Int)=((i*w / 64:Nat):Int):=Af (by omega) (by omega)
   generalize i*w / 64=P at *
   simp[ei,hw0',e1,e3,hH,hat,hatm,ex,eP]
   refine ih (i+1) (out.set P (out[P]+ns[i]*2 ^ (i*w % 64))) _ (by omega) (by simpa using hl) (fun _=>p1) hp ?_
   simp[List.map_set]
section
variable {n0:Nat} {w0:World} {I0:Nat→Prop} {M0:Nm→Nat→Prop} {m0:Mu} {Q:Exit→Sta→Prop}
end
end Go.Proofs.YtbjmaoedheiigaaGreat
namespace Go.PL
def Et {α:Type} (p:α→Bool) (l:List α):List α:=(l.reverse.dropWhile p).reverse
theorem UF {α:Type} {p:α→Bool} (l:List α) (x:α):Et p (l++[x])=if p x=true then Et p l else l++[x]:=by
 unfold Et
 rw[List.reverse_append,List.reverse_singleton,List.singleton_append,List.dropWhile_cons]
 split<;>simp
theorem gD {α:Type} {P:List α→Prop} (h0:P []) (h1:∀ l x,P l→P (l++[x])) (l:List α):P l:=by
 have:∀ m:List α,P m.reverse:=by
  intro m
  induction m with
  |nil=>exact h0
  |cons x m ih=>rw[List.reverse_cons];exact h1 _ _ ih
 have:=this l.reverse
 rwa [List.reverse_reverse] at this
theorem Fg {α:Type} {p:α→Bool} {z:α} (l:List α):(∀ x,x ∈ l→p x=true→x=z)→∀ i,(Et p l).getD i z=l.getD i z:=by
 refine gD (P:=fun l=>(∀ x,x ∈ l→p x=true→x=z)→∀ i,(Et p l).getD i z=l.getD i z) (fun _ i=>rfl) (fun l x ih h i=>?_) l
 rw[UF]
 split
 ·rename_i hx
  rw[ih (fun y hy=>h y (by simp[hy])) i]
  have:=h x (by simp) hx
  subst this
  simp only[List.getD_eq_getElem?_getD,List.getElem?_append]
  split
  ·rfl
  ·rw[List.getElem?_eq_none (by omega)]
   by_cases e:i-l.length=0
   ·simp[e]
   ·rw[List.getElem?_eq_none (by simp;omega)]
 ·rfl
theorem dX {α:Type} {p:α→Bool} {z:α} (l:List α):Et p l ≠ []→p ((Et p l).getD ((Et p l).length-1) z)=false:=by
 refine gD (P:=fun l=>Et p l ≠ []→p ((Et p l).getD ((Et p l).length-1) z)=false) (fun h=>absurd rfl h) (fun l x ih h=>?_) l
 rw[UF] at h ⊢
 split
 ·rename_i hx
  rw[if_pos hx] at h
  exact ih h
 ·rename_i hx
  simp at hx ⊢
  exact hx
theorem ZN {α:Type} {p:α→Bool} {z:α} (hz:p z=true) {a b:List α} (ha:∀ x,x ∈ a→p x=true→x=z) (hb:∀ x,x ∈ b→p x=true→x=z):Et p a=Et p b ↔ ∀ i,a.getD i z=b.getD i z:=by
 constructor
 ·intro h i
  rw[← Fg a ha,h,Fg b hb]
 ·intro h
  have h':∀ i,(Et p a).getD i z=(Et p b).getD i z:=fun i=>by rw[Fg a ha,Fg b hb,h]
  have one:∀ c d:List α,(∀ i,(Et p c).getD i z=(Et p d).getD i z)→(Et p c).length≤(Et p d).length:=fun c d hcd=>by
   by_cases e:Et p c=[]
   ·simp[e]
   ·have hl:=dX (z:=z) c e
    have hpos:0<(Et p c).length:=List.length_pos_iff.2 e
    rw[hcd] at hl
    refine Nat.le_of_not_lt fun hlt=>?_
    rw[List.getD_eq_getElem?_getD,List.getElem?_eq_none (by omega)] at hl
    simp[hz] at hl
  have hlen:(Et p a).length=(Et p b).length:=Nat.le_antisymm (one a b h') (one b a fun i=>(h' i).symm)
  apply List.ext_getElem hlen
  intro i h1 h2
  have:=h' i
  simpa[List.getD_eq_getElem?_getD,h1,h2] using this
theorem TT (l:List Int):BX l=Et (fun x=>x == 0) l:=rfl
theorem TY (l:List T):BA l=Et (fun x=>x.kind == 0) l:=rfl
theorem mH {a b:List Int}:BX a=BX b ↔ ∀ i,a.getD i 0=b.getD i 0:=by
 rw[TT,TT]
 exact ZN rfl (fun x _ h=>by simpa using h) (fun x _ h=>by simpa using h)
theorem Ge {t:T} (h:t.kind=0):Ai t=T0:=by cases t;simp at h;rw[BG,if_pos h]
theorem Y0:Ai T0=T0:=Ge rfl
theorem FB (l:List T) (i:Nat):(l.map Ai).getD i T0=Ai (l.getD i T0):=by
 simp only[List.getD_eq_getElem?_getD,List.getElem?_map]
 cases l[i]? with
 |none=>simp[Y0]
 |some x=>rfl
theorem qj {a b:List T}:BA (a.map Ai)=BA (b.map Ai) ↔ ∀ i,Ai (a.getD i T0)=Ai (b.getD i T0):=by
 have hz:∀ c:List T,∀ x,x ∈ c.map Ai→(x.kind == 0)=true→x=T0:=fun c x hx h0=>by
  obtain⟨y,_,rfl⟩:=List.mem_map.1 hx
  simp at h0
  exact Ge h0
 rw[TY,TY,ZN (z:=T0) rfl (hz a) (hz b)]
 constructor
 ·intro h i;rw[← FB,← FB];exact h i
 ·intro h i;rw[FB,FB];exact h i
theorem struct_eq {w w':List Int} {a b:List T}:Ai (.mk 1 w a)=Ai (.mk 1 w' b) ↔ (∀ i,w.getD i 0=w'.getD i 0)∧∀ i,Ai (a.getD i T0)=Ai (b.getD i T0):=by
 rw[BG,BG]
 simp only[if_neg (show ¬ (1:Int)=0 by decide),if_true,T.mk.injEq,true_and]
 rw[mH,qj]
theorem VF {k:Int} {w w':List Int} {a b:List T} (h0:k ≠ 0) (h1:k ≠ 1):Ai (.mk k w a)=Ai (.mk k w' b) ↔ w=w'∧a.map Ai=b.map Ai:=by
 rw[BG,BG]
 simp[h0,h1]
theorem JA:∀ t,Ai (Ai t)=Ai t:=by
 refine T.ind fun k w ks ih=>?_
 have hm:(ks.map Ai).map Ai=ks.map Ai:=by
  rw[List.map_map]
  exact List.map_congr_left fun x hx=>ih x hx
 rw[BG]
 split
 ·exact Y0
 ·rename_i h0
  split
  ·rename_i h1
   subst h1
   rw[struct_eq (w':=w) (b:=ks) |>.2 ⟨fun i=>?_,fun i=>?_⟩,BG]
   ·simp
   ·rw[TT]
    exact Fg w (fun x _ h=>by simpa using h) i
   ·have hz:∀ x,x ∈ ks.map Ai→(x.kind == 0)=true→x=T0:=fun x hx h0=>by
     obtain⟨y,_,rfl⟩:=List.mem_map.1 hx
     simp at h0
     exact Ge h0
    rw[TY,Fg _ hz i,← FB,hm,FB]
  ·rename_i h1
   rw[BG,if_neg h0,if_neg h1,hm]
def Sr (w:Nat) (out:List Int) (j:Nat):Int:=out.getD (j*w / 64) 0 / 2 ^ (j*w % 64) % 2 ^ w
theorem W3 {a b:Nat}:(2:Int) ^ (a+b)=2 ^ a*2 ^ b:=Int.pow_add _ _ _
theorem kj {x n:Int} {a b w:Nat} (h:a+w≤b):(x+n*2 ^ b) / 2 ^ a % 2 ^ w=x / 2 ^ a % 2 ^ w:=by
 obtain⟨c,rfl⟩:∃ c,b=a+(w+c):=⟨b-a-w,by omega⟩
 have pa:(0:Int)<2 ^ a:=Int.pow_pos (by decide)
 have e:n*2 ^ (a+(w+c))=(n*2 ^ c*2 ^ w)*2 ^ a:=by
  rw[W3,W3]
  rw[Int.mul_comm ((2:Int) ^ w) (2 ^ c),Int.mul_comm ((2:Int) ^ a),← Int.mul_assoc,← Int.mul_assoc]
 rw[e,Int.add_mul_ediv_right _ _ (by omega),Int.add_mul_emod_self_right]
theorem fZ {x n:Int} {b w:Nat} (h0:0≤x) (h1:x<2 ^ b) (n0:0≤n) (n1:n<2 ^ w):(x+n*2 ^ b) / 2 ^ b % 2 ^ w=n:=by
 have pb:(0:Int)<2 ^ b:=Int.pow_pos (by decide)
 rw[Int.add_mul_ediv_right _ _ (by omega),Int.ediv_eq_zero_of_lt h0 h1,Int.zero_add,Int.emod_eq_of_lt n0 n1]
theorem O9 {l:List Int} {q:Nat} {x:Int} (h:q<l.length):(l.set q x).getD q 0=x:=by simp[List.getD_eq_getElem?_getD,h]
theorem VH {l:List Int} {q p:Nat} {x:Int} (h:q ≠ p):(l.set q x).getD p 0=l.getD p 0:=by simp[List.getD_eq_getElem?_getD,List.getElem?_set_ne h]
theorem UX {w:Nat} (hw:w=1∨w=8∨w=16∨w=32∨w=64):∀ (ns:List Int) (i:Nat) (out:List Int),PutI w i out→(∀ x,x ∈ ns→0≤x∧x<2 ^ w)→(∀ j,j<i+ns.length→j*w / 64<out.length) →
  (∀ j,j<i→Sr w (KT w ns i out) j=Sr w out j)∧∀ (j:Nat) (h:j<ns.length),Sr w (KT w ns i out) (i+j)=ns[j]
 |[],i,out,_,_,_=>⟨fun j _=>by rw[KT],fun j h=>by simp at h⟩
 |n::ns,i,out,h,hn,hl=>by
  have hat:=hl i (by simp)
  obtain⟨n0,n1⟩:=hn n (by simp)
  obtain⟨g,x0,x1,g2,g3⟩:=Sh h hw n0 n1 hat
  have hrec:=UX hw ns (i+1) _ g (fun x hx=>hn x (by simp[hx])) (fun j hj=>by rw[List.length_set];exact hl j (by simp;omega))
  obtain⟨r1,r2⟩:=hrec
  rw[KT,if_neg (by omega)]
  refine⟨fun j hj=>?_,fun j hj=>?_⟩
  ·rw[r1 j (by omega)]
   unfold Sr
   by_cases hq:i*w / 64=j*w / 64
   ·rw[← hq,O9 hat]
    refine kj ?_
    have h1:(j+1)*w≤i*w:=Nat.mul_le_mul_right _ hj
    rw[Nat.add_mul,Nat.one_mul] at h1
    omega
   ·rw[VH hq]
  ·cases j with
   |zero=>
    have e0:i+0=i:=rfl
    rw[e0,r1 i (by omega)]
    unfold Sr
    rw[O9 hat]
    exact fZ x0 x1 n0 n1
   |succ j=>
    have:=r2 j (by simpa using hj)
    rw[show i+(j+1)=i+1+j by omega]
    simpa using this
theorem XR {B:Nat} (hB:0<B):∀ {ts:List T},(∀ t,t ∈ ts→t.words.length<B)→FO ts<B
 |[],_=>hB
 |t::ts,h=>by
  have h1:=h t (by simp)
  have h2:=XR hB (ts:=ts) fun u hu=>h u (by simp[hu])
  simp only[FO];omega
theorem Xa {B:Nat} (hB:0<B):∀ {ts:List T},(∀ t,t ∈ ts→t.kids.length<B)→FN ts<B
 |[],_=>hB
 |t::ts,h=>by
  have h1:=h t (by simp)
  have h2:=Xa hB (ts:=ts) fun u hu=>h u (by simp[hu])
  simp only[FN];omega
theorem de {α:Type} {n:Nat} {P:Nat→α→Prop} (h:∀ i,i<n→∃ u,P i u):∃ us:List α,us.length=n∧∀ (i:Nat) (hi:i<us.length),P i us[i]:=by
 induction n with
 |zero=>exact⟨[],rfl,fun i hi=>by simp at hi⟩
 |succ n ih=>
  obtain⟨us,h1,h2⟩:=ih fun i hi=>h i (by omega)
  obtain⟨u,hu⟩:=h n (by omega)
  refine⟨us++[u],by simp[h1],fun i hi=>?_⟩
  rw[List.getElem_append]
  split
  ·exact h2 i _
  ·have:i=n:=by simp at hi;omega
   subst this
   simpa using hu
theorem SJ {a b:List T} (hl:a.length=b.length) (h:∀ (i:Nat) (h1:i<a.length) (h2:i<b.length),Ai a[i]=Ai b[i]):a.map Ai=b.map Ai:=by
 apply List.ext_getElem (by simpa using hl)
 intro i h1 h2
 simp only[List.getElem_map]
 exact h i (by simpa using h1) (by simpa using h2)
end Go.PL
namespace Go.Proofs.YtbjmaoedheiigaaGreat
open Go Go.G Go.Proofs Go.PL
theorem PF (l:List (List Int)):Az l Rf.zero T0:=.mk _ _ .zero rfl (by simp[BK,Rf.zero]) (by simp[nk,Rf.zero]) (fun i h=>by simp at h) (fun i h=>by simp at h)
theorem fB {d:Nat} {t:T} (h:DR d t=true):∀ c,c ∈ t.kids→DR (d-1) c=true∧D8 t.kind c=true:=by
 cases t
 exact HF h
theorem ke {l:List (List Int)} {kd s a n i:Int} (h1:kd ≠ 1) (h8:kd ≠ 8) (h9:kd ≠ 9) (h0:0≤i) (hn:i<n):BT l ⟨kd,s,a,0,0,n,0⟩ i=(⟨10,0,0,0,0,0,Rm l ⟨kd,s,a,0,0,n,0⟩ i⟩,0):=by
 unfold BT nk
 simp only[if_neg h1,if_neg h8,if_neg h9]
 rw[if_neg (by omega)]
theorem dJ {c:Int} (c0:0≤c) (c6:c<6):D7 c=bV c:=by
 have:c=0∨c=1∨c=2∨c=3∨c=4∨c=5:=by omega
 rcases this with rfl | rfl | rfl | rfl | rfl | rfl<;>rfl
def wL (L:List (List Int)) (k i:Nat):Option Int:=(L[k]?).bind fun g=>g[i]?
def jV (L:List (List Int)) (k:Nat):Nat:=((L[k]?).map List.length).getD 0
theorem Jn (L:List (List Int)) (k i:Nat):B0 L k i=wL L k i:=by simp[B0,seg,wL]
theorem o7 (L:List (List Int)) (k:Nat):szAt L k=jV L k:=by simp[szAt,seg,jV]
theorem J9 {L:List (List Int)} {k a n:Nat} (hk:k<L.length) (h:a+n≤jV L k):FV L k a n=true:=by
 simp only[FV,decide_eq_true_eq,o7]
 omega
theorem Ua {L:List (List Int)} {k i:Nat} {x:Int} (h:wL L k i=some x):k<L.length∧i<jV L k:=by
 unfold wL at h
 cases e:L[k]? with
 |none=>rw[e] at h;simp at h
 |some g=>
  rw[e] at h
  have:=(List.getElem?_eq_some_iff.1 e).1
  have h2:=(List.getElem?_eq_some_iff.1 h).1
  refine⟨this,?_⟩
  unfold jV
  rw[e]
  exact h2
theorem iI {L:List (List Int)} {k a n i:Nat}:(part L k a n)[i]? = if i<n then wL L k (a+i) else none:=by
 unfold part seg wL
 simp only[Int.natCast_nonneg,if_true,Int.toNat_natCast]
 rw[List.getElem?_take]
 split
 ·rw[List.getElem?_drop]
  cases L[k]?<;>simp
 ·rfl
theorem tI {L:List (List Int)} {k a:Nat} {W:List Int} (h:∀ (i:Nat) (hi:i<W.length),wL L k (a+i)=some W[i]):part L k a W.length=W:=by
 apply List.ext_getElem?
 intro i
 rw[iI]
 split
 ·rename_i hi
  rw[h i hi,List.getElem?_eq_getElem hi]
 ·rename_i hi
  rw[List.getElem?_eq_none (by omega)]
def bc (kd up:Int):Pt:=if kd=0 then ⟨1,0,up % 65536,up / 65536,0,0,0,false⟩ else ⟨2,0,0,0,up % 8,up / 8,0,false⟩
theorem Vd {kd up:Int}:(bc kd up).kind=1∨(bc kd up).kind=2:=by
 unfold bc
 split
 ·exact .inl rfl
 ·exact .inr rfl
theorem gZ {kd up:Int}:(bc kd up).off=0:=by
 unfold bc
 split<;>rfl
theorem cU {x kd up:Int} (x0:0≤x) (x1:x<1073741824) (hk:kd=0∨kd=1) (u0:0≤up) (u1:up<4294967296) (hz:kd=0→up ≠ 0) :
  CW (4*x+kd+up*4294967296)={ bc kd up with off:=if x<536870912 then x else x-1073741824 }:=by
 generalize hv:4*x+kd+up*4294967296=v
 have hx:v / 4 % 1073741824=x:=by omega
 rcases hk with rfl | rfl
 ·have:=hz rfl
  unfold CW OM
  rw[if_neg (by omega),if_pos (by omega),hx]
  unfold bc
  simp only[if_true,Pt.mk.injEq,true_and,and_true]
  omega
 ·unfold CW OM
  rw[if_neg (by omega),if_neg (by omega),if_pos (by omega),hx]
  unfold bc
  simp only[if_neg (show ¬ (1:Int)=0 by decide),Pt.mk.injEq,true_and,and_true]
  omega
theorem aL {a t:Nat} {kd up:Int} (ha:a<200000) (ht:t≤200000) (hk:kd=0∨kd=1) (u0:0≤up) (u1:up<4294967296) (hz:kd=0→up ≠ 0) :
  CW (Sy a t kd up)={ bc kd up with off:=(t:Int)-a-1 }:=by
 unfold Sy
 split
 ·rw[cU (by omega) (by omega) hk u0 u1 hz,if_neg (by omega),show(t:Int)-a-1+1073741824-1073741824=(t:Int)-a-1 by omega]
 ·rw[cU (by omega) (by omega) hk u0 u1 hz,if_pos (by omega)]
theorem qe {kd up:Int} (hk:kd=0∨kd=1) (u0:0≤up) (u1:up<4294967296) (hz:kd=0→up ≠ 0):CW (kd+up*4294967296)=bc kd up:=by
 have:=cU (x:=0) (by omega) (by omega) hk u0 u1 hz
 rw[show 4*(0:Int)+kd+up*4294967296=kd+up*4294967296 by omega] at this
 rw[this]
 unfold bc
 split<;>rfl
theorem ig {x y:Nat} (hx:x<4294967296) (hy:y<536870912):CW (2+8*(y:Int)+4294967296*(x:Int))=⟨3,y,0,0,0,0,x,false⟩:=by
 generalize hv:2+8*(y:Int)+4294967296*(x:Int)=v
 unfold CW
 rw[if_neg (by omega),if_neg (by omega),if_neg (by omega),if_pos (by omega)]
 simp only[Pt.mk.injEq,true_and]
 refine⟨by omega,by omega,?_⟩
 simp
 omega
theorem sD {x y:Nat} (hx:x<4294967296) (hy:y<536870912):CW (6+8*(y:Int)+4294967296*(x:Int))=⟨3,y,0,0,0,0,x,true⟩:=by
 generalize hv:6+8*(y:Int)+4294967296*(x:Int)=v
 unfold CW
 rw[if_neg (by omega),if_neg (by omega),if_neg (by omega),if_pos (by omega)]
 simp only[Pt.mk.injEq,true_and]
 refine⟨by omega,by omega,?_⟩
 simp
 omega
def To (L:List (List Int)) (k b g t:Nat) (kd up:Int):Prop:=(kd=0∧up=0→wL L k b=some 4294967292)∧(¬ (kd=0∧up=0)→∃ o,BP L k b=CE L ⟨{ bc kd up with off:=o },g,t⟩)
theorem tt {L:List (List Int)} {k b t:Nat} {kd up:Int} (h:wL L k b=some (Sy b t kd up)) (hb:b<200000) (ht:t≤200000) (hk:kd=0∨kd=1) (u0:0≤up) (u1:up<4294967296) (hz:¬ (kd=0∧up=0)):To L k b k t kd up:=by
 refine⟨fun e=>absurd e hz,fun _=>⟨(t:Int)-b-1,?_⟩⟩
 have hd:=aL hb ht hk u0 u1 fun e e'=>hz ⟨e,e'⟩
 have hkd:=Vd (kd:=kd) (up:=up)
 unfold BP
 rw[Jn,h]
 simp only[hd]
 rw[if_neg (by omega),if_pos (by omega)]
 unfold FH
 rw[if_pos hkd]
 simp only
 rw[show(b:Int)+1+((t:Int)-b-1)=t by omega]
theorem xj {L:List (List Int)} {k b g p t:Nat} {kd up:Int} (h:wL L k b=some (2+8*(p:Int)+4294967296*(g:Int))) (h2:wL L g p=some (Sy p t kd up)) (hg:g<100000) (hp:p<200000) (ht:t≤200000) (hk:kd=0∨kd=1) (u0:0≤up) (u1:up<4294967296) (hz:¬ (kd=0∧up=0)):To L k b g t kd up:=by
 refine⟨fun e=>absurd e hz,fun _=>⟨(t:Int)-p-1,?_⟩⟩
 have hd:=aL hp ht hk u0 u1 fun e e'=>hz ⟨e,e'⟩
 have hkd:=Vd (kd:=kd) (up:=up)
 unfold BP
 rw[Jn,h]
 simp only[ig (x:=g) (y:=p) (by omega) (by omega)]
 rw[if_neg (by decide),if_neg (by decide),if_neg (by decide),Jn,h2]
 simp only[hd]
 unfold FH
 rw[if_pos hkd]
 simp only
 rw[show(p:Int)+1+((t:Int)-p-1)=t by omega]
theorem wK {L:List (List Int)} {k b x y g t:Nat} {kd up:Int} (h:wL L k b=some (6+8*(y:Int)+4294967296*(x:Int))) (h2:wL L x y=some (2+8*(t:Int)+4294967296*(g:Int))) (h3:wL L x (y+1)=some (kd+up*4294967296)) (hx:x<100000) (hy:y<200000) (hg:g<100000) (ht:t≤200000) (hk:kd=0∨kd=1) (u0:0≤up) (u1:up<4294967296) (hz:¬ (kd=0∧up=0)):To L k b g t kd up:=by
 refine⟨fun e=>absurd e hz,fun _=>⟨0,?_⟩⟩
 have hd:=qe hk u0 u1 fun e e'=>hz ⟨e,e'⟩
 have hkd:=Vd (kd:=kd) (up:=up)
 unfold BP
 rw[Jn,h]
 simp only[sD (x:=x) (y:=y) (by omega) (by omega)]
 rw[if_neg (by decide),if_neg (by decide),if_pos trivial]
 unfold D3
 rw[Jn,h2,show((y:Int)+1)=((y+1:Nat):Int) by omega,Jn,h3]
 simp only[hd,ig (x:=g) (y:=t) (by omega) (by omega)]
 rw[if_neg (by decide),if_neg (by omega),if_neg (by rw[gZ];omega)]
 congr 2
 have:=gZ (kd:=kd) (up:=up)
 generalize bc kd up=q at *
 cases q
 simp at this
 simp[this]
theorem RZ {L:List (List Int)} {p:Pt} {g t:Nat} {n:Nat} {o:Int} (hp:Bz p=some (n:Int)) (h0:p.off=0) (hg:g<L.length) (h:t+n≤jV L g):CE L ⟨{ p with off:=o },g,t⟩=(⟨p,g,t⟩,0):=by
 have e:Bz { p with off:=o }=some (n:Int):=hp
 unfold CE
 simp only[e,Option.getD_some]
 rw[if_pos (J9 hg h)]
 cases p
 simp at h0
 simp[h0]
theorem sb {w k:Nat} (hw:w<65536):bc 0 ((w:Int)+65536*k)=⟨1,0,w,k,0,0,0,false⟩:=by
 unfold bc
 simp only[if_true,Pt.mk.injEq,true_and,and_true]
 omega
theorem gP {c n:Int} (c0:0≤c) (c8:c<8):bc 1 (c+8*n)=⟨2,0,0,0,c,n,0,false⟩:=by
 unfold bc
 rw[if_neg (by decide)]
 simp only[Pt.mk.injEq,true_and,and_true]
 omega
theorem vZ {L:List (List Int)} {k b g t w n:Nat} (h:To L k b g t 0 ((w:Int)+65536*n)) (hw:w<65536) (hn:n<65536) (hg:g<L.length) (hin:t+(w+n)≤jV L g) :
  ∃ g' t':Nat,LK L k b=(⟨1,g',t',w,n,0,0⟩,0)∧(w+n ≠ 0→g'=g∧t'=t)∧FV L g' t' ((w+n:Nat):Int)=true:=by
 obtain⟨h0,h1⟩:=h
 by_cases hz:w+n=0
 ·have hw0:w=0:=by omega
  have hn0:n=0:=by omega
  subst hw0 hn0
  have e:=h0 ⟨rfl,by simp⟩
  obtain⟨k1,k2⟩:=Ua e
  have hh:=J9 (L:=L) (k:=k) (a:=b) (n:=0) k1 (by omega)
  refine⟨k,b,?_,fun e=>absurd rfl e,hh⟩
  have hd:CW 4294967292=⟨1,-1,0,0,0,0,0,false⟩:=by decide
  have hf:BP L k b=(⟨⟨1,0,0,0,0,0,0,false⟩,k,b⟩,0):=by
   unfold BP
   rw[Jn,e]
   simp only[hd]
   rw[if_neg (by decide),if_pos (by decide)]
   unfold FH
   rw[if_pos (.inl rfl)]
   simp only
   rw[show(b:Int)+1 + -1=b by omega]
   unfold CE
   simp only[Bz,if_true,Option.getD_some]
   rw[if_pos (by simpa using hh)]
  unfold LK
  rw[hf]
  simp[Y9]
 ·obtain⟨o,e⟩:=h1 (by omega)
  rw[sb hw] at e
  rw[RZ (n:=w+n) (by simp[Bz]) rfl hg hin] at e
  refine⟨g,t,?_,fun _=>⟨rfl,rfl⟩,J9 hg hin⟩
  unfold LK
  rw[e]
  simp[Y9]
theorem nR {L:List (List Int)} {k b g t n m:Nat} {c:Int} (h:To L k b g t 1 (c+8*n)) (c0:0≤c) (c7:c<7) (hn:n<536870912) (hm:((n:Int)*D7 c+63) / 64=m) (hg:g<L.length) (hin:t+m≤jV L g) :
  LK L k b=(⟨2+c,g,t,0,0,n,0⟩,0):=by
 obtain⟨o,e⟩:=h.2 (by omega)
 rw[gP c0 (by omega)] at e
 rw[RZ (n:=m) (by rw[Uq rfl ⟨by simp,by simp;omega,by simp⟩ c7];simp[hm]) rfl hg hin] at e
 unfold LK
 rw[e]
 simp[Y9,c7]
theorem wc {L:List (List Int)} {k b g t n w m:Nat} (h:To L k b g t 1 (7+8*(n*(w+m):Nat))) (ht:wL L g t=some (4*(n:Int)+4294967296*((w:Int)+65536*m))) (hn:n<536870912) (hw:w<65536) (hm:m<65536) (hin:t+(n*(w+m)+1)≤jV L g) :
  LK L k b=(⟨9,g,(t:Int)+1,w,m,n,0⟩,0):=by
 obtain⟨o,e⟩:=h.2 (by omega)
 rw[gP (by omega) (by omega)] at e
 rw[RZ (n:=n*(w+m)+1) (by rw[Nt rfl rfl];simp) rfl (Ua ht).1 hin] at e
 unfold LK
 rw[e]
 have hm:((n*(w+m):Nat):Int)=(n:Int)*((w:Int)+m):=by rw[Int.natCast_mul,Int.natCast_add]
 have hdt:(4*(n:Int)+4294967296*((w:Int)+65536*m)=0∧n=0∧w=0∧m=0)∨CW (4*(n:Int)+4294967296*((w:Int)+65536*m))=⟨1,n,w,m,0,0,0,false⟩:=by
  by_cases h0:4*(n:Int)+4294967296*((w:Int)+65536*m)=0
  ·exact .inl ⟨h0,by omega,by omega,by omega⟩
  ·right
   unfold CW OM
   rw[if_neg h0,if_pos (by omega)]
   simp only[Pt.mk.injEq,true_and,and_true]
   refine⟨?_,by omega,by omega⟩
   split<;>omega
 simp only[Y9,if_neg (show ¬ (2:Int)=1 by decide),if_neg (show ¬ (7:Int)<7 by decide)]
 rw[if_neg (by simp)]
 unfold Ts
 rw[Jn,ht]
 simp only[Option.getD_some]
 rcases hdt with ⟨h0,rfl,rfl,rfl⟩ | hdt
 ·rw[h0]
  simp[CW]
 ·rw[hdt]
  simp only
  rw[if_neg]
  rw[← hm]
  simp
theorem nM {L:List (List Int)} {k b:Nat} (h:wL L k b=some 0):LK L k b=(Rf.zero,0):=by
 have e:BP L k b=(Lc.zero,0):=by
  unfold BP
  rw[Jn,h]
  rfl
 unfold LK
 rw[e]
 rfl
end Go.Proofs.YtbjmaoedheiigaaGreat
namespace Go.Proofs.YtbjmaoedheiigaaGreat
set_option maxRecDepth 20000
open Go Go.G Go.Proofs
@[simp] theorem Ahn:CI Tryz.prog 94=some 1:=by kernel_rfl
@[simp] theorem AfX:C5 Tryz.prog 94=some false:=by kernel_rfl
@[simp] theorem qW:Aj Tryz.prog 97 0=some 0:=by kernel_rfl
@[simp] theorem nF:Aj Tryz.prog 97 1=some 1:=by kernel_rfl
@[simp] theorem yx (ps:List (Nat × A)):Bs Tryz.prog 97 ps=(BW (fun i=>([(0,1),(1,1)]:List (Nat × Nat))[i]?) [A.v (Value.pointer none),A.v (Value.bool false)] ps).map A.agg:=by kernel_rfl
def FG:CC:=sR [oO 4 (.assign (nI 0)),oO 5 (.assign (nI 0))] [0,1] (sR [mO 9 0,oO 10 (.nilCheck (xT 9)),fO 11 97 10 0,lO 12 94 11,mO 13 1,oO 14 (cL 104 #[(xT 12),(xT 13)] #[94,3]),mO 8 14,xO 15 8 0,xO 16 8 1,aO 6 15,aO 7 16] [0,6,7] (.seq (sR [mO 17 6,oO 18 (.binOp .lss 3 (xT 17) (nI 0) 3)] [0,6,7,18] (cD 18 (.reg [mO 19 0,oO 20 (.nilCheck (xT 19)),fO 21 97 20 1,oS (.store 4 (xT 21) (nB false))] [6,7]) (.skip))) (.keep [6,7] (sR [mO 22 6,mO 23 7,aO 4 22,aO 5 23] [4,5] (.ret)))))
theorem Kc:Bh Tryz.prog 55 24 [(.tmp 4),(.tmp 5)] FG:=Au Tryz.func55
def DL:CC:=sR [mO 8 0,oO 9 (.nilCheck (xT 8)),fO 10 97 9 1,lO 11 4 10] [0,1,2,3,11] (cD 11 (.reg [mO 12 0,oO 13 (.nilCheck (xT 12)),fO 14 97 13 0,lO 15 94 14,oO 16 (.nilCheck (xT 15)),fO 17 102 16 0,lO 18 41 17,mO 19 1,oO 20 (iA 41 18 19),lO 21 22 20,mO 22 2,mO 23 3,oO 24 (iA 22 21 22),oS (.store 51 (xT 24) (xT 23))] []) (.skip))
theorem FX:Bh Tryz.prog 108 25 [] DL:=Au Tryz.func108
def Gf:CC:=sR [mO 18 9,oO 19 (.binOp .mul 3 (nI 4) (xT 18) 3),oO 20 (.convert 3 51 (xT 19)),mO 21 2,oO 22 (bO .add 51 20 21 51),mO 23 3,oO 24 (.binOp .mul 51 (xT 23) (.const (.int .u64 4294967296)) 51),oO 25 (bO .add 51 22 24 51),aO 8 25] [8] (.ret) 
def GS:CC:=sR [oO 8 (.assign (.const (.int .u64 0)))] [0,1,2,3] (sR [mO 10 1,mO 11 0,oO 12 (bO .sub 3 10 11 3),oO 13 (.binOp .sub 3 (xT 12) (nI 1) 3),aO 9 13] [2,3,9] (.seq (sR [mO 14 9,oO 15 (.binOp .lss 3 (xT 14) (nI 0) 3)] [2,3,9,15] (cD 15 (.reg [mO 16 9,oO 17 (.binOp .add 3 (xT 16) (nI 1073741824) 3),aO 9 17] [2,3,9]) (.skip))) (.keep [2,3,9] Gf)))
theorem KN:Bh Tryz.prog 171 26 [(.tmp 8)] GS:=Au Tryz.func171
def A7:CC:=.seq (sR [mO 17 0,oO 18 (.nilCheck (xT 17)),fO 19 97 18 1,lO 20 4 19,oO 21 (.unOp .not 4 (xT 20))] [0,1,2,3,4,5,6,21] (cD 21 (.ret) (.skip))) (.keep [0,1,2,3,4,5,6] (.seq (sR [mO 22 5,oO 23 (.binOp .eql 51 (xT 22) (.const (.int .u64 0)) 51),mO 24 23,oG 25 (mV 6) 24 true,oG 26 (.binOp .eql 51 (xT 25) (.const (.int .u64 0)) 51) 24 true,oO 27 (.pick (xT 24) (xT 26) (nB false))] [0,1,2,3,4,5,6,27] (cD 27 (sR [mO 28 0,mO 29 1,mO 30 2,oO 31 (cL 108 #[(xT 28),(xT 29),(xT 30),(.const (.int .u64 4294967292))] #[93,3,3,51])] [] (.ret)) (.skip))) (.keep [0,1,2,3,4,5,6] (.seq (sR [mO 32 1,mO 33 3,oO 34 (bO .eql 3 32 33 3)] [0,1,2,3,4,5,6,34] (cD 34 (sR [mO 35 0,mO 36 1,mO 37 2,mO 38 2,mO 39 4,mO 40 5,mO 41 6,oO 42 (cL 171 #[(xT 38),(xT 39),(xT 40),(xT 41)] #[3,3,51,51]),oO 43 (cL 108 #[(xT 35),(xT 36),(xT 37),(xT 42)] #[93,3,3,51])] [] (.ret)) (.skip))) (.keep [0,1,2,3,4,5,6] (sR [mO 44 0,oO 45 (.nilCheck (xT 44)),fO 46 97 45 0,lO 47 94 46,mO 48 3,oO 49 (cL 172 #[(xT 47),(xT 48),(nI 1)] #[94,3,3]),aO 14 49] [0,1,2,3,4,5,6,14] (.seq (sR [mO 50 14,oO 51 (.binOp .geq 3 (xT 50) (nI 0) 3)] [0,1,2,3,4,5,6,14,51] (cD 51 (sR [mO 52 0,mO 53 1,mO 54 2,mO 55 14,oO 56 (.convert 3 51 (xT 55)),oO 57 (.binOp .mul 51 (.const (.int .u64 8)) (xT 56) 51),oO 58 (.binOp .add 51 (.const (.int .u64 2)) (xT 57) 51),mO 59 3,oO 60 (.convert 3 51 (xT 59)),oO 61 (.binOp .mul 51 (.const (.int .u64 4294967296)) (xT 60) 51),oO 62 (bO .add 51 58 61 51),oO 63 (cL 108 #[(xT 52),(xT 53),(xT 54),(xT 62)] #[93,3,3,51])] [0,3,4,5,6,14] (sR [mO 64 0,mO 65 3,mO 66 14,mO 67 14,mO 68 4,mO 69 5,mO 70 6,oO 71 (cL 171 #[(xT 67),(xT 68),(xT 69),(xT 70)] #[3,3,51,51]),oO 72 (cL 108 #[(xT 64),(xT 65),(xT 66),(xT 71)] #[93,3,3,51])] [] (.ret))) (.skip))) (.keep [0,1,2,3,4,5,6] (sR [mO 74 0,oO 75 (cL 55 #[(xT 74),(nI 2)] #[93,3]),mO 73 75,xO 76 73 0,xO 77 73 1,aO 15 76,aO 16 77] [0,1,2,3,4,5,6,15,16] (.seq (sR [mO 78 0,oO 79 (.nilCheck (xT 78)),fO 80 97 79 1,lO 81 4 80,oO 82 (.unOp .not 4 (xT 81))] [0,1,2,3,4,5,6,15,16,82] (cD 82 (.ret) (.skip))) (.keep [0,1,2,3,4,5,6,15,16] (sR [mO 83 0,mO 84 1,mO 85 2,mO 86 16,oO 87 (.convert 3 51 (xT 86)),oO 88 (.binOp .mul 51 (.const (.int .u64 8)) (xT 87) 51),oO 89 (.binOp .add 51 (.const (.int .u64 6)) (xT 88) 51),mO 90 15,oO 91 (.convert 3 51 (xT 90)),oO 92 (.binOp .mul 51 (.const (.int .u64 4294967296)) (xT 91) 51),oO 93 (bO .add 51 89 92 51),oO 94 (cL 108 #[(xT 83),(xT 84),(xT 85),(xT 93)] #[93,3,3,51])] [0,3,4,5,6,15,16] (sR [mO 95 0,mO 96 15,mO 97 16,mO 98 4,oO 99 (.convert 3 51 (xT 98)),oO 100 (.binOp .mul 51 (.const (.int .u64 8)) (xT 99) 51),oO 101 (.binOp .add 51 (.const (.int .u64 2)) (xT 100) 51),mO 102 3,oO 103 (.convert 3 51 (xT 102)),oO 104 (.binOp .mul 51 (.const (.int .u64 4294967296)) (xT 103) 51),oO 105 (bO .add 51 101 104 51),oO 106 (cL 108 #[(xT 95),(xT 96),(xT 97),(xT 105)] #[93,3,3,51])] [0,5,6,15,16] (.reg [mO 107 0,mO 108 15,mO 109 16,oO 110 (.binOp .add 3 (xT 109) (nI 1) 3),mO 111 5,mO 112 6,oO 113 (.binOp .mul 51 (xT 112) (.const (.int .u64 4294967296)) 51),oO 114 (bO .add 51 111 113 51),oO 115 (cL 108 #[(xT 107),(xT 108),(xT 110),(xT 114)] #[93,3,3,51])] []))))))))))))))
theorem Bm:Bh Tryz.prog 105 116 [] A7:=Au Tryz.func105
def Be:CC:=.seq (sR [mO 9 8,mO 10 3,oO 11 (bL 10 22),oO 12 (bO .lss 3 9 11 3)] [0,1,2,3,8,12] (cD 12 (.skip) (.exit 0))) (.keep [0,1,2,3,8] (.seq (.block 1 (.reg [mO 15 0,mO 16 1,mO 17 2,mO 18 8,oO 19 (bO .add 3 17 18 3),mO 20 3,mO 21 8,oO 22 (iA 22 20 21),lO 23 51 22,oO 24 (cL 108 #[(xT 15),(xT 16),(xT 19),(xT 23)] #[93,3,3,51])] [0,1,2,3,8])) (.reg [mO 13 8,oO 14 (.binOp .add 3 (xT 13) (nI 1) 3),aO 8 14] [0,1,2,3,8]))) 
def DJ:CC:=sR [oO 8 (.assign (nI 0))] [0,1,2,3,8] (.block 0 (.loop Be))
theorem F0:Bh Tryz.prog 106 25 [] DJ:=Au Tryz.func106
def Bk:CC:=.seq (sR [mO 9 8,fO 10 25 7 2,lO 11 23 10,oO 12 (bL 11 23),oO 13 (bO .lss 3 9 12 3),mO 14 13,oG 15 (mV 0) 14 true,oG 16 (.nilCheck (xT 15)) 14 true,oG 17 (fA 97 16 1) 14 true,oG 18 (lD 4 17) 14 true,oO 19 (.pick (xT 14) (xT 18) (nB false))] [0,1,2,7,8,19] (cD 19 (.skip) (.exit 0))) (.keep [0,1,2,7,8] (.seq (.block 1 (.reg [mO 22 0,mO 23 1,mO 24 2,mO 25 8,oO 26 (bO .add 3 24 25 3),fO 27 25 7 2,lO 28 23 27,mO 29 8,oO 30 (iA 23 28 29),lO 31 25 30,oO 32 (cL 56 #[(xT 22),(xT 23),(xT 26),(xT 31)] #[93,3,3,25])] [0,1,2,7,8])) (.reg [mO 20 8,oO 21 (.binOp .add 3 (xT 20) (nI 1) 3),aO 8 21] [0,1,2,7,8]))) 
def Dj:CC:=sR [oN 7 (.box 25 (xT 3)) [2]] [0,1,2,7] (sR [oO 8 (.assign (nI 0))] [0,1,2,7,8] (.block 0 (.loop Bk)))
theorem FI:Bh Tryz.prog 107 33 [] Dj:=Au Tryz.func107
def BL:CC:=.seq (sR [mO 192 17,mO 193 8,oO 194 (bO .lss 3 192 193 3),mO 195 194,oG 196 (mV 0) 195 true,oG 197 (.nilCheck (xT 196)) 195 true,oG 198 (fA 97 197 1) 195 true,oG 199 (lD 4 198) 195 true,oO 200 (.pick (xT 195) (xT 199) (nB false))] [0,7,8,13,14,15,16,17,200] (cD 200 (.skip) (.exit 3))) (.keep [0,7,8,13,14,15,16,17] (.seq (.block 4 (sR [mO 203 0,mO 204 15,mO 205 16,oO 206 (.binOp .add 3 (xT 205) (nI 1) 3),mO 207 17,mO 208 13,mO 209 14,oO 210 (bO .add 3 208 209 3),oO 211 (bO .mul 3 207 210 3),oO 212 (bO .add 3 206 211 3),fO 213 25 7 2,lO 214 23 213,mO 215 17,oO 216 (iA 23 214 215),fO 217 25 216 1,lO 218 22 217,oO 219 (cL 106 #[(xT 203),(xT 204),(xT 212),(xT 218)] #[93,3,3,22])] [0,7,8,13,14,15,16,17] (.reg [mO 220 0,mO 221 15,mO 222 16,oO 223 (.binOp .add 3 (xT 222) (nI 1) 3),mO 224 17,mO 225 13,mO 226 14,oO 227 (bO .add 3 225 226 3),oO 228 (bO .mul 3 224 227 3),oO 229 (bO .add 3 223 228 3),mO 230 13,oO 231 (bO .add 3 229 230 3),fO 232 25 7 2,lO 233 23 232,mO 234 17,oO 235 (iA 23 233 234),lO 236 25 235,oO 237 (cL 107 #[(xT 220),(xT 221),(xT 231),(xT 236)] #[93,3,3,25])] [0,7,8,13,14,15,16,17]))) (.reg [mO 201 17,oO 202 (.binOp .add 3 (xT 201) (nI 1) 3),aO 17 202] [0,7,8,13,14,15,16,17])))
def Cr:CC:=.seq (sR [mO 29 19,mO 30 8,oO 31 (bO .lss 3 29 30 3)] [0,1,2,7,8,18,19,31] (cD 31 (.skip) (.exit 1))) (.keep [0,1,2,7,8,18,19] (.seq (.block 2 (.reg [mO 34 18,fO 35 25 7 2,lO 36 23 35,mO 37 19,oO 38 (iA 23 36 37),fO 39 25 38 1,lO 40 22 39,oO 41 (.indexAddr 22 (xT 40) (nI 0)),lO 42 51 41,oO 43 (.buildSlice 22 1 #[(0,(xT 42))]),oN 44 (bC .append #[(xT 34),(xT 43)] #[22,22]) [3],aO 18 44] [0,1,2,7,8,18,19])) (.stop (.reg [mO 32 19,oO 33 (.binOp .add 3 (xT 32) (nI 1) 3),aO 19 33] [0,1,2,7,8,18,19])))) 
def Bw:CC:=sR [oN 7 (.box 25 (xT 3)) [2]] [0,1,2,7] (sR [fO 24 25 7 2,lO 25 23 24,oO 26 (bL 25 23),aO 8 26] [0,1,2,7,8] (sR [fO 27 25 7 0,lO 28 3 27] [0,1,2,7,8,28] (.block 0 (sR [oO 80 (.binOp .eql 3 (xT 28) (nI 0) 3),aO 79 80] [0,1,2,7,8,28,79] (cD 79 (.ret) (sR [oO 82 (.binOp .eql 3 (xT 28) (nI 1) 3),aO 81 82] [0,1,2,7,8,28,81] (cD 81 (sR [mO 84 0,fO 85 25 7 1,lO 86 22 85,oO 87 (bL 86 22),mO 88 8,oO 89 (bO .add 3 87 88 3),oO 90 (cL 55 #[(xT 84),(xT 89)] #[93,3]),mO 83 90,xO 91 83 0,xO 92 83 1,aO 9 91,aO 10 92] [0,1,2,7,8,9,10] (sR [mO 93 0,mO 94 1,mO 95 2,mO 96 9,mO 97 10,fO 98 25 7 1,lO 99 22 98,oO 100 (bL 99 22),oO 101 (.convert 3 51 (xT 100)),mO 102 8,oO 103 (.convert 3 51 (xT 102)),oO 104 (.binOp .mul 51 (.const (.int .u64 65536)) (xT 103) 51),oO 105 (bO .add 51 101 104 51),oO 106 (cL 105 #[(xT 93),(xT 94),(xT 95),(xT 96),(xT 97),(.const (.int .u64 0)),(xT 105)] #[93,3,3,3,3,51,51])] [0,7,9,10] (sR [mO 107 0,mO 108 9,mO 109 10,fO 110 25 7 1,lO 111 22 110,oO 112 (cL 106 #[(xT 107),(xT 108),(xT 109),(xT 111)] #[93,3,3,22])] [0,7,9,10] (.reg [mO 113 0,mO 114 9,mO 115 10,fO 116 25 7 1,lO 117 22 116,oO 118 (bL 117 22),oO 119 (bO .add 3 115 118 3),lO 120 25 7,oO 121 (cL 107 #[(xT 113),(xT 114),(xT 119),(xT 120)] #[93,3,3,25])] [])))) (sR [oO 123 (.binOp .eql 3 (xT 28) (nI 8) 3),aO 122 123] [0,1,2,7,8,28,122] (cD 122 (sR [mO 125 0,mO 126 8,oO 127 (cL 55 #[(xT 125),(xT 126)] #[93,3]),mO 124 127,xO 128 124 0,xO 129 124 1,aO 11 128,aO 12 129] [0,1,2,7,8,11,12] (sR [mO 130 0,mO 131 1,mO 132 2,mO 133 11,mO 134 12,mO 135 8,oO 136 (.convert 3 51 (xT 135)),oO 137 (.binOp .mul 51 (.const (.int .u64 8)) (xT 136) 51),oO 138 (.binOp .add 51 (.const (.int .u64 6)) (xT 137) 51),oO 139 (cL 105 #[(xT 130),(xT 131),(xT 132),(xT 133),(xT 134),(.const (.int .u64 1)),(xT 138)] #[93,3,3,3,3,51,51])] [0,7,11,12] (.reg [mO 140 0,mO 141 11,mO 142 12,lO 143 25 7,oO 144 (cL 107 #[(xT 140),(xT 141),(xT 142),(xT 143)] #[93,3,3,25])] []))) (sR [oO 146 (.binOp .eql 3 (xT 28) (nI 9) 3),aO 145 146] [0,1,2,7,8,145] (cD 145 (sR [lO 148 25 7,oO 149 (cL 66 #[(xT 148)] #[25]),mO 147 149,xO 150 147 0,xO 151 147 1,aO 13 150,aO 14 151] [0,1,2,7,8,13,14] (sR [mO 153 0,mO 154 8,mO 155 13,mO 156 14,oO 157 (bO .add 3 155 156 3),oO 158 (bO .mul 3 154 157 3),oO 159 (.binOp .add 3 (nI 1) (xT 158) 3),oO 160 (cL 55 #[(xT 153),(xT 159)] #[93,3]),mO 152 160,xO 161 152 0,xO 162 152 1,aO 15 161,aO 16 162] [0,1,2,7,8,13,14,15,16] (sR [mO 163 0,mO 164 1,mO 165 2,mO 166 15,mO 167 16,mO 168 8,mO 169 13,mO 170 14,oO 171 (bO .add 3 169 170 3),oO 172 (bO .mul 3 168 171 3),oO 173 (.convert 3 51 (xT 172)),oO 174 (.binOp .mul 51 (.const (.int .u64 8)) (xT 173) 51),oO 175 (.binOp .add 51 (.const (.int .u64 7)) (xT 174) 51),oO 176 (cL 105 #[(xT 163),(xT 164),(xT 165),(xT 166),(xT 167),(.const (.int .u64 1)),(xT 175)] #[93,3,3,3,3,51,51])] [0,7,8,13,14,15,16] (sR [mO 177 0,mO 178 15,mO 179 16,mO 180 8,oO 181 (.binOp .mul 3 (nI 4) (xT 180) 3),oO 182 (.convert 3 51 (xT 181)),mO 183 13,oO 184 (.convert 3 51 (xT 183)),mO 185 14,oO 186 (.convert 3 51 (xT 185)),oO 187 (.binOp .mul 51 (.const (.int .u64 65536)) (xT 186) 51),oO 188 (bO .add 51 184 187 51),oO 189 (.binOp .mul 51 (.const (.int .u64 4294967296)) (xT 188) 51),oO 190 (bO .add 51 182 189 51),oO 191 (cL 108 #[(xT 177),(xT 178),(xT 179),(xT 190)] #[93,3,3,51])] [0,7,8,13,14,15,16] (sR [oO 17 (.assign (nI 0))] [0,7,8,13,14,15,16,17] (.block 3 (.loop BL))))))) (sR [oO 18 (.assign nS)] [0,1,2,7,8,18] (.stop (.seq (sR [oO 19 (.assign (nI 0))] [0,1,2,7,8,18,19] (.block 1 (.loop Cr))) (.keep [0,1,2,7,8,18] (sR [fO 46 25 7 0,lO 47 3 46,oO 48 (.binOp .sub 3 (xT 47) (nI 2) 3),mO 49 18,oO 50 (cL 69 #[(xT 48),(xT 49)] #[3,22]),mO 45 50,xO 51 45 0,xO 52 45 1,aO 20 51,aO 21 52] [0,1,2,7,8,20] (sR [mO 54 0,mO 55 20,oO 56 (bL 55 22),oO 57 (cL 55 #[(xT 54),(xT 56)] #[93,3]),mO 53 57,xO 58 53 0,xO 59 53 1,aO 22 58,aO 23 59] [0,1,2,7,8,20,22,23] (sR [mO 60 0,mO 61 1,mO 62 2,mO 63 22,mO 64 23,fO 65 25 7 0,lO 66 3 65,oO 67 (.binOp .sub 3 (xT 66) (nI 2) 3),oO 68 (.convert 3 51 (xT 67)),mO 69 8,oO 70 (.convert 3 51 (xT 69)),oO 71 (.binOp .mul 51 (.const (.int .u64 8)) (xT 70) 51),oO 72 (bO .add 51 68 71 51),oO 73 (cL 105 #[(xT 60),(xT 61),(xT 62),(xT 63),(xT 64),(.const (.int .u64 1)),(xT 72)] #[93,3,3,3,3,51,51])] [0,20,22,23] (.reg [mO 74 0,mO 75 22,mO 76 23,mO 77 20,oO 78 (cL 106 #[(xT 74),(xT 75),(xT 76),(xT 77)] #[93,3,3,22])] [])))))))))))))))))))
theorem BV:Bh Tryz.prog 56 238 [] Bw:=Au Tryz.func56
def FJ:CC:=.seq (sR [mO 39 8,oO 40 (.nilCheck (xT 39)),fO 41 97 40 1,lO 42 4 41,oO 43 (.unOp .not 4 (xT 42))] [8,43] (cD 43 (sR [oO 6 (.assign nS),oO 7 (.assign (nB false))] [6,7] (.ret)) (.skip))) (.keep [8] (sR [mO 44 8,oO 45 (.nilCheck (xT 44)),fO 46 97 45 0,lO 47 94 46,oO 48 (.nilCheck (xT 47)),fO 49 102 48 0,lO 50 41 49,aO 6 50,oO 7 (.assign (nB true))] [6,7] (.ret))) 
def Gh:CC:=sR [oN 3 (.box 25 (xT 0)) [0],oO 6 (.assign nS),oO 7 (.assign (nB false))] [1,2,3] (.seq (sR [lO 11 25 3,oO 12 (cL 28 #[(xT 11),(nI 64)] #[25,3]),oO 13 (.unOp .not 4 (xT 12)),mO 14 13,oG 15 (fA 25 3 0) 14 false,oG 16 (lD 3 15) 14 false,oG 17 (.binOp .eql 3 (xT 16) (nI 10) 3) 14 false,oO 18 (.pick (xT 14) (nB true) (xT 17))] [1,2,3,18] (cD 18 (sR [oO 6 (.assign nS),oO 7 (.assign (nB false))] [6,7] (.ret)) (.skip))) (.keep [1,2,3] (sR [mO 19 1,mO 20 2,oO 21 (cL 54 #[(xT 19),(xT 20)] #[3,3]),oO 22 (.build 97 #[(0,(xT 21)),(1,(nB true))]),oN 23 (.box 97 (xT 22)) [1],aO 8 23] [3,8] (sR [mO 25 8,oO 26 (cL 55 #[(xT 25),(nI 1)] #[93,3]),mO 24 26,xO 27 24 0,xO 28 24 1,aO 9 27,aO 10 28] [3,8,9,10] (.seq (sR [mO 29 8,oO 30 (.nilCheck (xT 29)),fO 31 97 30 1,lO 32 4 31] [3,8,9,10,32] (cD 32 (.reg [mO 33 8,mO 34 9,mO 35 10,lO 36 25 3,oO 37 (cL 32 #[(xT 36)] #[25]),oO 38 (cL 56 #[(xT 33),(xT 34),(xT 35),(xT 37)] #[93,3,3,25])] [8]) (.skip))) (.keep [8] FJ))))))
theorem JG:Bh Tryz.prog 26 51 [(.tmp 6),(.tmp 7)] Gh:=Au Tryz.func26
end Go.Proofs.YtbjmaoedheiigaaGreat
namespace Go.Proofs.YtbjmaoedheiigaaGreat
open Go Go.G Go.Proofs
def Qp (u:Nat) (S:Ar) (ok:Bool):kK:=⟨fun r q p=>if p=[] then ⟨u,.cells [.pob [q] S.u 0,bv ok]⟩ else ⟨0,.none⟩,fun _ q=>Hf q S,fun {g δ r r' q q'} h1 h2 h3 h4 p=>⟨by
  by_cases hp:p=[]
  ·subst hp
   simp only[if_true]
   exact Fam.cells_ren (by simp[A.renL,A.ren,h3,h4])
  ·rw[if_neg hp,if_neg hp];rfl,T4 h3 h4 S p⟩,fun {D r q} h1 h2 p=>⟨by
  by_cases hp:p=[]
  ·subst hp
   simp only[if_true]
   simp[Ob.refs,A.refsL,A.refs,h2]
  ·rw[if_neg hp];trivial,Q0 h2 S p⟩⟩
@[simp] theorem AiE {u:Nat} {S:Ar} {ok:Bool} {r q:Nat} {p:Nm}:(Qp u S ok).B r q p=if p=[] then ⟨u,.cells [.pob [q] S.u 0,bv ok]⟩ else ⟨0,.none⟩:=rfl
@[simp] theorem AiJ {u:Nat} {S:Ar} {ok:Bool} {r q:Nat}:(Qp u S ok).C r q=Hf q S:=rfl
def wl (S:Ar) (k:Nat):Nat:=((S.l[k]?).map fun e=>e.2.length).getD 0
theorem Vi {S:Ar} {k:Nat} (h:k<S.l.length):wl S k=S.l[k].2.length:=by simp[wl,h]
theorem uJ {S:Ar} {k b:Nat} (h:b<wl S k):∃ hk:k<S.l.length,b<S.l[k].2.length:=by
 by_cases hk:k<S.l.length
 ·exact⟨hk,by rwa [Vi hk] at h⟩
 ·simp[wl,List.getElem?_eq_none (Nat.le_of_not_lt hk)] at h
def Wd (S:Ar):Prop:=∀ e,e ∈ S.l→∀ x,x ∈ e.2→BN x
structure Gr (S S':Ar):Prop where
 ok:S'.Ok
 wd:Wd S'
 wl:∀ k,Go.Proofs.YtbjmaoedheiigaaGreat.wl S k≤Go.Proofs.YtbjmaoedheiigaaGreat.wl S' k
theorem Gr.refl {S:Ar} (h:S.Ok) (w:Wd S):Gr S S:=⟨h,w,fun _=>Cc _⟩
theorem Gr.trans {S S' S2:Ar} (h:Gr S S') (k:Gr S' S2):Gr S S2:=⟨k.ok,k.wd,fun i=>Nat.le_trans (h.wl i) (k.wl i)⟩
theorem X3 (S:Ar) (n:Int):1≤(I9 S n).l.length:=by
 unfold I9
 split
 ·simp[Eg]
 ·rename_i h
  simp[GU] at h
  cases e:S.l with
  |nil=>simp[e] at h
  |cons a l=>simp
theorem nZ (S:Ar) (n:Int):(CZ S n).u=S.u:=by
 have:(I9 S n).u=S.u:=by unfold I9;split<;>rfl
 unfold CZ
 split
 ·exact this
 ·rfl
theorem xy (S:Ar) (s n:Int):(Kd S s n).u=S.u:=by
 unfold Kd
 split<;>rfl
theorem Pu (u:Nat) (S:Ar) (h:S.Ok) (ok:Bool) (n:Int):Hw Tryz.prog 55 (fun r _=>[.pob [r] u 0,iv n]) (Qp u S ok)
  (fun _ _=>.tup [iv (if C8 S n=true then ((I9 S n).l.length:Int)-1 else -1),iv (if C8 S n=true then (szAt (I9 S n).w (((I9 S n).l.length:Int)-1):Int) else -1)]) (Qp u (CZ S n) (ok&&C8 S n)):=by
 refine BE Kc (by simp) (Aq (AU AG) (Aq (AU Ax) A0)) (BF (Aq (AU Ax) (Aq (AU Ax) A0))) fun w0 I0 M0 m0=>?_
 unfold FG
 simp
 refine XL (r:=1) (da S h n) (fun p=>by simp) rfl (fun _ _=>rfl) (fun _=>⟨trivial,trivial⟩) (fun _ _=>rfl) (fun _=>⟨trivial,trivial,trivial⟩) (by simp) ?_
 simp
 have hp:=X3 S n
 have hu:=nZ S n
 refine⟨fun hc=>?_,fun hc=>?_⟩
 ·have hk:C8 S n=false:=by
   cases e:C8 S n with
   |false=>rfl
   |true=>rw[if_pos e] at hc;omega
  refine Dl rfl rfl (fun p=>?_) (fun p=>?_)
  ·by_cases hp:p=[]
   ·subst hp;simp[Aa,hk,hu]
   ·simp[Aa,hp,hk]
  ·simp
 ·have hk:C8 S n=true:=by
   cases e:C8 S n with
   |true=>rfl
   |false=>simp[e] at hc
  refine Dl rfl rfl (fun p=>?_) (fun p=>?_)
  ·simp[hk,hu]
  ·simp
def QP (S:Ar) (k b:Nat) (w:Int):Ar:={ S with l:=S.l.modify k fun e=>(e.1,e.2.set b w) }
theorem qR {S:Ar} (h:S.Ok) (hw:Wd S) (k b:Nat) {w:Int} (hu:BN w):Gr S (QP S k b w):=by
 refine⟨⟨h.used0,h.used1,h.most1,h.size0,h.size1,by simpa[QP] using h.len,fun e he=>?_⟩,fun e he x hx=>?_,fun i=>?_⟩
 ·simp only[QP] at he ⊢
  obtain⟨i,hi,rfl⟩:=List.getElem_of_mem he
  simp only[List.getElem_modify]
  simp at hi
  have:=h.seg _ (BI hi)
  split
  ·simpa using this
  ·exact this
 ·simp only[QP] at he
  obtain⟨i,hi,rfl⟩:=List.getElem_of_mem he
  simp only[List.getElem_modify] at hx
  simp at hi
  split at hx
  ·rcases List.mem_or_eq_of_mem_set hx with hx | rfl
   ·exact hw _ (BI hi) x hx
   ·exact hu
  ·exact hw _ (BI hi) x hx
 ·unfold wl
  simp only[QP,List.getElem?_modify]
  cases e:S.l[i]? with
  |none=>simp
  |some e=>
   by_cases hk:k=i
   ·simp[hk]
   ·simp[hk]
theorem CQ {c:Cx} {rs:List ResultVar} {x:A} {F' N:Nm→VOb} {r0:A} {st:Sta} (h:Ll c.P st rs=some r0) (he:r0=x) (hh:∀ p,st.H (0::p)=F' p) (hn:∀ p,st.H (1::p)=N p):Mc c rs 2 x (ov 0 F' (ov 1 N (DH []))) .normal st:=
 NF h he fun i p hi=>by
  by_cases h0:i=0
  ·subst h0
   rw[hh]
   simp
  ·have:i=1:=by omega
   subst this
   rw[hn]
   simp
theorem vX {r:Nat} {S:Ar} {k b:Nat} {w:Int} (hk:k<S.l.length):AQ (Hf r S) [0,k] ⟨S.l[k].1,.arr 1 ((S.l[k].2.map uv).set b (uv w))⟩=Hf r (QP S k b w):=by
 funext p
 refine FE ?_ (fun h1=>?_)
 ·simp[QP,List.getElem?_modify,hk]
 ·match p,h1 with
  |[],_=>simp[QP]
  |[0],_=>
   have e:Hy r (S.l.modify k fun e=>(e.1,e.2.set b w))=Hy r S.l:=by
    apply List.ext_getElem
    ·simp
    ·intro i g1 g2
     simp only[Z4,List.getElem_modify]
     by_cases e:k=i
     ·subst e;simp
     ·simp[e]
   simp[e,QP]
  |[0,i],h1=>
   have:k ≠ i:=fun e=>h1 (by rw[e])
   simp[List.getElem?_modify,this,QP]
  |(a+1)::q,_=>rfl
  |0::a::b::q,_=>rfl
theorem bw (u:Nat) (S:Ar) (s a w:Int):Hw Tryz.prog 108 (fun r _=>[.pob [r] u 0,iv s,iv a,uv w]) (Qp u S false) (fun _ _=>.tup []) (Qp u S false):=by
 refine BE FX (by simp) (Aq (AU AG) (Aq (AU Ax) (Aq (AU Ax) (Aq (AU Ax) A0)))) (BF A0) fun w0 I0 M0 m0=>?_
 unfold DL
 simp
 exact CQ rfl rfl (fun p=>by simp) (fun p=>by simp)
theorem Je (u:Nat) (S:Ar) (k b:Nat) (w:Int) (hb:b<wl S k):Hw Tryz.prog 108 (fun r _=>[.pob [r] u 0,iv k,iv b,uv w]) (Qp u S true) (fun _ _=>.tup []) (Qp u (QP S k b w) true):=by
 refine BE FX (by simp) (Aq (AU AG) (Aq (AU Ax) (Aq (AU Ax) (Aq (AU Ax) A0)))) (BF A0) fun w0 I0 M0 m0=>?_
 unfold DL
 obtain⟨hk,hb'⟩:=uJ hb
 have hb2:(b:Int)<S.l[k].2.length:=by omega
 simp[hk,hb',hb2]
 rw[vX hk]
 exact CQ rfl rfl (fun p=>by simp[QP]) (fun p=>by simp)
def bn (z kd up:Int):Int:=IntKind.u64.wrap (IntKind.u64.wrap (IntKind.u64.wrap (IntKind.i64.wrap (4*z))+kd)+IntKind.u64.wrap (up*4294967296))
theorem i6 {w0:World} {I0:Nat→Prop} (z kd up:Int):WPC (cx Tryz.prog w0 I0 26) Gf (PO Tryz.prog [.tmp 8] (uv (bn z kd up))) ⟨lk [(2,uv kd),(3,uv up),(9,iv z)],DH []⟩:=by
 unfold Gf
 simp
 exact Ab rfl
variable {n0:Nat} {w0:World} {I0:Nat→Prop} {M0:Nm→Nat→Prop} {m0:Mu} {u:Nat} {W:List Int}
theorem fh {k b:Int} {S:Ar} (hn:W.length≤1000000000):∀ (j i:Nat),i+j=W.length→
  ∀ {Q:Exit→Sta→Prop} {H:Hp},(∀ p,H (0::p)=(Qp u S false).B 0 1 p)→(∀ p,H (1::p)=Hf 1 S p) →
   (∀ s H',(∀ p,H' (0::p)=(Qp u S false).B 0 1 p)→(∀ p,H' (1::p)=Hf 1 S p)→Q (.exit 0) ⟨s,H'⟩) →
   LoopC (Ds Tryz.prog w0 I0 M0 n0 m0) Be Q ⟨lk [(0,.pob [0] u 0),(1,iv k),(2,iv b),(3,DP W),(8,iv i)],H⟩:=by
 intro j
 induction j with
 |zero=>
  intro i hi Q H g0 g1 q
  have:i=W.length:=by omega
  subst this
  refine Ad Ak Be.eq_1 ?_
  simp
  exact q _ _ g0 g1
 |succ j ih=>
  intro i hi Q H g0 g1 q
  have hlt:i<W.length:=by omega
  refine Ad Ak Be.eq_1 ?_
  have hlt2:(i:Int)<W.length:=by omega
  have e2:IntKind.i64.wrap ((i:Int)+1)=((i+1:Nat):Int):=(Af (n:=(i:Int)+1) (by omega) (by omega)).trans (by omega)
  simp[hlt,hlt2]
  refine Bj 0 1 (by simp) (bw u S k (IntKind.i64.wrap (b+i)) W[i]) g0 g1 (by simp) (by simp) ?_
  simp[e2]
  refine ih (i+1) (by omega) (fun p=>by simp) (fun p=>by simp) q
theorem Ya {S:Ar} {k n i:Nat} (hk:k<S.l.length):wl (KS S k n) i=wl S i+if i=k then n else 0:=by
 unfold wl
 simp only[KS,GZ,List.getElem?_modify]
 by_cases e:k=i
 ·subst e
  simp[hk]
 ·cases h:S.l[i]?<;>simp[e,Ne.symm e]
theorem iW {S:Ar} (h:S.Ok) (hw:Wd S) {k n:Nat} (hk:k<S.l.length) (hn:S.used+n≤S.most):Gr S (KS S k n):=by
 refine⟨⟨?_,?_,h.most1,h.size0,h.size1,by simpa[KS,GZ] using h.len,fun e he=>?_⟩,fun e he x hx=>?_,fun i=>by rw[Ya hk];omega⟩
 ·have:=h.used0;simp only[KS];omega
 ·simpa[KS] using hn
 ·simp only[KS,GZ] at he ⊢
  obtain⟨i,hi,rfl⟩:=List.getElem_of_mem he
  simp only[List.getElem_modify]
  simp at hi
  have:=h.seg _ (BI hi)
  split
  ·simp;omega
  ·omega
 ·simp only[KS,GZ] at he
  obtain⟨i,hi,rfl⟩:=List.getElem_of_mem he
  simp only[List.getElem_modify] at hx
  simp at hi
  split at hx
  ·simp only[List.mem_append] at hx
   rcases hx with hx | hx
   ·exact hw _ (BI hi) x hx
   ·have:=List.eq_of_mem_replicate hx
    subst this
    exact⟨by omega,by omega⟩
  ·exact hw _ (BI hi) x hx
theorem vR {S:Ar} (h:S.Ok) (hw:Wd S) (n:Int):Gr S (I9 S n):=by
 refine⟨nr h n,fun e he x hx=>?_,fun i=>?_⟩
 ·unfold I9 at he
  split at he
  ·simp only[Eg,List.mem_append,List.mem_singleton] at he
   rcases he with he | rfl
   ·exact hw e he x hx
   ·simp at hx
  ·exact hw e he x hx
 ·unfold I9
  split
  ·unfold wl
   simp only[Eg,List.getElem?_append]
   split
   ·exact Cc _
   ·rw[List.getElem?_eq_none (by omega)];simp
  ·exact Cc _
theorem Vf {S:Ar} (h:S.Ok) (hw:Wd S) (n:Int):Gr S (CZ S n):=by
 unfold CZ
 split
 ·rename_i hg
  simp[C8] at hg
  have hu:(I9 S n).used=S.used∧(I9 S n).most=S.most:=by unfold I9;split<;>exact⟨rfl,rfl⟩
  have g:=vR h hw n
  have hp:=X3 S n
  refine g.trans (iW g.ok g.wd (by omega) ?_)
  rw[hu.1,hu.2]
  omega
 ·exact Gr.refl h hw
theorem xi {S:Ar} (h:S.Ok) (hw:Wd S) (s n:Int):Gr S (Kd S s n):=by
 unfold Kd
 split
 ·rename_i hg
  simp[TH] at hg
  exact iW h hw (by omega) (by omega)
 ·exact Gr.refl h hw
end Go.Proofs.YtbjmaoedheiigaaGreat
namespace Go.Proofs.YtbjmaoedheiigaaGreat
open Go Go.G Go.Proofs Go.PL
def wv (S:Ar) (k i:Nat):Option Int:=(S.l[k]?).bind fun e=>e.2[i]?
theorem wL_ar {S:Ar} {k i:Nat}:wL S.w k i=wv S k i:=by
 unfold wL wv Ar.w
 rw[List.getElem?_map]
 cases S.l[k]?<;>rfl
theorem mM {S:Ar} {k:Nat}:jV S.w k=wl S k:=by
 unfold jV wl Ar.w
 rw[List.getElem?_map]
 cases S.l[k]?<;>rfl
theorem F8 {S:Ar} {k i:Nat} {x:Int} (h:wv S k i=some x):k<S.l.length∧i<wl S k:=by
 have:=Ua (wL_ar.trans h)
 rw[mM] at this
 simpa[Ar.w] using this
theorem GQ {S:Ar} {k b:Nat} {w:Int} (hb:b<wl S k) (k' i:Nat):wv (QP S k b w) k' i=if k'=k∧i=b then some w else wv S k' i:=by
 obtain⟨hk,hb'⟩:=uJ hb
 unfold wv
 simp only[QP,List.getElem?_modify]
 by_cases e:k'=k
 ·subst e
  simp only[if_true,List.getElem?_eq_getElem hk,Option.map_some,Option.bind_some,List.getElem?_set,true_and]
  by_cases e2:i=b
  ·subst e2
   simp[hb']
  ·simp[e2,Ne.symm e2]
 ·rw[if_neg (fun h=>e h.1)]
  cases S.l[k']?<;>simp[Ne.symm e]
theorem RF {S:Ar} {k b:Nat} {w:Int} (k':Nat):wl (QP S k b w) k'=wl S k':=by
 unfold wl
 simp only[QP,List.getElem?_modify]
 cases e:S.l[k']? with
 |none=>simp
 |some e=>
  by_cases hk:k=k'
  ·simp[hk]
  ·simp[hk]
theorem oq {S:Ar} {k b:Nat} {w:Int}:(QP S k b w).l.length=S.l.length:=by simp[QP]
theorem gX {S:Ar} {k n:Nat} (hk:k<S.l.length) (k' i:Nat):wv (KS S k n) k' i=if k'=k∧wl S k≤i∧i<wl S k+n then some 0 else wv S k' i:=by
 rw[Vi hk]
 unfold wv
 simp only[KS,GZ,List.getElem?_modify]
 by_cases e:k'=k
 ·subst e
  simp only[if_true,List.getElem?_eq_getElem hk,Option.map_eq_map,Option.map_some,Option.bind_some,true_and,List.getElem?_append]
  split
  ·rw[if_neg (by omega)]
  ·rw[List.getElem?_replicate]
   split
   ·rw[if_pos (by omega)]
   ·rw[if_neg (by omega),List.getElem?_eq_none (by omega)]
 ·rw[if_neg (fun h=>e h.1)]
  cases S.l[k']?<;>simp[Ne.symm e]
theorem vQ (S:Ar) (n:Int) (k i:Nat):wv (I9 S n) k i=wv S k i:=by
 unfold I9
 split
 ·unfold wv
  simp only[Eg,List.getElem?_append]
  split
  ·rfl
  ·rw[List.getElem?_eq_none (l:=S.l) (by omega)]
   cases e:([(1,[])]:List (Nat × List Int))[k-S.l.length]? with
   |none=>rfl
   |some e'=>
    have:=List.mem_of_getElem? e
    simp at this
    subst this
    rfl
 ·rfl
theorem eW (S:Ar) (n:Int) (k:Nat):wl (I9 S n) k=wl S k:=by
 unfold I9
 split
 ·unfold wl
  simp only[Eg,List.getElem?_append]
  split
  ·rfl
  ·rw[List.getElem?_eq_none (l:=S.l) (by omega)]
   cases e:([(1,[])]:List (Nat × List Int))[k-S.l.length]? with
   |none=>rfl
   |some e'=>
    have:=List.mem_of_getElem? e
    simp at this
    subst this
    rfl
 ·rfl
theorem mU (S:Ar) (n:Int):S.l.length≤(I9 S n).l.length∧(I9 S n).l.length≤S.l.length+1:=by
 unfold I9
 split<;>simp[Eg]
structure Nw (S S':Ar) (kk bb nn:Nat):Prop where
 b:bb=Go.Proofs.YtbjmaoedheiigaaGreat.wl S kk
 k:kk<S'.l.length
 ln:S.l.length≤S'.l.length
 ln2:S'.l.length≤S.l.length+1
 wl:∀ j,Go.Proofs.YtbjmaoedheiigaaGreat.wl S' j=Go.Proofs.YtbjmaoedheiigaaGreat.wl S j+if j=kk then nn else 0
 wv:∀ j i,Go.Proofs.YtbjmaoedheiigaaGreat.wv S' j i=if j=kk∧bb≤i∧i<bb+nn then some 0 else Go.Proofs.YtbjmaoedheiigaaGreat.wv S j i
theorem aZ {S:Ar} {n:Nat} (hg:C8 S n=true):∃ k b:Nat,((I9 S n).l.length:Int)-1=k∧(szAt (I9 S n).w (((I9 S n).l.length:Int)-1):Int)=b∧Nw S (CZ S n) k b n:=by
 have hp:=X3 S n
 have hk:(I9 S n).l.length-1<(I9 S n).l.length:=by omega
 have hw:=eW S n ((I9 S n).l.length-1)
 refine⟨(I9 S n).l.length-1,wl S ((I9 S n).l.length-1),by omega,?_,rfl,?_,?_,?_,fun j=>?_,fun j i=>?_⟩
 ·rw[show((I9 S n).l.length:Int)-1=(((I9 S n).l.length-1:Nat):Int) from by omega,NS (by omega),← hw,Vi (by omega)]
 ·simp[CZ,hg,KS]
  omega
 ·have:=(mU S n).1
  simp[CZ,hg,KS]
  exact this
 ·have:=(mU S n).2
  simp[CZ,hg,KS]
  exact this
 ·simp only[CZ,hg,if_true,Int.toNat_natCast]
  rw[Ya hk,eW]
 ·simp only[CZ,hg,if_true,Int.toNat_natCast]
  rw[gX hk,vQ,eW]
theorem xM {S:Ar} {s:Int} {n:Nat} (hg:TH S s n=true):∃ k:Nat,s=k∧(szAt S.w s:Int)=wl S k∧Nw S (Kd S s n) k (wl S k) n:=by
 have hg':=hg
 simp[TH] at hg'
 obtain⟨k,rfl⟩:=Int.eq_ofNat_of_zero_le hg'.1
 have hk:k<S.l.length:=by omega
 refine⟨k,rfl,by rw[NS hk,Vi hk],rfl,?_,?_,?_,fun j=>?_,fun j i=>?_⟩
 ·simp[Kd,hg,KS,hk]
 ·simp[Kd,hg,KS]
 ·simp[Kd,hg,KS]
 ·simp only[Kd,hg,if_true,Int.toNat_natCast]
  rw[Ya hk]
 ·simp only[Kd,hg,if_true,Int.toNat_natCast]
  rw[gX hk]
structure Kp31 (P:Nat→Nat→Prop) (S S':Ar):Prop where
 gr:Gr S S'
 ln:S.l.length≤S'.l.length
 eq:∀ k i,i<wl S k→¬ P k i→wv S' k i=wv S k i
theorem Kp31.refl {P:Nat→Nat→Prop} {S:Ar} (h:S.Ok) (w:Wd S):Kp31 P S S:=⟨Gr.refl h w,Cc _,fun _ _ _ _=>rfl⟩
theorem Kp31.trans {P Q R:Nat→Nat→Prop} {S S1 S2:Ar} (h:Kp31 P S S1) (k:Kp31 Q S1 S2) (hp:∀ k i,i<wl S k→P k i→R k i) (hq:∀ k i,i<wl S k→Q k i→R k i):Kp31 R S S2:=by
 refine⟨h.gr.trans k.gr,Nat.le_trans h.ln k.ln,fun x i hi hn=>?_⟩
 have:=h.gr.wl x
 rw[k.eq x i (by omega) fun e=>hn (hq x i hi e),h.eq x i hi fun e=>hn (hp x i hi e)]
def Yn (k b:Nat) (j i:Nat):Prop:=j=k∧i=b
def rng (k b n:Nat) (j i:Nat):Prop:=j=k∧b≤i∧i<b+n
def no2 (j i:Nat):Prop:=False
theorem Nw.kp {S S':Ar} {k b n:Nat} (h:Nw S S' k b n) (g:Gr S S'):Kp31 no2 S S':=by
 refine⟨g,h.ln,fun j i hi _=>?_⟩
 rw[h.wv,if_neg]
 rintro⟨rfl,h1,h2⟩
 have:=h.b
 omega
theorem LM {S:Ar} (h:S.Ok) (hw:Wd S) {k b:Nat} {w:Int} (hu:BN w) (hb:b<wl S k):Kp31 (Yn k b) S (QP S k b w):=by
 refine⟨qR h hw k b hu,by rw[oq];exact Cc _,fun j i hi hn=>?_⟩
 have hn:¬ (j=k∧i=b):=hn
 rw[GQ hb,if_neg hn]
structure Ag (P:Nat→Nat→Prop) (S S':Ar) (L:List (List Int)):Prop where
 ln:S'.l.length≤L.length
 wl:∀ k,Go.Proofs.YtbjmaoedheiigaaGreat.wl S' k≤jV L k
 eq:∀ k i,i<Go.Proofs.YtbjmaoedheiigaaGreat.wl S' k→Go.Proofs.YtbjmaoedheiigaaGreat.wl S k≤i∨P k i→wL L k i=wv S' k i
theorem Ag.self (P:Nat→Nat→Prop) (S S':Ar):Ag P S S' S'.w:=⟨by simp[Ar.w],fun k=>by rw[mM];exact Cc _,fun k i _ _=>wL_ar⟩
theorem Ag.fst {P Q R:Nat→Nat→Prop} {S S1 S2:Ar} {L:List (List Int)} (h:Ag R S S2 L) (k:Kp31 Q S1 S2) (hp:∀ k i,i<Go.Proofs.YtbjmaoedheiigaaGreat.wl S1 k→P k i→Go.Proofs.YtbjmaoedheiigaaGreat.wl S k≤i∨R k i) (hq:∀ k i,i<Go.Proofs.YtbjmaoedheiigaaGreat.wl S1 k→Q k i→¬ (Go.Proofs.YtbjmaoedheiigaaGreat.wl S k≤i∨P k i)):Ag P S S1 L:=by
 refine⟨Nat.le_trans k.ln h.ln,fun j=>Nat.le_trans (k.gr.wl j) (h.wl j),fun j i hi ho=>?_⟩
 have:=k.gr.wl j
 rw[h.eq j i (by omega) ?_,k.eq j i hi fun e=>hq j i hi e ho]
 rcases ho with ho | ho
 ·exact .inl ho
 ·exact hp j i hi ho
theorem Ag.snd {Q R:Nat→Nat→Prop} {S S1 S2:Ar} {L:List (List Int)} (h:Ag R S S2 L) (g:Gr S S1) (hq:∀ k i,i<Go.Proofs.YtbjmaoedheiigaaGreat.wl S2 k→Q k i→Go.Proofs.YtbjmaoedheiigaaGreat.wl S k≤i∨R k i):Ag Q S1 S2 L:=by
 refine⟨h.ln,h.wl,fun j i hi ho=>h.eq j i hi ?_⟩
 have:=g.wl j
 rcases ho with ho | ho
 ·exact .inl (by omega)
 ·exact hq j i hi ho
theorem Ag.at {P:Nat→Nat→Prop} {S S':Ar} {L:List (List Int)} (h:Ag P S S' L) {k i:Nat} {x:Int} (hx:wv S' k i=some x) (ho:Go.Proofs.YtbjmaoedheiigaaGreat.wl S k≤i∨P k i):wL L k i=some x:=by
 rw[h.eq k i (F8 hx).2 ho,hx]
end Go.Proofs.YtbjmaoedheiigaaGreat
namespace Go.Proofs.YtbjmaoedheiigaaGreat
open Go Go.G Go.Proofs
theorem Lv {u:Nat} {s a g t kd up:Int}:Qv (fun r _=>[.pob [r] u 0,iv s,iv a,iv g,iv t,uv kd,uv up]):=Aq (AU AG) (Aq (AU Ax) (Aq (AU Ax) (Aq (AU Ax) (Aq (AU Ax) (Aq (AU Ax) (Aq (AU Ax) A0))))))
def OI (c x y:Int):Int:=IntKind.u64.wrap (IntKind.u64.wrap (c+IntKind.u64.wrap (8*IntKind.u64.wrap x))+IntKind.u64.wrap (4294967296*IntKind.u64.wrap y))
theorem Yz (c x y:Int):BN (OI c x y):=Ee _
end Go.Proofs.YtbjmaoedheiigaaGreat
