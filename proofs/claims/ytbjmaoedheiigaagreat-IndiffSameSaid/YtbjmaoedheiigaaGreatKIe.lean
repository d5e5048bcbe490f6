/-
 Texts,merged,without what is not reached.
-/
import Derived.Test.YtbjmaoedheiigaaGreatKId
set_option linter.unusedSimpArgs false
set_option linter.unusedVariables false
namespace Go.Proofs.YtbjmaoedheiigaaGreat
open Go Go.G Go.Proofs Go.PL
theorem SS {f t:Nat} {kd up:Int} (hf:f≤200000) (ht:t≤200000) (hk:kd=0∨kd=1) (u0:0≤up) (u1:up<4294967296):BN (Sy f t kd up)∧G.Spec Tryz.prog 171 [iv f,iv t,uv kd,uv up] (uv (Sy f t kd up)):=by
 have key:∀ z:Int,0≤z→z<1073741824→bn z kd up=4*z+kd+up*4294967296:=fun z z0 z1=>by
  unfold bn
  rw[Af (n:=4*z) (by omega) (by omega),AE (n:=4*z) (by omega) (by omega),AE (n:=4*z+kd) (by omega) (by omega),AE (n:=up*4294967296) (by omega) (by omega),AE (by omega) (by omega)]
 have e1:IntKind.i64.wrap (IntKind.i64.wrap ((t:Int)-f)-1)=(t:Int)-f-1:=by rw[Af (n:=(t:Int)-f) (by omega) (by omega),Af (by omega) (by omega)]
 by_cases hc:(t:Int)-f-1<0
 ·have e2:IntKind.i64.wrap ((t:Int)-f-1+1073741824)=(t:Int)-f-1+1073741824:=Af (by omega) (by omega)
  have e3:=key ((t:Int)-f-1+1073741824) (by omega) (by omega)
  have e4:Sy f t kd up=bn ((t:Int)-f-1+1073741824) kd up:=by rw[e3,Sy,if_pos hc]
  rw[e4]
  refine⟨Ee _,Al KN (by simp) fun w0 I0=>?_⟩
  unfold GS
  simp[e1,hc,e2]
  exact i6 _ kd up
 ·have e3:=key ((t:Int)-f-1) (by omega) (by omega)
  have e4:Sy f t kd up=bn ((t:Int)-f-1) kd up:=by rw[e3,Sy,if_neg hc]
  rw[e4]
  refine⟨Ee _,Al KN (by simp) fun w0 I0=>?_⟩
  unfold GS
  simp[e1,hc]
  exact i6 _ kd up
theorem YB {c:Int} {x y:Nat} (c0:0≤c) (c1:c<10) (hx:x≤200000) (hy:y≤100000):OI c x y=c+8*(x:Int)+4294967296*(y:Int):=by
 unfold OI
 rw[AE (n:=(x:Int)) (by omega) (by omega),AE (n:=(y:Int)) (by omega) (by omega),AE (n:=8*(x:Int)) (by omega) (by omega),AE (n:=c+8*(x:Int)) (by omega) (by omega),AE (n:=4294967296*(y:Int)) (by omega) (by omega),AE (by omega) (by omega)]
theorem MY {S:Ar} (h:S.Ok) (k:Nat):wl S k≤131072:=by
 by_cases hk:k<S.l.length
 ·rw[Vi hk]
  have:=h.seg _ (BI hk)
  have:=h.used1
  have:=h.most1
  omega
 ·simp[wl,List.getElem?_eq_none (Nat.le_of_not_lt hk)]
theorem Jv (u:Nat) {S:Ar} (h:S.Ok) (hw:Wd S) (ok:Bool) (s a g t kd up:Int) (hk:kd=0∨kd=1) (u0:0≤up) (u1:ok=true→up<4294967296) (hp:ok=true→∃ k b:Nat,s=k∧a=b∧b<wl S k) (hq:ok=true→∃ k b:Nat,g=k∧t=b∧b≤wl S k∧k<S.l.length) :
  ∃ S' ok',Gr S S'∧(ok'=true→ok=true)∧Hw Tryz.prog 105 (fun r _=>[.pob [r] u 0,iv s,iv a,iv g,iv t,uv kd,uv up]) (Qp u S ok) (fun _ _=>.tup []) (Qp u S' ok') ∧
  (ok'=true→∀ k b g' t':Nat,s=k→a=b→g=g'→t=t'→Kp31 (Yn k b) S S'∧∀ L,Ag (Yn k b) S S' L→To L k b g' t' kd up):=by
 cases ok with
 |false=>
  refine⟨S,false,Gr.refl h hw,id,BE Bm (by simp) Lv (BF A0) fun w0 I0 M0 m0=>?_,fun e=>by cases e⟩
  unfold A7
  simp
  exact Dl rfl rfl (fun p=>by simp) (fun p=>by simp)
 |true=>
  obtain⟨k,b,rfl,rfl,hb⟩:=hp rfl
  obtain⟨gk,tb,rfl,rfl,htb,hgk⟩:=hq rfl
  have u1:=u1 rfl
  have hwl:=MY h k
  have hwl2:=MY h gk
  have hln:=h.len
  by_cases h0:(decide (kd=0)&&decide (up=0))=true
  ·have g1:=LM h hw (w:=4294967292) ⟨by omega,by omega⟩ hb
   refine⟨_,true,g1.gr,id,BE Bm (by simp) Lv (BF A0) fun w0 I0 M0 m0=>?_,fun _ k' b' g' t' e1 e2 e3 e4=>?_⟩
   ·unfold A7
    simp[h0]
    refine Bj 0 1 (by simp) (Je u S k b 4294967292 (by omega)) (fun p=>by simp) (fun p=>by simp) (by simp) (by simp) ?_
    simp
    exact Dl rfl rfl (fun p=>by simp) (fun p=>by simp)
   ·have e1:k'=k:=by omega
    have e2:b'=b:=by omega
    subst e1 e2
    refine⟨g1,fun L hL=>⟨fun _=>hL.at (by rw[GQ hb,if_pos ⟨rfl,rfl⟩]) (.inr ⟨rfl,rfl⟩),fun hn=>?_⟩⟩
    simp at h0
    exact absurd h0 hn
  have hz:¬ (kd=0∧up=0):=fun e=>h0 (by simp[e.1,e.2])
  have h0:=Bool.eq_false_iff.2 h0
  by_cases hs:(gk:Int)=(k:Int)
  ·have hs:gk=k:=by omega
   subst hs
   obtain⟨hx,hN⟩:=SS (f:=b) (t:=tb) (by omega) (by omega) hk u0 u1
   have g1:=LM h hw hx hb
   refine⟨_,true,g1.gr,id,BE Bm (by simp) Lv (BF A0) fun w0 I0 M0 m0=>?_,fun _ k' b' g' t' e1 e2 e3 e4=>?_⟩
   ·unfold A7
    simp[h0]
    refine Ae hN (by simp) ?_
    simp
    refine Bj 0 1 (by simp) (Je u S gk b (Sy b tb kd up) (by omega)) (fun p=>by simp) (fun p=>by simp) (by simp) (by simp) ?_
    simp
    exact Dl rfl rfl (fun p=>by simp) (fun p=>by simp)
   ·have e1:k'=gk:=by omega
    have e2:b'=b:=by omega
    have e3:g'=gk:=by omega
    have e4:t'=tb:=by omega
    subst e1 e2 e3 e4
    exact⟨g1,fun L hL=>tt (hL.at (by rw[GQ hb,if_pos ⟨rfl,rfl⟩]) (.inr ⟨rfl,rfl⟩)) (by omega) (by omega) hk u0 u1 hz⟩
  have hs':¬ (k:Int)=gk:=fun e=>hs e.symm
  by_cases hi:TH S gk 1=true
  ·obtain⟨k2,e0,e1,nw⟩:=xM (n:=1) hi
   have e0:k2=gk:=by omega
   subst e0
   have gi:=xi h hw k2 1
   have nw:Nw S (Kd S k2 1) k2 (wl S k2) 1:=nw
   have ki:=nw.kp gi
   have hfv:=YB (c:=2) (x:=wl S k2) (y:=k2) (by omega) (by omega) (by omega) (by omega)
   obtain⟨hx,hN⟩:=SS (f:=wl S k2) (t:=tb) (by omega) (by omega) hk u0 u1
   have hu:=xy S k2 1
   have hr1:b<wl (Kd S k2 1) k:=by have:=gi.wl k;omega
   have ka:=LM gi.ok gi.wd (Yz 2 (wl S k2) k2) hr1
   have hr2:wl S k2<wl (QP (Kd S k2 1) k b (OI 2 (wl S k2) k2)) k2:=by rw[RF,nw.wl];simp
   have kb:=LM ka.gr.ok ka.gr.wd hx hr2
   have hkp:Kp31 (Yn k b) S (QP (QP (Kd S k2 1) k b (OI 2 (wl S k2) k2)) k2 (wl S k2) (Sy (wl S k2) tb kd up)):=by
    refine(ki.trans ka (R:=Yn k b) (fun _ _ _ e=>e.elim) (fun _ _ _ e=>e)).trans kb (fun _ _ _ e=>e) fun x y hxy e=>?_
    obtain⟨rfl,rfl⟩:=e
    omega
   refine⟨_,true,(gi.trans ka.gr).trans kb.gr,id,BE Bm (by simp) Lv (BF A0) fun w0 I0 M0 m0=>?_,fun _ k' b' g' t' e3 e4 e5 e6=>?_⟩
   ·unfold A7
    simp[h0,hs']
    refine XL (r:=1) (VS S h k2 1) (fun p=>by simp) rfl (fun _ _=>rfl) (fun _=>⟨trivial,trivial,trivial⟩) (fun _ _=>rfl) (fun _=>trivial) (by simp) ?_
    rw[if_pos hi,e1]
    simp
    refine Bj 0 1 (by simp) (Je u (Kd S k2 1) k b (OI 2 (wl S k2) k2) hr1) (fun p=>by simp[hu]) (fun p=>by simp) (by simp[OI]) (by simp) ?_
    simp
    refine Ae hN (by simp) ?_
    simp
    refine Bj 0 1 (by simp) (Je u _ k2 (wl S k2) (Sy (wl S k2) tb kd up) hr2) (fun p=>by simp) (fun p=>by simp) (by simp) (by simp) ?_
    simp
    exact Dl rfl rfl (fun p=>by simp) (fun p=>by simp)
   ·have e3:k'=k:=by omega
    have e4:b'=b:=by omega
    have e5:g'=k2:=by omega
    have e6:t'=tb:=by omega
    subst e3 e4 e5 e6
    refine⟨hkp,fun L hL=>xj (p:=wl S g') (g:=g') ?_ ?_ (by omega) (by omega) (by omega) hk u0 u1 hz⟩
    ·refine hL.at ?_ (.inr ⟨rfl,rfl⟩)
     rw[GQ hr2,if_neg (by omega),GQ hr1,if_pos ⟨rfl,rfl⟩,hfv]
    ·refine hL.at ?_ (.inl (Cc _))
     rw[GQ hr2,if_pos ⟨rfl,rfl⟩]
  ·have hi:=Bool.eq_false_iff.2 hi
   have hin:Kd S gk 1=S:=by simp[Kd,hi]
   by_cases hgv:C8 S 2=true
   ·obtain⟨k3,b3,e1,e2,nw⟩:=aZ (n:=2) hgv
    have gi:=Vf h hw 2
    have nw:Nw S (CZ S 2) k3 b3 2:=nw
    have ki:=nw.kp gi
    have hb3:=nw.b
    have hwl3:=MY h k3
    have hk3:=nw.k
    have hl3:=gi.ok.len
    have e1:((I9 S 2).l.length:Int)-1=k3:=e1
    have e2:(szAt (I9 S 2).w (((I9 S 2).l.length:Int)-1):Int)=b3:=e2
    have hf1:=YB (c:=6) (x:=b3) (y:=k3) (by omega) (by omega) (by omega) (by omega)
    have hf2:=YB (c:=2) (x:=tb) (y:=gk) (by omega) (by omega) (by omega) (by omega)
    have hf3:IntKind.u64.wrap (kd+IntKind.u64.wrap (up*4294967296))=kd+up*4294967296:=by rw[AE (n:=up*4294967296) (by omega) (by omega),AE (by omega) (by omega)]
    have hr1:b<wl (CZ S 2) k:=by have:=gi.wl k;omega
    have ka:=LM gi.ok gi.wd (Yz 6 b3 k3) hr1
    have hr2:b3<wl (QP (CZ S 2) k b (OI 6 b3 k3)) k3:=by rw[RF,nw.wl];simp;omega
    have kb:=LM ka.gr.ok ka.gr.wd (Yz 2 tb gk) hr2
    have hr3:b3+1<wl (QP (QP (CZ S 2) k b (OI 6 b3 k3)) k3 b3 (OI 2 tb gk)) k3:=by rw[RF,RF,nw.wl];simp;omega
    have kc:=LM kb.gr.ok kb.gr.wd (Ee (kd+IntKind.u64.wrap (up*4294967296))) hr3
    have hkp:Kp31 (Yn k b) S (QP (QP (QP (CZ S 2) k b (OI 6 b3 k3)) k3 b3 (OI 2 tb gk)) k3 (b3+1) (IntKind.u64.wrap (kd+IntKind.u64.wrap (up*4294967296)))):=by
     refine((ki.trans ka (R:=Yn k b) (fun _ _ _ e=>e.elim) (fun _ _ _ e=>e)).trans kb (R:=Yn k b) (fun _ _ _ e=>e) fun x y hxy e=>?_).trans kc (fun _ _ _ e=>e) fun x y hxy e=>?_
     ·obtain⟨rfl,rfl⟩:=e
      omega
     ·obtain⟨rfl,rfl⟩:=e
      omega
    refine⟨_,true,((gi.trans ka.gr).trans kb.gr).trans kc.gr,id,BE Bm (by simp) Lv (BF A0) fun w0 I0 M0 m0=>?_,fun _ k' b' g' t' e3 e4 e5 e6=>?_⟩
    ·unfold A7
     simp[h0,hs']
     refine XL (r:=1) (VS S h gk 1) (fun p=>by simp) rfl (fun _ _=>rfl) (fun _=>⟨trivial,trivial,trivial⟩) (fun _ _=>rfl) (fun _=>trivial) (by simp) ?_
     rw[hi,hin]
     simp
     refine Bj 0 1 (by simp) (Pu u S h true 2) (fun p=>by simp) (fun p=>by simp) (by simp) (by simp) ?_
     rw[if_pos hgv,if_pos hgv,e2,e1,hgv]
     have ew:IntKind.i64.wrap ((b3:Int)+1)=((b3+1:Nat):Int):=(Af (n:=(b3:Int)+1) (by omega) (by omega)).trans (by omega)
     simp[ew]
     refine Bj 0 1 (by simp) (Je u (CZ S 2) k b (OI 6 b3 k3) hr1) (fun p=>by simp) (fun p=>by simp) (by simp[OI]) (by simp) ?_
     simp[ew]
     refine Bj 0 1 (by simp) (Je u _ k3 b3 (OI 2 tb gk) hr2) (fun p=>by simp) (fun p=>by simp) (by simp[OI]) (by simp) ?_
     simp[ew]
     refine Bj 0 1 (by simp) (Je u _ k3 (b3+1) (IntKind.u64.wrap (kd+IntKind.u64.wrap (up*4294967296))) hr3) (fun p=>by simp) (fun p=>by simp) (by simp[ew]) (by simp) ?_
     simp
     exact CQ rfl rfl (fun p=>by simp) (fun p=>by simp)
    ·have e3:k'=k:=by omega
     have e4:b'=b:=by omega
     have e5:g'=gk:=by omega
     have e6:t'=tb:=by omega
     subst e3 e4 e5 e6
     refine⟨hkp,fun L hL=>wK (x:=k3) (y:=b3) ?_ ?_ ?_ (by omega) (by omega) (by omega) (by omega) hk u0 u1 hz⟩
     ·refine hL.at ?_ (.inr ⟨rfl,rfl⟩)
      have n1:¬ (k'=k3∧b'=b3+1):=fun ⟨x,y⟩=>by subst x;omega
      have n2:¬ (k'=k3∧b'=b3):=fun ⟨x,y⟩=>by subst x;omega
      rw[GQ hr3,if_neg n1,GQ hr2,if_neg n2,GQ hr1,if_pos ⟨rfl,rfl⟩,hf1]
     ·refine hL.at ?_ (.inl (by omega))
      rw[GQ hr3,if_neg (by omega),GQ hr2,if_pos ⟨rfl,rfl⟩,hf2]
     ·refine hL.at ?_ (.inl (by omega))
      rw[GQ hr3,if_pos ⟨rfl,rfl⟩,hf3]
   ·have hgv:=Bool.eq_false_iff.2 hgv
    refine⟨_,false,Vf h hw 2,(fun e=>by cases e),BE Bm (by simp) Lv (BF A0) fun w0 I0 M0 m0=>?_,fun e=>by cases e⟩
    unfold A7
    simp[h0,hs']
    refine XL (r:=1) (VS S h gk 1) (fun p=>by simp) rfl (fun _ _=>rfl) (fun _=>⟨trivial,trivial,trivial⟩) (fun _ _=>rfl) (fun _=>trivial) (by simp) ?_
    rw[hi,hin]
    simp
    refine Bj 0 1 (by simp) (Pu u S h true 2) (fun p=>by simp) (fun p=>by simp) (by simp) (by simp) ?_
    simp[hgv]
    exact Dl rfl rfl (fun p=>by simp) (fun p=>by simp)
theorem qC {u:Nat} {W:List Int} {k b:Nat} (hW:∀ x,x ∈ W→BN x) (hn:W.length≤1000000000) (hb0:b≤1000000):∀ (j i:Nat) (S:Ar),S.Ok→Wd S→i+j=W.length→b+W.length≤wl S k →
  ∃ S',(Kp31 (rng k (b+i) j) S S'∧(∀ x,wl S' x=wl S x)∧S'.l.length=S.l.length∧∀ (q:Nat) (hq:q<W.length),i≤q→wv S' k (b+q)=some W[q])∧∀ {n0:Nat} {w0:World} {I0:Nat→Prop} {M0:Nm→Nat→Prop} {m0:Mu} {Q:Exit→Sta→Prop} {H:Hp},(∀ p,H (0::p)=(Qp u S true).B 0 1 p)→(∀ p,H (1::p)=Hf 1 S p) →
   (∀ s H',(∀ p,H' (0::p)=(Qp u S' true).B 0 1 p)→(∀ p,H' (1::p)=Hf 1 S' p)→Q (.exit 0) ⟨s,H'⟩) →
   LoopC (Ds Tryz.prog w0 I0 M0 n0 m0) Be Q ⟨lk [(0,.pob [0] u 0),(1,iv k),(2,iv b),(3,DP W),(8,iv i)],H⟩:=by
 intro j
 induction j with
 |zero=>
  intro i S h hw hi hb
  refine⟨S,⟨Kp31.refl h hw,fun _=>rfl,rfl,fun q hq hq2=>by omega⟩,fun {n0 w0 I0 M0 m0 Q H} g0 g1 q=>?_⟩
  have:i=W.length:=by omega
  subst this
  refine Ad Ak Be.eq_1 ?_
  simp
  exact q _ _ g0 g1
 |succ j ih=>
  intro i S h hw hi hb
  have hlt:i<W.length:=by omega
  have hx:BN W[i]:=hW _ (BI hlt)
  have hlb:b+i<wl S k:=by omega
  have g:=LM h hw hx hlb
  obtain⟨S',⟨g',gw,gl,gq⟩,hl⟩:=ih (i+1) (QP S k (b+i) W[i]) g.gr.ok g.gr.wd (by omega) (Nat.le_trans hb (g.gr.wl k))
  refine⟨S',⟨g.trans g' (fun x y _ e=>?_) (fun x y _ e=>?_),fun x=>by rw[gw,RF],by rw[gl,oq],fun q hq hq2=>?_⟩,fun {n0 w0 I0 M0 m0 Q H} g0 g1 q=>?_⟩
  ·obtain⟨e1,e2⟩:=e
   exact⟨e1,by omega,by omega⟩
  ·obtain⟨e1,e2,e3⟩:=e
   exact⟨e1,by omega,by omega⟩
  ·by_cases e:q=i
   ·subst e
    rw[g'.eq k (b+q) (by rw[RF];omega) (fun e=>by obtain⟨_,e,_⟩:=e;omega),GQ hlb,if_pos ⟨rfl,rfl⟩]
   ·exact gq q hq (by omega)
  refine Ad Ak Be.eq_1 ?_
  have hlt2:(i:Int)<W.length:=by omega
  have e1:IntKind.i64.wrap ((b:Int)+i)=((b+i:Nat):Int):=(Af (n:=(b:Int)+i) (by omega) (by omega)).trans (by omega)
  have e2:IntKind.i64.wrap ((i:Int)+1)=((i+1:Nat):Int):=(Af (n:=(i:Int)+1) (by omega) (by omega)).trans (by omega)
  simp[hlt,hlt2,e1]
  refine Bj 0 1 (by simp) (Je u S k (b+i) W[i] (by omega)) g0 g1 (by simp[e1]) (by simp) ?_
  simp[e2]
  refine hl (fun p=>by simp) (fun p=>by simp) q
theorem P4 (u:Nat) {S:Ar} (h:S.Ok) (hw:Wd S) {W:List Int} (hW:∀ x,x ∈ W→BN x) (hn:W.length≤1000000000) (ok:Bool) (s a:Int) (hp:ok=true→∃ k b:Nat,s=k∧a=b∧b+W.length≤wl S k∧b≤1000000) :
  ∃ S',Gr S S'∧Hw Tryz.prog 106 (fun r _=>[.pob [r] u 0,iv s,iv a,DP W]) (Qp u S ok) (fun _ _=>.tup []) (Qp u S' ok) ∧
  (ok=true→∀ k b:Nat,s=k→a=b→Kp31 (rng k b W.length) S S'∧(∀ x,wl S' x=wl S x)∧S'.l.length=S.l.length∧∀ (q:Nat) (hq:q<W.length),wv S' k (b+q)=some W[q]):=by
 have fa:Qv (fun r _=>[.pob [r] u 0,iv s,iv a,DP W]):=Aq (AU AG) (Aq (AU Ax) (Aq (AU Ax) (Aq (AU Dw) A0)))
 cases ok with
 |false=>
  refine⟨S,Gr.refl h hw,BE F0 (by simp) fa (BF A0) fun w0 I0 M0 m0=>?_,fun e=>by cases e⟩
  unfold DJ
  simp
  refine fh (S:=S) hn W.length 0 (by omega) (fun p=>by simp) (fun p=>by simp) fun s H' g0 g1=>?_
  simp
  exact CQ rfl rfl g0 g1
 |true=>
  obtain⟨k,b,rfl,rfl,hb,hb0⟩:=hp rfl
  obtain⟨S',⟨g,gw,gl,gq⟩,hl⟩:=qC (u:=u) hW hn hb0 W.length 0 S h hw (by omega) hb
  refine⟨S',g.gr,BE F0 (by simp) fa (BF A0) fun w0 I0 M0 m0=>?_,fun _ k' b' e1 e2=>?_⟩
  ·unfold DJ
   simp
   refine hl (fun p=>by simp) (fun p=>by simp) fun s H' g0 g1=>?_
   simp
   exact CQ rfl rfl g0 g1
  ·have e1:k'=k:=by omega
   have e2:b'=b:=by omega
   subst e1 e2
   exact⟨g,gw,gl,fun q hq=>gq q hq (by omega)⟩
theorem Vu {S:Ar} (h:S.Ok) (hw:Wd S) (u:Nat) (ok:Bool) (n:Nat):∃ (s a:Int) (S':Ar) (ok':Bool),Gr S S'∧(ok'=true→ok=true)∧(ok'=true→∃ k b:Nat,s=k∧a=b∧Nw S S' k b n) ∧
  Hw Tryz.prog 55 (fun r _=>[.pob [r] u 0,iv (n:Int)]) (Qp u S ok) (fun _ _=>.tup [iv s,iv a]) (Qp u S' ok'):=by
 refine⟨_,_,_,_,Vf h hw n,?_,?_,Pu u S h ok n⟩
 ·intro e
  simp at e
  exact e.1
 ·intro e
  simp at e
  obtain⟨k,b,e1,e2,e3⟩:=aZ e.2
  exact⟨k,b,by rw[if_pos e.2,e1],by rw[if_pos e.2,e2],e3⟩
theorem dS:∀ (t:T) (d:Nat),DR d t=true→DI t→t.kind ≠ 10→K7 (Ai t):=by
 refine T.ind fun k w ks ih d hr hw h10=>?_
 have hst:=HF hr
 have hwk:=(wfT_iff.1 hw).ks
 simp at h10
 rw[Dm] at hr
 rw[BG]
 by_cases h0:k=0
 ·rw[if_pos h0];exact .null _
 rw[if_neg h0] at hr ⊢
 rw[if_neg h10] at hr
 have htb:EW k d w.length ks.length=false:=by
  cases e:EW k d w.length ks.length with
  |false=>rfl
  |true=>rw[e] at hr;simp at hr
 simp[EW] at htb
 by_cases h1:k=1
 ·rw[if_pos h1]
  have hb2:=JE w
  have hb3:=Iu (ks.map Ai)
  rw[List.length_map] at hb3
  refine .str _ _ (by omega) (by omega) fun t ht=>?_
  rw[N6] at ht
  obtain⟨u,hu,rfl⟩:=List.mem_map.1 (Qo ht)
  obtain⟨g1,g2⟩:=hst u hu
  refine ih u hu _ g1 (hwk u hu) fun e=>?_
  subst h1
  simp[D8,E8,e] at g2
 rw[if_neg h1]
 by_cases h8:k=8
 ·subst h8
  refine .ptrs _ _ (by simp;omega) fun t ht=>?_
  obtain⟨u,hu,rfl⟩:=List.mem_map.1 ht
  obtain⟨g1,g2⟩:=hst u hu
  refine ih u hu _ g1 (hwk u hu) fun e=>?_
  simp[D8,E8,e] at g2
 by_cases h9:k=9
 ·subst h9
  have kk:∀ u,u ∈ ks→u.kind=1∧K7 (Ai u):=fun u hu=>by
   obtain⟨g1,g2⟩:=hst u hu
   have hk1:u.kind=1:=by
    simp[D8,E8] at g2
    exact g2.2
   exact⟨hk1,ih u hu _ g1 (hwk u hu) (by omega)⟩
  have two:∀ u,u ∈ ks→(Ai u).words.length<65536∧(Ai u).kids.length<65536∧∀ c,c ∈ (Ai u).kids→K7 c:=fun u hu=>by
   obtain⟨e1,hL⟩:=kk u hu
   have hkn2:(Ai u).kind=1:=by rw[CM];exact e1
   generalize Ai u=x at hL hkn2
   cases hL with
   |str w ks b1 b2 h=>exact⟨b1,b2,h⟩
   |_=>simp at hkn2<;>omega
  refine .comp _ _ (by simp;omega) (fun t ht=>?_) fun t ht c hc=>?_
  ·obtain⟨u,hu,rfl⟩:=List.mem_map.1 ht
   exact⟨(two u hu).1,(two u hu).2.1⟩
  ·obtain⟨u,hu,rfl⟩:=List.mem_map.1 ht
   exact(two u hu).2.2 c hc
 refine .data _ _ _ (by omega) (by omega) (by simp;omega) fun c hc=>?_
 obtain⟨u,hu,rfl⟩:=List.mem_map.1 hc
 obtain⟨g1,g2⟩:=hst u hu
 have hd:E8 k=true:=by simp[E8];omega
 have hwu:=hwk u hu
 obtain⟨k2,w2,l2⟩:=u
 simp[D8,hd] at g2
 obtain⟨⟨e1,e2⟩,e3⟩:=g2
 have e1:k2=10:=of_decide_eq_true e1
 subst e1
 rw[Dm,if_neg (by decide),if_pos rfl] at g1
 simp at g1
 obtain⟨x,hx⟩:=List.length_eq_one_iff.1 g1.1
 subst hx
 have hr:=(wfT_iff.1 hwu).w x (by simp)
 refine⟨x,by rw[BG];simp,hr.1,hr.2,by simpa using e3⟩
variable {n0:Nat} {w0:World} {I0:Nat→Prop} {Q:Exit→Sta→Prop}
theorem qm (t:T):ER (fun _=>tX t):=HE rfl fun y hy=>by
 simp at hy
 rcases hy with rfl | rfl | rfl<;>rfl
theorem LS {u:Nat} {s a:Int} {t:T}:Qv (fun r _=>[.pob [r] u 0,iv s,iv a,tX t]):=Aq (AU AG) (Aq (AU Ax) (Aq (AU Ax) (Aq (AU (qm t)) A0)))
theorem gF {w:Nat} (hw:w=1∨w=8∨w=16∨w=32∨w=64):∀ (ns:List Int) (i:Nat) (out:List Int),PutI w i out→(∀ x,x ∈ ns→0≤x∧x<2 ^ w)→(∀ j,j<i+ns.length→j*w / 64<out.length)→∀ x,x ∈ KT w ns i out→BN x
 |[],i,out,h,_,_=>fun x hx=>by
  rw[KT] at hx
  obtain⟨j,hj,rfl⟩:=List.getElem_of_mem hx
  exact h.rng j hj
 |n::ns,i,out,h,hn,hl=>by
  have hat:=hl i (by simp)
  have g:=Sh h hw (hn n (by simp)).1 (hn n (by simp)).2 hat
  rw[KT,if_neg (by omega)]
  exact gF hw ns (i+1) _ g.1 (fun x hx=>hn x (by simp[hx])) (fun j hj=>by rw[List.length_set];exact hl j (by simp;omega))
theorem gJ:∀ (ns:List Int) (i:Nat) (o:List Int),KT 0 ns i o=o
 |[],i,o=>by rw[KT]
 |n::ns,i,o=>by rw[KT,if_pos rfl,gJ ns]
theorem tK {c:Int} (c0:0≤c) (c6:c<6) {ns:List Int} (hn:ns.length≤536870912) (hfit:∀ x,x ∈ ns→BN x∧I4 c x=true):(∀ x,x ∈ MS c ns→BN x)∧(MS c ns).length≤600000000:=by
 obtain⟨w,w1,w2,w3⟩:=Nu c0 c6
 have hroom:Kp c ns.length=(((ns.length*w+63) / 64:Nat):Int):=by
  unfold Kp
  rw[if_neg (by omega),w2]
  have e:(ns.length:Int)*w=((ns.length*w:Nat):Int):=by rw[Int.natCast_mul]
  rw[e]
  omega
 have hm:(Kp c ns.length).toNat=(ns.length*w+63) / 64:=by rw[hroom];omega
 have hb:(ns.length*w+63) / 64≤600000000:=by
  have:ns.length*w≤536870912*64:=Nat.mul_le_mul hn (by omega)
  omega
 refine⟨fun x hx=>?_,by rw[Tn,hm];exact hb⟩
 unfold MS at hx
 rw[w1,hm] at hx
 simp only[Int.toNat_natCast] at hx
 by_cases h0:w=0
 ·subst h0
  rw[gJ] at hx
  have:=List.eq_of_mem_replicate hx
  subst this
  exact⟨by omega,by omega⟩
 ·refine gF (by omega) ns 0 _ (PutI.start w _) (fun y hy=>?_) (fun j hj=>?_) x hx
  ·obtain⟨f1,f2⟩:=hfit y hy
   exact⟨f1.1,Yw w1 f1.1 f2⟩
  ·rw[List.length_replicate]
   exact dQ (by omega) (by omega)
section
variable {n0:Nat} {w0:World} {I0:Nat→Prop} {M0:Nm→Nat→Prop} {m0:Mu} {Q:Exit→Sta→Prop}
theorem tp {t:T} {ub:Nat} {s a:Int} {F G:Nm→VOb} (hl:t.kids.length≤1000000000) (hw:∀ c,c ∈ t.kids→c.words=[hd c])
  (hq:∀ (q:Bool) (u:Nat) (H:Hp),(∀ p,H (0::p)=F p)→(∀ p,H (1::p)=G p)→H [2]=⟨1,.cells (tL t)⟩→H [3]=⟨u,.arr 1 ((t.kids.map hd).map uv)⟩ →
   Q (.exit 1) ⟨lk [(0,.pob [0] ub 0),(1,iv s),(2,iv a),(7,.pob [2] 1 0),(8,nv t.kids.length),(18,.osl [3] u 1 0 t.kids.length),(19,nv t.kids.length),(31,bv q)],H⟩) :
  ∀ (j i u:Nat) (H:Hp),i+j=t.kids.length→(∀ p,H (0::p)=F p)→(∀ p,H (1::p)=G p)→H [2]=⟨1,.cells (tL t)⟩→H [3]=⟨u,.arr 1 (((t.kids.take i).map hd).map uv)⟩ →
  LoopC (Ds Tryz.prog w0 I0 M0 n0 m0) Cr Q ⟨lk [(0,.pob [0] ub 0),(1,iv s),(2,iv a),(7,.pob [2] 1 0),(8,nv t.kids.length),(18,.osl [3] u 1 0 i),(19,nv i)],H⟩:=by
 intro j
 induction j with
 |zero=>
  intro i u H hi hF hG h0 h1
  have:i=t.kids.length:=by omega
  subst this
  rw[Bb (Cc _)] at h1
  refine Ad Ak Cr.eq_1 ?_
  simp
  exact hq _ u H hF hG h0 h1
 |succ j ih=>
  intro i u H hi hF hG h0 h1
  have hlt:i<t.kids.length:=by omega
  have hx:=hw _ (BI hlt)
  have ei:IntKind.i64.wrap ((i:Int)+1)=((i+1:Nat):Int):=Af (by omega) (by omega)
  have htk:((t.kids.take (i+1)).map hd).map uv=((t.kids.take i).map hd).map uv++[uv (hd t.kids[i])]:=by rw[Hj hlt,List.map_append,List.map_append];rfl
  refine Ad Ak Cr.eq_1 ?_
  simp[h0,hlt,hx,h1,ei]
  refine⟨⟨by omega,by omega⟩,Dn ?_⟩
  simp[ei]
  refine ih (i+1) (u+1) _ (by omega) (fun p=>?_) (fun p=>?_) ?_ ?_
  ·rw[AM (by simp)];exact hF p
  ·rw[AM (by simp)];exact hG p
  ·rw[AM (by simp)];exact h0
  rw[htk]
  simp[Aa]
  rw[List.take_take,Nat.min_self]
end
theorem qE {H:Hp} {cs cs':List A} (hl:cs.length=cs'.length) (h:∀ (k:Nat) (a a':A),cs[k]? = some a→cs'[k]? = some a'→RU H a a'):RU H (.tup cs) (.tup cs'):=by
 intro c w I μ v hs hr
 cases hr with
 |tup _ _ vs h1 h2=>
  refine .tup _ _ _ (by omega) fun k y hk=>?_
  have hlt:k<cs.length:=by have:=(List.getElem?_eq_some_iff.1 hk).1;omega
  exact h k _ y (List.getElem?_eq_getElem hlt) hk c w I μ _ hs (h2 k _ (List.getElem?_eq_getElem hlt))
theorem jK {H:Hp} {a b a' b':A} (h1:RU H a a') (h2:RU H b b'):RU H (.tup [a,b]) (.tup [a',b']):=qE rfl fun k x x' hx hx'=>by
 match k with
 |0=>simp at hx hx';subst hx hx';exact h1
 |1=>simp at hx hx';subst hx hx';exact h2
 |k+2=>simp at hx
theorem dL {c:Int} (c0:0≤c) (c6:c<6) {ns:List Int} (hn:ns.length≤1000000000) (hfit:∀ x,x ∈ ns→BN x∧I4 c x=true):SpecB Tryz.prog 69 [iv c,DP ns] (.tup [DP (MS c ns),bv true]):=by
 obtain⟨w,w1,w2,w3⟩:=Nu c0 c6
 have hroom:Kp c ns.length=(((ns.length*w+63) / 64:Nat):Int):=by
  unfold Kp
  rw[if_neg (by omega),w2]
  have e:(ns.length:Int)*w=((ns.length*w:Nat):Int):=by rw[Int.natCast_mul]
  rw[e]
  omega
 have hm:(Kp c ns.length).toNat=(ns.length*w+63) / 64:=by rw[hroom];omega
 have hb:(ns.length*w+63) / 64≤1000000001:=by
  have:ns.length*w≤1000000000*64:=Nat.mul_le_mul hn (by omega)
  omega
 refine Nb Su (by simp) fun w0 I0=>?_
 unfold LC
 simp
 refine Ae (Il c) rfl ?_
 rw[w1]
 have hnn:¬ (w:Int)<0:=by omega
 simp[hnn]
 refine Ae (cR c ns.length) (by simp) ?_
 rw[hroom]
 generalize hM:(ns.length*w+63) / 64=m at *
 have hm8:(m:Int)*8≤140737488355328:=by omega
 have hz:MS c ns=KT w ns 0 (List.replicate m 0):=by
  unfold MS
  rw[w1,hm]
  simp
 rw[hz]
 simp[hm8]
 refine⟨by omega,?_⟩
 refine rI hn w3 w1 hfit (m:=m) (fun _=>hM.symm) (fun q H' out ho hH=>?_) ns.length 0 (List.replicate m 0) _ (by omega) (by simp) (fun _=>PutI.start w m) (by simp) ?_
 rotate_left
 ·simp
 have hlen:out.length=m:=by rw[ho];simp[Nx]
 rw[← ho]
 simp
 have:=Qy (H:=H') (o:=[0]) (u:=1) (off:=0) (len:=m) (sz:=1) (xs:=out.map uv) (by simp[hH]) (by simp[hlen]) (by rw[List.drop_zero,List.all_eq_true];intro x hx;obtain⟨y,_,rfl⟩:=List.mem_map.1 (Qo hx);rfl)
 rw[List.drop_zero,Bb (by simp[hlen])] at this
 exact jK this (kh rfl)
def Li (L:List (List Int)) (k b:Nat) (t:T):Prop:=∃ r u,LK L k b=(r,0)∧Az L r u∧Ai u=Ai t
def BM (t:T):Prop:=∀ (u:Nat) (S:Ar) (ok:Bool) (s a:Int),S.Ok→Wd S→(ok=true→∃ k b:Nat,s=k∧a=b∧wv S k b=some 0) →
 ∃ S' ok',Gr S S'∧(ok'=true→ok=true)∧Hw Tryz.prog 56 (fun r _=>[.pob [r] u 0,iv s,iv a,tX t]) (Qp u S ok) (fun _ _=>.tup []) (Qp u S' ok') ∧
 (ok'=true→∀ k b:Nat,s=k→a=b→Kp31 (Yn k b) S S'∧∀ L,Ag (Yn k b) S S' L→Li L k b t)
theorem jz {u:Nat} {t:T} (hn:t.kids.length≤1000000000) (ih:∀ c,c ∈ t.kids→BM c) {k b:Nat}:∀ (j i:Nat) (S:Ar) (ok:Bool),S.Ok→Wd S→i+j=t.kids.length→b+t.kids.length≤wl S k→(ok=true→∀ q,i≤q→q<t.kids.length→wv S k (b+q)=some 0) →
  ∃ S' ok',(Gr S S'∧(ok'=true→ok=true)∧(ok'=true→Kp31 (rng k (b+i) j) S S'∧∀ L,Ag (rng k (b+i) j) S S' L→∀ (q:Nat) (hq:q<t.kids.length),i≤q→Li L k (b+q) t.kids[q]))∧∀ {n0:Nat} {w0:World} {I0:Nat→Prop} {M0:Nm→Nat→Prop} {m0:Mu} {Q:Exit→Sta→Prop} {H:Hp},(∀ p,H (0::p)=(Qp u S ok).B 0 1 p)→(∀ p,H (1::p)=Hf 1 S p)→H [2]=⟨1,.cells (tL t)⟩ →
   (∀ s H',(∀ p,H' (0::p)=(Qp u S' ok').B 0 1 p)→(∀ p,H' (1::p)=Hf 1 S' p)→Q (.exit 0) ⟨s,H'⟩) →
   LoopC (Ds Tryz.prog w0 I0 M0 n0 m0) Bk Q ⟨lk [(0,.pob [0] u 0),(1,iv k),(2,iv b),(7,.pob [2] 1 0),(8,iv i)],H⟩:=by
 intro j
 induction j with
 |zero=>
  intro i S ok h hw hi hb hz
  refine⟨S,ok,⟨Gr.refl h hw,id,fun _=>⟨Kp31.refl h hw,fun L hL q hq hiq=>by omega⟩⟩,fun {n0 w0 I0 M0 m0 Q H} g0 g1 g2 q=>?_⟩
  have:i=t.kids.length:=by omega
  subst this
  refine Ad Ak Bk.eq_1 ?_
  simp[g2,g0]
  exact q _ _ g0 g1
 |succ j ihj=>
  intro i S ok h hw hi hb hz
  have hlt:i<t.kids.length:=by omega
  have hlt2:(i:Int)<t.kids.length:=by omega
  cases ok with
  |false=>
   refine⟨S,false,⟨Gr.refl h hw,id,fun e=>by cases e⟩,fun {n0 w0 I0 M0 m0 Q H} g0 g1 g2 q=>?_⟩
   refine Ad Ak Bk.eq_1 ?_
   have:=g0 []
   simp at this
   simp[g2,g0,this,hlt,hlt2]
   exact q _ _ g0 g1
  |true=>
   have hwl:=MY h k
   obtain⟨S1,ok1,g,k1,hL,hR⟩:=ih _ (BI hlt) u S true k ((b+i:Nat):Int) h hw (fun _=>⟨k,b+i,rfl,rfl,hz rfl i (Cc _) hlt⟩)
   obtain⟨S',ok',⟨g',k',hR'⟩,hl⟩:=ihj (i+1) S1 ok1 g.ok g.wd (by omega) (Nat.le_trans hb (g.wl k)) fun e q hq1 hq2=>by
    rw[(hR e k (b+i) rfl rfl).1.eq k (b+q) (by omega) fun e=>by obtain⟨_,e⟩:=e;omega]
    exact hz rfl q (by omega) hq2
   refine⟨S',ok',⟨g.trans g',fun _=>rfl,fun e=>?_⟩,fun {n0 w0 I0 M0 m0 Q H} g0 g1 g2 q=>?_⟩
   ·obtain⟨p1,p2⟩:=hR (k' e) k (b+i) rfl rfl
    obtain⟨p3,p4⟩:=hR' e
    refine⟨p1.trans p3 (fun x y _ e=>?_) (fun x y _ e=>?_),fun L hA q hq hiq=>?_⟩
    ·obtain⟨e1,e2⟩:=e
     exact⟨e1,by omega,by omega⟩
    ·obtain⟨e1,e2,e3⟩:=e
     exact⟨e1,by omega,by omega⟩
    ·by_cases hqi:q=i
     ·subst hqi
      refine p2 L (hA.fst p3 (fun x y _ e=>?_) (fun x y hy e=>?_))
      ·obtain⟨e1,e2⟩:=e
       exact .inr ⟨e1,by omega,by omega⟩
      ·obtain⟨rfl,e2,e3⟩:=e
       rintro(e | ⟨_,e⟩)<;>omega
     ·refine p4 L (hA.snd g fun x y _ e=>?_) q hq (by omega)
      obtain⟨e1,e2,e3⟩:=e
      exact .inr ⟨e1,by omega,by omega⟩
   refine Ad Ak Bk.eq_1 ?_
   have h0:=g0 []
   simp at h0
   have e1:IntKind.i64.wrap ((b:Int)+i)=((b+i:Nat):Int):=(Af (n:=(b:Int)+i) (by omega) (by omega)).trans (by omega)
   have e2:IntKind.i64.wrap ((i:Int)+1)=((i+1:Nat):Int):=(Af (n:=(i:Int)+1) (by omega) (by omega)).trans (by omega)
   simp[g2,h0,hlt,hlt2,e1]
   refine Bj 0 1 (by simp) hL g0 g1 (by simp[e1]) (by simp) ?_
   simp[e2]
   exact hl (fun p=>by simp) (fun p=>by simp) (by simp[g2]) q
theorem NC {t:T} (hn:t.kids.length≤1000000000) (ih:∀ c,c ∈ t.kids→BM c) (u:Nat) (S:Ar) (ok:Bool) (s a:Int) (h:S.Ok) (hw:Wd S) (hp:ok=true→∃ k b:Nat,s=k∧a=b∧b+t.kids.length≤wl S k∧∀ q,q<t.kids.length→wv S k (b+q)=some 0) :
  ∃ S' ok',Gr S S'∧(ok'=true→ok=true)∧Hw Tryz.prog 107 (fun r _=>[.pob [r] u 0,iv s,iv a,tX t]) (Qp u S ok) (fun _ _=>.tup []) (Qp u S' ok') ∧
  (ok'=true→∀ k b:Nat,s=k→a=b→Kp31 (rng k b t.kids.length) S S'∧∀ L,Ag (rng k b t.kids.length) S S' L→∀ (q:Nat) (hq:q<t.kids.length),Li L k (b+q) t.kids[q]):=by
 cases ok with
 |false=>
  refine⟨S,false,Gr.refl h hw,id,BE FI (by simp) LS (BF A0) fun w0 I0 M0 m0=>?_,fun e=>by cases e⟩
  unfold Dj
  simp
  refine Ad Ak Bk.eq_1 ?_
  by_cases hz:0<t.kids.length
  ·have hz2:(0:Int)<t.kids.length:=by omega
   simp[hz,hz2]
   exact CQ rfl rfl (fun p=>by simp) (fun p=>by simp)
  ·have hz2:t.kids.length=0:=by omega
   simp[hz2]
   exact CQ rfl rfl (fun p=>by simp) (fun p=>by simp)
 |true=>
  obtain⟨k,b,rfl,rfl,hb,hz⟩:=hp rfl
  obtain⟨S',ok',⟨g,g2,g3⟩,hl⟩:=jz (u:=u) hn ih (k:=k) (b:=b) t.kids.length 0 S true h hw (by omega) hb (fun _ q _ hq=>hz q hq)
  refine⟨S',ok',g,g2,BE FI (by simp) LS (BF A0) fun w0 I0 M0 m0=>?_,fun e k' b' e1 e2=>?_⟩
  ·unfold Dj
   simp
   refine hl (fun p=>by simp) (fun p=>by simp) (by simp) fun s H' g0 g1=>?_
   simp
   exact CQ rfl rfl g0 g1
  ·have e1:k'=k:=by omega
   have e2:b'=b:=by omega
   subst e1 e2
   obtain⟨p1,p2⟩:=g3 e
   exact⟨p1,fun L hL q hq=>p2 L hL q hq (by omega)⟩
theorem S6 {L:List (List Int)} {g t w k:Nat} {W:List Int} {us:List T} (hw:w<65536) (hk:k<65536) (hh:FV L g t ((w+k:Nat):Int)=true) (hW:part L g t w=W) (hu:us.length=k) (hm:∀ (i:Nat) (hi:i<us.length),∃ r,LK L g ((t+w+i:Nat):Int)=(r,0)∧Az L r us[i]) :
  Az L ⟨1,g,t,w,k,0,0⟩ (.mk 1 W us):=by
 have hkid:∀ (i:Nat),i<us.length→BT L ⟨1,g,t,w,k,0,0⟩ i=LK L g ((t+w+i:Nat):Int):=fun i hi=>by
  unfold BT
  rw[if_neg (by simp[nk];omega),if_pos rfl]
  simp
 refine .mk _ _ (.str _ _ _ _ (by omega) (by omega) (by omega) (by omega) (by simpa using hh)) rfl ?_ (by simp[nk,hu]) (fun i hi=>?_) (fun i hi=>?_)
 ·simp[BK,hW]
 ·obtain⟨r,e,_⟩:=hm i hi
  rw[hkid i hi,e]
 ·obtain⟨r,e,h⟩:=hm i hi
  rw[hkid i hi,e]
  exact h
theorem gB {L:List (List Int)} {k b n:Nat} {ts:List T} (h:∀ (q:Nat) (hq:q<ts.length),Li L k (b+q) ts[q]):∃ us:List T,us.length=ts.length∧∀ (i:Nat) (hi:i<us.length),∃ r,LK L k ((b+i:Nat):Int)=(r,0)∧Az L r us[i]∧∀ hi:i<ts.length,Ai us[i]=Ai ts[i]:=
 de (P:=fun i u=>∃ r,LK L k ((b+i:Nat):Int)=(r,0)∧Az L r u∧∀ hi:i<ts.length,Ai u=Ai ts[i]) fun i hi=>by
  obtain⟨r,u,e1,e2,e3⟩:=h i hi
  exact⟨u,r,e1,e2,fun _=>e3⟩
theorem cZ {w:List Int}:BM (.mk 0 w []):=by
 intro u S ok s a h hw hp
 refine⟨S,ok,Gr.refl h hw,id,BE BV (by simp) LS (BF A0) fun w0 I0 M0 m0=>?_,fun e k b e1 e2=>⟨Kp31.refl h hw,fun L hL=>?_⟩⟩
 ·unfold Bw
  simp
  exact Dl rfl rfl (fun p=>by simp) (fun p=>by simp)
 ·obtain⟨k',b',f1,f2,f3⟩:=hp e
  have e1:k'=k:=by omega
  have e2:b'=b:=by omega
  subst e1 e2
  exact⟨Rf.zero,T0,nM (hL.at f3 (.inr ⟨rfl,rfl⟩)),PF _,by rw[Y0,Ge rfl]⟩
theorem Q8 {w n:Nat} (hw:w<65536) (hn:n<65536):IntKind.u64.wrap (IntKind.u64.wrap w+IntKind.u64.wrap (65536*IntKind.u64.wrap n))=(w:Int)+65536*n:=by
 rw[AE (n:=(n:Int)) (by omega) (by omega),AE (n:=(w:Int)) (by omega) (by omega),AE (n:=65536*(n:Int)) (by omega) (by omega),AE (by omega) (by omega)]
theorem jv {w:List Int} {ks:List T} (hW:∀ x,x ∈ w→BN x) (hw1:w.length<65536) (hk1:ks.length<65536) (ih:∀ c,c ∈ ks→BM c):BM (.mk 1 w ks):=by
 intro u S ok s a h hw hp
 obtain⟨s1,a1,S1,ok1,g1,k1,p1,q1⟩:=Vu h hw u ok (w.length+ks.length)
 obtain⟨S2,ok2,g2,k2,q2,r2⟩:=Jv u g1.ok g1.wd ok1 s a s1 a1 0 (IntKind.u64.wrap (IntKind.u64.wrap w.length+IntKind.u64.wrap (65536*IntKind.u64.wrap ks.length))) (.inl rfl) (by rw[Q8 hw1 hk1];omega) (fun _=>by rw[Q8 hw1 hk1];omega) (fun e=>by
  obtain⟨k,b,e1,e2,e3⟩:=hp (k1 e)
  have:=(F8 e3).2
  have:=g1.wl k
  exact⟨k,b,e1,e2,by omega⟩) (fun e=>by
  obtain⟨k,b,e1,e2,e3⟩:=p1 e
  have:=e3.wl k
  have:=e3.b
  exact⟨k,b,e1,e2,by omega,e3.k⟩)
 obtain⟨S3,g3,q3,r3⟩:=P4 u g2.ok g2.wd hW (by omega) ok2 s1 a1 fun e=>by
  obtain⟨k,b,e1,e2,e3⟩:=p1 (k2 e)
  have h1:=e3.wl k
  have:=e3.b
  have:=g2.wl k
  have:=MY g2.ok k
  rw[if_pos rfl] at h1
  exact⟨k,b,e1,e2,by omega,by omega⟩
 have hz:ok2=true→∀ k b:Nat,s1=k→a1=b→∀ q,q<ks.length→wv S3 k (b+w.length+q)=some 0:=fun e k b e1 e2 q hq=>by
  obtain⟨k',b',f1,f2,f3⟩:=p1 (k2 e)
  have f1:k'=k:=by omega
  have f2:b'=b:=by omega
  subst f1 f2
  obtain⟨kp,bp,x1,x2,x3⟩:=hp (k1 (k2 e))
  have hb:=f3.b
  have hl:=f3.wl k'
  rw[if_pos rfl] at hl
  have hbp:=(F8 x3).2
  have hg2:=g2.wl k'
  rw[(r3 e k' b' e1 e2).1.eq _ _ (by omega) (fun x=>by obtain⟨_,_,x⟩:=x;omega),(r2 e kp bp k' b' x1 x2 e1 e2).1.eq _ _ (by omega) (fun x=>by obtain⟨x,y⟩:=x;subst x;omega),f3.wv,if_pos ⟨rfl,by omega,by omega⟩]
 obtain⟨S4,ok4,g4,k4,q4,r4⟩:=NC (t:=.mk 1 w ks) (by simp;omega) ih u S3 ok2 s1 (IntKind.i64.wrap (a1+w.length)) g3.ok g3.wd fun e=>by
  obtain⟨k,b,e1,e2,e3⟩:=p1 (k2 e)
  have h1:=e3.wl k
  rw[if_pos rfl] at h1
  have:=e3.b
  have h2:=g2.wl k
  have h3:=g3.wl k
  have:=MY g3.ok k
  refine⟨k,b+w.length,e1,?_,by simp;omega,fun q hq=>hz e k b e1 e2 q (by simpa using hq)⟩
  rw[e2]
  exact(Af (n:=(b:Int)+w.length) (by omega) (by omega)).trans (by omega)
 refine⟨S4,ok4,((g1.trans g2).trans g3).trans g4,fun e=>k1 (k2 (k4 e)),BE BV (by simp) LS (BF A0) fun w0 I0 M0 m0=>?_,fun e kp bp x1 x2=>?_⟩
 ·unfold Bw
  have e5:IntKind.i64.wrap ((w.length:Int)+ks.length)=((w.length+ks.length:Nat):Int):=(Af (n:=(w.length:Int)+ks.length) (by omega) (by omega)).trans (by omega)
  simp[e5]
  refine Bj 0 1 (by simp) q1 (fun p=>by simp) (fun p=>by simp) (by simp[e5]) (by simp) ?_
  simp
  refine Bj 0 1 (by simp) q2 (fun p=>by simp) (fun p=>by simp) (by simp) (by simp) ?_
  simp
  refine Bj 0 1 (by simp) q3 (fun p=>by simp) (fun p=>by simp) (by simp) (by simp) ?_
  simp
  refine Bj 0 1 (by simp) q4 (fun p=>by simp) (fun p=>by simp) (by simp) (by simp) ?_
  simp
  exact CQ rfl rfl (fun p=>by simp) (fun p=>by simp)
 ·have e2':=k4 e
  obtain⟨k',b',x3,x4,nw⟩:=p1 (k2 e2')
  have hb:=nw.b
  have hl:=nw.wl k'
  rw[if_pos rfl] at hl
  have hbp:bp<wl S kp:=by
   obtain⟨k5,b5,y1,y2,y3⟩:=hp (k1 (k2 e2'))
   have y1:k5=kp:=by omega
   have y2:b5=bp:=by omega
   subst y1 y2
   exact(F8 y3).2
  have hwl:=MY g3.ok k'
  have h12:=g2.wl k'
  have h23:=g3.wl k'
  have h34:=g4.wl k'
  obtain⟨A1,A2⟩:=r2 e2' kp bp k' b' x1 x2 x3 x4
  obtain⟨B1,B2,B3,B4⟩:=r3 e2' k' b' x3 x4
  obtain⟨C1,C2⟩:=r4 e k' (b'+w.length) x3 (by rw[x4];exact(Af (n:=(b':Int)+w.length) (by omega) (by omega)).trans (by omega))
  simp only[T.kids_mk] at C1 C2
  have hnw:=nw.kp g1
  have BC:Kp31 (rng k' b' (w.length+ks.length)) S2 S4:=B1.trans C1 (fun x y _ e=>by obtain⟨e1,e2,e3⟩:=e;exact⟨e1,by omega,by omega⟩) fun x y _ e=>by obtain⟨e1,e2,e3⟩:=e;exact⟨e1,by omega,by omega⟩
  refine⟨(hnw.trans A1 (R:=Yn kp bp) (fun _ _ _ e=>e.elim) (fun _ _ _ e=>e)).trans BC (fun _ _ _ e=>e) (fun x y hy e=>?_),fun L hL=>?_⟩
  ·obtain⟨rfl,e2,e3⟩:=e
   omega
  ·have hTo:=A2 L ((hL.snd (Q:=Yn kp bp) g1 (fun _ _ _ e=>.inr e)).fst BC (fun _ _ _ e=>.inr e) fun x y hy e=>by
    obtain⟨rfl,e2,e3⟩:=e
    rintro(e | ⟨rfl,rfl⟩)<;>omega)
   rw[Q8 hw1 hk1] at hTo
   have hgl:k'<L.length:=by
    have:=nw.k
    have:=A1.ln
    have:=BC.ln
    have:=hL.ln
    omega
   have hsz:=hL.wl k'
   obtain⟨g',t',y1,y2,y3⟩:=vZ hTo hw1 hk1 hgl (by omega)
   have hwords:part L g' t' w.length=w:=by
    by_cases hw0:w.length=0
    ·have:w=[]:=List.length_eq_zero_iff.1 hw0
     subst this
     simp[part]
    ·obtain⟨z1,z2⟩:=y2 (by omega)
     subst z1 z2
     refine tI fun i hi=>hL.at ?_ (.inl (by omega))
     rw[C1.eq _ _ (by omega) (fun x=>by obtain⟨_,x,_⟩:=x;omega),B4 i hi]
   obtain⟨us,u1,u2⟩:=gB (n:=0) (C2 L (hL.snd ((g1.trans g2).trans g3) fun x y hy e=>by
    obtain⟨rfl,e2,e3⟩:=e
    exact .inl (by omega)))
   refine⟨_,.mk 1 w us,y1,S6 hw1 hk1 y3 hwords u1 fun i hi=>?_,struct_eq.2 ⟨fun i=>rfl,fun i=>?_⟩⟩
   ·obtain⟨z1,z2⟩:=y2 (by omega)
    subst z1 z2
    obtain⟨r,f1,f2,_⟩:=u2 i hi
    exact⟨r,f1,f2⟩
   ·by_cases hi:i<ks.length
    ·obtain⟨_,_,_,e3⟩:=u2 i (by omega)
     simpa[List.getD_eq_getElem?_getD,hi,u1] using e3 hi
    ·simp[List.getD_eq_getElem?_getD,List.getElem?_eq_none (by omega:ks.length≤i),List.getElem?_eq_none (by omega:us.length≤i)]
theorem US {c n:Int} (c0:0≤c) (c8:c<8) (n0:0≤n) (hn:n<536870912):IntKind.u64.wrap (c+IntKind.u64.wrap (8*IntKind.u64.wrap n))=c+8*n:=by
 rw[AE (n:=n) (by omega) (by omega),AE (n:=8*n) (by omega) (by omega),AE (by omega) (by omega)]
theorem fq {ks:List T} (hk1:ks.length<536870912) (ih:∀ c,c ∈ ks→BM c):BM (.mk 8 [] ks):=by
 intro u S ok s a h hw hp
 obtain⟨s1,a1,S1,ok1,g1,k1,p1,q1⟩:=Vu h hw u ok ks.length
 have hup:=US (c:=6) (n:=ks.length) (by omega) (by omega) (by omega) (by omega)
 obtain⟨S2,ok2,g2,k2,q2,r2⟩:=Jv u g1.ok g1.wd ok1 s a s1 a1 1 (IntKind.u64.wrap (6+IntKind.u64.wrap (8*IntKind.u64.wrap ks.length))) (.inr rfl) (by rw[hup];omega) (fun e=>by
  obtain⟨k,b,e1,e2,e3⟩:=p1 e
  have h1:=e3.wl k
  have:=MY g1.ok k
  rw[if_pos rfl] at h1
  rw[hup]
  omega) (fun e=>by
  obtain⟨k,b,e1,e2,e3⟩:=hp (k1 e)
  have:=(F8 e3).2
  have:=g1.wl k
  exact⟨k,b,e1,e2,by omega⟩) (fun e=>by
  obtain⟨k,b,e1,e2,e3⟩:=p1 e
  have:=e3.wl k
  have:=e3.b
  exact⟨k,b,e1,e2,by omega,e3.k⟩)
 have hz:ok2=true→∀ k b:Nat,s1=k→a1=b→∀ q,q<ks.length→wv S2 k (b+q)=some 0:=fun e k b e1 e2 q hq=>by
  obtain⟨k',b',f1,f2,f3⟩:=p1 (k2 e)
  have f1:k'=k:=by omega
  have f2:b'=b:=by omega
  subst f1 f2
  obtain⟨kp,bp,x1,x2,x3⟩:=hp (k1 (k2 e))
  have hb:=f3.b
  have hl:=f3.wl k'
  rw[if_pos rfl] at hl
  have hbp:=(F8 x3).2
  rw[(r2 e kp bp k' b' x1 x2 e1 e2).1.eq _ _ (by omega) (fun x=>by obtain⟨x,y⟩:=x;subst x;omega),f3.wv,if_pos ⟨rfl,by omega,by omega⟩]
 obtain⟨S4,ok4,g4,k4,q4,r4⟩:=NC (t:=.mk 8 [] ks) (by simp;omega) ih u S2 ok2 s1 a1 g2.ok g2.wd fun e=>by
  obtain⟨k,b,e1,e2,e3⟩:=p1 (k2 e)
  have h1:=e3.wl k
  rw[if_pos rfl] at h1
  have:=e3.b
  have h2:=g2.wl k
  exact⟨k,b,e1,e2,by simp;omega,fun q hq=>hz e k b e1 e2 q (by simpa using hq)⟩
 refine⟨S4,ok4,(g1.trans g2).trans g4,fun e=>k1 (k2 (k4 e)),BE BV (by simp) LS (BF A0) fun w0 I0 M0 m0=>?_,fun e kp bp x1 x2=>?_⟩
 ·unfold Bw
  simp
  refine Bj 0 1 (by simp) q1 (fun p=>by simp) (fun p=>by simp) (by simp) (by simp) ?_
  simp
  refine Bj 0 1 (by simp) q2 (fun p=>by simp) (fun p=>by simp) (by simp) (by simp) ?_
  simp
  refine Bj 0 1 (by simp) q4 (fun p=>by simp) (fun p=>by simp) (by simp) (by simp) ?_
  simp
  exact CQ rfl rfl (fun p=>by simp) (fun p=>by simp)
 ·have e2':=k4 e
  obtain⟨k',b',x3,x4,nw⟩:=p1 (k2 e2')
  have hb:=nw.b
  have hl:=nw.wl k'
  rw[if_pos rfl] at hl
  have hbp:bp<wl S kp:=by
   obtain⟨k5,b5,y1,y2,y3⟩:=hp (k1 (k2 e2'))
   have y1:k5=kp:=by omega
   have y2:b5=bp:=by omega
   subst y1 y2
   exact(F8 y3).2
  have h12:=g2.wl k'
  have h34:=g4.wl k'
  obtain⟨A1,A2⟩:=r2 e2' kp bp k' b' x1 x2 x3 x4
  obtain⟨C1,C2⟩:=r4 e k' b' x3 x4
  simp only[T.kids_mk] at C1 C2
  have hnw:=nw.kp g1
  refine⟨(hnw.trans A1 (R:=Yn kp bp) (fun _ _ _ e=>e.elim) (fun _ _ _ e=>e)).trans C1 (fun _ _ _ e=>e) (fun x y hy e=>?_),fun L hL=>?_⟩
  ·obtain⟨rfl,e2,e3⟩:=e
   omega
  ·have hTo:=A2 L ((hL.snd (Q:=Yn kp bp) g1 (fun _ _ _ e=>.inr e)).fst C1 (fun _ _ _ e=>.inr e) fun x y hy e=>by
    obtain⟨rfl,e2,e3⟩:=e
    rintro(e | ⟨rfl,rfl⟩)<;>omega)
   rw[hup] at hTo
   have hgl:k'<L.length:=by
    have:=nw.k
    have:=A1.ln
    have:=C1.ln
    have:=hL.ln
    omega
   have hsz:=hL.wl k'
   have hb6:D7 6=64:=by decide
   have hat:=nR (m:=ks.length) hTo (by omega) (by omega) hk1 (by rw[hb6];omega) hgl (by omega)
   obtain⟨us,u1,u2⟩:=gB (n:=0) (C2 L (hL.snd (g1.trans g2) fun x y hy e=>by
    obtain⟨rfl,e2,e3⟩:=e
    exact .inl (by omega)))
   have hkid:∀ (i:Nat),i<us.length→BT L ⟨8,k',b',0,0,ks.length,0⟩ i=LK L k' ((b'+i:Nat):Int):=fun i hi=>by
    unfold BT
    rw[if_neg (by simp[nk];omega),if_neg (by simp),if_pos rfl]
    simp
   refine⟨⟨8,k',b',0,0,ks.length,0⟩,.mk 8 [] us,hat,?_,?_⟩
   ·refine .mk _ _ (.ptrs _ _ _ (by omega) (by omega) (J9 hgl (by omega))) rfl (by simp[BK]) (by simp[nk,u1]) (fun i hi=>?_) (fun i hi=>?_)
    ·obtain⟨r,e,_⟩:=u2 i hi
     rw[hkid i hi,e]
    ·obtain⟨r,e,h,_⟩:=u2 i hi
     rw[hkid i hi,e]
     exact h
   ·refine(VF (by decide) (by decide)).2 ⟨rfl,SJ u1 fun i h1 h2=>?_⟩
    obtain⟨_,_,_,e⟩:=u2 i h1
    exact e h2
def Row (L:List (List Int)) (k b fw fk:Nat) (c:T):Prop:=(∀ q,q<fw→wL L k (b+q)=some (c.words.getD q 0))∧∀ q,q<fk→Li L k (b+fw+q) (c.kids.getD q T0)
theorem og {u:Nat} {t:T} {fw fk:Nat} (hn:t.kids.length<536870912) (hc:∀ c,c ∈ t.kids→(∀ x,x ∈ c.words→BN x)∧c.words.length≤fw∧c.kids.length≤fk∧∀ d,d ∈ c.kids→BM d) (hfw:fw≤65536) (hfk:fk≤65536) {s a:Int} :
  ∀ (j i:Nat) (S:Ar) (ok:Bool),S.Ok→Wd S→i+j=t.kids.length→(ok=true→∃ k b:Nat,s=k∧a=b∧b+1+t.kids.length*(fw+fk)≤wl S k∧∀ y,b+1+i*(fw+fk)≤y→y<b+1+t.kids.length*(fw+fk)→wv S k y=some 0) →
  ∃ S' ok',(Gr S S'∧(ok'=true→ok=true)∧(ok'=true→∀ k b:Nat,s=k→a=b→Kp31 (rng k (b+1+i*(fw+fk)) (j*(fw+fk))) S S'∧∀ L,Ag (rng k (b+1+i*(fw+fk)) (j*(fw+fk))) S S' L→∀ (x:Nat) (hx:x<t.kids.length),i≤x→Row L k (b+1+x*(fw+fk)) fw fk t.kids[x]))∧∀ {n0:Nat} {w0:World} {I0:Nat→Prop} {M0:Nm→Nat→Prop} {m0:Mu} {Q:Exit→Sta→Prop} {H:Hp},(∀ p,H (0::p)=(Qp u S ok).B 0 1 p)→(∀ p,H (1::p)=Hf 1 S p)→H [2]=⟨1,.cells (tL t)⟩ →
   (∀ s H',(∀ p,H' (0::p)=(Qp u S' ok').B 0 1 p)→(∀ p,H' (1::p)=Hf 1 S' p)→Q (.exit 3) ⟨s,H'⟩) →
   LoopC (Ds Tryz.prog w0 I0 M0 n0 m0) BL Q ⟨lk [(0,.pob [0] u 0),(7,.pob [2] 1 0),(8,iv t.kids.length),(13,iv fw),(14,iv fk),(15,iv s),(16,iv a),(17,iv i)],H⟩:=by
 intro j
 induction j with
 |zero=>
  intro i S ok h hw hi hp
  refine⟨S,ok,⟨Gr.refl h hw,id,fun _ k b _ _=>⟨Kp31.refl h hw,fun L _ x hx hx2=>by omega⟩⟩,fun {n0 w0 I0 M0 m0 Q H} g0 g1 g2 q=>?_⟩
  have:i=t.kids.length:=by omega
  subst this
  refine Ad Ak BL.eq_1 ?_
  simp[g2,g0]
  exact q _ _ g0 g1
 |succ j ihj=>
  intro i S ok h hw hi hp
  have hlt:i<t.kids.length:=by omega
  have hlt2:(i:Int)<t.kids.length:=by omega
  cases ok with
  |false=>
   refine⟨S,false,⟨Gr.refl h hw,id,fun e=>by cases e⟩,fun {n0 w0 I0 M0 m0 Q H} g0 g1 g2 q=>?_⟩
   refine Ad Ak BL.eq_1 ?_
   have:=g0 []
   simp at this
   simp[g2,g0,this,hlt,hlt2]
   exact q _ _ g0 g1
  |true=>
   obtain⟨k,b,rfl,rfl,hb,hz⟩:=hp rfl
   obtain⟨c1,c2,c3,c4⟩:=hc _ (BI hlt)
   have hmul2:(i+1)*(fw+fk)=i*(fw+fk)+(fw+fk):=by rw[Nat.add_mul,Nat.one_mul]
   have hmul3:(j+1)*(fw+fk)=j*(fw+fk)+(fw+fk):=by rw[Nat.add_mul,Nat.one_mul]
   have hmul4:t.kids.length*(fw+fk)=i*(fw+fk)+(j+1)*(fw+fk):=by rw[← hi,Nat.add_mul]
   have hwl:=MY h k
   obtain⟨S1,g1',q1,r1⟩:=P4 u h hw c1 (by omega) true k ((b+1+i*(fw+fk):Nat):Int) fun _=>⟨k,_,rfl,rfl,by omega,by omega⟩
   obtain⟨A1,A2,A3,A4⟩:=r1 rfl k _ rfl rfl
   obtain⟨S2,ok2,g2',k2,q2,r2⟩:=NC (t:=t.kids[i]) (by omega) c4 u S1 true k ((b+1+i*(fw+fk)+fw:Nat):Int) g1'.ok g1'.wd fun _=>⟨k,_,rfl,rfl,by rw[A2];omega,fun q hq=>by
    rw[A1.eq _ _ (by omega) (fun x=>by obtain⟨_,_,x⟩:=x;omega)]
    exact hz _ (by omega) (by omega)⟩
   obtain⟨S',ok',⟨g',k',r3⟩,hl⟩:=ihj (i+1) S2 ok2 g2'.ok g2'.wd (by omega) fun e=>⟨k,b,rfl,rfl,Nat.le_trans hb ((g1'.trans g2').wl k),fun y hy1 hy2=>by
    rw[(r2 e k _ rfl rfl).1.eq _ _ (by rw[A2];omega) (fun x=>by obtain⟨_,_,x⟩:=x;omega),A1.eq _ _ (by omega) (fun x=>by obtain⟨_,_,x⟩:=x;omega)]
    exact hz _ (by omega) (by omega)⟩
   refine⟨S',ok',⟨(g1'.trans g2').trans g',fun _=>rfl,fun e kk bb f1 f2=>?_⟩,fun {n0 w0 I0 M0 m0 Q H} g0 g1 g2 q=>?_⟩
   ·have f1:kk=k:=by omega
    have f2:bb=b:=by omega
    subst f1 f2
    obtain⟨B1,B2⟩:=r2 (k' e) kk _ rfl rfl
    obtain⟨C1,C2⟩:=r3 e kk bb rfl rfl
    rw[hmul2] at C1 C2
    rw[hmul3]
    have hAB:Kp31 (rng kk (bb+1+i*(fw+fk)) (fw+fk)) S S2:=A1.trans B1 (fun x y _ e=>by obtain⟨e1,e2,e3⟩:=e;exact⟨e1,by omega,by omega⟩) fun x y _ e=>by obtain⟨e1,e2,e3⟩:=e;exact⟨e1,by omega,by omega⟩
    refine⟨hAB.trans C1 (fun x y _ e=>by obtain⟨e1,e2,e3⟩:=e;exact⟨e1,by omega,by omega⟩) fun x y _ e=>by obtain⟨e1,e2,e3⟩:=e;exact⟨e1,by omega,by omega⟩,fun L hL x hx hix=>?_⟩
    by_cases hxi:x=i
    ·subst hxi
     have zero:∀ y,bb+1+x*(fw+fk)≤y→y<bb+1+x*(fw+fk)+(fw+fk)→(bb+1+x*(fw+fk)+t.kids[x].words.length≤y)→(y<bb+1+x*(fw+fk)+fw∨bb+1+x*(fw+fk)+fw+t.kids[x].kids.length≤y)→wL L kk y=some 0:=fun y y1 y2 y3 y4=>by
      refine hL.at ?_ (.inr ⟨rfl,y1,by omega⟩)
      have:=g2'.wl kk
      rw[A2] at this
      rw[C1.eq _ _ (by omega) (fun x=>by obtain⟨_,x,_⟩:=x;omega),B1.eq _ _ (by rw[A2];omega) (fun x=>by obtain⟨_,x,x'⟩:=x;omega),A1.eq _ _ (by omega) (fun x=>by obtain⟨_,_,x⟩:=x;omega)]
      exact hz _ y1 (by omega)
     refine⟨fun q hq=>?_,fun q hq=>?_⟩
     ·by_cases hqw:q<t.kids[x].words.length
      ·rw[List.getD_eq_getElem?_getD,List.getElem?_eq_getElem hqw]
       refine hL.at ?_ (.inr ⟨rfl,by omega,by omega⟩)
       have:=g2'.wl kk
       rw[A2] at this
       rw[C1.eq _ _ (by omega) (fun x=>by obtain⟨_,x,_⟩:=x;omega),B1.eq _ _ (by rw[A2];omega) (fun x=>by obtain⟨_,x,x'⟩:=x;omega),A4 q hqw]
       rfl
      ·rw[List.getD_eq_getElem?_getD,List.getElem?_eq_none (by omega)]
       exact zero _ (by omega) (by omega) (by omega) (.inl (by omega))
     ·by_cases hqk:q<t.kids[x].kids.length
      ·rw[List.getD_eq_getElem?_getD,List.getElem?_eq_getElem hqk]
       refine B2 L ((hL.snd g1' fun x y _ e=>?_).fst C1 (fun x y _ e=>.inr e) fun x' y hy e=>?_) q hqk
       ·obtain⟨e1,e2,e3⟩:=e
        exact .inr ⟨e1,by omega,by omega⟩
       ·obtain⟨rfl,e2,e3⟩:=e
        rintro(e | ⟨_,e,e'⟩)
        ·rw[A2] at e
         omega
        ·omega
      ·rw[List.getD_eq_getElem?_getD,List.getElem?_eq_none (by omega)]
       exact⟨Rf.zero,T0,nM (zero _ (by omega) (by omega) (by omega) (.inr (by omega))),PF _,rfl⟩
    ·refine C2 L (hL.snd (g1'.trans g2') fun x y _ e=>?_) x hx (by omega)
     obtain⟨e1,e2,e3⟩:=e
     exact .inr ⟨e1,by omega,by omega⟩
   refine Ad Ak BL.eq_1 ?_
   have h0:=g0 []
   simp at h0
   have hprod:(i:Int)*((fw:Int)+fk)=((i*(fw+fk):Nat):Int):=by rw[Int.natCast_mul,Int.natCast_add]
   have e1:IntKind.i64.wrap ((fw:Int)+fk)=(fw:Int)+fk:=Af (by omega) (by omega)
   have e2:IntKind.i64.wrap ((i:Int)*((fw:Int)+fk))=((i*(fw+fk):Nat):Int):=by rw[hprod];exact Af (by omega) (by omega)
   have e3:IntKind.i64.wrap ((b:Int)+1)=(b:Int)+1:=Af (by omega) (by omega)
   clear r1 r2 r3 A1 A4 hz hp
   generalize hN:i*(fw+fk)=N at *
   have e4:IntKind.i64.wrap ((b:Int)+1+(N:Int))=((b+1+N:Nat):Int):=(Af (n:=(b:Int)+1+(N:Int)) (by omega) (by omega)).trans (by omega)
   have e5:IntKind.i64.wrap (((b+1+N:Nat):Int)+fw)=((b+1+N+fw:Nat):Int):=(Af (n:=((b+1+N:Nat):Int)+fw) (by omega) (by omega)).trans (by omega)
   have e6:IntKind.i64.wrap ((i:Int)+1)=((i+1:Nat):Int):=(Af (n:=(i:Int)+1) (by omega) (by omega)).trans (by omega)
   generalize hA:b+1+N=A1 at *
   generalize hB:A1+fw=B1 at *
   simp[g2,h0,hlt,hlt2,e1,e2,e3,e4]
   refine Bj 0 1 (by simp) q1 g0 g1 (by simp[e1,e2,e3,e4]) (by simp) ?_
   simp[g2,hlt,hlt2,e1,e2,e3,e4,e5]
   refine Bj 0 1 (by simp) q2 (fun p=>by simp) (fun p=>by simp) (by simp[e1,e2,e3,e4,e5]) (by simp) ?_
   simp[e6]
   exact hl (fun p=>by simp) (fun p=>by simp) (by simp[g2]) q
theorem eQ (u:Nat) {S:Ar} (h:S.Ok) (hw:Wd S) (ok:Bool) (s a w:Int) (hx:BN w) (hp:ok=true→∃ k b:Nat,s=k∧a=b∧b<wl S k) :
  ∃ S',Gr S S'∧Hw Tryz.prog 108 (fun r _=>[.pob [r] u 0,iv s,iv a,uv w]) (Qp u S ok) (fun _ _=>.tup []) (Qp u S' ok) ∧
  (ok=true→∀ k b:Nat,s=k→a=b→Kp31 (Yn k b) S S'∧wv S' k b=some w):=by
 cases ok with
 |false=>exact⟨S,Gr.refl h hw,bw u S s a w,fun e=>by cases e⟩
 |true=>
  obtain⟨k,b,rfl,rfl,hb⟩:=hp rfl
  refine⟨_,qR h hw k b hx,Je u S k b w hb,fun _ k' b' e1 e2=>?_⟩
  have e1:k'=k:=by omega
  have e2:b'=b:=by omega
  subst e1 e2
  exact⟨LM h hw hx hb,by rw[GQ hb,if_pos ⟨rfl,rfl⟩]⟩
theorem Ad1 {n fw fk:Nat} (hn:n<536870912) (hw:fw<65536) (hk:fk<65536):IntKind.u64.wrap (IntKind.u64.wrap (IntKind.i64.wrap (4*(n:Int)))+IntKind.u64.wrap (4294967296*IntKind.u64.wrap (IntKind.u64.wrap fw+IntKind.u64.wrap (65536*IntKind.u64.wrap fk))))=4*(n:Int)+4294967296*((fw:Int)+65536*fk):=by
 rw[Q8 hw hk,Af (n:=4*(n:Int)) (by omega) (by omega),AE (n:=4*(n:Int)) (by omega) (by omega),AE (n:=4294967296*((fw:Int)+65536*fk)) (by omega) (by omega),AE (by omega) (by omega)]
theorem fz {ks:List T} (hk1:ks.length<536870912) (hkd:∀ c,c ∈ ks→c.kind=1) (hc:∀ c,c ∈ ks→(∀ x,x ∈ c.words→BN x)∧c.words.length<65536∧c.kids.length<65536∧∀ d,d ∈ c.kids→BM d):BM (.mk 9 [] ks):=by
 intro u S ok s a h hw hp
 have hF1:FO ks<65536:=XR (by decide) fun t ht=>(hc t ht).2.1
 have hF2:FN ks<65536:=Xa (by decide) fun t ht=>(hc t ht).2.2.1
 have hfr:=bF (.mk 9 [] ks) (by simp;omega)
 have hcc:∀ c,c ∈ ks→(∀ x,x ∈ c.words→BN x)∧c.words.length≤FO ks∧c.kids.length≤FN ks∧∀ d,d ∈ c.kids→BM d:=fun c hc'=>⟨(hc c hc').1,WM hc',Xc hc',(hc c hc').2.2.2⟩
 simp only[T.kids_mk] at hfr
 generalize FO ks=fw at *
 generalize FN ks=fk at *
 have hcast:(ks.length:Int)*((fw:Int)+fk)=((ks.length*(fw+fk):Nat):Int):=by rw[Int.natCast_mul,Int.natCast_add]
 have hbig:ks.length*(fw+fk)≤536870912*131070:=Nat.mul_le_mul (by omega) (by omega)
 obtain⟨s1,a1,S1,ok1,g1,k1,p1,q1⟩:=Vu h hw u ok (1+ks.length*(fw+fk))
 have hup:ok1=true→ks.length*(fw+fk)≤131072:=fun e=>by
  obtain⟨k,b,e1,e2,e3⟩:=p1 e
  have h1:=e3.wl k
  have:=MY g1.ok k
  rw[if_pos rfl] at h1
  omega
 have hupE:ok1=true→IntKind.u64.wrap (7+IntKind.u64.wrap (8*IntKind.u64.wrap ((ks.length*(fw+fk):Nat):Int)))=7+8*((ks.length*(fw+fk):Nat):Int):=fun e=>by
  have:=hup e
  exact US (by omega) (by omega) (by omega) (by omega)
 obtain⟨S2,ok2,g2,k2,q2,r2⟩:=Jv u g1.ok g1.wd ok1 s a s1 a1 1 (IntKind.u64.wrap (7+IntKind.u64.wrap (8*IntKind.u64.wrap ((ks.length*(fw+fk):Nat):Int)))) (.inr rfl) (Ee _).1 (fun e=>by
  have:=hup e
  rw[hupE e]
  omega) (fun e=>by
  obtain⟨k,b,e1,e2,e3⟩:=hp (k1 e)
  have:=(F8 e3).2
  have:=g1.wl k
  exact⟨k,b,e1,e2,by omega⟩) (fun e=>by
  obtain⟨k,b,e1,e2,e3⟩:=p1 e
  have:=e3.wl k
  have:=e3.b
  exact⟨k,b,e1,e2,by omega,e3.k⟩)
 have p2:ok2=true→∃ k b:Nat,s1=k∧a1=b∧b+1+ks.length*(fw+fk)≤wl S2 k∧∀ y,b≤y→y<b+1+ks.length*(fw+fk)→wv S2 k y=some 0:=fun e=>by
  obtain⟨k,b,e1,e2,e3⟩:=p1 (k2 e)
  obtain⟨kp,bp,x1,x2,x3⟩:=hp (k1 (k2 e))
  have hb:=e3.b
  have hl:=e3.wl k
  rw[if_pos rfl] at hl
  have hbp:=(F8 x3).2
  have:=g2.wl k
  refine⟨k,b,e1,e2,by omega,fun y y1 y2=>?_⟩
  rw[(r2 e kp bp k b x1 x2 e1 e2).1.eq _ _ (by omega) (fun x=>by obtain⟨x,y⟩:=x;subst x;omega),e3.wv,if_pos ⟨rfl,by omega,by omega⟩]
 have htag:=Ad1 hk1 hF1 hF2
 obtain⟨S3,g3,q3,r3⟩:=eQ u g2.ok g2.wd ok2 s1 a1 (IntKind.u64.wrap (IntKind.u64.wrap (IntKind.i64.wrap (4*(ks.length:Int)))+IntKind.u64.wrap (4294967296*IntKind.u64.wrap (IntKind.u64.wrap fw+IntKind.u64.wrap (65536*IntKind.u64.wrap fk))))) (Ee _) fun e=>by
  obtain⟨k,b,e1,e2,e3,_⟩:=p2 e
  exact⟨k,b,e1,e2,by omega⟩
 obtain⟨S4,ok4,⟨g4,k4,r4⟩,hl⟩:=og (u:=u) (t:=.mk 9 [] ks) (fw:=fw) (fk:=fk) (s:=s1) (a:=a1) (by simpa using hk1) hcc (by omega) (by omega) ks.length 0 S3 ok2 g3.ok g3.wd (by simp) fun e=>by
  obtain⟨k,b,e1,e2,e3,e4⟩:=p2 e
  have:=g3.wl k
  refine⟨k,b,e1,e2,by simp only[T.kids_mk];omega,fun y y1 y2=>?_⟩
  simp only[T.kids_mk] at y2
  rw[(r3 e k b e1 e2).1.eq _ _ (by omega) (fun x=>by obtain⟨_,x⟩:=x;omega)]
  exact e4 y (by omega) y2
 refine⟨S4,ok4,((g1.trans g2).trans g3).trans g4,fun e=>k1 (k2 (k4 e)),BE BV (by simp) LS (BF A0) fun w0 I0 M0 m0=>?_,fun e kp bp x1 x2=>?_⟩
 ·unfold Bw
  have e1:IntKind.i64.wrap ((fw:Int)+fk)=(fw:Int)+fk:=Af (by omega) (by omega)
  clear r2 r3 r4 hup hupE p1 p2
  generalize hN:ks.length*(fw+fk)=N at *
  have e2:IntKind.i64.wrap ((ks.length:Int)*((fw:Int)+fk))=(N:Int):=by rw[hcast];exact Af (by omega) (by omega)
  have e3:IntKind.i64.wrap (1+(N:Int))=((1+N:Nat):Int):=(Af (n:=1+(N:Int)) (by omega) (by omega)).trans (by omega)
  generalize hM:1+N=M at *
  simp
  refine Ae hfr (by simp) ?_
  simp[e1,e2,e3]
  refine Bj 0 1 (by simp) q1 (fun p=>by simp) (fun p=>by simp) (by simp[e1,e2,e3]) (by simp) ?_
  simp[e1,e2]
  refine Bj 0 1 (by simp) q2 (fun p=>by simp) (fun p=>by simp) (by simp[e1,e2]) (by simp) ?_
  simp
  refine Bj 0 1 (by simp) q3 (fun p=>by simp) (fun p=>by simp) (by simp) (by simp) ?_
  simp
  refine hl (fun p=>by simp) (fun p=>by simp) (by simp) fun s H' g0 g1=>?_
  simp
  exact CQ rfl rfl g0 g1
 ·have e2':=k4 e
  have e1':=k2 e2'
  obtain⟨k',b',x3,x4,nw⟩:=p1 e1'
  have hb:=nw.b
  have hl:=nw.wl k'
  rw[if_pos rfl] at hl
  have hbp:bp<wl S kp:=by
   obtain⟨k5,b5,y1,y2,y3⟩:=hp (k1 e1')
   have y1:k5=kp:=by omega
   have y2:b5=bp:=by omega
   subst y1 y2
   exact(F8 y3).2
  have h12:=g2.wl k'
  have h23:=g3.wl k'
  have h34:=g4.wl k'
  obtain⟨A1,A2⟩:=r2 e2' kp bp k' b' x1 x2 x3 x4
  obtain⟨B1,B2⟩:=r3 e2' k' b' x3 x4
  obtain⟨C1,C2⟩:=r4 e k' b' x3 x4
  simp only[T.kids_mk,Nat.zero_mul,Nat.add_zero] at C1 C2
  have hnw:=nw.kp g1
  have BC:Kp31 (rng k' b' (1+ks.length*(fw+fk))) S2 S4:=B1.trans C1 (fun x y _ e=>by obtain⟨e1,e2⟩:=e;exact⟨e1,by omega,by omega⟩) fun x y _ e=>by obtain⟨e1,e2,e3⟩:=e;exact⟨e1,by omega,by omega⟩
  refine⟨(hnw.trans A1 (R:=Yn kp bp) (fun _ _ _ e=>e.elim) (fun _ _ _ e=>e)).trans BC (fun _ _ _ e=>e) (fun x y hy e=>?_),fun L hL=>?_⟩
  ·obtain⟨rfl,e2,e3⟩:=e
   omega
  ·have hTo:=A2 L ((hL.snd (Q:=Yn kp bp) g1 (fun _ _ _ e=>.inr e)).fst BC (fun _ _ _ e=>.inr e) fun x y hy e=>by
    obtain⟨rfl,e2,e3⟩:=e
    rintro(e | ⟨rfl,rfl⟩)<;>omega)
   rw[hupE e1'] at hTo
   have hsz:=hL.wl k'
   have hgt:wL L k' b'=some (4*(ks.length:Int)+4294967296*((fw:Int)+65536*fk)):=by
    refine hL.at ?_ (.inl (by omega))
    rw[C1.eq _ _ (by omega) (fun x=>by obtain⟨_,x,_⟩:=x;omega),B2,htag]
   have hgl:=(Ua hgt).1
   have hat:=wc hTo hgt hk1 hF1 hF2 (by omega)
   have hin1:∀ i,i<ks.length→i*(fw+fk)+(fw+fk)≤ks.length*(fw+fk):=fun i hi=>by
    have h1:(i+1)*(fw+fk)≤ks.length*(fw+fk):=Nat.mul_le_mul_right _ hi
    rw[Nat.add_mul,Nat.one_mul] at h1
    omega
   have hrow:=C2 L (hL.snd ((g1.trans g2).trans g3) fun x y hy e=>by
    obtain⟨rfl,e2,e3⟩:=e
    exact .inl (by omega))
   have hst:∀ i,i<ks.length→∃ v,Az L ⟨1,k',((b'+1+i*(fw+fk):Nat):Int),fw,fk,0,0⟩ v∧∀ hi:i<ks.length,Ai v=Ai ks[i]:=fun i hi=>by
    have hc1:=hkd _ (BI hi)
    have h5:=hin1 i hi
    obtain⟨w1,w2⟩:=hrow i hi (by omega)
    obtain⟨us,u1,u2⟩:=de (P:=fun j v=>∃ r,LK L k' ((b'+1+i*(fw+fk)+fw+j:Nat):Int)=(r,0)∧Az L r v∧Ai v=Ai (ks[i].kids.getD j T0)) (n:=fk) fun j hj=>by
     obtain⟨r,v,e1,e2,e3⟩:=w2 j hj
     exact⟨v,r,e1,e2,e3⟩
    refine⟨.mk 1 (part L k' ((b'+1+i*(fw+fk):Nat):Int) fw) us,S6 hF1 hF2 (J9 hgl (by omega)) rfl u1 fun j hj=>?_,fun _=>?_⟩
    ·obtain⟨r,e1,e2,_⟩:=u2 j hj
     exact⟨r,e1,e2⟩
    ·have e:ks[i] = .mk 1 ks[i].words ks[i].kids:=by rw[← hc1];exact T.eta _
     rw[e]
     refine struct_eq.2 ⟨fun j=>?_,fun j=>?_⟩
     ·have hcw:=(hcc _ (BI hi)).2.1
      rw[List.getD_eq_getElem?_getD,iI]
      split
      ·rename_i hj
       rw[w1 j hj]
       rfl
      ·rename_i hj
       rw[List.getD_eq_getElem?_getD,List.getElem?_eq_none (by omega)]
     ·have hck:=(hcc _ (BI hi)).2.2.1
      by_cases hj:j<fk
      ·obtain⟨_,_,_,e3⟩:=u2 j (by omega)
       rw[← e3]
       simp[List.getD_eq_getElem?_getD,u1,hj]
      ·simp[List.getD_eq_getElem?_getD,List.getElem?_eq_none (by omega:ks[i].kids.length≤j),List.getElem?_eq_none (by omega:us.length≤j)]
   obtain⟨us,u1,u2⟩:=de hst
   have hkid:∀ (i:Nat),i<us.length→BT L ⟨9,k',(b':Int)+1,fw,fk,ks.length,0⟩ i=(⟨1,k',((b'+1+i*(fw+fk):Nat):Int),fw,fk,0,0⟩,0):=fun i hi=>by
    unfold BT
    rw[if_neg (by simp[nk];omega),if_neg (by simp),if_neg (by simp),if_pos rfl]
    simp
   refine⟨⟨9,k',(b':Int)+1,fw,fk,ks.length,0⟩,.mk 9 [] us,hat,?_,?_⟩
   ·have hh:=J9 (L:=L) (k:=k') (a:=b'+1) (n:=ks.length*(fw+fk)) hgl (by omega)
    refine .mk _ _ (.comp _ _ _ _ _ (by omega) (by omega) (by omega) (by omega) (by omega) (by omega) (by simpa using hh)) rfl (by simp[BK]) (by simp[nk,u1]) (fun i hi=>?_) (fun i hi=>?_)
    ·rw[hkid i hi]
    ·rw[hkid i hi]
     exact(u2 i hi).1
   ·refine(VF (by decide) (by decide)).2 ⟨rfl,SJ u1 fun i h1 h2=>?_⟩
    exact(u2 i h1).2 h2
noncomputable def DT (l:List (List Int)) (r:Rf):Tb→Nat→List T→Tb
 |S,_,[]=>S
 |S,i,t::ts=>DT l r (K4 S l (BT l r i).1 t) (i+1) ts
theorem sV {l:List Nat}:∀ x,x ∈ l.map nv→ER (fun _=>x):=fun x hx=>by
 obtain⟨n,_,rfl⟩:=List.mem_map.1 hx
 exact Ax
abbrev nvM (u:Nat) (l:List Nat):Fam:=Acm u 1 (l.map nv) sV
theorem NJ:∀ (l:List T) (ks:List T) (t:T),Cd ks (l++[t])=(NB (Cd ks l).1 (Ai t),(Cd ks l).2++[GC (Cd ks l).1 (Ai t)])
 |[],ks,t=>by simp[Cd]
 |a::l,ks,t=>by simp[Cd,NJ l]
theorem Cq:∀ (l:List T) (ks:List T),(Cd ks l).2.length=l.length
 |[],ks=>rfl
 |a::l,ks=>by simp[Cd,Cq l]
theorem UH {l:List (List Int)} {r:Rf}:∀ (ts:List T) (S:Tb) (i:Nat) (t:T),DT l r S i (ts++[t])=K4 (DT l r S i ts) l (BT l r ((i+ts.length:Nat):Int)).1 t
 |[],S,i,t=>by simp[DT]
 |a::ts,S,i,t=>by
  simp only[List.cons_append,DT,UH ts,List.length_cons]
  rw[show i+1+ts.length=i+(ts.length+1) from by omega]
theorem Ve {l:List (List Int)} {r:Rf}:∀ (ts:List T) (S:Tb) (i:Nat),(DT l r S i ts).ks=(Cd S.ks ts).1
 |[],S,i=>rfl
 |a::ts,S,i=>by simp[DT,Cd,Ve ts,rF]
theorem Zb {l:List (List Int)} {r:Rf}:∀ (ts:List T) (S:Tb) (i:Nat),(DT l r S i ts).u=S.u
 |[],S,i=>rfl
 |a::ts,S,i=>by simp[DT,Zb ts,v8]
theorem mL (S:Tb) (l:List (List Int)) (r:Rf) (t:T):(K4 S l r t).cl.length≤S.cl.length+1:=by
 unfold K4
 split
 ·omega
 ·split<;>simp[ME,IE]
theorem R7 {l:List (List Int)} {r:Rf}:∀ (ts:List T) (S:Tb) (i:Nat),(DT l r S i ts).cl.length≤S.cl.length+ts.length
 |[],S,i=>by simp[DT]
 |a::ts,S,i=>by
  have:=R7 (l:=l) (r:=r) ts (K4 S l (BT l r i).1 a) (i+1)
  have:=mL S l (BT l r i).1 a
  simp only[DT,List.length_cons]
  omega
section
variable {n0:Nat} {w0:World} {I0:Nat→Prop} {M0:Nm→Nat→Prop} {m0:Mu} {Q:Exit→Sta→Prop}
theorem py {l:List (List Int)} (hs:Sg l) {r:Rf} {t:T} (hm:Az l r t) {S0:Tb} {u:Nat} (hu:S0.u=u) (hb:S0.cl.length+t.kids.length≤400000):∀ (j i:Nat) (v:VOb) (H:Hp),i+j=t.kids.length →
  (DT l r S0 0 (t.kids.take i)).Ok→(∀ p,H (0::p)=bX 0 (DT l r S0 0 (t.kids.take i)) p)→(∀ p,H (1::p)=(nvM (i+1) (Cd S0.ks (t.kids.take i)).2).F 1 p)→H [2]=⟨1,.cells (V5 l r)⟩ →
  (∀ (q:Bool) (H':Hp),(DT l r S0 0 t.kids).Ok→(∀ p,H' (0::p)=bX 0 (DT l r S0 0 t.kids) p)→(∀ p,H' (1::p)=(nvM (t.kids.length+1) (Cd S0.ks t.kids).2).F 1 p)→Q (.exit 0) ⟨lk [(0,.pob [0] u 0),(3,.pob [2] 1 0),(6,.osl [1] (t.kids.length+1) 1 0 t.kids.length),(12,nv t.kids.length),(13,nv t.kids.length),(14,bv q)],H'⟩) →
  LoopC (Ds Tryz.prog w0 I0 M0 n0 m0) Dr Q ⟨lk [(0,.pob [0] u 0),(3,.pob [2] 1 0),(6,.osl [1] (i+1) 1 0 i),(12,nv t.kids.length),(13,nv i)],H⟩:=by
 intro j
 induction j with
 |zero=>
  intro i v H hi hok hH hN hA hq
  have:i=t.kids.length:=by omega
  subst this
  rw[Bb (Cc _)] at hok hH hN
  refine Ad Ak Dr.eq_1 ?_
  simp
  exact hq _ H hok hH hN
 |succ j ih=>
  intro i v H hi hok hH hN hA hq
  have hlt:i<t.kids.length:=by omega
  have hlt':(i:Int)<t.kids.length:=by omega
  obtain⟨k1,k2⟩:=Fq hm hlt
  have ei:IntKind.i64.wrap ((i:Int)+1)=((i+1:Nat):Int):=Af (by omega) (by omega)
  have htk:t.kids.take (i+1)=t.kids.take i++[t.kids[i]]:=Hj hlt
  have hlen:=R7 (l:=l) (r:=r) (t.kids.take i) S0 0
  rw[List.length_take,Nat.min_eq_left (by omega)] at hlen
  have hku:=Zb (l:=l) (r:=r) (t.kids.take i) S0 0
  rw[hu] at hku
  have hC:=cz hok (by omega) hs k2
  rw[hku] at hC
  have hok2:=gp hok hs k2
  have hks:(DT l r S0 0 (t.kids.take i)).ks=(Cd S0.ks (t.kids.take i)).1:=Ve _ _ _
  have hS2:DT l r S0 0 (t.kids.take (i+1))=K4 (DT l r S0 0 (t.kids.take i)) l (BT l r i).1 t.kids[i]:=by
   rw[htk,UH,List.length_take,Nat.min_eq_left (by omega),Nat.zero_add]
  have hL2:(Cd S0.ks (t.kids.take (i+1))).2=(Cd S0.ks (t.kids.take i)).2++[GC (DT l r S0 0 (t.kids.take i)).ks (Ai t.kids[i])]:=by
   rw[htk,NJ,hks]
  have hlL:(Cd S0.ks (t.kids.take i)).2.length=i:=by rw[Cq,List.length_take,Nat.min_eq_left (by omega)]
  have ihn:=ih (i+1)
  rw[hS2,hL2] at ihn
  generalize GC (DT l r S0 0 (t.kids.take i)).ks (Ai t.kids[i])=c at hC ihn
  generalize (Cd S0.ks (t.kids.take i)).2=L at hN ihn hlL
  generalize K4 (DT l r S0 0 (t.kids.take i)) l (BT l r i).1 t.kids[i]=S2 at hC ihn hok2
  have hN0:=hN []
  simp at hN0
  refine Ad Ak Dr.eq_1 ?_
  simp[hlt,hA]
  refine Ae (Ka hs (Ce hm) i) (by simp) ?_
  simp[k1,Aa]
  refine AB 0 hC (fun p=>by simp[Aa,hH]) rfl (by simp) ?_
  simp[Aa,hN0,ei]
  refine⟨⟨by omega,by omega⟩,?_⟩
  refine ihn v _ (by omega) hok2 (fun p=>by simp) (fun p=>?_) (by simp[Aa,hA]) hq
  by_cases hp:p=[]
  ·subst hp
   simp[Aa,Bb,hlL]
  ·simp[Aa,hp,hN]
end
theorem VX {S:Tb} (hS:S.Ok) {l:List (List Int)} (hs:Sg l) {r:Rf} {t:T} (hm:Az l r t) (hb:S.cl.length+t.kids.length≤400000) :
  pQ Tryz.prog 201 (fun q=>[.pob [q] S.u 0,Gx l r]) (vA S) (fun _ q=>.tup [.osl [q] (t.kids.length+1) 1 0 t.kids.length,iv 0]) (vA (DT l r S 0 t.kids)) (nvM (t.kids.length+1) (Cd S.ks t.kids).2):=by
 refine pw OC (by simp) (Ah AG (Ah (Va l r) Am)) (BF (Aq (Yx Iv) (Aq (AU Ax) A0))) (fun p=>?_) fun w0 I0 M0 m0=>?_
 ·by_cases hp:p=[]
  ·subst hp;exact .inr (by simp)
  ·exact .inl (by simp[hp])
 unfold IX
 simp
 refine Ae (DM l r) (by simp) ?_
 rw[GI hm]
 simp
 refine LoopC.le (FP 6 [1] 1 (by simp)) ?_
 simp
 refine LoopC.le (AA [(0,.pob [0] S.u 0),(3,.pob [2] 1 0),(6,.osl [1] 1 1 0 0),(12,nv t.kids.length),(13,nv 0)] (by simp[upd])) ?_
 refine py hs hm (S0:=S) rfl hb t.kids.length 0 ⟨0,.none⟩ _ (by omega) (by simpa[DT] using hS) (fun p=>by simp[DT]) (fun p=>?_) (by simp) (fun q H' h1 h2 h3=>?_)
 ·by_cases hp:p=[]
  ·subst hp
   simp[Cd]
  ·simp[hp,Ne.symm hp]
 ·simp
  exact Dl rfl rfl h2 h3
theorem iq {l:List T}:∀ x,x ∈ l.map tA→ER (fun _=>x):=fun x hx=>by
 obtain⟨t,_,rfl⟩:=List.mem_map.1 hx
 exact HE (tA_eq t) fun y hy=>by
  simp at hy
  rcases hy with rfl | rfl | rfl<;>rfl
theorem dm {ks:List T} {n:T} {i:Nat} (h:i<ks.length) (e:ks[i]=n) (hb:∀ (x:Nat) (hx:x<i),ks[x]'(by omega) ≠ n):GC ks n=i:=by
 unfold GC
 rw[List.findIdx_eq h]
 refine⟨sameB_iff.2 e,fun j hj=>?_⟩
 rw[Bool.eq_false_iff]
 exact fun h2=>hb j hj (sameB_iff.1 h2)
section
variable {n0:Nat} {w0:World} {I0:Nat→Prop} {M0:Nm→Nat→Prop} {m0:Mu} {Q:Exit→Sta→Prop}
end
theorem nC (ks:List T) (n:T):(NB ks n).length≤ks.length+1:=by
 unfold NB
 split<;>simp
theorem UD:∀ (l ks:List T),(Cd ks l).1.length≤ks.length+l.length
 |[],ks=>by simp[Cd]
 |t::l,ks=>by
  have:=UD l (NB ks (Ai t))
  have:=nC ks (Ai t)
  simp only[Cd,List.length_cons]
  omega
theorem rR {ks:List T} {n:T} (h:∀ k,k ∈ ks→DI k) (hn:DI n):∀ k,k ∈ NB ks n→DI k:=by
 unfold NB
 split
 ·exact h
 ·intro k hk
  rcases List.mem_append.1 hk with hk | hk
  ·exact h k hk
  ·simp at hk;subst hk;exact hn
theorem X9:∀ {l ks:List T},(∀ k,k ∈ ks→DI k)→(∀ k,k ∈ l→DI k)→∀ k,k ∈ (Cd ks l).1→DI k
 |[],ks,h,_=>h
 |t::l,ks,h,hl=>X9 (l:=l) (rR h (L6 _ (hl t (by simp)))) fun k hk=>hl k (by simp[hk])
section
variable {n0:Nat} {w0:World} {I0:Nat→Prop} {M0:Nm→Nat→Prop} {m0:Mu} {Q:Exit→Sta→Prop}
end
section
variable {n0:Nat} {w0:World} {I0:Nat→Prop} {Q:Exit→Sta→Prop} {H:Hp}
end
theorem aV:newTb.Ok:=⟨by decide,by decide,by decide,by simpa[newTb] using Pl.nil 8,fun c hc=>by simp[newTb] at hc,by simp[newTb]⟩
theorem qh {H:Hp} {o:Nm} {u:Nat} {l:List Nat} {n:Nat} (h:vr (H o) u=some (1,l.map nv)) (hn:n=l.length):Jw H (.osl o u 1 0 n) (.sl false (l.map nv)):=BQ (f:=nv) h hn fun x=>by simp
theorem ZO {l:List (List Int)} (hs:Sg l) {r:Rf}:∀ (ts:List T) (S:Tb) (i:Nat),S.Ok→(∀ (j:Nat) (h:j<ts.length),Az l (BT l r ((i+j:Nat):Int)).1 ts[j])→(DT l r S i ts).Ok
 |[],S,i,h,_=>h
 |t::ts,S,i,h,hm=>by
  rw[DT]
  refine ZO hs ts _ (i+1) (gp h hs (by have:=hm 0 (by simp);exact this)) fun j hj=>?_
  have:=hm (j+1) (by simpa using hj)
  rwa [show i+(j+1)=i+1+j from by omega] at this
section
variable {n0:Nat} {w0:World} {I0:Nat→Prop}
end
theorem sW {r:Nat} {S:Ar} {H:Hp} (hH:∀ p,H (r::p)=Hf r S p):Jw H (.osl [r,0] S.ur 1 0 S.l.length) (RA S.w):=by
 have h0:=hH [0]
 refine K5 (o:=[r,0]) (u:=S.ur) (off:=0) (len:=S.l.length) (sz:=1) (xs:=Hy r S.l) (ys:=S.w.map ws) (by simp[h0]) (by simp) (by simp[Ar.w]) (by simp) (by simp[A.ones]) ?_
 have e1:List.flatMap A.cells (List.take S.l.length (List.drop 0 (Hy r S.l)))=Hy r S.l:=by
  rw[List.drop_zero,Bb (by simp)]
  exact LI fun x hx=>by
   obtain⟨i,hi,rfl⟩:=List.mem_mapIdx.1 hx
   rfl
 have e2:List.flatMap A.cells (List.map ws S.w)=List.map ws S.w:=LI fun x hx=>by
  obtain⟨i,hi,rfl⟩:=List.mem_map.1 hx
  rfl
 rw[e1,e2]
 refine P6 (by simp[Ar.w]) fun k a a' ha ha'=>?_
 simp at ha ha'
 obtain⟨p,q,hk,rfl⟩:=ha
 obtain⟨g,hg,rfl⟩:=ha'
 simp[Ar.w,hk] at hg
 subst hg
 have:=Rn (H:=H) (o:=[r,0,k]) (u:=p) (off:=0) (len:=q.length) (sz:=1) (xs:=q.map uv) (by simp[hH,hk]) (by simp) (by simp[Bb])
 simpa[Bb] using this
theorem AaS {S:Ar} (h:S.Ok) (hw:Wd S):Sg S.w∧S.w.length≤16:=by
 refine⟨⟨fun x hx=>?_,fun x hx y hy=>?_⟩,by simpa[Ar.w] using h.len⟩
 ·obtain⟨e,he,rfl⟩:=List.mem_map.1 hx
  have:=h.seg e he
  have:=h.used1
  have:=h.most1
  omega
 ·obtain⟨e,he,rfl⟩:=List.mem_map.1 hx
  exact hw e he y hy
section
variable {n0:Nat} {w0:World} {I0:Nat→Prop}
theorem Xg {S:Ar} {ok:Bool} {u:Nat} {H:Hp} (g0:∀ p,H (1::p)=(Qp u S ok).B 1 2 p) (g1:∀ p,H (2::p)=Hf 2 S p) :
  WPC (cx Tryz.prog w0 I0 n0) FJ (PO Tryz.prog [.tmp 6,.tmp 7] (.tup [RA (if ok=true then S.w else []),bv ok])) ⟨lk [(8,.pob [1] u 0)],H⟩:=by
 unfold FJ
 have h0:=g0 []
 have h1:=g1 []
 simp at h0 h1
 cases ok with
 |false=>
  simp[h0]
  exact F5 (by simp;exact⟨An,Ab rfl⟩)
 |true=>
  simp[h0,h1]
  exact F5 (by simp;exact⟨sW g1,Ab rfl⟩)
end
end Go.Proofs.YtbjmaoedheiigaaGreat
namespace Go.PL
def wdT (t:T) (i:Nat):Int:=t.words.getD i 0
def kdT (t:T) (i:Nat):T:=t.kids.getD i T0
theorem fI:∀ (t:T) (d:Nat),DR d t=true→DR d (Ai t)=true:=by
 refine T.ind fun k w l ih d h=>?_
 have hk:=HF h
 rw[Dm] at h
 rw[BG]
 by_cases h0:k=0
 ·rw[if_pos h0,Dm];rfl
 rw[if_neg h0] at h ⊢
 by_cases h10:k=10
 ·subst h10
  rw[if_pos rfl] at h
  simp at h
  obtain⟨hw,rfl⟩:=h
  rw[if_neg (by decide),Dm]
  simp[hw]
 rw[if_neg h10] at h
 by_cases hb:EW k d w.length l.length=true
 ·rw[if_pos hb] at h;cases h
 have hm:∀ (m:List T),(∀ t,t ∈ m→∃ u,u ∈ l∧t=Ai u)→Gj (d-1) k m=true:=fun m hm=>rightL_all.2 fun t ht=>by
  obtain⟨u,hu,rfl⟩:=hm t ht
  obtain⟨g1,g2⟩:=hk u hu
  refine⟨ih u hu _ g1,?_⟩
  unfold D8 at g2 ⊢
  rw[CM]
  cases hd:E8 k with
  |false=>rw[hd] at g2;simpa using g2
  |true=>
   rw[hd] at g2
   simp at g2
   obtain⟨⟨g3,g4⟩,g5⟩:=g2
   obtain⟨uk,uw,ul⟩:=u
   simp at g3
   subst g3
   rw[BG]
   simp at g4 g5 ⊢
   exact⟨g4,g5⟩
 by_cases h1:k=1
 ·subst h1
  have hw:=JE w
  have hl:=Iu (l.map Ai)
  rw[List.length_map] at hl
  have hb':¬ EW 1 d (BX w).length (BA (l.map Ai)).length=true:=by
   simp[EW] at hb ⊢
   omega
  rw[if_pos rfl,Dm,if_neg (by decide),if_neg (by decide),if_neg hb']
  refine hm _ fun t ht=>?_
  rw[L3] at ht
  obtain⟨u,hu,rfl⟩:=List.mem_map.1 (Qo ht)
  exact⟨u,hu,rfl⟩
 ·rw[if_neg h1,Dm,if_neg h0,if_neg h10,if_neg (by rw[List.length_map];exact hb)]
  refine hm _ fun t ht=>?_
  obtain⟨u,hu,rfl⟩:=List.mem_map.1 ht
  exact⟨u,hu,rfl⟩
inductive SmT:T→Prop
 |mk (k:Int) (w:List Int) (l:List T):l.length≤1048576→(∀ t,t ∈ l→SmT t)→SmT (.mk k w l)
theorem SmT.len {t:T} (h:SmT t):t.kids.length≤1048576:=by cases h;assumption
theorem SmT.kid {t:T} (h:SmT t):∀ c,c ∈ t.kids→SmT c:=by cases h;assumption
theorem AdR:SmT T0:=.mk _ _ _ (Nat.zero_le _) (fun t h=>by cases h)
theorem SmT.kd {t:T} (h:SmT t) (i:Nat):SmT (kdT t i):=by
 unfold kdT
 rw[List.getD_eq_getElem?_getD]
 cases e:t.kids[i]? with
 |none=>exact AdR
 |some x=>exact h.kid x (List.mem_of_getElem? e)
end Go.PL
namespace Go.Proofs.YtbjmaoedheiigaaGreat
open Go Go.G Go.Proofs Go.PL
theorem wY {L:List (List Int)} {g t wd:Nat} {k:Int} {ks:List T} (h1:2≤k) (h2:k≤7) (hg:g<L.length)
  (b1:ks.length<536870912) (b2:∀ c,c ∈ ks→∃ x,c.words=[x]∧0≤x∧x<18446744073709551616∧I4 (k-2) x=true) (hkd:∀ c,c ∈ ks→c.kind=10∧c.kids=[])
  (hin:t+(MS (k-2) (ks.map hd)).length≤jV L g) (hq:∀ (q:Nat) (hq:q<(MS (k-2) (ks.map hd)).length),wL L g (t+q)=some (MS (k-2) (ks.map hd))[q]) :
  ((ks.length:Int)*D7 (k-2)+63) / 64=((MS (k-2) (ks.map hd)).length:Int)∧Az L ⟨2+(k-2),g,t,0,0,ks.length,0⟩ (.mk k [] ks):=by
 obtain⟨wd,w1,w2,w3⟩:=Nu (c:=k-2) (by omega) (by omega)
 have hroom:Kp (k-2) (ks.map hd).length=(((ks.length*wd+63) / 64:Nat):Int):=by
  unfold Kp
  rw[List.length_map,if_neg (by omega),w2]
  have e:(ks.length:Int)*wd=((ks.length*wd:Nat):Int):=by rw[Int.natCast_mul]
  rw[e]
  omega
 have hpl:(MS (k-2) (ks.map hd)).length=(ks.length*wd+63) / 64:=by rw[Tn,hroom];omega
 have hm:((ks.length:Int)*D7 (k-2)+63) / 64=(((ks.length*wd+63) / 64:Nat):Int):=by
  rw[dJ (by omega) (by omega),w2]
  have e:(ks.length:Int)*wd=((ks.length*wd:Nat):Int):=by rw[Int.natCast_mul]
  rw[e]
  omega
 refine⟨by rw[hm,hpl],?_⟩
 have hk2:2+(k-2)=k:=by omega
 have hq:∀ q,q<(ks.length*wd+63) / 64→(((seg L g).getD []).drop t)[q]? = (MS (k-2) (ks.map hd))[q]?:=fun q hq2=>by
  rw[List.getElem?_eq_getElem (l:=MS (k-2) (ks.map hd)) (by omega),← hq q (by omega),List.getElem?_drop]
  unfold seg wL
  simp only[Int.natCast_nonneg,if_true,Int.toNat_natCast]
  cases L[g]?<;>simp
 have hkid:∀ (i:Nat) (hi:i<ks.length),BT L ⟨2+(k-2),g,t,0,0,ks.length,0⟩ i=(⟨10,0,0,0,0,0,hd ks[i]⟩,0):=fun i hi=>by
  rw[ke (by omega) (by omega) (by omega) (by omega) (by omega)]
  have:Rm L ⟨2+(k-2),g,t,0,0,ks.length,0⟩ i=hd ks[i]:=by
   unfold Rm MO
   simp only[Int.toNat_natCast,show 2+(k-2)-2=k-2 by omega,w1]
   obtain⟨x,hx1,hx2,hx3,hx4⟩:=b2 _ (BI hi)
   have hhd:hd ks[i]=x:=by unfold hd;rw[hx1];rfl
   by_cases hw0:wd=0
   ·subst hw0
    rw[if_pos (by omega),hhd]
    unfold I4 at hx4
    rw[w1] at hx4
    simp at hx4
    omega
   ·rw[if_neg (by omega)]
    have e1:((i:Int)*wd / 64).toNat=i*wd / 64:=by
     have:(i:Int)*wd=((i*wd:Nat):Int):=by rw[Int.natCast_mul]
     rw[this];omega
    have e2:((i:Int)*wd % 64).toNat=i*wd % 64:=by
     have:(i:Int)*wd=((i*wd:Nat):Int):=by rw[Int.natCast_mul]
     rw[this];omega
    rw[e1,e2]
    have hat2:∀ j,j<ks.length→j*wd / 64<(ks.length*wd+63) / 64:=fun j hj=>dQ (by omega) hj
    rw[hq _ (hat2 i hi)]
    have hput:MS (k-2) (ks.map hd)=KT wd (ks.map hd) 0 (List.replicate ((ks.length*wd+63) / 64) 0):=by
     unfold MS
     rw[w1,hroom]
     simp only[Int.toNat_natCast]
    have hf:=(UX (w:=wd) (by omega) (ks.map hd) 0 _ (PutI.start wd ((ks.length*wd+63) / 64)) (fun y hy=>by
     obtain⟨c,hc,rfl⟩:=List.mem_map.1 hy
     obtain⟨z,z1,z2,z3,z4⟩:=b2 c hc
     have:hd c=z:=by unfold hd;rw[z1];rfl
     rw[this]
     exact⟨z2,Yw w1 z2 z4⟩) (fun j hj=>by
     rw[List.length_replicate]
     exact hat2 j (by simpa using hj))).2 i (by simpa using hi)
    rw[Nat.zero_add,← hput] at hf
    unfold Sr at hf
    rw[List.getD_eq_getElem?_getD] at hf
    rw[hf]
    simp
  rw[this]
 have hh:=J9 (L:=L) (k:=g) (a:=t) (n:=(ks.length*wd+63) / 64) hg (by omega)
 rw[← hm] at hh
 refine .mk _ _ (.dat _ _ _ _ (by omega) (by omega) (by omega) (by omega) hh) hk2 ?_ ?_ (fun i hi=>?_) (fun i hi=>?_)
 ·unfold BK
  rw[if_neg (by simp only;omega),if_pos (by simp only;omega)]
  rfl
 ·unfold nk
  rw[if_neg (by simp only;omega)]
  rfl
 ·change i<ks.length at hi
  rw[hkid i hi]
 ·change i<ks.length at hi
  rw[hkid i hi]
  obtain⟨x,hx1,hx2,hx3,hx4⟩:=b2 _ (BI hi)
  obtain⟨g1,g2⟩:=hkd _ (BI hi)
  have hhd:hd ks[i]=x:=by unfold hd;rw[hx1];rfl
  have e:ks[i] = .mk 10 [x] []:=by rw[T.eta ks[i],g1,hx1,g2]
  show Az L _ ks[i]
  rw[hhd,e]
  exact .mk _ _ (.atom _ hx2 hx3) rfl (by simp[BK]) (by simp[nk]) (fun i hi=>by simp at hi) (fun i hi=>by simp at hi)
theorem fy {k:Int} {ks:List T} (h1:2≤k) (h2:k≤7) (b1:ks.length<536870912) (b2:∀ c,c ∈ ks→∃ x,c.words=[x]∧0≤x∧x<18446744073709551616∧I4 (k-2) x=true) (hkd:∀ c,c ∈ ks→c.kind=10∧c.kids=[]):BM (.mk k [] ks):=by
 intro u S ok s a h hw hp
 have hwd:∀ c,c ∈ ks→c.words=[hd c]:=fun c hc=>by
  obtain⟨x,hx,_⟩:=b2 c hc
  simp[hx,hd]
 have hfit:∀ x,x ∈ ks.map hd→BN x∧I4 (k-2) x=true:=fun x hx=>by
  obtain⟨c,hc,rfl⟩:=List.mem_map.1 hx
  obtain⟨x,hx,q1,q2,q3⟩:=b2 c hc
  have:hd c=x:=by simp[hx,hd]
  rw[this]
  exact⟨⟨q1,q2⟩,q3⟩
 have hPu:=dL (c:=k-2) (by omega) (by omega) (ns:=ks.map hd) (by simp;omega) hfit
 obtain⟨hZ,hZl⟩:=tK (c:=k-2) (by omega) (by omega) (ns:=ks.map hd) (by simp;omega) hfit
 have hM:=fun (L:List (List Int)) (g t:Nat)=>wY (L:=L) (g:=g) (t:=t) (wd:=0) h1 h2 (ks:=ks) (b1:=b1) (b2:=b2) (hkd:=hkd)
 generalize MS (k-2) (ks.map hd)=Z at hPu hZ hZl hM
 obtain⟨s1,a1,S1,ok1,g1,k1,p1,q1⟩:=Vu h hw u ok Z.length
 have hup:IntKind.u64.wrap (IntKind.u64.wrap (k-2)+IntKind.u64.wrap (8*IntKind.u64.wrap ks.length))=k-2+8*(ks.length:Int):=by
  rw[AE (n:=k-2) (by omega) (by omega)]
  exact US (by omega) (by omega) (by omega) (by omega)
 obtain⟨S2,ok2,g2,k2,q2,r2⟩:=Jv u g1.ok g1.wd ok1 s a s1 a1 1 (IntKind.u64.wrap (IntKind.u64.wrap (k-2)+IntKind.u64.wrap (8*IntKind.u64.wrap ks.length))) (.inr rfl) (Ee _).1 (fun e=>by rw[hup];omega) (fun e=>by
  obtain⟨k,b,e1,e2,e3⟩:=hp (k1 e)
  have:=(F8 e3).2
  have:=g1.wl k
  exact⟨k,b,e1,e2,by omega⟩) (fun e=>by
  obtain⟨k,b,e1,e2,e3⟩:=p1 e
  have:=e3.wl k
  have:=e3.b
  exact⟨k,b,e1,e2,by omega,e3.k⟩)
 obtain⟨S3,g3,q3,r3⟩:=P4 u g2.ok g2.wd hZ (by omega) ok2 s1 a1 fun e=>by
  obtain⟨k,b,e1,e2,e3⟩:=p1 (k2 e)
  have h1:=e3.wl k
  have:=e3.b
  have:=g2.wl k
  have:=MY g2.ok k
  rw[if_pos rfl] at h1
  exact⟨k,b,e1,e2,by omega,by omega⟩
 refine⟨S3,ok2,(g1.trans g2).trans g3,fun e=>k1 (k2 e),BE BV (by simp) LS (BF A0) fun w0 I0 M0 m0=>?_,fun e kp bp x1 x2=>?_⟩
 ·unfold Bw
  have e1:IntKind.i64.wrap (k-2)=k-2:=Af (by omega) (by omega)
  have n0:¬ k=0:=by omega
  have n1:¬ k=1:=by omega
  have n8:¬ k=8:=by omega
  have n9:¬ k=9:=by omega
  simp[n0,n1,n8,n9]
  refine Dv (FP 18 [3] 1 (by simp)) ?_
  refine Dv (AA [(0,.pob [0] u 0),(1,iv s),(2,iv a),(7,.pob [2] 1 0),(8,nv ks.length),(18,.osl [3] 1 1 0 0)] (by simp[upd])) (Dn ?_)
  simp
  refine tp (t:=.mk k [] ks) (F:=(Qp u S ok).B 0 1) (G:=Hf 1 S) (by simp;omega) hwd (fun q v H' g0 g1 g2 g3=>?_) ks.length 0 1 _ (by simp) (fun p=>?_) (fun p=>?_) (by simp[Aa]) (by simp[Aa])
  rotate_left
  ·simp
  ·simp
  simp[g2]
  simp[e1]
  refine LG [iv (k-2),DP (ks.map hd)] hPu (by simp;exact⟨Ab rfl,BQ (f:=uv) (l:=ks.map hd) (by rw[g3];simp) (by simp) (fun x=>by simp)⟩) (by simp[e1]) ?_
  simp
  refine Bj 0 1 (by simp) q1 g0 g1 (by simp) (by simp) ?_
  simp[g2,e1]
  refine Bj 0 1 (by simp) q2 (fun p=>by simp) (fun p=>by simp) (by simp[e1]) (by simp) ?_
  simp
  refine Bj 0 1 (by simp) q3 (fun p=>by simp) (fun p=>by simp) (by simp) (by simp) ?_
  simp
  exact CQ rfl rfl (fun p=>by simp) (fun p=>by simp)
 ·obtain⟨k',b',x3,x4,nw⟩:=p1 (k2 e)
  have hb:=nw.b
  have hl:=nw.wl k'
  rw[if_pos rfl] at hl
  have hbp:bp<wl S kp:=by
   obtain⟨k5,b5,y1,y2,y3⟩:=hp (k1 (k2 e))
   have y1:k5=kp:=by omega
   have y2:b5=bp:=by omega
   subst y1 y2
   exact(F8 y3).2
  have h12:=g2.wl k'
  have h23:=g3.wl k'
  obtain⟨A1,A2⟩:=r2 e kp bp k' b' x1 x2 x3 x4
  obtain⟨B1,B2,B3,B4⟩:=r3 e k' b' x3 x4
  have hnw:=nw.kp g1
  refine⟨(hnw.trans A1 (R:=Yn kp bp) (fun _ _ _ e=>e.elim) (fun _ _ _ e=>e)).trans B1 (fun _ _ _ e=>e) (fun x y hy e=>?_),fun L hL=>?_⟩
  ·obtain⟨rfl,e2,e3⟩:=e
   omega
  ·have hTo:=A2 L ((hL.snd (Q:=Yn kp bp) g1 (fun _ _ _ e=>.inr e)).fst B1 (fun _ _ _ e=>.inr e) fun x y hy e=>by
    obtain⟨rfl,e2,e3⟩:=e
    rintro(e | ⟨rfl,rfl⟩)<;>omega)
   rw[hup] at hTo
   have hgl:k'<L.length:=by
    have:=nw.k
    have:=A1.ln
    have:=hL.ln
    omega
   have hsz:=hL.wl k'
   obtain⟨m1,m2⟩:=hM L k' b' hgl (by omega) fun q hq=>hL.at (B4 q hq) (.inl (by omega))
   exact⟨_,_,nR hTo (by omega) (by omega) b1 m1 hgl (by omega),m2,rfl⟩
theorem jB:∀ t:T,(K7 t→(∃ d,DR d t=true)→DI t→BM t)∧∀ d,d ∈ t.kids→K7 d→(∃ n,DR n d=true)→DI d→BM d:=by
 refine T.ind fun k w ks ih=>⟨fun hL hr hw=>?_,fun d hd=>(ih d hd).1⟩
 have hwd:=(wfT_iff.1 hw).w
 have hwk:=(wfT_iff.1 hw).ks
 obtain⟨d,hr⟩:=hr
 have hkr:=HF hr
 have hw0:2≤k→k≤9→w=[]:=fun hk2 hk9=>by
  rw[Dm,if_neg (by omega),if_neg (by omega)] at hr
  split at hr
  ·cases hr
  ·rename_i hb
   simp[EW] at hb
   exact hb.2 (by omega)
 cases hL with
 |null w=>exact cZ
 |str w ks b1 b2 hk=>exact jv (fun x hx=>hwd x hx) b1 b2 fun c hc=>(ih c hc).1 (hk c hc) ⟨_,(hkr c hc).1⟩ (hwk c hc)
 |ptrs w ks b1 hk=>
  obtain rfl:=hw0 (by omega) (by omega)
  exact fq b1 fun c hc=>(ih c hc).1 (hk c hc) ⟨_,(hkr c hc).1⟩ (hwk c hc)
 |comp w ks b1 b2 hk=>
  obtain rfl:=hw0 (by omega) (by omega)
  refine fz b1 (fun c hc=>sw (hkr c hc).2) fun c hc=>?_
  have hwc:=hwk c hc
  have hrc:=(hkr c hc).1
  obtain⟨k2,w2,l2⟩:=c
  have hx:=wfT_iff.1 hwc
  exact⟨fun x hx'=>hx.w x hx',(b2 _ hc).1,(b2 _ hc).2,fun d hd=>(ih _ hc).2 d hd (hk _ hc d hd) ⟨_,(fB hrc d hd).1⟩ (hx.ks d hd)⟩
 |data k w ks h1 h2 b1 b2=>
  obtain rfl:=hw0 (by omega) (by omega)
  refine fy h1 h2 b1 b2 fun c hc=>?_
  obtain⟨x,hx1,hx2,hx3,hx4⟩:=b2 c hc
  obtain⟨g1,g2⟩:=hkr c hc
  have hkd:c.kind=10:=by
   have hd:E8 k=true:=by simp[E8];omega
   unfold D8 at g2
   rw[hd] at g2
   simp at g2
   first | exact g2.1.1 | exact of_decide_eq_true g2.1.1
  refine⟨hkd,?_⟩
  rw[T.eta c,Dm,hkd] at g1
  simp at g1
  exact g1.2
theorem yi {t:T}:Sg []∧([]:List (List Int)).length≤16∧∃ v,Az [] (LK [] 0 0).1 v∧(false=true→Ai v=Ai t)∧(false=false→v=T0):=
 ⟨⟨fun x hx=>by simp at hx,fun x hx=>by simp at hx⟩,by simp,T0,PF _,(fun e=>by cases e),fun _=>rfl⟩
theorem X7 {t:T} (hw:DI t) (z m:Int) (hz:z<9223372036854775808):∃ (L:List (List Int)) (ok:Bool),(Sg L∧L.length≤16∧∃ v,Az L (LK L 0 0).1 v∧(ok=true→Ai v=Ai t)∧(ok=false→v=T0))∧G.Spec Tryz.prog 26 [tX t,iv z,iv m] (.tup [RA L,bv ok]):=by
 by_cases hr:(!DR 64 t || decide (t.kind=10))=true
 ·refine⟨[],false,yi,Al JG (by simp) fun w0 I0=>?_⟩
  unfold Gh
  simp
  refine Ae (Tj t hw 64 (by omega)) (by simp) ?_
  simp[hr]
  exact F5 (by simp;exact⟨An,Ab rfl⟩)
 ·have hr':=Bool.eq_false_iff.2 hr
  have hr1:DR 64 t=true:=by
   cases e:DR 64 t with
   |true=>rfl
   |false=>simp[e] at hr
  have h10:t.kind ≠ 10:=fun e=>by simp[e] at hr
  have hok:=dS t 64 hr1 hw h10
  have hwn:=L6 t hw
  have k0:(Ku z m).Ok:=np hz
  have kw:Wd (Ku z m):=fun e he=>by simp[Ku] at he
  obtain⟨s1,a1,S1,ok1,g1,k1,p1,q1⟩:=Vu k0 kw 1 true 1
  obtain⟨S2,ok2,g2,k2,q2,r2⟩:=(jB (Ai t)).1 hok ⟨64,fI t 64 hr1⟩ hwn 1 S1 ok1 s1 a1 g1.ok g1.wd fun e=>by
   obtain⟨k,b,e1,e2,nw⟩:=p1 e
   exact⟨k,b,e1,e2,by rw[nw.wv,if_pos ⟨rfl,by omega,by omega⟩]⟩
  refine⟨if ok1=true then (if ok2=true then S2.w else []) else [],ok1&&ok2,?_,Al JG (by simp) fun w0 I0=>?_⟩
  ·cases ok1 with
   |false=>exact yi
   |true=>
   cases ok2 with
   |false=>exact yi
   |true=>
   simp only[if_true,Bool.and_self]
   obtain⟨hs1,hs2⟩:=AaS g2.ok g2.wd
   refine⟨hs1,hs2,?_⟩
   obtain⟨k,b,f1,f2,nw⟩:=p1 rfl
   have hk0:k=0:=by
    have h1:=nw.ln2
    have h2:=nw.k
    have h3:(Ku z m).l.length=0:=rfl
    omega
   have hb0:b=0:=by
    rw[nw.b]
    rfl
   subst hk0 hb0
   obtain⟨r,v,v1,v2,v3⟩:=(r2 rfl 0 0 f1 f2).2 S2.w (Ag.self _ _ _)
   have v1:LK S2.w 0 0=(r,0):=v1
   rw[v1]
   exact⟨v,v2,fun _=>v3.trans (JA t),fun e=>by cases e⟩
  unfold Gh
  simp
  refine Ae (Tj t hw 64 (by omega)) (by simp) ?_
  simp[hr1,h10]
  refine x8 2 rfl (jF z m) (fun p=>rfl) rfl (fun _ _=>rfl) (fun _=>⟨trivial,trivial,trivial⟩) kx (by simp) ?_
  simp
  refine Bj 1 2 (by decide) q1 (fun p=>by simp[Ku]) (fun p=>by simp) (by simp) (by simp) ?_
  simp
  cases ok1 with
  |false=>
   simp
   exact Xg (ok:=false) (S:=S1) (fun p=>by simp) (fun p=>by simp)
  |true=>
   simp
   refine Ae (dn t hw) (by simp) ?_
   simp
   refine Bj 1 2 (by decide) q2 (fun p=>by simp) (fun p=>by simp) (by simp) (by simp) ?_
   simp
   exact Xg (ok:=ok2) (S:=S2) (fun p=>by simp) (fun p=>by simp)
end Go.Proofs.YtbjmaoedheiigaaGreat
namespace Go.Proofs.YtbjmaoedheiigaaGreat
set_option maxRecDepth 20000
open Go Go.G Go.Proofs
@[simp] theorem Ahk:Tryz.prog.underlying 29=some (.slice 80):=by kernel_rfl
@[simp] theorem AhF:Tryz.prog.underlying 30=some (.slice 89):=by kernel_rfl
@[simp] theorem AhE:Tryz.prog.underlying 31=some (.slice 91):=by kernel_rfl
@[simp] theorem AhJ:CI Tryz.prog 29=some 1:=by kernel_rfl
@[simp] theorem AhV:CI Tryz.prog 30=some 1:=by kernel_rfl
@[simp] theorem Ag8:CI Tryz.prog 31=some 1:=by kernel_rfl
@[simp] theorem Aif:CI Tryz.prog 33=some 11:=by kernel_rfl
@[simp] theorem Aho:CI Tryz.prog 80=some 4:=by kernel_rfl
@[simp] theorem AhP:CI Tryz.prog 89=some 12:=by kernel_rfl
@[simp] theorem Ahz:CI Tryz.prog 91=some 14:=by kernel_rfl
@[simp] theorem AeH:C5 Tryz.prog 29=some false:=by kernel_rfl
@[simp] theorem Aeq:C5 Tryz.prog 30=some false:=by kernel_rfl
@[simp] theorem AeN:C5 Tryz.prog 31=some false:=by kernel_rfl
@[simp] theorem Afi:C5 Tryz.prog 33=some true:=by kernel_rfl
@[simp] theorem AgH:C5 Tryz.prog 80=some true:=by kernel_rfl
@[simp] theorem Af8:C5 Tryz.prog 89=some true:=by kernel_rfl
@[simp] theorem AgN:C5 Tryz.prog 91=some true:=by kernel_rfl
@[simp] theorem Acj:Bn Tryz.prog 80=some (Value.agg #[Value.int IntKind.i64 0,Value.int IntKind.u8 0,Value.int IntKind.u64 0,Value.int IntKind.u64 0]):=by kernel_rfl
@[simp] theorem Abx:Bn Tryz.prog 89=some (Value.agg #[Value.int IntKind.i64 0,Value.int IntKind.i64 0,Value.int IntKind.i64 0,Value.slice none 0 0,Value.slice none 0 0,Value.int IntKind.i64 0,Value.slice none 0 0,Value.slice none 0 0,Value.slice none 0 0,Value.slice none 0 0,Value.int IntKind.i64 0,Value.slice none 0 0]):=by kernel_rfl
@[simp] theorem AdP:Bn Tryz.prog 91=some (Value.agg #[Value.int IntKind.i64 0,Value.int IntKind.i64 0,Value.slice none 0 0,Value.int IntKind.i64 0,Value.int IntKind.i64 0,Value.slice none 0 0,Value.slice none 0 0,Value.int IntKind.i64 0,Value.slice none 0 0,Value.slice none 0 0,Value.slice none 0 0,Value.slice none 0 0,Value.int IntKind.i64 0,Value.slice none 0 0]):=by kernel_rfl
@[simp] theorem zx:BJ Tryz.prog 80=some 32:=by kernel_rfl
@[simp] theorem zX:BJ Tryz.prog 89=some 208:=by kernel_rfl
@[simp] theorem Aae:BJ Tryz.prog 91=some 240:=by kernel_rfl
@[simp] theorem qQ:Aj Tryz.prog 33 0=some 0:=by kernel_rfl
@[simp] theorem qi:Aj Tryz.prog 33 1=some 1:=by kernel_rfl
@[simp] theorem qL:Aj Tryz.prog 33 2=some 4:=by kernel_rfl
@[simp] theorem qM:Aj Tryz.prog 33 3=some 7:=by kernel_rfl
@[simp] theorem qZ:Aj Tryz.prog 33 4=some 8:=by kernel_rfl
@[simp] theorem oT:Aj Tryz.prog 33 5=some 9:=by kernel_rfl
@[simp] theorem pg:Aj Tryz.prog 33 6=some 10:=by kernel_rfl
@[simp] theorem mF:Aj Tryz.prog 80 2=some 2:=by kernel_rfl
@[simp] theorem qo:Aj Tryz.prog 80 3=some 3:=by kernel_rfl
@[simp] theorem o5:Aj Tryz.prog 89 0=some 0:=by kernel_rfl
@[simp] theorem oM:Aj Tryz.prog 89 1=some 1:=by kernel_rfl
@[simp] theorem o9:Aj Tryz.prog 91 0=some 0:=by kernel_rfl
@[simp] theorem m8:Aj Tryz.prog 91 2=some 2:=by kernel_rfl
@[simp] theorem qB:Aj Tryz.prog 91 3=some 3:=by kernel_rfl
@[simp] theorem zQ (ps:List (Nat × A)):Bs Tryz.prog 33 ps=(BW (fun i=>([(0,1),(1,3),(4,3),(7,1),(8,1),(9,1),(10,1)]:List (Nat × Nat))[i]?) [iv 0,iv 0,A.sl true [],A.sl true [],iv 0,A.sl true [],A.sl true [],A.sl true [],A.sl true [],iv 0,A.sl true []] ps).map A.agg:=by kernel_rfl
def SG:CC:=sR [oN 2 (.box 25 (xT 0)) [0],oO 4 (.assign (.const (.int .u64 0)))] [1,2] (.seq (sR [mO 5 1,oO 6 (.binOp .lss 3 (xT 5) (nI 0) 3),mO 7 6,oG 8 (mV 1) 7 false,oG 9 (fA 25 2 1) 7 false,oG 10 (lD 22 9) 7 false,oG 11 (bL 10 22) 7 false,oG 12 (bO .geq 3 8 11 3) 7 false,oO 13 (.pick (xT 7) (nB true) (xT 12))] [1,2,13] (cD 13 (sR [oO 4 (.assign (.const (.int .u64 0)))] [4] (.ret)) (.skip))) (.keep [1,2] (sR [fO 14 25 2 1,lO 15 22 14,mO 16 1,oO 17 (iA 22 15 16),lO 18 51 17,aO 4 18] [4] (.ret))))
theorem bG:Bh Tryz.prog 115 19 [(.tmp 4)] SG:=Au Tryz.func115
def UG:CC:=sR [oN 2 (.box 25 (xT 0)) [0],oN 4 (.alloc 25) [1]] [1,2,4] (.seq (sR [mO 5 1,oO 6 (.binOp .lss 3 (xT 5) (nI 0) 3),mO 7 6,oG 8 (mV 1) 7 false,oG 9 (fA 25 2 2) 7 false,oG 10 (lD 23 9) 7 false,oG 11 (bL 10 23) 7 false,oG 12 (bO .geq 3 8 11 3) 7 false,oO 13 (.pick (xT 7) (nB true) (xT 12))] [1,2,4,13] (cD 13 (sR [oO 14 (.build 25 #[]),oS (.store 25 (xT 4) (xT 14))] [4] (.ret)) (.skip))) (.keep [1,2,4] (sR [fO 15 25 2 2,lO 16 23 15,mO 17 1,oO 18 (iA 23 16 17),lO 19 25 18,oS (.store 25 (xT 4) (xT 19))] [4] (.ret))))
theorem ey:Bh Tryz.prog 116 20 [(.cell 4 25)] UG:=Au Tryz.func116
def Jj:CC:=sR [oO 6 (.binOp .lss 3 (xT 5) (nI 8) 3)] [0,3,5,6] (.seq (cD 6 (.skip) (.exit 0)) (.keep [0,3,5] (.seq (.block 1 (sR [mO 7 5,aO 4 7] [0,3,4,5] (sR [mO 8 0,mO 9 4,oO 10 (bO .shr 5 8 9 3),oO 11 (.binOp .and 5 (xT 10) (.const (.int .u8 1)) 5),oO 12 (.binOp .eql 5 (xT 11) (.const (.int .u8 1)) 5)] [0,3,4,5,12] (cD 12 (.reg [mO 13 3,mO 14 4,oO 15 (.binOp .mul 3 (nI 8) (xT 14) 3),oO 16 (.binOp .shl 51 (.const (.int .u64 255)) (xT 15) 3),oO 17 (bO .or 51 13 16 51),aO 3 17] [0,3,5]) (.skip))))) (.keep [0,3,5] (.reg [oO 18 (.binOp .add 3 (xT 5) (nI 1) 3),mO 5 18] [0,3,5]))))) 
def Tg:CC:=sR [oO 2 (.assign (.const (.int .u64 0)))] [0] (sR [oO 3 (.assign (.const (.int .u64 0)))] [0,3] (.seq (sR [oO 5 (.move (nI 0))] [0,3,5] (.block 0 (.loop Jj))) (.keep [3] (sR [mO 19 3,aO 2 19] [2] (.ret)))))
theorem a7:Bh Tryz.prog 218 20 [(.tmp 2)] Tg:=Au Tryz.func218
def Vh:CC:=sR [oO 6 (.assign (.const (.int .u64 0)))] [0,1,2] (sR [mO 7 0,mO 8 2,oO 9 (cL 218 #[(xT 8)] #[5]),oO 10 (bO .andNot 51 7 9 51),mO 11 1,mO 12 2,oO 13 (cL 218 #[(xT 12)] #[5]),oO 14 (bO .and 51 11 13 51),oO 15 (bO .or 51 10 14 51),aO 6 15] [6] (.ret))
theorem dp:Bh Tryz.prog 174 16 [(.tmp 6)] Vh:=Au Tryz.func174
def F4:CC:=sR [oO 16 (bO .lss 3 15 14 3)] [1,2,4,14,15,16] (.seq (cD 16 (.skip) (.exit 0)) (.keep [1,2,4,14,15] (.seq (.block 1 (sR [mO 17 15,aO 5 17] [1,2,4,5,14,15] (.reg [fO 18 25 4 1,⟨some 19,(lD 22 18),none,[],1,[],true⟩,lO 20 53 1,mO 21 5,⟨some 22,(cL 150 #[(xT 20),(xT 21)] #[53,3]),none,[],4,[1],false⟩,⟨some 23,(.buildSlice 22 1 #[(0,(xT 22))]),none,[],5,[1],false⟩,oN 24 (bC .append #[(xT 19),(xT 23)] #[22,22]) [3],fO 25 25 4 1,oS (.store 22 (xT 25) (xT 24))] [1,2,4,14,15]))) (.reg [oO 26 (.binOp .add 3 (xT 15) (nI 1) 3),mO 15 26] [1,2,4,14,15]))))
def Ga:CC:=sR [oO 30 (bO .lss 3 29 28 3)] [1,2,4,28,29,30] (.seq (cD 30 (.skip) (.exit 2)) (.keep [1,2,4,28,29] (.seq (.block 3 (sR [mO 31 29,aO 6 31] [1,2,4,6,28,29] (sR [lO 33 53 1,mO 34 6,oO 35 (cL 194 #[(xT 33),(xT 34)] #[53,3]),mO 32 35,xO 36 32 0,xO 37 32 1,oN 7 (.alloc 53) [4],oS (.store 53 (xT 7) (xT 36)),aO 8 37] [1,2,4,7,8,28,29] (.seq (sR [mO 38 8,oO 39 (.binOp .neq 47 (xT 38) (nI 0) 47)] [1,2,4,7,8,28,29,39] (cD 39 (sR [oO 40 (.build 25 #[]),mO 41 8,oS (.store 25 (xT 2) (xT 40)),aO 3 41] [2,3] (.ret)) (.skip))) (.keep [1,2,4,7,28,29] (sR [lO 43 53 7,oO 44 (cL 156 #[(xT 43)] #[53]),mO 42 44,xO 45 42 0,xO 46 42 1,oN 9 (.alloc 25) [5],oS (.store 25 (xT 9) (xT 45)),aO 8 46] [1,2,4,8,9,28,29] (.seq (sR [mO 47 8,oO 48 (.binOp .neq 47 (xT 47) (nI 0) 47)] [1,2,4,8,9,28,29,48] (cD 48 (sR [oO 49 (.build 25 #[]),mO 50 8,oS (.store 25 (xT 2) (xT 49)),aO 3 50] [2,3] (.ret)) (.skip))) (.keep [1,2,4,9,28,29] (.reg [fO 51 25 4 2,lO 52 23 51,lO 53 25 9,oO 54 (.buildSlice 23 1 #[(0,(xT 53))]),oN 55 (bC .append #[(xT 52),(xT 54)] #[23,23]) [6],fO 56 25 4 2,oS (.store 23 (xT 56) (xT 55))] [1,2,4,28,29]))))))))) (.keep [1,2,4,28,29] (.reg [oO 57 (.binOp .add 3 (xT 29) (nI 1) 3),mO 29 57] [1,2,4,28,29]))))) 
def NV:CC:=sR [oN 1 (.box 53 (xT 0)) [0],oN 2 (.alloc 25) [1],oO 3 (.assign (nI 0))] [1,2] (sR [lO 10 53 1,oO 11 (cL 95 #[(xT 10)] #[53]),oO 12 (.build 25 #[(0,(xT 11))]),oN 4 (.alloc 25) [2],oS (.store 25 (xT 4) (xT 12))] [1,2,4] (.stop (.seq (sR [lO 13 53 1,oO 14 (cL 192 #[(xT 13)] #[53]),oO 15 (.move (nI 0))] [1,2,4,14,15] (.block 0 (.loop F4))) (.keep [1,2,4] (.seq (sR [lO 27 53 1,oO 28 (cL 137 #[(xT 27)] #[53]),oO 29 (.move (nI 0))] [1,2,4,28,29] (.block 2 (.loop Ga))) (.keep [2,4] (sR [lO 58 25 4,oS (.store 25 (xT 2) (xT 58)),oO 3 (.assign (nI 0))] [2,3] (.ret))))))))
theorem UT:Bh Tryz.prog 156 59 [(.cell 2 25),(.tmp 3)] NV:=Au Tryz.func156
@[simp] theorem Aea:Bn Tryz.prog 33=some (Value.agg #[Value.int IntKind.i64 0,Value.int IntKind.i64 0,Value.slice none 0 0,Value.slice none 0 0,Value.int IntKind.i64 0,Value.slice none 0 0,Value.slice none 0 0,Value.slice none 0 0,Value.slice none 0 0,Value.int IntKind.i64 0,Value.slice none 0 0]):=by kernel_rfl
@[simp] theorem nU:Aj Tryz.prog 80 0=some 0:=by kernel_rfl
@[simp] theorem oB:Aj Tryz.prog 80 1=some 1:=by kernel_rfl
@[simp] theorem nY:Aj Tryz.prog 91 1=some 1:=by kernel_rfl
@[simp] theorem ma:Aj Tryz.prog 116 0=some 0:=by kernel_rfl
@[simp] theorem l8:Aj Tryz.prog 130 0=some 0:=by kernel_rfl
@[simp] theorem mh:Aj Tryz.prog 130 1=some 1:=by kernel_rfl
@[simp] theorem yR (ps:List (Nat × A)):Bs Tryz.prog 80 ps=(BW (fun i=>([(0,1),(1,1),(2,1),(3,1)]:List (Nat × Nat))[i]?) [iv 0,A.v (Value.int IntKind.u8 0),A.v (Value.int IntKind.u64 0),A.v (Value.int IntKind.u64 0)] ps).map A.agg:=by kernel_rfl
@[simp] theorem yw (ps:List (Nat × A)):Bs Tryz.prog 89 ps=(BW (fun i=>([(0,1),(1,11)]:List (Nat × Nat))[i]?) [iv 0,iv 0,iv 0,A.sl true [],A.sl true [],iv 0,A.sl true [],A.sl true [],A.sl true [],A.sl true [],iv 0,A.sl true []] ps).map A.agg:=by kernel_rfl
@[simp] theorem zO (ps:List (Nat × A)):Bs Tryz.prog 91 ps=(BW (fun i=>([(0,1),(1,1),(2,1),(3,11)]:List (Nat × Nat))[i]?) [iv 0,iv 0,A.sl true [],iv 0,iv 0,A.sl true [],A.sl true [],iv 0,A.sl true [],A.sl true [],A.sl true [],A.sl true [],iv 0,A.sl true []] ps).map A.agg:=by kernel_rfl
@[simp] theorem vF (ps:List (Nat × A)):Bs Tryz.prog 116 ps=(BW (fun i=>([(0,1)]:List (Nat × Nat))[i]?) [A.sl true []] ps).map A.agg:=by kernel_rfl
@[simp] theorem xa (ps:List (Nat × A)):Bs Tryz.prog 130 ps=(BW (fun i=>([(0,1),(1,1)]:List (Nat × Nat))[i]?) [iv 0,iv 0] ps).map A.agg:=by kernel_rfl
@[simp] theorem AhQ (x0 y0:Int) (x1 y1:Int) (x2 y2:Int) (x3 y3:Int):LL Tryz.prog 100 80 (.agg [A.v (.int .i64 x0),A.v (.int .u8 x1),A.v (.int .u64 x2),A.v (.int .u64 x3)]) (.agg [A.v (.int .i64 y0),A.v (.int .u8 y1),A.v (.int .u64 y2),A.v (.int .u64 y3)])=some (((x0 == y0)&&((x1 == y1)&&((x2 == y2)&&((x3 == y3)&&(true)))))):=by kernel_rfl
@[simp] theorem Ah5:Tryz.prog.eqGuardType Tryz.prog.depth 80=false:=by kernel_rfl
@[simp] theorem vB:eU Tryz.prog 25 2=some (23,2):=by kernel_rfl
def SL:CC:=sR [oO 2 (.assign (nB false))] [0] (sR [mO 3 0,oO 4 (.binOp .geq 3 (xT 3) (nI 2) 3),mO 5 4,oG 6 (mV 0) 5 true,oG 7 (.binOp .leq 3 (xT 6) (nI 9) 3) 5 true,oO 8 (.pick (xT 5) (xT 7) (nB false)),aO 2 8] [2] (.ret))
theorem bD:Bh Tryz.prog 61 9 [(.tmp 2)] SL:=Au Tryz.func61
def BR:CC:=sR [oO 14 (bO .lss 3 13 12 3)] [0,1,12,13,14] (.seq (cD 14 (.skip) (.exit 0)) (.keep [0,1,12,13] (.seq (.block 1 (sR [mO 15 13,aO 5 15] [0,1,5,12,13] (sR [mO 16 0,mO 17 5,oO 18 (iA 22 16 17),lO 19 51 18,mO 20 1,mO 21 5,oO 22 (iA 22 20 21),lO 23 51 22,oO 24 (bO .neq 51 19 23 51)] [0,1,12,13,24] (cD 24 (sR [oO 4 (.assign (nB false))] [4] (.ret)) (.skip))))) (.keep [0,1,12,13] (.reg [oO 25 (.binOp .add 3 (xT 13) (nI 1) 3),mO 13 25] [0,1,12,13]))))) 
def Ev:CC:=sR [oO 4 (.assign (nB false))] [0,1] (.seq (sR [mO 6 0,oO 7 (bL 6 22),mO 8 1,oO 9 (bL 8 22),oO 10 (bO .neq 3 7 9 3)] [0,1,10] (cD 10 (sR [oO 4 (.assign (nB false))] [4] (.ret)) (.skip))) (.keep [0,1] (.seq (sR [mO 11 0,oO 12 (bL 11 22),oO 13 (.move (nI 0))] [0,1,12,13] (.block 0 (.loop BR))) (.keep [] (sR [oO 4 (.assign (nB true))] [4] (.ret))))))
theorem II:Bh Tryz.prog 114 26 [(.tmp 4)] Ev:=Au Tryz.func114
def HH:CC:=sR [oO 50 (bO .lss 3 49 48 3)] [2,3,48,49,50] (.seq (cD 50 (.skip) (.exit 0)) (.keep [2,3,48,49] (.seq (.block 1 (sR [mO 51 49,aO 5 51] [2,3,5,48,49] (sR [lO 52 25 2,mO 53 5,⟨some 54,(cL 115 #[(xT 52),(xT 53)] #[25,3]),none,[],2,[],true⟩,⟨some 55,(lD 25 3),none,[],3,[2],false⟩,mO 56 5,oO 57 (cL 115 #[(xT 55),(xT 56)] #[25,3]),oO 58 (bO .neq 51 54 57 51)] [2,3,48,49,58] (cD 58 (sR [oO 4 (.assign (nB false))] [4] (.ret)) (.skip))))) (.keep [2,3,48,49] (.reg [oO 59 (.binOp .add 3 (xT 49) (nI 1) 3),mO 49 59] [2,3,48,49])))))
def HM:CC:=sR [oO 68 (bO .lss 3 67 66 3)] [2,3,66,67,68] (.seq (cD 68 (.skip) (.exit 2)) (.keep [2,3,66,67] (.seq (.block 3 (sR [mO 69 67,aO 6 69] [2,3,6,66,67] (sR [lO 70 25 2,mO 71 6,⟨some 72,(cL 116 #[(xT 70),(xT 71)] #[25,3]),none,[],2,[],true⟩,⟨some 73,(lD 25 3),none,[],3,[2],false⟩,mO 74 6,oO 75 (cL 116 #[(xT 73),(xT 74)] #[25,3]),oO 76 (cL 59 #[(xT 72),(xT 75)] #[25,25]),oO 77 (.unOp .not 4 (xT 76))] [2,3,66,67,77] (cD 77 (sR [oO 4 (.assign (nB false))] [4] (.ret)) (.skip))))) (.keep [2,3,66,67] (.reg [oO 78 (.binOp .add 3 (xT 67) (nI 1) 3),mO 67 78] [2,3,66,67])))))
def KV:CC:=.seq (sR [fO 42 25 2 1,lO 43 22 42,oO 44 (bL 43 22),fO 45 25 3 1,lO 46 22 45,oO 47 (bL 46 22),oO 48 (bC .max #[(xT 44),(xT 47)] #[3,3]),oO 49 (.move (nI 0))] [2,3,48,49] (.block 0 (.loop HH))) (.keep [2,3] (.seq (sR [fO 60 25 2 2,lO 61 23 60,oO 62 (bL 61 23),fO 63 25 3 2,lO 64 23 63,oO 65 (bL 64 23),oO 66 (bC .max #[(xT 62),(xT 65)] #[3,3]),oO 67 (.move (nI 0))] [2,3,66,67] (.block 2 (.loop HM))) (.keep [] (sR [oO 4 (.assign (nB true))] [4] (.ret))))) 
def L4:CC:=sR [oN 2 (.box 25 (xT 0)) [0],oN 3 (.box 25 (xT 1)) [1],oO 4 (.assign (nB false))] [2,3] (.seq (sR [fO 7 25 2 0,lO 8 3 7,fO 9 25 3 0,lO 10 3 9,oO 11 (bO .neq 3 8 10 3),mO 12 11,oG 13 (fA 25 2 0) 12 false,oG 14 (lD 3 13) 12 false,oG 15 (.binOp .eql 3 (xT 14) (nI 0) 3) 12 false,oO 16 (.pick (xT 12) (nB true) (xT 15))] [2,3,16] (cD 16 (sR [fO 17 25 2 0,lO 18 3 17,fO 19 25 3 0,lO 20 3 19,oO 21 (bO .eql 3 18 20 3),aO 4 21] [4] (.ret)) (.skip))) (.keep [2,3] (.seq (sR [fO 22 25 2 0,lO 23 3 22,oO 24 (.binOp .neq 3 (xT 23) (nI 1) 3),mO 25 24,oG 26 (fA 25 2 2) 25 true,oG 27 (lD 23 26) 25 true,oG 28 (bL 27 23) 25 true,oG 29 (fA 25 3 2) 25 true,oG 30 (lD 23 29) 25 true,oG 31 (bL 30 23) 25 true,oG 32 (bO .neq 3 28 31 3) 25 true,oG 33 (mV 32) 25 true,oG 34 (fA 25 2 1) 33 false,oG 35 (lD 22 34) 33 false,oG 36 (fA 25 3 1) 33 false,oG 37 (lD 22 36) 33 false,oG 38 (cL 114 #[(xT 35),(xT 37)] #[22,22]) 33 false,oG 39 (.unOp .not 4 (xT 38)) 33 false,oG 40 (.pick (xT 33) (nB true) (xT 39)) 25 true,oO 41 (.pick (xT 25) (xT 40) (nB false))] [2,3,41] (cD 41 (sR [oO 4 (.assign (nB false))] [4] (.ret)) (.skip))) (.keep [2,3] (.stop KV)))))
theorem QC:Bh Tryz.prog 59 79 [(.tmp 4)] L4:=Au Tryz.func59
@[simp] theorem AfT:Tryz.prog.underlying 240=some (.slice 164):=by kernel_rfl
@[simp] theorem Af5:Tryz.prog.underlying 242=some (.slice 245):=by kernel_rfl
@[simp] theorem Ago:Tryz.prog.underlying 258=some (.slice 260):=by kernel_rfl
@[simp] theorem Af6:Tryz.prog.underlying 279=some (.slice 282):=by kernel_rfl
@[simp] theorem Agp:CI Tryz.prog 245=some 2:=by kernel_rfl
@[simp] theorem AfY:CI Tryz.prog 260=some 2:=by kernel_rfl
@[simp] theorem Agl:CI Tryz.prog 279=some 1:=by kernel_rfl
@[simp] theorem Aeg:CI Tryz.prog 282=some 3:=by kernel_rfl
@[simp] theorem Ab4:C5 Tryz.prog 245=some true:=by kernel_rfl
@[simp] theorem Ach:C5 Tryz.prog 260=some true:=by kernel_rfl
@[simp] theorem Abv:C5 Tryz.prog 279=some false:=by kernel_rfl
@[simp] theorem AdE:C5 Tryz.prog 282=some true:=by kernel_rfl
@[simp] theorem zn:Bn Tryz.prog 164=some (Value.slice none 0 0):=by kernel_rfl
@[simp] theorem yN:Bn Tryz.prog 245=some (Value.agg #[Value.int IntKind.i64 0,Value.int IntKind.i64 0]):=by kernel_rfl
@[simp] theorem za:Bn Tryz.prog 260=some (Value.agg #[Value.int IntKind.i64 0,Value.int IntKind.i64 0]):=by kernel_rfl
@[simp] theorem Aaa:Bn Tryz.prog 282=some (Value.agg #[Value.int IntKind.i64 0,Value.int IntKind.i64 0,Value.int IntKind.i64 0]):=by kernel_rfl
@[simp] theorem xL:BJ Tryz.prog 164=some 24:=by kernel_rfl
@[simp] theorem vI:BJ Tryz.prog 245=some 16:=by kernel_rfl
@[simp] theorem v7:BJ Tryz.prog 260=some 16:=by kernel_rfl
@[simp] theorem xe:BJ Tryz.prog 282=some 24:=by kernel_rfl
@[simp] theorem lR:Aj Tryz.prog 245 0=some 0:=by kernel_rfl
@[simp] theorem lL:Aj Tryz.prog 245 1=some 1:=by kernel_rfl
@[simp] theorem lp:Aj Tryz.prog 260 0=some 0:=by kernel_rfl
@[simp] theorem lx:Aj Tryz.prog 260 1=some 1:=by kernel_rfl
@[simp] theorem mb:Aj Tryz.prog 282 0=some 0:=by kernel_rfl
@[simp] theorem mD:Aj Tryz.prog 282 1=some 2:=by kernel_rfl
@[simp] theorem vE (ps:List (Nat × A)):Bs Tryz.prog 245 ps=(BW (fun i=>([(0,1),(1,1)]:List (Nat × Nat))[i]?) [iv 0,iv 0] ps).map A.agg:=by kernel_rfl
@[simp] theorem yg (ps:List (Nat × A)):Bs Tryz.prog 260 ps=(BW (fun i=>([(0,1),(1,1)]:List (Nat × Nat))[i]?) [iv 0,iv 0] ps).map A.agg:=by kernel_rfl
@[simp] theorem wZ (ps:List (Nat × A)):Bs Tryz.prog 282 ps=(BW (fun i=>([(0,2),(2,1)]:List (Nat × Nat))[i]?) [iv 0,iv 0,iv 0] ps).map A.agg:=by kernel_rfl
def MF:CC:=sR [oO 2 (.assign (nB false))] [0] (sR [mO 3 0,mO 4 0,oO 5 (bO .neq 3 3 4 3),aO 2 5] [2] (.ret))
theorem TF:Bh Tryz.prog 266 6 [(.tmp 2)] MF:=Au Tryz.func266
def Ky:CC:=sR [oO 4 (.assign (nI 0))] [0,1] (sR [mO 7 0,oO 8 (cL 266 #[(xT 7)] #[3]),aO 5 8] [0,1,5] (sR [mO 9 1,oO 10 (cL 266 #[(xT 9)] #[3]),aO 6 10] [0,1,5,6] (.seq (sR [mO 11 5] [0,1,6,11] (cD 11 (.seq (sR [mO 12 6] [12] (cD 12 (sR [oO 4 (.assign (nI 0))] [4] (.ret)) (.skip))) (.keep [] (sR [oO 4 (.assign (.const (.int .i64 (-1))))] [4] (.ret)))) (.skip))) (.keep [0,1,6] (.seq (sR [mO 13 6] [0,1,13] (cD 13 (sR [oO 4 (.assign (nI 1))] [4] (.ret)) (.skip))) (.keep [0,1] (.seq (sR [mO 14 0,mO 15 1,oO 16 (bO .lss 3 14 15 3)] [0,1,16] (cD 16 (sR [oO 4 (.assign (.const (.int .i64 (-1))))] [4] (.ret)) (.skip))) (.keep [0,1] (.seq (sR [mO 17 0,mO 18 1,oO 19 (bO .gtr 3 17 18 3)] [19] (cD 19 (sR [oO 4 (.assign (nI 1))] [4] (.ret)) (.skip))) (.keep [] (sR [oO 4 (.assign (nI 0))] [4] (.ret))))))))))))
theorem Q3:Bh Tryz.prog 243 20 [(.tmp 4)] Ky:=Au Tryz.func243
def F3:CC:=sR [oO 9 (bO .lss 3 8 7 3)] [3,6,7,8,9] (.seq (cD 9 (.skip) (.exit 0)) (.keep [3,6,7,8] (.seq (.block 1 (sR [oO 10 (iA 164 6 8),lO 11 3 10,aO 5 11] [3,5,6,7,8] (sR [mO 12 5,mO 13 3,oO 14 (bO .neq 3 12 13 3)] [3,5,6,7,8,14] (cD 14 (sR [mO 15 5,aO 2 15] [2] (.ret)) (.skip))))) (.keep [3,6,7,8] (.reg [oO 16 (.binOp .add 3 (xT 8) (nI 1) 3),mO 8 16] [3,6,7,8]))))) 
def QI:CC:=sR [oO 2 (.assign (nI 0))] [0] (sR [oO 3 (.assign (nI 0))] [0,3] (.seq (sR [mO 6 0,oO 7 (bL 6 164),oO 8 (.move (nI 0))] [3,6,7,8] (.block 0 (.loop F3))) (.keep [3] (sR [mO 17 3,aO 2 17] [2] (.ret)))))
theorem Yt:Bh Tryz.prog 310 18 [(.tmp 2)] QI:=Au Tryz.func310
def IW:CC:=sR [oN 2 (.box 282 (xT 0)) [0],oN 3 (.box 282 (xT 1)) [1],oO 4 (.assign (nB false))] [2,3] (sR [fO 5 282 3 1,lO 6 3 5,fO 7 282 2 1,lO 8 3 7,⟨some 9,(cL 243 #[(xT 6),(xT 8)] #[3,3]),none,[],4,[],true⟩,fO 10 282 2 0,fO 11 245 10 0,⟨some 12,(lD 3 11),none,[],7,[4],false⟩,fO 13 282 3 0,fO 14 245 13 0,⟨some 15,(lD 3 14),none,[],10,[4],false⟩,⟨some 16,(cL 243 #[(xT 12),(xT 15)] #[3,3]),none,[],11,[],true⟩,fO 17 282 2 0,fO 18 245 17 1,⟨some 19,(lD 3 18),none,[],14,[4,11],false⟩,fO 20 282 3 0,fO 21 245 20 1,⟨some 22,(lD 3 21),none,[],17,[4,11],false⟩,oO 23 (cL 243 #[(xT 19),(xT 22)] #[3,3]),oO 24 (.buildSlice 164 3 #[(0,(xT 9)),(1,(xT 16)),(2,(xT 23))]),oO 25 (cL 310 #[(xT 24)] #[164]),oO 26 (.binOp .lss 3 (xT 25) (nI 0) 3),aO 4 26] [4] (.ret))
theorem Oy:Bh Tryz.prog 309 27 [(.tmp 4)] IW:=Au Tryz.func309
def MJ:CC:=.reg [mO 4 0,mO 5 0,oO 6 (.nilCheck (xT 5)),⟨some 7,(lD 279 6),none,[],3,[],true⟩,mO 8 1,oO 9 (.typeAssert (xT 8) 20 282 false),⟨some 10,(.buildSlice 279 1 #[(0,(xT 9))]),none,[],6,[3],false⟩,oN 11 (bC .append #[(xT 7),(xT 10)] #[279,279]) [1],oO 12 (.nilCheck (xT 4)),oS (.store 279 (xT 12) (xT 11))] []
theorem Ty:Bh Tryz.prog 307 13 [] MJ:=Au Tryz.func307
def Ni:CC:=sR [oO 2 (.assign (.const .nilIface))] [0] (sR [mO 5 0,oO 6 (.nilCheck (xT 5)),lO 7 279 6,aO 3 7] [0,3] (sR [mO 8 3,mO 9 3,oO 10 (bL 9 279),oO 11 (.binOp .sub 3 (xT 10) (nI 1) 3),oO 12 (iA 279 8 11),lO 13 282 12,oN 4 (.alloc 282) [1],oS (.store 282 (xT 4) (xT 13))] [0,3,4] (sR [mO 14 0,mO 15 3,mO 16 3,oO 17 (bL 16 279),oO 18 (.binOp .sub 3 (xT 17) (nI 1) 3),oO 19 (.slice 279 (xT 15) none (some (xT 18)) none),oO 20 (.nilCheck (xT 14)),oS (.store 279 (xT 20) (xT 19))] [4] (sR [lO 21 282 4,oO 22 (.makeInterface 282 (xT 21)),aO 2 22] [2] (.ret)))))
theorem VA:Bh Tryz.prog 306 23 [(.tmp 2)] Ni:=Au Tryz.func306
def Nq:CC:=sR [oO 2 (.assign (nI 0))] [0] (sR [mO 3 0,oO 4 (bL 3 279),aO 2 4] [2] (.ret))
theorem UC:Bh Tryz.prog 237 5 [(.tmp 2)] Nq:=Au Tryz.func237
def MH:CC:=sR [oO 6 (.assign (nB false))] [0,1,2] (sR [mO 7 0,mO 8 1,oO 9 (iA 279 7 8),lO 10 282 9,mO 11 0,mO 12 2,oO 13 (iA 279 11 12),lO 14 282 13,oO 15 (cL 309 #[(xT 10),(xT 14)] #[282,282]),aO 6 15] [6] (.ret))
theorem Tz:Bh Tryz.prog 305 16 [(.tmp 6)] MH:=Au Tryz.func305
def My:CC:=.reg [mO 6 0,mO 7 1,mO 8 0,mO 9 2,mO 10 0,mO 11 2,oO 12 (iA 279 10 11),lO 13 282 12,mO 14 0,mO 15 1,oO 16 (iA 279 14 15),lO 17 282 16,oO 18 (iA 279 6 7),oS (.store 282 (xT 18) (xT 13)),oO 19 (iA 279 8 9),oS (.store 282 (xT 19) (xT 17))] []
theorem TK:Bh Tryz.prog 308 20 [] My:=Au Tryz.func308
def E9:CC:=.block 1 (sR [mO 5 1,oO 6 (.binOp .sub 3 (xT 5) (nI 1) 3),oO 7 (.binOp .quo 3 (xT 6) (nI 2) 3),aO 4 7] [0,1,4] (.seq (sR [mO 8 4,mO 9 1,oO 10 (bO .eql 3 8 9 3),mO 11 10,oG 12 (mV 0) 11 false,oG 13 (mV 1) 11 false,oG 14 (mV 4) 11 false,oG 15 (.call { callee:=(.invoke (xT 12) "Less"),args:=#[(xT 13),(xT 14)],argTypes:=#[3,3] }) 11 false,oG 16 (.unOp .not 4 (xT 15)) 11 false,oO 17 (.pick (xT 11) (nB true) (xT 16))] [0,1,4,17] (cD 17 (.exit 0) (.skip))) (.keep [0,1,4] (sR [mO 18 0,mO 19 4,mO 20 1,oO 21 (.call { callee:=(.invoke (xT 18) "Swap"),args:=#[(xT 19),(xT 20)],argTypes:=#[3,3] })] [0,4] (.reg [mO 22 4,aO 1 22] [0,1]))))) 
def I3:CC:=.block 0 (.loop E9)
theorem OL:Bh Tryz.prog 261 23 [] I3:=Au Tryz.func261
def CX:CC:=.seq (sR [mO 35 0,mO 36 9,mO 37 7,oO 38 (.call { callee:=(.invoke (xT 35) "Less"),args:=#[(xT 36),(xT 37)],argTypes:=#[3,3] }),oO 39 (.unOp .not 4 (xT 38))] [0,1,2,7,9,39] (cD 39 (.exit 0) (.skip))) (.keep [0,1,2,7,9] (sR [mO 40 0,mO 41 7,mO 42 9,oO 43 (.call { callee:=(.invoke (xT 40) "Swap"),args:=#[(xT 41),(xT 42)],argTypes:=#[3,3] })] [0,1,2,9] (.reg [mO 44 9,aO 7 44] [0,1,2,7])))
def C0:CC:=.block 1 (sR [mO 12 7,oO 13 (.binOp .mul 3 (nI 2) (xT 12) 3),oO 14 (.binOp .add 3 (xT 13) (nI 1) 3),aO 8 14] [0,1,2,7,8] (.seq (sR [mO 15 8,mO 16 2,oO 17 (bO .geq 3 15 16 3),mO 18 17,oG 19 (mV 8) 18 false,oG 20 (.binOp .lss 3 (xT 19) (nI 0) 3) 18 false,oO 21 (.pick (xT 18) (nB true) (xT 20))] [0,1,2,7,8,21] (cD 21 (.exit 0) (.skip))) (.keep [0,1,2,7,8] (sR [mO 22 8,aO 9 22] [0,1,2,7,8,9] (.seq (sR [mO 23 8,oO 24 (.binOp .add 3 (xT 23) (nI 1) 3),aO 10 24] [0,1,2,7,8,9,10] (sR [mO 25 10,mO 26 2,oO 27 (bO .lss 3 25 26 3),mO 28 27,oG 29 (mV 0) 28 true,oG 30 (mV 10) 28 true,oG 31 (mV 8) 28 true,oG 32 (.call { callee:=(.invoke (xT 29) "Less"),args:=#[(xT 30),(xT 31)],argTypes:=#[3,3] }) 28 true,oO 33 (.pick (xT 28) (xT 32) (nB false))] [0,1,2,7,9,10,33] (cD 33 (.reg [mO 34 10,aO 9 34] [0,1,2,7,9]) (.skip)))) (.keep [0,1,2,7,9] CX)))))) 
def Hq:CC:=sR [oO 6 (.assign (nB false))] [0,1,2] (sR [mO 11 1,aO 7 11] [0,1,2,7] (.seq (.block 0 (.loop C0)) (.keep [1,7] (sR [mO 45 7,mO 46 1,oO 47 (bO .gtr 3 45 46 3),aO 6 47] [6] (.ret)))))
theorem MR:Bh Tryz.prog 262 48 [(.tmp 6)] Hq:=Au Tryz.func262
def Ht:CC:=sR [mO 4 0,mO 5 1,oO 6 (.call { callee:=(.invoke (xT 4) "Push"),args:=#[(xT 5)],argTypes:=#[20] })] [0] (.reg [mO 7 0,mO 8 0,oO 9 (.call { callee:=(.invoke (xT 8) "Len"),args:=#[],argTypes:=#[] }),oO 10 (.binOp .sub 3 (xT 9) (nI 1) 3),oO 11 (cL 261 #[(xT 7),(xT 10)] #[304,3])] [])
theorem ML:Bh Tryz.prog 236 12 [] Ht:=Au Tryz.func236
def H5:CC:=sR [oO 2 (.assign (.const .nilIface))] [0] (sR [mO 4 0,oO 5 (.call { callee:=(.invoke (xT 4) "Len"),args:=#[],argTypes:=#[] }),oO 6 (.binOp .sub 3 (xT 5) (nI 1) 3),aO 3 6] [0,3] (sR [mO 7 0,mO 8 3,oO 9 (.call { callee:=(.invoke (xT 7) "Swap"),args:=#[(nI 0),(xT 8)],argTypes:=#[3,3] })] [0,3] (sR [mO 10 0,mO 11 3,oO 12 (cL 262 #[(xT 10),(nI 0),(xT 11)] #[304,3,3])] [0] (sR [mO 13 0,oO 14 (.call { callee:=(.invoke (xT 13) "Pop"),args:=#[],argTypes:=#[] }),aO 2 14] [2] (.ret)))))
theorem Nz:Bh Tryz.prog 238 15 [(.tmp 2)] H5:=Au Tryz.func238
def IZ:CC:=sR [oN 2 (.box 245 (xT 0)) [0],oN 3 (.box 245 (xT 1)) [1],oO 4 (.assign (nB false))] [2,3] (sR [fO 5 245 2 0,lO 6 3 5,fO 7 245 3 0,lO 8 3 7,oO 9 (bO .lss 3 6 8 3),mO 10 9,oG 11 (fA 245 2 1) 10 true,oG 12 (lD 3 11) 10 true,oG 13 (fA 245 3 1) 10 true,oG 14 (lD 3 13) 10 true,oG 15 (bO .lss 3 12 14 3) 10 true,oO 16 (.pick (xT 10) (xT 15) (nB false)),mO 17 16,oG 18 (fA 245 2 0) 17 false,oG 19 (lD 3 18) 17 false,oG 20 (fA 245 3 0) 17 false,oG 21 (lD 3 20) 17 false,oG 22 (bO .gtr 3 19 21 3) 17 false,oG 23 (mV 22) 17 false,oG 24 (fA 245 2 1) 23 true,oG 25 (lD 3 24) 23 true,oG 26 (fA 245 3 1) 23 true,oG 27 (lD 3 26) 23 true,oG 28 (bO .gtr 3 25 27 3) 23 true,oG 29 (.pick (xT 23) (xT 28) (nB false)) 17 false,oO 30 (.pick (xT 17) (nB true) (xT 29)),oO 31 (.unOp .not 4 (xT 30)),aO 4 31] [4] (.ret))
theorem OQ:Bh Tryz.prog 240 32 [(.tmp 4)] IZ:=Au Tryz.func240
def Bc:CC:=sR [oO 9 (bO .lss 3 8 7 3)] [0,1,7,8,9] (.seq (cD 9 (.skip) (.exit 0)) (.keep [0,1,7,8] (.seq (.block 1 (sR [mO 10 8,aO 5 10] [0,1,5,7,8] (sR [mO 11 1,mO 12 0,mO 13 5,oO 14 (iA 242 12 13),lO 15 245 14,oO 16 (.call { callee:=(.value (xT 11)),args:=#[(xT 15)],argTypes:=#[245] })] [0,1,5,7,8,16] (cD 16 (sR [mO 17 5,aO 4 17] [4] (.ret)) (.skip))))) (.keep [0,1,7,8] (.reg [oO 18 (.binOp .add 3 (xT 8) (nI 1) 3),mO 8 18] [0,1,7,8]))))) 
def CH:CC:=sR [oO 4 (.assign (nI 0))] [0,1] (.seq (sR [mO 6 0,oO 7 (bL 6 242),oO 8 (.move (nI 0))] [0,1,7,8] (.block 0 (.loop Bc))) (.keep [] (sR [oO 4 (.assign (.const (.int .i64 (-1))))] [4] (.ret))))
theorem Fk:Bh Tryz.prog 263 19 [(.tmp 4)] CH:=Au Tryz.func263
def Cp:CC:=sR [oO 4 (.assign (nB false))] [0,1] (sR [mO 5 0,mO 6 1,oO 7 (cL 263 #[(xT 5),(xT 6)] #[242,285]),oO 8 (.binOp .geq 3 (xT 7) (nI 0) 3),aO 4 8] [4] (.ret))
theorem Eu:Bh Tryz.prog 239 9 [(.tmp 4)] Cp:=Au Tryz.func239
def O4:CC:=sR [oN 2 (.box 245 (xT 0)) [0],oN 3 (.box 245 (xT 1)) [1],oO 4 (.assign (nI 0))] [2,3] (sR [fO 5 245 2 0,lO 6 3 5,fO 7 245 3 0,lO 8 3 7,oO 9 (cL 243 #[(xT 6),(xT 8)] #[3,3]),aO 4 9] [4] (.ret))
theorem WC:Bh Tryz.prog 242 10 [(.tmp 4)] O4:=Au Tryz.func242
def GW:CC:=sR [oO 22 (bO .lss 3 21 20 3)] [3,4,12,13,14,19,20,21,22] (.seq (cD 22 (.skip) (.exit 2)) (.keep [3,4,12,13,14,19,20,21] (.seq (.block 3 (sR [mO 23 21,oO 24 (iA 164 19 21),lO 25 3 24,aO 6 23,aO 7 25] [3,4,6,7,12,13,14,19,20,21] (sR [mO 26 7,oO 27 (.binOp .gtr 3 (xT 26) (nI 0) 3),mO 28 27,oG 29 (mV 4) 28 true,oG 30 (.binOp .lss 3 (xT 29) (nI 16) 3) 28 true,oO 31 (.pick (xT 28) (xT 30) (nB false)),mO 32 31,oG 33 (mV 6) 32 true,oG 34 (.binOp .lss 3 (xT 33) (nI 16) 3) 32 true,oO 35 (.pick (xT 32) (xT 34) (nB false))] [3,4,6,7,12,13,14,19,20,21,35] (cD 35 (.reg [mO 36 3,oO 37 (.makeInterface 277 (xT 36)),mO 38 4,mO 39 6,oO 40 (.build 245 #[(0,(xT 38)),(1,(xT 39))]),mO 41 7,oO 42 (.build 282 #[(0,(xT 40)),(1,(xT 41))]),oO 43 (.makeInterface 282 (xT 42)),oO 44 (cL 236 #[(xT 37),(xT 43)] #[304,20])] [3,4,12,13,14,19,20,21]) (.skip))))) (.keep [3,4,12,13,14,19,20,21] (.reg [oO 45 (.binOp .add 3 (xT 21) (nI 1) 3),mO 21 45] [3,4,12,13,14,19,20,21])))))
def Jb:CC:=sR [oO 15 (bO .lss 3 14 13 3)] [3,12,13,14,15] (.seq (cD 15 (.skip) (.exit 0)) (.keep [3,12,13,14] (.seq (.block 1 (sR [mO 16 14,oO 17 (iA 240 12 14),lO 18 164 17,aO 4 16,aO 5 18] [3,4,5,12,13,14] (sR [mO 19 5,oO 20 (bL 19 164),oO 21 (.move (nI 0))] [3,4,12,13,14,19,20,21] (.block 2 (.loop GW))))) (.keep [3,12,13,14] (.reg [oO 46 (.binOp .add 3 (xT 14) (nI 1) 3),mO 14 46] [3,12,13,14])))))
def G4:CC:=.seq (sR [mO 47 3,oO 48 (.nilCheck (xT 47)),lO 49 279 48,oO 50 (cL 237 #[(xT 49)] #[277]),oO 51 (.binOp .gtr 3 (xT 50) (nI 0) 3)] [3,8,51] (cD 51 (.skip) (.exit 4))) (.keep [3,8] (.block 5 (sR [mO 52 3,oO 53 (.makeInterface 277 (xT 52)),oO 54 (cL 238 #[(xT 53)] #[304]),oO 55 (.typeAssert (xT 54) 20 282 false),oN 9 (.alloc 282) [1],oS (.store 282 (xT 9) (xT 55))] [3,8,9] (sR [mO 56 8,fO 57 282 9 0,lO 58 245 57,oO 59 (.makeFunc (.func 240) #[(xT 58)] #[]),oO 60 (cL 239 #[(xT 56),(xT 59)] #[242,285]),oO 61 (.unOp .not 4 (xT 60))] [3,8,9,61] (cD 61 (.reg [mO 62 8,fO 63 282 9 0,lO 64 245 63,oO 65 (.buildSlice 242 1 #[(0,(xT 64))]),oN 66 (bC .append #[(xT 62),(xT 65)] #[242,242]) [2],aO 8 66] [3,8]) (.skip)))))) 
def SU:CC:=sR [oO 2 (.assign nS)] [0] (sR [oO 10 (.buildSlice 279 0 #[]),oN 11 (.box 279 (xT 10)) [0],aO 3 11] [0,3] (.seq (sR [mO 12 0,oO 13 (bL 12 240),oO 14 (.move (nI 0))] [3,12,13,14] (.block 0 (.loop Jb))) (.keep [3] (sR [oO 8 (.assign nS)] [3,8] (.seq (.block 4 (.loop G4)) (.keep [8] (sR [mO 67 8,oO 68 (cL 241 #[(xT 67),(.func 242)] #[242,287])] [8] (sR [mO 69 8,aO 2 69] [2] (.ret)))))))))
theorem ZA:Bh Tryz.prog 203 70 [(.tmp 2)] SU:=Au Tryz.func203
def HN:CC:=sR [oO 31 (bO .lss 3 30 29 3)] [2,3,5,29,30,31] (.seq (cD 31 (.skip) (.exit 0)) (.keep [2,3,5,29,30] (.seq (.block 1 (sR [mO 32 30,aO 6 32] [2,3,5,6,29,30] (sR [fO 33 25 2 1,lO 34 22 33,mO 35 6,oO 36 (iA 22 34 35),lO 37 51 36,fO 38 25 3 1,lO 39 22 38,mO 40 6,oO 41 (iA 22 39 40),lO 42 51 41,oO 43 (bO .eql 51 37 42 51)] [2,3,5,29,30,43] (cD 43 (.reg [mO 44 5,oO 45 (.binOp .add 3 (xT 44) (nI 1) 3),aO 5 45] [2,3,5,29,30]) (.skip))))) (.keep [2,3,5,29,30] (.reg [oO 46 (.binOp .add 3 (xT 30) (nI 1) 3),mO 30 46] [2,3,5,29,30])))))
def HS:CC:=sR [oO 55 (bO .lss 3 54 53 3)] [2,3,5,53,54,55] (.seq (cD 55 (.skip) (.exit 2)) (.keep [2,3,5,53,54] (.seq (.block 3 (sR [mO 56 54,aO 7 56] [2,3,5,7,53,54] (sR [fO 57 25 2 2,lO 58 23 57,mO 59 7,oO 60 (iA 23 58 59),lO 61 25 60,fO 62 25 3 2,lO 63 23 62,mO 64 7,oO 65 (iA 23 63 64),lO 66 25 65,oO 67 (cL 59 #[(xT 61),(xT 66)] #[25,25])] [2,3,5,53,54,67] (cD 67 (.reg [mO 68 5,oO 69 (.binOp .add 3 (xT 68) (nI 1) 3),aO 5 69] [2,3,5,53,54]) (.skip))))) (.keep [2,3,5,53,54] (.reg [oO 70 (.binOp .add 3 (xT 54) (nI 1) 3),mO 54 70] [2,3,5,53,54]))))) 
def QU:CC:=sR [oN 2 (.box 25 (xT 0)) [0],oN 3 (.box 25 (xT 1)) [1],oO 4 (.assign (nI 0))] [2,3] (.seq (sR [fO 8 25 2 0,lO 9 3 8,fO 10 25 3 0,lO 11 3 10,oO 12 (bO .neq 3 9 11 3),mO 13 12,oG 14 (fA 25 2 0) 13 false,oG 15 (lD 3 14) 13 false,oG 16 (.binOp .eql 3 (xT 15) (nI 0) 3) 13 false,oO 17 (.pick (xT 13) (nB true) (xT 16)),mO 18 17,oG 19 (fA 25 2 0) 18 false,oG 20 (lD 3 19) 18 false,oG 21 (.binOp .eql 3 (xT 20) (nI 10) 3) 18 false,oO 22 (.pick (xT 18) (nB true) (xT 21))] [2,3,22] (cD 22 (sR [oO 4 (.assign (nI 0))] [4] (.ret)) (.skip))) (.keep [2,3] (sR [oO 5 (.assign (nI 1))] [2,3,5] (.seq (sR [fO 23 25 2 1,lO 24 22 23,oO 25 (bL 24 22),fO 26 25 3 1,lO 27 22 26,oO 28 (bL 27 22),oO 29 (bC .min #[(xT 25),(xT 28)] #[3,3]),oO 30 (.move (nI 0))] [2,3,5,29,30] (.block 0 (.loop HN))) (.keep [2,3,5] (.seq (sR [fO 47 25 2 2,lO 48 23 47,oO 49 (bL 48 23),fO 50 25 3 2,lO 51 23 50,oO 52 (bL 51 23),oO 53 (bC .min #[(xT 49),(xT 52)] #[3,3]),oO 54 (.move (nI 0))] [2,3,5,53,54] (.block 2 (.loop HS))) (.keep [5] (sR [mO 71 5,aO 4 71] [4] (.ret)))))))))
theorem Zm:Bh Tryz.prog 202 72 [(.tmp 4)] QU:=Au Tryz.func202
@[simp] theorem AiG:Tryz.prog.underlying 9=some .string:=by kernel_rfl
@[simp] theorem AgJ:Tryz.prog.underlying 269=some (.int .u64):=by kernel_rfl
@[simp] theorem Aek:Tryz.prog.underlying 319=some (.int .i64):=by kernel_rfl
@[simp] theorem Agv:Tryz.prog.underlying 328=some (.int .u64):=by kernel_rfl
@[simp] theorem AeD:CI Tryz.prog 328=some 1:=by kernel_rfl
@[simp] theorem Aec:C5 Tryz.prog 328=some false:=by kernel_rfl
@[simp] theorem yA:Bn Tryz.prog 328=some (Value.int IntKind.u64 0):=by kernel_rfl
def JN:CC:=.seq (sR [mO 13 0,oO 14 (.binOp .geq 51 (xT 13) (.const (.int .u64 256)) 51)] [0,2,14] (cD 14 (sR [mO 15 0,oO 16 (.binOp .shr 51 (xT 15) (.const (.int .u64 8)) 269),aO 0 16] [0,2] (.reg [mO 17 2,oO 18 (.binOp .add 3 (xT 17) (nI 8) 3),aO 2 18] [0,2])) (.skip))) (.keep [0,2] (sR [mO 19 2,mO 20 0,oO 21 (.convert 51 5 (xT 20)),oO 22 (.index 9 (.const (.string { data:=#[0,1,2,2,3,3,3,3,4,4,4,4,4,4,4,4,5,5,5,5,5,5,5,5,5,5,5,5,5,5,5,5,6,6,6,6,6,6,6,6,6,6,6,6,6,6,6,6,6,6,6,6,6,6,6,6,6,6,6,6,6,6,6,6,7,7,7,7,7,7,7,7,7,7,7,7,7,7,7,7,7,7,7,7,7,7,7,7,7,7,7,7,7,7,7,7,7,7,7,7,7,7,7,7,7,7,7,7,7,7,7,7,7,7,7,7,7,7,7,7,7,7,7,7,7,7,7,7,8,8,8,8,8,8,8,8,8,8,8,8,8,8,8,8,8,8,8,8,8,8,8,8,8,8,8,8,8,8,8,8,8,8,8,8,8,8,8,8,8,8,8,8,8,8,8,8,8,8,8,8,8,8,8,8,8,8,8,8,8,8,8,8,8,8,8,8,8,8,8,8,8,8,8,8,8,8,8,8,8,8,8,8,8,8,8,8,8,8,8,8,8,8,8,8,8,8,8,8,8,8,8,8,8,8,8,8,8,8,8,8,8,8,8,8,8,8,8,8,8,8,8,8,8,8,8,8] })) (xT 21)),oO 23 (.convert 5 3 (xT 22)),oO 24 (bO .add 3 19 23 3),aO 2 24] [2] (.ret)))
def JR:CC:=.seq (sR [mO 7 0,oO 8 (.binOp .geq 51 (xT 7) (.const (.int .u64 65536)) 51)] [0,2,8] (cD 8 (sR [mO 9 0,oO 10 (.binOp .shr 51 (xT 9) (.const (.int .u64 16)) 269),aO 0 10] [0,2] (.reg [mO 11 2,oO 12 (.binOp .add 3 (xT 11) (nI 16) 3),aO 2 12] [0,2])) (.skip))) (.keep [0,2] JN) 
def KL:CC:=sR [oO 2 (.assign (nI 0))] [0,2] (.seq (sR [mO 3 0,oO 4 (.binOp .geq 51 (xT 3) (.const (.int .u64 4294967296)) 51)] [0,2,4] (cD 4 (sR [mO 5 0,oO 6 (.binOp .shr 51 (xT 5) (.const (.int .u64 32)) 269),aO 0 6] [0] (.reg [oO 2 (.assign (nI 32))] [0,2])) (.skip))) (.keep [0,2] JR))
theorem Q4:Bh Tryz.prog 280 25 [(.tmp 2)] KL:=Au Tryz.func280
def Mx:CC:=sR [oO 2 (.assign (nI 0))] [0] (.seq (.cond (nB false) (sR [mO 3 0,oO 4 (.convert 269 288 (xT 3)),oO 5 (cL 279 #[(xT 4)] #[288]),aO 2 5] [2] (.ret)) (.skip)) (.keep [0] (sR [mO 6 0,oO 7 (cL 280 #[(xT 6)] #[51]),aO 2 7] [2] (.ret))))
theorem TG:Bh Tryz.prog 265 8 [(.tmp 2)] Mx:=Au Tryz.func265
def A8:CC:=.seq (sR [mO 18 9,mO 19 1,oO 20 (bO .gtr 3 18 19 3),mO 21 20,oG 22 (mV 3) 21 true,oG 23 (mV 0) 21 true,oG 24 (mV 9) 21 true,oG 25 (iA 242 23 24) 21 true,oG 26 (lD 245 25) 21 true,oG 27 (mV 0) 21 true,oG 28 (mV 9) 21 true,oG 29 (.binOp .sub 3 (xT 28) (nI 1) 3) 21 true,oG 30 (iA 242 27 29) 21 true,oG 31 (lD 245 30) 21 true,oG 32 (.call { callee:=(.value (xT 22)),args:=#[(xT 26),(xT 31)],argTypes:=#[245,245] }) 21 true,oG 33 (.binOp .lss 3 (xT 32) (nI 0) 3) 21 true,oO 34 (.pick (xT 21) (xT 33) (nB false))] [0,1,2,3,8,9,34] (cD 34 (.skip) (.exit 2))) (.keep [0,1,2,3,8,9] (.seq (.block 3 (.reg [mO 37 0,mO 38 9,mO 39 0,mO 40 9,oO 41 (.binOp .sub 3 (xT 40) (nI 1) 3),mO 42 0,mO 43 9,oO 44 (.binOp .sub 3 (xT 43) (nI 1) 3),oO 45 (iA 242 42 44),lO 46 245 45,mO 47 0,mO 48 9,oO 49 (iA 242 47 48),lO 50 245 49,oO 51 (iA 242 37 38),oS (.store 245 (xT 51) (xT 46)),oO 52 (iA 242 39 41),oS (.store 245 (xT 52) (xT 50))] [0,1,2,3,8,9])) (.reg [mO 35 9,oO 36 (.binOp .sub 3 (xT 35) (nI 1) 3),aO 9 36] [0,1,2,3,8,9])))
def Ba:CC:=.seq (sR [mO 12 8,mO 13 2,oO 14 (bO .lss 3 12 13 3)] [0,1,2,3,8,14] (cD 14 (.skip) (.exit 0))) (.keep [0,1,2,3,8] (.seq (.block 1 (sR [mO 17 8,aO 9 17] [0,1,2,3,8,9] (.block 2 (.loop A8)))) (.keep [0,1,2,3,8] (.reg [mO 15 8,oO 16 (.binOp .add 3 (xT 15) (nI 1) 3),aO 8 16] [0,1,2,3,8])))) 
def CD:CC:=sR [mO 10 1,oO 11 (.binOp .add 3 (xT 10) (nI 1) 3),aO 8 11] [0,1,2,3,8] (.block 0 (.loop Ba))
theorem ES:Bh Tryz.prog 271 53 [] CD:=Au Tryz.func271
def Gu:CC:=sR [oO 2 (.assign (.const (.int .u64 0)))] [0] (sR [mO 3 0,oO 4 (.convert 3 269 (xT 3)),oO 5 (cL 265 #[(xT 4)] #[269]),oO 6 (.binOp .shl 269 (.const (.int .u64 1)) (xT 5) 3),aO 2 6] [2] (.ret))
theorem Lk:Bh Tryz.prog 282 7 [(.tmp 2)] Gu:=Au Tryz.func282
def G6:CC:=sR [oO 2 (.assign (.const (.int .u64 0)))] [0] (sR [mO 3 0,oO 4 (.nilCheck (xT 3)),lO 5 328 4,mO 6 0,oO 7 (.nilCheck (xT 6)),lO 8 328 7,oO 9 (.binOp .shl 328 (xT 8) (.const (.int .u64 13)) 269),oO 10 (bO .xor 328 5 9 328),oO 11 (.nilCheck (xT 3)),oS (.store 328 (xT 11) (xT 10))] [0] (sR [mO 12 0,oO 13 (.nilCheck (xT 12)),lO 14 328 13,mO 15 0,oO 16 (.nilCheck (xT 15)),lO 17 328 16,oO 18 (.binOp .shr 328 (xT 17) (.const (.int .u64 7)) 269),oO 19 (bO .xor 328 14 18 328),oO 20 (.nilCheck (xT 12)),oS (.store 328 (xT 20) (xT 19))] [0] (sR [mO 21 0,oO 22 (.nilCheck (xT 21)),lO 23 328 22,mO 24 0,oO 25 (.nilCheck (xT 24)),lO 26 328 25,oO 27 (.binOp .shl 328 (xT 26) (.const (.int .u64 17)) 269),oO 28 (bO .xor 328 23 27 328),oO 29 (.nilCheck (xT 21)),oS (.store 328 (xT 29) (xT 28))] [0] (sR [mO 30 0,oO 31 (.nilCheck (xT 30)),lO 32 328 31,aO 2 32] [2] (.ret)))))
theorem Mn:Bh Tryz.prog 283 33 [(.tmp 2)] G6:=Au Tryz.func283
def Bx:CC:=.reg [mO 49 0,mO 50 11,mO 51 0,mO 52 1,mO 53 12,oO 54 (bO .add 3 52 53 3),mO 55 0,mO 56 1,mO 57 12,oO 58 (bO .add 3 56 57 3),oO 59 (iA 242 55 58),lO 60 245 59,mO 61 0,mO 62 11,oO 63 (iA 242 61 62),lO 64 245 63,oO 65 (iA 242 49 50),oS (.store 245 (xT 65) (xT 60)),oO 66 (iA 242 51 54),oS (.store 245 (xT 66) (xT 64))] [0,1,8,9,10,11]
def Ay:CC:=.seq (sR [mO 28 11,mO 29 1,mO 30 8,oO 31 (.binOp .quo 3 (xT 30) (nI 4) 3),oO 32 (.binOp .mul 3 (xT 31) (nI 2) 3),oO 33 (bO .add 3 29 32 3),oO 34 (.binOp .add 3 (xT 33) (nI 1) 3),oO 35 (bO .leq 3 28 34 3)] [0,1,8,9,10,11,35] (cD 35 (.skip) (.exit 0))) (.keep [0,1,8,9,10,11] (.seq (.block 1 (sR [oO 38 (cL 283 #[(xT 9)] #[328]),mO 39 10,oO 40 (.binOp .sub 269 (xT 39) (.const (.int .u64 1)) 269),oO 41 (bO .and 269 38 40 269),oO 42 (.convert 269 3 (xT 41)),aO 12 42] [0,1,8,9,10,11,12] (.seq (sR [mO 43 12,mO 44 8,oO 45 (bO .geq 3 43 44 3)] [0,1,8,9,10,11,12,45] (cD 45 (.reg [mO 46 12,mO 47 8,oO 48 (bO .sub 3 46 47 3),aO 12 48] [0,1,8,9,10,11,12]) (.skip))) (.keep [0,1,8,9,10,11,12] Bx)))) (.keep [0,1,8,9,10,11] (.reg [mO 36 11,oO 37 (.binOp .add 3 (xT 36) (nI 1) 3),aO 11 37] [0,1,8,9,10,11])))) 
def CA:CC:=sR [mO 13 2,mO 14 1,oO 15 (bO .sub 3 13 14 3),aO 8 15] [0,1,8] (sR [mO 16 8,oO 17 (.binOp .geq 3 (xT 16) (nI 8) 3)] [0,1,8,17] (cD 17 (sR [mO 18 8,oO 19 (.convert 3 328 (xT 18)),oN 9 (.alloc 328) [1],oS (.store 328 (xT 9) (xT 19))] [0,1,8,9] (sR [mO 20 8,oO 21 (cL 282 #[(xT 20)] #[3]),aO 10 21] [0,1,8,9,10] (sR [mO 22 1,mO 23 8,oO 24 (.binOp .quo 3 (xT 23) (nI 4) 3),oO 25 (.binOp .mul 3 (xT 24) (nI 2) 3),oO 26 (bO .add 3 22 25 3),oO 27 (.binOp .sub 3 (xT 26) (nI 1) 3),aO 11 27] [0,1,8,9,10,11] (.block 0 (.loop Ay))))) (.skip)))
theorem ET:Bh Tryz.prog 273 67 [] CA:=Au Tryz.func273
def DC:CC:=sR [oO 10 (.assign (nI 0)),oO 11 (.assign (nI 0))] [0,1,2,3,4] (.seq (sR [mO 12 4,mO 13 0,mO 14 2,oO 15 (iA 242 13 14),lO 16 245 15,mO 17 0,mO 18 1,oO 19 (iA 242 17 18),lO 20 245 19,oO 21 (.call { callee:=(.value (xT 12)),args:=#[(xT 16),(xT 20)],argTypes:=#[245,245] }),oO 22 (.binOp .lss 3 (xT 21) (nI 0) 3)] [1,2,3,22] (cD 22 (sR [mO 23 3,oO 24 (.nilCheck (xT 23)),lO 25 3 24,oO 26 (.binOp .add 3 (xT 25) (nI 1) 3),oO 27 (.nilCheck (xT 23)),oS (.store 3 (xT 27) (xT 26))] [1,2] (sR [mO 28 2,mO 29 1,aO 10 28,aO 11 29] [10,11] (.ret))) (.skip))) (.keep [1,2] (sR [mO 30 1,mO 31 2,aO 10 30,aO 11 31] [10,11] (.ret))))
theorem G9:Bh Tryz.prog 286 32 [(.tmp 10),(.tmp 11)] DC:=Au Tryz.func286
def Dt:CC:=sR [oO 12 (.assign (nI 0))] [0,1,2,3,4,5] (sR [mO 14 0,mO 15 1,mO 16 2,mO 17 4,mO 18 5,oO 19 (cL 286 #[(xT 14),(xT 15),(xT 16),(xT 17),(xT 18)] #[242,3,3,332,287]),mO 13 19,xO 20 13 0,xO 21 13 1,aO 1 20,aO 2 21] [0,1,2,3,4,5] (sR [mO 23 0,mO 24 2,mO 25 3,mO 26 4,mO 27 5,oO 28 (cL 286 #[(xT 23),(xT 24),(xT 25),(xT 26),(xT 27)] #[242,3,3,332,287]),mO 22 28,xO 29 22 0,xO 30 22 1,aO 2 29,aO 3 30] [0,1,2,4,5] (sR [mO 32 0,mO 33 1,mO 34 2,mO 35 4,mO 36 5,oO 37 (cL 286 #[(xT 32),(xT 33),(xT 34),(xT 35),(xT 36)] #[242,3,3,332,287]),mO 31 37,xO 38 31 0,xO 39 31 1,aO 1 38,aO 2 39] [2] (sR [mO 40 2,aO 12 40] [12] (.ret)))))
theorem G0:Bh Tryz.prog 285 41 [(.tmp 12)] Dt:=Au Tryz.func285
def CF:CC:=sR [lO 55 3 11] [13,55] (.block 0 (sR [oO 58 (.binOp .eql 3 (xT 55) (nI 0) 3),aO 57 58] [13,55,57] (cD 57 (sR [mO 59 13,aO 8 59,oO 9 (.assign (nI 1))] [8,9] (.ret)) (sR [oO 61 (.binOp .eql 3 (xT 55) (nI 12) 3),aO 60 61] [13,60] (cD 60 (sR [mO 62 13,aO 8 62,oO 9 (.assign (nI 2))] [8,9] (.ret)) (sR [mO 56 13,aO 8 56,oO 9 (.assign (nI 0))] [8,9] (.ret))))))) 
def CJ:CC:=sR [oO 8 (.assign (nI 0)),oO 9 (.assign (nI 0))] [0,1,2,3] (sR [mO 15 2,mO 16 1,oO 17 (bO .sub 3 15 16 3),aO 10 17] [0,1,3,10] (sR [oN 11 (.alloc 3) [1]] [0,1,3,10,11] (sR [mO 18 1,mO 19 10,oO 20 (.binOp .quo 3 (xT 19) (nI 4) 3),oO 21 (.binOp .mul 3 (xT 20) (nI 1) 3),oO 22 (bO .add 3 18 21 3),aO 12 22] [0,1,3,10,11,12] (sR [mO 23 1,mO 24 10,oO 25 (.binOp .quo 3 (xT 24) (nI 4) 3),oO 26 (.binOp .mul 3 (xT 25) (nI 2) 3),oO 27 (bO .add 3 23 26 3),aO 13 27] [0,1,3,10,11,12,13] (sR [mO 28 1,mO 29 10,oO 30 (.binOp .quo 3 (xT 29) (nI 4) 3),oO 31 (.binOp .mul 3 (xT 30) (nI 3) 3),oO 32 (bO .add 3 28 31 3),aO 14 32] [0,3,10,11,12,13,14] (.seq (sR [mO 33 10,oO 34 (.binOp .geq 3 (xT 33) (nI 8) 3)] [0,3,10,11,12,13,14,34] (cD 34 (.seq (sR [mO 35 10,oO 36 (.binOp .geq 3 (xT 35) (nI 50) 3)] [0,3,11,12,13,14,36] (cD 36 (sR [mO 37 0,mO 38 12,mO 39 3,oO 40 (cL 284 #[(xT 37),(xT 38),(xT 11),(xT 39)] #[242,3,332,287]),aO 12 40] [0,3,11,12,13,14] (sR [mO 41 0,mO 42 13,mO 43 3,oO 44 (cL 284 #[(xT 41),(xT 42),(xT 11),(xT 43)] #[242,3,332,287]),aO 13 44] [0,3,11,12,13,14] (.reg [mO 45 0,mO 46 14,mO 47 3,oO 48 (cL 284 #[(xT 45),(xT 46),(xT 11),(xT 47)] #[242,3,332,287]),aO 14 48] [0,3,11,12,13,14]))) (.skip))) (.keep [0,3,11,12,13,14] (.reg [mO 49 0,mO 50 12,mO 51 13,mO 52 14,mO 53 3,oO 54 (cL 285 #[(xT 49),(xT 50),(xT 51),(xT 52),(xT 11),(xT 53)] #[242,3,3,3,332,287]),aO 13 54] [11,13]))) (.skip))) (.keep [11,13] CF)))))))
theorem Fs:Bh Tryz.prog 274 63 [(.tmp 8),(.tmp 9)] CJ:=Au Tryz.func274
def AN:CC:=.seq (sR [mO 13 8,mO 14 9,oO 15 (bO .lss 3 13 14 3)] [0,8,9,15] (cD 15 (.skip) (.exit 0))) (.keep [0,8,9] (.block 1 (sR [mO 16 0,mO 17 8,mO 18 0,mO 19 9,mO 20 0,mO 21 9,oO 22 (iA 242 20 21),lO 23 245 22,mO 24 0,mO 25 8,oO 26 (iA 242 24 25),lO 27 245 26,oO 28 (iA 242 16 17),oS (.store 245 (xT 28) (xT 23)),oO 29 (iA 242 18 19),oS (.store 245 (xT 29) (xT 27))] [0,8,9] (sR [mO 30 8,oO 31 (.binOp .add 3 (xT 30) (nI 1) 3),aO 8 31] [0,8,9] (.reg [mO 32 9,oO 33 (.binOp .sub 3 (xT 32) (nI 1) 3),aO 9 33] [0,8,9]))))) 
def CG:CC:=sR [mO 10 1,aO 8 10] [0,2,8] (sR [mO 11 2,oO 12 (.binOp .sub 3 (xT 11) (nI 1) 3),aO 9 12] [0,8,9] (.block 0 (.loop AN)))
theorem Fe:Bh Tryz.prog 275 34 [] CG:=Au Tryz.func275
def AD:CC:=.seq (sR [mO 19 9,mO 20 2,oO 21 (bO .lss 3 19 20 3),mO 22 21,oG 23 (mV 3) 22 true,oG 24 (mV 0) 22 true,oG 25 (mV 9) 22 true,oG 26 (iA 242 24 25) 22 true,oG 27 (lD 245 26) 22 true,oG 28 (mV 0) 22 true,oG 29 (mV 9) 22 true,oG 30 (.binOp .sub 3 (xT 29) (nI 1) 3) 22 true,oG 31 (iA 242 28 30) 22 true,oG 32 (lD 245 31) 22 true,oG 33 (.call { callee:=(.value (xT 23)),args:=#[(xT 27),(xT 32)],argTypes:=#[245,245] }) 22 true,oG 34 (.binOp .lss 3 (xT 33) (nI 0) 3) 22 true,oG 35 (.unOp .not 4 (xT 34)) 22 true,oO 36 (.pick (xT 22) (xT 35) (nB false))] [0,1,2,3,9,10,36] (cD 36 (.skip) (.exit 2))) (.keep [0,1,2,3,9,10] (.block 3 (.reg [mO 37 9,oO 38 (.binOp .add 3 (xT 37) (nI 1) 3),aO 9 38] [0,1,2,3,9,10])))
def Du:CC:=.seq (sR [mO 68 11,oO 69 (.binOp .geq 3 (xT 68) (nI 1) 3)] [0,1,2,3,9,10,11,69] (cD 69 (.skip) (.exit 4))) (.keep [0,1,2,3,9,10,11] (.seq (.block 5 (.seq (sR [mO 72 3,mO 73 0,mO 74 11,oO 75 (iA 242 73 74),lO 76 245 75,mO 77 0,mO 78 11,oO 79 (.binOp .sub 3 (xT 78) (nI 1) 3),oO 80 (iA 242 77 79),lO 81 245 80,oO 82 (.call { callee:=(.value (xT 72)),args:=#[(xT 76),(xT 81)],argTypes:=#[245,245] }),oO 83 (.binOp .lss 3 (xT 82) (nI 0) 3),oO 84 (.unOp .not 4 (xT 83))] [0,1,2,3,9,10,11,84] (cD 84 (.exit 4) (.skip))) (.keep [0,1,2,3,9,10,11] (.reg [mO 85 0,mO 86 11,mO 87 0,mO 88 11,oO 89 (.binOp .sub 3 (xT 88) (nI 1) 3),mO 90 0,mO 91 11,oO 92 (.binOp .sub 3 (xT 91) (nI 1) 3),oO 93 (iA 242 90 92),lO 94 245 93,mO 95 0,mO 96 11,oO 97 (iA 242 95 96),lO 98 245 97,oO 99 (iA 242 85 86),oS (.store 245 (xT 99) (xT 94)),oO 100 (iA 242 87 89),oS (.store 245 (xT 100) (xT 98))] [0,1,2,3,9,10,11])))) (.keep [0,1,2,3,9,10,11] (.reg [mO 70 11,oO 71 (.binOp .sub 3 (xT 70) (nI 1) 3),aO 11 71] [0,1,2,3,9,10,11]))))
def DA:CC:=.seq (sR [mO 107 12,mO 108 2,oO 109 (bO .lss 3 107 108 3)] [0,1,2,3,9,10,12,109] (cD 109 (.skip) (.exit 6))) (.keep [0,1,2,3,9,10,12] (.seq (.block 7 (.seq (sR [mO 112 3,mO 113 0,mO 114 12,oO 115 (iA 242 113 114),lO 116 245 115,mO 117 0,mO 118 12,oO 119 (.binOp .sub 3 (xT 118) (nI 1) 3),oO 120 (iA 242 117 119),lO 121 245 120,oO 122 (.call { callee:=(.value (xT 112)),args:=#[(xT 116),(xT 121)],argTypes:=#[245,245] }),oO 123 (.binOp .lss 3 (xT 122) (nI 0) 3),oO 124 (.unOp .not 4 (xT 123))] [0,1,2,3,9,10,12,124] (cD 124 (.exit 6) (.skip))) (.keep [0,1,2,3,9,10,12] (.reg [mO 125 0,mO 126 12,mO 127 0,mO 128 12,oO 129 (.binOp .sub 3 (xT 128) (nI 1) 3),mO 130 0,mO 131 12,oO 132 (.binOp .sub 3 (xT 131) (nI 1) 3),oO 133 (iA 242 130 132),lO 134 245 133,mO 135 0,mO 136 12,oO 137 (iA 242 135 136),lO 138 245 137,oO 139 (iA 242 125 126),oS (.store 245 (xT 139) (xT 134)),oO 140 (iA 242 127 129),oS (.store 245 (xT 140) (xT 138))] [0,1,2,3,9,10,12])))) (.keep [0,1,2,3,9,10,12] (.reg [mO 110 12,oO 111 (.binOp .add 3 (xT 110) (nI 1) 3),aO 12 111] [0,1,2,3,9,10,12]))))
def DD:CC:=sR [mO 101 2,mO 102 9,oO 103 (bO .sub 3 101 102 3),oO 104 (.binOp .geq 3 (xT 103) (nI 2) 3)] [0,1,2,3,9,10,104] (cD 104 (sR [mO 105 9,oO 106 (.binOp .add 3 (xT 105) (nI 1) 3),aO 12 106] [0,1,2,3,9,10,12] (.block 6 (.loop DA))) (.skip))
def BS:CC:=.seq (sR [mO 15 10,oO 16 (.binOp .lss 3 (xT 15) (nI 5) 3)] [0,1,2,3,9,10,16] (cD 16 (.skip) (.exit 0))) (.keep [0,1,2,3,9,10] (.seq (.block 1 (.seq (.block 2 (.loop AD)) (.keep [0,1,2,3,9,10] (.seq (sR [mO 39 9,mO 40 2,oO 41 (bO .eql 3 39 40 3)] [0,1,2,3,9,10,41] (cD 41 (sR [oO 8 (.assign (nB true))] [8] (.ret)) (.skip))) (.keep [0,1,2,3,9,10] (.seq (sR [mO 42 2,mO 43 1,oO 44 (bO .sub 3 42 43 3),oO 45 (.binOp .lss 3 (xT 44) (nI 50) 3)] [0,1,2,3,9,10,45] (cD 45 (sR [oO 8 (.assign (nB false))] [8] (.ret)) (.skip))) (.keep [0,1,2,3,9,10] (sR [mO 46 0,mO 47 9,mO 48 0,mO 49 9,oO 50 (.binOp .sub 3 (xT 49) (nI 1) 3),mO 51 0,mO 52 9,oO 53 (.binOp .sub 3 (xT 52) (nI 1) 3),oO 54 (iA 242 51 53),lO 55 245 54,mO 56 0,mO 57 9,oO 58 (iA 242 56 57),lO 59 245 58,oO 60 (iA 242 46 47),oS (.store 245 (xT 60) (xT 55)),oO 61 (iA 242 48 50),oS (.store 245 (xT 61) (xT 59))] [0,1,2,3,9,10] (.seq (sR [mO 62 9,mO 63 1,oO 64 (bO .sub 3 62 63 3),oO 65 (.binOp .geq 3 (xT 64) (nI 2) 3)] [0,1,2,3,9,10,65] (cD 65 (sR [mO 66 9,oO 67 (.binOp .sub 3 (xT 66) (nI 1) 3),aO 11 67] [0,1,2,3,9,10,11] (.block 4 (.loop Du))) (.skip))) (.keep [0,1,2,3,9,10] DD)))))))))) (.keep [0,1,2,3,9,10] (.reg [mO 17 10,oO 18 (.binOp .add 3 (xT 17) (nI 1) 3),aO 10 18] [0,1,2,3,9,10])))) 
def BZ:CC:=sR [oO 8 (.assign (nB false))] [0,1,2,3] (sR [mO 13 1,oO 14 (.binOp .add 3 (xT 13) (nI 1) 3),aO 9 14] [0,1,2,3,9] (.seq (sR [oO 10 (.assign (nI 0))] [0,1,2,3,9,10] (.block 0 (.loop BS))) (.keep [] (sR [oO 8 (.assign (nB false))] [8] (.ret)))))
theorem DQ:Bh Tryz.prog 276 141 [(.tmp 8)] BZ:=Au Tryz.func276
def AK:CC:=.seq (sR [mO 31 11,mO 32 12,oO 33 (bO .leq 3 31 32 3),mO 34 33,oG 35 (mV 4) 34 true,oG 36 (mV 0) 34 true,oG 37 (mV 1) 34 true,oG 38 (iA 242 36 37) 34 true,oG 39 (lD 245 38) 34 true,oG 40 (mV 0) 34 true,oG 41 (mV 11) 34 true,oG 42 (iA 242 40 41) 34 true,oG 43 (lD 245 42) 34 true,oG 44 (.call { callee:=(.value (xT 35)),args:=#[(xT 39),(xT 43)],argTypes:=#[245,245] }) 34 true,oG 45 (.binOp .lss 3 (xT 44) (nI 0) 3) 34 true,oG 46 (.unOp .not 4 (xT 45)) 34 true,oO 47 (.pick (xT 34) (xT 46) (nB false))] [0,1,4,11,12,47] (cD 47 (.skip) (.exit 2))) (.keep [0,1,4,11,12] (.block 3 (.reg [mO 48 11,oO 49 (.binOp .add 3 (xT 48) (nI 1) 3),aO 11 49] [0,1,4,11,12])))
def AL:CC:=.seq (sR [mO 50 11,mO 51 12,oO 52 (bO .leq 3 50 51 3),mO 53 52,oG 54 (mV 4) 53 true,oG 55 (mV 0) 53 true,oG 56 (mV 1) 53 true,oG 57 (iA 242 55 56) 53 true,oG 58 (lD 245 57) 53 true,oG 59 (mV 0) 53 true,oG 60 (mV 12) 53 true,oG 61 (iA 242 59 60) 53 true,oG 62 (lD 245 61) 53 true,oG 63 (.call { callee:=(.value (xT 54)),args:=#[(xT 58),(xT 62)],argTypes:=#[245,245] }) 53 true,oG 64 (.binOp .lss 3 (xT 63) (nI 0) 3) 53 true,oO 65 (.pick (xT 53) (xT 64) (nB false))] [0,1,4,11,12,65] (cD 65 (.skip) (.exit 4))) (.keep [0,1,4,11,12] (.block 5 (.reg [mO 66 12,oO 67 (.binOp .sub 3 (xT 66) (nI 1) 3),aO 12 67] [0,1,4,11,12])))
def Bt:CC:=.block 1 (.seq (.block 2 (.loop AK)) (.keep [0,1,4,11,12] (.seq (.block 4 (.loop AL)) (.keep [0,1,4,11,12] (.seq (sR [mO 68 11,mO 69 12,oO 70 (bO .gtr 3 68 69 3)] [0,1,4,11,12,70] (cD 70 (.exit 0) (.skip))) (.keep [0,1,4,11,12] (sR [mO 71 0,mO 72 11,mO 73 0,mO 74 12,mO 75 0,mO 76 12,oO 77 (iA 242 75 76),lO 78 245 77,mO 79 0,mO 80 11,oO 81 (iA 242 79 80),lO 82 245 81,oO 83 (iA 242 71 72),oS (.store 245 (xT 83) (xT 78)),oO 84 (iA 242 73 74),oS (.store 245 (xT 84) (xT 82))] [0,1,4,11,12] (sR [mO 85 11,oO 86 (.binOp .add 3 (xT 85) (nI 1) 3),aO 11 86] [0,1,4,11,12] (.reg [mO 87 12,oO 88 (.binOp .sub 3 (xT 87) (nI 1) 3),aO 12 88] [0,1,4,11,12]))))))))) 
def Cs:CC:=sR [oO 10 (.assign (nI 0))] [0,1,2,3,4] (sR [mO 13 0,mO 14 1,mO 15 0,mO 16 3,mO 17 0,mO 18 3,oO 19 (iA 242 17 18),lO 20 245 19,mO 21 0,mO 22 1,oO 23 (iA 242 21 22),lO 24 245 23,oO 25 (iA 242 13 14),oS (.store 245 (xT 25) (xT 20)),oO 26 (iA 242 15 16),oS (.store 245 (xT 26) (xT 24))] [0,1,2,4] (sR [mO 27 1,oO 28 (.binOp .add 3 (xT 27) (nI 1) 3),mO 29 2,oO 30 (.binOp .sub 3 (xT 29) (nI 1) 3),aO 11 28,aO 12 30] [0,1,4,11,12] (.seq (.block 0 (.loop Bt)) (.keep [11] (sR [mO 89 11,aO 10 89] [10] (.ret))))))
theorem EA:Bh Tryz.prog 277 90 [(.tmp 10)] Cs:=Au Tryz.func277
def AX:CC:=.seq (sR [mO 32 12,mO 33 13,oO 34 (bO .leq 3 32 33 3),mO 35 34,oG 36 (mV 4) 35 true,oG 37 (mV 0) 35 true,oG 38 (mV 12) 35 true,oG 39 (iA 242 37 38) 35 true,oG 40 (lD 245 39) 35 true,oG 41 (mV 0) 35 true,oG 42 (mV 1) 35 true,oG 43 (iA 242 41 42) 35 true,oG 44 (lD 245 43) 35 true,oG 45 (.call { callee:=(.value (xT 36)),args:=#[(xT 40),(xT 44)],argTypes:=#[245,245] }) 35 true,oG 46 (.binOp .lss 3 (xT 45) (nI 0) 3) 35 true,oO 47 (.pick (xT 35) (xT 46) (nB false))] [0,1,4,12,13,47] (cD 47 (.skip) (.exit 0))) (.keep [0,1,4,12,13] (.block 1 (.reg [mO 48 12,oO 49 (.binOp .add 3 (xT 48) (nI 1) 3),aO 12 49] [0,1,4,12,13])))
def AV:CC:=.seq (sR [mO 50 12,mO 51 13,oO 52 (bO .leq 3 50 51 3),mO 53 52,oG 54 (mV 4) 53 true,oG 55 (mV 0) 53 true,oG 56 (mV 13) 53 true,oG 57 (iA 242 55 56) 53 true,oG 58 (lD 245 57) 53 true,oG 59 (mV 0) 53 true,oG 60 (mV 1) 53 true,oG 61 (iA 242 59 60) 53 true,oG 62 (lD 245 61) 53 true,oG 63 (.call { callee:=(.value (xT 54)),args:=#[(xT 58),(xT 62)],argTypes:=#[245,245] }) 53 true,oG 64 (.binOp .lss 3 (xT 63) (nI 0) 3) 53 true,oG 65 (.unOp .not 4 (xT 64)) 53 true,oO 66 (.pick (xT 53) (xT 65) (nB false))] [0,1,4,12,13,66] (cD 66 (.skip) (.exit 2))) (.keep [0,1,4,12,13] (.block 3 (.reg [mO 67 13,oO 68 (.binOp .sub 3 (xT 67) (nI 1) 3),aO 13 68] [0,1,4,12,13])))
def AY:CC:=.seq (sR [mO 105 12,mO 106 13,oO 107 (bO .leq 3 105 106 3),mO 108 107,oG 109 (mV 4) 108 true,oG 110 (mV 0) 108 true,oG 111 (mV 12) 108 true,oG 112 (iA 242 110 111) 108 true,oG 113 (lD 245 112) 108 true,oG 114 (mV 0) 108 true,oG 115 (mV 1) 108 true,oG 116 (iA 242 114 115) 108 true,oG 117 (lD 245 116) 108 true,oG 118 (.call { callee:=(.value (xT 109)),args:=#[(xT 113),(xT 117)],argTypes:=#[245,245] }) 108 true,oG 119 (.binOp .lss 3 (xT 118) (nI 0) 3) 108 true,oO 120 (.pick (xT 108) (xT 119) (nB false))] [0,1,4,12,13,120] (cD 120 (.skip) (.exit 6))) (.keep [0,1,4,12,13] (.block 7 (.reg [mO 121 12,oO 122 (.binOp .add 3 (xT 121) (nI 1) 3),aO 12 122] [0,1,4,12,13])))
def AW:CC:=.seq (sR [mO 123 12,mO 124 13,oO 125 (bO .leq 3 123 124 3),mO 126 125,oG 127 (mV 4) 126 true,oG 128 (mV 0) 126 true,oG 129 (mV 13) 126 true,oG 130 (iA 242 128 129) 126 true,oG 131 (lD 245 130) 126 true,oG 132 (mV 0) 126 true,oG 133 (mV 1) 126 true,oG 134 (iA 242 132 133) 126 true,oG 135 (lD 245 134) 126 true,oG 136 (.call { callee:=(.value (xT 127)),args:=#[(xT 131),(xT 135)],argTypes:=#[245,245] }) 126 true,oG 137 (.binOp .lss 3 (xT 136) (nI 0) 3) 126 true,oG 138 (.unOp .not 4 (xT 137)) 126 true,oO 139 (.pick (xT 126) (xT 138) (nB false))] [0,1,4,12,13,139] (cD 139 (.skip) (.exit 8))) (.keep [0,1,4,12,13] (.block 9 (.reg [mO 140 13,oO 141 (.binOp .sub 3 (xT 140) (nI 1) 3),aO 13 141] [0,1,4,12,13])))
def BO:CC:=.block 5 (.seq (.block 6 (.loop AY)) (.keep [0,1,4,12,13] (.seq (.block 8 (.loop AW)) (.keep [0,1,4,12,13] (.seq (sR [mO 142 12,mO 143 13,oO 144 (bO .gtr 3 142 143 3)] [0,1,4,12,13,144] (cD 144 (.exit 4) (.skip))) (.keep [0,1,4,12,13] (sR [mO 145 0,mO 146 12,mO 147 0,mO 148 13,mO 149 0,mO 150 13,oO 151 (iA 242 149 150),lO 152 245 151,mO 153 0,mO 154 12,oO 155 (iA 242 153 154),lO 156 245 155,oO 157 (iA 242 145 146),oS (.store 245 (xT 157) (xT 152)),oO 158 (iA 242 147 148),oS (.store 245 (xT 158) (xT 156))] [0,1,4,12,13] (sR [mO 159 12,oO 160 (.binOp .add 3 (xT 159) (nI 1) 3),aO 12 160] [0,1,4,12,13] (.reg [mO 161 13,oO 162 (.binOp .sub 3 (xT 161) (nI 1) 3),aO 13 162] [0,1,4,12,13]))))))))) 
def C3:CC:=sR [oO 10 (.assign (nI 0)),oO 11 (.assign (nB false))] [0,1,2,3,4] (sR [mO 14 0,mO 15 1,mO 16 0,mO 17 3,mO 18 0,mO 19 3,oO 20 (iA 242 18 19),lO 21 245 20,mO 22 0,mO 23 1,oO 24 (iA 242 22 23),lO 25 245 24,oO 26 (iA 242 14 15),oS (.store 245 (xT 26) (xT 21)),oO 27 (iA 242 16 17),oS (.store 245 (xT 27) (xT 25))] [0,1,2,4] (sR [mO 28 1,oO 29 (.binOp .add 3 (xT 28) (nI 1) 3),mO 30 2,oO 31 (.binOp .sub 3 (xT 30) (nI 1) 3),aO 12 29,aO 13 31] [0,1,4,12,13] (.seq (.block 0 (.loop AX)) (.keep [0,1,4,12,13] (.seq (.block 2 (.loop AV)) (.keep [0,1,4,12,13] (.seq (sR [mO 69 12,mO 70 13,oO 71 (bO .gtr 3 69 70 3)] [0,1,4,12,13,71] (cD 71 (sR [mO 72 0,mO 73 13,mO 74 0,mO 75 1,mO 76 0,mO 77 1,oO 78 (iA 242 76 77),lO 79 245 78,mO 80 0,mO 81 13,oO 82 (iA 242 80 81),lO 83 245 82,oO 84 (iA 242 72 73),oS (.store 245 (xT 84) (xT 79)),oO 85 (iA 242 74 75),oS (.store 245 (xT 85) (xT 83))] [13] (sR [mO 86 13,aO 10 86,oO 11 (.assign (nB true))] [10,11] (.ret))) (.skip))) (.keep [0,1,4,12,13] (sR [mO 87 0,mO 88 12,mO 89 0,mO 90 13,mO 91 0,mO 92 13,oO 93 (iA 242 91 92),lO 94 245 93,mO 95 0,mO 96 12,oO 97 (iA 242 95 96),lO 98 245 97,oO 99 (iA 242 87 88),oS (.store 245 (xT 99) (xT 94)),oO 100 (iA 242 89 90),oS (.store 245 (xT 100) (xT 98))] [0,1,4,12,13] (sR [mO 101 12,oO 102 (.binOp .add 3 (xT 101) (nI 1) 3),aO 12 102] [0,1,4,12,13] (sR [mO 103 13,oO 104 (.binOp .sub 3 (xT 103) (nI 1) 3),aO 13 104] [0,1,4,12,13] (.seq (.block 4 (.loop BO)) (.keep [0,1,13] (sR [mO 163 0,mO 164 13,mO 165 0,mO 166 1,mO 167 0,mO 168 1,oO 169 (iA 242 167 168),lO 170 245 169,mO 171 0,mO 172 13,oO 173 (iA 242 171 172),lO 174 245 173,oO 175 (iA 242 163 164),oS (.store 245 (xT 175) (xT 170)),oO 176 (iA 242 165 166),oS (.store 245 (xT 176) (xT 174))] [13] (sR [mO 177 13,aO 10 177,oO 11 (.assign (nB false))] [10,11] (.ret))))))))))))))))
theorem FZ:Bh Tryz.prog 278 178 [(.tmp 10),(.tmp 11)] C3:=Au Tryz.func278
def Bo:CC:=.seq (sR [mO 81 1,oO 82 (.binOp .gtr 3 (xT 81) (nI 0) 3),mO 83 82,oG 84 (mV 4) 83 true,oG 85 (mV 0) 83 true,oG 86 (mV 1) 83 true,oG 87 (.binOp .sub 3 (xT 86) (nI 1) 3) 83 true,oG 88 (iA 242 85 87) 83 true,oG 89 (lD 245 88) 83 true,oG 90 (mV 0) 83 true,oG 91 (mV 13) 83 true,oG 92 (iA 242 90 91) 83 true,oG 93 (lD 245 92) 83 true,oG 94 (.call { callee:=(.value (xT 84)),args:=#[(xT 89),(xT 93)],argTypes:=#[245,245] }) 83 true,oG 95 (.binOp .lss 3 (xT 94) (nI 0) 3) 83 true,oG 96 (.unOp .not 4 (xT 95)) 83 true,oO 97 (.pick (xT 83) (xT 96) (nB false))] [0,1,2,3,4,10,11,12,13,97] (cD 97 (sR [mO 98 0,mO 99 1,mO 100 2,mO 101 13,mO 102 4,oO 103 (cL 277 #[(xT 98),(xT 99),(xT 100),(xT 101),(xT 102)] #[242,3,3,3,287]),aO 15 103] [0,2,3,4,10,11,15] (sR [mO 104 15,aO 1 104] [0,1,2,3,4,10,11] (.exit 1))) (.skip))) (.keep [0,1,2,3,4,12,13] (sR [mO 106 0,mO 107 1,mO 108 2,mO 109 13,mO 110 4,oO 111 (cL 278 #[(xT 106),(xT 107),(xT 108),(xT 109),(xT 110)] #[242,3,3,3,287]),mO 105 111,xO 112 105 0,xO 113 105 1,aO 16 112,aO 17 113] [0,1,2,3,4,12,16,17] (sR [mO 114 17,aO 11 114] [0,1,2,3,4,11,12,16] (sR [mO 115 16,mO 116 1,oO 117 (bO .sub 3 115 116 3),mO 118 2,mO 119 16,oO 120 (bO .sub 3 118 119 3),aO 18 117,aO 19 120] [0,1,2,3,4,11,12,16,18,19] (sR [mO 121 12,oO 122 (.binOp .quo 3 (xT 121) (nI 8) 3),aO 20 122] [0,1,2,3,4,11,16,18,19,20] (sR [mO 123 18,mO 124 19,oO 125 (bO .lss 3 123 124 3)] [0,1,2,3,4,11,16,18,19,20,125] (cD 125 (sR [mO 126 18,mO 127 20,oO 128 (bO .geq 3 126 127 3),aO 10 128] [0,1,2,3,4,10,11,16] (sR [mO 129 0,mO 130 1,mO 131 16,mO 132 3,mO 133 4,oO 134 (cL 264 #[(xT 129),(xT 130),(xT 131),(xT 132),(xT 133)] #[242,3,3,3,287])] [0,2,3,4,10,11,16] (.reg [mO 135 16,oO 136 (.binOp .add 3 (xT 135) (nI 1) 3),aO 1 136] [0,1,2,3,4,10,11]))) (sR [mO 137 19,mO 138 20,oO 139 (bO .geq 3 137 138 3),aO 10 139] [0,1,2,3,4,10,11,16] (sR [mO 140 0,mO 141 16,oO 142 (.binOp .add 3 (xT 141) (nI 1) 3),mO 143 2,mO 144 3,mO 145 4,oO 146 (cL 264 #[(xT 140),(xT 142),(xT 143),(xT 144),(xT 145)] #[242,3,3,3,287])] [0,1,3,4,10,11,16] (.reg [mO 147 16,aO 2 147] [0,1,2,3,4,10,11]))))))))))
def B6:CC:=.seq (sR [mO 68 10,mO 69 68,oG 70 (mV 11) 69 true,oO 71 (.pick (xT 69) (xT 70) (nB false)),mO 72 71,oG 73 (mV 14) 72 true,oG 74 (.binOp .eql 319 (xT 73) (nI 1) 319) 72 true,oO 75 (.pick (xT 72) (xT 74) (nB false))] [0,1,2,3,4,10,11,12,13,75] (cD 75 (sR [mO 76 0,mO 77 1,mO 78 2,mO 79 4,oO 80 (cL 276 #[(xT 76),(xT 77),(xT 78),(xT 79)] #[242,3,3,287])] [0,1,2,3,4,10,11,12,13,80] (cD 80 (.ret) (.skip))) (.skip))) (.keep [0,1,2,3,4,10,11,12,13] Bo)
def B7:CC:=sR [mO 48 0,mO 49 1,mO 50 2,mO 51 4,oO 52 (cL 274 #[(xT 48),(xT 49),(xT 50),(xT 51)] #[242,3,3,287]),mO 47 52,xO 53 47 0,xO 54 47 1,aO 13 53,aO 14 54] [0,1,2,3,4,10,11,12,13,14] (.seq (sR [mO 55 14,oO 56 (.binOp .eql 319 (xT 55) (nI 2) 319)] [0,1,2,3,4,10,11,12,13,14,56] (cD 56 (sR [mO 57 0,mO 58 1,mO 59 2,mO 60 4,oO 61 (cL 275 #[(xT 57),(xT 58),(xT 59),(xT 60)] #[242,3,3,287])] [0,1,2,3,4,10,11,12,13] (sR [mO 62 2,oO 63 (.binOp .sub 3 (xT 62) (nI 1) 3),mO 64 13,mO 65 1,oO 66 (bO .sub 3 64 65 3),oO 67 (bO .sub 3 63 66 3),aO 13 67] [0,1,2,3,4,10,11,12,13] (.reg [oO 14 (.assign (nI 1))] [0,1,2,3,4,10,11,12,13,14]))) (.skip))) (.keep [0,1,2,3,4,10,11,12,13,14] B6))
def AI:CC:=.block 1 (sR [mO 21 2,mO 22 1,oO 23 (bO .sub 3 21 22 3),aO 12 23] [0,1,2,3,4,10,11,12] (.seq (sR [mO 24 12,oO 25 (.binOp .leq 3 (xT 24) (nI 12) 3)] [0,1,2,3,4,10,11,12,25] (cD 25 (sR [mO 26 0,mO 27 1,mO 28 2,mO 29 4,oO 30 (cL 271 #[(xT 26),(xT 27),(xT 28),(xT 29)] #[242,3,3,287])] [] (.ret)) (.skip))) (.keep [0,1,2,3,4,10,11,12] (.seq (sR [mO 31 3,oO 32 (.binOp .eql 3 (xT 31) (nI 0) 3)] [0,1,2,3,4,10,11,12,32] (cD 32 (sR [mO 33 0,mO 34 1,mO 35 2,mO 36 4,oO 37 (cL 272 #[(xT 33),(xT 34),(xT 35),(xT 36)] #[242,3,3,287])] [] (.ret)) (.skip))) (.keep [0,1,2,3,4,10,11,12] (.seq (sR [mO 38 10,oO 39 (.unOp .not 4 (xT 38))] [0,1,2,3,4,10,11,12,39] (cD 39 (sR [mO 40 0,mO 41 1,mO 42 2,mO 43 4,oO 44 (cL 273 #[(xT 40),(xT 41),(xT 42),(xT 43)] #[242,3,3,287])] [0,1,2,3,4,10,11,12] (.reg [mO 45 3,oO 46 (.binOp .sub 3 (xT 45) (nI 1) 3),aO 3 46] [0,1,2,3,4,10,11,12])) (.skip))) (.keep [0,1,2,3,4,10,11,12] B7))))))) 
def Di:CC:=sR [oO 10 (.assign (nB true))] [0,1,2,3,4,10] (sR [oO 11 (.assign (nB true))] [0,1,2,3,4,10,11] (.block 0 (.loop AI)))
theorem GA:Bh Tryz.prog 264 148 [] Di:=Au Tryz.func264
def CP:CC:=sR [mO 5 0,oO 6 (bL 5 242),aO 4 6] [0,1,4] (.reg [mO 7 0,mO 8 4,mO 9 4,oO 10 (.convert 3 269 (xT 9)),oO 11 (cL 265 #[(xT 10)] #[269]),mO 12 1,oO 13 (cL 264 #[(xT 7),(nI 0),(xT 8),(xT 11),(xT 12)] #[242,3,3,3,287])] [])
theorem FA:Bh Tryz.prog 241 14 [] CP:=Au Tryz.func241
@[simp] theorem AgD:Tryz.prog.underlying 166=some (.slice 171):=by kernel_rfl
@[simp] theorem AgE:Tryz.prog.underlying 208=some (.slice 211):=by kernel_rfl
@[simp] theorem Agw:Tryz.prog.underlying 221=some (.array 3 3):=by kernel_rfl
@[simp] theorem AeJ:CI Tryz.prog 166=some 1:=by kernel_rfl
@[simp] theorem AfR:CI Tryz.prog 171=some 2:=by kernel_rfl
@[simp] theorem AfZ:CI Tryz.prog 211=some 2:=by kernel_rfl
@[simp] theorem AaY:C5 Tryz.prog 166=some false:=by kernel_rfl
@[simp] theorem Adb:C5 Tryz.prog 171=some true:=by kernel_rfl
@[simp] theorem AaW:C5 Tryz.prog 211=some true:=by kernel_rfl
@[simp] theorem y9:Bn Tryz.prog 166=some (Value.slice none 0 0):=by kernel_rfl
@[simp] theorem zk:Bn Tryz.prog 171=some (Value.agg #[Value.int IntKind.i64 0,Value.int IntKind.i64 0]):=by kernel_rfl
@[simp] theorem z8:Bn Tryz.prog 211=some (Value.agg #[Value.int IntKind.i64 0,Value.int IntKind.i64 0]):=by kernel_rfl
@[simp] theorem zY:Bn Tryz.prog 221=some (Value.agg #[Value.int IntKind.i64 0,Value.int IntKind.i64 0,Value.int IntKind.i64 0]):=by kernel_rfl
@[simp] theorem w9:BJ Tryz.prog 171=some 16:=by kernel_rfl
@[simp] theorem wk:BJ Tryz.prog 211=some 16:=by kernel_rfl
@[simp] theorem mg:Aj Tryz.prog 171 0=some 0:=by kernel_rfl
@[simp] theorem mw:Aj Tryz.prog 171 1=some 1:=by kernel_rfl
@[simp] theorem kY:Aj Tryz.prog 211 0=some 0:=by kernel_rfl
@[simp] theorem lW:Aj Tryz.prog 211 1=some 1:=by kernel_rfl
@[simp] theorem lM:Aj Tryz.prog 219 0=some 0:=by kernel_rfl
@[simp] theorem xQ (ps:List (Nat × A)):Bs Tryz.prog 171 ps=(BW (fun i=>([(0,1),(1,1)]:List (Nat × Nat))[i]?) [iv 0,iv 0] ps).map A.agg:=by kernel_rfl
@[simp] theorem v9 (ps:List (Nat × A)):Bs Tryz.prog 211 ps=(BW (fun i=>([(0,1),(1,1)]:List (Nat × Nat))[i]?) [iv 0,iv 0] ps).map A.agg:=by kernel_rfl
@[simp] theorem xq (ps:List (Nat × A)):Bs Tryz.prog 219 ps=(BW (fun i=>([(0,1)]:List (Nat × Nat))[i]?) [A.sl true []] ps).map A.agg:=by kernel_rfl
def SI:CC:=sR [oO 8 (.assign (nI 0))] [0,1,2,3] (.seq (.block 0 (sR [mO 10 2,mO 11 10,oG 12 (mV 3) 11 true,oO 13 (.pick (xT 11) (xT 12) (nB false)),aO 9 13] [0,1,2,3,9] (cD 9 (sR [oO 8 (.assign (nI 0))] [8] (.ret)) (sR [mO 15 2,mO 16 15,oG 17 (mV 3) 16 false,oG 18 (.unOp .not 4 (xT 17)) 16 false,oG 19 (mV 18) 16 false,oG 20 (mV 0) 19 true,oG 21 (mV 1) 19 true,oG 22 (.binOp .sub 3 (xT 21) (nI 1) 3) 19 true,oG 23 (iA 164 20 22) 19 true,oG 24 (lD 3 23) 19 true,oG 25 (mV 0) 19 true,oG 26 (mV 1) 19 true,oG 27 (.binOp .add 3 (xT 26) (nI 1) 3) 19 true,oG 28 (iA 164 25 27) 19 true,oG 29 (lD 3 28) 19 true,oG 30 (bO .lss 3 24 29 3) 19 true,oG 31 (.pick (xT 19) (xT 30) (nB false)) 16 false,oO 32 (.pick (xT 16) (nB true) (xT 31)),aO 14 32] [0,1,14] (cD 14 (sR [mO 33 0,mO 34 1,oO 35 (.binOp .add 3 (xT 34) (nI 1) 3),oO 36 (iA 164 33 35),lO 37 3 36,aO 8 37] [8] (.ret)) (.skip)))))) (.keep [0,1] (sR [mO 38 0,mO 39 1,oO 40 (.binOp .sub 3 (xT 39) (nI 1) 3),oO 41 (iA 164 38 40),lO 42 3 41,oO 43 (.binOp .add 3 (xT 42) (nI 1) 3),aO 8 43] [8] (.ret))))
theorem av:Bh Tryz.prog 219 44 [(.tmp 8)] SI:=Au Tryz.func219
def F7:CC:=.seq (sR [mO 73 13,mO 74 8,oO 75 (bO .lss 3 73 74 3),mO 76 75,oG 77 (mV 14) 76 true,oG 78 (mV 9) 76 true,oG 79 (bO .lss 3 77 78 3) 76 true,oO 80 (.pick (xT 76) (xT 79) (nB false)),mO 81 80,oG 82 (mV 13) 81 true,oG 83 (.binOp .geq 3 (xT 82) (nI 0) 3) 81 true,oO 84 (.pick (xT 81) (xT 83) (nB false)),mO 85 84,oG 86 (mV 14) 85 true,oG 87 (.binOp .geq 3 (xT 86) (nI 0) 3) 85 true,oO 88 (.pick (xT 85) (xT 87) (nB false)),mO 89 88,oG 90 (mV 0) 89 true,oG 91 (mV 13) 89 true,oG 92 (iA 164 90 91) 89 true,oG 93 (lD 3 92) 89 true,oG 94 (mV 1) 89 true,oG 95 (mV 14) 89 true,oG 96 (iA 164 94 95) 89 true,oG 97 (lD 3 96) 89 true,oG 98 (bO .eql 3 93 97 3) 89 true,oO 99 (.pick (xT 89) (xT 98) (nB false))] [0,1,2,8,9,10,11,12,13,14,99] (cD 99 (.skip) (.exit 4))) (.keep [0,1,2,8,9,10,11,12,13,14] (.block 5 (.reg [mO 100 13,oO 101 (.binOp .add 3 (xT 100) (nI 1) 3),mO 102 14,oO 103 (.binOp .add 3 (xT 102) (nI 1) 3),aO 13 101,aO 14 103] [0,1,2,8,9,10,11,12,13,14])))
def F9:CC:=.seq (sR [mO 52 12,mO 53 11,oO 54 (bO .leq 3 52 53 3)] [0,1,2,8,9,10,11,12,54] (cD 54 (.skip) (.exit 2))) (.keep [0,1,2,8,9,10,11,12] (.seq (.block 3 (sR [mO 57 10,mO 58 2,oO 59 (.binOp .add 3 (xT 58) (nI 1) 3),mO 60 12,oO 61 (bO .add 3 59 60 3),mO 62 12,mO 63 11,oO 64 (.unOp .neg 3 (xT 63)),oO 65 (bO .eql 3 62 64 3),mO 66 12,mO 67 11,oO 68 (bO .eql 3 66 67 3),oO 69 (cL 219 #[(xT 57),(xT 61),(xT 65),(xT 68)] #[164,3,4,4]),aO 13 69] [0,1,2,8,9,10,11,12,13] (sR [mO 70 13,mO 71 12,oO 72 (bO .sub 3 70 71 3),aO 14 72] [0,1,2,8,9,10,11,12,13,14] (.seq (.block 4 (.loop F7)) (.keep [0,1,2,8,9,10,11,12,13,14] (sR [mO 104 10,mO 105 2,oO 106 (.binOp .add 3 (xT 105) (nI 1) 3),mO 107 12,oO 108 (bO .add 3 106 107 3),mO 109 13,oO 110 (iA 164 104 108),oS (.store 3 (xT 110) (xT 109))] [0,1,2,8,9,10,11,12,13,14] (sR [mO 111 13,mO 112 8,oO 113 (bO .geq 3 111 112 3),mO 114 113,oG 115 (mV 14) 114 true,oG 116 (mV 9) 114 true,oG 117 (bO .geq 3 115 116 3) 114 true,oO 118 (.pick (xT 114) (xT 117) (nB false))] [0,1,2,8,9,10,11,12,118] (cD 118 (sR [mO 119 11,aO 6 119,oO 7 (.assign (nB true))] [6,7] (.ret)) (.skip))))))))) (.keep [0,1,2,8,9,10,11,12] (.reg [mO 55 12,oO 56 (.binOp .add 3 (xT 55) (nI 2) 3),aO 12 56] [0,1,2,8,9,10,11,12]))))
def Gb:CC:=.seq (sR [mO 45 11,mO 46 2,oO 47 (bO .leq 3 45 46 3)] [0,1,2,8,9,10,11,47] (cD 47 (.skip) (.exit 0))) (.keep [0,1,2,8,9,10,11] (.seq (.block 1 (sR [mO 50 11,oO 51 (.unOp .neg 3 (xT 50)),aO 12 51] [0,1,2,8,9,10,11,12] (.block 2 (.loop F9)))) (.keep [0,1,2,8,9,10,11] (.reg [mO 48 11,oO 49 (.binOp .add 3 (xT 48) (nI 1) 3),aO 11 49] [0,1,2,8,9,10,11])))) 
def Ng:CC:=sR [oO 6 (.assign (nI 0)),oO 7 (.assign (nB false))] [0,1,2] (sR [mO 15 0,oO 16 (bL 15 164),mO 17 1,oO 18 (bL 17 164),aO 8 16,aO 9 18] [0,1,2,8,9] (sR [mO 19 2,oO 20 (bC .max #[(xT 19),(.const (.int .i64 (-1)))] #[3,3]),mO 21 8,mO 22 9,oO 23 (bO .add 3 21 22 3),oO 24 (bC .min #[(xT 20),(xT 23)] #[3,3]),aO 2 24] [0,1,2,8,9] (.seq (sR [mO 25 2,oO 26 (.binOp .lss 3 (xT 25) (nI 0) 3),mO 27 26,oG 28 (mV 8) 27 false,oG 29 (mV 9) 27 false,oG 30 (bO .sub 3 28 29 3) 27 false,oG 31 (mV 2) 27 false,oG 32 (bO .gtr 3 30 31 3) 27 false,oO 33 (.pick (xT 27) (nB true) (xT 32)),mO 34 33,oG 35 (mV 9) 34 false,oG 36 (mV 8) 34 false,oG 37 (bO .sub 3 35 36 3) 34 false,oG 38 (mV 2) 34 false,oG 39 (bO .gtr 3 37 38 3) 34 false,oO 40 (.pick (xT 34) (nB true) (xT 39))] [0,1,2,8,9,40] (cD 40 (sR [oO 6 (.assign (nI 0)),oO 7 (.assign (nB false))] [6,7] (.ret)) (.skip))) (.keep [0,1,2,8,9] (sR [mO 41 2,oO 42 (.binOp .mul 3 (nI 2) (xT 41) 3),oO 43 (.binOp .add 3 (xT 42) (nI 3) 3),oN 44 (.makeSlice 164 (xT 43) (xT 43)) [0],aO 10 44] [0,1,2,8,9,10] (.seq (sR [oO 11 (.assign (nI 0))] [0,1,2,8,9,10,11] (.block 0 (.loop Gb))) (.keep [] (sR [oO 6 (.assign (nI 0)),oO 7 (.assign (nB false))] [6,7] (.ret)))))))))
theorem Vg:Bh Tryz.prog 175 120 [(.tmp 6),(.tmp 7)] Ng:=Au Tryz.func175
def P9:CC:=.reg [mO 43 5,mO 44 9,oO 45 (.binOp .add 3 (xT 44) (nI 1) 3),mO 46 5,mO 47 9,oO 48 (.binOp .add 3 (xT 47) (nI 1) 3),oO 49 (iA 164 46 48),lO 50 3 49,mO 51 5,mO 52 9,oO 53 (iA 164 51 52),lO 54 3 53,oO 55 (bC .max #[(xT 50),(xT 54)] #[3,3]),mO 56 11,oO 57 (iA 164 43 45),oS (.store 3 (xT 57) (xT 55)),aO 8 56] [1,5,7,8,16,17,18,22,23,24]
def JI:CC:=sR [oO 25 (bO .lss 3 24 23 3)] [1,5,7,8,16,17,18,22,23,24,25] (.seq (cD 25 (.skip) (.exit 2)) (.keep [1,5,7,8,16,17,18,22,23,24] (.seq (.block 3 (sR [mO 26 24,oO 27 (iA 164 22 24),lO 28 3 27,aO 9 26,aO 10 28] [1,5,7,8,9,10,16,17,18,22,23,24] (sR [mO 29 5,mO 30 9,oO 31 (.binOp .add 3 (xT 30) (nI 1) 3),oO 32 (iA 164 29 31),lO 33 3 32,aO 11 33] [1,5,7,8,9,10,11,16,17,18,22,23,24] (.seq (sR [mO 34 7,mO 35 10,oO 36 (bO .eql 3 34 35 3)] [1,5,7,8,9,11,16,17,18,22,23,24,36] (cD 36 (.reg [mO 37 5,mO 38 9,oO 39 (.binOp .add 3 (xT 38) (nI 1) 3),mO 40 8,oO 41 (.binOp .add 3 (xT 40) (nI 1) 3),oO 42 (iA 164 37 39),oS (.store 3 (xT 42) (xT 41))] [1,5,7,9,11,16,17,18,22,23,24]) (.skip))) (.keep [1,5,7,9,11,16,17,18,22,23,24] P9))))) (.keep [1,5,7,8,16,17,18,22,23,24] (.reg [oO 58 (.binOp .add 3 (xT 24) (nI 1) 3),mO 24 58] [1,5,7,8,16,17,18,22,23,24])))))
def Mh:CC:=sR [oO 19 (bO .lss 3 18 17 3)] [1,5,16,17,18,19] (.seq (cD 19 (.skip) (.exit 0)) (.keep [1,5,16,17,18] (.seq (.block 1 (sR [oO 20 (iA 164 16 18),lO 21 3 20,aO 7 21] [1,5,7,16,17,18] (sR [oO 8 (.assign (nI 0))] [1,5,7,8,16,17,18] (sR [mO 22 1,oO 23 (bL 22 164),oO 24 (.move (nI 0))] [1,5,7,8,16,17,18,22,23,24] (.block 2 (.loop JI)))))) (.keep [1,5,16,17,18] (.reg [oO 59 (.binOp .add 3 (xT 18) (nI 1) 3),mO 18 59] [1,5,16,17,18]))))) 
def XA:CC:=sR [oO 4 (.assign nS)] [0,1] (sR [mO 12 1,oO 13 (bL 12 164),oO 14 (.binOp .add 3 (xT 13) (nI 1) 3),oN 15 (.makeSlice 164 (xT 14) (xT 14)) [0],aO 5 15] [0,1,5] (.seq (sR [mO 16 0,oO 17 (bL 16 164),oO 18 (.move (nI 0))] [1,5,16,17,18] (.block 0 (.loop Mh))) (.keep [5] (sR [mO 60 5,aO 4 60] [4] (.ret)))))
theorem kT:Bh Tryz.prog 251 61 [(.tmp 4)] XA:=Au Tryz.func251
def HR:CC:=sR [oO 12 (bO .lss 3 11 10 3)] [0,3,9,10,11,12] (.seq (cD 12 (.skip) (.exit 0)) (.keep [0,3,9,10,11] (.seq (.block 1 (sR [mO 13 11,oO 14 (iA 164 9 11),lO 15 3 14,aO 4 13,aO 5 15] [0,3,4,5,9,10,11] (.reg [mO 16 3,mO 17 0,oO 18 (bL 17 164),oO 19 (.binOp .sub 3 (xT 18) (nI 1) 3),mO 20 4,oO 21 (bO .sub 3 19 20 3),mO 22 5,oO 23 (iA 164 16 21),oS (.store 3 (xT 23) (xT 22))] [0,3,9,10,11]))) (.reg [oO 24 (.binOp .add 3 (xT 11) (nI 1) 3),mO 11 24] [0,3,9,10,11])))) 
def Q9:CC:=sR [oO 2 (.assign nS)] [0] (sR [mO 6 0,oO 7 (bL 6 164),oN 8 (.makeSlice 164 (xT 7) (xT 7)) [0],aO 3 8] [0,3] (.seq (sR [mO 9 0,oO 10 (bL 9 164),oO 11 (.move (nI 0))] [0,3,9,10,11] (.block 0 (.loop HR))) (.keep [3] (sR [mO 25 3,aO 2 25] [2] (.ret)))))
theorem Ye:Bh Tryz.prog 252 26 [(.tmp 2)] Q9:=Au Tryz.func252
def Jq:CC:=sR [oO 26 (bO .lss 3 25 24 3)] [1,7,8,9,24,25,26] (.seq (cD 26 (.skip) (.exit 0)) (.keep [1,7,8,9,24,25] (.seq (.block 1 (sR [mO 27 25,aO 10 27] [1,7,8,9,10,24,25] (sR [mO 28 7,mO 29 10,oO 30 (iA 164 28 29),lO 31 3 30,mO 32 8,mO 33 1,oO 34 (bL 33 164),mO 35 10,oO 36 (bO .sub 3 34 35 3),oO 37 (iA 164 32 36),lO 38 3 37,oO 39 (bO .add 3 31 38 3),mO 40 7,mO 41 9,oO 42 (iA 164 40 41),lO 43 3 42,mO 44 8,mO 45 1,oO 46 (bL 45 164),mO 47 9,oO 48 (bO .sub 3 46 47 3),oO 49 (iA 164 44 48),lO 50 3 49,oO 51 (bO .add 3 43 50 3),oO 52 (bO .gtr 3 39 51 3)] [1,7,8,9,10,24,25,52] (cD 52 (.reg [mO 53 10,aO 9 53] [1,7,8,9,24,25]) (.skip))))) (.keep [1,7,8,9,24,25] (.reg [oO 54 (.binOp .add 3 (xT 25) (nI 1) 3),mO 25 54] [1,7,8,9,24,25]))))) 
def SZ:CC:=sR [oO 6 (.assign (nI 0))] [0,1,2] (sR [mO 11 0,mO 12 2,oO 13 (.slice 164 (xT 11) none (some (xT 12)) none),mO 14 1,oO 15 (cL 251 #[(xT 13),(xT 14)] #[164,164]),mO 16 0,mO 17 2,oO 18 (.slice 164 (xT 16) (some (xT 17)) none none),oO 19 (cL 252 #[(xT 18)] #[164]),mO 20 1,oO 21 (cL 252 #[(xT 20)] #[164]),oO 22 (cL 251 #[(xT 19),(xT 21)] #[164,164]),aO 7 15,aO 8 22] [1,7,8] (sR [oO 9 (.assign (nI 0))] [1,7,8,9] (.seq (sR [mO 23 7,oO 24 (bL 23 164),oO 25 (.move (nI 0))] [1,7,8,9,24,25] (.block 0 (.loop Jq))) (.keep [9] (sR [mO 55 9,aO 6 55] [6] (.ret))))))
theorem bg:Bh Tryz.prog 222 56 [(.tmp 6)] SZ:=Au Tryz.func222
def LA:CC:=sR [mO 6 2,oO 7 (.binOp .gtr 3 (xT 6) (nI 0) 3)] [0,1,2,7] (cD 7 (.reg [mO 8 0,mO 9 0,oO 10 (.nilCheck (xT 9)),fO 11 219 10 0,lO 12 166 11,mO 13 1,mO 14 2,oO 15 (.build 171 #[(0,(xT 13)),(1,(xT 14))]),oO 16 (.buildSlice 166 1 #[(0,(xT 15))]),oN 17 (bC .append #[(xT 12),(xT 16)] #[166,166]) [1],oO 18 (.nilCheck (xT 8)),fO 19 219 18 0,oS (.store 166 (xT 19) (xT 17))] []) (.skip))
theorem Sb:Bh Tryz.prog 220 20 [] LA:=Au Tryz.func220
def EN:CC:=sR [oO 11 (bO .lss 3 10 9 3)] [0,1,2,8,9,10,11] (.seq (cD 11 (.skip) (.exit 0)) (.keep [0,1,2,8,9,10] (.seq (.block 1 (sR [mO 12 10,oO 13 (iA 164 8 10),lO 14 3 13,aO 6 12,aO 7 14] [0,1,2,6,7,8,9,10] (sR [mO 15 1,mO 16 7,oO 17 (bO .eql 3 15 16 3)] [0,1,2,6,8,9,10,17] (cD 17 (sR [mO 18 0,mO 19 6,oO 20 (cL 220 #[(xT 18),(nI 2),(xT 19)] #[217,3,3])] [0,2,6] (sR [mO 21 0,oO 22 (cL 220 #[(xT 21),(nI 0),(nI 1)] #[217,3,3])] [0,2,6] (sR [mO 23 0,mO 24 2,oO 25 (bL 24 164),mO 26 6,oO 27 (bO .sub 3 25 26 3),oO 28 (.binOp .sub 3 (xT 27) (nI 1) 3),oO 29 (cL 220 #[(xT 23),(nI 2),(xT 28)] #[217,3,3])] [] (.ret)))) (.skip))))) (.keep [0,1,2,8,9,10] (.reg [oO 30 (.binOp .add 3 (xT 10) (nI 1) 3),mO 10 30] [0,1,2,8,9,10]))))) 
def Lj:CC:=.seq (sR [mO 8 2,oO 9 (bL 8 164),oO 10 (.move (nI 0))] [0,1,2,8,9,10] (.block 0 (.loop EN))) (.keep [0,2] (sR [mO 31 0,oO 32 (cL 220 #[(xT 31),(nI 1),(nI 1)] #[217,3,3])] [0,2] (.reg [mO 33 0,mO 34 2,oO 35 (bL 34 164),oO 36 (cL 220 #[(xT 33),(nI 2),(xT 35)] #[217,3,3])] [])))
theorem R1:Bh Tryz.prog 221 37 [] Lj:=Au Tryz.func221
def Dz:CC:=.block 0 (sR [mO 32 1,oO 33 (bL 32 164),oO 34 (.binOp .eql 3 (xT 33) (nI 0) 3),mO 35 34,oG 36 (mV 2) 35 false,oG 37 (bL 36 164) 35 false,oG 38 (.binOp .eql 3 (xT 37) (nI 0) 3) 35 false,oO 39 (.pick (xT 35) (nB true) (xT 38)),aO 31 39] [0,1,2,31] (cD 31 (sR [mO 40 0,mO 41 1,oO 42 (bL 41 164),oO 43 (cL 220 #[(xT 40),(nI 1),(xT 42)] #[217,3,3])] [0,2] (.reg [mO 44 0,mO 45 2,oO 46 (bL 45 164),oO 47 (cL 220 #[(xT 44),(nI 2),(xT 46)] #[217,3,3])] [])) (sR [mO 49 1,oO 50 (bL 49 164),oO 51 (.binOp .eql 3 (xT 50) (nI 1) 3),aO 48 51] [0,1,2,48] (cD 48 (.reg [mO 52 0,mO 53 1,oO 54 (.indexAddr 164 (xT 53) (nI 0)),lO 55 3 54,mO 56 2,oO 57 (cL 221 #[(xT 52),(xT 55),(xT 56)] #[217,3,164])] []) (sR [mO 8 1,oO 9 (bL 8 164),oO 10 (.binOp .quo 3 (xT 9) (nI 2) 3),aO 6 10] [0,1,2,6] (sR [mO 11 1,mO 12 2,mO 13 6,oO 14 (cL 222 #[(xT 11),(xT 12),(xT 13)] #[164,164,3]),aO 7 14] [0,1,2,6,7] (sR [mO 15 0,mO 16 1,mO 17 6,oO 18 (.slice 164 (xT 16) none (some (xT 17)) none),mO 19 2,mO 20 7,oO 21 (.slice 164 (xT 19) none (some (xT 20)) none),oO 22 (cL 176 #[(xT 15),(xT 18),(xT 21)] #[217,164,164])] [0,1,2,6,7] (.reg [mO 23 0,mO 24 1,mO 25 6,oO 26 (.slice 164 (xT 24) (some (xT 25)) none none),mO 27 2,mO 28 7,oO 29 (.slice 164 (xT 27) (some (xT 28)) none none),oO 30 (cL 176 #[(xT 23),(xT 26),(xT 29)] #[217,164,164])] []))))))))
theorem EI:Bh Tryz.prog 176 58 [] Dz:=Au Tryz.func176
def I6:CC:=sR [oN 1 (.box 171 (xT 0)) [0],oO 2 (.assign (nB false))] [1] (sR [fO 3 171 1 0,lO 4 3 3,oO 5 (.binOp .geq 3 (xT 4) (nI 0) 3),mO 6 5,oG 7 (fA 171 1 0) 6 true,oG 8 (lD 3 7) 6 true,oG 9 (.binOp .leq 3 (xT 8) (nI 2) 3) 6 true,oO 10 (.pick (xT 6) (xT 9) (nB false)),mO 11 10,oG 12 (fA 171 1 1) 11 true,oG 13 (lD 3 12) 11 true,oG 14 (.binOp .geq 3 (xT 13) (nI 1) 3) 11 true,oO 15 (.pick (xT 11) (xT 14) (nB false)),mO 16 15,oG 17 (fA 171 1 1) 16 true,oG 18 (lD 3 17) 16 true,oG 19 (.binOp .leq 3 (xT 18) (nI 1048576) 3) 16 true,oO 20 (.pick (xT 16) (xT 19) (nB false)),aO 2 20] [2] (.ret))
theorem OJ:Bh Tryz.prog 178 21 [(.tmp 2)] I6:=Au Tryz.func178
def Ej:CC:=sR [oO 9 (bO .lss 3 8 7 3)] [1,2,6,7,8,9] (.seq (cD 9 (.skip) (.exit 0)) (.keep [1,2,6,7,8] (.seq (.block 1 (sR [oO 10 (iA 164 6 8),lO 11 3 10,aO 5 11] [1,2,5,6,7,8] (.seq (sR [mO 12 5,oO 13 (iA 221 1 12),lO 14 3 13,oO 15 (.binOp .gtr 3 (xT 14) (nI 0) 3)] [1,2,5,6,7,8,15] (cD 15 (.reg [⟨some 16,(lD 166 2),none,[],0,[],true⟩,mO 17 5,mO 18 5,oO 19 (iA 221 1 18),lO 20 3 19,oO 21 (.build 171 #[(0,(xT 17)),(1,(xT 20))]),⟨some 22,(.buildSlice 166 1 #[(0,(xT 21))]),none,[],6,[0],false⟩,oN 23 (bC .append #[(xT 16),(xT 22)] #[166,166]) [1],oS (.store 166 (xT 2) (xT 23))] [1,2,5,6,7,8]) (.skip))) (.keep [1,2,5,6,7,8] (.reg [mO 24 5,oO 25 (iA 221 1 24),oS (.store 3 (xT 25) (nI 0))] [1,2,6,7,8]))))) (.keep [1,2,6,7,8] (.reg [oO 26 (.binOp .add 3 (xT 8) (nI 1) 3),mO 8 26] [1,2,6,7,8]))))) 
def Ks:CC:=sR [mO 6 0,oO 7 (bL 6 164),oO 8 (.move (nI 0))] [1,2,6,7,8] (.block 0 (.loop Ej))
theorem Rr:Bh Tryz.prog 177 27 [] Ks:=Au Tryz.func177
def Fx:CC:=.reg [fO 29 171 7 0,lO 30 3 29,oO 31 (iA 221 4 30),lO 32 3 31,fO 33 171 7 1,lO 34 3 33,oO 35 (bO .add 3 32 34 3),oO 36 (iA 221 4 30),oS (.store 3 (xT 36) (xT 35))] [3,4,5,9,10,11]
def D9:CC:=sR [oO 12 (bO .lss 3 11 10 3)] [3,4,5,9,10,11,12] (.seq (cD 12 (.skip) (.exit 0)) (.keep [3,4,5,9,10,11] (.seq (.block 1 (sR [oO 13 (iA 166 9 11),lO 14 171 13,oN 7 (.alloc 171) [2],oS (.store 171 (xT 7) (xT 14))] [3,4,5,7,9,10,11] (.seq (.block 2 (sR [lO 19 171 7,oO 20 (cL 178 #[(xT 19)] #[171]),oO 21 (.unOp .not 4 (xT 20)),aO 18 21] [3,4,5,7,9,10,11,18] (cD 18 (.exit 1) (sR [fO 23 171 7 0,lO 24 3 23,oO 25 (.binOp .eql 3 (xT 24) (nI 0) 3),aO 22 25] [3,4,5,7,9,10,11,22] (cD 22 (.reg [mO 26 5,oO 27 (.buildSlice 164 2 #[(0,(nI 1)),(1,(nI 2))]),oO 28 (.call { callee:=(.value (xT 26)),args:=#[(xT 27)],argTypes:=#[164] })] [3,4,5,7,9,10,11]) (.reg [mO 15 5,oO 16 (.buildSlice 164 1 #[(0,(nI 0))]),oO 17 (.call { callee:=(.value (xT 15)),args:=#[(xT 16)],argTypes:=#[164] })] [3,4,5,7,9,10,11])))))) (.keep [3,4,5,7,9,10,11] Fx)))) (.keep [3,4,5,9,10,11] (.reg [oO 37 (.binOp .add 3 (xT 11) (nI 1) 3),mO 11 37] [3,4,5,9,10,11]))))) 
def MB:CC:=sR [oO 2 (.assign nS)] [0] (sR [oN 3 (.alloc 166) [0]] [0,3] (sR [oN 4 (.alloc 221) [0,1]] [0,3,4] (sR [oO 8 (.makeFunc (.func 177) #[] #[(xT 4),(xT 3)]),aO 5 8] [0,3,4,5] (.seq (sR [mO 9 0,oO 10 (bL 9 166),oO 11 (.move (nI 0))] [3,4,5,9,10,11] (.block 0 (.loop D9))) (.keep [3,5] (sR [mO 38 5,oO 39 (.buildSlice 164 3 #[(0,(nI 0)),(1,(nI 1)),(2,(nI 2))]),oO 40 (.call { callee:=(.value (xT 38)),args:=#[(xT 39)],argTypes:=#[164] })] [3] (sR [lO 41 166 3,aO 2 41] [2] (.ret))))))))
theorem TL:Bh Tryz.prog 120 42 [(.tmp 2)] MB:=Au Tryz.func120
def VR:CC:=sR [oO 6 (.assign nS),oO 7 (.assign (nB false))] [0,1,2] (.seq (sR [mO 12 0,mO 13 1,mO 14 2,oO 15 (cL 175 #[(xT 12),(xT 13),(xT 14)] #[164,164,3]),mO 11 15,xO 16 11 0,xO 17 11 1,aO 8 16,aO 9 17] [0,1,9] (sR [mO 18 9,oO 19 (.unOp .not 4 (xT 18))] [0,1,19] (cD 19 (sR [oO 6 (.assign nS),oO 7 (.assign (nB false))] [6,7] (.ret)) (.skip)))) (.keep [0,1] (sR [oO 20 (.build 219 #[]),oN 21 (.box 219 (xT 20)) [0],aO 10 21] [0,1,10] (.stop (sR [mO 22 10,mO 23 0,mO 24 1,oO 25 (cL 176 #[(xT 22),(xT 23),(xT 24)] #[217,164,164])] [10] (sR [mO 26 10,oO 27 (.nilCheck (xT 26)),fO 28 219 27 0,lO 29 166 28,oO 30 (cL 120 #[(xT 29)] #[166]),aO 6 30,oO 7 (.assign (nB true))] [6,7] (.ret)))))))
theorem cX:Bh Tryz.prog 119 31 [(.tmp 6),(.tmp 7)] VR:=Au Tryz.func119
@[simp] theorem mz:Aj Tryz.prog 152 0=some 0:=by kernel_rfl
@[simp] theorem mi:Aj Tryz.prog 152 1=some 1:=by kernel_rfl
@[simp] theorem kV:Aj Tryz.prog 152 2=some 2:=by kernel_rfl
@[simp] theorem kW:Aj Tryz.prog 163 0=some 0:=by kernel_rfl
@[simp] theorem xz (ps:List (Nat × A)):Bs Tryz.prog 152 ps=(BW (fun i=>([(0,1),(1,1),(2,1)]:List (Nat × Nat))[i]?) [A.sl true [],A.sl true [],A.sl true []] ps).map A.agg:=by kernel_rfl
@[simp] theorem xY (ps:List (Nat × A)):Bs Tryz.prog 163 ps=(BW (fun i=>([(0,1)]:List (Nat × Nat))[i]?) [A.sl true []] ps).map A.agg:=by kernel_rfl
def HG:CC:=sR [oO 6 (.binOp .lss 3 (xT 5) (nI 8) 3)] [0,2,3,5,6] (.seq (cD 6 (.skip) (.exit 0)) (.keep [0,2,3,5] (.seq (.block 1 (sR [mO 7 5,aO 4 7] [0,2,3,4,5] (.reg [mO 8 4,mO 9 0,mO 10 4,oO 11 (.binOp .mul 3 (nI 8) (xT 10) 3),oO 12 (bO .shr 51 9 11 3),oO 13 (.convert 51 5 (xT 12)),oO 14 (iA 249 3 8),oS (.store 5 (xT 14) (xT 13))] [0,2,3,5]))) (.reg [oO 15 (.binOp .add 3 (xT 5) (nI 1) 3),mO 5 15] [0,2,3,5])))) 
def QM:CC:=sR [oN 2 (.alloc 249) [0]] [0,2] (sR [oN 3 (.alloc 249) [1]] [0,2,3] (.seq (sR [oO 5 (.move (nI 0))] [0,2,3,5] (.block 0 (.loop HG))) (.keep [2,3] (sR [lO 16 249 3,oS (.store 249 (xT 2) (xT 16))] [2] (.ret)))))
theorem YH:Bh Tryz.prog 217 17 [(.cell 2 249)] QM:=Au Tryz.func217
def G7:CC:=sR [oO 13 (.binOp .lss 3 (xT 12) (nI 8) 3)] [5,11,12,13] (.seq (cD 13 (.skip) (.exit 0)) (.keep [5,11,12] (.seq (.block 1 (sR [mO 14 12,oO 15 (.index 249 (xT 11) (xT 12)),aO 6 14,aO 7 15] [5,6,7,11,12] (sR [mO 16 7,oO 17 (.binOp .neq 5 (xT 16) (.const (.int .u8 0)) 5)] [5,6,11,12,17] (cD 17 (.reg [mO 18 5,mO 19 6,oO 20 (.binOp .shl 5 (.const (.int .u8 1)) (xT 19) 3),oO 21 (bO .or 5 18 20 5),aO 5 21] [5,11,12]) (.skip))))) (.keep [5,11,12] (.reg [oO 22 (.binOp .add 3 (xT 12) (nI 1) 3),mO 12 22] [5,11,12]))))) 
def Pd:CC:=sR [oO 4 (.assign (.const (.int .u8 0)))] [0,1] (sR [oO 5 (.assign (.const (.int .u8 0)))] [0,1,5] (.seq (sR [mO 8 0,mO 9 1,oO 10 (bO .xor 51 8 9 51),oO 11 (cL 217 #[(xT 10)] #[51]),oO 12 (.move (nI 0))] [5,11,12] (.block 0 (.loop G7))) (.keep [5] (sR [mO 23 5,aO 4 23] [4] (.ret)))))
theorem WG:Bh Tryz.prog 173 24 [(.tmp 4)] Pd:=Au Tryz.func173
def O5:CC:=sR [oN 3 (.box 33 (xT 1)) [0],oO 4 (.assign (nB false))] [0,3] (sR [fO 5 33 3 0,lO 6 3 5,oO 7 (.binOp .eql 3 (xT 6) (nI 0) 3),mO 8 7,oG 9 (mV 0) 8 false,oG 10 (.binOp .eql 3 (xT 9) (nI 9) 3) 8 false,oG 11 (mV 10) 8 false,oG 12 (fA 33 3 0) 11 true,oG 13 (lD 3 12) 11 true,oG 14 (.binOp .eql 3 (xT 13) (nI 2) 3) 11 true,oG 15 (.pick (xT 11) (xT 14) (nB false)) 8 false,oG 16 (mV 15) 8 false,oG 17 (fA 33 3 3) 16 true,oG 18 (lD 29 17) 16 true,oG 19 (bL 18 29) 16 true,oG 20 (fA 33 3 4) 16 true,oG 21 (lD 30 20) 16 true,oG 22 (bL 21 30) 16 true,oG 23 (bO .add 3 19 22 3) 16 true,oG 24 (.binOp .eql 3 (xT 23) (nI 0) 3) 16 true,oG 25 (.pick (xT 16) (xT 24) (nB false)) 8 false,oO 26 (.pick (xT 8) (nB true) (xT 25)),aO 4 26] [4] (.ret))
theorem Wc:Bh Tryz.prog 112 27 [(.tmp 4)] O5:=Au Tryz.func112
def Hb:CC:=sR [oO 9 (bO .lss 3 8 7 3)] [0,6,7,8,9] (.seq (cD 9 (.skip) (.exit 0)) (.keep [0,6,7,8] (.seq (.block 1 (sR [oO 10 (iA 23 6 8),lO 11 25 10,oN 5 (.alloc 25) [1],oS (.store 25 (xT 5) (xT 11))] [0,5,6,7,8] (.reg [mO 12 0,oO 13 (.nilCheck (xT 12)),⟨some 14,(lD 23 13),none,[],2,[],true⟩,⟨some 15,(lD 25 5),none,[],3,[],true⟩,⟨some 16,(cL 31 #[(xT 15)] #[25]),none,[],4,[2],true⟩,oO 17 (bL 14 23),⟨some 18,(.buildSlice 23 1 #[(0,(.const (.agg #[(.int .i64 0),(.slice none 0 0),(.slice none 0 0)])))]),none,[],6,[2,3,4],false⟩,oN 19 (bC .append #[(xT 14),(xT 18)] #[23,23]) [2],oO 20 (iA 23 19 17),⟨none,(.store 25 (xT 20) (xT 16)),none,[],9,[],true⟩,oO 21 (.nilCheck (xT 12)),⟨none,(.store 23 (xT 21) (xT 19)),none,[],11,[9],false⟩] [0,6,7,8]))) (.reg [oO 22 (.binOp .add 3 (xT 8) (nI 1) 3),mO 8 22] [0,6,7,8])))) 
def KX:CC:=sR [mO 6 1,oO 7 (bL 6 23),oO 8 (.move (nI 0))] [0,6,7,8] (.block 0 (.loop Hb))
theorem OV:Bh Tryz.prog 111 23 [] KX:=Au Tryz.func111
def Cj:CC:=.seq (sR [mO 23 0,oO 24 (.nilCheck (xT 23)),fO 25 152 24 2,lO 26 23 25,oO 27 (bL 26 23),oO 28 (.binOp .gtr 3 (xT 27) (nI 0) 3)] [0,28] (cD 28 (.reg [mO 29 0,oO 30 (.nilCheck (xT 29)),fO 31 152 30 0,⟨some 32,(lD 31 31),none,[],3,[],true⟩,mO 33 0,oO 34 (.nilCheck (xT 33)),fO 35 152 34 2,⟨some 36,(lD 23 35),none,[],7,[],true⟩,oO 37 (.build 91 #[(0,(nI 2)),(2,(xT 36))]),oO 38 (bL 32 31),⟨some 39,(.buildSlice 31 1 #[(0,(.const (.agg #[(.int .i64 0),(.int .i64 0),(.slice none 0 0),(.int .i64 0),(.int .i64 0),(.slice none 0 0),(.slice none 0 0),(.int .i64 0),(.slice none 0 0),(.slice none 0 0),(.slice none 0 0),(.slice none 0 0),(.int .i64 0),(.slice none 0 0)])))]),none,[],10,[3,7],false⟩,oN 40 (bC .append #[(xT 32),(xT 39)] #[31,31]) [2],oO 41 (iA 31 40 38),⟨none,(.store 91 (xT 41) (xT 37)),none,[],13,[],true⟩,oO 42 (.nilCheck (xT 29)),fO 43 152 42 0,⟨none,(.store 31 (xT 43) (xT 40)),none,[],16,[13],false⟩] [0]) (.skip))) (.keep [0] (.reg [mO 44 0,mO 45 0,oO 46 (.nilCheck (xT 44)),fO 47 152 46 1,oS (.store 23 (xT 47) nS),oO 48 (.nilCheck (xT 45)),fO 49 152 48 2,oS (.store 23 (xT 49) nS)] [])) 
def Hm:CC:=.seq (sR [mO 2 0,oO 3 (.nilCheck (xT 2)),fO 4 152 3 1,lO 5 23 4,oO 6 (bL 5 23),oO 7 (.binOp .gtr 3 (xT 6) (nI 0) 3)] [0,7] (cD 7 (.reg [mO 8 0,oO 9 (.nilCheck (xT 8)),fO 10 152 9 0,⟨some 11,(lD 31 10),none,[],3,[],true⟩,mO 12 0,oO 13 (.nilCheck (xT 12)),fO 14 152 13 1,⟨some 15,(lD 23 14),none,[],7,[],true⟩,oO 16 (.build 91 #[(0,(nI 1)),(2,(xT 15))]),oO 17 (bL 11 31),⟨some 18,(.buildSlice 31 1 #[(0,(.const (.agg #[(.int .i64 0),(.int .i64 0),(.slice none 0 0),(.int .i64 0),(.int .i64 0),(.slice none 0 0),(.slice none 0 0),(.int .i64 0),(.slice none 0 0),(.slice none 0 0),(.slice none 0 0),(.slice none 0 0),(.int .i64 0),(.slice none 0 0)])))]),none,[],10,[3,7],false⟩,oN 19 (bC .append #[(xT 11),(xT 18)] #[31,31]) [1],oO 20 (iA 31 19 17),⟨none,(.store 91 (xT 20) (xT 16)),none,[],13,[],true⟩,oO 21 (.nilCheck (xT 8)),fO 22 152 21 0,⟨none,(.store 31 (xT 22) (xT 19)),none,[],16,[13],false⟩] [0]) (.skip))) (.keep [0] Cj)
theorem MN:Bh Tryz.prog 113 50 [] Hm:=Au Tryz.func113
def Fb:CC:=sR [mO 5 0,oO 6 (cL 113 #[(xT 5)] #[150])] [0,1] (.seq (sR [mO 7 0,oO 8 (.nilCheck (xT 7)),fO 9 152 8 0,lO 10 31 9,oO 11 (bL 10 31),oO 12 (.binOp .sub 3 (xT 11) (nI 1) 3),aO 4 12] [0,1,4] (sR [mO 13 4,oO 14 (.binOp .geq 3 (xT 13) (nI 0) 3),mO 15 14,oG 16 (mV 0) 15 true,oG 17 (.nilCheck (xT 16)) 15 true,oG 18 (fA 152 17 0) 15 true,oG 19 (lD 31 18) 15 true,oG 20 (mV 4) 15 true,oG 21 (iA 31 19 20) 15 true,oG 22 (fA 91 21 0) 15 true,oG 23 (lD 3 22) 15 true,oG 24 (.binOp .eql 3 (xT 23) (nI 0) 3) 15 true,oO 25 (.pick (xT 15) (xT 24) (nB false))] [0,1,4,25] (cD 25 (sR [mO 26 0,oO 27 (.nilCheck (xT 26)),fO 28 152 27 0,lO 29 31 28,mO 30 4,oO 31 (iA 31 29 30),fO 32 91 31 1,lO 33 3 32,mO 34 1,oO 35 (bO .add 3 33 34 3),oO 36 (iA 31 29 30),fO 37 91 36 1,oS (.store 3 (xT 37) (xT 35))] [] (.ret)) (.skip)))) (.keep [0,1] (.reg [mO 38 0,oO 39 (.nilCheck (xT 38)),fO 40 152 39 0,⟨some 41,(lD 31 40),none,[],3,[],true⟩,mO 42 1,oO 43 (.build 91 #[(0,(nI 0)),(1,(xT 42))]),oO 44 (bL 41 31),⟨some 45,(.buildSlice 31 1 #[(0,(.const (.agg #[(.int .i64 0),(.int .i64 0),(.slice none 0 0),(.int .i64 0),(.int .i64 0),(.slice none 0 0),(.slice none 0 0),(.int .i64 0),(.slice none 0 0),(.slice none 0 0),(.slice none 0 0),(.slice none 0 0),(.int .i64 0),(.slice none 0 0)])))]),none,[],7,[3],false⟩,oN 46 (bC .append #[(xT 41),(xT 45)] #[31,31]) [1],oO 47 (iA 31 46 44),⟨none,(.store 91 (xT 47) (xT 43)),none,[],10,[],true⟩,oO 48 (.nilCheck (xT 38)),fO 49 152 48 0,⟨none,(.store 31 (xT 49) (xT 46)),none,[],13,[10],false⟩] [])))
theorem Ig:Bh Tryz.prog 110 50 [] Fb:=Au Tryz.func110
def FR:CC:=sR [oO 14 (bO .lss 3 13 12 3)] [0,5,11,12,13,14] (.seq (cD 14 (.skip) (.exit 0)) (.keep [0,5,11,12,13] (.seq (.block 1 (sR [oO 15 (iA 31 11 13),lO 16 91 15,oN 7 (.alloc 91) [1],oS (.store 91 (xT 7) (xT 16))] [0,5,7,11,12,13] (sR [fO 17 91 7 0,lO 18 3 17] [0,5,7,11,12,13,18] (.block 2 (sR [oO 20 (.binOp .eql 3 (xT 18) (nI 0) 3),aO 19 20] [0,5,7,11,12,13,18,19] (cD 19 (.reg [mO 21 5,fO 22 91 7 1,lO 23 3 22,oO 24 (cL 110 #[(xT 21),(xT 23)] #[150,3])] [0,5,11,12,13]) (sR [oO 26 (.binOp .eql 3 (xT 18) (nI 1) 3),aO 25 26] [0,5,7,11,12,13,18,25] (cD 25 (.reg [mO 27 5,oO 28 (.nilCheck (xT 27)),fO 29 152 28 1,fO 30 91 7 2,lO 31 23 30,oO 32 (cL 111 #[(xT 29),(xT 31)] #[155,23])] [0,5,11,12,13]) (sR [oO 34 (.binOp .eql 3 (xT 18) (nI 2) 3),aO 33 34] [0,5,7,11,12,13,18,33] (cD 33 (.reg [mO 35 5,oO 36 (.nilCheck (xT 35)),fO 37 152 36 2,fO 38 91 7 2,lO 39 23 38,oO 40 (cL 111 #[(xT 37),(xT 39)] #[155,23])] [0,5,11,12,13]) (sR [oO 42 (.binOp .eql 3 (xT 18) (nI 3) 3),aO 41 42] [0,5,7,11,12,13,41] (cD 41 (sR [fO 43 91 7 3,lO 44 33 43,oO 45 (cL 29 #[(xT 44)] #[33]),oN 8 (.alloc 33) [2],oS (.store 33 (xT 8) (xT 45))] [0,5,8,11,12,13] (sR [mO 46 0,lO 47 33 8,oO 48 (cL 112 #[(xT 46),(xT 47)] #[3,33])] [0,5,8,11,12,13,48] (cD 48 (.reg [mO 49 5,oO 50 (cL 110 #[(xT 49),(nI 1)] #[150,3])] [0,5,11,12,13]) (sR [mO 51 5,oO 52 (cL 113 #[(xT 51)] #[150])] [0,5,8,11,12,13] (.reg [mO 53 5,oO 54 (.nilCheck (xT 53)),fO 55 152 54 0,⟨some 56,(lD 31 55),none,[],3,[],true⟩,⟨some 57,(lD 33 8),none,[],4,[],true⟩,oO 58 (.build 91 #[(0,(nI 3)),(3,(xT 57))]),oO 59 (bL 56 31),⟨some 60,(.buildSlice 31 1 #[(0,(.const (.agg #[(.int .i64 0),(.int .i64 0),(.slice none 0 0),(.int .i64 0),(.int .i64 0),(.slice none 0 0),(.slice none 0 0),(.int .i64 0),(.slice none 0 0),(.slice none 0 0),(.slice none 0 0),(.slice none 0 0),(.int .i64 0),(.slice none 0 0)])))]),none,[],7,[3,4],false⟩,oN 61 (bC .append #[(xT 56),(xT 60)] #[31,31]) [3],oO 62 (iA 31 61 59),⟨none,(.store 91 (xT 62) (xT 58)),none,[],10,[],true⟩,oO 63 (.nilCheck (xT 53)),fO 64 152 63 0,⟨none,(.store 31 (xT 64) (xT 61)),none,[],13,[10],false⟩] [0,5,11,12,13]))))) (.skip))))))))))))) (.keep [0,5,11,12,13] (.reg [oO 65 (.binOp .add 3 (xT 13) (nI 1) 3),mO 13 65] [0,5,11,12,13]))))) 
def QL:CC:=sR [oO 4 (.assign nS)] [0,1] (sR [oO 9 (.build 152 #[]),oN 10 (.box 152 (xT 9)) [0],aO 5 10] [0,1,5] (.seq (sR [mO 11 1,oO 12 (bL 11 31),oO 13 (.move (nI 0))] [0,5,11,12,13] (.block 0 (.loop FR))) (.keep [5] (sR [mO 66 5,oO 67 (cL 113 #[(xT 66)] #[150])] [5] (sR [mO 68 5,oO 69 (.nilCheck (xT 68)),fO 70 152 69 0,lO 71 31 70,aO 4 71] [4] (.ret))))))
theorem Zg:Bh Tryz.prog 58 72 [(.tmp 4)] QL:=Au Tryz.func58
def GR:CC:=sR [oO 35 (bO .lss 3 34 33 3)] [2,3,32,33,34,35] (.seq (cD 35 (.skip) (.exit 1)) (.keep [2,3,32,33,34] (.seq (.block 2 (sR [oO 36 (iA 30 32 34),lO 37 89 36,oN 5 (.alloc 89) [4],oS (.store 89 (xT 5) (xT 37))] [2,3,5,32,33,34] (.reg [fO 38 33 3 4,⟨some 39,(lD 30 38),none,[],1,[],true⟩,fO 40 89 5 0,⟨some 41,(lD 3 40),none,[],3,[],true⟩,fO 42 89 5 1,lO 43 33 42,⟨some 44,(cL 29 #[(xT 43)] #[33]),none,[],6,[1,3],false⟩,oO 45 (.build 89 #[(0,(xT 41)),(1,(xT 44))]),⟨some 46,(.buildSlice 30 1 #[(0,(xT 45))]),none,[],8,[1],false⟩,oN 47 (bC .append #[(xT 39),(xT 46)] #[30,30]) [5],fO 48 33 3 4,oS (.store 30 (xT 48) (xT 47))] [2,3,32,33,34]))) (.reg [oO 49 (.binOp .add 3 (xT 34) (nI 1) 3),mO 34 49] [2,3,32,33,34])))) 
def OY:CC:=sR [oN 1 (.box 33 (xT 0)) [0],oN 2 (.alloc 33) [1]] [1,2] (sR [fO 6 33 1 0,lO 7 3 6,fO 8 33 1 5,lO 9 3 8,oO 10 (.build 33 #[(0,(xT 7)),(5,(xT 9))]),oN 3 (.alloc 33) [2],oS (.store 33 (xT 3) (xT 10))] [1,2,3] (.seq (sR [fO 11 33 1 0,lO 12 3 11] [1,2,3,12] (.block 0 (sR [oO 14 (.binOp .eql 3 (xT 12) (nI 1) 3),aO 13 14] [1,2,3,12,13] (cD 13 (.reg [fO 15 33 1 1,lO 16 25 15,⟨some 17,(cL 31 #[(xT 16)] #[25]),none,[],2,[],true⟩,fO 18 33 1 2,⟨some 19,(lD 25 18),none,[],4,[2],false⟩,oO 20 (cL 31 #[(xT 19)] #[25]),fO 21 33 3 1,oS (.store 25 (xT 21) (xT 17)),fO 22 33 3 2,oS (.store 25 (xT 22) (xT 20))] [2,3]) (sR [oO 24 (.binOp .eql 3 (xT 12) (nI 2) 3),aO 23 24] [1,2,3,12,23] (cD 23 (sR [fO 25 33 3 3,lO 26 29 25,fO 27 33 1 3,lO 28 29 27,oN 29 (bC .append #[(xT 26),(xT 28)] #[29,29]) [3],fO 30 33 3 3,oS (.store 29 (xT 30) (xT 29))] [1,2,3] (sR [fO 31 33 1 4,lO 32 30 31,oO 33 (bL 32 30),oO 34 (.move (nI 0))] [2,3,32,33,34] (.block 1 (.loop GR)))) (sR [oO 51 (.binOp .eql 3 (xT 12) (nI 3) 3),aO 50 51] [1,2,3,50] (cD 50 (.reg [fO 52 33 1 5,lO 53 3 52,fO 54 33 1 6,lO 55 31 54,oO 56 (cL 58 #[(xT 53),(xT 55)] #[3,31]),fO 57 33 3 6,oS (.store 31 (xT 57) (xT 56))] [2,3]) (.skip))))))))) (.keep [2,3] (sR [lO 58 33 3,oS (.store 33 (xT 2) (xT 58))] [2] (.ret)))))
theorem Wo:Bh Tryz.prog 29 59 [(.cell 2 33)] OY:=Au Tryz.func29
def Tf:CC:=sR [oN 6 (.alloc 80) [0],oO 7 (.assign (nB false))] [0,1,2,6] (sR [mO 9 1,mO 10 2,oO 11 (cL 173 #[(xT 9),(xT 10)] #[51,51]),aO 8 11] [0,1,2,6,8] (.seq (sR [mO 12 8,oO 13 (.binOp .eql 5 (xT 12) (.const (.int .u8 0)) 5)] [0,1,2,6,8,13] (cD 13 (sR [oO 14 (.build 80 #[]),oS (.store 80 (xT 6) (xT 14)),oO 7 (.assign (nB false))] [6,7] (.ret)) (.skip))) (.keep [0,1,2,6,8] (sR [mO 15 0,mO 16 8,mO 17 1,mO 18 8,oO 19 (cL 174 #[(.const (.int .u64 0)),(xT 17),(xT 18)] #[51,51,5]),mO 20 2,mO 21 8,oO 22 (cL 174 #[(.const (.int .u64 0)),(xT 20),(xT 21)] #[51,51,5]),oO 23 (.build 80 #[(0,(xT 15)),(1,(xT 16)),(2,(xT 19)),(3,(xT 22))]),oS (.store 80 (xT 6) (xT 23)),oO 7 (.assign (nB true))] [6,7] (.ret)))))
theorem b7:Bh Tryz.prog 117 24 [(.cell 6 80),(.tmp 7)] Tf:=Au Tryz.func117
def EH:CC:=sR [oO 22 (bO .lss 3 21 20 3)] [2,3,4,6,7,20,21,22] (.seq (cD 22 (.skip) (.exit 0)) (.keep [2,3,4,6,7,20,21] (.seq (.block 1 (sR [mO 23 21,aO 8 23] [2,3,4,6,7,8,20,21] (sR [mO 25 8,⟨some 26,(lD 25 3),none,[],1,[],true⟩,mO 27 8,⟨some 28,(cL 115 #[(xT 26),(xT 27)] #[25,3]),none,[],3,[],true⟩,⟨some 29,(lD 25 4),none,[],4,[3],true⟩,mO 30 8,⟨some 31,(cL 115 #[(xT 29),(xT 30)] #[25,3]),none,[],6,[],true⟩,⟨some 32,(cL 117 #[(xT 25),(xT 28),(xT 31)] #[3,51,51]),none,[],7,[],true⟩,mO 24 32,xO 33 24 0,xO 34 24 1,⟨some 9,(.alloc 80),none,[4],11,[1,3,4,6,7],false⟩,oS (.store 80 (xT 9) (xT 33)),aO 10 34] [2,3,4,6,7,9,10,20,21] (sR [mO 35 10] [2,3,4,6,7,9,20,21,35] (cD 35 (.reg [fO 36 33 7 3,lO 37 29 36,lO 38 80 9,oO 39 (.buildSlice 29 1 #[(0,(xT 38))]),oN 40 (bC .append #[(xT 37),(xT 39)] #[29,29]) [5],fO 41 33 7 3,oS (.store 29 (xT 41) (xT 40))] [2,3,4,6,7,20,21]) (.skip)))))) (.keep [2,3,4,6,7,20,21] (.reg [oO 42 (.binOp .add 3 (xT 21) (nI 1) 3),mO 21 42] [2,3,4,6,7,20,21])))))
def EE:CC:=sR [oO 51 (bO .lss 3 50 49 3)] [2,3,4,6,7,49,50,51] (.seq (cD 51 (.skip) (.exit 2)) (.keep [2,3,4,6,7,49,50] (.seq (.block 3 (sR [mO 52 50,aO 11 52] [2,3,4,6,7,11,49,50] (sR [⟨some 53,(lD 25 3),none,[],0,[],true⟩,mO 54 11,⟨some 55,(cL 116 #[(xT 53),(xT 54)] #[25,3]),none,[],2,[],true⟩,⟨some 56,(lD 25 4),none,[],3,[2],true⟩,mO 57 11,⟨some 58,(cL 116 #[(xT 56),(xT 57)] #[25,3]),none,[],5,[],true⟩,mO 59 2,⟨some 60,(cL 30 #[(xT 55),(xT 58),(xT 59)] #[25,25,3]),none,[],7,[],true⟩,⟨some 12,(.alloc 33),none,[6],8,[0,2,3,5,7],false⟩,oS (.store 33 (xT 12) (xT 60))] [2,3,4,6,7,11,12,49,50] (sR [fO 61 33 12 0,lO 62 3 61,oO 63 (.binOp .neq 3 (xT 62) (nI 0) 3)] [2,3,4,6,7,11,12,49,50,63] (cD 63 (.reg [fO 64 33 7 4,lO 65 30 64,mO 66 11,lO 67 33 12,oO 68 (.build 89 #[(0,(xT 66)),(1,(xT 67))]),oO 69 (.buildSlice 30 1 #[(0,(xT 68))]),oN 70 (bC .append #[(xT 65),(xT 69)] #[30,30]) [7],fO 71 33 7 4,oS (.store 30 (xT 71) (xT 70))] [2,3,4,6,7,49,50]) (.skip)))))) (.keep [2,3,4,6,7,49,50] (.reg [oO 72 (.binOp .add 3 (xT 50) (nI 1) 3),mO 50 72] [2,3,4,6,7,49,50]))))) 
def Ld:CC:=sR [oN 3 (.box 25 (xT 0)) [0],oN 4 (.box 25 (xT 1)) [1],oN 6 (.alloc 33) [2]] [2,3,4,6] (sR [oO 13 (.build 33 #[(0,(nI 2))]),oN 7 (.alloc 33) [3],oS (.store 33 (xT 7) (xT 13))] [2,3,4,6,7] (.seq (sR [fO 14 25 3 1,lO 15 22 14,oO 16 (bL 15 22),fO 17 25 4 1,lO 18 22 17,oO 19 (bL 18 22),oO 20 (bC .max #[(xT 16),(xT 19)] #[3,3]),oO 21 (.move (nI 0))] [2,3,4,6,7,20,21] (.block 0 (.loop EH))) (.keep [2,3,4,6,7] (.seq (sR [fO 43 25 3 2,lO 44 23 43,oO 45 (bL 44 23),fO 46 25 4 2,lO 47 23 46,oO 48 (bL 47 23),oO 49 (bC .max #[(xT 45),(xT 48)] #[3,3]),oO 50 (.move (nI 0))] [2,3,4,6,7,49,50] (.block 2 (.loop EE))) (.keep [6,7] (sR [lO 73 33 7,oS (.store 33 (xT 6) (xT 73))] [6] (.ret)))))))
theorem Se:Bh Tryz.prog 60 74 [(.cell 6 33)] Ld:=Au Tryz.func60
def Ei:CC:=sR [oO 22 (bO .lss 3 21 20 3)] [0,5,7,10,11,12,19,20,21,22] (.seq (cD 22 (.skip) (.exit 2)) (.keep [0,5,7,10,11,12,19,20,21] (.seq (.block 3 (sR [mO 23 21,oO 24 (iA 23 19 21),lO 25 25 24,oN 9 (.alloc 25) [2],aO 8 23,oS (.store 25 (xT 9) (xT 25))] [0,5,7,8,9,10,11,12,19,20,21] (sR [lO 26 25 9,lO 27 25 7,oO 28 (cL 59 #[(xT 26),(xT 27)] #[25,25])] [0,5,7,8,10,11,12,19,20,21,28] (cD 28 (sR [mO 29 5,mO 30 8,oO 31 (.buildSlice 164 1 #[(0,(xT 30))]),oN 32 (bC .append #[(xT 29),(xT 31)] #[164,164]) [3],aO 5 32] [0,5,10,11,12] (.exit 1)) (.skip))))) (.keep [0,5,7,10,11,12,19,20,21] (.reg [oO 33 (.binOp .add 3 (xT 21) (nI 1) 3),mO 21 33] [0,5,7,10,11,12,19,20,21])))))
def Em:CC:=sR [oO 13 (bO .lss 3 12 11 3)] [0,5,10,11,12,13] (.seq (cD 13 (.skip) (.exit 0)) (.keep [0,5,10,11,12] (.seq (.block 1 (sR [oO 14 (iA 23 10 12),lO 15 25 14,oN 7 (.alloc 25) [1],oS (.store 25 (xT 7) (xT 15))] [0,5,7,10,11,12] (.seq (sR [mO 16 0,oO 17 (.nilCheck (xT 16)),fO 18 163 17 0,lO 19 23 18,oO 20 (bL 19 23),oO 21 (.move (nI 0))] [0,5,7,10,11,12,19,20,21] (.block 2 (.loop Ei))) (.keep [0,5,7,10,11,12] (sR [mO 34 5,mO 35 0,oO 36 (.nilCheck (xT 35)),fO 37 163 36 0,lO 38 23 37,oO 39 (bL 38 23),oO 40 (.buildSlice 164 1 #[(0,(xT 39))]),oN 41 (bC .append #[(xT 34),(xT 40)] #[164,164]) [3],aO 5 41] [0,5,7,10,11,12] (.reg [mO 42 0,oO 43 (.nilCheck (xT 42)),fO 44 163 43 0,⟨some 45,(lD 23 44),none,[],3,[],true⟩,⟨some 46,(lD 25 7),none,[],4,[],true⟩,oO 47 (bL 45 23),⟨some 48,(.buildSlice 23 1 #[(0,(.const (.agg #[(.int .i64 0),(.slice none 0 0),(.slice none 0 0)])))]),none,[],6,[3,4],false⟩,oN 49 (bC .append #[(xT 45),(xT 48)] #[23,23]) [5],oO 50 (iA 23 49 47),⟨none,(.store 25 (xT 50) (xT 46)),none,[],9,[],true⟩,oO 51 (.nilCheck (xT 42)),fO 52 163 51 0,⟨none,(.store 23 (xT 52) (xT 49)),none,[],12,[9],false⟩] [0,5,10,11,12])))))) (.keep [0,5,10,11,12] (.reg [oO 53 (.binOp .add 3 (xT 12) (nI 1) 3),mO 12 53] [0,5,10,11,12]))))) 
def Km:CC:=sR [oO 4 (.assign nS)] [0,1] (.scope (sR [oO 5 (.assign nS)] [0,1,5] (.seq (.skip) (.seq (sR [mO 10 1,oO 11 (bL 10 23),oO 12 (.move (nI 0))] [0,5,10,11,12] (.block 0 (.loop Em))) (.keep [5] (.stop (sR [mO 54 5,aO 4 54] [4] (.ret))))))))
theorem QF:Bh Tryz.prog 118 55 [(.tmp 4)] Km:=Au Tryz.func118
def SY:CC:=sR [oO 4 (.assign nS)] [0,1] (.seq (sR [mO 5 1,oO 6 (bL 5 23),oO 7 (.binOp .eql 3 (xT 6) (nI 0) 3)] [0,1,7] (cD 7 (sR [oO 4 (.assign nS)] [4] (.ret)) (.skip))) (.keep [0,1] (sR [mO 8 0,mO 9 1,oO 10 (.build 91 #[(0,(xT 8)),(2,(xT 9))]),oO 11 (.buildSlice 31 1 #[(0,(xT 10))]),aO 4 11] [4] (.ret))))
theorem aW:Bh Tryz.prog 223 12 [(.tmp 4)] SY:=Au Tryz.func223
def OZ:CC:=sR [oO 2 (.assign nS)] [0] (sR [mO 3 0,oO 4 (cL 223 #[(nI 1),(xT 3)] #[3,23]),aO 2 4] [2] (.ret))
theorem Wh:Bh Tryz.prog 180 5 [(.tmp 2)] OZ:=Au Tryz.func180
def Pf:CC:=sR [oO 2 (.assign nS)] [0] (sR [mO 3 0,oO 4 (cL 223 #[(nI 2),(xT 3)] #[3,23]),aO 2 4] [2] (.ret))
theorem Ww:Bh Tryz.prog 179 5 [(.tmp 2)] Pf:=Au Tryz.func179
def Kv:CC:=sR [oO 29 (bO .lss 3 28 27 3)] [1,2,3,9,11,12,20,21,22,26,27,28,29] (.seq (cD 29 (.skip) (.exit 2)) (.keep [1,2,3,9,11,12,20,21,22,26,27,28] (.seq (.block 3 (sR [oO 30 (iA 23 26 28),lO 31 25 30,oN 14 (.alloc 25) [1],oS (.store 25 (xT 14) (xT 31))] [1,2,3,9,11,12,14,20,21,22,26,27,28] (.reg [mO 32 12,lO 33 25 11,lO 34 25 14,oO 35 (cL 202 #[(xT 33),(xT 34)] #[25,25]),oO 36 (.buildSlice 164 1 #[(0,(xT 35))]),oN 37 (bC .append #[(xT 32),(xT 36)] #[164,164]) [2],aO 12 37] [1,2,3,9,11,12,20,21,22,26,27,28]))) (.reg [oO 38 (.binOp .add 3 (xT 28) (nI 1) 3),mO 28 38] [1,2,3,9,11,12,20,21,22,26,27,28]))))
def Kw:CC:=sR [oO 23 (bO .lss 3 22 21 3)] [1,2,3,9,20,21,22,23] (.seq (cD 23 (.skip) (.exit 0)) (.keep [1,2,3,9,20,21,22] (.seq (.block 1 (sR [oO 24 (iA 23 20 22),lO 25 25 24,oN 11 (.alloc 25) [0],oS (.store 25 (xT 11) (xT 25))] [1,2,3,9,11,20,21,22] (sR [oO 12 (.assign nS)] [1,2,3,9,11,12,20,21,22] (.seq (sR [mO 26 2,oO 27 (bL 26 23),oO 28 (.move (nI 0))] [1,2,3,9,11,12,20,21,22,26,27,28] (.block 2 (.loop Kv))) (.keep [1,2,3,9,12,20,21,22] (.stop (.reg [mO 39 9,mO 40 12,oO 41 (.buildSlice 240 1 #[(0,(xT 40))]),oN 42 (bC .append #[(xT 39),(xT 41)] #[240,240]) [3],aO 9 42] [1,2,3,9,20,21,22]))))))) (.keep [1,2,3,9,20,21,22] (.reg [oO 43 (.binOp .add 3 (xT 22) (nI 1) 3),mO 22 43] [1,2,3,9,20,21,22])))))
def KJ:CC:=sR [oO 48 (bO .lss 3 47 46 3)] [1,2,3,15,16,17,45,46,47,48] (.seq (cD 48 (.skip) (.exit 4)) (.keep [1,2,3,15,16,17,45,46,47] (.seq (.block 5 (sR [oO 49 (iA 242 45 47),lO 50 245 49,oN 19 (.alloc 245) [4],oS (.store 245 (xT 19) (xT 50))] [1,2,3,15,16,17,19,45,46,47] (sR [mO 51 15,mO 52 1,mO 53 16,fO 54 245 19 0,lO 55 3 54,oO 56 (.slice 23 (xT 52) (some (xT 53)) (some (xT 55)) none),⟨some 57,(cL 180 #[(xT 56)] #[23]),none,[],6,[],true⟩,⟨some 58,(bC .append #[(xT 51),(xT 57)] #[31,31]),none,[5],7,[],true⟩,mO 59 2,mO 60 17,fO 61 245 19 1,⟨some 62,(lD 3 61),none,[],11,[6,7],false⟩,oO 63 (.slice 23 (xT 59) (some (xT 60)) (some (xT 62)) none),oO 64 (cL 179 #[(xT 63)] #[23]),oN 65 (bC .append #[(xT 58),(xT 64)] #[31,31]) [6],aO 15 65] [1,2,3,15,19,45,46,47] (sR [mO 66 15,mO 67 1,fO 68 245 19 0,lO 69 3 68,oO 70 (iA 23 67 69),lO 71 25 70,mO 72 2,fO 73 245 19 1,lO 74 3 73,oO 75 (iA 23 72 74),lO 76 25 75,mO 77 3,oO 78 (cL 30 #[(xT 71),(xT 76),(xT 77)] #[25,25,3]),oO 79 (.build 91 #[(0,(nI 3)),(3,(xT 78))]),oO 80 (.buildSlice 31 1 #[(0,(xT 79))]),oN 81 (bC .append #[(xT 66),(xT 80)] #[31,31]) [7],aO 15 81] [1,2,3,15,19,45,46,47] (.reg [fO 82 245 19 0,lO 83 3 82,oO 84 (.binOp .add 3 (xT 83) (nI 1) 3),fO 85 245 19 1,lO 86 3 85,oO 87 (.binOp .add 3 (xT 86) (nI 1) 3),aO 16 84,aO 17 87] [1,2,3,15,16,17,45,46,47]))))) (.reg [oO 88 (.binOp .add 3 (xT 47) (nI 1) 3),mO 47 88] [1,2,3,15,16,17,45,46,47])))) 
def Vr:CC:=sR [oO 8 (.assign nS)] [1,2,3] (sR [oO 9 (.assign nS)] [1,2,3,9] (.seq (sR [mO 20 1,oO 21 (bL 20 23),oO 22 (.move (nI 0))] [1,2,3,9,20,21,22] (.block 0 (.loop Kw))) (.keep [1,2,3,9] (sR [oO 15 (.assign nS)] [1,2,3,9,15] (sR [oO 16 (.assign (nI 0)),oO 17 (.assign (nI 0))] [1,2,3,9,15,16,17] (.stop (.seq (sR [mO 44 9,oO 45 (cL 203 #[(xT 44)] #[240]),oO 46 (bL 45 242),oO 47 (.move (nI 0))] [1,2,3,15,16,17,45,46,47] (.block 4 (.loop KJ))) (.keep [1,2,15,16,17] (sR [mO 89 15,mO 90 1,mO 91 16,oO 92 (.slice 23 (xT 90) (some (xT 91)) none none),oO 93 (cL 180 #[(xT 92)] #[23]),oN 94 (bC .append #[(xT 89),(xT 93)] #[31,31]) [8],mO 95 2,mO 96 17,oO 97 (.slice 23 (xT 95) (some (xT 96)) none none),oO 98 (cL 179 #[(xT 97)] #[23]),oN 99 (bC .append #[(xT 94),(xT 98)] #[31,31]) [9],aO 8 99] [8] (.ret))))))))))
theorem di:Bh Tryz.prog 154 100 [(.tmp 8)] Vr:=Au Tryz.func154
def Fa:CC:=.seq (sR [mO 19 12,mO 20 0,oO 21 (bL 20 166),oO 22 (bO .lss 3 19 21 3)] [0,3,5,9,10,11,12,22] (cD 22 (.skip) (.exit 0))) (.keep [0,3,5,9,10,11,12] (.seq (.block 1 (sR [mO 25 0,mO 26 12,oO 27 (iA 166 25 26),fO 28 171 27 1,lO 29 3 28,aO 13 29] [0,3,5,9,10,11,12,13] (.block 2 (sR [mO 40 0,mO 41 12,oO 42 (iA 166 40 41),fO 43 171 42 0,lO 44 3 43,oO 45 (.binOp .eql 3 (xT 44) (nI 0) 3),aO 39 45] [0,3,5,9,10,11,12,13,39] (cD 39 (.reg [mO 46 9,mO 47 13,oO 48 (.build 91 #[(1,(xT 47))]),oO 49 (.buildSlice 31 1 #[(0,(xT 48))]),oN 50 (bC .append #[(xT 46),(xT 49)] #[31,31]) [2],mO 51 10,mO 52 13,oO 53 (.slice 23 (xT 51) (some (xT 52)) none none),mO 54 11,mO 55 13,oO 56 (.slice 23 (xT 54) (some (xT 55)) none none),aO 9 50,aO 10 53,aO 11 56] [0,3,5,9,10,11,12]) (sR [mO 58 0,mO 59 12,oO 60 (iA 166 58 59),fO 61 171 60 0,lO 62 3 61,oO 63 (.binOp .eql 3 (xT 62) (nI 2) 3),aO 57 63] [0,3,5,9,10,11,12,13,57] (cD 57 (.reg [mO 64 9,mO 65 11,mO 66 13,oO 67 (.slice 23 (xT 65) none (some (xT 66)) none),oO 68 (cL 179 #[(xT 67)] #[23]),oN 69 (bC .append #[(xT 64),(xT 68)] #[31,31]) [3],mO 70 11,mO 71 13,oO 72 (.slice 23 (xT 70) (some (xT 71)) none none),aO 9 69,aO 11 72] [0,3,5,9,10,11,12]) (sR [mO 74 12,oO 75 (.binOp .add 3 (xT 74) (nI 1) 3),mO 76 0,oO 77 (bL 76 166),oO 78 (bO .lss 3 75 77 3),mO 79 78,oG 80 (mV 0) 79 true,oG 81 (mV 12) 79 true,oG 82 (.binOp .add 3 (xT 81) (nI 1) 3) 79 true,oG 83 (iA 166 80 82) 79 true,oG 84 (fA 171 83 0) 79 true,oG 85 (lD 3 84) 79 true,oG 86 (.binOp .eql 3 (xT 85) (nI 2) 3) 79 true,oO 87 (.pick (xT 79) (xT 86) (nB false)),aO 73 87] [0,3,5,9,10,11,12,13,73] (cD 73 (sR [mO 88 0,mO 89 12,oO 90 (.binOp .add 3 (xT 89) (nI 1) 3),oO 91 (iA 166 88 90),fO 92 171 91 1,lO 93 3 92,aO 14 93] [0,3,5,9,10,11,12,13,14] (sR [mO 94 9,fO 95 25 5 0,lO 96 3 95,mO 97 10,mO 98 13,oO 99 (.slice 23 (xT 97) none (some (xT 98)) none),mO 100 11,mO 101 14,oO 102 (.slice 23 (xT 100) none (some (xT 101)) none),mO 103 3,oO 104 (cL 154 #[(xT 96),(xT 99),(xT 102),(xT 103)] #[3,23,23,3]),oN 105 (bC .append #[(xT 94),(xT 104)] #[31,31]) [4],aO 9 105] [0,3,5,9,10,11,12,13,14] (sR [mO 106 10,mO 107 13,oO 108 (.slice 23 (xT 106) (some (xT 107)) none none),mO 109 11,mO 110 14,oO 111 (.slice 23 (xT 109) (some (xT 110)) none none),aO 10 108,aO 11 111] [0,3,5,9,10,11,12] (.reg [mO 112 12,oO 113 (.binOp .add 3 (xT 112) (nI 1) 3),aO 12 113] [0,3,5,9,10,11,12])))) (.reg [mO 30 9,mO 31 10,mO 32 13,oO 33 (.slice 23 (xT 31) none (some (xT 32)) none),oO 34 (cL 180 #[(xT 33)] #[23]),oN 35 (bC .append #[(xT 30),(xT 34)] #[31,31]) [5],mO 36 10,mO 37 13,oO 38 (.slice 23 (xT 36) (some (xT 37)) none none),aO 9 35,aO 10 38] [0,3,5,9,10,11,12])))))))))) (.keep [0,3,5,9,10,11,12] (.reg [mO 23 12,oO 24 (.binOp .add 3 (xT 23) (nI 1) 3),aO 12 24] [0,3,5,9,10,11,12])))) 
def UK:CC:=sR [oN 5 (.box 25 (xT 1)) [0],oN 6 (.box 25 (xT 2)) [1],oO 8 (.assign nS)] [0,3,5,6] (sR [oO 9 (.assign nS)] [0,3,5,6,9] (sR [fO 15 25 5 2,lO 16 23 15,fO 17 25 6 2,lO 18 23 17,aO 10 16,aO 11 18] [0,3,5,9,10,11] (.seq (sR [oO 12 (.assign (nI 0))] [0,3,5,9,10,11,12] (.block 0 (.loop Fa))) (.keep [9] (sR [mO 114 9,aO 8 114] [8] (.ret))))))
theorem dM:Bh Tryz.prog 121 115 [(.tmp 8)] UK:=Au Tryz.func121
def LY:CC:=sR [fO 39 25 3 0,⟨some 40,(lD 3 39),none,[],1,[],true⟩,mO 41 9,lO 42 25 3,lO 43 25 4,mO 44 2,⟨some 45,(cL 121 #[(xT 41),(xT 42),(xT 43),(xT 44)] #[166,25,25,3]),none,[],6,[1],false⟩,oO 46 (.build 33 #[(0,(nI 3)),(5,(xT 40)),(6,(xT 45))]),oS (.store 33 (xT 6) (xT 46))] [6] (.ret) 
def Tq:CC:=sR [oN 3 (.box 25 (xT 0)) [0],oN 4 (.box 25 (xT 1)) [1],oN 6 (.alloc 33) [2]] [2,3,4,6] (sR [oO 11 (.build 163 #[]),oN 12 (.box 163 (xT 11)) [3],aO 7 12] [2,3,4,6,7] (.stop (sR [mO 13 7,fO 14 25 3 2,lO 15 23 14,oO 16 (cL 118 #[(xT 13),(xT 15)] #[161,23]),aO 8 16] [2,3,4,6,7,8] (sR [mO 18 8,mO 19 7,fO 20 25 4 2,lO 21 23 20,oO 22 (cL 118 #[(xT 19),(xT 21)] #[161,23]),mO 23 2,oO 24 (cL 119 #[(xT 18),(xT 22),(xT 23)] #[164,164,3]),mO 17 24,xO 25 17 0,xO 26 17 1,aO 9 25,aO 10 26] [2,3,4,6,9,10] (.seq (sR [mO 27 10,oO 28 (.unOp .not 4 (xT 27))] [2,3,4,6,9,28] (cD 28 (.reg [fO 29 25 3 2,lO 30 23 29,oO 31 (bL 30 23),oO 32 (.build 171 #[(0,(nI 1)),(1,(xT 31))]),fO 33 25 4 2,lO 34 23 33,oO 35 (bL 34 23),oO 36 (.build 171 #[(0,(nI 2)),(1,(xT 35))]),oO 37 (.buildSlice 166 2 #[(0,(xT 32)),(1,(xT 36))]),oO 38 (cL 120 #[(xT 37)] #[166]),aO 9 38] [2,3,4,6,9]) (.skip))) (.keep [2,3,4,6,9] LY))))))
theorem ZI:Bh Tryz.prog 62 47 [(.cell 6 33)] Tq:=Au Tryz.func62
def VZ:CC:=sR [oN 3 (.box 25 (xT 0)) [0],oN 4 (.box 25 (xT 1)) [1],oN 6 (.alloc 33) [2]] [2,3,4,6] (.seq (.block 0 (sR [lO 8 25 3,lO 9 25 4,oO 10 (cL 59 #[(xT 8),(xT 9)] #[25,25]),aO 7 10] [2,3,4,6,7] (cD 7 (sR [oO 11 (.build 33 #[]),oS (.store 33 (xT 6) (xT 11))] [6] (.ret)) (sR [fO 13 25 3 0,lO 14 3 13,oO 15 (.binOp .eql 3 (xT 14) (nI 1) 3),mO 16 15,oG 17 (fA 25 4 0) 16 true,oG 18 (lD 3 17) 16 true,oG 19 (.binOp .eql 3 (xT 18) (nI 1) 3) 16 true,oO 20 (.pick (xT 16) (xT 19) (nB false)),aO 12 20] [2,3,4,6,12] (cD 12 (sR [lO 21 25 3,lO 22 25 4,mO 23 2,oO 24 (cL 60 #[(xT 21),(xT 22),(xT 23)] #[25,25,3]),oS (.store 33 (xT 6) (xT 24))] [6] (.ret)) (sR [fO 26 25 3 0,lO 27 3 26,fO 28 25 4 0,lO 29 3 28,oO 30 (bO .eql 3 27 29 3),mO 31 30,oG 32 (fA 25 3 0) 31 true,oG 33 (lD 3 32) 31 true,oG 34 (cL 61 #[(xT 33)] #[3]) 31 true,oO 35 (.pick (xT 31) (xT 34) (nB false)),aO 25 35] [2,3,4,6,25] (cD 25 (sR [lO 36 25 3,lO 37 25 4,mO 38 2,oO 39 (cL 62 #[(xT 36),(xT 37),(xT 38)] #[25,25,3]),oS (.store 33 (xT 6) (xT 39))] [6] (.ret)) (.skip)))))))) (.keep [3,4,6] (sR [lO 40 25 3,lO 41 25 4,oO 42 (.build 33 #[(0,(nI 1)),(1,(xT 40)),(2,(xT 41))]),oS (.store 33 (xT 6) (xT 42))] [6] (.ret))))
theorem dk:Bh Tryz.prog 30 43 [(.cell 6 33)] VZ:=Au Tryz.func30
end Go.Proofs.YtbjmaoedheiigaaGreat
