/-
 Texts,merged,without what is not reached.
-/
import Derived.Test.YtlaapfplenlfaaaGreatKEc
set_option linter.unusedSimpArgs false
set_option linter.unusedVariables false
open Go.IntKind (i64 u64)
namespace Go.Proofs.YtlaapfplenlfaaaGreat
open Go Go.G Go.Proofs Go.PL
mutual
def LF:E→Prop
 |.mk _ _ _ _ ks _ os=>(∀ x,x ∈ os→0≤x.n∧x.n≤1048576)∧Kx ks∧Kn os
def Kx:List KE→Prop
 |[]=>True
 |.mk _ e::l=>LF e∧Kx l
def Kn:List OP→Prop
 |[]=>True
 |.mk _ _ _ e::l=>LF e∧Kn l
end
theorem niceKs_all:∀ {l:List KE},Kx l ↔ ∀ x,x ∈ l→LF x.e
 |[]=>by simp[Kx]
 |.mk a e::l=>by simp[Kx,niceKs_all (l:=l)]
theorem niceOs_all:∀ {l:List OP},Kn l ↔ ∀ x,x ∈ l→LF x.e
 |[]=>by simp[Kn]
 |.mk k n t e::l=>by simp[Kn,niceOs_all (l:=l)]
theorem X2 {e:E} (h:Kt e=true):LF e:=by
 obtain⟨k,o,n,ws,ks,l,os⟩:=e;simp[Kt,List.isEmpty_iff] at h;obtain⟨⟨_,⟨_,h1⟩,h2⟩,_⟩:=h;subst h1 h2;simp[LF,Kx,Kn]
theorem W0:∀ (e:E) (d:Nat),BG d e=true→LF e:=by
 refine E.ind fun k o n ws ks l os ihk iho d h=>?_;rw[Jm] at h;split at h
 ·cases h
 rename_i hh;obtain⟨d0,k0,k3,c1,c2,c3⟩:=Pf hh;have e0:∀ {l:List KE},l.length=0→Kx l:=fun h=>by rw[List.eq_nil_of_length_eq_zero h];simp[Kx]
 have e1:∀ {l:List OP},l.length=0→Kn l∧∀ x,x ∈ l→0≤x.n∧x.n≤1048576:=fun h=>by rw[List.eq_nil_of_length_eq_zero h];simp[Kn]
 rw[LF];by_cases h1:k=1
 ·have a:=e1 (c3 (by omega)).2;exact⟨a.2,e0 (c2 (by omega)).2,a.1⟩
 ·rw[if_neg h1] at h;split at h
  ·cases h
  split at h
  ·cases h
  rename_i hk;split at h
  ·cases h
  split at h
  ·cases h
  rename_i ho;simp only[Bool.not_eq_false] at hk ho;have hk1:=YH hk;have ho1:=rightOs_all.1 ho;refine⟨fun x hx=>nu (ho1 x hx),niceKs_all.2 fun x hx=>ihk x hx _ (hk1 x hx).2.2.2,niceOs_all.2 fun x hx=>?_⟩;have:=ho1 x hx;rw[ET,Bool.and_eq_true] at this;obtain⟨f1,f2⟩:=this;by_cases k3:x.kind=3
  ·rw[if_pos k3] at f2;simp at f2;exact iho x hx _ f2.1.2
  ·unfold E4 at f1;split at f1
   ·simp at f1;exact X2 f1.2
   ·split at f1
    ·cases f1
    ·rw[if_pos (by omega)] at f1;simp at f1;exact X2 f1.2
abbrev Xg (e:E):Prop:=G.Spec Tryz.prog 32 [eX e] (bv (Gh e))
variable {n0:Nat} {w0:World} {I0:Nat→Prop} {Q:Exit→Sta→Prop}
theorem ZU {e:E} (hl:e.kids.length*208≤140737488355328) (ih:∀ x,x ∈ e.kids→Xg x.e) {H:Hp} (hA:H [0]=⟨1,.cells (eL e)⟩):∀ (m i:Nat),i+m=e.kids.length →
  (FR (e.kids.drop i)=true→∀ i' q,Q (.exit 0) ⟨lk [(1,.pob [0] 1 0),(5,iv i'),(22,bv q)],H⟩)→(FR (e.kids.drop i)=false→Q .ret ⟨lk [(2,bv false)],H⟩) →
  LoopC (cx Tryz.prog w0 I0 n0) Dk Q ⟨lk [(1,.pob [0] 1 0),(5,iv i)],H⟩:=by
 intro m;induction m with
 |zero=>
  intro i hi h1 h2;have:i=e.kids.length:=by omega
  subst this;refine Ab Aj Dk.eq_1 ?_;simp[hA];exact h1 (by simp) _ _
 |succ m ihm=>
  intro i hi h1 h2;have hlt:i<e.kids.length:=by omega
  have ed:e.kids.drop i=e.kids[i]::e.kids.drop (i+1):=List.drop_eq_getElem_cons hlt;have ei:=AI i;rw[ed,MP] at h1 h2;refine Ab Aj Dk.eq_1 ?_;simp[hA,hlt];refine Ae (ih _ (BD hlt)) rfl ?_;cases hr:Gh e.kids[i].e with
  |false=>
   simp;exact h2 (by simp[hr])
  |true=>
   simp[ei];exact ihm (i+1) (by omega) (fun hh=>h1 (by simp[hr,hh])) (fun hh=>h2 (by simp[hh]))
theorem Zb {e:E} (hl:e.ops.length*240≤140737488355328) (ih:∀ x,x ∈ e.ops→Xg x.e) {H:Hp} (hA:H [0]=⟨1,.cells (eL e)⟩):∀ (m i:Nat),i+m=e.ops.length →
  (F5 (e.ops.drop i)=true→∀ i' q,Q (.exit 2) ⟨lk [(1,.pob [0] 1 0),(6,iv i'),(37,bv q)],H⟩)→(F5 (e.ops.drop i)=false→Q .ret ⟨lk [(2,bv false)],H⟩) →
  LoopC (cx Tryz.prog w0 I0 n0) De Q ⟨lk [(1,.pob [0] 1 0),(6,iv i)],H⟩:=by
 intro m;induction m with
 |zero=>
  intro i hi h1 h2;have:i=e.ops.length:=by omega
  subst this;refine Ab Aj De.eq_1 ?_;simp[hA];exact h1 (by simp) _ _
 |succ m ihm=>
  intro i hi h1 h2;have hlt:i<e.ops.length:=by omega
  have ed:e.ops.drop i=e.ops[i]::e.ops.drop (i+1):=List.drop_eq_getElem_cons hlt;have ei:=AI i;rw[ed,Nb] at h1 h2;refine Ab Aj De.eq_1 ?_;simp[hA,hlt];refine Ae (ih _ (BD hlt)) rfl ?_;cases hr:Gh e.ops[i].e with
  |false=>
   simp;exact h2 (by simp[hr])
  |true=>
   simp[ei];exact ihm (i+1) (by omega) (fun hh=>h1 (by simp[hr,hh])) (fun hh=>h2 (by simp[hh]))
theorem Ve:∀ (e:E),J2 e→LF e→Xg e:=by
 refine E.ind fun k o nn ws ks l os ihk iho hw hn=>?_;have h:=wfE_iff.1 hw;rw[LF,niceKs_all,niceOs_all] at hn;obtain⟨n1,n2,n3⟩:=hn;refine Ag Mx (by simp) fun w0 I0=>?_;unfold HD;rw[Sh];simp;refine Ae (Gz (e:=.mk k o nn ws ks l os) h.ol (fun x hx=>⟨(n1 x hx).1,(n1 x hx).2,(h.os x hx).ll⟩)) rfl ?_;simp;refine⟨fun hc=>?_,fun a b=>?_⟩
 ·refine Aq ?_;rcases hc with hc | hc<;>simp[hc]
 ·have a':¬ 2000<(AB 0 0 os).1:=by omega
  have b':¬ 2000<(AB 0 0 os).2:=by omega
  refine ZU (e:=.mk k o nn ws ks l os) h.kl (fun x hx=>ihk x hx (h.ks x hx).2 (n2 x hx)) (by simp) ks.length 0 (by simp) (fun hr i' q=>?_) (fun hr=>?_)
  ·simp at hr;simp;refine Zb (e:=.mk k o nn ws ks l os) h.ol (fun x hx=>iho x hx (h.os x hx).e (n3 x hx)) (by simp) os.length 0 (by simp) (fun hr2 i' q=>?_) (fun hr2=>?_)
   ·simp at hr2;simp;exact Aq (by simp[a',b',hr,hr2])
   ·simp at hr2;simp;exact Aq (by simp[hr2])
  ·simp at hr;simp;exact Aq (by simp[hr])
def Pm (e:E):Bool:=mW e&&BG 64 e&&Gh e
theorem Sk {e:E} (h:J2 e):G.Spec Tryz.prog 12 [eX e] (bv (Pm e)):=by
 refine Ag Nt (by simp) fun w0 I0=>?_;unfold Ix;simp;refine Ae (Y2 h) rfl ?_;simp;refine AP rfl (fun _=>U8 e h 64 (by omega)) (fun e=>by simp[e]) rfl ?_;simp;by_cases hr:BG 64 e=true
 ·refine AP rfl (fun _=>Ve e h (W0 e 64 hr)) (fun e=>by simp at e;simp[e]) rfl ?_;simp;exact Aq rfl
 ·simp at hr;simp[hr];refine AU rfl ?_;simp;exact Aq (by simp[Pm,hr])
def LS (tw:List Int):Nat→Nat→List WE→Option (List Int)
 |0,_,_=>some []
 |m+1,i,[]=>(LS tw m (i+1) []).map (tw.getD i 0 :: ·)
 |m+1,i,x::xs=>if x.at_=(i:Int) then (if AM 0 (tw.getD i 0) x.mask=x.old then (LS tw m (i+1) xs).map (AM (tw.getD i 0) x.new x.mask :: ·) else none) else (LS tw m (i+1) (x::xs)).map (tw.getD i 0 :: ·)
def LA (tk:List T):Nat→Nat→List (Int × (T→Option T))→Option (List T)
 |0,_,_=>some []
 |m+1,i,[]=>(LA tk m (i+1) []).map (tk.getD i T0 :: ·)
 |m+1,i,x::xs=>if x.1=(i:Int) then (match x.2 (tk.getD i T0) with | none=>none | some u=>(LA tk m (i+1) xs).map (u :: ·)) else (LA tk m (i+1) (x::xs)).map (tk.getD i T0 :: ·)
noncomputable def Cp (tk:List T):Nat→List (Int × Int × List T × (T→Option T))→Option (List T × Nat)
 |a,[]=>some ([],a)
 |a,(k,n,l,f)::os=>
  if k=0 then (if a+n.toNat≤tk.length then (Cp tk (a+n.toNat) os).map (fun r=>((tk.drop a).take n.toNat++r.1,r.2)) else none)
  else if k=1 then (if a+l.length≤tk.length∧(((tk.drop a).take l.length).zip l).all (fun p=>G9 p.1 p.2)=true then Cp tk (a+l.length) os else none)
  else if k=2 then (Cp tk a os).map (fun r=>(l++r.1,r.2))
  else match tk[a]? with
   |none=>none
   |some x=>match f x with
    |none=>none
    |some u=>(Cp tk (a+1) os).map (fun r=>(u::r.1,r.2))
theorem KL {tw:List Int} {m i:Nat} {rem:List WE} (h:∀ x xs,rem=x::xs→x.at_ ≠ (i:Int)):LS tw (m+1) i rem=(LS tw m (i+1) rem).map (tw.getD i 0 :: ·):=by
 cases rem with
 |nil=>rw[LS]
 |cons x xs=>rw[LS,if_neg (h x xs rfl)]
theorem TM {tw:List Int} {m i:Nat} {x:WE} {xs:List WE} (h:x.at_=(i:Int)) (hb:¬ AM 0 (tw.getD i 0) x.mask=x.old):LS tw (m+1) i (x::xs)=none:=by rw[LS,if_pos h,if_neg hb]
theorem PF {tw:List Int} {m i:Nat} {x:WE} {xs:List WE} (h:x.at_=(i:Int)) (hb:AM 0 (tw.getD i 0) x.mask=x.old):LS tw (m+1) i (x::xs)=(LS tw m (i+1) xs).map (AM (tw.getD i 0) x.new x.mask :: ·):=by rw[LS,if_pos h,if_pos hb]
theorem KA {tk:List T} {m i:Nat} {rem:List (Int × (T→Option T))} (h:∀ x xs,rem=x::xs→x.1 ≠ (i:Int)):LA tk (m+1) i rem=(LA tk m (i+1) rem).map (tk.getD i T0 :: ·):=by
 cases rem with
 |nil=>rw[LA]
 |cons x xs=>rw[LA,if_neg (h x xs rfl)]
theorem Ty {tk:List T} {m i:Nat} {x:Int × (T→Option T)} {xs:List (Int × (T→Option T))} (h:x.1=(i:Int)) (hb:x.2 (tk.getD i T0)=none):LA tk (m+1) i (x::xs)=none:=by rw[LA,if_pos h,hb]
theorem PJ {tk:List T} {m i:Nat} {x:Int × (T→Option T)} {xs:List (Int × (T→Option T))} {u:T} (h:x.1=(i:Int)) (hb:x.2 (tk.getD i T0)=some u):LA tk (m+1) i (x::xs)=(LA tk m (i+1) xs).map (u :: ·):=by rw[LA,if_pos h,hb]
theorem PR {tw:List Int} (h:∀ x,x ∈ tw→AA x) (i:Nat):AA (tw.getD i 0):=by
 by_cases hi:i<tw.length
 ·rw[List.getD_eq_getElem?_getD,List.getElem?_eq_getElem hi];exact h _ (BD hi)
 ·rw[List.getD_eq_getElem?_getD,List.getElem?_eq_none (by omega)];exact⟨by decide,by decide⟩
def Fc (ws:List WE) (n:Nat):Nat:=match ws.getLast? with | none=>n | some x=>max n (x.at_+1).toNat
def Es {β:Type} (ks:List (Int × β)) (n:Nat):Nat:=match ks.getLast? with | none=>n | some x=>max n (x.1+1).toNat
noncomputable def Ep (k:Int) (o n:T) (ws:List WE) (ks:List (Int × (T→Option T))) (list:Int) (os:List (Int × Int × List T × (T→Option T))) (t:T):Option T:=
 if k=0 then some (Af t)
 else if k=1 then (if G9 o t=true then some (Af n) else none)
 else if k=2 then (if t.kind=1 then (match LS t.words (Fc ws t.words.length) 0 ws,LA t.kids (Es ks t.kids.length) 0 ks with
  |some w,some l=>some (Af (.mk 1 w l))
  |_,_=>none) else none)
 else if k=3 then (if t.kind=list then (match Cp t.kids 0 os with
  |some (l,a)=>if a=t.kids.length then some (Af (.mk t.kind [] l)) else none
  |none=>none) else none)
 else none
mutual
noncomputable def GY:E→T→Option T
 |.mk k o n ws ks l os,t=>Ep k o n ws (BJ ks) l (CE os) t
noncomputable def BJ:List KE→List (Int × (T→Option T))
 |[]=>[]
 |.mk a e::r=>(a,GY e)::BJ r
noncomputable def CE:List OP→List (Int × Int × List T × (T→Option T))
 |[]=>[]
 |.mk k n t e::r=>(k,n,t,GY e)::CE r
end
theorem HF (k:Int) (o n:T) (ws:List WE) (ks:List KE) (l:Int) (os:List OP) (t:T):GY (.mk k o n ws ks l os) t=Ep k o n ws (BJ ks) l (CE os) t:=by rw[GY]
theorem D4:∀ ks:List KE,BJ ks=ks.map fun x=>(x.at_,GY x.e)
 |[]=>by rw[BJ];rfl
 |.mk a e::r=>by rw[BJ,D4 r];rfl
theorem FO:∀ os:List OP,CE os=os.map fun x=>(x.kind,x.n,x.l,GY x.e)
 |[]=>by rw[CE];rfl
 |.mk k n t e::r=>by rw[CE,FO r];rfl
theorem Vt (t:T) (i:Nat):G.Spec Tryz.prog 93 [tX t,iv i] (tX (t.kids.getD i T0)):=by
 refine Ag OC (by simp) fun w0 I0=>?_;unfold Jp;by_cases h:i<t.kids.length
 ·simp[h];exact Ad (by simp)
 ·simp[h];exact AE (by simp;exact⟨Ad rfl,Ah,Ah⟩)
theorem gN {e:E} {t:T} (hwt:AD t) (hwe:∀ x,x ∈ e.words→WE.wf x) (hwl:e.words.length*32≤140737488355328) {n m:Nat} (hn:n*8≤140737488355328) {K:A}
  (hf:LS t.words n 0 e.words=none→∀ H:Hp,H [2]=⟨1,.cells z0⟩→Q .ret ⟨lk [(4,.pob [2] 1 0),(5,bv false)],H⟩) :
  ∀ (j i a:Nat) (acc:List Int) (H:Hp),i+j=n→acc.length=i→(∀ R,LS t.words j i (e.words.drop a)=some R→LS t.words n 0 e.words=some (acc++R))→(LS t.words j i (e.words.drop a)=none→LS t.words n 0 e.words=none) →
   (∀ (q:Bool) (a':Int) (W:List Int) (H':Hp),LS t.words n 0 e.words=some W→W.length=n→H' [0]=⟨1,.cells (eL e)⟩→H' [1]=⟨1,.cells (tL t)⟩→H' [2]=⟨1,.cells z0⟩→H' [3]=⟨1,.cells [iv 1,.osl [5] (n+1) 1 0 n,K]⟩→H' [5]=⟨n+1,.arr 1 (W.map uv)⟩→H' [8]=H [8] →
    Q (.exit 0) ⟨lk [(2,.pob [0] 1 0),(3,.pob [1] 1 0),(4,.pob [2] 1 0),(6,.pob [3] 1 0),(7,iv n),(8,iv m),(11,iv a'),(12,iv n),(80,bv q)],H'⟩) →
   H [0]=⟨1,.cells (eL e)⟩→H [1]=⟨1,.cells (tL t)⟩→H [2]=⟨1,.cells z0⟩→H [3]=⟨1,.cells [iv 1,.osl [5] (i+1) 1 0 i,K]⟩→H [5]=⟨i+1,.arr 1 (acc.map uv)⟩ →
  LoopC (cx Tryz.prog w0 I0 n0) BC Q ⟨lk [(2,.pob [0] 1 0),(3,.pob [1] 1 0),(4,.pob [2] 1 0),(6,.pob [3] 1 0),(7,iv n),(8,iv m),(11,iv a),(12,iv i)],H⟩:=by
 intro j;induction j with
 |zero=>
  intro i a acc H hi hacc hs hn' hq g0 g1 g2 g3 g5;have:i=n:=by omega
  subst this;refine Ab Aj BC.eq_1 ?_;simp;have hW:=hs [] rfl;rw[List.append_nil] at hW;exact hq _ _ acc H hW hacc g0 g1 g2 g3 g5 rfl
 |succ j ih=>
  intro i a acc H hi hacc hs hn' hq g0 g1 g2 g3 g5;have hlt:i<n:=by omega
  have ei:=AI i;refine Ab Aj BC.eq_1 ?_;simp[hlt,g1];refine Ae (TE t i) (by simp) ?_;have hwu:=PR (wfT_iff.1 hwt).w i;have htk:∀ x:Int,(acc++[x]).map uv=acc.map uv++[uv x]:=fun x=>by simp
  have htake:List.take i (acc.map uv)=acc.map uv:=AN (by simp;omega);have skip:(∀ x xs,e.words.drop a=x::xs→x.at_ ≠ (i:Int))→∀ H',H' [0]=⟨1,.cells (eL e)⟩→H' [1]=⟨1,.cells (tL t)⟩→H' [2]=⟨1,.cells z0⟩→H' [3]=⟨1,.cells [iv 1,.osl [5] (i+1+1) 1 0 (i+1),K]⟩→H' [5]=⟨i+1+1,.arr 1 ((acc++[t.words.getD i 0]).map uv)⟩→H' [8]=H [8] →
    LoopC (cx Tryz.prog w0 I0 n0) BC Q ⟨lk [(2,.pob [0] 1 0),(3,.pob [1] 1 0),(4,.pob [2] 1 0),(6,.pob [3] 1 0),(7,iv n),(8,iv m),(11,iv a),(12,iv ((i+1:Nat):Int))],H'⟩:=fun hsk H' q0 q1 q2 q3 q5 q8=>by
   have hw:=KL (tw:=t.words) (m:=j) hsk;refine ih (i+1) a (acc++[t.words.getD i 0]) H' (by omega) (by simp[hacc]) (fun R hR=>?_) (fun hR=>?_) (fun q a' W H2 r1 r2 r3 r4 r5 r6 r7 r8=>hq q a' W H2 r1 r2 r3 r4 r5 r6 r7 (by rw[r8,q8])) q0 q1 q2 q3 q5
   ·have:=hs (t.words.getD i 0::R) (by rw[hw,hR];rfl);simpa using this
   ·exact hn' (by rw[hw,hR];rfl)
  generalize hw0:t.words.getD i 0=w at skip hwu;simp[g0,g1];by_cases ha:a<e.words.length;rotate_left
  ·simp[ha,g3,g5,Aa,ei];refine⟨⟨by omega,by omega⟩,?_⟩;refine skip (fun x xs hx=>?_) _ (by simp[Aa,g0]) (by simp[Aa,g1]) (by simp[Aa,g2]) (by simp[Aa]) ?_ (by simp[Aa])
   ·rw[List.drop_eq_nil_of_le (by omega)] at hx;cases hx
   ·rw[htk,htake];simp[Aa]
  have hdr:e.words.drop a=e.words[a]::e.words.drop (a+1):=List.drop_eq_getElem_cons ha;obtain⟨wf1,wf2,wf3,wf4⟩:=hwe _ (BD ha);by_cases hat:e.words[a].at_=(i:Int);rotate_left
  ·simp[ha,hat,g3,g5,Aa,ei];refine⟨⟨by omega,by omega⟩,?_⟩;refine skip (fun x xs hx=>?_) _ (by simp[Aa,g0]) (by simp[Aa,g1]) (by simp[Aa,g2]) (by simp[Aa]) ?_ (by simp[Aa])
   ·rw[hdr] at hx;cases hx;exact hat
   ·rw[htk,htake];simp[Aa]
  simp[ha,hat,g0,g1,Aa];refine Ae (Fs (a:=0) (b:=w) ⟨by decide,by decide⟩ hwu wf2.1 wf2.2) (by simp) ?_;by_cases hmx:AM 0 w e.words[a].mask=e.words[a].old;rotate_left
  ·simp[hmx,g2,Aa];refine hf (hn' ?_) _ (by simp[Aa]);rw[hdr];exact TM hat (by rw[hw0];exact hmx)
  have ea:=AI a;have hw:=PF (tw:=t.words) (m:=j) (xs:=e.words.drop (a+1)) hat (by rw[hw0];exact hmx);rw[hw0] at hw;simp[hmx,Aa];refine Ae (Fs (a:=w) (b:=e.words[a].new) hwu wf4 wf2.1 wf2.2) (by simp) ?_;generalize hx:AM w e.words[a].new e.words[a].mask=x at hw;simp[g3,g5,Aa,ei,ea];refine⟨⟨by omega,by omega⟩,?_⟩;refine ih (i+1) (a+1) (acc++[x]) _ (by omega) (by simp[hacc]) (fun R hR=>?_) (fun hR=>?_) (fun q a' W H2 r1 r2 r3 r4 r5 r6 r7 r8=>hq q a' W H2 r1 r2 r3 r4 r5 r6 r7 (by rw[r8];simp[Aa])) (by simp[Aa,g0]) (by simp[Aa,g1]) (by simp[Aa,g2]) (by simp[Aa]) ?_
  ·have:=hs (x::R) (by rw[hdr,hw,hR];rfl);simpa using this
  ·exact hn' (by rw[hdr,hw,hR];rfl)
  ·rw[htk,htake];simp[Aa]
abbrev RJ (o:Option T):A:=match o with
 |some u=>.tup [tX u,bv true]
 |none=>.tup [tX T0,bv false]
def Rx (e:E):Prop:=∀ t,AD t→G.Spec Tryz.prog 36 [eX e,tX t] (RJ (GY e t))∧∀ v,GY e t=some v→AD v
theorem QY:AD T0:=wfT_iff.2 ⟨by simp[Db],by simp,by simp,by simp,by simp⟩
theorem XS {t:T} (h:AD t) (i:Nat):AD (t.kids.getD i T0):=by
 by_cases hi:i<t.kids.length
 ·rw[List.getD_eq_getElem?_getD,List.getElem?_eq_getElem hi];exact(wfT_iff.1 h).ks _ (BD hi)
 ·rw[List.getD_eq_getElem?_getD,List.getElem?_eq_none (by omega)];exact QY
theorem jo {e:E} {t:T} (hwt:AD t) (hwl:e.kids.length*208≤140737488355328) (hk:∀ x,x ∈ e.kids→Rx x.e) {m:Nat} (hn:m*56≤140737488355328) {W1:A} {X:VOb}
  (hf:LA t.kids m 0 (BJ e.kids)=none→∀ H:Hp,H [2]=⟨1,.cells z0⟩→Q .ret ⟨lk [(4,.pob [2] 1 0),(5,bv false)],H⟩)
  (hq:∀ (q:Bool) (a':Int) (K:List T) (H':Hp),LA t.kids m 0 (BJ e.kids)=some K→K.length=m→(∀ x,x ∈ K→AD x)→H' [2]=⟨1,.cells z0⟩→H' [3]=⟨1,.cells [iv 1,W1,.osl [8] (m+1) 3 0 m]⟩→H' [8]=⟨m+1,.arr 3 (K.map tA)⟩→H' [5]=X →
    Q (.exit 2) ⟨lk [(2,.pob [0] 1 0),(3,.pob [1] 1 0),(4,.pob [2] 1 0),(6,.pob [3] 1 0),(8,iv m),(11,iv a'),(15,iv m),(130,bv q)],H'⟩) :
  ∀ (j i a:Nat) (acc:List T) (H:Hp),i+j=m→acc.length=i→(∀ x,x ∈ acc→AD x)→(∀ R,LA t.kids j i (BJ (e.kids.drop a))=some R→LA t.kids m 0 (BJ e.kids)=some (acc++R))→(LA t.kids j i (BJ (e.kids.drop a))=none→LA t.kids m 0 (BJ e.kids)=none) →
   H [0]=⟨1,.cells (eL e)⟩→H [1]=⟨1,.cells (tL t)⟩→H [2]=⟨1,.cells z0⟩→H [3]=⟨1,.cells [iv 1,W1,.osl [8] (i+1) 3 0 i]⟩→H [8]=⟨i+1,.arr 3 (acc.map tA)⟩→H [5]=X →
  LoopC (cx Tryz.prog w0 I0 n0) BE Q ⟨lk [(2,.pob [0] 1 0),(3,.pob [1] 1 0),(4,.pob [2] 1 0),(6,.pob [3] 1 0),(8,iv m),(11,iv a),(15,iv i)],H⟩:=by
 intro j;induction j with
 |zero=>
  intro i a acc H hi hacc hwf hs hn' g0 g1 g2 g3 g8 g5;have:i=m:=by omega
  subst this;refine Ab Aj BE.eq_1 ?_;simp;have hW:=hs [] rfl;rw[List.append_nil] at hW;exact hq _ _ acc H hW hacc hwf g2 g3 g8 g5
 |succ j ih=>
  intro i a acc H hi hacc hwf hs hn' g0 g1 g2 g3 g8 g5;have hlt:i<m:=by omega
  have ei:=AI i;have htk:∀ x:T,(acc++[x]).map tA=acc.map tA++[tA x]:=fun x=>by simp
  have htake:List.take i (acc.map tA)=acc.map tA:=AN (by simp;omega);have hwk:=XS hwt i;refine Ab Aj BE.eq_1 ?_;simp[hlt,g1];refine Ae (Vt t i) (by simp) ?_;have skip:(∀ x xs,BJ (e.kids.drop a)=x::xs→x.1 ≠ (i:Int))→∀ H',H' [0]=⟨1,.cells (eL e)⟩→H' [1]=⟨1,.cells (tL t)⟩→H' [2]=⟨1,.cells z0⟩→H' [3]=⟨1,.cells [iv 1,W1,.osl [8] (i+1+1) 3 0 (i+1)]⟩→H' [8]=⟨i+1+1,.arr 3 ((acc++[t.kids.getD i T0]).map tA)⟩→H' [5]=X →
    LoopC (cx Tryz.prog w0 I0 n0) BE Q ⟨lk [(2,.pob [0] 1 0),(3,.pob [1] 1 0),(4,.pob [2] 1 0),(6,.pob [3] 1 0),(8,iv m),(11,iv a),(15,iv ((i+1:Nat):Int))],H'⟩:=fun hsk H' q0 q1 q2 q3 q8 q5=>by
   have hw:=KA (tk:=t.kids) (m:=j) hsk;refine ih (i+1) a (acc++[t.kids.getD i T0]) H' (by omega) (by simp[hacc]) (fun x hx=>?_) (fun R hR=>?_) (fun hR=>?_) q0 q1 q2 q3 q8 q5
   ·rcases List.mem_append.1 hx with h | h
    ·exact hwf x h
    ·rw[List.mem_singleton.1 h];exact hwk
   ·have:=hs (t.kids.getD i T0::R) (by rw[hw,hR];rfl);simpa using this
   ·exact hn' (by rw[hw,hR];rfl)
  generalize hw0:t.kids.getD i T0=c at skip hwk;simp[g0,g1,Aa];by_cases ha:a<e.kids.length;rotate_left
  ·simp[ha,g3,g8,Aa,ei];refine⟨⟨by omega,by omega⟩,?_⟩;refine skip (fun x xs hx=>?_) _ (by simp[Aa,g0]) (by simp[Aa,g1]) (by simp[Aa,g2]) (by simp[Aa]) ?_ (by simp[Aa,g5])
   ·rw[List.drop_eq_nil_of_le (by omega)] at hx;rw[BJ] at hx;cases hx
   ·rw[htk,htake];simp[Aa]
  have hdr:e.kids.drop a=e.kids[a]::e.kids.drop (a+1):=List.drop_eq_getElem_cons ha;have hap:BJ (e.kids.drop a)=(e.kids[a].at_,GY e.kids[a].e)::BJ (e.kids.drop (a+1)):=by rw[hdr,D4,List.map_cons,← D4]
  by_cases hat:e.kids[a].at_=(i:Int);rotate_left
  ·simp[ha,hat,g3,g8,Aa,ei];refine⟨⟨by omega,by omega⟩,?_⟩;refine skip (fun x xs hx=>?_) _ (by simp[Aa,g0]) (by simp[Aa,g1]) (by simp[Aa,g2]) (by simp[Aa]) ?_ (by simp[Aa,g5])
   ·rw[hap] at hx;cases hx;exact hat
   ·rw[htk,htake];simp[Aa]
  obtain⟨hsp,hwv⟩:=hk _ (BD ha) c hwk;have ea:=AI a;simp[ha,hat,g0,g1,Aa];refine Ae hsp (by simp) ?_;cases hv:GY e.kids[a].e c with
  |none=>
   simp[Aa,g2];refine hf (hn' ?_) _ (by simp[Aa,g2]);rw[hap];exact Ty hat (by rw[hw0];exact hv)
  |some v=>
   have hw:=PJ (tk:=t.kids) (m:=j) (x:=(e.kids[a].at_,GY e.kids[a].e)) (xs:=BJ (e.kids.drop (a+1))) hat (by rw[hw0];exact hv);simp[Aa,g3,g8,ei,ea];refine⟨⟨by omega,by omega⟩,?_⟩;refine ih (i+1) (a+1) (acc++[v]) _ (by omega) (by simp[hacc]) (fun x hx=>?_) (fun R hR=>?_) (fun hR=>?_) (by simp[Aa,g0]) (by simp[Aa,g1]) (by simp[Aa,g2]) (by simp[Aa]) ?_ (by simp[Aa,g5])
   ·rcases List.mem_append.1 hx with h | h
    ·exact hwf x h
    ·rw[List.mem_singleton.1 h];exact hwv v hv
   ·have:=hs (v::R) (by rw[hap,hw,hR];rfl);simpa using this
   ·exact hn' (by rw[hap,hw,hR];rfl)
   ·rw[htk,htake];simp[Aa]
theorem BX (a b mask:Int):AA (AM a b mask):=by
 have h:=Jh (Gc (Ap a) (Ap b) mask 8) JK;rw[Fx (by rw[AZ];exact Ei _),AZ] at h;have e:(256:Int) ^ 8=18446744073709551616:=by decide
 rw[e] at h;exact⟨h.1,h.2⟩
theorem Jn {tw:List Int} (ht:∀ x,x ∈ tw→AA x):∀ (m i:Nat) (rem:List WE) (R:List Int),LS tw m i rem=some R→R.length=m∧∀ x,x ∈ R→AA x
 |0,i,rem,R,h=>by
  rw[LS] at h;cases h;exact⟨rfl,fun x hx=>by cases hx⟩
 |m+1,i,rem,R,h=>by
  have key:∀ (y:Int) (o:Option (List Int)),AA y→o.map (y :: ·)=some R→(∀ R',o=some R'→R'.length=m∧∀ x,x ∈ R'→AA x)→R.length=m+1∧∀ x,x ∈ R→AA x:=fun y o hy ho hr=>by
   cases o with
   |none=>cases ho
   |some R'=>
    cases ho;obtain⟨q1,q2⟩:=hr R' rfl;exact⟨by simp[q1],fun x hx=>by
     rcases List.mem_cons.1 hx with rfl | hx
     ·exact hy
     ·exact q2 x hx⟩
  cases rem with
  |nil=>
   rw[LS] at h;exact key _ _ (PR ht i) h fun R' hR'=>Jn ht m (i+1) [] R' hR'
  |cons x xs=>
   rw[LS] at h;split at h
   ·split at h
    ·exact key _ _ (BX _ _ _) h fun R' hR'=>Jn ht m (i+1) xs R' hR'
    ·cases h
   ·exact key _ _ (PR ht i) h fun R' hR'=>Jn ht m (i+1) (x::xs) R' hR'
section
variable {n0:Nat} {w0:World} {I0:Nat→Prop}
noncomputable def MQ (e:E) (t:T) (n m:Nat):Option T:=match LS t.words n 0 e.words,LA t.kids m 0 (BJ e.kids) with
 |some w,some l=>some (.mk 1 w l)
 |_,_=>none
theorem i4 {e:E} (hwe:J2 e) (hk:∀ x,x ∈ e.kids→Rx x.e) {t:T} (hwt:AD t) {n m:Nat} (hn:n*8≤140737488355328) (hm:m*56≤140737488355328) {H:Hp} (g0:H [0]=⟨1,.cells (eL e)⟩) (g1:H [1]=⟨1,.cells (tL t)⟩) (g2:H [2]=⟨1,.cells z0⟩) (g3:H [3]=⟨1,.cells [iv 1,.osl [5] 1 1 0 0,.osl [8] 1 3 0 0]⟩) (g5:H [5]=⟨1,.arr 1 []⟩) (g8:H [8]=⟨1,.arr 3 []⟩) :
  WPC (cx Tryz.prog w0 I0 n0) Co (NC Tryz.prog [.cell 4 25,.tmp 5] (RJ (MQ e t n m))) ⟨lk [(2,.pob [0] 1 0),(3,.pob [1] 1 0),(4,.pob [2] 1 0),(6,.pob [3] 1 0),(7,iv n),(8,iv m)],H⟩:=by
 have he:=wfE_iff.1 hwe;have bad:MQ e t n m=none→∀ H:Hp,H [2]=⟨1,.cells z0⟩→Gy H (.tup [.agg z0,bv false]) (RJ (MQ e t n m)):=fun h H hH=>by
  rw[h];exact An ⟨AE ⟨Ad rfl,Ah,Ah,trivial⟩,Ad rfl,trivial⟩
 unfold Co;simp;refine gN (e:=e) hwt he.w he.wl hn (m:=m) (K:=.osl [8] 1 3 0 0) (fun hnone H' h2=>?_) n 0 0 [] H (by omega) rfl (fun R hR=>by simpa using hR) (fun hR=>by simpa using hR) (fun q a' W H' hW hWl r0 r1 r2 r3 r5 r8=>?_) g0 g1 g2 (by simpa using g3) (by simpa using g5)
 ·simp[h2];exact bad (by simp[MQ,hnone]) _ h2
 ·simp;refine jo (e:=e) hwt he.kl hk hm (W1:=.osl [5] (n+1) 1 0 n) (X:=⟨n+1,.arr 1 (W.map uv)⟩) (fun hnone H2 h2=>?_) (fun q2 a2 K H2 hK hKl hKw s2 s3 s8 s5=>?_) m 0 0 [] H' (by omega) rfl (fun x hx=>by cases hx) (fun R hR=>by simpa using hR) (fun hR=>by simpa using hR) r0 r1 r2 (by simpa using r3) (by rw[r8,g8];rfl) r5
  ·simp[h2];exact bad (by simp[MQ,hW,hnone]) _ h2
  ·simp[s3,s2,Aa];have:MQ e t n m=some (.mk 1 W K):=by simp[MQ,hW,hK]
   rw[this];exact An ⟨AE ⟨Ad rfl,A3 (f:=uv) (l:=W) (by simp[Aa,s5]) hWl.symm (fun x=>by simp),A3 (f:=tA) (l:=K) (by simp[Aa,s8]) hKl.symm (fun x=>by simp),trivial⟩,Ad rfl,trivial⟩
theorem Ux {α:Type} (l:List α):l.getLast? = l[l.length-1]?:=List.getLast?_eq_getElem?
theorem i3 {e:E} (hwe:J2 e) (hk:∀ x,x ∈ e.kids→Rx x.e) {t:T} (hwt:AD t) (hp2:∀ x,x ∈ e.kids→0≤x.at_∧x.at_≤65534) {n:Nat} (hn:n*8≤140737488355328) {H:Hp} (g0:H [0]=⟨1,.cells (eL e)⟩) (g1:H [1]=⟨1,.cells (tL t)⟩) (g2:H [2]=⟨1,.cells z0⟩) (g3:H [3]=⟨1,.cells [iv 1,.osl [5] 1 1 0 0,.osl [8] 1 3 0 0]⟩) (g5:H [5]=⟨1,.arr 1 []⟩) (g8:H [8]=⟨1,.arr 3 []⟩) :
  WPC (cx Tryz.prog w0 I0 n0) Cg (NC Tryz.prog [.cell 4 25,.tmp 5] (RJ (MQ e t n (Es (BJ e.kids) t.kids.length)))) ⟨lk [(2,.pob [0] 1 0),(3,.pob [1] 1 0),(4,.pob [2] 1 0),(6,.pob [3] 1 0),(7,iv n),(8,iv t.kids.length)],H⟩:=by
 have he:=wfE_iff.1 hwe;have hkl:=he.kl;have htl:=(wfT_iff.1 hwt).kl;have fin:∀ m:Nat,m*56≤140737488355328→m=Es (BJ e.kids) t.kids.length→WPC (cx Tryz.prog w0 I0 n0) Co (NC Tryz.prog [.cell 4 25,.tmp 5] (RJ (MQ e t n (Es (BJ e.kids) t.kids.length)))) ⟨lk [(2,.pob [0] 1 0),(3,.pob [1] 1 0),(4,.pob [2] 1 0),(6,.pob [3] 1 0),(7,iv n),(8,iv m)],H⟩:=fun m hm e1=>by
  rw[← e1];exact i4 hwe hk hwt hn hm g0 g1 g2 g3 g5 g8
 generalize RJ (MQ e t n (Es (BJ e.kids) t.kids.length))=Y at fin ⊢;unfold Cg;by_cases h0:e.kids.length=0
 ·have hl0:t.kids.length=Es (BJ e.kids) t.kids.length:=by
   rw[List.eq_nil_of_length_eq_zero h0,BJ];rfl
  have fin0:=fin _ (by omega) hl0;simp[g0,h0];exact fin0
 have hlt:e.kids.length-1<e.kids.length:=by omega
 have e9:i64.wrap ((e.kids.length:Int)-1)=((e.kids.length-1:Nat):Int):=(A4 (n:=(e.kids.length:Int)-1) (by omega) (by omega)).trans (by omega);have hpos:0<e.kids.length:=by omega
 have hlast:Es (BJ e.kids) t.kids.length=max t.kids.length (e.kids[e.kids.length-1].at_+1).toNat:=by
  have:(BJ e.kids).getLast? = some (e.kids[e.kids.length-1].at_,GY e.kids[e.kids.length-1].e):=by
   rw[D4,Ux];simp[hlt]
  simp[Es,this]
 obtain⟨p1,p2⟩:=hp2 _ (BD hlt);generalize hz:e.kids[e.kids.length-1].at_=z at hlast p1 p2;have ez:i64.wrap (z+1)=z+1:=Hl;by_cases hc:(t.kids.length:Int)≤z
 ·simp[g0,hpos,e9,hlt,hz,hc,ez];have:=fin (z+1).toNat (by omega) (by omega)
  rwa [show(((z+1).toNat:Nat):Int)=z+1 by omega] at this
 ·simp[g0,hpos,e9,hlt,hz,hc];exact fin t.kids.length (by omega) (by omega)
end
theorem KX {tk:List T} (ht:∀ i,AD (tk.getD i T0)):∀ (m i:Nat) (rem:List (Int × (T→Option T))) (R:List T),(∀ x,x ∈ rem→∀ u v,AD u→x.2 u=some v→AD v)→LA tk m i rem=some R→R.length=m∧∀ x,x ∈ R→AD x
 |0,i,rem,R,_,h=>by
  rw[LA] at h;cases h;exact⟨rfl,fun x hx=>by cases hx⟩
 |m+1,i,rem,R,hr,h=>by
  have key:∀ (y:T) (o:Option (List T)),AD y→o.map (y :: ·)=some R→(∀ R',o=some R'→R'.length=m∧∀ x,x ∈ R'→AD x)→R.length=m+1∧∀ x,x ∈ R→AD x:=fun y o hy ho hr=>by
   cases o with
   |none=>cases ho
   |some R'=>
    cases ho;obtain⟨q1,q2⟩:=hr R' rfl;exact⟨by simp[q1],fun x hx=>by
     rcases List.mem_cons.1 hx with rfl | hx
     ·exact hy
     ·exact q2 x hx⟩
  cases rem with
  |nil=>
   rw[LA] at h;exact key _ _ (ht i) h fun R' hR'=>KX ht m (i+1) [] R' (fun x hx=>by cases hx) hR'
  |cons x xs=>
   rw[LA] at h;split at h
   ·split at h
    ·cases h
    ·rename_i u hu;exact key _ _ (hr x (by simp) _ _ (ht i) hu) h fun R' hR'=>KX ht m (i+1) xs R' (fun y hy=>hr y (by simp[hy])) hR'
   ·exact key _ _ (ht i) h fun R' hR'=>KX ht m (i+1) (x::xs) R' hr hR'
theorem UE {ws:List WE} (hp:∀ x,x ∈ ws→0≤x.at_∧x.at_≤65534) (n:Nat):n≤Fc ws n∧Fc ws n≤max n 65535:=by
 unfold Fc;cases h:ws.getLast? with
 |none=>simp;omega
 |some x=>
  have:=hp x (List.mem_of_getLast? h);simp;omega
theorem VN {ks:List KE} (hp:∀ x,x ∈ ks→0≤x.at_∧x.at_≤65534) (n:Nat):n≤Es (BJ ks) n∧Es (BJ ks) n≤max n 65535:=by
 unfold Es;cases h:(BJ ks).getLast? with
 |none=>simp;omega
 |some x=>
  have hx:=List.mem_of_getLast? h;rw[D4] at hx;obtain⟨y,hy,rfl⟩:=List.mem_map.1 hx;have:=hp y hy;simp;omega
noncomputable def MA (e:E) (t:T):Option T:=if t.kind=1 then MQ e t (Fc e.words t.words.length) (Es (BJ e.kids) t.kids.length) else none
theorem jb {e:E} (hk:∀ x,x ∈ e.kids→Rx x.e) {t:T} (hwt:AD t) (hp:∀ x,x ∈ e.words→0≤x.at_∧x.at_≤65534) (hp2:∀ x,x ∈ e.kids→0≤x.at_∧x.at_≤65534):∀ v,MA e t=some v→AD v:=fun v h=>by
 unfold MA at h;split at h
 ·unfold MQ at h;have ht:=wfT_iff.1 hwt;have hw:=Jn ht.w (Fc e.words t.words.length) 0 e.words;have hk:=KX (XS hwt) (Es (BJ e.kids) t.kids.length) 0 (BJ e.kids);have l1:=UE hp t.words.length;have l2:=VN hp2 t.kids.length;split at h
  ·rename_i w l hw' hl';cases h;obtain⟨a1,a2⟩:=hw w hw';obtain⟨b1,b2⟩:=hk l (fun x hx u v hu hv=>by
    rw[D4] at hx;obtain⟨y,hy,rfl⟩:=List.mem_map.1 hx;rename_i hkk _ _ _;exact(hkk y hy u hu).2 v hv) hl'
   have:=ht.wl;have:=ht.kl;exact wfT_iff.2 ⟨by simp[Db],a2,by simp;omega,by simp;omega,b2⟩
  ·cases h
 ·cases h
theorem Zz {e:E} (hwe:J2 e) (hk:∀ x,x ∈ e.kids→Rx x.e) {t:T} (hwt:AD t) (hp:∀ x,x ∈ e.words→0≤x.at_∧x.at_≤65534) (hp2:∀ x,x ∈ e.kids→0≤x.at_∧x.at_≤65534) :
  G.Spec Tryz.prog 61 [eX e,tX t] (RJ (MA e t)):=by
 have he:=wfE_iff.1 hwe;have hwl:=he.wl;have htl:=(wfT_iff.1 hwt).wl;refine Ag Jz (by simp) fun w0 I0=>?_;by_cases h1:t.kind=1;rotate_left
 ·have:MA e t=none:=if_neg h1;rw[this];unfold DV;simp[h1];exact An ⟨AE ⟨Ad rfl,Ah,Ah,trivial⟩,Ad rfl,trivial⟩
 have hA:MA e t=MQ e t (Fc e.words t.words.length) (Es (BJ e.kids) t.kids.length):=if_pos h1;have fin:∀ n:Nat,n*8≤140737488355328→n=Fc e.words t.words.length→∀ H:Hp,H [0]=⟨1,.cells (eL e)⟩→H [1]=⟨1,.cells (tL t)⟩→H [2]=⟨1,.cells z0⟩→H [3]=⟨1,.cells [iv 1,.osl [5] 1 1 0 0,.osl [8] 1 3 0 0]⟩→H [5]=⟨1,.arr 1 []⟩→H [8]=⟨1,.arr 3 []⟩ →
   WPC (cx Tryz.prog w0 I0 175) Cg (NC Tryz.prog [.cell 4 25,.tmp 5] (RJ (MA e t))) ⟨lk [(2,.pob [0] 1 0),(3,.pob [1] 1 0),(4,.pob [2] 1 0),(6,.pob [3] 1 0),(7,iv n),(8,iv t.kids.length)],H⟩:=fun n hn e1 H g0 g1 g2 g3 g5 g8=>by
  rw[hA,← e1];exact i3 hwe hk hwt hp2 hn g0 g1 g2 g3 g5 g8
 generalize RJ (MA e t)=Y at fin ⊢;unfold DV;simp[h1];refine JB (Bc (d:=[3]) (u:=1) (cs:=[iv 1,.sl true [],.sl true []]) 1 [5] 1 (by simp) rfl (by simp)) ?_;refine JB (Bc (d:=[3]) (u:=1) (cs:=[iv 1,.osl [5] 1 1 0 0,.sl true []]) 2 [8] 3 (by simp[Aa]) rfl (by simp)) (Ff ?_);by_cases h0:e.words.length=0
 ·have hl0:t.words.length=Fc e.words t.words.length:=by
   rw[List.eq_nil_of_length_eq_zero h0];rfl
  simp[h0,Aa];exact fin _ htl hl0 _ (by simp[Aa]) (by simp[Aa,h1]) (by simp[Aa]) (by simp[Aa]) (by simp[Aa]) (by simp[Aa])
 have hlt:e.words.length-1<e.words.length:=by omega
 have e9:i64.wrap ((e.words.length:Int)-1)=((e.words.length-1:Nat):Int):=(A4 (n:=(e.words.length:Int)-1) (by omega) (by omega)).trans (by omega);have hpos:0<e.words.length:=by omega
 have hlast:Fc e.words t.words.length=max t.words.length (e.words[e.words.length-1].at_+1).toNat:=by
  have:e.words.getLast? = some e.words[e.words.length-1]:=by
   rw[Ux];simp[hlt]
  simp[Fc,this]
 obtain⟨p1,p2⟩:=hp _ (BD hlt);generalize hz:e.words[e.words.length-1].at_=z at hlast p1 p2;have ez:i64.wrap (z+1)=z+1:=Hl;by_cases hc:(t.words.length:Int)≤z
 ·simp[hpos,e9,hlt,hz,hc,ez,Aa];have:=fin (z+1).toNat (by omega) (by omega);rw[show(((z+1).toNat:Nat):Int)=z+1 by omega] at this;exact this _ (by simp[Aa]) (by simp[Aa,h1]) (by simp[Aa]) (by simp[Aa]) (by simp[Aa]) (by simp[Aa])
 ·simp[hpos,e9,hlt,hz,hc,Aa];exact fin t.words.length htl (by omega) _ (by simp[Aa]) (by simp[Aa,h1]) (by simp[Aa]) (by simp[Aa]) (by simp[Aa]) (by simp[Aa])
def Ht (x:OP):Prop:=(x.kind=0∧1≤x.n∧x.n≤1048576∧x.l=[])∨(x.kind=1∧x.n=0)∨(x.kind=2∧x.n=0)∨(x.kind=3∧x.n=0∧x.l=[])
structure LsH (e:E) (t:T) (k:Int) (acc:List T) (H:Hp):Prop where
 g0:H [0]=⟨1,.cells (eL e)⟩
 g1:H [1]=⟨1,.cells (tL t)⟩
 g2:H [2]=⟨1,.cells z0⟩
 g3:H [3]=⟨1,.cells [iv k,.sl true [],.osl [5] (acc.length+1) 3 0 acc.length]⟩
 g5:H [5]=⟨acc.length+1,.arr 3 (acc.map tA)⟩
theorem LsH.snoc {e:E} {t:T} {k:Int} {acc:List T} {H:Hp} (h:LsH e t k acc H) (x:T):LsH e t k (acc++[x]) (Az (Az H [5] ⟨acc.length+1+1,.arr 3 (List.take acc.length (acc.map tA)++[tX x])⟩) [3] ⟨1,.cells [iv k,.sl true [],.osl [5] (acc.length+1+1) 3 0 (acc.length+1)]⟩):=
 ⟨by simp[Aa,h.g0],by simp[Aa,h.g1],by simp[Aa,h.g2],by simp[Aa],by simp[Aa,AN]⟩
theorem LsH.put {e:E} {t:T} {k:Int} {acc:List T} {H:Hp} (h:LsH e t k acc H) {d:Nm} (x:VOb) (hd:d ≠ [0]∧d ≠ [1]∧d ≠ [2]∧d ≠ [3]∧d ≠ [5]):LsH e t k acc (Az H d x):=
 ⟨by rw[Ax (Ne.symm hd.1)];exact h.g0,by rw[Ax (Ne.symm hd.2.1)];exact h.g1,by rw[Ax (Ne.symm hd.2.2.1)];exact h.g2,by rw[Ax (Ne.symm hd.2.2.2.1)];exact h.g3,by rw[Ax (Ne.symm hd.2.2.2.2)];exact h.g5⟩
abbrev Nz (x:OP):List A:=[iv x.kind,iv x.n,Bx x.l]++eL x.e
theorem lN {e:E} {t:T} {k:Int} {x:OP} {i v:Nat} (hx:x.kind=0) {N:Nat} (hN:x.n=N) (hb:N≤1048576) (htk:t.kids.length*56≤140737488355328) :
  ∀ (j m a:Nat) (acc:List T) (H:Hp),m+j=N→acc.length≤1000000000000+m→LsH e t k acc H→H [4]=⟨v,.cells (Nz x)⟩ →
   (a+j≤t.kids.length→∀ (H':Hp) (q:Bool),LsH e t k (acc++(t.kids.drop a).take j) H'→H' [4]=⟨v,.cells (Nz x)⟩→Q (.exit 2) ⟨lk [(2,.pob [0] 1 0),(3,.pob [1] 1 0),(4,.pob [2] 1 0),(6,.pob [3] 1 0),(7,iv ((a+j:Nat):Int)),(8,iv i),(9,.pob [4] v 0),(10,iv N),(43,bv q)],H'⟩) →
   (¬ a+j≤t.kids.length→∀ H':Hp,H' [2]=⟨1,.cells z0⟩→Q .ret ⟨lk [(4,.pob [2] 1 0),(5,bv false)],H'⟩) →
   a≤t.kids.length →
  LoopC (cx Tryz.prog w0 I0 n0) B7 Q ⟨lk [(2,.pob [0] 1 0),(3,.pob [1] 1 0),(4,.pob [2] 1 0),(6,.pob [3] 1 0),(7,iv a),(8,iv i),(9,.pob [4] v 0),(10,iv m)],H⟩:=by
 intro j;induction j with
 |zero=>
  intro m a acc H hm hacc hH h4 hq hf ha;have:m=N:=by omega
  subst this;refine Ab Aj B7.eq_1 ?_;simp[h4,hN];exact hq (by omega) H _ (by simpa using hH) h4
 |succ j ih=>
  intro m a acc H hm hacc hH h4 hq hf ha;have hlt:m<N:=by omega
  refine Ab Aj B7.eq_1 ?_;by_cases hla:a<t.kids.length;rotate_left
  ·have hla':t.kids.length≤a:=by omega
   simp[h4,hN,hx,hlt,hH.g1,hH.g2,Aa,hla,hla'];exact hf (by omega) _ (by simp[Aa])
  have hla':¬ t.kids.length≤a:=by omega
  have ei:=AI a;have em:=AI m;have hs:=hH.snoc t.kids[a];have hd:(t.kids.drop a).take (j+1)=t.kids[a]::(t.kids.drop (a+1)).take j:=by
   rw[List.drop_eq_getElem_cons hla,List.take_succ_cons]
  have hs4:∀ X Y:VOb,(Az (Az H [5] X) [3] Y) [4]=⟨v,.cells (Nz x)⟩:=fun X Y=>by simp[Aa,h4]
  simp[h4,hN,hx,hlt,hH.g1,hla,hla',hH.g3,hH.g5,Aa];refine⟨by omega,Ff ?_⟩;simp[ei,em];refine ih (m+1) (a+1) (acc++[t.kids[a]]) _ (by omega) (by simp;omega) hs (hs4 _ _) (fun hle H' q hL' q4=>?_) (fun hle H' h2=>hf (by omega) H' h2) (by omega);have:=hq (by omega) H' q (by rw[hd];simpa using hL') q4
  rwa [show a+(j+1)=a+1+j by omega] at this
def GH (x:OP):Nat:=if x.kind=0 then x.n.toNat else if x.kind=1 then 0 else if x.kind=2 then x.l.length else 1
def D6:List OP→Nat
 |[]=>0
 |x::xs=>GH x+D6 xs
theorem jw {e:E} {t:T} {k:Int} {x:OP} {i v:Nat} {a:Int} (hx:x.kind=2) (hl:x.l.length≤1048576) :
  ∀ (j m:Nat) (acc:List T) (H:Hp),m+j=x.l.length→acc.length≤1048576+m→LsH e t k acc H→H [4]=⟨v,.cells (Nz x)⟩ →
   (∀ (H':Hp) (q:Bool),LsH e t k (acc++x.l.drop m) H'→H' [4]=⟨v,.cells (Nz x)⟩→Q (.exit 4) ⟨lk [(2,.pob [0] 1 0),(3,.pob [1] 1 0),(4,.pob [2] 1 0),(6,.pob [3] 1 0),(7,iv a),(8,iv i),(9,.pob [4] v 0),(11,iv x.l.length),(68,bv q)],H'⟩) →
  LoopC (cx Tryz.prog w0 I0 n0) A9 Q ⟨lk [(2,.pob [0] 1 0),(3,.pob [1] 1 0),(4,.pob [2] 1 0),(6,.pob [3] 1 0),(7,iv a),(8,iv i),(9,.pob [4] v 0),(11,iv m)],H⟩:=by
 intro j;induction j with
 |zero=>
  intro m acc H hm hacc hH h4 hq;have:m=x.l.length:=by omega
  subst this;refine Ab Aj A9.eq_1 ?_;simp[h4];exact hq H _ (by simpa using hH) h4
 |succ j ih=>
  intro m acc H hm hacc hH h4 hq;have hlt:m<x.l.length:=by omega
  refine Ab Aj A9.eq_1 ?_;have em:=AI m;have hs:=hH.snoc x.l[m];have hd:x.l.drop m=x.l[m]::x.l.drop (m+1):=List.drop_eq_getElem_cons hlt;have hs4:∀ X Y:VOb,(Az (Az H [5] X) [3] Y) [4]=⟨v,.cells (Nz x)⟩:=fun X Y=>by simp[Aa,h4]
  simp[h4,hx,hlt,hH.g3,hH.g5,Aa];refine⟨by omega,?_⟩;simp[em];refine ih (m+1) (acc++[x.l[m]]) _ (by omega) (by simp;omega) hs (hs4 _ _) (fun H' q hL' q4=>?_);exact hq H' q (by rw[hd];simpa using hL') q4
theorem jv {e:E} {t:T} {k:Int} {x:OP} {i v:Nat} {acc:List T} (hx:x.kind=1) (hl:x.l.length≤1048576) (hwt:AD t) (hwx:∀ y,y ∈ x.l→AD y) (a0:Nat) :
  ∀ (j m a:Nat) (H:Hp),m+j=x.l.length→a=a0+m→LsH e t k acc H→H [4]=⟨v,.cells (Nz x)⟩ →
   (a+j≤t.kids.length→((t.kids.drop a).zip (x.l.drop m)).all (fun p=>G9 p.1 p.2)=true→∀ (H':Hp) (q:Bool),LsH e t k acc H'→H' [4]=⟨v,.cells (Nz x)⟩→Q (.exit 4) ⟨lk [(2,.pob [0] 1 0),(3,.pob [1] 1 0),(4,.pob [2] 1 0),(6,.pob [3] 1 0),(7,iv ((a+j:Nat):Int)),(8,iv i),(9,.pob [4] v 0),(11,iv x.l.length),(68,bv q)],H'⟩) →
   (¬ (a+j≤t.kids.length∧((t.kids.drop a).zip (x.l.drop m)).all (fun p=>G9 p.1 p.2)=true)→∀ H':Hp,H' [2]=⟨1,.cells z0⟩→Q .ret ⟨lk [(4,.pob [2] 1 0),(5,bv false)],H'⟩) →
   a≤t.kids.length →
  LoopC (cx Tryz.prog w0 I0 n0) A9 Q ⟨lk [(2,.pob [0] 1 0),(3,.pob [1] 1 0),(4,.pob [2] 1 0),(6,.pob [3] 1 0),(7,iv a),(8,iv i),(9,.pob [4] v 0),(11,iv m)],H⟩:=by
 have htk:=(wfT_iff.1 hwt).kl;intro j;induction j with
 |zero=>
  intro m a H hm hma hH h4 hq hf ha;have:m=x.l.length:=by omega
  subst this;refine Ab Aj A9.eq_1 ?_;simp[h4];exact hq (by omega) (by simp) H _ hH h4
 |succ j ih=>
  intro m a H hm hma hH h4 hq hf ha;have hlt:m<x.l.length:=by omega
  refine Ab Aj A9.eq_1 ?_;have em:=AI m;have ea:=AI a;have hd:x.l.drop m=x.l[m]::x.l.drop (m+1):=List.drop_eq_getElem_cons hlt;by_cases hla:a<t.kids.length;rotate_left
  ·have hla':t.kids.length≤a:=by omega
   simp[h4,hx,hlt,hH.g1,hH.g2,Aa,hla'];refine AU rfl ?_;simp[hH.g2,Aa];exact hf (fun h=>by omega) _ (by simp[Aa])
  have hla':¬ t.kids.length≤a:=by omega
  have hd2:t.kids.drop a=t.kids[a]::t.kids.drop (a+1):=List.drop_eq_getElem_cons hla;simp[h4,hx,hlt,hH.g1,hla',hla];refine Ao rfl (fun _=>Iu ((wfT_iff.1 hwt).ks _ (BD hla)) (hwx _ (BD hlt)) (B9 _ ((wfT_iff.1 hwt).ks _ (BD hla)))) (fun _=>by simp) (by simp) ?_;have hz:((t.kids.drop a).zip (x.l.drop m)).all (fun p=>G9 p.1 p.2)=(G9 t.kids[a] x.l[m]&&((t.kids.drop (a+1)).zip (x.l.drop (m+1))).all (fun p=>G9 p.1 p.2)):=by rw[hd,hd2];rfl
  rw[hz] at hq hf;simp only[Bool.and_eq_true] at hq hf;by_cases he:G9 t.kids[a] x.l[m]=true
  ·simp[he];refine Ff ?_;simp[ea,em];refine ih (m+1) (a+1) H (by omega) (by omega) hH h4 (fun hle hal H' q hL' q4=>?_) (fun hle H' h2=>hf (fun h=>hle ⟨by omega,h.2.2⟩) H' h2) (by omega);have:=hq (by omega) ⟨he,hal⟩ H' q hL' q4
   rwa [show a+(j+1)=a+1+j by omega] at this
  ·simp[he,hH.g2,Aa];exact hf (fun h=>he h.2.1) _ (by simp[Aa])
theorem TL {x:OP} {i v:Nat} {a:Int} (hx:x.n=0) {H:Hp} (h4:H [4]=⟨v,.cells (Nz x)⟩)
  (hq:∀ q:Bool,Q (.exit 2) ⟨lk [(2,.pob [0] 1 0),(3,.pob [1] 1 0),(4,.pob [2] 1 0),(6,.pob [3] 1 0),(7,iv a),(8,iv i),(9,.pob [4] v 0),(10,iv 0),(43,bv q)],H⟩) :
  LoopC (cx Tryz.prog w0 I0 n0) B7 Q ⟨lk [(2,.pob [0] 1 0),(3,.pob [1] 1 0),(4,.pob [2] 1 0),(6,.pob [3] 1 0),(7,iv a),(8,iv i),(9,.pob [4] v 0),(10,iv 0)],H⟩:=by
 refine Ab Aj B7.eq_1 ?_;simp[h4,hx];exact hq _
theorem YR {x:OP} {i v:Nat} {a:Int} (hx:x.l=[]) {H:Hp} (h4:H [4]=⟨v,.cells (Nz x)⟩)
  (hq:∀ q:Bool,Q (.exit 4) ⟨lk [(2,.pob [0] 1 0),(3,.pob [1] 1 0),(4,.pob [2] 1 0),(6,.pob [3] 1 0),(7,iv a),(8,iv i),(9,.pob [4] v 0),(11,iv 0),(68,bv q)],H⟩) :
  LoopC (cx Tryz.prog w0 I0 n0) A9 Q ⟨lk [(2,.pob [0] 1 0),(3,.pob [1] 1 0),(4,.pob [2] 1 0),(6,.pob [3] 1 0),(7,iv a),(8,iv i),(9,.pob [4] v 0),(11,iv 0)],H⟩:=by
 refine Ab Aj A9.eq_1 ?_;simp[h4,hx];exact hq _
theorem Qc (f:T × T→Bool):∀ (l m:List T),((l.take m.length).zip m).all f=(l.zip m).all f
 |l,[]=>by simp
 |[],m=>by simp
 |x::l,y::m=>by
  have:=Qc f l m;simp only[List.length_cons,List.take_succ_cons,List.zip_cons_cons,List.all_cons,this]
theorem Zt {os:List OP} {i:Nat} (h:i<os.length):CE (os.drop i)=(os[i].kind,os[i].n,os[i].l,GY os[i].e)::CE (os.drop (i+1)):=by
 rw[List.drop_eq_getElem_cons h,FO,List.map_cons,← FO]
theorem mP {e:E} {t:T} {k:Int} (hwt:AD t) (hol:e.ops.length*240≤140737488355328) (hok:∀ x,x ∈ e.ops→Ht x∧x.l.length≤1048576∧(∀ y,y ∈ x.l→AD y)) (hk:∀ x,x ∈ e.ops→x.kind=3→Rx x.e)
  (hf:Cp t.kids 0 (CE e.ops)=none→∀ H':Hp,H' [2]=⟨1,.cells z0⟩→Q .ret ⟨lk [(4,.pob [2] 1 0),(5,bv false)],H'⟩)
  (hq:∀ (q:Bool) (a:Nat) (acc:List T) (H':Hp),Cp t.kids 0 (CE e.ops)=some (acc,a)→a≤t.kids.length→LsH e t k acc H'→Q (.exit 0) ⟨lk [(2,.pob [0] 1 0),(3,.pob [1] 1 0),(4,.pob [2] 1 0),(6,.pob [3] 1 0),(7,iv a),(8,iv e.ops.length),(27,bv q)],H'⟩) :
  ∀ (j i a:Nat) (acc:List T) (H:Hp),i+j=e.ops.length→acc.length+D6 (e.ops.drop i)≤1048576→LsH e t k acc H →
   (∀ r,Cp t.kids a (CE (e.ops.drop i))=some r→Cp t.kids 0 (CE e.ops)=some (acc++r.1,r.2))→(Cp t.kids a (CE (e.ops.drop i))=none→Cp t.kids 0 (CE e.ops)=none) →
   a≤t.kids.length →
  LoopC (cx Tryz.prog w0 I0 n0) DM Q ⟨lk [(2,.pob [0] 1 0),(3,.pob [1] 1 0),(4,.pob [2] 1 0),(6,.pob [3] 1 0),(7,iv a),(8,iv i)],H⟩:=by
 have htk:=(wfT_iff.1 hwt).kl;intro j;induction j with
 |zero=>
  intro i a acc H hi hacc hH hs hn ha;have:i=e.ops.length:=by omega
  subst this;refine Ab Aj DM.eq_1 ?_;simp[hH.g0];rw[List.drop_length,CE] at hs;have:=hs ([],a) (by rw[Cp]);rw[List.append_nil] at this;exact hq _ a acc H this ha hH
 |succ j ih=>
  intro i a acc H hi hacc hH hs hn ha;have hlt:i<e.ops.length:=by omega
  obtain⟨hop,hxl,hxw⟩:=hok _ (BD hlt);have hkx:=hk _ (BD hlt);rw[Zt hlt] at hs hn;have hadd:D6 (e.ops.drop i)=GH e.ops[i]+D6 (e.ops.drop (i+1)):=by rw[List.drop_eq_getElem_cons hlt];rfl
  rw[hadd] at hacc;have ei:=AI i;refine Ab Aj DM.eq_1 ?_;simp[hlt,hH.g0,Aa];have hH4:=hH.put (d:=[4]) ⟨(H [4]).u+1,.cells (Nz e.ops[i])⟩ (by simp);have h4:(Az H [4] ⟨(H [4]).u+1,.cells (Nz e.ops[i])⟩) [4]=⟨(H [4]).u+1,.cells (Nz e.ops[i])⟩:=by simp[Aa]
  change LsH e t k acc (Az H [4] { u:=(H [4]).u+1,ob:=.cells [iv e.ops[i].kind,iv e.ops[i].n,Bx e.ops[i].l,iv e.ops[i].e.kind,iv e.ops[i].e.old.kind,CQ e.ops[i].e.old.words,Bx e.ops[i].e.old.kids,iv e.ops[i].e.new.kind,CQ e.ops[i].e.new.words,Bx e.ops[i].e.new.kids,JJ e.ops[i].e.words,Ka e.ops[i].e.kids,iv e.ops[i].e.list,IW e.ops[i].e.ops] }) at hH4;change (Az H [4] { u:=(H [4]).u+1,ob:=.cells [iv e.ops[i].kind,iv e.ops[i].n,Bx e.ops[i].l,iv e.ops[i].e.kind,iv e.ops[i].e.old.kind,CQ e.ops[i].e.old.words,Bx e.ops[i].e.old.kids,iv e.ops[i].e.new.kind,CQ e.ops[i].e.new.words,Bx e.ops[i].e.new.kids,JJ e.ops[i].e.words,Ka e.ops[i].e.kids,iv e.ops[i].e.list,IW e.ops[i].e.ops] }) [4]=⟨(H [4]).u+1,.cells (Nz e.ops[i])⟩ at h4;generalize Az H [4] { u:=(H [4]).u+1,ob:=.cells [iv e.ops[i].kind,iv e.ops[i].n,Bx e.ops[i].l,iv e.ops[i].e.kind,iv e.ops[i].e.old.kind,CQ e.ops[i].e.old.words,Bx e.ops[i].e.old.kids,iv e.ops[i].e.new.kind,CQ e.ops[i].e.new.words,Bx e.ops[i].e.new.kids,JJ e.ops[i].e.words,Ka e.ops[i].e.kids,iv e.ops[i].e.list,IW e.ops[i].e.ops] }=H1 at hH4 h4 ⊢;generalize (H [4]).u+1=v at h4 ⊢;generalize hx:e.ops[i]=x at *;clear hH;rcases hop with ⟨k0,n1,n2,l0⟩ | ⟨k1,nz⟩ | ⟨k2,nz⟩ | ⟨k3,nz,l0⟩
  ·obtain⟨N,hN⟩:∃ N:Nat,x.n=N:=⟨x.n.toNat,by omega⟩;have hN2:x.n.toNat=N:=by omega
   have hao:GH x=N:=by rw[GH,if_pos k0,hN2]
   rw[Cp,if_pos k0,hN2] at hs hn;refine lN k0 hN (by omega) htk N 0 a acc H1 (by omega) (by omega) hH4 h4 (fun hle H2 q hL2 q4=>?_) (fun hle H2 h2=>?_) ha
   ·simp;refine YR l0 q4 (fun q2=>?_);rw[if_pos hle] at hs hn;simp[q4,k0,ei];refine ih (i+1) (a+N) _ H2 (by omega) (by simp;omega) hL2 (fun r hr=>?_) (fun hr=>hn (by rw[hr];rfl)) hle;have:=hs (((t.kids.drop a).take N)++r.1,r.2) (by rw[hr];rfl);simpa using this
   ·simp;rw[if_neg hle] at hn;exact hf (hn rfl) H2 h2
  ·have hao:GH x=0:=by rw[GH,if_neg (by omega),if_pos k1]
   rw[Cp,if_neg (by omega),if_pos k1] at hs hn;refine TL nz h4 (fun q=>?_);simp;refine jv k1 hxl hwt hxw a x.l.length 0 a H1 (by omega) (by omega) hH4 h4 (fun hle hal H2 q hL2 q4=>?_) (fun hbad H2 h2=>?_) ha
   ·rw[List.drop_zero] at hal;rw[if_pos ⟨hle,by rw[Qc];exact hal⟩] at hs hn;simp[q4,k1,ei];exact ih (i+1) (a+x.l.length) acc H2 (by omega) (by omega) hL2 hs hn hle
   ·simp;rw[if_neg (fun h=>hbad ⟨h.1,by rw[List.drop_zero,← Qc];exact h.2⟩)] at hn;exact hf (hn rfl) H2 h2
  ·have hao:GH x=x.l.length:=by rw[GH,if_neg (by omega),if_neg (by omega),if_pos k2]
   rw[Cp,if_neg (by omega),if_neg (by omega),if_pos k2] at hs hn;refine TL nz h4 (fun q=>?_);simp;refine jw k2 hxl x.l.length 0 acc H1 (by omega) (by omega) hH4 h4 (fun H2 q hL2 q4=>?_);simp[q4,k2,ei];refine ih (i+1) a _ H2 (by omega) (by simp;omega) hL2 (fun r hr=>?_) (fun hr=>hn (by rw[hr];rfl)) ha;have:=hs (x.l++r.1,r.2) (by rw[hr];rfl);simpa using this
  ·have hao:GH x=1:=by rw[GH,if_neg (by omega),if_neg (by omega),if_neg (by omega)]
   rw[Cp,if_neg (by omega),if_neg (by omega),if_neg (by omega)] at hs hn;refine TL nz h4 (fun q=>?_);simp;refine YR l0 h4 (fun q2=>?_);by_cases hla:a<t.kids.length;rotate_left
   ·have hla':t.kids.length≤a:=by omega
    rw[List.getElem?_eq_none hla'] at hn;simp[h4,k3,hH4.g1,hla',hH4.g2,Aa];exact hf (hn rfl) _ (by simp[Aa])
   have hla':¬ t.kids.length≤a:=by omega
   rw[List.getElem?_eq_getElem hla] at hs hn;dsimp only at hs hn;have ea:=AI a;obtain⟨hsp,hwv⟩:=hkx k3 _ ((wfT_iff.1 hwt).ks _ (BD hla));simp[h4,k3,hH4.g1,hla',hla];refine Ae hsp (by simp) ?_;cases hu:GY x.e t.kids[a] with
   |none=>
    rw[hu] at hn;simp[Aa,hH4.g2];exact hf (hn rfl) _ (by simp[Aa])
   |some u=>
    rw[hu] at hs hn;have hH7:=hH4.put (d:=[7]) ⟨(H1 [7]).u+1,.cells (tL u)⟩ (by simp);have hS:=hH7.snoc u;simp[Aa,hH4.g3,hH4.g5];refine⟨by omega,Ff ?_⟩;simp[ea,ei];refine ih (i+1) (a+1) (acc++[u]) _ (by omega) (by simp;omega) hS (fun r hr=>?_) (fun hr=>hn (by rw[hr];rfl)) (by omega);have:=hs (u::r.1,r.2) (by rw[hr];rfl);simpa using this
noncomputable def cW (e:E) (t:T):A:=if t.kind=e.list then (match Cp t.kids 0 (CE e.ops) with
 |some r=>.tup [tX (.mk t.kind [] r.1),bv (decide (r.2=t.kids.length))]
 |none=>.tup [tX T0,bv false]) else .tup [tX T0,bv false]
theorem Wx {e:E} (hwe:J2 e) (hok:∀ x,x ∈ e.ops→Ht x∧x.l.length≤1048576) (hk:∀ x,x ∈ e.ops→x.kind=3→Rx x.e) (hadd:D6 e.ops≤1048576) {t:T} (hwt:AD t) :
  G.Spec Tryz.prog 62 [eX e,tX t] (cW e t):=by
 have he:=wfE_iff.1 hwe;refine Ag Nc (by simp) fun w0 I0=>?_;have bad:∀ H:Hp,H [2]=⟨1,.cells z0⟩→Gy H (.tup [.agg z0,bv false]) (.tup [tX T0,bv false]):=fun H h=>
  An ⟨AE ⟨Ad rfl,Ah,Ah,trivial⟩,Ad rfl,trivial⟩
 by_cases h1:t.kind=e.list;rotate_left
 ·have:cW e t = .tup [tX T0,bv false]:=if_neg h1;rw[this];unfold FZ;simp[h1];exact bad _ (by simp)
 have hX:cW e t=(match Cp t.kids 0 (CE e.ops) with
  |some r=>.tup [tX (.mk t.kind [] r.1),bv (decide (r.2=t.kids.length))]
  |none=>.tup [tX T0,bv false]):=if_pos h1
 generalize cW e t=X at hX ⊢;unfold FZ;simp[h1];refine JB (Bc (d:=[3]) (u:=1) (cs:=[iv t.kind,.sl true [],.sl true []]) 2 [5] 3 (by simp[h1]) rfl (by simp)) (Ff ?_);simp;refine mP (e:=e) (k:=t.kind) hwt he.ol (fun x hx=>⟨(hok x hx).1,(hok x hx).2,?_⟩) hk (fun hnone H' h2=>?_) (fun q a acc H' hsome hle hL=>?_) e.ops.length 0 0 [] _ (by omega) (by simpa using hadd) ?_ (fun r hr=>by simpa using hr) (fun hr=>by simpa using hr) (by omega)
 ·exact(he.os x hx).l
 ·simp[h2];rw[hX,hnone];exact bad _ h2
 ·simp[hL.g1,hL.g2,hL.g3,Aa];rw[hX,hsome];exact An ⟨AE ⟨Ad rfl,Ah,A3 (f:=tA) (l:=acc) (by simp[Aa,hL.g5]) rfl (fun x=>by simp),trivial⟩,Aq (by simp;omega),trivial⟩
 ·exact⟨by simp,by simp[h1],by simp,by simp,by simp⟩
theorem YD {list:Int} {x:OP} (h:E4 list x=true) (h3:x.kind=3→JR list x=true):Ht x:=by
 unfold E4 at h;split at h
 ·rename_i h0;simp at h;exact .inl ⟨h0,h.1.1.1,h.1.1.2,h.1.2⟩
 ·split at h
  ·cases h
  ·rename_i h0 h1;by_cases k1:x.kind=1
   ·exact .inr (.inl ⟨k1,by omega⟩)
   ·by_cases k2:x.kind=2
    ·exact .inr (.inr (.inl ⟨k2,by omega⟩))
    ·have k3:x.kind=3:=by omega
     have:=h3 k3;simp[JR] at this;exact .inr (.inr (.inr ⟨k3,by omega,this.1.1⟩))
def Vn (x:OP):Nat:=if x.kind=2 then 0 else (B4 x).toNat
def Ph:List OP→Nat
 |[]=>0
 |x::xs=>Vn x+Ph xs
theorem QU {x:OP} (h:Ht x):0≤B4 x:=by
 unfold B4;rcases h with h | h | h | h<;>(split<;>omega)
theorem QH {a b:Int} (h:a≤b) (ha:a≤1048576):a≤Lk b:=by unfold Lk;split<;>omega
theorem Gu (b:Int):Lk b≤1048576:=by unfold Lk;split<;>omega
theorem Tx {a b:Int} (h:Lk b<1048576):Lk b=b:=by unfold Lk at h ⊢; split<;>first | omega | rfl
theorem FN:∀ (os:List OP) (n m:Int),(∀ x,x ∈ os→Ht x)→n≤1048576→m≤1048576→n≤(AB n m os).1∧m≤(AB n m os).2
 |[],n,m,_,_,_=>⟨by simp[AB],by simp[AB]⟩
 |x::os,n,m,h,hn,hm=>by
  rw[AB];have hx:=QU (h x (by simp));obtain⟨a,b⟩:=FN os (Lk (if x.kind ≠ 2 then n+B4 x else n)) (Lk (if x.kind ≠ 1 then m+B4 x else m)) (fun y hy=>h y (by simp[hy])) (Gu _) (Gu _);exact⟨Int.le_trans (QH (by split<;>omega) hn) a,Int.le_trans (QH (by split<;>omega) hm) b⟩
theorem Yv {x:OP} (h:Ht x):(GH x:Int)=if x.kind ≠ 1 then B4 x else 0:=by
 unfold GH B4;rcases h with ⟨a,b,c,d⟩ | ⟨a,b⟩ | ⟨a,b⟩ | ⟨a,b,d⟩
 ·simp[a,d];omega
 ·simp[a]
 ·simp[a,b]
 ·simp[a]
theorem KF:∀ (os:List OP) (n m:Int),(∀ x,x ∈ os→Ht x)→0≤n→0≤m→n≤1048576→m≤1048576→(AB n m os).1<1048576→(AB n m os).2<1048576→n+Ph os<1048576∧m+D6 os<1048576
 |[],n,m,_,_,_,_,_,h1,h2=>by
  simp[AB] at h1 h2;exact⟨by simp[Ph];omega,by simp[D6];omega⟩
 |x::os,n,m,h,hn,hm,tn,tm,h1,h2=>by
  rw[AB] at h1 h2;have hok:=h x (by simp);have hx:=QU hok;have hr:∀ y,y ∈ os→Ht y:=fun y hy=>h y (by simp[hy]);obtain⟨a,b⟩:=FN os (Lk (if x.kind ≠ 2 then n+B4 x else n)) (Lk (if x.kind ≠ 1 then m+B4 x else m)) hr (Gu _) (Gu _);have e1:=Tx (a:=0) (Int.lt_of_le_of_lt a h1);have e2:=Tx (a:=0) (Int.lt_of_le_of_lt b h2);obtain⟨c,d⟩:=KF os _ _ hr (by rw[e1];split<;>omega) (by rw[e2];split<;>omega) (Gu _) (Gu _) h1 h2;rw[e1] at c;rw[e2] at d;have q:=Yv hok;constructor
  ·simp only[Ph,Vn];by_cases k2:x.kind=2
   ·simp[k2] at c ⊢; omega
   ·simp[k2] at c ⊢; omega
  ·simp only[D6];by_cases k1:x.kind=1
   ·simp[k1] at d q;omega
   ·simp[k1] at d q;omega
theorem XY:∀ {os:List OP} {x:OP},x ∈ os→Vn x≤Ph os∧GH x≤D6 os
 |[],x,h=>nomatch h
 |y::os,x,h=>by
  simp only[Ph,D6];rcases List.mem_cons.1 h with rfl | h
  ·exact⟨by omega,by omega⟩
  ·have:=XY h;exact⟨by omega,by omega⟩
theorem SH {os:List OP} (h:∀ x,x ∈ os→Ht x) (h1:(AB 0 0 os).1<1048576) (h2:(AB 0 0 os).2<1048576):D6 os≤1048576∧∀ x,x ∈ os→Ht x∧x.l.length≤1048576:=by
 obtain⟨a,b⟩:=KF os 0 0 h (by omega) (by omega) (by omega) (by omega) h1 h2;refine⟨by omega,fun x hx=>⟨h x hx,?_⟩⟩;obtain⟨c,d⟩:=XY hx;rcases h x hx with ⟨k,_,_,e⟩ | ⟨k,e⟩ | ⟨k,e⟩ | ⟨k,_,e⟩
 ·rw[e];simp
 ·simp[Vn,B4,k] at c;omega
 ·simp[GH,k] at d;omega
 ·rw[e];simp
theorem Ju:∀ {ws:List WE} {last:Int},-1≤last→BP last ws=true→∀ x,x ∈ ws→0≤x.at_∧x.at_≤65534
 |[],_,_,_,x,hx=>nomatch hx
 |w::ws,last,hl,h,x,hx=>by
  simp[BP,N0] at h;obtain⟨⟨⟨⟨⟨h1,h2⟩,_⟩,_⟩,_⟩,h3⟩:=h;rcases List.mem_cons.1 hx with rfl | hx
  ·exact⟨by omega,by omega⟩
  ·exact Ju (by omega) h3 x hx
theorem Hu {d:Nat}:∀ {ks:List KE} {last:Int},-1≤last→B0 d last ks=true→∀ x,x ∈ ks→(0≤x.at_∧x.at_≤65534)∧BG d x.e=true
 |[],_,_,_,x,hx=>nomatch hx
 |w::ws,last,hl,h,x,hx=>by
  simp at h;obtain⟨⟨⟨⟨h1,h2⟩,_⟩,h4⟩,h3⟩:=h;rcases List.mem_cons.1 hx with rfl | hx
  ·exact⟨⟨by omega,by omega⟩,h4⟩
  ·exact Hu (by omega) h3 x hx
theorem Q0 {tk:List T} (ht:∀ x,x ∈ tk→AD x):∀ (os:List OP) (a:Nat) (r:List T × Nat),(∀ x,x ∈ os→Ht x∧(∀ y,y ∈ x.l→AD y)∧(x.kind=3→∀ u v,AD u→GY x.e u=some v→AD v))→Cp tk a (CE os)=some r→(∀ x,x ∈ r.1→AD x)∧r.1.length≤D6 os
 |[],a,r,_,h=>by
  rw[CE,Cp] at h;cases h;exact⟨fun x hx=>(nomatch hx),by simp⟩
 |x::os,a,r,ho,h=>by
  obtain⟨hok,hl,he⟩:=ho x (by simp);have ih:=fun a' r'=>Q0 ht os a' r' (fun y hy=>ho y (by simp[hy]));rw[FO,List.map_cons,← FO] at h;have key:∀ (ys:List T) (a':Nat),(∀ y,y ∈ ys→AD y)→ys.length≤GH x→(Cp tk a' (CE os)).map (fun r=>(ys++r.1,r.2))=some r→(∀ x,x ∈ r.1→AD x)∧r.1.length≤D6 (x::os):=fun ys a' hy hn h=>by
   cases h':Cp tk a' (CE os) with
   |none=>rw[h'] at h;cases h
   |some r'=>
    rw[h'] at h;cases h;obtain⟨p,q⟩:=ih a' r' h';refine⟨fun z hz=>?_,by simp[D6];omega⟩;rcases List.mem_append.1 hz with hz | hz
    ·exact hy z hz
    ·exact p z hz
  rcases hok with ⟨k,n1,n2,l0⟩ | ⟨k,n⟩ | ⟨k,n⟩ | ⟨k,n,l0⟩
  ·rw[Cp,if_pos k] at h;split at h
   ·exact key _ _ (fun y hy=>ht y (Zd (St hy))) (by rw[GH,if_pos k];simp;omega) h
   ·cases h
  ·rw[Cp,if_neg (by omega),if_pos k] at h;split at h
   ·obtain⟨p,q⟩:=ih _ _ h;exact⟨p,by simp only[D6];omega⟩
   ·cases h
  ·rw[Cp,if_neg (by omega),if_neg (by omega),if_pos k] at h;exact key _ _ hl (by rw[GH,if_neg (by omega),if_neg (by omega),if_pos k];omega) h
  ·rw[Cp,if_neg (by omega),if_neg (by omega),if_neg (by omega)] at h;cases hg:tk[a]? with
   |none=>rw[hg] at h;cases h
   |some u=>
    rw[hg] at h;dsimp only at h;cases hu:GY x.e u with
    |none=>rw[hu] at h;cases h
    |some v=>
     rw[hu] at h;exact key [v] _ (fun y hy=>by
      rw[List.mem_singleton.1 hy];exact he k u v (ht u (List.mem_of_getElem? hg)) hu) (by rw[GH,if_neg (by omega),if_neg (by omega),if_neg (by omega)];simp) h
section
variable {n0:Nat} {w0:World} {I0:Nat→Prop}
theorem GQ {o:Option T} {u:T} {b:Bool} (hu:b=true→AD u) (ho:o=if b then some (Af u) else none) {H:Hp} (h2:H [2]=⟨1,.cells z0⟩) (h3:H [3]=⟨1,.cells (tL u)⟩) :
  WPC (cx Tryz.prog w0 I0 n0) Fh (NC Tryz.prog [.cell 4 25,.tmp 5] (RJ o)) ⟨lk [(4,.pob [2] 1 0),(6,.pob [3] 1 0),(7,bv b)],H⟩:=by
 subst ho;rw[Fh.eq_1];cases b with
 |false=>
  simp[h2,Aa];exact An ⟨AE ⟨Ad rfl,Ah,Ah,trivial⟩,Ad rfl,trivial⟩
 |true=>
  simp[h3,h2,Aa];refine Ae (Fj u (hu rfl)) rfl ?_;simp[h3,h2,Aa];have e1:tX (Af u) = .agg [iv u.kind,CQ (Af u).words,Bx (Af u).kids]:=by simp
  show Gy _ _ (.tup [tX (Af u),bv true]);rw[e1];exact An ⟨AE ⟨Ad rfl,Ah,Ah,trivial⟩,Ad rfl,trivial⟩
end
theorem Mf:∀ (e:E),J2 e→∀ d:Nat,BG d e=true→Rx e:=by
 refine E.ind fun k o n ws ks l os ihK ihO hwe d hd t hwt=>?_;have he:=wfE_iff.1 hwe;have heo:=he.o;have hen:=he.n;have heks:=he.ks;have heos:=he.os;simp only[E.old_mk,E.new_mk,E.kids_mk,E.ops_mk] at heo hen heks heos;rw[Jm] at hd;split at hd
 ·cases hd
 rename_i hhead;have hht:=wfT_iff.1 hwt;rw[HF];by_cases k0:k=0
 ·subst k0;have hst:Ep 0 o n ws (BJ ks) l (CE os) t=some (Af t):=if_pos rfl;rw[hst];refine⟨?_,fun v hv=>by cases hv;exact B9 t hwt⟩;refine Ag BO (by simp) fun w0 I0=>?_;unfold Bs;simp;exact GQ (u:=t) (b:=true) (fun _=>hwt) rfl (by simp) (by simp)
 by_cases k1:k=1
 ·subst k1;have hst:Ep 1 o n ws (BJ ks) l (CE os) t=if G9 o t=true then some (Af n) else none:=by
   rw[Ep,if_neg (by decide),if_pos rfl]
  rw[hst];refine⟨?_,fun v hv=>by
   split at hv
   ·cases hv;exact B9 n hen
   ·cases hv⟩
  refine Ag BO (by simp) fun w0 I0=>?_;unfold Bs;simp[Aa];refine Ae (Iu heo hwt (B9 o heo)) (by simp) ?_;simp[Aa];exact GQ (u:=n) (b:=G9 o t) (fun _=>hen) rfl (by simp) (by simp)
 rw[if_neg k1] at hd;split at hd
 ·cases hd
 rename_i hw;split at hd
 ·cases hd
 rename_i hk;split at hd
 ·cases hd
 rename_i hl;split at hd
 ·cases hd
 rename_i ho;simp at hd hw hk ho;have hp:=Ju (by omega) hw;have hp2:=Hu (by omega) hk;have hro:=rightOs_all.1 ho;have hRK:∀ x,x ∈ ks→Rx x.e:=fun x hx=>ihK x hx (heks x hx).2 (d-1) (hp2 x hx).2;have hop:∀ x,x ∈ os→Ht x:=fun x hx=>by
  have:=hro x hx;rw[ET] at this;simp at this;exact YD this.1 (fun h3=>by
   rcases this.2 with h | h
   ·exact absurd h3 h
   ·exact h.1.1)
 have hRO:∀ x,x ∈ os→x.kind=3→Rx x.e:=fun x hx h3=>by
  have:=hro x hx;rw[ET,if_pos h3] at this;simp at this;exact ihO x hx (heos x hx).e (d-1) this.2.1.2
 obtain⟨hadd,hox⟩:=SH hop hd.1 hd.2;by_cases k2:k=2
 ·subst k2;have hst:Ep 2 o n ws (BJ ks) l (CE os) t=(MA (.mk 2 o n ws ks l os) t).map Af:=by
   rw[Ep,if_neg (by decide),if_neg (by decide),if_pos rfl,MA,MQ];simp only[E.words_mk,E.kids_mk];split
   ·split<;>rfl
   ·rfl
  have hs:=Zz hwe hRK hwt hp (fun x hx=>(hp2 x hx).1);have hsw:=jb (e:=.mk 2 o n ws ks l os) hRK hwt hp (fun x hx=>(hp2 x hx).1);rw[hst];generalize MA (.mk 2 o n ws ks l os) t=s at hs hsw ⊢;refine⟨?_,fun v hv=>by
   cases s with
   |none=>cases hv
   |some s=>cases hv;exact B9 s (hsw s rfl)⟩
  refine Ag BO (by simp) fun w0 I0=>?_;unfold Bs;simp[Aa];refine Ae hs (by simp) ?_;cases s with
  |none=>
   simp[Aa];exact GQ (u:=T0) (b:=false) (fun h=>nomatch h) rfl (by simp) (by simp)
  |some s=>
   simp[Aa];exact GQ (u:=s) (b:=true) (fun h=>hsw s rfl) rfl (by simp) (by simp)
 by_cases k3:k=3
 ·subst k3;have hs:=Wx hwe (fun x hx=>hox x hx) hRO hadd hwt;have hst:Ep 3 o n ws (BJ ks) l (CE os) t=if t.kind=l then (match Cp t.kids 0 (CE os) with
   |some (l,a)=>if a=t.kids.length then some (Af (.mk t.kind [] l)) else none
   |none=>none) else none:=by
   rw[Ep,if_neg (by decide),if_neg (by decide),if_neg (by decide),if_pos rfl];first | done | rfl
  have hof:=fun r=>Q0 hht.ks os 0 r (fun x hx=>⟨hop x hx,(heos x hx).l,fun h3 u v hu hv=>(hRO x hx h3 u hu).2 v hv⟩);have hout:∀ r,Cp t.kids 0 (CE os)=some r→AD (.mk t.kind [] r.1):=fun r hr=>by
   obtain⟨p,q⟩:=hof r hr;exact wfT_iff.2 ⟨hht.k,by simp,by simp,by simp;omega,p⟩
  rw[hst];have hX:cW (.mk 3 o n ws ks l os) t=if t.kind=l then (match Cp t.kids 0 (CE os) with
   |some r=>.tup [tX (.mk t.kind [] r.1),bv (decide (r.2=t.kids.length))]
   |none=>.tup [tX T0,bv false]) else .tup [tX T0,bv false]:=rfl
  rw[hX] at hs;by_cases hkl:t.kind=l;rotate_left
  ·rw[if_neg hkl] at hs ⊢;refine⟨?_,fun v hv=>nomatch hv⟩;refine Ag BO (by simp) fun w0 I0=>?_;unfold Bs;simp[Aa];refine Ae hs (by simp) ?_;simp[Aa];exact GQ (u:=T0) (b:=false) (fun h=>nomatch h) rfl (by simp) (by simp)
  rw[if_pos hkl] at hs ⊢;cases hr:Cp t.kids 0 (CE os) with
  |none=>
   rw[hr] at hs;refine⟨?_,fun v hv=>nomatch hv⟩;refine Ag BO (by simp) fun w0 I0=>?_;unfold Bs;simp[Aa];refine Ae hs (by simp) ?_;simp[Aa];exact GQ (u:=T0) (b:=false) (fun h=>nomatch h) rfl (by simp) (by simp)
  |some r=>
   rw[hr] at hs;have hu:=hout r hr;generalize hU:T.mk t.kind [] r.1=U at hs hu;obtain⟨r1,r2⟩:=r;dsimp only at hs hU ⊢;rw[hU];refine⟨?_,fun v hv=>by
    split at hv
    ·cases hv;exact B9 U hu
    ·cases hv⟩
   refine Ag BO (by simp) fun w0 I0=>?_;unfold Bs;simp[Aa];refine Ae hs (by simp) ?_;simp[Aa];exact GQ (u:=U) (b:=decide (r2=t.kids.length)) (fun _=>hu) (by simp) (by simp) (by simp[← hU])
 have hst:Ep k o n ws (BJ ks) l (CE os) t=none:=by
  rw[Ep,if_neg k0,if_neg k1,if_neg k2,if_neg k3]
 rw[hst];refine⟨?_,fun v hv=>nomatch hv⟩;refine Ag BO (by simp) fun w0 I0=>?_;unfold Bs;simp[Aa,k0,k1,k2,k3];exact GQ (u:=t) (b:=false) (fun h=>nomatch h) rfl (by simp) (by simp)
end Go.Proofs.YtlaapfplenlfaaaGreat
namespace Go.G
open Go.RowKit
abbrev S (l:List UInt8):A:=.v (.string ⟨l.toArray⟩)
abbrev u8v (b:UInt8):A:=.v (.int .u8 b.toNat)
@[simp] theorem wF (l:List UInt8):(ByteArray.mk l.toArray).size=l.length:=by simp[ByteArray.size]
@[simp] theorem zP (l:List UInt8) (i:Nat):(ByteArray.mk l.toArray)[i]? = l[i]?:=by
 by_cases h:i<l.length
 ·have h':i<(ByteArray.mk l.toArray).size:=by simpa using h
  rw[getElem?_pos (ByteArray.mk l.toArray) i h',List.getElem?_eq_getElem h];rfl
 ·have h':¬ i<(ByteArray.mk l.toArray).size:=by simpa using h
  rw[getElem?_neg (ByteArray.mk l.toArray) i h',List.getElem?_eq_none (by omega)]
@[simp] theorem vv (l:List UInt8) (i:Nat) (h:i<(ByteArray.mk l.toArray).size):(ByteArray.mk l.toArray)[i]'h=l[i]'(by simpa using h):=rfl
@[simp] theorem jT (l:List UInt8) (a b:Nat):(ByteArray.mk l.toArray).extract a b=ByteArray.mk ((l.drop a).take (b-a)).toArray:=by
 have h:((ByteArray.mk l.toArray).extract a b).data=((l.drop a).take (b-a)).toArray:=by
  rw[ByteArray.data_extract];simp
 cases hq:(ByteArray.mk l.toArray).extract a b with
 |mk d=>rw[hq] at h;simpa using h
@[simp] theorem oE (l m:List UInt8):ByteArray.mk l.toArray++ByteArray.mk m.toArray=ByteArray.mk (l++m).toArray:=Go.ByteArray.mk_append_mk l m
@[simp] theorem mQ (l:List UInt8):(ByteArray.mk l.toArray).toList=l:=Go.ByteArray.toList_eq _
@[simp] theorem nJ (l:List UInt8):L6 (l.map u8v)=some l:=by
 induction l with
 |nil=>rfl
 |cons b l ih=>
  have h:Vm (u8v b)=some b:=by
   have:=b.toNat_lt;simp[Vm];omega
  simp[L6,h,ih]
@[simp] theorem r9 {P:Program} {t u:TypeId} {f:Bool} {xs:List A}:Jo P t u (.sl f xs)=match P.underlying t,P.underlying u with
  |some (.slice e),some .string=>(match P.underlying e,L6 xs with | some (.int .u8),some l=>some (S l) | _,_=>none)
  |_,_=>none:=by
 unfold Jo;cases P.underlying t with
 |none=>rfl
 |some d=>
  cases P.underlying u with
  |none=>cases d<;>rfl
  |some d'=>cases d<;>cases d'<;>rfl
end Go.G
namespace Go.Proofs.YtlaapfplenlfaaaGreat
set_option maxRecDepth 20000
open Go Go.G Go.Proofs
def Pd:CC:=sR [aB 2 false] [0] (sR [mO 3 0,bQ .geq 4 3 3 2 3,mO 5 4,mG 6 0 5 true,oG 7 (.binOp .leq 3 (xT 6) (nI 9) 3) 5 true,pF 8 5 7,aO 2 8] [2] (.ret))
theorem Vc:Ca Tryz.prog 74 9 [(.tmp 2)] Pd:=AJ Tryz.func74
def Bt:CC:=sR [bB .lss 14 3 13 12 3] [0,1,12,13,14] (.seq (cD 14 (.skip) (.exit 0)) (.keep [0,1,12,13] (.seq (.block 1 (sR [mO 15 13,aO 5 15] [0,1,5,12,13] (sR [mO 16 0,mO 17 5,iO 18 22 16 17,lO 19 61 18,mO 20 1,mO 21 5,iO 22 22 20 21,lO 23 61 22,bB .neq 24 61 19 23 61] [0,1,12,13,24] (cD 24 (sR [aB 4 false] [4] (.ret)) (.skip))))) (.keep [0,1,12,13] (.reg [bQ .add 25 3 13 1 3,mO 13 25] [0,1,12,13]))))) 
def D7:CC:=sR [aB 4 false] [0,1] (sQ [mO 6 0,bN 7 6 22,mO 8 1,bN 9 8 22,bB .neq 10 3 7 9 3] [0,1,10] (cD 10 (sR [aB 4 false] [4] (.ret)) (.skip)) [0,1] (sQ [mO 11 0,bN 12 11 22,oO 13 (.move (nI 0))] [0,1,12,13] (.block 0 (.loop Bt)) [] (sR [aB 4 true] [4] (.ret))))
theorem GZ:Ca Tryz.prog 89 26 [(.tmp 4)] D7:=AJ Tryz.func89
def Gx:CC:=sR [bB .lss 50 3 49 48 3] [2,3,48,49,50] (.seq (cD 50 (.skip) (.exit 0)) (.keep [2,3,48,49] (.seq (.block 1 (sR [mO 51 49,aO 5 51] [2,3,5,48,49] (sR [lO 52 25 2,mO 53 5,⟨some 54,(cL 90 #[(xT 52),(xT 53)] #[25,3]),none,[],2,[],true⟩,⟨some 55,(lD 25 3),none,[],3,[2],false⟩,mO 56 5,cB 57 90 55 56 25 3,bB .neq 58 61 54 57 61] [2,3,48,49,58] (cD 58 (sR [aB 4 false] [4] (.ret)) (.skip))))) (.keep [2,3,48,49] (.reg [bQ .add 59 3 49 1 3,mO 49 59] [2,3,48,49])))))
def GC:CC:=sR [bB .lss 68 3 67 66 3] [2,3,66,67,68] (.seq (cD 68 (.skip) (.exit 2)) (.keep [2,3,66,67] (.seq (.block 3 (sR [mO 69 67,aO 6 69] [2,3,6,66,67] (sR [lO 70 25 2,mO 71 6,⟨some 72,(cL 80 #[(xT 70),(xT 71)] #[25,3]),none,[],2,[],true⟩,⟨some 73,(lD 25 3),none,[],3,[2],false⟩,mO 74 6,cB 75 80 73 74 25 3,cB 76 57 72 75 25 25,oO 77 (.unOp .not 4 (xT 76))] [2,3,66,67,77] (cD 77 (sR [aB 4 false] [4] (.ret)) (.skip))))) (.keep [2,3,66,67] (.reg [bQ .add 78 3 67 1 3,mO 67 78] [2,3,66,67])))))
def IK:CC:=sQ [fO 42 25 2 1,lO 43 22 42,bN 44 43 22,fO 45 25 3 1,lO 46 22 45,bN 47 46 22,oO 48 (bC .max #[(xT 44),(xT 47)] #[3,3]),oO 49 (.move (nI 0))] [2,3,48,49] (.block 0 (.loop Gx)) [2,3] (sQ [fO 60 25 2 2,lO 61 23 60,bN 62 61 23,fO 63 25 3 2,lO 64 23 63,bN 65 64 23,oO 66 (bC .max #[(xT 62),(xT 65)] #[3,3]),oO 67 (.move (nI 0))] [2,3,66,67] (.block 2 (.loop GC)) [] (sR [aB 4 true] [4] (.ret))) 
def JD:CC:=sR [bX 2 25 0 [0],bX 3 25 1 [1],aB 4 false] [2,3] (sQ [fO 7 25 2 0,lO 8 3 7,fO 9 25 3 0,lO 10 3 9,bB .neq 11 3 8 10 3,mO 12 11,fG 13 25 2 0 12 false,lG 14 3 13 12 false,oG 15 (.binOp .eql 3 (xT 14) (nI 0) 3) 12 false,pT 16 12 15] [2,3,16] (cD 16 (sR [fO 17 25 2 0,lO 18 3 17,fO 19 25 3 0,lO 20 3 19,bB .eql 21 3 18 20 3,aO 4 21] [4] (.ret)) (.skip)) [2,3] (sQ [fO 22 25 2 0,lO 23 3 22,bQ .neq 24 3 23 1 3,mO 25 24,fG 26 25 2 2 25 true,lG 27 23 26 25 true,oG 28 (bL 27 23) 25 true,fG 29 25 3 2 25 true,lG 30 23 29 25 true,oG 31 (bL 30 23) 25 true,oG 32 (bO .neq 3 28 31 3) 25 true,mG 33 32 25 true,fG 34 25 2 1 33 false,lG 35 22 34 33 false,fG 36 25 3 1 33 false,lG 37 22 36 33 false,oG 38 (cL 89 #[(xT 35),(xT 37)] #[22,22]) 33 false,oG 39 (.unOp .not 4 (xT 38)) 33 false,oG 40 (.pick (xT 33) (nB true) (xT 39)) 25 true,pF 41 25 40] [2,3,41] (cD 41 (sR [aB 4 false] [4] (.ret)) (.skip)) [2,3] (.stop IK)))
theorem NJ:Ca Tryz.prog 57 79 [(.tmp 4)] JD:=AJ Tryz.func57
@[simp] theorem yG:Tryz.prog.underlying 219=some (.slice 157):=by kernel_rfl
@[simp] theorem zK:Tryz.prog.underlying 221=some (.slice 224):=by kernel_rfl
@[simp] theorem xQ:Tryz.prog.underlying 233=some (.slice 235):=by kernel_rfl
@[simp] theorem yM:Tryz.prog.underlying 244=some (.slice 247):=by kernel_rfl
@[simp] theorem xI:Cv Tryz.prog 157=some 1:=by kernel_rfl
@[simp] theorem yq:Cv Tryz.prog 224=some 2:=by kernel_rfl
@[simp] theorem xF:Cv Tryz.prog 235=some 2:=by kernel_rfl
@[simp] theorem zp:Cv Tryz.prog 244=some 1:=by kernel_rfl
@[simp] theorem xy:Cv Tryz.prog 247=some 3:=by kernel_rfl
@[simp] theorem vS:C0 Tryz.prog 157=some false:=by kernel_rfl
@[simp] theorem rR:C0 Tryz.prog 224=some true:=by kernel_rfl
@[simp] theorem tc:C0 Tryz.prog 235=some true:=by kernel_rfl
@[simp] theorem vN:C0 Tryz.prog 244=some false:=by kernel_rfl
@[simp] theorem rV:C0 Tryz.prog 247=some true:=by kernel_rfl
@[simp] theorem qO:A5 Tryz.prog 157=some (Value.slice none 0 0):=by kernel_rfl
@[simp] theorem qg:A5 Tryz.prog 224=some (Value.agg #[Value.int i64 0,Value.int i64 0]):=by kernel_rfl
@[simp] theorem py:A5 Tryz.prog 235=some (Value.agg #[Value.int i64 0,Value.int i64 0]):=by kernel_rfl
@[simp] theorem pk:A5 Tryz.prog 247=some (Value.agg #[Value.int i64 0,Value.int i64 0,Value.int i64 0]):=by kernel_rfl
@[simp] theorem o5:Bb Tryz.prog 157=some 24:=by kernel_rfl
@[simp] theorem ny:Bb Tryz.prog 224=some 16:=by kernel_rfl
@[simp] theorem nt:Bb Tryz.prog 235=some 16:=by kernel_rfl
@[simp] theorem nL:Bb Tryz.prog 247=some 24:=by kernel_rfl
@[simp] theorem aW:Ak Tryz.prog 224 0=some 0:=by kernel_rfl
@[simp] theorem aR:Ak Tryz.prog 224 1=some 1:=by kernel_rfl
@[simp] theorem a9:Ak Tryz.prog 235 0=some 0:=by kernel_rfl
@[simp] theorem a8:Ak Tryz.prog 235 1=some 1:=by kernel_rfl
@[simp] theorem aD:Ak Tryz.prog 247 0=some 0:=by kernel_rfl
@[simp] theorem aV:Ak Tryz.prog 247 1=some 2:=by kernel_rfl
@[simp] theorem m9 (ps:List (Nat × A)):BW Tryz.prog 224 ps=(Cu (fun i=>([(0,1),(1,1)]:List (Nat × Nat))[i]?) [iv 0,iv 0] ps).map A.agg:=by kernel_rfl
@[simp] theorem mf (ps:List (Nat × A)):BW Tryz.prog 235 ps=(Cu (fun i=>([(0,1),(1,1)]:List (Nat × Nat))[i]?) [iv 0,iv 0] ps).map A.agg:=by kernel_rfl
@[simp] theorem oD (ps:List (Nat × A)):BW Tryz.prog 247 ps=(Cu (fun i=>([(0,2),(2,1)]:List (Nat × Nat))[i]?) [iv 0,iv 0,iv 0] ps).map A.agg:=by kernel_rfl
end Go.Proofs.YtlaapfplenlfaaaGreat
namespace Go.PL
structure Sc where
 i:Nat
 j:Nat
 n:Int
 deriving DecidableEq
def sc0:Sc:=⟨0,0,0⟩
end Go.PL
namespace Go.Proofs.YtlaapfplenlfaaaGreat
open Go Go.G Go.Proofs Go.PL
@[simp] theorem sI {a:A}:UK Tryz.prog 242 a=some (.ifc 242 a):=by
 unfold UK;rw[show Tryz.prog.underlying 242=some (.pointer 244) by kernel_rfl]
@[simp] theorem Aat {a:A}:UK Tryz.prog 247 a=some (.ifc 247 a):=by
 unfold UK;rw[show Tryz.prog.underlying 247=some (.struct (Tryz.prog.fieldsOf 247)) by kernel_rfl]
@[simp] theorem qz {a:A}:JI Tryz.prog 247 false (.ifc 247 a)=some a:=by
 simp only[JI,if_true];rw[show Tryz.prog.underlying 247=some (.struct (Tryz.prog.fieldsOf 247)) by kernel_rfl];rfl
end Go.Proofs.YtlaapfplenlfaaaGreat
namespace Go.Proofs.YtlaapfplenlfaaaGreat
set_option maxRecDepth 20000
open Go Go.G Go.Proofs
@[simp] theorem AbR:Tryz.prog.underlying 9=some .string:=by kernel_rfl
@[simp] theorem xL:Tryz.prog.underlying 169=some (.int .u64):=by kernel_rfl
@[simp] theorem xh:Tryz.prog.underlying 267=some (.int .i64):=by kernel_rfl
@[simp] theorem zq:Tryz.prog.underlying 274=some (.int .u32):=by kernel_rfl
@[simp] theorem yT:Tryz.prog.underlying 276=some (.int .u64):=by kernel_rfl
@[simp] theorem yd:Cv Tryz.prog 276=some 1:=by kernel_rfl
@[simp] theorem vl:C0 Tryz.prog 276=some false:=by kernel_rfl
@[simp] theorem rl:A5 Tryz.prog 276=some (Value.int u64 0):=by kernel_rfl
end Go.Proofs.YtlaapfplenlfaaaGreat
namespace Go.Proofs.YtlaapfplenlfaaaGreat
open Go Go.G Go.Proofs Go.PL
instance:Inhabited Sc:=⟨sc0⟩
variable {n0:Nat} {w0:World} {I0:Nat→Prop} {M0:Nm→Nat→Prop} {m0:Mu} {Q:Exit→Sta→Prop} {v:Nat}
end Go.Proofs.YtlaapfplenlfaaaGreat
namespace Go.Proofs.YtlaapfplenlfaaaGreat
set_option maxRecDepth 20000
open Go Go.G Go.Proofs
@[simp] theorem zL:Tryz.prog.underlying 159=some (.slice 164):=by kernel_rfl
@[simp] theorem xz:Tryz.prog.underlying 187=some (.slice 190):=by kernel_rfl
@[simp] theorem yc:Tryz.prog.underlying 209=some (.array 3 3):=by kernel_rfl
@[simp] theorem xS:Cv Tryz.prog 159=some 1:=by kernel_rfl
@[simp] theorem xB:Cv Tryz.prog 164=some 2:=by kernel_rfl
@[simp] theorem yY:Cv Tryz.prog 190=some 2:=by kernel_rfl
@[simp] theorem u9:C0 Tryz.prog 159=some false:=by kernel_rfl
@[simp] theorem rY:C0 Tryz.prog 164=some true:=by kernel_rfl
@[simp] theorem rS:C0 Tryz.prog 190=some true:=by kernel_rfl
@[simp] theorem qR:A5 Tryz.prog 159=some (Value.slice none 0 0):=by kernel_rfl
@[simp] theorem p7:A5 Tryz.prog 164=some (Value.agg #[Value.int i64 0,Value.int i64 0]):=by kernel_rfl
@[simp] theorem rn:A5 Tryz.prog 190=some (Value.agg #[Value.int i64 0,Value.int i64 0]):=by kernel_rfl
@[simp] theorem pG:A5 Tryz.prog 209=some (Value.agg #[Value.int i64 0,Value.int i64 0,Value.int i64 0]):=by kernel_rfl
@[simp] theorem lx:Bb Tryz.prog 164=some 16:=by kernel_rfl
@[simp] theorem nQ:Bb Tryz.prog 190=some 16:=by kernel_rfl
@[simp] theorem ah:Ak Tryz.prog 164 0=some 0:=by kernel_rfl
@[simp] theorem bf:Ak Tryz.prog 164 1=some 1:=by kernel_rfl
@[simp] theorem aH:Ak Tryz.prog 190 0=some 0:=by kernel_rfl
@[simp] theorem aM:Ak Tryz.prog 190 1=some 1:=by kernel_rfl
@[simp] theorem ax:Ak Tryz.prog 207 0=some 0:=by kernel_rfl
@[simp] theorem oB (ps:List (Nat × A)):BW Tryz.prog 164 ps=(Cu (fun i=>([(0,1),(1,1)]:List (Nat × Nat))[i]?) [iv 0,iv 0] ps).map A.agg:=by kernel_rfl
@[simp] theorem oh (ps:List (Nat × A)):BW Tryz.prog 190 ps=(Cu (fun i=>([(0,1),(1,1)]:List (Nat × Nat))[i]?) [iv 0,iv 0] ps).map A.agg:=by kernel_rfl
@[simp] theorem nr (ps:List (Nat × A)):BW Tryz.prog 207 ps=(Cu (fun i=>([(0,1)]:List (Nat × Nat))[i]?) [A.sl true []] ps).map A.agg:=by kernel_rfl
end Go.Proofs.YtlaapfplenlfaaaGreat
namespace Go.PL
open List
structure Sp where
 k:Nat
 n:Nat
 deriving DecidableEq
def Sp.ok (s:Sp):Prop:=s.k≤2∧1≤s.n∧s.n≤1048576
def fl (k n:Nat):List Sp:=if n=0 then [] else [⟨k,n⟩]
@[simp] theorem xN (k:Nat):fl k 0=[]:=rfl
end Go.PL
namespace Go.Proofs.YtlaapfplenlfaaaGreat
open Go Go.G Go.Proofs Go.PL
variable {n0:Nat} {w0:World} {I0:Nat→Prop} {Q:Exit→Sta→Prop}
theorem SY {α:Type} {f:α→A} (h:∀ x,(f x).cells=[f x]) (l:List α):(l.map f).flatMap A.cells=l.map f:=by
 induction l with
 |nil=>rfl
 |cons x l ih=>simp[ih,h]
end Go.Proofs.YtlaapfplenlfaaaGreat
namespace Go.PL
open Go
def P2 (list:Int) (e:E):Bool:=decide (e.kind=0) || (decide (list=9)&&decide (e.kind=2)&&e.words.isEmpty&&e.kids.isEmpty)
def vL (g:List T):List OP:=if g=[] then [] else [.mk 1 0 g E0]
def JU (b:List T):List OP:=if b=[] then [] else [.mk 2 0 b E0]
def ld (out:List OP) (g b:List T):List OP:=out++(vL g++JU b)
def jS (out:List OP) (n:Int):List OP:=match out.getLast? with
 |some (.mk 0 m l e)=>out.dropLast++[.mk 0 (i64.wrap (m+n)) l e]
 |_=>out++[.mk 0 n [] E0]
def Ow (list:Int):List OP→List OP→List T→List T→List OP
 |[],out,g,b=>ld out g b
 |o::os,out,g,b=>
  if o.kind=0 then Ow list os (jS (ld out g b) o.n) [] []
  else if o.kind=1 then Ow list os out (g++o.l.map Af) b
  else if o.kind=2 then Ow list os out g (b++o.l.map Af)
  else if P2 list o.e=true then Ow list os (jS (ld out g b) 1) [] []
  else Ow list os (ld out g b++[.mk 3 0 [] o.e]) [] []
mutual
def Un:E→E
 |.mk k o n ws ks l os=>if k=1 then .mk 1 (Af o) (Af n) [] [] 0 [] else if k=2 then .mk 2 T0 T0 ws (dA ks) 0 [] else if k=3 then .mk 3 T0 T0 [] [] l (Ow l (eQ os) [] [] []) else E0
def dA:List KE→List KE
 |[]=>[]
 |.mk a e::l=>.mk a (Un e)::dA l
def eQ:List OP→List OP
 |[]=>[]
 |.mk k n t e::l=>.mk k n t (Un e)::eQ l
end
def ik (x:KE):KE:=.mk x.at_ (Un x.e)
def gj (x:OP):OP:=.mk x.kind x.n x.l (Un x.e)
theorem VV:∀ l,dA l=l.map ik
 |[]=>by simp[dA]
 |.mk a e::l=>by rw[dA,VV l];rfl
theorem Vx:∀ l,eQ l=l.map gj
 |[]=>by simp[eQ]
 |.mk k n t e::l=>by rw[eQ,Vx l];rfl
theorem Xa (k:Int) (o n:T) (ws:List WE) (ks:List KE) (l:Int) (os:List OP):Un (.mk k o n ws ks l os)=if k=1 then .mk 1 (Af o) (Af n) [] [] 0 [] else if k=2 then .mk 2 T0 T0 ws (ks.map ik) 0 [] else if k=3 then .mk 3 T0 T0 [] [] l (Ow l (os.map gj) [] [] []) else E0:=by
 rw[Un,VV,Vx]
end Go.PL
namespace Go.Proofs.YtlaapfplenlfaaaGreat
set_option maxRecDepth 20000
open Go Go.G Go.Proofs
@[simp] theorem wU:A5 Tryz.prog 30=some (Value.agg #[Value.int i64 0,Value.int i64 0,Value.slice none 0 0,Value.slice none 0 0,Value.int i64 0,Value.slice none 0 0,Value.slice none 0 0,Value.slice none 0 0,Value.slice none 0 0,Value.int i64 0,Value.slice none 0 0]):=by kernel_rfl
@[simp] theorem au:Ak Tryz.prog 148 0=some 0:=by kernel_rfl
@[simp] theorem bh:Ak Tryz.prog 148 1=some 1:=by kernel_rfl
@[simp] theorem aj:Ak Tryz.prog 148 2=some 2:=by kernel_rfl
@[simp] theorem bd:Ak Tryz.prog 156 0=some 0:=by kernel_rfl
@[simp] theorem qx (ps:List (Nat × A)):BW Tryz.prog 30 ps=(Cu (fun i=>([(0,1),(1,3),(4,3),(7,1),(8,1),(9,1),(10,1)]:List (Nat × Nat))[i]?) [iv 0,iv 0,A.sl true [],A.sl true [],iv 0,A.sl true [],A.sl true [],A.sl true [],A.sl true [],iv 0,A.sl true []] ps).map A.agg:=by kernel_rfl
@[simp] theorem qK (ps:List (Nat × A)):BW Tryz.prog 85 ps=(Cu (fun i=>([(0,1),(1,1),(2,1),(3,1)]:List (Nat × Nat))[i]?) [iv 0,A.v (Value.int IntKind.u8 0),A.v (Value.int u64 0),A.v (Value.int u64 0)] ps).map A.agg:=by kernel_rfl
@[simp] theorem pB (ps:List (Nat × A)):BW Tryz.prog 88 ps=(Cu (fun i=>([(0,1),(1,11)]:List (Nat × Nat))[i]?) [iv 0,iv 0,iv 0,A.sl true [],A.sl true [],iv 0,A.sl true [],A.sl true [],A.sl true [],A.sl true [],iv 0,A.sl true []] ps).map A.agg:=by kernel_rfl
@[simp] theorem pS (ps:List (Nat × A)):BW Tryz.prog 91 ps=(Cu (fun i=>([(0,1),(1,1),(2,1),(3,11)]:List (Nat × Nat))[i]?) [iv 0,iv 0,A.sl true [],iv 0,iv 0,A.sl true [],A.sl true [],iv 0,A.sl true [],A.sl true [],A.sl true [],A.sl true [],iv 0,A.sl true []] ps).map A.agg:=by kernel_rfl
@[simp] theorem mJ (ps:List (Nat × A)):BW Tryz.prog 148 ps=(Cu (fun i=>([(0,1),(1,1),(2,1)]:List (Nat × Nat))[i]?) [A.sl true [],A.sl true [],A.sl true []] ps).map A.agg:=by kernel_rfl
@[simp] theorem mr (ps:List (Nat × A)):BW Tryz.prog 156 ps=(Cu (fun i=>([(0,1)]:List (Nat × Nat))[i]?) [A.sl true []] ps).map A.agg:=by kernel_rfl
def Gv:CC:=sR [bQ .lss 6 3 5 8 3] [0,2,3,5,6] (.seq (cD 6 (.skip) (.exit 0)) (.keep [0,2,3,5] (.seq (.block 1 (sR [mO 7 5,aO 4 7] [0,2,3,4,5] (.reg [mO 8 4,mO 9 0,mO 10 4,oO 11 (.binOp .mul 3 (nI 8) (xT 10) 3),bB .shr 12 61 9 11 3,oO 13 (.convert 61 5 (xT 12)),iO 14 170 3 8,sT 5 14 13] [0,2,3,5]))) (.reg [bQ .add 15 3 5 1 3,mO 5 15] [0,2,3,5])))) 
def Nh:CC:=sR [aL 2 170 [0]] [0,2] (sR [aL 3 170 [1]] [0,2,3] (sQ [oO 5 (.move (nI 0))] [0,2,3,5] (.block 0 (.loop Gv)) [2,3] (sR [lO 16 170 3,sT 170 2 16] [2] (.ret))))
theorem TQ:Ca Tryz.prog 178 17 [(.cell 2 170)] Nh:=AJ Tryz.func178
def FF:CC:=sR [bQ .lss 13 3 12 8 3] [5,11,12,13] (.seq (cD 13 (.skip) (.exit 0)) (.keep [5,11,12] (.seq (.block 1 (sR [mO 14 12,oO 15 (.index 170 (xT 11) (xT 12)),aO 6 14,aO 7 15] [5,6,7,11,12] (sR [mO 16 7,oO 17 (.binOp .neq 5 (xT 16) (.const (.int .u8 0)) 5)] [5,6,11,12,17] (cD 17 (.reg [mO 18 5,mO 19 6,oO 20 (.binOp .shl 5 (.const (.int .u8 1)) (xT 19) 3),bB .or 21 5 18 20 5,aO 5 21] [5,11,12]) (.skip))))) (.keep [5,11,12] (.reg [bQ .add 22 3 12 1 3,mO 12 22] [5,11,12]))))) 
def LC:CC:=sR [oO 4 (.assign (.const (.int .u8 0)))] [0,1] (sR [oO 5 (.assign (.const (.int .u8 0)))] [0,1,5] (sQ [mO 8 0,mO 9 1,bB .xor 10 61 8 9 61,cA 11 178 10 61,oO 12 (.move (nI 0))] [5,11,12] (.block 0 (.loop FF)) [5] (sR [mO 23 5,aO 4 23] [4] (.ret))))
theorem RX:Ca Tryz.prog 155 24 [(.tmp 4)] LC:=AJ Tryz.func155
def LO:CC:=sR [bX 3 30 1 [0],aB 4 false] [0,3] (sR [fO 5 30 3 0,lO 6 3 5,bQ .eql 7 3 6 0 3,mO 8 7,mG 9 0 8 false,oG 10 (.binOp .eql 3 (xT 9) (nI 9) 3) 8 false,mG 11 10 8 false,fG 12 30 3 0 11 true,lG 13 3 12 11 true,oG 14 (.binOp .eql 3 (xT 13) (nI 2) 3) 11 true,oG 15 (.pick (xT 11) (xT 14) (nB false)) 8 false,mG 16 15 8 false,fG 17 30 3 3 16 true,lG 18 26 17 16 true,oG 19 (bL 18 26) 16 true,fG 20 30 3 4 16 true,lG 21 27 20 16 true,oG 22 (bL 21 27) 16 true,oG 23 (bO .add 3 19 22 3) 16 true,oG 24 (.binOp .eql 3 (xT 23) (nI 0) 3) 16 true,oG 25 (.pick (xT 16) (xT 24) (nB false)) 8 false,pT 26 8 25,aO 4 26] [4] (.ret))
theorem RH:Ca Tryz.prog 117 27 [(.tmp 4)] LO:=AJ Tryz.func117
def FM:CC:=sR [bB .lss 9 3 8 7 3] [0,6,7,8,9] (.seq (cD 9 (.skip) (.exit 0)) (.keep [0,6,7,8] (.seq (.block 1 (sR [iO 10 23 6 8,lO 11 25 10,aL 5 25 [1],sT 25 5 11] [0,5,6,7,8] (.reg [mO 12 0,nC 13 12,lS 14 23 13 2,lS 15 25 5 3,⟨some 16,(cL 35 #[(xT 15)] #[25]),none,[],4,[2],true⟩,bN 17 14 23,⟨some 18,(.buildSlice 23 1 #[(0,(.const (.agg #[(.int .i64 0),(.slice none 0 0),(.slice none 0 0)])))]),none,[],6,[2,3,4],false⟩,aP 19 14 18 23 23 [2],iO 20 23 19 17,⟨none,(.store 25 (xT 20) (xT 16)),none,[],9,[],true⟩,nC 21 12,⟨none,(.store 23 (xT 21) (xT 19)),none,[],11,[9],false⟩] [0,6,7,8]))) (.reg [bQ .add 22 3 8 1 3,mO 8 22] [0,6,7,8])))) 
def IM:CC:=sR [mO 6 1,bN 7 6 23,oO 8 (.move (nI 0))] [0,6,7,8] (.block 0 (.loop FM))
theorem LZ:Ca Tryz.prog 116 23 [] IM:=AJ Tryz.func116
def BQ:CC:=sQ [mO 23 0,nC 24 23,fO 25 148 24 2,lO 26 23 25,bN 27 26 23,bQ .gtr 28 3 27 0 3] [0,28] (cD 28 (.reg [mO 29 0,nC 30 29,fO 31 148 30 0,lS 32 28 31 3,mO 33 0,nC 34 33,fO 35 148 34 2,lS 36 23 35 7,oO 37 (.build 91 #[(0,(nI 2)),(2,(xT 36))]),bN 38 32 28,⟨some 39,(.buildSlice 28 1 #[(0,(.const (.agg #[(.int .i64 0),(.int .i64 0),(.slice none 0 0),(.int .i64 0),(.int .i64 0),(.slice none 0 0),(.slice none 0 0),(.int .i64 0),(.slice none 0 0),(.slice none 0 0),(.slice none 0 0),(.slice none 0 0),(.int .i64 0),(.slice none 0 0)])))]),none,[],10,[3,7],false⟩,aP 40 32 39 28 28 [2],iO 41 28 40 38,⟨none,(.store 91 (xT 41) (xT 37)),none,[],13,[],true⟩,nC 42 29,fO 43 148 42 0,⟨none,(.store 28 (xT 43) (xT 40)),none,[],16,[13],false⟩] [0]) (.skip)) [0] (.reg [mO 44 0,mO 45 0,nC 46 44,fO 47 148 46 1,oS (.store 23 (xT 47) nS),nC 48 45,fO 49 148 48 2,oS (.store 23 (xT 49) nS)] []) 
def Gg:CC:=sQ [mO 2 0,nC 3 2,fO 4 148 3 1,lO 5 23 4,bN 6 5 23,bQ .gtr 7 3 6 0 3] [0,7] (cD 7 (.reg [mO 8 0,nC 9 8,fO 10 148 9 0,lS 11 28 10 3,mO 12 0,nC 13 12,fO 14 148 13 1,lS 15 23 14 7,oO 16 (.build 91 #[(0,(nI 1)),(2,(xT 15))]),bN 17 11 28,⟨some 18,(.buildSlice 28 1 #[(0,(.const (.agg #[(.int .i64 0),(.int .i64 0),(.slice none 0 0),(.int .i64 0),(.int .i64 0),(.slice none 0 0),(.slice none 0 0),(.int .i64 0),(.slice none 0 0),(.slice none 0 0),(.slice none 0 0),(.slice none 0 0),(.int .i64 0),(.slice none 0 0)])))]),none,[],10,[3,7],false⟩,aP 19 11 18 28 28 [1],iO 20 28 19 17,⟨none,(.store 91 (xT 20) (xT 16)),none,[],13,[],true⟩,nC 21 8,fO 22 148 21 0,⟨none,(.store 28 (xT 22) (xT 19)),none,[],16,[13],false⟩] [0]) (.skip)) [0] BQ
theorem J6:Ca Tryz.prog 118 50 [] Gg:=AJ Tryz.func118
def EA:CC:=sR [mO 5 0,cA 6 118 5 146] [0,1] (sQ [mO 7 0,nC 8 7,fO 9 148 8 0,lO 10 28 9,bN 11 10 28,bQ .sub 12 3 11 1 3,aO 4 12] [0,1,4] (sR [mO 13 4,bQ .geq 14 3 13 0 3,mO 15 14,mG 16 0 15 true,oG 17 (.nilCheck (xT 16)) 15 true,fG 18 148 17 0 15 true,lG 19 28 18 15 true,mG 20 4 15 true,oG 21 (iA 28 19 20) 15 true,fG 22 91 21 0 15 true,lG 23 3 22 15 true,oG 24 (.binOp .eql 3 (xT 23) (nI 0) 3) 15 true,pF 25 15 24] [0,1,4,25] (cD 25 (sR [mO 26 0,nC 27 26,fO 28 148 27 0,lO 29 28 28,mO 30 4,iO 31 28 29 30,fO 32 91 31 1,lO 33 3 32,mO 34 1,bB .add 35 3 33 34 3,iO 36 28 29 30,fO 37 91 36 1,sT 3 37 35] [] (.ret)) (.skip))) [0,1] (.reg [mO 38 0,nC 39 38,fO 40 148 39 0,lS 41 28 40 3,mO 42 1,oO 43 (.build 91 #[(0,(nI 0)),(1,(xT 42))]),bN 44 41 28,⟨some 45,(.buildSlice 28 1 #[(0,(.const (.agg #[(.int .i64 0),(.int .i64 0),(.slice none 0 0),(.int .i64 0),(.int .i64 0),(.slice none 0 0),(.slice none 0 0),(.int .i64 0),(.slice none 0 0),(.slice none 0 0),(.slice none 0 0),(.slice none 0 0),(.int .i64 0),(.slice none 0 0)])))]),none,[],7,[3],false⟩,aP 46 41 45 28 28 [1],iO 47 28 46 44,⟨none,(.store 91 (xT 47) (xT 43)),none,[],10,[],true⟩,nC 48 38,fO 49 148 48 0,⟨none,(.store 28 (xT 49) (xT 46)),none,[],13,[10],false⟩] []))
theorem GW:Ca Tryz.prog 115 50 [] EA:=AJ Tryz.func115
def E5:CC:=sR [bB .lss 14 3 13 12 3] [0,5,11,12,13,14] (.seq (cD 14 (.skip) (.exit 0)) (.keep [0,5,11,12,13] (.seq (.block 1 (sR [iO 15 28 11 13,lO 16 91 15,aL 7 91 [1],sT 91 7 16] [0,5,7,11,12,13] (sR [fO 17 91 7 0,lO 18 3 17] [0,5,7,11,12,13,18] (.block 2 (sR [bQ .eql 20 3 18 0 3,aO 19 20] [0,5,7,11,12,13,18,19] (cD 19 (.reg [mO 21 5,fO 22 91 7 1,lO 23 3 22,cB 24 115 21 23 146 3] [0,5,11,12,13]) (sR [bQ .eql 26 3 18 1 3,aO 25 26] [0,5,7,11,12,13,18,25] (cD 25 (.reg [mO 27 5,nC 28 27,fO 29 148 28 1,fO 30 91 7 2,lO 31 23 30,cB 32 116 29 31 151 23] [0,5,11,12,13]) (sR [bQ .eql 34 3 18 2 3,aO 33 34] [0,5,7,11,12,13,18,33] (cD 33 (.reg [mO 35 5,nC 36 35,fO 37 148 36 2,fO 38 91 7 2,lO 39 23 38,cB 40 116 37 39 151 23] [0,5,11,12,13]) (sR [bQ .eql 42 3 18 3 3,aO 41 42] [0,5,7,11,12,13,41] (cD 41 (sR [fO 43 91 7 3,lO 44 30 43,cA 45 43 44 30,aL 8 30 [2],sT 30 8 45] [0,5,8,11,12,13] (sR [mO 46 0,lO 47 30 8,cB 48 117 46 47 3 30] [0,5,8,11,12,13,48] (cD 48 (.reg [mO 49 5,oO 50 (cL 115 #[(xT 49),(nI 1)] #[146,3])] [0,5,11,12,13]) (sR [mO 51 5,cA 52 118 51 146] [0,5,8,11,12,13] (.reg [mO 53 5,nC 54 53,fO 55 148 54 0,lS 56 28 55 3,lS 57 30 8 4,oO 58 (.build 91 #[(0,(nI 3)),(3,(xT 57))]),bN 59 56 28,⟨some 60,(.buildSlice 28 1 #[(0,(.const (.agg #[(.int .i64 0),(.int .i64 0),(.slice none 0 0),(.int .i64 0),(.int .i64 0),(.slice none 0 0),(.slice none 0 0),(.int .i64 0),(.slice none 0 0),(.slice none 0 0),(.slice none 0 0),(.slice none 0 0),(.int .i64 0),(.slice none 0 0)])))]),none,[],7,[3,4],false⟩,aP 61 56 60 28 28 [3],iO 62 28 61 59,⟨none,(.store 91 (xT 62) (xT 58)),none,[],10,[],true⟩,nC 63 53,fO 64 148 63 0,⟨none,(.store 28 (xT 64) (xT 61)),none,[],13,[10],false⟩] [0,5,11,12,13]))))) (.skip))))))))))))) (.keep [0,5,11,12,13] (.reg [bQ .add 65 3 13 1 3,mO 13 65] [0,5,11,12,13]))))) 
def Nj:CC:=sR [aN 4] [0,1] (sR [oO 9 (.build 148 #[]),bX 10 148 9 [0],aO 5 10] [0,1,5] (sQ [mO 11 1,bN 12 11 28,oO 13 (.move (nI 0))] [0,5,11,12,13] (.block 0 (.loop E5)) [5] (sR [mO 66 5,cA 67 118 66 146] [5] (sR [mO 68 5,nC 69 68,fO 70 148 69 0,lO 71 28 70,aO 4 71] [4] (.ret)))))
theorem Tv:Ca Tryz.prog 72 72 [(.tmp 4)] Nj:=AJ Tryz.func72
def FJ:CC:=sR [bB .lss 35 3 34 33 3] [2,3,32,33,34,35] (.seq (cD 35 (.skip) (.exit 1)) (.keep [2,3,32,33,34] (.seq (.block 2 (sR [iO 36 27 32 34,lO 37 88 36,aL 5 88 [4],sT 88 5 37] [2,3,5,32,33,34] (.reg [fO 38 30 3 4,lS 39 27 38 1,fO 40 88 5 0,lS 41 3 40 3,fO 42 88 5 1,lO 43 30 42,⟨some 44,(cL 43 #[(xT 43)] #[30]),none,[],6,[1,3],false⟩,oO 45 (.build 88 #[(0,(xT 41)),(1,(xT 44))]),⟨some 46,(.buildSlice 27 1 #[(0,(xT 45))]),none,[],8,[1],false⟩,aP 47 39 46 27 27 [5],fO 48 30 3 4,sT 27 48 47] [2,3,32,33,34]))) (.reg [bQ .add 49 3 34 1 3,mO 34 49] [2,3,32,33,34])))) 
def LN:CC:=sR [bX 1 30 0 [0],aL 2 30 [1]] [1,2] (sR [fO 6 30 1 0,lO 7 3 6,fO 8 30 1 5,lO 9 3 8,oO 10 (.build 30 #[(0,(xT 7)),(5,(xT 9))]),aL 3 30 [2],sT 30 3 10] [1,2,3] (sQ [fO 11 30 1 0,lO 12 3 11] [1,2,3,12] (.block 0 (sR [bQ .eql 14 3 12 1 3,aO 13 14] [1,2,3,12,13] (cD 13 (.reg [fO 15 30 1 1,lO 16 25 15,⟨some 17,(cL 35 #[(xT 16)] #[25]),none,[],2,[],true⟩,fO 18 30 1 2,⟨some 19,(lD 25 18),none,[],4,[2],false⟩,cA 20 35 19 25,fO 21 30 3 1,sT 25 21 17,fO 22 30 3 2,sT 25 22 20] [2,3]) (sR [bQ .eql 24 3 12 2 3,aO 23 24] [1,2,3,12,23] (cD 23 (sR [fO 25 30 3 3,lO 26 26 25,fO 27 30 1 3,lO 28 26 27,aP 29 26 28 26 26 [3],fO 30 30 3 3,sT 26 30 29] [1,2,3] (sR [fO 31 30 1 4,lO 32 27 31,bN 33 32 27,oO 34 (.move (nI 0))] [2,3,32,33,34] (.block 1 (.loop FJ)))) (sR [bQ .eql 51 3 12 3 3,aO 50 51] [1,2,3,50] (cD 50 (.reg [fO 52 30 1 5,lO 53 3 52,fO 54 30 1 6,lO 55 28 54,cB 56 72 53 55 3 28,fO 57 30 3 6,sT 28 57 56] [2,3]) (.skip)))))))) [2,3] (sR [lO 58 30 3,sT 30 2 58] [2] (.ret))))
theorem RZ:Ca Tryz.prog 43 59 [(.cell 2 30)] LN:=AJ Tryz.func43
def OQ:CC:=sR [aL 6 85 [0],aB 7 false] [0,1,2,6] (sR [mO 9 1,mO 10 2,cB 11 155 9 10 61 61,aO 8 11] [0,1,2,6,8] (sQ [mO 12 8,oO 13 (.binOp .eql 5 (xT 12) (.const (.int .u8 0)) 5)] [0,1,2,6,8,13] (cD 13 (sR [oO 14 (.build 85 #[]),sT 85 6 14,aB 7 false] [6,7] (.ret)) (.skip)) [0,1,2,6,8] (sR [mO 15 0,mO 16 8,mO 17 1,mO 18 8,oO 19 (cL 125 #[(.const (.int .u64 0)),(xT 17),(xT 18)] #[61,61,5]),mO 20 2,mO 21 8,oO 22 (cL 125 #[(.const (.int .u64 0)),(xT 20),(xT 21)] #[61,61,5]),oO 23 (.build 85 #[(0,(xT 15)),(1,(xT 16)),(2,(xT 19)),(3,(xT 22))]),sT 85 6 23,aB 7 true] [6,7] (.ret))))
theorem UH:Ca Tryz.prog 119 24 [(.cell 6 85),(.tmp 7)] OQ:=AJ Tryz.func119
def Er:CC:=sR [bB .lss 22 3 21 20 3] [2,3,4,6,7,20,21,22] (.seq (cD 22 (.skip) (.exit 0)) (.keep [2,3,4,6,7,20,21] (.seq (.block 1 (sR [mO 23 21,aO 8 23] [2,3,4,6,7,8,20,21] (sR [mO 25 8,lS 26 25 3 1,mO 27 8,⟨some 28,(cL 90 #[(xT 26),(xT 27)] #[25,3]),none,[],3,[],true⟩,⟨some 29,(lD 25 4),none,[],4,[3],true⟩,mO 30 8,⟨some 31,(cL 90 #[(xT 29),(xT 30)] #[25,3]),none,[],6,[],true⟩,⟨some 32,(cL 119 #[(xT 25),(xT 28),(xT 31)] #[3,61,61]),none,[],7,[],true⟩,mO 24 32,xO 33 24 0,xO 34 24 1,⟨some 9,(.alloc 85),none,[4],11,[1,3,4,6,7],false⟩,sT 85 9 33,aO 10 34] [2,3,4,6,7,9,10,20,21] (sR [mO 35 10] [2,3,4,6,7,9,20,21,35] (cD 35 (.reg [fO 36 30 7 3,lO 37 26 36,lO 38 85 9,oO 39 (.buildSlice 26 1 #[(0,(xT 38))]),aP 40 37 39 26 26 [5],fO 41 30 7 3,sT 26 41 40] [2,3,4,6,7,20,21]) (.skip)))))) (.keep [2,3,4,6,7,20,21] (.reg [bQ .add 42 3 21 1 3,mO 21 42] [2,3,4,6,7,20,21])))))
def Ew:CC:=sR [bB .lss 51 3 50 49 3] [2,3,4,6,7,49,50,51] (.seq (cD 51 (.skip) (.exit 2)) (.keep [2,3,4,6,7,49,50] (.seq (.block 3 (sR [mO 52 50,aO 11 52] [2,3,4,6,7,11,49,50] (sR [lS 53 25 3 0,mO 54 11,⟨some 55,(cL 80 #[(xT 53),(xT 54)] #[25,3]),none,[],2,[],true⟩,⟨some 56,(lD 25 4),none,[],3,[2],true⟩,mO 57 11,⟨some 58,(cL 80 #[(xT 56),(xT 57)] #[25,3]),none,[],5,[],true⟩,mO 59 2,⟨some 60,(cL 44 #[(xT 55),(xT 58),(xT 59)] #[25,25,3]),none,[],7,[],true⟩,⟨some 12,(.alloc 30),none,[6],8,[0,2,3,5,7],false⟩,sT 30 12 60] [2,3,4,6,7,11,12,49,50] (sR [fO 61 30 12 0,lO 62 3 61,bQ .neq 63 3 62 0 3] [2,3,4,6,7,11,12,49,50,63] (cD 63 (.reg [fO 64 30 7 4,lO 65 27 64,mO 66 11,lO 67 30 12,oO 68 (.build 88 #[(0,(xT 66)),(1,(xT 67))]),oO 69 (.buildSlice 27 1 #[(0,(xT 68))]),aP 70 65 69 27 27 [7],fO 71 30 7 4,sT 27 71 70] [2,3,4,6,7,49,50]) (.skip)))))) (.keep [2,3,4,6,7,49,50] (.reg [bQ .add 72 3 50 1 3,mO 50 72] [2,3,4,6,7,49,50]))))) 
def Jj:CC:=sR [bX 3 25 0 [0],bX 4 25 1 [1],aL 6 30 [2]] [2,3,4,6] (sR [oO 13 (.build 30 #[(0,(nI 2))]),aL 7 30 [3],sT 30 7 13] [2,3,4,6,7] (sQ [fO 14 25 3 1,lO 15 22 14,bN 16 15 22,fO 17 25 4 1,lO 18 22 17,bN 19 18 22,oO 20 (bC .max #[(xT 16),(xT 19)] #[3,3]),oO 21 (.move (nI 0))] [2,3,4,6,7,20,21] (.block 0 (.loop Er)) [2,3,4,6,7] (sQ [fO 43 25 3 2,lO 44 23 43,bN 45 44 23,fO 46 25 4 2,lO 47 23 46,bN 48 47 23,oO 49 (bC .max #[(xT 45),(xT 48)] #[3,3]),oO 50 (.move (nI 0))] [2,3,4,6,7,49,50] (.block 2 (.loop Ew)) [6,7] (sR [lO 73 30 7,sT 30 6 73] [6] (.ret)))))
theorem N8:Ca Tryz.prog 73 74 [(.cell 6 30)] Jj:=AJ Tryz.func73
def P5:CC:=sR [bX 3 25 0 [0],bX 4 25 1 [1],aL 6 30 [2]] [2,3,4,6] (.seq (.block 0 (sR [lO 8 25 3,lO 9 25 4,cB 10 57 8 9 25 25,aO 7 10] [2,3,4,6,7] (cD 7 (sR [oO 11 (.build 30 #[]),sT 30 6 11] [6] (.ret)) (sR [fO 13 25 3 0,lO 14 3 13,bQ .eql 15 3 14 1 3,mO 16 15,fG 17 25 4 0 16 true,lG 18 3 17 16 true,oG 19 (.binOp .eql 3 (xT 18) (nI 1) 3) 16 true,pF 20 16 19,aO 12 20] [2,3,4,6,12] (cD 12 (sR [lO 21 25 3,lO 22 25 4,mO 23 2,cE 24 73 21 22 23 25 25 3,sT 30 6 24] [6] (.ret)) (sR [fO 26 25 3 0,lO 27 3 26,fO 28 25 4 0,lO 29 3 28,bB .eql 30 3 27 29 3,mO 31 30,fG 32 25 3 0 31 true,lG 33 3 32 31 true,oG 34 (cL 74 #[(xT 33)] #[3]) 31 true,pF 35 31 34,aO 25 35] [2,3,4,6,25] (cD 25 (sR [lO 36 25 3,lO 37 25 4,mO 38 2,cE 39 75 36 37 38 25 25 3,sT 30 6 39] [6] (.ret)) (.skip)))))))) (.keep [3,4,6] (sR [lO 40 25 3,lO 41 25 4,oO 42 (.build 30 #[(0,(nI 1)),(1,(xT 40)),(2,(xT 41))]),sT 30 6 42] [6] (.ret))))
theorem Xc:Ca Tryz.prog 44 43 [(.cell 6 30)] P5:=AJ Tryz.func44
def MW:CC:=sR [bX 3 25 0 [0],bX 4 25 1 [1],aL 6 30 [2]] [2,3,4,6] (sR [lO 7 25 3,⟨some 8,(cL 35 #[(xT 7)] #[25]),none,[],1,[],true⟩,⟨some 9,(lD 25 4),none,[],2,[1],false⟩,cA 10 35 9 25,mO 11 2,cE 12 44 8 10 11 25 25 3,cA 13 43 12 30,sT 30 6 13] [6] (.ret))
theorem TB:Ca Tryz.prog 24 14 [(.cell 6 30)] MW:=AJ Tryz.func24
end Go.Proofs.YtlaapfplenlfaaaGreat
namespace Go.Proofs.YtlaapfplenlfaaaGreat
open Go Go.G Go.Proofs Go.PL
theorem cJ:∀ i:Fin 8,∀ m:Fin 256,m.val<2 ^ i.val→bits .or .u8 (m.val:Int) ((2 ^ i.val:Nat):Int)=(m.val:Int)+((2 ^ i.val:Nat):Int):=by decide +kernel
def Bg (x:Int) (i:Nat):Int:=x / 256 ^ i % 256
def F8 (a b:Int):Nat→Nat
 |0=>0
 |k+1=>F8 a b k+(if Bg a k ≠ Bg b k then 2 ^ k else 0)
def Dw (a b:Int):Int:=(F8 a b 8:Nat)
theorem PZ (a b:Int):∀ k,F8 a b k<2 ^ k
 |0=>by simp[F8]
 |k+1=>by
  have:=PZ a b k;unfold F8;rw[Nat.pow_succ];split<;>omega
theorem TV (a b:Int):0≤Dw a b∧Dw a b<256:=by
 have:=PZ a b 8;unfold Dw;omega
theorem JP:∀ (n:Nat) (x:Int) (i:Nat),i<n→(BH n x)[i]? = some (Bg x i)
 |n+1,x,0,_=>by simp[BH,Bg]
 |n+1,x,i+1,h=>by
  have:=JP n (x / 256) i (by omega);simp only[BH,List.getElem?_cons_succ];rw[this];unfold Bg;rw[Int.ediv_ediv_of_nonneg (by omega),Int.pow_succ,Int.mul_comm]
theorem dE {a b:Int} (ha:AA a) (hb:AA b) (i:Nat):Bg (bits .xor .u64 a b) i=0 ↔ Bg a i=Bg b i:=by
 obtain⟨x,rfl⟩:∃ x:Nat,a=x:=⟨a.toNat,by unfold AA at ha;omega⟩;obtain⟨y,rfl⟩:∃ y:Nat,b=y:=⟨b.toNat,by unfold AA at hb;omega⟩;unfold AA at ha hb;rw[bits_xor_u64_nat x y (by omega) (by omega)];unfold Bg;have h:∀ z:Nat,((z:Int) / 256 ^ i % 256)=(((z / 2 ^ (8*i)) % 2 ^ 8:Nat):Int):=fun z=>by
  have h1:((256:Int) ^ i)=((2 ^ (8*i):Nat):Int):=by
   rw[Nat.pow_mul,Int.natCast_pow];rfl
  rw[h1,Int.natCast_emod,Int.natCast_ediv];rfl
 rw[h,h,h];have e:((x ^^^ y) / 2 ^ (8*i)) % 2 ^ 8=((x / 2 ^ (8*i)) % 2 ^ 8) ^^^ ((y / 2 ^ (8*i)) % 2 ^ 8):=by
  rw[← Nat.shiftRight_eq_div_pow,← Nat.shiftRight_eq_div_pow,← Nat.shiftRight_eq_div_pow,Nat.shiftRight_xor_distrib,Nat.xor_mod_two_pow]
 rw[e];constructor
 ·intro h;have h:((x / 2 ^ (8*i)) % 2 ^ 8) ^^^ ((y / 2 ^ (8*i)) % 2 ^ 8)=0:=by omega
  generalize (x / 2 ^ (8*i)) % 2 ^ 8=p at h ⊢;generalize (y / 2 ^ (8*i)) % 2 ^ 8=q at h ⊢;have h2:p ^^^ q ^^^ q=q:=by rw[h,Nat.zero_xor]
  rw[Nat.xor_assoc,Nat.xor_self,Nat.xor_zero] at h2;rw[h2]
 ·intro h;have h:(x / 2 ^ (8*i)) % 2 ^ 8=(y / 2 ^ (8*i)) % 2 ^ 8:=by omega
  rw[h,Nat.xor_self];rfl
variable {n0:Nat} {w0:World} {I0:Nat→Prop} {Q:Exit→Sta→Prop}
theorem lL {a b:Int} (ha:AA a) (hb:AA b) {H:Hp} (hq:∀ st,Q (.exit 0) ⟨lk ([(5,u8 (Dw a b))]++st),H⟩):∀ (m i:Nat),i+m=8 →
  LoopC (cx Tryz.prog w0 I0 n0) FF Q ⟨lk [(5,u8 (F8 a b i:Nat)),(11,.agg (Lx (Ap (bits .xor .u64 a b)))),(12,iv i)],H⟩:=by
 intro m;induction m with
 |zero=>
  intro i hm;refine Ab Aj FF.eq_1 ?_;have:i=8:=by omega
  subst this;simp;exact hq [(11,.agg (Lx (Ap (bits .xor .u64 a b)))),(12,iv 8),(13,bv false)]
 |succ m ih=>
  intro i hm;have hi:i<8:=by omega
  have hi':(i:Int)<8:=by omega
  have ew:=AI i;have hb1:(Ap (bits .xor .u64 a b))[i]? = some (Bg (bits .xor .u64 a b) i):=JP 8 _ i hi;have hx:=dE ha hb i;have hlt:=PZ a b i;have next:=ih (i+1) (by omega)
  refine Ab Aj FF.eq_1 ?_;by_cases h:Bg a i=Bg b i
  ·have h0:=hx.2 h;have e:F8 a b (i+1)=F8 a b i:=by simp[F8,h]
   rw[e] at next
   simp[hi',hi,ew,Lx,hb1,h0];simpa[Lx] using next
  ·have h0:¬ Bg (bits .xor .u64 a b) i=0:=fun e=>h (hx.1 e);have e:F8 a b (i+1)=F8 a b i+2 ^ i:=by simp[F8,h]
   rw[e] at next
   have p8:2 ^ i<256:=by
    have:2 ^ i≤2 ^ 7:=Nat.pow_le_pow_right (by omega) (by omega);omega
   have eb:IntKind.u8.wrap (2 ^ min i IntKind.u8.bits)=((2 ^ i:Nat):Int):=by
    have:min i IntKind.u8.bits=i:=Nat.min_eq_left (by show i≤8;omega);rw[this,IntKind.wrap_u8,Int.natCast_pow];have:((2:Int) ^ i)=((2 ^ i:Nat):Int):=by rw[Int.natCast_pow];rfl
    omega
   have eo:=cJ ⟨i,hi⟩ ⟨F8 a b i,by omega⟩ hlt;simp only at eo;simp[hi',hi,ew,Lx,hb1,h0];rw[eb,eo,← Int.natCast_add];simpa[Lx] using next
def Qs (x:Int) (i:Nat):List Int:=(List.range 8).map fun j=>if j<i then Bg x j else 0
theorem IY (x:Int) (i:Nat):(Qs x i).length=8:=by simp[Qs]
theorem ZW (x:Int):Qs x 0=List.replicate 8 0:=by simp[Qs];rfl
theorem dK (x:Int):Qs x 8=Ap x:=by
 apply List.ext_getElem?;intro j;by_cases h:j<8
 ·rw[show(Ap x)[j]? = _ from JP 8 x j h];simp[Qs,h]
 ·rw[List.getElem?_eq_none (by rw[IY];omega),List.getElem?_eq_none (by simp[Ap];omega)]
theorem eK (x:Int) {i:Nat} (h:i<8):(Qs x i).set i (Bg x i)=Qs x (i+1):=by
 apply List.ext_getElem?;intro j;by_cases hj:j<8
 ·by_cases e:j=i
  ·subst e;rw[List.getElem?_set_self (by rw[IY];omega)];simp[Qs,hj]
  ·rw[List.getElem?_set_ne (by omega)];simp[Qs,hj];have:(j<i+1)=(j<i):=by simp;omega
   simp[this]
 ·rw[List.getElem?_eq_none (by simp[IY];omega),List.getElem?_eq_none (by rw[IY];omega)]
theorem jj {x:Int} (hx:AA x) (hq:∀ (st:List (Nat × A)) (H:Hp),H [0]=⟨1,.cells (Lx (List.replicate 8 0))⟩→H [1]=⟨1,.cells (Lx (Ap x))⟩→Q (.exit 0) ⟨lk ([(0,uv x),(2,.pob [0] 1 0),(3,.pob [1] 1 0)]++st),H⟩):∀ (m i:Nat) (H:Hp),i+m=8→H [0]=⟨1,.cells (Lx (List.replicate 8 0))⟩→H [1]=⟨1,.cells (Lx (Qs x i))⟩ →
  LoopC (cx Tryz.prog w0 I0 n0) Gv Q ⟨lk [(0,uv x),(2,.pob [0] 1 0),(3,.pob [1] 1 0),(5,iv i)],H⟩:=by
 intro m;induction m with
 |zero=>
  intro i H hm h0 h1;refine Ab Aj Gv.eq_1 ?_;have:i=8:=by omega
  subst this;rw[dK] at h1;simp;exact hq [(5,iv 8),(6,bv false)] H h0 h1
 |succ m ih=>
  intro i H hm h0 h1;have hi:i<8:=by omega
  have hi':(i:Int)<8:=by omega
  have ew:=AI i;have e8:i64.wrap (8*(i:Int))=((8*i:Nat):Int):=(A4 (by omega) (by omega)).trans (by omega);have b64:u64.bits=64:=rfl;have e9:(8*(i:Int)).toNat=8*i:=by omega
  have ev:IntKind.u8.wrap (x / 2 ^ min (8*i) 64)=Bg x i:=by
   rw[IntKind.wrap_u8,Nat.min_eq_left (by omega)];unfold Bg;have h1:((256:Int) ^ i)=((2:Int) ^ (8*i)):=by rw[Int.pow_mul];rfl
   rw[h1]
   try rfl
  refine Ab Aj Gv.eq_1 ?_;simp[hi',hi,ew,e8,e9,b64,ev,h1,IY];refine⟨by omega,by omega,?_⟩;rw[P3 (by rw[IY];omega),eK x hi];simpa using ih (i+1) _ (by omega) (by simp[Aa,h0]) (by simp[Aa])
theorem Vk {x:Int} (h:AA x):G.Spec Tryz.prog 178 [uv x] (.agg (Lx (Ap x))):=by
 refine Ag TQ (by simp) fun w0 I0=>?_;unfold Nh;simp;refine LoopC.le (Ay [(0,uv x),(2,.pob [0] 1 0),(3,.pob [1] 1 0),(5,iv (0:Nat))] (by simp)) ?_;refine jj h (fun st H h0 h1=>?_) 8 0 _ rfl (by simp[Aa]) (by simp[Aa,ZW]);have e:List.take 8 (Lx (Ap x))=Lx (Ap x):=AN (by simp[Ap]);have el:(Ap x).length=8:=by simp[Ap]
 simp[h1,h0,Aa,e,el];exact⟨by simp[A.ones],SB⟩
theorem Uk {a b:Int} (ha:AA a) (hb:AA b):G.Spec Tryz.prog 155 [uv a,uv b] (u8 (Dw a b)):=by
 have hu:AA (bits .xor .u64 a b):=by
  obtain⟨x,rfl⟩:∃ x:Nat,a=x:=⟨a.toNat,by unfold AA at ha;omega⟩;obtain⟨y,rfl⟩:∃ y:Nat,b=y:=⟨b.toNat,by unfold AA at hb;omega⟩;unfold AA at ha hb;rw[bits_xor_u64_nat x y (by omega) (by omega)];have:=@Nat.xor_lt_two_pow x y 64 (by omega) (by omega);unfold AA;omega
 refine Ag RX (by simp) fun w0 I0=>?_;unfold LC;simp;refine Ae (Vk hu) (by simp) ?_;simp;refine LoopC.le (Ay [(5,u8 (F8 a b 0:Nat)),(11,.agg (Lx (Ap (bits .xor .u64 a b)))),(12,iv (0:Nat))] (by simp[F8])) ?_;refine lL ha hb (fun st=>?_) 8 0 rfl;simp;exact Ad rfl
def SM (at_:Int) (a b:Int):WE:=⟨at_,Dw a b,AM 0 a (Dw a b),AM 0 b (Dw a b)⟩
def WE0:WE:=⟨0,0,0,0⟩
theorem Xf {i a b:Int} (ha:AA a) (hb:AA b):G.Spec Tryz.prog 119 [iv i,uv a,uv b] (.tup [wX (if Dw a b=0 then WE0 else SM i a b),bv (!decide (Dw a b=0))]):=by
 have hin:=TV a b;have z:AA 0:=by unfold AA;omega
 refine Ag UH (by simp) fun w0 I0=>?_;unfold OQ;simp;refine Ae (Uk ha hb) (by simp) ?_;by_cases h:Dw a b=0
 ·simp[h];exact Ad rfl
 ·simp[h];refine Ae (Dp z ha hin.1 hin.2) (by simp) ?_;simp;refine Ae (Dp z hb hin.1 hin.2) (by simp) ?_;simp;exact Ad rfl
theorem iP {l:List T}:∀ x,x ∈ l.map tA→Fq (fun _=>x):=fun x hx=>by
 obtain⟨t,_,rfl⟩:=List.mem_map.1 hx;exact I6 (tA_eq t) fun y hy=>by
  simp at hy;rcases hy with rfl | rfl | rfl<;>rfl
abbrev trM (u:Nat) (l:List T):Fam:=mh u 3 (l.map tA) iP
section
variable {n0:Nat} {w0:World} {I0:Nat→Prop} {M0:Nm→Nat→Prop} {m0:Mu} {Q:Exit→Sta→Prop}
end
section
variable {n0:Nat} {w0:World} {I0:Nat→Prop} {M0:Nm→Nat→Prop} {m0:Mu} {Q:Exit→Sta→Prop}
end
section
variable {n0:Nat} {w0:World} {I0:Nat→Prop} {Q:Exit→Sta→Prop} {H:Hp}
end
end Go.Proofs.YtlaapfplenlfaaaGreat
namespace Go.PL
def hd (t:T):Int:=t.words.headD 0
structure PutI (w i:Nat) (out:List Int):Prop where
 rng:∀ (j:Nat) (h:j<out.length),0≤out[j]∧out[j]<18446744073709551616
 here:∀ (h:i*w / 64<out.length),out[i*w / 64]<2 ^ (i*w % 64)
 zero:∀ (j:Nat) (h:j<out.length),i*w / 64<j→out[j]=0
theorem PutI.start (w m:Nat):PutI w 0 (List.replicate m 0):=⟨fun j h=>by simp,fun h=>by simp,fun j h _=>by simp⟩
def wdT (t:T) (i:Nat):Int:=t.words.getD i 0
theorem MU {t:T} (h:ED t=true):t=T0:=by
 obtain⟨k,w,l⟩:=t;simp only[ED,Bool.and_eq_true,decide_eq_true_eq,List.isEmpty_iff,T.kind_mk,T.words_mk,T.kids_mk] at h;obtain⟨⟨h0,rfl⟩,rfl⟩:=h;obtain rfl:=of_decide_eq_true h0;rfl
theorem Qw {e:E} (h:Kt e=true):e=E0:=by
 obtain⟨k,o,n,ws,ks,l,os⟩:=e;simp only[Kt,Bool.and_eq_true,decide_eq_true_eq,List.isEmpty_iff,E.kind_mk,E.old_mk,E.new_mk,E.words_mk,E.kids_mk,E.list_mk,E.ops_mk] at h;obtain⟨⟨⟨⟨h0,h1⟩,h2⟩,⟨rfl,rfl⟩,rfl⟩,h3⟩:=h;obtain rfl:=of_decide_eq_true h0;obtain rfl:=of_decide_eq_true h3;rw[MU h1,MU h2]
theorem headOk_iff {d:Nat} {k:Int} {o n:T} {nw nk:Nat} {l:Int} {no:Nat}:El d k o n nw nk l no=true ↔ d ≠ 0∧0≤k∧k≤3∧(k ≠ 1→ED o=true∧ED n=true)∧(k ≠ 2→nw=0∧nk=0)∧(k ≠ 3→l=0∧no=0):=by
 unfold El;simp only[Bool.and_eq_true,Bool.not_eq_true',Bool.or_eq_false_iff,Bool.and_eq_false_iff,decide_eq_false_iff_not,Bool.not_eq_false',decide_eq_true_eq];constructor
 ·rintro⟨⟨⟨h1,h2⟩,h3⟩,⟨h4,h5⟩,h6⟩;refine⟨h1,by omega,by omega,fun hk=>?_,fun hk=>?_,fun hk=>?_⟩
  ·rcases h4 with h4 | h4
   ·exact absurd h4 hk
   ·exact h4
  ·rcases h5 with h5 | h5
   ·exact absurd h5 hk
   ·omega
  ·rcases h6 with h6 | h6
   ·exact absurd h6 hk
   ·exact⟨h6.1,by omega⟩
 ·rintro⟨h1,h2,h3,h4,h5,h6⟩;refine⟨⟨⟨h1,by omega⟩,by omega⟩,⟨?_,?_⟩,?_⟩
  ·by_cases hk:k=1
   ·exact .inl hk
   ·exact .inr (h4 hk)
  ·by_cases hk:k=2
   ·exact .inl hk
   ·exact .inr (by have:=h5 hk;omega)
  ·by_cases hk:k=3
   ·exact .inl hk
   ·exact .inr ⟨(h6 hk).1,by have:=h6 hk;omega⟩
structure mL (d:Nat) (k:Int) (o n:T) (ws:List WE) (ks:List KE) (l:Int) (os:List OP):Prop where
 d0:d ≠ 0
 k0:0≤k
 k3:k≤3
 one:k ≠ 1→o=T0∧n=T0
 two:k ≠ 2→ws=[]∧ks=[]
 three:k ≠ 3→l=0∧os=[]
 rep:k=1→BV 64 o=true∧BV 64 n=true∧o.kind ≠ 10∧n.kind ≠ 10
 wok:BP (-1) ws=true
 kok:B0 (d-1) (-1) ks=true
 lst:k=3→2≤l∧l≤9
 ook:Fg (d-1) l os=true
 len:(AB 0 0 os).1<1048576∧(AB 0 0 os).2<1048576
theorem rightE_iff {d:Nat} {k:Int} {o n:T} {ws:List WE} {ks:List KE} {l:Int} {os:List OP}:BG d (.mk k o n ws ks l os)=true ↔ mL d k o n ws ks l os:=by
 rw[Jm];constructor
 ·intro h;by_cases hh:El d k o n ws.length ks.length l os.length=true
  ·rw[if_neg (by rw[hh];simp)] at h;obtain⟨h1,h2,h3,h4,h5,h6⟩:=headOk_iff.1 hh;have g1:k ≠ 1→o=T0∧n=T0:=fun hk=>⟨MU (h4 hk).1,MU (h4 hk).2⟩;have g2:k ≠ 2→ws=[]∧ks=[]:=fun hk=>⟨List.length_eq_zero_iff.1 (h5 hk).1,List.length_eq_zero_iff.1 (h5 hk).2⟩;have g3:k ≠ 3→l=0∧os=[]:=fun hk=>⟨(h6 hk).1,List.length_eq_zero_iff.1 (h6 hk).2⟩;by_cases hk:k=1
   ·rw[if_pos hk] at h;simp at h;obtain⟨rfl,rfl⟩:=g2 (by omega);obtain⟨rfl,rfl⟩:=g3 (by omega);exact⟨h1,h2,h3,g1,g2,g3,fun _=>⟨h.1.1.1,h.1.1.2,h.1.2,h.2⟩,by simp[BP],by simp,fun e=>by omega,by simp,by simp[AB]⟩
   ·rw[if_neg hk] at h;split at h
    ·cases h
    ·rename_i hw;split at h
     ·cases h
     ·rename_i hks;split at h
      ·cases h
      ·rename_i hl;split at h
       ·cases h
       ·rename_i ho;simp at h hw hks ho;exact⟨h1,h2,h3,g1,g2,g3,fun e=>absurd e hk,hw,hks,fun e=>by omega,ho,h⟩
  ·rw[if_pos (by simpa using hh)] at h;cases h
 ·intro h;have hh:El d k o n ws.length ks.length l os.length=true:=headOk_iff.2 ⟨h.d0,h.k0,h.k3,fun hk=>by rw[(h.one hk).1,(h.one hk).2];exact⟨rfl,rfl⟩,fun hk=>by rw[(h.two hk).1,(h.two hk).2];exact⟨rfl,rfl⟩,fun hk=>by rw[(h.three hk).1,(h.three hk).2];exact⟨rfl,rfl⟩⟩;rw[if_neg (by rw[hh];simp)];by_cases hk:k=1
  ·rw[if_pos hk];obtain⟨a,b,c,e⟩:=h.rep hk;simp[a,b,c,e]
  ·rw[if_neg hk,if_neg (by rw[h.wok];simp),if_neg (by rw[h.kok];simp),if_neg (by have:=h.lst;omega),if_neg (by rw[h.ook];simp)];simp[h.len]
inductive SmT:T→Prop
 |mk (k:Int) (w:List Int) (l:List T):l.length≤1048576→(∀ t,t ∈ l→SmT t)→SmT (.mk k w l)
theorem SmT.len {t:T} (h:SmT t):t.kids.length≤1048576:=by cases h;assumption
theorem QH {n:Int}:Lk n≤1048576:=by unfold Lk;split<;>omega
theorem FN:∀ (os:List OP) (n m:Int),(∀ x,x ∈ os→0≤B4 x)→n≤1048576→m≤1048576→n≤(AB n m os).1∧m≤(AB n m os).2
 |[],n,m,_,_,_=>⟨Int.le_refl _,Int.le_refl _⟩
 |x::os,n,m,h,hn,hm=>by
  have h0:=h x (by simp);rw[AB];have:=FN os (Lk (if x.kind ≠ 2 then n+B4 x else n)) (Lk (if x.kind ≠ 1 then m+B4 x else m)) (fun y hy=>h y (by simp[hy])) QH QH;have a:n≤Lk (if x.kind ≠ 2 then n+B4 x else n):=by unfold Lk;split<;>split<;>omega
  have b:m≤Lk (if x.kind ≠ 1 then m+B4 x else m):=by unfold Lk;split<;>split<;>omega
  omega
end Go.PL
namespace Go.Proofs.YtlaapfplenlfaaaGreat
open Go Go.G Go.Proofs Go.PL
theorem XQ (k:Int):G.Spec Tryz.prog 74 [iv k] (bv (decide (2≤k)&&decide (k≤9))):=by
 refine Ag Vc (by simp) fun w0 I0=>?_;unfold Pd;simp;exact Ad rfl
variable {n0:Nat} {w0:World} {I0:Nat→Prop} {Q:Exit→Sta→Prop}
theorem mC {a b:List Int} (hl:a.length=b.length) (hb:a.length*8≤140737488355328) {H:Hp}:∀ (m i:Nat),i+m=a.length→a.take i=b.take i→(a=b→∀ q,Q (.exit 0) ⟨lk [(0,CQ a),(1,CQ b),(12,iv a.length),(13,iv a.length),(14,bv q)],H⟩)→(a ≠ b→Q .ret ⟨lk [(4,bv false)],H⟩) →
  LoopC (cx Tryz.prog w0 I0 n0) Bt Q ⟨lk [(0,CQ a),(1,CQ b),(12,iv a.length),(13,iv i)],H⟩:=by
 intro m;induction m with
 |zero=>
  intro i hi ht h1 h2;have:i=a.length:=by omega
  subst this;rw[AN (Ei _),AN (by omega)] at ht;refine Ab Aj Bt.eq_1 ?_;simp;exact h1 ht _
 |succ m ih=>
  intro i hi ht h1 h2;have hlt:i<a.length:=by omega
  have hlt':i<b.length:=by omega
  have ei:=AI i;refine Ab Aj Bt.eq_1 ?_;by_cases e:a[i]=b[i]
  ·simp[hlt,hlt',e,ei];refine ih (i+1) (by omega) ?_ h1 h2;rw[Kj hlt,Kj hlt',ht,e]
  ·simp[hlt,hlt',e];exact h2 fun q=>e (by simp[q])
theorem Us (a b:List Int) (hb:a.length*8≤140737488355328):G.Spec Tryz.prog 89 [CQ a,CQ b] (bv (decide (a=b))):=by
 refine Ag GZ (by simp) fun w0 I0=>?_;unfold D7;by_cases hl:a.length=b.length
 ·simp[hl];have:=mC (n0:=26) (w0:=w0) (I0:=I0) (a:=a) (b:=b) (H:=Ga []) (Q:=Dg 0 (JW (WPC (cx Tryz.prog w0 I0 26) (.keep [] (.seq (.reg [co (some 4) (.assign (.const (.bool true))) none] [4]) .ret)) (NC Tryz.prog [.tmp 4] (bv (decide (a=b))))) (NC Tryz.prog [.tmp 4] (bv (decide (a=b)))))) hl hb a.length 0 (by simp) rfl (fun e q=>?_) (fun e=>?_)
  ·rw[hl] at this;simpa using this
  ·simp;exact Aq (by simp[e])
  ·simp;exact Aq (by simp[e])
 ·have hl':¬ (a.length:Int)=b.length:=by omega
  simp[hl,hl'];exact Aq (by simp;intro e;exact absurd (by rw[e]) hl)
theorem fm {t u:T} (h:t.kind ≠ u.kind∨t.kind=0):G9 t u=decide (t.kind=u.kind):=by
 rw[Bool.eq_iff_iff,eqT_iff,decide_eq_true_eq];constructor
 ·intro e;rw[← Hx t,e,Hx]
 ·intro e;rcases h with h | h
  ·exact absurd e h
  ·rw[H5 h,H5 (by omega)]
theorem Pa {t u:T} (h:t.kind ≠ u.kind∨t.kind=0):G.Spec Tryz.prog 57 [tX t,tX u] (bv (G9 t u)):=by
 refine Ag NJ (by simp) fun w0 I0=>?_;unfold JD;rw[fm h];by_cases e:t.kind=u.kind
 ·have h0:u.kind=0:=by omega
  simp[e,h0];exact Ad rfl
 ·simp[e];exact Aq (by simp[e])
theorem Y4 {t u:T} {n:Nat} (hN:n≤100000000000000) {H:Hp} (h0:H [0]=⟨1,.cells (tL t)⟩) (h1:H [1]=⟨1,.cells (tL u)⟩)
  (hq:(∀ i,i<n→t.words.getD i 0=u.words.getD i 0)→∀ (q:Bool),Q (.exit 0) ⟨lk [(2,.pob [0] 1 0),(3,.pob [1] 1 0),(48,iv n),(49,iv n),(50,bv q)],H⟩)
  (hf:(∃ i,t.words.getD i 0 ≠ u.words.getD i 0)→Q .ret ⟨lk [(4,bv false)],H⟩) :
  ∀ (j i:Nat),i+j=n→(∀ i',i'<i→t.words.getD i' 0=u.words.getD i' 0) →
  LoopC (cx Tryz.prog w0 I0 n0) Gx Q ⟨lk [(2,.pob [0] 1 0),(3,.pob [1] 1 0),(48,iv n),(49,iv i)],H⟩:=by
 intro j;induction j with
 |zero=>
  intro i hi he;have:i=n:=by omega
  subst this;refine Ab Aj Gx.eq_1 ?_;simp;exact hq he _
 |succ j ih=>
  intro i hi he;have hlt:i<n:=by omega
  have ei:=AI i;refine Ab Aj Gx.eq_1 ?_;simp[hlt,h0,h1];refine Ae (C6 t i) (by simp) ?_;simp[h0,h1];refine Ae (C6 u i) (by simp) ?_;by_cases hw:t.words.getD i 0=u.words.getD i 0
  ·have hw':=hw;simp only[List.getD_eq_getElem?_getD] at hw';simp[hw',ei];refine ih (i+1) (by omega) (fun i' hi'=>?_);by_cases e:i'=i
   ·rw[e];exact hw
   ·exact he i' (by omega)
  ·have hw':=hw;simp only[List.getD_eq_getElem?_getD] at hw';simp[hw'];exact hf ⟨i,hw⟩
theorem IZ {α:Type} {l:List α} {i:Nat} {z:α} (h:l.length≤i):l.getD i z=z:=by rw[List.getD_eq_getElem?_getD,List.getElem?_eq_none h];rfl
theorem VG {u:T} (hw:AD u) (i:Nat):AD (u.kids.getD i T0):=by
 by_cases hi':i<u.kids.length
 ·have e:u.kids.getD i T0=u.kids[i]:=by simp[List.getD_eq_getElem?_getD,hi']
  rw[e];exact(wfT_iff.1 hw).ks _ (BD hi')
 ·have e:u.kids.getD i T0=T0:=by rw[List.getD_eq_getElem?_getD,List.getElem?_eq_none (by simpa using hi')];rfl
  rw[e];exact wfT_iff.2 ⟨by simp[Db],by simp,by simp,by simp,by simp⟩
def EqG (t:T):Prop:=∀ u:T,AD t→AD u→G.Spec Tryz.prog 57 [tX t,tX u] (bv (G9 t u))
theorem YG {k:Int} {w:List Int} {a:List T} {u:T} (h0:k ≠ 0):G9 (.mk k w a) u=true ↔ k=u.kind∧(k=1∨(a.length=u.kids.length∧w=u.words))∧(∀ i,w.getD i 0=u.words.getD i 0)∧∀ i,Af (a.getD i T0)=Af (u.kids.getD i T0):=by
 rw[eqT_iff];obtain⟨k',w',b⟩:=u;by_cases hk:k=k';rotate_left
 ·constructor
  ·intro h;have:=congrArg T.kind h;simp at this;exact absurd this hk
  ·intro h;exact absurd h.1 hk
 subst hk;by_cases h1:k=1
 ·subst h1;rw[struct_eq];simp
 rw[Jb h0 h1];constructor
 ·rintro⟨rfl,h⟩;have hl:a.length=b.length:=by simpa using congrArg List.length h
  exact⟨rfl,.inr ⟨hl,rfl⟩,fun i=>rfl,(SJ hl).1 h⟩
 ·rintro⟨_,h,_,h3⟩;rcases h with h | ⟨hl,rfl⟩
  ·exact absurd h h1
  ·exact⟨rfl,(SJ hl).2 h3⟩
theorem n9 {t u:T} {n:Nat} (hn:n≤100000000000000) (hw:AD t) (hwu:AD u) (hk:∀ i,i<n→EqG (t.kids.getD i T0)) {H:Hp} (h0:H [0]=⟨1,.cells (tL t)⟩) (h1:H [1]=⟨1,.cells (tL u)⟩)
  (hq:(∀ i,i<n→Af (t.kids.getD i T0)=Af (u.kids.getD i T0))→∀ (q:Bool),Q (.exit 2) ⟨lk [(2,.pob [0] 1 0),(3,.pob [1] 1 0),(66,iv n),(67,iv n),(68,bv q)],H⟩)
  (hf:(∃ i,Af (t.kids.getD i T0) ≠ Af (u.kids.getD i T0))→Q .ret ⟨lk [(4,bv false)],H⟩) :
  ∀ (j i:Nat),i+j=n→(∀ i',i'<i→Af (t.kids.getD i' T0)=Af (u.kids.getD i' T0)) →
  LoopC (cx Tryz.prog w0 I0 n0) GC Q ⟨lk [(2,.pob [0] 1 0),(3,.pob [1] 1 0),(66,iv n),(67,iv i)],H⟩:=by
 intro j;induction j with
 |zero=>
  intro i hi he;have:i=n:=by omega
  subst this;refine Ab Aj GC.eq_1 ?_;simp;exact hq he _
 |succ j ih=>
  intro i hi he;have hlt:i<n:=by omega
  have ei:=AI i;have hrec:=hk i hlt (u.kids.getD i T0) (VG hw i) (VG hwu i);refine Ab Aj GC.eq_1 ?_;simp[hlt,h0,h1];refine Ae (DC t i) (by simp) ?_;simp[h0,h1];refine Ae (DC u i) (by simp) ?_;simp[h0,h1];refine Ae hrec (by simp) ?_;cases hb:G9 (t.kids.getD i T0) (u.kids.getD i T0) with
  |true=>
   simp[ei];refine ih (i+1) (by omega) (fun i' hi'=>?_);by_cases e:i'=i
   ·rw[e];exact eqT_iff.1 hb
   ·exact he i' (by omega)
  |false=>
   simp;exact hf ⟨i,fun e=>by rw[eqT_iff.2 e] at hb;cases hb⟩
set_option maxRecDepth 8000 in
theorem jB:∀ t:T,EqG t:=by
 refine T.ind fun k w ks ih u hw hwu=>?_;have hw':=wfT_iff.1 hw;have hu':=wfT_iff.1 hwu;have hwl:=hw'.wl;have hkl:=hw'.kl;have hul:=hu'.wl;have huk:=hu'.kl;simp only[T.words_mk,T.kids_mk] at hwl hkl;have hk0:∀ i,EqG ((T.mk k w ks).kids.getD i T0):=fun i=>by
  by_cases hi:i<ks.length
  ·have e:(T.mk k w ks).kids.getD i T0=ks[i]:=by simp[List.getD_eq_getElem?_getD,hi]
   rw[e];exact ih _ (BD hi)
  ·have e:(T.mk k w ks).kids.getD i T0=T0:=IZ (by simpa using hi);rw[e];intro u _ _;exact Pa (.inr rfl)
 by_cases hkk:k ≠ u.kind∨k=0
 ·exact Pa hkk
 have h1:k=u.kind:=by omega
 have h0:¬ u.kind=0:=by omega
 simp only[T.kids_mk] at hk0;have yes:(k=1∨(ks.length=u.kids.length∧w=u.words))→(∀ i,w.getD i 0=u.words.getD i 0)→(∀ i,Af (ks.getD i T0)=Af (u.kids.getD i T0))→G9 (.mk k w ks) u=true:=fun a b c=>(YG (by omega)).2 ⟨h1,a,b,c⟩;have no:¬ ((k=1∨(ks.length=u.kids.length∧w=u.words))∧(∀ i,w.getD i 0=u.words.getD i 0)∧(∀ i,Af (ks.getD i T0)=Af (u.kids.getD i T0)))→G9 (.mk k w ks) u=false:=fun h=>by
  rw[Bool.eq_false_iff];intro e;exact h ((YG (by omega)).1 e).2
 obtain⟨N,hN⟩:∃ N:Nat,N=max w.length u.words.length:=⟨_,rfl⟩;obtain⟨M,hM⟩:∃ M:Nat,M=max ks.length u.kids.length:=⟨_,rfl⟩;have eN:max (w.length:Int) (u.words.length:Int)=(N:Int):=by omega
 have eM:max (ks.length:Int) (u.kids.length:Int)=(M:Int):=by omega
 refine Ag NJ (by simp) fun w0 I0=>?_;have main:(k=1∨(ks.length=u.kids.length∧w=u.words))→WPC (cx Tryz.prog w0 I0 79) IK (NC Tryz.prog [.tmp 4] (bv (G9 (.mk k w ks) u))) ⟨lk [(2,.pob [0] 1 0),(3,.pob [1] 1 0)],Ga [([0],⟨1,.cells [iv k,CQ w,Bx ks]⟩),([1],⟨1,.cells [iv u.kind,CQ u.words,Bx u.kids]⟩)]⟩:=fun hc=>by
  rw[IK.eq_1];simp[eN];refine Y4 (t:=.mk k w ks) (u:=u) (by omega) (by simp) (by simp) (fun he q=>?_) (fun hf=>?_) N 0 (by omega) (fun i hi=>by omega)
  ·have heq:∀ i,w.getD i 0=u.words.getD i 0:=fun i=>by
    by_cases hi:i<N
    ·exact he i hi
    ·rw[IZ (by omega),IZ (by omega)]
   simp[eM];refine n9 (t:=.mk k w ks) (u:=u) (by omega) hw hwu (fun i _=>hk0 i) (by simp) (by simp) (fun he2 q=>?_) (fun hf=>?_) M 0 (by omega) (fun i hi=>by omega)
   ·simp;refine Aq (yes hc heq fun i=>?_).symm;by_cases hi:i<M
    ·exact he2 i hi
    ·rw[IZ (by omega),IZ (by omega)]
   ·simp;refine Aq (no fun h=>?_).symm;obtain⟨i,hi⟩:=hf;exact hi (h.2.2 i)
  ·simp;refine Aq (no fun h=>?_).symm;obtain⟨i,hi⟩:=hf;exact hi (h.2.1 i)
 unfold JD;by_cases k1:k=1
 ·have u1:u.kind=1:=by omega
  have hm:=main (.inl k1);rw[u1] at hm;subst k1;simp[u1];refine AU rfl ?_;simp;exact Ff hm
 ·have u1:¬ u.kind=1:=by omega
  by_cases hl:ks.length=u.kids.length
  ·have hl':(ks.length:Int)=u.kids.length:=by omega
   simp[h1,h0,u1,hl'];refine Ao rfl (fun _=>Us w u.words (by omega)) (fun _=>rfl) rfl ?_;by_cases hww:w=u.words
   ·simp[hww];have:=main (.inr ⟨hl,hww⟩);rw[h1,hww] at this;exact Ff this
   ·simp[hww];refine Aq ?_;rw[← h1];refine(no fun h=>?_).symm;rcases h.1 with h | h
    ·exact k1 h
    ·exact hww h.2
  ·have hl':¬ (ks.length:Int)=u.kids.length:=by omega
   simp[h1,h0,u1,hl,hl'];refine AU rfl ?_;simp;refine Aq ?_;rw[← h1];exact(no fun h=>by
    rcases h.1 with h | h
    ·exact k1 h
    ·exact hl h.1).symm
theorem I3 {t u:T} (hw:AD t) (hwu:AD u):G.Spec Tryz.prog 57 [tX t,tX u] (bv (G9 t u)):=jB t u hw hwu
def KC (a b:T) (m:Nat):List WE:=(List.range m).filterMap fun i=>if Dw (a.words.getD i 0) (b.words.getD i 0)=0 then none else some (SM i (a.words.getD i 0) (b.words.getD i 0))
def FU (one:T→T→E) (a b:T) (m:Nat):List KE:=(List.range m).filterMap fun i=>if (one (a.kids.getD i T0) (b.kids.getD i T0)).kind=0 then none else some (.mk i (one (a.kids.getD i T0) (b.kids.getD i T0)))
def n6 (one:T→T→E) (a b:T):E:=.mk 2 T0 T0 (KC a b (max a.words.length b.words.length)) (FU one a b (max a.kids.length b.kids.length)) 0 []
theorem kN {t:T} (h:AD t) (i:Nat):AA (wdT t i):=by
 unfold wdT;rw[List.getD_eq_getElem?_getD];cases e:t.words[i]? with
 |none=>exact⟨by simp,by simp⟩
 |some x=>exact(wfT_iff.1 h).w x (List.mem_of_getElem? e)
inductive WI where
 |keep (n:Int)
 |del (k v:Nat) (l:List T)
 |ins (k v:Nat) (l:List T)
 |desc (e:E)
def WI.op:WI→OP
 |.keep n=>.mk 0 n [] E0
 |.del _ _ l=>.mk 1 0 l E0
 |.ins _ _ l=>.mk 2 0 l E0
 |.desc e=>.mk 3 0 [] e
def BI:List A:=[iv 0,iv 0,.sl true [],.sl true [],iv 0,.sl true [],.sl true [],.sl true [],.sl true [],iv 0,.sl true []]
def Rt (r:Nat):WI→List A
 |.keep n=>iv 0::iv n :: .sl true []::BI
 |.del k v l=>iv 1::iv 0 :: .osl (r::[k]) v 3 0 l.length::BI
 |.ins k v l=>iv 2::iv 0 :: .osl (r::[k]) v 3 0 l.length::BI
 |.desc e=>iv 3::iv 0 :: .sl true []::eL e
def OJ (r:Nat) (x:WI):A:=.agg (Rt r x)
@[simp] theorem pI {r:Nat} {x:WI}:(OJ r x).cells=Rt r x:=rfl
@[simp] theorem zt {r:Nat} {x:WI}:(Rt r x).length=14:=by cases x<;>rfl
theorem iT {g:Nm→Nm} {δ:Nm→Nat} {r r':Nat} (hg:∀ p,g (r::p)=r'::p) (hd:∀ p,δ (r::p)=0) (x:WI):A.renL g δ (Rt r x)=Rt r' x:=by
 cases x<;>simp[Rt,BI,A.renL,A.ren,hg,hd]
theorem b6 {D:Nm→Prop} {r:Nat} (hD:∀ p,D (r::p)) (x:WI):A.refsL D (Rt r x):=by
 cases x<;>simp[Rt,BI,A.refsL,A.refs,hD]
def Lj (r:Nat):Option (Nat × Nat × List T)→A
 |some (k,v,l)=>.osl (r::[k]) v 3 0 l.length
 |none=>.sl true []
abbrev PB:=Nat→Option (Nat × List T)
def Yb:Option (Nat × List T)→VOb
 |some (v,l)=>⟨v,.arr 3 (l.map tA)⟩
 |none=>⟨0,.none⟩
theorem jI {g:Nm→Nm} {δ:Nm→Nat} {r r':Nat} (hg:∀ p,g (r::p)=r'::p) (hd:∀ p,δ (r::p)=0) (o:Option (Nat × Nat × List T)):(Lj r o).ren g δ=Lj r' o:=by
 rcases o with _ | ⟨k,v,l⟩
 ·simp[Lj,A.ren]
 ·simp[Lj,A.ren,hg,hd]
def O8 (R:PB):Nm→VOb
 |[k]=>Yb (R k)
 |_=>⟨0,.none⟩
@[simp] theorem rN {R:PB} {k:Nat}:O8 R [k]=Yb (R k):=rfl
theorem gP {g:Nm→Nm} {δ:Nm→Nat} (o:Option (Nat × List T)):VOb.ren g δ 0 (Yb o)=Yb o:=by
 rcases o with _ | ⟨v,l⟩
 ·rfl
 ·refine Fam.arr_ren ?_;simp only[C3,List.map_map];refine List.map_congr_left fun x _=>?_;simp[A.ren,A.renL]
theorem ZJ {g:Nm→Nm} {δ:Nm→Nat} (R:PB):∀ p,VOb.ren g δ 0 (O8 R p)=O8 R p
 |[]=>rfl
 |[k]=>gP _
 |_::_::_=>rfl
theorem fS {D:Nm→Prop} (o:Option (Nat × List T)):(Yb o).ob.refs D:=by
 rcases o with _ | ⟨v,l⟩
 ·trivial
 ·simp only[Yb,Ob.refs,refsL_iff];intro y hy;obtain⟨x,_,rfl⟩:=List.mem_map.1 hy;simp[A.refs,A.refsL]
theorem Xj {D:Nm→Prop} (R:PB):∀ p,(O8 R p).ob.refs D
 |[]=>trivial
 |[k]=>fS _
 |_::_::_=>trivial
def Qo (its:List WI) (vo:Nat) (g b:Option (Nat × Nat × List T)) (R:PB):Fam:=⟨fun r p=>if p=[] then ⟨1,.cells [.osl (r::[0]) vo 14 0 its.length,Lj r g,Lj r b]⟩ else if p=[0] then ⟨vo,.arr 14 (its.map (OJ r))⟩ else O8 R p,fun {γ δ r r'} hg hd p=>by
  by_cases h1:p=[]
  ·rw[if_pos h1,if_pos h1];refine Fam.cells_ren ?_;simp[A.renL,A.ren,hg,hd,jI hg hd]
  ·rw[if_neg h1,if_neg h1];by_cases h2:p=[0]
   ·rw[if_pos h2,if_pos h2];refine Fam.arr_ren ?_;simp only[C3,List.map_map];refine List.map_congr_left fun x _=>?_;simp[OJ,A.ren,iT hg hd]
   ·rw[if_neg h2,if_neg h2];exact ZJ R p,fun {D r} hD p=>by
  by_cases h1:p=[]
  ·rw[if_pos h1];rcases g with _ | ⟨k,v,l⟩<;>rcases b with _ | ⟨k',v',l'⟩<;>simp[Ob.refs,A.refsL,A.refs,hD,Lj]
  ·rw[if_neg h1];by_cases h2:p=[0]
   ·rw[if_pos h2];simp only[Ob.refs,refsL_iff];intro y hy;obtain⟨x,_,rfl⟩:=List.mem_map.1 hy;simp only[A.refs,OJ];exact b6 hD x
   ·rw[if_neg h2];exact Xj R p⟩
@[simp] theorem Yu {its:List WI} {vo:Nat} {g b:Option (Nat × Nat × List T)} {R:PB} {r:Nat} {p:Nm}:(Qo its vo g b R).F r p=if p=[] then ⟨1,.cells [.osl (r::[0]) vo 14 0 its.length,Lj r g,Lj r b]⟩ else if p=[0] then ⟨vo,.arr 14 (its.map (OJ r))⟩ else O8 R p:=rfl
abbrev gQ (r:Nat):A:=.pob [r] 1 0
theorem PV {r:Nat} {l:List WI}:CX 14 (l.map (OJ r))=true:=by rw[FH];simp
def Ex:Nat × Nat × List T→List WI
 |(k,v,l)=>if l=[] then [] else [.del k v l]
def Bk:Nat × Nat × List T→List WI
 |(k,v,l)=>if l=[] then [] else [.ins k v l]
theorem Hd (its:List WI) (vo:Nat) (g b:Nat × Nat × List T) (R:PB) (hl:its.length≤1000000) (hg:R g.1=some (g.2.1,g.2.2)) (hb:R b.1=some (b.2.1,b.2.2)) (hg0:1≤g.1) (hb0:1≤b.1):SpecF Tryz.prog 118 (fun r=>[gQ r]) (Qo its vo (some g) (some b) R) (fun _=>.tup []) (Qo (its++(Ex g++Bk b)) (vo+(Ex g++Bk b).length) none none R):=by
 obtain⟨gk,gv,gl⟩:=g;obtain⟨bk,bv',bl⟩:=b;refine BL J6 (by simp) (Ai AX Av) (Ec Av) fun w0 I0 M0 m0=>?_;unfold Gg;by_cases h1:gl=[]
 ·by_cases h2:bl=[]
  ·simp[h1,h2,Lj];rw[BQ.eq_1];simp[h1,h2,Lj,Aa];refine Ed rfl rfl (fun p=>?_);by_cases p1:p=[]
   ·subst p1;simp[Aa,Ex,Bk,Lj]
   ·by_cases p2:p=[0]
    ·subst p2;simp[Aa,Ex,Bk]
    ·simp[p1,p2,Aa]
  ·have h2':(0:Int)<bl.length:=by have:=List.length_pos_iff.2 h2;omega
   have h2n:=List.length_pos_iff.2 h2;simp[h1,h2,Lj];rw[BQ.eq_1];simp[h1,h2,h2',h2n,Lj,Aa,PV];refine⟨by omega,by omega,?_⟩;refine Ed rfl rfl (fun p=>?_);by_cases p1:p=[]
   ·subst p1;simp[Aa,Ex,Bk,Lj,h1,h2]
   ·by_cases p2:p=[0]
    ·subst p2;simp[Aa,Ex,Bk,h1,h2,OJ,Rt,BI,AN]
    ·simp[p1,p2,Aa]
 ·have h1':(0:Int)<gl.length:=by have:=List.length_pos_iff.2 h1;omega
  have h1n:=List.length_pos_iff.2 h1;by_cases h2:bl=[]
  ·simp[h1,h1',h1n,h2,Lj,Aa,PV];refine⟨by omega,by omega,?_⟩;rw[BQ.eq_1];simp[h1,h2,Lj,Aa];refine Ed rfl rfl (fun p=>?_);by_cases p1:p=[]
   ·subst p1;simp[Aa,Ex,Bk,Lj,h1,h2]
   ·by_cases p2:p=[0]
    ·subst p2;simp[Aa,Ex,Bk,h1,h2,OJ,Rt,BI,AN]
    ·simp[p1,p2,Aa]
  ·have h2':(0:Int)<bl.length:=by have:=List.length_pos_iff.2 h2;omega
   have h2n:=List.length_pos_iff.2 h2;simp[h1,h1',h1n,h2,Lj,Aa,PV];refine⟨by omega,by omega,?_⟩;rw[BQ.eq_1];simp[h1,h2,h2',h2n,Lj,Aa];refine⟨by omega,⟨by omega,by omega⟩,?_⟩;refine Ed rfl rfl (fun p=>?_);by_cases p1:p=[]
   ·subst p1;simp[Aa,Ex,Bk,Lj,h1,h2]
   ·by_cases p2:p=[0]
    ·subst p2;simp[Aa,Ex,Bk,h1,h2,OJ,Rt,BI,AN]
    ·simp[p1,p2,Aa]
theorem vB (l:List T) (x:A):(l.map tA++[x])[l.length]? = some x:=by rw[List.getElem?_append_right (by simp)];simp
theorem iR (l:List T):List.take l.length (l.map tA)=l.map tA:=AN (by simp)
theorem YF {n0:Nat} {w0:World} {I0:Nat→Prop} {M0:Nm→Nat→Prop} {m0:Mu} {Q:Exit→Sta→Prop} {its:List WI} {vo off k:Nat} {g b:Option (Nat × Nat × List T)} {R:PB} {ts l0:List T} {v0:Nat} (hts:∀ t,t ∈ ts→AD t) (hl:l0.length+ts.length≤1000000) (hk:1≤k)
  (F:Nat→List T→Fam) (hF0:∀ v l,(F v l).F 0 []=⟨1,.cells [.osl [0,0] vo 14 0 its.length,if off=1 then .osl [0,k] v 3 0 l.length else Lj 0 g,if off=1 then Lj 0 b else .osl [0,k] v 3 0 l.length]⟩) (hoff:off=1∨off=2) (hFk:∀ v l,(F v l).F 0 [k]=⟨v,.arr 3 (l.map tA)⟩) (hFo:∀ v l v' l' p,p ≠ []→p ≠ [k]→(F v l).F 0 p=(F v' l').F 0 p)
  (hq:∀ H st,(∀ p,H (0::p)=(F (v0+ts.length) (l0++ts.map Af)).F 0 p)→Q (.exit 0) ⟨lk st,H⟩):∀ (m i:Nat) (H:Hp),i+m=ts.length→(∀ p,H (0::p)=(F (v0+i) (l0++(ts.take i).map Af)).F 0 p) →
  LoopC (HY Tryz.prog w0 I0 M0 n0 m0) FM Q ⟨lk [(0,.pob [0] 1 off),(6,Bx ts),(7,iv ts.length),(8,iv i)],H⟩:=by
 intro m;induction m with
 |zero=>
  intro i H hm hH;refine Ab Aj FM.eq_1 ?_;have:i=ts.length:=by omega
  subst this;rw[AN (Ei _)] at hH;simp;exact hq H _ hH
 |succ m ih=>
  intro i H hm hH;have hi:i<ts.length:=by omega
  have ew:=AI i;have h0:=hH [];rw[hF0] at h0;have h1:=hH [k];rw[hFk] at h1;have hN:=CB ts[i] (hts _ (BD hi));have hLs:l0++(ts.take (i+1)).map Af=l0++(ts.take i).map Af++[Af ts[i]]:=by rw[Kj hi,List.map_append,← List.append_assoc];rfl
  have hLl:(l0++(ts.take i).map Af).length≤1000000:=by simp;omega
  have next:=ih (i+1)
  rw[hLs,← Nat.add_assoc] at next
  generalize l0++(ts.take i).map Af=L at *;generalize v0+i=v at *;have hH':∀ (p:Nm) (H2:Hp),p ≠ []→p ≠ [k]→H2 (0::p)=H (0::p)→H2 (0::p)=(F (v+1) (L++[Af ts[i]])).F 0 p:=fun p H2 p1 p2 he=>by rw[he,hH,hFo _ _ _ _ p p1 p2]
  refine Ab Aj FM.eq_1 ?_;rcases hoff with rfl | rfl;all_goals
   simp at h0 h1;simp[hi,Aa,h0];refine Ae hN (by simp[Aa]) ?_;simp[Aa,h0,h1,show ¬ k=0 by omega,show ¬ 0=k by omega,vB,iR,ew];refine⟨by omega,by omega,?_⟩;refine next _ (by omega) (fun p=>?_)
   by_cases p1:p=[]
   ·subst p1;rw[hF0];simp[Aa,show ¬ k=0 by omega,show ¬ 0=k by omega]
   ·by_cases p2:p=[k]
    ·subst p2;rw[hFk];simp[Aa,show ¬ k=0 by omega,show ¬ 0=k by omega]
    ·exact hH' p _ p1 p2 (by simp[Aa,p1,p2,Ne.symm p1,Ne.symm p2])
def E8 (R:PB) (k:Nat) (v:Nat) (l:List T):PB:=fun q=>if q=k then some (v,l) else R q
theorem SL {R:PB} {k v:Nat} {l:List T} (h:R k=some (v,l)):E8 R k v l=R:=by
 funext q;unfold E8;split
 ·rename_i e;rw[e,h]
 ·rfl
theorem Xx (its:List WI) (vo k v:Nat) (l:List T) (b:Option (Nat × Nat × List T)) (R:PB) (hR:R k=some (v,l)) (hk:1≤k) (hb:∀ x,b=some x→x.1 ≠ k) {ts:List T} (hts:∀ t,t ∈ ts→AD t) (hl:l.length+ts.length≤1000000) :
  SpecF Tryz.prog 116 (fun r=>[.pob [r] 1 1,Bx ts]) (Qo its vo (some (k,v,l)) b R) (fun _=>.tup []) (Qo its vo (some (k,v+ts.length,l++ts.map Af)) b (E8 R k (v+ts.length) (l++ts.map Af))):=by
 refine BL LZ (by simp) (Ai AX (Ai BZ Av)) (Ec Av) fun w0 I0 M0 m0=>?_;unfold IM;simp;refine LoopC.le (Ay [(0,.pob [0] 1 1),(6,Bx ts),(7,iv ts.length),(8,iv (0:Nat))] (by simp)) ?_;refine YF (its:=its) (vo:=vo) (off:=1) (k:=k) (g:=none) (b:=b) (R:=R) (ts:=ts) (l0:=l) (v0:=v) hts hl hk (fun v l=>Qo its vo (some (k,v,l)) b (E8 R k v l)) (fun v l=>by simp[Lj]) (.inl rfl) (fun v l=>by simp[Yb,E8,show ¬ k=0 by omega]) (fun v l v' l' p p1 p2=>?_) (fun H st hH=>?_) ts.length 0 _ (by omega) (fun p=>?_)
 ·rw[Yu,Yu,if_neg p1,if_neg p1];split
  ·rfl
  ·match p with
   |[]=>rfl
   |[q]=>simp[E8,show ¬ q=k from fun e=>p2 (by rw[e])]
   |_::_::_=>rfl
 ·simp;exact Ed rfl rfl hH
 ·simp only[List.take_zero,List.map_nil,List.append_nil,Nat.add_zero];rw[SL hR];simp
theorem Xv (its:List WI) (vo k v:Nat) (l:List T) (g:Option (Nat × Nat × List T)) (R:PB) (hR:R k=some (v,l)) (hk:1≤k) {ts:List T} (hts:∀ t,t ∈ ts→AD t) (hl:l.length+ts.length≤1000000) :
  SpecF Tryz.prog 116 (fun r=>[.pob [r] 1 2,Bx ts]) (Qo its vo g (some (k,v,l)) R) (fun _=>.tup []) (Qo its vo g (some (k,v+ts.length,l++ts.map Af)) (E8 R k (v+ts.length) (l++ts.map Af))):=by
 refine BL LZ (by simp) (Ai AX (Ai BZ Av)) (Ec Av) fun w0 I0 M0 m0=>?_;unfold IM;simp;refine LoopC.le (Ay [(0,.pob [0] 1 2),(6,Bx ts),(7,iv ts.length),(8,iv (0:Nat))] (by simp)) ?_;refine YF (its:=its) (vo:=vo) (off:=2) (k:=k) (g:=g) (b:=none) (R:=R) (ts:=ts) (l0:=l) (v0:=v) hts hl hk (fun v l=>Qo its vo g (some (k,v,l)) (E8 R k v l)) (fun v l=>by simp[Lj]) (.inr rfl) (fun v l=>by simp[Yb,E8,show ¬ k=0 by omega]) (fun v l v' l' p p1 p2=>?_) (fun H st hH=>?_) ts.length 0 _ (by omega) (fun p=>?_)
 ·rw[Yu,Yu,if_neg p1,if_neg p1];split
  ·rfl
  ·match p with
   |[]=>rfl
   |[q]=>simp[E8,show ¬ q=k from fun e=>p2 (by rw[e])]
   |_::_::_=>rfl
 ·simp;exact Ed rfl rfl hH
 ·simp only[List.take_zero,List.map_nil,List.append_nil,Nat.add_zero];rw[SL hR];simp
theorem Vp (l:List WI) (r:Nat) (x:A):(l.map (OJ r)++[x])[l.length]? = some x:=by rw[List.getElem?_append_right (by simp)];simp
theorem iQ (l:List WI) (r:Nat):List.take l.length (l.map (OJ r))=l.map (OJ r):=AN (by simp)
theorem Kq (l:List WI) (r:Nat) (x:A):List.take (l.length+1) (l.map (OJ r)++[x])=l.map (OJ r)++[x]:=AN (by simp)
theorem NP:∀ g,(Ex g).length≤1
 |(a,b,c)=>by
  by_cases h:c=[]<;>simp[Ex,h]
theorem JQ:∀ g,(Bk g).length≤1
 |(a,b,c)=>by
  by_cases h:c=[]<;>simp[Bk,h]
theorem WO (its i0:List WI) (vo:Nat) (m n:Int) (g b:Nat × Nat × List T) (R:PB) (hl:its.length≤1000000) (hg:R g.1=some (g.2.1,g.2.2)) (hb:R b.1=some (b.2.1,b.2.2)) (hg0:1≤g.1) (hb0:1≤b.1) (hi:its++(Ex g++Bk b)=i0++[.keep m]):SpecF Tryz.prog 115 (fun r=>[gQ r,iv n]) (Qo its vo (some g) (some b) R) (fun _=>.tup []) (Qo (i0++[.keep (i64.wrap (m+n))]) (vo+(Ex g++Bk b).length) none none R):=by
 have F1:=Hd its vo g b R hl hg hb hg0 hb0;rw[hi] at F1;have hlen:i0.length≤1000002:=by
  have e:=congrArg List.length hi;have:=NP g;have:=JQ b;simp at e;omega
 generalize vo+(Ex g++Bk b).length=v at *;have e1:i64.wrap (i0.length:Int)=i0.length:=Hl;refine BL GW (by simp) (Ai AX (Ai FV Av)) (Ec Av) fun w0 I0 M0 m0=>?_;unfold EA;simp;refine Bp 0 F1 (fun p=>by simp) (by simp) (by simp) ?_;simp[e1,Vp,OJ,Rt];refine⟨by omega,rfl,?_⟩;refine A6 rfl rfl (fun p=>?_);by_cases p1:p=[]
 ·subst p1;simp[Aa,Lj]
 ·by_cases p2:p=[0]
  ·subst p2;simp[Aa,OJ,Rt,BI,A.remake,Kq]
  ·simp[p1,p2,Aa]
theorem WQ (its:List WI) (vo:Nat) (n:Int) (g b:Nat × Nat × List T) (R:PB) (hl:its.length≤1000000) (hg:R g.1=some (g.2.1,g.2.2)) (hb:R b.1=some (b.2.1,b.2.2)) (hg0:1≤g.1) (hb0:1≤b.1) (hi:its++(Ex g++Bk b)=[]∨∃ i0 x,its++(Ex g++Bk b)=i0++[x]∧x.op.kind ≠ 0):SpecF Tryz.prog 115 (fun r=>[gQ r,iv n]) (Qo its vo (some g) (some b) R) (fun _=>.tup []) (Qo (its++(Ex g++Bk b)++[.keep n]) (vo+(Ex g++Bk b).length+1) none none R):=by
 have F1:=Hd its vo g b R hl hg hb hg0 hb0;have hlen:(its++(Ex g++Bk b)).length≤1000002:=by
  have:=NP g;have:=JQ b;simp;omega
 generalize vo+(Ex g++Bk b).length=v at *;generalize its++(Ex g++Bk b)=J at *;refine BL GW (by simp) (Ai AX (Ai FV Av)) (Ec Av) fun w0 I0 M0 m0=>?_;unfold EA;simp;refine Bp 0 F1 (fun p=>by simp) (by simp) (by simp) ?_;rcases hi with rfl | ⟨i0,x,rfl,hx⟩
 ·simp[Aa,show i64.wrap (-1) = -1 from rfl];refine Ed rfl rfl (fun p=>?_);by_cases p1:p=[]
  ·subst p1;simp[Aa,Lj]
  ·by_cases p2:p=[0]
   ·subst p2;simp[Aa,OJ,Rt,BI,A.remake,Kq]
   ·simp[p1,p2,Aa]
 ·simp at hlen;have e1:i64.wrap (i0.length:Int)=i0.length:=Hl;cases x with
  |keep m=>exact absurd rfl hx
  |del a b c=>
   simp[e1,Vp,OJ,Rt,Aa];refine⟨by omega,by omega,⟨by omega,by omega⟩,?_⟩;refine Ed rfl rfl (fun p=>?_);by_cases p1:p=[]
   ·subst p1;simp[Aa,Lj]
   ·by_cases p2:p=[0]
    ·subst p2;simp[Aa,OJ,Rt,BI,A.remake,Kq]
    ·simp[p1,p2,Aa]
  |ins a b c=>
   simp[e1,Vp,OJ,Rt,Aa];refine⟨by omega,by omega,⟨by omega,by omega⟩,?_⟩;refine Ed rfl rfl (fun p=>?_);by_cases p1:p=[]
   ·subst p1;simp[Aa,Lj]
   ·by_cases p2:p=[0]
    ·subst p2;simp[Aa,OJ,Rt,BI,A.remake,Kq]
    ·simp[p1,p2,Aa]
  |desc e=>
   simp[e1,Vp,OJ,Rt,Aa];refine⟨by omega,by omega,⟨by omega,by omega⟩,?_⟩;refine Ed rfl rfl (fun p=>?_);by_cases p1:p=[]
   ·subst p1;simp[Aa,Lj]
   ·by_cases p2:p=[0]
    ·subst p2;simp[Aa,OJ,Rt,BI,A.remake,Kq]
    ·simp[p1,p2,Aa]
def WI.row:WI→Option (Nat × Nat × List T)
 |.del k v l=>some (k,v,l)
 |.ins k v l=>some (k,v,l)
 |_=>none
def sZ (R:PB) (its:List WI):Prop:=∀ x,x ∈ its→∀ k v l,x.row=some (k,v,l)→R k=some (v,l)∧1≤k
theorem j7 {c:Cx} {s:Nat→A} {H:Hp} {its:List WI} {v K:Nat} {R:PB} (hH:∀ p,H (0::p)=(Qo its v none none R).F 0 p) (hK:∀ q,K≤q→R q=none) (hK1:1≤K):∃ H',Le c ⟨s,H⟩ ⟨s,H'⟩∧(∀ p,H' (0::p)=(Qo its v (some (K,1,[])) (some (K+1,1,[])) (E8 (E8 R K 1 []) (K+1) 1 [])).F 0 p):=by
 have h0:=hH [];simp[Lj] at h0;have hK0:H [0,K]=⟨0,.none⟩:=by rw[hH];simp[show ¬ K=0 by omega,hK K (Ei _),Yb]
 have hK2:H [0,K+1]=⟨0,.none⟩:=by rw[hH];simp[hK (K+1) (by omega),Yb]
 have l1:=Bc (c:=c) (s:=s) (H:=H) (d:=[0]) (u:=1) (cs:=[.osl [0,0] v 14 0 its.length,.sl true [],.sl true []]) 1 [0,K] 3 h0 rfl (by simp);refine⟨_,l1.trans (Bc (d:=[0]) (u:=1) (cs:=[.osl [0,0] v 14 0 its.length,.osl [0,K] 1 3 0 0,.sl true []]) 2 [0,K+1] 3 (by simp[Aa,hK0]) rfl (by simp)),fun p=>?_⟩;by_cases p1:p=[]
 ·subst p1;simp[Aa,Lj,hK0,hK2]
 ·by_cases p2:p=[0]
  ·subst p2;simp[Aa,hH,show ¬ 0=K by omega]
  ·match p,p1,p2 with
   |[q],p1,p2=>
    have hq0:¬ q=0:=fun e=>p2 (by rw[e]);by_cases e1:q=K
    ·subst e1;simp[Aa,E8,Yb,hK0,hq0]
    ·by_cases e2:q=K+1
     ·subst e2;simp[Aa,E8,Yb,hK2]
     ·simp[Aa,E8,hH,e1,e2,hq0]
   |_::_::_,p1,p2=>simp[Aa,hH,O8]
theorem oe {H:Hp} {R:PB} {its:List WI} {v:Nat} {g b:Option (Nat × Nat × List T)} (hH:∀ p,H (0::p)=(Qo its v g b R).F 0 p) (x:WI) (hx:∀ k v l,x.row=some (k,v,l)→R k=some (v,l)∧1≤k):Ic H (Rt 0 x) (oA x.op).cells:=by
 have key:∀ k v' l,x.row=some (k,v',l)→Gy H (.osl [0,k] v' 3 0 l.length) (Bx l):=fun k v' l h=>by
  obtain⟨h1,h2⟩:=hx k v' l h;have:=hH [k];simp[show ¬ k=0 by omega,h1,Yb] at this;exact A3 (f:=tA) (by rw[this];simp) rfl (by simp)
 have hraw:Ic H BI (eL E0):=⟨Ad rfl,Ad rfl,Ah,Ah,Ad rfl,Ah,Ah,Ah,Ah,Ad rfl,Ah,trivial⟩;rw[oA_eq];cases x with
 |keep n=>exact⟨Ad rfl,Ad rfl,Ah,hraw⟩
 |del k v' l=>exact⟨Ad rfl,Ad rfl,key k v' l rfl,hraw⟩
 |ins k v' l=>exact⟨Ad rfl,Ad rfl,key k v' l rfl,hraw⟩
 |desc e=>exact⟨Ad rfl,Ad rfl,Ah,Ad rfl,Ad rfl,Ad rfl,Ad rfl,Ad rfl,Ad rfl,Ad rfl,Ad rfl,Ad rfl,Ad rfl,Ad rfl,trivial⟩
theorem Wa {H:Hp}:∀ {a b a' b':List A},Ic H a a'→Ic H b b'→a.length=a'.length→Ic H (a++b) (a'++b')
 |[],b,[],b',_,h,_=>h
 |x::a,b,y::a',b',h1,h,hl=>⟨h1.1,Wa h1.2 h (by simpa using hl)⟩
 |[],b,y::a',b',_,_,hl=>by simp at hl
 |x::a,b,[],b',_,_,hl=>by simp at hl
theorem i6 {H:Hp} {R:PB} {its:List WI} {v:Nat} {g b:Option (Nat × Nat × List T)} (hH:∀ p,H (0::p)=(Qo its v g b R).F 0 p) (hx:sZ R its):Gy H (.osl [0,0] v 14 0 its.length) (IW (its.map WI.op)):=by
 have h1:=hH [0];simp at h1;refine QB (o:=[0,0]) (u:=v) (off:=0) (len:=its.length) (sz:=14) (xs:=its.map (OJ 0)) (ys:=(its.map WI.op).map oA) (by rw[MG,h1];simp) (by simp) (by simp) (fun y hy=>by
  obtain⟨x,_,rfl⟩:=List.mem_map.1 hy;simp) ?_ ?_
 ·have:∀ l:List OP,A.ones ((l.map oA).flatMap A.cells)=true:=fun l=>by
   induction l with
   |nil=>rfl
   |cons x l ih=>simp[A.ones] at ih ⊢
  exact this _
 ·rw[List.drop_zero,AN (by simp),List.map_map];have:∀ l:List WI,(∀ x,x ∈ l→x ∈ its)→Ic H ((l.map (OJ 0)).flatMap A.cells) ((l.map (oA ∘ WI.op)).flatMap A.cells):=fun l hl=>by
   induction l with
   |nil=>trivial
   |cons x l ih=>
    simp only[List.map_cons,List.flatMap_cons];exact Wa (oe hH x fun k v l h=>hx x (hl x (by simp)) k v l h) (ih fun y hy=>hl y (by simp[hy])) (by simp)
  exact this its fun x h=>h
theorem ZB (list:Int) (e:E) (h1:e.words.length≤100000000000000) (h2:e.kids.length≤100000000000000):G.Spec Tryz.prog 117 [iv list,eX e] (bv (P2 list e)):=by
 have e1:i64.wrap ((e.words.length:Int)+e.kids.length)=((e.words.length+e.kids.length:Nat):Int):=LR;refine Ag RH (by simp) fun w0 I0=>?_;unfold LO;by_cases k0:e.kind=0
 ·simp[k0,P2];exact Ad rfl
 ·by_cases k9:list=9
  ·by_cases k2:e.kind=2
   ·simp[k0,k9,k2,P2,e1];refine Aq ?_;rw[Bool.eq_iff_iff];simp only[decide_eq_true_eq,Bool.and_eq_true,List.isEmpty_iff];constructor
    ·intro h;exact⟨List.eq_nil_of_length_eq_zero (by omega),List.eq_nil_of_length_eq_zero (by omega)⟩
    ·rintro⟨h1,h2⟩;rw[h1,h2];rfl
   ·simp[k0,k9,k2,P2];exact Ad rfl
  ·simp[k0,k9,P2];exact Ad rfl
theorem PY (its:List WI) (g b:Nat × Nat × List T):(its++(Ex g++Bk b)).map WI.op=ld (its.map WI.op) g.2.2 b.2.2:=by
 obtain⟨a,c,l⟩:=g;obtain⟨a',c',l'⟩:=b;by_cases h1:l=[]<;>by_cases h2:l'=[]<;>simp[Ex,Bk,ld,vL,JU,h1,h2,WI.op]
theorem jF (J:List WI):(∃ i0 m,J=i0++[.keep m])∨(J=[]∨∃ i0 x,J=i0++[x]∧x.op.kind ≠ 0):=by
 rcases List.eq_nil_or_concat J with h | ⟨i0,x,h⟩
 ·exact .inr (.inl h)
 ·rw[List.concat_eq_append] at h;cases x with
  |keep m=>exact .inl ⟨i0,m,h⟩
  |del a b c=>exact .inr (.inr ⟨i0,.del a b c,h,by simp[WI.op]⟩)
  |ins a b c=>exact .inr (.inr ⟨i0,.ins a b c,h,by simp[WI.op]⟩)
  |desc e=>exact .inr (.inr ⟨i0,.desc e,h,by simp[WI.op]⟩)
theorem cH (l:List OP) (m n:Int) (t:List T) (e:E):jS (l++[.mk 0 m t e]) n=l++[.mk 0 (i64.wrap (m+n)) t e]:=by simp[jS]
theorem iZ (n:Int):jS [] n=[.mk 0 n [] E0]:=rfl
theorem fX (l:List OP) (x:OP) (n:Int) (h:x.kind ≠ 0):jS (l++[x]) n=l++[x]++[.mk 0 n [] E0]:=by
 obtain⟨k,m,t,e⟩:=x;unfold jS;rw[List.getLast?_append];simp only[List.getLast?_singleton,Option.some_or];split
 ·rename_i h2;injection h2 with h2;injection h2 with h2;exact absurd h2 h
 ·rfl
structure WrI (its:List WI) (g b:Nat × Nat × List T) (R:PB) (K:Nat):Prop where
 g1:1≤g.1
 b1:1≤b.1
 gb:g.1 ≠ b.1
 gK:g.1<K
 bK:b.1<K
 Rg:R g.1=some (g.2.1,g.2.2)
 Rb:R b.1=some (b.2.1,b.2.2)
 rK:∀ q,K≤q→R q=none
 it:sZ R its
 ng:∀ x,x ∈ its→∀ k v l,x.row=some (k,v,l)→k ≠ g.1∧k ≠ b.1
theorem WrI.flushed {its:List WI} {g b:Nat × Nat × List T} {R:PB} {K:Nat} (h:WrI its g b R K):sZ R (its++(Ex g++Bk b)):=by
 intro x hx k v l hr;rcases List.mem_append.1 hx with hx | hx
 ·exact h.it x hx k v l hr
 ·rcases List.mem_append.1 hx with hx | hx
  ·obtain⟨a,c,d⟩:=g;by_cases e:d=[]<;>simp[Ex,e] at hx
   subst hx;simp[WI.row] at hr;obtain⟨rfl,rfl,rfl⟩:=hr;exact⟨h.Rg,h.g1⟩
  ·obtain⟨a,c,d⟩:=b;by_cases e:d=[]<;>simp[Bk,e] at hx
   subst hx;simp[WI.row] at hr;obtain⟨rfl,rfl,rfl⟩:=hr;exact⟨h.Rb,h.b1⟩
theorem Vw {its:List WI} {g b:Nat × Nat × List T} {R:PB} {K:Nat} (h:WrI its g b R K) (hl:its.length≤1000000) (vo:Nat) (n:Int):∃ its2 v2,SpecF Tryz.prog 115 (fun r=>[gQ r,iv n]) (Qo its vo (some g) (some b) R) (fun _=>.tup []) (Qo its2 v2 none none R)∧its2.map WI.op=jS (ld (its.map WI.op) g.2.2 b.2.2) n∧its2.length≤its.length+3∧sZ R its2:=by
 have hF:=h.flushed;have d1:=NP g;have d2:=JQ b;rcases jF (its++(Ex g++Bk b)) with ⟨i0,m,hi⟩ | hi
 ·have hlen:=congrArg List.length hi;simp at hlen;refine⟨_,_,WO its i0 vo m n g b R hl h.Rg h.Rb h.g1 h.b1 hi,?_,?_,?_⟩
  ·rw[← PY,hi];simp[WI.op,cH]
  ·simp;omega
  ·rw[hi] at hF;intro x hx k v l hr;rcases List.mem_append.1 hx with hx | hx
   ·exact hF x (by simp[hx]) k v l hr
   ·simp at hx;subst hx;simp[WI.row] at hr
 ·refine⟨_,_,WQ its vo n g b R hl h.Rg h.Rb h.g1 h.b1 hi,?_,?_,?_⟩
  ·rw[← PY];rcases hi with hi | ⟨i0,x,hi,hx⟩
   ·rw[hi];simp[iZ,WI.op]
   ·rw[hi];simp only[List.map_append,List.map_cons,List.map_nil];rw[fX _ _ _ hx];simp[WI.op]
  ·simp;omega
  ·intro x hx k v l hr;rcases List.mem_append.1 hx with hx | hx
   ·exact hF x hx k v l hr
   ·simp at hx;subst hx;simp[WI.row] at hr
structure OpG (o:OP):Prop where
 k:o.kind=0∨o.kind=1∨o.kind=2∨o.kind=3
 l:∀ t,t ∈ o.l→AD t
 e:o.kind=3→G.Spec Tryz.prog 43 [eX o.e] (eX (Un o.e))∧(Un o.e).words.length≤100000000000000∧(Un o.e).kids.length≤100000000000000
def WX (os:List OP):Nat:=(os.map fun o=>o.l.length).sum
theorem ZV (o:OP) (os:List OP):WX (o::os)=o.l.length+WX os:=by simp[WX]
theorem lZ {list:Int} {os:List OP} (hos:∀ o,o ∈ os→OpG o) (hol:os.length≤300000) {res:List OP}
  (hq:∀ (H:Hp) (its:List WI) (v:Nat) (g b:Nat × Nat × List T) (R:PB) (K:Nat) st,(∀ p,H (0::p)=(Qo its v (some g) (some b) R).F 0 p)→WrI its g b R K→ld (its.map WI.op) g.2.2 b.2.2=res→its.length≤1000000→Q (.exit 0) ⟨lk ([(0,iv list),(5,gQ 0)]++st),H⟩):∀ (m i:Nat) (its:List WI) (v:Nat) (g b:Nat × Nat × List T) (R:PB) (K:Nat) (H:Hp),i+m=os.length→its.length≤3*i→g.2.2.length+b.2.2.length+WX (os.drop i)≤1000000→WrI its g b R K→(∀ p,H (0::p)=(Qo its v (some g) (some b) R).F 0 p)→Ow list ((os.drop i).map gj) (its.map WI.op) g.2.2 b.2.2=res →
  LoopC (cx Tryz.prog w0 I0 n0) E5 Q ⟨lk [(0,iv list),(5,gQ 0),(11,IW os),(12,iv os.length),(13,iv i)],H⟩:=by
 intro m;induction m with
 |zero=>
  intro i its v g b R K H hm hil hsum hW hH hres;refine Ab Aj E5.eq_1 ?_;have:i=os.length:=by omega
  subst this;rw[List.drop_length,List.map_nil,Ow] at hres;simp;exact hq H its v g b R K [(11,IW os),(12,iv os.length),(13,iv os.length),(14,bv false)] hH hW hres (by omega)
 |succ m ih=>
  intro i its v g b R K H hm hil hsum hW hH hres;have hi:i<os.length:=by omega
  have ew:=AI i;have hd:os.drop i=os[i]::os.drop (i+1):=(List.getElem_cons_drop hi).symm;have hO:=hos _ (BD hi);rw[hd,List.map_cons,Ow] at hres;rw[hd,ZV] at hsum;have hoi:(os.map oA)[i]? = some (oX os[i]):=by simp[hi]
  generalize ho:os[i]=o at *;have hnk:(gj o).kind=o.kind:=rfl;have hnn:(gj o).n=o.n:=rfl;have hnl:(gj o).l=o.l:=rfl;have hne:(gj o).e=Un o.e:=rfl;rw[hnk,hnn,hnl,hne] at hres
  -- what goes on when all is laid
  have next:∀ (its2:List WI) (v2:Nat) (H2:Hp),its2.length≤its.length+3→(∀ p,H2 (0::p)=(Qo its2 v2 none none R).F 0 p)→sZ R its2→Ow list ((os.drop (i+1)).map gj) (its2.map WI.op) [] []=res→LoopC (cx Tryz.prog w0 I0 n0) E5 Q ⟨lk [(0,iv list),(5,gQ 0),(11,IW os),(12,iv os.length),(13,iv (i+1:Nat))],H2⟩:=fun its2 v2 H2 h1 h2 h3 h4=>by
   obtain⟨H3,hle,hF⟩:=j7 (c:=cx Tryz.prog w0 I0 n0) (s:=lk [(0,iv list),(5,gQ 0),(11,IW os),(12,iv os.length),(13,iv (i+1:Nat))]) h2 hW.rK (by have:=hW.gK;omega);refine LoopC.le hle ?_;refine ih (i+1) its2 v2 (K,1,[]) (K+1,1,[]) _ (K+2) H3 (by omega) (by omega) (by simp;omega) ?_ hF h4;have hg:=hW.g1;have hgK:=hW.gK;refine⟨by simp;omega,by simp,by simp,by simp,by simp,by simp[E8],by simp[E8],fun q hq=>?_,fun x hx k v' l hr=>?_,fun x hx k v' l hr=>?_⟩
   ·simp[E8,show ¬ q=K+1 by omega,show ¬ q=K by omega];exact hW.rK q (by omega)
   ·obtain⟨a1,a2⟩:=h3 x hx k v' l hr;have hkK:k<K:=by
     by_cases e:K≤k
     ·rw[hW.rK k e] at a1;cases a1
     ·omega
    exact⟨by simp[E8,show ¬ k=K+1 by omega,show ¬ k=K by omega,a1],a2⟩
   ·obtain⟨a1,a2⟩:=h3 x hx k v' l hr;have hkK:k<K:=by
     by_cases e:K≤k
     ·rw[hW.rK k e] at a1;cases a1
     ·omega
    exact⟨by simp;omega,by simp;omega⟩
  refine Ab Aj E5.eq_1 ?_;rcases hO.k with h0 | h0 | h0 | h0
  ·rw[if_pos h0] at hres;obtain⟨its2,v2,S1,S2,S3,S4⟩:=Vw hW (by omega) v o.n;rw[← S2] at hres;simp[hi,ho,h0,Aa];refine Bp 0 S1 (fun p=>by simp[Aa,hH]) (by simp) (by simp) ?_;simp[ew];exact next its2 v2 _ S3 (fun p=>by simp) S4 hres
  ·rw[if_neg (by omega),if_pos h0] at hres;have hF:=Xx its v g.1 g.2.1 g.2.2 (some b) R hW.Rg hW.g1 (fun x hx=>by cases hx;exact Ne.symm hW.gb) hO.l (by omega);simp[hi,ho,h0,Aa];refine Bp 0 hF (fun p=>by simp[Aa,hH]) (by simp) (by simp) ?_;simp[ew];refine ih (i+1) its v (g.1,g.2.1+o.l.length,g.2.2++o.l.map Af) b (E8 R g.1 (g.2.1+o.l.length) (g.2.2++o.l.map Af)) K _ (by omega) (by omega) (by simp;omega) ?_ (fun p=>by simp) hres;have w1:=hW.g1;have w2:=hW.gK;refine⟨hW.g1,hW.b1,hW.gb,hW.gK,hW.bK,by simp[E8],?_,fun q hq=>?_,fun x hx k v' l hr=>?_,fun x hx k v' l hr=>hW.ng x hx k v' l hr⟩
   ·simp only[E8,if_neg (Ne.symm hW.gb)];exact hW.Rb
   ·simp only[E8,if_neg (show ¬ q=g.1 by omega)];exact hW.rK q hq
   ·obtain⟨a1,a2⟩:=hW.it x hx k v' l hr;exact⟨by simp only[E8,if_neg (hW.ng x hx k v' l hr).1];exact a1,a2⟩
  ·rw[if_neg (by omega),if_neg (by omega),if_pos h0] at hres;have hF:=Xv its v b.1 b.2.1 b.2.2 (some g) R hW.Rb hW.b1 hO.l (by omega);simp[hi,ho,h0,Aa];refine Bp 0 hF (fun p=>by simp[Aa,hH]) (by simp) (by simp) ?_;simp[ew];refine ih (i+1) its v g (b.1,b.2.1+o.l.length,b.2.2++o.l.map Af) (E8 R b.1 (b.2.1+o.l.length) (b.2.2++o.l.map Af)) K _ (by omega) (by omega) (by simp;omega) ?_ (fun p=>by simp) hres;have w2:=hW.bK;refine⟨hW.g1,hW.b1,hW.gb,hW.gK,hW.bK,?_,by simp[E8],fun q hq=>?_,fun x hx k v' l hr=>?_,fun x hx k v' l hr=>hW.ng x hx k v' l hr⟩
   ·simp only[E8,if_neg hW.gb];exact hW.Rg
   ·simp only[E8,if_neg (show ¬ q=b.1 by omega)];exact hW.rK q hq
   ·obtain⟨a1,a2⟩:=hW.it x hx k v' l hr;exact⟨by simp only[E8,if_neg (hW.ng x hx k v' l hr).2];exact a1,a2⟩
  ·rw[if_neg (by omega),if_neg (by omega),if_neg (by omega)] at hres;obtain⟨E1,E2,E3⟩:=hO.e h0;have hI:=ZB list (Un o.e) E2 E3;simp[hi,ho,h0,Aa];refine Ae E1 (by simp) ?_;simp[Aa];refine Ae hI (by simp) ?_;cases hid:P2 list (Un o.e) with
   |true=>
    rw[if_pos hid] at hres;obtain⟨its2,v2,S1,S2,S3,S4⟩:=Vw hW (by omega) v 1;rw[← S2] at hres;simp;refine Bp 0 S1 (fun p=>by simp[Aa,hH]) (by simp) (by simp) ?_;simp[ew];exact next its2 v2 _ S3 (fun p=>by simp) S4 hres
   |false=>
    rw[if_neg (by rw[hid];decide),← PY] at hres;have F1:=Hd its v g b R (by omega) hW.Rg hW.Rb hW.g1 hW.b1;have d1:=NP g;have d2:=JQ b;simp;refine Bp 0 F1 (fun p=>by simp[Aa,hH]) (by simp) (by simp) ?_;have hJl:(its++(Ex g++Bk b)).length≤its.length+2:=by simp;omega
    have hJr:=hW.flushed;have next':=next (its++(Ex g++Bk b)++[.desc (Un o.e)]) (v+(Ex g++Bk b).length+1)
    generalize its++(Ex g++Bk b)=J at *;generalize v+(Ex g++Bk b).length=v1 at *;simp[Aa,PV,iQ,Vp,ew];refine⟨by omega,by omega,?_⟩;refine next' _ (by simp;omega) (fun p=>?_) (fun x hx k v' l hr=>?_) ?_
    ·by_cases p1:p=[]
     ·subst p1;simp[Aa,Lj]
     ·by_cases p2:p=[0]
      ·subst p2;simp[Aa,OJ,Rt]
      ·simp[p1,p2,Aa]
    ·rcases List.mem_append.1 hx with hx | hx
     ·exact hJr x hx k v' l hr
     ·simp at hx;subst hx;simp[WI.row] at hr
    ·simpa[WI.op] using hres
theorem Vv {list:Int} {os:List OP} (hos:∀ o,o ∈ os→OpG o) (hol:os.length≤300000) (hsum:WX os≤1000000):G.Spec Tryz.prog 72 [iv list,IW os] (IW (Ow list (os.map gj) [] [] [])):=by
 refine Ag Tv (by simp) fun w0 I0=>?_;unfold Nj;simp;refine LoopC.le (Bc (d:=[0]) (u:=1) (cs:=[.sl true [],.sl true [],.sl true []]) 0 [0,0] 14 rfl rfl (by simp)) ?_;obtain⟨H3,hle,hF⟩:=j7 (c:=cx Tryz.prog w0 I0 72) (s:=lk [(0,iv list),(5,gQ 0),(11,IW os),(12,iv os.length),(13,iv (0:Nat))]) (H:=Az (Az (Ga [([0],⟨1,.cells [.sl true [],.sl true [],.sl true []]⟩)]) [0,0] ⟨1,.arr 14 []⟩) [0] ⟨1,.cells [.osl [0,0] 1 14 0 0,.sl true [],.sl true []]⟩) (its:=[]) (v:=1) (K:=1) (R:=fun _=>none) (fun p=>by
  by_cases p1:p=[]
  ·subst p1;simp[Aa,Lj]
  ·by_cases p2:p=[0]
   ·subst p2;simp[Aa]
   ·match p,p1,p2 with
    |[q],p1,p2=>
     have hq0:¬ q=0:=fun e=>p2 (by rw[e]);simp[Aa,Yb,hq0,Ne.symm hq0]
    |_::_::_,p1,p2=>simp[Aa,O8]) (fun q _=>rfl) (by omega)
 refine LoopC.le hle ?_;refine lZ hos hol (res:=Ow list (os.map gj) [] [] []) (fun H its v g b R K st hH hW hres hil=>?_) os.length 0 [] 1 (1,1,[]) (1+1,1,[]) _ 3 H3 (by omega) (by simp) (by simpa using hsum) ?_ hF (by simp)
 ·have F1:=Hd its v g b R hil hW.Rg hW.Rb hW.g1 hW.b1;have hJr:=hW.flushed;have hm:=PY its g b;rw[hres] at hm;simp;refine Bp 0 F1 hH (by simp) (by simp) ?_;simp;rw[← hm];have:=i6 (H:=ov 0 ((Qo (its++(Ex g++Bk b)) (v+(Ex g++Bk b).length) none none R).F 0) H) (its:=its++(Ex g++Bk b)) (v:=v+(Ex g++Bk b).length) (g:=none) (b:=none) (R:=R) (fun p=>by simp) hJr;simpa using this
 ·refine⟨by simp,by simp,by simp,by simp,by simp,by simp[E8],by simp[E8],fun q hq=>?_,fun x hx=>by simp at hx,fun x hx=>by simp at hx⟩;simp[E8,show ¬ q=1 by omega,show ¬ q=2 by omega]
mutual
def gM:E→Prop
 |.mk k o n ws ks l os=>(k=0∨k=1∨k=2∨k=3)∧(k ≠ 3→l=0)∧(k=1→AD o∧AD n)∧ws.length≤1000000∧ks.length≤1000000∧os.length≤300000∧WX os≤1000000∧(k=2→dc ks)∧(k=3→iU os)
def dc:List KE→Prop
 |[]=>True
 |.mk a e::l=>gM e∧dc l
def iU:List OP→Prop
 |[]=>True
 |.mk k n t e::l=>((k=0∨k=1∨k=2∨k=3)∧(∀ x,x ∈ t→AD x)∧(k=3→gM e))∧iU l
end
theorem VC:∀ {l:List KE},dc l→∀ x,x ∈ l→gM x.e
 |[],_,x,hx=>by simp at hx
 |.mk a e::l,h,x,hx=>by
  rw[dc] at h;rcases List.mem_cons.1 hx with rfl | hx
  ·exact h.1
  ·exact VC h.2 x hx
theorem V5:∀ {l:List OP},iU l→∀ x,x ∈ l→(x.kind=0∨x.kind=1∨x.kind=2∨x.kind=3)∧(∀ t,t ∈ x.l→AD t)∧(x.kind=3→gM x.e)
 |[],_,x,hx=>by simp at hx
 |.mk k n t e::l,h,x,hx=>by
  rw[iU] at h;rcases List.mem_cons.1 hx with rfl | hx
  ·exact h.1
  ·exact V5 h.2 x hx
theorem fj (e:E) (h:gM e):(Un e).words.length≤100000000000000∧(Un e).kids.length≤100000000000000:=by
 obtain⟨k,o,n,ws,ks,l,os⟩:=e;rw[gM] at h;rw[Xa];split
 ·simp
 ·split
  ·simp;omega
  ·split<;>simp
theorem dy {ks:List KE} (hl:ks.length≤1000000) (hk:∀ x,x ∈ ks→G.Spec Tryz.prog 43 [eX x.e] (eX (Un x.e))) {v1 v3:VOb} {W:A}
  (hq:∀ H u st,H [1]=v1→H [3]=v3→H [2]=⟨1,.cells [iv 2,iv 0,.sl true [],.sl true [],iv 0,.sl true [],.sl true [],W,.osl [5] u 12 0 ks.length,iv 0,.sl true []]⟩→H [5]=⟨u,.arr 12 (ks.map (kA ∘ ik))⟩→Q (.exit 1) ⟨lk ([(2,.pob [1] 1 0),(3,.pob [2] 1 0)]++st),H⟩):∀ (m i u:Nat) (H:Hp),i+m=ks.length→H [1]=v1→H [3]=v3→H [2]=⟨1,.cells [iv 2,iv 0,.sl true [],.sl true [],iv 0,.sl true [],.sl true [],W,.osl [5] u 12 0 i,iv 0,.sl true []]⟩→H [5]=⟨u,.arr 12 ((ks.take i).map (kA ∘ ik))⟩ →
  LoopC (cx Tryz.prog w0 I0 n0) FJ Q ⟨lk [(2,.pob [1] 1 0),(3,.pob [2] 1 0),(32,Ka ks),(33,iv ks.length),(34,iv i)],H⟩:=by
 intro m;induction m with
 |zero=>
  intro i u H hm h1 h3 h2 h5;refine Ab Aj FJ.eq_1 ?_;have:i=ks.length:=by omega
  subst this;rw[AN (Ei _)] at h5;simp;exact hq H u [(32,Ka ks),(33,iv ks.length),(34,iv ks.length),(35,bv false)] h1 h3 h2 h5
 |succ m ih=>
  intro i u H hm h1 h3 h2 h5;have hi:i<ks.length:=by omega
  have ew:=AI i;have hE:=hk _ (BD hi);have htk:(ks.take (i+1)).map (kA ∘ ik)=(ks.take i).map (kA ∘ ik)++[kA (ik ks[i])]:=by rw[Kj hi,List.map_append];rfl
  have next:=ih (i+1) (u+1)
  rw[htk] at next
  generalize hx:ks[i]=x at *;refine Ab Aj FJ.eq_1 ?_;simp[hi,hx,Aa,h2];refine Ae hE (by simp[Aa]) ?_;simp[Aa,h2,h5,ew];refine⟨⟨by omega,by omega⟩,?_⟩;refine next _ (by omega) (by simp[Aa,h1]) (by simp[Aa,h3]) (by simp[Aa]) ?_
  simp[Aa,List.take_take,ik]
theorem Xt:∀ e:E,gM e→G.Spec Tryz.prog 43 [eX e] (eX (Un e)):=by
 refine E.ind fun k o n ws ks l os ihk iho h=>?_;rw[gM] at h;obtain⟨hk,hl,hon,hwl,hkl,hol,hsum,hks,hos⟩:=h;refine Ag RZ (by simp) fun w0 I0=>?_;unfold LN;rw[Xa];rcases hk with rfl | rfl | rfl | rfl
 ·simp[hl (by decide)];exact AE ⟨Ad rfl,Ad rfl,Ah,Ah,Ad rfl,Ah,Ah,Ah,Ah,Ad rfl,Ah,trivial⟩
 ·obtain⟨ho,hn⟩:=hon rfl;simp[hl (by decide)];refine Ae (CB o ho) (by simp) ?_;simp[Aa];refine Ae (CB n hn) (by simp) ?_;simp[Aa];exact AE ⟨Ad rfl,T7 (Hx o).symm,Ad rfl,Ad rfl,T7 (Hx n).symm,Ad rfl,Ad rfl,Ah,Ah,Ad rfl,Ah,trivial⟩
 ·simp[hl (by decide)];refine⟨by omega,?_⟩;refine LoopC.le (Bc (d:=[2]) (u:=1) (cs:=[iv 2,iv 0,.sl true [],.sl true [],iv 0,.sl true [],.sl true [],.osl [3] 1 4 0 ws.length,.sl true [],iv 0,.sl true []]) 8 [5] 12 rfl rfl (by simp)) ?_;refine LoopC.le (Ay [(2,.pob [1] 1 0),(3,.pob [2] 1 0),(32,Ka ks),(33,iv ks.length),(34,iv (0:Nat))] (by simp)) ?_;refine dy hkl (fun x hx=>ihk x hx (VC (hks rfl) x hx)) (W:=.osl [3] 1 4 0 ws.length) (fun H u st h1 h3 h2 h5=>?_) ks.length 0 1 _ (by omega) rfl rfl (by simp[Aa]) (by simp[Aa]);have h3':H [3]=⟨1,.arr 4 (ws.map wA)⟩:=by rw[h3];simp[Aa]
  simp[h2,h1,Aa];have fw:=A3 (H:=Az H [1] ⟨1,.cells [iv 2,iv 0,.sl true [],.sl true [],iv 0,.sl true [],.sl true [],.osl [3] 1 4 0 ws.length,.osl [5] u 12 0 ks.length,iv 0,.sl true []]⟩) (o:=[3]) (u:=1) (sz:=4) (l:=ws) (f:=wA) (n:=ws.length) (by simp[Aa,h3']) rfl (fun x=>rfl);have fk:=A3 (H:=Az H [1] ⟨1,.cells [iv 2,iv 0,.sl true [],.sl true [],iv 0,.sl true [],.sl true [],.osl [3] 1 4 0 ws.length,.osl [5] u 12 0 ks.length,iv 0,.sl true []]⟩) (o:=[5]) (u:=u) (sz:=12) (l:=ks) (f:=kA ∘ ik) (n:=ks.length) (by simp[Aa,h5]) rfl (fun x=>by simp);rw[← List.map_map] at fk;exact AE ⟨Ad rfl,Ad rfl,Ah,Ah,Ad rfl,Ah,Ah,fw,fk,Ad rfl,Ah,trivial⟩
 ·have hO:=Vv (list:=l) (os:=os) (fun x hx=>by
   obtain⟨a,b,c⟩:=V5 (hos rfl) x hx;exact⟨a,b,fun h=>⟨iho x hx (c h),fj _ (c h)⟩⟩) hol hsum
  simp;refine Ae hO (by simp[Aa]) ?_;simp[Aa];exact AE ⟨Ad rfl,Ad rfl,Ah,Ah,Ad rfl,Ah,Ah,Ah,Ah,Ad rfl,Ah,trivial⟩
inductive RI where
 |keep (n:Int)
 |del (l:List T)
 |ins (l:List T)
 |desc (e:E)
def RI.op:RI→OP
 |.keep n=>.mk 0 n [] E0
 |.del l=>.mk 1 0 l E0
 |.ins l=>.mk 2 0 l E0
 |.desc e=>.mk 3 0 [] e
inductive IT where
 |r (x:RI)
 |got (o:OP)
def IT.op:IT→OP
 |.r x=>x.op
 |.got o=>o
theorem MJ {α:Type} {H:Hp} {o:Nm} {u n sz:Nat} {l:List α} {f g:α→A} (h:vr (H o) u=some (sz,l.map f)) (hn:n=l.length)
  (hf:∀ x,x ∈ l→(f x).cells.all A.bare=true∧(f x).cells.map A.soft=(g x).cells∧(g x).cells.length=sz∧A.ones (g x).cells=true):Gy H (.osl o u sz 0 n) (.sl false (l.map g)):=by
 subst hn;refine QB (xs:=l.map f) (by simpa using h) (by simp) (by simp) (fun y hy=>?_) ?_ ?_
 ·obtain⟨x,hx,rfl⟩:=List.mem_map.1 hy;exact(hf x hx).2.2.1
 ·simp only[A.ones,List.all_eq_true,List.mem_flatMap];rintro y ⟨z,hz,hy⟩;obtain⟨x,hx,rfl⟩:=List.mem_map.1 hz;have:=(hf x hx).2.2.2;simp only[A.ones,List.all_eq_true] at this;exact this y hy
 ·rw[List.drop_zero,AN (by simp)];have:∀ (m:List α),(∀ x,x ∈ m→x ∈ l)→Ic H ((m.map f).flatMap A.cells) ((m.map g).flatMap A.cells):=by
   intro m;induction m with
   |nil=>intro _;simp
   |cons x m ih=>
    intro hm;obtain⟨h1,h2,_,_⟩:=hf x (hm x (by simp));simp only[List.map_cons,List.flatMap_cons];rw[← h2];have hr:=ih fun y hy=>hm y (by simp[hy]);have:∀ (c:List A) (p q:List A),c.all A.bare=true→Ic H p q→Ic H (c++p) (c.map A.soft++q):=by
     intro c;induction c with
     |nil=>intro p q _ hpq;exact hpq
     |cons y c ihc=>
      intro p q hc hpq;simp only[List.all_cons,Bool.and_eq_true] at hc;exact⟨fW hc.1,ihc p q hc.2 hpq⟩
    exact this _ _ _ h1 hr
  exact this l fun x h=>h
section
variable {n0:Nat} {w0:World} {I0:Nat→Prop}
end
theorem Sf (a b:T) (i:Nat):KC a b (i+1)=KC a b i++(if Dw (a.words.getD i 0) (b.words.getD i 0)=0 then [] else [SM i (a.words.getD i 0) (b.words.getD i 0)]):=by
 unfold KC;rw[List.range_succ,List.filterMap_append];congr 1;by_cases h:Dw (a.words.getD i 0) (b.words.getD i 0)=0
 ·simp only[List.filterMap_cons,List.filterMap_nil,h,if_true]
 ·simp only[List.filterMap_cons,List.filterMap_nil,h,if_false]
theorem Vr (a b:T):∀ i,(KC a b i).length≤i
 |0=>by simp[KC]
 |i+1=>by
  have:=Vr a b i;rw[Sf];split<;>simp<;>omega
theorem Pg (one:T→T→E) (a b:T) (i:Nat):FU one a b (i+1)=FU one a b i++(if (one (a.kids.getD i T0) (b.kids.getD i T0)).kind=0 then [] else [.mk i (one (a.kids.getD i T0) (b.kids.getD i T0))]):=by
 unfold FU;rw[List.range_succ,List.filterMap_append];congr 1;by_cases h:(one (a.kids.getD i T0) (b.kids.getD i T0)).kind=0
 ·simp only[List.filterMap_cons,List.filterMap_nil,h,if_true]
 ·simp only[List.filterMap_cons,List.filterMap_nil,h,if_false]
theorem QZ (one:T→T→E) (a b:T):∀ i,(FU one a b i).length≤i
 |0=>by simp[FU]
 |i+1=>by
  have:=QZ one a b i;rw[Pg];split<;>simp<;>omega
def aK (u n:Nat) (k:A):List A:=[iv 2,iv 0,.sl true [],.sl true [],iv 0,.sl true [],.sl true [],.osl [5] u 4 0 n,k,iv 0,.sl true []]
theorem wC {a b:T} (ha:AD a) (hb:AD b) {most:A} {N:Nat} (hN:N≤1000000)
  (hq:∀ (H':Hp) (u:Nat),H' [0]=⟨1,.cells (tL a)⟩→H' [1]=⟨1,.cells (tL b)⟩→H' [2]=⟨1,.cells BI⟩→H' [3]=⟨1,.cells (aK u (KC a b N).length (.sl true []))⟩→H' [5]=⟨u,.arr 4 ((KC a b N).map wA)⟩→H' [6]=⟨0,.none⟩→H' [7]=⟨0,.none⟩ →
   Q (.exit 0) ⟨lk [(2,most),(3,.pob [0] 1 0),(4,.pob [1] 1 0),(6,.pob [2] 1 0),(7,.pob [3] 1 0),(20,iv N),(21,iv N),(22,bv false)],H'⟩) :
  ∀ (m i:Nat) (u:Nat) (H:Hp),i+m=N→H [0]=⟨1,.cells (tL a)⟩→H [1]=⟨1,.cells (tL b)⟩→H [2]=⟨1,.cells BI⟩→H [3]=⟨1,.cells (aK u (KC a b i).length (.sl true []))⟩→H [5]=⟨u,.arr 4 ((KC a b i).map wA)⟩→H [6]=⟨0,.none⟩→H [7]=⟨0,.none⟩ →
  LoopC (cx Tryz.prog w0 I0 n0) Er Q ⟨lk [(2,most),(3,.pob [0] 1 0),(4,.pob [1] 1 0),(6,.pob [2] 1 0),(7,.pob [3] 1 0),(20,iv N),(21,iv i)],H⟩:=by
 intro m;induction m with
 |zero=>
  intro i u H hm h0 h1 h2 h3 h5 h6 h7;have:i=N:=by omega
  subst this;refine Ab Aj Er.eq_1 ?_;simp;exact hq H u h0 h1 h2 h3 h5 h6 h7
 |succ m ih=>
  intro i u H hm h0 h1 h2 h3 h5 h6 h7;have hlt:i<N:=by omega
  have ew:=AI i;have hwa:AA (a.words.getD i 0):=kN ha i;have hwb:AA (b.words.getD i 0):=kN hb i;have hW:=Xf (i:=i) hwa hwb;have hwl:=Vr a b i;have next:=ih (i+1)
  rw[Sf] at next
  refine Ab Aj Er.eq_1 ?_;simp[hlt,h0,h1];refine Ae (C6 a i) (by simp) ?_;simp[h0,h1];refine Ae (C6 b i) (by simp) ?_;simp;refine Ae hW (by simp) ?_;generalize a.words.getD i 0=x at *;generalize b.words.getD i 0=y at *;by_cases hz:Dw x y=0
  ·rw[if_pos hz] at next
   simp[hz,Aa];rw[ew];refine next u _ (by omega) (by simp[Aa,h0]) (by simp[Aa,h1]) (by simp[Aa,h2]) (by simp[Aa,h3]) (by simp[Aa,h5]) (by simp[Aa,h6]) (by simp[Aa,h7])
  ·rw[if_neg hz] at next
   simp[hz,Aa,h3,h5,aK];refine⟨by omega,?_⟩;rw[ew];refine next (u+1) _ (by omega) (by simp[Aa,h0]) (by simp[Aa,h1]) (by simp[Aa,h2]) (by simp[Aa,aK]) (by simp[Aa,AN]) (by simp[Aa,h6]) (by simp[Aa,h7])
theorem vE {one:T→T→E} {a b:T} {most:Int} {N:Nat} (hN:N≤1000000) (hone:∀ i:Nat,G.Spec Tryz.prog 44 [tX (a.kids.getD i T0),tX (b.kids.getD i T0),iv most] (eX (one (a.kids.getD i T0) (b.kids.getD i T0)))) {u n:Nat} {ws:List WE}
  (hq:∀ (H':Hp) (v:Nat),H' [3]=⟨1,.cells (aK u n (.osl [7] v 12 0 (FU one a b N).length))⟩→H' [5]=⟨u,.arr 4 (ws.map wA)⟩→H' [7]=⟨v,.arr 12 ((FU one a b N).map kA)⟩→H' [2]=⟨1,.cells BI⟩ →
   Q (.exit 2) ⟨lk [(2,iv most),(3,.pob [0] 1 0),(4,.pob [1] 1 0),(6,.pob [2] 1 0),(7,.pob [3] 1 0),(49,iv N),(50,iv N),(51,bv false)],H'⟩) :
  ∀ (m i:Nat) (v:Nat) (H:Hp),i+m=N→H [0]=⟨1,.cells (tL a)⟩→H [1]=⟨1,.cells (tL b)⟩→H [2]=⟨1,.cells BI⟩→H [3]=⟨1,.cells (aK u n (.osl [7] v 12 0 (FU one a b i).length))⟩→H [5]=⟨u,.arr 4 (ws.map wA)⟩→H [7]=⟨v,.arr 12 ((FU one a b i).map kA)⟩ →
  LoopC (cx Tryz.prog w0 I0 n0) Ew Q ⟨lk [(2,iv most),(3,.pob [0] 1 0),(4,.pob [1] 1 0),(6,.pob [2] 1 0),(7,.pob [3] 1 0),(49,iv N),(50,iv i)],H⟩:=by
 intro m;induction m with
 |zero=>
  intro i v H hm h0 h1 h2 h3 h5 h7;have:i=N:=by omega
  subst this;refine Ab Aj Ew.eq_1 ?_;simp;exact hq H v h3 h5 h7 h2
 |succ m ih=>
  intro i v H hm h0 h1 h2 h3 h5 h7;have hlt:i<N:=by omega
  have ew:=AI i;have hO:=hone i;have hkl:=QZ one a b i;have next:=ih (i+1)
  rw[Pg] at next
  have K1:=DC a i;have K2:=DC b i;generalize a.kids.getD i T0=x at *;generalize b.kids.getD i T0=y at *;generalize one x y=e at *;refine Ab Aj Ew.eq_1 ?_;simp[hlt,h0,h1];refine Ae K1 (by simp) ?_;simp[h0,h1];refine Ae K2 (by simp) ?_;simp;refine Ae hO (by simp) ?_;by_cases hz:e.kind=0
  ·rw[if_pos hz] at next
   simp[hz,Aa];rw[ew];refine next v _ (by omega) (by simp[Aa,h0]) (by simp[Aa,h1]) (by simp[Aa,h2]) (by simp[Aa,h3]) (by simp[Aa,h5]) (by simp[Aa,h7])
  ·rw[if_neg hz] at next
   simp[hz,Aa,h3,h7,aK];refine⟨by omega,?_⟩;rw[ew];refine next (v+1) _ (by omega) (by simp[Aa,h0]) (by simp[Aa,h1]) (by simp[Aa,h2]) (by simp[Aa,aK]) (by simp[Aa,h5]) (by simp[Aa,AN])
theorem Q4 {one:T→T→E} {a b:T} (ha:AD a) (hb:AD b) (h1:a.words.length≤1000000) (h2:b.words.length≤1000000) (h3:a.kids.length≤1000000) (h4:b.kids.length≤1000000) {most:Int} (hone:∀ i:Nat,G.Spec Tryz.prog 44 [tX (a.kids.getD i T0),tX (b.kids.getD i T0),iv most] (eX (one (a.kids.getD i T0) (b.kids.getD i T0)))) :
  G.Spec Tryz.prog 73 [tX a,tX b,iv most] (eX (n6 one a b)):=by
 refine Ag N8 (by simp) fun w0 I0=>?_;unfold Jj;simp;refine LoopC.le (Bc (d:=[3]) (u:=1) (cs:=[iv 2,iv 0,.sl true [],.sl true [],iv 0,.sl true [],.sl true [],.sl true [],.sl true [],iv 0,.sl true []]) 7 [5] 4 (by simp[Aa]) rfl (by simp)) ?_;refine LoopC.le (Ay [(2,iv most),(3,.pob [0] 1 0),(4,.pob [1] 1 0),(6,.pob [2] 1 0),(7,.pob [3] 1 0),(20,iv (max a.words.length b.words.length:Nat)),(21,iv (0:Nat))] (by simp;omega)) ?_;refine wC ha hb (N:=max a.words.length b.words.length) (by omega) (fun H' u g0 g1 g2 g3 g5 g6 g7=>?_) (max a.words.length b.words.length) 0 1 _ (by omega) (by simp[Aa]) (by simp[Aa]) (by simp[Aa,BI]) (by simp[Aa,aK,KC]) (by simp[Aa,KC]) (by simp[Aa]) (by simp[Aa]);simp[g0,g1];refine LoopC.le (Bc (d:=[3]) (u:=1) (cs:=aK u (KC a b (max a.words.length b.words.length)).length (.sl true [])) 8 [7] 12 g3 rfl (by simp)) ?_;refine LoopC.le (Ay [(2,iv most),(3,.pob [0] 1 0),(4,.pob [1] 1 0),(6,.pob [2] 1 0),(7,.pob [3] 1 0),(49,iv (max a.kids.length b.kids.length:Nat)),(50,iv (0:Nat))] (by simp;omega)) ?_;refine vE (one:=one) (a:=a) (b:=b) (N:=max a.kids.length b.kids.length) (by omega) hone (ws:=KC a b (max a.words.length b.words.length)) (u:=u) (n:=(KC a b (max a.words.length b.words.length)).length) (fun H2 v k3 k5 k7 k2=>?_) (max a.kids.length b.kids.length) 0 1 _ (by omega) (by simp[Aa,g0]) (by simp[Aa,g1]) (by simp[Aa,g2]) (by simp[Aa,aK,FU,g7]) (by simp[Aa,g5]) (by simp[Aa,FU,g7]);simp[k3,k2,Aa,aK];refine⟨by simp[BI],?_⟩;refine AE ⟨Ad rfl,Ad rfl,Ah,Ah,Ad rfl,Ah,Ah,?_,?_,Ad rfl,Ah,trivial⟩
 ·exact A3 (f:=wA) (l:=KC a b (max a.words.length b.words.length)) (by rw[Ax (by simp),k5];simp) rfl (fun x=>by simp)
 ·exact A3 (f:=kA) (l:=FU one a b (max a.kids.length b.kids.length)) (by rw[Ax (by simp),k7];simp) rfl (fun x=>by simp)
theorem VL {a b:T} (ha:AD a) (hb:AD b) {X Y:E} {most:Int} (hs:a.kind=1→b.kind=1→G.Spec Tryz.prog 73 [tX a,tX b,iv most] (eX X)) (hl:a.kind=b.kind→2≤a.kind→a.kind≤9→G.Spec Tryz.prog 75 [tX a,tX b,iv most] (eX Y)) :
  G.Spec Tryz.prog 44 [tX a,tX b,iv most] (eX (if G9 a b=true then E0 else if a.kind=1∧b.kind=1 then X else if a.kind=b.kind∧2≤a.kind∧a.kind≤9 then Y else .mk 1 a b [] [] 0 [])):=by
 have hE:=I3 ha hb;have hraw:∀ H:Hp,Gy H (.agg BI) (eX E0):=fun H=>AE ⟨Ad rfl,Ad rfl,Ah,Ah,Ad rfl,Ah,Ah,Ah,Ah,Ad rfl,Ah,trivial⟩;have hfr:∀ (H:Hp) (k:Int),k=a.kind→Gy H (.agg [iv 1,iv k,CQ a.words,Bx a.kids,iv b.kind,CQ b.words,Bx b.kids,.sl true [],.sl true [],iv 0,.sl true []]) (eX (.mk 1 a b [] [] 0 [])):=fun H k hk=>by
  subst hk;exact AE ⟨Ad rfl,Ad rfl,Ad rfl,Ad rfl,Ad rfl,Ad rfl,Ad rfl,Ah,Ah,Ad rfl,Ah,trivial⟩
 refine Ag Xc (by simp) fun w0 I0=>?_;unfold P5;simp;refine Ae hE (by simp) ?_;cases he:G9 a b with
 |true=>
  simp;exact hraw _
 |false=>
  by_cases h1:a.kind=1
  ·by_cases h2:b.kind=1
   ·have S:=hs h1 h2;have S':G.Spec Tryz.prog 73 [.agg [iv 1,CQ a.words,Bx a.kids],.agg [iv 1,CQ b.words,Bx b.kids],iv most] (eX X):=by
     rw[← h1];have e:([A.agg [iv a.kind,CQ a.words,Bx a.kids],.agg [iv a.kind,CQ b.words,Bx b.kids],iv most]:List A)=[tX a,tX b,iv most]:=by
      show [A.agg [iv a.kind,CQ a.words,Bx a.kids],.agg [iv a.kind,CQ b.words,Bx b.kids],iv most]=[A.agg [iv a.kind,CQ a.words,Bx a.kids],.agg [iv b.kind,CQ b.words,Bx b.kids],iv most];rw[h1,h2]
     rw[e];exact S
    simp[h1,h2];refine Ae S' (by simp) ?_;simp;exact Ad (by simp)
   ·have hne:¬ (1:Int)=b.kind:=fun e=>h2 e.symm;simp[h1,h2,hne];refine AU rfl ?_;simp;exact hfr _ 1 h1.symm
  ·by_cases h3:a.kind=b.kind
   ·have h2:¬ b.kind=1:=fun e=>h1 (h3.trans e);simp[h1,h3,h2];rw[D8];simp;refine Ae (XQ b.kind) (by simp) ?_;by_cases h5:2≤b.kind∧b.kind≤9
    ·have S:=hl h3 (by omega) (by omega);have S':G.Spec Tryz.prog 75 [.agg [iv b.kind,CQ a.words,Bx a.kids],.agg [iv b.kind,CQ b.words,Bx b.kids],iv most] (eX Y):=by
      rw[← h3];have e:([A.agg [iv a.kind,CQ a.words,Bx a.kids],.agg [iv a.kind,CQ b.words,Bx b.kids],iv most]:List A)=[tX a,tX b,iv most]:=by
       show [A.agg [iv a.kind,CQ a.words,Bx a.kids],.agg [iv a.kind,CQ b.words,Bx b.kids],iv most]=[A.agg [iv a.kind,CQ a.words,Bx a.kids],.agg [iv b.kind,CQ b.words,Bx b.kids],iv most];rw[h3]
      rw[e];exact S
     simp[h5.1,h5.2];refine Ae S' (by simp) ?_;simp;exact Ad (by simp)
    ·have h6:(decide (2≤b.kind)&&decide (b.kind≤9))=false:=by
      rw[Bool.eq_false_iff];simpa using h5
     rw[h6];simp[h5];exact hfr _ _ h3.symm
   ·simp[h1,h3];refine AU rfl ?_;simp;exact hfr _ _ rfl
theorem Dd:AD T0:=wfT_iff.2 ⟨by simp[Db],by simp,by simp,by simp,by simp⟩
theorem SD:Af T0=T0:=by simp[Af,T0,CS,CD]
end Go.Proofs.YtlaapfplenlfaaaGreat
namespace Go.PL
mutual
def DG:T→Int
 |.mk _ w l=>1+w.length+G0 l
def G0:List T→Int
 |[]=>0
 |t::l=>DG t+G0 l
end
@[simp] theorem Z7 (k:Int) (w:List Int) (l:List T):DG (.mk k w l)=1+w.length+G0 l:=by rw[DG]
@[simp] theorem oY:G0 []=0:=by rw[G0]
@[simp] theorem Ut (t:T) (l:List T):G0 (t::l)=DG t+G0 l:=by rw[G0]
theorem QT {l:List T} (h:∀ t,t ∈ l→1≤DG t):(l.length:Int)≤G0 l:=by
 induction l with
 |nil=>simp
 |cons t l ih=>
  have:=h t (by simp);have:=ih fun u hu=>h u (by simp[hu]);simp;omega
theorem Qf:∀ t:T,1≤DG t:=by
 refine T.ind fun k w l ih=>?_;have:=QT ih;simp;omega
theorem Re (l:List T):(l.length:Int)≤G0 l:=QT fun t _=>Qf t
theorem GD:∀ (t:T) (d:Nat) (n:Int),0≤Au d n t→DG t≤n-Au d n t:=by
 refine T.ind fun k w l ih d n h=>?_;have hl:∀ (m:List T) (d:Nat) (n:Int),(∀ t,t ∈ m→t ∈ l)→0≤Ar d n m→G0 m≤n-Ar d n m:=by
  intro m;induction m with
  |nil=>intro d n _ _;simp
  |cons t m ihm=>
   intro d n hin h;rw[C7] at h ⊢;split at h
   ·omega
   ·rename_i hc;rw[if_neg hc];have h1:=ihm d (Au d n t) (fun u hu=>hin u (by simp[hu])) h;have h3:0≤Au d n t:=by
     cases m with
     |nil=>simpa using h
     |cons u m=>
      rw[C7] at h;split at h<;>omega
    have:=ih t (hin t (by simp)) d n h3;simp;omega
 rw[Js] at h ⊢;split at h
 ·omega
 rename_i hc;rw[if_neg hc];have:=hl l (d-1) _ (fun t ht=>ht) h;simp;omega
end Go.PL
namespace Go.Proofs.YtlaapfplenlfaaaGreat
open Go Go.G Go.Proofs Go.PL
theorem XN {l:List T} {t:T} (h:t ∈ l):DG t≤G0 l:=by
 induction l with
 |nil=>simp at h
 |cons x l ih=>
  rw[Ut];have hp:=Qf x;have hl:=Re l;rcases List.mem_cons.1 h with rfl | h
  ·omega
  ·have:=ih h;omega
theorem IH:J2 E0:=wfE_iff.2 ⟨by simp[Db],by simp[Db],Dd,Dd,by simp,by simp,by simp,by simp,by simp,by simp⟩
theorem Sw (l:List T):(l.map Af).map Af=l.map Af:=by
 rw[List.map_map];exact List.map_congr_left fun x _=>Dr x
theorem R8 (a:Int):∀ k,F8 a a k=0
 |0=>rfl
 |k+1=>by
  unfold F8;rw[R8 a k];simp
theorem SU {a b:Int}:∀ k,F8 a b k=0→∀ i,i<k→Bg a i=Bg b i
 |0,_,i,h=>by omega
 |k+1,h,i,hi=>by
  unfold F8 at h;have h1:F8 a b k=0:=by omega
  have h2:(if Bg a k ≠ Bg b k then 2 ^ k else 0)=0:=by omega
  by_cases e:i=k
  ·subst e;apply Classical.byContradiction;intro hne;rw[if_pos hne] at h2;have:=Nat.pow_pos (n:=i) (show 0<2 by omega);omega
  ·exact SU k h1 i (by omega)
theorem eY {a b:Int} (ha:AA a) (hb:AA b):Dw a b=0 ↔ a=b:=by
 constructor
 ·intro h;have h':F8 a b 8=0:=by unfold Dw at h;omega
  have g:=SU 8 h';have g0:=g 0 (by omega);have g1:=g 1 (by omega);have g2:=g 2 (by omega);have g3:=g 3 (by omega);have g4:=g 4 (by omega);have g5:=g 5 (by omega);have g6:=g 6 (by omega);have g7:=g 7 (by omega);clear g h h';unfold Bg at g0 g1 g2 g3 g4 g5 g6 g7;simp only[show(256:Int) ^ 0=1 from rfl,show(256:Int) ^ 1=256 from rfl,show(256:Int) ^ 2=65536 from rfl,show(256:Int) ^ 3=16777216 from rfl,show(256:Int) ^ 4=4294967296 from rfl,show(256:Int) ^ 5=1099511627776 from rfl,show(256:Int) ^ 6=281474976710656 from rfl,show(256:Int) ^ 7=72057594037927936 from rfl] at g0 g1 g2 g3 g4 g5 g6 g7;unfold AA at ha hb;omega
 ·rintro rfl;unfold Dw;rw[R8];rfl
inductive LdO (R:E→T→T→Prop):List OP→List T→List T→Prop
 |nil:LdO R [] [] []
 |keep {os:List OP} {a b:List T} (l m:List T) (hne:l ≠ []) (h:l.map Af=m.map Af) (g:LdO R os a b):LdO R (.mk 0 (l.length:Nat) [] E0::os) (l++a) (m++b)
 |del {os:List OP} {a b:List T} (l m:List T) (hne:l ≠ []) (h:l.map Af=m.map Af) (g:LdO R os a b):LdO R (.mk 1 0 l E0::os) (m++a) b
 |ins {os:List OP} {a b:List T} (l m:List T) (hne:l ≠ []) (h:l.map Af=m.map Af) (g:LdO R os a b):LdO R (.mk 2 0 l E0::os) a (m++b)
 |desc {os:List OP} {a b:List T} (e:E) (x y:T) (h:R e x y) (g:LdO R os a b):LdO R (.mk 3 0 [] e::os) (x::a) (y::b)
inductive U7 (R:E→T→T→Prop) (a b:List T):Nat→List KE→Prop
 |nil (p:Nat) (h:∀ i,p≤i→Af (a.getD i T0)=Af (b.getD i T0)):U7 R a b p []
 |cons (p i:Nat) (e:E) (ks:List KE) (hp:p≤i) (h:∀ j,p≤j→j<i→Af (a.getD j T0)=Af (b.getD j T0)) (hi:i<max a.length b.length) (he:e.kind ≠ 0) (hr:R e (a.getD i T0) (b.getD i T0)) (g:U7 R a b (i+1) ks):U7 R a b p (.mk i e::ks)
inductive Kb (a b:List Int):Nat→List WE→Prop
 |nil (p:Nat) (h:∀ i,p≤i→a.getD i 0=b.getD i 0):Kb a b p []
 |cons (p i:Nat) (m o n:Int) (ws:List WE) (hp:p≤i) (h:∀ j,p≤j→j<i→a.getD j 0=b.getD j 0) (hi:i<max a.length b.length) (hm:0<m∧m<256) (ho:AM 0 (a.getD i 0) m=o) (hn:AM 0 (b.getD i 0) m=n) (h1:AM (a.getD i 0) n m=b.getD i 0) (h2:AM (b.getD i 0) o m=a.getD i 0) (g:Kb a b (i+1) ws):Kb a b p (⟨i,m,o,n⟩::ws)
def uQ (e:E) (a b:T):Prop:=(e=E0∧Af a=Af b)∨∃ o n,e = .mk 1 o n [] [] 0 []∧Af o=Af a∧Af n=Af b
def Ld:Nat→E→T→T→Prop
 |0,e,a,b=>uQ e a b
 |f+1,e,a,b=>uQ e a b∨(∃ ws ks,e = .mk 2 T0 T0 ws ks 0 []∧a.kind=1∧b.kind=1∧Kb a.words b.words 0 ws∧U7 (Ld f) a.kids b.kids 0 ks)∨(∃ os,e = .mk 3 T0 T0 [] [] a.kind os∧b.kind=a.kind∧(2≤a.kind∧a.kind≤9)∧(a.words=[]∧b.words=[])∧LdO (Ld f) os a.kids b.kids)
theorem Hn {f:Nat} {e:E} {a b:T} (h:uQ e a b):Ld f e a b:=by
 cases f with
 |zero=>exact h
 |succ f=>exact .inl h
section
variable {R:E→T→T→Prop}
end
theorem Ky (a b:Int):∀ (n i:Nat),i<n→(F8 a b n).testBit i=decide (Bg a i ≠ Bg b i)
 |0,i,h=>by omega
 |n+1,i,h=>by
  have hlt:=PZ a b n;unfold F8;by_cases e:i=n
  ·subst e;by_cases c:Bg a i ≠ Bg b i
   ·rw[if_pos c,Nat.add_comm,Nat.testBit_two_pow_add_eq,Nat.testBit_lt_two_pow hlt];simp[c]
   ·rw[if_neg c,Nat.add_zero,Nat.testBit_lt_two_pow hlt];simp at c;simp[c]
  ·have hi:i<n:=by omega
   by_cases c:Bg a n ≠ Bg b n
   ·rw[if_pos c,Nat.add_comm,Nat.testBit_two_pow_add_gt hi];exact Ky a b n i hi
   ·rw[if_neg c,Nat.add_zero];exact Ky a b n i hi
theorem ZL (a b:Int) {i:Nat} (h:i<8):Cq (Dw a b) i=decide (Bg a i ≠ Bg b i):=by
 rw[← Ky a b 8 i h,Nat.testBit_eq_decide_div_mod_eq];unfold Cq Dw;rw[Bool.eq_iff_iff,decide_eq_true_iff,decide_eq_true_iff];have:((F8 a b 8:Nat):Int) / 2 ^ i % 2=((F8 a b 8 / 2 ^ i % 2:Nat):Int):=by
  rw[Int.natCast_emod,Int.natCast_ediv,Int.natCast_pow];rfl
 rw[this];omega
theorem Oi {b:Int} (h:AA b):OA (Ap b)=b:=by
 unfold AA at h;simp only[Ap,BH,OA];omega
theorem QR:∀ (l:List Int),(∀ b,b ∈ l→0≤b∧b<256)→BH l.length (OA l)=l
 |[],_=>rfl
 |x::l,h=>by
  have hx:=h x (by simp);have ih:=QR l fun b hb=>h b (List.mem_cons_of_mem _ hb);simp only[List.length_cons,BH,OA];have e1:(x+256*OA l) % 256=x:=by omega
  have e2:(x+256*OA l) / 256=OA l:=by omega
  rw[e1,e2,ih]
theorem QG {xs ys:List Int} {m:Int} {i:Nat} (hx:xs.length=8) (h:i<8):(Gc xs ys m 8).getD i 0=if Cq m i=true then ys.getD i 0 else xs.getD i 0:=by
 unfold Gc;have e:xs.drop 8=[]:=List.drop_eq_nil_of_le (by omega);rw[e,List.append_nil,List.getD_eq_getElem?_getD,List.getElem?_map,List.getElem?_range h];rfl
theorem DQ (x:Int) {i:Nat} (h:i<8):(Ap x).getD i 0=Bg x i:=by
 rw[List.getD_eq_getElem?_getD];unfold Ap;rw[JP 8 x i h];rfl
theorem NV (a b m:Int):Ap (AM a b m)=Gc (Ap a) (Ap b) m 8:=by
 have hl:(Gc (Ap a) (Ap b) m 8).length=8:=by rw[Fx (by rw[AZ];omega),AZ]
 have:=QR (Gc (Ap a) (Ap b) m 8) JK;rw[hl] at this;exact this
theorem X6 {a b:Int} (hb:AA b):AM a (AM 0 b (Dw a b)) (Dw a b)=b:=by
 have e:Gc (Ap a) (Ap (AM 0 b (Dw a b))) (Dw a b) 8=Ap b:=by
  have hl:(Gc (Ap a) (Ap (AM 0 b (Dw a b))) (Dw a b) 8).length=8:=by rw[Fx (by rw[AZ];omega),AZ]
  refine List.ext_getElem (by rw[hl,AZ]) fun i h1 h2=>?_;have hi:i<8:=by rw[hl] at h1;exact h1
  have g1:=QG (xs:=Ap a) (ys:=Ap (AM 0 b (Dw a b))) (m:=Dw a b) (AZ a) hi;rw[NV 0 b,QG (AZ 0) hi,DQ b hi,DQ a hi,ZL a b hi] at g1;have g2:=DQ b hi;have k1:∀ (l:List Int) (h:i<l.length),l.getD i 0=l[i]:=fun l h=>by simp[h]
  rw[k1 _ (by rw[Fx (by rw[AZ];omega),AZ];exact hi)] at g1;rw[k1 _ h2] at g2;rw[g2];have g3:(Gc (Ap a) (Ap (AM 0 b (Dw a b))) (Dw a b) 8)[i]=if decide (Bg a i ≠ Bg b i)=true then (if decide (Bg a i ≠ Bg b i)=true then Bg b i else Bg 0 i) else Bg a i:=by
   rw[← DQ 0 hi,← g1];congr 1;rw[NV 0 b]
  refine g3.trans ?_;by_cases c:Bg a i=Bg b i
  ·simp[c]
  ·simp[c]
 have:AM a (AM 0 b (Dw a b)) (Dw a b)=OA (Ap b):=by
  unfold AM at e ⊢;rw[e]
 rw[this,Oi hb]
theorem Sy (a b:Int):∀ k,F8 a b k=F8 b a k
 |0=>rfl
 |k+1=>by
  unfold F8;rw[Sy a b k];by_cases c:Bg a k=Bg b k
  ·simp[c]
  ·simp[c,Ne.symm c]
theorem Z4 (a b:Int):Dw a b=Dw b a:=by unfold Dw;rw[Sy]
theorem cF {a b:List Int} {p:Nat} {ws:List WE} (h:Kb a b (p+1) ws) (e:a.getD p 0=b.getD p 0):Kb a b p ws:=by
 cases h with
 |nil _ h=>
  refine .nil p fun i hi=>?_;by_cases hp:i=p
  ·subst hp;exact e
  ·exact h i (by omega)
 |cons _ i m o n ws hp h hi hm ho hn h1 h2 g=>
  refine .cons p i m o n ws (by omega) (fun j h3 h4=>?_) hi hm ho hn h1 h2 g;by_cases hp:j=p
  ·subst hp;exact e
  ·exact h j (by omega) h4
theorem Fa {l:List Int} (h:∀ x,x ∈ l→AA x) (i:Nat):AA (l.getD i 0):=by
 rw[List.getD_eq_getElem?_getD];cases e:l[i]? with
 |none=>exact⟨by simp,by simp⟩
 |some z=>exact h z (List.mem_of_getElem? e)
theorem YK {a b:T} (ha:∀ x,x ∈ a.words→AA x) (hb:∀ x,x ∈ b.words→AA x):∀ (n p:Nat),p+n=max a.words.length b.words.length→Kb a.words b.words p ((List.range' p n).filterMap fun i=>if Dw (a.words.getD i 0) (b.words.getD i 0)=0 then none else some (SM i (a.words.getD i 0) (b.words.getD i 0)))
 |0,p,h=>by
  refine .nil p fun i hi=>?_;rw[List.getD_eq_getElem?_getD,List.getD_eq_getElem?_getD,List.getElem?_eq_none (by omega),List.getElem?_eq_none (by omega)]
 |n+1,p,h=>by
  have ih:=YK ha hb n (p+1) (by omega);have ua:=Fa ha p;have ub:=Fa hb p;have ui:=TV (a.words.getD p 0) (b.words.getD p 0);rw[List.range'_succ,List.filterMap_cons];by_cases c:Dw (a.words.getD p 0) (b.words.getD p 0)=0
  ·rw[if_pos c];exact cF ih ((eY ua ub).1 c)
  ·rw[if_neg c];exact .cons p p _ _ _ _ (Ei _) (fun j h1 h2=>by omega) (by omega) ⟨by omega,ui.2⟩ rfl rfl (X6 ub) (by rw[Z4];exact X6 ua) ih
def NW:Nat→T→Prop
 |0,_=>True
 |f+1,t=>(2≤t.kind→t.kind≤9→t.words=[])∧∀ k,k ∈ t.kids→NW f k
theorem wP:∀ f,NW f T0
 |0=>trivial
 |f+1=>⟨fun _ _=>rfl,fun k hk=>by simp at hk⟩
theorem vz {f:Nat} {t:T} (h:NW (f+1) t) (i:Nat):NW f (t.kids.getD i T0):=by
 rw[List.getD_eq_getElem?_getD];cases e:t.kids[i]? with
 |none=>exact wP f
 |some z=>exact h.2 z (List.mem_of_getElem? e)
theorem UX:∀ (f d:Nat) (t:T),BV d t=true→NW f t
 |0,d,t,_=>trivial
 |f+1,d,t,h=>by
  obtain⟨k,w,l⟩:=t;refine⟨fun h2 h9=>?_,fun x hx=>UX f (d-1) x (LV h x hx).1⟩;have h2:2≤k:=h2;have h9:k≤9:=h9;rw[K8,if_neg (by omega),if_neg (by omega)] at h;split at h
  ·cases h
  ·rename_i hb;unfold Hy at hb;simp at hb;exact hb.2 (by omega)
end Go.Proofs.YtlaapfplenlfaaaGreat
namespace Go.Proofs.YtlaapfplenlfaaaGreat
set_option maxRecDepth 20000
open Go Go.G Go.Proofs
def Bi:CC:=sR [aN 2] [0] (sQ [mO 3 0,oO 4 (.binOp .eql 23 (xT 3) nS 23)] [0,4] (cD 4 (sR [aN 2] [2] (.ret)) (.skip)) [0] (sR [oO 5 (.buildSlice 23 0 #[]),mO 6 0,aP 7 5 6 23 23 [0],aO 2 7] [2] (.ret)))
theorem BN:Ca Tryz.prog 124 8 [(.tmp 2)] Bi:=AJ Tryz.func124
def Al:CC:=sR [bB .lss 18 3 17 16 3] [1,2,15,16,17,18] (.seq (cD 18 (.skip) (.exit 0)) (.keep [1,2,15,16,17] (.seq (.block 1 (sR [mO 19 17,iO 20 23 15 17,lO 21 25 20,aL 8 25 [0],aO 7 19,sT 25 8 21] [1,2,7,8,15,16,17] (sR [mO 22 1,mO 23 7,iO 24 23 22 23,lO 25 25 24,aL 9 25 [1],sT 25 9 25] [1,2,8,9,15,16,17] (sR [mO 26 2,lO 27 25 8,lO 28 25 9,oO 29 (.call { callee:=(.value (xT 26)),args:=#[(xT 27),(xT 28)],argTypes:=#[25,25] }),oO 30 (.unOp .not 4 (xT 29))] [1,2,15,16,17,30] (cD 30 (sR [aB 6 false] [6] (.ret)) (.skip)))))) (.keep [1,2,15,16,17] (.reg [bQ .add 31 3 17 1 3,mO 17 31] [1,2,15,16,17]))))) 
def AH:CC:=sR [aB 6 false] [0,1,2] (sQ [mO 10 0,bN 11 10 23,mO 12 1,bN 13 12 23,bB .neq 14 3 11 13 3] [0,1,2,14] (cD 14 (sR [aB 6 false] [6] (.ret)) (.skip)) [0,1,2] (sQ [mO 15 0,bN 16 15 23,oO 17 (.move (nI 0))] [1,2,15,16,17] (.block 0 (.loop Al)) [] (sR [aB 6 true] [6] (.ret))))
theorem Ba:Ca Tryz.prog 126 32 [(.tmp 6)] AH:=AJ Tryz.func126
def CZ:CC:=sR [bX 2 30 0 [0],bX 3 25 1 [1],aL 4 25 [2],aB 5 false] [2,3,4] (sQ [fO 6 30 2 0,lO 7 3 6] [2,3,4,7] (.block 0 (sR [bQ .eql 9 3 7 0 3,aO 8 9] [2,3,4,7,8] (cD 8 (sR [lO 10 25 3,sT 25 4 10,aB 5 true] [4,5] (.ret)) (sR [bQ .eql 12 3 7 1 3,aO 11 12] [2,3,4,7,11] (cD 11 (sR [fO 13 30 2 2,lS 14 25 13 1,fO 15 30 2 1,lO 16 25 15,lO 17 25 3,⟨some 18,(cL 57 #[(xT 16),(xT 17)] #[25,25]),none,[],5,[1],false⟩,sT 25 4 14,aO 5 18] [4,5] (.ret)) (sR [bQ .eql 20 3 7 2 3,aO 19 20] [2,3,4,7,19] (cD 19 (sR [lO 21 30 2,lO 22 25 3,cB 23 76 21 22 30 25,xO 24 23 0,xO 25 23 1,sT 25 4 24,aO 5 25] [4,5] (.ret)) (sR [bQ .eql 27 3 7 3 3,aO 26 27] [2,3,4,26] (cD 26 (sR [lO 28 30 2,lO 29 25 3,cB 30 77 28 29 30 25,xO 31 30 0,xO 32 30 1,sT 25 4 31,aO 5 32] [4,5] (.ret)) (.skip)))))))))) [4] (sR [oO 33 (.build 25 #[]),sT 25 4 33,aB 5 false] [4,5] (.ret)))
theorem Dz:Ca Tryz.prog 45 34 [(.cell 4 25),(.tmp 5)] CZ:=AJ Tryz.func45
def DT:CC:=sQ [fO 44 25 6 1,lO 45 22 44,bN 46 45 22,fO 47 85 8 0,lO 48 3 47,bB .leq 49 3 46 48 3] [2,3,4,6,8,9,26,27,28,49] (cD 49 (.skip) (.exit 2)) [2,3,4,6,8,9,26,27,28] (.block 3 (.reg [fO 50 25 6 1,lO 51 22 50,oO 52 (.buildSlice 22 1 #[(0,(.const (.int .u64 0)))]),aP 53 51 52 22 22 [5],fO 54 25 6 1,sT 22 54 53] [2,3,4,6,8,9,26,27,28]))
def BA:CC:=sR [bB .lss 29 3 28 27 3] [2,3,4,6,26,27,28,29] (.seq (cD 29 (.skip) (.exit 0)) (.keep [2,3,4,6,26,27,28] (.seq (.block 1 (sR [iO 30 26 26 28,lO 31 85 30,aL 8 85 [4],sT 85 8 31] [2,3,4,6,8,26,27,28] (sR [lO 32 25 3,fO 33 85 8 0,lO 34 3 33,cB 35 90 32 34 25 3,aO 9 35] [2,3,4,6,8,9,26,27,28] (sQ [mO 36 9,fO 37 85 8 1,lO 38 5 37,⟨some 39,(cL 125 #[(.const (.int .u64 0)),(xT 36),(xT 38)] #[61,61,5]),none,[],3,[],true⟩,fO 40 85 8 2,⟨some 41,(lD 61 40),none,[],5,[3],false⟩,bB .neq 42 61 39 41 61] [2,3,4,6,8,9,26,27,28,42] (cD 42 (sR [oO 43 (.build 25 #[]),sT 25 4 43,aB 5 false] [4,5] (.ret)) (.skip)) [2,3,4,6,8,9,26,27,28] (.seq (.block 2 (.loop DT)) (.keep [2,3,4,6,8,9,26,27,28] (.reg [fO 55 25 6 1,lS 56 22 55 1,fO 57 85 8 0,lS 58 3 57 3,mO 59 9,fO 60 85 8 3,lO 61 61 60,fO 62 85 8 1,lO 63 5 62,⟨some 64,(cL 125 #[(xT 59),(xT 61),(xT 63)] #[61,61,5]),none,[],9,[1,3],false⟩,iO 65 22 56 58,sT 61 65 64] [2,3,4,6,26,27,28]))))))) (.keep [2,3,4,6,26,27,28] (.reg [bQ .add 66 3 28 1 3,mO 28 66] [2,3,4,6,26,27,28])))))
def DS:CC:=sQ [fO 87 25 6 2,lO 88 23 87,bN 89 88 23,fO 90 88 11 0,lO 91 3 90,bB .leq 92 3 89 91 3] [3,4,6,11,12,68,69,70,92] (cD 92 (.skip) (.exit 6)) [3,4,6,11,12,68,69,70] (.block 7 (.reg [fO 93 25 6 2,lO 94 23 93,oO 95 (.build 25 #[]),oO 96 (.buildSlice 23 1 #[(0,(xT 95))]),aP 97 94 96 23 23 [8],fO 98 25 6 2,sT 23 98 97] [3,4,6,11,12,68,69,70]))
def BB:CC:=sR [bB .lss 71 3 70 69 3] [3,4,6,68,69,70,71] (.seq (cD 71 (.skip) (.exit 4)) (.keep [3,4,6,68,69,70] (.seq (.block 5 (sR [iO 72 27 68 70,lO 73 88 72,aL 11 88 [6],sT 88 11 73] [3,4,6,11,68,69,70] (sR [fO 75 88 11 1,lS 76 30 75 1,lS 77 25 3 2,fO 78 88 11 0,lS 79 3 78 4,⟨some 80,(cL 80 #[(xT 77),(xT 79)] #[25,3]),none,[],5,[1],true⟩,⟨some 81,(cL 45 #[(xT 76),(xT 80)] #[30,25]),none,[],6,[],true⟩,mO 74 81,xO 82 74 0,xO 83 74 1,⟨some 12,(.alloc 25),none,[7],10,[1,2,4,5,6],false⟩,sT 25 12 82,aO 13 83] [3,4,6,11,12,13,68,69,70] (sQ [mO 84 13,oO 85 (.unOp .not 4 (xT 84))] [3,4,6,11,12,68,69,70,85] (cD 85 (sR [oO 86 (.build 25 #[]),sT 25 4 86,aB 5 false] [4,5] (.ret)) (.skip)) [3,4,6,11,12,68,69,70] (.seq (.block 6 (.loop DS)) (.keep [3,4,6,11,12,68,69,70] (.reg [fO 99 25 6 2,lO 100 23 99,fO 101 88 11 0,lO 102 3 101,lO 103 25 12,iO 104 23 100 102,sT 25 104 103] [3,4,6,68,69,70]))))))) (.keep [3,4,6,68,69,70] (.reg [bQ .add 105 3 70 1 3,mO 70 105] [3,4,6,68,69,70]))))) 
def Ci:CC:=sR [bX 2 30 0 [0],bX 3 25 1 [1],aL 4 25 [2],aB 5 false] [2,3,4] (sQ [fO 14 25 3 0,lO 15 3 14,bQ .neq 16 3 15 1 3] [2,3,4,16] (cD 16 (sR [oO 17 (.build 25 #[]),sT 25 4 17,aB 5 false] [4,5] (.ret)) (.skip)) [2,3,4] (sR [fO 18 25 3 1,lS 19 22 18 1,⟨some 20,(cL 59 #[(xT 19)] #[22]),none,[],2,[],true⟩,fO 21 25 3 2,⟨some 22,(lD 23 21),none,[],4,[2],true⟩,⟨some 23,(cL 124 #[(xT 22)] #[23]),none,[],5,[],true⟩,oO 24 (.build 25 #[(0,(nI 1)),(1,(xT 20)),(2,(xT 23))]),⟨some 6,(.alloc 25),none,[3],7,[1,2,4,5],false⟩,sT 25 6 24] [2,3,4,6] (sQ [fO 25 30 2 3,lO 26 26 25,bN 27 26 26,oO 28 (.move (nI 0))] [2,3,4,6,26,27,28] (.block 0 (.loop BA)) [2,3,4,6] (sQ [fO 67 30 2 4,lO 68 27 67,bN 69 68 27,oO 70 (.move (nI 0))] [3,4,6,68,69,70] (.block 4 (.loop BB)) [4,6] (sR [lO 106 25 6,sT 25 4 106,aB 5 true] [4,5] (.ret))))))
theorem CY:Ca Tryz.prog 76 107 [(.cell 4 25),(.tmp 5)] Ci:=AJ Tryz.func76
def Bn:CC:=sQ [mO 51 10,mO 52 7,bN 53 52 23,bB .gtr 54 3 51 53 3] [4,6,7,9,10,26,27,28,54] (cD 54 (sR [oO 55 (.build 25 #[]),sT 25 4 55,aB 5 false] [4,5] (.ret)) (.skip)) [4,6,7,9,10,26,27,28] (sR [aN 11] [4,6,7,9,10,26,27,28] (sR [mO 56 7,mO 57 10,oO 58 (.slice 23 (xT 56) none (some (xT 57)) none),mO 59 7,mO 60 10,oO 61 (.slice 23 (xT 59) (some (xT 60)) none none),aO 11 58,aO 7 61] [4,6,7,9,11,26,27,28] (.block 3 (sR [fO 81 91 9 0,lO 82 3 81,bQ .eql 83 3 82 0 3,aO 80 83] [4,6,7,9,11,26,27,28,80] (cD 80 (.reg [fO 84 25 6 2,lO 85 23 84,mO 86 11,aP 87 85 86 23 23 [6],fO 88 25 6 2,sT 23 88 87] [4,6,7,26,27,28]) (sR [fO 90 91 9 0,lO 91 3 90,bQ .eql 92 3 91 1 3,aO 89 92] [4,6,7,9,11,26,27,28,89] (cD 89 (sR [fO 93 91 9 2,lO 94 23 93,mO 95 11,oO 96 (cL 126 #[(xT 94),(xT 95),(.func 57)] #[23,23,38]),oO 97 (.unOp .not 4 (xT 96))] [4,6,7,26,27,28,97] (cD 97 (sR [oO 98 (.build 25 #[]),sT 25 4 98,aB 5 false] [4,5] (.ret)) (.skip))) (sR [fO 63 91 9 3,lS 64 30 63 1,mO 65 11,oO 66 (.indexAddr 23 (xT 65) (nI 0)),lS 67 25 66 4,⟨some 68,(cL 45 #[(xT 64),(xT 67)] #[30,25]),none,[],5,[],true⟩,mO 62 68,xO 69 62 0,xO 70 62 1,⟨some 12,(.alloc 25),none,[7],9,[1,4,5],false⟩,sT 25 12 69,aO 13 70] [4,6,7,12,13,26,27,28] (sQ [mO 71 13,oO 72 (.unOp .not 4 (xT 71))] [4,6,7,12,26,27,28,72] (cD 72 (sR [oO 73 (.build 25 #[]),sT 25 4 73,aB 5 false] [4,5] (.ret)) (.skip)) [4,6,7,12,26,27,28] (.reg [fO 74 25 6 2,lO 75 23 74,lO 76 25 12,oO 77 (.buildSlice 23 1 #[(0,(xT 76))]),aP 78 75 77 23 23 [8],fO 79 25 6 2,sT 23 79 78] [4,6,7,26,27,28]))))))))))
def AQ:CC:=sR [bB .lss 29 3 28 27 3] [4,6,7,26,27,28,29] (.seq (cD 29 (.skip) (.exit 0)) (.keep [4,6,7,26,27,28] (.seq (.block 1 (sR [iO 30 28 26 28,lO 31 91 30,aL 9 91 [4],sT 91 9 31] [4,6,7,9,26,27,28] (sR [fO 32 91 9 1,lO 33 3 32,aO 10 33] [4,6,7,9,10,26,27,28] (sQ [fO 34 91 9 0,lO 35 3 34] [4,6,7,9,10,26,27,28,35] (.block 2 (sR [bQ .eql 37 3 35 2 3,aO 36 37] [4,6,7,9,10,26,27,28,35,36] (cD 36 (sR [fO 38 25 6 2,lO 39 23 38,fO 40 91 9 2,lO 41 23 40,aP 42 39 41 23 23 [5],fO 43 25 6 2,sT 23 43 42] [4,6,7,26,27,28] (.exit 1)) (sR [bQ .eql 45 3 35 1 3,aO 44 45] [4,6,7,9,10,26,27,28,35,44] (cD 44 (.reg [fO 46 91 9 2,lO 47 23 46,bN 48 47 23,aO 10 48] [4,6,7,9,10,26,27,28]) (sR [bQ .eql 50 3 35 3 3,aO 49 50] [4,6,7,9,10,26,27,28,49] (cD 49 (.reg [aI 10 1] [4,6,7,9,10,26,27,28]) (.skip)))))))) [4,6,7,9,10,26,27,28] Bn)))) (.keep [4,6,7,26,27,28] (.reg [bQ .add 99 3 28 1 3,mO 28 99] [4,6,7,26,27,28]))))) 
def FY:CC:=sR [bX 2 30 0 [0],bX 3 25 1 [1],aL 4 25 [2],aB 5 false] [2,3,4] (sQ [fO 14 25 3 0,lO 15 3 14,fO 16 30 2 5,lO 17 3 16,bB .neq 18 3 15 17 3] [2,3,4,18] (cD 18 (sR [oO 19 (.build 25 #[]),sT 25 4 19,aB 5 false] [4,5] (.ret)) (.skip)) [2,3,4] (sR [fO 20 25 3 0,lO 21 3 20,oO 22 (.build 25 #[(0,(xT 21))]),aL 6 25 [3],sT 25 6 22] [2,3,4,6] (sR [fO 23 25 3 2,lO 24 23 23,aO 7 24] [2,4,6,7] (sQ [fO 25 30 2 6,lO 26 28 25,bN 27 26 28,oO 28 (.move (nI 0))] [4,6,7,26,27,28] (.block 0 (.loop AQ)) [4,6,7] (sR [lO 100 25 6,mO 101 7,bN 102 101 23,bQ .eql 103 3 102 0 3,sT 25 4 100,aO 5 103] [4,5] (.ret))))))
theorem Hf:Ca Tryz.prog 77 104 [(.cell 4 25),(.tmp 5)] FY:=AJ Tryz.func77
def JH:CC:=sR [bX 2 30 0 [0],bX 3 25 1 [1],aL 4 25 [2],aB 5 false] [2,3,4] (sR [lO 9 30 2,lO 10 25 3,cB 11 45 9 10 30 25,mO 8 11,xO 12 8 0,xO 13 8 1,aL 6 25 [3],sT 25 6 12,aO 7 13] [4,6,7] (sQ [mO 14 7,oO 15 (.unOp .not 4 (xT 14))] [4,6,15] (cD 15 (sR [oO 16 (.build 25 #[]),sT 25 4 16,aB 5 false] [4,5] (.ret)) (.skip)) [4,6] (sR [lO 17 25 6,cA 18 35 17 25,sT 25 4 18,aB 5 true] [4,5] (.ret))))
theorem Ny:Ca Tryz.prog 25 19 [(.cell 4 25),(.tmp 5)] JH:=AJ Tryz.func25
end Go.Proofs.YtlaapfplenlfaaaGreat
namespace Go.Proofs.YtlaapfplenlfaaaGreat
open Go Go.G Go.Proofs Go.PL
theorem jy {l:List Int}:∀ x,x ∈ l.map uv→Fq (fun _=>x):=fun x hx=>by
 obtain⟨n,_,rfl⟩:=List.mem_map.1 hx;exact FV
abbrev uvM (u:Nat) (l:List Int):Fam:=mh u 1 (l.map uv) jy
variable {n0:Nat} {w0:World} {I0:Nat→Prop} {M0:Nm→Nat→Prop} {m0:Mu} {Q:Exit→Sta→Prop}
end Go.Proofs.YtlaapfplenlfaaaGreat
namespace Go.G
open Go
theorem SI {P:Program} {f:FuncId} {k:Nat} {fl:Bool} {r:A} {Hc Hr:Hp} (h1:∀ cap,SpecH P f k [.v (.slice none 0 cap)] Hc r Hr) (h2:∀ a cap,SpecH P f k [.v (.slice (some a) 0 cap)] Hc r Hr):SpecH P f k [.sl fl []] Hc r Hr:=by
 refine⟨(h1 0).1,fun w I M0 n μ vs hM hs hl hr=>?_⟩;have h:=hr 0 _ rfl;have go:∀ x,vs.getD 0 undef=x→∀ (k:Nat) (y:A),[A.v x][k]? = some y→Rel w I μ y (vs.getD k undef):=fun x hx k y hk=>by
  cases k with
  |zero=>cases hk;rw[hx];exact .v _ _
  |succ k=>simp at hk
 generalize hq:vs.getD 0 undef=x at h;cases h with
 |slN _ _ a cap _=>
  cases a with
  |none=>exact(h1 cap).2 w I M0 n μ vs hM hs hl (go _ hq)
  |some a=>exact(h2 a cap).2 w I M0 n μ vs hM hs hl (go _ hq)
 |sl _ _ b off n0 cap sz _ g k1 k2=>
  have:n0=0:=k2;subst this;exact(h2 _ cap).2 w I M0 n μ vs hM hs hl (go _ hq)
end Go.G
namespace Go.Proofs.YtlaapfplenlfaaaGreat
open Go Go.G Go.Proofs Go.PL
theorem Ks (l:List Int) (h:l.length*8≤140737488355328):SpecF Tryz.prog 59 (fun _=>[CQ l]) Fam.no (fun r=>.osl [r] 1 1 0 l.length) (uvM 1 l):=by
 cases l with
 |nil=>
  refine⟨Ai BZ Av,GS,SI (fun cap=>?_) (fun a cap=>?_)⟩
  ·refine @SpecF.h _ _ (fun _=>[.v (.slice none 0 cap)]) Fam.no (fun r=>.osl [r] 1 1 0 0) (uvM 1 []) (BL AO (by simp) (Ai FV Av) GS fun w0 I0 M0 m0=>?_);unfold AG;simp;refine Hi (E6 2 [0] 1 (by simp)) (A6 (r0:=.osl [0] 1 1 0 0) (by simp[upd]) rfl fun p=>?_);by_cases hp:p=[]
   ·subst hp;simp[Aa]
   ·simp[Aa,hp]
  ·refine @SpecF.h _ _ (fun _=>[.v (.slice (some a) 0 cap)]) Fam.no (fun r=>.osl [r] 1 1 0 0) (uvM 1 []) (BL AO (by simp) (Ai FV Av) GS fun w0 I0 M0 m0=>?_);unfold AG;simp;refine A6 rfl rfl fun p=>?_;by_cases hp:p=[]
   ·subst hp;simp[Aa]
   ·simp[Aa,hp,Ne.symm hp]
 |cons x l=>
  refine BL AO (by simp) (Ai BZ Av) GS fun w0 I0 M0 m0=>?_;unfold AG;rw[List.length_cons] at h;simp[h,CQ];refine A6 rfl rfl fun p=>?_;by_cases hp:p=[]
  ·subst hp;simp[Aa]
  ·simp[Aa,hp,Ne.symm hp]
theorem O5 (l:List T) (h:l.length*56≤140737488355328):SpecF Tryz.prog 124 (fun _=>[Bx l]) Fam.no (fun r=>.osl [r] 1 3 0 l.length) (trM 1 l):=by
 cases l with
 |nil=>
  refine⟨Ai BZ Av,GS,SI (fun cap=>?_) (fun a cap=>?_)⟩
  ·refine @SpecF.h _ _ (fun _=>[.v (.slice none 0 cap)]) Fam.no (fun r=>.osl [r] 1 3 0 0) (trM 1 []) (BL BN (by simp) (Ai FV Av) GS fun w0 I0 M0 m0=>?_);unfold Bi;simp;refine Hi (E6 2 [0] 3 (by simp)) (A6 (r0:=.osl [0] 1 3 0 0) (by simp[upd]) rfl fun p=>?_);by_cases hp:p=[]
   ·subst hp;simp[Aa]
   ·simp[Aa,hp]
  ·refine @SpecF.h _ _ (fun _=>[.v (.slice (some a) 0 cap)]) Fam.no (fun r=>.osl [r] 1 3 0 0) (trM 1 []) (BL BN (by simp) (Ai FV Av) GS fun w0 I0 M0 m0=>?_);unfold Bi;simp;refine A6 rfl rfl fun p=>?_;by_cases hp:p=[]
   ·subst hp;simp[Aa]
   ·simp[Aa,hp,Ne.symm hp]
 |cons x l=>
  refine BL BN (by simp) (Ai BZ Av) GS fun w0 I0 M0 m0=>?_;unfold Bi;rw[List.length_cons] at h;simp[h,Bx];refine A6 rfl rfl fun p=>?_;by_cases hp:p=[]
  ·subst hp;simp[Aa]
  ·simp[Aa,hp,Ne.symm hp]
variable {n0:Nat} {w0:World} {I0:Nat→Prop} {Q:Exit→Sta→Prop}
theorem lP {l m:List T} (hl:∀ t,t ∈ l→AD t) (hm:∀ t,t ∈ m→AD t) (h:l.map Af=m.map Af) (hb:l.length≤10000000000000) (hq:∀ st H,Q (.exit 0) ⟨lk ([(1,Bx m),(2,.fnc 57 [] [])]++st),H⟩):∀ (j i:Nat) (H:Hp),i+j=l.length →
  LoopC (cx Tryz.prog w0 I0 n0) Al Q ⟨lk [(1,Bx m),(2,.fnc 57 [] []),(15,Bx l),(16,iv l.length),(17,iv i)],H⟩:=by
 have hlen:l.length=m.length:=by simpa using congrArg List.length h
 intro j;induction j with
 |zero=>
  intro i H hj;have:i=l.length:=by omega
  subst this;refine Ab Aj Al.eq_1 ?_;simp;have:=hq [(15,Bx l),(16,iv l.length),(17,iv l.length),(18,bv false)] H;simpa using this
 |succ j ih=>
  intro i H hj;have h1:i<l.length:=by omega
  have h2:i<m.length:=by omega
  have ew:=AI i;have he:G9 l[i] m[i]=true:=by
   rw[eqT_iff];have:(l.map Af)[i]? = (m.map Af)[i]?:=by rw[h]
   simpa[h1,h2] using this
  have E:=I3 (hl _ (BD h1)) (hm _ (BD h2));rw[he] at E;refine Ab Aj Al.eq_1 ?_;simp[h1,h2,Aa];refine Ro rfl E (by simp) ?_;simp[ew];exact ih (i+1) _ (by omega)
theorem cM {l m:List T} (hl:∀ t,t ∈ l→AD t) (hm:∀ t,t ∈ m→AD t) (h:l.map Af=m.map Af) (hb:l.length≤10000000000000):G.Spec Tryz.prog 126 [Bx l,Bx m,.fnc 57 [] []] (bv true):=by
 have hlen:l.length=m.length:=by simpa using congrArg List.length h
 refine Ag Ba (by simp) fun w0 I0=>?_;unfold AH;simp[hlen];refine LoopC.le (Ay [(1,Bx m),(2,.fnc 57 [] []),(15,Bx l),(16,iv l.length),(17,iv (0:Nat))] (by simp[hlen])) ?_;refine lP hl hm h hb (fun st H=>?_) l.length 0 _ (by omega);simp;exact Ad rfl
inductive Zi (P:E→T→T→Prop):List OP→List T→List T→Prop
 |nil:Zi P [] [] []
 |keep {os:List OP} {a u:List T} (l:List T) (g:Zi P os a u):Zi P (.mk 0 (l.length:Nat) [] E0::os) (l++a) (l++u)
 |del {os:List OP} {a u:List T} (l m:List T) (h:l.map Af=m.map Af) (g:Zi P os a u):Zi P (.mk 1 0 l E0::os) (m++a) u
 |ins {os:List OP} {a u:List T} (l:List T) (g:Zi P os a u):Zi P (.mk 2 0 l E0::os) a (l++u)
 |desc {os:List OP} {a u:List T} (e:E) (x y:T) (h:P e x y) (g:Zi P os a u):Zi P (.mk 3 0 [] e::os) (x::a) (y::u)
theorem lF {R P:E→T→T→Prop} {os:List OP} {a b:List T} (h:LdO R os a b):(∀ o,o ∈ os→o.kind=3→∀ x,x ∈ a→∀ y,y ∈ b→R o.e x y→∃ u,P o.e x u∧Af u=Af y)→∃ u,Zi P os a u∧u.map Af=b.map Af:=by
 induction h with
 |nil=>exact fun _=>⟨[],.nil,rfl⟩
 |keep l m hne hl _ ih=>
  intro hP;obtain⟨u,h1,h2⟩:=ih fun o ho hk x hx y hy=>hP o (List.mem_cons_of_mem _ ho) hk x (List.mem_append_right _ hx) y (List.mem_append_right _ hy);exact⟨l++u,.keep l h1,by rw[List.map_append,List.map_append,hl,h2]⟩
 |del l m hne hl _ ih=>
  intro hP;obtain⟨u,h1,h2⟩:=ih fun o ho hk x hx y hy=>hP o (List.mem_cons_of_mem _ ho) hk x (List.mem_append_right _ hx) y hy;exact⟨u,.del l m hl h1,h2⟩
 |ins l m hne hl _ ih=>
  intro hP;obtain⟨u,h1,h2⟩:=ih fun o ho hk x hx y hy=>hP o (List.mem_cons_of_mem _ ho) hk x hx y (List.mem_append_right _ hy);exact⟨l++u,.ins l h1,by rw[List.map_append,List.map_append,hl,h2]⟩
 |desc e x y r _ ih=>
  intro hP;obtain⟨u,h1,h2⟩:=ih fun o ho hk x hx y hy=>hP o (List.mem_cons_of_mem _ ho) hk x (List.mem_cons_of_mem _ hx) y (List.mem_cons_of_mem _ hy);obtain⟨v,k1,k2⟩:=hP (.mk 3 0 [] e) (by simp) rfl x (by simp) y (by simp) r;exact⟨v::u,.desc e x v k1 h1,by rw[List.map_cons,List.map_cons,k2,h2]⟩
abbrev Rh (e:E) (x u:T):Prop:=AD u∧G.Spec Tryz.prog 45 [eX e,tX x] (.tup [tX u,bv true])
theorem o6 {os:List OP} {a u:List T} (h:Zi Rh os a u):(∀ t,t ∈ a→AD t)→(∀ o,o ∈ os→∀ t,t ∈ o.l→AD t)→∀ t,t ∈ u→AD t:=by
 induction h with
 |nil=>intro _ _ t ht;simp at ht
 |keep l _ ih=>
  intro ha ho t ht;rcases List.mem_append.1 ht with ht | ht
  ·exact ha t (List.mem_append_left _ ht)
  ·exact ih (fun t ht=>ha t (List.mem_append_right _ ht)) (fun o h=>ho o (List.mem_cons_of_mem _ h)) t ht
 |del l m _ _ ih=>
  intro ha ho t ht;exact ih (fun t ht=>ha t (List.mem_append_right _ ht)) (fun o h=>ho o (List.mem_cons_of_mem _ h)) t ht
 |ins l _ ih=>
  intro ha ho t ht;rcases List.mem_append.1 ht with ht | ht
  ·exact ho (.mk 2 0 l E0) (by simp) t ht
  ·exact ih ha (fun o h=>ho o (List.mem_cons_of_mem _ h)) t ht
 |desc e x y r _ ih=>
  intro ha ho t ht;rcases List.mem_cons.1 ht with rfl | ht
  ·exact r.1
  ·exact ih (fun t ht=>ha t (List.mem_cons_of_mem _ ht)) (fun o h=>ho o (List.mem_cons_of_mem _ h)) t ht
theorem ug {k0:Int} {os:List OP} {R:List T} (hR:R.length≤1000000) (hol:os.length≤1000000000000) (how:∀ o,o ∈ os→∀ t,t ∈ o.l→AD t) (hos:∀ o,o ∈ os→o.l.length≤10000000000000)
  (hq:∀ (H':Hp) (v:Nat) (st:List (Nat × A)),H' [2]=⟨1,.cells [iv 0,.sl true [],.sl true []]⟩→H' [3]=⟨1,.cells [iv k0,.sl true [],.osl [5] v 3 0 R.length]⟩→H' [5]=⟨v,.arr 3 (R.map tA)⟩→Q (.exit 0) ⟨lk ([(4,.pob [2] 1 0),(6,.pob [3] 1 0),(7,Bx [])]++st),H'⟩) :
  ∀ (m k v:Nat) (a u X:List T) (H:Hp),k+m=os.length→Zi Rh (os.drop k) a u→(∀ t,t ∈ a→AD t)→a.length≤1000000→R=X++u→H [2]=⟨1,.cells [iv 0,.sl true [],.sl true []]⟩→H [3]=⟨1,.cells [iv k0,.sl true [],.osl [5] v 3 0 X.length]⟩→H [5]=⟨v,.arr 3 (X.map tA)⟩ →
  LoopC (cx Tryz.prog w0 I0 n0) AQ Q ⟨lk [(4,.pob [2] 1 0),(6,.pob [3] 1 0),(7,Bx a),(26,IW os),(27,iv os.length),(28,iv k)],H⟩:=by
 intro m;induction m with
 |zero=>
  intro k v a u X H hm h ha hal hX h2 h3 h5;have:k=os.length:=by omega
  subst this;rw[List.drop_length] at h;cases h;rw[List.append_nil] at hX;subst hX;refine Ab Aj AQ.eq_1 ?_;simp;have:=hq H v [(26,IW os),(27,iv os.length),(28,iv os.length),(29,bv false)] h2 h3 h5;simpa using this
 |succ m ih=>
  intro k v a u X H hm h ha hal hX h2 h3 h5;have hlt:k<os.length:=by omega
  have ew:=AI k;have hd:os.drop k=os[k]::os.drop (k+1):=(List.getElem_cons_drop hlt).symm;have hol1:=hos _ (BD hlt);have how1:=how _ (BD hlt);rw[hd] at h;have next:=ih (k+1) (v+1)
  generalize hx:os[k]=o at *;refine Ab Aj AQ.eq_1 ?_;have eX:List.take X.length (X.map tA)=X.map tA:=AN (by simp);cases h with
  |keep l g=>
   rename_i a u;have nx:=next a u (X++l)
   rw[List.length_append] at nx hal;have c1:(l.length:Int)≤(l.length:Int)+a.length:=by omega
   have c2:¬ ((l.length:Int)+a.length<(l.length:Int)):=by omega
   have hR2:R.length=X.length+(l.length+u.length):=by rw[hX];simp
   have ea:List.take a.length (a.map tA)=a.map tA:=AN (by simp);simp[hlt,hx,Aa,h3,h5];rw[Bn.eq_1];simp[hlt,hx,Aa,h3,h5,ew,c1,c2,eX,ea];refine⟨by omega,?_⟩;exact nx _ (by omega) g (fun t ht=>ha t (List.mem_append_right _ ht)) (by omega) (by rw[hX];simp) (by simp[Aa,h2]) (by simp[Aa]) (by simp[Aa])
  |del l mm hn g=>
   rename_i a;have hlen:l.length=mm.length:=by simpa using congrArg List.length hn
   have nx:=ih (k+1) v a u X;rw[List.length_append] at hal;have c1:(l.length:Int)≤(mm.length:Int)+a.length:=by omega
   have c2:¬ ((mm.length:Int)+a.length<(l.length:Int)):=by omega
   have ea:List.take a.length (a.map tA)=a.map tA:=AN (by simp);have et:List.take l.length (mm.map tA++a.map tA)=mm.map tA:=by rw[hlen];exact List.take_left' (by simp)
   have ed:List.drop l.length (mm.map tA++a.map tA)=a.map tA:=by rw[hlen];exact List.drop_left' (by simp)
   have eL:mm.length+a.length-l.length=a.length:=by omega
   have E:=cM (l:=l) (m:=mm) (fun t ht=>how1 t ht) (fun t ht=>ha t (List.mem_append_left _ ht)) hn (by have:=hol1;show l.length≤_;have h':l.length≤10000000000000:=hol1;omega);simp[hlt,hx,Aa,h3,h5];rw[Bn.eq_1];simp[hlt,hx,Aa,h3,h5,ew,c1,c2,eX,ea,et,ed,eL];refine Ae E (by simp) ?_;simp[ew];exact nx _ (by omega) g (fun t ht=>ha t (List.mem_append_right _ ht)) (by omega) hX (by simp[Aa,h2]) (by simp[Aa,h3]) (by simp[Aa,h5])
  |ins l g=>
   rename_i u;have nx:=next a u (X++l)
   rw[List.length_append] at nx;have hR2:R.length=X.length+(l.length+u.length):=by rw[hX];simp
   simp[hlt,hx,Aa,h3,h5,ew,eX];refine⟨by omega,?_⟩;simp[Dg,ew];exact nx _ (by omega) g ha (by omega) (by rw[hX];simp) (by simp[Aa,h2]) (by simp[Aa]) (by simp[Aa])
  |desc e x y r g=>
   rename_i a u;have nx:=next a u (X++[y])
   rw[List.length_append,List.length_singleton] at nx;rw[List.length_cons] at hal;have hR2:R.length=X.length+(1+u.length):=by rw[hX];simp;omega
   have c1:(1:Int)≤(a.length:Int)+1:=by omega
   have c2:¬ ((a.length:Int)+1<1):=by omega
   have ea:List.take a.length (a.map tA)=a.map tA:=AN (by simp);simp[hlt,hx,Aa,h3,h5];rw[Bn.eq_1];simp[hlt,hx,Aa,h3,h5,ew,c1,c2,eX,ea];refine Ae r.2 (by simp) ?_;simp[hlt,hx,Aa,h3,h5,ew,c1,c2,eX,ea];refine⟨by omega,?_⟩;exact nx _ (by omega) g (fun t ht=>ha t (List.mem_cons_of_mem _ ht)) (by omega) (by rw[hX];simp) (by simp[Aa,h2]) (by simp[Aa]) (by simp[Aa])
theorem VW {l:Int} {os:List OP} {t:T} {u:List T} (hw:AD t) (hol:os.length≤1000000000000) (how:∀ o,o ∈ os→∀ t,t ∈ o.l→AD t) (hos:∀ o,o ∈ os→o.l.length≤10000000000000) (hu:u.length≤1000000) (ht:t.kids.length≤1000000) (hk:t.kind=l) (h:Zi Rh os t.kids u):G.Spec Tryz.prog 77 [eX (.mk 3 T0 T0 [] [] l os),tX t] (.tup [tX (.mk l [] u),bv true]):=by
 obtain⟨k,w,ks⟩:=t;have hk:k=l:=hk;subst hk;refine Ag Hf (by simp) fun w0 I0=>?_;unfold FY;simp;refine LoopC.le (Bc (d:=[3]) (u:=1) 2 [5] 3 (by simp[Aa];rfl) rfl (by simp)) ?_;refine LoopC.le (Ay [(4,.pob [2] 1 0),(6,.pob [3] 1 0),(7,Bx ks),(26,IW os),(27,iv os.length),(28,iv (0:Nat))] (by simp)) ?_;refine ug (k0:=k) (R:=u) hu hol how hos (fun H' v st h2 h3 h5=>?_) os.length 0 1 ks u [] _ (by omega) (by simpa using h) (fun t ht=>(wfT_iff.1 hw).ks t ht) ht rfl (by simp[Aa]) (by simp[Aa]) (by simp[Aa]);simp[h2,h3];refine An ⟨AE ⟨Ad rfl,Ah,?_,trivial⟩,Ad rfl,trivial⟩;have:=A3 (H:=Az H' [2] ⟨1,.cells [iv k,.sl true [],.osl [5] v 3 0 u.length]⟩) (o:=[5]) (u:=v) (n:=u.length) (sz:=3) (l:=u) (f:=tA) (by simp[Aa,h5]) rfl (fun x=>by simp);exact this
end Go.Proofs.YtlaapfplenlfaaaGreat
