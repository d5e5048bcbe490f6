/-
 Texts,merged,without what is not reached.
-/
import Derived.Test.YtlaapfplenlfaaaGreatKEf
set_option linter.unusedSimpArgs false
set_option linter.unusedVariables false
open Go.IntKind (i64 u64)
namespace Go.Proofs.YtlaapfplenlfaaaGreat
open Go Go.G Go.Proofs Go.PL
def Y7 (tw:List Int) (w:WE):Bool:=decide (AM 0 (tw.getD w.at_.toNat 0) w.mask=w.old)
theorem Nw {tw:List Int}:∀ (m i:Nat) (ws:List WE) (last:Int),BP last ws=true→last<i→(∀ w,w ∈ ws→(i:Int)≤w.at_∧w.at_<((i+m:Nat):Int))→(LS tw m i ws).isSome=ws.all (Y7 tw)
 |0,i,ws,last,h,hl,hat=>by
  cases ws with
  |nil=>rfl
  |cons w ws=>have:=hat w (by simp);omega
 |m+1,i,[],last,h,hl,hat=>by
  rw[LS,Option.isSome_map,Nw m (i+1) [] last h (by omega) (fun w hw=>by simp at hw)]
 |m+1,i,w::ws,last,h,hl,hat=>by
  obtain⟨k1,k2,k3,k4,k5⟩:=EV h;have hw:=hat w (by simp);have later:∀ z,z ∈ ws→w.at_<z.at_:=by
   have key:∀ (l:List WE) (last:Int),BP last l=true→∀ z,z ∈ l→last<z.at_:=fun l=>by
    induction l with
    |nil=>intro _ _ z hz;simp at hz
    |cons y l ih=>
     intro last h z hz;obtain⟨q1,_,_,_,q5⟩:=EV h;rcases List.mem_cons.1 hz with rfl | hz
     ·exact q1
     ·have:=ih _ q5 z hz;omega
   exact key ws _ k5
  by_cases e:w.at_=(i:Int)
  ·have ei:w.at_.toNat=i:=by omega
   by_cases hb:AM 0 (tw.getD i 0) w.mask=w.old
   ·rw[PF e hb,Option.isSome_map,Nw m (i+1) ws w.at_ k5 (by omega) (fun z hz=>by have:=later z hz;have:=(hat z (List.mem_cons_of_mem _ hz)).2;omega),List.all_cons];have:Y7 tw w=true:=by unfold Y7;rw[ei];exact decide_eq_true hb
    rw[this,Bool.true_and]
   ·rw[TM e hb,List.all_cons];have:Y7 tw w=false:=by unfold Y7;rw[ei];exact decide_eq_false hb
    rw[this,Bool.false_and];rfl
  ·rw[KL (fun x xs ex=>by cases ex;exact e),Option.isSome_map,Nw m (i+1) (w::ws) last h (by omega) (fun z hz=>by
    refine⟨?_,by have:=(hat z hz).2;omega⟩;rcases List.mem_cons.1 hz with rfl | hz
    ·omega
    ·have:=later z hz;omega)]
noncomputable def ZX (tk:List T) (x:KE):Bool:=(GY x.e (tk.getD x.at_.toNat T0)).isSome
theorem ME {tk:List T} {d:Nat}:∀ (m i:Nat) (ks:List KE) (last:Int),B0 d last ks=true→last<i→(∀ w,w ∈ ks→(i:Int)≤w.at_∧w.at_<((i+m:Nat):Int))→(LA tk m i (BJ ks)).isSome=ks.all (ZX tk)
 |0,i,ks,last,h,hl,hat=>by
  cases ks with
  |nil=>rw[BJ];rfl
  |cons w ws=>have:=hat w (by simp);omega
 |m+1,i,[],last,h,hl,hat=>by
  have:=ME (tk:=tk) m (i+1) [] last h (by omega) (fun w hw=>by simp at hw);rw[BJ] at this ⊢;rw[LA,Option.isSome_map,this]
 |m+1,i,w::ks,last,h,hl,hat=>by
  obtain⟨k1,k2,k3,k5⟩:=FC h;have hw:=hat w (by simp);have hap:BJ (w::ks)=(w.at_,GY w.e)::BJ ks:=by rw[D4,List.map_cons,← D4]
  have later:∀ z,z ∈ ks→w.at_<z.at_:=by
   have key:∀ (l:List KE) (last:Int),B0 d last l=true→∀ z,z ∈ l→last<z.at_:=fun l=>by
    induction l with
    |nil=>intro _ _ z hz;simp at hz
    |cons y l ih=>
     intro last h z hz;obtain⟨q1,_,_,q5⟩:=FC h;rcases List.mem_cons.1 hz with rfl | hz
     ·exact q1
     ·have:=ih _ q5 z hz;omega
   exact key ks _ k5
  by_cases e:w.at_=(i:Int)
  ·have ei:w.at_.toNat=i:=by omega
   rw[hap,List.all_cons];have hok:ZX tk w=(GY w.e (tk.getD i T0)).isSome:=by unfold ZX;rw[ei]
   rw[hok];cases hv:GY w.e (tk.getD i T0) with
   |none=>rw[Ty e hv];rfl
   |some v=>rw[PJ e hv,Option.isSome_map,ME m (i+1) ks w.at_ k5 (by omega) (fun z hz=>by have:=later z hz;have:=(hat z (List.mem_cons_of_mem _ hz)).2;omega)];rfl
  ·have:=ME (tk:=tk) m (i+1) (w::ks) last h (by omega) (fun z hz=>by
    refine⟨?_,by have:=(hat z hz).2;omega⟩;rcases List.mem_cons.1 hz with rfl | hz
    ·omega
    ·have:=later z hz;omega)
   rw[hap] at this ⊢;rw[KA (fun x xs ex=>by cases ex;exact e),Option.isSome_map,this]
variable {n0:Nat} {w0:World} {I0:Nat→Prop} {Q:Exit→Sta→Prop}
theorem Xw {t:T} (ht:AD t) {ws:List WE} (hwl:ws.length≤10000000000000) {R:List Int} {K:A} {v0 v16:VOb} (hws:∀ x,x ∈ ws→AA x.old∧AA x.new∧(0≤x.mask∧x.mask<256)∧0≤x.at_∧x.at_≤65534)
  (hf:∀ (H':Hp),H' [2]=⟨1,.cells [iv 0,.sl true [],.sl true []]⟩→ws.all (Y7 t.words)=false→Q .ret ⟨lk [(4,.pob [2] 1 0),(5,bv false)],H'⟩)
  (hq:ws.all (Y7 t.words)=true→∀ (H':Hp) (v:Nat) (st:List (Nat × A)),H' [0]=v0→H' [1]=⟨1,.cells (tL t)⟩→H' [2]=⟨1,.cells [iv 0,.sl true [],.sl true []]⟩→H' [3]=⟨1,.cells [iv 1,.osl [15] v 1 0 R.length,K]⟩→H' [15]=⟨v,.arr 1 (R.map uv)⟩→H' [16]=v16→Q (.exit 0) ⟨lk ([(2,.pob [0] 1 0),(3,.pob [1] 1 0),(4,.pob [2] 1 0),(6,.pob [3] 1 0)]++st),H'⟩) :
  ∀ (m k v:Nat) (X:List Int) (H:Hp),k+m=ws.length→ws.all (Y7 t.words)=(ws.drop k).all (Y7 t.words)→R=Kc t.words (ws.drop k) X→X.length≤900000→H [0]=v0→H [1]=⟨1,.cells (tL t)⟩→H [2]=⟨1,.cells [iv 0,.sl true [],.sl true []]⟩→H [3]=⟨1,.cells [iv 1,.osl [15] v 1 0 X.length,K]⟩→H [15]=⟨v,.arr 1 (X.map uv)⟩→H [16]=v16 →
  LoopC (cx Tryz.prog w0 I0 n0) BA Q ⟨lk [(2,.pob [0] 1 0),(3,.pob [1] 1 0),(4,.pob [2] 1 0),(6,.pob [3] 1 0),(26,JJ ws),(27,iv ws.length),(28,iv k)],H⟩:=by
 have z0:AA 0:=⟨by decide,by decide⟩;intro m;induction m with
 |zero=>
  intro k v X H hm hal hR hX h0 h1 h2 h3 h15 h16;have:k=ws.length:=by omega
  subst this;rw[List.drop_length] at hR hal;have hR:R=X:=hR;subst hR;refine Ab Aj BA.eq_1 ?_;simp;have:=hq hal H v [(26,JJ ws),(27,iv ws.length),(28,iv ws.length),(29,bv false)] h0 h1 h2 h3 h15 h16;simpa using this
 |succ m ih=>
  intro k v X H hm hal hR hX h0 h1 h2 h3 h15 h16;have hlt:k<ws.length:=by omega
  have ew:=AI k;have hd:ws.drop k=ws[k]::ws.drop (k+1):=(List.getElem_cons_drop hlt).symm;rw[hd] at hR hal;obtain⟨q1,q2,q3,q4,q5⟩:=hws _ (BD hlt);have next:=ih (k+1)
  generalize hx:ws[k]=x at *;obtain⟨at_,mk,o,n⟩:=x;obtain⟨i,rfl⟩:∃ i:Nat,at_=(i:Int):=⟨at_.toNat,by have h:0≤at_:=q4;omega⟩;have q5:((i:Nat):Int)≤65534:=q5;have q3:0≤mk∧mk<256:=q3;have q1:AA o:=q1;have q2:AA n:=q2;have hwa:=Fa (wfT_iff.1 ht).w i;have M1:=Dp (mask:=mk) z0 hwa q3.1 q3.2;have M2:=Dp (mask:=mk) hwa q2 q3.1 q3.2;have W1:=C6 t i;have hl:i<(D5 X i).length:=by rw[EF];omega
  have hok:Y7 t.words ⟨(i:Int),mk,o,n⟩=decide (AM 0 (t.words.getD i 0) mk=o):=by unfold Y7;rw[show((⟨(i:Int),mk,o,n⟩:WE).at_).toNat=i from Int.toNat_natCast i]
  rw[List.all_cons,hok] at hal;have hR':R=Kc t.words (ws.drop (k+1)) ((D5 X i).set i (AM (t.words.getD i 0) n mk)):=by
   rw[hR];show Kc t.words _ ((D5 X ((i:Int)).toNat).set ((i:Int)).toNat (AM (t.words.getD ((i:Int)).toNat 0) n mk))=_;rw[Int.toNat_natCast]
  generalize t.words.getD i 0=z at *;refine Ab Aj BA.eq_1 ?_;simp[hlt,hx,Aa,h1];refine Ae W1 (by simp) ?_;simp[Aa];refine Ae M1 (by simp) ?_;by_cases c:AM 0 z mk=o
  ·rw[decide_eq_true c,Bool.true_and] at hal;simp[Aa,c];refine j2 (X0:=X) (i:=i) (w:=(H [4]).u+1) (c0:=u8 mk) (c1:=uv o) (c2:=uv n) (K:=K) (by omega) (by omega) (H0:=Az H [4] ⟨(H [4]).u+1,.cells [iv i,u8 mk,uv o,uv n]⟩) (by simp[Aa]) (fun H' v' k3 k15 kH=>?_) (i+1-X.length) 0 v _ (by omega) (by simp[Aa,h3]) (by simp[Aa,h15]) (fun o _ _=>rfl);have k4:=kH [4] (by simp) (by simp);have k0:=kH [0] (by simp) (by simp);have k1:=kH [1] (by simp) (by simp);have k2:=kH [2] (by simp) (by simp);have k16:=kH [16] (by simp) (by simp);simp[Aa] at k4 k0 k1 k2 k16;simp[k3,k4];refine Ae M2 (by simp) ?_;simp[k3,k15,k4,hl,ew];refine next v' ((D5 X i).set i (AM z n mk)) _ (by omega) hal hR' (by rw[List.length_set,EF];omega) (by simp[Aa,k0,h0]) (by simp[Aa,k1,h1]) (by simp[Aa,k2,h2]) (by simp[Aa,k3]) (by simp[Aa,List.map_set]) (by simp[Aa,k16,h16])
  ·rw[decide_eq_false c,Bool.false_and] at hal;simp[Aa,c,h2];exact hf _ (by simp[Aa]) hal
theorem fQ {t:T} {ks:List KE} (hkl:ks.length≤10000000000000) {Z1:List KI} {K:A} {v15:VOb} (hat:∀ x,x ∈ ks→0≤x.at_∧x.at_≤65534) {U:KE→T} (hU:∀ x,x ∈ ks→G.Spec Tryz.prog 45 [eX x.e,tX (t.kids.getD x.at_.toNat T0)] (.tup [tX (U x),bv (ZX t.kids x)]))
  (hf:∀ (H':Hp),H' [2]=⟨1,.cells [iv 0,.sl true [],.sl true []]⟩→ks.all (ZX t.kids)=false→Q .ret ⟨lk [(4,.pob [2] 1 0),(5,bv false)],H'⟩)
  (hq:ks.all (ZX t.kids)=true→∀ (H':Hp) (v:Nat) (st:List (Nat × A)),H' [2]=⟨1,.cells [iv 0,.sl true [],.sl true []]⟩→H' [3]=⟨1,.cells [iv 1,K,.osl [16] v 3 0 Z1.length]⟩→H' [16]=⟨v,.arr 3 (Z1.map Wk)⟩→H' [15]=v15→Q (.exit 4) ⟨lk ([(3,.pob [1] 1 0),(4,.pob [2] 1 0),(6,.pob [3] 1 0)]++st),H'⟩) :
  ∀ (m k v:Nat) (Z:List KI) (H:Hp),k+m=ks.length→ks.all (ZX t.kids)=(ks.drop k).all (ZX t.kids)→Z1=Lm (ks.drop k) ((ks.drop k).map U) Z→Z.length≤900001→H [1]=⟨1,.cells (tL t)⟩→H [2]=⟨1,.cells [iv 0,.sl true [],.sl true []]⟩→H [3]=⟨1,.cells [iv 1,K,.osl [16] v 3 0 Z.length]⟩→H [16]=⟨v,.arr 3 (Z.map Wk)⟩→H [15]=v15 →
  LoopC (cx Tryz.prog w0 I0 n0) BB Q ⟨lk [(3,.pob [1] 1 0),(4,.pob [2] 1 0),(6,.pob [3] 1 0),(68,Ka ks),(69,iv ks.length),(70,iv k)],H⟩:=by
 intro m;induction m with
 |zero=>
  intro k v Z H hm hal hR hZ h1 h2 h3 h16 h15;have:k=ks.length:=by omega
  subst this;rw[List.drop_length] at hR hal;have hR:Z1=Z:=hR;subst hR;refine Ab Aj BB.eq_1 ?_;simp;have:=hq hal H v [(68,Ka ks),(69,iv ks.length),(70,iv ks.length),(71,bv false)] h2 h3 h16 h15;simpa using this
 |succ m ih=>
  intro k v Z H hm hal hR hZ h1 h2 h3 h16 h15;have hlt:k<ks.length:=by omega
  have ew:=AI k;have hd:ks.drop k=ks[k]::ks.drop (k+1):=(List.getElem_cons_drop hlt).symm;rw[hd] at hR hal;obtain⟨q4,q5⟩:=hat _ (BD hlt);have S:=hU _ (BD hlt);have next:=ih (k+1)
  generalize hx:ks[k]=x at *;rw[List.all_cons] at hal;rw[List.map_cons] at hR;have hR2:Z1=Lm (ks.drop (k+1)) ((ks.drop (k+1)).map U) ((HP Z x.at_.toNat).set x.at_.toNat (false,U x)):=hR;generalize ZX t.kids x=b at *;generalize U x=u at *;obtain⟨at_,e⟩:=x;obtain⟨i,rfl⟩:∃ i:Nat,at_=(i:Int):=⟨at_.toNat,by have h:0≤at_:=q4;omega⟩;have q5:((i:Nat):Int)≤65534:=q5;have e1:(KE.mk (i:Int) e).at_.toNat=i:=Int.toNat_natCast i;have e2:(KE.mk (i:Int) e).e=e:=rfl;rw[e1,e2] at S;rw[e1] at hR2;have K1:=DC t i;have hl:i<(HP Z i).length:=by rw[HJ];omega
  generalize t.kids.getD i T0=c at *;refine Ab Aj BB.eq_1 ?_;simp[hlt,hx,Aa,h1];refine Ae K1 (by simp) ?_;simp[Aa];refine Ae S (by simp) ?_;cases b with
  |true=>
   rw[Bool.true_and] at hal;simp[Aa];refine ke (Z0:=Z) (i:=i) (w:=(H [6]).u+1) (w7:=(H [7]).u+1) (c4:=eL e) (K:=K) (by omega) (by omega) (H0:=Az (Az H [6] ⟨(H [6]).u+1,.cells (iv i::eL e)⟩) [7] ⟨(H [7]).u+1,.cells (tL u)⟩) (by simp[Aa]) (fun H' v' k3 k16 kH=>?_) (i+1-Z.length) 0 v _ (by omega) (by simp[Aa,h3]) (by simp[Aa,h16]) (fun o _ _=>by rfl);have k6:=kH [6] (by simp) (by simp);have k7:=kH [7] (by simp) (by simp);have k1:=kH [1] (by simp) (by simp);have k2:=kH [2] (by simp) (by simp);have k15:=kH [15] (by simp) (by simp);simp[Aa] at k6 k7 k1 k2 k15;simp[k3,k6,k7,k16,hl,ew];refine next v' ((HP Z i).set i (false,u)) _ (by omega) hal hR2 (by rw[List.length_set,HJ];omega) (by simp[Aa,k1,h1]) (by simp[Aa,k2,h2]) (by simp[Aa,k3]) (by simp[Aa,List.map_set];rfl) (by simp[Aa,k15,h15])
  |false=>
   rw[Bool.false_and] at hal;simp[Aa,h2];exact hf _ (by simp[Aa]) hal
theorem X3:∀ (ws:List WE) (a X:List Int),(∀ w,w ∈ ws→0≤w.at_∧w.at_≤65534)→(Kc a ws X).length≤max X.length 65535
 |[],a,X,h=>by show X.length≤_;omega
 |w::ws,a,X,h=>by
  have:=X3 ws a ((D5 X w.at_.toNat).set w.at_.toNat (AM (a.getD w.at_.toNat 0) w.new w.mask)) (fun z hz=>h z (List.mem_cons_of_mem _ hz));rw[List.length_set,EF] at this;have h1:=h w (by simp);show(Kc a ws _).length≤_;omega
theorem YM:∀ (ks:List KE) (us:List T) (Z:List KI),(∀ w,w ∈ ks→0≤w.at_∧w.at_≤65534)→(Lm ks us Z).length≤max Z.length 65535
 |[],us,Z,h=>by show Z.length≤_;omega
 |w::ks,[],Z,h=>by show Z.length≤_;omega
 |w::ks,u::us,Z,h=>by
  have:=YM ks us ((HP Z w.at_.toNat).set w.at_.toNat (false,u)) (fun z hz=>h z (List.mem_cons_of_mem _ hz));rw[List.length_set,HJ] at this;have h1:=h w (by simp);show(Lm ks us _).length≤_;omega
theorem Ri:∀ {ws:List WE} {last:Int},BP last ws=true→∀ x,ws.getLast? = some x→∀ w,w ∈ ws→w.at_≤x.at_
 |[],_,_,x,hx,w,hw=>by simp at hw
 |[y],_,_,x,hx,w,hw=>by
  simp at hx hw;rw[← hx,hw];exact Int.le_refl _
 |y::z::ws,last,h,x,hx,w,hw=>by
  rw[List.getLast?_cons_cons] at hx;obtain⟨_,_,_,_,h5⟩:=EV h;rcases List.mem_cons.1 hw with rfl | hw
  ·have:=Ri h5 x hx z (by simp);have:=(EV h5).1;omega
  ·exact Ri h5 x hx w hw
theorem Qj {d:Nat}:∀ {ks:List KE} {last:Int},B0 d last ks=true→∀ x,ks.getLast? = some x→∀ w,w ∈ ks→w.at_≤x.at_
 |[],_,_,x,hx,w,hw=>by simp at hw
 |[y],_,_,x,hx,w,hw=>by
  simp at hx hw;rw[← hx,hw];exact Int.le_refl _
 |y::z::ks,last,h,x,hx,w,hw=>by
  rw[List.getLast?_cons_cons] at hx;obtain⟨_,_,_,h5⟩:=FC h;rcases List.mem_cons.1 hw with rfl | hw
  ·have:=Qj h5 x hx z (by simp);have:=(FC h5).1;omega
  ·exact Qj h5 x hx w hw
theorem UR {ws:List WE} {last:Int} (h:BP last ws=true) (n:Nat):n≤Fc ws n∧∀ w,w ∈ ws→w.at_<(Fc ws n:Nat):=by
 unfold Fc;cases e:ws.getLast? with
 |none=>rw[List.getLast?_eq_none_iff.1 e];exact⟨Ei _,fun w hw=>by simp at hw⟩
 |some x=>
  refine⟨by simp;omega,fun w hw=>?_⟩;have:=Ri h x e w hw;simp only;omega
theorem UB {d:Nat} {ks:List KE} {last:Int} (h:B0 d last ks=true) (n:Nat):n≤Es (BJ ks) n∧∀ w,w ∈ ks→w.at_<(Es (BJ ks) n:Nat):=by
 unfold Es;rw[D4,List.getLast?_map];cases e:ks.getLast? with
 |none=>rw[List.getLast?_eq_none_iff.1 e];exact⟨Ei _,fun w hw=>by simp at hw⟩
 |some x=>
  refine⟨by simp;omega,fun w hw=>?_⟩;have:=Qj h x e w hw;simp only[Option.map_some];omega
theorem Zr {ws:List WE} {ks:List KE} {t:T} (ht:AD t) (hwl:ws.length≤10000000000000) (hkl:ks.length≤10000000000000) (lw:t.words.length≤800000) (lk:t.kids.length≤800000) (hwf:∀ x,x ∈ ws→WE.wf x) (wok:BP (-1) ws=true) {d:Nat} (kok:B0 d (-1) ks=true) (hone:∀ x,x ∈ ks→dJ x.e (t.kids.getD x.at_.toNat T0)) :
  ∃ u,AD u∧G.Spec Tryz.prog 76 [eX (.mk 2 T0 T0 ws ks 0 []),tX t] (.tup [tX u,bv (GY (.mk 2 T0 T0 ws ks 0 []) t).isSome]):=by
 by_cases c:t.kind=1;rotate_left
 ·have hb:GY (.mk 2 T0 T0 ws ks 0 []) t=none:=by rw[HF,Ep,if_neg (by decide),if_neg (by decide),if_pos rfl,if_neg c]
  rw[hb];refine⟨T0,Dd,?_⟩;refine Ag CY (by simp) fun w0 I0=>?_;unfold Ci;simp[c];exact An ⟨AE ⟨Ad rfl,Ah,Ah,trivial⟩,Ad rfl,trivial⟩
 have aw:=Ju (by omega) wok;have ak:=Hu (by omega) kok;have hW:=Nw (tw:=t.words) (Fc ws t.words.length) 0 ws (-1) wok (by omega) (fun w hw=>⟨(aw w hw).1,by rw[Nat.zero_add];exact(UR wok t.words.length).2 w hw⟩);have hK:=ME (tk:=t.kids) (Es (BJ ks) t.kids.length) 0 ks (-1) kok (by omega) (fun w hw=>⟨(ak w hw).1.1,by rw[Nat.zero_add];exact(UB kok t.kids.length).2 w hw⟩);have hb:(GY (.mk 2 T0 T0 ws ks 0 []) t).isSome=(ws.all (Y7 t.words)&&ks.all (ZX t.kids)):=by
  rw[HF,Ep,if_neg (by decide),if_neg (by decide),if_pos rfl,if_pos c,← hW,← hK];cases LS t.words (Fc ws t.words.length) 0 ws<;>cases LA t.kids (Es (BJ ks) t.kids.length) 0 (BJ ks)<;>rfl
 rw[hb];have hU:∃ U:KE→T,∀ x,x ∈ ks→AD (U x)∧G.Spec Tryz.prog 45 [eX x.e,tX (t.kids.getD x.at_.toNat T0)] (.tup [tX (U x),bv (ZX t.kids x)]):=by
  refine Classical.axiomOfChoice (r:=fun x u=>x ∈ ks→AD u∧G.Spec Tryz.prog 45 [eX x.e,tX (t.kids.getD x.at_.toNat T0)] (.tup [tX u,bv (ZX t.kids x)])) fun x=>?_;by_cases hx:x ∈ ks
  ·obtain⟨u,u1,u2⟩:=hone x hx;exact⟨u,fun _=>⟨u1,u2⟩⟩
  ·exact⟨T0,fun h=>absurd h hx⟩
 obtain⟨U,hU⟩:=hU;have C1:=Ks t.words (by omega);have C2:=O5 t.kids (by omega);have hkr:=fL t.kids;have hkt:=XW t.kids;have hws2:∀ x,x ∈ ws→AA x.old∧AA x.new∧(0≤x.mask∧x.mask<256)∧0≤x.at_∧x.at_≤65534:=fun x hx=>⟨(hwf x hx).2.2.1,(hwf x hx).2.2.2,(hwf x hx).2.1,aw x hx⟩;generalize hZ:(t.kids.map fun k=>((false,k):KI))=Z at *;have hZl:Z.length=t.kids.length:=by rw[← hZ];simp
 cases hwa:ws.all (Y7 t.words) with
 |false=>
  refine⟨T0,Dd,?_⟩;refine Ag CY (by simp) fun w0 I0=>?_;unfold Ci;simp[c];refine Bp 15 C1 (fun p=>by simp) (by simp) (by simp) ?_;simp;refine⟨by decide,?_⟩;refine Bp 16 C2 (fun p=>by simp) (by simp) (by simp) ?_;simp;refine⟨⟨by decide,by decide⟩,?_⟩;refine LoopC.le (Ay [(2,.pob [0] 1 0),(3,.pob [1] 1 0),(4,.pob [2] 1 0),(6,.pob [3] 1 0),(26,JJ ws),(27,iv ws.length),(28,iv (0:Nat))] (by simp)) ?_;refine Xw (t:=t) (R:=Kc t.words ws t.words) (K:=.osl [16] 1 3 0 t.kids.length) (v0:=⟨1,.cells (eL (.mk 2 T0 T0 ws ks 0 []))⟩) (v16:=⟨1,.arr 3 (Z.map Wk)⟩) ht hwl hws2 (fun H' h2 _=>?_) (fun h=>absurd (hwa.symm.trans h) (by decide)) ws.length 0 1 t.words _ (by omega) (by simp) (by simp) (by omega) (by simp[Aa]) (by simp[Aa,c]) (by simp[Aa]) (by simp[Aa]) (by simp[Aa]) (by simp[Aa,hkr]);simp[h2];exact An ⟨AE ⟨Ad rfl,Ah,Ah,trivial⟩,Ad rfl,trivial⟩
 |true=>
  cases hka:ks.all (ZX t.kids) with
  |false=>
   refine⟨T0,Dd,?_⟩;refine Ag CY (by simp) fun w0 I0=>?_;unfold Ci;simp[c];refine Bp 15 C1 (fun p=>by simp) (by simp) (by simp) ?_;simp;refine⟨by decide,?_⟩;refine Bp 16 C2 (fun p=>by simp) (by simp) (by simp) ?_;simp;refine⟨⟨by decide,by decide⟩,?_⟩;refine LoopC.le (Ay [(2,.pob [0] 1 0),(3,.pob [1] 1 0),(4,.pob [2] 1 0),(6,.pob [3] 1 0),(26,JJ ws),(27,iv ws.length),(28,iv (0:Nat))] (by simp)) ?_;refine Xw (t:=t) (R:=Kc t.words ws t.words) (K:=.osl [16] 1 3 0 t.kids.length) (v0:=⟨1,.cells (eL (.mk 2 T0 T0 ws ks 0 []))⟩) (v16:=⟨1,.arr 3 (Z.map Wk)⟩) ht hwl hws2 (fun H' h2 h=>absurd (hwa.symm.trans h) (by decide)) (fun _ H' v st h0 h1 h2 h3 h15 h16=>?_) ws.length 0 1 t.words _ (by omega) (by simp) (by simp) (by omega) (by simp[Aa]) (by simp[Aa,c]) (by simp[Aa]) (by simp[Aa]) (by simp[Aa]) (by simp[Aa,hkr]);simp[h0];refine LoopC.le (Ay [(3,.pob [1] 1 0),(4,.pob [2] 1 0),(6,.pob [3] 1 0),(68,Ka ks),(69,iv ks.length),(70,iv (0:Nat))] (by simp)) ?_;rw[← hZl] at h3;refine fQ (t:=t) (Z1:=Lm ks (ks.map U) Z) (K:=.osl [15] v 1 0 (Kc t.words ws t.words).length) (v15:=⟨v,.arr 1 ((Kc t.words ws t.words).map uv)⟩) hkl (fun x hx=>(ak x hx).1) (fun x hx=>(hU x hx).2) (fun H2 k2 _=>?_) (fun h=>absurd (hka.symm.trans h) (by decide)) ks.length 0 1 Z _ (by omega) (by simp) (by simp) (by omega) h1 h2 h3 h16 h15;simp[k2];exact An ⟨AE ⟨Ad rfl,Ah,Ah,trivial⟩,Ad rfl,trivial⟩
  |true=>
   have lW:=X3 ws t.words t.words aw;have lK:=YM ks (ks.map U) Z (fun x hx=>(ak x hx).1);have wK:∀ z,z ∈ Lm ks (ks.map U) Z→AD (P0 z):=TA (Q:=AD) Dd ks (ks.map U) Z (fun u hu=>by
    obtain⟨x,hx,rfl⟩:=List.mem_map.1 hu;exact(hU x hx).1) (fun z hz=>by
    rw[← hZ] at hz;obtain⟨y,hy,rfl⟩:=List.mem_map.1 hz;exact(wfT_iff.1 ht).ks y hy)
   refine⟨.mk 1 (Kc t.words ws t.words) ((Lm ks (ks.map U) Z).map P0),wfT_iff.2 ⟨by simp[Db],Ua ws t.words (wfT_iff.1 ht).w,by show(Kc t.words ws t.words).length*8≤_;omega,by simp;omega,fun y hy=>?_⟩,?_⟩
   ·obtain⟨z,hz,rfl⟩:=List.mem_map.1 (show y ∈ (Lm ks (ks.map U) Z).map P0 from hy);exact wK z hz
   refine Ag CY (by simp) fun w0 I0=>?_;unfold Ci;simp[c];refine Bp 15 C1 (fun p=>by simp) (by simp) (by simp) ?_;simp;refine⟨by decide,?_⟩;refine Bp 16 C2 (fun p=>by simp) (by simp) (by simp) ?_;simp;refine⟨⟨by decide,by decide⟩,?_⟩;refine LoopC.le (Ay [(2,.pob [0] 1 0),(3,.pob [1] 1 0),(4,.pob [2] 1 0),(6,.pob [3] 1 0),(26,JJ ws),(27,iv ws.length),(28,iv (0:Nat))] (by simp)) ?_;refine Xw (t:=t) (R:=Kc t.words ws t.words) (K:=.osl [16] 1 3 0 t.kids.length) (v0:=⟨1,.cells (eL (.mk 2 T0 T0 ws ks 0 []))⟩) (v16:=⟨1,.arr 3 (Z.map Wk)⟩) ht hwl hws2 (fun H' h2 h=>absurd (hwa.symm.trans h) (by decide)) (fun _ H' v st h0 h1 h2 h3 h15 h16=>?_) ws.length 0 1 t.words _ (by omega) (by simp) (by simp) (by omega) (by simp[Aa]) (by simp[Aa,c]) (by simp[Aa]) (by simp[Aa]) (by simp[Aa]) (by simp[Aa,hkr]);simp[h0];refine LoopC.le (Ay [(3,.pob [1] 1 0),(4,.pob [2] 1 0),(6,.pob [3] 1 0),(68,Ka ks),(69,iv ks.length),(70,iv (0:Nat))] (by simp)) ?_;rw[← hZl] at h3;refine fQ (t:=t) (Z1:=Lm ks (ks.map U) Z) (K:=.osl [15] v 1 0 (Kc t.words ws t.words).length) (v15:=⟨v,.arr 1 ((Kc t.words ws t.words).map uv)⟩) hkl (fun x hx=>(ak x hx).1) (fun x hx=>(hU x hx).2) (fun H2 k2 h=>absurd (hka.symm.trans h) (by decide)) (fun _ H2 v2 st2 k2 k3 k16 k15=>?_) ks.length 0 1 Z _ (by omega) (by simp) (by simp) (by omega) h1 h2 h3 h16 h15;simp[k2,k3];refine An ⟨AE ⟨Ad rfl,?_,?_,trivial⟩,Ad rfl,trivial⟩
   ·exact A3 (o:=[15]) (u:=v) (n:=(Kc t.words ws t.words).length) (sz:=1) (l:=Kc t.words ws t.words) (f:=uv) (by simp[Aa,k15]) rfl (fun x=>by simp)
   ·have:=MJ (H:=Az H2 [2] ⟨1,.cells [iv 1,.osl [15] v 1 0 (Kc t.words ws t.words).length,.osl [16] v2 3 0 (Lm ks (ks.map U) Z).length]⟩) (o:=[16]) (u:=v2) (n:=(Lm ks (ks.map U) Z).length) (sz:=3) (l:=Lm ks (ks.map U) Z) (f:=Wk) (g:=fun z=>tA (P0 z)) (by simp[Aa,k16]) rfl (fun x _=>by
     obtain⟨c,t⟩:=x;cases c<;>simp[lj,P0,A.soft,A.softL,FK,D3])
    show Gy _ _ (.sl false (((Lm ks (ks.map U) Z).map P0).map tA));rw[List.map_map];exact this
def UD:Nat→E→Prop
 |0,_=>True
 |f+1,e=>DG e.old≤3000∧DG e.new≤3000∧(∀ o,o ∈ e.ops→(∀ t,t ∈ o.l→DG t≤3000)∧UD f o.e)∧∀ k,k ∈ e.kids→UD f k.e
theorem F2:∀ (l:List T) (d:Nat) (n:Int),0≤Ar d n l→Ar d n l≤n∧0≤n∧∀ t,t ∈ l→DG t≤n
 |[],d,n,h=>by
  rw[NR] at h ⊢;exact⟨Int.le_refl _,h,fun t ht=>by simp at ht⟩
 |t::l,d,n,h=>by
  rw[C7] at h ⊢;by_cases c:n<0
  ·rw[if_pos c] at h;omega
  ·rw[if_neg c] at h ⊢;obtain⟨h1,h2,h3⟩:=F2 l d _ h;have p:=GD t d n h2;have r:=(Bo t d n).2 (by omega);refine⟨by omega,by omega,fun x hx=>?_⟩;rcases List.mem_cons.1 hx with rfl | hx
   ·omega
   ·have:=h3 x hx;omega
theorem fD:∀ (e:E) (d:Nat) (n:Int),n≤3000→0≤CT d n e→CT d n e≤n∧0≤n∧∀ f,UD f e:=by
 refine E.ind fun k o nn ws ks l os ihK ihO d n hn h=>?_;have kids:∀ (kl:List KE) (d:Nat) (n:Int),(∀ x,x ∈ kl→∀ (d:Nat) (n:Int),n≤3000→0≤CT d n x.e→CT d n x.e≤n∧0≤n∧∀ f,UD f x.e)→n≤3000→0≤Cr d n kl→Cr d n kl≤n∧0≤n∧∀ x,x ∈ kl→∀ f,UD f x.e:=fun kl=>by
  induction kl with
  |nil=>intro d n _ hn h;rw[JA] at h ⊢; exact⟨Int.le_refl _,h,fun x hx=>by simp at hx⟩
  |cons y kl ih=>
   intro d n hI hn h;rw[Fy] at h ⊢;by_cases c:n<0
   ·rw[if_pos c] at h;omega
   ·rw[if_neg c] at h ⊢;by_cases c2:CT d n y.e<0
    ·have key:∀ (kl:List KE) (m:Int),m<0→Cr d m kl=m:=fun kl m hm=>by cases kl with
      |nil=>rw[JA]
      |cons z kl=>rw[Fy,if_pos hm]
     rw[key kl _ c2] at h;omega
    ·obtain⟨y1,y2,y3⟩:=hI y (by simp) d n hn (by omega);obtain⟨h1,h2,h3⟩:=ih d _ (fun x hx=>hI x (List.mem_cons_of_mem _ hx)) (by omega) h;refine⟨by omega,by omega,fun x hx=>?_⟩;rcases List.mem_cons.1 hx with rfl | hx
     ·exact y3
     ·exact h3 x hx
 have opsL:∀ (ol:List OP) (d:Nat) (n:Int),(∀ x,x ∈ ol→∀ (d:Nat) (n:Int),n≤3000→0≤CT d n x.e→CT d n x.e≤n∧0≤n∧∀ f,UD f x.e)→n≤3000→0≤Ds d n ol→Ds d n ol≤n∧0≤n∧∀ x,x ∈ ol→(∀ t,t ∈ x.l→DG t≤3000)∧∀ f,UD f x.e:=fun ol=>by
  induction ol with
  |nil=>intro d n _ hn h;rw[HU] at h ⊢; exact⟨Int.le_refl _,h,fun x hx=>by simp at hx⟩
  |cons y ol ih=>
   intro d n hI hn h;have key:∀ (kl:List OP) (m:Int),m<0→Ds d m kl=m:=fun kl m hm=>by cases kl with
    |nil=>rw[HU]
    |cons z kl=>rw[DB,if_pos hm]
   rw[DB] at h ⊢;by_cases c:n<0
   ·rw[if_pos c] at h;omega
   ·rw[if_neg c] at h ⊢;by_cases c1:Ar 80 n y.l<0
    ·rw[if_pos c1,key ol _ c1] at h;omega
    ·rw[if_neg c1] at h ⊢;obtain⟨s1,s2,s3⟩:=F2 y.l 80 n (by omega);by_cases c2:CT d (Ar 80 n y.l) y.e<0
     ·rw[key ol _ c2] at h;omega
     ·obtain⟨y1,y2,y3⟩:=hI y (by simp) d _ (by omega) (by omega:0≤CT d (Ar 80 n y.l) y.e);obtain⟨h1,h2,h3⟩:=ih d _ (fun x hx=>hI x (List.mem_cons_of_mem _ hx)) (by omega) h;refine⟨by omega,by omega,fun x hx=>?_⟩;rcases List.mem_cons.1 hx with rfl | hx
      ·exact⟨fun t ht=>by have:=s3 t ht;omega,y3⟩
      ·exact h3 x hx
 rw[NA] at h ⊢;by_cases c:d=0∨n-1-ws.length-os.length<0
 ·rw[if_pos c] at h;omega
 rw[if_neg c] at h ⊢;have c':¬ (n-1-ws.length-os.length<0):=fun h=>c (.inr h);by_cases c2:Cr (d-1) (Jr n ws.length os.length o nn) ks<0
 ·have key:∀ (kl:List OP) (m:Int),m<0→Ds (d-1) m kl=m:=fun kl m hm=>by cases kl with
   |nil=>rw[HU]
   |cons z kl=>rw[DB,if_pos hm]
  rw[key os _ c2] at h;omega
 have l2:Jr n ws.length os.length o nn≤n-1-ws.length-os.length∧(0≤Jr n ws.length os.length o nn→DG o≤3000∧DG nn≤3000):=by
  rw[KS];have r1:=(Bo o 80 (n-1-ws.length-os.length)).2 (by omega);by_cases q:Au 80 (n-1-ws.length-os.length) o<0
  ·rw[if_pos q];exact⟨r1,fun h=>by omega⟩
  ·rw[if_neg q];have r2:=(Bo nn 80 (Au 80 (n-1-ws.length-os.length) o)).2 (by omega);refine⟨by omega,fun h=>?_⟩;have p1:=GD o 80 _ (by omega:0≤Au 80 (n-1-ws.length-os.length) o);have p2:=GD nn 80 _ h;omega
 obtain⟨k1,k2,k3⟩:=kids ks (d-1) _ (fun x hx=>ihK x hx) (by omega) (by omega:0≤Cr (d-1) (Jr n ws.length os.length o nn) ks);obtain⟨o1,o2,o3⟩:=opsL os (d-1) _ (fun x hx=>ihO x hx) (by omega) h;obtain⟨p1,p2⟩:=l2.2 k2;refine⟨by omega,by omega,fun f=>?_⟩;cases f with
 |zero=>trivial
 |succ f=>exact⟨p1,p2,fun x hx=>⟨(o3 x hx).1,(o3 x hx).2 f⟩,fun x hx=>k3 x hx f⟩
def TU:Nat→E→Prop
 |0,_=>True
 |f+1,e=>(AB 0 0 e.ops).2≤2000∧(∀ o,o ∈ e.ops→TU f o.e)∧∀ k,k ∈ e.kids→TU f k.e
theorem Ul:∀ (f:Nat) (e:E),Gh e=true→TU f e
 |0,e,h=>trivial
 |f+1,e,h=>by
  obtain⟨k,o,nn,ws,ks,l,os⟩:=e;rw[Sh] at h;simp at h;obtain⟨⟨⟨h1,h2⟩,h3⟩,h4⟩:=h;have ka:∀ (kl:List KE),FR kl=true→∀ x,x ∈ kl→Gh x.e=true:=fun kl=>by
   induction kl with
   |nil=>intro _ x hx;simp at hx
   |cons y kl ih=>
    intro h x hx;rw[MP,Bool.and_eq_true] at h;rcases List.mem_cons.1 hx with rfl | hx
    ·exact h.1
    ·exact ih h.2 x hx
  have oa:∀ (kl:List OP),F5 kl=true→∀ x,x ∈ kl→Gh x.e=true:=fun kl=>by
   induction kl with
   |nil=>intro _ x hx;simp at hx
   |cons y kl ih=>
    intro h x hx;rw[Nb,Bool.and_eq_true] at h;rcases List.mem_cons.1 hx with rfl | hx
    ·exact h.1
    ·exact ih h.2 x hx
  exact⟨by show(AB 0 0 os).2≤2000;omega,fun x hx=>Ul f x.e (oa os h4 x hx),fun x hx=>Ul f x.e (ka ks h3 x hx)⟩
theorem NG:∀ (os:List OP) (n m:Int),(∀ x,x ∈ os→Ht x)→0≤n→0≤m→n≤1048576→m≤1048576→(AB n m os).1<1048576→(AB n m os).2<1048576→m+D6 os=(AB n m os).2
 |[],n,m,_,_,_,_,_,h1,h2=>by simp[AB,D6]
 |x::os,n,m,h,hn,hm,tn,tm,h1,h2=>by
  rw[AB] at h1 h2 ⊢;have hok:=h x (by simp);have hx:=QU hok;have hr:∀ y,y ∈ os→Ht y:=fun y hy=>h y (by simp[hy]);obtain⟨a,b⟩:=FN os (Lk (if x.kind ≠ 2 then n+B4 x else n)) (Lk (if x.kind ≠ 1 then m+B4 x else m)) hr (Gu _) (Gu _);have e1:=Tx (a:=0) (Int.lt_of_le_of_lt a h1);have e2:=Tx (a:=0) (Int.lt_of_le_of_lt b h2);have d:=NG os _ _ hr (by rw[e1];split<;>omega) (by rw[e2];split<;>omega) (Gu _) (Gu _) h1 h2;rw[← d,e2];have q:=Yv hok;simp only[D6];by_cases k1:x.kind=1
  ·simp[k1] at q ⊢; omega
  ·simp[k1] at q ⊢; omega
theorem ib {R:E→T→T→Prop} {os:List OP} {a b:List T} (h:LdO R os a b):b.length≤D6 os:=by
 induction h with
 |nil=>simp
 |keep l m hne hl _ ih=>
  have:m.length=l.length:=by simpa using (congrArg List.length hl).symm
  simp[D6,GH];omega
 |del l m hne hl _ ih=>simp[D6,GH];omega
 |ins l m hne hl _ ih=>
  have:m.length=l.length:=by simpa using (congrArg List.length hl).symm
  simp[D6,GH];omega
 |desc e x y r _ ih=>simp[D6,GH];omega
def PT (f:Nat) (t:T):Prop:=AD t∧NW f t∧Sq f t
theorem kv {f:Nat} {t:T} (h:PT (f+1) t) (i:Nat):PT f (t.kids.getD i T0):=⟨DE h.1 i,vz h.2.1 i,Jc h.2.2 i⟩
theorem P9 {f d:Nat} {t:T} (w:AD t) (r:BV d t=true) (p:DG t≤100000):PT f t:=⟨w,UX f d t r,VI f t p⟩
def EH (f:Nat) (e:E):Prop:=J2 e∧UD f e∧TU f e∧∃ d,d≤f∧BG d e=true
theorem Qx:∀ (f:Nat) (e:E) (o x:T),EH f e→PT f o→GY e o=some x→∃ y,Ld f e o y∧Af y=Af x∧PT f y:=by
 intro f;induction f with
 |zero=>
  intro e o x ⟨_,_,_,d,hd,hr⟩;have:d=0:=by omega
  subst this;obtain⟨k,o,n,ws,ks,l,os⟩:=e;exact absurd rfl (rightE_iff.1 hr).d0
 |succ f ih=>
  intro e o x ⟨we,hF,hL,d,hd,hr⟩ hP hx;have he:=wfE_iff.1 we;have hsub:=fun h1=>Hw hr h1;obtain⟨k,oo,n,ws,ks,l,os⟩:=e;have R:=rightE_iff.1 hr;have hd0:=R.d0;have hd1:d-1≤f:=by omega
  have hk0:=R.k0;have hk3:=R.k3;have O:=wfT_iff.1 hP.1;rw[HF] at hx;by_cases k0:k=0
  ·subst k0;obtain⟨rfl,rfl⟩:=R.one (by decide);obtain⟨rfl,rfl⟩:=R.two (by decide);obtain⟨rfl,rfl⟩:=R.three (by decide);rw[Ep,if_pos rfl] at hx;cases hx;exact⟨o,Hn (.inl ⟨rfl,rfl⟩),(Dr o).symm,hP⟩
  by_cases k1:k=1
  ·subst k1;obtain⟨rfl,rfl⟩:=R.two (by decide);obtain⟨rfl,rfl⟩:=R.three (by decide);rw[Ep,if_neg (by decide),if_pos rfl] at hx;by_cases c:G9 oo o=true
   ·rw[if_pos c] at hx;cases hx;have hp:DG n≤3000:=hF.2.1;exact⟨n,Hn (.inr ⟨oo,n,rfl,eqT_iff.1 c,rfl⟩),(Dr n).symm,P9 he.n (R.rep rfl).2.1 (by omega)⟩
   ·rw[if_neg c] at hx;cases hx
  obtain⟨rfl,rfl⟩:=R.one k1;by_cases k2:k=2
  ·subst k2;obtain⟨rfl,rfl⟩:=R.three (by decide);rw[Ep,if_neg (by decide),if_neg (by decide),if_pos rfl] at hx;by_cases c:o.kind=1;rotate_left
   ·rw[if_neg c] at hx;cases hx
   rw[if_pos c] at hx;cases hW:LS o.words (Fc ws o.words.length) 0 ws with
   |none=>rw[hW] at hx;simp at hx
   |some W=>
    cases hK:LA o.kids (Es (BJ ks) o.kids.length) 0 (BJ ks) with
    |none=>rw[hW,hK] at hx;simp at hx
    |some K=>
     rw[hW,hK] at hx;simp only[Option.some.injEq] at hx;obtain⟨w1,w2⟩:=Jn O.w _ _ _ _ hW;obtain⟨g1,g2⟩:=UR R.wok o.words.length;obtain⟨g3,g4⟩:=UB R.kok o.kids.length;have ap:=Ju (by omega) R.wok;have kp:=Hu (by omega) R.kok;have b1:=UE ap o.words.length;have b2:=VN (fun x hx=>(kp x hx).1) o.kids.length;have LW:=PM O.w _ 0 ws W W (-1) hW (fun j hj=>by rw[Nat.zero_add]) (by rw[w1,Nat.zero_add]) (by omega) R.wok (by omega) (fun w hw=>by
      have:=he.w w hw;exact⟨by rw[Nat.zero_add];exact g2 w hw,this.2.2.1,this.2.2.2,this.2.1.1,this.2.1.2⟩) (fun w hw=>(ap w hw).1)
     obtain⟨Y,y1,y2,y3,y4⟩:=PQ (R:=Ld f) (P:=PT f) (P':=PT f) (fun t h=>h) (fun i=>kv hP i) (d:=d-1) _ 0 ks K [] (-1) hK rfl (by omega) R.kok (by omega) (fun w hw=>⟨(kp w hw).1.1,by rw[Nat.zero_add];exact g4 w hw⟩) (fun z hz t v ht hv=>ih z.e t v ⟨(he.ks z hz).2,hF.2.2.2 z hz,hL.2.2 z hz,d-1,hd1,(kp z hz).2⟩ ht hv);rw[List.nil_append] at y4;have s1:=hP.2.2.1;have s2:=hP.2.2.2.1;refine⟨.mk 1 W Y,.inr (.inl ⟨ws,ks,rfl,c,rfl,LW,y4⟩),?_,wfT_iff.2 ⟨by simp[Db],w2,by show W.length*8≤_;omega,by show Y.length*56≤_;omega,fun t ht=>(y3 t ht).1⟩,⟨fun h1 h2=>by have h1:(2:Int)≤1:=h1;omega,fun t ht=>(y3 t ht).2.1⟩,by show W.length≤_;omega,by show Y.length≤_;omega,fun t ht=>(y3 t ht).2.2⟩;rw[← hx,Dr];exact struct_eq.2 ⟨fun i=>rfl,y2⟩
  ·have k3:k=3:=by omega
   subst k3;obtain⟨rfl,rfl⟩:=R.two (by decide);rw[Ep,if_neg (by decide),if_neg (by decide),if_neg (by decide),if_pos rfl] at hx;by_cases c:o.kind=l;rotate_left
   ·rw[if_neg c] at hx;cases hx
   rw[if_pos c] at hx;subst c;have hl:=R.lst rfl;have hs:=(hsub (show ¬ (3:Int)=1 by decide)).2;cases hB:Cp o.kids 0 (CE os) with
   |none=>rw[hB] at hx;simp at hx
   |some r=>
    obtain⟨B,a⟩:=r;rw[hB] at hx;simp only at hx;by_cases ca:a=o.kids.length;rotate_left
    ·rw[if_neg ca] at hx;cases hx
    rw[if_pos ca] at hx;simp only[Option.some.injEq] at hx;subst ca;obtain⟨Y,y1,y2,y3⟩:=Ko (R:=Ld f) (P:=PT f) (P':=PT f) (fun t h=>h) (tk:=o.kids) (fun t ht=>⟨O.ks t ht,hP.2.1.2 t ht,hP.2.2.2.2 t ht⟩) os 0 B (rightOs_all.1 R.ook) hB (Nat.zero_le _) (fun z hz t ht=>by
     have hr64:BV 64 (.mk o.kind [] [t])=true:=by
      have:=rightOs_all.1 R.ook z hz;rw[ET,Bool.and_eq_true] at this;have h1:=this.1;unfold E4 at h1;by_cases z0:z.kind=0
      ·rw[if_pos z0] at h1;simp[List.isEmpty_iff] at h1;rw[h1.1.2] at ht;simp at ht
      ·rw[if_neg z0] at h1;by_cases zb:z.n ≠ 0∨z.kind<0∨z.kind > 3
       ·rw[if_pos zb] at h1;cases h1
       ·rw[if_neg zb] at h1;by_cases z3:z.kind<3
        ·rw[if_pos z3,Bool.and_eq_true,Bool.and_eq_true] at h1;exact List.all_eq_true.1 h1.1.1 t ht
        ·have h2:=this.2;rw[if_pos (show z.kind=3 by omega)] at h2;simp[JR,List.isEmpty_iff] at h2;rw[h2.1.1.1.1] at ht;simp at ht
     have:=(hF.2.2.1 z hz).1 t ht;exact P9 ((he.os z hz).l t ht) (LV hr64 t (by simp)).1 (by omega)) (fun z hz hz3 t v ht hv=>ih z.e t v ⟨(he.os z hz).e,(hF.2.2.1 z hz).2,hL.2.1 z hz,d-1,hd1,(hs z hz).2 hz3⟩ ht hv)
    rw[List.drop_zero] at y3;have hop:∀ z,z ∈ os→Ht z:=fun z hz=>(hs z hz).1.1;have ly:=ib y3;have la:=NG os 0 0 hop (by omega) (by omega) (by omega) (by omega) R.len.1 R.len.2;have l2:(AB 0 0 os).2≤2000:=hL.1;have ow:=hP.2.1.1 hl.1 hl.2;refine⟨.mk o.kind [] Y,.inr (.inr ⟨os,rfl,rfl,hl,⟨ow,rfl⟩,y3⟩),?_,wfT_iff.2 ⟨O.k,by simp,by simp,by show Y.length*56≤_;omega,fun t ht=>(y2 t ht).1⟩,⟨fun _ _=>rfl,fun t ht=>(y2 t ht).2.1⟩,by simp,by show Y.length≤_;omega,fun t ht=>(y2 t ht).2.2⟩;rw[← hx,Dr];exact(Jb (by omega) (by omega)).2 ⟨rfl,y1⟩
theorem jc {e:E} {t u:T} {b:Bool} (hk:e.kind=2) (h:G.Spec Tryz.prog 76 [eX e,tX t] (.tup [tX u,bv b])):G.Spec Tryz.prog 45 [eX e,tX t] (.tup [tX u,bv b]):=by
 obtain⟨k,o,n,ws,ks,l,os⟩:=e;have hk:k=2:=hk;subst hk;refine Ag Dz (by simp) fun w0 I0=>?_;unfold CZ;simp;refine Ae h (by simp) ?_;simp;exact An ⟨Ad (by simp),Ad rfl,trivial⟩
theorem fY {e:E} {t u:T} {b:Bool} (hk:e.kind=3) (h:G.Spec Tryz.prog 77 [eX e,tX t] (.tup [tX u,bv b])):G.Spec Tryz.prog 45 [eX e,tX t] (.tup [tX u,bv b]):=by
 obtain⟨k,o,n,ws,ks,l,os⟩:=e;have hk:k=3:=hk;subst hk;refine Ag Dz (by simp) fun w0 I0=>?_;unfold CZ;simp;refine Ae h (by simp) ?_;simp;exact An ⟨Ad (by simp),Ad rfl,trivial⟩
theorem YX {d:Nat} {list:Int}:∀ {os:List OP},(∀ o,o ∈ os→Gn d list o=true)→os.length≤Ph os+D6 os
 |[],_=>Nat.zero_le _
 |o::os,h=>by
  have ih:=YX fun x hx=>h x (List.mem_cons_of_mem _ hx);simp only[Ph,D6,List.length_cons];rcases Tr (h o (by simp)) with ⟨n,hn,rfl⟩ | ⟨l,hne,rfl⟩ | ⟨l,hne,rfl⟩ | ⟨e,_,rfl⟩
  ·have:Vn (.mk 0 (n:Int) [] E0)=n:=by simp[Vn,B4]
   omega
  ·have hl:=List.length_pos_iff.2 hne;have:Vn (.mk 1 0 l E0)=l.length:=by simp[Vn,B4]
   omega
  ·have hl:=List.length_pos_iff.2 hne;have:GH (.mk 2 0 l E0)=l.length:=by simp[GH]
   omega
  ·have:GH (.mk 3 0 [] e)=1:=by simp[GH]
   omega
theorem Aa9:∀ (f:Nat) (e:E) (t:T),EH f e→PT f t→dJ e t:=by
 intro f;induction f with
 |zero=>
  intro e o ⟨_,_,_,d,hd,hr⟩;have:d=0:=by omega
  subst this;obtain⟨k,o,n,ws,ks,l,os⟩:=e;exact absurd rfl (rightE_iff.1 hr).d0
 |succ f ih=>
  intro e o ⟨we,hF,hL,d,hd,hr⟩ hP;have he:=wfE_iff.1 we;have hsub:=fun h1=>Hw hr h1;obtain⟨k,oo,n,ws,ks,l,os⟩:=e;have R:=rightE_iff.1 hr;have hd0:=R.d0;have hd1:d-1≤f:=by omega
  have hk0:=R.k0;have hk3:=R.k3;have O:=wfT_iff.1 hP.1;by_cases k0:k=0
  ·subst k0;obtain⟨rfl,rfl⟩:=R.one (by decide);obtain⟨rfl,rfl⟩:=R.two (by decide);obtain⟨rfl,rfl⟩:=R.three (by decide);refine⟨o,hP.1,?_⟩;rw[HF,Ep,if_pos rfl];refine Ag Dz (by simp) fun w0 I0=>?_;unfold CZ;simp;exact An ⟨Ad (by simp),Ad rfl,trivial⟩
  by_cases k1:k=1
  ·subst k1;obtain⟨rfl,rfl⟩:=R.two (by decide);obtain⟨rfl,rfl⟩:=R.three (by decide);have E1:=I3 (t:=oo) (u:=o) he.o hP.1;refine⟨n,he.n,?_⟩;have hb:(GY (.mk 1 oo n [] [] 0 []) o).isSome=G9 oo o:=by
    rw[HF,Ep,if_neg (by decide),if_pos rfl];cases G9 oo o<;>rfl
   rw[hb];refine Ag Dz (by simp) fun w0 I0=>?_;unfold CZ;simp;refine Ae E1 (by simp) ?_;simp;exact An ⟨Ad (by simp),Ad rfl,trivial⟩
  obtain⟨rfl,rfl⟩:=R.one k1;have s1:=hP.2.2.1;have s2:=hP.2.2.2.1;by_cases k2:k=2
  ·subst k2;obtain⟨rfl,rfl⟩:=R.three (by decide);have wl:ws.length*32≤140737488355328:=he.wl;have kl:ks.length*208≤140737488355328:=he.kl;have kp:=Hu (by omega) R.kok;obtain⟨u,u1,u2⟩:=Zr hP.1 (ws:=ws) (ks:=ks) (by omega) (by omega) (by omega) (by omega) he.w R.wok R.kok (fun x hx=>ih x.e _ ⟨(he.ks x hx).2,hF.2.2.2 x hx,hL.2.2 x hx,d-1,hd1,(kp x hx).2⟩ (kv hP _));exact⟨u,u1,jc rfl u2⟩
  ·have k3:k=3:=by omega
   subst k3;obtain⟨rfl,rfl⟩:=R.two (by decide);have hs:=(hsub (show ¬ (3:Int)=1 by decide)).2;have hll:os.length≤2200000:=by
    have hop:∀ z,z ∈ os→Ht z:=fun z hz=>(hs z hz).1.1;have la:=KF os 0 0 hop (by omega) (by omega) (by omega) (by omega) R.len.1 R.len.2;have:=YX (rightOs_all.1 R.ook);omega
   obtain⟨u,u1,u2⟩:=W9 (l:=l) (os:=os) hP.1 hll (fun z hz t ht=>(he.os z hz).l t ht) (fun z hz=>(hs z hz).1.2) (rightOs_all.1 R.ook) (by omega) (fun z hz hz3 x hx=>ih z.e x ⟨(he.os z hz).e,(hF.2.2.1 z hz).2,hL.2.1 z hz,d-1,hd1,(hs z hz).2 hz3⟩ ⟨O.ks x hx,hP.2.1.2 x hx,hP.2.2.2.2 x hx⟩);exact⟨u,u1,fY rfl u2⟩
theorem Zn {f:Nat} {e:E} {t:T} (he:EH f e) (ht:PT f t) (h:GY e t=none):G.Spec Tryz.prog 25 [eX e,tX t] (.tup [tX T0,bv false]):=by
 obtain⟨u,u1,u2⟩:=Aa9 f e t he ht;rw[h] at u2;refine Ag Ny (by simp) fun w0 I0=>?_;unfold JH;simp;refine Ae u2 (by simp) ?_;simp[Aa];exact An ⟨AE ⟨Ad rfl,Ah,Ah,trivial⟩,Ad rfl,trivial⟩
def Pe (f:Nat) (e:E) (x y:T):Prop:=Wi f e x y∧∃ d,BG d e=true
theorem Ml {f:Nat} {e:E} {x y:T} (h:Pe f e x y):ZY e x:=by
 obtain⟨⟨h1,h2,h3,h4,_,_⟩,d,hd⟩:=h;have S:=(Mf e h2 d hd x h3).1;have e1:=cC f e x y h1;have e2:=Oq h1;rw[e1] at S;refine⟨by rw[e2];exact B9 y h4,by rw[e2,Dr],?_⟩;rw[e2];exact S
theorem P7 {f:Nat} {at':Cw} {o:T} {p q:E} (hp:ZY p o) (hq:ZY q o) (wo:AD o) (h2:¬ (p.kind=2∧q.kind=2)) (h3:¬ (p.kind=3∧q.kind=3)) (hm:mg f at' o p q=Su at' o p q):∃ u,kF f at' o p q u:=by
 have D1:=hp.2.2;have D2:=hq.2.2;by_cases k0:p.kind=0
 ·have e:mg f at' o p q=(Ea q o,[]):=by rw[hm,Su,if_pos k0]
  refine⟨Ea q o,hq.1,by rw[e,hq.2.1],fun _=>?_⟩;rw[e];refine Ag Cn (by simp) fun w0 I0=>?_;unfold BM;simp;refine Ae D1 (by simp) ?_;simp[Aa];refine Ae D2 (by simp) ?_;simp[Aa,k0];exact An ⟨Ad (by simp),Ah,trivial⟩
 by_cases q0:q.kind=0
 ·have e:mg f at' o p q=(Ea p o,[]):=by rw[hm,Su,if_neg k0,if_pos q0]
  refine⟨Ea p o,hp.1,by rw[e,hp.2.1],fun _=>?_⟩;rw[e];refine Ag Cn (by simp) fun w0 I0=>?_;unfold BM;simp;refine Ae D1 (by simp) ?_;simp[Aa];refine Ae D2 (by simp) ?_;simp[Aa,k0,q0];exact An ⟨Ad (by simp),Ah,trivial⟩
 have E:=Iu hp.1 hq.1 (B9 _ hp.1)
 -- the walk up to the comparison
 have walk:∀ {r:T} {cs:List Cf},(Ea p o=Ea q o→r=Ea p o∧cs=[])→(Ea p o ≠ Ea q o→r=o∧cs=[⟨at',Af o,Ea p o,Ea q o⟩])→G.Spec Tryz.prog 37 [A8 at',tX o,eX p,eX q] (.tup [tX r,G5 cs]):=fun {r cs} r1 r2=>by
  by_cases c:Ea p o=Ea q o
  ·obtain⟨rfl,rfl⟩:=r1 c;rw[eqT_iff.2 (by rw[c])] at E;refine Ag Cn (by simp) fun w0 I0=>?_;unfold BM;simp;refine Ae D1 (by simp) ?_;simp[Aa];refine Ae D2 (by simp) ?_;by_cases p2:p.kind=2
   ·have q2:¬ q.kind=2:=fun h=>h2 ⟨p2,h⟩;simp[Aa,p2,q0,q2];refine Ae E (by simp) ?_;simp[Aa];exact An ⟨Ad (by simp),Ah,trivial⟩
   ·by_cases p3:p.kind=3
    ·have q3:¬ q.kind=3:=fun h=>h3 ⟨p3,h⟩;simp[Aa,p3,q0,q3];refine Ae E (by simp) ?_;simp[Aa];exact An ⟨Ad (by simp),Ah,trivial⟩
    ·simp[Aa,k0,p2,p3,q0];refine Ae E (by simp) ?_;simp[Aa];exact An ⟨Ad (by simp),Ah,trivial⟩
  ·obtain⟨rfl,rfl⟩:=r2 c;have ef:G9 (Ea p r) (Ea q r)=false:=by
    cases h:G9 (Ea p r) (Ea q r) with
    |false=>rfl
    |true=>
     have:=eqT_iff.1 h;rw[hp.2.1,hq.2.1] at this;exact absurd this c
   rw[ef] at E;have CL:=GG (l:=at') wo hp.1 hq.1;rw[hp.2.1,hq.2.1] at CL;generalize (⟨at',Af r,Ea p r,Ea q r⟩:Cf)=cf at *;refine Ag Cn (by simp) fun w0 I0=>?_;unfold BM;simp;refine Ae D1 (by simp) ?_;simp[Aa];refine Ae D2 (by simp) ?_;by_cases p2:p.kind=2
   ·have q2:¬ q.kind=2:=fun h=>h2 ⟨p2,h⟩;simp[Aa,p2,q0,q2];refine Ae E (by simp) ?_;simp[Aa];refine Ae CL (by simp) ?_;simp[Aa];exact An ⟨Ad (by simp),Ah,trivial⟩
   ·by_cases p3:p.kind=3
    ·have q3:¬ q.kind=3:=fun h=>h3 ⟨p3,h⟩;simp[Aa,p3,q0,q3];refine Ae E (by simp) ?_;simp[Aa];refine Ae CL (by simp) ?_;simp[Aa];exact An ⟨Ad (by simp),Ah,trivial⟩
    ·simp[Aa,k0,p2,p3,q0];refine Ae E (by simp) ?_;simp[Aa];refine Ae CL (by simp) ?_;simp[Aa];exact An ⟨Ad (by simp),Ah,trivial⟩
 by_cases c:Ea p o=Ea q o
 ·have e:mg f at' o p q=(Ea p o,[]):=by rw[hm,Su,if_neg k0,if_neg q0,if_pos c]
  refine⟨Ea p o,hp.1,by rw[e,hp.2.1],fun _=>?_⟩;rw[e];exact walk (fun _=>⟨rfl,rfl⟩) (fun h=>absurd c h)
 ·have e:mg f at' o p q=(Af o,[⟨at',Af o,Ea p o,Ea q o⟩]):=by rw[hm,Su,if_neg k0,if_neg q0,if_neg c]
  refine⟨o,wo,by rw[e],fun _=>?_⟩;rw[e];exact walk (fun h=>absurd h c) (fun _=>⟨rfl,rfl⟩)
theorem ZG {at':Cw} {o:T} {p q:E} {u:T} {cs:List Cf} (ep:ZY p o) (eq:ZY q o) (hp:p.kind=2) (hq:q.kind=2) (S:G.Spec Tryz.prog 63 [A8 at',tX o,eX p,eX q] (.tup [tX u,G5 cs])):G.Spec Tryz.prog 37 [A8 at',tX o,eX p,eX q] (.tup [tX u,G5 cs]):=by
 have E1:=ep.2.2;have E2:=eq.2.2;obtain⟨kp,op,np,wp,ksp,lp,osp⟩:=p;obtain⟨kq,oq,nq,wq,ksq,lq,osq⟩:=q;have hp:kp=2:=hp;have hq:kq=2:=hq;subst hp;subst hq;refine Ag Cn (by simp) fun w0 I0=>?_;unfold BM;simp;refine Ae E1 (by simp) ?_;simp[Aa];refine Ae E2 (by simp) ?_;simp[Aa];refine Ae S (by simp) ?_;simp[Aa];exact An ⟨Ad (by simp),Ah,trivial⟩
theorem WT {at':Cw} {o:T} {p q:E} {u:T} {cs:List Cf} (ep:ZY p o) (eq:ZY q o) (hp:p.kind=3) (hq:q.kind=3) (S:G.Spec Tryz.prog 64 [A8 at',tX o,eX p,eX q] (.tup [tX u,G5 cs])):G.Spec Tryz.prog 37 [A8 at',tX o,eX p,eX q] (.tup [tX u,G5 cs]):=by
 have E1:=ep.2.2;have E2:=eq.2.2;obtain⟨kp,op,np,wp,ksp,lp,osp⟩:=p;obtain⟨kq,oq,nq,wq,ksq,lq,osq⟩:=q;have hp:kp=3:=hp;have hq:kq=3:=hq;subst hp;subst hq;refine Ag Cn (by simp) fun w0 I0=>?_;unfold BM;simp;refine Ae E1 (by simp) ?_;simp[Aa];refine Ae E2 (by simp) ?_;simp[Aa];refine Ae S (by simp) ?_;simp[Aa];exact An ⟨Ad (by simp),Ah,trivial⟩
theorem Ye {R:E→T→T→Prop} {us:List U} {a b:List T} (h:LdU R us a b):us.length≤a.length+b.length:=by
 induction h<;>simp<;>omega
theorem R2 {R:E→T→T→Prop} {a b:List T} {p:Nat} {ks:List KE} (h:U7 R a b p ks):ks.length+p≤max p (max a.length b.length):=by
 induction h with
 |nil p h=>simp;omega
 |cons p i e ks hp h hi he hr _ ih=>
  rw[List.length_cons];omega
theorem sF:∀ (f:Nat) (p q:E) (o x y:T),Pe f p o x→Pe f q o y→∀ at':Cw,at'.length+f≤800000→∃ u,kF f at' o p q u:=by
 intro f;induction f with
 |zero=>
  intro p q o x y hp hq at' hat;have k1:p.kind=0∨p.kind=1:=by
   rcases hp.1.1 with ⟨rfl,_⟩ | ⟨_,_,rfl,_⟩
   ·exact .inl rfl
   ·exact .inr rfl
  exact P7 (Ml hp) (Ml hq) hp.1.2.2.1 (fun h=>by omega) (fun h=>by omega) rfl
 |succ f ih=>
  intro p q o x y hp hq at' hat;have D1:=Ml hp;have D2:=Ml hq;obtain⟨hp,dp,rp⟩:=hp;obtain⟨hq,dq,rq⟩:=hq;have wo:=hp.2.2.1;by_cases k2:p.kind=2∧q.kind=2
  ·obtain⟨hp1,hp2,hp3,hp4,hp5,hp6⟩:=hp;obtain⟨hq1,hq2,hq3,hq4,hq5,hq6⟩:=hq;rcases hp1 with h | ⟨ws,ks,rfl,h1,h2,h3,h4⟩ | ⟨os,rfl,h1,h2,hv,h3⟩
   ·rcases h with ⟨rfl,_⟩ | ⟨_,_,rfl,_⟩<;>exact absurd k2.1 (by simp)
   rotate_left
   ·exact absurd k2.1 (by simp)
   rcases hq1 with g | ⟨ws',ks',rfl,g1,g2,g3,g4⟩ | ⟨os',rfl,g1,g2,gv,g3⟩
   ·rcases g with ⟨rfl,_⟩ | ⟨_,_,rfl,_⟩<;>exact absurd k2.2 (by simp)
   rotate_left
   ·exact absurd k2.2 (by simp)
   have P:=wfE_iff.1 hp2;have Q:=wfE_iff.1 hq2;have lw:=P1 h3;have lw':=P1 g3;have lk:=R2 h4;have lk':=R2 g4;have s1:=hp5.1;have s2:=hp5.2.1;have s3:=hp6.1;have s4:=hp6.2.1;have s5:=hq6.1;have s6:=hq6.2.1;have RP:=(Hw rp (by simp)).1;have RQ:=(Hw rq (by simp)).1;have hk:∀ i:Nat,∃ u,kF f (at'++[(0,(i:Int))]) (o.kids.getD i T0) (CR ks i) (CR ks' i) u:=fun i=>by
    have a1:Ld f (CR ks i) (o.kids.getD i T0) (x.kids.getD i T0):=OB (fun x y h=>Hn (.inl ⟨rfl,h⟩)) h4 i (Nat.zero_le _);have a2:Ld f (CR ks' i) (o.kids.getD i T0) (y.kids.getD i T0):=OB (fun x y h=>Hn (.inl ⟨rfl,h⟩)) g4 i (Nat.zero_le _);have b1:∃ d,BG d (CR ks i)=true:=OM (P:=fun e=>∃ d,BG d e=true) ⟨64,Me (by omega)⟩ (fun x h=>⟨_,RP x h⟩) i;have b2:∃ d,BG d (CR ks' i)=true:=OM (P:=fun e=>∃ d,BG d e=true) ⟨64,Me (by omega)⟩ (fun x h=>⟨_,RQ x h⟩) i;exact ih _ _ _ _ _ ⟨⟨a1,OM IH (fun x h=>(P.ks x h).2) i,DE hp3 i,DE hp4 i,Jc hp5 i,Jc hp6 i⟩,b1⟩ ⟨⟨a2,OM IH (fun x h=>(Q.ks x h).2) i,DE hp3 i,DE hq4 i,Jc hp5 i,Jc hq6 i⟩,b2⟩ _ (by rw[List.length_append];simp;omega)
   obtain⟨u,u1,u2,u3⟩:=Vg (f:=f) (at':=at') (by omega) hp3 (p:=.mk 2 T0 T0 ws ks 0 []) (q:=.mk 2 T0 T0 ws' ks' 0 []) h3 g3 h4 g4 (by omega) (by omega) (by omega) ⟨by show ws.length≤_;omega,by show ks.length≤_;omega⟩ ⟨by show ws'.length≤_;omega,by show ks'.length≤_;omega⟩ hk;have em:mg (f+1) at' o (.mk 2 T0 T0 ws ks 0 []) (.mk 2 T0 T0 ws' ks' 0 [])=Uq (mg f) at' o (.mk 2 T0 T0 ws ks 0 []) (.mk 2 T0 T0 ws' ks' 0 []):=by rw[mg,if_pos ⟨rfl,rfl⟩]
   refine⟨u,u1,by rw[em];exact u2,fun hC=>?_⟩;rw[em] at hC ⊢;exact ZG D1 D2 rfl rfl (u3 hC)
  ·by_cases k3:p.kind=3∧q.kind=3
   ·obtain⟨hp1,hp2,hp3,hp4,hp5,hp6⟩:=hp;obtain⟨hq1,hq2,hq3,hq4,hq5,hq6⟩:=hq;rcases hp1 with h | ⟨ws,ks,rfl,h1,h2,h3,h4⟩ | ⟨os,rfl,h1,h2,hv,h3⟩
    ·rcases h with ⟨rfl,_⟩ | ⟨_,_,rfl,_⟩<;>exact absurd k3.1 (by simp)
    ·exact absurd k3.1 (by simp)
    rcases hq1 with g | ⟨ws',ks',rfl,g1,g2,g3,g4⟩ | ⟨os',rfl,g1,g2,gv,g3⟩
    ·rcases g with ⟨rfl,_⟩ | ⟨_,_,rfl,_⟩<;>exact absurd k3.2 (by simp)
    ·exact absurd k3.2 (by simp)
    have P:=wfE_iff.1 hp2;have Q:=wfE_iff.1 hq2;have O:=wfT_iff.1 hp3;have X:=wfT_iff.1 hp4;have Y:=wfT_iff.1 hq4;have s2:=hp5.2.1;have s4:=hp6.2.1;have s6:=hq6.2.1;have RP:=(Hw rp (by simp)).2;have RQ:=(Hw rq (by simp)).2;obtain⟨f1,f2,f3⟩:=K7 h3;obtain⟨e1,e2,e3⟩:=K7 g3;have hu:LdU (Pe f) (En os) o.kids x.kids:=TN (S6 h3 fun oo a b ho hk ha hb r=>⟨⟨r,(P.os oo ho).e,O.ks a ha,X.ks b hb,hp5.2.2 a ha,hp6.2.2 b hb⟩,_,(RP oo ho).2 hk⟩);have hv2:LdU (Pe f) (En os') o.kids y.kids:=TN (S6 g3 fun oo a b ho hk ha hb r=>⟨⟨r,(Q.os oo ho).e,O.ks a ha,Y.ks b hb,hp5.2.2 a ha,hq6.2.2 b hb⟩,_,(RQ oo ho).2 hk⟩);have c1:=Ye hu;have c2:=Ye hv2;by_cases hl:(Hj (mg f) at' o.kind o.kids (En os) (En os') 0).2.length≤100000000000
    ·obtain⟨l,l1,l2,l3,l4⟩:=RK (f:=f) (at':=at') (by omega) hp3 s2 (R:=Pe f) (fun k hk=>⟨Ub (O.ks k hk) (hp5.2.2 k hk),64,Me (by omega)⟩) (fun e k x h=>Ml h) (fun n k p q x y h1 h2=>ih _ _ _ _ _ h1 h2 _ (by rw[List.length_append];simp;omega)) (p:=.mk 3 T0 T0 [] [] o.kind os) (q:=.mk 3 T0 T0 [] [] o.kind os') hu hv2 (by omega) (by omega) (YN fun oo ho=>⟨(P.os oo ho).l,(P.os oo ho).e⟩) (YN fun oo ho=>⟨(Q.os oo ho).l,(Q.os oo ho).e⟩) (by show os.length≤_;omega) (by show os'.length≤_;omega) (fun oo ho=>(RP oo ho).1) (fun oo ho=>(RQ oo ho).1) (by show(En os).length≤_;omega) (by show(En os').length≤_;omega) hl;have em:mg (f+1) at' o (.mk 3 T0 T0 [] [] o.kind os) (.mk 3 T0 T0 [] [] o.kind os')=(Af (.mk o.kind [] (Hj (mg f) at' o.kind o.kids (En os) (En os') 0).1),(Hj (mg f) at' o.kind o.kids (En os) (En os') 0).2):=by rw[mg,if_neg (by simp),if_pos ⟨rfl,rfl⟩];rfl
     refine⟨.mk o.kind [] l,wfT_iff.2 ⟨O.k,by simp,by simp,by show l.length*56≤_;omega,l2⟩,?_,fun hC=>?_⟩
     ·rw[em];refine(Jb (by omega) (by omega)).2 ⟨rfl,?_⟩;have l1':l.map Af=(Hj (mg f) at' o.kind o.kids (En os) (En os') 0).1:=l1;rw[← l1',Sw]
     ·rw[em];exact WT D1 D2 rfl rfl l4
    ·obtain⟨u,u1,u2,_⟩:=eO (f+1) _ _ _ _ _ ⟨.inr (.inr ⟨os,rfl,h1,h2,hv,h3⟩),hp2,hp3,hp4,hp5,hp6⟩ ⟨.inr (.inr ⟨os',rfl,g1,g2,gv,g3⟩),hq2,hq3,hq4,hq5,hq6⟩ at' hat;refine⟨u,u1,u2,fun hC=>absurd ?_ hl⟩;have em:mg (f+1) at' o (.mk 3 T0 T0 [] [] o.kind os) (.mk 3 T0 T0 [] [] o.kind os')=(Af (.mk o.kind [] (Hj (mg f) at' o.kind o.kids (En os) (En os') 0).1),(Hj (mg f) at' o.kind o.kids (En os) (En os') 0).2):=by rw[mg,if_neg (by simp),if_pos ⟨rfl,rfl⟩];rfl
     rw[em] at hC;exact hC
   ·have hm:mg (f+1) at' o p q=Su at' o p q:=by rw[mg,if_neg k2,if_neg k3]
    exact P7 D1 D2 wo k2 k3 hm
theorem RO {f:Nat} {p q:E} {o x y:T} (hp:Pe f p o x) (hq:Pe f q o y) (hf:f≤800000) (hc:(mg f [] o p q).2.length≤100000000000):G.Spec Tryz.prog 15 [tX o,eX p,eX q] (.tup [tX (mg f [] o p q).1,G5 (mg f [] o p q).2,bv true]):=by
 obtain⟨u,u1,u2,u3⟩:=sF f p q o x y hp hq [] (by simpa using hf);have D1:=(Ml hp).2.2;have D2:=(Ml hq).2.2;have S:G.Spec Tryz.prog 37 [.sl true [],tX o,eX p,eX q] (.tup [tX u,G5 (mg f [] o p q).2]):=(u3 hc).soft (by
  show [A.sl false [],A.soft (tX o),.agg (A.softL (eL p)),.agg (A.softL (eL q))]=_;rw[Ll,JV,JV];rfl)
 have N:=Fj u u1;rw[u2] at N;generalize mg f [] o p q=M at *;refine Ag Hz (by simp) fun w0 I0=>?_;unfold Fm;simp;refine Ae D1 (by simp) ?_;simp[Aa];refine Ae D2 (by simp) ?_;simp[Aa];refine Ae S (by simp) ?_;simp[Aa];refine Ae N (by simp) ?_;simp[Aa];exact An ⟨Ad (by simp),Ah,Ad rfl,trivial⟩
theorem VS (t:T) (d:Nat) (n:Int) (h:0≤Au d n t):Au d n t≤n-1:=by
 obtain⟨k,w,l⟩:=t;rw[Js] at h ⊢;by_cases c:d=0∨n-1-w.length<0
 ·rw[if_pos c] at h;omega
 ·rw[if_neg c] at h ⊢;have:=F2 l (d-1) _ h;omega
theorem M7:∀ (l:List T) (d:Nat) (n:Int),0≤Ar d n l→Ar d n l≤n-l.length
 |[],d,n,h=>by rw[NR];simp
 |t::l,d,n,h=>by
  rw[C7] at h ⊢;by_cases c:n<0
  ·rw[if_pos c] at h;omega
  ·rw[if_neg c] at h ⊢;have h1:=M7 l d _ h;have h2:=VS t d n (F2 l d _ h).2.1;rw[List.length_cons];omega
theorem Ug (d:Nat) (kl:List KE) {m:Int} (hm:m<0):Cr d m kl=m:=by
 cases kl with
 |nil=>rw[JA]
 |cons z kl=>rw[Fy,if_pos hm]
theorem JL (d:Nat) (kl:List OP) {m:Int} (hm:m<0):Ds d m kl=m:=by
 cases kl with
 |nil=>rw[HU]
 |cons z kl=>rw[DB,if_pos hm]
theorem ZF:∀ (e:E) (d:Nat) (n:Int),0≤CT d n e→CT d n e≤n-E7 e:=by
 refine E.ind fun k o nn ws ks l os ihK ihO d n h=>?_;have kids:∀ (kl:List KE) (d:Nat) (n:Int),(∀ x,x ∈ kl→∀ (d:Nat) (n:Int),0≤CT d n x.e→CT d n x.e≤n-E7 x.e)→0≤Cr d n kl→Cr d n kl≤n-bZ kl:=fun kl=>by
  induction kl with
  |nil=>intro d n _ h;rw[JA];simp
  |cons y kl ih=>
   intro d n hI h;rw[Fy] at h ⊢;by_cases c:n<0
   ·rw[if_pos c] at h;omega
   ·rw[if_neg c] at h ⊢;by_cases c2:CT d n y.e<0
    ·rw[Ug d kl c2] at h;omega
    ·have h1:=hI y (by simp) d n (by omega);have h2:=ih d _ (fun x hx=>hI x (List.mem_cons_of_mem _ hx)) h;rw[Vf];omega
 have opsL:∀ (ol:List OP) (d:Nat) (n:Int),(∀ x,x ∈ ol→∀ (d:Nat) (n:Int),0≤CT d n x.e→CT d n x.e≤n-E7 x.e)→0≤Ds d n ol→Ds d n ol≤n-gm ol:=fun ol=>by
  induction ol with
  |nil=>intro d n _ h;rw[HU];simp
  |cons y ol ih=>
   intro d n hI h;rw[DB] at h ⊢;by_cases c:n<0
   ·rw[if_pos c] at h;omega
   ·rw[if_neg c] at h ⊢;by_cases c1:Ar 80 n y.l<0
    ·rw[if_pos c1,JL d ol c1] at h;omega
    ·rw[if_neg c1] at h ⊢;have s1:=M7 y.l 80 n (by omega);by_cases c2:CT d (Ar 80 n y.l) y.e<0
     ·rw[JL d ol c2] at h;omega
     ·have h1:=hI y (by simp) d (Ar 80 n y.l) (by omega);have h2:=ih d _ (fun x hx=>hI x (List.mem_cons_of_mem _ hx)) h;rw[Vy];split
      ·omega
      ·split<;>omega
 rw[NA] at h ⊢;by_cases c:d=0∨n-1-ws.length-os.length<0
 ·rw[if_pos c] at h;omega
 rw[if_neg c] at h ⊢;by_cases c2:Cr (d-1) (Jr n ws.length os.length o nn) ks<0
 ·rw[JL _ os c2] at h;omega
 have l2:Jr n ws.length os.length o nn≤n-1-ws.length-os.length:=by
  rw[KS];have r1:=(Bo o 80 (n-1-ws.length-os.length)).2 (by omega);by_cases q:Au 80 (n-1-ws.length-os.length) o<0
  ·rw[if_pos q];exact r1
  ·rw[if_neg q];have r2:=(Bo nn 80 (Au 80 (n-1-ws.length-os.length) o)).2 (by omega);omega
 have k1:=kids ks (d-1) _ (fun x hx=>ihK x hx) (by omega:0≤Cr (d-1) (Jr n ws.length os.length o nn) ks);have o1:=opsL os (d-1) _ (fun x hx=>ihO x hx) h;rw[Yw];omega
abbrev Yx (a b:Int):E:=.mk 2 T0 T0 [SM 0 a b] [] 0 []
theorem fy {a b:Int} (ha:AA a) (hb:AA b) (a0:a ≠ 0) (b0:b ≠ 0) (hne:a ≠ b) (hu:Dw a b ≠ 0):G.Spec Tryz.prog 24 [tX (AL a),tX (AL b),iv 9] (eX (Yx a b)):=by
 have wa:=Cb ha;have wb:=Cb hb;have Z:G.Spec Tryz.prog 44 [tX T0,tX T0,iv 9] (eX E0):=by
  have:=VL (a:=T0) (b:=T0) Dd Dd (X:=E0) (Y:=E0) (most:=9) (fun h=>absurd h (by decide)) (fun _ h=>absurd h (by decide));rw[if_pos (eqT_iff.2 rfl)] at this;exact this
 have S:=Q4 (one:=fun _ _=>E0) (a:=AL a) (b:=AL b) (most:=9) wa wb (by simp[AL]) (by simp[AL]) (by simp[AL]) (by simp[AL]) (fun i=>by
  have e1:(AL a).kids.getD i T0=T0:=rfl;have e2:(AL b).kids.getD i T0=T0:=rfl;rw[e1,e2];exact Z)
 have hs:n6 (fun _ _=>E0) (AL a) (AL b)=Yx a b:=by
  unfold n6;simp[KC,FU,AL,hu,List.range_succ]
 rw[hs] at S;have he:G9 (AL a) (AL b)=false:=by
  rw[Bool.eq_false_iff];intro h;rw[eqT_iff,EI a0,EI b0] at h;exact hne (by simpa[AL] using h)
 have O:=VL (a:=AL a) (b:=AL b) wa wb (X:=Yx a b) (Y:=E0) (most:=9) (fun _ _=>S) (fun _ h=>absurd h (by show ¬ (2:Int)≤1;decide));rw[he,if_neg (by decide),if_pos ⟨rfl,rfl⟩] at O;have N:=Xt (Yx a b) (by rw[Yx,gM];simp[WX,dc]);have hn:Un (Yx a b)=Yx a b:=by rw[Yx,Xa];simp
 rw[hn] at N;have n1:=CB (AL a) wa;have n2:=CB (AL b) wb;rw[EI a0] at n1;rw[EI b0] at n2;generalize Yx a b=e at *;refine Ag TB (by simp) fun w0 I0=>?_;unfold MW;simp;refine Ae n1 (by simp) ?_;simp;refine Ae n2 (by simp) ?_;simp;refine Ae O (by simp) ?_;simp;refine Ae N (by simp) ?_;simp;exact Ad (by simp)
theorem j3 {a b:Int} (ha:AA a) (hb:AA b) (hu:Dw a b ≠ 0):Wi 1 (Yx a b) (AL a) (AL b):=by
 have L:=YK (a:=AL a) (b:=AL b) (wfT_iff.1 (Cb ha)).w (wfT_iff.1 (Cb hb)).w 1 0 rfl;have hl:((List.range' 0 1).filterMap fun i=>if Dw ((AL a).words.getD i 0) ((AL b).words.getD i 0)=0 then none else some (SM i ((AL a).words.getD i 0) ((AL b).words.getD i 0)))=[SM 0 a b]:=by
  simp[List.range',AL,hu]
 rw[hl] at L;have hin:=TV a b;have sq:∀ w:Int,Sq 1 (AL w):=fun w=>⟨by simp[AL],by simp[AL],fun k hk=>by simp[AL] at hk⟩;refine⟨.inr (.inl ⟨_,_,rfl,rfl,rfl,L,.nil 0 fun i _=>rfl⟩),wfE_iff.2 ?_,Cb ha,Cb hb,sq a,sq b⟩;exact⟨by simp[Db],by simp[Db],Dd,Dd,fun x hx=>by
  rw[List.mem_singleton.1 hx];exact⟨by simp[Db,SM],⟨hin.1,by have:=hin.2;show Dw a b<256;omega⟩,BX _ _ _,BX _ _ _⟩,by simp,by simp,by simp,fun x hx=>by simp at hx,fun x hx=>by simp at hx⟩
theorem uV:mg 1 [] (AL 1) (Yx 1 2) (Yx 1 3)=(AL 1,[⟨[(1,0)],AL 1,AL 2,AL 3⟩]):=by
 have c1:Ln (SM 0 1 2) (SM 0 1 3)=true:=by decide
 have m2:AM 1 (SM 0 1 2).new (SM 0 1 2).mask=2:=by decide
 have m3:AM 1 (SM 0 1 3).new (SM 0 1 3).mask=3:=by decide
 rw[mg,if_pos ⟨rfl,rfl⟩];have t1:Bu (Bu (AL 1).words.length [SM 0 1 2]) [SM 0 1 3]=1:=by decide
 have w2:B8 [SM 0 1 2] 0=SM 0 1 2:=Ii rfl;have w3:B8 [SM 0 1 3] 0=SM 0 1 3:=Ii rfl;unfold Uq;simp only[E.words_mk,E.kids_mk,t1];have r1:List.range 1=[0]:=rfl;have k0:Bf (Bf (AL 1).kids.length []) []=0:=rfl;have r0:List.range 0=[]:=rfl;have o1:(AL 1).words.getD 0 0=1:=rfl;rw[k0,r0,r1];simp only[List.map_cons,List.map_nil,List.flatMap_cons,List.flatMap_nil,List.append_nil,w2,w3,o1,Gb,IX,c1,if_true,m2,m3,List.nil_append];rw[EI (by decide),EI (by decide),EI (by decide)];rfl
theorem EY:G.Spec Tryz.prog 13 [] (bv true):=by
 have u:∀ w:Int,0≤w→w<100→AA w:=fun w h1 h2=>⟨by omega,by omega⟩;have D1:=fy (a:=1) (b:=2) (u 1 (by decide) (by decide)) (u 2 (by decide) (by decide)) (by decide) (by decide) (by decide) (by decide);have D2:=fy (a:=1) (b:=3) (u 1 (by decide) (by decide)) (u 3 (by decide) (by decide)) (by decide) (by decide) (by decide) (by decide);have N:=CB (AL 1) (Cb (u 1 (by decide) (by decide)));rw[EI (by decide)] at N;have M:=OK (j3 (a:=1) (b:=2) (u 1 (by decide) (by decide)) (u 2 (by decide) (by decide)) (by decide)) (j3 (a:=1) (b:=3) (u 1 (by decide) (by decide)) (u 3 (by decide) (by decide)) (by decide)) (by decide) (by rw[uV];decide);rw[uV] at M;have T:G.Spec Tryz.prog 19 [tX (AL 1),tX (AL 2),tX (AL 3),iv 9] (.tup [tX (AL 1),G5 [⟨[(1,0)],AL 1,AL 2,AL 3⟩]]):=by
  generalize Yx 1 2=p at *;generalize Yx 1 3=q at *;generalize ([⟨[(1,0)],AL 1,AL 2,AL 3⟩]:List Cf)=cs at *;generalize AL 1=o at *;refine Ag RU (by simp) fun w0 I0=>?_;unfold LD;simp;refine Ae N (by simp) ?_;simp;refine Ae D1 (by simp) ?_;simp;refine Ae D2 (by simp) ?_;simp;refine Ae M (by simp) ?_;simp[Aa];exact An ⟨Ad (by simp),Ah,trivial⟩
 have O1:=L7 1;have O2:=L7 2;have O3:=L7 3;have S:=fun w (h0:(0:Int)≤w) (h1:w<100)=>Fv (AL w) (Cb ⟨by omega,by omega⟩) (AL w);have S1:=S 1 (by decide) (by decide);have S2:=S 2 (by decide) (by decide);have S3:=S 3 (by decide) (by decide);rw[show HR (AL 1) (AL 1)=true from sameB_iff.2 rfl] at S1;rw[show HR (AL 2) (AL 2)=true from sameB_iff.2 rfl] at S2;rw[show HR (AL 3) (AL 3)=true from sameB_iff.2 rfl] at S3;refine Ag Ma (by simp) fun w0 I0=>?_;unfold HQ;simp;refine Ae O1 (by simp) ?_;simp;refine Ae O2 (by simp) ?_;simp;refine Ae O3 (by simp) ?_;simp;refine Ae T (by simp) ?_;simp[Aa];refine Ae O1 (by simp) ?_;simp;refine Ae S1 (by simp) ?_;simp;refine AP rfl (fun _=>O2) (fun _=>by simp) (by simp) ?_;simp;refine AP rfl (fun _=>S2) (fun _=>by simp) (by simp) ?_;simp;refine AP rfl (fun _=>O3) (fun _=>by simp) (by simp) ?_;simp;refine AP rfl (fun _=>S3) (fun _=>by simp) (by simp) ?_;simp;refine AP rfl (fun _=>O1) (fun _=>by simp) (by simp) ?_;simp;refine AP rfl (fun _=>S1) (fun _=>by simp) (by simp) ?_;simp;exact Ad rfl
end Go.Proofs.YtlaapfplenlfaaaGreat
namespace Go.Proofs.YtlaapfplenlfaaaGreat
set_option maxRecDepth 20000
open Go Go.G Go.Proofs
@[simp] theorem dr:Ak Tryz.prog 65 0=some 0:=by kernel_rfl
@[simp] theorem dL:Ak Tryz.prog 65 1=some 1:=by kernel_rfl
def Fz:CC:=sR [bX 3 25 0 [0],bX 4 30 1 [1],bX 5 30 2 [2],aB 6 false] [3,4,5] (sQ [lO 13 25 3,cA 14 10 13 25,oO 15 (.unOp .not 4 (xT 14)),mO 16 15,lG 17 25 3 16 false,oG 18 (cL 11 #[(xT 17),(nI 64)] #[25,3]) 16 false,oG 19 (.unOp .not 4 (xT 18)) 16 false,pT 20 16 19,mO 21 20,fG 22 25 3 0 21 false,lG 23 3 22 21 false,oG 24 (.binOp .eql 3 (xT 23) (nI 10) 3) 21 false,pT 25 21 24,mO 26 25,lG 27 30 4 26 false,oG 28 (cL 12 #[(xT 27)] #[30]) 26 false,oG 29 (.unOp .not 4 (xT 28)) 26 false,pT 30 26 29,mO 31 30,lG 32 30 5 31 false,oG 33 (cL 12 #[(xT 32)] #[30]) 31 false,oG 34 (.unOp .not 4 (xT 33)) 31 false,pT 35 31 34] [3,4,5,35] (cD 35 (sR [oO 36 (cL 13 #[] #[]),aO 6 36] [6] (.ret)) (.skip)) [3,4,5] (sR [lO 38 25 3,lO 39 30 4,lO 40 30 5,cE 41 14 38 39 40 25 30 30,mO 37 41,xO 42 37 0,xO 43 37 1,xO 44 37 2,aL 7 25 [3],sT 25 7 42,aO 8 43,aO 9 44] [3,4,5,7,8,9] (sR [lO 46 25 3,lO 47 30 4,lO 48 30 5,cE 49 15 46 47 48 25 30 30,mO 45 49,xO 50 45 0,xO 51 45 1,xO 52 45 2,aL 10 25 [4],sT 25 10 50,aO 11 51,aO 12 52] [7,8,9,10,11,12] (sR [mO 53 9,mO 54 12,bB .eql 55 4 53 54 4,mO 56 55,lG 57 25 7 56 true,lG 58 25 10 56 true,oG 59 (cL 16 #[(xT 57),(xT 58)] #[25,25]) 56 true,pF 60 56 59,mO 61 60,mG 62 8 61 true,mG 63 11 61 true,oG 64 (cL 17 #[(xT 62),(xT 63),(nB false)] #[35,35,4]) 61 true,pF 65 61 64,mO 66 65,oG 67 (cL 13 #[] #[]) 66 true,pF 68 66 67,aO 6 68] [6] (.ret)))))
theorem Jk:Ca Tryz.prog 3 69 [(.tmp 6)] Fz:=AJ Tryz.func3
end Go.Proofs.YtlaapfplenlfaaaGreat
namespace Go.Proofs.YtlaapfplenlfaaaGreat
open Go Go.G Go.Proofs Go.PL
theorem YL {e:E} (we:J2 e) (g:Pm e=true):EH 64 e∧(E7 e:Int)≤3000:=by
 unfold Pm mW at g;simp only[Bool.and_eq_true] at g;obtain⟨⟨g1,g2⟩,g3⟩:=g;have g1:=of_decide_eq_true g1;have h1:=(fD e 80 3000 (by omega) g1).2.2;have h2:=ZF e 80 3000 g1;exact⟨⟨we,h1 64,Ul 64 e g3,64,Ei _,g2⟩,by omega⟩
theorem Xd {e:E} {t:T} (we:J2 e) {d:Nat} (hr:BG d e=true) (wt:AD t) (h:GY e t=none):G.Spec Tryz.prog 36 [eX e,tX t] (.tup [tX T0,bv false]):=by
 have:=(Mf e we d hr t wt).1;rw[h] at this;exact this
theorem Sv {o a b:T} {p q:E} {c d:Bool} (A1:G.Spec Tryz.prog 25 [eX p,tX o] (.tup [tX a,bv c])) (A2:G.Spec Tryz.prog 25 [eX q,tX o] (.tup [tX b,bv d])) (h:(c&&d)=false):G.Spec Tryz.prog 14 [tX o,eX p,eX q] (.tup [tX T0,G5 [],bv false]):=by
 refine Ag LK (by simp) fun w0 I0=>?_;unfold IQ;simp;refine Ae A1 (by simp) ?_;simp[Aa];refine Ae A2 (by simp) ?_;cases c with
 |false=>
  simp[Aa];exact An ⟨AE ⟨Ad rfl,Ah,Ah,trivial⟩,Ah,Ad rfl,trivial⟩
 |true=>
  cases d with
  |true=>cases h
  |false=>
   simp[Aa];exact An ⟨AE ⟨Ad rfl,Ah,Ah,trivial⟩,Ah,Ad rfl,trivial⟩
theorem Sb {o a b:T} {p q:E} {c d:Bool} (A1:G.Spec Tryz.prog 36 [eX p,tX o] (.tup [tX a,bv c])) (A2:G.Spec Tryz.prog 36 [eX q,tX o] (.tup [tX b,bv d])) (h:(c&&d)=false):G.Spec Tryz.prog 15 [tX o,eX p,eX q] (.tup [tX T0,G5 [],bv false]):=by
 refine Ag Hz (by simp) fun w0 I0=>?_;unfold Fm;simp;refine Ae A1 (by simp) ?_;simp[Aa];refine Ae A2 (by simp) ?_;cases c with
 |false=>
  simp[Aa];exact An ⟨AE ⟨Ad rfl,Ah,Ah,trivial⟩,Ah,Ad rfl,trivial⟩
 |true=>
  cases d with
  |true=>cases h
  |false=>
   simp[Aa];exact An ⟨AE ⟨Ad rfl,Ah,Ah,trivial⟩,Ah,Ad rfl,trivial⟩
theorem WV {o:T} {p q:E} (wo:AD o) (wp:J2 p) (wq:J2 q) (fo:lH o=true) (ro:BV 64 o=true) (gp:Pm p=true) (gq:Pm q=true) :
  ∃ (t:T) (cs:List Cf) (b:Bool),AD t∧(∀ c,c ∈ cs→du c)∧(∀ c,c ∈ cs→c.path.length≤10000000000000)∧cs.length≤10000000000000∧G.Spec Tryz.prog 14 [tX o,eX p,eX q] (.tup [tX t,G5 cs,bv b])∧G.Spec Tryz.prog 15 [tX o,eX p,eX q] (.tup [tX t,G5 cs,bv b]):=by
 obtain⟨hp,cp⟩:=YL wp gp;obtain⟨hq,cq⟩:=YL wq gq;obtain⟨dp,_,rp⟩:=hp.2.2.2;obtain⟨dq,_,rq⟩:=hq.2.2.2;have fo2:0≤Au 80 3000 o:=of_decide_eq_true (show decide (0≤Au 80 3000 o)=true from fo);have po:DG o≤3000:=by have:=GD o 80 3000 fo2;omega
 have ho:PT 64 o:=P9 wo ro (by omega);have no:∀ {e:E},J2 e→EH 64 e→∀ {d:Nat},BG d e=true→∃ a b,G.Spec Tryz.prog 25 [eX e,tX o] (.tup [tX a,bv (GY e o).isSome])∧G.Spec Tryz.prog 36 [eX e,tX o] (.tup [tX b,bv (GY e o).isSome]):=fun {e} we he d hr=>by
  cases hv:GY e o with
  |none=>exact⟨T0,T0,Zn he ho hv,Xd we hr wo hv⟩
  |some v=>
   obtain⟨y,y1,y2,y3⟩:=Qx 64 e o v he ho hv;obtain⟨u,u1,u2⟩:=YP 64 e o y we wo y3.1 (MM 64 o ho.2.2) (MM 64 y y3.2.2) y1;have:=(Mf e we d hr o wo).1;rw[hv] at this;exact⟨_,v,II u1,this⟩
 cases hvp:GY p o with
 |none=>
  obtain⟨a,b,s1,s2⟩:=no wp hp rp;obtain⟨a',b',s3,s4⟩:=no wq hq rq;have h:((GY p o).isSome&&(GY q o).isSome)=false:=by rw[hvp];rfl
  exact⟨T0,[],false,Dd,fun c hc=>by simp at hc,fun c hc=>by simp at hc,by simp,Sv s1 s3 h,Sb s2 s4 h⟩
 |some x=>
  cases hvq:GY q o with
  |none=>
   obtain⟨a,b,s1,s2⟩:=no wp hp rp;obtain⟨a',b',s3,s4⟩:=no wq hq rq;have h:((GY p o).isSome&&(GY q o).isSome)=false:=by rw[hvq];simp
   exact⟨T0,[],false,Dd,fun c hc=>by simp at hc,fun c hc=>by simp at hc,by simp,Sv s1 s3 h,Sb s2 s4 h⟩
  |some y=>
   obtain⟨x',x1,x2,x3⟩:=Qx 64 p o x hp ho hvp;obtain⟨y',y1,y2,y3⟩:=Qx 64 q o y hq ho hvq;have l1:Wi 64 p o x':=⟨x1,wp,wo,x3.1,ho.2.2,x3.2.2⟩;have l2:Wi 64 q o y':=⟨y1,wq,wo,y3.1,ho.2.2,y3.2.2⟩;have hc:=sc 64 [] o p q;have M:=OK l1 l2 (by omega) (by omega);have N:=RO ⟨l1,dp,rp⟩ ⟨l2,dq,rq⟩ (by omega) (by omega);obtain⟨u,u1,u2,_⟩:=eO 64 _ _ _ _ _ l1 l2 [] (by simp);refine⟨_,_,true,by rw[← u2];exact B9 u u1,AaC 64 [] _ _ _ _ _ l1 l2,fun c hc=>?_,by omega,M,N⟩;have:=iV 64 [] _ _ _ c hc;simp at this;omega
theorem Pv {o:T} {p q:E} (wo:AD o) (wp:J2 p) (wq:J2 q):G.Spec Tryz.prog 3 [tX o,eX p,eX q] (bv true):=by
 have F:=b5 wo;have R:=Iy o wo 64 (by omega);have G1:=Sk wp;have G2:=Sk wq;refine Ag Jk (by simp) fun w0 I0=>?_;unfold Fz;cases hf:lH o with
 |false=>
  rw[hf] at F;simp;refine Ae F (by simp) ?_;simp;refine Ao (q:=true) rfl (fun h=>by cases h) (fun h=>by cases h) (L:=[]) (x:=.any) rfl ?_;simp;refine Ao (q:=true) rfl (fun h=>by cases h) (fun h=>by cases h) (L:=[]) (x:=.any) rfl ?_;simp;refine Ao (q:=true) rfl (fun h=>by cases h) (fun h=>by cases h) (L:=[]) (x:=.any) rfl ?_;simp;refine Ae EY (by simp) ?_;simp;exact Ad rfl
 |true=>
 rw[hf] at F;cases hr:BV 64 o with
 |false=>
  rw[hr] at R;simp;refine Ae F (by simp) ?_;simp;refine Ao rfl (fun _=>R) (fun _=>by simp) (by simp) ?_;simp;refine Ao (q:=true) rfl (fun h=>by cases h) (fun h=>by cases h) (L:=[]) (x:=.any) rfl ?_;simp;refine Ao (q:=true) rfl (fun h=>by cases h) (fun h=>by cases h) (L:=[]) (x:=.any) rfl ?_;simp;refine Ae EY (by simp) ?_;simp;exact Ad rfl
 |true=>
 rw[hr] at R;by_cases hk:o.kind=10
 ·simp;refine Ae F (by simp) ?_;simp;refine Ao rfl (fun _=>R) (fun _=>by simp) (by simp) ?_;simp[hk];refine Ao (q:=true) rfl (fun h=>by cases h) (fun h=>by cases h) (L:=[]) (x:=.any) rfl ?_;simp;refine Ao (q:=true) rfl (fun h=>by cases h) (fun h=>by cases h) (L:=[]) (x:=.any) rfl ?_;simp;refine Ae EY (by simp) ?_;simp;exact Ad rfl
 cases hp:Pm p with
 |false=>
  rw[hp] at G1;simp;refine Ae F (by simp) ?_;simp;refine Ao rfl (fun _=>R) (fun _=>by simp) (by simp) ?_;simp[hk];refine Ao rfl (fun _=>G1) (fun _=>by simp) (by simp) ?_;simp;refine Ao (q:=true) rfl (fun h=>by cases h) (fun h=>by cases h) (L:=[]) (x:=.any) rfl ?_;simp;refine Ae EY (by simp) ?_;simp;exact Ad rfl
 |true=>
 rw[hp] at G1;cases hq:Pm q with
 |false=>
  rw[hq] at G2;simp;refine Ae F (by simp) ?_;simp;refine Ao rfl (fun _=>R) (fun _=>by simp) (by simp) ?_;simp[hk];refine Ao rfl (fun _=>G1) (fun _=>by simp) (by simp) ?_;simp;refine Ao rfl (fun _=>G2) (fun _=>by simp) (by simp) ?_;simp;refine Ae EY (by simp) ?_;simp;exact Ad rfl
 |true=>
  rw[hq] at G2;obtain⟨t,cs,b,w1,w2,w3,w4,M,N⟩:=WV wo wp wq hf hr hp hq;have S1:=Fv _ w1 t;rw[show HR t t=true from sameB_iff.2 rfl] at S1;have SC:=V3 (t:=false) (l:=cs) (m:=cs) (List.map_id'' (fun c=>by simp[Zc]) _).symm w4 w2 w3;simp;refine Ae F (by simp) ?_;simp;refine Ao rfl (fun _=>R) (fun _=>by simp) (by simp) ?_;simp[hk];refine Ao rfl (fun _=>G1) (fun _=>by simp) (by simp) ?_;simp;refine Ao rfl (fun _=>G2) (fun _=>by simp) (by simp) ?_;simp;refine Ae M (by simp) ?_;simp[Aa];refine Ae N (by simp) ?_;simp[Aa];refine AP rfl (fun _=>S1) (fun _=>by simp) (by simp) ?_;simp;refine AP rfl (fun _=>SC) (fun _=>by simp) (by simp) ?_;simp;refine AP rfl (fun _=>EY) (fun _=>by simp) (by simp) ?_;simp;exact Ad rfl
end Go.Proofs.YtlaapfplenlfaaaGreat
namespace Go.Proofs.YtlaapfplenlfaaaGreat
open Go Go.G Go.Proofs Go.PL Go.RowKit
theorem gR {m:Int} (h:(Lit.int .i64 m).wf=true):Db m:=by
 simp[Lit.wf,IntKind.min,IntKind.max,IntKind.bits,IntKind.signed] at h;unfold Db;omega
theorem iK {m:Int} (h:(Lit.int .u64 m).wf=true):AA m:=by
 simp[Lit.wf,IntKind.min,IntKind.max,IntKind.bits,IntKind.signed] at h;unfold AA;omega
theorem oJ {m:Int} (h:(Lit.int .u8 m).wf=true):0≤m∧m<256:=by
 simp[Lit.wf,IntKind.min,IntKind.max,IntKind.bits,IntKind.signed] at h;omega
theorem cz:Tryz.prog.underlying 3=some (.int .i64):=by kernel_rfl
theorem UJ:Tryz.prog.underlying 61=some (.int .u64):=by kernel_rfl
theorem Wy {n:Nat} {b:List A} (h:Has Tryz.prog n 3 b):∃ m,Db m∧b=[iv m]:=by
 cases n with
 |zero=>exact h.elim
 |succ n=>
  unfold Has at h;rw[cz] at h;obtain⟨m,hm,rfl⟩:=h;exact⟨m,gR hm,rfl⟩
theorem og {n:Nat} {b:List A} (h:Has Tryz.prog n 61 b):∃ m,AA m∧b=[uv m]:=by
 cases n with
 |zero=>exact h.elim
 |succ n=>
  unfold Has at h;rw[UJ] at h;obtain⟨m,hm,rfl⟩:=h;exact⟨m,iK hm,rfl⟩
theorem uD {α:Type} {xs:List A} {g:α→A} {R:α→Prop} (h:∀ x,x ∈ xs→∃ y,R y∧x.soft=g y):∃ l:List α,A.softL xs=l.map g∧l.length=xs.length∧∀ y,y ∈ l→R y:=by
 induction xs with
 |nil=>exact⟨[],rfl,rfl,fun y h=>nomatch h⟩
 |cons x xs ih=>
  obtain⟨y,hy,e⟩:=h x (by simp);obtain⟨l,e2,e3,hl⟩:=ih fun z hz=>h z (by simp[hz]);refine⟨y::l,by simp[A.softL,e,e2],by simp[e3],fun z hz=>?_⟩;rcases List.mem_cons.1 hz with rfl | hz
  ·exact hy
  ·exact hl z hz
theorem Tg {P:Program} {t e:TypeId} {m:Nat} (u:P.underlying t=some (.slice e)) (hb:P.bytesOf e=m) {n:Nat} {b:List A} (h:Has P n t b) {α:Type} {g:α→A} {R:α→Prop} (hx:∀ k b,k<n→Has P k e b→∃ y,R y∧(mk P e b).soft=g y) :
  ∃ (f:Bool) (xs:List A) (l:List α),b=[.sl f xs]∧A.softL xs=l.map g∧l.length*m≤140737488355328∧∀ y,y ∈ l→R y:=by
 cases n with
 |zero=>exact h.elim
 |succ n=>
  unfold Has at h;rw[u] at h;obtain⟨f,xs,rfl,_,hz,hf,hx'⟩:=h;rw[hb] at hz;obtain⟨l,e1,e2,hl⟩:=uD (g:=g) (R:=R) (xs:=xs) fun x hxx=>by
   obtain⟨b,hb',rfl⟩:=hx' x hxx;exact hx n b (by omega) hb'
  exact⟨f,xs,l,rfl,e1,by rw[e2];exact Nat.le_trans hz (by decide),hl⟩
theorem nY (b:List A):mk Tryz.prog 61 b=b.headD .any:=by unfold mk;rw[UJ]
theorem sY {n:Nat} {b:List A} (h:Has Tryz.prog n 22 b):∃ (f:Bool) (xs:List A) (l:List Int),b=[.sl f xs]∧A.softL xs=l.map uv∧l.length*8≤140737488355328∧∀ y,y ∈ l→AA y:=
 Tg (e:=61) (by kernel_rfl) (by kernel_rfl) h fun k b _ hb=>by
  obtain⟨m,h1,rfl⟩:=og hb;exact⟨m,h1,by rw[nY];rfl⟩
theorem VB:Tryz.prog.underlying 25=some (.struct (Tryz.prog.fieldsOf 25)):=by kernel_rfl
theorem dN:(Tryz.prog.fieldsOf 25).toList.map Field.type=[3,22,23]:=by kernel_rfl
theorem Ui (b:List A):mk Tryz.prog 25 b = .agg b:=by unfold mk;rw[VB]
theorem PN:∀ (n:Nat) (b:List A),Has Tryz.prog n 25 b→∃ t,AD t∧A.softL b=[iv t.kind,CQ t.words,Bx t.kids]:=by
 intro n;induction n using Nat.strongRecOn with
 |ind n ih=>
  intro b h;cases n with
  |zero=>exact h.elim
  |succ n=>
   unfold Has at h;rw[VB] at h;simp only at h;rw[Gi,dN] at h;obtain⟨_,_,rfl,h1,_,_,rfl,h2,_,_,rfl,h3,rfl⟩:=h;obtain⟨k,hk,rfl⟩:=Wy h1;obtain⟨f,xs,w,rfl,e2,l2,r2⟩:=sY h2;obtain⟨f3,ys,l,rfl,e3,l3,r3⟩:=Tg (m:=56) (e:=25) (g:=tA) (R:=AD) (by kernel_rfl) (by kernel_rfl) h3 fun j b hj hb=>by
    obtain⟨t,ht,e⟩:=ih j (by omega) b hb;exact⟨t,ht,by rw[Ui];simp only[A.soft,e];rw[tA_eq]⟩
   refine⟨.mk k w l,wfT_iff.2 ⟨hk,r2,l2,l3,r3⟩,?_⟩;simp only[List.cons_append,List.nil_append,List.append_nil,A.softL,A.soft,e2,e3];rfl
theorem dw {n:Nat} {b:List A} (h:Has Tryz.prog n 23 b):∃ (f:Bool) (xs:List A) (l:List T),b=[.sl f xs]∧A.softL xs=l.map tA∧l.length*56≤140737488355328∧∀ y,y ∈ l→AD y:=
 Tg (e:=25) (by kernel_rfl) (by kernel_rfl) h fun k b _ hb=>by
  obtain⟨t,h1,e⟩:=PN k b hb;exact⟨t,h1,by rw[Ui];simp only[A.soft,e];rw[tA_eq]⟩
theorem SX:∀ (a b:List A),A.softL (a++b)=A.softL a++A.softL b
 |[],b=>by simp[A.softL]
 |x::a,b=>by simp[A.softL,SX a b]
theorem cj:Tryz.prog.underlying 85=some (.struct (Tryz.prog.fieldsOf 85)):=by kernel_rfl
theorem mU:(Tryz.prog.fieldsOf 85).toList.map Field.type=[3,5,61,61]:=by kernel_rfl
theorem vJ (b:List A):mk Tryz.prog 85 b = .agg b:=by unfold mk;rw[cj]
theorem wQ {n:Nat} {b:List A} (h:Has Tryz.prog n 5 b):∃ m,(0≤m∧m<256)∧b=[u8 m]:=by
 cases n with
 |zero=>exact h.elim
 |succ n=>
  have u:Tryz.prog.underlying 5=some (.int .u8):=by kernel_rfl
  unfold Has at h;rw[u] at h;obtain⟨m,hm,rfl⟩:=h;exact⟨m,oJ hm,rfl⟩
theorem tP {n:Nat} {b:List A} (h:Has Tryz.prog n 85 b):∃ w:WE,WE.wf w∧(mk Tryz.prog 85 b).soft=wA w:=by
 cases n with
 |zero=>exact h.elim
 |succ n=>
  unfold Has at h;rw[cj] at h;simp only at h;rw[Gi,mU] at h;obtain⟨_,_,rfl,h1,_,_,rfl,h2,_,_,rfl,h3,_,_,rfl,h4,rfl⟩:=h;obtain⟨a,ha,rfl⟩:=Wy h1;obtain⟨m,hm,rfl⟩:=wQ h2;obtain⟨o,ho,rfl⟩:=og h3;obtain⟨w,hw,rfl⟩:=og h4;exact⟨⟨a,m,o,w⟩,⟨ha,hm,ho,hw⟩,by rw[vJ];rfl⟩
theorem kj:Tryz.prog.underlying 30=some (.struct (Tryz.prog.fieldsOf 30)):=by kernel_rfl
theorem sP:(Tryz.prog.fieldsOf 30).toList.map Field.type=[3,25,25,26,27,3,28]:=by kernel_rfl
theorem su (b:List A):mk Tryz.prog 30 b = .agg b:=by unfold mk;rw[kj]
theorem dF:Tryz.prog.underlying 88=some (.struct (Tryz.prog.fieldsOf 88)):=by kernel_rfl
theorem o9:(Tryz.prog.fieldsOf 88).toList.map Field.type=[3,30]:=by kernel_rfl
theorem tM (b:List A):mk Tryz.prog 88 b = .agg b:=by unfold mk;rw[dF]
theorem bG:Tryz.prog.underlying 91=some (.struct (Tryz.prog.fieldsOf 91)):=by kernel_rfl
theorem oK:(Tryz.prog.fieldsOf 91).toList.map Field.type=[3,3,23,30]:=by kernel_rfl
theorem vU (b:List A):mk Tryz.prog 91 b = .agg b:=by unfold mk;rw[bG]
theorem YE:∀ (n:Nat) (b:List A),Has Tryz.prog n 30 b→∃ e,J2 e∧A.softL b=eL e:=by
 intro n;induction n using Nat.strongRecOn with
 |ind n ih=>
  intro b h;cases n with
  |zero=>exact h.elim
  |succ n=>
   unfold Has at h;rw[kj] at h;simp only at h;rw[Gi,sP] at h;obtain⟨_,_,rfl,h1,_,_,rfl,h2,_,_,rfl,h3,_,_,rfl,h4,_,_,rfl,h5,_,_,rfl,h6,_,_,rfl,h7,rfl⟩:=h;obtain⟨k,hk,rfl⟩:=Wy h1;obtain⟨o,ho,e2⟩:=PN _ _ h2;obtain⟨nn,hn,e3⟩:=PN _ _ h3;obtain⟨f4,x4,ws,rfl,e4,l4,r4⟩:=Tg (m:=32) (e:=85) (g:=wA) (R:=WE.wf) (by kernel_rfl) (by kernel_rfl) h4 fun j b hj hb=>tP hb;obtain⟨f5,x5,ks,rfl,e5,l5,r5⟩:=Tg (m:=208) (e:=88) (g:=kA) (R:=fun x=>Db x.at_∧J2 x.e) (by kernel_rfl) (by kernel_rfl) h5 fun j b hj hb=>by
    cases j with
    |zero=>exact hb.elim
    |succ j=>
     unfold Has at hb;rw[dF] at hb;simp only at hb;rw[Gi,o9] at hb;obtain⟨_,_,rfl,g1,_,_,rfl,g2,rfl⟩:=hb;obtain⟨a,ha,rfl⟩:=Wy g1;obtain⟨e,he,ee⟩:=ih j (by omega) _ g2;refine⟨.mk a e,⟨ha,he⟩,?_⟩;rw[tM,kA_eq];simp only[A.soft,List.cons_append,List.nil_append,List.append_nil,A.softL,ee];rfl
   obtain⟨l,hl,rfl⟩:=Wy h6;obtain⟨f7,x7,os,rfl,e7,l7,r7⟩:=Tg (m:=240) (e:=91) (g:=oA) (R:=pO) (by kernel_rfl) (by kernel_rfl) h7 fun j b hj hb=>by
    cases j with
    |zero=>exact hb.elim
    |succ j=>
     unfold Has at hb;rw[bG] at hb;simp only at hb;rw[Gi,oK] at hb;obtain⟨_,_,rfl,g1,_,_,rfl,g2,_,_,rfl,g3,_,_,rfl,g4,rfl⟩:=hb;obtain⟨k,hk,rfl⟩:=Wy g1;obtain⟨m,hm,rfl⟩:=Wy g2;obtain⟨f,xs,tl,rfl,et,lt,rt⟩:=dw g3;obtain⟨e,he,ee⟩:=ih j (by omega) _ g4;refine⟨.mk k m tl e,⟨hk,hm,rt,lt,he⟩,?_⟩;rw[vU,oA_eq];simp only[A.soft,List.cons_append,List.nil_append,List.append_nil,A.softL,ee,et];rfl
   refine⟨.mk k o nn ws ks l os,wfE_iff.2 ⟨hk,hl,ho,hn,r4,l4,l5,l7,r5,r7⟩,?_⟩;simp only[List.cons_append,List.nil_append,List.append_nil,A.softL,A.soft,SX,e2,e3,e4,e5,e7];rfl
end Go.Proofs.YtlaapfplenlfaaaGreat
namespace Go.Proofs.YtlaapfplenlfaaaGreat
open Go Go.G Go.Proofs Go.PL Go.RowKit
set_option maxRecDepth 100000 in
theorem said_mergeEdits (xs:List A) (h:ArgsHas Tryz.prog Tryz.f3.params.toList xs):G.Spec Tryz.prog 3 xs (.v (.bool true)):=by
 have h:ArgsHas Tryz.prog [25,30,30] xs:=h
 match xs,h with
 |[a,a2,a4],⟨⟨n,b,h1,h2⟩,⟨n2,b2,h12,h22⟩,⟨n4,b4,h14,h24⟩,_⟩=>
  obtain⟨t,ht,et⟩:=PN _ _ h1;obtain⟨t2,ht2,et2⟩:=YE _ _ h12;obtain⟨t4,ht4,et4⟩:=YE _ _ h14;rw[h2,Ui,h22,su,h24,su];exact(Pv ht ht2 ht4).soft (by simp only[A.softL,A.soft,et,et2,et4])
end Go.Proofs.YtlaapfplenlfaaaGreat
namespace Go.G
open Go.RowKit Go.ChangeShapes Go.WideShapes
section
variable {H:Type} {enc:TypeId × Value→H} {P:Program}
def KQ (P:Program) (ts:List TypeId):Bool:=ts.all fun t=>P.readableRec t&&decide (t<P.types.size)
theorem LM (hl:laidOutB P=true) {W W':World} (hb:Below W.heap.size W W') (sp:Nat→Bool):∀ {ts:List TypeId} {vs:List Value} {ds:List (DataW H)} {ps:List MemPlace},KQ P ts=true →
  DataW.TrodAll enc P W 0 (fun _=>true) true ts vs ds ps→(∀ x ∈ ps,x.block<W.heap.size)→(∀ x ∈ ps,sp x.block=true)→DataW.TrodAll enc P W' 0 sp true ts vs ds ps
 |[],_,_,_,_,h,_,_=>by
  obtain⟨rfl,rfl,rfl⟩:=trodAll_nil h;exact trodAll_mk0
 |t::ts,_,_,_,hr,h,hlt,hsp=>by
  obtain⟨v,vs,d,ds,p,q,rfl,rfl,rfl,h1,h2⟩:=trodAll_cons h;simp only[KQ,List.all_cons,Bool.and_eq_true,decide_eq_true_eq] at hr;exact⟨p,q,WideElems.Trod_stays hl hr.1.1 hr.1.2 h1 (fun x hx=>hb.same (hlt x (by simp[hx]))) (fun x hx=>hsp x (by simp[hx])),
   LM hl hb sp (by simpa[KQ] using hr.2) h2 (fun x hx=>hlt x (by simp[hx])) (fun x hx=>hsp x (by simp[hx])),rfl⟩
theorem KG {w:World} {base:Nat} {spare:Nat→Bool} {held:Bool}:∀ {ts:List TypeId} {vs:List Value} {ds:List (DataW H)} {ps:List MemPlace},DataW.TrodAll enc P w base spare held ts vs ds ps→ds.length=ts.length∧vs.length=ts.length
 |[],_,_,_,h=>by
  obtain⟨rfl,rfl,rfl⟩:=trodAll_nil h;exact⟨rfl,rfl⟩
 |t::ts,_,_,_,h=>by
  obtain⟨v,vs,d,ds,p,q,rfl,rfl,rfl,h1,h2⟩:=trodAll_cons h;have:=KG h2;simp[this]
theorem dR {f:Func} {s:ChangeSpec} {apart fresh handsOn again:Bool} {W W':World} {args:Array Value} {ds gs:List (DataW H)} {before:List MemPlace} {t:TypeId}
  (hl:laidOutB P=true) (hp:KQ P f.params.toList=true) (hsv:s.vars=[]) (hW:DataW.Whole enc P f.params.toList s.vars apart W args.toList ds gs before) (hB:Below W.heap.size W W')
  (hrt:f.resultTypes = #[t]) (ht:P.underlying t=some .bool) (hfn:∀ ds':List (DataW H),ds'.length=f.params.size→s.fn H ds'={ results:=[.lit (.bool true)],args:=ds' }) :
  s.post enc P f apart fresh handsOn again W args (.bool true) W':=by
 have hlt:=hW.lt;have hW':=hW;obtain⟨p,q,hA,hV,rfl,hz,hn⟩:=hW';rw[hsv] at hV;obtain⟨rfl,rfl⟩:=trodVars_none hV;have hfn:=hfn ds (by have:=(KG hA).1;simpa using this);simp only[List.append_nil] at hlt hz hn;have hA':=fun sp=>LM hl hB sp hp hA hlt;have hr:∀ (b:Nat) (sp:Nat→Bool) (hd:Bool),DataW.TrodAll enc P W' b sp hd f.resultTypes.toList ((Value.bool true).resultList f.resultTypes.size) [.lit (.bool true)] []:=fun b sp hd=>by
  rw[hrt];exact trodAll_cons_mk (shut_bool ht _) trodAll_mk0
 refine⟨ds,[],p++[],[],p,[],hW,?_,?_,?_,Below.frame hB _,fun _=>?_⟩
 ·simp only[List.append_nil,hfn];exact hr _ _ _
 ·simp only[List.append_nil,hfn];exact hA' _ (fun x hx=>by simpa using hlt x hx)
 ·simp only[List.append_nil,hfn,hsv];exact rfl
 ·refine⟨ok_one hrt rfl (okWide_bool_mk ht _),_,[],([]++p)++[],⟨[]++p,[],trodAll_append (hA' (fun _=>true) (fun _ _=>rfl)) (hr _ _ _),by rw[hsv];rfl,rfl,?_,?_⟩,?_⟩
  ·intro b off hx;have hx:MemPlace.cell b off ∈ p:=by simpa using hx
   rw[Below.frozen hB (hlt _ hx)];exact hz b off hx
  ·intro ha;have:=hn ha;simpa using this
  ·intro x hx _;simpa using hx
theorem law_calls {f:Func} {fid:FuncId} {s:ChangeSpec} {apart fresh handsOn again:Bool} {W:World} {base:Nat} {args:Array Value} {ds gs:List (DataW H)} {before:List MemPlace} {t:TypeId} (S:List TypeId)
  (hl:laidOutB P=true) (hp:KQ P f.params.toList=true) (hS:Ke P S=true) (hts:f.params.toList.all S.contains=true) (hsv:s.vars=[]) (hrt:f.resultTypes = #[t]) (ht:P.underlying t=some .bool)
  (hfn:∀ ds':List (DataW H),ds'.length=f.params.size→s.fn H ds'={ results:=[.lit (.bool true)],args:=ds' })
  (hspec:∀ as',ArgsHas P f.params.toList as'→Spec P fid as' (.v (.bool true))) (htb:Tabs P W (kQ W))
  (hval:∀ (j:Nat) t v,f.params[j]? = some t→args[j]? = some v→Value.okWide P W .any base t v) (hW:DataW.Whole enc P f.params.toList s.vars apart W args.toList ds gs before)
  (hwt:(DataW.weightsEach P (f.params.toList++s.plain.varTypes P) (ds++gs)).all (·≤reachBytes)=true) :
  Calls P fid args W fun e W'=>∃ v,e = .returned v∧s.post enc P f apart fresh handsOn again W args v W':=by
 have hW':=hW;obtain⟨p,q,hA,hV,rfl,hz,hn⟩:=hW;have hV':=hV;rw[hsv] at hV';obtain⟨rfl,_⟩:=trodVars_none hV';have hwt':∀ m,m ∈ DataW.weightsEach P f.params.toList ds→m≤reachBytes:=by
  have e:s.plain.varTypes P=[]:=by simp[ChangeSpec.plain,DataSpec.varTypes,hsv]
  rw[e,List.append_nil,List.append_nil,List.all_eq_true] at hwt;exact fun m hm=>by simpa using hwt m hm
 obtain⟨as',h1,h2,h3⟩:=Nd hS (fun t ht=>by rw[List.all_eq_true] at hts;simpa using hts t ht) hwt' hA (fun j u v hj hv=>hval j u v (by simpa using hj) (by simpa using hv));refine((hspec as' h2).2 W (kQ W) args (fun _ h=>h) htb (by simpa using h1.symm) (fun k y hk=>?_)).mono fun e W' ⟨v,he,hB,hr⟩=>?_
 ·have:=h3 k y hk;simpa[List.getD,Array.getD_eq_getD_getElem?] using this
 ·cases hr;exact⟨_,he,dR hl hp hsv hW' hB hrt ht hfn⟩
end
end Go.G
