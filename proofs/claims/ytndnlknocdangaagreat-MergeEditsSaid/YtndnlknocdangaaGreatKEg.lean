/-
 Texts,merged,without what is not reached.
-/
import Derived.Test.YtndnlknocdangaaGreatKEf
set_option linter.unusedSimpArgs false
set_option linter.unusedVariables false
open Go.IntKind (i64 u64)
namespace Go.Proofs.YtndnlknocdangaaGreat
open Go Go.G Go.Proofs Go.PL
def Z3 (tw:List Int) (w:WE):Bool:=decide (AM 0 (tw.getD w.at_.toNat 0) w.mask=w.old)
theorem Nl {tw:List Int}:∀ (m i:Nat) (ws:List WE) (last:Int),BR last ws=true→last<i→(∀ w,w ∈ ws→(i:Int)≤w.at_∧w.at_<((i+m:Nat):Int))→(LM tw m i ws).isSome=ws.all (Z3 tw)
 |0,i,ws,last,h,hl,hat=>by
  cases ws with
  |nil=>rfl
  |cons w ws=>have:=hat w (by simp);omega
 |m+1,i,[],last,h,hl,hat=>by
  rw[LM,Option.isSome_map,Nl m (i+1) [] last h (by omega) (fun w hw=>by simp at hw)]
 |m+1,i,w::ws,last,h,hl,hat=>by
  obtain⟨k1,k2,k3,k4,k5⟩:=EM h;have hw:=hat w (by simp);have later:∀ z,z ∈ ws→w.at_<z.at_:=by
   have key:∀ (l:List WE) (last:Int),BR last l=true→∀ z,z ∈ l→last<z.at_:=fun l=>by
    induction l with
    |nil=>intro _ _ z hz;simp at hz
    |cons y l ih=>
     intro last h z hz;obtain⟨q1,_,_,_,q5⟩:=EM h;rcases List.mem_cons.1 hz with rfl | hz
     ·exact q1
     ·have:=ih _ q5 z hz;omega
   exact key ws _ k5
  by_cases e:w.at_=(i:Int)
  ·have ei:w.at_.toNat=i:=by omega
   by_cases hb:AM 0 (tw.getD i 0) w.mask=w.old
   ·rw[PR e hb,Option.isSome_map,Nl m (i+1) ws w.at_ k5 (by omega) (fun z hz=>by have:=later z hz;have:=(hat z (List.mem_cons_of_mem _ hz)).2;omega),List.all_cons];have:Z3 tw w=true:=by unfold Z3;rw[ei];exact decide_eq_true hb
    rw[this,Bool.true_and]
   ·rw[TJ e hb,List.all_cons];have:Z3 tw w=false:=by unfold Z3;rw[ei];exact decide_eq_false hb
    rw[this,Bool.false_and];rfl
  ·rw[Km (fun x xs ex=>by cases ex;exact e),Option.isSome_map,Nl m (i+1) (w::ws) last h (by omega) (fun z hz=>by
    refine⟨?_,by have:=(hat z hz).2;omega⟩;rcases List.mem_cons.1 hz with rfl | hz
    ·omega
    ·have:=later z hz;omega)]
noncomputable def ab (tk:List T) (x:KE):Bool:=(GY x.e (tk.getD x.at_.toNat T0)).isSome
theorem Na {tk:List T} {d:Nat}:∀ (m i:Nat) (ks:List KE) (last:Int),B0 d last ks=true→last<i→(∀ w,w ∈ ks→(i:Int)≤w.at_∧w.at_<((i+m:Nat):Int))→(LA tk m i (BJ ks)).isSome=ks.all (ab tk)
 |0,i,ks,last,h,hl,hat=>by
  cases ks with
  |nil=>rw[BJ];rfl
  |cons w ws=>have:=hat w (by simp);omega
 |m+1,i,[],last,h,hl,hat=>by
  have:=Na (tk:=tk) m (i+1) [] last h (by omega) (fun w hw=>by simp at hw);rw[BJ] at this ⊢;rw[LA,Option.isSome_map,this]
 |m+1,i,w::ks,last,h,hl,hat=>by
  obtain⟨k1,k2,k3,k5⟩:=Fz h;have hw:=hat w (by simp);have hap:BJ (w::ks)=(w.at_,GY w.e)::BJ ks:=by rw[Ec,List.map_cons,← Ec]
  have later:∀ z,z ∈ ks→w.at_<z.at_:=by
   have key:∀ (l:List KE) (last:Int),B0 d last l=true→∀ z,z ∈ l→last<z.at_:=fun l=>by
    induction l with
    |nil=>intro _ _ z hz;simp at hz
    |cons y l ih=>
     intro last h z hz;obtain⟨q1,_,_,q5⟩:=Fz h;rcases List.mem_cons.1 hz with rfl | hz
     ·exact q1
     ·have:=ih _ q5 z hz;omega
   exact key ks _ k5
  by_cases e:w.at_=(i:Int)
  ·have ei:w.at_.toNat=i:=by omega
   rw[hap,List.all_cons];have hok:ab tk w=(GY w.e (tk.getD i T0)).isSome:=by unfold ab;rw[ei]
   rw[hok];cases hv:GY w.e (tk.getD i T0) with
   |none=>rw[Tv e hv];rfl
   |some v=>rw[PJ e hv,Option.isSome_map,Na m (i+1) ks w.at_ k5 (by omega) (fun z hz=>by have:=later z hz;have:=(hat z (List.mem_cons_of_mem _ hz)).2;omega)];rfl
  ·have:=Na (tk:=tk) m (i+1) (w::ks) last h (by omega) (fun z hz=>by
    refine⟨?_,by have:=(hat z hz).2;omega⟩;rcases List.mem_cons.1 hz with rfl | hz
    ·omega
    ·have:=later z hz;omega)
   rw[hap] at this ⊢;rw[Kg (fun x xs ex=>by cases ex;exact e),Option.isSome_map,this]
variable {n0:Nat} {w0:World} {I0:Nat→Prop} {Q:Exit→Sta→Prop}
theorem Xc {t:T} (ht:AD t) {ws:List WE} (hwl:ws.length≤10000000000000) {R:List Int} {K:A} {v0 v16:VOb} (hws:∀ x,x ∈ ws→AA x.old∧AA x.new∧(0≤x.mask∧x.mask<256)∧0≤x.at_∧x.at_≤65534)
  (hf:∀ (H':Hp),H' [2]=⟨1,.cells [iv 0,.sl true [],.sl true []]⟩→ws.all (Z3 t.words)=false→Q .ret ⟨lk [(4,.pob [2] 1 0),(5,bv false)],H'⟩)
  (hq:ws.all (Z3 t.words)=true→∀ (H':Hp) (v:Nat) (st:List (Nat × A)),H' [0]=v0→H' [1]=⟨1,.cells (tL t)⟩→H' [2]=⟨1,.cells [iv 0,.sl true [],.sl true []]⟩→H' [3]=⟨1,.cells [iv 1,.osl [15] v 1 0 R.length,K]⟩→H' [15]=⟨v,.arr 1 (R.map uv)⟩→H' [16]=v16→Q (.exit 0) ⟨lk ([(2,.pob [0] 1 0),(3,.pob [1] 1 0),(4,.pob [2] 1 0),(6,.pob [3] 1 0)]++st),H'⟩) :
  ∀ (m k v:Nat) (X:List Int) (H:Hp),k+m=ws.length→ws.all (Z3 t.words)=(ws.drop k).all (Z3 t.words)→R=Ka t.words (ws.drop k) X→X.length≤900000→H [0]=v0→H [1]=⟨1,.cells (tL t)⟩→H [2]=⟨1,.cells [iv 0,.sl true [],.sl true []]⟩→H [3]=⟨1,.cells [iv 1,.osl [15] v 1 0 X.length,K]⟩→H [15]=⟨v,.arr 1 (X.map uv)⟩→H [16]=v16 →
  LoopC (cx Tryz.prog w0 I0 n0) BA Q ⟨lk [(2,.pob [0] 1 0),(3,.pob [1] 1 0),(4,.pob [2] 1 0),(6,.pob [3] 1 0),(26,JJ ws),(27,iv ws.length),(28,iv k)],H⟩:=by
 have z0:AA 0:=⟨by decide,by decide⟩;intro m;induction m with
 |zero=>
  intro k v X H hm hal hR hX h0 h1 h2 h3 h15 h16;have:k=ws.length:=by omega
  subst this;rw[List.drop_length] at hR hal;have hR:R=X:=hR;subst hR;refine Ab Aj BA.eq_1 ?_;simp;have:=hq hal H v [(26,JJ ws),(27,iv ws.length),(28,iv ws.length),(29,bv false)] h0 h1 h2 h3 h15 h16;simpa using this
 |succ m ih=>
  intro k v X H hm hal hR hX h0 h1 h2 h3 h15 h16;have hlt:k<ws.length:=by omega
  have ew:=AI k;have hd:ws.drop k=ws[k]::ws.drop (k+1):=(List.getElem_cons_drop hlt).symm;rw[hd] at hR hal;obtain⟨q1,q2,q3,q4,q5⟩:=hws _ (BD hlt);have next:=ih (k+1)
  generalize hx:ws[k]=x at *;obtain⟨at_,mk,o,n⟩:=x;obtain⟨i,rfl⟩:∃ i:Nat,at_=(i:Int):=⟨at_.toNat,by have h:0≤at_:=q4;omega⟩;have q5:((i:Nat):Int)≤65534:=q5;have q3:0≤mk∧mk<256:=q3;have q1:AA o:=q1;have q2:AA n:=q2;have hwa:=Fa (wfT_iff.1 ht).w i;have M1:=Dt (mask:=mk) z0 hwa q3.1 q3.2;have M2:=Dt (mask:=mk) hwa q2 q3.1 q3.2;have W1:=C5 t i;have hl:i<(D3 X i).length:=by rw[Ez];omega
  have hok:Z3 t.words ⟨(i:Int),mk,o,n⟩=decide (AM 0 (t.words.getD i 0) mk=o):=by unfold Z3;rw[show((⟨(i:Int),mk,o,n⟩:WE).at_).toNat=i from Int.toNat_natCast i]
  rw[List.all_cons,hok] at hal;have hR':R=Ka t.words (ws.drop (k+1)) ((D3 X i).set i (AM (t.words.getD i 0) n mk)):=by
   rw[hR];show Ka t.words _ ((D3 X ((i:Int)).toNat).set ((i:Int)).toNat (AM (t.words.getD ((i:Int)).toNat 0) n mk))=_;rw[Int.toNat_natCast]
  generalize t.words.getD i 0=z at *;refine Ab Aj BA.eq_1 ?_;simp[hlt,hx,Aa,h1];refine Ae W1 (by simp) ?_;simp[Aa];refine Ae M1 (by simp) ?_;by_cases c:AM 0 z mk=o
  ·rw[decide_eq_true c,Bool.true_and] at hal;simp[Aa,c];refine ku (X0:=X) (i:=i) (w:=(H [4]).u+1) (c0:=u8 mk) (c1:=uv o) (c2:=uv n) (K:=K) (by omega) (by omega) (H0:=Ay H [4] ⟨(H [4]).u+1,.cells [iv i,u8 mk,uv o,uv n]⟩) (by simp[Aa]) (fun H' v' k3 k15 kH=>?_) (i+1-X.length) 0 v _ (by omega) (by simp[Aa,h3]) (by simp[Aa,h15]) (fun o _ _=>rfl);have k4:=kH [4] (by simp) (by simp);have k0:=kH [0] (by simp) (by simp);have k1:=kH [1] (by simp) (by simp);have k2:=kH [2] (by simp) (by simp);have k16:=kH [16] (by simp) (by simp);simp[Aa] at k4 k0 k1 k2 k16;simp[k3,k4];refine Ae M2 (by simp) ?_;simp[k3,k15,k4,hl,ew];refine next v' ((D3 X i).set i (AM z n mk)) _ (by omega) hal hR' (by rw[List.length_set,Ez];omega) (by simp[Aa,k0,h0]) (by simp[Aa,k1,h1]) (by simp[Aa,k2,h2]) (by simp[Aa,k3]) (by simp[Aa,List.map_set]) (by simp[Aa,k16,h16])
  ·rw[decide_eq_false c,Bool.false_and] at hal;simp[Aa,c,h2];exact hf _ (by simp[Aa]) hal
theorem bG {t:T} {ks:List KE} (hkl:ks.length≤10000000000000) {Z1:List KI} {K:A} {v15:VOb} (hat:∀ x,x ∈ ks→0≤x.at_∧x.at_≤65534) {U:KE→T} (hU:∀ x,x ∈ ks→G.Spec Tryz.prog 47 [eX x.e,tX (t.kids.getD x.at_.toNat T0)] (.tup [tX (U x),bv (ab t.kids x)]))
  (hf:∀ (H':Hp),H' [2]=⟨1,.cells [iv 0,.sl true [],.sl true []]⟩→ks.all (ab t.kids)=false→Q .ret ⟨lk [(4,.pob [2] 1 0),(5,bv false)],H'⟩)
  (hq:ks.all (ab t.kids)=true→∀ (H':Hp) (v:Nat) (st:List (Nat × A)),H' [2]=⟨1,.cells [iv 0,.sl true [],.sl true []]⟩→H' [3]=⟨1,.cells [iv 1,K,.osl [16] v 3 0 Z1.length]⟩→H' [16]=⟨v,.arr 3 (Z1.map Wl)⟩→H' [15]=v15→Q (.exit 4) ⟨lk ([(3,.pob [1] 1 0),(4,.pob [2] 1 0),(6,.pob [3] 1 0)]++st),H'⟩) :
  ∀ (m k v:Nat) (Z:List KI) (H:Hp),k+m=ks.length→ks.all (ab t.kids)=(ks.drop k).all (ab t.kids)→Z1=Lu (ks.drop k) ((ks.drop k).map U) Z→Z.length≤900001→H [1]=⟨1,.cells (tL t)⟩→H [2]=⟨1,.cells [iv 0,.sl true [],.sl true []]⟩→H [3]=⟨1,.cells [iv 1,K,.osl [16] v 3 0 Z.length]⟩→H [16]=⟨v,.arr 3 (Z.map Wl)⟩→H [15]=v15 →
  LoopC (cx Tryz.prog w0 I0 n0) BB Q ⟨lk [(3,.pob [1] 1 0),(4,.pob [2] 1 0),(6,.pob [3] 1 0),(68,J9 ks),(69,iv ks.length),(70,iv k)],H⟩:=by
 intro m;induction m with
 |zero=>
  intro k v Z H hm hal hR hZ h1 h2 h3 h16 h15;have:k=ks.length:=by omega
  subst this;rw[List.drop_length] at hR hal;have hR:Z1=Z:=hR;subst hR;refine Ab Aj BB.eq_1 ?_;simp;have:=hq hal H v [(68,J9 ks),(69,iv ks.length),(70,iv ks.length),(71,bv false)] h2 h3 h16 h15;simpa using this
 |succ m ih=>
  intro k v Z H hm hal hR hZ h1 h2 h3 h16 h15;have hlt:k<ks.length:=by omega
  have ew:=AI k;have hd:ks.drop k=ks[k]::ks.drop (k+1):=(List.getElem_cons_drop hlt).symm;rw[hd] at hR hal;obtain⟨q4,q5⟩:=hat _ (BD hlt);have S:=hU _ (BD hlt);have next:=ih (k+1)
  generalize hx:ks[k]=x at *;rw[List.all_cons] at hal;rw[List.map_cons] at hR;have hR2:Z1=Lu (ks.drop (k+1)) ((ks.drop (k+1)).map U) ((HY Z x.at_.toNat).set x.at_.toNat (false,U x)):=hR;generalize ab t.kids x=b at *;generalize U x=u at *;obtain⟨at_,e⟩:=x;obtain⟨i,rfl⟩:∃ i:Nat,at_=(i:Int):=⟨at_.toNat,by have h:0≤at_:=q4;omega⟩;have q5:((i:Nat):Int)≤65534:=q5;have e1:(KE.mk (i:Int) e).at_.toNat=i:=Int.toNat_natCast i;have e2:(KE.mk (i:Int) e).e=e:=rfl;rw[e1,e2] at S;rw[e1] at hR2;have K1:=DC t i;have hl:i<(HY Z i).length:=by rw[Ia];omega
  generalize t.kids.getD i T0=c at *;refine Ab Aj BB.eq_1 ?_;simp[hlt,hx,Aa,h1];refine Ae K1 (by simp) ?_;simp[Aa];refine Ae S (by simp) ?_;cases b with
  |true=>
   rw[Bool.true_and] at hal;simp[Aa];refine jS (Z0:=Z) (i:=i) (w:=(H [6]).u+1) (w7:=(H [7]).u+1) (c4:=eL e) (K:=K) (by omega) (by omega) (H0:=Ay (Ay H [6] ⟨(H [6]).u+1,.cells (iv i::eL e)⟩) [7] ⟨(H [7]).u+1,.cells (tL u)⟩) (by simp[Aa]) (fun H' v' k3 k16 kH=>?_) (i+1-Z.length) 0 v _ (by omega) (by simp[Aa,h3]) (by simp[Aa,h16]) (fun o _ _=>by rfl);have k6:=kH [6] (by simp) (by simp);have k7:=kH [7] (by simp) (by simp);have k1:=kH [1] (by simp) (by simp);have k2:=kH [2] (by simp) (by simp);have k15:=kH [15] (by simp) (by simp);simp[Aa] at k6 k7 k1 k2 k15;simp[k3,k6,k7,k16,hl,ew];refine next v' ((HY Z i).set i (false,u)) _ (by omega) hal hR2 (by rw[List.length_set,Ia];omega) (by simp[Aa,k1,h1]) (by simp[Aa,k2,h2]) (by simp[Aa,k3]) (by simp[Aa,List.map_set];rfl) (by simp[Aa,k15,h15])
  |false=>
   rw[Bool.false_and] at hal;simp[Aa,h2];exact hf _ (by simp[Aa]) hal
theorem X5:∀ (ws:List WE) (a X:List Int),(∀ w,w ∈ ws→0≤w.at_∧w.at_≤65534)→(Ka a ws X).length≤max X.length 65535
 |[],a,X,h=>by show X.length≤_;omega
 |w::ws,a,X,h=>by
  have:=X5 ws a ((D3 X w.at_.toNat).set w.at_.toNat (AM (a.getD w.at_.toNat 0) w.new w.mask)) (fun z hz=>h z (List.mem_cons_of_mem _ hz));rw[List.length_set,Ez] at this;have h1:=h w (by simp);show(Ka a ws _).length≤_;omega
theorem Yu:∀ (ks:List KE) (us:List T) (Z:List KI),(∀ w,w ∈ ks→0≤w.at_∧w.at_≤65534)→(Lu ks us Z).length≤max Z.length 65535
 |[],us,Z,h=>by show Z.length≤_;omega
 |w::ks,[],Z,h=>by show Z.length≤_;omega
 |w::ks,u::us,Z,h=>by
  have:=Yu ks us ((HY Z w.at_.toNat).set w.at_.toNat (false,u)) (fun z hz=>h z (List.mem_cons_of_mem _ hz));rw[List.length_set,Ia] at this;have h1:=h w (by simp);show(Lu ks us _).length≤_;omega
theorem Re:∀ {ws:List WE} {last:Int},BR last ws=true→∀ x,ws.getLast? = some x→∀ w,w ∈ ws→w.at_≤x.at_
 |[],_,_,x,hx,w,hw=>by simp at hw
 |[y],_,_,x,hx,w,hw=>by
  simp at hx hw;rw[← hx,hw];exact Int.le_refl _
 |y::z::ws,last,h,x,hx,w,hw=>by
  rw[List.getLast?_cons_cons] at hx;obtain⟨_,_,_,_,h5⟩:=EM h;rcases List.mem_cons.1 hw with rfl | hw
  ·have:=Re h5 x hx z (by simp);have:=(EM h5).1;omega
  ·exact Re h5 x hx w hw
theorem Q8 {d:Nat}:∀ {ks:List KE} {last:Int},B0 d last ks=true→∀ x,ks.getLast? = some x→∀ w,w ∈ ks→w.at_≤x.at_
 |[],_,_,x,hx,w,hw=>by simp at hw
 |[y],_,_,x,hx,w,hw=>by
  simp at hx hw;rw[← hx,hw];exact Int.le_refl _
 |y::z::ks,last,h,x,hx,w,hw=>by
  rw[List.getLast?_cons_cons] at hx;obtain⟨_,_,_,h5⟩:=Fz h;rcases List.mem_cons.1 hw with rfl | hw
  ·have:=Q8 h5 x hx z (by simp);have:=(Fz h5).1;omega
  ·exact Q8 h5 x hx w hw
theorem Vk {ws:List WE} {last:Int} (h:BR last ws=true) (n:Nat):n≤E6 ws n∧∀ w,w ∈ ws→w.at_<(E6 ws n:Nat):=by
 unfold E6;cases e:ws.getLast? with
 |none=>rw[List.getLast?_eq_none_iff.1 e];exact⟨Ek _,fun w hw=>by simp at hw⟩
 |some x=>
  refine⟨by simp;omega,fun w hw=>?_⟩;have:=Re h x e w hw;simp only;omega
theorem Ut {d:Nat} {ks:List KE} {last:Int} (h:B0 d last ks=true) (n:Nat):n≤Ep (BJ ks) n∧∀ w,w ∈ ks→w.at_<(Ep (BJ ks) n:Nat):=by
 unfold Ep;rw[Ec,List.getLast?_map];cases e:ks.getLast? with
 |none=>rw[List.getLast?_eq_none_iff.1 e];exact⟨Ek _,fun w hw=>by simp at hw⟩
 |some x=>
  refine⟨by simp;omega,fun w hw=>?_⟩;have:=Q8 h x e w hw;simp only[Option.map_some];omega
theorem ZF {ws:List WE} {ks:List KE} {t:T} (ht:AD t) (hwl:ws.length≤10000000000000) (hkl:ks.length≤10000000000000) (lw:t.words.length≤800000) (lk:t.kids.length≤800000) (hwf:∀ x,x ∈ ws→WE.wf x) (wok:BR (-1) ws=true) {d:Nat} (kok:B0 d (-1) ks=true) (hone:∀ x,x ∈ ks→bE x.e (t.kids.getD x.at_.toNat T0)) :
  ∃ u,AD u∧G.Spec Tryz.prog 79 [eX (.mk 2 T0 T0 ws ks 0 []),tX t] (.tup [tX u,bv (GY (.mk 2 T0 T0 ws ks 0 []) t).isSome]):=by
 by_cases c:t.kind=1;rotate_left
 ·have hb:GY (.mk 2 T0 T0 ws ks 0 []) t=none:=by rw[HT,Et,if_neg (by decide),if_neg (by decide),if_pos rfl,if_neg c]
  rw[hb];refine⟨T0,Df,?_⟩;refine Ag CX (by simp) fun w0 I0=>?_;unfold Cd;simp[c];exact An ⟨AE ⟨Ad rfl,Ah,Ah,trivial⟩,Ad rfl,trivial⟩
 have aw:=Jt (by omega) wok;have ak:=Hu (by omega) kok;have hW:=Nl (tw:=t.words) (E6 ws t.words.length) 0 ws (-1) wok (by omega) (fun w hw=>⟨(aw w hw).1,by rw[Nat.zero_add];exact(Vk wok t.words.length).2 w hw⟩);have hK:=Na (tk:=t.kids) (Ep (BJ ks) t.kids.length) 0 ks (-1) kok (by omega) (fun w hw=>⟨(ak w hw).1.1,by rw[Nat.zero_add];exact(Ut kok t.kids.length).2 w hw⟩);have hb:(GY (.mk 2 T0 T0 ws ks 0 []) t).isSome=(ws.all (Z3 t.words)&&ks.all (ab t.kids)):=by
  rw[HT,Et,if_neg (by decide),if_neg (by decide),if_pos rfl,if_pos c,← hW,← hK];cases LM t.words (E6 ws t.words.length) 0 ws<;>cases LA t.kids (Ep (BJ ks) t.kids.length) 0 (BJ ks)<;>rfl
 rw[hb];have hU:∃ U:KE→T,∀ x,x ∈ ks→AD (U x)∧G.Spec Tryz.prog 47 [eX x.e,tX (t.kids.getD x.at_.toNat T0)] (.tup [tX (U x),bv (ab t.kids x)]):=by
  refine Classical.axiomOfChoice (r:=fun x u=>x ∈ ks→AD u∧G.Spec Tryz.prog 47 [eX x.e,tX (t.kids.getD x.at_.toNat T0)] (.tup [tX u,bv (ab t.kids x)])) fun x=>?_;by_cases hx:x ∈ ks
  ·obtain⟨u,u1,u2⟩:=hone x hx;exact⟨u,fun _=>⟨u1,u2⟩⟩
  ·exact⟨T0,fun h=>absurd h hx⟩
 obtain⟨U,hU⟩:=hU;have C1:=Kq t.words (by omega);have C2:=Pb t.kids (by omega);have hkr:=fq t.kids;have hkt:=Yd t.kids;have hws2:∀ x,x ∈ ws→AA x.old∧AA x.new∧(0≤x.mask∧x.mask<256)∧0≤x.at_∧x.at_≤65534:=fun x hx=>⟨(hwf x hx).2.2.1,(hwf x hx).2.2.2,(hwf x hx).2.1,aw x hx⟩;generalize hZ:(t.kids.map fun k=>((false,k):KI))=Z at *;have hZl:Z.length=t.kids.length:=by rw[← hZ];simp
 cases hwa:ws.all (Z3 t.words) with
 |false=>
  refine⟨T0,Df,?_⟩;refine Ag CX (by simp) fun w0 I0=>?_;unfold Cd;simp[c];refine Bp 15 C1 (fun p=>by simp) (by simp) (by simp) ?_;simp;refine⟨by decide,?_⟩;refine Bp 16 C2 (fun p=>by simp) (by simp) (by simp) ?_;simp;refine⟨⟨by decide,by decide⟩,?_⟩;refine LoopC.le (AB [(2,.pob [0] 1 0),(3,.pob [1] 1 0),(4,.pob [2] 1 0),(6,.pob [3] 1 0),(26,JJ ws),(27,iv ws.length),(28,iv (0:Nat))] (by simp)) ?_;refine Xc (t:=t) (R:=Ka t.words ws t.words) (K:=.osl [16] 1 3 0 t.kids.length) (v0:=⟨1,.cells (eL (.mk 2 T0 T0 ws ks 0 []))⟩) (v16:=⟨1,.arr 3 (Z.map Wl)⟩) ht hwl hws2 (fun H' h2 _=>?_) (fun h=>absurd (hwa.symm.trans h) (by decide)) ws.length 0 1 t.words _ (by omega) (by simp) (by simp) (by omega) (by simp[Aa]) (by simp[Aa,c]) (by simp[Aa]) (by simp[Aa]) (by simp[Aa]) (by simp[Aa,hkr]);simp[h2];exact An ⟨AE ⟨Ad rfl,Ah,Ah,trivial⟩,Ad rfl,trivial⟩
 |true=>
  cases hka:ks.all (ab t.kids) with
  |false=>
   refine⟨T0,Df,?_⟩;refine Ag CX (by simp) fun w0 I0=>?_;unfold Cd;simp[c];refine Bp 15 C1 (fun p=>by simp) (by simp) (by simp) ?_;simp;refine⟨by decide,?_⟩;refine Bp 16 C2 (fun p=>by simp) (by simp) (by simp) ?_;simp;refine⟨⟨by decide,by decide⟩,?_⟩;refine LoopC.le (AB [(2,.pob [0] 1 0),(3,.pob [1] 1 0),(4,.pob [2] 1 0),(6,.pob [3] 1 0),(26,JJ ws),(27,iv ws.length),(28,iv (0:Nat))] (by simp)) ?_;refine Xc (t:=t) (R:=Ka t.words ws t.words) (K:=.osl [16] 1 3 0 t.kids.length) (v0:=⟨1,.cells (eL (.mk 2 T0 T0 ws ks 0 []))⟩) (v16:=⟨1,.arr 3 (Z.map Wl)⟩) ht hwl hws2 (fun H' h2 h=>absurd (hwa.symm.trans h) (by decide)) (fun _ H' v st h0 h1 h2 h3 h15 h16=>?_) ws.length 0 1 t.words _ (by omega) (by simp) (by simp) (by omega) (by simp[Aa]) (by simp[Aa,c]) (by simp[Aa]) (by simp[Aa]) (by simp[Aa]) (by simp[Aa,hkr]);simp[h0];refine LoopC.le (AB [(3,.pob [1] 1 0),(4,.pob [2] 1 0),(6,.pob [3] 1 0),(68,J9 ks),(69,iv ks.length),(70,iv (0:Nat))] (by simp)) ?_;rw[← hZl] at h3;refine bG (t:=t) (Z1:=Lu ks (ks.map U) Z) (K:=.osl [15] v 1 0 (Ka t.words ws t.words).length) (v15:=⟨v,.arr 1 ((Ka t.words ws t.words).map uv)⟩) hkl (fun x hx=>(ak x hx).1) (fun x hx=>(hU x hx).2) (fun H2 k2 _=>?_) (fun h=>absurd (hka.symm.trans h) (by decide)) ks.length 0 1 Z _ (by omega) (by simp) (by simp) (by omega) h1 h2 h3 h16 h15;simp[k2];exact An ⟨AE ⟨Ad rfl,Ah,Ah,trivial⟩,Ad rfl,trivial⟩
  |true=>
   have lW:=X5 ws t.words t.words aw;have lK:=Yu ks (ks.map U) Z (fun x hx=>(ak x hx).1);have wK:∀ z,z ∈ Lu ks (ks.map U) Z→AD (PZ z):=T9 (Q:=AD) Df ks (ks.map U) Z (fun u hu=>by
    obtain⟨x,hx,rfl⟩:=List.mem_map.1 hu;exact(hU x hx).1) (fun z hz=>by
    rw[← hZ] at hz;obtain⟨y,hy,rfl⟩:=List.mem_map.1 hz;exact(wfT_iff.1 ht).ks y hy)
   refine⟨.mk 1 (Ka t.words ws t.words) ((Lu ks (ks.map U) Z).map PZ),wfT_iff.2 ⟨by simp[Db],TL ws t.words (wfT_iff.1 ht).w,by show(Ka t.words ws t.words).length*8≤_;omega,by simp;omega,fun y hy=>?_⟩,?_⟩
   ·obtain⟨z,hz,rfl⟩:=List.mem_map.1 (show y ∈ (Lu ks (ks.map U) Z).map PZ from hy);exact wK z hz
   refine Ag CX (by simp) fun w0 I0=>?_;unfold Cd;simp[c];refine Bp 15 C1 (fun p=>by simp) (by simp) (by simp) ?_;simp;refine⟨by decide,?_⟩;refine Bp 16 C2 (fun p=>by simp) (by simp) (by simp) ?_;simp;refine⟨⟨by decide,by decide⟩,?_⟩;refine LoopC.le (AB [(2,.pob [0] 1 0),(3,.pob [1] 1 0),(4,.pob [2] 1 0),(6,.pob [3] 1 0),(26,JJ ws),(27,iv ws.length),(28,iv (0:Nat))] (by simp)) ?_;refine Xc (t:=t) (R:=Ka t.words ws t.words) (K:=.osl [16] 1 3 0 t.kids.length) (v0:=⟨1,.cells (eL (.mk 2 T0 T0 ws ks 0 []))⟩) (v16:=⟨1,.arr 3 (Z.map Wl)⟩) ht hwl hws2 (fun H' h2 h=>absurd (hwa.symm.trans h) (by decide)) (fun _ H' v st h0 h1 h2 h3 h15 h16=>?_) ws.length 0 1 t.words _ (by omega) (by simp) (by simp) (by omega) (by simp[Aa]) (by simp[Aa,c]) (by simp[Aa]) (by simp[Aa]) (by simp[Aa]) (by simp[Aa,hkr]);simp[h0];refine LoopC.le (AB [(3,.pob [1] 1 0),(4,.pob [2] 1 0),(6,.pob [3] 1 0),(68,J9 ks),(69,iv ks.length),(70,iv (0:Nat))] (by simp)) ?_;rw[← hZl] at h3;refine bG (t:=t) (Z1:=Lu ks (ks.map U) Z) (K:=.osl [15] v 1 0 (Ka t.words ws t.words).length) (v15:=⟨v,.arr 1 ((Ka t.words ws t.words).map uv)⟩) hkl (fun x hx=>(ak x hx).1) (fun x hx=>(hU x hx).2) (fun H2 k2 h=>absurd (hka.symm.trans h) (by decide)) (fun _ H2 v2 st2 k2 k3 k16 k15=>?_) ks.length 0 1 Z _ (by omega) (by simp) (by simp) (by omega) h1 h2 h3 h16 h15;simp[k2,k3];refine An ⟨AE ⟨Ad rfl,?_,?_,trivial⟩,Ad rfl,trivial⟩
   ·exact AY (o:=[15]) (u:=v) (n:=(Ka t.words ws t.words).length) (sz:=1) (l:=Ka t.words ws t.words) (f:=uv) (by simp[Aa,k15]) rfl (fun x=>by simp)
   ·have:=Nq (H:=Ay H2 [2] ⟨1,.cells [iv 1,.osl [15] v 1 0 (Ka t.words ws t.words).length,.osl [16] v2 3 0 (Lu ks (ks.map U) Z).length]⟩) (o:=[16]) (u:=v2) (n:=(Lu ks (ks.map U) Z).length) (sz:=3) (l:=Lu ks (ks.map U) Z) (f:=Wl) (g:=fun z=>tA (PZ z)) (by simp[Aa,k16]) rfl (fun x _=>by
     obtain⟨c,t⟩:=x;cases c<;>simp[jU,PZ,A.soft,A.softL,FI,D5])
    show Gu _ _ (.sl false (((Lu ks (ks.map U) Z).map PZ).map tA));rw[List.map_map];exact this
def Vm:Nat→E→Prop
 |0,_=>True
 |f+1,e=>DQ e.old≤3000∧DQ e.new≤3000∧(∀ o,o ∈ e.ops→(∀ t,t ∈ o.l→DQ t≤3000)∧Vm f o.e)∧∀ k,k ∈ e.kids→Vm f k.e
theorem FN:∀ (l:List T) (d:Nat) (n:Int),0≤Ar d n l→Ar d n l≤n∧0≤n∧∀ t,t ∈ l→DQ t≤n
 |[],d,n,h=>by
  rw[NI] at h ⊢;exact⟨Int.le_refl _,h,fun t ht=>by simp at ht⟩
 |t::l,d,n,h=>by
  rw[C9] at h ⊢;by_cases c:n<0
  ·rw[if_pos c] at h;omega
  ·rw[if_neg c] at h ⊢;obtain⟨h1,h2,h3⟩:=FN l d _ h;have p:=Gx t d n h2;have r:=(Bn t d n).2 (by omega);refine⟨by omega,by omega,fun x hx=>?_⟩;rcases List.mem_cons.1 hx with rfl | hx
   ·omega
   ·have:=h3 x hx;omega
theorem dg:∀ (e:E) (d:Nat) (n:Int),n≤3000→0≤CS d n e→CS d n e≤n∧0≤n∧∀ f,Vm f e:=by
 refine E.ind fun k o nn ws ks l os ihK ihO d n hn h=>?_;have kids:∀ (kl:List KE) (d:Nat) (n:Int),(∀ x,x ∈ kl→∀ (d:Nat) (n:Int),n≤3000→0≤CS d n x.e→CS d n x.e≤n∧0≤n∧∀ f,Vm f x.e)→n≤3000→0≤Cw d n kl→Cw d n kl≤n∧0≤n∧∀ x,x ∈ kl→∀ f,Vm f x.e:=fun kl=>by
  induction kl with
  |nil=>intro d n _ hn h;rw[Ju] at h ⊢; exact⟨Int.le_refl _,h,fun x hx=>by simp at hx⟩
  |cons y kl ih=>
   intro d n hI hn h;rw[Fv] at h ⊢;by_cases c:n<0
   ·rw[if_pos c] at h;omega
   ·rw[if_neg c] at h ⊢;by_cases c2:CS d n y.e<0
    ·have key:∀ (kl:List KE) (m:Int),m<0→Cw d m kl=m:=fun kl m hm=>by cases kl with
      |nil=>rw[Ju]
      |cons z kl=>rw[Fv,if_pos hm]
     rw[key kl _ c2] at h;omega
    ·obtain⟨y1,y2,y3⟩:=hI y (by simp) d n hn (by omega);obtain⟨h1,h2,h3⟩:=ih d _ (fun x hx=>hI x (List.mem_cons_of_mem _ hx)) (by omega) h;refine⟨by omega,by omega,fun x hx=>?_⟩;rcases List.mem_cons.1 hx with rfl | hx
     ·exact y3
     ·exact h3 x hx
 have opsL:∀ (ol:List OP) (d:Nat) (n:Int),(∀ x,x ∈ ol→∀ (d:Nat) (n:Int),n≤3000→0≤CS d n x.e→CS d n x.e≤n∧0≤n∧∀ f,Vm f x.e)→n≤3000→0≤Dr d n ol→Dr d n ol≤n∧0≤n∧∀ x,x ∈ ol→(∀ t,t ∈ x.l→DQ t≤3000)∧∀ f,Vm f x.e:=fun ol=>by
  induction ol with
  |nil=>intro d n _ hn h;rw[HU] at h ⊢; exact⟨Int.le_refl _,h,fun x hx=>by simp at hx⟩
  |cons y ol ih=>
   intro d n hI hn h;have key:∀ (kl:List OP) (m:Int),m<0→Dr d m kl=m:=fun kl m hm=>by cases kl with
    |nil=>rw[HU]
    |cons z kl=>rw[DA,if_pos hm]
   rw[DA] at h ⊢;by_cases c:n<0
   ·rw[if_pos c] at h;omega
   ·rw[if_neg c] at h ⊢;by_cases c1:Ar 80 n y.l<0
    ·rw[if_pos c1,key ol _ c1] at h;omega
    ·rw[if_neg c1] at h ⊢;obtain⟨s1,s2,s3⟩:=FN y.l 80 n (by omega);by_cases c2:CS d (Ar 80 n y.l) y.e<0
     ·rw[key ol _ c2] at h;omega
     ·obtain⟨y1,y2,y3⟩:=hI y (by simp) d _ (by omega) (by omega:0≤CS d (Ar 80 n y.l) y.e);obtain⟨h1,h2,h3⟩:=ih d _ (fun x hx=>hI x (List.mem_cons_of_mem _ hx)) (by omega) h;refine⟨by omega,by omega,fun x hx=>?_⟩;rcases List.mem_cons.1 hx with rfl | hx
      ·exact⟨fun t ht=>by have:=s3 t ht;omega,y3⟩
      ·exact h3 x hx
 rw[NP] at h ⊢;by_cases c:d=0∨n-1-ws.length-os.length<0
 ·rw[if_pos c] at h;omega
 rw[if_neg c] at h ⊢;have c':¬ (n-1-ws.length-os.length<0):=fun h=>c (.inr h);by_cases c2:Cw (d-1) (Jc n ws.length os.length o nn) ks<0
 ·have key:∀ (kl:List OP) (m:Int),m<0→Dr (d-1) m kl=m:=fun kl m hm=>by cases kl with
   |nil=>rw[HU]
   |cons z kl=>rw[DA,if_pos hm]
  rw[key os _ c2] at h;omega
 have l2:Jc n ws.length os.length o nn≤n-1-ws.length-os.length∧(0≤Jc n ws.length os.length o nn→DQ o≤3000∧DQ nn≤3000):=by
  rw[Ks];have r1:=(Bn o 80 (n-1-ws.length-os.length)).2 (by omega);by_cases q:Au 80 (n-1-ws.length-os.length) o<0
  ·rw[if_pos q];exact⟨r1,fun h=>by omega⟩
  ·rw[if_neg q];have r2:=(Bn nn 80 (Au 80 (n-1-ws.length-os.length) o)).2 (by omega);refine⟨by omega,fun h=>?_⟩;have p1:=Gx o 80 _ (by omega:0≤Au 80 (n-1-ws.length-os.length) o);have p2:=Gx nn 80 _ h;omega
 obtain⟨k1,k2,k3⟩:=kids ks (d-1) _ (fun x hx=>ihK x hx) (by omega) (by omega:0≤Cw (d-1) (Jc n ws.length os.length o nn) ks);obtain⟨o1,o2,o3⟩:=opsL os (d-1) _ (fun x hx=>ihO x hx) (by omega) h;obtain⟨p1,p2⟩:=l2.2 k2;refine⟨by omega,by omega,fun f=>?_⟩;cases f with
 |zero=>trivial
 |succ f=>exact⟨p1,p2,fun x hx=>⟨(o3 x hx).1,(o3 x hx).2 f⟩,fun x hx=>k3 x hx f⟩
def TM:Nat→E→Prop
 |0,_=>True
 |f+1,e=>(Az 0 0 e.ops).2≤2000∧(∀ o,o ∈ e.ops→TM f o.e)∧∀ k,k ∈ e.kids→TM f k.e
theorem T8:∀ (f:Nat) (e:E),Gh e=true→TM f e
 |0,e,h=>trivial
 |f+1,e,h=>by
  obtain⟨k,o,nn,ws,ks,l,os⟩:=e;rw[SV] at h;simp at h;obtain⟨⟨⟨h1,h2⟩,h3⟩,h4⟩:=h;have ka:∀ (kl:List KE),F4 kl=true→∀ x,x ∈ kl→Gh x.e=true:=fun kl=>by
   induction kl with
   |nil=>intro _ x hx;simp at hx
   |cons y kl ih=>
    intro h x hx;rw[Nv,Bool.and_eq_true] at h;rcases List.mem_cons.1 hx with rfl | hx
    ·exact h.1
    ·exact ih h.2 x hx
  have oa:∀ (kl:List OP),FM kl=true→∀ x,x ∈ kl→Gh x.e=true:=fun kl=>by
   induction kl with
   |nil=>intro _ x hx;simp at hx
   |cons y kl ih=>
    intro h x hx;rw[ME,Bool.and_eq_true] at h;rcases List.mem_cons.1 hx with rfl | hx
    ·exact h.1
    ·exact ih h.2 x hx
  exact⟨by show(Az 0 0 os).2≤2000;omega,fun x hx=>T8 f x.e (oa os h4 x hx),fun x hx=>T8 f x.e (ka ks h3 x hx)⟩
theorem Ni:∀ (os:List OP) (n m:Int),(∀ x,x ∈ os→Hh x)→0≤n→0≤m→n≤1048576→m≤1048576→(Az n m os).1<1048576→(Az n m os).2<1048576→m+D4 os=(Az n m os).2
 |[],n,m,_,_,_,_,_,h1,h2=>by simp[Az,D4]
 |x::os,n,m,h,hn,hm,tn,tm,h1,h2=>by
  rw[Az] at h1 h2 ⊢;have hok:=h x (by simp);have hx:=Qk hok;have hr:∀ y,y ∈ os→Hh y:=fun y hy=>h y (by simp[hy]);obtain⟨a,b⟩:=FV os (K7 (if x.kind ≠ 2 then n+B5 x else n)) (K7 (if x.kind ≠ 1 then m+B5 x else m)) hr (Gv _) (Gv _);have e1:=T5 (a:=0) (Int.lt_of_le_of_lt a h1);have e2:=T5 (a:=0) (Int.lt_of_le_of_lt b h2);have d:=Ni os _ _ hr (by rw[e1];split<;>omega) (by rw[e2];split<;>omega) (Gv _) (Gv _) h1 h2;rw[← d,e2];have q:=Yp hok;simp only[D4];by_cases k1:x.kind=1
  ·simp[k1] at q ⊢; omega
  ·simp[k1] at q ⊢; omega
theorem iM {R:E→T→T→Prop} {os:List OP} {a b:List T} (h:LdO R os a b):b.length≤D4 os:=by
 induction h with
 |nil=>simp
 |keep l m hne hl _ ih=>
  have:m.length=l.length:=by simpa using (congrArg List.length hl).symm
  simp[D4,GN];omega
 |del l m hne hl _ ih=>simp[D4,GN];omega
 |ins l m hne hl _ ih=>
  have:m.length=l.length:=by simpa using (congrArg List.length hl).symm
  simp[D4,GN];omega
 |desc e x y r _ ih=>simp[D4,GN];omega
def PT (f:Nat) (t:T):Prop:=AD t∧NW f t∧Sq f t
theorem kN {f:Nat} {t:T} (h:PT (f+1) t) (i:Nat):PT f (t.kids.getD i T0):=⟨DJ h.1 i,tg h.2.1 i,Ja h.2.2 i⟩
theorem QK {f d:Nat} {t:T} (w:AD t) (r:BV d t=true) (p:DQ t≤100000):PT f t:=⟨w,U7 f d t r,Vj f t p⟩
def EH (f:Nat) (e:E):Prop:=JZ e∧Vm f e∧TM f e∧∃ d,d≤f∧BH d e=true
theorem Q1:∀ (f:Nat) (e:E) (o x:T),EH f e→PT f o→GY e o=some x→∃ y,Ld f e o y∧Af y=Af x∧PT f y:=by
 intro f;induction f with
 |zero=>
  intro e o x ⟨_,_,_,d,hd,hr⟩;have:d=0:=by omega
  subst this;obtain⟨k,o,n,ws,ks,l,os⟩:=e;exact absurd rfl (rightE_iff.1 hr).d0
 |succ f ih=>
  intro e o x ⟨we,hF,hL,d,hd,hr⟩ hP hx;have he:=wfE_iff.1 we;have hsub:=fun h1=>Hx hr h1;obtain⟨k,oo,n,ws,ks,l,os⟩:=e;have R:=rightE_iff.1 hr;have hd0:=R.d0;have hd1:d-1≤f:=by omega
  have hk0:=R.k0;have hk3:=R.k3;have O:=wfT_iff.1 hP.1;rw[HT] at hx;by_cases k0:k=0
  ·subst k0;obtain⟨rfl,rfl⟩:=R.one (by decide);obtain⟨rfl,rfl⟩:=R.two (by decide);obtain⟨rfl,rfl⟩:=R.three (by decide);rw[Et,if_pos rfl] at hx;cases hx;exact⟨o,Hm (.inl ⟨rfl,rfl⟩),(Dp o).symm,hP⟩
  by_cases k1:k=1
  ·subst k1;obtain⟨rfl,rfl⟩:=R.two (by decide);obtain⟨rfl,rfl⟩:=R.three (by decide);rw[Et,if_neg (by decide),if_pos rfl] at hx;by_cases c:G7 oo o=true
   ·rw[if_pos c] at hx;cases hx;have hp:DQ n≤3000:=hF.2.1;exact⟨n,Hm (.inr ⟨oo,n,rfl,eqT_iff.1 c,rfl⟩),(Dp n).symm,QK he.n (R.rep rfl).2.1 (by omega)⟩
   ·rw[if_neg c] at hx;cases hx
  obtain⟨rfl,rfl⟩:=R.one k1;by_cases k2:k=2
  ·subst k2;obtain⟨rfl,rfl⟩:=R.three (by decide);rw[Et,if_neg (by decide),if_neg (by decide),if_pos rfl] at hx;by_cases c:o.kind=1;rotate_left
   ·rw[if_neg c] at hx;cases hx
   rw[if_pos c] at hx;cases hW:LM o.words (E6 ws o.words.length) 0 ws with
   |none=>rw[hW] at hx;simp at hx
   |some W=>
    cases hK:LA o.kids (Ep (BJ ks) o.kids.length) 0 (BJ ks) with
    |none=>rw[hW,hK] at hx;simp at hx
    |some K=>
     rw[hW,hK] at hx;simp only[Option.some.injEq] at hx;obtain⟨w1,w2⟩:=Jd O.w _ _ _ _ hW;obtain⟨g1,g2⟩:=Vk R.wok o.words.length;obtain⟨g3,g4⟩:=Ut R.kok o.kids.length;have ap:=Jt (by omega) R.wok;have kp:=Hu (by omega) R.kok;have b1:=U5 ap o.words.length;have b2:=Vv (fun x hx=>(kp x hx).1) o.kids.length;have LW:=PH O.w _ 0 ws W W (-1) hW (fun j hj=>by rw[Nat.zero_add]) (by rw[w1,Nat.zero_add]) (by omega) R.wok (by omega) (fun w hw=>by
      have:=he.w w hw;exact⟨by rw[Nat.zero_add];exact g2 w hw,this.2.2.1,this.2.2.2,this.2.1.1,this.2.1.2⟩) (fun w hw=>(ap w hw).1)
     obtain⟨Y,y1,y2,y3,y4⟩:=PM (R:=Ld f) (P:=PT f) (P':=PT f) (fun t h=>h) (fun i=>kN hP i) (d:=d-1) _ 0 ks K [] (-1) hK rfl (by omega) R.kok (by omega) (fun w hw=>⟨(kp w hw).1.1,by rw[Nat.zero_add];exact g4 w hw⟩) (fun z hz t v ht hv=>ih z.e t v ⟨(he.ks z hz).2,hF.2.2.2 z hz,hL.2.2 z hz,d-1,hd1,(kp z hz).2⟩ ht hv);rw[List.nil_append] at y4;have s1:=hP.2.2.1;have s2:=hP.2.2.2.1;refine⟨.mk 1 W Y,.inr (.inl ⟨ws,ks,rfl,c,rfl,LW,y4⟩),?_,wfT_iff.2 ⟨by simp[Db],w2,by show W.length*8≤_;omega,by show Y.length*56≤_;omega,fun t ht=>(y3 t ht).1⟩,⟨fun h1 h2=>by have h1:(2:Int)≤1:=h1;omega,fun t ht=>(y3 t ht).2.1⟩,by show W.length≤_;omega,by show Y.length≤_;omega,fun t ht=>(y3 t ht).2.2⟩;rw[← hx,Dp];exact struct_eq.2 ⟨fun i=>rfl,y2⟩
  ·have k3:k=3:=by omega
   subst k3;obtain⟨rfl,rfl⟩:=R.two (by decide);rw[Et,if_neg (by decide),if_neg (by decide),if_neg (by decide),if_pos rfl] at hx;by_cases c:o.kind=l;rotate_left
   ·rw[if_neg c] at hx;cases hx
   rw[if_pos c] at hx;subst c;have hl:=R.lst rfl;have hs:=(hsub (show ¬ (3:Int)=1 by decide)).2;cases hB:Cp o.kids 0 (CA os) with
   |none=>rw[hB] at hx;simp at hx
   |some r=>
    obtain⟨B,a⟩:=r;rw[hB] at hx;simp only at hx;by_cases ca:a=o.kids.length;rotate_left
    ·rw[if_neg ca] at hx;cases hx
    rw[if_pos ca] at hx;simp only[Option.some.injEq] at hx;subst ca;obtain⟨Y,y1,y2,y3⟩:=Kh (R:=Ld f) (P:=PT f) (P':=PT f) (fun t h=>h) (tk:=o.kids) (fun t ht=>⟨O.ks t ht,hP.2.1.2 t ht,hP.2.2.2.2 t ht⟩) os 0 B (rightOs_all.1 R.ook) hB (Nat.zero_le _) (fun z hz t ht=>by
     have hr64:BV 64 (.mk o.kind [] [t])=true:=by
      have:=rightOs_all.1 R.ook z hz;rw[EW,Bool.and_eq_true] at this;have h1:=this.1;unfold E4 at h1;by_cases z0:z.kind=0
      ·rw[if_pos z0] at h1;simp[List.isEmpty_iff] at h1;rw[h1.1.2] at ht;simp at ht
      ·rw[if_neg z0] at h1;by_cases zb:z.n ≠ 0∨z.kind<0∨z.kind > 3
       ·rw[if_pos zb] at h1;cases h1
       ·rw[if_neg zb] at h1;by_cases z3:z.kind<3
        ·rw[if_pos z3,Bool.and_eq_true,Bool.and_eq_true] at h1;exact List.all_eq_true.1 h1.1.1 t ht
        ·have h2:=this.2;rw[if_pos (show z.kind=3 by omega)] at h2;simp[JV,List.isEmpty_iff] at h2;rw[h2.1.1.1.1] at ht;simp at ht
     have:=(hF.2.2.1 z hz).1 t ht;exact QK ((he.os z hz).l t ht) (LD hr64 t (by simp)).1 (by omega)) (fun z hz hz3 t v ht hv=>ih z.e t v ⟨(he.os z hz).e,(hF.2.2.1 z hz).2,hL.2.1 z hz,d-1,hd1,(hs z hz).2 hz3⟩ ht hv)
    rw[List.drop_zero] at y3;have hop:∀ z,z ∈ os→Hh z:=fun z hz=>(hs z hz).1.1;have ly:=iM y3;have la:=Ni os 0 0 hop (by omega) (by omega) (by omega) (by omega) R.len.1 R.len.2;have l2:(Az 0 0 os).2≤2000:=hL.1;have ow:=hP.2.1.1 hl.1 hl.2;refine⟨.mk o.kind [] Y,.inr (.inr ⟨os,rfl,rfl,hl,⟨ow,rfl⟩,y3⟩),?_,wfT_iff.2 ⟨O.k,by simp,by simp,by show Y.length*56≤_;omega,fun t ht=>(y2 t ht).1⟩,⟨fun _ _=>rfl,fun t ht=>(y2 t ht).2.1⟩,by simp,by show Y.length≤_;omega,fun t ht=>(y2 t ht).2.2⟩;rw[← hx,Dp];exact(Jb (by omega) (by omega)).2 ⟨rfl,y1⟩
theorem jJ {e:E} {t u:T} {b:Bool} (hk:e.kind=2) (h:G.Spec Tryz.prog 79 [eX e,tX t] (.tup [tX u,bv b])):G.Spec Tryz.prog 47 [eX e,tX t] (.tup [tX u,bv b]):=by
 obtain⟨k,o,n,ws,ks,l,os⟩:=e;have hk:k=2:=hk;subst hk;refine Ag DB (by simp) fun w0 I0=>?_;unfold C4;simp;refine Ae h (by simp) ?_;simp;exact An ⟨Ad (by simp),Ad rfl,trivial⟩
theorem bu {e:E} {t u:T} {b:Bool} (hk:e.kind=3) (h:G.Spec Tryz.prog 80 [eX e,tX t] (.tup [tX u,bv b])):G.Spec Tryz.prog 47 [eX e,tX t] (.tup [tX u,bv b]):=by
 obtain⟨k,o,n,ws,ks,l,os⟩:=e;have hk:k=3:=hk;subst hk;refine Ag DB (by simp) fun w0 I0=>?_;unfold C4;simp;refine Ae h (by simp) ?_;simp;exact An ⟨Ad (by simp),Ad rfl,trivial⟩
theorem YN {d:Nat} {list:Int}:∀ {os:List OP},(∀ o,o ∈ os→Gq d list o=true)→os.length≤Po os+D4 os
 |[],_=>Nat.zero_le _
 |o::os,h=>by
  have ih:=YN fun x hx=>h x (List.mem_cons_of_mem _ hx);simp only[Po,D4,List.length_cons];rcases Ty (h o (by simp)) with ⟨n,hn,rfl⟩ | ⟨l,hne,rfl⟩ | ⟨l,hne,rfl⟩ | ⟨e,_,rfl⟩
  ·have:UT (.mk 0 (n:Int) [] E0)=n:=by simp[UT,B5]
   omega
  ·have hl:=List.length_pos_iff.2 hne;have:UT (.mk 1 0 l E0)=l.length:=by simp[UT,B5]
   omega
  ·have hl:=List.length_pos_iff.2 hne;have:GN (.mk 2 0 l E0)=l.length:=by simp[GN]
   omega
  ·have:GN (.mk 3 0 [] e)=1:=by simp[GN]
   omega
theorem z6:∀ (f:Nat) (e:E) (t:T),EH f e→PT f t→bE e t:=by
 intro f;induction f with
 |zero=>
  intro e o ⟨_,_,_,d,hd,hr⟩;have:d=0:=by omega
  subst this;obtain⟨k,o,n,ws,ks,l,os⟩:=e;exact absurd rfl (rightE_iff.1 hr).d0
 |succ f ih=>
  intro e o ⟨we,hF,hL,d,hd,hr⟩ hP;have he:=wfE_iff.1 we;have hsub:=fun h1=>Hx hr h1;obtain⟨k,oo,n,ws,ks,l,os⟩:=e;have R:=rightE_iff.1 hr;have hd0:=R.d0;have hd1:d-1≤f:=by omega
  have hk0:=R.k0;have hk3:=R.k3;have O:=wfT_iff.1 hP.1;by_cases k0:k=0
  ·subst k0;obtain⟨rfl,rfl⟩:=R.one (by decide);obtain⟨rfl,rfl⟩:=R.two (by decide);obtain⟨rfl,rfl⟩:=R.three (by decide);refine⟨o,hP.1,?_⟩;rw[HT,Et,if_pos rfl];refine Ag DB (by simp) fun w0 I0=>?_;unfold C4;simp;exact An ⟨Ad (by simp),Ad rfl,trivial⟩
  by_cases k1:k=1
  ·subst k1;obtain⟨rfl,rfl⟩:=R.two (by decide);obtain⟨rfl,rfl⟩:=R.three (by decide);have E1:=Jq (t:=oo) (u:=o) he.o hP.1;refine⟨n,he.n,?_⟩;have hb:(GY (.mk 1 oo n [] [] 0 []) o).isSome=G7 oo o:=by
    rw[HT,Et,if_neg (by decide),if_pos rfl];cases G7 oo o<;>rfl
   rw[hb];refine Ag DB (by simp) fun w0 I0=>?_;unfold C4;simp;refine Ae E1 (by simp) ?_;simp;exact An ⟨Ad (by simp),Ad rfl,trivial⟩
  obtain⟨rfl,rfl⟩:=R.one k1;have s1:=hP.2.2.1;have s2:=hP.2.2.2.1;by_cases k2:k=2
  ·subst k2;obtain⟨rfl,rfl⟩:=R.three (by decide);have wl:ws.length*32≤140737488355328:=he.wl;have kl:ks.length*208≤140737488355328:=he.kl;have kp:=Hu (by omega) R.kok;obtain⟨u,u1,u2⟩:=ZF hP.1 (ws:=ws) (ks:=ks) (by omega) (by omega) (by omega) (by omega) he.w R.wok R.kok (fun x hx=>ih x.e _ ⟨(he.ks x hx).2,hF.2.2.2 x hx,hL.2.2 x hx,d-1,hd1,(kp x hx).2⟩ (kN hP _));exact⟨u,u1,jJ rfl u2⟩
  ·have k3:k=3:=by omega
   subst k3;obtain⟨rfl,rfl⟩:=R.two (by decide);have hs:=(hsub (show ¬ (3:Int)=1 by decide)).2;have hll:os.length≤2200000:=by
    have hop:∀ z,z ∈ os→Hh z:=fun z hz=>(hs z hz).1.1;have la:=Kk os 0 0 hop (by omega) (by omega) (by omega) (by omega) R.len.1 R.len.2;have:=YN (rightOs_all.1 R.ook);omega
   obtain⟨u,u1,u2⟩:=XJ (l:=l) (os:=os) hP.1 hll (fun z hz t ht=>(he.os z hz).l t ht) (fun z hz=>(hs z hz).1.2) (rightOs_all.1 R.ook) (by omega) (fun z hz hz3 x hx=>ih z.e x ⟨(he.os z hz).e,(hF.2.2.1 z hz).2,hL.2.1 z hz,d-1,hd1,(hs z hz).2 hz3⟩ ⟨O.ks x hx,hP.2.1.2 x hx,hP.2.2.2.2 x hx⟩);exact⟨u,u1,bu rfl u2⟩
theorem ZX {f:Nat} {e:E} {t:T} (he:EH f e) (ht:PT f t) (h:GY e t=none):G.Spec Tryz.prog 27 [eX e,tX t] (.tup [tX T0,bv false]):=by
 obtain⟨u,u1,u2⟩:=z6 f e t he ht;rw[h] at u2;refine Ag Ns (by simp) fun w0 I0=>?_;unfold JD;simp;refine Ae u2 (by simp) ?_;simp[Aa];exact An ⟨AE ⟨Ad rfl,Ah,Ah,trivial⟩,Ad rfl,trivial⟩
def OX (f:Nat) (e:E) (x y:T):Prop:=Wn f e x y∧∃ d,BH d e=true
theorem Mc {f:Nat} {e:E} {x y:T} (h:OX f e x y):ZV e x:=by
 obtain⟨⟨h1,h2,h3,h4,_,_⟩,d,hd⟩:=h;have S:=(Mm e h2 d hd x h3).1;have e1:=fr f e x y h1;have e2:=OD h1;rw[e1] at S;refine⟨by rw[e2];exact B9 y h4,by rw[e2,Dp],?_⟩;rw[e2];exact S
theorem Qv {f:Nat} {at':Cy} {o:T} {p q:E} (hp:ZV p o) (hq:ZV q o) (wo:AD o) (h2:¬ (p.kind=2∧q.kind=2)) (h3:¬ (p.kind=3∧q.kind=3)) (hm:mg f at' o p q=R8 at' o p q):∃ u,kk f at' o p q u:=by
 have D1:=hp.2.2;have D2:=hq.2.2;by_cases k0:p.kind=0
 ·have e:mg f at' o p q=(D0 q o,[]):=by rw[hm,R8,if_pos k0]
  refine⟨D0 q o,hq.1,by rw[e,hq.2.1],fun _=>?_⟩;rw[e];refine Ag Cn (by simp) fun w0 I0=>?_;unfold BL;simp;refine Ae D1 (by simp) ?_;simp[Aa];refine Ae D2 (by simp) ?_;simp[Aa,k0];exact An ⟨Ad (by simp),Ah,trivial⟩
 by_cases q0:q.kind=0
 ·have e:mg f at' o p q=(D0 p o,[]):=by rw[hm,R8,if_neg k0,if_pos q0]
  refine⟨D0 p o,hp.1,by rw[e,hp.2.1],fun _=>?_⟩;rw[e];refine Ag Cn (by simp) fun w0 I0=>?_;unfold BL;simp;refine Ae D1 (by simp) ?_;simp[Aa];refine Ae D2 (by simp) ?_;simp[Aa,k0,q0];exact An ⟨Ad (by simp),Ah,trivial⟩
 have E:=II hp.1 hq.1 (B9 _ hp.1)
 -- the walk up to the comparison
 have walk:∀ {r:T} {cs:List Cf},(D0 p o=D0 q o→r=D0 p o∧cs=[])→(D0 p o ≠ D0 q o→r=o∧cs=[⟨at',Af o,D0 p o,D0 q o⟩])→G.Spec Tryz.prog 37 [A7 at',tX o,eX p,eX q] (.tup [tX r,G4 cs]):=fun {r cs} r1 r2=>by
  by_cases c:D0 p o=D0 q o
  ·obtain⟨rfl,rfl⟩:=r1 c;rw[eqT_iff.2 (by rw[c])] at E;refine Ag Cn (by simp) fun w0 I0=>?_;unfold BL;simp;refine Ae D1 (by simp) ?_;simp[Aa];refine Ae D2 (by simp) ?_;by_cases p2:p.kind=2
   ·have q2:¬ q.kind=2:=fun h=>h2 ⟨p2,h⟩;simp[Aa,p2,q0,q2];refine Ae E (by simp) ?_;simp[Aa];exact An ⟨Ad (by simp),Ah,trivial⟩
   ·by_cases p3:p.kind=3
    ·have q3:¬ q.kind=3:=fun h=>h3 ⟨p3,h⟩;simp[Aa,p3,q0,q3];refine Ae E (by simp) ?_;simp[Aa];exact An ⟨Ad (by simp),Ah,trivial⟩
    ·simp[Aa,k0,p2,p3,q0];refine Ae E (by simp) ?_;simp[Aa];exact An ⟨Ad (by simp),Ah,trivial⟩
  ·obtain⟨rfl,rfl⟩:=r2 c;have ef:G7 (D0 p r) (D0 q r)=false:=by
    cases h:G7 (D0 p r) (D0 q r) with
    |false=>rfl
    |true=>
     have:=eqT_iff.1 h;rw[hp.2.1,hq.2.1] at this;exact absurd this c
   rw[ef] at E;have CL:=GS (l:=at') wo hp.1 hq.1;rw[hp.2.1,hq.2.1] at CL;generalize (⟨at',Af r,D0 p r,D0 q r⟩:Cf)=cf at *;refine Ag Cn (by simp) fun w0 I0=>?_;unfold BL;simp;refine Ae D1 (by simp) ?_;simp[Aa];refine Ae D2 (by simp) ?_;by_cases p2:p.kind=2
   ·have q2:¬ q.kind=2:=fun h=>h2 ⟨p2,h⟩;simp[Aa,p2,q0,q2];refine Ae E (by simp) ?_;simp[Aa];refine Ae CL (by simp) ?_;simp[Aa];exact An ⟨Ad (by simp),Ah,trivial⟩
   ·by_cases p3:p.kind=3
    ·have q3:¬ q.kind=3:=fun h=>h3 ⟨p3,h⟩;simp[Aa,p3,q0,q3];refine Ae E (by simp) ?_;simp[Aa];refine Ae CL (by simp) ?_;simp[Aa];exact An ⟨Ad (by simp),Ah,trivial⟩
    ·simp[Aa,k0,p2,p3,q0];refine Ae E (by simp) ?_;simp[Aa];refine Ae CL (by simp) ?_;simp[Aa];exact An ⟨Ad (by simp),Ah,trivial⟩
 by_cases c:D0 p o=D0 q o
 ·have e:mg f at' o p q=(D0 p o,[]):=by rw[hm,R8,if_neg k0,if_neg q0,if_pos c]
  refine⟨D0 p o,hp.1,by rw[e,hp.2.1],fun _=>?_⟩;rw[e];exact walk (fun _=>⟨rfl,rfl⟩) (fun h=>absurd c h)
 ·have e:mg f at' o p q=(Af o,[⟨at',Af o,D0 p o,D0 q o⟩]):=by rw[hm,R8,if_neg k0,if_neg q0,if_neg c]
  refine⟨o,wo,by rw[e],fun _=>?_⟩;rw[e];exact walk (fun h=>absurd h c) (fun _=>⟨rfl,rfl⟩)
theorem Zw {at':Cy} {o:T} {p q:E} {u:T} {cs:List Cf} (ep:ZV p o) (eq:ZV q o) (hp:p.kind=2) (hq:q.kind=2) (S:G.Spec Tryz.prog 63 [A7 at',tX o,eX p,eX q] (.tup [tX u,G4 cs])):G.Spec Tryz.prog 37 [A7 at',tX o,eX p,eX q] (.tup [tX u,G4 cs]):=by
 have E1:=ep.2.2;have E2:=eq.2.2;obtain⟨kp,op,np,wp,ksp,lp,osp⟩:=p;obtain⟨kq,oq,nq,wq,ksq,lq,osq⟩:=q;have hp:kp=2:=hp;have hq:kq=2:=hq;subst hp;subst hq;refine Ag Cn (by simp) fun w0 I0=>?_;unfold BL;simp;refine Ae E1 (by simp) ?_;simp[Aa];refine Ae E2 (by simp) ?_;simp[Aa];refine Ae S (by simp) ?_;simp[Aa];exact An ⟨Ad (by simp),Ah,trivial⟩
theorem Xp {at':Cy} {o:T} {p q:E} {u:T} {cs:List Cf} (ep:ZV p o) (eq:ZV q o) (hp:p.kind=3) (hq:q.kind=3) (S:G.Spec Tryz.prog 64 [A7 at',tX o,eX p,eX q] (.tup [tX u,G4 cs])):G.Spec Tryz.prog 37 [A7 at',tX o,eX p,eX q] (.tup [tX u,G4 cs]):=by
 have E1:=ep.2.2;have E2:=eq.2.2;obtain⟨kp,op,np,wp,ksp,lp,osp⟩:=p;obtain⟨kq,oq,nq,wq,ksq,lq,osq⟩:=q;have hp:kp=3:=hp;have hq:kq=3:=hq;subst hp;subst hq;refine Ag Cn (by simp) fun w0 I0=>?_;unfold BL;simp;refine Ae E1 (by simp) ?_;simp[Aa];refine Ae E2 (by simp) ?_;simp[Aa];refine Ae S (by simp) ?_;simp[Aa];exact An ⟨Ad (by simp),Ah,trivial⟩
theorem Yy {R:E→T→T→Prop} {us:List U} {a b:List T} (h:LdU R us a b):us.length≤a.length+b.length:=by
 induction h<;>simp<;>omega
theorem Tj {R:E→T→T→Prop} {a b:List T} {p:Nat} {ks:List KE} (h:Vu R a b p ks):ks.length+p≤max p (max a.length b.length):=by
 induction h with
 |nil p h=>simp;omega
 |cons p i e ks hp h hi he hr _ ih=>
  rw[List.length_cons];omega
theorem vy:∀ (f:Nat) (p q:E) (o x y:T),OX f p o x→OX f q o y→∀ at':Cy,at'.length+f≤800000→∃ u,kk f at' o p q u:=by
 intro f;induction f with
 |zero=>
  intro p q o x y hp hq at' hat;have k1:p.kind=0∨p.kind=1:=by
   rcases hp.1.1 with ⟨rfl,_⟩ | ⟨_,_,rfl,_⟩
   ·exact .inl rfl
   ·exact .inr rfl
  exact Qv (Mc hp) (Mc hq) hp.1.2.2.1 (fun h=>by omega) (fun h=>by omega) rfl
 |succ f ih=>
  intro p q o x y hp hq at' hat;have D1:=Mc hp;have D2:=Mc hq;obtain⟨hp,dp,rp⟩:=hp;obtain⟨hq,dq,rq⟩:=hq;have wo:=hp.2.2.1;by_cases k2:p.kind=2∧q.kind=2
  ·obtain⟨hp1,hp2,hp3,hp4,hp5,hp6⟩:=hp;obtain⟨hq1,hq2,hq3,hq4,hq5,hq6⟩:=hq;rcases hp1 with h | ⟨ws,ks,rfl,h1,h2,h3,h4⟩ | ⟨os,rfl,h1,h2,hv,h3⟩
   ·rcases h with ⟨rfl,_⟩ | ⟨_,_,rfl,_⟩<;>exact absurd k2.1 (by simp)
   rotate_left
   ·exact absurd k2.1 (by simp)
   rcases hq1 with g | ⟨ws',ks',rfl,g1,g2,g3,g4⟩ | ⟨os',rfl,g1,g2,gv,g3⟩
   ·rcases g with ⟨rfl,_⟩ | ⟨_,_,rfl,_⟩<;>exact absurd k2.2 (by simp)
   rotate_left
   ·exact absurd k2.2 (by simp)
   have P:=wfE_iff.1 hp2;have Q:=wfE_iff.1 hq2;have lw:=PE h3;have lw':=PE g3;have lk:=Tj h4;have lk':=Tj g4;have s1:=hp5.1;have s2:=hp5.2.1;have s3:=hp6.1;have s4:=hp6.2.1;have s5:=hq6.1;have s6:=hq6.2.1;have RP:=(Hx rp (by simp)).1;have RQ:=(Hx rq (by simp)).1;have hk:∀ i:Nat,∃ u,kk f (at'++[(0,(i:Int))]) (o.kids.getD i T0) (CQ ks i) (CQ ks' i) u:=fun i=>by
    have a1:Ld f (CQ ks i) (o.kids.getD i T0) (x.kids.getD i T0):=Oa (fun x y h=>Hm (.inl ⟨rfl,h⟩)) h4 i (Nat.zero_le _);have a2:Ld f (CQ ks' i) (o.kids.getD i T0) (y.kids.getD i T0):=Oa (fun x y h=>Hm (.inl ⟨rfl,h⟩)) g4 i (Nat.zero_le _);have b1:∃ d,BH d (CQ ks i)=true:=Pj (P:=fun e=>∃ d,BH d e=true) ⟨64,Mq (by omega)⟩ (fun x h=>⟨_,RP x h⟩) i;have b2:∃ d,BH d (CQ ks' i)=true:=Pj (P:=fun e=>∃ d,BH d e=true) ⟨64,Mq (by omega)⟩ (fun x h=>⟨_,RQ x h⟩) i;exact ih _ _ _ _ _ ⟨⟨a1,Pj Iu (fun x h=>(P.ks x h).2) i,DJ hp3 i,DJ hp4 i,Ja hp5 i,Ja hp6 i⟩,b1⟩ ⟨⟨a2,Pj Iu (fun x h=>(Q.ks x h).2) i,DJ hp3 i,DJ hq4 i,Ja hp5 i,Ja hq6 i⟩,b2⟩ _ (by rw[List.length_append];simp;omega)
   obtain⟨u,u1,u2,u3⟩:=UB (f:=f) (at':=at') (by omega) hp3 (p:=.mk 2 T0 T0 ws ks 0 []) (q:=.mk 2 T0 T0 ws' ks' 0 []) h3 g3 h4 g4 (by omega) (by omega) (by omega) ⟨by show ws.length≤_;omega,by show ks.length≤_;omega⟩ ⟨by show ws'.length≤_;omega,by show ks'.length≤_;omega⟩ hk;have em:mg (f+1) at' o (.mk 2 T0 T0 ws ks 0 []) (.mk 2 T0 T0 ws' ks' 0 [])=Uq (mg f) at' o (.mk 2 T0 T0 ws ks 0 []) (.mk 2 T0 T0 ws' ks' 0 []):=by rw[mg,if_pos ⟨rfl,rfl⟩]
   refine⟨u,u1,by rw[em];exact u2,fun hC=>?_⟩;rw[em] at hC ⊢;exact Zw D1 D2 rfl rfl (u3 hC)
  ·by_cases k3:p.kind=3∧q.kind=3
   ·obtain⟨hp1,hp2,hp3,hp4,hp5,hp6⟩:=hp;obtain⟨hq1,hq2,hq3,hq4,hq5,hq6⟩:=hq;rcases hp1 with h | ⟨ws,ks,rfl,h1,h2,h3,h4⟩ | ⟨os,rfl,h1,h2,hv,h3⟩
    ·rcases h with ⟨rfl,_⟩ | ⟨_,_,rfl,_⟩<;>exact absurd k3.1 (by simp)
    ·exact absurd k3.1 (by simp)
    rcases hq1 with g | ⟨ws',ks',rfl,g1,g2,g3,g4⟩ | ⟨os',rfl,g1,g2,gv,g3⟩
    ·rcases g with ⟨rfl,_⟩ | ⟨_,_,rfl,_⟩<;>exact absurd k3.2 (by simp)
    ·exact absurd k3.2 (by simp)
    have P:=wfE_iff.1 hp2;have Q:=wfE_iff.1 hq2;have O:=wfT_iff.1 hp3;have X:=wfT_iff.1 hp4;have Y:=wfT_iff.1 hq4;have s2:=hp5.2.1;have s4:=hp6.2.1;have s6:=hq6.2.1;have RP:=(Hx rp (by simp)).2;have RQ:=(Hx rq (by simp)).2;obtain⟨f1,f2,f3⟩:=K3 h3;obtain⟨e1,e2,e3⟩:=K3 g3;have hu:LdU (OX f) (Em os) o.kids x.kids:=TV (Sb h3 fun oo a b ho hk ha hb r=>⟨⟨r,(P.os oo ho).e,O.ks a ha,X.ks b hb,hp5.2.2 a ha,hp6.2.2 b hb⟩,_,(RP oo ho).2 hk⟩);have hv2:LdU (OX f) (Em os') o.kids y.kids:=TV (Sb g3 fun oo a b ho hk ha hb r=>⟨⟨r,(Q.os oo ho).e,O.ks a ha,Y.ks b hb,hp5.2.2 a ha,hq6.2.2 b hb⟩,_,(RQ oo ho).2 hk⟩);have c1:=Yy hu;have c2:=Yy hv2;by_cases hl:(Hi (mg f) at' o.kind o.kids (Em os) (Em os') 0).2.length≤100000000000
    ·obtain⟨l,l1,l2,l3,l4⟩:=RE (f:=f) (at':=at') (by omega) hp3 s2 (R:=OX f) (fun k hk=>⟨TW (O.ks k hk) (hp5.2.2 k hk),64,Mq (by omega)⟩) (fun e k x h=>Mc h) (fun n k p q x y h1 h2=>ih _ _ _ _ _ h1 h2 _ (by rw[List.length_append];simp;omega)) (p:=.mk 3 T0 T0 [] [] o.kind os) (q:=.mk 3 T0 T0 [] [] o.kind os') hu hv2 (by omega) (by omega) (YH fun oo ho=>⟨(P.os oo ho).l,(P.os oo ho).e⟩) (YH fun oo ho=>⟨(Q.os oo ho).l,(Q.os oo ho).e⟩) (by show os.length≤_;omega) (by show os'.length≤_;omega) (fun oo ho=>(RP oo ho).1) (fun oo ho=>(RQ oo ho).1) (by show(Em os).length≤_;omega) (by show(Em os').length≤_;omega) hl;have em:mg (f+1) at' o (.mk 3 T0 T0 [] [] o.kind os) (.mk 3 T0 T0 [] [] o.kind os')=(Af (.mk o.kind [] (Hi (mg f) at' o.kind o.kids (Em os) (Em os') 0).1),(Hi (mg f) at' o.kind o.kids (Em os) (Em os') 0).2):=by rw[mg,if_neg (by simp),if_pos ⟨rfl,rfl⟩];rfl
     refine⟨.mk o.kind [] l,wfT_iff.2 ⟨O.k,by simp,by simp,by show l.length*56≤_;omega,l2⟩,?_,fun hC=>?_⟩
     ·rw[em];refine(Jb (by omega) (by omega)).2 ⟨rfl,?_⟩;have l1':l.map Af=(Hi (mg f) at' o.kind o.kids (Em os) (Em os') 0).1:=l1;rw[← l1',Sw]
     ·rw[em];exact Xp D1 D2 rfl rfl l4
    ·obtain⟨u,u1,u2,_⟩:=dL (f+1) _ _ _ _ _ ⟨.inr (.inr ⟨os,rfl,h1,h2,hv,h3⟩),hp2,hp3,hp4,hp5,hp6⟩ ⟨.inr (.inr ⟨os',rfl,g1,g2,gv,g3⟩),hq2,hq3,hq4,hq5,hq6⟩ at' hat;refine⟨u,u1,u2,fun hC=>absurd ?_ hl⟩;have em:mg (f+1) at' o (.mk 3 T0 T0 [] [] o.kind os) (.mk 3 T0 T0 [] [] o.kind os')=(Af (.mk o.kind [] (Hi (mg f) at' o.kind o.kids (Em os) (Em os') 0).1),(Hi (mg f) at' o.kind o.kids (Em os) (Em os') 0).2):=by rw[mg,if_neg (by simp),if_pos ⟨rfl,rfl⟩];rfl
     rw[em] at hC;exact hC
   ·have hm:mg (f+1) at' o p q=R8 at' o p q:=by rw[mg,if_neg k2,if_neg k3]
    exact Qv D1 D2 wo k2 k3 hm
theorem Rx {f:Nat} {p q:E} {o x y:T} (hp:OX f p o x) (hq:OX f q o y) (hf:f≤800000) (hc:(mg f [] o p q).2.length≤100000000000):G.Spec Tryz.prog 15 [tX o,eX p,eX q] (.tup [tX (mg f [] o p q).1,G4 (mg f [] o p q).2,bv true]):=by
 obtain⟨u,u1,u2,u3⟩:=vy f p q o x y hp hq [] (by simpa using hf);have D1:=(Mc hp).2.2;have D2:=(Mc hq).2.2;have S:G.Spec Tryz.prog 37 [.sl true [],tX o,eX p,eX q] (.tup [tX u,G4 (mg f [] o p q).2]):=(u3 hc).soft (by
  show [A.sl false [],A.soft (tX o),.agg (A.softL (eL p)),.agg (A.softL (eL q))]=_;rw[La,JO,JO];rfl)
 have N:=Fi u u1;rw[u2] at N;generalize mg f [] o p q=M at *;refine Ag H8 (by simp) fun w0 I0=>?_;unfold Fm;simp;refine Ae D1 (by simp) ?_;simp[Aa];refine Ae D2 (by simp) ?_;simp[Aa];refine Ae S (by simp) ?_;simp[Aa];refine Ae N (by simp) ?_;simp[Aa];exact An ⟨Ad (by simp),Ah,Ad rfl,trivial⟩
theorem V1 (t:T) (d:Nat) (n:Int) (h:0≤Au d n t):Au d n t≤n-1:=by
 obtain⟨k,w,l⟩:=t;rw[JC] at h ⊢;by_cases c:d=0∨n-1-w.length<0
 ·rw[if_pos c] at h;omega
 ·rw[if_neg c] at h ⊢;have:=FN l (d-1) _ h;omega
theorem MG:∀ (l:List T) (d:Nat) (n:Int),0≤Ar d n l→Ar d n l≤n-l.length
 |[],d,n,h=>by rw[NI];simp
 |t::l,d,n,h=>by
  rw[C9] at h ⊢;by_cases c:n<0
  ·rw[if_pos c] at h;omega
  ·rw[if_neg c] at h ⊢;have h1:=MG l d _ h;have h2:=V1 t d n (FN l d _ h).2.1;rw[List.length_cons];omega
theorem TC (d:Nat) (kl:List KE) {m:Int} (hm:m<0):Cw d m kl=m:=by
 cases kl with
 |nil=>rw[Ju]
 |cons z kl=>rw[Fv,if_pos hm]
theorem Jy (d:Nat) (kl:List OP) {m:Int} (hm:m<0):Dr d m kl=m:=by
 cases kl with
 |nil=>rw[HU]
 |cons z kl=>rw[DA,if_pos hm]
theorem ZK:∀ (e:E) (d:Nat) (n:Int),0≤CS d n e→CS d n e≤n-Fe e:=by
 refine E.ind fun k o nn ws ks l os ihK ihO d n h=>?_;have kids:∀ (kl:List KE) (d:Nat) (n:Int),(∀ x,x ∈ kl→∀ (d:Nat) (n:Int),0≤CS d n x.e→CS d n x.e≤n-Fe x.e)→0≤Cw d n kl→Cw d n kl≤n-dR kl:=fun kl=>by
  induction kl with
  |nil=>intro d n _ h;rw[Ju];simp
  |cons y kl ih=>
   intro d n hI h;rw[Fv] at h ⊢;by_cases c:n<0
   ·rw[if_pos c] at h;omega
   ·rw[if_neg c] at h ⊢;by_cases c2:CS d n y.e<0
    ·rw[TC d kl c2] at h;omega
    ·have h1:=hI y (by simp) d n (by omega);have h2:=ih d _ (fun x hx=>hI x (List.mem_cons_of_mem _ hx)) h;rw[Va];omega
 have opsL:∀ (ol:List OP) (d:Nat) (n:Int),(∀ x,x ∈ ol→∀ (d:Nat) (n:Int),0≤CS d n x.e→CS d n x.e≤n-Fe x.e)→0≤Dr d n ol→Dr d n ol≤n-gH ol:=fun ol=>by
  induction ol with
  |nil=>intro d n _ h;rw[HU];simp
  |cons y ol ih=>
   intro d n hI h;rw[DA] at h ⊢;by_cases c:n<0
   ·rw[if_pos c] at h;omega
   ·rw[if_neg c] at h ⊢;by_cases c1:Ar 80 n y.l<0
    ·rw[if_pos c1,Jy d ol c1] at h;omega
    ·rw[if_neg c1] at h ⊢;have s1:=MG y.l 80 n (by omega);by_cases c2:CS d (Ar 80 n y.l) y.e<0
     ·rw[Jy d ol c2] at h;omega
     ·have h1:=hI y (by simp) d (Ar 80 n y.l) (by omega);have h2:=ih d _ (fun x hx=>hI x (List.mem_cons_of_mem _ hx)) h;rw[Wh];split
      ·omega
      ·split<;>omega
 rw[NP] at h ⊢;by_cases c:d=0∨n-1-ws.length-os.length<0
 ·rw[if_pos c] at h;omega
 rw[if_neg c] at h ⊢;by_cases c2:Cw (d-1) (Jc n ws.length os.length o nn) ks<0
 ·rw[Jy _ os c2] at h;omega
 have l2:Jc n ws.length os.length o nn≤n-1-ws.length-os.length:=by
  rw[Ks];have r1:=(Bn o 80 (n-1-ws.length-os.length)).2 (by omega);by_cases q:Au 80 (n-1-ws.length-os.length) o<0
  ·rw[if_pos q];exact r1
  ·rw[if_neg q];have r2:=(Bn nn 80 (Au 80 (n-1-ws.length-os.length) o)).2 (by omega);omega
 have k1:=kids ks (d-1) _ (fun x hx=>ihK x hx) (by omega:0≤Cw (d-1) (Jc n ws.length os.length o nn) ks);have o1:=opsL os (d-1) _ (fun x hx=>ihO x hx) h;rw[Yt];omega
abbrev YC (a b:Int):E:=.mk 2 T0 T0 [Ta 0 a b] [] 0 []
theorem fT {a b:Int} (ha:AA a) (hb:AA b) (a0:a ≠ 0) (b0:b ≠ 0) (hne:a ≠ b) (hu:Ds a b ≠ 0):G.Spec Tryz.prog 26 [tX (AL a),tX (AL b),iv 9] (eX (YC a b)):=by
 have wa:=Cb ha;have wb:=Cb hb;have Z:G.Spec Tryz.prog 46 [tX T0,tX T0,iv 9] (eX E0):=by
  have:=V4 (a:=T0) (b:=T0) Df Df (X:=E0) (Y:=E0) (most:=9) (fun h=>absurd h (by decide)) (fun _ h=>absurd h (by decide));rw[if_pos (eqT_iff.2 rfl)] at this;exact this
 have S:=Qa (one:=fun _ _=>E0) (a:=AL a) (b:=AL b) (most:=9) wa wb (by simp[AL]) (by simp[AL]) (by simp[AL]) (by simp[AL]) (fun i=>by
  have e1:(AL a).kids.getD i T0=T0:=rfl;have e2:(AL b).kids.getD i T0=T0:=rfl;rw[e1,e2];exact Z)
 have hs:n8 (fun _ _=>E0) (AL a) (AL b)=YC a b:=by
  unfold n8;simp[KL,F7,AL,hu,List.range_succ]
 rw[hs] at S;have he:G7 (AL a) (AL b)=false:=by
  rw[Bool.eq_false_iff];intro h;rw[eqT_iff,ED a0,ED b0] at h;exact hne (by simpa[AL] using h)
 have O:=V4 (a:=AL a) (b:=AL b) wa wb (X:=YC a b) (Y:=E0) (most:=9) (fun _ _=>S) (fun _ h=>absurd h (by show ¬ (2:Int)≤1;decide));rw[he,if_neg (by decide),if_pos ⟨rfl,rfl⟩] at O;have N:=Xr (YC a b) (by rw[YC,jc];simp[XQ,dy]);have hn:Uo (YC a b)=YC a b:=by rw[YC,Wr];simp
 rw[hn] at N;have n1:=CB (AL a) wa;have n2:=CB (AL b) wb;rw[ED a0] at n1;rw[ED b0] at n2;generalize YC a b=e at *;refine Ag T7 (by simp) fun w0 I0=>?_;unfold MV;simp;refine Ae n1 (by simp) ?_;simp;refine Ae n2 (by simp) ?_;simp;refine Ae O (by simp) ?_;simp;refine Ae N (by simp) ?_;simp;exact Ad (by simp)
theorem j7 {a b:Int} (ha:AA a) (hb:AA b) (hu:Ds a b ≠ 0):Wn 1 (YC a b) (AL a) (AL b):=by
 have L:=X6 (a:=AL a) (b:=AL b) (wfT_iff.1 (Cb ha)).w (wfT_iff.1 (Cb hb)).w 1 0 rfl;have hl:((List.range' 0 1).filterMap fun i=>if Ds ((AL a).words.getD i 0) ((AL b).words.getD i 0)=0 then none else some (Ta i ((AL a).words.getD i 0) ((AL b).words.getD i 0)))=[Ta 0 a b]:=by
  simp[List.range',AL,hu]
 rw[hl] at L;have hin:=Tr a b;have sq:∀ w:Int,Sq 1 (AL w):=fun w=>⟨by simp[AL],by simp[AL],fun k hk=>by simp[AL] at hk⟩;refine⟨.inr (.inl ⟨_,_,rfl,rfl,rfl,L,.nil 0 fun i _=>rfl⟩),wfE_iff.2 ?_,Cb ha,Cb hb,sq a,sq b⟩;exact⟨by simp[Db],by simp[Db],Df,Df,fun x hx=>by
  rw[List.mem_singleton.1 hx];exact⟨by simp[Db,Ta],⟨hin.1,by have:=hin.2;show Ds a b<256;omega⟩,BX _ _ _,BX _ _ _⟩,by simp,by simp,by simp,fun x hx=>by simp at hx,fun x hx=>by simp at hx⟩
theorem rZ:mg 1 [] (AL 1) (YC 1 2) (YC 1 3)=(AL 1,[⟨[(1,0)],AL 1,AL 2,AL 3⟩]):=by
 have c1:Lz (Ta 0 1 2) (Ta 0 1 3)=true:=by decide
 have m2:AM 1 (Ta 0 1 2).new (Ta 0 1 2).mask=2:=by decide
 have m3:AM 1 (Ta 0 1 3).new (Ta 0 1 3).mask=3:=by decide
 rw[mg,if_pos ⟨rfl,rfl⟩];have t1:Bu (Bu (AL 1).words.length [Ta 0 1 2]) [Ta 0 1 3]=1:=by decide
 have w2:B7 [Ta 0 1 2] 0=Ta 0 1 2:=Io rfl;have w3:B7 [Ta 0 1 3] 0=Ta 0 1 3:=Io rfl;unfold Uq;simp only[E.words_mk,E.kids_mk,t1];have r1:List.range 1=[0]:=rfl;have k0:Bf (Bf (AL 1).kids.length []) []=0:=rfl;have r0:List.range 0=[]:=rfl;have o1:(AL 1).words.getD 0 0=1:=rfl;rw[k0,r0,r1];simp only[List.map_cons,List.map_nil,List.flatMap_cons,List.flatMap_nil,List.append_nil,w2,w3,o1,Gb,IX,c1,if_true,m2,m3,List.nil_append];rw[ED (by decide),ED (by decide),ED (by decide)];rfl
theorem EV:G.Spec Tryz.prog 13 [] (bv true):=by
 have u:∀ w:Int,0≤w→w<100→AA w:=fun w h1 h2=>⟨by omega,by omega⟩;have D1:=fT (a:=1) (b:=2) (u 1 (by decide) (by decide)) (u 2 (by decide) (by decide)) (by decide) (by decide) (by decide) (by decide);have D2:=fT (a:=1) (b:=3) (u 1 (by decide) (by decide)) (u 3 (by decide) (by decide)) (by decide) (by decide) (by decide) (by decide);have N:=CB (AL 1) (Cb (u 1 (by decide) (by decide)));rw[ED (by decide)] at N;have M:=OU (j7 (a:=1) (b:=2) (u 1 (by decide) (by decide)) (u 2 (by decide) (by decide)) (by decide)) (j7 (a:=1) (b:=3) (u 1 (by decide) (by decide)) (u 3 (by decide) (by decide)) (by decide)) (by decide) (by rw[rZ];decide);rw[rZ] at M;have T:G.Spec Tryz.prog 19 [tX (AL 1),tX (AL 2),tX (AL 3),iv 9] (.tup [tX (AL 1),G4 [⟨[(1,0)],AL 1,AL 2,AL 3⟩]]):=by
  generalize YC 1 2=p at *;generalize YC 1 3=q at *;generalize ([⟨[(1,0)],AL 1,AL 2,AL 3⟩]:List Cf)=cs at *;generalize AL 1=o at *;refine Ag RN (by simp) fun w0 I0=>?_;unfold LI;simp;refine Ae N (by simp) ?_;simp;refine Ae D1 (by simp) ?_;simp;refine Ae D2 (by simp) ?_;simp;refine Ae M (by simp) ?_;simp[Aa];exact An ⟨Ad (by simp),Ah,trivial⟩
 have O1:=Me 1;have O2:=Me 2;have O3:=Me 3;have S:=fun w (h0:(0:Int)≤w) (h1:w<100)=>Fu (AL w) (Cb ⟨by omega,by omega⟩) (AL w);have S1:=S 1 (by decide) (by decide);have S2:=S 2 (by decide) (by decide);have S3:=S 3 (by decide) (by decide);rw[show Hz (AL 1) (AL 1)=true from sameB_iff.2 rfl] at S1;rw[show Hz (AL 2) (AL 2)=true from sameB_iff.2 rfl] at S2;rw[show Hz (AL 3) (AL 3)=true from sameB_iff.2 rfl] at S3;refine Ag L7 (by simp) fun w0 I0=>?_;unfold HF;simp;refine Ae O1 (by simp) ?_;simp;refine Ae O2 (by simp) ?_;simp;refine Ae O3 (by simp) ?_;simp;refine Ae T (by simp) ?_;simp[Aa];refine Ae O1 (by simp) ?_;simp;refine Ae S1 (by simp) ?_;simp;refine AQ rfl (fun _=>O2) (fun _=>by simp) (by simp) ?_;simp;refine AQ rfl (fun _=>S2) (fun _=>by simp) (by simp) ?_;simp;refine AQ rfl (fun _=>O3) (fun _=>by simp) (by simp) ?_;simp;refine AQ rfl (fun _=>S3) (fun _=>by simp) (by simp) ?_;simp;refine AQ rfl (fun _=>O1) (fun _=>by simp) (by simp) ?_;simp;refine AQ rfl (fun _=>S1) (fun _=>by simp) (by simp) ?_;simp;exact Ad rfl
end Go.Proofs.YtndnlknocdangaaGreat
namespace Go.Proofs.YtndnlknocdangaaGreat
set_option maxRecDepth 20000
open Go Go.G Go.Proofs
@[simp] theorem cj:Ak Tryz.prog 65 0=some 0:=by kernel_rfl
@[simp] theorem dC:Ak Tryz.prog 65 1=some 1:=by kernel_rfl
def Fy:CC:=sR [bX 3 25 0 [0],bX 4 30 1 [1],bX 5 30 2 [2],aB 6 false] [3,4,5] (sQ [lO 13 25 3,cA 14 10 13 25,oO 15 (.unOp .not 4 (xT 14)),mO 16 15,lG 17 25 3 16 false,oG 18 (cL 11 #[(xT 17),(nI 64)] #[25,3]) 16 false,oG 19 (.unOp .not 4 (xT 18)) 16 false,pT 20 16 19,mO 21 20,fG 22 25 3 0 21 false,lG 23 3 22 21 false,oG 24 (.binOp .eql 3 (xT 23) (nI 10) 3) 21 false,pT 25 21 24,mO 26 25,lG 27 30 4 26 false,oG 28 (cL 12 #[(xT 27)] #[30]) 26 false,oG 29 (.unOp .not 4 (xT 28)) 26 false,pT 30 26 29,mO 31 30,lG 32 30 5 31 false,oG 33 (cL 12 #[(xT 32)] #[30]) 31 false,oG 34 (.unOp .not 4 (xT 33)) 31 false,pT 35 31 34] [3,4,5,35] (cD 35 (sR [oO 36 (cL 13 #[] #[]),aO 6 36] [6] (.ret)) (.skip)) [3,4,5] (sR [lO 38 25 3,lO 39 30 4,lO 40 30 5,cE 41 14 38 39 40 25 30 30,mO 37 41,xO 42 37 0,xO 43 37 1,xO 44 37 2,aL 7 25 [3],sT 25 7 42,aO 8 43,aO 9 44] [3,4,5,7,8,9] (sR [lO 46 25 3,lO 47 30 4,lO 48 30 5,cE 49 15 46 47 48 25 30 30,mO 45 49,xO 50 45 0,xO 51 45 1,xO 52 45 2,aL 10 25 [4],sT 25 10 50,aO 11 51,aO 12 52] [7,8,9,10,11,12] (sR [mO 53 9,mO 54 12,bB .eql 55 4 53 54 4,mO 56 55,lG 57 25 7 56 true,lG 58 25 10 56 true,oG 59 (cL 16 #[(xT 57),(xT 58)] #[25,25]) 56 true,pF 60 56 59,mO 61 60,mG 62 8 61 true,mG 63 11 61 true,oG 64 (cL 17 #[(xT 62),(xT 63),(nB false)] #[35,35,4]) 61 true,pF 65 61 64,mO 66 65,oG 67 (cL 13 #[] #[]) 66 true,pF 68 66 67,aO 6 68] [6] (.ret)))))
theorem I7:Ca Tryz.prog 3 69 [(.tmp 6)] Fy:=AJ Tryz.func3
end Go.Proofs.YtndnlknocdangaaGreat
namespace Go.Proofs.YtndnlknocdangaaGreat
open Go Go.G Go.Proofs Go.PL
theorem Yo {e:E} (we:JZ e) (g:Pm e=true):EH 64 e∧(Fe e:Int)≤3000:=by
 unfold Pm n6 at g;simp only[Bool.and_eq_true] at g;obtain⟨⟨g1,g2⟩,g3⟩:=g;have g1:=of_decide_eq_true g1;have h1:=(dg e 80 3000 (by omega) g1).2.2;have h2:=ZK e 80 3000 g1;exact⟨⟨we,h1 64,T8 64 e g3,64,Ek _,g2⟩,by omega⟩
theorem WK {e:E} {t:T} (we:JZ e) {d:Nat} (hr:BH d e=true) (wt:AD t) (h:GY e t=none):G.Spec Tryz.prog 36 [eX e,tX t] (.tup [tX T0,bv false]):=by
 have:=(Mm e we d hr t wt).1;rw[h] at this;exact this
theorem Tc {o a b:T} {p q:E} {c d:Bool} (A1:G.Spec Tryz.prog 27 [eX p,tX o] (.tup [tX a,bv c])) (A2:G.Spec Tryz.prog 27 [eX q,tX o] (.tup [tX b,bv d])) (h:(c&&d)=false):G.Spec Tryz.prog 14 [tX o,eX p,eX q] (.tup [tX T0,G4 [],bv false]):=by
 refine Ag LF (by simp) fun w0 I0=>?_;unfold IK;simp;refine Ae A1 (by simp) ?_;simp[Aa];refine Ae A2 (by simp) ?_;cases c with
 |false=>
  simp[Aa];exact An ⟨AE ⟨Ad rfl,Ah,Ah,trivial⟩,Ah,Ad rfl,trivial⟩
 |true=>
  cases d with
  |true=>cases h
  |false=>
   simp[Aa];exact An ⟨AE ⟨Ad rfl,Ah,Ah,trivial⟩,Ah,Ad rfl,trivial⟩
theorem SJ {o a b:T} {p q:E} {c d:Bool} (A1:G.Spec Tryz.prog 36 [eX p,tX o] (.tup [tX a,bv c])) (A2:G.Spec Tryz.prog 36 [eX q,tX o] (.tup [tX b,bv d])) (h:(c&&d)=false):G.Spec Tryz.prog 15 [tX o,eX p,eX q] (.tup [tX T0,G4 [],bv false]):=by
 refine Ag H8 (by simp) fun w0 I0=>?_;unfold Fm;simp;refine Ae A1 (by simp) ?_;simp[Aa];refine Ae A2 (by simp) ?_;cases c with
 |false=>
  simp[Aa];exact An ⟨AE ⟨Ad rfl,Ah,Ah,trivial⟩,Ah,Ad rfl,trivial⟩
 |true=>
  cases d with
  |true=>cases h
  |false=>
   simp[Aa];exact An ⟨AE ⟨Ad rfl,Ah,Ah,trivial⟩,Ah,Ad rfl,trivial⟩
theorem Xi {o:T} {p q:E} (wo:AD o) (wp:JZ p) (wq:JZ q) (fo:oI o=true) (ro:BV 64 o=true) (gp:Pm p=true) (gq:Pm q=true) :
  ∃ (t:T) (cs:List Cf) (b:Bool),AD t∧(∀ c,c ∈ cs→gf c)∧(∀ c,c ∈ cs→c.path.length≤10000000000000)∧cs.length≤10000000000000∧G.Spec Tryz.prog 14 [tX o,eX p,eX q] (.tup [tX t,G4 cs,bv b])∧G.Spec Tryz.prog 15 [tX o,eX p,eX q] (.tup [tX t,G4 cs,bv b]):=by
 obtain⟨hp,cp⟩:=Yo wp gp;obtain⟨hq,cq⟩:=Yo wq gq;obtain⟨dp,_,rp⟩:=hp.2.2.2;obtain⟨dq,_,rq⟩:=hq.2.2.2;have fo2:0≤Au 80 3000 o:=of_decide_eq_true (show decide (0≤Au 80 3000 o)=true from fo);have po:DQ o≤3000:=by have:=Gx o 80 3000 fo2;omega
 have ho:PT 64 o:=QK wo ro (by omega);have no:∀ {e:E},JZ e→EH 64 e→∀ {d:Nat},BH d e=true→∃ a b,G.Spec Tryz.prog 27 [eX e,tX o] (.tup [tX a,bv (GY e o).isSome])∧G.Spec Tryz.prog 36 [eX e,tX o] (.tup [tX b,bv (GY e o).isSome]):=fun {e} we he d hr=>by
  cases hv:GY e o with
  |none=>exact⟨T0,T0,ZX he ho hv,WK we hr wo hv⟩
  |some v=>
   obtain⟨y,y1,y2,y3⟩:=Q1 64 e o v he ho hv;obtain⟨u,u1,u2⟩:=YJ 64 e o y we wo y3.1 (Nh 64 o ho.2.2) (Nh 64 y y3.2.2) y1;have:=(Mm e we d hr o wo).1;rw[hv] at this;exact⟨_,v,Ix u1,this⟩
 cases hvp:GY p o with
 |none=>
  obtain⟨a,b,s1,s2⟩:=no wp hp rp;obtain⟨a',b',s3,s4⟩:=no wq hq rq;have h:((GY p o).isSome&&(GY q o).isSome)=false:=by rw[hvp];rfl
  exact⟨T0,[],false,Df,fun c hc=>by simp at hc,fun c hc=>by simp at hc,by simp,Tc s1 s3 h,SJ s2 s4 h⟩
 |some x=>
  cases hvq:GY q o with
  |none=>
   obtain⟨a,b,s1,s2⟩:=no wp hp rp;obtain⟨a',b',s3,s4⟩:=no wq hq rq;have h:((GY p o).isSome&&(GY q o).isSome)=false:=by rw[hvq];simp
   exact⟨T0,[],false,Df,fun c hc=>by simp at hc,fun c hc=>by simp at hc,by simp,Tc s1 s3 h,SJ s2 s4 h⟩
  |some y=>
   obtain⟨x',x1,x2,x3⟩:=Q1 64 p o x hp ho hvp;obtain⟨y',y1,y2,y3⟩:=Q1 64 q o y hq ho hvq;have l1:Wn 64 p o x':=⟨x1,wp,wo,x3.1,ho.2.2,x3.2.2⟩;have l2:Wn 64 q o y':=⟨y1,wq,wo,y3.1,ho.2.2,y3.2.2⟩;have hc:=vW 64 [] o p q;have M:=OU l1 l2 (by omega) (by omega);have N:=Rx ⟨l1,dp,rp⟩ ⟨l2,dq,rq⟩ (by omega) (by omega);obtain⟨u,u1,u2,_⟩:=dL 64 _ _ _ _ _ l1 l2 [] (by simp);refine⟨_,_,true,by rw[← u2];exact B9 u u1,Aaa 64 [] _ _ _ _ _ l1 l2,fun c hc=>?_,by omega,M,N⟩;have:=jE 64 [] _ _ _ c hc;simp at this;omega
theorem Pv {o:T} {p q:E} (wo:AD o) (wp:JZ p) (wq:JZ q):G.Spec Tryz.prog 3 [tX o,eX p,eX q] (bv true):=by
 have F:=dJ wo;have R:=IE o wo 64 (by omega);have G1:=Sk wp;have G2:=Sk wq;refine Ag I7 (by simp) fun w0 I0=>?_;unfold Fy;cases hf:oI o with
 |false=>
  rw[hf] at F;simp;refine Ae F (by simp) ?_;simp;refine Ao (q:=true) rfl (fun h=>by cases h) (fun h=>by cases h) (L:=[]) (x:=.any) rfl ?_;simp;refine Ao (q:=true) rfl (fun h=>by cases h) (fun h=>by cases h) (L:=[]) (x:=.any) rfl ?_;simp;refine Ao (q:=true) rfl (fun h=>by cases h) (fun h=>by cases h) (L:=[]) (x:=.any) rfl ?_;simp;refine Ae EV (by simp) ?_;simp;exact Ad rfl
 |true=>
 rw[hf] at F;cases hr:BV 64 o with
 |false=>
  rw[hr] at R;simp;refine Ae F (by simp) ?_;simp;refine Ao rfl (fun _=>R) (fun _=>by simp) (by simp) ?_;simp;refine Ao (q:=true) rfl (fun h=>by cases h) (fun h=>by cases h) (L:=[]) (x:=.any) rfl ?_;simp;refine Ao (q:=true) rfl (fun h=>by cases h) (fun h=>by cases h) (L:=[]) (x:=.any) rfl ?_;simp;refine Ae EV (by simp) ?_;simp;exact Ad rfl
 |true=>
 rw[hr] at R;by_cases hk:o.kind=10
 ·simp;refine Ae F (by simp) ?_;simp;refine Ao rfl (fun _=>R) (fun _=>by simp) (by simp) ?_;simp[hk];refine Ao (q:=true) rfl (fun h=>by cases h) (fun h=>by cases h) (L:=[]) (x:=.any) rfl ?_;simp;refine Ao (q:=true) rfl (fun h=>by cases h) (fun h=>by cases h) (L:=[]) (x:=.any) rfl ?_;simp;refine Ae EV (by simp) ?_;simp;exact Ad rfl
 cases hp:Pm p with
 |false=>
  rw[hp] at G1;simp;refine Ae F (by simp) ?_;simp;refine Ao rfl (fun _=>R) (fun _=>by simp) (by simp) ?_;simp[hk];refine Ao rfl (fun _=>G1) (fun _=>by simp) (by simp) ?_;simp;refine Ao (q:=true) rfl (fun h=>by cases h) (fun h=>by cases h) (L:=[]) (x:=.any) rfl ?_;simp;refine Ae EV (by simp) ?_;simp;exact Ad rfl
 |true=>
 rw[hp] at G1;cases hq:Pm q with
 |false=>
  rw[hq] at G2;simp;refine Ae F (by simp) ?_;simp;refine Ao rfl (fun _=>R) (fun _=>by simp) (by simp) ?_;simp[hk];refine Ao rfl (fun _=>G1) (fun _=>by simp) (by simp) ?_;simp;refine Ao rfl (fun _=>G2) (fun _=>by simp) (by simp) ?_;simp;refine Ae EV (by simp) ?_;simp;exact Ad rfl
 |true=>
  rw[hq] at G2;obtain⟨t,cs,b,w1,w2,w3,w4,M,N⟩:=Xi wo wp wq hf hr hp hq;have S1:=Fu _ w1 t;rw[show Hz t t=true from sameB_iff.2 rfl] at S1;have SC:=Vd (t:=false) (l:=cs) (m:=cs) (List.map_id'' (fun c=>by simp[ZO]) _).symm w4 w2 w3;simp;refine Ae F (by simp) ?_;simp;refine Ao rfl (fun _=>R) (fun _=>by simp) (by simp) ?_;simp[hk];refine Ao rfl (fun _=>G1) (fun _=>by simp) (by simp) ?_;simp;refine Ao rfl (fun _=>G2) (fun _=>by simp) (by simp) ?_;simp;refine Ae M (by simp) ?_;simp[Aa];refine Ae N (by simp) ?_;simp[Aa];refine AQ rfl (fun _=>S1) (fun _=>by simp) (by simp) ?_;simp;refine AQ rfl (fun _=>SC) (fun _=>by simp) (by simp) ?_;simp;refine AQ rfl (fun _=>EV) (fun _=>by simp) (by simp) ?_;simp;exact Ad rfl
end Go.Proofs.YtndnlknocdangaaGreat
namespace Go.Proofs.YtndnlknocdangaaGreat
open Go Go.G Go.Proofs Go.PL Go.RowKit
theorem jf {m:Int} (h:(Lit.int .i64 m).wf=true):Db m:=by
 simp[Lit.wf,IntKind.min,IntKind.max,IntKind.bits,IntKind.signed] at h;unfold Db;omega
theorem gP {m:Int} (h:(Lit.int .u64 m).wf=true):AA m:=by
 simp[Lit.wf,IntKind.min,IntKind.max,IntKind.bits,IntKind.signed] at h;unfold AA;omega
theorem n5 {m:Int} (h:(Lit.int .u8 m).wf=true):0≤m∧m<256:=by
 simp[Lit.wf,IntKind.min,IntKind.max,IntKind.bits,IntKind.signed] at h;omega
theorem dr:Tryz.prog.underlying 3=some (.int .i64):=by kernel_rfl
theorem VK:Tryz.prog.underlying 61=some (.int .u64):=by kernel_rfl
theorem WU {n:Nat} {b:List A} (h:Has Tryz.prog n 3 b):∃ m,Db m∧b=[iv m]:=by
 cases n with
 |zero=>exact h.elim
 |succ n=>
  unfold Has at h;rw[dr] at h;obtain⟨m,hm,rfl⟩:=h;exact⟨m,jf hm,rfl⟩
theorem lR {n:Nat} {b:List A} (h:Has Tryz.prog n 61 b):∃ m,AA m∧b=[uv m]:=by
 cases n with
 |zero=>exact h.elim
 |succ n=>
  unfold Has at h;rw[VK] at h;obtain⟨m,hm,rfl⟩:=h;exact⟨m,gP hm,rfl⟩
theorem vn {α:Type} {xs:List A} {g:α→A} {R:α→Prop} (h:∀ x,x ∈ xs→∃ y,R y∧x.soft=g y):∃ l:List α,A.softL xs=l.map g∧l.length=xs.length∧∀ y,y ∈ l→R y:=by
 induction xs with
 |nil=>exact⟨[],rfl,rfl,fun y h=>nomatch h⟩
 |cons x xs ih=>
  obtain⟨y,hy,e⟩:=h x (by simp);obtain⟨l,e2,e3,hl⟩:=ih fun z hz=>h z (by simp[hz]);refine⟨y::l,by simp[A.softL,e,e2],by simp[e3],fun z hz=>?_⟩;rcases List.mem_cons.1 hz with rfl | hz
  ·exact hy
  ·exact hl z hz
theorem SB {P:Program} {t e:TypeId} {m:Nat} (u:P.underlying t=some (.slice e)) (hb:P.bytesOf e=m) {n:Nat} {b:List A} (h:Has P n t b) {α:Type} {g:α→A} {R:α→Prop} (hx:∀ k b,k<n→Has P k e b→∃ y,R y∧(mk P e b).soft=g y) :
  ∃ (f:Bool) (xs:List A) (l:List α),b=[.sl f xs]∧A.softL xs=l.map g∧l.length*m≤140737488355328∧∀ y,y ∈ l→R y:=by
 cases n with
 |zero=>exact h.elim
 |succ n=>
  unfold Has at h;rw[u] at h;obtain⟨f,xs,rfl,_,hz,hf,hx'⟩:=h;rw[hb] at hz;obtain⟨l,e1,e2,hl⟩:=vn (g:=g) (R:=R) (xs:=xs) fun x hxx=>by
   obtain⟨b,hb',rfl⟩:=hx' x hxx;exact hx n b (by omega) hb'
  exact⟨f,xs,l,rfl,e1,by rw[e2];exact Nat.le_trans hz (by decide),hl⟩
theorem oZ (b:List A):mk Tryz.prog 61 b=b.headD .any:=by unfold mk;rw[VK]
theorem uL {n:Nat} {b:List A} (h:Has Tryz.prog n 22 b):∃ (f:Bool) (xs:List A) (l:List Int),b=[.sl f xs]∧A.softL xs=l.map uv∧l.length*8≤140737488355328∧∀ y,y ∈ l→AA y:=
 SB (e:=61) (by kernel_rfl) (by kernel_rfl) h fun k b _ hb=>by
  obtain⟨m,h1,rfl⟩:=lR hb;exact⟨m,h1,by rw[oZ];rfl⟩
theorem Vt:Tryz.prog.underlying 25=some (.struct (Tryz.prog.fieldsOf 25)):=by kernel_rfl
theorem bW:(Tryz.prog.fieldsOf 25).toList.map Field.type=[3,22,23]:=by kernel_rfl
theorem Uj (b:List A):mk Tryz.prog 25 b = .agg b:=by unfold mk;rw[Vt]
theorem P1:∀ (n:Nat) (b:List A),Has Tryz.prog n 25 b→∃ t,AD t∧A.softL b=[iv t.kind,CR t.words,Bz t.kids]:=by
 intro n;induction n using Nat.strongRecOn with
 |ind n ih=>
  intro b h;cases n with
  |zero=>exact h.elim
  |succ n=>
   unfold Has at h;rw[Vt] at h;simp only at h;rw[Gk,bW] at h;obtain⟨_,_,rfl,h1,_,_,rfl,h2,_,_,rfl,h3,rfl⟩:=h;obtain⟨k,hk,rfl⟩:=WU h1;obtain⟨f,xs,w,rfl,e2,l2,r2⟩:=uL h2;obtain⟨f3,ys,l,rfl,e3,l3,r3⟩:=SB (m:=56) (e:=25) (g:=tA) (R:=AD) (by kernel_rfl) (by kernel_rfl) h3 fun j b hj hb=>by
    obtain⟨t,ht,e⟩:=ih j (by omega) b hb;exact⟨t,ht,by rw[Uj];simp only[A.soft,e];rw[tA_eq]⟩
   refine⟨.mk k w l,wfT_iff.2 ⟨hk,r2,l2,l3,r3⟩,?_⟩;simp only[List.cons_append,List.nil_append,List.append_nil,A.softL,A.soft,e2,e3];rfl
theorem de {n:Nat} {b:List A} (h:Has Tryz.prog n 23 b):∃ (f:Bool) (xs:List A) (l:List T),b=[.sl f xs]∧A.softL xs=l.map tA∧l.length*56≤140737488355328∧∀ y,y ∈ l→AD y:=
 SB (e:=25) (by kernel_rfl) (by kernel_rfl) h fun k b _ hb=>by
  obtain⟨t,h1,e⟩:=P1 k b hb;exact⟨t,h1,by rw[Uj];simp only[A.soft,e];rw[tA_eq]⟩
theorem S5:∀ (a b:List A),A.softL (a++b)=A.softL a++A.softL b
 |[],b=>by simp[A.softL]
 |x::a,b=>by simp[A.softL,S5 a b]
theorem eY:Tryz.prog.underlying 85=some (.struct (Tryz.prog.fieldsOf 85)):=by kernel_rfl
theorem nj:(Tryz.prog.fieldsOf 85).toList.map Field.type=[3,5,61,61]:=by kernel_rfl
theorem uI (b:List A):mk Tryz.prog 85 b = .agg b:=by unfold mk;rw[eY]
theorem wZ {n:Nat} {b:List A} (h:Has Tryz.prog n 5 b):∃ m,(0≤m∧m<256)∧b=[u8 m]:=by
 cases n with
 |zero=>exact h.elim
 |succ n=>
  have u:Tryz.prog.underlying 5=some (.int .u8):=by kernel_rfl
  unfold Has at h;rw[u] at h;obtain⟨m,hm,rfl⟩:=h;exact⟨m,n5 hm,rfl⟩
theorem tc {n:Nat} {b:List A} (h:Has Tryz.prog n 85 b):∃ w:WE,WE.wf w∧(mk Tryz.prog 85 b).soft=wA w:=by
 cases n with
 |zero=>exact h.elim
 |succ n=>
  unfold Has at h;rw[eY] at h;simp only at h;rw[Gk,nj] at h;obtain⟨_,_,rfl,h1,_,_,rfl,h2,_,_,rfl,h3,_,_,rfl,h4,rfl⟩:=h;obtain⟨a,ha,rfl⟩:=WU h1;obtain⟨m,hm,rfl⟩:=wZ h2;obtain⟨o,ho,rfl⟩:=lR h3;obtain⟨w,hw,rfl⟩:=lR h4;exact⟨⟨a,m,o,w⟩,⟨ha,hm,ho,hw⟩,by rw[uI];rfl⟩
theorem kj:Tryz.prog.underlying 30=some (.struct (Tryz.prog.fieldsOf 30)):=by kernel_rfl
theorem vt:(Tryz.prog.fieldsOf 30).toList.map Field.type=[3,25,25,26,27,3,28]:=by kernel_rfl
theorem w9 (b:List A):mk Tryz.prog 30 b = .agg b:=by unfold mk;rw[kj]
theorem dY:Tryz.prog.underlying 88=some (.struct (Tryz.prog.fieldsOf 88)):=by kernel_rfl
theorem mT:(Tryz.prog.fieldsOf 88).toList.map Field.type=[3,30]:=by kernel_rfl
theorem uN (b:List A):mk Tryz.prog 88 b = .agg b:=by unfold mk;rw[dY]
theorem fj:Tryz.prog.underlying 91=some (.struct (Tryz.prog.fieldsOf 91)):=by kernel_rfl
theorem nh:(Tryz.prog.fieldsOf 91).toList.map Field.type=[3,3,23,30]:=by kernel_rfl
theorem vl (b:List A):mk Tryz.prog 91 b = .agg b:=by unfold mk;rw[fj]
theorem XY:∀ (n:Nat) (b:List A),Has Tryz.prog n 30 b→∃ e,JZ e∧A.softL b=eL e:=by
 intro n;induction n using Nat.strongRecOn with
 |ind n ih=>
  intro b h;cases n with
  |zero=>exact h.elim
  |succ n=>
   unfold Has at h;rw[kj] at h;simp only at h;rw[Gk,vt] at h;obtain⟨_,_,rfl,h1,_,_,rfl,h2,_,_,rfl,h3,_,_,rfl,h4,_,_,rfl,h5,_,_,rfl,h6,_,_,rfl,h7,rfl⟩:=h;obtain⟨k,hk,rfl⟩:=WU h1;obtain⟨o,ho,e2⟩:=P1 _ _ h2;obtain⟨nn,hn,e3⟩:=P1 _ _ h3;obtain⟨f4,x4,ws,rfl,e4,l4,r4⟩:=SB (m:=32) (e:=85) (g:=wA) (R:=WE.wf) (by kernel_rfl) (by kernel_rfl) h4 fun j b hj hb=>tc hb;obtain⟨f5,x5,ks,rfl,e5,l5,r5⟩:=SB (m:=208) (e:=88) (g:=kA) (R:=fun x=>Db x.at_∧JZ x.e) (by kernel_rfl) (by kernel_rfl) h5 fun j b hj hb=>by
    cases j with
    |zero=>exact hb.elim
    |succ j=>
     unfold Has at hb;rw[dY] at hb;simp only at hb;rw[Gk,mT] at hb;obtain⟨_,_,rfl,g1,_,_,rfl,g2,rfl⟩:=hb;obtain⟨a,ha,rfl⟩:=WU g1;obtain⟨e,he,ee⟩:=ih j (by omega) _ g2;refine⟨.mk a e,⟨ha,he⟩,?_⟩;rw[uN,kA_eq];simp only[A.soft,List.cons_append,List.nil_append,List.append_nil,A.softL,ee];rfl
   obtain⟨l,hl,rfl⟩:=WU h6;obtain⟨f7,x7,os,rfl,e7,l7,r7⟩:=SB (m:=240) (e:=91) (g:=oA) (R:=p5) (by kernel_rfl) (by kernel_rfl) h7 fun j b hj hb=>by
    cases j with
    |zero=>exact hb.elim
    |succ j=>
     unfold Has at hb;rw[fj] at hb;simp only at hb;rw[Gk,nh] at hb;obtain⟨_,_,rfl,g1,_,_,rfl,g2,_,_,rfl,g3,_,_,rfl,g4,rfl⟩:=hb;obtain⟨k,hk,rfl⟩:=WU g1;obtain⟨m,hm,rfl⟩:=WU g2;obtain⟨f,xs,tl,rfl,et,lt,rt⟩:=de g3;obtain⟨e,he,ee⟩:=ih j (by omega) _ g4;refine⟨.mk k m tl e,⟨hk,hm,rt,lt,he⟩,?_⟩;rw[vl,oA_eq];simp only[A.soft,List.cons_append,List.nil_append,List.append_nil,A.softL,ee,et];rfl
   refine⟨.mk k o nn ws ks l os,wfE_iff.2 ⟨hk,hl,ho,hn,r4,l4,l5,l7,r5,r7⟩,?_⟩;simp only[List.cons_append,List.nil_append,List.append_nil,A.softL,A.soft,S5,e2,e3,e4,e5,e7];rfl
end Go.Proofs.YtndnlknocdangaaGreat
namespace Go.Proofs.YtndnlknocdangaaGreat
open Go Go.G Go.Proofs Go.PL Go.RowKit
set_option maxRecDepth 100000 in
theorem said_mergeEdits (xs:List A) (h:ArgsHas Tryz.prog Tryz.f3.params.toList xs):G.Spec Tryz.prog 3 xs (.v (.bool true)):=by
 have h:ArgsHas Tryz.prog [25,30,30] xs:=h
 match xs,h with
 |[a,a2,a4],⟨⟨n,b,h1,h2⟩,⟨n2,b2,h12,h22⟩,⟨n4,b4,h14,h24⟩,_⟩=>
  obtain⟨t,ht,et⟩:=P1 _ _ h1;obtain⟨t2,ht2,et2⟩:=XY _ _ h12;obtain⟨t4,ht4,et4⟩:=XY _ _ h14;rw[h2,Uj,h22,w9,h24,w9];exact(Pv ht ht2 ht4).soft (by simp only[A.softL,A.soft,et,et2,et4])
end Go.Proofs.YtndnlknocdangaaGreat
namespace Go.G
open Go.RowKit Go.ChangeShapes Go.WideShapes
section
variable {H:Type} {enc:TypeId × Value→H} {P:Program}
def Kx (P:Program) (ts:List TypeId):Bool:=ts.all fun t=>P.readableRec t&&decide (t<P.types.size)
theorem LS (hl:laidOutB P=true) {W W':World} (hb:Below W.heap.size W W') (sp:Nat→Bool):∀ {ts:List TypeId} {vs:List Value} {ds:List (DataW H)} {ps:List MemPlace},Kx P ts=true →
  DataW.TrodAll enc P W 0 (fun _=>true) true ts vs ds ps→(∀ x ∈ ps,x.block<W.heap.size)→(∀ x ∈ ps,sp x.block=true)→DataW.TrodAll enc P W' 0 sp true ts vs ds ps
 |[],_,_,_,_,h,_,_=>by
  obtain⟨rfl,rfl,rfl⟩:=trodAll_nil h;exact trodAll_mk0
 |t::ts,_,_,_,hr,h,hlt,hsp=>by
  obtain⟨v,vs,d,ds,p,q,rfl,rfl,rfl,h1,h2⟩:=trodAll_cons h;simp only[Kx,List.all_cons,Bool.and_eq_true,decide_eq_true_eq] at hr;exact⟨p,q,WideElems.Trod_stays hl hr.1.1 hr.1.2 h1 (fun x hx=>hb.same (hlt x (by simp[hx]))) (fun x hx=>hsp x (by simp[hx])),
   LS hl hb sp (by simpa[Kx] using hr.2) h2 (fun x hx=>hlt x (by simp[hx])) (fun x hx=>hsp x (by simp[hx])),rfl⟩
theorem KQ {w:World} {base:Nat} {spare:Nat→Bool} {held:Bool}:∀ {ts:List TypeId} {vs:List Value} {ds:List (DataW H)} {ps:List MemPlace},DataW.TrodAll enc P w base spare held ts vs ds ps→ds.length=ts.length∧vs.length=ts.length
 |[],_,_,_,h=>by
  obtain⟨rfl,rfl,rfl⟩:=trodAll_nil h;exact⟨rfl,rfl⟩
 |t::ts,_,_,_,h=>by
  obtain⟨v,vs,d,ds,p,q,rfl,rfl,rfl,h1,h2⟩:=trodAll_cons h;have:=KQ h2;simp[this]
theorem dF {f:Func} {s:ChangeSpec} {apart fresh handsOn again:Bool} {W W':World} {args:Array Value} {ds gs:List (DataW H)} {before:List MemPlace} {t:TypeId}
  (hl:laidOutB P=true) (hp:Kx P f.params.toList=true) (hsv:s.vars=[]) (hW:DataW.Whole enc P f.params.toList s.vars apart W args.toList ds gs before) (hB:Below W.heap.size W W')
  (hrt:f.resultTypes = #[t]) (ht:P.underlying t=some .bool) (hfn:∀ ds':List (DataW H),ds'.length=f.params.size→s.fn H ds'={ results:=[.lit (.bool true)],args:=ds' }) :
  s.post enc P f apart fresh handsOn again W args (.bool true) W':=by
 have hlt:=hW.lt;have hW':=hW;obtain⟨p,q,hA,hV,rfl,hz,hn⟩:=hW';rw[hsv] at hV;obtain⟨rfl,rfl⟩:=trodVars_none hV;have hfn:=hfn ds (by have:=(KQ hA).1;simpa using this);simp only[List.append_nil] at hlt hz hn;have hA':=fun sp=>LS hl hB sp hp hA hlt;have hr:∀ (b:Nat) (sp:Nat→Bool) (hd:Bool),DataW.TrodAll enc P W' b sp hd f.resultTypes.toList ((Value.bool true).resultList f.resultTypes.size) [.lit (.bool true)] []:=fun b sp hd=>by
  rw[hrt];exact trodAll_cons_mk (shut_bool ht _) trodAll_mk0
 refine⟨ds,[],p++[],[],p,[],hW,?_,?_,?_,Below.frame hB _,fun _=>?_⟩
 ·simp only[List.append_nil,hfn];exact hr _ _ _
 ·simp only[List.append_nil,hfn];exact hA' _ (fun x hx=>by simpa using hlt x hx)
 ·simp only[List.append_nil,hfn,hsv];exact rfl
 ·refine⟨ok_one hrt rfl (okWide_bool_mk ht _),_,[],([]++p)++[],⟨[]++p,[],trodAll_append (hA' (fun _=>true) (fun _ _=>rfl)) (hr _ _ _),by rw[hsv];rfl,rfl,?_,?_⟩,?_⟩
  ·intro b off hx;have hx:MemPlace.cell b off ∈ p:=by simpa using hx
   rw[Below.frozen hB (hlt _ hx)];exact hz b off hx
  ·intro ha;have:=hn ha;simpa using this
  ·intro x hx _;simpa using hx
theorem law_calls {f:Func} {fid:FuncId} {s:ChangeSpec} {apart fresh handsOn again:Bool} {W:World} {base:Nat} {args:Array Value} {ds gs:List (DataW H)} {before:List MemPlace} {t:TypeId} (S:List TypeId)
  (hl:laidOutB P=true) (hp:Kx P f.params.toList=true) (hS:KH P S=true) (hts:f.params.toList.all S.contains=true) (hsv:s.vars=[]) (hrt:f.resultTypes = #[t]) (ht:P.underlying t=some .bool)
  (hfn:∀ ds':List (DataW H),ds'.length=f.params.size→s.fn H ds'={ results:=[.lit (.bool true)],args:=ds' })
  (hspec:∀ as',ArgsHas P f.params.toList as'→Spec P fid as' (.v (.bool true))) (htb:Tabs P W (kM W))
  (hval:∀ (j:Nat) t v,f.params[j]? = some t→args[j]? = some v→Value.okWide P W .any base t v) (hW:DataW.Whole enc P f.params.toList s.vars apart W args.toList ds gs before)
  (hwt:(DataW.weightsEach P (f.params.toList++s.plain.varTypes P) (ds++gs)).all (·≤reachBytes)=true) :
  Calls P fid args W fun e W'=>∃ v,e = .returned v∧s.post enc P f apart fresh handsOn again W args v W':=by
 have hW':=hW;obtain⟨p,q,hA,hV,rfl,hz,hn⟩:=hW;have hV':=hV;rw[hsv] at hV';obtain⟨rfl,_⟩:=trodVars_none hV';have hwt':∀ m,m ∈ DataW.weightsEach P f.params.toList ds→m≤reachBytes:=by
  have e:s.plain.varTypes P=[]:=by simp[ChangeSpec.plain,DataSpec.varTypes,hsv]
  rw[e,List.append_nil,List.append_nil,List.all_eq_true] at hwt;exact fun m hm=>by simpa using hwt m hm
 obtain⟨as',h1,h2,h3⟩:=Nz hS (fun t ht=>by rw[List.all_eq_true] at hts;simpa using hts t ht) hwt' hA (fun j u v hj hv=>hval j u v (by simpa using hj) (by simpa using hv));refine((hspec as' h2).2 W (kM W) args (fun _ h=>h) htb (by simpa using h1.symm) (fun k y hk=>?_)).mono fun e W' ⟨v,he,hB,hr⟩=>?_
 ·have:=h3 k y hk;simpa[List.getD,Array.getD_eq_getD_getElem?] using this
 ·cases hr;exact⟨_,he,dF hl hp hsv hW' hB hrt ht hfn⟩
end
end Go.G
