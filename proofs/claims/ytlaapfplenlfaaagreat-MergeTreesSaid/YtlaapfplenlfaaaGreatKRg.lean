/-
 Texts,merged,without what is not reached.
-/
import Derived.Test.YtlaapfplenlfaaaGreatKRf
set_option linter.unusedSimpArgs false
set_option linter.unusedVariables false
open Go.IntKind (i64 u64)
namespace Go.Proofs.YtlaapfplenlfaaaGreat
open Go Go.G Go.Proofs Go.PL
variable {n0:Nat} {w0:World} {I0:Nat->Prop} {Q:Exit->Sta->Prop}
theorem AiF{X0:List Int}{i w:Nat}{c0 c1 c2:A}{K B L:A}{N k:Nat}(hX:X0.length<=1000000)(hi:i<=1000000){H0:Hp}(h4:H0 [4]=⟨w,.cells [iv i,c0,c1,c2]⟩)
  (hq:∀(H':Hp)(v:Nat),H' [3]=⟨1,.cells [iv 1,.osl [15] v 1 0 (HT X0 i).length,K]⟩->H' [15]=⟨v,.arr 1 ((HT X0 i).map uv)⟩->(∀o,o≠[3]->o≠[15]->H' o=H0 o)->Q (.exit 2) ⟨lk [(2,.pob [0] 1 0),(3,.pob [1] 1 0),(4,.pob [2] 1 0),(6,.pob [3] 1 0),(8,.pob [4] w 0),(9,B),(26,L),(27,iv N),(28,iv k),(49,bv false)],H'⟩) :
  ∀(j n v:Nat)(H:Hp),n+j=i+1-X0.length->H [3]=⟨1,.cells [iv 1,.osl [15] v 1 0 (X0.length+n),K]⟩->H [15]=⟨v,.arr 1 ((X0++List.replicate n 0).map uv)⟩->(∀o,o≠[3]->o≠[15]->H o=H0 o) ->
  LoopC (cx Tryz.prog w0 I0 n0) FM Q ⟨lk [(2,.pob [0] 1 0),(3,.pob [1] 1 0),(4,.pob [2] 1 0),(6,.pob [3] 1 0),(8,.pob [4] w 0),(9,B),(26,L),(27,iv N),(28,iv k)],H⟩:=by
 intro j;induction j with
 |zero=>
  intro n v H hm h3 h15 hH;have g4:=hH [4] iS iS;rw[h4]at g4;have hp:HT X0 i=X0++List.replicate n 0:=by unfold HT;rw[<-hm];rfl
  have hc:¬((X0.length:Int)+n<=i):=oF
  refine Ab Ah (Ao FM.eq_1) ?_;simp[h3,g4,hc];refine hq H v (by rw[hp];simpa using h3) (by rw[hp];exact h15) hH
 |succ j ih=>
  intro n v H hm h3 h15 hH;have g4:=hH [4] iS iS;rw[h4]at g4;have hc:(X0.length:Int)+n<=i:=oF
  refine Ab Ah (Ao FM.eq_1) ?_;simp[h3,g4,hc,h15,Aa];refine⟨oF,?_⟩;refine ih (n+1) (v+1) _ oF (by simp[Aa];omega) ?_ (fun o h1 h2=>by simp[Aa,h1,h2,hH]);simp[Aa,List.replicate_succ'];rw[Ax iS];simp
theorem AhH{t:T}(ht:Ay t){ws:List WE}(hwl:ws.length<=10000000000000){b R:List Int}{K:A}{v0 v2 v16:VOb}(hb:max t.words.length b.length<=900000)(hws:∀x,x∈ws->Ba x.old/\Ba x.new)
  (hq:∀(H':Hp)(v:Nat)(st:List (Nat × A)),H' [0]=v0->H' [1]=⟨1,.cells (tL t)⟩->H' [2]=v2->H' [3]=⟨1,.cells [iv 1,.osl [15] v 1 0 R.length,K]⟩->H' [15]=⟨v,.arr 1 (R.map uv)⟩->H' [16]=v16->Q (.exit 0) ⟨lk ([(2,.pob [0] 1 0),(3,.pob [1] 1 0),(4,.pob [2] 1 0),(6,.pob [3] 1 0)]++st),H'⟩) :
  ∀(m k p v:Nat)(X:List Int)(H:Hp),k+m=ws.length->Pe t.words b p (ws.drop k)->R=bD t.words (ws.drop k) X->X.length<=900000->H [0]=v0->H [1]=⟨1,.cells (tL t)⟩->H [2]=v2->H [3]=⟨1,.cells [iv 1,.osl [15] v 1 0 X.length,K]⟩->H [15]=⟨v,.arr 1 (X.map uv)⟩->H [16]=v16 ->
  LoopC (cx Tryz.prog w0 I0 n0) Fx Q ⟨lk [(2,.pob [0] 1 0),(3,.pob [1] 1 0),(4,.pob [2] 1 0),(6,.pob [3] 1 0),(26,QX ws),(27,iv ws.length),(28,iv k)],H⟩:=by
 have z0:Ba 0:=⟨dO,dO⟩;intro m;induction m with
 |zero=>
  intro k p v X H hm hL hR hX h0 h1 h2 h3 h15 h16;have:k=ws.length:=oF
  subst this;rw[List.drop_length]at hR;have hR:R=X:=hR;subst hR;refine Ab Ah (BG Fx.eq_1) ?_;simp;have:=hq H v [(26,QX ws),(27,iv ws.length),(28,iv ws.length),(29,bv false)] h0 h1 h2 h3 h15 h16;simpa using this
 |succ m ih=>
  intro k p v X H hm hL hR hX h0 h1 h2 h3 h15 h16;have hlt:k<ws.length:=oF
  have ew:=Ap k;have hd:ws.drop k=ws[k]::ws.drop (k+1):=(List.getElem_cons_drop hlt).symm;rw[hd]at hL hR;have hwo:=hws _ (Bv hlt);have next:=ih (k+1)
  generalize hx:ws[k]=x at *;cases hL with
  |cons _ i mk o n _ hp hh hi hmk ho hn g1 g2 g=>
   have hwa:=IZ (wfT_iff.1 ht).w i;have M1:=Hy (mask:=mk) z0 hwa oF oF;have M2:=Hy (mask:=mk) hwa hwo.2 oF oF;have W1:=Gl t i;simp only at M2;rw[ho]at M1;rw[g1]at M2;have hl:i<(HT X i).length:=by rw[J1];omega
   have hR':R=bD t.words (ws.drop (k+1)) ((HT X i).set i (b.getD i 0)):=by
    rw[hR];show bD t.words _ ((HT X ((i:Int)).toNat).set ((i:Int)).toNat (BI (t.words.getD ((i:Int)).toNat 0) n mk))=_;rw[Int.toNat_natCast,g1]
   refine Ab Ah (BG Fx.eq_1) ?_;simp[hlt,hx,Aa,h1];refine Ae W1 iS ?_;simp[Aa];refine Ae M1 iS ?_;simp[Aa];refine AiF (X0:=X) (i:=i) (w:=(H [4]).u+1) (c0:=u8 mk) (c1:=uv o) (c2:=uv n) (K:=K) oF oF (H0:=Ar H [4] ⟨(H [4]).u+1,.cells [iv i,u8 mk,uv o,uv n]⟩) (by simp[Aa]) (fun H' v' k3 k15 kH=>?_) (i+1-X.length) 0 v _ oF (by simp[Aa,h3]) (by simp[Aa,h15]) (fun o _ _=>rfl);have k4:=kH [4] iS iS;have k0:=kH [0] iS iS;have k1:=kH [1] iS iS;have k2:=kH [2] iS iS;have k16:=kH [16] iS iS;simp[Aa]at k4 k0 k1 k2 k16;simp[k3,k4];refine Ae M2 iS ?_;simp[k3,k15,k4,hl,ew];refine next (i+1) v' ((HT X i).set i (b.getD i 0)) _ oF g hR' (by rw[List.length_set,J1];omega) (by simp[Aa,k0,h0]) (by simp[Aa,k1,h1]) (by simp[Aa,k2,h2]) (by simp[Aa,k3]) (by simp[Aa,List.map_set]) (by simp[Aa,k16,h16])
theorem Ai5{Z0:List KI}{i w w7:Nat}{c4:List A}{K:A}{L:A}{N k:Nat}(hZ:Z0.length<=1000000)(hi:i<=1000000){H0:Hp}(h6:H0 [6]=⟨w,.cells (iv i::c4)⟩)
  (hq:∀(H':Hp)(v:Nat),H' [3]=⟨1,.cells [iv 1,K,.osl [16] v 3 0 (OA Z0 i).length]⟩->H' [16]=⟨v,.arr 3 ((OA Z0 i).map zb)⟩->(∀o,o≠[3]->o≠[16]->H' o=H0 o)->Q (.exit 6) ⟨lk [(3,.pob [1] 1 0),(4,.pob [2] 1 0),(6,.pob [3] 1 0),(11,.pob [6] w 0),(12,.pob [7] w7 0),(68,L),(69,iv N),(70,iv k),(92,bv false)],H'⟩) :
  ∀(j n v:Nat)(H:Hp),n+j=i+1-Z0.length->H [3]=⟨1,.cells [iv 1,K,.osl [16] v 3 0 (Z0.length+n)]⟩->H [16]=⟨v,.arr 3 ((Z0++List.replicate n (true,T0)).map zb)⟩->(∀o,o≠[3]->o≠[16]->H o=H0 o) ->
  LoopC (cx Tryz.prog w0 I0 n0) FG Q ⟨lk [(3,.pob [1] 1 0),(4,.pob [2] 1 0),(6,.pob [3] 1 0),(11,.pob [6] w 0),(12,.pob [7] w7 0),(68,L),(69,iv N),(70,iv k)],H⟩:=by
 intro j;induction j with
 |zero=>
  intro n v H hm h3 h16 hH;have g6:=hH [6] iS iS;rw[h6]at g6;have hp:OA Z0 i=Z0++List.replicate n (true,T0):=by unfold OA;rw[<-hm];rfl
  have hc:¬((Z0.length:Int)+n<=i):=oF
  refine Ab Ah (Ao FG.eq_1) ?_;simp[h3,g6,hc];refine hq H v (by rw[hp];simpa using h3) (by rw[hp];exact h16) hH
 |succ j ih=>
  intro n v H hm h3 h16 hH;have g6:=hH [6] iS iS;rw[h6]at g6;have hc:(Z0.length:Int)+n<=i:=oF
  refine Ab Ah (Ao FG.eq_1) ?_;simp[h3,g6,hc,h16,Aa];refine⟨oF,?_⟩;refine ih (n+1) (v+1) _ oF (by simp[Aa];omega) ?_ (fun o h1 h2=>by simp[Aa,h1,h2,hH]);simp[Aa,List.replicate_succ'];rw[Ax iS];simp[zb,kiC]
theorem AhX{t:T}{ks:List KE}(hkl:ks.length<=10000000000000){Z1:List KI}{K:A}{v2 v15:VOb}(hat:∀x,x∈ks->0<=x.at_/\x.at_<=900000)
  (hq:∀(H':Hp)(v:Nat)(st:List (Nat × A)),H' [2]=v2->H' [3]=⟨1,.cells [iv 1,K,.osl [16] v 3 0 Z1.length]⟩->H' [16]=⟨v,.arr 3 (Z1.map zb)⟩->H' [15]=v15->Q (.exit 4) ⟨lk ([(3,.pob [1] 1 0),(4,.pob [2] 1 0),(6,.pob [3] 1 0)]++st),H'⟩) :
  ∀(m k v:Nat)(us:List T)(Z:List KI)(H:Hp),k+m=ks.length->ApK ZF t.kids (ks.drop k) us->Z1=bP (ks.drop k) us Z->Z.length<=900001->H [1]=⟨1,.cells (tL t)⟩->H [2]=v2->H [3]=⟨1,.cells [iv 1,K,.osl [16] v 3 0 Z.length]⟩->H [16]=⟨v,.arr 3 (Z.map zb)⟩->H [15]=v15 ->
  LoopC (cx Tryz.prog w0 I0 n0) Fz Q ⟨lk [(3,.pob [1] 1 0),(4,.pob [2] 1 0),(6,.pob [3] 1 0),(68,Ry ks),(69,iv ks.length),(70,iv k)],H⟩:=by
 intro m;induction m with
 |zero=>
  intro k v us Z H hm hA hR hZ h1 h2 h3 h16 h15;have:k=ks.length:=oF
  subst this;rw[List.drop_length]at hR hA;cases hA;have hR:Z1=Z:=hR;subst hR;refine Ab Ah (BG Fz.eq_1) ?_;simp;have:=hq H v [(68,Ry ks),(69,iv ks.length),(70,iv ks.length),(71,bv false)] h2 h3 h16 h15;simpa using this
 |succ m ih=>
  intro k v us Z H hm hA hR hZ h1 h2 h3 h16 h15;have hlt:k<ks.length:=oF
  have ew:=Ap k;have hd:ks.drop k=ks[k]::ks.drop (k+1):=(List.getElem_cons_drop hlt).symm;rw[hd]at hA hR;have ha:=hat _ (Bv hlt);have next:=ih (k+1)
  generalize hx:ks[k]=x at *;cases hA with
  |cons i e u _ us h g=>
   have ha:(0:Int)<=(i:Nat)/\((i:Nat):Int)<=900000:=ha;have K1:=Hm t i;have hl:i<(OA Z i).length:=by rw[TS];omega
   have hR':Z1=bP (ks.drop (k+1)) us ((OA Z i).set i (false,u)):=by
    rw[hR];show bP _ us ((OA Z ((i:Int)).toNat).set ((i:Int)).toNat (false,u))=_;rw[Int.toNat_natCast]
   refine Ab Ah (BG Fz.eq_1) ?_;simp[hlt,hx,Aa,h1];refine Ae K1 iS ?_;simp[Aa];refine Ae h.2 iS ?_;simp[Aa];refine Ai5 (Z0:=Z) (i:=i) (w:=(H [6]).u+1) (w7:=(H [7]).u+1) (c4:=eL e) (K:=K) oF oF (H0:=Ar (Ar H [6] ⟨(H [6]).u+1,.cells (iv i::eL e)⟩) [7] ⟨(H [7]).u+1,.cells (tL u)⟩) (by simp[Aa]) (fun H' v' k3 k16 kH=>?_) (i+1-Z.length) 0 v _ oF (by simp[Aa,h3]) (by simp[Aa,h16]) (fun o _ _=>by rfl);have k6:=kH [6] iS iS;have k7:=kH [7] iS iS;have k1:=kH [1] iS iS;have k2:=kH [2] iS iS;have k15:=kH [15] iS iS;simp[Aa]at k6 k7 k1 k2 k15;simp[k3,k6,k7,k16,hl,ew];refine next v' us ((OA Z i).set i (false,u)) _ oF g hR' (by rw[List.length_set,TS];omega) (by simp[Aa,k1,h1]) (by simp[Aa,k2,h2]) (by simp[Aa,k3]) (by simp[Aa,List.map_set];rfl) (by simp[Aa,k15,h15])
theorem Ac9(l:List T):(l.map fun k=>((false,k):KI)).map zb=l.map tA:=by
 rw[List.map_map];exact List.map_congr_left fun k _=>by simp[zb,kiC]
theorem zR(l:List T):(l.map fun k=>((false,k):KI)).map gQ=l:=by
 rw[List.map_map];exact List.map_id'' (fun k=>by simp[gQ]) l
theorem nY{ws:List WE}{ks:List KE}{t:T}{b:List Int}{us:List T}(ht:Ay t)(hk:t.kind=1)(hwl:ws.length<=10000000000000)(hkl:ks.length<=10000000000000)(hl:t.kids.length<=900000)(hb:max t.words.length b.length<=900000)(hws:∀x,x∈ws->Ba x.old/\Ba x.new)(hat:∀x,x∈ks->0<=x.at_/\x.at_<=900000)(hW:Pe t.words b 0 ws)(hK:ApK ZF t.kids ks us) :
  G.Spec Tryz.prog 76 [eX (.mk 2 T0 T0 ws ks 0 []),tX t] (.tup [tX (.mk 1 (bD t.words ws t.words) ((bP ks us (t.kids.map fun k=>(false,k))).map gQ)),bv true]):=by
 have C1:=Wq t.words oF;have C2:=ib t.kids oF;have hkr:=Ac9 t.kids;generalize hZ:(t.kids.map fun k=>((false,k):KI))=Z at *;have hZl:Z.length=t.kids.length:=by rw[<-hZ];simp
 refine Aj UB iS fun w0 I0=>?_;rw[gm Mv.eq_1];simp[hk];refine Au 15 C1 (fun p=>iS) iS iS ?_;simp;refine⟨dO,?_⟩;refine Au 16 C2 (fun p=>iS) iS iS ?_;simp;refine⟨⟨dO,dO⟩,?_⟩;refine LoopC.le (Al [(2,.pob [0] 1 0),(3,.pob [1] 1 0),(4,.pob [2] 1 0),(6,.pob [3] 1 0),(26,QX ws),(27,iv ws.length),(28,iv (0:Nat))] iS) ?_;refine AhH (t:=t) (b:=b) (R:=bD t.words ws t.words) (K:=.osl [16] 1 3 0 t.kids.length) (v0:=⟨1,.cells (eL (.mk 2 T0 T0 ws ks 0 []))⟩) (v2:=⟨1,.cells [iv 0,.sl true [],.sl true []]⟩) (v16:=⟨1,.arr 3 (Z.map zb)⟩) ht hwl hb hws (fun H' v st h0 h1 h2 h3 h15 h16=>?_) ws.length 0 0 1 t.words _ oF (by simpa using hW) iS oF (by simp[Aa]) (by simp[Aa,hk]) (by simp[Aa]) (by simp[Aa]) (by simp[Aa]) (by simp[Aa,hkr]);simp[h0];refine LoopC.le (Al [(3,.pob [1] 1 0),(4,.pob [2] 1 0),(6,.pob [3] 1 0),(68,Ry ks),(69,iv ks.length),(70,iv (0:Nat))] iS) ?_;rw[<-hZl]at h3;refine AhX (t:=t) (Z1:=bP ks us Z) (K:=.osl [15] v 1 0 (bD t.words ws t.words).length) (v2:=⟨1,.cells [iv 0,.sl true [],.sl true []]⟩) (v15:=⟨v,.arr 1 ((bD t.words ws t.words).map uv)⟩) hkl hat (fun H2 v2 st2 k2 k3 k16 k15=>?_) ks.length 0 1 us Z _ oF (by simpa using hK) iS oF h1 h2 h3 h16 h15;simp[k2,k3];refine AM ⟨Bb ⟨Ad rfl,?_,?_,trivial⟩,Ad rfl,trivial⟩
 ·exact AQ (o:=[15]) (u:=v) (n:=(bD t.words ws t.words).length) (sz:=1) (l:=bD t.words ws t.words) (f:=uv) (by simp[Aa,k15]) rfl (fun x=>iS)
 ·have:=YM (H:=Ar H2 [2] ⟨1,.cells [iv 1,.osl [15] v 1 0 (bD t.words ws t.words).length,.osl [16] v2 3 0 (bP ks us Z).length]⟩) (o:=[16]) (u:=v2) (n:=(bP ks us Z).length) (sz:=3) (l:=bP ks us Z) (f:=zb) (g:=fun z=>tA (gQ z)) (by simp[Aa,k16]) rfl (fun x _=>by
   obtain⟨c,t⟩:=x;cases c<;>simp[kiC,gQ,A.soft,A.softL,KL,Hf])
  show Iz _ _ (.sl false (((bP ks us Z).map gQ).map tA));rw[List.map_map];exact this
theorem ZW{e:E}{a b:T}(hw:Qz e)(ha:Ay a)(h:ur e a b):∃u,ZF e a u/\Ag u=Ag b:=by
 rcases h with ⟨rfl,h⟩|⟨o,n,rfl,h1,h2⟩
 ·refine⟨a,⟨ha,?_⟩,h⟩;refine Aj Mc iS fun w0 I0=>?_;rw[Ao JX.eq_1];simp;exact AM ⟨Ad iS,Ad rfl,trivial⟩
 ·have W:=wfE_iff.1 hw;have E1:=Lr (t:=o) (u:=a) W.o ha;rw[show JE o a=true from eqT_iff.2 h1]at E1;refine⟨n,⟨W.n,?_⟩,h2⟩;refine Aj Mc iS fun w0 I0=>?_;rw[Ao JX.eq_1];simp;refine Ae E1 iS ?_;simp;exact AM ⟨Ad iS,Ad rfl,trivial⟩
theorem sB{e:E}{t u:T}(hk:e.kind=2)(h:G.Spec Tryz.prog 76 [eX e,tX t] (.tup [tX u,bv true])):G.Spec Tryz.prog 45 [eX e,tX t] (.tup [tX u,bv true]):=by
 obtain⟨k,o,n,ws,ks,l,os⟩:=e;have hk:k=2:=hk;subst hk;refine Aj Mc iS fun w0 I0=>?_;rw[Ao JX.eq_1];simp;refine Ae h iS ?_;simp;exact AM ⟨Ad iS,Ad rfl,trivial⟩
theorem nL{e:E}{t u:T}(hk:e.kind=3)(h:G.Spec Tryz.prog 77 [eX e,tX t] (.tup [tX u,bv true])):G.Spec Tryz.prog 45 [eX e,tX t] (.tup [tX u,bv true]):=by
 obtain⟨k,o,n,ws,ks,l,os⟩:=e;have hk:k=3:=hk;subst hk;refine Aj Mc iS fun w0 I0=>?_;rw[Ao JX.eq_1];simp;refine Ae h iS ?_;simp;exact AM ⟨Ad iS,Ad rfl,trivial⟩
theorem AdC{R:E->T->T->Prop}{a b:List T}{p:Nat}{ks:List KE}(h:Z4 R a b p ks):∀x,x∈ks->0<=x.at_/\x.at_<max a.length b.length:=by
 induction h with
 |nil p h=>intro x hx;simp at hx
 |cons p i e ks hp h hi he hr _ ih=>
  intro x hx;rcases List.mem_cons.1 hx with rfl|hx
  ·show(0:Int)<=(i:Nat)/\((i:Nat):Int)<_;omega
  ·exact ih x hx
def Sz:Nat->T->Prop
 |0,_=>True
 |f+1,t=>t.words.length<=900000/\t.kids.length<=900000/\∀k,k∈t.kids->Sz f k
theorem Ait:∀f,Sz f T0
 |0=>trivial
 |f+1=>⟨iS,iS,fun k hk=>by simp at hk⟩
theorem Acu{f:Nat}{t:T}(h:Sz (f+1) t)(i:Nat):Sz f (t.kids.getD i T0):=by
 rw[List.getD_eq_getElem?_getD];cases e:t.kids[i]? with
 |none=>exact Ait f
 |some z=>exact h.2.2 z (List.mem_of_getElem? e)
theorem GN{t:T}(h:Ay t)(i:Nat):Ay (t.kids.getD i T0):=by
 rw[List.getD_eq_getElem?_getD];cases e:t.kids[i]? with
 |none=>exact HB
 |some z=>exact(wfT_iff.1 h).ks z (List.mem_of_getElem? e)
theorem Ac8{a:List T}{ks:List KE}{us:List T}(h:ApK ZF a ks us):∀u,u∈us->Ay u:=by
 induction h with
 |nil=>intro u hu;simp at hu
 |cons i e u ks us h _ ih=>
  intro v hv;rcases List.mem_cons.1 hv with rfl|hv
  ·exact h.1
  ·exact ih v hv
theorem uX:∀(f:Nat)(e:E)(a b:T),Qz e->Ay a->Ay b->Sz f a->Sz f b->Ld f e a b->∃u,ZF e a u/\Ag u=Ag b:=by
 intro f;induction f with
 |zero=>exact fun e a b hw ha hb _ _ h=>ZW hw ha h
 |succ f ih=>
  intro e a b hw ha hb sa sb h;have A:=wfT_iff.1 ha;have B:=wfT_iff.1 hb;rcases h with h|⟨ws,ks,rfl,h1,h2,h3,h4⟩|⟨os,rfl,h1,h2,hv,h3⟩
  ·exact ZW hw ha h
  ·have W:=wfE_iff.1 hw;have hwl:ws.length*32<=140737488355328:=W.wl;have hkl:ks.length*208<=140737488355328:=W.kl;obtain⟨us,k1,k2⟩:=Aee (P:=ZF) h4 fun x hx i r=>ih x.e _ _ (W.ks x hx).2 (GN ha i) (GN hb i) (Acu sa i) (Acu sb i) r;obtain⟨g1,g2⟩:=AeQ h3 a.words (fun j hj=>oF) (fun j _=>rfl);have e0:=zR a.kids;obtain⟨g3,g4⟩:=k2 (a.kids.map fun k=>(false,k)) (fun j hj=>oF) (fun j _=>by rw[e0]);rw[List.length_map]at g4;have l1:=sa.1;have l2:=sb.1;have l3:=sa.2.1;have l4:=sb.2.1;have hat:=AdC h4;have S:=nY (ws:=ws) (ks:=ks) (us:=us) (b:=b.words) ha h1 oF oF l3 oF (fun x hx=>⟨(W.w x hx).2.2.1,(W.w x hx).2.2.2⟩) (fun x hx=>by have:=hat x hx;omega) h3 k1;have hu:=o4 (Q:=Ay) HB ks us (a.kids.map fun k=>(false,k)) (Ac8 k1) (fun z hz=>by
    obtain⟨k,hk,rfl⟩:=List.mem_map.1 hz;exact A.ks k hk)
   generalize hZ:bP ks us (a.kids.map fun k=>((false,k):KI))=Z at *;refine⟨.mk 1 (bD a.words ws a.words) (Z.map gQ),⟨wfT_iff.2 ⟨by simp[B6],qt ws a.words A.w,by show(bD a.words ws a.words).length*8<=_;omega,by show(Z.map gQ).length*56<=_;rw[List.length_map];omega,fun x hx=>?_⟩,sB rfl S⟩,?_⟩
   ·obtain⟨z,hz,rfl⟩:=List.mem_map.1 (show x∈Z.map gQ from hx);exact hu z hz
   ·obtain⟨kb,wb,lb⟩:=b;have h2:kb=1:=h2;subst h2;exact struct_eq.2 ⟨g1,g3⟩
  ·have W:=wfE_iff.1 hw;have hol:os.length*240<=140737488355328:=W.ol;obtain⟨U,k1,k2⟩:=AdD (P:=ZF) h3 fun o ho hk x hx y hy r=>ih o.e x y (W.os o ho).e (A.ks x hx) (B.ks y hy) (sa.2.2 x hx) (sb.2.2 y hy) r;have hUl:U.length=b.kids.length:=by simpa using congrArg List.length k2
   have l3:=sa.2.1;have l4:=sb.2.1;have hUw:=Ade k1 A.ks (fun o ho=>(W.os o ho).l);have S:=ki (l:=a.kind) (os:=os) (u:=U) ha oF (fun o ho=>(W.os o ho).l) (fun o ho=>by have:=(W.os o ho).ll;omega) oF oF rfl k1;refine⟨.mk a.kind [] U,⟨wfT_iff.2 ⟨A.k,iS,iS,by show U.length*56<=_;omega,hUw⟩,nL rfl S⟩,?_⟩;obtain⟨kb,wb,lb⟩:=b;have h1:kb=a.kind:=h1;have hv2:wb=[]:=hv.2;subst h1;subst hv2;exact(P6 (k:=a.kind) oF oF).2 ⟨rfl,k2⟩
theorem UU(a b m:Int){i:Nat}(h:i<8):BP (BI a b m) i=if Ff m i=true then BP b i else BP a i:=by
 rw[<-DZ _ h,Qu,TQ (by simp[AI,C6]) h,DZ _ h,DZ _ h]
theorem pM{x y:Int}(hx:Ba x)(hy:Ba y)(h:∀i,i<8->BP x i=BP y i):x=y:=by
 rw[<-VA hx,<-VA hy];congr 1;refine List.ext_getElem (by simp[AI,C6]) fun i h1 h2=>?_;have h8:i<8:=by simpa[AI,C6]using h1
 have:=h i h8;rw[<-DZ _ h8,<-DZ _ h8]at this;rw[List.getD_eq_getElem?_getD,List.getD_eq_getElem?_getD,List.getElem?_eq_getElem h1,List.getElem?_eq_getElem h2]at this;exact this
def Ir(m k:Int):Int:=bits .and .u8 m k
theorem sE{m k:Int}(hm:0<=m/\m<256)(hk:0<=k/\k<256):Ir m k=((m.toNat &&& k.toNat:Nat):Int):=by
 obtain⟨a,rfl⟩:=Int.eq_ofNat_of_zero_le hm.1;obtain⟨b,rfl⟩:=Int.eq_ofNat_of_zero_le hk.1;have h1:a<256:=oF
 have h2:b<256:=oF
 have h3:a &&& b<256:=Nat.lt_of_le_of_lt Nat.and_le_left h1;have e8:∀x:Nat,x<256->(BitVec.ofInt 8 (x:Int)).toNat=x:=fun x h=>by
  rw[BitVec.toNat_ofInt];omega
 show IntKind.u8.wrap ((BitVec.ofInt 8 (a:Int) &&& BitVec.ofInt 8 (b:Int)).toNat:Nat)=_;rw[BitVec.toNat_and,e8 a h1,e8 b h2];rw[IntKind.wrap_u8,Int.toNat_natCast,Int.toNat_natCast];omega
theorem iH{m k:Int}(hm:0<=m/\m<256)(hk:0<=k/\k<256):0<=Ir m k/\Ir m k<256:=by
 rw[sE hm hk];have h3:m.toNat &&& k.toNat<=m.toNat:=Nat.and_le_left;omega
theorem AaX(x w n m:Int):BI x (BI w n m) m=BI x n m:=by
 refine pM (DB _ _ _) (DB _ _ _) fun i hi=>?_;rw[UU _ _ _ hi,UU _ _ _ hi,UU _ _ _ hi];split<;>rfl
theorem Tq{x:Int}(hx:Ba x)(n:Int):BI x n 0=x:=by
 refine pM (DB _ _ _) hx fun i hi=>?_;rw[UU _ _ _ hi,if_neg (by simp[Ff])]
structure Cf where
 path:List (Int × Int)
 base:T
 ours:T
 theirs:T
abbrev DQ:=List (Int × Int)
noncomputable def Ge(e:E)(t:T):T:=(aH e t).getD T0
def C9(ws:List WE)(i:Nat):WE:=(ws.find? fun w=>decide (w.at_=(i:Int))).getD ⟨0,0,0,0⟩
def Eh(ks:List KE)(i:Nat):E:=((ks.find? fun k=>decide (k.at_=(i:Int))).map KE.e).getD E0
def Q5(a b:WE):Bool:=decide (BI 0 a.new (Ir a.mask b.mask)≠BI 0 b.new (Ir a.mask b.mask))
def Cr(w:Int):T:=.mk 1 [w] []
def Jg(w:Int)(a b:WE):Int:=if Q5 a b=true then w else BI (BI w a.new a.mask) b.new b.mask
def Nf(at':DQ)(i:Nat)(w:Int)(a b:WE):List Cf:=if Q5 a b=true then [⟨at'++[(1,(i:Int))],Ag (Cr w),Ag (Cr (BI w a.new a.mask)),Ag (Cr (BI w b.new b.mask))⟩]else []
def Cn(n:Nat)(ws:List WE):Nat:=ws.foldl (fun n w=>max n (w.at_+1).toNat) n
def B0(n:Nat)(ks:List KE):Nat:=ks.foldl (fun n k=>max n (k.at_+1).toNat) n
inductive U where
 |keep
 |del (t:T)
 |ins (t:T)
 |desc (e:E)
def Nk(o:OP):List U:=if o.kind=0 then List.replicate o.n.toNat .keep else if o.kind=1 then o.l.map .del else if o.kind=2 then o.l.map .ins else [.desc o.e]
def Gs(os:List OP):List U:=os.flatMap Nk
def GV:List U->List T
 |.ins t::us=>t::GV us
 |_=>[]
def Fl:List U->List U
 |.ins t::us=>Fl us
 |us=>us
def eU:U->E
 |.desc e=>e
 |_=>E0
open Classical in
noncomputable def Gb(at':DQ)(kind:Int)(n:Nat)(a b:List T):List T × List Cf:=
 if a=[]\/a.map Ag=b.map Ag then (b.map Ag,[])else if b=[]then (a.map Ag,[])else ([],[⟨at'++[(2,(n:Int))],Ag (.mk kind [] []),Ag (.mk kind [] a),Ag (.mk kind [] b)⟩])
noncomputable def Cs(mg:DQ->T->E->E->T × List Cf)(at':DQ)(k:T):U->U->List T × List Cf
 |.del _,.desc q=>([Ag k],[⟨at',Ag k,T0,Ge q k⟩])
 |.desc p,.del _=>([Ag k],[⟨at',Ag k,Ge p k,T0⟩])
 |.del _,_=>([],[])
 |_,.del _=>([],[])
 |u,v=>([(mg at' k (eU u) (eU v)).1],(mg at' k (eU u) (eU v)).2)
def lL:List U->U
 |u::_=>u
 |[]=>.keep
noncomputable def Kw(mg:DQ->T->E->E->T × List Cf)(at':DQ)(kind:Int):List T->List U->List U->Nat->List T × List Cf
 |[],us,vs,n=>Gb at' kind n (GV us) (GV vs)
 |k::ks,us,vs,n=>
  let g:=Gb at' kind n (GV us) (GV vs)
  let u:=Cs mg (at'++[(0,(n:Int))]) k (lL (Fl us)) (lL (Fl vs))
  let r:=Kw mg at' kind ks (Fl us).tail (Fl vs).tail (n+1)
  (g.1++(u.1++r.1),g.2++(u.2++r.2))
open Classical in
noncomputable def cI(at':DQ)(o:T)(p q:E):T × List Cf:=
 if p.kind=0 then (Ge q o,[])else if q.kind=0 then (Ge p o,[])else if Ge p o=Ge q o then (Ge p o,[])else (Ag o,[⟨at',Ag o,Ge p o,Ge q o⟩])
noncomputable def gS(mg:DQ->T->E->E->T × List Cf)(at':DQ)(o:T)(p q:E):T × List Cf:=
 (Ag (.mk 1 ((List.range (Cn (Cn o.words.length p.words) q.words)).map fun i:Nat=>Jg (o.words.getD i 0) (C9 p.words i) (C9 q.words i))
  ((List.range (B0 (B0 o.kids.length p.kids) q.kids)).map fun i:Nat=>(mg (at'++[(0,(i:Int))]) (o.kids.getD i T0) (Eh p.kids i) (Eh q.kids i)).1)),
  (List.range (Cn (Cn o.words.length p.words) q.words)).flatMap (fun i:Nat=>Nf at' i (o.words.getD i 0) (C9 p.words i) (C9 q.words i)) ++
  (List.range (B0 (B0 o.kids.length p.kids) q.kids)).flatMap fun i:Nat=>(mg (at'++[(0,(i:Int))]) (o.kids.getD i T0) (Eh p.kids i) (Eh q.kids i)).2)
noncomputable def mg:Nat->DQ->T->E->E->T × List Cf
 |0,at',o,p,q=>cI at' o p q
 |f+1,at',o,p,q=>if p.kind=2/\q.kind=2 then gS (mg f) at' o p q
  else if p.kind=3/\q.kind=3 then (Ag (.mk o.kind [] (Kw (mg f) at' o.kind o.kids (Gs p.ops) (Gs q.ops) 0).1),(Kw (mg f) at' o.kind o.kids (Gs p.ops) (Gs q.ops) 0).2)
  else cI at' o p q
theorem M9{a b:List Int}{p:Nat}{ws:List WE}(h:Pe a b p ws):∀w,w∈ws->∃i:Nat,w.at_=i/\p<=i/\i<max a.length b.length/\0<w.mask/\w.mask<256:=by
 induction h with
 |nil p h=>intro w hw;simp at hw
 |cons p i m o n ws hp h hi hm ho hn h1 h2 _ ih=>
  intro w hw;rcases List.mem_cons.1 hw with rfl|hw
  ·exact⟨i,rfl,hp,hi,hm.1,hm.2⟩
  ·obtain⟨j,k1,k2,k3,k4⟩:=ih w hw;exact⟨j,k1,oF,k3,k4⟩
theorem Aap{a b:List Int}{p:Nat}{ws:List WE}(h:Pe a b p ws):∀i:Nat,p<=i->(∀w,w∈ws->w.at_<(i:Int))->a.getD i 0=b.getD i 0:=by
 induction h with
 |nil p h=>intro i hi _;exact h i hi
 |cons p i m o n ws hp h hi hm ho hn h1 h2 _ ih=>
  intro j hj hw;have:((i:Nat):Int)<(j:Int):=hw ⟨i,m,o,n⟩ iS;exact ih j oF fun w h=>hw w (List.mem_cons_of_mem _ h)
theorem vE{a b:List Int}{p:Nat}{ws:List WE}(h:Pe a b p ws):∀x,ws.getLast? = some x->∀w,w∈ws->w.at_<=x.at_:=by
 induction h with
 |nil p h=>intro x hx;simp at hx
 |cons p i m o n ws hp h hi hm ho hn h1 h2 g ih=>
  intro x hx w hw;cases ws with
  |nil=>
   simp at hx hw;rw[<-hx,hw];exact Int.le_refl _
  |cons y ys=>
   rw[List.getLast?_cons_cons]at hx;rcases List.mem_cons.1 hw with rfl|hw
   ·have k:=ih x hx y iS;obtain⟨j,k1,k2,_⟩:=M9 g y iS;have:((i:Nat):Int)<=x.at_:=oF
    exact this
   ·exact ih x hx w hw
theorem dL{a b:List Int}:∀(m p:Nat)(ws:List WE),Pe a b p ws->WL a m p ws=some ((List.range' p m).map fun j=>b.getD j 0)
 |0,p,ws,h=>by rw[WL];rfl
 |m+1,p,ws,h=>by
  rw[List.range'_succ,List.map_cons];cases h with
  |nil _ h=>
   rw[Yn (fun x xs e=>by cases e),dL m (p+1) [] (.nil _ fun i hi=>h i oF),h p (Cq _)];rfl
  |cons _ i mk o n ws hp h hi hm ho hn h1 h2 g=>
   by_cases e:p=i
   ·subst e;rw[qy rfl ho,dL m (p+1) ws g];simp only[h1];rfl
   ·rw[Yn (fun x xs ex=>by cases ex;show((i:Nat):Int)≠(p:Int);omega),dL m (p+1) _ (.cons (p+1) i mk o n ws oF (fun j h1 h2=>h j oF h2) hi hm ho hn h1 h2 g),h p (Cq _) oF];rfl
theorem Na{R:E->T->T->Prop}{a b:List T}{p:Nat}{ks:List KE}(h:Z4 R a b p ks):∀w,w∈ks->∃i:Nat,w.at_=i/\p<=i/\i<max a.length b.length/\w.e.kind≠0/\R w.e (a.getD i T0) (b.getD i T0):=by
 induction h with
 |nil p h=>intro w hw;simp at hw
 |cons p i e ks hp h hi he hr _ ih=>
  intro w hw;rcases List.mem_cons.1 hw with rfl|hw
  ·exact⟨i,rfl,hp,hi,he,hr⟩
  ·obtain⟨j,k1,k2,k3⟩:=ih w hw;exact⟨j,k1,oF,k3⟩
theorem Aab{R:E->T->T->Prop}{a b:List T}{p:Nat}{ks:List KE}(h:Z4 R a b p ks):∀i:Nat,p<=i->(∀w,w∈ks->w.at_<(i:Int))->Ag (a.getD i T0)=Ag (b.getD i T0):=by
 induction h with
 |nil p h=>intro i hi _;exact h i hi
 |cons p i e ks hp h hi he hr _ ih=>
  intro j hj hw;have:((i:Nat):Int)<(j:Int):=hw (.mk i e) iS;exact ih j oF fun w h=>hw w (List.mem_cons_of_mem _ h)
theorem X5{R:E->T->T->Prop}{a b:List T}{p:Nat}{ks:List KE}(h:Z4 R a b p ks):∀x,ks.getLast? = some x->∀w,w∈ks->w.at_<=x.at_:=by
 induction h with
 |nil p h=>intro x hx;simp at hx
 |cons p i e ks hp h hi he hr g ih=>
  intro x hx w hw;cases ks with
  |nil=>
   simp at hx hw;rw[<-hx,hw];exact Int.le_refl _
  |cons y ys=>
   rw[List.getLast?_cons_cons]at hx;rcases List.mem_cons.1 hw with rfl|hw
   ·have k:=ih x hx y iS;obtain⟨j,k1,k2,_⟩:=Na g y iS;have:((i:Nat):Int)<=x.at_:=oF
    exact this
   ·exact ih x hx w hw
theorem fS{R:E->T->T->Prop}(hR:∀e x y,R e x y->aH e x=some (Ag y)){a b:List T}:∀(m p:Nat)(ks:List KE),Z4 R a b p ks->∃L,WM a m p (EC ks)=some L/\L.length=m/\∀j,j<m->Ag (L.getD j T0)=Ag (b.getD (p+j) T0)
 |0,p,ks,h=>⟨[],by rw[WM],rfl,fun j hj=>oF⟩
 |m+1,p,ks,h=>by
  have ext:∀(u:T)(L:List T),Ag u=Ag (b.getD p T0)->L.length=m->(∀j,j<m->Ag (L.getD j T0)=Ag (b.getD (p+1+j) T0))->(u::L).length=m+1/\∀j,j<m+1->Ag ((u::L).getD j T0)=Ag (b.getD (p+j) T0):=fun u L h0 h1 h2=>by
   refine⟨by simp[h1],fun j hj=>?_⟩;cases j with
   |zero=>simpa using h0
   |succ j=>
    have:=h2 j oF;rw[show p+(j+1)=p+1+j from oF];simpa using this
  cases h with
  |nil _ h=>
   obtain⟨L,k1,k2,k3⟩:=fS hR m (p+1) [] (.nil _ fun i hi=>h i oF);rw[EC]at k1 ⊢;refine⟨a.getD p T0::L,by rw[YS (fun x xs e=>by cases e),k1];rfl,ext _ _ (h p (Cq _)) k2 k3⟩
  |cons _ i e ks hp h hi he hr g=>
   by_cases ep:p=i
   ·subst ep;obtain⟨L,k1,k2,k3⟩:=fS hR m (p+1) ks g;refine⟨Ag (b.getD p T0)::L,?_,ext _ _ (Dt _) k2 k3⟩;rw[EC,qb rfl (hR _ _ _ hr),k1];rfl
   ·obtain⟨L,k1,k2,k3⟩:=fS hR m (p+1) (.mk i e::ks) (.cons (p+1) i e ks oF (fun j h1 h2=>h j oF h2) hi he hr g);refine⟨a.getD p T0::L,?_,ext _ _ (h p (Cq _) oF) k2 k3⟩;rw[EC]at k1 ⊢;rw[YS (fun x xs ex=>by cases ex;show((i:Nat):Int)≠(p:Int);omega),k1];rfl
theorem qT:∀{l m:List T},l.map Ag=m.map Ag->(l.zip m).all (fun p=>JE p.1 p.2)=true
 |[],[],_=>rfl
 |[],y::m,h=>by simp at h
 |x::l,[],h=>by simp at h
 |x::l,y::m,h=>by
  rw[List.map_cons,List.map_cons]at h;rw[List.zip_cons_cons,List.all_cons,Bool.and_eq_true];exact⟨eqT_iff.2 (List.cons.inj h).1,qT (List.cons.inj h).2⟩
theorem zU{R:E->T->T->Prop}(hR:∀e x y,R e x y->aH e x=some (Ag y)){os:List OP}{a b:List T}(h:LdO R os a b):∀(tk:List T)(i:Nat),tk.drop i=a->i<=tk.length->∃B,GY tk i (GR os)=some (B,tk.length)/\B.map Ag=b.map Ag:=by
 induction h with
 |nil=>
  intro tk i hd hi;have:tk.length<=i:=by simpa using hd
  exact⟨[],by rw[GR,GY,show i=tk.length from oF],rfl⟩
 |@keep os a b l m hne hl _ ih=>
  intro tk i hd hi;have hlen:tk.length-i=l.length+a.length:=by rw[<-List.length_drop,hd,List.length_append]
  have hd2:tk.drop (i+l.length)=a:=by rw[<-List.drop_drop,hd,List.drop_left]
  obtain⟨B,k1,k2⟩:=ih tk (i+l.length) hd2 oF;refine⟨l++B,?_,by rw[List.map_append,List.map_append,hl,k2]⟩;rw[GR,GY,if_pos rfl,Int.toNat_natCast,if_pos oF,k1,hd,List.take_left];rfl
 |@del os a b l m hne hl _ ih=>
  intro tk i hd hi;have hlen:tk.length-i=m.length+a.length:=by rw[<-List.length_drop,hd,List.length_append]
  have hl2:l.length=m.length:=by simpa using congrArg List.length hl
  have hd2:tk.drop (i+l.length)=a:=by rw[<-List.drop_drop,hd,hl2,List.drop_left]
  obtain⟨B,k1,k2⟩:=ih tk (i+l.length) hd2 oF;refine⟨B,?_,k2⟩;rw[GR,GY,if_neg dO,if_pos rfl,if_pos ⟨oF,by rw[hd,hl2,List.take_left];exact qT hl.symm⟩,k1]
 |@ins os a b l m hne hl _ ih=>
  intro tk i hd hi;obtain⟨B,k1,k2⟩:=ih tk i hd hi;refine⟨l++B,?_,by rw[List.map_append,List.map_append,hl,k2]⟩;rw[GR,GY,if_neg dO,if_neg dO,if_pos rfl,k1];rfl
 |@desc os a b e x y hr _ ih=>
  intro tk i hd hi;have hlen:tk.length-i=a.length+1:=by rw[<-List.length_drop,hd,List.length_cons]
  have hd2:tk.drop (i+1)=a:=by rw[<-List.drop_drop,hd];rfl
  have hx:tk[i]? = some x:=by
   have:=congrArg (fun l:List T=>l[0]?) hd;simpa using this
  obtain⟨B,k1,k2⟩:=ih tk (i+1) hd2 oF;refine⟨Ag y::B,?_,by rw[List.map_cons,List.map_cons,k2,Dt]⟩;rw[GR,GY,if_neg dO,if_neg dO,if_neg dO,hx];dsimp only;rw[hR _ _ _ hr];dsimp only;rw[k1];rfl
theorem gV{e:E}{a b:T}(h:ur e a b):aH e a=some (Ag b):=by
 rcases h with ⟨rfl,h⟩|⟨o,n,rfl,h1,h2⟩
 ·rw[XU,LI,if_pos rfl,h]
 ·rw[XU,LI,if_neg dO,if_pos rfl,if_pos (eqT_iff.2 h1),h2]
theorem yn:∀(f:Nat)(e:E)(a b:T),Ld f e a b->aH e a=some (Ag b):=by
 intro f;induction f with
 |zero=>exact fun e a b h=>gV h
 |succ f ih=>
  intro e a b h;rcases h with h|⟨ws,ks,rfl,h1,h2,h3,h4⟩|⟨os,rfl,h1,h2,hv,h3⟩
  ·exact gV h
  ·obtain⟨L,k1,k2,k3⟩:=fS ih (Jj (EC ks) a.kids.length) 0 ks h4;rw[XU,LI,if_neg dO,if_neg dO,if_pos rfl,if_pos h1,dL _ 0 ws h3,k1];dsimp only;obtain⟨kb,wb,lb⟩:=b;have h2:kb=1:=h2;subst h2;congr 1;refine struct_eq.2 ⟨fun i=>?_,fun i=>?_⟩
   ·by_cases hi:i<Lb ws a.words.length
    ·simp[List.getD_eq_getElem?_getD,hi,List.getElem?_range']
    ·have hl:∀w,w∈ws->w.at_<(i:Int):=fun w hw=>by
      unfold Lb at hi;cases e:ws.getLast? with
      |none=>rw[List.getLast?_eq_none_iff.1 e]at hw;simp at hw
      |some x=>
       rw[e]at hi;have:=vE h3 x e w hw;simp only at hi;omega
     have hal:a.words.length<=i:=by
      unfold Lb at hi;split at hi<;>omega
     have:=Aap h3 i (Nat.zero_le _) hl;have e1:a.words.getD i 0=0:=by rw[List.getD_eq_getElem?_getD,List.getElem?_eq_none hal];rfl
     have e2:((List.range' 0 (Lb ws a.words.length)).map fun j=>wb.getD j 0).getD i 0=0:=by rw[List.getD_eq_getElem?_getD,List.getElem?_eq_none (by simp;omega)];rfl
     have e3:wb.getD i 0=0:=this.symm.trans e1;exact e2.trans e3.symm
   ·by_cases hi:i<Jj (EC ks) a.kids.length
    ·have:=k3 i hi;rw[Nat.zero_add]at this;exact this
    ·have hl:∀w,w∈ks->w.at_<(i:Int):=fun w hw=>by
      unfold Jj at hi;rw[Lh,List.getLast?_map]at hi;cases e:ks.getLast? with
      |none=>rw[List.getLast?_eq_none_iff.1 e]at hw;simp at hw
      |some x=>
       rw[e]at hi;have:=X5 h4 x e w hw;simp only[Option.map_some]at hi;omega
     have hal:a.kids.length<=i:=by
      unfold Jj at hi;split at hi<;>omega
     have:=Aab h4 i (Nat.zero_le _) hl;have e1:a.kids.getD i T0=T0:=by rw[List.getD_eq_getElem?_getD,List.getElem?_eq_none hal];rfl
     have e2:L.getD i T0=T0:=by rw[List.getD_eq_getElem?_getD,List.getElem?_eq_none oF];rfl
     have e3:Ag (lb.getD i T0)=Ag T0:=this.symm.trans (by rw[e1]);rw[e2,e3]
  ·obtain⟨B,k1,k2⟩:=zU ih h3 a.kids 0 rfl (Nat.zero_le _);have n1:a.kind≠0:=oF
   rw[XU,LI,if_neg dO,if_neg dO,if_neg dO,if_pos rfl,if_pos rfl,k1];dsimp only;rw[if_pos rfl];congr 1;obtain⟨kb,wb,lb⟩:=b;have h1:kb=a.kind:=h1;have hv2:wb=[]:=hv.2;subst h1;subst hv2;exact(P6 n1 oF).2 ⟨rfl,k2⟩
theorem Vt{f:Nat}{e:E}{a b:T}(h:Ld f e a b):Ge e a=Ag b:=by rw[Ge,yn f e a b h];rfl
def Acm(c:Cf):Cf:=⟨c.path,c.base,c.theirs,c.ours⟩
def YT(m:Int):Prop:=0<=m/\m<256
theorem G4:∀(ws:List WE)(n:Nat),Cn n ws=max n (Cn 0 ws)
 |[],n=>by simp[Cn]
 |w::ws,n=>by
  have e:∀n,Cn n (w::ws)=Cn (max n (w.at_+1).toNat) ws:=fun n=>rfl;rw[e,e,G4 ws,G4 ws (max 0 _)];omega
theorem LA:∀(ws:List KE)(n:Nat),B0 n ws=max n (B0 0 ws)
 |[],n=>by simp[B0]
 |w::ws,n=>by
  have e:∀n,B0 n (w::ws)=B0 (max n (w.at_+1).toNat) ws:=fun n=>rfl;rw[e,e,LA ws,LA ws (max 0 _)];omega
section
variable {P:E->Prop} {M:DQ->T->E->E->T × List Cf}
end
theorem Wk{P:E->Prop}(h0:P E0){ks:List KE}(h:∀x,x∈ks->P x.e)(i:Nat):P (Eh ks i):=by
 unfold Eh;cases e:ks.find? fun k=>decide (k.at_=(i:Int)) with
 |none=>exact h0
 |some w=>exact h w (List.mem_of_find?_eq_some e)
inductive LdU(R:E->T->T->Prop):List U->List T->List T->Prop
 |nil:LdU R [] [] []
 |keep {us:List U} {a b:List T} (x y:T) (h:Ag x=Ag y) (g:LdU R us a b):LdU R (.keep::us) (x::a) (y::b)
 |del {us:List U} {a b:List T} (t x:T) (h:Ag t=Ag x) (g:LdU R us a b):LdU R (.del t::us) (x::a) b
 |ins {us:List U} {a b:List T} (t y:T) (h:Ag t=Ag y) (g:LdU R us a b):LdU R (.ins t::us) a (y::b)
 |desc {us:List U} {a b:List T} (e:E) (x y:T) (h:R e x y) (g:LdU R us a b):LdU R (.desc e::us) (x::a) (y::b)
theorem ct{R:E->T->T->Prop}{us:List U}{a b:List T}(g:LdU R us a b):∀{l m:List T},l.map Ag=m.map Ag->LdU R (List.replicate l.length .keep++us) (l++a) (m++b)
 |[],[],_=>g
 |[],y::m,h=>by simp at h
 |x::l,[],h=>by simp at h
 |x::l,y::m,h=>by
  rw[List.map_cons,List.map_cons]at h;exact .keep x y (List.cons.inj h).1 (ct g (List.cons.inj h).2)
theorem jY{R:E->T->T->Prop}{us:List U}{a b:List T}(g:LdU R us a b):∀{l m:List T},l.map Ag=m.map Ag->LdU R (l.map .del++us) (m++a) b
 |[],[],_=>g
 |[],y::m,h=>by simp at h
 |x::l,[],h=>by simp at h
 |x::l,y::m,h=>by
  rw[List.map_cons,List.map_cons]at h;exact .del x y (List.cons.inj h).1 (jY g (List.cons.inj h).2)
theorem jm{R:E->T->T->Prop}{us:List U}{a b:List T}(g:LdU R us a b):∀{l m:List T},l.map Ag=m.map Ag->LdU R (l.map .ins++us) a (m++b)
 |[],[],_=>g
 |[],y::m,h=>by simp at h
 |x::l,[],h=>by simp at h
 |x::l,y::m,h=>by
  rw[List.map_cons,List.map_cons]at h;exact .ins x y (List.cons.inj h).1 (jm g (List.cons.inj h).2)
theorem D0(o:OP)(os:List OP):Gs (o::os)=Nk o++Gs os:=rfl
theorem gL{R:E->T->T->Prop}{os:List OP}{a b:List T}(h:LdO R os a b):LdU R (Gs os) a b:=by
 induction h with
 |nil=>exact .nil
 |keep l m hne hl _ ih=>
  rw[D0];have:=ct ih hl;simpa[Nk]using this
 |del l m hne hl _ ih=>
  rw[D0];have:=jY ih hl;simpa[Nk]using this
 |ins l m hne hl _ ih=>
  rw[D0];have:=jm ih hl;simpa[Nk]using this
 |desc e x y r _ ih=>
  rw[D0];have:=LdU.desc e x y r ih;simpa[Nk]using this
theorem Oo{R:E->T->T->Prop}{us:List U}{a b:List T}(h:LdU R us a b):∃y1 y2,b=y1++y2/\(GV us).map Ag=y1.map Ag/\LdU R (Fl us) a y2/\∀t vs,Fl us≠.ins t::vs:=by
 induction h with
 |nil=>exact⟨[],[],rfl,rfl,.nil,fun t vs e=>by cases e⟩
 |keep x y h g _=>exact⟨[],_,rfl,rfl,.keep x y h g,fun t vs e=>by cases e⟩
 |del t x h g _=>exact⟨[],_,rfl,rfl,.del t x h g,fun t vs e=>by cases e⟩
 |desc e x y h g _=>exact⟨[],_,rfl,rfl,.desc e x y h g,fun t vs e=>by cases e⟩
 |ins t y h g ih=>
  obtain⟨y1,y2,rfl,h1,h2,h3⟩:=ih;exact⟨y::y1,y2,rfl,by rw[GV,List.map_cons,List.map_cons,h,h1],h2,h3⟩
theorem Vx{R:E->T->T->Prop}(h0:∀x y,Ag x=Ag y->R E0 x y){a b:List T}{p:Nat}{ks:List KE}(h:Z4 R a b p ks):∀i:Nat,p<=i->R (Eh ks i) (a.getD i T0) (b.getD i T0):=by
 induction h with
 |nil p h=>exact fun i hi=>h0 _ _ (h i hi)
 |cons p i e ks hp h hi he hr g ih=>
  intro j hj;unfold Eh;rw[List.find?_cons];by_cases ei:i=j
  ·subst ei;simpa using hr
  ·rw[show decide ((KE.mk (i:Nat) e).at_=(j:Int))=false from decide_eq_false (by show ¬((i:Nat):Int)=(j:Int);omega)];by_cases c:i<j
   ·exact ih j oF
   ·have hn:ks.find? (fun w=>decide (w.at_=(j:Int)))=none:=List.find?_eq_none.2 fun w hw=>by
     obtain⟨k,k1,k2,_⟩:=Na g w hw;simp;omega
    simp only[hn];exact h0 _ _ (h j hj oF)
theorem PU:∀{ws:List WE} {n:Nat} {w:WE},w∈ws->w.at_<Cn n ws
 |x::ws,n,w,h=>by
  show w.at_<Cn (max n (x.at_+1).toNat) ws;rcases List.mem_cons.1 h with rfl|h
  ·rw[G4];omega
  ·exact PU h
theorem kj:∀{ws:List KE} {n:Nat} {w:KE},w∈ws->w.at_<B0 n ws
 |x::ws,n,w,h=>by
  show w.at_<B0 (max n (x.at_+1).toNat) ws;rcases List.mem_cons.1 h with rfl|h
  ·rw[LA];omega
  ·exact kj h
theorem lx{α:Type}(g:Nat->α)(z:α)(n i:Nat)(h:n<=i->g i=z):((List.range n).map g).getD i z=g i:=by
 by_cases c:i<n
 ·simp[List.getD_eq_getElem?_getD,c]
 ·rw[List.getD_eq_getElem?_getD,List.getElem?_eq_none (by simp;omega),h oF];rfl
theorem AaQ{f:Nat}{at':DQ}{o:T}{p q:E}(h:p.kind=0):mg f at' o p q=(Ge q o,[]):=by
 cases f with
 |zero=>exact if_pos h
 |succ f=>rw[mg,if_neg oF,if_neg oF];exact if_pos h
end Go.Proofs.YtlaapfplenlfaaaGreat
namespace Go.Proofs.YtlaapfplenlfaaaGreat
set_option maxRecDepth 20000
open Go Go.G Go.Proofs
@[simp]theorem Al2:Eg Tryz.prog 35=some 1:=by kernel_rfl
@[simp]theorem AmX:Eg Tryz.prog 49=some 1:=by kernel_rfl
@[simp]theorem AmL:Eg Tryz.prog 51=some 10:=by kernel_rfl
@[simp]theorem AmN:Eg Tryz.prog 65=some 2:=by kernel_rfl
@[simp]theorem Al6:Eg Tryz.prog 66=some 1:=by kernel_rfl
@[simp]theorem Akq:Eg Tryz.prog 110=some 1:=by kernel_rfl
@[simp]theorem AkV:Eg Tryz.prog 117=some 29:=by kernel_rfl
@[simp]theorem Akt:EE Tryz.prog 35=some false:=by kernel_rfl
@[simp]theorem Aki:EE Tryz.prog 49=some false:=by kernel_rfl
@[simp]theorem Alu:EE Tryz.prog 66=some false:=by kernel_rfl
@[simp]theorem Ag8:EE Tryz.prog 110=some false:=by kernel_rfl
@[simp]theorem AiI:EE Tryz.prog 117=some true:=by kernel_rfl
@[simp]theorem Ah0:BW Tryz.prog 22=some (Value.slice none 0 0):=by kernel_rfl
@[simp]theorem Aif:BW Tryz.prog 27=some (Value.slice none 0 0):=by kernel_rfl
@[simp]theorem Ai1:BW Tryz.prog 51=some (Value.agg #[Value.slice none 0 0,Value.int i64 0,Value.slice none 0 0,Value.slice none 0 0,Value.int i64 0,Value.slice none 0 0,Value.slice none 0 0,Value.int i64 0,Value.slice none 0 0,Value.slice none 0 0]):=by kernel_rfl
@[simp]theorem AhE:BW Tryz.prog 65=some (Value.agg #[Value.int i64 0,Value.int i64 0]):=by kernel_rfl
@[simp]theorem AfD:BW Tryz.prog 117=some (Value.agg #[Value.int i64 0,Value.int i64 0,Value.int i64 0,Value.slice none 0 0,Value.int i64 0,Value.int i64 0,Value.slice none 0 0,Value.slice none 0 0,Value.int i64 0,Value.slice none 0 0,Value.slice none 0 0,Value.slice none 0 0,Value.slice none 0 0,Value.int i64 0,Value.slice none 0 0,Value.int i64 0,Value.int i64 0,Value.slice none 0 0,Value.int i64 0,Value.int i64 0,Value.slice none 0 0,Value.slice none 0 0,Value.int i64 0,Value.slice none 0 0,Value.slice none 0 0,Value.slice none 0 0,Value.slice none 0 0,Value.int i64 0,Value.slice none 0 0]):=by kernel_rfl
@[simp]theorem Afe:Ce Tryz.prog 51=some 192:=by kernel_rfl
@[simp]theorem Agg:Ce Tryz.prog 65=some 16:=by kernel_rfl
@[simp]theorem AdH:Ce Tryz.prog 117=some 488:=by kernel_rfl
@[simp]theorem yX:Am Tryz.prog 68 0=some 0:=by kernel_rfl
@[simp]theorem tu:Am Tryz.prog 112 0=some 0:=by kernel_rfl
@[simp]theorem uf:Am Tryz.prog 112 1=some 1:=by kernel_rfl
@[simp]theorem uF:Am Tryz.prog 112 2=some 2:=by kernel_rfl
@[simp]theorem ug:Am Tryz.prog 112 3=some 5:=by kernel_rfl
@[simp]theorem uG:Am Tryz.prog 112 4=some 6:=by kernel_rfl
@[simp]theorem uz:Am Tryz.prog 112 5=some 7:=by kernel_rfl
@[simp]theorem tT:Am Tryz.prog 112 6=some 8:=by kernel_rfl
@[simp]theorem tP:Am Tryz.prog 117 0=some 0:=by kernel_rfl
@[simp]theorem uq:Am Tryz.prog 117 1=some 1:=by kernel_rfl
@[simp]theorem uy:Am Tryz.prog 117 2=some 15:=by kernel_rfl
@[simp]theorem uh:Am Tryz.prog 179 0=some 0:=by kernel_rfl
@[simp]theorem tF:Am Tryz.prog 179 1=some 1:=by kernel_rfl
@[simp]theorem Afn(ps:List (Nat × A)):CY Tryz.prog 51 ps=(DI (fun i=>([(0,1),(1,3),(4,3),(7,3)]:List (Nat × Nat))[i]?) [A.sl true [],iv 0,A.sl true [],A.sl true [],iv 0,A.sl true [],A.sl true [],iv 0,A.sl true [],A.sl true []] ps).map A.agg:=by kernel_rfl
@[simp]theorem Ae4(ps:List (Nat × A)):CY Tryz.prog 65 ps=(DI (fun i=>([(0,1),(1,1)]:List (Nat × Nat))[i]?) [iv 0,iv 0] ps).map A.agg:=by kernel_rfl
@[simp]theorem Agu(ps:List (Nat × A)):CY Tryz.prog 68 ps=(DI (fun i=>([(0,1)]:List (Nat × Nat))[i]?) [A.sl true []] ps).map A.agg:=by kernel_rfl
@[simp]theorem Aep(ps:List (Nat × A)):CY Tryz.prog 112 ps=(DI (fun i=>([(0,1),(1,1),(2,3),(5,1),(6,1),(7,1),(8,1)]:List (Nat × Nat))[i]?) [A.v (Value.pointer none),A.sl true [],iv 0,A.sl true [],A.sl true [],iv 0,A.sl true [],A.sl true [],A.sl true []] ps).map A.agg:=by kernel_rfl
@[simp]theorem Adx(ps:List (Nat × A)):CY Tryz.prog 117 ps=(DI (fun i=>([(0,1),(1,14),(15,14)]:List (Nat × Nat))[i]?) [iv 0,iv 0,iv 0,A.sl true [],iv 0,iv 0,A.sl true [],A.sl true [],iv 0,A.sl true [],A.sl true [],A.sl true [],A.sl true [],iv 0,A.sl true [],iv 0,iv 0,A.sl true [],iv 0,iv 0,A.sl true [],A.sl true [],iv 0,A.sl true [],A.sl true [],A.sl true [],A.sl true [],iv 0,A.sl true []] ps).map A.agg:=by kernel_rfl
@[simp]theorem Adj(ps:List (Nat × A)):CY Tryz.prog 179 ps=(DI (fun i=>([(0,1),(1,1)]:List (Nat × Nat))[i]?) [A.sl true [],iv 0] ps).map A.agg:=by kernel_rfl
def Uc:CC:=Bh (cG Tryz.f166 1 [[1,1000],[5],[1,2,5],[995],[999,1,2],[1,2]])
theorem fQ:Bs Tryz.prog 166 12 [(.tmp 2)] Uc:=Aq Tryz.func166
def Kn:CC:=Bh (cG Tryz.f167 1 [[0],[0,2]])
theorem Rm:Bs Tryz.prog 167 9 [(.tmp 2)] Kn:=Aq Tryz.func167
def Jk:CC:=Bh (cG Tryz.f164 1 [[0],[0,2]])
theorem O8:Bs Tryz.prog 164 20 [(.tmp 2)] Jk:=Aq Tryz.func164
def Hk:CC:=Bh (cG Tryz.f165 63 [[4,6,3005,9005],[6]])
def Km:CC:=CV (cG Tryz.f165 1 [[0,1,4,1001],[5,7002],[17],[0,1,17],[5],[995],[999,0,1,5],[6,7,3003,4004],[31],[1,5,31],[],[999],[994]]) Hk
theorem Rz:Bs Tryz.prog 165 62 [(.cell 4 91)] Km:=Aq Tryz.func165
def Gi:CC:=Bh (cG Tryz.f133 19 [[0,1,6,33],[33,13002],[49],[49,13003],[65],[0,1,65,76],[4,5,6,76],[995],[999,4,5,6],[4,5,6],[0,1,4,5,6,7],[7,10004]])
def TX:CC:=CV (cG Tryz.f133 1 [[0,1],[6],[996]]) Gi
theorem eD:Bs Tryz.prog 133 78 [(.tmp 4),(.tmp 5)] TX:=Aq Tryz.func133
def OO:CC:=Bh (cG Tryz.f86 1 [[0,1],[0,1,4,5,3000,6001]])
theorem Xe:Bs Tryz.prog 86 15 [(.tmp 4),(.tmp 5)] OO:=Aq Tryz.func86
def B4:CC:=Bh (cG Tryz.f91 1 [[0],[4],[0,2,4],[995],[999,0,2],[0,2,3000]])
theorem CG:Bs Tryz.prog 91 8 [(.tmp 2)] B4:=Aq Tryz.func91
def Kd:CC:=Bh (cG Tryz.f58 1 [[0,1,7,8,9,10,1001,2002,3003,4004],[0,1,8,9,16005],[7]])
theorem PZ:Bs Tryz.prog 58 30 [(.cell 10 25)] Kd:=Aq Tryz.func58
def OS:CC:=Bh (cG Tryz.f84 1 [[0,1,2],[0,1,2,6,11000]])
theorem W9:Bs Tryz.prog 84 18 [(.tmp 6)] OS:=Aq Tryz.func84
def U6:CC:=Bh (cG Tryz.f54 1 [[2,3,4,1000,2001,3002],[2,3,5,7003],[5]])
theorem fm:Bs Tryz.prog 54 14 [(.cell 4 25)] U6:=Aq Tryz.func54
def Cd:CC:=Bh (cG Tryz.f34 1 [[0,1,7,8,9,10,1001,2002,3003,4004],[13],[0,1,7,8,9,13],[0,1,7,8,9,20],[0,1,7,8,9,20],[0,1,7,8,9,27],[0,1,7,8,9,27],[0,1,7,8,9,42],[0,1,7,8,9,42],[995],[999,0,1,7,8,9],[8,9,11,12,7005,8006],[65],[0,1,7,11,12,65],[995],[999,0,1,7,11,12],[0,1,7,11,12]])
theorem CR:Bs Tryz.prog 34 73 [(.cell 10 25)] Cd:=Aq Tryz.func34
def Pn:CC:=Bh (cG Tryz.f132 1 [[0,2,1000],[0]])
theorem XW:Bs Tryz.prog 132 6 [(.cell 2 25)] Pn:=Aq Tryz.func132
def Dz:CC:=Bh (cG Tryz.f131 8 [[0,1,2,8],[995],[999,8],[3002]])
def IB:CC:=CV (cG Tryz.f131 1 [[996],[999,0,1,2],[0,1,2]]) Dz
theorem Oq:Bs Tryz.prog 131 16 [] IB:=Aq Tryz.func131
def D6:CC:=Bh (cG Tryz.f83 3911 [[0,1,3,4,7,11,12,13,14,15,16],[17,18],[19],[13,19,127],[14,15,16,17,18,127],[995],[999,14,15,17],[14,15,17]])
def A7:CC:=CV (cG Tryz.f83 71 [[0,1,3,4,7,11,12,31],[995],[999,31],[13,14,1003,2004],[],[46],[15,46],[15,75],[15,75],[],[999],[994]]) D6
def Kg:CC:=CV (cG Tryz.f83 1 [[0,1,3,4,7,1001],[11,4002],[12],[996],[999,0,1,3,4,7,12],[10,11]]) A7
theorem PK:Bs Tryz.prog 83 149 [(.tmp 10)] Kg:=Aq Tryz.func83
def KF:CC:=Bh (cG Tryz.f85 37 [[1,4,7,8,9,10],[995],[999,10],[6,3001],[16],[1,6,7,8,9,16],[995],[999,1,7,8,9],[]])
def Wz:CC:=CV (cG Tryz.f85 1 [[0,1,4,1000],[0,7,8,9],[996],[999,1,7,8,9],[]]) KF
theorem iM:Bs Tryz.prog 85 21 [(.cell 4 30)] Wz:=Aq Tryz.func85
def Bk:CC:=Bh (cG Tryz.f55 151 [[0,1,7,8,9,10,11,12,33,34,35,36],[995],[999,36],[14],[15],[42],[14,15,42],[999],[]])
def CQ:CC:=Bh (cG Tryz.f55 303 [[0,1,7,8,9,10,11,53,54,55],[995],[999,55],[16],[16,20006],[]])
def HL:CC:=gR (cG Tryz.f55 1 [[0,1,7,8,9,10,1001,2002,3003,4004],[11,10005],[12],[33,34,35],[996],[999,33,34,35],[12,53,54],[996],[999,0,1,7,8,9,53,54],[11]]) Bk CQ
theorem L7:Bs Tryz.prog 55 80 [(.cell 10 25)] HL:=Aq Tryz.func55
def Ko:CC:=Bh (cG Tryz.f134 1 [[0,1,3,1003],[0,1]])
theorem Rx:Bs Tryz.prog 134 11 [(.cell 3 25)] Ko:=Aq Tryz.func134
def Md:CC:=Bh (cG Tryz.f87 1 [[1,1002],[32],[32,10003],[62],[62,10004],[2],[2],[999],[1]])
theorem Tr:Bs Tryz.prog 87 87 [] Md:=Aq Tryz.func87
def EB:CC:=Bh (cG Tryz.f88 1 [[0,4,5,1002,2003],[6,12004],[7],[],[56],[0,4,5,6,7,56,19005],[0,4,5,6,7,87],[0,4,5,6,7,87,19006],[0,4,5,6,7,118],[0,4,5,6,7,118,18007]])
theorem GL:Bs Tryz.prog 88 127 [] EB:=Aq Tryz.func88
def D5:CC:=Bh (cG Tryz.f56 5233047 [[7,10,11,15,29,30,31,47,48,49],[995],[999,49],[],[]])
def Co:CC:=CV (cG Tryz.f56 151 [[7,10,11,29,30,31,32],[995],[999,32],[15,3006],[36],[57],[15,36,57,9007],[15,70],[15,70,9008],[15],[47,48],[996],[999,15,47,48],[]]) D5
def J4:CC:=CV (cG Tryz.f56 1 [[0,1,7,8,9,10,1001,2002,3003,4004],[0,1,11,5005],[8,9,12],[12,29,30,31],[996],[997,29,30,31],[],[7,11]]) Co
theorem PQ:Bs Tryz.prog 56 93 [(.cell 10 25)] J4:=Aq Tryz.func56
def RL:CC:=Bh (cG Tryz.f14 1 [[3,4,5,6,1000,2001,3002,4003],[10,7004],[12,7005],[10,12,32],[3,4,5,7,8,32],[995],[999,3,4,5,7,8],[13,2006],[998],[3,4,5,14,6007],[7,8,13,14]])
theorem ao:Bs Tryz.prog 14 47 [(.cell 6 25),(.tmp 7),(.tmp 8)] RL:=Aq Tryz.func14
def RJ:CC:=Bh (cG Tryz.f19 1 [[3,4,5,6,8,1000,2001,3002,4003],[3,4,5,6,10,11,16004],[9,10,11]])
theorem aR:Bs Tryz.prog 19 30 [(.cell 8 25),(.tmp 9)] RJ:=Aq Tryz.func19
end Go.Proofs.YtlaapfplenlfaaaGreat
namespace Go.G
open Go
theorem lR{P:Program}{f:FuncId}{n:Nat}{rs:List ResultVar}{cc:CC}{as':Nat->Nat->List A}{F F':Vi}{x:Nat->Nat->A}(t:Bs P f n rs cc)(ha:(as' 0 1).length<=n)(h0:Yo as')(h1:Uo x)
  (h:∀w0 I0 M0 m0,(∀r p b,2<=r->¬M0 (r::p) b)->WPC (En P w0 I0 M0 n m0) cc (Pf (En P w0 I0 M0 n m0) rs 2 (x 0 1) (ov 0 (F'.B 0 1) (ov 1 (F'.C 0 1) (HO [])))) ⟨Rp (as' 0 1),ov 0 (F.B 0 1) (ov 1 (F.C 0 1) (HO []))⟩):MR P f as' F x F':=
 ⟨h0,h1,Qv t ha fun w0 I0 M0 m0 hM=>h w0 I0 M0 m0 fun r p b hr=>hM (r::p) b (by
  simp only[A6];rw[if_neg oF,if_neg oF];rfl)⟩
end Go.G
namespace Go.Proofs.YtlaapfplenlfaaaGreat
open Go Go.G Go.Proofs Go.PL
def Am5(u:Nat)(cs:List A)(h:∀x,x∈cs->F5 (fun _=>x)):Fam:=⟨fun _ p=>if p=[]then ⟨u,.cells cs⟩else ⟨0,.none⟩,fun {g δ r r'} hg hd p=>by
  by_cases hp:p=[]
  ·rw[if_pos hp];exact Fam.cells_ren ((FamL.all h).ren hg hd)
  ·rw[if_neg hp];rfl,fun {D r} hD p=>by
  by_cases hp:p=[]
  ·rw[if_pos hp];exact(FamL.all h).refs hD
  ·rw[if_neg hp];trivial⟩
theorem IH(o:OP):F5 (fun _=>oX o):=Fb (cs:=iv o.kind::iv o.n::AV o.l::eL o.e) rfl fun x hx=>by simp at hx;rcases hx with rfl|rfl|rfl|rfl|rfl|rfl|rfl|rfl|rfl|rfl|rfl|rfl|rfl|rfl<;>rfl
def Z6(v:Nat)(l:List OP)(al:Int):Fam:=Am5 v [HQ l,iv al] fun x hx=>by
 simp at hx;rcases hx with rfl|rfl
 ·exact Bp
 ·exact AH
@[simp]theorem Am6{v:Nat}{l:List OP}{al:Int}{r:Nat}{p:Nm}:(Z6 v l al).F r p=if p=[]then ⟨v,.cells [HQ l,iv al]⟩else ⟨0,.none⟩:=rfl
def Xk(o:OP):Int:=if o.kind=3 then 1 else o.n+o.l.length
def frO(o:OP)(n:Nat):OP:=if o.kind=0 then .mk o.kind n o.l o.e else .mk o.kind o.n (o.l.take n) o.e
def xv(o:OP)(n:Nat):OP:=if o.kind=0 then .mk o.kind (o.n-n) o.l o.e else .mk o.kind o.n (o.l.drop n) o.e
def OT(o:OP)(n:Nat):OP:=if Xk o<=n then o else frO o n
def Re(o:OP)(n:Nat)(l:List OP):List OP:=if Xk o<=n then l else xv o n::l
def sgO(al:Int):List OP->Bool
 |[]=>false
 |o::_=>decide (o.kind=al)
def gP(x:OP):Prop:=Nr x/\(x.kind=1\/x.kind=2->x.l≠[])/\x.l.length<=1048576
theorem PB{x:OP}(h:gP x):1<=Xk x/\Xk x<=2097152:=by
 obtain⟨h1,h2,h3⟩:=h;unfold Xk;rcases h1 with ⟨k,a,b,c⟩|⟨k,a⟩|⟨k,a⟩|⟨k,a,b⟩
 ·rw[if_neg oF,c];simp;omega
 ·have:=List.length_pos_iff.2 (h2 (.inl k));rw[if_neg oF];omega
 ·have:=List.length_pos_iff.2 (h2 (.inr k));rw[if_neg oF];omega
 ·rw[if_pos k];omega
theorem Lx{o:OP}(h:gP o):G.Spec Tryz.prog 166 [oX o] (iv (Xk o)):=by
 have hs:=PB h;refine Aj fQ iS fun w0 I0=>?_;rw[Ao Uc.eq_1];by_cases h3:o.kind=3
 ·have:Xk o=1:=if_pos h3;rw[this];simp[h3];exact Ad rfl
 ·have e:Xk o=o.n+o.l.length:=if_neg h3;rw[e]at hs ⊢;have ew:i64.wrap (o.n+o.l.length)=o.n+o.l.length:=CX;simp[h3,ew];exact Ad rfl
theorem LO(v:Nat)(l:List OP)(al:Int):SpecF Tryz.prog 167 (fun q=>[.pob [q] v 0]) (Z6 v l al) (fun _=>bv l.isEmpty) (Z6 v l al):=by
 refine Az Rm iS (Af AB Ak) AH fun w0 I0 M0 m0=>?_;rw[Ao Kn.eq_1];simp;refine Av (r0:=bv l.isEmpty) ?_ rfl (fun p=>iS);cases l<;>simp
theorem FQ(v:Nat)(l:List OP)(al:Int):SpecF Tryz.prog 164 (fun q=>[.pob [q] v 0]) (Z6 v l al) (fun _=>bv (sgO al l)) (Z6 v l al):=by
 refine Az O8 iS (Af AB Ak) AH fun w0 I0 M0 m0=>?_;rw[Ao Jk.eq_1];have D:=LO v l al;cases l with
 |nil=>
  simp;refine GM 0 D (fun p=>iS) iS iS ?_;simp;exact Av (r0:=bv false) iS rfl (fun p=>iS)
 |cons o l=>
  simp;refine GM 0 D (fun p=>iS) iS iS ?_;simp;exact Av (r0:=bv (decide (o.kind=al))) iS rfl (fun p=>iS)
def opB(x:Bool × OP):A:=.agg (iv x.2.kind::iv x.2.n :: .sl x.1 (x.2.l.map tA)::eL x.2.e)
@[simp]theorem AfM(x:Bool × OP):(opB x).cells=iv x.2.kind::iv x.2.n :: .sl x.1 (x.2.l.map tA)::eL x.2.e:=rfl
theorem Abk(l:List OP):(l.map fun o=>((false,o):Bool × OP)).map opB=l.map oA:=by
 rw[List.map_map];exact List.map_congr_left fun o _=>by simp[opB]
theorem zx{H:Hp}{u n:Nat}{d:Nm}{l:List (Bool × OP)}(h:vr (H d) u=some (14,l.map opB))(hn:n=l.length):Iz H (.osl d u 14 0 n) (HQ (l.map Prod.snd)):=by
 have:=YM (g:=fun x=>oA x.2) h hn (fun x _=>by
  obtain⟨b,o⟩:=x;simp[A.soft,A.softL,KL,Hf,Us,X2,Yt,A.ones,A.bare])
 rw[show HQ (l.map Prod.snd)=.sl false (l.map fun x=>oA x.2)from by rw[HQ,List.map_map];rfl];exact this
abbrev Q9(o:OP):List A:=iv o.kind::iv o.n::AV o.l::eL o.e
def aX:List A:=[iv 0,iv 0,.sl true [],iv 0,iv 0,.sl true [],.sl true [],iv 0,.sl true [],.sl true [],.sl true [],.sl true [],iv 0,.sl true []]
section
variable {v:Nat} {al:Int} {w0:World} {I0:Nat->Prop} {M0:Nm->Nat->Prop} {m0:Mu}
theorem uN{l:List OP}(hM:∀(r:Nat)(p:List Nat)(b:Nat),1<=r->¬M0 (r::p) b){o1 o2:OP}{b1 b2:Bool}{H:Hp}(h0:∀p,p≠[]->H (0::p)=⟨0,.none⟩)(h00:H [0]=⟨v,.cells [.osl [5] 2 14 0 (1+l.length),iv al]⟩)
  (h1:H [1]=⟨1,.cells (iv o1.kind::iv o1.n :: .sl b1 (o1.l.map tA)::eL o1.e)⟩) (h5:H [5]=⟨2,.arr 14 (opB (b2,o2)::l.map oA)⟩) :
  Pf (En Tryz.prog w0 I0 M0 62 m0) [ResultVar.cell 4 91] 1 (oX o1) (ov 0 ((Z6 v (o2::l) al).F 0) (HO [])) .ret ⟨lk [(4,.pob [1] 1 0)],H⟩:=by
 obtain⟨H2,g1,g2⟩:=K8 (c:=En Tryz.prog w0 I0 M0 62 m0) (s:=lk [(4,.pob [1] 1 0)]) (H:=H) (fun r=>r=5) (fun r p b h=>hM r p b oF) (r0:=0) (p0:=[]) oF (u:=v) (cs:=[.osl [5] 2 14 0 (1+l.length),iv al]) h00 (cs':=[HQ (o2::l),iv al]) (by simp[A.ones]) (fun H1 h1=>⟨by
  have e5:=h1 5 [] rfl;have:=zx (H:=H1) (u:=2) (n:=1+l.length) (d:=[5]) (l:=(b2,o2)::l.map fun o=>(false,o)) (by
   rw[e5,List.map_cons,Abk,h5];simp) (by simp;omega)
  rw[show((b2,o2)::l.map fun o=>((false,o):Bool × OP)).map Prod.snd=o2::l from by simp[Function.comp_def]]at this;exact this,Ad rfl,trivial⟩)
 refine KK g1 ?_;have k1:=g2 1 [] oF;rw[h1]at k1;obtain⟨H3,g3,g4⟩:=K8 (c:=En Tryz.prog w0 I0 M0 62 m0) (s:=lk [(4,.pob [1] 1 0)]) (H:=Ar H2 [0] ⟨v,.cells [HQ (o2::l),iv al]⟩) (fun _=>False) (fun _ _ _ h=>h.elim) (r0:=1) (p0:=[]) iS (u:=1) (cs:=iv o1.kind::iv o1.n :: .sl b1 (o1.l.map tA)::eL o1.e) (by simp[Aa,k1]) (cs':=Q9 o1) (by simp[A.ones]) (fun H1 h1=>⟨Ad rfl,Ad rfl,Ai,NK iS⟩);refine KK g3 (Av (r0:=oX o1) (by simp[HX]) rfl fun p=>?_);have k2:=g4 0 p iS;by_cases hp:p=[]
 ·subst hp;simp[Aa,k2]
 ·have k3:=g2 0 p oF;rw[h0 p hp]at k3;simp[Aa,hp]at k2 ⊢;rw[k2,k3]
theorem dG{o:OP}{l:List OP}(hl:l.length<=10000000)(hM:∀(r:Nat)(p:List Nat)(b:Nat),1<=r->¬M0 (r::p) b){o1 o2:OP}{b1 b2:Bool}{H:Hp}(h0:∀p,H (0::p)=(Z6 v (o::l) al).F 0 p)(h1:H [1]=⟨1,.cells aX⟩)
  (h3:H [3]=⟨1,.cells (iv o1.kind::iv o1.n :: .sl b1 (o1.l.map tA)::eL o1.e)⟩) (h4:H [4]=⟨1,.cells (iv o2.kind::iv o2.n :: .sl b2 (o2.l.map tA)::eL o2.e)⟩) (h5:H [5]=⟨0,.none⟩) :
  WPC (En Tryz.prog w0 I0 M0 62 m0) Hk (Pf (En Tryz.prog w0 I0 M0 62 m0) [ResultVar.cell 4 91] 1 (oX o1) (ov 0 ((Z6 v (o2::l) al).F 0) (HO []))) ⟨lk [(0,.pob [0] v 0),(4,.pob [1] 1 0),(6,.pob [3] 1 0),(7,.pob [4] 1 0)],H⟩:=by
 have c1':(1:Int)<=(l.length:Int)+1:=oF
 have e00:H [0]=⟨v,.cells [HQ (o::l),iv al]⟩:=by rw[h0];simp
 rw[(Ao Hk.eq_1)];simp[h1,h3,h4,h5,e00,c1',Aa,aX];refine⟨oF,?_⟩;refine uN hM (b1:=b1) (b2:=b2) (fun p hp=>?_) ?_ ?_ ?_
 ·have:=h0 p;simp[hp]at this;simp[Aa,hp,this]
 ·simp[Aa]
 ·simp[Aa]
 ·simp[Aa,opB,Ax]
end
theorem OC{o:OP}{l:List OP}(h:gP o)(hl:l.length<=10000000){n:Nat}(hn:1<=n)(v:Nat)(al:Int):SpecF Tryz.prog 165 (fun q=>[.pob [q] v 0,iv n]) (Z6 v (o::l) al) (fun _=>oX (OT o n)) (Z6 v (Re o n l) al):=by
 have S:=Lx h;have hs:=PB h;refine KV Rz iS (Af AB (Af AH Ak)) (IH _) fun w0 I0 M0 m0 hM=>?_;rw[BG Km.eq_1];simp;refine Ae S iS ?_;by_cases c:Xk o<=n
 ·have e1:OT o n=o:=if_pos c;have e2:Re o n l=l:=if_pos c;rw[e1,e2];have c1':(1:Int)<=(l.length:Int)+1:=oF
  simp[c,c1',Ax];refine Av (r0:=oX o) (by simp[HX]) rfl fun p=>?_;by_cases hp:p=[]
  ·subst hp;simp[Aa]
  ·simp[Aa,hp]
 ·have e1:OT o n=frO o n:=if_neg c;have e2:Re o n l=xv o n::l:=if_neg c;have c0:=c;rw[e1,e2];unfold Xk at c;rcases h.1 with ⟨k,a,b,d⟩|⟨k,a⟩|⟨k,a⟩|⟨k,a,b⟩
  ·have ew:i64.wrap (o.n-n)=o.n-n:=CX;have e3:frO o n=.mk o.kind n o.l o.e:=if_pos k;have e4:xv o n=.mk o.kind (o.n-n) o.l o.e:=if_pos k;simp[c0,k,ew];rw[e3,e4];exact dG (o:=o) hl hM (o1:=.mk o.kind n o.l o.e) (o2:=.mk o.kind (o.n-n) o.l o.e) (b1:=false) (b2:=false) (fun p=>iS) (by simp[aX]) (by simp[k]) (by simp[k]) iS
  ·have e3:frO o n=.mk o.kind o.n (o.l.take n) o.e:=if_neg oF;have e4:xv o n=.mk o.kind o.n (o.l.drop n) o.e:=if_neg oF;rw[if_neg oF,a]at c;have c5:n<=o.l.length:=oF
   have c6:(n:Int)<=o.l.length:=oF
   have c7:DP o.l.length none (some (iv n)) (some (iv n))=some (0,n,some n):=by simp[DP,G7,c5,c6]
   have c8:List.take (o.l.length-n) (List.drop n (o.l.map tA))=(o.l.drop n).map tA:=by rw[List.map_drop];exact Ax iS
   have c9:List.take n (o.l.map tA)=(o.l.take n).map tA:=by rw[List.map_take]
   simp[c0,k,c5,c6,c7,c8,Jp];rw[e3,e4,c9];exact dG (o:=o) hl hM (o1:=.mk o.kind o.n (o.l.take n) o.e) (o2:=.mk o.kind o.n (o.l.drop n) o.e) (b1:=true) (b2:=false) (fun p=>iS) (by simp[aX]) (by simp[k]) (by simp[k]) iS
  ·have e3:frO o n=.mk o.kind o.n (o.l.take n) o.e:=if_neg oF;have e4:xv o n=.mk o.kind o.n (o.l.drop n) o.e:=if_neg oF;rw[if_neg oF,a]at c;have c5:n<=o.l.length:=oF
   have c6:(n:Int)<=o.l.length:=oF
   have c7:DP o.l.length none (some (iv n)) (some (iv n))=some (0,n,some n):=by simp[DP,G7,c5,c6]
   have c8:List.take (o.l.length-n) (List.drop n (o.l.map tA))=(o.l.drop n).map tA:=by rw[List.map_drop];exact Ax iS
   have c9:List.take n (o.l.map tA)=(o.l.take n).map tA:=by rw[List.map_take]
   simp[c0,k,c5,c6,c7,c8,Jp];rw[e3,e4,c9];exact dG (o:=o) hl hM (o1:=.mk o.kind o.n (o.l.take n) o.e) (o2:=.mk o.kind o.n (o.l.drop n) o.e) (b1:=true) (b2:=false) (fun p=>iS) (by simp[aX]) (by simp[k]) (by simp[k]) iS
  ·rw[if_pos k]at c;omega
inductive Pc where
 |a (o:OP)
 |b (o:OP)
 |both (o o':OP)
inductive qF:List OP->List OP->List Pc->Prop
 |nil:qF [] [] []
 |fst (p:OP) (ps qs:List OP) (l:List Pc) (h:p.kind=2) (g:qF ps qs l):qF (p::ps) qs (.a p::l)
 |snd (ps:List OP) (q:OP) (qs:List OP) (l:List Pc) (hp:sgO 2 ps=false) (h:q.kind=2) (g:qF ps qs l):qF ps (q::qs) (.b q::l)
 |both (p:OP) (ps:List OP) (q:OP) (qs:List OP) (n:Nat) (l:List Pc) (hp:p.kind≠2) (hq:q.kind≠2) (hn:(n:Int)=min (Xk p) (Xk q)) (g:qF (Re p n ps) (Re q n qs) l):qF (p::ps) (q::qs) (.both (OT p n) (OT q n)::l)
def ar(R:E->T->T->Prop)(o:OP)(t:T):Prop:=(o.kind=0/\o.e=E0)\/(o.kind=1/\o.e=E0)\/(o.kind=3/\∃x,R o.e t x)
def Ru(o:OP):Nat:=max (o.n.toNat+o.l.length) 1
def MO(o:OP):U:=if o.kind=0 then .keep else if o.kind=1 then .del T0 else .desc o.e
def OK:U->U->Prop
 |.keep,.keep=>True
 |.del _,.del _=>True
 |.desc e,.desc e'=>e=e'
 |_,_=>False
inductive RZ(R:E->T->T->Prop):List Pc->List T->Prop
 |nil:RZ R [] []
 |a (o:OP) (l:List Pc) (a:List T) (h:o.kind=2) (g:RZ R l a):RZ R (.a o::l) a
 |b (o:OP) (l:List Pc) (a:List T) (h:o.kind=2) (g:RZ R l a):RZ R (.b o::l) a
 |both (o o':OP) (l:List Pc) (a1 a2:List T) (hn:a1.length=Ru o) (hl:0<=o.n) (h:∀t,t∈a1->ar R o t/\ar R o' t) (g:RZ R l a2):RZ R (.both o o'::l) (a1++a2)
noncomputable def NZ(mg:DQ->T->E->E->T × List Cf)(at':DQ)(o o':OP):List T->Nat->List T × List Cf
 |[],n=>([],[])
 |k::ks,n=>((Cs mg (at'++[(0,(n:Int))]) k (MO o) (MO o')).1++(NZ mg at' o o' ks (n+1)).1,(Cs mg (at'++[(0,(n:Int))]) k (MO o) (MO o')).2++(NZ mg at' o o' ks (n+1)).2)
noncomputable def run(mg:DQ->T->E->E->T × List Cf)(at':DQ)(kind:Int):List Pc->List T->List T->List T->Nat->List T × List Cf
 |[],mine,hers,ks,n=>Gb at' kind n mine hers
 |.a o::l,mine,hers,ks,n=>run mg at' kind l (mine++o.l) hers ks n
 |.b o::l,mine,hers,ks,n=>run mg at' kind l mine (hers++o.l) ks n
 |.both o o'::l,mine,hers,ks,n=>
  ((Gb at' kind n mine hers).1++((NZ mg at' o o' (ks.take (Ru o)) n).1++(run mg at' kind l [] [] (ks.drop (Ru o)) (n+Ru o)).1),
   (Gb at' kind n mine hers).2++((NZ mg at' o o' (ks.take (Ru o)) n).2++(run mg at' kind l [] [] (ks.drop (Ru o)) (n+Ru o)).2))
def cm:List U->Prop
 |.ins _::_=>False
 |_=>True
theorem EA{l:List T}{us:List U}(h:cm us):GV (l.map .ins++us)=l/\Fl (l.map .ins++us)=us:=by
 induction l with
 |nil=>
  cases us with
  |nil=>exact⟨rfl,rfl⟩
  |cons u us=>cases u<;>first|exact⟨rfl,rfl⟩|exact h.elim
 |cons x l ih=>exact⟨by rw[List.map_cons,List.cons_append,GV,ih.1],by rw[List.map_cons,List.cons_append,Fl,ih.2]⟩
section
variable {mg:DQ->T->E->E->T × List Cf} {at':DQ} {kind:Int}
theorem XY(n:Nat):Gb at' kind n [] []=([],[]):=by simp[Gb]
theorem z6{us vs:List U}(hu:cm us)(hv:cm vs)(mine hers:List T):∀(ks:List T)(n:Nat),Kw mg at' kind ks (mine.map .ins++us) (hers.map .ins++vs) n=((Gb at' kind n mine hers).1++(Kw mg at' kind ks us vs n).1,(Gb at' kind n mine hers).2++(Kw mg at' kind ks us vs n).2)
 |[],n=>by
  have e1:=EA (l:=mine) hu;have e2:=EA (l:=hers) hv;have e3:=EA (l:=[]) hu;have e4:=EA (l:=[]) hv;simp only[List.map_nil,List.nil_append]at e3 e4;simp only[Kw,e1,e2,e3,e4,XY,List.append_nil]
 |k::ks,n=>by
  have e1:=EA (l:=mine) hu;have e2:=EA (l:=hers) hv;have e3:=EA (l:=[]) hu;have e4:=EA (l:=[]) hv;simp only[List.map_nil,List.nil_append]at e3 e4;simp only[Kw,e1,e2,e3,e4,XY,List.nil_append]
theorem nI(k:T)(a:DQ){u u' v v':U}(h1:OK u u')(h2:OK v v'):Cs mg a k u v=Cs mg a k u' v':=by
 cases u<;>cases u'<;>first|exact h1.elim|skip
 all_goals cases v<;>cases v'<;>first|exact h2.elim|skip
 all_goals simp only[OK]at h1 h2
 all_goals first|rfl|(subst h1;subst h2;rfl)|(subst h1;rfl)|(subst h2;rfl)
theorem Ow{u u':U}(h:OK u u')(us:List U):cm (u::us):=by
 cases u<;>first|trivial|(cases u'<;>exact h.elim)
theorem de{o o':OP}{us2 vs2:List U}:∀(ks1 ks2:List T)(us1 vs1:List U)(n:Nat),us1.length=ks1.length->vs1.length=ks1.length->(∀u,u∈us1->OK u (MO o))->(∀u,u∈vs1->OK u (MO o')) ->
  Kw mg at' kind (ks1++ks2) (us1++us2) (vs1++vs2) n=((NZ mg at' o o' ks1 n).1++(Kw mg at' kind ks2 us2 vs2 (n+ks1.length)).1,(NZ mg at' o o' ks1 n).2++(Kw mg at' kind ks2 us2 vs2 (n+ks1.length)).2)
 |[],ks2,us1,vs1,n,h1,h2,_,_=>by
  rw[List.eq_nil_of_length_eq_zero h1,List.eq_nil_of_length_eq_zero h2];simp[NZ]
 |k::ks1,ks2,[],vs1,n,h1,h2,_,_=>by simp at h1
 |k::ks1,ks2,u::us1,[],n,h1,h2,_,_=>by simp at h2
 |k::ks1,ks2,u::us1,v::vs1,n,h1,h2,h3,h4=>by
  have ih:=de (us2:=us2) (vs2:=vs2) (o:=o) (o':=o') ks1 ks2 us1 vs1 (n+1) (by simpa using h1) (by simpa using h2) (fun u hu=>h3 u (List.mem_cons_of_mem _ hu)) (fun u hu=>h4 u (List.mem_cons_of_mem _ hu));have e3:=EA (l:=[]) (Ow (h3 u iS) (us1++us2));have e4:=EA (l:=[]) (Ow (h4 v iS) (vs1++vs2));simp only[List.map_nil,List.nil_append]at e3 e4;have eu:Cs mg (at'++[(0,(n:Int))]) k u v=Cs mg (at'++[(0,(n:Int))]) k (MO o) (MO o'):=nI k _ (h3 u iS) (h4 v iS);simp only[List.cons_append,Kw,e3,e4,XY,List.nil_append,lL,List.tail_cons,ih,NZ,eu,List.length_cons,List.append_assoc];rw[show n+1+ks1.length=n+(ks1.length+1)from oF]
end
theorem Xw(l:List T):Nk (.mk 1 0 l E0)=l.map .del:=by simp[Nk]
theorem yM{R:E->T->T->Prop}{p:OP}{ps:List OP}{a x:List T}(h:LdO R (p::ps) a x)(hp:p.kind≠2){n:Nat}(h1:1<=n)(hn:(n:Int)<=Xk p) :
  ∃a1 a2 x2,a=a1++a2/\a1.length=n/\LdO R (Re p n ps) a2 x2/\(∀t,t∈a1->ar R (OT p n) t)/\Ru (OT p n)=n/\0<=(OT p n).n/\Gs (p::ps)=Nk (OT p n)++Gs (Re p n ps)/\(Nk (OT p n)).length=n/\∀u,u∈Nk (OT p n)->OK u (MO (OT p n)):=by
 cases h with
 |@keep _ a b l m hne hl g=>
  have hs:Xk (.mk 0 (l.length:Nat) [] E0)=(l.length:Int):=by simp[Xk]
  rw[hs]at hn;have hll:l.length=m.length:=by simpa using congrArg List.length hl
  by_cases c:(l.length:Int)<=n
  ·have e:n=l.length:=oF
   have e1:OT (.mk 0 (l.length:Nat) [] E0) n=.mk 0 (l.length:Nat) [] E0:=by unfold OT;rw[if_pos (by rw[hs];exact c)]
   have e2:Re (.mk 0 (l.length:Nat) [] E0) n ps=ps:=by unfold Re;rw[if_pos (by rw[hs];exact c)]
   rw[e1,e2];refine⟨l,a,b,rfl,e.symm,g,fun t _=>.inl ⟨rfl,rfl⟩,by simp[Ru];omega,iS,by rw[D0],by simp[Nk,e],fun u hu=>?_⟩;simp[Nk]at hu;rw[hu.2];simp[MO,OK]
  ·have e1:OT (.mk 0 (l.length:Nat) [] E0) n=.mk 0 n [] E0:=by unfold OT;rw[if_neg (by rw[hs];exact c)];rfl
   have e2:Re (.mk 0 (l.length:Nat) [] E0) n ps=.mk 0 ((l.drop n).length:Nat) [] E0::ps:=by
    unfold Re;rw[if_neg (by rw[hs];exact c)];simp[xv];omega
   rw[e1,e2];refine⟨l.take n,l.drop n++a,m.drop n++b,by rw[<-List.append_assoc,List.take_append_drop],by simp;omega,.keep _ _ (fun h=>by have:=congrArg List.length h;simp at this;omega) (by rw[List.map_drop,List.map_drop,hl]) g,fun t _=>.inl ⟨rfl,rfl⟩,by simp[Ru];omega,iS,?_,by simp[Nk],fun u hu=>?_⟩
   ·rw[D0,D0,<-List.append_assoc];simp[Nk];omega
   ·simp[Nk]at hu;rw[hu.2];simp[MO,OK]
 |@del _ a b l m hne hl g=>
  have hs:Xk (.mk 1 0 l E0)=(l.length:Int):=by simp[Xk]
  rw[hs]at hn;have hll:l.length=m.length:=by simpa using congrArg List.length hl
  by_cases c:(l.length:Int)<=n
  ·have e:n=l.length:=oF
   have e1:OT (.mk 1 0 l E0) n=.mk 1 0 l E0:=by unfold OT;rw[if_pos (by rw[hs];exact c)]
   have e2:Re (.mk 1 0 l E0) n ps=ps:=by unfold Re;rw[if_pos (by rw[hs];exact c)]
   rw[e1,e2];refine⟨m,a,x,rfl,oF,g,fun t _=>.inr (.inl ⟨rfl,rfl⟩),by simp[Ru];omega,iS,by rw[D0],by simp[Nk,e],fun u hu=>?_⟩;simp[Nk]at hu;obtain⟨t,_,rfl⟩:=hu;simp[MO,OK]
  ·have e1:OT (.mk 1 0 l E0) n=.mk 1 0 (l.take n) E0:=by unfold OT;rw[if_neg (by rw[hs];exact c)];rfl
   have e2:Re (.mk 1 0 l E0) n ps=.mk 1 0 (l.drop n) E0::ps:=by unfold Re;rw[if_neg (by rw[hs];exact c)];rfl
   rw[e1,e2];refine⟨m.take n,m.drop n++a,x,by rw[<-List.append_assoc,List.take_append_drop],by simp;omega,.del _ _ (fun h=>by have:=congrArg List.length h;simp at this;omega) (by rw[List.map_drop,List.map_drop,hl]) g,fun t _=>.inr (.inl ⟨rfl,rfl⟩),by simp[Ru];omega,iS,?_,by simp[Nk];omega,fun u hu=>?_⟩
   ·rw[D0,D0,<-List.append_assoc];rw[Xw,Xw,Xw,<-List.map_append,List.take_append_drop]
   ·rw[Xw]at hu;obtain⟨t,_,rfl⟩:=List.mem_map.1 hu;simp[MO,OK]
 |ins l m hne hl g=>exact absurd rfl hp
 |@desc _ a b e x y r g=>
  have hs:Xk (.mk 3 0 [] e)=1:=by simp[Xk]
  rw[hs]at hn;have en:n=1:=oF
  subst en;have e1:OT (.mk 3 0 [] e) 1=.mk 3 0 [] e:=by unfold OT;rw[if_pos (by rw[hs];decide)]
  have e2:Re (.mk 3 0 [] e) 1 ps=ps:=by unfold Re;rw[if_pos (by rw[hs];decide)]
  rw[e1,e2];refine⟨[x],a,b,rfl,rfl,g,fun t ht=>.inr (.inr ⟨rfl,y,?_⟩),by simp[Ru],iS,by rw[D0],by simp[Nk],fun u hu=>?_⟩
  ·rw[List.mem_singleton.1 ht];exact r
  ·simp[Nk]at hu;rw[hu];simp[MO,OK]
theorem qE{R:E->T->T->Prop}{q:OP}{qs:List OP}{y:List T}(h:LdO R (q::qs) [] y):q.kind=2:=by
 generalize ha:([]:List T)=a at h;cases h with
 |keep l m hne hl g=>exact absurd (List.append_eq_nil_iff.1 ha.symm).1 hne
 |del l m hne hl g=>
  have:=(List.append_eq_nil_iff.1 ha.symm).1;subst this;exact absurd (by simpa using hl) hne
 |ins l m hne hl g=>rfl
 |desc e x y r g=>cases ha
theorem XH(p:OP)(n:Nat)(ps:List OP):(Re p n ps).length<=ps.length+1:=by unfold Re;split<;>simp
theorem AcZ{o:OP}(h:gP o){n:Nat}(c:¬Xk o<=n):gP (xv o n):=by
 obtain⟨h1,h2,h3⟩:=h;unfold Xk at c;unfold xv;rcases h1 with ⟨k,a,b,d⟩|⟨k,a⟩|⟨k,a⟩|⟨k,a,b⟩
 ·rw[if_neg oF,d]at c;simp at c;rw[if_pos k];exact⟨.inl ⟨k,by simp;omega,by simp;omega,d⟩,fun h=>by simp[k]at h,h3⟩
 ·rw[if_neg oF,a]at c;rw[if_neg oF];exact⟨.inr (.inl ⟨k,a⟩),fun _ h=>by have:=congrArg List.length h;simp at this;omega,by simp;omega⟩
 ·rw[if_neg oF,a]at c;rw[if_neg oF];exact⟨.inr (.inr (.inl ⟨k,a⟩)),fun _ h=>by have:=congrArg List.length h;simp at this;omega,by simp;omega⟩
 ·rw[if_pos k]at c;rw[if_neg oF];exact⟨.inr (.inr (.inr ⟨k,a,by simp[b]⟩)),fun h=>by simp[k]at h,by simp;omega⟩
theorem dI{p:OP}{ps:List OP}(h:∀o,o∈p::ps->gP o)(n:Nat):∀o,o∈Re p n ps->gP o:=by
 intro o ho;unfold Re at ho;split at ho
 ·exact h o (List.mem_cons_of_mem _ ho)
 ·rename_i c;rcases List.mem_cons.1 ho with rfl|ho
  ·exact AcZ (h p iS) c
  ·exact h o (List.mem_cons_of_mem _ ho)
theorem Aev{R:E->T->T->Prop}:∀(N:Nat)(ps qs:List OP)(a x y:List T),LdO R ps a x->LdO R qs a y->(∀o,o∈ps->gP o)->(∀o,o∈qs->gP o)->ps.length+qs.length+2*a.length<=N ->
  ∃l,qF ps qs l/\l.length<=N/\RZ R l a/\∀(mg:DQ->T->E->E->T × List Cf)(at':DQ)(kind:Int)(mine hers:List T)(n:Nat),run mg at' kind l mine hers a n=Kw mg at' kind a (mine.map .ins++Gs ps) (hers.map .ins++Gs qs) n:=by
 intro N;induction N with
 |zero=>
  intro ps qs a x y hp hq _ _ hN;have e1:=List.eq_nil_of_length_eq_zero (show ps.length=0 from oF);have e2:=List.eq_nil_of_length_eq_zero (show qs.length=0 from oF);have e3:=List.eq_nil_of_length_eq_zero (show a.length=0 from oF);subst e1;subst e2;subst e3;refine⟨[],.nil,iS,.nil,fun mg at' kind mine hers n=>?_⟩;have i1:=EA (l:=mine) (us:=[]) trivial;have i2:=EA (l:=hers) (us:=[]) trivial;simp only[List.append_nil]at i1 i2;simp[run,Kw,Gs,i1,i2]
 |succ N ih=>
  intro ps qs a x y hp hq gp gq hN;cases ps with
  |nil=>
   have ha:a=[]:=by cases hp;rfl
   cases qs with
   |nil=>
    subst ha;refine⟨[],.nil,iS,.nil,fun mg at' kind mine hers n=>?_⟩;have i1:=EA (l:=mine) (us:=[]) trivial;have i2:=EA (l:=hers) (us:=[]) trivial;simp only[List.append_nil]at i1 i2;simp[run,Kw,Gs,i1,i2]
   |cons q qs=>
    have k:q.kind=2:=qE (by rw[ha]at hq;exact hq);cases hq with
    |keep l m hne hl g=>simp at k
    |del l m hne hl g=>simp at k
    |desc e x y r g=>simp at k
    |ins l m hne hl g=>
     obtain⟨r,k1,k2,k3,k4⟩:=ih [] qs a x _ hp g gp (fun o h=>gq o (List.mem_cons_of_mem _ h)) (by simp at hN ⊢; omega);refine⟨.b (.mk 2 0 l E0)::r,.snd _ _ _ _ rfl rfl k1,by simp;omega,.b _ _ _ rfl k3,fun mg at' kind mine hers n=>?_⟩;rw[run,k4,D0];simp[Nk]
  |cons p ps=>
   by_cases c:p.kind=2
   ·cases hp with
    |keep l m hne hl g=>simp at c
    |del l m hne hl g=>simp at c
    |desc e x y r g=>simp at c
    |ins l m hne hl g=>
     obtain⟨r,k1,k2,k3,k4⟩:=ih ps qs a _ y g hq (fun o h=>gp o (List.mem_cons_of_mem _ h)) gq (by simp at hN ⊢; omega);refine⟨.a (.mk 2 0 l E0)::r,.fst _ _ _ _ rfl k1,by simp;omega,.a _ _ _ rfl k3,fun mg at' kind mine hers n=>?_⟩;rw[run,k4,D0];simp[Nk]
   ·cases qs with
    |nil=>
     have ha:a=[]:=by cases hq;rfl
     subst ha;exact absurd (qE hp) c
    |cons q qs=>
     by_cases d:q.kind=2
     ·cases hq with
      |keep l m hne hl g=>simp at d
      |del l m hne hl g=>simp at d
      |desc e x y r g=>simp at d
      |ins l m hne hl g=>
       obtain⟨r,k1,k2,k3,k4⟩:=ih (p::ps) qs a x _ hp g gp (fun o h=>gq o (List.mem_cons_of_mem _ h)) (by simp at hN ⊢; omega);refine⟨.b (.mk 2 0 l E0)::r,.snd _ _ _ _ (decide_eq_false c) rfl k1,by simp;omega,.b _ _ _ rfl k3,fun mg at' kind mine hers n=>?_⟩;rw[run,k4,D0 (.mk 2 0 l E0)];simp[Nk]
     ·have s1:=PB (gp p iS);have s2:=PB (gq q iS);obtain⟨n,hn⟩:=Int.eq_ofNat_of_zero_le (show 0<=min (Xk p) (Xk q) by omega);obtain⟨a1,a2,x2,rfl,u1,u2,u3,u4,u5,u6,u7,u8'⟩:=yM hp c (n:=n) oF oF;obtain⟨b1,b2,y2,e,v1,v2,v3,v4,v5,v6,v7,v8⟩:=yM hq d (n:=n) oF oF;obtain⟨rfl,rfl⟩:=List.append_inj e oF;have l1:=XH p n ps;have l2:=XH q n qs;obtain⟨r,k1,k2,k3,k4⟩:=ih (Re p n ps) (Re q n qs) a2 x2 y2 u2 v2 (dI gp n) (dI gq n) (by simp at hN ⊢; omega);refine⟨.both (OT p n) (OT q n)::r,.both _ _ _ _ n _ c d hn.symm k1,by simp at hN ⊢; omega,.both _ _ _ _ _ oF u5 (fun t ht=>⟨u3 t ht,v3 t ht⟩) k3,fun mg at' kind mine hers m=>?_⟩;have eN1:cm (Nk (OT p n)++Gs (Re p n ps)):=by
       cases e1:Nk (OT p n) with
       |nil=>rw[e1]at u7;simp at u7;omega
       |cons u us=>exact Ow (u8' u (by rw[e1];simp)) _
      have eN2:cm (Nk (OT q n)++Gs (Re q n qs)):=by
       cases e1:Nk (OT q n) with
       |nil=>rw[e1]at v7;simp at v7;omega
       |cons u us=>exact Ow (v8 u (by rw[e1];simp)) _
      rw[u6,v6,z6 eN1 eN2,de (o:=OT p n) (o':=OT q n) a1 a2 _ _ _ oF oF u8' v8];have k4':=k4 mg at' kind [] [] (m+n);simp only[List.map_nil,List.nil_append]at k4';rw[run,u4,List.take_left' u1,List.drop_left' u1,k4',u1]
theorem mU(x m:Int):XA (BI 0 x m) m=true:=by
 unfold XA;rw[List.all_eq_true];intro i hi;have h8:i<8:=by simpa using hi
 have g:=DZ (BI 0 x m) h8;rw[Qu,TQ (BF 0) h8]at g;by_cases c:m / 2 ^ i % 2=1
 ·simp[c]
 ·have hn:Ff m i=false:=by simp[Ff,c]
  rw[hn,if_neg iS,DZ 0 h8]at g;have z:BP 0 i=0:=by simp[BP]
  rw[z]at g;simp only[Bool.or_eq_true,decide_eq_true_eq];exact .inr g.symm
theorem Qq{a b:T}:∀(n p:Nat)(last:Int),p+n<=60000->last<p->KD last ((List.range' p n).filterMap fun i=>if DW (a.words.getD i 0) (b.words.getD i 0)=0 then none else some (ZL i (a.words.getD i 0) (b.words.getD i 0)))=true
 |0,p,last,_,_=>rfl
 |n+1,p,last,h,hl=>by
  rw[List.range'_succ,List.filterMap_cons];by_cases c:DW (a.words.getD p 0) (b.words.getD p 0)=0
  ·rw[if_pos c];exact Qq n (p+1) last oF oF
  ·rw[if_neg c];have ih:=Qq (a:=a) (b:=b) n (p+1) p oF oF;show(gB last (ZL p _ _)&&KD (ZL p _ _).at_ _)=true;rw[Bool.and_eq_true];refine⟨?_,ih⟩;unfold gB ZL;simp only[mU,Bool.not_true,Bool.or_false,Bool.not_eq_true',Bool.or_eq_false_iff,decide_eq_false_iff_not];exact⟨⟨oF,oF⟩,c⟩
theorem Qi{one:T->T->E}{a b:T}{d:Nat}(hk:∀i,(Iy (one (a.kids.getD i T0) (b.kids.getD i T0))).kind=(one (a.kids.getD i T0) (b.kids.getD i T0)).kind)(hone:∀i,i<max a.kids.length b.kids.length->(one (a.kids.getD i T0) (b.kids.getD i T0)).kind≠0->DT d (Iy (one (a.kids.getD i T0) (b.kids.getD i T0)))=true):∀(n p:Nat)(last:Int),p+n<=max a.kids.length b.kids.length->p+n<=60000->last<p->I3 d last (((List.range' p n).filterMap fun i=>if (one (a.kids.getD i T0) (b.kids.getD i T0)).kind=0 then none else some (.mk i (one (a.kids.getD i T0) (b.kids.getD i T0)))).map Xr)=true
 |0,p,last,_,_,_=>iS
 |n+1,p,last,h,h2,hl=>by
  rw[List.range'_succ,List.filterMap_cons];by_cases c:(one (a.kids.getD p T0) (b.kids.getD p T0)).kind=0
  ·rw[if_pos c];exact Qi hk hone n (p+1) last oF oF oF
  ·rw[if_neg c];have ih:=Qi hk hone n (p+1) p oF oF oF;simp only[List.map_cons];rw[gE];have e1:(Xr (.mk p (one (a.kids.getD p T0) (b.kids.getD p T0)))).at_=p:=rfl;have e2:(Xr (.mk p (one (a.kids.getD p T0) (b.kids.getD p T0)))).e=Iy (one (a.kids.getD p T0) (b.kids.getD p T0)):=rfl;rw[e1,e2,hone p oF c,hk p,ih];simp;exact⟨⟨oF,oF⟩,c⟩
theorem yj{R:E->T->T->Prop}{os:List OP}{a b:List T}(h:LdO R os a b):∀(n m:Nat),n+a.length<=1048576->m+b.length<=1048576->BU n m os=(((n+a.length:Nat):Int),((m+b.length:Nat):Int)):=by
 induction h with
 |nil=>intro n m _ _;rfl
 |keep l mm hne hl _ ih=>
  intro n m h1 h2;have hlen:l.length=mm.length:=by simpa using congrArg List.length hl
  rw[List.length_append]at h1 h2;have:=ih (n+l.length) (m+mm.length) oF oF;rw[BU];have e1:Pa (if (OP.mk 0 ((l.length:Nat):Int) [] E0).kind≠2 then (n:Int)+D4 (OP.mk 0 ((l.length:Nat):Int) [] E0)else (n:Int))=((n+l.length:Nat):Int):=by
   simp[D4,Pa];omega
  have e2:Pa (if (OP.mk 0 ((l.length:Nat):Int) [] E0).kind≠1 then (m:Int)+D4 (OP.mk 0 ((l.length:Nat):Int) [] E0)else (m:Int))=((m+mm.length:Nat):Int):=by
   simp[D4,Pa];omega
  rw[e1,e2,this];simp;omega
 |del l mm hne hl _ ih=>
  intro n m h1 h2;have hlen:l.length=mm.length:=by simpa using congrArg List.length hl
  rw[List.length_append]at h1;have:=ih (n+mm.length) m oF oF;rw[BU];have e1:Pa (if (OP.mk 1 0 l E0).kind≠2 then (n:Int)+D4 (OP.mk 1 0 l E0)else (n:Int))=((n+mm.length:Nat):Int):=by
   simp[D4,Pa];omega
  have e2:Pa (if (OP.mk 1 0 l E0).kind≠1 then (m:Int)+D4 (OP.mk 1 0 l E0)else (m:Int))=((m:Nat):Int):=by
   simp[Pa];omega
  rw[e1,e2,this];simp;omega
 |ins l mm hne hl _ ih=>
  intro n m h1 h2;have hlen:l.length=mm.length:=by simpa using congrArg List.length hl
  rw[List.length_append]at h2;have:=ih n (m+mm.length) oF oF;rw[BU];have e1:Pa (if (OP.mk 2 0 l E0).kind≠2 then (n:Int)+D4 (OP.mk 2 0 l E0)else (n:Int))=((n:Nat):Int):=by
   simp[Pa];omega
  have e2:Pa (if (OP.mk 2 0 l E0).kind≠1 then (m:Int)+D4 (OP.mk 2 0 l E0)else (m:Int))=((m+mm.length:Nat):Int):=by
   simp[D4,Pa];omega
  rw[e1,e2,this];simp;omega
 |desc e x y r _ ih=>
  intro n m h1 h2;rw[List.length_cons]at h1 h2;have:=ih (n+1) (m+1) oF oF;rw[BU];have e1:Pa (if (OP.mk 3 0 [] e).kind≠2 then (n:Int)+D4 (OP.mk 3 0 [] e)else (n:Int))=((n+1:Nat):Int):=by
   simp[D4,Pa];omega
  have e2:Pa (if (OP.mk 3 0 [] e).kind≠1 then (m:Int)+D4 (OP.mk 3 0 [] e)else (m:Int))=((m+1:Nat):Int):=by
   simp[D4,Pa];omega
  rw[e1,e2,this];simp;omega
theorem vR{R:E->T->T->Prop}{os:List OP}{a b:List T}(h:LdO R os a b):∀o,o∈os->o.kind=0->1<=o.n/\o.n<=a.length:=by
 induction h with
 |nil=>intro o ho;simp at ho
 |keep l m hne hl _ ih=>
  intro o ho hk;rw[List.length_append];rcases List.mem_cons.1 ho with rfl|ho
  ·have:=List.length_pos_iff.2 hne;show(1:Int)<=(l.length:Nat)/\((l.length:Nat):Int)<=_;omega
  ·have:=ih o ho hk;omega
 |del l m hne hl _ ih=>
  intro o ho hk;rw[List.length_append];rcases List.mem_cons.1 ho with rfl|ho
  ·cases hk
  ·have:=ih o ho hk;omega
 |ins l m hne hl _ ih=>
  intro o ho hk;rcases List.mem_cons.1 ho with rfl|ho
  ·cases hk
  ·exact ih o ho hk
 |desc e x y r _ ih=>
  intro o ho hk;rw[List.length_cons];rcases List.mem_cons.1 ho with rfl|ho
  ·cases hk
  ·have:=ih o ho hk;omega
theorem uH{list:Int}:∀{W:List OP} {s:Int},Wr list s W->∀o,o∈W->jJ list o
 |[],_,_,o,h=>by simp at h
 |x::W,s,h,o,ho=>by
  rcases List.mem_cons.1 ho with rfl|ho
  ·exact h.1
  ·exact uH h.2.2 o ho
theorem sU{list:Int}{G:T->Prop}{P:OP->Prop}(hG:∀t,G t->G (Ag t))(hk:∀n l e,P (.mk 0 n l e))(hd:∀l,(∀t,t∈l->G t)->P (.mk 1 0 l E0))(hi:∀l,(∀t,t∈l->G t)->P (.mk 2 0 l E0)):∀(os out:List OP)(g b:List T),(∀o,o∈os->(o.kind=1\/o.kind=2->∀t,t∈o.l->G t)/\(o.kind≠0->o.kind≠1->o.kind≠2->P (.mk 3 0 [] o.e)))->(∀o,o∈out->P o)->(∀t,t∈g->G t)->(∀t,t∈b->G t)->∀o,o∈DG list os out g b->P o:=by
 have kp:∀{out:List OP} (n:Int),(∀o,o∈out->P o)->∀o,o∈Q6 out n->P o:=fun {out} n h o ho=>by
  unfold Q6 at ho;split at ho
  ·rename_i m l e he;rcases List.mem_append.1 ho with ho|ho
   ·exact h o (List.dropLast_subset _ ho)
   ·rw[List.mem_singleton]at ho;subst ho;exact hk _ l e
  ·rcases List.mem_append.1 ho with ho|ho
   ·exact h o ho
   ·rw[List.mem_singleton]at ho;subst ho;exact hk n [] E0
 have fl:∀{out:List OP} {g b:List T},(∀o,o∈out->P o)->(∀t,t∈g->G t)->(∀t,t∈b->G t)->∀o,o∈MU out g b->P o:=fun {out g b} h hg hb o ho=>by
  unfold MU Dd Cb at ho;rcases List.mem_append.1 ho with ho|ho
  ·exact h o ho
  ·rcases List.mem_append.1 ho with ho|ho
   ·split at ho
    ·simp at ho
    ·rw[List.mem_singleton]at ho;subst ho;exact hd g hg
   ·split at ho
    ·simp at ho
    ·rw[List.mem_singleton]at ho;subst ho;exact hi b hb
 have z:∀t:T,t∈([]:List T)->G t:=iS
 intro os;induction os with
 |nil=>
  intro out g b _ ho hg hb;rw[DG];exact fl ho hg hb
 |cons x os ih=>
  intro out g b hos ho hg hb;have hos':=fun o (h:o∈os)=>hos o (List.mem_cons_of_mem _ h);have hx:=hos x iS;have nn:(x.kind=1\/x.kind=2)->∀(l:List T),(∀t,t∈l->G t)->∀t,t∈l++x.l.map Ag->G t:=fun hk l hl t ht=>by
   rcases List.mem_append.1 ht with ht|ht
   ·exact hl t ht
   ·obtain⟨u,hu,rfl⟩:=List.mem_map.1 ht;exact hG _ (hx.1 hk u hu)
  rw[DG];split
  ·exact ih _ _ _ hos' (kp _ (fl ho hg hb)) z z
  ·split
   ·rename_i h1;exact ih _ _ _ hos' ho (nn (.inl h1) g hg) hb
   ·split
    ·rename_i h2;exact ih _ _ _ hos' ho hg (nn (.inr h2) b hb)
    ·split
     ·exact ih _ _ _ hos' (kp _ (fl ho hg hb)) z z
     ·rename_i h0 h1 h2 _;refine ih _ _ _ hos' (fun o h=>?_) z z;rcases List.mem_append.1 h with h|h
      ·exact fl ho hg hb o h
      ·rw[List.mem_singleton]at h;subst h;exact hx.2 h0 h1 h2
def sT(one:T->T->E)(a b:List T)(o:OP):Prop:=o.kind=3->∃x y,x∈a/\y∈b/\DK x y≠0/\o.e=one x y
theorem dD(one:T->T->E)(a b l:List T):∀o,o∈Dd l->sT one a b o:=fun o ho hk=>by
 unfold Dd at ho;split at ho
 ·simp at ho
 ·rw[List.mem_singleton]at ho;subst ho;cases hk
theorem dv(one:T->T->E)(a b l:List T):∀o,o∈Cb l->sT one a b o:=fun o ho hk=>by
 unfold Cb at ho;split at ho
 ·simp at ho
 ·rw[List.mem_singleton]at ho;subst ho;cases hk
theorem wQ{one:T->T->E}{a b a' b':List T}(hA:∀t,t∈a->t∈a')(hB:∀t,t∈b->t∈b'){o:OP}(h:sT one a b o):sT one a' b' o:=fun hk=>by
 obtain⟨x,y,hx,hy,hs,e⟩:=h hk;exact⟨x,y,hA x hx,hB y hy,hs,e⟩
theorem oU(one:T->T->E)(a b:List T):∀(P:List Sc)(i j:Nat)(out:List OP),fN a.length b.length i j P->(∀x,x∈P->DK (a.getD x.i T0) (b.getD x.j T0)≠0)->(∀o,o∈out->sT one a b o)->∀o,o∈HU one a b P i j out->sT one a b o
 |[],i,j,out,h,_,g=>by
  intro o ho;rw[HU]at ho;rcases List.mem_append.1 ho with ho|ho
  ·rcases List.mem_append.1 ho with ho|ho
   ·exact g o ho
   ·exact dD _ _ _ _ o ho
  ·exact dv _ _ _ _ o ho
 |x::P,i,j,out,h,hs,g=>by
  obtain⟨k1,k2,k3,k4,k5⟩:=h;rw[HU];refine oU one a b P _ _ _ k5 (fun y hy=>hs y (List.mem_cons_of_mem _ hy)) fun o ho=>?_;rcases List.mem_append.1 ho with ho|ho
  ·rcases List.mem_append.1 ho with ho|ho
   ·rcases List.mem_append.1 ho with ho|ho
    ·exact g o ho
    ·exact dD _ _ _ _ o ho
   ·exact dv _ _ _ _ o ho
  ·rw[List.mem_singleton]at ho;subst ho;intro _;refine⟨_,_,?_,?_,hs x iS,rfl⟩
   ·rw[List.getD_eq_getElem?_getD,List.getElem?_eq_getElem k3];exact Bv k3
   ·rw[List.getD_eq_getElem?_getD,List.getElem?_eq_getElem k4];exact Bv k4
theorem qO(one:T->T->E)(a b:List T):∀o,o∈Fh one a b->sT one a b o:=by
 refine oU one a b _ 0 0 [] (Sb a b) (fun x hx=>?_) iS;obtain⟨h,_⟩:=ZQ (KC a b);obtain⟨h1,h2⟩:=G5 h;obtain⟨g1,g2⟩:=Kk h1;obtain⟨_,_,_,hn,r,k1,k2⟩:=JB (h2 x (g2.subset hx));simp[KC]at k1;obtain⟨t,e1,e2⟩:=k1;rw[<-e2]at k2;simp at k2;obtain⟨u,e3,e4⟩:=k2;rw[List.getD_eq_getElem?_getD,List.getD_eq_getElem?_getD,e1,e3];show DK t u≠0;omega
theorem zN{one:T->T->E}(S:List Sp)(a b:List T):∀o,o∈CA (Fh one) S a b []->sT one a b o:=by
 have app:∀{out l:List OP},(∀o,o∈out->sT one a b o)->(∀o,o∈l->sT one a b o)->∀o,o∈out++l->sT one a b o:=fun h1 h2 o ho=>by
  rcases List.mem_append.1 ho with ho|ho
  ·exact h1 o ho
  ·exact h2 o ho
 obtain⟨a',b',_,_,h⟩:=Lv (gap:=Fh one) (S0:=S) (I:=fun a' b' out=>(∀t,t∈a'->t∈a)/\(∀t,t∈b'->t∈b)/\∀o,o∈out->sT one a b o) (fun s hs x y out h=>⟨fun t ht=>h.1 t (Qy ht),fun t ht=>h.2.1 t (Qy ht),app h.2.2 fun o ho hk=>by
   simp at ho;subst ho;cases hk⟩) (fun n x y out h=>⟨fun t ht=>h.1 t (Qy ht),h.2.1,app h.2.2 (dD _ _ _ _)⟩) (fun n x y out h=>⟨h.1,fun t ht=>h.2.1 t (Qy ht),app h.2.2 (dv _ _ _ _)⟩) (fun n m x y out h=>⟨fun t ht=>h.1 t (Qy ht),fun t ht=>h.2.1 t (Qy ht),app h.2.2 fun o ho=>wQ (fun t ht=>h.1 t (O4 ht)) (fun t ht=>h.2.1 t (O4 ht)) (qO one _ _ o ho)⟩) S a b [] (fun s hs=>hs) ⟨fun t ht=>ht,fun t ht=>ht,iS⟩
 exact h
theorem Aac(one:T->T->E)(most:Int)(a b:T):∀o,o∈TR one most a b->sT one a.kids b.kids o:=by
 unfold TR;split
 ·exact zN _ _ _
 ·exact qO one _ _
theorem L4{d:Nat}(h:d≠0):DT d E0=true:=by
 unfold E0;exact rightE_iff.2 ⟨h,oF,oF,fun _=>⟨rfl,rfl⟩,fun _=>⟨rfl,rfl⟩,fun _=>⟨rfl,rfl⟩,fun h=>absurd h dO,rfl,iS,fun h=>absurd h dO,iS,by simp[BU]⟩
theorem ry{d:Nat}(h:d≠0){a b:T}(ha:AW 64 a=true)(hb:AW 64 b=true)(ka:a.kind≠10)(kb:b.kind≠10):DT d (.mk 1 a b [] [] 0 [])=true:=
 rightE_iff.2 ⟨h,oF,oF,fun h=>absurd rfl h,fun _=>⟨rfl,rfl⟩,fun _=>⟨rfl,rfl⟩,fun _=>⟨ha,hb,ka,kb⟩,rfl,iS,fun h=>absurd h dO,iS,by simp[BU]⟩
theorem Tg{c:T}(h:AW 0 c=true)(hk:c.kind≠10):c=T0:=by
 obtain⟨k,w,l⟩:=c;have hk:k≠10:=hk;rw[Ds]at h;by_cases h0:k=0
 ·rw[if_pos h0]at h;simp at h;rw[h0,h.1,h.2]
 ·rw[if_neg h0,if_neg hk,if_pos (by simp[Fg])]at h;cases h
theorem y5{k:Int}{c:T}(h:Fe k c=true)(h2:¬(2<=k/\k<=7)):c.kind≠10:=by
 intro e;unfold Fe at h;have:Jt k=false:=by unfold Jt;simp;omega
 rw[this]at h;simp[e]at h
theorem AdW{k:Int}{c:T}(h:Fe k c=true)(h2:2<=k/\k<=7):c.kind=10:=by
 unfold Fe at h;have:Jt k=true:=by unfold Jt;simp;omega
 rw[this]at h;simp at h;exact h.1.1
theorem Acz{c:T}(h:Fe 9 c=true):c.kind=1:=by
 unfold Fe at h;simp at h;exact h.1.2
theorem Wx{d:Nat}{t:T}(h:AW d t=true)(hk:t.kind=1)(i:Nat):AW (d-1) (t.kids.getD i T0)=true/\(t.kids.getD i T0).kind≠10:=by
 rw[List.getD_eq_getElem?_getD];cases e:t.kids[i]? with
 |none=>exact⟨mz _,iS⟩
 |some z=>
  obtain⟨k,w,l⟩:=t;have hk:k=1:=hk;subst hk;have:=HV h z (List.mem_of_getElem? e);exact⟨this.1,y5 this.2 oF⟩
theorem lj(most:Int):∀(f g d:Nat)(a b:T),XB f a->XB g b->AW d a=true->AW d b=true->d<=64->d≠0->a.kind≠10->b.kind≠10->DT d (Iy (Hu most f a b))=true:=by
 intro f;have rep:∀{d:Nat} {a b:T},AW d a=true->AW d b=true->d<=64->d≠0->a.kind≠10->b.kind≠10->DT d (Iy (.mk 1 a b [] [] 0 []))=true:=fun {d a b} ra rb hd h0 ka kb=>by
  rw[FI,if_pos rfl];exact ry h0 (JF a 64 (Pp a d 64 hd ra)) (JF b 64 (Pp b d 64 hd rb)) (by rw[C8];exact ka) (by rw[C8];exact kb)
 induction f with
 |zero=>
  intro g d a b oa ob ra rb hd h0 ka kb;rw[Hu];split
  ·rw[ZN];exact L4 h0
  ·exact rep ra rb hd h0 ka kb
 |succ f ih=>
  intro g d a b oa ob ra rb hd h0 ka kb;obtain⟨a1,a2,a3,a4⟩:=A4 oa;obtain⟨b1,b2,b3,b4⟩:=A4 ob;have na:=PR (f+1) d a ra;have nb:=PR (f+1) d b rb;rw[Hu];split
  ·rw[ZN];exact L4 h0
  ·split
   ·rename_i hne hk;unfold fr;rw[FI,if_neg dO,if_pos rfl];have hkind:∀i,(Iy (Hu most f (a.kids.getD i T0) (b.kids.getD i T0))).kind=(Hu most f (a.kids.getD i T0) (b.kids.getD i T0)).kind:=fun i=>iV (ZJ most f (g-1) _ _ (I4 oa i) (I4 ob i) (qB na i) (qB nb i));have W:=Qq (a:=a) (b:=b) (max a.words.length b.words.length) 0 (-1) oF oF;rw[<-List.range_eq_range']at W;have K:=Qi (one:=Hu most f) (a:=a) (b:=b) (d:=d-1) hkind (fun i hi hc=>by
     obtain⟨q1,q2⟩:=Wx ra hk.1 i;obtain⟨q3,q4⟩:=Wx rb hk.2 i;refine ih (g-1) (d-1) _ _ (I4 oa i) (I4 ob i) q1 q3 oF (fun hz=>hc ?_) q2 q4;rw[hz]at q1 q3;rw[Tg q1 q2,Tg q3 q4];have:JE T0 T0=true:=eqT_iff.2 rfl;cases f with
     |zero=>rw[Hu,if_pos this];rfl
     |succ f=>rw[Hu,if_pos this];rfl) (max a.kids.length b.kids.length) 0 (-1) oF oF oF
    rw[<-List.range_eq_range']at K;exact rightE_iff.2 ⟨h0,oF,oF,fun _=>⟨rfl,rfl⟩,fun h=>absurd rfl h,fun _=>⟨rfl,rfl⟩,fun h=>absurd h dO,W,K,fun h=>absurd h dO,iS,by simp[BU]⟩
   ·split
    ·rename_i hne hns hk;rw[Ue,FI,if_neg dO,if_neg dO,if_pos rfl];have hl2:=hk.2.1;have hl9:=hk.2.2;obtain⟨kd,wa,la⟩:=a;obtain⟨kd2,wb,lb⟩:=b;have hkk:kd=kd2:=hk.1;subst hkk;have hl2:2<=kd:=hl2;have hl9:kd<=9:=hl9;have Ra:=HV ra;have Rb:=HV rb;have hFew:∀t,t∈la->az f t:=fun t ht=>by
      have key:∀(f g:Nat)(t:T),XB g t->az f t:=fun f=>by
       induction f with
       |zero=>exact fun g t _=>trivial
       |succ f ih=>exact fun g t h=>⟨by have:=(A4 h).2.2.2;omega,fun k hk=>ih (g-1) k (Bu h k hk)⟩
      exact key f f t (Bu oa t ht)
     have hone:=fun x (hx:x∈la) y (hy:y∈lb)=>ZJ most f (g-1) x y (Bu oa x hx) (Bu ob y hy) (na.2 x hx) (nb.2 y hy);have a4':la.length<=1000:=a4;have b4':lb.length<=1000:=b4;have L:=Acb (list:=kd) (P:=az f) (fun e x y hx r=>ow f e x y hx r) (o8 (R:=Ld f) (one:=Hu most f) (most:=most) (a:=.mk kd wa la) (b:=.mk kd wb lb) hone) hFew [] [] [] [] [] [] [] .nil rfl rfl (by show 0+0+la.length<=_;omega);simp only[List.nil_append]at L;have hWr:=SO (list:=kd) ((TR (Hu most f) most (.mk kd wa la) (.mk kd wb lb)).map Kh) [] [] [] (fun x hx e0 e1 e2=>by
      obtain⟨y,hy,rfl⟩:=List.mem_map.1 hx;cases Ux (Hu most f) most _ _ y hy with
      |keep n h=>exact absurd rfl e0
      |del l h g k=>exact absurd rfl e1
      |ins l h g k=>exact absurd rfl e2
      |desc p q hp hq=>exact Abf _ (Qx most f (g-1) p q (Bu oa p hp) (Bu ob q hq))) trivial (by show(4:Int)≠1/\(4:Int)≠2;decide) rfl rfl
     have hGt:∀t,(t∈la\/t∈lb)->Ag t=t/\AW 64 (.mk kd [] [t])=true:=fun t ht=>by
      have h1:Ag t=t:=by
       rcases ht with ht|ht
       ·exact(A4 (Bu oa t ht)).2.1
       ·exact(A4 (Bu ob t ht)).2.1
      have h2:AW (d-1) t=true/\Fe kd t=true:=by
       rcases ht with ht|ht
       ·exact Ra t ht
       ·exact Rb t ht
      refine⟨h1,yE oF oF (by simp[Fg];omega) fun x hx=>?_⟩;rw[List.mem_singleton]at hx;subst hx;exact⟨Pp x (d-1) 63 oF h2.1,h2.2⟩
     have hAll:=sU (list:=kd) (G:=fun t=>Ag t=t/\AW 64 (.mk kd [] [t])=true) (P:=fun o=>(o.kind=1\/o.kind=2->∀t,t∈o.l->AW 64 (.mk kd [] [t])=true)/\(o.kind=3->∃x y,x∈la/\y∈lb/\DK x y≠0/\o.e=Iy (Hu most f x y))) (fun t ht=>by rw[ht.1];exact ht) (fun n l e=>⟨fun h=>absurd h (by show ¬((0:Int)=1\/(0:Int)=2);decide),fun h=>absurd h (by show ¬(0:Int)=3;decide)⟩) (fun l h=>⟨fun _ t ht=>(h t ht).2,fun h=>absurd h (by show ¬(1:Int)=3;decide)⟩) (fun l h=>⟨fun _ t ht=>(h t ht).2,fun h=>absurd h (by show ¬(2:Int)=3;decide)⟩) ((TR (Hu most f) most (.mk kd wa la) (.mk kd wb lb)).map Kh) [] [] [] (fun o ho=>by
      obtain⟨y,hy,rfl⟩:=List.mem_map.1 ho;have hsc:=Aac (Hu most f) most _ _ y hy;cases Ux (Hu most f) most _ _ y hy with
      |keep n h=>exact⟨fun h=>absurd h (by show ¬((0:Int)=1\/(0:Int)=2);decide),fun h=>absurd rfl h⟩
      |del l h g k=>exact⟨fun _ t ht=>hGt t (.inl (g t ht)),fun _ h=>absurd rfl h⟩
      |ins l h g k=>exact⟨fun _ t ht=>hGt t (.inr (g t ht)),fun _ _ h=>absurd rfl h⟩
      |desc p q hp hq=>
       obtain⟨x,y,hx,hy2,hs,e⟩:=hsc rfl;refine⟨fun h=>absurd h (by show ¬((3:Int)=1\/(3:Int)=2);decide),fun _ _ _=>⟨fun h=>absurd h (by show ¬((3:Int)=1\/(3:Int)=2);decide),fun _=>⟨x,y,hx,hy2,hs,?_⟩⟩⟩;show Iy (Hu most f p q)=_;have e':Hu most f p q=Hu most f x y:=e;rw[e']) iS iS iS
     have hlen:=yj L 0 0 (by show 0+la.length<=_;omega) (by show 0+lb.length<=_;omega);refine rightE_iff.2 ⟨h0,oF,oF,fun _=>⟨rfl,rfl⟩,fun _=>⟨rfl,rfl⟩,fun h=>absurd rfl h,fun h=>absurd h dO,rfl,iS,fun _=>⟨hl2,hl9⟩,?_,?_⟩
     ·rw[rightOs_all];intro o ho;refine td ?_;have hkeep:=vR L o ho;obtain⟨p1,p2⟩:=hAll o ho;cases uH hWr o ho with
      |keep n=>
       obtain⟨n1,n2⟩:=hkeep rfl;have n1:1<=n:=n1;have n2:n<=(la.length:Nat):=n2;exact⟨by show(0:Int)<=0;omega,by show(0:Int)<=3;omega,fun _=>⟨n1,by show n<=1048576;omega,rfl⟩,fun h=>absurd rfl h,fun _=>rfl,fun h=>absurd h (by show ¬((0:Int)=1\/(0:Int)=2);decide),fun h=>absurd h (by show ¬(0:Int)=3;decide)⟩
      |del l h g=>exact⟨by show(0:Int)<=1;omega,by show(1:Int)<=3;omega,fun h=>absurd h (by show ¬(1:Int)=0;decide),fun _=>rfl,fun _=>rfl,fun h'=>⟨h,p1 h'⟩,fun h=>absurd h (by show ¬(1:Int)=3;decide)⟩
      |ins l h g=>exact⟨by show(0:Int)<=2;omega,by show(2:Int)<=3;omega,fun h=>absurd h (by show ¬(2:Int)=0;decide),fun _=>rfl,fun _=>rfl,fun h'=>⟨h,p1 h'⟩,fun h=>absurd h (by show ¬(2:Int)=3;decide)⟩
      |desc e hi hn=>
       obtain⟨x,y,hx,hy,hs,he⟩:=p2 rfl;have he:e=Iy (Hu most f x y):=he;have r1:=Ra x hx;have r2:=Rb y hy;have hek:e.kind≠0:=fun h=>by unfold Gc at hi;simp[h]at hi
       have hxk:x.kind=y.kind/\x.kind≠0/\x.kind≠10:=by
        unfold DK at hs;split at hs
        ·exact absurd rfl hs
        ·rename_i hc;simp only[not_or]at hc;exact⟨oF,hc.2.1,hc.2.2⟩
       have h8:8<=kd:=by
        apply Classical.byContradiction;intro hc;exact hxk.2.2 (AdW r1.2 ⟨hl2,oF⟩)
       have hd1:d-1≠0:=fun hz=>by
        have q1:=r1.1;rw[hz]at q1;have:=Tg q1 hxk.2.2;exact hxk.2.1 (by rw[this];rfl)
       have R1:=ih (g-1) (d-1) x y (Bu oa x hx) (Bu ob y hy) r1.1 r2.1 oF hd1 hxk.2.2 (by rw[<-hxk.1];exact hxk.2.2);refine⟨by show(0:Int)<=3;omega,by show(3:Int)<=3;omega,fun h=>absurd h (by show ¬(3:Int)=0;decide),fun _=>rfl,fun h=>absurd rfl h,fun h=>absurd h (by show ¬((3:Int)=1\/(3:Int)=2);decide),fun _=>⟨rfl,hek,h8,by rw[he]at *; exact R1,?_⟩⟩;unfold pV;by_cases e8:kd=8
       ·simp[e8]
       ·have e9:kd=9:=oF
        subst e9;have x1:=Acz r1.2;have y1:=Acz r2.2;have Lf:=ow f _ _ _ (hFew x hx) (hone x hx y hy);rw[<-he]at Lf;have base:ur e x y->(e.kind=1/\e.old.kind=1/\e.new.kind=1):=fun h=>by
         rcases h with ⟨h,_⟩|⟨o,n,h,h1,h2⟩
         ·rw[h]at hek;exact absurd rfl hek
         ·rw[h];have k1:=congrArg T.kind h1;have k2:=congrArg T.kind h2;rw[C8,C8]at k1 k2;exact⟨rfl,by show o.kind=1;omega,by show n.kind=1;omega⟩
        have:(e.kind=1/\e.old.kind=1/\e.new.kind=1)\/e.kind=2:=by
         cases f with
         |zero=>exact .inl (base Lf)
         |succ f=>
          rcases Lf with h|⟨ws,ks,h,_⟩|⟨os,h,_,h2,_⟩
          ·exact .inl (base h)
          ·exact .inr (by rw[h];rfl)
          ·omega
        rcases this with ⟨t1,t2,t3⟩|t1
        ·simp[t1,t2,t3]
        ·simp[t1]
     ·have e1:=congrArg Prod.fst hlen;have e2:=congrArg Prod.snd hlen;exact⟨Int.lt_of_le_of_lt (Int.le_of_eq e1) (by show((0+la.length:Nat):Int)<1048576;omega),Int.lt_of_le_of_lt (Int.le_of_eq e2) (by show((0+lb.length:Nat):Int)<1048576;omega)⟩
    ·exact rep ra rb hd h0 ka kb
theorem xN{a b:T}(ha:Ay a)(hb:Ay b)(pa:Bn a<=1000)(pb:Bn b<=1000)(ra:AW 64 a=true)(rb:AW 64 b=true)(ka:a.kind≠10)(kb:b.kind≠10){most:Int}:DT 64 (ZA most a b)=true:=
 lj most 1000 1000 64 _ _ (EJ a ha pa 1000 pa) (EJ b hb pb 1000 pb) (JF a 64 ra) (JF b 64 rb) oF oF (by rw[C8];exact ka) (by rw[C8];exact kb)
theorem PO{e:E}{a u:T}(h:ZF e a u):G.Spec Tryz.prog 25 [eX e,tX a] (.tup [tX (Ag u),bv true]):=by
 refine Aj gI iS fun w0 I0=>?_;rw[Ao UE.eq_1];simp;refine Ae h.2 iS ?_;simp;refine Ae (D3 u h.1) iS ?_;have e1:tX (Ag u)=.agg [iv u.kind,C7 (Ag u).words,AV (Ag u).kids]:=by
  show A.agg [iv (Ag u).kind,C7 (Ag u).words,AV (Ag u).kids]=_;rw[C8]
 simp;rw[e1];exact AM ⟨Ad iS,Ad rfl,trivial⟩
theorem iW(l:List T)(n:Nat):CB (l.take n)<=CB l:=by
 induction l generalizing n with
 |nil=>simp
 |cons x l ih=>
  cases n with
  |zero=>
   have h1:=Jx x;have h2:=LK l;rw[List.take_zero,Dg];simp;omega
  |succ n=>
   rw[List.take_succ_cons,Dg,Dg];have:=ih n;omega
theorem nM:∀t:T,Bn (Ag t)<=Bn t:=by
 refine T.ind fun k w l ih=>?_;have hm:∀m:List T,(∀t,t∈m->Bn (Ag t)<=Bn t)->CB (m.map Ag)<=CB m:=fun m=>by
  induction m with
  |nil=>intro _;simp
  |cons x m ihm=>
   intro h;rw[List.map_cons,Dg,Dg];have h1:=h x iS;have h2:=ihm fun t ht=>h t (List.mem_cons_of_mem _ ht);omega
 have h1:=hm l ih;have h2:=LK l;rw[DS,HA];split
 ·simp;omega
 ·split
  ·have h3:=NC w;have h4:=iW (l.map Ag) (Dl (l.map Ag)).length;rw[<-K6]at h4;rw[HA];omega
  ·rw[HA];omega
abbrev Ajm(s:Int × Int):List A:=[iv s.1,iv s.2]
def Rl(s:Int × Int):A:=.agg (Ajm s)
@[simp]theorem Td(s:Int × Int):(Rl s).cells=Ajm s:=rfl
abbrev BL(l:DQ):A:=.sl false (l.map Rl)
@[simp]theorem AlI(l:DQ):E8 2 (l.map Rl)=true:=by
 rw[Jb];intro x hx;obtain⟨y,_,rfl⟩:=List.mem_map.1 hx;rfl
abbrev ff(t:T):List A:=[iv t.kind,C7 t.words,AV t.kids]
abbrev cfC(c:Cf):List A:=[BL c.path,iv c.base.kind,C7 c.base.words,AV c.base.kids,iv c.ours.kind,C7 c.ours.words,AV c.ours.kids,iv c.theirs.kind,C7 c.theirs.words,AV c.theirs.kids]
def aV(c:Cf):A:=.agg (cfC c)
@[simp]theorem Ae2(c:Cf):(aV c).cells=cfC c:=rfl
@[simp]theorem AkF(l:List Cf):E8 10 (l.map aV)=true:=by rw[Jb];simp
abbrev KY(l:List Cf):A:=.sl false (l.map aV)
def RK(v w:Nat)(C:List Cf):Fam:=⟨fun r p=>if p=[]then ⟨v,.cells [.osl [r,0] (w+C.length) 10 0 C.length]⟩else if p=[0]then ⟨w+C.length,.arr 10 (C.map aV)⟩else ⟨0,.none⟩,fun {γ δ r r'} hg hd p=>by
  by_cases h1:p=[]
  ·rw[if_pos h1,if_pos h1];refine Fam.cells_ren ?_;simp[A.renL,A.ren,hg,hd]
  ·rw[if_neg h1,if_neg h1];by_cases h2:p=[0]
   ·rw[if_pos h2];refine Fam.arr_ren ?_;simp only[C0,List.map_map];refine List.map_congr_left fun x _=>?_;simp[aV,A.ren,A.renL]
   ·rw[if_neg h2];rfl,fun {D r} hD p=>by
  by_cases h1:p=[]
  ·rw[if_pos h1];simp[Ob.refs,A.refsL,A.refs,hD]
  ·rw[if_neg h1];by_cases h2:p=[0]
   ·rw[if_pos h2];simp only[Ob.refs,refsL_iff];intro y hy;obtain⟨x,_,rfl⟩:=List.mem_map.1 hy;simp[aV,A.refs,A.refsL]
   ·rw[if_neg h2];trivial⟩
@[simp]theorem Anh{v w:Nat}{C:List Cf}{r:Nat}{p:Nm}:(RK v w C).F r p=if p=[]then ⟨v,.cells [.osl [r,0] (w+C.length) 10 0 C.length]⟩else if p=[0]then ⟨w+C.length,.arr 10 (C.map aV)⟩else ⟨0,.none⟩:=rfl
theorem Ca(t:T):F5 (fun _=>tX t):=Fb (cs:=ff t) rfl fun x hx=>by simp at hx;rcases hx with rfl|rfl|rfl<;>rfl
theorem C3(e:E):F5 (fun _=>eX e):=Fb (cs:=eL e) rfl fun x hx=>by simp at hx;rcases hx with rfl|rfl|rfl|rfl|rfl|rfl|rfl|rfl|rfl|rfl|rfl<;>rfl
theorem KJ(l:DQ)(k n:Int)(h:l.length<=1000000):G.Spec Tryz.prog 84 [BL l,iv k,iv n] (BL (l++[(k,n)])):=by
 refine Aj W9 iS fun w0 I0=>?_;rw[Ao OS.eq_1];have c:DP l.length none (some (iv l.length)) (some (iv l.length))=some (0,l.length,some l.length):=by simp[DP,G7]
 simp[c,Jp,Ax];refine⟨oF,?_⟩;have:=AQ (H:=HO [([0],⟨1,.arr 2 ((l++[(k,n)]).map Rl)⟩)]) (o:=[0]) (u:=1) (n:=l.length+1) (sz:=2) (l:=l++[(k,n)]) (f:=Rl) iS iS (fun x=>by rw[Td];rfl);simp[Rl]at this;rw[show BL (l++[(k,n)])=.sl false (l.map Rl++[.agg [iv k,iv n]])from by rw[BL,List.map_append];rfl];exact this
theorem Qe(w:Int):G.Spec Tryz.prog 132 [uv w] (tX (Cr w)):=by
 refine Aj XW iS fun w0 I0=>?_;rw[Ao Pn.eq_1];simp;exact Bb ⟨Ad rfl,Ai,Ai,trivial⟩
theorem sN{e:E}{t v:T}{b:Bool}(h:G.Spec Tryz.prog 25 [eX e,tX t] (.tup [tX v,bv b])):G.Spec Tryz.prog 54 [eX e,tX t] (tX v):=by
 refine Aj fm iS fun w0 I0=>?_;rw[Ao U6.eq_1];simp;refine Ae h iS ?_;simp;exact Ad iS
theorem kC(l:DQ)(h:l.length<=1000000):G.Spec Tryz.prog 91 [BL l] (BL l):=by
 cases l with
 |nil=>
  refine(cM (fun cap=>?_) (fun a cap=>?_)).spec
  ·refine Ly CG iS fun w0 I0=>?_;rw[Ao B4.eq_1];simp;exact lI
  ·refine Ly CG iS fun w0 I0=>?_;rw[Ao B4.eq_1];simp;exact Un (H:=HO [([0],⟨1,.arr 2 []⟩)]) (o:=[0]) (u:=1) (off:=0) (len:=0) (sz:=2) (xs:=[]) iS iS iS
 |cons x l=>
  refine Aj CG iS fun w0 I0=>?_;rw[Ao B4.eq_1];rw[List.length_cons]at h;simp[BL];refine⟨oF,?_⟩;exact AQ (o:=[0]) (u:=1) (n:=l.length+1) (sz:=2) (l:=x::l) (f:=Rl) iS iS (fun x=>by rw[Td];rfl)
abbrev tXb(f:Bool)(t:T):A:=.agg [iv t.kind,.sl f (t.words.map uv),.sl f (t.kids.map tA)]
theorem pH(f:Bool)(t:T):F5 (fun _=>tXb f t):=Fb (cs:=[iv t.kind,.sl f (t.words.map uv),.sl f (t.kids.map tA)]) rfl fun x hx=>by simp at hx;rcases hx with rfl|rfl|rfl<;>rfl
theorem Qs{l:DQ}{b o t:T}(f1 f2:Bool)(hl:l.length<=1000000)(wb:Ay b)(wo:Ay o)(wt:Ay t)(v w:Nat){C:List Cf}(hC:C.length<=100000000000) :
  SpecF Tryz.prog 58 (fun r=>[.pob [r] v 0,BL l,tX b,tXb f1 o,tXb f2 t]) (RK v w C) (fun _=>tX b) (RK v w (C++[⟨l,Ag b,Ag o,Ag t⟩])):=by
 have K:=kC l hl;have N1:=D3 b wb;have N2:G.Spec Tryz.prog 35 [tXb f1 o] (tX (Ag o)):=(D3 o wo).soft (by simp[A.softL,A.soft,KL,Hf]);have N3:G.Spec Tryz.prog 35 [tXb f2 t] (tX (Ag t)):=(D3 t wt).soft (by simp[A.softL,A.soft,KL,Hf]);refine KV PZ iS (Af AB (Af Bp (Af (Ca b) (Af (pH f1 o) (Af (pH f2 t) Ak))))) (Ca b) fun w0 I0 M0 m0 hM=>?_;rw[Ao Kd.eq_1];simp;refine Ae K iS ?_;simp;refine Ae N1 iS ?_;simp;refine Ae N2 iS ?_;simp;refine Ae N3 iS ?_;simp[Aa];refine⟨oF,?_⟩;refine Av (r0:=tX b) (by simp[HX]) rfl fun p=>?_;by_cases h1:p=[]
 ·subst h1;simp[Aa];omega
 ·by_cases h2:p=[0]
  ·subst h2;simp[Aa,aV,Ax];omega
  ·simp[Aa,h1,h2]
theorem SW{l:DQ}{b o t:T}(hl:l.length<=1000000)(wb:Ay b)(wo:Ay o)(wt:Ay t)(v w:Nat){C:List Cf}(hC:C.length<=100000000000) :
  SpecF Tryz.prog 58 (fun r=>[.pob [r] v 0,BL l,tX b,tX o,tX t]) (RK v w C) (fun _=>tX b) (RK v w (C++[⟨l,Ag b,Ag o,Ag t⟩])):=Qs false false hl wb wo wt v w hC
variable {n0:Nat} {w0:World} {I0:Nat->Prop} {Q:Exit->Sta->Prop}
theorem Aal{ks:List KE}(hl:ks.length<=10000000000000){n:Nat}
  (hq:∀(H':Hp)(st:List (Nat × A)),H' [0]=⟨1,.cells (AY)⟩->ks.find? (fun k=>decide (k.at_=(n:Int)))=none->Q (.exit 0) ⟨lk ([(1,iv n),(4,.pob [0] 1 0)]++st),H'⟩)
  (hr:∀(H':Hp)(x:KE),ks.find? (fun k=>decide (k.at_=(n:Int)))=some x->H' [0]=⟨1,.cells (eL x.e)⟩->Q .ret ⟨lk [(4,.pob [0] 1 0)],H'⟩) :
  ∀(j i:Nat)(H:Hp),i+j=ks.length->ks.find? (fun k=>decide (k.at_=(n:Int)))=(ks.drop i).find? (fun k=>decide (k.at_=(n:Int)))->H [0]=⟨1,.cells AY⟩ ->
  LoopC (cx Tryz.prog w0 I0 n0) KF Q ⟨lk [(1,iv n),(4,.pob [0] 1 0),(7,Ry ks),(8,iv ks.length),(9,iv i)],H⟩:=by
 intro j;induction j with
 |zero=>
  intro i H hj hf h0;have:i=ks.length:=oF
  subst this;rw[List.drop_length]at hf;refine Ab Ah (Ao KF.eq_1) ?_;simp;have:=hq H [(7,Ry ks),(8,iv ks.length),(9,iv ks.length),(10,bv false)] h0 hf;simpa using this
 |succ j ih=>
  intro i H hj hf h0;have hlt:i<ks.length:=oF
  have ew:=Ap i;have hd:ks.drop i=ks[i]::ks.drop (i+1):=(List.getElem_cons_drop hlt).symm;have next:=ih (i+1)
  rw[hd,List.find?_cons]at hf;generalize hx:ks[i]=x at *;refine Ab Ah (Ao KF.eq_1) ?_;by_cases c:x.at_=(n:Int)
  ·rw[decide_eq_true c]at hf;simp[hlt,hx,Aa,c,h0,AY];exact hr _ x hf (by simp[Aa])
  ·rw[decide_eq_false c]at hf;simp[hlt,hx,Aa,c];rw[ew];exact next _ oF hf (by simp[Aa,h0])
theorem YZ(H1:Hp):IV H1 AY (eL E0):=by
 have hE:eL E0=[iv 0,iv 0,.sl false [],.sl false [],iv 0,.sl false [],.sl false [],.sl false [],.sl false [],iv 0,.sl false []]:=by simp[E0]
 rw[hE];exact⟨Ad rfl,Ad rfl,Ai,Ai,Ad rfl,Ai,Ai,Ai,Ai,Ad rfl,Ai,trivial⟩
theorem df(ks:List KE)(hl:ks.length<=10000000000000)(n:Nat):G.Spec Tryz.prog 85 [Ry ks,iv n] (eX (Eh ks n)):=by
 refine Aj iM iS fun w0 I0=>?_;rw[BG Wz.eq_1];simp;refine Aal (n:=n) hl (fun H' st h0 hf=>?_) (fun H' x hf h0=>?_) ks.length 0 _ oF iS (by simp[AY])
 ·have:Eh ks n=E0:=by unfold Eh;rw[hf];rfl
  rw[this];simp[h0,AY];exact Bb (YZ _)
 ·have:Eh ks n=x.e:=by unfold Eh;rw[hf];rfl
  rw[this];simp[h0];exact Ad iS
def vJ:Pc->A
 |.a o=>.agg (iv 1::(Q9 o++aX))
 |.b o=>.agg (iv 2::(aX++Q9 o))
 |.both o o'=>.agg (iv 0::(Q9 o++Q9 o'))
abbrev O0:OP:=.mk 0 0 [] E0
def pcC:Pc->List A
 |.a o=>iv 1::(Q9 o++Q9 O0)
 |.b o=>iv 2::(Q9 O0++Q9 o)
 |.both o o'=>iv 0::(Q9 o++Q9 o')
def pcA(x:Pc):A:=.agg (pcC x)
@[simp]theorem Afx(x:Pc):(pcA x).cells=pcC x:=rfl
@[simp]theorem Als(x:Pc):(vJ x).cells.length=29:=by cases x<;>rfl
@[simp]theorem Akb(x:Pc):(pcC x).length=29:=by cases x<;>rfl
abbrev rF(l:List Pc):A:=.sl false (l.map pcA)
section
variable {n0:Nat} {w0:World} {I0:Nat->Prop} {M0:Nm->Nat->Prop} {m0:Mu} {Q:Exit->Sta->Prop}
theorem zm{v v':Nat}{R:List Pc}(hR:R.length<=100000000)
  (hq:∀(H':Hp)(u:Nat),(∀p,H' (0::p)=(Z6 v [] 2).F 0 p)->(∀p,H' (1::p)=(Z6 v' [] 2).F 1 p)->H' [2]=⟨u,.arr 29 (R.map vJ)⟩->Q .ret ⟨lk [(4,.osl [2] u 29 0 R.length),(5,bv true)],H'⟩)
  {ps qs:List OP} {l:List Pc} (hT:qF ps qs l):(∀o,o∈ps->gP o)->(∀o,o∈qs->gP o)->ps.length<=1000000->qs.length<=1000000->∀(X:List Pc)(u:Nat)(H:Hp),R=X++l->(∀p,H (0::p)=(Z6 v ps 2).F 0 p)->(∀p,H (1::p)=(Z6 v' qs 2).F 1 p)->H [2]=⟨u,.arr 29 (X.map vJ)⟩ ->
  LoopC (En Tryz.prog w0 I0 M0 n0 m0) Gi Q ⟨lk [(0,.pob [0] v 0),(1,.pob [1] v' 0),(6,.osl [2] u 29 0 X.length)],H⟩:=by
 induction hT with
 |nil=>
  intro _ _ _ _ X u H hX h0 h1 h2;rw[List.append_nil]at hX;subst hX;have S1:=FQ v [] 2;have S2:=FQ v' [] 2;have D1:=LO v [] 2;have D2:=LO v' [] 2;refine Ab Ah (Ao Gi.eq_1) ?_;simp;refine GM 0 S1 (fun p=>by simp[h0]) iS iS ?_;simp[sgO];refine GM 1 S2 (fun p=>by simp[h1]) iS iS ?_;simp[sgO];refine GM 0 D1 (fun p=>by simp[h0]) iS iS ?_;simp;refine Bx rfl ?_;simp;refine GM 0 D1 (fun p=>by simp[h0]) iS iS ?_;simp;refine GM 1 D2 (fun p=>by simp[h1]) iS iS ?_;simp;exact hq H u (fun p=>by simp[h0]) (fun p=>by simp[h1]) h2
 |fst p ps qs l h g ih=>
  intro hp hq' lp lq X u H hX h0 h1 h2;have S1:=FQ v (p::ps) 2;have Z:=Lx (hp p iS);have z1:=PB (hp p iS);obtain⟨n,hn⟩:=Int.eq_ofNat_of_zero_le (show 0<=Xk p from oF);have T:=OC (hp p iS) (l:=ps) (by simp at lp;omega) (n:=n) oF v 2;rw[show OT p n=p from if_pos oF,show Re p n ps=ps from if_pos oF]at T;have h00:H [0]=⟨v,.cells [HQ (p::ps),iv 2]⟩:=by rw[h0];simp
  have e1:sgO 2 (p::ps)=true:=decide_eq_true h;have hl:R.length=X.length+1+l.length:=by rw[hX];simp;omega
  refine Ab Ah (Ao Gi.eq_1) ?_;simp;refine GM 0 S1 (fun p=>by simp[h0]) iS iS ?_;simp[e1,h00];refine Ae Z iS ?_;rw[hn];simp;refine Au 0 T (fun p=>by simp[h0]) iS iS ?_;simp[h2];refine⟨oF,?_⟩;have:=ih (fun o ho=>hp o (List.mem_cons_of_mem _ ho)) hq' (by simp at lp;omega) lq (X++[.a p]) (u+1) (ov 0 ((Z6 v ps 2).F 0) (Ar H [2] ⟨u+1,.arr 29 ((X++[Pc.a p]).map vJ)⟩)) (by rw[hX];simp) (fun p=>by simp[Aa]) (fun p=>by simp[Aa,h1]) (by simp[Aa]);simpa[vJ,aX,Ax]using this
 |snd ps q qs l hp h g ih=>
  intro hp' hq' lp lq X u H hX h0 h1 h2;have S1:=FQ v ps 2;have S2:=FQ v' (q::qs) 2;have Z:=Lx (hq' q iS);have z1:=PB (hq' q iS);obtain⟨n,hn⟩:=Int.eq_ofNat_of_zero_le (show 0<=Xk q from oF);have T:=OC (hq' q iS) (l:=qs) (by simp at lq;omega) (n:=n) oF v' 2;rw[show OT q n=q from if_pos oF,show Re q n qs=qs from if_pos oF]at T;have h10:H [1]=⟨v',.cells [HQ (q::qs),iv 2]⟩:=by rw[h1];simp
  have e1:sgO 2 (q::qs)=true:=decide_eq_true h;have hl:R.length=X.length+1+l.length:=by rw[hX];simp;omega
  refine Ab Ah (Ao Gi.eq_1) ?_;simp;refine GM 0 S1 (fun p=>by simp[h0]) iS iS ?_;simp[hp];refine GM 1 S2 (fun p=>by simp[h1]) iS iS ?_;simp[e1,h10];refine Ae Z iS ?_;rw[hn];simp;refine Au 1 T (fun p=>by simp[h1]) iS iS ?_;simp[h2];refine⟨oF,?_⟩;have:=ih hp' (fun o ho=>hq' o (List.mem_cons_of_mem _ ho)) lp (by simp at lq;omega) (X++[.b q]) (u+1) (ov 1 ((Z6 v' qs 2).F 1) (Ar H [2] ⟨u+1,.arr 29 ((X++[Pc.b q]).map vJ)⟩)) (by rw[hX];simp) (fun p=>by simp[Aa,h0]) (fun p=>by simp[Aa]) (by simp[Aa]);simpa[vJ,aX,Ax]using this
 |both p ps q qs n l hp hq hn g ih=>
  intro gp gq lp lq X u H hX h0 h1 h2;have S1:=FQ v (p::ps) 2;have S2:=FQ v' (q::qs) 2;have D1:=LO v (p::ps) 2;have D2:=LO v' (q::qs) 2;have Z1:=Lx (gp p iS);have z1:=PB (gp p iS);have Z2:=Lx (gq q iS);have z2:=PB (gq q iS);have T1:=OC (gp p iS) (l:=ps) (by simp at lp;omega) (n:=n) oF v 2;have T2:=OC (gq q iS) (l:=qs) (by simp at lq;omega) (n:=n) oF v' 2;have h00:H [0]=⟨v,.cells [HQ (p::ps),iv 2]⟩:=by rw[h0];simp
  have h10:H [1]=⟨v',.cells [HQ (q::qs),iv 2]⟩:=by rw[h1];simp
  refine Ab Ah (Ao Gi.eq_1) ?_;simp;refine GM 0 S1 (fun p=>by simp[h0]) iS iS ?_;simp[sgO,hp];refine GM 1 S2 (fun p=>by simp[h1]) iS iS ?_;simp[sgO,hq];refine GM 0 D1 (fun p=>by simp[h0]) iS iS ?_;simp;rw[AR];simp;refine GM 1 D2 (fun p=>by simp[h1]) iS iS ?_;simp[h00,h10];refine Ae Z1 iS ?_;simp[h00,h10];refine Ae Z2 iS ?_;simp[h00,h10,<-hn];refine Au 0 T1 (fun p=>by simp[h0]) iS iS ?_;simp;refine Au 1 T2 (fun p=>by simp[h1]) iS iS ?_;simp[h2];have hl:R.length=X.length+1+l.length:=by rw[hX];simp;omega
  refine⟨oF,?_⟩;have l1:=XH p n ps;have l2:=XH q n qs;have:=ih (dI gp n) (dI gq n) (by simp at lp;omega) (by simp at lq;omega) (X++[.both (OT p n) (OT q n)]) (u+1) (ov 1 ((Z6 v' (Re q n qs) 2).F 1) (ov 0 ((Z6 v (Re p n ps) 2).F 0) (Ar H [2] ⟨u+1,.arr 29 ((X++[Pc.both (OT p n) (OT q n)]).map vJ)⟩))) (by rw[hX];simp) (fun p=>iS) (fun p=>iS) (by simp[Aa]);simpa[vJ,Ax]using this
end
theorem AaA{H:Hp}{o:Nm}{u n:Nat}{l:List Pc}(h:vr (H o) u=some (29,l.map vJ))(hn:n=l.length):Iz H (.osl o u 29 0 n) (rF l):=
 YM (g:=pcA) h hn fun x _=>by
  have hE:eL E0=[iv 0,iv 0,.sl false [],.sl false [],iv 0,.sl false [],.sl false [],.sl false [],.sl false [],iv 0,.sl false []]:=by simp[E0]
  cases x<;>simp[vJ,pcC,aX,A.soft,A.softL,KL,Hf,Us,X2,Yt,A.ones,A.bare]
theorem mR{v v':Nat}{ps qs:List OP}{l:List Pc}(hT:qF ps qs l)(gp:∀o,o∈ps->gP o)(gq:∀o,o∈qs->gP o)(lp:ps.length<=1000000)(lq:qs.length<=1000000)(hl:l.length<=100000000) :
  MR Tryz.prog 133 (fun r q=>[.pob [r] v 0,.pob [q] v' 0]) ((Z6 v ps 2).two (Z6 v' qs 2)) (fun _ _=>.tup [rF l,bv true]) ((Z6 v [] 2).two (Z6 v' [] 2)):=by
 refine lR eD iS (AF (BD AB) (AF (JN AB) E6)) (BD (Bj (Af Bp (Af AH Ak)))) fun w0 I0 M0 m0 hM=>?_;rw[BG TX.eq_1];simp;refine LoopC.le (BC 6 [2] 29 iS) ?_;refine LoopC.le (Al [(0,.pob [0] v 0),(1,.pob [1] v' 0),(6,.osl [2] 1 29 0 ([]:List Pc).length)] (by simp[upd])) ?_;refine zm hl (fun H' u k0 k1 k2=>?_) hT gp gq lp lq [] 1 _ rfl (fun p=>by simp[Aa]) (fun p=>by simp[Aa]) (by simp[Aa]);obtain⟨H2,g1,g2⟩:=OB (c:=En Tryz.prog w0 I0 M0 78 m0) (s:=lk [(4,.osl [2] u 29 0 l.length),(5,bv true)]) (H:=H') (fun r=>r=2) (fun r p b hr=>hM r p b oF) 4 (rF l) (fun H1 e1=>by
  have e2:H1 [2]=H' [2]:=e1 2 [] rfl;simp;exact AaA (by rw[e2,k2];simp) rfl)
 refine KK g1 (KU (r0:=.tup [rF l,bv true]) (by simp[upd,HX]) rfl (fun p=>?_) (fun p=>?_))
 ·exact(g2 0 p oF).trans (k0 p)
 ·exact(g2 1 p oF).trans (k1 p)
theorem aK{ps qs:List OP}{l:List Pc}(hT:qF ps qs l)(gp:∀o,o∈ps->gP o)(gq:∀o,o∈qs->gP o)(lp:ps.length<=1000000)(lq:qs.length<=1000000)(hl:l.length<=100000000) :
  G.Spec Tryz.prog 86 [HQ ps,HQ qs] (.tup [rF l,bv true]):=by
 have P:=mR (v:=1) (v':=1) hT gp gq lp lq hl;refine Aj Xe iS fun w0 I0=>?_;rw[Ao OO.eq_1];simp;refine Mt 0 1 dO P (fun p=>?_) (fun p=>?_) iS iS ?_
 ·by_cases hp:p=[]
  ·subst hp;simp
  ·simp[hp,HO,Ne.symm hp]
 ·by_cases hp:p=[]
  ·subst hp;simp
  ·simp[hp,HO,Ne.symm hp]
 simp;exact AM ⟨Ai,Ad rfl,trivial⟩
def zi(v:Nat)(X:List Int):Vi:=⟨fun r q p=>if p=[]then ⟨1,.cells [.osl [q] v 1 0 X.length]⟩else ⟨0,.none⟩,fun r q p=>if p=[]then ⟨v,.arr 1 (X.map uv)⟩else ⟨0,.none⟩,fun {g δ r r' q q'} h1 h2 h3 h4 p=>by
  by_cases hp:p=[]
  ·subst hp;exact⟨Fam.cells_ren (by simp[A.renL,A.ren,h3,h4]),Fam.arr_ren (by simp only[C0,List.map_map];exact List.map_congr_left fun x _=>by simp[A.ren])⟩
  ·simp only[if_neg hp];exact⟨rfl,rfl⟩,fun {D r q} h1 h2 p=>by
  by_cases hp:p=[]
  ·subst hp;refine⟨by simp[Ob.refs,A.refsL,A.refs,h2],?_⟩;simp only[if_true,Ob.refs,refsL_iff];intro y hy;obtain⟨x,_,rfl⟩:=List.mem_map.1 hy;simp[A.refs]
  ·simp only[if_neg hp];exact⟨trivial,trivial⟩⟩
@[simp]theorem Ans{v:Nat}{X:List Int}{r q:Nat}{p:Nm}:(zi v X).B r q p=if p=[]then ⟨1,.cells [.osl [q] v 1 0 X.length]⟩else ⟨0,.none⟩:=rfl
@[simp]theorem Ann{v:Nat}{X:List Int}{r q:Nat}{p:Nm}:(zi v X).C r q p=if p=[]then ⟨v,.arr 1 (X.map uv)⟩else ⟨0,.none⟩:=rfl
theorem EK{c:Cx}{rs:List ResultVar}{x:A}{F' N:Nm->VOb}{r0:A}{st:Sta}(h:HX c.P st rs=some r0)(he:r0=x)(hh:∀p,st.H (0::p)=F' p)(hn:∀p,st.H (1::p)=N p):Pf c rs 2 x (ov 0 F' (ov 1 N (HO []))) .normal st:=
 WD h he fun i p hi=>by
  by_cases h0:i=0
  ·subst h0;rw[hh];simp
  ·have:i=1:=oF
   subst this;rw[hn];simp
section
variable {n0:Nat} {w0:World} {I0:Nat->Prop} {M0:Nm->Nat->Prop} {m0:Mu} {Q:Exit->Sta->Prop}
theorem Adq{X0:List Int}{i:Nat}{w:Int}{v:Nat}(hX:X0.length<=1000000)(hi:i<=1000000)
  (hq:∀H':Hp,(∀p,H' (0::p)=(zi (v+(i+1-X0.length)) (HT X0 i)).B 0 1 p)->(∀p,H' (1::p)=(zi (v+(i+1-X0.length)) (HT X0 i)).C 0 1 p)->Q (.exit 0) ⟨lk [(0,iv i),(1,uv w),(2,.pob [0] 1 0),(8,bv false)],H'⟩) :
  ∀(j n:Nat)(H:Hp),n+j=i+1-X0.length->(∀p,H (0::p)=(zi (v+n) (X0++List.replicate n 0)).B 0 1 p)->(∀p,H (1::p)=(zi (v+n) (X0++List.replicate n 0)).C 0 1 p) ->
  LoopC (En Tryz.prog w0 I0 M0 n0 m0) Dz Q ⟨lk [(0,iv i),(1,uv w),(2,.pob [0] 1 0)],H⟩:=by
 intro j;induction j with
 |zero=>
  intro n H hm h0 h1;have hp:HT X0 i=X0++List.replicate n 0:=by unfold HT;rw[<-hm];rfl
  have hc:¬((X0.length:Int)+n<=i):=oF
  have h00:H [0]=⟨1,.cells [.osl [1] (v+n) 1 0 (X0.length+n)]⟩:=by rw[h0];simp
  refine Ab Ah (Ao Dz.eq_1) ?_;simp[h00,hc];rw[Nat.add_zero]at hm;rw[hp,<-hm]at hq;exact hq H h0 h1
 |succ j ih=>
  intro n H hm h0 h1;have hc:(X0.length:Int)+n<=i:=oF
  have h00:H [0]=⟨1,.cells [.osl [1] (v+n) 1 0 (X0.length+n)]⟩:=by rw[h0];simp
  have h10:H [1]=⟨v+n,.arr 1 ((X0++List.replicate n 0).map uv)⟩:=by rw[h1];simp
  refine Ab Ah (Ao Dz.eq_1) ?_;simp[h00,h10,hc,Aa];refine⟨oF,?_⟩;refine ih (n+1) _ oF (fun p=>?_) (fun p=>?_)
  ·by_cases hp:p=[]
   ·subst hp;simp[Aa];omega
   ·simp[Aa,hp,h0]
  ·by_cases hp:p=[]
   ·subst hp;simp[Aa,List.replicate_succ'];rw[Ax iS];simp;omega
   ·simp[Aa,hp,h1]
end
theorem xy{X:List Int}{i:Nat}{w:Int}{v:Nat}(hX:X.length<=1000000)(hi:i<=1000000):MR Tryz.prog 131 (fun r q=>[iv i,uv w,.pob [r] 1 0]) (zi v X) (fun _ _=>.tup []) (zi (v+(i+1-X.length)) ((HT X i).set i w)):=by
 have hl:i<(HT X i).length:=by rw[J1];omega
 have hl2:=J1 X i;refine Iq Oq iS (AF (BD AH) (AF (BD AH) (AF (BD AB) E6))) (BD (Bj Ak)) fun w0 I0 M0 m0=>?_;rw[BG IB.eq_1];simp;refine LoopC.le (Al [(0,iv i),(1,uv w),(2,.pob [0] 1 0)] iS) ?_;refine Adq (X0:=X) (i:=i) (v:=v) hX hi (fun H' h0 h1=>?_) (i+1-X.length) 0 _ oF (fun p=>iS) (fun p=>iS);have h00:H' [0]=⟨1,.cells [.osl [1] (v+(i+1-X.length)) 1 0 (HT X i).length]⟩:=by rw[h0];simp
 have h10:H' [1]=⟨v+(i+1-X.length),.arr 1 ((HT X i).map uv)⟩:=by rw[h1];simp
 simp[h00,h10,hl];refine EK rfl rfl (fun p=>?_) (fun p=>?_)
 ·simp[Aa,h0]
 ·by_cases hp:p=[]
  ·subst hp;simp[Aa,List.map_set]
  ·simp[Aa,hp,h1]
structure WdH(v w:Nat)(o:T)(C:List Cf)(u:Nat)(X:List Int)(H:Hp):Prop where
 f:∀p,H (0::p)=(RK v w C).F 0 p
 o:H [1]=⟨1,.cells (ff o)⟩
 b:∀p,H (2::p)=(zi u X).B 2 15 p
 c:∀p,H (15::p)=(zi u X).C 2 15 p
theorem WdH.put{v w u:Nat}{o:T}{C:List Cf}{X:List Int}{H:Hp}(h:WdH v w o C u X H){d:Nm}(x:VOb)(h0:∀p,d≠0::p)(h1:d≠[1])(h2:∀p,d≠2::p)(h3:∀p,d≠15::p):WdH v w o C u X (Ar H d x):=
 ⟨fun p=>by rw[AD (Ne.symm (h0 p))];exact h.f p,by rw[AD (Ne.symm h1)];exact h.o,fun p=>by rw[AD (Ne.symm (h2 p))];exact h.b p,fun p=>by rw[AD (Ne.symm (h3 p))];exact h.c p⟩
theorem H9{w:Int}(h:Ba w):Ay (Cr w):=wfT_iff.2 ⟨by simp[B6,Cr],fun x hx=>by simp[Cr]at hx;subst hx;exact h,by simp[Cr],by simp[Cr],by simp[Cr]⟩
abbrev Abr(w:WE):List A:=[iv w.at_,u8 w.mask,uv w.old,uv w.new]
section
variable {n0:Nat} {w0:World} {I0:Nat->Prop} {M0:Nm->Nat->Prop} {m0:Mu} {K:Exit->Sta->Prop}
theorem xa{v w u u3 u4 i:Nat}{o:T}(wo:Ay o){C:List Cf}{X:List Int}{a b:WE}(ha:YT a.mask)(hb:YT b.mask)(na:Ba a.new)(nb:Ba b.new){at':DQ}(hat:at'.length<=999999)(hi:i<=900000)(hX:X.length<=1000000)(hC:C.length<=100000000000){ps qs:List WE}{H:Hp}(hH:WdH v w o C u X H)(h3:H [3]=⟨u3,.cells (Abr a)⟩)(h4:H [4]=⟨u4,.cells (Abr b)⟩)
  (k1:Q5 a b=true->∀H',WdH v w o (C++[⟨at'++[(1,(i:Int))],Ag (Cr (o.words.getD i 0)),Ag (Cr (BI (o.words.getD i 0) a.new a.mask)),Ag (Cr (BI (o.words.getD i 0) b.new b.mask))⟩]) u X H'->K (.exit 1) ⟨lk [(0,.pob [0] v 0),(1,BL at'),(3,QX ps),(4,QX qs),(7,.pob [1] 1 0),(11,.pob [2] 1 0),(12,.fnc 131 [] [.pob [2] 1 0])],H'⟩)
  (k2:¬Q5 a b=true->∀H',WdH v w o C (u+(i+1-X.length)) ((HT X i).set i (BI (BI (o.words.getD i 0) a.new a.mask) b.new b.mask)) H'->K .normal ⟨lk [(0,.pob [0] v 0),(1,BL at'),(3,QX ps),(4,QX qs),(7,.pob [1] 1 0),(11,.pob [2] 1 0),(12,.fnc 131 [] [.pob [2] 1 0])],H'⟩) :
  WPC (En Tryz.prog w0 I0 M0 n0 m0) D6 K ⟨lk [(0,.pob [0] v 0),(1,BL at'),(3,QX ps),(4,QX qs),(7,.pob [1] 1 0),(11,.pob [2] 1 0),(12,.fnc 131 [] [.pob [2] 1 0]),(13,.pob [3] u3 0),(14,.pob [4] u4 0),(15,iv i)],H⟩:=by
 have z0:Ba 0:=⟨dO,dO⟩;have hwo:Ba (o.words.getD i 0):=IZ (wfT_iff.1 wo).w i;have W1:=Gl o i;have M1:=Hy (mask:=a.mask) hwo na ha.1 ha.2;have M2:=Hy (mask:=b.mask) hwo nb hb.1 hb.2;have hc:=iH ha hb;have M3:=Hy (mask:=Ir a.mask b.mask) z0 na hc.1 hc.2;have M4:=Hy (mask:=Ir a.mask b.mask) z0 nb hc.1 hc.2;have M5:=Hy (mask:=b.mask) (DB (o.words.getD i 0) a.new a.mask) nb hb.1 hb.2;have ho:=hH.o;generalize o.words.getD i 0=z at *;rw[(Ao D6.eq_1)];simp[ho];refine Ae W1 iS ?_;simp[h3,h4];refine Ae M1 iS ?_;simp[h3,h4];refine Ae M2 iS ?_;simp[h3,h4];rw[show bits .and .u8 a.mask b.mask=Ir a.mask b.mask from rfl];refine Ae M3 iS ?_;simp[h3,h4];refine Ae M4 iS ?_;by_cases c:Q5 a b=true
 ·have cc:¬BI 0 a.new (Ir a.mask b.mask)=BI 0 b.new (Ir a.mask b.mask):=by simpa[Q5]using c
  have F:=KJ at' 1 i oF;have S1:=Qe z;have S2:=Qe (BI z a.new a.mask);have S3:=Qe (BI z b.new b.mask);have CL:=SW (l:=at'++[(1,(i:Int))]) (b:=Cr z) (o:=Cr (BI z a.new a.mask)) (t:=Cr (BI z b.new b.mask)) (by simp;omega) (H9 hwo) (H9 (DB _ _ _)) (H9 (DB _ _ _)) v w hC;simp[cc];refine Ae F iS ?_;simp;refine Ae S1 iS ?_;simp;refine Ae S2 iS ?_;simp;refine Ae S3 iS ?_;simp;refine Au 0 CL hH.f iS iS ?_;simp;exact k1 c _ ⟨fun p=>iS,by simp[ho],fun p=>by simp[hH.b],fun p=>by simp[hH.c]⟩
 ·have cc:BI 0 a.new (Ir a.mask b.mask)=BI 0 b.new (Ir a.mask b.mask):=by simpa[Q5]using c
  have P:=xy (X:=X) (i:=i) (w:=BI (BI z a.new a.mask) b.new b.mask) (v:=u) hX oF;simp[cc,h4];refine Ae M5 iS ?_;simp;refine wY 2 15 (fs:=[]) (caps:=[.pob [2] 1 0]) iS dO P hH.b hH.c iS iS ?_;simp;exact k2 c _ ⟨fun p=>by simp[hH.f],by simp[ho],fun p=>iS,fun p=>iS⟩
end
abbrev dW:WE:=⟨0,0,0,0⟩
theorem dU{a b:List Int}{p:Nat}{w:WE}{ws:List WE}(h:Pe a b p (w::ws)):∃i:Nat,w.at_=i/\p<=i/\i<max a.length b.length/\YT w.mask/\Ba w.new/\Pe a b (i+1) ws:=by
 cases h with
 |cons _ i m o n ws hp h hi hm ho hn h1 h2 g=>exact⟨i,rfl,hp,hi,⟨Int.le_of_lt hm.1,hm.2⟩,by rw[<-hn];exact DB _ _ _,g⟩
theorem MD{w:WE}{ws:List WE}{i:Nat}(h:w.at_=i):C9 (w::ws) i=w:=by
 unfold C9;rw[List.find?_cons,decide_eq_true h];rfl
theorem DJ{w:WE}{ws:List WE}{i:Nat}(h:w.at_≠i):C9 (w::ws) i=C9 ws i:=by
 unfold C9;rw[List.find?_cons,decide_eq_false h]
theorem EH{a b:List Int}{p:Nat}{ws:List WE}(h:Pe a b p ws){j:Nat}(hj:j<p):C9 ws j=dW:=by
 unfold C9;have hn:ws.find? (fun w=>decide (w.at_=(j:Int)))=none:=List.find?_eq_none.2 fun w hw=>by
  obtain⟨k,k1,k2,_⟩:=M9 h w hw;simp;omega
 rw[hn];rfl
theorem VB{z:Int}(h:Ba z):Jg z dW dW=z:=by
 unfold Jg;rw[if_neg (by simp[Q5])];rw[Tq h,Tq h]
theorem i9{a b:List Int}{p q:Nat}(h:Pe a b p [])(hq:p<=q):Pe a b q []:=by
 cases h with
 |nil _ h=>exact .nil q fun i hi=>h i oF
theorem qM{a b:List Int}{p:Nat}{ws:List WE}(h:Pe a b p ws)(q:Nat)(hpq:p<=q)(hw:∀z,z∈ws->(q:Int)<=z.at_):Pe a b q ws:=by
 cases h with
 |nil _ h=>exact .nil _ fun i hi=>h i oF
 |cons _ i m o n ws hp h hi hm ho hn h1 h2 g=>
  have:=hw _ (List.mem_cons_self ..);have this:(q:Int)<=(i:Nat):=this;exact .cons _ i m o n ws oF (fun j q1 q2=>h j oF q2) hi hm ho hn h1 h2 g
structure zt(o:List Int)(gp gq:Nat->WE)(n i0:Nat)(ps qs:List WE)(X:List Int):Prop where
 lp:∀j,i0<=j->C9 ps j=gp j
 lq:∀j,i0<=j->C9 qs j=gq j
 x1:∀j,j<i0->X.getD j 0=Jg (o.getD j 0) (gp j) (gq j)
 x2:∀j,i0<=j->X.getD j 0=o.getD j 0
 xu:∀z,z∈X->Ba z
 xl:X.length<=900000
def nxX(o:List Int)(A B:WE)(i:Nat)(X:List Int):List Int:=if Q5 A B=true then X else (HT X i).set i (BI (BI (o.getD i 0) A.new A.mask) B.new B.mask)
theorem qZ{o:List Int}(ho:∀x,x∈o->Ba x){gp gq:Nat->WE}{n i0 i:Nat}{ps qs ps' qs':List WE}{X:List Int}(h:zt o gp gq n i0 ps qs X)(hi:i0<=i)(hn:i<900000)(e1:∀j,i0<=j->j<i->gp j=dW)(e2:∀j,i0<=j->j<i->gq j=dW)
  (lp:∀j,i+1<=j->C9 ps' j=gp j) (lq:∀j,i+1<=j->C9 qs' j=gq j):zt o gp gq n (i+1) ps' qs' (nxX o (gp i) (gq i) i X):=by
 have hl:i<(HT X i).length:=by rw[J1];omega
 have hl2:=J1 X i;have hxl:=h.xl;have gs:∀z j,((HT X i).set i z).getD j 0=if j=i then z else X.getD j 0:=fun z j=>by
  rw[Y9 _ _ _ _ hl];unfold HT;rw[X1]
 have low:∀j,j<i->X.getD j 0=Jg (o.getD j 0) (gp j) (gq j):=fun j hj=>by
  by_cases c:j<i0
  ·exact h.x1 j c
  ·rw[h.x2 j oF,e1 j oF hj,e2 j oF hj,VB (IZ ho j)]
 unfold nxX;by_cases c:Q5 (gp i) (gq i)=true
 ·rw[if_pos c];refine⟨lp,lq,fun j hj=>?_,fun j hj=>h.x2 j oF,h.xu,h.xl⟩;by_cases e:j=i
  ·subst e;rw[h.x2 j hi,Jg,if_pos c]
  ·exact low j oF
 ·rw[if_neg c];refine⟨lp,lq,fun j hj=>?_,fun j hj=>?_,fun z hz=>?_,by rw[List.length_set];omega⟩
  ·rw[gs];by_cases e:j=i
   ·subst e;rw[if_pos rfl,Jg,if_neg c]
   ·rw[if_neg e];exact low j oF
  ·rw[gs,if_neg oF];exact h.x2 j oF
  ·rcases List.mem_or_eq_of_mem_set hz with hz|rfl
   ·unfold HT at hz;rcases List.mem_append.1 hz with hz|hz
    ·exact h.xu z hz
    ·rw[List.eq_of_mem_replicate hz];exact⟨oF,oF⟩
   ·exact DB _ _ _
def ph(at':DQ)(o:List Int)(gp gq:Nat->WE)(n i0:Nat):List Cf:=(List.range' i0 (n-i0)).flatMap fun j=>Nf at' j (o.getD j 0) (gp j) (gq j)
theorem ia(i0 i n:Nat)(h1:i0<=i)(h2:i<n):List.range' i0 (n-i0)=List.range' i0 (i-i0)++i::List.range' (i+1) (n-(i+1)):=by
 have e:n-i0=(i-i0)+(1+(n-(i+1))):=oF
 rw[e,<-List.range'_append_1,show i0+(i-i0)=i from oF,<-List.range'_append_1];rfl
theorem ig(at':DQ)(i:Nat)(z:Int):Nf at' i z dW dW=[]:=by
 unfold Nf;rw[if_neg (by simp[Q5])]
theorem uI(at':DQ)(o:List Int){gp gq:Nat->WE}{n i0 i:Nat}(h1:i0<=i)(h2:i<n)(e1:∀j,i0<=j->j<i->gp j=dW)(e2:∀j,i0<=j->j<i->gq j=dW):ph at' o gp gq n i0=Nf at' i (o.getD i 0) (gp i) (gq i)++ph at' o gp gq n (i+1):=by
 unfold ph;rw[ia i0 i n h1 h2,List.flatMap_append,List.flatMap_cons];have:(List.range' i0 (i-i0)).flatMap (fun j=>Nf at' j (o.getD j 0) (gp j) (gq j))=[]:=List.flatMap_eq_nil_iff.2 fun j hj=>by
  obtain⟨k,k1,k2⟩:=List.mem_range'.1 hj;rw[e1 j oF oF,e2 j oF oF,ig]
 rw[this,List.nil_append]
theorem z9(at':DQ)(o:List Int){gp gq:Nat->WE}{n i0:Nat}(e1:∀j,i0<=j->gp j=dW)(e2:∀j,i0<=j->gq j=dW):ph at' o gp gq n i0=[]:=by
 unfold ph;exact List.flatMap_eq_nil_iff.2 fun j hj=>by
  obtain⟨k,k1,k2⟩:=List.mem_range'.1 hj;rw[e1 j oF,e2 j oF,ig]
theorem xB{o x y:List Int}{ot:T}(wo:Ay ot)(ho:ot.words=o){gp gq:Nat->WE}{n:Nat}(hn:n<=800000){at':DQ}(hat:at'.length<=999999):∀(N:Nat)(ps qs:List WE)(i0:Nat)(X:List Int),ps.length+qs.length<=N->N<=1000000000->Pe o x i0 ps->Pe o y i0 qs->(∀z,z∈ps->z.at_<n)->(∀z,z∈qs->z.at_<n)->zt o gp gq n i0 ps qs X ->
  ∃X':List Int,(∀j,X'.getD j 0=Jg (o.getD j 0) (gp j) (gq j))/\(∀z,z∈X'->Ba z)/\X'.length<=900000/\∀{n0:Nat} {w0:World} {I0:Nat->Prop} {M0:Nm->Nat->Prop} {m0:Mu} (Q:Exit->Sta->Prop) (v w u:Nat) (C:List Cf) (H:Hp),C.length+(ph at' o gp gq n i0).length<=100000000000->WdH v w ot C u X H->(∀(H':Hp)(u':Nat),WdH v w ot (C++ph at' o gp gq n i0) u' X' H'->Q (.exit 0) ⟨lk [(0,.pob [0] v 0),(1,BL at'),(3,QX []),(4,QX []),(7,.pob [1] 1 0),(11,.pob [2] 1 0),(12,.fnc 131 [] [.pob [2] 1 0]),(31,bv false)],H'⟩) ->
   LoopC (En Tryz.prog w0 I0 M0 n0 m0) A7 Q ⟨lk [(0,.pob [0] v 0),(1,BL at'),(3,QX ps),(4,QX qs),(7,.pob [1] 1 0),(11,.pob [2] 1 0),(12,.fnc 131 [] [.pob [2] 1 0])],H⟩:=by
 have fin:∀(i0:Nat)(X:List Int),zt o gp gq n i0 [] [] X->∃X':List Int,(∀j,X'.getD j 0=Jg (o.getD j 0) (gp j) (gq j))/\(∀z,z∈X'->Ba z)/\X'.length<=900000/\∀{n0:Nat} {w0:World} {I0:Nat->Prop} {M0:Nm->Nat->Prop} {m0:Mu} (Q:Exit->Sta->Prop) (v w u:Nat) (C:List Cf) (H:Hp),C.length+(ph at' o gp gq n i0).length<=100000000000->WdH v w ot C u X H->(∀(H':Hp)(u':Nat),WdH v w ot (C++ph at' o gp gq n i0) u' X' H'->Q (.exit 0) ⟨lk [(0,.pob [0] v 0),(1,BL at'),(3,QX []),(4,QX []),(7,.pob [1] 1 0),(11,.pob [2] 1 0),(12,.fnc 131 [] [.pob [2] 1 0]),(31,bv false)],H'⟩) ->
   LoopC (En Tryz.prog w0 I0 M0 n0 m0) A7 Q ⟨lk [(0,.pob [0] v 0),(1,BL at'),(3,QX []),(4,QX []),(7,.pob [1] 1 0),(11,.pob [2] 1 0),(12,.fnc 131 [] [.pob [2] 1 0])],H⟩:=fun i0 X hI=>by
  have d1:∀j,i0<=j->gp j=dW:=fun j hj=>(hI.lp j hj).symm;have d2:∀j,i0<=j->gq j=dW:=fun j hj=>(hI.lq j hj).symm;refine⟨X,fun j=>?_,hI.xu,hI.xl,fun {n0 w0 I0 M0 m0} Q v w u C H hC hH hq=>?_⟩
  ·by_cases c:j<i0
   ·exact hI.x1 j c
   ·rw[hI.x2 j oF,d1 j oF,d2 j oF,VB (by rw[<-ho];exact IZ (wfT_iff.1 wo).w j)]
  ·rw[z9 at' o d1 d2,List.append_nil]at hq;refine Ab Ah (BG A7.eq_1) ?_;simp;exact hq H u hH
 intro N;induction N with
 |zero=>
  intro ps qs i0 X hN _ hp hq _ _ hI;have e1:=List.eq_nil_of_length_eq_zero (show ps.length=0 from oF);have e2:=List.eq_nil_of_length_eq_zero (show qs.length=0 from oF);subst e1;subst e2;exact fin i0 X hI
 |succ N ih=>
  intro ps qs i0 X hN hN2 hp hq np nq hI;have hou:∀x,x∈o->Ba x:=by rw[<-ho];exact(wfT_iff.1 wo).w
  have step:∀(Aw Bw:WE)(i:Nat)(ps' qs':List WE),gp i=Aw->gq i=Bw->i0<=i->i<n->YT Aw.mask->YT Bw.mask->Ba Aw.new->Ba Bw.new->Pe o x (i+1) ps'->Pe o y (i+1) qs'->(∀j,i+1<=j->C9 ps' j=gp j)->(∀j,i+1<=j->C9 qs' j=gq j)->(∀j,i0<=j->j<i->gp j=dW)->(∀j,i0<=j->j<i->gq j=dW)->ps'.length+qs'.length<=N->(∀z,z∈ps'->z.at_<n)->(∀z,z∈qs'->z.at_<n) ->
    ∃X':List Int,(∀j,X'.getD j 0=Jg (o.getD j 0) (gp j) (gq j))/\(∀z,z∈X'->Ba z)/\X'.length<=900000/\∀{n0:Nat} {w0:World} {I0:Nat->Prop} {M0:Nm->Nat->Prop} {m0:Mu} (Q:Exit->Sta->Prop) (v w u u3 u4:Nat) (C:List Cf) (H:Hp),C.length+(ph at' o gp gq n i0).length<=100000000000->WdH v w ot C u X H->H [3]=⟨u3,.cells (Abr Aw)⟩->H [4]=⟨u4,.cells (Abr Bw)⟩->(∀(H':Hp)(u':Nat),WdH v w ot (C++ph at' o gp gq n i0) u' X' H'->Q (.exit 0) ⟨lk [(0,.pob [0] v 0),(1,BL at'),(3,QX []),(4,QX []),(7,.pob [1] 1 0),(11,.pob [2] 1 0),(12,.fnc 131 [] [.pob [2] 1 0]),(31,bv false)],H'⟩) ->
     WPC (En Tryz.prog w0 I0 M0 n0 m0) D6 (BA 1 (Ej (LoopC (En Tryz.prog w0 I0 M0 n0 m0) A7 Q) Q)) ⟨lk [(0,.pob [0] v 0),(1,BL at'),(3,QX ps'),(4,QX qs'),(7,.pob [1] 1 0),(11,.pob [2] 1 0),(12,.fnc 131 [] [.pob [2] 1 0]),(13,.pob [3] u3 0),(14,.pob [4] u4 0),(15,iv i)],H⟩:=fun Aw Bw i ps' qs' eA eB h1 h2 mA mB uA uB g1 g2 g3 g4 e1 e2 hl np' nq'=>by
   have hc:=uI at' o (gp:=gp) (gq:=gq) h1 h2 e1 e2;have hI2:=qZ hou hI h1 oF e1 e2 g3 g4;rw[eA,eB]at hc hI2;obtain⟨X',f1,f2,f3,f4⟩:=ih ps' qs' (i+1) (nxX o Aw Bw i X) hl oF g1 g2 np' nq' hI2;refine⟨X',f1,f2,f3,fun {n0 w0 I0 M0 m0} Q v w u u3 u4 C H hC hH h3 h4 hq=>?_⟩;have xl:=hI.xl;rw[hc,<-List.append_assoc]at hq;have hlen:C.length+(Nf at' i (o.getD i 0) Aw Bw).length+(ph at' o gp gq n (i+1)).length<=100000000000:=by rw[hc,List.length_append]at hC;omega
   refine xa (a:=Aw) (b:=Bw) (i:=i) wo mA mB uA uB hat oF oF oF hH h3 h4 (fun c H' hH'=>?_) (fun c H' hH'=>?_)
   ·have q1:Nf at' i (o.getD i 0) Aw Bw=[⟨at'++[(1,(i:Int))],Ag (Cr (o.getD i 0)),Ag (Cr (BI (o.getD i 0) Aw.new Aw.mask)),Ag (Cr (BI (o.getD i 0) Bw.new Bw.mask))⟩]:=if_pos c;have q2:nxX o Aw Bw i X=X:=if_pos c;rw[q2]at f4;rw[q1]at hq hlen;rw[ho]at hH';exact f4 Q v w _ _ H' (by rw[List.length_append];exact hlen) hH' hq
   ·have q1:Nf at' i (o.getD i 0) Aw Bw=[]:=if_neg c;have q2:nxX o Aw Bw i X=(HT X i).set i (BI (BI (o.getD i 0) Aw.new Aw.mask) Bw.new Bw.mask):=if_neg c;rw[q2]at f4;rw[q1,List.append_nil]at hq;rw[q1]at hlen;rw[ho]at hH';exact f4 Q v w _ _ H' (by simpa using hlen) hH' hq
  cases ps with
  |nil=>
   cases qs with
   |nil=>exact fin i0 X hI
   |cons Bw qs=>
    obtain⟨i,h1,h2,h3,h4,h5,h6⟩:=dU hq;have hin:=nq Bw iS;obtain⟨X',f1,f2,f3,f4⟩:=step dW Bw i [] qs (by rw[<-hI.lp i h2];rfl) (by rw[<-hI.lq i h2,MD h1]) h2 oF ⟨dO,dO⟩ h4 ⟨dO,dO⟩ h5 (i9 hp oF) h6 (fun j hj=>by rw[<-hI.lp j oF]) (fun j hj=>by rw[<-hI.lq j oF,DJ oF]) (fun j q1 q2=>by rw[<-hI.lp j q1];rfl) (fun j q1 q2=>by rw[<-hI.lq j q1,DJ oF,EH h6 oF]) (by simp at hN ⊢; omega) (fun z hz=>nomatch hz) (fun z hz=>nq z (List.mem_cons_of_mem _ hz));refine⟨X',f1,f2,f3,fun {n0 w0 I0 M0 m0} Q v w u C H hC hH hq=>?_⟩;have c1:¬((qs.length:Int)+1=0):=oF
    have c2:(1:Int)<=(qs.length:Int)+1:=oF
    have c3:List.take qs.length (qs.map wA)=qs.map wA:=Ax iS;refine Ab Ah (BG A7.eq_1) ?_;simp[h1,c1,c2,c3,Aa];exact f4 Q v w u _ _ C _ hC ((hH.put _ iS iS iS iS).put _ iS iS iS iS) (by simp[Aa]) (by simp[Aa,h1]) hq
  |cons Aw ps=>
   obtain⟨i,h1,h2,h3,h4,h5,h6⟩:=dU hp;have hin:=np Aw iS;have d1:¬((ps.length:Int)+1=0):=oF
   have d2:(1:Int)<=(ps.length:Int)+1:=oF
   have d3:List.take ps.length (ps.map wA)=ps.map wA:=Ax iS;cases qs with
   |nil=>
    obtain⟨X',f1,f2,f3,f4⟩:=step Aw dW i ps [] (by rw[<-hI.lp i h2,MD h1]) (by rw[<-hI.lq i h2];rfl) h2 oF h4 ⟨dO,dO⟩ h5 ⟨dO,dO⟩ h6 (i9 hq oF) (fun j hj=>by rw[<-hI.lp j oF,DJ oF]) (fun j hj=>by rw[<-hI.lq j oF]) (fun j q1 q2=>by rw[<-hI.lp j q1,DJ oF,EH h6 oF]) (fun j q1 q2=>by rw[<-hI.lq j q1];rfl) (by simp at hN ⊢; omega) (fun z hz=>np z (List.mem_cons_of_mem _ hz)) (fun z hz=>nomatch hz);refine⟨X',f1,f2,f3,fun {n0 w0 I0 M0 m0} Q v w u C H hC hH hq=>?_⟩;refine Ab Ah (BG A7.eq_1) ?_;simp[h1,d1,d2,d3,Aa];exact f4 Q v w u _ _ C _ hC (((hH.put _ iS iS iS iS).put _ iS iS iS iS).put _ iS iS iS iS) (by simp[Aa,h1]) (by simp[Aa]) hq
   |cons Bw qs=>
    obtain⟨k,g1,g2,g3,g4,g5,g6⟩:=dU hq;have hkn:=nq Bw iS;have c1:¬((qs.length:Int)+1=0):=oF
    have c2:(1:Int)<=(qs.length:Int)+1:=oF
    have c3:List.take qs.length (qs.map wA)=qs.map wA:=Ax iS;by_cases c:(i:Int)<k
    ·obtain⟨X',f1,f2,f3,f4⟩:=step Aw dW i ps (Bw::qs) (by rw[<-hI.lp i h2,MD h1]) (by rw[<-hI.lq i h2,DJ oF,EH g6 oF]) h2 oF h4 ⟨dO,dO⟩ h5 ⟨dO,dO⟩ h6 (qM hq (i+1) oF (fun z hz=>by
      rcases List.mem_cons.1 hz with rfl|hz
      ·omega
      ·obtain⟨m,m1,m2,_⟩:=M9 g6 z hz;omega)) (fun j hj=>by rw[<-hI.lp j oF,DJ oF]) (fun j hj=>by rw[<-hI.lq j oF]) (fun j q1 q2=>by rw[<-hI.lp j q1,DJ oF,EH h6 oF]) (fun j q1 q2=>by rw[<-hI.lq j q1,DJ oF,EH g6 oF]) (by simp at hN ⊢; omega) (fun z hz=>np z (List.mem_cons_of_mem _ hz)) nq
     refine⟨X',f1,f2,f3,fun {n0 w0 I0 M0 m0} Q v w u C H hC hH hq=>?_⟩;refine Ab Ah (BG A7.eq_1) ?_;simp[h1,g1,c,Aa];simp[d1,d2,d3];exact f4 Q v w u _ _ C _ hC (((hH.put _ iS iS iS iS).put _ iS iS iS iS).put _ iS iS iS iS) (by simp[Aa,h1]) (by simp[Aa]) hq
    ·by_cases d:(k:Int)<i
     ·obtain⟨X',f1,f2,f3,f4⟩:=step dW Bw k (Aw::ps) qs (by rw[<-hI.lp k g2,DJ oF,EH h6 oF]) (by rw[<-hI.lq k g2,MD g1]) g2 oF ⟨dO,dO⟩ g4 ⟨dO,dO⟩ g5 (qM hp (k+1) oF (fun z hz=>by
       rcases List.mem_cons.1 hz with rfl|hz
       ·omega
       ·obtain⟨m,m1,m2,_⟩:=M9 h6 z hz;omega)) g6 (fun j hj=>by rw[<-hI.lp j oF]) (fun j hj=>by rw[<-hI.lq j oF,DJ oF]) (fun j q1 q2=>by rw[<-hI.lp j q1,DJ oF,EH h6 oF]) (fun j q1 q2=>by rw[<-hI.lq j q1,DJ oF,EH g6 oF]) (by simp at hN ⊢; omega) np (fun z hz=>nq z (List.mem_cons_of_mem _ hz))
      refine⟨X',f1,f2,f3,fun {n0 w0 I0 M0 m0} Q v w u C H hC hH hq=>?_⟩;refine Ab Ah (BG A7.eq_1) ?_;simp[h1,g1,c,d,Aa];simp[c1,c2,c3,d1];exact f4 Q v w u _ _ C _ hC ((hH.put _ iS iS iS iS).put _ iS iS iS iS) (by simp[Aa]) (by simp[Aa,g1]) hq
     ·have e:k=i:=oF
      subst e;obtain⟨X',f1,f2,f3,f4⟩:=step Aw Bw k ps qs (by rw[<-hI.lp k h2,MD h1]) (by rw[<-hI.lq k g2,MD g1]) g2 oF h4 g4 h5 g5 h6 g6 (fun j hj=>by rw[<-hI.lp j oF,DJ oF]) (fun j hj=>by rw[<-hI.lq j oF,DJ oF]) (fun j q1 q2=>by rw[<-hI.lp j q1,DJ oF,EH h6 oF]) (fun j q1 q2=>by rw[<-hI.lq j q1,DJ oF,EH g6 oF]) (by simp at hN ⊢; omega) (fun z hz=>np z (List.mem_cons_of_mem _ hz)) (fun z hz=>nq z (List.mem_cons_of_mem _ hz));refine⟨X',f1,f2,f3,fun {n0 w0 I0 M0 m0} Q v w u C H hC hH hq=>?_⟩;refine Ab Ah (BG A7.eq_1) ?_;simp[h1,g1,c,d,Aa];simp[c1,c2,c3,d1,d2,d3];exact f4 Q v w u _ _ C _ hC ((((hH.put _ iS iS iS iS).put _ iS iS iS iS).put _ iS iS iS iS).put _ iS iS iS iS) (by simp[Aa,h1]) (by simp[Aa,g1]) hq
theorem kM{ot:T}(wo:Ay ot){x y:List Int}{ps qs:List WE}(hp:Pe ot.words x 0 ps)(hq:Pe ot.words y 0 qs)(hn:Cn (Cn ot.words.length ps) qs<=800000)(hl:ps.length+qs.length<=1000000000){at':DQ}(hat:at'.length<=999999) :
  ∃X:List Int,(∀j,X.getD j 0=Jg (ot.words.getD j 0) (C9 ps j) (C9 qs j))/\(∀z,z∈X->Ba z)/\X.length<=900000/\∀(v w:Nat)(C:List Cf),C.length+((List.range (Cn (Cn ot.words.length ps) qs)).flatMap fun i:Nat=>Nf at' i (ot.words.getD i 0) (C9 ps i) (C9 qs i)).length<=100000000000 ->
   SpecF Tryz.prog 83 (fun r=>[.pob [r] v 0,BL at',tX ot,QX ps,QX qs]) (RK v w C) (fun _=>C7 X) (RK v w (C++(List.range (Cn (Cn ot.words.length ps) qs)).flatMap fun i:Nat=>Nf at' i (ot.words.getD i 0) (C9 ps i) (C9 qs i))):=by
 have hwl:ot.words.length<=800000:=by
  rw[G4,G4]at hn;omega
 have e0:ph at' ot.words (C9 ps) (C9 qs) (Cn (Cn ot.words.length ps) qs) 0=(List.range (Cn (Cn ot.words.length ps) qs)).flatMap fun i:Nat=>Nf at' i (ot.words.getD i 0) (C9 ps i) (C9 qs i):=by
  unfold ph;rw[List.range_eq_range',Nat.sub_zero]
 rw[<-e0];have np:∀z,z∈ps->z.at_<(Cn (Cn ot.words.length ps) qs:Nat):=fun z hz=>by
  have:=PU (n:=ot.words.length) hz;rw[G4 qs];omega
 have nq:∀z,z∈qs->z.at_<(Cn (Cn ot.words.length ps) qs:Nat):=fun z hz=>PU hz;have C1:=Wq ot.words oF;obtain⟨X,f1,f2,f3,f4⟩:=xB wo rfl hn hat (ps.length+qs.length) ps qs 0 ot.words (Cq _) hl hp hq np nq ⟨fun j _=>rfl,fun j _=>rfl,fun j hj=>oF,fun j _=>rfl,(wfT_iff.1 wo).w,oF⟩;refine⟨X,f1,f2,f3,fun v w C hC=>KV PK iS (Af AB (Af Bp (Af (Ca ot) (Af Bp (Af Bp Ak))))) Bp fun w0 I0 M0 m0 hM=>?_⟩;rw[BG Kg.eq_1];simp;refine Au 15 C1 (fun p=>iS) iS iS ?_;simp;refine LoopC.le (Al [(0,.pob [0] v 0),(1,BL at'),(3,QX ps),(4,QX qs),(7,.pob [1] 1 0),(11,.pob [2] 1 0),(12,.fnc 131 [] [.pob [2] 1 0])] iS) ?_;refine f4 _ v w 1 C _ hC ⟨fun p=>iS,iS,fun p=>?_,fun p=>iS⟩ fun H' u' hH'=>?_
 ·by_cases hp:p=[]
  ·subst hp;simp
  ·simp[hp,HO,Ne.symm hp]
 ·have h2:H' [2]=⟨1,.cells [.osl [15] u' 1 0 X.length]⟩:=by rw[hH'.b];simp
  simp[h2];obtain⟨H2,g1,g2⟩:=OB (c:=En Tryz.prog w0 I0 M0 149 m0) (s:=lk [(10,.osl [15] u' 1 0 X.length)]) (H:=H') (fun r=>r=15) (fun r p b hr=>hM r p b oF) 10 (C7 X) (fun H1 e1=>by
   have e2:H1 [15]=H' [15]:=e1 15 [] rfl;simp;exact AQ (f:=uv) (by rw[e2,hH'.c];simp) rfl (fun x=>iS))
  refine KK g1 (Av (r0:=C7 X) (by simp[upd,HX]) rfl (fun p=>?_));exact(g2 0 p oF).trans (hH'.f p)
theorem ck{ks:List KE}{x:KE}(hx:ks.getLast? = some x)(h:∀w,w∈ks->w.at_<=x.at_)(n:Nat):B0 n ks=max n (x.at_+1).toNat:=by
 have key:∀(l:List KE),(∀w,w∈l->w.at_<=x.at_)->B0 0 l<=(x.at_+1).toNat:=by
  intro l;induction l with
  |nil=>intro _;simp[B0]
  |cons y l ih=>
   intro hl;have e:B0 0 (y::l)=B0 (max 0 (y.at_+1).toNat) l:=rfl;have:=ih fun w hw=>hl w (List.mem_cons_of_mem _ hw);have:=hl y iS;rw[e,LA];omega
 have k1:=key ks h;have k2:=kj (n:=0) (List.mem_of_getLast? hx);rw[LA];omega
def yB(f:Nat)(at':DQ)(o:T)(p q:E)(u:T):Prop:=Ay u/\Ag u=(mg f at' o p q).1/\∀(v w:Nat)(C:List Cf),C.length+(mg f at' o p q).2.length<=100000000000 ->
 SpecF Tryz.prog 34 (fun r=>[.pob [r] v 0,BL at',tX o,eX p,eX q]) (RK v w C) (fun _=>tX u) (RK v w (C++(mg f at' o p q).2))
structure StH(v w:Nat)(o:T)(p q:E)(C:List Cf)(X:List Int)(L:List T)(u:Nat)(H:Hp):Prop where
 f:∀r,H (0::r)=(RK v w C).F 0 r
 o:H [1]=⟨1,.cells (ff o)⟩
 p:H [2]=⟨1,.cells (eL p)⟩
 q:H [3]=⟨1,.cells (eL q)⟩
 z:H [4]=⟨1,.cells [iv 0,.sl true [],.sl true []]⟩
 b:H [5]=⟨1,.cells [iv 1,C7 X,.osl [6] u 3 0 L.length]⟩
 c:H [6]=⟨u,.arr 3 (L.map tA)⟩
section
variable {n0:Nat} {w0:World} {I0:Nat->Prop} {M0:Nm->Nat->Prop} {m0:Mu} {Q:Exit->Sta->Prop}
theorem Aai{f:Nat}{at':DQ}(hat:at'.length<=900000){o:T}{p q:E}{X:List Int}{U:Nat->T}{m:Nat}(hm:m<=800000)(lp:p.kids.length<=10000000000000)(lq:q.kids.length<=10000000000000)(hU:∀i:Nat,yB f (at'++[(0,(i:Int))]) (o.kids.getD i T0) (Eh p.kids i) (Eh q.kids i) (U i)){v w:Nat}{C:List Cf}(hC:C.length+((List.range m).flatMap fun i:Nat=>(mg f (at'++[(0,(i:Int))]) (o.kids.getD i T0) (Eh p.kids i) (Eh q.kids i)).2).length<=100000000000)
  (hq:∀(H':Hp),StH v w o p q (C++(List.range m).flatMap fun i:Nat=>(mg f (at'++[(0,(i:Int))]) (o.kids.getD i T0) (Eh p.kids i) (Eh q.kids i)).2) X ((List.range m).map U) (m+1) H'->Q (.exit 2) ⟨lk [(0,.pob [0] v 0),(1,BL at'),(7,.pob [1] 1 0),(8,.pob [2] 1 0),(9,.pob [3] 1 0),(10,.pob [4] 1 0),(11,.pob [5] 1 0),(53,iv m),(54,iv m),(55,bv false)],H'⟩) :
  ∀(j i:Nat)(H:Hp),i+j=m->StH v w o p q (C++(List.range i).flatMap fun i:Nat=>(mg f (at'++[(0,(i:Int))]) (o.kids.getD i T0) (Eh p.kids i) (Eh q.kids i)).2) X ((List.range i).map U) (i+1) H ->
  LoopC (En Tryz.prog w0 I0 M0 n0 m0) CQ Q ⟨lk [(0,.pob [0] v 0),(1,BL at'),(7,.pob [1] 1 0),(8,.pob [2] 1 0),(9,.pob [3] 1 0),(10,.pob [4] 1 0),(11,.pob [5] 1 0),(53,iv m),(54,iv i)],H⟩:=by
 intro j;induction j with
 |zero=>
  intro i H hj hH;have:i=m:=oF
  subst this;refine Ab Ah (Ao CQ.eq_1) ?_;simp;exact hq H hH
 |succ j ih=>
  intro i H hj hH;have hlt:i<m:=oF
  have ew:=Ap i;have F:=KJ at' 0 i oF;have K0:=Hm o i;have K1:=df p.kids lp i;have K2:=df q.kids lq i;obtain⟨u1,u2,u3⟩:=hU i;have hr:List.range (i+1)=List.range i++[i]:=List.range_succ;have hsub:((List.range (i+1)).flatMap fun i:Nat=>(mg f (at'++[(0,(i:Int))]) (o.kids.getD i T0) (Eh p.kids i) (Eh q.kids i)).2).length<=((List.range m).flatMap fun i:Nat=>(mg f (at'++[(0,(i:Int))]) (o.kids.getD i T0) (Eh p.kids i) (Eh q.kids i)).2).length:=by
   have e:List.range m=List.range (i+1)++List.range' (i+1) (m-(i+1)):=by
    rw[List.range_eq_range',List.range_eq_range',show m=(i+1)+(m-(i+1))from oF,<-List.range'_append_1];simp
   rw[e,List.flatMap_append,List.length_append];omega
  have next:=ih (i+1)
  rw[hr]at hsub next
  rw[List.flatMap_append,List.flatMap_singleton,List.length_append]at hsub;rw[List.flatMap_append,List.flatMap_singleton,List.map_append,<-List.append_assoc]at next
  have S:=u3 v w (C++(List.range i).flatMap fun i:Nat=>(mg f (at'++[(0,(i:Int))]) (o.kids.getD i T0) (Eh p.kids i) (Eh q.kids i)).2) (by rw[List.length_append];omega);generalize (List.range i).flatMap (fun i:Nat=>(mg f (at'++[(0,(i:Int))]) (o.kids.getD i T0) (Eh p.kids i) (Eh q.kids i)).2)=D at *;generalize hL:(List.range i).map U=L at *;have hLl:L.length=i:=by rw[<-hL];simp
  generalize (mg f (at'++[(0,(i:Int))]) (o.kids.getD i T0) (Eh p.kids i) (Eh q.kids i)).2=c at *;have h1:=hH.o;have h2:=hH.p;have h3:=hH.q;have h5:=hH.b;have h6:=hH.c;refine Ab Ah (Ao CQ.eq_1) ?_;simp[hlt,h1,h2,h3,h5];refine Ae F iS ?_;simp[h1,h2,h3];refine Ae K0 iS ?_;simp[h1,h2,h3];refine Ae K1 iS ?_;simp[h1,h2,h3];refine Ae K2 iS ?_;simp;refine Au 0 S hH.f iS (by simp[List.isPrefixOf]) ?_;simp[h5,h6,Aa];refine⟨oF,?_⟩;rw[ew];have h4:=hH.z;exact next _ oF ⟨fun r=>iS,by simp[Aa,h1],by simp[Aa,h2],by simp[Aa,h3],by simp[Aa,h4],by simp[Aa],by simp[Aa,Ax]⟩
theorem Aau{at':DQ}{p q:E}(ap:∀k,k∈p.kids->0<=k.at_/\k.at_<=900000)(aq:∀k,k∈q.kids->0<=k.at_/\k.at_<=900000)(sp:∀x,p.kids.getLast? = some x->∀w,w∈p.kids->w.at_<=x.at_)(sq:∀x,q.kids.getLast? = some x->∀w,w∈q.kids->w.at_<=x.at_)(lp:p.kids.length<=10000000000000)(lq:q.kids.length<=10000000000000){v:Nat}{n:Nat}(hn:n<=10000000){H:Hp}
  (hq:Q (.exit 0) ⟨lk [(0,.pob [0] v 0),(1,BL at'),(7,.pob [1] 1 0),(8,.pob [2] 1 0),(9,.pob [3] 1 0),(10,.pob [4] 1 0),(11,.pob [5] 1 0),(12,iv (B0 (B0 n p.kids) q.kids)),(33,.sl true [Ry p.kids,Ry q.kids]),(34,iv 2),(35,iv 2),(36,bv false)],H⟩) :
  LoopC (En Tryz.prog w0 I0 M0 n0 m0) Bk Q ⟨lk [(0,.pob [0] v 0),(1,BL at'),(7,.pob [1] 1 0),(8,.pob [2] 1 0),(9,.pob [3] 1 0),(10,.pob [4] 1 0),(11,.pob [5] 1 0),(12,iv n),(33,.sl true [Ry p.kids,Ry q.kids]),(34,iv 2),(35,iv 0)],H⟩:=by
 have one:∀(ks:List KE)(n:Nat)(j:Nat),n<=10000000->j<2->[Ry p.kids,Ry q.kids][j]? = some (Ry ks)->ks.length<=10000000000000->(∀k,k∈ks->0<=k.at_/\k.at_<=900000)->(∀x,ks.getLast? = some x->∀w,w∈ks->w.at_<=x.at_)->LoopC (En Tryz.prog w0 I0 M0 n0 m0) Bk Q ⟨lk [(0,.pob [0] v 0),(1,BL at'),(7,.pob [1] 1 0),(8,.pob [2] 1 0),(9,.pob [3] 1 0),(10,.pob [4] 1 0),(11,.pob [5] 1 0),(12,iv (B0 n ks)),(33,.sl true [Ry p.kids,Ry q.kids]),(34,iv 2),(35,iv (j+1:Nat))],H⟩ ->
   LoopC (En Tryz.prog w0 I0 M0 n0 m0) Bk Q ⟨lk [(0,.pob [0] v 0),(1,BL at'),(7,.pob [1] 1 0),(8,.pob [2] 1 0),(9,.pob [3] 1 0),(10,.pob [4] 1 0),(11,.pob [5] 1 0),(12,iv n),(33,.sl true [Ry p.kids,Ry q.kids]),(34,iv 2),(35,iv j)],H⟩:=fun ks n j hn hj hks hl ha hs next=>by
  have ew:=Ap j;have hj2:(j:Int)<2:=oF
  have hk2:[Ry p.kids,Ry q.kids][j]=Ry ks:=by
   rw[List.getElem?_eq_getElem hj]at hks;exact Option.some.inj hks
  cases e:ks.getLast? with
  |none=>
   have:ks=[]:=List.getLast?_eq_none_iff.1 e;subst this;refine Ab Ah (Ao Bk.eq_1) ?_;simp[hj2,hj,hk2];rw[ew];exact next
  |some x=>
   have e1:=ck e (hs x e) n;have hx:=ha x (List.mem_of_getLast? e);rw[e1]at next
   have hne:ks≠[]:=fun h=>by rw[h]at e;cases e
   have h0:=List.length_pos_iff.2 hne;have h0':(0:Int)<ks.length:=oF
   have e9:i64.wrap ((ks.length:Int)-1)=((ks.length-1:Nat):Int):=(AJ (n:=(ks.length:Int)-1) oF oF).trans oF;have hlt:ks.length-1<ks.length:=oF
   have hx2:ks[ks.length-1]=x:=by
    rw[List.getLast?_eq_getElem?,List.getElem?_eq_getElem hlt]at e;exact Option.some.inj e
   have e10:i64.wrap (x.at_+1)=x.at_+1:=CX;have e11:max (n:Int) (x.at_+1)=((max n (x.at_+1).toNat:Nat):Int):=oF
   refine Ab Ah (Ao Bk.eq_1) ?_;simp[hj2,hj,hk2,h0,h0',e9,hlt,hx2,e10];rw[ew,e11];exact next
 have b1:B0 n p.kids<=10000000:=by
  cases e:p.kids.getLast? with
  |none=>
   rw[List.getLast?_eq_none_iff.1 e];exact hn
  |some x=>
   have hx:=ap x (List.mem_of_getLast? e);rw[ck e (sp x e)];omega
 refine one p.kids n 0 hn dO rfl lp ap sp ?_;refine one q.kids _ 1 b1 dO rfl lq aq sq ?_;refine Ab Ah (Ao Bk.eq_1) ?_;simp;exact hq
end
theorem TC:∀{ws:List WE} {n m:Nat},n<=m->(∀w,w∈ws->w.at_<(m:Int))->Cn n ws<=m
 |[],n,m,h,_=>h
 |w::ws,n,m,h,hw=>TC (ws:=ws) (n:=max n (w.at_+1).toNat) (by have:=hw w iS;omega) fun z hz=>hw z (List.mem_cons_of_mem _ hz)
theorem T4:∀{ws:List KE} {n m:Nat},n<=m->(∀w,w∈ws->w.at_<(m:Int))->B0 n ws<=m
 |[],n,m,h,_=>h
 |w::ws,n,m,h,hw=>T4 (ws:=ws) (n:=max n (w.at_+1).toNat) (by have:=hw w iS;omega) fun z hz=>hw z (List.mem_cons_of_mem _ hz)
theorem wV{f:Nat}{at':DQ}{o:T}(wo:Ay o){p q:E}{x y:List Int}(hp:Pe o.words x 0 p.words)(hq:Pe o.words y 0 q.words){U:Nat->T}(hU:∀i:Nat,yB f (at'++[(0,(i:Int))]) (o.kids.getD i T0) (Eh p.kids i) (Eh q.kids i) (U i)){X:List Int}(hX:∀j,X.getD j 0=Jg (o.words.getD j 0) (C9 p.words j) (C9 q.words j)) :
  Ag (.mk 1 X ((List.range (B0 (B0 o.kids.length p.kids) q.kids)).map U))=(gS (mg f) at' o p q).1:=by
 unfold gS;refine struct_eq.2 ⟨fun j=>?_,fun j=>?_⟩
 ·rw[hX];refine(lx (fun i:Nat=>Jg (o.words.getD i 0) (C9 p.words i) (C9 q.words i)) 0 _ j fun hj=>?_).symm;show Jg (o.words.getD j 0) (C9 p.words j) (C9 q.words j)=0;have hw:o.words.length<=j:=by
   rw[G4 q.words,G4 p.words]at hj;omega
  have e0:o.words.getD j 0=0:=by rw[List.getD_eq_getElem?_getD,List.getElem?_eq_none hw];rfl
  have far:∀{ws:List WE},(∀w,w∈ws->w.at_<(j:Int))->C9 ws j=dW:=fun {ws} h=>by
   unfold C9;rw[List.find?_eq_none.2 fun w hw=>by have:=h w hw;simp;omega];rfl
  rw[e0,far (ws:=p.words) fun w hw=>by
   have:=PU (n:=o.words.length) hw;rw[G4 q.words,G4 p.words]at hj;rw[G4]at this;omega,far (ws:=q.words) fun w hw=>by
   have:=PU (n:=Cn o.words.length p.words) hw;omega,VB ⟨dO,dO⟩]
 ·by_cases c:j<B0 (B0 o.kids.length p.kids) q.kids
  ·have:=(hU j).2.1;simp only[List.getD_eq_getElem?_getD,List.getElem?_map,List.getElem?_range c,Option.map_some,Option.getD_some];rw[List.getD_eq_getElem?_getD]at this;rw[<-this,Dt]
  ·rw[List.getD_eq_getElem?_getD,List.getD_eq_getElem?_getD,List.getElem?_eq_none (by simp;omega),List.getElem?_eq_none (by simp;omega)]
theorem ta{f:Nat}{at':DQ}(hat:at'.length<=900000){o:T}(wo:Ay o){p q:E}{x y:T}(hp:Pe o.words x.words 0 p.words)(hq:Pe o.words y.words 0 q.words){R:E->T->T->Prop}(kp:Z4 R o.kids x.kids 0 p.kids)(kq:Z4 R o.kids y.kids 0 q.kids)(b1:o.words.length<=700000/\o.kids.length<=700000)(b2:x.words.length<=700000/\x.kids.length<=700000)(b3:y.words.length<=700000/\y.kids.length<=700000)(wp:p.words.length<=500000000/\p.kids.length<=10000000000000)(wq:q.words.length<=500000000/\q.kids.length<=10000000000000)
  (hU:∀i:Nat,∃u,yB f (at'++[(0,(i:Int))]) (o.kids.getD i T0) (Eh p.kids i) (Eh q.kids i) u) :
  ∃u,Ay u/\Ag u=(gS (mg f) at' o p q).1/\∀(v w:Nat)(C:List Cf),C.length+(gS (mg f) at' o p q).2.length<=100000000000 ->
   SpecF Tryz.prog 55 (fun r=>[.pob [r] v 0,BL at',tX o,eX p,eX q]) (RK v w C) (fun _=>tX u) (RK v w (C++(gS (mg f) at' o p q).2)):=by
 obtain⟨U,hU⟩:=Classical.axiomOfChoice hU;have tw:Cn (Cn o.words.length p.words) q.words<=700000:=TC (TC b1.1 fun w hw=>by
  obtain⟨i,k1,k2,k3,_⟩:=M9 hp w hw;omega) fun w hw=>by
  obtain⟨i,k1,k2,k3,_⟩:=M9 hq w hw;omega
 have tk:B0 (B0 o.kids.length p.kids) q.kids<=700000:=T4 (T4 b1.2 fun w hw=>by
  obtain⟨i,k1,k2,k3,_⟩:=Na kp w hw;omega) fun w hw=>by
  obtain⟨i,k1,k2,k3,_⟩:=Na kq w hw;omega
 have O:=wfT_iff.1 wo;have ap:∀k,k∈p.kids->0<=k.at_/\k.at_<=900000:=fun w hw=>by
  obtain⟨i,k1,k2,k3,_⟩:=Na kp w hw;omega
 have aq:∀k,k∈q.kids->0<=k.at_/\k.at_<=900000:=fun w hw=>by
  obtain⟨i,k1,k2,k3,_⟩:=Na kq w hw;omega
 have hc2:(gS (mg f) at' o p q).2=((List.range (Cn (Cn o.words.length p.words) q.words)).flatMap (fun i:Nat=>Nf at' i (o.words.getD i 0) (C9 p.words i) (C9 q.words i)))++((List.range (B0 (B0 o.kids.length p.kids) q.kids)).flatMap fun i:Nat=>(mg f (at'++[(0,(i:Int))]) (o.kids.getD i T0) (Eh p.kids i) (Eh q.kids i)).2):=rfl;obtain⟨X,f1,f2,f3,f4⟩:=kM wo hp hq oF oF (at':=at') oF;have ht:=wV wo hp hq hU f1;have hkl:o.kids.length<=B0 (B0 o.kids.length p.kids) q.kids:=by
  rw[LA,LA];omega
 refine⟨.mk 1 X ((List.range (B0 (B0 o.kids.length p.kids) q.kids)).map U),wfT_iff.2 ⟨by simp[B6],f2,by show X.length*8<=_;omega,by simp;omega,fun t ht=>?_⟩,ht,fun v w C hC=>?_⟩
 ·obtain⟨i,_,rfl⟩:=List.mem_map.1 (show t∈(List.range _).map U from ht);exact(hU i).1
 rw[hc2]at hC ⊢;rw[List.length_append]at hC;have W:=f4 v w C oF;have L2:=fun {n0:Nat} {w0:World} {I0:Nat->Prop} {M0:Nm->Nat->Prop} {m0:Mu} {Q:Exit->Sta->Prop}=>Aai (n0:=n0) (w0:=w0) (I0:=I0) (M0:=M0) (m0:=m0) (Q:=Q) hat (o:=o) (p:=p) (q:=q) (X:=X) (m:=B0 (B0 o.kids.length p.kids) q.kids) oF wp.2 wq.2 hU (v:=v) (w:=w) (C:=C++(List.range (Cn (Cn o.words.length p.words) q.words)).flatMap fun i:Nat=>Nf at' i (o.words.getD i 0) (C9 p.words i) (C9 q.words i)) (by rw[List.length_append];omega);rw[<-List.append_assoc];have sp:=X5 kp;have sq:=X5 kq;generalize (List.range (Cn (Cn o.words.length p.words) q.words)).flatMap (fun i:Nat=>Nf at' i (o.words.getD i 0) (C9 p.words i) (C9 q.words i))=CW at *;generalize hCK:(fun i:Nat=>(mg f (at'++[(0,(i:Int))]) (o.kids.getD i T0) (Eh p.kids i) (Eh q.kids i)).2)=CK at *;refine KV L7 iS (Af AB (Af Bp (Af (Ca o) (Af (C3 p) (Af (C3 q) Ak))))) (Ca _) fun w0 I0 M0 m0 hM=>?_;rw[gm HL.eq_1];simp;refine Au 0 W (fun p=>iS) iS iS ?_;simp;refine LoopC.le (Bi (d:=[5]) (u:=1) 2 [6] 3 (by simp;rfl) rfl iS) ?_;refine LoopC.le (Al [(0,.pob [0] v 0),(1,BL at'),(7,.pob [1] 1 0),(8,.pob [2] 1 0),(9,.pob [3] 1 0),(10,.pob [4] 1 0),(11,.pob [5] 1 0),(12,iv o.kids.length),(33,.sl true [Ry p.kids,Ry q.kids]),(34,iv 2),(35,iv 0)] iS) ?_;refine Aau ap aq sp sq wp.2 wq.2 oF ?_;simp;refine LoopC.le (Al [(0,.pob [0] v 0),(1,BL at'),(7,.pob [1] 1 0),(8,.pob [2] 1 0),(9,.pob [3] 1 0),(10,.pob [4] 1 0),(11,.pob [5] 1 0),(53,iv (B0 (B0 o.kids.length p.kids) q.kids:Nat)),(54,iv (0:Nat))] iS) ?_;refine L2 (fun H' hH=>?_) (B0 (B0 o.kids.length p.kids) q.kids) 0 _ oF ⟨fun r=>?_,by simp[Aa],by simp[Aa],by simp[Aa],by simp[Aa],by simp[Aa],by simp[Aa]⟩
 ·have h4:=hH.z;have h5:=hH.b;simp[h4,h5,Aa];have h6:=hH.c;have hf:=hH.f;rw[List.append_assoc]at hf;generalize hLL:(List.range (B0 (B0 o.kids.length p.kids) q.kids)).map U=LL at *;have hlen:B0 (B0 o.kids.length p.kids) q.kids=LL.length:=by rw[<-hLL];simp
  generalize B0 (B0 o.kids.length p.kids) q.kids=m at *;obtain⟨H4,y1,y2⟩:=K8 (c:=En Tryz.prog w0 I0 M0 80 m0) (s:=lk [(10,.pob [4] 1 0)]) (H:=Ar H' [4] ⟨1,.cells [iv 1,C7 X,.osl [6] (m+1) 3 0 m]⟩) (fun r=>r=6) (fun r p b h=>hM r p b oF) (r0:=4) (p0:=[]) oF (u:=1) (cs:=[iv 1,C7 X,.osl [6] (m+1) 3 0 m]) (by simp[Aa]) (cs':=ff (.mk 1 X LL)) (by simp[A.ones]) (fun H1 h1=>⟨Ad rfl,Ad rfl,AQ (f:=tA) (l:=LL) (by rw[h1 6 [] rfl];simp[Aa,h6]) hlen (fun x=>iS),trivial⟩);refine KK y1 (Av (r0:=tX (.mk 1 X LL)) (by simp[HX]) rfl fun r=>?_);have e1:=y2 0 r oF;dsimp only;rw[AD iS,e1,AD iS,hf]
 ·simp[Aa]
end Go.Proofs.YtlaapfplenlfaaaGreat
namespace Go.G
open Go
structure Ad5 where
 B:Nat->Nat->Nat->Nm->VOb
 C:Nat->Nat->Nat->Nm->VOb
 D:Nat->Nat->Nat->Nm->VOb
 ren:∀{g:Nm->Nm} {δ:Nm->Nat} {r r' q q' t t':Nat},(∀p,g (r::p)=r'::p)->(∀p,g (q::p)=q'::p)->(∀p,g (t::p)=t'::p)->(∀p,δ (r::p)=0)->(∀p,δ (q::p)=0)->(∀p,δ (t::p)=0)->∀p,(B r q t p).ren g δ 0=B r' q' t' p/\(C r q t p).ren g δ 0=C r' q' t' p/\(D r q t p).ren g δ 0=D r' q' t' p
 refs:∀{P:Nm->Prop} {r q t:Nat},(∀p,P (r::p))->(∀p,P (q::p))->(∀p,P (t::p))->∀p,(B r q t p).ob.refs P/\(C r q t p).ob.refs P/\(D r q t p).ob.refs P
section
variable {P:Program} {K:Sta->Prop} {rest:List CO} {s:Nat->A} {H:Hp} {dd:Option Nat} {nm:Nm} {ix:Nat} {un:List Nat} {l:Bool} {lg:Lg} {g:FuncId} {aa:Array Operand} {ts:Array TypeId}
theorem lZ{as':Nat->Nat->Nat->List A}{F:Ad5}{x:A}(r q t:Nat)(h1:r≠q)(h2:r≠t)(h3:q≠t)
  (hx1:∀g δ,x.ren g δ=x) (hx2:∀D,x.refs D)
  (fa1:∀{g:Nm->Nm} {δ:Nm->Nat} {r r' q q' t t':Nat},(∀p,g (r::p)=r'::p)->(∀p,g (q::p)=q'::p)->(∀p,g (t::p)=t'::p)->(∀p,δ (r::p)=0)->(∀p,δ (q::p)=0)->(∀p,δ (t::p)=0)->A.renL g δ (as' r q t)=as' r' q' t')
  (fa2:∀{P:Nm->Prop} {r q t:Nat},(∀p,P (r::p))->(∀p,P (q::p))->(∀p,P (t::p))->A.refsL P (as' r q t))
  (hS:SpecH P g 3 (as' 0 1 2) (ov 0 (F.B 0 1 2) (ov 1 (F.C 0 1 2) (ov 2 (F.D 0 1 2) (HO [])))) x (ov 0 (F.B 0 1 2) (ov 1 (F.C 0 1 2) (ov 2 (F.D 0 1 2) (HO [])))))
  (hB:∀p,H (r::p)=F.B r q t p) (hC:∀p,H (q::p)=F.C r q t p) (hD:∀p,H (t::p)=F.D r q t p) :
  ∃E,Zp P H g (as' r q t) x E [] ([r,q,t].map fun r=>([r],true))/\E.app H=H:=by
 have hd:∀p,Pd [r,q,t] 3 H (0::p)=0:=fun p=>rfl;have hd1:∀p,Pd [r,q,t] 3 H (1::p)=0:=fun p=>rfl;have hd2:∀p,Pd [r,q,t] 3 H (2::p)=0:=fun p=>rfl;have i0:[r,q,t].idxOf r=0:=iS
 have i1:[r,q,t].idxOf q=1:=by simp[List.idxOf_cons,beq_eq_false_iff_ne.2 h1]
 have i2:[r,q,t].idxOf t=2:=by simp[List.idxOf_cons,beq_eq_false_iff_ne.2 h2,beq_eq_false_iff_ne.2 h3]
 have d0:∀p,Vh [r,q,t] (r::p)=0::p:=fun p=>by simp[Vh]
 have d1:∀p,Vh [r,q,t] (q::p)=1::p:=fun p=>by simp[Vh,i1]
 have d2:∀p,Vh [r,q,t] (t::p)=2::p:=fun p=>by simp[Vh,i2]
 have u0:∀p,Q0 [r,q,t] (0::p)=r::p:=fun p=>by simp[Q0]
 have u1:∀p,Q0 [r,q,t] (1::p)=q::p:=fun p=>by simp[Q0]
 have u2:∀p,Q0 [r,q,t] (2::p)=t::p:=fun p=>by simp[Q0]
 have jin:∀{j:Nat},[r,q,t].idxOf j<3->j=r\/j=q\/j=t:=fun {j} hj=>by
  have:=(idx_mem (rs:=[r,q,t])).1 (by simpa using hj);simpa using this
 have key:=pJ (H:=H) (L:=as' r q t) (H':=H) [r,q,t] 3 hS (by simp[h1,h2,h3]) iS (fa1 d0 d1 d2 (fun _=>rfl) (fun _=>rfl) (fun _=>rfl)) (fa2 (fun p=>by simp[RH]) (fun p=>by simp[RH,i1]) (fun p=>by simp[RH,i2])) ?_ ?_ (hx2 _) ?_ (fun i p h1 h2=>by simp at h2;omega) ?_
 ·rw[hx1]at key;exact key
 ·funext o;cases o with
  |nil=>rfl
  |cons i p=>
   by_cases hi:i<3
   ·simp only[Ni,if_pos hi];have h01:i=0\/i=1\/i=2:=oF
    rcases h01 with rfl|rfl|rfl
    ·show(H (r::p)).ren _ _ 0=_;rw[hB];simp only[A6,if_true];exact(F.ren d0 d1 d2 (fun _=>rfl) (fun _=>rfl) (fun _=>rfl) p).1
    ·show(H (q::p)).ren _ _ 0=_;rw[hC];simp only[A6,if_true];rw[if_neg oF];exact(F.ren d0 d1 d2 (fun _=>rfl) (fun _=>rfl) (fun _=>rfl) p).2.1
    ·show(H (t::p)).ren _ _ 0=_;rw[hD];simp only[A6,if_true];rw[if_neg oF,if_neg oF];exact(F.ren d0 d1 d2 (fun _=>rfl) (fun _=>rfl) (fun _=>rfl) p).2.2
   ·simp only[Ni,if_neg hi,A6];rw[if_neg oF,if_neg oF,if_neg oF];rfl
 ·intro j p hj;have R:=F.refs (P:=RH [r,q,t] 3) (r:=r) (q:=q) (t:=t) (fun p=>by simp[RH]) (fun p=>by simp[RH,i1]) (fun p=>by simp[RH,i2]) p;rcases jin hj with rfl|rfl|rfl
  ·rw[hB];exact R.1
  ·rw[hC];exact R.2.1
  ·rw[hD];exact R.2.2
 ·intro i p hi;have hi:i<3:=hi;have R:=F.refs (P:=HG 3) (r:=0) (q:=1) (t:=2) (fun p=>by simp[HG]) (fun p=>by simp[HG]) (fun p=>by simp[HG]) p;by_cases e0:i=0
  ·subst e0;simp only[A6,if_true];exact R.1
  ·by_cases e1:i=1
   ·subst e1;simp only[A6,if_true];rw[if_neg oF];exact R.2.1
   ·have:i=2:=oF
    subst this;simp only[A6,if_true];rw[if_neg oF,if_neg oF];exact R.2.2
 ·funext o;cases o with
  |nil=>rfl
  |cons j p=>
   by_cases hj:j=r
   ·subst hj;simp only[NU,A6,if_true];rw[if_pos iS,i0,if_pos rfl,hd,hB];exact(F.ren u0 u1 u2 hd hd1 hd2 p).1
   ·by_cases hj2:j=q
    ·subst hj2;simp only[NU,A6,if_true];rw[if_pos iS,i1,if_neg oF,if_pos rfl,hd1,hC];exact(F.ren u0 u1 u2 hd hd1 hd2 p).2.1
    ·by_cases hj3:j=t
     ·subst hj3;simp only[NU,A6,if_true];rw[if_pos iS,i2,if_neg oF,if_neg oF,if_pos rfl,hd2,hD];exact(F.ren u0 u1 u2 hd hd1 hd2 p).2.2
     ·have:¬[r,q,t].contains j=true:=by simp[hj,hj2,hj3]
      simp only[NU,if_neg this]
theorem Y3{as':Nat->Nat->Nat->List A}{F:Ad5}{x:A}{fo:Operand}{fs caps:List A}(r q t:Nat)(h1:r≠q)(h2:r≠t)(h3:q≠t)(hv0:evs s fo=.fnc g fs caps)
  (hx1:∀g δ,x.ren g δ=x) (hx2:∀D,x.refs D)
  (fa1:∀{g:Nm->Nm} {δ:Nm->Nat} {r r' q q' t t':Nat},(∀p,g (r::p)=r'::p)->(∀p,g (q::p)=q'::p)->(∀p,g (t::p)=t'::p)->(∀p,δ (r::p)=0)->(∀p,δ (q::p)=0)->(∀p,δ (t::p)=0)->A.renL g δ (as' r q t)=as' r' q' t')
  (fa2:∀{P:Nm->Prop} {r q t:Nat},(∀p,P (r::p))->(∀p,P (q::p))->(∀p,P (t::p))->A.refsL P (as' r q t))
  (hS:SpecH P g 3 (as' 0 1 2) (ov 0 (F.B 0 1 2) (ov 1 (F.C 0 1 2) (ov 2 (F.D 0 1 2) (HO [])))) x (ov 0 (F.B 0 1 2) (ov 1 (F.C 0 1 2) (ov 2 (F.D 0 1 2) (HO [])))))
  (hB:∀p,H (r::p)=F.B r q t p) (hC:∀p,H (q::p)=F.C r q t p) (hD:∀p,H (t::p)=F.D r q t p) (ha:fs++(aa.toList.map (evs s)++caps)=as' r q t) (hck:Ck un lg ⟨[([r],true),([q],true),([t],true)],[]⟩)
  (h:AE P K rest (Cc l ix ⟨[([r],true),([q],true),([t],true)],[]⟩ lg) (Sta.put ⟨s,H⟩ dd x H)) :
  AE P K (⟨dd,.call { callee:=.value fo,args:=aa,argTypes:=ts },none,nm,ix,un,l⟩::rest) lg ⟨s,H⟩:=by
 refine bo hv0 ha .nil [([r],true),([q],true),([t],true)] [] (fun H2 hag=>?_) (fun o H2 ho=>rfl) hck h;have e1:∀p,H2 (r::p)=F.B r q t p:=fun p=>by rw[hag (r::p) (by simp[Ym,TT,List.isPrefixOf]),hB]
 have e2:∀p,H2 (q::p)=F.C r q t p:=fun p=>by rw[hag (q::p) (by simp[Ym,TT,List.isPrefixOf]),hC]
 have e3:∀p,H2 (t::p)=F.D r q t p:=fun p=>by rw[hag (t::p) (by simp[Ym,TT,List.isPrefixOf]),hD]
 obtain⟨E,hc,hE⟩:=lZ r q t h1 h2 h3 hx1 hx2 fa1 fa2 hS e1 e2 e3;have hc3:Vw P H2 g (as' r q t) x E:=by
  rcases hc with ⟨_,_,_,_,h5⟩|⟨_,_,_,h4⟩|⟨h1,_⟩
  ·cases h5
  ·cases h4
  ·exact h1 H2 (fun o _=>rfl)
 refine⟨hc3.1,fun c w I μ vs a b d e=>?_⟩;have:=hc3.2 c w I μ vs a b d e;rw[hE]at this;exact this
end
end Go.G
namespace Go.Proofs.YtlaapfplenlfaaaGreat
open Go Go.G Go.Proofs Go.PL
abbrev uo(x:Bool × List T):A:=.sl x.1 (x.2.map tA)
def Vu(v w:Nat)(C:List Cf)(at':DQ)(o:T)(n vo:Nat)(out:List T)(m h:Bool × List T)(vs:Nat):Vi:=⟨fun r _=>(RK v w C).F r,fun r q p=>if p=[]then ⟨vs,.cells [.pob [r] v 0,BL at',iv o.kind,C7 o.words,AV o.kids,iv n,.osl [q,0] vo 3 0 out.length,uo m,uo h]⟩else if p=[0]then ⟨vo,.arr 3 (out.map tA)⟩else ⟨0,.none⟩,fun {g δ r r' q q'} h1 h2 h3 h4 p=>by
  refine⟨(RK v w C).ren h1 h2 p,?_⟩;by_cases hp:p=[]
  ·simp only[if_pos hp];exact Fam.cells_ren (by simp[A.renL,A.ren,h1,h2,h3,h4])
  ·by_cases hp2:p=[0]
   ·simp only[if_neg hp,if_pos hp2];refine Fam.arr_ren ?_;simp only[C0,List.map_map];exact List.map_congr_left fun x _=>by simp[A.ren,A.renL]
   ·simp only[if_neg hp,if_neg hp2];rfl,fun {D r q} h1 h2 p=>by
  refine⟨(RK v w C).refs h1 p,?_⟩;by_cases hp:p=[]
  ·simp only[if_pos hp];simp[Ob.refs,A.refsL,A.refs,h1,h2]
  ·by_cases hp2:p=[0]
   ·simp only[if_neg hp,if_pos hp2,Ob.refs,refsL_iff];intro y hy;obtain⟨x,_,rfl⟩:=List.mem_map.1 hy;simp[A.refs,A.refsL]
   ·simp only[if_neg hp,if_neg hp2];trivial⟩
@[simp]theorem Anm{v w:Nat}{C:List Cf}{at':DQ}{o:T}{n vo:Nat}{out:List T}{m h:Bool × List T}{vs r q:Nat}{p:Nm}:(Vu v w C at' o n vo out m h vs).B r q p=(RK v w C).F r p:=rfl
@[simp]theorem Am8{v w:Nat}{C:List Cf}{at':DQ}{o:T}{n vo:Nat}{out:List T}{m h:Bool × List T}{vs r q:Nat}{p:Nm}:(Vu v w C at' o n vo out m h vs).C r q p=if p=[]then ⟨vs,.cells [.pob [r] v 0,BL at',iv o.kind,C7 o.words,AV o.kids,iv n,.osl [q,0] vo 3 0 out.length,uo m,uo h]⟩else if p=[0]then ⟨vo,.arr 3 (out.map tA)⟩else ⟨0,.none⟩:=rfl
def lQ(S:Vi)(vs:Nat):Ad5:=⟨fun r q t p=>if p=[]then ⟨1,.cells [.pob [q] vs 0]⟩else ⟨0,.none⟩,fun r q t p=>S.C t q p,fun r q t p=>S.B t q p,fun {g δ r r' q q' t t'} h1 h2 h3 d1 d2 d3 p=>by
  refine⟨?_,(S.ren h3 d3 h2 d2 p).2,(S.ren h3 d3 h2 d2 p).1⟩;by_cases hp:p=[]
  ·simp only[if_pos hp];exact Fam.cells_ren (by simp[A.renL,A.ren,h2,d2])
  ·simp only[if_neg hp];rfl,fun {D r q t} h1 h2 h3 p=>by
  refine⟨?_,(S.refs h3 h2 p).2,(S.refs h3 h2 p).1⟩;by_cases hp:p=[]
  ·simp only[if_pos hp];simp[Ob.refs,A.refsL,A.refs,h2]
  ·simp only[if_neg hp];trivial⟩
@[simp]theorem Ant{S:Vi}{vs r q t:Nat}{p:Nm}:(lQ S vs).B r q t p=if p=[]then ⟨1,.cells [.pob [q] vs 0]⟩else ⟨0,.none⟩:=rfl
@[simp]theorem AnE{S:Vi}{vs r q t:Nat}{p:Nm}:(lQ S vs).C r q t p=S.C t q p:=rfl
@[simp]theorem AnG{S:Vi}{vs r q t:Nat}{p:Nm}:(lQ S vs).D r q t p=S.B t q p:=rfl
theorem VX{v w:Nat}{C:List Cf}{at':DQ}{o:T}{n vo:Nat}{out:List T}{m h:Bool × List T}{vs:Nat}(b:Bool)(l:List T) :
  SpecH Tryz.prog 134 3 [.sl b (l.map tA),.pob [0] 1 0] (ov 0 ((lQ (Vu v w C at' o n vo out m h vs) vs).B 0 1 2) (ov 1 ((lQ (Vu v w C at' o n vo out m h vs) vs).C 0 1 2) (ov 2 ((lQ (Vu v w C at' o n vo out m h vs) vs).D 0 1 2) (HO [])))) (tX (.mk o.kind [] l)) (ov 0 ((lQ (Vu v w C at' o n vo out m h vs) vs).B 0 1 2) (ov 1 ((lQ (Vu v w C at' o n vo out m h vs) vs).C 0 1 2) (ov 2 ((lQ (Vu v w C at' o n vo out m h vs) vs).D 0 1 2) (HO [])))):=by
 refine Qv Rx iS fun w0 I0 M0 m0 hM=>?_;rw[Ao Ko.eq_1];simp;generalize hH:ov 0 ((lQ (Vu v w C at' o n vo out m h vs) vs).B 0 1 2) (ov 1 ((lQ (Vu v w C at' o n vo out m h vs) vs).C 0 1 2) (ov 2 ((lQ (Vu v w C at' o n vo out m h vs) vs).D 0 1 2) (HO [([3],⟨1,.cells [iv o.kind,.sl true [],.sl b (l.map tA)]⟩)])))=H;have h3:H [3]=⟨1,.cells [iv o.kind,.sl true [],.sl b (l.map tA)]⟩:=by rw[<-hH];simp
 obtain⟨H2,g1,g2⟩:=K8 (c:=En Tryz.prog w0 I0 M0 11 m0) (s:=lk [(3,.pob [3] 1 0)]) (H:=H) (fun _=>False) (fun _ _ _ h=>h.elim) (r0:=3) (p0:=[]) iS h3 (cs':=ff (.mk o.kind [] l)) (by simp[A.ones]) (fun H1 _=>⟨Ad rfl,Ai,Ai,trivial⟩);refine KK g1 (ZG (r0:=tX (.mk o.kind [] l)) (by simp[HX]) rfl fun i p hi=>?_);have e1:=g2 i p iS;dsimp only;rw[AD (by simp;omega),e1,<-hH];by_cases e0:i=0
 ·subst e0;simp
 ·by_cases e1:i=1
  ·subst e1;simp
  ·have:i=2:=oF
   subst this;simp
theorem AdP{l m:List T}:(decide (l.length=m.length)&&(l.zip m).all fun p=>JE p.1 p.2)=true↔l.map Ag=m.map Ag:=by
 induction l generalizing m with
 |nil=>cases m<;>simp
 |cons x l ih=>
  cases m with
  |nil=>simp
  |cons y m=>
   have:=ih (m:=m);simp only[Bool.and_eq_true,decide_eq_true_eq]at this ⊢;rw[List.zip_cons_cons,List.all_cons,Bool.and_eq_true,List.map_cons,List.map_cons,List.cons.injEq,<-this,eqT_iff];simp only[List.length_cons,Nat.add_right_cancel_iff];constructor
   ·rintro⟨a,b,c⟩;exact⟨b,a,c⟩
   ·rintro⟨b,a,c⟩;exact⟨a,b,c⟩
noncomputable def Nv(l m:List T):Bool:=decide (l.length=m.length)&&(l.zip m).all fun p=>JE p.1 p.2
theorem eqLs_iff{l m:List T}:Nv l m=true↔l.map Ag=m.map Ag:=AdP
theorem b9{l m:List T}(he:l.length=m.length):Nv l m=true↔∀k,k<l.length->JE (l.getD k T0) (m.getD k T0)=true:=by
 rw[eqLs_iff];constructor
 ·intro h k hk;have:=congrArg (fun x=>x.getD k T0) h;simp only[Hn]at this;exact eqT_iff.2 this
 ·intro h;refine List.ext_getElem (by simp[he]) fun k h1 h2=>?_;have hk:k<l.length:=by simpa using h1
  have hk2:k<m.length:=oF
  have:=eqT_iff.1 (h k hk);simpa[hk,hk2]using this
variable {n0:Nat} {w0:World} {I0:Nat->Prop} {Q:Exit->Sta->Prop}
theorem Aef{l m:List T}(hl:∀t,t∈l->Ay t)(hm:∀t,t∈m->Ay t)(he:l.length=m.length)(hb:l.length<=10000000000000)(hq:Nv l m=true->∀st H,Q (.exit 0) ⟨lk ([(1,AV m),(2,.fnc 57 [] [])]++st),H⟩)(hf:Nv l m=false->∀H,Q .ret ⟨lk [(6,bv false)],H⟩):∀(j i:Nat)(H:Hp),i+j=l.length->(∀k,k<i->JE (l.getD k T0) (m.getD k T0)=true) ->
  LoopC (cx Tryz.prog w0 I0 n0) An Q ⟨lk [(1,AV m),(2,.fnc 57 [] []),(15,AV l),(16,iv l.length),(17,iv i)],H⟩:=by
 intro j;induction j with
 |zero=>
  intro i H hj hp;have:i=l.length:=oF
  subst this;refine Ab Ah (Ao An.eq_1) ?_;simp;have:=hq ((b9 he).2 hp) [(15,AV l),(16,iv l.length),(17,iv l.length),(18,bv false)] H;simpa using this
 |succ j ih=>
  intro i H hj hp;have h1:i<l.length:=oF
  have h2:i<m.length:=oF
  have ew:=Ap i;have E:=Lr (hl _ (Bv h1)) (hm _ (Bv h2));have eg:JE (l.getD i T0) (m.getD i T0)=JE l[i] m[i]:=by simp[h1,h2]
  refine Ab Ah (Ao An.eq_1) ?_;cases hc:JE l[i] m[i] with
  |true=>
   rw[hc]at E;simp[h1,h2,Aa];refine P0 rfl E iS ?_;simp[ew];refine ih (i+1) _ oF fun k hk=>?_;by_cases e:k=i
   ·subst e;rw[eg,hc]
   ·exact hp k oF
  |false=>
   rw[hc]at E;simp[h1,h2,Aa];refine P0 rfl E iS ?_;simp[ew];refine hf ?_ _;cases hx:Nv l m with
   |false=>rfl
   |true=>
    have:=(b9 he).1 hx i h1;rw[eg,hc]at this;cases this
theorem vB{l m:List T}(hl:∀t,t∈l->Ay t)(hm:∀t,t∈m->Ay t)(hb:l.length<=10000000000000):G.Spec Tryz.prog 126 [AV l,AV m,.fnc 57 [] []] (bv (Nv l m)):=by
 refine Aj BR iS fun w0 I0=>?_;rw[BG A8.eq_1];by_cases he:l.length=m.length
 ·simp[he];refine LoopC.le (Al [(1,AV m),(2,.fnc 57 [] []),(15,AV l),(16,iv l.length),(17,iv (0:Nat))] (by simp[he])) ?_;refine Aef hl hm he hb (fun hx st H=>?_) (fun hx H=>?_) l.length 0 _ oF (fun k hk=>oF)
  ·rw[hx];simp;exact Ad rfl
  ·rw[hx];simp;exact Ad rfl
 ·have hx:Nv l m=false:=by
   cases hx:Nv l m with
   |false=>rfl
   |true=>exact absurd (by simpa using congrArg List.length (eqLs_iff.1 hx)) he
  have hi:¬((l.length:Int)=m.length):=oF
  rw[hx];simp[he,hi];exact Ad rfl
noncomputable def Je(mine hers:List T):Option (List T):=if mine=[]then some hers else if Nv mine hers=true then some hers else if hers=[]then some mine else none
noncomputable def X9(mine hers:List T):Nat:=if (Je mine hers).isSome=true then 1 else 0
theorem mW(at':DQ)(kind:Int)(n:Nat)(mine hers:List T):(∀l,Je mine hers=some l->Gb at' kind n mine hers=(l.map Ag,[]))/\(Je mine hers=none->Gb at' kind n mine hers=([],[⟨at'++[(2,(n:Int))],Ag (.mk kind [] []),Ag (.mk kind [] mine),Ag (.mk kind [] hers)⟩])):=by
 unfold Je Gb;by_cases h1:mine=[]
 ·simp[h1]
 ·by_cases h2:Nv mine hers=true
  ·simp[h1,h2,eqLs_iff.1 h2]
  ·have h2':¬mine.map Ag=hers.map Ag:=fun h=>h2 (eqLs_iff.2 h);by_cases h3:hers=[]
   ·subst h3;simp[h1,h2,h2']
   ·simp[h1,h2,h2',h3]
theorem bt{v w:Nat}{C:List Cf}{at':DQ}{o:T}{n vo:Nat}{out mine hers:List T}{vs:Nat}(hm:∀t,t∈mine->Ay t)(hh:∀t,t∈hers->Ay t)(wo:B6 o.kind)(lm:mine.length<=1000000)(lh:hers.length<=1000000)(lo:out.length<=1000000000)(hat:at'.length<=900000)(hC:C.length<=100000000000) :
  MR Tryz.prog 87 (fun r q=>[.pob [q] vs 0]) (Vu v w C at' o n vo out (false,mine) (false,hers) vs) (fun _ _=>.tup []) (Vu v w (C++(Gb at' o.kind n mine hers).2) at' o n (vo+X9 mine hers) (out++(Je mine hers).getD []) (true,[]) (true,[]) vs):=by
 have E:=vB hm hh oF;have G:=mW at' o.kind n mine hers;have hml:(mine.length:Int)=0↔mine=[]:=by rw[<-List.length_eq_zero_iff];omega
 have hhl:(hers.length:Int)=0↔hers=[]:=by rw[<-List.length_eq_zero_iff];omega
 refine Iq Tr iS (AF (JN AB) E6) (BD (Bj Ak)) fun w0 I0 M0 m0=>?_;rw[Ao Md.eq_1];by_cases h1:mine=[]
 ·have hR:Je mine hers=some hers:=if_pos h1;rw[G.1 _ hR,X9,hR];subst h1;simp;refine Bx rfl ?_;simp[Aa,splice];refine⟨oF,?_⟩;refine EK rfl rfl (fun p=>?_) (fun p=>?_)
  ·simp[Aa]
  ·by_cases p1:p=[]
   ·subst p1;simp[Aa]
   ·by_cases p2:p=[0]
    ·subst p2;simp[Aa,Ax]
    ·simp[Aa,p1,p2]
 ·have hml':¬(mine.length:Int)=0:=fun h=>h1 (hml.1 h);by_cases h2:Nv mine hers=true
  ·have hR:Je mine hers=some hers:=by rw[Je,if_neg h1,if_pos h2]
   rw[G.1 _ hR,X9,hR];rw[h2]at E;simp[h1,hml'];rw[AR];simp[h1,hml'];refine Ae E iS ?_;simp[Aa,splice];refine⟨oF,?_⟩;refine EK rfl rfl (fun p=>?_) (fun p=>?_)
   ·simp[Aa]
   ·by_cases p1:p=[]
    ·subst p1;simp[Aa]
    ·by_cases p2:p=[0]
     ·subst p2;simp[Aa,Ax]
     ·simp[Aa,p1,p2]
  ·have h2f:Nv mine hers=false:=by
    cases h:Nv mine hers with
    |false=>rfl
    |true=>exact absurd h h2
   rw[h2f]at E;by_cases h3:hers=[]
   ·have hR:Je mine hers=some mine:=by rw[Je,if_neg h1,if_neg h2,if_pos h3]
    rw[G.1 _ hR,X9,hR];subst h3;simp[h1,hml'];rw[AR];simp[h1,hml'];refine Ae E iS ?_;simp[Aa,splice];refine⟨oF,?_⟩;refine EK rfl rfl (fun p=>?_) (fun p=>?_)
    ·simp[Aa]
    ·by_cases p1:p=[]
     ·subst p1;simp[Aa]
     ·by_cases p2:p=[0]
      ·subst p2;simp[Aa,Ax]
      ·simp[Aa,p1,p2]
   ·have hR:Je mine hers=none:=by rw[Je,if_neg h1,if_neg h2,if_neg h3]
    have hhl':¬(hers.length:Int)=0:=fun h=>h3 (hhl.1 h);rw[G.2 hR,X9,hR];have F:=KJ at' 2 n oF;simp[h1,hml'];rw[AR];simp[h1,hml'];refine Ae E iS ?_;simp[Aa,h3,hhl'];refine Ae F iS ?_;simp;have B1:=VX (v:=v) (w:=w) (C:=C) (at':=at') (o:=o) (n:=n) (vo:=vo) (out:=out) (m:=(false,mine)) (h:=(false,hers)) (vs:=vs) true [];have B2:=VX (v:=v) (w:=w) (C:=C) (at':=at') (o:=o) (n:=n) (vo:=vo) (out:=out) (m:=(false,mine)) (h:=(false,hers)) (vs:=vs) false mine;have B3:=VX (v:=v) (w:=w) (C:=C) (at':=at') (o:=o) (n:=n) (vo:=vo) (out:=out) (m:=(false,mine)) (h:=(false,hers)) (vs:=vs) false hers;have wf1:∀l:List T,(∀t,t∈l->Ay t)->l.length<=1000000->Ay (.mk o.kind [] l):=fun l h1 h2=>wfT_iff.2 ⟨wo,iS,iS,by show l.length*56<=_;omega,h1⟩;have CL:=SW (l:=at'++[(2,(n:Int))]) (b:=.mk o.kind [] []) (o:=.mk o.kind [] mine) (t:=.mk o.kind [] hers) (by simp;omega) (wf1 [] (fun t ht=>nomatch ht) iS) (wf1 mine hm lm) (wf1 hers hh lh) v w hC;have hB:∀p,(ov 0 ((Vu v w C at' o n vo out (false,mine) (false,hers) vs).B 0 1) (ov 1 ((Vu v w C at' o n vo out (false,mine) (false,hers) vs).C 0 1) (HO [([2],⟨1,.cells [.pob [1] vs 0]⟩)]))) (2::p)=(lQ (Vu v w C at' o n vo out (false,mine) (false,hers) vs) vs).B 2 1 0 p:=fun p=>by
     by_cases hp:p=[]
     ·subst hp;simp
     ·simp[hp,HO,Ne.symm hp]
    have fa1:∀(b:Bool)(l:List T){g:Nm->Nm}{δ:Nm->Nat}{r r' q q' t t':Nat},(∀p,g (r::p)=r'::p)->(∀p,g (q::p)=q'::p)->(∀p,g (t::p)=t'::p)->(∀p,δ (r::p)=0)->(∀p,δ (q::p)=0)->(∀p,δ (t::p)=0)->A.renL g δ [.sl b (l.map tA),.pob [r] 1 0]=[.sl b (l.map tA),.pob [r'] 1 0]:=fun b l _ _ _ _ _ _ _ _ h1 _ _ d1 _ _=>by simp[A.renL,A.ren,h1,d1]
    have fa2:∀(b:Bool)(l:List T){P:Nm->Prop}{r q t:Nat},(∀p,P (r::p))->(∀p,P (q::p))->(∀p,P (t::p))->A.refsL P [.sl b (l.map tA),.pob [r] 1 0]:=fun b l _ _ _ _ h1 _ _=>by simp[A.refsL,A.refs,h1]
    refine Y3 (as':=fun r q t=>[.sl true [],.pob [r] 1 0]) (F:=lQ (Vu v w C at' o n vo out (false,mine) (false,hers) vs) vs) (fs:=[]) (caps:=[.pob [2] 1 0]) 2 1 0 dO dO dO iS (fun g δ=>by simp[A.ren,A.renL]) (fun D=>by simp[A.refs,A.refsL]) (fa1 true []) (fa2 true []) B1 hB (fun p=>iS) (fun p=>iS) iS iS ?_;simp;refine Y3 (as':=fun r q t=>[.sl false (mine.map tA),.pob [r] 1 0]) (F:=lQ (Vu v w C at' o n vo out (false,mine) (false,hers) vs) vs) (fs:=[]) (caps:=[.pob [2] 1 0]) 2 1 0 dO dO dO iS (fun g δ=>by simp[A.ren,A.renL]) (fun D=>by simp[A.refs,A.refsL]) (fa1 false mine) (fa2 false mine) B2 hB (fun p=>iS) (fun p=>iS) iS iS ?_;simp;refine Y3 (as':=fun r q t=>[.sl false (hers.map tA),.pob [r] 1 0]) (F:=lQ (Vu v w C at' o n vo out (false,mine) (false,hers) vs) vs) (fs:=[]) (caps:=[.pob [2] 1 0]) 2 1 0 dO dO dO iS (fun g δ=>by simp[A.ren,A.renL]) (fun D=>by simp[A.refs,A.refsL]) (fa1 false hers) (fa2 false hers) B3 hB (fun p=>iS) (fun p=>iS) iS iS ?_;simp;refine Au 0 CL (fun p=>iS) iS (by simp[List.isPrefixOf]) ?_;simp[Aa,splice];refine EK rfl rfl (fun p=>?_) (fun p=>?_)
    ·simp[Aa]
    ·by_cases p1:p=[]
     ·subst p1;simp[Aa]
     ·by_cases p2:p=[0]
      ·subst p2;simp[Aa]
      ·simp[Aa,p1,p2]
def lP(e:E)(t:T):Prop:=G.Spec Tryz.prog 54 [eX e,tX t] (tX (Ge e t))/\Ay (Ge e t)/\Ag (Ge e t)=Ge e t
theorem Vf:Ag T0=T0:=rfl
def UtS(f:Nat)(at':DQ)(o:T)(n:Nat)(p q:OP)(us:List T)(cs:List Cf):Prop:=∀(v w:Nat)(C:List Cf)(vo:Nat)(out:List T)(vs:Nat),C.length+cs.length<=100000000000->out.length<=1000000000 ->
 MR Tryz.prog 88 (fun r q'=>[.pob [q'] vs 0,oX p,oX q]) (Vu v w C at' o n vo out (true,[]) (true,[]) vs) (fun _ _=>.tup []) (Vu v w (C++cs) at' o (n+1) (vo+us.length) (out++us) (true,[]) (true,[]) vs)
theorem lU{f:Nat}{at':DQ}(hat:at'.length<=900000){o:T}(wo:Ay o){n:Nat}(hn:n<o.kids.length)(hn2:n<=1000000000){p q:OP}(hp:(p.kind=0/\p.e=E0)\/(p.kind=1/\p.e=E0)\/(p.kind=3/\lP p.e o.kids[n]))(hq:(q.kind=0/\q.e=E0)\/(q.kind=1/\q.e=E0)\/(q.kind=3/\lP q.e o.kids[n])){u:T}(hu:yB f (at'++[(0,(n:Int))]) o.kids[n] p.e q.e u) :
  ∃us,(∀t,t∈us->Ay t)/\us.length<=1/\us.map Ag=(Cs (mg f) (at'++[(0,(n:Int))]) o.kids[n] (MO p) (MO q)).1/\UtS f at' o n p q us (Cs (mg f) (at'++[(0,(n:Int))]) o.kids[n] (MO p) (MO q)).2:=by
 have wk:Ay o.kids[n]:=(wfT_iff.1 wo).ks _ (Bv hn);have F:=KJ at' 0 n oF;have ew:=Ap n;by_cases a1:p.kind=1/\q.kind=3
 ·have e1:MO p=.del T0:=by unfold MO;rw[if_neg oF,if_pos a1.1]
  have e2:MO q=.desc q.e:=by unfold MO;rw[if_neg oF,if_neg oF]
  have D:lP q.e o.kids[n]:=by
   rcases hq with h|h|h
   ·omega
   ·omega
   ·exact h.2
  rw[e1,e2];refine⟨[o.kids[n]],fun t ht=>by rw[List.mem_singleton.1 ht];exact wk,iS,rfl,fun v w C vo out vs hC ho=>?_⟩;have CL:=Qs (l:=at'++[(0,(n:Int))]) (b:=o.kids[n]) (o:=T0) (t:=Ge q.e o.kids[n]) true false (by simp;omega) wk Yr D.2.1 v w (C:=C) (by simp[Cs]at hC;omega);rw[Vf,D.2.2]at CL;have D1:=D.1;simp only[Cs];refine Iq GL iS (AF (JN AB) (AF (BD (IH p)) (AF (BD (IH q)) E6))) (BD (Bj Ak)) fun w0 I0 M0 m0=>?_;rw[Ao EB.eq_1];simp[hn];refine Ae F iS ?_;simp[a1.1,a1.2,Aa];refine Ae D1 iS ?_;simp;refine Au 0 CL (fun p=>iS) iS (by simp[List.isPrefixOf]) ?_;simp[Aa,splice];refine⟨oF,oF,?_⟩;refine EK rfl rfl (fun p=>?_) (fun p=>?_)
  ·simp[Aa]
  ·by_cases p1:p=[]
   ·subst p1;simp[Aa,ew]
   ·by_cases p2:p=[0]
    ·subst p2;simp[Aa,Ax]
    ·simp[Aa,p1,p2]
 by_cases a2:p.kind=3/\q.kind=1
 ·have e1:MO q=.del T0:=by unfold MO;rw[if_neg oF,if_pos a2.2]
  have e2:MO p=.desc p.e:=by unfold MO;rw[if_neg oF,if_neg oF]
  have D:lP p.e o.kids[n]:=by
   rcases hp with h|h|h
   ·omega
   ·omega
   ·exact h.2
  rw[e1,e2];refine⟨[o.kids[n]],fun t ht=>by rw[List.mem_singleton.1 ht];exact wk,iS,rfl,fun v w C vo out vs hC ho=>?_⟩;have CL:=Qs (l:=at'++[(0,(n:Int))]) (b:=o.kids[n]) (o:=Ge p.e o.kids[n]) (t:=T0) false true (by simp;omega) wk D.2.1 Yr v w (C:=C) (by simp[Cs]at hC;omega);rw[Vf,D.2.2]at CL;have D1:=D.1;simp only[Cs];refine Iq GL iS (AF (JN AB) (AF (BD (IH p)) (AF (BD (IH q)) E6))) (BD (Bj Ak)) fun w0 I0 M0 m0=>?_;rw[Ao EB.eq_1];simp[hn];refine Ae F iS ?_;simp[a2.1,a2.2,Aa];refine Ae D1 iS ?_;simp;refine Au 0 CL (fun p=>iS) iS (by simp[List.isPrefixOf]) ?_;simp[Aa,splice];refine⟨oF,oF,?_⟩;refine EK rfl rfl (fun p=>?_) (fun p=>?_)
  ·simp[Aa]
  ·by_cases p1:p=[]
   ·subst p1;simp[Aa,ew]
   ·by_cases p2:p=[0]
    ·subst p2;simp[Aa,Ax]
    ·simp[Aa,p1,p2]
 by_cases a3:p.kind=1\/q.kind=1
 ·have hM:Cs (mg f) (at'++[(0,(n:Int))]) o.kids[n] (MO p) (MO q)=([],[]):=by
   rcases hp with h|h|h<;>rcases hq with g|g|g<;>(try omega)<;>simp[MO,h.1,g.1,Cs]
  rw[hM];refine⟨[],(fun t ht=>by simp at ht),iS,rfl,fun v w C vo out vs hC ho=>?_⟩;refine Iq GL iS (AF (JN AB) (AF (BD (IH p)) (AF (BD (IH q)) E6))) (BD (Bj Ak)) fun w0 I0 M0 m0=>?_;rw[Ao EB.eq_1];simp[hn];refine Ae F iS ?_;by_cases b1:p.kind=1
  ·have b2:¬q.kind=3:=fun h=>a1 ⟨b1,h⟩;simp[b1,b2,Aa];refine EK rfl rfl (fun p=>?_) (fun p=>?_)
   ·simp[Aa]
   ·by_cases p1:p=[]
    ·subst p1;simp[Aa,ew]
    ·simp[Aa,p1]
  ·have b2:q.kind=1:=oF
   have b3:¬p.kind=3:=fun h=>a2 ⟨h,b2⟩;simp[b1,b2,b3,Aa];refine EK rfl rfl (fun p=>?_) (fun p=>?_)
   ·simp[Aa]
   ·by_cases p1:p=[]
    ·subst p1;simp[Aa,ew]
    ·simp[Aa,p1]
 ·have b1:¬p.kind=1:=fun h=>a3 (.inl h);have b2:¬q.kind=1:=fun h=>a3 (.inr h);have hM:Cs (mg f) (at'++[(0,(n:Int))]) o.kids[n] (MO p) (MO q)=([(mg f (at'++[(0,(n:Int))]) o.kids[n] p.e q.e).1],(mg f (at'++[(0,(n:Int))]) o.kids[n] p.e q.e).2):=by
   rcases hp with h|h|h<;>rcases hq with g|g|g<;>(try omega)
   ·rw[h.2,g.2];simp[MO,h.1,g.1,Cs,eU]
   ·rw[h.2];simp[MO,h.1,g.1,Cs,eU]
   ·rw[g.2];simp[MO,h.1,g.1,Cs,eU]
   ·simp[MO,h.1,g.1,Cs,eU]
  obtain⟨u1,u2,u3⟩:=hu;rw[hM];refine⟨[u],fun t ht=>by rw[List.mem_singleton.1 ht];exact u1,iS,by simp[u2],fun v w C vo out vs hC ho=>?_⟩;have S:=u3 v w C hC;refine Iq GL iS (AF (JN AB) (AF (BD (IH p)) (AF (BD (IH q)) E6))) (BD (Bj Ak)) fun w0 I0 M0 m0=>?_;rw[Ao EB.eq_1];simp[hn];refine Ae F iS ?_;simp[b1,b2,Aa];refine Au 0 S (fun p=>iS) iS (by simp[List.isPrefixOf]) ?_;simp[Aa,splice];refine⟨oF,oF,?_⟩;refine EK rfl rfl (fun p=>?_) (fun p=>?_)
  ·simp[Aa]
  ·by_cases p1:p=[]
   ·subst p1;simp[Aa,ew]
   ·by_cases p2:p=[0]
    ·subst p2;simp[Aa,Ax]
    ·simp[Aa,p1,p2]
end Go.Proofs.YtlaapfplenlfaaaGreat
namespace Go.G
open Go
theorem mn{c:Cx}{s:Nat->A}{H:Hp}(R:Nat->Prop)[DecidablePred R](hM:∀r p b,R r->¬c.M0 (r::p) b){r0:Nat}{p0:Nm}(hr0:¬R r0){u:Nat}{cs cs':List A}(hd:H (r0::p0)=⟨u,.cells cs⟩)(h1:A.ones cs'=true)
  (hf:∀H1:Hp,(∀r p,R r->H1 (r::p)=H (r::p))->cs.length=cs'.length/\∀(k:Nat)(x y:A),cs[k]? = some x->cs'[k]? = some y->y=x\/Iz H1 x y) :
  ∃H2:Hp,Le c ⟨s,H⟩ ⟨s,Ar H2 (r0::p0) ⟨u,.cells cs'⟩⟩/\∀r p,¬R r->H2 (r::p)=H (r::p):=by
 refine⟨fun o=>match o with|r::p=>if R r then ⟨(H (r::p)).u,.none⟩else H (r::p)|[]=>H [],fun a w I μ hs=>?_,fun r p h=>if_neg h⟩;have part1:Part H (fun o=>match o with|r::p=>if R r then H (r::p)else ⟨(H (r::p)).u,.none⟩|[]=>⟨(H []).u,.none⟩):=fun o=>by
  cases o with
  |nil=>exact .inr rfl
  |cons r p=>
   by_cases hr:R r
   ·exact .inl (by simp[hr])
   ·exact .inr (by simp[hr])
 have part2:Part H (fun o=>match o with|r::p=>if R r then ⟨(H (r::p)).u,.none⟩else H (r::p)|[]=>H []):=fun o=>by
  cases o with
  |nil=>exact .inl rfl
  |cons r p=>
   by_cases hr:R r
   ·exact .inr (by simp[hr])
   ·exact .inl (by simp[hr])
 have h3:=hs.sim.freezeAll part1 part2 (fun o=>by
  cases o with
  |nil=>exact .inl rfl
  |cons r p=>
   by_cases hr:R r
   ·exact .inr (by simp[hr])
   ·exact .inl (by simp[hr])) (fun o b h=>by
  cases o with
  |nil=>exact absurd rfl h
  |cons r p=>
   by_cases hr:R r
   ·exact hM r p b hr
   ·exact absurd (by simp[hr]) h)
 have hd2:(fun o=>match o with|r::p=>if R r then (⟨(H (r::p)).u,.none⟩:VOb)else H (r::p)|[]=>H []:Hp) (r0::p0)=⟨u,.cells cs⟩:=by
  show(if R r0 then _ else _)=_;rw[if_neg hr0,hd]
 have hob:=hs.sim.ob (r0::p0);have hob:OSim w I μ (μ (r0::p0)) (.cells cs):=by
  have e:(⟨s,H⟩:Sta).H (r0::p0)=⟨u,.cells cs⟩:=hd;rw[e]at hob;exact hob
 obtain⟨vs,k1,k2,k3⟩:=hob;obtain⟨hl,hg⟩:=(hf (fun o=>match o with|r::p=>if R r then H (r::p)else ⟨(H (r::p)).u,.none⟩|[]=>⟨(H []).u,.none⟩) fun r p h=>if_pos h);have hB:EG (μ (r0::p0)) ((fun o=>match o with|r::p=>if R r then (⟨(H (r::p)).u,.none⟩:VOb)else H (r::p)|[]=>H []:Hp) (r0::p0)).ob=true:=by rw[hd2];rfl
 obtain⟨hx2,hs2⟩:=h3.upd (FD w none) (r0::p0) (μ (r0::p0)) (.cells cs') (.inl rfl) (.inr rfl) (fun _=>.inr ⟨hB,rfl⟩) (fun _=>h3.tag _ hB) (fun hx2=>by
  refine⟨vs,k1,by rw[k2,hl],fun k y hk=>?_⟩;rw[El];have hlt:k<cs.length:=by have:=(List.getElem?_eq_some_iff.1 hk).1;omega
  have hx:cs[k]? = some cs[k]:=List.getElem?_eq_getElem hlt;simp only[A.ones,List.all_eq_true]at h1;refine⟨h1 y (List.mem_of_getElem? hk),?_⟩;rcases hg k _ y hx hk with e|hfx
  ·rw[e];exact(k3 k _ hx).2.mono0 (fun b h=>.inl h) (fun _ _=>rfl)
  ·exact(hfx c w I μ _ (hs.sim.part part1) (k3 k _ hx).2).ofI)
 have hu:(μ (r0::p0)).u=u:=by exact(h3.ver (r0::p0)).trans (congrArg VOb.u hd2)
 rw[hu]at hs2;exact⟨_,_,hs2,hs.size,hs.defers,fun t=>hx2.rel ((hs.rel t).mono0 (fun b h=>.inl h) (fun _ _=>rfl))⟩
end Go.G
namespace Go.Proofs.YtlaapfplenlfaaaGreat
open Go Go.G Go.Proofs Go.PL
structure LsK(v w:Nat)(C:List Cf)(at':DQ)(o:T)(n vo:Nat)(out:List T)(H:Hp):Prop where
 f:∀p,H (0::p)=(Vu v w C at' o n vo out (true,[]) (true,[]) 1).B 0 5 p
 s:∀p,H (5::p)=(Vu v w C at' o n vo out (true,[]) (true,[]) 1).C 0 5 p
 o:H [1]=⟨1,.cells (ff o)⟩
 z:H [4]=⟨1,.cells [iv 0,.sl true [],.sl true []]⟩
def AbR:Pc->OP × OP
 |.a o=>(o,O0)
 |.b o=>(O0,o)
 |.both o o'=>(o,o')
theorem x8{f:Nat}{at':DQ}(hat:at'.length<=900000){o:T}(wo:Ay o)(hko:o.kids.length<=1000000){o1 o2:OP}{l:List Pc}{k m:Nat}(hm:m<=10000000):∀(ks:List T)(i n:Nat),i+ks.length=m->ks=(o.kids.drop n).take ks.length->n+ks.length<=o.kids.length ->
  (∀(i:Nat)(h:i<o.kids.length),o.kids[i]∈ks->((o1.kind=0/\o1.e=E0)\/(o1.kind=1/\o1.e=E0)\/(o1.kind=3/\lP o1.e o.kids[i]))/\((o2.kind=0/\o2.e=E0)\/(o2.kind=1/\o2.e=E0)\/(o2.kind=3/\lP o2.e o.kids[i]))/\∃u,yB f (at'++[(0,(i:Int))]) o.kids[i] o1.e o2.e u) ->
  ∃us,(∀t,t∈us->Ay t)/\us.length<=ks.length/\us.map Ag=(NZ (mg f) at' o1 o2 ks n).1/\∀{n0:Nat} {w0:World} {I0:Nat->Prop} {M0:Nm->Nat->Prop} {m0:Mu} {Q:Exit->Sta->Prop} (v w:Nat) (C:List Cf) (vo u6:Nat) (out:List T) (H:Hp),C.length+(NZ (mg f) at' o1 o2 ks n).2.length<=100000000000->out.length+ks.length<=1000000000->LsK v w C at' o n vo out H->H [6]=⟨u6,.cells (iv 0::(Q9 o1++Q9 o2))⟩ ->
   (∀(H':Hp)(vo':Nat),LsK v w (C++(NZ (mg f) at' o1 o2 ks n).2) at' o (n+ks.length) vo' (out++us) H'->Q (.exit 3) ⟨lk [(7,.pob [1] 1 0),(10,.pob [4] 1 0),(11,.pob [5] 1 0),(15,.pob [6] u6 0),(29,rF l),(30,iv l.length),(31,iv k),(47,iv m),(48,iv m),(49,bv false)],H'⟩) ->
   LoopC (En Tryz.prog w0 I0 M0 n0 m0) D5 Q ⟨lk [(7,.pob [1] 1 0),(10,.pob [4] 1 0),(11,.pob [5] 1 0),(15,.pob [6] u6 0),(29,rF l),(30,iv l.length),(31,iv k),(47,iv m),(48,iv i)],H⟩:=by
 intro ks;induction ks with
 |nil=>
  intro i n hi _ _ _;have:i=m:=by simpa using hi
  subst this;refine⟨[],(fun t ht=>by simp at ht),iS,rfl,fun {n0 w0 I0 M0 m0 Q} v w C vo u6 out H hC ho hH h6 hq=>?_⟩;refine Ab Ah (Ao D5.eq_1) ?_;simp;exact hq H vo (by simpa[NZ]using hH)
 |cons t ks ih=>
  intro i n hi hks hn hU;rw[List.length_cons]at hi hks hn;have hlt:i<m:=oF
  have hnl:n<o.kids.length:=oF
  have hd:o.kids.drop n=o.kids[n]::o.kids.drop (n+1):=(List.getElem_cons_drop hnl).symm;rw[hd,List.take_succ_cons]at hks;obtain⟨e1,e2⟩:=List.cons.inj hks;obtain⟨d1,d2,u,hu⟩:=hU n hnl (by rw[<-e1];simp);obtain⟨us1,a1,a2,a3,a4⟩:=lU hat wo hnl oF d1 d2 hu;obtain⟨us2,b1,b2,b3,b4⟩:=ih (i+1) (n+1) oF e2 oF fun j hj hm=>hU j hj (List.mem_cons_of_mem _ hm);have ew:=Ap i;have er:NZ (mg f) at' o1 o2 (t::ks) n=((Cs (mg f) (at'++[(0,(n:Int))]) o.kids[n] (MO o1) (MO o2)).1++(NZ (mg f) at' o1 o2 ks (n+1)).1,(Cs (mg f) (at'++[(0,(n:Int))]) o.kids[n] (MO o1) (MO o2)).2++(NZ (mg f) at' o1 o2 ks (n+1)).2):=by
   rw[NZ,e1]
  rw[er];refine⟨us1++us2,fun t ht=>?_,by simp;omega,by rw[List.map_append,a3,b3],fun {n0 w0 I0 M0 m0 Q} v w C vo u6 out H hC ho hH h6 hq=>?_⟩
  ·rcases List.mem_append.1 ht with ht|ht
   ·exact a1 t ht
   ·exact b1 t ht
  rw[List.length_append]at hC;rw[List.length_cons]at ho;have S:=a4 v w C vo out 1 oF oF;have next:=b4 (n0:=n0) (w0:=w0) (I0:=I0) (M0:=M0) (m0:=m0) (Q:=Q) v w (C++(Cs (mg f) (at'++[(0,(n:Int))]) o.kids[n] (MO o1) (MO o2)).2) (vo+us1.length) u6 (out++us1)
  generalize (Cs (mg f) (at'++[(0,(n:Int))]) o.kids[n] (MO o1) (MO o2)).2=c at *;refine Ab Ah (Ao D5.eq_1) ?_;simp[hlt,h6];refine Mt 0 5 dO S hH.f hH.s iS iS ?_;simp;rw[ew];refine next _ (by rw[List.length_append];omega) (by rw[List.length_append];omega) ⟨fun p=>iS,fun p=>iS,by simp[hH.o],by simp[hH.z]⟩ (by simp[h6]) fun H' vo' hH'=>?_
  refine hq H' vo' ?_;rw[List.length_cons];have e5:n+1+ks.length=n+(ks.length+1):=oF
  rw[e5,List.append_assoc,List.append_assoc]at hH';exact hH'
structure LsM(v w:Nat)(C:List Cf)(at':DQ)(o:T)(n vo:Nat)(out:List T)(vm vh:Nat)(mine hers:List T)(H:Hp):Prop where
 f:∀p,H (0::p)=(RK v w C).F 0 p
 s:H [5]=⟨1,.cells [.pob [0] v 0,BL at',iv o.kind,C7 o.words,AV o.kids,iv n,.osl [5,0] vo 3 0 out.length,.osl [7] vm 3 0 mine.length,.osl [8] vh 3 0 hers.length]⟩
 so:H [5,0]=⟨vo,.arr 3 (out.map tA)⟩
 s0:∀p,p≠[]->p≠[0]->H (5::p)=⟨0,.none⟩
 m:H [7]=⟨vm,.arr 3 (mine.map tA)⟩
 h:H [8]=⟨vh,.arr 3 (hers.map tA)⟩
 o:H [1]=⟨1,.cells (ff o)⟩
 z:H [4]=⟨1,.cells [iv 0,.sl true [],.sl true []]⟩
theorem kz{c:Cx}{s:Nat->A}{v w:Nat}{C:List Cf}{at':DQ}{o:T}{n vo:Nat}{out:List T}{H:Hp}(hH:LsK v w C at' o n vo out H):∃(H2:Hp)(vm vh:Nat),Le c ⟨s,H⟩ ⟨s,H2⟩/\LsM v w C at' o n vo out vm vh [] [] H2:=by
 have h5:H [5]=⟨1,.cells [.pob [0] v 0,BL at',iv o.kind,C7 o.words,AV o.kids,iv n,.osl [5,0] vo 3 0 out.length,uo (true,[]),uo (true,[])]⟩:=by rw[hH.s];simp
 have l1:=Bi (c:=c) (s:=s) (H:=H) (d:=[5]) 7 [7] 3 h5 rfl iS;have l2:=Bi (c:=c) (s:=s) (H:=Ar (Ar H [7] ⟨(H [7]).u+1,.arr 3 []⟩) [5] ⟨1,.cells [.pob [0] v 0,BL at',iv o.kind,C7 o.words,AV o.kids,iv n,.osl [5,0] vo 3 0 out.length,.osl [7] ((H [7]).u+1) 3 0 0,uo (true,[])]⟩) (d:=[5]) (u:=1) (cs:=[.pob [0] v 0,BL at',iv o.kind,C7 o.words,AV o.kids,iv n,.osl [5,0] vo 3 0 out.length,.osl [7] ((H [7]).u+1) 3 0 0,uo (true,[])]) 8 [8] 3 (by simp[Aa]) rfl iS;refine⟨_,(H [7]).u+1,(H [8]).u+1,l1.trans l2,⟨fun p=>?_,?_,?_,fun p p1 p2=>?_,?_,?_,?_,?_⟩⟩
 ·have:=hH.f p;simp[Aa]at this ⊢;exact this
 ·simp[Aa]
 ·have:=hH.s [0];simp[Aa]at this ⊢;exact this
 ·have:=hH.s p;simp[Aa,p1,p2]at this ⊢;exact this
 ·simp[Aa]
 ·simp[Aa]
 ·simp[Aa,hH.o]
 ·simp[Aa,hH.z]
theorem bE{c:Cx}{s:Nat->A}{v w:Nat}{C:List Cf}{at':DQ}{o:T}{n vo:Nat}{out mine hers:List T}{vm vh:Nat}{H:Hp}(hM:∀r p b,1<=r->¬c.M0 (r::p) b)(hH:LsM v w C at' o n vo out vm vh mine hers H):∃H2:Hp,Le c ⟨s,H⟩ ⟨s,H2⟩/\(∀p,H2 (0::p)=(Vu v w C at' o n vo out (false,mine) (false,hers) 1).B 0 5 p)/\(∀p,H2 (5::p)=(Vu v w C at' o n vo out (false,mine) (false,hers) 1).C 0 5 p)/\H2 [1]=H [1]/\H2 [4]=H [4]/\H2 [6]=H [6]:=by
 obtain⟨H2,g1,g2⟩:=mn (c:=c) (s:=s) (H:=H) (fun r=>r=7\/r=8) (fun r p b h=>hM r p b oF) (r0:=5) (p0:=[]) oF hH.s (cs':=[.pob [0] v 0,BL at',iv o.kind,C7 o.words,AV o.kids,iv n,.osl [5,0] vo 3 0 out.length,uo (false,mine),uo (false,hers)]) (by simp[A.ones]) (fun H1 h1=>by
  have f7:Iz H1 (.osl [7] vm 3 0 mine.length) (uo (false,mine)):=AQ (f:=tA) (by rw[h1 7 [] (.inl rfl),hH.m];simp) rfl (fun x=>iS);have f8:Iz H1 (.osl [8] vh 3 0 hers.length) (uo (false,hers)):=AQ (f:=tA) (by rw[h1 8 [] (.inr rfl),hH.h];simp) rfl (fun x=>iS);refine⟨rfl,fun k x y hx hy=>?_⟩
  match k with
  |0=>simp at hx hy;exact .inl (by rw[<-hx,<-hy])
  |1=>simp at hx hy;exact .inl (by rw[<-hx,<-hy])
  |2=>simp at hx hy;exact .inl (by rw[<-hx,<-hy])
  |3=>simp at hx hy;exact .inl (by rw[<-hx,<-hy])
  |4=>simp at hx hy;exact .inl (by rw[<-hx,<-hy])
  |5=>simp at hx hy;exact .inl (by rw[<-hx,<-hy])
  |6=>simp at hx hy;exact .inl (by rw[<-hx,<-hy])
  |7=>simp at hx hy;exact .inr (by rw[<-hx,<-hy];exact f7)
  |8=>simp at hx hy;exact .inr (by rw[<-hx,<-hy];exact f8)
  |k+9=>simp at hx)
 refine⟨_,g1,fun p=>?_,fun p=>?_,?_,?_,?_⟩
 ·have:=g2 0 p oF;simp[Aa]at this ⊢;rw[this,hH.f];simp
 ·by_cases p1:p=[]
  ·subst p1;simp[Aa]
  ·have:=g2 5 p oF;simp only[Aa];rw[if_neg (by simp[p1]),this];by_cases p2:p=[0]
   ·subst p2;simp[hH.so]
   ·simp[hH.s0 p p1 p2,p1,p2]
 ·have:=g2 1 [] oF;simpa[Aa]using this
 ·have:=g2 4 [] oF;simpa[Aa]using this
 ·have:=g2 6 [] oF;simpa[Aa]using this
def aG:List Pc->Nat
 |[]=>0
 |.a o::l=>o.l.length+aG l
 |.b o::l=>o.l.length+aG l
 |.both _ _::l=>aG l
theorem wN{f:Nat}{at':DQ}(hat:at'.length<=900000){o:T}(wo:Ay o)(hko:o.kids.length<=1000000){R:E->T->T->Prop}{l:List Pc}(hl:l.length<=100000000)
  (hW:∀o,(.a o∈l\/.b o∈l)->∀t,t∈o.l->Ay t)
  (hR:∀(i:Nat)(h:i<o.kids.length)(o1 o2:OP),.both o1 o2∈l->ar R o1 o.kids[i]->ar R o2 o.kids[i]->((o1.kind=0/\o1.e=E0)\/(o1.kind=1/\o1.e=E0)\/(o1.kind=3/\lP o1.e o.kids[i]))/\((o2.kind=0/\o2.e=E0)\/(o2.kind=1/\o2.e=E0)\/(o2.kind=3/\lP o2.e o.kids[i]))/\∃u,yB f (at'++[(0,(i:Int))]) o.kids[i] o1.e o2.e u) :
  ∀(j k:Nat)(mine hers:List T)(n:Nat),k+j=l.length->n<=o.kids.length->RZ R (l.drop k) (o.kids.drop n)->(∀t,t∈mine->Ay t)->(∀t,t∈hers->Ay t)->mine.length+hers.length+aG (l.drop k)<=1000000 ->
  ∃(us mF hF:List T)(nF:Nat)(cs:List Cf),(∀t,t∈us->Ay t)/\(∀t,t∈mF->Ay t)/\(∀t,t∈hF->Ay t)/\mF.length+hF.length<=1000000/\us.length+mF.length+hF.length<=mine.length+hers.length+aG (l.drop k)+(o.kids.length-n) /\
   (run (mg f) at' o.kind (l.drop k) mine hers (o.kids.drop n) n).1=us.map Ag++(Gb at' o.kind nF mF hF).1/\(run (mg f) at' o.kind (l.drop k) mine hers (o.kids.drop n) n).2=cs++(Gb at' o.kind nF mF hF).2 /\
   ∀{n0:Nat} {w0:World} {I0:Nat->Prop} {M0:Nm->Nat->Prop} {m0:Mu} {Q:Exit->Sta->Prop} (hM:∀r p b,1<=r->¬M0 (r::p) b) (v w:Nat) (C:List Cf) (vo vm vh:Nat) (out:List T) (H:Hp),C.length+cs.length<=100000000000->out.length+mine.length+hers.length+aG (l.drop k)+(o.kids.length-n)<=1000000000->LsM v w C at' o n vo out vm vh mine hers H ->
    (∀(H':Hp)(vo' vm' vh':Nat),LsM v w (C++cs) at' o nF vo' (out++us) vm' vh' mF hF H'->Q (.exit 0) ⟨lk [(7,.pob [1] 1 0),(10,.pob [4] 1 0),(11,.pob [5] 1 0),(29,rF l),(30,iv l.length),(31,iv l.length),(32,bv false)],H'⟩) ->
    LoopC (En Tryz.prog w0 I0 M0 n0 m0) Co Q ⟨lk [(7,.pob [1] 1 0),(10,.pob [4] 1 0),(11,.pob [5] 1 0),(29,rF l),(30,iv l.length),(31,iv k)],H⟩:=by
 intro j;induction j with
 |zero=>
  intro k mine hers n hk hn hP wm wh hs;have:k=l.length:=oF
  subst this;rw[List.drop_length]at hP ⊢;refine⟨[],mine,hers,n,[],(fun t ht=>by simp at ht),wm,wh,oF,by simp;omega,by simp[run],by simp[run],fun {n0 w0 I0 M0 m0 Q} hM v w C vo vm vh out H hC ho hH hq=>?_⟩;refine Ab Ah (BG Co.eq_1) ?_;simp;exact hq H vo vm vh (by simpa using hH)
 |succ j ih=>
  intro k mine hers n hk hn hP wm wh hs;have hlt:k<l.length:=oF
  have hd:l.drop k=l[k]::l.drop (k+1):=(List.getElem_cons_drop hlt).symm;have hmem:l[k]∈l:=Bv hlt;have ew:=Ap k;rw[hd]at hP hs ⊢;generalize hx:l[k]=x at *;generalize ha:o.kids.drop n=ks at hP;cases hP with
  |a oo _ _ hk2 g=>
   subst ha;simp only[aG]at hs;obtain⟨us,mF,hF,nF,cs,f1,f2,f3,f4,f5,f6,f7,f8⟩:=ih (k+1) (mine++oo.l) hers n oF hn g (fun t ht=>by
    rcases List.mem_append.1 ht with ht|ht
    ·exact wm t ht
    ·exact hW oo (.inl hmem) t ht) wh (by rw[List.length_append];omega)
   rw[List.length_append]at f5;refine⟨us,mF,hF,nF,cs,f1,f2,f3,f4,by simp only[aG];omega,f6,f7,fun {n0 w0 I0 M0 m0 Q} hM v w C vo vm vh out H hC ho hH hq=>?_⟩;simp only[aG]at ho;have h5:=hH.s;have h7:=hH.m;refine Ab Ah (BG Co.eq_1) ?_;simp[hlt,hx,pcC,h5,h7,Aa];refine⟨oF,?_⟩;rw[ew];refine f8 hM v w C vo (vm+1) vh out _ hC (by rw[List.length_append];omega) ⟨fun p=>?_,by simp[Aa],by simp[Aa,hH.so],fun p p1 p2=>?_,by simp[Aa,Ax],by simp[Aa,hH.h],by simp[Aa,hH.o],by simp[Aa,hH.z]⟩ hq
   ·simp[Aa,hH.f]
   ·simp[Aa,p1,hH.s0 p p1 p2]
  |b oo _ _ hk2 g=>
   subst ha;simp only[aG]at hs;obtain⟨us,mF,hF,nF,cs,f1,f2,f3,f4,f5,f6,f7,f8⟩:=ih (k+1) mine (hers++oo.l) n oF hn g wm (fun t ht=>by
    rcases List.mem_append.1 ht with ht|ht
    ·exact wh t ht
    ·exact hW oo (.inr hmem) t ht) (by rw[List.length_append];omega)
   rw[List.length_append]at f5;refine⟨us,mF,hF,nF,cs,f1,f2,f3,f4,by simp only[aG];omega,f6,f7,fun {n0 w0 I0 M0 m0 Q} hM v w C vo vm vh out H hC ho hH hq=>?_⟩;simp only[aG]at ho;have h5:=hH.s;have h8:=hH.h;refine Ab Ah (BG Co.eq_1) ?_;simp[hlt,hx,pcC,h5,h8,Aa];refine⟨oF,?_⟩;rw[ew];refine f8 hM v w C vo vm (vh+1) out _ hC (by rw[List.length_append];omega) ⟨fun p=>?_,by simp[Aa],by simp[Aa,hH.so],fun p p1 p2=>?_,by simp[Aa,hH.m],by simp[Aa,Ax],by simp[Aa,hH.o],by simp[Aa,hH.z]⟩ hq
   ·simp[Aa,hH.f]
   ·simp[Aa,p1,hH.s0 p p1 p2]
  |both o1 o2 _ a1 a2 hn1 hl1 h g=>
   simp only[aG]at hs;have hal:a1.length+a2.length=o.kids.length-n:=by rw[<-List.length_append,<-ha,List.length_drop]
   have ha1:(o.kids.drop n).take a1.length=a1:=by rw[ha,List.take_left]
   have ha2:o.kids.drop (n+a1.length)=a2:=by rw[<-List.drop_drop,ha,List.drop_left]
   obtain⟨us1,b1,b2,b3,b4⟩:=x8 (f:=f) hat wo hko (o1:=o1) (o2:=o2) (l:=l) (k:=k) (m:=a1.length) oF a1 0 n oF ha1.symm oF fun i hi hm=>by
    obtain⟨h1,h2⟩:=h _ hm;exact hR i hi o1 o2 hmem h1 h2
   rw[<-ha2]at g;obtain⟨us,mF,hF,nF,cs,f1,f2,f3,f4,f5,f6,f7,f8⟩:=ih (k+1) [] [] (n+a1.length) oF oF g (fun t ht=>by simp at ht) (fun t ht=>by simp at ht) (by simp;omega);have hgap:=mW at' o.kind n mine hers;have hgl:((Je mine hers).getD []).length<=mine.length+hers.length:=by
    unfold Je;split
    ·simp
    ·split
     ·simp
     ·split<;>simp
   have hgw:∀t,t∈(Je mine hers).getD []->Ay t:=by
    unfold Je;intro t ht;split at ht
    ·exact wh t ht
    ·split at ht
     ·exact wh t ht
     ·split at ht
      ·exact wm t ht
      ·simp at ht
   have hgn:((Je mine hers).getD []).map Ag=(Gb at' o.kind n mine hers).1:=by
    cases e:Je mine hers with
    |none=>rw[hgap.2 e];rfl
    |some z=>rw[hgap.1 z e];rfl
   have er:run (mg f) at' o.kind (.both o1 o2::l.drop (k+1)) mine hers (a1++a2) n=((Gb at' o.kind n mine hers).1++((NZ (mg f) at' o1 o2 a1 n).1++(run (mg f) at' o.kind (l.drop (k+1)) [] [] (o.kids.drop (n+a1.length)) (n+a1.length)).1),(Gb at' o.kind n mine hers).2++((NZ (mg f) at' o1 o2 a1 n).2++(run (mg f) at' o.kind (l.drop (k+1)) [] [] (o.kids.drop (n+a1.length)) (n+a1.length)).2)):=by
    rw[run,<-hn1,List.take_left,List.drop_left,ha2]
   rw[er];refine⟨(Je mine hers).getD []++(us1++us),mF,hF,nF,(Gb at' o.kind n mine hers).2++((NZ (mg f) at' o1 o2 a1 n).2++cs),fun t ht=>?_,f2,f3,f4,by simp only[aG,List.length_append];simp at f5;omega,?_,?_,fun {n0 w0 I0 M0 m0 Q} hM v w C vo vm vh out H hC ho hH hq=>?_⟩
   ·rcases List.mem_append.1 ht with ht|ht
    ·exact hgw t ht
    ·rcases List.mem_append.1 ht with ht|ht
     ·exact b1 t ht
     ·exact f1 t ht
   ·simp only[List.map_append,hgn,b3,f6,List.append_assoc]
   ·simp only[f7,List.append_assoc]
   simp only[aG]at ho;rw[List.length_append,List.length_append]at hC;have G:=bt (v:=v) (w:=w) (C:=C) (at':=at') (o:=o) (n:=n) (vo:=vo) (out:=out) (mine:=mine) (hers:=hers) (vs:=1) wm wh (wfT_iff.1 wo).k oF oF oF hat oF;generalize (Gb at' o.kind n mine hers).2=cg at *;generalize (Je mine hers).getD []=gl at *;generalize (NZ (mg f) at' o1 o2 a1 n).2=cr at *;have hn64:(0:Int)<=o1.n/\o1.n<=10000000:=by
    unfold Ru at hn1;omega
   have hl64:o1.l.length<=10000000:=by
    unfold Ru at hn1;omega
   have ea:i64.wrap (o1.n+o1.l.length)=o1.n+o1.l.length:=CX;have em:max (o1.n+(o1.l.length:Int)) 1=((a1.length:Nat):Int):=by
    rw[hn1];unfold Ru;omega
   obtain⟨H2,g1,g2,g3,g4,g5,g6⟩:=bE (c:=En Tryz.prog w0 I0 M0 n0 m0) (s:=lk [(7,.pob [1] 1 0),(10,.pob [4] 1 0),(11,.pob [5] 1 0),(29,rF l),(30,iv l.length),(31,iv k)]) hM hH;rw[hH.o]at g4;rw[hH.z]at g5;refine LoopC.le g1 ?_;refine Ab Ah (BG Co.eq_1) ?_;simp[hlt,hx,pcC,Aa];refine Mt 0 5 dO G (fun p=>by simp[Aa,g2]) (fun p=>by simp[Aa,g3]) iS iS ?_;simp[ea,em,Aa];refine LoopC.le (Al [(7,.pob [1] 1 0),(10,.pob [4] 1 0),(11,.pob [5] 1 0),(15,.pob [6] ((H2 [6]).u+1) 0),(29,rF l),(30,iv l.length),(31,iv k),(47,iv a1.length),(48,iv (0:Nat))] iS) ?_;refine b4 v w (C++cg) (vo+X9 mine hers) ((H2 [6]).u+1) (out++gl) _ (by rw[List.length_append];omega) (by rw[List.length_append];omega) ⟨fun p=>iS,fun p=>iS,by simp[Aa,g4],by simp[Aa,g5]⟩ (by simp[Aa]) fun H' vo' hH'=>?_;simp;rw[ew];obtain⟨H3,vm',vh',y1,y2⟩:=kz (c:=En Tryz.prog w0 I0 M0 n0 m0) (s:=lk [(7,.pob [1] 1 0),(10,.pob [4] 1 0),(11,.pob [5] 1 0),(29,rF l),(30,iv l.length),(31,iv (k+1:Nat))]) hH';refine LoopC.le y1 ?_;refine f8 hM v w _ vo' vm' vh' _ H3 (by rw[List.length_append,List.length_append];omega) (by simp only[List.length_append,List.length_nil];simp at f5;omega) y2 fun H4 vo2 vm2 vh2 z=>?_;refine hq H4 vo2 vm2 vh2 ?_;simp only[List.append_assoc]at z;exact z
end Go.Proofs.YtlaapfplenlfaaaGreat
