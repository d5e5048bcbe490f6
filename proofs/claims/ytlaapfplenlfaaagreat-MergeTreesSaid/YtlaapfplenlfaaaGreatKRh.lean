/-
 Texts,merged,without what is not reached.
-/
import Derived.Test.YtlaapfplenlfaaaGreatKRg
set_option linter.unusedSimpArgs false
set_option linter.unusedVariables false
open Go.IntKind (i64 u64)
namespace Go.Proofs.YtlaapfplenlfaaaGreat
open Go Go.G Go.Proofs Go.PL
theorem wc{c:Cx}{x:CC}{Q:Exit->Sta->Prop}{s:Nat->A}{v w:Nat}{C:List Cf}{at':DQ}{o:T}{H:Hp}(h0:∀p,H (0::p)=(RK v w C).F 0 p)(h1:H [1]=⟨1,.cells (ff o)⟩)(h4:H [4]=⟨1,.cells [iv 0,.sl true [],.sl true []]⟩)(h5:H [5]=⟨1,.cells [.pob [0] v 0,BL at',iv o.kind,C7 o.words,AV o.kids,iv 0,.sl true [],.sl true [],.sl true []]⟩)(h6:∀p,p≠[]->H (5::p)=⟨0,.none⟩)
  (k:∀(H2:Hp)(vm vh:Nat),LsM v w C at' o 0 1 [] vm vh [] [] H2->LoopC c x Q ⟨s,H2⟩):LoopC c x Q ⟨s,H⟩:=by
 have e5:=h6 [0] iS;refine LoopC.le (Bi (d:=[5]) (u:=1) 6 [5,0] 3 h5 rfl iS) ?_;have hK:LsK v w C at' o 0 1 [] (Ar (Ar H [5,0] ⟨(H [5,0]).u+1,.arr 3 []⟩) [5] ⟨1,.cells ([.pob [0] v 0,BL at',iv o.kind,C7 o.words,AV o.kids,iv 0,.sl true [],.sl true [],.sl true []].set 6 (.osl [5,0] ((H [5,0]).u+1) 3 0 0))⟩):=by
  refine⟨fun p=>?_,fun p=>?_,?_,?_⟩
  ·simp[Aa,h0]
  ·by_cases p1:p=[]
   ·subst p1;simp[Aa,e5]
   ·by_cases p2:p=[0]
    ·subst p2;simp[Aa,e5]
    ·simp[Aa,p1,p2,h6]
  ·simp[Aa,h1]
  ·simp[Aa,h4]
 obtain⟨H3,vm',vh',y1,y2⟩:=kz (c:=c) (s:=s) hK;exact LoopC.le y1 (k H3 vm' vh' y2)
theorem iO{f:Nat}{at':DQ}(hat:at'.length<=900000){o:T}(wo:Ay o)(hko:o.kids.length<=1000000){R:E->T->T->Prop}{p q:E}{l:List Pc}(hT:qF p.ops q.ops l)(gp:∀o,o∈p.ops->gP o)(gq:∀o,o∈q.ops->gP o)(lp:p.ops.length<=1000000)(lq:q.ops.length<=1000000)(hl:l.length<=100000000)(hP:RZ R l o.kids)(hI:aG l<=1000000)
  (hrun:run (mg f) at' o.kind l [] [] o.kids 0=Kw (mg f) at' o.kind o.kids (Gs p.ops) (Gs q.ops) 0)
  (hW:∀o,(.a o∈l\/.b o∈l)->∀t,t∈o.l->Ay t)
  (hR:∀(i:Nat)(h:i<o.kids.length)(o1 o2:OP),.both o1 o2∈l->ar R o1 o.kids[i]->ar R o2 o.kids[i]->((o1.kind=0/\o1.e=E0)\/(o1.kind=1/\o1.e=E0)\/(o1.kind=3/\lP o1.e o.kids[i]))/\((o2.kind=0/\o2.e=E0)\/(o2.kind=1/\o2.e=E0)\/(o2.kind=3/\lP o2.e o.kids[i]))/\∃u,yB f (at'++[(0,(i:Int))]) o.kids[i] o1.e o2.e u) :
  ∃us:List T,(∀t,t∈us->Ay t)/\us.length<=10000000/\us.map Ag=(Kw (mg f) at' o.kind o.kids (Gs p.ops) (Gs q.ops) 0).1/\∀(v w:Nat)(C:List Cf),C.length+(Kw (mg f) at' o.kind o.kids (Gs p.ops) (Gs q.ops) 0).2.length<=100000000000 ->
   SpecF Tryz.prog 56 (fun r=>[.pob [r] v 0,BL at',tX o,eX p,eX q]) (RK v w C) (fun _=>tX (.mk o.kind [] us)) (RK v w (C++(Kw (mg f) at' o.kind o.kids (Gs p.ops) (Gs q.ops) 0).2)):=by
 have TH:=aK hT gp gq lp lq hl;obtain⟨us,mF,hF,nF,cs,f1,f2,f3,f4,f5,f6,f7,f8⟩:=wN (f:=f) hat wo hko hl hW hR l.length 0 [] [] 0 oF oF (by simpa using hP) (fun t ht=>by simp at ht) (fun t ht=>by simp at ht) (by simpa using hI);rw[List.drop_zero,List.drop_zero,hrun]at f6 f7;rw[List.drop_zero]at f5;simp only[List.length_nil,Nat.zero_add,Nat.sub_zero]at f5;have hgap:=mW at' o.kind nF mF hF;have hgl:((Je mF hF).getD []).length<=mF.length+hF.length:=by
  unfold Je;split
  ·simp
  ·split
   ·simp
   ·split<;>simp
 have hgw:∀t,t∈(Je mF hF).getD []->Ay t:=by
  unfold Je;intro t ht;split at ht
  ·exact f3 t ht
  ·split at ht
   ·exact f3 t ht
   ·split at ht
    ·exact f2 t ht
    ·simp at ht
 have hgn:((Je mF hF).getD []).map Ag=(Gb at' o.kind nF mF hF).1:=by
  cases e:Je mF hF with
  |none=>rw[hgap.2 e];rfl
  |some z=>rw[hgap.1 z e];rfl
 refine⟨us++(Je mF hF).getD [],fun t ht=>?_,by rw[List.length_append];omega,by rw[f6,List.map_append,hgn],fun v w C hC=>?_⟩
 ·rcases List.mem_append.1 ht with ht|ht
  ·exact f1 t ht
  ·exact hgw t ht
 rw[f7]at hC ⊢;rw[List.length_append]at hC;refine KV PQ iS (Af AB (Af Bp (Af (Ca o) (Af (C3 p) (Af (C3 q) Ak))))) (Ca _) fun w0 I0 M0 m0 hM=>?_;rw[BG J4.eq_1];simp;refine Ae TH iS ?_;simp;refine LoopC.le (Al [(7,.pob [1] 1 0),(10,.pob [4] 1 0),(11,.pob [5] 1 0),(29,rF l),(30,iv l.length),(31,iv (0:Nat))] iS) ?_;refine wc (v:=v) (w:=w) (C:=C) (at':=at') (o:=o) (fun p=>iS) iS iS iS (fun p hp=>by simp[hp,HO,Ne.symm hp]) fun H2 vm vh hH2=>?_;refine f8 hM v w C 1 vm vh [] H2 oF (by simp;omega) hH2 fun H' vo' vm' vh' hH'=>?_;have G:=bt (v:=v) (w:=w) (C:=C++cs) (at':=at') (o:=o) (n:=nF) (vo:=vo') (out:=us) (mine:=mF) (hers:=hF) (vs:=1) f2 f3 (wfT_iff.1 wo).k oF oF oF hat (by rw[List.length_append];omega);rw[List.nil_append]at hH';generalize (Gb at' o.kind nF mF hF).2=cg at *;generalize (Je mF hF).getD []=gl at *;obtain⟨H3,g1,g2,g3,g4,g5,g6⟩:=bE (c:=En Tryz.prog w0 I0 M0 93 m0) (s:=lk [(7,.pob [1] 1 0),(10,.pob [4] 1 0),(11,.pob [5] 1 0)]) hM hH';rw[hH'.o]at g4;rw[hH'.z]at g5;simp;refine Dn g1 (Dr ?_);simp;refine Mt 0 5 dO G (fun p=>by simp[g2]) (fun p=>by simp[g3]) iS iS ?_;simp[g4,g5,Aa];have hlen:us.length+gl.length=(us++gl).length:=iS
 rw[hlen];generalize us++gl=L at *;generalize hHH:ov 0 ((Vu v w (C++(cs++cg)) at' o nF (vo'+X9 mF hF) L (true,[]) (true,[]) 1).B 0 5) (ov 5 ((Vu v w (C++(cs++cg)) at' o nF (vo'+X9 mF hF) L (true,[]) (true,[]) 1).C 0 5) (Ar H3 [4] ⟨1,.cells [iv o.kind,.sl true [],.osl [5,0] (vo'+X9 mF hF) 3 0 L.length]⟩))=HH;have z0:∀p,HH (0::p)=(RK v w (C++(cs++cg))).F 0 p:=fun p=>by rw[<-hHH];simp
 have z4:HH [4]=⟨1,.cells [iv o.kind,.sl true [],.osl [5,0] (vo'+X9 mF hF) 3 0 L.length]⟩:=by rw[<-hHH];simp[Aa]
 have z5:HH [5,0]=⟨vo'+X9 mF hF,.arr 3 (L.map tA)⟩:=by rw[<-hHH];simp[Aa]
 obtain⟨H4,y1,y2⟩:=K8 (c:=En Tryz.prog w0 I0 M0 93 m0) (s:=lk [(10,.pob [4] 1 0)]) (H:=HH) (fun r=>r=5) (fun r p b h=>hM r p b oF) (r0:=4) (p0:=[]) oF z4 (cs':=ff (.mk o.kind [] L)) (by simp[A.ones]) (fun H1 h1=>⟨Ad rfl,Ai,AQ (f:=tA) (l:=L) (by rw[h1 5 [0] rfl,z5];simp) rfl (fun x=>iS),trivial⟩);refine KK y1 (Av (r0:=tX (.mk o.kind [] L)) (by simp[HX]) rfl fun r=>?_);have e1:=y2 0 r oF;dsimp only;rw[AD iS,e1,z0]
theorem jh{R R':E->T->T->Prop}{os:List OP}{a b:List T}(h:LdO R os a b):(∀e x y,x∈a->y∈b->R e x y->R' e x y)->LdO R' os a b:=by
 induction h with
 |nil=>exact fun _=>.nil
 |keep l m hne hl _ ih=>exact fun hR=>.keep l m hne hl (ih fun e x y hx hy=>hR e x y (List.mem_append_right _ hx) (List.mem_append_right _ hy))
 |del l m hne hl _ ih=>exact fun hR=>.del l m hne hl (ih fun e x y hx hy=>hR e x y (List.mem_append_right _ hx) hy)
 |ins l m hne hl _ ih=>exact fun hR=>.ins l m hne hl (ih fun e x y hx hy=>hR e x y hx (List.mem_append_right _ hy))
 |desc e x y r _ ih=>exact fun hR=>.desc e x y (hR e x y iS iS r) (ih fun e x y hx hy=>hR e x y (List.mem_cons_of_mem _ hx) (List.mem_cons_of_mem _ hy))
def Cb:List OP->Nat
 |[]=>0
 |o::os=>(if o.kind=2 then o.l.length else 0)+Cb os
theorem QP{R:E->T->T->Prop}{os:List OP}{a b:List T}(h:LdO R os a b):os.length<=a.length+b.length/\Cb os<=b.length/\(a.length<=1000000->b.length<=1000000->∀o,o∈os->gP o):=by
 induction h with
 |nil=>exact⟨iS,by simp[Cb],fun _ _ o ho=>by simp at ho⟩
 |keep l m hne hl _ ih=>
  have h1:=List.length_pos_iff.2 hne;have h2:l.length=m.length:=by simpa using congrArg List.length hl
  refine⟨by simp;omega,by simp[Cb];omega,fun ha hb o ho=>?_⟩;rw[List.length_append]at ha hb;rcases List.mem_cons.1 ho with rfl|ho
  ·exact⟨.inl ⟨rfl,by simp;omega,by simp;omega,rfl⟩,fun h=>by simp at h,iS⟩
  ·exact ih.2.2 oF oF o ho
 |del l m hne hl _ ih=>
  have h1:=List.length_pos_iff.2 hne;have h2:l.length=m.length:=by simpa using congrArg List.length hl
  refine⟨by simp;omega,by simp[Cb];omega,fun ha hb o ho=>?_⟩;rw[List.length_append]at ha;rcases List.mem_cons.1 ho with rfl|ho
  ·exact⟨.inr (.inl ⟨rfl,rfl⟩),fun _=>hne,by simp;omega⟩
  ·exact ih.2.2 oF oF o ho
 |ins l m hne hl _ ih=>
  have h1:=List.length_pos_iff.2 hne;have h2:l.length=m.length:=by simpa using congrArg List.length hl
  refine⟨by simp;omega,by simp[Cb];omega,fun ha hb o ho=>?_⟩;rw[List.length_append]at hb;rcases List.mem_cons.1 ho with rfl|ho
  ·exact⟨.inr (.inr (.inl ⟨rfl,rfl⟩)),fun _=>hne,by simp;omega⟩
  ·exact ih.2.2 oF oF o ho
 |desc e x y r _ ih=>
  refine⟨by simp;omega,by simp[Cb];omega,fun ha hb o ho=>?_⟩;rw[List.length_cons]at ha hb;rcases List.mem_cons.1 ho with rfl|ho
  ·exact⟨.inr (.inr (.inr ⟨rfl,rfl,rfl⟩)),fun h=>by simp at h,iS⟩
  ·exact ih.2.2 oF oF o ho
theorem xU(o:OP)(n:Nat):(xv o n).kind=o.kind:=by unfold xv;split<;>rfl
theorem qL{p:OP}(hp:p.kind≠2)(n:Nat)(ps:List OP):Cb (Re p n ps)=Cb ps:=by
 unfold Re;split
 ·rfl
 ·rw[Cb,xU,if_neg hp,Nat.zero_add]
theorem AaO{ps qs:List OP}{l:List Pc}(h:qF ps qs l):aG l<=Cb ps+Cb qs:=by
 induction h with
 |nil=>simp[aG]
 |fst p ps qs l h g ih=>rw[aG,Cb,if_pos h];omega
 |snd ps q qs l hp h g ih=>rw[aG,Cb,if_pos h];omega
 |both p ps q qs n l hp hq hn g ih=>
  rw[qL hp,qL hq]at ih;rw[aG,Cb,if_neg hp,Cb,if_neg hq];omega
def xA(o:OP):Prop:=(∀t,t∈o.l->Ay t)/\Qz o.e
theorem yV{o:OP}(h:xA o)(n:Nat):xA (OT o n):=by
 unfold OT;split
 ·exact h
 ·unfold frO;split
  ·exact h
  ·exact⟨fun t ht=>h.1 t (O4 ht),h.2⟩
theorem yq{p:OP}{ps:List OP}(h:∀o,o∈p::ps->xA o)(n:Nat):∀o,o∈Re p n ps->xA o:=by
 intro o ho;unfold Re at ho;split at ho
 ·exact h o (List.mem_cons_of_mem _ ho)
 ·rcases List.mem_cons.1 ho with rfl|ho
  ·have:=h p iS;unfold xv;split
   ·exact this
   ·exact⟨fun t ht=>this.1 t (Qy ht),this.2⟩
  ·exact h o (List.mem_cons_of_mem _ ho)
theorem AjD{ps qs:List OP}{l:List Pc}(h:qF ps qs l):(∀o,o∈ps->xA o)->(∀o,o∈qs->xA o)->∀c,c∈l->xA (AbR c).1/\xA (AbR c).2:=by
 have w0:xA O0:=⟨fun t ht=>by simp at ht,Eo⟩;induction h with
 |nil=>intro _ _ c hc;simp at hc
 |fst p ps qs l h g ih=>
  intro hp hq c hc;rcases List.mem_cons.1 hc with rfl|hc
  ·exact⟨hp p iS,w0⟩
  ·exact ih (fun o ho=>hp o (List.mem_cons_of_mem _ ho)) hq c hc
 |snd ps q qs l _ h g ih=>
  intro hp hq c hc;rcases List.mem_cons.1 hc with rfl|hc
  ·exact⟨w0,hq q iS⟩
  ·exact ih hp (fun o ho=>hq o (List.mem_cons_of_mem _ ho)) c hc
 |both p ps q qs n l hpk hqk hn g ih=>
  intro hp hq c hc;rcases List.mem_cons.1 hc with rfl|hc
  ·exact⟨yV (hp p iS) n,yV (hq q iS) n⟩
  ·exact ih (yq hp n) (yq hq n) c hc
def Sq:Nat->T->Prop
 |0,_=>True
 |f+1,t=>t.words.length<=100000/\t.kids.length<=100000/\∀k,k∈t.kids->Sq f k
theorem AhF:∀f,Sq f T0
 |0=>trivial
 |f+1=>⟨iS,iS,fun k hk=>by simp at hk⟩
theorem OI{f:Nat}{t:T}(h:Sq (f+1) t)(i:Nat):Sq f (t.kids.getD i T0):=by
 rw[List.getD_eq_getElem?_getD];cases e:t.kids[i]? with
 |none=>exact AhF f
 |some z=>exact h.2.2 z (List.mem_of_getElem? e)
theorem Yc:∀(f:Nat)(t:T),Sq f t->Sz f t
 |0,_,_=>trivial
 |f+1,t,h=>⟨by have:=h.1;omega,by have:=h.2.1;omega,fun k hk=>Yc f k (h.2.2 k hk)⟩
theorem Zv:∀(f:Nat)(t:T),Bn t<=100000->Sq f t
 |0,t,_=>trivial
 |f+1,t,h=>by
  obtain⟨k,w,l⟩:=t;rw[HA]at h;have hl:=LK l;exact⟨by show w.length<=100000;omega,by show l.length<=100000;omega,fun x hx=>Zv f x (by have:=Yp (show x∈l from hx);omega)⟩
theorem YG{f:Nat}{e:E}{a b:T}(hw:Qz e)(ha:Ay a)(hb:Ay b)(sa:Sq f a)(sb:Sq f b)(h:Ld f e a b):lP e a/\Ge e a=Ag b:=by
 obtain⟨u,h1,h2⟩:=uX f e a b hw ha hb (Yc f a sa) (Yc f b sb) h;have e1:Ge e a=Ag u:=by rw[Vt h,h2]
 refine⟨⟨?_,?_,?_⟩,Vt h⟩
 ·rw[e1];exact sN (PO h1)
 ·rw[e1];exact BV u h1.1
 ·rw[e1,Dt]
theorem bf{f:Nat}{at':DQ}{o:T}{p q:E}(hp:lP p o)(hq:lP q o)(wo:Ay o)(hat:at'.length<=900000)(h2:¬(p.kind=2/\q.kind=2))(h3:¬(p.kind=3/\q.kind=3))(hm:mg f at' o p q=cI at' o p q):∃u,yB f at' o p q u:=by
 have D1:=hp.1;have D2:=hq.1;by_cases k0:p.kind=0
 ·have e:mg f at' o p q=(Ge q o,[]):=by rw[hm,cI,if_pos k0]
  refine⟨Ge q o,hq.2.1,by rw[e,hq.2.2],fun v w C hC=>?_⟩;rw[e];refine Az CR iS (Af AB (Af Bp (Af (Ca o) (Af (C3 p) (Af (C3 q) Ak))))) (Ca _) fun w0 I0 M0 m0=>?_;rw[Ao Cd.eq_1];simp[k0];refine Ae D2 iS ?_;simp[Aa];exact Av (r0:=tX (Ge q o)) (by simp[HX]) rfl (fun p=>by simp[Aa])
 by_cases q0:q.kind=0
 ·have e:mg f at' o p q=(Ge p o,[]):=by rw[hm,cI,if_neg k0,if_pos q0]
  refine⟨Ge p o,hp.2.1,by rw[e,hp.2.2],fun v w C hC=>?_⟩;rw[e];refine Az CR iS (Af AB (Af Bp (Af (Ca o) (Af (C3 p) (Af (C3 q) Ak))))) (Ca _) fun w0 I0 M0 m0=>?_;rw[Ao Cd.eq_1];simp[k0,q0];refine Ae D1 iS ?_;simp[Aa];exact Av (r0:=tX (Ge p o)) (by simp[HX]) rfl (fun p=>by simp[Aa])
 have E:=Lr hp.2.1 hq.2.1;by_cases c:Ge p o=Ge q o
 ·have e:mg f at' o p q=(Ge p o,[]):=by rw[hm,cI,if_neg k0,if_neg q0,if_pos c]
  rw[eqT_iff.2 (by rw[c])]at E;refine⟨Ge p o,hp.2.1,by rw[e,hp.2.2],fun v w C hC=>?_⟩;rw[e];refine Az CR iS (Af AB (Af Bp (Af (Ca o) (Af (C3 p) (Af (C3 q) Ak))))) (Ca _) fun w0 I0 M0 m0=>?_;rw[Ao Cd.eq_1];by_cases p2:p.kind=2
  ·have q2:¬q.kind=2:=fun h=>h2 ⟨p2,h⟩;obtain⟨kp,op,np,wp,ksp,lp,osp⟩:=p;have p2:kp=2:=p2;subst p2;simp[q0,q2];refine Ae D1 iS ?_;simp[Aa];refine Ae D2 iS ?_;simp[Aa];refine Ae E iS ?_;simp[Aa];exact Av (r0:=tX (Ge (.mk 2 op np wp ksp lp osp) o)) (by simp[HX]) rfl (fun p=>by simp[Aa])
  ·by_cases p3:p.kind=3
   ·have q3:¬q.kind=3:=fun h=>h3 ⟨p3,h⟩;obtain⟨kp,op,np,wp,ksp,lp,osp⟩:=p;have p3:kp=3:=p3;subst p3;simp[q0,q3];refine Ae D1 iS ?_;simp[Aa];refine Ae D2 iS ?_;simp[Aa];refine Ae E iS ?_;simp[Aa];exact Av (r0:=tX (Ge (.mk 3 op np wp ksp lp osp) o)) (by simp[HX]) rfl (fun p=>by simp[Aa])
   ·simp[k0,p2,p3,q0];refine Ae D1 iS ?_;simp[Aa];refine Ae D2 iS ?_;simp[Aa];refine Ae E iS ?_;simp[Aa];exact Av (r0:=tX (Ge p o)) (by simp[HX]) rfl (fun p=>by simp[Aa])
 ·have e:mg f at' o p q=(Ag o,[⟨at',Ag o,Ge p o,Ge q o⟩]):=by rw[hm,cI,if_neg k0,if_neg q0,if_neg c]
  have ef:JE (Ge p o) (Ge q o)=false:=by
   cases h:JE (Ge p o) (Ge q o) with
   |false=>rfl
   |true=>
    have:=eqT_iff.1 h;rw[hp.2.2,hq.2.2]at this;exact absurd this c
  rw[ef]at E;refine⟨o,wo,by rw[e],fun v w C hC=>?_⟩;rw[e]at hC ⊢;have CL:=SW (l:=at') (b:=o) (o:=Ge p o) (t:=Ge q o) oF wo hp.2.1 hq.2.1 v w (C:=C) (by simp at hC;omega);rw[hp.2.2,hq.2.2]at CL;refine Az CR iS (Af AB (Af Bp (Af (Ca o) (Af (C3 p) (Af (C3 q) Ak))))) (Ca _) fun w0 I0 M0 m0=>?_;rw[Ao Cd.eq_1];by_cases p2:p.kind=2
  ·have q2:¬q.kind=2:=fun h=>h2 ⟨p2,h⟩;obtain⟨kp,op,np,wp,ksp,lp,osp⟩:=p;have p2:kp=2:=p2;subst p2;simp[q0,q2];refine Ae D1 iS ?_;simp[Aa];refine Ae D2 iS ?_;simp[Aa];refine Ae E iS ?_;simp[Aa];refine Au 0 CL (fun p=>by simp[Aa]) iS iS ?_;simp[Aa];exact Av (r0:=tX o) (by simp[HX]) rfl (fun p=>by simp[Aa])
  ·by_cases p3:p.kind=3
   ·have q3:¬q.kind=3:=fun h=>h3 ⟨p3,h⟩;obtain⟨kp,op,np,wp,ksp,lp,osp⟩:=p;have p3:kp=3:=p3;subst p3;simp[q0,q3];refine Ae D1 iS ?_;simp[Aa];refine Ae D2 iS ?_;simp[Aa];refine Ae E iS ?_;simp[Aa];refine Au 0 CL (fun p=>by simp[Aa]) iS iS ?_;simp[Aa];exact Av (r0:=tX o) (by simp[HX]) rfl (fun p=>by simp[Aa])
   ·simp[k0,p2,p3,q0];refine Ae D1 iS ?_;simp[Aa];refine Ae D2 iS ?_;simp[Aa];refine Ae E iS ?_;simp[Aa];refine Au 0 CL (fun p=>by simp[Aa]) iS iS ?_;simp[Aa];exact Av (r0:=tX o) (by simp[HX]) rfl (fun p=>by simp[Aa])
theorem vd{at':DQ}{o:T}{p q:E}{u:T}(hp:p.kind=2)(hq:q.kind=2){v w:Nat}{C C':List Cf}(S:SpecF Tryz.prog 55 (fun r=>[.pob [r] v 0,BL at',tX o,eX p,eX q]) (RK v w C) (fun _=>tX u) (RK v w C')) :
  SpecF Tryz.prog 34 (fun r=>[.pob [r] v 0,BL at',tX o,eX p,eX q]) (RK v w C) (fun _=>tX u) (RK v w C'):=by
 refine Az CR iS (Af AB (Af Bp (Af (Ca o) (Af (C3 p) (Af (C3 q) Ak))))) (Ca _) fun w0 I0 M0 m0=>?_;obtain⟨kp,op,np,wp,ksp,lp,osp⟩:=p;obtain⟨kq,oq,nq,wq,ksq,lq,osq⟩:=q;have hp:kp=2:=hp;have hq:kq=2:=hq;subst hp;subst hq;rw[Ao Cd.eq_1];simp;refine Au 0 S (fun p=>by simp[Aa]) iS iS ?_;simp[Aa];exact Av (r0:=tX u) (by simp[HX]) rfl (fun p=>by simp[Aa])
theorem tq{at':DQ}{o:T}{p q:E}{u:T}(hp:p.kind=3)(hq:q.kind=3){v w:Nat}{C C':List Cf}(S:SpecF Tryz.prog 56 (fun r=>[.pob [r] v 0,BL at',tX o,eX p,eX q]) (RK v w C) (fun _=>tX u) (RK v w C')) :
  SpecF Tryz.prog 34 (fun r=>[.pob [r] v 0,BL at',tX o,eX p,eX q]) (RK v w C) (fun _=>tX u) (RK v w C'):=by
 refine Az CR iS (Af AB (Af Bp (Af (Ca o) (Af (C3 p) (Af (C3 q) Ak))))) (Ca _) fun w0 I0 M0 m0=>?_;obtain⟨kp,op,np,wp,ksp,lp,osp⟩:=p;obtain⟨kq,oq,nq,wq,ksq,lq,osq⟩:=q;have hp:kp=3:=hp;have hq:kq=3:=hq;subst hp;subst hq;rw[Ao Cd.eq_1];simp;refine Au 0 S (fun p=>by simp[Aa]) iS iS ?_;simp[Aa];exact Av (r0:=tX u) (by simp[HX]) rfl (fun p=>by simp[Aa])
def pW(f:Nat)(e:E)(x y:T):Prop:=Ld f e x y/\Qz e/\Ay x/\Ay y/\Sq f x/\Sq f y
theorem fU{f:Nat}{k:T}(w:Ay k)(s:Sq f k):pW f E0 k k:=⟨Ol (.inl ⟨rfl,rfl⟩),Eo,w,w,s,s⟩
def LdR(f:Nat)(e:E)(x y:T):Prop:=∃z,Ld f e x z/\Ay z/\Sq f z
theorem TN{a b:List Int}{p:Nat}{ws:List WE}(h:Pe a b p ws):ws.length+p<=max p (max a.length b.length):=by
 induction h with
 |nil p h=>simp;omega
 |cons p i m o n ws hp h hi hm ho hn h1 h2 _ ih=>
  rw[List.length_cons];omega
theorem w9:∀(f:Nat)(p q:E)(o x y:T),pW f p o x->pW f q o y->∀at':DQ,at'.length+f<=800000->∃u,yB f at' o p q u:=by
 intro f;induction f with
 |zero=>
  intro p q o x y hp hq at' hat;have D1:=(YG hp.2.1 hp.2.2.1 hp.2.2.2.1 hp.2.2.2.2.1 hp.2.2.2.2.2 hp.1).1;have D2:=(YG hq.2.1 hq.2.2.1 hq.2.2.2.1 hq.2.2.2.2.1 hq.2.2.2.2.2 hq.1).1;have k1:p.kind=0\/p.kind=1:=by
   rcases hp.1 with ⟨rfl,_⟩|⟨_,_,rfl,_⟩
   ·exact .inl rfl
   ·exact .inr rfl
  exact bf D1 D2 hp.2.2.1 oF (fun h=>oF) (fun h=>oF) rfl
 |succ f ih=>
  intro p q o x y hp hq at' hat;have D1:=(YG hp.2.1 hp.2.2.1 hp.2.2.2.1 hp.2.2.2.2.1 hp.2.2.2.2.2 hp.1).1;have D2:=(YG hq.2.1 hq.2.2.1 hq.2.2.2.1 hq.2.2.2.2.1 hq.2.2.2.2.2 hq.1).1;by_cases k2:p.kind=2/\q.kind=2
  ·obtain⟨hp1,hp2,hp3,hp4,hp5,hp6⟩:=hp;obtain⟨hq1,hq2,hq3,hq4,hq5,hq6⟩:=hq;rcases hp1 with h|⟨ws,ks,rfl,h1,h2,h3,h4⟩|⟨os,rfl,h1,h2,hv,h3⟩
   ·rcases h with ⟨rfl,_⟩|⟨_,_,rfl,_⟩<;>exact absurd k2.1 iS
   rotate_left
   ·exact absurd k2.1 iS
   rcases hq1 with g|⟨ws',ks',rfl,g1,g2,g3,g4⟩|⟨os',rfl,g1,g2,gv,g3⟩
   ·rcases g with ⟨rfl,_⟩|⟨_,_,rfl,_⟩<;>exact absurd k2.2 iS
   rotate_left
   ·exact absurd k2.2 iS
   have P:=wfE_iff.1 hp2;have Q:=wfE_iff.1 hq2;have pwl:ws.length*32<=140737488355328:=P.wl;have pkl:ks.length*208<=140737488355328:=P.kl;have qwl:ws'.length*32<=140737488355328:=Q.wl;have qkl:ks'.length*208<=140737488355328:=Q.kl;have lw:=TN h3;have lw':=TN g3;have s1:=hp5.1;have s2:=hp5.2.1;have s3:=hp6.1;have s4:=hp6.2.1;have s5:=hq6.1;have s6:=hq6.2.1;have hk:∀i:Nat,∃u,yB f (at'++[(0,(i:Int))]) (o.kids.getD i T0) (Eh ks i) (Eh ks' i) u:=fun i=>by
    have a1:Ld f (Eh ks i) (o.kids.getD i T0) (x.kids.getD i T0):=Vx (fun x y h=>Ol (.inl ⟨rfl,h⟩)) h4 i (Nat.zero_le _);have a2:Ld f (Eh ks' i) (o.kids.getD i T0) (y.kids.getD i T0):=Vx (fun x y h=>Ol (.inl ⟨rfl,h⟩)) g4 i (Nat.zero_le _);exact ih _ _ _ _ _ ⟨a1,Wk Eo (fun x h=>(P.ks x h).2) i,GN hp3 i,GN hp4 i,OI hp5 i,OI hp6 i⟩ ⟨a2,Wk Eo (fun x h=>(Q.ks x h).2) i,GN hp3 i,GN hq4 i,OI hp5 i,OI hq6 i⟩ _ (by rw[List.length_append];simp;omega)
   obtain⟨u,u1,u2,u3⟩:=ta (f:=f) (at':=at') oF hp3 (p:=.mk 2 T0 T0 ws ks 0 []) (q:=.mk 2 T0 T0 ws' ks' 0 []) h3 g3 h4 g4 oF oF oF ⟨by show ws.length<=_;omega,by show ks.length<=_;omega⟩ ⟨by show ws'.length<=_;omega,by show ks'.length<=_;omega⟩ hk;have em:mg (f+1) at' o (.mk 2 T0 T0 ws ks 0 []) (.mk 2 T0 T0 ws' ks' 0 [])=gS (mg f) at' o (.mk 2 T0 T0 ws ks 0 []) (.mk 2 T0 T0 ws' ks' 0 []):=by rw[mg,if_pos ⟨rfl,rfl⟩]
   refine⟨u,u1,by rw[em];exact u2,fun v w C hC=>?_⟩;rw[em]at hC ⊢;exact vd rfl rfl (u3 v w C hC)
  ·by_cases k3:p.kind=3/\q.kind=3
   ·obtain⟨hp1,hp2,hp3,hp4,hp5,hp6⟩:=hp;obtain⟨hq1,hq2,hq3,hq4,hq5,hq6⟩:=hq;rcases hp1 with h|⟨ws,ks,rfl,h1,h2,h3,h4⟩|⟨os,rfl,h1,h2,hv,h3⟩
    ·rcases h with ⟨rfl,_⟩|⟨_,_,rfl,_⟩<;>exact absurd k3.1 iS
    ·exact absurd k3.1 iS
    rcases hq1 with g|⟨ws',ks',rfl,g1,g2,g3,g4⟩|⟨os',rfl,g1,g2,gv,g3⟩
    ·rcases g with ⟨rfl,_⟩|⟨_,_,rfl,_⟩<;>exact absurd k3.2 iS
    ·exact absurd k3.2 iS
    have P:=wfE_iff.1 hp2;have Q:=wfE_iff.1 hq2;have O:=wfT_iff.1 hp3;have X:=wfT_iff.1 hp4;have Y:=wfT_iff.1 hq4;have s2:=hp5.2.1;have s4:=hp6.2.1;have s6:=hq6.2.1;have h3':LdO (LdR f) os o.kids x.kids:=jh h3 fun e a b ha hb r=>⟨b,r,X.ks b hb,hp6.2.2 b hb⟩;have g3':LdO (LdR f) os' o.kids y.kids:=jh g3 fun e a b ha hb r=>⟨b,r,Y.ks b hb,hq6.2.2 b hb⟩;obtain⟨f1,f2,f3⟩:=QP h3;obtain⟨e1,e2,e3⟩:=QP g3;obtain⟨l,t1,t2,t3,t4⟩:=Aev (os.length+os'.length+2*o.kids.length) os os' o.kids x.kids y.kids h3' g3' (f3 oF oF) (e3 oF oF) (Cq _);have hW:=AjD t1 (fun o ho=>⟨(P.os o ho).l,(P.os o ho).e⟩) (fun o ho=>⟨(Q.os o ho).l,(Q.os o ho).e⟩);have hI:=AaO t1;have hR:∀(i:Nat)(h:i<o.kids.length)(o1 o2:OP),.both o1 o2∈l->ar (LdR f) o1 o.kids[i]->ar (LdR f) o2 o.kids[i]->((o1.kind=0/\o1.e=E0)\/(o1.kind=1/\o1.e=E0)\/(o1.kind=3/\lP o1.e o.kids[i]))/\((o2.kind=0/\o2.e=E0)\/(o2.kind=1/\o2.e=E0)\/(o2.kind=3/\lP o2.e o.kids[i]))/\∃u,yB f (at'++[(0,(i:Int))]) o.kids[i] o1.e o2.e u:=fun i hi o1 o2 hm a1 a2=>by
     have wk:Ay o.kids[i]:=O.ks _ (Bv hi);have sk:Sq f o.kids[i]:=hp5.2.2 _ (Bv hi);have W:=hW _ hm;have one:∀oo:OP,xA oo->ar (LdR f) oo o.kids[i]->((oo.kind=0/\oo.e=E0)\/(oo.kind=1/\oo.e=E0)\/(oo.kind=3/\lP oo.e o.kids[i]))/\∃z,pW f oo.e o.kids[i] z:=fun oo w a=>by
      rcases a with ⟨k0,e0⟩|⟨k0,e0⟩|⟨k0,x',z,hz1,hz2,hz3⟩
      ·exact⟨.inl ⟨k0,e0⟩,o.kids[i],by rw[e0];exact fU wk sk⟩
      ·exact⟨.inr (.inl ⟨k0,e0⟩),o.kids[i],by rw[e0];exact fU wk sk⟩
      ·exact⟨.inr (.inr ⟨k0,(YG w.2 wk hz2 sk hz3 hz1).1⟩),z,hz1,w.2,wk,hz2,sk,hz3⟩
     obtain⟨r1,z1,q1⟩:=one o1 W.1 a1;obtain⟨r2,z2,q2⟩:=one o2 W.2 a2;exact⟨r1,r2,ih _ _ _ _ _ q1 q2 _ (by rw[List.length_append];simp;omega)⟩
    have t4':=t4 (mg f) at' o.kind [] [] 0;simp only[List.map_nil,List.nil_append]at t4';obtain⟨us,u1,u2,u3,u4⟩:=iO (f:=f) (at':=at') oF hp3 oF (R:=LdR f) (p:=.mk 3 T0 T0 [] [] o.kind os) (q:=.mk 3 T0 T0 [] [] o.kind os') t1 (f3 oF oF) (e3 oF oF) (by show os.length<=_;omega) (by show os'.length<=_;omega) oF t3 oF t4' (fun oo h=>by
     rcases h with h|h
     ·exact(hW _ h).1.1
     ·exact(hW _ h).2.1) hR
    have em:mg (f+1) at' o (.mk 3 T0 T0 [] [] o.kind os) (.mk 3 T0 T0 [] [] o.kind os')=(Ag (.mk o.kind [] (Kw (mg f) at' o.kind o.kids (Gs os) (Gs os') 0).1),(Kw (mg f) at' o.kind o.kids (Gs os) (Gs os') 0).2):=by rw[mg,if_neg iS,if_pos ⟨rfl,rfl⟩];rfl
    refine⟨.mk o.kind [] us,wfT_iff.2 ⟨O.k,iS,iS,by show us.length*56<=_;omega,u1⟩,?_,fun v w C hC=>?_⟩
    ·rw[em];refine(P6 oF oF).2 ⟨rfl,?_⟩;have u3':us.map Ag=(Kw (mg f) at' o.kind o.kids (Gs os) (Gs os') 0).1:=u3;rw[<-u3',KX]
    ·rw[em]at hC ⊢;exact tq rfl rfl (u4 v w C hC)
   ·have hm:mg (f+1) at' o p q=cI at' o p q:=by rw[mg,if_neg k2,if_neg k3]
    exact bf D1 D2 hp.2.2.1 oF k2 k3 hm
end Go.Proofs.YtlaapfplenlfaaaGreat
namespace Go.G
open Go
theorem SpecH.soft{P:Program}{f:FuncId}{k:Nat}{as' as2:List A}{Hc Hr:Hp}{r:A}(h:SpecH P f k as2 Hc r Hr)(e:A.softL as'=as2):SpecH P f k as' Hc r Hr:=by
 subst e;refine⟨h.1,fun w I M0 n μ vs hM hs hl ha=>h.2 w I M0 n μ vs hM hs (by simpa[BK]using hl) fun k y hk=>?_⟩;rw[BK,List.getElem?_map,Option.map_eq_some_iff]at hk;obtain⟨y',hy,rfl⟩:=hk;exact(ha k y' hy).soft
theorem SpecF.soft{P:Program}{f:FuncId}{as' as2:Nat->List A}{F F':Fam}{x:Nat->A}(h:SpecF P f as2 F x F')(fa:FamL as')(e:A.softL (as' 0)=as2 0):SpecF P f as' F x F':=
 ⟨fa,h.fx,h.h.soft e⟩
end Go.G
namespace Go.Proofs.YtlaapfplenlfaaaGreat
open Go Go.G Go.Proofs Go.PL
theorem ey{H:Hp}{o:Nm}{u n:Nat}{l:List Cf}(h:vr (H o) u=some (10,l.map aV))(hn:n=l.length):Iz H (.osl o u 10 0 n) (KY l):=
 AQ h hn fun x=>by simp[aV]
theorem jD{f:Nat}{p q:E}{o x y:T}(hp:pW f p o x)(hq:pW f q o y)(hf:f<=800000)(hc:(mg f [] o p q).2.length<=100000000000):G.Spec Tryz.prog 14 [tX o,eX p,eX q] (.tup [tX (mg f [] o p q).1,KY (mg f [] o p q).2,bv true]):=by
 obtain⟨u,u1,u2,u3⟩:=w9 f p q o x y hp hq [] (by simpa using hf);obtain⟨x',x1,x2⟩:=uX f p o x hp.2.1 hp.2.2.1 hp.2.2.2.1 (Yc f o hp.2.2.2.2.1) (Yc f x hp.2.2.2.2.2) hp.1;obtain⟨y',y1,y2⟩:=uX f q o y hq.2.1 hq.2.2.1 hq.2.2.2.1 (Yc f o hq.2.2.2.2.1) (Yc f y hq.2.2.2.2.2) hq.1;have A1:=PO x1;have A2:=PO y1;have S:=u3 1 1 [] (by simpa using hc);have S':SpecF Tryz.prog 34 (fun r=>[.pob [r] 1 0,.sl true [],tX o,eX p,eX q]) (RK 1 1 []) (fun _=>tX u) (RK 1 1 (mg f [] o p q).2):=S.soft (Af AB (Af Bp (Af (Ca o) (Af (C3 p) (Af (C3 q) Ak))))) (by simp[A.softL,A.soft,KL,Hf,Us,X2,Yt]);have N:=D3 u u1;rw[u2]at N;generalize mg f [] o p q=M at *;refine Aj ao iS fun w0 I0=>?_;rw[Ao RL.eq_1];simp;refine Ae A1 iS ?_;simp[Aa];refine Ae A2 iS ?_;simp[Aa];refine Dn (Bi (d:=[6]) (u:=1) (cs:=[.sl true []]) 0 [6,0] 10 iS rfl iS) (Dr ?_);simp[Aa];refine Au 6 S' (fun p=>?_) iS iS ?_
 ·by_cases p1:p=[]
  ·subst p1;simp[Aa]
  ·by_cases p2:p=[0]
   ·subst p2;simp[Aa]
   ·simp[Aa,p1,p2,HO,Ne.symm p1,Ne.symm p2]
 simp[Aa];refine Ae N iS ?_;simp[Aa];refine AM ⟨Ad iS,ey ?_ rfl,Ad rfl,trivial⟩;simp[Aa]
noncomputable def Jf(most:Int)(o x y:T):T × List Cf:=mg 1000 [] (Ag o) (ZA most o x) (ZA most o y)
theorem Tw{t:T}(pt:Bn t<=1000):Bn (Ag t)<=1000:=by
 have:=nM t;omega
theorem Y1{a b:T}(ha:Ay a)(hb:Ay b)(pa:Bn a<=1000)(pb:Bn b<=1000){da db:Nat}(ra:AW da a=true)(rb:AW db b=true){most:Int}:pW 1000 (ZA most a b) (Ag a) (Ag b):=
 ⟨Ab6 ha hb pa pb ra rb,AhY ha hb pa pb,BV a ha,BV b hb,Zv 1000 (Ag a) (by have:=Tw pa;omega),Zv 1000 (Ag b) (by have:=Tw pb;omega)⟩
mutual
def HM:E->Nat
 |.mk _ _ _ ws ks _ os=>1+ws.length+tH ks+y9 os
def tH:List KE->Nat
 |[]=>0
 |.mk _ e::l=>HM e+tH l
def y9:List OP->Nat
 |[]=>0
 |.mk k _ t e::l=>(if k=0 then 0 else if k=1\/k=2 then t.length else HM e)+y9 l
end
theorem YN(k:Int)(o n:T)(ws:List WE)(ks:List KE)(l:Int)(os:List OP):HM (.mk k o n ws ks l os)=1+ws.length+tH ks+y9 os:=by rw[HM]
@[simp]theorem Aks:tH []=0:=by rw[tH]
theorem ic(x:KE)(l:List KE):tH (x::l)=HM x.e+tH l:=by cases x;rw[tH];rfl
@[simp]theorem Ald:y9 []=0:=by rw[y9]
theorem Po(x:OP)(l:List OP):y9 (x::l)=(if x.kind=0 then 0 else if x.kind=1\/x.kind=2 then x.l.length else HM x.e)+y9 l:=by cases x;rw[y9];rfl
theorem yp(e:E):1<=HM e:=by
 cases e;rw[YN];omega
theorem pZ{α:Type}(at_:α->Int)(G:α->Nat)(k:α):∀m:Nat,((List.range m).map fun i:Nat=>if at_ k=(i:Int)then G k else 0).sum<=G k
 |0=>iS
 |m+1=>by
  have ih:=pZ at_ G k m;rw[List.range_succ,List.map_append,List.sum_append];by_cases h:at_ k=(m:Int)
  ·have z:((List.range m).map fun i:Nat=>if at_ k=(i:Int)then G k else 0).sum=0:=by
    refine List.sum_eq_zero_iff_forall_eq_nat.2 fun x hx=>?_;obtain⟨i,hi,rfl⟩:=List.mem_map.1 hx;have:=List.mem_range.1 hi;rw[if_neg oF]
   rw[z];simp[h]
  ·simp[h];exact ih
def gF{α:Type}(at_:α->Int)(G:α->Nat)(ks:List α)(i:Nat):Nat:=match ks.find? (fun k=>decide (at_ k=(i:Int))) with
 |some k=>G k
 |none=>0
theorem Abi{α:Type}(at_:α->Int)(G:α->Nat)(k:α)(ks:List α)(i:Nat):gF at_ G (k::ks) i<=(if at_ k=(i:Int)then G k else 0)+gF at_ G ks i:=by
 by_cases c:at_ k=(i:Int)
 ·have:gF at_ G (k::ks) i=G k:=by unfold gF;rw[List.find?_cons,decide_eq_true c]
  rw[this,if_pos c];omega
 ·have:gF at_ G (k::ks) i=gF at_ G ks i:=by unfold gF;rw[List.find?_cons,decide_eq_false c]
  rw[this,if_neg c];omega
theorem Y7{α:Type}(at_:α->Int)(G:α->Nat)(m:Nat):∀ks:List α,((List.range m).map (gF at_ G ks)).sum<=(ks.map G).sum
 |[]=>by
  refine Nat.le_of_eq (List.sum_eq_zero_iff_forall_eq_nat.2 fun x hx=>?_);obtain⟨i,_,rfl⟩:=List.mem_map.1 hx;rfl
 |k::ks=>by
  have ih:=Y7 at_ G m ks;have h1:=pZ at_ G k m;have key:∀l:List Nat,(l.map (gF at_ G (k::ks))).sum<=(l.map fun i:Nat=>if at_ k=(i:Int)then G k else 0).sum+(l.map (gF at_ G ks)).sum:=by
   intro l;induction l with
   |nil=>simp
   |cons i l ihl=>
    have:=Abi at_ G k ks i;simp only[List.map_cons,List.sum_cons];omega
  have:=key (List.range m);rw[List.map_cons,List.sum_cons];omega
theorem SG{α:Type}(L:Nat->List α)(g:Nat->Nat)(h:∀i,(L i).length<=g i):∀l:List Nat,(l.flatMap L).length<=(l.map g).sum
 |[]=>iS
 |i::l=>by
  have:=SG L g h l;have:=h i;rw[List.flatMap_cons,List.length_append,List.map_cons,List.sum_cons];omega
theorem oM(k:Int):Ir 0 k=0:=by
 show IntKind.u8.wrap ((BitVec.ofInt 8 0 &&& BitVec.ofInt 8 k).toNat:Nat)=0;simp;rfl
theorem vx(at':DQ)(i:Nat)(w:Int)(b:WE):Nf at' i w dW b=[]:=by
 unfold Nf;rw[if_neg];unfold Q5;rw[oM,Tq ⟨dO,dO⟩,Tq ⟨dO,dO⟩];simp
theorem Adf(at':DQ)(i:Nat)(w:Int)(a b:WE):(Nf at' i w a b).length<=1:=by
 unfold Nf;split<;>simp
theorem j6(ws:List WE):(ws.map fun _=>1).sum=ws.length:=by induction ws<;>simp_all [Nat.add_comm]
theorem wD(at':DQ)(o:List Int)(ps qs:List WE)(n:Nat):((List.range n).flatMap fun i:Nat=>Nf at' i (o.getD i 0) (C9 ps i) (C9 qs i)).length<=ps.length:=by
 have h1:=SG (fun i:Nat=>Nf at' i (o.getD i 0) (C9 ps i) (C9 qs i)) (gF (fun k:WE=>k.at_) (fun _=>1) ps) (fun i=>by
  unfold gF;cases e:ps.find? (fun k=>decide (k.at_=(i:Int))) with
  |none=>
   have:C9 ps i=dW:=by unfold C9;rw[e];rfl
   simp only[this,vx];simp
  |some k=>exact Adf _ _ _ _ _) (List.range n)
 have h2:=Y7 (fun k:WE=>k.at_) (fun _=>1) n ps;rw[j6]at h2;exact Nat.le_trans h1 h2
theorem pG:∀ks:List KE,(ks.map fun k=>HM k.e).sum=tH ks
 |[]=>iS
 |k::ks=>by rw[List.map_cons,List.sum_cons,pG ks,ic]
theorem Aat{M:DQ->T->E->E->T × List Cf}(hM:∀at' o p q,(M at' o p q).2.length<=HM p)(h0:∀at' o q,(M at' o E0 q).2=[])(at':Nat->DQ)(o:Nat->T)(ps:List KE)(q:Nat->E)(n:Nat):((List.range n).flatMap fun i:Nat=>(M (at' i) (o i) (Eh ps i) (q i)).2).length<=tH ps:=by
 have h1:=SG (fun i:Nat=>(M (at' i) (o i) (Eh ps i) (q i)).2) (gF (fun k:KE=>k.at_) (fun k=>HM k.e) ps) (fun i=>by
  unfold gF;cases e:ps.find? (fun k=>decide (k.at_=(i:Int))) with
  |none=>
   have:Eh ps i=E0:=by unfold Eh;rw[e];rfl
   simp only[this,h0];simp
  |some k=>
   have:Eh ps i=k.e:=by unfold Eh;rw[e];rfl
   simp only[this];exact hM _ _ _ _) (List.range n)
 have h2:=Y7 (fun k:KE=>k.at_) (fun k=>HM k.e) n ps;rw[pG]at h2;exact Nat.le_trans h1 h2
def cU:U->Nat
 |.keep=>0
 |.del _=>1
 |.ins _=>1
 |.desc e=>HM e
def XZ(us:List U):Nat:=(us.map cU).sum
theorem Uh(u:U)(us:List U):XZ (u::us)=cU u+XZ us:=by simp[XZ]
theorem eJ:∀us:List U,XZ us=(GV us).length+XZ (Fl us)
 |[]=>rfl
 |.ins t::us=>by rw[Uh,GV,Fl,eJ us,List.length_cons,cU];omega
 |.keep::us=>by simp[GV,Fl]
 |.del t::us=>by simp[GV,Fl]
 |.desc e::us=>by simp[GV,Fl]
theorem p6(at':DQ)(kind:Int)(n:Nat)(a b:List T):(Gb at' kind n a b).2.length<=a.length:=by
 unfold Gb;split
 ·simp
 ·rename_i h;have:0<a.length:=List.length_pos_iff.2 fun e=>h (.inl e);split<;>simp<;>omega
theorem uJ{M:DQ->T->E->E->T × List Cf}(hM:∀at' o p q,(M at' o p q).2.length<=HM p)(h0:∀at' o q,(M at' o E0 q).2=[])(at':DQ)(k:T)(u v:U):(Cs M at' k u v).2.length<=cU u:=by
 cases u<;>cases v<;>simp[Cs,cU,eU,h0,hM,yp]
theorem Aio(us:List U):cU (lL us)+XZ us.tail<=XZ us:=by
 cases us with
 |nil=>simp[lL,cU,XZ]
 |cons u us=>rw[Uh];simp[lL]
theorem yf{M:DQ->T->E->E->T × List Cf}(hM:∀at' o p q,(M at' o p q).2.length<=HM p)(h0:∀at' o q,(M at' o E0 q).2=[])(at':DQ)(kind:Int):∀(ks:List T)(us vs:List U)(n:Nat),(Kw M at' kind ks us vs n).2.length<=XZ us
 |[],us,vs,n=>by
  have:=p6 at' kind n (GV us) (GV vs);have:=eJ us;rw[Kw];omega
 |k::ks,us,vs,n=>by
  have h1:=p6 at' kind n (GV us) (GV vs);have h2:=eJ us;have h3:=uJ hM h0 (at'++[(0,(n:Int))]) k (lL (Fl us)) (lL (Fl vs));have h4:=yf hM h0 at' kind ks (Fl us).tail (Fl vs).tail (n+1);have h5:=Aio (Fl us);simp only[Kw,List.length_append];omega
theorem AaC(a b:List U):XZ (a++b)=XZ a+XZ b:=by simp[XZ]
theorem qf:∀os:List OP,XZ (Gs os)<=y9 os
 |[]=>by simp[Gs,XZ]
 |o::os=>by
  have ih:=qf os;have rep:∀n,XZ (List.replicate n U.keep)=0:=fun n=>by simp[XZ,cU]
  have m1:∀l:List T,XZ (l.map .del)=l.length:=fun l=>by
   induction l with
   |nil=>simp[XZ]
   |cons x l ih=>rw[List.map_cons,Uh,ih,cU,List.length_cons];omega
  have m2:∀l:List T,XZ (l.map .ins)=l.length:=fun l=>by
   induction l with
   |nil=>simp[XZ]
   |cons x l ih=>rw[List.map_cons,Uh,ih,cU,List.length_cons];omega
  rw[D0,AaC,Po];unfold Nk;split
  ·rw[rep];omega
  ·split
   ·rename_i h;rw[m1,if_pos (.inl h)];omega
   ·split
    ·rename_i h;rw[m2,if_pos (.inr h)];omega
    ·rename_i h1 h2;have:XZ [.desc o.e]=HM o.e:=by simp[XZ,cU]
     rw[this,if_neg oF];omega
theorem AhO:∀(f:Nat)(at':DQ)(o:T)(p q:E),(mg f at' o p q).2.length<=HM p:=by
 have base:∀(at':DQ)(o:T)(p q:E),(cI at' o p q).2.length<=HM p:=fun at' o p q=>by
  have:=yp p;unfold cI;split
  ·simp
  ·split
   ·simp
   ·split
    ·simp
    ·simpa using this
 intro f;induction f with
 |zero=>exact base
 |succ f ih=>
  intro at' o p q;have h0:∀at' o q,(mg f at' o E0 q).2=[]:=fun at' o q=>by rw[AaQ rfl]
  obtain⟨k,oo,nn,ws,ks,l,os⟩:=p;rw[mg];split
  ·rw[YN];have h1:=wD at' o.words ws q.words (Cn (Cn o.words.length ws) q.words);have h2:=Aat ih h0 (fun i=>at'++[(0,(i:Int))]) (fun i=>o.kids.getD i T0) ks (fun i=>Eh q.kids i) (B0 (B0 o.kids.length ks) q.kids);unfold gS;simp only[E.words_mk,E.kids_mk,List.length_append];omega
  ·split
   ·rw[YN];have h1:=yf ih h0 at' o.kind o.kids (Gs os) (Gs q.ops) 0;have h2:=qf os;simp only[E.ops_mk];omega
   ·exact base _ _ _ _
theorem Hv:∀a b:List T,CB (a++b)=CB a+CB b
 |[],b=>iS
 |x::a,b=>by rw[List.cons_append,Dg,Dg,Hv a b];omega
theorem Fc:∀l:List T,(l.length:Int)<=CB l:=fun l=>SH fun t _=>Jx t
theorem Wj(l:List T){p i:Nat}(h:p<=i):CB (l.drop i)<=CB (l.drop p):=by
 have e:l.drop p=(l.drop p).take (i-p)++l.drop i:=by
  rw[show l.drop i=(l.drop p).drop (i-p)from by rw[List.drop_drop];congr 1;omega,List.take_append_drop]
 rw[e,Hv];have:=Fc ((l.drop p).take (i-p));omega
theorem cR(l:List T)(i:Nat):(i<l.length/\CB (l.drop i)=Bn (l.getD i T0)+CB (l.drop (i+1)))\/(l.length<=i/\CB (l.drop i)=0/\Bn (l.getD i T0)=1/\CB (l.drop (i+1))=0):=by
 by_cases h:i<l.length
 ·refine .inl ⟨h,?_⟩;rw[(List.getElem_cons_drop h).symm,Dg,List.getD_eq_getElem?_getD,List.getElem?_eq_getElem h];simp
 ·refine .inr ⟨oF,?_,?_,?_⟩
  ·rw[List.drop_eq_nil_of_le oF];simp
  ·rw[List.getD_eq_getElem?_getD,List.getElem?_eq_none oF];simp
  ·rw[List.drop_eq_nil_of_le oF];simp
theorem AeC{R:E->T->T->Prop}(hR:∀e x y,R e x y->(HM e:Int)<=1+2*(Bn x-1+(Bn y-1))){a b:List T}{p:Nat}{ks:List KE}(h:Z4 R a b p ks):(tH ks:Int)<=2*(CB (a.drop p)+CB (b.drop p)):=by
 induction h with
 |nil p h=>
  have:=Fc (a.drop p);have:=Fc (b.drop p);simp;omega
 |cons p i e ks hp h hi he hr _ ih=>
  have h1:=hR _ _ _ hr;have h2:=Wj a hp;have h3:=Wj b hp;have h4:=Fc (a.drop (i+1));have h5:=Fc (b.drop (i+1));rw[ic];show((HM e+tH ks:Nat):Int)<=_;rcases cR a i with ⟨a1,a2⟩|⟨a1,a2,a3,a4⟩<;>rcases cR b i with ⟨b1,b2⟩|⟨b1,b2,b3,b4⟩<;>omega
theorem AdL{R:E->T->T->Prop}(hR:∀e x y,R e x y->(HM e:Int)<=1+2*(Bn x-1+(Bn y-1))){os:List OP}{a b:List T}(h:LdO R os a b):(y9 os:Int)<=2*(CB a+CB b):=by
 induction h with
 |nil=>simp
 |keep l m hne hl _ ih=>
  have h1:=Fc l;have h2:=Fc m;rw[Po,Hv,Hv];simp;omega
 |del l m hne hl _ ih=>
  have h2:=Fc m;have h3:l.length=m.length:=by simpa using congrArg List.length hl
  rw[Po,Hv];simp;omega
 |ins l m hne hl _ ih=>
  have h2:=Fc m;have h3:l.length=m.length:=by simpa using congrArg List.length hl
  rw[Po,Hv];simp;omega
 |desc e x y r _ ih=>
  have h1:=hR _ _ _ r;rw[Po,Dg,Dg];simp;omega
theorem Ajd:∀(f:Nat)(e:E)(a b:T),Ld f e a b->(HM e:Int)<=1+2*(Bn a-1+(Bn b-1)):=by
 have base:∀(e:E)(a b:T),ur e a b->(HM e:Int)<=1+2*(Bn a-1+(Bn b-1)):=fun e a b h=>by
  have h1:=Jx a;have h2:=Jx b;rcases h with ⟨rfl,_⟩|⟨o,n,rfl,_⟩
  ·rw[YN];simp;omega
  ·rw[YN];simp;omega
 intro f;induction f with
 |zero=>exact fun e a b h=>base e a b h
 |succ f ih=>
  intro e a b h;rcases h with h|⟨ws,ks,rfl,h1,h2,h3,h4⟩|⟨os,rfl,h1,h2,hv,h3⟩
  ·exact base e a b h
  ·have w:=TN h3;have k:=AeC ih h4;obtain⟨ka,wa,la⟩:=a;obtain⟨kb,wb,lb⟩:=b;simp only[List.drop_zero,T.kids_mk,T.words_mk]at k w;have n1:=Fc la;have n2:=Fc lb;rw[YN,HA,HA];simp;omega
  ·have k:=AdL ih h3;obtain⟨ka,wa,la⟩:=a;obtain⟨kb,wb,lb⟩:=b;simp only[T.kids_mk]at k;rw[YN,HA,HA];simp;omega
theorem fP{o x y:T}(ho:Ay o)(hx:Ay x)(po:Bn o<=1000)(px:Bn x<=1000){da db:Nat}(ra:AW da o=true)(rb:AW db x=true)(most:Int):(Jf most o x y).2.length<=100000:=by
 have h1:=AhO 1000 [] (Ag o) (ZA most o x) (ZA most o y);have h2:=Ajd 1000 _ _ _ (Ab6 ho hx po px ra rb (most:=most));have h3:=Tw po;have h4:=Tw px;unfold Jf;omega
theorem kL{o x y:T}(ho:Ay o)(hx:Ay x)(hy:Ay y)(po:Bn o<=1000)(px:Bn x<=1000)(py:Bn y<=1000){d1 d2 d3:Nat}(r1:AW d1 o=true)(r2:AW d2 x=true)(r3:AW d3 y=true){most:Int}(hm:B6 most) :
  G.Spec Tryz.prog 19 [tX o,tX x,tX y,iv most] (.tup [tX (Jf most o x y).1,KY (Jf most o x y).2]):=by
 have N:=D3 o ho;have D1:=WQ ho hx po px hm;have D2:=WQ ho hy po py hm;have L:=fP (y:=y) ho hx po px r1 r2 most;have M:=jD (Y1 (most:=most) ho hx po px r1 r2) (Y1 (most:=most) ho hy po py r1 r3) oF (by unfold Jf at L;omega);rw[show mg 1000 [] (Ag o) (ZA most o x) (ZA most o y)=Jf most o x y from rfl]at M;generalize Jf most o x y=R at *;refine Aj aR iS fun w0 I0=>?_;rw[Ao RJ.eq_1];simp;refine Ae N iS ?_;simp;refine Ae D1 iS ?_;simp;refine Ae D2 iS ?_;simp;refine Ae M iS ?_;simp[Aa];exact AM ⟨Ad iS,Ai,trivial⟩
end Go.Proofs.YtlaapfplenlfaaaGreat
namespace Go.Proofs.YtlaapfplenlfaaaGreat
set_option maxRecDepth 20000
open Go Go.G Go.Proofs
@[simp]theorem AlK:EE Tryz.prog 51=some true:=by kernel_rfl
@[simp]theorem Alr:EE Tryz.prog 65=some true:=by kernel_rfl
@[simp]theorem wR:Am Tryz.prog 51 0=some 0:=by kernel_rfl
@[simp]theorem wL:Am Tryz.prog 51 1=some 1:=by kernel_rfl
@[simp]theorem vY:Am Tryz.prog 51 2=some 4:=by kernel_rfl
@[simp]theorem vO:Am Tryz.prog 51 3=some 7:=by kernel_rfl
@[simp]theorem Am1(x0 y0:Int)(x1 y1:Int):ah Tryz.prog 100 65 (.agg [A.v (.int .i64 x0),A.v (.int .i64 x1)]) (.agg [A.v (.int .i64 y0),A.v (.int .i64 y1)])=some (((x0 == y0)&&((x1 == y1)&&(true)))):=by kernel_rfl
def FO:CC:=Bh (cG Tryz.f17 40523 [[0,1,2,7,8,9,11,74],[995],[999,74],[87],[0,1,2,6,7,8,9,11,87],[995],[999,0,1,2,6,7,8,9,11],[]])
def Ii:CC:=CV (cG Tryz.f17 3659 [[0,1,2,7,8,9,69],[0,1,2,6,7,8,9,69],[995],[999,0,1,2,6,7,8,9],[11],[996]]) FO
def Fv:CC:=CV (cG Tryz.f17 75 [[0,1,2,7,20],[995],[999,20],[8,9,9000,10001],[31],[10,31,3002],[],[10],[999],[994],[999,8,9],[]]) Ii
def Ma:CC:=CV (cG Tryz.f17 1 [[0,1,2],[16],[0,1,2,6,16],[995],[999,0,1,2,6],[7],[996],[999,0,1,2,7],[6]]) Fv
theorem Va:Bs Tryz.prog 17 88 [(.tmp 6)] Ma:=Aq Tryz.func17
def Nh:CC:=Bh (cG Tryz.f33 1 [[0,2,1000],[0]])
theorem VJ:Bs Tryz.prog 33 6 [(.cell 2 25)] Nh:=Aq Tryz.func33
def K4:CC:=Bh (cG Tryz.f18 1 [[3,4,5,1000,2001,3002],[3,4,5,6]])
theorem SQ:Bs Tryz.prog 18 17 [(.tmp 6)] K4:=Aq Tryz.func18
def Lo:CC:=Bh (cG Tryz.f13 1 [[],[1,2,8000],[0,1,2]])
theorem St:Bs Tryz.prog 13 60 [(.tmp 0)] Lo:=Aq Tryz.func13
end Go.Proofs.YtlaapfplenlfaaaGreat
namespace Go.Proofs.YtlaapfplenlfaaaGreat
open Go Go.G Go.Proofs Go.PL
def wI(c:Cf):Prop:=Ay c.base/\Ay c.ours/\Ay c.theirs
def rE(t:Bool)(c:Cf):Cf:=if t=true then Acm c else c
variable {n0:Nat} {w0:World} {I0:Nat->Prop} {Q:Exit->Sta->Prop}
theorem wH{l m:List Cf}{t:Bool}{k u0 u1:Nat}{c:Cf}(hp:c.path.length<=10000000000000){H:Hp}(h0:H [0]=⟨u0,.cells (cfC c)⟩)(h1:H [1]=⟨u1,.cells (cfC c)⟩)
  (hq:Q (.exit 2) ⟨lk [(0,KY l),(1,KY m),(2,bv t),(7,iv k),(8,.pob [0] u0 0),(9,.pob [1] u1 0),(11,iv c.path.length),(74,bv false)],H⟩):∀(j i:Nat),i+j=c.path.length ->
  LoopC (cx Tryz.prog w0 I0 n0) FO Q ⟨lk [(0,KY l),(1,KY m),(2,bv t),(7,iv k),(8,.pob [0] u0 0),(9,.pob [1] u1 0),(11,iv i)],H⟩:=by
 intro j;induction j with
 |zero=>
  intro i hj;have:i=c.path.length:=oF
  subst this;refine Ab Ah (Ao FO.eq_1) ?_;simp[h0,h1];exact hq
 |succ j ih=>
  intro i hj;have hlt:i<c.path.length:=oF
  have ew:=Ap i;refine Ab Ah (Ao FO.eq_1) ?_;simp[h0,h1,hlt];rw[ew];exact ih (i+1) oF
theorem jI{l m:List Cf}{t:Bool}{k u0 u1:Nat}{c:Cf}(hc:wI c)(hp:c.path.length<=10000000000000){H:Hp}(h0:H [0]=⟨u0,.cells (cfC c)⟩)(h1:H [1]=⟨u1,.cells (cfC c)⟩)
  (hq:∀st,Q .normal ⟨lk ([(0,KY l),(1,KY m),(2,bv t),(7,iv k)]++st),H⟩) :
  WPC (cx Tryz.prog w0 I0 n0) Ii Q ⟨lk [(0,KY l),(1,KY m),(2,bv t),(7,iv k),(8,.pob [0] u0 0),(9,.pob [1] u1 0)],H⟩:=by
 obtain⟨w1,w2,w3⟩:=hc;have S1:=Hg c.base w1 c.base;have S2:=Hg c.ours w2 c.ours;have S3:=Hg c.theirs w3 c.theirs;rw[show Fs c.base c.base=true from sameB_iff.2 rfl]at S1;rw[show Fs c.ours c.ours=true from sameB_iff.2 rfl]at S2;rw[show Fs c.theirs c.theirs=true from sameB_iff.2 rfl]at S3;rw[(BG Ii.eq_1)];simp[h0,h1];refine DC rfl (fun _=>S1) (fun _=>iS) iS ?_;simp[h0,h1];refine DC rfl (fun _=>S2) (fun _=>iS) iS ?_;simp[h0,h1];refine DC rfl (fun _=>S3) (fun _=>iS) iS ?_;simp;refine LoopC.le (Al [(0,KY l),(1,KY m),(2,bv t),(7,iv k),(8,.pob [0] u0 0),(9,.pob [1] u1 0),(11,iv (0:Nat))] iS) ?_;refine wH (c:=c) hp h0 h1 ?_ c.path.length 0 oF;simp;have:=hq [(8,.pob [0] u0 0),(9,.pob [1] u1 0),(11,iv c.path.length),(74,bv false)];simpa using this
theorem yU{l m:List Cf}{t:Bool}(hm:m=l.map (rE t))(hl:l.length<=10000000000000)(hw:∀c,c∈l->wI c)(hp:∀c,c∈l->c.path.length<=10000000000000)
  (hq:∀H,Q (.exit 0) ⟨lk [(0,KY l),(1,KY m),(2,bv t),(7,iv l.length),(20,bv false)],H⟩):∀(j i:Nat)(H:Hp),i+j=l.length ->
  LoopC (cx Tryz.prog w0 I0 n0) Fv Q ⟨lk [(0,KY l),(1,KY m),(2,bv t),(7,iv i)],H⟩:=by
 intro j;induction j with
 |zero=>
  intro i H hj;have:i=l.length:=oF
  subst this;refine Ab Ah (BG Fv.eq_1) ?_;simp;exact hq H
 |succ j ih=>
  intro i H hj;have hlt:i<l.length:=oF
  have hlt2:i<m.length:=by rw[hm,List.length_map];exact hlt
  have ew:=Ap i;have hmi:m[i]=rE t l[i]:=by simp[hm]
  have hc:=hw _ (Bv hlt);have hpp:=hp _ (Bv hlt);generalize hx:l[i]=c at *;refine Ab Ah (BG Fv.eq_1) ?_;cases t with
  |true=>
   simp[hlt,hlt2,hx,hmi,Aa,rE,Acm];refine jI hc hpp (by simp[Aa]) (by simp[Aa]) fun st=>?_;simp[ew];exact ih (i+1) _ oF
  |false=>
   simp[hlt,hlt2,hx,hmi,Aa,rE];refine jI hc hpp (by simp[Aa]) (by simp[Aa]) fun st=>?_;simp[ew];exact ih (i+1) _ oF
theorem jF{l m:List Cf}{t:Bool}(hm:m=l.map (rE t))(hl:l.length<=10000000000000)(hw:∀c,c∈l->wI c)(hp:∀c,c∈l->c.path.length<=10000000000000):G.Spec Tryz.prog 17 [KY l,KY m,bv t] (bv true):=by
 have hlen:m.length=l.length:=by rw[hm,List.length_map]
 refine Aj Va iS fun w0 I0=>?_;rw[BG Ma.eq_1];simp[hlen];refine LoopC.le (Al [(0,KY l),(1,KY m),(2,bv t),(7,iv (0:Nat))] iS) ?_;refine yU hm hl hw hp (fun H=>?_) l.length 0 _ oF;simp;exact Ad rfl
def UW(u:U):Prop:=match u with
 |.ins t=>Ay t
 |.desc e=>Qz e
 |_=>True
theorem pP{os:List OP}(h:∀o,o∈os->xA o):∀u,u∈Gs os->UW u:=by
 intro u hu;obtain⟨o,ho,hu⟩:=List.mem_flatMap.1 hu;have:=h o ho;unfold Nk at hu;split at hu
 ·rw[List.eq_of_mem_replicate hu];trivial
 ·split at hu
  ·obtain⟨t,_,rfl⟩:=List.mem_map.1 hu;trivial
  ·split at hu
   ·obtain⟨t,ht,rfl⟩:=List.mem_map.1 hu;exact this.1 t ht
   ·rw[List.mem_singleton.1 hu];exact this.2
theorem Jq:∀{us:List U},(∀u,u∈us->UW u)->(∀t,t∈GV us->Ay t)/\∀u,u∈Fl us->UW u
 |[],_=>⟨fun t ht=>by simp[GV]at ht,fun u hu=>by simp[Fl]at hu⟩
 |.ins t::us,h=>by
  obtain⟨h1,h2⟩:=Jq fun u hu=>h u (List.mem_cons_of_mem _ hu);refine⟨fun x hx=>?_,h2⟩;rcases List.mem_cons.1 hx with rfl|hx
  ·exact h (.ins x) iS
  ·exact h1 x hx
 |.keep::us,h=>⟨fun t ht=>by simp[GV]at ht,h⟩
 |.del t::us,h=>⟨fun t ht=>by simp[GV]at ht,h⟩
 |.desc e::us,h=>⟨fun t ht=>by simp[GV]at ht,h⟩
theorem vq{at':DQ}{kind:Int}(hk:B6 kind){n:Nat}{a b:List T}(ha:∀t,t∈a->Ay t)(hb:∀t,t∈b->Ay t)(la:a.length<=1000000)(lb:b.length<=1000000):∀c,c∈(Gb at' kind n a b).2->wI c:=by
 intro c hc;unfold Gb at hc;have w:∀l:List T,(∀t,t∈l->Ay t)->l.length<=1000000->Ay (Ag (.mk kind [] l)):=fun l h1 h2=>BV _ (wfT_iff.2 ⟨hk,iS,iS,by show l.length*56<=_;omega,h1⟩);split at hc
 ·simp at hc
 ·split at hc
  ·simp at hc
  ·rw[List.mem_singleton.1 hc];exact⟨w [] (fun t ht=>by simp at ht) iS,w a ha la,w b hb lb⟩
def DnW(e:E)(x:T):Prop:=Ay (Ge e x)
theorem AaP{M:DQ->T->E->E->T × List Cf}{R:E->T->T->Prop}{W:T->Prop}(hW:∀k,W k->Ay k)(hM:∀at' k p q x y,W k->R p k x->R q k y->∀c,c∈(M at' k p q).2->wI c)(h0:∀k,W k->R E0 k k)(hD:∀e k x,W k->R e k x->DnW e k){at':DQ}{k:T}(wk:W k){u v:U}(hu:∃x,R (eU u) k x)(hv:∃x,R (eU v) k x):∀c,c∈(Cs M at' k u v).2->wI c:=by
 obtain⟨x,hx⟩:=hu;obtain⟨y,hy⟩:=hv;intro c hc;cases u<;>cases v<;>simp only[Cs]at hc<;>first|exact hM _ _ _ _ _ _ wk hx hy c hc|(rw[List.mem_singleton.1 hc];exact⟨BV k (hW k wk),Yr,hD _ _ _ wk hy⟩)|(rw[List.mem_singleton.1 hc];exact⟨BV k (hW k wk),hD _ _ _ wk hx,Yr⟩)|(simp at hc)
theorem V9{R:E->T->T->Prop}{us:List U}{k:T}{ks ys:List T}(h:LdU R us (k::ks) ys):∃y2,LdU R (Fl us).tail ks y2/\(lL (Fl us)=.keep\/(∃t,lL (Fl us)=.del t)\/∃e x,lL (Fl us)=.desc e/\R e k x)/\y2.length<=ys.length/\(GV us).length<=ys.length:=by
 obtain⟨y1,y2,rfl,h1,h2,h3⟩:=Oo h;have hl:(GV us).length=y1.length:=by simpa using congrArg List.length h1
 cases e:Fl us with
 |nil=>rw[e]at h2;cases h2
 |cons u vs=>
  rw[e]at h2;cases h2 with
  |keep x y hh g=>exact⟨_,g,.inl rfl,by simp;omega,by simp;omega⟩
  |del t x hh g=>exact⟨_,g,.inr (.inl ⟨t,rfl⟩),iS,by simp;omega⟩
  |ins t y hh g=>exact absurd e (h3 _ _)
  |desc ee x y hh g=>exact⟨_,g,.inr (.inr ⟨ee,y,rfl,hh⟩),by simp;omega,by simp;omega⟩
theorem AbZ{M:DQ->T->E->E->T × List Cf}{R:E->T->T->Prop}{W:T->Prop}(hW:∀k,W k->Ay k)(hM:∀at' k p q x y,W k->R p k x->R q k y->∀c,c∈(M at' k p q).2->wI c)(h0:∀k,W k->R E0 k k)(hD:∀e k x,W k->R e k x->DnW e k){at':DQ}{kind:Int}(hk:B6 kind):∀(ks:List T)(us vs:List U)(ys zs:List T)(n:Nat),(∀k,k∈ks->W k)->LdU R us ks ys->LdU R vs ks zs->(∀u,u∈us->UW u)->(∀u,u∈vs->UW u)->ys.length<=1000000->zs.length<=1000000->∀c,c∈(Kw M at' kind ks us vs n).2->wI c
 |[],us,vs,ys,zs,n,_,hu,hv,wu,wv,ly,lz=>by
  obtain⟨y1,y2,rfl,h1,_,_⟩:=Oo hu;obtain⟨z1,z2,rfl,g1,_,_⟩:=Oo hv;have hl:(GV us).length=y1.length:=by simpa using congrArg List.length h1
  have gl:(GV vs).length=z1.length:=by simpa using congrArg List.length g1
  rw[List.length_append]at ly lz;rw[Kw];exact vq hk (Jq wu).1 (Jq wv).1 oF oF
 |k::ks,us,vs,ys,zs,n,wk,hu,hv,wu,wv,ly,lz=>by
  obtain⟨y2,a1,a2,a3,a4⟩:=V9 hu;obtain⟨z2,b1,b2,b3,b4⟩:=V9 hv;have ih:=AbZ hW hM h0 hD (at':=at') hk ks (Fl us).tail (Fl vs).tail y2 z2 (n+1) (fun x hx=>wk x (List.mem_cons_of_mem _ hx)) a1 b1 (fun u hu=>(Jq wu).2 u (List.mem_of_mem_tail hu)) (fun u hu=>(Jq wv).2 u (List.mem_of_mem_tail hu)) oF oF;have wkk:=wk k iS;have ex:∀u:U,(u=.keep\/(∃t,u=.del t)\/∃e x,u=.desc e/\R e k x)->∃x,R (eU u) k x:=fun u h=>by
   rcases h with rfl|⟨t,rfl⟩|⟨e,x,rfl,h⟩
   ·exact⟨k,h0 k wkk⟩
   ·exact⟨k,h0 k wkk⟩
   ·exact⟨x,h⟩
  have hU:=AaP hW hM h0 hD (at':=at'++[(0,(n:Int))]) wkk (ex _ a2) (ex _ b2);intro c hc;simp only[Kw,List.mem_append]at hc;rcases hc with hc|hc|hc
  ·exact vq hk (Jq wu).1 (Jq wv).1 oF oF c hc
  ·exact hU c hc
  ·exact ih c hc
theorem p7{R R':E->T->T->Prop}{us:List U}{a b:List T}(h:LdU R us a b):(∀e,U.desc e∈us->Qz e)->(∀e x y,x∈a->y∈b->Qz e->R e x y->R' e x y)->LdU R' us a b:=by
 induction h with
 |nil=>exact fun _ _=>.nil
 |keep x y h g ih=>exact fun hw hR=>.keep x y h (ih (fun e he=>hw e (List.mem_cons_of_mem _ he)) fun e x y hx hy=>hR e x y (List.mem_cons_of_mem _ hx) (List.mem_cons_of_mem _ hy))
 |del t x h g ih=>exact fun hw hR=>.del t x h (ih (fun e he=>hw e (List.mem_cons_of_mem _ he)) fun e x y hx hy=>hR e x y (List.mem_cons_of_mem _ hx) hy)
 |ins t y h g ih=>exact fun hw hR=>.ins t y h (ih (fun e he=>hw e (List.mem_cons_of_mem _ he)) fun e x y hx hy=>hR e x y hx (List.mem_cons_of_mem _ hy))
 |desc e x y h g ih=>exact fun hw hR=>.desc e x y (hR e x y iS iS (hw e iS) h) (ih (fun e he=>hw e (List.mem_cons_of_mem _ he)) fun e x y hx hy=>hR e x y (List.mem_cons_of_mem _ hx) (List.mem_cons_of_mem _ hy))
theorem wP{R:E->T->T->Prop}{os:List OP}{a b:List T}(h:LdO R os a b)(hw:∀o,o∈os->Qz o.e):∀e,U.desc e∈Gs os->Qz e:=by
 intro e he;obtain⟨o,ho,he⟩:=List.mem_flatMap.1 he;unfold Nk at he;split at he
 ·exact absurd (List.eq_of_mem_replicate he) iS
 ·split at he
  ·obtain⟨t,_,h⟩:=List.mem_map.1 he;cases h
  ·split at he
   ·obtain⟨t,_,h⟩:=List.mem_map.1 he;cases h
   ·have:=List.mem_singleton.1 he;cases this;exact hw o ho
theorem AmD:∀(f:Nat)(at':DQ)(o:T)(p q:E)(x y:T),pW f p o x->pW f q o y->∀c,c∈(mg f at' o p q).2->wI c:=by
 have base:∀(f:Nat)(at':DQ)(o:T)(p q:E)(x y:T),pW f p o x->pW f q o y->∀c,c∈(cI at' o p q).2->wI c:=fun f at' o p q x y hp hq c hc=>by
  unfold cI at hc;split at hc
  ·simp at hc
  ·split at hc
   ·simp at hc
   ·split at hc
    ·simp at hc
    ·rw[List.mem_singleton.1 hc,Vt hp.1,Vt hq.1];exact⟨BV o hp.2.2.1,BV x hp.2.2.2.1,BV y hq.2.2.2.1⟩
 intro f;induction f with
 |zero=>exact base 0
 |succ f ih=>
  intro at' o p q x y hp hq c hc;rw[mg]at hc;split at hc
  ·rename_i k2;obtain⟨hp1,hp2,hp3,hp4,hp5,hp6⟩:=hp;obtain⟨hq1,hq2,hq3,hq4,hq5,hq6⟩:=hq;rcases hp1 with h|⟨ws,ks,rfl,h1,h2,h3,h4⟩|⟨os,rfl,h1,h2,hv,h3⟩
   ·rcases h with ⟨rfl,_⟩|⟨_,_,rfl,_⟩<;>exact absurd k2.1 iS
   rotate_left
   ·exact absurd k2.1 iS
   rcases hq1 with g|⟨ws',ks',rfl,g1,g2,g3,g4⟩|⟨os',rfl,g1,g2,gv,g3⟩
   ·rcases g with ⟨rfl,_⟩|⟨_,_,rfl,_⟩<;>exact absurd k2.2 iS
   rotate_left
   ·exact absurd k2.2 iS
   have P:=wfE_iff.1 hp2;have Q:=wfE_iff.1 hq2;unfold gS at hc;rcases List.mem_append.1 hc with hc|hc
   ·obtain⟨i,_,hc⟩:=List.mem_flatMap.1 hc;unfold Nf at hc;split at hc
    ·rw[List.mem_singleton.1 hc];exact⟨BV _ (H9 (IZ (wfT_iff.1 hp3).w i)),BV _ (H9 (DB _ _ _)),BV _ (H9 (DB _ _ _))⟩
    ·simp at hc
   ·obtain⟨i,_,hc⟩:=List.mem_flatMap.1 hc;have a1:Ld f (Eh ks i) (o.kids.getD i T0) (x.kids.getD i T0):=Vx (fun x y h=>Ol (.inl ⟨rfl,h⟩)) h4 i (Nat.zero_le _);have a2:Ld f (Eh ks' i) (o.kids.getD i T0) (y.kids.getD i T0):=Vx (fun x y h=>Ol (.inl ⟨rfl,h⟩)) g4 i (Nat.zero_le _);exact ih _ _ _ _ _ _ ⟨a1,Wk Eo (fun x h=>(P.ks x h).2) i,GN hp3 i,GN hp4 i,OI hp5 i,OI hp6 i⟩ ⟨a2,Wk Eo (fun x h=>(Q.ks x h).2) i,GN hp3 i,GN hq4 i,OI hp5 i,OI hq6 i⟩ c hc
  ·split at hc
   ·rename_i k2 k3;obtain⟨hp1,hp2,hp3,hp4,hp5,hp6⟩:=hp;obtain⟨hq1,hq2,hq3,hq4,hq5,hq6⟩:=hq;rcases hp1 with h|⟨ws,ks,rfl,h1,h2,h3,h4⟩|⟨os,rfl,h1,h2,hv,h3⟩
    ·rcases h with ⟨rfl,_⟩|⟨_,_,rfl,_⟩<;>exact absurd k3.1 iS
    ·exact absurd k3.1 iS
    rcases hq1 with g|⟨ws',ks',rfl,g1,g2,g3,g4⟩|⟨os',rfl,g1,g2,gv,g3⟩
    ·rcases g with ⟨rfl,_⟩|⟨_,_,rfl,_⟩<;>exact absurd k3.2 iS
    ·exact absurd k3.2 iS
    have P:=wfE_iff.1 hp2;have Q:=wfE_iff.1 hq2;have O:=wfT_iff.1 hp3;have X:=wfT_iff.1 hp4;have Y:=wfT_iff.1 hq4;have s4:=hp6.2.1;have s6:=hq6.2.1;have p1:=wP h3 (fun o ho=>(P.os o ho).e);have q1:=wP g3 (fun o ho=>(Q.os o ho).e);have u1:LdU (pW f) (Gs os) o.kids x.kids:=p7 (gL h3) p1 fun e a b ha hb he r=>⟨r,he,O.ks a ha,X.ks b hb,hp5.2.2 a ha,hp6.2.2 b hb⟩;have u2:LdU (pW f) (Gs os') o.kids y.kids:=p7 (gL g3) q1 fun e a b ha hb he r=>⟨r,he,O.ks a ha,Y.ks b hb,hp5.2.2 a ha,hq6.2.2 b hb⟩;exact AbZ (W:=fun k=>Ay k/\Sq f k) (fun k h=>h.1) (fun at' k p q x y _ h1 h2=>ih at' k p q x y h1 h2) (fun k h=>fU h.1 h.2) (fun e k x _ h=>by
     unfold DnW;rw[Vt h.1];exact BV x h.2.2.2.1) O.k o.kids (Gs os) (Gs os') x.kids y.kids 0 (fun k hk=>⟨O.ks k hk,hp5.2.2 k hk⟩) u1 u2 (pP fun o ho=>⟨(P.os o ho).l,(P.os o ho).e⟩) (pP fun o ho=>⟨(Q.os o ho).l,(Q.os o ho).e⟩) oF oF c hc
   ·exact base (f+1) at' o p q x y hp hq c hc
theorem AaF:∀(f:Nat)(at':DQ)(o:T)(p q:E),∀c,c∈(mg f at' o p q).2->c.path.length<=at'.length+f+1:=by
 have base:∀(at':DQ)(o:T)(p q:E),∀c,c∈(cI at' o p q).2->c.path.length<=at'.length:=fun at' o p q c hc=>by
  unfold cI at hc;split at hc
  ·simp at hc
  ·split at hc
   ·simp at hc
   ·split at hc
    ·simp at hc
    ·rw[List.mem_singleton.1 hc];exact Cq _
 have gap:∀(at':DQ)(kind:Int)(n:Nat)(a b:List T),∀c,c∈(Gb at' kind n a b).2->c.path.length<=at'.length+1:=fun at' kind n a b c hc=>by
  unfold Gb at hc;split at hc
  ·simp at hc
  ·split at hc
   ·simp at hc
   ·rw[List.mem_singleton.1 hc];simp
 have lst:∀(f:Nat),(∀(at':DQ)(o:T)(p q:E),∀c,c∈(mg f at' o p q).2->c.path.length<=at'.length+f+1)->∀(at':DQ)(kind:Int)(ks:List T)(us vs:List U)(n:Nat),∀c,c∈(Kw (mg f) at' kind ks us vs n).2->c.path.length<=at'.length+f+2:=fun f ih at' kind ks=>by
  induction ks with
  |nil=>
   intro us vs n c hc;rw[Kw]at hc;have:=gap _ _ _ _ _ c hc;omega
  |cons k ks ihk=>
   intro us vs n c hc;simp only[Kw,List.mem_append]at hc;rcases hc with hc|hc|hc
   ·have:=gap _ _ _ _ _ c hc;omega
   ·generalize lL (Fl us)=u at hc;generalize lL (Fl vs)=v at hc;cases u<;>cases v<;>simp only[Cs]at hc<;>first|(have:=ih _ _ _ _ c hc;simp at this;omega)|(rw[List.mem_singleton.1 hc];simp;omega)|(simp at hc)
   ·exact ihk _ _ _ c hc
 intro f;induction f with
 |zero=>
  intro at' o p q c hc;have:=base _ _ _ _ c hc;omega
 |succ f ih=>
  intro at' o p q c hc;rw[mg]at hc;split at hc
  ·unfold gS at hc;rcases List.mem_append.1 hc with hc|hc
   ·obtain⟨i,_,hc⟩:=List.mem_flatMap.1 hc;unfold Nf at hc;split at hc
    ·rw[List.mem_singleton.1 hc];simp
    ·simp at hc
   ·obtain⟨i,_,hc⟩:=List.mem_flatMap.1 hc;have:=ih _ _ _ _ c hc;simp at this;omega
  ·split at hc
   ·have:=lst f ih _ _ _ _ _ _ c hc;omega
   ·have:=base _ _ _ _ c hc;omega
section
variable {o x y:T} {most:Int}
structure Py(t:T):Prop where
 w:Ay t
 p:Bn t<=1000
 r:AW 64 t=true
theorem Pz{t:T}(h:Ay t)(g:Gv t=true):Py t:=by
 have:=Ou g;exact⟨h,oF,this.2.1⟩
theorem Aek(ho:Py o)(hx:Py x)(hy:Py y):(∀c,c∈(Jf most o x y).2->wI c)/\(∀c,c∈(Jf most o x y).2->c.path.length<=10000000000000)/\(Jf most o x y).2.length<=10000000000000/\Ay (Jf most o x y).1/\Ag (Jf most o x y).1=(Jf most o x y).1:=by
 have l1:=Y1 (most:=most) ho.w hx.w ho.p hx.p ho.r hx.r;have l2:=Y1 (most:=most) ho.w hy.w ho.p hy.p ho.r hy.r;obtain⟨u,u1,u2,_⟩:=w9 1000 _ _ _ _ _ l1 l2 [] iS;have L:=fP (y:=y) ho.w hx.w ho.p hx.p ho.r hx.r most;refine⟨AmD 1000 [] _ _ _ _ _ l1 l2,fun c hc=>?_,oF,?_,?_⟩
 ·have:=AaF 1000 [] _ _ _ c hc;simp at this;omega
 ·show Ay (mg 1000 [] (Ag o) (ZA most o x) (ZA most o y)).1;rw[<-u2];exact BV u u1
 ·show Ag (mg 1000 [] (Ag o) (ZA most o x) (ZA most o y)).1=(mg 1000 [] (Ag o) (ZA most o x) (ZA most o y)).1;rw[<-u2,Dt]
theorem pj(ho:Py o)(hx:Py x)(hy:Py y)(hm:B6 most):G.Spec Tryz.prog 19 [tX o,tX x,tX y,iv most] (.tup [tX (Jf most o x y).1,KY (Jf most o x y).2]):=kL ho.w hx.w hy.w ho.p hx.p hy.p ho.r hx.r hy.r hm
end
theorem oe{o x y:T}(ho:Ay o)(hx:Ay x)(hy:Ay y):G.Spec Tryz.prog 18 [tX o,tX x,tX y] (bv (Gv o&&Gv x&&Gv y)):=by
 have G1:=P4 ho;have G2:=P4 hx;have G3:=P4 hy;refine Aj SQ iS fun w0 I0=>?_;rw[Ao K4.eq_1];simp;refine Ae G1 iS ?_;cases h1:Gv o with
 |false=>
  simp;refine Bx rfl ?_;simp;refine Bx rfl ?_;simp;exact Ad rfl
 |true=>
  simp;refine CE rfl (fun _=>G2) (fun _=>iS) iS ?_;cases h2:Gv x with
  |false=>
   simp;refine Bx rfl ?_;simp;exact Ad rfl
  |true=>
   simp;refine CE rfl (fun _=>G3) (fun _=>iS) iS ?_;simp;exact Ad rfl
theorem Te(w:Int):G.Spec Tryz.prog 33 [uv w] (tX (Cr w)):=by
 refine Aj VJ iS fun w0 I0=>?_;rw[Ao Nh.eq_1];simp;exact Bb ⟨Ad rfl,Ai,Ai,trivial⟩
theorem Hd{w:Int}(h:w≠0):Ag (Cr w)=Cr w:=by
 unfold Cr;rw[DS,if_neg dO,if_pos rfl];simp[DV,h]
theorem jr{a b:Int}(ha:a≠0)(hb:b≠0)(hne:a≠b)(hu:DW a b≠0)(most:Int):ZA most (Cr a) (Cr b)=.mk 2 T0 T0 [ZL 0 a b] [] 0 []:=by
 have he:JE (Cr a) (Cr b)=false:=by
  rw[Bool.eq_false_iff];intro h;rw[eqT_iff,Hd ha,Hd hb]at h;exact hne (by simpa[Cr]using h)
 unfold ZA;rw[Hd ha,Hd hb,show(1000:Nat)=999+1 from rfl,Hu,he];rw[if_neg iS,if_pos (by simp[Cr])];unfold fr;rw[FI];simp[Iw,DD,Cr,hu,List.range_succ]
theorem rL:Jf 9 (Cr 1) (Cr 2) (Cr 3)=(Cr 1,[⟨[(1,0)],Cr 1,Cr 2,Cr 3⟩]):=by
 have u2:DW 1 2=1:=dO
 have u3:DW 1 3=1:=dO
 have d2:=jr (a:=1) (b:=2) dO dO dO (by rw[u2];decide) 9;have d3:=jr (a:=1) (b:=3) dO dO dO (by rw[u3];decide) 9;have c1:Q5 (ZL 0 1 2) (ZL 0 1 3)=true:=dO
 have m2:BI 1 (ZL 0 1 2).new (ZL 0 1 2).mask=2:=dO
 have m3:BI 1 (ZL 0 1 3).new (ZL 0 1 3).mask=3:=dO
 unfold Jf;rw[Hd dO,d2,d3,show(1000:Nat)=999+1 from rfl,mg,if_pos ⟨rfl,rfl⟩];have t1:Cn (Cn (Cr 1).words.length [ZL 0 1 2]) [ZL 0 1 3]=1:=dO
 have w2:C9 [ZL 0 1 2] 0=ZL 0 1 2:=MD rfl;have w3:C9 [ZL 0 1 3] 0=ZL 0 1 3:=MD rfl;unfold gS;simp only[E.words_mk,E.kids_mk,t1];have r1:List.range 1=[0]:=rfl;have k0:B0 (B0 (Cr 1).kids.length []) []=0:=rfl;have r0:List.range 0=[]:=rfl;have o1:(Cr 1).words.getD 0 0=1:=rfl;rw[k0,r0,r1];simp only[List.map_cons,List.map_nil,List.flatMap_cons,List.flatMap_nil,List.append_nil,w2,w3,o1,Jg,Nf,c1,if_true,m2,m3,List.nil_append];rw[Hd dO,Hd dO,Hd dO];rfl
theorem Oc{w:Int}(h0:0<=w)(h1:w<100):Py (Cr w):=by
 refine⟨H9 ⟨oF,oF⟩,by simp[Cr],?_⟩;unfold Cr;rw[Ds];simp[Fg]
theorem Ub:G.Spec Tryz.prog 13 [] (bv true):=by
 have T:=pj (o:=Cr 1) (x:=Cr 2) (y:=Cr 3) (most:=9) (Oc dO dO) (Oc dO dO) (Oc dO dO) (by simp[B6]);rw[rL]at T;have O1:=Te 1;have O2:=Te 2;have O3:=Te 3;have S:=fun w (h0:(0:Int)<=w) (h1:w<100)=>Hg (Cr w) (Oc h0 h1).w (Cr w);have S1:=S 1 dO dO;have S2:=S 2 dO dO;have S3:=S 3 dO dO;rw[show Fs (Cr 1) (Cr 1)=true from sameB_iff.2 rfl]at S1;rw[show Fs (Cr 2) (Cr 2)=true from sameB_iff.2 rfl]at S2;rw[show Fs (Cr 3) (Cr 3)=true from sameB_iff.2 rfl]at S3;refine Aj St iS fun w0 I0=>?_;rw[Ao Lo.eq_1];simp;refine Ae O1 iS ?_;simp;refine Ae O2 iS ?_;simp;refine Ae O3 iS ?_;simp;refine Ae T iS ?_;simp[Aa];refine Ae O1 iS ?_;simp;refine Ae S1 iS ?_;simp;refine CE rfl (fun _=>O2) (fun _=>iS) iS ?_;simp;refine CE rfl (fun _=>S2) (fun _=>iS) iS ?_;simp;refine CE rfl (fun _=>O3) (fun _=>iS) iS ?_;simp;refine CE rfl (fun _=>S3) (fun _=>iS) iS ?_;simp;refine CE rfl (fun _=>O1) (fun _=>iS) iS ?_;simp;refine CE rfl (fun _=>S1) (fun _=>iS) iS ?_;simp;exact Ad rfl
end Go.Proofs.YtlaapfplenlfaaaGreat
namespace Go.Proofs.YtlaapfplenlfaaaGreat
set_option maxRecDepth 20000
open Go Go.G Go.Proofs
@[simp]theorem AnA:Eg Tryz.prog 4=some 1:=by kernel_rfl
@[simp]theorem Alh:Eg Tryz.prog 134=some 17:=by kernel_rfl
@[simp]theorem Akf:Eg Tryz.prog 136=some 35:=by kernel_rfl
@[simp]theorem AmQ:EE Tryz.prog 4=some false:=by kernel_rfl
@[simp]theorem AhZ:EE Tryz.prog 134=some true:=by kernel_rfl
@[simp]theorem AfF:BW Tryz.prog 134=some (Value.agg #[Value.int i64 0,Value.int i64 0,Value.int i64 0,Value.slice none 0 0,Value.slice none 0 0,Value.int i64 0,Value.int i64 0,Value.slice none 0 0,Value.slice none 0 0,Value.int i64 0,Value.slice none 0 0,Value.slice none 0 0,Value.slice none 0 0,Value.slice none 0 0,Value.int i64 0,Value.slice none 0 0,Value.bool false]):=by kernel_rfl
@[simp]theorem AfP:BW Tryz.prog 136=some (Value.agg #[Value.int i64 0,Value.int i64 0,Value.int i64 0,Value.int i64 0,Value.slice none 0 0,Value.slice none 0 0,Value.int i64 0,Value.int i64 0,Value.slice none 0 0,Value.slice none 0 0,Value.int i64 0,Value.slice none 0 0,Value.slice none 0 0,Value.slice none 0 0,Value.slice none 0 0,Value.int i64 0,Value.slice none 0 0,Value.bool false,Value.int i64 0,Value.int i64 0,Value.int i64 0,Value.slice none 0 0,Value.slice none 0 0,Value.int i64 0,Value.int i64 0,Value.slice none 0 0,Value.slice none 0 0,Value.int i64 0,Value.slice none 0 0,Value.slice none 0 0,Value.slice none 0 0,Value.slice none 0 0,Value.int i64 0,Value.slice none 0 0,Value.bool false]):=by kernel_rfl
@[simp]theorem AdO:Ce Tryz.prog 134=some 280:=by kernel_rfl
@[simp]theorem Adv:Ce Tryz.prog 136=some 568:=by kernel_rfl
@[simp]theorem tN:Am Tryz.prog 134 1=some 1:=by kernel_rfl
@[simp]theorem tM:Am Tryz.prog 134 2=some 2:=by kernel_rfl
@[simp]theorem tJ:Am Tryz.prog 134 3=some 5:=by kernel_rfl
@[simp]theorem uj:Am Tryz.prog 134 4=some 16:=by kernel_rfl
@[simp]theorem tS:Am Tryz.prog 136 0=some 0:=by kernel_rfl
@[simp]theorem tI:Am Tryz.prog 136 1=some 1:=by kernel_rfl
@[simp]theorem uu:Am Tryz.prog 136 2=some 18:=by kernel_rfl
@[simp]theorem Ad1(ps:List (Nat × A)):CY Tryz.prog 134 ps=(DI (fun i=>([(0,1),(1,1),(2,3),(5,11),(16,1)]:List (Nat × Nat))[i]?) [iv 0,iv 0,iv 0,A.sl true [],A.sl true [],iv 0,iv 0,A.sl true [],A.sl true [],iv 0,A.sl true [],A.sl true [],A.sl true [],A.sl true [],iv 0,A.sl true [],A.v (Value.bool false)] ps).map A.agg:=by kernel_rfl
@[simp]theorem AdE(ps:List (Nat × A)):CY Tryz.prog 136 ps=(DI (fun i=>([(0,1),(1,17),(18,17)]:List (Nat × Nat))[i]?) [iv 0,iv 0,iv 0,iv 0,A.sl true [],A.sl true [],iv 0,iv 0,A.sl true [],A.sl true [],iv 0,A.sl true [],A.sl true [],A.sl true [],A.sl true [],iv 0,A.sl true [],A.v (Value.bool false),iv 0,iv 0,iv 0,A.sl true [],A.sl true [],iv 0,iv 0,A.sl true [],A.sl true [],iv 0,A.sl true [],A.sl true [],A.sl true [],A.sl true [],iv 0,A.sl true [],A.v (Value.bool false)] ps).map A.agg:=by kernel_rfl
def EV:CC:=Bh (cG Tryz.f100 19019 [[0,1,5,6,7,8,28],[995],[999,28],[5001],[]])
def ET:CC:=Bh (cG Tryz.f100 38475 [[0,1,5,6,7,9,40],[995],[999,40],[16002],[]])
def EU:CC:=gR (cG Tryz.f100 75 [[0,1,5,6,13],[995],[999,13],[7,5000],[8],[996],[999,8],[9],[996],[999,9],[61],[7,61,7003],[999],[]]) EV ET
def Lj:CC:=CV (cG Tryz.f100 1 [[0,1],[5],[6],[996],[999,0,1,6],[4,5]]) EU
theorem R8:Bs Tryz.prog 100 70 [(.tmp 4)] Lj:=Aq Tryz.func100
def Cg:CC:=Bh (cG Tryz.f99 71 [[0,1,6,7,8,18],[995],[999,18],[29],[29,8000],[],[995],[999],[50],[50,8001],[],[995],[999],[70],[0,1,4,5,6,7,8,70],[995],[999,0,1,4,5,6,7,8],[12002],[],[]])
def LY:CC:=CV (cG Tryz.f99 1 [[0,1],[6],[7,8],[996],[999,0,1,7,8],[4,5,6]]) Cg
theorem SP:Bs Tryz.prog 99 88 [(.tmp 4),(.tmp 5)] LY:=Aq Tryz.func99
def DA:CC:=Bh (cG Tryz.f101 71 [[0,7,8,9,22],[995],[999,22],[28],[28,9000],[9001],[999],[]])
def Np:CC:=CV (cG Tryz.f101 1 [[0,1],[7,8],[1,9],[996],[999,0],[4,5,6,7,8,9]]) DA
theorem VU:Bs Tryz.prog 101 52 [(.tmp 4),(.tmp 5),(.tmp 6)] Np:=Aq Tryz.func101
def Dy:CC:=Bh (cG Tryz.f135 75 [[0,1,5,14],[995],[999,14],[26],[0,1,4,5,26],[995],[999,0,1,4,5],[]])
def II:CC:=CV (cG Tryz.f135 1 [[0,1],[10],[0,1,4,10],[995],[999,0,1,4],[5],[996],[999,0,1,5],[4]]) Dy
theorem Od:Bs Tryz.prog 135 27 [(.tmp 4)] II:=Aq Tryz.func135
def OL:CC:=Bh (cG Tryz.f96 1 [[0,1,2],[7],[0,3000],[1,2,6,7,6001]])
theorem Xj:Bs Tryz.prog 96 17 [(.tmp 6)] OL:=Aq Tryz.func96
def K7:CC:=Bh (cG Tryz.f65 1 [[0,5,6,7,1000,2001,3002],[0,5,6,7,8]])
theorem SE:Bs Tryz.prog 65 18 [(.tmp 8)] K7:=Aq Tryz.func65
def Fa:CC:=Bh (cG Tryz.f102 1 [[0,1,2,3,4],[19],[0,1,2,3,4,10,11,19],[995],[999,0,1,2,3,4,10,11],[23],[0,1,2,3,4,10,11,23],[995],[999,0,1,2,3,4,10,11],[0,1,2,3,4,10,11]])
theorem HD:Bs Tryz.prog 102 37 [(.tmp 10),(.tmp 11)] Fa:=Aq Tryz.func102
def NF:CC:=Bh (cG Tryz.f97 1 [[0,2,1000],[0]])
theorem Vv:Bs Tryz.prog 97 6 [(.cell 2 25)] NF:=Aq Tryz.func97
def DL:CC:=Bh (cG Tryz.f95 37 [[0,1,4,5,9],[995],[999,9],[18],[0,1,5,18],[995],[999,0,1,5],[]])
def Jm:CC:=CV (cG Tryz.f95 1 [[0,1,4,1000],[5],[996],[999,0,1,5],[]]) DL
theorem O5:Bs Tryz.prog 95 24 [(.cell 4 85)] Jm:=Aq Tryz.func95
def Ea:CC:=Bh (cG Tryz.f98 37 [[0,1,4,5,9],[995],[999,9],[18],[0,1,5,18],[995],[999,0,1,5],[]])
def Kb:CC:=CV (cG Tryz.f98 1 [[0,1,4,1000],[5],[996],[999,0,1,5],[]]) Ea
theorem PY:Bs Tryz.prog 98 25 [(.cell 4 30)] Kb:=Aq Tryz.func98
def F3:CC:=Bh (cG Tryz.f94 75 [[4,5,8,9,10,28],[995],[999,28],[],[35],[11,35],[],[999],[54],[11,54],[999],[]])
def FT:CC:=Bh (cG Tryz.f94 151 [[4,5,8,9,12,65],[995],[999,65],[],[72],[13,72],[],[999],[91],[13,91],[999],[]])
def Mr:CC:=gR (cG Tryz.f94 1 [[3,4,5,1000,2001,3002],[3,8,9],[10],[996],[999,10],[12],[996],[999,4,5,12],[6,7,8,9]]) F3 FT
theorem TP:Bs Tryz.prog 94 96 [(.tmp 6),(.tmp 7)] Mr:=Aq Tryz.func94
def BE:CC:=Bh (cG Tryz.f103 1 [[0,5,6,7,1000,2001,3002],[23],[0,5,6,7,10,11,23,11003],[8,9,10,11],[995],[999,0,5,6,7,8,9],[39],[6,7,12,39,8004],[0,5,8,9,12],[995],[999,0,5,7,8,9],[56],[7,14,56,8005],[0,5,8,9,14],[995],[999,8,9],[8,9]])
theorem B5:Bs Tryz.prog 103 71 [(.tmp 8),(.tmp 9)] BE:=Aq Tryz.func103
def Gn:CC:=Bh (cG Tryz.f63 14639 [[0,5,6,7,8,10,11,12,13,14,15,16,17,9005,10006],[18,19],[20],[16,20,81],[17,18,19,81,12007],[],[999],[15,5008]])
def D8:CC:=CV (cG Tryz.f63 303 [[0,5,6,7,8,10,11,12,13,14,35],[995],[999,35],[15],[42],[42],[999],[994],[999,15],[]]) Gn
def Gw:CC:=Bh (cG Tryz.f63 29279 [[0,5,6,7,8,10,11,13,21,23,24,17010],[23,5011],[24,3012]])
def D7:CC:=CV (cG Tryz.f63 607 [[0,5,6,7,8,10,11,13,21,107],[995],[999,107],[22,2009],[115],[115],[999],[994],[999,22],[]]) Gw
def JY:CC:=gR (cG Tryz.f63 1 [[0,5,6,7,8,1000,2001,3002,4003],[10,2004],[11],[12,13],[14],[996],[999,12,14],[21],[996],[999,0,5,6,7,13,21],[9,10,11]]) D8 D7
theorem PW:Bs Tryz.prog 63 148 [(.cell 8 25),(.tmp 9)] JY:=Aq Tryz.func63
def DE:CC:=Bh (cG Tryz.f64 607 [[0,5,8,10,12,13,14,15,39],[995],[999,39],[15,16,17,18],[16,17,19,20],[19,4005],[20,3006],[15,18],[71],[21,22,71],[21,4007],[22,3008],[],[999],[]])
def Ll:CC:=CV (cG Tryz.f64 1 [[0,5,6,7,8,1000,2001,3002,4003],[6,7,10],[12,4004],[13],[14],[15],[996],[999,0,5,10,14,15],[9,12,13]]) DE
theorem Sm:Bs Tryz.prog 64 106 [(.cell 8 25),(.tmp 9)] Ll:=Aq Tryz.func64
def CJ:CC:=Bh (cG Tryz.f37 1 [[0,5,6,7,8,1000,2001,3002,4003],[10,7004],[12,7005],[26],[0,5,6,7,9,10,12,26],[0,5,6,7,9,10,12,31],[0,5,6,7,9,10,12,31],[0,5,6,7,9,10,12,36],[0,5,6,7,9,10,12,36],[0,5,6,7,9,10,12,52],[0,5,6,7,9,10,12,52],[0,5,9,10,12,68],[0,5,9,10,12,68],[995],[999,0,5,9,10,12],[0,5,9,10,12]])
theorem Dx:Bs Tryz.prog 37 79 [(.cell 8 25),(.tmp 9)] CJ:=Aq Tryz.func37
def LH:CC:=Bh (cG Tryz.f15 1 [[3,4,5,6,1000,2001,3002,4003],[10,7004],[12,7005],[10,12,32],[3,4,5,7,8,32],[995],[999,3,4,5,7,8],[3,4,5,13,14,8006],[7,8,13,14]])
theorem S5:Bs Tryz.prog 15 44 [(.cell 6 25),(.tmp 7),(.tmp 8)] LH:=Aq Tryz.func15
def Lk:CC:=Bh (cG Tryz.f20 1 [[3,4,5,6,8,1000,2001,3002,4003],[3,4,5,6,10,11,16004],[9,10,11]])
theorem SM:Bs Tryz.prog 20 30 [(.cell 8 25),(.tmp 9)] Lk:=Aq Tryz.func20
def Io:CC:=Bh (cG Tryz.f4 1 [[3,4,5,6,1000,2001,3002],[17],[3,4,5,6,8,17],[995],[999,3,4,5,6,8],[9,10,9003],[3,4,5,6,11,12,9004],[8,9,10,11,12]])
theorem NS:Bs Tryz.prog 4 46 [(.tmp 8)] Io:=Aq Tryz.func4
end Go.Proofs.YtlaapfplenlfaaaGreat
namespace Go.Proofs.YtlaapfplenlfaaaGreat
open Go Go.G Go.Proofs Go.PL
theorem U0(l:DQ)(k n:Int)(h:l.length<=1000000):G.Spec Tryz.prog 96 [BL l,iv k,iv n] (BL (l++[(k,n)])):=by
 refine Aj Xj iS fun w0 I0=>?_;rw[Ao OL.eq_1];simp;refine⟨oF,oF,?_⟩;rw[Ax iS];exact AQ (f:=Rl) (l:=l++[(k,n)]) (by simp[Rl]) iS (fun x=>by rw[Td];rfl)
theorem Px(w:Int):G.Spec Tryz.prog 97 [uv w] (tX (Cr w)):=by
 refine Aj Vv iS fun w0 I0=>?_;rw[Ao NF.eq_1];simp;exact Bb ⟨Ad rfl,Ai,Ai,trivial⟩
theorem J8{l:DQ}{b o t:T}(wb:Ay b)(wo:Ay o)(wt:Ay t):G.Spec Tryz.prog 65 [BL l,tX b,tX o,tX t] (KY [⟨l,Ag b,Ag o,Ag t⟩]):=by
 refine Aj SE iS fun w0 I0=>?_;rw[Ao K7.eq_1];simp;refine Ae (CP b wb) rfl ?_;simp;refine Ae (CP o wo) rfl ?_;simp;refine Ae (CP t wt) rfl ?_;simp;have e:KY [⟨l,Ag b,Ag o,Ag t⟩]=.sl false [.agg [BL l,iv b.kind,C7 (Ag b).words,AV (Ag b).kids,iv o.kind,C7 (Ag o).words,AV (Ag o).kids,iv t.kind,C7 (Ag t).words,AV (Ag t).kids]]:=by simp[aV]
 rw[e];exact Ai
variable {n0:Nat} {w0:World} {I0:Nat->Prop} {Q:Exit->Sta->Prop}
theorem AbF{ks:List KE}(hl:ks.length<=10000000000000){n:Nat}
  (hq:∀(H':Hp)(st:List (Nat × A)),H' [0]=⟨1,.cells (AY)⟩->ks.find? (fun k=>decide (k.at_=(n:Int)))=none->Q (.exit 0) ⟨lk ([(0,Ry ks),(1,iv n),(4,.pob [0] 1 0)]++st),H'⟩)
  (hr:∀(H':Hp)(x:KE),ks.find? (fun k=>decide (k.at_=(n:Int)))=some x->H' [0]=⟨1,.cells (eL x.e)⟩->Q .ret ⟨lk [(4,.pob [0] 1 0)],H'⟩) :
  ∀(j i:Nat)(H:Hp),i+j=ks.length->ks.find? (fun k=>decide (k.at_=(n:Int)))=(ks.drop i).find? (fun k=>decide (k.at_=(n:Int)))->H [0]=⟨1,.cells AY⟩ ->
  LoopC (cx Tryz.prog w0 I0 n0) Ea Q ⟨lk [(0,Ry ks),(1,iv n),(4,.pob [0] 1 0),(5,iv i)],H⟩:=by
 intro j;induction j with
 |zero=>
  intro i H hj hf h0;have:i=ks.length:=oF
  subst this;rw[List.drop_length]at hf;refine Ab Ah (Ao Ea.eq_1) ?_;simp;have:=hq H [(5,iv ks.length),(9,bv false)] h0 hf;simpa using this
 |succ j ih=>
  intro i H hj hf h0;have hlt:i<ks.length:=oF
  have ew:=Ap i;have hd:ks.drop i=ks[i]::ks.drop (i+1):=(List.getElem_cons_drop hlt).symm;have next:=ih (i+1)
  rw[hd,List.find?_cons]at hf;generalize hx:ks[i]=x at *;refine Ab Ah (Ao Ea.eq_1) ?_;by_cases c:x.at_=(n:Int)
  ·rw[decide_eq_true c]at hf;simp[hlt,hx,Aa,c,h0,AY];exact hr _ x hf (by simp[Aa])
  ·rw[decide_eq_false c]at hf;simp[hlt,hx,Aa,c];rw[ew];exact next _ oF hf (by simp[Aa,h0])
theorem yC{ks:List WE}(hl:ks.length<=10000000000000){n:Nat}
  (hq:∀(H':Hp)(st:List (Nat × A)),H' [0]=⟨1,.cells [iv 0,u8 0,uv 0,uv 0]⟩->ks.find? (fun k=>decide (k.at_=(n:Int)))=none->Q (.exit 0) ⟨lk ([(0,QX ks),(1,iv n),(4,.pob [0] 1 0)]++st),H'⟩)
  (hr:∀(H':Hp)(x:WE),ks.find? (fun k=>decide (k.at_=(n:Int)))=some x->H' [0]=⟨1,.cells [iv x.at_,u8 x.mask,uv x.old,uv x.new]⟩->Q .ret ⟨lk [(4,.pob [0] 1 0)],H'⟩) :
  ∀(j i:Nat)(H:Hp),i+j=ks.length->ks.find? (fun k=>decide (k.at_=(n:Int)))=(ks.drop i).find? (fun k=>decide (k.at_=(n:Int)))->H [0]=⟨1,.cells [iv 0,u8 0,uv 0,uv 0]⟩ ->
  LoopC (cx Tryz.prog w0 I0 n0) DL Q ⟨lk [(0,QX ks),(1,iv n),(4,.pob [0] 1 0),(5,iv i)],H⟩:=by
 intro j;induction j with
 |zero=>
  intro i H hj hf h0;have:i=ks.length:=oF
  subst this;rw[List.drop_length]at hf;refine Ab Ah (Ao DL.eq_1) ?_;simp;have:=hq H [(5,iv ks.length),(9,bv false)] h0 hf;simpa using this
 |succ j ih=>
  intro i H hj hf h0;have hlt:i<ks.length:=oF
  have ew:=Ap i;have hd:ks.drop i=ks[i]::ks.drop (i+1):=(List.getElem_cons_drop hlt).symm;have next:=ih (i+1)
  rw[hd,List.find?_cons]at hf;generalize hx:ks[i]=x at *;refine Ab Ah (Ao DL.eq_1) ?_;by_cases c:x.at_=(n:Int)
  ·rw[decide_eq_true c]at hf;simp[hlt,hx,Aa,c,h0];exact hr _ x hf (by simp[Aa,c])
  ·rw[decide_eq_false c]at hf;simp[hlt,hx,Aa,c];rw[ew];exact next _ oF hf (by simp[Aa,h0])
theorem ZE(ks:List KE)(hl:ks.length<=10000000000000)(n:Nat):G.Spec Tryz.prog 98 [Ry ks,iv n] (eX (Eh ks n)):=by
 refine Aj PY iS fun w0 I0=>?_;rw[BG Kb.eq_1];simp;refine LoopC.le (Al [(0,Ry ks),(1,iv n),(4,.pob [0] 1 0),(5,iv (0:Nat))] iS) ?_;refine AbF (n:=n) hl (fun H' st h0 hf=>?_) (fun H' x hf h0=>?_) ks.length 0 _ oF iS (by simp[AY])
 ·have:Eh ks n=E0:=by unfold Eh;rw[hf];rfl
  rw[this];simp[h0,AY,Aa];exact Bb (YZ _)
 ·have:Eh ks n=x.e:=by unfold Eh;rw[hf];rfl
  rw[this];simp[h0];exact Ad iS
theorem Wg(ks:List WE)(hl:ks.length<=10000000000000)(n:Nat):G.Spec Tryz.prog 95 [QX ks,iv n] (wX (C9 ks n)):=by
 refine Aj O5 iS fun w0 I0=>?_;rw[BG Jm.eq_1];simp;refine LoopC.le (Al [(0,QX ks),(1,iv n),(4,.pob [0] 1 0),(5,iv (0:Nat))] iS) ?_;refine yC (n:=n) hl (fun H' st h0 hf=>?_) (fun H' x hf h0=>?_) ks.length 0 _ oF iS iS
 ·have:C9 ks n=⟨0,0,0,0⟩:=by unfold C9;rw[hf];rfl
  rw[this];simp[h0,Aa];exact Ad iS
 ·have:C9 ks n=x:=by unfold C9;rw[hf];rfl
  rw[this];simp[h0];exact Ad iS
theorem jn(n:Nat)(a b:List WE):Cn n (a++b)=Cn (Cn n a) b:=by simp[Cn,List.foldl_append]
theorem wU(n:Nat)(x:WE):Cn n [x]=max n (x.at_+1).toNat:=rfl
theorem iJ(n:Nat)(a b:List KE):B0 n (a++b)=B0 (B0 n a) b:=by simp[B0,List.foldl_append]
theorem yv(n:Nat)(x:KE):B0 n [x]=max n (x.at_+1).toNat:=rfl
theorem Aa0{p q:E}{n:Nat}{m:Int}(la:p.words.length<=1000000)(lb:q.words.length<=1000000)(ap:∀k,k∈p.words++q.words->0<=k.at_/\k.at_<=900000){H:Hp}(h1:H [1]=⟨1,.cells (eL p)⟩)(h2:H [2]=⟨1,.cells (eL q)⟩)
  (hq:∀st,Q (.exit 0) ⟨lk ([(4,.pob [1] 1 0),(5,.pob [2] 1 0),(8,iv (Cn n (p.words++q.words))),(9,iv m)]++st),H⟩):∀(j i:Nat),i+j=(p.words++q.words).length ->
  LoopC (cx Tryz.prog w0 I0 n0) F3 Q ⟨lk [(4,.pob [1] 1 0),(5,.pob [2] 1 0),(8,iv (Cn n ((p.words++q.words).take i))),(9,iv m),(10,iv i)],H⟩:=by
 have ea:i64.wrap ((p.words.length:Int)+q.words.length)=((p.words++q.words).length:Nat):=by rw[AJ oF oF];simp
 have hll:(p.words++q.words).length=p.words.length+q.words.length:=iS
 intro j;induction j with
 |zero=>
  intro i hj;have:i=(p.words++q.words).length:=oF
  subst this;rw[Ax (Cq _)];have:=hq [(10,iv (p.words++q.words).length),(28,bv false)];refine Ab Ah (Ao F3.eq_1) ?_;simp[h1,h2,ea];simpa using this
 |succ j ih=>
  intro i hj;have hlt:i<(p.words++q.words).length:=oF
  have ew:=Ap i;have next:=ih (i+1) oF
  have hat:=ap _ (Bv hlt);rw[HJ hlt,jn,wU]at next
  refine Ab Ah (Ao F3.eq_1) ?_;generalize Cn n ((p.words++q.words).take i)=t at *;by_cases hi:i<p.words.length
  ·rw[List.getElem_append_left hi]at next hat
   generalize hx:p.words[i]=x at *;have ex:i64.wrap (x.at_+1)=x.at_+1:=CX;simp only[List.length_append]at hlt ea;have hlz:(i:Int)<p.words.length+q.words.length:=oF
   by_cases hc:(t:Int)<=x.at_
   ·have em:max t (x.at_+1).toNat=(x.at_+1).toNat:=oF
    rw[em,show(((x.at_+1).toNat:Nat):Int)=x.at_+1 from oF]at next
    simp[h1,h2,ea,hlz,hi,hx,hc,ex,ew];exact next
   ·have em:max t (x.at_+1).toNat=t:=oF
    rw[em]at next
    simp[h1,h2,ea,hlz,hi,hx,hc,ew];exact next
  ·rw[List.getElem_append_right oF]at next hat
   have h9:i-p.words.length<q.words.length:=oF
   have e9:i64.wrap ((i:Int)-p.words.length)=((i-p.words.length:Nat):Int):=AU;generalize hx:q.words[i-p.words.length]=x at *;have ex:i64.wrap (x.at_+1)=x.at_+1:=CX;simp only[List.length_append]at hlt ea;have hlz:(i:Int)<p.words.length+q.words.length:=oF
   by_cases hc:(t:Int)<=x.at_
   ·have em:max t (x.at_+1).toNat=(x.at_+1).toNat:=oF
    rw[em,show(((x.at_+1).toNat:Nat):Int)=x.at_+1 from oF]at next
    simp[h1,h2,ea,hlz,hi,h9,e9,hx,hc,ex,ew];exact next
   ·have em:max t (x.at_+1).toNat=t:=oF
    rw[em]at next
    simp[h1,h2,ea,hlz,hi,h9,e9,hx,hc,ew];exact next
theorem zX{p q:E}{n m:Nat}(la:p.kids.length<=1000000)(lb:q.kids.length<=1000000)(ap:∀k,k∈p.kids++q.kids->0<=k.at_/\k.at_<=900000){H:Hp}(h1:H [1]=⟨1,.cells (eL p)⟩)(h2:H [2]=⟨1,.cells (eL q)⟩)
  (hq:∀st,Q (.exit 2) ⟨lk ([(4,.pob [1] 1 0),(5,.pob [2] 1 0),(8,iv m),(9,iv (B0 n (p.kids++q.kids)))]++st),H⟩):∀(j i:Nat),i+j=(p.kids++q.kids).length ->
  LoopC (cx Tryz.prog w0 I0 n0) FT Q ⟨lk [(4,.pob [1] 1 0),(5,.pob [2] 1 0),(8,iv m),(9,iv (B0 n ((p.kids++q.kids).take i))),(12,iv i)],H⟩:=by
 have ea:i64.wrap ((p.kids.length:Int)+q.kids.length)=((p.kids++q.kids).length:Nat):=by rw[AJ oF oF];simp
 have hll:(p.kids++q.kids).length=p.kids.length+q.kids.length:=iS
 intro j;induction j with
 |zero=>
  intro i hj;have:i=(p.kids++q.kids).length:=oF
  subst this;rw[Ax (Cq _)];have:=hq [(12,iv (p.kids++q.kids).length),(65,bv false)];refine Ab Ah (Ao FT.eq_1) ?_;simp[h1,h2,ea];simpa using this
 |succ j ih=>
  intro i hj;have hlt:i<(p.kids++q.kids).length:=oF
  have ew:=Ap i;have next:=ih (i+1) oF
  have hat:=ap _ (Bv hlt);rw[HJ hlt,iJ,yv]at next
  refine Ab Ah (Ao FT.eq_1) ?_;generalize B0 n ((p.kids++q.kids).take i)=t at *;by_cases hi:i<p.kids.length
  ·rw[List.getElem_append_left hi]at next hat
   generalize hx:p.kids[i]=x at *;have ex:i64.wrap (x.at_+1)=x.at_+1:=CX;simp only[List.length_append]at hlt ea;have hlz:(i:Int)<p.kids.length+q.kids.length:=oF
   by_cases hc:(t:Int)<=x.at_
   ·have em:max t (x.at_+1).toNat=(x.at_+1).toNat:=oF
    rw[em,show(((x.at_+1).toNat:Nat):Int)=x.at_+1 from oF]at next
    simp[h1,h2,ea,hlz,hi,hx,hc,ex,ew];exact next
   ·have em:max t (x.at_+1).toNat=t:=oF
    rw[em]at next
    simp[h1,h2,ea,hlz,hi,hx,hc,ew];exact next
  ·rw[List.getElem_append_right oF]at next hat
   have h9:i-p.kids.length<q.kids.length:=oF
   have e9:i64.wrap ((i:Int)-p.kids.length)=((i-p.kids.length:Nat):Int):=AU;generalize hx:q.kids[i-p.kids.length]=x at *;have ex:i64.wrap (x.at_+1)=x.at_+1:=CX;simp only[List.length_append]at hlt ea;have hlz:(i:Int)<p.kids.length+q.kids.length:=oF
   by_cases hc:(t:Int)<=x.at_
   ·have em:max t (x.at_+1).toNat=(x.at_+1).toNat:=oF
    rw[em,show(((x.at_+1).toNat:Nat):Int)=x.at_+1 from oF]at next
    simp[h1,h2,ea,hlz,hi,h9,e9,hx,hc,ex,ew];exact next
   ·have em:max t (x.at_+1).toNat=t:=oF
    rw[em]at next
    simp[h1,h2,ea,hlz,hi,h9,e9,hx,hc,ew];exact next
theorem oQ{o:T}{p q:E}(lo:o.words.length*8<=140737488355328)(lp:p.words.length<=1000000)(lq:q.words.length<=1000000)(kp:p.kids.length<=1000000)(kq:q.kids.length<=1000000)(aw:∀k,k∈p.words++q.words->0<=k.at_/\k.at_<=900000)(ak:∀k,k∈p.kids++q.kids->0<=k.at_/\k.at_<=900000) :
  G.Spec Tryz.prog 94 [tX o,eX p,eX q] (.tup [iv (Cn (Cn o.words.length p.words) q.words),iv (B0 (B0 o.kids.length p.kids) q.kids)]):=by
 refine Aj TP iS fun w0 I0=>?_;rw[gm Mr.eq_1];simp;refine LoopC.le (Al [(4,.pob [1] 1 0),(5,.pob [2] 1 0),(8,iv (Cn o.words.length ((p.words++q.words).take 0))),(9,iv o.kids.length),(10,iv (0:Nat))] (by simp[Cn])) ?_;refine Aa0 (n:=o.words.length) lp lq aw iS iS (fun st=>?_) _ 0 (Nat.zero_add _);simp;refine LoopC.le (Al [(4,.pob [1] 1 0),(5,.pob [2] 1 0),(8,iv (Cn o.words.length (p.words++q.words))),(9,iv (B0 o.kids.length ((p.kids++q.kids).take 0))),(12,iv (0:Nat))] (by simp[B0])) ?_;refine zX (n:=o.kids.length) kp kq ak iS iS (fun st=>?_) _ 0 (Nat.zero_add _);simp[jn,iJ];exact AM ⟨Ad rfl,Ad rfl,trivial⟩
theorem Uq(l:DQ):A.softL (l.map Rl)=l.map Rl:=by
 rw[BK,List.map_map];rfl
theorem xZ{a b:List T}(ha:∀t,t∈a->Ay t)(hb:∀t,t∈b->Ay t)(hl:a.length=b.length)(hle:a.length<=10000000000000)
  (hq:(a.zip b).all (fun p=>JE p.1 p.2)=true->∀st,Q (.exit 0) ⟨lk ([(0,AV a),(1,AV b)]++st),fun _=>⟨0,.none⟩⟩) (hr:(a.zip b).all (fun p=>JE p.1 p.2)=false->Q .ret ⟨lk [(4,bv false)],fun _=>⟨0,.none⟩⟩) :
  ∀(j i:Nat),i+j=a.length->(a.zip b).all (fun p=>JE p.1 p.2)=((a.drop i).zip (b.drop i)).all (fun p=>JE p.1 p.2) ->
  LoopC (cx Tryz.prog w0 I0 n0) Dy Q ⟨lk [(0,AV a),(1,AV b),(5,iv i)],fun _=>⟨0,.none⟩⟩:=by
 intro j;induction j with
 |zero=>
  intro i hj he;have:i=a.length:=oF
  subst this;rw[List.drop_length]at he;have:=hq (by rw[he];rfl) [(5,iv a.length),(14,bv false)];refine Ab Ah (Ao Dy.eq_1) ?_;simp;simpa using this
 |succ j ih=>
  intro i hj he;have hlt:i<a.length:=oF
  have hlt2:i<b.length:=oF
  have ew:=Ap i;rw[<-List.getElem_cons_drop hlt,<-List.getElem_cons_drop hlt2,List.zip_cons_cons,List.all_cons]at he;have E:=It (ha _ (Bv hlt)) (hb _ (Bv hlt2)) (BV _ (ha _ (Bv hlt)));have next:=ih (i+1) oF
  generalize hx:a[i]=x at *;generalize hy:b[i]=y at *;refine Ab Ah (Ao Dy.eq_1) ?_;simp[hlt,hlt2,hx,hy];refine Ae E iS ?_;cases c:JE x y with
  |false=>
   simp only[c,Bool.false_and]at he;simp;exact hr he
  |true=>
   simp only[c,Bool.true_and]at he;simp[ew];exact next he
theorem YB{a b:List T}(ha:∀t,t∈a->Ay t)(hb:∀t,t∈b->Ay t)(hle:a.length<=10000000000000):G.Spec Tryz.prog 135 [AV a,AV b] (bv (Nv a b)):=by
 refine Aj Od iS fun w0 I0=>?_;rw[BG II.eq_1];by_cases hl:a.length=b.length
 ·have e:Nv a b=(a.zip b).all fun p=>JE p.1 p.2:=by unfold Nv;rw[decide_eq_true hl];rfl
  rw[e];simp[hl];refine LoopC.le (Al [(0,AV a),(1,AV b),(5,iv (0:Nat))] iS) ?_;refine xZ ha hb hl hle (fun h st=>?_) (fun h=>?_) a.length 0 oF iS
  ·rw[h];simp;exact Ad rfl
  ·rw[h];simp;exact Ad rfl
 ·have e:Nv a b=false:=by unfold Nv;rw[decide_eq_false hl];rfl
  rw[e];have hz:¬((a.length:Int)=b.length):=oF
  simp[hz];exact Ad rfl
theorem cb{at':DQ}(hat:at'.length<=1000000){kind:Int}(hk:B6 kind){n:Nat}{a b:List T}(ha:∀t,t∈a->Ay t)(hb:∀t,t∈b->Ay t)(la:a.length<=1000000)(lb:b.length<=1000000) :
  ∃l:List T,l.map Ag=(Gb at' kind n a b).1/\(∀t,t∈l->Ay t)/\l.length<=1000000/\G.Spec Tryz.prog 102 [BL at',iv kind,iv n,AV a,AV b] (.tup [AV l,KY (Gb at' kind n a b).2]):=by
 have S:=YB ha hb oF;by_cases a0:a=[]
 ·subst a0;have e:Gb at' kind n [] b=(b.map Ag,[]):=if_pos (.inl rfl);refine⟨b,by rw[e],hb,lb,?_⟩;rw[e];refine Aj HD iS fun w0 I0=>?_;rw[Ao Fa.eq_1];simp;refine DC (q:=true) rfl (fun h=>by cases h) (fun h=>by cases h) (L:=[]) (x:=.any) rfl ?_;simp;exact AM ⟨Ai,Ai,trivial⟩
 have la0:0<a.length:=List.length_pos_iff.2 a0;by_cases sm:a.map Ag=b.map Ag
 ·have e:Gb at' kind n a b=(b.map Ag,[]):=if_pos (.inr sm);rw[eqLs_iff.2 sm]at S;refine⟨b,by rw[e],hb,lb,?_⟩;rw[e];refine Aj HD iS fun w0 I0=>?_;rw[Ao Fa.eq_1];simp[a0];refine DC rfl (fun _=>S) (fun _=>iS) iS ?_;simp;exact AM ⟨Ai,Ai,trivial⟩
 have sf:Nv a b=false:=by
  cases h:Nv a b with
  |false=>rfl
  |true=>exact absurd (eqLs_iff.1 h) sm
 rw[sf]at S;by_cases b0:b=[]
 ·subst b0;have e:Gb at' kind n a []=(a.map Ag,[]):=by unfold Gb;rw[if_neg (by simp[a0]),if_pos rfl]
  refine⟨a,by rw[e],ha,la,?_⟩;rw[e];refine Aj HD iS fun w0 I0=>?_;rw[Ao Fa.eq_1];simp[a0];refine DC rfl (fun _=>S) (fun _=>iS) iS ?_;simp[a0];exact AM ⟨Ai,Ai,trivial⟩
 have e:Gb at' kind n a b=([],[⟨at'++[(2,(n:Int))],Ag (.mk kind [] []),Ag (.mk kind [] a),Ag (.mk kind [] b)⟩]):=by unfold Gb;rw[if_neg (by simp[a0,sm]),if_neg b0]
 refine⟨[],by rw[e];rfl,fun t ht=>by simp at ht,iS,?_⟩;rw[e];have w:∀l:List T,(∀t,t∈l->Ay t)->l.length<=1000000->Ay (.mk kind [] l):=fun l h1 h2=>wfT_iff.2 ⟨hk,iS,iS,by show l.length*56<=_;omega,h1⟩;have AT:=U0 at' 2 n hat;have C:G.Spec Tryz.prog 65 [BL (at'++[(2,(n:Int))]),.agg [iv kind,.sl true [],.sl true []],.agg [iv kind,.sl true [],AV a],.agg [iv kind,.sl true [],AV b]] (KY [⟨at'++[(2,(n:Int))],Ag (.mk kind [] []),Ag (.mk kind [] a),Ag (.mk kind [] b)⟩]):=
  (J8 (l:=at'++[(2,(n:Int))]) (w [] (fun t ht=>by simp at ht) iS) (w a ha la) (w b hb lb)).soft (by rw[BL];simp only[A.softL,A.soft,KL,Hf,Uq,List.map_nil];rfl)
 refine Aj HD iS fun w0 I0=>?_;rw[Ao Fa.eq_1];simp[a0];refine DC rfl (fun _=>S) (fun _=>iS) iS ?_;simp[b0];refine Ae AT iS ?_;simp;refine Ae C iS ?_;simp;exact AM ⟨Ai,Ai,trivial⟩
abbrev UI:=Nat × U
def kU:U->Int
 |.keep=>0
 |.del _=>1
 |.ins _=>2
 |.desc _=>3
def uT:U->List A
 |.del t=>[iv t.kind,C7 t.words,AV t.kids]
 |.ins t=>[iv t.kind,C7 t.words,AV t.kids]
 |_=>[iv 0,.sl true [],.sl true []]
def uE:U->List A
 |.desc e=>eL e
 |_=>AY
def Rc:U->Bool
 |.ins _=>true
 |_=>false
def uC(x:UI):List A:=iv x.1::iv (kU x.2)::(uT x.2++(uE x.2++[bv (Rc x.2)]))
def uA(x:UI):A:=.agg (uC x)
@[simp]theorem AjR(x:UI):(uA x).cells=uC x:=rfl
@[simp]theorem Ad2(x:UI):(uC x).length=17:=by obtain⟨i,u⟩:=x;cases u<;>simp[uC,uT,uE,AY]
abbrev uis(l:List UI):A:=.sl false (l.map uA)
theorem Xv(x:UI):((uA x).cells.length == 17&&(uA x).cells.all fun y=>A.bare1 y&&y.one)=true:=by obtain⟨i,u⟩:=x;cases u<;>simp[uC,uT,uE,AY]
def QL:Nat->List OP->List UI
 |_,[]=>[]
 |i,o::os=>(Nk o).map (fun u=>(i,u))++QL (i+1) os
theorem Q3:∀(os:List OP)(i:Nat),(QL i os).map Prod.snd=Gs os
 |[],_=>rfl
 |o::os,i=>by
  rw[QL,List.map_append,Q3 os,List.map_map];show(Nk o).map (Prod.snd ∘ fun u=>(i,u))++Gs os=Nk o++Gs os;congr 1;exact List.map_id'' (fun u=>rfl) _
theorem T7(os:List OP)(i:Nat):(QL i os).length=(Gs os).length:=by rw[<-Q3 os i,List.length_map]
theorem gA:∀(a b:List OP)(i:Nat),QL i (a++b)=QL i a++QL (i+a.length) b
 |[],b,i=>by simp[QL]
 |o::a,b,i=>by
  rw[List.cons_append,QL,QL,gA a b,List.append_assoc,List.length_cons,show i+1+a.length=i+(a.length+1)from oF]
theorem AjA{os:List OP}{o:OP}{i w:Nat}(hn:0<=o.n/\o.n<=1048576){A0:List UI}(hA:A0.length<=10000000){H0:Hp}
  (hq:∀(H':Hp)(v':Nat)(st:List (Nat × A)),(∀p,p≠[1]->H' p=H0 p)->H' [1]=⟨v',.arr 17 ((A0++List.replicate (if o.kind=0 then o.n.toNat else 0) (i,U.keep)).map uA)⟩->Q (.exit 2) ⟨lk ([(0,HQ os),(1,iv 2),(5,.osl [1] v' 17 0 (A0++List.replicate (if o.kind=0 then o.n.toNat else 0) (i,U.keep)).length),(6,iv i),(7,.pob [0] w 0)]++st),H'⟩) :
  ∀(j k v:Nat)(H:Hp),k+j=(if o.kind=0 then o.n.toNat else 0)->H [0]=⟨w,.cells (Q9 o)⟩->(∀p,p≠[1]->H p=H0 p)->H [1]=⟨v,.arr 17 ((A0++List.replicate k (i,U.keep)).map uA)⟩ ->
  LoopC (cx Tryz.prog w0 I0 n0) EV Q ⟨lk [(0,HQ os),(1,iv 2),(5,.osl [1] v 17 0 (A0.length+k)),(6,iv i),(7,.pob [0] w 0),(8,iv k)],H⟩:=by
 intro j;induction j with
 |zero=>
  intro k v H hj h0 hH h1;have hk:k=(if o.kind=0 then o.n.toNat else 0):=oF
  have:=hq H v [(8,iv k),(28,bv false)] hH (by rw[<-hk];exact h1);rw[<-hk,List.length_append,List.length_replicate]at this;refine Ab Ah (Ao EV.eq_1) ?_;have hc:(k:Int)<o.n->o.kind≠0:=fun h e=>by rw[if_pos e]at hk;omega
  by_cases c:(k:Int)<o.n
  ·have c2:=hc c;simp[h0,c,c2];simpa using this
  ·simp[h0,c];simpa using this
 |succ j ih=>
  intro k v H hj h0 hH h1;have k0:o.kind=0:=by
   apply Classical.byContradiction;intro h;rw[if_neg h]at hj;omega
  have hlt:(k:Int)<o.n:=by rw[if_pos k0]at hj;omega
  have ew:=Ap k;have next:=ih (k+1) (v+1)
  refine Ab Ah (Ao EV.eq_1) ?_;simp[h0,h1,hlt,k0,Aa];refine⟨oF,?_⟩;rw[ew];refine next _ oF (by simp[Aa,h0]) (fun p hp=>by simp[Aa,hp,hH]) ?_
  simp[Aa,uA,uC,uT,uE,kU,Rc,AY,List.replicate_succ'];rw[Ax iS,List.append_assoc]
def qN(k:Int)(t:T):U:=if k=2 then .ins t else .del t
theorem AhT{os:List OP}{o:OP}{i w:Nat}(hl:o.l.length<=1048576)(hk:o.l≠[]->o.kind=1\/o.kind=2){A0:List UI}(hA:A0.length<=10000000){H0:Hp}
  (hq:∀(H':Hp)(v':Nat)(st:List (Nat × A)),(∀p,p≠[1]->H' p=H0 p)->H' [1]=⟨v',.arr 17 ((A0++o.l.map fun t=>(i,qN o.kind t)).map uA)⟩->Q (.exit 4) ⟨lk ([(0,HQ os),(1,iv 2),(5,.osl [1] v' 17 0 (A0++o.l.map fun t=>(i,qN o.kind t)).length),(6,iv i),(7,.pob [0] w 0)]++st),H'⟩) :
  ∀(j k v:Nat)(H:Hp),k+j=o.l.length->H [0]=⟨w,.cells (Q9 o)⟩->(∀p,p≠[1]->H p=H0 p)->H [1]=⟨v,.arr 17 ((A0++(o.l.take k).map fun t=>(i,qN o.kind t)).map uA)⟩ ->
  LoopC (cx Tryz.prog w0 I0 n0) ET Q ⟨lk [(0,HQ os),(1,iv 2),(5,.osl [1] v 17 0 (A0.length+k)),(6,iv i),(7,.pob [0] w 0),(9,iv k)],H⟩:=by
 intro j;induction j with
 |zero=>
  intro k v H hj h0 hH h1;have hk:k=o.l.length:=oF
  subst hk;rw[List.take_length]at h1;have:=hq H v [(9,iv o.l.length),(40,bv false)] hH h1;refine Ab Ah (Ao ET.eq_1) ?_;simp[h0];simpa using this
 |succ j ih=>
  intro k v H hj h0 hH h1;have hlt:k<o.l.length:=oF
  have hkk:=hk (fun e=>by rw[e]at hlt;simp at hlt);have ew:=Ap k;have next:=ih (k+1) (v+1)
  have e9:(A0++(o.l.take (k+1)).map fun t=>(i,qN o.kind t))=(A0++(o.l.take k).map fun t=>(i,qN o.kind t))++[(i,qN o.kind o.l[k])]:=by rw[HJ hlt,List.map_append,<-List.append_assoc];rfl
  rw[e9]at next
  have hlen:(A0++(o.l.take k).map fun t=>(i,qN o.kind t)).length=A0.length+k:=by simp;omega
  generalize hB:(A0++(o.l.take k).map fun t=>(i,qN o.kind t))=B at *;generalize hx:o.l[k]=x at *;refine Ab Ah (Ao ET.eq_1) ?_;rcases hkk with h|h
  ·have hc:¬(o.kind=2):=oF
   simp[h0,h1,hlt,hx,hc,Aa];refine⟨oF,?_⟩;rw[ew];refine next _ oF (by simp[Aa,h0]) (fun p hp=>by simp[Aa,hp,hH]) ?_
   simp[Aa,uA,uC,uT,uE,kU,Rc,AY,qN,h];rw[Ax (by simp[hlen])]
  ·simp[h0,h1,hlt,hx,h,Aa];refine⟨oF,?_⟩;rw[ew];refine next _ oF (by simp[Aa,h0]) (fun p hp=>by simp[Aa,hp,hH]) ?_
   simp[Aa,uA,uC,uT,uE,kU,Rc,AY,qN,h];rw[Ax (by simp[hlen])]
theorem Ahp{os:List OP}(hol:os.length<=10000000)(hok:∀x,x∈os->Nr x/\x.l.length<=1048576)(hu:(Gs os).length<=10000000)
  (hq:∀(H':Hp)(v':Nat)(st:List (Nat × A)),H' [1]=⟨v',.arr 17 ((QL 0 os).map uA)⟩->Q (.exit 0) ⟨lk ([(0,HQ os),(1,iv 2),(5,.osl [1] v' 17 0 (QL 0 os).length)]++st),H'⟩) :
  ∀(j i v:Nat)(H:Hp),i+j=os.length->H [1]=⟨v,.arr 17 ((QL 0 (os.take i)).map uA)⟩ ->
  LoopC (cx Tryz.prog w0 I0 n0) EU Q ⟨lk [(0,HQ os),(1,iv 2),(5,.osl [1] v 17 0 (QL 0 (os.take i)).length),(6,iv i)],H⟩:=by
 intro j;induction j with
 |zero=>
  intro i v H hj h1;have:i=os.length:=oF
  subst this;rw[List.take_length]at h1 ⊢;have:=hq H v [(6,iv os.length),(13,bv false)] h1;refine Ab Ah (gm EU.eq_1) ?_;simp;simpa using this
 |succ j ih=>
  intro i v H hj h1;have hlt:i<os.length:=oF
  have ew:=Ap i;have next:=ih (i+1)
  obtain⟨hoo,hll⟩:=hok _ (Bv hlt);have e9:QL 0 (os.take (i+1))=QL 0 (os.take i)++(Nk os[i]).map fun u=>(i,u):=by
   rw[HJ hlt,gA,List.length_take];simp[QL];omega
  have hlen:(QL 0 (os.take (i+1))).length<=10000000:=by
   have:QL 0 os=QL 0 (os.take (i+1))++QL (0+(os.take (i+1)).length) (os.drop (i+1)):=by rw[<-gA,List.take_append_drop]
   have:=congrArg List.length this;rw[T7,List.length_append]at this;omega
  rw[e9]at next hlen
  rw[List.length_append,List.length_map]at hlen;generalize QL 0 (os.take i)=B at *;generalize hx:os[i]=o at *;refine Ab Ah (gm EU.eq_1) ?_;simp[hlt,hx,Aa];have hn:0<=o.n/\o.n<=1048576:=by unfold Nr at hoo;omega
  have hkl:o.l≠[]->o.kind=1\/o.kind=2:=fun h=>by
   rcases hoo with ⟨_,_,_,e⟩|⟨e,_⟩|⟨e,_⟩|⟨_,_,e⟩
   ·exact absurd e h
   ·exact .inl e
   ·exact .inr e
   ·exact absurd e h
  have hB:B.length<=10000000:=oF
  have hR:(B++List.replicate (if o.kind=0 then o.n.toNat else 0) (i,U.keep)).length<=10000000:=by
   rw[List.length_append,List.length_replicate];by_cases k0:o.kind=0
   ·have:(Nk o).length=o.n.toNat:=by unfold Nk;rw[if_pos k0,List.length_replicate]
    rw[if_pos k0];omega
   ·rw[if_neg k0];omega
  refine LoopC.le (Al [(0,HQ os),(1,iv 2),(5,.osl [1] v 17 0 (B.length+0)),(6,iv i),(7,.pob [0] ((H [0]).u+1) 0),(8,iv (0:Nat))] iS) ?_;refine AjA (o:=o) hn hB (H0:=Ar H [0] ⟨(H [0]).u+1,.cells (Q9 o)⟩) (fun H' v' st kH k1=>?_) _ 0 v _ (Nat.zero_add _) (by simp[Aa]) (fun _ _=>rfl) (by simp[Aa,h1]);have k0:=kH [0] iS;simp[Aa]at k0;simp;refine LoopC.le (Al [(0,HQ os),(1,iv 2),(5,.osl [1] v' 17 0 ((B++List.replicate (if o.kind=0 then o.n.toNat else 0) (i,U.keep)).length+0)),(6,iv i),(7,.pob [0] ((H [0]).u+1) 0),(9,iv (0:Nat))] iS) ?_;refine AhT (o:=o) hll hkl hR (H0:=H') (fun H2 v2 st2 k2 k21=>?_) _ 0 v' _ (Nat.zero_add _) k0 (fun _ _=>rfl) (by simpa using k1);have k20:=k2 [0] iS;rw[k0]at k20;by_cases k3:o.kind=3
  ·have hl0:o.l=[]:=Classical.byContradiction fun h=>by have:=hkl h;omega
   have eu:(B++List.replicate (if o.kind=0 then o.n.toNat else 0) (i,U.keep))++o.l.map (fun t=>(i,qN o.kind t))=B:=by rw[if_neg oF,hl0];simp
   have eo:Nk o=[.desc o.e]:=by unfold Nk;rw[if_neg oF,if_neg oF,if_neg oF]
   rw[eu]at k21 ⊢;rw[eo,List.map_cons,List.map_nil,List.length_append]at next
   simp[k20,k21,k3,Aa];refine⟨oF,?_⟩;rw[ew];refine next _ _ oF ?_
   simp[Aa,uA,uC,uT,uE,kU,Rc];rw[Ax iS]
  ·have eu:(B++List.replicate (if o.kind=0 then o.n.toNat else 0) (i,U.keep))++o.l.map (fun t=>(i,qN o.kind t))=B++(Nk o).map fun u=>(i,u):=by
    unfold Nk;rcases hoo with ⟨e,_,_,e2⟩|⟨e,_⟩|⟨e,_⟩|⟨e,_⟩
    ·rw[if_pos e,if_pos e,e2];simp
    ·rw[if_neg oF,if_neg oF,if_pos e,e,List.map_map];simp[qN,Function.comp_def]
    ·rw[if_neg oF,if_neg oF,if_neg oF,if_pos e,e,List.map_map];simp[qN,Function.comp_def]
    ·exact absurd e k3
   rw[eu]at k21 ⊢;simp[k20,k3];rw[ew];have:=next _ H2 oF k21
   simpa using this
theorem ZR{os:List OP}(hol:os.length<=10000000)(hok:∀x,x∈os->Nr x/\x.l.length<=1048576)(hu:(Gs os).length<=10000000):G.Spec Tryz.prog 100 [HQ os,iv 2] (uis (QL 0 os)):=by
 refine Aj R8 iS fun w0 I0=>?_;rw[BG Lj.eq_1];simp;refine LoopC.le (BC 5 [1] 17 iS) ?_;refine LoopC.le (Al [(0,HQ os),(1,iv 2),(5,.osl [1] 1 17 0 (QL 0 (os.take 0)).length),(6,iv (0:Nat))] (by simp[upd,QL])) ?_;refine Ahp hol hok hu (fun H' v st h1=>?_) os.length 0 1 _ oF (by simp[Aa,QL]);simp;exact AQ (by rw[h1];simp) rfl Xv
@[simp]theorem Am7(x:UI)(h:16<(uC x).length):(uC x)[16]=bv (Rc x.2):=by obtain⟨i,u⟩:=x;cases u<;>simp[uC,uT,uE,AY,Rc]
@[simp]theorem zr(x:UI):(uC x).take 17=uC x:=Ax iS
@[simp]theorem Alq(x:UI):A.ones (uC x)=true:=by obtain⟨i,u⟩:=x;cases u<;>simp[uC,uT,uE,AY,Rc]
theorem qR(x:UI):∀y,y∈uC x->y.bare1=true:=fun y hy=>by
 have h1:=Xv x;rw[Bool.and_eq_true]at h1;have:=List.all_eq_true.1 h1.2 y hy;rw[Bool.and_eq_true]at this;exact this.1
abbrev lN:UI:=(0,.keep)
abbrev PI:=Int × UI × UI
def pC(x:PI):List A:=iv x.1::(uC x.2.1++uC x.2.2)
def pA(x:PI):A:=.agg (pC x)
@[simp]theorem Ajw(x:PI):(pA x).cells=pC x:=rfl
@[simp]theorem AmI(x:PI):(pC x).length=35:=by simp[pC]
abbrev pis(l:List PI):A:=.sl false (l.map pA)
theorem Abj(x:PI):((pA x).cells.length == 35&&(pA x).cells.all fun y=>A.bare1 y&&y.one)=true:=by
 have h1:=Xv x.2.1;have h2:=Xv x.2.2;rw[Bool.and_eq_true]at h1 h2 ⊢;refine⟨iS,?_⟩;show(iv x.1::(uC x.2.1++uC x.2.2)).all _=true;rw[List.all_cons,List.all_append];have e1:(uC x.2.1).all (fun y=>A.bare1 y&&y.one)=true:=h1.2;have e2:(uC x.2.2).all (fun y=>A.bare1 y&&y.one)=true:=h2.2;rw[e1,e2];rfl
inductive oC:List UI->List UI->List PI->Prop
 |nil:oC [] [] []
 |fst (a:UI) (us vs:List UI) (l:List PI) (h:Rc a.2=true) (g:oC us vs l):oC (a::us) vs ((1,a,lN)::l)
 |snd (us:List UI) (b:UI) (vs:List UI) (l:List PI) (h:∀a,us.head? = some a->Rc a.2=false) (h2:Rc b.2=true) (g:oC us vs l):oC us (b::vs) ((2,lN,b)::l)
 |both (a:UI) (us:List UI) (b:UI) (vs:List UI) (l:List PI) (h:Rc a.2=false) (h2:Rc b.2=false) (g:oC us vs l):oC (a::us) (b::vs) ((0,a,b)::l)
theorem US(a b:List A):A.ones (a++b)=(A.ones a&&A.ones b):=by simp[A.ones]
theorem yx(x y:UI)(r:List A)(hr:r.length=17):splice (uC x++r) 17 (uC y)=uC x++uC y:=by
 unfold splice;have hx:=Ad2 x;rw[List.take_append_of_le_length oF,zr,List.drop_of_length_le (by simp[hr])];simp
theorem AeD{us vs:List UI}(hus:us.length<=10000000)(hvs:vs.length<=10000000)
  {L:List PI} (hL:L.length<=100000000)
  (hq:∀(H':Hp)(v':Nat)(st:List (Nat × A)),H' [0]=⟨v',.arr 35 (L.map pA)⟩->Q (.exit 0) ⟨lk ([(0,uis us),(1,uis vs),(6,.osl [0] v' 35 0 L.length)]++st),H'⟩) :
  ∀{us' vs':List UI} {l:List PI},oC us' vs' l->∀(i j v:Nat)(B:List PI)(H:Hp),us.drop i=us'->vs.drop j=vs'->i<=us.length->j<=vs.length->L=B++l->H [0]=⟨v,.arr 35 (B.map pA)⟩ ->
  LoopC (cx Tryz.prog w0 I0 n0) Cg Q ⟨lk [(0,uis us),(1,uis vs),(6,.osl [0] v 35 0 B.length),(7,iv i),(8,iv j)],H⟩:=by
 intro us' vs' l h;induction h with
 |nil=>
  intro i j v B H h1 h2 hi hj hLe h0;have e1:i=us.length:=by have:=List.drop_eq_nil_iff.1 h1;omega
  have e2:j=vs.length:=by have:=List.drop_eq_nil_iff.1 h2;omega
  rw[List.append_nil]at hLe;subst hLe;subst e1;subst e2;have:=hq H v [(7,iv us.length),(8,iv vs.length),(18,bv false)] h0;refine Ab Ah (Ao Cg.eq_1) ?_;simp;simpa using this
 |fst a us' vs' l ha _ ih=>
  intro i j v B H h1 h2 hi hj hLe h0;have hlt:i<us.length:=by
   apply Classical.byContradiction;intro h;rw[List.drop_eq_nil_of_le oF]at h1;cases h1
  have hd:=List.getElem_cons_drop hlt;rw[h1]at hd;obtain⟨ea,ed⟩:=List.cons.inj hd;have ew:=Ap i;have next:=ih (i+1) j (v+1) (B++[(1,a,lN)])
  have hb1:=qR a;refine Ab Ah (Ao Cg.eq_1) ?_;simp[hlt,ea,ha,US];refine⟨fun y hy=>by rcases hy with h|rfl|rfl|rfl|rfl|rfl|rfl|rfl|rfl|rfl<;>first|exact hb1 _ h|rfl,?_⟩;simp[h0,Aa];refine⟨by rw[hLe,List.length_append]at hL;omega,?_⟩;rw[ew];rw[List.length_append]at next
  refine next _ ed h2 oF hj (by rw[hLe];simp) ?_
  simp[Aa,pA,pC,Ax];simp[uC,uT,uE,AY,kU,Rc]
 |snd us' b vs' l ha hb _ ih=>
  intro i j v B H h1 h2 hi hj hLe h0;have hlt:j<vs.length:=by
   apply Classical.byContradiction;intro h;rw[List.drop_eq_nil_of_le oF]at h2;cases h2
  have hd:=List.getElem_cons_drop hlt;rw[h2]at hd;obtain⟨ea,ed⟩:=List.cons.inj hd;have ew:=Ap j;have next:=ih i (j+1) (v+1) (B++[(2,lN,b)])
  have hb1:=qR b;by_cases hil:i<us.length
  ·have hax:Rc us[i].2=false:=ha _ (by rw[<-h1,<-List.getElem_cons_drop hil];rfl);refine Ab Ah (Ao Cg.eq_1) ?_;simp[hil,hlt,ea,hb,hax,US];refine⟨hb1,?_⟩;simp[h0,Aa];refine⟨by rw[hLe,List.length_append]at hL;omega,?_⟩;rw[ew];rw[List.length_append]at next
   refine next _ h1 ed hi oF (by rw[hLe];simp) ?_
   simp[Aa,pA,pC,Ax];simp[uC,uT,uE,AY,kU,Rc]
  ·refine Ab Ah (Ao Cg.eq_1) ?_;simp[hil,hlt,ea,hb,US];refine⟨hb1,?_⟩;simp[h0,Aa];refine⟨by rw[hLe,List.length_append]at hL;omega,?_⟩;rw[ew];rw[List.length_append]at next
   refine next _ h1 ed hi oF (by rw[hLe];simp) ?_
   simp[Aa,pA,pC,Ax];simp[uC,uT,uE,AY,kU,Rc]
 |both a us' b vs' l ha hb _ ih=>
  intro i j v B H h1 h2 hi hj hLe h0;have hlt:i<us.length:=by
   apply Classical.byContradiction;intro h;rw[List.drop_eq_nil_of_le oF]at h1;cases h1
  have hlt2:j<vs.length:=by
   apply Classical.byContradiction;intro h;rw[List.drop_eq_nil_of_le oF]at h2;cases h2
  have hd:=List.getElem_cons_drop hlt;rw[h1]at hd;obtain⟨ea,ed⟩:=List.cons.inj hd;have hd2:=List.getElem_cons_drop hlt2;rw[h2]at hd2;obtain⟨ea2,ed2⟩:=List.cons.inj hd2;have ew:=Ap i;have ew2:=Ap j;have next:=ih (i+1) (j+1) (v+1) (B++[(0,a,b)])
  have hb1:=qR a;have hb2:=qR b;have g1:¬(us.length<=i):=oF
  have g2:¬(vs.length<=j):=oF
  refine Ab Ah (Ao Cg.eq_1) ?_;simp[hlt,hlt2,ea,ea2,ha,hb,US,g1,g2,yx];refine⟨fun y hy=>by rcases hy with h|h;exact hb1 _ h;exact hb2 _ h,?_⟩;simp[h0,Aa];refine⟨by rw[hLe,List.length_append]at hL;omega,?_⟩;rw[ew,ew2];rw[List.length_append]at next
  refine next _ ed ed2 oF oF (by rw[hLe];simp) ?_
  simp[Aa,pA,pC,Ax]
theorem oJ{us vs:List UI}(hus:us.length<=10000000)(hvs:vs.length<=10000000){L:List PI}(hL:L.length<=100000000)(h:oC us vs L):G.Spec Tryz.prog 99 [uis us,uis vs] (.tup [pis L,bv true]):=by
 refine Aj SP iS fun w0 I0=>?_;rw[BG LY.eq_1];simp;refine LoopC.le (BC 6 [0] 35 iS) ?_;refine LoopC.le (Al [(0,uis us),(1,uis vs),(6,.osl [0] 1 35 0 ([]:List PI).length),(7,iv (0:Nat)),(8,iv (0:Nat))] (by simp[upd])) ?_;refine AeD hus hvs hL (fun H' v st h0=>?_) h 0 0 1 [] _ rfl rfl (Nat.zero_le _) (Nat.zero_le _) rfl (by simp[Aa]);simp;exact AM ⟨AQ (by rw[h0];simp) rfl Abj,Ad rfl,trivial⟩
def Vc:List UI->List (Nat × T)
 |(i,.ins t)::us=>(i,t)::Vc us
 |_=>[]
def Ix:List UI->List UI
 |(i,.ins t)::us=>Ix us
 |us=>us
theorem FW:∀us:List UI,(Vc us).map Prod.snd=GV (us.map Prod.snd)/\(Ix us).map Prod.snd=Fl (us.map Prod.snd)/\(∀a,(Ix us).head? = some a->Rc a.2=false)
 |[]=>⟨rfl,rfl,fun a h=>(by cases h)⟩
 |(i,.ins t)::us=>⟨by rw[Vc,List.map_cons,(FW us).1];rfl,by rw[Ix,(FW us).2.1];rfl,fun a h=>(FW us).2.2 a (by rw[Ix]at h;exact h)⟩
 |(i,.keep)::us=>⟨rfl,rfl,fun a h=>(by cases h;rfl)⟩
 |(i,.del t)::us=>⟨rfl,rfl,fun a h=>(by cases h;rfl)⟩
 |(i,.desc e)::us=>⟨rfl,rfl,fun a h=>(by cases h;rfl)⟩
abbrev va(p:Nat × T):PI:=(1,(p.1,.ins p.2),lN)
abbrev rG(p:Nat × T):PI:=(2,lN,(p.1,.ins p.2))
def rk:List T->List UI->List UI->List PI
 |[],us,vs=>(Vc us).map va++((Vc vs).map rG++[])
 |_::ks,us,vs=>(Vc us).map va++((Vc vs).map rG++((0,(Ix us).headD lN,(Ix vs).headD lN)::rk ks (Ix us).tail (Ix vs).tail))
theorem pI:∀(us vs:List UI)(l:List PI),oC (Ix us) (Ix vs) l->oC us vs ((Vc us).map va++((Vc vs).map rG++l)):=by
 have h2:∀(us:List UI)(h:∀a,us.head? = some a->Rc a.2=false)(vs:List UI)(l:List PI),oC us (Ix vs) l->oC us vs ((Vc vs).map rG++l):=fun us h vs=>by
  induction vs with
  |nil=>exact fun l g=>g
  |cons x vs ih=>
   obtain⟨i,u⟩:=x;cases u with
   |ins t=>exact fun l g=>.snd us _ vs _ h rfl (ih l g)
   |keep=>exact fun l g=>g
   |del t=>exact fun l g=>g
   |desc t=>exact fun l g=>g
 intro us;induction us with
 |nil=>exact fun vs l g=>h2 [] (fun a h=>by cases h) vs l g
 |cons x us ih=>
  obtain⟨i,u⟩:=x;cases u with
  |ins t=>exact fun vs l g=>.fst _ us vs _ rfl (ih vs l g)
  |keep=>exact fun vs l g=>h2 _ (fun a h=>by cases h;rfl) vs l g
  |del t=>exact fun vs l g=>h2 _ (fun a h=>by cases h;rfl) vs l g
  |desc t=>exact fun vs l g=>h2 _ (fun a h=>by cases h;rfl) vs l g
theorem qu{R:E->T->T->Prop}{us:List U}{ys:List T}(h:LdU R us [] ys):Fl us=[]:=by
 obtain⟨y1,y2,_,_,g,hn⟩:=Oo h;generalize Fl us=r at *;cases g with
 |nil=>rfl
 |ins t y g=>exact absurd rfl (hn _ _)
theorem uR{R:E->T->T->Prop}{us:List U}{k:T}{ks ys:List T}(h:LdU R us (k::ks) ys):Fl us≠[]:=by
 obtain⟨y1,y2,_,_,g,hn⟩:=Oo h;generalize Fl us=r at *;cases g<;>simp
theorem pQ{R:E->T->T->Prop}:∀(ks:List T)(us vs:List UI)(ys zs:List T),LdU R (us.map Prod.snd) ks ys->LdU R (vs.map Prod.snd) ks zs->oC us vs (rk ks us vs)
 |[],us,vs,ys,zs,h1,h2=>by
  have e1:=qu h1;have e2:=qu h2;rw[<-(FW us).2.1]at e1;rw[<-(FW vs).2.1]at e2;have e1:=List.map_eq_nil_iff.1 e1;have e2:=List.map_eq_nil_iff.1 e2;rw[rk];exact pI us vs [] (by rw[e1,e2];exact .nil)
 |k::ks,us,vs,ys,zs,h1,h2=>by
  have n1:=uR h1;have n2:=uR h2;obtain⟨y2,q1,_⟩:=V9 h1;obtain⟨z2,q2,_⟩:=V9 h2;have f1:=(FW us).2.2;have f2:=(FW vs).2.2;rw[<-(FW us).2.1]at n1 q1;rw[<-(FW vs).2.1]at n2 q2;rw[rk];refine pI us vs _ ?_;rw[<-List.map_tail]at q1 q2;generalize Ix us=ru at *;generalize Ix vs=rv at *;cases ru with
  |nil=>exact absurd rfl n1
  |cons a ru=>
   cases rv with
   |nil=>exact absurd rfl n2
   |cons b rv=>exact .both a ru b rv _ (f1 a rfl) (f2 b rfl) (pQ ks ru rv _ _ q1 q2)
abbrev GI:=Bool × Nat × T
def giP(x:GI):PI:=if x.1=true then va x.2 else rG x.2
def Nw:List GI->List T
 |(true,_,t)::l=>t::Nw l
 |(false,_,_)::l=>Nw l
 |[]=>[]
def N0:List GI->List T
 |(false,_,t)::l=>t::N0 l
 |(true,_,_)::l=>N0 l
 |[]=>[]
theorem z7{L:List PI}(hL:L.length<=100000000){rest:List PI}(hr:∀x,rest.head? = some x->x.1=0){FA FB:List T}{N:Nat}
  (hq:∀(H':Hp)(v w:Nat)(st:List (Nat × A)),H' [0]=⟨v,.arr 3 (FA.map tA)⟩->H' [1]=⟨w,.arr 3 (FB.map tA)⟩->Q (.exit 0) ⟨lk ([(0,pis L),(7,.osl [0] v 3 0 FA.length),(8,.osl [1] w 3 0 FB.length),(9,iv N)]++st),H'⟩) :
  ∀(G:List GI)(i v w:Nat)(A B:List T)(H:Hp),L.drop i=G.map giP++rest->i<=L.length->i+G.length=N->A.length<=i->B.length<=i->FA=A++Nw G->FB=B++N0 G->H [0]=⟨v,.arr 3 (A.map tA)⟩->H [1]=⟨w,.arr 3 (B.map tA)⟩ ->
  LoopC (cx Tryz.prog w0 I0 n0) DA Q ⟨lk [(0,pis L),(7,.osl [0] v 3 0 A.length),(8,.osl [1] w 3 0 B.length),(9,iv i)],H⟩:=by
 intro G;induction G with
 |nil=>
  intro i v w A B H hd hi hN ha hb eA eB h0 h1;have hN:i=N:=by simpa using hN
  subst hN;rw[show Nw []=[]from rfl,List.append_nil]at eA;rw[show N0 []=[]from rfl,List.append_nil]at eB;subst eA;subst eB;have:=hq H v w [(22,bv false)] h0 h1;rw[List.map_nil,List.nil_append]at hd;by_cases hlt:i<L.length
  ·have hz:L[i].1=0:=hr _ (by rw[<-hd,<-List.getElem_cons_drop hlt];rfl);generalize hx:L[i]=x at *;refine Ab Ah (Ao DA.eq_1) ?_;simp[hlt,hx,pC,hz];simpa using this
  ·refine Ab Ah (Ao DA.eq_1) ?_;simp[hlt];simpa using this
 |cons g G ih=>
  intro i v w A B H hd hi hN ha hb eA eB h0 h1;have hlt:i<L.length:=by
   apply Classical.byContradiction;intro h;rw[List.drop_eq_nil_of_le oF]at hd;cases hd
  have hd2:=List.getElem_cons_drop hlt;rw[hd,List.map_cons,List.cons_append]at hd2;obtain⟨ea,ed⟩:=List.cons.inj hd2;have ew:=Ap i;obtain⟨b,n,t⟩:=g;cases b with
  |true=>
   have e:giP (true,n,t)=(1,(n,.ins t),lN):=rfl;have next:=ih (i+1) (v+1) w (A++[t]) B
   refine Ab Ah (Ao DA.eq_1) ?_;simp[hlt,ea,e,pC,uC,uT,uE,AY,kU,Rc,h0,h1,Aa];refine⟨oF,?_⟩;rw[ew];rw[List.length_append]at next
   refine next _ ed oF (by rw[<-hN,List.length_cons];omega) (by simp;omega) oF (by rw[eA];simp[Nw]) (by rw[eB];simp[N0]) ?_ (by simp[Aa,h1])
   simp[Aa,Ax,tA_eq]
  |false=>
   have e:giP (false,n,t)=(2,lN,(n,.ins t)):=rfl;have next:=ih (i+1) v (w+1) A (B++[t])
   refine Ab Ah (Ao DA.eq_1) ?_;simp[hlt,ea,e,pC,uC,uT,uE,AY,kU,Rc,h0,h1,Aa];refine⟨oF,?_⟩;rw[ew];rw[List.length_append]at next
   refine next _ ed oF (by rw[<-hN,List.length_cons];omega) oF (by simp;omega) (by rw[eA];simp[Nw]) (by rw[eB];simp[N0]) (by simp[Aa,h0]) ?_
   simp[Aa,Ax,tA_eq]
theorem cd{L:List PI}(hL:L.length<=100000000){rest:List PI}(hr:∀x,rest.head? = some x->x.1=0){W:List GI}{i:Nat}(hd:L.drop i=W.map giP++rest)(hi:i<=L.length):G.Spec Tryz.prog 101 [pis L,iv i] (.tup [AV (Nw W),AV (N0 W),iv (i+W.length:Nat)]):=by
 refine Aj VU iS fun w0 I0=>?_;rw[BG Np.eq_1];simp;refine LoopC.le (BC 7 [0] 3 iS) ?_;refine LoopC.le (BC 8 [1] 3 (by simp[upd])) ?_;refine LoopC.le (Al [(0,pis L),(7,.osl [0] 1 3 0 ([]:List T).length),(8,.osl [1] 1 3 0 ([]:List T).length),(9,iv i)] (by simp[upd])) ?_;refine z7 hL hr (FA:=Nw W) (FB:=N0 W) (N:=i+W.length) (fun H' v w st h0 h1=>?_) W i 1 1 [] [] _ hd hi rfl (Nat.zero_le _) (Nat.zero_le _) rfl rfl (by simp[Aa]) (by simp[Aa]);simp;exact AM ⟨AQ (f:=tA) (by rw[h0];simp) rfl (fun x=>iS),AQ (f:=tA) (by rw[h1];simp) rfl (fun x=>iS),Ad rfl,trivial⟩
def mD(us vs:List UI):List GI:=(Vc us).map (fun p=>(true,p))++(Vc vs).map fun p=>(false,p)
theorem qj(us vs:List UI):(mD us vs).map giP=(Vc us).map va++(Vc vs).map rG:=by
 unfold mD;rw[List.map_append,List.map_map,List.map_map];rfl
theorem nJ:∀a b:List GI,Nw (a++b)=Nw a++Nw b
 |[],b=>rfl
 |(true,n,t)::a,b=>by rw[List.cons_append,Nw,Nw,nJ a b];rfl
 |(false,n,t)::a,b=>by rw[List.cons_append,Nw,Nw,nJ a b]
theorem mT:∀a b:List GI,N0 (a++b)=N0 a++N0 b
 |[],b=>rfl
 |(false,n,t)::a,b=>by rw[List.cons_append,N0,N0,mT a b];rfl
 |(true,n,t)::a,b=>by rw[List.cons_append,N0,N0,mT a b]
theorem xn:∀l:List (Nat × T),Nw (l.map fun p=>(true,p))=l.map Prod.snd/\N0 (l.map fun p=>(true,p))=[]/\Nw (l.map fun p=>(false,p))=[]/\N0 (l.map fun p=>(false,p))=l.map Prod.snd
 |[]=>⟨rfl,rfl,rfl,rfl⟩
 |(n,t)::l=>by
  obtain⟨h1,h2,h3,h4⟩:=xn l;refine⟨?_,?_,?_,?_⟩
  ·rw[List.map_cons,Nw,h1];rfl
  ·rw[List.map_cons,N0,h2]
  ·rw[List.map_cons,Nw,h3]
  ·rw[List.map_cons,N0,h4];rfl
theorem Ag0(us vs:List UI):Nw (mD us vs)=GV (us.map Prod.snd):=by
 unfold mD;rw[nJ,(xn _).1,(xn _).2.2.1,List.append_nil,(FW us).1]
theorem Ajy(us vs:List UI):N0 (mD us vs)=GV (vs.map Prod.snd):=by
 unfold mD;rw[mT,(xn _).2.1,(xn _).2.2.2,List.nil_append,(FW vs).1]
def KdR(f:Nat)(at':DQ)(o:T)(p q:E)(u:T):Prop:=Ay u/\Ag u=(mg f at' o p q).1/\((mg f at' o p q).2.length<=100000000000 ->
 G.Spec Tryz.prog 37 [BL at',tX o,eX p,eX q] (.tup [tX u,KY (mg f at' o p q).2]))
def rY(e:E)(k:T):Prop:=Ay (Ge e k)/\Ag (Ge e k)=Ge e k/\G.Spec Tryz.prog 36 [eX e,tX k] (.tup [tX (Ge e k),bv true])
theorem qA(u:U):A.softL (uE u)=eL (eU u):=by
 cases u with
 |desc e=>exact Ox e
 |_=>show A.softL AY=eL E0;simp[AY,A.softL,A.soft,E0]
theorem nC{f:Nat}{at':DQ}{k:T}(wk:Ay k){a b:UI}(ha:Rc a.2=false)(hb:Rc b.2=false)(ea:∀e,a.2=.desc e->rY e k)(eb:∀e,b.2=.desc e->rY e k){u:T}(hS:KdR f at' k (eU a.2) (eU b.2) u)(hl:(Cs (mg f) at' k a.2 b.2).2.length<=100000000000) :
  ∃l:List T,l.map Ag=(Cs (mg f) at' k a.2 b.2).1/\(∀t,t∈l->Ay t)/\l.length<=1/\G.Spec Tryz.prog 103 [BL at',tX k,.agg (uC a),.agg (uC b)] (.tup [AV l,KY (Cs (mg f) at' k a.2 b.2).2]):=by
 obtain⟨i,ua⟩:=a;obtain⟨j,ub⟩:=b;obtain⟨s1,s2,s3⟩:=hS;simp only at *;have both1:(mg f at' k (eU ua) (eU ub)).2.length<=100000000000->G.Spec Tryz.prog 37 [BL at',tX k,.agg (uE ua),.agg (uE ub)] (.tup [tX u,KY (mg f at' k (eU ua) (eU ub)).2]):=fun h=>
  (s3 h).soft (by
   show [A.soft (BL at'),A.soft (tX k),.agg (A.softL (uE ua)),.agg (A.softL (uE ub))]=_;rw[qA,qA,Q1];show [A.sl false (A.softL (at'.map Rl)),_,_,_]=_;rw[Uq])
 have one1:[u].map Ag=[(mg f at' k (eU ua) (eU ub)).1]:=by rw[<-s2];rfl
 have hw1:∀t,t∈[u]->Ay t:=fun t ht=>by rw[List.mem_singleton.1 ht];exact s1
 have hwk:∀t,t∈[k]->Ay t:=fun t ht=>by rw[List.mem_singleton.1 ht];exact wk
 have cl1:∀e,rY e k->G.Spec Tryz.prog 65 [BL at',tX k,tX (Ge e k),.agg [iv 0,.sl true [],.sl true []]] (KY [⟨at',Ag k,Ge e k,T0⟩]):=fun e h=>by
  have:=J8 (l:=at') wk h.1 Yr;rw[h.2.1,VQ]at this;refine this.soft ?_;show [A.soft (BL at'),A.soft (tX k),A.soft (tX (Ge e k)),tX T0]=_;rw[Q1,Q1];show [A.sl false (A.softL (at'.map Rl)),_,_,_]=_;rw[Uq]
 have cl2:∀e,rY e k->G.Spec Tryz.prog 65 [BL at',tX k,.agg [iv 0,.sl true [],.sl true []],tX (Ge e k)] (KY [⟨at',Ag k,T0,Ge e k⟩]):=fun e h=>by
  have:=J8 (l:=at') wk Yr h.1;rw[h.2.1,VQ]at this;refine this.soft ?_;show [A.soft (BL at'),A.soft (tX k),tX T0,A.soft (tX (Ge e k))]=_;rw[Q1,Q1];show [A.sl false (A.softL (at'.map Rl)),_,_,_]=_;rw[Uq]
 cases ua with
 |ins t=>cases ha
 |keep=>
  cases ub with
  |ins t=>cases hb
  |keep=>
   refine⟨[u],one1,hw1,iS,?_⟩;have S:=both1 hl;simp only[Cs];generalize (mg f at' k (eU (.keep)) (eU (.keep))).2=M at *;refine Aj B5 iS fun w0 I0=>?_;rw[Ao BE.eq_1];simp[uC,uT,uE,kU,Rc,AY];refine Ae S (by simp[uE,AY]) ?_;simp[Aa];show Iz _ _ (.tup [.sl false [tA u],KY M]);rw[tA_eq];exact AM ⟨Ai,Ai,trivial⟩
  |del t=>
   refine⟨[],rfl,fun t ht=>by simp at ht,iS,?_⟩;simp only[Cs];refine Aj B5 iS fun w0 I0=>?_;rw[Ao BE.eq_1];simp[uC,uT,uE,kU,Rc,AY];exact AM ⟨Ai,Ai,trivial⟩
  |desc e=>
   refine⟨[u],one1,hw1,iS,?_⟩;have S:=both1 hl;simp only[Cs];generalize (mg f at' k (eU (.keep)) (eU (.desc e))).2=M at *;refine Aj B5 iS fun w0 I0=>?_;rw[Ao BE.eq_1];simp[uC,uT,uE,kU,Rc,AY];refine Ae S (by simp[uE,AY]) ?_;simp[Aa];show Iz _ _ (.tup [.sl false [tA u],KY M]);rw[tA_eq];exact AM ⟨Ai,Ai,trivial⟩
 |del t=>
  cases ub with
  |ins t=>cases hb
  |keep=>
   refine⟨[],rfl,fun t ht=>by simp at ht,iS,?_⟩;simp only[Cs];refine Aj B5 iS fun w0 I0=>?_;rw[Ao BE.eq_1];simp[uC,uT,uE,kU,Rc,AY];exact AM ⟨Ai,Ai,trivial⟩
  |del t2=>
   refine⟨[],rfl,fun t ht=>by simp at ht,iS,?_⟩;simp only[Cs];refine Aj B5 iS fun w0 I0=>?_;rw[Ao BE.eq_1];simp[uC,uT,uE,kU,Rc,AY];exact AM ⟨Ai,Ai,trivial⟩
  |desc e=>
   have D:=eb e rfl;refine⟨[k],rfl,hwk,iS,?_⟩;have C:=cl2 e D;simp only[Cs];refine Aj B5 iS fun w0 I0=>?_;rw[Ao BE.eq_1];simp[uC,uT,uE,kU,Rc,AY];refine Ae D.2.2 iS ?_;simp[Aa];refine Ae C iS ?_;simp[Aa];show Iz _ _ (.tup [.sl false [tA k],KY _]);rw[tA_eq];exact AM ⟨Ai,Ai,trivial⟩
 |desc e=>
  cases ub with
  |ins t=>cases hb
  |keep=>
   refine⟨[u],one1,hw1,iS,?_⟩;have S:=both1 hl;simp only[Cs];generalize (mg f at' k (eU (.desc e)) (eU (.keep))).2=M at *;refine Aj B5 iS fun w0 I0=>?_;rw[Ao BE.eq_1];simp[uC,uT,uE,kU,Rc,AY];refine Ae S (by simp[uE,AY]) ?_;simp[Aa];show Iz _ _ (.tup [.sl false [tA u],KY M]);rw[tA_eq];exact AM ⟨Ai,Ai,trivial⟩
  |del t=>
   have D:=ea e rfl;refine⟨[k],rfl,hwk,iS,?_⟩;have C:=cl1 e D;simp only[Cs];refine Aj B5 iS fun w0 I0=>?_;rw[Ao BE.eq_1];simp[uC,uT,uE,kU,Rc,AY];refine Ae D.2.2 iS ?_;simp[Aa];refine Ae C iS ?_;simp[Aa];show Iz _ _ (.tup [.sl false [tA k],KY _]);rw[tA_eq];exact AM ⟨Ai,Ai,trivial⟩
  |desc e2=>
   refine⟨[u],one1,hw1,iS,?_⟩;have S:=both1 hl;simp only[Cs];generalize (mg f at' k (eU (.desc e)) (eU (.desc e2))).2=M at *;refine Aj B5 iS fun w0 I0=>?_;rw[Ao BE.eq_1];simp[uC,uT,uE,kU,Rc,AY];refine Ae S (by simp[uE,AY]) ?_;simp[Aa];show Iz _ _ (.tup [.sl false [tA u],KY M]);rw[tA_eq];exact AM ⟨Ai,Ai,trivial⟩
theorem Acr(x:UI):∀y,y∈uC x->y.bare2=true:=by obtain⟨i,u⟩:=x;cases u<;>simp[uC,uT,uE,AY]
theorem bN(us:List UI):((Ix us).headD lN).2=lL (Fl (us.map Prod.snd)):=by
 rw[<-(FW us).2.1];cases Ix us<;>rfl
theorem cH(us:List UI):Rc ((Ix us).headD lN).2=false:=by
 have:=(FW us).2.2;cases h:Ix us with
 |nil=>rfl
 |cons a l=>exact this a (by rw[h];rfl)
theorem uW{f:Nat}{at':DQ}(hat:at'.length<=900000){o:T}(wo:Ay o)(lo:o.kids.length<=400000){R:E->T->T->Prop}(h0:∀k,k∈o.kids->R E0 k k)(hE:∀e k x,R e k x->rY e k)(hR:∀(n:Nat)(k:T)(p q:E)(x y:T),R p k x->R q k y->∃u,KdR f (at'++[(0,(n:Int))]) k p q u) :
  ∀(ks:List T)(n:Nat)(us vs:List UI)(ys zs:List T),o.kids.drop n=ks->n<=o.kids.length->LdU R (us.map Prod.snd) ks ys->LdU R (vs.map Prod.snd) ks zs->(∀u,u∈us.map Prod.snd->UW u)->(∀u,u∈vs.map Prod.snd->UW u)->ys.length<=1000000->zs.length<=1000000->(Kw (mg f) at' o.kind ks (us.map Prod.snd) (vs.map Prod.snd) n).2.length<=100000000000 ->
  ∃FL:List T,FL.map Ag=(Kw (mg f) at' o.kind ks (us.map Prod.snd) (vs.map Prod.snd) n).1/\(∀t,t∈FL->Ay t)/\FL.length<=1000001*(ks.length+1) /\
   ∀(n0:Nat)(w0:World)(I0:Nat->Prop)(Q:Exit->Sta->Prop)(L:List PI)(i v w:Nat)(acc:List T)(C:List Cf)(H:Hp),L.length<=100000000->L.drop i=rk ks us vs->i<=L.length->C.length+(Kw (mg f) at' o.kind ks (us.map Prod.snd) (vs.map Prod.snd) n).2.length<=100000000000->acc.length<=1000001*n ->
    H [0]=⟨1,.cells (tL o)⟩->H [3]=⟨1,.cells z0⟩->H [4]=⟨1,.cells [iv o.kind,.sl true [],.osl [5] v 3 0 acc.length]⟩->H [5]=⟨v,.arr 3 (acc.map tA)⟩->H [6]=⟨w,.arr 10 (C.map aV)⟩ ->
    (∀(H':Hp)(v w:Nat)(st:List (Nat × A)),H' [3]=⟨1,.cells z0⟩->H' [4]=⟨1,.cells [iv o.kind,.sl true [],.osl [5] v 3 0 (acc++FL).length]⟩->H' [5]=⟨v,.arr 3 ((acc++FL).map tA)⟩->H' [6]=⟨w,.arr 10 ((C++(Kw (mg f) at' o.kind ks (us.map Prod.snd) (vs.map Prod.snd) n).2).map aV)⟩ ->
     Q (.exit 0) ⟨lk ([(0,BL at'),(5,.pob [0] 1 0),(8,.pob [3] 1 0),(10,pis L),(12,.pob [4] 1 0),(13,.osl [6] w 10 0 (C++(Kw (mg f) at' o.kind ks (us.map Prod.snd) (vs.map Prod.snd) n).2).length)]++st),H'⟩) ->
    LoopC (cx Tryz.prog w0 I0 n0) DE Q ⟨lk [(0,BL at'),(5,.pob [0] 1 0),(8,.pob [3] 1 0),(10,pis L),(12,.pob [4] 1 0),(13,.osl [6] w 10 0 C.length),(14,iv n),(15,iv i)],H⟩:=by
 have O:=wfT_iff.1 wo;intro ks;induction ks with
 |nil=>
  intro n us vs ys zs hn hnl hu hv wu wv ly lz hT;obtain⟨y1,y2,rfl,a1,_,_⟩:=Oo hu;obtain⟨z1,z2,rfl,b1,_,_⟩:=Oo hv;have hl1:(GV (us.map Prod.snd)).length=y1.length:=by simpa using congrArg List.length a1
  have hl2:(GV (vs.map Prod.snd)).length=z1.length:=by simpa using congrArg List.length b1
  rw[List.length_append]at ly lz;obtain⟨l1,q1,q2,q3,G1⟩:=cb (at':=at') oF O.k (n:=n) (Jq wu).1 (Jq wv).1 oF oF;rw[Kw]at *;refine⟨l1,q1,q2,by simp;omega,fun n0 w0 I0 Q L i v w acc C H hL hd hi hC lacc g0 g3 g4 g5 g6 hq=>?_⟩;rw[rk,List.append_nil,<-qj]at hd;have hlen:i+(mD us vs).length=L.length:=by
   have:=congrArg List.length hd;rw[List.length_drop,List.length_map]at this;omega
  have GP:=cd hL (rest:=[]) (fun x h=>by cases h) (W:=mD us vs) (by rw[List.append_nil];exact hd) hi;rw[Ag0,Ajy]at GP;generalize Gb at' o.kind n (GV (us.map Prod.snd)) (GV (vs.map Prod.snd))=g at *;have hi2:(i:Int)<=L.length:=oF
  rw[hlen]at GP;refine Ab Ah (Ao DE.eq_1) ?_;simp[hi2];refine Ae GP iS ?_;simp[g0];refine Ae G1 iS ?_;simp[g4,g5,g6,Aa];refine⟨oF,oF,?_⟩;have ew:i64.wrap ((L.length:Int)+1)=((L.length+1:Nat):Int):=AU;rw[ew];have hc:¬((L.length:Int)+1<=L.length):=oF
  refine Ab Ah (Ao DE.eq_1) ?_;simp[hc];have:=hq (Ar (Ar (Ar H [5] ⟨v+1,.arr 3 (List.take acc.length (acc.map tA)++l1.map tA)⟩) [4] ⟨1,.cells [iv o.kind,.sl true [],.osl [5] (v+1) 3 0 (acc.length+l1.length)]⟩) [6] ⟨w+1,.arr 10 (List.take C.length (C.map aV)++g.2.map aV)⟩) (v+1) (w+1) [(14,iv n),(15,iv (L.length+1:Nat)),(39,bv false)] (by simp[Aa,g3]) (by simp[Aa]) (by simp[Aa,Ax]) (by simp[Aa,Ax]);rw[List.length_append]at this;simpa using this
 |cons k ks ih=>
  intro n us vs ys zs hn hnl hu hv wu wv ly lz hT;have hnlt:n<o.kids.length:=by
   apply Classical.byContradiction;intro h;rw[List.drop_eq_nil_of_le oF]at hn;cases hn
  have hk2:=List.getElem_cons_drop hnlt;rw[hn]at hk2;obtain⟨ek,ekd⟩:=List.cons.inj hk2;have hkm:k∈o.kids:=by rw[<-ek];exact Bv hnlt
  have wk:=O.ks k hkm;obtain⟨y2,a1,a2,a3,a4⟩:=V9 hu;obtain⟨z2,b1,b2,b3,b4⟩:=V9 hv;have wu':=(Jq wu).2;have wv':=(Jq wv).2;obtain⟨l1,q1,q2,q3,G1⟩:=cb (at':=at') oF O.k (n:=n) (Jq wu).1 (Jq wv).1 oF oF;have hda:=bN us;have hdb:=bN vs;have hia:=cH us;have hib:=cH vs;have ra:∃x,R (eU (lL (Fl (us.map Prod.snd)))) k x:=by
   rcases a2 with h|⟨t,h⟩|⟨e,x,h,hx⟩
   ·rw[h];exact⟨k,h0 k hkm⟩
   ·rw[h];exact⟨k,h0 k hkm⟩
   ·rw[h];exact⟨x,hx⟩
  have rb:∃x,R (eU (lL (Fl (vs.map Prod.snd)))) k x:=by
   rcases b2 with h|⟨t,h⟩|⟨e,x,h,hx⟩
   ·rw[h];exact⟨k,h0 k hkm⟩
   ·rw[h];exact⟨k,h0 k hkm⟩
   ·rw[h];exact⟨x,hx⟩
  rw[Kw]at *;simp only at *;rw[List.length_append,List.length_append]at hT;have step:=ih (n+1) (Ix us).tail (Ix vs).tail y2 z2 ekd oF (by rw[List.map_tail,(FW us).2.1];exact a1) (by rw[List.map_tail,(FW vs).2.1];exact b1) (fun u hu=>wu' u (by rw[List.map_tail,(FW us).2.1]at hu;exact List.mem_of_mem_tail hu)) (fun u hu=>wv' u (by rw[List.map_tail,(FW vs).2.1]at hu;exact List.mem_of_mem_tail hu)) oF oF;rw[List.map_tail,List.map_tail,(FW us).2.1,(FW vs).2.1]at step;obtain⟨FL,t1,t2,t3,stp⟩:=step oF;clear step;obtain⟨x1,hx1⟩:=ra;obtain⟨x2,hx2⟩:=rb;rw[<-hda]at hx1 a2 hT;rw[<-hdb]at hx2 b2 hT;obtain⟨u,hu3⟩:=hR n k _ _ _ _ hx1 hx2;obtain⟨l2,p1,p2,p3,U1⟩:=nC wk hia hib (fun e h=>hE e k x1 (by rw[h]at hx1;exact hx1)) (fun e h=>hE e k x2 (by rw[h]at hx2;exact hx2)) hu3 oF;rw[<-hda,<-hdb];have AT:=U0 at' 0 n oF;generalize Kw (mg f) at' o.kind ks (Fl (us.map Prod.snd)).tail (Fl (vs.map Prod.snd)).tail (n+1)=r at *;have hdp:∀(L:List PI)(i:Nat),L.drop i=rk (k::ks) us vs->L.drop i=(mD us vs).map giP++((0,(Ix us).headD lN,(Ix vs).headD lN)::rk ks (Ix us).tail (Ix vs).tail):=fun L i h=>by rw[h,rk,<-List.append_assoc,<-qj]
  generalize (Ix us).headD lN=ha at *;generalize (Ix vs).headD lN=hb at *;generalize Cs (mg f) (at'++[(0,(n:Int))]) k ha.2 hb.2=um at *;refine⟨l1++(l2++FL),by rw[List.map_append,List.map_append,q1,p1,t1],fun t ht=>?_,by rw[List.length_append,List.length_append,List.length_cons];omega,fun n0 w0 I0 Q L i v w acc C H hL hd hi hC lacc g0 g3 g4 g5 g6 hq=>?_⟩
  ·rcases List.mem_append.1 ht with h|h
   ·exact q2 t h
   ·rcases List.mem_append.1 h with h|h
    ·exact p2 t h
    ·exact t2 t h
  have hd:=hdp L i hd;have GP:=cd hL (rest:=(0,ha,hb)::rk ks (Ix us).tail (Ix vs).tail) (fun x h=>by cases h;rfl) (W:=mD us vs) hd hi;rw[Ag0,Ajy]at GP;have hlen:i+(mD us vs).length<L.length:=by
   have:=congrArg List.length hd;rw[List.length_drop,List.length_append,List.length_map,List.length_cons]at this;omega
  have hdj:L.drop (i+(mD us vs).length)=(0,ha,hb)::rk ks (Ix us).tail (Ix vs).tail:=by
   rw[<-List.drop_drop,hd,show(mD us vs).length=((mD us vs).map giP).length from iS,List.drop_left]
  generalize hj:i+(mD us vs).length=j at *;have hj2:=List.getElem_cons_drop hlen;rw[hdj]at hj2;obtain⟨ej,ejd⟩:=List.cons.inj hj2;generalize Gb at' o.kind n (GV (us.map Prod.snd)) (GV (vs.map Prod.snd))=g at *;rw[List.length_append,List.length_append]at hC;have hi2:(i:Int)<=L.length:=oF
  have hj3:(j:Int)<L.length:=oF
  have ew:=Ap n;have ew2:=Ap j;refine Ab Ah (Ao DE.eq_1) ?_;simp[hi2];refine Ae GP iS ?_;simp[g0];refine Ae G1 iS ?_;simp[g0,g4,g5,g6,Aa,hj3,hlen,hnlt,ek];refine⟨oF,oF,?_⟩;refine Ae AT iS ?_;simp[g0,Aa,hlen,hnlt,ek,ej,pC];refine Ae U1 (by simp;exact⟨Acr ha,Acr hb⟩) ?_;simp[g0,Aa,hlen,hnlt,Ax];refine⟨oF,oF,?_⟩;rw[ew,ew2];have hlA:(acc++(l1++l2)).length=acc.length+l1.length+l2.length:=by simp[Nat.add_assoc]
  have hlC:(C++(g.2++um.2)).length=C.length+g.2.length+um.2.length:=by simp[Nat.add_assoc]
  have nx:=fun H=>stp n0 w0 I0 Q L (j+1) (v+1+1) (w+1+1) (acc++(l1++l2)) (C++(g.2++um.2)) H hL ejd oF (by rw[hlC];omega) (by rw[hlA];omega);rw[hlA,hlC]at nx;have e1:acc++(l1++l2)++FL=acc++(l1++(l2++FL)):=iS
  have e2:C++(g.2++um.2)++r.2=C++(g.2++(um.2++r.2)):=iS
  rw[e1,e2]at nx;refine nx _ (by simp[Aa,g0]) (by simp[Aa,g3]) (by simp[Aa]) (by simp[Aa]) (by simp[Aa]) hq
theorem ab{f:Nat}{at':DQ}(hat:at'.length<=900000){o:T}(wo:Ay o)(lo:o.kids.length<=400000){R:E->T->T->Prop}(h0:∀k,k∈o.kids->R E0 k k)(hE:∀e k x,R e k x->rY e k)(hR:∀(n:Nat)(k:T)(p q:E)(x y:T),R p k x->R q k y->∃u,KdR f (at'++[(0,(n:Int))]) k p q u)
  {p q:E} {ys zs:List T} (hu:LdU R (Gs p.ops) o.kids ys) (hv:LdU R (Gs q.ops) o.kids zs) (ly:ys.length<=1000000) (lz:zs.length<=1000000) (wu:∀u,u∈Gs p.ops->UW u) (wv:∀u,u∈Gs q.ops->UW u) (op:p.ops.length<=10000000) (oq:q.ops.length<=10000000) (okp:∀x,x∈p.ops->Nr x/\x.l.length<=1048576) (okq:∀x,x∈q.ops->Nr x/\x.l.length<=1048576) (lu:(Gs p.ops).length<=10000000) (lv:(Gs q.ops).length<=10000000)
  (hl:(Kw (mg f) at' o.kind o.kids (Gs p.ops) (Gs q.ops) 0).2.length<=100000000000) :
  ∃l:List T,l.map Ag=(Kw (mg f) at' o.kind o.kids (Gs p.ops) (Gs q.ops) 0).1/\(∀t,t∈l->Ay t)/\l.length<=1000000000000/\G.Spec Tryz.prog 64 [BL at',tX o,eX p,eX q] (.tup [tX (.mk o.kind [] l),KY (Kw (mg f) at' o.kind o.kids (Gs p.ops) (Gs q.ops) 0).2]):=by
 have U1:=ZR op okp lu;have U2:=ZR oq okq lv;have hPr:=pQ (R:=R) o.kids (QL 0 p.ops) (QL 0 q.ops) ys zs (by rw[Q3];exact hu) (by rw[Q3];exact hv);have hLen:(rk o.kids (QL 0 p.ops) (QL 0 q.ops)).length<=100000000:=by
  have key:∀{us vs:List UI} {l:List PI},oC us vs l->l.length<=us.length+vs.length:=fun h=>by
   induction h<;>simp<;>omega
  have:=key hPr;rw[T7,T7]at this;omega
 have PS:=oJ (by rw[T7];exact lu) (by rw[T7];exact lv) hLen hPr;have hn:=Q3 p.ops 0;have hm:=Q3 q.ops 0;obtain⟨FL,f1,f2,f3,stp⟩:=uW hat wo lo h0 hE hR o.kids 0 (QL 0 p.ops) (QL 0 q.ops) ys zs rfl (Nat.zero_le _) (by rw[hn];exact hu) (by rw[hm];exact hv) (by rw[hn];exact wu) (by rw[hm];exact wv) ly lz (by rw[hn,hm];exact hl);rw[hn,hm]at f1 stp;refine⟨FL,f1,f2,oF,?_⟩;generalize Kw (mg f) at' o.kind o.kids (Gs p.ops) (Gs q.ops) 0=M at *;generalize hL:rk o.kids (QL 0 p.ops) (QL 0 q.ops)=L at *;refine Aj Sm iS fun w0 I0=>?_;rw[BG Ll.eq_1];simp;refine Ae U1 iS ?_;simp;refine Ae U2 iS ?_;simp;refine Ae PS iS ?_;simp[Aa];refine LoopC.le (Bi (d:=[4]) (u:=1) (cs:=[iv o.kind,.sl true [],.sl true []]) 2 [5] 3 (by simp[Aa]) rfl iS) ?_;refine LoopC.le (BC 13 [6] 10 iS) ?_;refine LoopC.le (Al [(0,BL at'),(5,.pob [0] 1 0),(8,.pob [3] 1 0),(10,pis L),(12,.pob [4] 1 0),(13,.osl [6] 1 10 0 ([]:List Cf).length),(14,iv (0:Nat)),(15,iv (0:Nat))] (by simp[upd,Aa])) ?_;refine stp _ _ _ _ L 0 1 1 [] [] _ hLen rfl (Nat.zero_le _) (by simpa using hl) (Nat.zero_le _) (by simp[Aa]) (by simp[Aa]) (by simp[Aa]) (by simp[Aa]) (by simp[Aa]) fun H' v w st g3 g4 g5 g6=>?_;rw[List.nil_append]at g4 g5 g6;rw[List.nil_append];simp[g3,g4,Aa];exact AM ⟨Bb ⟨Ad rfl,Ai,AQ (f:=tA) (l:=FL) (by simp[Aa,g5]) rfl (fun x=>iS),trivial⟩,ey (by simp[Aa,g6]) rfl,trivial⟩
theorem bM{m i:Nat}(h:i<m){α:Type}(g:Nat->List α):((List.range i).flatMap g).length+(g i).length<=((List.range m).flatMap g).length:=by
 have e:List.range m=List.range (i+1)++List.range' (i+1) (m-(i+1)):=by
  rw[List.range_eq_range',List.range_eq_range',show m=(i+1)+(m-(i+1))from oF,<-List.range'_append_1];simp
 rw[e,List.range_succ,List.flatMap_append,List.flatMap_append,List.flatMap_singleton,List.length_append,List.length_append];omega
theorem cy{at':DQ}(hat:at'.length<=900000){p q:E}(lp:p.words.length<=10000000000000)(lq:q.words.length<=10000000000000){i:Nat}(ma:YT (C9 p.words i).mask)(na:Ba (C9 p.words i).new)(mb:YT (C9 q.words i).mask)(nb:Ba (C9 q.words i).new){z:Int}(hwo:Ba z){N M w:Nat}(hi:i<=1000000){D:List Cf}{K:A}{B:List A}(hB:B.length=i)(hD:D.length+(Nf at' i z (C9 p.words i) (C9 q.words i)).length<=100000000000)
  {H:Hp} (g1:H [1]=⟨1,.cells (eL p)⟩) (g2:H [2]=⟨1,.cells (eL q)⟩) (g4:H [4]=⟨1,.cells [iv 1,.osl [8] (i+1) 1 0 i,K]⟩) (g8:H [8]=⟨i+1,.arr 1 B⟩) (g7:H [7]=⟨w,.arr 10 (D.map aV)⟩)
  (hq:∀(H':Hp)(w':Nat),(∀d,d≠[4]->d≠[5]->d≠[6]->d≠[7]->d≠[8]->H' d=H d)->H' [4]=⟨1,.cells [iv 1,.osl [8] (i+1+1) 1 0 (i+1),K]⟩->H' [8]=⟨i+1+1,.arr 1 (B++[uv (Jg z (C9 p.words i) (C9 q.words i))])⟩->H' [7]=⟨w',.arr 10 ((D++Nf at' i z (C9 p.words i) (C9 q.words i)).map aV)⟩ ->
   Q .normal ⟨lk [(0,BL at'),(5,.pob [0] 1 0),(6,.pob [1] 1 0),(7,.pob [2] 1 0),(8,.pob [3] 1 0),(10,.pob [4] 1 0),(11,.osl [7] w' 10 0 (D++Nf at' i z (C9 p.words i) (C9 q.words i)).length),(12,iv N),(13,iv M),(14,iv i)],H'⟩) :
  WPC (cx Tryz.prog w0 I0 n0) Gn Q ⟨lk [(0,BL at'),(5,.pob [0] 1 0),(6,.pob [1] 1 0),(7,.pob [2] 1 0),(8,.pob [3] 1 0),(10,.pob [4] 1 0),(11,.osl [7] w 10 0 D.length),(12,iv N),(13,iv M),(14,iv i),(15,uv z)],H⟩:=by
 have u0:Ba 0:=⟨dO,dO⟩;have E1:=Wg p.words lp i;have E2:=Wg q.words lq i;generalize C9 p.words i=a at *;generalize C9 q.words i=b at *;have M1:=Hs (mask:=a.mask) hwo na ma.1 ma.2;have M2:=Hs (mask:=b.mask) hwo nb mb.1 mb.2;have hc:=iH ma mb;have M3:=Hs (mask:=Ir a.mask b.mask) u0 na hc.1 hc.2;have M4:=Hs (mask:=Ir a.mask b.mask) u0 nb hc.1 hc.2;have M5:=Hs (mask:=b.mask) (DB z a.new a.mask) (DB z b.new b.mask) mb.1 mb.2;rw[AaX]at M5;rw[(Ao Gn.eq_1)];simp[g1,g2];refine Ae E1 iS ?_;simp[g1,g2];refine Ae E2 iS ?_;simp[Aa];refine Ae M1 iS ?_;simp[Aa];refine Ae M2 iS ?_;simp[Aa];rw[show bits .and .u8 a.mask b.mask=Ir a.mask b.mask from rfl];refine Ae M3 iS ?_;simp[Aa];refine Ae M4 iS ?_;by_cases c:Q5 a b=true
 ·have cc:¬BI 0 a.new (Ir a.mask b.mask)=BI 0 b.new (Ir a.mask b.mask):=by simpa[Q5]using c
  have em:Jg z a b=z:=by unfold Jg;rw[if_pos c]
  have ec:Nf at' i z a b=[⟨at'++[(1,(i:Int))],Ag (Cr z),Ag (Cr (BI z a.new a.mask)),Ag (Cr (BI z b.new b.mask))⟩]:=by unfold Nf;rw[if_pos c]
  rw[em,ec]at hq;rw[ec]at hD;have AT:=U0 at' 1 i oF;have S1:=Px z;have S2:=Px (BI z a.new a.mask);have S3:=Px (BI z b.new b.mask);have CL:=J8 (l:=at'++[(1,(i:Int))]) (b:=Cr z) (o:=Cr (BI z a.new a.mask)) (t:=Cr (BI z b.new b.mask)) (H9 hwo) (H9 (DB _ _ _)) (H9 (DB _ _ _));simp only[List.length_singleton,List.length_append]at hD hq;generalize (⟨at'++[(1,(i:Int))],Ag (Cr z),Ag (Cr (BI z a.new a.mask)),Ag (Cr (BI z b.new b.mask))⟩:Cf)=cf at *;simp[cc];refine Ae AT iS ?_;simp;refine Ae S1 iS ?_;simp;refine Ae S2 iS ?_;simp;refine Ae S3 iS ?_;simp;refine Ae CL iS ?_;simp[g7,g4,g8,Aa];refine⟨oF,⟨oF,oF⟩,?_⟩;refine hq _ _ (fun d h4 h5 h6 h7 h8=>by simp[Aa,h4,h5,h6,h7,h8]) (by simp[Aa]) (by simp[Aa,Ax,hB]) (by simp[Aa,Ax])
 ·have cc:BI 0 a.new (Ir a.mask b.mask)=BI 0 b.new (Ir a.mask b.mask):=by simpa[Q5]using c
  have em:Jg z a b=BI (BI z a.new a.mask) b.new b.mask:=by unfold Jg;rw[if_neg c]
  have ec:Nf at' i z a b=[]:=by unfold Nf;rw[if_neg c]
  rw[em,ec]at hq;rw[List.append_nil]at hq;simp[cc,Aa];refine Ae M5 iS ?_;simp[g4,g8,Aa];refine⟨⟨oF,oF⟩,?_⟩;refine hq _ _ (fun d h4 h5 h6 h7 h8=>by simp[Aa,h4,h5,h6,h7,h8]) (by simp[Aa]) (by simp[Aa,Ax,hB]) (by simp[Aa,g7])
theorem rJ{at':DQ}(hat:at'.length<=900000){o:T}(wo:Ay o){p q:E}(lp:p.words.length<=10000000000000)(lq:q.words.length<=10000000000000)(hp:∀i,YT (C9 p.words i).mask/\Ba (C9 p.words i).new)(hq':∀i,YT (C9 q.words i).mask/\Ba (C9 q.words i).new){N M:Nat}(hN:N<=1000000){C:List Cf}{K:A}{X:VOb}(hC:C.length+((List.range N).flatMap fun i:Nat=>Nf at' i (o.words.getD i 0) (C9 p.words i) (C9 q.words i)).length<=100000000000)
  (hq:∀(H':Hp)(w:Nat)(st:List (Nat × A)),H' [0]=⟨1,.cells (tL o)⟩->H' [1]=⟨1,.cells (eL p)⟩->H' [2]=⟨1,.cells (eL q)⟩->H' [3]=⟨1,.cells z0⟩->H' [4]=⟨1,.cells [iv 1,.osl [8] (N+1) 1 0 N,K]⟩->H' [8]=⟨N+1,.arr 1 (((List.range N).map fun i:Nat=>Jg (o.words.getD i 0) (C9 p.words i) (C9 q.words i)).map uv)⟩->H' [7]=⟨w,.arr 10 ((C++(List.range N).flatMap fun i:Nat=>Nf at' i (o.words.getD i 0) (C9 p.words i) (C9 q.words i)).map aV)⟩->H' [11]=X ->
   Q (.exit 0) ⟨lk ([(0,BL at'),(5,.pob [0] 1 0),(6,.pob [1] 1 0),(7,.pob [2] 1 0),(8,.pob [3] 1 0),(10,.pob [4] 1 0),(11,.osl [7] w 10 0 (C++(List.range N).flatMap fun i:Nat=>Nf at' i (o.words.getD i 0) (C9 p.words i) (C9 q.words i)).length),(12,iv N),(13,iv M),(14,iv N)]++st),H'⟩) :
  ∀(j i w:Nat)(H:Hp),i+j=N->H [0]=⟨1,.cells (tL o)⟩->H [1]=⟨1,.cells (eL p)⟩->H [2]=⟨1,.cells (eL q)⟩->H [3]=⟨1,.cells z0⟩->H [4]=⟨1,.cells [iv 1,.osl [8] (i+1) 1 0 i,K]⟩->H [8]=⟨i+1,.arr 1 (((List.range i).map fun i:Nat=>Jg (o.words.getD i 0) (C9 p.words i) (C9 q.words i)).map uv)⟩->H [7]=⟨w,.arr 10 ((C++(List.range i).flatMap fun i:Nat=>Nf at' i (o.words.getD i 0) (C9 p.words i) (C9 q.words i)).map aV)⟩->H [11]=X ->
  LoopC (cx Tryz.prog w0 I0 n0) D8 Q ⟨lk [(0,BL at'),(5,.pob [0] 1 0),(6,.pob [1] 1 0),(7,.pob [2] 1 0),(8,.pob [3] 1 0),(10,.pob [4] 1 0),(11,.osl [7] w 10 0 (C++(List.range i).flatMap fun i:Nat=>Nf at' i (o.words.getD i 0) (C9 p.words i) (C9 q.words i)).length),(12,iv N),(13,iv M),(14,iv i)],H⟩:=by
 have u0:Ba 0:=⟨dO,dO⟩;intro j;induction j with
 |zero=>
  intro i w H hj g0 g1 g2 g3 g4 g8 g7 g11;have:i=N:=oF
  subst this;have:=hq H w [(35,bv false)] g0 g1 g2 g3 g4 g8 g7 g11;refine Ab Ah (BG D8.eq_1) ?_;simp;simpa using this
 |succ j ih=>
  intro i w H hj g0 g1 g2 g3 g4 g8 g7 g11;have hlt:i<N:=oF
  have ew:=Ap i;have hcut:=bM hlt fun i:Nat=>Nf at' i (o.words.getD i 0) (C9 p.words i) (C9 q.words i);have next:=ih (i+1)
  simp only[List.range_succ,List.flatMap_append,List.flatMap_singleton,List.map_append,List.map_cons,List.map_nil,<-List.append_assoc]at next
  generalize hD:C++(List.range i).flatMap (fun i:Nat=>Nf at' i (o.words.getD i 0) (C9 p.words i) (C9 q.words i))=D at *;have hDl:D.length=C.length+((List.range i).flatMap (fun i:Nat=>Nf at' i (o.words.getD i 0) (C9 p.words i) (C9 q.words i))).length:=by rw[<-hD,List.length_append]
  have e8:(((List.range i).map fun i:Nat=>Jg (o.words.getD i 0) (C9 p.words i) (C9 q.words i)).map uv).length=i:=iS
  generalize ((List.range i).map fun i:Nat=>Jg (o.words.getD i 0) (C9 p.words i) (C9 q.words i)).map uv=B at *;obtain⟨ma,na⟩:=hp i;obtain⟨mb,nb⟩:=hq' i;have hwo:Ba (o.words.getD i 0):=IZ (wfT_iff.1 wo).w i;have hge:∀h:i<o.words.length,o.words[i]=o.words.getD i 0:=fun h=>by rw[List.getD_eq_getElem?_getD,List.getElem?_eq_getElem h];rfl
  have hge0:¬i<o.words.length->o.words.getD i 0=0:=fun h=>by rw[List.getD_eq_getElem?_getD,List.getElem?_eq_none oF];rfl
  generalize o.words.getD i 0=z at *;refine Ab Ah (BG D8.eq_1) ?_;by_cases hil:i<o.words.length
  ·have hg:=hge hil;simp[hlt,g0,hil,hg];refine cy hat lp lq ma na mb nb hwo oF e8 oF g1 g2 g4 g8 g7 fun H' w' kH k4 k8 k7=>?_;simp;rw[ew];have e0:=kH [0] iS iS iS iS iS;have e1:=kH [1] iS iS iS iS iS;have e2:=kH [2] iS iS iS iS iS;have e3:=kH [3] iS iS iS iS iS;have e11:=kH [11] iS iS iS iS iS;have:=next w' H' oF (by rw[e0,g0]) (by rw[e1,g1]) (by rw[e2,g2]) (by rw[e3,g3]) k4 k8 (by rw[k7,<-hD];simp) (by rw[e11,g11])
   simpa using this
  ·have hz:=hge0 hil;subst hz;simp[hlt,g0,hil];refine cy hat lp lq ma na mb nb hwo oF e8 oF g1 g2 g4 g8 g7 fun H' w' kH k4 k8 k7=>?_;simp;rw[ew];have e0:=kH [0] iS iS iS iS iS;have e1:=kH [1] iS iS iS iS iS;have e2:=kH [2] iS iS iS iS iS;have e3:=kH [3] iS iS iS iS iS;have e11:=kH [11] iS iS iS iS iS;have:=next w' H' oF (by rw[e0,g0]) (by rw[e1,g1]) (by rw[e2,g2]) (by rw[e3,g3]) k4 k8 (by rw[k7,<-hD];simp) (by rw[e11,g11])
   simpa using this
theorem sA{f:Nat}{at':DQ}(hat:at'.length<=900000){o:T}{p q:E}(lp:p.kids.length<=10000000000000)(lq:q.kids.length<=10000000000000){U:Nat->T}(hU:∀i:Nat,KdR f (at'++[(0,(i:Int))]) (o.kids.getD i T0) (Eh p.kids i) (Eh q.kids i) (U i)){M:Nat}(hM:M<=1000000){C:List Cf}{W:A}{X:VOb}(hC:C.length+((List.range M).flatMap fun i:Nat=>(mg f (at'++[(0,(i:Int))]) (o.kids.getD i T0) (Eh p.kids i) (Eh q.kids i)).2).length<=100000000000)
  (hq:∀(H':Hp)(w:Nat)(st:List (Nat × A)),H' [3]=⟨1,.cells z0⟩->H' [4]=⟨1,.cells [iv 1,W,.osl [11] (M+1) 3 0 M]⟩->H' [11]=⟨M+1,.arr 3 (((List.range M).map U).map tA)⟩->H' [7]=⟨w,.arr 10 ((C++(List.range M).flatMap fun i:Nat=>(mg f (at'++[(0,(i:Int))]) (o.kids.getD i T0) (Eh p.kids i) (Eh q.kids i)).2).map aV)⟩->H' [8]=X ->
   Q (.exit 2) ⟨lk ([(0,BL at'),(5,.pob [0] 1 0),(6,.pob [1] 1 0),(7,.pob [2] 1 0),(8,.pob [3] 1 0),(10,.pob [4] 1 0),(11,.osl [7] w 10 0 (C++(List.range M).flatMap fun i:Nat=>(mg f (at'++[(0,(i:Int))]) (o.kids.getD i T0) (Eh p.kids i) (Eh q.kids i)).2).length),(13,iv M),(21,iv M)]++st),H'⟩) :
  ∀(j i w:Nat)(H:Hp),i+j=M->H [0]=⟨1,.cells (tL o)⟩->H [1]=⟨1,.cells (eL p)⟩->H [2]=⟨1,.cells (eL q)⟩->H [3]=⟨1,.cells z0⟩->H [4]=⟨1,.cells [iv 1,W,.osl [11] (i+1) 3 0 i]⟩->H [11]=⟨i+1,.arr 3 (((List.range i).map U).map tA)⟩->H [7]=⟨w,.arr 10 ((C++(List.range i).flatMap fun i:Nat=>(mg f (at'++[(0,(i:Int))]) (o.kids.getD i T0) (Eh p.kids i) (Eh q.kids i)).2).map aV)⟩->H [8]=X ->
  LoopC (cx Tryz.prog w0 I0 n0) D7 Q ⟨lk [(0,BL at'),(5,.pob [0] 1 0),(6,.pob [1] 1 0),(7,.pob [2] 1 0),(8,.pob [3] 1 0),(10,.pob [4] 1 0),(11,.osl [7] w 10 0 (C++(List.range i).flatMap fun i:Nat=>(mg f (at'++[(0,(i:Int))]) (o.kids.getD i T0) (Eh p.kids i) (Eh q.kids i)).2).length),(13,iv M),(21,iv i)],H⟩:=by
 intro j;induction j with
 |zero=>
  intro i w H hj g0 g1 g2 g3 g4 g11 g7 g8;have:i=M:=oF
  subst this;have:=hq H w [(107,bv false)] g3 g4 g11 g7 g8;refine Ab Ah (BG D7.eq_1) ?_;simp;simpa using this
 |succ j ih=>
  intro i w H hj g0 g1 g2 g3 g4 g11 g7 g8;have hlt:i<M:=oF
  have ew:=Ap i;have hcut:=bM hlt fun i:Nat=>(mg f (at'++[(0,(i:Int))]) (o.kids.getD i T0) (Eh p.kids i) (Eh q.kids i)).2;have next:=ih (i+1)
  simp only[List.range_succ,List.flatMap_append,List.flatMap_singleton,List.map_append,List.map_cons,List.map_nil,<-List.append_assoc]at next
  generalize hD:C++(List.range i).flatMap (fun i:Nat=>(mg f (at'++[(0,(i:Int))]) (o.kids.getD i T0) (Eh p.kids i) (Eh q.kids i)).2)=D at *;have hDl:D.length=C.length+((List.range i).flatMap (fun i:Nat=>(mg f (at'++[(0,(i:Int))]) (o.kids.getD i T0) (Eh p.kids i) (Eh q.kids i)).2)).length:=by rw[<-hD,List.length_append]
  have e8:(((List.range i).map U).map tA).length=i:=iS
  generalize ((List.range i).map U).map tA=B at *;obtain⟨u1,u2,u3⟩:=hU i;have S:=u3 oF;have AT:=U0 at' 0 i oF;have K1:=ZE p.kids lp i;have K2:=ZE q.kids lq i;have hge:∀h:i<o.kids.length,o.kids[i]=o.kids.getD i T0:=fun h=>by rw[List.getD_eq_getElem?_getD,List.getElem?_eq_getElem h];rfl
  have hge0:¬i<o.kids.length->o.kids.getD i T0=T0:=fun h=>by rw[List.getD_eq_getElem?_getD,List.getElem?_eq_none oF];rfl
  generalize hc:(mg f (at'++[(0,(i:Int))]) (o.kids.getD i T0) (Eh p.kids i) (Eh q.kids i)).2=c at *;have S0:¬i<o.kids.length->G.Spec Tryz.prog 37 [BL (at'++[(0,(i:Int))]),.agg [iv 0,.sl true [],.sl true []],eX (Eh p.kids i),eX (Eh q.kids i)] (.tup [tX (U i),KY c]):=fun h=>by
   have e:=hge0 h;rw[e]at S;refine S.soft ?_;show [A.sl false (A.softL ((at'++[(0,(i:Int))]).map Rl)),tX T0,.agg (A.softL (eL (Eh p.kids i))),.agg (A.softL (eL (Eh q.kids i)))]=_;rw[Uq,Ox,Ox]
  generalize o.kids.getD i T0=t at *;refine Ab Ah (BG D7.eq_1) ?_;by_cases hil:i<o.kids.length
  ·have hg:=hge hil;simp[hlt,g0,hil,hg,Aa];rw[(Ao Gw.eq_1)];simp[g1,g2,Aa];refine Ae AT iS ?_;simp[g1,g2,Aa];refine Ae K1 iS ?_;simp[g1,g2,Aa];refine Ae K2 iS ?_;simp[g1,g2,Aa];refine Ae S iS ?_;simp[g4,g11,g7,Aa];refine⟨⟨oF,oF⟩,oF,?_⟩;rw[ew];rw[List.length_append]at next
   refine next _ _ oF (by simp[Aa,g0]) (by simp[Aa,g1]) (by simp[Aa,g2]) (by simp[Aa,g3]) (by simp[Aa]) (by simp[Aa,Ax,e8]) ?_ (by simp[Aa,g8])
   simp[Aa,Ax,<-hD]
  ·have h0:=S0 hil;simp[hlt,g0,hil,Aa];rw[(Ao Gw.eq_1)];simp[g1,g2,Aa];refine Ae AT iS ?_;simp[g1,g2,Aa];refine Ae K1 iS ?_;simp[g1,g2,Aa];refine Ae K2 iS ?_;simp[g1,g2,Aa];refine Ae h0 iS ?_;simp[g4,g11,g7,Aa];refine⟨⟨oF,oF⟩,oF,?_⟩;rw[ew];rw[List.length_append]at next
   refine next _ _ oF (by simp[Aa,g0]) (by simp[Aa,g1]) (by simp[Aa,g2]) (by simp[Aa,g3]) (by simp[Aa]) (by simp[Aa,Ax,e8]) ?_ (by simp[Aa,g8])
   simp[Aa,Ax,<-hD]
theorem QI{d:Nat}{e:E}(hd:DT d e=true)(hk1:e.kind≠1):(∀x,x∈e.kids->DT (d-1) x.e=true)/\∀x,x∈e.ops->(Nr x/\x.l.length<=1048576)/\(x.kind=3->DT (d-1) x.e=true):=by
 obtain⟨k,o,n,ws,ks,l,os⟩:=e;have k1:k≠1:=hk1;rw[Vo]at hd;split at hd
 ·cases hd
 rename_i hhead;split at hd
 ·cases hd
 rename_i hw;split at hd
 ·cases hd
 rename_i hk;split at hd
 ·cases hd
 rename_i hl;split at hd
 ·cases hd
 rename_i ho;simp at hd hw hk ho;have hp2:=V6 oF hk;have hro:=rightOs_all.1 ho;have hop:∀x,x∈os->Nr x:=fun x hx=>by
  have:=hro x hx;rw[NX]at this;simp at this;exact qW this.1 (fun h3=>by
   rcases this.2 with h|h
   ·exact absurd h3 h
   ·exact h.1.1)
 refine⟨fun x hx=>(hp2 x hx).2,fun x hx=>⟨(ca hop hd.1 hd.2).2 x hx,fun h3=>?_⟩⟩;have:=hro x hx;rw[NX,if_pos h3]at this;simp at this;exact this.2.1.2
theorem bh{R R':E->T->T->Prop}{os:List OP}{a b:List T}(h:LdO R os a b):(∀o x y,o∈os->o.kind=3->x∈a->y∈b->R o.e x y->R' o.e x y)->LdO R' os a b:=by
 induction h with
 |nil=>exact fun _=>.nil
 |keep l m hne hl _ ih=>exact fun hR=>.keep l m hne hl (ih fun e x y ho hk hx hy=>hR e x y (List.mem_cons_of_mem _ ho) hk (List.mem_append_right _ hx) (List.mem_append_right _ hy))
 |del l m hne hl _ ih=>exact fun hR=>.del l m hne hl (ih fun e x y ho hk hx hy=>hR e x y (List.mem_cons_of_mem _ ho) hk (List.mem_append_right _ hx) hy)
 |ins l m hne hl _ ih=>exact fun hR=>.ins l m hne hl (ih fun e x y ho hk hx hy=>hR e x y (List.mem_cons_of_mem _ ho) hk hx (List.mem_append_right _ hy))
 |desc e x y r _ ih=>exact fun hR=>.desc e x y (hR (.mk 3 0 [] e) x y iS rfl iS iS r) (ih fun e x y ho hk hx hy=>hR e x y (List.mem_cons_of_mem _ ho) hk (List.mem_cons_of_mem _ hx) (List.mem_cons_of_mem _ hy))
theorem vz{a b:List Int}{ws:List WE}(h:Pe a b 0 ws)(i:Nat):YT (C9 ws i).mask/\Ba (C9 ws i).new:=by
 have key:∀{p:Nat} {ws:List WE},Pe a b p ws->∀w,w∈ws->YT w.mask/\Ba w.new:=fun {p ws} h=>by
  induction h with
  |nil=>intro w hw;simp at hw
  |cons p i m o n ws hp h hi hm ho hn h1 h2 _ ih=>
   intro w hw;rcases List.mem_cons.1 hw with rfl|hw
   ·exact⟨⟨Int.le_of_lt hm.1,hm.2⟩,by show Ba n;rw[<-hn];exact DB _ _ _⟩
   ·exact ih w hw
 unfold C9;cases e:ws.find? (fun w=>decide (w.at_=(i:Int))) with
 |none=>exact⟨⟨Int.le_refl _,dO⟩,⟨dO,dO⟩⟩
 |some w=>exact key h w (List.mem_of_find?_eq_some e)
theorem iI{f:Nat}{at':DQ}(hat:at'.length<=900000){o:T}(wo:Ay o){p q:E}{x y:T}(hp:Pe o.words x.words 0 p.words)(hq:Pe o.words y.words 0 q.words){R:E->T->T->Prop}(kp:Z4 R o.kids x.kids 0 p.kids)(kq:Z4 R o.kids y.kids 0 q.kids)(b1:o.words.length<=700000/\o.kids.length<=700000)(b2:x.words.length<=700000/\x.kids.length<=700000)(b3:y.words.length<=700000/\y.kids.length<=700000)(wp:p.words.length<=1000000/\p.kids.length<=1000000)(wq:q.words.length<=1000000/\q.kids.length<=1000000)
  (hU:∀i:Nat,∃u,KdR f (at'++[(0,(i:Int))]) (o.kids.getD i T0) (Eh p.kids i) (Eh q.kids i) u) :
  ∃u,Ay u/\Ag u=(gS (mg f) at' o p q).1/\((gS (mg f) at' o p q).2.length<=100000000000 ->
   G.Spec Tryz.prog 63 [BL at',tX o,eX p,eX q] (.tup [tX u,KY (gS (mg f) at' o p q).2])):=by
 obtain⟨U,hU⟩:=Classical.axiomOfChoice hU;have tw:Cn (Cn o.words.length p.words) q.words<=700000:=TC (TC b1.1 fun w hw=>by
  obtain⟨i,k1,k2,k3,_⟩:=M9 hp w hw;omega) fun w hw=>by
  obtain⟨i,k1,k2,k3,_⟩:=M9 hq w hw;omega
 have tk:B0 (B0 o.kids.length p.kids) q.kids<=700000:=T4 (T4 b1.2 fun w hw=>by
  obtain⟨i,k1,k2,k3,_⟩:=Na kp w hw;omega) fun w hw=>by
  obtain⟨i,k1,k2,k3,_⟩:=Na kq w hw;omega
 have O:=wfT_iff.1 wo;have aw:∀k,k∈p.words++q.words->0<=k.at_/\k.at_<=900000:=fun w hw=>by
  rcases List.mem_append.1 hw with hw|hw
  ·obtain⟨i,k1,k2,k3,_⟩:=M9 hp w hw;omega
  ·obtain⟨i,k1,k2,k3,_⟩:=M9 hq w hw;omega
 have ak:∀k,k∈p.kids++q.kids->0<=k.at_/\k.at_<=900000:=fun w hw=>by
  rcases List.mem_append.1 hw with hw|hw
  ·obtain⟨i,k1,k2,k3,_⟩:=Na kp w hw;omega
  ·obtain⟨i,k1,k2,k3,_⟩:=Na kq w hw;omega
 have MS:=oQ (o:=o) (p:=p) (q:=q) oF wp.1 wq.1 wp.2 wq.2 aw ak;have hc2:(gS (mg f) at' o p q).2=((List.range (Cn (Cn o.words.length p.words) q.words)).flatMap (fun i:Nat=>Nf at' i (o.words.getD i 0) (C9 p.words i) (C9 q.words i)))++((List.range (B0 (B0 o.kids.length p.kids) q.kids)).flatMap fun i:Nat=>(mg f (at'++[(0,(i:Int))]) (o.kids.getD i T0) (Eh p.kids i) (Eh q.kids i)).2):=rfl;have mw:∀z,z∈((List.range (Cn (Cn o.words.length p.words) q.words)).map fun i:Nat=>Jg (o.words.getD i 0) (C9 p.words i) (C9 q.words i))->Ba z:=fun z hz=>by
  obtain⟨i,_,rfl⟩:=List.mem_map.1 hz;unfold Jg;split
  ·exact IZ O.w i
  ·exact DB _ _ _
 refine⟨.mk 1 ((List.range (Cn (Cn o.words.length p.words) q.words)).map fun i:Nat=>Jg (o.words.getD i 0) (C9 p.words i) (C9 q.words i)) ((List.range (B0 (B0 o.kids.length p.kids) q.kids)).map U),wfT_iff.2 ⟨by simp[B6],mw,by simp;omega,by simp;omega,fun t ht=>?_⟩,?_,fun hC=>?_⟩
 ·obtain⟨i,_,rfl⟩:=List.mem_map.1 (show t∈(List.range _).map U from ht);exact(hU i).1
 ·unfold gS;refine struct_eq.2 ⟨fun j=>rfl,fun j=>?_⟩;by_cases c:j<B0 (B0 o.kids.length p.kids) q.kids
  ·have:=(hU j).2.1;simp only[List.getD_eq_getElem?_getD,List.getElem?_map,List.getElem?_range c,Option.map_some,Option.getD_some];rw[List.getD_eq_getElem?_getD]at this;rw[<-this,Dt]
  ·rw[List.getD_eq_getElem?_getD,List.getD_eq_getElem?_getD,List.getElem?_eq_none (by simp;omega),List.getElem?_eq_none (by simp;omega)]
 rw[hc2]at hC ⊢;rw[List.length_append]at hC;have hN:Cn (Cn o.words.length p.words) q.words<=1000000:=oF
 have hM:B0 (B0 o.kids.length p.kids) q.kids<=1000000:=oF
 refine Aj PW iS fun w0 I0=>?_;have L1:=fun {n0:Nat} {Q:Exit->Sta->Prop}=>rJ (n0:=n0) (w0:=w0) (I0:=I0) (Q:=Q) hat wo (p:=p) (q:=q) oF oF (vz hp) (vz hq) hN (M:=B0 (B0 o.kids.length p.kids) q.kids) (C:=[]) (K:=.osl [11] 1 3 0 0) (X:=⟨1,.arr 3 []⟩) (by simpa using Nat.le_trans (Nat.le_add_right _ _) hC);have L2:=fun {n0:Nat} {Q:Exit->Sta->Prop} {W:A} {X:VOb}=>sA (n0:=n0) (w0:=w0) (I0:=I0) (Q:=Q) hat (o:=o) (p:=p) (q:=q) oF oF hU hM (C:=(List.range (Cn (Cn o.words.length p.words) q.words)).flatMap (fun i:Nat=>Nf at' i (o.words.getD i 0) (C9 p.words i) (C9 q.words i))) (W:=W) (X:=X) hC;rw[gm JY.eq_1];generalize hgw:(fun i:Nat=>Jg (o.words.getD i 0) (C9 p.words i) (C9 q.words i))=gw at *;generalize hgc:(fun i:Nat=>Nf at' i (o.words.getD i 0) (C9 p.words i) (C9 q.words i))=gc at *;generalize hgk:(fun i:Nat=>(mg f (at'++[(0,(i:Int))]) (o.kids.getD i T0) (Eh p.kids i) (Eh q.kids i)).2)=gk at *;simp;refine Ae MS iS ?_;generalize Cn (Cn o.words.length p.words) q.words=N at *;generalize B0 (B0 o.kids.length p.kids) q.kids=M at *;simp[Aa];refine LoopC.le (Bi (d:=[4]) (u:=1) (cs:=[iv 1,.sl true [],.sl true []]) 1 [8] 1 (by simp[Aa]) rfl iS) ?_;refine LoopC.le (Bi (d:=[4]) (u:=1) (cs:=[iv 1,.osl [8] 1 1 0 0,.sl true []]) 2 [11] 3 (by simp[Aa]) rfl iS) ?_;refine LoopC.le (BC 11 [7] 10 iS) ?_;refine LoopC.le (Al [(0,BL at'),(5,.pob [0] 1 0),(6,.pob [1] 1 0),(7,.pob [2] 1 0),(8,.pob [3] 1 0),(10,.pob [4] 1 0),(11,.osl [7] 1 10 0 ([]++(List.range 0).flatMap gc).length),(12,iv N),(13,iv M),(14,iv (0:Nat))] (by simp[upd,Aa])) ?_;refine L1 (fun H' w st g0 g1 g2 g3 g4 g8 g7 g11=>?_) N 0 1 _ (Nat.zero_add _) (by simp[Aa]) (by simp[Aa]) (by simp[Aa]) (by simp[Aa]) (by simp[Aa]) (by simp[Aa]) (by simp[Aa]) (by simp[Aa]);rw[List.nil_append]at g7;rw[List.nil_append];simp;refine LoopC.le (Al [(0,BL at'),(5,.pob [0] 1 0),(6,.pob [1] 1 0),(7,.pob [2] 1 0),(8,.pob [3] 1 0),(10,.pob [4] 1 0),(11,.osl [7] w 10 0 ((List.range N).flatMap gc++(List.range 0).flatMap gk).length),(13,iv M),(21,iv (0:Nat))] iS) ?_;refine L2 (W:=.osl [8] (N+1) 1 0 N) (X:=⟨N+1,.arr 1 (((List.range N).map gw).map uv)⟩) (fun H2 w2 st2 k3 k4 k11 k7 k8=>?_) M 0 w _ (Nat.zero_add _) g0 g1 g2 g3 g4 g11 (by simpa using g7) g8;simp[k3,k4,Aa];exact AM ⟨Bb ⟨Ad rfl,AQ (f:=uv) (l:=(List.range N).map gw) (by simp[Aa,k8]) iS (fun x=>iS),AQ (f:=tA) (l:=(List.range M).map U) (by simp[Aa,k11]) iS (fun x=>iS),trivial⟩,ey (by simp[Aa,k7]) iS,trivial⟩
def TZ(f:Nat)(e:E)(x y:T):Prop:=pW f e x y/\∃d,DT d e=true
theorem SZ{f:Nat}{e:E}{x y:T}(h:TZ f e x y):rY e x:=by
 obtain⟨⟨h1,h2,h3,h4,_,_⟩,d,hd⟩:=h;have S:=(nV e h2 d hd x h3).1;have e1:=yn f e x y h1;have e2:=Vt h1;rw[e1]at S;refine⟨by rw[e2];exact BV y h4,by rw[e2,Dt],?_⟩;rw[e2];exact S
theorem X8{f:Nat}{at':DQ}{o:T}{p q:E}(hp:rY p o)(hq:rY q o)(wo:Ay o)(h2:¬(p.kind=2/\q.kind=2))(h3:¬(p.kind=3/\q.kind=3))(hm:mg f at' o p q=cI at' o p q):∃u,KdR f at' o p q u:=by
 have D1:=hp.2.2;have D2:=hq.2.2;by_cases k0:p.kind=0
 ·have e:mg f at' o p q=(Ge q o,[]):=by rw[hm,cI,if_pos k0]
  refine⟨Ge q o,hq.1,by rw[e,hq.2.1],fun _=>?_⟩;rw[e];refine Aj Dx iS fun w0 I0=>?_;rw[Ao CJ.eq_1];simp;refine Ae D1 iS ?_;simp[Aa];refine Ae D2 iS ?_;simp[Aa,k0];exact AM ⟨Ad iS,Ai,trivial⟩
 by_cases q0:q.kind=0
 ·have e:mg f at' o p q=(Ge p o,[]):=by rw[hm,cI,if_neg k0,if_pos q0]
  refine⟨Ge p o,hp.1,by rw[e,hp.2.1],fun _=>?_⟩;rw[e];refine Aj Dx iS fun w0 I0=>?_;rw[Ao CJ.eq_1];simp;refine Ae D1 iS ?_;simp[Aa];refine Ae D2 iS ?_;simp[Aa,k0,q0];exact AM ⟨Ad iS,Ai,trivial⟩
 have E:=It hp.1 hq.1 (BV _ hp.1)
 -- the walk up to the comparison
 have walk:∀{r:T} {cs:List Cf},(Ge p o=Ge q o->r=Ge p o/\cs=[])->(Ge p o≠Ge q o->r=o/\cs=[⟨at',Ag o,Ge p o,Ge q o⟩])->G.Spec Tryz.prog 37 [BL at',tX o,eX p,eX q] (.tup [tX r,KY cs]):=fun {r cs} r1 r2=>by
  by_cases c:Ge p o=Ge q o
  ·obtain⟨rfl,rfl⟩:=r1 c;rw[eqT_iff.2 (by rw[c])]at E;refine Aj Dx iS fun w0 I0=>?_;rw[Ao CJ.eq_1];simp;refine Ae D1 iS ?_;simp[Aa];refine Ae D2 iS ?_;by_cases p2:p.kind=2
   ·have q2:¬q.kind=2:=fun h=>h2 ⟨p2,h⟩;simp[Aa,p2,q0,q2];refine Ae E iS ?_;simp[Aa];exact AM ⟨Ad iS,Ai,trivial⟩
   ·by_cases p3:p.kind=3
    ·have q3:¬q.kind=3:=fun h=>h3 ⟨p3,h⟩;simp[Aa,p3,q0,q3];refine Ae E iS ?_;simp[Aa];exact AM ⟨Ad iS,Ai,trivial⟩
    ·simp[Aa,k0,p2,p3,q0];refine Ae E iS ?_;simp[Aa];exact AM ⟨Ad iS,Ai,trivial⟩
  ·obtain⟨rfl,rfl⟩:=r2 c;have ef:JE (Ge p r) (Ge q r)=false:=by
    cases h:JE (Ge p r) (Ge q r) with
    |false=>rfl
    |true=>
     have:=eqT_iff.1 h;rw[hp.2.1,hq.2.1]at this;exact absurd this c
   rw[ef]at E;have CL:=J8 (l:=at') wo hp.1 hq.1;rw[hp.2.1,hq.2.1]at CL;generalize (⟨at',Ag r,Ge p r,Ge q r⟩:Cf)=cf at *;refine Aj Dx iS fun w0 I0=>?_;rw[Ao CJ.eq_1];simp;refine Ae D1 iS ?_;simp[Aa];refine Ae D2 iS ?_;by_cases p2:p.kind=2
   ·have q2:¬q.kind=2:=fun h=>h2 ⟨p2,h⟩;simp[Aa,p2,q0,q2];refine Ae E iS ?_;simp[Aa];refine Ae CL iS ?_;simp[Aa];exact AM ⟨Ad iS,Ai,trivial⟩
   ·by_cases p3:p.kind=3
    ·have q3:¬q.kind=3:=fun h=>h3 ⟨p3,h⟩;simp[Aa,p3,q0,q3];refine Ae E iS ?_;simp[Aa];refine Ae CL iS ?_;simp[Aa];exact AM ⟨Ad iS,Ai,trivial⟩
    ·simp[Aa,k0,p2,p3,q0];refine Ae E iS ?_;simp[Aa];refine Ae CL iS ?_;simp[Aa];exact AM ⟨Ad iS,Ai,trivial⟩
 by_cases c:Ge p o=Ge q o
 ·have e:mg f at' o p q=(Ge p o,[]):=by rw[hm,cI,if_neg k0,if_neg q0,if_pos c]
  refine⟨Ge p o,hp.1,by rw[e,hp.2.1],fun _=>?_⟩;rw[e];exact walk (fun _=>⟨rfl,rfl⟩) (fun h=>absurd c h)
 ·have e:mg f at' o p q=(Ag o,[⟨at',Ag o,Ge p o,Ge q o⟩]):=by rw[hm,cI,if_neg k0,if_neg q0,if_neg c]
  refine⟨o,wo,by rw[e],fun _=>?_⟩;rw[e];exact walk (fun h=>absurd h c) (fun _=>⟨rfl,rfl⟩)
theorem rU{at':DQ}{o:T}{p q:E}{u:T}{cs:List Cf}(ep:rY p o)(eq:rY q o)(hp:p.kind=2)(hq:q.kind=2)(S:G.Spec Tryz.prog 63 [BL at',tX o,eX p,eX q] (.tup [tX u,KY cs])):G.Spec Tryz.prog 37 [BL at',tX o,eX p,eX q] (.tup [tX u,KY cs]):=by
 have E1:=ep.2.2;have E2:=eq.2.2;obtain⟨kp,op,np,wp,ksp,lp,osp⟩:=p;obtain⟨kq,oq,nq,wq,ksq,lq,osq⟩:=q;have hp:kp=2:=hp;have hq:kq=2:=hq;subst hp;subst hq;refine Aj Dx iS fun w0 I0=>?_;rw[Ao CJ.eq_1];simp;refine Ae E1 iS ?_;simp[Aa];refine Ae E2 iS ?_;simp[Aa];refine Ae S iS ?_;simp[Aa];exact AM ⟨Ad iS,Ai,trivial⟩
theorem oG{at':DQ}{o:T}{p q:E}{u:T}{cs:List Cf}(ep:rY p o)(eq:rY q o)(hp:p.kind=3)(hq:q.kind=3)(S:G.Spec Tryz.prog 64 [BL at',tX o,eX p,eX q] (.tup [tX u,KY cs])):G.Spec Tryz.prog 37 [BL at',tX o,eX p,eX q] (.tup [tX u,KY cs]):=by
 have E1:=ep.2.2;have E2:=eq.2.2;obtain⟨kp,op,np,wp,ksp,lp,osp⟩:=p;obtain⟨kq,oq,nq,wq,ksq,lq,osq⟩:=q;have hp:kp=3:=hp;have hq:kq=3:=hq;subst hp;subst hq;refine Aj Dx iS fun w0 I0=>?_;rw[Ao CJ.eq_1];simp;refine Ae E1 iS ?_;simp[Aa];refine Ae E2 iS ?_;simp[Aa];refine Ae S iS ?_;simp[Aa];exact AM ⟨Ad iS,Ai,trivial⟩
theorem qv{R:E->T->T->Prop}{us:List U}{a b:List T}(h:LdU R us a b):us.length<=a.length+b.length:=by
 induction h<;>simp<;>omega
theorem di{R:E->T->T->Prop}{a b:List T}{p:Nat}{ks:List KE}(h:Z4 R a b p ks):ks.length+p<=max p (max a.length b.length):=by
 induction h with
 |nil p h=>simp;omega
 |cons p i e ks hp h hi he hr _ ih=>
  rw[List.length_cons];omega
theorem Aje:∀(f:Nat)(p q:E)(o x y:T),TZ f p o x->TZ f q o y->∀at':DQ,at'.length+f<=800000->∃u,KdR f at' o p q u:=by
 intro f;induction f with
 |zero=>
  intro p q o x y hp hq at' hat;have k1:p.kind=0\/p.kind=1:=by
   rcases hp.1.1 with ⟨rfl,_⟩|⟨_,_,rfl,_⟩
   ·exact .inl rfl
   ·exact .inr rfl
  exact X8 (SZ hp) (SZ hq) hp.1.2.2.1 (fun h=>oF) (fun h=>oF) rfl
 |succ f ih=>
  intro p q o x y hp hq at' hat;have D1:=SZ hp;have D2:=SZ hq;obtain⟨hp,dp,rp⟩:=hp;obtain⟨hq,dq,rq⟩:=hq;have wo:=hp.2.2.1;by_cases k2:p.kind=2/\q.kind=2
  ·obtain⟨hp1,hp2,hp3,hp4,hp5,hp6⟩:=hp;obtain⟨hq1,hq2,hq3,hq4,hq5,hq6⟩:=hq;rcases hp1 with h|⟨ws,ks,rfl,h1,h2,h3,h4⟩|⟨os,rfl,h1,h2,hv,h3⟩
   ·rcases h with ⟨rfl,_⟩|⟨_,_,rfl,_⟩<;>exact absurd k2.1 iS
   rotate_left
   ·exact absurd k2.1 iS
   rcases hq1 with g|⟨ws',ks',rfl,g1,g2,g3,g4⟩|⟨os',rfl,g1,g2,gv,g3⟩
   ·rcases g with ⟨rfl,_⟩|⟨_,_,rfl,_⟩<;>exact absurd k2.2 iS
   rotate_left
   ·exact absurd k2.2 iS
   have P:=wfE_iff.1 hp2;have Q:=wfE_iff.1 hq2;have lw:=TN h3;have lw':=TN g3;have lk:=di h4;have lk':=di g4;have s1:=hp5.1;have s2:=hp5.2.1;have s3:=hp6.1;have s4:=hp6.2.1;have s5:=hq6.1;have s6:=hq6.2.1;have RP:=(QI rp iS).1;have RQ:=(QI rq iS).1;have hk:∀i:Nat,∃u,KdR f (at'++[(0,(i:Int))]) (o.kids.getD i T0) (Eh ks i) (Eh ks' i) u:=fun i=>by
    have a1:Ld f (Eh ks i) (o.kids.getD i T0) (x.kids.getD i T0):=Vx (fun x y h=>Ol (.inl ⟨rfl,h⟩)) h4 i (Nat.zero_le _);have a2:Ld f (Eh ks' i) (o.kids.getD i T0) (y.kids.getD i T0):=Vx (fun x y h=>Ol (.inl ⟨rfl,h⟩)) g4 i (Nat.zero_le _);have b1:∃d,DT d (Eh ks i)=true:=Wk (P:=fun e=>∃d,DT d e=true) ⟨64,L4 oF⟩ (fun x h=>⟨_,RP x h⟩) i;have b2:∃d,DT d (Eh ks' i)=true:=Wk (P:=fun e=>∃d,DT d e=true) ⟨64,L4 oF⟩ (fun x h=>⟨_,RQ x h⟩) i;exact ih _ _ _ _ _ ⟨⟨a1,Wk Eo (fun x h=>(P.ks x h).2) i,GN hp3 i,GN hp4 i,OI hp5 i,OI hp6 i⟩,b1⟩ ⟨⟨a2,Wk Eo (fun x h=>(Q.ks x h).2) i,GN hp3 i,GN hq4 i,OI hp5 i,OI hq6 i⟩,b2⟩ _ (by rw[List.length_append];simp;omega)
   obtain⟨u,u1,u2,u3⟩:=iI (f:=f) (at':=at') oF hp3 (p:=.mk 2 T0 T0 ws ks 0 []) (q:=.mk 2 T0 T0 ws' ks' 0 []) h3 g3 h4 g4 oF oF oF ⟨by show ws.length<=_;omega,by show ks.length<=_;omega⟩ ⟨by show ws'.length<=_;omega,by show ks'.length<=_;omega⟩ hk;have em:mg (f+1) at' o (.mk 2 T0 T0 ws ks 0 []) (.mk 2 T0 T0 ws' ks' 0 [])=gS (mg f) at' o (.mk 2 T0 T0 ws ks 0 []) (.mk 2 T0 T0 ws' ks' 0 []):=by rw[mg,if_pos ⟨rfl,rfl⟩]
   refine⟨u,u1,by rw[em];exact u2,fun hC=>?_⟩;rw[em]at hC ⊢;exact rU D1 D2 rfl rfl (u3 hC)
  ·by_cases k3:p.kind=3/\q.kind=3
   ·obtain⟨hp1,hp2,hp3,hp4,hp5,hp6⟩:=hp;obtain⟨hq1,hq2,hq3,hq4,hq5,hq6⟩:=hq;rcases hp1 with h|⟨ws,ks,rfl,h1,h2,h3,h4⟩|⟨os,rfl,h1,h2,hv,h3⟩
    ·rcases h with ⟨rfl,_⟩|⟨_,_,rfl,_⟩<;>exact absurd k3.1 iS
    ·exact absurd k3.1 iS
    rcases hq1 with g|⟨ws',ks',rfl,g1,g2,g3,g4⟩|⟨os',rfl,g1,g2,gv,g3⟩
    ·rcases g with ⟨rfl,_⟩|⟨_,_,rfl,_⟩<;>exact absurd k3.2 iS
    ·exact absurd k3.2 iS
    have P:=wfE_iff.1 hp2;have Q:=wfE_iff.1 hq2;have O:=wfT_iff.1 hp3;have X:=wfT_iff.1 hp4;have Y:=wfT_iff.1 hq4;have s2:=hp5.2.1;have s4:=hp6.2.1;have s6:=hq6.2.1;have RP:=(QI rp iS).2;have RQ:=(QI rq iS).2;obtain⟨f1,f2,f3⟩:=QP h3;obtain⟨e1,e2,e3⟩:=QP g3;have hu:LdU (TZ f) (Gs os) o.kids x.kids:=gL (bh h3 fun oo a b ho hk ha hb r=>⟨⟨r,(P.os oo ho).e,O.ks a ha,X.ks b hb,hp5.2.2 a ha,hp6.2.2 b hb⟩,_,(RP oo ho).2 hk⟩);have hv2:LdU (TZ f) (Gs os') o.kids y.kids:=gL (bh g3 fun oo a b ho hk ha hb r=>⟨⟨r,(Q.os oo ho).e,O.ks a ha,Y.ks b hb,hp5.2.2 a ha,hq6.2.2 b hb⟩,_,(RQ oo ho).2 hk⟩);have c1:=qv hu;have c2:=qv hv2;by_cases hl:(Kw (mg f) at' o.kind o.kids (Gs os) (Gs os') 0).2.length<=100000000000
    ·obtain⟨l,l1,l2,l3,l4⟩:=ab (f:=f) (at':=at') oF hp3 oF (R:=TZ f) (fun k hk=>⟨fU (O.ks k hk) (hp5.2.2 k hk),64,L4 oF⟩) (fun e k x h=>SZ h) (fun n k p q x y h1 h2=>ih _ _ _ _ _ h1 h2 _ (by rw[List.length_append];simp;omega)) (p:=.mk 3 T0 T0 [] [] o.kind os) (q:=.mk 3 T0 T0 [] [] o.kind os') hu hv2 oF oF (pP fun oo ho=>⟨(P.os oo ho).l,(P.os oo ho).e⟩) (pP fun oo ho=>⟨(Q.os oo ho).l,(Q.os oo ho).e⟩) (by show os.length<=_;omega) (by show os'.length<=_;omega) (fun oo ho=>(RP oo ho).1) (fun oo ho=>(RQ oo ho).1) (by show(Gs os).length<=_;omega) (by show(Gs os').length<=_;omega) hl;have em:mg (f+1) at' o (.mk 3 T0 T0 [] [] o.kind os) (.mk 3 T0 T0 [] [] o.kind os')=(Ag (.mk o.kind [] (Kw (mg f) at' o.kind o.kids (Gs os) (Gs os') 0).1),(Kw (mg f) at' o.kind o.kids (Gs os) (Gs os') 0).2):=by rw[mg,if_neg iS,if_pos ⟨rfl,rfl⟩];rfl
     refine⟨.mk o.kind [] l,wfT_iff.2 ⟨O.k,iS,iS,by show l.length*56<=_;omega,l2⟩,?_,fun hC=>?_⟩
     ·rw[em];refine(P6 oF oF).2 ⟨rfl,?_⟩;have l1':l.map Ag=(Kw (mg f) at' o.kind o.kids (Gs os) (Gs os') 0).1:=l1;rw[<-l1',KX]
     ·rw[em];exact oG D1 D2 rfl rfl l4
    ·obtain⟨u,u1,u2,_⟩:=w9 (f+1) _ _ _ _ _ ⟨.inr (.inr ⟨os,rfl,h1,h2,hv,h3⟩),hp2,hp3,hp4,hp5,hp6⟩ ⟨.inr (.inr ⟨os',rfl,g1,g2,gv,g3⟩),hq2,hq3,hq4,hq5,hq6⟩ at' hat;refine⟨u,u1,u2,fun hC=>absurd ?_ hl⟩;have em:mg (f+1) at' o (.mk 3 T0 T0 [] [] o.kind os) (.mk 3 T0 T0 [] [] o.kind os')=(Ag (.mk o.kind [] (Kw (mg f) at' o.kind o.kids (Gs os) (Gs os') 0).1),(Kw (mg f) at' o.kind o.kids (Gs os) (Gs os') 0).2):=by rw[mg,if_neg iS,if_pos ⟨rfl,rfl⟩];rfl
     rw[em]at hC;exact hC
   ·have hm:mg (f+1) at' o p q=cI at' o p q:=by rw[mg,if_neg k2,if_neg k3]
    exact X8 D1 D2 wo k2 k3 hm
theorem aP{f:Nat}{p q:E}{o x y:T}(hp:TZ f p o x)(hq:TZ f q o y)(hf:f<=800000)(hc:(mg f [] o p q).2.length<=100000000000):G.Spec Tryz.prog 15 [tX o,eX p,eX q] (.tup [tX (mg f [] o p q).1,KY (mg f [] o p q).2,bv true]):=by
 obtain⟨u,u1,u2,u3⟩:=Aje f p q o x y hp hq [] (by simpa using hf);have D1:=(SZ hp).2.2;have D2:=(SZ hq).2.2;have S:G.Spec Tryz.prog 37 [.sl true [],tX o,eX p,eX q] (.tup [tX u,KY (mg f [] o p q).2]):=(u3 hc).soft (by
  show [A.sl false [],A.soft (tX o),.agg (A.softL (eL p)),.agg (A.softL (eL q))]=_;rw[Q1,Ox,Ox];rfl)
 have N:=CP u u1;rw[u2]at N;generalize mg f [] o p q=M at *;refine Aj S5 iS fun w0 I0=>?_;rw[Ao LH.eq_1];simp;refine Ae D1 iS ?_;simp[Aa];refine Ae D2 iS ?_;simp[Aa];refine Ae S iS ?_;simp[Aa];refine Ae N iS ?_;simp[Aa];exact AM ⟨Ad iS,Ai,Ad rfl,trivial⟩
theorem ym{a b:T}(ha:Ay a)(hb:Ay b)(ga:Gv a=true)(gb:Gv b=true){most:Int}:TZ 1000 (ZA most a b) (Ag a) (Ag b):=by
 have g1:=Pz ha ga;have g2:=Pz hb gb;have p1:=Ou ga;have p2:=Ou gb;exact⟨Y1 ha hb g1.p g2.p g1.r g2.r,64,xN ha hb g1.p g2.p g1.r g2.r p1.2.2 p2.2.2⟩
theorem rj{o x y:T}(wo:Ay o)(wx:Ay x)(wy:Ay y)(go:Gv o=true)(gx:Gv x=true)(gy:Gv y=true){most:Int}(hm:B6 most):G.Spec Tryz.prog 20 [tX o,tX x,tX y,iv most] (.tup [tX (Jf most o x y).1,KY (Jf most o x y).2]):=by
 have g1:=Pz wo go;have g2:=Pz wx gx;have g3:=Pz wy gy;have N:=CP o wo;have D1:=Wf wo wx g1.p g2.p hm;have D2:=Wf wo wy g1.p g3.p hm;have L:=fP (y:=y) g1.w g2.w g1.p g2.p g1.r g2.r most;have M:=aP (ym (most:=most) wo wx go gx) (ym (most:=most) wo wy go gy) oF (by unfold Jf at L;omega);rw[show mg 1000 [] (Ag o) (ZA most o x) (ZA most o y)=Jf most o x y from rfl]at M;generalize Jf most o x y=R at *;refine Aj SM iS fun w0 I0=>?_;rw[Ao Lk.eq_1];simp;refine Ae N iS ?_;simp;refine Ae D1 iS ?_;simp;refine Ae D2 iS ?_;simp;refine Ae M iS ?_;simp[Aa];exact AM ⟨Ad iS,Ai,trivial⟩
theorem Xh{o x y:T}(ho:Ay o)(hx:Ay x)(hy:Ay y){most:Int}(hm:B6 most):G.Spec Tryz.prog 4 [tX o,tX x,tX y,iv most] (bv true):=by
 have T3:=oe ho hx hy;refine Aj NS iS fun w0 I0=>?_;rw[Ao Io.eq_1];simp;refine Ae T3 iS ?_;cases hg:Gv o&&Gv x&&Gv y with
 |false=>
  simp;refine Ae Ub iS ?_;simp;exact Ad rfl
 |true=>
  simp only[Bool.and_eq_true]at hg;have g1:=Pz ho hg.1.1;have g2:=Pz hx hg.1.2;have g3:=Pz hy hg.2;have A1:=pj (most:=most) g1 g2 g3 hm;have A2:=rj (most:=most) ho hx hy hg.1.1 hg.1.2 hg.2 hm;obtain⟨w1,w2,w3,w4,w5⟩:=Aek (most:=most) g1 g2 g3;have S1:=Hg _ w4 (Jf most o x y).1;rw[show Fs (Jf most o x y).1 (Jf most o x y).1=true from sameB_iff.2 rfl]at S1;have SC:=jF (t:=false) (l:=(Jf most o x y).2) (m:=(Jf most o x y).2) (List.map_id'' (fun c=>by simp[rE]) _).symm w3 w1 w2;generalize Jf most o x y=M at *;simp;refine Ae A1 iS ?_;simp[Aa];refine Ae A2 iS ?_;simp[Aa];refine Ae S1 iS ?_;simp[Aa];refine CE rfl (fun _=>SC) (fun _=>iS) iS ?_;simp;refine CE rfl (fun _=>Ub) (fun _=>iS) iS ?_;simp;exact Ad rfl
end Go.Proofs.YtlaapfplenlfaaaGreat
namespace Go.Proofs.YtlaapfplenlfaaaGreat
open Go Go.G Go.Proofs Go.PL Go.RowKit
theorem AbI{m:Int}(h:(Lit.int .i64 m).wf=true):B6 m:=by
 simp[Lit.wf,IntKind.min,IntKind.max,IntKind.bits,IntKind.signed]at h;unfold B6;omega
theorem zl{m:Int}(h:(Lit.int .u64 m).wf=true):Ba m:=by
 simp[Lit.wf,IntKind.min,IntKind.max,IntKind.bits,IntKind.signed]at h;unfold Ba;omega
theorem iy:Tryz.prog.underlying 3=some (.int .i64):=by kernel_rfl
theorem kY:Tryz.prog.underlying 61=some (.int .u64):=by kernel_rfl
theorem Ag3{n:Nat}{b:List A}(h:Has Tryz.prog n 3 b):∃m,B6 m/\b=[iv m]:=by
 cases n with
 |zero=>exact h.elim
 |succ n=>
  unfold Has at h;rw[iy]at h;obtain⟨m,hm,rfl⟩:=h;exact⟨m,AbI hm,rfl⟩
theorem Ami{n:Nat}{b:List A}(h:Has Tryz.prog n 61 b):∃m,Ba m/\b=[uv m]:=by
 cases n with
 |zero=>exact h.elim
 |succ n=>
  unfold Has at h;rw[kY]at h;obtain⟨m,hm,rfl⟩:=h;exact⟨m,zl hm,rfl⟩
theorem AiW{α:Type}{xs:List A}{g:α->A}{R:α->Prop}(h:∀x,x∈xs->∃y,R y/\x.soft=g y):∃l:List α,A.softL xs=l.map g/\l.length=xs.length/\∀y,y∈l->R y:=by
 induction xs with
 |nil=>exact⟨[],rfl,rfl,fun y h=>nomatch h⟩
 |cons x xs ih=>
  obtain⟨y,hy,e⟩:=h x iS;obtain⟨l,e2,e3,hl⟩:=ih fun z hz=>h z (by simp[hz]);refine⟨y::l,by simp[A.softL,e,e2],by simp[e3],fun z hz=>?_⟩;rcases List.mem_cons.1 hz with rfl|hz
  ·exact hy
  ·exact hl z hz
theorem Ach{P:Program}{t e:TypeId}{m:Nat}(u:P.underlying t=some (.slice e))(hb:P.bytesOf e=m){n:Nat}{b:List A}(h:Has P n t b){α:Type}{g:α->A}{R:α->Prop}(hx:∀k b,k<n->Has P k e b->∃y,R y/\(mk P e b).soft=g y) :
  ∃(f:Bool)(xs:List A)(l:List α),b=[.sl f xs]/\A.softL xs=l.map g/\l.length*m<=140737488355328/\∀y,y∈l->R y:=by
 cases n with
 |zero=>exact h.elim
 |succ n=>
  unfold Has at h;rw[u]at h;obtain⟨f,xs,rfl,_,hz,hf,hx'⟩:=h;rw[hb]at hz;obtain⟨l,e1,e2,hl⟩:=AiW (g:=g) (R:=R) (xs:=xs) fun x hxx=>by
   obtain⟨b,hb',rfl⟩:=hx' x hxx;exact hx n b oF hb'
  exact⟨f,xs,l,rfl,e1,by rw[e2];exact Nat.le_trans hz dO,hl⟩
theorem Ac4(b:List A):mk Tryz.prog 3 b=b.headD .any:=by unfold mk;rw[iy]
theorem Aew(b:List A):mk Tryz.prog 61 b=b.headD .any:=by unfold mk;rw[kY]
theorem Ajx{n:Nat}{b:List A}(h:Has Tryz.prog n 22 b):∃(f:Bool)(xs:List A)(l:List Int),b=[.sl f xs]/\A.softL xs=l.map uv/\l.length*8<=140737488355328/\∀y,y∈l->Ba y:=
 Ach (e:=61) (by kernel_rfl) (by kernel_rfl) h fun k b _ hb=>by
  obtain⟨m,h1,rfl⟩:=Ami hb;exact⟨m,h1,by rw[Aew];rfl⟩
theorem j9:Tryz.prog.underlying 25=some (.struct (Tryz.prog.fieldsOf 25)):=by kernel_rfl
theorem xk:(Tryz.prog.fieldsOf 25).toList.map Field.type=[3,22,23]:=by kernel_rfl
theorem XN(b:List A):mk Tryz.prog 25 b=.agg b:=by unfold mk;rw[j9]
theorem eG:∀(n:Nat)(b:List A),Has Tryz.prog n 25 b->∃t,Ay t/\A.softL b=[iv t.kind,C7 t.words,AV t.kids]:=by
 intro n;induction n using Nat.strongRecOn with
 |ind n ih=>
  intro b h;cases n with
  |zero=>exact h.elim
  |succ n=>
   unfold Has at h;rw[j9]at h;simp only at h;rw[Yb,xk]at h;obtain⟨_,_,rfl,h1,_,_,rfl,h2,_,_,rfl,h3,rfl⟩:=h;obtain⟨k,hk,rfl⟩:=Ag3 h1;obtain⟨f,xs,w,rfl,e2,l2,r2⟩:=Ajx h2;obtain⟨f3,ys,l,rfl,e3,l3,r3⟩:=Ach (m:=56) (e:=25) (g:=tA) (R:=Ay) (by kernel_rfl) (by kernel_rfl) h3 fun j b hj hb=>by
    obtain⟨t,ht,e⟩:=ih j oF b hb;exact⟨t,ht,by rw[XN];simp only[A.soft,e];rw[tA_eq]⟩
   refine⟨.mk k w l,wfT_iff.2 ⟨hk,r2,l2,l3,r3⟩,?_⟩;simp only[List.cons_append,List.nil_append,List.append_nil,A.softL,A.soft,e2,e3];rfl
end Go.Proofs.YtlaapfplenlfaaaGreat
namespace Go.Proofs.YtlaapfplenlfaaaGreat
open Go Go.G Go.Proofs Go.PL Go.RowKit
set_option maxRecDepth 100000 in
theorem said_mergeTrees(xs:List A)(h:ArgsHas Tryz.prog Tryz.f4.params.toList xs):G.Spec Tryz.prog 4 xs (.v (.bool true)):=by
 have h:ArgsHas Tryz.prog [25,25,25,3] xs:=h
 match xs,h with
 |[a,a2,a4,a3],⟨⟨n,b,h1,h2⟩,⟨n2,b2,h12,h22⟩,⟨n4,b4,h14,h24⟩,⟨n3,b3,h13,h23⟩,_⟩=>
  obtain⟨t,ht,et⟩:=eG _ _ h1;obtain⟨t2,ht2,et2⟩:=eG _ _ h12;obtain⟨t4,ht4,et4⟩:=eG _ _ h14;obtain⟨m,hm,rfl⟩:=Ag3 h13;rw[h2,XN,h22,XN,h24,XN,h23,Ac4];exact(Xh ht ht2 ht4 hm).soft (by simp only[A.softL,A.soft,et,et2,et4];rfl)
end Go.Proofs.YtlaapfplenlfaaaGreat
namespace Go.G
open Go.RowKit Go.ChangeShapes Go.WideShapes
section
variable {H:Type} {enc:TypeId × Value->H} {P:Program}
def Qo(P:Program)(ts:List TypeId):Bool:=ts.all fun t=>P.readableRec t&&decide (t<P.types.size)
theorem RU(hl:laidOutB P=true){W W':World}(hb:Below W.heap.size W W')(sp:Nat->Bool):∀{ts:List TypeId} {vs:List Value} {ds:List (DataW H)} {ps:List MemPlace},Qo P ts=true ->
  DataW.TrodAll enc P W 0 (fun _=>true) true ts vs ds ps->(∀x∈ps,x.block<W.heap.size)->(∀x∈ps,sp x.block=true)->DataW.TrodAll enc P W' 0 sp true ts vs ds ps
 |[],_,_,_,_,h,_,_=>by
  obtain⟨rfl,rfl,rfl⟩:=trodAll_nil h;exact trodAll_mk0
 |t::ts,_,_,_,hr,h,hlt,hsp=>by
  obtain⟨v,vs,d,ds,p,q,rfl,rfl,rfl,h1,h2⟩:=trodAll_cons h;simp only[Qo,List.all_cons,Bool.and_eq_true,decide_eq_true_eq]at hr;exact⟨p,q,WideElems.Trod_stays hl hr.1.1 hr.1.2 h1 (fun x hx=>hb.same (hlt x (by simp[hx]))) (fun x hx=>hsp x (by simp[hx])),
   RU hl hb sp (by simpa[Qo]using hr.2) h2 (fun x hx=>hlt x (by simp[hx])) (fun x hx=>hsp x (by simp[hx])),rfl⟩
theorem Qj{w:World}{base:Nat}{spare:Nat->Bool}{held:Bool}:∀{ts:List TypeId} {vs:List Value} {ds:List (DataW H)} {ps:List MemPlace},DataW.TrodAll enc P w base spare held ts vs ds ps->ds.length=ts.length/\vs.length=ts.length
 |[],_,_,_,h=>by
  obtain⟨rfl,rfl,rfl⟩:=trodAll_nil h;exact⟨rfl,rfl⟩
 |t::ts,_,_,_,h=>by
  obtain⟨v,vs,d,ds,p,q,rfl,rfl,rfl,h1,h2⟩:=trodAll_cons h;have:=Qj h2;simp[this]
theorem uQ{f:Func}{s:ChangeSpec}{apart fresh handsOn again:Bool}{W W':World}{args:Array Value}{ds gs:List (DataW H)}{before:List MemPlace}{t:TypeId}
  (hl:laidOutB P=true) (hp:Qo P f.params.toList=true) (hsv:s.vars=[]) (hW:DataW.Whole enc P f.params.toList s.vars apart W args.toList ds gs before) (hB:Below W.heap.size W W')
  (hrt:f.resultTypes=#[t]) (ht:P.underlying t=some .bool) (hfn:∀ds':List (DataW H),ds'.length=f.params.size->s.fn H ds'={ results:=[.lit (.bool true)],args:=ds' }) :
  s.post enc P f apart fresh handsOn again W args (.bool true) W':=by
 have hlt:=hW.lt;have hW':=hW;obtain⟨p,q,hA,hV,rfl,hz,hn⟩:=hW';rw[hsv]at hV;obtain⟨rfl,rfl⟩:=trodVars_none hV;have hfn:=hfn ds (by have:=(Qj hA).1;simpa using this);simp only[List.append_nil]at hlt hz hn;have hA':=fun sp=>RU hl hB sp hp hA hlt;have hr:∀(b:Nat)(sp:Nat->Bool)(hd:Bool),DataW.TrodAll enc P W' b sp hd f.resultTypes.toList ((Value.bool true).resultList f.resultTypes.size) [.lit (.bool true)] []:=fun b sp hd=>by
  rw[hrt];exact trodAll_cons_mk (shut_bool ht _) trodAll_mk0
 refine⟨ds,[],p++[],[],p,[],hW,?_,?_,?_,Below.frame hB _,fun _=>?_⟩
 ·simp only[List.append_nil,hfn];exact hr _ _ _
 ·simp only[List.append_nil,hfn];exact hA' _ (fun x hx=>by simpa using hlt x hx)
 ·simp only[List.append_nil,hfn,hsv];exact rfl
 ·refine⟨ok_one hrt rfl (okWide_bool_mk ht _),_,[],([]++p)++[],⟨[]++p,[],trodAll_append (hA' (fun _=>true) (fun _ _=>rfl)) (hr _ _ _),by rw[hsv];rfl,rfl,?_,?_⟩,?_⟩
  ·intro b off hx;have hx:MemPlace.cell b off∈p:=by simpa using hx
   rw[Below.frozen hB (hlt _ hx)];exact hz b off hx
  ·intro ha;have:=hn ha;simpa using this
  ·intro x hx _;simpa using hx
theorem law_calls{f:Func}{fid:FuncId}{s:ChangeSpec}{apart fresh handsOn again:Bool}{W:World}{base:Nat}{args:Array Value}{ds gs:List (DataW H)}{before:List MemPlace}{t:TypeId}(S:List TypeId)
  (hl:laidOutB P=true) (hp:Qo P f.params.toList=true) (hS:Qh P S=true) (hts:f.params.toList.all S.contains=true) (hsv:s.vars=[]) (hrt:f.resultTypes=#[t]) (ht:P.underlying t=some .bool)
  (hfn:∀ds':List (DataW H),ds'.length=f.params.size->s.fn H ds'={ results:=[.lit (.bool true)],args:=ds' })
  (hspec:∀as',ArgsHas P f.params.toList as'->Spec P fid as' (.v (.bool true))) (htb:Tabs P W (Old W))
  (hval:∀(j:Nat) t v,f.params[j]? = some t->args[j]? = some v->Value.okWide P W .any base t v) (hW:DataW.Whole enc P f.params.toList s.vars apart W args.toList ds gs before)
  (hwt:(DataW.weightsEach P (f.params.toList++s.plain.varTypes P) (ds++gs)).all (·<=reachBytes)=true) :
  Calls P fid args W fun e W'=>∃v,e=.returned v/\s.post enc P f apart fresh handsOn again W args v W':=by
 have hW':=hW;obtain⟨p,q,hA,hV,rfl,hz,hn⟩:=hW;have hV':=hV;rw[hsv]at hV';obtain⟨rfl,_⟩:=trodVars_none hV';have hwt':∀m,m∈DataW.weightsEach P f.params.toList ds->m<=reachBytes:=by
  have e:s.plain.varTypes P=[]:=by simp[ChangeSpec.plain,DataSpec.varTypes,hsv]
  rw[e,List.append_nil,List.append_nil,List.all_eq_true]at hwt;exact fun m hm=>by simpa using hwt m hm
 obtain⟨as',h1,h2,h3⟩:=UQ hS (fun t ht=>by rw[List.all_eq_true]at hts;simpa using hts t ht) hwt' hA (fun j u v hj hv=>hval j u v (by simpa using hj) (by simpa using hv));refine((hspec as' h2).2 W (Old W) args (fun _ h=>h) htb (by simpa using h1.symm) (fun k y hk=>?_)).mono fun e W' ⟨v,he,hB,hr⟩=>?_
 ·have:=h3 k y hk;simpa[List.getD,Array.getD_eq_getD_getElem?]using this
 ·cases hr;exact⟨_,he,uQ hl hp hsv hW' hB hrt ht hfn⟩
end
end Go.G
