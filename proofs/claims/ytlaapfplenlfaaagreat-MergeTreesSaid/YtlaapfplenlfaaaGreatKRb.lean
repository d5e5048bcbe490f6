/-
 Texts,merged,without what is not reached.
-/
import Derived.Test.YtlaapfplenlfaaaGreatKRa
set_option linter.unusedSimpArgs false
set_option linter.unusedVariables false
open Go.IntKind (i64 u64)
namespace Go.G
open Go.RowKit
section
variable {P:Program} {nms:Nat->Nm} {need:Nat->Nat->Bool} {ops:Array Oper} {md:Region.Mode}
def LB(P:Program)(nms:Nat->Nm)(need:Nat->Nat->Bool)(ops:Array Oper)(i:Nat)(K:Lg->Sta->Prop)(lg:Lg)(st:Sta):Prop:=
 match ops[i]? with
 |none=>K lg st
 |some o=>∃x E f,Ec P nms ops i o st x E f/\a9 need lg i f/\K ((i,f)::lg) (st.put o.dst x (E.app st.H))
def nH(P:Program)(nms:Nat->Nm)(need:Nat->Nat->Bool)(md:Region.Mode)(ops:Array Oper)(K:Sta->Prop):Nat->Array Bool->Lg->Sta->Prop
 |0,listed,lg,st=>Region.ready md ops listed=[]/\K st
 |fuel+1,listed,lg,st=>(Region.ready md ops listed=[]->K st)/\∀i∈Region.ready md ops listed,LB P nms need ops i (nH P nms need md ops K fuel (listed.setIfInBounds i true)) lg st
theorem j4{i:Nat}{lg:Lg}{st:Sta}{K K':Lg->Sta->Prop}(h:∀lg st,K lg st->K' lg st)(hh:LB P nms need ops i K lg st):LB P nms need ops i K' lg st:=by
 unfold LB at *;split
 ·exact h _ _ (by simpa[*]using hh)
 ·rename_i o ho;simp only[ho]at hh;obtain⟨x,E,f,h1,h2,h3⟩:=hh;exact⟨x,E,f,h1,h2,h _ _ h3⟩
def Same(lg lg':Lg):Prop:=∀p,p∈lg↔p∈lg'
theorem Same.cons{lg lg':Lg}(h:Same lg lg')(p:Nat × Ft):Same (p::lg) (p::lg'):=fun q=>by simp[h q]
theorem VH{K:Sta->Prop}:∀(fuel:Nat)(listed:Array Bool){lg lg':Lg}{st:Sta},Same lg lg'->nH P nms need md ops K fuel listed lg st->nH P nms need md ops K fuel listed lg' st
 |0,_,_,_,_,_,h=>h
 |fuel+1,listed,lg,lg',st,hs,h=>⟨h.1,fun i hi=>by
   have h1:=h.2 i hi;unfold LB at *;split
   ·rename_i ho;simp only[ho]at h1;exact VH fuel _ hs h1
   ·rename_i o ho;simp only[ho]at h1;obtain⟨x,E,f,h2,h3,h4⟩:=h1;exact⟨x,E,f,h2,fun p hp hn=>h3 p ((hs p).2 hp) hn,VH fuel _ (hs.cons _) h4⟩⟩
theorem QE{c:Cx}{K:Sta->Prop}{Q:Exit->Act->World->Prop}(hd:VE c.n ops=true)(hQ:∀st a w I μ,SR c st a w I μ->K st->Q .normal a w) :
  ∀(fuel:Nat)(listed:Array Bool)(lg:Lg)(st:Sta)(a:Act)(w:World)(I:Nat->Prop)(μ:Mu),SR c st a w I μ->nH c.P nms need md ops K fuel listed lg st->wpAny c.P md ops Q fuel listed a w
 |0,_,_,st,a,w,I,μ,h,hs=>⟨hs.1,hQ st a w I μ h hs.2⟩
 |fuel+1,listed,lg,st,a,w,I,μ,h,hs=>by
  refine⟨fun h0=>hQ st a w I μ h (hs.1 h0),fun i hi=>?_⟩;have h1:=hs.2 i hi;unfold LB at h1;unfold wpOp;split
  ·rename_i ho;simp only[ho]at h1;exact QE hd hQ fuel _ _ st a w I μ h h1
  ·rename_i o ho;simp only[ho]at h1;obtain⟨x,E,f,⟨q,x0,hg,h2,rfl,h3⟩,_,hk⟩:=h1;have hw:=Ve h hd hg;have hdst:=SF hd ho;cases q with
   |true=>
    rw[hw,if_pos rfl];exact .inl (Zg h hdst (h2 rfl) (fun a' w' I' μ' h'=>QE hd hQ fuel _ _ _ a' w' I' μ' h' hk))
   |false=>
    rw[hw,if_neg iS];obtain⟨rfl,_,_⟩:=h3 rfl;exact QE hd hQ fuel _ _ _ _ _ I μ (Yi h hdst) hk
theorem qe{o:Oper}{st:Sta}{dst:Option Tmp}{x:A}{H:Hp}(h:∀d,dst=some d->d∉o.looksAt ops):∀z∈o.op.operands,evs (st.put dst x H).s z=evs st.s z:=by
 intro z hz;cases dst with
 |none=>rfl
 |some d=>
  cases z with
  |tmp t=>
   have:t≠d:=fun e=>h d rfl (by subst e;exact List.mem_append_left _ (List.mem_filterMap.2 ⟨.tmp t,by simpa using hz,rfl⟩));simp[evs,Sta.put,upd,this]
  |const x=>rfl
  |global g=>rfl
  |func f=>rfl
theorem bI{o:Oper}{st:Sta}{dst:Option Tmp}{x:A}{H:Hp}{q:Bool}(h:∀d,dst=some d->d∉o.looksAt ops):RS ops (st.put dst x H) o q↔RS ops st o q:=by
 cases dst with
 |none=>rfl
 |some d=>
  unfold RS;cases hg:o.guard with
  |none=>rfl
  |some p=>
   obtain⟨j,f⟩:=p;constructor
   ·rintro⟨d',h1,h2⟩;have:d'≠d:=fun e=>h d rfl (by subst e;simp[Oper.looksAt,hg,h1]);refine⟨d',h1,?_⟩;simpa[Sta.put,upd,this]using h2
   ·rintro⟨d',h1,h2⟩;have:d'≠d:=fun e=>h d rfl (by subst e;simp[Oper.looksAt,hg,h1]);refine⟨d',h1,?_⟩;simpa[Sta.put,upd,this]using h2
theorem bw{i:Nat}{o:Oper}{st st':Sta}{x:A}{E:Eff}{f:Ft}(hg:∀q,RS ops st' o q↔RS ops st o q)(he:∀z∈o.op.operands,evs st'.s z=evs st.s z)(hH:Agree (f.R++f.W) st.H st'.H)
  (h:Ec P nms ops i o st x E f):Ec P nms ops i o st' x E f:=by
 obtain⟨q,x0,h1,h2,h3,h4⟩:=h;exact⟨q,x0,(hg q).2 h1,fun hq=>rn (fun z hz=>(he z hz).symm) (sX (h2 hq) hH),h3,h4⟩
theorem W4{i:Nat}{o:Oper}{st:Sta}{x:A}{E:Eff}{f:Ft}(h:Ec P nms ops i o st x E f):R7 E f.W:=by
 obtain⟨q,x0,h1,h2,h3,h4⟩:=h;cases q with
 |true=>exact wg (h2 rfl)
 |false=>obtain⟨rfl,_,_⟩:=h4 rfl;exact H6 _
theorem pw{st:Sta}{d:Option Tmp}{x:A}{H:Hp}:(st.put d x H).H=H:=by cases d<;>rfl
theorem uK(E:Eff){H H':Hp}{o:Nm}(h:H o=H' o):E.app H o=E.app H' o:=by
 cases E with
 |nil=>exact h
 |one d x=>simp only[Mx,Ar];rw[h]
 |fn rs F=>
  simp only[Eff.app];cases o with
  |nil=>exact h
  |cons r p=>simp only;rw[h]
theorem xW{E1 E2:Eff}{f g:Ft}(h1:R7 E1 f.W)(h2:R7 E2 g.W)(hn:nc f g=true)(H:Hp):E2.app (E1.app H)=E1.app (E2.app H):=by
 funext o;simp only[nc,Bool.and_eq_true,Vr]at hn;cases ha:Ym f.W o with
 |false=>
  rw[h1 o _ ha];exact uK E2 (h1 o H ha)
 |true=>
  have hb:Ym g.W o=false:=by
   cases hb:Ym g.W o with
   |false=>rfl
   |true=>exact(iR hn.1.2 ha hb).elim
  rw[h2 o _ hb];exact(uK E1 (h2 o H hb)).symm
theorem cW{E:Eff}{f g:Ft}(h:R7 E f.W)(hn:nc f g=true)(H:Hp):Agree (g.R++g.W) H (E.app H):=fun o ho=>h o H (by
 simp only[nc,Bool.and_eq_true]at hn;cases ha:Ym f.W o with
 |false=>rfl
 |true=>exact(iR hn.1 ha ho).elim)
theorem vp{st:Sta}{d e:Option Tmp}{x y:A}{H1 H2 H3:Hp}(h:∀k,d=some k->e≠some k):(st.put d x H1).put e y H3=(st.put e y H2).put d x H3:=by
 cases d with
 |none=>cases e<;>rfl
 |some d=>
  cases e with
  |none=>rfl
  |some e=>
   have hne:d≠e:=fun he=>h d rfl (by rw[he]);simp only[Sta.put,Sta.mk.injEq,and_true];funext t;simp only[upd];by_cases h1:t=e<;>by_cases h2:t=d<;>simp_all
theorem mq{i j:Nat}{oi oj:Oper}{x:A}{E:Eff}{f:Ft}{lg:Lg}(hj:ops[j]? = some oj)(hap:oi.apart ops oj=true)(hneed:∀g y E' st',Ec P nms ops j oj st' y E' g->(need i j=true->nc f g=true)->nc f g=true)(hsym:need i j=need j i)
  {K:Lg->Sta->Prop} {st:Sta} (hy:Ec P nms ops i oi st x E f) (hlg:a9 need lg i f) (h:LB P nms need ops j K ((i,f)::lg) (st.put oi.dst x (E.app st.H))) :
  LB P nms need ops j (fun lg' st'=>∃g,lg'=(j,g)::lg/\Ec P nms ops i oi st' x E f/\a9 need lg' i f/\K ((j,g)::(i,f)::lg) (st'.put oi.dst x (E.app st'.H))) lg st:=by
 obtain⟨h1,h2,h3⟩:=Oper.apart_spec hap;unfold LB at *;simp only[hj]at *;obtain⟨y,E2,g,hyj,hck,hK⟩:=h;have hnc:nc f g=true:=hneed g y E2 _ hyj (fun hn=>hck (i,f) iS hn);have s1:=W4 hy;have s2:=W4 hyj;rw[pw]at hK;have hyj':Ec P nms ops j oj st y E2 g:=bw (fun q=>(bI h1).symm) (fun z hz=>(qe h1 z hz).symm) (by
  rw[pw];intro o ho;exact(cW s1 hnc st.H o ho).symm) hyj
 have hy':Ec P nms ops i oi (st.put oj.dst y (E2.app st.H)) x E f:=bw (fun q=>bI h3) (fun z hz=>qe h3 z hz) (by
  rw[pw];exact cW s2 (qg hnc) st.H) hy
 refine⟨y,E2,g,hyj',fun p hp hn=>hck p (List.mem_cons_of_mem _ hp) hn,g,rfl,hy',fun p hp hn=>?_,?_⟩
 ·rcases List.mem_cons.1 hp with rfl|hp
  ·exact qg hnc
  ·exact hlg p hp hn
 ·rw[pw,<-vp (H1:=E.app st.H) h2,<-xW s1 s2 hnc];exact hK
def YC(ops:Array Oper)(i j:Nat):Bool:=
 match ops[i]?,ops[j]? with
 |some a,some b=>!(RE a.op == 0|| RE b.op == 0|| (RE a.op<=1&&RE b.op<=1))
 |_,_=>false
theorem nN{i j:Nat}:YC ops i j=YC ops j i:=by
 unfold YC;cases ops[i]?<;>cases ops[j]?<;>simp[Bool.or_comm,Bool.and_comm]
theorem WW{i:Nat}{o:Oper}{st:Sta}{x:A}{E:Eff}{f:Ft}(hc:RE o.op=0)(h:Ec P nms ops i o st x E f):f.R=[]/\f.W=[]:=by
 obtain⟨q,x0,h1,h2,h3,h4⟩:=h;cases q with
 |true=>exact jv hc (h2 rfl)
 |false=>exact(h4 rfl).2
theorem Wu{i:Nat}{o:Oper}{st:Sta}{x:A}{E:Eff}{f:Ft}(hc:RE o.op<=1)(h:Ec P nms ops i o st x E f):f.W=[]:=by
 obtain⟨q,x0,h1,h2,h3,h4⟩:=h;cases q with
 |true=>exact ve hc (h2 rfl)
 |false=>exact(h4 rfl).2.2
theorem M8{l:Fp}:lK l []=true:=by simp[lK]
theorem KB{l:Fp}:lK [] l=true:=by simp[lK]
theorem Aas{i j:Nat}{a b:Oper}{st st':Sta}{x y:A}{E E':Eff}{f g:Ft}(ha:ops[i]? = some a)(hb:ops[j]? = some b)(hy:Ec P nms ops i a st x E f)(hz:Ec P nms ops j b st' y E' g)(h:YC ops i j=true->nc f g=true):nc f g=true:=by
 cases hn:YC ops i j with
 |true=>exact h hn
 |false=>
  unfold YC at hn;rw[ha,hb]at hn;simp only[Bool.not_eq_false',Bool.or_eq_true,beq_iff_eq,Bool.and_eq_true,decide_eq_true_eq]at hn;rcases hn with (h0|h0)|⟨h1,h2⟩
  ·obtain⟨e1,e2⟩:=WW h0 hy;simp[nc,e1,e2,M8,KB]
  ·obtain⟨e1,e2⟩:=WW h0 hz;simp[nc,e1,e2,M8,KB]
  ·have e1:=Wu h1 hy;have e2:=Wu h2 hz;simp[nc,e1,e2,KB]
inductive gT(md:Region.Mode)(ops:Array Oper):Nat->Nat->Prop
 |base {j:Nat} {o:Oper} {e:Edge}:ops[j]? = some o->e∈o.after->Region.binds md e=true->gT md ops e.on j
 |step {i j:Nat} {o:Oper} {e:Edge}:ops[j]? = some o->e∈o.after->Region.binds md e=true->gT md ops i e.on->gT md ops i j
def Closed(md:Region.Mode)(ops:Array Oper)(listed:Array Bool):Prop:=∀m o,ops[m]? = some o->listed.getD m false=true->∀e∈o.after,Region.binds md e=true->listed.getD e.on false=true
theorem Closed.ord{listed:Array Bool}(hc:Closed md ops listed){i j:Nat}(h:gT md ops i j):listed.getD j false=true->listed.getD i false=true:=by
 induction h with
 |base ho he hb=>exact fun h=>hc _ _ ho h _ he hb
 |step ho he hb _ ih=>exact fun h=>ih (hc _ _ ho h _ he hb)
theorem Closed.ready{listed:Array Bool}(hc:Closed md ops listed){i j:Nat}(hj:j∈Region.ready md ops listed)(h:gT md ops i j):listed.getD i false=true:=by
 obtain⟨_,oj,hoj,hall⟩:=mem_ready.1 hj;cases h with
 |base ho he hb=>rw[hoj]at ho;cases ho;exact hall _ he hb
 |step ho he hb hi=>rw[hoj]at ho;cases ho;exact hc.ord hi (hall _ he hb)
theorem Closed.add{listed:Array Bool}(hc:Closed md ops listed){i:Nat}(hi:i∈Region.ready md ops listed):Closed md ops (listed.setIfInBounds i true):=by
 obtain⟨_,oi,hoi,hall⟩:=mem_ready.1 hi;intro m o ho hm e he hb;have keep:∀k,listed.getD k false=true->(listed.setIfInBounds i true).getD k false=true:=fun k hk=>by
  by_cases hik:i=k
  ·subst hik;simp only[Array.getD_eq_getD_getElem?]at hk ⊢;rw[Array.getElem?_setIfInBounds];split
   ·split
    ·rfl
    ·rename_i h1;rw[Array.getElem?_eq_none oF]at hk;cases hk
   ·exact hk
  ·rw[getD_set_ne false hik];exact hk
 by_cases hmi:i=m
 ·subst hmi;rw[hoi]at ho;cases ho;exact keep _ (hall e he hb)
 ·rw[getD_set_ne false hmi]at hm;exact keep _ (hc m o ho hm e he hb)
theorem bQ{listed:Array Bool}{i:Nat}(h:listed.getD i true=false):listed.getD i false=false:=by
 simp only[Array.getD_eq_getD_getElem?]at h ⊢;cases hq:listed[i]?<;>simp_all
def mG(md:Region.Mode)(o:Oper)(acc:List Nat):Nat:=o.after.toList.foldr (fun e m=>if Region.binds md e=true then m||| (1 <<< e.on)||| acc.getD e.on 0 else m) 0
def jC(md:Region.Mode):List Oper->List Nat->List Nat
 |[],acc=>acc
 |o::l,acc=>jC md l (acc++[mG md o acc])
theorem nW{o:Oper}{acc:List Nat}{i:Nat}(h:(mG md o acc).testBit i=true):∃e,e∈o.after/\Region.binds md e=true/\(e.on=i\/(acc.getD e.on 0).testBit i=true):=by
 unfold mG at h;have:∀l:List Edge,(l.foldr (fun e m=>if Region.binds md e=true then m||| (1 <<< e.on)||| acc.getD e.on 0 else m) 0).testBit i=true->∃e,e∈l/\Region.binds md e=true/\(e.on=i\/(acc.getD e.on 0).testBit i=true):=by
  intro l;induction l with
  |nil=>intro h;simp at h
  |cons e l ih=>
   intro h;simp only[List.foldr_cons]at h;split at h
   ·rename_i hb;simp only[Nat.testBit_or,Bool.or_eq_true]at h;rcases h with (h|h)|h
    ·obtain⟨e',h1,h2⟩:=ih h;exact⟨e',List.mem_cons_of_mem _ h1,h2⟩
    ·refine⟨e,iS,hb,.inl ?_⟩;rw[Nat.one_shiftLeft,Nat.testBit_two_pow]at h;simpa using h
    ·exact⟨e,iS,hb,.inr h⟩
   ·obtain⟨e',h1,h2⟩:=ih h;exact⟨e',List.mem_cons_of_mem _ h1,h2⟩
 obtain⟨e,h1,h2⟩:=this _ h;exact⟨e,by simpa using h1,h2⟩
theorem WR:∀(l:List Oper)(acc:List Nat),(∀k,l[k]? = ops[acc.length+k]?)->(∀i j,(acc.getD j 0).testBit i=true->gT md ops i j)->∀i j,((jC md l acc).getD j 0).testBit i=true->gT md ops i j
 |[],acc,_,h=>h
 |o::l,acc,hl,h=>by
  unfold jC;refine WR l _ (fun k=>by have:=hl (k+1);simpa[Nat.add_assoc,Nat.add_comm 1 k]using this) (fun i j hj=>?_);have h0:ops[acc.length]? = some o:=by simpa using (hl 0).symm
  rcases Nat.lt_trichotomy j acc.length with hlt|rfl|hgt
  ·rw[List.getD_eq_getElem?_getD,List.getElem?_append_left hlt,<-List.getD_eq_getElem?_getD]at hj;exact h i j hj
  ·rw[List.getD_eq_getElem?_getD,List.getElem?_append_right (Cq _)]at hj;simp only[Nat.sub_self,List.getElem?_cons_zero,Option.getD_some]at hj;obtain⟨e,h1,h2,h3|h3⟩:=nW hj
   ·subst h3;exact .base h0 h1 h2
   ·exact .step h0 h1 h2 (h i e.on h3)
  ·rw[List.getD_eq_getElem?_getD,List.getElem?_eq_none (by simp;omega)]at hj;simp at hj
def W8(ms:List Nat)(i j:Nat):Bool:=(ms.getD j 0).testBit i
def Wp(ops:Array Oper)(ms:List Nat)(i j:Nat):Bool:=YC ops i j&&!W8 ms i j&&!W8 ms j i
theorem nS{ms:List Nat}{i j:Nat}:Wp ops ms i j=Wp ops ms j i:=by
 unfold Wp;rw[nN,Bool.and_assoc,Bool.and_comm (!W8 ms i j),<-Bool.and_assoc]
theorem rP{K:Sta->Prop}{i:Nat}{oi:Oper}(hi:ops[i]? = some oi){f:Ft} :
  ∀(fuel:Nat)(listed:Array Bool)(lg:Lg)(st:Sta)(x:A)(E:Eff),
   Closed md ops listed->(∀j oj,ops[j]? = some oj->j≠i->listed.getD j true=false->¬gT md ops i j->¬gT md ops j i->oi.apart ops oj=true/\need i j=need j i/\(∀g y E' st',Ec P nms ops j oj st' y E' g->(need i j=true->nc f g=true)->nc f g=true)) ->
   i∈Region.ready md ops listed->Ec P nms ops i oi st x E f->a9 need lg i f ->
   nH P nms need md ops K fuel (listed.setIfInBounds i true) ((i,f)::lg) (st.put oi.dst x (E.app st.H))->nH P nms need md ops K (fuel+1) listed lg st:=by
 have self:∀{lg:Lg} {st:Sta} {x:A} {E:Eff} {K':Lg->Sta->Prop},Ec P nms ops i oi st x E f->a9 need lg i f->K' ((i,f)::lg) (st.put oi.dst x (E.app st.H))->LB P nms need ops i K' lg st:=fun hy ha h=>by
  unfold LB;simp only[hi];exact⟨_,_,_,hy,ha,h⟩
 intro fuel;induction fuel with
 |zero=>
  intro listed lg st x E _ _ hr hy ha H;refine⟨fun h=>(by rw[h]at hr;cases hr),fun j hj=>?_⟩;by_cases hji:j=i
  ·subst hji;exact self hy ha H
  ·have:=ready_mono hj hji;rw[H.1]at this;cases this
 |succ fuel ih=>
  intro listed lg st x E hcl hfree hr hy ha H;refine⟨fun h=>(by rw[h]at hr;cases hr),fun j hj=>?_⟩;by_cases hji:j=i
  ·subst hji;exact self hy ha H
  ·have h1:=H.2 j (ready_mono hj hji);obtain⟨hjun,oj,hoj,hall⟩:=mem_ready.1 hj;have hun:listed.getD i true=false:=(mem_ready.1 hr).1;have no1:¬gT md ops i j:=fun h=>by have:=hcl.ready hj h;rw[bQ hun]at this;cases this
   have no2:¬gT md ops j i:=fun h=>by have:=hcl.ready hr h;rw[bQ hjun]at this;cases this
   obtain⟨hap,hsy,hnd⟩:=hfree j oj hoj hji hjun no1 no2;have h2:=mq hoj hap hnd hsy hy ha h1;have hfree':∀k ok,ops[k]? = some ok->k≠i->(listed.setIfInBounds j true).getD k true=false ->
     ¬gT md ops i k->¬gT md ops k i->oi.apart ops ok=true/\need i k=need k i/\(∀g y E' st',Ec P nms ops k ok st' y E' g->(need i k=true->nc f g=true)->nc f g=true):=fun k ok hk hki hun hno1 hno2=>by
    refine hfree k ok hk hki ?_ hno1 hno2;by_cases hjk:j=k
    ·subst hjk;exact hjun
    ·rw[getD_set_ne true hjk]at hun;exact hun
   refine j4 (fun lg' st' ⟨g,e,h3,h4,h5⟩=>ih (listed.setIfInBounds j true) lg' st' x E (hcl.add hj) hfree' (ready_mono hr (Ne.symm hji)) h3 h4 ?_) h2;subst e;rw[Array.setIfInBounds_comm _ _ hji];exact VH fuel _ (fun p=>by simp only[List.mem_cons];exact⟨fun h=>h.elim (fun h=>.inr (.inl h)) (fun h=>h.elim .inl (fun h=>.inr (.inr h))),fun h=>h.elim (fun h=>.inr (.inl h)) (fun h=>h.elim .inl (fun h=>.inr (.inr h)))⟩) h5
def uL(md:Region.Mode)(ops:Array Oper)(ms:List Nat)(listed:Array Bool)(i:Nat):Bool:=
 match ops[i]? with
 |none=>false
 |some oi=>(List.range ops.size).all fun j=>j == i|| listed.getD j true|| W8 ms i j|| W8 ms j i|| match ops[j]? with
   |some oj=>oi.apart ops oj
   |none=>true
theorem nG{ms:List Nat}(hms:∀i j,W8 ms i j=true->gT md ops i j){i:Nat}{oi:Oper}{listed:Array Bool}(hi:ops[i]? = some oi)(h:uL md ops ms listed i=true)(j:Nat)(oj:Oper)
  (hj:ops[j]? = some oj) (hne:j≠i) (hun:listed.getD j true=false) (h1:¬gT md ops i j) (h2:¬gT md ops j i) :
  oi.apart ops oj=true:=by
 simp only[uL,hi,List.all_eq_true,List.mem_range]at h;have:=h j (Array.getElem?_eq_some_iff.1 hj).1;simp only[hj,hun,Bool.or_eq_true,beq_iff_eq,hne,Bool.false_eq_true,or_false,false_or,Bool.and_eq_true]at this;rcases this with (h3|h3)|h3
 ·exact(h1 (hms _ _ h3)).elim
 ·exact(h2 (hms _ _ h3)).elim
 ·exact h3
def Pr(md:Region.Mode)(ops:Array Oper)(ms:List Nat):Nat->Nat->Array Bool->Bool
 |0,_,listed=>(Region.ready md ops listed).isEmpty
 |fuel+1,k,listed=>(Region.ready md ops listed).contains k&&uL md ops ms listed k&&Pr md ops ms fuel (k+1) (listed.setIfInBounds k true)
def AcT(ops:Array Oper)(ms:List Nat):Bool:=Pr .any ops ms ops.size 0 (Array.replicate ops.size false)
theorem qU{ms:List Nat}(hms:∀i j,W8 ms i j=true->gT md ops i j){K:Sta->Prop}:∀(l:List Oper)(k:Nat)(listed:Array Bool)(lg:Lg)(st:Sta),Closed md ops listed->(∀j,l[j]? = ops[k+j]?) ->
  Pr md ops ms l.length k listed=true->vH P nms (Wp ops ms) ops K l k lg st->nH P nms (Wp ops ms) md ops K l.length listed lg st
 |[],_,_,_,_,_,_,hB,h=>⟨by simpa[Pr]using hB,h⟩
 |o::l,k,listed,lg,st,hcl,hl,hB,h=>by
  have h0:ops[k]? = some o:=by simpa using (hl 0).symm
  simp only[List.length_cons,Pr,Bool.and_eq_true]at hB;obtain⟨⟨hr,hf⟩,hB'⟩:=hB;have hr:k∈Region.ready md ops listed:=by simpa using hr
  obtain⟨x,E,f,hy,ha,hK⟩:=h;exact rP h0 l.length listed lg st x E hcl (fun j oj hj hne hun n1 n2=>⟨nG hms h0 hf j oj hj hne hun n1 n2,nS,fun g y E' st' hy' hn=>Aas h0 hj hy hy' (fun hN=>hn (by
   have e1:W8 ms k j=false:=by
    cases e:W8 ms k j with
    |false=>rfl
    |true=>exact(n1 (hms _ _ e)).elim
   have e2:W8 ms j k=false:=by
    cases e:W8 ms j k with
    |false=>rfl
    |true=>exact(n2 (hms _ _ e)).elim
   simp[Wp,hN,e1,e2]))⟩) hr hy ha
   (qU hms l (k+1) _ _ _ (hcl.add hr) (fun j=>by have:=hl (j+1);simpa[Nat.add_assoc,Nat.add_comm 1 j]using this) hB' hK)
end
def jw(ops:Array Oper):List Nat:=jC .any ops.toList []
theorem mL{ops:Array Oper}(i j:Nat)(h:W8 (jw ops) i j=true):gT .any ops i j:=
 WR ops.toList [] (fun k=>iS) (fun i j h=>by simp at h) i j h
def yN(draw:Bool)(ops:Array Oper):Nat->Nat->Bool:=bif draw then Wp ops (jw ops)else fun _ _=>false
def qc(n:Nat)(ops:Array Oper)(draw:Bool):Bool:=VE n ops&&(!draw|| AcT ops (jw ops))
theorem dy{c:Cx}{nms:Nat->Nm}{K:Sta->Prop}{Q:Exit->Act->World->Prop}{id:Nat}{ops:Array Oper}{draw:Bool}(hm:c.P.follows .mixedOrders=true)(hok:qc c.n ops draw=true)
  (hQ:∀st a w I μ,SR c st a w I μ->K st->Q .normal a w) {st:Sta} {a:Act} {w:World} {I:Nat->Prop} {μ:Mu} (h:SR c st a w I μ) (hs:vH c.P nms (yN draw ops) ops K ops.toList 0 [] st):(Code.region id ops draw).wp c.P Q a w:=by
 simp only[qc,Bool.and_eq_true,Bool.or_eq_true,Bool.not_eq_true']at hok;obtain⟨hd,hl⟩:=hok;cases draw with
 |false=>
  apply wp_region;rw[List.range_eq_range'];have:=cC hd hQ ops.toList 0 [] st a w I μ iS h hs;simpa using this
 |true=>
  apply wp_region_any hm;have hl:AcT ops (jw ops)=true:=by simpa using hl
  have h1:=qU (K:=K) (nms:=nms) (P:=c.P) mL ops.toList 0 (Array.replicate ops.size false) [] st (fun m o _ hm=>by
   simp only[Array.getD_eq_getD_getElem?,Array.getElem?_replicate]at hm;split at hm<;>simp at hm) iS (by simpa[AcT]using hl) hs
  have h':SR c st a { w with drawn:=w.drawn+1 } I μ:=by
   obtain⟨hx,hs'⟩:=h.sim.same (w':={ w with drawn:=w.drawn+1 }) (I':=I) ⟨rfl,rfl,rfl,Cq _,fun _ _ _=>rfl⟩ (fun _ hb=>hb) (fun _ hb=>.inl hb);exact⟨hs',h.size,h.defers,fun t=>hx.rel (h.rel t)⟩
  have:=QE (md:=.any) hd hQ ops.toList.length (Array.replicate ops.size false) [] st a _ I μ h' h1;simpa using this
def Up(c:Cx)(Q:Exit->Sta->Prop):Exit->Act->World->Prop:=fun e a w=>∃st I μ,SR c st a w I μ/\Q e st
def AWP(c:Cx)(code:Code)(Q:Exit->Sta->Prop)(st:Sta):Prop:=∀a w I μ,SR c st a w I μ->code.wp c.P (Up c Q) a w
def Amj(c:Cx)(y:Code)(Q:Exit->Sta->Prop):Exit->Sta->Prop
 |.normal,st=>AWP c y Q st
 |e,st=>Q e st
def BA(id:Nat)(Q:Exit->Sta->Prop):Exit->Sta->Prop
 |.exit id',st=>if id'=id then Q .normal st else Q (.exit id') st
 |e,st=>Q e st
section
variable {c:Cx} {Q:Exit->Sta->Prop} {st:Sta} {x y:Code}
@[simp]theorem xH{i:Nat}:BA i Q .normal st=Q .normal st:=rfl
@[simp]theorem AbO{i:Nat}:BA i Q .ret st=Q .ret st:=rfl
@[simp]theorem dT{i:Nat}:BA i Q (.exit i) st=Q .normal st:=by simp[BA]
theorem RM{i j:Nat}(h:j≠i):BA i Q (.exit j) st=Q (.exit j) st:=by simp[BA,h]
theorem AWP.mono{Q':Exit->Sta->Prop}(h:AWP c x Q st)(hq:∀e st,Q e st->Q' e st):AWP c x Q' st:=fun a w I μ hs=>
 wp_mono (h a w I μ hs) fun e a' w' ⟨st',I',μ',h1,h2⟩=>⟨st',I',μ',h1,hq e st' h2⟩
theorem AaZ(h:AWP c x (Amj c y Q) st):AWP c (.seq x y) Q st:=fun a w I μ hs=>
 wp_seq (wp_mono (h a w I μ hs) fun e a' w' ⟨st',I',μ',h1,h2⟩=>by
  cases e<;>first|exact h2 a' w' I' μ' h1|exact⟨st',I',μ',h1,h2⟩)
theorem w6(h:Q .normal st):AWP c .skip Q st:=fun a w I μ hs=>wp_skip ⟨st,I,μ,hs,h⟩
theorem yr{i:Nat}(h:Q (.exit i) st):AWP c (.exit i) Q st:=fun a w I μ hs=>wp_exit ⟨st,I,μ,hs,h⟩
theorem AaE(h:Q .ret st):AWP c .ret Q st:=fun a w I μ hs=>wp_ret ⟨st,I,μ,hs,h⟩
theorem rX{i:Nat}(h:AWP c x (BA i Q) st):AWP c (.block i x) Q st:=fun a w I μ hs=>
 wp_block (wp_mono (h a w I μ hs) fun e a' w' ⟨st',I',μ',h1,h2⟩=>by
  cases e with
  |exit j=>
   simp only[Exit.inBlock];by_cases hj:j=i
   ·subst hj;rw[if_pos rfl];exact⟨st',I',μ',h1,by simpa using h2⟩
   ·rw[if_neg hj];exact⟨st',I',μ',h1,by rwa [RM hj]at h2⟩
  |_=>exact⟨st',I',μ',h1,h2⟩)
theorem uO{o:Operand}{b:Bool}(hb:evs st.s o=.v (.bool b))(ht:b=true->AWP c x Q st)(hf:b=false->AWP c y Q st):AWP c (.cond o x y) Q st:=fun a w I μ hs=>by
 have h1:=hs.evs o;rw[hb]at h1;generalize hu:a.eval o=u at h1;cases h1;exact wp_cond_split hu (fun h=>ht h a w I μ hs) (fun h=>hf h a w I μ hs)
def fF(P:Program)(body:Code)(Q:Exit->Act->World->Prop)(a:Act)(w:World):Prop:=
 ∀(b:Frame)(k:List Item)(cs:List Frame),∃e a' w',Q e a' w'/\Arrives P (lone (b.at a (.code body :: .inLoop body::k)) cs w) b k cs e a' w'
theorem mN{P:Program}{body:Code}{Q:Exit->Act->World->Prop}{a:Act}{w:World}(h:body.wp P (Exit.then (fF P body Q) Q) a w):fF P body Q a w:=by
 intro b k cs;obtain⟨e,a₁,w₁,hq,harr⟩:=h b (.inLoop body::k) cs;cases e with
 |normal=>
  obtain⟨e₂,a₂,w₂,hq₂,harr₂⟩:=hq b k cs;exact⟨e₂,a₂,w₂,hq₂,.of_steps (Steps.trans harr (.one step_inLoop)) harr₂⟩
 |exit id=>exact⟨_,a₁,w₁,hq,.pass (x:=.inLoop body) rfl (fun _ _=>.inl iS) harr⟩
 |goto l=>exact⟨_,a₁,w₁,hq,.pass (x:=.inLoop body) rfl (fun _ _=>.inl iS) harr⟩
 |ret=>exact⟨_,a₁,w₁,hq,.pass (x:=.inLoop body) rfl (fun _ _=>.inl iS) harr⟩
 |panic ch=>exact⟨_,a₁,w₁,hq,.pass (x:=.inLoop body) rfl (fun _ _=>.inl iS) harr⟩
 |outgrown=>exact⟨_,a₁,w₁,hq,.pass (x:=.inLoop body) rfl (fun _ _=>.inl iS) harr⟩
theorem rh{P:Program}{body:Code}{Q:Exit->Act->World->Prop}{a:Act}{w:World}(h:fF P body Q a w):(Code.loop body).wp P Q a w:=by
 intro b k cs;obtain⟨e,a₁,w₁,hq,harr⟩:=h b k cs;exact⟨e,a₁,w₁,hq,.of_steps (.one step_loop) harr⟩
def AHead(c:Cx)(body:Code)(Q:Exit->Sta->Prop)(st:Sta):Prop:=∀a w I μ,SR c st a w I μ->fF c.P body (Up c Q) a w
def Ahd(c:Cx)(body:Code)(Q:Exit->Sta->Prop):Exit->Sta->Prop
 |.normal,st=>AHead c body Q st
 |e,st=>Q e st
theorem ik(h:AWP c x (Ahd c x Q) st):AHead c x Q st:=fun a w I μ hs=>
 mN (wp_mono (h a w I μ hs) fun e a' w' ⟨st',I',μ',h1,h2⟩=>by
  cases e<;>first|exact h2 a' w' I' μ' h1|exact⟨st',I',μ',h1,h2⟩)
theorem xS(h:AHead c x Q st):AWP c (.loop x) Q st:=fun a w I μ hs=>rh (h a w I μ hs)
def Le(c:Cx)(st st':Sta):Prop:=∀a w I μ,SR c st a w I μ->∃I' μ',SR c st' a w I' μ'
theorem Le.refl:Le c st st:=fun _ _ I μ h=>⟨I,μ,h⟩
theorem Le.trans{st1 st2 st3:Sta}(h:Le c st1 st2)(k:Le c st2 st3):Le c st1 st3:=fun a w I μ hs=>let ⟨I',μ',h1⟩:=h a w I μ hs;k a w I' μ' h1
theorem AWP.le{st':Sta}(h:Le c st st')(k:AWP c x Q st'):AWP c x Q st:=fun a w I μ hs=>let ⟨I',μ',h1⟩:=h a w I μ hs;k a w I' μ' h1
theorem AHead.le{st':Sta}(h:Le c st st')(k:AHead c x Q st'):AHead c x Q st:=fun a w I μ hs=>let ⟨I',μ',h1⟩:=h a w I μ hs;k a w I' μ' h1
theorem vW{s s':Nat->A}{H:Hp}(h:∀t,s' t=s t\/s' t=.any):Le c ⟨s,H⟩ ⟨s',H⟩:=fun a w I μ hs=>
 ⟨I,μ,hs.sim,hs.size,hs.defers,fun t=>by
  rcases h t with e|e
  ·show Rel w I μ (s' t) _;rw[e];exact hs.rel t
  ·show Rel w I μ (s' t) _;rw[e];exact .any _ _⟩
theorem ja(s:Nat->A):∀(l:List (Nat × A)),(∀p,p∈l->s p.1=p.2)->∀t,lk l t=s t\/lk l t=.any
 |[],_,t=>.inr rfl
 |(k,x)::l,h,t=>by
  unfold lk;by_cases e:k=t
  ·subst e;rw[if_pos rfl];exact .inl (h (k,x) iS).symm
  ·rw[if_neg e];exact ja s l (fun p hp=>h p (by simp[hp])) t
theorem Al{s:Nat->A}{H:Hp}(l:List (Nat × A))(h:∀p,p∈l->s p.1=p.2):Le c ⟨s,H⟩ ⟨lk l,H⟩:=vW (ja s l h)
def Sn(P:Program)(st:Sta):ResultVar->Option A
 |.tmp t=>some (st.s t)
 |.cell a t=>HW P st.H t (st.s a)
def JH(P:Program)(st:Sta):List ResultVar->Option (List A)
 |[]=>some []
 |r::rs=>match Sn P st r,JH P st rs with
  |some x,some l=>some (x::l)
  |_,_=>none
def HX(P:Program)(st:Sta)(rs:List ResultVar):Option A:=
 match rs with
 |[r]=>Sn P st r
 |rs=>(JH P st rs).map .tup
theorem Ts{a:Act}{w:World}{I:Nat->Prop}{μ:Mu}(hs:SR c st a w I μ){r:ResultVar}{x:A}(h:Sn c.P st r=some x) :
  ∃v,((match r with|.tmp t=>pure (a.tmps.getD t undef)|.cell p t=>do loadVar t (<-asAddr (a.tmps.getD p undef))):Sem Value).run c.P w=.ok v w/\Rel w I μ x v:=by
 cases r with
 |tmp t=>cases h;exact⟨_,rfl,hs.rel t⟩
 |cell p t=>
  have hr:=hs.rel p;obtain⟨v,h1,h2⟩:=PA hs.sim hr h;refine⟨v,?_,h2⟩;have:∃q,a.tmps.getD p undef=.pointer (some q):=Il hr (ba h);obtain⟨q,hq⟩:=this;rw[hq]at h1;simp only[hq,asAddr];simpa[Instr.loadAt,Instr.sureAddr]using h1
theorem RR{a:Act}{w:World}{I:Nat->Prop}{μ:Mu}(hs:SR c st a w I μ):∀{rs:List ResultVar} {xs:List A},JH c.P st rs=some xs ->
  ∃vs:List Value,(rs.mapM (m:=Sem) fun|.tmp t=>pure (a.tmps.getD t undef)|.cell p t=>do loadVar t (<-asAddr (a.tmps.getD p undef))).run c.P w=.ok vs w/\vs.length=xs.length/\∀(k:Nat)(y:A)(v:Value),xs[k]? = some y->vs[k]? = some v->Rel w I μ y v
 |[],xs,h=>by cases h;exact⟨[],rfl,rfl,fun k y v hk=>by simp at hk⟩
 |r::rs,xs,h=>by
  unfold JH at h;split at h
  ·rename_i x l hx hl;cases h;obtain⟨v,h1,h2⟩:=Ts hs hx;obtain⟨vs,h3,h4,h5⟩:=RR hs hl;refine⟨v::vs,?_,by simp[h4],fun k y u hk hu=>?_⟩
   ·rw[List.mapM_cons];simp only[Sem.run_bind,h1,Result.andThen_ok,h3,Sem.run_pure]
   ·cases k with
    |zero=>simp at hk hu;subst hk hu;exact h2
    |succ k=>exact h5 k y u (by simpa using hk) (by simpa using hu)
  ·cases h
theorem aZ{fn:Func}{a:Act}{w:World}{I:Nat->Prop}{μ:Mu}(hs:SR c st a w I μ){x:A}(h:HX c.P st fn.results.toList=some x):∃v,(results fn a.tmps).run c.P w=.ok v w/\Rel w I μ x v:=by
 have hm:∀{vs:List Value},(fn.results.toList.mapM (m:=Sem) fun|.tmp t=>pure (a.tmps.getD t undef)|.cell p t=>do loadVar t (<-asAddr (a.tmps.getD p undef))).run c.P w=.ok vs w ->
   (results fn a.tmps).run c.P w=.ok (if h:vs.toArray.size=1 then vs.toArray[0]else .tuple vs.toArray) w:=fun {vs} hv=>by
  unfold results;rw[Array.mapM_eq_mapM_toList];simp only[Sem.run_bind,Sem.run_map]
  erw [hv]
  rfl
 unfold HX at h;split at h
 ·rename_i r hr;obtain⟨v,h1,h2⟩:=Ts hs h;have:=hm (vs:=[v]) (by rw[hr,List.mapM_cons];simp only[Sem.run_bind,h1,Result.andThen_ok];rfl);exact⟨v,by simpa using this,h2⟩
 ·rename_i rs hne;simp only[Option.map_eq_some_iff]at h;obtain⟨xs,hx,rfl⟩:=h;obtain⟨vs,h1,h2,h3⟩:=RR hs hx;have hlen:xs.length=fn.results.toList.length:=by
   have:∀(rs:List ResultVar)(xs:List A),JH c.P st rs=some xs->xs.length=rs.length:=by
    intro rs;induction rs with
    |nil=>intro xs h;cases h;rfl
    |cons r rs ih=>
     intro xs h;unfold JH at h;split at h
     ·rename_i x l _ hl;cases h;simp[ih l hl]
     ·cases h
   exact this _ _ hx
  have hv1:¬vs.toArray.size=1:=by
   intro he;simp only[List.size_toArray]at he;have:fn.results.toList.length=1:=oF
   obtain⟨r,hr⟩:=List.length_eq_one_iff.1 this;exact hne r hr
  have:=hm h1;rw[dif_neg hv1]at this;refine⟨_,this,.tup _ _ _ (by simp[h2]) fun k y hk=>?_⟩;have hlt:k<vs.length:=by rw[h2];exact(List.getElem?_eq_some_iff.1 hk).1
  have e:vs.toArray.getD k undef=vs[k]:=by simp[hlt]
  rw[e];exact h3 k y _ hk (List.getElem?_eq_getElem hlt)
def sP(P:Program)(rs:List ResultVar)(Q:A->Hp->Prop):Exit->Sta->Prop
 |.normal,st|.ret,st=>∃r0,HX P st rs=some r0/\Q r0 st.H
 |_,_=>False
def Rp(args:List A):Nat->A:=fun t=>(args[t]?).getD .any
theorem YQ{P:Program}{f:FuncId}{fn:Func}{code:Code}(hf:P.funcs[f]? = some fn)(hb:fn.body=some code){c:Cx}(hcP:c.P=P)(hcn:c.n=fn.ntmps){args:List A}{vs:Array Value}(hl:vs.size=args.length)(ha:args.length<=fn.ntmps)
  {w:World} {I:Nat->Prop} {μ:Mu} {H:Hp} (hs:Sim c w I μ H) (hr:∀(k:Nat)(y:A),args[k]? = some y->Rel w I μ y (vs.getD k undef)) {Q:A->Hp->Prop} (h:AWP c code (sP P fn.results.toList Q) ⟨Rp args,H⟩) :
  Calls P f vs w fun e w'=>∃v r0 H' I' μ',e=.returned v/\Sim c w' I' μ' H'/\Rel w' I' μ' r0 v/\Q r0 H':=by
 subst hcP;refine calls_of_wp hf hb ?_;have hs:SR c ⟨Rp args,H⟩ { tmps:=vs++Array.replicate (fn.ntmps-vs.size) undef,defers:=[] } w I μ:=by
  refine⟨hs,?_,rfl,fun t=>?_⟩
  ·simp[hcn,hl];omega
  ·show Rel w I μ (Rp args t) _;unfold Rp;cases hq:args[t]? with
   |none=>exact .any _ _
   |some y=>
    have hlt:=(List.getElem?_eq_some_iff.1 hq).1;have e:(vs++Array.replicate (fn.ntmps-vs.size) undef).getD t undef=vs.getD t undef:=by
     simp only[Array.getD_eq_getD_getElem?];rw[Array.getElem?_append_left oF]
    rw[e];exact hr t y hq
 refine wp_mono (h _ w I μ hs) fun e a' w' ⟨st',I',μ',h1,h2⟩=>?_;have fin:(∃r0,HX c.P st' fn.results.toList=some r0/\Q r0 st'.H)->a'.defers=[]/\∃v,(results fn a'.tmps).run c.P w' = .ok v w'/\∃v' r0 H' I' μ',Ending.returned v=.returned v'/\Sim c w' I' μ' H'/\Rel w' I' μ' r0 v'/\Q r0 H':=by
  rintro⟨r0,h3,h4⟩;obtain⟨v,h5,h6⟩:=aZ (fn:=fn) h1 h3;exact⟨h1.defers,v,h5,v,r0,st'.H,I',μ',rfl,h1.sim,h6,h4⟩
 cases e<;>first|exact fin h2|exact h2.elim
def cx(P:Program)(w0:World)(I0:Nat->Prop)(n:Nat):Cx:=⟨P,w0,I0,fun _ _=>False,n,ai⟩
def H0:Hp:=fun _=>⟨0,.none⟩
theorem br{P:Program}{w:World}{I:Nat->Prop}{n:Nat}(hI:∀b,I b->b<w.heap.size)(ht:Tabs P w I):Sim (cx P w I n) w I ai H0:=
 ⟨⟨rfl,rfl,rfl,Cq _,fun _ _ _=>rfl⟩,hI,fun _ h=>h,fun b hb=>.inl hb,fun _=>rfl,fun _=>trivial,(fun _ _ h=>nomatch h),(fun _ h=>nomatch h),MuLe.refl _,(fun _ h=>nomatch h),ht⟩
theorem lV{P:Program}{f:FuncId}{fn:Func}{code:Code}{args:List A}{r:A}{n:Nat}(hk:ad P f=true)(hf:P.funcs[f]? = some fn)(hb:fn.body=some code)(hn:fn.ntmps=n)(ha:args.length<=n)
  (h:∀w0 I0,AWP (cx P w0 I0 n) code (sP P fn.results.toList fun r0 H=>Iz H r0 r) ⟨Rp args,H0⟩):Spec P f args r:=by
 refine⟨hk,fun w I vs hI htb hl hr=>?_⟩;refine(YQ hf hb (c:=cx P w I n) rfl hn.symm hl oF (br hI htb) hr (h w I)).mono fun e w' ⟨v,r0,H',I',μ',he,h1,h2,h3⟩=>⟨v,he,?_,?_⟩
 ·have k:=h1.kept;exact⟨k.os,k.tape,k.output,k.size,fun b hb=>k.block b hb (fun ⟨_,h⟩=>h)⟩
 ·refine(h3 _ w' I' μ' v h1 h2).mono0 (fun b hb=>?_) (fun _ _=>rfl);rcases hb with hb|⟨o,g1,rfl⟩
  ·rcases h1.new b hb with g|g
   ·exact .inl g
   ·exact .inr ⟨g,h1.lt b hb⟩
  ·obtain⟨_,g4,g5⟩:=h1.own o g1;rcases g4 with g4|g4
   ·exact g4.elim
   ·exact .inr ⟨g4,g5⟩
theorem BC{s:Nat->A}{H:Hp}(t:Nat)(d:Nm)(sz:Nat)(ht:s t=.sl true []):Le c ⟨s,H⟩ ⟨upd s t (.osl d ((H d).u+1) sz 0 0),Ar H d ⟨(H d).u+1,.arr sz []⟩⟩:=fun a w I μ hs=>by
 obtain⟨hx,hs'⟩:=hs.sim.upd (FD w none) d ⟨(H d).u+1,false,0,0,sz,0⟩ (.arr sz []) (.inl rfl) (.inl (by rw[hs.sim.ver];exact Nat.lt_succ_self _)) (fun h=>nomatch h) (fun h=>nomatch h) (fun hx=>⟨rfl,.inl ⟨rfl,rfl⟩⟩);refine⟨I,_,hs',hs.size,hs.defers,fun k=>?_⟩;show Rel w I _ (upd s t _ k) _;unfold upd;split
 ·rename_i hk;subst hk;have h1:=hs.rel k;simp only[ht]at h1;generalize a.tmps.getD k undef=v at h1;cases h1 with
  |slN _ _ q cap hc=>
   have:=hc rfl;subst this;exact .osl _ _ _ _ _ _ _ _ oF iS (Cq _) (fun h=>oF) (fun _=>iS)
  |sl _ _ b off n cap z _ g h1 h2 h3 h4=>
   have h5:n=0:=h2;have h6:cap=0:=h4 rfl;subst h5 h6;exact .osl _ _ _ _ _ _ _ _ oF iS (Cq _) (fun h=>oF) (fun _=>iS)
 ·exact hx.rel (hs.rel k)
end
structure CO where
 d:Option Nat
 o:Op
 g:Option (Nat × Bool)
 nm:Nm
 ix:Nat
 un:List Nat
 lg:Bool
abbrev co(d:Option Nat)(o:Op)(g:Option (Nat × Bool)):CO:=⟨d,o,g,[],0,[],false⟩
abbrev cn(d:Option Nat)(o:Op)(g:Option (Nat × Bool))(nm:Nm):CO:=⟨d,o,g,nm,0,[],false⟩
inductive CC where
 |skip
 |reg (ops:List CO) (live:List Nat)
 |seq (x y:CC)
 |cond (c:Operand) (x y:CC)
 |block (i:Nat) (x:CC)
 |loop (x:CC)
 |exit (i:Nat)
 |ret
 |keep (live:List Nat) (x:CC)
 |stop (x:CC)
 |scope (x:CC)
def jo:List (Nat × Nm)->Nat->Nm
 |[],_=>[]
 |(k,n)::l,i=>if k=i then n else jo l i
def Wh(draw:Bool)(ops:Array Oper)(ms:List Nat)(i j:Nat):Bool:=draw&&Wp ops ms i j
theorem Abl{draw:Bool}{ops:Array Oper}:Wh draw ops (jw ops)=yN draw ops:=by
 cases draw
 ·rfl
 ·funext i j;simp[Wh,yN]
def AcP(ops:Array Oper)(draw:Bool)(ms:List Nat)(nms:List (Nat × Nm))(i:Nat)(o:Oper):Option CO:=
 let un:=(List.range i).filter fun j=>Wh draw ops ms j i
 let lg:=(List.range ops.size).any fun k=>Nat.blt i k&&Wh draw ops ms i k
 let ix:=if un.isEmpty&&!lg then 0 else i
 match o.guard with
 |none=>some ⟨o.dst,o.op,none,jo nms i,ix,un,lg⟩
 |some (j,f)=>match (ops[j]?).bind (·.dst) with
  |some d=>some ⟨o.dst,o.op,some (d,f),jo nms i,ix,un,lg⟩
  |none=>none
def bO(ops:Array Oper)(draw:Bool)(ms:List Nat)(nms:List (Nat × Nm)):Nat->List Oper->Option (List CO)
 |_,[]=>some []
 |i,o::l=>match AcP ops draw ms nms i o,bO ops draw ms nms (i+1) l with
  |some x,some r=>some (x::r)
  |_,_=>none
inductive Is(n:Nat):CC->Code->Prop
 |skip:Is n .skip .skip
 |reg (id:Nat) (ops:Array Oper) (draw:Bool) (live:List Nat) (nms:List (Nat × Nm)) (l:List CO):qc n ops draw=true->bO ops draw (jw ops) nms 0 ops.toList=some l->Is n (.reg l live) (.region id ops draw)
 |seq (x y:CC) (a b:Code):Is n x a->Is n y b->Is n (.seq x y) (.seq a b)
 |cond (o:Operand) (x y:CC) (a b:Code):Is n x a->Is n y b->Is n (.cond o x y) (.cond o a b)
 |block (i:Nat) (x:CC) (a:Code):Is n x a->Is n (.block i x) (.block i a)
 |loop (x:CC) (a:Code):Is n x a->Is n (.loop x) (.loop a)
 |exit (i:Nat):Is n (.exit i) (.exit i)
 |ret:Is n .ret .ret
 |keep (live:List Nat) (x:CC) (a:Code):Is n x a->Is n (.keep live x) a
 |stop (x:CC) (a:Code):Is n x a->Is n (.stop x) a
 |scope (x:CC) (a:Code):Is n x a->Is n (.scope x) (.scope a)
 |label (l:Nat):Is n .skip (.label l)
def NoG(Q:Exit->Sta->Prop):Exit->Sta->Prop
 |.goto _,_=>False
 |e,st=>Q e st
def Sta.keep(st:Sta)(live:List Nat):Sta:=⟨lk (live.map fun k=>(k,st.s k)),st.H⟩
theorem qz{c:Cx}{st:Sta}(live:List Nat):Le c st (st.keep live):=Al _ (fun p hp=>by
 obtain⟨k,_,rfl⟩:=List.mem_map.1 hp;rfl)
def oV(P:Program)(o:CO)(st:Sta)(x:A)(E:Eff)(f:Ft):Prop:=
 match o.g with
 |none=>dR P o.nm o.o (evs st.s) st.H x E f.R f.W
 |some (d,fl)=>∃q x0,HN (st.s d) fl=some q/\(q=true->dR P o.nm o.o (evs st.s) st.H x0 E f.R f.W)/\x=gd q x0/\(q=false->E=.nil/\f.R=[]/\f.W=[])
def Ck(un:List Nat)(lg:Lg)(f:Ft):Prop:=∀p,p∈lg->p.1∈un->nc p.2 f=true
def Cc(b:Bool)(i:Nat)(f:Ft)(lg:Lg):Lg:=if b=true then (i,f)::lg else lg
def AE(P:Program)(K:Sta->Prop):List CO->Lg->Sta->Prop
 |[],_,st=>K st
 |o::rest,lg,st=>∃x E f,oV P o st x E f/\Ck o.un lg f/\AE P K rest (Cc o.lg o.ix f lg) (st.put o.d x (E.app st.H))
theorem AbD{ops:Array Oper}{draw:Bool}{ms:List Nat}{nms:List (Nat × Nm)}{i:Nat}{o:Oper}{c:CO}(h:AcP ops draw ms nms i o=some c):c.d=o.dst/\c.o=o.op/\c.nm=jo nms i /\
  c.un=((List.range i).filter fun j=>Wh draw ops ms j i)/\c.lg=((List.range ops.size).any fun k=>Nat.blt i k&&Wh draw ops ms i k)/\(c.un≠[]\/c.lg=true->c.ix=i) /\
  ((o.guard=none/\c.g=none)\/∃j f d,o.guard=some (j,f)/\(ops[j]?).bind (·.dst)=some d/\c.g=some (d,f)):=by
 have hix:∀(un:List Nat)(lg:Bool),un≠[]\/lg=true->(if (un.isEmpty&&!lg)=true then 0 else i)=i:=fun un lg hh=>by
  rw[if_neg];rcases hh with h1|h1
  ·cases un with
   |nil=>exact(h1 rfl).elim
   |cons=>simp
  ·simp[h1]
 unfold AcP at h;cases hg:o.guard with
 |none=>
  rw[hg]at h;simp only[Option.some.injEq]at h;subst h;exact⟨rfl,rfl,rfl,rfl,rfl,hix _ _,.inl ⟨rfl,rfl⟩⟩
 |some p=>
  obtain⟨j,f⟩:=p;rw[hg]at h;simp only at h;cases hj:(ops[j]?).bind (·.dst) with
  |none=>rw[hj]at h;cases h
  |some d=>
   rw[hj]at h;simp only[Option.some.injEq]at h;subst h;exact⟨rfl,rfl,rfl,rfl,rfl,hix _ _,.inr ⟨j,f,d,rfl,hj,rfl⟩⟩
theorem lX{P:Program}{ops:Array Oper}{draw:Bool}{ms:List Nat}{nms:List (Nat × Nm)}{K:Sta->Prop}:∀(l:List Oper)(i:Nat)(r:List CO)(Lf lg:Lg)(st:Sta),bO ops draw ms nms i l=some r->i+l.length=ops.size ->
  (∀p,p∈Lf->p.1<i/\∀k,i<=k->k<ops.size->Wh draw ops ms p.1 k=true->p∈lg)->AE P K r lg st->vH P (jo nms) (Wh draw ops ms) ops K l i Lf st:=by
 intro l;induction l with
 |nil=>
  intro i r Lf lg st he _ _ h;cases he;exact h
 |cons o l ih=>
  intro i r Lf lg st he hsz hlg h;unfold bO at he;split at he
  ·rename_i c r' hc hr;cases he;obtain⟨e1,e2,e3,e4,e5,e7,e6⟩:=AbD hc;obtain⟨x,E,f,hy,hk,h⟩:=h;simp only[List.length_cons]at hsz;refine⟨x,E,f,?_,fun p hp hn=>?_,?_⟩
   ·unfold oV at hy;rw[e2,e3]at hy;rcases e6 with ⟨hg,hc⟩|⟨j,fl,d,hg,hj,hc⟩
    ·rw[hc]at hy;exact⟨true,x,by unfold RS;rw[hg],fun _=>hy,rfl,fun h=>nomatch h⟩
    ·rw[hc]at hy;obtain⟨q,x0,k1,k2,k3,k4⟩:=hy;exact⟨q,x0,by unfold RS;rw[hg];exact⟨d,hj,k1⟩,k2,k3,k4⟩
   ·obtain⟨h1,h2⟩:=hlg p hp;refine hk p (h2 i (Cq _) oF hn) ?_;rw[e4];exact List.mem_filter.2 ⟨List.mem_range.2 h1,hn⟩
   ·rw[e1]at h;refine ih (i+1) r' _ _ _ hr oF (fun p hp=>?_) h;rcases List.mem_cons.1 hp with rfl|hp
    ·refine⟨Nat.lt_succ_self _,fun k h1 h2 h3=>?_⟩;have hl:c.lg=true:=by
      rw[e5];exact List.any_eq_true.2 ⟨k,List.mem_range.2 h2,by simp[Nat.blt_eq,h3];omega⟩
     unfold Cc;rw[if_pos hl,e7 (.inr hl)];simp
    ·obtain⟨h1,h2⟩:=hlg p hp;refine⟨oF,fun k h3 h4 h5=>?_⟩;have:=h2 k oF h4 h5;unfold Cc;split
     ·exact List.mem_cons_of_mem _ this
     ·exact this
  ·cases he
def LoopC(c:Cx)(x:CC)(Q:Exit->Sta->Prop)(st:Sta):Prop:=∀a,Is c.n x a->AHead c a Q st
def Ej(K:Sta->Prop)(Q:Exit->Sta->Prop):Exit->Sta->Prop
 |.normal,st=>K st
 |e,st=>Q e st
def WC(c:Cx)(K:Sta->Prop)(st:Sta):Prop:=∃st',Le c st st'/\K st'
theorem Dr{c:Cx}{K:Sta->Prop}{st:Sta}(h:K st):WC c K st:=⟨st,Le.refl,h⟩
theorem Dn{c:Cx}{K:Sta->Prop}{st st':Sta}(h:Le c st st')(k:WC c K st'):WC c K st:=let ⟨st2,h2,k2⟩:=k;⟨st2,h.trans h2,k2⟩
def WPC(c:Cx):CC->(Exit->Sta->Prop)->Sta->Prop
 |.skip,Q,st=>Q .normal st
 |.exit i,Q,st=>Q (.exit i) st
 |.ret,Q,st=>Q .ret st
 |.reg ops live,Q,st=>AE c.P (fun st=>Q .normal (st.keep live)) ops [] st
 |.seq x y,Q,st=>WPC c x (Ej (WPC c y Q) Q) st
 |.cond o x y,Q,st=>∃b,evs st.s o=.v (.bool b)/\(b=true->WPC c x Q st)/\(b=false->WPC c y Q st)
 |.block i x,Q,st=>WPC c x (BA i Q) st
 |.loop x,Q,st=>LoopC c x Q st
 |.keep live x,Q,st=>WPC c x Q (st.keep live)
 |.stop x,Q,st=>WC c (fun st=>WPC c x Q st) st
 |.scope x,Q,st=>WPC c x (NoG Q) st
theorem Q2{c:Cx}(hm:c.P.follows .mixedOrders=true):∀{x:CC} {a:Code} {Q:Exit->Sta->Prop} {st:Sta},Is c.n x a->WPC c x Q st->AWP c a Q st:=by
 intro x a Q st hi;induction hi generalizing Q st with
 |skip=>exact fun h=>w6 h
 |exit i=>exact fun h=>yr h
 |ret=>exact fun h=>AaE h
 |reg id ops draw live nms l hok hl=>
  intro h;intro a w I μ hs;have h1:=lX ops.toList 0 l [] [] _ hl iS (fun p hp=>by simp at hp) h;rw[Abl]at h1;refine dy hm hok (K:=fun st=>Q .normal (st.keep live)) (fun st' a' w' I' μ' h1 h2=>?_) hs h1;obtain⟨I2,μ2,h3⟩:=qz live a' w' I' μ' h1;exact⟨_,I2,μ2,h3,h2⟩
 |seq x y a b _ _ ih1 ih2=>
  intro h;refine AaZ ((ih1 h).mono fun e st' hq=>?_);cases e<;>first|exact ih2 hq|exact hq
 |cond o x y a b _ _ ih1 ih2=>
  intro ⟨q,hb,ht,hf⟩;exact uO hb (fun h=>ih1 (ht h)) (fun h=>ih2 (hf h))
 |block i x a _ ih=>exact fun h=>rX (ih h)
 |loop x a hx _=>exact fun h=>xS (h a hx)
 |keep live x a _ ih=>
  intro h a w I μ hs;obtain⟨I2,μ2,h3⟩:=qz live a w I μ hs;exact ih h a w I2 μ2 h3
 |stop x a _ ih=>
  intro ⟨st',h1,h2⟩ a w I μ hs;obtain⟨I2,μ2,h3⟩:=h1 a w I μ hs;exact ih h2 a w I2 μ2 h3
 |scope x a _ ih=>
  intro h a w I μ hs;refine wp_scope_straight (wp_mono (ih h a w I μ hs) fun e a' w' ⟨st',I',μ',h1,h2⟩=>?_);cases e with
  |goto l=>exact h2.elim
  |_=>exact⟨st',I',μ',h1,h2⟩
 |label l=>exact fun h a w I μ hs=>wp_label ⟨st,I,μ,hs,h⟩
theorem WPC.mono{c:Cx}:∀{x:CC} {Q Q':Exit->Sta->Prop} {st:Sta},(∀e st,Q e st->Q' e st)->WPC c x Q st->WPC c x Q' st
 |.skip,_,_,_,hq,h=>hq _ _ h
 |.exit _,_,_,_,hq,h=>hq _ _ h
 |.ret,_,_,_,hq,h=>hq _ _ h
 |.reg ops live,Q,Q',st,hq,h=>by
  have:∀(ops:List CO)(lg:Lg)(st:Sta),AE c.P (fun st=>Q .normal (st.keep live)) ops lg st->AE c.P (fun st=>Q' .normal (st.keep live)) ops lg st:=by
   intro ops;induction ops with
   |nil=>exact fun lg st h=>hq _ _ h
   |cons o ops ih=>exact fun lg st ⟨x,E,f,h1,h2,h3⟩=>⟨x,E,f,h1,h2,ih _ _ h3⟩
  exact this ops _ st h
 |.seq x y,Q,Q',st,hq,h=>WPC.mono (x:=x) (fun e st' h'=>by cases e<;>first|exact WPC.mono (x:=y) hq h' | exact hq _ _ h') h
 |.cond o x y,Q,Q',st,hq,⟨b,h1,h2,h3⟩=>⟨b,h1,fun h=>WPC.mono hq (h2 h),fun h=>WPC.mono hq (h3 h)⟩
 |.block i x,Q,Q',st,hq,h=>WPC.mono (x:=x) (fun e st' h'=>by
   cases e with
   |exit j=>
    by_cases hj:j=i
    ·subst hj;rw[dT]at h' ⊢; exact hq _ _ h'
    ·rw[RM hj]at h' ⊢; exact hq _ _ h'
   |_=>exact hq _ _ h') h
 |.keep live x,Q,Q',st,hq,h=>WPC.mono (x:=x) hq h
 |.stop x,Q,Q',st,hq,⟨st',h1,h2⟩=>⟨st',h1,WPC.mono (x:=x) hq h2⟩
 |.scope x,Q,Q',st,hq,h=>WPC.mono (x:=x) (fun e st' h'=>by
   cases e with
   |goto l=>exact h'
   |_=>exact hq _ _ h') h
 |.loop x,Q,Q',st,hq,h=>fun a ha a' w I μ hs b k cs=>by
  obtain⟨e,a1,w1,⟨st',I',μ',h1,h2⟩,h3⟩:=h a ha a' w I μ hs b k cs;exact⟨e,a1,w1,⟨st',I',μ',h1,hq _ _ h2⟩,h3⟩
theorem kn{c:Cx}(hm:c.P.follows .mixedOrders=true){x:CC}{Q:Exit->Sta->Prop}{st:Sta}(h:WPC c x (Ej (LoopC c x Q) Q) st):LoopC c x Q st:=fun a ha=>
 ik ((Q2 hm ha h).mono fun e st' hq=>by cases e<;>first|exact hq a ha|exact hq)
theorem LoopC.le{c:Cx}{x:CC}{Q:Exit->Sta->Prop}{st st':Sta}(h:Le c st st')(k:LoopC c x Q st'):LoopC c x Q st:=fun a ha=>(k a ha).le h
def me:List Nat->CC->CC
 |999999::live,y=>.keep live y
 |999998::_,y=>.stop y
 |999997::live,y=>.keep live (.stop y)
 |_,y=>y
theorem sH{n:Nat}{m:List Nat}{y:CC}{b:Code}(h:Is n y b):Is n (me m y) b:=by
 unfold me;split
 ·exact .keep _ _ _ h
 ·exact .stop _ _ h
 ·exact .keep _ _ _ (.stop _ _ h)
 ·exact h
abbrev Mk:=List Nat × List (Nat × Nm)
def L5(n:Nat):Code->List Mk->Option (CC × List Mk)
 |.skip,ls=>some (.skip,ls)
 |.exit i,ls=>some (.exit i,ls)
 |.ret,ls=>some (.ret,ls)
 |.region _ ops draw,(live,nms)::ls=>if qc n ops draw=true then match bO ops draw (jw ops) nms 0 ops.toList with
   |some l=>some (.reg l live,ls)
   |none=>none else none
 |.seq a b,ls=>match L5 n a ls with
  |some (x,m::ls)=>match L5 n b ls with
   |some (y,ls)=>some (.seq x (me m.1 y),ls)
   |none=>none
  |_=>none
 |.cond o a b,ls=>match L5 n a ls with
  |some (x,ls)=>match L5 n b ls with
   |some (y,ls)=>some (.cond o x y,ls)
   |none=>none
  |none=>none
 |.block i a,ls=>match L5 n a ls with
  |some (x,ls)=>some (.block i x,ls)
  |none=>none
 |.loop a,ls=>match L5 n a ls with
  |some (x,ls)=>some (.loop x,ls)
  |none=>none
 |.scope a,ls=>match L5 n a ls with
  |some (x,ls)=>some (.scope x,ls)
  |none=>none
 |.label _,ls=>some (.skip,ls)
 |_,_=>none
theorem Abb{n:Nat}:∀{a:Code} {ls ls':List Mk} {x:CC},L5 n a ls=some (x,ls')->Is n x a:=by
 intro a;induction a with
 |skip=>intro ls ls' x h;simp only[L5]at h;cases h;exact .skip
 |exit i=>intro ls ls' x h;simp only[L5]at h;cases h;exact .exit i
 |ret=>intro ls ls' x h;simp only[L5]at h;cases h;exact .ret
 |region id ops draw=>
  intro ls ls' x h;cases ls with
  |nil=>simp[L5]at h
  |cons live ls=>
   simp only[L5]at h;split at h
   ·rename_i hok;split at h
    ·rename_i l hl;cases h;exact .reg _ _ _ _ _ _ hok hl
    ·cases h
   ·cases h
 |seq a b ih1 ih2=>
  intro ls ls' x h;simp only[L5]at h;split at h
  ·rename_i q1 m l1 h1;split at h
   ·rename_i q2 l2 h2;cases h;exact .seq _ _ _ _ (ih1 h1) (sH (ih2 h2))
   ·cases h
  ·cases h
 |cond o a b ih1 ih2=>
  intro ls ls' x h;simp only[L5]at h;split at h
  ·rename_i q1 l1 h1;split at h
   ·rename_i q2 l2 h2;cases h;exact .cond _ _ _ _ _ (ih1 h1) (ih2 h2)
   ·cases h
  ·cases h
 |block i a ih=>
  intro ls ls' x h;simp only[L5]at h;split at h
  ·rename_i q1 l1 h1;cases h;exact .block _ _ _ (ih h1)
  ·cases h
 |loop a ih=>
  intro ls ls' x h;simp only[L5]at h;split at h
  ·rename_i q1 l1 h1;cases h;exact .loop _ _ (ih h1)
  ·cases h
 |scope a ih=>
  intro ls ls' x h;simp only[L5]at h;split at h
  ·rename_i q1 l1 h1;cases h;exact .scope _ _ (ih h1)
  ·cases h
 |label l=>intro ls ls' x h;simp only[L5]at h;cases h;exact .label l
 |_=>intro ls ls' x h;cases ls<;>simp[L5]at h
structure Bs(P:Program)(f:FuncId)(n:Nat)(rs:List ResultVar)(cc:CC):Prop where
 Ah:P.follows .mixedOrders=true
 ok:ad P f=true
 fn:∃fn code,P.funcs[f]? = some fn/\fn.body=some code/\fn.ntmps=n/\fn.results.toList=rs/\Is n cc code
theorem Ado{P:Program}{f:FuncId}{fn:Func}{code:Code}{cc:CC}{ls:List Mk}{rs:List ResultVar}{n:Nat}(hm:P.follows .mixedOrders=true)(hk:ad P f=true)(hf:P.funcs[f]? = some fn)(hb:fn.body=some code)
  (hn:fn.ntmps=n) (hrs:fn.results.toList=rs) (hc:L5 n code ls=some (cc,[])):Bs P f n rs cc:=⟨hm,hk,fn,code,hf,hb,hn,hrs,Abb hc⟩
def Rn(P:Program)(rs:List ResultVar)(r:A):Exit->Sta->Prop:=sP P rs fun r0 H=>Iz H r0 r
theorem Aj{P:Program}{f:FuncId}{n:Nat}{rs:List ResultVar}{cc:CC}{args:List A}{r:A}(t:Bs P f n rs cc)(ha:args.length<=n)(h:∀w0 I0,WPC (cx P w0 I0 n) cc (Rn P rs r) ⟨Rp args,H0⟩):Spec P f args r:=by
 obtain⟨hm,hk,fn,code,hf,hb,hn,hrs,hc⟩:=t;exact lV hk hf hb hn ha fun w0 I0=>Q2 (c:=cx P w0 I0 n) hm hc (by rw[hrs];exact h w0 I0)
section
variable {P:Program} {H:Hp} {t u:TypeId}
def vc(x:VOb)(u:Nat):Option (List A):=match x with|⟨u',.cells cs⟩=>if u'=u then some cs else none|_=>none
def vr(x:VOb)(u:Nat):Option (Nat × List A):=match x with|⟨u',.arr s xs⟩=>if u'=u then some (s,xs)else none|_=>none
@[simp]theorem AiC{u' u:Nat}{cs:List A}:vc ⟨u',.cells cs⟩ u=if u'=u then some cs else none:=rfl
@[simp]theorem Ams{u' u s:Nat}{xs:List A}:vr ⟨u',.arr s xs⟩ u=if u'=u then some (s,xs)else none:=rfl
@[simp]theorem AlE{o:Nm}{u:Nat}:X3 H o u=vc (H o) u:=rfl
@[simp]theorem Qw{o:Nm}{u:Nat}:Rh H o u=vr (H o) u:=rfl
@[simp]theorem Ajq{o:Nm}{u off:Nat}:HW P H t (.pob o u off)=match EE P t,Eg P t with|some g,some sz=>(match vc (H o) u with|some cs=>NQ g sz (cs.drop off)|none=>none)|_,_=>none:=by
 unfold HW;cases EE P t with
 |none=>rfl
 |some g=>
  cases Eg P t with
  |none=>rfl
  |some sz=>rfl
@[simp]theorem Ag7{o:Nm}{u i j:Nat}:HW P H t (.pel o u i j)=match EE P t,Eg P t with|some g,some sz=>(match vr (H o) u with|some (_,xs)=>(match xs[i]? with|some x=>NQ g sz (x.cells.drop j)|none=>none)|none=>none)|_,_=>none:=by
 unfold HW;cases EE P t with
 |none=>rfl
 |some g=>
  cases Eg P t with
  |none=>rfl
  |some sz=>rfl
@[simp]theorem AfS{o:Nm}{u off:Nat}{val:A}:Jw P H t (.pob o u off) val=match Eg P t with
  |some sz=>if val.cells.length=sz/\A.ones val.cells=true then (match vc (H o) u with|some cs=>if off+sz<=cs.length then some (.one o ⟨u,.cells (splice cs off val.cells)⟩)else none|none=>none)else none
  |none=>none:=by
 unfold Jw;cases Eg P t<;>rfl
def oB(o:Nm)(u i j s sz:Nat)(xs:List A)(val:A):Option A->Option Eff
 |some x=>if j=0/\sz=s then some (.one o ⟨u,.arr s (xs.set i val)⟩)
  else if j+sz<=s/\x.isAgg=true then some (.one o ⟨u,.arr s (xs.set i (x.remake (splice x.cells j val.cells)))⟩)else none
 |none=>none
def AcI(o:Nm)(u i j sz:Nat)(val:A):Option (Nat × List A)->Option Eff
 |some (s,xs)=>oB o u i j s sz xs val xs[i]?
 |none=>none
@[simp]theorem l6{o:Nm}{u i j s sz:Nat}{xs:List A}{val:A}:AcI o u i j sz val (some (s,xs))=oB o u i j s sz xs val xs[i]?:=rfl
@[simp]theorem AcF{o:Nm}{u i j s sz:Nat}{xs:List A}{x val:A}:oB o u i j s sz xs val (some x)=if j=0/\sz=s then some (.one o ⟨u,.arr s (xs.set i val)⟩)
  else if j+sz<=s/\x.isAgg=true then some (.one o ⟨u,.arr s (xs.set i (x.remake (splice x.cells j val.cells)))⟩)else none:=rfl
@[simp]theorem Afo{o:Nm}{u i j:Nat}{val:A}:Jw P H t (.pel o u i j) val=match Eg P t with
  |some sz=>if val.cells.length=sz/\A.ones val.cells=true then AcI o u i j sz val (vr (H o) u)else none
  |none=>none:=by
 unfold Jw;cases Eg P t with
 |none=>rfl
 |some sz=>
  simp only[Qw];cases vr (H o) u with
  |none=>rfl
  |some p=>
   obtain⟨s,xs⟩:=p;simp only[l6];cases xs[i]?<;>rfl
@[simp]theorem Ahh{d:Nm}{e:TypeId}:Se P H d e=match BW P e with|some z=>if A.ones (GZ z).cells=true/\Fu d e=true then some (.pob d ((H d).u+1) 0,.one d ⟨(H d).u+1,.cells (GZ z).cells⟩)else none|none=>none:=rfl
@[simp]theorem Amf{d:Nm}{e:TypeId}{a:A}:n9 H d e a=if A.ones a.cells=true/\Fu d e=true then some (.pob d ((H d).u+1) 0,.one d ⟨(H d).u+1,.cells a.cells⟩)else none:=rfl
@[simp]theorem Aly{a:A}:xL a=if a.isPtr=true then some a else none:=rfl
def Acd(H:Hp)(d:Nm)(e:TypeId)(n c:Int):Option Nat->Option Value->Option Nat->Option (A × Eff)
 |some s,some z,some b=>if 0<=n/\n<=c/\b*c<=140737488355328/\0<b/\(GZ z).cells.length=s/\A.ones (GZ z).cells=true/\Fu d e=true then some (.osl d ((H d).u+1) s 0 n.toNat,.one d ⟨(H d).u+1,.arr s (List.replicate n.toNat (GZ z))⟩)else none
 |_,_,_=>none
@[simp]theorem AeG{d:Nm}{e:TypeId}{n c:Int}{s b:Nat}{z:Value}:Acd H d e n c (some s) (some z) (some b)=if 0<=n/\n<=c/\b*c<=140737488355328/\0<b/\(GZ z).cells.length=s/\A.ones (GZ z).cells=true/\Fu d e=true then some (.osl d ((H d).u+1) s 0 n.toNat,.one d ⟨(H d).u+1,.arr s (List.replicate n.toNat (GZ z))⟩)else none:=rfl
@[simp]theorem zq{d:Nm}{k k':IntKind}{n c:Int}:Ha P H d t (.v (.int k n)) (.v (.int k' c))=match P.underlying t with|some (.slice e)=>Acd H d e n c (Eg P e) (BW P e) (Ce P e)|_=>none:=by
 unfold Ha;cases P.underlying t with
 |none=>rfl
 |some q=>
  cases q<;>first
   |rfl
   |(rename_i e;cases Eg P e<;>cases BW P e<;>cases Ce P e<;>rfl)
def apS(H:Hp)(d:Nm)(e:TypeId)(xs:List A):Option (List A)->Option Nat->Option Value->Option Nat->Option (A × Eff)
 |some zs,some s,some z,some b=>if 0<b/\(GZ z).cells.length=s/\A.ones (GZ z).cells=true then if E8 s xs=true/\(xs.length=0\/0<zs.length)/\(xs.length+zs.length)*b<=140737488355328/\Fu d e=true then some (.osl d ((H d).u+1) s 0 (xs.length+zs.length),.one d ⟨(H d).u+1,.arr s (xs++zs)⟩)else none else none
 |_,_,_,_=>none
@[simp]theorem Ahy{d:Nm}{e:TypeId}{xs zs:List A}{s b:Nat}{z:Value}:apS H d e xs (some zs) (some s) (some z) (some b)=if 0<b/\(GZ z).cells.length=s/\A.ones (GZ z).cells=true then if E8 s xs=true/\(xs.length=0\/0<zs.length)/\(xs.length+zs.length)*b<=140737488355328/\Fu d e=true then some (.osl d ((H d).u+1) s 0 (xs.length+zs.length),.one d ⟨(H d).u+1,.arr s (xs++zs)⟩)else none else none:=rfl
def apO(o:Nm)(e:TypeId)(v sz off len:Nat):Option (Nat × List A)->Option (List A)->Option Nat->Option Value->Option Nat->Option (A × Eff)
 |some (s',ys),some zs,some s,some z,some b=>if 0<b/\(GZ z).cells.length=s/\A.ones (GZ z).cells=true then if off=0/\s'=s/\sz=s/\len<=ys.length/\(len+zs.length)*b<=140737488355328/\Fu o e=true then some (.osl o (v+1) s 0 (len+zs.length),.one o ⟨v+1,.arr s (ys.take len++zs)⟩)else none else none
 |_,_,_,_,_=>none
@[simp]theorem AgK{o:Nm}{e:TypeId}{v sz off len s' s b:Nat}{ys zs:List A}{z:Value}:apO o e v sz off len (some (s',ys)) (some zs) (some s) (some z) (some b)=if 0<b/\(GZ z).cells.length=s/\A.ones (GZ z).cells=true then if off=0/\s'=s/\sz=s/\len<=ys.length/\(len+zs.length)*b<=140737488355328/\Fu o e=true then some (.osl o (v+1) s 0 (len+zs.length),.one o ⟨v+1,.arr s (ys.take len++zs)⟩)else none else none:=rfl
@[simp]theorem Agq{d:Nm}{xs:List A}{x:A}:HK P H d t u (.sl true xs) x=match P.underlying t with|some (.slice e)=>(match Eg P e with|some s=>apS H d e xs (L6 P H s e u x) (some s) (BW P e) (Ce P e)|none=>none)|_=>none:=by
 unfold HK;cases P.underlying t with
 |none=>rfl
 |some q=>
  cases q<;>try rfl
  rename_i e;simp only;cases Eg P e with
  |none=>rfl
  |some s=>
   cases BW P e with
   |none=>simp only;cases L6 P H s e u x<;>rfl
   |some z=>
    cases Ce P e with
    |none=>simp only;cases L6 P H s e u x<;>rfl
    |some b=>simp only;cases L6 P H s e u x<;>rfl
def clO(o:Nm)(v sz off len s:Nat)(z:Value):Option (Nat × List A)->Option (A × Eff)
 |some (s',ys)=>if s'=s/\sz=s/\off+len<=ys.length/\(GZ z).cells.length=s/\A.ones (GZ z).cells=true then
   some (.any,.one o ⟨v,.arr s (ys.take off++List.replicate len (GZ z)++ys.drop (off+len))⟩)else none
 |none=>none
@[simp]theorem Ahn{o:Nm}{v sz off len s s':Nat}{z:Value}{ys:List A}:clO o v sz off len s z (some (s',ys))=if s'=s/\sz=s/\off+len<=ys.length/\(GZ z).cells.length=s/\A.ones (GZ z).cells=true then
   some (.any,.one o ⟨v,.arr s (ys.take off++List.replicate len (GZ z)++ys.drop (off+len))⟩)else none:=rfl
@[simp]theorem Afm{o:Nm}{v sz off len:Nat}:Lm P H t (.osl o v sz off len)=match P.underlying t with|some (.slice e)=>(match Eg P e,BW P e with|some s,some z=>clO o v sz off len s z (vr (H o) v)|_,_=>none)|_=>none:=by
 unfold Lm;cases P.underlying t with
 |none=>rfl
 |some q=>
  cases q<;>try rfl
@[simp]theorem Adh{d o:Nm}{v sz off len:Nat}{x:A}:HK P H d t u (.osl o v sz off len) x=match P.underlying t with|some (.slice e)=>(match Eg P e with|some s=>apO o e v sz off len (vr (H o) v) (L6 P H s e u x) (some s) (BW P e) (Ce P e)|none=>none)|_=>none:=by
 unfold HK;cases P.underlying t with
 |none=>rfl
 |some q=>
  cases q<;>try rfl
  rename_i e;simp only[Qw];generalize vr (H o) v=r;cases Eg P e with
  |none=>rfl
  |some s=>
   cases BW P e with
   |none=>simp only;cases L6 P H s e u x<;>cases r<;>rfl
   |some z=>
    cases Ce P e with
    |none=>simp only;cases L6 P H s e u x<;>cases r<;>rfl
    |some b=>
     simp only;cases L6 P H s e u x with
     |none=>cases r<;>rfl
     |some zs=>cases r<;>simp only[apO]<;>(try split)<;>rfl
@[simp]theorem Amc{s e:Nat}{f:Bool}{xs:List A}:L6 P H s e t (.sl f xs)=match P.underlying t with|some (.slice _)=>if E8 s xs=true then some xs else none|_=>none:=by
 unfold L6;cases P.underlying t with
 |none=>rfl
 |some q=>cases q<;>rfl
def elO(s z off n:Nat):Option (Nat × List A)->Option (List A)
 |some (s',ys)=>if s'=s/\z=s/\off+n<=ys.length then some ((ys.drop off).take n)else none
 |none=>none
@[simp]theorem AiU{s z off n s':Nat}{ys:List A}:elO s z off n (some (s',ys))=if s'=s/\z=s/\off+n<=ys.length then some ((ys.drop off).take n)else none:=rfl
@[simp]theorem Alk{s e u' z off n:Nat}{o:Nm}:L6 P H s e t (.osl o u' z off n)=match P.underlying t with|some (.slice _)=>elO s z off n (vr (H o) u')|_=>none:=by
 unfold L6;cases P.underlying t with
 |none=>rfl
 |some q=>
  cases q<;>first
   |rfl
   |(simp only[Ki,Qw];cases vr (H o) u'<;>rfl)
def ixS(xs:List A)(i:Int):Option Nat->Option A
 |some m=>if 0<=i/\i<xs.length then (match xs[i.toNat]? with
     |some x=>if x.cells.length=m then some (.pim x.cells)else none
     |none=>none)else none
 |none=>none
@[simp]theorem Ajn{xs:List A}{i:Int}{m:Nat}:ixS xs i (some m)=if 0<=i/\i<xs.length then (match xs[i.toNat]? with
     |some x=>if x.cells.length=m then some (.pim x.cells)else none
     |none=>none)else none:=rfl
@[simp]theorem Aa2{k:IntKind}{i:Int}{f:Bool}{xs:List A}:Cu P t (.sl f xs) (.v (.int k i))=match P.underlying t with|some (.slice e)=>ixS xs i (Eg P e)|_=>none:=by
 unfold Cu;cases P.underlying t with
 |none=>rfl
 |some q=>
  cases q<;>first
   |rfl
   |(rename_i e;cases h:Eg P e<;>first|rfl|simp[A.shift,h]|(simp only[h];rfl))
def ixO(o:Nm)(u z off n:Nat)(i:Int):Option Nat->Option A
 |some m=>if 0<=i/\i<n/\z=m then some (.pel o u (off+i.toNat) 0)else none
 |none=>none
@[simp]theorem AiR{o:Nm}{u z off n m:Nat}{i:Int}:ixO o u z off n i (some m)=if 0<=i/\i<n/\z=m then some (.pel o u (off+i.toNat) 0)else none:=rfl
@[simp]theorem za{u z off n:Nat}{o:Nm}{k:IntKind}{i:Int}:Cu P t (.osl o u z off n) (.v (.int k i))=match P.underlying t with|some (.slice e)=>ixO o u z off n i (Eg P e)|_=>none:=by
 unfold Cu;cases P.underlying t with
 |none=>rfl
 |some q=>
  cases q<;>first
   |rfl
   |(rename_i e;cases h:Eg P e<;>first|rfl|simp[A.shift,h]|(simp only[h];rfl))
def ixA(a:A)(n:Nat)(i:Int):Option Nat->Option A
 |some m=>if 0<=i/\i<n then a.shift (i.toNat*m)else none
 |none=>none
@[simp]theorem Ah4{a:A}{n m:Nat}{i:Int}:ixA a n i (some m)=if 0<=i/\i<n then a.shift (i.toNat*m)else none:=rfl
@[simp]theorem ze{u p:Nat}{o:Nm}{k:IntKind}{i:Int}:Cu P t (.pob o u p) (.v (.int k i))=match P.underlying t with|some (.array n e)=>ixA (.pob o u p) n i (Eg P e)|_=>none:=by
 unfold Cu;cases P.underlying t with
 |none=>rfl
 |some q=>
  cases q<;>first
   |rfl
   |(rename_i e;cases h:Eg P e<;>first|rfl|simp[A.shift,h]|(simp only[h];rfl))
def ixV(P:Program)(e:TypeId)(cs:List A)(n:Nat)(i:Int):Option Nat->Option A
 |some m=>if 0<=i/\i<n then Uj P e cs (i.toNat*m)else none
 |none=>none
@[simp]theorem Ag5{e:TypeId}{cs:List A}{n m:Nat}{i:Int}:ixV P e cs n i (some m)=if 0<=i/\i<n then Uj P e cs (i.toNat*m)else none:=rfl
@[simp]theorem Ajl{cs:List A}{off:Nat}:Uj P t cs off=match EE P t,Eg P t with|some g,some sz=>NQ g sz (cs.drop off)|_,_=>none:=rfl
@[simp]theorem Agc{cs:List A}{k:IntKind}{i:Int}:Pq P t (.agg cs) (.v (.int k i))=match P.underlying t with|some (.array n e)=>ixV P e cs n i (Eg P e)|_=>none:=by
 unfold Pq;cases P.underlying t with
 |none=>rfl
 |some q=>
  cases q<;>first
   |rfl
   |(rename_i e;cases h:Eg P e<;>first|rfl|simp[A.shift,h]|(simp only[h];rfl))
@[simp]theorem Ae7{s:ByteArray}{k:IntKind}{i:Int}:Pq P t (.v (.string s)) (.v (.int k i))=match P.underlying t with|some .string=>if 0<=i then (s[i.toNat]?).map (fun b=>.v (.int .u8 b.toNat))else none|_=>none:=by
 unfold Pq;cases P.underlying t with
 |none=>rfl
 |some q=>cases q<;>rfl
@[simp]theorem Am3{f:Bool}{xs:List A}:Ys P t (.sl f xs)=match P.underlying t with|some (.slice _)=>some (.v (.int .i64 xs.length))|some (.array n _)=>some (.v (.int .i64 n))|_=>none:=by
 unfold Ys;cases P.underlying t with
 |none=>rfl
 |some q=>cases q<;>rfl
@[simp]theorem Aj6{u z off n:Nat}{o:Nm}:Ys P t (.osl o u z off n)=match P.underlying t with|some (.slice _)=>some (.v (.int .i64 n))|some (.array n _)=>some (.v (.int .i64 n))|_=>none:=by
 unfold Ys;cases P.underlying t with
 |none=>rfl
 |some q=>cases q<;>rfl
def slS(f:Bool)(xs:List A):Option (Nat × Nat × Option Nat)->Option Nat->Option A
 |some (l,h,m),some s=>if E8 s xs=true then some (.sl (Jp m f h xs.length) ((xs.drop l).take (h-l)))else none
 |_,_=>none
@[simp]theorem Ajr{f:Bool}{xs:List A}{l h s:Nat}{m:Option Nat}:slS f xs (some (l,h,m)) (some s)=if E8 s xs=true then some (.sl (Jp m f h xs.length) ((xs.drop l).take (h-l)))else none:=rfl
@[simp]theorem Aiv{f:Bool}{xs:List A}{s:Option Nat}:slS f xs none s=none:=by cases s<;>rfl
@[simp]theorem Ag1{f:Bool}{xs:List A}{lo hi mx:Option A}:MP P t (.sl f xs) lo hi mx=match P.underlying t with|some (.slice e)=>slS f xs (DP xs.length lo hi mx) (Eg P e)|_=>none:=by
 unfold MP;cases P.underlying t with
 |none=>rfl
 |some q=>
  cases q<;>first
   |rfl
   |(rename_i e;cases DP xs.length lo hi mx<;>cases Eg P e<;>rfl)
def slO(o:Nm)(u z off:Nat):Option (Nat × Nat × Option Nat)->Option Nat->Option A
 |some (l,h,_),some s=>if s=z then some (.osl o u z (off+l) (h-l))else none
 |_,_=>none
@[simp]theorem Ais{o:Nm}{u z off l h s:Nat}{m:Option Nat}:slO o u z off (some (l,h,m)) (some s)=if s=z then some (.osl o u z (off+l) (h-l))else none:=rfl
@[simp]theorem Ae1{u z off n:Nat}{o:Nm}{lo hi mx:Option A}:MP P t (.osl o u z off n) lo hi mx=match P.underlying t with|some (.slice e)=>slO o u z off (DP n lo hi mx) (Eg P e)|_=>none:=by
 unfold MP;cases P.underlying t with
 |none=>rfl
 |some q=>
  cases q<;>first
   |rfl
   |(rename_i e;cases DP n lo hi mx<;>cases Eg P e<;>rfl)
def slP(cs:List A)(n:Nat):Option (Nat × Nat × Option Nat)->Option Nat->Option A
 |some (l,h,m),some s=>if s=1/\n<=cs.length then some (.sl (Jp m true h n) ((cs.drop l).take (h-l)))else none
 |_,_=>none
@[simp]theorem AjP{cs:List A}{n l h s:Nat}{m:Option Nat}:slP cs n (some (l,h,m)) (some s)=if s=1/\n<=cs.length then some (.sl (Jp m true h n) ((cs.drop l).take (h-l)))else none:=rfl
@[simp]theorem AfQ{cs:List A}{lo hi mx:Option A}:MP P t (.pim cs) lo hi mx=match P.underlying t with|some (.array n e)=>slP cs n (DP n lo hi mx) (Eg P e)|_=>none:=by
 unfold MP;cases P.underlying t with
 |none=>rfl
 |some q=>
  cases q<;>first
   |rfl
   |(rename_i n e;cases DP n lo hi mx<;>cases Eg P e<;>rfl)
@[simp]theorem Ak0{r:IntKind}{n:Int}:bA P t u (.v (.int r n))=match P.underlying t,P.underlying u with|some _,some (.int k)=>some (.v (.int k (k.wrap n)))|_,_=>none:=by
 unfold bA;cases P.underlying t with
 |none=>rfl
 |some q=>cases P.underlying u with
  |none=>rfl
  |some d=>cases d<;>rfl
@[simp]theorem Amp{s e:Nat}{a:Option Addr}{c:Nat}:L6 P H s e t (.v (.slice a 0 c))=match P.underlying t with|some (.slice _)=>some []|_=>none:=by
 unfold L6;cases P.underlying t with
 |none=>rfl
 |some q=>cases q<;>rfl
def OM:Nat->List (Nat × A)->Bool
 |_,[]=>true
 |k,(i,_)::l=>i == k&&OM (k+1) l
@[simp]theorem Afs{k:Nat}:OM k []=true:=rfl
@[simp]theorem YU{k i:Nat}{x:A}{l:List (Nat × A)}:OM k ((i,x)::l)=(i == k&&OM (k+1) l):=rfl
theorem Ps:∀(l:List (Nat × A))(k:Nat),OM k l=true->l.map (·.1)=List.range' k l.length
 |[],k,_=>rfl
 |(i,x)::l,k,h=>by
  simp only[YU,Bool.and_eq_true,beq_iff_eq]at h;simp only[List.map_cons,List.length_cons,List.range'_succ];rw[h.1,Ps l (k+1) h.2]
def AiY(len:Nat)(ps:List (Nat × A)):Option Nat->Option Value->Option A
 |some s,some z=>if OM 0 ps=true/\ps.length=len/\len*s<=16777216/\(GZ z).cells.length=s/\A.ones (GZ z).cells=true/\(ps.all fun p=>p.2.cells.length == s&&A.ones p.2.cells&&p.2.cells.all A.bare1)=true then some (.sl true (ps.map (·.2)))else none
 |_,_=>none
@[simp]theorem ti{len s:Nat}{z:Value}{ps:List (Nat × A)}:AiY len ps (some s) (some z)=if OM 0 ps=true/\ps.length=len/\len*s<=16777216/\(GZ z).cells.length=s/\A.ones (GZ z).cells=true/\(ps.all fun p=>p.2.cells.length == s&&A.ones p.2.cells&&p.2.cells.all A.bare1)=true then some (.sl true (ps.map (·.2)))else none:=rfl
theorem Pj:∀(l:List (Nat × A))(k:Nat),l.map (·.1)=List.range' k l.length->OM k l=true
 |[],k,_=>rfl
 |(i,x)::l,k,h=>by
  simp only[List.map_cons,List.length_cons,List.range'_succ,List.cons.injEq]at h;simp only[YU,Bool.and_eq_true,beq_iff_eq];exact⟨h.1,Pj l (k+1) h.2⟩
@[simp]theorem y7{len:Nat}{ps:List (Nat × A)}:Ip P t len ps=match P.underlying t with|some (.slice e)=>AiY len ps (Eg P e) (BW P e)|_=>none:=by
 unfold Ip;cases P.underlying t with
 |none=>rfl
 |some q=>
  cases q<;>try rfl
  rename_i e;simp only;cases Eg P e with
  |none=>rfl
  |some s=>
   cases BW P e with
   |none=>rfl
   |some z=>
    have he:(ps.map (·.1)=List.range len)↔(OM 0 ps=true/\ps.length=len):=by
     constructor
     ·intro h;have hl:ps.length=len:=by have:=congrArg List.length h;simpa using this
      exact⟨Pj ps 0 (by rw[h,hl,List.range_eq_range']),hl⟩
     ·rintro⟨h1,h2⟩;rw[Ps _ _ h1,h2,List.range_eq_range']
    simp only[ti,he,and_assoc]
def AgR(H:Hp)(d:Nm)(e:TypeId)(len:Nat)(ps:List (Nat × A)):Option Nat->Option Value->Option (A × Eff)
 |some s,some z=>if OM 0 ps=true/\ps.length=len/\len*s<=16777216/\(GZ z).cells.length=s/\A.ones (GZ z).cells=true/\(ps.all fun p=>p.2.cells.length == s&&A.ones p.2.cells)=true/\Fu d e=true then some (.osl d ((H d).u+1) s 0 len,.one d ⟨(H d).u+1,.arr s (ps.map (·.2))⟩)else none
 |_,_=>none
@[simp]theorem rI{H:Hp}{d:Nm}{e:TypeId}{len s:Nat}{z:Value}{ps:List (Nat × A)}:AgR H d e len ps (some s) (some z)=if OM 0 ps=true/\ps.length=len/\len*s<=16777216/\(GZ z).cells.length=s/\A.ones (GZ z).cells=true/\(ps.all fun p=>p.2.cells.length == s&&A.ones p.2.cells)=true/\Fu d e=true then some (.osl d ((H d).u+1) s 0 len,.one d ⟨(H d).u+1,.arr s (ps.map (·.2))⟩)else none:=rfl
@[simp]theorem x4{H:Hp}{d:Nm}{len:Nat}{ps:List (Nat × A)}:Fq P H d t len ps=match P.underlying t with|some (.slice e)=>AgR H d e len ps (Eg P e) (BW P e)|_=>none:=by
 unfold Fq;cases P.underlying t with
 |none=>rfl
 |some q=>
  cases q<;>try rfl
  rename_i e;simp only;cases Eg P e with
  |none=>rfl
  |some s=>
   cases BW P e with
   |none=>rfl
   |some z=>
    have he:(ps.map (·.1)=List.range len)↔(OM 0 ps=true/\ps.length=len):=by
     constructor
     ·intro h;have hl:ps.length=len:=by have:=congrArg List.length h;simpa using this
      exact⟨Pj ps 0 (by rw[h,hl,List.range_eq_range']),hl⟩
     ·rintro⟨h1,h2⟩;rw[Ps _ _ h1,h2,List.range_eq_range']
    simp only[rI,he,and_assoc]
@[simp]theorem zh{a b:Bool}:Vy P .neq t (.v (.bool a)) (.v (.bool b))=match P.underlying t with|some .bool=>some (.v (.bool (!(a == b))))|_=>none:=by
 show(ah P 100 t _ _).map _=_;unfold ah;cases P.underlying t with
 |none=>rfl
 |some q=>cases q<;>rfl
end
def Gt{α:Type}(F:Option α)(K:α->Prop):Prop:=∃x,F=some x/\K x
def Nd(q:Bool)(F:Option A)(K:A->Prop):Prop:=∃x,(q=true->F=some x)/\K (gd q x)
def Imp(q:Bool)(F:Prop):Prop:=q=true->F
def mr(b:Bool)(F G:Prop):Prop:=(b=true->F)/\(b=false->G)
@[congr]theorem Aj1{α:Type}{F F':Option α}{K:α->Prop}(h:F=F'):Gt F K=Gt F' K:=by rw[h]
@[congr]theorem Af7{q q':Bool}{F F':Option A}{K:A->Prop}(h1:q=q')(h2:F=F'):Nd q F K=Nd q' F' K:=by rw[h1,h2]
@[congr]theorem Afi{b b':Bool}{F G:Prop}(h:b=b'):mr b F G=mr b' F G:=by rw[h]
@[congr]theorem Adg{P:Program}{K:Sta->Prop}{l:List CO}{lg lg':Lg}{st st':Sta}(h0:lg=lg')(h:st=st'):AE P K l lg st=AE P K l lg' st':=by rw[h0,h]
@[congr]theorem Ae3{c:Cx}{x:CC}{Q:Exit->Sta->Prop}{st st':Sta}(h:st=st'):WPC c x Q st=WPC c x Q st':=by rw[h]
@[congr]theorem Ab0{c:Cx}{x:CC}{Q:Exit->Sta->Prop}{st st':Sta}(h:st=st'):LoopC c x Q st=LoopC c x Q st':=by rw[h]
@[congr]theorem Acg{K:Sta->Prop}{Q:Exit->Sta->Prop}{e e':Exit}{st st':Sta}(h0:e=e')(h:st=st'):Ej K Q e st=Ej K Q e' st':=by rw[h0,h]
@[congr]theorem AbX{c:Cx}{K:Sta->Prop}{st st':Sta}(h:st=st'):WC c K st=WC c K st':=by rw[h]
@[congr]theorem y6{i:Nat}{Q:Exit->Sta->Prop}{e e':Exit}{st st':Sta}(h0:e=e')(h:st=st'):BA i Q e st=BA i Q e' st':=by rw[h0,h]
@[congr]theorem Af9{Q:Exit->Sta->Prop}{e e':Exit}{st st':Sta}(h0:e=e')(h:st=st'):NoG Q e st=NoG Q e' st':=by rw[h0,h]
@[simp]theorem Ako{α:Type}{x:α}{K:α->Prop}:Gt (some x) K=K x:=by simp[Gt]
@[simp]theorem AkM{α:Type}{K:α->Prop}:Gt none K=False:=by simp[Gt]
@[simp high]theorem Aky{α:Type}{C:Prop}[Decidable C]{F:Option α}{K:α->Prop}:Gt (if C then F else none) K=(C/\Gt F K):=by
 by_cases h:C<;>simp[h]
@[simp]theorem AgF{q:Bool}{x:A}{K:A->Prop}:Nd q (some x) K=K (gd q x):=by
 apply propext;constructor
 ·rintro⟨y,h1,h2⟩;cases q
  ·exact h2
  ·cases h1 rfl;exact h2
 ·exact fun h=>⟨x,fun _=>rfl,h⟩
@[simp high]theorem Ail{q:Bool}{C:Prop}[Decidable C]{F:Option A}{K:A->Prop}:Nd q (if C then F else none) K=(Imp q C/\Nd q F K):=by
 cases q
 ·simp[Nd,Imp]
 ·by_cases h:C<;>simp[h,Nd,Imp]
@[simp]theorem AgO{F:Option A}{K:A->Prop}:Nd true F K=Gt F K:=by simp[Nd,Gt,gd]
@[simp]theorem Af2{F:Option A}{K:A->Prop}:Nd false F K=K (.v undef):=by simp[Nd,gd]
@[simp]theorem AgH{F:Prop}:Imp true F=F:=by simp[Imp]
@[simp]theorem AfR{F:Prop}:Imp false F=True:=by simp[Imp]
@[simp]theorem AeS{p:Prop}[Decidable p]{F:Prop}:Imp (decide p) F=(p->F):=by simp[Imp]
@[simp]theorem Ah5{F G:Prop}:mr true F G=F:=by simp[mr]
@[simp]theorem AfT{F G:Prop}:mr false F G=G:=by simp[mr]
@[simp]theorem AeL{p:Prop}[Decidable p]{F G:Prop}:mr (decide p) F G=((p->F)/\(¬p->G)):=by simp[mr]
@[simp]theorem Aln{b:Bool}{F G:Prop}:mr (!b) F G=mr b G F:=by cases b<;>simp
@[simp]theorem AlW{a b:Bool}{F G:Prop}:mr (a&&b) F G=(((a&&b)=true->F)/\((a&&b)=false->G)):=rfl
@[simp]theorem AmU{a b:Bool}{F G:Prop}:mr (a|| b) F G=(((a|| b)=true->F)/\((a|| b)=false->G)):=rfl
@[simp]theorem Ahm{b:Bool}{F:Prop}:mr b F F=F:=by cases b<;>simp
@[simp]theorem Alf{x:A}:gd true x=x:=rfl
@[simp]theorem Ahf{x:A}:gd false x=.v undef:=rfl
@[simp]theorem AmK{q:Bool}{x y:A}:(bif q then gd q x else y)=bif q then x else y:=by cases q<;>rfl
def ng(b:Bool):Bool:=!b
@[simp]theorem AhM:ng true=false:=rfl
@[simp]theorem Agi:ng false=true:=rfl
@[simp]theorem AlG{b:Bool}:(ng b=true)=(b=false):=by cases b<;>simp[ng]
@[simp]theorem Amd{b:Bool}:ng (!b)=b:=by cases b<;>rfl
@[simp]theorem Ala{q:Bool}{x y:A}:(bif q then x else gd (ng q) y)=bif q then x else y:=by cases q<;>rfl
@[simp]theorem Aeu{b:Bool}:HN (.v (.bool b)) true=some b:=by cases b<;>rfl
@[simp]theorem Acn{b:Bool}:HN (.v (.bool b)) false=some (ng b):=by cases b<;>rfl
@[simp]theorem Acy{f:Bool}:HN (.v undef) f=some false:=rfl
@[simp]theorem AiX{q b:Bool}:HN (gd q (.v (.bool b))) true=some (q&&b):=by cases q<;>cases b<;>rfl
@[simp]theorem AgD{q b:Bool}:HN (gd q (.v (.bool b))) false=some (q&&ng b):=by cases q<;>cases b<;>rfl
@[simp]theorem AlN{q c:Bool}{x y:A}:gd q (bif c then gd (q&&c) x else y)=gd q (bif c then x else y):=by cases q<;>cases c<;>rfl
@[simp]theorem Anl{q:Bool}{x:A}:gd q (gd q x)=gd q x:=by cases q<;>rfl
@[simp]theorem Ac7{b:Bool}:jE (.v (.bool b))=some b:=rfl
@[simp]theorem Agx{b:Bool}{x y:A}:jd (.v (.bool b)) x y=some (bif b then x else y):=rfl
section
variable {c:Cx} {Q:Exit->Sta->Prop} {st:Sta} {K:Sta->Prop}
@[simp]theorem Aht:WPC c .skip Q st=Q .normal st:=rfl
@[simp]theorem Ajs{i:Nat}:WPC c (.exit i) Q st=Q (.exit i) st:=rfl
@[simp]theorem Alx:WPC c .ret Q st=Q .ret st:=rfl
def Acf(Q:Exit->Sta->Prop)(live:List Nat)(st:Sta):Prop:=Q .normal (st.keep live)
@[simp]theorem Ahr{live:List Nat}:Acf Q live st=Q .normal (st.keep live):=rfl
@[simp]theorem Aka{ops:List CO}{live:List Nat}:WPC c (.reg ops live) Q st=AE c.P (Acf Q live) ops [] st:=rfl
@[simp]theorem AkN{x y:CC}:WPC c (.seq x y) Q st=WPC c x (Ej (WPC c y Q) Q) st:=rfl
@[simp]theorem Agl{i:Nat}{x:CC}:WPC c (.block i x) Q st=WPC c x (BA i Q) st:=rfl
@[simp]theorem Ahc{x:CC}:WPC c (.loop x) Q st=LoopC c x Q st:=rfl
@[simp]theorem AfE{x:CC}:WPC c (.scope x) Q st=WPC c x (NoG Q) st:=rfl
@[simp]theorem Ak8:NoG Q .ret st=Q .ret st:=rfl
@[simp]theorem Ahq{x:CC}:WPC c (.stop x) Q st=WC c (WPC c x Q) st:=rfl
@[simp]theorem Aic{live:List Nat}{x:CC}:WPC c (.keep live x) Q st=WPC c x Q (st.keep live):=rfl
@[simp]theorem AiJ{o:Operand}{x y:CC}:WPC c (.cond o x y) Q st=Gt (jE (evs st.s o)) fun b=>mr b (WPC c x Q st) (WPC c y Q st):=by
 apply propext;constructor
 ·rintro⟨b,h1,h2,h3⟩;exact⟨b,by rw[h1];rfl,h2,h3⟩
 ·rintro⟨b,h1,h2,h3⟩;exact⟨b,YV h1,h2,h3⟩
@[simp]theorem Aa7:Ej K Q .normal st=K st:=rfl
@[simp]theorem AeB{i:Nat}:Ej K Q (.exit i) st=Q (.exit i) st:=rfl
@[simp]theorem Ae6:Ej K Q .ret st=Q .ret st:=rfl
theorem Ab{x x':CC}(hm:c.P.follows .mixedOrders=true)(he:x=x')(h:WPC c x' (Ej (LoopC c x Q) Q) st):LoopC c x Q st:=by
 subst he;exact kn hm h
@[simp]theorem AnT{P:Program}{w0:World}{I0:Nat->Prop}{n:Nat}:(cx P w0 I0 n).P=P:=rfl
variable {P:Program} {rs:List ResultVar} {r:A}
@[simp]theorem Ai2:Rn P rs r .ret st=Gt (HX P st rs) fun r0=>Iz st.H r0 r:=rfl
@[simp]theorem AeZ{t:Nat}:Sn P st (.tmp t)=some (st.s t):=rfl
@[simp]theorem Ab1{t:TypeId}{a:Nat}:Sn P st (.cell a t)=HW P st.H t (st.s a):=rfl
@[simp]theorem AgT{x:ResultVar}:HX P st [x]=Sn P st x:=rfl
@[simp]theorem AgZ{x y:ResultVar}{l:List ResultVar}:HX P st (x::y::l)=(JH P st (x::y::l)).map .tup:=rfl
@[simp]theorem AbM:JH P st []=some []:=rfl
@[simp]theorem AaR{x:ResultVar}{l:List ResultVar}:JH P st (x::l)=match Sn P st x,JH P st l with|some x,some l=>some (x::l)|_,_=>none:=rfl
end
section
variable {P:Program} {H:Hp} {t u:TypeId} {q:Bool} {x y z:A} {K:A->Prop}
theorem IY{F F':Option A}(h:q=true->F=F'):Nd q F K=Nd q F' K:=by
 cases q
 ·simp
 ·rw[h rfl]
@[simp]theorem Aiz{op:BinOp}:Nd q (Vy P op t (gd q x) y) K=Nd q (Vy P op t x y) K:=IY fun h=>by rw[h];rfl
@[simp]theorem Aho{op:BinOp}:Nd q (Vy P op t x (gd q y)) K=Nd q (Vy P op t x y) K:=IY fun h=>by rw[h];rfl
@[simp]theorem AmM{op:UnOp}:Nd q (unA op (gd q y)) K=Nd q (unA op y) K:=IY fun h=>by rw[h];rfl
@[simp]theorem Ai4:Nd q (HW P H t (gd q y)) K=Nd q (HW P H t y) K:=IY fun h=>by rw[h];rfl
@[simp]theorem yu:Nd q (Cu P t (gd q x) y) K=Nd q (Cu P t x y) K:=IY fun h=>by rw[h];rfl
@[simp]theorem xf:Nd q (Cu P t x (gd q y)) K=Nd q (Cu P t x y) K:=IY fun h=>by rw[h];rfl
@[simp]theorem AkB:Nd q (Ys P t (gd q y)) K=Nd q (Ys P t y) K:=IY fun h=>by rw[h];rfl
@[simp]theorem AkU:Nd q (jd (gd q z) x y) K=Nd q (jd z x y) K:=IY fun h=>by rw[h];rfl
def GB(P:Program)(q:Bool)(t:TypeId)(acc l:List (Nat × A))(K:A->Prop):Prop:=Nd q (CY P t (acc++l)) K
@[congr]theorem AiA{q':Bool}{acc l l':List (Nat × A)}(h0:q=q')(h:l=l'):GB P q t acc l K=GB P q' t acc l' K:=by rw[h0,h]
@[simp]theorem AmR{acc:List (Nat × A)}:GB P q t acc [] K=Nd q (CY P t acc) K:=by simp[GB]
theorem Abn{acc l:List (Nat × A)}{i:Nat}:GB P q t acc ((i,x)::l) K=GB P q t (acc++[(i,x)]) l K:=by simp[GB]
@[simp]theorem AnR{acc l:List (Nat × A)}{i:Nat}{a:Value}:GB P q t acc ((i,.v a)::l) K=GB P q t (acc++[(i,.v a)]) l K:=Abn
end
section
variable {P:Program} {H:Hp} {t u:TypeId}
@[simp]theorem AjX{op:BinOp}{q r:IntKind}{a b:Int}:Vy P op t (.v (.int q a)) (.v (.int r b))=Fo op q r a b:=rfl
@[simp]theorem AbQ{xs ys:List A}:Vy P .eql t (.agg xs) (.agg ys)=if P.eqGuardType P.depth t=false then (ah P 100 t (.agg xs) (.agg ys)).map fun b=>.v (.bool b)else none:=rfl
@[simp]theorem AcC{xs ys:List A}:Vy P .neq t (.agg xs) (.agg ys)=if P.eqGuardType P.depth t=false then (ah P 100 t (.agg xs) (.agg ys)).map fun b=>.v (.bool (!b))else none:=rfl
@[simp]theorem Aie{q r:IntKind}{a b:Int}:Fo .shl q r a b=if 0<=b then some (.v (.int q (q.wrap (a*2 ^ (min b.toNat q.bits)))))else none:=rfl
@[simp]theorem AiM{q r:IntKind}{a b:Int}:Fo .shr q r a b=if 0<=b then some (.v (.int q (a / 2 ^ (min b.toNat q.bits))))else none:=rfl
@[simp]theorem AjU{q:IntKind}{a b:Int}:Fo .add q q a b=some (.v (.int q (q.wrap (a+b)))):=by simp[Fo]
@[simp]theorem AhC{q:IntKind}{a b:Int}:Fo .sub q q a b=some (.v (.int q (q.wrap (a-b)))):=by simp[Fo]
@[simp]theorem Ag4{q:IntKind}{a b:Int}:Fo .mul q q a b=some (.v (.int q (q.wrap (a*b)))):=by simp[Fo]
@[simp]theorem Ahb{q:IntKind}{a b:Int}:Fo .quo q q a b=if b=0 then none else some (.v (.int q (q.wrap (a.tdiv b)))):=by simp[Fo]
@[simp]theorem AhP{q:IntKind}{a b:Int}:Fo .rem q q a b=if b=0 then none else some (.v (.int q (a.tmod b))):=by simp[Fo]
@[simp]theorem Aid{q:IntKind}{a b:Int}:Fo .and q q a b=some (.v (.int q (bits .and q a b))):=by simp[Fo]
@[simp]theorem AlF{q:IntKind}{a b:Int}:Fo .or q q a b=some (.v (.int q (bits .or q a b))):=by simp[Fo]
@[simp]theorem AhD{q:IntKind}{a b:Int}:Fo .xor q q a b=some (.v (.int q (bits .xor q a b))):=by simp[Fo]
@[simp]theorem Ab2{q:IntKind}{a b:Int}:Fo .andNot q q a b=some (.v (.int q (bits .andNot q a b))):=by simp[Fo]
@[simp]theorem AiD{q:IntKind}{a b:Int}:Fo .eql q q a b=some (.v (.bool (decide (a=b)))):=by simp[Fo];rfl
@[simp]theorem AhI{q:IntKind}{a b:Int}:Fo .neq q q a b=some (.v (.bool (!decide (a=b)))):=by simp[Fo];rfl
@[simp]theorem AgW{q:IntKind}{a b:Int}:Fo .lss q q a b=some (.v (.bool (decide (a<b)))):=by simp[Fo]
@[simp]theorem AjN{q:IntKind}{a b:Int}:Fo .leq q q a b=some (.v (.bool (decide (a<=b)))):=by simp[Fo]
@[simp]theorem Ajv{q:IntKind}{a b:Int}:Fo .gtr q q a b=some (.v (.bool (decide (b<a)))):=by simp[Fo]
@[simp]theorem Aja{q:IntKind}{a b:Int}:Fo .geq q q a b=some (.v (.bool (decide (b<=a)))):=by simp[Fo]
@[simp]theorem Alb{b:Bool}:unA .not (.v (.bool b))=some (.v (.bool (!b))):=rfl
@[simp]theorem AlV{q:IntKind}{n:Int}:unA .neg (.v (.int q n))=some (.v (.int q (q.wrap (0-n)))):=rfl
@[simp]theorem AjL{cs:List A}:HW P H t (.pim cs)=match EE P t,Eg P t with|some g,some sz=>NQ g sz cs|_,_=>none:=rfl
@[simp]theorem Ahg{sz:Nat}{cs:List A}:NQ true sz cs=if sz<=cs.length then some (.agg (cs.take sz))else none:=rfl
@[simp]theorem Agp{sz:Nat}{cs:List A}:NQ false sz cs=cs[0]?:=rfl
@[simp]theorem AdR{n:Nat}:Qc (.tmp n)=false:=rfl
@[simp]theorem Ad0{k:IntKind}{n:Int}:Qc (.const (.int k n))=false:=rfl
@[simp]theorem AdN:Qc (.const (.slice none 0 0))=true:=rfl
@[simp]theorem Af1{x:A}:SL P .eql t x=match P.underlying t with|some (.slice _)=>(mh x).map fun b=>.v (.bool b)|_=>none:=by
 unfold SL;cases P.underlying t with
 |none=>rfl
 |some d=>cases d<;>rfl
@[simp]theorem Afd{f:Bool}{x:A}{xs:List A}:mh (.sl f (x::xs))=some false:=rfl
@[simp]theorem Ama{a:Option Addr}{n c:Nat}:mh (.v (.slice a n c))=some a.isNone:=rfl
@[simp]theorem AfY{len:Nat}{lo hi:Option A}:DP len lo hi none=match G7 hi len len with|some h=>(match G7 lo 0 h with|some l=>some (l,h,none)|none=>none)|none=>none:=rfl
@[simp]theorem Ad8{d n:Nat}:G7 none d n=some d:=rfl
@[simp]theorem Aft{k:IntKind}{i:Int}{d n:Nat}:G7 (some (.v (.int k i))) d n=if 0<=i/\i<=n then some i.toNat else none:=rfl
@[simp]theorem Adi{f:Bool}{h n:Nat}:Jp none f h n=(f&&h == n):=rfl
@[simp]theorem Afv{n:Nat}{cs:List A}:A.shift n (.pim cs)=some (.pim (cs.drop n)):=rfl
@[simp]theorem Af8{n u p:Nat}{o:Nm}:A.shift n (.pob o u p)=some (.pob o u (p+n)):=rfl
@[simp]theorem Af4{n u p q:Nat}{o:Nm}:A.shift n (.pel o u p q)=some (.pel o u p (q+n)):=rfl
@[simp]theorem AaW{a:A}{i:Nat}:Jy P t a i=(Am P t i).bind a.shift:=rfl
@[simp]theorem AbW{xs:List A}{i:Nat}:Qr (.tup xs) i=xs[i]?:=rfl
@[simp]theorem Aca{c:A}{cs news:List A}{n:Nat}:splice (c::cs) (n+1) news=c::splice cs n news:=by simp[splice,Nat.add_right_comm]
@[simp]theorem Aco{cs news:List A}:splice cs 0 news=news++cs.drop news.length:=by simp[splice]
end
section
variable {P:Program} {s:Nat->A} {H:Hp}
@[simp]theorem Ah1{d:Nat}{x:A}{H':Hp}:Sta.put ⟨s,H⟩ (some d) x H'=⟨upd s d x,H'⟩:=rfl
@[simp]theorem AjV{x:A}{H':Hp}:Sta.put ⟨s,H⟩ none x H'=⟨s,H'⟩:=rfl
@[simp]theorem AmH{d t:Nat}{x:A}:upd s d x t=if t=d then x else s t:=rfl
@[simp]theorem Al9{t:Nat}:lk [] t=.any:=rfl
@[simp]theorem Ak9{d t:Nat}{x:A}{l:List (Nat × A)}:lk ((d,x)::l) t=if d=t then x else lk l t:=rfl
@[simp]theorem AlT{args:List A}{t:Nat}:Rp args t=(args[t]?).getD .any:=rfl
@[simp]theorem AkG{t:Nat}:evs s (.tmp t)=s t:=rfl
@[simp]theorem Afq{x:Value}:evs s (.const x)=GZ x:=rfl
@[simp]theorem Ahw{g:FuncId}:evs s (.func g)=.fnc g [] []:=rfl
@[simp]theorem Akn{live:List Nat}:Sta.keep ⟨s,H⟩ live=⟨lk (live.map fun k=>(k,s k)),H⟩:=rfl
@[simp]theorem AlX{q:IntKind}{n:Int}:GZ (.int q n)=.v (.int q n):=rfl
@[simp]theorem Ahi{b:Bool}:GZ (.bool b)=.v (.bool b):=rfl
@[simp]theorem AdK{b:ByteArray}:GZ (.string b)=.v (.string b):=rfl
@[simp]theorem AkJ:GZ (.slice none 0 0)=.sl true []:=rfl
@[simp]theorem Akc{cs:Array Value}:GZ (.agg cs)=.agg (cs.toList.map jf):=rfl
@[simp]theorem AjQ{q:IntKind}{n:Int}:jf (.int q n)=.v (.int q n):=rfl
@[simp]theorem AfA{b:Bool}:jf (.bool b)=.v (.bool b):=rfl
@[simp]theorem AhV:jf (.slice none 0 0)=.sl true []:=rfl
@[simp]theorem AgB{cs:List A}:(A.agg cs).cells=cs:=rfl
@[simp]theorem Akz{x:Value}:(A.v x).cells=[.v x]:=rfl
@[simp]theorem Ai3{b:Bool}{xs:List A}:(A.sl b xs).cells=[.sl b xs]:=rfl
@[simp]theorem AfN{o:Nm}{u z p q:Nat}:(A.osl o u z p q).cells=[.osl o u z p q]:=rfl
@[simp]theorem AfG{o:Nm}{u p:Nat}:(A.pob o u p).cells=[.pob o u p]:=rfl
@[simp]theorem AhS:A.ones []=true:=rfl
@[simp]theorem AfU{a:A}{l:List A}:A.ones (a::l)=(a.one&&A.ones l):=by simp[A.ones]
@[simp]theorem AlD{q:IntKind}{n:Int}:(A.v (.int q n)).one=true:=rfl
@[simp]theorem Ahz{b:Bool}:(A.v (.bool b)).one=true:=rfl
@[simp]theorem AmO{b:Bool}{xs:List A}:(A.sl b xs).one=true:=rfl
@[simp]theorem Akv{o:Nm}{u z p q:Nat}:(A.osl o u z p q).one=true:=rfl
@[simp]theorem AkS{o:Nm}{u p:Nat}:(A.pob o u p).one=true:=rfl
@[simp]theorem Agv{o:Nm}{u p:Nat}:(A.pob o u p).isPtr=true:=rfl
@[simp]theorem Akg{x:Value}:(A.v x).isPtr=false:=rfl
@[simp]theorem Akm{x:Value}:(A.v x).bare1=true:=rfl
@[simp]theorem AgQ{b:Bool}{xs:List A}:(A.sl b xs).bare1=true:=rfl
@[simp]theorem Ame{x:Value}:(A.v x).bare=true:=rfl
@[simp]theorem Akj{b:Bool}{xs:List A}:(A.sl b xs).bare=true:=rfl
@[simp]theorem Aiu{cs:List A}:(A.agg cs).bare=cs.all A.bare2:=rfl
@[simp]theorem AlQ{x:Value}:(A.v x).bare2=true:=rfl
@[simp]theorem Aha{b:Bool}{xs:List A}:(A.sl b xs).bare2=true:=rfl
@[simp]theorem AhK{g:FuncId}{fs cs:List A}:(A.fnc g fs cs).bare=(fs.all A.bare1&&cs.all A.bare1):=rfl
@[simp]theorem AjF{n:Nat}:E8 n []=true:=rfl
@[simp]theorem AfZ{n:Nat}{x:A}{l:List A}:E8 n (x::l)=(x.cells.length == n&&E8 n l):=rfl
@[simp]theorem AcL{n:Nat}{l l':List A}:E8 n (l++l')=(E8 n l&&E8 n l'):=by simp[E8]
@[simp]theorem AfL{pl:Nat->Option (Nat × Nat)}{cs:List A}:DI pl cs []=some cs:=rfl
@[simp]theorem AeK{pl:Nat->Option (Nat × Nat)}{cs:List A}{i:Nat}{x:A}{ps:List (Nat × A)}:DI pl cs ((i,x)::ps)=match pl i with
  |none=>none
  |some (off,size)=>if x.cells.length=size/\off+size<=cs.length/\A.ones x.cells=true then DI pl (splice cs off x.cells) ps else none:=rfl
def HO:List (Nm × VOb)->Hp
 |[],_=>⟨0,.none⟩
 |(k,x)::l,o=>if k=o then x else HO l o
def xK:List (Nm × VOb)->Nm->VOb->List (Nm × VOb)
 |[],d,x=>[(d,x)]
 |(k,y)::l,d,x=>if k=d then (k,x)::l else (k,y)::xK l d x
@[simp]theorem Ank:H0=HO []:=rfl
@[simp]theorem AaG{o:Nm}:HO [] o=⟨0,.none⟩:=rfl
@[simp]theorem U4{k o:Nm}{x:VOb}{l:List (Nm × VOb)}:HO ((k,x)::l) o=if k=o then x else HO l o:=rfl
@[simp]theorem yP{d:Nm}{x:VOb}:xK [] d x=[(d,x)]:=rfl
@[simp]theorem sx{k d:Nm}{x y:VOb}{l:List (Nm × VOb)}:xK ((k,y)::l) d x=if k=d then (k,x)::l else (k,y)::xK l d x:=rfl
@[simp]theorem AiS{l:List (Nm × VOb)}{d:Nm}{x:VOb}:Ar (HO l) d x=HO (xK l d x):=by
 funext o;induction l with
 |nil=>
  simp only[Ar,yP,U4,AaG];by_cases h:o=d
  ·subst h;simp
  ·simp[h,Ne.symm h]
 |cons p l ih=>
  obtain⟨k,y⟩:=p;simp only[sx];by_cases hk:k=d
  ·subst hk;simp only[if_pos,U4,Ar];by_cases h:o=k
   ·subst h;simp
   ·simp[h,Ne.symm h]
  ·rw[if_neg hk,U4,<-ih];simp only[Ar,U4];by_cases h:o=d
   ·subst h;simp[hk]
   ·simp[h]
@[simp]theorem Ah7{o:Nm}{u p:Nat}:refs (.pob o u p)=[(o,false)]:=rfl
@[simp]theorem AgX{o:Nm}{u p q:Nat}:refs (.pel o u p q)=[(o,false)]:=rfl
@[simp]theorem Ah8{o:Nm}{u z p q:Nat}:refs (.osl o u z p q)=[(o,false)]:=rfl
@[simp]theorem AmF{x:Value}:refs (.v x)=[]:=rfl
@[simp]theorem Akx{f:Bool}{xs:List A}:refs (.sl f xs)=[]:=rfl
@[simp]theorem AiO{xs:List A}:refs (.pim xs)=[]:=rfl
@[simp]theorem AkP{d o:Nm}{u z p q:Nat}:zw d (.osl o u z p q)=[(o,false)]:=rfl
@[simp]theorem AmJ{d:Nm}{f:Bool}{xs:List A}:zw d (.sl f xs)=[(d,false)]:=rfl
@[simp]theorem Anr{R W R' W':Fp}:nc ⟨R,W⟩ ⟨R',W'⟩=(lK W (R'++W')&&lK W' (R++W)):=rfl
@[simp]theorem AkC{l:Fp}:lK [] l=true:=rfl
@[simp]theorem AhW{p:Nm × Bool}{l m:Fp}:lK (p::l) m=((m.all fun q=>wE p q)&&lK l m):=rfl
@[simp]theorem AlO{p q:Nm}{a b:Bool}:wE (p,a) (q,b)=match a,b with
 |false,false=>p != q
 |true,false=>!p.isPrefixOf q
 |false,true=>!q.isPrefixOf p
 |true,true=>!p.isPrefixOf q&&!q.isPrefixOf p:=rfl
end
section
variable {P:Program} {K:Sta->Prop} {rest:List CO} {s:Nat->A} {H:Hp} {dd:Option Nat} {k:Nat} {f:Bool} {nm:Nm} {ix:Nat} {un:List Nat} {l:Bool} {lg:Lg}
@[simp]theorem Akd{st:Sta}:AE P K [] lg st=K st:=rfl
@[simp]theorem AeH{i:Nat}{g:Ft}:Cc false i g lg=lg:=rfl
@[simp]theorem AfW{i:Nat}{g:Ft}:Cc true i g lg=(i,g)::lg:=rfl
@[simp]theorem AlC{g:Ft}:Ck un [] g=True:=by simp[Ck]
@[simp]theorem AkA{i:Nat}{g h:Ft}:Ck un ((i,g)::lg) h=((i∈un->nc g h=true)/\Ck un lg h):=by simp[Ck]
theorem Q4:Ck un lg ⟨[],[]⟩:=fun p _ _=>by simp[nc,KB,M8]
def fg(q:Bool)(g:Ft):Ft:=⟨bif q then g.R else [],bif q then g.W else []⟩
@[simp]theorem AlS{g:Ft}:fg true g=g:=rfl
@[simp]theorem Ajh{g:Ft}:fg false g=⟨[],[]⟩:=rfl
theorem E9{op:Op}{F:Option A}(hF:∀x E R W,dR P nm op (evs s) H x E R W↔Z5 F x E R W) :
  AE P K (⟨dd,op,none,nm,ix,un,l⟩::rest) lg ⟨s,H⟩=Gt F fun x=>AE P K rest (Cc l ix ⟨[],[]⟩ lg) (Sta.put ⟨s,H⟩ dd x H):=by
 apply propext;constructor
 ·rintro⟨x,E,⟨R,W⟩,h1,h2,h3⟩;obtain⟨h4,rfl,h5,h6⟩:=(hF x E R W).1 h1;subst h5 h6;exact⟨x,h4,h3⟩
 ·rintro⟨x,h1,h2⟩;exact⟨x,.nil,⟨[],[]⟩,(hF _ _ _ _).2 ⟨h1,rfl,rfl,rfl⟩,Q4,h2⟩
theorem IM{op:Op}{F:Option A}(hF:∀x E R W,dR P nm op (evs s) H x E R W↔Z5 F x E R W) :
  AE P K (⟨dd,op,some (k,f),nm,ix,un,l⟩::rest) lg ⟨s,H⟩=Gt (HN (s k) f) fun q=>Nd q F fun x=>AE P K rest (Cc l ix ⟨[],[]⟩ lg) (Sta.put ⟨s,H⟩ dd x H):=by
 apply propext;constructor
 ·rintro⟨x,E,⟨R,W⟩,⟨q,x0,h1,h2,rfl,h4⟩,h5,h6⟩;refine⟨q,h1,x0,fun hq=>((hF _ _ _ _).1 (h2 hq)).1,?_⟩;have:E=.nil/\R=[]/\W=[]:=by
   cases hq:q with
   |true=>exact((hF _ _ _ _).1 (h2 hq)).2
   |false=>exact h4 hq
  obtain⟨rfl,h7,h8⟩:=this;subst h7 h8;exact h6
 ·rintro⟨q,h1,x0,h2,h3⟩;exact⟨_,.nil,⟨[],[]⟩,⟨q,x0,h1,fun hq=>(hF _ _ _ _).2 ⟨h2 hq,rfl,rfl,rfl⟩,rfl,fun _=>⟨rfl,rfl,rfl⟩⟩,Q4,h3⟩
theorem Wd{op:Op}{F:Option (A × Eff)}{R W:Fp}(hF:∀x E R' W',dR P nm op (evs s) H x E R' W'↔F=some (x,E)/\R'=R/\W'=W) :
  AE P K (⟨dd,op,none,nm,ix,un,l⟩::rest) lg ⟨s,H⟩=Gt F fun p=>Ck un lg ⟨R,W⟩/\AE P K rest (Cc l ix ⟨R,W⟩ lg) (Sta.put ⟨s,H⟩ dd p.1 (p.2.app H)):=by
 apply propext;constructor
 ·rintro⟨x,E,⟨R',W'⟩,h1,h2,h3⟩;obtain⟨h4,h5,h6⟩:=(hF x E R' W').1 h1;subst h5 h6;exact⟨(x,E),h4,h2,h3⟩
 ·rintro⟨⟨x,E⟩,h1,h2,h3⟩;exact⟨x,E,⟨R,W⟩,(hF _ _ _ _).2 ⟨h1,rfl,rfl⟩,h2,h3⟩
theorem AR{op:Op}:AE P K (⟨dd,op,some (k,f),nm,ix,un,l⟩::rest) lg ⟨s,H⟩=Gt (HN (s k) f) fun q=>mr q (AE P K (⟨dd,op,none,nm,ix,un,l⟩::rest) lg ⟨s,H⟩) (AE P K rest (Cc l ix ⟨[],[]⟩ lg) (Sta.put ⟨s,H⟩ dd (.v undef) H)):=by
 apply propext;constructor
 ·rintro⟨x,E,⟨R,W⟩,⟨q,x0,h1,h2,rfl,h4⟩,h5,h6⟩;refine⟨q,h1,fun hq=>⟨x0,E,⟨R,W⟩,h2 hq,h5,?_⟩,fun hq=>?_⟩
  ·subst hq;exact h6
  ·subst hq;obtain⟨rfl,h7,h8⟩:=h4 rfl;subst h7 h8;exact h6
 ·rintro⟨q,h1,h2,h3⟩;cases q with
  |true=>
   obtain⟨x,E,g,h4,h5,h6⟩:=h2 rfl;exact⟨x,E,g,⟨true,x,h1,fun _=>h4,rfl,(fun h=>nomatch h)⟩,h5,h6⟩
  |false=>exact⟨_,.nil,⟨[],[]⟩,⟨false,.any,h1,(fun h=>nomatch h),rfl,fun _=>⟨rfl,rfl,rfl⟩⟩,Q4,h3 rfl⟩
section
variable {a b:Operand} {t:TypeId}
@[simp]theorem Akw:AE P K (⟨dd,.move a,none,nm,ix,un,l⟩::rest) lg ⟨s,H⟩=AE P K rest (Cc l ix ⟨[],[]⟩ lg) (Sta.put ⟨s,H⟩ dd (evs s a) H):=by
 rw[E9 (F:=some (evs s a)) (fun _ _ _ _=>Iff.rfl)];simp
@[simp]theorem AfI:AE P K (⟨dd,.assign a,none,nm,ix,un,l⟩::rest) lg ⟨s,H⟩=AE P K rest (Cc l ix ⟨[],[]⟩ lg) (Sta.put ⟨s,H⟩ dd (evs s a) H):=by
 rw[E9 (F:=some (evs s a)) (fun _ _ _ _=>Iff.rfl)];simp
@[simp]theorem Ago:AE P K (⟨dd,.move a,some (k,f),nm,ix,un,l⟩::rest) lg ⟨s,H⟩=Gt (HN (s k) f) fun q=>AE P K rest (Cc l ix ⟨[],[]⟩ lg) (Sta.put ⟨s,H⟩ dd (gd q (evs s a)) H):=by
 rw[IM (F:=some (evs s a)) (fun _ _ _ _=>Iff.rfl)];simp
@[simp]theorem Amz{op:BinOp}{u:TypeId}:AE P K (⟨dd,.binOp op t a b u,none,nm,ix,un,l⟩::rest) lg ⟨s,H⟩=Gt (if Qc b=true then SL P op t (evs s a)else Vy P op t (evs s a) (evs s b)) fun x=>AE P K rest (Cc l ix ⟨[],[]⟩ lg) (Sta.put ⟨s,H⟩ dd x H):=E9 fun _ _ _ _=>Iff.rfl
@[simp]theorem Aig{op:BinOp}{u:TypeId}:AE P K (⟨dd,.binOp op t a b u,some (k,f),nm,ix,un,l⟩::rest) lg ⟨s,H⟩=Gt (HN (s k) f) fun q=>Nd q (if Qc b=true then SL P op t (evs s a)else Vy P op t (evs s a) (evs s b)) fun x=>AE P K rest (Cc l ix ⟨[],[]⟩ lg) (Sta.put ⟨s,H⟩ dd x H):=IM fun _ _ _ _=>Iff.rfl
@[simp]theorem AnK{op:UnOp}:AE P K (⟨dd,.unOp op t a,none,nm,ix,un,l⟩::rest) lg ⟨s,H⟩=Gt (unA op (evs s a)) fun x=>AE P K rest (Cc l ix ⟨[],[]⟩ lg) (Sta.put ⟨s,H⟩ dd x H):=E9 fun _ _ _ _=>Iff.rfl
@[simp]theorem Alm{op:UnOp}:AE P K (⟨dd,.unOp op t a,some (k,f),nm,ix,un,l⟩::rest) lg ⟨s,H⟩=Gt (HN (s k) f) fun q=>Nd q (unA op (evs s a)) fun x=>AE P K rest (Cc l ix ⟨[],[]⟩ lg) (Sta.put ⟨s,H⟩ dd x H):=IM fun _ _ _ _=>Iff.rfl
@[simp]theorem AkK{u:TypeId}:AE P K (⟨dd,.convert t u a,none,nm,ix,un,l⟩::rest) lg ⟨s,H⟩=Gt (bA P t u (evs s a)) fun x=>AE P K rest (Cc l ix ⟨[],[]⟩ lg) (Sta.put ⟨s,H⟩ dd x H):=E9 fun _ _ _ _=>Iff.rfl
@[simp]theorem zZ{i:Nat}:AE P K (⟨dd,.fieldAddr t a i,none,nm,ix,un,l⟩::rest) lg ⟨s,H⟩=Gt (Jy P t (evs s a) i) fun x=>AE P K rest (Cc l ix ⟨[],[]⟩ lg) (Sta.put ⟨s,H⟩ dd x H):=E9 fun _ _ _ _=>Iff.rfl
@[simp]theorem yO{i:Nat}:AE P K (⟨dd,.fieldAddr t a i,some (k,f),nm,ix,un,l⟩::rest) lg ⟨s,H⟩=Gt (HN (s k) f) fun q=>Nd q (Jy P t (evs s a) i) fun x=>AE P K rest (Cc l ix ⟨[],[]⟩ lg) (Sta.put ⟨s,H⟩ dd x H):=IM fun _ _ _ _=>Iff.rfl
@[simp]theorem Aa5  : AE P K (⟨dd,.indexAddr t a b,none,nm,ix,un,l⟩::rest) lg ⟨s,H⟩=Gt (Cu P t (evs s a) (evs s b)) fun x=>AE P K rest (Cc l ix ⟨[],[]⟩ lg) (Sta.put ⟨s,H⟩ dd x H):=E9 fun _ _ _ _=>Iff.rfl
@[simp]theorem xz  : AE P K (⟨dd,.indexAddr t a b,some (k,f),nm,ix,un,l⟩::rest) lg ⟨s,H⟩=Gt (HN (s k) f) fun q=>Nd q (Cu P t (evs s a) (evs s b)) fun x=>AE P K rest (Cc l ix ⟨[],[]⟩ lg) (Sta.put ⟨s,H⟩ dd x H):=IM fun _ _ _ _=>Iff.rfl
@[simp]theorem Ajo  : AE P K (⟨dd,.index t a b,none,nm,ix,un,l⟩::rest) lg ⟨s,H⟩=Gt (Pq P t (evs s a) (evs s b)) fun x=>AE P K rest (Cc l ix ⟨[],[]⟩ lg) (Sta.put ⟨s,H⟩ dd x H):=E9 fun _ _ _ _=>Iff.rfl
@[simp]theorem AdZ{i:Nat}:AE P K (⟨dd,.extract a i,none,nm,ix,un,l⟩::rest) lg ⟨s,H⟩=Gt (Qr (evs s a) i) fun x=>AE P K rest (Cc l ix ⟨[],[]⟩ lg) (Sta.put ⟨s,H⟩ dd x H):=E9 fun _ _ _ _=>Iff.rfl
@[simp]theorem AgG{ps:Array (Nat × Operand)}:AE P K (⟨dd,.build t ps,none,nm,ix,un,l⟩::rest) lg ⟨s,H⟩=Gt (CY P t (ps.toList.map fun p=>(p.1,evs s p.2))) fun x=>AE P K rest (Cc l ix ⟨[],[]⟩ lg) (Sta.put ⟨s,H⟩ dd x H):=E9 fun _ _ _ _=>Iff.rfl
@[simp]theorem AdY{ps:Array (Nat × Operand)}:AE P K (⟨dd,.build t ps,some (k,f),nm,ix,un,l⟩::rest) lg ⟨s,H⟩=Gt (HN (s k) f) fun q=>GB P q t [] (ps.toList.map fun p=>(p.1,evs s p.2)) fun x=>AE P K rest (Cc l ix ⟨[],[]⟩ lg) (Sta.put ⟨s,H⟩ dd x H):=IM fun _ _ _ _=>Iff.rfl
@[simp]theorem zj{n:Nat}{ps:Array (Nat × Operand)}:AE P K (⟨dd,.buildSlice t n ps,none,[],ix,un,l⟩::rest) lg ⟨s,H⟩=Gt (Ip P t n (ps.toList.map fun p=>(p.1,evs s p.2))) fun x=>AE P K rest (Cc l ix ⟨[],[]⟩ lg) (Sta.put ⟨s,H⟩ dd x H):=E9 fun _ _ _ _=>Iff.rfl
@[simp]theorem AhJ{lo hi mx:Option Operand}:AE P K (⟨dd,.slice t a lo hi mx,none,nm,ix,un,l⟩::rest) lg ⟨s,H⟩=Gt (MP P t (evs s a) (lo.map (evs s)) (hi.map (evs s)) (mx.map (evs s))) fun x=>AE P K rest (Cc l ix ⟨[],[]⟩ lg) (Sta.put ⟨s,H⟩ dd x H):=E9 fun _ _ _ _=>Iff.rfl
@[simp]theorem AcK  : AE P K (⟨dd,.nilCheck a,none,nm,ix,un,l⟩::rest) lg ⟨s,H⟩=Gt (xL (evs s a)) fun x=>AE P K rest (Cc l ix ⟨[],[]⟩ lg) (Sta.put ⟨s,H⟩ dd x H):=E9 fun _ _ _ _=>Iff.rfl
@[simp]theorem zf  : AE P K (⟨dd,.nilCheck a,some (k,f),nm,ix,un,l⟩::rest) lg ⟨s,H⟩=Gt (HN (s k) f) fun q=>Nd q (xL (evs s a)) fun x=>AE P K rest (Cc l ix ⟨[],[]⟩ lg) (Sta.put ⟨s,H⟩ dd x H):=IM fun _ _ _ _=>Iff.rfl
@[simp]theorem Alp{c:Operand}:AE P K (⟨dd,.pick c a b,none,nm,ix,un,l⟩::rest) lg ⟨s,H⟩=Gt (jd (evs s c) (evs s a) (evs s b)) fun x=>AE P K rest (Cc l ix ⟨[],[]⟩ lg) (Sta.put ⟨s,H⟩ dd x H):=E9 fun _ _ _ _=>Iff.rfl
@[simp]theorem AfV{c:Operand}:AE P K (⟨dd,.pick c a b,some (k,f),nm,ix,un,l⟩::rest) lg ⟨s,H⟩=Gt (HN (s k) f) fun q=>Nd q (jd (evs s c) (evs s a) (evs s b)) fun x=>AE P K rest (Cc l ix ⟨[],[]⟩ lg) (Sta.put ⟨s,H⟩ dd x H):=IM fun _ _ _ _=>Iff.rfl
@[simp]theorem Acl{g:FuncId}{fs cs:Array Operand}:AE P K (⟨dd,.makeFunc (.func g) fs cs,none,nm,ix,un,l⟩::rest) lg ⟨s,H⟩=Gt (some (A.fnc g (fs.toList.map (evs s)) (cs.toList.map (evs s)))) fun x=>AE P K rest (Cc l ix ⟨[],[]⟩ lg) (Sta.put ⟨s,H⟩ dd x H):=E9 fun _ _ _ _=>Iff.rfl
@[simp]theorem sV  : AE P K (⟨dd,.makeInterface t a,none,nm,ix,un,l⟩::rest) lg ⟨s,H⟩=Gt (m7 P t (evs s a)) fun x=>AE P K rest (Cc l ix ⟨[],[]⟩ lg) (Sta.put ⟨s,H⟩ dd x H):=E9 fun _ _ _ _=>Iff.rfl
@[simp]theorem zc{u:TypeId}{ok:Bool}:AE P K (⟨dd,.typeAssert a t u ok,none,nm,ix,un,l⟩::rest) lg ⟨s,H⟩=Gt (QQ P u ok (evs s a)) fun x=>AE P K rest (Cc l ix ⟨[],[]⟩ lg) (Sta.put ⟨s,H⟩ dd x H):=E9 fun _ _ _ _=>Iff.rfl
@[simp]theorem AmG{as':Array Operand}{ts:Array TypeId}:AE P K (⟨dd,.call { callee:=.builtin .min,args:=as',argTypes:=ts },none,nm,ix,un,l⟩::rest) lg ⟨s,H⟩=Gt (Ic false (as'.toList.map (evs s))) fun x=>AE P K rest (Cc l ix ⟨[],[]⟩ lg) (Sta.put ⟨s,H⟩ dd x H):=E9 fun _ _ _ _=>Iff.rfl
@[simp]theorem Amr{as':Array Operand}{ts:Array TypeId}:AE P K (⟨dd,.call { callee:=.builtin .max,args:=as',argTypes:=ts },none,nm,ix,un,l⟩::rest) lg ⟨s,H⟩=Gt (Ic true (as'.toList.map (evs s))) fun x=>AE P K rest (Cc l ix ⟨[],[]⟩ lg) (Sta.put ⟨s,H⟩ dd x H):=E9 fun _ _ _ _=>Iff.rfl
@[simp]theorem Al8:AE P K (⟨dd,.call { callee:=.builtin .len,args:=#[a],argTypes:=#[t] },none,nm,ix,un,l⟩::rest) lg ⟨s,H⟩=Gt (Ys P t (evs s a)) fun x=>AE P K rest (Cc l ix ⟨[],[]⟩ lg) (Sta.put ⟨s,H⟩ dd x H):=E9 fun x E R W=>by
  constructor
  ·rintro⟨a',t',h1,h2,h3⟩;cases h1;cases h2;exact h3
  ·intro h;exact⟨a,t,rfl,rfl,h⟩
@[simp]theorem Ajk:AE P K (⟨dd,.call { callee:=.builtin .len,args:=#[a],argTypes:=#[t] },some (k,f),nm,ix,un,l⟩::rest) lg ⟨s,H⟩=Gt (HN (s k) f) fun q=>Nd q (Ys P t (evs s a)) fun x=>AE P K rest (Cc l ix ⟨[],[]⟩ lg) (Sta.put ⟨s,H⟩ dd x H):=IM fun x E R W=>by
  constructor
  ·rintro⟨a',t',h1,h2,h3⟩;cases h1;cases h2;exact h3
  ·intro h;exact⟨a,t,rfl,rfl,h⟩
@[simp]theorem Aj9:AE P K (⟨dd,.load t a,none,nm,ix,un,l⟩::rest) lg ⟨s,H⟩=Gt (HW P H t (evs s a)) fun x=>Ck un lg ⟨refs (evs s a),[]⟩/\AE P K rest (Cc l ix ⟨refs (evs s a),[]⟩ lg) (Sta.put ⟨s,H⟩ dd x H):=by
 apply propext;constructor
 ·rintro⟨x,E,⟨R,W⟩,⟨h1,rfl,h2,h3⟩,h4,h5⟩;simp only at h2 h3;subst h2 h3;exact⟨x,h1,h4,h5⟩
 ·rintro⟨x,h1,h4,h5⟩;exact⟨x,.nil,⟨_,_⟩,⟨h1,rfl,rfl,rfl⟩,h4,h5⟩
@[simp]theorem Af6:AE P K (⟨dd,.load t a,some (k,f),nm,ix,un,l⟩::rest) lg ⟨s,H⟩=Gt (HN (s k) f) fun q=>Nd q (HW P H t (evs s a)) fun x=>Ck un lg (fg q ⟨refs (evs s a),[]⟩)/\AE P K rest (Cc l ix (fg q ⟨refs (evs s a),[]⟩) lg) (Sta.put ⟨s,H⟩ dd x H):=by
 apply propext;constructor
 ·rintro⟨x,E,⟨R,W⟩,⟨q,x0,h1,h2,rfl,h4⟩,h5,h6⟩;refine⟨q,h1,x0,fun hq=>(h2 hq).1,?_⟩;have:E=.nil/\(⟨R,W⟩:Ft)=fg q ⟨refs (evs s a),[]⟩:=by
   cases hq:q with
   |true=>
    obtain⟨_,e1,e2,e3⟩:=h2 hq;simp only at e2 e3;exact⟨e1,by rw[e2,e3];rfl⟩
   |false=>
    obtain⟨e1,e2,e3⟩:=h4 hq;simp only at e2 e3;exact⟨e1,by rw[e2,e3];rfl⟩
  obtain⟨rfl,e⟩:=this;rw[e]at h5 h6;exact⟨h5,h6⟩
 ·rintro⟨q,h1,x0,h2,h5,h6⟩;refine⟨_,.nil,fg q ⟨refs (evs s a),[]⟩,⟨q,x0,h1,fun hq=>⟨h2 hq,rfl,?_,?_⟩,rfl,fun hq=>⟨rfl,?_,?_⟩⟩,h5,h6⟩<;>subst hq<;>rfl
@[simp]theorem Ag2:AE P K (⟨dd,.alloc t,none,nm,ix,un,l⟩::rest) lg ⟨s,H⟩=Gt (Se P H nm t) fun p=>Ck un lg ⟨[],[(nm,false)]⟩/\AE P K rest (Cc l ix ⟨[],[(nm,false)]⟩ lg) (Sta.put ⟨s,H⟩ dd p.1 (p.2.app H)):=Wd fun _ _ _ _=>Iff.rfl
@[simp]theorem Amx:AE P K (⟨dd,.box t a,none,nm,ix,un,l⟩::rest) lg ⟨s,H⟩=Gt (n9 H nm t (evs s a)) fun p=>Ck un lg ⟨[],[(nm,false)]⟩/\AE P K rest (Cc l ix ⟨[],[(nm,false)]⟩ lg) (Sta.put ⟨s,H⟩ dd p.1 (p.2.app H)):=Wd fun _ _ _ _=>Iff.rfl
@[simp]theorem ye{n a':Nat}{d':Nm}{ps:Array (Nat × Operand)}:AE P K (⟨dd,.buildSlice t n ps,none,a'::d',ix,un,l⟩::rest) lg ⟨s,H⟩=Gt (Fq P H (a'::d') t n (ps.toList.map fun p=>(p.1,evs s p.2))) fun p=>Ck un lg ⟨[],[(a'::d',false)]⟩/\AE P K rest (Cc l ix ⟨[],[(a'::d',false)]⟩ lg) (Sta.put ⟨s,H⟩ dd p.1 (p.2.app H)):=Wd fun _ _ _ _=>Iff.rfl
@[simp]theorem zL:AE P K (⟨dd,.makeSlice t a b,none,nm,ix,un,l⟩::rest) lg ⟨s,H⟩=Gt (Ha P H nm t (evs s a) (evs s b)) fun p=>Ck un lg ⟨[],[(nm,false)]⟩/\AE P K rest (Cc l ix ⟨[],[(nm,false)]⟩ lg) (Sta.put ⟨s,H⟩ dd p.1 (p.2.app H)):=Wd fun _ _ _ _=>Iff.rfl
@[simp]theorem Ahx:AE P K (⟨dd,.store t a b,none,nm,ix,un,l⟩::rest) lg ⟨s,H⟩=Gt (Jw P H t (evs s a) (evs s b)) fun E=>Ck un lg ⟨[],refs (evs s a)⟩/\AE P K rest (Cc l ix ⟨[],refs (evs s a)⟩ lg) (Sta.put ⟨s,H⟩ dd .any (E.app H)):=by
 apply propext;constructor
 ·rintro⟨x,E,⟨R,W⟩,⟨h1,rfl,h2,h3⟩,h4,h5⟩;simp only at h2 h3;subst h2 h3;exact⟨E,h1,h4,h5⟩
 ·rintro⟨E,h1,h4,h5⟩;exact⟨_,E,⟨_,_⟩,⟨h1,rfl,rfl,rfl⟩,h4,h5⟩
@[simp]theorem Afr{u:TypeId}:AE P K (⟨dd,.call { callee:=.builtin .append,args:=#[a,b],argTypes:=#[t,u] },none,nm,ix,un,l⟩::rest) lg ⟨s,H⟩=Gt (HK P H nm t u (evs s a) (evs s b)) fun p=>Ck un lg ⟨refs (evs s b),zw nm (evs s a)⟩/\AE P K rest (Cc l ix ⟨refs (evs s b),zw nm (evs s a)⟩ lg) (Sta.put ⟨s,H⟩ dd p.1 (p.2.app H)):=
 Wd fun x E R W=>by
  constructor
  ·rintro⟨a',b',t',u',h1,h2,h3,h4,h5⟩;cases h1;cases h2;exact⟨h3,h4,h5⟩
  ·rintro⟨h3,h4,h5⟩;exact⟨a,b,t,u,rfl,rfl,h3,h4,h5⟩
@[simp]theorem AiP:AE P K (⟨dd,.call { callee:=.builtin .clear,args:=#[a],argTypes:=#[t] },none,nm,ix,un,l⟩::rest) lg ⟨s,H⟩=Gt (Lm P H t (evs s a)) fun p=>Ck un lg ⟨[],refs (evs s a)⟩/\AE P K rest (Cc l ix ⟨[],refs (evs s a)⟩ lg) (Sta.put ⟨s,H⟩ dd p.1 (p.2.app H)):=
 Wd fun x E R W=>by
  constructor
  ·rintro⟨a',t',h1,h2,h3,h4,h5⟩;cases h1;cases h2;exact⟨h3,h4,h5⟩
  ·rintro⟨h3,h4,h5⟩;exact⟨a,t,rfl,rfl,h3,h4,h5⟩
theorem Ae{g:FuncId}{as':Array Operand}{ts:Array TypeId}{x:A}(hs:Spec P g (as'.toList.map (evs s)) x)(hb:(as'.toList.map (evs s)).all A.bare=true)(h:AE P K rest (Cc l ix ⟨[],[]⟩ lg) (Sta.put ⟨s,H⟩ dd x H)) :
  AE P K (⟨dd,.call { callee:=.value (.func g),args:=as',argTypes:=ts },none,nm,ix,un,l⟩::rest) lg ⟨s,H⟩:=
 ⟨x,.nil,⟨[],[]⟩,⟨g,[],[],rfl,.inl ⟨by simpa using hb,by simpa using hs,rfl,rfl,rfl⟩⟩,Q4,h⟩
theorem P0{o:Operand}{g:FuncId}{fs caps:List A}{as':Array Operand}{ts:Array TypeId}{x:A}(ho:evs s o=.fnc g fs caps)(hs:Spec P g (fs++(as'.toList.map (evs s)++caps)) x)(hb:(fs++(as'.toList.map (evs s)++caps)).all A.bare=true)(h:AE P K rest (Cc l ix ⟨[],[]⟩ lg) (Sta.put ⟨s,H⟩ dd x H)) :
  AE P K (⟨dd,.call { callee:=.value o,args:=as',argTypes:=ts },none,nm,ix,un,l⟩::rest) lg ⟨s,H⟩:=
 ⟨x,.nil,⟨[],[]⟩,⟨g,fs,caps,ho,.inl ⟨hb,hs,rfl,rfl,rfl⟩⟩,Q4,h⟩
theorem Yk{g:FuncId}{as':Array Operand}{ts:Array TypeId}{x:A}(as'':List A)(hs:SpecB P g as'' x)(hf:IV H (as'.toList.map (evs s)) as'')(hc:Ck un lg ⟨[([],true)],[]⟩)(h:AE P K rest (Cc l ix ⟨[([],true)],[]⟩ lg) (Sta.put ⟨s,H⟩ dd x H)) :
  AE P K (⟨dd,.call { callee:=.value (.func g),args:=as',argTypes:=ts },none,nm,ix,un,l⟩::rest) lg ⟨s,H⟩:=
 ⟨x,.nil,⟨_,_⟩,⟨g,[],[],rfl,.inr (.inl ⟨⟨as'',by simpa using hf,hs⟩,rfl,rfl,rfl⟩)⟩,hc,h⟩
theorem gZ{g:FuncId}{as':Array Operand}{ts:Array TypeId}{x:A}(E:Eff)(R W:Fp)(hs:∀H2,Agree (R++W) H H2->Vw P H2 g (as'.toList.map (evs s)) x E)(hw:R7 E W)(hc:Ck un lg ⟨R,W⟩)(h:AE P K rest (Cc l ix ⟨R,W⟩ lg) (Sta.put ⟨s,H⟩ dd x (E.app H))) :
  AE P K (⟨dd,.call { callee:=.value (.func g),args:=as',argTypes:=ts },none,nm,ix,un,l⟩::rest) lg ⟨s,H⟩:=
 ⟨x,E,⟨R,W⟩,⟨g,[],[],rfl,.inr (.inr ⟨by simpa using hs,hw⟩)⟩,hc,h⟩
theorem VI{g:FuncId}{as':Array Operand}{ts:Array TypeId}{x:A}{q:Bool}(hq:HN (s k) f=some q)(hs:q=true->Spec P g (as'.toList.map (evs s)) x/\(as'.toList.map (evs s)).all A.bare=true)
  (h:AE P K rest (Cc l ix ⟨[],[]⟩ lg) (Sta.put ⟨s,H⟩ dd (gd q x) H)) :
  AE P K (⟨dd,.call { callee:=.value (.func g),args:=as',argTypes:=ts },some (k,f),nm,ix,un,l⟩::rest) lg ⟨s,H⟩:=
 ⟨_,.nil,⟨[],[]⟩,⟨q,x,hq,fun e=>⟨g,[],[],rfl,.inl ⟨by simpa using (hs e).2,by simpa using (hs e).1,rfl,rfl,rfl⟩⟩,rfl,fun _=>⟨rfl,rfl,rfl⟩⟩,Q4,h⟩
end
end
section
variable {P:Program} {K:Sta->Prop} {rest:List CO} {s:Nat->A} {H:Hp} {dd:Option Nat} {k:Nat} {g:FuncId} {as':Array Operand} {ts:Array TypeId} {x:A} {q:Bool} {L:List A} {nm:Nm} {ix:Nat} {un:List Nat} {l:Bool} {lg:Lg}
theorem CE(hq:s k=.v (.bool q))(hs:q=true->Spec P g L x)(hL:q=true->as'.toList.map (evs s)=L)(hb:L.all A.bare=true)
  (h:AE P K rest (Cc l ix ⟨[],[]⟩ lg) (Sta.put ⟨s,H⟩ dd (gd q x) H)) :
  AE P K (⟨dd,.call { callee:=.value (.func g),args:=as',argTypes:=ts },some (k,true),nm,ix,un,l⟩::rest) lg ⟨s,H⟩:=
 VI (q:=q) (by rw[hq];cases q<;>rfl) (fun e=>by rw[hL e];exact⟨hs e,hb⟩) h
theorem DC(hq:s k=.v (.bool q))(hs:q=false->Spec P g L x)(hL:q=false->as'.toList.map (evs s)=L)(hb:L.all A.bare=true)
  (h:AE P K rest (Cc l ix ⟨[],[]⟩ lg) (Sta.put ⟨s,H⟩ dd (gd (ng q) x) H)) :
  AE P K (⟨dd,.call { callee:=.value (.func g),args:=as',argTypes:=ts },some (k,false),nm,ix,un,l⟩::rest) lg ⟨s,H⟩:=
 VI (q:=ng q) (by rw[hq];cases q<;>rfl) (fun e=>by have e:q=false:=(by simpa using e);rw[hL e];exact⟨hs e,hb⟩) h
end
@[simp]theorem Ai9{q r t:Bool}:(bif q then A.v (.bool r)else A.v (.bool t))=A.v (.bool (bif q then r else t)):=by cases q<;>rfl
theorem Ad{H:Hp}{a:A}(h:a.bare=true):Iz H a a:=fun c w I μ v hs hr=>(hr.of_bare h).mono0 (fun b hb=>.inl hb) (fun _ _=>rfl)
theorem Abw{w:World}{I:Nat->Prop}{μ:Mu}{f:Bool}{xs:List A}{v:Value}(h:Rel w I μ (.sl f xs) v):Rel w I μ (.sl false xs) v:=by
 cases h with
 |slN _ _ a cap _=>exact .slN _ _ _ _ (fun h=>by cases h)
 |sl _ _ b off n cap sz _ g h1 h2 h3 h4 h5 h6 h7 h8=>exact .sl _ _ b off n cap sz _ g h1 h2 h3 (fun h=>by cases h) h5 h6 h7 h8
theorem Ai{H:Hp}{f:Bool}{xs:List A}:Iz H (.sl f xs) (.sl false xs):=fun c w I μ v hs hr=>Abw (Ad (a:=.sl f xs) rfl c w I μ v hs hr)
theorem BJ{H:Hp}{p q:Bool}(h:p=q):Iz H (.v (.bool p)) (.v (.bool q)):=by rw[h];exact Ad rfl
theorem GG{H:Hp}{k:IntKind}{p q:Int}(h:p=q):Iz H (.v (.int k p)) (.v (.int k q)):=by rw[h];exact Ad rfl
theorem I8{H:Hp}{a a':A}(h:a.bare=true)(e:a=a'):Iz H a a':=by rw[<-e];exact Ad h
theorem LX{H:Hp}{o:Nm}{u off len sz:Nat}{xs ys:List A}(ho:Rh H o u=some (sz,xs))(hl:off+len<=xs.length)(hn:ys.length=len)(hy:∀y,y∈ys->y.cells.length=sz)(h1:A.ones (ys.flatMap A.cells)=true)
  (hb:IV H (((xs.drop off).take len).flatMap A.cells) (ys.flatMap A.cells)):Iz H (.osl o u sz off len) (.sl false ys):=by
 intro c w I μ v hs hr;obtain⟨hg1,hg2⟩:=Lw hb;cases hr with
 |osl _ _ _ _ _ _ a cap g1 g2 g4 g5 g3=>
  obtain⟨hu,k2,hrow⟩:=hs.row ho;obtain⟨_,hcur⟩:=g3 hu.symm;by_cases h0:len=0
  ·subst h0;have:ys=[]:=List.eq_nil_of_length_eq_zero hn;subst this;exact .slN _ _ _ _ (fun h=>by cases h)
  rcases hcur with ⟨e,_⟩|⟨p1,rfl,p3⟩
  ·exact(h0 e).elim
  rcases hrow with ⟨q1,_⟩|⟨q1,vs,k3,k4,k5,k6,k7⟩
  ·rw[p1]at q1;cases q1
  subst k2;have hB:EG (μ o) (H o).ob=true:=by rw[(Gj ho).2];exact q1
  have hg:∀(k:Nat)(y:A),(((xs.drop off).take len).flatMap A.cells)[k]? = some y->(xs.flatMap A.cells)[off*(μ o).sz+k]? = some y:=fun k y hk=>Fk k6 hk;refine .sl _ _ (μ o).b (off*(μ o).sz) _ _ (μ o).sz _ (fun k=>vs.getD (off*(μ o).sz+k) undef) (Or.inr ⟨o,hB,rfl⟩) hn.symm oF (fun h=>by cases h) hy
   (fun k y hk=>List.all_eq_true.1 h1 y (List.mem_of_getElem? hk)) (fun k y hk=>?_) (fun k y hk=>?_)
  ·obtain⟨a',ha',_⟩:=hg2 k y hk;have h3:=hg k a' ha';have h4:=BS k6;have h5:xs.length*(μ o).sz<=(μ o).cap*(μ o).sz:=Nat.mul_le_mul_right _ k5;have h6:=(List.getElem?_eq_some_iff.1 h3).1;rw[cell_of_row w (μ o).b _ vs (μ o).e (0,0) k3];have:off*(μ o).sz+k<vs.size:=by rw[k4];omega
   simp[this]
  ·obtain⟨a',ha',hf⟩:=hg2 k y hk;exact hf c w I μ _ hs (k7 _ a' (hg k a' ha')).2
theorem NK{H:Hp}:∀{l:List A},l.all A.bare=true->IV H l l
 |[],_=>trivial
 |a::l,h=>by
  simp only[List.all_cons,Bool.and_eq_true]at h;exact⟨Ad h.1,NK h.2⟩
theorem vZ{a:A}(h:a.bare1=true):a.bare=true:=by cases a<;>simp_all [A.bare1,A.bare,A.bare2]
theorem pk{H:Hp}{o:Nm}{u off len sz:Nat}{xs:List A}(ho:Rh H o u=some (sz,xs))(hl:off+len<=xs.length)(hb:((xs.drop off).take len).all (fun x=>x.cells.length == sz&&x.cells.all fun y=>A.bare1 y&&y.one)=true):Iz H (.osl o u sz off len) (.sl false ((xs.drop off).take len)):=by
 simp only[List.all_eq_true,Bool.and_eq_true,beq_iff_eq]at hb;refine LX ho hl (by simp;omega) (fun y hy=>(hb y hy).1) ?_ (NK ?_)
 ·simp only[A.ones,List.all_eq_true];intro y hy;obtain⟨x,hx,hy⟩:=List.mem_flatMap.1 hy;exact((hb x hx).2 y hy).2
 ·simp only[List.all_eq_true];intro y hy;obtain⟨x,hx,hy⟩:=List.mem_flatMap.1 hy;exact vZ ((hb x hx).2 y hy).1
theorem Bb{H:Hp}{cs cs':List A}(h:IV H cs cs'):Iz H (.agg cs) (.agg cs'):=by
 intro c w I μ v hs hr;obtain⟨hl,hg⟩:=Lw h;cases hr with
 |agg _ _ vs h1 h2=>
  refine .agg _ _ _ oF fun k y hk=>?_;obtain⟨a,ha,hf⟩:=hg k y hk;exact hf c w I μ _ hs (h2 k a ha)
theorem AM{H:Hp}{cs cs':List A}(h:IV H cs cs'):Iz H (.tup cs) (.tup cs'):=by
 intro c w I μ v hs hr;obtain⟨hl,hg⟩:=Lw h;cases hr with
 |tup _ _ vs h1 h2=>
  refine .tup _ _ _ oF fun k y hk=>?_;obtain⟨a,ha,hf⟩:=hg k y hk;exact hf c w I μ _ hs (h2 k a ha)
theorem Aay{H:Hp}{o:Nm}{u:Nat}{cs cs':List A}(ho:X3 H o u=some cs)(h:IV H cs cs')(h1:A.ones cs'=true):Iz H (.pob o u 0) (.pim cs'):=by
 intro c w I μ v hs hr;obtain⟨hl,hg⟩:=Lw h;cases hr with
 |pob _ _ _ _ b k g1 g2 g3=>
  obtain⟨hu,vs,k2,k3,k4⟩:=hs.cells ho;obtain⟨rfl,rfl⟩:=g3 hu.symm;have hB:EG (μ o) (H o).ob=true:=by rw[(VF ho).2];rfl
  refine .pim _ (μ o).b 0 _ (fun k=>vs.getD k undef) (Or.inr ⟨o,hB,rfl⟩) (fun k y hk=>?_) (fun k y hk=>?_) (fun k y hk=>?_)
  ·simp only[A.ones,List.all_eq_true]at h1;exact h1 y (List.mem_of_getElem? hk)
  ·rw[Nat.zero_add,cell_of_row w (μ o).b k vs (μ o).e (0,0) k2];have:k<vs.size:=by rw[k3,<-hl];exact(List.getElem?_eq_some_iff.1 hk).1
   simp[this]
  ·obtain⟨a,ha,hf⟩:=hg k y hk;exact hf c w I μ _ hs (k4 k a ha).2
@[simp]theorem AgE{H:Hp}:IV H [] []=True:=rfl
@[simp]theorem tl{H:Hp}{a a':A}{l l':List A}:IV H (a::l) (a'::l')=(Iz H a a'/\IV H l l'):=rfl
end Go.G
namespace Go.Proofs.YtlaapfplenlfaaaGreat
set_option maxRecDepth 20000
open Go Go.G Go.Proofs
theorem Ah:Tryz.prog.follows .mixedOrders=true:=by kernel_rfl
end Go.Proofs.YtlaapfplenlfaaaGreat
namespace Go.Proofs.YtlaapfplenlfaaaGreat
open Go Go.G Go.Proofs
abbrev iv(n:Int):A:=.v (.int .i64 n)
abbrev uv(n:Int):A:=.v (.int .u64 n)
abbrev bv(b:Bool):A:=.v (.bool b)
theorem kP(w:Int)(m:Nat):w / 2 / 2 ^ m=w / 2 ^ (m+1):=by
 rw[Int.ediv_ediv_of_nonneg dO,Int.pow_succ,Int.mul_comm]
theorem AJ{n:Int}(h0:-9223372036854775808<=n)(h1:n<9223372036854775808):i64.wrap n=n:=by rw[IntKind.wrap_i64];omega
theorem AU{n m:Int}(h0:-9223372036854775808<=n:=by omega)(h1:n<9223372036854775808:=by omega)(h:n=m:=by omega):i64.wrap n=m:=by rw[AJ h0 h1];exact h
theorem Ap(i:Nat)(h:i<9223372036854775807:=by omega):i64.wrap ((i:Int)+1)=((i+1:Nat):Int):=by rw[AJ oF oF];omega
theorem CX{n:Int}(h0:-9223372036854775808<=n:=by omega)(h1:n<9223372036854775808:=by omega):i64.wrap n=n:=AJ h0 h1
theorem EZ{n:Int}(h0:0<=n)(h1:n<18446744073709551616):u64.wrap n=n:=by rw[IntKind.wrap_u64];omega
structure Pt where
 (kind off data ptrs code count seg:Int)
 dbl:Bool
deriving DecidableEq
@[simp]def Pt.a(p:Pt):A:=.agg [iv p.kind,iv p.off,iv p.data,iv p.ptrs,iv p.code,iv p.count,iv p.seg,bv p.dbl]
def AgM(w:Int):Int:=if w / 4 % 1073741824<536870912 then w / 4 % 1073741824 else w / 4 % 1073741824-1073741824
def Vg(w:Int):Pt:=
 if w=0 then ⟨0,0,0,0,0,0,0,false⟩
 else if w % 4=0 then ⟨1,AgM w,w / 4294967296 % 65536,w / 281474976710656,0,0,0,false⟩
 else if w % 4=1 then ⟨2,AgM w,0,0,w / 4294967296 % 8,w / 34359738368,0,false⟩
 else if w % 4=2 then ⟨3,w / 8 % 536870912,0,0,0,0,w / 4294967296,decide (w / 4 % 2=1)⟩
 else ⟨4,0,0,0,0,0,0,false⟩
end Go.Proofs.YtlaapfplenlfaaaGreat
namespace Go.Proofs.YtlaapfplenlfaaaGreat
set_option maxRecDepth 20000
open Go Go.G Go.Proofs
@[simp]theorem Anq:Eg Tryz.prog 5=some 1:=by kernel_rfl
@[simp]theorem Am4:Eg Tryz.prog 61=some 1:=by kernel_rfl
@[simp]theorem Akl:Eg Tryz.prog 170=some 8:=by kernel_rfl
@[simp]theorem Aml:EE Tryz.prog 5=some false:=by kernel_rfl
@[simp]theorem Aj4:EE Tryz.prog 61=some false:=by kernel_rfl
@[simp]theorem AgS:EE Tryz.prog 170=some true:=by kernel_rfl
@[simp]theorem AjZ:BW Tryz.prog 61=some (Value.int u64 0):=by kernel_rfl
@[simp]theorem Afy:BW Tryz.prog 170=some (Value.agg #[Value.int IntKind.u8 0,Value.int IntKind.u8 0,Value.int IntKind.u8 0,Value.int IntKind.u8 0,Value.int IntKind.u8 0,Value.int IntKind.u8 0,Value.int IntKind.u8 0,Value.int IntKind.u8 0]):=by kernel_rfl
@[simp]theorem AgA:Ce Tryz.prog 61=some 8:=by kernel_rfl
@[simp]theorem Ad3(ps:List (Nat × A)):CY Tryz.prog 170 ps=(DI (fun i=>some (i*1,1)) [A.v (Value.int IntKind.u8 0),A.v (Value.int IntKind.u8 0),A.v (Value.int IntKind.u8 0),A.v (Value.int IntKind.u8 0),A.v (Value.int IntKind.u8 0),A.v (Value.int IntKind.u8 0),A.v (Value.int IntKind.u8 0),A.v (Value.int IntKind.u8 0)] ps).map A.agg:=by kernel_rfl
def Adn:Nat->List CO->List (Nat × Nm)
 |_,[]=>[]
 |i,x::l=>if x.nm.isEmpty then Adn (i+1) l else (i,x.nm)::Adn (i+1) l
def TJ:CC->List Mk
 |.reg a b=>[(b,Adn 0 a)]
 |.seq x (.keep b (.stop y))=>TJ x++(999997::b,[])::TJ y
 |.seq x (.keep b y)=>TJ x++(999999::b,[])::TJ y
 |.seq x (.stop y)=>TJ x++([999998],[])::TJ y
 |.seq x y=>TJ x++([],[])::TJ y
 |.cond _ x y=>TJ x++TJ y
 |.block _ x=>TJ x
 |.loop x=>TJ x
 |.scope x=>TJ x
 |_=>[]
abbrev cS:=List (List Nat) × List Nat × List CC
def cP:Code->Nat->Code
 |.seq a b,n=>if n<2 then .seq a b else if n % 2=0 then cP a (n / 2)else cP b (n / 2)
 |.cond o a b,n=>if n<2 then .cond o a b else if n % 2=0 then cP a (n / 2)else cP b (n / 2)
 |.block i a,n=>if n<2 then .block i a else cP a (n / 2)
 |.loop a,n=>if n<2 then .loop a else cP a (n / 2)
 |.scope a,n=>if n<2 then .scope a else cP a (n / 2)
 |c,_=>c
def tgX(x:Nat):List Nat->List Nat
 |[]=>[x]
 |y::l=>if x<y then x::y::l else if x=y then l else y::tgX x l
def tgS:List Nat->List Nat->List Nat
 |[],c=>c
 |x::l,c=>if x<1000 then tgS l (tgX x c)else tgS l c
def nmS:List Nat->List (Nat × Nm)
 |[]=>[]
 |x::l=>if x<1000 then nmS l else match nmS l with
  |[]=>[(x / 1000-1,[x % 1000])]
  |(i,m)::r=>if i=x / 1000-1 then (i,x % 1000::m)::r else (x / 1000-1,[x % 1000])::(i,m)::r
def gC(c:Code)(s:cS):CC × cS:=match s with
 |((994::_)::ms,cur,h::hs)=>(h,ms,cur,hs)
 |(ms,cur,hs)=>match c with
  |.exit i=>(.exit i,ms,cur,hs)
  |.ret=>(.ret,ms,cur,hs)
  |.region _ ops draw=>match ms with
   |m::ms=>match bO ops draw (jw ops) (nmS m) 0 ops.toList,tgS m cur with
    |some l,cur=>(.reg l cur,ms,cur,hs)
    |_,cur=>(.ret,ms,cur,hs)
   |_=>(.ret,ms,cur,hs)
  |.seq a b=>match gC a (ms,cur,hs) with
   |(x,(999::m)::ms,cur,hs)=>match tgS m cur with
    |cur=>match gC b (ms,cur,hs) with
     |(y,s)=>(.seq x (.keep cur y),s)
   |(x,(997::m)::ms,cur,hs)=>match tgS m cur with
    |cur=>match gC b (ms,cur,hs) with
     |(y,s)=>(.seq x (.keep cur (.stop y)),s)
   |(x,(998::_)::ms,s)=>match gC b (ms,s) with
    |(y,s)=>(.seq x (.stop y),s)
   |(x,(995::_)::ms,s)=>match gC b (ms,s) with
    |(y,s)=>(.seq x y,s)
   |(x,s)=>match gC b s with
    |(y,s)=>(.seq x y,s)
  |.cond o a b=>match gC a (ms,cur,hs) with
   |(x,s)=>match gC b s with
    |(y,s)=>(.cond o x y,s)
  |.block i a=>match gC a (ms,cur,hs) with
   |(x,s)=>(.block i x,s)
  |.loop a=>match ms,hs with
   |(996::_)::ms,h::hs=>(.loop h,ms,cur,hs)
   |_,_=>match gC a (ms,cur,hs) with
    |(x,s)=>(.loop x,s)
  |.scope a=>match gC a (ms,cur,hs) with
   |(x,s)=>(.scope x,s)
  |_=>(.skip,ms,cur,hs)
def cG(f:Func)(p:Nat)(m:List (List Nat))(h:List CC):CC:=(gC (cP (f.body.getD .ret) p) (m,[],h)).1
abbrev Bh(a:List CC->CC){c:CC}(_:a []=c:=by conv=>{lhs;cbv}):CC:=c
theorem Ao{a:List CC->CC}{z:CC}{c:CC}{h:a []=c}(e:z=Bh a h):z=c:=e
abbrev CV(a:List CC->CC)(x0:CC){c:CC->CC}(_:∀x0,a [x0]=c x0:=by intros;conv=>{lhs;cbv}):CC:=c x0
theorem BG{a:List CC->CC}{z x0:CC}{c:CC->CC}{h:∀x0,a [x0]=c x0}(e:z=CV a x0 h):z=c x0:=e
abbrev gR(a:List CC->CC)(x0 x1:CC){c:CC->CC->CC}(_:∀x0 x1,a [x0,x1]=c x0 x1:=by intros;conv=>{lhs;cbv}):CC:=c x0 x1
theorem gm{a:List CC->CC}{z x0 x1:CC}{c:CC->CC->CC}{h:∀x0 x1,a [x0,x1]=c x0 x1}(e:z=gR a x0 x1 h):z=c x0 x1:=e
abbrev pk3(a:List CC->CC)(x0 x1 x2:CC){c:CC->CC->CC->CC}(_:∀x0 x1 x2,a [x0,x1,x2]=c x0 x1 x2:=by intros;conv=>{lhs;cbv}):CC:=c x0 x1 x2
theorem pe3{a:List CC->CC}{z x0 x1 x2:CC}{c:CC->CC->CC->CC}{h:∀x0 x1 x2,a [x0,x1,x2]=c x0 x1 x2}(e:z=pk3 a x0 x1 x2 h):z=c x0 x1 x2:=e
def LR:CC:=Bh (cG Tryz.f48 1 [[0],[0,3],[4],[2,3,4],[2,3,6],[2,3,6],[2,3,8],[2,3,8],[2,3,10],[2,3,10],[2,3,12],[2,3,12],[2,14],[2,14],[995],[999,2],[2]])
theorem Aq{f:FuncId}{fn:Func}{cc:CC}{rs:List ResultVar}{n:Nat}(hf:Tryz.prog.funcs[f]? = some fn)(hn:fn.ntmps=n:=by kernel_rfl)(hk:ad Tryz.prog f=true:=by kernel_rfl)(hb:fn.body=some (fn.body.getD .ret):=by kernel_rfl)(hrs:fn.results.toList=rs:=by kernel_rfl)(hc:L5 n (fn.body.getD .ret) (TJ cc)=some (cc,[]):=by kernel_rfl):Bs Tryz.prog f n rs cc:=Ado Ah hk hf hb hn hrs hc
theorem Si:Bs Tryz.prog 48 16 [(.tmp 2)] LR:=Aq Tryz.func48
def FE:CC:=Bh (cG Tryz.f29 151 [[1,5,6,13],[995],[999,13],[],[]])
def MH:CC:=CV (cG Tryz.f29 1 [[0,1],[0,5],[10],[1,4,5,10],[995],[999,1,4,5],[6],[996],[999,5,6],[1,4]]) FE
theorem Ul:Bs Tryz.prog 29 20 [(.tmp 4)] MH:=Aq Tryz.func29
def FC:CC:=Bh (cG Tryz.f38 75 [[0,1,5,14],[995],[999,14],[25],[0,1,4,5,25],[995],[999,0,1,4,5],[]])
def L8:CC:=CV (cG Tryz.f38 1 [[0,1],[10],[0,1,4,10],[995],[999,0,1,4],[5],[996],[999,0,1,5],[4]]) FC
theorem TE:Bs Tryz.prog 38 26 [(.tmp 4)] L8:=Aq Tryz.func38
def ER:CC:=Bh (cG Tryz.f128 75 [[0,2,3,4,7],[995],[999,7],[],[],[]])
def Li:CC:=CV (cG Tryz.f128 1 [[0,2,1000],[3,2001],[4],[996],[999,0,4],[3]]) ER
theorem Su:Bs Tryz.prog 128 18 [(.cell 2 170)] Li:=Aq Tryz.func128
def EY:CC:=Bh (cG Tryz.f129 37 [[0,1,5,8],[995],[999,8],[],[]])
def KZ:CC:=CV (cG Tryz.f129 1 [[0,1],[5],[996],[999,1,5],[0,4]]) EY
theorem SU:Bs Tryz.prog 129 16 [(.tmp 4)] KZ:=Aq Tryz.func129
def Ho:CC:=Bh (cG Tryz.f130 75 [[0,1,5,6,8],[995],[999,8],[],[]])
def OX:CC:=CV (cG Tryz.f130 1 [[0,1],[5],[6],[996],[999,0,1,6],[4,5]]) Ho
theorem Xf:Bs Tryz.prog 130 22 [(.tmp 4)] OX:=Aq Tryz.func130
def GA:CC:=Bh (cG Tryz.f81 75 [[2,7,8,9,15],[995],[999,15],[20],[20],[999],[]])
def NL:CC:=CV (cG Tryz.f81 1 [[0,1,2],[0,1,7,8,5000,6001],[9],[996],[997,2,8,9],[6,7]]) GA
theorem V4:Bs Tryz.prog 81 28 [(.tmp 6)] NL:=Aq Tryz.func81
def FP:CC:=Bh (cG Tryz.f41 35 [[0,3,16],[995],[999,16],[]])
def MB:CC:=CV (cG Tryz.f41 1 [[0],[3],[996],[999],[4],[0,2,3,4,5000]]) FP
theorem Ty:Bs Tryz.prog 41 24 [(.tmp 2)] MB:=Aq Tryz.func41
def A9:CC:=Bh (cG Tryz.f59 1 [[0],[4],[0,2,4],[995],[999,0,2],[0,2,3000]])
theorem Bt:Bs Tryz.prog 59 8 [(.tmp 2)] A9:=Aq Tryz.func59
end Go.Proofs.YtlaapfplenlfaaaGreat
namespace Go.G
open Go.RowKit
def rV(H:Hp)(a a':A):Prop:=∀(c:Cx)(w:World)(I:Nat->Prop)(μ:Mu)(v:Value),Sim c w I μ H->Rel w I μ a v->Rel w (fun b=>lf H μ b) ai a' v
def Aju(P:Program)(rs:List ResultVar)(r:A):Exit->Sta->Prop:=sP P rs fun r0 H=>rV H r0 r
theorem Ly{P:Program}{f:FuncId}{n:Nat}{rs:List ResultVar}{cc:CC}{args:List A}{r:A}(t:Bs P f n rs cc)(ha:args.length<=n)(h:∀w0 I0,WPC (cx P w0 I0 n) cc (Aju P rs r) ⟨Rp args,H0⟩):SpecB P f args r:=by
 obtain⟨hm,hk,fn,code,hf,hb,hn,hrs,hc⟩:=t;refine⟨hk,fun w I J vs hI hJ htb hl hr=>?_⟩;have hIJ:∀b,(I b\/J b)->b<w.heap.size:=fun b hb=>hb.elim (hI b) (hJ b);have h1:AWP (cx P w (fun b=>I b\/J b) n) code (sP P fn.results.toList fun r0 H=>rV H r0 r) ⟨Rp args,H0⟩:=Q2 (c:=cx P w _ n) hm hc (by rw[hrs];exact h w _);refine(YQ hf hb (c:=cx P w (fun b=>I b\/J b) n) rfl hn.symm hl oF (br hIJ (htb.mono (fun _ h=>.inl h) (fun _ _=>rfl))) hr h1).mono fun e w' ⟨v,r0,H',I',μ',he,h1,h2,h3⟩=>⟨v,he,?_,?_⟩
 ·have k:=h1.kept;exact⟨k.os,k.tape,k.output,k.size,fun b hb=>k.block b hb (fun ⟨_,h⟩=>h)⟩
 ·refine(h3 _ w' I' μ' v h1 h2).mono0 (fun b hb=>?_) (fun _ _=>rfl);obtain⟨o,g1,rfl⟩:=hb;obtain⟨_,g4,g5⟩:=h1.own o g1;rcases g4 with g4|g4
  ·exact g4.elim
  ·exact .inr ⟨g4,g5⟩
@[simp]theorem AjJ{P:Program}{rs:List ResultVar}{r:A}{st:Sta}:Aju P rs r .ret st=Gt (HX P st rs) fun r0=>rV st.H r0 r:=rfl
theorem lI{H:Hp}{f:Bool}:rV H (.sl f []) (.sl false []):=fun c w I μ v hs hr=>by
 cases hr with
 |slN _ _ a cap _=>exact .slN _ _ _ _ (fun h=>by cases h)
 |sl _ _ b off n cap sz _ g h1 h2=>
  have:n=0:=h2;subst this;exact .slN _ _ _ _ (fun h=>by cases h)
theorem Un{H:Hp}{o:Nm}{u off len sz:Nat}{xs:List A}(ho:Rh H o u=some (sz,xs))(hl:off+len<=xs.length)(hb:((xs.drop off).take len).all (fun x=>x.cells.length == sz&&x.cells.all fun y=>A.flat1 y&&y.one)=true):rV H (.osl o u sz off len) (.sl false ((xs.drop off).take len)):=by
 simp only[List.all_eq_true,Bool.and_eq_true,beq_iff_eq]at hb;intro c w I μ v hs hr;have hlen:((xs.drop off).take len).length=len:=by simp;omega
 have hcell:∀(k:Nat)(y:A),(((xs.drop off).take len).flatMap A.cells)[k]? = some y->y.flat1=true/\y.one=true:=fun k y hk=>by
  obtain⟨x,hx,hy⟩:=List.mem_flatMap.1 (List.mem_of_getElem? hk);exact(hb x hx).2 y hy
 cases hr with
 |osl _ _ _ _ _ _ a cap g1 g2 g4 g5 g3=>
  obtain⟨hu,k2,hrow⟩:=hs.row ho;obtain⟨_,hcur⟩:=g3 hu.symm;by_cases h0:len=0
  ·subst h0;simp only[List.take_zero];exact .slN _ _ _ _ (fun h=>by cases h)
  rcases hcur with ⟨e,_⟩|⟨p1,rfl,p3⟩
  ·exact(h0 e).elim
  rcases hrow with ⟨q1,_⟩|⟨q1,vs,k3,k4,k5,k6,k7⟩
  ·rw[p1]at q1;cases q1
  subst k2;have hB:EG (μ o) (H o).ob=true:=by rw[(Gj ho).2];exact q1
  have hg:∀(k:Nat)(y:A),(((xs.drop off).take len).flatMap A.cells)[k]? = some y->(xs.flatMap A.cells)[off*(μ o).sz+k]? = some y:=fun k y hk=>Fk k6 hk;refine .sl _ _ (μ o).b (off*(μ o).sz) _ _ (μ o).sz _ (fun k=>vs.getD (off*(μ o).sz+k) undef) ⟨o,hB,rfl⟩ hlen.symm oF (fun h=>by cases h) (fun z hz=>k6 z (Qy (O4 hz)))
   (fun k y hk=>(hcell k y hk).2) (fun k y hk=>?_) (fun k y hk=>(k7 _ y (hg k y hk)).2.of_flat1 (hcell k y hk).1)
  have h3:=hg k y hk;have h4:=BS k6;have h5:xs.length*(μ o).sz<=(μ o).cap*(μ o).sz:=Nat.mul_le_mul_right _ k5;have h6:=(List.getElem?_eq_some_iff.1 h3).1;rw[cell_of_row w (μ o).b _ vs (μ o).e (0,0) k3];have:off*(μ o).sz+k<vs.size:=by rw[k4];omega
  simp[this]
theorem cM{P:Program}{f:FuncId}{fl:Bool}{r:A}(h1:∀cap,SpecB P f [.v (.slice none 0 cap)] r)(h2:∀a cap,SpecB P f [.v (.slice (some a) 0 cap)] r):SpecB P f [.sl fl []] r:=by
 refine⟨(h1 0).1,fun w I J vs hI hJ htb hl hr=>?_⟩;have h:=hr 0 _ rfl;have go:∀x,vs.getD 0 undef=x->∀(k:Nat)(y:A),[A.v x][k]? = some y->Rel w (fun b=>I b\/J b) ai y (vs.getD k undef):=fun x hx k y hk=>by
  cases k with
  |zero=>cases hk;rw[hx];exact .v _ _
  |succ k=>simp at hk
 generalize hq:vs.getD 0 undef=x at h;cases h with
 |slN _ _ a cap _=>
  cases a with
  |none=>exact(h1 cap).2 w I J vs hI hJ htb hl (go _ hq)
  |some a=>exact(h2 a cap).2 w I J vs hI hJ htb hl (go _ hq)
 |sl _ _ b off n cap sz _ g k1 k2=>
  have:n=0:=k2;subst this;exact(h2 _ cap).2 w I J vs hI hJ htb hl (go _ hq)
theorem rZ{w:World}{I:Nat->Prop}{μ:Mu}{d:Nm}{u sz:Nat}{v:Value}(h1:Rel w I μ (.sl true []) v)(hu:(μ d).u=u)(h0:1<=u)(hz:(μ d).sz=sz):Rel w I μ (.osl d u sz 0 0) v:=by
 subst hu;cases h1 with
 |slN _ _ q cap hc=>
  have:=hc rfl;subst this;exact .osl _ _ _ _ _ _ _ _ h0 (Cq _) (Cq _) (fun h=>oF) (fun _=>⟨hz,.inl ⟨rfl,rfl⟩⟩)
 |sl _ _ b off n cap z _ g h1 h2 h3 h4=>
  have h5:n=0:=h2;have h6:cap=0:=h4 rfl;subst h5 h6;exact .osl _ _ _ _ _ _ _ _ h0 (Cq _) (Cq _) (fun h=>oF) (fun _=>⟨hz,.inl ⟨rfl,rfl⟩⟩)
theorem Bi{c:Cx}{s:Nat->A}{H:Hp}{d:Nm}{u:Nat}{cs:List A}(i:Nat)(d':Nm)(sz:Nat)(hd:H d=⟨u,.cells cs⟩)(hi:cs[i]? = some (.sl true []))(hne:d≠d') :
  Le c ⟨s,H⟩ ⟨s,Ar (Ar H d' ⟨(H d').u+1,.arr sz []⟩) d ⟨u,.cells (cs.set i (.osl d' ((H d').u+1) sz 0 0))⟩⟩:=fun a w I μ hs=>by
 obtain⟨hx,hs'⟩:=hs.sim.upd (FD w none) d' ⟨(H d').u+1,false,0,0,sz,0⟩ (.arr sz []) (.inl rfl) (.inl (by rw[hs.sim.ver];exact Nat.lt_succ_self _)) (fun h=>nomatch h) (fun h=>nomatch h) (fun hx=>⟨rfl,.inl ⟨rfl,rfl⟩⟩);have hd1:(Ar H d' ⟨(H d').u+1,.arr sz []⟩:Hp) d=⟨u,.cells cs⟩:=by rw[AD hne];exact hd
 have hob:=hs'.ob d;rw[hd1]at hob;obtain⟨vs,k1,k2,k3⟩:=hob;have hB:EG (Ar μ d' ⟨(H d').u+1,false,0,0,sz,0⟩ d) ((Ar H d' ⟨(H d').u+1,.arr sz []⟩:Hp) d).ob=true:=by rw[hd1];rfl
 obtain⟨hx2,hs2⟩:=hs'.upd (FD w none) d (Ar μ d' ⟨(H d').u+1,false,0,0,sz,0⟩ d) (.cells (cs.set i (.osl d' ((H d').u+1) sz 0 0))) (.inl rfl) (.inr rfl) (fun _=>.inr ⟨hB,rfl⟩) (fun _=>hs'.tag _ hB) (fun hx2=>by
  refine⟨vs,k1,by simpa using k2,fun k y hk=>?_⟩;rw[El];by_cases hki:k=i
  ·subst hki;have hlt:k<cs.length:=(List.getElem?_eq_some_iff.1 hi).1;rw[List.getElem?_set_self hlt]at hk;cases hk;exact⟨rfl,rZ (k3 k _ hi).2 iS oF iS⟩
  ·rw[List.getElem?_set_ne (Ne.symm hki)]at hk;exact k3 k y hk)
 have hu:(Ar μ d' ⟨(H d').u+1,false,0,0,sz,0⟩ d).u=u:=by rw[hs'.ver,hd1]
 rw[hu]at hs2;exact⟨I,_,hs2,hs.size,hs.defers,fun t=>hx2.rel (hx.rel (hs.rel t))⟩
def Part(H H':Hp):Prop:=∀o,H' o=H o\/H' o=⟨(H o).u,.none⟩
theorem Part.has{H H':Hp}(h:Part H H'){L:Loc}{o:Nm}(k:EG L (H' o).ob=true):EG L (H o).ob=true:=by
 rcases h o with e|e
 ·rw[<-e];exact k
 ·rw[e]at k;cases k
theorem Part.ver{H H':Hp}(h:Part H H')(o:Nm):(H' o).u=(H o).u:=by rcases h o with e|e<;>rw[e]
theorem Sim.part{c:Cx}{w:World}{I:Nat->Prop}{μ:Mu}{H H':Hp}(hs:Sim c w I μ H)(h:Part H H'):Sim c w I μ H':=
 ⟨hs.kept,hs.lt,hs.old,hs.new,fun o=>by rw[h.ver,hs.ver],fun o=>by
  rcases h o with e|e
  ·rw[e];exact hs.ob o
  ·rw[e];trivial,fun o o' k k'=>hs.apart o o' (h.has k) (h.has k'),fun o k=>hs.own o (h.has k),hs.mle,fun o k=>hs.tag o (h.has k),hs.tab⟩
theorem Sim.freezeAll{c:Cx}{w:World}{I:Nat->Prop}{μ:Mu}{H H1 H2:Hp}(hs:Sim c w I μ H)(h1:Part H H1)(h2:Part H H2)(hd:∀o,(H1 o).ob=.none\/(H2 o).ob=.none)(hM:∀o b,(H1 o).ob≠.none->¬c.M0 o b) :
  Sim c w (fun b=>I b\/lf H1 μ b) μ H2:=by
 have hx:Ext I μ w (fun b=>I b\/lf H1 μ b) μ w:=⟨fun b h=>.inl h,fun b h=>rfl,MuLe.refl _⟩;refine⟨hs.kept,fun b h=>?_,fun b h=>.inl (hs.old b h),fun b h=>?_,fun o=>by rw[h2.ver,hs.ver],fun o=>?_,fun o o' k k'=>hs.apart o o' (h2.has k) (h2.has k'),fun o k=>?_,hs.mle,fun o k=>hs.tag o (h2.has k),hs.tab.mono (fun _ h=>.inl h) (fun _ _=>rfl)⟩
 ·rcases h with h|⟨o,k,rfl⟩
  ·exact hs.lt b h
  ·exact(hs.own o (h1.has k)).2.2
 ·rcases h with h|⟨o,k,rfl⟩
  ·exact hs.new b h
  ·rcases (hs.own o (h1.has k)).2.1 with h|h
   ·exact(hM _ _ (fun e=>by rw[e]at k;cases k) h).elim
   ·exact .inr h
 ·rcases h2 o with e|e
  ·rw[e];exact OSim.keep hx (fun _=>rfl) (hs.ob o)
  ·rw[e];trivial
 ·obtain⟨k1,k2,k3⟩:=hs.own o (h2.has k);refine⟨fun hh=>?_,k2,k3⟩;rcases hh with hh|⟨o',k',e⟩
  ·exact k1 hh
  ·refine hs.apart o o' (h2.has k) (h1.has k') (fun e=>?_) e.symm;subst e;rcases hd o with e|e
   ·rw[e]at k';cases k'
   ·rw[e]at k;cases k
theorem bn{c:Cx}{s:Nat->A}{H H1 H2:Hp}(hM:∀o b,(H1 o).ob≠.none->¬c.M0 o b)(t:Nat)(a:A)(h1:Part H H1)(h2:Part H H2)(hd:∀o,(H1 o).ob=.none\/(H2 o).ob=.none)(hf:Iz H1 (s t) a):Le c ⟨s,H⟩ ⟨upd s t a,H2⟩:=fun x w I μ hs=>by
 have h3:=hs.sim.freezeAll h1 h2 hd hM;refine⟨_,μ,h3,hs.size,hs.defers,fun k=>?_⟩;show Rel w _ μ (upd s t a k) _;unfold upd;split
 ·rename_i e;subst e;exact(hf c w I μ _ (hs.sim.part h1) (hs.rel k)).ofI
 ·exact(hs.rel k).mono0 (fun b h=>.inl h) (fun _ _=>rfl)
theorem Jr{c:Cx}{s:Nat->A}{H:Hp}{d:Nm}(hM:∀b,¬c.M0 d b)(t:Nat)(a:A)(hf:∀H1:Hp,H1 d=H d->Iz H1 (s t) a):Le c ⟨s,H⟩ ⟨upd s t a,Ar H d ⟨(H d).u,.none⟩⟩:=by
 refine bn (fun o b h=>by
  by_cases e:o=d
  ·subst e;exact hM b
  ·exact absurd (by simp[e]) h) t a (H1:=fun o=>if o=d then H o else ⟨(H o).u,.none⟩) (fun o=>?_) (fun o=>?_) (fun o=>?_) (hf _ iS)
 ·by_cases h:o=d
  ·exact .inl (by simp[h])
  ·exact .inr (by simp[h])
 ·by_cases h:o=d
  ·subst h;exact .inr iS
  ·exact .inl (AD h)
 ·by_cases h:o=d
  ·subst h;exact .inr iS
  ·exact .inl (by simp[h])
end Go.G
namespace Go.Proofs.YtlaapfplenlfaaaGreat
open Go Go.G Go.Proofs
abbrev ws(l:List Int):A:=.sl false (l.map uv)
abbrev sgs(l:List (List Int)):A:=.sl false (l.map ws)
@[simp]theorem AkD(l:List Int):E8 1 (l.map uv)=true:=by simp[E8]
theorem oE(f:Bool)(l:List Int)(h:l.length*8<=140737488355328):SpecB Tryz.prog 59 [.sl f (l.map uv)] (ws l):=by
 cases l with
 |nil=>
  refine cM (fun cap=>?_) (fun a cap=>?_)
  ·refine Ly Bt iS fun w0 I0=>?_;rw[Ao A9.eq_1];simp;exact lI
  ·refine Ly Bt iS fun w0 I0=>?_;rw[Ao A9.eq_1];simp;exact Un (sz:=1) (xs:=[]) iS iS iS
 |cons x l=>
  refine Ly Bt iS fun w0 I0=>?_;rw[Ao A9.eq_1];simp at h ⊢;refine⟨h,?_⟩;have:=Un (H:=HO [([0],{ u:=1,ob:=Ob.arr 1 (uv x::l.map uv) })]) (o:=[0]) (u:=1) (off:=0) (len:=l.length+1) (sz:=1) (xs:=uv x::l.map uv) iS iS (by simp[A.flat1,Ax]);simp[Ax]at this;exact this
abbrev arX(l:List (List Int))(z m u:Int):A:=.pim [sgs l,iv z,iv m,iv u]
abbrev arn(l:List (List Int)):A:=arX l 0 0 0
def seg(l:List (List Int))(s:Int):Option (List Int):=if 0<=s then l[s.toNat]? else none
def Amo(l:List (List Int))(s:Int):Nat:=((seg l s).map List.length).getD 0
def yI(l:List (List Int))(s a n:Int):Bool:=decide (0<=s/\s<l.length/\0<=a/\0<=n/\a+n<=Amo l s)
def Vq(l:List (List Int))(s a:Int):Option Int:=if 0<=a then (seg l s).bind fun g=>g[a.toNat]? else none
def part(l:List (List Int))(s a n:Int):List Int:=(((seg l s).getD []).drop a.toNat).take n.toNat
def wG(c:Int):Int:=if c=0 then 0 else if c=1 then 1 else if c=2 then 8 else if c=3 then 16 else if c=4 then 32 else 64
def AdM(p:Pt):Option Int:=
 if p.kind=1 then some (p.data+p.ptrs)
 else if p.kind=2/\p.code=7 then some (p.count+1)
 else if p.kind=2/\0<=p.code/\p.code<=6/\0<=p.count/\p.count<=536870911 then some ((p.count*wG p.code+63) / 64)
 else none
structure Lc where
 p:Pt
 s:Int
 at_:Int
deriving DecidableEq
def Pt.l(p:Pt):List A:=[iv p.kind,iv p.off,iv p.data,iv p.ptrs,iv p.code,iv p.count,iv p.seg,bv p.dbl]
def Pt.zero:Pt:=⟨0,0,0,0,0,0,0,false⟩
def Lc.zero:Lc:=⟨Pt.zero,0,0⟩
abbrev Lc.a(x:Lc):A:=.agg [iv x.p.kind,iv x.p.off,iv x.p.data,iv x.p.ptrs,iv x.p.code,iv x.p.count,iv x.p.seg,bv x.p.dbl,iv x.s,iv x.at_]
def qH(l:List (List Int))(x:Lc):Lc × Int:=if yI l x.s x.at_ ((AdM x.p).getD 0)=true then (⟨{ x.p with off:=0 },x.s,x.at_⟩,0)else (Lc.zero,7)
def Ace(l:List (List Int))(p:Pt)(s a:Int):Lc × Int:=
 if p.kind=1\/p.kind=2 then qH l ⟨p,s,a+1+p.off⟩else if p.kind=4 then (Lc.zero,9)else (Lc.zero,8)
def Wds(l:List (List Int)):Prop:=∀x,x∈l->∀y,y∈x->0<=y/\y<18446744073709551616
def AaL(l:List (List Int))(s a:Int):Lc × Int:=
 match Vq l s a,Vq l s (a+1) with
 |some v,some w=>
  if (Vg v).kind≠3\/(Vg v).dbl=true then (Lc.zero,8)
  else if (Vg w).kind=4 then (Lc.zero,9)
  else if ((Vg w).kind≠1/\(Vg w).kind≠2)\/(Vg w).off≠0 then (Lc.zero,8)
  else qH l ⟨Vg w,(Vg v).seg,(Vg v).off⟩
 |_,_=>(Lc.zero,7)
def XD(l:List (List Int))(s a:Int):Lc × Int:=
 match Vq l s a with
 |none=>(Lc.zero,7)
 |some w=>
  if (Vg w).kind=0 then (Lc.zero,0)
  else if (Vg w).kind≠3 then Ace l (Vg w) s a
  else if (Vg w).dbl=true then AaL l (Vg w).seg (Vg w).off
  else match Vq l (Vg w).seg (Vg w).off with
   |none=>(Lc.zero,7)
   |some v=>Ace l (Vg v) (Vg w).seg (Vg w).off
abbrev zs:List A:=[iv 0,iv 0,iv 0,iv 0,iv 0,iv 0,iv 0,bv false,iv 0,iv 0]
end Go.Proofs.YtlaapfplenlfaaaGreat
namespace Go.PL
inductive T where
 |mk (kind:Int) (words:List Int) (kids:List T)
 deriving Inhabited
namespace T
def kind:T->Int|mk k _ _=>k
def words:T->List Int|mk _ w _=>w
def kids:T->List T|mk _ _ l=>l
@[simp]theorem kind_mk{k:Int}{w:List Int}{l:List T}:(mk k w l).kind=k:=rfl
@[simp]theorem words_mk{k:Int}{w:List Int}{l:List T}:(mk k w l).words=w:=rfl
@[simp]theorem kids_mk{k:Int}{w:List Int}{l:List T}:(mk k w l).kids=l:=rfl
end T
theorem fe{α:Type}{P:List α->Prop}(h0:P [])(h1:∀l x,P l->P (l++[x]))(l:List α):P l:=by
 have:∀m:List α,P m.reverse:=by
  intro m;induction m with
  |nil=>exact h0
  |cons x m ih=>rw[List.reverse_cons];exact h1 _ _ ih
 have h:=this l.reverse
 rwa [List.reverse_reverse]at h
abbrev T0:T:=.mk 0 [] []
mutual
theorem T.ind{P:T->Prop}(h:∀k w l,(∀t,t∈l->P t)->P (.mk k w l)):∀t,P t
 |.mk k w l=>h k w l (T.indL h l)
theorem T.indL{P:T->Prop}(h:∀k w l,(∀t,t∈l->P t)->P (.mk k w l)):∀(l:List T),∀t,t∈l->P t
 |[],t,ht=>nomatch ht
 |x::l,t,ht=>by
  rcases List.mem_cons.1 ht with e|ht
  ·rw[e];exact T.ind h x
  ·exact T.indL h l t ht
end
def DV(l:List Int):List Int:=(l.reverse.dropWhile (fun x=>x == 0)).reverse
def Dl(l:List T):List T:=(l.reverse.dropWhile (fun x=>x.kind == 0)).reverse
mutual
def Ag:T->T
 |.mk k w l=>if k=0 then T0 else if k=1 then .mk 1 (DV w) (Dl (cz l))else .mk k w (cz l)
def cz:List T->List T
 |[]=>[]
 |t::l=>Ag t::cz l
end
@[simp]theorem sy:∀l,cz l=l.map Ag
 |[]=>by simp[cz]
 |t::l=>by simp[cz,sy l]
theorem DS(k:Int)(w:List Int)(l:List T):Ag (.mk k w l)=if k=0 then T0 else if k=1 then .mk 1 (DV w) (Dl (l.map Ag))else .mk k w (l.map Ag):=by simp[Ag]
@[simp]theorem C8(t:T):(Ag t).kind=t.kind:=by
 cases t;rw[DS];split
 ·rename_i h;rw[h];rfl
 ·split
  ·rename_i h;rw[h];rfl
  ·rfl
@[simp]theorem Af0:DV []=[]:=rfl
@[simp]theorem Agd:Dl []=[]:=rfl
theorem SN(l:List Int)(x:Int):DV (l++[x])=if x=0 then DV l else l++[x]:=by
 unfold DV;simp[List.dropWhile_cons];split<;>simp
theorem L3(l:List T)(x:T):Dl (l++[x])=if x.kind=0 then Dl l else l++[x]:=by
 unfold Dl;by_cases h:x.kind=0<;>simp[List.dropWhile_cons,h]
theorem NC(l:List Int):(DV l).length<=l.length:=by
 unfold DV;simp;have:=(List.dropWhile_sublist (fun x:Int=>x == 0) (l:=l.reverse)).length_le;simpa using this
theorem Ny(l:List T):(Dl l).length<=l.length:=by
 unfold Dl;simp;have:=(List.dropWhile_sublist (fun x:T=>x.kind == 0) (l:=l.reverse)).length_le;simpa using this
theorem Yg(l:List Int):DV l=l.take (DV l).length:=by
 induction l using fe with
 |h0=>rfl
 |h1 l x ih=>
  rw[SN];split
  ·rw[List.take_append_of_le_length (NC l)];exact ih
  ·rw[Ax (Cq _)]
theorem K6(l:List T):Dl l=l.take (Dl l).length:=by
 induction l using fe with
 |h0=>rfl
 |h1 l x ih=>
  rw[L3];split
  ·rw[List.take_append_of_le_length (Ny l)];exact ih
  ·rw[Ax (Cq _)]
def Gr(c:Int):Int:=if c=0 then 0 else if c=1 then 1 else if c=2 then 8 else if c=3 then 16 else if c=4 then 32 else if c=5 then 64 else -1
def cO(c n:Int):Bool:=decide (0<=Gr c)&&decide (n / 2 ^ (Gr c).toNat=0)
def Jt(k:Int):Bool:=decide (2<=k)&&decide (k<=7)
def Fe(k:Int)(c:T):Bool:=!(Jt k != decide (c.kind=10)|| decide (k=9)&&!decide (c.kind=1)|| Jt k&&!cO (k-2) (c.words.headD 0))
def Fg(k:Int)(d nw nl:Nat):Bool:=decide (k<0)|| decide (k > 10)|| decide (d=0)|| decide (nw≥65536)|| decide (k=1)&&decide (nl≥65536)|| decide (nl≥1048576)|| decide (k > 1)&&decide (nw > 0)
mutual
def AW:Nat->T->Bool
 |d,.mk k w l=>if k=0 then w.isEmpty&&l.isEmpty else if k=10 then decide (w.length=1)&&l.isEmpty
  else if Fg k d w.length l.length=true then false else Ih (d-1) k l
def Ih:Nat->Int->List T->Bool
 |_,_,[]=>true
 |d,k,t::l=>AW d t&&Fe k t&&Ih d k l
end
theorem Ds(d:Nat)(k:Int)(w:List Int)(l:List T):AW d (.mk k w l)=if k=0 then w.isEmpty&&l.isEmpty else if k=10 then decide (w.length=1)&&l.isEmpty
  else if Fg k d w.length l.length=true then false else Ih (d-1) k l:=by rw[AW]
@[simp]theorem Ac0(d:Nat)(k:Int):Ih d k []=true:=by rw[Ih]
@[simp]theorem i7(d:Nat)(k:Int)(t:T)(l:List T):Ih d k (t::l)=(AW d t&&Fe k t&&Ih d k l):=by rw[Ih]
theorem rightL_all{d:Nat}{k:Int}:∀{l:List T},Ih d k l=true↔∀t,t∈l->AW d t=true/\Fe k t=true
 |[]=>iS
 |t::l=>by simp[rightL_all (l:=l),and_assoc]
mutual
def EO:Nat->Int->T->Int
 |d,n,.mk _ w l=>if d=0\/n-1-w.length<0 then -1 else Es (d-1) (n-1-w.length) l
def Es:Nat->Int->List T->Int
 |_,n,[]=>n
 |d,n,t::l=>if n<0 then n else Es d (EO d n t) l
end
theorem Sy(d:Nat)(n:Int)(k:Int)(w:List Int)(l:List T):EO d n (.mk k w l)=if d=0\/n-1-w.length<0 then -1 else Es (d-1) (n-1-w.length) l:=by rw[EO]
@[simp]theorem Aaq(d:Nat)(n:Int):Es d n []=n:=by rw[Es]
@[simp]theorem JQ(d:Nat)(n:Int)(t:T)(l:List T):Es d n (t::l)=if n<0 then n else Es d (EO d n t) l:=by rw[Es]
theorem HV{d:Nat}{k:Int}{w:List Int}{l:List T}(h:AW d (.mk k w l)=true):∀t,t∈l->AW (d-1) t=true/\Fe k t=true:=by
 rw[Ds]at h;split at h
 ·simp at h;intro t ht;rw[h.2]at ht;cases ht
 ·split at h
  ·simp at h;intro t ht;rw[h.2]at ht;cases ht
  ·split at h
   ·cases h
   ·exact rightL_all.1 h
end Go.PL
namespace Go.Proofs.YtlaapfplenlfaaaGreat
open Go Go.G Go.Proofs Go.PL
structure Rf where
 kind:Int
 s:Int
 at_:Int
 data:Int
 kids:Int
 count:Int
 n:Int
def Rf.zero:Rf:=⟨0,0,0,0,0,0,0⟩
def nk(r:Rf):Int:=if r.kind=1 then r.kids else r.count
def AjW(l:List (List Int))(s a m:Int):Rf × Int:=
 if ((Vq l s a).getD 0≠0/\(Vg ((Vq l s a).getD 0)).kind≠1)\/(Vg ((Vq l s a).getD 0)).off<0\/m<(Vg ((Vq l s a).getD 0)).off*((Vg ((Vq l s a).getD 0)).data+(Vg ((Vq l s a).getD 0)).ptrs)then (Rf.zero,8)
 else (⟨9,s,a+1,(Vg ((Vq l s a).getD 0)).data,(Vg ((Vq l s a).getD 0)).ptrs,(Vg ((Vq l s a).getD 0)).off,0⟩,0)
def AmW(l:List (List Int))(x:Lc):Rf × Int:=
 if x.p.kind=1 then (⟨1,x.s,x.at_,x.p.data,x.p.ptrs,0,0⟩,0)
 else if x.p.code<7 then (⟨2+x.p.code,x.s,x.at_,0,0,x.p.count,0⟩,0)
 else AjW l x.s x.at_ x.p.count
def atP(l:List (List Int))(s a:Int):Rf × Int:=
 if (XD l s a).2≠0\/(XD l s a).1.p.kind=0 then (Rf.zero,(XD l s a).2)else AmW l (XD l s a).1
def AmZ(g:List Int)(c i:Int):Int:=
 if Gr c<1\/i<0\/1099511627776<i then 0 else ((g[(i*Gr c / 64).toNat]?).getD 0) / 2 ^ (i*Gr c % 64).toNat % 2 ^ (Gr c).toNat
def AjG(l:List (List Int))(r:Rf)(i:Int):Int:=AmZ (((seg l r.s).getD []).drop r.at_.toNat) (r.kind-2) i
def Ah2(l:List (List Int))(r:Rf)(i:Int):Rf × Int:=
 if i<0\/nk r<=i then (Rf.zero,0)
 else if r.kind=1 then atP l r.s (r.at_+r.data+i)
 else if r.kind=8 then atP l r.s (r.at_+i)
 else if r.kind=9 then (⟨1,r.s,r.at_+i*(r.data+r.kids),r.data,r.kids,0,0⟩,0)
 else (⟨10,0,0,0,0,0,AjG l r i⟩,0)
def Ac6(l:List (List Int))(r:Rf):List Int:=if r.kind=10 then [r.n]else if r.kind≠1 then []else part l r.s r.at_ r.data
inductive oP(l:List (List Int)):Rf->Prop
 |zero:oP l Rf.zero
 |str (s a d k:Int):0<=d->d<65536->0<=k->k<65536->yI l s a (d+k)=true->oP l ⟨1,s,a,d,k,0,0⟩
 |dat (c s a n:Int):0<=c->c<6->0<=n->n<536870912->yI l s a ((n*wG c+63) / 64)=true->oP l ⟨2+c,s,a,0,0,n,0⟩
 |ptrs (s a n:Int):0<=n->n<536870912->yI l s a n=true->oP l ⟨8,s,a,0,0,n,0⟩
 |comp (s a d k n:Int):0<=d->d<65536->0<=k->k<65536->0<=n->n<536870912->yI l s a (n*(d+k))=true->oP l ⟨9,s,a,d,k,n,0⟩
 |atom (n:Int):0<=n->n<18446744073709551616->oP l ⟨10,0,0,0,0,0,n⟩
inductive pg(l:List (List Int)):Rf->T->Prop
 |mk (r:Rf) (t:T):oP l r->r.kind=t.kind->Ac6 l r=t.words->nk r=t.kids.length->(∀(i:Nat)(h:i<t.kids.length),(Ah2 l r i).2=0)->(∀(i:Nat)(h:i<t.kids.length),pg l (Ah2 l r i).1 t.kids[i])->pg l r t
end Go.Proofs.YtlaapfplenlfaaaGreat
namespace Go.PL
structure WE where
 at_:Int
 mask:Int
 old:Int
 new:Int
mutual
inductive E where
 |mk (kind:Int) (old new:T) (words:List WE) (kids:List KE) (list:Int) (ops:List OP)
inductive KE where
 |mk (at_:Int) (e:E)
inductive OP where
 |mk (kind n:Int) (l:List T) (e:E)
end
namespace E
def kind:E->Int|mk k _ _ _ _ _ _=>k
def old:E->T|mk _ o _ _ _ _ _=>o
def new:E->T|mk _ _ n _ _ _ _=>n
def words:E->List WE|mk _ _ _ w _ _ _=>w
def kids:E->List KE|mk _ _ _ _ k _ _=>k
def list:E->Int|mk _ _ _ _ _ l _=>l
def ops:E->List OP|mk _ _ _ _ _ _ o=>o
variable {k l:Int} {o n:T} {w:List WE} {ks:List KE} {os:List OP}
@[simp]theorem kind_mk:(mk k o n w ks l os).kind=k:=rfl
@[simp]theorem old_mk:(mk k o n w ks l os).old=o:=rfl
@[simp]theorem new_mk:(mk k o n w ks l os).new=n:=rfl
@[simp]theorem words_mk:(mk k o n w ks l os).words=w:=rfl
@[simp]theorem kids_mk:(mk k o n w ks l os).kids=ks:=rfl
@[simp]theorem list_mk:(mk k o n w ks l os).list=l:=rfl
@[simp]theorem ops_mk:(mk k o n w ks l os).ops=os:=rfl
end E
namespace KE
def at_:KE->Int|mk a _=>a
def e:KE->E|mk _ e=>e
@[simp]theorem Ano{a:Int}{e:E}:(mk a e).at_=a:=rfl
@[simp]theorem Amg{a:Int}{e:E}:(mk a e).e=e:=rfl
end KE
namespace OP
def kind:OP->Int|mk k _ _ _=>k
def n:OP->Int|mk _ n _ _=>n
def l:OP->List T|mk _ _ l _=>l
def e:OP->E|mk _ _ _ e=>e
variable {k m:Int} {t:List T} {x:E}
@[simp]theorem kind_mk:(mk k m t x).kind=k:=rfl
@[simp]theorem AnO:(mk k m t x).n=m:=rfl
@[simp]theorem AnW:(mk k m t x).l=t:=rfl
@[simp]theorem Amg:(mk k m t x).e=x:=rfl
end OP
abbrev E0:E:=.mk 0 T0 T0 [] [] 0 []
mutual
theorem E.ind{P:E->Prop}(h:∀k o n w ks l os,(∀x,x∈ks->P x.e)->(∀x,x∈os->P x.e)->P (.mk k o n w ks l os)):∀e,P e
 |.mk k o n w ks l os=>h k o n w ks l os (E.indK h ks) (E.indO h os)
theorem E.indK{P:E->Prop}(h:∀k o n w ks l os,(∀x,x∈ks->P x.e)->(∀x,x∈os->P x.e)->P (.mk k o n w ks l os)):∀(ks:List KE),∀x,x∈ks->P x.e
 |[],_,hx=>nomatch hx
 |.mk a e::ks,x,hx=>by
  rcases List.mem_cons.1 hx with q|hx
  ·rw[q];exact E.ind h e
  ·exact E.indK h ks x hx
theorem E.indO{P:E->Prop}(h:∀k o n w ks l os,(∀x,x∈ks->P x.e)->(∀x,x∈os->P x.e)->P (.mk k o n w ks l os)):∀(os:List OP),∀x,x∈os->P x.e
 |[],_,hx=>nomatch hx
 |.mk a n l e::os,x,hx=>by
  rcases List.mem_cons.1 hx with q|hx
  ·rw[q];exact E.ind h e
  ·exact E.indO h os x hx
end
def WV(t:T):Bool:=decide (t.kind=0)&&t.words.isEmpty&&t.kids.isEmpty
def yl(e:E):Bool:=decide (e.kind=0)&&WV e.old&&WV e.new&&(e.words.isEmpty&&e.kids.isEmpty&&e.ops.isEmpty)&&decide (e.list=0)
def XA(w mask:Int):Bool:=(List.range 8).all fun i=>decide (mask / 2 ^ i % 2=1)|| decide (w / 256 ^ i % 256=0)
def gB(last:Int)(w:WE):Bool:=!(decide (w.at_<=last)|| decide (w.at_ > 65534)|| decide (w.mask=0)|| !XA w.old w.mask|| !XA w.new w.mask)
def KD:Int->List WE->Bool
 |_,[]=>true
 |last,w::l=>gB last w&&KD w.at_ l
def Pa(n:Int):Int:=if n > 1048576 then 1048576 else n
def D4(o:OP):Int:=if o.kind=3 then 1 else o.n+o.l.length
def BU:Int->Int->List OP->Int × Int
 |n,m,[]=>(n,m)
 |n,m,o::l=>BU (Pa (if o.kind≠2 then n+D4 o else n)) (Pa (if o.kind≠1 then m+D4 o else m)) l
def Yf(list:Int)(o:OP):Bool:=
 if o.kind=0 then decide (1<=o.n)&&decide (o.n<=1048576)&&o.l.isEmpty&&yl o.e
 else if o.n≠0\/o.kind<0\/o.kind > 3 then false
 else if o.kind<3 then (o.l.all fun t=>AW 64 (.mk list [] [t]))&&!o.l.isEmpty&&yl o.e
 else true
def ZY(list:Int)(o:OP):Bool:=o.l.isEmpty&&!decide (o.e.kind=0)&&!decide (list<=7)
def pV(list:Int)(o:OP):Bool:=decide (list=8)|| decide (o.e.kind=2)|| decide (o.e.kind=1)&&decide (o.e.old.kind=1)&&decide (o.e.new.kind=1)
def Vj(d:Nat)(k:Int)(o n:T)(nw nk:Nat)(list:Int)(no:Nat):Bool:=
 !(decide (d=0)|| decide (k<0)|| decide (k > 3))&&!(!decide (k=1)&&!(WV o&&WV n)|| !decide (k=2)&&decide (nw+nk > 0)|| !decide (k=3)&&(!decide (list=0)|| decide (no > 0)))
mutual
def DT:Nat->E->Bool
 |d,.mk k o n ws ks l os=>
  if Vj d k o n ws.length ks.length l os.length=false then false
  else if k=1 then AW 64 o&&AW 64 n&&!decide (o.kind=10)&&!decide (n.kind=10)
  else if KD (-1) ws=false then false
  else if I3 (d-1) (-1) ks=false then false
  else if k=3/\(l<2\/l > 9)then false
  else if JT (d-1) l os=false then false
  else decide ((BU 0 0 os).1<1048576)&&decide ((BU 0 0 os).2<1048576)
def I3:Nat->Int->List KE->Bool
 |_,_,[]=>true
 |d,last,.mk a e::l=>!(decide (a<=last)|| decide (a > 65534)|| decide (e.kind=0))&&DT d e&&I3 d a l
def JT:Nat->Int->List OP->Bool
 |_,_,[]=>true
 |d,list,.mk k n t e::l=>VC d list (.mk k n t e)&&JT d list l
def VC:Nat->Int->OP->Bool
 |d,list,.mk k n t e=>Yf list (.mk k n t e)&&(if k=3 then ZY list (.mk k n t e)&&DT d e&&pV list (.mk k n t e)else true)
end
theorem Vo(d:Nat)(k:Int)(o n:T)(ws:List WE)(ks:List KE)(l:Int)(os:List OP):DT d (.mk k o n ws ks l os) =
  if Vj d k o n ws.length ks.length l os.length=false then false
  else if k=1 then AW 64 o&&AW 64 n&&!decide (o.kind=10)&&!decide (n.kind=10)
  else if KD (-1) ws=false then false
  else if I3 (d-1) (-1) ks=false then false
  else if k=3/\(l<2\/l > 9)then false
  else if JT (d-1) l os=false then false
  else decide ((BU 0 0 os).1<1048576)&&decide ((BU 0 0 os).2<1048576):=by rw[DT]
@[simp]theorem AbP(d:Nat)(last:Int):I3 d last []=true:=by rw[I3]
@[simp]theorem gE(d:Nat)(last:Int)(x:KE)(l:List KE):I3 d last (x::l)=(!(decide (x.at_<=last)|| decide (x.at_ > 65534)|| decide (x.e.kind=0))&&DT d x.e&&I3 d x.at_ l):=by cases x;rw[I3];rfl
@[simp]theorem Acw(d:Nat)(list:Int):JT d list []=true:=by rw[JT]
@[simp]theorem Aak(d:Nat)(list:Int)(x:OP)(l:List OP):JT d list (x::l)=(VC d list x&&JT d list l):=by cases x;rw[JT]
theorem NX(d:Nat)(list:Int)(x:OP):VC d list x=(Yf list x&&(if x.kind=3 then ZY list x&&DT d x.e&&pV list x else true)):=by cases x;rw[VC];rfl
theorem rightOs_all{d:Nat}{list:Int}:∀{l:List OP},JT d list l=true↔∀x,x∈l->VC d list x=true
 |[]=>iS
 |x::l=>by simp[rightOs_all (l:=l)]
end Go.PL
namespace Go.G
open Go.RowKit
mutual
def A.soft:A->A
 |.sl _ xs=>.sl false (A.softL xs)
 |.agg cs=>.agg (A.softL cs)
 |.tup cs=>.tup (A.softL cs)
 |.pim cs=>.pim (A.softL cs)
 |.ifc t x=>.ifc t (A.soft x)
 |.any=>.any
 |.v x=>.v x
 |.pob o u off=>.pob o u off
 |.osl o u sz off len=>.osl o u sz off len
 |.pel o u i j=>.pel o u i j
 |.mo o u=>.mo o u
 |.fnc f fs cs=>.fnc f fs cs
def A.softL:List A->List A
 |[]=>[]
 |x::xs=>A.soft x::A.softL xs
end
theorem BK:∀l:List A,A.softL l=l.map A.soft
 |[]=>by simp[A.softL]
 |x::l=>by simp[A.softL,BK l]
theorem Zk(a:A):a.soft.cells=a.cells.map A.soft:=by cases a<;>simp[A.soft,A.cells,BK]
theorem bR:∀l:List A,(l.map A.soft).flatMap A.cells=(l.flatMap A.cells).map A.soft
 |[]=>rfl
 |x::l=>by simp[Zk,bR l]
theorem kO(a:A):a.soft.one=a.one:=by cases a<;>simp[A.soft,A.one]
theorem Rel.soft{w:World}{I:Nat->Prop}{μ:Mu}{a:A}{x:Value}(h:Rel w I μ a x):Rel w I μ a.soft x:=by
 induction h with
 |any=>simpa[A.soft]using Rel.any _ _
 |v=>simpa[A.soft]using Rel.v _ _
 |slN μ f a cap h=>
  simp only[A.soft,A.softL];exact .slN _ _ _ _ (fun h=>nomatch h)
 |sl μ f b off n cap sz xs g hb hn hc hf hs h1 hcell hr ih=>
  simp only[A.soft,BK];refine .sl _ _ b off n cap sz _ g hb (by simpa using hn) (by simpa using hc) (fun h=>nomatch h) (fun x hx=>?_) (fun k y hk=>?_) (fun k y hk=>?_) (fun k y hk=>?_)
  ·obtain⟨x',hx',rfl⟩:=List.mem_map.1 hx;simpa[Zk]using hs x' hx'
  all_goals
   rw[bR,List.getElem?_map,Option.map_eq_some_iff]at hk;obtain⟨y',hy,rfl⟩:=hk
  ·rw[kO];exact h1 k y' hy
  ·exact hcell k y' hy
  ·exact ih k y' hy
 |agg μ cs vs hl _ ih=>
  simp only[A.soft,BK];refine .agg _ _ _ (by simpa using hl) fun k y hk=>?_;rw[List.getElem?_map,Option.map_eq_some_iff]at hk;obtain⟨y',hy,rfl⟩:=hk;exact ih k y' hy
 |tup μ cs vs hl _ ih=>
  simp only[A.soft,BK];refine .tup _ _ _ (by simpa using hl) fun k y hk=>?_;rw[List.getElem?_map,Option.map_eq_some_iff]at hk;obtain⟨y',hy,rfl⟩:=hk;exact ih k y' hy
 |pim μ b off cs g hb h1 hcell hr ih=>
  simp only[A.soft,BK];refine .pim _ b off _ g hb (fun k y hk=>?_) (fun k y hk=>?_) (fun k y hk=>?_);all_goals
   rw[List.getElem?_map,Option.map_eq_some_iff]at hk;obtain⟨y',hy,rfl⟩:=hk
  ·rw[kO];exact h1 k y' hy
  ·exact hcell k y' hy
  ·exact ih k y' hy
 |pob _ _ _ _ _ _ h1 h2 h3=>simpa[A.soft]using Rel.pob _ _ _ _ _ _ h1 h2 h3
 |osl _ _ _ _ _ _ _ _ h1 h2 h4 h5 h3=>simpa[A.soft]using Rel.osl _ _ _ _ _ _ _ _ h1 h2 h4 h5 h3
 |pel _ _ _ _ _ _ _ h1 h2 h3=>simpa[A.soft]using Rel.pel _ _ _ _ _ _ _ h1 h2 h3
 |mo _ _ _ _ h1 h2 h3=>simpa[A.soft]using Rel.mo _ _ _ _ h1 h2 h3
 |fnc _ _ _ _ _ _ hl0 h0 hl h _ _=>simpa[A.soft]using Rel.fnc _ _ _ _ _ _ hl0 h0 hl h
 |ifc _ _ _ _ _ ih=>simpa[A.soft]using Rel.ifc _ _ _ _ ih
theorem Spec.soft{P:Program}{f:FuncId}{as' as'':List A}{r:A}(h:Spec P f as'' r)(e:A.softL as'=as''):Spec P f as' r:=by
 subst e;refine⟨h.1,fun w I vs hI ht hn ha=>h.2 w I vs hI ht (by simpa[BK]using hn) fun k y hk=>?_⟩;rw[BK,List.getElem?_map,Option.map_eq_some_iff]at hk;obtain⟨y',hy,rfl⟩:=hk;exact(ha k y' hy).soft
theorem SpecB.soft{P:Program}{f:FuncId}{as' as'':List A}{r:A}(h:SpecB P f as'' r)(e:A.softL as'=as''):SpecB P f as' r:=by
 subst e;refine⟨h.1,fun w I J vs hI hJ ht hn ha=>h.2 w I J vs hI hJ ht (by simpa[BK]using hn) fun k y hk=>?_⟩;rw[BK,List.getElem?_map,Option.map_eq_some_iff]at hk;obtain⟨y',hy,rfl⟩:=hk;exact(ha k y' hy).soft
theorem jT{H:Hp}{a:A}(h:a.bare=true):Iz H a a.soft:=fun c w I μ v hs hr=>(Ad h c w I μ v hs hr).soft
mutual
def A.ren(g:Nm->Nm)(δ:Nm->Nat):A->A
 |.pob o u off=>.pob (g o) (u+δ o) off
 |.osl o u sz off len=>.osl (g o) (u+δ o) sz off len
 |.pel o u i j=>.pel (g o) (u+δ o) i j
 |.mo o u=>.mo (g o) (u+δ o)
 |.agg cs=>.agg (A.renL g δ cs)
 |.tup cs=>.tup (A.renL g δ cs)
 |.fnc f fs cs=>.fnc f (A.renL g δ fs) (A.renL g δ cs)
 |.ifc t x=>.ifc t (A.ren g δ x)
 |.any=>.any
 |.v x=>.v x
 |.sl f xs=>.sl f xs
 |.pim cs=>.pim cs
def A.renL(g:Nm->Nm)(δ:Nm->Nat):List A->List A
 |[]=>[]
 |x::xs=>A.ren g δ x::A.renL g δ xs
end
mutual
def A.refs(S:Nm->Prop):A->Prop
 |.pob o u off=>S o
 |.osl o u sz off len=>S o
 |.pel o u i j=>S o
 |.mo o u=>S o
 |.agg cs=>A.refsL S cs
 |.tup cs=>A.refsL S cs
 |.fnc f fs cs=>A.refsL S fs/\A.refsL S cs
 |.ifc t x=>A.refs S x
 |.any=>True
 |.v x=>True
 |.sl f xs=>True
 |.pim cs=>True
def A.refsL(S:Nm->Prop):List A->Prop
 |[]=>True
 |x::xs=>A.refs S x/\A.refsL S xs
end
theorem C0{g:Nm->Nm}{δ:Nm->Nat}:∀l:List A,A.renL g δ l=l.map (A.ren g δ)
 |[]=>by simp[A.renL]
 |x::l=>by simp[A.renL,C0 l]
theorem refsL_iff{S:Nm->Prop}:∀{l:List A},A.refsL S l↔∀x,x∈l->x.refs S
 |[]=>by simp[A.refsL]
 |x::l=>by simp[A.refsL,refsL_iff (l:=l)]
theorem bU{g:Nm->Nm}{δ:Nm->Nat}(a:A):(a.ren g δ).cells=a.cells.map (A.ren g δ):=by cases a<;>simp[A.ren,A.cells,C0]
theorem kD{g:Nm->Nm}{δ:Nm->Nat}:∀l:List A,(l.map (A.ren g δ)).flatMap A.cells=(l.flatMap A.cells).map (A.ren g δ)
 |[]=>rfl
 |x::l=>by simp[bU,kD l]
theorem pB{g:Nm->Nm}{δ:Nm->Nat}(a:A):(a.ren g δ).one=a.one:=by cases a<;>simp[A.ren,A.one]
theorem lW{S:Nm->Prop}{a y:A}(h:a.refs S)(hy:y∈a.cells):y.refs S:=by
 cases a<;>simp[A.cells]at hy<;>first|(subst hy;exact h)|exact refsL_iff.1 (by simpa[A.refs]using h) y hy
theorem Rel.ren{w:World}{I:Nat->Prop}{μ:Mu}{a:A}{v:Value}(h:Rel w I μ a v):∀{μ':Mu} {S:Nm->Prop} {g:Nm->Nm} {δ:Nm->Nat},a.refs S->(∀o,S o->1<=(μ o).u->μ' (g o)={ μ o with u:=(μ o).u+δ o })->Rel w I μ' (a.ren g δ) v:=by
 induction h with
 |any=>intro μ' S g δ _ _;simpa[A.ren]using Rel.any _ _
 |v=>intro μ' S g δ _ _;simpa[A.ren]using Rel.v _ _
 |slN _ _ _ _ h=>intro μ' S g δ _ _;simpa[A.ren]using Rel.slN _ _ _ _ h
 |sl μ f b off n cap sz xs g hb hn hc hf hs h1 hcell hr _=>intro μ' S g' δ _ _;simpa[A.ren]using Rel.sl _ f b off n cap sz xs g hb hn hc hf hs h1 hcell hr
 |pim μ b off cs g hb h1 hcell hr _=>intro μ' S g' δ _ _;simpa[A.ren]using Rel.pim _ b off cs g hb h1 hcell hr
 |agg μ cs vs hl _ ih=>
  intro μ' S g δ hS hμ;simp only[A.ren,C0];refine .agg _ _ _ (by simpa using hl) fun k y hk=>?_;rw[List.getElem?_map,Option.map_eq_some_iff]at hk;obtain⟨y',hy,rfl⟩:=hk;exact ih k y' hy (refsL_iff.1 (by simpa[A.refs]using hS) y' (List.mem_of_getElem? hy)) hμ
 |tup μ cs vs hl _ ih=>
  intro μ' S g δ hS hμ;simp only[A.ren,C0];refine .tup _ _ _ (by simpa using hl) fun k y hk=>?_;rw[List.getElem?_map,Option.map_eq_some_iff]at hk;obtain⟨y',hy,rfl⟩:=hk;exact ih k y' hy (refsL_iff.1 (by simpa[A.refs]using hS) y' (List.mem_of_getElem? hy)) hμ
 |fnc μ f fs caps us vs hl0 _ hl _ ih0 ih=>
  intro μ' S g δ hS hμ;simp only[A.refs]at hS;simp only[A.ren,C0];refine .fnc _ _ _ _ _ _ (by simpa using hl0) (fun k y hk=>?_) (by simpa using hl) fun k y hk=>?_
  ·rw[List.getElem?_map,Option.map_eq_some_iff]at hk;obtain⟨y',hy,rfl⟩:=hk;exact ih0 k y' hy (refsL_iff.1 hS.1 y' (List.mem_of_getElem? hy)) hμ
  ·rw[List.getElem?_map,Option.map_eq_some_iff]at hk;obtain⟨y',hy,rfl⟩:=hk;exact ih k y' hy (refsL_iff.1 hS.2 y' (List.mem_of_getElem? hy)) hμ
 |ifc _ _ _ _ _ ih=>
  intro μ' S g δ hS hμ;simp only[A.ren];exact .ifc _ _ _ _ (ih (by simpa[A.refs]using hS) hμ)
 |pob μ o u off b k h1 h2 h3=>
  intro μ' S g δ hS hμ;have e:=hμ o (by simpa[A.refs]using hS) oF;simp only[A.ren];exact .pob _ _ _ _ _ _ oF (by rw[e];simpa using h2) fun hu=>by rw[e]at hu ⊢; exact h3 (by simpa using hu)
 |osl μ o u sz off len a cap h1 h2 h4 h5 h3=>
  intro μ' S g δ hS hμ;have e:=hμ o (by simpa[A.refs]using hS) oF;simp only[A.ren];exact .osl _ _ _ _ _ _ _ _ oF (by rw[e];simpa using h2) h4 h5 fun hu=>by rw[e]at hu ⊢; exact h3 (by simpa using hu)
 |pel μ o u i j b k h1 h2 h3=>
  intro μ' S g δ hS hμ;have e:=hμ o (by simpa[A.refs]using hS) oF;simp only[A.ren];exact .pel _ _ _ _ _ _ _ oF (by rw[e];simpa using h2) fun hu=>by rw[e]at hu ⊢; exact h3 (by simpa using hu)
 |mo μ o u b h1 h2 h3=>
  intro μ' S g δ hS hμ;have e:=hμ o (by simpa[A.refs]using hS) oF;simp only[A.ren];exact .mo _ _ _ _ oF (by rw[e];simpa using h2) fun hu=>by rw[e]at hu ⊢; exact h3 (by simpa using hu)
def Ob.ren(g:Nm->Nm)(δ:Nm->Nat):Ob->Ob
 |.none=>.none
 |.cells cs=>.cells (A.renL g δ cs)
 |.arr sz xs=>.arr sz (A.renL g δ xs)
 |.mp es=>.mp es
def Ob.refs(S:Nm->Prop):Ob->Prop
 |.none=>True
 |.cells cs=>A.refsL S cs
 |.arr sz xs=>A.refsL S xs
 |.mp _=>True
theorem Zd{g:Nm->Nm}{δ:Nm->Nat}{L:Loc}{ob:Ob}:EG L (ob.ren g δ)=EG L ob:=by cases ob<;>rfl
theorem OSim.ren{w:World}{I:Nat->Prop}{μ μ':Mu}{L L':Loc}{ob:Ob}{S:Nm->Prop}{g:Nm->Nm}{δ:Nm->Nat}(h:OSim w I μ L ob)(hS:ob.refs S)(hμ:∀o,S o->1<=(μ o).u->μ' (g o)={ μ o with u:=(μ o).u+δ o })(hL:L'={ L with u:=L'.u }) :
  OSim w I μ' L' (ob.ren g δ):=by
 rw[hL];cases ob with
 |none=>trivial
 |mp es=>exact h
 |cells cs=>
  obtain⟨vs,h1,h2,h3⟩:=h;simp only[Ob.ren,C0];refine⟨vs,h1,by simpa using h2,fun k y hk=>?_⟩;rw[List.getElem?_map,Option.map_eq_some_iff]at hk;obtain⟨y',hy,rfl⟩:=hk;exact⟨by rw[pB];exact(h3 k y' hy).1,(h3 k y' hy).2.ren (refsL_iff.1 hS y' (List.mem_of_getElem? hy)) hμ⟩
 |arr sz xs=>
  simp only[Ob.ren,C0];obtain⟨h0,⟨h1,h2⟩|⟨h1,vs,h3,h4,h5,h6,h7⟩⟩:=h
  ·exact⟨h0,.inl ⟨h1,by rw[h2];rfl⟩⟩
  ·refine⟨h0,.inr ⟨h1,vs,h3,h4,by simpa using h5,fun x hx=>?_,fun k y hk=>?_⟩⟩
   ·obtain⟨x',hx',rfl⟩:=List.mem_map.1 hx;simpa[bU]using h6 x' hx'
   ·rw[kD,List.getElem?_map,Option.map_eq_some_iff]at hk;obtain⟨y',hy,rfl⟩:=hk;obtain⟨x,hx,hy'⟩:=List.mem_flatMap.1 (List.mem_of_getElem? hy);exact⟨by rw[pB];exact(h7 k y' hy).1,(h7 k y' hy).2.ren (lW (refsL_iff.1 hS x hx) hy') hμ⟩
def En(P:Program)(w0:World)(I0:Nat->Prop)(M0:Nm->Nat->Prop)(n:Nat)(m0:Mu):Cx:=⟨P,w0,I0,M0,n,m0⟩
@[simp]theorem Anf{P:Program}{w0:World}{I0:Nat->Prop}{M0:Nm->Nat->Prop}{n:Nat}{m0:Mu}:(En P w0 I0 M0 n m0).P=P:=rfl
def SpecH(P:Program)(f:FuncId)(k:Nat)(args:List A)(Hc:Hp)(r:A)(Hr:Hp):Prop:=
 ad P f=true/\∀(w:World)(I:Nat->Prop)(M0:Nm->Nat->Prop)(n:Nat)(μ:Mu)(vs:Array Value),(∀(o:Nm)(b:Nat),(Hc o).ob=.none->¬M0 o b)->Sim (En P w I M0 n μ) w I μ Hc->vs.size=args.length->(∀(k:Nat)(y:A),args[k]? = some y->Rel w I μ y (vs.getD k undef)) ->
  Calls P f vs w fun e w'=>∃v,e=.returned v/\∃H' I' μ',Sim (En P w I M0 n μ) w' I' μ' H'/\Rel w' I' μ' r v/\∀(i:Nat)(p:Nm),i<k->H' (i::p)=Hr (i::p)
theorem Sim.of_n{P:Program}{w0 w:World}{I0 I:Nat->Prop}{M0:Nm->Nat->Prop}{n n':Nat}{m0 μ:Mu}{H:Hp}(h:Sim (En P w0 I0 M0 n m0) w I μ H):Sim (En P w0 I0 M0 n' m0) w I μ H:=
 ⟨h.kept,h.lt,h.old,h.new,h.ver,h.ob,h.apart,h.own,h.mle,h.tag,h.tab⟩
def Pf(c:Cx)(rs:List ResultVar)(k:Nat)(r:A)(Hr:Hp):Exit->Sta->Prop:=fun e st=>WC c (sP c.P rs (fun r0 H=>r0=r/\∀(i:Nat)(p:Nm),i<k->H (i::p)=Hr (i::p)) e) st
theorem KK{c:Cx}{rs:List ResultVar}{k:Nat}{r:A}{Hr:Hp}{e:Exit}{st st':Sta}(h:Le c st st')(k':Pf c rs k r Hr e st'):Pf c rs k r Hr e st:=Dn h k'
theorem ZG{c:Cx}{rs:List ResultVar}{k:Nat}{r r0:A}{Hr:Hp}{st:Sta}(h:HX c.P st rs=some r0)(he:r0=r)(hh:∀(i:Nat)(p:Nm),i<k->st.H (i::p)=Hr (i::p)):Pf c rs k r Hr .ret st:=Dr ⟨r0,h,he,hh⟩
theorem WD{c:Cx}{rs:List ResultVar}{k:Nat}{r r0:A}{Hr:Hp}{st:Sta}(h:HX c.P st rs=some r0)(he:r0=r)(hh:∀(i:Nat)(p:Nm),i<k->st.H (i::p)=Hr (i::p)):Pf c rs k r Hr .normal st:=Dr ⟨r0,h,he,hh⟩
theorem Qv{P:Program}{f:FuncId}{n k:Nat}{rs:List ResultVar}{cc:CC}{args:List A}{Hc:Hp}{r:A}{Hr:Hp}(t:Bs P f n rs cc)(ha:args.length<=n)
  (h:∀w0 I0 M0 m0,(∀(o:Nm)(b:Nat),(Hc o).ob=.none->¬M0 o b)->WPC (En P w0 I0 M0 n m0) cc (Pf (En P w0 I0 M0 n m0) rs k r Hr) ⟨Rp args,Hc⟩):SpecH P f k args Hc r Hr:=by
 obtain⟨hm,hk,fn,code,hf,hb,hn,hrs,hc⟩:=t;refine⟨hk,fun w I M0 n' μ vs hN hs hl har=>?_⟩;refine(YQ (Q:=fun r0 H=>r0=r/\∀(i:Nat)(p:Nm),i<k->H (i::p)=Hr (i::p)) hf hb (c:=En P w I M0 n μ) rfl hn.symm hl oF (Sim.of_n hs) har (fun a w1 I1 μ1 hsr=>wp_mono (Q2 (c:=En P w I M0 n μ) hm hc (h w I M0 μ hN) a w1 I1 μ1 hsr) fun e a' w' ⟨st',I',μ',g1,st2,g2,g3⟩=>by
   obtain⟨I2,μ2,g4⟩:=g2 a' w' I' μ' g1;exact⟨st2,I2,μ2,g4,by rw[hrs];exact g3⟩)).mono fun e w' ⟨v,r0,H',I',μ',he,h1,h2,h3,h4⟩=>?_
 subst h3;exact⟨v,he,H',I',μ',h1.of_n,h2,h4⟩
theorem YR{P:Program}{f:FuncId}{n k:Nat}{rs:List ResultVar}{cc:CC}{args:List A}{Hc:Hp}{r:A}{Hr:Hp}(t:Bs P f n rs cc)(ha:args.length<=n)
  (h:∀w0 I0 M0 m0,WPC (En P w0 I0 M0 n m0) cc (Pf (En P w0 I0 M0 n m0) rs k r Hr) ⟨Rp args,Hc⟩):SpecH P f k args Hc r Hr:=Qv t ha fun w0 I0 M0 m0 _=>h w0 I0 M0 m0
def Q0(rs:List Nat):Nm->Nm
 |i::p=>rs.getD i 0::p
 |[]=>[]
def Vh(rs:List Nat):Nm->Nm
 |j::p=>rs.idxOf j::p
 |[]=>[]
def RH(rs:List Nat)(m:Nat):Nm->Prop
 |j::p=>rs.idxOf j<m
 |[]=>False
def HG(k:Nat):Nm->Prop
 |i::p=>i<k
 |[]=>False
def Pd(rs:List Nat)(m:Nat)(H:Hp):Nm->Nat
 |i::p=>if i<m then 0 else if i<rs.length then (H (rs.getD i 0::p)).u else 0
 |[]=>0
def VOb.ren(g:Nm->Nm)(δ:Nm->Nat)(d:Nat)(x:VOb):VOb:=⟨x.u+d,x.ob.ren g δ⟩
def Js(rs:List Nat)(m:Nat)(H Hr:Hp):Hp
 |j::p=>(Hr (rs.idxOf j::p)).ren (Q0 rs) (Pd rs m H) (Pd rs m H (rs.idxOf j::p))
 |[]=>⟨0,.none⟩
theorem NT{rs:List Nat}(hnd:rs.Nodup){i:Nat}(h:i<rs.length):rs.idxOf (rs.getD i 0)=i:=by
 have e:rs.getD i 0=rs[i]:=by simp[List.getD,h]
 rw[e];exact hnd.idxOf_getElem i h
theorem UA{rs:List Nat}{j:Nat}(h:j∈rs):rs.getD (rs.idxOf j) 0=j:=by
 have hl:=List.idxOf_lt_length_iff.2 h;simp[List.getD,hl]
theorem idx_mem{rs:List Nat}{j:Nat}:rs.idxOf j<rs.length↔j∈rs:=List.idxOf_lt_length_iff
theorem nf{g:Nm->Nm}{δ:Nm->Nat}{d:Nat}{x:VOb}(h:(x.ren g δ d).ob=.none):x.ob=.none:=by
 cases x with
 |mk u ob=>cases ob<;>first|rfl|cases h
theorem VM{P:Program}{f:FuncId}{rs:List Nat}{m:Nat}{args:List A}{Hc Hr:Hp}{r:A}{H:Hp}(hnd:rs.Nodup)(hm:m<=rs.length)
  (hS:SpecH P f rs.length (A.renL (Vh rs) (fun _=>0) args) Hc r Hr)
  (h1:∀(i:Nat)(p:Nm),i<m->Hc (i::p)=(H (rs.getD i 0::p)).ren (Vh rs) (fun _=>0) 0) (h2:∀(i:Nat)(p:Nm),m<=i->Hc (i::p)=⟨0,.none⟩) (h3:Hc []=⟨0,.none⟩)
  (ha:A.refsL (RH rs m) args) (hc:∀(i:Nat)(p:Nm),i<m->(H (rs.getD i 0::p)).ob.refs (RH rs m))
  (hr:r.refs (HG rs.length)) (ho:∀(i:Nat)(p:Nm),i<rs.length->(Hr (i::p)).ob.refs (HG rs.length))
  (hv:∀(i:Nat)(p:Nm),m<=i->i<rs.length->(Hr (i::p)).ob=.none\/1<=(Hr (i::p)).u) :
  Vw P H f args (r.ren (Q0 rs) (Pd rs m H)) (.fn rs (Js rs m H Hr)):=by
 refine⟨hS.1,fun c w I μ vs hP hs hl har=>?_⟩
 let nm:Nat->Nm->Nm:=fun i p=>rs.getD i 0::p
 let μc:Mu:=fun o=>match o with
  |i::p=>if i<m then μ (nm i p)else ai (i::p)
  |[]=>ai []
 let M1:Nm->Nat->Prop:=fun o b=>∃i p,o=i::p/\i<m/\EG (μ (nm i p)) (H (nm i p)).ob=true/\b=(μ (nm i p)).b
 have hμ:∀o,RH rs m o->1<=(μ o).u->μc (Vh rs o)={ μ o with u:=(μ o).u+(fun _=>0) o }:=fun o ho _=>by
  cases o with
  |nil=>exact ho.elim
  |cons j p=>
   have hj:rs.idxOf j<m:=ho;show(if rs.idxOf j<m then μ (nm (rs.idxOf j) p)else _)=_;rw[if_pos hj];have:nm (rs.idxOf j) p=j::p:=by show rs.getD (rs.idxOf j) 0::p=_;rw[UA (idx_mem.1 oF)]
   rw[this];rfl
 have nm_ne:∀{i i':Nat} {p p':Nm},i<rs.length->i'<rs.length->i::p≠i'::p'->nm i p≠nm i' p':=fun {i i' p p'} hi hi' hne e=>by
  have e1:rs.getD i 0=rs.getD i' 0:=by injection e
  have e2:p=p':=by injection e
  have:=NT hnd hi;rw[e1,NT hnd hi']at this;exact hne (by rw[this,e2])
 have own1:∀(i:Nat)(p:Nm),EG (μc (i::p)) (Hc (i::p)).ob=true->i<m/\EG (μ (nm i p)) (H (nm i p)).ob=true/\μc (i::p)=μ (nm i p):=fun i p h=>by
  by_cases hi:i<m
  ·have e:μc (i::p)=μ (nm i p):=if_pos hi;rw[e,h1 i p hi]at h;simp only[VOb.ren,Zd]at h;exact⟨hi,h,e⟩
  ·rw[h2 i p oF]at h;cases h
 have start:Sim (En P w I M1 0 μc) w I μc Hc:=by
  refine⟨⟨rfl,rfl,rfl,Cq _,fun _ _ _=>rfl⟩,hs.lt,fun _ h=>h,fun b hb=>.inl hb,fun o=>?_,fun o=>?_,fun o o' k k' hne=>?_,fun o k=>?_,MuLe.refl _,fun o k=>?_,by subst hP;exact hs.tab⟩
  ·cases o with
   |nil=>rw[h3];rfl
   |cons i p=>
    by_cases hi:i<m
    ·have e:μc (i::p)=μ (nm i p):=if_pos hi;rw[e,h1 i p hi,hs.ver];rfl
    ·have e:μc (i::p)=ai (i::p):=if_neg hi;rw[e,h2 i p oF];rfl
  ·cases o with
   |nil=>rw[h3];trivial
   |cons i p=>
    by_cases hi:i<m
    ·have e:μc (i::p)=μ (nm i p):=if_pos hi;rw[e,h1 i p hi];exact(hs.ob (nm i p)).ren (hc i p hi) hμ rfl
    ·rw[h2 i p oF];trivial
  ·cases o with
   |nil=>rw[h3]at k;cases k
   |cons i p=>
    cases o' with
    |nil=>rw[h3]at k';cases k'
    |cons i' p'=>
     obtain⟨q1,q2,q3⟩:=own1 i p k;obtain⟨r1,r2,r3⟩:=own1 i' p' k';rw[q3,r3];exact hs.apart _ _ q2 r2 (nm_ne oF oF hne)
  ·cases o with
   |nil=>rw[h3]at k;cases k
   |cons i p=>
    obtain⟨q1,q2,q3⟩:=own1 i p k;rw[q3];obtain⟨g1,g2,g3⟩:=hs.own _ q2;exact⟨g1,.inl ⟨i,p,rfl,q1,q2,rfl⟩,g3⟩
  ·cases o with
   |nil=>rw[h3]at k;cases k
   |cons i p=>
    obtain⟨q1,q2,q3⟩:=own1 i p k;rw[q3];exact hs.tag _ q2
 have harg:∀(k:Nat)(y:A),(A.renL (Vh rs) (fun _=>0) args)[k]? = some y->Rel w I μc y (vs.getD k undef):=fun k y hk=>by
  rw[C0,List.getElem?_map,Option.map_eq_some_iff]at hk;obtain⟨y',hy,rfl⟩:=hk;exact(har k y' hy).ren (refsL_iff.1 ha y' (List.mem_of_getElem? hy)) hμ
 refine(hS.2 w I M1 0 μc vs (fun o b h ⟨i,p,e,hi,hb,_⟩=>by
  subst e;rw[h1 i p hi]at h;rw[show(H (nm i p)).ob=.none from nf h]at hb;cases hb) start (by simpa[C0]using hl) harg).mono fun e w' ⟨v,he,H',I',μ',hs',hrel,hH'⟩=>⟨v,he,I',?_⟩
 let δ:=Pd rs m H
 let μ2:Mu:=fun n=>match n with
  |j::p=>if j∈rs then (if rs.idxOf j<m\/1<=(μ' (rs.idxOf j::p)).u then { μ' (rs.idxOf j::p)with u:=(μ' (rs.idxOf j::p)).u+δ (rs.idxOf j::p) }else μ (j::p))else μ (j::p)
  |[]=>μ []
 have δ0:∀{i:Nat} {p:Nm},i<m->δ (i::p)=0:=fun {i p} h=>if_pos h;have δ1:∀{i:Nat} {p:Nm},¬i<m->i<rs.length->δ (i::p)=(H (nm i p)).u:=fun {i p} h h'=>by
  show(if i<m then _ else _)=_;rw[if_neg h,if_pos h']
 have nmj:∀{j:Nat} {p:Nm},j∈rs->nm (rs.idxOf j) p=j::p:=fun {j p} h=>by show rs.getD (rs.idxOf j) 0::p=_;rw[UA h]
 have app_in:∀{j:Nat} {p:Nm},j∈rs->(Eff.fn rs (Js rs m H Hr)).app H (j::p)=Js rs m H Hr (j::p):=fun {j p} h=>by simp[Eff.app,h]
 have app_out:∀{j:Nat} {p:Nm},j∉rs->(Eff.fn rs (Js rs m H Hr)).app H (j::p)=H (j::p):=fun {j p} h=>by simp[Eff.app,h]
 have app_nil':(Eff.fn rs (Js rs m H Hr)).app H []=H []:=rfl;have mu_in:∀{j:Nat} {p:Nm},j∈rs->(rs.idxOf j<m\/1<=(μ' (rs.idxOf j::p)).u)->μ2 (j::p)={ μ' (rs.idxOf j::p)with u:=(μ' (rs.idxOf j::p)).u+δ (rs.idxOf j::p) }:=fun {j p} h h'=>by
  show(if j∈rs then _ else _)=_;rw[if_pos h,if_pos h']
 have mu_old:∀{j:Nat} {p:Nm},j∈rs->¬(rs.idxOf j<m\/1<=(μ' (rs.idxOf j::p)).u)->μ2 (j::p)=μ (j::p):=fun {j p} h h'=>by
  show(if j∈rs then _ else _)=_;rw[if_pos h,if_neg h']
 have mu_out:∀{j:Nat} {p:Nm},j∉rs->μ2 (j::p)=μ (j::p):=fun {j p} h=>by
  show(if j∈rs then _ else _)=_;rw[if_neg h]
 have hle:MuLe μ μ2:=fun o=>by
  cases o with
  |nil=>exact⟨Cq _,fun _=>rfl⟩
  |cons j p=>
   by_cases hj:j∈rs
   ·by_cases hi:rs.idxOf j<m
    ·rw[mu_in hj (.inl hi),δ0 hi];have e:μc (rs.idxOf j::p)=μ (j::p):=by
      show(if rs.idxOf j<m then _ else _)=_;rw[if_pos hi,nmj hj]
     have:=hs'.mle (rs.idxOf j::p);change (μc (rs.idxOf j::p)).u<=_/\(_=(μc (rs.idxOf j::p)).u->_=μc (rs.idxOf j::p))at this;rw[e]at this;exact⟨this.1,fun q=>by rw[<-this.2 q];rfl⟩
    ·by_cases hu:1<=(μ' (rs.idxOf j::p)).u
     ·rw[mu_in hj (.inr hu),δ1 hi (idx_mem.2 hj),nmj hj,<-hs.ver];exact⟨iS,fun q=>by simp at q;omega⟩
     ·rw[mu_old hj oF];exact⟨Cq _,fun _=>rfl⟩
   ·rw[mu_out hj];exact⟨Cq _,fun _=>rfl⟩
 have notM1:∀{n:Nm} {b:Nat},EG (μ n) (H n).ob=true->b=(μ n).b->(∀j p,n=j::p->j∉rs)->¬∃o,M1 o b:=fun {n b} hb e hn ⟨_,i,p,_,q1,q2,q3⟩=>by
  refine hs.apart n (nm i p) hb q2 (fun e'=>?_) (by rw[<-e,q3]);refine hn _ _ e' ?_;have:i<rs.length:=oF
  simp[List.getD,this]
 have hx:Ext I μ w I' μ2 w':=⟨fun b h=>hs'.old b h,fun b h=>hs'.kept.block b (hs.lt b h) (fun ⟨_,i,p,_,q1,q2,q3⟩=>(hs.own _ q2).1 (by rw[<-q3];exact h)),hle⟩;have hμ2:∀o,HG rs.length o->1<=(μ' o).u->μ2 (Q0 rs o)={ μ' o with u:=(μ' o).u+δ o }:=fun o ho h1=>by
  cases o with
  |nil=>exact ho.elim
  |cons i p=>
   have hi:i<rs.length:=ho;have e:=NT hnd hi;have hmem:rs.getD i 0∈rs:=idx_mem.1 (by rw[e];exact hi);show μ2 (rs.getD i 0::p)=_;rw[mu_in hmem (.inr (by rw[e];exact h1)),e]
 have oH:∀{j:Nat} {p:Nm},j∈rs->(H' (rs.idxOf j::p))=Hr (rs.idxOf j::p):=fun {j p} h=>hH' _ _ (idx_mem.2 h);have own2:∀{j:Nat} {p:Nm},j∈rs->EG (μ2 (j::p)) (Js rs m H Hr (j::p)).ob=true->EG (μ' (rs.idxOf j::p)) (H' (rs.idxOf j::p)).ob=true/\(μ2 (j::p)).b=(μ' (rs.idxOf j::p)).b:=fun {j p} hj h=>by
  simp only[Js,VOb.ren,Zd]at h;by_cases hi:rs.idxOf j<m\/1<=(μ' (rs.idxOf j::p)).u
  ·rw[mu_in hj hi]at h ⊢;rw[oH hj];exact⟨by cases hq:(Hr (rs.idxOf j::p)).ob<;>rw[hq]at h<;>exact h,rfl⟩
  ·rcases hv (rs.idxOf j) p oF (idx_mem.2 hj)with e|e
   ·rw[e]at h;cases h
   ·rw[<-oH hj,<-hs'.ver]at e;omega
 have own3:∀{j:Nat} {p:Nm},j∈rs->EG (μ2 (j::p)) (Js rs m H Hr (j::p)).ob=true->(μ2 (j::p)).e=(μ' (rs.idxOf j::p)).e:=fun {j p} hj h=>by
  simp only[Js,VOb.ren,Zd]at h;by_cases hi:rs.idxOf j<m\/1<=(μ' (rs.idxOf j::p)).u
  ·rw[mu_in hj hi]
  ·rcases hv (rs.idxOf j) p oF (idx_mem.2 hj)with e|e
   ·rw[e]at h;cases h
   ·rw[<-oH hj,<-hs'.ver]at e;omega
 have blk:∀{i:Nat} {p:Nm},EG (μ' (i::p)) (H' (i::p)).ob=true->¬I' (μ' (i::p)).b/\(M1 (i::p) (μ' (i::p)).b\/w.heap.size<=(μ' (i::p)).b)/\(μ' (i::p)).b<w'.heap.size:=fun {i p} h=>hs'.own _ h;refine⟨μ2,hx,⟨?_,hs'.lt,fun b h=>hs'.old b (hs.old b h),fun b h=>?_,fun o=>?_,fun o=>?_,fun o o' k k' hne=>?_,fun o k=>?_,hs.mle.trans hle,fun o k=>?_,by subst hP;exact hs'.tab⟩,hrel.ren hr hμ2⟩
 ·have k1:=hs.kept;have k2:=hs'.kept;refine⟨k2.os.trans k1.os,k2.tape.trans k1.tape,k2.output.trans k1.output,Nat.le_trans k1.size k2.size,fun b hb hM=>?_⟩;refine(k2.block b (Nat.lt_of_lt_of_le hb k1.size) (fun ⟨_,i,p,_,q1,q2,q3⟩=>?_)).trans (k1.block b hb hM);rcases (hs.own _ q2).2.1 with g|g
  ·rw[<-q3]at g;exact hM ⟨_,g⟩
  ·rw[<-q3]at g;omega
 ·rcases hs'.new b h with g|g
  ·exact hs.new b g
  ·exact .inr (Nat.le_trans hs.kept.size g)
 ·cases o with
  |nil=>exact hs.ver []
  |cons j p=>
   by_cases hj:j∈rs
   ·rw[app_in hj];show _=(Hr (rs.idxOf j::p)).u+δ (rs.idxOf j::p);rw[<-oH hj,<-hs'.ver];by_cases hi:rs.idxOf j<m\/1<=(μ' (rs.idxOf j::p)).u
    ·rw[mu_in hj hi]
    ·rw[mu_old hj hi,δ1 oF (idx_mem.2 hj),nmj hj,hs.ver];omega
   ·rw[app_out hj,mu_out hj];exact hs.ver _
 ·cases o with
  |nil=>exact OSim.keep hx (fun hb=>hs'.kept.block _ (hs.own _ hb).2.2 (notM1 hb rfl (fun j p e=>nomatch e))) (hs.ob [])
  |cons j p=>
   by_cases hj:j∈rs
   ·rw[app_in hj];by_cases hi:rs.idxOf j<m\/1<=(μ' (rs.idxOf j::p)).u
    ·rw[mu_in hj hi];have:=hs'.ob (rs.idxOf j::p);rw[oH hj]at this;exact this.ren (ho _ _ (idx_mem.2 hj)) hμ2 rfl
    ·rcases hv (rs.idxOf j) p oF (idx_mem.2 hj)with e|e
     ·simp only[Js,VOb.ren,e];trivial
     ·rw[<-oH hj,<-hs'.ver]at e;omega
   ·rw[app_out hj,mu_out hj];exact OSim.keep hx (fun hb=>hs'.kept.block _ (hs.own _ hb).2.2 (notM1 hb rfl (fun j' p' e=>by cases e;exact hj))) (hs.ob _)
 ·have cross:∀{j:Nat} {p:Nm} {n:Nm},j∈rs->EG (μ2 (j::p)) (Js rs m H Hr (j::p)).ob=true->EG (μ n) (H n).ob=true->(∀j p,n=j::p->j∉rs)->(μ2 (j::p)).b≠(μ n).b:=fun {j p n} hj h h' hn e=>by
   obtain⟨q1,q2⟩:=own2 hj h;obtain⟨_,g,_⟩:=blk q1;rw[q2]at e;rcases g with g|g
   ·exact notM1 h' e hn ⟨_,g⟩
   ·have:=(hs.own _ h').2.2;omega
  cases o with
  |nil=>
   cases o' with
   |nil=>exact(hne rfl).elim
   |cons j' p'=>
    by_cases hj':j'∈rs
    ·rw[app_in hj']at k';exact Ne.symm (cross hj' k' k (fun j p e=>nomatch e))
    ·rw[app_out hj',mu_out hj']at k';rw[mu_out hj'];exact hs.apart _ _ k k' hne
  |cons j p=>
   by_cases hj:j∈rs
   ·rw[app_in hj]at k;cases o' with
    |nil=>exact cross hj k k' (fun j p e=>nomatch e)
    |cons j' p'=>
     by_cases hj':j'∈rs
     ·rw[app_in hj']at k';obtain⟨q1,q2⟩:=own2 hj k;obtain⟨r1,r2⟩:=own2 hj' k';rw[q2,r2];refine hs'.apart _ _ q1 r1 (fun e=>hne ?_);have e1:rs.idxOf j=rs.idxOf j':=by injection e
      have e2:p=p':=by injection e
      rw[<-UA hj,<-UA hj',e1,e2]
     ·rw[app_out hj',mu_out hj']at k';rw[mu_out hj'];exact cross hj k k' (fun j'' p'' e=>by cases e;exact hj')
   ·rw[app_out hj,mu_out hj]at k;rw[mu_out hj];cases o' with
    |nil=>exact hs.apart _ _ k k' hne
    |cons j' p'=>
     by_cases hj':j'∈rs
     ·rw[app_in hj']at k';exact Ne.symm (cross hj' k' k (fun j'' p'' e=>by cases e;exact hj))
     ·rw[app_out hj',mu_out hj']at k';rw[mu_out hj'];exact hs.apart _ _ k k' hne
 ·have far:∀{n:Nm},EG (μ n) (H n).ob=true->¬I' (μ n).b/\(c.M0 n (μ n).b\/c.w0.heap.size<=(μ n).b)/\(μ n).b<w'.heap.size:=fun {n} h=>by
   obtain⟨g1,g2,g3⟩:=hs.own _ h;refine⟨fun h'=>?_,g2,Nat.lt_of_lt_of_le g3 hs'.kept.size⟩;rcases hs'.new _ h' with g|g
   ·exact g1 g
   ·exact absurd (show w.heap.size<=_ from g) oF
  cases o with
  |nil=>exact far k
  |cons j p=>
   by_cases hj:j∈rs
   ·rw[app_in hj]at k;obtain⟨q1,q2⟩:=own2 hj k;rw[q2];obtain⟨g1,g2,g3⟩:=blk q1;refine⟨g1,?_,g3⟩;rcases g2 with ⟨i,p',r0,r1,r2,r3⟩|g2
    ·have e1:rs.idxOf j=i:=by injection r0
     have e2:p=p':=by injection r0
     rw[<-e1,<-e2,nmj hj]at r2 r3;rw[r3];exact(hs.own _ r2).2.1
    ·exact .inr (Nat.le_trans hs.kept.size g2)
   ·rw[app_out hj,mu_out hj]at k;rw[mu_out hj];exact far k
 ·cases o with
  |nil=>exact hs.tag _ k
  |cons j p=>
   by_cases hj:j∈rs
   ·rw[app_in hj]at k;rw[own3 hj k];exact hs'.tag _ (own2 hj k).1
   ·rw[app_out hj,mu_out hj]at k;rw[mu_out hj];exact hs.tag _ k
def mk(P:Program)(t:TypeId)(as':List A):A:=match P.underlying t with
 |some (.struct _)=>.agg as'
 |_=>as'.headD .any
def u9(R:TypeId->List A->Prop):List Field->List A->Prop
 |[],as'=>as'=[]
 |f::fs,as'=>∃a b,as'=a++b/\R f.type a/\u9 R fs b
def Has(P:Program):Nat->TypeId->List A->Prop
 |0,_,_=>False
 |n+1,t,as'=>match P.underlying t with
  |some .bool=>∃b,as'=[.v (.bool b)]
  |some (.int k)=>∃m,(Lit.int k m).wf=true/\as'=[.v (.int k m)]
  |some .string=>∃s,s.size<=maxLen/\s.size<=reachBytes/\as'=[.v (.string s)]
  |some (.slice e)=>∃f xs,as'=[.sl f xs]/\xs.length<=maxLen/\xs.length*P.bytesOf e<=reachBytes/\(f=true->xs=[])/\∀x,x∈xs->∃b,Has P n e b/\x=mk P e b
  |some (.struct fs)=>u9 (Has P n) fs.toList as'
  |_=>False
def AdS(R:TypeId->List A->Prop):List TypeId->List A->Prop
 |[],as'=>as'=[]
 |t::ts,as'=>∃a b,as'=a++b/\R t a/\AdS R ts b
theorem Yb{R:TypeId->List A->Prop}:∀{fs:List Field} {as':List A},u9 R fs as'↔AdS R (fs.map Field.type) as'
 |[],as'=>Iff.rfl
 |f::fs,as'=>by simp only[u9,AdS,List.map_cons,Yb (fs:=fs)]
def qa(P:Program):Nat->List Field->Option Nat
 |off,[]=>some off
 |off,f::fs=>if f.offset=off then qa P (off+P.cellsOf f.type) fs else none
def Qh(P:Program)(S:List TypeId):Bool:=S.all fun t=>match P.underlying t with
 |some .bool|some (.int _)|some .string=>P.cellsOf t == 1
 |some (.slice e)=>P.cellsOf t == 1&&(decide (0<P.cellsOf e)&&S.contains e)
 |some (.struct fs)=>qa P 0 fs.toList == some (P.cellsOf t)&&fs.toList.all fun f=>S.contains f.type
 |_=>false
theorem qV{β:Type}{R:Nat->β->Prop}:∀{n:Nat},(∀i,i<n->∃b,R i b)->∃l:List β,l.length=n/\∀(i:Nat)(b:β),l[i]? = some b->R i b
 |0,_=>⟨[],rfl,fun i b h=>by simp at h⟩
 |n+1,h=>by
  obtain⟨l,h1,h2⟩:=qV (n:=n) (fun i hi=>h i oF);obtain⟨b,hb⟩:=h n oF;refine⟨l++[b],by simp[h1],fun i c hc=>?_⟩;rw[List.getElem?_append]at hc;split at hc
  ·exact h2 i c hc
  ·rename_i hi;have:i=n:=by
    have:=(List.getElem?_eq_some_iff.1 hc).1;simp at this;omega
   subst this;simp[h1]at hc;subst hc;exact hb
theorem Yx{α β:Type}{f:α->Option β}:∀{l:List α} {r:List β},l.mapM f=some r->r.length=l.length/\∀(i:Nat)(a:α),l[i]? = some a->∃b,f a=some b/\r[i]? = some b
 |[],r,h=>by
  simp at h;subst h;exact⟨rfl,fun i a h=>by simp at h⟩
 |a::l,r,h=>by
  rw[List.mapM_cons]at h;simp only[Option.bind_eq_bind,Option.bind_eq_some_iff]at h;obtain⟨b,hb,r',hr,h⟩:=h;cases h;obtain⟨h1,h2⟩:=Yx hr;refine⟨by simp[h1],fun i c hc=>?_⟩;cases i with
  |zero=>simp at hc;subst hc;exact⟨b,hb,rfl⟩
  |succ i=>simpa using h2 i c (by simpa using hc)
theorem cells?_get{w:World}{base:Nat}{a:Addr}{n:Nat}{cs:List Value}(h:w.cells? base a n=some cs):cs.length=n/\∀i,i<n->w.cell? (a.add i)=some (cs.getD i undef):=by
 unfold World.cells? at h;split at h
 ·obtain⟨h1,h2⟩:=Yx h;refine⟨by simpa using h1,fun i hi=>?_⟩;obtain⟨b,hb,hr⟩:=h2 i i (by simp[hi]);rw[hb];simp[List.getD,hr]
 ·cases h
theorem LC{P:Program}{n:Nat}{t:TypeId}{as':List A}(h:Has P n t as'):(mk P t as').cells=as':=by
 cases n with
 |zero=>exact h.elim
 |succ n=>
  unfold Has at h;unfold mk;split at h
  ·rename_i hu;obtain⟨b,rfl⟩:=h;rw[hu];rfl
  ·rename_i hu;obtain⟨m,_,rfl⟩:=h;rw[hu];rfl
  ·rename_i hu;obtain⟨m,_,_,rfl⟩:=h;rw[hu];rfl
  ·rename_i hu;obtain⟨f,xs,rfl,_⟩:=h;rw[hu];rfl
  ·rename_i hu;rw[hu];rfl
  ·exact h.elim
theorem yQ{sz:Nat}(hp:0<sz){xs:List A}{k:Nat}{y:A}(h:∀x,x∈xs->x.cells.length=sz)(hk:(xs.flatMap A.cells)[k]? = some y):∃x,xs[k / sz]? = some x/\x.cells[k % sz]? = some y:=by
 have hl:=(List.getElem?_eq_some_iff.1 hk).1;rw[BS h]at hl;have hi:k / sz<xs.length:=by rw[Nat.div_lt_iff_lt_mul hp];exact hl
 have hj:k % sz<sz:=Nat.mod_lt _ hp;have hx:xs[k / sz]? = some xs[k / sz]:=List.getElem?_eq_getElem hi;have hcl:=h _ (List.mem_of_getElem? hx);have hz:xs[k / sz].cells[k % sz]? = some (xs[k / sz].cells[k % sz]'oF):=List.getElem?_eq_getElem oF;have:=PM h hx hz;have e:k / sz*sz+k % sz=k:=by rw[Nat.mul_comm];exact Nat.div_add_mod k sz
 rw[e,hk]at this;exact⟨_,hx,by rw[hz];exact this.symm⟩
theorem rf{α:Type}{l l':List α}{k:Nat}{d:α}(h:k<l.length):(l++l').getD k d=l.getD k d:=by
 simp[List.getD,List.getElem?_append_left h]
theorem nD{α:Type}{l l':List α}{k:Nat}{d:α}(h:l.length<=k):(l++l').getD k d=l'.getD (k-l.length) d:=by
 simp[List.getD,List.getElem?_append_right h]
section
variable {H:Type} {enc:TypeId × Value->H} {P:Program} {w:World} {base:Nat} {sp:Nat->Bool} {held:Bool}
abbrev Old(w:World)(b:Nat):Prop:=b<w.heap.size
def Fits(w:World)(as':List A)(cs:List Value):Prop:=as'.length=cs.length/\∀(k:Nat)(y:A),as'[k]? = some y->y.one=true/\Rel w (Old w) ai y (cs.getD k undef)
theorem Fits.one{x:A}{v:Value}(h:x.one=true)(hr:Rel w (Old w) ai x v):Fits w [x] [v]:=⟨rfl,fun k y hk=>by
 cases k with
 |zero=>cases hk;exact⟨h,hr⟩
 |succ k=>simp at hk⟩
theorem Fits.append{as' bs:List A}{cs ds:List Value}(h:Fits w as' cs)(h':Fits w bs ds):Fits w (as'++bs) (cs++ds):=⟨by simp[h.1,h'.1],fun k y hk=>by
 rw[List.getElem?_append]at hk;split at hk
 ·rename_i hl;have:=h.2 k y hk
  rwa [rf (by rw[<-h.1];exact hl)]
 ·rename_i hl;have:=h'.2 _ y hk;rw[nD (by rw[<-h.1];omega),<-h.1];exact this⟩
theorem Y4{n:Nat}{cs:List Value}(ih:∀(t:TypeId)(cs:List Value) x,DataW.trod enc P w base sp held n t cs=some x->P.cellsOf t=cs.length->(∀m,m∈DataW.weights P t x.1->m<=reachBytes)->∀S,Qh P S=true->t∈S->∃as',Has P n t as'/\Fits w as' cs){S:List TypeId}(hS:Qh P S=true) :
  ∀(fs:List Field)(off tot:Nat) xs,(∀m,m∈DataW.weightsEach P (fs.map Field.type) (xs.map (·.1))->m<=reachBytes)->(∀f,f∈fs->f.type∈S)->qa P off fs=some tot->tot=cs.length->(fs.mapM fun f=>DataW.trod enc P w base sp held n f.type ((cs.drop f.offset).take (P.cellsOf f.type)))=some xs ->
   ∃as',u9 (Has P n) fs as'/\Fits w as' (cs.drop off)/\off<=tot
 |[],off,tot,xs,_,_,ht,hn,_=>by
  cases ht;refine⟨[],rfl,⟨?_,fun k y hk=>by simp at hk⟩,Cq _⟩;simp[hn]
 |f::fs,off,tot,xs,hw,hf,ht,hn,hm=>by
  unfold qa at ht;split at ht
  ·rename_i ho;rw[List.mapM_cons]at hm;simp only[Option.bind_eq_bind,Option.bind_eq_some_iff]at hm;obtain⟨x,hx,xs',hxs,hq⟩:=hm;cases hq;simp only[List.map_cons,DataW.weightsEach,List.mem_append]at hw;obtain⟨bs,hb1,hb2,hb3⟩:=Y4 ih hS fs (off+P.cellsOf f.type) tot xs' (fun m hm=>hw m (.inr hm)) (fun g hg=>hf g (by simp[hg])) ht hn hxs;rw[ho]at hx;obtain⟨as',ha1,ha2⟩:=ih f.type _ x hx (by simp;omega) (fun m hm=>hw m (.inl hm)) S hS (hf f iS);refine⟨as'++bs,⟨as',bs,rfl,ha1,hb1⟩,?_,oF⟩;have e:cs.drop off=(cs.drop off).take (P.cellsOf f.type)++cs.drop (off+P.cellsOf f.type):=by
    rw[<-List.drop_drop,List.take_append_drop]
   rw[e];exact ha2.append hb2
  ·cases ht
theorem RY{e:TypeId}{d:DataW H}{m:Nat}(h:m∈DataW.weights P e d):∀{l:List (DataW H)},d∈l->m∈DataW.weightsAll P e l
 |x::l,hd=>by
  simp only[DataW.weightsAll,List.mem_append];rcases List.mem_cons.1 hd with rfl|hd
  ·exact .inl h
  ·exact .inr (RY h hd)
theorem Hw:∀(n:Nat)(t:TypeId)(cs:List Value)(x:DataW H × List MemPlace),DataW.trod enc P w base sp held n t cs=some x->P.cellsOf t=cs.length->(∀m,m∈DataW.weights P t x.1->m<=reachBytes)->∀S,Qh P S=true->t∈S->∃as',Has P n t as'/\Fits w as' cs
 |0,t,cs,x,h,_,_,_,_,_=>by simp[DataW.trod]at h
 |n+1,t,cs,x,h,hlen,hwt,S,hS,ht=>by
  have hT:=hS;unfold Qh at hT;rw[List.all_eq_true]at hT;have hT:=hT t ht;have ih:=Hw n;unfold DataW.trod at h;split at h
  ·rename_i b hu;exact⟨[.v (.bool b)],by unfold Has;rw[hu];exact⟨b,rfl⟩,Fits.one rfl (.v _ _)⟩
  ·rename_i k k' m hu;split at h
   ·rename_i hk;obtain⟨rfl,hw⟩:=hk;exact⟨[.v (.int k' m)],by unfold Has;rw[hu];exact⟨m,hw,rfl⟩,Fits.one rfl (.v _ _)⟩
   ·cases h
  ·rename_i hu;rw[hu]at hT;cases hT
  ·rename_i s hu;split at h
   ·rename_i hs;cases h;have hz:s.size<=reachBytes:=by
     have:=hwt s.data.toList.length (by simp[DataW.weights]);simpa using this
    exact⟨[.v (.string s)],by unfold Has;rw[hu];exact⟨s,hs,hz,rfl⟩,Fits.one rfl (.v _ _)⟩
   ·cases h
  ·rename_i hu;rw[hu]at hT;cases hT
  ·rename_i hu;rw[hu]at hT;cases hT
  ·rename_i e hu;exact⟨[.sl true []],by unfold Has;rw[hu];exact⟨true,[],rfl,iS,iS,fun _=>rfl,fun x hx=>by simp at hx⟩,Fits.one rfl (.slN _ _ _ _ (fun _=>rfl))⟩
  ·rename_i e a len cap hu;rw[hu]at hT;simp only[Bool.and_eq_true,decide_eq_true_eq,beq_iff_eq]at hT;obtain⟨_,hpos,heS⟩:=hT;have heS:e∈S:=by simpa using heS
   split at h
   ·rename_i hb;obtain⟨hb0,hb1,hb2⟩:=hb;simp only[Option.bind_eq_some_iff]at h;obtain⟨elems,he,h⟩:=h;simp only[Option.map_eq_some_iff]at h;obtain⟨rest,_,rfl⟩:=h;simp only[DataW.weights,hu]at hwt;obtain⟨he1,he2⟩:=Yx he;have each:∀i,i<len->∃as':List A,Has P n e as'/\∃cs,w.cells? base (a.add (i*P.cellsOf e)) (P.cellsOf e)=some cs/\Fits w as' cs:=fun i hi=>by
     obtain⟨y,hy,hg⟩:=he2 i i (by simp[hi]);simp only[Option.bind_eq_some_iff]at hy;obtain⟨cs,hc1,hc2⟩:=hy;obtain⟨as',h1,h2⟩:=ih e cs y hc2 (cells?_get hc1).1.symm (fun m hm=>hwt m (List.mem_cons_of_mem _ (List.mem_append_left _ (RY hm (List.mem_map.2 ⟨y,List.mem_of_getElem? hg,rfl⟩))))) S hS heS;exact⟨as',h1,cs,hc1,h2⟩
    obtain⟨l,hl1,hl2⟩:=qV each;have hxs:(l.map (mk P e)).length=len:=by simpa using hl1
    refine⟨[.sl false (l.map (mk P e))],by
     unfold Has;rw[hu];refine⟨false,_,rfl,by rw[hxs];omega,by
      have:=hwt _ List.mem_cons_self;rw[hxs];refine Nat.le_trans (Nat.mul_le_mul_right _ ?_) this;simp at he1 ⊢;omega,(fun h=>nomatch h),fun x hx=>?_⟩
     obtain⟨b,hb,rfl⟩:=List.mem_map.1 hx;obtain⟨i,hi⟩:=List.getElem?_of_mem hb;exact⟨b,(hl2 i b hi).1,rfl⟩,Fits.one rfl ?_⟩
    by_cases h0:len=0
    ·subst h0;have:l=[]:=List.length_eq_zero_iff.1 hl1;subst this;exact .slN _ _ _ _ (fun h=>by cases h)
    ·have hlen2:∀x,x∈l.map (mk P e)->x.cells.length=P.cellsOf e:=fun x hx=>by
      obtain⟨b,hb,rfl⟩:=List.mem_map.1 hx;obtain⟨i,hi⟩:=List.getElem?_of_mem hb;obtain⟨k1,cs,k2,k3⟩:=hl2 i b hi;rw[LC k1,k3.1,(cells?_get k2).1]
     have hspot:a.spot=none/\a.block<w.heap.size:=by
      obtain⟨b,hb⟩:∃b,l[0]? = some b:=⟨_,List.getElem?_eq_getElem oF⟩;obtain⟨_,cs,k2,_⟩:=hl2 0 b hb;have:=(cells?_get k2).2 0 hpos;simp only[Nat.zero_mul,Addr.add,if_true,World.cell?]at this;split at this
      ·rename_i hh;split at this
       ·cases this
       ·rename_i hsp;exact⟨by simpa using hsp,(Array.getElem?_eq_some_iff.1 hh).1⟩
      ·cases this
     obtain⟨b,off,sp'⟩:=a;obtain⟨hsp,hbl⟩:=hspot;simp only at hsp hbl;subst hsp;have main:∀(k:Nat)(y:A),((l.map (mk P e)).flatMap A.cells)[k]? = some y->y.one=true/\w.cell? ⟨b,off+k,none⟩=some ((w.cell? ⟨b,off+k,none⟩).getD undef)/\Rel w (Old w) ai y ((w.cell? ⟨b,off+k,none⟩).getD undef):=fun k y hk=>by
      obtain⟨x,hx,hy⟩:=yQ hpos hlen2 hk;rw[List.getElem?_map]at hx;simp only[Option.map_eq_some_iff]at hx;obtain⟨as',ha,rfl⟩:=hx;obtain⟨k1,cs,k2,k3⟩:=hl2 _ as' ha;rw[LC k1]at hy;have hj:k % P.cellsOf e<P.cellsOf e:=Nat.mod_lt _ hpos;have hc:=(cells?_get k2).2 _ hj;have ea:((⟨b,off,none⟩:Addr).add (k / P.cellsOf e*P.cellsOf e)).add (k % P.cellsOf e)=⟨b,off+k,none⟩:=by
       have:=Nat.div_add_mod k (P.cellsOf e);rw[Nat.mul_comm]at this;unfold Addr.add;split<;>split<;>simp<;>omega
      rw[ea]at hc;obtain⟨k4,k5⟩:=k3.2 _ y hy;exact⟨k4,by rw[hc];rfl,by rw[hc];exact k5⟩
     exact .sl _ false b off len cap (P.cellsOf e) _ (fun k=>(w.cell? ⟨b,off+k,none⟩).getD undef) hbl hxs.symm oF (fun h=>by cases h) hlen2 (fun k y hk=>(main k y hk).1) (fun k y hk=>(main k y hk).2.1) (fun k y hk=>(main k y hk).2.2)
   ·cases h
  ·rename_i fs hu;rw[hu]at hT;simp only[Bool.and_eq_true,beq_iff_eq,List.all_eq_true]at hT;split at h
   ·simp only[Option.map_eq_some_iff]at h;obtain⟨xs,hx,rfl⟩:=h;simp only[DataW.weights,hu]at hwt;obtain⟨as',h1,h2,_⟩:=Y4 (fun t cs x h hl hw S hS ht=>ih t cs x h hl hw S hS ht) hS fs.toList 0 _ xs hwt (fun f hf=>by simpa using hT.2 f hf) hT.1 hlen hx;exact⟨as',by unfold Has;rw[hu];exact h1,by simpa using h2⟩
   ·cases h
  all_goals first|(rename_i hu;rw[hu]at hT;cases hT;done)|cases h
end
def ArgsHas(P:Program):List TypeId->List A->Prop
 |[],[]=>True
 |t::ts,a::as'=>(∃n b,Has P n t b/\a=mk P t b)/\ArgsHas P ts as'
 |_,_=>False
section
open Go.ChangeShapes Go.WideShapes
variable {H:Type} {enc:TypeId × Value->H} {P:Program} {w:World} {base:Nat} {sp:Nat->Bool} {held:Bool}
theorem ju{S:List TypeId}(hS:Qh P S=true){t:TypeId}(ht:t∈S){v:Value}{d:DataW H}{p:List MemPlace}{base':Nat}(hwt:∀m,m∈DataW.weights P t d->m<=reachBytes)(h:DataW.Trod enc P w base sp held t v d p)(hv:Value.okWide P w .any base' t v) :
  ∃n b,Has P n t b/\Rel w (Old w) ai (mk P t b) v:=by
 obtain⟨n,hn⟩:=h;have hT:=hS;unfold Qh at hT;rw[List.all_eq_true]at hT;have hT:=hT t ht;have one:∀{b:List A},Has P n t b->(mk P t b).cells=[mk P t b]->v.cells.toList=[v]->Fits w b v.cells.toList->Rel w (Old w) ai (mk P t b) v:=fun {b} hb h1 h2 h3=>by
  have h4:=LC hb;rw[h1]at h4;have e:b[0]? = some (mk P t b):=by
   have:[mk P t b][0]? = some (mk P t b):=rfl
   rwa [h4]at this
  have:=(h3.2 0 (mk P t b) e).2;rw[h2]at this;exact this
 cases hu:P.underlying t with
 |none=>rw[hu]at hT;cases hT
 |some ty=>
  rw[hu]at hT;cases ty with
  |struct fs=>
   simp only[Bool.and_eq_true,beq_iff_eq]at hT;obtain⟨cs,rfl,hsz⟩:=okWide_struct hu hv;obtain⟨b,hb,hf⟩:=Hw n t _ _ hn (by show P.cellsOf t=cs.toList.length;simp[hsz]) hwt S hS ht;refine⟨n,b,hb,?_⟩;have:mk P t b=.agg b:=by unfold mk;rw[hu]
   rw[this];refine .agg _ _ _ ?_ fun k y hk=>?_
   ·have:=hf.1;simpa[Value.cells]using this.symm
   ·have:=(hf.2 k y hk).2;simpa[Value.cells,List.getD,Array.getD_eq_getD_getElem?]using this
  |bool=>
   obtain⟨q,rfl⟩:=okWide_bool hu hv;simp only[beq_iff_eq]at hT;obtain⟨b,hb,hf⟩:=Hw n t _ _ hn (by rw[hT];rfl) hwt S hS ht;refine⟨n,b,hb,one hb ?_ rfl hf⟩;obtain⟨y,rfl⟩:∃y,b=[y]:=List.length_eq_one_iff.1 (by have:=hf.1;simpa[Value.cells]using this);unfold mk;rw[hu];have:=LC hb;unfold mk at this;rw[hu]at this;exact this
  |int k=>
   obtain⟨q,rfl⟩:=okWide_int hu hv;simp only[beq_iff_eq]at hT;obtain⟨b,hb,hf⟩:=Hw n t _ _ hn (by rw[hT];rfl) hwt S hS ht;refine⟨n,b,hb,one hb ?_ rfl hf⟩;obtain⟨y,rfl⟩:∃y,b=[y]:=List.length_eq_one_iff.1 (by have:=hf.1;simpa[Value.cells]using this);unfold mk;rw[hu];have:=LC hb;unfold mk at this;rw[hu]at this;exact this
  |string=>
   obtain⟨q,rfl⟩:=okWide_string hu hv;simp only[beq_iff_eq]at hT;obtain⟨b,hb,hf⟩:=Hw n t _ _ hn (by rw[hT];rfl) hwt S hS ht;refine⟨n,b,hb,one hb ?_ rfl hf⟩;obtain⟨y,rfl⟩:∃y,b=[y]:=List.length_eq_one_iff.1 (by have:=hf.1;simpa[Value.cells]using this);unfold mk;rw[hu];have:=LC hb;unfold mk at this;rw[hu]at this;exact this
  |slice e=>
   obtain⟨a,l,c,rfl⟩:=okWide_slice hu hv;simp only[Bool.and_eq_true,beq_iff_eq]at hT;obtain⟨b,hb,hf⟩:=Hw n t _ _ hn (by rw[hT.1];rfl) hwt S hS ht;refine⟨n,b,hb,one hb ?_ rfl hf⟩;obtain⟨y,rfl⟩:∃y,b=[y]:=List.length_eq_one_iff.1 (by have:=hf.1;simpa[Value.cells]using this);unfold mk;rw[hu];have:=LC hb;unfold mk at this;rw[hu]at this;exact this
  |_=>simp at hT
theorem UQ{S:List TypeId}(hS:Qh P S=true){base':Nat}:∀{ts:List TypeId} {vs:List Value} {ds:List (DataW H)} {ps:List MemPlace},(∀t,t∈ts->t∈S)->(∀m,m∈DataW.weightsEach P ts ds->m<=reachBytes)->DataW.TrodAll enc P w base sp held ts vs ds ps ->
  (∀(j:Nat) t v,ts[j]? = some t->vs[j]? = some v->Value.okWide P w .any base' t v)->∃as',as'.length=vs.length/\ArgsHas P ts as'/\∀(k:Nat)(y:A),as'[k]? = some y->Rel w (Old w) ai y (vs.getD k undef)
 |[],_,_,_,_,_,h,_=>by
  obtain⟨rfl,rfl,rfl⟩:=trodAll_nil h;exact⟨[],rfl,trivial,fun k y hk=>by simp at hk⟩
 |t::ts,_,_,_,hts,hwt,h,hv=>by
  obtain⟨v,vs,d,ds,p,q,rfl,rfl,rfl,h1,h2⟩:=trodAll_cons h;simp only[DataW.weightsEach,List.mem_append]at hwt;obtain⟨n,b,hb,hr⟩:=ju hS (hts t iS) (fun m hm=>hwt m (.inl hm)) h1 (hv 0 t v rfl rfl);obtain⟨as',k1,k2,k3⟩:=UQ hS (fun u hu=>hts u (by simp[hu])) (fun m hm=>hwt m (.inr hm)) h2 (fun j u x hj hx=>hv (j+1) u x (by simpa using hj) (by simpa using hx));refine⟨mk P t b::as',by simp[k1],⟨⟨n,b,hb,rfl⟩,k2⟩,fun k y hk=>?_⟩;cases k with
  |zero=>cases hk;exact hr
  |succ k=>exact k3 k y (by simpa using hk)
end
@[simp]theorem AcA{k k':IntKind}{x y:Int}:Ic true [.v (.int k x),.v (.int k' y)]=some (.v (.int k (max x y))):=by
 simp only[Ic,if_true];congr 3;split<;>omega
@[simp]theorem Ab3{k k':IntKind}{x y:Int}:Ic false [.v (.int k x),.v (.int k' y)]=some (.v (.int k (min x y))):=by
 simp only[Ic,Bool.false_eq_true,if_false];congr 3;split<;>omega
def ov(r:Nat)(F:Nm->VOb)(H:Hp):Hp
 |j::p=>if j=r then F p else H (j::p)
 |[]=>H []
@[simp]theorem A6{r j:Nat}{p:Nm}{F:Nm->VOb}{H:Hp}:ov r F H (j::p)=if j=r then F p else H (j::p):=rfl
@[simp]theorem Amu{r:Nat}{F:Nm->VOb}{H:Hp}:ov r F H []=H []:=rfl
@[simp]theorem AkT{r j:Nat}{p:Nm}{F:Nm->VOb}{H:Hp}{x:VOb}:Ar (ov r F H) (j::p) x=if j=r then ov r (Ar F p x) H else ov r F (Ar H (j::p) x):=by
 funext o;cases o with
 |nil=>
  by_cases h:j=r
  ·rw[if_pos h];simp[Ar]
  ·rw[if_neg h];simp[Ar]
 |cons k q=>
  by_cases h:j=r
  ·subst h;rw[if_pos rfl];by_cases hk:k=j
   ·subst hk;simp[Ar]
   ·have:¬k::q=j::p:=fun e=>hk (by injection e);simp[Ar,hk,this]
  ·rw[if_neg h];by_cases hk:k=r
   ·subst hk;have:¬k::q=j::p:=fun e=>h (by injection e with e _;exact e.symm);simp[Ar,this]
   ·simp[Ar,hk]
theorem Aa{α:Type}{F:Nm->α}{d o:Nm}{x:α}:Ar F d x o=if o=d then x else F o:=rfl
def Ni(rs:List Nat)(m:Nat)(H:Hp):Hp
 |i::p=>if i<m then (H (rs.getD i 0::p)).ren (Vh rs) (fun _=>0) 0 else ⟨0,.none⟩
 |[]=>⟨0,.none⟩
def NU(rs:List Nat)(δ:Nm->Nat)(B Hr:Hp):Hp
 |j::p=>if rs.contains j=true then (Hr (rs.idxOf j::p)).ren (Q0 rs) δ (δ (rs.idxOf j::p))else B (j::p)
 |[]=>B []
theorem Yq{rs:List Nat}{m:Nat}{H Hr:Hp}:(Eff.fn rs (Js rs m H Hr)).app H=NU rs (Pd rs m H) H Hr:=by
 funext o;cases o<;>rfl
theorem Spec.toB{P:Program}{f:FuncId}{args:List A}{r:A}(h:Spec P f args r)(hr:r.flat=true):SpecB P f args r:=
 ⟨h.1,fun w I J vs hI hJ ht hl ha=>(h.2 w (fun b=>I b\/J b) vs (fun b hb=>hb.elim (hI b) (hJ b)) (ht.mono (fun _ h=>.inl h) (fun _ _=>rfl)) hl ha).mono fun e w' ⟨v,he,hB,hr'⟩=>⟨v,he,hB,hr'.of_flat hr⟩⟩
def XJ(rs:List Nat)(m:Nat)(H:Hp):Prop:=∀(j:Nat)(p:Nm),rs.idxOf j<m->(H (j::p)).ob.refs (RH rs m)
theorem X4{P:Program}{K:Sta->Prop}{rest:List CO}{s:Nat->A}{H:Hp}{dd:Option Nat}{nm:Nm}{ix:Nat}{un:List Nat}{l:Bool}{lg:Lg}{g:FuncId}{as':Array Operand}{ts:Array TypeId}
  (rs:List Nat) (m:Nat) {args:List A} {Hc Hr H':Hp} {r x:A} (hS:SpecH P g rs.length args Hc r Hr) (hnd:rs.Nodup) (hm:m<=rs.length)
  (ha:A.renL (Vh rs) (fun _=>0) (as'.toList.map (evs s))=args) (har:A.refsL (RH rs m) (as'.toList.map (evs s))) (hH:Ni rs m H=Hc) (hcl:XJ rs m H)
  (hr:r.refs (HG rs.length)) (ho:∀(i:Nat)(p:Nm),i<rs.length->(Hr (i::p)).ob.refs (HG rs.length)) (hv:∀(i:Nat)(p:Nm),m<=i->i<rs.length->(Hr (i::p)).ob=.none\/1<=(Hr (i::p)).u)
  (hx:r.ren (Q0 rs) (Pd rs m H)=x) (hH':NU rs (Pd rs m H) H Hr=H') (hck:Ck un lg ⟨[],rs.map fun r=>([r],true)⟩)
  (h:AE P K rest (Cc l ix ⟨[],rs.map fun r=>([r],true)⟩ lg) (Sta.put ⟨s,H⟩ dd x H')) :
  AE P K (⟨dd,.call { callee:=.value (.func g),args:=as',argTypes:=ts },none,nm,ix,un,l⟩::rest) lg ⟨s,H⟩:=by
 have hit_in:∀{j:Nat} {p:Nm},j∈rs->Ym (rs.map fun r=>([r],true)) (j::p)=true:=fun {j p} hj=>by
  simp only[Ym,List.any_map,List.any_eq_true];exact⟨j,hj,by simp[TT,List.isPrefixOf]⟩
 have hnil:(Eff.fn rs (Js rs m H Hr)).app H=H':=by rw[Yq];exact hH'
 subst hx;rw[<-hnil]at h;refine gZ (Eff.fn rs (Js rs m H Hr)) [] (rs.map fun r=>([r],true)) (fun H2 hag=>?_) (fun o H2 ho'=>?_) hck h
 ·have ag:∀{j:Nat} {p:Nm},j∈rs->H2 (j::p)=H (j::p):=fun {j p} hj=>hag _ (by simpa using hit_in hj);have agi:∀{i:Nat} {p:Nm},i<rs.length->H2 (rs.getD i 0::p)=H (rs.getD i 0::p):=fun {i p} hi=>ag (by simp[List.getD,hi]);have hd:Pd rs m H2=Pd rs m H:=by
   funext o;cases o with
   |nil=>rfl
   |cons i p=>
    simp only[Pd];by_cases hi:i<rs.length
    ·rw[agi hi]
    ·rw[if_neg hi,if_neg hi]
  have hoH:Js rs m H2 Hr=Js rs m H Hr:=by
   funext o;cases o with
   |nil=>rfl
   |cons j p=>simp only[Js,hd]
  subst ha;have:=VM (P:=P) (f:=g) (rs:=rs) (m:=m) (args:=as'.toList.map (evs s)) (Hc:=Hc) (Hr:=Hr) (r:=r) (H:=H2) hnd hm hS
   (fun i p hi=>by rw[<-hH,agi oF];simp only[Ni,if_pos hi]) (fun i p hi=>by rw[<-hH];simp only[Ni];rw[if_neg oF]) (by rw[<-hH];rfl) har
   (fun i p hi=>by rw[agi oF];exact hcl _ _ (by rw[NT hnd oF];exact hi)) hr ho hv
  rwa [hd,hoH]at this
 ·cases o with
  |nil=>rfl
  |cons j p=>
   have:¬j∈rs:=fun hj=>by rw[hit_in hj]at ho';cases ho'
   simp[Eff.app,this]
end Go.G
namespace Go.PL
theorem XX{w:List Int}{n:Nat}(h:n<w.length)(h0:w[n]=0):DV (w.take (n+1))=DV (w.take n):=by
 rw[HJ h,SN,if_pos h0]
theorem Zm{w:List Int}{n:Nat}(h:n<w.length)(h0:w[n]≠0):DV (w.take (n+1))=w.take (n+1):=by
 rw[HJ h,SN,if_neg h0]
theorem YW{w:List T}{n:Nat}(h:n<w.length)(h0:w[n].kind=0):Dl (w.take (n+1))=Dl (w.take n):=by
 rw[HJ h,L3,if_pos h0]
theorem Yl{w:List T}{n:Nat}(h:n<w.length)(h0:w[n].kind≠0):Dl (w.take (n+1))=w.take (n+1):=by
 rw[HJ h,L3,if_neg h0]
theorem aL(l:List T):(Dl (l.map Ag)).length=(Dl l).length:=by
 induction l using fe with
 |h0=>rfl
 |h1 l x ih=>
  rw[List.map_append,List.map_cons,List.map_nil,L3,L3,C8];split
  ·exact ih
  ·simp
theorem bV(l:List T):Dl (l.map Ag)=(l.map Ag).take (Dl l).length:=by
 rw[<-aL];exact K6 _
theorem T.ext'{t u:T}(h1:t.kind=u.kind)(h2:t.words=u.words)(h3:t.kids=u.kids):t=u:=by
 cases t;cases u;simp at h1 h2 h3;rw[h1,h2,h3]
noncomputable def Fs(t u:T):Bool:=by classical exact decide (t=u)
theorem sameB_iff{t u:T}:Fs t u=true↔t=u:=by simp[Fs]
noncomputable def JE(t u:T):Bool:=Fs (Ag t) (Ag u)
theorem eqT_iff{t u:T}:JE t u=true↔Ag t=Ag u:=sameB_iff
end Go.PL
namespace Go.Proofs.YtlaapfplenlfaaaGreat
open Go Go.G Go.Proofs Go.PL
theorem Bx{P:Program}{K:Sta->Prop}{rest:List CO}{s:Nat->A}{H:Hp}{dd:Option Nat}{k:Nat}{f:Bool}{nm:Nm}{ix:Nat}{un:List Nat}{l:Bool}{lg:Lg}{g:FuncId}{aa:Array Operand}{ts:Array TypeId}
  (hq:HN (s k) f=some false) (h:AE P K rest (Cc l ix ⟨[],[]⟩ lg) (Sta.put ⟨s,H⟩ dd (.v undef) H)) :
  AE P K (⟨dd,.call { callee:=.value (.func g),args:=aa,argTypes:=ts },some (k,f),nm,ix,un,l⟩::rest) lg ⟨s,H⟩:=
 VI (q:=false) (x:=.any) hq (fun e=>by cases e) h
abbrev C7(l:List Int):A:=.sl false (l.map uv)
abbrev CN(l:List Int):A:=.sl false (l.map iv)
abbrev u8(n:Int):A:=.v (.int .u8 n)
mutual
def tC:T->List A
 |.mk k w l=>[iv k,C7 w,.sl false (tCs l)]
def tCs:List T->List A
 |[]=>[]
 |t::l=>.agg (tC t)::tCs l
end
def tA(t:T):A:=.agg (tC t)
abbrev AV(l:List T):A:=.sl false (l.map tA)
abbrev tX(t:T):A:=.agg [iv t.kind,C7 t.words,AV t.kids]
theorem pL:∀l,tCs l=l.map tA
 |[]=>by rw[tCs];rfl
 |t::l=>by rw[tCs,pL l];rfl
theorem AhB(t:T):tC t=[iv t.kind,C7 t.words,AV t.kids]:=by cases t;rw[tC,pL];rfl
@[simp]theorem tA_eq(t:T):tA t=tX t:=by rw[tA,AhB]
def wA(w:WE):A:=.agg [iv w.at_,u8 w.mask,uv w.old,uv w.new]
abbrev wX(w:WE):A:=.agg [iv w.at_,u8 w.mask,uv w.old,uv w.new]
@[simp]theorem wA_eq(w:WE):wA w=wX w:=rfl
abbrev QX(l:List WE):A:=.sl false (l.map wA)
mutual
def eC:E->List A
 |.mk k o n w ks l os=>[iv k,iv o.kind,C7 o.words,AV o.kids,iv n.kind,C7 n.words,AV n.kids,QX w,.sl false (eKs ks),iv l,.sl false (eOs os)]
def eKs:List KE->List A
 |[]=>[]
 |.mk a e::l=>.agg (iv a::eC e)::eKs l
def eOs:List OP->List A
 |[]=>[]
 |.mk k n t e::l=>.agg (iv k::iv n::AV t::eC e)::eOs l
end
def kA(x:KE):A:=.agg (iv x.at_::eC x.e)
def oA(x:OP):A:=.agg (iv x.kind::iv x.n::AV x.l::eC x.e)
abbrev Ry(l:List KE):A:=.sl false (l.map kA)
abbrev HQ(l:List OP):A:=.sl false (l.map oA)
abbrev eL(e:E):List A:=[iv e.kind,iv e.old.kind,C7 e.old.words,AV e.old.kids,iv e.new.kind,C7 e.new.words,AV e.new.kids,QX e.words,Ry e.kids,iv e.list,HQ e.ops]
abbrev eX(e:E):A:=.agg (eL e)
abbrev kX(x:KE):A:=.agg (iv x.at_::eL x.e)
abbrev oX(x:OP):A:=.agg (iv x.kind::iv x.n::AV x.l::eL x.e)
theorem o9:∀l,eKs l=l.map kA
 |[]=>by rw[eKs];rfl
 |.mk a e::l=>by rw[eKs,o9 l];rfl
theorem qw:∀l,eOs l=l.map oA
 |[]=>by rw[eOs];rfl
 |.mk k n t e::l=>by rw[eOs,qw l];rfl
theorem Aci(e:E):eC e=eL e:=by cases e;rw[eC,o9,qw];rfl
@[simp]theorem kA_eq(x:KE):kA x=kX x:=by rw[kA,Aci]
@[simp]theorem oA_eq(x:OP):oA x=oX x:=by rw[oA,Aci]
@[simp]theorem Ak3(l:List Int):E8 1 (l.map iv)=true:=by simp[E8]
@[simp]theorem AkQ(l:List T):E8 3 (l.map tA)=true:=by simp[E8]
@[simp]theorem Akk(l:List WE):E8 4 (l.map wA)=true:=by simp[E8]
@[simp]theorem AkH(l:List KE):E8 12 (l.map kA)=true:=by simp[E8]
@[simp]theorem Aj7(l:List OP):E8 14 (l.map oA)=true:=by simp[E8]
theorem Jb{n:Nat}{l:List A}:E8 n l=true↔∀x,x∈l->x.cells.length=n:=by simp[E8]
@[simp]theorem Agm{n k:Nat}{l:List A}(h:E8 n l=true):E8 n (l.take k)=true:=by
 rw[Jb]at h ⊢;exact fun x hx=>h x (O4 hx)
theorem AQ{α:Type}{H:Hp}{o:Nm}{u n sz:Nat}{l:List α}{f:α->A}(h:vr (H o) u=some (sz,l.map f))(hn:n=l.length)(hf:∀x,((f x).cells.length == sz&&(f x).cells.all fun y=>A.bare1 y&&y.one)=true):Iz H (.osl o u sz 0 n) (.sl false (l.map f)):=by
 subst hn;have:=pk (H:=H) (o:=o) (u:=u) (off:=0) (len:=l.length) (sz:=sz) (xs:=l.map f) (by simpa using h) iS (by
  simp only[List.drop_zero];rw[Ax iS,List.all_map,List.all_eq_true];exact fun x _=>hf x)
 simp[Ax]at this;exact this
theorem Zq{α:Type}{H:Hp}{o:Nm}{u n sz:Nat}{l:List α}{f:α->A}(h:vr (H o) u=some (sz,l.map f))(hn:n<=l.length)(hf:∀x,((f x).cells.length == sz&&(f x).cells.all fun y=>A.bare1 y&&y.one)=true):Iz H (.osl o u sz 0 n) (.sl false ((l.take n).map f)):=by
 have:=pk (H:=H) (o:=o) (u:=u) (off:=0) (len:=n) (sz:=sz) (xs:=l.map f) (by simpa using h) (by simpa using hn) (by
  simp only[List.drop_zero];rw[<-List.map_take,List.all_map,List.all_eq_true];exact fun x _=>hf x)
 simpa using this
theorem i6{α:Type}{f:α->A}{l:List α}{i:Nat}(h:i<l.length){x:A}(hx:f l[i]=x):List.take i (List.take i (l.map f))++[x]=(l.take (i+1)).map f:=by
 rw[List.take_take,Nat.min_self,HJ h,List.map_append,List.map_take,<-hx];rfl
theorem uS{H:Hp}:Iz H (.agg [iv 0,.sl true [],.sl true []]) (tX T0):=Bb (by simp;exact⟨Ad rfl,Ai,Ai⟩)
def B6(n:Int):Prop:=-9223372036854775808<=n/\n<9223372036854775808
def Ba(n:Int):Prop:=0<=n/\n<18446744073709551616
mutual
def Ay:T->Prop
 |.mk k w l=>B6 k/\(∀x,x∈w->Ba x)/\w.length*8<=140737488355328/\l.length*56<=140737488355328/\sC l
def sC:List T->Prop
 |[]=>True
 |t::l=>Ay t/\sC l
end
theorem YL:∀{l:List T},sC l↔∀t,t∈l->Ay t
 |[]=>by simp[sC]
 |t::l=>by simp[sC,YL (l:=l)]
structure WfT(t:T):Prop where
 k:B6 t.kind
 w:∀x,x∈t.words->Ba x
 wl:t.words.length*8<=140737488355328
 kl:t.kids.length*56<=140737488355328
 ks:∀x,x∈t.kids->Ay x
theorem wfT_iff{t:T}:Ay t↔WfT t:=by
 cases t;rw[Ay,YL];exact⟨fun ⟨a,b,c,d,e⟩=>⟨a,b,c,d,e⟩,fun ⟨a,b,c,d,e⟩=>⟨a,b,c,d,e⟩⟩
def WE.wf(w:WE):Prop:=B6 w.at_/\(0<=w.mask/\w.mask<256)/\Ba w.old/\Ba w.new
mutual
def Qz:E->Prop
 |.mk k o n w ks l os=>(B6 k/\B6 l/\Ay o/\Ay n/\(∀x,x∈w->WE.wf x)/\w.length*32<=140737488355328/\ks.length*208<=140737488355328/\os.length*240<=140737488355328)/\xM ks/\vN os
def xM:List KE->Prop
 |[]=>True
 |.mk a e::l=>(B6 a/\Qz e)/\xM l
def vN:List OP->Prop
 |[]=>True
 |.mk k n t e::l=>(B6 k/\B6 n/\sC t/\t.length*56<=140737488355328/\Qz e)/\vN l
end
structure WfO(x:OP):Prop where
 k:B6 x.kind
 n:B6 x.n
 l:∀t,t∈x.l->Ay t
 ll:x.l.length*56<=140737488355328
 e:Qz x.e
theorem jX:∀{l:List KE},xM l↔∀x,x∈l->B6 x.at_/\Qz x.e
 |[]=>by simp[xM]
 |.mk a e::l=>by simp[xM,jX (l:=l)]
theorem kZ:∀{l:List OP},vN l↔∀x,x∈l->WfO x
 |[]=>by simp[vN]
 |.mk k n t e::l=>by
  simp only[vN,kZ (l:=l),YL,List.forall_mem_cons];exact⟨fun ⟨⟨a,b,c,d,e⟩,h⟩=>⟨⟨a,b,c,d,e⟩,h⟩,fun ⟨⟨a,b,c,d,e⟩,h⟩=>⟨⟨a,b,c,d,e⟩,h⟩⟩
structure WfE(e:E):Prop where
 k:B6 e.kind
 l:B6 e.list
 o:Ay e.old
 n:Ay e.new
 w:∀x,x∈e.words->WE.wf x
 wl:e.words.length*32<=140737488355328
 kl:e.kids.length*208<=140737488355328
 ol:e.ops.length*240<=140737488355328
 ks:∀x,x∈e.kids->B6 x.at_/\Qz x.e
 os:∀x,x∈e.ops->WfO x
theorem wfE_iff{e:E}:Qz e↔WfE e:=by
 cases e;rw[Qz,jX,kZ];exact⟨fun ⟨⟨a,b,c,d,e,f,g,h⟩,i,j⟩=>⟨a,b,c,d,e,f,g,h,i,j⟩,fun ⟨a,b,c,d,e,f,g,h,i,j⟩=>⟨⟨a,b,c,d,e,f,g,h⟩,i,j⟩⟩
end Go.Proofs.YtlaapfplenlfaaaGreat
