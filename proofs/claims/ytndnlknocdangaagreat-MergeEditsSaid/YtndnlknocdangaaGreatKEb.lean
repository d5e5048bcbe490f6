/-
 Texts,merged,without what is not reached.
-/
import Derived.Test.YtndnlknocdangaaGreatKEa
set_option linter.unusedSimpArgs false
set_option linter.unusedVariables false
open Go.IntKind (i64 u64)
namespace Go.G
open Go.RowKit
section
variable {P:Program} {nms:Nat→Nm} {need:Nat→Nat→Bool} {ops:Array Oper} {md:Region.Mode}
def HO (P:Program) (nms:Nat→Nm) (need:Nat→Nat→Bool) (ops:Array Oper) (i:Nat) (K:Lg→Sta→Prop) (lg:Lg) (st:Sta):Prop:=
 match ops[i]? with
 |none=>K lg st
 |some o=>∃ x E f,CG P nms ops i o st x E f∧SY need lg i f∧K ((i,f)::lg) (st.put o.dst x (E.app st.H))
def Ww (P:Program) (nms:Nat→Nm) (need:Nat→Nat→Bool) (md:Region.Mode) (ops:Array Oper) (K:Sta→Prop):Nat→Array Bool→Lg→Sta→Prop
 |0,listed,lg,st=>Region.ready md ops listed=[]∧K st
 |fuel+1,listed,lg,st=>(Region.ready md ops listed=[]→K st)∧∀ i ∈ Region.ready md ops listed,HO P nms need ops i (Ww P nms need md ops K fuel (listed.setIfInBounds i true)) lg st
theorem Wd {i:Nat} {lg:Lg} {st:Sta} {K K':Lg→Sta→Prop} (h:∀ lg st,K lg st→K' lg st) (hh:HO P nms need ops i K lg st):HO P nms need ops i K' lg st:=by
 unfold HO at *;split
 ·exact h _ _ (by simpa[*] using hh)
 ·rename_i o ho;simp only[ho] at hh;obtain⟨x,E,f,h1,h2,h3⟩:=hh;exact⟨x,E,f,h1,h2,h _ _ h3⟩
def Same (lg lg':Lg):Prop:=∀ p,p ∈ lg ↔ p ∈ lg'
theorem Same.cons {lg lg':Lg} (h:Same lg lg') (p:Nat × Ft):Same (p::lg) (p::lg'):=fun q=>by simp[h q]
theorem Ot {K:Sta→Prop}:∀ (fuel:Nat) (listed:Array Bool) {lg lg':Lg} {st:Sta},Same lg lg'→Ww P nms need md ops K fuel listed lg st→Ww P nms need md ops K fuel listed lg' st
 |0,_,_,_,_,_,h=>h
 |fuel+1,listed,lg,lg',st,hs,h=>⟨h.1,fun i hi=>by
   have h1:=h.2 i hi;unfold HO at *;split
   ·rename_i ho;simp only[ho] at h1;exact Ot fuel _ hs h1
   ·rename_i o ho;simp only[ho] at h1;obtain⟨x,E,f,h2,h3,h4⟩:=h1;exact⟨x,E,f,h2,fun p hp hn=>h3 p ((hs p).2 hp) hn,Ot fuel _ (hs.cons _) h4⟩⟩
theorem KX {c:Cx} {K:Sta→Prop} {Q:Exit→Act→World→Prop} (hd:NY c.n ops=true) (hQ:∀ st a w I μ,SR c st a w I μ→K st→Q .normal a w) :
  ∀ (fuel:Nat) (listed:Array Bool) (lg:Lg) (st:Sta) (a:Act) (w:World) (I:Nat→Prop) (μ:Mu),SR c st a w I μ→Ww c.P nms need md ops K fuel listed lg st→wpAny c.P md ops Q fuel listed a w
 |0,_,_,st,a,w,I,μ,h,hs=>⟨hs.1,hQ st a w I μ h hs.2⟩
 |fuel+1,listed,lg,st,a,w,I,μ,h,hs=>by
  refine⟨fun h0=>hQ st a w I μ h (hs.1 h0),fun i hi=>?_⟩;have h1:=hs.2 i hi;unfold HO at h1;unfold wpOp;split
  ·rename_i ho;simp only[ho] at h1;exact KX hd hQ fuel _ _ st a w I μ h h1
  ·rename_i o ho;simp only[ho] at h1;obtain⟨x,E,f,⟨q,x0,hg,h2,rfl,h3⟩,_,hk⟩:=h1;have hw:=NF h hd hg;have hdst:=Mo hd ho;cases q with
   |true=>
    rw[hw,if_pos rfl];exact .inl (P2 h hdst (h2 rfl) (fun a' w' I' μ' h'=>KX hd hQ fuel _ _ _ a' w' I' μ' h' hk))
   |false=>
    rw[hw,if_neg (by simp)];obtain⟨rfl,_,_⟩:=h3 rfl;exact KX hd hQ fuel _ _ _ _ _ I μ (Qz h hdst) hk
theorem Yl {o:Oper} {st:Sta} {dst:Option Tmp} {x:A} {H:Hp} (h:∀ d,dst=some d→d ∉ o.looksAt ops):∀ z ∈ o.op.operands,evs (st.put dst x H).s z=evs st.s z:=by
 intro z hz;cases dst with
 |none=>rfl
 |some d=>
  cases z with
  |tmp t=>
   have:t ≠ d:=fun e=>h d rfl (by subst e;exact List.mem_append_left _ (List.mem_filterMap.2 ⟨.tmp t,by simpa using hz,rfl⟩));simp[evs,Sta.put,upd,this]
  |const x=>rfl
  |global g=>rfl
  |func f=>rfl
theorem S9 {o:Oper} {st:Sta} {dst:Option Tmp} {x:A} {H:Hp} {q:Bool} (h:∀ d,dst=some d→d ∉ o.looksAt ops):LB ops (st.put dst x H) o q ↔ LB ops st o q:=by
 cases dst with
 |none=>rfl
 |some d=>
  unfold LB;cases hg:o.guard with
  |none=>rfl
  |some p=>
   obtain⟨j,f⟩:=p;constructor
   ·rintro⟨d',h1,h2⟩;have:d' ≠ d:=fun e=>h d rfl (by subst e;simp[Oper.looksAt,hg,h1]);refine⟨d',h1,?_⟩;simpa[Sta.put,upd,this] using h2
   ·rintro⟨d',h1,h2⟩;have:d' ≠ d:=fun e=>h d rfl (by subst e;simp[Oper.looksAt,hg,h1]);refine⟨d',h1,?_⟩;simpa[Sta.put,upd,this] using h2
theorem SI {i:Nat} {o:Oper} {st st':Sta} {x:A} {E:Eff} {f:Ft} (hg:∀ q,LB ops st' o q ↔ LB ops st o q) (he:∀ z ∈ o.op.operands,evs st'.s z=evs st.s z) (hH:Agree (f.R++f.W) st.H st'.H)
  (h:CG P nms ops i o st x E f):CG P nms ops i o st' x E f:=by
 obtain⟨q,x0,h1,h2,h3,h4⟩:=h;exact⟨q,x0,(hg q).2 h1,fun hq=>Y8 (fun z hz=>(he z hz).symm) (ae (h2 hq) hH),h3,h4⟩
theorem Pp {i:Nat} {o:Oper} {st:Sta} {x:A} {E:Eff} {f:Ft} (h:CG P nms ops i o st x E f):NR E f.W:=by
 obtain⟨q,x0,h1,h2,h3,h4⟩:=h;cases q with
 |true=>exact eR (h2 rfl)
 |false=>obtain⟨rfl,_,_⟩:=h4 rfl;exact E5 _
theorem Yq {st:Sta} {d:Option Tmp} {x:A} {H:Hp}:(st.put d x H).H=H:=by cases d<;>rfl
theorem cR (E:Eff) {H H':Hp} {o:Nm} (h:H o=H' o):E.app H o=E.app H' o:=by
 cases E with
 |nil=>exact h
 |one d x=>simp only[Ll,Ay];rw[h]
 |fn rs F=>
  simp only[Eff.app];cases o with
  |nil=>exact h
  |cons r p=>simp only;rw[h]
theorem dQ {E1 E2:Eff} {f g:Ft} (h1:NR E1 f.W) (h2:NR E2 g.W) (hn:nc f g=true) (H:Hp):E2.app (E1.app H)=E1.app (E2.app H):=by
 funext o;simp only[nc,Bool.and_eq_true,Ow] at hn;cases ha:Qn f.W o with
 |false=>
  rw[h1 o _ ha];exact cR E2 (h1 o H ha)
 |true=>
  have hb:Qn g.W o=false:=by
   cases hb:Qn g.W o with
   |false=>rfl
   |true=>exact(Vq hn.1.2 ha hb).elim
  rw[h2 o _ hb];exact(cR E1 (h2 o H hb)).symm
theorem Th {E:Eff} {f g:Ft} (h:NR E f.W) (hn:nc f g=true) (H:Hp):Agree (g.R++g.W) H (E.app H):=fun o ho=>h o H (by
 simp only[nc,Bool.and_eq_true] at hn;cases ha:Qn f.W o with
 |false=>rfl
 |true=>exact(Vq hn.1 ha ho).elim)
theorem dv {st:Sta} {d e:Option Tmp} {x y:A} {H1 H2 H3:Hp} (h:∀ k,d=some k→e ≠ some k):(st.put d x H1).put e y H3=(st.put e y H2).put d x H3:=by
 cases d with
 |none=>cases e<;>rfl
 |some d=>
  cases e with
  |none=>rfl
  |some e=>
   have hne:d ≠ e:=fun he=>h d rfl (by rw[he]);simp only[Sta.put,Sta.mk.injEq,and_true];funext t;simp only[upd];by_cases h1:t=e<;>by_cases h2:t=d<;>simp_all
theorem XN {i j:Nat} {oi oj:Oper} {x:A} {E:Eff} {f:Ft} {lg:Lg} (hj:ops[j]? = some oj) (hap:oi.apart ops oj=true) (hneed:∀ g y E' st',CG P nms ops j oj st' y E' g→(need i j=true→nc f g=true)→nc f g=true) (hsym:need i j=need j i)
  {K:Lg→Sta→Prop} {st:Sta} (hy:CG P nms ops i oi st x E f) (hlg:SY need lg i f) (h:HO P nms need ops j K ((i,f)::lg) (st.put oi.dst x (E.app st.H))) :
  HO P nms need ops j (fun lg' st'=>∃ g,lg'=(j,g)::lg∧CG P nms ops i oi st' x E f∧SY need lg' i f∧K ((j,g)::(i,f)::lg) (st'.put oi.dst x (E.app st'.H))) lg st:=by
 obtain⟨h1,h2,h3⟩:=Oper.apart_spec hap;unfold HO at *;simp only[hj] at *;obtain⟨y,E2,g,hyj,hck,hK⟩:=h;have hnc:nc f g=true:=hneed g y E2 _ hyj (fun hn=>hck (i,f) (by simp) hn);have s1:=Pp hy;have s2:=Pp hyj;rw[Yq] at hK;have hyj':CG P nms ops j oj st y E2 g:=SI (fun q=>(S9 h1).symm) (fun z hz=>(Yl h1 z hz).symm) (by
  rw[Yq];intro o ho;exact(Th s1 hnc st.H o ho).symm) hyj
 have hy':CG P nms ops i oi (st.put oj.dst y (E2.app st.H)) x E f:=SI (fun q=>S9 h3) (fun z hz=>Yl h3 z hz) (by
  rw[Yq];exact Th s2 (XZ hnc) st.H) hy
 refine⟨y,E2,g,hyj',fun p hp hn=>hck p (List.mem_cons_of_mem _ hp) hn,g,rfl,hy',fun p hp hn=>?_,?_⟩
 ·rcases List.mem_cons.1 hp with rfl | hp
  ·exact XZ hnc
  ·exact hlg p hp hn
 ·rw[Yq,← dv (H1:=E.app st.H) h2,← dQ s1 s2 hnc];exact hK
def Qy (ops:Array Oper) (i j:Nat):Bool:=
 match ops[i]?,ops[j]? with
 |some a,some b=>!(LJ a.op == 0 || LJ b.op == 0 || (LJ a.op≤1&&LJ b.op≤1))
 |_,_=>false
theorem Xv {i j:Nat}:Qy ops i j=Qy ops j i:=by
 unfold Qy;cases ops[i]?<;>cases ops[j]?<;>simp[Bool.or_comm,Bool.and_comm]
theorem OL {i:Nat} {o:Oper} {st:Sta} {x:A} {E:Eff} {f:Ft} (hc:LJ o.op=0) (h:CG P nms ops i o st x E f):f.R=[]∧f.W=[]:=by
 obtain⟨q,x0,h1,h2,h3,h4⟩:=h;cases q with
 |true=>exact UE hc (h2 rfl)
 |false=>exact(h4 rfl).2
theorem Pn {i:Nat} {o:Oper} {st:Sta} {x:A} {E:Eff} {f:Ft} (hc:LJ o.op≤1) (h:CG P nms ops i o st x E f):f.W=[]:=by
 obtain⟨q,x0,h1,h2,h3,h4⟩:=h;cases q with
 |true=>exact bm hc (h2 rfl)
 |false=>exact(h4 rfl).2.2
theorem IP {l:Fp}:Vo l []=true:=by simp[Vo]
theorem Hk {l:Fp}:Vo [] l=true:=by simp[Vo]
theorem jt {i j:Nat} {a b:Oper} {st st':Sta} {x y:A} {E E':Eff} {f g:Ft} (ha:ops[i]? = some a) (hb:ops[j]? = some b) (hy:CG P nms ops i a st x E f) (hz:CG P nms ops j b st' y E' g) (h:Qy ops i j=true→nc f g=true):nc f g=true:=by
 cases hn:Qy ops i j with
 |true=>exact h hn
 |false=>
  unfold Qy at hn;rw[ha,hb] at hn;simp only[Bool.not_eq_false',Bool.or_eq_true,beq_iff_eq,Bool.and_eq_true,decide_eq_true_eq] at hn;rcases hn with (h0 | h0) | ⟨h1,h2⟩
  ·obtain⟨e1,e2⟩:=OL h0 hy;simp[nc,e1,e2,IP,Hk]
  ·obtain⟨e1,e2⟩:=OL h0 hz;simp[nc,e1,e2,IP,Hk]
  ·have e1:=Pn h1 hy;have e2:=Pn h2 hz;simp[nc,e1,e2,Hk]
inductive Ur (md:Region.Mode) (ops:Array Oper):Nat→Nat→Prop
 |base {j:Nat} {o:Oper} {e:Edge}:ops[j]? = some o→e ∈ o.after→Region.binds md e=true→Ur md ops e.on j
 |step {i j:Nat} {o:Oper} {e:Edge}:ops[j]? = some o→e ∈ o.after→Region.binds md e=true→Ur md ops i e.on→Ur md ops i j
def Closed (md:Region.Mode) (ops:Array Oper) (listed:Array Bool):Prop:=∀ m o,ops[m]? = some o→listed.getD m false=true→∀ e ∈ o.after,Region.binds md e=true→listed.getD e.on false=true
theorem Closed.ord {listed:Array Bool} (hc:Closed md ops listed) {i j:Nat} (h:Ur md ops i j):listed.getD j false=true→listed.getD i false=true:=by
 induction h with
 |base ho he hb=>exact fun h=>hc _ _ ho h _ he hb
 |step ho he hb _ ih=>exact fun h=>ih (hc _ _ ho h _ he hb)
theorem Closed.ready {listed:Array Bool} (hc:Closed md ops listed) {i j:Nat} (hj:j ∈ Region.ready md ops listed) (h:Ur md ops i j):listed.getD i false=true:=by
 obtain⟨_,oj,hoj,hall⟩:=mem_ready.1 hj;cases h with
 |base ho he hb=>rw[hoj] at ho;cases ho;exact hall _ he hb
 |step ho he hb hi=>rw[hoj] at ho;cases ho;exact hc.ord hi (hall _ he hb)
theorem Closed.add {listed:Array Bool} (hc:Closed md ops listed) {i:Nat} (hi:i ∈ Region.ready md ops listed):Closed md ops (listed.setIfInBounds i true):=by
 obtain⟨_,oi,hoi,hall⟩:=mem_ready.1 hi;intro m o ho hm e he hb;have keep:∀ k,listed.getD k false=true→(listed.setIfInBounds i true).getD k false=true:=fun k hk=>by
  by_cases hik:i=k
  ·subst hik;simp only[Array.getD_eq_getD_getElem?] at hk ⊢;rw[Array.getElem?_setIfInBounds];split
   ·split
    ·rfl
    ·rename_i h1;rw[Array.getElem?_eq_none (by omega)] at hk;cases hk
   ·exact hk
  ·rw[getD_set_ne false hik];exact hk
 by_cases hmi:i=m
 ·subst hmi;rw[hoi] at ho;cases ho;exact keep _ (hall e he hb)
 ·rw[getD_set_ne false hmi] at hm;exact keep _ (hc m o ho hm e he hb)
theorem R5 {listed:Array Bool} {i:Nat} (h:listed.getD i true=false):listed.getD i false=false:=by
 simp only[Array.getD_eq_getD_getElem?] at h ⊢;cases hq:listed[i]?<;>simp_all
def XA (md:Region.Mode) (o:Oper) (acc:List Nat):Nat:=o.after.toList.foldr (fun e m=>if Region.binds md e=true then m ||| (1 <<< e.on) ||| acc.getD e.on 0 else m) 0
def Vi (md:Region.Mode):List Oper→List Nat→List Nat
 |[],acc=>acc
 |o::l,acc=>Vi md l (acc++[XA md o acc])
theorem W7 {o:Oper} {acc:List Nat} {i:Nat} (h:(XA md o acc).testBit i=true):∃ e,e ∈ o.after∧Region.binds md e=true∧(e.on=i∨(acc.getD e.on 0).testBit i=true):=by
 unfold XA at h;have:∀ l:List Edge,(l.foldr (fun e m=>if Region.binds md e=true then m ||| (1 <<< e.on) ||| acc.getD e.on 0 else m) 0).testBit i=true→∃ e,e ∈ l∧Region.binds md e=true∧(e.on=i∨(acc.getD e.on 0).testBit i=true):=by
  intro l;induction l with
  |nil=>intro h;simp at h
  |cons e l ih=>
   intro h;simp only[List.foldr_cons] at h;split at h
   ·rename_i hb;simp only[Nat.testBit_or,Bool.or_eq_true] at h;rcases h with (h | h) | h
    ·obtain⟨e',h1,h2⟩:=ih h;exact⟨e',List.mem_cons_of_mem _ h1,h2⟩
    ·refine⟨e,by simp,hb,.inl ?_⟩;rw[Nat.one_shiftLeft,Nat.testBit_two_pow] at h;simpa using h
    ·exact⟨e,by simp,hb,.inr h⟩
   ·obtain⟨e',h1,h2⟩:=ih h;exact⟨e',List.mem_cons_of_mem _ h1,h2⟩
 obtain⟨e,h1,h2⟩:=this _ h;exact⟨e,by simpa using h1,h2⟩
theorem OM:∀ (l:List Oper) (acc:List Nat),(∀ k,l[k]? = ops[acc.length+k]?)→(∀ i j,(acc.getD j 0).testBit i=true→Ur md ops i j)→∀ i j,((Vi md l acc).getD j 0).testBit i=true→Ur md ops i j
 |[],acc,_,h=>h
 |o::l,acc,hl,h=>by
  unfold Vi;refine OM l _ (fun k=>by have:=hl (k+1);simpa[Nat.add_assoc,Nat.add_comm 1 k] using this) (fun i j hj=>?_);have h0:ops[acc.length]? = some o:=by simpa using (hl 0).symm
  rcases Nat.lt_trichotomy j acc.length with hlt | rfl | hgt
  ·rw[List.getD_eq_getElem?_getD,List.getElem?_append_left hlt,← List.getD_eq_getElem?_getD] at hj;exact h i j hj
  ·rw[List.getD_eq_getElem?_getD,List.getElem?_append_right (Ek _)] at hj;simp only[Nat.sub_self,List.getElem?_cons_zero,Option.getD_some] at hj;obtain⟨e,h1,h2,h3 | h3⟩:=W7 hj
   ·subst h3;exact .base h0 h1 h2
   ·exact .step h0 h1 h2 (h i e.on h3)
  ·rw[List.getD_eq_getElem?_getD,List.getElem?_eq_none (by simp;omega)] at hj;simp at hj
def Ps (ms:List Nat) (i j:Nat):Bool:=(ms.getD j 0).testBit i
def OY (ops:Array Oper) (ms:List Nat) (i j:Nat):Bool:=Qy ops i j&&!Ps ms i j&&!Ps ms j i
theorem Xk {ms:List Nat} {i j:Nat}:OY ops ms i j=OY ops ms j i:=by
 unfold OY;rw[Xv,Bool.and_assoc,Bool.and_comm (!Ps ms i j),← Bool.and_assoc]
theorem Zc {K:Sta→Prop} {i:Nat} {oi:Oper} (hi:ops[i]? = some oi) {f:Ft} :
  ∀ (fuel:Nat) (listed:Array Bool) (lg:Lg) (st:Sta) (x:A) (E:Eff),
   Closed md ops listed→(∀ j oj,ops[j]? = some oj→j ≠ i→listed.getD j true=false→¬ Ur md ops i j→¬ Ur md ops j i→oi.apart ops oj=true∧need i j=need j i∧(∀ g y E' st',CG P nms ops j oj st' y E' g→(need i j=true→nc f g=true)→nc f g=true)) →
   i ∈ Region.ready md ops listed→CG P nms ops i oi st x E f→SY need lg i f →
   Ww P nms need md ops K fuel (listed.setIfInBounds i true) ((i,f)::lg) (st.put oi.dst x (E.app st.H))→Ww P nms need md ops K (fuel+1) listed lg st:=by
 have self:∀ {lg:Lg} {st:Sta} {x:A} {E:Eff} {K':Lg→Sta→Prop},CG P nms ops i oi st x E f→SY need lg i f→K' ((i,f)::lg) (st.put oi.dst x (E.app st.H))→HO P nms need ops i K' lg st:=fun hy ha h=>by
  unfold HO;simp only[hi];exact⟨_,_,_,hy,ha,h⟩
 intro fuel;induction fuel with
 |zero=>
  intro listed lg st x E _ _ hr hy ha H;refine⟨fun h=>(by rw[h] at hr;cases hr),fun j hj=>?_⟩;by_cases hji:j=i
  ·subst hji;exact self hy ha H
  ·have:=ready_mono hj hji;rw[H.1] at this;cases this
 |succ fuel ih=>
  intro listed lg st x E hcl hfree hr hy ha H;refine⟨fun h=>(by rw[h] at hr;cases hr),fun j hj=>?_⟩;by_cases hji:j=i
  ·subst hji;exact self hy ha H
  ·have h1:=H.2 j (ready_mono hj hji);obtain⟨hjun,oj,hoj,hall⟩:=mem_ready.1 hj;have hun:listed.getD i true=false:=(mem_ready.1 hr).1;have no1:¬ Ur md ops i j:=fun h=>by have:=hcl.ready hj h;rw[R5 hun] at this;cases this
   have no2:¬ Ur md ops j i:=fun h=>by have:=hcl.ready hr h;rw[R5 hjun] at this;cases this
   obtain⟨hap,hsy,hnd⟩:=hfree j oj hoj hji hjun no1 no2;have h2:=XN hoj hap hnd hsy hy ha h1;have hfree':∀ k ok,ops[k]? = some ok→k ≠ i→(listed.setIfInBounds j true).getD k true=false →
     ¬ Ur md ops i k→¬ Ur md ops k i→oi.apart ops ok=true∧need i k=need k i∧(∀ g y E' st',CG P nms ops k ok st' y E' g→(need i k=true→nc f g=true)→nc f g=true):=fun k ok hk hki hun hno1 hno2=>by
    refine hfree k ok hk hki ?_ hno1 hno2;by_cases hjk:j=k
    ·subst hjk;exact hjun
    ·rw[getD_set_ne true hjk] at hun;exact hun
   refine Wd (fun lg' st' ⟨g,e,h3,h4,h5⟩=>ih (listed.setIfInBounds j true) lg' st' x E (hcl.add hj) hfree' (ready_mono hr (Ne.symm hji)) h3 h4 ?_) h2;subst e;rw[Array.setIfInBounds_comm _ _ hji];exact Ot fuel _ (fun p=>by simp only[List.mem_cons];exact⟨fun h=>h.elim (fun h=>.inr (.inl h)) (fun h=>h.elim .inl (fun h=>.inr (.inr h))),fun h=>h.elim (fun h=>.inr (.inl h)) (fun h=>h.elim .inl (fun h=>.inr (.inr h)))⟩) h5
def fK (md:Region.Mode) (ops:Array Oper) (ms:List Nat) (listed:Array Bool) (i:Nat):Bool:=
 match ops[i]? with
 |none=>false
 |some oi=>(List.range ops.size).all fun j=>j == i || listed.getD j true || Ps ms i j || Ps ms j i || match ops[j]? with
   |some oj=>oi.apart ops oj
   |none=>true
theorem WV {ms:List Nat} (hms:∀ i j,Ps ms i j=true→Ur md ops i j) {i:Nat} {oi:Oper} {listed:Array Bool} (hi:ops[i]? = some oi) (h:fK md ops ms listed i=true) (j:Nat) (oj:Oper)
  (hj:ops[j]? = some oj) (hne:j ≠ i) (hun:listed.getD j true=false) (h1:¬ Ur md ops i j) (h2:¬ Ur md ops j i) :
  oi.apart ops oj=true:=by
 simp only[fK,hi,List.all_eq_true,List.mem_range] at h;have:=h j (Array.getElem?_eq_some_iff.1 hj).1;simp only[hj,hun,Bool.or_eq_true,beq_iff_eq,hne,Bool.false_eq_true,or_false,false_or,Bool.and_eq_true] at this;rcases this with (h3 | h3) | h3
 ·exact(h1 (hms _ _ h3)).elim
 ·exact(h2 (hms _ _ h3)).elim
 ·exact h3
def Kr (md:Region.Mode) (ops:Array Oper) (ms:List Nat):Nat→Nat→Array Bool→Bool
 |0,_,listed=>(Region.ready md ops listed).isEmpty
 |fuel+1,k,listed=>(Region.ready md ops listed).contains k&&fK md ops ms listed k&&Kr md ops ms fuel (k+1) (listed.setIfInBounds k true)
def o6 (ops:Array Oper) (ms:List Nat):Bool:=Kr .any ops ms ops.size 0 (Array.replicate ops.size false)
theorem Yf {ms:List Nat} (hms:∀ i j,Ps ms i j=true→Ur md ops i j) {K:Sta→Prop}:∀ (l:List Oper) (k:Nat) (listed:Array Bool) (lg:Lg) (st:Sta),Closed md ops listed→(∀ j,l[j]? = ops[k+j]?) →
  Kr md ops ms l.length k listed=true→fC P nms (OY ops ms) ops K l k lg st→Ww P nms (OY ops ms) md ops K l.length listed lg st
 |[],_,_,_,_,_,_,hB,h=>⟨by simpa[Kr] using hB,h⟩
 |o::l,k,listed,lg,st,hcl,hl,hB,h=>by
  have h0:ops[k]? = some o:=by simpa using (hl 0).symm
  simp only[List.length_cons,Kr,Bool.and_eq_true] at hB;obtain⟨⟨hr,hf⟩,hB'⟩:=hB;have hr:k ∈ Region.ready md ops listed:=by simpa using hr
  obtain⟨x,E,f,hy,ha,hK⟩:=h;exact Zc h0 l.length listed lg st x E hcl (fun j oj hj hne hun n1 n2=>⟨WV hms h0 hf j oj hj hne hun n1 n2,Xk,fun g y E' st' hy' hn=>jt h0 hj hy hy' (fun hN=>hn (by
   have e1:Ps ms k j=false:=by
    cases e:Ps ms k j with
    |false=>rfl
    |true=>exact(n1 (hms _ _ e)).elim
   have e2:Ps ms j k=false:=by
    cases e:Ps ms j k with
    |false=>rfl
    |true=>exact(n2 (hms _ _ e)).elim
   simp[OY,hN,e1,e2]))⟩) hr hy ha
   (Yf hms l (k+1) _ _ _ (hcl.add hr) (fun j=>by have:=hl (j+1);simpa[Nat.add_assoc,Nat.add_comm 1 j] using this) hB' hK)
end
def Xx (ops:Array Oper):List Nat:=Vi .any ops.toList []
theorem Xu {ops:Array Oper} (i j:Nat) (h:Ps (Xx ops) i j=true):Ur .any ops i j:=
 OM ops.toList [] (fun k=>by simp) (fun i j h=>by simp at h) i j h
def cm (draw:Bool) (ops:Array Oper):Nat→Nat→Bool:=bif draw then OY ops (Xx ops) else fun _ _=>false
def Yg (n:Nat) (ops:Array Oper) (draw:Bool):Bool:=NY n ops&&(!draw || o6 ops (Xx ops))
theorem Um {c:Cx} {nms:Nat→Nm} {K:Sta→Prop} {Q:Exit→Act→World→Prop} {id:Nat} {ops:Array Oper} {draw:Bool} (hm:c.P.follows .mixedOrders=true) (hok:Yg c.n ops draw=true)
  (hQ:∀ st a w I μ,SR c st a w I μ→K st→Q .normal a w) {st:Sta} {a:Act} {w:World} {I:Nat→Prop} {μ:Mu} (h:SR c st a w I μ) (hs:fC c.P nms (cm draw ops) ops K ops.toList 0 [] st):(Code.region id ops draw).wp c.P Q a w:=by
 simp only[Yg,Bool.and_eq_true,Bool.or_eq_true,Bool.not_eq_true'] at hok;obtain⟨hd,hl⟩:=hok;cases draw with
 |false=>
  apply wp_region;rw[List.range_eq_range'];have:=SD hd hQ ops.toList 0 [] st a w I μ (by simp) h hs;simpa using this
 |true=>
  apply wp_region_any hm;have hl:o6 ops (Xx ops)=true:=by simpa using hl
  have h1:=Yf (K:=K) (nms:=nms) (P:=c.P) Xu ops.toList 0 (Array.replicate ops.size false) [] st (fun m o _ hm=>by
   simp only[Array.getD_eq_getD_getElem?,Array.getElem?_replicate] at hm;split at hm<;>simp at hm) (by simp) (by simpa[o6] using hl) hs
  have h':SR c st a { w with drawn:=w.drawn+1 } I μ:=by
   obtain⟨hx,hs'⟩:=h.sim.same (w':={ w with drawn:=w.drawn+1 }) (I':=I) ⟨rfl,rfl,rfl,Ek _,fun _ _ _=>rfl⟩ (fun _ hb=>hb) (fun _ hb=>.inl hb);exact⟨hs',h.size,h.defers,fun t=>hx.rel (h.rel t)⟩
  have:=KX (md:=.any) hd hQ ops.toList.length (Array.replicate ops.size false) [] st a _ I μ h' h1;simpa using this
def Up (c:Cx) (Q:Exit→Sta→Prop):Exit→Act→World→Prop:=fun e a w=>∃ st I μ,SR c st a w I μ∧Q e st
def AWP (c:Cx) (code:Code) (Q:Exit→Sta→Prop) (st:Sta):Prop:=∀ a w I μ,SR c st a w I μ→code.wp c.P (Up c Q) a w
def gN (c:Cx) (y:Code) (Q:Exit→Sta→Prop):Exit→Sta→Prop
 |.normal,st=>AWP c y Q st
 |e,st=>Q e st
def Dh (id:Nat) (Q:Exit→Sta→Prop):Exit→Sta→Prop
 |.exit id',st=>if id'=id then Q .normal st else Q (.exit id') st
 |e,st=>Q e st
section
variable {c:Cx} {Q:Exit→Sta→Prop} {st:Sta} {x y:Code}
@[simp] theorem kh:gN c y Q .normal st=AWP c y Q st:=rfl
@[simp] theorem qK {i:Nat}:gN c y Q (.exit i) st=Q (.exit i) st:=rfl
@[simp] theorem sL:gN c y Q .ret st=Q .ret st:=rfl
@[simp] theorem fE {i:Nat}:Dh i Q .normal st=Q .normal st:=rfl
@[simp] theorem kY {i:Nat}:Dh i Q .ret st=Q .ret st:=rfl
@[simp] theorem TR {i:Nat}:Dh i Q (.exit i) st=Q .normal st:=by simp[Dh]
theorem LP {i j:Nat} (h:j ≠ i):Dh i Q (.exit j) st=Q (.exit j) st:=by simp[Dh,h]
theorem AWP.mono {Q':Exit→Sta→Prop} (h:AWP c x Q st) (hq:∀ e st,Q e st→Q' e st):AWP c x Q' st:=fun a w I μ hs=>
 wp_mono (h a w I μ hs) fun e a' w' ⟨st',I',μ',h1,h2⟩=>⟨st',I',μ',h1,hq e st' h2⟩
theorem ic (h:AWP c x (gN c y Q) st):AWP c (.seq x y) Q st:=fun a w I μ hs=>
 wp_seq (wp_mono (h a w I μ hs) fun e a' w' ⟨st',I',μ',h1,h2⟩=>by
  cases e<;>first | exact h2 a' w' I' μ' h1 | exact⟨st',I',μ',h1,h2⟩)
theorem ff (h:Q .normal st):AWP c .skip Q st:=fun a w I μ hs=>wp_skip ⟨st,I,μ,hs,h⟩
theorem eI {i:Nat} (h:Q (.exit i) st):AWP c (.exit i) Q st:=fun a w I μ hs=>wp_exit ⟨st,I,μ,hs,h⟩
theorem jw (h:Q .ret st):AWP c .ret Q st:=fun a w I μ hs=>wp_ret ⟨st,I,μ,hs,h⟩
theorem ZR {i:Nat} (h:AWP c x (Dh i Q) st):AWP c (.block i x) Q st:=fun a w I μ hs=>
 wp_block (wp_mono (h a w I μ hs) fun e a' w' ⟨st',I',μ',h1,h2⟩=>by
  cases e with
  |exit j=>
   simp only[Exit.inBlock];by_cases hj:j=i
   ·subst hj;rw[if_pos rfl];exact⟨st',I',μ',h1,by simpa using h2⟩
   ·rw[if_neg hj];exact⟨st',I',μ',h1,by rwa [LP hj] at h2⟩
  |_=>exact⟨st',I',μ',h1,h2⟩)
theorem dn {o:Operand} {b:Bool} (hb:evs st.s o = .v (.bool b)) (ht:b=true→AWP c x Q st) (hf:b=false→AWP c y Q st):AWP c (.cond o x y) Q st:=fun a w I μ hs=>by
 have h1:=hs.evs o;rw[hb] at h1;generalize hu:a.eval o=u at h1;cases h1;exact wp_cond_split hu (fun h=>ht h a w I μ hs) (fun h=>hf h a w I μ hs)
def TQ (P:Program) (body:Code) (Q:Exit→Act→World→Prop) (a:Act) (w:World):Prop:=
 ∀ (b:Frame) (k:List Item) (cs:List Frame),∃ e a' w',Q e a' w'∧Arrives P (lone (b.at a (.code body :: .inLoop body::k)) cs w) b k cs e a' w'
theorem WL {P:Program} {body:Code} {Q:Exit→Act→World→Prop} {a:Act} {w:World} (h:body.wp P (Exit.then (TQ P body Q) Q) a w):TQ P body Q a w:=by
 intro b k cs;obtain⟨e,a₁,w₁,hq,harr⟩:=h b (.inLoop body::k) cs;cases e with
 |normal=>
  obtain⟨e₂,a₂,w₂,hq₂,harr₂⟩:=hq b k cs;exact⟨e₂,a₂,w₂,hq₂,.of_steps (Steps.trans harr (.one step_inLoop)) harr₂⟩
 |exit id=>exact⟨_,a₁,w₁,hq,.pass (x:=.inLoop body) rfl (fun _ _=>.inl (by simp)) harr⟩
 |goto l=>exact⟨_,a₁,w₁,hq,.pass (x:=.inLoop body) rfl (fun _ _=>.inl (by simp)) harr⟩
 |ret=>exact⟨_,a₁,w₁,hq,.pass (x:=.inLoop body) rfl (fun _ _=>.inl (by simp)) harr⟩
 |panic ch=>exact⟨_,a₁,w₁,hq,.pass (x:=.inLoop body) rfl (fun _ _=>.inl (by simp)) harr⟩
 |outgrown=>exact⟨_,a₁,w₁,hq,.pass (x:=.inLoop body) rfl (fun _ _=>.inl (by simp)) harr⟩
theorem ZS {P:Program} {body:Code} {Q:Exit→Act→World→Prop} {a:Act} {w:World} (h:TQ P body Q a w):(Code.loop body).wp P Q a w:=by
 intro b k cs;obtain⟨e,a₁,w₁,hq,harr⟩:=h b k cs;exact⟨e,a₁,w₁,hq,.of_steps (.one step_loop) harr⟩
def AHead (c:Cx) (body:Code) (Q:Exit→Sta→Prop) (st:Sta):Prop:=∀ a w I μ,SR c st a w I μ→TQ c.P body (Up c Q) a w
def Yb (c:Cx) (body:Code) (Q:Exit→Sta→Prop):Exit→Sta→Prop
 |.normal,st=>AHead c body Q st
 |e,st=>Q e st
@[simp] theorem jC:Yb c x Q .normal st=AHead c x Q st:=rfl
@[simp] theorem nY {i:Nat}:Yb c x Q (.exit i) st=Q (.exit i) st:=rfl
@[simp] theorem qv:Yb c x Q .ret st=Q .ret st:=rfl
theorem UC (h:AWP c x (Yb c x Q) st):AHead c x Q st:=fun a w I μ hs=>
 WL (wp_mono (h a w I μ hs) fun e a' w' ⟨st',I',μ',h1,h2⟩=>by
  cases e<;>first | exact h2 a' w' I' μ' h1 | exact⟨st',I',μ',h1,h2⟩)
theorem bR (h:AHead c x Q st):AWP c (.loop x) Q st:=fun a w I μ hs=>ZS (h a w I μ hs)
def Le (c:Cx) (st st':Sta):Prop:=∀ a w I μ,SR c st a w I μ→∃ I' μ',SR c st' a w I' μ'
theorem Le.refl:Le c st st:=fun _ _ I μ h=>⟨I,μ,h⟩
theorem Le.trans {st1 st2 st3:Sta} (h:Le c st1 st2) (k:Le c st2 st3):Le c st1 st3:=fun a w I μ hs=>let ⟨I',μ',h1⟩:=h a w I μ hs;k a w I' μ' h1
theorem AWP.le {st':Sta} (h:Le c st st') (k:AWP c x Q st'):AWP c x Q st:=fun a w I μ hs=>let ⟨I',μ',h1⟩:=h a w I μ hs;k a w I' μ' h1
theorem AHead.le {st':Sta} (h:Le c st st') (k:AHead c x Q st'):AHead c x Q st:=fun a w I μ hs=>let ⟨I',μ',h1⟩:=h a w I μ hs;k a w I' μ' h1
theorem fU {s s':Nat→A} {H:Hp} (h:∀ t,s' t=s t∨s' t = .any):Le c ⟨s,H⟩ ⟨s',H⟩:=fun a w I μ hs=>
 ⟨I,μ,hs.sim,hs.size,hs.defers,fun t=>by
  rcases h t with e | e
  ·show Rel w I μ (s' t) _;rw[e];exact hs.rel t
  ·show Rel w I μ (s' t) _;rw[e];exact .any _ _⟩
theorem VQ (s:Nat→A):∀ (l:List (Nat × A)),(∀ p,p ∈ l→s p.1=p.2)→∀ t,lk l t=s t∨lk l t = .any
 |[],_,t=>.inr rfl
 |(k,x)::l,h,t=>by
  unfold lk;by_cases e:k=t
  ·subst e;rw[if_pos rfl];exact .inl (h (k,x) (by simp)).symm
  ·rw[if_neg e];exact VQ s l (fun p hp=>h p (by simp[hp])) t
theorem AB {s:Nat→A} {H:Hp} (l:List (Nat × A)) (h:∀ p,p ∈ l→s p.1=p.2):Le c ⟨s,H⟩ ⟨lk l,H⟩:=fU (VQ s l h)
def Mp (P:Program) (st:Sta):ResultVar→Option A
 |.tmp t=>some (st.s t)
 |.cell a t=>E9 P st.H t (st.s a)
def Gz (P:Program) (st:Sta):List ResultVar→Option (List A)
 |[]=>some []
 |r::rs=>match Mp P st r,Gz P st rs with
  |some x,some l=>some (x::l)
  |_,_=>none
def EK (P:Program) (st:Sta) (rs:List ResultVar):Option A:=
 match rs with
 |[r]=>Mp P st r
 |rs=>(Gz P st rs).map .tup
theorem Nt {a:Act} {w:World} {I:Nat→Prop} {μ:Mu} (hs:SR c st a w I μ) {r:ResultVar} {x:A} (h:Mp c.P st r=some x) :
  ∃ v,((match r with | .tmp t=>pure (a.tmps.getD t undef) | .cell p t=>do loadVar t (← asAddr (a.tmps.getD p undef))):Sem Value).run c.P w = .ok v w∧Rel w I μ x v:=by
 cases r with
 |tmp t=>cases h;exact⟨_,rfl,hs.rel t⟩
 |cell p t=>
  have hr:=hs.rel p;obtain⟨v,h1,h2⟩:=KG hs.sim hr h;refine⟨v,?_,h2⟩;have:∃ q,a.tmps.getD p undef = .pointer (some q):=Fq hr (Sl h);obtain⟨q,hq⟩:=this;rw[hq] at h1;simp only[hq,asAddr];simpa[Instr.loadAt,Instr.sureAddr] using h1
theorem LU {a:Act} {w:World} {I:Nat→Prop} {μ:Mu} (hs:SR c st a w I μ):∀ {rs:List ResultVar} {xs:List A},Gz c.P st rs=some xs →
  ∃ vs:List Value,(rs.mapM (m:=Sem) fun | .tmp t=>pure (a.tmps.getD t undef) | .cell p t=>do loadVar t (← asAddr (a.tmps.getD p undef))).run c.P w = .ok vs w∧vs.length=xs.length∧∀ (k:Nat) (y:A) (v:Value),xs[k]? = some y→vs[k]? = some v→Rel w I μ y v
 |[],xs,h=>by cases h;exact⟨[],rfl,rfl,fun k y v hk=>by simp at hk⟩
 |r::rs,xs,h=>by
  unfold Gz at h;split at h
  ·rename_i x l hx hl;cases h;obtain⟨v,h1,h2⟩:=Nt hs hx;obtain⟨vs,h3,h4,h5⟩:=LU hs hl;refine⟨v::vs,?_,by simp[h4],fun k y u hk hu=>?_⟩
   ·rw[List.mapM_cons];simp only[Sem.run_bind,h1,Result.andThen_ok,h3,Sem.run_pure]
   ·cases k with
    |zero=>simp at hk hu;subst hk hu;exact h2
    |succ k=>exact h5 k y u (by simpa using hk) (by simpa using hu)
  ·cases h
theorem RZ {fn:Func} {a:Act} {w:World} {I:Nat→Prop} {μ:Mu} (hs:SR c st a w I μ) {x:A} (h:EK c.P st fn.results.toList=some x):∃ v,(results fn a.tmps).run c.P w = .ok v w∧Rel w I μ x v:=by
 have hm:∀ {vs:List Value},(fn.results.toList.mapM (m:=Sem) fun | .tmp t=>pure (a.tmps.getD t undef) | .cell p t=>do loadVar t (← asAddr (a.tmps.getD p undef))).run c.P w = .ok vs w →
   (results fn a.tmps).run c.P w = .ok (if h:vs.toArray.size=1 then vs.toArray[0] else .tuple vs.toArray) w:=fun {vs} hv=>by
  unfold results;rw[Array.mapM_eq_mapM_toList];simp only[Sem.run_bind,Sem.run_map]
  erw [hv]
  rfl
 unfold EK at h;split at h
 ·rename_i r hr;obtain⟨v,h1,h2⟩:=Nt hs h;have:=hm (vs:=[v]) (by rw[hr,List.mapM_cons];simp only[Sem.run_bind,h1,Result.andThen_ok];rfl);exact⟨v,by simpa using this,h2⟩
 ·rename_i rs hne;simp only[Option.map_eq_some_iff] at h;obtain⟨xs,hx,rfl⟩:=h;obtain⟨vs,h1,h2,h3⟩:=LU hs hx;have hlen:xs.length=fn.results.toList.length:=by
   have:∀ (rs:List ResultVar) (xs:List A),Gz c.P st rs=some xs→xs.length=rs.length:=by
    intro rs;induction rs with
    |nil=>intro xs h;cases h;rfl
    |cons r rs ih=>
     intro xs h;unfold Gz at h;split at h
     ·rename_i x l _ hl;cases h;simp[ih l hl]
     ·cases h
   exact this _ _ hx
  have hv1:¬ vs.toArray.size=1:=by
   intro he;simp only[List.size_toArray] at he;have:fn.results.toList.length=1:=by omega
   obtain⟨r,hr⟩:=List.length_eq_one_iff.1 this;exact hne r hr
  have:=hm h1;rw[dif_neg hv1] at this;refine⟨_,this,.tup _ _ _ (by simp[h2]) fun k y hk=>?_⟩;have hlt:k<vs.length:=by rw[h2];exact(List.getElem?_eq_some_iff.1 hk).1
  have e:vs.toArray.getD k undef=vs[k]:=by simp[hlt]
  rw[e];exact h3 k y _ hk (List.getElem?_eq_getElem hlt)
def Zz (P:Program) (rs:List ResultVar) (Q:A→Hp→Prop):Exit→Sta→Prop
 |.normal,st | .ret,st=>∃ r0,EK P st rs=some r0∧Q r0 st.H
 |_,_=>False
def Mw (args:List A):Nat→A:=fun t=>(args[t]?).getD .any
theorem Q0 {P:Program} {f:FuncId} {fn:Func} {code:Code} (hf:P.funcs[f]? = some fn) (hb:fn.body=some code) {c:Cx} (hcP:c.P=P) (hcn:c.n=fn.ntmps) {args:List A} {vs:Array Value} (hl:vs.size=args.length) (ha:args.length≤fn.ntmps)
  {w:World} {I:Nat→Prop} {μ:Mu} {H:Hp} (hs:Sim c w I μ H) (hr:∀ (k:Nat) (y:A),args[k]? = some y→Rel w I μ y (vs.getD k undef)) {Q:A→Hp→Prop} (h:AWP c code (Zz P fn.results.toList Q) ⟨Mw args,H⟩) :
  Calls P f vs w fun e w'=>∃ v r0 H' I' μ',e = .returned v∧Sim c w' I' μ' H'∧Rel w' I' μ' r0 v∧Q r0 H':=by
 subst hcP;refine calls_of_wp hf hb ?_;have hs:SR c ⟨Mw args,H⟩ { tmps:=vs++Array.replicate (fn.ntmps-vs.size) undef,defers:=[] } w I μ:=by
  refine⟨hs,?_,rfl,fun t=>?_⟩
  ·simp[hcn,hl];omega
  ·show Rel w I μ (Mw args t) _;unfold Mw;cases hq:args[t]? with
   |none=>exact .any _ _
   |some y=>
    have hlt:=(List.getElem?_eq_some_iff.1 hq).1;have e:(vs++Array.replicate (fn.ntmps-vs.size) undef).getD t undef=vs.getD t undef:=by
     simp only[Array.getD_eq_getD_getElem?];rw[Array.getElem?_append_left (by omega)]
    rw[e];exact hr t y hq
 refine wp_mono (h _ w I μ hs) fun e a' w' ⟨st',I',μ',h1,h2⟩=>?_;have fin:(∃ r0,EK c.P st' fn.results.toList=some r0∧Q r0 st'.H)→a'.defers=[]∧∃ v,(results fn a'.tmps).run c.P w' = .ok v w'∧∃ v' r0 H' I' μ',Ending.returned v = .returned v'∧Sim c w' I' μ' H'∧Rel w' I' μ' r0 v'∧Q r0 H':=by
  rintro⟨r0,h3,h4⟩;obtain⟨v,h5,h6⟩:=RZ (fn:=fn) h1 h3;exact⟨h1.defers,v,h5,v,r0,st'.H,I',μ',rfl,h1.sim,h6,h4⟩
 cases e<;>first | exact fin h2 | exact h2.elim
def cx (P:Program) (w0:World) (I0:Nat→Prop) (n:Nat):Cx:=⟨P,w0,I0,fun _ _=>False,n,RH⟩
def H0:Hp:=fun _=>⟨0,.none⟩
theorem Ss {P:Program} {w:World} {I:Nat→Prop} {n:Nat} (hI:∀ b,I b→b<w.heap.size) (ht:Tabs P w I):Sim (cx P w I n) w I RH H0:=
 ⟨⟨rfl,rfl,rfl,Ek _,fun _ _ _=>rfl⟩,hI,fun _ h=>h,fun b hb=>.inl hb,fun _=>rfl,fun _=>trivial,(fun _ _ h=>nomatch h),(fun _ h=>nomatch h),MuLe.refl _,(fun _ h=>nomatch h),ht⟩
theorem XD {P:Program} {f:FuncId} {fn:Func} {code:Code} {args:List A} {r:A} {n:Nat} (hk:RU P f=true) (hf:P.funcs[f]? = some fn) (hb:fn.body=some code) (hn:fn.ntmps=n) (ha:args.length≤n)
  (h:∀ w0 I0,AWP (cx P w0 I0 n) code (Zz P fn.results.toList fun r0 H=>Gu H r0 r) ⟨Mw args,H0⟩):Spec P f args r:=by
 refine⟨hk,fun w I vs hI htb hl hr=>?_⟩;refine(Q0 hf hb (c:=cx P w I n) rfl hn.symm hl (by omega) (Ss hI htb) hr (h w I)).mono fun e w' ⟨v,r0,H',I',μ',he,h1,h2,h3⟩=>⟨v,he,?_,?_⟩
 ·have k:=h1.kept;exact⟨k.os,k.tape,k.output,k.size,fun b hb=>k.block b hb (fun ⟨_,h⟩=>h)⟩
 ·refine(h3 _ w' I' μ' v h1 h2).mono0 (fun b hb=>?_) (fun _ _=>rfl);rcases hb with hb | ⟨o,g1,rfl⟩
  ·rcases h1.new b hb with g | g
   ·exact .inl g
   ·exact .inr ⟨g,h1.lt b hb⟩
  ·obtain⟨_,g4,g5⟩:=h1.own o g1;rcases g4 with g4 | g4
   ·exact g4.elim
   ·exact .inr ⟨g4,g5⟩
theorem E7 {s:Nat→A} {H:Hp} (t:Nat) (d:Nm) (sz:Nat) (ht:s t = .sl true []):Le c ⟨s,H⟩ ⟨upd s t (.osl d ((H d).u+1) sz 0 0),Ay H d ⟨(H d).u+1,.arr sz []⟩⟩:=fun a w I μ hs=>by
 obtain⟨hx,hs'⟩:=hs.sim.upd (EY w none) d ⟨(H d).u+1,false,0,0,sz,0⟩ (.arr sz []) (.inl rfl) (.inl (by rw[hs.sim.ver];exact Nat.lt_succ_self _)) (fun h=>nomatch h) (fun h=>nomatch h) (fun hx=>⟨rfl,.inl ⟨rfl,rfl⟩⟩);refine⟨I,_,hs',hs.size,hs.defers,fun k=>?_⟩;show Rel w I _ (upd s t _ k) _;unfold upd;split
 ·rename_i hk;subst hk;have h1:=hs.rel k;simp only[ht] at h1;generalize a.tmps.getD k undef=v at h1;cases h1 with
  |slN _ _ q cap hc=>
   have:=hc rfl;subst this;exact .osl _ _ _ _ _ _ _ _ (by omega) (by simp) (Ek _) (fun h=>by omega) (fun _=>by simp)
  |sl _ _ b off n cap z _ g h1 h2 h3 h4=>
   have h5:n=0:=h2;have h6:cap=0:=h4 rfl;subst h5 h6;exact .osl _ _ _ _ _ _ _ _ (by omega) (by simp) (Ek _) (fun h=>by omega) (fun _=>by simp)
 ·exact hx.rel (hs.rel k)
end
structure CO where
 d:Option Nat
 o:Op
 g:Option (Nat × Bool)
 nm:Nm
 ix:Nat
 un:List Nat
 lg:Bool
abbrev co (d:Option Nat) (o:Op) (g:Option (Nat × Bool)):CO:=⟨d,o,g,[],0,[],false⟩
abbrev cn (d:Option Nat) (o:Op) (g:Option (Nat × Bool)) (nm:Nm):CO:=⟨d,o,g,nm,0,[],false⟩
inductive CC where
 |skip
 |reg (ops:List CO) (live:List Nat)
 |seq (x y:CC)
 |cond (c:Operand) (x y:CC)
 |block (i:Nat) (x:CC)
 |loop (x:CC)
 |exit (i:Nat)
 |ret
 |keep (live:List Nat) (x:CC)
 |stop (x:CC)
 |scope (x:CC)
def V7:List (Nat × Nm)→Nat→Nm
 |[],_=>[]
 |(k,n)::l,i=>if k=i then n else V7 l i
def O9 (draw:Bool) (ops:Array Oper) (ms:List Nat) (i j:Nat):Bool:=draw&&OY ops ms i j
theorem gU {draw:Bool} {ops:Array Oper}:O9 draw ops (Xx ops)=cm draw ops:=by
 cases draw
 ·rfl
 ·funext i j;simp[O9,cm]
def my (ops:Array Oper) (draw:Bool) (ms:List Nat) (nms:List (Nat × Nm)) (i:Nat) (o:Oper):Option CO:=
 let un:=(List.range i).filter fun j=>O9 draw ops ms j i
 let lg:=(List.range ops.size).any fun k=>Nat.blt i k&&O9 draw ops ms i k
 let ix:=if un.isEmpty&&!lg then 0 else i
 match o.guard with
 |none=>some ⟨o.dst,o.op,none,V7 nms i,ix,un,lg⟩
 |some (j,f)=>match (ops[j]?).bind (·.dst) with
  |some d=>some ⟨o.dst,o.op,some (d,f),V7 nms i,ix,un,lg⟩
  |none=>none
def VC (ops:Array Oper) (draw:Bool) (ms:List Nat) (nms:List (Nat × Nm)):Nat→List Oper→Option (List CO)
 |_,[]=>some []
 |i,o::l=>match my ops draw ms nms i o,VC ops draw ms nms (i+1) l with
  |some x,some r=>some (x::r)
  |_,_=>none
inductive Is (n:Nat):CC→Code→Prop
 |skip:Is n .skip .skip
 |reg (id:Nat) (ops:Array Oper) (draw:Bool) (live:List Nat) (nms:List (Nat × Nm)) (l:List CO):Yg n ops draw=true→VC ops draw (Xx ops) nms 0 ops.toList=some l→Is n (.reg l live) (.region id ops draw)
 |seq (x y:CC) (a b:Code):Is n x a→Is n y b→Is n (.seq x y) (.seq a b)
 |cond (o:Operand) (x y:CC) (a b:Code):Is n x a→Is n y b→Is n (.cond o x y) (.cond o a b)
 |block (i:Nat) (x:CC) (a:Code):Is n x a→Is n (.block i x) (.block i a)
 |loop (x:CC) (a:Code):Is n x a→Is n (.loop x) (.loop a)
 |exit (i:Nat):Is n (.exit i) (.exit i)
 |ret:Is n .ret .ret
 |keep (live:List Nat) (x:CC) (a:Code):Is n x a→Is n (.keep live x) a
 |stop (x:CC) (a:Code):Is n x a→Is n (.stop x) a
 |scope (x:CC) (a:Code):Is n x a→Is n (.scope x) (.scope a)
 |label (l:Nat):Is n .skip (.label l)
def oL (Q:Exit→Sta→Prop):Exit→Sta→Prop
 |.goto _,_=>False
 |e,st=>Q e st
def Sta.keep (st:Sta) (live:List Nat):Sta:=⟨lk (live.map fun k=>(k,st.s k)),st.H⟩
theorem YQ {c:Cx} {st:Sta} (live:List Nat):Le c st (st.keep live):=AB _ (fun p hp=>by
 obtain⟨k,_,rfl⟩:=List.mem_map.1 hp;rfl)
def XV (P:Program) (o:CO) (st:Sta) (x:A) (E:Eff) (f:Ft):Prop:=
 match o.g with
 |none=>Tx P o.nm o.o (evs st.s) st.H x E f.R f.W
 |some (d,fl)=>∃ q x0,BK (st.s d) fl=some q∧(q=true→Tx P o.nm o.o (evs st.s) st.H x0 E f.R f.W)∧x=gd q x0∧(q=false→E = .nil∧f.R=[]∧f.W=[])
def Ck (un:List Nat) (lg:Lg) (f:Ft):Prop:=∀ p,p ∈ lg→p.1 ∈ un→nc p.2 f=true
def AR (b:Bool) (i:Nat) (f:Ft) (lg:Lg):Lg:=if b=true then (i,f)::lg else lg
def Am (P:Program) (K:Sta→Prop):List CO→Lg→Sta→Prop
 |[],_,st=>K st
 |o::rest,lg,st=>∃ x E f,XV P o st x E f∧Ck o.un lg f∧Am P K rest (AR o.lg o.ix f lg) (st.put o.d x (E.app st.H))
theorem ib {ops:Array Oper} {draw:Bool} {ms:List Nat} {nms:List (Nat × Nm)} {i:Nat} {o:Oper} {c:CO} (h:my ops draw ms nms i o=some c):c.d=o.dst∧c.o=o.op∧c.nm=V7 nms i ∧
  c.un=((List.range i).filter fun j=>O9 draw ops ms j i)∧c.lg=((List.range ops.size).any fun k=>Nat.blt i k&&O9 draw ops ms i k)∧(c.un ≠ []∨c.lg=true→c.ix=i) ∧
  ((o.guard=none∧c.g=none)∨∃ j f d,o.guard=some (j,f)∧(ops[j]?).bind (·.dst)=some d∧c.g=some (d,f)):=by
 have hix:∀ (un:List Nat) (lg:Bool),un ≠ []∨lg=true→(if (un.isEmpty&&!lg)=true then 0 else i)=i:=fun un lg hh=>by
  rw[if_neg];rcases hh with h1 | h1
  ·cases un with
   |nil=>exact(h1 rfl).elim
   |cons=>simp
  ·simp[h1]
 unfold my at h;cases hg:o.guard with
 |none=>
  rw[hg] at h;simp only[Option.some.injEq] at h;subst h;exact⟨rfl,rfl,rfl,rfl,rfl,hix _ _,.inl ⟨rfl,rfl⟩⟩
 |some p=>
  obtain⟨j,f⟩:=p;rw[hg] at h;simp only at h;cases hj:(ops[j]?).bind (·.dst) with
  |none=>rw[hj] at h;cases h
  |some d=>
   rw[hj] at h;simp only[Option.some.injEq] at h;subst h;exact⟨rfl,rfl,rfl,rfl,rfl,hix _ _,.inr ⟨j,f,d,rfl,hj,rfl⟩⟩
theorem Wp {P:Program} {ops:Array Oper} {draw:Bool} {ms:List Nat} {nms:List (Nat × Nm)} {K:Sta→Prop}:∀ (l:List Oper) (i:Nat) (r:List CO) (Lf lg:Lg) (st:Sta),VC ops draw ms nms i l=some r→i+l.length=ops.size →
  (∀ p,p ∈ Lf→p.1<i∧∀ k,i≤k→k<ops.size→O9 draw ops ms p.1 k=true→p ∈ lg)→Am P K r lg st→fC P (V7 nms) (O9 draw ops ms) ops K l i Lf st:=by
 intro l;induction l with
 |nil=>
  intro i r Lf lg st he _ _ h;cases he;exact h
 |cons o l ih=>
  intro i r Lf lg st he hsz hlg h;unfold VC at he;split at he
  ·rename_i c r' hc hr;cases he;obtain⟨e1,e2,e3,e4,e5,e7,e6⟩:=ib hc;obtain⟨x,E,f,hy,hk,h⟩:=h;simp only[List.length_cons] at hsz;refine⟨x,E,f,?_,fun p hp hn=>?_,?_⟩
   ·unfold XV at hy;rw[e2,e3] at hy;rcases e6 with ⟨hg,hc⟩ | ⟨j,fl,d,hg,hj,hc⟩
    ·rw[hc] at hy;exact⟨true,x,by unfold LB;rw[hg],fun _=>hy,rfl,fun h=>nomatch h⟩
    ·rw[hc] at hy;obtain⟨q,x0,k1,k2,k3,k4⟩:=hy;exact⟨q,x0,by unfold LB;rw[hg];exact⟨d,hj,k1⟩,k2,k3,k4⟩
   ·obtain⟨h1,h2⟩:=hlg p hp;refine hk p (h2 i (Ek _) (by omega) hn) ?_;rw[e4];exact List.mem_filter.2 ⟨List.mem_range.2 h1,hn⟩
   ·rw[e1] at h;refine ih (i+1) r' _ _ _ hr (by omega) (fun p hp=>?_) h;rcases List.mem_cons.1 hp with rfl | hp
    ·refine⟨Nat.lt_succ_self _,fun k h1 h2 h3=>?_⟩;have hl:c.lg=true:=by
      rw[e5];exact List.any_eq_true.2 ⟨k,List.mem_range.2 h2,by simp[Nat.blt_eq,h3];omega⟩
     unfold AR;rw[if_pos hl,e7 (.inr hl)];simp
    ·obtain⟨h1,h2⟩:=hlg p hp;refine⟨by omega,fun k h3 h4 h5=>?_⟩;have:=h2 k (by omega) h4 h5;unfold AR;split
     ·exact List.mem_cons_of_mem _ this
     ·exact this
  ·cases he
def LoopC (c:Cx) (x:CC) (Q:Exit→Sta→Prop) (st:Sta):Prop:=∀ a,Is c.n x a→AHead c a Q st
def J1 (K:Sta→Prop) (Q:Exit→Sta→Prop):Exit→Sta→Prop
 |.normal,st=>K st
 |e,st=>Q e st
def Pa (c:Cx) (K:Sta→Prop) (st:Sta):Prop:=∃ st',Le c st st'∧K st'
theorem Fg {c:Cx} {K:Sta→Prop} {st:Sta} (h:K st):Pa c K st:=⟨st,Le.refl,h⟩
theorem JI {c:Cx} {K:Sta→Prop} {st st':Sta} (h:Le c st st') (k:Pa c K st'):Pa c K st:=let ⟨st2,h2,k2⟩:=k;⟨st2,h.trans h2,k2⟩
def WPC (c:Cx):CC→(Exit→Sta→Prop)→Sta→Prop
 |.skip,Q,st=>Q .normal st
 |.exit i,Q,st=>Q (.exit i) st
 |.ret,Q,st=>Q .ret st
 |.reg ops live,Q,st=>Am c.P (fun st=>Q .normal (st.keep live)) ops [] st
 |.seq x y,Q,st=>WPC c x (J1 (WPC c y Q) Q) st
 |.cond o x y,Q,st=>∃ b,evs st.s o = .v (.bool b)∧(b=true→WPC c x Q st)∧(b=false→WPC c y Q st)
 |.block i x,Q,st=>WPC c x (Dh i Q) st
 |.loop x,Q,st=>LoopC c x Q st
 |.keep live x,Q,st=>WPC c x Q (st.keep live)
 |.stop x,Q,st=>Pa c (fun st=>WPC c x Q st) st
 |.scope x,Q,st=>WPC c x (oL Q) st
theorem K4 {c:Cx} (hm:c.P.follows .mixedOrders=true):∀ {x:CC} {a:Code} {Q:Exit→Sta→Prop} {st:Sta},Is c.n x a→WPC c x Q st→AWP c a Q st:=by
 intro x a Q st hi;induction hi generalizing Q st with
 |skip=>exact fun h=>ff h
 |exit i=>exact fun h=>eI h
 |ret=>exact fun h=>jw h
 |reg id ops draw live nms l hok hl=>
  intro h;intro a w I μ hs;have h1:=Wp ops.toList 0 l [] [] _ hl (by simp) (fun p hp=>by simp at hp) h;rw[gU] at h1;refine Um hm hok (K:=fun st=>Q .normal (st.keep live)) (fun st' a' w' I' μ' h1 h2=>?_) hs h1;obtain⟨I2,μ2,h3⟩:=YQ live a' w' I' μ' h1;exact⟨_,I2,μ2,h3,h2⟩
 |seq x y a b _ _ ih1 ih2=>
  intro h;refine ic ((ih1 h).mono fun e st' hq=>?_);cases e<;>first | exact ih2 hq | exact hq
 |cond o x y a b _ _ ih1 ih2=>
  intro ⟨q,hb,ht,hf⟩;exact dn hb (fun h=>ih1 (ht h)) (fun h=>ih2 (hf h))
 |block i x a _ ih=>exact fun h=>ZR (ih h)
 |loop x a hx _=>exact fun h=>bR (h a hx)
 |keep live x a _ ih=>
  intro h a w I μ hs;obtain⟨I2,μ2,h3⟩:=YQ live a w I μ hs;exact ih h a w I2 μ2 h3
 |stop x a _ ih=>
  intro ⟨st',h1,h2⟩ a w I μ hs;obtain⟨I2,μ2,h3⟩:=h1 a w I μ hs;exact ih h2 a w I2 μ2 h3
 |scope x a _ ih=>
  intro h a w I μ hs;refine wp_scope_straight (wp_mono (ih h a w I μ hs) fun e a' w' ⟨st',I',μ',h1,h2⟩=>?_);cases e with
  |goto l=>exact h2.elim
  |_=>exact⟨st',I',μ',h1,h2⟩
 |label l=>exact fun h a w I μ hs=>wp_label ⟨st,I,μ,hs,h⟩
theorem WPC.mono {c:Cx}:∀ {x:CC} {Q Q':Exit→Sta→Prop} {st:Sta},(∀ e st,Q e st→Q' e st)→WPC c x Q st→WPC c x Q' st
 |.skip,_,_,_,hq,h=>hq _ _ h
 |.exit _,_,_,_,hq,h=>hq _ _ h
 |.ret,_,_,_,hq,h=>hq _ _ h
 |.reg ops live,Q,Q',st,hq,h=>by
  have:∀ (ops:List CO) (lg:Lg) (st:Sta),Am c.P (fun st=>Q .normal (st.keep live)) ops lg st→Am c.P (fun st=>Q' .normal (st.keep live)) ops lg st:=by
   intro ops;induction ops with
   |nil=>exact fun lg st h=>hq _ _ h
   |cons o ops ih=>exact fun lg st ⟨x,E,f,h1,h2,h3⟩=>⟨x,E,f,h1,h2,ih _ _ h3⟩
  exact this ops _ st h
 |.seq x y,Q,Q',st,hq,h=>WPC.mono (x:=x) (fun e st' h'=>by cases e<;>first | exact WPC.mono (x:=y) hq h' | exact hq _ _ h') h
 |.cond o x y,Q,Q',st,hq,⟨b,h1,h2,h3⟩=>⟨b,h1,fun h=>WPC.mono hq (h2 h),fun h=>WPC.mono hq (h3 h)⟩
 |.block i x,Q,Q',st,hq,h=>WPC.mono (x:=x) (fun e st' h'=>by
   cases e with
   |exit j=>
    by_cases hj:j=i
    ·subst hj;rw[TR] at h' ⊢; exact hq _ _ h'
    ·rw[LP hj] at h' ⊢; exact hq _ _ h'
   |_=>exact hq _ _ h') h
 |.keep live x,Q,Q',st,hq,h=>WPC.mono (x:=x) hq h
 |.stop x,Q,Q',st,hq,⟨st',h1,h2⟩=>⟨st',h1,WPC.mono (x:=x) hq h2⟩
 |.scope x,Q,Q',st,hq,h=>WPC.mono (x:=x) (fun e st' h'=>by
   cases e with
   |goto l=>exact h'
   |_=>exact hq _ _ h') h
 |.loop x,Q,Q',st,hq,h=>fun a ha a' w I μ hs b k cs=>by
  obtain⟨e,a1,w1,⟨st',I',μ',h1,h2⟩,h3⟩:=h a ha a' w I μ hs b k cs;exact⟨e,a1,w1,⟨st',I',μ',h1,hq _ _ h2⟩,h3⟩
theorem VW {c:Cx} (hm:c.P.follows .mixedOrders=true) {x:CC} {Q:Exit→Sta→Prop} {st:Sta} (h:WPC c x (J1 (LoopC c x Q) Q) st):LoopC c x Q st:=fun a ha=>
 UC ((K4 hm ha h).mono fun e st' hq=>by cases e<;>first | exact hq a ha | exact hq)
theorem LoopC.le {c:Cx} {x:CC} {Q:Exit→Sta→Prop} {st st':Sta} (h:Le c st st') (k:LoopC c x Q st'):LoopC c x Q st:=fun a ha=>(k a ha).le h
def WZ:List Nat→CC→CC
 |999999::live,y=>.keep live y
 |999998::_,y=>.stop y
 |999997::live,y=>.keep live (.stop y)
 |_,y=>y
theorem ZQ {n:Nat} {m:List Nat} {y:CC} {b:Code} (h:Is n y b):Is n (WZ m y) b:=by
 unfold WZ;split
 ·exact .keep _ _ _ h
 ·exact .stop _ _ h
 ·exact .keep _ _ _ (.stop _ _ h)
 ·exact h
abbrev Mk:=List Nat × List (Nat × Nm)
def Ic (n:Nat):Code→List Mk→Option (CC × List Mk)
 |.skip,ls=>some (.skip,ls)
 |.exit i,ls=>some (.exit i,ls)
 |.ret,ls=>some (.ret,ls)
 |.region _ ops draw,(live,nms)::ls=>if Yg n ops draw=true then match VC ops draw (Xx ops) nms 0 ops.toList with
   |some l=>some (.reg l live,ls)
   |none=>none else none
 |.seq a b,ls=>match Ic n a ls with
  |some (x,m::ls)=>match Ic n b ls with
   |some (y,ls)=>some (.seq x (WZ m.1 y),ls)
   |none=>none
  |_=>none
 |.cond o a b,ls=>match Ic n a ls with
  |some (x,ls)=>match Ic n b ls with
   |some (y,ls)=>some (.cond o x y,ls)
   |none=>none
  |none=>none
 |.block i a,ls=>match Ic n a ls with
  |some (x,ls)=>some (.block i x,ls)
  |none=>none
 |.loop a,ls=>match Ic n a ls with
  |some (x,ls)=>some (.loop x,ls)
  |none=>none
 |.scope a,ls=>match Ic n a ls with
  |some (x,ls)=>some (.scope x,ls)
  |none=>none
 |.label _,ls=>some (.skip,ls)
 |_,_=>none
theorem jm {n:Nat}:∀ {a:Code} {ls ls':List Mk} {x:CC},Ic n a ls=some (x,ls')→Is n x a:=by
 intro a;induction a with
 |skip=>intro ls ls' x h;simp only[Ic] at h;cases h;exact .skip
 |exit i=>intro ls ls' x h;simp only[Ic] at h;cases h;exact .exit i
 |ret=>intro ls ls' x h;simp only[Ic] at h;cases h;exact .ret
 |region id ops draw=>
  intro ls ls' x h;cases ls with
  |nil=>simp[Ic] at h
  |cons live ls=>
   simp only[Ic] at h;split at h
   ·rename_i hok;split at h
    ·rename_i l hl;cases h;exact .reg _ _ _ _ _ _ hok hl
    ·cases h
   ·cases h
 |seq a b ih1 ih2=>
  intro ls ls' x h;simp only[Ic] at h;split at h
  ·rename_i q1 m l1 h1;split at h
   ·rename_i q2 l2 h2;cases h;exact .seq _ _ _ _ (ih1 h1) (ZQ (ih2 h2))
   ·cases h
  ·cases h
 |cond o a b ih1 ih2=>
  intro ls ls' x h;simp only[Ic] at h;split at h
  ·rename_i q1 l1 h1;split at h
   ·rename_i q2 l2 h2;cases h;exact .cond _ _ _ _ _ (ih1 h1) (ih2 h2)
   ·cases h
  ·cases h
 |block i a ih=>
  intro ls ls' x h;simp only[Ic] at h;split at h
  ·rename_i q1 l1 h1;cases h;exact .block _ _ _ (ih h1)
  ·cases h
 |loop a ih=>
  intro ls ls' x h;simp only[Ic] at h;split at h
  ·rename_i q1 l1 h1;cases h;exact .loop _ _ (ih h1)
  ·cases h
 |scope a ih=>
  intro ls ls' x h;simp only[Ic] at h;split at h
  ·rename_i q1 l1 h1;cases h;exact .scope _ _ (ih h1)
  ·cases h
 |label l=>intro ls ls' x h;simp only[Ic] at h;cases h;exact .label l
 |_=>intro ls ls' x h;cases ls<;>simp[Ic] at h
structure Ca (P:Program) (f:FuncId) (n:Nat) (rs:List ResultVar) (cc:CC):Prop where
 Aj:P.follows .mixedOrders=true
 ok:RU P f=true
 fn:∃ fn code,P.funcs[f]? = some fn∧fn.body=some code∧fn.ntmps=n∧fn.results.toList=rs∧Is n cc code
theorem oJ {P:Program} {f:FuncId} {fn:Func} {code:Code} {cc:CC} {ls:List Mk} {rs:List ResultVar} {n:Nat} (hm:P.follows .mixedOrders=true) (hk:RU P f=true) (hf:P.funcs[f]? = some fn) (hb:fn.body=some code)
  (hn:fn.ntmps=n) (hrs:fn.results.toList=rs) (hc:Ic n code ls=some (cc,[])):Ca P f n rs cc:=⟨hm,hk,fn,code,hf,hb,hn,hrs,jm hc⟩
def NK (P:Program) (rs:List ResultVar) (r:A):Exit→Sta→Prop:=Zz P rs fun r0 H=>Gu H r0 r
theorem Ag {P:Program} {f:FuncId} {n:Nat} {rs:List ResultVar} {cc:CC} {args:List A} {r:A} (t:Ca P f n rs cc) (ha:args.length≤n) (h:∀ w0 I0,WPC (cx P w0 I0 n) cc (NK P rs r) ⟨Mw args,H0⟩):Spec P f args r:=by
 obtain⟨hm,hk,fn,code,hf,hb,hn,hrs,hc⟩:=t;exact XD hk hf hb hn ha fun w0 I0=>K4 (c:=cx P w0 I0 n) hm hc (by rw[hrs];exact h w0 I0)
section
variable {P:Program} {H:Hp} {t u:TypeId}
def vc (x:VOb) (u:Nat):Option (List A):=match x with | ⟨u',.cells cs⟩=>if u'=u then some cs else none | _=>none
def vr (x:VOb) (u:Nat):Option (Nat × List A):=match x with | ⟨u',.arr s xs⟩=>if u'=u then some (s,xs) else none | _=>none
@[simp] theorem tE {u' u:Nat} {cs:List A}:vc ⟨u',.cells cs⟩ u=if u'=u then some cs else none:=rfl
@[simp] theorem AaF {u' u s:Nat} {xs:List A}:vr ⟨u',.arr s xs⟩ u=if u'=u then some (s,xs) else none:=rfl
@[simp] theorem yL {o:Nm} {u:Nat}:Q3 H o u=vc (H o) u:=rfl
@[simp] theorem MO {o:Nm} {u:Nat}:Ml H o u=vr (H o) u:=rfl
@[simp] theorem rS {o:Nm} {u off:Nat}:E9 P H t (.pob o u off)=match C3 P t,Cz P t with | some g,some sz=>(match vc (H o) u with | some cs=>Ji g sz (cs.drop off) | none=>none) | _,_=>none:=by
 unfold E9;cases C3 P t with
 |none=>rfl
 |some g=>
  cases Cz P t with
  |none=>rfl
  |some sz=>rfl
@[simp] theorem sU {o:Nm} {u i j:Nat}:E9 P H t (.pel o u i j)=match C3 P t,Cz P t with | some g,some sz=>(match vr (H o) u with | some (_,xs)=>(match xs[i]? with | some x=>Ji g sz (x.cells.drop j) | none=>none) | none=>none) | _,_=>none:=by
 unfold E9;cases C3 P t with
 |none=>rfl
 |some g=>
  cases Cz P t with
  |none=>rfl
  |some sz=>rfl
@[simp] theorem qf {o:Nm} {u off:Nat} {val:A}:Gs P H t (.pob o u off) val=match Cz P t with
  |some sz=>if val.cells.length=sz∧A.ones val.cells=true then (match vc (H o) u with | some cs=>if off+sz≤cs.length then some (.one o ⟨u,.cells (splice cs off val.cells)⟩) else none | none=>none) else none
  |none=>none:=by
 unfold Gs;cases Cz P t<;>rfl
def Wu (o:Nm) (u i j s sz:Nat) (xs:List A) (val:A):Option A→Option Eff
 |some x=>if j=0∧sz=s then some (.one o ⟨u,.arr s (xs.set i val)⟩)
  else if j+sz≤s∧x.isAgg=true then some (.one o ⟨u,.arr s (xs.set i (x.remake (splice x.cells j val.cells)))⟩) else none
 |none=>none
def j4 (o:Nm) (u i j sz:Nat) (val:A):Option (Nat × List A)→Option Eff
 |some (s,xs)=>Wu o u i j s sz xs val xs[i]?
 |none=>none
@[simp] theorem Xg {o:Nm} {u i j s sz:Nat} {xs:List A} {val:A}:j4 o u i j sz val (some (s,xs))=Wu o u i j s sz xs val xs[i]?:=rfl
@[simp] theorem kK {o:Nm} {u i j s sz:Nat} {xs:List A} {x val:A}:Wu o u i j s sz xs val (some x)=if j=0∧sz=s then some (.one o ⟨u,.arr s (xs.set i val)⟩)
  else if j+sz≤s∧x.isAgg=true then some (.one o ⟨u,.arr s (xs.set i (x.remake (splice x.cells j val.cells)))⟩) else none:=rfl
@[simp] theorem p6 {o:Nm} {u i j:Nat} {val:A}:Gs P H t (.pel o u i j) val=match Cz P t with
  |some sz=>if val.cells.length=sz∧A.ones val.cells=true then j4 o u i j sz val (vr (H o) u) else none
  |none=>none:=by
 unfold Gs;cases Cz P t with
 |none=>rfl
 |some sz=>
  simp only[MO];cases vr (H o) u with
  |none=>rfl
  |some p=>
   obtain⟨s,xs⟩:=p;simp only[Xg];cases xs[i]?<;>rfl
@[simp] theorem uV {d:Nm} {e:TypeId}:Mj P H d e=match A4 P e with | some z=>if A.ones (ES z).cells=true∧Cm d e=true then some (.pob d ((H d).u+1) 0,.one d ⟨(H d).u+1,.cells (ES z).cells⟩) else none | none=>none:=rfl
@[simp] theorem Aa0 {d:Nm} {e:TypeId} {a:A}:W0 H d e a=if A.ones a.cells=true∧Cm d e=true then some (.pob d ((H d).u+1) 0,.one d ⟨(H d).u+1,.cells a.cells⟩) else none:=rfl
@[simp] theorem y5 {a:A}:eT a=if a.isPtr=true then some a else none:=rfl
def kI (H:Hp) (d:Nm) (e:TypeId) (n c:Int):Option Nat→Option Value→Option Nat→Option (A × Eff)
 |some s,some z,some b=>if 0≤n∧n≤c∧b*c≤140737488355328∧0<b∧(ES z).cells.length=s∧A.ones (ES z).cells=true∧Cm d e=true then some (.osl d ((H d).u+1) s 0 n.toNat,.one d ⟨(H d).u+1,.arr s (List.replicate n.toNat (ES z))⟩) else none
 |_,_,_=>none
@[simp] theorem oW {d:Nm} {e:TypeId} {n c:Int} {s b:Nat} {z:Value}:kI H d e n c (some s) (some z) (some b)=if 0≤n∧n≤c∧b*c≤140737488355328∧0<b∧(ES z).cells.length=s∧A.ones (ES z).cells=true∧Cm d e=true then some (.osl d ((H d).u+1) s 0 n.toNat,.one d ⟨(H d).u+1,.arr s (List.replicate n.toNat (ES z))⟩) else none:=rfl
@[simp] theorem ia {d:Nm} {k k':IntKind} {n c:Int}:EB P H d t (.v (.int k n)) (.v (.int k' c))=match P.underlying t with | some (.slice e)=>kI H d e n c (Cz P e) (A4 P e) (Bb P e) | _=>none:=by
 unfold EB;cases P.underlying t with
 |none=>rfl
 |some q=>
  cases q<;>first
   |rfl
   |(rename_i e;cases Cz P e<;>cases A4 P e<;>cases Bb P e<;>rfl)
def apS (H:Hp) (d:Nm) (e:TypeId) (xs:List A):Option (List A)→Option Nat→Option Value→Option Nat→Option (A × Eff)
 |some zs,some s,some z,some b=>if 0<b∧(ES z).cells.length=s∧A.ones (ES z).cells=true then if C0 s xs=true∧(xs.length=0∨0<zs.length)∧(xs.length+zs.length)*b≤140737488355328∧Cm d e=true then some (.osl d ((H d).u+1) s 0 (xs.length+zs.length),.one d ⟨(H d).u+1,.arr s (xs++zs)⟩) else none else none
 |_,_,_,_=>none
@[simp] theorem wU {d:Nm} {e:TypeId} {xs zs:List A} {s b:Nat} {z:Value}:apS H d e xs (some zs) (some s) (some z) (some b)=if 0<b∧(ES z).cells.length=s∧A.ones (ES z).cells=true then if C0 s xs=true∧(xs.length=0∨0<zs.length)∧(xs.length+zs.length)*b≤140737488355328∧Cm d e=true then some (.osl d ((H d).u+1) s 0 (xs.length+zs.length),.one d ⟨(H d).u+1,.arr s (xs++zs)⟩) else none else none:=rfl
def zS (o:Nm) (e:TypeId) (v sz off len:Nat):Option (Nat × List A)→Option (List A)→Option Nat→Option Value→Option Nat→Option (A × Eff)
 |some (s',ys),some zs,some s,some z,some b=>if 0<b∧(ES z).cells.length=s∧A.ones (ES z).cells=true then if off=0∧s'=s∧sz=s∧len≤ys.length∧(len+zs.length)*b≤140737488355328∧Cm o e=true then some (.osl o (v+1) s 0 (len+zs.length),.one o ⟨v+1,.arr s (ys.take len++zs)⟩) else none else none
 |_,_,_,_,_=>none
@[simp] theorem vb {o:Nm} {e:TypeId} {v sz off len s' s b:Nat} {ys zs:List A} {z:Value}:zS o e v sz off len (some (s',ys)) (some zs) (some s) (some z) (some b)=if 0<b∧(ES z).cells.length=s∧A.ones (ES z).cells=true then if off=0∧s'=s∧sz=s∧len≤ys.length∧(len+zs.length)*b≤140737488355328∧Cm o e=true then some (.osl o (v+1) s 0 (len+zs.length),.one o ⟨v+1,.arr s (ys.take len++zs)⟩) else none else none:=rfl
@[simp] theorem pt {d:Nm} {xs:List A} {x:A}:DU P H d t u (.sl true xs) x=match P.underlying t with | some (.slice e)=>(match Cz P e with | some s=>apS H d e xs (FD P H s e u x) (some s) (A4 P e) (Bb P e) | none=>none) | _=>none:=by
 unfold DU;cases P.underlying t with
 |none=>rfl
 |some q=>
  cases q<;>try rfl
  rename_i e;simp only;cases Cz P e with
  |none=>rfl
  |some s=>
   cases A4 P e with
   |none=>simp only;cases FD P H s e u x<;>rfl
   |some z=>
    cases Bb P e with
    |none=>simp only;cases FD P H s e u x<;>rfl
    |some b=>simp only;cases FD P H s e u x<;>rfl
def apF (xs:List A):Option (List A)→Option Nat→Option Value→Option Nat→Option (A × Eff)
 |some zs,some s,some z,some b=>if 0<b∧(ES z).cells.length=s∧A.ones (ES z).cells=true then if zs.length=0 then some (.sl false xs,.nil) else none else none
 |_,_,_,_=>none
@[simp] theorem uj {xs zs:List A} {s b:Nat} {z:Value}:apF xs (some zs) (some s) (some z) (some b)=if 0<b∧(ES z).cells.length=s∧A.ones (ES z).cells=true then if zs.length=0 then some (.sl false xs,.nil) else none else none:=rfl
@[simp] theorem mY {d:Nm} {xs:List A} {x:A}:DU P H d t u (.sl false xs) x=match P.underlying t with | some (.slice e)=>(match Cz P e with | some s=>apF xs (FD P H s e u x) (some s) (A4 P e) (Bb P e) | none=>none) | _=>none:=by
 unfold DU;cases P.underlying t with
 |none=>rfl
 |some q=>
  cases q<;>try rfl
  rename_i e;simp only;cases Cz P e with
  |none=>rfl
  |some s=>
   cases A4 P e with
   |none=>simp only;cases FD P H s e u x<;>rfl
   |some z=>
    cases Bb P e with
    |none=>simp only;cases FD P H s e u x<;>rfl
    |some b=>simp only;cases FD P H s e u x<;>rfl
def cpO (o:Nm) (v sz off len s:Nat):Option (Nat × List A)→Option (List A)→Option (A × Eff)
 |some (s',ys),some zs=>if s'=s∧sz=s∧off+len≤ys.length then
   some (.v (.int .i64 (min zs.length len:Nat)),.one o ⟨v,.arr s (ys.take off++zs.take (min zs.length len)++ys.drop (off+min zs.length len))⟩) else none
 |_,_=>none
@[simp] theorem w5 {o:Nm} {v sz off len s s':Nat} {ys zs:List A}:cpO o v sz off len s (some (s',ys)) (some zs)=if s'=s∧sz=s∧off+len≤ys.length then
   some (.v (.int .i64 (min zs.length len:Nat)),.one o ⟨v,.arr s (ys.take off++zs.take (min zs.length len)++ys.drop (off+min zs.length len))⟩) else none:=rfl
@[simp] theorem r9 {o:Nm} {v sz off len:Nat} {x:A}:KV P H t (.osl o v sz off len) x=match P.underlying t with | some (.slice e)=>(match Cz P e with | some s=>cpO o v sz off len s (vr (H o) v) (F3 H s x) | none=>none) | _=>none:=by
 unfold KV;cases P.underlying t with
 |none=>rfl
 |some q=>
  cases q<;>try rfl
  rename_i e;simp only[MO];generalize vr (H o) v=r;cases Cz P e with
  |none=>rfl
  |some s=>simp only;cases F3 H s x<;>cases r<;>rfl
@[simp] theorem mM {d o:Nm} {v sz off len:Nat} {x:A}:DU P H d t u (.osl o v sz off len) x=match P.underlying t with | some (.slice e)=>(match Cz P e with | some s=>zS o e v sz off len (vr (H o) v) (FD P H s e u x) (some s) (A4 P e) (Bb P e) | none=>none) | _=>none:=by
 unfold DU;cases P.underlying t with
 |none=>rfl
 |some q=>
  cases q<;>try rfl
  rename_i e;simp only[MO];generalize vr (H o) v=r;cases Cz P e with
  |none=>rfl
  |some s=>
   cases A4 P e with
   |none=>simp only;cases FD P H s e u x<;>cases r<;>rfl
   |some z=>
    cases Bb P e with
    |none=>simp only;cases FD P H s e u x<;>cases r<;>rfl
    |some b=>
     simp only;cases FD P H s e u x with
     |none=>cases r<;>rfl
     |some zs=>cases r<;>simp only[zS]<;>(try split)<;>rfl
def dt (n:Int) (s:Nat):Option Value→Option Nat→Option (List A)
 |some z,some b=>if 0≤n∧n*b≤140737488355328∧0<b∧(ES z).cells.length=s∧A.ones (ES z).cells=true then some (List.replicate n.toNat (ES z)) else none
 |_,_=>none
@[simp] theorem kd {n:Int} {s b:Nat} {z:Value}:dt n s (some z) (some b)=if 0≤n∧n*b≤140737488355328∧0<b∧(ES z).cells.length=s∧A.ones (ES z).cells=true then some (List.replicate n.toNat (ES z)) else none:=rfl
@[simp] theorem yl {s e:Nat} {k:IntKind} {n:Int}:FD P H s e t (.v (.int k n))=match P.underlying t with | some (.int _)=>dt n s (A4 P e) (Bb P e) | _=>none:=by
 unfold FD;cases P.underlying t with
 |none=>rfl
 |some q=>
  cases q<;>first
   |rfl
   |(cases A4 P e<;>cases Bb P e<;>rfl)
@[simp] theorem zD {s e:Nat} {x:ByteArray}:FD P H s e t (.v (.string x))=match P.underlying t with | some .string=>if s=1 then some (x.data.toList.map fun b=>.v (.int .u8 b.toNat)) else none | _=>none:=by
 unfold FD;cases P.underlying t with
 |none=>rfl
 |some q=>cases q<;>rfl
@[simp] theorem AaU {s e:Nat} {f:Bool} {xs:List A}:FD P H s e t (.sl f xs)=match P.underlying t with | some (.slice _)=>if C0 s xs=true then some xs else none | _=>none:=by
 unfold FD;cases P.underlying t with
 |none=>rfl
 |some q=>cases q<;>rfl
def elO (s z off n:Nat):Option (Nat × List A)→Option (List A)
 |some (s',ys)=>if s'=s∧z=s∧off+n≤ys.length then some ((ys.drop off).take n) else none
 |none=>none
@[simp] theorem vQ {s z off n s':Nat} {ys:List A}:elO s z off n (some (s',ys))=if s'=s∧z=s∧off+n≤ys.length then some ((ys.drop off).take n) else none:=rfl
@[simp] theorem xk {s e u' z off n:Nat} {o:Nm}:FD P H s e t (.osl o u' z off n)=match P.underlying t with | some (.slice _)=>elO s z off n (vr (H o) u') | _=>none:=by
 unfold FD;cases P.underlying t with
 |none=>rfl
 |some q=>
  cases q<;>first
   |rfl
   |(simp only[F3,MO];cases vr (H o) u'<;>rfl)
def ixS (xs:List A) (i:Int):Option Nat→Option A
 |some m=>if 0≤i∧i<xs.length then (match xs[i.toNat]? with
     |some x=>if x.cells.length=m then some (.pim x.cells) else none
     |none=>none) else none
 |none=>none
@[simp] theorem wx {xs:List A} {i:Int} {m:Nat}:ixS xs i (some m)=if 0≤i∧i<xs.length then (match xs[i.toNat]? with
     |some x=>if x.cells.length=m then some (.pim x.cells) else none
     |none=>none) else none:=rfl
@[simp] theorem iW {k:IntKind} {i:Int} {f:Bool} {xs:List A}:A8 P t (.sl f xs) (.v (.int k i))=match P.underlying t with | some (.slice e)=>ixS xs i (Cz P e) | _=>none:=by
 unfold A8;cases P.underlying t with
 |none=>rfl
 |some q=>
  cases q<;>first
   |rfl
   |(rename_i e;cases h:Cz P e<;>first | rfl | simp[A.shift,h] | (simp only[h];rfl))
def ixO (o:Nm) (u z off n:Nat) (i:Int):Option Nat→Option A
 |some m=>if 0≤i∧i<n∧z=m then some (.pel o u (off+i.toNat) 0) else none
 |none=>none
@[simp] theorem uh {o:Nm} {u z off n m:Nat} {i:Int}:ixO o u z off n i (some m)=if 0≤i∧i<n∧z=m then some (.pel o u (off+i.toNat) 0) else none:=rfl
@[simp] theorem gm {u z off n:Nat} {o:Nm} {k:IntKind} {i:Int}:A8 P t (.osl o u z off n) (.v (.int k i))=match P.underlying t with | some (.slice e)=>ixO o u z off n i (Cz P e) | _=>none:=by
 unfold A8;cases P.underlying t with
 |none=>rfl
 |some q=>
  cases q<;>first
   |rfl
   |(rename_i e;cases h:Cz P e<;>first | rfl | simp[A.shift,h] | (simp only[h];rfl))
def xV (a:A) (n:Nat) (i:Int):Option Nat→Option A
 |some m=>if 0≤i∧i<n then a.shift (i.toNat*m) else none
 |none=>none
@[simp] theorem tv {a:A} {n m:Nat} {i:Int}:xV a n i (some m)=if 0≤i∧i<n then a.shift (i.toNat*m) else none:=rfl
@[simp] theorem gr {u p:Nat} {o:Nm} {k:IntKind} {i:Int}:A8 P t (.pob o u p) (.v (.int k i))=match P.underlying t with | some (.array n e)=>xV (.pob o u p) n i (Cz P e) | _=>none:=by
 unfold A8;cases P.underlying t with
 |none=>rfl
 |some q=>
  cases q<;>first
   |rfl
   |(rename_i e;cases h:Cz P e<;>first | rfl | simp[A.shift,h] | (simp only[h];rfl))
@[simp] theorem gi {cs:List A} {k:IntKind} {i:Int}:A8 P t (.pim cs) (.v (.int k i))=match P.underlying t with | some (.array n e)=>xV (.pim cs) n i (Cz P e) | _=>none:=by
 unfold A8;cases P.underlying t with
 |none=>rfl
 |some q=>
  cases q<;>first
   |rfl
   |(rename_i e;cases h:Cz P e<;>first | rfl | simp[A.shift,h] | (simp only[h];rfl))
@[simp] theorem gu {u p q':Nat} {o:Nm} {k:IntKind} {i:Int}:A8 P t (.pel o u p q') (.v (.int k i))=match P.underlying t with | some (.array n e)=>xV (.pel o u p q') n i (Cz P e) | _=>none:=by
 unfold A8;cases P.underlying t with
 |none=>rfl
 |some q=>
  cases q<;>first
   |rfl
   |(rename_i e;cases h:Cz P e<;>first | rfl | simp[A.shift,h] | (simp only[h];rfl))
def ixV (P:Program) (e:TypeId) (cs:List A) (n:Nat) (i:Int):Option Nat→Option A
 |some m=>if 0≤i∧i<n then LV P e cs (i.toNat*m) else none
 |none=>none
@[simp] theorem vO {e:TypeId} {cs:List A} {n m:Nat} {i:Int}:ixV P e cs n i (some m)=if 0≤i∧i<n then LV P e cs (i.toNat*m) else none:=rfl
@[simp] theorem sX {cs:List A} {off:Nat}:LV P t cs off=match C3 P t,Cz P t with | some g,some sz=>Ji g sz (cs.drop off) | _,_=>none:=rfl
@[simp] theorem rr {cs:List A} {k:IntKind} {i:Int}:JP P t (.agg cs) (.v (.int k i))=match P.underlying t with | some (.array n e)=>ixV P e cs n i (Cz P e) | _=>none:=by
 unfold JP;cases P.underlying t with
 |none=>rfl
 |some q=>
  cases q<;>first
   |rfl
   |(rename_i e;cases h:Cz P e<;>first | rfl | simp[A.shift,h] | (simp only[h];rfl))
@[simp] theorem rE {s:ByteArray} {k:IntKind} {i:Int}:JP P t (.v (.string s)) (.v (.int k i))=match P.underlying t with | some .string=>if 0≤i then (s[i.toNat]?).map (fun b=>.v (.int .u8 b.toNat)) else none | _=>none:=by
 unfold JP;cases P.underlying t with
 |none=>rfl
 |some q=>cases q<;>rfl
@[simp] theorem Aay {f:Bool} {xs:List A}:Kv P t (.sl f xs)=match P.underlying t with | some (.slice _)=>some (.v (.int .i64 xs.length)) | some (.array n _)=>some (.v (.int .i64 n)) | _=>none:=by
 unfold Kv;cases P.underlying t with
 |none=>rfl
 |some q=>cases q<;>rfl
@[simp] theorem xP {u z off n:Nat} {o:Nm}:Kv P t (.osl o u z off n)=match P.underlying t with | some (.slice _)=>some (.v (.int .i64 n)) | some (.array n _)=>some (.v (.int .i64 n)) | _=>none:=by
 unfold Kv;cases P.underlying t with
 |none=>rfl
 |some q=>cases q<;>rfl
@[simp] theorem zq {s:ByteArray}:Kv P t (.v (.string s))=match P.underlying t with | some .string=>some (.v (.int .i64 s.size)) | some (.array n _)=>some (.v (.int .i64 n)) | _=>none:=by
 unfold Kv;cases P.underlying t with
 |none=>rfl
 |some q=>cases q<;>rfl
@[simp] theorem za {cs:List A}:Kv P t (.agg cs)=match P.underlying t with | some (.array n _)=>some (.v (.int .i64 n)) | _=>none:=by
 unfold Kv;cases P.underlying t with
 |none=>rfl
 |some q=>cases q<;>rfl
@[simp] theorem zd {o:Nm} {u p:Nat}:Kv P t (.pob o u p)=match P.underlying t with | some (.array n _)=>some (.v (.int .i64 n)) | _=>none:=by
 unfold Kv;cases P.underlying t with
 |none=>rfl
 |some q=>cases q<;>rfl
def slS (f:Bool) (xs:List A):Option (Nat × Nat × Option Nat)→Option Nat→Option A
 |some (l,h,m),some s=>if C0 s xs=true then some (.sl (F2 m f h xs.length) ((xs.drop l).take (h-l))) else none
 |_,_=>none
@[simp] theorem sg {f:Bool} {xs:List A} {l h s:Nat} {m:Option Nat}:slS f xs (some (l,h,m)) (some s)=if C0 s xs=true then some (.sl (F2 m f h xs.length) ((xs.drop l).take (h-l))) else none:=rfl
@[simp] theorem wD {f:Bool} {xs:List A} {s:Option Nat}:slS f xs none s=none:=by cases s<;>rfl
@[simp] theorem ti {f:Bool} {xs:List A} {lo hi mx:Option A}:Gn P t (.sl f xs) lo hi mx=match P.underlying t with | some (.slice e)=>slS f xs (Cj xs.length lo hi mx) (Cz P e) | _=>none:=by
 unfold Gn;cases P.underlying t with
 |none=>rfl
 |some q=>
  cases q<;>first
   |rfl
   |(rename_i e;cases Cj xs.length lo hi mx<;>cases Cz P e<;>rfl)
def slO (o:Nm) (u z off:Nat):Option (Nat × Nat × Option Nat)→Option Nat→Option A
 |some (l,h,_),some s=>if s=z then some (.osl o u z (off+l) (h-l)) else none
 |_,_=>none
@[simp] theorem sC {o:Nm} {u z off l h s:Nat} {m:Option Nat}:slO o u z off (some (l,h,m)) (some s)=if s=z then some (.osl o u z (off+l) (h-l)) else none:=rfl
@[simp] theorem vF {o:Nm} {u z off:Nat} {s:Option Nat}:slO o u z off none s=none:=by cases s<;>rfl
@[simp] theorem qN {u z off n:Nat} {o:Nm} {lo hi mx:Option A}:Gn P t (.osl o u z off n) lo hi mx=match P.underlying t with | some (.slice e)=>slO o u z off (Cj n lo hi mx) (Cz P e) | _=>none:=by
 unfold Gn;cases P.underlying t with
 |none=>rfl
 |some q=>
  cases q<;>first
   |rfl
   |(rename_i e;cases Cj n lo hi mx<;>cases Cz P e<;>rfl)
def zX (cs:List A) (n:Nat):Option (Nat × Nat × Option Nat)→Option Nat→Option A
 |some (l,h,m),some s=>if s=1∧n≤cs.length then some (.sl (F2 m true h n) ((cs.drop l).take (h-l))) else none
 |_,_=>none
@[simp] theorem tR {cs:List A} {n l h s:Nat} {m:Option Nat}:zX cs n (some (l,h,m)) (some s)=if s=1∧n≤cs.length then some (.sl (F2 m true h n) ((cs.drop l).take (h-l))) else none:=rfl
@[simp] theorem wF {cs:List A} {n:Nat} {s:Option Nat}:zX cs n none s=none:=by cases s<;>rfl
@[simp] theorem qI {cs:List A} {lo hi mx:Option A}:Gn P t (.pim cs) lo hi mx=match P.underlying t with | some (.array n e)=>zX cs n (Cj n lo hi mx) (Cz P e) | _=>none:=by
 unfold Gn;cases P.underlying t with
 |none=>rfl
 |some q=>
  cases q<;>first
   |rfl
   |(rename_i n e;cases Cj n lo hi mx<;>cases Cz P e<;>rfl)
@[simp] theorem qz {s:ByteArray} {lo hi mx:Option A}:Gn P t (.v (.string s)) lo hi mx=match P.underlying t with | some .string=>(match Cj s.size lo hi mx with | some (l,h,none)=>some (.v (.string (s.extract l h))) | _=>none) | _=>none:=by
 unfold Gn;cases P.underlying t with
 |none=>rfl
 |some q=>cases q<;>rfl
@[simp] theorem xb {r:IntKind} {n:Int}:Jo P t u (.v (.int r n))=match P.underlying t,P.underlying u with | some _,some (.int k)=>some (.v (.int k (k.wrap n))) | _,_=>none:=by
 unfold Jo;cases P.underlying t with
 |none=>rfl
 |some q=>cases P.underlying u with
  |none=>rfl
  |some d=>cases d<;>rfl
@[simp] theorem zl {x:ByteArray}:Jo P t u (.v (.string x))=match P.underlying t,P.underlying u with | some _,some .string=>some (.v (.string x)) | _,_=>none:=by
 unfold Jo;cases P.underlying t with
 |none=>rfl
 |some q=>cases P.underlying u with
  |none=>rfl
  |some d=>cases d<;>rfl
def fH (P:Program) (s:TypeId) (f:Nat):Option (TypeId × Nat):=match P.underlying s with
 |some (.struct fs)=>(fs[f]?).map fun fd=>(fd.type,fd.offset)
 |_=>none
@[simp] theorem pZ {cs:List A} {f:Nat}:L5 P t (.agg cs) f=match fH P t f with | some (ft,off)=>LV P ft cs off | none=>none:=by
 unfold L5 fH;cases P.underlying t with
 |none=>rfl
 |some q=>
  cases q<;>first
   |rfl
   |(rename_i fs;simp only;cases fs[f]?<;>rfl)
@[simp] theorem Aa9 {s e:Nat} {a:Option Addr} {c:Nat}:FD P H s e t (.v (.slice a 0 c))=match P.underlying t with | some (.slice _)=>some [] | _=>none:=by
 unfold FD;cases P.underlying t with
 |none=>rfl
 |some q=>cases q<;>rfl
def JW:Nat→List (Nat × A)→Bool
 |_,[]=>true
 |k,(i,_)::l=>i == k&&JW (k+1) l
@[simp] theorem qO {k:Nat}:JW k []=true:=rfl
@[simp] theorem QN {k i:Nat} {x:A} {l:List (Nat × A)}:JW k ((i,x)::l)=(i == k&&JW (k+1) l):=rfl
theorem Ky:∀ (l:List (Nat × A)) (k:Nat),JW k l=true→l.map (·.1)=List.range' k l.length
 |[],k,_=>rfl
 |(i,x)::l,k,h=>by
  simp only[QN,Bool.and_eq_true,beq_iff_eq] at h;simp only[List.map_cons,List.length_cons,List.range'_succ];rw[h.1,Ky l (k+1) h.2]
def ug (len:Nat) (ps:List (Nat × A)):Option Nat→Option Value→Option A
 |some s,some z=>if JW 0 ps=true∧ps.length=len∧len*s≤16777216∧(ES z).cells.length=s∧A.ones (ES z).cells=true∧(ps.all fun p=>p.2.cells.length == s&&A.ones p.2.cells&&p.2.cells.all A.bare1)=true then some (.sl true (ps.map (·.2))) else none
 |_,_=>none
@[simp] theorem Zj {len s:Nat} {z:Value} {ps:List (Nat × A)}:ug len ps (some s) (some z)=if JW 0 ps=true∧ps.length=len∧len*s≤16777216∧(ES z).cells.length=s∧A.ones (ES z).cells=true∧(ps.all fun p=>p.2.cells.length == s&&A.ones p.2.cells&&p.2.cells.all A.bare1)=true then some (.sl true (ps.map (·.2))) else none:=rfl
theorem Kp:∀ (l:List (Nat × A)) (k:Nat),l.map (·.1)=List.range' k l.length→JW k l=true
 |[],k,_=>rfl
 |(i,x)::l,k,h=>by
  simp only[List.map_cons,List.length_cons,List.range'_succ,List.cons.injEq] at h;simp only[QN,Bool.and_eq_true,beq_iff_eq];exact⟨h.1,Kp l (k+1) h.2⟩
@[simp] theorem gz {len:Nat} {ps:List (Nat × A)}:EJ P t len ps=match P.underlying t with | some (.slice e)=>ug len ps (Cz P e) (A4 P e) | _=>none:=by
 unfold EJ;cases P.underlying t with
 |none=>rfl
 |some q=>
  cases q<;>try rfl
  rename_i e;simp only;cases Cz P e with
  |none=>rfl
  |some s=>
   cases A4 P e with
   |none=>rfl
   |some z=>
    have he:(ps.map (·.1)=List.range len) ↔ (JW 0 ps=true∧ps.length=len):=by
     constructor
     ·intro h;have hl:ps.length=len:=by have:=congrArg List.length h;simpa using this
      exact⟨Kp ps 0 (by rw[h,hl,List.range_eq_range']),hl⟩
     ·rintro⟨h1,h2⟩;rw[Ky _ _ h1,h2,List.range_eq_range']
    simp only[Zj,he,and_assoc]
def uX (H:Hp) (d:Nm) (e:TypeId) (len:Nat) (ps:List (Nat × A)):Option Nat→Option Value→Option (A × Eff)
 |some s,some z=>if JW 0 ps=true∧ps.length=len∧len*s≤16777216∧(ES z).cells.length=s∧A.ones (ES z).cells=true∧(ps.all fun p=>p.2.cells.length == s&&A.ones p.2.cells)=true∧Cm d e=true then some (.osl d ((H d).u+1) s 0 len,.one d ⟨(H d).u+1,.arr s (ps.map (·.2))⟩) else none
 |_,_=>none
@[simp] theorem ZE {H:Hp} {d:Nm} {e:TypeId} {len s:Nat} {z:Value} {ps:List (Nat × A)}:uX H d e len ps (some s) (some z)=if JW 0 ps=true∧ps.length=len∧len*s≤16777216∧(ES z).cells.length=s∧A.ones (ES z).cells=true∧(ps.all fun p=>p.2.cells.length == s&&A.ones p.2.cells)=true∧Cm d e=true then some (.osl d ((H d).u+1) s 0 len,.one d ⟨(H d).u+1,.arr s (ps.map (·.2))⟩) else none:=rfl
@[simp] theorem cW {H:Hp} {d:Nm} {len:Nat} {ps:List (Nat × A)}:Dz P H d t len ps=match P.underlying t with | some (.slice e)=>uX H d e len ps (Cz P e) (A4 P e) | _=>none:=by
 unfold Dz;cases P.underlying t with
 |none=>rfl
 |some q=>
  cases q<;>try rfl
  rename_i e;simp only;cases Cz P e with
  |none=>rfl
  |some s=>
   cases A4 P e with
   |none=>rfl
   |some z=>
    have he:(ps.map (·.1)=List.range len) ↔ (JW 0 ps=true∧ps.length=len):=by
     constructor
     ·intro h;have hl:ps.length=len:=by have:=congrArg List.length h;simpa using this
      exact⟨Kp ps 0 (by rw[h,hl,List.range_eq_range']),hl⟩
     ·rintro⟨h1,h2⟩;rw[Ky _ _ h1,h2,List.range_eq_range']
    simp only[ZE,he,and_assoc]
@[simp] theorem iE {cs:List A}:H9 P .eql t (.pim cs) (.v (.pointer none))=match P.underlying t with | some (.pointer _)=>some (.v (.bool false)) | _=>none:=by
 show(JE P 100 t _ _).map _=_;unfold JE;cases P.underlying t with
 |none=>rfl
 |some q=>cases q<;>rfl
@[simp] theorem js {cs:List A}:H9 P .neq t (.pim cs) (.v (.pointer none))=match P.underlying t with | some (.pointer _)=>some (.v (.bool true)) | _=>none:=by
 show(JE P 100 t _ _).map _=_;unfold JE;cases P.underlying t with
 |none=>rfl
 |some q=>cases q<;>rfl
@[simp] theorem gJ {o:Nm} {v p:Nat}:H9 P .eql t (.pob o v p) (.v (.pointer none))=match P.underlying t with | some (.pointer _)=>some (.v (.bool false)) | _=>none:=by
 show(JE P 100 t _ _).map _=_;unfold JE;cases P.underlying t with
 |none=>rfl
 |some q=>cases q<;>rfl
@[simp] theorem iX {o:Nm} {v p:Nat}:H9 P .neq t (.pob o v p) (.v (.pointer none))=match P.underlying t with | some (.pointer _)=>some (.v (.bool true)) | _=>none:=by
 show(JE P 100 t _ _).map _=_;unfold JE;cases P.underlying t with
 |none=>rfl
 |some q=>cases q<;>rfl
@[simp] theorem iZ {o:Nm} {v p q':Nat}:H9 P .eql t (.pel o v p q') (.v (.pointer none))=match P.underlying t with | some (.pointer _)=>some (.v (.bool false)) | _=>none:=by
 show(JE P 100 t _ _).map _=_;unfold JE;cases P.underlying t with
 |none=>rfl
 |some q=>cases q<;>rfl
@[simp] theorem ju {o:Nm} {v p q':Nat}:H9 P .neq t (.pel o v p q') (.v (.pointer none))=match P.underlying t with | some (.pointer _)=>some (.v (.bool true)) | _=>none:=by
 show(JE P 100 t _ _).map _=_;unfold JE;cases P.underlying t with
 |none=>rfl
 |some q=>cases q<;>rfl
@[simp] theorem ik:H9 P .eql t (.v (.pointer none)) (.v (.pointer none))=match P.underlying t with | some (.pointer _)=>some (.v (.bool true)) | _=>none:=by
 show(JE P 100 t _ _).map _=_;unfold JE;cases P.underlying t with
 |none=>rfl
 |some q=>cases q<;>rfl
@[simp] theorem iP:H9 P .neq t (.v (.pointer none)) (.v (.pointer none))=match P.underlying t with | some (.pointer _)=>some (.v (.bool false)) | _=>none:=by
 show(JE P 100 t _ _).map _=_;unfold JE;cases P.underlying t with
 |none=>rfl
 |some q=>cases q<;>rfl
@[simp] theorem gB {a b:Bool}:H9 P .eql t (.v (.bool a)) (.v (.bool b))=match P.underlying t with | some .bool=>some (.v (.bool (a == b))) | _=>none:=by
 show(JE P 100 t _ _).map _=_;unfold JE;cases P.underlying t with
 |none=>rfl
 |some q=>cases q<;>rfl
@[simp] theorem gE {a b:Bool}:H9 P .neq t (.v (.bool a)) (.v (.bool b))=match P.underlying t with | some .bool=>some (.v (.bool (!(a == b)))) | _=>none:=by
 show(JE P 100 t _ _).map _=_;unfold JE;cases P.underlying t with
 |none=>rfl
 |some q=>cases q<;>rfl
end
def Gt {α:Type} (F:Option α) (K:α→Prop):Prop:=∃ x,F=some x∧K x
def F6 (q:Bool) (F:Option A) (K:A→Prop):Prop:=∃ x,(q=true→F=some x)∧K (gd q x)
def Rp (q:Bool) (F:Prop):Prop:=q=true→F
def Px (b:Bool) (F G:Prop):Prop:=(b=true→F)∧(b=false→G)
@[congr] theorem wT {α:Type} {F F':Option α} {K:α→Prop} (h:F=F'):Gt F K=Gt F' K:=by rw[h]
@[congr] theorem qH {q q':Bool} {F F':Option A} {K:A→Prop} (h1:q=q') (h2:F=F'):F6 q F K=F6 q' F' K:=by rw[h1,h2]
@[congr] theorem rl {b b':Bool} {F G:Prop} (h:b=b'):Px b F G=Px b' F G:=by rw[h]
@[congr] theorem o7 {P:Program} {K:Sta→Prop} {l:List CO} {lg lg':Lg} {st st':Sta} (h0:lg=lg') (h:st=st'):Am P K l lg st=Am P K l lg' st':=by rw[h0,h]
@[congr] theorem pE {c:Cx} {x:CC} {Q:Exit→Sta→Prop} {st st':Sta} (h:st=st'):WPC c x Q st=WPC c x Q st':=by rw[h]
@[congr] theorem j5 {c:Cx} {x:CC} {Q:Exit→Sta→Prop} {st st':Sta} (h:st=st'):LoopC c x Q st=LoopC c x Q st':=by rw[h]
@[congr] theorem kW {K:Sta→Prop} {Q:Exit→Sta→Prop} {e e':Exit} {st st':Sta} (h0:e=e') (h:st=st'):J1 K Q e st=J1 K Q e' st':=by rw[h0,h]
@[congr] theorem j3 {c:Cx} {K:Sta→Prop} {st st':Sta} (h:st=st'):Pa c K st=Pa c K st':=by rw[h]
@[congr] theorem gG {i:Nat} {Q:Exit→Sta→Prop} {e e':Exit} {st st':Sta} (h0:e=e') (h:st=st'):Dh i Q e st=Dh i Q e' st':=by rw[h0,h]
@[congr] theorem qF {Q:Exit→Sta→Prop} {e e':Exit} {st st':Sta} (h0:e=e') (h:st=st'):oL Q e st=oL Q e' st':=by rw[h0,h]
@[simp] theorem zk {α:Type} {x:α} {K:α→Prop}:Gt (some x) K=K x:=by simp[Gt]
@[simp] theorem Aax {α:Type} {C:Prop} [Decidable C] {F G:Option α} {K:α→Prop}:Gt (if C then F else G) K=((C→Gt F K)∧(¬C→Gt G K)):=by
 by_cases h:C<;>simp[h]
@[simp] theorem zO {α:Type} {K:α→Prop}:Gt none K=False:=by simp[Gt]
@[simp high] theorem x9 {α:Type} {C:Prop} [Decidable C] {F:Option α} {K:α→Prop}:Gt (if C then F else none) K=(C∧Gt F K):=by
 by_cases h:C<;>simp[h]
@[simp] theorem rR {q:Bool} {x:A} {K:A→Prop}:F6 q (some x) K=K (gd q x):=by
 apply propext;constructor
 ·rintro⟨y,h1,h2⟩;cases q
  ·exact h2
  ·cases h1 rfl;exact h2
 ·exact fun h=>⟨x,fun _=>rfl,h⟩
@[simp high] theorem ss {q:Bool} {C:Prop} [Decidable C] {F:Option A} {K:A→Prop}:F6 q (if C then F else none) K=(Rp q C∧F6 q F K):=by
 cases q
 ·simp[F6,Rp]
 ·by_cases h:C<;>simp[h,F6,Rp]
@[simp] theorem sH {F:Option A} {K:A→Prop}:F6 true F K=Gt F K:=by simp[F6,Gt,gd]
@[simp] theorem rC {F:Option A} {K:A→Prop}:F6 false F K=K (.v undef):=by simp[F6,gd]
@[simp] theorem tF {F:Prop}:Rp true F=F:=by simp[Rp]
@[simp] theorem qA {F:Prop}:Rp false F=True:=by simp[Rp]
@[simp] theorem j9 {q:Bool}:Rp q True=True:=by simp[Rp]
@[simp] theorem oC {p:Prop} [Decidable p] {F:Prop}:Rp (decide p) F=(p→F):=by simp[Rp]
@[simp] theorem vK {F G:Prop}:Px true F G=F:=by simp[Px]
@[simp] theorem qV {F G:Prop}:Px false F G=G:=by simp[Px]
@[simp] theorem mn {p:Prop} [Decidable p] {F G:Prop}:Px (decide p) F G=((p→F)∧(¬p→G)):=by simp[Px]
@[simp] theorem xJ {b:Bool} {F G:Prop}:Px (!b) F G=Px b G F:=by cases b<;>simp
@[simp] theorem zn {a b:Bool} {F G:Prop}:Px (a&&b) F G=(((a&&b)=true→F)∧((a&&b)=false→G)):=rfl
@[simp] theorem Aag {a b:Bool} {F G:Prop}:Px (a || b) F G=(((a || b)=true→F)∧((a || b)=false→G)):=rfl
@[simp] theorem uO {b:Bool} {F:Prop}:Px b F F=F:=by cases b<;>simp
@[simp] theorem zJ {x:A}:gd true x=x:=rfl
@[simp] theorem tf {x:A}:gd false x = .v undef:=rfl
@[simp] theorem AaH {q:Bool} {x y:A}:(bif q then gd q x else y)=bif q then x else y:=by cases q<;>rfl
def ng (b:Bool):Bool:=!b
@[simp] theorem rV:ng true=false:=rfl
@[simp] theorem rG:ng false=true:=rfl
@[simp] theorem xH {b:Bool}:(ng b=true)=(b=false):=by cases b<;>simp[ng]
@[simp] theorem vk {b:Bool}:(ng b=false)=(b=true):=by cases b<;>simp[ng]
@[simp] theorem AaN {b:Bool}:ng (!b)=b:=by cases b<;>rfl
@[simp] theorem lr {q:Bool} {x y:A}:(bif q then x else gd (!q) y)=bif q then x else y:=by cases q<;>rfl
@[simp] theorem o8 {q c:Bool} {x y:A}:gd q (bif c then x else gd (q&&!c) y)=gd q (bif c then x else y):=by cases q<;>cases c<;>rfl
@[simp] theorem Aat {b:Bool} {F:Prop}:Rp (ng b) F=(b=false→F):=by cases b<;>simp[Rp]
@[simp] theorem yv {a b:Bool} {F:Prop}:Rp (a&&b) F=Rp a (Rp b F):=by cases a<;>cases b<;>simp[Rp]
@[simp] theorem AaG {a b:Bool} {F:Prop}:Rp (a || b) F=(Rp a F∧Rp b F):=by cases a<;>cases b<;>simp[Rp]
@[simp] theorem xo {a:Bool} {F:Prop}:Rp (!a) F=(a=false→F):=by cases a<;>simp[Rp]
@[simp] theorem Aao {b:Bool} {F G:Prop}:Px (ng b) F G=Px b G F:=by cases b<;>simp[Px]
@[simp] theorem y7 {q:Bool} {x y:A}:(bif q then x else gd (ng q) y)=bif q then x else y:=by cases q<;>rfl
@[simp] theorem mc {b:Bool}:BK (.v (.bool b)) true=some b:=by cases b<;>rfl
@[simp] theorem j6 {b:Bool}:BK (.v (.bool b)) false=some (ng b):=by cases b<;>rfl
@[simp] theorem kC {f:Bool}:BK (.v undef) f=some false:=rfl
@[simp] theorem uF {q b:Bool}:BK (gd q (.v (.bool b))) true=some (q&&b):=by cases q<;>cases b<;>rfl
@[simp] theorem qP {q b:Bool}:BK (gd q (.v (.bool b))) false=some (q&&ng b):=by cases q<;>cases b<;>rfl
@[simp] theorem xA {q c:Bool} {x y:A}:gd q (bif c then gd (q&&c) x else y)=gd q (bif c then x else y):=by cases q<;>cases c<;>rfl
@[simp] theorem xd {q c:Bool} {x y:A}:gd q (bif c then x else gd (q&&ng c) y)=gd q (bif c then x else y):=by cases q<;>cases c<;>rfl
@[simp] theorem AbG {q:Bool} {x:A}:gd q (gd q x)=gd q x:=by cases q<;>rfl
@[simp] theorem nu {b:Bool}:VT (.v (.bool b))=some b:=rfl
@[simp] theorem qd {b:Bool} {x y:A}:Uu (.v (.bool b)) x y=some (bif b then x else y):=rfl
@[simp] theorem qE {α:Type} {b:Bool} {x:α}:(bif b then x else x)=x:=by cases b<;>rfl
section
variable {c:Cx} {Q:Exit→Sta→Prop} {st:Sta} {K:Sta→Prop}
@[simp] theorem vP:WPC c .skip Q st=Q .normal st:=rfl
@[simp] theorem sy {i:Nat}:WPC c (.exit i) Q st=Q (.exit i) st:=rfl
@[simp] theorem yZ:WPC c .ret Q st=Q .ret st:=rfl
def j0 (Q:Exit→Sta→Prop) (live:List Nat) (st:Sta):Prop:=Q .normal (st.keep live)
@[simp] theorem tD {live:List Nat}:j0 Q live st=Q .normal (st.keep live):=rfl
@[simp] theorem zH {ops:List CO} {live:List Nat}:WPC c (.reg ops live) Q st=Am c.P (j0 Q live) ops [] st:=rfl
@[simp] theorem xX {x y:CC}:WPC c (.seq x y) Q st=WPC c x (J1 (WPC c y Q) Q) st:=rfl
@[simp] theorem qS {i:Nat} {x:CC}:WPC c (.block i x) Q st=WPC c x (Dh i Q) st:=rfl
@[simp] theorem vf {x:CC}:WPC c (.loop x) Q st=LoopC c x Q st:=rfl
@[simp] theorem rF {x:CC}:WPC c (.scope x) Q st=WPC c x (oL Q) st:=rfl
@[simp] theorem oE:oL Q .normal st=Q .normal st:=rfl
@[simp] theorem sc {i:Nat}:oL Q (.exit i) st=Q (.exit i) st:=rfl
@[simp] theorem xM:oL Q .ret st=Q .ret st:=rfl
@[simp] theorem vp {x:CC}:WPC c (.stop x) Q st=Pa c (WPC c x Q) st:=rfl
@[simp] theorem uz {live:List Nat} {x:CC}:WPC c (.keep live x) Q st=WPC c x Q (st.keep live):=rfl
@[simp] theorem vD {o:Operand} {x y:CC}:WPC c (.cond o x y) Q st=Gt (VT (evs st.s o)) fun b=>Px b (WPC c x Q st) (WPC c y Q st):=by
 apply propext;constructor
 ·rintro⟨b,h1,h2,h3⟩;exact⟨b,by rw[h1];rfl,h2,h3⟩
 ·rintro⟨b,h1,h2,h3⟩;exact⟨b,Qp h1,h2,h3⟩
@[simp] theorem jG:J1 K Q .normal st=K st:=rfl
@[simp] theorem nr {i:Nat}:J1 K Q (.exit i) st=Q (.exit i) st:=rfl
@[simp] theorem ql:J1 K Q .ret st=Q .ret st:=rfl
theorem Ab {x x':CC} (hm:c.P.follows .mixedOrders=true) (he:x=x') (h:WPC c x' (J1 (LoopC c x Q) Q) st):LoopC c x Q st:=by
 subst he;exact VW hm h
@[simp] theorem Ab4 {P:Program} {w0:World} {I0:Nat→Prop} {n:Nat}:(cx P w0 I0 n).P=P:=rfl
variable {P:Program} {rs:List ResultVar} {r:A}
@[simp] theorem kD:NK P rs r .normal st=Gt (EK P st rs) fun r0=>Gu st.H r0 r:=rfl
@[simp] theorem sG:NK P rs r .ret st=Gt (EK P st rs) fun r0=>Gu st.H r0 r:=rfl
@[simp] theorem nt {t:Nat}:Mp P st (.tmp t)=some (st.s t):=rfl
@[simp] theorem jQ {t:TypeId} {a:Nat}:Mp P st (.cell a t)=E9 P st.H t (st.s a):=rfl
@[simp] theorem vY {x:ResultVar}:EK P st [x]=Mp P st x:=rfl
@[simp] theorem s7 {x y:ResultVar} {l:List ResultVar}:EK P st (x::y::l)=(Gz P st (x::y::l)).map .tup:=rfl
@[simp] theorem vA:EK P st []=some (.tup []):=rfl
@[simp] theorem jX:Gz P st []=some []:=rfl
@[simp] theorem jk {x:ResultVar} {l:List ResultVar}:Gz P st (x::l)=match Mp P st x,Gz P st l with | some x,some l=>some (x::l) | _,_=>none:=rfl
end
section
variable {P:Program} {H:Hp} {t u:TypeId} {q:Bool} {x y z:A} {K:A→Prop}
theorem Du {F F':Option A} (h:q=true→F=F'):F6 q F K=F6 q F' K:=by
 cases q
 ·simp
 ·rw[h rfl]
@[simp] theorem uy {op:BinOp}:F6 q (H9 P op t (gd q x) y) K=F6 q (H9 P op t x y) K:=Du fun h=>by rw[h];rfl
@[simp] theorem ur {op:BinOp}:F6 q (H9 P op t x (gd q y)) K=F6 q (H9 P op t x y) K:=Du fun h=>by rw[h];rfl
@[simp] theorem Aaw {op:UnOp}:F6 q (gM op (gd q y)) K=F6 q (gM op y) K:=Du fun h=>by rw[h];rfl
@[simp] theorem uR:F6 q (Jo P t u (gd q y)) K=F6 q (Jo P t u y) K:=Du fun h=>by rw[h];rfl
@[simp] theorem uY:F6 q (E9 P H t (gd q y)) K=F6 q (E9 P H t y) K:=Du fun h=>by rw[h];rfl
@[simp] theorem gn {i:Nat}:F6 q (EF P t (gd q y) i) K=F6 q (EF P t y i) K:=Du fun h=>by rw[h];rfl
@[simp] theorem cI:F6 q (A8 P t (gd q x) y) K=F6 q (A8 P t x y) K:=Du fun h=>by rw[h];rfl
@[simp] theorem eP:F6 q (A8 P t x (gd q y)) K=F6 q (A8 P t x y) K:=Du fun h=>by rw[h];rfl
@[simp] theorem xh:F6 q (Kv P t (gd q y)) K=F6 q (Kv P t y) K:=Du fun h=>by rw[h];rfl
@[simp] theorem yH:F6 q (Uu (gd q z) x y) K=F6 q (Uu z x y) K:=Du fun h=>by rw[h];rfl
def GB (P:Program) (q:Bool) (t:TypeId) (acc l:List (Nat × A)) (K:A→Prop):Prop:=F6 q (BW P t (acc++l)) K
@[congr] theorem wB {q':Bool} {acc l l':List (Nat × A)} (h0:q=q') (h:l=l'):GB P q t acc l K=GB P q' t acc l' K:=by rw[h0,h]
@[simp] theorem Aad {acc:List (Nat × A)}:GB P q t acc [] K=F6 q (BW P t acc) K:=by simp[GB]
theorem JL {acc l:List (Nat × A)} {i:Nat}:GB P q t acc ((i,x)::l) K=GB P q t (acc++[(i,x)]) l K:=by simp[GB]
@[simp] theorem AbQ {acc l:List (Nat × A)} {i:Nat}:GB P q t acc ((i,gd q x)::l) K=GB P q t (acc++[(i,x)]) l K:=by
 rw[← JL];exact Du fun h=>by rw[h];rfl
@[simp] theorem Ab7 {acc l:List (Nat × A)} {i:Nat} {a:Value}:GB P q t acc ((i,.v a)::l) K=GB P q t (acc++[(i,.v a)]) l K:=JL
@[simp] theorem Abi {acc l:List (Nat × A)} {i:Nat} {b:Bool} {xs:List A}:GB P q t acc ((i,.sl b xs)::l) K=GB P q t (acc++[(i,.sl b xs)]) l K:=JL
@[simp] theorem AaA {acc l:List (Nat × A)} {i u z m n:Nat} {o:Nm}:GB P q t acc ((i,.osl o u z m n)::l) K=GB P q t (acc++[(i,.osl o u z m n)]) l K:=JL
@[simp] theorem Aba {acc l:List (Nat × A)} {i u m:Nat} {o:Nm}:GB P q t acc ((i,.pob o u m)::l) K=GB P q t (acc++[(i,.pob o u m)]) l K:=JL
@[simp] theorem zR {acc l:List (Nat × A)} {i:Nat} {xs:List A}:GB P q t acc ((i,.pim xs)::l) K=GB P q t (acc++[(i,.pim xs)]) l K:=JL
@[simp] theorem Abe {acc l:List (Nat × A)} {i:Nat} {xs:List A}:GB P q t acc ((i,.agg xs)::l) K=GB P q t (acc++[(i,.agg xs)]) l K:=JL
@[simp] theorem kV {i:Nat}:F6 q (GF (gd q y) i) K=F6 q (GF y i) K:=Du fun h=>by rw[h];rfl
end
section
variable {P:Program} {H:Hp} {t u:TypeId}
@[simp] theorem sS {op:BinOp} {q r:IntKind} {a b:Int}:H9 P op t (.v (.int q a)) (.v (.int r b))=Dx op q r a b:=rfl
@[simp] theorem tQ {op:BinOp} {a b:ByteArray}:H9 P op t (.v (.string a)) (.v (.string b))=NA op a b:=rfl
@[simp] theorem jT {xs ys:List A}:H9 P .eql t (.agg xs) (.agg ys)=if P.eqGuardType P.depth t=false then (JE P 100 t (.agg xs) (.agg ys)).map fun b=>.v (.bool b) else none:=rfl
@[simp] theorem ko {xs ys:List A}:H9 P .neq t (.agg xs) (.agg ys)=if P.eqGuardType P.depth t=false then (JE P 100 t (.agg xs) (.agg ys)).map fun b=>.v (.bool (!b)) else none:=rfl
@[simp] theorem vT {q r:IntKind} {a b:Int}:Dx .shl q r a b=if 0≤b then some (.v (.int q (q.wrap (a*2 ^ (min b.toNat q.bits))))) else none:=rfl
@[simp] theorem vJ {q r:IntKind} {a b:Int}:Dx .shr q r a b=if 0≤b then some (.v (.int q (a / 2 ^ (min b.toNat q.bits)))) else none:=rfl
@[simp] theorem uZ {q:IntKind} {a b:Int}:Dx .add q q a b=some (.v (.int q (q.wrap (a+b)))):=by simp[Dx]
@[simp] theorem sO {q:IntKind} {a b:Int}:Dx .sub q q a b=some (.v (.int q (q.wrap (a-b)))):=by simp[Dx]
@[simp] theorem xa {q:IntKind} {a b:Int}:Dx .mul q q a b=some (.v (.int q (q.wrap (a*b)))):=by simp[Dx]
@[simp] theorem uW {q:IntKind} {a b:Int}:Dx .quo q q a b=if b=0 then none else some (.v (.int q (q.wrap (a.tdiv b)))):=by simp[Dx]
@[simp] theorem rX {q:IntKind} {a b:Int}:Dx .rem q q a b=if b=0 then none else some (.v (.int q (a.tmod b))):=by simp[Dx]
@[simp] theorem te {q:IntKind} {a b:Int}:Dx .and q q a b=some (.v (.int q (bits .and q a b))):=by simp[Dx]
@[simp] theorem zr {q:IntKind} {a b:Int}:Dx .or q q a b=some (.v (.int q (bits .or q a b))):=by simp[Dx]
@[simp] theorem sY {q:IntKind} {a b:Int}:Dx .xor q q a b=some (.v (.int q (bits .xor q a b))):=by simp[Dx]
@[simp] theorem kQ {q:IntKind} {a b:Int}:Dx .andNot q q a b=some (.v (.int q (bits .andNot q a b))):=by simp[Dx]
@[simp] theorem sh {q:IntKind} {a b:Int}:Dx .eql q q a b=some (.v (.bool (decide (a=b)))):=by simp[Dx];rfl
@[simp] theorem vj {q:IntKind} {a b:Int}:Dx .neq q q a b=some (.v (.bool (!decide (a=b)))):=by simp[Dx];rfl
@[simp] theorem tt {q:IntKind} {a b:Int}:Dx .lss q q a b=some (.v (.bool (decide (a<b)))):=by simp[Dx]
@[simp] theorem tN {q:IntKind} {a b:Int}:Dx .leq q q a b=some (.v (.bool (decide (a≤b)))):=by simp[Dx]
@[simp] theorem vE {q:IntKind} {a b:Int}:Dx .gtr q q a b=some (.v (.bool (decide (b<a)))):=by simp[Dx]
@[simp] theorem uG {q:IntKind} {a b:Int}:Dx .geq q q a b=some (.v (.bool (decide (b≤a)))):=by simp[Dx]
@[simp] theorem yT {b:Bool}:gM .not (.v (.bool b))=some (.v (.bool (!b))):=rfl
@[simp] theorem xr {q:IntKind} {n:Int}:gM .neg (.v (.int q n))=some (.v (.int q (q.wrap (0-n)))):=rfl
@[simp] theorem tW {cs:List A}:E9 P H t (.pim cs)=match C3 P t,Cz P t with | some g,some sz=>Ji g sz cs | _,_=>none:=rfl
@[simp] theorem sB {sz:Nat} {cs:List A}:Ji true sz cs=if sz≤cs.length then some (.agg (cs.take sz)) else none:=rfl
@[simp] theorem qn {sz:Nat} {cs:List A}:Ji false sz cs=cs[0]?:=rfl
@[simp] theorem n7 {n:Nat}:Gm (.tmp n)=false:=rfl
@[simp] theorem lB {k:IntKind} {n:Int}:Gm (.const (.int k n))=false:=rfl
@[simp] theorem kf {n:Bool}:Gm (.const (.bool n))=false:=rfl
@[simp] theorem mq {n:ByteArray}:Gm (.const (.string n))=false:=rfl
@[simp] theorem oQ {n:Option Addr}:Gm (.const (.pointer n))=false:=rfl
@[simp] theorem oY {n:Array Value}:Gm (.const (.agg n))=false:=rfl
@[simp] theorem mh:Gm (.const .nilIface)=false:=rfl
@[simp] theorem nA:Gm (.const (.slice none 0 0))=true:=rfl
@[simp] theorem qD {x:A}:JG P .eql t x=match P.underlying t with | some (.slice _)=>(Ux x).map fun b=>.v (.bool b) | _=>none:=by
 unfold JG;cases P.underlying t with
 |none=>rfl
 |some d=>cases d<;>rfl
@[simp] theorem qm {x:A}:JG P .neq t x=match P.underlying t with | some (.slice _)=>(Ux x).map fun b=>.v (.bool (!b)) | _=>none:=by
 unfold JG;cases P.underlying t with
 |none=>rfl
 |some d=>cases d<;>rfl
@[simp] theorem qw {f:Bool} {x:A} {xs:List A}:Ux (.sl f (x::xs))=some false:=rfl
@[simp] theorem Aal {a:Option Addr} {n c:Nat}:Ux (.v (.slice a n c))=some a.isNone:=rfl
@[simp] theorem rL {len:Nat} {lo hi:Option A}:Cj len lo hi none=match EG hi len len with | some h=>(match EG lo 0 h with | some l=>some (l,h,none) | none=>none) | none=>none:=rfl
@[simp] theorem lC {d n:Nat}:EG none d n=some d:=rfl
@[simp] theorem pz {k:IntKind} {i:Int} {d n:Nat}:EG (some (.v (.int k i))) d n=if 0≤i∧i≤n then some i.toNat else none:=rfl
@[simp] theorem lP {f:Bool} {h n:Nat}:F2 none f h n=(f&&h == n):=rfl
@[simp] theorem lY {f:Bool} {h n m:Nat}:F2 (some m) f h n=(m == h):=rfl
@[simp] theorem pB {n:Nat} {cs:List A}:A.shift n (.pim cs)=some (.pim (cs.drop n)):=rfl
@[simp] theorem rQ {n u p:Nat} {o:Nm}:A.shift n (.pob o u p)=some (.pob o u (p+n)):=rfl
@[simp] theorem rn {n u p q:Nat} {o:Nm}:A.shift n (.pel o u p q)=some (.pel o u p (q+n)):=rfl
@[simp] theorem iJ {a:A} {i:Nat}:EF P t a i=(Ak P t i).bind a.shift:=rfl
@[simp] theorem kR {xs:List A} {i:Nat}:GF (.tup xs) i=xs[i]?:=rfl
@[simp] theorem jM {c:A} {cs news:List A} {n:Nat}:splice (c::cs) (n+1) news=c::splice cs n news:=by simp[splice,Nat.add_right_comm]
@[simp] theorem kg {cs news:List A}:splice cs 0 news=news++cs.drop news.length:=by simp[splice]
end
section
variable {P:Program} {s:Nat→A} {H:Hp}
@[simp] theorem wR {d:Nat} {x:A} {H':Hp}:Sta.put ⟨s,H⟩ (some d) x H'=⟨upd s d x,H'⟩:=rfl
@[simp] theorem sr {x:A} {H':Hp}:Sta.put ⟨s,H⟩ none x H'=⟨s,H'⟩:=rfl
@[simp] theorem zQ {d t:Nat} {x:A}:upd s d x t=if t=d then x else s t:=rfl
@[simp] theorem zY {t:Nat}:lk [] t = .any:=rfl
@[simp] theorem xN {d t:Nat} {x:A} {l:List (Nat × A)}:lk ((d,x)::l) t=if d=t then x else lk l t:=rfl
@[simp] theorem yx {args:List A} {t:Nat}:Mw args t=(args[t]?).getD .any:=rfl
@[simp] theorem xQ {t:Nat}:evs s (.tmp t)=s t:=rfl
@[simp] theorem pU {x:Value}:evs s (.const x)=ES x:=rfl
@[simp] theorem vd {g:FuncId}:evs s (.func g) = .fnc g [] []:=rfl
@[simp] theorem yP {live:List Nat}:Sta.keep ⟨s,H⟩ live=⟨lk (live.map fun k=>(k,s k)),H⟩:=rfl
@[simp] theorem xC {q:IntKind} {n:Int}:ES (.int q n) = .v (.int q n):=rfl
@[simp] theorem uS {b:Bool}:ES (.bool b) = .v (.bool b):=rfl
@[simp] theorem lU {b:ByteArray}:ES (.string b) = .v (.string b):=rfl
@[simp] theorem lf {b:Option Addr}:ES (.pointer b) = .v (.pointer b):=rfl
@[simp] theorem ze:ES (.slice none 0 0) = .sl true []:=rfl
@[simp] theorem zw {cs:Array Value}:ES (.agg cs) = .agg (cs.toList.map RF):=rfl
@[simp] theorem th {q:IntKind} {n:Int}:RF (.int q n) = .v (.int q n):=rfl
@[simp] theorem qC {b:Bool}:RF (.bool b) = .v (.bool b):=rfl
@[simp] theorem kP {b:ByteArray}:RF (.string b) = .v (.string b):=rfl
@[simp] theorem gQ {b:Option Addr}:RF (.pointer b) = .v (.pointer b):=rfl
@[simp] theorem u9:RF (.slice none 0 0) = .sl true []:=rfl
@[simp] theorem rH {cs:List A}:(A.agg cs).cells=cs:=rfl
@[simp] theorem y9 {x:Value}:(A.v x).cells=[.v x]:=rfl
@[simp] theorem wW {b:Bool} {xs:List A}:(A.sl b xs).cells=[.sl b xs]:=rfl
@[simp] theorem pL {o:Nm} {u z p q:Nat}:(A.osl o u z p q).cells=[.osl o u z p q]:=rfl
@[simp] theorem qa {cs:List A}:(A.pim cs).cells=[.pim cs]:=rfl
@[simp] theorem qb {o:Nm} {u p:Nat}:(A.pob o u p).cells=[.pob o u p]:=rfl
@[simp] theorem wH:A.ones []=true:=rfl
@[simp] theorem px {a:A} {l:List A}:A.ones (a::l)=(a.one&&A.ones l):=by simp[A.ones]
@[simp] theorem zE {q:IntKind} {n:Int}:(A.v (.int q n)).one=true:=rfl
@[simp] theorem ud {b:Bool}:(A.v (.bool b)).one=true:=rfl
@[simp] theorem lJ {b:ByteArray}:(A.v (.string b)).one=true:=rfl
@[simp] theorem kr {b:Option Addr}:(A.v (.pointer b)).one=true:=rfl
@[simp] theorem Aab {b:Bool} {xs:List A}:(A.sl b xs).one=true:=rfl
@[simp] theorem yh {o:Nm} {u z p q:Nat}:(A.osl o u z p q).one=true:=rfl
@[simp] theorem zz {cs:List A}:(A.pim cs).one=true:=rfl
@[simp] theorem yj {o:Nm} {u p:Nat}:(A.pob o u p).one=true:=rfl
@[simp] theorem qB {cs:List A}:(A.pim cs).isPtr=true:=rfl
@[simp] theorem qk {o:Nm} {u p:Nat}:(A.pob o u p).isPtr=true:=rfl
@[simp] theorem rD {o:Nm} {u p q:Nat}:(A.pel o u p q).isPtr=true:=rfl
@[simp] theorem xS {x:Value}:(A.v x).isPtr=false:=rfl
@[simp] theorem zF {x:Value}:(A.v x).bare1=true:=rfl
@[simp] theorem tb {b:Bool} {xs:List A}:(A.sl b xs).bare1=true:=rfl
@[simp] theorem q9 {cs:List A}:(A.pim cs).bare1=true:=rfl
@[simp] theorem pN:(A.any).bare1=true:=rfl
@[simp] theorem pn {o:Nm} {u z p q:Nat}:(A.osl o u z p q).bare1=false:=rfl
@[simp] theorem pv {o:Nm} {u p:Nat}:(A.pob o u p).bare1=false:=rfl
@[simp] theorem AaS {x:Value}:(A.v x).bare=true:=rfl
@[simp] theorem yB {b:Bool} {xs:List A}:(A.sl b xs).bare=true:=rfl
@[simp] theorem uK {cs:List A}:(A.pim cs).bare=true:=rfl
@[simp] theorem ue {o:Nm} {u z p q:Nat}:(A.osl o u z p q).bare=false:=rfl
@[simp] theorem wO {o:Nm} {u p:Nat}:(A.pob o u p).bare=false:=rfl
@[simp] theorem si {cs:List A}:(A.agg cs).bare=cs.all A.bare2:=rfl
@[simp] theorem ya {x:Value}:(A.v x).bare2=true:=rfl
@[simp] theorem wE {b:Bool} {xs:List A}:(A.sl b xs).bare2=true:=rfl
@[simp] theorem pq {cs:List A}:(A.pim cs).bare2=true:=rfl
@[simp] theorem pS:(A.any).bare2=true:=rfl
@[simp] theorem ve {g:FuncId} {fs cs:List A}:(A.fnc g fs cs).bare=(fs.all A.bare1&&cs.all A.bare1):=rfl
@[simp] theorem qG {g:FuncId} {fs cs:List A}:(A.fnc g fs cs).bare2=(fs.all A.bare1&&cs.all A.bare1):=rfl
@[simp] theorem qY {g:FuncId} {fs cs:List A}:(A.fnc g fs cs).cells=[.fnc g fs cs]:=rfl
@[simp] theorem xg {g:FuncId} {fs cs:List A}:(A.fnc g fs cs).one=true:=rfl
@[simp] theorem AaQ {x:Value}:(A.v x).flat=true:=rfl
@[simp] theorem uq {n:Nat}:C0 n []=true:=rfl
@[simp] theorem pe {n:Nat} {x:A} {l:List A}:C0 n (x::l)=(x.cells.length == n&&C0 n l):=rfl
@[simp] theorem kz {n:Nat} {l l':List A}:C0 n (l++l')=(C0 n l&&C0 n l'):=by simp[C0]
@[simp] theorem qZ {pl:Nat→Option (Nat × Nat)} {cs:List A}:Ct pl cs []=some cs:=rfl
@[simp] theorem ln {pl:Nat→Option (Nat × Nat)} {cs:List A} {i:Nat} {x:A} {ps:List (Nat × A)}:Ct pl cs ((i,x)::ps)=match pl i with
  |none=>none
  |some (off,size)=>if x.cells.length=size∧off+size≤cs.length∧A.ones x.cells=true then Ct pl (splice cs off x.cells) ps else none:=rfl
def Ga:List (Nm × VOb)→Hp
 |[],_=>⟨0,.none⟩
 |(k,x)::l,o=>if k=o then x else Ga l o
def eh:List (Nm × VOb)→Nm→VOb→List (Nm × VOb)
 |[],d,x=>[(d,x)]
 |(k,y)::l,d,x=>if k=d then (k,x)::l else (k,y)::eh l d x
@[simp] theorem Abn:H0=Ga []:=rfl
@[simp] theorem ir {o:Nm}:Ga [] o=⟨0,.none⟩:=rfl
@[simp] theorem Nr {k o:Nm} {x:VOb} {l:List (Nm × VOb)}:Ga ((k,x)::l) o=if k=o then x else Ga l o:=rfl
@[simp] theorem cH {d:Nm} {x:VOb}:eh [] d x=[(d,x)]:=rfl
@[simp] theorem Zg {k d:Nm} {x y:VOb} {l:List (Nm × VOb)}:eh ((k,y)::l) d x=if k=d then (k,x)::l else (k,y)::eh l d x:=rfl
@[simp] theorem vw {l:List (Nm × VOb)} {d:Nm} {x:VOb}:Ay (Ga l) d x=Ga (eh l d x):=by
 funext o;induction l with
 |nil=>
  simp only[Ay,cH,Nr,ir];by_cases h:o=d
  ·subst h;simp
  ·simp[h,Ne.symm h]
 |cons p l ih=>
  obtain⟨k,y⟩:=p;simp only[Zg];by_cases hk:k=d
  ·subst hk;simp only[if_pos,Nr,Ay];by_cases h:o=k
   ·subst h;simp
   ·simp[h,Ne.symm h]
  ·rw[if_neg hk,Nr,← ih];simp only[Ay,Nr];by_cases h:o=d
   ·subst h;simp[hk]
   ·simp[h]
@[simp] theorem tr {o:Nm} {u p:Nat}:refs (.pob o u p)=[(o,false)]:=rfl
@[simp] theorem sE {o:Nm} {u p q:Nat}:refs (.pel o u p q)=[(o,false)]:=rfl
@[simp] theorem xj {o:Nm} {u:Nat}:refs (.mo o u)=[(o,false)]:=rfl
@[simp] theorem wM {o:Nm} {u z p q:Nat}:refs (.osl o u z p q)=[(o,false)]:=rfl
@[simp] theorem Aah {x:Value}:refs (.v x)=[]:=rfl
@[simp] theorem zp {f:Bool} {xs:List A}:refs (.sl f xs)=[]:=rfl
@[simp] theorem wV {xs:List A}:refs (.pim xs)=[]:=rfl
@[simp] theorem s9 {xs:List A}:refs (.agg xs)=[]:=rfl
@[simp] theorem xi {d o:Nm} {u z p q:Nat}:gI d (.osl o u z p q)=[(o,false)]:=rfl
@[simp] theorem AaB {d:Nm} {f:Bool} {xs:List A}:gI d (.sl f xs)=[(d,false)]:=rfl
@[simp] theorem AbE {R W R' W':Fp}:nc ⟨R,W⟩ ⟨R',W'⟩=(Vo W (R'++W')&&Vo W' (R++W)):=rfl
@[simp] theorem xL {l:Fp}:Vo [] l=true:=rfl
@[simp] theorem w6 {p:Nm × Bool} {l m:Fp}:Vo (p::l) m=((m.all fun q=>eZ p q)&&Vo l m):=rfl
@[simp] theorem yX {p q:Nm} {a b:Bool}:eZ (p,a) (q,b)=match a,b with
 |false,false=>p != q
 |true,false=>!p.isPrefixOf q
 |false,true=>!q.isPrefixOf p
 |true,true=>!p.isPrefixOf q&&!q.isPrefixOf p:=rfl
end
section
variable {P:Program} {K:Sta→Prop} {rest:List CO} {s:Nat→A} {H:Hp} {dd:Option Nat} {k:Nat} {f:Bool} {nm:Nm} {ix:Nat} {un:List Nat} {l:Bool} {lg:Lg}
@[simp] theorem zI {st:Sta}:Am P K [] lg st=K st:=rfl
@[simp] theorem mD {i:Nat} {g:Ft}:AR false i g lg=lg:=rfl
@[simp] theorem qg {i:Nat} {g:Ft}:AR true i g lg=(i,g)::lg:=rfl
@[simp] theorem AaK {g:Ft}:Ck [] lg g=True:=by simp[Ck]
@[simp] theorem zM {g:Ft}:Ck un [] g=True:=by simp[Ck]
@[simp] theorem yR {i:Nat} {g h:Ft}:Ck un ((i,g)::lg) h=((i ∈ un→nc g h=true)∧Ck un lg h):=by simp[Ck]
theorem KY:Ck un lg ⟨[],[]⟩:=fun p _ _=>by simp[nc,Hk,IP]
def fg (q:Bool) (g:Ft):Ft:=⟨bif q then g.R else [],bif q then g.W else []⟩
@[simp] theorem xy {g:Ft}:fg true g=g:=rfl
@[simp] theorem tK {g:Ft}:fg false g=⟨[],[]⟩:=rfl
theorem C7 {op:Op} {F:Option A} (hF:∀ x E R W,Tx P nm op (evs s) H x E R W ↔ Ru F x E R W) :
  Am P K (⟨dd,op,none,nm,ix,un,l⟩::rest) lg ⟨s,H⟩=Gt F fun x=>Am P K rest (AR l ix ⟨[],[]⟩ lg) (Sta.put ⟨s,H⟩ dd x H):=by
 apply propext;constructor
 ·rintro⟨x,E,⟨R,W⟩,h1,h2,h3⟩;obtain⟨h4,rfl,h5,h6⟩:=(hF x E R W).1 h1;subst h5 h6;exact⟨x,h4,h3⟩
 ·rintro⟨x,h1,h2⟩;exact⟨x,.nil,⟨[],[]⟩,(hF _ _ _ _).2 ⟨h1,rfl,rfl,rfl⟩,KY,h2⟩
theorem BE {op:Op} {F:Option A} (hF:∀ x E R W,Tx P nm op (evs s) H x E R W ↔ Ru F x E R W) :
  Am P K (⟨dd,op,some (k,f),nm,ix,un,l⟩::rest) lg ⟨s,H⟩=Gt (BK (s k) f) fun q=>F6 q F fun x=>Am P K rest (AR l ix ⟨[],[]⟩ lg) (Sta.put ⟨s,H⟩ dd x H):=by
 apply propext;constructor
 ·rintro⟨x,E,⟨R,W⟩,⟨q,x0,h1,h2,rfl,h4⟩,h5,h6⟩;refine⟨q,h1,x0,fun hq=>((hF _ _ _ _).1 (h2 hq)).1,?_⟩;have:E = .nil∧R=[]∧W=[]:=by
   cases hq:q with
   |true=>exact((hF _ _ _ _).1 (h2 hq)).2
   |false=>exact h4 hq
  obtain⟨rfl,h7,h8⟩:=this;subst h7 h8;exact h6
 ·rintro⟨q,h1,x0,h2,h3⟩;exact⟨_,.nil,⟨[],[]⟩,⟨q,x0,h1,fun hq=>(hF _ _ _ _).2 ⟨h2 hq,rfl,rfl,rfl⟩,rfl,fun _=>⟨rfl,rfl,rfl⟩⟩,KY,h3⟩
theorem L9 {op:Op} {F:Option (A × Eff)} {R W:Fp} (hF:∀ x E R' W',Tx P nm op (evs s) H x E R' W' ↔ F=some (x,E)∧R'=R∧W'=W) :
  Am P K (⟨dd,op,none,nm,ix,un,l⟩::rest) lg ⟨s,H⟩=Gt F fun p=>Ck un lg ⟨R,W⟩∧Am P K rest (AR l ix ⟨R,W⟩ lg) (Sta.put ⟨s,H⟩ dd p.1 (p.2.app H)):=by
 apply propext;constructor
 ·rintro⟨x,E,⟨R',W'⟩,h1,h2,h3⟩;obtain⟨h4,h5,h6⟩:=(hF x E R' W').1 h1;subst h5 h6;exact⟨(x,E),h4,h2,h3⟩
 ·rintro⟨⟨x,E⟩,h1,h2,h3⟩;exact⟨x,E,⟨R,W⟩,(hF _ _ _ _).2 ⟨h1,rfl,rfl⟩,h2,h3⟩
theorem D9 {op:Op}:Am P K (⟨dd,op,some (k,f),nm,ix,un,l⟩::rest) lg ⟨s,H⟩=Gt (BK (s k) f) fun q=>Px q (Am P K (⟨dd,op,none,nm,ix,un,l⟩::rest) lg ⟨s,H⟩) (Am P K rest (AR l ix ⟨[],[]⟩ lg) (Sta.put ⟨s,H⟩ dd (.v undef) H)):=by
 apply propext;constructor
 ·rintro⟨x,E,⟨R,W⟩,⟨q,x0,h1,h2,rfl,h4⟩,h5,h6⟩;refine⟨q,h1,fun hq=>⟨x0,E,⟨R,W⟩,h2 hq,h5,?_⟩,fun hq=>?_⟩
  ·subst hq;exact h6
  ·subst hq;obtain⟨rfl,h7,h8⟩:=h4 rfl;subst h7 h8;exact h6
 ·rintro⟨q,h1,h2,h3⟩;cases q with
  |true=>
   obtain⟨x,E,g,h4,h5,h6⟩:=h2 rfl;exact⟨x,E,g,⟨true,x,h1,fun _=>h4,rfl,(fun h=>nomatch h)⟩,h5,h6⟩
  |false=>exact⟨_,.nil,⟨[],[]⟩,⟨false,.any,h1,(fun h=>nomatch h),rfl,fun _=>⟨rfl,rfl,rfl⟩⟩,KY,h3 rfl⟩
section
variable {a b:Operand} {t:TypeId}
@[simp] theorem xD:Am P K (⟨dd,.move a,none,nm,ix,un,l⟩::rest) lg ⟨s,H⟩=Am P K rest (AR l ix ⟨[],[]⟩ lg) (Sta.put ⟨s,H⟩ dd (evs s a) H):=by
 rw[C7 (F:=some (evs s a)) (fun _ _ _ _=>Iff.rfl)];simp
@[simp] theorem qQ:Am P K (⟨dd,.assign a,none,nm,ix,un,l⟩::rest) lg ⟨s,H⟩=Am P K rest (AR l ix ⟨[],[]⟩ lg) (Sta.put ⟨s,H⟩ dd (evs s a) H):=by
 rw[C7 (F:=some (evs s a)) (fun _ _ _ _=>Iff.rfl)];simp
@[simp] theorem rA:Am P K (⟨dd,.move a,some (k,f),nm,ix,un,l⟩::rest) lg ⟨s,H⟩=Gt (BK (s k) f) fun q=>Am P K rest (AR l ix ⟨[],[]⟩ lg) (Sta.put ⟨s,H⟩ dd (gd q (evs s a)) H):=by
 rw[BE (F:=some (evs s a)) (fun _ _ _ _=>Iff.rfl)];simp
@[simp] theorem AaY {op:BinOp} {u:TypeId}:Am P K (⟨dd,.binOp op t a b u,none,nm,ix,un,l⟩::rest) lg ⟨s,H⟩=Gt (if Gm b=true then JG P op t (evs s a) else H9 P op t (evs s a) (evs s b)) fun x=>Am P K rest (AR l ix ⟨[],[]⟩ lg) (Sta.put ⟨s,H⟩ dd x H):=C7 fun _ _ _ _=>Iff.rfl
@[simp] theorem uJ {op:BinOp} {u:TypeId}:Am P K (⟨dd,.binOp op t a b u,some (k,f),nm,ix,un,l⟩::rest) lg ⟨s,H⟩=Gt (BK (s k) f) fun q=>F6 q (if Gm b=true then JG P op t (evs s a) else H9 P op t (evs s a) (evs s b)) fun x=>Am P K rest (AR l ix ⟨[],[]⟩ lg) (Sta.put ⟨s,H⟩ dd x H):=BE fun _ _ _ _=>Iff.rfl
@[simp] theorem AbK {op:UnOp}:Am P K (⟨dd,.unOp op t a,none,nm,ix,un,l⟩::rest) lg ⟨s,H⟩=Gt (gM op (evs s a)) fun x=>Am P K rest (AR l ix ⟨[],[]⟩ lg) (Sta.put ⟨s,H⟩ dd x H):=C7 fun _ _ _ _=>Iff.rfl
@[simp] theorem xF {op:UnOp}:Am P K (⟨dd,.unOp op t a,some (k,f),nm,ix,un,l⟩::rest) lg ⟨s,H⟩=Gt (BK (s k) f) fun q=>F6 q (gM op (evs s a)) fun x=>Am P K rest (AR l ix ⟨[],[]⟩ lg) (Sta.put ⟨s,H⟩ dd x H):=BE fun _ _ _ _=>Iff.rfl
@[simp] theorem ye {u:TypeId}:Am P K (⟨dd,.convert t u a,none,nm,ix,un,l⟩::rest) lg ⟨s,H⟩=Gt (Jo P t u (evs s a)) fun x=>Am P K rest (AR l ix ⟨[],[]⟩ lg) (Sta.put ⟨s,H⟩ dd x H):=C7 fun _ _ _ _=>Iff.rfl
@[simp] theorem rJ {u:TypeId}:Am P K (⟨dd,.convert t u a,some (k,f),nm,ix,un,l⟩::rest) lg ⟨s,H⟩=Gt (BK (s k) f) fun q=>F6 q (Jo P t u (evs s a)) fun x=>Am P K rest (AR l ix ⟨[],[]⟩ lg) (Sta.put ⟨s,H⟩ dd x H):=BE fun _ _ _ _=>Iff.rfl
@[simp] theorem jj {i:Nat}:Am P K (⟨dd,.fieldAddr t a i,none,nm,ix,un,l⟩::rest) lg ⟨s,H⟩=Gt (EF P t (evs s a) i) fun x=>Am P K rest (AR l ix ⟨[],[]⟩ lg) (Sta.put ⟨s,H⟩ dd x H):=C7 fun _ _ _ _=>Iff.rfl
@[simp] theorem dP {i:Nat}:Am P K (⟨dd,.fieldAddr t a i,some (k,f),nm,ix,un,l⟩::rest) lg ⟨s,H⟩=Gt (BK (s k) f) fun q=>F6 q (EF P t (evs s a) i) fun x=>Am P K rest (AR l ix ⟨[],[]⟩ lg) (Sta.put ⟨s,H⟩ dd x H):=BE fun _ _ _ _=>Iff.rfl
@[simp] theorem tx {i:Nat}:Am P K (⟨dd,.field t a i,none,nm,ix,un,l⟩::rest) lg ⟨s,H⟩=Gt (L5 P t (evs s a) i) fun x=>Am P K rest (AR l ix ⟨[],[]⟩ lg) (Sta.put ⟨s,H⟩ dd x H):=C7 fun _ _ _ _=>Iff.rfl
@[simp] theorem me {i:Nat}:Am P K (⟨dd,.field t a i,some (k,f),nm,ix,un,l⟩::rest) lg ⟨s,H⟩=Gt (BK (s k) f) fun q=>F6 q (L5 P t (evs s a) i) fun x=>Am P K rest (AR l ix ⟨[],[]⟩ lg) (Sta.put ⟨s,H⟩ dd x H):=BE fun _ _ _ _=>Iff.rfl
@[simp] theorem jq  : Am P K (⟨dd,.indexAddr t a b,none,nm,ix,un,l⟩::rest) lg ⟨s,H⟩=Gt (A8 P t (evs s a) (evs s b)) fun x=>Am P K rest (AR l ix ⟨[],[]⟩ lg) (Sta.put ⟨s,H⟩ dd x H):=C7 fun _ _ _ _=>Iff.rfl
@[simp] theorem du  : Am P K (⟨dd,.indexAddr t a b,some (k,f),nm,ix,un,l⟩::rest) lg ⟨s,H⟩=Gt (BK (s k) f) fun q=>F6 q (A8 P t (evs s a) (evs s b)) fun x=>Am P K rest (AR l ix ⟨[],[]⟩ lg) (Sta.put ⟨s,H⟩ dd x H):=BE fun _ _ _ _=>Iff.rfl
@[simp] theorem tP  : Am P K (⟨dd,.index t a b,none,nm,ix,un,l⟩::rest) lg ⟨s,H⟩=Gt (JP P t (evs s a) (evs s b)) fun x=>Am P K rest (AR l ix ⟨[],[]⟩ lg) (Sta.put ⟨s,H⟩ dd x H):=C7 fun _ _ _ _=>Iff.rfl
@[simp] theorem nQ  : Am P K (⟨dd,.index t a b,some (k,f),nm,ix,un,l⟩::rest) lg ⟨s,H⟩=Gt (BK (s k) f) fun q=>F6 q (JP P t (evs s a) (evs s b)) fun x=>Am P K rest (AR l ix ⟨[],[]⟩ lg) (Sta.put ⟨s,H⟩ dd x H):=BE fun _ _ _ _=>Iff.rfl
@[simp] theorem lN {i:Nat}:Am P K (⟨dd,.extract a i,none,nm,ix,un,l⟩::rest) lg ⟨s,H⟩=Gt (GF (evs s a) i) fun x=>Am P K rest (AR l ix ⟨[],[]⟩ lg) (Sta.put ⟨s,H⟩ dd x H):=C7 fun _ _ _ _=>Iff.rfl
@[simp] theorem ja {i:Nat}:Am P K (⟨dd,.extract a i,some (k,f),nm,ix,un,l⟩::rest) lg ⟨s,H⟩=Gt (BK (s k) f) fun q=>F6 q (GF (evs s a) i) fun x=>Am P K rest (AR l ix ⟨[],[]⟩ lg) (Sta.put ⟨s,H⟩ dd x H):=BE fun _ _ _ _=>Iff.rfl
@[simp] theorem sF {ps:Array (Nat × Operand)}:Am P K (⟨dd,.build t ps,none,nm,ix,un,l⟩::rest) lg ⟨s,H⟩=Gt (BW P t (ps.toList.map fun p=>(p.1,evs s p.2))) fun x=>Am P K rest (AR l ix ⟨[],[]⟩ lg) (Sta.put ⟨s,H⟩ dd x H):=C7 fun _ _ _ _=>Iff.rfl
@[simp] theorem nE {ps:Array (Nat × Operand)}:Am P K (⟨dd,.build t ps,some (k,f),nm,ix,un,l⟩::rest) lg ⟨s,H⟩=Gt (BK (s k) f) fun q=>GB P q t [] (ps.toList.map fun p=>(p.1,evs s p.2)) fun x=>Am P K rest (AR l ix ⟨[],[]⟩ lg) (Sta.put ⟨s,H⟩ dd x H):=BE fun _ _ _ _=>Iff.rfl
@[simp] theorem gA {n:Nat} {ps:Array (Nat × Operand)}:Am P K (⟨dd,.buildSlice t n ps,none,[],ix,un,l⟩::rest) lg ⟨s,H⟩=Gt (EJ P t n (ps.toList.map fun p=>(p.1,evs s p.2))) fun x=>Am P K rest (AR l ix ⟨[],[]⟩ lg) (Sta.put ⟨s,H⟩ dd x H):=C7 fun _ _ _ _=>Iff.rfl
@[simp] theorem aY {n:Nat} {ps:Array (Nat × Operand)}:Am P K (⟨dd,.buildSlice t n ps,some (k,f),[],ix,un,l⟩::rest) lg ⟨s,H⟩=Gt (BK (s k) f) fun q=>F6 q (EJ P t n (ps.toList.map fun p=>(p.1,evs s p.2))) fun x=>Am P K rest (AR l ix ⟨[],[]⟩ lg) (Sta.put ⟨s,H⟩ dd x H):=BE fun _ _ _ _=>Iff.rfl
@[simp] theorem wi {lo hi mx:Option Operand}:Am P K (⟨dd,.slice t a lo hi mx,none,nm,ix,un,l⟩::rest) lg ⟨s,H⟩=Gt (Gn P t (evs s a) (lo.map (evs s)) (hi.map (evs s)) (mx.map (evs s))) fun x=>Am P K rest (AR l ix ⟨[],[]⟩ lg) (Sta.put ⟨s,H⟩ dd x H):=C7 fun _ _ _ _=>Iff.rfl
@[simp] theorem nW {lo hi mx:Option Operand}:Am P K (⟨dd,.slice t a lo hi mx,some (k,f),nm,ix,un,l⟩::rest) lg ⟨s,H⟩=Gt (BK (s k) f) fun q=>F6 q (Gn P t (evs s a) (lo.map (evs s)) (hi.map (evs s)) (mx.map (evs s))) fun x=>Am P K rest (AR l ix ⟨[],[]⟩ lg) (Sta.put ⟨s,H⟩ dd x H):=BE fun _ _ _ _=>Iff.rfl
@[simp] theorem kL  : Am P K (⟨dd,.nilCheck a,none,nm,ix,un,l⟩::rest) lg ⟨s,H⟩=Gt (eT (evs s a)) fun x=>Am P K rest (AR l ix ⟨[],[]⟩ lg) (Sta.put ⟨s,H⟩ dd x H):=C7 fun _ _ _ _=>Iff.rfl
@[simp] theorem gx  : Am P K (⟨dd,.nilCheck a,some (k,f),nm,ix,un,l⟩::rest) lg ⟨s,H⟩=Gt (BK (s k) f) fun q=>F6 q (eT (evs s a)) fun x=>Am P K rest (AR l ix ⟨[],[]⟩ lg) (Sta.put ⟨s,H⟩ dd x H):=BE fun _ _ _ _=>Iff.rfl
@[simp] theorem yG {c:Operand}:Am P K (⟨dd,.pick c a b,none,nm,ix,un,l⟩::rest) lg ⟨s,H⟩=Gt (Uu (evs s c) (evs s a) (evs s b)) fun x=>Am P K rest (AR l ix ⟨[],[]⟩ lg) (Sta.put ⟨s,H⟩ dd x H):=C7 fun _ _ _ _=>Iff.rfl
@[simp] theorem pX {c:Operand}:Am P K (⟨dd,.pick c a b,some (k,f),nm,ix,un,l⟩::rest) lg ⟨s,H⟩=Gt (BK (s k) f) fun q=>F6 q (Uu (evs s c) (evs s a) (evs s b)) fun x=>Am P K rest (AR l ix ⟨[],[]⟩ lg) (Sta.put ⟨s,H⟩ dd x H):=BE fun _ _ _ _=>Iff.rfl
@[simp] theorem jV {g:FuncId} {fs cs:Array Operand}:Am P K (⟨dd,.makeFunc (.func g) fs cs,none,nm,ix,un,l⟩::rest) lg ⟨s,H⟩=Gt (some (A.fnc g (fs.toList.map (evs s)) (cs.toList.map (evs s)))) fun x=>Am P K rest (AR l ix ⟨[],[]⟩ lg) (Sta.put ⟨s,H⟩ dd x H):=C7 fun _ _ _ _=>Iff.rfl
@[simp] theorem gh {g:FuncId} {fs cs:Array Operand}:Am P K (⟨dd,.makeFunc (.func g) fs cs,some (k,f),nm,ix,un,l⟩::rest) lg ⟨s,H⟩=Gt (BK (s k) f) fun q=>F6 q (some (A.fnc g (fs.toList.map (evs s)) (cs.toList.map (evs s)))) fun x=>Am P K rest (AR l ix ⟨[],[]⟩ lg) (Sta.put ⟨s,H⟩ dd x H):=BE fun _ _ _ _=>Iff.rfl
@[simp] theorem ZA  : Am P K (⟨dd,.makeInterface t a,none,nm,ix,un,l⟩::rest) lg ⟨s,H⟩=Gt (VH P t (evs s a)) fun x=>Am P K rest (AR l ix ⟨[],[]⟩ lg) (Sta.put ⟨s,H⟩ dd x H):=C7 fun _ _ _ _=>Iff.rfl
@[simp] theorem Wo  : Am P K (⟨dd,.makeInterface t a,some (k,f),nm,ix,un,l⟩::rest) lg ⟨s,H⟩=Gt (BK (s k) f) fun q=>F6 q (VH P t (evs s a)) fun x=>Am P K rest (AR l ix ⟨[],[]⟩ lg) (Sta.put ⟨s,H⟩ dd x H):=BE fun _ _ _ _=>Iff.rfl
@[simp] theorem gj {u:TypeId} {ok:Bool}:Am P K (⟨dd,.typeAssert a t u ok,none,nm,ix,un,l⟩::rest) lg ⟨s,H⟩=Gt (JH P u ok (evs s a)) fun x=>Am P K rest (AR l ix ⟨[],[]⟩ lg) (Sta.put ⟨s,H⟩ dd x H):=C7 fun _ _ _ _=>Iff.rfl
@[simp] theorem aZ {u:TypeId} {ok:Bool}:Am P K (⟨dd,.typeAssert a t u ok,some (k,f),nm,ix,un,l⟩::rest) lg ⟨s,H⟩=Gt (BK (s k) f) fun q=>F6 q (JH P u ok (evs s a)) fun x=>Am P K rest (AR l ix ⟨[],[]⟩ lg) (Sta.put ⟨s,H⟩ dd x H):=BE fun _ _ _ _=>Iff.rfl
@[simp] theorem Abf {as':Array Operand} {ts:Array TypeId}:Am P K (⟨dd,.call { callee:=.builtin .min,args:=as',argTypes:=ts },none,nm,ix,un,l⟩::rest) lg ⟨s,H⟩=Gt (Eo false (as'.toList.map (evs s))) fun x=>Am P K rest (AR l ix ⟨[],[]⟩ lg) (Sta.put ⟨s,H⟩ dd x H):=C7 fun _ _ _ _=>Iff.rfl
@[simp] theorem wN {as':Array Operand} {ts:Array TypeId}:Am P K (⟨dd,.call { callee:=.builtin .min,args:=as',argTypes:=ts },some (k,f),nm,ix,un,l⟩::rest) lg ⟨s,H⟩=Gt (BK (s k) f) fun q=>F6 q (Eo false (as'.toList.map (evs s))) fun x=>Am P K rest (AR l ix ⟨[],[]⟩ lg) (Sta.put ⟨s,H⟩ dd x H):=BE fun _ _ _ _=>Iff.rfl
@[simp] theorem Aaq {as':Array Operand} {ts:Array TypeId}:Am P K (⟨dd,.call { callee:=.builtin .max,args:=as',argTypes:=ts },none,nm,ix,un,l⟩::rest) lg ⟨s,H⟩=Gt (Eo true (as'.toList.map (evs s))) fun x=>Am P K rest (AR l ix ⟨[],[]⟩ lg) (Sta.put ⟨s,H⟩ dd x H):=C7 fun _ _ _ _=>Iff.rfl
@[simp] theorem vq {as':Array Operand} {ts:Array TypeId}:Am P K (⟨dd,.call { callee:=.builtin .max,args:=as',argTypes:=ts },some (k,f),nm,ix,un,l⟩::rest) lg ⟨s,H⟩=Gt (BK (s k) f) fun q=>F6 q (Eo true (as'.toList.map (evs s))) fun x=>Am P K rest (AR l ix ⟨[],[]⟩ lg) (Sta.put ⟨s,H⟩ dd x H):=BE fun _ _ _ _=>Iff.rfl
@[simp] theorem Aac:Am P K (⟨dd,.call { callee:=.builtin .len,args:=#[a],argTypes:=#[t] },none,nm,ix,un,l⟩::rest) lg ⟨s,H⟩=Gt (Kv P t (evs s a)) fun x=>Am P K rest (AR l ix ⟨[],[]⟩ lg) (Sta.put ⟨s,H⟩ dd x H):=C7 fun x E R W=>by
  constructor
  ·rintro⟨a',t',h1,h2,h3⟩;cases h1;cases h2;exact h3
  ·intro h;exact⟨a,t,rfl,rfl,h⟩
@[simp] theorem wj:Am P K (⟨dd,.call { callee:=.builtin .len,args:=#[a],argTypes:=#[t] },some (k,f),nm,ix,un,l⟩::rest) lg ⟨s,H⟩=Gt (BK (s k) f) fun q=>F6 q (Kv P t (evs s a)) fun x=>Am P K rest (AR l ix ⟨[],[]⟩ lg) (Sta.put ⟨s,H⟩ dd x H):=BE fun x E R W=>by
  constructor
  ·rintro⟨a',t',h1,h2,h3⟩;cases h1;cases h2;exact h3
  ·intro h;exact⟨a,t,rfl,rfl,h⟩
@[simp] theorem zP:Am P K (⟨dd,.load t a,none,nm,ix,un,l⟩::rest) lg ⟨s,H⟩=Gt (E9 P H t (evs s a)) fun x=>Ck un lg ⟨refs (evs s a),[]⟩∧Am P K rest (AR l ix ⟨refs (evs s a),[]⟩ lg) (Sta.put ⟨s,H⟩ dd x H):=by
 apply propext;constructor
 ·rintro⟨x,E,⟨R,W⟩,⟨h1,rfl,h2,h3⟩,h4,h5⟩;simp only at h2 h3;subst h2 h3;exact⟨x,h1,h4,h5⟩
 ·rintro⟨x,h1,h4,h5⟩;exact⟨x,.nil,⟨_,_⟩,⟨h1,rfl,rfl,rfl⟩,h4,h5⟩
@[simp] theorem qe:Am P K (⟨dd,.load t a,some (k,f),nm,ix,un,l⟩::rest) lg ⟨s,H⟩=Gt (BK (s k) f) fun q=>F6 q (E9 P H t (evs s a)) fun x=>Ck un lg (fg q ⟨refs (evs s a),[]⟩)∧Am P K rest (AR l ix (fg q ⟨refs (evs s a),[]⟩) lg) (Sta.put ⟨s,H⟩ dd x H):=by
 apply propext;constructor
 ·rintro⟨x,E,⟨R,W⟩,⟨q,x0,h1,h2,rfl,h4⟩,h5,h6⟩;refine⟨q,h1,x0,fun hq=>(h2 hq).1,?_⟩;have:E = .nil∧(⟨R,W⟩:Ft)=fg q ⟨refs (evs s a),[]⟩:=by
   cases hq:q with
   |true=>
    obtain⟨_,e1,e2,e3⟩:=h2 hq;simp only at e2 e3;exact⟨e1,by rw[e2,e3];rfl⟩
   |false=>
    obtain⟨e1,e2,e3⟩:=h4 hq;simp only at e2 e3;exact⟨e1,by rw[e2,e3];rfl⟩
  obtain⟨rfl,e⟩:=this;rw[e] at h5 h6;exact⟨h5,h6⟩
 ·rintro⟨q,h1,x0,h2,h5,h6⟩;refine⟨_,.nil,fg q ⟨refs (evs s a),[]⟩,⟨q,x0,h1,fun hq=>⟨h2 hq,rfl,?_,?_⟩,rfl,fun hq=>⟨rfl,?_,?_⟩⟩,h5,h6⟩<;>subst hq<;>rfl
@[simp] theorem l9:Am P K (⟨dd,.makeMap t none,none,nm,ix,un,l⟩::rest) lg ⟨s,H⟩=Gt (HI H nm) fun p=>Ck un lg ⟨[],[(nm,false)]⟩∧Am P K rest (AR l ix ⟨[],[(nm,false)]⟩ lg) (Sta.put ⟨s,H⟩ dd p.1 (p.2.app H)):=L9 fun _ _ _ _=>Iff.rfl
@[simp] theorem jn {m k' v:Operand}:Am P K (⟨dd,.mapUpdate t m k' v,none,nm,ix,un,l⟩::rest) lg ⟨s,H⟩=Gt (Gy P H t (evs s m) (evs s k') (evs s v)) fun E=>Ck un lg ⟨[],refs (evs s m)⟩∧Am P K rest (AR l ix ⟨[],refs (evs s m)⟩ lg) (Sta.put ⟨s,H⟩ dd .any (E.app H)):=by
 apply propext;constructor
 ·rintro⟨x,E,⟨R,W⟩,⟨h1,rfl,h2,h3⟩,h4,h5⟩;simp only at h2 h3;subst h2 h3;exact⟨E,h1,h4,h5⟩
 ·rintro⟨E,h1,h4,h5⟩;exact⟨_,E,⟨_,_⟩,⟨h1,rfl,rfl,rfl⟩,h4,h5⟩
@[simp] theorem rz {m k':Operand} {ok:Bool}:Am P K (⟨dd,.lookup t m k' ok,none,nm,ix,un,l⟩::rest) lg ⟨s,H⟩=Gt (Ip P H t (evs s m) (evs s k') ok) fun x=>Ck un lg ⟨refs (evs s m),[]⟩∧Am P K rest (AR l ix ⟨refs (evs s m),[]⟩ lg) (Sta.put ⟨s,H⟩ dd x H):=by
 apply propext;constructor
 ·rintro⟨x,E,⟨R,W⟩,⟨h1,rfl,h2,h3⟩,h4,h5⟩;simp only at h2 h3;subst h2 h3;exact⟨x,h1,h4,h5⟩
 ·rintro⟨x,h1,h4,h5⟩;exact⟨x,.nil,⟨_,_⟩,⟨h1,rfl,rfl,rfl⟩,h4,h5⟩
@[simp] theorem wG:Am P K (⟨dd,.alloc t,none,nm,ix,un,l⟩::rest) lg ⟨s,H⟩=Gt (Mj P H nm t) fun p=>Ck un lg ⟨[],[(nm,false)]⟩∧Am P K rest (AR l ix ⟨[],[(nm,false)]⟩ lg) (Sta.put ⟨s,H⟩ dd p.1 (p.2.app H)):=L9 fun _ _ _ _=>Iff.rfl
@[simp] theorem z8:Am P K (⟨dd,.box t a,none,nm,ix,un,l⟩::rest) lg ⟨s,H⟩=Gt (W0 H nm t (evs s a)) fun p=>Ck un lg ⟨[],[(nm,false)]⟩∧Am P K rest (AR l ix ⟨[],[(nm,false)]⟩ lg) (Sta.put ⟨s,H⟩ dd p.1 (p.2.app H)):=L9 fun _ _ _ _=>Iff.rfl
@[simp] theorem eG {n a':Nat} {d':Nm} {ps:Array (Nat × Operand)}:Am P K (⟨dd,.buildSlice t n ps,none,a'::d',ix,un,l⟩::rest) lg ⟨s,H⟩=Gt (Dz P H (a'::d') t n (ps.toList.map fun p=>(p.1,evs s p.2))) fun p=>Ck un lg ⟨[],[(a'::d',false)]⟩∧Am P K rest (AR l ix ⟨[],[(a'::d',false)]⟩ lg) (Sta.put ⟨s,H⟩ dd p.1 (p.2.app H)):=L9 fun _ _ _ _=>Iff.rfl
@[simp] theorem iL:Am P K (⟨dd,.makeSlice t a b,none,nm,ix,un,l⟩::rest) lg ⟨s,H⟩=Gt (EB P H nm t (evs s a) (evs s b)) fun p=>Ck un lg ⟨[],[(nm,false)]⟩∧Am P K rest (AR l ix ⟨[],[(nm,false)]⟩ lg) (Sta.put ⟨s,H⟩ dd p.1 (p.2.app H)):=L9 fun _ _ _ _=>Iff.rfl
@[simp] theorem tG:Am P K (⟨dd,.store t a b,none,nm,ix,un,l⟩::rest) lg ⟨s,H⟩=Gt (Gs P H t (evs s a) (evs s b)) fun E=>Ck un lg ⟨[],refs (evs s a)⟩∧Am P K rest (AR l ix ⟨[],refs (evs s a)⟩ lg) (Sta.put ⟨s,H⟩ dd .any (E.app H)):=by
 apply propext;constructor
 ·rintro⟨x,E,⟨R,W⟩,⟨h1,rfl,h2,h3⟩,h4,h5⟩;simp only at h2 h3;subst h2 h3;exact⟨E,h1,h4,h5⟩
 ·rintro⟨E,h1,h4,h5⟩;exact⟨_,E,⟨_,_⟩,⟨h1,rfl,rfl,rfl⟩,h4,h5⟩
@[simp] theorem pM {u:TypeId}:Am P K (⟨dd,.call { callee:=.builtin .append,args:=#[a,b],argTypes:=#[t,u] },none,nm,ix,un,l⟩::rest) lg ⟨s,H⟩=Gt (DU P H nm t u (evs s a) (evs s b)) fun p=>Ck un lg ⟨refs (evs s b),gI nm (evs s a)⟩∧Am P K rest (AR l ix ⟨refs (evs s b),gI nm (evs s a)⟩ lg) (Sta.put ⟨s,H⟩ dd p.1 (p.2.app H)):=
 L9 fun x E R W=>by
  constructor
  ·rintro⟨a',b',t',u',h1,h2,h3,h4,h5⟩;cases h1;cases h2;exact⟨h3,h4,h5⟩
  ·rintro⟨h3,h4,h5⟩;exact⟨a,b,t,u,rfl,rfl,h3,h4,h5⟩
@[simp] theorem zG {u:TypeId}:Am P K (⟨dd,.call { callee:=.builtin .copy,args:=#[a,b],argTypes:=#[t,u] },none,nm,ix,un,l⟩::rest) lg ⟨s,H⟩=Gt (KV P H t (evs s a) (evs s b)) fun p=>Ck un lg ⟨refs (evs s b),refs (evs s a)⟩∧Am P K rest (AR l ix ⟨refs (evs s b),refs (evs s a)⟩ lg) (Sta.put ⟨s,H⟩ dd p.1 (p.2.app H)):=
 L9 fun x E R W=>by
  constructor
  ·rintro⟨a',b',t',u',h1,h2,h3,h4,h5⟩;cases h1;cases h2;exact⟨h3,h4,h5⟩
  ·rintro⟨h3,h4,h5⟩;exact⟨a,b,t,u,rfl,rfl,h3,h4,h5⟩
@[simp] theorem lH:Am P K (⟨dd,.alloc t,some (k,f),nm,ix,un,l⟩::rest) lg ⟨s,H⟩=Gt (BK (s k) f) fun q=>Px q (Am P K (⟨dd,.alloc t,none,nm,ix,un,l⟩::rest) lg ⟨s,H⟩) (Am P K rest (AR l ix ⟨[],[]⟩ lg) (Sta.put ⟨s,H⟩ dd (.v undef) H)):=D9
@[simp] theorem tU:Am P K (⟨dd,.box t a,some (k,f),nm,ix,un,l⟩::rest) lg ⟨s,H⟩=Gt (BK (s k) f) fun q=>Px q (Am P K (⟨dd,.box t a,none,nm,ix,un,l⟩::rest) lg ⟨s,H⟩) (Am P K rest (AR l ix ⟨[],[]⟩ lg) (Sta.put ⟨s,H⟩ dd (.v undef) H)):=D9
@[simp] theorem Zp {n a':Nat} {d':Nm} {ps:Array (Nat × Operand)}:Am P K (⟨dd,.buildSlice t n ps,some (k,f),a'::d',ix,un,l⟩::rest) lg ⟨s,H⟩=Gt (BK (s k) f) fun q=>Px q (Am P K (⟨dd,.buildSlice t n ps,none,a'::d',ix,un,l⟩::rest) lg ⟨s,H⟩) (Am P K rest (AR l ix ⟨[],[]⟩ lg) (Sta.put ⟨s,H⟩ dd (.v undef) H)):=D9
@[simp] theorem ey:Am P K (⟨dd,.makeSlice t a b,some (k,f),nm,ix,un,l⟩::rest) lg ⟨s,H⟩=Gt (BK (s k) f) fun q=>Px q (Am P K (⟨dd,.makeSlice t a b,none,nm,ix,un,l⟩::rest) lg ⟨s,H⟩) (Am P K rest (AR l ix ⟨[],[]⟩ lg) (Sta.put ⟨s,H⟩ dd (.v undef) H)):=D9
@[simp] theorem o9:Am P K (⟨dd,.store t a b,some (k,f),nm,ix,un,l⟩::rest) lg ⟨s,H⟩=Gt (BK (s k) f) fun q=>Px q (Am P K (⟨dd,.store t a b,none,nm,ix,un,l⟩::rest) lg ⟨s,H⟩) (Am P K rest (AR l ix ⟨[],[]⟩ lg) (Sta.put ⟨s,H⟩ dd (.v undef) H)):=D9
@[simp] theorem jP {u:TypeId}:Am P K (⟨dd,.call { callee:=.builtin .append,args:=#[a,b],argTypes:=#[t,u] },some (k,f),nm,ix,un,l⟩::rest) lg ⟨s,H⟩=Gt (BK (s k) f) fun q=>Px q (Am P K (⟨dd,.call { callee:=.builtin .append,args:=#[a,b],argTypes:=#[t,u] },none,nm,ix,un,l⟩::rest) lg ⟨s,H⟩) (Am P K rest (AR l ix ⟨[],[]⟩ lg) (Sta.put ⟨s,H⟩ dd (.v undef) H)):=D9
@[simp] theorem pV {u:TypeId}:Am P K (⟨dd,.call { callee:=.builtin .copy,args:=#[a,b],argTypes:=#[t,u] },some (k,f),nm,ix,un,l⟩::rest) lg ⟨s,H⟩=Gt (BK (s k) f) fun q=>Px q (Am P K (⟨dd,.call { callee:=.builtin .copy,args:=#[a,b],argTypes:=#[t,u] },none,nm,ix,un,l⟩::rest) lg ⟨s,H⟩) (Am P K rest (AR l ix ⟨[],[]⟩ lg) (Sta.put ⟨s,H⟩ dd (.v undef) H)):=D9
theorem Ae {g:FuncId} {as':Array Operand} {ts:Array TypeId} {x:A} (hs:Spec P g (as'.toList.map (evs s)) x) (hb:(as'.toList.map (evs s)).all A.bare=true) (h:Am P K rest (AR l ix ⟨[],[]⟩ lg) (Sta.put ⟨s,H⟩ dd x H)) :
  Am P K (⟨dd,.call { callee:=.value (.func g),args:=as',argTypes:=ts },none,nm,ix,un,l⟩::rest) lg ⟨s,H⟩:=
 ⟨x,.nil,⟨[],[]⟩,⟨g,[],[],rfl,.inl ⟨by simpa using hb,by simpa using hs,rfl,rfl,rfl⟩⟩,KY,h⟩
theorem dD {g:FuncId} {as':Array Operand} {ts:Array TypeId} {L:List A} {x:A} (hL:as'.toList.map (evs s)=L) (hs:Spec P g L x) (hb:L.all A.bare=true) (h:Am P K rest (AR l ix ⟨[],[]⟩ lg) (Sta.put ⟨s,H⟩ dd x H)) :
  Am P K (⟨dd,.call { callee:=.value (.func g),args:=as',argTypes:=ts },none,nm,ix,un,l⟩::rest) lg ⟨s,H⟩:=by subst hL;exact Ae hs hb h
theorem P6 {o:Operand} {g:FuncId} {fs caps:List A} {as':Array Operand} {ts:Array TypeId} {x:A} (ho:evs s o = .fnc g fs caps) (hs:Spec P g (fs++(as'.toList.map (evs s)++caps)) x) (hb:(fs++(as'.toList.map (evs s)++caps)).all A.bare=true) (h:Am P K rest (AR l ix ⟨[],[]⟩ lg) (Sta.put ⟨s,H⟩ dd x H)) :
  Am P K (⟨dd,.call { callee:=.value o,args:=as',argTypes:=ts },none,nm,ix,un,l⟩::rest) lg ⟨s,H⟩:=
 ⟨x,.nil,⟨[],[]⟩,⟨g,fs,caps,ho,.inl ⟨hb,hs,rfl,rfl,rfl⟩⟩,KY,h⟩
theorem Vz {g:FuncId} {as':Array Operand} {ts:Array TypeId} {x:A} (E:Eff) (R W:Fp) (hs:∀ H2,Agree (R++W) H H2→N9 P H2 g (as'.toList.map (evs s)) x E) (hw:NR E W) (hc:Ck un lg ⟨R,W⟩) (h:Am P K rest (AR l ix ⟨R,W⟩ lg) (Sta.put ⟨s,H⟩ dd x (E.app H))) :
  Am P K (⟨dd,.call { callee:=.value (.func g),args:=as',argTypes:=ts },none,nm,ix,un,l⟩::rest) lg ⟨s,H⟩:=
 ⟨x,E,⟨R,W⟩,⟨g,[],[],rfl,.inr (.inr ⟨by simpa using hs,hw⟩)⟩,hc,h⟩
theorem N4 {g:FuncId} {as':Array Operand} {ts:Array TypeId} {x:A} {q:Bool} (hq:BK (s k) f=some q) (hs:q=true→Spec P g (as'.toList.map (evs s)) x∧(as'.toList.map (evs s)).all A.bare=true)
  (h:Am P K rest (AR l ix ⟨[],[]⟩ lg) (Sta.put ⟨s,H⟩ dd (gd q x) H)) :
  Am P K (⟨dd,.call { callee:=.value (.func g),args:=as',argTypes:=ts },some (k,f),nm,ix,un,l⟩::rest) lg ⟨s,H⟩:=
 ⟨_,.nil,⟨[],[]⟩,⟨q,x,hq,fun e=>⟨g,[],[],rfl,.inl ⟨by simpa using (hs e).2,by simpa using (hs e).1,rfl,rfl,rfl⟩⟩,rfl,fun _=>⟨rfl,rfl,rfl⟩⟩,KY,h⟩
end
end
section
variable {P:Program} {K:Sta→Prop} {rest:List CO} {s:Nat→A} {H:Hp} {dd:Option Nat} {k:Nat} {g:FuncId} {as':Array Operand} {ts:Array TypeId} {x:A} {q:Bool} {L:List A} {nm:Nm} {ix:Nat} {un:List Nat} {l:Bool} {lg:Lg}
theorem AQ (hq:s k = .v (.bool q)) (hs:q=true→Spec P g L x) (hL:q=true→as'.toList.map (evs s)=L) (hb:L.all A.bare=true)
  (h:Am P K rest (AR l ix ⟨[],[]⟩ lg) (Sta.put ⟨s,H⟩ dd (gd q x) H)) :
  Am P K (⟨dd,.call { callee:=.value (.func g),args:=as',argTypes:=ts },some (k,true),nm,ix,un,l⟩::rest) lg ⟨s,H⟩:=
 N4 (q:=q) (by rw[hq];cases q<;>rfl) (fun e=>by rw[hL e];exact⟨hs e,hb⟩) h
theorem Ao (hq:s k = .v (.bool q)) (hs:q=false→Spec P g L x) (hL:q=false→as'.toList.map (evs s)=L) (hb:L.all A.bare=true)
  (h:Am P K rest (AR l ix ⟨[],[]⟩ lg) (Sta.put ⟨s,H⟩ dd (gd (ng q) x) H)) :
  Am P K (⟨dd,.call { callee:=.value (.func g),args:=as',argTypes:=ts },some (k,false),nm,ix,un,l⟩::rest) lg ⟨s,H⟩:=
 N4 (q:=ng q) (by rw[hq];cases q<;>rfl) (fun e=>by have e:q=false:=(by simpa using e);rw[hL e];exact⟨hs e,hb⟩) h
end
@[simp] theorem uw {q r t:Bool}:(bif q then A.v (.bool r) else A.v (.bool t))=A.v (.bool (bif q then r else t)):=by cases q<;>rfl
theorem Ad {H:Hp} {a:A} (h:a.bare=true):Gu H a a:=fun c w I μ v hs hr=>(hr.of_bare h).mono0 (fun b hb=>.inl hb) (fun _ _=>rfl)
theorem jh {w:World} {I:Nat→Prop} {μ:Mu} {f:Bool} {xs:List A} {v:Value} (h:Rel w I μ (.sl f xs) v):Rel w I μ (.sl false xs) v:=by
 cases h with
 |slN _ _ a cap _=>exact .slN _ _ _ _ (fun h=>by cases h)
 |sl _ _ b off n cap sz _ g h1 h2 h3 h4 h5 h6 h7 h8=>exact .sl _ _ b off n cap sz _ g h1 h2 h3 (fun h=>by cases h) h5 h6 h7 h8
theorem Ah {H:Hp} {f:Bool} {xs:List A}:Gu H (.sl f xs) (.sl false xs):=fun c w I μ v hs hr=>jh (Ad (a:=.sl f xs) rfl c w I μ v hs hr)
theorem Aq {H:Hp} {p q:Bool} (h:p=q):Gu H (.v (.bool p)) (.v (.bool q)):=by rw[h];exact Ad rfl
theorem Ui {H:Hp} {k:IntKind} {p q:Int} (h:p=q):Gu H (.v (.int k p)) (.v (.int k q)):=by rw[h];exact Ad rfl
theorem HJ {H:Hp} {a a':A} (h:a.bare=true) (e:a=a'):Gu H a a':=by rw[← e];exact Ad h
theorem QL {H:Hp} {o:Nm} {u off len sz:Nat} {xs ys:List A} (ho:Ml H o u=some (sz,xs)) (hl:off+len≤xs.length) (hn:ys.length=len) (hy:∀ y,y ∈ ys→y.cells.length=sz) (h1:A.ones (ys.flatMap A.cells)=true)
  (hb:Ie H (((xs.drop off).take len).flatMap A.cells) (ys.flatMap A.cells)):Gu H (.osl o u sz off len) (.sl false ys):=by
 intro c w I μ v hs hr;obtain⟨hg1,hg2⟩:=HR hb;cases hr with
 |osl _ _ _ _ _ _ a cap g1 g2 g4 g5 g3=>
  obtain⟨hu,k2,hrow⟩:=hs.row ho;obtain⟨_,hcur⟩:=g3 hu.symm;by_cases h0:len=0
  ·subst h0;have:ys=[]:=List.eq_nil_of_length_eq_zero hn;subst this;exact .slN _ _ _ _ (fun h=>by cases h)
  rcases hcur with ⟨e,_⟩ | ⟨p1,rfl,p3⟩
  ·exact(h0 e).elim
  rcases hrow with ⟨q1,_⟩ | ⟨q1,vs,k3,k4,k5,k6,k7⟩
  ·rw[p1] at q1;cases q1
  subst k2;have hB:Dw (μ o) (H o).ob=true:=by rw[(Fw ho).2];exact q1
  have hg:∀ (k:Nat) (y:A),(((xs.drop off).take len).flatMap A.cells)[k]? = some y→(xs.flatMap A.cells)[off*(μ o).sz+k]? = some y:=fun k y hk=>Dv k6 hk;refine .sl _ _ (μ o).b (off*(μ o).sz) _ _ (μ o).sz _ (fun k=>vs.getD (off*(μ o).sz+k) undef) (Or.inr ⟨o,hB,rfl⟩) hn.symm (by omega) (fun h=>by cases h) hy
   (fun k y hk=>List.all_eq_true.1 h1 y (List.mem_of_getElem? hk)) (fun k y hk=>?_) (fun k y hk=>?_)
  ·obtain⟨a',ha',_⟩:=hg2 k y hk;have h3:=hg k a' ha';have h4:=Bm k6;have h5:xs.length*(μ o).sz≤(μ o).cap*(μ o).sz:=Nat.mul_le_mul_right _ k5;have h6:=(List.getElem?_eq_some_iff.1 h3).1;rw[cell_of_row w (μ o).b _ vs (μ o).e (0,0) k3];have:off*(μ o).sz+k<vs.size:=by rw[k4];omega
   simp[this]
  ·obtain⟨a',ha',hf⟩:=hg2 k y hk;exact hf c w I μ _ hs (k7 _ a' (hg k a' ha')).2
theorem KZ {H:Hp}:∀ {l:List A},l.all A.bare=true→Ie H l l
 |[],_=>trivial
 |a::l,h=>by
  simp only[List.all_cons,Bool.and_eq_true] at h;exact⟨Ad h.1,KZ h.2⟩
theorem cV {a:A} (h:a.bare1=true):a.bare=true:=by cases a<;>simp_all [A.bare1,A.bare,A.bare2]
theorem YX {H:Hp} {o:Nm} {u off len sz:Nat} {xs:List A} (ho:Ml H o u=some (sz,xs)) (hl:off+len≤xs.length) (hb:((xs.drop off).take len).all (fun x=>x.cells.length == sz&&x.cells.all fun y=>A.bare1 y&&y.one)=true):Gu H (.osl o u sz off len) (.sl false ((xs.drop off).take len)):=by
 simp only[List.all_eq_true,Bool.and_eq_true,beq_iff_eq] at hb;refine QL ho hl (by simp;omega) (fun y hy=>(hb y hy).1) ?_ (KZ ?_)
 ·simp only[A.ones,List.all_eq_true];intro y hy;obtain⟨x,hx,hy⟩:=List.mem_flatMap.1 hy;exact((hb x hx).2 y hy).2
 ·simp only[List.all_eq_true];intro y hy;obtain⟨x,hx,hy⟩:=List.mem_flatMap.1 hy;exact cV ((hb x hx).2 y hy).1
theorem AE {H:Hp} {cs cs':List A} (h:Ie H cs cs'):Gu H (.agg cs) (.agg cs'):=by
 intro c w I μ v hs hr;obtain⟨hl,hg⟩:=HR h;cases hr with
 |agg _ _ vs h1 h2=>
  refine .agg _ _ _ (by omega) fun k y hk=>?_;obtain⟨a,ha,hf⟩:=hg k y hk;exact hf c w I μ _ hs (h2 k a ha)
theorem An {H:Hp} {cs cs':List A} (h:Ie H cs cs'):Gu H (.tup cs) (.tup cs'):=by
 intro c w I μ v hs hr;obtain⟨hl,hg⟩:=HR h;cases hr with
 |tup _ _ vs h1 h2=>
  refine .tup _ _ _ (by omega) fun k y hk=>?_;obtain⟨a,ha,hf⟩:=hg k y hk;exact hf c w I μ _ hs (h2 k a ha)
theorem ie {H:Hp} {o:Nm} {u:Nat} {cs cs':List A} (ho:Q3 H o u=some cs) (h:Ie H cs cs') (h1:A.ones cs'=true):Gu H (.pob o u 0) (.pim cs'):=by
 intro c w I μ v hs hr;obtain⟨hl,hg⟩:=HR h;cases hr with
 |pob _ _ _ _ b k g1 g2 g3=>
  obtain⟨hu,vs,k2,k3,k4⟩:=hs.cells ho;obtain⟨rfl,rfl⟩:=g3 hu.symm;have hB:Dw (μ o) (H o).ob=true:=by rw[(Oc ho).2];rfl
  refine .pim _ (μ o).b 0 _ (fun k=>vs.getD k undef) (Or.inr ⟨o,hB,rfl⟩) (fun k y hk=>?_) (fun k y hk=>?_) (fun k y hk=>?_)
  ·simp only[A.ones,List.all_eq_true] at h1;exact h1 y (List.mem_of_getElem? hk)
  ·rw[Nat.zero_add,cell_of_row w (μ o).b k vs (μ o).e (0,0) k2];have:k<vs.size:=by rw[k3,← hl];exact(List.getElem?_eq_some_iff.1 hk).1
   simp[this]
  ·obtain⟨a,ha,hf⟩:=hg k y hk;exact hf c w I μ _ hs (k4 k a ha).2
@[simp] theorem ta {H:Hp}:Ie H [] []=True:=rfl
@[simp] theorem qy {H:Hp} {a a':A} {l l':List A}:Ie H (a::l) (a'::l')=(Gu H a a'∧Ie H l l'):=rfl
end Go.G
namespace Go.Proofs.YtndnlknocdangaaGreat
set_option maxRecDepth 20000
open Go Go.G Go.Proofs
theorem Aj:Tryz.prog.follows .mixedOrders=true:=by kernel_rfl
end Go.Proofs.YtndnlknocdangaaGreat
namespace Go.Proofs.YtndnlknocdangaaGreat
open Go Go.G Go.Proofs
abbrev iv (n:Int):A:=.v (.int .i64 n)
abbrev uv (n:Int):A:=.v (.int .u64 n)
abbrev bv (b:Bool):A:=.v (.bool b)
theorem VR (w:Int) (m:Nat):w / 2 / 2 ^ m=w / 2 ^ (m+1):=by
 rw[Int.ediv_ediv_of_nonneg (by decide),Int.pow_succ,Int.mul_comm]
theorem A5 {n:Int} (h0:-9223372036854775808≤n) (h1:n<9223372036854775808):i64.wrap n=n:=by rw[IntKind.wrap_i64];omega
theorem LZ {n m:Int} (h0:-9223372036854775808 ≤ n:=by omega) (h1:n<9223372036854775808:=by omega) (h:n=m:=by omega):i64.wrap n=m:=by rw[A5 h0 h1];exact h
theorem AI (i:Nat) (h:i<9223372036854775807:=by omega):i64.wrap ((i:Int)+1)=((i+1:Nat):Int):=by rw[A5 (by omega) (by omega)];omega
theorem Hl {n:Int} (h0:-9223372036854775808 ≤ n:=by omega) (h1:n<9223372036854775808:=by omega):i64.wrap n=n:=A5 h0 h1
theorem GU {n:Int} (h0:0≤n) (h1:n<18446744073709551616):u64.wrap n=n:=by rw[IntKind.wrap_u64];omega
structure Pt where
 (kind off data ptrs code count seg:Int)
 dbl:Bool
deriving DecidableEq
@[simp] def Pt.a (p:Pt):A:=.agg [iv p.kind,iv p.off,iv p.data,iv p.ptrs,iv p.code,iv p.count,iv p.seg,bv p.dbl]
def uM (w:Int):Int:=if w / 4 % 1073741824<536870912 then w / 4 % 1073741824 else w / 4 % 1073741824-1073741824
def NU (w:Int):Pt:=
 if w=0 then ⟨0,0,0,0,0,0,0,false⟩
 else if w % 4=0 then ⟨1,uM w,w / 4294967296 % 65536,w / 281474976710656,0,0,0,false⟩
 else if w % 4=1 then ⟨2,uM w,0,0,w / 4294967296 % 8,w / 34359738368,0,false⟩
 else if w % 4=2 then ⟨3,w / 8 % 536870912,0,0,0,0,w / 4294967296,decide (w / 4 % 2=1)⟩
 else ⟨4,0,0,0,0,0,0,false⟩
end Go.Proofs.YtndnlknocdangaaGreat
namespace Go.Proofs.YtndnlknocdangaaGreat
set_option maxRecDepth 20000
open Go Go.G Go.Proofs
@[simp] theorem AbR:Tryz.prog.underlying 3=some (.int .i64):=by kernel_rfl
@[simp] theorem Abv:Tryz.prog.underlying 5=some (.int .u8):=by kernel_rfl
@[simp] theorem AaD:Tryz.prog.underlying 22=some (.slice 61):=by kernel_rfl
@[simp] theorem AaV:Tryz.prog.underlying 61=some (.int .u64):=by kernel_rfl
@[simp] theorem yU:Tryz.prog.underlying 170=some (.array 8 5):=by kernel_rfl
@[simp] theorem yw:Tryz.prog.underlying 174=some (.slice 5):=by kernel_rfl
@[simp] theorem Abr:Cz Tryz.prog 5=some 1:=by kernel_rfl
@[simp] theorem zV:Cz Tryz.prog 61=some 1:=by kernel_rfl
@[simp] theorem zC:Cz Tryz.prog 170=some 8:=by kernel_rfl
@[simp] theorem AaP:C3 Tryz.prog 5=some false:=by kernel_rfl
@[simp] theorem xU:C3 Tryz.prog 61=some false:=by kernel_rfl
@[simp] theorem sP:C3 Tryz.prog 170=some true:=by kernel_rfl
@[simp] theorem wg:A4 Tryz.prog 61=some (Value.int u64 0):=by kernel_rfl
@[simp] theorem rN:A4 Tryz.prog 170=some (Value.agg #[Value.int IntKind.u8 0,Value.int IntKind.u8 0,Value.int IntKind.u8 0,Value.int IntKind.u8 0,Value.int IntKind.u8 0,Value.int IntKind.u8 0,Value.int IntKind.u8 0,Value.int IntKind.u8 0]):=by kernel_rfl
@[simp] theorem qi:Bb Tryz.prog 61=some 8:=by kernel_rfl
@[simp] theorem m7 (ps:List (Nat × A)):BW Tryz.prog 170 ps=(Ct (fun i=>some (i*1,1)) [A.v (Value.int IntKind.u8 0),A.v (Value.int IntKind.u8 0),A.v (Value.int IntKind.u8 0),A.v (Value.int IntKind.u8 0),A.v (Value.int IntKind.u8 0),A.v (Value.int IntKind.u8 0),A.v (Value.int IntKind.u8 0),A.v (Value.int IntKind.u8 0)] ps).map A.agg:=by kernel_rfl
@[simp] abbrev xT (n:Nat):Operand:=.tmp n
@[simp] abbrev nI (n:Int):Operand:=.const (.int .i64 n)
@[simp] abbrev cL (f:Nat) (xs:Array Operand) (ts:Array TypeId):Op:=.call { callee:=(.value (.func f)),args:=xs,argTypes:=ts }
@[simp] abbrev mV (n:Nat):Op:=.move (.tmp n)
@[simp] abbrev aS (n:Nat):Op:=.assign (.tmp n)
@[simp] abbrev lD (t n:Nat):Op:=.load t (.tmp n)
@[simp] abbrev fA (t n f:Nat):Op:=.fieldAddr t (.tmp n) f
@[simp] abbrev xR (n i:Nat):Op:=.extract (.tmp n) i
@[simp] abbrev oO (d:Nat) (o:Op):CO:=co (some d) o none
@[simp] abbrev oN (d:Nat) (o:Op) (nm:Nm):CO:=cn (some d) o none nm
@[simp] abbrev oS (o:Op):CO:=co none o none
@[simp] abbrev oG (d:Nat) (o:Op) (k:Nat) (b:Bool):CO:=co (some d) o (some (k,b))
@[simp] abbrev bC (b:Builtin) (xs:Array Operand) (ts:Array TypeId):Op:=.call { callee:=(.builtin b),args:=xs,argTypes:=ts }
@[simp] abbrev bL (n t:Nat):Op:=.call { callee:=(.builtin .len),args:=#[.tmp n],argTypes:=#[t] }
@[simp] abbrev bO (o:BinOp) (t a b u:Nat):Op:=.binOp o t (.tmp a) (.tmp b) u
@[simp] abbrev iA (t a b:Nat):Op:=.indexAddr t (.tmp a) (.tmp b)
@[simp] abbrev nB (b:Bool):Operand:=.const (.bool b)
@[simp] abbrev nS:Operand:=.const (.slice none 0 0)
@[simp] abbrev mO (d n:Nat):CO:=co (some d) (.move (.tmp n)) none
@[simp] abbrev aO (d n:Nat):CO:=co (some d) (.assign (.tmp n)) none
@[simp] abbrev lO (d t n:Nat):CO:=co (some d) (.load t (.tmp n)) none
@[simp] abbrev fO (d t n f:Nat):CO:=co (some d) (.fieldAddr t (.tmp n) f) none
@[simp] abbrev xO (d n i:Nat):CO:=co (some d) (.extract (.tmp n) i) none
def n9:Nat→List CO→List (Nat × Nm)
 |_,[]=>[]
 |i,x::l=>if x.nm.isEmpty then n9 (i+1) l else (i,x.nm)::n9 (i+1) l
def MY:CC→List Mk
 |.reg a b=>[(b,n9 0 a)]
 |.seq x (.keep b (.stop y))=>MY x++(999997::b,[])::MY y
 |.seq x (.keep b y)=>MY x++(999999::b,[])::MY y
 |.seq x (.stop y)=>MY x++([999998],[])::MY y
 |.seq x y=>MY x++([],[])::MY y
 |.cond _ x y=>MY x++MY y
 |.block _ x=>MY x
 |.loop x=>MY x
 |.scope x=>MY x
 |_=>[]
@[simp] abbrev sR (a:List CO) (b:List Nat) (k:CC):CC:=.seq (.reg a b) k
@[simp] abbrev cD (n:Nat) (a b:CC):CC:=.cond (.tmp n) a b
@[simp] abbrev sT (t a b:Nat):CO:=co none (.store t (.tmp a) (.tmp b)) none
@[simp] abbrev bQ (o:BinOp) (d t a:Nat) (n:Int) (u:Nat):CO:=co (some d) (.binOp o t (.tmp a) (.const (.int .i64 n)) u) none
@[simp] abbrev bB (o:BinOp) (d t a b u:Nat):CO:=co (some d) (.binOp o t (.tmp a) (.tmp b) u) none
@[simp] abbrev aI (d:Nat) (n:Int):CO:=co (some d) (.assign (.const (.int .i64 n))) none
@[simp] abbrev aP (d a b t u:Nat) (m:Nm):CO:=cn (some d) (.call { callee:=(.builtin .append),args:=#[.tmp a,.tmp b],argTypes:=#[t,u] }) none m
@[simp] abbrev pF (d a b:Nat):CO:=co (some d) (.pick (.tmp a) (.tmp b) (.const (.bool false))) none
@[simp] abbrev pT (d a b:Nat):CO:=co (some d) (.pick (.tmp a) (.const (.bool true)) (.tmp b)) none
@[simp] abbrev cA (d f a t:Nat):CO:=co (some d) (.call { callee:=(.value (.func f)),args:=#[.tmp a],argTypes:=#[t] }) none
@[simp] abbrev cB (d f a b t u:Nat):CO:=co (some d) (.call { callee:=(.value (.func f)),args:=#[.tmp a,.tmp b],argTypes:=#[t,u] }) none
@[simp] abbrev cE (d f a b e t u v:Nat):CO:=co (some d) (.call { callee:=(.value (.func f)),args:=#[.tmp a,.tmp b,.tmp e],argTypes:=#[t,u,v] }) none
@[simp] abbrev bX (d t a:Nat) (m:Nm):CO:=cn (some d) (.box t (.tmp a)) none m
@[simp] abbrev aL (d t:Nat) (m:Nm):CO:=cn (some d) (.alloc t) none m
@[simp] abbrev mG (d a k:Nat) (b:Bool):CO:=co (some d) (.move (.tmp a)) (some (k,b))
@[simp] abbrev lG (d t a k:Nat) (b:Bool):CO:=co (some d) (.load t (.tmp a)) (some (k,b))
@[simp] abbrev fG (d t a f k:Nat) (b:Bool):CO:=co (some d) (.fieldAddr t (.tmp a) f) (some (k,b))
@[simp] abbrev iO (d t a b:Nat):CO:=co (some d) (.indexAddr t (.tmp a) (.tmp b)) none
@[simp] abbrev bN (d n t:Nat):CO:=co (some d) (.call { callee:=(.builtin .len),args:=#[.tmp n],argTypes:=#[t] }) none
@[simp] abbrev nC (d a:Nat):CO:=co (some d) (.nilCheck (.tmp a)) none
@[simp] abbrev aB (d:Nat) (b:Bool):CO:=co (some d) (.assign (.const (.bool b))) none
@[simp] abbrev aN (d:Nat):CO:=co (some d) (.assign (.const (.slice none 0 0))) none
@[simp] abbrev lS (d t a k:Nat):CO:=⟨some d,.load t (.tmp a),none,[],k,[],true⟩
@[simp] abbrev sQ (a:List CO) (l:List Nat) (k:CC) (m:List Nat) (n:CC):CC:=.seq (.seq (.reg a l) k) (.keep m n)
def HQ:CC:=sR [aI 2 0] [0] (sQ [mO 3 0] [3] (.block 0 (sR [bQ .eql 5 3 3 0 3,aO 4 5] [3,4] (cD 4 (sR [aI 2 0] [2] (.ret)) (sR [bQ .eql 7 3 3 1 3,aO 6 7] [3,6] (cD 6 (sR [aI 2 1] [2] (.ret)) (sR [bQ .eql 9 3 3 2 3,aO 8 9] [3,8] (cD 8 (sR [aI 2 8] [2] (.ret)) (sR [bQ .eql 11 3 3 3 3,aO 10 11] [3,10] (cD 10 (sR [aI 2 16] [2] (.ret)) (sR [bQ .eql 13 3 3 4 3,aO 12 13] [3,12] (cD 12 (sR [aI 2 32] [2] (.ret)) (sR [bQ .eql 15 3 3 5 3,aO 14 15] [14] (cD 14 (sR [aI 2 64] [2] (.ret)) (.skip)))))))))))))) [] (sR [oO 2 (.assign (.const (.int .i64 (-1))))] [2] (.ret)))
theorem AJ {f:FuncId} {fn:Func} {cc:CC} {rs:List ResultVar} {n:Nat} (hf:Tryz.prog.funcs[f]? = some fn) (hn:fn.ntmps=n:=by kernel_rfl) (hk:RU Tryz.prog f=true:=by kernel_rfl) (hb:fn.body=some (fn.body.getD .ret):=by kernel_rfl) (hrs:fn.results.toList=rs:=by kernel_rfl) (hc:Ic n (fn.body.getD .ret) (MY cc)=some (cc,[]):=by kernel_rfl):Ca Tryz.prog f n rs cc:=oJ Aj hk hf hb hn hrs hc
theorem My:Ca Tryz.prog 48 16 [(.tmp 2)] HQ:=AJ Tryz.func48
def DS:CC:=sQ [mO 11 6,mO 12 5,bB .lss 13 3 11 12 3] [1,5,6,13] (cD 13 (.skip) (.exit 0)) [1,5,6] (.seq (.block 1 (.reg [mO 16 1,oO 17 (.binOp .quo 61 (xT 16) (.const (.int .u64 2)) 61),aO 1 17] [1,5,6])) (.reg [mO 14 6,bQ .add 15 3 14 1 3,aO 6 15] [1,5,6])) 
def Ii:CC:=sR [aB 4 false] [0,1] (sR [mO 7 0,cA 8 48 7 3,aO 5 8] [1,5] (sQ [mO 9 5,bQ .lss 10 3 9 0 3] [1,5,10] (cD 10 (sR [aB 4 false] [4] (.ret)) (.skip)) [1,5] (sQ [aI 6 0] [1,5,6] (.block 0 (.loop DS)) [1] (sR [mO 18 1,oO 19 (.binOp .eql 61 (xT 18) (.const (.int .u64 0)) 61),aO 4 19] [4] (.ret)))))
theorem MN:Ca Tryz.prog 29 20 [(.tmp 4)] Ii:=AJ Tryz.func29
def DN:CC:=sQ [mO 11 5,mO 12 0,bN 13 12 22,bB .lss 14 3 11 13 3] [0,1,5,14] (cD 14 (.skip) (.exit 0)) [0,1,5] (.seq (.block 1 (sR [mO 17 0,mO 18 5,iO 19 22 17 18,lO 20 61 19,mO 21 1,mO 22 5,iO 23 22 21 22,lO 24 61 23,bB .neq 25 61 20 24 61] [0,1,5,25] (cD 25 (sR [aB 4 false] [4] (.ret)) (.skip)))) (.keep [0,1,5] (.reg [mO 15 5,bQ .add 16 3 15 1 3,aO 5 16] [0,1,5]))) 
def Iz:CC:=sR [aB 4 false] [0,1] (sQ [mO 6 0,bN 7 6 22,mO 8 1,bN 9 8 22,bB .neq 10 3 7 9 3] [0,1,10] (cD 10 (sR [aB 4 false] [4] (.ret)) (.skip)) [0,1] (sQ [aI 5 0] [0,1,5] (.block 0 (.loop DN)) [] (sR [aB 4 true] [4] (.ret))))
theorem M9:Ca Tryz.prog 38 26 [(.tmp 4)] Iz:=AJ Tryz.func38
def Dn:CC:=sQ [mO 6 4,bQ .lss 7 3 6 8 3] [0,2,3,4,7] (cD 7 (.skip) (.exit 0)) [0,2,3,4] (.seq (.block 1 (sR [mO 10 4,mO 11 0,oO 12 (.binOp .rem 61 (xT 11) (.const (.int .u64 256)) 61),oO 13 (.convert 61 5 (xT 12)),iO 14 170 3 10,sT 5 14 13] [0,2,3,4] (.reg [mO 15 0,oO 16 (.binOp .quo 61 (xT 15) (.const (.int .u64 256)) 61),aO 0 16] [0,2,3,4]))) (.reg [mO 8 4,bQ .add 9 3 8 1 3,aO 4 9] [0,2,3,4])) 
def HV:CC:=sR [aL 2 170 [0]] [0,2] (sR [oO 5 (.build 170 #[]),aL 3 170 [1],sT 170 3 5] [0,2,3] (sQ [aI 4 0] [0,2,3,4] (.block 0 (.loop Dn)) [2,3] (sR [lO 17 170 3,sT 170 2 17] [2] (.ret))))
theorem Mg:Ca Tryz.prog 128 18 [(.cell 2 170)] HV:=AJ Tryz.func128
def Dk:CC:=sQ [mO 6 5,mO 7 1,bB .lss 8 3 6 7 3] [0,1,5,8] (cD 8 (.skip) (.exit 0)) [0,1,5] (.seq (.block 1 (.reg [mO 11 0,oO 12 (.binOp .quo 5 (xT 11) (.const (.int .u8 2)) 5),aO 0 12] [0,1,5])) (.reg [mO 9 5,bQ .add 10 3 9 1 3,aO 5 10] [0,1,5])) 
def H6:CC:=sR [aB 4 false] [0,1] (sQ [aI 5 0] [0,1,5] (.block 0 (.loop Dk)) [0] (sR [mO 13 0,oO 14 (.binOp .rem 5 (xT 13) (.const (.int .u8 2)) 5),oO 15 (.binOp .eql 5 (xT 14) (.const (.int .u8 1)) 5),aO 4 15] [4] (.ret)))
theorem Md:Ca Tryz.prog 129 16 [(.tmp 4)] H6:=AJ Tryz.func129
def EL:CC:=sQ [mO 7 6,bQ .geq 8 3 7 0 3] [0,1,5,6,8] (cD 8 (.skip) (.exit 0)) [0,1,5,6] (.seq (.block 1 (.reg [mO 11 5,oO 12 (.binOp .mul 61 (xT 11) (.const (.int .u64 256)) 61),mO 13 0,mO 14 1,mO 15 6,bB .add 16 3 14 15 3,iO 17 174 13 16,lO 18 5 17,oO 19 (.convert 5 61 (xT 18)),bB .add 20 61 12 19 61,aO 5 20] [0,1,5,6])) (.reg [mO 9 6,bQ .sub 10 3 9 1 3,aO 6 10] [0,1,5,6])) 
def J5:CC:=sR [oO 4 (.assign (.const (.int .u64 0)))] [0,1] (sR [oO 5 (.assign (.const (.int .u64 0)))] [0,1,5] (sQ [aI 6 7] [0,1,5,6] (.block 0 (.loop EL)) [5] (sR [mO 21 5,aO 4 21] [4] (.ret))))
theorem Pw:Ca Tryz.prog 130 22 [(.tmp 4)] J5:=AJ Tryz.func130
def Er:CC:=sQ [mO 14 9,bQ .lss 15 3 14 8 3] [2,7,8,9,15] (cD 15 (.skip) (.exit 0)) [2,7,8,9] (.seq (.block 1 (sR [mO 18 2,mO 19 9,cB 20 129 18 19 5 3] [2,7,8,9,20] (cD 20 (.reg [mO 21 9,mO 22 9,iO 23 170 8 22,lO 24 5 23,iO 25 170 7 21,sT 5 25 24] [2,7,8,9]) (.skip)))) (.keep [2,7,8,9] (.reg [mO 16 9,bQ .add 17 3 16 1 3,aO 9 17] [2,7,8,9]))) 
def Jh:CC:=sR [oO 6 (.assign (.const (.int .u64 0)))] [0,1,2] (sR [mO 10 0,cA 11 128 10 61,mO 12 1,cA 13 128 12 61,aL 7 170 [0],aL 8 170 [1],sT 170 7 11,sT 170 8 13] [2,7,8] (sQ [aI 9 0] [2,7,8,9] (.block 0 (.loop Er)) [7] (.stop (sR [oO 26 (.slice 170 (xT 7) none none none),oO 27 (cL 130 #[(xT 26),(nI 0)] #[174,3]),aO 6 27] [6] (.ret)))))
theorem Oi:Ca Tryz.prog 81 28 [(.tmp 6)] Jh:=AJ Tryz.func81
def DR:CC:=sQ [mO 7 3,bQ .gtr 8 3 7 0 3,mO 9 8,mG 10 0 9 true,mG 11 3 9 true,oG 12 (.binOp .sub 3 (xT 11) (nI 1) 3) 9 true,oG 13 (iA 22 10 12) 9 true,lG 14 61 13 9 true,oG 15 (.binOp .eql 61 (xT 14) (.const (.int .u64 0)) 61) 9 true,pF 16 9 15] [0,3,16] (cD 16 (.skip) (.exit 0)) [0,3] (.block 1 (.reg [mO 17 3,bQ .sub 18 3 17 1 3,aO 3 18] [0,3])) 
def It:CC:=sR [aN 2] [0] (sR [mO 5 0,bN 6 5 22,aO 3 6] [0,3] (.seq (.block 0 (.loop DR)) (.keep [0,3] (sR [aN 4] [0,3,4] (sR [mO 19 4,mO 20 0,mO 21 3,oO 22 (.slice 22 (xT 20) none (some (xT 21)) none),aP 23 19 22 22 22 [0],aO 2 23] [2] (.ret))))))
theorem MC:Ca Tryz.prog 41 24 [(.tmp 2)] It:=AJ Tryz.func41
def AG:CC:=sR [aN 2] [0] (sQ [mO 3 0,oO 4 (.binOp .eql 22 (xT 3) nS 22)] [0,4] (cD 4 (sR [aN 2] [2] (.ret)) (.skip)) [0] (sR [oO 5 (.buildSlice 22 0 #[]),mO 6 0,aP 7 5 6 22 22 [0],aO 2 7] [2] (.ret)))
theorem AO:Ca Tryz.prog 59 8 [(.tmp 2)] AG:=AJ Tryz.func59
end Go.Proofs.YtndnlknocdangaaGreat
namespace Go.G
open Go.RowKit
def Z5 (H:Hp) (a a':A):Prop:=∀ (c:Cx) (w:World) (I:Nat→Prop) (μ:Mu) (v:Value),Sim c w I μ H→Rel w I μ a v→Rel w (fun b=>Wf H μ b) RH a' v
def m4 (P:Program) (rs:List ResultVar) (r:A):Exit→Sta→Prop:=Zz P rs fun r0 H=>Z5 H r0 r
theorem Ku {P:Program} {f:FuncId} {n:Nat} {rs:List ResultVar} {cc:CC} {args:List A} {r:A} (t:Ca P f n rs cc) (ha:args.length≤n) (h:∀ w0 I0,WPC (cx P w0 I0 n) cc (m4 P rs r) ⟨Mw args,H0⟩):SpecB P f args r:=by
 obtain⟨hm,hk,fn,code,hf,hb,hn,hrs,hc⟩:=t;refine⟨hk,fun w I J vs hI hJ htb hl hr=>?_⟩;have hIJ:∀ b,(I b∨J b)→b<w.heap.size:=fun b hb=>hb.elim (hI b) (hJ b);have h1:AWP (cx P w (fun b=>I b∨J b) n) code (Zz P fn.results.toList fun r0 H=>Z5 H r0 r) ⟨Mw args,H0⟩:=K4 (c:=cx P w _ n) hm hc (by rw[hrs];exact h w _);refine(Q0 hf hb (c:=cx P w (fun b=>I b∨J b) n) rfl hn.symm hl (by omega) (Ss hIJ (htb.mono (fun _ h=>.inl h) (fun _ _=>rfl))) hr h1).mono fun e w' ⟨v,r0,H',I',μ',he,h1,h2,h3⟩=>⟨v,he,?_,?_⟩
 ·have k:=h1.kept;exact⟨k.os,k.tape,k.output,k.size,fun b hb=>k.block b hb (fun ⟨_,h⟩=>h)⟩
 ·refine(h3 _ w' I' μ' v h1 h2).mono0 (fun b hb=>?_) (fun _ _=>rfl);obtain⟨o,g1,rfl⟩:=hb;obtain⟨_,g4,g5⟩:=h1.own o g1;rcases g4 with g4 | g4
  ·exact g4.elim
  ·exact .inr ⟨g4,g5⟩
@[simp] theorem kT {P:Program} {rs:List ResultVar} {r:A} {st:Sta}:m4 P rs r .normal st=Gt (EK P st rs) fun r0=>Z5 st.H r0 r:=rfl
@[simp] theorem sN {P:Program} {rs:List ResultVar} {r:A} {st:Sta}:m4 P rs r .ret st=Gt (EK P st rs) fun r0=>Z5 st.H r0 r:=rfl
theorem VA {H:Hp} {f:Bool}:Z5 H (.sl f []) (.sl false []):=fun c w I μ v hs hr=>by
 cases hr with
 |slN _ _ a cap _=>exact .slN _ _ _ _ (fun h=>by cases h)
 |sl _ _ b off n cap sz _ g h1 h2=>
  have:n=0:=h2;subst this;exact .slN _ _ _ _ (fun h=>by cases h)
theorem QG {H:Hp} {o:Nm} {u off len sz:Nat} {xs:List A} (ho:Ml H o u=some (sz,xs)) (hl:off+len≤xs.length) (hb:((xs.drop off).take len).all (fun x=>x.cells.length == sz&&x.cells.all fun y=>A.flat1 y&&y.one)=true):Z5 H (.osl o u sz off len) (.sl false ((xs.drop off).take len)):=by
 simp only[List.all_eq_true,Bool.and_eq_true,beq_iff_eq] at hb;intro c w I μ v hs hr;have hlen:((xs.drop off).take len).length=len:=by simp;omega
 have hcell:∀ (k:Nat) (y:A),(((xs.drop off).take len).flatMap A.cells)[k]? = some y→y.flat1=true∧y.one=true:=fun k y hk=>by
  obtain⟨x,hx,hy⟩:=List.mem_flatMap.1 (List.mem_of_getElem? hk);exact(hb x hx).2 y hy
 cases hr with
 |osl _ _ _ _ _ _ a cap g1 g2 g4 g5 g3=>
  obtain⟨hu,k2,hrow⟩:=hs.row ho;obtain⟨_,hcur⟩:=g3 hu.symm;by_cases h0:len=0
  ·subst h0;simp only[List.take_zero];exact .slN _ _ _ _ (fun h=>by cases h)
  rcases hcur with ⟨e,_⟩ | ⟨p1,rfl,p3⟩
  ·exact(h0 e).elim
  rcases hrow with ⟨q1,_⟩ | ⟨q1,vs,k3,k4,k5,k6,k7⟩
  ·rw[p1] at q1;cases q1
  subst k2;have hB:Dw (μ o) (H o).ob=true:=by rw[(Fw ho).2];exact q1
  have hg:∀ (k:Nat) (y:A),(((xs.drop off).take len).flatMap A.cells)[k]? = some y→(xs.flatMap A.cells)[off*(μ o).sz+k]? = some y:=fun k y hk=>Dv k6 hk;refine .sl _ _ (μ o).b (off*(μ o).sz) _ _ (μ o).sz _ (fun k=>vs.getD (off*(μ o).sz+k) undef) ⟨o,hB,rfl⟩ hlen.symm (by omega) (fun h=>by cases h) (fun z hz=>k6 z (Zv (SG hz)))
   (fun k y hk=>(hcell k y hk).2) (fun k y hk=>?_) (fun k y hk=>(k7 _ y (hg k y hk)).2.of_flat1 (hcell k y hk).1)
  have h3:=hg k y hk;have h4:=Bm k6;have h5:xs.length*(μ o).sz≤(μ o).cap*(μ o).sz:=Nat.mul_le_mul_right _ k5;have h6:=(List.getElem?_eq_some_iff.1 h3).1;rw[cell_of_row w (μ o).b _ vs (μ o).e (0,0) k3];have:off*(μ o).sz+k<vs.size:=by rw[k4];omega
  simp[this]
theorem Tf {P:Program} {f:FuncId} {fl:Bool} {r:A} (h1:∀ cap,SpecB P f [.v (.slice none 0 cap)] r) (h2:∀ a cap,SpecB P f [.v (.slice (some a) 0 cap)] r):SpecB P f [.sl fl []] r:=by
 refine⟨(h1 0).1,fun w I J vs hI hJ htb hl hr=>?_⟩;have h:=hr 0 _ rfl;have go:∀ x,vs.getD 0 undef=x→∀ (k:Nat) (y:A),[A.v x][k]? = some y→Rel w (fun b=>I b∨J b) RH y (vs.getD k undef):=fun x hx k y hk=>by
  cases k with
  |zero=>cases hk;rw[hx];exact .v _ _
  |succ k=>simp at hk
 generalize hq:vs.getD 0 undef=x at h;cases h with
 |slN _ _ a cap _=>
  cases a with
  |none=>exact(h1 cap).2 w I J vs hI hJ htb hl (go _ hq)
  |some a=>exact(h2 a cap).2 w I J vs hI hJ htb hl (go _ hq)
 |sl _ _ b off n cap sz _ g k1 k2=>
  have:n=0:=k2;subst this;exact(h2 _ cap).2 w I J vs hI hJ htb hl (go _ hq)
theorem Zd {w:World} {I:Nat→Prop} {μ:Mu} {d:Nm} {u sz:Nat} {v:Value} (h1:Rel w I μ (.sl true []) v) (hu:(μ d).u=u) (h0:1≤u) (hz:(μ d).sz=sz):Rel w I μ (.osl d u sz 0 0) v:=by
 subst hu;cases h1 with
 |slN _ _ q cap hc=>
  have:=hc rfl;subst this;exact .osl _ _ _ _ _ _ _ _ h0 (Ek _) (Ek _) (fun h=>by omega) (fun _=>⟨hz,.inl ⟨rfl,rfl⟩⟩)
 |sl _ _ b off n cap z _ g h1 h2 h3 h4=>
  have h5:n=0:=h2;have h6:cap=0:=h4 rfl;subst h5 h6;exact .osl _ _ _ _ _ _ _ _ h0 (Ek _) (Ek _) (fun h=>by omega) (fun _=>⟨hz,.inl ⟨rfl,rfl⟩⟩)
theorem Bc {c:Cx} {s:Nat→A} {H:Hp} {d:Nm} {u:Nat} {cs:List A} (i:Nat) (d':Nm) (sz:Nat) (hd:H d=⟨u,.cells cs⟩) (hi:cs[i]? = some (.sl true [])) (hne:d ≠ d') :
  Le c ⟨s,H⟩ ⟨s,Ay (Ay H d' ⟨(H d').u+1,.arr sz []⟩) d ⟨u,.cells (cs.set i (.osl d' ((H d').u+1) sz 0 0))⟩⟩:=fun a w I μ hs=>by
 obtain⟨hx,hs'⟩:=hs.sim.upd (EY w none) d' ⟨(H d').u+1,false,0,0,sz,0⟩ (.arr sz []) (.inl rfl) (.inl (by rw[hs.sim.ver];exact Nat.lt_succ_self _)) (fun h=>nomatch h) (fun h=>nomatch h) (fun hx=>⟨rfl,.inl ⟨rfl,rfl⟩⟩);have hd1:(Ay H d' ⟨(H d').u+1,.arr sz []⟩:Hp) d=⟨u,.cells cs⟩:=by rw[Av hne];exact hd
 have hob:=hs'.ob d;rw[hd1] at hob;obtain⟨vs,k1,k2,k3⟩:=hob;have hB:Dw (Ay μ d' ⟨(H d').u+1,false,0,0,sz,0⟩ d) ((Ay H d' ⟨(H d').u+1,.arr sz []⟩:Hp) d).ob=true:=by rw[hd1];rfl
 obtain⟨hx2,hs2⟩:=hs'.upd (EY w none) d (Ay μ d' ⟨(H d').u+1,false,0,0,sz,0⟩ d) (.cells (cs.set i (.osl d' ((H d').u+1) sz 0 0))) (.inl rfl) (.inr rfl) (fun _=>.inr ⟨hB,rfl⟩) (fun _=>hs'.tag _ hB) (fun hx2=>by
  refine⟨vs,k1,by simpa using k2,fun k y hk=>?_⟩;rw[EP];by_cases hki:k=i
  ·subst hki;have hlt:k<cs.length:=(List.getElem?_eq_some_iff.1 hi).1;rw[List.getElem?_set_self hlt] at hk;cases hk;exact⟨rfl,Zd (k3 k _ hi).2 (by simp) (by omega) (by simp)⟩
  ·rw[List.getElem?_set_ne (Ne.symm hki)] at hk;exact k3 k y hk)
 have hu:(Ay μ d' ⟨(H d').u+1,false,0,0,sz,0⟩ d).u=u:=by rw[hs'.ver,hd1]
 rw[hu] at hs2;exact⟨I,_,hs2,hs.size,hs.defers,fun t=>hx2.rel (hx.rel (hs.rel t))⟩
def Part (H H':Hp):Prop:=∀ o,H' o=H o∨H' o=⟨(H o).u,.none⟩
theorem Part.has {H H':Hp} (h:Part H H') {L:kE} {o:Nm} (k:Dw L (H' o).ob=true):Dw L (H o).ob=true:=by
 rcases h o with e | e
 ·rw[← e];exact k
 ·rw[e] at k;cases k
theorem Part.ver {H H':Hp} (h:Part H H') (o:Nm):(H' o).u=(H o).u:=by rcases h o with e | e<;>rw[e]
theorem Sim.part {c:Cx} {w:World} {I:Nat→Prop} {μ:Mu} {H H':Hp} (hs:Sim c w I μ H) (h:Part H H'):Sim c w I μ H':=
 ⟨hs.kept,hs.lt,hs.old,hs.new,fun o=>by rw[h.ver,hs.ver],fun o=>by
  rcases h o with e | e
  ·rw[e];exact hs.ob o
  ·rw[e];trivial,fun o o' k k'=>hs.apart o o' (h.has k) (h.has k'),fun o k=>hs.own o (h.has k),hs.mle,fun o k=>hs.tag o (h.has k),hs.tab⟩
theorem Sim.freezeAll {c:Cx} {w:World} {I:Nat→Prop} {μ:Mu} {H H1 H2:Hp} (hs:Sim c w I μ H) (h1:Part H H1) (h2:Part H H2) (hd:∀ o,(H1 o).ob = .none∨(H2 o).ob = .none) (hM:∀ o b,(H1 o).ob ≠ .none→¬ c.M0 o b) :
  Sim c w (fun b=>I b∨Wf H1 μ b) μ H2:=by
 have hx:Ext I μ w (fun b=>I b∨Wf H1 μ b) μ w:=⟨fun b h=>.inl h,fun b h=>rfl,MuLe.refl _⟩;refine⟨hs.kept,fun b h=>?_,fun b h=>.inl (hs.old b h),fun b h=>?_,fun o=>by rw[h2.ver,hs.ver],fun o=>?_,fun o o' k k'=>hs.apart o o' (h2.has k) (h2.has k'),fun o k=>?_,hs.mle,fun o k=>hs.tag o (h2.has k),hs.tab.mono (fun _ h=>.inl h) (fun _ _=>rfl)⟩
 ·rcases h with h | ⟨o,k,rfl⟩
  ·exact hs.lt b h
  ·exact(hs.own o (h1.has k)).2.2
 ·rcases h with h | ⟨o,k,rfl⟩
  ·exact hs.new b h
  ·rcases (hs.own o (h1.has k)).2.1 with h | h
   ·exact(hM _ _ (fun e=>by rw[e] at k;cases k) h).elim
   ·exact .inr h
 ·rcases h2 o with e | e
  ·rw[e];exact OSim.keep hx (fun _=>rfl) (hs.ob o)
  ·rw[e];trivial
 ·obtain⟨k1,k2,k3⟩:=hs.own o (h2.has k);refine⟨fun hh=>?_,k2,k3⟩;rcases hh with hh | ⟨o',k',e⟩
  ·exact k1 hh
  ·refine hs.apart o o' (h2.has k) (h1.has k') (fun e=>?_) e.symm;subst e;rcases hd o with e | e
   ·rw[e] at k';cases k'
   ·rw[e] at k;cases k
theorem SF {c:Cx} {s:Nat→A} {H H1 H2:Hp} (hM:∀ o b,(H1 o).ob ≠ .none→¬ c.M0 o b) (t:Nat) (a:A) (h1:Part H H1) (h2:Part H H2) (hd:∀ o,(H1 o).ob = .none∨(H2 o).ob = .none) (hf:Gu H1 (s t) a):Le c ⟨s,H⟩ ⟨upd s t a,H2⟩:=fun x w I μ hs=>by
 have h3:=hs.sim.freezeAll h1 h2 hd hM;refine⟨_,μ,h3,hs.size,hs.defers,fun k=>?_⟩;show Rel w _ μ (upd s t a k) _;unfold upd;split
 ·rename_i e;subst e;exact(hf c w I μ _ (hs.sim.part h1) (hs.rel k)).ofI
 ·exact(hs.rel k).mono0 (fun b h=>.inl h) (fun _ _=>rfl)
theorem WM {c:Cx} {s:Nat→A} {H:Hp} {d:Nm} (hM:∀ b,¬ c.M0 d b) (t:Nat) (a:A) (hf:∀ H1:Hp,H1 d=H d→Gu H1 (s t) a):Le c ⟨s,H⟩ ⟨upd s t a,Ay H d ⟨(H d).u,.none⟩⟩:=by
 refine SF (fun o b h=>by
  by_cases e:o=d
  ·subst e;exact hM b
  ·exact absurd (by simp[e]) h) t a (H1:=fun o=>if o=d then H o else ⟨(H o).u,.none⟩) (fun o=>?_) (fun o=>?_) (fun o=>?_) (hf _ (by simp))
 ·by_cases h:o=d
  ·exact .inl (by simp[h])
  ·exact .inr (by simp[h])
 ·by_cases h:o=d
  ·subst h;exact .inr (by simp)
  ·exact .inl (Av h)
 ·by_cases h:o=d
  ·subst h;exact .inr (by simp)
  ·exact .inl (by simp[h])
end Go.G
namespace Go.Proofs.YtndnlknocdangaaGreat
open Go Go.G Go.Proofs
abbrev ws (l:List Int):A:=.sl false (l.map uv)
abbrev sgs (l:List (List Int)):A:=.sl false (l.map ws)
@[simp] theorem yn (l:List Int):C0 1 (l.map uv)=true:=by simp[C0]
@[simp] theorem xW (l:List (List Int)):C0 1 (l.map ws)=true:=by simp[C0]
theorem Xj (f:Bool) (l:List Int) (h:l.length*8≤140737488355328):SpecB Tryz.prog 59 [.sl f (l.map uv)] (ws l):=by
 cases l with
 |nil=>
  refine Tf (fun cap=>?_) (fun a cap=>?_)
  ·refine Ku AO (by simp) fun w0 I0=>?_;unfold AG;simp;exact VA
  ·refine Ku AO (by simp) fun w0 I0=>?_;unfold AG;simp;exact QG (sz:=1) (xs:=[]) (by simp) (by simp) (by simp)
 |cons x l=>
  refine Ku AO (by simp) fun w0 I0=>?_;unfold AG;simp at h ⊢;refine⟨h,?_⟩;have:=QG (H:=Ga [([0],{ u:=1,ob:=Ob.arr 1 (uv x::l.map uv) })]) (o:=[0]) (u:=1) (off:=0) (len:=l.length+1) (sz:=1) (xs:=uv x::l.map uv) (by simp) (by simp) (by simp[A.flat1,AN]);simp[AN] at this;exact this
abbrev arX (l:List (List Int)) (z m u:Int):A:=.pim [sgs l,iv z,iv m,iv u]
abbrev arn (l:List (List Int)):A:=arX l 0 0 0
def seg (l:List (List Int)) (s:Int):Option (List Int):=if 0≤s then l[s.toNat]? else none
def zT (l:List (List Int)) (s:Int):Nat:=((seg l s).map List.length).getD 0
def bI (l:List (List Int)) (s a n:Int):Bool:=decide (0≤s∧s<l.length∧0≤a∧0≤n∧a+n≤zT l s)
def Oe (l:List (List Int)) (s a:Int):Option Int:=if 0≤a then (seg l s).bind fun g=>g[a.toNat]? else none
def part (l:List (List Int)) (s a n:Int):List Int:=(((seg l s).getD []).drop a.toNat).take n.toNat
def db (c:Int):Int:=if c=0 then 0 else if c=1 then 1 else if c=2 then 8 else if c=3 then 16 else if c=4 then 32 else 64
def mi (p:Pt):Option Int:=
 if p.kind=1 then some (p.data+p.ptrs)
 else if p.kind=2∧p.code=7 then some (p.count+1)
 else if p.kind=2∧0≤p.code∧p.code≤6∧0≤p.count∧p.count≤536870911 then some ((p.count*db p.code+63) / 64)
 else none
structure Lc where
 p:Pt
 s:Int
 at_:Int
deriving DecidableEq
def Pt.l (p:Pt):List A:=[iv p.kind,iv p.off,iv p.data,iv p.ptrs,iv p.code,iv p.count,iv p.seg,bv p.dbl]
@[simp] theorem Pt.l_eq (p:Pt):p.l=[iv p.kind,iv p.off,iv p.data,iv p.ptrs,iv p.code,iv p.count,iv p.seg,bv p.dbl]:=rfl
def Pt.zero:Pt:=⟨0,0,0,0,0,0,0,false⟩
def Lc.zero:Lc:=⟨Pt.zero,0,0⟩
abbrev Lc.a (x:Lc):A:=.agg [iv x.p.kind,iv x.p.off,iv x.p.data,iv x.p.ptrs,iv x.p.code,iv x.p.count,iv x.p.seg,bv x.p.dbl,iv x.s,iv x.at_]
def YL (l:List (List Int)) (x:Lc):Lc × Int:=if bI l x.s x.at_ ((mi x.p).getD 0)=true then (⟨{ x.p with off:=0 },x.s,x.at_⟩,0) else (Lc.zero,7)
def lj (l:List (List Int)) (p:Pt) (s a:Int):Lc × Int:=
 if p.kind=1∨p.kind=2 then YL l ⟨p,s,a+1+p.off⟩ else if p.kind=4 then (Lc.zero,9) else (Lc.zero,8)
def Wds (l:List (List Int)):Prop:=∀ x,x ∈ l→∀ y,y ∈ x→0≤y∧y<18446744073709551616
def im (l:List (List Int)) (s a:Int):Lc × Int:=
 match Oe l s a,Oe l s (a+1) with
 |some v,some w=>
  if (NU v).kind ≠ 3∨(NU v).dbl=true then (Lc.zero,8)
  else if (NU w).kind=4 then (Lc.zero,9)
  else if ((NU w).kind ≠ 1∧(NU w).kind ≠ 2)∨(NU w).off ≠ 0 then (Lc.zero,8)
  else YL l ⟨NU w,(NU v).seg,(NU v).off⟩
 |_,_=>(Lc.zero,7)
def P0 (l:List (List Int)) (s a:Int):Lc × Int:=
 match Oe l s a with
 |none=>(Lc.zero,7)
 |some w=>
  if (NU w).kind=0 then (Lc.zero,0)
  else if (NU w).kind ≠ 3 then lj l (NU w) s a
  else if (NU w).dbl=true then im l (NU w).seg (NU w).off
  else match Oe l (NU w).seg (NU w).off with
   |none=>(Lc.zero,7)
   |some v=>lj l (NU v) (NU w).seg (NU w).off
abbrev zs:List A:=[iv 0,iv 0,iv 0,iv 0,iv 0,iv 0,iv 0,bv false,iv 0,iv 0]
end Go.Proofs.YtndnlknocdangaaGreat
namespace Go.PL
inductive T where
 |mk (kind:Int) (words:List Int) (kids:List T)
 deriving Inhabited
namespace T
def kind:T→Int | mk k _ _=>k
def words:T→List Int | mk _ w _=>w
def kids:T→List T | mk _ _ l=>l
@[simp] theorem kind_mk {k:Int} {w:List Int} {l:List T}:(mk k w l).kind=k:=rfl
@[simp] theorem words_mk {k:Int} {w:List Int} {l:List T}:(mk k w l).words=w:=rfl
@[simp] theorem kids_mk {k:Int} {w:List Int} {l:List T}:(mk k w l).kids=l:=rfl
end T
theorem TT {α:Type} {P:List α→Prop} (h0:P []) (h1:∀ l x,P l→P (l++[x])) (l:List α):P l:=by
 have:∀ m:List α,P m.reverse:=by
  intro m;induction m with
  |nil=>exact h0
  |cons x m ih=>rw[List.reverse_cons];exact h1 _ _ ih
 have h:=this l.reverse
 rwa [List.reverse_reverse] at h
abbrev T0:T:=.mk 0 [] []
mutual
theorem T.ind {P:T→Prop} (h:∀ k w l,(∀ t,t ∈ l→P t)→P (.mk k w l)):∀ t,P t
 |.mk k w l=>h k w l (T.indL h l)
theorem T.indL {P:T→Prop} (h:∀ k w l,(∀ t,t ∈ l→P t)→P (.mk k w l)):∀ (l:List T),∀ t,t ∈ l→P t
 |[],t,ht=>nomatch ht
 |x::l,t,ht=>by
  rcases List.mem_cons.1 ht with e | ht
  ·rw[e];exact T.ind h x
  ·exact T.indL h l t ht
end
def CT (l:List Int):List Int:=(l.reverse.dropWhile (fun x=>x == 0)).reverse
def CE (l:List T):List T:=(l.reverse.dropWhile (fun x=>x.kind == 0)).reverse
mutual
def Af:T→T
 |.mk k w l=>if k=0 then T0 else if k=1 then .mk 1 (CT w) (CE (Sj l)) else .mk k w (Sj l)
def Sj:List T→List T
 |[]=>[]
 |t::l=>Af t::Sj l
end
@[simp] theorem Y5:∀ l,Sj l=l.map Af
 |[]=>by simp[Sj]
 |t::l=>by simp[Sj,Y5 l]
theorem EX (k:Int) (w:List Int) (l:List T):Af (.mk k w l)=if k=0 then T0 else if k=1 then .mk 1 (CT w) (CE (l.map Af)) else .mk k w (l.map Af):=by simp[Af]
@[simp] theorem Hv (t:T):(Af t).kind=t.kind:=by
 cases t;rw[EX];split
 ·rename_i h;rw[h];rfl
 ·split
  ·rename_i h;rw[h];rfl
  ·rfl
@[simp] theorem pr:CT []=[]:=rfl
@[simp] theorem pw:CE []=[]:=rfl
theorem Mr (l:List Int) (x:Int):CT (l++[x])=if x=0 then CT l else l++[x]:=by
 unfold CT;simp[List.dropWhile_cons];split<;>simp
theorem HK (l:List T) (x:T):CE (l++[x])=if x.kind=0 then CE l else l++[x]:=by
 unfold CE;by_cases h:x.kind=0<;>simp[List.dropWhile_cons,h]
theorem QE (l:List Int):(CT l).length≤l.length:=by
 unfold CT;simp;have:=(List.dropWhile_sublist (fun x:Int=>x == 0) (l:=l.reverse)).length_le;simpa using this
theorem NM (l:List T):(CE l).length≤l.length:=by
 unfold CE;simp;have:=(List.dropWhile_sublist (fun x:T=>x.kind == 0) (l:=l.reverse)).length_le;simpa using this
theorem Rc (l:List Int):CT l=l.take (CT l).length:=by
 induction l using TT with
 |h0=>rfl
 |h1 l x ih=>
  rw[Mr];split
  ·rw[List.take_append_of_le_length (QE l)];exact ih
  ·rw[AN (Ek _)]
theorem QY (l:List T):CE l=l.take (CE l).length:=by
 induction l using TT with
 |h0=>rfl
 |h1 l x ih=>
  rw[HK];split
  ·rw[List.take_append_of_le_length (NM l)];exact ih
  ·rw[AN (Ek _)]
def Ei (c:Int):Int:=if c=0 then 0 else if c=1 then 1 else if c=2 then 8 else if c=3 then 16 else if c=4 then 32 else if c=5 then 64 else -1
def Sv (c n:Int):Bool:=decide (0≤Ei c)&&decide (n / 2 ^ (Ei c).toNat=0)
def KD (k:Int):Bool:=decide (2≤k)&&decide (k≤7)
def Gd (k:Int) (c:T):Bool:=!(KD k != decide (c.kind=10) || decide (k=9)&&!decide (c.kind=1) || KD k&&!Sv (k-2) (c.words.headD 0))
def HD (k:Int) (d nw nl:Nat):Bool:=decide (k<0) || decide (k > 10) || decide (d=0) || decide (nw ≥ 65536) || decide (k=1)&&decide (nl ≥ 65536) || decide (nl ≥ 1048576) || decide (k > 1)&&decide (nw > 0)
mutual
def BV:Nat→T→Bool
 |d,.mk k w l=>if k=0 then w.isEmpty&&l.isEmpty else if k=10 then decide (w.length=1)&&l.isEmpty
  else if HD k d w.length l.length=true then false else FO (d-1) k l
def FO:Nat→Int→List T→Bool
 |_,_,[]=>true
 |d,k,t::l=>BV d t&&Gd k t&&FO d k l
end
theorem Li (d:Nat) (k:Int) (w:List Int) (l:List T):BV d (.mk k w l)=if k=0 then w.isEmpty&&l.isEmpty else if k=10 then decide (w.length=1)&&l.isEmpty
  else if HD k d w.length l.length=true then false else FO (d-1) k l:=by rw[BV]
@[simp] theorem m6 (d:Nat) (k:Int):FO d k []=true:=by rw[FO]
@[simp] theorem UA (d:Nat) (k:Int) (t:T) (l:List T):FO d k (t::l)=(BV d t&&Gd k t&&FO d k l):=by rw[FO]
theorem rightL_all {d:Nat} {k:Int}:∀ {l:List T},FO d k l=true ↔ ∀ t,t ∈ l→BV d t=true∧Gd k t=true
 |[]=>by simp
 |t::l=>by simp[rightL_all (l:=l),and_assoc]
mutual
def Au:Nat→Int→T→Int
 |d,n,.mk _ w l=>if d=0∨n-1-w.length<0 then -1 else Ar (d-1) (n-1-w.length) l
def Ar:Nat→Int→List T→Int
 |_,n,[]=>n
 |d,n,t::l=>if n<0 then n else Ar d (Au d n t) l
end
theorem JC (d:Nat) (n:Int) (k:Int) (w:List Int) (l:List T):Au d n (.mk k w l)=if d=0∨n-1-w.length<0 then -1 else Ar (d-1) (n-1-w.length) l:=by rw[Au]
@[simp] theorem NI (d:Nat) (n:Int):Ar d n []=n:=by rw[Ar]
@[simp] theorem C9 (d:Nat) (n:Int) (t:T) (l:List T):Ar d n (t::l)=if n<0 then n else Ar d (Au d n t) l:=by rw[Ar]
theorem LD {d:Nat} {k:Int} {w:List Int} {l:List T} (h:BV d (.mk k w l)=true):∀ t,t ∈ l→BV (d-1) t=true∧Gd k t=true:=by
 rw[Li] at h;split at h
 ·simp at h;intro t ht;rw[h.2] at ht;cases ht
 ·split at h
  ·simp at h;intro t ht;rw[h.2] at ht;cases ht
  ·split at h
   ·cases h
   ·exact rightL_all.1 h
end Go.PL
namespace Go.Proofs.YtndnlknocdangaaGreat
open Go Go.G Go.Proofs Go.PL
structure Rf where
 kind:Int
 s:Int
 at_:Int
 data:Int
 kids:Int
 count:Int
 n:Int
def Rf.zero:Rf:=⟨0,0,0,0,0,0,0⟩
def nk (r:Rf):Int:=if r.kind=1 then r.kids else r.count
def tz (l:List (List Int)) (s a m:Int):Rf × Int:=
 if ((Oe l s a).getD 0 ≠ 0∧(NU ((Oe l s a).getD 0)).kind ≠ 1)∨(NU ((Oe l s a).getD 0)).off<0∨m<(NU ((Oe l s a).getD 0)).off*((NU ((Oe l s a).getD 0)).data+(NU ((Oe l s a).getD 0)).ptrs) then (Rf.zero,8)
 else (⟨9,s,a+1,(NU ((Oe l s a).getD 0)).data,(NU ((Oe l s a).getD 0)).ptrs,(NU ((Oe l s a).getD 0)).off,0⟩,0)
def AaJ (l:List (List Int)) (x:Lc):Rf × Int:=
 if x.p.kind=1 then (⟨1,x.s,x.at_,x.p.data,x.p.ptrs,0,0⟩,0)
 else if x.p.code<7 then (⟨2+x.p.code,x.s,x.at_,0,0,x.p.count,0⟩,0)
 else tz l x.s x.at_ x.p.count
def atP (l:List (List Int)) (s a:Int):Rf × Int:=
 if (P0 l s a).2 ≠ 0∨(P0 l s a).1.p.kind=0 then (Rf.zero,(P0 l s a).2) else AaJ l (P0 l s a).1
def Aa3 (g:List Int) (c i:Int):Int:=
 if Ei c<1∨i<0∨1099511627776<i then 0 else ((g[(i*Ei c / 64).toNat]?).getD 0) / 2 ^ (i*Ei c % 64).toNat % 2 ^ (Ei c).toNat
def rU (l:List (List Int)) (r:Rf) (i:Int):Int:=Aa3 (((seg l r.s).getD []).drop r.at_.toNat) (r.kind-2) i
def w8 (l:List (List Int)) (r:Rf) (i:Int):Rf × Int:=
 if i<0∨nk r≤i then (Rf.zero,0)
 else if r.kind=1 then atP l r.s (r.at_+r.data+i)
 else if r.kind=8 then atP l r.s (r.at_+i)
 else if r.kind=9 then (⟨1,r.s,r.at_+i*(r.data+r.kids),r.data,r.kids,0,0⟩,0)
 else (⟨10,0,0,0,0,0,rU l r i⟩,0)
def mS (l:List (List Int)) (r:Rf):List Int:=if r.kind=10 then [r.n] else if r.kind ≠ 1 then [] else part l r.s r.at_ r.data
inductive W8 (l:List (List Int)):Rf→Prop
 |zero:W8 l Rf.zero
 |str (s a d k:Int):0≤d→d<65536→0≤k→k<65536→bI l s a (d+k)=true→W8 l ⟨1,s,a,d,k,0,0⟩
 |dat (c s a n:Int):0≤c→c<6→0≤n→n<536870912→bI l s a ((n*db c+63) / 64)=true→W8 l ⟨2+c,s,a,0,0,n,0⟩
 |ptrs (s a n:Int):0≤n→n<536870912→bI l s a n=true→W8 l ⟨8,s,a,0,0,n,0⟩
 |comp (s a d k n:Int):0≤d→d<65536→0≤k→k<65536→0≤n→n<536870912→bI l s a (n*(d+k))=true→W8 l ⟨9,s,a,d,k,n,0⟩
 |atom (n:Int):0≤n→n<18446744073709551616→W8 l ⟨10,0,0,0,0,0,n⟩
inductive XX (l:List (List Int)):Rf→T→Prop
 |mk (r:Rf) (t:T):W8 l r→r.kind=t.kind→mS l r=t.words→nk r=t.kids.length→(∀ (i:Nat) (h:i<t.kids.length),(w8 l r i).2=0)→(∀ (i:Nat) (h:i<t.kids.length),XX l (w8 l r i).1 t.kids[i])→XX l r t
end Go.Proofs.YtndnlknocdangaaGreat
namespace Go.PL
structure WE where
 at_:Int
 mask:Int
 old:Int
 new:Int
mutual
inductive E where
 |mk (kind:Int) (old new:T) (words:List WE) (kids:List KE) (list:Int) (ops:List OP)
inductive KE where
 |mk (at_:Int) (e:E)
inductive OP where
 |mk (kind n:Int) (l:List T) (e:E)
end
namespace E
def kind:E→Int | mk k _ _ _ _ _ _=>k
def old:E→T | mk _ o _ _ _ _ _=>o
def new:E→T | mk _ _ n _ _ _ _=>n
def words:E→List WE | mk _ _ _ w _ _ _=>w
def kids:E→List KE | mk _ _ _ _ k _ _=>k
def list:E→Int | mk _ _ _ _ _ l _=>l
def ops:E→List OP | mk _ _ _ _ _ _ o=>o
variable {k l:Int} {o n:T} {w:List WE} {ks:List KE} {os:List OP}
@[simp] theorem kind_mk:(mk k o n w ks l os).kind=k:=rfl
@[simp] theorem old_mk:(mk k o n w ks l os).old=o:=rfl
@[simp] theorem new_mk:(mk k o n w ks l os).new=n:=rfl
@[simp] theorem words_mk:(mk k o n w ks l os).words=w:=rfl
@[simp] theorem kids_mk:(mk k o n w ks l os).kids=ks:=rfl
@[simp] theorem list_mk:(mk k o n w ks l os).list=l:=rfl
@[simp] theorem ops_mk:(mk k o n w ks l os).ops=os:=rfl
end E
namespace KE
def at_:KE→Int | mk a _=>a
def e:KE→E | mk _ e=>e
@[simp] theorem Abh {a:Int} {e:E}:(mk a e).at_=a:=rfl
@[simp] theorem e_mk {a:Int} {e:E}:(mk a e).e=e:=rfl
end KE
namespace OP
def kind:OP→Int | mk k _ _ _=>k
def n:OP→Int | mk _ n _ _=>n
def l:OP→List T | mk _ _ l _=>l
def e:OP→E | mk _ _ _ e=>e
variable {k m:Int} {t:List T} {x:E}
@[simp] theorem kind_mk:(mk k m t x).kind=k:=rfl
@[simp] theorem AbX:(mk k m t x).n=m:=rfl
@[simp] theorem l_mk:(mk k m t x).l=t:=rfl
@[simp] theorem e_mk:(mk k m t x).e=x:=rfl
end OP
abbrev E0:E:=.mk 0 T0 T0 [] [] 0 []
mutual
theorem E.ind {P:E→Prop} (h:∀ k o n w ks l os,(∀ x,x ∈ ks→P x.e)→(∀ x,x ∈ os→P x.e)→P (.mk k o n w ks l os)):∀ e,P e
 |.mk k o n w ks l os=>h k o n w ks l os (E.indK h ks) (E.indO h os)
theorem E.indK {P:E→Prop} (h:∀ k o n w ks l os,(∀ x,x ∈ ks→P x.e)→(∀ x,x ∈ os→P x.e)→P (.mk k o n w ks l os)):∀ (ks:List KE),∀ x,x ∈ ks→P x.e
 |[],_,hx=>nomatch hx
 |.mk a e::ks,x,hx=>by
  rcases List.mem_cons.1 hx with q | hx
  ·rw[q];exact E.ind h e
  ·exact E.indK h ks x hx
theorem E.indO {P:E→Prop} (h:∀ k o n w ks l os,(∀ x,x ∈ ks→P x.e)→(∀ x,x ∈ os→P x.e)→P (.mk k o n w ks l os)):∀ (os:List OP),∀ x,x ∈ os→P x.e
 |[],_,hx=>nomatch hx
 |.mk a n l e::os,x,hx=>by
  rcases List.mem_cons.1 hx with q | hx
  ·rw[q];exact E.ind h e
  ·exact E.indO h os x hx
end
def EA (t:T):Bool:=decide (t.kind=0)&&t.words.isEmpty&&t.kids.isEmpty
def Kw (e:E):Bool:=decide (e.kind=0)&&EA e.old&&EA e.new&&(e.words.isEmpty&&e.kids.isEmpty&&e.ops.isEmpty)&&decide (e.list=0)
def F5 (w mask:Int):Bool:=(List.range 8).all fun i=>decide (mask / 2 ^ i % 2=1) || decide (w / 256 ^ i % 256=0)
def NZ (last:Int) (w:WE):Bool:=!(decide (w.at_≤last) || decide (w.at_ > 65534) || decide (w.mask=0) || !F5 w.old w.mask || !F5 w.new w.mask)
def BR:Int→List WE→Bool
 |_,[]=>true
 |last,w::l=>NZ last w&&BR w.at_ l
def K7 (n:Int):Int:=if n > 1048576 then 1048576 else n
def B5 (o:OP):Int:=if o.kind=3 then 1 else o.n+o.l.length
def Az:Int→Int→List OP→Int × Int
 |n,m,[]=>(n,m)
 |n,m,o::l=>Az (K7 (if o.kind ≠ 2 then n+B5 o else n)) (K7 (if o.kind ≠ 1 then m+B5 o else m)) l
def E4 (list:Int) (o:OP):Bool:=
 if o.kind=0 then decide (1≤o.n)&&decide (o.n≤1048576)&&o.l.isEmpty&&Kw o.e
 else if o.n ≠ 0∨o.kind<0∨o.kind > 3 then false
 else if o.kind<3 then (o.l.all fun t=>BV 64 (.mk list [] [t]))&&!o.l.isEmpty&&Kw o.e
 else true
def JV (list:Int) (o:OP):Bool:=o.l.isEmpty&&!decide (o.e.kind=0)&&!decide (list≤7)
def NG (list:Int) (o:OP):Bool:=decide (list=8) || decide (o.e.kind=2) || decide (o.e.kind=1)&&decide (o.e.old.kind=1)&&decide (o.e.new.kind=1)
def Eh (d:Nat) (k:Int) (o n:T) (nw nk:Nat) (list:Int) (no:Nat):Bool:=
 !(decide (d=0) || decide (k<0) || decide (k > 3))&&!(!decide (k=1)&&!(EA o&&EA n) || !decide (k=2)&&decide (nw+nk > 0) || !decide (k=3)&&(!decide (list=0) || decide (no > 0)))
mutual
def BH:Nat→E→Bool
 |d,.mk k o n ws ks l os=>
  if Eh d k o n ws.length ks.length l os.length=false then false
  else if k=1 then BV 64 o&&BV 64 n&&!decide (o.kind=10)&&!decide (n.kind=10)
  else if BR (-1) ws=false then false
  else if B0 (d-1) (-1) ks=false then false
  else if k=3∧(l<2∨l > 9) then false
  else if Ff (d-1) l os=false then false
  else decide ((Az 0 0 os).1<1048576)&&decide ((Az 0 0 os).2<1048576)
def B0:Nat→Int→List KE→Bool
 |_,_,[]=>true
 |d,last,.mk a e::l=>!(decide (a≤last) || decide (a > 65534) || decide (e.kind=0))&&BH d e&&B0 d a l
def Ff:Nat→Int→List OP→Bool
 |_,_,[]=>true
 |d,list,.mk k n t e::l=>Gq d list (.mk k n t e)&&Ff d list l
def Gq:Nat→Int→OP→Bool
 |d,list,.mk k n t e=>E4 list (.mk k n t e)&&(if k=3 then JV list (.mk k n t e)&&BH d e&&NG list (.mk k n t e) else true)
end
theorem I8 (d:Nat) (k:Int) (o n:T) (ws:List WE) (ks:List KE) (l:Int) (os:List OP):BH d (.mk k o n ws ks l os) =
  if Eh d k o n ws.length ks.length l os.length=false then false
  else if k=1 then BV 64 o&&BV 64 n&&!decide (o.kind=10)&&!decide (n.kind=10)
  else if BR (-1) ws=false then false
  else if B0 (d-1) (-1) ks=false then false
  else if k=3∧(l<2∨l > 9) then false
  else if Ff (d-1) l os=false then false
  else decide ((Az 0 0 os).1<1048576)&&decide ((Az 0 0 os).2<1048576):=by rw[BH]
@[simp] theorem j2 (d:Nat) (last:Int):B0 d last []=true:=by rw[B0]
@[simp] theorem Nj (d:Nat) (last:Int) (x:KE) (l:List KE):B0 d last (x::l)=(!(decide (x.at_≤last) || decide (x.at_ > 65534) || decide (x.e.kind=0))&&BH d x.e&&B0 d x.at_ l):=by cases x;rw[B0];rfl
@[simp] theorem kJ (d:Nat) (list:Int):Ff d list []=true:=by rw[Ff]
@[simp] theorem Ua (d:Nat) (list:Int) (x:OP) (l:List OP):Ff d list (x::l)=(Gq d list x&&Ff d list l):=by cases x;rw[Ff]
theorem EW (d:Nat) (list:Int) (x:OP):Gq d list x=(E4 list x&&(if x.kind=3 then JV list x&&BH d x.e&&NG list x else true)):=by cases x;rw[Gq];rfl
theorem rightOs_all {d:Nat} {list:Int}:∀ {l:List OP},Ff d list l=true ↔ ∀ x,x ∈ l→Gq d list x=true
 |[]=>by simp
 |x::l=>by simp[rightOs_all (l:=l)]
mutual
def CS:Nat→Int→E→Int
 |d,n,.mk _ o nn ws ks _ os=>if d=0∨n-1-ws.length-os.length<0 then -1 else Dr (d-1) (Cw (d-1) (Jc n ws.length os.length o nn) ks) os
def Cw:Nat→Int→List KE→Int
 |_,n,[]=>n
 |d,n,.mk _ e::l=>if n<0 then n else Cw d (CS d n e) l
def Dr:Nat→Int→List OP→Int
 |_,n,[]=>n
 |d,n,.mk _ _ t e::l=>if n<0 then n else Dr d (if Ar 80 n t<0 then Ar 80 n t else CS d (Ar 80 n t) e) l
def Jc:Int→Nat→Nat→T→T→Int
 |n,a,b,o,nn=>if Au 80 (n-1-a-b) o<0 then Au 80 (n-1-a-b) o else Au 80 (Au 80 (n-1-a-b) o) nn
end
theorem NP (d:Nat) (n:Int) (k:Int) (o nn:T) (ws:List WE) (ks:List KE) (l:Int) (os:List OP):CS d n (.mk k o nn ws ks l os)=if d=0∨n-1-ws.length-os.length<0 then -1 else Dr (d-1) (Cw (d-1) (Jc n ws.length os.length o nn) ks) os:=by rw[CS]
theorem Ks (n:Int) (a b:Nat) (o nn:T):Jc n a b o nn=if Au 80 (n-1-a-b) o<0 then Au 80 (n-1-a-b) o else Au 80 (Au 80 (n-1-a-b) o) nn:=by rw[Jc]
@[simp] theorem Ju (d:Nat) (n:Int):Cw d n []=n:=by rw[Cw]
@[simp] theorem Fv (d:Nat) (n:Int) (x:KE) (l:List KE):Cw d n (x::l)=if n<0 then n else Cw d (CS d n x.e) l:=by cases x;rw[Cw];rfl
@[simp] theorem HU (d:Nat) (n:Int):Dr d n []=n:=by rw[Dr]
@[simp] theorem DA (d:Nat) (n:Int) (x:OP) (l:List OP):Dr d n (x::l)=if n<0 then n else Dr d (if Ar 80 n x.l<0 then Ar 80 n x.l else CS d (Ar 80 n x.l) x.e) l:=by cases x;rw[Dr];rfl
mutual
def Gh:E→Bool
 |.mk _ _ _ _ ks _ os=>!(decide ((Az 0 0 os).1 > 2000) || decide ((Az 0 0 os).2 > 2000))&&F4 ks&&FM os
def F4:List KE→Bool
 |[]=>true
 |.mk _ e::l=>Gh e&&F4 l
def FM:List OP→Bool
 |[]=>true
 |.mk _ _ _ e::l=>Gh e&&FM l
end
theorem SV (k:Int) (o nn:T) (ws:List WE) (ks:List KE) (l:Int) (os:List OP):Gh (.mk k o nn ws ks l os)=(!(decide ((Az 0 0 os).1 > 2000) || decide ((Az 0 0 os).2 > 2000))&&F4 ks&&FM os):=by rw[Gh]
@[simp] theorem j1:F4 []=true:=by rw[F4]
@[simp] theorem Nv (x:KE) (l:List KE):F4 (x::l)=(Gh x.e&&F4 l):=by cases x;rw[F4];rfl
@[simp] theorem jY:FM []=true:=by rw[FM]
@[simp] theorem ME (x:OP) (l:List OP):FM (x::l)=(Gh x.e&&FM l):=by cases x;rw[FM];rfl
end Go.PL
namespace Go.G
open Go.RowKit
mutual
def A.soft:A→A
 |.sl _ xs=>.sl false (A.softL xs)
 |.agg cs=>.agg (A.softL cs)
 |.tup cs=>.tup (A.softL cs)
 |.pim cs=>.pim (A.softL cs)
 |.ifc t x=>.ifc t (A.soft x)
 |.any=>.any
 |.v x=>.v x
 |.pob o u off=>.pob o u off
 |.osl o u sz off len=>.osl o u sz off len
 |.pel o u i j=>.pel o u i j
 |.mo o u=>.mo o u
 |.fnc f fs cs=>.fnc f fs cs
def A.softL:List A→List A
 |[]=>[]
 |x::xs=>A.soft x::A.softL xs
end
theorem Bd:∀ l:List A,A.softL l=l.map A.soft
 |[]=>by simp[A.softL]
 |x::l=>by simp[A.softL,Bd l]
theorem Ri (a:A):a.soft.cells=a.cells.map A.soft:=by cases a<;>simp[A.soft,A.cells,Bd]
theorem SQ:∀ l:List A,(l.map A.soft).flatMap A.cells=(l.flatMap A.cells).map A.soft
 |[]=>rfl
 |x::l=>by simp[Ri,SQ l]
theorem UG (a:A):a.soft.one=a.one:=by cases a<;>simp[A.soft,A.one]
theorem Rel.soft {w:World} {I:Nat→Prop} {μ:Mu} {a:A} {x:Value} (h:Rel w I μ a x):Rel w I μ a.soft x:=by
 induction h with
 |any=>simpa[A.soft] using Rel.any _ _
 |v=>simpa[A.soft] using Rel.v _ _
 |slN μ f a cap h=>
  simp only[A.soft,A.softL];exact .slN _ _ _ _ (fun h=>nomatch h)
 |sl μ f b off n cap sz xs g hb hn hc hf hs h1 hcell hr ih=>
  simp only[A.soft,Bd];refine .sl _ _ b off n cap sz _ g hb (by simpa using hn) (by simpa using hc) (fun h=>nomatch h) (fun x hx=>?_) (fun k y hk=>?_) (fun k y hk=>?_) (fun k y hk=>?_)
  ·obtain⟨x',hx',rfl⟩:=List.mem_map.1 hx;simpa[Ri] using hs x' hx'
  all_goals
   rw[SQ,List.getElem?_map,Option.map_eq_some_iff] at hk;obtain⟨y',hy,rfl⟩:=hk
  ·rw[UG];exact h1 k y' hy
  ·exact hcell k y' hy
  ·exact ih k y' hy
 |agg μ cs vs hl _ ih=>
  simp only[A.soft,Bd];refine .agg _ _ _ (by simpa using hl) fun k y hk=>?_;rw[List.getElem?_map,Option.map_eq_some_iff] at hk;obtain⟨y',hy,rfl⟩:=hk;exact ih k y' hy
 |tup μ cs vs hl _ ih=>
  simp only[A.soft,Bd];refine .tup _ _ _ (by simpa using hl) fun k y hk=>?_;rw[List.getElem?_map,Option.map_eq_some_iff] at hk;obtain⟨y',hy,rfl⟩:=hk;exact ih k y' hy
 |pim μ b off cs g hb h1 hcell hr ih=>
  simp only[A.soft,Bd];refine .pim _ b off _ g hb (fun k y hk=>?_) (fun k y hk=>?_) (fun k y hk=>?_);all_goals
   rw[List.getElem?_map,Option.map_eq_some_iff] at hk;obtain⟨y',hy,rfl⟩:=hk
  ·rw[UG];exact h1 k y' hy
  ·exact hcell k y' hy
  ·exact ih k y' hy
 |pob _ _ _ _ _ _ h1 h2 h3=>simpa[A.soft] using Rel.pob _ _ _ _ _ _ h1 h2 h3
 |osl _ _ _ _ _ _ _ _ h1 h2 h4 h5 h3=>simpa[A.soft] using Rel.osl _ _ _ _ _ _ _ _ h1 h2 h4 h5 h3
 |pel _ _ _ _ _ _ _ h1 h2 h3=>simpa[A.soft] using Rel.pel _ _ _ _ _ _ _ h1 h2 h3
 |mo _ _ _ _ h1 h2 h3=>simpa[A.soft] using Rel.mo _ _ _ _ h1 h2 h3
 |fnc _ _ _ _ _ _ hl0 h0 hl h _ _=>simpa[A.soft] using Rel.fnc _ _ _ _ _ _ hl0 h0 hl h
 |ifc _ _ _ _ _ ih=>simpa[A.soft] using Rel.ifc _ _ _ _ ih
theorem Spec.soft {P:Program} {f:FuncId} {as' as'':List A} {r:A} (h:Spec P f as'' r) (e:A.softL as'=as''):Spec P f as' r:=by
 subst e;refine⟨h.1,fun w I vs hI ht hn ha=>h.2 w I vs hI ht (by simpa[Bd] using hn) fun k y hk=>?_⟩;rw[Bd,List.getElem?_map,Option.map_eq_some_iff] at hk;obtain⟨y',hy,rfl⟩:=hk;exact(ha k y' hy).soft
theorem SpecB.soft {P:Program} {f:FuncId} {as' as'':List A} {r:A} (h:SpecB P f as'' r) (e:A.softL as'=as''):SpecB P f as' r:=by
 subst e;refine⟨h.1,fun w I J vs hI hJ ht hn ha=>h.2 w I J vs hI hJ ht (by simpa[Bd] using hn) fun k y hk=>?_⟩;rw[Bd,List.getElem?_map,Option.map_eq_some_iff] at hk;obtain⟨y',hy,rfl⟩:=hk;exact(ha k y' hy).soft
theorem gg {H:Hp} {a:A} (h:a.bare=true):Gu H a a.soft:=fun c w I μ v hs hr=>(Ad h c w I μ v hs hr).soft
mutual
def A.ren (g:Nm→Nm) (δ:Nm→Nat):A→A
 |.pob o u off=>.pob (g o) (u+δ o) off
 |.osl o u sz off len=>.osl (g o) (u+δ o) sz off len
 |.pel o u i j=>.pel (g o) (u+δ o) i j
 |.mo o u=>.mo (g o) (u+δ o)
 |.agg cs=>.agg (A.renL g δ cs)
 |.tup cs=>.tup (A.renL g δ cs)
 |.fnc f fs cs=>.fnc f (A.renL g δ fs) (A.renL g δ cs)
 |.ifc t x=>.ifc t (A.ren g δ x)
 |.any=>.any
 |.v x=>.v x
 |.sl f xs=>.sl f xs
 |.pim cs=>.pim cs
def A.renL (g:Nm→Nm) (δ:Nm→Nat):List A→List A
 |[]=>[]
 |x::xs=>A.ren g δ x::A.renL g δ xs
end
mutual
def A.refs (S:Nm→Prop):A→Prop
 |.pob o u off=>S o
 |.osl o u sz off len=>S o
 |.pel o u i j=>S o
 |.mo o u=>S o
 |.agg cs=>A.refsL S cs
 |.tup cs=>A.refsL S cs
 |.fnc f fs cs=>A.refsL S fs∧A.refsL S cs
 |.ifc t x=>A.refs S x
 |.any=>True
 |.v x=>True
 |.sl f xs=>True
 |.pim cs=>True
def A.refsL (S:Nm→Prop):List A→Prop
 |[]=>True
 |x::xs=>A.refs S x∧A.refsL S xs
end
theorem CV {g:Nm→Nm} {δ:Nm→Nat}:∀ l:List A,A.renL g δ l=l.map (A.ren g δ)
 |[]=>by simp[A.renL]
 |x::l=>by simp[A.renL,CV l]
theorem refsL_iff {S:Nm→Prop}:∀ {l:List A},A.refsL S l ↔ ∀ x,x ∈ l→x.refs S
 |[]=>by simp[A.refsL]
 |x::l=>by simp[A.refsL,refsL_iff (l:=l)]
theorem Tl {g:Nm→Nm} {δ:Nm→Nat} (a:A):(a.ren g δ).cells=a.cells.map (A.ren g δ):=by cases a<;>simp[A.ren,A.cells,CV]
theorem U9 {g:Nm→Nm} {δ:Nm→Nat}:∀ l:List A,(l.map (A.ren g δ)).flatMap A.cells=(l.flatMap A.cells).map (A.ren g δ)
 |[]=>rfl
 |x::l=>by simp[Tl,U9 l]
theorem YK {g:Nm→Nm} {δ:Nm→Nat} (a:A):(a.ren g δ).one=a.one:=by cases a<;>simp[A.ren,A.one]
theorem XE {S:Nm→Prop} {a y:A} (h:a.refs S) (hy:y ∈ a.cells):y.refs S:=by
 cases a<;>simp[A.cells] at hy<;>first | (subst hy;exact h) | exact refsL_iff.1 (by simpa[A.refs] using h) y hy
theorem Rel.ren {w:World} {I:Nat→Prop} {μ:Mu} {a:A} {v:Value} (h:Rel w I μ a v):∀ {μ':Mu} {S:Nm→Prop} {g:Nm→Nm} {δ:Nm→Nat},a.refs S→(∀ o,S o→1≤(μ o).u→μ' (g o)={ μ o with u:=(μ o).u+δ o })→Rel w I μ' (a.ren g δ) v:=by
 induction h with
 |any=>intro μ' S g δ _ _;simpa[A.ren] using Rel.any _ _
 |v=>intro μ' S g δ _ _;simpa[A.ren] using Rel.v _ _
 |slN _ _ _ _ h=>intro μ' S g δ _ _;simpa[A.ren] using Rel.slN _ _ _ _ h
 |sl μ f b off n cap sz xs g hb hn hc hf hs h1 hcell hr _=>intro μ' S g' δ _ _;simpa[A.ren] using Rel.sl _ f b off n cap sz xs g hb hn hc hf hs h1 hcell hr
 |pim μ b off cs g hb h1 hcell hr _=>intro μ' S g' δ _ _;simpa[A.ren] using Rel.pim _ b off cs g hb h1 hcell hr
 |agg μ cs vs hl _ ih=>
  intro μ' S g δ hS hμ;simp only[A.ren,CV];refine .agg _ _ _ (by simpa using hl) fun k y hk=>?_;rw[List.getElem?_map,Option.map_eq_some_iff] at hk;obtain⟨y',hy,rfl⟩:=hk;exact ih k y' hy (refsL_iff.1 (by simpa[A.refs] using hS) y' (List.mem_of_getElem? hy)) hμ
 |tup μ cs vs hl _ ih=>
  intro μ' S g δ hS hμ;simp only[A.ren,CV];refine .tup _ _ _ (by simpa using hl) fun k y hk=>?_;rw[List.getElem?_map,Option.map_eq_some_iff] at hk;obtain⟨y',hy,rfl⟩:=hk;exact ih k y' hy (refsL_iff.1 (by simpa[A.refs] using hS) y' (List.mem_of_getElem? hy)) hμ
 |fnc μ f fs caps us vs hl0 _ hl _ ih0 ih=>
  intro μ' S g δ hS hμ;simp only[A.refs] at hS;simp only[A.ren,CV];refine .fnc _ _ _ _ _ _ (by simpa using hl0) (fun k y hk=>?_) (by simpa using hl) fun k y hk=>?_
  ·rw[List.getElem?_map,Option.map_eq_some_iff] at hk;obtain⟨y',hy,rfl⟩:=hk;exact ih0 k y' hy (refsL_iff.1 hS.1 y' (List.mem_of_getElem? hy)) hμ
  ·rw[List.getElem?_map,Option.map_eq_some_iff] at hk;obtain⟨y',hy,rfl⟩:=hk;exact ih k y' hy (refsL_iff.1 hS.2 y' (List.mem_of_getElem? hy)) hμ
 |ifc _ _ _ _ _ ih=>
  intro μ' S g δ hS hμ;simp only[A.ren];exact .ifc _ _ _ _ (ih (by simpa[A.refs] using hS) hμ)
 |pob μ o u off b k h1 h2 h3=>
  intro μ' S g δ hS hμ;have e:=hμ o (by simpa[A.refs] using hS) (by omega);simp only[A.ren];exact .pob _ _ _ _ _ _ (by omega) (by rw[e];simpa using h2) fun hu=>by rw[e] at hu ⊢; exact h3 (by simpa using hu)
 |osl μ o u sz off len a cap h1 h2 h4 h5 h3=>
  intro μ' S g δ hS hμ;have e:=hμ o (by simpa[A.refs] using hS) (by omega);simp only[A.ren];exact .osl _ _ _ _ _ _ _ _ (by omega) (by rw[e];simpa using h2) h4 h5 fun hu=>by rw[e] at hu ⊢; exact h3 (by simpa using hu)
 |pel μ o u i j b k h1 h2 h3=>
  intro μ' S g δ hS hμ;have e:=hμ o (by simpa[A.refs] using hS) (by omega);simp only[A.ren];exact .pel _ _ _ _ _ _ _ (by omega) (by rw[e];simpa using h2) fun hu=>by rw[e] at hu ⊢; exact h3 (by simpa using hu)
 |mo μ o u b h1 h2 h3=>
  intro μ' S g δ hS hμ;have e:=hμ o (by simpa[A.refs] using hS) (by omega);simp only[A.ren];exact .mo _ _ _ _ (by omega) (by rw[e];simpa using h2) fun hu=>by rw[e] at hu ⊢; exact h3 (by simpa using hu)
def Ob.ren (g:Nm→Nm) (δ:Nm→Nat):Ob→Ob
 |.none=>.none
 |.cells cs=>.cells (A.renL g δ cs)
 |.arr sz xs=>.arr sz (A.renL g δ xs)
 |.mp es=>.mp es
def Ob.refs (S:Nm→Prop):Ob→Prop
 |.none=>True
 |.cells cs=>A.refsL S cs
 |.arr sz xs=>A.refsL S xs
 |.mp _=>True
theorem QP {g:Nm→Nm} {δ:Nm→Nat} {L:kE} {ob:Ob}:Dw L (ob.ren g δ)=Dw L ob:=by cases ob<;>rfl
theorem OSim.ren {w:World} {I:Nat→Prop} {μ μ':Mu} {L L':kE} {ob:Ob} {S:Nm→Prop} {g:Nm→Nm} {δ:Nm→Nat} (h:OSim w I μ L ob) (hS:ob.refs S) (hμ:∀ o,S o→1≤(μ o).u→μ' (g o)={ μ o with u:=(μ o).u+δ o }) (hL:L'={ L with u:=L'.u }) :
  OSim w I μ' L' (ob.ren g δ):=by
 rw[hL];cases ob with
 |none=>trivial
 |mp es=>exact h
 |cells cs=>
  obtain⟨vs,h1,h2,h3⟩:=h;simp only[Ob.ren,CV];refine⟨vs,h1,by simpa using h2,fun k y hk=>?_⟩;rw[List.getElem?_map,Option.map_eq_some_iff] at hk;obtain⟨y',hy,rfl⟩:=hk;exact⟨by rw[YK];exact(h3 k y' hy).1,(h3 k y' hy).2.ren (refsL_iff.1 hS y' (List.mem_of_getElem? hy)) hμ⟩
 |arr sz xs=>
  simp only[Ob.ren,CV];obtain⟨h0,⟨h1,h2⟩ | ⟨h1,vs,h3,h4,h5,h6,h7⟩⟩:=h
  ·exact⟨h0,.inl ⟨h1,by rw[h2];rfl⟩⟩
  ·refine⟨h0,.inr ⟨h1,vs,h3,h4,by simpa using h5,fun x hx=>?_,fun k y hk=>?_⟩⟩
   ·obtain⟨x',hx',rfl⟩:=List.mem_map.1 hx;simpa[Tl] using h6 x' hx'
   ·rw[U9,List.getElem?_map,Option.map_eq_some_iff] at hk;obtain⟨y',hy,rfl⟩:=hk;obtain⟨x,hx,hy'⟩:=List.mem_flatMap.1 (List.mem_of_getElem? hy);exact⟨by rw[YK];exact(h7 k y' hy).1,(h7 k y' hy).2.ren (XE (refsL_iff.1 hS x hx) hy') hμ⟩
def HS (P:Program) (w0:World) (I0:Nat→Prop) (M0:Nm→Nat→Prop) (n:Nat) (m0:Mu):Cx:=⟨P,w0,I0,M0,n,m0⟩
@[simp] theorem Abg {P:Program} {w0:World} {I0:Nat→Prop} {M0:Nm→Nat→Prop} {n:Nat} {m0:Mu}:(HS P w0 I0 M0 n m0).P=P:=rfl
def SpecH (P:Program) (f:FuncId) (k:Nat) (args:List A) (Hc:Hp) (r:A) (Hr:Hp):Prop:=
 RU P f=true∧∀ (w:World) (I:Nat→Prop) (M0:Nm→Nat→Prop) (n:Nat) (μ:Mu) (vs:Array Value),(∀ (o:Nm) (b:Nat),(Hc o).ob = .none→¬ M0 o b)→Sim (HS P w I M0 n μ) w I μ Hc→vs.size=args.length→(∀ (k:Nat) (y:A),args[k]? = some y→Rel w I μ y (vs.getD k undef)) →
  Calls P f vs w fun e w'=>∃ v,e = .returned v∧∃ H' I' μ',Sim (HS P w I M0 n μ) w' I' μ' H'∧Rel w' I' μ' r v∧∀ (i:Nat) (p:Nm),i<k→H' (i::p)=Hr (i::p)
theorem Sim.of_n {P:Program} {w0 w:World} {I0 I:Nat→Prop} {M0:Nm→Nat→Prop} {n n':Nat} {m0 μ:Mu} {H:Hp} (h:Sim (HS P w0 I0 M0 n m0) w I μ H):Sim (HS P w0 I0 M0 n' m0) w I μ H:=
 ⟨h.kept,h.lt,h.old,h.new,h.ver,h.ob,h.apart,h.own,h.mle,h.tag,h.tab⟩
def Lp (c:Cx) (rs:List ResultVar) (k:Nat) (r:A) (Hr:Hp):Exit→Sta→Prop:=fun e st=>Pa c (Zz c.P rs (fun r0 H=>r0=r∧∀ (i:Nat) (p:Nm),i<k→H (i::p)=Hr (i::p)) e) st
theorem Ha {c:Cx} {rs:List ResultVar} {k:Nat} {r:A} {Hr:Hp} {e:Exit} {st st':Sta} (h:Le c st st') (k':Lp c rs k r Hr e st'):Lp c rs k r Hr e st:=JI h k'
theorem Q6 {c:Cx} {rs:List ResultVar} {k:Nat} {r r0:A} {Hr:Hp} {st:Sta} (h:EK c.P st rs=some r0) (he:r0=r) (hh:∀ (i:Nat) (p:Nm),i<k→st.H (i::p)=Hr (i::p)):Lp c rs k r Hr .ret st:=Fg ⟨r0,h,he,hh⟩
theorem OO {c:Cx} {rs:List ResultVar} {k:Nat} {r r0:A} {Hr:Hp} {st:Sta} (h:EK c.P st rs=some r0) (he:r0=r) (hh:∀ (i:Nat) (p:Nm),i<k→st.H (i::p)=Hr (i::p)):Lp c rs k r Hr .normal st:=Fg ⟨r0,h,he,hh⟩
theorem Lb {P:Program} {f:FuncId} {n k:Nat} {rs:List ResultVar} {cc:CC} {args:List A} {Hc:Hp} {r:A} {Hr:Hp} (t:Ca P f n rs cc) (ha:args.length≤n)
  (h:∀ w0 I0 M0 m0,(∀ (o:Nm) (b:Nat),(Hc o).ob = .none→¬ M0 o b)→WPC (HS P w0 I0 M0 n m0) cc (Lp (HS P w0 I0 M0 n m0) rs k r Hr) ⟨Mw args,Hc⟩):SpecH P f k args Hc r Hr:=by
 obtain⟨hm,hk,fn,code,hf,hb,hn,hrs,hc⟩:=t;refine⟨hk,fun w I M0 n' μ vs hN hs hl har=>?_⟩;refine(Q0 (Q:=fun r0 H=>r0=r∧∀ (i:Nat) (p:Nm),i<k→H (i::p)=Hr (i::p)) hf hb (c:=HS P w I M0 n μ) rfl hn.symm hl (by omega) (Sim.of_n hs) har (fun a w1 I1 μ1 hsr=>wp_mono (K4 (c:=HS P w I M0 n μ) hm hc (h w I M0 μ hN) a w1 I1 μ1 hsr) fun e a' w' ⟨st',I',μ',g1,st2,g2,g3⟩=>by
   obtain⟨I2,μ2,g4⟩:=g2 a' w' I' μ' g1;exact⟨st2,I2,μ2,g4,by rw[hrs];exact g3⟩)).mono fun e w' ⟨v,r0,H',I',μ',he,h1,h2,h3,h4⟩=>?_
 subst h3;exact⟨v,he,H',I',μ',h1.of_n,h2,h4⟩
theorem UF {P:Program} {f:FuncId} {n k:Nat} {rs:List ResultVar} {cc:CC} {args:List A} {Hc:Hp} {r:A} {Hr:Hp} (t:Ca P f n rs cc) (ha:args.length≤n)
  (h:∀ w0 I0 M0 m0,WPC (HS P w0 I0 M0 n m0) cc (Lp (HS P w0 I0 M0 n m0) rs k r Hr) ⟨Mw args,Hc⟩):SpecH P f k args Hc r Hr:=Lb t ha fun w0 I0 M0 m0 _=>h w0 I0 M0 m0
def Ng (rs:List Nat):Nm→Nm
 |i::p=>rs.getD i 0::p
 |[]=>[]
def Pq (rs:List Nat):Nm→Nm
 |j::p=>rs.idxOf j::p
 |[]=>[]
def MD (rs:List Nat) (m:Nat):Nm→Prop
 |j::p=>rs.idxOf j<m
 |[]=>False
def FU (k:Nat):Nm→Prop
 |i::p=>i<k
 |[]=>False
def LY (rs:List Nat) (m:Nat) (H:Hp):Nm→Nat
 |i::p=>if i<m then 0 else if i<rs.length then (H (rs.getD i 0::p)).u else 0
 |[]=>0
def VOb.ren (g:Nm→Nm) (δ:Nm→Nat) (d:Nat) (x:VOb):VOb:=⟨x.u+d,x.ob.ren g δ⟩
def Gp (rs:List Nat) (m:Nat) (H Hr:Hp):Hp
 |j::p=>(Hr (rs.idxOf j::p)).ren (Ng rs) (LY rs m H) (LY rs m H (rs.idxOf j::p))
 |[]=>⟨0,.none⟩
theorem I6 {rs:List Nat} (hnd:rs.Nodup) {i:Nat} (h:i<rs.length):rs.idxOf (rs.getD i 0)=i:=by
 have e:rs.getD i 0=rs[i]:=by simp[List.getD,h]
 rw[e];exact hnd.idxOf_getElem i h
theorem MQ {rs:List Nat} {j:Nat} (h:j ∈ rs):rs.getD (rs.idxOf j) 0=j:=by
 have hl:=List.idxOf_lt_length_iff.2 h;simp[List.getD,hl]
theorem idx_mem {rs:List Nat} {j:Nat}:rs.idxOf j<rs.length ↔ j ∈ rs:=List.idxOf_lt_length_iff
theorem XM {g:Nm→Nm} {δ:Nm→Nat} {d:Nat} {x:VOb} (h:(x.ren g δ d).ob = .none):x.ob = .none:=by
 cases x with
 |mk u ob=>cases ob<;>first | rfl | cases h
theorem Ox {P:Program} {f:FuncId} {rs:List Nat} {m:Nat} {args:List A} {Hc Hr:Hp} {r:A} {H:Hp} (hnd:rs.Nodup) (hm:m≤rs.length)
  (hS:SpecH P f rs.length (A.renL (Pq rs) (fun _=>0) args) Hc r Hr)
  (h1:∀ (i:Nat) (p:Nm),i<m→Hc (i::p)=(H (rs.getD i 0::p)).ren (Pq rs) (fun _=>0) 0) (h2:∀ (i:Nat) (p:Nm),m≤i→Hc (i::p)=⟨0,.none⟩) (h3:Hc []=⟨0,.none⟩)
  (ha:A.refsL (MD rs m) args) (hc:∀ (i:Nat) (p:Nm),i<m→(H (rs.getD i 0::p)).ob.refs (MD rs m))
  (hr:r.refs (FU rs.length)) (ho:∀ (i:Nat) (p:Nm),i<rs.length→(Hr (i::p)).ob.refs (FU rs.length))
  (hv:∀ (i:Nat) (p:Nm),m≤i→i<rs.length→(Hr (i::p)).ob = .none∨1≤(Hr (i::p)).u) :
  N9 P H f args (r.ren (Ng rs) (LY rs m H)) (.fn rs (Gp rs m H Hr)):=by
 refine⟨hS.1,fun c w I μ vs hP hs hl har=>?_⟩
 let nm:Nat→Nm→Nm:=fun i p=>rs.getD i 0::p
 let μc:Mu:=fun o=>match o with
  |i::p=>if i<m then μ (nm i p) else RH (i::p)
  |[]=>RH []
 let M1:Nm→Nat→Prop:=fun o b=>∃ i p,o=i::p∧i<m∧Dw (μ (nm i p)) (H (nm i p)).ob=true∧b=(μ (nm i p)).b
 have hμ:∀ o,MD rs m o→1≤(μ o).u→μc (Pq rs o)={ μ o with u:=(μ o).u+(fun _=>0) o }:=fun o ho _=>by
  cases o with
  |nil=>exact ho.elim
  |cons j p=>
   have hj:rs.idxOf j<m:=ho;show(if rs.idxOf j<m then μ (nm (rs.idxOf j) p) else _)=_;rw[if_pos hj];have:nm (rs.idxOf j) p=j::p:=by show rs.getD (rs.idxOf j) 0::p=_;rw[MQ (idx_mem.1 (by omega))]
   rw[this];rfl
 have nm_ne:∀ {i i':Nat} {p p':Nm},i<rs.length→i'<rs.length→i::p ≠ i'::p'→nm i p ≠ nm i' p':=fun {i i' p p'} hi hi' hne e=>by
  have e1:rs.getD i 0=rs.getD i' 0:=by injection e
  have e2:p=p':=by injection e
  have:=I6 hnd hi;rw[e1,I6 hnd hi'] at this;exact hne (by rw[this,e2])
 have own1:∀ (i:Nat) (p:Nm),Dw (μc (i::p)) (Hc (i::p)).ob=true→i<m∧Dw (μ (nm i p)) (H (nm i p)).ob=true∧μc (i::p)=μ (nm i p):=fun i p h=>by
  by_cases hi:i<m
  ·have e:μc (i::p)=μ (nm i p):=if_pos hi;rw[e,h1 i p hi] at h;simp only[VOb.ren,QP] at h;exact⟨hi,h,e⟩
  ·rw[h2 i p (by omega)] at h;cases h
 have start:Sim (HS P w I M1 0 μc) w I μc Hc:=by
  refine⟨⟨rfl,rfl,rfl,Ek _,fun _ _ _=>rfl⟩,hs.lt,fun _ h=>h,fun b hb=>.inl hb,fun o=>?_,fun o=>?_,fun o o' k k' hne=>?_,fun o k=>?_,MuLe.refl _,fun o k=>?_,by subst hP;exact hs.tab⟩
  ·cases o with
   |nil=>rw[h3];rfl
   |cons i p=>
    by_cases hi:i<m
    ·have e:μc (i::p)=μ (nm i p):=if_pos hi;rw[e,h1 i p hi,hs.ver];rfl
    ·have e:μc (i::p)=RH (i::p):=if_neg hi;rw[e,h2 i p (by omega)];rfl
  ·cases o with
   |nil=>rw[h3];trivial
   |cons i p=>
    by_cases hi:i<m
    ·have e:μc (i::p)=μ (nm i p):=if_pos hi;rw[e,h1 i p hi];exact(hs.ob (nm i p)).ren (hc i p hi) hμ rfl
    ·rw[h2 i p (by omega)];trivial
  ·cases o with
   |nil=>rw[h3] at k;cases k
   |cons i p=>
    cases o' with
    |nil=>rw[h3] at k';cases k'
    |cons i' p'=>
     obtain⟨q1,q2,q3⟩:=own1 i p k;obtain⟨r1,r2,r3⟩:=own1 i' p' k';rw[q3,r3];exact hs.apart _ _ q2 r2 (nm_ne (by omega) (by omega) hne)
  ·cases o with
   |nil=>rw[h3] at k;cases k
   |cons i p=>
    obtain⟨q1,q2,q3⟩:=own1 i p k;rw[q3];obtain⟨g1,g2,g3⟩:=hs.own _ q2;exact⟨g1,.inl ⟨i,p,rfl,q1,q2,rfl⟩,g3⟩
  ·cases o with
   |nil=>rw[h3] at k;cases k
   |cons i p=>
    obtain⟨q1,q2,q3⟩:=own1 i p k;rw[q3];exact hs.tag _ q2
 have harg:∀ (k:Nat) (y:A),(A.renL (Pq rs) (fun _=>0) args)[k]? = some y→Rel w I μc y (vs.getD k undef):=fun k y hk=>by
  rw[CV,List.getElem?_map,Option.map_eq_some_iff] at hk;obtain⟨y',hy,rfl⟩:=hk;exact(har k y' hy).ren (refsL_iff.1 ha y' (List.mem_of_getElem? hy)) hμ
 refine(hS.2 w I M1 0 μc vs (fun o b h ⟨i,p,e,hi,hb,_⟩=>by
  subst e;rw[h1 i p hi] at h;rw[show(H (nm i p)).ob = .none from XM h] at hb;cases hb) start (by simpa[CV] using hl) harg).mono fun e w' ⟨v,he,H',I',μ',hs',hrel,hH'⟩=>⟨v,he,I',?_⟩
 let δ:=LY rs m H
 let μ2:Mu:=fun n=>match n with
  |j::p=>if j ∈ rs then (if rs.idxOf j<m∨1≤(μ' (rs.idxOf j::p)).u then { μ' (rs.idxOf j::p) with u:=(μ' (rs.idxOf j::p)).u+δ (rs.idxOf j::p) } else μ (j::p)) else μ (j::p)
  |[]=>μ []
 have δ0:∀ {i:Nat} {p:Nm},i<m→δ (i::p)=0:=fun {i p} h=>if_pos h;have δ1:∀ {i:Nat} {p:Nm},¬ i<m→i<rs.length→δ (i::p)=(H (nm i p)).u:=fun {i p} h h'=>by
  show(if i<m then _ else _)=_;rw[if_neg h,if_pos h']
 have nmj:∀ {j:Nat} {p:Nm},j ∈ rs→nm (rs.idxOf j) p=j::p:=fun {j p} h=>by show rs.getD (rs.idxOf j) 0::p=_;rw[MQ h]
 have app_in:∀ {j:Nat} {p:Nm},j ∈ rs→(Eff.fn rs (Gp rs m H Hr)).app H (j::p)=Gp rs m H Hr (j::p):=fun {j p} h=>by simp[Eff.app,h]
 have app_out:∀ {j:Nat} {p:Nm},j ∉ rs→(Eff.fn rs (Gp rs m H Hr)).app H (j::p)=H (j::p):=fun {j p} h=>by simp[Eff.app,h]
 have app_nil':(Eff.fn rs (Gp rs m H Hr)).app H []=H []:=rfl;have mu_in:∀ {j:Nat} {p:Nm},j ∈ rs→(rs.idxOf j<m∨1≤(μ' (rs.idxOf j::p)).u)→μ2 (j::p)={ μ' (rs.idxOf j::p) with u:=(μ' (rs.idxOf j::p)).u+δ (rs.idxOf j::p) }:=fun {j p} h h'=>by
  show(if j ∈ rs then _ else _)=_;rw[if_pos h,if_pos h']
 have mu_old:∀ {j:Nat} {p:Nm},j ∈ rs→¬ (rs.idxOf j<m∨1≤(μ' (rs.idxOf j::p)).u)→μ2 (j::p)=μ (j::p):=fun {j p} h h'=>by
  show(if j ∈ rs then _ else _)=_;rw[if_pos h,if_neg h']
 have mu_out:∀ {j:Nat} {p:Nm},j ∉ rs→μ2 (j::p)=μ (j::p):=fun {j p} h=>by
  show(if j ∈ rs then _ else _)=_;rw[if_neg h]
 have hle:MuLe μ μ2:=fun o=>by
  cases o with
  |nil=>exact⟨Ek _,fun _=>rfl⟩
  |cons j p=>
   by_cases hj:j ∈ rs
   ·by_cases hi:rs.idxOf j<m
    ·rw[mu_in hj (.inl hi),δ0 hi];have e:μc (rs.idxOf j::p)=μ (j::p):=by
      show(if rs.idxOf j<m then _ else _)=_;rw[if_pos hi,nmj hj]
     have:=hs'.mle (rs.idxOf j::p);change (μc (rs.idxOf j::p)).u≤_∧(_=(μc (rs.idxOf j::p)).u→_=μc (rs.idxOf j::p)) at this;rw[e] at this;exact⟨this.1,fun q=>by rw[← this.2 q];rfl⟩
    ·by_cases hu:1≤(μ' (rs.idxOf j::p)).u
     ·rw[mu_in hj (.inr hu),δ1 hi (idx_mem.2 hj),nmj hj,← hs.ver];exact⟨by simp,fun q=>by simp at q;omega⟩
     ·rw[mu_old hj (by omega)];exact⟨Ek _,fun _=>rfl⟩
   ·rw[mu_out hj];exact⟨Ek _,fun _=>rfl⟩
 have notM1:∀ {n:Nm} {b:Nat},Dw (μ n) (H n).ob=true→b=(μ n).b→(∀ j p,n=j::p→j ∉ rs)→¬ ∃ o,M1 o b:=fun {n b} hb e hn ⟨_,i,p,_,q1,q2,q3⟩=>by
  refine hs.apart n (nm i p) hb q2 (fun e'=>?_) (by rw[← e,q3]);refine hn _ _ e' ?_;have:i<rs.length:=by omega
  simp[List.getD,this]
 have hx:Ext I μ w I' μ2 w':=⟨fun b h=>hs'.old b h,fun b h=>hs'.kept.block b (hs.lt b h) (fun ⟨_,i,p,_,q1,q2,q3⟩=>(hs.own _ q2).1 (by rw[← q3];exact h)),hle⟩;have hμ2:∀ o,FU rs.length o→1≤(μ' o).u→μ2 (Ng rs o)={ μ' o with u:=(μ' o).u+δ o }:=fun o ho h1=>by
  cases o with
  |nil=>exact ho.elim
  |cons i p=>
   have hi:i<rs.length:=ho;have e:=I6 hnd hi;have hmem:rs.getD i 0 ∈ rs:=idx_mem.1 (by rw[e];exact hi);show μ2 (rs.getD i 0::p)=_;rw[mu_in hmem (.inr (by rw[e];exact h1)),e]
 have oH:∀ {j:Nat} {p:Nm},j ∈ rs→(H' (rs.idxOf j::p))=Hr (rs.idxOf j::p):=fun {j p} h=>hH' _ _ (idx_mem.2 h);have own2:∀ {j:Nat} {p:Nm},j ∈ rs→Dw (μ2 (j::p)) (Gp rs m H Hr (j::p)).ob=true→Dw (μ' (rs.idxOf j::p)) (H' (rs.idxOf j::p)).ob=true∧(μ2 (j::p)).b=(μ' (rs.idxOf j::p)).b:=fun {j p} hj h=>by
  simp only[Gp,VOb.ren,QP] at h;by_cases hi:rs.idxOf j<m∨1≤(μ' (rs.idxOf j::p)).u
  ·rw[mu_in hj hi] at h ⊢;rw[oH hj];exact⟨by cases hq:(Hr (rs.idxOf j::p)).ob<;>rw[hq] at h<;>exact h,rfl⟩
  ·rcases hv (rs.idxOf j) p (by omega) (idx_mem.2 hj) with e | e
   ·rw[e] at h;cases h
   ·rw[← oH hj,← hs'.ver] at e;omega
 have own3:∀ {j:Nat} {p:Nm},j ∈ rs→Dw (μ2 (j::p)) (Gp rs m H Hr (j::p)).ob=true→(μ2 (j::p)).e=(μ' (rs.idxOf j::p)).e:=fun {j p} hj h=>by
  simp only[Gp,VOb.ren,QP] at h;by_cases hi:rs.idxOf j<m∨1≤(μ' (rs.idxOf j::p)).u
  ·rw[mu_in hj hi]
  ·rcases hv (rs.idxOf j) p (by omega) (idx_mem.2 hj) with e | e
   ·rw[e] at h;cases h
   ·rw[← oH hj,← hs'.ver] at e;omega
 have blk:∀ {i:Nat} {p:Nm},Dw (μ' (i::p)) (H' (i::p)).ob=true→¬ I' (μ' (i::p)).b∧(M1 (i::p) (μ' (i::p)).b∨w.heap.size≤(μ' (i::p)).b)∧(μ' (i::p)).b<w'.heap.size:=fun {i p} h=>hs'.own _ h;refine⟨μ2,hx,⟨?_,hs'.lt,fun b h=>hs'.old b (hs.old b h),fun b h=>?_,fun o=>?_,fun o=>?_,fun o o' k k' hne=>?_,fun o k=>?_,hs.mle.trans hle,fun o k=>?_,by subst hP;exact hs'.tab⟩,hrel.ren hr hμ2⟩
 ·have k1:=hs.kept;have k2:=hs'.kept;refine⟨k2.os.trans k1.os,k2.tape.trans k1.tape,k2.output.trans k1.output,Nat.le_trans k1.size k2.size,fun b hb hM=>?_⟩;refine(k2.block b (Nat.lt_of_lt_of_le hb k1.size) (fun ⟨_,i,p,_,q1,q2,q3⟩=>?_)).trans (k1.block b hb hM);rcases (hs.own _ q2).2.1 with g | g
  ·rw[← q3] at g;exact hM ⟨_,g⟩
  ·rw[← q3] at g;omega
 ·rcases hs'.new b h with g | g
  ·exact hs.new b g
  ·exact .inr (Nat.le_trans hs.kept.size g)
 ·cases o with
  |nil=>exact hs.ver []
  |cons j p=>
   by_cases hj:j ∈ rs
   ·rw[app_in hj];show _=(Hr (rs.idxOf j::p)).u+δ (rs.idxOf j::p);rw[← oH hj,← hs'.ver];by_cases hi:rs.idxOf j<m∨1≤(μ' (rs.idxOf j::p)).u
    ·rw[mu_in hj hi]
    ·rw[mu_old hj hi,δ1 (by omega) (idx_mem.2 hj),nmj hj,hs.ver];omega
   ·rw[app_out hj,mu_out hj];exact hs.ver _
 ·cases o with
  |nil=>exact OSim.keep hx (fun hb=>hs'.kept.block _ (hs.own _ hb).2.2 (notM1 hb rfl (fun j p e=>nomatch e))) (hs.ob [])
  |cons j p=>
   by_cases hj:j ∈ rs
   ·rw[app_in hj];by_cases hi:rs.idxOf j<m∨1≤(μ' (rs.idxOf j::p)).u
    ·rw[mu_in hj hi];have:=hs'.ob (rs.idxOf j::p);rw[oH hj] at this;exact this.ren (ho _ _ (idx_mem.2 hj)) hμ2 rfl
    ·rcases hv (rs.idxOf j) p (by omega) (idx_mem.2 hj) with e | e
     ·simp only[Gp,VOb.ren,e];trivial
     ·rw[← oH hj,← hs'.ver] at e;omega
   ·rw[app_out hj,mu_out hj];exact OSim.keep hx (fun hb=>hs'.kept.block _ (hs.own _ hb).2.2 (notM1 hb rfl (fun j' p' e=>by cases e;exact hj))) (hs.ob _)
 ·have cross:∀ {j:Nat} {p:Nm} {n:Nm},j ∈ rs→Dw (μ2 (j::p)) (Gp rs m H Hr (j::p)).ob=true→Dw (μ n) (H n).ob=true→(∀ j p,n=j::p→j ∉ rs)→(μ2 (j::p)).b ≠ (μ n).b:=fun {j p n} hj h h' hn e=>by
   obtain⟨q1,q2⟩:=own2 hj h;obtain⟨_,g,_⟩:=blk q1;rw[q2] at e;rcases g with g | g
   ·exact notM1 h' e hn ⟨_,g⟩
   ·have:=(hs.own _ h').2.2;omega
  cases o with
  |nil=>
   cases o' with
   |nil=>exact(hne rfl).elim
   |cons j' p'=>
    by_cases hj':j' ∈ rs
    ·rw[app_in hj'] at k';exact Ne.symm (cross hj' k' k (fun j p e=>nomatch e))
    ·rw[app_out hj',mu_out hj'] at k';rw[mu_out hj'];exact hs.apart _ _ k k' hne
  |cons j p=>
   by_cases hj:j ∈ rs
   ·rw[app_in hj] at k;cases o' with
    |nil=>exact cross hj k k' (fun j p e=>nomatch e)
    |cons j' p'=>
     by_cases hj':j' ∈ rs
     ·rw[app_in hj'] at k';obtain⟨q1,q2⟩:=own2 hj k;obtain⟨r1,r2⟩:=own2 hj' k';rw[q2,r2];refine hs'.apart _ _ q1 r1 (fun e=>hne ?_);have e1:rs.idxOf j=rs.idxOf j':=by injection e
      have e2:p=p':=by injection e
      rw[← MQ hj,← MQ hj',e1,e2]
     ·rw[app_out hj',mu_out hj'] at k';rw[mu_out hj'];exact cross hj k k' (fun j'' p'' e=>by cases e;exact hj')
   ·rw[app_out hj,mu_out hj] at k;rw[mu_out hj];cases o' with
    |nil=>exact hs.apart _ _ k k' hne
    |cons j' p'=>
     by_cases hj':j' ∈ rs
     ·rw[app_in hj'] at k';exact Ne.symm (cross hj' k' k (fun j'' p'' e=>by cases e;exact hj))
     ·rw[app_out hj',mu_out hj'] at k';rw[mu_out hj'];exact hs.apart _ _ k k' hne
 ·have far:∀ {n:Nm},Dw (μ n) (H n).ob=true→¬ I' (μ n).b∧(c.M0 n (μ n).b∨c.w0.heap.size≤(μ n).b)∧(μ n).b<w'.heap.size:=fun {n} h=>by
   obtain⟨g1,g2,g3⟩:=hs.own _ h;refine⟨fun h'=>?_,g2,Nat.lt_of_lt_of_le g3 hs'.kept.size⟩;rcases hs'.new _ h' with g | g
   ·exact g1 g
   ·exact absurd (show w.heap.size≤_ from g) (by omega)
  cases o with
  |nil=>exact far k
  |cons j p=>
   by_cases hj:j ∈ rs
   ·rw[app_in hj] at k;obtain⟨q1,q2⟩:=own2 hj k;rw[q2];obtain⟨g1,g2,g3⟩:=blk q1;refine⟨g1,?_,g3⟩;rcases g2 with ⟨i,p',r0,r1,r2,r3⟩ | g2
    ·have e1:rs.idxOf j=i:=by injection r0
     have e2:p=p':=by injection r0
     rw[← e1,← e2,nmj hj] at r2 r3;rw[r3];exact(hs.own _ r2).2.1
    ·exact .inr (Nat.le_trans hs.kept.size g2)
   ·rw[app_out hj,mu_out hj] at k;rw[mu_out hj];exact far k
 ·cases o with
  |nil=>exact hs.tag _ k
  |cons j p=>
   by_cases hj:j ∈ rs
   ·rw[app_in hj] at k;rw[own3 hj k];exact hs'.tag _ (own2 hj k).1
   ·rw[app_out hj,mu_out hj] at k;rw[mu_out hj];exact hs.tag _ k
end Go.G
