/-
 Texts,merged,without what is not reached.
-/
import Derived.Test.YtndnlknocdangaaGreatKNa
set_option linter.unusedSimpArgs false
set_option linter.unusedVariables false
open Go.IntKind (i64 u64)
namespace Go.G
open Go.RowKit
section
variable {P:Program} {nms:Nat→Nm} {need:Nat→Nat→Bool} {ops:Array Oper} {md:Region.Mode}
def IG (P:Program) (nms:Nat→Nm) (need:Nat→Nat→Bool) (ops:Array Oper) (i:Nat) (K:Lg→Sta→Prop) (lg:Lg) (st:Sta):Prop:=
 match ops[i]? with
 |none=>K lg st
 |some o=>∃ x E f,Db P nms ops i o st x E f∧Vq need lg i f∧K ((i,f)::lg) (st.put o.dst x (E.app st.H))
def bE (P:Program) (nms:Nat→Nm) (need:Nat→Nat→Bool) (md:Region.Mode) (ops:Array Oper) (K:Sta→Prop):Nat→Array Bool→Lg→Sta→Prop
 |0,listed,lg,st=>Region.ready md ops listed=[]∧K st
 |fuel+1,listed,lg,st=>(Region.ready md ops listed=[]→K st)∧∀ i ∈ Region.ready md ops listed,IG P nms need ops i (bE P nms need md ops K fuel (listed.setIfInBounds i true)) lg st
theorem Zu {i:Nat} {lg:Lg} {st:Sta} {K K':Lg→Sta→Prop} (h:∀ lg st,K lg st→K' lg st) (hh:IG P nms need ops i K lg st):IG P nms need ops i K' lg st:=by
 unfold IG at *;split
 ·exact h _ _ (by simpa[*] using hh)
 ·rename_i o ho;simp only[ho] at hh;obtain⟨x,E,f,h1,h2,h3⟩:=hh;exact⟨x,E,f,h1,h2,h _ _ h3⟩
def Same (lg lg':Lg):Prop:=∀ p,p ∈ lg ↔ p ∈ lg'
theorem Same.cons {lg lg':Lg} (h:Same lg lg') (p:Nat × Ft):Same (p::lg) (p::lg'):=fun q=>by simp[h q]
theorem Qf {K:Sta→Prop}:∀ (fuel:Nat) (listed:Array Bool) {lg lg':Lg} {st:Sta},Same lg lg'→bE P nms need md ops K fuel listed lg st→bE P nms need md ops K fuel listed lg' st
 |0,_,_,_,_,_,h=>h
 |fuel+1,listed,lg,lg',st,hs,h=>⟨h.1,fun i hi=>by
   have h1:=h.2 i hi;unfold IG at *;split
   ·rename_i ho;simp only[ho] at h1;exact Qf fuel _ hs h1
   ·rename_i o ho;simp only[ho] at h1;obtain⟨x,E,f,h2,h3,h4⟩:=h1;exact⟨x,E,f,h2,fun p hp hn=>h3 p ((hs p).2 hp) hn,Qf fuel _ (hs.cons _) h4⟩⟩
theorem Mh {c:Cx} {K:Sta→Prop} {Q:Exit→Act→World→Prop} (hd:Qe c.n ops=true) (hQ:∀ st a w I μ,SR c st a w I μ→K st→Q .normal a w) :
  ∀ (fuel:Nat) (listed:Array Bool) (lg:Lg) (st:Sta) (a:Act) (w:World) (I:Nat→Prop) (μ:Mu),SR c st a w I μ→bE c.P nms need md ops K fuel listed lg st→wpAny c.P md ops Q fuel listed a w
 |0,_,_,st,a,w,I,μ,h,hs=>⟨hs.1,hQ st a w I μ h hs.2⟩
 |fuel+1,listed,lg,st,a,w,I,μ,h,hs=>by
  refine⟨fun h0=>hQ st a w I μ h (hs.1 h0),fun i hi=>?_⟩;have h1:=hs.2 i hi;unfold IG at h1;unfold wpOp;split
  ·rename_i ho;simp only[ho] at h1;exact Mh hd hQ fuel _ _ st a w I μ h h1
  ·rename_i o ho;simp only[ho] at h1;obtain⟨x,E,f,⟨q,x0,hg,h2,rfl,h3⟩,_,hk⟩:=h1;have hw:=PE h hd hg;have hdst:=Od hd ho;cases q with
   |true=>
    rw[hw,if_pos rfl];exact .inl (Sl h hdst (h2 rfl) (fun a' w' I' μ' h'=>Mh hd hQ fuel _ _ _ a' w' I' μ' h' hk))
   |false=>
    rw[hw,if_neg (by simp)];obtain⟨rfl,_,_⟩:=h3 rfl;exact Mh hd hQ fuel _ _ _ _ _ I μ (St h hdst) hk
theorem eI {o:Oper} {st:Sta} {dst:Option Tmp} {x:A} {H:Hp} (h:∀ d,dst=some d→d ∉ o.looksAt ops):∀ z ∈ o.op.operands,evs (st.put dst x H).s z=evs st.s z:=by
 intro z hz;cases dst with
 |none=>rfl
 |some d=>
  cases z with
  |tmp t=>
   have:t ≠ d:=fun e=>h d rfl (by subst e;exact List.mem_append_left _ (List.mem_filterMap.2 ⟨.tmp t,by simpa using hz,rfl⟩));simp[evs,Sta.put,upd,this]
  |const x=>rfl
  |global g=>rfl
  |func f=>rfl
theorem VA {o:Oper} {st:Sta} {dst:Option Tmp} {x:A} {H:Hp} {q:Bool} (h:∀ d,dst=some d→d ∉ o.looksAt ops):Nc ops (st.put dst x H) o q ↔ Nc ops st o q:=by
 cases dst with
 |none=>rfl
 |some d=>
  unfold Nc;cases hg:o.guard with
  |none=>rfl
  |some p=>
   obtain⟨j,f⟩:=p;constructor
   ·rintro⟨d',h1,h2⟩;have:d' ≠ d:=fun e=>h d rfl (by subst e;simp[Oper.looksAt,hg,h1]);refine⟨d',h1,?_⟩;simpa[Sta.put,upd,this] using h2
   ·rintro⟨d',h1,h2⟩;have:d' ≠ d:=fun e=>h d rfl (by subst e;simp[Oper.looksAt,hg,h1]);refine⟨d',h1,?_⟩;simpa[Sta.put,upd,this] using h2
theorem UQ {i:Nat} {o:Oper} {st st':Sta} {x:A} {E:Eff} {f:Ft} (hg:∀ q,Nc ops st' o q ↔ Nc ops st o q) (he:∀ z ∈ o.op.operands,evs st'.s z=evs st.s z) (hH:Agree (f.R++f.W) st.H st'.H)
  (h:Db P nms ops i o st x E f):Db P nms ops i o st' x E f:=by
 obtain⟨q,x0,h1,h2,h3,h4⟩:=h;exact⟨q,x0,(hg q).2 h1,fun hq=>iu (fun z hz=>(he z hz).symm) (fS (h2 hq) hH),h3,h4⟩
theorem QQ {i:Nat} {o:Oper} {st:Sta} {x:A} {E:Eff} {f:Ft} (h:Db P nms ops i o st x E f):Ot E f.W:=by
 obtain⟨q,x0,h1,h2,h3,h4⟩:=h;cases q with
 |true=>exact lK (h2 rfl)
 |false=>obtain⟨rfl,_,_⟩:=h4 rfl;exact FJ _
theorem eJ {st:Sta} {d:Option Tmp} {x:A} {H:Hp}:(st.put d x H).H=H:=by cases d<;>rfl
theorem m7 (E:Eff) {H H':Hp} {o:Nm} (h:H o=H' o):E.app H o=E.app H' o:=by
 cases E with
 |nil=>exact h
 |one d x=>simp only[Mm,AJ];rw[h]
 |fn rs F=>
  simp only[Eff.app];cases o with
  |nil=>exact h
  |cons r p=>simp only;rw[h]
theorem mH {E1 E2:Eff} {f g:Ft} (h1:Ot E1 f.W) (h2:Ot E2 g.W) (hn:nc f g=true) (H:Hp):E2.app (E1.app H)=E1.app (E2.app H):=by
 funext o;simp only[nc,Bool.and_eq_true,P6] at hn;cases ha:SH f.W o with
 |false=>
  rw[h1 o _ ha];exact m7 E2 (h1 o H ha)
 |true=>
  have hb:SH g.W o=false:=by
   cases hb:SH g.W o with
   |false=>rfl
   |true=>exact(ZK hn.1.2 ha hb).elim
  rw[h2 o _ hb];exact(m7 E1 (h2 o H hb)).symm
theorem VH {E:Eff} {f g:Ft} (h:Ot E f.W) (hn:nc f g=true) (H:Hp):Agree (g.R++g.W) H (E.app H):=fun o ho=>h o H (by
 simp only[nc,Bool.and_eq_true] at hn;cases ha:SH f.W o with
 |false=>rfl
 |true=>exact(ZK hn.1 ha ho).elim)
theorem kP {st:Sta} {d e:Option Tmp} {x y:A} {H1 H2 H3:Hp} (h:∀ k,d=some k→e ≠ some k):(st.put d x H1).put e y H3=(st.put e y H2).put d x H3:=by
 cases d with
 |none=>cases e<;>rfl
 |some d=>
  cases e with
  |none=>rfl
  |some e=>
   have hne:d ≠ e:=fun he=>h d rfl (by rw[he]);simp only[Sta.put,Sta.mk.injEq,and_true];funext t;simp only[upd];by_cases h1:t=e<;>by_cases h2:t=d<;>simp_all
theorem bS {i j:Nat} {oi oj:Oper} {x:A} {E:Eff} {f:Ft} {lg:Lg} (hj:ops[j]? = some oj) (hap:oi.apart ops oj=true) (hneed:∀ g y E' st',Db P nms ops j oj st' y E' g→(need i j=true→nc f g=true)→nc f g=true) (hsym:need i j=need j i)
  {K:Lg→Sta→Prop} {st:Sta} (hy:Db P nms ops i oi st x E f) (hlg:Vq need lg i f) (h:IG P nms need ops j K ((i,f)::lg) (st.put oi.dst x (E.app st.H))) :
  IG P nms need ops j (fun lg' st'=>∃ g,lg'=(j,g)::lg∧Db P nms ops i oi st' x E f∧Vq need lg' i f∧K ((j,g)::(i,f)::lg) (st'.put oi.dst x (E.app st'.H))) lg st:=by
 obtain⟨h1,h2,h3⟩:=Oper.apart_spec hap;unfold IG at *;simp only[hj] at *;obtain⟨y,E2,g,hyj,hck,hK⟩:=h;have hnc:nc f g=true:=hneed g y E2 _ hyj (fun hn=>hck (i,f) (by simp) hn);have s1:=QQ hy;have s2:=QQ hyj;rw[eJ] at hK;have hyj':Db P nms ops j oj st y E2 g:=UQ (fun q=>(VA h1).symm) (fun z hz=>(eI h1 z hz).symm) (by
  rw[eJ];intro o ho;exact(VH s1 hnc st.H o ho).symm) hyj
 have hy':Db P nms ops i oi (st.put oj.dst y (E2.app st.H)) x E f:=UQ (fun q=>VA h3) (fun z hz=>eI h3 z hz) (by
  rw[eJ];exact VH s2 (fu hnc) st.H) hy
 refine⟨y,E2,g,hyj',fun p hp hn=>hck p (List.mem_cons_of_mem _ hp) hn,g,rfl,hy',fun p hp hn=>?_,?_⟩
 ·rcases List.mem_cons.1 hp with rfl | hp
  ·exact fu hnc
  ·exact hlg p hp hn
 ·rw[eJ,← kP (H1:=E.app st.H) h2,← mH s1 s2 hnc];exact hK
def Ss (ops:Array Oper) (i j:Nat):Bool:=
 match ops[i]?,ops[j]? with
 |some a,some b=>!(Np a.op == 0 || Np b.op == 0 || (Np a.op≤1&&Np b.op≤1))
 |_,_=>false
theorem bd {i j:Nat}:Ss ops i j=Ss ops j i:=by
 unfold Ss;cases ops[i]?<;>cases ops[j]?<;>simp[Bool.or_comm,Bool.and_comm]
theorem Rd {i:Nat} {o:Oper} {st:Sta} {x:A} {E:Eff} {f:Ft} (hc:Np o.op=0) (h:Db P nms ops i o st x E f):f.R=[]∧f.W=[]:=by
 obtain⟨q,x0,h1,h2,h3,h4⟩:=h;cases q with
 |true=>exact ZQ hc (h2 rfl)
 |false=>exact(h4 rfl).2
theorem QZ {i:Nat} {o:Oper} {st:Sta} {x:A} {E:Eff} {f:Ft} (hc:Np o.op≤1) (h:Db P nms ops i o st x E f):f.W=[]:=by
 obtain⟨q,x0,h1,h2,h3,h4⟩:=h;cases q with
 |true=>exact j9 hc (h2 rfl)
 |false=>exact(h4 rfl).2.2
theorem JO {l:Fp}:YF l []=true:=by simp[YF]
theorem H8 {l:Fp}:YF [] l=true:=by simp[YF]
theorem qW {i j:Nat} {a b:Oper} {st st':Sta} {x y:A} {E E':Eff} {f g:Ft} (ha:ops[i]? = some a) (hb:ops[j]? = some b) (hy:Db P nms ops i a st x E f) (hz:Db P nms ops j b st' y E' g) (h:Ss ops i j=true→nc f g=true):nc f g=true:=by
 cases hn:Ss ops i j with
 |true=>exact h hn
 |false=>
  unfold Ss at hn;rw[ha,hb] at hn;simp only[Bool.not_eq_false',Bool.or_eq_true,beq_iff_eq,Bool.and_eq_true,decide_eq_true_eq] at hn;rcases hn with (h0 | h0) | ⟨h1,h2⟩
  ·obtain⟨e1,e2⟩:=Rd h0 hy;simp[nc,e1,e2,JO,H8]
  ·obtain⟨e1,e2⟩:=Rd h0 hz;simp[nc,e1,e2,JO,H8]
  ·have e1:=QZ h1 hy;have e2:=QZ h2 hz;simp[nc,e1,e2,H8]
inductive XH (md:Region.Mode) (ops:Array Oper):Nat→Nat→Prop
 |base {j:Nat} {o:Oper} {e:Edge}:ops[j]? = some o→e ∈ o.after→Region.binds md e=true→XH md ops e.on j
 |step {i j:Nat} {o:Oper} {e:Edge}:ops[j]? = some o→e ∈ o.after→Region.binds md e=true→XH md ops i e.on→XH md ops i j
def Closed (md:Region.Mode) (ops:Array Oper) (listed:Array Bool):Prop:=∀ m o,ops[m]? = some o→listed.getD m false=true→∀ e ∈ o.after,Region.binds md e=true→listed.getD e.on false=true
theorem Closed.ord {listed:Array Bool} (hc:Closed md ops listed) {i j:Nat} (h:XH md ops i j):listed.getD j false=true→listed.getD i false=true:=by
 induction h with
 |base ho he hb=>exact fun h=>hc _ _ ho h _ he hb
 |step ho he hb _ ih=>exact fun h=>ih (hc _ _ ho h _ he hb)
theorem Closed.ready {listed:Array Bool} (hc:Closed md ops listed) {i j:Nat} (hj:j ∈ Region.ready md ops listed) (h:XH md ops i j):listed.getD i false=true:=by
 obtain⟨_,oj,hoj,hall⟩:=mem_ready.1 hj;cases h with
 |base ho he hb=>rw[hoj] at ho;cases ho;exact hall _ he hb
 |step ho he hb hi=>rw[hoj] at ho;cases ho;exact hc.ord hi (hall _ he hb)
theorem Closed.add {listed:Array Bool} (hc:Closed md ops listed) {i:Nat} (hi:i ∈ Region.ready md ops listed):Closed md ops (listed.setIfInBounds i true):=by
 obtain⟨_,oi,hoi,hall⟩:=mem_ready.1 hi;intro m o ho hm e he hb;have keep:∀ k,listed.getD k false=true→(listed.setIfInBounds i true).getD k false=true:=fun k hk=>by
  by_cases hik:i=k
  ·subst hik;simp only[Array.getD_eq_getD_getElem?] at hk ⊢;rw[Array.getElem?_setIfInBounds];split
   ·split
    ·rfl
    ·rename_i h1;rw[Array.getElem?_eq_none (by omega)] at hk;cases hk
   ·exact hk
  ·rw[getD_set_ne false hik];exact hk
 by_cases hmi:i=m
 ·subst hmi;rw[hoi] at ho;cases ho;exact keep _ (hall e he hb)
 ·rw[getD_set_ne false hmi] at hm;exact keep _ (hc m o ho hm e he hb)
theorem VO {listed:Array Bool} {i:Nat} (h:listed.getD i true=false):listed.getD i false=false:=by
 simp only[Array.getD_eq_getD_getElem?] at h ⊢;cases hq:listed[i]?<;>simp_all
def ay (md:Region.Mode) (o:Oper) (acc:List Nat):Nat:=o.after.toList.foldr (fun e m=>if Region.binds md e=true then m ||| (1 <<< e.on) ||| acc.getD e.on 0 else m) 0
def YZ (md:Region.Mode):List Oper→List Nat→List Nat
 |[],acc=>acc
 |o::l,acc=>YZ md l (acc++[ay md o acc])
theorem aE {o:Oper} {acc:List Nat} {i:Nat} (h:(ay md o acc).testBit i=true):∃ e,e ∈ o.after∧Region.binds md e=true∧(e.on=i∨(acc.getD e.on 0).testBit i=true):=by
 unfold ay at h;have:∀ l:List Edge,(l.foldr (fun e m=>if Region.binds md e=true then m ||| (1 <<< e.on) ||| acc.getD e.on 0 else m) 0).testBit i=true→∃ e,e ∈ l∧Region.binds md e=true∧(e.on=i∨(acc.getD e.on 0).testBit i=true):=by
  intro l;induction l with
  |nil=>intro h;simp at h
  |cons e l ih=>
   intro h;simp only[List.foldr_cons] at h;split at h
   ·rename_i hb;simp only[Nat.testBit_or,Bool.or_eq_true] at h;rcases h with (h | h) | h
    ·obtain⟨e',h1,h2⟩:=ih h;exact⟨e',List.mem_cons_of_mem _ h1,h2⟩
    ·refine⟨e,by simp,hb,.inl ?_⟩;rw[Nat.one_shiftLeft,Nat.testBit_two_pow] at h;simpa using h
    ·exact⟨e,by simp,hb,.inr h⟩
   ·obtain⟨e',h1,h2⟩:=ih h;exact⟨e',List.mem_cons_of_mem _ h1,h2⟩
 obtain⟨e,h1,h2⟩:=this _ h;exact⟨e,by simpa using h1,h2⟩
theorem Q6:∀ (l:List Oper) (acc:List Nat),(∀ k,l[k]? = ops[acc.length+k]?)→(∀ i j,(acc.getD j 0).testBit i=true→XH md ops i j)→∀ i j,((YZ md l acc).getD j 0).testBit i=true→XH md ops i j
 |[],acc,_,h=>h
 |o::l,acc,hl,h=>by
  unfold YZ;refine Q6 l _ (fun k=>by have:=hl (k+1);simpa[Nat.add_assoc,Nat.add_comm 1 k] using this) (fun i j hj=>?_);have h0:ops[acc.length]? = some o:=by simpa using (hl 0).symm
  rcases Nat.lt_trichotomy j acc.length with hlt | rfl | hgt
  ·rw[List.getD_eq_getElem?_getD,List.getElem?_append_left hlt,← List.getD_eq_getElem?_getD] at hj;exact h i j hj
  ·rw[List.getD_eq_getElem?_getD,List.getElem?_append_right (Cj _)] at hj;simp only[Nat.sub_self,List.getElem?_cons_zero,Option.getD_some] at hj;obtain⟨e,h1,h2,h3 | h3⟩:=aE hj
   ·subst h3;exact .base h0 h1 h2
   ·exact .step h0 h1 h2 (h i e.on h3)
  ·rw[List.getD_eq_getElem?_getD,List.getElem?_eq_none (by simp;omega)] at hj;simp at hj
def Rm (ms:List Nat) (i j:Nat):Bool:=(ms.getD j 0).testBit i
def QF (ops:Array Oper) (ms:List Nat) (i j:Nat):Bool:=Ss ops i j&&!Rm ms i j&&!Rm ms j i
theorem bo {ms:List Nat} {i j:Nat}:QF ops ms i j=QF ops ms j i:=by
 unfold QF;rw[bd,Bool.and_assoc,Bool.and_comm (!Rm ms i j),← Bool.and_assoc]
theorem fU {K:Sta→Prop} {i:Nat} {oi:Oper} (hi:ops[i]? = some oi) {f:Ft} :
  ∀ (fuel:Nat) (listed:Array Bool) (lg:Lg) (st:Sta) (x:A) (E:Eff),
   Closed md ops listed→(∀ j oj,ops[j]? = some oj→j ≠ i→listed.getD j true=false→¬ XH md ops i j→¬ XH md ops j i→oi.apart ops oj=true∧need i j=need j i∧(∀ g y E' st',Db P nms ops j oj st' y E' g→(need i j=true→nc f g=true)→nc f g=true)) →
   i ∈ Region.ready md ops listed→Db P nms ops i oi st x E f→Vq need lg i f →
   bE P nms need md ops K fuel (listed.setIfInBounds i true) ((i,f)::lg) (st.put oi.dst x (E.app st.H))→bE P nms need md ops K (fuel+1) listed lg st:=by
 have self:∀ {lg:Lg} {st:Sta} {x:A} {E:Eff} {K':Lg→Sta→Prop},Db P nms ops i oi st x E f→Vq need lg i f→K' ((i,f)::lg) (st.put oi.dst x (E.app st.H))→IG P nms need ops i K' lg st:=fun hy ha h=>by
  unfold IG;simp only[hi];exact⟨_,_,_,hy,ha,h⟩
 intro fuel;induction fuel with
 |zero=>
  intro listed lg st x E _ _ hr hy ha H;refine⟨fun h=>(by rw[h] at hr;cases hr),fun j hj=>?_⟩;by_cases hji:j=i
  ·subst hji;exact self hy ha H
  ·have:=ready_mono hj hji;rw[H.1] at this;cases this
 |succ fuel ih=>
  intro listed lg st x E hcl hfree hr hy ha H;refine⟨fun h=>(by rw[h] at hr;cases hr),fun j hj=>?_⟩;by_cases hji:j=i
  ·subst hji;exact self hy ha H
  ·have h1:=H.2 j (ready_mono hj hji);obtain⟨hjun,oj,hoj,hall⟩:=mem_ready.1 hj;have hun:listed.getD i true=false:=(mem_ready.1 hr).1;have no1:¬ XH md ops i j:=fun h=>by have:=hcl.ready hj h;rw[VO hun] at this;cases this
   have no2:¬ XH md ops j i:=fun h=>by have:=hcl.ready hr h;rw[VO hjun] at this;cases this
   obtain⟨hap,hsy,hnd⟩:=hfree j oj hoj hji hjun no1 no2;have h2:=bS hoj hap hnd hsy hy ha h1;have hfree':∀ k ok,ops[k]? = some ok→k ≠ i→(listed.setIfInBounds j true).getD k true=false →
     ¬ XH md ops i k→¬ XH md ops k i→oi.apart ops ok=true∧need i k=need k i∧(∀ g y E' st',Db P nms ops k ok st' y E' g→(need i k=true→nc f g=true)→nc f g=true):=fun k ok hk hki hun hno1 hno2=>by
    refine hfree k ok hk hki ?_ hno1 hno2;by_cases hjk:j=k
    ·subst hjk;exact hjun
    ·rw[getD_set_ne true hjk] at hun;exact hun
   refine Zu (fun lg' st' ⟨g,e,h3,h4,h5⟩=>ih (listed.setIfInBounds j true) lg' st' x E (hcl.add hj) hfree' (ready_mono hr (Ne.symm hji)) h3 h4 ?_) h2;subst e;rw[Array.setIfInBounds_comm _ _ hji];exact Qf fuel _ (fun p=>by simp only[List.mem_cons];exact⟨fun h=>h.elim (fun h=>.inr (.inl h)) (fun h=>h.elim .inl (fun h=>.inr (.inr h))),fun h=>h.elim (fun h=>.inr (.inl h)) (fun h=>h.elim .inl (fun h=>.inr (.inr h)))⟩) h5
def n9 (md:Region.Mode) (ops:Array Oper) (ms:List Nat) (listed:Array Bool) (i:Nat):Bool:=
 match ops[i]? with
 |none=>false
 |some oi=>(List.range ops.size).all fun j=>j == i || listed.getD j true || Rm ms i j || Rm ms j i || match ops[j]? with
   |some oj=>oi.apart ops oj
   |none=>true
theorem ar {ms:List Nat} (hms:∀ i j,Rm ms i j=true→XH md ops i j) {i:Nat} {oi:Oper} {listed:Array Bool} (hi:ops[i]? = some oi) (h:n9 md ops ms listed i=true) (j:Nat) (oj:Oper)
  (hj:ops[j]? = some oj) (hne:j ≠ i) (hun:listed.getD j true=false) (h1:¬ XH md ops i j) (h2:¬ XH md ops j i) :
  oi.apart ops oj=true:=by
 simp only[n9,hi,List.all_eq_true,List.mem_range] at h;have:=h j (Array.getElem?_eq_some_iff.1 hj).1;simp only[hj,hun,Bool.or_eq_true,beq_iff_eq,hne,Bool.false_eq_true,or_false,false_or,Bool.and_eq_true] at this;rcases this with (h3 | h3) | h3
 ·exact(h1 (hms _ _ h3)).elim
 ·exact(h2 (hms _ _ h3)).elim
 ·exact h3
def LX (md:Region.Mode) (ops:Array Oper) (ms:List Nat):Nat→Nat→Array Bool→Bool
 |0,_,listed=>(Region.ready md ops listed).isEmpty
 |fuel+1,k,listed=>(Region.ready md ops listed).contains k&&n9 md ops ms listed k&&LX md ops ms fuel (k+1) (listed.setIfInBounds k true)
def xh (ops:Array Oper) (ms:List Nat):Bool:=LX .any ops ms ops.size 0 (Array.replicate ops.size false)
theorem fz {ms:List Nat} (hms:∀ i j,Rm ms i j=true→XH md ops i j) {K:Sta→Prop}:∀ (l:List Oper) (k:Nat) (listed:Array Bool) (lg:Lg) (st:Sta),Closed md ops listed→(∀ j,l[j]? = ops[k+j]?) →
  LX md ops ms l.length k listed=true→kN P nms (QF ops ms) ops K l k lg st→bE P nms (QF ops ms) md ops K l.length listed lg st
 |[],_,_,_,_,_,_,hB,h=>⟨by simpa[LX] using hB,h⟩
 |o::l,k,listed,lg,st,hcl,hl,hB,h=>by
  have h0:ops[k]? = some o:=by simpa using (hl 0).symm
  simp only[List.length_cons,LX,Bool.and_eq_true] at hB;obtain⟨⟨hr,hf⟩,hB'⟩:=hB;have hr:k ∈ Region.ready md ops listed:=by simpa using hr
  obtain⟨x,E,f,hy,ha,hK⟩:=h;exact fU h0 l.length listed lg st x E hcl (fun j oj hj hne hun n1 n2=>⟨ar hms h0 hf j oj hj hne hun n1 n2,bo,fun g y E' st' hy' hn=>qW h0 hj hy hy' (fun hN=>hn (by
   have e1:Rm ms k j=false:=by
    cases e:Rm ms k j with
    |false=>rfl
    |true=>exact(n1 (hms _ _ e)).elim
   have e2:Rm ms j k=false:=by
    cases e:Rm ms j k with
    |false=>rfl
    |true=>exact(n2 (hms _ _ e)).elim
   simp[QF,hN,e1,e2]))⟩) hr hy ha
   (fz hms l (k+1) _ _ _ (hcl.add hr) (fun j=>by have:=hl (j+1);simpa[Nat.add_assoc,Nat.add_comm 1 j] using this) hB' hK)
end
def a9 (ops:Array Oper):List Nat:=YZ .any ops.toList []
theorem bI {ops:Array Oper} (i j:Nat) (h:Rm (a9 ops) i j=true):XH .any ops i j:=
 Q6 ops.toList [] (fun k=>by simp) (fun i j h=>by simp at h) i j h
def kk (draw:Bool) (ops:Array Oper):Nat→Nat→Bool:=bif draw then QF ops (a9 ops) else fun _ _=>false
def dP (n:Nat) (ops:Array Oper) (draw:Bool):Bool:=Qe n ops&&(!draw || xh ops (a9 ops))
theorem V1 {c:Cx} {nms:Nat→Nm} {K:Sta→Prop} {Q:Exit→Act→World→Prop} {id:Nat} {ops:Array Oper} {draw:Bool} (hm:c.P.follows .mixedOrders=true) (hok:dP c.n ops draw=true)
  (hQ:∀ st a w I μ,SR c st a w I μ→K st→Q .normal a w) {st:Sta} {a:Act} {w:World} {I:Nat→Prop} {μ:Mu} (h:SR c st a w I μ) (hs:kN c.P nms (kk draw ops) ops K ops.toList 0 [] st):(Code.region id ops draw).wp c.P Q a w:=by
 simp only[dP,Bool.and_eq_true,Bool.or_eq_true,Bool.not_eq_true'] at hok;obtain⟨hd,hl⟩:=hok;cases draw with
 |false=>
  apply wp_region;rw[List.range_eq_range'];have:=Vd hd hQ ops.toList 0 [] st a w I μ (by simp) h hs;simpa using this
 |true=>
  apply wp_region_any hm;have hl:xh ops (a9 ops)=true:=by simpa using hl
  have h1:=fz (K:=K) (nms:=nms) (P:=c.P) bI ops.toList 0 (Array.replicate ops.size false) [] st (fun m o _ hm=>by
   simp only[Array.getD_eq_getD_getElem?,Array.getElem?_replicate] at hm;split at hm<;>simp at hm) (by simp) (by simpa[xh] using hl) hs
  have h':SR c st a { w with drawn:=w.drawn+1 } I μ:=by
   obtain⟨hx,hs'⟩:=h.sim.same (w':={ w with drawn:=w.drawn+1 }) (I':=I) ⟨rfl,rfl,rfl,Cj _,fun _ _ _=>rfl⟩ (fun _ hb=>hb) (fun _ hb=>.inl hb);exact⟨hs',h.size,h.defers,fun t=>hx.rel (h.rel t)⟩
  have:=Mh (md:=.any) hd hQ ops.toList.length (Array.replicate ops.size false) [] st a _ I μ h' h1;simpa using this
def Up (c:Cx) (Q:Exit→Sta→Prop):Exit→Act→World→Prop:=fun e a w=>∃ st I μ,SR c st a w I μ∧Q e st
def AWP (c:Cx) (code:Code) (Q:Exit→Sta→Prop) (st:Sta):Prop:=∀ a w I μ,SR c st a w I μ→code.wp c.P (Up c Q) a w
def rE (c:Cx) (y:Code) (Q:Exit→Sta→Prop):Exit→Sta→Prop
 |.normal,st=>AWP c y Q st
 |e,st=>Q e st
def BR (id:Nat) (Q:Exit→Sta→Prop):Exit→Sta→Prop
 |.exit id',st=>if id'=id then Q .normal st else Q (.exit id') st
 |e,st=>Q e st
section
variable {c:Cx} {Q:Exit→Sta→Prop} {st:Sta} {x y:Code}
@[simp] theorem tH:rE c y Q .normal st=AWP c y Q st:=rfl
@[simp] theorem zB {i:Nat}:rE c y Q (.exit i) st=Q (.exit i) st:=rfl
@[simp] theorem Adi:rE c y Q .ret st=Q .ret st:=rfl
@[simp] theorem jK {i:Nat}:BR i Q .normal st=Q .normal st:=rfl
@[simp] theorem sI {i:Nat}:BR i Q .ret st=Q .ret st:=rfl
@[simp] theorem W8 {i:Nat}:BR i Q (.exit i) st=Q .normal st:=by simp[BR]
theorem Nj {i j:Nat} (h:j ≠ i):BR i Q (.exit j) st=Q (.exit j) st:=by simp[BR,h]
theorem AWP.mono {Q':Exit→Sta→Prop} (h:AWP c x Q st) (hq:∀ e st,Q e st→Q' e st):AWP c x Q' st:=fun a w I μ hs=>
 wp_mono (h a w I μ hs) fun e a' w' ⟨st',I',μ',h1,h2⟩=>⟨st',I',μ',h1,hq e st' h2⟩
theorem qq (h:AWP c x (rE c y Q) st):AWP c (.seq x y) Q st:=fun a w I μ hs=>
 wp_seq (wp_mono (h a w I μ hs) fun e a' w' ⟨st',I',μ',h1,h2⟩=>by
  cases e<;>first | exact h2 a' w' I' μ' h1 | exact⟨st',I',μ',h1,h2⟩)
theorem nP (h:Q .normal st):AWP c .skip Q st:=fun a w I μ hs=>wp_skip ⟨st,I,μ,hs,h⟩
theorem mU {i:Nat} (h:Q (.exit i) st):AWP c (.exit i) Q st:=fun a w I μ hs=>wp_exit ⟨st,I,μ,hs,h⟩
theorem rN (h:Q .ret st):AWP c .ret Q st:=fun a w I μ hs=>wp_ret ⟨st,I,μ,hs,h⟩
theorem fV {i:Nat} (h:AWP c x (BR i Q) st):AWP c (.block i x) Q st:=fun a w I μ hs=>
 wp_block (wp_mono (h a w I μ hs) fun e a' w' ⟨st',I',μ',h1,h2⟩=>by
  cases e with
  |exit j=>
   simp only[Exit.inBlock];by_cases hj:j=i
   ·subst hj;rw[if_pos rfl];exact⟨st',I',μ',h1,by simpa using h2⟩
   ·rw[if_neg hj];exact⟨st',I',μ',h1,by rwa [Nj hj] at h2⟩
  |_=>exact⟨st',I',μ',h1,h2⟩)
theorem jY {o:Operand} {b:Bool} (hb:evs st.s o = .v (.bool b)) (ht:b=true→AWP c x Q st) (hf:b=false→AWP c y Q st):AWP c (.cond o x y) Q st:=fun a w I μ hs=>by
 have h1:=hs.evs o;rw[hb] at h1;generalize hu:a.eval o=u at h1;cases h1;exact wp_cond_split hu (fun h=>ht h a w I μ hs) (fun h=>hf h a w I μ hs)
def Xw (P:Program) (body:Code) (Q:Exit→Act→World→Prop) (a:Act) (w:World):Prop:=
 ∀ (b:Frame) (k:List Item) (cs:List Frame),∃ e a' w',Q e a' w'∧Arrives P (lone (b.at a (.code body :: .inLoop body::k)) cs w) b k cs e a' w'
theorem cN {P:Program} {body:Code} {Q:Exit→Act→World→Prop} {a:Act} {w:World} (h:body.wp P (Exit.then (Xw P body Q) Q) a w):Xw P body Q a w:=by
 intro b k cs;obtain⟨e,a₁,w₁,hq,harr⟩:=h b (.inLoop body::k) cs;cases e with
 |normal=>
  obtain⟨e₂,a₂,w₂,hq₂,harr₂⟩:=hq b k cs;exact⟨e₂,a₂,w₂,hq₂,.of_steps (Steps.trans harr (.one step_inLoop)) harr₂⟩
 |exit id=>exact⟨_,a₁,w₁,hq,.pass (x:=.inLoop body) rfl (fun _ _=>.inl (by simp)) harr⟩
 |goto l=>exact⟨_,a₁,w₁,hq,.pass (x:=.inLoop body) rfl (fun _ _=>.inl (by simp)) harr⟩
 |ret=>exact⟨_,a₁,w₁,hq,.pass (x:=.inLoop body) rfl (fun _ _=>.inl (by simp)) harr⟩
 |panic ch=>exact⟨_,a₁,w₁,hq,.pass (x:=.inLoop body) rfl (fun _ _=>.inl (by simp)) harr⟩
 |outgrown=>exact⟨_,a₁,w₁,hq,.pass (x:=.inLoop body) rfl (fun _ _=>.inl (by simp)) harr⟩
theorem iz {P:Program} {body:Code} {Q:Exit→Act→World→Prop} {a:Act} {w:World} (h:Xw P body Q a w):(Code.loop body).wp P Q a w:=by
 intro b k cs;obtain⟨e,a₁,w₁,hq,harr⟩:=h b k cs;exact⟨e,a₁,w₁,hq,.of_steps (.one step_loop) harr⟩
def AHead (c:Cx) (body:Code) (Q:Exit→Sta→Prop) (st:Sta):Prop:=∀ a w I μ,SR c st a w I μ→Xw c.P body (Up c Q) a w
def dy (c:Cx) (body:Code) (Q:Exit→Sta→Prop):Exit→Sta→Prop
 |.normal,st=>AHead c body Q st
 |e,st=>Q e st
@[simp] theorem rJ:dy c x Q .normal st=AHead c x Q st:=rfl
@[simp] theorem w6 {i:Nat}:dy c x Q (.exit i) st=Q (.exit i) st:=rfl
@[simp] theorem y5:dy c x Q .ret st=Q .ret st:=rfl
theorem XM (h:AWP c x (dy c x Q) st):AHead c x Q st:=fun a w I μ hs=>
 cN (wp_mono (h a w I μ hs) fun e a' w' ⟨st',I',μ',h1,h2⟩=>by
  cases e<;>first | exact h2 a' w' I' μ' h1 | exact⟨st',I',μ',h1,h2⟩)
theorem lH (h:AHead c x Q st):AWP c (.loop x) Q st:=fun a w I μ hs=>iz (h a w I μ hs)
def Le (c:Cx) (st st':Sta):Prop:=∀ a w I μ,SR c st a w I μ→∃ I' μ',SR c st' a w I' μ'
theorem Le.refl:Le c st st:=fun _ _ I μ h=>⟨I,μ,h⟩
theorem Le.trans {st1 st2 st3:Sta} (h:Le c st1 st2) (k:Le c st2 st3):Le c st1 st3:=fun a w I μ hs=>let ⟨I',μ',h1⟩:=h a w I μ hs;k a w I' μ' h1
theorem AWP.le {st':Sta} (h:Le c st st') (k:AWP c x Q st'):AWP c x Q st:=fun a w I μ hs=>let ⟨I',μ',h1⟩:=h a w I μ hs;k a w I' μ' h1
theorem AHead.le {st':Sta} (h:Le c st st') (k:AHead c x Q st'):AHead c x Q st:=fun a w I μ hs=>let ⟨I',μ',h1⟩:=h a w I μ hs;k a w I' μ' h1
theorem nj {s s':Nat→A} {H:Hp} (h:∀ t,s' t=s t∨s' t = .any):Le c ⟨s,H⟩ ⟨s',H⟩:=fun a w I μ hs=>
 ⟨I,μ,hs.sim,hs.size,hs.defers,fun t=>by
  rcases h t with e | e
  ·show Rel w I μ (s' t) _;rw[e];exact hs.rel t
  ·show Rel w I μ (s' t) _;rw[e];exact .any _ _⟩
theorem Y9 (s:Nat→A):∀ (l:List (Nat × A)),(∀ p,p ∈ l→s p.1=p.2)→∀ t,lk l t=s t∨lk l t = .any
 |[],_,t=>.inr rfl
 |(k,x)::l,h,t=>by
  unfold lk;by_cases e:k=t
  ·subst e;rw[if_pos rfl];exact .inl (h (k,x) (by simp)).symm
  ·rw[if_neg e];exact Y9 s l (fun p hp=>h p (by simp[hp])) t
theorem Ao {s:Nat→A} {H:Hp} (l:List (Nat × A)) (h:∀ p,p ∈ l→s p.1=p.2):Le c ⟨s,H⟩ ⟨lk l,H⟩:=nj (Y9 s l h)
def NV (P:Program) (st:Sta):ResultVar→Option A
 |.tmp t=>some (st.s t)
 |.cell a t=>FC P st.H t (st.s a)
def Hh (P:Program) (st:Sta):List ResultVar→Option (List A)
 |[]=>some []
 |r::rs=>match NV P st r,Hh P st rs with
  |some x,some l=>some (x::l)
  |_,_=>none
def EU (P:Program) (st:Sta) (rs:List ResultVar):Option A:=
 match rs with
 |[r]=>NV P st r
 |rs=>(Hh P st rs).map .tup
theorem Pg {a:Act} {w:World} {I:Nat→Prop} {μ:Mu} (hs:SR c st a w I μ) {r:ResultVar} {x:A} (h:NV c.P st r=some x) :
  ∃ v,((match r with | .tmp t=>pure (a.tmps.getD t undef) | .cell p t=>do loadVar t (← asAddr (a.tmps.getD p undef))):Sem Value).run c.P w = .ok v w∧Rel w I μ x v:=by
 cases r with
 |tmp t=>cases h;exact⟨_,rfl,hs.rel t⟩
 |cell p t=>
  have hr:=hs.rel p;obtain⟨v,h1,h2⟩:=Lx hs.sim hr h;refine⟨v,?_,h2⟩;have:∃ q,a.tmps.getD p undef = .pointer (some q):=FX hr (VI h);obtain⟨q,hq⟩:=this;rw[hq] at h1;simp only[hq,asAddr];simpa[Instr.loadAt,Instr.sureAddr] using h1
theorem MT {a:Act} {w:World} {I:Nat→Prop} {μ:Mu} (hs:SR c st a w I μ):∀ {rs:List ResultVar} {xs:List A},Hh c.P st rs=some xs →
  ∃ vs:List Value,(rs.mapM (m:=Sem) fun | .tmp t=>pure (a.tmps.getD t undef) | .cell p t=>do loadVar t (← asAddr (a.tmps.getD p undef))).run c.P w = .ok vs w∧vs.length=xs.length∧∀ (k:Nat) (y:A) (v:Value),xs[k]? = some y→vs[k]? = some v→Rel w I μ y v
 |[],xs,h=>by cases h;exact⟨[],rfl,rfl,fun k y v hk=>by simp at hk⟩
 |r::rs,xs,h=>by
  unfold Hh at h;split at h
  ·rename_i x l hx hl;cases h;obtain⟨v,h1,h2⟩:=Pg hs hx;obtain⟨vs,h3,h4,h5⟩:=MT hs hl;refine⟨v::vs,?_,by simp[h4],fun k y u hk hu=>?_⟩
   ·rw[List.mapM_cons];simp only[Sem.run_bind,h1,Result.andThen_ok,h3,Sem.run_pure]
   ·cases k with
    |zero=>simp at hk hu;subst hk hu;exact h2
    |succ k=>exact h5 k y u (by simpa using hk) (by simpa using hu)
  ·cases h
theorem UK {fn:Func} {a:Act} {w:World} {I:Nat→Prop} {μ:Mu} (hs:SR c st a w I μ) {x:A} (h:EU c.P st fn.results.toList=some x):∃ v,(results fn a.tmps).run c.P w = .ok v w∧Rel w I μ x v:=by
 have hm:∀ {vs:List Value},(fn.results.toList.mapM (m:=Sem) fun | .tmp t=>pure (a.tmps.getD t undef) | .cell p t=>do loadVar t (← asAddr (a.tmps.getD p undef))).run c.P w = .ok vs w →
   (results fn a.tmps).run c.P w = .ok (if h:vs.toArray.size=1 then vs.toArray[0] else .tuple vs.toArray) w:=fun {vs} hv=>by
  unfold results;rw[Array.mapM_eq_mapM_toList];simp only[Sem.run_bind,Sem.run_map]
  erw [hv]
  rfl
 unfold EU at h;split at h
 ·rename_i r hr;obtain⟨v,h1,h2⟩:=Pg hs h;have:=hm (vs:=[v]) (by rw[hr,List.mapM_cons];simp only[Sem.run_bind,h1,Result.andThen_ok];rfl);exact⟨v,by simpa using this,h2⟩
 ·rename_i rs hne;simp only[Option.map_eq_some_iff] at h;obtain⟨xs,hx,rfl⟩:=h;obtain⟨vs,h1,h2,h3⟩:=MT hs hx;have hlen:xs.length=fn.results.toList.length:=by
   have:∀ (rs:List ResultVar) (xs:List A),Hh c.P st rs=some xs→xs.length=rs.length:=by
    intro rs;induction rs with
    |nil=>intro xs h;cases h;rfl
    |cons r rs ih=>
     intro xs h;unfold Hh at h;split at h
     ·rename_i x l _ hl;cases h;simp[ih l hl]
     ·cases h
   exact this _ _ hx
  have hv1:¬ vs.toArray.size=1:=by
   intro he;simp only[List.size_toArray] at he;have:fn.results.toList.length=1:=by omega
   obtain⟨r,hr⟩:=List.length_eq_one_iff.1 this;exact hne r hr
  have:=hm h1;rw[dif_neg hv1] at this;refine⟨_,this,.tup _ _ _ (by simp[h2]) fun k y hk=>?_⟩;have hlt:k<vs.length:=by rw[h2];exact(List.getElem?_eq_some_iff.1 hk).1
  have e:vs.toArray.getD k undef=vs[k]:=by simp[hlt]
  rw[e];exact h3 k y _ hk (List.getElem?_eq_getElem hlt)
def iV (P:Program) (rs:List ResultVar) (Q:A→Hp→Prop):Exit→Sta→Prop
 |.normal,st | .ret,st=>∃ r0,EU P st rs=some r0∧Q r0 st.H
 |_,_=>False
def NB (args:List A):Nat→A:=fun t=>(args[t]?).getD .any
theorem Sy {P:Program} {f:FuncId} {fn:Func} {code:Code} (hf:P.funcs[f]? = some fn) (hb:fn.body=some code) {c:Cx} (hcP:c.P=P) (hcn:c.n=fn.ntmps) {args:List A} {vs:Array Value} (hl:vs.size=args.length) (ha:args.length≤fn.ntmps)
  {w:World} {I:Nat→Prop} {μ:Mu} {H:Hp} (hs:Sim c w I μ H) (hr:∀ (k:Nat) (y:A),args[k]? = some y→Rel w I μ y (vs.getD k undef)) {Q:A→Hp→Prop} (h:AWP c code (iV P fn.results.toList Q) ⟨NB args,H⟩) :
  Calls P f vs w fun e w'=>∃ v r0 H' I' μ',e = .returned v∧Sim c w' I' μ' H'∧Rel w' I' μ' r0 v∧Q r0 H':=by
 subst hcP;refine calls_of_wp hf hb ?_;have hs:SR c ⟨NB args,H⟩ { tmps:=vs++Array.replicate (fn.ntmps-vs.size) undef,defers:=[] } w I μ:=by
  refine⟨hs,?_,rfl,fun t=>?_⟩
  ·simp[hcn,hl];omega
  ·show Rel w I μ (NB args t) _;unfold NB;cases hq:args[t]? with
   |none=>exact .any _ _
   |some y=>
    have hlt:=(List.getElem?_eq_some_iff.1 hq).1;have e:(vs++Array.replicate (fn.ntmps-vs.size) undef).getD t undef=vs.getD t undef:=by
     simp only[Array.getD_eq_getD_getElem?];rw[Array.getElem?_append_left (by omega)]
    rw[e];exact hr t y hq
 refine wp_mono (h _ w I μ hs) fun e a' w' ⟨st',I',μ',h1,h2⟩=>?_;have fin:(∃ r0,EU c.P st' fn.results.toList=some r0∧Q r0 st'.H)→a'.defers=[]∧∃ v,(results fn a'.tmps).run c.P w' = .ok v w'∧∃ v' r0 H' I' μ',Ending.returned v = .returned v'∧Sim c w' I' μ' H'∧Rel w' I' μ' r0 v'∧Q r0 H':=by
  rintro⟨r0,h3,h4⟩;obtain⟨v,h5,h6⟩:=UK (fn:=fn) h1 h3;exact⟨h1.defers,v,h5,v,r0,st'.H,I',μ',rfl,h1.sim,h6,h4⟩
 cases e<;>first | exact fin h2 | exact h2.elim
def cx (P:Program) (w0:World) (I0:Nat→Prop) (n:Nat):Cx:=⟨P,w0,I0,fun _ _=>False,n,Um⟩
def H0:Hp:=fun _=>⟨0,.none⟩
theorem VF {P:Program} {w:World} {I:Nat→Prop} {n:Nat} (hI:∀ b,I b→b<w.heap.size) (ht:Tabs P w I):Sim (cx P w I n) w I Um H0:=
 ⟨⟨rfl,rfl,rfl,Cj _,fun _ _ _=>rfl⟩,hI,fun _ h=>h,fun b hb=>.inl hb,fun _=>rfl,fun _=>trivial,(fun _ _ h=>nomatch h),(fun _ h=>nomatch h),MuLe.refl _,(fun _ h=>nomatch h),ht⟩
theorem bR {P:Program} {f:FuncId} {fn:Func} {code:Code} {args:List A} {r:A} {n:Nat} (hk:UD P f=true) (hf:P.funcs[f]? = some fn) (hb:fn.body=some code) (hn:fn.ntmps=n) (ha:args.length≤n)
  (h:∀ w0 I0,AWP (cx P w0 I0 n) code (iV P fn.results.toList fun r0 H=>IZ H r0 r) ⟨NB args,H0⟩):Spec P f args r:=by
 refine⟨hk,fun w I vs hI htb hl hr=>?_⟩;refine(Sy hf hb (c:=cx P w I n) rfl hn.symm hl (by omega) (VF hI htb) hr (h w I)).mono fun e w' ⟨v,r0,H',I',μ',he,h1,h2,h3⟩=>⟨v,he,?_,?_⟩
 ·have k:=h1.kept;exact⟨k.os,k.tape,k.output,k.size,fun b hb=>k.block b hb (fun ⟨_,h⟩=>h)⟩
 ·refine(h3 _ w' I' μ' v h1 h2).mono0 (fun b hb=>?_) (fun _ _=>rfl);rcases hb with hb | ⟨o,g1,rfl⟩
  ·rcases h1.new b hb with g | g
   ·exact .inl g
   ·exact .inr ⟨g,h1.lt b hb⟩
  ·obtain⟨_,g4,g5⟩:=h1.own o g1;rcases g4 with g4 | g4
   ·exact g4.elim
   ·exact .inr ⟨g4,g5⟩
theorem FF {s:Nat→A} {H:Hp} (t:Nat) (d:Nm) (sz:Nat) (ht:s t = .sl true []):Le c ⟨s,H⟩ ⟨upd s t (.osl d ((H d).u+1) sz 0 0),AJ H d ⟨(H d).u+1,.arr sz []⟩⟩:=fun a w I μ hs=>by
 obtain⟨hx,hs'⟩:=hs.sim.upd (Fh w none) d ⟨(H d).u+1,false,0,0,sz,0⟩ (.arr sz []) (.inl rfl) (.inl (by rw[hs.sim.ver];exact Nat.lt_succ_self _)) (fun h=>nomatch h) (fun h=>nomatch h) (fun hx=>⟨rfl,.inl ⟨rfl,rfl⟩⟩);refine⟨I,_,hs',hs.size,hs.defers,fun k=>?_⟩;show Rel w I _ (upd s t _ k) _;unfold upd;split
 ·rename_i hk;subst hk;have h1:=hs.rel k;simp only[ht] at h1;generalize a.tmps.getD k undef=v at h1;cases h1 with
  |slN _ _ q cap hc=>
   have:=hc rfl;subst this;exact .osl _ _ _ _ _ _ _ _ (by omega) (by simp) (Cj _) (fun h=>by omega) (fun _=>by simp)
  |sl _ _ b off n cap z _ g h1 h2 h3 h4=>
   have h5:n=0:=h2;have h6:cap=0:=h4 rfl;subst h5 h6;exact .osl _ _ _ _ _ _ _ _ (by omega) (by simp) (Cj _) (fun h=>by omega) (fun _=>by simp)
 ·exact hx.rel (hs.rel k)
end
structure CO where
 d:Option Nat
 o:Op
 g:Option (Nat × Bool)
 nm:Nm
 ix:Nat
 un:List Nat
 lg:Bool
abbrev co (d:Option Nat) (o:Op) (g:Option (Nat × Bool)):CO:=⟨d,o,g,[],0,[],false⟩
abbrev cn (d:Option Nat) (o:Op) (g:Option (Nat × Bool)) (nm:Nm):CO:=⟨d,o,g,nm,0,[],false⟩
inductive CC where
 |skip
 |reg (ops:List CO) (live:List Nat)
 |seq (x y:CC)
 |cond (c:Operand) (x y:CC)
 |block (i:Nat) (x:CC)
 |loop (x:CC)
 |exit (i:Nat)
 |ret
 |keep (live:List Nat) (x:CC)
 |stop (x:CC)
 |scope (x:CC)
def Zk:List (Nat × Nm)→Nat→Nm
 |[],_=>[]
 |(k,n)::l,i=>if k=i then n else Zk l i
def QN (draw:Bool) (ops:Array Oper) (ms:List Nat) (i j:Nat):Bool:=draw&&QF ops ms i j
theorem rk {draw:Bool} {ops:Array Oper}:QN draw ops (a9 ops)=kk draw ops:=by
 cases draw
 ·rfl
 ·funext i j;simp[QN,kk]
def xr (ops:Array Oper) (draw:Bool) (ms:List Nat) (nms:List (Nat × Nm)) (i:Nat) (o:Oper):Option CO:=
 let un:=(List.range i).filter fun j=>QN draw ops ms j i
 let lg:=(List.range ops.size).any fun k=>Nat.blt i k&&QN draw ops ms i k
 let ix:=if un.isEmpty&&!lg then 0 else i
 match o.guard with
 |none=>some ⟨o.dst,o.op,none,Zk nms i,ix,un,lg⟩
 |some (j,f)=>match (ops[j]?).bind (·.dst) with
  |some d=>some ⟨o.dst,o.op,some (d,f),Zk nms i,ix,un,lg⟩
  |none=>none
def Yl (ops:Array Oper) (draw:Bool) (ms:List Nat) (nms:List (Nat × Nm)):Nat→List Oper→Option (List CO)
 |_,[]=>some []
 |i,o::l=>match xr ops draw ms nms i o,Yl ops draw ms nms (i+1) l with
  |some x,some r=>some (x::r)
  |_,_=>none
inductive Is (n:Nat):CC→Code→Prop
 |skip:Is n .skip .skip
 |reg (id:Nat) (ops:Array Oper) (draw:Bool) (live:List Nat) (nms:List (Nat × Nm)) (l:List CO):dP n ops draw=true→Yl ops draw (a9 ops) nms 0 ops.toList=some l→Is n (.reg l live) (.region id ops draw)
 |seq (x y:CC) (a b:Code):Is n x a→Is n y b→Is n (.seq x y) (.seq a b)
 |cond (o:Operand) (x y:CC) (a b:Code):Is n x a→Is n y b→Is n (.cond o x y) (.cond o a b)
 |block (i:Nat) (x:CC) (a:Code):Is n x a→Is n (.block i x) (.block i a)
 |loop (x:CC) (a:Code):Is n x a→Is n (.loop x) (.loop a)
 |exit (i:Nat):Is n (.exit i) (.exit i)
 |ret:Is n .ret .ret
 |keep (live:List Nat) (x:CC) (a:Code):Is n x a→Is n (.keep live x) a
 |stop (x:CC) (a:Code):Is n x a→Is n (.stop x) a
 |scope (x:CC) (a:Code):Is n x a→Is n (.scope x) (.scope a)
 |label (l:Nat):Is n .skip (.label l)
def vp (Q:Exit→Sta→Prop):Exit→Sta→Prop
 |.goto _,_=>False
 |e,st=>Q e st
def Sta.keep (st:Sta) (live:List Nat):Sta:=⟨lk (live.map fun k=>(k,st.s k)),st.H⟩
theorem eQ {c:Cx} {st:Sta} (live:List Nat):Le c st (st.keep live):=Ao _ (fun p hp=>by
 obtain⟨k,_,rfl⟩:=List.mem_map.1 hp;rfl)
def eF (P:Program) (o:CO) (st:Sta) (x:A) (E:Eff) (f:Ft):Prop:=
 match o.g with
 |none=>Xq P o.nm o.o (evs st.s) st.H x E f.R f.W
 |some (d,fl)=>∃ q x0,B6 (st.s d) fl=some q∧(q=true→Xq P o.nm o.o (evs st.s) st.H x0 E f.R f.W)∧x=gd q x0∧(q=false→E = .nil∧f.R=[]∧f.W=[])
def Ck (un:List Nat) (lg:Lg) (f:Ft):Prop:=∀ p,p ∈ lg→p.1 ∈ un→nc p.2 f=true
def A9 (b:Bool) (i:Nat) (f:Ft) (lg:Lg):Lg:=if b=true then (i,f)::lg else lg
def An (P:Program) (K:Sta→Prop):List CO→Lg→Sta→Prop
 |[],_,st=>K st
 |o::rest,lg,st=>∃ x E f,eF P o st x E f∧Ck o.un lg f∧An P K rest (A9 o.lg o.ix f lg) (st.put o.d x (E.app st.H))
theorem rv {ops:Array Oper} {draw:Bool} {ms:List Nat} {nms:List (Nat × Nm)} {i:Nat} {o:Oper} {c:CO} (h:xr ops draw ms nms i o=some c):c.d=o.dst∧c.o=o.op∧c.nm=Zk nms i ∧
  c.un=((List.range i).filter fun j=>QN draw ops ms j i)∧c.lg=((List.range ops.size).any fun k=>Nat.blt i k&&QN draw ops ms i k)∧(c.un ≠ []∨c.lg=true→c.ix=i) ∧
  ((o.guard=none∧c.g=none)∨∃ j f d,o.guard=some (j,f)∧(ops[j]?).bind (·.dst)=some d∧c.g=some (d,f)):=by
 have hix:∀ (un:List Nat) (lg:Bool),un ≠ []∨lg=true→(if (un.isEmpty&&!lg)=true then 0 else i)=i:=fun un lg hh=>by
  rw[if_neg];rcases hh with h1 | h1
  ·cases un with
   |nil=>exact(h1 rfl).elim
   |cons=>simp
  ·simp[h1]
 unfold xr at h;cases hg:o.guard with
 |none=>
  rw[hg] at h;simp only[Option.some.injEq] at h;subst h;exact⟨rfl,rfl,rfl,rfl,rfl,hix _ _,.inl ⟨rfl,rfl⟩⟩
 |some p=>
  obtain⟨j,f⟩:=p;rw[hg] at h;simp only at h;cases hj:(ops[j]?).bind (·.dst) with
  |none=>rw[hj] at h;cases h
  |some d=>
   rw[hj] at h;simp only[Option.some.injEq] at h;subst h;exact⟨rfl,rfl,rfl,rfl,rfl,hix _ _,.inr ⟨j,f,d,rfl,hj,rfl⟩⟩
theorem ah {P:Program} {ops:Array Oper} {draw:Bool} {ms:List Nat} {nms:List (Nat × Nm)} {K:Sta→Prop}:∀ (l:List Oper) (i:Nat) (r:List CO) (Lf lg:Lg) (st:Sta),Yl ops draw ms nms i l=some r→i+l.length=ops.size →
  (∀ p,p ∈ Lf→p.1<i∧∀ k,i≤k→k<ops.size→QN draw ops ms p.1 k=true→p ∈ lg)→An P K r lg st→kN P (Zk nms) (QN draw ops ms) ops K l i Lf st:=by
 intro l;induction l with
 |nil=>
  intro i r Lf lg st he _ _ h;cases he;exact h
 |cons o l ih=>
  intro i r Lf lg st he hsz hlg h;unfold Yl at he;split at he
  ·rename_i c r' hc hr;cases he;obtain⟨e1,e2,e3,e4,e5,e7,e6⟩:=rv hc;obtain⟨x,E,f,hy,hk,h⟩:=h;simp only[List.length_cons] at hsz;refine⟨x,E,f,?_,fun p hp hn=>?_,?_⟩
   ·unfold eF at hy;rw[e2,e3] at hy;rcases e6 with ⟨hg,hc⟩ | ⟨j,fl,d,hg,hj,hc⟩
    ·rw[hc] at hy;exact⟨true,x,by unfold Nc;rw[hg],fun _=>hy,rfl,fun h=>nomatch h⟩
    ·rw[hc] at hy;obtain⟨q,x0,k1,k2,k3,k4⟩:=hy;exact⟨q,x0,by unfold Nc;rw[hg];exact⟨d,hj,k1⟩,k2,k3,k4⟩
   ·obtain⟨h1,h2⟩:=hlg p hp;refine hk p (h2 i (Cj _) (by omega) hn) ?_;rw[e4];exact List.mem_filter.2 ⟨List.mem_range.2 h1,hn⟩
   ·rw[e1] at h;refine ih (i+1) r' _ _ _ hr (by omega) (fun p hp=>?_) h;rcases List.mem_cons.1 hp with rfl | hp
    ·refine⟨Nat.lt_succ_self _,fun k h1 h2 h3=>?_⟩;have hl:c.lg=true:=by
      rw[e5];exact List.any_eq_true.2 ⟨k,List.mem_range.2 h2,by simp[Nat.blt_eq,h3];omega⟩
     unfold A9;rw[if_pos hl,e7 (.inr hl)];simp
    ·obtain⟨h1,h2⟩:=hlg p hp;refine⟨by omega,fun k h3 h4 h5=>?_⟩;have:=h2 k (by omega) h4 h5;unfold A9;split
     ·exact List.mem_cons_of_mem _ this
     ·exact this
  ·cases he
def LoopC (c:Cx) (x:CC) (Q:Exit→Sta→Prop) (st:Sta):Prop:=∀ a,Is c.n x a→AHead c a Q st
def F7 (K:Sta→Prop) (Q:Exit→Sta→Prop):Exit→Sta→Prop
 |.normal,st=>K st
 |e,st=>Q e st
def QD (c:Cx) (K:Sta→Prop) (st:Sta):Prop:=∃ st',Le c st st'∧K st'
theorem Gs {c:Cx} {K:Sta→Prop} {st:Sta} (h:K st):QD c K st:=⟨st,Le.refl,h⟩
theorem Hl {c:Cx} {K:Sta→Prop} {st st':Sta} (h:Le c st st') (k:QD c K st'):QD c K st:=let ⟨st2,h2,k2⟩:=k;⟨st2,h.trans h2,k2⟩
def WPC (c:Cx):CC→(Exit→Sta→Prop)→Sta→Prop
 |.skip,Q,st=>Q .normal st
 |.exit i,Q,st=>Q (.exit i) st
 |.ret,Q,st=>Q .ret st
 |.reg ops live,Q,st=>An c.P (fun st=>Q .normal (st.keep live)) ops [] st
 |.seq x y,Q,st=>WPC c x (F7 (WPC c y Q) Q) st
 |.cond o x y,Q,st=>∃ b,evs st.s o = .v (.bool b)∧(b=true→WPC c x Q st)∧(b=false→WPC c y Q st)
 |.block i x,Q,st=>WPC c x (BR i Q) st
 |.loop x,Q,st=>LoopC c x Q st
 |.keep live x,Q,st=>WPC c x Q (st.keep live)
 |.stop x,Q,st=>QD c (fun st=>WPC c x Q st) st
 |.scope x,Q,st=>WPC c x (vp Q) st
theorem Ml {c:Cx} (hm:c.P.follows .mixedOrders=true):∀ {x:CC} {a:Code} {Q:Exit→Sta→Prop} {st:Sta},Is c.n x a→WPC c x Q st→AWP c a Q st:=by
 intro x a Q st hi;induction hi generalizing Q st with
 |skip=>exact fun h=>nP h
 |exit i=>exact fun h=>mU h
 |ret=>exact fun h=>rN h
 |reg id ops draw live nms l hok hl=>
  intro h;intro a w I μ hs;have h1:=ah ops.toList 0 l [] [] _ hl (by simp) (fun p hp=>by simp at hp) h;rw[rk] at h1;refine V1 hm hok (K:=fun st=>Q .normal (st.keep live)) (fun st' a' w' I' μ' h1 h2=>?_) hs h1;obtain⟨I2,μ2,h3⟩:=eQ live a' w' I' μ' h1;exact⟨_,I2,μ2,h3,h2⟩
 |seq x y a b _ _ ih1 ih2=>
  intro h;refine qq ((ih1 h).mono fun e st' hq=>?_);cases e<;>first | exact ih2 hq | exact hq
 |cond o x y a b _ _ ih1 ih2=>
  intro ⟨q,hb,ht,hf⟩;exact jY hb (fun h=>ih1 (ht h)) (fun h=>ih2 (hf h))
 |block i x a _ ih=>exact fun h=>fV (ih h)
 |loop x a hx _=>exact fun h=>lH (h a hx)
 |keep live x a _ ih=>
  intro h a w I μ hs;obtain⟨I2,μ2,h3⟩:=eQ live a w I μ hs;exact ih h a w I2 μ2 h3
 |stop x a _ ih=>
  intro ⟨st',h1,h2⟩ a w I μ hs;obtain⟨I2,μ2,h3⟩:=h1 a w I μ hs;exact ih h2 a w I2 μ2 h3
 |scope x a _ ih=>
  intro h a w I μ hs;refine wp_scope_straight (wp_mono (ih h a w I μ hs) fun e a' w' ⟨st',I',μ',h1,h2⟩=>?_);cases e with
  |goto l=>exact h2.elim
  |_=>exact⟨st',I',μ',h1,h2⟩
 |label l=>exact fun h a w I μ hs=>wp_label ⟨st,I,μ,hs,h⟩
theorem WPC.mono {c:Cx}:∀ {x:CC} {Q Q':Exit→Sta→Prop} {st:Sta},(∀ e st,Q e st→Q' e st)→WPC c x Q st→WPC c x Q' st
 |.skip,_,_,_,hq,h=>hq _ _ h
 |.exit _,_,_,_,hq,h=>hq _ _ h
 |.ret,_,_,_,hq,h=>hq _ _ h
 |.reg ops live,Q,Q',st,hq,h=>by
  have:∀ (ops:List CO) (lg:Lg) (st:Sta),An c.P (fun st=>Q .normal (st.keep live)) ops lg st→An c.P (fun st=>Q' .normal (st.keep live)) ops lg st:=by
   intro ops;induction ops with
   |nil=>exact fun lg st h=>hq _ _ h
   |cons o ops ih=>exact fun lg st ⟨x,E,f,h1,h2,h3⟩=>⟨x,E,f,h1,h2,ih _ _ h3⟩
  exact this ops _ st h
 |.seq x y,Q,Q',st,hq,h=>WPC.mono (x:=x) (fun e st' h'=>by cases e<;>first | exact WPC.mono (x:=y) hq h' | exact hq _ _ h') h
 |.cond o x y,Q,Q',st,hq,⟨b,h1,h2,h3⟩=>⟨b,h1,fun h=>WPC.mono hq (h2 h),fun h=>WPC.mono hq (h3 h)⟩
 |.block i x,Q,Q',st,hq,h=>WPC.mono (x:=x) (fun e st' h'=>by
   cases e with
   |exit j=>
    by_cases hj:j=i
    ·subst hj;rw[W8] at h' ⊢; exact hq _ _ h'
    ·rw[Nj hj] at h' ⊢; exact hq _ _ h'
   |_=>exact hq _ _ h') h
 |.keep live x,Q,Q',st,hq,h=>WPC.mono (x:=x) hq h
 |.stop x,Q,Q',st,hq,⟨st',h1,h2⟩=>⟨st',h1,WPC.mono (x:=x) hq h2⟩
 |.scope x,Q,Q',st,hq,h=>WPC.mono (x:=x) (fun e st' h'=>by
   cases e with
   |goto l=>exact h'
   |_=>exact hq _ _ h') h
 |.loop x,Q,Q',st,hq,h=>fun a ha a' w I μ hs b k cs=>by
  obtain⟨e,a1,w1,⟨st',I',μ',h1,h2⟩,h3⟩:=h a ha a' w I μ hs b k cs;exact⟨e,a1,w1,⟨st',I',μ',h1,hq _ _ h2⟩,h3⟩
theorem YB {c:Cx} (hm:c.P.follows .mixedOrders=true) {x:CC} {Q:Exit→Sta→Prop} {st:Sta} (h:WPC c x (F7 (LoopC c x Q) Q) st):LoopC c x Q st:=fun a ha=>
 XM ((Ml hm ha h).mono fun e st' hq=>by cases e<;>first | exact hq a ha | exact hq)
theorem LoopC.le {c:Cx} {x:CC} {Q:Exit→Sta→Prop} {st st':Sta} (h:Le c st st') (k:LoopC c x Q st'):LoopC c x Q st:=fun a ha=>(k a ha).le h
def af:List Nat→CC→CC
 |999999::live,y=>.keep live y
 |999998::_,y=>.stop y
 |999997::live,y=>.keep live (.stop y)
 |_,y=>y
theorem fX {n:Nat} {m:List Nat} {y:CC} {b:Code} (h:Is n y b):Is n (af m y) b:=by
 unfold af;split
 ·exact .keep _ _ _ h
 ·exact .stop _ _ h
 ·exact .keep _ _ _ (.stop _ _ h)
 ·exact h
abbrev Mk:=List Nat × List (Nat × Nm)
def I3 (n:Nat):Code→List Mk→Option (CC × List Mk)
 |.skip,ls=>some (.skip,ls)
 |.exit i,ls=>some (.exit i,ls)
 |.ret,ls=>some (.ret,ls)
 |.region _ ops draw,(live,nms)::ls=>if dP n ops draw=true then match Yl ops draw (a9 ops) nms 0 ops.toList with
   |some l=>some (.reg l live,ls)
   |none=>none else none
 |.seq a b,ls=>match I3 n a ls with
  |some (x,m::ls)=>match I3 n b ls with
   |some (y,ls)=>some (.seq x (af m.1 y),ls)
   |none=>none
  |_=>none
 |.cond o a b,ls=>match I3 n a ls with
  |some (x,ls)=>match I3 n b ls with
   |some (y,ls)=>some (.cond o x y,ls)
   |none=>none
  |none=>none
 |.block i a,ls=>match I3 n a ls with
  |some (x,ls)=>some (.block i x,ls)
  |none=>none
 |.loop a,ls=>match I3 n a ls with
  |some (x,ls)=>some (.loop x,ls)
  |none=>none
 |.scope a,ls=>match I3 n a ls with
  |some (x,ls)=>some (.scope x,ls)
  |none=>none
 |.label _,ls=>some (.skip,ls)
 |_,_=>none
theorem pY {n:Nat}:∀ {a:Code} {ls ls':List Mk} {x:CC},I3 n a ls=some (x,ls')→Is n x a:=by
 intro a;induction a with
 |skip=>intro ls ls' x h;simp only[I3] at h;cases h;exact .skip
 |exit i=>intro ls ls' x h;simp only[I3] at h;cases h;exact .exit i
 |ret=>intro ls ls' x h;simp only[I3] at h;cases h;exact .ret
 |region id ops draw=>
  intro ls ls' x h;cases ls with
  |nil=>simp[I3] at h
  |cons live ls=>
   simp only[I3] at h;split at h
   ·rename_i hok;split at h
    ·rename_i l hl;cases h;exact .reg _ _ _ _ _ _ hok hl
    ·cases h
   ·cases h
 |seq a b ih1 ih2=>
  intro ls ls' x h;simp only[I3] at h;split at h
  ·rename_i q1 m l1 h1;split at h
   ·rename_i q2 l2 h2;cases h;exact .seq _ _ _ _ (ih1 h1) (fX (ih2 h2))
   ·cases h
  ·cases h
 |cond o a b ih1 ih2=>
  intro ls ls' x h;simp only[I3] at h;split at h
  ·rename_i q1 l1 h1;split at h
   ·rename_i q2 l2 h2;cases h;exact .cond _ _ _ _ _ (ih1 h1) (ih2 h2)
   ·cases h
  ·cases h
 |block i a ih=>
  intro ls ls' x h;simp only[I3] at h;split at h
  ·rename_i q1 l1 h1;cases h;exact .block _ _ _ (ih h1)
  ·cases h
 |loop a ih=>
  intro ls ls' x h;simp only[I3] at h;split at h
  ·rename_i q1 l1 h1;cases h;exact .loop _ _ (ih h1)
  ·cases h
 |scope a ih=>
  intro ls ls' x h;simp only[I3] at h;split at h
  ·rename_i q1 l1 h1;cases h;exact .scope _ _ (ih h1)
  ·cases h
 |label l=>intro ls ls' x h;simp only[I3] at h;cases h;exact .label l
 |_=>intro ls ls' x h;cases ls<;>simp[I3] at h
structure BU (P:Program) (f:FuncId) (n:Nat) (rs:List ResultVar) (cc:CC):Prop where
 Ai:P.follows .mixedOrders=true
 ok:UD P f=true
 fn:∃ fn code,P.funcs[f]? = some fn∧fn.body=some code∧fn.ntmps=n∧fn.results.toList=rs∧Is n cc code
theorem wg {P:Program} {f:FuncId} {fn:Func} {code:Code} {cc:CC} {ls:List Mk} {rs:List ResultVar} {n:Nat} (hm:P.follows .mixedOrders=true) (hk:UD P f=true) (hf:P.funcs[f]? = some fn) (hb:fn.body=some code)
  (hn:fn.ntmps=n) (hrs:fn.results.toList=rs) (hc:I3 n code ls=some (cc,[])):BU P f n rs cc:=⟨hm,hk,fn,code,hf,hb,hn,hrs,pY hc⟩
def Xt (P:Program) (rs:List ResultVar) (r:A):Exit→Sta→Prop:=iV P rs fun r0 H=>IZ H r0 r
theorem Al {P:Program} {f:FuncId} {n:Nat} {rs:List ResultVar} {cc:CC} {args:List A} {r:A} (t:BU P f n rs cc) (ha:args.length≤n) (h:∀ w0 I0,WPC (cx P w0 I0 n) cc (Xt P rs r) ⟨NB args,H0⟩):Spec P f args r:=by
 obtain⟨hm,hk,fn,code,hf,hb,hn,hrs,hc⟩:=t;exact bR hk hf hb hn ha fun w0 I0=>Ml (c:=cx P w0 I0 n) hm hc (by rw[hrs];exact h w0 I0)
section
variable {P:Program} {H:Hp} {t u:TypeId}
def vc (x:VOb) (u:Nat):Option (List A):=match x with | ⟨u',.cells cs⟩=>if u'=u then some cs else none | _=>none
def vr (x:VOb) (u:Nat):Option (Nat × List A):=match x with | ⟨u',.arr s xs⟩=>if u'=u then some (s,xs) else none | _=>none
@[simp] theorem Aby {u' u:Nat} {cs:List A}:vc ⟨u',.cells cs⟩ u=if u'=u then some cs else none:=rfl
@[simp] theorem AgC {u' u s:Nat} {xs:List A}:vr ⟨u',.arr s xs⟩ u=if u'=u then some (s,xs) else none:=rfl
@[simp] theorem AdJ {o:Nm} {u:Nat}:Wu H o u=vc (H o) u:=rfl
@[simp] theorem Ms {o:Nm} {u:Nat}:NX H o u=vr (H o) u:=rfl
@[simp] theorem AaT {o:Nm} {u off:Nat}:FC P H t (.pob o u off)=match Dj P t,CX P t with | some g,some sz=>(match vc (H o) u with | some cs=>JR g sz (cs.drop off) | none=>none) | _,_=>none:=by
 unfold FC;cases Dj P t with
 |none=>rfl
 |some g=>
  cases CX P t with
  |none=>rfl
  |some sz=>rfl
@[simp] theorem Aal {o:Nm} {u i j:Nat}:FC P H t (.pel o u i j)=match Dj P t,CX P t with | some g,some sz=>(match vr (H o) u with | some (_,xs)=>(match xs[i]? with | some x=>JR g sz (x.cells.drop j) | none=>none) | none=>none) | _,_=>none:=by
 unfold FC;cases Dj P t with
 |none=>rfl
 |some g=>
  cases CX P t with
  |none=>rfl
  |some sz=>rfl
@[simp] theorem yH {o:Nm} {u off:Nat} {val:A}:GY P H t (.pob o u off) val=match CX P t with
  |some sz=>if val.cells.length=sz∧A.ones val.cells=true then (match vc (H o) u with | some cs=>if off+sz≤cs.length then some (.one o ⟨u,.cells (splice cs off val.cells)⟩) else none | none=>none) else none
  |none=>none:=by
 unfold GY;cases CX P t<;>rfl
def cp (o:Nm) (u i j s sz:Nat) (xs:List A) (val:A):Option A→Option Eff
 |some x=>if j=0∧sz=s then some (.one o ⟨u,.arr s (xs.set i val)⟩)
  else if j+sz≤s∧x.isAgg=true then some (.one o ⟨u,.arr s (xs.set i (x.remake (splice x.cells j val.cells)))⟩) else none
 |none=>none
def sJ (o:Nm) (u i j sz:Nat) (val:A):Option (Nat × List A)→Option Eff
 |some (s,xs)=>cp o u i j s sz xs val xs[i]?
 |none=>none
@[simp] theorem ba {o:Nm} {u i j s sz:Nat} {xs:List A} {val:A}:sJ o u i j sz val (some (s,xs))=cp o u i j s sz xs val xs[i]?:=rfl
@[simp] theorem ta {o:Nm} {u i j s sz:Nat} {xs:List A} {x val:A}:cp o u i j s sz xs val (some x)=if j=0∧sz=s then some (.one o ⟨u,.arr s (xs.set i val)⟩)
  else if j+sz≤s∧x.isAgg=true then some (.one o ⟨u,.arr s (xs.set i (x.remake (splice x.cells j val.cells)))⟩) else none:=rfl
@[simp] theorem xX {o:Nm} {u i j:Nat} {val:A}:GY P H t (.pel o u i j) val=match CX P t with
  |some sz=>if val.cells.length=sz∧A.ones val.cells=true then sJ o u i j sz val (vr (H o) u) else none
  |none=>none:=by
 unfold GY;cases CX P t with
 |none=>rfl
 |some sz=>
  simp only[Ms];cases vr (H o) u with
  |none=>rfl
  |some p=>
   obtain⟨s,xs⟩:=p;simp only[ba];cases xs[i]?<;>rfl
@[simp] theorem Aab {d:Nm} {e:TypeId}:N6 P H d e=match Bh P e with | some z=>if A.ones (Fm z).cells=true∧CF d e=true then some (.pob d ((H d).u+1) 0,.one d ⟨(H d).u+1,.cells (Fm z).cells⟩) else none | none=>none:=rfl
@[simp] theorem Af5 {d:Nm} {e:TypeId} {a:A}:ao H d e a=if A.ones a.cells=true∧CF d e=true then some (.pob d ((H d).u+1) 0,.one d ⟨(H d).u+1,.cells a.cells⟩) else none:=rfl
@[simp] theorem Afc {a:A}:kJ a=if a.isPtr=true then some a else none:=rfl
def tq (H:Hp) (d:Nm) (e:TypeId) (n c:Int):Option Nat→Option Value→Option Nat→Option (A × Eff)
 |some s,some z,some b=>if 0≤n∧n≤c∧b*c≤140737488355328∧0<b∧(Fm z).cells.length=s∧A.ones (Fm z).cells=true∧CF d e=true then some (.osl d ((H d).u+1) s 0 n.toNat,.one d ⟨(H d).u+1,.arr s (List.replicate n.toNat (Fm z))⟩) else none
 |_,_,_=>none
@[simp] theorem xp {d:Nm} {e:TypeId} {n c:Int} {s b:Nat} {z:Value}:tq H d e n c (some s) (some z) (some b)=if 0≤n∧n≤c∧b*c≤140737488355328∧0<b∧(Fm z).cells.length=s∧A.ones (Fm z).cells=true∧CF d e=true then some (.osl d ((H d).u+1) s 0 n.toNat,.one d ⟨(H d).u+1,.arr s (List.replicate n.toNat (Fm z))⟩) else none:=rfl
@[simp] theorem sd {d:Nm} {k k':IntKind} {n c:Int}:E6 P H d t (.v (.int k n)) (.v (.int k' c))=match P.underlying t with | some (.slice e)=>tq H d e n c (CX P e) (Bh P e) (Bs P e) | _=>none:=by
 unfold E6;cases P.underlying t with
 |none=>rfl
 |some q=>
  cases q<;>first
   |rfl
   |(rename_i e;cases CX P e<;>cases Bh P e<;>cases Bs P e<;>rfl)
def apS (H:Hp) (d:Nm) (e:TypeId) (xs:List A):Option (List A)→Option Nat→Option Value→Option Nat→Option (A × Eff)
 |some zs,some s,some z,some b=>if 0<b∧(Fm z).cells.length=s∧A.ones (Fm z).cells=true then if Dd s xs=true∧(xs.length=0∨0<zs.length)∧(xs.length+zs.length)*b≤140737488355328∧CF d e=true then some (.osl d ((H d).u+1) s 0 (xs.length+zs.length),.one d ⟨(H d).u+1,.arr s (xs++zs)⟩) else none else none
 |_,_,_,_=>none
@[simp] theorem Adv {d:Nm} {e:TypeId} {xs zs:List A} {s b:Nat} {z:Value}:apS H d e xs (some zs) (some s) (some z) (some b)=if 0<b∧(Fm z).cells.length=s∧A.ones (Fm z).cells=true then if Dd s xs=true∧(xs.length=0∨0<zs.length)∧(xs.length+zs.length)*b≤140737488355328∧CF d e=true then some (.osl d ((H d).u+1) s 0 (xs.length+zs.length),.one d ⟨(H d).u+1,.arr s (xs++zs)⟩) else none else none:=rfl
def apO (o:Nm) (e:TypeId) (v sz off len:Nat):Option (Nat × List A)→Option (List A)→Option Nat→Option Value→Option Nat→Option (A × Eff)
 |some (s',ys),some zs,some s,some z,some b=>if 0<b∧(Fm z).cells.length=s∧A.ones (Fm z).cells=true then if off=0∧s'=s∧sz=s∧len≤ys.length∧(len+zs.length)*b≤140737488355328∧CF o e=true then some (.osl o (v+1) s 0 (len+zs.length),.one o ⟨v+1,.arr s (ys.take len++zs)⟩) else none else none
 |_,_,_,_,_=>none
@[simp] theorem Ab1 {o:Nm} {e:TypeId} {v sz off len s' s b:Nat} {ys zs:List A} {z:Value}:apO o e v sz off len (some (s',ys)) (some zs) (some s) (some z) (some b)=if 0<b∧(Fm z).cells.length=s∧A.ones (Fm z).cells=true then if off=0∧s'=s∧sz=s∧len≤ys.length∧(len+zs.length)*b≤140737488355328∧CF o e=true then some (.osl o (v+1) s 0 (len+zs.length),.one o ⟨v+1,.arr s (ys.take len++zs)⟩) else none else none:=rfl
@[simp] theorem zx {d:Nm} {xs:List A} {x:A}:DZ P H d t u (.sl true xs) x=match P.underlying t with | some (.slice e)=>(match CX P e with | some s=>apS H d e xs (Gc P H s e u x) (some s) (Bh P e) (Bs P e) | none=>none) | _=>none:=by
 unfold DZ;cases P.underlying t with
 |none=>rfl
 |some q=>
  cases q<;>try rfl
  rename_i e;simp only;cases CX P e with
  |none=>rfl
  |some s=>
   cases Bh P e with
   |none=>simp only;cases Gc P H s e u x<;>rfl
   |some z=>
    cases Bs P e with
    |none=>simp only;cases Gc P H s e u x<;>rfl
    |some b=>simp only;cases Gc P H s e u x<;>rfl
def apF (xs:List A):Option (List A)→Option Nat→Option Value→Option Nat→Option (A × Eff)
 |some zs,some s,some z,some b=>if 0<b∧(Fm z).cells.length=s∧A.ones (Fm z).cells=true then if zs.length=0 then some (.sl false xs,.nil) else none else none
 |_,_,_,_=>none
@[simp] theorem Aaq {xs zs:List A} {s b:Nat} {z:Value}:apF xs (some zs) (some s) (some z) (some b)=if 0<b∧(Fm z).cells.length=s∧A.ones (Fm z).cells=true then if zs.length=0 then some (.sl false xs,.nil) else none else none:=rfl
@[simp] theorem uS {d:Nm} {xs:List A} {x:A}:DZ P H d t u (.sl false xs) x=match P.underlying t with | some (.slice e)=>(match CX P e with | some s=>apF xs (Gc P H s e u x) (some s) (Bh P e) (Bs P e) | none=>none) | _=>none:=by
 unfold DZ;cases P.underlying t with
 |none=>rfl
 |some q=>
  cases q<;>try rfl
  rename_i e;simp only;cases CX P e with
  |none=>rfl
  |some s=>
   cases Bh P e with
   |none=>simp only;cases Gc P H s e u x<;>rfl
   |some z=>
    cases Bs P e with
    |none=>simp only;cases Gc P H s e u x<;>rfl
    |some b=>simp only;cases Gc P H s e u x<;>rfl
def cpO (o:Nm) (v sz off len s:Nat):Option (Nat × List A)→Option (List A)→Option (A × Eff)
 |some (s',ys),some zs=>if s'=s∧sz=s∧off+len≤ys.length then
   some (.v (.int .i64 (min zs.length len:Nat)),.one o ⟨v,.arr s (ys.take off++zs.take (min zs.length len)++ys.drop (off+min zs.length len))⟩) else none
 |_,_=>none
@[simp] theorem Aa2 {o:Nm} {v sz off len s s':Nat} {ys zs:List A}:cpO o v sz off len s (some (s',ys)) (some zs)=if s'=s∧sz=s∧off+len≤ys.length then
   some (.v (.int .i64 (min zs.length len:Nat)),.one o ⟨v,.arr s (ys.take off++zs.take (min zs.length len)++ys.drop (off+min zs.length len))⟩) else none:=rfl
@[simp] theorem AbJ {o:Nm} {v sz off len:Nat} {x:A}:LU P H t (.osl o v sz off len) x=match P.underlying t with | some (.slice e)=>(match CX P e with | some s=>cpO o v sz off len s (vr (H o) v) (Gg H s x) | none=>none) | _=>none:=by
 unfold LU;cases P.underlying t with
 |none=>rfl
 |some q=>
  cases q<;>try rfl
  rename_i e;simp only[Ms];generalize vr (H o) v=r;cases CX P e with
  |none=>rfl
  |some s=>simp only;cases Gg H s x<;>cases r<;>rfl
@[simp] theorem wU {d o:Nm} {v sz off len:Nat} {x:A}:DZ P H d t u (.osl o v sz off len) x=match P.underlying t with | some (.slice e)=>(match CX P e with | some s=>apO o e v sz off len (vr (H o) v) (Gc P H s e u x) (some s) (Bh P e) (Bs P e) | none=>none) | _=>none:=by
 unfold DZ;cases P.underlying t with
 |none=>rfl
 |some q=>
  cases q<;>try rfl
  rename_i e;simp only[Ms];generalize vr (H o) v=r;cases CX P e with
  |none=>rfl
  |some s=>
   cases Bh P e with
   |none=>simp only;cases Gc P H s e u x<;>cases r<;>rfl
   |some z=>
    cases Bs P e with
    |none=>simp only;cases Gc P H s e u x<;>cases r<;>rfl
    |some b=>
     simp only;cases Gc P H s e u x with
     |none=>cases r<;>rfl
     |some zs=>cases r<;>simp only[apO]<;>(try split)<;>rfl
def l9 (n:Int) (s:Nat):Option Value→Option Nat→Option (List A)
 |some z,some b=>if 0≤n∧n*b≤140737488355328∧0<b∧(Fm z).cells.length=s∧A.ones (Fm z).cells=true then some (List.replicate n.toNat (Fm z)) else none
 |_,_=>none
@[simp] theorem ti {n:Int} {s b:Nat} {z:Value}:l9 n s (some z) (some b)=if 0≤n∧n*b≤140737488355328∧0<b∧(Fm z).cells.length=s∧A.ones (Fm z).cells=true then some (List.replicate n.toNat (Fm z)) else none:=rfl
@[simp] theorem AdF {s e:Nat} {k:IntKind} {n:Int}:Gc P H s e t (.v (.int k n))=match P.underlying t with | some (.int _)=>l9 n s (Bh P e) (Bs P e) | _=>none:=by
 unfold Gc;cases P.underlying t with
 |none=>rfl
 |some q=>
  cases q<;>first
   |rfl
   |(cases Bh P e<;>cases Bs P e<;>rfl)
@[simp] theorem Afo {s e:Nat} {x:ByteArray}:Gc P H s e t (.v (.string x))=match P.underlying t with | some .string=>if s=1 then some (x.data.toList.map fun b=>.v (.int .u8 b.toNat)) else none | _=>none:=by
 unfold Gc;cases P.underlying t with
 |none=>rfl
 |some q=>cases q<;>rfl
@[simp] theorem AgF {s e:Nat} {f:Bool} {xs:List A}:Gc P H s e t (.sl f xs)=match P.underlying t with | some (.slice _)=>if Dd s xs=true then some xs else none | _=>none:=by
 unfold Gc;cases P.underlying t with
 |none=>rfl
 |some q=>cases q<;>rfl
def elO (s z off n:Nat):Option (Nat × List A)→Option (List A)
 |some (s',ys)=>if s'=s∧z=s∧off+n≤ys.length then some ((ys.drop off).take n) else none
 |none=>none
@[simp] theorem AbE {s z off n s':Nat} {ys:List A}:elO s z off n (some (s',ys))=if s'=s∧z=s∧off+n≤ys.length then some ((ys.drop off).take n) else none:=rfl
@[simp] theorem Afv {s e u' z off n:Nat} {o:Nm}:Gc P H s e t (.osl o u' z off n)=match P.underlying t with | some (.slice _)=>elO s z off n (vr (H o) u') | _=>none:=by
 unfold Gc;cases P.underlying t with
 |none=>rfl
 |some q=>
  cases q<;>first
   |rfl
   |(simp only[Gg,Ms];cases vr (H o) u'<;>rfl)
def ixS (xs:List A) (i:Int):Option Nat→Option A
 |some m=>if 0≤i∧i<xs.length then (match xs[i.toNat]? with
     |some x=>if x.cells.length=m then some (.pim x.cells) else none
     |none=>none) else none
 |none=>none
@[simp] theorem AcV {xs:List A} {i:Int} {m:Nat}:ixS xs i (some m)=if 0≤i∧i<xs.length then (match xs[i.toNat]? with
     |some x=>if x.cells.length=m then some (.pim x.cells) else none
     |none=>none) else none:=rfl
@[simp] theorem rp {k:IntKind} {i:Int} {f:Bool} {xs:List A}:Bn P t (.sl f xs) (.v (.int k i))=match P.underlying t with | some (.slice e)=>ixS xs i (CX P e) | _=>none:=by
 unfold Bn;cases P.underlying t with
 |none=>rfl
 |some q=>
  cases q<;>first
   |rfl
   |(rename_i e;cases h:CX P e<;>first | rfl | simp[A.shift,h] | (simp only[h];rfl))
def ixO (o:Nm) (u z off n:Nat) (i:Int):Option Nat→Option A
 |some m=>if 0≤i∧i<n∧z=m then some (.pel o u (off+i.toNat) 0) else none
 |none=>none
@[simp] theorem Ado {o:Nm} {u z off n m:Nat} {i:Int}:ixO o u z off n i (some m)=if 0≤i∧i<n∧z=m then some (.pel o u (off+i.toNat) 0) else none:=rfl
@[simp] theorem o5 {u z off n:Nat} {o:Nm} {k:IntKind} {i:Int}:Bn P t (.osl o u z off n) (.v (.int k i))=match P.underlying t with | some (.slice e)=>ixO o u z off n i (CX P e) | _=>none:=by
 unfold Bn;cases P.underlying t with
 |none=>rfl
 |some q=>
  cases q<;>first
   |rfl
   |(rename_i e;cases h:CX P e<;>first | rfl | simp[A.shift,h] | (simp only[h];rfl))
def ixA (a:A) (n:Nat) (i:Int):Option Nat→Option A
 |some m=>if 0≤i∧i<n then a.shift (i.toNat*m) else none
 |none=>none
@[simp] theorem Adj {a:A} {n m:Nat} {i:Int}:ixA a n i (some m)=if 0≤i∧i<n then a.shift (i.toNat*m) else none:=rfl
@[simp] theorem oV {u p:Nat} {o:Nm} {k:IntKind} {i:Int}:Bn P t (.pob o u p) (.v (.int k i))=match P.underlying t with | some (.array n e)=>ixA (.pob o u p) n i (CX P e) | _=>none:=by
 unfold Bn;cases P.underlying t with
 |none=>rfl
 |some q=>
  cases q<;>first
   |rfl
   |(rename_i e;cases h:CX P e<;>first | rfl | simp[A.shift,h] | (simp only[h];rfl))
@[simp] theorem o8 {cs:List A} {k:IntKind} {i:Int}:Bn P t (.pim cs) (.v (.int k i))=match P.underlying t with | some (.array n e)=>ixA (.pim cs) n i (CX P e) | _=>none:=by
 unfold Bn;cases P.underlying t with
 |none=>rfl
 |some q=>
  cases q<;>first
   |rfl
   |(rename_i e;cases h:CX P e<;>first | rfl | simp[A.shift,h] | (simp only[h];rfl))
@[simp] theorem oW {u p q':Nat} {o:Nm} {k:IntKind} {i:Int}:Bn P t (.pel o u p q') (.v (.int k i))=match P.underlying t with | some (.array n e)=>ixA (.pel o u p q') n i (CX P e) | _=>none:=by
 unfold Bn;cases P.underlying t with
 |none=>rfl
 |some q=>
  cases q<;>first
   |rfl
   |(rename_i e;cases h:CX P e<;>first | rfl | simp[A.shift,h] | (simp only[h];rfl))
def ixV (P:Program) (e:TypeId) (cs:List A) (n:Nat) (i:Int):Option Nat→Option A
 |some m=>if 0≤i∧i<n then Ng P e cs (i.toNat*m) else none
 |none=>none
@[simp] theorem Abd {e:TypeId} {cs:List A} {n m:Nat} {i:Int}:ixV P e cs n i (some m)=if 0≤i∧i<n then Ng P e cs (i.toNat*m) else none:=rfl
@[simp] theorem zX {cs:List A} {off:Nat}:Ng P t cs off=match Dj P t,CX P t with | some g,some sz=>JR g sz (cs.drop off) | _,_=>none:=rfl
@[simp] theorem zP {cs:List A} {k:IntKind} {i:Int}:Ki P t (.agg cs) (.v (.int k i))=match P.underlying t with | some (.array n e)=>ixV P e cs n i (CX P e) | _=>none:=by
 unfold Ki;cases P.underlying t with
 |none=>rfl
 |some q=>
  cases q<;>first
   |rfl
   |(rename_i e;cases h:CX P e<;>first | rfl | simp[A.shift,h] | (simp only[h];rfl))
@[simp] theorem xH {s:ByteArray} {k:IntKind} {i:Int}:Ki P t (.v (.string s)) (.v (.int k i))=match P.underlying t with | some .string=>if 0≤i then (s[i.toNat]?).map (fun b=>.v (.int .u8 b.toNat)) else none | _=>none:=by
 unfold Ki;cases P.underlying t with
 |none=>rfl
 |some q=>cases q<;>rfl
@[simp] theorem Age {f:Bool} {xs:List A}:Li P t (.sl f xs)=match P.underlying t with | some (.slice _)=>some (.v (.int .i64 xs.length)) | some (.array n _)=>some (.v (.int .i64 n)) | _=>none:=by
 unfold Li;cases P.underlying t with
 |none=>rfl
 |some q=>cases q<;>rfl
@[simp] theorem Af0 {u z off n:Nat} {o:Nm}:Li P t (.osl o u z off n)=match P.underlying t with | some (.slice _)=>some (.v (.int .i64 n)) | some (.array n _)=>some (.v (.int .i64 n)) | _=>none:=by
 unfold Li;cases P.underlying t with
 |none=>rfl
 |some q=>cases q<;>rfl
@[simp] theorem AdQ {s:ByteArray}:Li P t (.v (.string s))=match P.underlying t with | some .string=>some (.v (.int .i64 s.size)) | some (.array n _)=>some (.v (.int .i64 n)) | _=>none:=by
 unfold Li;cases P.underlying t with
 |none=>rfl
 |some q=>cases q<;>rfl
@[simp] theorem AdR {cs:List A}:Li P t (.agg cs)=match P.underlying t with | some (.array n _)=>some (.v (.int .i64 n)) | _=>none:=by
 unfold Li;cases P.underlying t with
 |none=>rfl
 |some q=>cases q<;>rfl
@[simp] theorem Ad1 {o:Nm} {u p:Nat}:Li P t (.pob o u p)=match P.underlying t with | some (.array n _)=>some (.v (.int .i64 n)) | _=>none:=by
 unfold Li;cases P.underlying t with
 |none=>rfl
 |some q=>cases q<;>rfl
def slS (f:Bool) (xs:List A):Option (Nat × Nat × Option Nat)→Option Nat→Option A
 |some (l,h,m),some s=>if Dd s xs=true then some (.sl (Gk m f h xs.length) ((xs.drop l).take (h-l))) else none
 |_,_=>none
@[simp] theorem Abv {f:Bool} {xs:List A} {l h s:Nat} {m:Option Nat}:slS f xs (some (l,h,m)) (some s)=if Dd s xs=true then some (.sl (Gk m f h xs.length) ((xs.drop l).take (h-l))) else none:=rfl
@[simp] theorem Abf {f:Bool} {xs:List A} {s:Option Nat}:slS f xs none s=none:=by cases s<;>rfl
@[simp] theorem AcF {f:Bool} {xs:List A} {lo hi mx:Option A}:G5 P t (.sl f xs) lo hi mx=match P.underlying t with | some (.slice e)=>slS f xs (CJ xs.length lo hi mx) (CX P e) | _=>none:=by
 unfold G5;cases P.underlying t with
 |none=>rfl
 |some q=>
  cases q<;>first
   |rfl
   |(rename_i e;cases CJ xs.length lo hi mx<;>cases CX P e<;>rfl)
def slO (o:Nm) (u z off:Nat):Option (Nat × Nat × Option Nat)→Option Nat→Option A
 |some (l,h,_),some s=>if s=z then some (.osl o u z (off+l) (h-l)) else none
 |_,_=>none
@[simp] theorem Aas {o:Nm} {u z off l h s:Nat} {m:Option Nat}:slO o u z off (some (l,h,m)) (some s)=if s=z then some (.osl o u z (off+l) (h-l)) else none:=rfl
@[simp] theorem Acy {o:Nm} {u z off:Nat} {s:Option Nat}:slO o u z off none s=none:=by cases s<;>rfl
@[simp] theorem yd {u z off n:Nat} {o:Nm} {lo hi mx:Option A}:G5 P t (.osl o u z off n) lo hi mx=match P.underlying t with | some (.slice e)=>slO o u z off (CJ n lo hi mx) (CX P e) | _=>none:=by
 unfold G5;cases P.underlying t with
 |none=>rfl
 |some q=>
  cases q<;>first
   |rfl
   |(rename_i e;cases CJ n lo hi mx<;>cases CX P e<;>rfl)
def slP (cs:List A) (n:Nat):Option (Nat × Nat × Option Nat)→Option Nat→Option A
 |some (l,h,m),some s=>if s=1∧n≤cs.length then some (.sl (Gk m true h n) ((cs.drop l).take (h-l))) else none
 |_,_=>none
@[simp] theorem Aa7 {cs:List A} {n l h s:Nat} {m:Option Nat}:slP cs n (some (l,h,m)) (some s)=if s=1∧n≤cs.length then some (.sl (Gk m true h n) ((cs.drop l).take (h-l))) else none:=rfl
@[simp] theorem AaW {cs:List A} {n:Nat} {s:Option Nat}:slP cs n none s=none:=by cases s<;>rfl
@[simp] theorem xy {cs:List A} {lo hi mx:Option A}:G5 P t (.pim cs) lo hi mx=match P.underlying t with | some (.array n e)=>slP cs n (CJ n lo hi mx) (CX P e) | _=>none:=by
 unfold G5;cases P.underlying t with
 |none=>rfl
 |some q=>
  cases q<;>first
   |rfl
   |(rename_i n e;cases CJ n lo hi mx<;>cases CX P e<;>rfl)
@[simp] theorem zJ {s:ByteArray} {lo hi mx:Option A}:G5 P t (.v (.string s)) lo hi mx=match P.underlying t with | some .string=>(match CJ s.size lo hi mx with | some (l,h,none)=>some (.v (.string (s.extract l h))) | _=>none) | _=>none:=by
 unfold G5;cases P.underlying t with
 |none=>rfl
 |some q=>cases q<;>rfl
@[simp] theorem Aek {r:IntKind} {n:Int}:J0 P t u (.v (.int r n))=match P.underlying t,P.underlying u with | some _,some (.int k)=>some (.v (.int k (k.wrap n))) | _,_=>none:=by
 unfold J0;cases P.underlying t with
 |none=>rfl
 |some q=>cases P.underlying u with
  |none=>rfl
  |some d=>cases d<;>rfl
@[simp] theorem AeI {x:ByteArray}:J0 P t u (.v (.string x))=match P.underlying t,P.underlying u with | some _,some .string=>some (.v (.string x)) | _,_=>none:=by
 unfold J0;cases P.underlying t with
 |none=>rfl
 |some q=>cases P.underlying u with
  |none=>rfl
  |some d=>cases d<;>rfl
def nY (P:Program) (s:TypeId) (f:Nat):Option (TypeId × Nat):=match P.underlying s with
 |some (.struct fs)=>(fs[f]?).map fun fd=>(fd.type,fd.offset)
 |_=>none
@[simp] theorem zt {cs:List A} {f:Nat}:Oa P t (.agg cs) f=match nY P t f with | some (ft,off)=>Ng P ft cs off | none=>none:=by
 unfold Oa nY;cases P.underlying t with
 |none=>rfl
 |some q=>
  cases q<;>first
   |rfl
   |(rename_i fs;simp only;cases fs[f]?<;>rfl)
@[simp] theorem Agx {s e:Nat} {a:Option Addr} {c:Nat}:Gc P H s e t (.v (.slice a 0 c))=match P.underlying t with | some (.slice _)=>some [] | _=>none:=by
 unfold Gc;cases P.underlying t with
 |none=>rfl
 |some q=>cases q<;>rfl
def KN:Nat→List (Nat × A)→Bool
 |_,[]=>true
 |k,(i,_)::l=>i == k&&KN (k+1) l
@[simp] theorem yo {k:Nat}:KN k []=true:=rfl
@[simp] theorem TJ {k i:Nat} {x:A} {l:List (Nat × A)}:KN k ((i,x)::l)=(i == k&&KN (k+1) l):=rfl
theorem Mf:∀ (l:List (Nat × A)) (k:Nat),KN k l=true→l.map (·.1)=List.range' k l.length
 |[],k,_=>rfl
 |(i,x)::l,k,h=>by
  simp only[TJ,Bool.and_eq_true,beq_iff_eq] at h;simp only[List.map_cons,List.length_cons,List.range'_succ];rw[h.1,Mf l (k+1) h.2]
def AaG (len:Nat) (ps:List (Nat × A)):Option Nat→Option Value→Option A
 |some s,some z=>if KN 0 ps=true∧ps.length=len∧len*s≤16777216∧(Fm z).cells.length=s∧A.ones (Fm z).cells=true∧(ps.all fun p=>p.2.cells.length == s&&A.ones p.2.cells&&p.2.cells.all A.bare1)=true then some (.sl true (ps.map (·.2))) else none
 |_,_=>none
@[simp] theorem iH {len s:Nat} {z:Value} {ps:List (Nat × A)}:AaG len ps (some s) (some z)=if KN 0 ps=true∧ps.length=len∧len*s≤16777216∧(Fm z).cells.length=s∧A.ones (Fm z).cells=true∧(ps.all fun p=>p.2.cells.length == s&&A.ones p.2.cells&&p.2.cells.all A.bare1)=true then some (.sl true (ps.map (·.2))) else none:=rfl
theorem Lm:∀ (l:List (Nat × A)) (k:Nat),l.map (·.1)=List.range' k l.length→KN k l=true
 |[],k,_=>rfl
 |(i,x)::l,k,h=>by
  simp only[List.map_cons,List.length_cons,List.range'_succ,List.cons.injEq] at h;simp only[TJ,Bool.and_eq_true,beq_iff_eq];exact⟨h.1,Lm l (k+1) h.2⟩
@[simp] theorem ph {len:Nat} {ps:List (Nat × A)}:E5 P t len ps=match P.underlying t with | some (.slice e)=>AaG len ps (CX P e) (Bh P e) | _=>none:=by
 unfold E5;cases P.underlying t with
 |none=>rfl
 |some q=>
  cases q<;>try rfl
  rename_i e;simp only;cases CX P e with
  |none=>rfl
  |some s=>
   cases Bh P e with
   |none=>rfl
   |some z=>
    have he:(ps.map (·.1)=List.range len) ↔ (KN 0 ps=true∧ps.length=len):=by
     constructor
     ·intro h;have hl:ps.length=len:=by have:=congrArg List.length h;simpa using this
      exact⟨Lm ps 0 (by rw[h,hl,List.range_eq_range']),hl⟩
     ·rintro⟨h1,h2⟩;rw[Mf _ _ h1,h2,List.range_eq_range']
    simp only[iH,he,and_assoc]
def AbA (H:Hp) (d:Nm) (e:TypeId) (len:Nat) (ps:List (Nat × A)):Option Nat→Option Value→Option (A × Eff)
 |some s,some z=>if KN 0 ps=true∧ps.length=len∧len*s≤16777216∧(Fm z).cells.length=s∧A.ones (Fm z).cells=true∧(ps.all fun p=>p.2.cells.length == s&&A.ones p.2.cells)=true∧CF d e=true then some (.osl d ((H d).u+1) s 0 len,.one d ⟨(H d).u+1,.arr s (ps.map (·.2))⟩) else none
 |_,_=>none
@[simp] theorem ic {H:Hp} {d:Nm} {e:TypeId} {len s:Nat} {z:Value} {ps:List (Nat × A)}:AbA H d e len ps (some s) (some z)=if KN 0 ps=true∧ps.length=len∧len*s≤16777216∧(Fm z).cells.length=s∧A.ones (Fm z).cells=true∧(ps.all fun p=>p.2.cells.length == s&&A.ones p.2.cells)=true∧CF d e=true then some (.osl d ((H d).u+1) s 0 len,.one d ⟨(H d).u+1,.arr s (ps.map (·.2))⟩) else none:=rfl
@[simp] theorem n7 {H:Hp} {d:Nm} {len:Nat} {ps:List (Nat × A)}:DT P H d t len ps=match P.underlying t with | some (.slice e)=>AbA H d e len ps (CX P e) (Bh P e) | _=>none:=by
 unfold DT;cases P.underlying t with
 |none=>rfl
 |some q=>
  cases q<;>try rfl
  rename_i e;simp only;cases CX P e with
  |none=>rfl
  |some s=>
   cases Bh P e with
   |none=>rfl
   |some z=>
    have he:(ps.map (·.1)=List.range len) ↔ (KN 0 ps=true∧ps.length=len):=by
     constructor
     ·intro h;have hl:ps.length=len:=by have:=congrArg List.length h;simpa using this
      exact⟨Lm ps 0 (by rw[h,hl,List.range_eq_range']),hl⟩
     ·rintro⟨h1,h2⟩;rw[Mf _ _ h1,h2,List.range_eq_range']
    simp only[ic,he,and_assoc]
@[simp] theorem qB {cs:List A}:It P .eql t (.pim cs) (.v (.pointer none))=match P.underlying t with | some (.pointer _)=>some (.v (.bool false)) | _=>none:=by
 show(Kx P 100 t _ _).map _=_;unfold Kx;cases P.underlying t with
 |none=>rfl
 |some q=>cases q<;>rfl
@[simp] theorem qp {cs:List A}:It P .neq t (.pim cs) (.v (.pointer none))=match P.underlying t with | some (.pointer _)=>some (.v (.bool true)) | _=>none:=by
 show(Kx P 100 t _ _).map _=_;unfold Kx;cases P.underlying t with
 |none=>rfl
 |some q=>cases q<;>rfl
@[simp] theorem qh {o:Nm} {v p:Nat}:It P .eql t (.pob o v p) (.v (.pointer none))=match P.underlying t with | some (.pointer _)=>some (.v (.bool false)) | _=>none:=by
 show(Kx P 100 t _ _).map _=_;unfold Kx;cases P.underlying t with
 |none=>rfl
 |some q=>cases q<;>rfl
@[simp] theorem qX {o:Nm} {v p:Nat}:It P .neq t (.pob o v p) (.v (.pointer none))=match P.underlying t with | some (.pointer _)=>some (.v (.bool true)) | _=>none:=by
 show(Kx P 100 t _ _).map _=_;unfold Kx;cases P.underlying t with
 |none=>rfl
 |some q=>cases q<;>rfl
@[simp] theorem pR {o:Nm} {v p q':Nat}:It P .eql t (.pel o v p q') (.v (.pointer none))=match P.underlying t with | some (.pointer _)=>some (.v (.bool false)) | _=>none:=by
 show(Kx P 100 t _ _).map _=_;unfold Kx;cases P.underlying t with
 |none=>rfl
 |some q=>cases q<;>rfl
@[simp] theorem rZ {o:Nm} {v p q':Nat}:It P .neq t (.pel o v p q') (.v (.pointer none))=match P.underlying t with | some (.pointer _)=>some (.v (.bool true)) | _=>none:=by
 show(Kx P 100 t _ _).map _=_;unfold Kx;cases P.underlying t with
 |none=>rfl
 |some q=>cases q<;>rfl
@[simp] theorem ql:It P .eql t (.v (.pointer none)) (.v (.pointer none))=match P.underlying t with | some (.pointer _)=>some (.v (.bool true)) | _=>none:=by
 show(Kx P 100 t _ _).map _=_;unfold Kx;cases P.underlying t with
 |none=>rfl
 |some q=>cases q<;>rfl
@[simp] theorem qV:It P .neq t (.v (.pointer none)) (.v (.pointer none))=match P.underlying t with | some (.pointer _)=>some (.v (.bool false)) | _=>none:=by
 show(Kx P 100 t _ _).map _=_;unfold Kx;cases P.underlying t with
 |none=>rfl
 |some q=>cases q<;>rfl
@[simp] theorem oQ {a b:Bool}:It P .eql t (.v (.bool a)) (.v (.bool b))=match P.underlying t with | some .bool=>some (.v (.bool (a == b))) | _=>none:=by
 show(Kx P 100 t _ _).map _=_;unfold Kx;cases P.underlying t with
 |none=>rfl
 |some q=>cases q<;>rfl
@[simp] theorem o9 {a b:Bool}:It P .neq t (.v (.bool a)) (.v (.bool b))=match P.underlying t with | some .bool=>some (.v (.bool (!(a == b)))) | _=>none:=by
 show(Kx P 100 t _ _).map _=_;unfold Kx;cases P.underlying t with
 |none=>rfl
 |some q=>cases q<;>rfl
end
def Gt {α:Type} (F:Option α) (K:α→Prop):Prop:=∃ x,F=some x∧K x
def Gz (q:Bool) (F:Option A) (K:A→Prop):Prop:=∃ x,(q=true→F=some x)∧K (gd q x)
def Si (q:Bool) (F:Prop):Prop:=q=true→F
def Rl (b:Bool) (F G:Prop):Prop:=(b=true→F)∧(b=false→G)
@[congr] theorem Aa9 {α:Type} {F F':Option α} {K:α→Prop} (h:F=F'):Gt F K=Gt F' K:=by rw[h]
@[congr] theorem zG {q q':Bool} {F F':Option A} {K:A→Prop} (h1:q=q') (h2:F=F'):Gz q F K=Gz q' F' K:=by rw[h1,h2]
@[congr] theorem xW {b b':Bool} {F G:Prop} (h:b=b'):Rl b F G=Rl b' F G:=by rw[h]
@[congr] theorem uq {P:Program} {K:Sta→Prop} {l:List CO} {lg lg':Lg} {st st':Sta} (h0:lg=lg') (h:st=st'):An P K l lg st=An P K l lg' st':=by rw[h0,h]
@[congr] theorem zk {c:Cx} {x:CC} {Q:Exit→Sta→Prop} {st st':Sta} (h:st=st'):WPC c x Q st=WPC c x Q st':=by rw[h]
@[congr] theorem sL {c:Cx} {x:CC} {Q:Exit→Sta→Prop} {st st':Sta} (h:st=st'):LoopC c x Q st=LoopC c x Q st':=by rw[h]
@[congr] theorem tp {K:Sta→Prop} {Q:Exit→Sta→Prop} {e e':Exit} {st st':Sta} (h0:e=e') (h:st=st'):F7 K Q e st=F7 K Q e' st':=by rw[h0,h]
@[congr] theorem tr {c:Cx} {K:Sta→Prop} {st st':Sta} (h:st=st'):QD c K st=QD c K st':=by rw[h]
@[congr] theorem o0 {i:Nat} {Q:Exit→Sta→Prop} {e e':Exit} {st st':Sta} (h0:e=e') (h:st=st'):BR i Q e st=BR i Q e' st':=by rw[h0,h]
@[congr] theorem zC {Q:Exit→Sta→Prop} {e e':Exit} {st st':Sta} (h0:e=e') (h:st=st'):vp Q e st=vp Q e' st':=by rw[h0,h]
@[simp] theorem Ae6 {α:Type} {x:α} {K:α→Prop}:Gt (some x) K=K x:=by simp[Gt]
@[simp] theorem Agi {α:Type} {C:Prop} [Decidable C] {F G:Option α} {K:α→Prop}:Gt (if C then F else G) K=((C→Gt F K)∧(¬C→Gt G K)):=by
 by_cases h:C<;>simp[h]
@[simp] theorem Aec {α:Type} {K:α→Prop}:Gt none K=False:=by simp[Gt]
@[simp high] theorem AfW {α:Type} {C:Prop} [Decidable C] {F:Option α} {K:α→Prop}:Gt (if C then F else none) K=(C∧Gt F K):=by
 by_cases h:C<;>simp[h]
@[simp] theorem Aaf {q:Bool} {x:A} {K:A→Prop}:Gz q (some x) K=K (gd q x):=by
 apply propext;constructor
 ·rintro⟨y,h1,h2⟩;cases q
  ·exact h2
  ·cases h1 rfl;exact h2
 ·exact fun h=>⟨x,fun _=>rfl,h⟩
@[simp high] theorem Abg {q:Bool} {C:Prop} [Decidable C] {F:Option A} {K:A→Prop}:Gz q (if C then F else none) K=(Si q C∧Gz q F K):=by
 cases q
 ·simp[Gz,Si]
 ·by_cases h:C<;>simp[h,Gz,Si]
@[simp] theorem Adk {F:Option A} {K:A→Prop}:Gz true F K=Gt F K:=by simp[Gz,Gt,gd]
@[simp] theorem zi {F:Option A} {K:A→Prop}:Gz false F K=K (.v undef):=by simp[Gz,gd]
@[simp] theorem Aa8 {F:Prop}:Si true F=F:=by simp[Si]
@[simp] theorem xD {F:Prop}:Si false F=True:=by simp[Si]
@[simp] theorem sm {q:Bool}:Si q True=True:=by simp[Si]
@[simp] theorem vH {p:Prop} [Decidable p] {F:Prop}:Si (decide p) F=(p→F):=by simp[Si]
@[simp] theorem AaC {F G:Prop}:Rl true F G=F:=by simp[Rl]
@[simp] theorem xS {F G:Prop}:Rl false F G=G:=by simp[Rl]
@[simp] theorem vi {p:Prop} [Decidable p] {F G:Prop}:Rl (decide p) F G=((p→F)∧(¬p→G)):=by simp[Rl]
@[simp] theorem Afi {b:Bool} {F G:Prop}:Rl (!b) F G=Rl b G F:=by cases b<;>simp
@[simp] theorem Aew {a b:Bool} {F G:Prop}:Rl (a&&b) F G=(((a&&b)=true→F)∧((a&&b)=false→G)):=rfl
@[simp] theorem Ag8 {a b:Bool} {F G:Prop}:Rl (a || b) F G=(((a || b)=true→F)∧((a || b)=false→G)):=rfl
@[simp] theorem Ac7 {b:Bool} {F:Prop}:Rl b F F=F:=by cases b<;>simp
@[simp] theorem Aff {x:A}:gd true x=x:=rfl
@[simp] theorem Aay {x:A}:gd false x = .v undef:=rfl
@[simp] theorem Agy {q:Bool} {x y:A}:(bif q then gd q x else y)=bif q then x else y:=by cases q<;>rfl
def ng (b:Bool):Bool:=!b
@[simp] theorem AbY:ng true=false:=rfl
@[simp] theorem y9:ng false=true:=rfl
@[simp] theorem AeM {b:Bool}:(ng b=true)=(b=false):=by cases b<;>simp[ng]
@[simp] theorem Acb {b:Bool}:(ng b=false)=(b=true):=by cases b<;>simp[ng]
@[simp] theorem Agv {b:Bool}:ng (!b)=b:=by cases b<;>rfl
@[simp] theorem uH {q:Bool} {x y:A}:(bif q then x else gd (!q) y)=bif q then x else y:=by cases q<;>rfl
@[simp] theorem wD {q c:Bool} {x y:A}:gd q (bif c then x else gd (q&&!c) y)=gd q (bif c then x else y):=by cases q<;>cases c<;>rfl
@[simp] theorem Af8 {b:Bool} {F:Prop}:Si (ng b) F=(b=false→F):=by cases b<;>simp[Si]
@[simp] theorem AdB {a b:Bool} {F:Prop}:Si (a&&b) F=Si a (Si b F):=by cases a<;>cases b<;>simp[Si]
@[simp] theorem Agq {a b:Bool} {F:Prop}:Si (a || b) F=(Si a F∧Si b F):=by cases a<;>cases b<;>simp[Si]
@[simp] theorem Ae9 {a:Bool} {F:Prop}:Si (!a) F=(a=false→F):=by cases a<;>simp[Si]
@[simp] theorem AgH {b:Bool} {F G:Prop}:Rl (ng b) F G=Rl b G F:=by cases b<;>simp[Rl]
@[simp] theorem AfL {q:Bool} {x y:A}:(bif q then x else gd (ng q) y)=bif q then x else y:=by cases q<;>rfl
@[simp] theorem uR {b:Bool}:B6 (.v (.bool b)) true=some b:=by cases b<;>rfl
@[simp] theorem sH {b:Bool}:B6 (.v (.bool b)) false=some (ng b):=by cases b<;>rfl
@[simp] theorem tD {f:Bool}:B6 (.v undef) f=some false:=rfl
@[simp] theorem AbH {q b:Bool}:B6 (gd q (.v (.bool b))) true=some (q&&b):=by cases q<;>cases b<;>rfl
@[simp] theorem zn {q b:Bool}:B6 (gd q (.v (.bool b))) false=some (q&&ng b):=by cases q<;>cases b<;>rfl
@[simp] theorem Aei {q c:Bool} {x y:A}:gd q (bif c then gd (q&&c) x else y)=gd q (bif c then x else y):=by cases q<;>cases c<;>rfl
@[simp] theorem Aeu {q c:Bool} {x y:A}:gd q (bif c then x else gd (q&&ng c) y)=gd q (bif c then x else y):=by cases q<;>cases c<;>rfl
@[simp] theorem Ahz {q:Bool} {x:A}:gd q (gd q x)=gd q x:=by cases q<;>rfl
@[simp] theorem vV {b:Bool}:Yc (.v (.bool b))=some b:=rfl
@[simp] theorem yv {b:Bool} {x y:A}:YI (.v (.bool b)) x y=some (bif b then x else y):=rfl
@[simp] theorem y7 {α:Type} {b:Bool} {x:α}:(bif b then x else x)=x:=by cases b<;>rfl
section
variable {c:Cx} {Q:Exit→Sta→Prop} {st:Sta} {K:Sta→Prop}
@[simp] theorem AaZ:WPC c .skip Q st=Q .normal st:=rfl
@[simp] theorem AaI {i:Nat}:WPC c (.exit i) Q st=Q (.exit i) st:=rfl
@[simp] theorem AeZ:WPC c .ret Q st=Q .ret st:=rfl
def sE (Q:Exit→Sta→Prop) (live:List Nat) (st:Sta):Prop:=Q .normal (st.keep live)
@[simp] theorem Acd {live:List Nat}:sE Q live st=Q .normal (st.keep live):=rfl
@[simp] theorem Aea {ops:List CO} {live:List Nat}:WPC c (.reg ops live) Q st=An c.P (sE Q live) ops [] st:=rfl
@[simp] theorem Aen {x y:CC}:WPC c (.seq x y) Q st=WPC c x (F7 (WPC c y Q) Q) st:=rfl
@[simp] theorem x6 {i:Nat} {x:CC}:WPC c (.block i x) Q st=WPC c x (BR i Q) st:=rfl
@[simp] theorem zW {x:CC}:WPC c (.loop x) Q st=LoopC c x Q st:=rfl
@[simp] theorem yB {x:CC}:WPC c (.scope x) Q st=WPC c x (vp Q) st:=rfl
@[simp] theorem tN:vp Q .normal st=Q .normal st:=rfl
@[simp] theorem Ac5 {i:Nat}:vp Q (.exit i) st=Q (.exit i) st:=rfl
@[simp] theorem Aeh:vp Q .ret st=Q .ret st:=rfl
@[simp] theorem Aaw {x:CC}:WPC c (.stop x) Q st=QD c (WPC c x Q) st:=rfl
@[simp] theorem z9 {live:List Nat} {x:CC}:WPC c (.keep live x) Q st=WPC c x Q (st.keep live):=rfl
@[simp] theorem Abp {o:Operand} {x y:CC}:WPC c (.cond o x y) Q st=Gt (Yc (evs st.s o)) fun b=>Rl b (WPC c x Q st) (WPC c y Q st):=by
 apply propext;constructor
 ·rintro⟨b,h1,h2,h3⟩;exact⟨b,by rw[h1];rfl,h2,h3⟩
 ·rintro⟨b,h1,h2,h3⟩;exact⟨b,Sd h1,h2,h3⟩
@[simp] theorem pM:F7 K Q .normal st=K st:=rfl
@[simp] theorem xo {i:Nat}:F7 K Q (.exit i) st=Q (.exit i) st:=rfl
@[simp] theorem yl:F7 K Q .ret st=Q .ret st:=rfl
theorem Ab {x x':CC} (hm:c.P.follows .mixedOrders=true) (he:x=x') (h:WPC c x' (F7 (LoopC c x Q) Q) st):LoopC c x Q st:=by
 subst he;exact YB hm h
@[simp] theorem Aik {P:Program} {w0:World} {I0:Nat→Prop} {n:Nat}:(cx P w0 I0 n).P=P:=rfl
variable {P:Program} {rs:List ResultVar} {r:A}
@[simp] theorem sN:Xt P rs r .normal st=Gt (EU P st rs) fun r0=>IZ st.H r0 r:=rfl
@[simp] theorem AbM:Xt P rs r .ret st=Gt (EU P st rs) fun r0=>IZ st.H r0 r:=rfl
@[simp] theorem va {t:Nat}:NV P st (.tmp t)=some (st.s t):=rfl
@[simp] theorem sP {t:TypeId} {a:Nat}:NV P st (.cell a t)=FC P st.H t (st.s a):=rfl
@[simp] theorem AaH {x:ResultVar}:EU P st [x]=NV P st x:=rfl
@[simp] theorem AaR {x y:ResultVar} {l:List ResultVar}:EU P st (x::y::l)=(Hh P st (x::y::l)).map .tup:=rfl
@[simp] theorem Acg:EU P st []=some (.tup []):=rfl
@[simp] theorem td:Hh P st []=some []:=rfl
@[simp] theorem p6 {x:ResultVar} {l:List ResultVar}:Hh P st (x::l)=match NV P st x,Hh P st l with | some x,some l=>some (x::l) | _,_=>none:=rfl
end
section
variable {P:Program} {H:Hp} {t u:TypeId} {q:Bool} {x y z:A} {K:A→Prop}
theorem DJ {F F':Option A} (h:q=true→F=F'):Gz q F K=Gz q F' K:=by
 cases q
 ·simp
 ·rw[h rfl]
@[simp] theorem AaJ {op:BinOp}:Gz q (It P op t (gd q x) y) K=Gz q (It P op t x y) K:=DJ fun h=>by rw[h];rfl
@[simp] theorem Aa5 {op:BinOp}:Gz q (It P op t x (gd q y)) K=Gz q (It P op t x y) K:=DJ fun h=>by rw[h];rfl
@[simp] theorem Agd {op:UnOp}:Gz q (rB op (gd q y)) K=Gz q (rB op y) K:=DJ fun h=>by rw[h];rfl
@[simp] theorem Abh:Gz q (J0 P t u (gd q y)) K=Gz q (J0 P t u y) K:=DJ fun h=>by rw[h];rfl
@[simp] theorem AcX:Gz q (FC P H t (gd q y)) K=Gz q (FC P H t y) K:=DJ fun h=>by rw[h];rfl
@[simp] theorem o7 {i:Nat}:Gz q (E7 P t (gd q y) i) K=Gz q (E7 P t y i) K:=DJ fun h=>by rw[h];rfl
@[simp] theorem jT:Gz q (Bn P t (gd q x) y) K=Gz q (Bn P t x y) K:=DJ fun h=>by rw[h];rfl
@[simp] theorem oJ:Gz q (Bn P t x (gd q y)) K=Gz q (Bn P t x y) K:=DJ fun h=>by rw[h];rfl
@[simp] theorem AdO:Gz q (Li P t (gd q y)) K=Gz q (Li P t y) K:=DJ fun h=>by rw[h];rfl
@[simp] theorem AfU:Gz q (YI (gd q z) x y) K=Gz q (YI z x y) K:=DJ fun h=>by rw[h];rfl
def GB (P:Program) (q:Bool) (t:TypeId) (acc l:List (Nat × A)) (K:A→Prop):Prop:=Gz q (Ch P t (acc++l)) K
@[congr] theorem Ac9 {q':Bool} {acc l l':List (Nat × A)} (h0:q=q') (h:l=l'):GB P q t acc l K=GB P q' t acc l' K:=by rw[h0,h]
@[simp] theorem Ago {acc:List (Nat × A)}:GB P q t acc [] K=Gz q (Ch P t acc) K:=by simp[GB]
theorem Km {acc l:List (Nat × A)} {i:Nat}:GB P q t acc ((i,x)::l) K=GB P q t (acc++[(i,x)]) l K:=by simp[GB]
@[simp] theorem Ahu {acc l:List (Nat × A)} {i:Nat}:GB P q t acc ((i,gd q x)::l) K=GB P q t (acc++[(i,x)]) l K:=by
 rw[← Km];exact DJ fun h=>by rw[h];rfl
@[simp] theorem Aid {acc l:List (Nat × A)} {i:Nat} {a:Value}:GB P q t acc ((i,.v a)::l) K=GB P q t (acc++[(i,.v a)]) l K:=Km
@[simp] theorem AhM {acc l:List (Nat × A)} {i:Nat} {b:Bool} {xs:List A}:GB P q t acc ((i,.sl b xs)::l) K=GB P q t (acc++[(i,.sl b xs)]) l K:=Km
@[simp] theorem AgU {acc l:List (Nat × A)} {i u z m n:Nat} {o:Nm}:GB P q t acc ((i,.osl o u z m n)::l) K=GB P q t (acc++[(i,.osl o u z m n)]) l K:=Km
@[simp] theorem Ahl {acc l:List (Nat × A)} {i u m:Nat} {o:Nm}:GB P q t acc ((i,.pob o u m)::l) K=GB P q t (acc++[(i,.pob o u m)]) l K:=Km
@[simp] theorem AgZ {acc l:List (Nat × A)} {i:Nat} {xs:List A}:GB P q t acc ((i,.pim xs)::l) K=GB P q t (acc++[(i,.pim xs)]) l K:=Km
@[simp] theorem Agm {acc l:List (Nat × A)} {i:Nat} {xs:List A}:GB P q t acc ((i,.agg xs)::l) K=GB P q t (acc++[(i,.agg xs)]) l K:=Km
@[simp] theorem sO {i:Nat}:Gz q (Hu (gd q y) i) K=Gz q (Hu y i) K:=DJ fun h=>by rw[h];rfl
end
section
variable {P:Program} {H:Hp} {t u:TypeId}
@[simp] theorem Acl {op:BinOp} {q r:IntKind} {a b:Int}:It P op t (.v (.int q a)) (.v (.int r b))=DQ op q r a b:=rfl
@[simp] theorem Adx {op:BinOp} {a b:ByteArray}:It P op t (.v (.string a)) (.v (.string b))=pO op a b:=rfl
@[simp] theorem sD {xs ys:List A}:It P .eql t (.agg xs) (.agg ys)=if P.eqGuardType P.depth t=false then (Kx P 100 t (.agg xs) (.agg ys)).map fun b=>.v (.bool b) else none:=rfl
@[simp] theorem tm {xs ys:List A}:It P .neq t (.agg xs) (.agg ys)=if P.eqGuardType P.depth t=false then (Kx P 100 t (.agg xs) (.agg ys)).map fun b=>.v (.bool (!b)) else none:=rfl
@[simp] theorem Aac {q r:IntKind} {a b:Int}:DQ .shl q r a b=if 0≤b then some (.v (.int q (q.wrap (a*2 ^ (min b.toNat q.bits))))) else none:=rfl
@[simp] theorem AbO {q r:IntKind} {a b:Int}:DQ .shr q r a b=if 0≤b then some (.v (.int q (a / 2 ^ (min b.toNat q.bits)))) else none:=rfl
@[simp] theorem AcJ {q:IntKind} {a b:Int}:DQ .add q q a b=some (.v (.int q (q.wrap (a+b)))):=by simp[DQ]
@[simp] theorem Abr {q:IntKind} {a b:Int}:DQ .sub q q a b=some (.v (.int q (q.wrap (a-b)))):=by simp[DQ]
@[simp] theorem Acp {q:IntKind} {a b:Int}:DQ .mul q q a b=some (.v (.int q (q.wrap (a*b)))):=by simp[DQ]
@[simp] theorem AcD {q:IntKind} {a b:Int}:DQ .quo q q a b=if b=0 then none else some (.v (.int q (q.wrap (a.tdiv b)))):=by simp[DQ]
@[simp] theorem AaA {q:IntKind} {a b:Int}:DQ .rem q q a b=if b=0 then none else some (.v (.int q (a.tmod b))):=by simp[DQ]
@[simp] theorem AaD {q:IntKind} {a b:Int}:DQ .and q q a b=some (.v (.int q (bits .and q a b))):=by simp[DQ]
@[simp] theorem Ad7 {q:IntKind} {a b:Int}:DQ .or q q a b=some (.v (.int q (bits .or q a b))):=by simp[DQ]
@[simp] theorem Aav {q:IntKind} {a b:Int}:DQ .xor q q a b=some (.v (.int q (bits .xor q a b))):=by simp[DQ]
@[simp] theorem sy {q:IntKind} {a b:Int}:DQ .andNot q q a b=some (.v (.int q (bits .andNot q a b))):=by simp[DQ]
@[simp] theorem Aa4 {q:IntKind} {a b:Int}:DQ .eql q q a b=some (.v (.bool (decide (a=b)))):=by simp[DQ];rfl
@[simp] theorem Acx {q:IntKind} {a b:Int}:DQ .neq q q a b=some (.v (.bool (!decide (a=b)))):=by simp[DQ];rfl
@[simp] theorem AcQ {q:IntKind} {a b:Int}:DQ .lss q q a b=some (.v (.bool (decide (a<b)))):=by simp[DQ]
@[simp] theorem AbK {q:IntKind} {a b:Int}:DQ .leq q q a b=some (.v (.bool (decide (a≤b)))):=by simp[DQ]
@[simp] theorem z6 {q:IntKind} {a b:Int}:DQ .gtr q q a b=some (.v (.bool (decide (b<a)))):=by simp[DQ]
@[simp] theorem AcZ {q:IntKind} {a b:Int}:DQ .geq q q a b=some (.v (.bool (decide (b≤a)))):=by simp[DQ]
@[simp] theorem AdX {b:Bool}:rB .not (.v (.bool b))=some (.v (.bool (!b))):=rfl
@[simp] theorem Ae1 {q:IntKind} {n:Int}:rB .neg (.v (.int q n))=some (.v (.int q (q.wrap (0-n)))):=rfl
@[simp] theorem Abl {cs:List A}:FC P H t (.pim cs)=match Dj P t,CX P t with | some g,some sz=>JR g sz cs | _,_=>none:=rfl
@[simp] theorem AcG {sz:Nat} {cs:List A}:JR true sz cs=if sz≤cs.length then some (.agg (cs.take sz)) else none:=rfl
@[simp] theorem x4 {sz:Nat} {cs:List A}:JR false sz cs=cs[0]?:=rfl
@[simp] theorem ue {n:Nat}:G4 (.tmp n)=false:=rfl
@[simp] theorem um {k:IntKind} {n:Int}:G4 (.const (.int k n))=false:=rfl
@[simp] theorem sK {n:Bool}:G4 (.const (.bool n))=false:=rfl
@[simp] theorem vg {n:ByteArray}:G4 (.const (.string n))=false:=rfl
@[simp] theorem wI {n:Option Addr}:G4 (.const (.pointer n))=false:=rfl
@[simp] theorem wY {n:Array Value}:G4 (.const (.agg n))=false:=rfl
@[simp] theorem vM:G4 (.const .nilIface)=false:=rfl
@[simp] theorem vT:G4 (.const (.slice none 0 0))=true:=rfl
@[simp] theorem yL {x:A}:Ko P .eql t x=match P.underlying t with | some (.slice _)=>(ZR x).map fun b=>.v (.bool b) | _=>none:=by
 unfold Ko;cases P.underlying t with
 |none=>rfl
 |some d=>cases d<;>rfl
@[simp] theorem y6 {x:A}:Ko P .neq t x=match P.underlying t with | some (.slice _)=>(ZR x).map fun b=>.v (.bool (!b)) | _=>none:=by
 unfold Ko;cases P.underlying t with
 |none=>rfl
 |some d=>cases d<;>rfl
@[simp] theorem yi {f:Bool} {x:A} {xs:List A}:ZR (.sl f (x::xs))=some false:=rfl
@[simp] theorem AgR {a:Option Addr} {n c:Nat}:ZR (.v (.slice a n c))=some a.isNone:=rfl
@[simp] theorem yx {len:Nat} {lo hi:Option A}:CJ len lo hi none=match EO hi len len with | some h=>(match EO lo 0 h with | some l=>some (l,h,none) | none=>none) | none=>none:=rfl
@[simp] theorem vP {d n:Nat}:EO none d n=some d:=rfl
@[simp] theorem xM {k:IntKind} {i:Int} {d n:Nat}:EO (some (.v (.int k i))) d n=if 0≤i∧i≤n then some i.toNat else none:=rfl
@[simp] theorem wc {f:Bool} {h n:Nat}:Gk none f h n=(f&&h == n):=rfl
@[simp] theorem wO {f:Bool} {h n m:Nat}:Gk (some m) f h n=(m == h):=rfl
@[simp] theorem x8 {n:Nat} {cs:List A}:A.shift n (.pim cs)=some (.pim (cs.drop n)):=rfl
@[simp] theorem zE {n u p:Nat} {o:Nm}:A.shift n (.pob o u p)=some (.pob o u (p+n)):=rfl
@[simp] theorem xF {n u p q:Nat} {o:Nm}:A.shift n (.pel o u p q)=some (.pel o u p (q+n)):=rfl
@[simp] theorem rH {a:A} {i:Nat}:E7 P t a i=(Aj P t i).bind a.shift:=rfl
@[simp] theorem tg {xs:List A} {i:Nat}:Hu (.tup xs) i=xs[i]?:=rfl
@[simp] theorem sx {c:A} {cs news:List A} {n:Nat}:splice (c::cs) (n+1) news=c::splice cs n news:=by simp[splice,Nat.add_right_comm]
@[simp] theorem sA {cs news:List A}:splice cs 0 news=news++cs.drop news.length:=by simp[splice]
end
section
variable {P:Program} {s:Nat→A} {H:Hp}
@[simp] theorem Ac3 {d:Nat} {x:A} {H':Hp}:Sta.put ⟨s,H⟩ (some d) x H'=⟨upd s d x,H'⟩:=rfl
@[simp] theorem Aaz {x:A} {H':Hp}:Sta.put ⟨s,H⟩ none x H'=⟨s,H'⟩:=rfl
@[simp] theorem AgJ {d t:Nat} {x:A}:upd s d x t=if t=d then x else s t:=rfl
@[simp] theorem Aga {t:Nat}:lk [] t = .any:=rfl
@[simp] theorem AdL {d t:Nat} {x:A} {l:List (Nat × A)}:lk ((d,x)::l) t=if d=t then x else lk l t:=rfl
@[simp] theorem Aep {args:List A} {t:Nat}:NB args t=(args[t]?).getD .any:=rfl
@[simp] theorem Afz {t:Nat}:evs s (.tmp t)=s t:=rfl
@[simp] theorem yp {x:Value}:evs s (.const x)=Fm x:=rfl
@[simp] theorem Abo {g:FuncId}:evs s (.func g) = .fnc g [] []:=rfl
@[simp] theorem AeF {live:List Nat}:Sta.keep ⟨s,H⟩ live=⟨lk (live.map fun k=>(k,s k)),H⟩:=rfl
@[simp] theorem Ae4 {q:IntKind} {n:Int}:Fm (.int q n) = .v (.int q n):=rfl
@[simp] theorem zT {b:Bool}:Fm (.bool b) = .v (.bool b):=rfl
@[simp] theorem wH {b:ByteArray}:Fm (.string b) = .v (.string b):=rfl
@[simp] theorem tJ {b:Option Addr}:Fm (.pointer b) = .v (.pointer b):=rfl
@[simp] theorem Afr:Fm (.slice none 0 0) = .sl true []:=rfl
@[simp] theorem AfZ {cs:Array Value}:Fm (.agg cs) = .agg (cs.toList.map Uj):=rfl
@[simp] theorem Acr {q:IntKind} {n:Int}:Uj (.int q n) = .v (.int q n):=rfl
@[simp] theorem ye {b:Bool}:Uj (.bool b) = .v (.bool b):=rfl
@[simp] theorem te {b:ByteArray}:Uj (.string b) = .v (.string b):=rfl
@[simp] theorem qI {b:Option Addr}:Uj (.pointer b) = .v (.pointer b):=rfl
@[simp] theorem Aam:Uj (.slice none 0 0) = .sl true []:=rfl
@[simp] theorem zL {cs:List A}:(A.agg cs).cells=cs:=rfl
@[simp] theorem AdZ {x:Value}:(A.v x).cells=[.v x]:=rfl
@[simp] theorem AaN {b:Bool} {xs:List A}:(A.sl b xs).cells=[.sl b xs]:=rfl
@[simp] theorem zu {o:Nm} {u z p q:Nat}:(A.osl o u z p q).cells=[.osl o u z p q]:=rfl
@[simp] theorem zI {cs:List A}:(A.pim cs).cells=[.pim cs]:=rfl
@[simp] theorem za {o:Nm} {u p:Nat}:(A.pob o u p).cells=[.pob o u p]:=rfl
@[simp] theorem AbC:A.ones []=true:=rfl
@[simp] theorem zr {a:A} {l:List A}:A.ones (a::l)=(a.one&&A.ones l):=by simp[A.ones]
@[simp] theorem AeJ {q:IntKind} {n:Int}:(A.v (.int q n)).one=true:=rfl
@[simp] theorem AbZ {b:Bool}:(A.v (.bool b)).one=true:=rfl
@[simp] theorem vb {b:ByteArray}:(A.v (.string b)).one=true:=rfl
@[simp] theorem s9 {b:Option Addr}:(A.v (.pointer b)).one=true:=rfl
@[simp] theorem Ahq {b:Bool} {xs:List A}:(A.sl b xs).one=true:=rfl
@[simp] theorem AeL {o:Nm} {u z p q:Nat}:(A.osl o u z p q).one=true:=rfl
@[simp] theorem Aem {cs:List A}:(A.pim cs).one=true:=rfl
@[simp] theorem Aev {o:Nm} {u p:Nat}:(A.pob o u p).one=true:=rfl
@[simp] theorem zd {cs:List A}:(A.pim cs).isPtr=true:=rfl
@[simp] theorem zo {o:Nm} {u p:Nat}:(A.pob o u p).isPtr=true:=rfl
@[simp] theorem yY {o:Nm} {u p q:Nat}:(A.pel o u p q).isPtr=true:=rfl
@[simp] theorem Aez {x:Value}:(A.v x).isPtr=false:=rfl
@[simp] theorem Ad5 {x:Value}:(A.v x).bare1=true:=rfl
@[simp] theorem AbV {b:Bool} {xs:List A}:(A.sl b xs).bare1=true:=rfl
@[simp] theorem y3 {cs:List A}:(A.pim cs).bare1=true:=rfl
@[simp] theorem yX:(A.any).bare1=true:=rfl
@[simp] theorem xZ {o:Nm} {u z p q:Nat}:(A.osl o u z p q).bare1=false:=rfl
@[simp] theorem yk {o:Nm} {u p:Nat}:(A.pob o u p).bare1=false:=rfl
@[simp] theorem Agg {x:Value}:(A.v x).bare=true:=rfl
@[simp] theorem AeV {b:Bool} {xs:List A}:(A.sl b xs).bare=true:=rfl
@[simp] theorem Ab2 {cs:List A}:(A.pim cs).bare=true:=rfl
@[simp] theorem Acs {o:Nm} {u z p q:Nat}:(A.osl o u z p q).bare=false:=rfl
@[simp] theorem zQ {o:Nm} {u p:Nat}:(A.pob o u p).bare=false:=rfl
@[simp] theorem Adn {cs:List A}:(A.agg cs).bare=cs.all A.bare2:=rfl
@[simp] theorem AfH {x:Value}:(A.v x).bare2=true:=rfl
@[simp] theorem zU {b:Bool} {xs:List A}:(A.sl b xs).bare2=true:=rfl
@[simp] theorem zz {cs:List A}:(A.pim cs).bare2=true:=rfl
@[simp] theorem xG:(A.any).bare2=true:=rfl
@[simp] theorem Aar {g:FuncId} {fs cs:List A}:(A.fnc g fs cs).bare=(fs.all A.bare1&&cs.all A.bare1):=rfl
@[simp] theorem y4 {g:FuncId} {fs cs:List A}:(A.fnc g fs cs).bare2=(fs.all A.bare1&&cs.all A.bare1):=rfl
@[simp] theorem yT {g:FuncId} {fs cs:List A}:(A.fnc g fs cs).cells=[.fnc g fs cs]:=rfl
@[simp] theorem Ae0 {g:FuncId} {fs cs:List A}:(A.fnc g fs cs).one=true:=rfl
@[simp] theorem Ag3 {x:Value}:(A.v x).flat=true:=rfl
@[simp] theorem Acm {n:Nat}:Dd n []=true:=rfl
@[simp] theorem xC {n:Nat} {x:A} {l:List A}:Dd n (x::l)=(x.cells.length == n&&Dd n l):=rfl
@[simp] theorem sr {n:Nat} {l l':List A}:Dd n (l++l')=(Dd n l&&Dd n l'):=by simp[Dd]
@[simp] theorem zw {pl:Nat→Option (Nat × Nat)} {cs:List A}:CT pl cs []=some cs:=rfl
@[simp] theorem tS {pl:Nat→Option (Nat × Nat)} {cs:List A} {i:Nat} {x:A} {ps:List (Nat × A)}:CT pl cs ((i,x)::ps)=match pl i with
  |none=>none
  |some (off,size)=>if x.cells.length=size∧off+size≤cs.length∧A.ones x.cells=true then CT pl (splice cs off x.cells) ps else none:=rfl
def FR:List (Nm × VOb)→Hp
 |[],_=>⟨0,.none⟩
 |(k,x)::l,o=>if k=o then x else FR l o
def lR:List (Nm × VOb)→Nm→VOb→List (Nm × VOb)
 |[],d,x=>[(d,x)]
 |(k,y)::l,d,x=>if k=d then (k,x)::l else (k,y)::lR l d x
@[simp] theorem Ahv:H0=FR []:=rfl
@[simp] theorem pW {o:Nm}:FR [] o=⟨0,.none⟩:=rfl
@[simp] theorem Po {k o:Nm} {x:VOb} {l:List (Nm × VOb)}:FR ((k,x)::l) o=if k=o then x else FR l o:=rfl
@[simp] theorem jW {d:Nm} {x:VOb}:lR [] d x=[(d,x)]:=rfl
@[simp] theorem fL {k d:Nm} {x y:VOb} {l:List (Nm × VOb)}:lR ((k,y)::l) d x=if k=d then (k,x)::l else (k,y)::lR l d x:=rfl
@[simp] theorem AaY {l:List (Nm × VOb)} {d:Nm} {x:VOb}:AJ (FR l) d x=FR (lR l d x):=by
 funext o;induction l with
 |nil=>
  simp only[AJ,jW,Po,pW];by_cases h:o=d
  ·subst h;simp
  ·simp[h,Ne.symm h]
 |cons p l ih=>
  obtain⟨k,y⟩:=p;simp only[fL];by_cases hk:k=d
  ·subst hk;simp only[if_pos,Po,AJ];by_cases h:o=k
   ·subst h;simp
   ·simp[h,Ne.symm h]
  ·rw[if_neg hk,Po,← ih];simp only[AJ,Po];by_cases h:o=d
   ·subst h;simp[hk]
   ·simp[h]
@[simp] theorem AbR {o:Nm} {u p:Nat}:refs (.pob o u p)=[(o,false)]:=rfl
@[simp] theorem Aah {o:Nm} {u p q:Nat}:refs (.pel o u p q)=[(o,false)]:=rfl
@[simp] theorem Af1 {o:Nm} {u:Nat}:refs (.mo o u)=[(o,false)]:=rfl
@[simp] theorem zZ {o:Nm} {u z p q:Nat}:refs (.osl o u z p q)=[(o,false)]:=rfl
@[simp] theorem AgL {x:Value}:refs (.v x)=[]:=rfl
@[simp] theorem AeG {f:Bool} {xs:List A}:refs (.sl f xs)=[]:=rfl
@[simp] theorem Ab0 {xs:List A}:refs (.pim xs)=[]:=rfl
@[simp] theorem Adc {xs:List A}:refs (.agg xs)=[]:=rfl
@[simp] theorem AdS {d o:Nm} {u z p q:Nat}:pH d (.osl o u z p q)=[(o,false)]:=rfl
@[simp] theorem AgV {d:Nm} {f:Bool} {xs:List A}:pH d (.sl f xs)=[(d,false)]:=rfl
@[simp] theorem Ah3 {R W R' W':Fp}:nc ⟨R,W⟩ ⟨R',W'⟩=(YF W (R'++W')&&YF W' (R++W)):=rfl
@[simp] theorem AfX {l:Fp}:YF [] l=true:=rfl
@[simp] theorem Adg {p:Nm × Bool} {l m:Fp}:YF (p::l) m=((m.all fun q=>m4 p q)&&YF l m):=rfl
@[simp] theorem Ad3 {p q:Nm} {a b:Bool}:m4 (p,a) (q,b)=match a,b with
 |false,false=>p != q
 |true,false=>!p.isPrefixOf q
 |false,true=>!q.isPrefixOf p
 |true,true=>!p.isPrefixOf q&&!q.isPrefixOf p:=rfl
end
section
variable {P:Program} {K:Sta→Prop} {rest:List CO} {s:Nat→A} {H:Hp} {dd:Option Nat} {k:Nat} {f:Bool} {nm:Nm} {ix:Nat} {un:List Nat} {l:Bool} {lg:Lg}
@[simp] theorem Afy {st:Sta}:An P K [] lg st=K st:=rfl
@[simp] theorem uI {i:Nat} {g:Ft}:A9 false i g lg=lg:=rfl
@[simp] theorem yI {i:Nat} {g:Ft}:A9 true i g lg=(i,g)::lg:=rfl
@[simp] theorem Ahb {g:Ft}:Ck [] lg g=True:=by simp[Ck]
@[simp] theorem Afk {g:Ft}:Ck un [] g=True:=by simp[Ck]
@[simp] theorem AeK {i:Nat} {g h:Ft}:Ck un ((i,g)::lg) h=((i ∈ un→nc g h=true)∧Ck un lg h):=by simp[Ck]
theorem Mg:Ck un lg ⟨[],[]⟩:=fun p _ _=>by simp[nc,H8,JO]
def fg (q:Bool) (g:Ft):Ft:=⟨bif q then g.R else [],bif q then g.W else []⟩
@[simp] theorem AeW {g:Ft}:fg true g=g:=rfl
@[simp] theorem Ac1 {g:Ft}:fg false g=⟨[],[]⟩:=rfl
theorem DB {op:Op} {F:Option A} (hF:∀ x E R W,Xq P nm op (evs s) H x E R W ↔ Ue F x E R W) :
  An P K (⟨dd,op,none,nm,ix,un,l⟩::rest) lg ⟨s,H⟩=Gt F fun x=>An P K rest (A9 l ix ⟨[],[]⟩ lg) (Sta.put ⟨s,H⟩ dd x H):=by
 apply propext;constructor
 ·rintro⟨x,E,⟨R,W⟩,h1,h2,h3⟩;obtain⟨h4,rfl,h5,h6⟩:=(hF x E R W).1 h1;subst h5 h6;exact⟨x,h4,h3⟩
 ·rintro⟨x,h1,h2⟩;exact⟨x,.nil,⟨[],[]⟩,(hF _ _ _ _).2 ⟨h1,rfl,rfl,rfl⟩,Mg,h2⟩
theorem BW {op:Op} {F:Option A} (hF:∀ x E R W,Xq P nm op (evs s) H x E R W ↔ Ue F x E R W) :
  An P K (⟨dd,op,some (k,f),nm,ix,un,l⟩::rest) lg ⟨s,H⟩=Gt (B6 (s k) f) fun q=>Gz q F fun x=>An P K rest (A9 l ix ⟨[],[]⟩ lg) (Sta.put ⟨s,H⟩ dd x H):=by
 apply propext;constructor
 ·rintro⟨x,E,⟨R,W⟩,⟨q,x0,h1,h2,rfl,h4⟩,h5,h6⟩;refine⟨q,h1,x0,fun hq=>((hF _ _ _ _).1 (h2 hq)).1,?_⟩;have:E = .nil∧R=[]∧W=[]:=by
   cases hq:q with
   |true=>exact((hF _ _ _ _).1 (h2 hq)).2
   |false=>exact h4 hq
  obtain⟨rfl,h7,h8⟩:=this;subst h7 h8;exact h6
 ·rintro⟨q,h1,x0,h2,h3⟩;exact⟨_,.nil,⟨[],[]⟩,⟨q,x0,h1,fun hq=>(hF _ _ _ _).2 ⟨h2 hq,rfl,rfl,rfl⟩,rfl,fun _=>⟨rfl,rfl,rfl⟩⟩,Mg,h3⟩
theorem NH {op:Op} {F:Option (A × Eff)} {R W:Fp} (hF:∀ x E R' W',Xq P nm op (evs s) H x E R' W' ↔ F=some (x,E)∧R'=R∧W'=W) :
  An P K (⟨dd,op,none,nm,ix,un,l⟩::rest) lg ⟨s,H⟩=Gt F fun p=>Ck un lg ⟨R,W⟩∧An P K rest (A9 l ix ⟨R,W⟩ lg) (Sta.put ⟨s,H⟩ dd p.1 (p.2.app H)):=by
 apply propext;constructor
 ·rintro⟨x,E,⟨R',W'⟩,h1,h2,h3⟩;obtain⟨h4,h5,h6⟩:=(hF x E R' W').1 h1;subst h5 h6;exact⟨(x,E),h4,h2,h3⟩
 ·rintro⟨⟨x,E⟩,h1,h2,h3⟩;exact⟨x,E,⟨R,W⟩,(hF _ _ _ _).2 ⟨h1,rfl,rfl⟩,h2,h3⟩
theorem Ay {op:Op}:An P K (⟨dd,op,some (k,f),nm,ix,un,l⟩::rest) lg ⟨s,H⟩=Gt (B6 (s k) f) fun q=>Rl q (An P K (⟨dd,op,none,nm,ix,un,l⟩::rest) lg ⟨s,H⟩) (An P K rest (A9 l ix ⟨[],[]⟩ lg) (Sta.put ⟨s,H⟩ dd (.v undef) H)):=by
 apply propext;constructor
 ·rintro⟨x,E,⟨R,W⟩,⟨q,x0,h1,h2,rfl,h4⟩,h5,h6⟩;refine⟨q,h1,fun hq=>⟨x0,E,⟨R,W⟩,h2 hq,h5,?_⟩,fun hq=>?_⟩
  ·subst hq;exact h6
  ·subst hq;obtain⟨rfl,h7,h8⟩:=h4 rfl;subst h7 h8;exact h6
 ·rintro⟨q,h1,h2,h3⟩;cases q with
  |true=>
   obtain⟨x,E,g,h4,h5,h6⟩:=h2 rfl;exact⟨x,E,g,⟨true,x,h1,fun _=>h4,rfl,(fun h=>nomatch h)⟩,h5,h6⟩
  |false=>exact⟨_,.nil,⟨[],[]⟩,⟨false,.any,h1,(fun h=>nomatch h),rfl,fun _=>⟨rfl,rfl,rfl⟩⟩,Mg,h3 rfl⟩
section
variable {a b:Operand} {t:TypeId}
@[simp] theorem Aeb:An P K (⟨dd,.move a,none,nm,ix,un,l⟩::rest) lg ⟨s,H⟩=An P K rest (A9 l ix ⟨[],[]⟩ lg) (Sta.put ⟨s,H⟩ dd (evs s a) H):=by
 rw[DB (F:=some (evs s a)) (fun _ _ _ _=>Iff.rfl)];simp
@[simp] theorem zf:An P K (⟨dd,.assign a,none,nm,ix,un,l⟩::rest) lg ⟨s,H⟩=An P K rest (A9 l ix ⟨[],[]⟩ lg) (Sta.put ⟨s,H⟩ dd (evs s a) H):=by
 rw[DB (F:=some (evs s a)) (fun _ _ _ _=>Iff.rfl)];simp
@[simp] theorem zK:An P K (⟨dd,.move a,some (k,f),nm,ix,un,l⟩::rest) lg ⟨s,H⟩=Gt (B6 (s k) f) fun q=>An P K rest (A9 l ix ⟨[],[]⟩ lg) (Sta.put ⟨s,H⟩ dd (gd q (evs s a)) H):=by
 rw[BW (F:=some (evs s a)) (fun _ _ _ _=>Iff.rfl)];simp
@[simp] theorem Ags {op:BinOp} {u:TypeId}:An P K (⟨dd,.binOp op t a b u,none,nm,ix,un,l⟩::rest) lg ⟨s,H⟩=Gt (if G4 b=true then Ko P op t (evs s a) else It P op t (evs s a) (evs s b)) fun x=>An P K rest (A9 l ix ⟨[],[]⟩ lg) (Sta.put ⟨s,H⟩ dd x H):=DB fun _ _ _ _=>Iff.rfl
@[simp] theorem Acz {op:BinOp} {u:TypeId}:An P K (⟨dd,.binOp op t a b u,some (k,f),nm,ix,un,l⟩::rest) lg ⟨s,H⟩=Gt (B6 (s k) f) fun q=>Gz q (if G4 b=true then Ko P op t (evs s a) else It P op t (evs s a) (evs s b)) fun x=>An P K rest (A9 l ix ⟨[],[]⟩ lg) (Sta.put ⟨s,H⟩ dd x H):=BW fun _ _ _ _=>Iff.rfl
@[simp] theorem Aib {op:UnOp}:An P K (⟨dd,.unOp op t a,none,nm,ix,un,l⟩::rest) lg ⟨s,H⟩=Gt (rB op (evs s a)) fun x=>An P K rest (A9 l ix ⟨[],[]⟩ lg) (Sta.put ⟨s,H⟩ dd x H):=DB fun _ _ _ _=>Iff.rfl
@[simp] theorem AdU {op:UnOp}:An P K (⟨dd,.unOp op t a,some (k,f),nm,ix,un,l⟩::rest) lg ⟨s,H⟩=Gt (B6 (s k) f) fun q=>Gz q (rB op (evs s a)) fun x=>An P K rest (A9 l ix ⟨[],[]⟩ lg) (Sta.put ⟨s,H⟩ dd x H):=BW fun _ _ _ _=>Iff.rfl
@[simp] theorem AfT {u:TypeId}:An P K (⟨dd,.convert t u a,none,nm,ix,un,l⟩::rest) lg ⟨s,H⟩=Gt (J0 P t u (evs s a)) fun x=>An P K rest (A9 l ix ⟨[],[]⟩ lg) (Sta.put ⟨s,H⟩ dd x H):=DB fun _ _ _ _=>Iff.rfl
@[simp] theorem yA {u:TypeId}:An P K (⟨dd,.convert t u a,some (k,f),nm,ix,un,l⟩::rest) lg ⟨s,H⟩=Gt (B6 (s k) f) fun q=>Gz q (J0 P t u (evs s a)) fun x=>An P K rest (A9 l ix ⟨[],[]⟩ lg) (Sta.put ⟨s,H⟩ dd x H):=BW fun _ _ _ _=>Iff.rfl
@[simp] theorem pS {i:Nat}:An P K (⟨dd,.fieldAddr t a i,none,nm,ix,un,l⟩::rest) lg ⟨s,H⟩=Gt (E7 P t (evs s a) i) fun x=>An P K rest (A9 l ix ⟨[],[]⟩ lg) (Sta.put ⟨s,H⟩ dd x H):=DB fun _ _ _ _=>Iff.rfl
@[simp] theorem mT {i:Nat}:An P K (⟨dd,.fieldAddr t a i,some (k,f),nm,ix,un,l⟩::rest) lg ⟨s,H⟩=Gt (B6 (s k) f) fun q=>Gz q (E7 P t (evs s a) i) fun x=>An P K rest (A9 l ix ⟨[],[]⟩ lg) (Sta.put ⟨s,H⟩ dd x H):=BW fun _ _ _ _=>Iff.rfl
@[simp] theorem AbL {i:Nat}:An P K (⟨dd,.field t a i,none,nm,ix,un,l⟩::rest) lg ⟨s,H⟩=Gt (Oa P t (evs s a) i) fun x=>An P K rest (A9 l ix ⟨[],[]⟩ lg) (Sta.put ⟨s,H⟩ dd x H):=DB fun _ _ _ _=>Iff.rfl
@[simp] theorem tW {i:Nat}:An P K (⟨dd,.field t a i,some (k,f),nm,ix,un,l⟩::rest) lg ⟨s,H⟩=Gt (B6 (s k) f) fun q=>Gz q (Oa P t (evs s a) i) fun x=>An P K rest (A9 l ix ⟨[],[]⟩ lg) (Sta.put ⟨s,H⟩ dd x H):=BW fun _ _ _ _=>Iff.rfl
@[simp] theorem rU  : An P K (⟨dd,.indexAddr t a b,none,nm,ix,un,l⟩::rest) lg ⟨s,H⟩=Gt (Bn P t (evs s a) (evs s b)) fun x=>An P K rest (A9 l ix ⟨[],[]⟩ lg) (Sta.put ⟨s,H⟩ dd x H):=DB fun _ _ _ _=>Iff.rfl
@[simp] theorem mD  : An P K (⟨dd,.indexAddr t a b,some (k,f),nm,ix,un,l⟩::rest) lg ⟨s,H⟩=Gt (B6 (s k) f) fun q=>Gz q (Bn P t (evs s a) (evs s b)) fun x=>An P K rest (A9 l ix ⟨[],[]⟩ lg) (Sta.put ⟨s,H⟩ dd x H):=BW fun _ _ _ _=>Iff.rfl
@[simp] theorem Abe  : An P K (⟨dd,.index t a b,none,nm,ix,un,l⟩::rest) lg ⟨s,H⟩=Gt (Ki P t (evs s a) (evs s b)) fun x=>An P K rest (A9 l ix ⟨[],[]⟩ lg) (Sta.put ⟨s,H⟩ dd x H):=DB fun _ _ _ _=>Iff.rfl
@[simp] theorem vy  : An P K (⟨dd,.index t a b,some (k,f),nm,ix,un,l⟩::rest) lg ⟨s,H⟩=Gt (B6 (s k) f) fun q=>Gz q (Ki P t (evs s a) (evs s b)) fun x=>An P K rest (A9 l ix ⟨[],[]⟩ lg) (Sta.put ⟨s,H⟩ dd x H):=BW fun _ _ _ _=>Iff.rfl
@[simp] theorem vO {i:Nat}:An P K (⟨dd,.extract a i,none,nm,ix,un,l⟩::rest) lg ⟨s,H⟩=Gt (Hu (evs s a) i) fun x=>An P K rest (A9 l ix ⟨[],[]⟩ lg) (Sta.put ⟨s,H⟩ dd x H):=DB fun _ _ _ _=>Iff.rfl
@[simp] theorem qO {i:Nat}:An P K (⟨dd,.extract a i,some (k,f),nm,ix,un,l⟩::rest) lg ⟨s,H⟩=Gt (B6 (s k) f) fun q=>Gz q (Hu (evs s a) i) fun x=>An P K rest (A9 l ix ⟨[],[]⟩ lg) (Sta.put ⟨s,H⟩ dd x H):=BW fun _ _ _ _=>Iff.rfl
@[simp] theorem Acq {ps:Array (Nat × Operand)}:An P K (⟨dd,.build t ps,none,nm,ix,un,l⟩::rest) lg ⟨s,H⟩=Gt (Ch P t (ps.toList.map fun p=>(p.1,evs s p.2))) fun x=>An P K rest (A9 l ix ⟨[],[]⟩ lg) (Sta.put ⟨s,H⟩ dd x H):=DB fun _ _ _ _=>Iff.rfl
@[simp] theorem wN {ps:Array (Nat × Operand)}:An P K (⟨dd,.build t ps,some (k,f),nm,ix,un,l⟩::rest) lg ⟨s,H⟩=Gt (B6 (s k) f) fun q=>GB P q t [] (ps.toList.map fun p=>(p.1,evs s p.2)) fun x=>An P K rest (A9 l ix ⟨[],[]⟩ lg) (Sta.put ⟨s,H⟩ dd x H):=BW fun _ _ _ _=>Iff.rfl
@[simp] theorem pc {n:Nat} {ps:Array (Nat × Operand)}:An P K (⟨dd,.buildSlice t n ps,none,[],ix,un,l⟩::rest) lg ⟨s,H⟩=Gt (E5 P t n (ps.toList.map fun p=>(p.1,evs s p.2))) fun x=>An P K rest (A9 l ix ⟨[],[]⟩ lg) (Sta.put ⟨s,H⟩ dd x H):=DB fun _ _ _ _=>Iff.rfl
@[simp] theorem iY {n:Nat} {ps:Array (Nat × Operand)}:An P K (⟨dd,.buildSlice t n ps,some (k,f),[],ix,un,l⟩::rest) lg ⟨s,H⟩=Gt (B6 (s k) f) fun q=>Gz q (E5 P t n (ps.toList.map fun p=>(p.1,evs s p.2))) fun x=>An P K rest (A9 l ix ⟨[],[]⟩ lg) (Sta.put ⟨s,H⟩ dd x H):=BW fun _ _ _ _=>Iff.rfl
@[simp] theorem Aad {lo hi mx:Option Operand}:An P K (⟨dd,.slice t a lo hi mx,none,nm,ix,un,l⟩::rest) lg ⟨s,H⟩=Gt (G5 P t (evs s a) (lo.map (evs s)) (hi.map (evs s)) (mx.map (evs s))) fun x=>An P K rest (A9 l ix ⟨[],[]⟩ lg) (Sta.put ⟨s,H⟩ dd x H):=DB fun _ _ _ _=>Iff.rfl
@[simp] theorem ug {lo hi mx:Option Operand}:An P K (⟨dd,.slice t a lo hi mx,some (k,f),nm,ix,un,l⟩::rest) lg ⟨s,H⟩=Gt (B6 (s k) f) fun q=>Gz q (G5 P t (evs s a) (lo.map (evs s)) (hi.map (evs s)) (mx.map (evs s))) fun x=>An P K rest (A9 l ix ⟨[],[]⟩ lg) (Sta.put ⟨s,H⟩ dd x H):=BW fun _ _ _ _=>Iff.rfl
@[simp] theorem tG  : An P K (⟨dd,.nilCheck a,none,nm,ix,un,l⟩::rest) lg ⟨s,H⟩=Gt (kJ (evs s a)) fun x=>An P K rest (A9 l ix ⟨[],[]⟩ lg) (Sta.put ⟨s,H⟩ dd x H):=DB fun _ _ _ _=>Iff.rfl
@[simp] theorem oT  : An P K (⟨dd,.nilCheck a,some (k,f),nm,ix,un,l⟩::rest) lg ⟨s,H⟩=Gt (B6 (s k) f) fun q=>Gz q (kJ (evs s a)) fun x=>An P K rest (A9 l ix ⟨[],[]⟩ lg) (Sta.put ⟨s,H⟩ dd x H):=BW fun _ _ _ _=>Iff.rfl
@[simp] theorem AdC {c:Operand}:An P K (⟨dd,.pick c a b,none,nm,ix,un,l⟩::rest) lg ⟨s,H⟩=Gt (YI (evs s c) (evs s a) (evs s b)) fun x=>An P K rest (A9 l ix ⟨[],[]⟩ lg) (Sta.put ⟨s,H⟩ dd x H):=DB fun _ _ _ _=>Iff.rfl
@[simp] theorem zH {c:Operand}:An P K (⟨dd,.pick c a b,some (k,f),nm,ix,un,l⟩::rest) lg ⟨s,H⟩=Gt (B6 (s k) f) fun q=>Gz q (YI (evs s c) (evs s a) (evs s b)) fun x=>An P K rest (A9 l ix ⟨[],[]⟩ lg) (Sta.put ⟨s,H⟩ dd x H):=BW fun _ _ _ _=>Iff.rfl
@[simp] theorem sU {g:FuncId} {fs cs:Array Operand}:An P K (⟨dd,.makeFunc (.func g) fs cs,none,nm,ix,un,l⟩::rest) lg ⟨s,H⟩=Gt (some (A.fnc g (fs.toList.map (evs s)) (cs.toList.map (evs s)))) fun x=>An P K rest (A9 l ix ⟨[],[]⟩ lg) (Sta.put ⟨s,H⟩ dd x H):=DB fun _ _ _ _=>Iff.rfl
@[simp] theorem pd {g:FuncId} {fs cs:Array Operand}:An P K (⟨dd,.makeFunc (.func g) fs cs,some (k,f),nm,ix,un,l⟩::rest) lg ⟨s,H⟩=Gt (B6 (s k) f) fun q=>Gz q (some (A.fnc g (fs.toList.map (evs s)) (cs.toList.map (evs s)))) fun x=>An P K rest (A9 l ix ⟨[],[]⟩ lg) (Sta.put ⟨s,H⟩ dd x H):=BW fun _ _ _ _=>Iff.rfl
@[simp] theorem gw  : An P K (⟨dd,.makeInterface t a,none,nm,ix,un,l⟩::rest) lg ⟨s,H⟩=Gt (Yi P t (evs s a)) fun x=>An P K rest (A9 l ix ⟨[],[]⟩ lg) (Sta.put ⟨s,H⟩ dd x H):=DB fun _ _ _ _=>Iff.rfl
@[simp] theorem cb  : An P K (⟨dd,.makeInterface t a,some (k,f),nm,ix,un,l⟩::rest) lg ⟨s,H⟩=Gt (B6 (s k) f) fun q=>Gz q (Yi P t (evs s a)) fun x=>An P K rest (A9 l ix ⟨[],[]⟩ lg) (Sta.put ⟨s,H⟩ dd x H):=BW fun _ _ _ _=>Iff.rfl
@[simp] theorem pe {u:TypeId} {ok:Bool}:An P K (⟨dd,.typeAssert a t u ok,none,nm,ix,un,l⟩::rest) lg ⟨s,H⟩=Gt (Ky P u ok (evs s a)) fun x=>An P K rest (A9 l ix ⟨[],[]⟩ lg) (Sta.put ⟨s,H⟩ dd x H):=DB fun _ _ _ _=>Iff.rfl
@[simp] theorem je {u:TypeId} {ok:Bool}:An P K (⟨dd,.typeAssert a t u ok,some (k,f),nm,ix,un,l⟩::rest) lg ⟨s,H⟩=Gt (B6 (s k) f) fun q=>Gz q (Ky P u ok (evs s a)) fun x=>An P K rest (A9 l ix ⟨[],[]⟩ lg) (Sta.put ⟨s,H⟩ dd x H):=BW fun _ _ _ _=>Iff.rfl
@[simp] theorem Agb {as':Array Operand} {ts:Array TypeId}:An P K (⟨dd,.call { callee:=.builtin .min,args:=as',argTypes:=ts },none,nm,ix,un,l⟩::rest) lg ⟨s,H⟩=Gt (EA false (as'.toList.map (evs s))) fun x=>An P K rest (A9 l ix ⟨[],[]⟩ lg) (Sta.put ⟨s,H⟩ dd x H):=DB fun _ _ _ _=>Iff.rfl
@[simp] theorem AcH {as':Array Operand} {ts:Array TypeId}:An P K (⟨dd,.call { callee:=.builtin .min,args:=as',argTypes:=ts },some (k,f),nm,ix,un,l⟩::rest) lg ⟨s,H⟩=Gt (B6 (s k) f) fun q=>Gz q (EA false (as'.toList.map (evs s))) fun x=>An P K rest (A9 l ix ⟨[],[]⟩ lg) (Sta.put ⟨s,H⟩ dd x H):=BW fun _ _ _ _=>Iff.rfl
@[simp] theorem Aha {as':Array Operand} {ts:Array TypeId}:An P K (⟨dd,.call { callee:=.builtin .max,args:=as',argTypes:=ts },none,nm,ix,un,l⟩::rest) lg ⟨s,H⟩=Gt (EA true (as'.toList.map (evs s))) fun x=>An P K rest (A9 l ix ⟨[],[]⟩ lg) (Sta.put ⟨s,H⟩ dd x H):=DB fun _ _ _ _=>Iff.rfl
@[simp] theorem AcY {as':Array Operand} {ts:Array TypeId}:An P K (⟨dd,.call { callee:=.builtin .max,args:=as',argTypes:=ts },some (k,f),nm,ix,un,l⟩::rest) lg ⟨s,H⟩=Gt (B6 (s k) f) fun q=>Gz q (EA true (as'.toList.map (evs s))) fun x=>An P K rest (A9 l ix ⟨[],[]⟩ lg) (Sta.put ⟨s,H⟩ dd x H):=BW fun _ _ _ _=>Iff.rfl
@[simp] theorem AgG:An P K (⟨dd,.call { callee:=.builtin .len,args:=#[a],argTypes:=#[t] },none,nm,ix,un,l⟩::rest) lg ⟨s,H⟩=Gt (Li P t (evs s a)) fun x=>An P K rest (A9 l ix ⟨[],[]⟩ lg) (Sta.put ⟨s,H⟩ dd x H):=DB fun x E R W=>by
  constructor
  ·rintro⟨a',t',h1,h2,h3⟩;cases h1;cases h2;exact h3
  ·intro h;exact⟨a,t,rfl,rfl,h⟩
@[simp] theorem AbD:An P K (⟨dd,.call { callee:=.builtin .len,args:=#[a],argTypes:=#[t] },some (k,f),nm,ix,un,l⟩::rest) lg ⟨s,H⟩=Gt (B6 (s k) f) fun q=>Gz q (Li P t (evs s a)) fun x=>An P K rest (A9 l ix ⟨[],[]⟩ lg) (Sta.put ⟨s,H⟩ dd x H):=BW fun x E R W=>by
  constructor
  ·rintro⟨a',t',h1,h2,h3⟩;cases h1;cases h2;exact h3
  ·intro h;exact⟨a,t,rfl,rfl,h⟩
@[simp] theorem AfQ:An P K (⟨dd,.load t a,none,nm,ix,un,l⟩::rest) lg ⟨s,H⟩=Gt (FC P H t (evs s a)) fun x=>Ck un lg ⟨refs (evs s a),[]⟩∧An P K rest (A9 l ix ⟨refs (evs s a),[]⟩ lg) (Sta.put ⟨s,H⟩ dd x H):=by
 apply propext;constructor
 ·rintro⟨x,E,⟨R,W⟩,⟨h1,rfl,h2,h3⟩,h4,h5⟩;simp only at h2 h3;subst h2 h3;exact⟨x,h1,h4,h5⟩
 ·rintro⟨x,h1,h4,h5⟩;exact⟨x,.nil,⟨_,_⟩,⟨h1,rfl,rfl,rfl⟩,h4,h5⟩
@[simp] theorem zD:An P K (⟨dd,.load t a,some (k,f),nm,ix,un,l⟩::rest) lg ⟨s,H⟩=Gt (B6 (s k) f) fun q=>Gz q (FC P H t (evs s a)) fun x=>Ck un lg (fg q ⟨refs (evs s a),[]⟩)∧An P K rest (A9 l ix (fg q ⟨refs (evs s a),[]⟩) lg) (Sta.put ⟨s,H⟩ dd x H):=by
 apply propext;constructor
 ·rintro⟨x,E,⟨R,W⟩,⟨q,x0,h1,h2,rfl,h4⟩,h5,h6⟩;refine⟨q,h1,x0,fun hq=>(h2 hq).1,?_⟩;have:E = .nil∧(⟨R,W⟩:Ft)=fg q ⟨refs (evs s a),[]⟩:=by
   cases hq:q with
   |true=>
    obtain⟨_,e1,e2,e3⟩:=h2 hq;simp only at e2 e3;exact⟨e1,by rw[e2,e3];rfl⟩
   |false=>
    obtain⟨e1,e2,e3⟩:=h4 hq;simp only at e2 e3;exact⟨e1,by rw[e2,e3];rfl⟩
  obtain⟨rfl,e⟩:=this;rw[e] at h5 h6;exact⟨h5,h6⟩
 ·rintro⟨q,h1,x0,h2,h5,h6⟩;refine⟨_,.nil,fg q ⟨refs (evs s a),[]⟩,⟨q,x0,h1,fun hq=>⟨h2 hq,rfl,?_,?_⟩,rfl,fun hq=>⟨rfl,?_,?_⟩⟩,h5,h6⟩<;>subst hq<;>rfl
@[simp] theorem uJ:An P K (⟨dd,.makeMap t none,none,nm,ix,un,l⟩::rest) lg ⟨s,H⟩=Gt (IY H nm) fun p=>Ck un lg ⟨[],[(nm,false)]⟩∧An P K rest (A9 l ix ⟨[],[(nm,false)]⟩ lg) (Sta.put ⟨s,H⟩ dd p.1 (p.2.app H)):=NH fun _ _ _ _=>Iff.rfl
@[simp] theorem pP {m k' v:Operand}:An P K (⟨dd,.mapUpdate t m k' v,none,nm,ix,un,l⟩::rest) lg ⟨s,H⟩=Gt (Ht P H t (evs s m) (evs s k') (evs s v)) fun E=>Ck un lg ⟨[],refs (evs s m)⟩∧An P K rest (A9 l ix ⟨[],refs (evs s m)⟩ lg) (Sta.put ⟨s,H⟩ dd .any (E.app H)):=by
 apply propext;constructor
 ·rintro⟨x,E,⟨R,W⟩,⟨h1,rfl,h2,h3⟩,h4,h5⟩;simp only at h2 h3;subst h2 h3;exact⟨E,h1,h4,h5⟩
 ·rintro⟨E,h1,h4,h5⟩;exact⟨_,E,⟨_,_⟩,⟨h1,rfl,rfl,rfl⟩,h4,h5⟩
@[simp] theorem yW {m k':Operand} {ok:Bool}:An P K (⟨dd,.lookup t m k' ok,none,nm,ix,un,l⟩::rest) lg ⟨s,H⟩=Gt (Jf P H t (evs s m) (evs s k') ok) fun x=>Ck un lg ⟨refs (evs s m),[]⟩∧An P K rest (A9 l ix ⟨refs (evs s m),[]⟩ lg) (Sta.put ⟨s,H⟩ dd x H):=by
 apply propext;constructor
 ·rintro⟨x,E,⟨R,W⟩,⟨h1,rfl,h2,h3⟩,h4,h5⟩;simp only at h2 h3;subst h2 h3;exact⟨x,h1,h4,h5⟩
 ·rintro⟨x,h1,h4,h5⟩;exact⟨x,.nil,⟨_,_⟩,⟨h1,rfl,rfl,rfl⟩,h4,h5⟩
@[simp] theorem Abi:An P K (⟨dd,.alloc t,none,nm,ix,un,l⟩::rest) lg ⟨s,H⟩=Gt (N6 P H nm t) fun p=>Ck un lg ⟨[],[(nm,false)]⟩∧An P K rest (A9 l ix ⟨[],[(nm,false)]⟩ lg) (Sta.put ⟨s,H⟩ dd p.1 (p.2.app H)):=NH fun _ _ _ _=>Iff.rfl
@[simp] theorem Ahf:An P K (⟨dd,.box t a,none,nm,ix,un,l⟩::rest) lg ⟨s,H⟩=Gt (ao H nm t (evs s a)) fun p=>Ck un lg ⟨[],[(nm,false)]⟩∧An P K rest (A9 l ix ⟨[],[(nm,false)]⟩ lg) (Sta.put ⟨s,H⟩ dd p.1 (p.2.app H)):=NH fun _ _ _ _=>Iff.rfl
@[simp] theorem oz {n a':Nat} {d':Nm} {ps:Array (Nat × Operand)}:An P K (⟨dd,.buildSlice t n ps,none,a'::d',ix,un,l⟩::rest) lg ⟨s,H⟩=Gt (DT P H (a'::d') t n (ps.toList.map fun p=>(p.1,evs s p.2))) fun p=>Ck un lg ⟨[],[(a'::d',false)]⟩∧An P K rest (A9 l ix ⟨[],[(a'::d',false)]⟩ lg) (Sta.put ⟨s,H⟩ dd p.1 (p.2.app H)):=NH fun _ _ _ _=>Iff.rfl
@[simp] theorem pA:An P K (⟨dd,.makeSlice t a b,none,nm,ix,un,l⟩::rest) lg ⟨s,H⟩=Gt (E6 P H nm t (evs s a) (evs s b)) fun p=>Ck un lg ⟨[],[(nm,false)]⟩∧An P K rest (A9 l ix ⟨[],[(nm,false)]⟩ lg) (Sta.put ⟨s,H⟩ dd p.1 (p.2.app H)):=NH fun _ _ _ _=>Iff.rfl
@[simp] theorem z7:An P K (⟨dd,.store t a b,none,nm,ix,un,l⟩::rest) lg ⟨s,H⟩=Gt (GY P H t (evs s a) (evs s b)) fun E=>Ck un lg ⟨[],refs (evs s a)⟩∧An P K rest (A9 l ix ⟨[],refs (evs s a)⟩ lg) (Sta.put ⟨s,H⟩ dd .any (E.app H)):=by
 apply propext;constructor
 ·rintro⟨x,E,⟨R,W⟩,⟨h1,rfl,h2,h3⟩,h4,h5⟩;simp only at h2 h3;subst h2 h3;exact⟨E,h1,h4,h5⟩
 ·rintro⟨E,h1,h4,h5⟩;exact⟨_,E,⟨_,_⟩,⟨h1,rfl,rfl,rfl⟩,h4,h5⟩
@[simp] theorem yE {u:TypeId}:An P K (⟨dd,.call { callee:=.builtin .append,args:=#[a,b],argTypes:=#[t,u] },none,nm,ix,un,l⟩::rest) lg ⟨s,H⟩=Gt (DZ P H nm t u (evs s a) (evs s b)) fun p=>Ck un lg ⟨refs (evs s b),pH nm (evs s a)⟩∧An P K rest (A9 l ix ⟨refs (evs s b),pH nm (evs s a)⟩ lg) (Sta.put ⟨s,H⟩ dd p.1 (p.2.app H)):=
 NH fun x E R W=>by
  constructor
  ·rintro⟨a',b',t',u',h1,h2,h3,h4,h5⟩;cases h1;cases h2;exact⟨h3,h4,h5⟩
  ·rintro⟨h3,h4,h5⟩;exact⟨a,b,t,u,rfl,rfl,h3,h4,h5⟩
@[simp] theorem AdW {u:TypeId}:An P K (⟨dd,.call { callee:=.builtin .copy,args:=#[a,b],argTypes:=#[t,u] },none,nm,ix,un,l⟩::rest) lg ⟨s,H⟩=Gt (LU P H t (evs s a) (evs s b)) fun p=>Ck un lg ⟨refs (evs s b),refs (evs s a)⟩∧An P K rest (A9 l ix ⟨refs (evs s b),refs (evs s a)⟩ lg) (Sta.put ⟨s,H⟩ dd p.1 (p.2.app H)):=
 NH fun x E R W=>by
  constructor
  ·rintro⟨a',b',t',u',h1,h2,h3,h4,h5⟩;cases h1;cases h2;exact⟨h3,h4,h5⟩
  ·rintro⟨h3,h4,h5⟩;exact⟨a,b,t,u,rfl,rfl,h3,h4,h5⟩
@[simp] theorem u9:An P K (⟨dd,.alloc t,some (k,f),nm,ix,un,l⟩::rest) lg ⟨s,H⟩=Gt (B6 (s k) f) fun q=>Rl q (An P K (⟨dd,.alloc t,none,nm,ix,un,l⟩::rest) lg ⟨s,H⟩) (An P K rest (A9 l ix ⟨[],[]⟩ lg) (Sta.put ⟨s,H⟩ dd (.v undef) H)):=Ay
@[simp] theorem AcC:An P K (⟨dd,.box t a,some (k,f),nm,ix,un,l⟩::rest) lg ⟨s,H⟩=Gt (B6 (s k) f) fun q=>Rl q (An P K (⟨dd,.box t a,none,nm,ix,un,l⟩::rest) lg ⟨s,H⟩) (An P K rest (A9 l ix ⟨[],[]⟩ lg) (Sta.put ⟨s,H⟩ dd (.v undef) H)):=Ay
@[simp] theorem iw {n a':Nat} {d':Nm} {ps:Array (Nat × Operand)}:An P K (⟨dd,.buildSlice t n ps,some (k,f),a'::d',ix,un,l⟩::rest) lg ⟨s,H⟩=Gt (B6 (s k) f) fun q=>Rl q (An P K (⟨dd,.buildSlice t n ps,none,a'::d',ix,un,l⟩::rest) lg ⟨s,H⟩) (An P K rest (A9 l ix ⟨[],[]⟩ lg) (Sta.put ⟨s,H⟩ dd (.v undef) H)):=Ay
@[simp] theorem nr:An P K (⟨dd,.makeSlice t a b,some (k,f),nm,ix,un,l⟩::rest) lg ⟨s,H⟩=Gt (B6 (s k) f) fun q=>Rl q (An P K (⟨dd,.makeSlice t a b,none,nm,ix,un,l⟩::rest) lg ⟨s,H⟩) (An P K rest (A9 l ix ⟨[],[]⟩ lg) (Sta.put ⟨s,H⟩ dd (.v undef) H)):=Ay
@[simp] theorem uN:An P K (⟨dd,.store t a b,some (k,f),nm,ix,un,l⟩::rest) lg ⟨s,H⟩=Gt (B6 (s k) f) fun q=>Rl q (An P K (⟨dd,.store t a b,none,nm,ix,un,l⟩::rest) lg ⟨s,H⟩) (An P K rest (A9 l ix ⟨[],[]⟩ lg) (Sta.put ⟨s,H⟩ dd (.v undef) H)):=Ay
@[simp] theorem sw {u:TypeId}:An P K (⟨dd,.call { callee:=.builtin .append,args:=#[a,b],argTypes:=#[t,u] },some (k,f),nm,ix,un,l⟩::rest) lg ⟨s,H⟩=Gt (B6 (s k) f) fun q=>Rl q (An P K (⟨dd,.call { callee:=.builtin .append,args:=#[a,b],argTypes:=#[t,u] },none,nm,ix,un,l⟩::rest) lg ⟨s,H⟩) (An P K rest (A9 l ix ⟨[],[]⟩ lg) (Sta.put ⟨s,H⟩ dd (.v undef) H)):=Ay
@[simp] theorem yg {u:TypeId}:An P K (⟨dd,.call { callee:=.builtin .copy,args:=#[a,b],argTypes:=#[t,u] },some (k,f),nm,ix,un,l⟩::rest) lg ⟨s,H⟩=Gt (B6 (s k) f) fun q=>Rl q (An P K (⟨dd,.call { callee:=.builtin .copy,args:=#[a,b],argTypes:=#[t,u] },none,nm,ix,un,l⟩::rest) lg ⟨s,H⟩) (An P K rest (A9 l ix ⟨[],[]⟩ lg) (Sta.put ⟨s,H⟩ dd (.v undef) H)):=Ay
theorem Af {g:FuncId} {as':Array Operand} {ts:Array TypeId} {x:A} (hs:Spec P g (as'.toList.map (evs s)) x) (hb:(as'.toList.map (evs s)).all A.bare=true) (h:An P K rest (A9 l ix ⟨[],[]⟩ lg) (Sta.put ⟨s,H⟩ dd x H)) :
  An P K (⟨dd,.call { callee:=.value (.func g),args:=as',argTypes:=ts },none,nm,ix,un,l⟩::rest) lg ⟨s,H⟩:=
 ⟨x,.nil,⟨[],[]⟩,⟨g,[],[],rfl,.inl ⟨by simpa using hb,by simpa using hs,rfl,rfl,rfl⟩⟩,Mg,h⟩
theorem LI {o:Operand} {g:FuncId} {fs caps:List A} {as':Array Operand} {ts:Array TypeId} {x:A} (ho:evs s o = .fnc g fs caps) (hs:Spec P g (fs++(as'.toList.map (evs s)++caps)) x) (hb:(fs++(as'.toList.map (evs s)++caps)).all A.bare=true) (h:An P K rest (A9 l ix ⟨[],[]⟩ lg) (Sta.put ⟨s,H⟩ dd x H)) :
  An P K (⟨dd,.call { callee:=.value o,args:=as',argTypes:=ts },none,nm,ix,un,l⟩::rest) lg ⟨s,H⟩:=
 ⟨x,.nil,⟨[],[]⟩,⟨g,fs,caps,ho,.inl ⟨hb,hs,rfl,rfl,rfl⟩⟩,Mg,h⟩
theorem ZV {g:FuncId} {as':Array Operand} {ts:Array TypeId} {x:A} (as'':List A) (hs:SpecB P g as'' x) (hf:Hy H (as'.toList.map (evs s)) as'') (hc:Ck un lg ⟨[([],true)],[]⟩) (h:An P K rest (A9 l ix ⟨[([],true)],[]⟩ lg) (Sta.put ⟨s,H⟩ dd x H)) :
  An P K (⟨dd,.call { callee:=.value (.func g),args:=as',argTypes:=ts },none,nm,ix,un,l⟩::rest) lg ⟨s,H⟩:=
 ⟨x,.nil,⟨_,_⟩,⟨g,[],[],rfl,.inr (.inl ⟨⟨as'',by simpa using hf,hs⟩,rfl,rfl,rfl⟩)⟩,hc,h⟩
theorem ZP {g:FuncId} {as':Array Operand} {ts:Array TypeId} {x:A} (E:Eff) (R W:Fp) (hs:∀ H2,Agree (R++W) H H2→Qj P H2 g (as'.toList.map (evs s)) x E) (hw:Ot E W) (hc:Ck un lg ⟨R,W⟩) (h:An P K rest (A9 l ix ⟨R,W⟩ lg) (Sta.put ⟨s,H⟩ dd x (E.app H))) :
  An P K (⟨dd,.call { callee:=.value (.func g),args:=as',argTypes:=ts },none,nm,ix,un,l⟩::rest) lg ⟨s,H⟩:=
 ⟨x,E,⟨R,W⟩,⟨g,[],[],rfl,.inr (.inr ⟨by simpa using hs,hw⟩)⟩,hc,h⟩
theorem P8 {g:FuncId} {as':Array Operand} {ts:Array TypeId} {x:A} {q:Bool} (hq:B6 (s k) f=some q) (hs:q=true→Spec P g (as'.toList.map (evs s)) x∧(as'.toList.map (evs s)).all A.bare=true)
  (h:An P K rest (A9 l ix ⟨[],[]⟩ lg) (Sta.put ⟨s,H⟩ dd (gd q x) H)) :
  An P K (⟨dd,.call { callee:=.value (.func g),args:=as',argTypes:=ts },some (k,f),nm,ix,un,l⟩::rest) lg ⟨s,H⟩:=
 ⟨_,.nil,⟨[],[]⟩,⟨q,x,hq,fun e=>⟨g,[],[],rfl,.inl ⟨by simpa using (hs e).2,by simpa using (hs e).1,rfl,rfl,rfl⟩⟩,rfl,fun _=>⟨rfl,rfl,rfl⟩⟩,Mg,h⟩
end
end
section
variable {P:Program} {K:Sta→Prop} {rest:List CO} {s:Nat→A} {H:Hp} {dd:Option Nat} {k:Nat} {g:FuncId} {as':Array Operand} {ts:Array TypeId} {x:A} {q:Bool} {L:List A} {nm:Nm} {ix:Nat} {un:List Nat} {l:Bool} {lg:Lg}
theorem Dy (hq:s k = .v (.bool q)) (hs:q=true→Spec P g L x) (hL:q=true→as'.toList.map (evs s)=L) (hb:L.all A.bare=true)
  (h:An P K rest (A9 l ix ⟨[],[]⟩ lg) (Sta.put ⟨s,H⟩ dd (gd q x) H)) :
  An P K (⟨dd,.call { callee:=.value (.func g),args:=as',argTypes:=ts },some (k,true),nm,ix,un,l⟩::rest) lg ⟨s,H⟩:=
 P8 (q:=q) (by rw[hq];cases q<;>rfl) (fun e=>by rw[hL e];exact⟨hs e,hb⟩) h
theorem FQ (hq:s k = .v (.bool q)) (hs:q=false→Spec P g L x) (hL:q=false→as'.toList.map (evs s)=L) (hb:L.all A.bare=true)
  (h:An P K rest (A9 l ix ⟨[],[]⟩ lg) (Sta.put ⟨s,H⟩ dd (gd (ng q) x) H)) :
  An P K (⟨dd,.call { callee:=.value (.func g),args:=as',argTypes:=ts },some (k,false),nm,ix,un,l⟩::rest) lg ⟨s,H⟩:=
 P8 (q:=ng q) (by rw[hq];cases q<;>rfl) (fun e=>by have e:q=false:=(by simpa using e);rw[hL e];exact⟨hs e,hb⟩) h
end
@[simp] theorem Acj {q r t:Bool}:(bif q then A.v (.bool r) else A.v (.bool t))=A.v (.bool (bif q then r else t)):=by cases q<;>rfl
theorem Ad {H:Hp} {a:A} (h:a.bare=true):IZ H a a:=fun c w I μ v hs hr=>(hr.of_bare h).mono0 (fun b hb=>.inl hb) (fun _ _=>rfl)
theorem pV {w:World} {I:Nat→Prop} {μ:Mu} {f:Bool} {xs:List A} {v:Value} (h:Rel w I μ (.sl f xs) v):Rel w I μ (.sl false xs) v:=by
 cases h with
 |slN _ _ a cap _=>exact .slN _ _ _ _ (fun h=>by cases h)
 |sl _ _ b off n cap sz _ g h1 h2 h3 h4 h5 h6 h7 h8=>exact .sl _ _ b off n cap sz _ g h1 h2 h3 (fun h=>by cases h) h5 h6 h7 h8
theorem Am {H:Hp} {f:Bool} {xs:List A}:IZ H (.sl f xs) (.sl false xs):=fun c w I μ v hs hr=>pV (Ad (a:=.sl f xs) rfl c w I μ v hs hr)
theorem BE {H:Hp} {p q:Bool} (h:p=q):IZ H (.v (.bool p)) (.v (.bool q)):=by rw[h];exact Ad rfl
theorem Jz {H:Hp} {k:IntKind} {p q:Int} (h:p=q):IZ H (.v (.int k p)) (.v (.int k q)):=by rw[h];exact Ad rfl
theorem HN {H:Hp} {a a':A} (h:a.bare=true) (e:a=a'):IZ H a a':=by rw[← e];exact Ad h
theorem Om {H:Hp} {o:Nm} {u off len sz:Nat} {xs ys:List A} (ho:NX H o u=some (sz,xs)) (hl:off+len≤xs.length) (hn:ys.length=len) (hy:∀ y,y ∈ ys→y.cells.length=sz) (h1:A.ones (ys.flatMap A.cells)=true)
  (hb:Hy H (((xs.drop off).take len).flatMap A.cells) (ys.flatMap A.cells)):IZ H (.osl o u sz off len) (.sl false ys):=by
 intro c w I μ v hs hr;obtain⟨hg1,hg2⟩:=J2 hb;cases hr with
 |osl _ _ _ _ _ _ a cap g1 g2 g4 g5 g3=>
  obtain⟨hu,k2,hrow⟩:=hs.row ho;obtain⟨_,hcur⟩:=g3 hu.symm;by_cases h0:len=0
  ·subst h0;have:ys=[]:=List.eq_nil_of_length_eq_zero hn;subst this;exact .slN _ _ _ _ (fun h=>by cases h)
  rcases hcur with ⟨e,_⟩ | ⟨p1,rfl,p3⟩
  ·exact(h0 e).elim
  rcases hrow with ⟨q1,_⟩ | ⟨q1,vs,k3,k4,k5,k6,k7⟩
  ·rw[p1] at q1;cases q1
  subst k2;have hB:DR (μ o) (H o).ob=true:=by rw[(F0 ho).2];exact q1
  have hg:∀ (k:Nat) (y:A),(((xs.drop off).take len).flatMap A.cells)[k]? = some y→(xs.flatMap A.cells)[off*(μ o).sz+k]? = some y:=fun k y hk=>DK k6 hk;refine .sl _ _ (μ o).b (off*(μ o).sz) _ _ (μ o).sz _ (fun k=>vs.getD (off*(μ o).sz+k) undef) (Or.inr ⟨o,hB,rfl⟩) hn.symm (by omega) (fun h=>by cases h) hy
   (fun k y hk=>List.all_eq_true.1 h1 y (List.mem_of_getElem? hk)) (fun k y hk=>?_) (fun k y hk=>?_)
  ·obtain⟨a',ha',_⟩:=hg2 k y hk;have h3:=hg k a' ha';have h4:=BF k6;have h5:xs.length*(μ o).sz≤(μ o).cap*(μ o).sz:=Nat.mul_le_mul_right _ k5;have h6:=(List.getElem?_eq_some_iff.1 h3).1;rw[cell_of_row w (μ o).b _ vs (μ o).e (0,0) k3];have:off*(μ o).sz+k<vs.size:=by rw[k4];omega
   simp[this]
  ·obtain⟨a',ha',hf⟩:=hg2 k y hk;exact hf c w I μ _ hs (k7 _ a' (hg k a' ha')).2
theorem MC {H:Hp}:∀ {l:List A},l.all A.bare=true→Hy H l l
 |[],_=>trivial
 |a::l,h=>by
  simp only[List.all_cons,Bool.and_eq_true] at h;exact⟨Ad h.1,MC h.2⟩
theorem lF {a:A} (h:a.bare1=true):a.bare=true:=by cases a<;>simp_all [A.bare1,A.bare,A.bare2]
theorem dF {H:Hp} {o:Nm} {u off len sz:Nat} {xs:List A} (ho:NX H o u=some (sz,xs)) (hl:off+len≤xs.length) (hb:((xs.drop off).take len).all (fun x=>x.cells.length == sz&&x.cells.all fun y=>A.bare1 y&&y.one)=true):IZ H (.osl o u sz off len) (.sl false ((xs.drop off).take len)):=by
 simp only[List.all_eq_true,Bool.and_eq_true,beq_iff_eq] at hb;refine Om ho hl (by simp;omega) (fun y hy=>(hb y hy).1) ?_ (MC ?_)
 ·simp only[A.ones,List.all_eq_true];intro y hy;obtain⟨x,hx,hy⟩:=List.mem_flatMap.1 hy;exact((hb x hx).2 y hy).2
 ·simp only[List.all_eq_true];intro y hy;obtain⟨x,hx,hy⟩:=List.mem_flatMap.1 hy;exact lF ((hb x hx).2 y hy).1
theorem BZ {H:Hp} {cs cs':List A} (h:Hy H cs cs'):IZ H (.agg cs) (.agg cs'):=by
 intro c w I μ v hs hr;obtain⟨hl,hg⟩:=J2 h;cases hr with
 |agg _ _ vs h1 h2=>
  refine .agg _ _ _ (by omega) fun k y hk=>?_;obtain⟨a,ha,hf⟩:=hg k y hk;exact hf c w I μ _ hs (h2 k a ha)
theorem CP {H:Hp} {cs cs':List A} (h:Hy H cs cs'):IZ H (.tup cs) (.tup cs'):=by
 intro c w I μ v hs hr;obtain⟨hl,hg⟩:=J2 h;cases hr with
 |tup _ _ vs h1 h2=>
  refine .tup _ _ _ (by omega) fun k y hk=>?_;obtain⟨a,ha,hf⟩:=hg k y hk;exact hf c w I μ _ hs (h2 k a ha)
@[simp] theorem Ads {H:Hp}:Hy H [] []=True:=rfl
@[simp] theorem yc {H:Hp} {a a':A} {l l':List A}:Hy H (a::l) (a'::l')=(IZ H a a'∧Hy H l l'):=rfl
end Go.G
namespace Go.Proofs.YtndnlknocdangaaGreat
set_option maxRecDepth 20000
open Go Go.G Go.Proofs
theorem Ai:Tryz.prog.follows .mixedOrders=true:=by kernel_rfl
end Go.Proofs.YtndnlknocdangaaGreat
namespace Go.Proofs.YtndnlknocdangaaGreat
open Go Go.G Go.Proofs
abbrev iv (n:Int):A:=.v (.int .i64 n)
abbrev uv (n:Int):A:=.v (.int .u64 n)
abbrev bv (b:Bool):A:=.v (.bool b)
theorem mM (w:Int) (m:Nat):w / 2 / 2 ^ m=w / 2 ^ (m+1):=by
 rw[Int.ediv_ediv_of_nonneg (by decide),Int.pow_succ,Int.mul_comm]
theorem Bf {n:Int} (h0:-9223372036854775808≤n) (h1:n<9223372036854775808):i64.wrap n=n:=by rw[IntKind.wrap_i64];omega
theorem Bg {n m:Int} (h0:-9223372036854775808 ≤ n:=by omega) (h1:n<9223372036854775808:=by omega) (h:n=m:=by omega):i64.wrap n=m:=by rw[Bf h0 h1];exact h
theorem AW (i:Nat) (h:i<9223372036854775807:=by omega):i64.wrap ((i:Int)+1)=((i+1:Nat):Int):=by rw[Bf (by omega) (by omega)];omega
theorem EJ {n:Int} (h0:-9223372036854775808 ≤ n:=by omega) (h1:n<9223372036854775808:=by omega):i64.wrap n=n:=Bf h0 h1
theorem Gp {n:Int} (h0:0≤n) (h1:n<18446744073709551616):u64.wrap n=n:=by rw[IntKind.wrap_u64];omega
structure Pt where
 (kind off data ptrs code count seg:Int)
 dbl:Bool
deriving DecidableEq
@[simp] def Pt.a (p:Pt):A:=.agg [iv p.kind,iv p.off,iv p.data,iv p.ptrs,iv p.code,iv p.count,iv p.seg,bv p.dbl]
def AaV (w:Int):Int:=if w / 4 % 1073741824<536870912 then w / 4 % 1073741824 else w / 4 % 1073741824-1073741824
def PQ (w:Int):Pt:=
 if w=0 then ⟨0,0,0,0,0,0,0,false⟩
 else if w % 4=0 then ⟨1,AaV w,w / 4294967296 % 65536,w / 281474976710656,0,0,0,false⟩
 else if w % 4=1 then ⟨2,AaV w,0,0,w / 4294967296 % 8,w / 34359738368,0,false⟩
 else if w % 4=2 then ⟨3,w / 8 % 536870912,0,0,0,0,w / 4294967296,decide (w / 4 % 2=1)⟩
 else ⟨4,0,0,0,0,0,0,false⟩
end Go.Proofs.YtndnlknocdangaaGreat
namespace Go.Proofs.YtndnlknocdangaaGreat
set_option maxRecDepth 20000
open Go Go.G Go.Proofs
@[simp] theorem AhK:Tryz.prog.underlying 3=some (.int .i64):=by kernel_rfl
@[simp] theorem Ah1:Tryz.prog.underlying 5=some (.int .u8):=by kernel_rfl
@[simp] theorem Agw:Tryz.prog.underlying 22=some (.slice 61):=by kernel_rfl
@[simp] theorem AgM:Tryz.prog.underlying 61=some (.int .u64):=by kernel_rfl
@[simp] theorem Aed:Tryz.prog.underlying 170=some (.array 8 5):=by kernel_rfl
@[simp] theorem Ad9:Tryz.prog.underlying 174=some (.slice 5):=by kernel_rfl
@[simp] theorem AhQ:CX Tryz.prog 5=some 1:=by kernel_rfl
@[simp] theorem Ahd:CX Tryz.prog 61=some 1:=by kernel_rfl
@[simp] theorem AeU:CX Tryz.prog 170=some 8:=by kernel_rfl
@[simp] theorem Af9:Dj Tryz.prog 5=some false:=by kernel_rfl
@[simp] theorem AdG:Dj Tryz.prog 61=some false:=by kernel_rfl
@[simp] theorem Ac8:Dj Tryz.prog 170=some true:=by kernel_rfl
@[simp] theorem AaS:Bh Tryz.prog 61=some (Value.int u64 0):=by kernel_rfl
@[simp] theorem y8:Bh Tryz.prog 170=some (Value.agg #[Value.int IntKind.u8 0,Value.int IntKind.u8 0,Value.int IntKind.u8 0,Value.int IntKind.u8 0,Value.int IntKind.u8 0,Value.int IntKind.u8 0,Value.int IntKind.u8 0,Value.int IntKind.u8 0]):=by kernel_rfl
@[simp] theorem yG:Bs Tryz.prog 61=some 8:=by kernel_rfl
@[simp] theorem uF (ps:List (Nat × A)):Ch Tryz.prog 170 ps=(CT (fun i=>some (i*1,1)) [A.v (Value.int IntKind.u8 0),A.v (Value.int IntKind.u8 0),A.v (Value.int IntKind.u8 0),A.v (Value.int IntKind.u8 0),A.v (Value.int IntKind.u8 0),A.v (Value.int IntKind.u8 0),A.v (Value.int IntKind.u8 0),A.v (Value.int IntKind.u8 0)] ps).map A.agg:=by kernel_rfl
@[simp] abbrev xT (n:Nat):Operand:=.tmp n
@[simp] abbrev nI (n:Int):Operand:=.const (.int .i64 n)
@[simp] abbrev cL (f:Nat) (xs:Array Operand) (ts:Array TypeId):Op:=.call { callee:=(.value (.func f)),args:=xs,argTypes:=ts }
@[simp] abbrev mV (n:Nat):Op:=.move (.tmp n)
@[simp] abbrev aS (n:Nat):Op:=.assign (.tmp n)
@[simp] abbrev lD (t n:Nat):Op:=.load t (.tmp n)
@[simp] abbrev fA (t n f:Nat):Op:=.fieldAddr t (.tmp n) f
@[simp] abbrev xR (n i:Nat):Op:=.extract (.tmp n) i
@[simp] abbrev oO (d:Nat) (o:Op):CO:=co (some d) o none
@[simp] abbrev oN (d:Nat) (o:Op) (nm:Nm):CO:=cn (some d) o none nm
@[simp] abbrev oS (o:Op):CO:=co none o none
@[simp] abbrev oG (d:Nat) (o:Op) (k:Nat) (b:Bool):CO:=co (some d) o (some (k,b))
@[simp] abbrev bC (b:Builtin) (xs:Array Operand) (ts:Array TypeId):Op:=.call { callee:=(.builtin b),args:=xs,argTypes:=ts }
@[simp] abbrev bL (n t:Nat):Op:=.call { callee:=(.builtin .len),args:=#[.tmp n],argTypes:=#[t] }
@[simp] abbrev bO (o:BinOp) (t a b u:Nat):Op:=.binOp o t (.tmp a) (.tmp b) u
@[simp] abbrev iA (t a b:Nat):Op:=.indexAddr t (.tmp a) (.tmp b)
@[simp] abbrev nB (b:Bool):Operand:=.const (.bool b)
@[simp] abbrev nS:Operand:=.const (.slice none 0 0)
@[simp] abbrev mO (d n:Nat):CO:=co (some d) (.move (.tmp n)) none
@[simp] abbrev aO (d n:Nat):CO:=co (some d) (.assign (.tmp n)) none
@[simp] abbrev lO (d t n:Nat):CO:=co (some d) (.load t (.tmp n)) none
@[simp] abbrev fO (d t n f:Nat):CO:=co (some d) (.fieldAddr t (.tmp n) f) none
@[simp] abbrev xO (d n i:Nat):CO:=co (some d) (.extract (.tmp n) i) none
def vz:Nat→List CO→List (Nat × Nm)
 |_,[]=>[]
 |i,x::l=>if x.nm.isEmpty then vz (i+1) l else (i,x.nm)::vz (i+1) l
def Oz:CC→List Mk
 |.reg a b=>[(b,vz 0 a)]
 |.seq x (.keep b (.stop y))=>Oz x++(999997::b,[])::Oz y
 |.seq x (.keep b y)=>Oz x++(999999::b,[])::Oz y
 |.seq x (.stop y)=>Oz x++([999998],[])::Oz y
 |.seq x y=>Oz x++([],[])::Oz y
 |.cond _ x y=>Oz x++Oz y
 |.block _ x=>Oz x
 |.loop x=>Oz x
 |.scope x=>Oz x
 |_=>[]
@[simp] abbrev sR (a:List CO) (b:List Nat) (k:CC):CC:=.seq (.reg a b) k
@[simp] abbrev cD (n:Nat) (a b:CC):CC:=.cond (.tmp n) a b
@[simp] abbrev sT (t a b:Nat):CO:=co none (.store t (.tmp a) (.tmp b)) none
@[simp] abbrev bQ (o:BinOp) (d t a:Nat) (n:Int) (u:Nat):CO:=co (some d) (.binOp o t (.tmp a) (.const (.int .i64 n)) u) none
@[simp] abbrev bB (o:BinOp) (d t a b u:Nat):CO:=co (some d) (.binOp o t (.tmp a) (.tmp b) u) none
@[simp] abbrev aI (d:Nat) (n:Int):CO:=co (some d) (.assign (.const (.int .i64 n))) none
@[simp] abbrev aP (d a b t u:Nat) (m:Nm):CO:=cn (some d) (.call { callee:=(.builtin .append),args:=#[.tmp a,.tmp b],argTypes:=#[t,u] }) none m
@[simp] abbrev pF (d a b:Nat):CO:=co (some d) (.pick (.tmp a) (.tmp b) (.const (.bool false))) none
@[simp] abbrev pT (d a b:Nat):CO:=co (some d) (.pick (.tmp a) (.const (.bool true)) (.tmp b)) none
@[simp] abbrev cA (d f a t:Nat):CO:=co (some d) (.call { callee:=(.value (.func f)),args:=#[.tmp a],argTypes:=#[t] }) none
@[simp] abbrev cB (d f a b t u:Nat):CO:=co (some d) (.call { callee:=(.value (.func f)),args:=#[.tmp a,.tmp b],argTypes:=#[t,u] }) none
@[simp] abbrev cE (d f a b e t u v:Nat):CO:=co (some d) (.call { callee:=(.value (.func f)),args:=#[.tmp a,.tmp b,.tmp e],argTypes:=#[t,u,v] }) none
@[simp] abbrev bX (d t a:Nat) (m:Nm):CO:=cn (some d) (.box t (.tmp a)) none m
@[simp] abbrev aL (d t:Nat) (m:Nm):CO:=cn (some d) (.alloc t) none m
@[simp] abbrev mG (d a k:Nat) (b:Bool):CO:=co (some d) (.move (.tmp a)) (some (k,b))
@[simp] abbrev lG (d t a k:Nat) (b:Bool):CO:=co (some d) (.load t (.tmp a)) (some (k,b))
@[simp] abbrev fG (d t a f k:Nat) (b:Bool):CO:=co (some d) (.fieldAddr t (.tmp a) f) (some (k,b))
@[simp] abbrev iO (d t a b:Nat):CO:=co (some d) (.indexAddr t (.tmp a) (.tmp b)) none
@[simp] abbrev bN (d n t:Nat):CO:=co (some d) (.call { callee:=(.builtin .len),args:=#[.tmp n],argTypes:=#[t] }) none
@[simp] abbrev nC (d a:Nat):CO:=co (some d) (.nilCheck (.tmp a)) none
@[simp] abbrev aB (d:Nat) (b:Bool):CO:=co (some d) (.assign (.const (.bool b))) none
@[simp] abbrev aN (d:Nat):CO:=co (some d) (.assign (.const (.slice none 0 0))) none
@[simp] abbrev lS (d t a k:Nat):CO:=⟨some d,.load t (.tmp a),none,[],k,[],true⟩
@[simp] abbrev sQ (a:List CO) (l:List Nat) (k:CC) (m:List Nat) (n:CC):CC:=.seq (.seq (.reg a l) k) (.keep m n)
def IM:CC:=sR [aI 2 0] [0] (sQ [mO 3 0] [3] (.block 0 (sR [bQ .eql 5 3 3 0 3,aO 4 5] [3,4] (cD 4 (sR [aI 2 0] [2] (.ret)) (sR [bQ .eql 7 3 3 1 3,aO 6 7] [3,6] (cD 6 (sR [aI 2 1] [2] (.ret)) (sR [bQ .eql 9 3 3 2 3,aO 8 9] [3,8] (cD 8 (sR [aI 2 8] [2] (.ret)) (sR [bQ .eql 11 3 3 3 3,aO 10 11] [3,10] (cD 10 (sR [aI 2 16] [2] (.ret)) (sR [bQ .eql 13 3 3 4 3,aO 12 13] [3,12] (cD 12 (sR [aI 2 32] [2] (.ret)) (sR [bQ .eql 15 3 3 5 3,aO 14 15] [14] (cD 14 (sR [aI 2 64] [2] (.ret)) (.skip)))))))))))))) [] (sR [oO 2 (.assign (.const (.int .i64 (-1))))] [2] (.ret)))
theorem AH {f:FuncId} {fn:Func} {cc:CC} {rs:List ResultVar} {n:Nat} (hf:Tryz.prog.funcs[f]? = some fn) (hn:fn.ntmps=n:=by kernel_rfl) (hk:UD Tryz.prog f=true:=by kernel_rfl) (hb:fn.body=some (fn.body.getD .ret):=by kernel_rfl) (hrs:fn.results.toList=rs:=by kernel_rfl) (hc:I3 n (fn.body.getD .ret) (Oz cc)=some (cc,[]):=by kernel_rfl):BU Tryz.prog f n rs cc:=wg Ai hk hf hb hn hrs hc
theorem Ny:BU Tryz.prog 48 16 [(.tmp 2)] IM:=AH Tryz.func48
def DW:CC:=sQ [mO 11 6,mO 12 5,bB .lss 13 3 11 12 3] [1,5,6,13] (cD 13 (.skip) (.exit 0)) [1,5,6] (.seq (.block 1 (.reg [mO 16 1,oO 17 (.binOp .quo 61 (xT 16) (.const (.int .u64 2)) 61),aO 1 17] [1,5,6])) (.reg [mO 14 6,bQ .add 15 3 14 1 3,aO 6 15] [1,5,6])) 
def Jg:CC:=sR [aB 4 false] [0,1] (sR [mO 7 0,cA 8 48 7 3,aO 5 8] [1,5] (sQ [mO 9 5,bQ .lss 10 3 9 0 3] [1,5,10] (cD 10 (sR [aB 4 false] [4] (.ret)) (.skip)) [1,5] (sQ [aI 6 0] [1,5,6] (.block 0 (.loop DW)) [1] (sR [mO 18 1,oO 19 (.binOp .eql 61 (xT 18) (.const (.int .u64 0)) 61),aO 4 19] [4] (.ret)))))
theorem PO:BU Tryz.prog 29 20 [(.tmp 4)] Jg:=AH Tryz.func29
def D9:CC:=sQ [mO 11 5,mO 12 0,bN 13 12 22,bB .lss 14 3 11 13 3] [0,1,5,14] (cD 14 (.skip) (.exit 0)) [0,1,5] (.seq (.block 1 (sR [mO 17 0,mO 18 5,iO 19 22 17 18,lO 20 61 19,mO 21 1,mO 22 5,iO 23 22 21 22,lO 24 61 23,bB .neq 25 61 20 24 61] [0,1,5,25] (cD 25 (sR [aB 4 false] [4] (.ret)) (.skip)))) (.keep [0,1,5] (.reg [mO 15 5,bQ .add 16 3 15 1 3,aO 5 16] [0,1,5]))) 
def Jw:CC:=sR [aB 4 false] [0,1] (sQ [mO 6 0,bN 7 6 22,mO 8 1,bN 9 8 22,bB .neq 10 3 7 9 3] [0,1,10] (cD 10 (sR [aB 4 false] [4] (.ret)) (.skip)) [0,1] (sQ [aI 5 0] [0,1,5] (.block 0 (.loop D9)) [] (sR [aB 4 true] [4] (.ret))))
theorem PC:BU Tryz.prog 38 26 [(.tmp 4)] Jw:=AH Tryz.func38
def Eb:CC:=sQ [mO 7 3,bQ .gtr 8 3 7 0 3,mO 9 8,mG 10 0 9 true,mG 11 3 9 true,oG 12 (.binOp .sub 3 (xT 11) (nI 1) 3) 9 true,oG 13 (iA 22 10 12) 9 true,lG 14 61 13 9 true,oG 15 (.binOp .eql 61 (xT 14) (.const (.int .u64 0)) 61) 9 true,pF 16 9 15] [0,3,16] (cD 16 (.skip) (.exit 0)) [0,3] (.block 1 (.reg [mO 17 3,bQ .sub 18 3 17 1 3,aO 3 18] [0,3])) 
def Jm:CC:=sR [aN 2] [0] (sR [mO 5 0,bN 6 5 22,aO 3 6] [0,3] (.seq (.block 0 (.loop Eb)) (.keep [0,3] (sR [aN 4] [0,3,4] (sR [mO 19 4,mO 20 0,mO 21 3,oO 22 (.slice 22 (xT 20) none (some (xT 21)) none),aP 23 19 22 22 22 [0],aO 2 23] [2] (.ret))))))
theorem OY:BU Tryz.prog 41 24 [(.tmp 2)] Jm:=AH Tryz.func41
def AN:CC:=sR [aN 2] [0] (sQ [mO 3 0,oO 4 (.binOp .eql 22 (xT 3) nS 22)] [0,4] (cD 4 (sR [aN 2] [2] (.ret)) (.skip)) [0] (sR [oO 5 (.buildSlice 22 0 #[]),mO 6 0,aP 7 5 6 22 22 [0],aO 2 7] [2] (.ret)))
theorem A8:BU Tryz.prog 59 8 [(.tmp 2)] AN:=AH Tryz.func59
end Go.Proofs.YtndnlknocdangaaGreat
namespace Go.G
open Go.RowKit
def b7 (H:Hp) (a a':A):Prop:=∀ (c:Cx) (w:World) (I:Nat→Prop) (μ:Mu) (v:Value),Sim c w I μ H→Rel w I μ a v→Rel w (fun b=>YE H μ b) Um a' v
def xj (P:Program) (rs:List ResultVar) (r:A):Exit→Sta→Prop:=iV P rs fun r0 H=>b7 H r0 r
theorem J9 {P:Program} {f:FuncId} {n:Nat} {rs:List ResultVar} {cc:CC} {args:List A} {r:A} (t:BU P f n rs cc) (ha:args.length≤n) (h:∀ w0 I0,WPC (cx P w0 I0 n) cc (xj P rs r) ⟨NB args,H0⟩):SpecB P f args r:=by
 obtain⟨hm,hk,fn,code,hf,hb,hn,hrs,hc⟩:=t;refine⟨hk,fun w I J vs hI hJ htb hl hr=>?_⟩;have hIJ:∀ b,(I b∨J b)→b<w.heap.size:=fun b hb=>hb.elim (hI b) (hJ b);have h1:AWP (cx P w (fun b=>I b∨J b) n) code (iV P fn.results.toList fun r0 H=>b7 H r0 r) ⟨NB args,H0⟩:=Ml (c:=cx P w _ n) hm hc (by rw[hrs];exact h w _);refine(Sy hf hb (c:=cx P w (fun b=>I b∨J b) n) rfl hn.symm hl (by omega) (VF hIJ (htb.mono (fun _ h=>.inl h) (fun _ _=>rfl))) hr h1).mono fun e w' ⟨v,r0,H',I',μ',he,h1,h2,h3⟩=>⟨v,he,?_,?_⟩
 ·have k:=h1.kept;exact⟨k.os,k.tape,k.output,k.size,fun b hb=>k.block b hb (fun ⟨_,h⟩=>h)⟩
 ·refine(h3 _ w' I' μ' v h1 h2).mono0 (fun b hb=>?_) (fun _ _=>rfl);obtain⟨o,g1,rfl⟩:=hb;obtain⟨_,g4,g5⟩:=h1.own o g1;rcases g4 with g4 | g4
  ·exact g4.elim
  ·exact .inr ⟨g4,g5⟩
@[simp] theorem sX {P:Program} {rs:List ResultVar} {r:A} {st:Sta}:xj P rs r .normal st=Gt (EU P st rs) fun r0=>b7 st.H r0 r:=rfl
@[simp] theorem AaQ {P:Program} {rs:List ResultVar} {r:A} {st:Sta}:xj P rs r .ret st=Gt (EU P st rs) fun r0=>b7 st.H r0 r:=rfl
theorem YQ {H:Hp} {f:Bool}:b7 H (.sl f []) (.sl false []):=fun c w I μ v hs hr=>by
 cases hr with
 |slN _ _ a cap _=>exact .slN _ _ _ _ (fun h=>by cases h)
 |sl _ _ b off n cap sz _ g h1 h2=>
  have:n=0:=h2;subst this;exact .slN _ _ _ _ (fun h=>by cases h)
theorem PI {H:Hp} {o:Nm} {u off len sz:Nat} {xs:List A} (ho:NX H o u=some (sz,xs)) (hl:off+len≤xs.length) (hb:((xs.drop off).take len).all (fun x=>x.cells.length == sz&&x.cells.all fun y=>A.flat1 y&&y.one)=true):b7 H (.osl o u sz off len) (.sl false ((xs.drop off).take len)):=by
 simp only[List.all_eq_true,Bool.and_eq_true,beq_iff_eq] at hb;intro c w I μ v hs hr;have hlen:((xs.drop off).take len).length=len:=by simp;omega
 have hcell:∀ (k:Nat) (y:A),(((xs.drop off).take len).flatMap A.cells)[k]? = some y→y.flat1=true∧y.one=true:=fun k y hk=>by
  obtain⟨x,hx,hy⟩:=List.mem_flatMap.1 (List.mem_of_getElem? hk);exact(hb x hx).2 y hy
 cases hr with
 |osl _ _ _ _ _ _ a cap g1 g2 g4 g5 g3=>
  obtain⟨hu,k2,hrow⟩:=hs.row ho;obtain⟨_,hcur⟩:=g3 hu.symm;by_cases h0:len=0
  ·subst h0;simp only[List.take_zero];exact .slN _ _ _ _ (fun h=>by cases h)
  rcases hcur with ⟨e,_⟩ | ⟨p1,rfl,p3⟩
  ·exact(h0 e).elim
  rcases hrow with ⟨q1,_⟩ | ⟨q1,vs,k3,k4,k5,k6,k7⟩
  ·rw[p1] at q1;cases q1
  subst k2;have hB:DR (μ o) (H o).ob=true:=by rw[(F0 ho).2];exact q1
  have hg:∀ (k:Nat) (y:A),(((xs.drop off).take len).flatMap A.cells)[k]? = some y→(xs.flatMap A.cells)[off*(μ o).sz+k]? = some y:=fun k y hk=>DK k6 hk;refine .sl _ _ (μ o).b (off*(μ o).sz) _ _ (μ o).sz _ (fun k=>vs.getD (off*(μ o).sz+k) undef) ⟨o,hB,rfl⟩ hlen.symm (by omega) (fun h=>by cases h) (fun z hz=>k6 z (QL (OB hz)))
   (fun k y hk=>(hcell k y hk).2) (fun k y hk=>?_) (fun k y hk=>(k7 _ y (hg k y hk)).2.of_flat1 (hcell k y hk).1)
  have h3:=hg k y hk;have h4:=BF k6;have h5:xs.length*(μ o).sz≤(μ o).cap*(μ o).sz:=Nat.mul_le_mul_right _ k5;have h6:=(List.getElem?_eq_some_iff.1 h3).1;rw[cell_of_row w (μ o).b _ vs (μ o).e (0,0) k3];have:off*(μ o).sz+k<vs.size:=by rw[k4];omega
  simp[this]
theorem Vl {P:Program} {f:FuncId} {fl:Bool} {r:A} (h1:∀ cap,SpecB P f [.v (.slice none 0 cap)] r) (h2:∀ a cap,SpecB P f [.v (.slice (some a) 0 cap)] r):SpecB P f [.sl fl []] r:=by
 refine⟨(h1 0).1,fun w I J vs hI hJ htb hl hr=>?_⟩;have h:=hr 0 _ rfl;have go:∀ x,vs.getD 0 undef=x→∀ (k:Nat) (y:A),[A.v x][k]? = some y→Rel w (fun b=>I b∨J b) Um y (vs.getD k undef):=fun x hx k y hk=>by
  cases k with
  |zero=>cases hk;rw[hx];exact .v _ _
  |succ k=>simp at hk
 generalize hq:vs.getD 0 undef=x at h;cases h with
 |slN _ _ a cap _=>
  cases a with
  |none=>exact(h1 cap).2 w I J vs hI hJ htb hl (go _ hq)
  |some a=>exact(h2 a cap).2 w I J vs hI hJ htb hl (go _ hq)
 |sl _ _ b off n cap sz _ g k1 k2=>
  have:n=0:=k2;subst this;exact(h2 _ cap).2 w I J vs hI hJ htb hl (go _ hq)
theorem iK {w:World} {I:Nat→Prop} {μ:Mu} {d:Nm} {u sz:Nat} {v:Value} (h1:Rel w I μ (.sl true []) v) (hu:(μ d).u=u) (h0:1≤u) (hz:(μ d).sz=sz):Rel w I μ (.osl d u sz 0 0) v:=by
 subst hu;cases h1 with
 |slN _ _ q cap hc=>
  have:=hc rfl;subst this;exact .osl _ _ _ _ _ _ _ _ h0 (Cj _) (Cj _) (fun h=>by omega) (fun _=>⟨hz,.inl ⟨rfl,rfl⟩⟩)
 |sl _ _ b off n cap z _ g h1 h2 h3 h4=>
  have h5:n=0:=h2;have h6:cap=0:=h4 rfl;subst h5 h6;exact .osl _ _ _ _ _ _ _ _ h0 (Cj _) (Cj _) (fun h=>by omega) (fun _=>⟨hz,.inl ⟨rfl,rfl⟩⟩)
theorem BX {c:Cx} {s:Nat→A} {H:Hp} {d:Nm} {u:Nat} {cs:List A} (i:Nat) (d':Nm) (sz:Nat) (hd:H d=⟨u,.cells cs⟩) (hi:cs[i]? = some (.sl true [])) (hne:d ≠ d') :
  Le c ⟨s,H⟩ ⟨s,AJ (AJ H d' ⟨(H d').u+1,.arr sz []⟩) d ⟨u,.cells (cs.set i (.osl d' ((H d').u+1) sz 0 0))⟩⟩:=fun a w I μ hs=>by
 obtain⟨hx,hs'⟩:=hs.sim.upd (Fh w none) d' ⟨(H d').u+1,false,0,0,sz,0⟩ (.arr sz []) (.inl rfl) (.inl (by rw[hs.sim.ver];exact Nat.lt_succ_self _)) (fun h=>nomatch h) (fun h=>nomatch h) (fun hx=>⟨rfl,.inl ⟨rfl,rfl⟩⟩);have hd1:(AJ H d' ⟨(H d').u+1,.arr sz []⟩:Hp) d=⟨u,.cells cs⟩:=by rw[AD hne];exact hd
 have hob:=hs'.ob d;rw[hd1] at hob;obtain⟨vs,k1,k2,k3⟩:=hob;have hB:DR (AJ μ d' ⟨(H d').u+1,false,0,0,sz,0⟩ d) ((AJ H d' ⟨(H d').u+1,.arr sz []⟩:Hp) d).ob=true:=by rw[hd1];rfl
 obtain⟨hx2,hs2⟩:=hs'.upd (Fh w none) d (AJ μ d' ⟨(H d').u+1,false,0,0,sz,0⟩ d) (.cells (cs.set i (.osl d' ((H d').u+1) sz 0 0))) (.inl rfl) (.inr rfl) (fun _=>.inr ⟨hB,rfl⟩) (fun _=>hs'.tag _ hB) (fun hx2=>by
  refine⟨vs,k1,by simpa using k2,fun k y hk=>?_⟩;rw[Fg];by_cases hki:k=i
  ·subst hki;have hlt:k<cs.length:=(List.getElem?_eq_some_iff.1 hi).1;rw[List.getElem?_set_self hlt] at hk;cases hk;exact⟨rfl,iK (k3 k _ hi).2 (by simp) (by omega) (by simp)⟩
  ·rw[List.getElem?_set_ne (Ne.symm hki)] at hk;exact k3 k y hk)
 have hu:(AJ μ d' ⟨(H d').u+1,false,0,0,sz,0⟩ d).u=u:=by rw[hs'.ver,hd1]
 rw[hu] at hs2;exact⟨I,_,hs2,hs.size,hs.defers,fun t=>hx2.rel (hx.rel (hs.rel t))⟩
def Part (H H':Hp):Prop:=∀ o,H' o=H o∨H' o=⟨(H o).u,.none⟩
theorem Part.has {H H':Hp} (h:Part H H') {L:sW} {o:Nm} (k:DR L (H' o).ob=true):DR L (H o).ob=true:=by
 rcases h o with e | e
 ·rw[← e];exact k
 ·rw[e] at k;cases k
theorem Part.ver {H H':Hp} (h:Part H H') (o:Nm):(H' o).u=(H o).u:=by rcases h o with e | e<;>rw[e]
theorem Sim.part {c:Cx} {w:World} {I:Nat→Prop} {μ:Mu} {H H':Hp} (hs:Sim c w I μ H) (h:Part H H'):Sim c w I μ H':=
 ⟨hs.kept,hs.lt,hs.old,hs.new,fun o=>by rw[h.ver,hs.ver],fun o=>by
  rcases h o with e | e
  ·rw[e];exact hs.ob o
  ·rw[e];trivial,fun o o' k k'=>hs.apart o o' (h.has k) (h.has k'),fun o k=>hs.own o (h.has k),hs.mle,fun o k=>hs.tag o (h.has k),hs.tab⟩
theorem Sim.freezeAll {c:Cx} {w:World} {I:Nat→Prop} {μ:Mu} {H H1 H2:Hp} (hs:Sim c w I μ H) (h1:Part H H1) (h2:Part H H2) (hd:∀ o,(H1 o).ob = .none∨(H2 o).ob = .none) (hM:∀ o b,(H1 o).ob ≠ .none→¬ c.M0 o b) :
  Sim c w (fun b=>I b∨YE H1 μ b) μ H2:=by
 have hx:Ext I μ w (fun b=>I b∨YE H1 μ b) μ w:=⟨fun b h=>.inl h,fun b h=>rfl,MuLe.refl _⟩;refine⟨hs.kept,fun b h=>?_,fun b h=>.inl (hs.old b h),fun b h=>?_,fun o=>by rw[h2.ver,hs.ver],fun o=>?_,fun o o' k k'=>hs.apart o o' (h2.has k) (h2.has k'),fun o k=>?_,hs.mle,fun o k=>hs.tag o (h2.has k),hs.tab.mono (fun _ h=>.inl h) (fun _ _=>rfl)⟩
 ·rcases h with h | ⟨o,k,rfl⟩
  ·exact hs.lt b h
  ·exact(hs.own o (h1.has k)).2.2
 ·rcases h with h | ⟨o,k,rfl⟩
  ·exact hs.new b h
  ·rcases (hs.own o (h1.has k)).2.1 with h | h
   ·exact(hM _ _ (fun e=>by rw[e] at k;cases k) h).elim
   ·exact .inr h
 ·rcases h2 o with e | e
  ·rw[e];exact OSim.keep hx (fun _=>rfl) (hs.ob o)
  ·rw[e];trivial
 ·obtain⟨k1,k2,k3⟩:=hs.own o (h2.has k);refine⟨fun hh=>?_,k2,k3⟩;rcases hh with hh | ⟨o',k',e⟩
  ·exact k1 hh
  ·refine hs.apart o o' (h2.has k) (h1.has k') (fun e=>?_) e.symm;subst e;rcases hd o with e | e
   ·rw[e] at k';cases k'
   ·rw[e] at k;cases k
theorem Ve {c:Cx} {s:Nat→A} {H H1 H2:Hp} (hM:∀ o b,(H1 o).ob ≠ .none→¬ c.M0 o b) (t:Nat) (a:A) (h1:Part H H1) (h2:Part H H2) (hd:∀ o,(H1 o).ob = .none∨(H2 o).ob = .none) (hf:IZ H1 (s t) a):Le c ⟨s,H⟩ ⟨upd s t a,H2⟩:=fun x w I μ hs=>by
 have h3:=hs.sim.freezeAll h1 h2 hd hM;refine⟨_,μ,h3,hs.size,hs.defers,fun k=>?_⟩;show Rel w _ μ (upd s t a k) _;unfold upd;split
 ·rename_i e;subst e;exact(hf c w I μ _ (hs.sim.part h1) (hs.rel k)).ofI
 ·exact(hs.rel k).mono0 (fun b h=>.inl h) (fun _ _=>rfl)
theorem TZ {c:Cx} {s:Nat→A} {H:Hp} {d:Nm} (hM:∀ b,¬ c.M0 d b) (t:Nat) (a:A) (hf:∀ H1:Hp,H1 d=H d→IZ H1 (s t) a):Le c ⟨s,H⟩ ⟨upd s t a,AJ H d ⟨(H d).u,.none⟩⟩:=by
 refine Ve (fun o b h=>by
  by_cases e:o=d
  ·subst e;exact hM b
  ·exact absurd (by simp[e]) h) t a (H1:=fun o=>if o=d then H o else ⟨(H o).u,.none⟩) (fun o=>?_) (fun o=>?_) (fun o=>?_) (hf _ (by simp))
 ·by_cases h:o=d
  ·exact .inl (by simp[h])
  ·exact .inr (by simp[h])
 ·by_cases h:o=d
  ·subst h;exact .inr (by simp)
  ·exact .inl (AD h)
 ·by_cases h:o=d
  ·subst h;exact .inr (by simp)
  ·exact .inl (by simp[h])
end Go.G
namespace Go.Proofs.YtndnlknocdangaaGreat
open Go Go.G Go.Proofs
abbrev ws (l:List Int):A:=.sl false (l.map uv)
abbrev sgs (l:List (List Int)):A:=.sl false (l.map ws)
@[simp] theorem AeC (l:List Int):Dd 1 (l.map uv)=true:=by simp[Dd]
@[simp] theorem AfD (l:List (List Int)):Dd 1 (l.map ws)=true:=by simp[Dd]
theorem cF (f:Bool) (l:List Int) (h:l.length*8≤140737488355328):SpecB Tryz.prog 59 [.sl f (l.map uv)] (ws l):=by
 cases l with
 |nil=>
  refine Vl (fun cap=>?_) (fun a cap=>?_)
  ·refine J9 A8 (by simp) fun w0 I0=>?_;unfold AN;simp;exact YQ
  ·refine J9 A8 (by simp) fun w0 I0=>?_;unfold AN;simp;exact PI (sz:=1) (xs:=[]) (by simp) (by simp) (by simp)
 |cons x l=>
  refine J9 A8 (by simp) fun w0 I0=>?_;unfold AN;simp at h ⊢;refine⟨h,?_⟩;have:=PI (H:=FR [([0],{ u:=1,ob:=Ob.arr 1 (uv x::l.map uv) })]) (o:=[0]) (u:=1) (off:=0) (len:=l.length+1) (sz:=1) (xs:=uv x::l.map uv) (by simp) (by simp) (by simp[A.flat1,AX]);simp[AX] at this;exact this
abbrev arX (l:List (List Int)) (z m u:Int):A:=.pim [sgs l,iv z,iv m,iv u]
abbrev arn (l:List (List Int)):A:=arX l 0 0 0
def seg (l:List (List Int)) (s:Int):Option (List Int):=if 0≤s then l[s.toNat]? else none
def Ag9 (l:List (List Int)) (s:Int):Nat:=((seg l s).map List.length).getD 0
def ny (l:List (List Int)) (s a n:Int):Bool:=decide (0≤s∧s<l.length∧0≤a∧0≤n∧a+n≤Ag9 l s)
def word (l:List (List Int)) (s a:Int):Option Int:=if 0≤a then (seg l s).bind fun g=>g[a.toNat]? else none
def part (l:List (List Int)) (s a n:Int):List Int:=(((seg l s).getD []).drop a.toNat).take n.toNat
def kv (c:Int):Int:=if c=0 then 0 else if c=1 then 1 else if c=2 then 8 else if c=3 then 16 else if c=4 then 32 else 64
def vB (p:Pt):Option Int:=
 if p.kind=1 then some (p.data+p.ptrs)
 else if p.kind=2∧p.code=7 then some (p.count+1)
 else if p.kind=2∧0≤p.code∧p.code≤6∧0≤p.count∧p.count≤536870911 then some ((p.count*kv p.code+63) / 64)
 else none
structure Lc where
 p:Pt
 s:Int
 at_:Int
deriving DecidableEq
def Pt.l (p:Pt):List A:=[iv p.kind,iv p.off,iv p.data,iv p.ptrs,iv p.code,iv p.count,iv p.seg,bv p.dbl]
@[simp] theorem Pt.l_eq (p:Pt):p.l=[iv p.kind,iv p.off,iv p.data,iv p.ptrs,iv p.code,iv p.count,iv p.seg,bv p.dbl]:=rfl
def Pt.zero:Pt:=⟨0,0,0,0,0,0,0,false⟩
def Lc.zero:Lc:=⟨Pt.zero,0,0⟩
abbrev Lc.a (x:Lc):A:=.agg [iv x.p.kind,iv x.p.off,iv x.p.data,iv x.p.ptrs,iv x.p.code,iv x.p.count,iv x.p.seg,bv x.p.dbl,iv x.s,iv x.at_]
def ez (l:List (List Int)) (x:Lc):Lc × Int:=if ny l x.s x.at_ ((vB x.p).getD 0)=true then (⟨{ x.p with off:=0 },x.s,x.at_⟩,0) else (Lc.zero,7)
def tI (l:List (List Int)) (p:Pt) (s a:Int):Lc × Int:=
 if p.kind=1∨p.kind=2 then ez l ⟨p,s,a+1+p.off⟩ else if p.kind=4 then (Lc.zero,9) else (Lc.zero,8)
def Wds (l:List (List Int)):Prop:=∀ x,x ∈ l→∀ y,y ∈ x→0≤y∧y<18446744073709551616
def qZ (l:List (List Int)) (s a:Int):Lc × Int:=
 match word l s a,word l s (a+1) with
 |some v,some w=>
  if (PQ v).kind ≠ 3∨(PQ v).dbl=true then (Lc.zero,8)
  else if (PQ w).kind=4 then (Lc.zero,9)
  else if ((PQ w).kind ≠ 1∧(PQ w).kind ≠ 2)∨(PQ w).off ≠ 0 then (Lc.zero,8)
  else ez l ⟨PQ w,(PQ v).seg,(PQ v).off⟩
 |_,_=>(Lc.zero,7)
def RS (l:List (List Int)) (s a:Int):Lc × Int:=
 match word l s a with
 |none=>(Lc.zero,7)
 |some w=>
  if (PQ w).kind=0 then (Lc.zero,0)
  else if (PQ w).kind ≠ 3 then tI l (PQ w) s a
  else if (PQ w).dbl=true then qZ l (PQ w).seg (PQ w).off
  else match word l (PQ w).seg (PQ w).off with
   |none=>(Lc.zero,7)
   |some v=>tI l (PQ v) (PQ w).seg (PQ w).off
abbrev zs:List A:=[iv 0,iv 0,iv 0,iv 0,iv 0,iv 0,iv 0,bv false,iv 0,iv 0]
end Go.Proofs.YtndnlknocdangaaGreat
namespace Go.PL
inductive T where
 |mk (kind:Int) (words:List Int) (kids:List T)
 deriving Inhabited
namespace T
def kind:T→Int | mk k _ _=>k
def words:T→List Int | mk _ w _=>w
def kids:T→List T | mk _ _ l=>l
@[simp] theorem kind_mk {k:Int} {w:List Int} {l:List T}:(mk k w l).kind=k:=rfl
@[simp] theorem words_mk {k:Int} {w:List Int} {l:List T}:(mk k w l).words=w:=rfl
@[simp] theorem kids_mk {k:Int} {w:List Int} {l:List T}:(mk k w l).kids=l:=rfl
end T
theorem WO {α:Type} {P:List α→Prop} (h0:P []) (h1:∀ l x,P l→P (l++[x])) (l:List α):P l:=by
 have:∀ m:List α,P m.reverse:=by
  intro m;induction m with
  |nil=>exact h0
  |cons x m ih=>rw[List.reverse_cons];exact h1 _ _ ih
 have h:=this l.reverse
 rwa [List.reverse_reverse] at h
abbrev T0:T:=.mk 0 [] []
mutual
theorem T.ind {P:T→Prop} (h:∀ k w l,(∀ t,t ∈ l→P t)→P (.mk k w l)):∀ t,P t
 |.mk k w l=>h k w l (T.indL h l)
theorem T.indL {P:T→Prop} (h:∀ k w l,(∀ t,t ∈ l→P t)→P (.mk k w l)):∀ (l:List T),∀ t,t ∈ l→P t
 |[],t,ht=>nomatch ht
 |x::l,t,ht=>by
  rcases List.mem_cons.1 ht with e | ht
  ·rw[e];exact T.ind h x
  ·exact T.indL h l t ht
end
def C4 (l:List Int):List Int:=(l.reverse.dropWhile (fun x=>x == 0)).reverse
def Cy (l:List T):List T:=(l.reverse.dropWhile (fun x=>x.kind == 0)).reverse
mutual
def Ag:T→T
 |.mk k w l=>if k=0 then T0 else if k=1 then .mk 1 (C4 w) (Cy (VP l)) else .mk k w (VP l)
def VP:List T→List T
 |[]=>[]
 |t::l=>Ag t::VP l
end
@[simp] theorem iI:∀ l,VP l=l.map Ag
 |[]=>by simp[VP]
 |t::l=>by simp[VP,iI l]
theorem Ci (k:Int) (w:List Int) (l:List T):Ag (.mk k w l)=if k=0 then T0 else if k=1 then .mk 1 (C4 w) (Cy (l.map Ag)) else .mk k w (l.map Ag):=by simp[Ag]
@[simp] theorem F5 (t:T):(Ag t).kind=t.kind:=by
 cases t;rw[Ci];split
 ·rename_i h;rw[h];rfl
 ·split
  ·rename_i h;rw[h];rfl
  ·rfl
@[simp] theorem xQ:C4 []=[]:=rfl
@[simp] theorem yZ:Cy []=[]:=rfl
theorem N8 (l:List Int) (x:Int):C4 (l++[x])=if x=0 then C4 l else l++[x]:=by
 unfold C4;simp[List.dropWhile_cons];split<;>simp
theorem IB (l:List T) (x:T):Cy (l++[x])=if x.kind=0 then Cy l else l++[x]:=by
 unfold Cy;by_cases h:x.kind=0<;>simp[List.dropWhile_cons,h]
theorem J7 (l:List Int):(C4 l).length≤l.length:=by
 unfold C4;simp;have:=(List.dropWhile_sublist (fun x:Int=>x == 0) (l:=l.reverse)).length_le;simpa using this
theorem JT (l:List T):(Cy l).length≤l.length:=by
 unfold Cy;simp;have:=(List.dropWhile_sublist (fun x:T=>x.kind == 0) (l:=l.reverse)).length_le;simpa using this
theorem TN (l:List Int):C4 l=l.take (C4 l).length:=by
 induction l using WO with
 |h0=>rfl
 |h1 l x ih=>
  rw[N8];split
  ·rw[List.take_append_of_le_length (J7 l)];exact ih
  ·rw[AX (Cj _)]
theorem IQ (l:List T):Cy l=l.take (Cy l).length:=by
 induction l using WO with
 |h0=>rfl
 |h1 l x ih=>
  rw[IB];split
  ·rw[List.take_append_of_le_length (JT l)];exact ih
  ·rw[AX (Cj _)]
def Ew (c:Int):Int:=if c=0 then 0 else if c=1 then 1 else if c=2 then 8 else if c=3 then 16 else if c=4 then 32 else if c=5 then 64 else -1
def US (c n:Int):Bool:=decide (0≤Ew c)&&decide (n / 2 ^ (Ew c).toNat=0)
def Kt (k:Int):Bool:=decide (2≤k)&&decide (k≤7)
def Gj (k:Int) (c:T):Bool:=!(Kt k != decide (c.kind=10) || decide (k=9)&&!decide (c.kind=1) || Kt k&&!US (k-2) (c.words.headD 0))
def FT (k:Int) (d nw nl:Nat):Bool:=decide (k<0) || decide (k > 10) || decide (d=0) || decide (nw ≥ 65536) || decide (k=1)&&decide (nl ≥ 65536) || decide (nl ≥ 1048576) || decide (k > 1)&&decide (nw > 0)
mutual
def Cr:Nat→T→Bool
 |d,.mk k w l=>if k=0 then w.isEmpty&&l.isEmpty else if k=10 then decide (w.length=1)&&l.isEmpty
  else if FT k d w.length l.length=true then false else FP (d-1) k l
def FP:Nat→Int→List T→Bool
 |_,_,[]=>true
 |d,k,t::l=>Cr d t&&Gj k t&&FP d k l
end
theorem Em (d:Nat) (k:Int) (w:List Int) (l:List T):Cr d (.mk k w l)=if k=0 then w.isEmpty&&l.isEmpty else if k=10 then decide (w.length=1)&&l.isEmpty
  else if FT k d w.length l.length=true then false else FP (d-1) k l:=by rw[Cr]
@[simp] theorem w9 (d:Nat) (k:Int):FP d k []=true:=by rw[FP]
@[simp] theorem Yj (d:Nat) (k:Int) (t:T) (l:List T):FP d k (t::l)=(Cr d t&&Gj k t&&FP d k l):=by rw[FP]
theorem rightL_all {d:Nat} {k:Int}:∀ {l:List T},FP d k l=true ↔ ∀ t,t ∈ l→Cr d t=true∧Gj k t=true
 |[]=>by simp
 |t::l=>by simp[rightL_all (l:=l),and_assoc]
mutual
def DF:Nat→Int→T→Int
 |d,n,.mk _ w l=>if d=0∨n-1-w.length<0 then -1 else Dm (d-1) (n-1-w.length) l
def Dm:Nat→Int→List T→Int
 |_,n,[]=>n
 |d,n,t::l=>if n<0 then n else Dm d (DF d n t) l
end
theorem ND (d:Nat) (n:Int) (k:Int) (w:List Int) (l:List T):DF d n (.mk k w l)=if d=0∨n-1-w.length<0 then -1 else Dm (d-1) (n-1-w.length) l:=by rw[DF]
@[simp] theorem qA (d:Nat) (n:Int):Dm d n []=n:=by rw[Dm]
@[simp] theorem Ha (d:Nat) (n:Int) (t:T) (l:List T):Dm d n (t::l)=if n<0 then n else Dm d (DF d n t) l:=by rw[Dm]
theorem M7 {d:Nat} {k:Int} {w:List Int} {l:List T} (h:Cr d (.mk k w l)=true):∀ t,t ∈ l→Cr (d-1) t=true∧Gj k t=true:=by
 rw[Em] at h;split at h
 ·simp at h;intro t ht;rw[h.2] at ht;cases ht
 ·split at h
  ·simp at h;intro t ht;rw[h.2] at ht;cases ht
  ·split at h
   ·cases h
   ·exact rightL_all.1 h
end Go.PL
namespace Go.Proofs.YtndnlknocdangaaGreat
open Go Go.G Go.Proofs Go.PL
structure Rf where
 kind:Int
 s:Int
 at_:Int
 data:Int
 kids:Int
 count:Int
 n:Int
def Rf.zero:Rf:=⟨0,0,0,0,0,0,0⟩
def nk (r:Rf):Int:=if r.kind=1 then r.kids else r.count
def AcL (l:List (List Int)) (s a m:Int):Rf × Int:=
 if ((word l s a).getD 0 ≠ 0∧(PQ ((word l s a).getD 0)).kind ≠ 1)∨(PQ ((word l s a).getD 0)).off<0∨m<(PQ ((word l s a).getD 0)).off*((PQ ((word l s a).getD 0)).data+(PQ ((word l s a).getD 0)).ptrs) then (Rf.zero,8)
 else (⟨9,s,a+1,(PQ ((word l s a).getD 0)).data,(PQ ((word l s a).getD 0)).ptrs,(PQ ((word l s a).getD 0)).off,0⟩,0)
def AgX (l:List (List Int)) (x:Lc):Rf × Int:=
 if x.p.kind=1 then (⟨1,x.s,x.at_,x.p.data,x.p.ptrs,0,0⟩,0)
 else if x.p.code<7 then (⟨2+x.p.code,x.s,x.at_,0,0,x.p.count,0⟩,0)
 else AcL l x.s x.at_ x.p.count
def atP (l:List (List Int)) (s a:Int):Rf × Int:=
 if (RS l s a).2 ≠ 0∨(RS l s a).1.p.kind=0 then (Rf.zero,(RS l s a).2) else AgX l (RS l s a).1
def Ahp (g:List Int) (c i:Int):Int:=
 if Ew c<1∨i<0∨1099511627776<i then 0 else ((g[(i*Ew c / 64).toNat]?).getD 0) / 2 ^ (i*Ew c % 64).toNat % 2 ^ (Ew c).toNat
def Adb (l:List (List Int)) (r:Rf) (i:Int):Int:=Ahp (((seg l r.s).getD []).drop r.at_.toNat) (r.kind-2) i
def Ab7 (l:List (List Int)) (r:Rf) (i:Int):Rf × Int:=
 if i<0∨nk r≤i then (Rf.zero,0)
 else if r.kind=1 then atP l r.s (r.at_+r.data+i)
 else if r.kind=8 then atP l r.s (r.at_+i)
 else if r.kind=9 then (⟨1,r.s,r.at_+i*(r.data+r.kids),r.data,r.kids,0,0⟩,0)
 else (⟨10,0,0,0,0,0,Adb l r i⟩,0)
def vF (l:List (List Int)) (r:Rf):List Int:=if r.kind=10 then [r.n] else if r.kind ≠ 1 then [] else part l r.s r.at_ r.data
inductive cG (l:List (List Int)):Rf→Prop
 |zero:cG l Rf.zero
 |str (s a d k:Int):0≤d→d<65536→0≤k→k<65536→ny l s a (d+k)=true→cG l ⟨1,s,a,d,k,0,0⟩
 |dat (c s a n:Int):0≤c→c<6→0≤n→n<536870912→ny l s a ((n*kv c+63) / 64)=true→cG l ⟨2+c,s,a,0,0,n,0⟩
 |ptrs (s a n:Int):0≤n→n<536870912→ny l s a n=true→cG l ⟨8,s,a,0,0,n,0⟩
 |comp (s a d k n:Int):0≤d→d<65536→0≤k→k<65536→0≤n→n<536870912→ny l s a (n*(d+k))=true→cG l ⟨9,s,a,d,k,n,0⟩
 |atom (n:Int):0≤n→n<18446744073709551616→cG l ⟨10,0,0,0,0,0,n⟩
inductive dG (l:List (List Int)):Rf→T→Prop
 |mk (r:Rf) (t:T):cG l r→r.kind=t.kind→vF l r=t.words→nk r=t.kids.length→(∀ (i:Nat) (h:i<t.kids.length),(Ab7 l r i).2=0)→(∀ (i:Nat) (h:i<t.kids.length),dG l (Ab7 l r i).1 t.kids[i])→dG l r t
end Go.Proofs.YtndnlknocdangaaGreat
namespace Go.PL
structure WE where
 at_:Int
 mask:Int
 old:Int
 new:Int
mutual
inductive E where
 |mk (kind:Int) (old new:T) (words:List WE) (kids:List KE) (list:Int) (ops:List OP)
inductive KE where
 |mk (at_:Int) (e:E)
inductive OP where
 |mk (kind n:Int) (l:List T) (e:E)
end
namespace E
def kind:E→Int | mk k _ _ _ _ _ _=>k
def old:E→T | mk _ o _ _ _ _ _=>o
def new:E→T | mk _ _ n _ _ _ _=>n
def words:E→List WE | mk _ _ _ w _ _ _=>w
def kids:E→List KE | mk _ _ _ _ k _ _=>k
def list:E→Int | mk _ _ _ _ _ l _=>l
def ops:E→List OP | mk _ _ _ _ _ _ o=>o
variable {k l:Int} {o n:T} {w:List WE} {ks:List KE} {os:List OP}
@[simp] theorem kind_mk:(mk k o n w ks l os).kind=k:=rfl
@[simp] theorem old_mk:(mk k o n w ks l os).old=o:=rfl
@[simp] theorem new_mk:(mk k o n w ks l os).new=n:=rfl
@[simp] theorem words_mk:(mk k o n w ks l os).words=w:=rfl
@[simp] theorem kids_mk:(mk k o n w ks l os).kids=ks:=rfl
@[simp] theorem list_mk:(mk k o n w ks l os).list=l:=rfl
@[simp] theorem ops_mk:(mk k o n w ks l os).ops=os:=rfl
end E
namespace KE
def at_:KE→Int | mk a _=>a
def e:KE→E | mk _ e=>e
@[simp] theorem Ah5 {a:Int} {e:E}:(mk a e).at_=a:=rfl
@[simp] theorem AgK {a:Int} {e:E}:(mk a e).e=e:=rfl
end KE
namespace OP
def kind:OP→Int | mk k _ _ _=>k
def n:OP→Int | mk _ n _ _=>n
def l:OP→List T | mk _ _ l _=>l
def e:OP→E | mk _ _ _ e=>e
variable {k m:Int} {t:List T} {x:E}
@[simp] theorem kind_mk:(mk k m t x).kind=k:=rfl
@[simp] theorem Aio:(mk k m t x).n=m:=rfl
@[simp] theorem Aih:(mk k m t x).l=t:=rfl
@[simp] theorem AgK:(mk k m t x).e=x:=rfl
end OP
abbrev E0:E:=.mk 0 T0 T0 [] [] 0 []
mutual
theorem E.ind {P:E→Prop} (h:∀ k o n w ks l os,(∀ x,x ∈ ks→P x.e)→(∀ x,x ∈ os→P x.e)→P (.mk k o n w ks l os)):∀ e,P e
 |.mk k o n w ks l os=>h k o n w ks l os (E.indK h ks) (E.indO h os)
theorem E.indK {P:E→Prop} (h:∀ k o n w ks l os,(∀ x,x ∈ ks→P x.e)→(∀ x,x ∈ os→P x.e)→P (.mk k o n w ks l os)):∀ (ks:List KE),∀ x,x ∈ ks→P x.e
 |[],_,hx=>nomatch hx
 |.mk a e::ks,x,hx=>by
  rcases List.mem_cons.1 hx with q | hx
  ·rw[q];exact E.ind h e
  ·exact E.indK h ks x hx
theorem E.indO {P:E→Prop} (h:∀ k o n w ks l os,(∀ x,x ∈ ks→P x.e)→(∀ x,x ∈ os→P x.e)→P (.mk k o n w ks l os)):∀ (os:List OP),∀ x,x ∈ os→P x.e
 |[],_,hx=>nomatch hx
 |.mk a n l e::os,x,hx=>by
  rcases List.mem_cons.1 hx with q | hx
  ·rw[q];exact E.ind h e
  ·exact E.indO h os x hx
end
end Go.PL
namespace Go.G
open Go.RowKit
mutual
def A.soft:A→A
 |.sl _ xs=>.sl false (A.softL xs)
 |.agg cs=>.agg (A.softL cs)
 |.tup cs=>.tup (A.softL cs)
 |.pim cs=>.pim (A.softL cs)
 |.ifc t x=>.ifc t (A.soft x)
 |.any=>.any
 |.v x=>.v x
 |.pob o u off=>.pob o u off
 |.osl o u sz off len=>.osl o u sz off len
 |.pel o u i j=>.pel o u i j
 |.mo o u=>.mo o u
 |.fnc f fs cs=>.fnc f fs cs
def A.softL:List A→List A
 |[]=>[]
 |x::xs=>A.soft x::A.softL xs
end
theorem Bi:∀ l:List A,A.softL l=l.map A.soft
 |[]=>by simp[A.softL]
 |x::l=>by simp[A.softL,Bi l]
theorem T6 (a:A):a.soft.cells=a.cells.map A.soft:=by cases a<;>simp[A.soft,A.cells,Bi]
theorem VB:∀ l:List A,(l.map A.soft).flatMap A.cells=(l.flatMap A.cells).map A.soft
 |[]=>rfl
 |x::l=>by simp[T6,VB l]
theorem Yv (a:A):a.soft.one=a.one:=by cases a<;>simp[A.soft,A.one]
theorem Rel.soft {w:World} {I:Nat→Prop} {μ:Mu} {a:A} {x:Value} (h:Rel w I μ a x):Rel w I μ a.soft x:=by
 induction h with
 |any=>simpa[A.soft] using Rel.any _ _
 |v=>simpa[A.soft] using Rel.v _ _
 |slN μ f a cap h=>
  simp only[A.soft,A.softL];exact .slN _ _ _ _ (fun h=>nomatch h)
 |sl μ f b off n cap sz xs g hb hn hc hf hs h1 hcell hr ih=>
  simp only[A.soft,Bi];refine .sl _ _ b off n cap sz _ g hb (by simpa using hn) (by simpa using hc) (fun h=>nomatch h) (fun x hx=>?_) (fun k y hk=>?_) (fun k y hk=>?_) (fun k y hk=>?_)
  ·obtain⟨x',hx',rfl⟩:=List.mem_map.1 hx;simpa[T6] using hs x' hx'
  all_goals
   rw[VB,List.getElem?_map,Option.map_eq_some_iff] at hk;obtain⟨y',hy,rfl⟩:=hk
  ·rw[Yv];exact h1 k y' hy
  ·exact hcell k y' hy
  ·exact ih k y' hy
 |agg μ cs vs hl _ ih=>
  simp only[A.soft,Bi];refine .agg _ _ _ (by simpa using hl) fun k y hk=>?_;rw[List.getElem?_map,Option.map_eq_some_iff] at hk;obtain⟨y',hy,rfl⟩:=hk;exact ih k y' hy
 |tup μ cs vs hl _ ih=>
  simp only[A.soft,Bi];refine .tup _ _ _ (by simpa using hl) fun k y hk=>?_;rw[List.getElem?_map,Option.map_eq_some_iff] at hk;obtain⟨y',hy,rfl⟩:=hk;exact ih k y' hy
 |pim μ b off cs g hb h1 hcell hr ih=>
  simp only[A.soft,Bi];refine .pim _ b off _ g hb (fun k y hk=>?_) (fun k y hk=>?_) (fun k y hk=>?_);all_goals
   rw[List.getElem?_map,Option.map_eq_some_iff] at hk;obtain⟨y',hy,rfl⟩:=hk
  ·rw[Yv];exact h1 k y' hy
  ·exact hcell k y' hy
  ·exact ih k y' hy
 |pob _ _ _ _ _ _ h1 h2 h3=>simpa[A.soft] using Rel.pob _ _ _ _ _ _ h1 h2 h3
 |osl _ _ _ _ _ _ _ _ h1 h2 h4 h5 h3=>simpa[A.soft] using Rel.osl _ _ _ _ _ _ _ _ h1 h2 h4 h5 h3
 |pel _ _ _ _ _ _ _ h1 h2 h3=>simpa[A.soft] using Rel.pel _ _ _ _ _ _ _ h1 h2 h3
 |mo _ _ _ _ h1 h2 h3=>simpa[A.soft] using Rel.mo _ _ _ _ h1 h2 h3
 |fnc _ _ _ _ _ _ hl0 h0 hl h _ _=>simpa[A.soft] using Rel.fnc _ _ _ _ _ _ hl0 h0 hl h
 |ifc _ _ _ _ _ ih=>simpa[A.soft] using Rel.ifc _ _ _ _ ih
theorem Spec.soft {P:Program} {f:FuncId} {as' as'':List A} {r:A} (h:Spec P f as'' r) (e:A.softL as'=as''):Spec P f as' r:=by
 subst e;refine⟨h.1,fun w I vs hI ht hn ha=>h.2 w I vs hI ht (by simpa[Bi] using hn) fun k y hk=>?_⟩;rw[Bi,List.getElem?_map,Option.map_eq_some_iff] at hk;obtain⟨y',hy,rfl⟩:=hk;exact(ha k y' hy).soft
theorem SpecB.soft {P:Program} {f:FuncId} {as' as'':List A} {r:A} (h:SpecB P f as'' r) (e:A.softL as'=as''):SpecB P f as' r:=by
 subst e;refine⟨h.1,fun w I J vs hI hJ ht hn ha=>h.2 w I J vs hI hJ ht (by simpa[Bi] using hn) fun k y hk=>?_⟩;rw[Bi,List.getElem?_map,Option.map_eq_some_iff] at hk;obtain⟨y',hy,rfl⟩:=hk;exact(ha k y' hy).soft
theorem XN {H:Hp} {a:A} (h:a.bare=true):IZ H a a.soft:=fun c w I μ v hs hr=>(Ad h c w I μ v hs hr).soft
mutual
def A.ren (g:Nm→Nm) (δ:Nm→Nat):A→A
 |.pob o u off=>.pob (g o) (u+δ o) off
 |.osl o u sz off len=>.osl (g o) (u+δ o) sz off len
 |.pel o u i j=>.pel (g o) (u+δ o) i j
 |.mo o u=>.mo (g o) (u+δ o)
 |.agg cs=>.agg (A.renL g δ cs)
 |.tup cs=>.tup (A.renL g δ cs)
 |.fnc f fs cs=>.fnc f (A.renL g δ fs) (A.renL g δ cs)
 |.ifc t x=>.ifc t (A.ren g δ x)
 |.any=>.any
 |.v x=>.v x
 |.sl f xs=>.sl f xs
 |.pim cs=>.pim cs
def A.renL (g:Nm→Nm) (δ:Nm→Nat):List A→List A
 |[]=>[]
 |x::xs=>A.ren g δ x::A.renL g δ xs
end
mutual
def A.refs (S:Nm→Prop):A→Prop
 |.pob o u off=>S o
 |.osl o u sz off len=>S o
 |.pel o u i j=>S o
 |.mo o u=>S o
 |.agg cs=>A.refsL S cs
 |.tup cs=>A.refsL S cs
 |.fnc f fs cs=>A.refsL S fs∧A.refsL S cs
 |.ifc t x=>A.refs S x
 |.any=>True
 |.v x=>True
 |.sl f xs=>True
 |.pim cs=>True
def A.refsL (S:Nm→Prop):List A→Prop
 |[]=>True
 |x::xs=>A.refs S x∧A.refsL S xs
end
theorem Co {g:Nm→Nm} {δ:Nm→Nat}:∀ l:List A,A.renL g δ l=l.map (A.ren g δ)
 |[]=>by simp[A.renL]
 |x::l=>by simp[A.renL,Co l]
theorem refsL_iff {S:Nm→Prop}:∀ {l:List A},A.refsL S l ↔ ∀ x,x ∈ l→x.refs S
 |[]=>by simp[A.refsL]
 |x::l=>by simp[A.refsL,refsL_iff (l:=l)]
theorem UY {g:Nm→Nm} {δ:Nm→Nat} (a:A):(a.ren g δ).cells=a.cells.map (A.ren g δ):=by cases a<;>simp[A.ren,A.cells,Co]
theorem Y0 {g:Nm→Nm} {δ:Nm→Nat}:∀ l:List A,(l.map (A.ren g δ)).flatMap A.cells=(l.flatMap A.cells).map (A.ren g δ)
 |[]=>rfl
 |x::l=>by simp[UY,Y0 l]
theorem dz {g:Nm→Nm} {δ:Nm→Nat} (a:A):(a.ren g δ).one=a.one:=by cases a<;>simp[A.ren,A.one]
theorem br {S:Nm→Prop} {a y:A} (h:a.refs S) (hy:y ∈ a.cells):y.refs S:=by
 cases a<;>simp[A.cells] at hy<;>first | (subst hy;exact h) | exact refsL_iff.1 (by simpa[A.refs] using h) y hy
theorem Rel.ren {w:World} {I:Nat→Prop} {μ:Mu} {a:A} {v:Value} (h:Rel w I μ a v):∀ {μ':Mu} {S:Nm→Prop} {g:Nm→Nm} {δ:Nm→Nat},a.refs S→(∀ o,S o→1≤(μ o).u→μ' (g o)={ μ o with u:=(μ o).u+δ o })→Rel w I μ' (a.ren g δ) v:=by
 induction h with
 |any=>intro μ' S g δ _ _;simpa[A.ren] using Rel.any _ _
 |v=>intro μ' S g δ _ _;simpa[A.ren] using Rel.v _ _
 |slN _ _ _ _ h=>intro μ' S g δ _ _;simpa[A.ren] using Rel.slN _ _ _ _ h
 |sl μ f b off n cap sz xs g hb hn hc hf hs h1 hcell hr _=>intro μ' S g' δ _ _;simpa[A.ren] using Rel.sl _ f b off n cap sz xs g hb hn hc hf hs h1 hcell hr
 |pim μ b off cs g hb h1 hcell hr _=>intro μ' S g' δ _ _;simpa[A.ren] using Rel.pim _ b off cs g hb h1 hcell hr
 |agg μ cs vs hl _ ih=>
  intro μ' S g δ hS hμ;simp only[A.ren,Co];refine .agg _ _ _ (by simpa using hl) fun k y hk=>?_;rw[List.getElem?_map,Option.map_eq_some_iff] at hk;obtain⟨y',hy,rfl⟩:=hk;exact ih k y' hy (refsL_iff.1 (by simpa[A.refs] using hS) y' (List.mem_of_getElem? hy)) hμ
 |tup μ cs vs hl _ ih=>
  intro μ' S g δ hS hμ;simp only[A.ren,Co];refine .tup _ _ _ (by simpa using hl) fun k y hk=>?_;rw[List.getElem?_map,Option.map_eq_some_iff] at hk;obtain⟨y',hy,rfl⟩:=hk;exact ih k y' hy (refsL_iff.1 (by simpa[A.refs] using hS) y' (List.mem_of_getElem? hy)) hμ
 |fnc μ f fs caps us vs hl0 _ hl _ ih0 ih=>
  intro μ' S g δ hS hμ;simp only[A.refs] at hS;simp only[A.ren,Co];refine .fnc _ _ _ _ _ _ (by simpa using hl0) (fun k y hk=>?_) (by simpa using hl) fun k y hk=>?_
  ·rw[List.getElem?_map,Option.map_eq_some_iff] at hk;obtain⟨y',hy,rfl⟩:=hk;exact ih0 k y' hy (refsL_iff.1 hS.1 y' (List.mem_of_getElem? hy)) hμ
  ·rw[List.getElem?_map,Option.map_eq_some_iff] at hk;obtain⟨y',hy,rfl⟩:=hk;exact ih k y' hy (refsL_iff.1 hS.2 y' (List.mem_of_getElem? hy)) hμ
 |ifc _ _ _ _ _ ih=>
  intro μ' S g δ hS hμ;simp only[A.ren];exact .ifc _ _ _ _ (ih (by simpa[A.refs] using hS) hμ)
 |pob μ o u off b k h1 h2 h3=>
  intro μ' S g δ hS hμ;have e:=hμ o (by simpa[A.refs] using hS) (by omega);simp only[A.ren];exact .pob _ _ _ _ _ _ (by omega) (by rw[e];simpa using h2) fun hu=>by rw[e] at hu ⊢; exact h3 (by simpa using hu)
 |osl μ o u sz off len a cap h1 h2 h4 h5 h3=>
  intro μ' S g δ hS hμ;have e:=hμ o (by simpa[A.refs] using hS) (by omega);simp only[A.ren];exact .osl _ _ _ _ _ _ _ _ (by omega) (by rw[e];simpa using h2) h4 h5 fun hu=>by rw[e] at hu ⊢; exact h3 (by simpa using hu)
 |pel μ o u i j b k h1 h2 h3=>
  intro μ' S g δ hS hμ;have e:=hμ o (by simpa[A.refs] using hS) (by omega);simp only[A.ren];exact .pel _ _ _ _ _ _ _ (by omega) (by rw[e];simpa using h2) fun hu=>by rw[e] at hu ⊢; exact h3 (by simpa using hu)
 |mo μ o u b h1 h2 h3=>
  intro μ' S g δ hS hμ;have e:=hμ o (by simpa[A.refs] using hS) (by omega);simp only[A.ren];exact .mo _ _ _ _ (by omega) (by rw[e];simpa using h2) fun hu=>by rw[e] at hu ⊢; exact h3 (by simpa using hu)
def Ob.ren (g:Nm→Nm) (δ:Nm→Nat):Ob→Ob
 |.none=>.none
 |.cells cs=>.cells (A.renL g δ cs)
 |.arr sz xs=>.arr sz (A.renL g δ xs)
 |.mp es=>.mp es
def Ob.refs (S:Nm→Prop):Ob→Prop
 |.none=>True
 |.cells cs=>A.refsL S cs
 |.arr sz xs=>A.refsL S xs
 |.mp _=>True
theorem Sn {g:Nm→Nm} {δ:Nm→Nat} {L:sW} {ob:Ob}:DR L (ob.ren g δ)=DR L ob:=by cases ob<;>rfl
theorem OSim.ren {w:World} {I:Nat→Prop} {μ μ':Mu} {L L':sW} {ob:Ob} {S:Nm→Prop} {g:Nm→Nm} {δ:Nm→Nat} (h:OSim w I μ L ob) (hS:ob.refs S) (hμ:∀ o,S o→1≤(μ o).u→μ' (g o)={ μ o with u:=(μ o).u+δ o }) (hL:L'={ L with u:=L'.u }) :
  OSim w I μ' L' (ob.ren g δ):=by
 rw[hL];cases ob with
 |none=>trivial
 |mp es=>exact h
 |cells cs=>
  obtain⟨vs,h1,h2,h3⟩:=h;simp only[Ob.ren,Co];refine⟨vs,h1,by simpa using h2,fun k y hk=>?_⟩;rw[List.getElem?_map,Option.map_eq_some_iff] at hk;obtain⟨y',hy,rfl⟩:=hk;exact⟨by rw[dz];exact(h3 k y' hy).1,(h3 k y' hy).2.ren (refsL_iff.1 hS y' (List.mem_of_getElem? hy)) hμ⟩
 |arr sz xs=>
  simp only[Ob.ren,Co];obtain⟨h0,⟨h1,h2⟩ | ⟨h1,vs,h3,h4,h5,h6,h7⟩⟩:=h
  ·exact⟨h0,.inl ⟨h1,by rw[h2];rfl⟩⟩
  ·refine⟨h0,.inr ⟨h1,vs,h3,h4,by simpa using h5,fun x hx=>?_,fun k y hk=>?_⟩⟩
   ·obtain⟨x',hx',rfl⟩:=List.mem_map.1 hx;simpa[UY] using h6 x' hx'
   ·rw[Y0,List.getElem?_map,Option.map_eq_some_iff] at hk;obtain⟨y',hy,rfl⟩:=hk;obtain⟨x,hx,hy'⟩:=List.mem_flatMap.1 (List.mem_of_getElem? hy);exact⟨by rw[dz];exact(h7 k y' hy).1,(h7 k y' hy).2.ren (br (refsL_iff.1 hS x hx) hy') hμ⟩
def DD (P:Program) (w0:World) (I0:Nat→Prop) (M0:Nm→Nat→Prop) (n:Nat) (m0:Mu):Cx:=⟨P,w0,I0,M0,n,m0⟩
@[simp] theorem Ah7 {P:Program} {w0:World} {I0:Nat→Prop} {M0:Nm→Nat→Prop} {n:Nat} {m0:Mu}:(DD P w0 I0 M0 n m0).P=P:=rfl
def SpecH (P:Program) (f:FuncId) (k:Nat) (args:List A) (Hc:Hp) (r:A) (Hr:Hp):Prop:=
 UD P f=true∧∀ (w:World) (I:Nat→Prop) (M0:Nm→Nat→Prop) (n:Nat) (μ:Mu) (vs:Array Value),(∀ (o:Nm) (b:Nat),(Hc o).ob = .none→¬ M0 o b)→Sim (DD P w I M0 n μ) w I μ Hc→vs.size=args.length→(∀ (k:Nat) (y:A),args[k]? = some y→Rel w I μ y (vs.getD k undef)) →
  Calls P f vs w fun e w'=>∃ v,e = .returned v∧∃ H' I' μ',Sim (DD P w I M0 n μ) w' I' μ' H'∧Rel w' I' μ' r v∧∀ (i:Nat) (p:Nm),i<k→H' (i::p)=Hr (i::p)
theorem Sim.of_n {P:Program} {w0 w:World} {I0 I:Nat→Prop} {M0:Nm→Nat→Prop} {n n':Nat} {m0 μ:Mu} {H:Hp} (h:Sim (DD P w0 I0 M0 n m0) w I μ H):Sim (DD P w0 I0 M0 n' m0) w I μ H:=
 ⟨h.kept,h.lt,h.old,h.new,h.ver,h.ob,h.apart,h.own,h.mle,h.tag,h.tab⟩
def MJ (c:Cx) (rs:List ResultVar) (k:Nat) (r:A) (Hr:Hp):Exit→Sta→Prop:=fun e st=>QD c (iV c.P rs (fun r0 H=>r0=r∧∀ (i:Nat) (p:Nm),i<k→H (i::p)=Hr (i::p)) e) st
theorem H5 {c:Cx} {rs:List ResultVar} {k:Nat} {r:A} {Hr:Hp} {e:Exit} {st st':Sta} (h:Le c st st') (k':MJ c rs k r Hr e st'):MJ c rs k r Hr e st:=Hl h k'
theorem SN {c:Cx} {rs:List ResultVar} {k:Nat} {r r0:A} {Hr:Hp} {st:Sta} (h:EU c.P st rs=some r0) (he:r0=r) (hh:∀ (i:Nat) (p:Nm),i<k→st.H (i::p)=Hr (i::p)):MJ c rs k r Hr .ret st:=Gs ⟨r0,h,he,hh⟩
theorem QT {c:Cx} {rs:List ResultVar} {k:Nat} {r r0:A} {Hr:Hp} {st:Sta} (h:EU c.P st rs=some r0) (he:r0=r) (hh:∀ (i:Nat) (p:Nm),i<k→st.H (i::p)=Hr (i::p)):MJ c rs k r Hr .normal st:=Gs ⟨r0,h,he,hh⟩
theorem Mw {P:Program} {f:FuncId} {n k:Nat} {rs:List ResultVar} {cc:CC} {args:List A} {Hc:Hp} {r:A} {Hr:Hp} (t:BU P f n rs cc) (ha:args.length≤n)
  (h:∀ w0 I0 M0 m0,(∀ (o:Nm) (b:Nat),(Hc o).ob = .none→¬ M0 o b)→WPC (DD P w0 I0 M0 n m0) cc (MJ (DD P w0 I0 M0 n m0) rs k r Hr) ⟨NB args,Hc⟩):SpecH P f k args Hc r Hr:=by
 obtain⟨hm,hk,fn,code,hf,hb,hn,hrs,hc⟩:=t;refine⟨hk,fun w I M0 n' μ vs hN hs hl har=>?_⟩;refine(Sy (Q:=fun r0 H=>r0=r∧∀ (i:Nat) (p:Nm),i<k→H (i::p)=Hr (i::p)) hf hb (c:=DD P w I M0 n μ) rfl hn.symm hl (by omega) (Sim.of_n hs) har (fun a w1 I1 μ1 hsr=>wp_mono (Ml (c:=DD P w I M0 n μ) hm hc (h w I M0 μ hN) a w1 I1 μ1 hsr) fun e a' w' ⟨st',I',μ',g1,st2,g2,g3⟩=>by
   obtain⟨I2,μ2,g4⟩:=g2 a' w' I' μ' g1;exact⟨st2,I2,μ2,g4,by rw[hrs];exact g3⟩)).mono fun e w' ⟨v,r0,H',I',μ',he,h1,h2,h3,h4⟩=>?_
 subst h3;exact⟨v,he,H',I',μ',h1.of_n,h2,h4⟩
theorem Z4 {P:Program} {f:FuncId} {n k:Nat} {rs:List ResultVar} {cc:CC} {args:List A} {Hc:Hp} {r:A} {Hr:Hp} (t:BU P f n rs cc) (ha:args.length≤n)
  (h:∀ w0 I0 M0 m0,WPC (DD P w0 I0 M0 n m0) cc (MJ (DD P w0 I0 M0 n m0) rs k r Hr) ⟨NB args,Hc⟩):SpecH P f k args Hc r Hr:=Mw t ha fun w0 I0 M0 m0 _=>h w0 I0 M0 m0
def Og (rs:List Nat):Nm→Nm
 |i::p=>rs.getD i 0::p
 |[]=>[]
def Q2 (rs:List Nat):Nm→Nm
 |j::p=>rs.idxOf j::p
 |[]=>[]
def Oh (rs:List Nat) (m:Nat):Nm→Prop
 |j::p=>rs.idxOf j<m
 |[]=>False
def Ga (k:Nat):Nm→Prop
 |i::p=>i<k
 |[]=>False
def MP (rs:List Nat) (m:Nat) (H:Hp):Nm→Nat
 |i::p=>if i<m then 0 else if i<rs.length then (H (rs.getD i 0::p)).u else 0
 |[]=>0
def VOb.ren (g:Nm→Nm) (δ:Nm→Nat) (d:Nat) (x:VOb):VOb:=⟨x.u+d,x.ob.ren g δ⟩
def GS (rs:List Nat) (m:Nat) (H Hr:Hp):Hp
 |j::p=>(Hr (rs.idxOf j::p)).ren (Og rs) (MP rs m H) (MP rs m H (rs.idxOf j::p))
 |[]=>⟨0,.none⟩
theorem J1 {rs:List Nat} (hnd:rs.Nodup) {i:Nat} (h:i<rs.length):rs.idxOf (rs.getD i 0)=i:=by
 have e:rs.getD i 0=rs[i]:=by simp[List.getD,h]
 rw[e];exact hnd.idxOf_getElem i h
theorem PK {rs:List Nat} {j:Nat} (h:j ∈ rs):rs.getD (rs.idxOf j) 0=j:=by
 have hl:=List.idxOf_lt_length_iff.2 h;simp[List.getD,hl]
theorem idx_mem {rs:List Nat} {j:Nat}:rs.idxOf j<rs.length ↔ j ∈ rs:=List.idxOf_lt_length_iff
theorem bM {g:Nm→Nm} {δ:Nm→Nat} {d:Nat} {x:VOb} (h:(x.ren g δ d).ob = .none):x.ob = .none:=by
 cases x with
 |mk u ob=>cases ob<;>first | rfl | cases h
theorem Qu {P:Program} {f:FuncId} {rs:List Nat} {m:Nat} {args:List A} {Hc Hr:Hp} {r:A} {H:Hp} (hnd:rs.Nodup) (hm:m≤rs.length)
  (hS:SpecH P f rs.length (A.renL (Q2 rs) (fun _=>0) args) Hc r Hr)
  (h1:∀ (i:Nat) (p:Nm),i<m→Hc (i::p)=(H (rs.getD i 0::p)).ren (Q2 rs) (fun _=>0) 0) (h2:∀ (i:Nat) (p:Nm),m≤i→Hc (i::p)=⟨0,.none⟩) (h3:Hc []=⟨0,.none⟩)
  (ha:A.refsL (Oh rs m) args) (hc:∀ (i:Nat) (p:Nm),i<m→(H (rs.getD i 0::p)).ob.refs (Oh rs m))
  (hr:r.refs (Ga rs.length)) (ho:∀ (i:Nat) (p:Nm),i<rs.length→(Hr (i::p)).ob.refs (Ga rs.length))
  (hv:∀ (i:Nat) (p:Nm),m≤i→i<rs.length→(Hr (i::p)).ob = .none∨1≤(Hr (i::p)).u) :
  Qj P H f args (r.ren (Og rs) (MP rs m H)) (.fn rs (GS rs m H Hr)):=by
 refine⟨hS.1,fun c w I μ vs hP hs hl har=>?_⟩
 let nm:Nat→Nm→Nm:=fun i p=>rs.getD i 0::p
 let μc:Mu:=fun o=>match o with
  |i::p=>if i<m then μ (nm i p) else Um (i::p)
  |[]=>Um []
 let M1:Nm→Nat→Prop:=fun o b=>∃ i p,o=i::p∧i<m∧DR (μ (nm i p)) (H (nm i p)).ob=true∧b=(μ (nm i p)).b
 have hμ:∀ o,Oh rs m o→1≤(μ o).u→μc (Q2 rs o)={ μ o with u:=(μ o).u+(fun _=>0) o }:=fun o ho _=>by
  cases o with
  |nil=>exact ho.elim
  |cons j p=>
   have hj:rs.idxOf j<m:=ho;show(if rs.idxOf j<m then μ (nm (rs.idxOf j) p) else _)=_;rw[if_pos hj];have:nm (rs.idxOf j) p=j::p:=by show rs.getD (rs.idxOf j) 0::p=_;rw[PK (idx_mem.1 (by omega))]
   rw[this];rfl
 have nm_ne:∀ {i i':Nat} {p p':Nm},i<rs.length→i'<rs.length→i::p ≠ i'::p'→nm i p ≠ nm i' p':=fun {i i' p p'} hi hi' hne e=>by
  have e1:rs.getD i 0=rs.getD i' 0:=by injection e
  have e2:p=p':=by injection e
  have:=J1 hnd hi;rw[e1,J1 hnd hi'] at this;exact hne (by rw[this,e2])
 have own1:∀ (i:Nat) (p:Nm),DR (μc (i::p)) (Hc (i::p)).ob=true→i<m∧DR (μ (nm i p)) (H (nm i p)).ob=true∧μc (i::p)=μ (nm i p):=fun i p h=>by
  by_cases hi:i<m
  ·have e:μc (i::p)=μ (nm i p):=if_pos hi;rw[e,h1 i p hi] at h;simp only[VOb.ren,Sn] at h;exact⟨hi,h,e⟩
  ·rw[h2 i p (by omega)] at h;cases h
 have start:Sim (DD P w I M1 0 μc) w I μc Hc:=by
  refine⟨⟨rfl,rfl,rfl,Cj _,fun _ _ _=>rfl⟩,hs.lt,fun _ h=>h,fun b hb=>.inl hb,fun o=>?_,fun o=>?_,fun o o' k k' hne=>?_,fun o k=>?_,MuLe.refl _,fun o k=>?_,by subst hP;exact hs.tab⟩
  ·cases o with
   |nil=>rw[h3];rfl
   |cons i p=>
    by_cases hi:i<m
    ·have e:μc (i::p)=μ (nm i p):=if_pos hi;rw[e,h1 i p hi,hs.ver];rfl
    ·have e:μc (i::p)=Um (i::p):=if_neg hi;rw[e,h2 i p (by omega)];rfl
  ·cases o with
   |nil=>rw[h3];trivial
   |cons i p=>
    by_cases hi:i<m
    ·have e:μc (i::p)=μ (nm i p):=if_pos hi;rw[e,h1 i p hi];exact(hs.ob (nm i p)).ren (hc i p hi) hμ rfl
    ·rw[h2 i p (by omega)];trivial
  ·cases o with
   |nil=>rw[h3] at k;cases k
   |cons i p=>
    cases o' with
    |nil=>rw[h3] at k';cases k'
    |cons i' p'=>
     obtain⟨q1,q2,q3⟩:=own1 i p k;obtain⟨r1,r2,r3⟩:=own1 i' p' k';rw[q3,r3];exact hs.apart _ _ q2 r2 (nm_ne (by omega) (by omega) hne)
  ·cases o with
   |nil=>rw[h3] at k;cases k
   |cons i p=>
    obtain⟨q1,q2,q3⟩:=own1 i p k;rw[q3];obtain⟨g1,g2,g3⟩:=hs.own _ q2;exact⟨g1,.inl ⟨i,p,rfl,q1,q2,rfl⟩,g3⟩
  ·cases o with
   |nil=>rw[h3] at k;cases k
   |cons i p=>
    obtain⟨q1,q2,q3⟩:=own1 i p k;rw[q3];exact hs.tag _ q2
 have harg:∀ (k:Nat) (y:A),(A.renL (Q2 rs) (fun _=>0) args)[k]? = some y→Rel w I μc y (vs.getD k undef):=fun k y hk=>by
  rw[Co,List.getElem?_map,Option.map_eq_some_iff] at hk;obtain⟨y',hy,rfl⟩:=hk;exact(har k y' hy).ren (refsL_iff.1 ha y' (List.mem_of_getElem? hy)) hμ
 refine(hS.2 w I M1 0 μc vs (fun o b h ⟨i,p,e,hi,hb,_⟩=>by
  subst e;rw[h1 i p hi] at h;rw[show(H (nm i p)).ob = .none from bM h] at hb;cases hb) start (by simpa[Co] using hl) harg).mono fun e w' ⟨v,he,H',I',μ',hs',hrel,hH'⟩=>⟨v,he,I',?_⟩
 let δ:=MP rs m H
 let μ2:Mu:=fun n=>match n with
  |j::p=>if j ∈ rs then (if rs.idxOf j<m∨1≤(μ' (rs.idxOf j::p)).u then { μ' (rs.idxOf j::p) with u:=(μ' (rs.idxOf j::p)).u+δ (rs.idxOf j::p) } else μ (j::p)) else μ (j::p)
  |[]=>μ []
 have δ0:∀ {i:Nat} {p:Nm},i<m→δ (i::p)=0:=fun {i p} h=>if_pos h;have δ1:∀ {i:Nat} {p:Nm},¬ i<m→i<rs.length→δ (i::p)=(H (nm i p)).u:=fun {i p} h h'=>by
  show(if i<m then _ else _)=_;rw[if_neg h,if_pos h']
 have nmj:∀ {j:Nat} {p:Nm},j ∈ rs→nm (rs.idxOf j) p=j::p:=fun {j p} h=>by show rs.getD (rs.idxOf j) 0::p=_;rw[PK h]
 have app_in:∀ {j:Nat} {p:Nm},j ∈ rs→(Eff.fn rs (GS rs m H Hr)).app H (j::p)=GS rs m H Hr (j::p):=fun {j p} h=>by simp[Eff.app,h]
 have app_out:∀ {j:Nat} {p:Nm},j ∉ rs→(Eff.fn rs (GS rs m H Hr)).app H (j::p)=H (j::p):=fun {j p} h=>by simp[Eff.app,h]
 have app_nil':(Eff.fn rs (GS rs m H Hr)).app H []=H []:=rfl;have mu_in:∀ {j:Nat} {p:Nm},j ∈ rs→(rs.idxOf j<m∨1≤(μ' (rs.idxOf j::p)).u)→μ2 (j::p)={ μ' (rs.idxOf j::p) with u:=(μ' (rs.idxOf j::p)).u+δ (rs.idxOf j::p) }:=fun {j p} h h'=>by
  show(if j ∈ rs then _ else _)=_;rw[if_pos h,if_pos h']
 have mu_old:∀ {j:Nat} {p:Nm},j ∈ rs→¬ (rs.idxOf j<m∨1≤(μ' (rs.idxOf j::p)).u)→μ2 (j::p)=μ (j::p):=fun {j p} h h'=>by
  show(if j ∈ rs then _ else _)=_;rw[if_pos h,if_neg h']
 have mu_out:∀ {j:Nat} {p:Nm},j ∉ rs→μ2 (j::p)=μ (j::p):=fun {j p} h=>by
  show(if j ∈ rs then _ else _)=_;rw[if_neg h]
 have hle:MuLe μ μ2:=fun o=>by
  cases o with
  |nil=>exact⟨Cj _,fun _=>rfl⟩
  |cons j p=>
   by_cases hj:j ∈ rs
   ·by_cases hi:rs.idxOf j<m
    ·rw[mu_in hj (.inl hi),δ0 hi];have e:μc (rs.idxOf j::p)=μ (j::p):=by
      show(if rs.idxOf j<m then _ else _)=_;rw[if_pos hi,nmj hj]
     have:=hs'.mle (rs.idxOf j::p);change (μc (rs.idxOf j::p)).u≤_∧(_=(μc (rs.idxOf j::p)).u→_=μc (rs.idxOf j::p)) at this;rw[e] at this;exact⟨this.1,fun q=>by rw[← this.2 q];rfl⟩
    ·by_cases hu:1≤(μ' (rs.idxOf j::p)).u
     ·rw[mu_in hj (.inr hu),δ1 hi (idx_mem.2 hj),nmj hj,← hs.ver];exact⟨by simp,fun q=>by simp at q;omega⟩
     ·rw[mu_old hj (by omega)];exact⟨Cj _,fun _=>rfl⟩
   ·rw[mu_out hj];exact⟨Cj _,fun _=>rfl⟩
 have notM1:∀ {n:Nm} {b:Nat},DR (μ n) (H n).ob=true→b=(μ n).b→(∀ j p,n=j::p→j ∉ rs)→¬ ∃ o,M1 o b:=fun {n b} hb e hn ⟨_,i,p,_,q1,q2,q3⟩=>by
  refine hs.apart n (nm i p) hb q2 (fun e'=>?_) (by rw[← e,q3]);refine hn _ _ e' ?_;have:i<rs.length:=by omega
  simp[List.getD,this]
 have hx:Ext I μ w I' μ2 w':=⟨fun b h=>hs'.old b h,fun b h=>hs'.kept.block b (hs.lt b h) (fun ⟨_,i,p,_,q1,q2,q3⟩=>(hs.own _ q2).1 (by rw[← q3];exact h)),hle⟩;have hμ2:∀ o,Ga rs.length o→1≤(μ' o).u→μ2 (Og rs o)={ μ' o with u:=(μ' o).u+δ o }:=fun o ho h1=>by
  cases o with
  |nil=>exact ho.elim
  |cons i p=>
   have hi:i<rs.length:=ho;have e:=J1 hnd hi;have hmem:rs.getD i 0 ∈ rs:=idx_mem.1 (by rw[e];exact hi);show μ2 (rs.getD i 0::p)=_;rw[mu_in hmem (.inr (by rw[e];exact h1)),e]
 have oH:∀ {j:Nat} {p:Nm},j ∈ rs→(H' (rs.idxOf j::p))=Hr (rs.idxOf j::p):=fun {j p} h=>hH' _ _ (idx_mem.2 h);have own2:∀ {j:Nat} {p:Nm},j ∈ rs→DR (μ2 (j::p)) (GS rs m H Hr (j::p)).ob=true→DR (μ' (rs.idxOf j::p)) (H' (rs.idxOf j::p)).ob=true∧(μ2 (j::p)).b=(μ' (rs.idxOf j::p)).b:=fun {j p} hj h=>by
  simp only[GS,VOb.ren,Sn] at h;by_cases hi:rs.idxOf j<m∨1≤(μ' (rs.idxOf j::p)).u
  ·rw[mu_in hj hi] at h ⊢;rw[oH hj];exact⟨by cases hq:(Hr (rs.idxOf j::p)).ob<;>rw[hq] at h<;>exact h,rfl⟩
  ·rcases hv (rs.idxOf j) p (by omega) (idx_mem.2 hj) with e | e
   ·rw[e] at h;cases h
   ·rw[← oH hj,← hs'.ver] at e;omega
 have own3:∀ {j:Nat} {p:Nm},j ∈ rs→DR (μ2 (j::p)) (GS rs m H Hr (j::p)).ob=true→(μ2 (j::p)).e=(μ' (rs.idxOf j::p)).e:=fun {j p} hj h=>by
  simp only[GS,VOb.ren,Sn] at h;by_cases hi:rs.idxOf j<m∨1≤(μ' (rs.idxOf j::p)).u
  ·rw[mu_in hj hi]
  ·rcases hv (rs.idxOf j) p (by omega) (idx_mem.2 hj) with e | e
   ·rw[e] at h;cases h
   ·rw[← oH hj,← hs'.ver] at e;omega
 have blk:∀ {i:Nat} {p:Nm},DR (μ' (i::p)) (H' (i::p)).ob=true→¬ I' (μ' (i::p)).b∧(M1 (i::p) (μ' (i::p)).b∨w.heap.size≤(μ' (i::p)).b)∧(μ' (i::p)).b<w'.heap.size:=fun {i p} h=>hs'.own _ h;refine⟨μ2,hx,⟨?_,hs'.lt,fun b h=>hs'.old b (hs.old b h),fun b h=>?_,fun o=>?_,fun o=>?_,fun o o' k k' hne=>?_,fun o k=>?_,hs.mle.trans hle,fun o k=>?_,by subst hP;exact hs'.tab⟩,hrel.ren hr hμ2⟩
 ·have k1:=hs.kept;have k2:=hs'.kept;refine⟨k2.os.trans k1.os,k2.tape.trans k1.tape,k2.output.trans k1.output,Nat.le_trans k1.size k2.size,fun b hb hM=>?_⟩;refine(k2.block b (Nat.lt_of_lt_of_le hb k1.size) (fun ⟨_,i,p,_,q1,q2,q3⟩=>?_)).trans (k1.block b hb hM);rcases (hs.own _ q2).2.1 with g | g
  ·rw[← q3] at g;exact hM ⟨_,g⟩
  ·rw[← q3] at g;omega
 ·rcases hs'.new b h with g | g
  ·exact hs.new b g
  ·exact .inr (Nat.le_trans hs.kept.size g)
 ·cases o with
  |nil=>exact hs.ver []
  |cons j p=>
   by_cases hj:j ∈ rs
   ·rw[app_in hj];show _=(Hr (rs.idxOf j::p)).u+δ (rs.idxOf j::p);rw[← oH hj,← hs'.ver];by_cases hi:rs.idxOf j<m∨1≤(μ' (rs.idxOf j::p)).u
    ·rw[mu_in hj hi]
    ·rw[mu_old hj hi,δ1 (by omega) (idx_mem.2 hj),nmj hj,hs.ver];omega
   ·rw[app_out hj,mu_out hj];exact hs.ver _
 ·cases o with
  |nil=>exact OSim.keep hx (fun hb=>hs'.kept.block _ (hs.own _ hb).2.2 (notM1 hb rfl (fun j p e=>nomatch e))) (hs.ob [])
  |cons j p=>
   by_cases hj:j ∈ rs
   ·rw[app_in hj];by_cases hi:rs.idxOf j<m∨1≤(μ' (rs.idxOf j::p)).u
    ·rw[mu_in hj hi];have:=hs'.ob (rs.idxOf j::p);rw[oH hj] at this;exact this.ren (ho _ _ (idx_mem.2 hj)) hμ2 rfl
    ·rcases hv (rs.idxOf j) p (by omega) (idx_mem.2 hj) with e | e
     ·simp only[GS,VOb.ren,e];trivial
     ·rw[← oH hj,← hs'.ver] at e;omega
   ·rw[app_out hj,mu_out hj];exact OSim.keep hx (fun hb=>hs'.kept.block _ (hs.own _ hb).2.2 (notM1 hb rfl (fun j' p' e=>by cases e;exact hj))) (hs.ob _)
 ·have cross:∀ {j:Nat} {p:Nm} {n:Nm},j ∈ rs→DR (μ2 (j::p)) (GS rs m H Hr (j::p)).ob=true→DR (μ n) (H n).ob=true→(∀ j p,n=j::p→j ∉ rs)→(μ2 (j::p)).b ≠ (μ n).b:=fun {j p n} hj h h' hn e=>by
   obtain⟨q1,q2⟩:=own2 hj h;obtain⟨_,g,_⟩:=blk q1;rw[q2] at e;rcases g with g | g
   ·exact notM1 h' e hn ⟨_,g⟩
   ·have:=(hs.own _ h').2.2;omega
  cases o with
  |nil=>
   cases o' with
   |nil=>exact(hne rfl).elim
   |cons j' p'=>
    by_cases hj':j' ∈ rs
    ·rw[app_in hj'] at k';exact Ne.symm (cross hj' k' k (fun j p e=>nomatch e))
    ·rw[app_out hj',mu_out hj'] at k';rw[mu_out hj'];exact hs.apart _ _ k k' hne
  |cons j p=>
   by_cases hj:j ∈ rs
   ·rw[app_in hj] at k;cases o' with
    |nil=>exact cross hj k k' (fun j p e=>nomatch e)
    |cons j' p'=>
     by_cases hj':j' ∈ rs
     ·rw[app_in hj'] at k';obtain⟨q1,q2⟩:=own2 hj k;obtain⟨r1,r2⟩:=own2 hj' k';rw[q2,r2];refine hs'.apart _ _ q1 r1 (fun e=>hne ?_);have e1:rs.idxOf j=rs.idxOf j':=by injection e
      have e2:p=p':=by injection e
      rw[← PK hj,← PK hj',e1,e2]
     ·rw[app_out hj',mu_out hj'] at k';rw[mu_out hj'];exact cross hj k k' (fun j'' p'' e=>by cases e;exact hj')
   ·rw[app_out hj,mu_out hj] at k;rw[mu_out hj];cases o' with
    |nil=>exact hs.apart _ _ k k' hne
    |cons j' p'=>
     by_cases hj':j' ∈ rs
     ·rw[app_in hj'] at k';exact Ne.symm (cross hj' k' k (fun j'' p'' e=>by cases e;exact hj))
     ·rw[app_out hj',mu_out hj'] at k';rw[mu_out hj'];exact hs.apart _ _ k k' hne
 ·have far:∀ {n:Nm},DR (μ n) (H n).ob=true→¬ I' (μ n).b∧(c.M0 n (μ n).b∨c.w0.heap.size≤(μ n).b)∧(μ n).b<w'.heap.size:=fun {n} h=>by
   obtain⟨g1,g2,g3⟩:=hs.own _ h;refine⟨fun h'=>?_,g2,Nat.lt_of_lt_of_le g3 hs'.kept.size⟩;rcases hs'.new _ h' with g | g
   ·exact g1 g
   ·exact absurd (show w.heap.size≤_ from g) (by omega)
  cases o with
  |nil=>exact far k
  |cons j p=>
   by_cases hj:j ∈ rs
   ·rw[app_in hj] at k;obtain⟨q1,q2⟩:=own2 hj k;rw[q2];obtain⟨g1,g2,g3⟩:=blk q1;refine⟨g1,?_,g3⟩;rcases g2 with ⟨i,p',r0,r1,r2,r3⟩ | g2
    ·have e1:rs.idxOf j=i:=by injection r0
     have e2:p=p':=by injection r0
     rw[← e1,← e2,nmj hj] at r2 r3;rw[r3];exact(hs.own _ r2).2.1
    ·exact .inr (Nat.le_trans hs.kept.size g2)
   ·rw[app_out hj,mu_out hj] at k;rw[mu_out hj];exact far k
 ·cases o with
  |nil=>exact hs.tag _ k
  |cons j p=>
   by_cases hj:j ∈ rs
   ·rw[app_in hj] at k;rw[own3 hj k];exact hs'.tag _ (own2 hj k).1
   ·rw[app_out hj,mu_out hj] at k;rw[mu_out hj];exact hs.tag _ k
def mk (P:Program) (t:TypeId) (as':List A):A:=match P.underlying t with
 |some (.struct _)=>.agg as'
 |_=>as'.headD .any
def lV (R:TypeId→List A→Prop):List Field→List A→Prop
 |[],as'=>as'=[]
 |f::fs,as'=>∃ a b,as'=a++b∧R f.type a∧lV R fs b
def Has (P:Program):Nat→TypeId→List A→Prop
 |0,_,_=>False
 |n+1,t,as'=>match P.underlying t with
  |some .bool=>∃ b,as'=[.v (.bool b)]
  |some (.int k)=>∃ m,(Lit.int k m).wf=true∧as'=[.v (.int k m)]
  |some .string=>∃ s,s.size≤maxLen∧s.size≤reachBytes∧as'=[.v (.string s)]
  |some (.slice e)=>∃ f xs,as'=[.sl f xs]∧xs.length≤maxLen∧xs.length*P.bytesOf e≤reachBytes∧(f=true→xs=[])∧∀ x,x ∈ xs→∃ b,Has P n e b∧x=mk P e b
  |some (.struct fs)=>lV (Has P n) fs.toList as'
  |_=>False
def vv (R:TypeId→List A→Prop):List TypeId→List A→Prop
 |[],as'=>as'=[]
 |t::ts,as'=>∃ a b,as'=a++b∧R t a∧vv R ts b
theorem Sx {R:TypeId→List A→Prop}:∀ {fs:List Field} {as':List A},lV R fs as' ↔ vv R (fs.map Field.type) as'
 |[],as'=>Iff.rfl
 |f::fs,as'=>by simp only[lV,vv,List.map_cons,Sx (fs:=fs)]
def fm (P:Program):Nat→List Field→Option Nat
 |off,[]=>some off
 |off,f::fs=>if f.offset=off then fm P (off+P.cellsOf f.type) fs else none
def Lo (P:Program) (S:List TypeId):Bool:=S.all fun t=>match P.underlying t with
 |some .bool | some (.int _) | some .string=>P.cellsOf t == 1
 |some (.slice e)=>P.cellsOf t == 1&&(decide (0<P.cellsOf e)&&S.contains e)
 |some (.struct fs)=>fm P 0 fs.toList == some (P.cellsOf t)&&fs.toList.all fun f=>S.contains f.type
 |_=>false
theorem fp {β:Type} {R:Nat→β→Prop}:∀ {n:Nat},(∀ i,i<n→∃ b,R i b)→∃ l:List β,l.length=n∧∀ (i:Nat) (b:β),l[i]? = some b→R i b
 |0,_=>⟨[],rfl,fun i b h=>by simp at h⟩
 |n+1,h=>by
  obtain⟨l,h1,h2⟩:=fp (n:=n) (fun i hi=>h i (by omega));obtain⟨b,hb⟩:=h n (by omega);refine⟨l++[b],by simp[h1],fun i c hc=>?_⟩;rw[List.getElem?_append] at hc;split at hc
  ·exact h2 i c hc
  ·rename_i hi;have:i=n:=by
    have:=(List.getElem?_eq_some_iff.1 hc).1;simp at this;omega
   subst this;simp[h1] at hc;subst hc;exact hb
theorem TQ {α β:Type} {f:α→Option β}:∀ {l:List α} {r:List β},l.mapM f=some r→r.length=l.length∧∀ (i:Nat) (a:α),l[i]? = some a→∃ b,f a=some b∧r[i]? = some b
 |[],r,h=>by
  simp at h;subst h;exact⟨rfl,fun i a h=>by simp at h⟩
 |a::l,r,h=>by
  rw[List.mapM_cons] at h;simp only[Option.bind_eq_bind,Option.bind_eq_some_iff] at h;obtain⟨b,hb,r',hr,h⟩:=h;cases h;obtain⟨h1,h2⟩:=TQ hr;refine⟨by simp[h1],fun i c hc=>?_⟩;cases i with
  |zero=>simp at hc;subst hc;exact⟨b,hb,rfl⟩
  |succ i=>simpa using h2 i c (by simpa using hc)
theorem cells?_get {w:World} {base:Nat} {a:Addr} {n:Nat} {cs:List Value} (h:w.cells? base a n=some cs):cs.length=n∧∀ i,i<n→w.cell? (a.add i)=some (cs.getD i undef):=by
 unfold World.cells? at h;split at h
 ·obtain⟨h1,h2⟩:=TQ h;refine⟨by simpa using h1,fun i hi=>?_⟩;obtain⟨b,hb,hr⟩:=h2 i i (by simp[hi]);rw[hb];simp[List.getD,hr]
 ·cases h
theorem Iy {P:Program} {n:Nat} {t:TypeId} {as':List A} (h:Has P n t as'):(mk P t as').cells=as':=by
 cases n with
 |zero=>exact h.elim
 |succ n=>
  unfold Has at h;unfold mk;split at h
  ·rename_i hu;obtain⟨b,rfl⟩:=h;rw[hu];rfl
  ·rename_i hu;obtain⟨m,_,rfl⟩:=h;rw[hu];rfl
  ·rename_i hu;obtain⟨m,_,_,rfl⟩:=h;rw[hu];rfl
  ·rename_i hu;obtain⟨f,xs,rfl,_⟩:=h;rw[hu];rfl
  ·rename_i hu;rw[hu];rfl
  ·exact h.elim
theorem kL {sz:Nat} (hp:0<sz) {xs:List A} {k:Nat} {y:A} (h:∀ x,x ∈ xs→x.cells.length=sz) (hk:(xs.flatMap A.cells)[k]? = some y):∃ x,xs[k / sz]? = some x∧x.cells[k % sz]? = some y:=by
 have hl:=(List.getElem?_eq_some_iff.1 hk).1;rw[BF h] at hl;have hi:k / sz<xs.length:=by rw[Nat.div_lt_iff_lt_mul hp];exact hl
 have hj:k % sz<sz:=Nat.mod_lt _ hp;have hx:xs[k / sz]? = some xs[k / sz]:=List.getElem?_eq_getElem hi;have hcl:=h _ (List.mem_of_getElem? hx);have hz:xs[k / sz].cells[k % sz]? = some (xs[k / sz].cells[k % sz]'(by omega)):=List.getElem?_eq_getElem (by omega);have:=Lr h hx hz;have e:k / sz*sz+k % sz=k:=by rw[Nat.mul_comm];exact Nat.div_add_mod k sz
 rw[e,hk] at this;exact⟨_,hx,by rw[hz];exact this.symm⟩
theorem ig {α:Type} {l l':List α} {k:Nat} {d:α} (h:k<l.length):(l++l').getD k d=l.getD k d:=by
 simp[List.getD,List.getElem?_append_left h]
theorem aH {α:Type} {l l':List α} {k:Nat} {d:α} (h:l.length≤k):(l++l').getD k d=l'.getD (k-l.length) d:=by
 simp[List.getD,List.getElem?_append_right h]
section
variable {H:Type} {enc:TypeId × Value→H} {P:Program} {w:World} {base:Nat} {sp:Nat→Bool} {held:Bool}
abbrev sV (w:World) (b:Nat):Prop:=b<w.heap.size
def Fits (w:World) (as':List A) (cs:List Value):Prop:=as'.length=cs.length∧∀ (k:Nat) (y:A),as'[k]? = some y→y.one=true∧Rel w (sV w) Um y (cs.getD k undef)
theorem Fits.one {x:A} {v:Value} (h:x.one=true) (hr:Rel w (sV w) Um x v):Fits w [x] [v]:=⟨rfl,fun k y hk=>by
 cases k with
 |zero=>cases hk;exact⟨h,hr⟩
 |succ k=>simp at hk⟩
theorem Fits.append {as' bs:List A} {cs ds:List Value} (h:Fits w as' cs) (h':Fits w bs ds):Fits w (as'++bs) (cs++ds):=⟨by simp[h.1,h'.1],fun k y hk=>by
 rw[List.getElem?_append] at hk;split at hk
 ·rename_i hl;have:=h.2 k y hk
  rwa [ig (by rw[← h.1];exact hl)]
 ·rename_i hl;have:=h'.2 _ y hk;rw[aH (by rw[← h.1];omega),← h.1];exact this⟩
theorem R3 {n:Nat} {cs:List Value} (ih:∀ (t:TypeId) (cs:List Value) x,DataW.trod enc P w base sp held n t cs=some x→P.cellsOf t=cs.length→(∀ m,m ∈ DataW.weights P t x.1→m≤reachBytes)→∀ S,Lo P S=true→t ∈ S→∃ as',Has P n t as'∧Fits w as' cs) {S:List TypeId} (hS:Lo P S=true) :
  ∀ (fs:List Field) (off tot:Nat) xs,(∀ m,m ∈ DataW.weightsEach P (fs.map Field.type) (xs.map (·.1))→m≤reachBytes)→(∀ f,f ∈ fs→f.type ∈ S)→fm P off fs=some tot→tot=cs.length→(fs.mapM fun f=>DataW.trod enc P w base sp held n f.type ((cs.drop f.offset).take (P.cellsOf f.type)))=some xs →
   ∃ as',lV (Has P n) fs as'∧Fits w as' (cs.drop off)∧off≤tot
 |[],off,tot,xs,_,_,ht,hn,_=>by
  cases ht;refine⟨[],rfl,⟨?_,fun k y hk=>by simp at hk⟩,Cj _⟩;simp[hn]
 |f::fs,off,tot,xs,hw,hf,ht,hn,hm=>by
  unfold fm at ht;split at ht
  ·rename_i ho;rw[List.mapM_cons] at hm;simp only[Option.bind_eq_bind,Option.bind_eq_some_iff] at hm;obtain⟨x,hx,xs',hxs,hq⟩:=hm;cases hq;simp only[List.map_cons,DataW.weightsEach,List.mem_append] at hw;obtain⟨bs,hb1,hb2,hb3⟩:=R3 ih hS fs (off+P.cellsOf f.type) tot xs' (fun m hm=>hw m (.inr hm)) (fun g hg=>hf g (by simp[hg])) ht hn hxs;rw[ho] at hx;obtain⟨as',ha1,ha2⟩:=ih f.type _ x hx (by simp;omega) (fun m hm=>hw m (.inl hm)) S hS (hf f (by simp));refine⟨as'++bs,⟨as',bs,rfl,ha1,hb1⟩,?_,by omega⟩;have e:cs.drop off=(cs.drop off).take (P.cellsOf f.type)++cs.drop (off+P.cellsOf f.type):=by
    rw[← List.drop_drop,List.take_append_drop]
   rw[e];exact ha2.append hb2
  ·cases ht
theorem Nt {e:TypeId} {d:DataW H} {m:Nat} (h:m ∈ DataW.weights P e d):∀ {l:List (DataW H)},d ∈ l→m ∈ DataW.weightsAll P e l
 |x::l,hd=>by
  simp only[DataW.weightsAll,List.mem_append];rcases List.mem_cons.1 hd with rfl | hd
  ·exact .inl h
  ·exact .inr (Nt h hd)
theorem Fs:∀ (n:Nat) (t:TypeId) (cs:List Value) (x:DataW H × List MemPlace),DataW.trod enc P w base sp held n t cs=some x→P.cellsOf t=cs.length→(∀ m,m ∈ DataW.weights P t x.1→m≤reachBytes)→∀ S,Lo P S=true→t ∈ S→∃ as',Has P n t as'∧Fits w as' cs
 |0,t,cs,x,h,_,_,_,_,_=>by simp[DataW.trod] at h
 |n+1,t,cs,x,h,hlen,hwt,S,hS,ht=>by
  have hT:=hS;unfold Lo at hT;rw[List.all_eq_true] at hT;have hT:=hT t ht;have ih:=Fs n;unfold DataW.trod at h;split at h
  ·rename_i b hu;exact⟨[.v (.bool b)],by unfold Has;rw[hu];exact⟨b,rfl⟩,Fits.one rfl (.v _ _)⟩
  ·rename_i k k' m hu;split at h
   ·rename_i hk;obtain⟨rfl,hw⟩:=hk;exact⟨[.v (.int k' m)],by unfold Has;rw[hu];exact⟨m,hw,rfl⟩,Fits.one rfl (.v _ _)⟩
   ·cases h
  ·rename_i hu;rw[hu] at hT;cases hT
  ·rename_i s hu;split at h
   ·rename_i hs;cases h;have hz:s.size≤reachBytes:=by
     have:=hwt s.data.toList.length (by simp[DataW.weights]);simpa using this
    exact⟨[.v (.string s)],by unfold Has;rw[hu];exact⟨s,hs,hz,rfl⟩,Fits.one rfl (.v _ _)⟩
   ·cases h
  ·rename_i hu;rw[hu] at hT;cases hT
  ·rename_i hu;rw[hu] at hT;cases hT
  ·rename_i e hu;exact⟨[.sl true []],by unfold Has;rw[hu];exact⟨true,[],rfl,by simp,by simp,fun _=>rfl,fun x hx=>by simp at hx⟩,Fits.one rfl (.slN _ _ _ _ (fun _=>rfl))⟩
  ·rename_i e a len cap hu;rw[hu] at hT;simp only[Bool.and_eq_true,decide_eq_true_eq,beq_iff_eq] at hT;obtain⟨_,hpos,heS⟩:=hT;have heS:e ∈ S:=by simpa using heS
   split at h
   ·rename_i hb;obtain⟨hb0,hb1,hb2⟩:=hb;simp only[Option.bind_eq_some_iff] at h;obtain⟨elems,he,h⟩:=h;simp only[Option.map_eq_some_iff] at h;obtain⟨rest,_,rfl⟩:=h;simp only[DataW.weights,hu] at hwt;obtain⟨he1,he2⟩:=TQ he;have each:∀ i,i<len→∃ as':List A,Has P n e as'∧∃ cs,w.cells? base (a.add (i*P.cellsOf e)) (P.cellsOf e)=some cs∧Fits w as' cs:=fun i hi=>by
     obtain⟨y,hy,hg⟩:=he2 i i (by simp[hi]);simp only[Option.bind_eq_some_iff] at hy;obtain⟨cs,hc1,hc2⟩:=hy;obtain⟨as',h1,h2⟩:=ih e cs y hc2 (cells?_get hc1).1.symm (fun m hm=>hwt m (List.mem_cons_of_mem _ (List.mem_append_left _ (Nt hm (List.mem_map.2 ⟨y,List.mem_of_getElem? hg,rfl⟩))))) S hS heS;exact⟨as',h1,cs,hc1,h2⟩
    obtain⟨l,hl1,hl2⟩:=fp each;have hxs:(l.map (mk P e)).length=len:=by simpa using hl1
    refine⟨[.sl false (l.map (mk P e))],by
     unfold Has;rw[hu];refine⟨false,_,rfl,by rw[hxs];omega,by
      have:=hwt _ List.mem_cons_self;rw[hxs];refine Nat.le_trans (Nat.mul_le_mul_right _ ?_) this;simp at he1 ⊢;omega,(fun h=>nomatch h),fun x hx=>?_⟩
     obtain⟨b,hb,rfl⟩:=List.mem_map.1 hx;obtain⟨i,hi⟩:=List.getElem?_of_mem hb;exact⟨b,(hl2 i b hi).1,rfl⟩,Fits.one rfl ?_⟩
    by_cases h0:len=0
    ·subst h0;have:l=[]:=List.length_eq_zero_iff.1 hl1;subst this;exact .slN _ _ _ _ (fun h=>by cases h)
    ·have hlen2:∀ x,x ∈ l.map (mk P e)→x.cells.length=P.cellsOf e:=fun x hx=>by
      obtain⟨b,hb,rfl⟩:=List.mem_map.1 hx;obtain⟨i,hi⟩:=List.getElem?_of_mem hb;obtain⟨k1,cs,k2,k3⟩:=hl2 i b hi;rw[Iy k1,k3.1,(cells?_get k2).1]
     have hspot:a.spot=none∧a.block<w.heap.size:=by
      obtain⟨b,hb⟩:∃ b,l[0]? = some b:=⟨_,List.getElem?_eq_getElem (by omega)⟩;obtain⟨_,cs,k2,_⟩:=hl2 0 b hb;have:=(cells?_get k2).2 0 hpos;simp only[Nat.zero_mul,Addr.add,if_true,World.cell?] at this;split at this
      ·rename_i hh;split at this
       ·cases this
       ·rename_i hsp;exact⟨by simpa using hsp,(Array.getElem?_eq_some_iff.1 hh).1⟩
      ·cases this
     obtain⟨b,off,sp'⟩:=a;obtain⟨hsp,hbl⟩:=hspot;simp only at hsp hbl;subst hsp;have main:∀ (k:Nat) (y:A),((l.map (mk P e)).flatMap A.cells)[k]? = some y→y.one=true∧w.cell? ⟨b,off+k,none⟩=some ((w.cell? ⟨b,off+k,none⟩).getD undef)∧Rel w (sV w) Um y ((w.cell? ⟨b,off+k,none⟩).getD undef):=fun k y hk=>by
      obtain⟨x,hx,hy⟩:=kL hpos hlen2 hk;rw[List.getElem?_map] at hx;simp only[Option.map_eq_some_iff] at hx;obtain⟨as',ha,rfl⟩:=hx;obtain⟨k1,cs,k2,k3⟩:=hl2 _ as' ha;rw[Iy k1] at hy;have hj:k % P.cellsOf e<P.cellsOf e:=Nat.mod_lt _ hpos;have hc:=(cells?_get k2).2 _ hj;have ea:((⟨b,off,none⟩:Addr).add (k / P.cellsOf e*P.cellsOf e)).add (k % P.cellsOf e)=⟨b,off+k,none⟩:=by
       have:=Nat.div_add_mod k (P.cellsOf e);rw[Nat.mul_comm] at this;unfold Addr.add;split<;>split<;>simp<;>omega
      rw[ea] at hc;obtain⟨k4,k5⟩:=k3.2 _ y hy;exact⟨k4,by rw[hc];rfl,by rw[hc];exact k5⟩
     exact .sl _ false b off len cap (P.cellsOf e) _ (fun k=>(w.cell? ⟨b,off+k,none⟩).getD undef) hbl hxs.symm (by omega) (fun h=>by cases h) hlen2 (fun k y hk=>(main k y hk).1) (fun k y hk=>(main k y hk).2.1) (fun k y hk=>(main k y hk).2.2)
   ·cases h
  ·rename_i fs hu;rw[hu] at hT;simp only[Bool.and_eq_true,beq_iff_eq,List.all_eq_true] at hT;split at h
   ·simp only[Option.map_eq_some_iff] at h;obtain⟨xs,hx,rfl⟩:=h;simp only[DataW.weights,hu] at hwt;obtain⟨as',h1,h2,_⟩:=R3 (fun t cs x h hl hw S hS ht=>ih t cs x h hl hw S hS ht) hS fs.toList 0 _ xs hwt (fun f hf=>by simpa using hT.2 f hf) hT.1 hlen hx;exact⟨as',by unfold Has;rw[hu];exact h1,by simpa using h2⟩
   ·cases h
  all_goals first | (rename_i hu;rw[hu] at hT;cases hT;done) | cases h
end
def ArgsHas (P:Program):List TypeId→List A→Prop
 |[],[]=>True
 |t::ts,a::as'=>(∃ n b,Has P n t b∧a=mk P t b)∧ArgsHas P ts as'
 |_,_=>False
section
open Go.ChangeShapes Go.WideShapes
variable {H:Type} {enc:TypeId × Value→H} {P:Program} {w:World} {base:Nat} {sp:Nat→Bool} {held:Bool}
theorem Zb {S:List TypeId} (hS:Lo P S=true) {t:TypeId} (ht:t ∈ S) {v:Value} {d:DataW H} {p:List MemPlace} {base':Nat} (hwt:∀ m,m ∈ DataW.weights P t d→m≤reachBytes) (h:DataW.Trod enc P w base sp held t v d p) (hv:Value.okWide P w .any base' t v) :
  ∃ n b,Has P n t b∧Rel w (sV w) Um (mk P t b) v:=by
 obtain⟨n,hn⟩:=h;have hT:=hS;unfold Lo at hT;rw[List.all_eq_true] at hT;have hT:=hT t ht;have one:∀ {b:List A},Has P n t b→(mk P t b).cells=[mk P t b]→v.cells.toList=[v]→Fits w b v.cells.toList→Rel w (sV w) Um (mk P t b) v:=fun {b} hb h1 h2 h3=>by
  have h4:=Iy hb;rw[h1] at h4;have e:b[0]? = some (mk P t b):=by
   have:[mk P t b][0]? = some (mk P t b):=rfl
   rwa [h4] at this
  have:=(h3.2 0 (mk P t b) e).2;rw[h2] at this;exact this
 cases hu:P.underlying t with
 |none=>rw[hu] at hT;cases hT
 |some ty=>
  rw[hu] at hT;cases ty with
  |struct fs=>
   simp only[Bool.and_eq_true,beq_iff_eq] at hT;obtain⟨cs,rfl,hsz⟩:=okWide_struct hu hv;obtain⟨b,hb,hf⟩:=Fs n t _ _ hn (by show P.cellsOf t=cs.toList.length;simp[hsz]) hwt S hS ht;refine⟨n,b,hb,?_⟩;have:mk P t b = .agg b:=by unfold mk;rw[hu]
   rw[this];refine .agg _ _ _ ?_ fun k y hk=>?_
   ·have:=hf.1;simpa[Value.cells] using this.symm
   ·have:=(hf.2 k y hk).2;simpa[Value.cells,List.getD,Array.getD_eq_getD_getElem?] using this
  |bool=>
   obtain⟨q,rfl⟩:=okWide_bool hu hv;simp only[beq_iff_eq] at hT;obtain⟨b,hb,hf⟩:=Fs n t _ _ hn (by rw[hT];rfl) hwt S hS ht;refine⟨n,b,hb,one hb ?_ rfl hf⟩;obtain⟨y,rfl⟩:∃ y,b=[y]:=List.length_eq_one_iff.1 (by have:=hf.1;simpa[Value.cells] using this);unfold mk;rw[hu];have:=Iy hb;unfold mk at this;rw[hu] at this;exact this
  |int k=>
   obtain⟨q,rfl⟩:=okWide_int hu hv;simp only[beq_iff_eq] at hT;obtain⟨b,hb,hf⟩:=Fs n t _ _ hn (by rw[hT];rfl) hwt S hS ht;refine⟨n,b,hb,one hb ?_ rfl hf⟩;obtain⟨y,rfl⟩:∃ y,b=[y]:=List.length_eq_one_iff.1 (by have:=hf.1;simpa[Value.cells] using this);unfold mk;rw[hu];have:=Iy hb;unfold mk at this;rw[hu] at this;exact this
  |string=>
   obtain⟨q,rfl⟩:=okWide_string hu hv;simp only[beq_iff_eq] at hT;obtain⟨b,hb,hf⟩:=Fs n t _ _ hn (by rw[hT];rfl) hwt S hS ht;refine⟨n,b,hb,one hb ?_ rfl hf⟩;obtain⟨y,rfl⟩:∃ y,b=[y]:=List.length_eq_one_iff.1 (by have:=hf.1;simpa[Value.cells] using this);unfold mk;rw[hu];have:=Iy hb;unfold mk at this;rw[hu] at this;exact this
  |slice e=>
   obtain⟨a,l,c,rfl⟩:=okWide_slice hu hv;simp only[Bool.and_eq_true,beq_iff_eq] at hT;obtain⟨b,hb,hf⟩:=Fs n t _ _ hn (by rw[hT.1];rfl) hwt S hS ht;refine⟨n,b,hb,one hb ?_ rfl hf⟩;obtain⟨y,rfl⟩:∃ y,b=[y]:=List.length_eq_one_iff.1 (by have:=hf.1;simpa[Value.cells] using this);unfold mk;rw[hu];have:=Iy hb;unfold mk at this;rw[hu] at this;exact this
  |_=>simp at hT
theorem OT {S:List TypeId} (hS:Lo P S=true) {base':Nat}:∀ {ts:List TypeId} {vs:List Value} {ds:List (DataW H)} {ps:List MemPlace},(∀ t,t ∈ ts→t ∈ S)→(∀ m,m ∈ DataW.weightsEach P ts ds→m≤reachBytes)→DataW.TrodAll enc P w base sp held ts vs ds ps →
  (∀ (j:Nat) t v,ts[j]? = some t→vs[j]? = some v→Value.okWide P w .any base' t v)→∃ as',as'.length=vs.length∧ArgsHas P ts as'∧∀ (k:Nat) (y:A),as'[k]? = some y→Rel w (sV w) Um y (vs.getD k undef)
 |[],_,_,_,_,_,h,_=>by
  obtain⟨rfl,rfl,rfl⟩:=trodAll_nil h;exact⟨[],rfl,trivial,fun k y hk=>by simp at hk⟩
 |t::ts,_,_,_,hts,hwt,h,hv=>by
  obtain⟨v,vs,d,ds,p,q,rfl,rfl,rfl,h1,h2⟩:=trodAll_cons h;simp only[DataW.weightsEach,List.mem_append] at hwt;obtain⟨n,b,hb,hr⟩:=Zb hS (hts t (by simp)) (fun m hm=>hwt m (.inl hm)) h1 (hv 0 t v rfl rfl);obtain⟨as',k1,k2,k3⟩:=OT hS (fun u hu=>hts u (by simp[hu])) (fun m hm=>hwt m (.inr hm)) h2 (fun j u x hj hx=>hv (j+1) u x (by simpa using hj) (by simpa using hx));refine⟨mk P t b::as',by simp[k1],⟨⟨n,b,hb,rfl⟩,k2⟩,fun k y hk=>?_⟩;cases k with
  |zero=>cases hk;exact hr
  |succ k=>exact k3 k y (by simpa using hk)
end
@[simp] theorem sG {k k':IntKind} {x y:Int}:EA true [.v (.int k x),.v (.int k' y)]=some (.v (.int k (max x y))):=by
 simp only[EA,if_true];congr 3;split<;>omega
@[simp] theorem sZ {k k':IntKind} {x y:Int}:EA false [.v (.int k x),.v (.int k' y)]=some (.v (.int k (min x y))):=by
 simp only[EA,Bool.false_eq_true,if_false];congr 3;split<;>omega
def ov (r:Nat) (F:Nm→VOb) (H:Hp):Hp
 |j::p=>if j=r then F p else H (j::p)
 |[]=>H []
@[simp] theorem Be {r j:Nat} {p:Nm} {F:Nm→VOb} {H:Hp}:ov r F H (j::p)=if j=r then F p else H (j::p):=rfl
@[simp] theorem Agc {r:Nat} {F:Nm→VOb} {H:Hp}:ov r F H []=H []:=rfl
@[simp] theorem AfE {r j:Nat} {p:Nm} {F:Nm→VOb} {H:Hp} {x:VOb}:AJ (ov r F H) (j::p) x=if j=r then ov r (AJ F p x) H else ov r F (AJ H (j::p) x):=by
 funext o;cases o with
 |nil=>
  by_cases h:j=r
  ·rw[if_pos h];simp[AJ]
  ·rw[if_neg h];simp[AJ]
 |cons k q=>
  by_cases h:j=r
  ·subst h;rw[if_pos rfl];by_cases hk:k=j
   ·subst hk;simp[AJ]
   ·have:¬ k::q=j::p:=fun e=>hk (by injection e);simp[AJ,hk,this]
  ·rw[if_neg h];by_cases hk:k=r
   ·subst hk;have:¬ k::q=j::p:=fun e=>h (by injection e with e _;exact e.symm);simp[AJ,this]
   ·simp[AJ,hk]
theorem Aa {α:Type} {F:Nm→α} {d o:Nm} {x:α}:AJ F d x o=if o=d then x else F o:=rfl
def K7 (rs:List Nat) (m:Nat) (H:Hp):Hp
 |i::p=>if i<m then (H (rs.getD i 0::p)).ren (Q2 rs) (fun _=>0) 0 else ⟨0,.none⟩
 |[]=>⟨0,.none⟩
def Lk (rs:List Nat) (δ:Nm→Nat) (B Hr:Hp):Hp
 |j::p=>if rs.contains j=true then (Hr (rs.idxOf j::p)).ren (Og rs) δ (δ (rs.idxOf j::p)) else B (j::p)
 |[]=>B []
theorem Sw {rs:List Nat} {m:Nat} {H Hr:Hp}:(Eff.fn rs (GS rs m H Hr)).app H=Lk rs (MP rs m H) H Hr:=by
 funext o;cases o<;>rfl
theorem Spec.toB {P:Program} {f:FuncId} {args:List A} {r:A} (h:Spec P f args r) (hr:r.flat=true):SpecB P f args r:=
 ⟨h.1,fun w I J vs hI hJ ht hl ha=>(h.2 w (fun b=>I b∨J b) vs (fun b hb=>hb.elim (hI b) (hJ b)) (ht.mono (fun _ h=>.inl h) (fun _ _=>rfl)) hl ha).mono fun e w' ⟨v,he,hB,hr'⟩=>⟨v,he,hB,hr'.of_flat hr⟩⟩
def RO (rs:List Nat) (m:Nat) (H:Hp):Prop:=∀ (j:Nat) (p:Nm),rs.idxOf j<m→(H (j::p)).ob.refs (Oh rs m)
theorem YD {P:Program} {K:Sta→Prop} {rest:List CO} {s:Nat→A} {H:Hp} {dd:Option Nat} {nm:Nm} {ix:Nat} {un:List Nat} {l:Bool} {lg:Lg} {g:FuncId} {as':Array Operand} {ts:Array TypeId}
  (rs:List Nat) (m:Nat) {args:List A} {Hc Hr H':Hp} {r x:A} (hS:SpecH P g rs.length args Hc r Hr) (hnd:rs.Nodup) (hm:m≤rs.length)
  (ha:A.renL (Q2 rs) (fun _=>0) (as'.toList.map (evs s))=args) (har:A.refsL (Oh rs m) (as'.toList.map (evs s))) (hH:K7 rs m H=Hc) (hcl:RO rs m H)
  (hr:r.refs (Ga rs.length)) (ho:∀ (i:Nat) (p:Nm),i<rs.length→(Hr (i::p)).ob.refs (Ga rs.length)) (hv:∀ (i:Nat) (p:Nm),m≤i→i<rs.length→(Hr (i::p)).ob = .none∨1≤(Hr (i::p)).u)
  (hx:r.ren (Og rs) (MP rs m H)=x) (hH':Lk rs (MP rs m H) H Hr=H') (hck:Ck un lg ⟨[],rs.map fun r=>([r],true)⟩)
  (h:An P K rest (A9 l ix ⟨[],rs.map fun r=>([r],true)⟩ lg) (Sta.put ⟨s,H⟩ dd x H')) :
  An P K (⟨dd,.call { callee:=.value (.func g),args:=as',argTypes:=ts },none,nm,ix,un,l⟩::rest) lg ⟨s,H⟩:=by
 have hit_in:∀ {j:Nat} {p:Nm},j ∈ rs→SH (rs.map fun r=>([r],true)) (j::p)=true:=fun {j p} hj=>by
  simp only[SH,List.any_map,List.any_eq_true];exact⟨j,hj,by simp[Pp,List.isPrefixOf]⟩
 have hnil:(Eff.fn rs (GS rs m H Hr)).app H=H':=by rw[Sw];exact hH'
 subst hx;rw[← hnil] at h;refine ZP (Eff.fn rs (GS rs m H Hr)) [] (rs.map fun r=>([r],true)) (fun H2 hag=>?_) (fun o H2 ho'=>?_) hck h
 ·have ag:∀ {j:Nat} {p:Nm},j ∈ rs→H2 (j::p)=H (j::p):=fun {j p} hj=>hag _ (by simpa using hit_in hj);have agi:∀ {i:Nat} {p:Nm},i<rs.length→H2 (rs.getD i 0::p)=H (rs.getD i 0::p):=fun {i p} hi=>ag (by simp[List.getD,hi]);have hd:MP rs m H2=MP rs m H:=by
   funext o;cases o with
   |nil=>rfl
   |cons i p=>
    simp only[MP];by_cases hi:i<rs.length
    ·rw[agi hi]
    ·rw[if_neg hi,if_neg hi]
  have hoH:GS rs m H2 Hr=GS rs m H Hr:=by
   funext o;cases o with
   |nil=>rfl
   |cons j p=>simp only[GS,hd]
  subst ha;have:=Qu (P:=P) (f:=g) (rs:=rs) (m:=m) (args:=as'.toList.map (evs s)) (Hc:=Hc) (Hr:=Hr) (r:=r) (H:=H2) hnd hm hS
   (fun i p hi=>by rw[← hH,agi (by omega)];simp only[K7,if_pos hi]) (fun i p hi=>by rw[← hH];simp only[K7];rw[if_neg (by omega)]) (by rw[← hH];rfl) har
   (fun i p hi=>by rw[agi (by omega)];exact hcl _ _ (by rw[J1 hnd (by omega)];exact hi)) hr ho hv
  rwa [hd,hoH] at this
 ·cases o with
  |nil=>rfl
  |cons j p=>
   have:¬ j ∈ rs:=fun hj=>by rw[hit_in hj] at ho';cases ho'
   simp[Eff.app,this]
end Go.G
