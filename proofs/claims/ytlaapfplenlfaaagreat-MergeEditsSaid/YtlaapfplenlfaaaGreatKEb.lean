/-
 Texts,merged,without what is not reached.
-/
import Derived.Test.YtlaapfplenlfaaaGreatKEa
set_option linter.unusedSimpArgs false
set_option linter.unusedVariables false
open Go.IntKind (i64 u64)
namespace Go.G
open Go.RowKit
section
variable {P:Program} {nms:Nat→Nm} {need:Nat→Nat→Bool} {ops:Array Oper} {md:Region.Mode}
def HA (P:Program) (nms:Nat→Nm) (need:Nat→Nat→Bool) (ops:Array Oper) (i:Nat) (K:Lg→Sta→Prop) (lg:Lg) (st:Sta):Prop:=
 match ops[i]? with
 |none=>K lg st
 |some o=>∃ x E f,CH P nms ops i o st x E f∧Tj need lg i f∧K ((i,f)::lg) (st.put o.dst x (E.app st.H))
def XA (P:Program) (nms:Nat→Nm) (need:Nat→Nat→Bool) (md:Region.Mode) (ops:Array Oper) (K:Sta→Prop):Nat→Array Bool→Lg→Sta→Prop
 |0,listed,lg,st=>Region.ready md ops listed=[]∧K st
 |fuel+1,listed,lg,st=>(Region.ready md ops listed=[]→K st)∧∀ i ∈ Region.ready md ops listed,HA P nms need ops i (XA P nms need md ops K fuel (listed.setIfInBounds i true)) lg st
theorem Vb {i:Nat} {lg:Lg} {st:Sta} {K K':Lg→Sta→Prop} (h:∀ lg st,K lg st→K' lg st) (hh:HA P nms need ops i K lg st):HA P nms need ops i K' lg st:=by
 unfold HA at *;split
 ·exact h _ _ (by simpa[*] using hh)
 ·rename_i o ho;simp only[ho] at hh;obtain⟨x,E,f,h1,h2,h3⟩:=hh;exact⟨x,E,f,h1,h2,h _ _ h3⟩
def Same (lg lg':Lg):Prop:=∀ p,p ∈ lg ↔ p ∈ lg'
theorem Same.cons {lg lg':Lg} (h:Same lg lg') (p:Nat × Ft):Same (p::lg) (p::lg'):=fun q=>by simp[h q]
theorem Oy {K:Sta→Prop}:∀ (fuel:Nat) (listed:Array Bool) {lg lg':Lg} {st:Sta},Same lg lg'→XA P nms need md ops K fuel listed lg st→XA P nms need md ops K fuel listed lg' st
 |0,_,_,_,_,_,h=>h
 |fuel+1,listed,lg,lg',st,hs,h=>⟨h.1,fun i hi=>by
   have h1:=h.2 i hi;unfold HA at *;split
   ·rename_i ho;simp only[ho] at h1;exact Oy fuel _ hs h1
   ·rename_i o ho;simp only[ho] at h1;obtain⟨x,E,f,h2,h3,h4⟩:=h1;exact⟨x,E,f,h2,fun p hp hn=>h3 p ((hs p).2 hp) hn,Oy fuel _ (hs.cons _) h4⟩⟩
theorem Lb {c:Cx} {K:Sta→Prop} {Q:Exit→Act→World→Prop} (hd:Ot c.n ops=true) (hQ:∀ st a w I μ,SR c st a w I μ→K st→Q .normal a w) :
  ∀ (fuel:Nat) (listed:Array Bool) (lg:Lg) (st:Sta) (a:Act) (w:World) (I:Nat→Prop) (μ:Mu),SR c st a w I μ→XA c.P nms need md ops K fuel listed lg st→wpAny c.P md ops Q fuel listed a w
 |0,_,_,st,a,w,I,μ,h,hs=>⟨hs.1,hQ st a w I μ h hs.2⟩
 |fuel+1,listed,lg,st,a,w,I,μ,h,hs=>by
  refine⟨fun h0=>hQ st a w I μ h (hs.1 h0),fun i hi=>?_⟩;have h1:=hs.2 i hi;unfold HA at h1;unfold wpOp;split
  ·rename_i ho;simp only[ho] at h1;exact Lb hd hQ fuel _ _ st a w I μ h h1
  ·rename_i o ho;simp only[ho] at h1;obtain⟨x,E,f,⟨q,x0,hg,h2,rfl,h3⟩,_,hk⟩:=h1;have hw:=MR h hd hg;have hdst:=Mo hd ho;cases q with
   |true=>
    rw[hw,if_pos rfl];exact .inl (QM h hdst (h2 rfl) (fun a' w' I' μ' h'=>Lb hd hQ fuel _ _ _ a' w' I' μ' h' hk))
   |false=>
    rw[hw,if_neg (by simp)];obtain⟨rfl,_,_⟩:=h3 rfl;exact Lb hd hQ fuel _ _ _ _ _ I μ (QP h hdst) hk
theorem Yi {o:Oper} {st:Sta} {dst:Option Tmp} {x:A} {H:Hp} (h:∀ d,dst=some d→d ∉ o.looksAt ops):∀ z ∈ o.op.operands,evs (st.put dst x H).s z=evs st.s z:=by
 intro z hz;cases dst with
 |none=>rfl
 |some d=>
  cases z with
  |tmp t=>
   have:t ≠ d:=fun e=>h d rfl (by subst e;exact List.mem_append_left _ (List.mem_filterMap.2 ⟨.tmp t,by simpa using hz,rfl⟩));simp[evs,Sta.put,upd,this]
  |const x=>rfl
  |global g=>rfl
  |func f=>rfl
theorem R5 {o:Oper} {st:Sta} {dst:Option Tmp} {x:A} {H:Hp} {q:Bool} (h:∀ d,dst=some d→d ∉ o.looksAt ops):LH ops (st.put dst x H) o q ↔ LH ops st o q:=by
 cases dst with
 |none=>rfl
 |some d=>
  unfold LH;cases hg:o.guard with
  |none=>rfl
  |some p=>
   obtain⟨j,f⟩:=p;constructor
   ·rintro⟨d',h1,h2⟩;have:d' ≠ d:=fun e=>h d rfl (by subst e;simp[Oper.looksAt,hg,h1]);refine⟨d',h1,?_⟩;simpa[Sta.put,upd,this] using h2
   ·rintro⟨d',h1,h2⟩;have:d' ≠ d:=fun e=>h d rfl (by subst e;simp[Oper.looksAt,hg,h1]);refine⟨d',h1,?_⟩;simpa[Sta.put,upd,this] using h2
theorem SG {i:Nat} {o:Oper} {st st':Sta} {x:A} {E:Eff} {f:Ft} (hg:∀ q,LH ops st' o q ↔ LH ops st o q) (he:∀ z ∈ o.op.operands,evs st'.s z=evs st.s z) (hH:Agree (f.R++f.W) st.H st'.H)
  (h:CH P nms ops i o st x E f):CH P nms ops i o st' x E f:=by
 obtain⟨q,x0,h1,h2,h3,h4⟩:=h;exact⟨q,x0,(hg q).2 h1,fun hq=>YZ (fun z hz=>(he z hz).symm) (Y3 (h2 hq) hH),h3,h4⟩
theorem OY {i:Nat} {o:Oper} {st:Sta} {x:A} {E:Eff} {f:Ft} (h:CH P nms ops i o st x E f):Mz E f.W:=by
 obtain⟨q,x0,h1,h2,h3,h4⟩:=h;cases q with
 |true=>exact eG (h2 rfl)
 |false=>obtain⟨rfl,_,_⟩:=h4 rfl;exact E9 _
theorem XU {st:Sta} {d:Option Tmp} {x:A} {H:Hp}:(st.put d x H).H=H:=by cases d<;>rfl
theorem bo (E:Eff) {H H':Hp} {o:Nm} (h:H o=H' o):E.app H o=E.app H' o:=by
 cases E with
 |nil=>exact h
 |one d x=>simp only[K5,Az];rw[h]
 |fn rs F=>
  simp only[Eff.app];cases o with
  |nil=>exact h
  |cons r p=>simp only;rw[h]
theorem b9 {E1 E2:Eff} {f g:Ft} (h1:Mz E1 f.W) (h2:Mz E2 g.W) (hn:nc f g=true) (H:Hp):E2.app (E1.app H)=E1.app (E2.app H):=by
 funext o;simp only[nc,Bool.and_eq_true,Om] at hn;cases ha:QQ f.W o with
 |false=>
  rw[h1 o _ ha];exact bo E2 (h1 o H ha)
 |true=>
  have hb:QQ g.W o=false:=by
   cases hb:QQ g.W o with
   |false=>rfl
   |true=>exact(UN hn.1.2 ha hb).elim
  rw[h2 o _ hb];exact(bo E1 (h2 o H hb)).symm
theorem R9 {E:Eff} {f g:Ft} (h:Mz E f.W) (hn:nc f g=true) (H:Hp):Agree (g.R++g.W) H (E.app H):=fun o ho=>h o H (by
 simp only[nc,Bool.and_eq_true] at hn;cases ha:QQ f.W o with
 |false=>rfl
 |true=>exact(UN hn.1 ha ho).elim)
theorem dX {st:Sta} {d e:Option Tmp} {x y:A} {H1 H2 H3:Hp} (h:∀ k,d=some k→e ≠ some k):(st.put d x H1).put e y H3=(st.put e y H2).put d x H3:=by
 cases d with
 |none=>cases e<;>rfl
 |some d=>
  cases e with
  |none=>rfl
  |some e=>
   have hne:d ≠ e:=fun he=>h d rfl (by rw[he]);simp only[Sta.put,Sta.mk.injEq,and_true];funext t;simp only[upd];by_cases h1:t=e<;>by_cases h2:t=d<;>simp_all
theorem WH {i j:Nat} {oi oj:Oper} {x:A} {E:Eff} {f:Ft} {lg:Lg} (hj:ops[j]? = some oj) (hap:oi.apart ops oj=true) (hneed:∀ g y E' st',CH P nms ops j oj st' y E' g→(need i j=true→nc f g=true)→nc f g=true) (hsym:need i j=need j i)
  {K:Lg→Sta→Prop} {st:Sta} (hy:CH P nms ops i oi st x E f) (hlg:Tj need lg i f) (h:HA P nms need ops j K ((i,f)::lg) (st.put oi.dst x (E.app st.H))) :
  HA P nms need ops j (fun lg' st'=>∃ g,lg'=(j,g)::lg∧CH P nms ops i oi st' x E f∧Tj need lg' i f∧K ((j,g)::(i,f)::lg) (st'.put oi.dst x (E.app st'.H))) lg st:=by
 obtain⟨h1,h2,h3⟩:=Oper.apart_spec hap;unfold HA at *;simp only[hj] at *;obtain⟨y,E2,g,hyj,hck,hK⟩:=h;have hnc:nc f g=true:=hneed g y E2 _ hyj (fun hn=>hck (i,f) (by simp) hn);have s1:=OY hy;have s2:=OY hyj;rw[XU] at hK;have hyj':CH P nms ops j oj st y E2 g:=SG (fun q=>(R5 h1).symm) (fun z hz=>(Yi h1 z hz).symm) (by
  rw[XU];intro o ho;exact(R9 s1 hnc st.H o ho).symm) hyj
 have hy':CH P nms ops i oi (st.put oj.dst y (E2.app st.H)) x E f:=SG (fun q=>R5 h3) (fun z hz=>Yi h3 z hz) (by
  rw[XU];exact R9 s2 (Yc hnc) st.H) hy
 refine⟨y,E2,g,hyj',fun p hp hn=>hck p (List.mem_cons_of_mem _ hp) hn,g,rfl,hy',fun p hp hn=>?_,?_⟩
 ·rcases List.mem_cons.1 hp with rfl | hp
  ·exact Yc hnc
  ·exact hlg p hp hn
 ·rw[XU,← dX (H1:=E.app st.H) h2,← b9 s1 s2 hnc];exact hK
def Q1 (ops:Array Oper) (i j:Nat):Bool:=
 match ops[i]?,ops[j]? with
 |some a,some b=>!(LQ a.op == 0 || LQ b.op == 0 || (LQ a.op≤1&&LQ b.op≤1))
 |_,_=>false
theorem Xq {i j:Nat}:Q1 ops i j=Q1 ops j i:=by
 unfold Q1;cases ops[i]?<;>cases ops[j]?<;>simp[Bool.or_comm,Bool.and_comm]
theorem Pj {i:Nat} {o:Oper} {st:Sta} {x:A} {E:Eff} {f:Ft} (hc:LQ o.op=0) (h:CH P nms ops i o st x E f):f.R=[]∧f.W=[]:=by
 obtain⟨q,x0,h1,h2,h3,h4⟩:=h;cases q with
 |true=>exact V8 hc (h2 rfl)
 |false=>exact(h4 rfl).2
theorem OO {i:Nat} {o:Oper} {st:Sta} {x:A} {E:Eff} {f:Ft} (hc:LQ o.op≤1) (h:CH P nms ops i o st x E f):f.W=[]:=by
 obtain⟨q,x0,h1,h2,h3,h4⟩:=h;cases q with
 |true=>exact dj hc (h2 rfl)
 |false=>exact(h4 rfl).2.2
theorem IJ {l:Fp}:Wb l []=true:=by simp[Wb]
theorem Hk {l:Fp}:Wb [] l=true:=by simp[Wb]
theorem ir {i j:Nat} {a b:Oper} {st st':Sta} {x y:A} {E E':Eff} {f g:Ft} (ha:ops[i]? = some a) (hb:ops[j]? = some b) (hy:CH P nms ops i a st x E f) (hz:CH P nms ops j b st' y E' g) (h:Q1 ops i j=true→nc f g=true):nc f g=true:=by
 cases hn:Q1 ops i j with
 |true=>exact h hn
 |false=>
  unfold Q1 at hn;rw[ha,hb] at hn;simp only[Bool.not_eq_false',Bool.or_eq_true,beq_iff_eq,Bool.and_eq_true,decide_eq_true_eq] at hn;rcases hn with (h0 | h0) | ⟨h1,h2⟩
  ·obtain⟨e1,e2⟩:=Pj h0 hy;simp[nc,e1,e2,IJ,Hk]
  ·obtain⟨e1,e2⟩:=Pj h0 hz;simp[nc,e1,e2,IJ,Hk]
  ·have e1:=OO h1 hy;have e2:=OO h2 hz;simp[nc,e1,e2,Hk]
inductive Ur (md:Region.Mode) (ops:Array Oper):Nat→Nat→Prop
 |base {j:Nat} {o:Oper} {e:Edge}:ops[j]? = some o→e ∈ o.after→Region.binds md e=true→Ur md ops e.on j
 |step {i j:Nat} {o:Oper} {e:Edge}:ops[j]? = some o→e ∈ o.after→Region.binds md e=true→Ur md ops i e.on→Ur md ops i j
def Closed (md:Region.Mode) (ops:Array Oper) (listed:Array Bool):Prop:=∀ m o,ops[m]? = some o→listed.getD m false=true→∀ e ∈ o.after,Region.binds md e=true→listed.getD e.on false=true
theorem Closed.ord {listed:Array Bool} (hc:Closed md ops listed) {i j:Nat} (h:Ur md ops i j):listed.getD j false=true→listed.getD i false=true:=by
 induction h with
 |base ho he hb=>exact fun h=>hc _ _ ho h _ he hb
 |step ho he hb _ ih=>exact fun h=>ih (hc _ _ ho h _ he hb)
theorem Closed.ready {listed:Array Bool} (hc:Closed md ops listed) {i j:Nat} (hj:j ∈ Region.ready md ops listed) (h:Ur md ops i j):listed.getD i false=true:=by
 obtain⟨_,oj,hoj,hall⟩:=mem_ready.1 hj;cases h with
 |base ho he hb=>rw[hoj] at ho;cases ho;exact hall _ he hb
 |step ho he hb hi=>rw[hoj] at ho;cases ho;exact hc.ord hi (hall _ he hb)
theorem Closed.add {listed:Array Bool} (hc:Closed md ops listed) {i:Nat} (hi:i ∈ Region.ready md ops listed):Closed md ops (listed.setIfInBounds i true):=by
 obtain⟨_,oi,hoi,hall⟩:=mem_ready.1 hi;intro m o ho hm e he hb;have keep:∀ k,listed.getD k false=true→(listed.setIfInBounds i true).getD k false=true:=fun k hk=>by
  by_cases hik:i=k
  ·subst hik;simp only[Array.getD_eq_getD_getElem?] at hk ⊢;rw[Array.getElem?_setIfInBounds];split
   ·split
    ·rfl
    ·rename_i h1;rw[Array.getElem?_eq_none (by omega)] at hk;cases hk
   ·exact hk
  ·rw[getD_set_ne false hik];exact hk
 by_cases hmi:i=m
 ·subst hmi;rw[hoi] at ho;cases ho;exact keep _ (hall e he hb)
 ·rw[getD_set_ne false hmi] at hm;exact keep _ (hc m o ho hm e he hb)
theorem Tf {listed:Array Bool} {i:Nat} (h:listed.getD i true=false):listed.getD i false=false:=by
 simp only[Array.getD_eq_getD_getElem?] at h ⊢;cases hq:listed[i]?<;>simp_all
def Xi (md:Region.Mode) (o:Oper) (acc:List Nat):Nat:=o.after.toList.foldr (fun e m=>if Region.binds md e=true then m ||| (1 <<< e.on) ||| acc.getD e.on 0 else m) 0
def Uy (md:Region.Mode):List Oper→List Nat→List Nat
 |[],acc=>acc
 |o::l,acc=>Uy md l (acc++[Xi md o acc])
theorem WK {o:Oper} {acc:List Nat} {i:Nat} (h:(Xi md o acc).testBit i=true):∃ e,e ∈ o.after∧Region.binds md e=true∧(e.on=i∨(acc.getD e.on 0).testBit i=true):=by
 unfold Xi at h;have:∀ l:List Edge,(l.foldr (fun e m=>if Region.binds md e=true then m ||| (1 <<< e.on) ||| acc.getD e.on 0 else m) 0).testBit i=true→∃ e,e ∈ l∧Region.binds md e=true∧(e.on=i∨(acc.getD e.on 0).testBit i=true):=by
  intro l;induction l with
  |nil=>intro h;simp at h
  |cons e l ih=>
   intro h;simp only[List.foldr_cons] at h;split at h
   ·rename_i hb;simp only[Nat.testBit_or,Bool.or_eq_true] at h;rcases h with (h | h) | h
    ·obtain⟨e',h1,h2⟩:=ih h;exact⟨e',List.mem_cons_of_mem _ h1,h2⟩
    ·refine⟨e,by simp,hb,.inl ?_⟩;rw[Nat.one_shiftLeft,Nat.testBit_two_pow] at h;simpa using h
    ·exact⟨e,by simp,hb,.inr h⟩
   ·obtain⟨e',h1,h2⟩:=ih h;exact⟨e',List.mem_cons_of_mem _ h1,h2⟩
 obtain⟨e,h1,h2⟩:=this _ h;exact⟨e,by simpa using h1,h2⟩
theorem Po:∀ (l:List Oper) (acc:List Nat),(∀ k,l[k]? = ops[acc.length+k]?)→(∀ i j,(acc.getD j 0).testBit i=true→Ur md ops i j)→∀ i j,((Uy md l acc).getD j 0).testBit i=true→Ur md ops i j
 |[],acc,_,h=>h
 |o::l,acc,hl,h=>by
  unfold Uy;refine Po l _ (fun k=>by have:=hl (k+1);simpa[Nat.add_assoc,Nat.add_comm 1 k] using this) (fun i j hj=>?_);have h0:ops[acc.length]? = some o:=by simpa using (hl 0).symm
  rcases Nat.lt_trichotomy j acc.length with hlt | rfl | hgt
  ·rw[List.getD_eq_getElem?_getD,List.getElem?_append_left hlt,← List.getD_eq_getElem?_getD] at hj;exact h i j hj
  ·rw[List.getD_eq_getElem?_getD,List.getElem?_append_right (Ei _)] at hj;simp only[Nat.sub_self,List.getElem?_cons_zero,Option.getD_some] at hj;obtain⟨e,h1,h2,h3 | h3⟩:=WK hj
   ·subst h3;exact .base h0 h1 h2
   ·exact .step h0 h1 h2 (h i e.on h3)
  ·rw[List.getD_eq_getElem?_getD,List.getElem?_eq_none (by simp;omega)] at hj;simp at hj
def Pz (ms:List Nat) (i j:Nat):Bool:=(ms.getD j 0).testBit i
def O6 (ops:Array Oper) (ms:List Nat) (i j:Nat):Bool:=Q1 ops i j&&!Pz ms i j&&!Pz ms j i
theorem WN {ms:List Nat} {i j:Nat}:O6 ops ms i j=O6 ops ms j i:=by
 unfold O6;rw[Xq,Bool.and_assoc,Bool.and_comm (!Pz ms i j),← Bool.and_assoc]
theorem ZO {K:Sta→Prop} {i:Nat} {oi:Oper} (hi:ops[i]? = some oi) {f:Ft} :
  ∀ (fuel:Nat) (listed:Array Bool) (lg:Lg) (st:Sta) (x:A) (E:Eff),
   Closed md ops listed→(∀ j oj,ops[j]? = some oj→j ≠ i→listed.getD j true=false→¬ Ur md ops i j→¬ Ur md ops j i→oi.apart ops oj=true∧need i j=need j i∧(∀ g y E' st',CH P nms ops j oj st' y E' g→(need i j=true→nc f g=true)→nc f g=true)) →
   i ∈ Region.ready md ops listed→CH P nms ops i oi st x E f→Tj need lg i f →
   XA P nms need md ops K fuel (listed.setIfInBounds i true) ((i,f)::lg) (st.put oi.dst x (E.app st.H))→XA P nms need md ops K (fuel+1) listed lg st:=by
 have self:∀ {lg:Lg} {st:Sta} {x:A} {E:Eff} {K':Lg→Sta→Prop},CH P nms ops i oi st x E f→Tj need lg i f→K' ((i,f)::lg) (st.put oi.dst x (E.app st.H))→HA P nms need ops i K' lg st:=fun hy ha h=>by
  unfold HA;simp only[hi];exact⟨_,_,_,hy,ha,h⟩
 intro fuel;induction fuel with
 |zero=>
  intro listed lg st x E _ _ hr hy ha H;refine⟨fun h=>(by rw[h] at hr;cases hr),fun j hj=>?_⟩;by_cases hji:j=i
  ·subst hji;exact self hy ha H
  ·have:=ready_mono hj hji;rw[H.1] at this;cases this
 |succ fuel ih=>
  intro listed lg st x E hcl hfree hr hy ha H;refine⟨fun h=>(by rw[h] at hr;cases hr),fun j hj=>?_⟩;by_cases hji:j=i
  ·subst hji;exact self hy ha H
  ·have h1:=H.2 j (ready_mono hj hji);obtain⟨hjun,oj,hoj,hall⟩:=mem_ready.1 hj;have hun:listed.getD i true=false:=(mem_ready.1 hr).1;have no1:¬ Ur md ops i j:=fun h=>by have:=hcl.ready hj h;rw[Tf hun] at this;cases this
   have no2:¬ Ur md ops j i:=fun h=>by have:=hcl.ready hr h;rw[Tf hjun] at this;cases this
   obtain⟨hap,hsy,hnd⟩:=hfree j oj hoj hji hjun no1 no2;have h2:=WH hoj hap hnd hsy hy ha h1;have hfree':∀ k ok,ops[k]? = some ok→k ≠ i→(listed.setIfInBounds j true).getD k true=false →
     ¬ Ur md ops i k→¬ Ur md ops k i→oi.apart ops ok=true∧need i k=need k i∧(∀ g y E' st',CH P nms ops k ok st' y E' g→(need i k=true→nc f g=true)→nc f g=true):=fun k ok hk hki hun hno1 hno2=>by
    refine hfree k ok hk hki ?_ hno1 hno2;by_cases hjk:j=k
    ·subst hjk;exact hjun
    ·rw[getD_set_ne true hjk] at hun;exact hun
   refine Vb (fun lg' st' ⟨g,e,h3,h4,h5⟩=>ih (listed.setIfInBounds j true) lg' st' x E (hcl.add hj) hfree' (ready_mono hr (Ne.symm hji)) h3 h4 ?_) h2;subst e;rw[Array.setIfInBounds_comm _ _ hji];exact Oy fuel _ (fun p=>by simp only[List.mem_cons];exact⟨fun h=>h.elim (fun h=>.inr (.inl h)) (fun h=>h.elim .inl (fun h=>.inr (.inr h))),fun h=>h.elim (fun h=>.inr (.inl h)) (fun h=>h.elim .inl (fun h=>.inr (.inr h)))⟩) h5
def cP (md:Region.Mode) (ops:Array Oper) (ms:List Nat) (listed:Array Bool) (i:Nat):Bool:=
 match ops[i]? with
 |none=>false
 |some oi=>(List.range ops.size).all fun j=>j == i || listed.getD j true || Pz ms i j || Pz ms j i || match ops[j]? with
   |some oj=>oi.apart ops oj
   |none=>true
theorem Wr {ms:List Nat} (hms:∀ i j,Pz ms i j=true→Ur md ops i j) {i:Nat} {oi:Oper} {listed:Array Bool} (hi:ops[i]? = some oi) (h:cP md ops ms listed i=true) (j:Nat) (oj:Oper)
  (hj:ops[j]? = some oj) (hne:j ≠ i) (hun:listed.getD j true=false) (h1:¬ Ur md ops i j) (h2:¬ Ur md ops j i) :
  oi.apart ops oj=true:=by
 simp only[cP,hi,List.all_eq_true,List.mem_range] at h;have:=h j (Array.getElem?_eq_some_iff.1 hj).1;simp only[hj,hun,Bool.or_eq_true,beq_iff_eq,hne,Bool.false_eq_true,or_false,false_or,Bool.and_eq_true] at this;rcases this with (h3 | h3) | h3
 ·exact(h1 (hms _ _ h3)).elim
 ·exact(h2 (hms _ _ h3)).elim
 ·exact h3
def Kh (md:Region.Mode) (ops:Array Oper) (ms:List Nat):Nat→Nat→Array Bool→Bool
 |0,_,listed=>(Region.ready md ops listed).isEmpty
 |fuel+1,k,listed=>(Region.ready md ops listed).contains k&&cP md ops ms listed k&&Kh md ops ms fuel (k+1) (listed.setIfInBounds k true)
def lU (ops:Array Oper) (ms:List Nat):Bool:=Kh .any ops ms ops.size 0 (Array.replicate ops.size false)
theorem Yq {ms:List Nat} (hms:∀ i j,Pz ms i j=true→Ur md ops i j) {K:Sta→Prop}:∀ (l:List Oper) (k:Nat) (listed:Array Bool) (lg:Lg) (st:Sta),Closed md ops listed→(∀ j,l[j]? = ops[k+j]?) →
  Kh md ops ms l.length k listed=true→cZ P nms (O6 ops ms) ops K l k lg st→XA P nms (O6 ops ms) md ops K l.length listed lg st
 |[],_,_,_,_,_,_,hB,h=>⟨by simpa[Kh] using hB,h⟩
 |o::l,k,listed,lg,st,hcl,hl,hB,h=>by
  have h0:ops[k]? = some o:=by simpa using (hl 0).symm
  simp only[List.length_cons,Kh,Bool.and_eq_true] at hB;obtain⟨⟨hr,hf⟩,hB'⟩:=hB;have hr:k ∈ Region.ready md ops listed:=by simpa using hr
  obtain⟨x,E,f,hy,ha,hK⟩:=h;exact ZO h0 l.length listed lg st x E hcl (fun j oj hj hne hun n1 n2=>⟨Wr hms h0 hf j oj hj hne hun n1 n2,WN,fun g y E' st' hy' hn=>ir h0 hj hy hy' (fun hN=>hn (by
   have e1:Pz ms k j=false:=by
    cases e:Pz ms k j with
    |false=>rfl
    |true=>exact(n1 (hms _ _ e)).elim
   have e2:Pz ms j k=false:=by
    cases e:Pz ms j k with
    |false=>rfl
    |true=>exact(n2 (hms _ _ e)).elim
   simp[O6,hN,e1,e2]))⟩) hr hy ha
   (Yq hms l (k+1) _ _ _ (hcl.add hr) (fun j=>by have:=hl (j+1);simpa[Nat.add_assoc,Nat.add_comm 1 j] using this) hB' hK)
end
def Ws (ops:Array Oper):List Nat:=Uy .any ops.toList []
theorem Xp {ops:Array Oper} (i j:Nat) (h:Pz (Ws ops) i j=true):Ur .any ops i j:=
 Po ops.toList [] (fun k=>by simp) (fun i j h=>by simp at h) i j h
def gf (draw:Bool) (ops:Array Oper):Nat→Nat→Bool:=bif draw then O6 ops (Ws ops) else fun _ _=>false
def X1 (n:Nat) (ops:Array Oper) (draw:Bool):Bool:=Ot n ops&&(!draw || lU ops (Ws ops))
theorem TI {c:Cx} {nms:Nat→Nm} {K:Sta→Prop} {Q:Exit→Act→World→Prop} {id:Nat} {ops:Array Oper} {draw:Bool} (hm:c.P.follows .mixedOrders=true) (hok:X1 c.n ops draw=true)
  (hQ:∀ st a w I μ,SR c st a w I μ→K st→Q .normal a w) {st:Sta} {a:Act} {w:World} {I:Nat→Prop} {μ:Mu} (h:SR c st a w I μ) (hs:cZ c.P nms (gf draw ops) ops K ops.toList 0 [] st):(Code.region id ops draw).wp c.P Q a w:=by
 simp only[X1,Bool.and_eq_true,Bool.or_eq_true,Bool.not_eq_true'] at hok;obtain⟨hd,hl⟩:=hok;cases draw with
 |false=>
  apply wp_region;rw[List.range_eq_range'];have:=SV hd hQ ops.toList 0 [] st a w I μ (by simp) h hs;simpa using this
 |true=>
  apply wp_region_any hm;have hl:lU ops (Ws ops)=true:=by simpa using hl
  have h1:=Yq (K:=K) (nms:=nms) (P:=c.P) Xp ops.toList 0 (Array.replicate ops.size false) [] st (fun m o _ hm=>by
   simp only[Array.getD_eq_getD_getElem?,Array.getElem?_replicate] at hm;split at hm<;>simp at hm) (by simp) (by simpa[lU] using hl) hs
  have h':SR c st a { w with drawn:=w.drawn+1 } I μ:=by
   obtain⟨hx,hs'⟩:=h.sim.same (w':={ w with drawn:=w.drawn+1 }) (I':=I) ⟨rfl,rfl,rfl,Ei _,fun _ _ _=>rfl⟩ (fun _ hb=>hb) (fun _ hb=>.inl hb);exact⟨hs',h.size,h.defers,fun t=>hx.rel (h.rel t)⟩
  have:=Lb (md:=.any) hd hQ ops.toList.length (Array.replicate ops.size false) [] st a _ I μ h' h1;simpa using this
def Up (c:Cx) (Q:Exit→Sta→Prop):Exit→Act→World→Prop:=fun e a w=>∃ st I μ,SR c st a w I μ∧Q e st
def AWP (c:Cx) (code:Code) (Q:Exit→Sta→Prop) (st:Sta):Prop:=∀ a w I μ,SR c st a w I μ→code.wp c.P (Up c Q) a w
def gO (c:Cx) (y:Code) (Q:Exit→Sta→Prop):Exit→Sta→Prop
 |.normal,st=>AWP c y Q st
 |e,st=>Q e st
def Dg (id:Nat) (Q:Exit→Sta→Prop):Exit→Sta→Prop
 |.exit id',st=>if id'=id then Q .normal st else Q (.exit id') st
 |e,st=>Q e st
section
variable {c:Cx} {Q:Exit→Sta→Prop} {st:Sta} {x y:Code}
@[simp] theorem jW:gO c y Q .normal st=AWP c y Q st:=rfl
@[simp] theorem pH {i:Nat}:gO c y Q (.exit i) st=Q (.exit i) st:=rfl
@[simp] theorem vV:gO c y Q .ret st=Q .ret st:=rfl
@[simp] theorem dH {i:Nat}:Dg i Q .normal st=Q .normal st:=rfl
@[simp] theorem km {i:Nat}:Dg i Q .ret st=Q .ret st:=rfl
@[simp] theorem TZ {i:Nat}:Dg i Q (.exit i) st=Q .normal st:=by simp[Dg]
theorem LG {i j:Nat} (h:j ≠ i):Dg i Q (.exit j) st=Q (.exit j) st:=by simp[Dg,h]
theorem AWP.mono {Q':Exit→Sta→Prop} (h:AWP c x Q st) (hq:∀ e st,Q e st→Q' e st):AWP c x Q' st:=fun a w I μ hs=>
 wp_mono (h a w I μ hs) fun e a' w' ⟨st',I',μ',h1,h2⟩=>⟨st',I',μ',h1,hq e st' h2⟩
theorem jz (h:AWP c x (gO c y Q) st):AWP c (.seq x y) Q st:=fun a w I μ hs=>
 wp_seq (wp_mono (h a w I μ hs) fun e a' w' ⟨st',I',μ',h1,h2⟩=>by
  cases e<;>first | exact h2 a' w' I' μ' h1 | exact⟨st',I',μ',h1,h2⟩)
theorem bW (h:Q .normal st):AWP c .skip Q st:=fun a w I μ hs=>wp_skip ⟨st,I,μ,hs,h⟩
theorem bI {i:Nat} (h:Q (.exit i) st):AWP c (.exit i) Q st:=fun a w I μ hs=>wp_exit ⟨st,I,μ,hs,h⟩
theorem ie (h:Q .ret st):AWP c .ret Q st:=fun a w I μ hs=>wp_ret ⟨st,I,μ,hs,h⟩
theorem ZA {i:Nat} (h:AWP c x (Dg i Q) st):AWP c (.block i x) Q st:=fun a w I μ hs=>
 wp_block (wp_mono (h a w I μ hs) fun e a' w' ⟨st',I',μ',h1,h2⟩=>by
  cases e with
  |exit j=>
   simp only[Exit.inBlock];by_cases hj:j=i
   ·subst hj;rw[if_pos rfl];exact⟨st',I',μ',h1,by simpa using h2⟩
   ·rw[if_neg hj];exact⟨st',I',μ',h1,by rwa [LG hj] at h2⟩
  |_=>exact⟨st',I',μ',h1,h2⟩)
theorem fE {o:Operand} {b:Bool} (hb:evs st.s o = .v (.bool b)) (ht:b=true→AWP c x Q st) (hf:b=false→AWP c y Q st):AWP c (.cond o x y) Q st:=fun a w I μ hs=>by
 have h1:=hs.evs o;rw[hb] at h1;generalize hu:a.eval o=u at h1;cases h1;exact wp_cond_split hu (fun h=>ht h a w I μ hs) (fun h=>hf h a w I μ hs)
def Tu (P:Program) (body:Code) (Q:Exit→Act→World→Prop) (a:Act) (w:World):Prop:=
 ∀ (b:Frame) (k:List Item) (cs:List Frame),∃ e a' w',Q e a' w'∧Arrives P (lone (b.at a (.code body :: .inLoop body::k)) cs w) b k cs e a' w'
theorem W5 {P:Program} {body:Code} {Q:Exit→Act→World→Prop} {a:Act} {w:World} (h:body.wp P (Exit.then (Tu P body Q) Q) a w):Tu P body Q a w:=by
 intro b k cs;obtain⟨e,a₁,w₁,hq,harr⟩:=h b (.inLoop body::k) cs;cases e with
 |normal=>
  obtain⟨e₂,a₂,w₂,hq₂,harr₂⟩:=hq b k cs;exact⟨e₂,a₂,w₂,hq₂,.of_steps (Steps.trans harr (.one step_inLoop)) harr₂⟩
 |exit id=>exact⟨_,a₁,w₁,hq,.pass (x:=.inLoop body) rfl (fun _ _=>.inl (by simp)) harr⟩
 |goto l=>exact⟨_,a₁,w₁,hq,.pass (x:=.inLoop body) rfl (fun _ _=>.inl (by simp)) harr⟩
 |ret=>exact⟨_,a₁,w₁,hq,.pass (x:=.inLoop body) rfl (fun _ _=>.inl (by simp)) harr⟩
 |panic ch=>exact⟨_,a₁,w₁,hq,.pass (x:=.inLoop body) rfl (fun _ _=>.inl (by simp)) harr⟩
 |outgrown=>exact⟨_,a₁,w₁,hq,.pass (x:=.inLoop body) rfl (fun _ _=>.inl (by simp)) harr⟩
theorem Zh {P:Program} {body:Code} {Q:Exit→Act→World→Prop} {a:Act} {w:World} (h:Tu P body Q a w):(Code.loop body).wp P Q a w:=by
 intro b k cs;obtain⟨e,a₁,w₁,hq,harr⟩:=h b k cs;exact⟨e,a₁,w₁,hq,.of_steps (.one step_loop) harr⟩
def AHead (c:Cx) (body:Code) (Q:Exit→Sta→Prop) (st:Sta):Prop:=∀ a w I μ,SR c st a w I μ→Tu c.P body (Up c Q) a w
def XV (c:Cx) (body:Code) (Q:Exit→Sta→Prop):Exit→Sta→Prop
 |.normal,st=>AHead c body Q st
 |e,st=>Q e st
@[simp] theorem iC:XV c x Q .normal st=AHead c x Q st:=rfl
@[simp] theorem nZ {i:Nat}:XV c x Q (.exit i) st=Q (.exit i) st:=rfl
@[simp] theorem rO:XV c x Q .ret st=Q .ret st:=rfl
theorem UZ (h:AWP c x (XV c x Q) st):AHead c x Q st:=fun a w I μ hs=>
 W5 (wp_mono (h a w I μ hs) fun e a' w' ⟨st',I',μ',h1,h2⟩=>by
  cases e<;>first | exact h2 a' w' I' μ' h1 | exact⟨st',I',μ',h1,h2⟩)
theorem cR (h:AHead c x Q st):AWP c (.loop x) Q st:=fun a w I μ hs=>Zh (h a w I μ hs)
def Le (c:Cx) (st st':Sta):Prop:=∀ a w I μ,SR c st a w I μ→∃ I' μ',SR c st' a w I' μ'
theorem Le.refl:Le c st st:=fun _ _ I μ h=>⟨I,μ,h⟩
theorem Le.trans {st1 st2 st3:Sta} (h:Le c st1 st2) (k:Le c st2 st3):Le c st1 st3:=fun a w I μ hs=>let ⟨I',μ',h1⟩:=h a w I μ hs;k a w I' μ' h1
theorem AWP.le {st':Sta} (h:Le c st st') (k:AWP c x Q st'):AWP c x Q st:=fun a w I μ hs=>let ⟨I',μ',h1⟩:=h a w I μ hs;k a w I' μ' h1
theorem AHead.le {st':Sta} (h:Le c st st') (k:AHead c x Q st'):AHead c x Q st:=fun a w I μ hs=>let ⟨I',μ',h1⟩:=h a w I μ hs;k a w I' μ' h1
theorem bn {s s':Nat→A} {H:Hp} (h:∀ t,s' t=s t∨s' t = .any):Le c ⟨s,H⟩ ⟨s',H⟩:=fun a w I μ hs=>
 ⟨I,μ,hs.sim,hs.size,hs.defers,fun t=>by
  rcases h t with e | e
  ·show Rel w I μ (s' t) _;rw[e];exact hs.rel t
  ·show Rel w I μ (s' t) _;rw[e];exact .any _ _⟩
theorem VR (s:Nat→A):∀ (l:List (Nat × A)),(∀ p,p ∈ l→s p.1=p.2)→∀ t,lk l t=s t∨lk l t = .any
 |[],_,t=>.inr rfl
 |(k,x)::l,h,t=>by
  unfold lk;by_cases e:k=t
  ·subst e;rw[if_pos rfl];exact .inl (h (k,x) (by simp)).symm
  ·rw[if_neg e];exact VR s l (fun p hp=>h p (by simp[hp])) t
theorem Ay {s:Nat→A} {H:Hp} (l:List (Nat × A)) (h:∀ p,p ∈ l→s p.1=p.2):Le c ⟨s,H⟩ ⟨lk l,H⟩:=bn (VR s l h)
def Mr (P:Program) (st:Sta):ResultVar→Option A
 |.tmp t=>some (st.s t)
 |.cell a t=>Fe P st.H t (st.s a)
def Gw (P:Program) (st:Sta):List ResultVar→Option (List A)
 |[]=>some []
 |r::rs=>match Mr P st r,Gw P st rs with
  |some x,some l=>some (x::l)
  |_,_=>none
def EC (P:Program) (st:Sta) (rs:List ResultVar):Option A:=
 match rs with
 |[r]=>Mr P st r
 |rs=>(Gw P st rs).map .tup
theorem Nn {a:Act} {w:World} {I:Nat→Prop} {μ:Mu} (hs:SR c st a w I μ) {r:ResultVar} {x:A} (h:Mr c.P st r=some x) :
  ∃ v,((match r with | .tmp t=>pure (a.tmps.getD t undef) | .cell p t=>do loadVar t (← asAddr (a.tmps.getD p undef))):Sem Value).run c.P w = .ok v w∧Rel w I μ x v:=by
 cases r with
 |tmp t=>cases h;exact⟨_,rfl,hs.rel t⟩
 |cell p t=>
  have hr:=hs.rel p;obtain⟨v,h1,h2⟩:=KR hs.sim hr h;refine⟨v,?_,h2⟩;have:∃ q,a.tmps.getD p undef = .pointer (some q):=Fk hr (SZ h);obtain⟨q,hq⟩:=this;rw[hq] at h1;simp only[hq,asAddr];simpa[Instr.loadAt,Instr.sureAddr] using h1
theorem LP {a:Act} {w:World} {I:Nat→Prop} {μ:Mu} (hs:SR c st a w I μ):∀ {rs:List ResultVar} {xs:List A},Gw c.P st rs=some xs →
  ∃ vs:List Value,(rs.mapM (m:=Sem) fun | .tmp t=>pure (a.tmps.getD t undef) | .cell p t=>do loadVar t (← asAddr (a.tmps.getD p undef))).run c.P w = .ok vs w∧vs.length=xs.length∧∀ (k:Nat) (y:A) (v:Value),xs[k]? = some y→vs[k]? = some v→Rel w I μ y v
 |[],xs,h=>by cases h;exact⟨[],rfl,rfl,fun k y v hk=>by simp at hk⟩
 |r::rs,xs,h=>by
  unfold Gw at h;split at h
  ·rename_i x l hx hl;cases h;obtain⟨v,h1,h2⟩:=Nn hs hx;obtain⟨vs,h3,h4,h5⟩:=LP hs hl;refine⟨v::vs,?_,by simp[h4],fun k y u hk hu=>?_⟩
   ·rw[List.mapM_cons];simp only[Sem.run_bind,h1,Result.andThen_ok,h3,Sem.run_pure]
   ·cases k with
    |zero=>simp at hk hu;subst hk hu;exact h2
    |succ k=>exact h5 k y u (by simpa using hk) (by simpa using hu)
  ·cases h
theorem Rz {fn:Func} {a:Act} {w:World} {I:Nat→Prop} {μ:Mu} (hs:SR c st a w I μ) {x:A} (h:EC c.P st fn.results.toList=some x):∃ v,(results fn a.tmps).run c.P w = .ok v w∧Rel w I μ x v:=by
 have hm:∀ {vs:List Value},(fn.results.toList.mapM (m:=Sem) fun | .tmp t=>pure (a.tmps.getD t undef) | .cell p t=>do loadVar t (← asAddr (a.tmps.getD p undef))).run c.P w = .ok vs w →
   (results fn a.tmps).run c.P w = .ok (if h:vs.toArray.size=1 then vs.toArray[0] else .tuple vs.toArray) w:=fun {vs} hv=>by
  unfold results;rw[Array.mapM_eq_mapM_toList];simp only[Sem.run_bind,Sem.run_map]
  erw [hv]
  rfl
 unfold EC at h;split at h
 ·rename_i r hr;obtain⟨v,h1,h2⟩:=Nn hs h;have:=hm (vs:=[v]) (by rw[hr,List.mapM_cons];simp only[Sem.run_bind,h1,Result.andThen_ok];rfl);exact⟨v,by simpa using this,h2⟩
 ·rename_i rs hne;simp only[Option.map_eq_some_iff] at h;obtain⟨xs,hx,rfl⟩:=h;obtain⟨vs,h1,h2,h3⟩:=LP hs hx;have hlen:xs.length=fn.results.toList.length:=by
   have:∀ (rs:List ResultVar) (xs:List A),Gw c.P st rs=some xs→xs.length=rs.length:=by
    intro rs;induction rs with
    |nil=>intro xs h;cases h;rfl
    |cons r rs ih=>
     intro xs h;unfold Gw at h;split at h
     ·rename_i x l _ hl;cases h;simp[ih l hl]
     ·cases h
   exact this _ _ hx
  have hv1:¬ vs.toArray.size=1:=by
   intro he;simp only[List.size_toArray] at he;have:fn.results.toList.length=1:=by omega
   obtain⟨r,hr⟩:=List.length_eq_one_iff.1 this;exact hne r hr
  have:=hm h1;rw[dif_neg hv1] at this;refine⟨_,this,.tup _ _ _ (by simp[h2]) fun k y hk=>?_⟩;have hlt:k<vs.length:=by rw[h2];exact(List.getElem?_eq_some_iff.1 hk).1
  have e:vs.toArray.getD k undef=vs[k]:=by simp[hlt]
  rw[e];exact h3 k y _ hk (List.getElem?_eq_getElem hlt)
def ae (P:Program) (rs:List ResultVar) (Q:A→Hp→Prop):Exit→Sta→Prop
 |.normal,st | .ret,st=>∃ r0,EC P st rs=some r0∧Q r0 st.H
 |_,_=>False
def Mw (args:List A):Nat→A:=fun t=>(args[t]?).getD .any
theorem Rp {P:Program} {f:FuncId} {fn:Func} {code:Code} (hf:P.funcs[f]? = some fn) (hb:fn.body=some code) {c:Cx} (hcP:c.P=P) (hcn:c.n=fn.ntmps) {args:List A} {vs:Array Value} (hl:vs.size=args.length) (ha:args.length≤fn.ntmps)
  {w:World} {I:Nat→Prop} {μ:Mu} {H:Hp} (hs:Sim c w I μ H) (hr:∀ (k:Nat) (y:A),args[k]? = some y→Rel w I μ y (vs.getD k undef)) {Q:A→Hp→Prop} (h:AWP c code (ae P fn.results.toList Q) ⟨Mw args,H⟩) :
  Calls P f vs w fun e w'=>∃ v r0 H' I' μ',e = .returned v∧Sim c w' I' μ' H'∧Rel w' I' μ' r0 v∧Q r0 H':=by
 subst hcP;refine calls_of_wp hf hb ?_;have hs:SR c ⟨Mw args,H⟩ { tmps:=vs++Array.replicate (fn.ntmps-vs.size) undef,defers:=[] } w I μ:=by
  refine⟨hs,?_,rfl,fun t=>?_⟩
  ·simp[hcn,hl];omega
  ·show Rel w I μ (Mw args t) _;unfold Mw;cases hq:args[t]? with
   |none=>exact .any _ _
   |some y=>
    have hlt:=(List.getElem?_eq_some_iff.1 hq).1;have e:(vs++Array.replicate (fn.ntmps-vs.size) undef).getD t undef=vs.getD t undef:=by
     simp only[Array.getD_eq_getD_getElem?];rw[Array.getElem?_append_left (by omega)]
    rw[e];exact hr t y hq
 refine wp_mono (h _ w I μ hs) fun e a' w' ⟨st',I',μ',h1,h2⟩=>?_;have fin:(∃ r0,EC c.P st' fn.results.toList=some r0∧Q r0 st'.H)→a'.defers=[]∧∃ v,(results fn a'.tmps).run c.P w' = .ok v w'∧∃ v' r0 H' I' μ',Ending.returned v = .returned v'∧Sim c w' I' μ' H'∧Rel w' I' μ' r0 v'∧Q r0 H':=by
  rintro⟨r0,h3,h4⟩;obtain⟨v,h5,h6⟩:=Rz (fn:=fn) h1 h3;exact⟨h1.defers,v,h5,v,r0,st'.H,I',μ',rfl,h1.sim,h6,h4⟩
 cases e<;>first | exact fin h2 | exact h2.elim
def cx (P:Program) (w0:World) (I0:Nat→Prop) (n:Nat):Cx:=⟨P,w0,I0,fun _ _=>False,n,Ry⟩
def H0:Hp:=fun _=>⟨0,.none⟩
theorem Th {P:Program} {w:World} {I:Nat→Prop} {n:Nat} (hI:∀ b,I b→b<w.heap.size) (ht:Tabs P w I):Sim (cx P w I n) w I Ry H0:=
 ⟨⟨rfl,rfl,rfl,Ei _,fun _ _ _=>rfl⟩,hI,fun _ h=>h,fun b hb=>.inl hb,fun _=>rfl,fun _=>trivial,(fun _ _ h=>nomatch h),(fun _ h=>nomatch h),MuLe.refl _,(fun _ h=>nomatch h),ht⟩
theorem XC {P:Program} {f:FuncId} {fn:Func} {code:Code} {args:List A} {r:A} {n:Nat} (hk:RS P f=true) (hf:P.funcs[f]? = some fn) (hb:fn.body=some code) (hn:fn.ntmps=n) (ha:args.length≤n)
  (h:∀ w0 I0,AWP (cx P w0 I0 n) code (ae P fn.results.toList fun r0 H=>Gy H r0 r) ⟨Mw args,H0⟩):Spec P f args r:=by
 refine⟨hk,fun w I vs hI htb hl hr=>?_⟩;refine(Rp hf hb (c:=cx P w I n) rfl hn.symm hl (by omega) (Th hI htb) hr (h w I)).mono fun e w' ⟨v,r0,H',I',μ',he,h1,h2,h3⟩=>⟨v,he,?_,?_⟩
 ·have k:=h1.kept;exact⟨k.os,k.tape,k.output,k.size,fun b hb=>k.block b hb (fun ⟨_,h⟩=>h)⟩
 ·refine(h3 _ w' I' μ' v h1 h2).mono0 (fun b hb=>?_) (fun _ _=>rfl);rcases hb with hb | ⟨o,g1,rfl⟩
  ·rcases h1.new b hb with g | g
   ·exact .inl g
   ·exact .inr ⟨g,h1.lt b hb⟩
  ·obtain⟨_,g4,g5⟩:=h1.own o g1;rcases g4 with g4 | g4
   ·exact g4.elim
   ·exact .inr ⟨g4,g5⟩
theorem E6 {s:Nat→A} {H:Hp} (t:Nat) (d:Nm) (sz:Nat) (ht:s t = .sl true []):Le c ⟨s,H⟩ ⟨upd s t (.osl d ((H d).u+1) sz 0 0),Az H d ⟨(H d).u+1,.arr sz []⟩⟩:=fun a w I μ hs=>by
 obtain⟨hx,hs'⟩:=hs.sim.upd (EP w none) d ⟨(H d).u+1,false,0,0,sz,0⟩ (.arr sz []) (.inl rfl) (.inl (by rw[hs.sim.ver];exact Nat.lt_succ_self _)) (fun h=>nomatch h) (fun h=>nomatch h) (fun hx=>⟨rfl,.inl ⟨rfl,rfl⟩⟩);refine⟨I,_,hs',hs.size,hs.defers,fun k=>?_⟩;show Rel w I _ (upd s t _ k) _;unfold upd;split
 ·rename_i hk;subst hk;have h1:=hs.rel k;simp only[ht] at h1;generalize a.tmps.getD k undef=v at h1;cases h1 with
  |slN _ _ q cap hc=>
   have:=hc rfl;subst this;exact .osl _ _ _ _ _ _ _ _ (by omega) (by simp) (Ei _) (fun h=>by omega) (fun _=>by simp)
  |sl _ _ b off n cap z _ g h1 h2 h3 h4=>
   have h5:n=0:=h2;have h6:cap=0:=h4 rfl;subst h5 h6;exact .osl _ _ _ _ _ _ _ _ (by omega) (by simp) (Ei _) (fun h=>by omega) (fun _=>by simp)
 ·exact hx.rel (hs.rel k)
end
structure CO where
 d:Option Nat
 o:Op
 g:Option (Nat × Bool)
 nm:Nm
 ix:Nat
 un:List Nat
 lg:Bool
abbrev co (d:Option Nat) (o:Op) (g:Option (Nat × Bool)):CO:=⟨d,o,g,[],0,[],false⟩
abbrev cn (d:Option Nat) (o:Op) (g:Option (Nat × Bool)) (nm:Nm):CO:=⟨d,o,g,nm,0,[],false⟩
inductive CC where
 |skip
 |reg (ops:List CO) (live:List Nat)
 |seq (x y:CC)
 |cond (c:Operand) (x y:CC)
 |block (i:Nat) (x:CC)
 |loop (x:CC)
 |exit (i:Nat)
 |ret
 |keep (live:List Nat) (x:CC)
 |stop (x:CC)
 |scope (x:CC)
def UO:List (Nat × Nm)→Nat→Nm
 |[],_=>[]
 |(k,n)::l,i=>if k=i then n else UO l i
def O9 (draw:Bool) (ops:Array Oper) (ms:List Nat) (i j:Nat):Bool:=draw&&O6 ops ms i j
theorem ju {draw:Bool} {ops:Array Oper}:O9 draw ops (Ws ops)=gf draw ops:=by
 cases draw
 ·rfl
 ·funext i j;simp[O9,gf]
def mT (ops:Array Oper) (draw:Bool) (ms:List Nat) (nms:List (Nat × Nm)) (i:Nat) (o:Oper):Option CO:=
 let un:=(List.range i).filter fun j=>O9 draw ops ms j i
 let lg:=(List.range ops.size).any fun k=>Nat.blt i k&&O9 draw ops ms i k
 let ix:=if un.isEmpty&&!lg then 0 else i
 match o.guard with
 |none=>some ⟨o.dst,o.op,none,UO nms i,ix,un,lg⟩
 |some (j,f)=>match (ops[j]?).bind (·.dst) with
  |some d=>some ⟨o.dst,o.op,some (d,f),UO nms i,ix,un,lg⟩
  |none=>none
def U0 (ops:Array Oper) (draw:Bool) (ms:List Nat) (nms:List (Nat × Nm)):Nat→List Oper→Option (List CO)
 |_,[]=>some []
 |i,o::l=>match mT ops draw ms nms i o,U0 ops draw ms nms (i+1) l with
  |some x,some r=>some (x::r)
  |_,_=>none
inductive Is (n:Nat):CC→Code→Prop
 |skip:Is n .skip .skip
 |reg (id:Nat) (ops:Array Oper) (draw:Bool) (live:List Nat) (nms:List (Nat × Nm)) (l:List CO):X1 n ops draw=true→U0 ops draw (Ws ops) nms 0 ops.toList=some l→Is n (.reg l live) (.region id ops draw)
 |seq (x y:CC) (a b:Code):Is n x a→Is n y b→Is n (.seq x y) (.seq a b)
 |cond (o:Operand) (x y:CC) (a b:Code):Is n x a→Is n y b→Is n (.cond o x y) (.cond o a b)
 |block (i:Nat) (x:CC) (a:Code):Is n x a→Is n (.block i x) (.block i a)
 |loop (x:CC) (a:Code):Is n x a→Is n (.loop x) (.loop a)
 |exit (i:Nat):Is n (.exit i) (.exit i)
 |ret:Is n .ret .ret
 |keep (live:List Nat) (x:CC) (a:Code):Is n x a→Is n (.keep live x) a
 |stop (x:CC) (a:Code):Is n x a→Is n (.stop x) a
 |scope (x:CC) (a:Code):Is n x a→Is n (.scope x) (.scope a)
 |label (l:Nat):Is n .skip (.label l)
def me (Q:Exit→Sta→Prop):Exit→Sta→Prop
 |.goto _,_=>False
 |e,st=>Q e st
def Sta.keep (st:Sta) (live:List Nat):Sta:=⟨lk (live.map fun k=>(k,st.s k)),st.H⟩
theorem Yt {c:Cx} {st:Sta} (live:List Nat):Le c st (st.keep live):=Ay _ (fun p hp=>by
 obtain⟨k,_,rfl⟩:=List.mem_map.1 hp;rfl)
def YJ (P:Program) (o:CO) (st:Sta) (x:A) (E:Eff) (f:Ft):Prop:=
 match o.g with
 |none=>Ud P o.nm o.o (evs st.s) st.H x E f.R f.W
 |some (d,fl)=>∃ q x0,BK (st.s d) fl=some q∧(q=true→Ud P o.nm o.o (evs st.s) st.H x0 E f.R f.W)∧x=gd q x0∧(q=false→E = .nil∧f.R=[]∧f.W=[])
def Ck (un:List Nat) (lg:Lg) (f:Ft):Prop:=∀ p,p ∈ lg→p.1 ∈ un→nc p.2 f=true
def AR (b:Bool) (i:Nat) (f:Ft) (lg:Lg):Lg:=if b=true then (i,f)::lg else lg
def Am (P:Program) (K:Sta→Prop):List CO→Lg→Sta→Prop
 |[],_,st=>K st
 |o::rest,lg,st=>∃ x E f,YJ P o st x E f∧Ck o.un lg f∧Am P K rest (AR o.lg o.ix f lg) (st.put o.d x (E.app st.H))
theorem g9 {ops:Array Oper} {draw:Bool} {ms:List Nat} {nms:List (Nat × Nm)} {i:Nat} {o:Oper} {c:CO} (h:mT ops draw ms nms i o=some c):c.d=o.dst∧c.o=o.op∧c.nm=UO nms i ∧
  c.un=((List.range i).filter fun j=>O9 draw ops ms j i)∧c.lg=((List.range ops.size).any fun k=>Nat.blt i k&&O9 draw ops ms i k)∧(c.un ≠ []∨c.lg=true→c.ix=i) ∧
  ((o.guard=none∧c.g=none)∨∃ j f d,o.guard=some (j,f)∧(ops[j]?).bind (·.dst)=some d∧c.g=some (d,f)):=by
 have hix:∀ (un:List Nat) (lg:Bool),un ≠ []∨lg=true→(if (un.isEmpty&&!lg)=true then 0 else i)=i:=fun un lg hh=>by
  rw[if_neg];rcases hh with h1 | h1
  ·cases un with
   |nil=>exact(h1 rfl).elim
   |cons=>simp
  ·simp[h1]
 unfold mT at h;cases hg:o.guard with
 |none=>
  rw[hg] at h;simp only[Option.some.injEq] at h;subst h;exact⟨rfl,rfl,rfl,rfl,rfl,hix _ _,.inl ⟨rfl,rfl⟩⟩
 |some p=>
  obtain⟨j,f⟩:=p;rw[hg] at h;simp only at h;cases hj:(ops[j]?).bind (·.dst) with
  |none=>rw[hj] at h;cases h
  |some d=>
   rw[hj] at h;simp only[Option.some.injEq] at h;subst h;exact⟨rfl,rfl,rfl,rfl,rfl,hix _ _,.inr ⟨j,f,d,rfl,hj,rfl⟩⟩
theorem XB {P:Program} {ops:Array Oper} {draw:Bool} {ms:List Nat} {nms:List (Nat × Nm)} {K:Sta→Prop}:∀ (l:List Oper) (i:Nat) (r:List CO) (Lf lg:Lg) (st:Sta),U0 ops draw ms nms i l=some r→i+l.length=ops.size →
  (∀ p,p ∈ Lf→p.1<i∧∀ k,i≤k→k<ops.size→O9 draw ops ms p.1 k=true→p ∈ lg)→Am P K r lg st→cZ P (UO nms) (O9 draw ops ms) ops K l i Lf st:=by
 intro l;induction l with
 |nil=>
  intro i r Lf lg st he _ _ h;cases he;exact h
 |cons o l ih=>
  intro i r Lf lg st he hsz hlg h;unfold U0 at he;split at he
  ·rename_i c r' hc hr;cases he;obtain⟨e1,e2,e3,e4,e5,e7,e6⟩:=g9 hc;obtain⟨x,E,f,hy,hk,h⟩:=h;simp only[List.length_cons] at hsz;refine⟨x,E,f,?_,fun p hp hn=>?_,?_⟩
   ·unfold YJ at hy;rw[e2,e3] at hy;rcases e6 with ⟨hg,hc⟩ | ⟨j,fl,d,hg,hj,hc⟩
    ·rw[hc] at hy;exact⟨true,x,by unfold LH;rw[hg],fun _=>hy,rfl,fun h=>nomatch h⟩
    ·rw[hc] at hy;obtain⟨q,x0,k1,k2,k3,k4⟩:=hy;exact⟨q,x0,by unfold LH;rw[hg];exact⟨d,hj,k1⟩,k2,k3,k4⟩
   ·obtain⟨h1,h2⟩:=hlg p hp;refine hk p (h2 i (Ei _) (by omega) hn) ?_;rw[e4];exact List.mem_filter.2 ⟨List.mem_range.2 h1,hn⟩
   ·rw[e1] at h;refine ih (i+1) r' _ _ _ hr (by omega) (fun p hp=>?_) h;rcases List.mem_cons.1 hp with rfl | hp
    ·refine⟨Nat.lt_succ_self _,fun k h1 h2 h3=>?_⟩;have hl:c.lg=true:=by
      rw[e5];exact List.any_eq_true.2 ⟨k,List.mem_range.2 h2,by simp[Nat.blt_eq,h3];omega⟩
     unfold AR;rw[if_pos hl,e7 (.inr hl)];simp
    ·obtain⟨h1,h2⟩:=hlg p hp;refine⟨by omega,fun k h3 h4 h5=>?_⟩;have:=h2 k (by omega) h4 h5;unfold AR;split
     ·exact List.mem_cons_of_mem _ this
     ·exact this
  ·cases he
def LoopC (c:Cx) (x:CC) (Q:Exit→Sta→Prop) (st:Sta):Prop:=∀ a,Is c.n x a→AHead c a Q st
def JW (K:Sta→Prop) (Q:Exit→Sta→Prop):Exit→Sta→Prop
 |.normal,st=>K st
 |e,st=>Q e st
def Pn (c:Cx) (K:Sta→Prop) (st:Sta):Prop:=∃ st',Le c st st'∧K st'
theorem Ff {c:Cx} {K:Sta→Prop} {st:Sta} (h:K st):Pn c K st:=⟨st,Le.refl,h⟩
theorem JB {c:Cx} {K:Sta→Prop} {st st':Sta} (h:Le c st st') (k:Pn c K st'):Pn c K st:=let ⟨st2,h2,k2⟩:=k;⟨st2,h.trans h2,k2⟩
def WPC (c:Cx):CC→(Exit→Sta→Prop)→Sta→Prop
 |.skip,Q,st=>Q .normal st
 |.exit i,Q,st=>Q (.exit i) st
 |.ret,Q,st=>Q .ret st
 |.reg ops live,Q,st=>Am c.P (fun st=>Q .normal (st.keep live)) ops [] st
 |.seq x y,Q,st=>WPC c x (JW (WPC c y Q) Q) st
 |.cond o x y,Q,st=>∃ b,evs st.s o = .v (.bool b)∧(b=true→WPC c x Q st)∧(b=false→WPC c y Q st)
 |.block i x,Q,st=>WPC c x (Dg i Q) st
 |.loop x,Q,st=>LoopC c x Q st
 |.keep live x,Q,st=>WPC c x Q (st.keep live)
 |.stop x,Q,st=>Pn c (fun st=>WPC c x Q st) st
 |.scope x,Q,st=>WPC c x (me Q) st
theorem K4 {c:Cx} (hm:c.P.follows .mixedOrders=true):∀ {x:CC} {a:Code} {Q:Exit→Sta→Prop} {st:Sta},Is c.n x a→WPC c x Q st→AWP c a Q st:=by
 intro x a Q st hi;induction hi generalizing Q st with
 |skip=>exact fun h=>bW h
 |exit i=>exact fun h=>bI h
 |ret=>exact fun h=>ie h
 |reg id ops draw live nms l hok hl=>
  intro h;intro a w I μ hs;have h1:=XB ops.toList 0 l [] [] _ hl (by simp) (fun p hp=>by simp at hp) h;rw[ju] at h1;refine TI hm hok (K:=fun st=>Q .normal (st.keep live)) (fun st' a' w' I' μ' h1 h2=>?_) hs h1;obtain⟨I2,μ2,h3⟩:=Yt live a' w' I' μ' h1;exact⟨_,I2,μ2,h3,h2⟩
 |seq x y a b _ _ ih1 ih2=>
  intro h;refine jz ((ih1 h).mono fun e st' hq=>?_);cases e<;>first | exact ih2 hq | exact hq
 |cond o x y a b _ _ ih1 ih2=>
  intro ⟨q,hb,ht,hf⟩;exact fE hb (fun h=>ih1 (ht h)) (fun h=>ih2 (hf h))
 |block i x a _ ih=>exact fun h=>ZA (ih h)
 |loop x a hx _=>exact fun h=>cR (h a hx)
 |keep live x a _ ih=>
  intro h a w I μ hs;obtain⟨I2,μ2,h3⟩:=Yt live a w I μ hs;exact ih h a w I2 μ2 h3
 |stop x a _ ih=>
  intro ⟨st',h1,h2⟩ a w I μ hs;obtain⟨I2,μ2,h3⟩:=h1 a w I μ hs;exact ih h2 a w I2 μ2 h3
 |scope x a _ ih=>
  intro h a w I μ hs;refine wp_scope_straight (wp_mono (ih h a w I μ hs) fun e a' w' ⟨st',I',μ',h1,h2⟩=>?_);cases e with
  |goto l=>exact h2.elim
  |_=>exact⟨st',I',μ',h1,h2⟩
 |label l=>exact fun h a w I μ hs=>wp_label ⟨st,I,μ,hs,h⟩
theorem WPC.mono {c:Cx}:∀ {x:CC} {Q Q':Exit→Sta→Prop} {st:Sta},(∀ e st,Q e st→Q' e st)→WPC c x Q st→WPC c x Q' st
 |.skip,_,_,_,hq,h=>hq _ _ h
 |.exit _,_,_,_,hq,h=>hq _ _ h
 |.ret,_,_,_,hq,h=>hq _ _ h
 |.reg ops live,Q,Q',st,hq,h=>by
  have:∀ (ops:List CO) (lg:Lg) (st:Sta),Am c.P (fun st=>Q .normal (st.keep live)) ops lg st→Am c.P (fun st=>Q' .normal (st.keep live)) ops lg st:=by
   intro ops;induction ops with
   |nil=>exact fun lg st h=>hq _ _ h
   |cons o ops ih=>exact fun lg st ⟨x,E,f,h1,h2,h3⟩=>⟨x,E,f,h1,h2,ih _ _ h3⟩
  exact this ops _ st h
 |.seq x y,Q,Q',st,hq,h=>WPC.mono (x:=x) (fun e st' h'=>by cases e<;>first | exact WPC.mono (x:=y) hq h' | exact hq _ _ h') h
 |.cond o x y,Q,Q',st,hq,⟨b,h1,h2,h3⟩=>⟨b,h1,fun h=>WPC.mono hq (h2 h),fun h=>WPC.mono hq (h3 h)⟩
 |.block i x,Q,Q',st,hq,h=>WPC.mono (x:=x) (fun e st' h'=>by
   cases e with
   |exit j=>
    by_cases hj:j=i
    ·subst hj;rw[TZ] at h' ⊢; exact hq _ _ h'
    ·rw[LG hj] at h' ⊢; exact hq _ _ h'
   |_=>exact hq _ _ h') h
 |.keep live x,Q,Q',st,hq,h=>WPC.mono (x:=x) hq h
 |.stop x,Q,Q',st,hq,⟨st',h1,h2⟩=>⟨st',h1,WPC.mono (x:=x) hq h2⟩
 |.scope x,Q,Q',st,hq,h=>WPC.mono (x:=x) (fun e st' h'=>by
   cases e with
   |goto l=>exact h'
   |_=>exact hq _ _ h') h
 |.loop x,Q,Q',st,hq,h=>fun a ha a' w I μ hs b k cs=>by
  obtain⟨e,a1,w1,⟨st',I',μ',h1,h2⟩,h3⟩:=h a ha a' w I μ hs b k cs;exact⟨e,a1,w1,⟨st',I',μ',h1,hq _ _ h2⟩,h3⟩
theorem Wd {c:Cx} (hm:c.P.follows .mixedOrders=true) {x:CC} {Q:Exit→Sta→Prop} {st:Sta} (h:WPC c x (JW (LoopC c x Q) Q) st):LoopC c x Q st:=fun a ha=>
 UZ ((K4 hm ha h).mono fun e st' hq=>by cases e<;>first | exact hq a ha | exact hq)
theorem LoopC.le {c:Cx} {x:CC} {Q:Exit→Sta→Prop} {st st':Sta} (h:Le c st st') (k:LoopC c x Q st'):LoopC c x Q st:=fun a ha=>(k a ha).le h
def Wu:List Nat→CC→CC
 |999999::live,y=>.keep live y
 |999998::_,y=>.stop y
 |999997::live,y=>.keep live (.stop y)
 |_,y=>y
theorem ZH {n:Nat} {m:List Nat} {y:CC} {b:Code} (h:Is n y b):Is n (Wu m y) b:=by
 unfold Wu;split
 ·exact .keep _ _ _ h
 ·exact .stop _ _ h
 ·exact .keep _ _ _ (.stop _ _ h)
 ·exact h
abbrev Mk:=List Nat × List (Nat × Nm)
def Ie (n:Nat):Code→List Mk→Option (CC × List Mk)
 |.skip,ls=>some (.skip,ls)
 |.exit i,ls=>some (.exit i,ls)
 |.ret,ls=>some (.ret,ls)
 |.region _ ops draw,(live,nms)::ls=>if X1 n ops draw=true then match U0 ops draw (Ws ops) nms 0 ops.toList with
   |some l=>some (.reg l live,ls)
   |none=>none else none
 |.seq a b,ls=>match Ie n a ls with
  |some (x,m::ls)=>match Ie n b ls with
   |some (y,ls)=>some (.seq x (Wu m.1 y),ls)
   |none=>none
  |_=>none
 |.cond o a b,ls=>match Ie n a ls with
  |some (x,ls)=>match Ie n b ls with
   |some (y,ls)=>some (.cond o x y,ls)
   |none=>none
  |none=>none
 |.block i a,ls=>match Ie n a ls with
  |some (x,ls)=>some (.block i x,ls)
  |none=>none
 |.loop a,ls=>match Ie n a ls with
  |some (x,ls)=>some (.loop x,ls)
  |none=>none
 |.scope a,ls=>match Ie n a ls with
  |some (x,ls)=>some (.scope x,ls)
  |none=>none
 |.label _,ls=>some (.skip,ls)
 |_,_=>none
theorem iY {n:Nat}:∀ {a:Code} {ls ls':List Mk} {x:CC},Ie n a ls=some (x,ls')→Is n x a:=by
 intro a;induction a with
 |skip=>intro ls ls' x h;simp only[Ie] at h;cases h;exact .skip
 |exit i=>intro ls ls' x h;simp only[Ie] at h;cases h;exact .exit i
 |ret=>intro ls ls' x h;simp only[Ie] at h;cases h;exact .ret
 |region id ops draw=>
  intro ls ls' x h;cases ls with
  |nil=>simp[Ie] at h
  |cons live ls=>
   simp only[Ie] at h;split at h
   ·rename_i hok;split at h
    ·rename_i l hl;cases h;exact .reg _ _ _ _ _ _ hok hl
    ·cases h
   ·cases h
 |seq a b ih1 ih2=>
  intro ls ls' x h;simp only[Ie] at h;split at h
  ·rename_i q1 m l1 h1;split at h
   ·rename_i q2 l2 h2;cases h;exact .seq _ _ _ _ (ih1 h1) (ZH (ih2 h2))
   ·cases h
  ·cases h
 |cond o a b ih1 ih2=>
  intro ls ls' x h;simp only[Ie] at h;split at h
  ·rename_i q1 l1 h1;split at h
   ·rename_i q2 l2 h2;cases h;exact .cond _ _ _ _ _ (ih1 h1) (ih2 h2)
   ·cases h
  ·cases h
 |block i a ih=>
  intro ls ls' x h;simp only[Ie] at h;split at h
  ·rename_i q1 l1 h1;cases h;exact .block _ _ _ (ih h1)
  ·cases h
 |loop a ih=>
  intro ls ls' x h;simp only[Ie] at h;split at h
  ·rename_i q1 l1 h1;cases h;exact .loop _ _ (ih h1)
  ·cases h
 |scope a ih=>
  intro ls ls' x h;simp only[Ie] at h;split at h
  ·rename_i q1 l1 h1;cases h;exact .scope _ _ (ih h1)
  ·cases h
 |label l=>intro ls ls' x h;simp only[Ie] at h;cases h;exact .label l
 |_=>intro ls ls' x h;cases ls<;>simp[Ie] at h
structure Ca (P:Program) (f:FuncId) (n:Nat) (rs:List ResultVar) (cc:CC):Prop where
 Aj:P.follows .mixedOrders=true
 ok:RS P f=true
 fn:∃ fn code,P.funcs[f]? = some fn∧fn.body=some code∧fn.ntmps=n∧fn.results.toList=rs∧Is n cc code
theorem nD {P:Program} {f:FuncId} {fn:Func} {code:Code} {cc:CC} {ls:List Mk} {rs:List ResultVar} {n:Nat} (hm:P.follows .mixedOrders=true) (hk:RS P f=true) (hf:P.funcs[f]? = some fn) (hb:fn.body=some code)
  (hn:fn.ntmps=n) (hrs:fn.results.toList=rs) (hc:Ie n code ls=some (cc,[])):Ca P f n rs cc:=⟨hm,hk,fn,code,hf,hb,hn,hrs,iY hc⟩
def NC (P:Program) (rs:List ResultVar) (r:A):Exit→Sta→Prop:=ae P rs fun r0 H=>Gy H r0 r
theorem Ag {P:Program} {f:FuncId} {n:Nat} {rs:List ResultVar} {cc:CC} {args:List A} {r:A} (t:Ca P f n rs cc) (ha:args.length≤n) (h:∀ w0 I0,WPC (cx P w0 I0 n) cc (NC P rs r) ⟨Mw args,H0⟩):Spec P f args r:=by
 obtain⟨hm,hk,fn,code,hf,hb,hn,hrs,hc⟩:=t;exact XC hk hf hb hn ha fun w0 I0=>K4 (c:=cx P w0 I0 n) hm hc (by rw[hrs];exact h w0 I0)
section
variable {P:Program} {H:Hp} {t u:TypeId}
def vc (x:VOb) (u:Nat):Option (List A):=match x with | ⟨u',.cells cs⟩=>if u'=u then some cs else none | _=>none
def vr (x:VOb) (u:Nat):Option (Nat × List A):=match x with | ⟨u',.arr s xs⟩=>if u'=u then some (s,xs) else none | _=>none
@[simp] theorem vC {u' u:Nat} {cs:List A}:vc ⟨u',.cells cs⟩ u=if u'=u then some cs else none:=rfl
@[simp] theorem zY {u' u s:Nat} {xs:List A}:vr ⟨u',.arr s xs⟩ u=if u'=u then some (s,xs) else none:=rfl
@[simp] theorem zd {o:Nm} {u:Nat}:QX H o u=vc (H o) u:=rfl
@[simp] theorem MG {o:Nm} {u:Nat}:Mh H o u=vr (H o) u:=rfl
@[simp] theorem wi {o:Nm} {u off:Nat}:Fe P H t (.pob o u off)=match C0 P t,Cv P t with | some g,some sz=>(match vc (H o) u with | some cs=>Jf g sz (cs.drop off) | none=>none) | _,_=>none:=by
 unfold Fe;cases C0 P t with
 |none=>rfl
 |some g=>
  cases Cv P t with
  |none=>rfl
  |some sz=>rfl
@[simp] theorem sy {o:Nm} {u i j:Nat}:Fe P H t (.pel o u i j)=match C0 P t,Cv P t with | some g,some sz=>(match vr (H o) u with | some (_,xs)=>(match xs[i]? with | some x=>Jf g sz (x.cells.drop j) | none=>none) | none=>none) | _,_=>none:=by
 unfold Fe;cases C0 P t with
 |none=>rfl
 |some g=>
  cases Cv P t with
  |none=>rfl
  |some sz=>rfl
@[simp] theorem pW {o:Nm} {u off:Nat} {val:A}:Gr P H t (.pob o u off) val=match Cv P t with
  |some sz=>if val.cells.length=sz∧A.ones val.cells=true then (match vc (H o) u with | some cs=>if off+sz≤cs.length then some (.one o ⟨u,.cells (splice cs off val.cells)⟩) else none | none=>none) else none
  |none=>none:=by
 unfold Gr;cases Cv P t<;>rfl
def Xz (o:Nm) (u i j s sz:Nat) (xs:List A) (val:A):Option A→Option Eff
 |some x=>if j=0∧sz=s then some (.one o ⟨u,.arr s (xs.set i val)⟩)
  else if j+sz≤s∧x.isAgg=true then some (.one o ⟨u,.arr s (xs.set i (x.remake (splice x.cells j val.cells)))⟩) else none
 |none=>none
def kE (o:Nm) (u i j sz:Nat) (val:A):Option (Nat × List A)→Option Eff
 |some (s,xs)=>Xz o u i j s sz xs val xs[i]?
 |none=>none
@[simp] theorem Xe {o:Nm} {u i j s sz:Nat} {xs:List A} {val:A}:kE o u i j sz val (some (s,xs))=Xz o u i j s sz xs val xs[i]?:=rfl
@[simp] theorem kn {o:Nm} {u i j s sz:Nat} {xs:List A} {x val:A}:Xz o u i j s sz xs val (some x)=if j=0∧sz=s then some (.one o ⟨u,.arr s (xs.set i val)⟩)
  else if j+sz≤s∧x.isAgg=true then some (.one o ⟨u,.arr s (xs.set i (x.remake (splice x.cells j val.cells)))⟩) else none:=rfl
@[simp] theorem pz {o:Nm} {u i j:Nat} {val:A}:Gr P H t (.pel o u i j) val=match Cv P t with
  |some sz=>if val.cells.length=sz∧A.ones val.cells=true then kE o u i j sz val (vr (H o) u) else none
  |none=>none:=by
 unfold Gr;cases Cv P t with
 |none=>rfl
 |some sz=>
  simp only[MG];cases vr (H o) u with
  |none=>rfl
  |some p=>
   obtain⟨s,xs⟩:=p;simp only[Xe];cases xs[i]?<;>rfl
@[simp] theorem tQ {d:Nm} {e:TypeId}:Mq P H d e=match A5 P e with | some z=>if A.ones (EL z).cells=true∧Cd d e=true then some (.pob d ((H d).u+1) 0,.one d ⟨(H d).u+1,.cells (EL z).cells⟩) else none | none=>none:=rfl
@[simp] theorem Aaq {d:Nm} {e:TypeId} {a:A}:XG H d e a=if A.ones a.cells=true∧Cd d e=true then some (.pob d ((H d).u+1) 0,.one d ⟨(H d).u+1,.cells a.cells⟩) else none:=rfl
@[simp] theorem yE {a:A}:ey a=if a.isPtr=true then some a else none:=rfl
def kD (H:Hp) (d:Nm) (e:TypeId) (n c:Int):Option Nat→Option Value→Option Nat→Option (A × Eff)
 |some s,some z,some b=>if 0≤n∧n≤c∧b*c≤140737488355328∧0<b∧(EL z).cells.length=s∧A.ones (EL z).cells=true∧Cd d e=true then some (.osl d ((H d).u+1) s 0 n.toNat,.one d ⟨(H d).u+1,.arr s (List.replicate n.toNat (EL z))⟩) else none
 |_,_,_=>none
@[simp] theorem mz {d:Nm} {e:TypeId} {n c:Int} {s b:Nat} {z:Value}:kD H d e n c (some s) (some z) (some b)=if 0≤n∧n≤c∧b*c≤140737488355328∧0<b∧(EL z).cells.length=s∧A.ones (EL z).cells=true∧Cd d e=true then some (.osl d ((H d).u+1) s 0 n.toNat,.one d ⟨(H d).u+1,.arr s (List.replicate n.toNat (EL z))⟩) else none:=rfl
@[simp] theorem gS {d:Nm} {k k':IntKind} {n c:Int}:Ez P H d t (.v (.int k n)) (.v (.int k' c))=match P.underlying t with | some (.slice e)=>kD H d e n c (Cv P e) (A5 P e) (Bb P e) | _=>none:=by
 unfold Ez;cases P.underlying t with
 |none=>rfl
 |some q=>
  cases q<;>first
   |rfl
   |(rename_i e;cases Cv P e<;>cases A5 P e<;>cases Bb P e<;>rfl)
def apS (H:Hp) (d:Nm) (e:TypeId) (xs:List A):Option (List A)→Option Nat→Option Value→Option Nat→Option (A × Eff)
 |some zs,some s,some z,some b=>if 0<b∧(EL z).cells.length=s∧A.ones (EL z).cells=true then if CX s xs=true∧(xs.length=0∨0<zs.length)∧(xs.length+zs.length)*b≤140737488355328∧Cd d e=true then some (.osl d ((H d).u+1) s 0 (xs.length+zs.length),.one d ⟨(H d).u+1,.arr s (xs++zs)⟩) else none else none
 |_,_,_,_=>none
@[simp] theorem uZ {d:Nm} {e:TypeId} {xs zs:List A} {s b:Nat} {z:Value}:apS H d e xs (some zs) (some s) (some z) (some b)=if 0<b∧(EL z).cells.length=s∧A.ones (EL z).cells=true then if CX s xs=true∧(xs.length=0∨0<zs.length)∧(xs.length+zs.length)*b≤140737488355328∧Cd d e=true then some (.osl d ((H d).u+1) s 0 (xs.length+zs.length),.one d ⟨(H d).u+1,.arr s (xs++zs)⟩) else none else none:=rfl
def apO (o:Nm) (e:TypeId) (v sz off len:Nat):Option (Nat × List A)→Option (List A)→Option Nat→Option Value→Option Nat→Option (A × Eff)
 |some (s',ys),some zs,some s,some z,some b=>if 0<b∧(EL z).cells.length=s∧A.ones (EL z).cells=true then if off=0∧s'=s∧sz=s∧len≤ys.length∧(len+zs.length)*b≤140737488355328∧Cd o e=true then some (.osl o (v+1) s 0 (len+zs.length),.one o ⟨v+1,.arr s (ys.take len++zs)⟩) else none else none
 |_,_,_,_,_=>none
@[simp] theorem uh {o:Nm} {e:TypeId} {v sz off len s' s b:Nat} {ys zs:List A} {z:Value}:apO o e v sz off len (some (s',ys)) (some zs) (some s) (some z) (some b)=if 0<b∧(EL z).cells.length=s∧A.ones (EL z).cells=true then if off=0∧s'=s∧sz=s∧len≤ys.length∧(len+zs.length)*b≤140737488355328∧Cd o e=true then some (.osl o (v+1) s 0 (len+zs.length),.one o ⟨v+1,.arr s (ys.take len++zs)⟩) else none else none:=rfl
@[simp] theorem pQ {d:Nm} {xs:List A} {x:A}:DW P H d t u (.sl true xs) x=match P.underlying t with | some (.slice e)=>(match Cv P e with | some s=>apS H d e xs (FE P H s e u x) (some s) (A5 P e) (Bb P e) | none=>none) | _=>none:=by
 unfold DW;cases P.underlying t with
 |none=>rfl
 |some q=>
  cases q<;>try rfl
  rename_i e;simp only;cases Cv P e with
  |none=>rfl
  |some s=>
   cases A5 P e with
   |none=>simp only;cases FE P H s e u x<;>rfl
   |some z=>
    cases Bb P e with
    |none=>simp only;cases FE P H s e u x<;>rfl
    |some b=>simp only;cases FE P H s e u x<;>rfl
def apF (xs:List A):Option (List A)→Option Nat→Option Value→Option Nat→Option (A × Eff)
 |some zs,some s,some z,some b=>if 0<b∧(EL z).cells.length=s∧A.ones (EL z).cells=true then if zs.length=0 then some (.sl false xs,.nil) else none else none
 |_,_,_,_=>none
@[simp] theorem wH {xs zs:List A} {s b:Nat} {z:Value}:apF xs (some zs) (some s) (some z) (some b)=if 0<b∧(EL z).cells.length=s∧A.ones (EL z).cells=true then if zs.length=0 then some (.sl false xs,.nil) else none else none:=rfl
@[simp] theorem nV {d:Nm} {xs:List A} {x:A}:DW P H d t u (.sl false xs) x=match P.underlying t with | some (.slice e)=>(match Cv P e with | some s=>apF xs (FE P H s e u x) (some s) (A5 P e) (Bb P e) | none=>none) | _=>none:=by
 unfold DW;cases P.underlying t with
 |none=>rfl
 |some q=>
  cases q<;>try rfl
  rename_i e;simp only;cases Cv P e with
  |none=>rfl
  |some s=>
   cases A5 P e with
   |none=>simp only;cases FE P H s e u x<;>rfl
   |some z=>
    cases Bb P e with
    |none=>simp only;cases FE P H s e u x<;>rfl
    |some b=>simp only;cases FE P H s e u x<;>rfl
def cpO (o:Nm) (v sz off len s:Nat):Option (Nat × List A)→Option (List A)→Option (A × Eff)
 |some (s',ys),some zs=>if s'=s∧sz=s∧off+len≤ys.length then
   some (.v (.int .i64 (min zs.length len:Nat)),.one o ⟨v,.arr s (ys.take off++zs.take (min zs.length len)++ys.drop (off+min zs.length len))⟩) else none
 |_,_=>none
@[simp] theorem vQ {o:Nm} {v sz off len s s':Nat} {ys zs:List A}:cpO o v sz off len s (some (s',ys)) (some zs)=if s'=s∧sz=s∧off+len≤ys.length then
   some (.v (.int .i64 (min zs.length len:Nat)),.one o ⟨v,.arr s (ys.take off++zs.take (min zs.length len)++ys.drop (off+min zs.length len))⟩) else none:=rfl
@[simp] theorem sD {o:Nm} {v sz off len:Nat} {x:A}:Kk P H t (.osl o v sz off len) x=match P.underlying t with | some (.slice e)=>(match Cv P e with | some s=>cpO o v sz off len s (vr (H o) v) (FI H s x) | none=>none) | _=>none:=by
 unfold Kk;cases P.underlying t with
 |none=>rfl
 |some q=>
  cases q<;>try rfl
  rename_i e;simp only[MG];generalize vr (H o) v=r;cases Cv P e with
  |none=>rfl
  |some s=>simp only;cases FI H s x<;>cases r<;>rfl
@[simp] theorem nR {d o:Nm} {v sz off len:Nat} {x:A}:DW P H d t u (.osl o v sz off len) x=match P.underlying t with | some (.slice e)=>(match Cv P e with | some s=>apO o e v sz off len (vr (H o) v) (FE P H s e u x) (some s) (A5 P e) (Bb P e) | none=>none) | _=>none:=by
 unfold DW;cases P.underlying t with
 |none=>rfl
 |some q=>
  cases q<;>try rfl
  rename_i e;simp only[MG];generalize vr (H o) v=r;cases Cv P e with
  |none=>rfl
  |some s=>
   cases A5 P e with
   |none=>simp only;cases FE P H s e u x<;>cases r<;>rfl
   |some z=>
    cases Bb P e with
    |none=>simp only;cases FE P H s e u x<;>cases r<;>rfl
    |some b=>
     simp only;cases FE P H s e u x with
     |none=>cases r<;>rfl
     |some zs=>cases r<;>simp only[apO]<;>(try split)<;>rfl
def br (n:Int) (s:Nat):Option Value→Option Nat→Option (List A)
 |some z,some b=>if 0≤n∧n*b≤140737488355328∧0<b∧(EL z).cells.length=s∧A.ones (EL z).cells=true then some (List.replicate n.toNat (EL z)) else none
 |_,_=>none
@[simp] theorem j0 {n:Int} {s b:Nat} {z:Value}:br n s (some z) (some b)=if 0≤n∧n*b≤140737488355328∧0<b∧(EL z).cells.length=s∧A.ones (EL z).cells=true then some (List.replicate n.toNat (EL z)) else none:=rfl
@[simp] theorem xH {s e:Nat} {k:IntKind} {n:Int}:FE P H s e t (.v (.int k n))=match P.underlying t with | some (.int _)=>br n s (A5 P e) (Bb P e) | _=>none:=by
 unfold FE;cases P.underlying t with
 |none=>rfl
 |some q=>
  cases q<;>first
   |rfl
   |(cases A5 P e<;>cases Bb P e<;>rfl)
@[simp] theorem zD {s e:Nat} {x:ByteArray}:FE P H s e t (.v (.string x))=match P.underlying t with | some .string=>if s=1 then some (x.data.toList.map fun b=>.v (.int .u8 b.toNat)) else none | _=>none:=by
 unfold FE;cases P.underlying t with
 |none=>rfl
 |some q=>cases q<;>rfl
@[simp] theorem AaW {s e:Nat} {f:Bool} {xs:List A}:FE P H s e t (.sl f xs)=match P.underlying t with | some (.slice _)=>if CX s xs=true then some xs else none | _=>none:=by
 unfold FE;cases P.underlying t with
 |none=>rfl
 |some q=>cases q<;>rfl
def elO (s z off n:Nat):Option (Nat × List A)→Option (List A)
 |some (s',ys)=>if s'=s∧z=s∧off+n≤ys.length then some ((ys.drop off).take n) else none
 |none=>none
@[simp] theorem wy {s z off n s':Nat} {ys:List A}:elO s z off n (some (s',ys))=if s'=s∧z=s∧off+n≤ys.length then some ((ys.drop off).take n) else none:=rfl
@[simp] theorem yh {s e u' z off n:Nat} {o:Nm}:FE P H s e t (.osl o u' z off n)=match P.underlying t with | some (.slice _)=>elO s z off n (vr (H o) u') | _=>none:=by
 unfold FE;cases P.underlying t with
 |none=>rfl
 |some q=>
  cases q<;>first
   |rfl
   |(simp only[FI,MG];cases vr (H o) u'<;>rfl)
def ixS (xs:List A) (i:Int):Option Nat→Option A
 |some m=>if 0≤i∧i<xs.length then (match xs[i.toNat]? with
     |some x=>if x.cells.length=m then some (.pim x.cells) else none
     |none=>none) else none
 |none=>none
@[simp] theorem tB {xs:List A} {i:Int} {m:Nat}:ixS xs i (some m)=if 0≤i∧i<xs.length then (match xs[i.toNat]? with
     |some x=>if x.cells.length=m then some (.pim x.cells) else none
     |none=>none) else none:=rfl
@[simp] theorem jE {k:IntKind} {i:Int} {f:Bool} {xs:List A}:A7 P t (.sl f xs) (.v (.int k i))=match P.underlying t with | some (.slice e)=>ixS xs i (Cv P e) | _=>none:=by
 unfold A7;cases P.underlying t with
 |none=>rfl
 |some q=>
  cases q<;>first
   |rfl
   |(rename_i e;cases h:Cv P e<;>first | rfl | simp[A.shift,h] | (simp only[h];rfl))
def ixO (o:Nm) (u z off n:Nat) (i:Int):Option Nat→Option A
 |some m=>if 0≤i∧i<n∧z=m then some (.pel o u (off+i.toNat) 0) else none
 |none=>none
@[simp] theorem wN {o:Nm} {u z off n m:Nat} {i:Int}:ixO o u z off n i (some m)=if 0≤i∧i<n∧z=m then some (.pel o u (off+i.toNat) 0) else none:=rfl
@[simp] theorem gn {u z off n:Nat} {o:Nm} {k:IntKind} {i:Int}:A7 P t (.osl o u z off n) (.v (.int k i))=match P.underlying t with | some (.slice e)=>ixO o u z off n i (Cv P e) | _=>none:=by
 unfold A7;cases P.underlying t with
 |none=>rfl
 |some q=>
  cases q<;>first
   |rfl
   |(rename_i e;cases h:Cv P e<;>first | rfl | simp[A.shift,h] | (simp only[h];rfl))
def xD (a:A) (n:Nat) (i:Int):Option Nat→Option A
 |some m=>if 0≤i∧i<n then a.shift (i.toNat*m) else none
 |none=>none
@[simp] theorem uW {a:A} {n m:Nat} {i:Int}:xD a n i (some m)=if 0≤i∧i<n then a.shift (i.toNat*m) else none:=rfl
@[simp] theorem gh {u p:Nat} {o:Nm} {k:IntKind} {i:Int}:A7 P t (.pob o u p) (.v (.int k i))=match P.underlying t with | some (.array n e)=>xD (.pob o u p) n i (Cv P e) | _=>none:=by
 unfold A7;cases P.underlying t with
 |none=>rfl
 |some q=>
  cases q<;>first
   |rfl
   |(rename_i e;cases h:Cv P e<;>first | rfl | simp[A.shift,h] | (simp only[h];rfl))
@[simp] theorem gB {cs:List A} {k:IntKind} {i:Int}:A7 P t (.pim cs) (.v (.int k i))=match P.underlying t with | some (.array n e)=>xD (.pim cs) n i (Cv P e) | _=>none:=by
 unfold A7;cases P.underlying t with
 |none=>rfl
 |some q=>
  cases q<;>first
   |rfl
   |(rename_i e;cases h:Cv P e<;>first | rfl | simp[A.shift,h] | (simp only[h];rfl))
@[simp] theorem gH {u p q':Nat} {o:Nm} {k:IntKind} {i:Int}:A7 P t (.pel o u p q') (.v (.int k i))=match P.underlying t with | some (.array n e)=>xD (.pel o u p q') n i (Cv P e) | _=>none:=by
 unfold A7;cases P.underlying t with
 |none=>rfl
 |some q=>
  cases q<;>first
   |rfl
   |(rename_i e;cases h:Cv P e<;>first | rfl | simp[A.shift,h] | (simp only[h];rfl))
def ixV (P:Program) (e:TypeId) (cs:List A) (n:Nat) (i:Int):Option Nat→Option A
 |some m=>if 0≤i∧i<n then LB P e cs (i.toNat*m) else none
 |none=>none
@[simp] theorem tr {e:TypeId} {cs:List A} {n m:Nat} {i:Int}:ixV P e cs n i (some m)=if 0≤i∧i<n then LB P e cs (i.toNat*m) else none:=rfl
@[simp] theorem sO {cs:List A} {off:Nat}:LB P t cs off=match C0 P t,Cv P t with | some g,some sz=>Jf g sz (cs.drop off) | _,_=>none:=rfl
@[simp] theorem pw {cs:List A} {k:IntKind} {i:Int}:JM P t (.agg cs) (.v (.int k i))=match P.underlying t with | some (.array n e)=>ixV P e cs n i (Cv P e) | _=>none:=by
 unfold JM;cases P.underlying t with
 |none=>rfl
 |some q=>
  cases q<;>first
   |rfl
   |(rename_i e;cases h:Cv P e<;>first | rfl | simp[A.shift,h] | (simp only[h];rfl))
@[simp] theorem qh {s:ByteArray} {k:IntKind} {i:Int}:JM P t (.v (.string s)) (.v (.int k i))=match P.underlying t with | some .string=>if 0≤i then (s[i.toNat]?).map (fun b=>.v (.int .u8 b.toNat)) else none | _=>none:=by
 unfold JM;cases P.underlying t with
 |none=>rfl
 |some q=>cases q<;>rfl
@[simp] theorem Aag {f:Bool} {xs:List A}:KM P t (.sl f xs)=match P.underlying t with | some (.slice _)=>some (.v (.int .i64 xs.length)) | some (.array n _)=>some (.v (.int .i64 n)) | _=>none:=by
 unfold KM;cases P.underlying t with
 |none=>rfl
 |some q=>cases q<;>rfl
@[simp] theorem xU {u z off n:Nat} {o:Nm}:KM P t (.osl o u z off n)=match P.underlying t with | some (.slice _)=>some (.v (.int .i64 n)) | some (.array n _)=>some (.v (.int .i64 n)) | _=>none:=by
 unfold KM;cases P.underlying t with
 |none=>rfl
 |some q=>cases q<;>rfl
@[simp] theorem xv {s:ByteArray}:KM P t (.v (.string s))=match P.underlying t with | some .string=>some (.v (.int .i64 s.size)) | some (.array n _)=>some (.v (.int .i64 n)) | _=>none:=by
 unfold KM;cases P.underlying t with
 |none=>rfl
 |some q=>cases q<;>rfl
@[simp] theorem zk {cs:List A}:KM P t (.agg cs)=match P.underlying t with | some (.array n _)=>some (.v (.int .i64 n)) | _=>none:=by
 unfold KM;cases P.underlying t with
 |none=>rfl
 |some q=>cases q<;>rfl
@[simp] theorem xP {o:Nm} {u p:Nat}:KM P t (.pob o u p)=match P.underlying t with | some (.array n _)=>some (.v (.int .i64 n)) | _=>none:=by
 unfold KM;cases P.underlying t with
 |none=>rfl
 |some q=>cases q<;>rfl
def slS (f:Bool) (xs:List A):Option (Nat × Nat × Option Nat)→Option Nat→Option A
 |some (l,h,m),some s=>if CX s xs=true then some (.sl (F7 m f h xs.length) ((xs.drop l).take (h-l))) else none
 |_,_=>none
@[simp] theorem sG {f:Bool} {xs:List A} {l h s:Nat} {m:Option Nat}:slS f xs (some (l,h,m)) (some s)=if CX s xs=true then some (.sl (F7 m f h xs.length) ((xs.drop l).take (h-l))) else none:=rfl
@[simp] theorem uJ {f:Bool} {xs:List A} {s:Option Nat}:slS f xs none s=none:=by cases s<;>rfl
@[simp] theorem vP {f:Bool} {xs:List A} {lo hi mx:Option A}:Gl P t (.sl f xs) lo hi mx=match P.underlying t with | some (.slice e)=>slS f xs (Ch xs.length lo hi mx) (Cv P e) | _=>none:=by
 unfold Gl;cases P.underlying t with
 |none=>rfl
 |some q=>
  cases q<;>first
   |rfl
   |(rename_i e;cases Ch xs.length lo hi mx<;>cases Cv P e<;>rfl)
def zS (o:Nm) (u z off:Nat):Option (Nat × Nat × Option Nat)→Option Nat→Option A
 |some (l,h,_),some s=>if s=z then some (.osl o u z (off+l) (h-l)) else none
 |_,_=>none
@[simp] theorem tF {o:Nm} {u z off l h s:Nat} {m:Option Nat}:zS o u z off (some (l,h,m)) (some s)=if s=z then some (.osl o u z (off+l) (h-l)) else none:=rfl
@[simp] theorem uL {o:Nm} {u z off:Nat} {s:Option Nat}:zS o u z off none s=none:=by cases s<;>rfl
@[simp] theorem qj {u z off n:Nat} {o:Nm} {lo hi mx:Option A}:Gl P t (.osl o u z off n) lo hi mx=match P.underlying t with | some (.slice e)=>zS o u z off (Ch n lo hi mx) (Cv P e) | _=>none:=by
 unfold Gl;cases P.underlying t with
 |none=>rfl
 |some q=>
  cases q<;>first
   |rfl
   |(rename_i e;cases Ch n lo hi mx<;>cases Cv P e<;>rfl)
def z7 (cs:List A) (n:Nat):Option (Nat × Nat × Option Nat)→Option Nat→Option A
 |some (l,h,m),some s=>if s=1∧n≤cs.length then some (.sl (F7 m true h n) ((cs.drop l).take (h-l))) else none
 |_,_=>none
@[simp] theorem vT {cs:List A} {n l h s:Nat} {m:Option Nat}:z7 cs n (some (l,h,m)) (some s)=if s=1∧n≤cs.length then some (.sl (F7 m true h n) ((cs.drop l).take (h-l))) else none:=rfl
@[simp] theorem tq {cs:List A} {n:Nat} {s:Option Nat}:z7 cs n none s=none:=by cases s<;>rfl
@[simp] theorem qE {cs:List A} {lo hi mx:Option A}:Gl P t (.pim cs) lo hi mx=match P.underlying t with | some (.array n e)=>z7 cs n (Ch n lo hi mx) (Cv P e) | _=>none:=by
 unfold Gl;cases P.underlying t with
 |none=>rfl
 |some q=>
  cases q<;>first
   |rfl
   |(rename_i n e;cases Ch n lo hi mx<;>cases Cv P e<;>rfl)
@[simp] theorem qi {s:ByteArray} {lo hi mx:Option A}:Gl P t (.v (.string s)) lo hi mx=match P.underlying t with | some .string=>(match Ch s.size lo hi mx with | some (l,h,none)=>some (.v (.string (s.extract l h))) | _=>none) | _=>none:=by
 unfold Gl;cases P.underlying t with
 |none=>rfl
 |some q=>cases q<;>rfl
@[simp] theorem yb {r:IntKind} {n:Int}:Jo P t u (.v (.int r n))=match P.underlying t,P.underlying u with | some _,some (.int k)=>some (.v (.int k (k.wrap n))) | _,_=>none:=by
 unfold Jo;cases P.underlying t with
 |none=>rfl
 |some q=>cases P.underlying u with
  |none=>rfl
  |some d=>cases d<;>rfl
@[simp] theorem zz {x:ByteArray}:Jo P t u (.v (.string x))=match P.underlying t,P.underlying u with | some _,some .string=>some (.v (.string x)) | _,_=>none:=by
 unfold Jo;cases P.underlying t with
 |none=>rfl
 |some q=>cases P.underlying u with
  |none=>rfl
  |some d=>cases d<;>rfl
def eS (P:Program) (s:TypeId) (f:Nat):Option (TypeId × Nat):=match P.underlying s with
 |some (.struct fs)=>(fs[f]?).map fun fd=>(fd.type,fd.offset)
 |_=>none
@[simp] theorem qo {cs:List A} {f:Nat}:My P t (.agg cs) f=match eS P t f with | some (ft,off)=>LB P ft cs off | none=>none:=by
 unfold My eS;cases P.underlying t with
 |none=>rfl
 |some q=>
  cases q<;>first
   |rfl
   |(rename_i fs;simp only;cases fs[f]?<;>rfl)
@[simp] theorem Aaz {s e:Nat} {a:Option Addr} {c:Nat}:FE P H s e t (.v (.slice a 0 c))=match P.underlying t with | some (.slice _)=>some [] | _=>none:=by
 unfold FE;cases P.underlying t with
 |none=>rfl
 |some q=>cases q<;>rfl
def J3:Nat→List (Nat × A)→Bool
 |_,[]=>true
 |k,(i,_)::l=>i == k&&J3 (k+1) l
@[simp] theorem qw {k:Nat}:J3 k []=true:=rfl
@[simp] theorem QK {k i:Nat} {x:A} {l:List (Nat × A)}:J3 k ((i,x)::l)=(i == k&&J3 (k+1) l):=rfl
theorem KV:∀ (l:List (Nat × A)) (k:Nat),J3 k l=true→l.map (·.1)=List.range' k l.length
 |[],k,_=>rfl
 |(i,x)::l,k,h=>by
  simp only[QK,Bool.and_eq_true,beq_iff_eq] at h;simp only[List.map_cons,List.length_cons,List.range'_succ];rw[h.1,KV l (k+1) h.2]
def uu (len:Nat) (ps:List (Nat × A)):Option Nat→Option Value→Option A
 |some s,some z=>if J3 0 ps=true∧ps.length=len∧len*s≤16777216∧(EL z).cells.length=s∧A.ones (EL z).cells=true∧(ps.all fun p=>p.2.cells.length == s&&A.ones p.2.cells&&p.2.cells.all A.bare1)=true then some (.sl true (ps.map (·.2))) else none
 |_,_=>none
@[simp] theorem ad {len s:Nat} {z:Value} {ps:List (Nat × A)}:uu len ps (some s) (some z)=if J3 0 ps=true∧ps.length=len∧len*s≤16777216∧(EL z).cells.length=s∧A.ones (EL z).cells=true∧(ps.all fun p=>p.2.cells.length == s&&A.ones p.2.cells&&p.2.cells.all A.bare1)=true then some (.sl true (ps.map (·.2))) else none:=rfl
theorem Ki:∀ (l:List (Nat × A)) (k:Nat),l.map (·.1)=List.range' k l.length→J3 k l=true
 |[],k,_=>rfl
 |(i,x)::l,k,h=>by
  simp only[List.map_cons,List.length_cons,List.range'_succ,List.cons.injEq] at h;simp only[QK,Bool.and_eq_true,beq_iff_eq];exact⟨h.1,Ki l (k+1) h.2⟩
@[simp] theorem gr {len:Nat} {ps:List (Nat × A)}:EG P t len ps=match P.underlying t with | some (.slice e)=>uu len ps (Cv P e) (A5 P e) | _=>none:=by
 unfold EG;cases P.underlying t with
 |none=>rfl
 |some q=>
  cases q<;>try rfl
  rename_i e;simp only;cases Cv P e with
  |none=>rfl
  |some s=>
   cases A5 P e with
   |none=>rfl
   |some z=>
    have he:(ps.map (·.1)=List.range len) ↔ (J3 0 ps=true∧ps.length=len):=by
     constructor
     ·intro h;have hl:ps.length=len:=by have:=congrArg List.length h;simpa using this
      exact⟨Ki ps 0 (by rw[h,hl,List.range_eq_range']),hl⟩
     ·rintro⟨h1,h2⟩;rw[KV _ _ h1,h2,List.range_eq_range']
    simp only[ad,he,and_assoc]
def ta (H:Hp) (d:Nm) (e:TypeId) (len:Nat) (ps:List (Nat × A)):Option Nat→Option Value→Option (A × Eff)
 |some s,some z=>if J3 0 ps=true∧ps.length=len∧len*s≤16777216∧(EL z).cells.length=s∧A.ones (EL z).cells=true∧(ps.all fun p=>p.2.cells.length == s&&A.ones p.2.cells)=true∧Cd d e=true then some (.osl d ((H d).u+1) s 0 len,.one d ⟨(H d).u+1,.arr s (ps.map (·.2))⟩) else none
 |_,_=>none
@[simp] theorem Y6 {H:Hp} {d:Nm} {e:TypeId} {len s:Nat} {z:Value} {ps:List (Nat × A)}:ta H d e len ps (some s) (some z)=if J3 0 ps=true∧ps.length=len∧len*s≤16777216∧(EL z).cells.length=s∧A.ones (EL z).cells=true∧(ps.all fun p=>p.2.cells.length == s&&A.ones p.2.cells)=true∧Cd d e=true then some (.osl d ((H d).u+1) s 0 len,.one d ⟨(H d).u+1,.arr s (ps.map (·.2))⟩) else none:=rfl
@[simp] theorem bM {H:Hp} {d:Nm} {len:Nat} {ps:List (Nat × A)}:DA P H d t len ps=match P.underlying t with | some (.slice e)=>ta H d e len ps (Cv P e) (A5 P e) | _=>none:=by
 unfold DA;cases P.underlying t with
 |none=>rfl
 |some q=>
  cases q<;>try rfl
  rename_i e;simp only;cases Cv P e with
  |none=>rfl
  |some s=>
   cases A5 P e with
   |none=>rfl
   |some z=>
    have he:(ps.map (·.1)=List.range len) ↔ (J3 0 ps=true∧ps.length=len):=by
     constructor
     ·intro h;have hl:ps.length=len:=by have:=congrArg List.length h;simpa using this
      exact⟨Ki ps 0 (by rw[h,hl,List.range_eq_range']),hl⟩
     ·rintro⟨h1,h2⟩;rw[KV _ _ h1,h2,List.range_eq_range']
    simp only[Y6,he,and_assoc]
@[simp] theorem gL {cs:List A}:HL P .eql t (.pim cs) (.v (.pointer none))=match P.underlying t with | some (.pointer _)=>some (.v (.bool false)) | _=>none:=by
 show(Jt P 100 t _ _).map _=_;unfold Jt;cases P.underlying t with
 |none=>rfl
 |some q=>cases q<;>rfl
@[simp] theorem ij {cs:List A}:HL P .neq t (.pim cs) (.v (.pointer none))=match P.underlying t with | some (.pointer _)=>some (.v (.bool true)) | _=>none:=by
 show(Jt P 100 t _ _).map _=_;unfold Jt;cases P.underlying t with
 |none=>rfl
 |some q=>cases q<;>rfl
@[simp] theorem iE {o:Nm} {v p:Nat}:HL P .eql t (.pob o v p) (.v (.pointer none))=match P.underlying t with | some (.pointer _)=>some (.v (.bool false)) | _=>none:=by
 show(Jt P 100 t _ _).map _=_;unfold Jt;cases P.underlying t with
 |none=>rfl
 |some q=>cases q<;>rfl
@[simp] theorem jk {o:Nm} {v p:Nat}:HL P .neq t (.pob o v p) (.v (.pointer none))=match P.underlying t with | some (.pointer _)=>some (.v (.bool true)) | _=>none:=by
 show(Jt P 100 t _ _).map _=_;unfold Jt;cases P.underlying t with
 |none=>rfl
 |some q=>cases q<;>rfl
@[simp] theorem ja {o:Nm} {v p q':Nat}:HL P .eql t (.pel o v p q') (.v (.pointer none))=match P.underlying t with | some (.pointer _)=>some (.v (.bool false)) | _=>none:=by
 show(Jt P 100 t _ _).map _=_;unfold Jt;cases P.underlying t with
 |none=>rfl
 |some q=>cases q<;>rfl
@[simp] theorem iW {o:Nm} {v p q':Nat}:HL P .neq t (.pel o v p q') (.v (.pointer none))=match P.underlying t with | some (.pointer _)=>some (.v (.bool true)) | _=>none:=by
 show(Jt P 100 t _ _).map _=_;unfold Jt;cases P.underlying t with
 |none=>rfl
 |some q=>cases q<;>rfl
@[simp] theorem gV:HL P .eql t (.v (.pointer none)) (.v (.pointer none))=match P.underlying t with | some (.pointer _)=>some (.v (.bool true)) | _=>none:=by
 show(Jt P 100 t _ _).map _=_;unfold Jt;cases P.underlying t with
 |none=>rfl
 |some q=>cases q<;>rfl
@[simp] theorem js:HL P .neq t (.v (.pointer none)) (.v (.pointer none))=match P.underlying t with | some (.pointer _)=>some (.v (.bool false)) | _=>none:=by
 show(Jt P 100 t _ _).map _=_;unfold Jt;cases P.underlying t with
 |none=>rfl
 |some q=>cases q<;>rfl
@[simp] theorem gz {a b:Bool}:HL P .eql t (.v (.bool a)) (.v (.bool b))=match P.underlying t with | some .bool=>some (.v (.bool (a == b))) | _=>none:=by
 show(Jt P 100 t _ _).map _=_;unfold Jt;cases P.underlying t with
 |none=>rfl
 |some q=>cases q<;>rfl
@[simp] theorem gy {a b:Bool}:HL P .neq t (.v (.bool a)) (.v (.bool b))=match P.underlying t with | some .bool=>some (.v (.bool (!(a == b)))) | _=>none:=by
 show(Jt P 100 t _ _).map _=_;unfold Jt;cases P.underlying t with
 |none=>rfl
 |some q=>cases q<;>rfl
end
def Gt {α:Type} (F:Option α) (K:α→Prop):Prop:=∃ x,F=some x∧K x
def F0 (q:Bool) (F:Option A) (K:A→Prop):Prop:=∃ x,(q=true→F=some x)∧K (gd q x)
def Qr (q:Bool) (F:Prop):Prop:=q=true→F
def Pw (b:Bool) (F G:Prop):Prop:=(b=true→F)∧(b=false→G)
@[congr] theorem sL {α:Type} {F F':Option α} {K:α→Prop} (h:F=F'):Gt F K=Gt F' K:=by rw[h]
@[congr] theorem pV {q q':Bool} {F F':Option A} {K:A→Prop} (h1:q=q') (h2:F=F'):F0 q F K=F0 q' F' K:=by rw[h1,h2]
@[congr] theorem rP {b b':Bool} {F G:Prop} (h:b=b'):Pw b F G=Pw b' F G:=by rw[h]
@[congr] theorem oI {P:Program} {K:Sta→Prop} {l:List CO} {lg lg':Lg} {st st':Sta} (h0:lg=lg') (h:st=st'):Am P K l lg st=Am P K l lg' st':=by rw[h0,h]
@[congr] theorem qD {c:Cx} {x:CC} {Q:Exit→Sta→Prop} {st st':Sta} (h:st=st'):WPC c x Q st=WPC c x Q st':=by rw[h]
@[congr] theorem j4 {c:Cx} {x:CC} {Q:Exit→Sta→Prop} {st st':Sta} (h:st=st'):LoopC c x Q st=LoopC c x Q st':=by rw[h]
@[congr] theorem kC {K:Sta→Prop} {Q:Exit→Sta→Prop} {e e':Exit} {st st':Sta} (h0:e=e') (h:st=st'):JW K Q e st=JW K Q e' st':=by rw[h0,h]
@[congr] theorem j5 {c:Cx} {K:Sta→Prop} {st st':Sta} (h:st=st'):Pn c K st=Pn c K st':=by rw[h]
@[congr] theorem gi {i:Nat} {Q:Exit→Sta→Prop} {e e':Exit} {st st':Sta} (h0:e=e') (h:st=st'):Dg i Q e st=Dg i Q e' st':=by rw[h0,h]
@[congr] theorem qB {Q:Exit→Sta→Prop} {e e':Exit} {st st':Sta} (h0:e=e') (h:st=st'):me Q e st=me Q e' st':=by rw[h0,h]
@[simp] theorem xe {α:Type} {x:α} {K:α→Prop}:Gt (some x) K=K x:=by simp[Gt]
@[simp] theorem Abd {α:Type} {C:Prop} [Decidable C] {F G:Option α} {K:α→Prop}:Gt (if C then F else G) K=((C→Gt F K)∧(¬C→Gt G K)):=by
 by_cases h:C<;>simp[h]
@[simp] theorem yx {α:Type} {K:α→Prop}:Gt none K=False:=by simp[Gt]
@[simp high] theorem y5 {α:Type} {C:Prop} [Decidable C] {F:Option α} {K:α→Prop}:Gt (if C then F else none) K=(C∧Gt F K):=by
 by_cases h:C<;>simp[h]
@[simp] theorem si {q:Bool} {x:A} {K:A→Prop}:F0 q (some x) K=K (gd q x):=by
 apply propext;constructor
 ·rintro⟨y,h1,h2⟩;cases q
  ·exact h2
  ·cases h1 rfl;exact h2
 ·exact fun h=>⟨x,fun _=>rfl,h⟩
@[simp high] theorem ur {q:Bool} {C:Prop} [Decidable C] {F:Option A} {K:A→Prop}:F0 q (if C then F else none) K=(Qr q C∧F0 q F K):=by
 cases q
 ·simp[F0,Qr]
 ·by_cases h:C<;>simp[h,F0,Qr]
@[simp] theorem sd {F:Option A} {K:A→Prop}:F0 true F K=Gt F K:=by simp[F0,Gt,gd]
@[simp] theorem rj {F:Option A} {K:A→Prop}:F0 false F K=K (.v undef):=by simp[F0,gd]
@[simp] theorem vY {F:Prop}:Qr true F=F:=by simp[Qr]
@[simp] theorem rf {F:Prop}:Qr false F=True:=by simp[Qr]
@[simp] theorem jX {q:Bool}:Qr q True=True:=by simp[Qr]
@[simp] theorem ou {p:Prop} [Decidable p] {F:Prop}:Qr (decide p) F=(p→F):=by simp[Qr]
@[simp] theorem uM {F G:Prop}:Pw true F G=F:=by simp[Pw]
@[simp] theorem qm {F G:Prop}:Pw false F G=G:=by simp[Pw]
@[simp] theorem m6 {p:Prop} [Decidable p] {F G:Prop}:Pw (decide p) F G=((p→F)∧(¬p→G)):=by simp[Pw]
@[simp] theorem yn {b:Bool} {F G:Prop}:Pw (!b) F G=Pw b G F:=by cases b<;>simp
@[simp] theorem y6 {a b:Bool} {F G:Prop}:Pw (a&&b) F G=(((a&&b)=true→F)∧((a&&b)=false→G)):=rfl
@[simp] theorem AaU {a b:Bool} {F G:Prop}:Pw (a || b) F G=(((a || b)=true→F)∧((a || b)=false→G)):=rfl
@[simp] theorem sM {b:Bool} {F:Prop}:Pw b F F=F:=by cases b<;>simp
@[simp] theorem zn {x:A}:gd true x=x:=rfl
@[simp] theorem tU {x:A}:gd false x = .v undef:=rfl
@[simp] theorem AaA {q:Bool} {x y:A}:(bif q then gd q x else y)=bif q then x else y:=by cases q<;>rfl
def ng (b:Bool):Bool:=!b
@[simp] theorem vG:ng true=false:=rfl
@[simp] theorem rM:ng false=true:=rfl
@[simp] theorem xk {b:Bool}:(ng b=true)=(b=false):=by cases b<;>simp[ng]
@[simp] theorem uI {b:Bool}:(ng b=false)=(b=true):=by cases b<;>simp[ng]
@[simp] theorem AaT {b:Bool}:ng (!b)=b:=by cases b<;>rfl
@[simp] theorem l6 {q:Bool} {x y:A}:(bif q then x else gd (!q) y)=bif q then x else y:=by cases q<;>rfl
@[simp] theorem nK {q c:Bool} {x y:A}:gd q (bif c then x else gd (q&&!c) y)=gd q (bif c then x else y):=by cases q<;>cases c<;>rfl
@[simp] theorem zX {b:Bool} {F:Prop}:Qr (ng b) F=(b=false→F):=by cases b<;>simp[Qr]
@[simp] theorem zJ {a b:Bool} {F:Prop}:Qr (a&&b) F=Qr a (Qr b F):=by cases a<;>cases b<;>simp[Qr]
@[simp] theorem AaD {a b:Bool} {F:Prop}:Qr (a || b) F=(Qr a F∧Qr b F):=by cases a<;>cases b<;>simp[Qr]
@[simp] theorem xV {a:Bool} {F:Prop}:Qr (!a) F=(a=false→F):=by cases a<;>simp[Qr]
@[simp] theorem Aa1 {b:Bool} {F G:Prop}:Pw (ng b) F G=Pw b G F:=by cases b<;>simp[Pw]
@[simp] theorem xd {q:Bool} {x y:A}:(bif q then x else gd (ng q) y)=bif q then x else y:=by cases q<;>rfl
@[simp] theorem o4 {b:Bool}:BK (.v (.bool b)) true=some b:=by cases b<;>rfl
@[simp] theorem jV {b:Bool}:BK (.v (.bool b)) false=some (ng b):=by cases b<;>rfl
@[simp] theorem kY {f:Bool}:BK (.v undef) f=some false:=rfl
@[simp] theorem tf {q b:Bool}:BK (gd q (.v (.bool b))) true=some (q&&b):=by cases q<;>cases b<;>rfl
@[simp] theorem qM {q b:Bool}:BK (gd q (.v (.bool b))) false=some (q&&ng b):=by cases q<;>cases b<;>rfl
@[simp] theorem yp {q c:Bool} {x y:A}:gd q (bif c then gd (q&&c) x else y)=gd q (bif c then x else y):=by cases q<;>cases c<;>rfl
@[simp] theorem yJ {q c:Bool} {x y:A}:gd q (bif c then x else gd (q&&ng c) y)=gd q (bif c then x else y):=by cases q<;>cases c<;>rfl
@[simp] theorem AbF {q:Bool} {x:A}:gd q (gd q x)=gd q x:=by cases q<;>rfl
@[simp] theorem oC {b:Bool}:Vi (.v (.bool b))=some b:=rfl
@[simp] theorem qV {b:Bool} {x y:A}:VF (.v (.bool b)) x y=some (bif b then x else y):=rfl
@[simp] theorem qb {α:Type} {b:Bool} {x:α}:(bif b then x else x)=x:=by cases b<;>rfl
section
variable {c:Cx} {Q:Exit→Sta→Prop} {st:Sta} {K:Sta→Prop}
@[simp] theorem sA:WPC c .skip Q st=Q .normal st:=rfl
@[simp] theorem tx {i:Nat}:WPC c (.exit i) Q st=Q (.exit i) st:=rfl
@[simp] theorem ye:WPC c .ret Q st=Q .ret st:=rfl
def kx (Q:Exit→Sta→Prop) (live:List Nat) (st:Sta):Prop:=Q .normal (st.keep live)
@[simp] theorem td {live:List Nat}:kx Q live st=Q .normal (st.keep live):=rfl
@[simp] theorem zI {ops:List CO} {live:List Nat}:WPC c (.reg ops live) Q st=Am c.P (kx Q live) ops [] st:=rfl
@[simp] theorem xq {x y:CC}:WPC c (.seq x y) Q st=WPC c x (JW (WPC c y Q) Q) st:=rfl
@[simp] theorem qp {i:Nat} {x:CC}:WPC c (.block i x) Q st=WPC c x (Dg i Q) st:=rfl
@[simp] theorem wj {x:CC}:WPC c (.loop x) Q st=LoopC c x Q st:=rfl
@[simp] theorem pv {x:CC}:WPC c (.scope x) Q st=WPC c x (me Q) st:=rfl
@[simp] theorem oU:me Q .normal st=Q .normal st:=rfl
@[simp] theorem vi {i:Nat}:me Q (.exit i) st=Q (.exit i) st:=rfl
@[simp] theorem yk:me Q .ret st=Q .ret st:=rfl
@[simp] theorem te {x:CC}:WPC c (.stop x) Q st=Pn c (WPC c x Q) st:=rfl
@[simp] theorem vD {live:List Nat} {x:CC}:WPC c (.keep live x) Q st=WPC c x Q (st.keep live):=rfl
@[simp] theorem vu {o:Operand} {x y:CC}:WPC c (.cond o x y) Q st=Gt (Vi (evs st.s o)) fun b=>Pw b (WPC c x Q st) (WPC c y Q st):=by
 apply propext;constructor
 ·rintro⟨b,h1,h2,h3⟩;exact⟨b,by rw[h1];rfl,h2,h3⟩
 ·rintro⟨b,h1,h2,h3⟩;exact⟨b,Qn h1,h2,h3⟩
@[simp] theorem jt:JW K Q .normal st=K st:=rfl
@[simp] theorem oZ {i:Nat}:JW K Q (.exit i) st=Q (.exit i) st:=rfl
@[simp] theorem pX:JW K Q .ret st=Q .ret st:=rfl
theorem Ab {x x':CC} (hm:c.P.follows .mixedOrders=true) (he:x=x') (h:WPC c x' (JW (LoopC c x Q) Q) st):LoopC c x Q st:=by
 subst he;exact Wd hm h
@[simp] theorem Ab3 {P:Program} {w0:World} {I0:Nat→Prop} {n:Nat}:(cx P w0 I0 n).P=P:=rfl
variable {P:Program} {rs:List ResultVar} {r:A}
@[simp] theorem ku:NC P rs r .normal st=Gt (EC P st rs) fun r0=>Gy st.H r0 r:=rfl
@[simp] theorem uH:NC P rs r .ret st=Gt (EC P st rs) fun r0=>Gy st.H r0 r:=rfl
@[simp] theorem nE {t:Nat}:Mr P st (.tmp t)=some (st.s t):=rfl
@[simp] theorem j1 {t:TypeId} {a:Nat}:Mr P st (.cell a t)=Fe P st.H t (st.s a):=rfl
@[simp] theorem vp {x:ResultVar}:EC P st [x]=Mr P st x:=rfl
@[simp] theorem tD {x y:ResultVar} {l:List ResultVar}:EC P st (x::y::l)=(Gw P st (x::y::l)).map .tup:=rfl
@[simp] theorem uf:EC P st []=some (.tup []):=rfl
@[simp] theorem j6:Gw P st []=some []:=rfl
@[simp] theorem jA {x:ResultVar} {l:List ResultVar}:Gw P st (x::l)=match Mr P st x,Gw P st l with | some x,some l=>some (x::l) | _,_=>none:=rfl
end
section
variable {P:Program} {H:Hp} {t u:TypeId} {q:Bool} {x y z:A} {K:A→Prop}
theorem Dq {F F':Option A} (h:q=true→F=F'):F0 q F K=F0 q F' K:=by
 cases q
 ·simp
 ·rw[h rfl]
@[simp] theorem tR {op:BinOp}:F0 q (HL P op t (gd q x) y) K=F0 q (HL P op t x y) K:=Dq fun h=>by rw[h];rfl
@[simp] theorem rU {op:BinOp}:F0 q (HL P op t x (gd q y)) K=F0 q (HL P op t x y) K:=Dq fun h=>by rw[h];rfl
@[simp] theorem Aan {op:UnOp}:F0 q (jL op (gd q y)) K=F0 q (jL op y) K:=Dq fun h=>by rw[h];rfl
@[simp] theorem wE:F0 q (Jo P t u (gd q y)) K=F0 q (Jo P t u y) K:=Dq fun h=>by rw[h];rfl
@[simp] theorem ux:F0 q (Fe P H t (gd q y)) K=F0 q (Fe P H t y) K:=Dq fun h=>by rw[h];rfl
@[simp] theorem gE {i:Nat}:F0 q (EE P t (gd q y) i) K=F0 q (EE P t y i) K:=Dq fun h=>by rw[h];rfl
@[simp] theorem ga:F0 q (A7 P t (gd q x) y) K=F0 q (A7 P t x y) K:=Dq fun h=>by rw[h];rfl
@[simp] theorem cY:F0 q (A7 P t x (gd q y)) K=F0 q (A7 P t x y) K:=Dq fun h=>by rw[h];rfl
@[simp] theorem yR:F0 q (KM P t (gd q y)) K=F0 q (KM P t y) K:=Dq fun h=>by rw[h];rfl
@[simp] theorem yO:F0 q (VF (gd q z) x y) K=F0 q (VF z x y) K:=Dq fun h=>by rw[h];rfl
def GB (P:Program) (q:Bool) (t:TypeId) (acc l:List (Nat × A)) (K:A→Prop):Prop:=F0 q (BW P t (acc++l)) K
@[congr] theorem tY {q':Bool} {acc l l':List (Nat × A)} (h0:q=q') (h:l=l'):GB P q t acc l K=GB P q' t acc l' K:=by rw[h0,h]
@[simp] theorem AaP {acc:List (Nat × A)}:GB P q t acc [] K=F0 q (BW P t acc) K:=by simp[GB]
theorem JO {acc l:List (Nat × A)} {i:Nat}:GB P q t acc ((i,x)::l) K=GB P q t (acc++[(i,x)]) l K:=by simp[GB]
@[simp] theorem Abo {acc l:List (Nat × A)} {i:Nat}:GB P q t acc ((i,gd q x)::l) K=GB P q t (acc++[(i,x)]) l K:=by
 rw[← JO];exact Dq fun h=>by rw[h];rfl
@[simp] theorem Ab0 {acc l:List (Nat × A)} {i:Nat} {a:Value}:GB P q t acc ((i,.v a)::l) K=GB P q t (acc++[(i,.v a)]) l K:=JO
@[simp] theorem AbD {acc l:List (Nat × A)} {i:Nat} {b:Bool} {xs:List A}:GB P q t acc ((i,.sl b xs)::l) K=GB P q t (acc++[(i,.sl b xs)]) l K:=JO
@[simp] theorem AaG {acc l:List (Nat × A)} {i u z m n:Nat} {o:Nm}:GB P q t acc ((i,.osl o u z m n)::l) K=GB P q t (acc++[(i,.osl o u z m n)]) l K:=JO
@[simp] theorem AaE {acc l:List (Nat × A)} {i u m:Nat} {o:Nm}:GB P q t acc ((i,.pob o u m)::l) K=GB P q t (acc++[(i,.pob o u m)]) l K:=JO
@[simp] theorem Aaf {acc l:List (Nat × A)} {i:Nat} {xs:List A}:GB P q t acc ((i,.pim xs)::l) K=GB P q t (acc++[(i,.pim xs)]) l K:=JO
@[simp] theorem zU {acc l:List (Nat × A)} {i:Nat} {xs:List A}:GB P q t acc ((i,.agg xs)::l) K=GB P q t (acc++[(i,.agg xs)]) l K:=JO
@[simp] theorem kL {i:Nat}:F0 q (GU (gd q y) i) K=F0 q (GU y i) K:=Dq fun h=>by rw[h];rfl
end
section
variable {P:Program} {H:Hp} {t u:TypeId}
@[simp] theorem xa {op:BinOp} {q r:IntKind} {a b:Int}:HL P op t (.v (.int q a)) (.v (.int r b))=Dx op q r a b:=rfl
@[simp] theorem sN {op:BinOp} {a b:ByteArray}:HL P op t (.v (.string a)) (.v (.string b))=MA op a b:=rfl
@[simp] theorem j8 {xs ys:List A}:HL P .eql t (.agg xs) (.agg ys)=if P.eqGuardType P.depth t=false then (Jt P 100 t (.agg xs) (.agg ys)).map fun b=>.v (.bool b) else none:=rfl
@[simp] theorem kK {xs ys:List A}:HL P .neq t (.agg xs) (.agg ys)=if P.eqGuardType P.depth t=false then (Jt P 100 t (.agg xs) (.agg ys)).map fun b=>.v (.bool (!b)) else none:=rfl
@[simp] theorem uo {q r:IntKind} {a b:Int}:Dx .shl q r a b=if 0≤b then some (.v (.int q (q.wrap (a*2 ^ (min b.toNat q.bits))))) else none:=rfl
@[simp] theorem vw {q r:IntKind} {a b:Int}:Dx .shr q r a b=if 0≤b then some (.v (.int q (a / 2 ^ (min b.toNat q.bits)))) else none:=rfl
@[simp] theorem tI {q:IntKind} {a b:Int}:Dx .add q q a b=some (.v (.int q (q.wrap (a+b)))):=by simp[Dx]
@[simp] theorem sE {q:IntKind} {a b:Int}:Dx .sub q q a b=some (.v (.int q (q.wrap (a-b)))):=by simp[Dx]
@[simp] theorem w5 {q:IntKind} {a b:Int}:Dx .mul q q a b=some (.v (.int q (q.wrap (a*b)))):=by simp[Dx]
@[simp] theorem ue {q:IntKind} {a b:Int}:Dx .quo q q a b=if b=0 then none else some (.v (.int q (q.wrap (a.tdiv b)))):=by simp[Dx]
@[simp] theorem tN {q:IntKind} {a b:Int}:Dx .rem q q a b=if b=0 then none else some (.v (.int q (a.tmod b))):=by simp[Dx]
@[simp] theorem ve {q:IntKind} {a b:Int}:Dx .and q q a b=some (.v (.int q (bits .and q a b))):=by simp[Dx]
@[simp] theorem xi {q:IntKind} {a b:Int}:Dx .or q q a b=some (.v (.int q (bits .or q a b))):=by simp[Dx]
@[simp] theorem w8 {q:IntKind} {a b:Int}:Dx .xor q q a b=some (.v (.int q (bits .xor q a b))):=by simp[Dx]
@[simp] theorem kZ {q:IntKind} {a b:Int}:Dx .andNot q q a b=some (.v (.int q (bits .andNot q a b))):=by simp[Dx]
@[simp] theorem tz {q:IntKind} {a b:Int}:Dx .eql q q a b=some (.v (.bool (decide (a=b)))):=by simp[Dx];rfl
@[simp] theorem sr {q:IntKind} {a b:Int}:Dx .neq q q a b=some (.v (.bool (!decide (a=b)))):=by simp[Dx];rfl
@[simp] theorem vy {q:IntKind} {a b:Int}:Dx .lss q q a b=some (.v (.bool (decide (a<b)))):=by simp[Dx]
@[simp] theorem wT {q:IntKind} {a b:Int}:Dx .leq q q a b=some (.v (.bool (decide (a≤b)))):=by simp[Dx]
@[simp] theorem vZ {q:IntKind} {a b:Int}:Dx .gtr q q a b=some (.v (.bool (decide (b<a)))):=by simp[Dx]
@[simp] theorem tE {q:IntKind} {a b:Int}:Dx .geq q q a b=some (.v (.bool (decide (b≤a)))):=by simp[Dx]
@[simp] theorem yP {b:Bool}:jL .not (.v (.bool b))=some (.v (.bool (!b))):=rfl
@[simp] theorem xM {q:IntKind} {n:Int}:jL .neg (.v (.int q n))=some (.v (.int q (q.wrap (0-n)))):=rfl
@[simp] theorem vg {cs:List A}:Fe P H t (.pim cs)=match C0 P t,Cv P t with | some g,some sz=>Jf g sz cs | _,_=>none:=rfl
@[simp] theorem s7 {sz:Nat} {cs:List A}:Jf true sz cs=if sz≤cs.length then some (.agg (cs.take sz)) else none:=rfl
@[simp] theorem qQ {sz:Nat} {cs:List A}:Jf false sz cs=cs[0]?:=rfl
@[simp] theorem nN {n:Nat}:Gj (.tmp n)=false:=rfl
@[simp] theorem nM {k:IntKind} {n:Int}:Gj (.const (.int k n))=false:=rfl
@[simp] theorem kh {n:Bool}:Gj (.const (.bool n))=false:=rfl
@[simp] theorem lr {n:ByteArray}:Gj (.const (.string n))=false:=rfl
@[simp] theorem mR {n:Option Addr}:Gj (.const (.pointer n))=false:=rfl
@[simp] theorem od {n:Array Value}:Gj (.const (.agg n))=false:=rfl
@[simp] theorem lQ:Gj (.const .nilIface)=false:=rfl
@[simp] theorem ns:Gj (.const (.slice none 0 0))=true:=rfl
@[simp] theorem pY {x:A}:JG P .eql t x=match P.underlying t with | some (.slice _)=>(U9 x).map fun b=>.v (.bool b) | _=>none:=by
 unfold JG;cases P.underlying t with
 |none=>rfl
 |some d=>cases d<;>rfl
@[simp] theorem pq {x:A}:JG P .neq t x=match P.underlying t with | some (.slice _)=>(U9 x).map fun b=>.v (.bool (!b)) | _=>none:=by
 unfold JG;cases P.underlying t with
 |none=>rfl
 |some d=>cases d<;>rfl
@[simp] theorem qL {f:Bool} {x:A} {xs:List A}:U9 (.sl f (x::xs))=some false:=rfl
@[simp] theorem Aai {a:Option Addr} {n c:Nat}:U9 (.v (.slice a n c))=some a.isNone:=rfl
@[simp] theorem qU {len:Nat} {lo hi:Option A}:Ch len lo hi none=match EB hi len len with | some h=>(match EB lo 0 h with | some l=>some (l,h,none) | none=>none) | none=>none:=rfl
@[simp] theorem mE {d n:Nat}:EB none d n=some d:=rfl
@[simp] theorem rF {k:IntKind} {i:Int} {d n:Nat}:EB (some (.v (.int k i))) d n=if 0≤i∧i≤n then some i.toNat else none:=rfl
@[simp] theorem mI {f:Bool} {h n:Nat}:F7 none f h n=(f&&h == n):=rfl
@[simp] theorem pa {f:Bool} {h n m:Nat}:F7 (some m) f h n=(m == h):=rfl
@[simp] theorem rm {n:Nat} {cs:List A}:A.shift n (.pim cs)=some (.pim (cs.drop n)):=rfl
@[simp] theorem pt {n u p:Nat} {o:Nm}:A.shift n (.pob o u p)=some (.pob o u (p+n)):=rfl
@[simp] theorem rz {n u p q:Nat} {o:Nm}:A.shift n (.pel o u p q)=some (.pel o u p (q+n)):=rfl
@[simp] theorem jx {a:A} {i:Nat}:EE P t a i=(Ak P t i).bind a.shift:=rfl
@[simp] theorem jP {xs:List A} {i:Nat}:GU (.tup xs) i=xs[i]?:=rfl
@[simp] theorem kO {c:A} {cs news:List A} {n:Nat}:splice (c::cs) (n+1) news=c::splice cs n news:=by simp[splice,Nat.add_right_comm]
@[simp] theorem kR {cs news:List A}:splice cs 0 news=news++cs.drop news.length:=by simp[splice]
end
section
variable {P:Program} {s:Nat→A} {H:Hp}
@[simp] theorem vR {d:Nat} {x:A} {H':Hp}:Sta.put ⟨s,H⟩ (some d) x H'=⟨upd s d x,H'⟩:=rfl
@[simp] theorem rX {x:A} {H':Hp}:Sta.put ⟨s,H⟩ none x H'=⟨s,H'⟩:=rfl
@[simp] theorem Abc {d t:Nat} {x:A}:upd s d x t=if t=d then x else s t:=rfl
@[simp] theorem zW {t:Nat}:lk [] t = .any:=rfl
@[simp] theorem yB {d t:Nat} {x:A} {l:List (Nat × A)}:lk ((d,x)::l) t=if d=t then x else lk l t:=rfl
@[simp] theorem xj {args:List A} {t:Nat}:Mw args t=(args[t]?).getD .any:=rfl
@[simp] theorem xp {t:Nat}:evs s (.tmp t)=s t:=rfl
@[simp] theorem pD {x:Value}:evs s (.const x)=EL x:=rfl
@[simp] theorem sV {g:FuncId}:evs s (.func g) = .fnc g [] []:=rfl
@[simp] theorem zj {live:List Nat}:Sta.keep ⟨s,H⟩ live=⟨lk (live.map fun k=>(k,s k)),H⟩:=rfl
@[simp] theorem zF {q:IntKind} {n:Int}:EL (.int q n) = .v (.int q n):=rfl
@[simp] theorem uy {b:Bool}:EL (.bool b) = .v (.bool b):=rfl
@[simp] theorem ml {b:ByteArray}:EL (.string b) = .v (.string b):=rfl
@[simp] theorem kG {b:Option Addr}:EL (.pointer b) = .v (.pointer b):=rfl
@[simp] theorem zH:EL (.slice none 0 0) = .sl true []:=rfl
@[simp] theorem yi {cs:Array Value}:EL (.agg cs) = .agg (cs.toList.map RY):=rfl
@[simp] theorem vd {q:IntKind} {n:Int}:RY (.int q n) = .v (.int q n):=rfl
@[simp] theorem rE {b:Bool}:RY (.bool b) = .v (.bool b):=rfl
@[simp] theorem kI {b:ByteArray}:RY (.string b) = .v (.string b):=rfl
@[simp] theorem ia {b:Option Addr}:RY (.pointer b) = .v (.pointer b):=rfl
@[simp] theorem tb:RY (.slice none 0 0) = .sl true []:=rfl
@[simp] theorem rh {cs:List A}:(A.agg cs).cells=cs:=rfl
@[simp] theorem xt {x:Value}:(A.v x).cells=[.v x]:=rfl
@[simp] theorem vA {b:Bool} {xs:List A}:(A.sl b xs).cells=[.sl b xs]:=rfl
@[simp] theorem pL {o:Nm} {u z p q:Nat}:(A.osl o u z p q).cells=[.osl o u z p q]:=rfl
@[simp] theorem qk {cs:List A}:(A.pim cs).cells=[.pim cs]:=rfl
@[simp] theorem qn {o:Nm} {u p:Nat}:(A.pob o u p).cells=[.pob o u p]:=rfl
@[simp] theorem vx:A.ones []=true:=rfl
@[simp] theorem pn {a:A} {l:List A}:A.ones (a::l)=(a.one&&A.ones l):=by simp[A.ones]
@[simp] theorem yw {q:IntKind} {n:Int}:(A.v (.int q n)).one=true:=rfl
@[simp] theorem tS {b:Bool}:(A.v (.bool b)).one=true:=rfl
@[simp] theorem n7 {b:ByteArray}:(A.v (.string b)).one=true:=rfl
@[simp] theorem j9 {b:Option Addr}:(A.v (.pointer b)).one=true:=rfl
@[simp] theorem Aa2 {b:Bool} {xs:List A}:(A.sl b xs).one=true:=rfl
@[simp] theorem yA {o:Nm} {u z p q:Nat}:(A.osl o u z p q).one=true:=rfl
@[simp] theorem ya {cs:List A}:(A.pim cs).one=true:=rfl
@[simp] theorem y7 {o:Nm} {u p:Nat}:(A.pob o u p).one=true:=rfl
@[simp] theorem qe {cs:List A}:(A.pim cs).isPtr=true:=rfl
@[simp] theorem pj {o:Nm} {u p:Nat}:(A.pob o u p).isPtr=true:=rfl
@[simp] theorem qX {o:Nm} {u p q:Nat}:(A.pel o u p q).isPtr=true:=rfl
@[simp] theorem zy {x:Value}:(A.v x).isPtr=false:=rfl
@[simp] theorem zB {x:Value}:(A.v x).bare1=true:=rfl
@[simp] theorem uw {b:Bool} {xs:List A}:(A.sl b xs).bare1=true:=rfl
@[simp] theorem px {cs:List A}:(A.pim cs).bare1=true:=rfl
@[simp] theorem qd:(A.any).bare1=true:=rfl
@[simp] theorem qY {o:Nm} {u z p q:Nat}:(A.osl o u z p q).bare1=false:=rfl
@[simp] theorem qc {o:Nm} {u p:Nat}:(A.pob o u p).bare1=false:=rfl
@[simp] theorem Aba {x:Value}:(A.v x).bare=true:=rfl
@[simp] theorem zN {b:Bool} {xs:List A}:(A.sl b xs).bare=true:=rfl
@[simp] theorem wL {cs:List A}:(A.pim cs).bare=true:=rfl
@[simp] theorem wg {o:Nm} {u z p q:Nat}:(A.osl o u z p q).bare=false:=rfl
@[simp] theorem vX {o:Nm} {u p:Nat}:(A.pob o u p).bare=false:=rfl
@[simp] theorem s9 {cs:List A}:(A.agg cs).bare=cs.all A.bare2:=rfl
@[simp] theorem yH {x:Value}:(A.v x).bare2=true:=rfl
@[simp] theorem vO {b:Bool} {xs:List A}:(A.sl b xs).bare2=true:=rfl
@[simp] theorem rQ {cs:List A}:(A.pim cs).bare2=true:=rfl
@[simp] theorem pf:(A.any).bare2=true:=rfl
@[simp] theorem vn {g:FuncId} {fs cs:List A}:(A.fnc g fs cs).bare=(fs.all A.bare1&&cs.all A.bare1):=rfl
@[simp] theorem pg {g:FuncId} {fs cs:List A}:(A.fnc g fs cs).bare2=(fs.all A.bare1&&cs.all A.bare1):=rfl
@[simp] theorem ri {g:FuncId} {fs cs:List A}:(A.fnc g fs cs).cells=[.fnc g fs cs]:=rfl
@[simp] theorem zc {g:FuncId} {fs cs:List A}:(A.fnc g fs cs).one=true:=rfl
@[simp] theorem Aay {x:Value}:(A.v x).flat=true:=rfl
@[simp] theorem sC {n:Nat}:CX n []=true:=rfl
@[simp] theorem pd {n:Nat} {x:A} {l:List A}:CX n (x::l)=(x.cells.length == n&&CX n l):=rfl
@[simp] theorem jY {n:Nat} {l l':List A}:CX n (l++l')=(CX n l&&CX n l'):=by simp[CX]
@[simp] theorem rI {pl:Nat→Option (Nat × Nat)} {cs:List A}:Cu pl cs []=some cs:=rfl
@[simp] theorem n5 {pl:Nat→Option (Nat × Nat)} {cs:List A} {i:Nat} {x:A} {ps:List (Nat × A)}:Cu pl cs ((i,x)::ps)=match pl i with
  |none=>none
  |some (off,size)=>if x.cells.length=size∧off+size≤cs.length∧A.ones x.cells=true then Cu pl (splice cs off x.cells) ps else none:=rfl
def Ga:List (Nm × VOb)→Hp
 |[],_=>⟨0,.none⟩
 |(k,x)::l,o=>if k=o then x else Ga l o
def eI:List (Nm × VOb)→Nm→VOb→List (Nm × VOb)
 |[],d,x=>[(d,x)]
 |(k,y)::l,d,x=>if k=d then (k,x)::l else (k,y)::eI l d x
@[simp] theorem Abv:H0=Ga []:=rfl
@[simp] theorem gY {o:Nm}:Ga [] o=⟨0,.none⟩:=rfl
@[simp] theorem MV {k o:Nm} {x:VOb} {l:List (Nm × VOb)}:Ga ((k,x)::l) o=if k=o then x else Ga l o:=rfl
@[simp] theorem dM {d:Nm} {x:VOb}:eI [] d x=[(d,x)]:=rfl
@[simp] theorem ZD {k d:Nm} {x y:VOb} {l:List (Nm × VOb)}:eI ((k,y)::l) d x=if k=d then (k,x)::l else (k,y)::eI l d x:=rfl
@[simp] theorem tG {l:List (Nm × VOb)} {d:Nm} {x:VOb}:Az (Ga l) d x=Ga (eI l d x):=by
 funext o;induction l with
 |nil=>
  simp only[Az,dM,MV,gY];by_cases h:o=d
  ·subst h;simp
  ·simp[h,Ne.symm h]
 |cons p l ih=>
  obtain⟨k,y⟩:=p;simp only[ZD];by_cases hk:k=d
  ·subst hk;simp only[if_pos,MV,Az];by_cases h:o=k
   ·subst h;simp
   ·simp[h,Ne.symm h]
  ·rw[if_neg hk,MV,← ih];simp only[Az,MV];by_cases h:o=d
   ·subst h;simp[hk]
   ·simp[h]
@[simp] theorem sj {o:Nm} {u p:Nat}:refs (.pob o u p)=[(o,false)]:=rfl
@[simp] theorem ti {o:Nm} {u p q:Nat}:refs (.pel o u p q)=[(o,false)]:=rfl
@[simp] theorem xb {o:Nm} {u:Nat}:refs (.mo o u)=[(o,false)]:=rfl
@[simp] theorem sK {o:Nm} {u z p q:Nat}:refs (.osl o u z p q)=[(o,false)]:=rfl
@[simp] theorem AaZ {x:Value}:refs (.v x)=[]:=rfl
@[simp] theorem ze {f:Bool} {xs:List A}:refs (.sl f xs)=[]:=rfl
@[simp] theorem wM {xs:List A}:refs (.pim xs)=[]:=rfl
@[simp] theorem ss {xs:List A}:refs (.agg xs)=[]:=rfl
@[simp] theorem yl {d o:Nm} {u z p q:Nat}:je d (.osl o u z p q)=[(o,false)]:=rfl
@[simp] theorem Aal {d:Nm} {f:Bool} {xs:List A}:je d (.sl f xs)=[(d,false)]:=rfl
@[simp] theorem AbW {R W R' W':Fp}:nc ⟨R,W⟩ ⟨R',W'⟩=(Wb W (R'++W')&&Wb W' (R++W)):=rfl
@[simp] theorem zw {l:Fp}:Wb [] l=true:=rfl
@[simp] theorem tg {p:Nm × Bool} {l m:Fp}:Wb (p::l) m=((m.all fun q=>dT p q)&&Wb l m):=rfl
@[simp] theorem yV {p q:Nm} {a b:Bool}:dT (p,a) (q,b)=match a,b with
 |false,false=>p != q
 |true,false=>!p.isPrefixOf q
 |false,true=>!q.isPrefixOf p
 |true,true=>!p.isPrefixOf q&&!q.isPrefixOf p:=rfl
end
section
variable {P:Program} {K:Sta→Prop} {rest:List CO} {s:Nat→A} {H:Hp} {dd:Option Nat} {k:Nat} {f:Bool} {nm:Nm} {ix:Nat} {un:List Nat} {l:Bool} {lg:Lg}
@[simp] theorem zA {st:Sta}:Am P K [] lg st=K st:=rfl
@[simp] theorem mq {i:Nat} {g:Ft}:AR false i g lg=lg:=rfl
@[simp] theorem qt {i:Nat} {g:Ft}:AR true i g lg=(i,g)::lg:=rfl
@[simp] theorem AaQ {g:Ft}:Ck [] lg g=True:=by simp[Ck]
@[simp] theorem xg {g:Ft}:Ck un [] g=True:=by simp[Ck]
@[simp] theorem xm {i:Nat} {g h:Ft}:Ck un ((i,g)::lg) h=((i ∈ un→nc g h=true)∧Ck un lg h):=by simp[Ck]
theorem La:Ck un lg ⟨[],[]⟩:=fun p _ _=>by simp[nc,Hk,IJ]
def fg (q:Bool) (g:Ft):Ft:=⟨bif q then g.R else [],bif q then g.W else []⟩
@[simp] theorem yz {g:Ft}:fg true g=g:=rfl
@[simp] theorem sJ {g:Ft}:fg false g=⟨[],[]⟩:=rfl
theorem C9 {op:Op} {F:Option A} (hF:∀ x E R W,Ud P nm op (evs s) H x E R W ↔ Ru F x E R W) :
  Am P K (⟨dd,op,none,nm,ix,un,l⟩::rest) lg ⟨s,H⟩=Gt F fun x=>Am P K rest (AR l ix ⟨[],[]⟩ lg) (Sta.put ⟨s,H⟩ dd x H):=by
 apply propext;constructor
 ·rintro⟨x,E,⟨R,W⟩,h1,h2,h3⟩;obtain⟨h4,rfl,h5,h6⟩:=(hF x E R W).1 h1;subst h5 h6;exact⟨x,h4,h3⟩
 ·rintro⟨x,h1,h2⟩;exact⟨x,.nil,⟨[],[]⟩,(hF _ _ _ _).2 ⟨h1,rfl,rfl,rfl⟩,La,h2⟩
theorem BF {op:Op} {F:Option A} (hF:∀ x E R W,Ud P nm op (evs s) H x E R W ↔ Ru F x E R W) :
  Am P K (⟨dd,op,some (k,f),nm,ix,un,l⟩::rest) lg ⟨s,H⟩=Gt (BK (s k) f) fun q=>F0 q F fun x=>Am P K rest (AR l ix ⟨[],[]⟩ lg) (Sta.put ⟨s,H⟩ dd x H):=by
 apply propext;constructor
 ·rintro⟨x,E,⟨R,W⟩,⟨q,x0,h1,h2,rfl,h4⟩,h5,h6⟩;refine⟨q,h1,x0,fun hq=>((hF _ _ _ _).1 (h2 hq)).1,?_⟩;have:E = .nil∧R=[]∧W=[]:=by
   cases hq:q with
   |true=>exact((hF _ _ _ _).1 (h2 hq)).2
   |false=>exact h4 hq
  obtain⟨rfl,h7,h8⟩:=this;subst h7 h8;exact h6
 ·rintro⟨q,h1,x0,h2,h3⟩;exact⟨_,.nil,⟨[],[]⟩,⟨q,x0,h1,fun hq=>(hF _ _ _ _).2 ⟨h2 hq,rfl,rfl,rfl⟩,rfl,fun _=>⟨rfl,rfl,rfl⟩⟩,La,h3⟩
theorem L5 {op:Op} {F:Option (A × Eff)} {R W:Fp} (hF:∀ x E R' W',Ud P nm op (evs s) H x E R' W' ↔ F=some (x,E)∧R'=R∧W'=W) :
  Am P K (⟨dd,op,none,nm,ix,un,l⟩::rest) lg ⟨s,H⟩=Gt F fun p=>Ck un lg ⟨R,W⟩∧Am P K rest (AR l ix ⟨R,W⟩ lg) (Sta.put ⟨s,H⟩ dd p.1 (p.2.app H)):=by
 apply propext;constructor
 ·rintro⟨x,E,⟨R',W'⟩,h1,h2,h3⟩;obtain⟨h4,h5,h6⟩:=(hF x E R' W').1 h1;subst h5 h6;exact⟨(x,E),h4,h2,h3⟩
 ·rintro⟨⟨x,E⟩,h1,h2,h3⟩;exact⟨x,E,⟨R,W⟩,(hF _ _ _ _).2 ⟨h1,rfl,rfl⟩,h2,h3⟩
theorem D8 {op:Op}:Am P K (⟨dd,op,some (k,f),nm,ix,un,l⟩::rest) lg ⟨s,H⟩=Gt (BK (s k) f) fun q=>Pw q (Am P K (⟨dd,op,none,nm,ix,un,l⟩::rest) lg ⟨s,H⟩) (Am P K rest (AR l ix ⟨[],[]⟩ lg) (Sta.put ⟨s,H⟩ dd (.v undef) H)):=by
 apply propext;constructor
 ·rintro⟨x,E,⟨R,W⟩,⟨q,x0,h1,h2,rfl,h4⟩,h5,h6⟩;refine⟨q,h1,fun hq=>⟨x0,E,⟨R,W⟩,h2 hq,h5,?_⟩,fun hq=>?_⟩
  ·subst hq;exact h6
  ·subst hq;obtain⟨rfl,h7,h8⟩:=h4 rfl;subst h7 h8;exact h6
 ·rintro⟨q,h1,h2,h3⟩;cases q with
  |true=>
   obtain⟨x,E,g,h4,h5,h6⟩:=h2 rfl;exact⟨x,E,g,⟨true,x,h1,fun _=>h4,rfl,(fun h=>nomatch h)⟩,h5,h6⟩
  |false=>exact⟨_,.nil,⟨[],[]⟩,⟨false,.any,h1,(fun h=>nomatch h),rfl,fun _=>⟨rfl,rfl,rfl⟩⟩,La,h3 rfl⟩
section
variable {a b:Operand} {t:TypeId}
@[simp] theorem ym:Am P K (⟨dd,.move a,none,nm,ix,un,l⟩::rest) lg ⟨s,H⟩=Am P K rest (AR l ix ⟨[],[]⟩ lg) (Sta.put ⟨s,H⟩ dd (evs s a) H):=by
 rw[C9 (F:=some (evs s a)) (fun _ _ _ _=>Iff.rfl)];simp
@[simp] theorem pc:Am P K (⟨dd,.assign a,none,nm,ix,un,l⟩::rest) lg ⟨s,H⟩=Am P K rest (AR l ix ⟨[],[]⟩ lg) (Sta.put ⟨s,H⟩ dd (evs s a) H):=by
 rw[C9 (F:=some (evs s a)) (fun _ _ _ _=>Iff.rfl)];simp
@[simp] theorem rA:Am P K (⟨dd,.move a,some (k,f),nm,ix,un,l⟩::rest) lg ⟨s,H⟩=Gt (BK (s k) f) fun q=>Am P K rest (AR l ix ⟨[],[]⟩ lg) (Sta.put ⟨s,H⟩ dd (gd q (evs s a)) H):=by
 rw[BF (F:=some (evs s a)) (fun _ _ _ _=>Iff.rfl)];simp
@[simp] theorem AaV {op:BinOp} {u:TypeId}:Am P K (⟨dd,.binOp op t a b u,none,nm,ix,un,l⟩::rest) lg ⟨s,H⟩=Gt (if Gj b=true then JG P op t (evs s a) else HL P op t (evs s a) (evs s b)) fun x=>Am P K rest (AR l ix ⟨[],[]⟩ lg) (Sta.put ⟨s,H⟩ dd x H):=C9 fun _ _ _ _=>Iff.rfl
@[simp] theorem sH {op:BinOp} {u:TypeId}:Am P K (⟨dd,.binOp op t a b u,some (k,f),nm,ix,un,l⟩::rest) lg ⟨s,H⟩=Gt (BK (s k) f) fun q=>F0 q (if Gj b=true then JG P op t (evs s a) else HL P op t (evs s a) (evs s b)) fun x=>Am P K rest (AR l ix ⟨[],[]⟩ lg) (Sta.put ⟨s,H⟩ dd x H):=BF fun _ _ _ _=>Iff.rfl
@[simp] theorem AbQ {op:UnOp}:Am P K (⟨dd,.unOp op t a,none,nm,ix,un,l⟩::rest) lg ⟨s,H⟩=Gt (jL op (evs s a)) fun x=>Am P K rest (AR l ix ⟨[],[]⟩ lg) (Sta.put ⟨s,H⟩ dd x H):=C9 fun _ _ _ _=>Iff.rfl
@[simp] theorem xc {op:UnOp}:Am P K (⟨dd,.unOp op t a,some (k,f),nm,ix,un,l⟩::rest) lg ⟨s,H⟩=Gt (BK (s k) f) fun q=>F0 q (jL op (evs s a)) fun x=>Am P K rest (AR l ix ⟨[],[]⟩ lg) (Sta.put ⟨s,H⟩ dd x H):=BF fun _ _ _ _=>Iff.rfl
@[simp] theorem xJ {u:TypeId}:Am P K (⟨dd,.convert t u a,none,nm,ix,un,l⟩::rest) lg ⟨s,H⟩=Gt (Jo P t u (evs s a)) fun x=>Am P K rest (AR l ix ⟨[],[]⟩ lg) (Sta.put ⟨s,H⟩ dd x H):=C9 fun _ _ _ _=>Iff.rfl
@[simp] theorem pN {u:TypeId}:Am P K (⟨dd,.convert t u a,some (k,f),nm,ix,un,l⟩::rest) lg ⟨s,H⟩=Gt (BK (s k) f) fun q=>F0 q (Jo P t u (evs s a)) fun x=>Am P K rest (AR l ix ⟨[],[]⟩ lg) (Sta.put ⟨s,H⟩ dd x H):=BF fun _ _ _ _=>Iff.rfl
@[simp] theorem iu {i:Nat}:Am P K (⟨dd,.fieldAddr t a i,none,nm,ix,un,l⟩::rest) lg ⟨s,H⟩=Gt (EE P t (evs s a) i) fun x=>Am P K rest (AR l ix ⟨[],[]⟩ lg) (Sta.put ⟨s,H⟩ dd x H):=C9 fun _ _ _ _=>Iff.rfl
@[simp] theorem fc {i:Nat}:Am P K (⟨dd,.fieldAddr t a i,some (k,f),nm,ix,un,l⟩::rest) lg ⟨s,H⟩=Gt (BK (s k) f) fun q=>F0 q (EE P t (evs s a) i) fun x=>Am P K rest (AR l ix ⟨[],[]⟩ lg) (Sta.put ⟨s,H⟩ dd x H):=BF fun _ _ _ _=>Iff.rfl
@[simp] theorem wx {i:Nat}:Am P K (⟨dd,.field t a i,none,nm,ix,un,l⟩::rest) lg ⟨s,H⟩=Gt (My P t (evs s a) i) fun x=>Am P K rest (AR l ix ⟨[],[]⟩ lg) (Sta.put ⟨s,H⟩ dd x H):=C9 fun _ _ _ _=>Iff.rfl
@[simp] theorem lY {i:Nat}:Am P K (⟨dd,.field t a i,some (k,f),nm,ix,un,l⟩::rest) lg ⟨s,H⟩=Gt (BK (s k) f) fun q=>F0 q (My P t (evs s a) i) fun x=>Am P K rest (AR l ix ⟨[],[]⟩ lg) (Sta.put ⟨s,H⟩ dd x H):=BF fun _ _ _ _=>Iff.rfl
@[simp] theorem iI  : Am P K (⟨dd,.indexAddr t a b,none,nm,ix,un,l⟩::rest) lg ⟨s,H⟩=Gt (A7 P t (evs s a) (evs s b)) fun x=>Am P K rest (AR l ix ⟨[],[]⟩ lg) (Sta.put ⟨s,H⟩ dd x H):=C9 fun _ _ _ _=>Iff.rfl
@[simp] theorem bz  : Am P K (⟨dd,.indexAddr t a b,some (k,f),nm,ix,un,l⟩::rest) lg ⟨s,H⟩=Gt (BK (s k) f) fun q=>F0 q (A7 P t (evs s a) (evs s b)) fun x=>Am P K rest (AR l ix ⟨[],[]⟩ lg) (Sta.put ⟨s,H⟩ dd x H):=BF fun _ _ _ _=>Iff.rfl
@[simp] theorem wD  : Am P K (⟨dd,.index t a b,none,nm,ix,un,l⟩::rest) lg ⟨s,H⟩=Gt (JM P t (evs s a) (evs s b)) fun x=>Am P K rest (AR l ix ⟨[],[]⟩ lg) (Sta.put ⟨s,H⟩ dd x H):=C9 fun _ _ _ _=>Iff.rfl
@[simp] theorem m7  : Am P K (⟨dd,.index t a b,some (k,f),nm,ix,un,l⟩::rest) lg ⟨s,H⟩=Gt (BK (s k) f) fun q=>F0 q (JM P t (evs s a) (evs s b)) fun x=>Am P K rest (AR l ix ⟨[],[]⟩ lg) (Sta.put ⟨s,H⟩ dd x H):=BF fun _ _ _ _=>Iff.rfl
@[simp] theorem nX {i:Nat}:Am P K (⟨dd,.extract a i,none,nm,ix,un,l⟩::rest) lg ⟨s,H⟩=Gt (GU (evs s a) i) fun x=>Am P K rest (AR l ix ⟨[],[]⟩ lg) (Sta.put ⟨s,H⟩ dd x H):=C9 fun _ _ _ _=>Iff.rfl
@[simp] theorem ig {i:Nat}:Am P K (⟨dd,.extract a i,some (k,f),nm,ix,un,l⟩::rest) lg ⟨s,H⟩=Gt (BK (s k) f) fun q=>F0 q (GU (evs s a) i) fun x=>Am P K rest (AR l ix ⟨[],[]⟩ lg) (Sta.put ⟨s,H⟩ dd x H):=BF fun _ _ _ _=>Iff.rfl
@[simp] theorem sv {ps:Array (Nat × Operand)}:Am P K (⟨dd,.build t ps,none,nm,ix,un,l⟩::rest) lg ⟨s,H⟩=Gt (BW P t (ps.toList.map fun p=>(p.1,evs s p.2))) fun x=>Am P K rest (AR l ix ⟨[],[]⟩ lg) (Sta.put ⟨s,H⟩ dd x H):=C9 fun _ _ _ _=>Iff.rfl
@[simp] theorem m4 {ps:Array (Nat × Operand)}:Am P K (⟨dd,.build t ps,some (k,f),nm,ix,un,l⟩::rest) lg ⟨s,H⟩=Gt (BK (s k) f) fun q=>GB P q t [] (ps.toList.map fun p=>(p.1,evs s p.2)) fun x=>Am P K rest (AR l ix ⟨[],[]⟩ lg) (Sta.put ⟨s,H⟩ dd x H):=BF fun _ _ _ _=>Iff.rfl
@[simp] theorem gG {n:Nat} {ps:Array (Nat × Operand)}:Am P K (⟨dd,.buildSlice t n ps,none,[],ix,un,l⟩::rest) lg ⟨s,H⟩=Gt (EG P t n (ps.toList.map fun p=>(p.1,evs s p.2))) fun x=>Am P K rest (AR l ix ⟨[],[]⟩ lg) (Sta.put ⟨s,H⟩ dd x H):=C9 fun _ _ _ _=>Iff.rfl
@[simp] theorem ar {n:Nat} {ps:Array (Nat × Operand)}:Am P K (⟨dd,.buildSlice t n ps,some (k,f),[],ix,un,l⟩::rest) lg ⟨s,H⟩=Gt (BK (s k) f) fun q=>F0 q (EG P t n (ps.toList.map fun p=>(p.1,evs s p.2))) fun x=>Am P K rest (AR l ix ⟨[],[]⟩ lg) (Sta.put ⟨s,H⟩ dd x H):=BF fun _ _ _ _=>Iff.rfl
@[simp] theorem tJ {lo hi mx:Option Operand}:Am P K (⟨dd,.slice t a lo hi mx,none,nm,ix,un,l⟩::rest) lg ⟨s,H⟩=Gt (Gl P t (evs s a) (lo.map (evs s)) (hi.map (evs s)) (mx.map (evs s))) fun x=>Am P K rest (AR l ix ⟨[],[]⟩ lg) (Sta.put ⟨s,H⟩ dd x H):=C9 fun _ _ _ _=>Iff.rfl
@[simp] theorem mN {lo hi mx:Option Operand}:Am P K (⟨dd,.slice t a lo hi mx,some (k,f),nm,ix,un,l⟩::rest) lg ⟨s,H⟩=Gt (BK (s k) f) fun q=>F0 q (Gl P t (evs s a) (lo.map (evs s)) (hi.map (evs s)) (mx.map (evs s))) fun x=>Am P K rest (AR l ix ⟨[],[]⟩ lg) (Sta.put ⟨s,H⟩ dd x H):=BF fun _ _ _ _=>Iff.rfl
@[simp] theorem jR  : Am P K (⟨dd,.nilCheck a,none,nm,ix,un,l⟩::rest) lg ⟨s,H⟩=Gt (ey (evs s a)) fun x=>Am P K rest (AR l ix ⟨[],[]⟩ lg) (Sta.put ⟨s,H⟩ dd x H):=C9 fun _ _ _ _=>Iff.rfl
@[simp] theorem gx  : Am P K (⟨dd,.nilCheck a,some (k,f),nm,ix,un,l⟩::rest) lg ⟨s,H⟩=Gt (BK (s k) f) fun q=>F0 q (ey (evs s a)) fun x=>Am P K rest (AR l ix ⟨[],[]⟩ lg) (Sta.put ⟨s,H⟩ dd x H):=BF fun _ _ _ _=>Iff.rfl
@[simp] theorem zE {c:Operand}:Am P K (⟨dd,.pick c a b,none,nm,ix,un,l⟩::rest) lg ⟨s,H⟩=Gt (VF (evs s c) (evs s a) (evs s b)) fun x=>Am P K rest (AR l ix ⟨[],[]⟩ lg) (Sta.put ⟨s,H⟩ dd x H):=C9 fun _ _ _ _=>Iff.rfl
@[simp] theorem ph {c:Operand}:Am P K (⟨dd,.pick c a b,some (k,f),nm,ix,un,l⟩::rest) lg ⟨s,H⟩=Gt (BK (s k) f) fun q=>F0 q (VF (evs s c) (evs s a) (evs s b)) fun x=>Am P K rest (AR l ix ⟨[],[]⟩ lg) (Sta.put ⟨s,H⟩ dd x H):=BF fun _ _ _ _=>Iff.rfl
@[simp] theorem kW {g:FuncId} {fs cs:Array Operand}:Am P K (⟨dd,.makeFunc (.func g) fs cs,none,nm,ix,un,l⟩::rest) lg ⟨s,H⟩=Gt (some (A.fnc g (fs.toList.map (evs s)) (cs.toList.map (evs s)))) fun x=>Am P K rest (AR l ix ⟨[],[]⟩ lg) (Sta.put ⟨s,H⟩ dd x H):=C9 fun _ _ _ _=>Iff.rfl
@[simp] theorem gD {g:FuncId} {fs cs:Array Operand}:Am P K (⟨dd,.makeFunc (.func g) fs cs,some (k,f),nm,ix,un,l⟩::rest) lg ⟨s,H⟩=Gt (BK (s k) f) fun q=>F0 q (some (A.fnc g (fs.toList.map (evs s)) (cs.toList.map (evs s)))) fun x=>Am P K rest (AR l ix ⟨[],[]⟩ lg) (Sta.put ⟨s,H⟩ dd x H):=BF fun _ _ _ _=>Iff.rfl
@[simp] theorem ZM  : Am P K (⟨dd,.makeInterface t a,none,nm,ix,un,l⟩::rest) lg ⟨s,H⟩=Gt (UK P t (evs s a)) fun x=>Am P K rest (AR l ix ⟨[],[]⟩ lg) (Sta.put ⟨s,H⟩ dd x H):=C9 fun _ _ _ _=>Iff.rfl
@[simp] theorem XF  : Am P K (⟨dd,.makeInterface t a,some (k,f),nm,ix,un,l⟩::rest) lg ⟨s,H⟩=Gt (BK (s k) f) fun q=>F0 q (UK P t (evs s a)) fun x=>Am P K rest (AR l ix ⟨[],[]⟩ lg) (Sta.put ⟨s,H⟩ dd x H):=BF fun _ _ _ _=>Iff.rfl
@[simp] theorem gC {u:TypeId} {ok:Bool}:Am P K (⟨dd,.typeAssert a t u ok,none,nm,ix,un,l⟩::rest) lg ⟨s,H⟩=Gt (JI P u ok (evs s a)) fun x=>Am P K rest (AR l ix ⟨[],[]⟩ lg) (Sta.put ⟨s,H⟩ dd x H):=C9 fun _ _ _ _=>Iff.rfl
@[simp] theorem bc {u:TypeId} {ok:Bool}:Am P K (⟨dd,.typeAssert a t u ok,some (k,f),nm,ix,un,l⟩::rest) lg ⟨s,H⟩=Gt (BK (s k) f) fun q=>F0 q (JI P u ok (evs s a)) fun x=>Am P K rest (AR l ix ⟨[],[]⟩ lg) (Sta.put ⟨s,H⟩ dd x H):=BF fun _ _ _ _=>Iff.rfl
@[simp] theorem Aao {as':Array Operand} {ts:Array TypeId}:Am P K (⟨dd,.call { callee:=.builtin .min,args:=as',argTypes:=ts },none,nm,ix,un,l⟩::rest) lg ⟨s,H⟩=Gt (Et false (as'.toList.map (evs s))) fun x=>Am P K rest (AR l ix ⟨[],[]⟩ lg) (Sta.put ⟨s,H⟩ dd x H):=C9 fun _ _ _ _=>Iff.rfl
@[simp] theorem wG {as':Array Operand} {ts:Array TypeId}:Am P K (⟨dd,.call { callee:=.builtin .min,args:=as',argTypes:=ts },some (k,f),nm,ix,un,l⟩::rest) lg ⟨s,H⟩=Gt (BK (s k) f) fun q=>F0 q (Et false (as'.toList.map (evs s))) fun x=>Am P K rest (AR l ix ⟨[],[]⟩ lg) (Sta.put ⟨s,H⟩ dd x H):=BF fun _ _ _ _=>Iff.rfl
@[simp] theorem Abb {as':Array Operand} {ts:Array TypeId}:Am P K (⟨dd,.call { callee:=.builtin .max,args:=as',argTypes:=ts },none,nm,ix,un,l⟩::rest) lg ⟨s,H⟩=Gt (Et true (as'.toList.map (evs s))) fun x=>Am P K rest (AR l ix ⟨[],[]⟩ lg) (Sta.put ⟨s,H⟩ dd x H):=C9 fun _ _ _ _=>Iff.rfl
@[simp] theorem vW {as':Array Operand} {ts:Array TypeId}:Am P K (⟨dd,.call { callee:=.builtin .max,args:=as',argTypes:=ts },some (k,f),nm,ix,un,l⟩::rest) lg ⟨s,H⟩=Gt (BK (s k) f) fun q=>F0 q (Et true (as'.toList.map (evs s))) fun x=>Am P K rest (AR l ix ⟨[],[]⟩ lg) (Sta.put ⟨s,H⟩ dd x H):=BF fun _ _ _ _=>Iff.rfl
@[simp] theorem Aa8:Am P K (⟨dd,.call { callee:=.builtin .len,args:=#[a],argTypes:=#[t] },none,nm,ix,un,l⟩::rest) lg ⟨s,H⟩=Gt (KM P t (evs s a)) fun x=>Am P K rest (AR l ix ⟨[],[]⟩ lg) (Sta.put ⟨s,H⟩ dd x H):=C9 fun x E R W=>by
  constructor
  ·rintro⟨a',t',h1,h2,h3⟩;cases h1;cases h2;exact h3
  ·intro h;exact⟨a,t,rfl,rfl,h⟩
@[simp] theorem rT:Am P K (⟨dd,.call { callee:=.builtin .len,args:=#[a],argTypes:=#[t] },some (k,f),nm,ix,un,l⟩::rest) lg ⟨s,H⟩=Gt (BK (s k) f) fun q=>F0 q (KM P t (evs s a)) fun x=>Am P K rest (AR l ix ⟨[],[]⟩ lg) (Sta.put ⟨s,H⟩ dd x H):=BF fun x E R W=>by
  constructor
  ·rintro⟨a',t',h1,h2,h3⟩;cases h1;cases h2;exact h3
  ·intro h;exact⟨a,t,rfl,rfl,h⟩
@[simp] theorem xW:Am P K (⟨dd,.load t a,none,nm,ix,un,l⟩::rest) lg ⟨s,H⟩=Gt (Fe P H t (evs s a)) fun x=>Ck un lg ⟨refs (evs s a),[]⟩∧Am P K rest (AR l ix ⟨refs (evs s a),[]⟩ lg) (Sta.put ⟨s,H⟩ dd x H):=by
 apply propext;constructor
 ·rintro⟨x,E,⟨R,W⟩,⟨h1,rfl,h2,h3⟩,h4,h5⟩;simp only at h2 h3;subst h2 h3;exact⟨x,h1,h4,h5⟩
 ·rintro⟨x,h1,h4,h5⟩;exact⟨x,.nil,⟨_,_⟩,⟨h1,rfl,rfl,rfl⟩,h4,h5⟩
@[simp] theorem rG:Am P K (⟨dd,.load t a,some (k,f),nm,ix,un,l⟩::rest) lg ⟨s,H⟩=Gt (BK (s k) f) fun q=>F0 q (Fe P H t (evs s a)) fun x=>Ck un lg (fg q ⟨refs (evs s a),[]⟩)∧Am P K rest (AR l ix (fg q ⟨refs (evs s a),[]⟩) lg) (Sta.put ⟨s,H⟩ dd x H):=by
 apply propext;constructor
 ·rintro⟨x,E,⟨R,W⟩,⟨q,x0,h1,h2,rfl,h4⟩,h5,h6⟩;refine⟨q,h1,x0,fun hq=>(h2 hq).1,?_⟩;have:E = .nil∧(⟨R,W⟩:Ft)=fg q ⟨refs (evs s a),[]⟩:=by
   cases hq:q with
   |true=>
    obtain⟨_,e1,e2,e3⟩:=h2 hq;simp only at e2 e3;exact⟨e1,by rw[e2,e3];rfl⟩
   |false=>
    obtain⟨e1,e2,e3⟩:=h4 hq;simp only at e2 e3;exact⟨e1,by rw[e2,e3];rfl⟩
  obtain⟨rfl,e⟩:=this;rw[e] at h5 h6;exact⟨h5,h6⟩
 ·rintro⟨q,h1,x0,h2,h5,h6⟩;refine⟨_,.nil,fg q ⟨refs (evs s a),[]⟩,⟨q,x0,h1,fun hq=>⟨h2 hq,rfl,?_,?_⟩,rfl,fun hq=>⟨rfl,?_,?_⟩⟩,h5,h6⟩<;>subst hq<;>rfl
@[simp] theorem mn:Am P K (⟨dd,.makeMap t none,none,nm,ix,un,l⟩::rest) lg ⟨s,H⟩=Gt (HW H nm) fun p=>Ck un lg ⟨[],[(nm,false)]⟩∧Am P K rest (AR l ix ⟨[],[(nm,false)]⟩ lg) (Sta.put ⟨s,H⟩ dd p.1 (p.2.app H)):=L5 fun _ _ _ _=>Iff.rfl
@[simp] theorem iz {m k' v:Operand}:Am P K (⟨dd,.mapUpdate t m k' v,none,nm,ix,un,l⟩::rest) lg ⟨s,H⟩=Gt (GA P H t (evs s m) (evs s k') (evs s v)) fun E=>Ck un lg ⟨[],refs (evs s m)⟩∧Am P K rest (AR l ix ⟨[],refs (evs s m)⟩ lg) (Sta.put ⟨s,H⟩ dd .any (E.app H)):=by
 apply propext;constructor
 ·rintro⟨x,E,⟨R,W⟩,⟨h1,rfl,h2,h3⟩,h4,h5⟩;simp only at h2 h3;subst h2 h3;exact⟨E,h1,h4,h5⟩
 ·rintro⟨E,h1,h4,h5⟩;exact⟨_,E,⟨_,_⟩,⟨h1,rfl,rfl,rfl⟩,h4,h5⟩
@[simp] theorem qv {m k':Operand} {ok:Bool}:Am P K (⟨dd,.lookup t m k' ok,none,nm,ix,un,l⟩::rest) lg ⟨s,H⟩=Gt (Io P H t (evs s m) (evs s k') ok) fun x=>Ck un lg ⟨refs (evs s m),[]⟩∧Am P K rest (AR l ix ⟨refs (evs s m),[]⟩ lg) (Sta.put ⟨s,H⟩ dd x H):=by
 apply propext;constructor
 ·rintro⟨x,E,⟨R,W⟩,⟨h1,rfl,h2,h3⟩,h4,h5⟩;simp only at h2 h3;subst h2 h3;exact⟨x,h1,h4,h5⟩
 ·rintro⟨x,h1,h4,h5⟩;exact⟨x,.nil,⟨_,_⟩,⟨h1,rfl,rfl,rfl⟩,h4,h5⟩
@[simp] theorem uq:Am P K (⟨dd,.alloc t,none,nm,ix,un,l⟩::rest) lg ⟨s,H⟩=Gt (Mq P H nm t) fun p=>Ck un lg ⟨[],[(nm,false)]⟩∧Am P K rest (AR l ix ⟨[],[(nm,false)]⟩ lg) (Sta.put ⟨s,H⟩ dd p.1 (p.2.app H)):=L5 fun _ _ _ _=>Iff.rfl
@[simp] theorem AaO:Am P K (⟨dd,.box t a,none,nm,ix,un,l⟩::rest) lg ⟨s,H⟩=Gt (XG H nm t (evs s a)) fun p=>Ck un lg ⟨[],[(nm,false)]⟩∧Am P K rest (AR l ix ⟨[],[(nm,false)]⟩ lg) (Sta.put ⟨s,H⟩ dd p.1 (p.2.app H)):=L5 fun _ _ _ _=>Iff.rfl
@[simp] theorem fi {n a':Nat} {d':Nm} {ps:Array (Nat × Operand)}:Am P K (⟨dd,.buildSlice t n ps,none,a'::d',ix,un,l⟩::rest) lg ⟨s,H⟩=Gt (DA P H (a'::d') t n (ps.toList.map fun p=>(p.1,evs s p.2))) fun p=>Ck un lg ⟨[],[(a'::d',false)]⟩∧Am P K rest (AR l ix ⟨[],[(a'::d',false)]⟩ lg) (Sta.put ⟨s,H⟩ dd p.1 (p.2.app H)):=L5 fun _ _ _ _=>Iff.rfl
@[simp] theorem jd:Am P K (⟨dd,.makeSlice t a b,none,nm,ix,un,l⟩::rest) lg ⟨s,H⟩=Gt (Ez P H nm t (evs s a) (evs s b)) fun p=>Ck un lg ⟨[],[(nm,false)]⟩∧Am P K rest (AR l ix ⟨[],[(nm,false)]⟩ lg) (Sta.put ⟨s,H⟩ dd p.1 (p.2.app H)):=L5 fun _ _ _ _=>Iff.rfl
@[simp] theorem sg:Am P K (⟨dd,.store t a b,none,nm,ix,un,l⟩::rest) lg ⟨s,H⟩=Gt (Gr P H t (evs s a) (evs s b)) fun E=>Ck un lg ⟨[],refs (evs s a)⟩∧Am P K rest (AR l ix ⟨[],refs (evs s a)⟩ lg) (Sta.put ⟨s,H⟩ dd .any (E.app H)):=by
 apply propext;constructor
 ·rintro⟨x,E,⟨R,W⟩,⟨h1,rfl,h2,h3⟩,h4,h5⟩;simp only at h2 h3;subst h2 h3;exact⟨E,h1,h4,h5⟩
 ·rintro⟨E,h1,h4,h5⟩;exact⟨_,E,⟨_,_⟩,⟨h1,rfl,rfl,rfl⟩,h4,h5⟩
@[simp] theorem p6 {u:TypeId}:Am P K (⟨dd,.call { callee:=.builtin .append,args:=#[a,b],argTypes:=#[t,u] },none,nm,ix,un,l⟩::rest) lg ⟨s,H⟩=Gt (DW P H nm t u (evs s a) (evs s b)) fun p=>Ck un lg ⟨refs (evs s b),je nm (evs s a)⟩∧Am P K rest (AR l ix ⟨refs (evs s b),je nm (evs s a)⟩ lg) (Sta.put ⟨s,H⟩ dd p.1 (p.2.app H)):=
 L5 fun x E R W=>by
  constructor
  ·rintro⟨a',b',t',u',h1,h2,h3,h4,h5⟩;cases h1;cases h2;exact⟨h3,h4,h5⟩
  ·rintro⟨h3,h4,h5⟩;exact⟨a,b,t,u,rfl,rfl,h3,h4,h5⟩
@[simp] theorem yo {u:TypeId}:Am P K (⟨dd,.call { callee:=.builtin .copy,args:=#[a,b],argTypes:=#[t,u] },none,nm,ix,un,l⟩::rest) lg ⟨s,H⟩=Gt (Kk P H t (evs s a) (evs s b)) fun p=>Ck un lg ⟨refs (evs s b),refs (evs s a)⟩∧Am P K rest (AR l ix ⟨refs (evs s b),refs (evs s a)⟩ lg) (Sta.put ⟨s,H⟩ dd p.1 (p.2.app H)):=
 L5 fun x E R W=>by
  constructor
  ·rintro⟨a',b',t',u',h1,h2,h3,h4,h5⟩;cases h1;cases h2;exact⟨h3,h4,h5⟩
  ·rintro⟨h3,h4,h5⟩;exact⟨a,b,t,u,rfl,rfl,h3,h4,h5⟩
@[simp] theorem mi:Am P K (⟨dd,.alloc t,some (k,f),nm,ix,un,l⟩::rest) lg ⟨s,H⟩=Gt (BK (s k) f) fun q=>Pw q (Am P K (⟨dd,.alloc t,none,nm,ix,un,l⟩::rest) lg ⟨s,H⟩) (Am P K rest (AR l ix ⟨[],[]⟩ lg) (Sta.put ⟨s,H⟩ dd (.v undef) H)):=D8
@[simp] theorem th:Am P K (⟨dd,.box t a,some (k,f),nm,ix,un,l⟩::rest) lg ⟨s,H⟩=Gt (BK (s k) f) fun q=>Pw q (Am P K (⟨dd,.box t a,none,nm,ix,un,l⟩::rest) lg ⟨s,H⟩) (Am P K rest (AR l ix ⟨[],[]⟩ lg) (Sta.put ⟨s,H⟩ dd (.v undef) H)):=D8
@[simp] theorem Za {n a':Nat} {d':Nm} {ps:Array (Nat × Operand)}:Am P K (⟨dd,.buildSlice t n ps,some (k,f),a'::d',ix,un,l⟩::rest) lg ⟨s,H⟩=Gt (BK (s k) f) fun q=>Pw q (Am P K (⟨dd,.buildSlice t n ps,none,a'::d',ix,un,l⟩::rest) lg ⟨s,H⟩) (Am P K rest (AR l ix ⟨[],[]⟩ lg) (Sta.put ⟨s,H⟩ dd (.v undef) H)):=D8
@[simp] theorem fH:Am P K (⟨dd,.makeSlice t a b,some (k,f),nm,ix,un,l⟩::rest) lg ⟨s,H⟩=Gt (BK (s k) f) fun q=>Pw q (Am P K (⟨dd,.makeSlice t a b,none,nm,ix,un,l⟩::rest) lg ⟨s,H⟩) (Am P K rest (AR l ix ⟨[],[]⟩ lg) (Sta.put ⟨s,H⟩ dd (.v undef) H)):=D8
@[simp] theorem oL:Am P K (⟨dd,.store t a b,some (k,f),nm,ix,un,l⟩::rest) lg ⟨s,H⟩=Gt (BK (s k) f) fun q=>Pw q (Am P K (⟨dd,.store t a b,none,nm,ix,un,l⟩::rest) lg ⟨s,H⟩) (Am P K rest (AR l ix ⟨[],[]⟩ lg) (Sta.put ⟨s,H⟩ dd (.v undef) H)):=D8
@[simp] theorem kS {u:TypeId}:Am P K (⟨dd,.call { callee:=.builtin .append,args:=#[a,b],argTypes:=#[t,u] },some (k,f),nm,ix,un,l⟩::rest) lg ⟨s,H⟩=Gt (BK (s k) f) fun q=>Pw q (Am P K (⟨dd,.call { callee:=.builtin .append,args:=#[a,b],argTypes:=#[t,u] },none,nm,ix,un,l⟩::rest) lg ⟨s,H⟩) (Am P K rest (AR l ix ⟨[],[]⟩ lg) (Sta.put ⟨s,H⟩ dd (.v undef) H)):=D8
@[simp] theorem qN {u:TypeId}:Am P K (⟨dd,.call { callee:=.builtin .copy,args:=#[a,b],argTypes:=#[t,u] },some (k,f),nm,ix,un,l⟩::rest) lg ⟨s,H⟩=Gt (BK (s k) f) fun q=>Pw q (Am P K (⟨dd,.call { callee:=.builtin .copy,args:=#[a,b],argTypes:=#[t,u] },none,nm,ix,un,l⟩::rest) lg ⟨s,H⟩) (Am P K rest (AR l ix ⟨[],[]⟩ lg) (Sta.put ⟨s,H⟩ dd (.v undef) H)):=D8
theorem Ae {g:FuncId} {as':Array Operand} {ts:Array TypeId} {x:A} (hs:Spec P g (as'.toList.map (evs s)) x) (hb:(as'.toList.map (evs s)).all A.bare=true) (h:Am P K rest (AR l ix ⟨[],[]⟩ lg) (Sta.put ⟨s,H⟩ dd x H)) :
  Am P K (⟨dd,.call { callee:=.value (.func g),args:=as',argTypes:=ts },none,nm,ix,un,l⟩::rest) lg ⟨s,H⟩:=
 ⟨x,.nil,⟨[],[]⟩,⟨g,[],[],rfl,.inl ⟨by simpa using hb,by simpa using hs,rfl,rfl,rfl⟩⟩,La,h⟩
theorem dm {g:FuncId} {as':Array Operand} {ts:Array TypeId} {L:List A} {x:A} (hL:as'.toList.map (evs s)=L) (hs:Spec P g L x) (hb:L.all A.bare=true) (h:Am P K rest (AR l ix ⟨[],[]⟩ lg) (Sta.put ⟨s,H⟩ dd x H)) :
  Am P K (⟨dd,.call { callee:=.value (.func g),args:=as',argTypes:=ts },none,nm,ix,un,l⟩::rest) lg ⟨s,H⟩:=by subst hL;exact Ae hs hb h
theorem Ro {o:Operand} {g:FuncId} {fs caps:List A} {as':Array Operand} {ts:Array TypeId} {x:A} (ho:evs s o = .fnc g fs caps) (hs:Spec P g (fs++(as'.toList.map (evs s)++caps)) x) (hb:(fs++(as'.toList.map (evs s)++caps)).all A.bare=true) (h:Am P K rest (AR l ix ⟨[],[]⟩ lg) (Sta.put ⟨s,H⟩ dd x H)) :
  Am P K (⟨dd,.call { callee:=.value o,args:=as',argTypes:=ts },none,nm,ix,un,l⟩::rest) lg ⟨s,H⟩:=
 ⟨x,.nil,⟨[],[]⟩,⟨g,fs,caps,ho,.inl ⟨hb,hs,rfl,rfl,rfl⟩⟩,La,h⟩
theorem Wc {g:FuncId} {as':Array Operand} {ts:Array TypeId} {x:A} (E:Eff) (R W:Fp) (hs:∀ H2,Agree (R++W) H H2→OH P H2 g (as'.toList.map (evs s)) x E) (hw:Mz E W) (hc:Ck un lg ⟨R,W⟩) (h:Am P K rest (AR l ix ⟨R,W⟩ lg) (Sta.put ⟨s,H⟩ dd x (E.app H))) :
  Am P K (⟨dd,.call { callee:=.value (.func g),args:=as',argTypes:=ts },none,nm,ix,un,l⟩::rest) lg ⟨s,H⟩:=
 ⟨x,E,⟨R,W⟩,⟨g,[],[],rfl,.inr (.inr ⟨by simpa using hs,hw⟩)⟩,hc,h⟩
theorem N6 {g:FuncId} {as':Array Operand} {ts:Array TypeId} {x:A} {q:Bool} (hq:BK (s k) f=some q) (hs:q=true→Spec P g (as'.toList.map (evs s)) x∧(as'.toList.map (evs s)).all A.bare=true)
  (h:Am P K rest (AR l ix ⟨[],[]⟩ lg) (Sta.put ⟨s,H⟩ dd (gd q x) H)) :
  Am P K (⟨dd,.call { callee:=.value (.func g),args:=as',argTypes:=ts },some (k,f),nm,ix,un,l⟩::rest) lg ⟨s,H⟩:=
 ⟨_,.nil,⟨[],[]⟩,⟨q,x,hq,fun e=>⟨g,[],[],rfl,.inl ⟨by simpa using (hs e).2,by simpa using (hs e).1,rfl,rfl,rfl⟩⟩,rfl,fun _=>⟨rfl,rfl,rfl⟩⟩,La,h⟩
end
end
section
variable {P:Program} {K:Sta→Prop} {rest:List CO} {s:Nat→A} {H:Hp} {dd:Option Nat} {k:Nat} {g:FuncId} {as':Array Operand} {ts:Array TypeId} {x:A} {q:Bool} {L:List A} {nm:Nm} {ix:Nat} {un:List Nat} {l:Bool} {lg:Lg}
theorem AP (hq:s k = .v (.bool q)) (hs:q=true→Spec P g L x) (hL:q=true→as'.toList.map (evs s)=L) (hb:L.all A.bare=true)
  (h:Am P K rest (AR l ix ⟨[],[]⟩ lg) (Sta.put ⟨s,H⟩ dd (gd q x) H)) :
  Am P K (⟨dd,.call { callee:=.value (.func g),args:=as',argTypes:=ts },some (k,true),nm,ix,un,l⟩::rest) lg ⟨s,H⟩:=
 N6 (q:=q) (by rw[hq];cases q<;>rfl) (fun e=>by rw[hL e];exact⟨hs e,hb⟩) h
theorem Ao (hq:s k = .v (.bool q)) (hs:q=false→Spec P g L x) (hL:q=false→as'.toList.map (evs s)=L) (hb:L.all A.bare=true)
  (h:Am P K rest (AR l ix ⟨[],[]⟩ lg) (Sta.put ⟨s,H⟩ dd (gd (ng q) x) H)) :
  Am P K (⟨dd,.call { callee:=.value (.func g),args:=as',argTypes:=ts },some (k,false),nm,ix,un,l⟩::rest) lg ⟨s,H⟩:=
 N6 (q:=ng q) (by rw[hq];cases q<;>rfl) (fun e=>by have e:q=false:=(by simpa using e);rw[hL e];exact⟨hs e,hb⟩) h
end
@[simp] theorem vq {q r t:Bool}:(bif q then A.v (.bool r) else A.v (.bool t))=A.v (.bool (bif q then r else t)):=by cases q<;>rfl
theorem Ad {H:Hp} {a:A} (h:a.bare=true):Gy H a a:=fun c w I μ v hs hr=>(hr.of_bare h).mono0 (fun b hb=>.inl hb) (fun _ _=>rfl)
theorem jK {w:World} {I:Nat→Prop} {μ:Mu} {f:Bool} {xs:List A} {v:Value} (h:Rel w I μ (.sl f xs) v):Rel w I μ (.sl false xs) v:=by
 cases h with
 |slN _ _ a cap _=>exact .slN _ _ _ _ (fun h=>by cases h)
 |sl _ _ b off n cap sz _ g h1 h2 h3 h4 h5 h6 h7 h8=>exact .sl _ _ b off n cap sz _ g h1 h2 h3 (fun h=>by cases h) h5 h6 h7 h8
theorem Ah {H:Hp} {f:Bool} {xs:List A}:Gy H (.sl f xs) (.sl false xs):=fun c w I μ v hs hr=>jK (Ad (a:=.sl f xs) rfl c w I μ v hs hr)
theorem Aq {H:Hp} {p q:Bool} (h:p=q):Gy H (.v (.bool p)) (.v (.bool q)):=by rw[h];exact Ad rfl
theorem T7 {H:Hp} {k:IntKind} {p q:Int} (h:p=q):Gy H (.v (.int k p)) (.v (.int k q)):=by rw[h];exact Ad rfl
theorem HO {H:Hp} {a a':A} (h:a.bare=true) (e:a=a'):Gy H a a':=by rw[← e];exact Ad h
theorem QB {H:Hp} {o:Nm} {u off len sz:Nat} {xs ys:List A} (ho:Mh H o u=some (sz,xs)) (hl:off+len≤xs.length) (hn:ys.length=len) (hy:∀ y,y ∈ ys→y.cells.length=sz) (h1:A.ones (ys.flatMap A.cells)=true)
  (hb:Ic H (((xs.drop off).take len).flatMap A.cells) (ys.flatMap A.cells)):Gy H (.osl o u sz off len) (.sl false ys):=by
 intro c w I μ v hs hr;obtain⟨hg1,hg2⟩:=Ia hb;cases hr with
 |osl _ _ _ _ _ _ a cap g1 g2 g4 g5 g3=>
  obtain⟨hu,k2,hrow⟩:=hs.row ho;obtain⟨_,hcur⟩:=g3 hu.symm;by_cases h0:len=0
  ·subst h0;have:ys=[]:=List.eq_nil_of_length_eq_zero hn;subst this;exact .slN _ _ _ _ (fun h=>by cases h)
  rcases hcur with ⟨e,_⟩ | ⟨p1,rfl,p3⟩
  ·exact(h0 e).elim
  rcases hrow with ⟨q1,_⟩ | ⟨q1,vs,k3,k4,k5,k6,k7⟩
  ·rw[p1] at q1;cases q1
  subst k2;have hB:Dv (μ o) (H o).ob=true:=by rw[(Fw ho).2];exact q1
  have hg:∀ (k:Nat) (y:A),(((xs.drop off).take len).flatMap A.cells)[k]? = some y→(xs.flatMap A.cells)[off*(μ o).sz+k]? = some y:=fun k y hk=>Dt k6 hk;refine .sl _ _ (μ o).b (off*(μ o).sz) _ _ (μ o).sz _ (fun k=>vs.getD (off*(μ o).sz+k) undef) (Or.inr ⟨o,hB,rfl⟩) hn.symm (by omega) (fun h=>by cases h) hy
   (fun k y hk=>List.all_eq_true.1 h1 y (List.mem_of_getElem? hk)) (fun k y hk=>?_) (fun k y hk=>?_)
  ·obtain⟨a',ha',_⟩:=hg2 k y hk;have h3:=hg k a' ha';have h4:=Bm k6;have h5:xs.length*(μ o).sz≤(μ o).cap*(μ o).sz:=Nat.mul_le_mul_right _ k5;have h6:=(List.getElem?_eq_some_iff.1 h3).1;rw[cell_of_row w (μ o).b _ vs (μ o).e (0,0) k3];have:off*(μ o).sz+k<vs.size:=by rw[k4];omega
   simp[this]
  ·obtain⟨a',ha',hf⟩:=hg2 k y hk;exact hf c w I μ _ hs (k7 _ a' (hg k a' ha')).2
theorem K9 {H:Hp}:∀ {l:List A},l.all A.bare=true→Ic H l l
 |[],_=>trivial
 |a::l,h=>by
  simp only[List.all_cons,Bool.and_eq_true] at h;exact⟨Ad h.1,K9 h.2⟩
theorem dQ {a:A} (h:a.bare1=true):a.bare=true:=by cases a<;>simp_all [A.bare1,A.bare,A.bare2]
theorem Yh {H:Hp} {o:Nm} {u off len sz:Nat} {xs:List A} (ho:Mh H o u=some (sz,xs)) (hl:off+len≤xs.length) (hb:((xs.drop off).take len).all (fun x=>x.cells.length == sz&&x.cells.all fun y=>A.bare1 y&&y.one)=true):Gy H (.osl o u sz off len) (.sl false ((xs.drop off).take len)):=by
 simp only[List.all_eq_true,Bool.and_eq_true,beq_iff_eq] at hb;refine QB ho hl (by simp;omega) (fun y hy=>(hb y hy).1) ?_ (K9 ?_)
 ·simp only[A.ones,List.all_eq_true];intro y hy;obtain⟨x,hx,hy⟩:=List.mem_flatMap.1 hy;exact((hb x hx).2 y hy).2
 ·simp only[List.all_eq_true];intro y hy;obtain⟨x,hx,hy⟩:=List.mem_flatMap.1 hy;exact dQ ((hb x hx).2 y hy).1
theorem AE {H:Hp} {cs cs':List A} (h:Ic H cs cs'):Gy H (.agg cs) (.agg cs'):=by
 intro c w I μ v hs hr;obtain⟨hl,hg⟩:=Ia h;cases hr with
 |agg _ _ vs h1 h2=>
  refine .agg _ _ _ (by omega) fun k y hk=>?_;obtain⟨a,ha,hf⟩:=hg k y hk;exact hf c w I μ _ hs (h2 k a ha)
theorem An {H:Hp} {cs cs':List A} (h:Ic H cs cs'):Gy H (.tup cs) (.tup cs'):=by
 intro c w I μ v hs hr;obtain⟨hl,hg⟩:=Ia h;cases hr with
 |tup _ _ vs h1 h2=>
  refine .tup _ _ _ (by omega) fun k y hk=>?_;obtain⟨a,ha,hf⟩:=hg k y hk;exact hf c w I μ _ hs (h2 k a ha)
theorem jm {H:Hp} {o:Nm} {u:Nat} {cs cs':List A} (ho:QX H o u=some cs) (h:Ic H cs cs') (h1:A.ones cs'=true):Gy H (.pob o u 0) (.pim cs'):=by
 intro c w I μ v hs hr;obtain⟨hl,hg⟩:=Ia h;cases hr with
 |pob _ _ _ _ b k g1 g2 g3=>
  obtain⟨hu,vs,k2,k3,k4⟩:=hs.cells ho;obtain⟨rfl,rfl⟩:=g3 hu.symm;have hB:Dv (μ o) (H o).ob=true:=by rw[(N4 ho).2];rfl
  refine .pim _ (μ o).b 0 _ (fun k=>vs.getD k undef) (Or.inr ⟨o,hB,rfl⟩) (fun k y hk=>?_) (fun k y hk=>?_) (fun k y hk=>?_)
  ·simp only[A.ones,List.all_eq_true] at h1;exact h1 y (List.mem_of_getElem? hk)
  ·rw[Nat.zero_add,cell_of_row w (μ o).b k vs (μ o).e (0,0) k2];have:k<vs.size:=by rw[k3,← hl];exact(List.getElem?_eq_some_iff.1 hk).1
   simp[this]
  ·obtain⟨a,ha,hf⟩:=hg k y hk;exact hf c w I μ _ hs (k4 k a ha).2
@[simp] theorem wW {H:Hp}:Ic H [] []=True:=rfl
@[simp] theorem qP {H:Hp} {a a':A} {l l':List A}:Ic H (a::l) (a'::l')=(Gy H a a'∧Ic H l l'):=rfl
end Go.G
namespace Go.Proofs.YtlaapfplenlfaaaGreat
set_option maxRecDepth 20000
open Go Go.G Go.Proofs
theorem Aj:Tryz.prog.follows .mixedOrders=true:=by kernel_rfl
end Go.Proofs.YtlaapfplenlfaaaGreat
namespace Go.Proofs.YtlaapfplenlfaaaGreat
open Go Go.G Go.Proofs
abbrev iv (n:Int):A:=.v (.int .i64 n)
abbrev uv (n:Int):A:=.v (.int .u64 n)
abbrev bv (b:Bool):A:=.v (.bool b)
theorem VA (w:Int) (m:Nat):w / 2 / 2 ^ m=w / 2 ^ (m+1):=by
 rw[Int.ediv_ediv_of_nonneg (by decide),Int.pow_succ,Int.mul_comm]
theorem A4 {n:Int} (h0:-9223372036854775808≤n) (h1:n<9223372036854775808):i64.wrap n=n:=by rw[IntKind.wrap_i64];omega
theorem LR {n m:Int} (h0:-9223372036854775808 ≤ n:=by omega) (h1:n<9223372036854775808:=by omega) (h:n=m:=by omega):i64.wrap n=m:=by rw[A4 h0 h1];exact h
theorem AI (i:Nat) (h:i<9223372036854775807:=by omega):i64.wrap ((i:Int)+1)=((i+1:Nat):Int):=by rw[A4 (by omega) (by omega)];omega
theorem Hl {n:Int} (h0:-9223372036854775808 ≤ n:=by omega) (h1:n<9223372036854775808:=by omega):i64.wrap n=n:=A4 h0 h1
theorem GL {n:Int} (h0:0≤n) (h1:n<18446744073709551616):u64.wrap n=n:=by rw[IntKind.wrap_u64];omega
structure Pt where
 (kind off data ptrs code count seg:Int)
 dbl:Bool
deriving DecidableEq
@[simp] def Pt.a (p:Pt):A:=.agg [iv p.kind,iv p.off,iv p.data,iv p.ptrs,iv p.code,iv p.count,iv p.seg,bv p.dbl]
def tZ (w:Int):Int:=if w / 4 % 1073741824<536870912 then w / 4 % 1073741824 else w / 4 % 1073741824-1073741824
def NU (w:Int):Pt:=
 if w=0 then ⟨0,0,0,0,0,0,0,false⟩
 else if w % 4=0 then ⟨1,tZ w,w / 4294967296 % 65536,w / 281474976710656,0,0,0,false⟩
 else if w % 4=1 then ⟨2,tZ w,0,0,w / 4294967296 % 8,w / 34359738368,0,false⟩
 else if w % 4=2 then ⟨3,w / 8 % 536870912,0,0,0,0,w / 4294967296,decide (w / 4 % 2=1)⟩
 else ⟨4,0,0,0,0,0,0,false⟩
end Go.Proofs.YtlaapfplenlfaaaGreat
namespace Go.Proofs.YtlaapfplenlfaaaGreat
set_option maxRecDepth 20000
open Go Go.G Go.Proofs
@[simp] theorem Abq:Tryz.prog.underlying 3=some (.int .i64):=by kernel_rfl
@[simp] theorem AbL:Tryz.prog.underlying 5=some (.int .u8):=by kernel_rfl
@[simp] theorem Abe:Tryz.prog.underlying 22=some (.slice 61):=by kernel_rfl
@[simp] theorem Aap:Tryz.prog.underlying 61=some (.int .u64):=by kernel_rfl
@[simp] theorem zM:Tryz.prog.underlying 170=some (.array 8 5):=by kernel_rfl
@[simp] theorem zo:Tryz.prog.underlying 174=some (.slice 5):=by kernel_rfl
@[simp] theorem Abp:Cv Tryz.prog 5=some 1:=by kernel_rfl
@[simp] theorem zR:Cv Tryz.prog 61=some 1:=by kernel_rfl
@[simp] theorem zh:Cv Tryz.prog 170=some 8:=by kernel_rfl
@[simp] theorem Aa7:C0 Tryz.prog 5=some false:=by kernel_rfl
@[simp] theorem zi:C0 Tryz.prog 61=some false:=by kernel_rfl
@[simp] theorem uN:C0 Tryz.prog 170=some true:=by kernel_rfl
@[simp] theorem sw:A5 Tryz.prog 61=some (Value.int u64 0):=by kernel_rfl
@[simp] theorem qq:A5 Tryz.prog 170=some (Value.agg #[Value.int IntKind.u8 0,Value.int IntKind.u8 0,Value.int IntKind.u8 0,Value.int IntKind.u8 0,Value.int IntKind.u8 0,Value.int IntKind.u8 0,Value.int IntKind.u8 0,Value.int IntKind.u8 0]):=by kernel_rfl
@[simp] theorem qH:Bb Tryz.prog 61=some 8:=by kernel_rfl
@[simp] theorem ni (ps:List (Nat × A)):BW Tryz.prog 170 ps=(Cu (fun i=>some (i*1,1)) [A.v (Value.int IntKind.u8 0),A.v (Value.int IntKind.u8 0),A.v (Value.int IntKind.u8 0),A.v (Value.int IntKind.u8 0),A.v (Value.int IntKind.u8 0),A.v (Value.int IntKind.u8 0),A.v (Value.int IntKind.u8 0),A.v (Value.int IntKind.u8 0)] ps).map A.agg:=by kernel_rfl
@[simp] abbrev xT (n:Nat):Operand:=.tmp n
@[simp] abbrev nI (n:Int):Operand:=.const (.int .i64 n)
@[simp] abbrev cL (f:Nat) (xs:Array Operand) (ts:Array TypeId):Op:=.call { callee:=(.value (.func f)),args:=xs,argTypes:=ts }
@[simp] abbrev mV (n:Nat):Op:=.move (.tmp n)
@[simp] abbrev aS (n:Nat):Op:=.assign (.tmp n)
@[simp] abbrev lD (t n:Nat):Op:=.load t (.tmp n)
@[simp] abbrev fA (t n f:Nat):Op:=.fieldAddr t (.tmp n) f
@[simp] abbrev xR (n i:Nat):Op:=.extract (.tmp n) i
@[simp] abbrev oO (d:Nat) (o:Op):CO:=co (some d) o none
@[simp] abbrev oN (d:Nat) (o:Op) (nm:Nm):CO:=cn (some d) o none nm
@[simp] abbrev oS (o:Op):CO:=co none o none
@[simp] abbrev oG (d:Nat) (o:Op) (k:Nat) (b:Bool):CO:=co (some d) o (some (k,b))
@[simp] abbrev bC (b:Builtin) (xs:Array Operand) (ts:Array TypeId):Op:=.call { callee:=(.builtin b),args:=xs,argTypes:=ts }
@[simp] abbrev bL (n t:Nat):Op:=.call { callee:=(.builtin .len),args:=#[.tmp n],argTypes:=#[t] }
@[simp] abbrev bO (o:BinOp) (t a b u:Nat):Op:=.binOp o t (.tmp a) (.tmp b) u
@[simp] abbrev iA (t a b:Nat):Op:=.indexAddr t (.tmp a) (.tmp b)
@[simp] abbrev nB (b:Bool):Operand:=.const (.bool b)
@[simp] abbrev nS:Operand:=.const (.slice none 0 0)
@[simp] abbrev mO (d n:Nat):CO:=co (some d) (.move (.tmp n)) none
@[simp] abbrev aO (d n:Nat):CO:=co (some d) (.assign (.tmp n)) none
@[simp] abbrev lO (d t n:Nat):CO:=co (some d) (.load t (.tmp n)) none
@[simp] abbrev fO (d t n f:Nat):CO:=co (some d) (.fieldAddr t (.tmp n) f) none
@[simp] abbrev xO (d n i:Nat):CO:=co (some d) (.extract (.tmp n) i) none
def pb:Nat→List CO→List (Nat × Nm)
 |_,[]=>[]
 |i,x::l=>if x.nm.isEmpty then pb (i+1) l else (i,x.nm)::pb (i+1) l
def NK:CC→List Mk
 |.reg a b=>[(b,pb 0 a)]
 |.seq x (.keep b (.stop y))=>NK x++(999997::b,[])::NK y
 |.seq x (.keep b y)=>NK x++(999999::b,[])::NK y
 |.seq x (.stop y)=>NK x++([999998],[])::NK y
 |.seq x y=>NK x++([],[])::NK y
 |.cond _ x y=>NK x++NK y
 |.block _ x=>NK x
 |.loop x=>NK x
 |.scope x=>NK x
 |_=>[]
@[simp] abbrev sR (a:List CO) (b:List Nat) (k:CC):CC:=.seq (.reg a b) k
@[simp] abbrev cD (n:Nat) (a b:CC):CC:=.cond (.tmp n) a b
@[simp] abbrev sT (t a b:Nat):CO:=co none (.store t (.tmp a) (.tmp b)) none
@[simp] abbrev bQ (o:BinOp) (d t a:Nat) (n:Int) (u:Nat):CO:=co (some d) (.binOp o t (.tmp a) (.const (.int .i64 n)) u) none
@[simp] abbrev bB (o:BinOp) (d t a b u:Nat):CO:=co (some d) (.binOp o t (.tmp a) (.tmp b) u) none
@[simp] abbrev aI (d:Nat) (n:Int):CO:=co (some d) (.assign (.const (.int .i64 n))) none
@[simp] abbrev aP (d a b t u:Nat) (m:Nm):CO:=cn (some d) (.call { callee:=(.builtin .append),args:=#[.tmp a,.tmp b],argTypes:=#[t,u] }) none m
@[simp] abbrev pF (d a b:Nat):CO:=co (some d) (.pick (.tmp a) (.tmp b) (.const (.bool false))) none
@[simp] abbrev pT (d a b:Nat):CO:=co (some d) (.pick (.tmp a) (.const (.bool true)) (.tmp b)) none
@[simp] abbrev cA (d f a t:Nat):CO:=co (some d) (.call { callee:=(.value (.func f)),args:=#[.tmp a],argTypes:=#[t] }) none
@[simp] abbrev cB (d f a b t u:Nat):CO:=co (some d) (.call { callee:=(.value (.func f)),args:=#[.tmp a,.tmp b],argTypes:=#[t,u] }) none
@[simp] abbrev cE (d f a b e t u v:Nat):CO:=co (some d) (.call { callee:=(.value (.func f)),args:=#[.tmp a,.tmp b,.tmp e],argTypes:=#[t,u,v] }) none
@[simp] abbrev bX (d t a:Nat) (m:Nm):CO:=cn (some d) (.box t (.tmp a)) none m
@[simp] abbrev aL (d t:Nat) (m:Nm):CO:=cn (some d) (.alloc t) none m
@[simp] abbrev mG (d a k:Nat) (b:Bool):CO:=co (some d) (.move (.tmp a)) (some (k,b))
@[simp] abbrev lG (d t a k:Nat) (b:Bool):CO:=co (some d) (.load t (.tmp a)) (some (k,b))
@[simp] abbrev fG (d t a f k:Nat) (b:Bool):CO:=co (some d) (.fieldAddr t (.tmp a) f) (some (k,b))
@[simp] abbrev iO (d t a b:Nat):CO:=co (some d) (.indexAddr t (.tmp a) (.tmp b)) none
@[simp] abbrev bN (d n t:Nat):CO:=co (some d) (.call { callee:=(.builtin .len),args:=#[.tmp n],argTypes:=#[t] }) none
@[simp] abbrev nC (d a:Nat):CO:=co (some d) (.nilCheck (.tmp a)) none
@[simp] abbrev aB (d:Nat) (b:Bool):CO:=co (some d) (.assign (.const (.bool b))) none
@[simp] abbrev aN (d:Nat):CO:=co (some d) (.assign (.const (.slice none 0 0))) none
@[simp] abbrev lS (d t a k:Nat):CO:=⟨some d,.load t (.tmp a),none,[],k,[],true⟩
@[simp] abbrev sQ (a:List CO) (l:List Nat) (k:CC) (m:List Nat) (n:CC):CC:=.seq (.seq (.reg a l) k) (.keep m n)
def HV:CC:=sR [aI 2 0] [0] (sQ [mO 3 0] [3] (.block 0 (sR [bQ .eql 5 3 3 0 3,aO 4 5] [3,4] (cD 4 (sR [aI 2 0] [2] (.ret)) (sR [bQ .eql 7 3 3 1 3,aO 6 7] [3,6] (cD 6 (sR [aI 2 1] [2] (.ret)) (sR [bQ .eql 9 3 3 2 3,aO 8 9] [3,8] (cD 8 (sR [aI 2 8] [2] (.ret)) (sR [bQ .eql 11 3 3 3 3,aO 10 11] [3,10] (cD 10 (sR [aI 2 16] [2] (.ret)) (sR [bQ .eql 13 3 3 4 3,aO 12 13] [3,12] (cD 12 (sR [aI 2 32] [2] (.ret)) (sR [bQ .eql 15 3 3 5 3,aO 14 15] [14] (cD 14 (sR [aI 2 64] [2] (.ret)) (.skip)))))))))))))) [] (sR [oO 2 (.assign (.const (.int .i64 (-1))))] [2] (.ret)))
theorem AJ {f:FuncId} {fn:Func} {cc:CC} {rs:List ResultVar} {n:Nat} (hf:Tryz.prog.funcs[f]? = some fn) (hn:fn.ntmps=n:=by kernel_rfl) (hk:RS Tryz.prog f=true:=by kernel_rfl) (hb:fn.body=some (fn.body.getD .ret):=by kernel_rfl) (hrs:fn.results.toList=rs:=by kernel_rfl) (hc:Ie n (fn.body.getD .ret) (NK cc)=some (cc,[]):=by kernel_rfl):Ca Tryz.prog f n rs cc:=nD Aj hk hf hb hn hrs hc
theorem L4:Ca Tryz.prog 48 16 [(.tmp 2)] HV:=AJ Tryz.func48
def DU:CC:=sQ [mO 11 6,mO 12 5,bB .lss 13 3 11 12 3] [1,5,6,13] (cD 13 (.skip) (.exit 0)) [1,5,6] (.seq (.block 1 (.reg [mO 16 1,oO 17 (.binOp .quo 61 (xT 16) (.const (.int .u64 2)) 61),aO 1 17] [1,5,6])) (.reg [mO 14 6,bQ .add 15 3 14 1 3,aO 6 15] [1,5,6])) 
def Iw:CC:=sR [aB 4 false] [0,1] (sR [mO 7 0,cA 8 48 7 3,aO 5 8] [1,5] (sQ [mO 9 5,bQ .lss 10 3 9 0 3] [1,5,10] (cD 10 (sR [aB 4 false] [4] (.ret)) (.skip)) [1,5] (sQ [aI 6 0] [1,5,6] (.block 0 (.loop DU)) [1] (sR [mO 18 1,oO 19 (.binOp .eql 61 (xT 18) (.const (.int .u64 0)) 61),aO 4 19] [4] (.ret)))))
theorem M8:Ca Tryz.prog 29 20 [(.tmp 4)] Iw:=AJ Tryz.func29
def DX:CC:=sQ [mO 11 5,mO 12 0,bN 13 12 22,bB .lss 14 3 11 13 3] [0,1,5,14] (cD 14 (.skip) (.exit 0)) [0,1,5] (.seq (.block 1 (sR [mO 17 0,mO 18 5,iO 19 22 17 18,lO 20 61 19,mO 21 1,mO 22 5,iO 23 22 21 22,lO 24 61 23,bB .neq 25 61 20 24 61] [0,1,5,25] (cD 25 (sR [aB 4 false] [4] (.ret)) (.skip)))) (.keep [0,1,5] (.reg [mO 15 5,bQ .add 16 3 15 1 3,aO 5 16] [0,1,5]))) 
def IA:CC:=sR [aB 4 false] [0,1] (sQ [mO 6 0,bN 7 6 22,mO 8 1,bN 9 8 22,bB .neq 10 3 7 9 3] [0,1,10] (cD 10 (sR [aB 4 false] [4] (.ret)) (.skip)) [0,1] (sQ [aI 5 0] [0,1,5] (.block 0 (.loop DX)) [] (sR [aB 4 true] [4] (.ret))))
theorem Nu:Ca Tryz.prog 38 26 [(.tmp 4)] IA:=AJ Tryz.func38
def Di:CC:=sQ [mO 6 4,bQ .lss 7 3 6 8 3] [0,2,3,4,7] (cD 7 (.skip) (.exit 0)) [0,2,3,4] (.seq (.block 1 (sR [mO 10 4,mO 11 0,oO 12 (.binOp .rem 61 (xT 11) (.const (.int .u64 256)) 61),oO 13 (.convert 61 5 (xT 12)),iO 14 170 3 10,sT 5 14 13] [0,2,3,4] (.reg [mO 15 0,oO 16 (.binOp .quo 61 (xT 15) (.const (.int .u64 256)) 61),aO 0 16] [0,2,3,4]))) (.reg [mO 8 4,bQ .add 9 3 8 1 3,aO 4 9] [0,2,3,4])) 
def H9:CC:=sR [aL 2 170 [0]] [0,2] (sR [oO 5 (.build 170 #[]),aL 3 170 [1],sT 170 3 5] [0,2,3] (sQ [aI 4 0] [0,2,3,4] (.block 0 (.loop Di)) [2,3] (sR [lO 17 170 3,sT 170 2 17] [2] (.ret))))
theorem Md:Ca Tryz.prog 128 18 [(.cell 2 170)] H9:=AJ Tryz.func128
def Dl:CC:=sQ [mO 6 5,mO 7 1,bB .lss 8 3 6 7 3] [0,1,5,8] (cD 8 (.skip) (.exit 0)) [0,1,5] (.seq (.block 1 (.reg [mO 11 0,oO 12 (.binOp .quo 5 (xT 11) (.const (.int .u8 2)) 5),aO 0 12] [0,1,5])) (.reg [mO 9 5,bQ .add 10 3 9 1 3,aO 5 10] [0,1,5])) 
def HB:CC:=sR [aB 4 false] [0,1] (sQ [aI 5 0] [0,1,5] (.block 0 (.loop Dl)) [0] (sR [mO 13 0,oO 14 (.binOp .rem 5 (xT 13) (.const (.int .u8 2)) 5),oO 15 (.binOp .eql 5 (xT 14) (.const (.int .u8 1)) 5),aO 4 15] [4] (.ret)))
theorem Mt:Ca Tryz.prog 129 16 [(.tmp 4)] HB:=AJ Tryz.func129
def EO:CC:=sQ [mO 7 6,bQ .geq 8 3 7 0 3] [0,1,5,6,8] (cD 8 (.skip) (.exit 0)) [0,1,5,6] (.seq (.block 1 (.reg [mO 11 5,oO 12 (.binOp .mul 61 (xT 11) (.const (.int .u64 256)) 61),mO 13 0,mO 14 1,mO 15 6,bB .add 16 3 14 15 3,iO 17 174 13 16,lO 18 5 17,oO 19 (.convert 5 61 (xT 18)),bB .add 20 61 12 19 61,aO 5 20] [0,1,5,6])) (.reg [mO 9 6,bQ .sub 10 3 9 1 3,aO 6 10] [0,1,5,6])) 
def JX:CC:=sR [oO 4 (.assign (.const (.int .u64 0)))] [0,1] (sR [oO 5 (.assign (.const (.int .u64 0)))] [0,1,5] (sQ [aI 6 7] [0,1,5,6] (.block 0 (.loop EO)) [5] (sR [mO 21 5,aO 4 21] [4] (.ret))))
theorem Pu:Ca Tryz.prog 130 22 [(.tmp 4)] JX:=AJ Tryz.func130
def Ev:CC:=sQ [mO 14 9,bQ .lss 15 3 14 8 3] [2,7,8,9,15] (cD 15 (.skip) (.exit 0)) [2,7,8,9] (.seq (.block 1 (sR [mO 18 2,mO 19 9,cB 20 129 18 19 5 3] [2,7,8,9,20] (cD 20 (.reg [mO 21 9,mO 22 9,iO 23 170 8 22,lO 24 5 23,iO 25 170 7 21,sT 5 25 24] [2,7,8,9]) (.skip)))) (.keep [2,7,8,9] (.reg [mO 16 9,bQ .add 17 3 16 1 3,aO 9 17] [2,7,8,9]))) 
def I9:CC:=sR [oO 6 (.assign (.const (.int .u64 0)))] [0,1,2] (sR [mO 10 0,cA 11 128 10 61,mO 12 1,cA 13 128 12 61,aL 7 170 [0],aL 8 170 [1],sT 170 7 11,sT 170 8 13] [2,7,8] (sQ [aI 9 0] [2,7,8,9] (.block 0 (.loop Ev)) [7] (.stop (sR [oO 26 (.slice 170 (xT 7) none none none),oO 27 (cL 130 #[(xT 26),(nI 0)] #[174,3]),aO 6 27] [6] (.ret)))))
theorem Oz:Ca Tryz.prog 81 28 [(.tmp 6)] I9:=AJ Tryz.func81
def DL:CC:=sQ [mO 7 3,bQ .gtr 8 3 7 0 3,mO 9 8,mG 10 0 9 true,mG 11 3 9 true,oG 12 (.binOp .sub 3 (xT 11) (nI 1) 3) 9 true,oG 13 (iA 22 10 12) 9 true,lG 14 61 13 9 true,oG 15 (.binOp .eql 61 (xT 14) (.const (.int .u64 0)) 61) 9 true,pF 16 9 15] [0,3,16] (cD 16 (.skip) (.exit 0)) [0,3] (.block 1 (.reg [mO 17 3,bQ .sub 18 3 17 1 3,aO 3 18] [0,3])) 
def Iq:CC:=sR [aN 2] [0] (sR [mO 5 0,bN 6 5 22,aO 3 6] [0,3] (.seq (.block 0 (.loop DL)) (.keep [0,3] (sR [aN 4] [0,3,4] (sR [mO 19 4,mO 20 0,mO 21 3,oO 22 (.slice 22 (xT 20) none (some (xT 21)) none),aP 23 19 22 22 22 [0],aO 2 23] [2] (.ret))))))
theorem NF:Ca Tryz.prog 41 24 [(.tmp 2)] Iq:=AJ Tryz.func41
def AG:CC:=sR [aN 2] [0] (sQ [mO 3 0,oO 4 (.binOp .eql 22 (xT 3) nS 22)] [0,4] (cD 4 (sR [aN 2] [2] (.ret)) (.skip)) [0] (sR [oO 5 (.buildSlice 22 0 #[]),mO 6 0,aP 7 5 6 22 22 [0],aO 2 7] [2] (.ret)))
theorem AO:Ca Tryz.prog 59 8 [(.tmp 2)] AG:=AJ Tryz.func59
end Go.Proofs.YtlaapfplenlfaaaGreat
namespace Go.G
open Go.RowKit
def ZN (H:Hp) (a a':A):Prop:=∀ (c:Cx) (w:World) (I:Nat→Prop) (μ:Mu) (v:Value),Sim c w I μ H→Rel w I μ a v→Rel w (fun b=>VX H μ b) Ry a' v
def o7 (P:Program) (rs:List ResultVar) (r:A):Exit→Sta→Prop:=ae P rs fun r0 H=>ZN H r0 r
theorem Kz {P:Program} {f:FuncId} {n:Nat} {rs:List ResultVar} {cc:CC} {args:List A} {r:A} (t:Ca P f n rs cc) (ha:args.length≤n) (h:∀ w0 I0,WPC (cx P w0 I0 n) cc (o7 P rs r) ⟨Mw args,H0⟩):SpecB P f args r:=by
 obtain⟨hm,hk,fn,code,hf,hb,hn,hrs,hc⟩:=t;refine⟨hk,fun w I J vs hI hJ htb hl hr=>?_⟩;have hIJ:∀ b,(I b∨J b)→b<w.heap.size:=fun b hb=>hb.elim (hI b) (hJ b);have h1:AWP (cx P w (fun b=>I b∨J b) n) code (ae P fn.results.toList fun r0 H=>ZN H r0 r) ⟨Mw args,H0⟩:=K4 (c:=cx P w _ n) hm hc (by rw[hrs];exact h w _);refine(Rp hf hb (c:=cx P w (fun b=>I b∨J b) n) rfl hn.symm hl (by omega) (Th hIJ (htb.mono (fun _ h=>.inl h) (fun _ _=>rfl))) hr h1).mono fun e w' ⟨v,r0,H',I',μ',he,h1,h2,h3⟩=>⟨v,he,?_,?_⟩
 ·have k:=h1.kept;exact⟨k.os,k.tape,k.output,k.size,fun b hb=>k.block b hb (fun ⟨_,h⟩=>h)⟩
 ·refine(h3 _ w' I' μ' v h1 h2).mono0 (fun b hb=>?_) (fun _ _=>rfl);obtain⟨o,g1,rfl⟩:=hb;obtain⟨_,g4,g5⟩:=h1.own o g1;rcases g4 with g4 | g4
  ·exact g4.elim
  ·exact .inr ⟨g4,g5⟩
@[simp] theorem jU {P:Program} {rs:List ResultVar} {r:A} {st:Sta}:o7 P rs r .normal st=Gt (EC P st rs) fun r0=>ZN st.H r0 r:=rfl
@[simp] theorem tt {P:Program} {rs:List ResultVar} {r:A} {st:Sta}:o7 P rs r .ret st=Gt (EC P st rs) fun r0=>ZN st.H r0 r:=rfl
theorem Vj {H:Hp} {f:Bool}:ZN H (.sl f []) (.sl false []):=fun c w I μ v hs hr=>by
 cases hr with
 |slN _ _ a cap _=>exact .slN _ _ _ _ (fun h=>by cases h)
 |sl _ _ b off n cap sz _ g h1 h2=>
  have:n=0:=h2;subst this;exact .slN _ _ _ _ (fun h=>by cases h)
theorem Qp {H:Hp} {o:Nm} {u off len sz:Nat} {xs:List A} (ho:Mh H o u=some (sz,xs)) (hl:off+len≤xs.length) (hb:((xs.drop off).take len).all (fun x=>x.cells.length == sz&&x.cells.all fun y=>A.flat1 y&&y.one)=true):ZN H (.osl o u sz off len) (.sl false ((xs.drop off).take len)):=by
 simp only[List.all_eq_true,Bool.and_eq_true,beq_iff_eq] at hb;intro c w I μ v hs hr;have hlen:((xs.drop off).take len).length=len:=by simp;omega
 have hcell:∀ (k:Nat) (y:A),(((xs.drop off).take len).flatMap A.cells)[k]? = some y→y.flat1=true∧y.one=true:=fun k y hk=>by
  obtain⟨x,hx,hy⟩:=List.mem_flatMap.1 (List.mem_of_getElem? hk);exact(hb x hx).2 y hy
 cases hr with
 |osl _ _ _ _ _ _ a cap g1 g2 g4 g5 g3=>
  obtain⟨hu,k2,hrow⟩:=hs.row ho;obtain⟨_,hcur⟩:=g3 hu.symm;by_cases h0:len=0
  ·subst h0;simp only[List.take_zero];exact .slN _ _ _ _ (fun h=>by cases h)
  rcases hcur with ⟨e,_⟩ | ⟨p1,rfl,p3⟩
  ·exact(h0 e).elim
  rcases hrow with ⟨q1,_⟩ | ⟨q1,vs,k3,k4,k5,k6,k7⟩
  ·rw[p1] at q1;cases q1
  subst k2;have hB:Dv (μ o) (H o).ob=true:=by rw[(Fw ho).2];exact q1
  have hg:∀ (k:Nat) (y:A),(((xs.drop off).take len).flatMap A.cells)[k]? = some y→(xs.flatMap A.cells)[off*(μ o).sz+k]? = some y:=fun k y hk=>Dt k6 hk;refine .sl _ _ (μ o).b (off*(μ o).sz) _ _ (μ o).sz _ (fun k=>vs.getD (off*(μ o).sz+k) undef) ⟨o,hB,rfl⟩ hlen.symm (by omega) (fun h=>by cases h) (fun z hz=>k6 z (Zd (St hz)))
   (fun k y hk=>(hcell k y hk).2) (fun k y hk=>?_) (fun k y hk=>(k7 _ y (hg k y hk)).2.of_flat1 (hcell k y hk).1)
  have h3:=hg k y hk;have h4:=Bm k6;have h5:xs.length*(μ o).sz≤(μ o).cap*(μ o).sz:=Nat.mul_le_mul_right _ k5;have h6:=(List.getElem?_eq_some_iff.1 h3).1;rw[cell_of_row w (μ o).b _ vs (μ o).e (0,0) k3];have:off*(μ o).sz+k<vs.size:=by rw[k4];omega
  simp[this]
theorem R7 {P:Program} {f:FuncId} {fl:Bool} {r:A} (h1:∀ cap,SpecB P f [.v (.slice none 0 cap)] r) (h2:∀ a cap,SpecB P f [.v (.slice (some a) 0 cap)] r):SpecB P f [.sl fl []] r:=by
 refine⟨(h1 0).1,fun w I J vs hI hJ htb hl hr=>?_⟩;have h:=hr 0 _ rfl;have go:∀ x,vs.getD 0 undef=x→∀ (k:Nat) (y:A),[A.v x][k]? = some y→Rel w (fun b=>I b∨J b) Ry y (vs.getD k undef):=fun x hx k y hk=>by
  cases k with
  |zero=>cases hk;rw[hx];exact .v _ _
  |succ k=>simp at hk
 generalize hq:vs.getD 0 undef=x at h;cases h with
 |slN _ _ a cap _=>
  cases a with
  |none=>exact(h1 cap).2 w I J vs hI hJ htb hl (go _ hq)
  |some a=>exact(h2 a cap).2 w I J vs hI hJ htb hl (go _ hq)
 |sl _ _ b off n cap sz _ g k1 k2=>
  have:n=0:=k2;subst this;exact(h2 _ cap).2 w I J vs hI hJ htb hl (go _ hq)
theorem Zo {w:World} {I:Nat→Prop} {μ:Mu} {d:Nm} {u sz:Nat} {v:Value} (h1:Rel w I μ (.sl true []) v) (hu:(μ d).u=u) (h0:1≤u) (hz:(μ d).sz=sz):Rel w I μ (.osl d u sz 0 0) v:=by
 subst hu;cases h1 with
 |slN _ _ q cap hc=>
  have:=hc rfl;subst this;exact .osl _ _ _ _ _ _ _ _ h0 (Ei _) (Ei _) (fun h=>by omega) (fun _=>⟨hz,.inl ⟨rfl,rfl⟩⟩)
 |sl _ _ b off n cap z _ g h1 h2 h3 h4=>
  have h5:n=0:=h2;have h6:cap=0:=h4 rfl;subst h5 h6;exact .osl _ _ _ _ _ _ _ _ h0 (Ei _) (Ei _) (fun h=>by omega) (fun _=>⟨hz,.inl ⟨rfl,rfl⟩⟩)
theorem Bc {c:Cx} {s:Nat→A} {H:Hp} {d:Nm} {u:Nat} {cs:List A} (i:Nat) (d':Nm) (sz:Nat) (hd:H d=⟨u,.cells cs⟩) (hi:cs[i]? = some (.sl true [])) (hne:d ≠ d') :
  Le c ⟨s,H⟩ ⟨s,Az (Az H d' ⟨(H d').u+1,.arr sz []⟩) d ⟨u,.cells (cs.set i (.osl d' ((H d').u+1) sz 0 0))⟩⟩:=fun a w I μ hs=>by
 obtain⟨hx,hs'⟩:=hs.sim.upd (EP w none) d' ⟨(H d').u+1,false,0,0,sz,0⟩ (.arr sz []) (.inl rfl) (.inl (by rw[hs.sim.ver];exact Nat.lt_succ_self _)) (fun h=>nomatch h) (fun h=>nomatch h) (fun hx=>⟨rfl,.inl ⟨rfl,rfl⟩⟩);have hd1:(Az H d' ⟨(H d').u+1,.arr sz []⟩:Hp) d=⟨u,.cells cs⟩:=by rw[Ax hne];exact hd
 have hob:=hs'.ob d;rw[hd1] at hob;obtain⟨vs,k1,k2,k3⟩:=hob;have hB:Dv (Az μ d' ⟨(H d').u+1,false,0,0,sz,0⟩ d) ((Az H d' ⟨(H d').u+1,.arr sz []⟩:Hp) d).ob=true:=by rw[hd1];rfl
 obtain⟨hx2,hs2⟩:=hs'.upd (EP w none) d (Az μ d' ⟨(H d').u+1,false,0,0,sz,0⟩ d) (.cells (cs.set i (.osl d' ((H d').u+1) sz 0 0))) (.inl rfl) (.inr rfl) (fun _=>.inr ⟨hB,rfl⟩) (fun _=>hs'.tag _ hB) (fun hx2=>by
  refine⟨vs,k1,by simpa using k2,fun k y hk=>?_⟩;rw[EX];by_cases hki:k=i
  ·subst hki;have hlt:k<cs.length:=(List.getElem?_eq_some_iff.1 hi).1;rw[List.getElem?_set_self hlt] at hk;cases hk;exact⟨rfl,Zo (k3 k _ hi).2 (by simp) (by omega) (by simp)⟩
  ·rw[List.getElem?_set_ne (Ne.symm hki)] at hk;exact k3 k y hk)
 have hu:(Az μ d' ⟨(H d').u+1,false,0,0,sz,0⟩ d).u=u:=by rw[hs'.ver,hd1]
 rw[hu] at hs2;exact⟨I,_,hs2,hs.size,hs.defers,fun t=>hx2.rel (hx.rel (hs.rel t))⟩
def Part (H H':Hp):Prop:=∀ o,H' o=H o∨H' o=⟨(H o).u,.none⟩
theorem Part.has {H H':Hp} (h:Part H H') {L:lf} {o:Nm} (k:Dv L (H' o).ob=true):Dv L (H o).ob=true:=by
 rcases h o with e | e
 ·rw[← e];exact k
 ·rw[e] at k;cases k
theorem Part.ver {H H':Hp} (h:Part H H') (o:Nm):(H' o).u=(H o).u:=by rcases h o with e | e<;>rw[e]
theorem Sim.part {c:Cx} {w:World} {I:Nat→Prop} {μ:Mu} {H H':Hp} (hs:Sim c w I μ H) (h:Part H H'):Sim c w I μ H':=
 ⟨hs.kept,hs.lt,hs.old,hs.new,fun o=>by rw[h.ver,hs.ver],fun o=>by
  rcases h o with e | e
  ·rw[e];exact hs.ob o
  ·rw[e];trivial,fun o o' k k'=>hs.apart o o' (h.has k) (h.has k'),fun o k=>hs.own o (h.has k),hs.mle,fun o k=>hs.tag o (h.has k),hs.tab⟩
theorem Sim.freezeAll {c:Cx} {w:World} {I:Nat→Prop} {μ:Mu} {H H1 H2:Hp} (hs:Sim c w I μ H) (h1:Part H H1) (h2:Part H H2) (hd:∀ o,(H1 o).ob = .none∨(H2 o).ob = .none) (hM:∀ o b,(H1 o).ob ≠ .none→¬ c.M0 o b) :
  Sim c w (fun b=>I b∨VX H1 μ b) μ H2:=by
 have hx:Ext I μ w (fun b=>I b∨VX H1 μ b) μ w:=⟨fun b h=>.inl h,fun b h=>rfl,MuLe.refl _⟩;refine⟨hs.kept,fun b h=>?_,fun b h=>.inl (hs.old b h),fun b h=>?_,fun o=>by rw[h2.ver,hs.ver],fun o=>?_,fun o o' k k'=>hs.apart o o' (h2.has k) (h2.has k'),fun o k=>?_,hs.mle,fun o k=>hs.tag o (h2.has k),hs.tab.mono (fun _ h=>.inl h) (fun _ _=>rfl)⟩
 ·rcases h with h | ⟨o,k,rfl⟩
  ·exact hs.lt b h
  ·exact(hs.own o (h1.has k)).2.2
 ·rcases h with h | ⟨o,k,rfl⟩
  ·exact hs.new b h
  ·rcases (hs.own o (h1.has k)).2.1 with h | h
   ·exact(hM _ _ (fun e=>by rw[e] at k;cases k) h).elim
   ·exact .inr h
 ·rcases h2 o with e | e
  ·rw[e];exact OSim.keep hx (fun _=>rfl) (hs.ob o)
  ·rw[e];trivial
 ·obtain⟨k1,k2,k3⟩:=hs.own o (h2.has k);refine⟨fun hh=>?_,k2,k3⟩;rcases hh with hh | ⟨o',k',e⟩
  ·exact k1 hh
  ·refine hs.apart o o' (h2.has k) (h1.has k') (fun e=>?_) e.symm;subst e;rcases hd o with e | e
   ·rw[e] at k';cases k'
   ·rw[e] at k;cases k
theorem S8 {c:Cx} {s:Nat→A} {H H1 H2:Hp} (hM:∀ o b,(H1 o).ob ≠ .none→¬ c.M0 o b) (t:Nat) (a:A) (h1:Part H H1) (h2:Part H H2) (hd:∀ o,(H1 o).ob = .none∨(H2 o).ob = .none) (hf:Gy H1 (s t) a):Le c ⟨s,H⟩ ⟨upd s t a,H2⟩:=fun x w I μ hs=>by
 have h3:=hs.sim.freezeAll h1 h2 hd hM;refine⟨_,μ,h3,hs.size,hs.defers,fun k=>?_⟩;show Rel w _ μ (upd s t a k) _;unfold upd;split
 ·rename_i e;subst e;exact(hf c w I μ _ (hs.sim.part h1) (hs.rel k)).ofI
 ·exact(hs.rel k).mono0 (fun b h=>.inl h) (fun _ _=>rfl)
theorem Xh {c:Cx} {s:Nat→A} {H:Hp} {d:Nm} (hM:∀ b,¬ c.M0 d b) (t:Nat) (a:A) (hf:∀ H1:Hp,H1 d=H d→Gy H1 (s t) a):Le c ⟨s,H⟩ ⟨upd s t a,Az H d ⟨(H d).u,.none⟩⟩:=by
 refine S8 (fun o b h=>by
  by_cases e:o=d
  ·subst e;exact hM b
  ·exact absurd (by simp[e]) h) t a (H1:=fun o=>if o=d then H o else ⟨(H o).u,.none⟩) (fun o=>?_) (fun o=>?_) (fun o=>?_) (hf _ (by simp))
 ·by_cases h:o=d
  ·exact .inl (by simp[h])
  ·exact .inr (by simp[h])
 ·by_cases h:o=d
  ·subst h;exact .inr (by simp)
  ·exact .inl (Ax h)
 ·by_cases h:o=d
  ·subst h;exact .inr (by simp)
  ·exact .inl (by simp[h])
end Go.G
namespace Go.Proofs.YtlaapfplenlfaaaGreat
open Go Go.G Go.Proofs
abbrev ws (l:List Int):A:=.sl false (l.map uv)
abbrev sgs (l:List (List Int)):A:=.sl false (l.map ws)
@[simp] theorem yS (l:List Int):CX 1 (l.map uv)=true:=by simp[CX]
@[simp] theorem xG (l:List (List Int)):CX 1 (l.map ws)=true:=by simp[CX]
theorem WD (f:Bool) (l:List Int) (h:l.length*8≤140737488355328):SpecB Tryz.prog 59 [.sl f (l.map uv)] (ws l):=by
 cases l with
 |nil=>
  refine R7 (fun cap=>?_) (fun a cap=>?_)
  ·refine Kz AO (by simp) fun w0 I0=>?_;unfold AG;simp;exact Vj
  ·refine Kz AO (by simp) fun w0 I0=>?_;unfold AG;simp;exact Qp (sz:=1) (xs:=[]) (by simp) (by simp) (by simp)
 |cons x l=>
  refine Kz AO (by simp) fun w0 I0=>?_;unfold AG;simp at h ⊢;refine⟨h,?_⟩;have:=Qp (H:=Ga [([0],{ u:=1,ob:=Ob.arr 1 (uv x::l.map uv) })]) (o:=[0]) (u:=1) (off:=0) (len:=l.length+1) (sz:=1) (xs:=uv x::l.map uv) (by simp) (by simp) (by simp[A.flat1,AN]);simp[AN] at this;exact this
abbrev arX (l:List (List Int)) (z m u:Int):A:=.pim [sgs l,iv z,iv m,iv u]
abbrev arn (l:List (List Int)):A:=arX l 0 0 0
def seg (l:List (List Int)) (s:Int):Option (List Int):=if 0≤s then l[s.toNat]? else none
def Aau (l:List (List Int)) (s:Int):Nat:=((seg l s).map List.length).getD 0
def cN (l:List (List Int)) (s a n:Int):Bool:=decide (0≤s∧s<l.length∧0≤a∧0≤n∧a+n≤Aau l s)
def NX (l:List (List Int)) (s a:Int):Option Int:=if 0≤a then (seg l s).bind fun g=>g[a.toNat]? else none
def part (l:List (List Int)) (s a n:Int):List Int:=(((seg l s).getD []).drop a.toNat).take n.toNat
def fK (c:Int):Int:=if c=0 then 0 else if c=1 then 1 else if c=2 then 8 else if c=3 then 16 else if c=4 then 32 else 64
def nU (p:Pt):Option Int:=
 if p.kind=1 then some (p.data+p.ptrs)
 else if p.kind=2∧p.code=7 then some (p.count+1)
 else if p.kind=2∧0≤p.code∧p.code≤6∧0≤p.count∧p.count≤536870911 then some ((p.count*fK p.code+63) / 64)
 else none
structure Lc where
 p:Pt
 s:Int
 at_:Int
deriving DecidableEq
def Pt.l (p:Pt):List A:=[iv p.kind,iv p.off,iv p.data,iv p.ptrs,iv p.code,iv p.count,iv p.seg,bv p.dbl]
@[simp] theorem Pt.l_eq (p:Pt):p.l=[iv p.kind,iv p.off,iv p.data,iv p.ptrs,iv p.code,iv p.count,iv p.seg,bv p.dbl]:=rfl
def Pt.zero:Pt:=⟨0,0,0,0,0,0,0,false⟩
def Lc.zero:Lc:=⟨Pt.zero,0,0⟩
abbrev Lc.a (x:Lc):A:=.agg [iv x.p.kind,iv x.p.off,iv x.p.data,iv x.p.ptrs,iv x.p.code,iv x.p.count,iv x.p.seg,bv x.p.dbl,iv x.s,iv x.at_]
def Ym (l:List (List Int)) (x:Lc):Lc × Int:=if cN l x.s x.at_ ((nU x.p).getD 0)=true then (⟨{ x.p with off:=0 },x.s,x.at_⟩,0) else (Lc.zero,7)
def kf (l:List (List Int)) (p:Pt) (s a:Int):Lc × Int:=
 if p.kind=1∨p.kind=2 then Ym l ⟨p,s,a+1+p.off⟩ else if p.kind=4 then (Lc.zero,9) else (Lc.zero,8)
def Wds (l:List (List Int)):Prop:=∀ x,x ∈ l→∀ y,y ∈ x→0≤y∧y<18446744073709551616
def gZ (l:List (List Int)) (s a:Int):Lc × Int:=
 match NX l s a,NX l s (a+1) with
 |some v,some w=>
  if (NU v).kind ≠ 3∨(NU v).dbl=true then (Lc.zero,8)
  else if (NU w).kind=4 then (Lc.zero,9)
  else if ((NU w).kind ≠ 1∧(NU w).kind ≠ 2)∨(NU w).off ≠ 0 then (Lc.zero,8)
  else Ym l ⟨NU w,(NU v).seg,(NU v).off⟩
 |_,_=>(Lc.zero,7)
def PX (l:List (List Int)) (s a:Int):Lc × Int:=
 match NX l s a with
 |none=>(Lc.zero,7)
 |some w=>
  if (NU w).kind=0 then (Lc.zero,0)
  else if (NU w).kind ≠ 3 then kf l (NU w) s a
  else if (NU w).dbl=true then gZ l (NU w).seg (NU w).off
  else match NX l (NU w).seg (NU w).off with
   |none=>(Lc.zero,7)
   |some v=>kf l (NU v) (NU w).seg (NU w).off
abbrev zs:List A:=[iv 0,iv 0,iv 0,iv 0,iv 0,iv 0,iv 0,bv false,iv 0,iv 0]
end Go.Proofs.YtlaapfplenlfaaaGreat
namespace Go.PL
inductive T where
 |mk (kind:Int) (words:List Int) (kids:List T)
 deriving Inhabited
namespace T
def kind:T→Int | mk k _ _=>k
def words:T→List Int | mk _ w _=>w
def kids:T→List T | mk _ _ l=>l
@[simp] theorem kind_mk {k:Int} {w:List Int} {l:List T}:(mk k w l).kind=k:=rfl
@[simp] theorem words_mk {k:Int} {w:List Int} {l:List T}:(mk k w l).words=w:=rfl
@[simp] theorem kids_mk {k:Int} {w:List Int} {l:List T}:(mk k w l).kids=l:=rfl
end T
theorem Tz {α:Type} {P:List α→Prop} (h0:P []) (h1:∀ l x,P l→P (l++[x])) (l:List α):P l:=by
 have:∀ m:List α,P m.reverse:=by
  intro m;induction m with
  |nil=>exact h0
  |cons x m ih=>rw[List.reverse_cons];exact h1 _ _ ih
 have h:=this l.reverse
 rwa [List.reverse_reverse] at h
abbrev T0:T:=.mk 0 [] []
mutual
theorem T.ind {P:T→Prop} (h:∀ k w l,(∀ t,t ∈ l→P t)→P (.mk k w l)):∀ t,P t
 |.mk k w l=>h k w l (T.indL h l)
theorem T.indL {P:T→Prop} (h:∀ k w l,(∀ t,t ∈ l→P t)→P (.mk k w l)):∀ (l:List T),∀ t,t ∈ l→P t
 |[],t,ht=>nomatch ht
 |x::l,t,ht=>by
  rcases List.mem_cons.1 ht with e | ht
  ·rw[e];exact T.ind h x
  ·exact T.indL h l t ht
end
def CS (l:List Int):List Int:=(l.reverse.dropWhile (fun x=>x == 0)).reverse
def CD (l:List T):List T:=(l.reverse.dropWhile (fun x=>x.kind == 0)).reverse
mutual
def Af:T→T
 |.mk k w l=>if k=0 then T0 else if k=1 then .mk 1 (CS w) (CD (SS l)) else .mk k w (SS l)
def SS:List T→List T
 |[]=>[]
 |t::l=>Af t::SS l
end
@[simp] theorem YY:∀ l,SS l=l.map Af
 |[]=>by simp[SS]
 |t::l=>by simp[SS,YY l]
theorem ER (k:Int) (w:List Int) (l:List T):Af (.mk k w l)=if k=0 then T0 else if k=1 then .mk 1 (CS w) (CD (l.map Af)) else .mk k w (l.map Af):=by simp[Af]
@[simp] theorem Hx (t:T):(Af t).kind=t.kind:=by
 cases t;rw[ER];split
 ·rename_i h;rw[h];rfl
 ·split
  ·rename_i h;rw[h];rfl
  ·rfl
@[simp] theorem qG:CS []=[]:=rfl
@[simp] theorem pK:CD []=[]:=rfl
theorem Mi (l:List Int) (x:Int):CS (l++[x])=if x=0 then CS l else l++[x]:=by
 unfold CS;simp[List.dropWhile_cons];split<;>simp
theorem HX (l:List T) (x:T):CD (l++[x])=if x.kind=0 then CD l else l++[x]:=by
 unfold CD;by_cases h:x.kind=0<;>simp[List.dropWhile_cons,h]
theorem QL (l:List Int):(CS l).length≤l.length:=by
 unfold CS;simp;have:=(List.dropWhile_sublist (fun x:Int=>x == 0) (l:=l.reverse)).length_le;simpa using this
theorem MH (l:List T):(CD l).length≤l.length:=by
 unfold CD;simp;have:=(List.dropWhile_sublist (fun x:T=>x.kind == 0) (l:=l.reverse)).length_le;simpa using this
theorem Q6 (l:List Int):CS l=l.take (CS l).length:=by
 induction l using Tz with
 |h0=>rfl
 |h1 l x ih=>
  rw[Mi];split
  ·rw[List.take_append_of_le_length (QL l)];exact ih
  ·rw[AN (Ei _)]
theorem Ql (l:List T):CD l=l.take (CD l).length:=by
 induction l using Tz with
 |h0=>rfl
 |h1 l x ih=>
  rw[HX];split
  ·rw[List.take_append_of_le_length (MH l)];exact ih
  ·rw[AN (Ei _)]
def Eg (c:Int):Int:=if c=0 then 0 else if c=1 then 1 else if c=2 then 8 else if c=3 then 16 else if c=4 then 32 else if c=5 then 64 else -1
def R3 (c n:Int):Bool:=decide (0≤Eg c)&&decide (n / 2 ^ (Eg c).toNat=0)
def Kg (k:Int):Bool:=decide (2≤k)&&decide (k≤7)
def Gf (k:Int) (c:T):Bool:=!(Kg k != decide (c.kind=10) || decide (k=9)&&!decide (c.kind=1) || Kg k&&!R3 (k-2) (c.words.headD 0))
def Hy (k:Int) (d nw nl:Nat):Bool:=decide (k<0) || decide (k > 10) || decide (d=0) || decide (nw ≥ 65536) || decide (k=1)&&decide (nl ≥ 65536) || decide (nl ≥ 1048576) || decide (k > 1)&&decide (nw > 0)
mutual
def BV:Nat→T→Bool
 |d,.mk k w l=>if k=0 then w.isEmpty&&l.isEmpty else if k=10 then decide (w.length=1)&&l.isEmpty
  else if Hy k d w.length l.length=true then false else F4 (d-1) k l
def F4:Nat→Int→List T→Bool
 |_,_,[]=>true
 |d,k,t::l=>BV d t&&Gf k t&&F4 d k l
end
theorem K8 (d:Nat) (k:Int) (w:List Int) (l:List T):BV d (.mk k w l)=if k=0 then w.isEmpty&&l.isEmpty else if k=10 then decide (w.length=1)&&l.isEmpty
  else if Hy k d w.length l.length=true then false else F4 (d-1) k l:=by rw[BV]
@[simp] theorem lC (d:Nat) (k:Int):F4 d k []=true:=by rw[F4]
@[simp] theorem UG (d:Nat) (k:Int) (t:T) (l:List T):F4 d k (t::l)=(BV d t&&Gf k t&&F4 d k l):=by rw[F4]
theorem rightL_all {d:Nat} {k:Int}:∀ {l:List T},F4 d k l=true ↔ ∀ t,t ∈ l→BV d t=true∧Gf k t=true
 |[]=>by simp
 |t::l=>by simp[rightL_all (l:=l),and_assoc]
mutual
def Au:Nat→Int→T→Int
 |d,n,.mk _ w l=>if d=0∨n-1-w.length<0 then -1 else Ar (d-1) (n-1-w.length) l
def Ar:Nat→Int→List T→Int
 |_,n,[]=>n
 |d,n,t::l=>if n<0 then n else Ar d (Au d n t) l
end
theorem Js (d:Nat) (n:Int) (k:Int) (w:List Int) (l:List T):Au d n (.mk k w l)=if d=0∨n-1-w.length<0 then -1 else Ar (d-1) (n-1-w.length) l:=by rw[Au]
@[simp] theorem NR (d:Nat) (n:Int):Ar d n []=n:=by rw[Ar]
@[simp] theorem C7 (d:Nat) (n:Int) (t:T) (l:List T):Ar d n (t::l)=if n<0 then n else Ar d (Au d n t) l:=by rw[Ar]
theorem LV {d:Nat} {k:Int} {w:List Int} {l:List T} (h:BV d (.mk k w l)=true):∀ t,t ∈ l→BV (d-1) t=true∧Gf k t=true:=by
 rw[K8] at h;split at h
 ·simp at h;intro t ht;rw[h.2] at ht;cases ht
 ·split at h
  ·simp at h;intro t ht;rw[h.2] at ht;cases ht
  ·split at h
   ·cases h
   ·exact rightL_all.1 h
end Go.PL
namespace Go.Proofs.YtlaapfplenlfaaaGreat
open Go Go.G Go.Proofs Go.PL
structure Rf where
 kind:Int
 s:Int
 at_:Int
 data:Int
 kids:Int
 count:Int
 n:Int
def Rf.zero:Rf:=⟨0,0,0,0,0,0,0⟩
def nk (r:Rf):Int:=if r.kind=1 then r.kids else r.count
def wJ (l:List (List Int)) (s a m:Int):Rf × Int:=
 if ((NX l s a).getD 0 ≠ 0∧(NU ((NX l s a).getD 0)).kind ≠ 1)∨(NU ((NX l s a).getD 0)).off<0∨m<(NU ((NX l s a).getD 0)).off*((NU ((NX l s a).getD 0)).data+(NU ((NX l s a).getD 0)).ptrs) then (Rf.zero,8)
 else (⟨9,s,a+1,(NU ((NX l s a).getD 0)).data,(NU ((NX l s a).getD 0)).ptrs,(NU ((NX l s a).getD 0)).off,0⟩,0)
def AaB (l:List (List Int)) (x:Lc):Rf × Int:=
 if x.p.kind=1 then (⟨1,x.s,x.at_,x.p.data,x.p.ptrs,0,0⟩,0)
 else if x.p.code<7 then (⟨2+x.p.code,x.s,x.at_,0,0,x.p.count,0⟩,0)
 else wJ l x.s x.at_ x.p.count
def atP (l:List (List Int)) (s a:Int):Rf × Int:=
 if (PX l s a).2 ≠ 0∨(PX l s a).1.p.kind=0 then (Rf.zero,(PX l s a).2) else AaB l (PX l s a).1
def AaI (g:List Int) (c i:Int):Int:=
 if Eg c<1∨i<0∨1099511627776<i then 0 else ((g[(i*Eg c / 64).toNat]?).getD 0) / 2 ^ (i*Eg c % 64).toNat % 2 ^ (Eg c).toNat
def vF (l:List (List Int)) (r:Rf) (i:Int):Int:=AaI (((seg l r.s).getD []).drop r.at_.toNat) (r.kind-2) i
def tv (l:List (List Int)) (r:Rf) (i:Int):Rf × Int:=
 if i<0∨nk r≤i then (Rf.zero,0)
 else if r.kind=1 then atP l r.s (r.at_+r.data+i)
 else if r.kind=8 then atP l r.s (r.at_+i)
 else if r.kind=9 then (⟨1,r.s,r.at_+i*(r.data+r.kids),r.data,r.kids,0,0⟩,0)
 else (⟨10,0,0,0,0,0,vF l r i⟩,0)
def mX (l:List (List Int)) (r:Rf):List Int:=if r.kind=10 then [r.n] else if r.kind ≠ 1 then [] else part l r.s r.at_ r.data
inductive WU (l:List (List Int)):Rf→Prop
 |zero:WU l Rf.zero
 |str (s a d k:Int):0≤d→d<65536→0≤k→k<65536→cN l s a (d+k)=true→WU l ⟨1,s,a,d,k,0,0⟩
 |dat (c s a n:Int):0≤c→c<6→0≤n→n<536870912→cN l s a ((n*fK c+63) / 64)=true→WU l ⟨2+c,s,a,0,0,n,0⟩
 |ptrs (s a n:Int):0≤n→n<536870912→cN l s a n=true→WU l ⟨8,s,a,0,0,n,0⟩
 |comp (s a d k n:Int):0≤d→d<65536→0≤k→k<65536→0≤n→n<536870912→cN l s a (n*(d+k))=true→WU l ⟨9,s,a,d,k,n,0⟩
 |atom (n:Int):0≤n→n<18446744073709551616→WU l ⟨10,0,0,0,0,0,n⟩
inductive Ys (l:List (List Int)):Rf→T→Prop
 |mk (r:Rf) (t:T):WU l r→r.kind=t.kind→mX l r=t.words→nk r=t.kids.length→(∀ (i:Nat) (h:i<t.kids.length),(tv l r i).2=0)→(∀ (i:Nat) (h:i<t.kids.length),Ys l (tv l r i).1 t.kids[i])→Ys l r t
end Go.Proofs.YtlaapfplenlfaaaGreat
namespace Go.PL
structure WE where
 at_:Int
 mask:Int
 old:Int
 new:Int
mutual
inductive E where
 |mk (kind:Int) (old new:T) (words:List WE) (kids:List KE) (list:Int) (ops:List OP)
inductive KE where
 |mk (at_:Int) (e:E)
inductive OP where
 |mk (kind n:Int) (l:List T) (e:E)
end
namespace E
def kind:E→Int | mk k _ _ _ _ _ _=>k
def old:E→T | mk _ o _ _ _ _ _=>o
def new:E→T | mk _ _ n _ _ _ _=>n
def words:E→List WE | mk _ _ _ w _ _ _=>w
def kids:E→List KE | mk _ _ _ _ k _ _=>k
def list:E→Int | mk _ _ _ _ _ l _=>l
def ops:E→List OP | mk _ _ _ _ _ _ o=>o
variable {k l:Int} {o n:T} {w:List WE} {ks:List KE} {os:List OP}
@[simp] theorem kind_mk:(mk k o n w ks l os).kind=k:=rfl
@[simp] theorem old_mk:(mk k o n w ks l os).old=o:=rfl
@[simp] theorem new_mk:(mk k o n w ks l os).new=n:=rfl
@[simp] theorem words_mk:(mk k o n w ks l os).words=w:=rfl
@[simp] theorem kids_mk:(mk k o n w ks l os).kids=ks:=rfl
@[simp] theorem list_mk:(mk k o n w ks l os).list=l:=rfl
@[simp] theorem ops_mk:(mk k o n w ks l os).ops=os:=rfl
end E
namespace KE
def at_:KE→Int | mk a _=>a
def e:KE→E | mk _ e=>e
@[simp] theorem AbT {a:Int} {e:E}:(mk a e).at_=a:=rfl
@[simp] theorem e_mk {a:Int} {e:E}:(mk a e).e=e:=rfl
end KE
namespace OP
def kind:OP→Int | mk k _ _ _=>k
def n:OP→Int | mk _ n _ _=>n
def l:OP→List T | mk _ _ l _=>l
def e:OP→E | mk _ _ _ e=>e
variable {k m:Int} {t:List T} {x:E}
@[simp] theorem kind_mk:(mk k m t x).kind=k:=rfl
@[simp] theorem Ab6:(mk k m t x).n=m:=rfl
@[simp] theorem l_mk:(mk k m t x).l=t:=rfl
@[simp] theorem e_mk:(mk k m t x).e=x:=rfl
end OP
abbrev E0:E:=.mk 0 T0 T0 [] [] 0 []
mutual
theorem E.ind {P:E→Prop} (h:∀ k o n w ks l os,(∀ x,x ∈ ks→P x.e)→(∀ x,x ∈ os→P x.e)→P (.mk k o n w ks l os)):∀ e,P e
 |.mk k o n w ks l os=>h k o n w ks l os (E.indK h ks) (E.indO h os)
theorem E.indK {P:E→Prop} (h:∀ k o n w ks l os,(∀ x,x ∈ ks→P x.e)→(∀ x,x ∈ os→P x.e)→P (.mk k o n w ks l os)):∀ (ks:List KE),∀ x,x ∈ ks→P x.e
 |[],_,hx=>nomatch hx
 |.mk a e::ks,x,hx=>by
  rcases List.mem_cons.1 hx with q | hx
  ·rw[q];exact E.ind h e
  ·exact E.indK h ks x hx
theorem E.indO {P:E→Prop} (h:∀ k o n w ks l os,(∀ x,x ∈ ks→P x.e)→(∀ x,x ∈ os→P x.e)→P (.mk k o n w ks l os)):∀ (os:List OP),∀ x,x ∈ os→P x.e
 |[],_,hx=>nomatch hx
 |.mk a n l e::os,x,hx=>by
  rcases List.mem_cons.1 hx with q | hx
  ·rw[q];exact E.ind h e
  ·exact E.indO h os x hx
end
def ED (t:T):Bool:=decide (t.kind=0)&&t.words.isEmpty&&t.kids.isEmpty
def Kt (e:E):Bool:=decide (e.kind=0)&&ED e.old&&ED e.new&&(e.words.isEmpty&&e.kids.isEmpty&&e.ops.isEmpty)&&decide (e.list=0)
def FW (w mask:Int):Bool:=(List.range 8).all fun i=>decide (mask / 2 ^ i % 2=1) || decide (w / 256 ^ i % 256=0)
def N0 (last:Int) (w:WE):Bool:=!(decide (w.at_≤last) || decide (w.at_ > 65534) || decide (w.mask=0) || !FW w.old w.mask || !FW w.new w.mask)
def BP:Int→List WE→Bool
 |_,[]=>true
 |last,w::l=>N0 last w&&BP w.at_ l
def Lk (n:Int):Int:=if n > 1048576 then 1048576 else n
def B4 (o:OP):Int:=if o.kind=3 then 1 else o.n+o.l.length
def AB:Int→Int→List OP→Int × Int
 |n,m,[]=>(n,m)
 |n,m,o::l=>AB (Lk (if o.kind ≠ 2 then n+B4 o else n)) (Lk (if o.kind ≠ 1 then m+B4 o else m)) l
def E4 (list:Int) (o:OP):Bool:=
 if o.kind=0 then decide (1≤o.n)&&decide (o.n≤1048576)&&o.l.isEmpty&&Kt o.e
 else if o.n ≠ 0∨o.kind<0∨o.kind > 3 then false
 else if o.kind<3 then (o.l.all fun t=>BV 64 (.mk list [] [t]))&&!o.l.isEmpty&&Kt o.e
 else true
def JR (list:Int) (o:OP):Bool:=o.l.isEmpty&&!decide (o.e.kind=0)&&!decide (list≤7)
def NN (list:Int) (o:OP):Bool:=decide (list=8) || decide (o.e.kind=2) || decide (o.e.kind=1)&&decide (o.e.old.kind=1)&&decide (o.e.new.kind=1)
def El (d:Nat) (k:Int) (o n:T) (nw nk:Nat) (list:Int) (no:Nat):Bool:=
 !(decide (d=0) || decide (k<0) || decide (k > 3))&&!(!decide (k=1)&&!(ED o&&ED n) || !decide (k=2)&&decide (nw+nk > 0) || !decide (k=3)&&(!decide (list=0) || decide (no > 0)))
mutual
def BG:Nat→E→Bool
 |d,.mk k o n ws ks l os=>
  if El d k o n ws.length ks.length l os.length=false then false
  else if k=1 then BV 64 o&&BV 64 n&&!decide (o.kind=10)&&!decide (n.kind=10)
  else if BP (-1) ws=false then false
  else if B0 (d-1) (-1) ks=false then false
  else if k=3∧(l<2∨l > 9) then false
  else if Fg (d-1) l os=false then false
  else decide ((AB 0 0 os).1<1048576)&&decide ((AB 0 0 os).2<1048576)
def B0:Nat→Int→List KE→Bool
 |_,_,[]=>true
 |d,last,.mk a e::l=>!(decide (a≤last) || decide (a > 65534) || decide (e.kind=0))&&BG d e&&B0 d a l
def Fg:Nat→Int→List OP→Bool
 |_,_,[]=>true
 |d,list,.mk k n t e::l=>Gn d list (.mk k n t e)&&Fg d list l
def Gn:Nat→Int→OP→Bool
 |d,list,.mk k n t e=>E4 list (.mk k n t e)&&(if k=3 then JR list (.mk k n t e)&&BG d e&&NN list (.mk k n t e) else true)
end
theorem Jm (d:Nat) (k:Int) (o n:T) (ws:List WE) (ks:List KE) (l:Int) (os:List OP):BG d (.mk k o n ws ks l os) =
  if El d k o n ws.length ks.length l os.length=false then false
  else if k=1 then BV 64 o&&BV 64 n&&!decide (o.kind=10)&&!decide (n.kind=10)
  else if BP (-1) ws=false then false
  else if B0 (d-1) (-1) ks=false then false
  else if k=3∧(l<2∨l > 9) then false
  else if Fg (d-1) l os=false then false
  else decide ((AB 0 0 os).1<1048576)&&decide ((AB 0 0 os).2<1048576):=by rw[BG]
@[simp] theorem jN (d:Nat) (last:Int):B0 d last []=true:=by rw[B0]
@[simp] theorem NH (d:Nat) (last:Int) (x:KE) (l:List KE):B0 d last (x::l)=(!(decide (x.at_≤last) || decide (x.at_ > 65534) || decide (x.e.kind=0))&&BG d x.e&&B0 d x.at_ l):=by cases x;rw[B0];rfl
@[simp] theorem jM (d:Nat) (list:Int):Fg d list []=true:=by rw[Fg]
@[simp] theorem Uc (d:Nat) (list:Int) (x:OP) (l:List OP):Fg d list (x::l)=(Gn d list x&&Fg d list l):=by cases x;rw[Fg]
theorem ET (d:Nat) (list:Int) (x:OP):Gn d list x=(E4 list x&&(if x.kind=3 then JR list x&&BG d x.e&&NN list x else true)):=by cases x;rw[Gn];rfl
theorem rightOs_all {d:Nat} {list:Int}:∀ {l:List OP},Fg d list l=true ↔ ∀ x,x ∈ l→Gn d list x=true
 |[]=>by simp
 |x::l=>by simp[rightOs_all (l:=l)]
mutual
def CT:Nat→Int→E→Int
 |d,n,.mk _ o nn ws ks _ os=>if d=0∨n-1-ws.length-os.length<0 then -1 else Ds (d-1) (Cr (d-1) (Jr n ws.length os.length o nn) ks) os
def Cr:Nat→Int→List KE→Int
 |_,n,[]=>n
 |d,n,.mk _ e::l=>if n<0 then n else Cr d (CT d n e) l
def Ds:Nat→Int→List OP→Int
 |_,n,[]=>n
 |d,n,.mk _ _ t e::l=>if n<0 then n else Ds d (if Ar 80 n t<0 then Ar 80 n t else CT d (Ar 80 n t) e) l
def Jr:Int→Nat→Nat→T→T→Int
 |n,a,b,o,nn=>if Au 80 (n-1-a-b) o<0 then Au 80 (n-1-a-b) o else Au 80 (Au 80 (n-1-a-b) o) nn
end
theorem NA (d:Nat) (n:Int) (k:Int) (o nn:T) (ws:List WE) (ks:List KE) (l:Int) (os:List OP):CT d n (.mk k o nn ws ks l os)=if d=0∨n-1-ws.length-os.length<0 then -1 else Ds (d-1) (Cr (d-1) (Jr n ws.length os.length o nn) ks) os:=by rw[CT]
theorem KS (n:Int) (a b:Nat) (o nn:T):Jr n a b o nn=if Au 80 (n-1-a-b) o<0 then Au 80 (n-1-a-b) o else Au 80 (Au 80 (n-1-a-b) o) nn:=by rw[Jr]
@[simp] theorem JA (d:Nat) (n:Int):Cr d n []=n:=by rw[Cr]
@[simp] theorem Fy (d:Nat) (n:Int) (x:KE) (l:List KE):Cr d n (x::l)=if n<0 then n else Cr d (CT d n x.e) l:=by cases x;rw[Cr];rfl
@[simp] theorem HU (d:Nat) (n:Int):Ds d n []=n:=by rw[Ds]
@[simp] theorem DB (d:Nat) (n:Int) (x:OP) (l:List OP):Ds d n (x::l)=if n<0 then n else Ds d (if Ar 80 n x.l<0 then Ar 80 n x.l else CT d (Ar 80 n x.l) x.e) l:=by cases x;rw[Ds];rfl
mutual
def Gh:E→Bool
 |.mk _ _ _ _ ks _ os=>!(decide ((AB 0 0 os).1 > 2000) || decide ((AB 0 0 os).2 > 2000))&&FR ks&&F5 os
def FR:List KE→Bool
 |[]=>true
 |.mk _ e::l=>Gh e&&FR l
def F5:List OP→Bool
 |[]=>true
 |.mk _ _ _ e::l=>Gh e&&F5 l
end
theorem Sh (k:Int) (o nn:T) (ws:List WE) (ks:List KE) (l:Int) (os:List OP):Gh (.mk k o nn ws ks l os)=(!(decide ((AB 0 0 os).1 > 2000) || decide ((AB 0 0 os).2 > 2000))&&FR ks&&F5 os):=by rw[Gh]
@[simp] theorem kJ:FR []=true:=by rw[FR]
@[simp] theorem MP (x:KE) (l:List KE):FR (x::l)=(Gh x.e&&FR l):=by cases x;rw[FR];rfl
@[simp] theorem kV:F5 []=true:=by rw[F5]
@[simp] theorem Nb (x:OP) (l:List OP):F5 (x::l)=(Gh x.e&&F5 l):=by cases x;rw[F5];rfl
end Go.PL
namespace Go.G
open Go.RowKit
mutual
def A.soft:A→A
 |.sl _ xs=>.sl false (A.softL xs)
 |.agg cs=>.agg (A.softL cs)
 |.tup cs=>.tup (A.softL cs)
 |.pim cs=>.pim (A.softL cs)
 |.ifc t x=>.ifc t (A.soft x)
 |.any=>.any
 |.v x=>.v x
 |.pob o u off=>.pob o u off
 |.osl o u sz off len=>.osl o u sz off len
 |.pel o u i j=>.pel o u i j
 |.mo o u=>.mo o u
 |.fnc f fs cs=>.fnc f fs cs
def A.softL:List A→List A
 |[]=>[]
 |x::xs=>A.soft x::A.softL xs
end
theorem Bd:∀ l:List A,A.softL l=l.map A.soft
 |[]=>by simp[A.softL]
 |x::l=>by simp[A.softL,Bd l]
theorem Rc (a:A):a.soft.cells=a.cells.map A.soft:=by cases a<;>simp[A.soft,A.cells,Bd]
theorem R4:∀ l:List A,(l.map A.soft).flatMap A.cells=(l.flatMap A.cells).map A.soft
 |[]=>rfl
 |x::l=>by simp[Rc,R4 l]
theorem UA (a:A):a.soft.one=a.one:=by cases a<;>simp[A.soft,A.one]
theorem Rel.soft {w:World} {I:Nat→Prop} {μ:Mu} {a:A} {x:Value} (h:Rel w I μ a x):Rel w I μ a.soft x:=by
 induction h with
 |any=>simpa[A.soft] using Rel.any _ _
 |v=>simpa[A.soft] using Rel.v _ _
 |slN μ f a cap h=>
  simp only[A.soft,A.softL];exact .slN _ _ _ _ (fun h=>nomatch h)
 |sl μ f b off n cap sz xs g hb hn hc hf hs h1 hcell hr ih=>
  simp only[A.soft,Bd];refine .sl _ _ b off n cap sz _ g hb (by simpa using hn) (by simpa using hc) (fun h=>nomatch h) (fun x hx=>?_) (fun k y hk=>?_) (fun k y hk=>?_) (fun k y hk=>?_)
  ·obtain⟨x',hx',rfl⟩:=List.mem_map.1 hx;simpa[Rc] using hs x' hx'
  all_goals
   rw[R4,List.getElem?_map,Option.map_eq_some_iff] at hk;obtain⟨y',hy,rfl⟩:=hk
  ·rw[UA];exact h1 k y' hy
  ·exact hcell k y' hy
  ·exact ih k y' hy
 |agg μ cs vs hl _ ih=>
  simp only[A.soft,Bd];refine .agg _ _ _ (by simpa using hl) fun k y hk=>?_;rw[List.getElem?_map,Option.map_eq_some_iff] at hk;obtain⟨y',hy,rfl⟩:=hk;exact ih k y' hy
 |tup μ cs vs hl _ ih=>
  simp only[A.soft,Bd];refine .tup _ _ _ (by simpa using hl) fun k y hk=>?_;rw[List.getElem?_map,Option.map_eq_some_iff] at hk;obtain⟨y',hy,rfl⟩:=hk;exact ih k y' hy
 |pim μ b off cs g hb h1 hcell hr ih=>
  simp only[A.soft,Bd];refine .pim _ b off _ g hb (fun k y hk=>?_) (fun k y hk=>?_) (fun k y hk=>?_);all_goals
   rw[List.getElem?_map,Option.map_eq_some_iff] at hk;obtain⟨y',hy,rfl⟩:=hk
  ·rw[UA];exact h1 k y' hy
  ·exact hcell k y' hy
  ·exact ih k y' hy
 |pob _ _ _ _ _ _ h1 h2 h3=>simpa[A.soft] using Rel.pob _ _ _ _ _ _ h1 h2 h3
 |osl _ _ _ _ _ _ _ _ h1 h2 h4 h5 h3=>simpa[A.soft] using Rel.osl _ _ _ _ _ _ _ _ h1 h2 h4 h5 h3
 |pel _ _ _ _ _ _ _ h1 h2 h3=>simpa[A.soft] using Rel.pel _ _ _ _ _ _ _ h1 h2 h3
 |mo _ _ _ _ h1 h2 h3=>simpa[A.soft] using Rel.mo _ _ _ _ h1 h2 h3
 |fnc _ _ _ _ _ _ hl0 h0 hl h _ _=>simpa[A.soft] using Rel.fnc _ _ _ _ _ _ hl0 h0 hl h
 |ifc _ _ _ _ _ ih=>simpa[A.soft] using Rel.ifc _ _ _ _ ih
theorem Spec.soft {P:Program} {f:FuncId} {as' as'':List A} {r:A} (h:Spec P f as'' r) (e:A.softL as'=as''):Spec P f as' r:=by
 subst e;refine⟨h.1,fun w I vs hI ht hn ha=>h.2 w I vs hI ht (by simpa[Bd] using hn) fun k y hk=>?_⟩;rw[Bd,List.getElem?_map,Option.map_eq_some_iff] at hk;obtain⟨y',hy,rfl⟩:=hk;exact(ha k y' hy).soft
theorem SpecB.soft {P:Program} {f:FuncId} {as' as'':List A} {r:A} (h:SpecB P f as'' r) (e:A.softL as'=as''):SpecB P f as' r:=by
 subst e;refine⟨h.1,fun w I J vs hI hJ ht hn ha=>h.2 w I J vs hI hJ ht (by simpa[Bd] using hn) fun k y hk=>?_⟩;rw[Bd,List.getElem?_map,Option.map_eq_some_iff] at hk;obtain⟨y',hy,rfl⟩:=hk;exact(ha k y' hy).soft
theorem fW {H:Hp} {a:A} (h:a.bare=true):Gy H a a.soft:=fun c w I μ v hs hr=>(Ad h c w I μ v hs hr).soft
mutual
def A.ren (g:Nm→Nm) (δ:Nm→Nat):A→A
 |.pob o u off=>.pob (g o) (u+δ o) off
 |.osl o u sz off len=>.osl (g o) (u+δ o) sz off len
 |.pel o u i j=>.pel (g o) (u+δ o) i j
 |.mo o u=>.mo (g o) (u+δ o)
 |.agg cs=>.agg (A.renL g δ cs)
 |.tup cs=>.tup (A.renL g δ cs)
 |.fnc f fs cs=>.fnc f (A.renL g δ fs) (A.renL g δ cs)
 |.ifc t x=>.ifc t (A.ren g δ x)
 |.any=>.any
 |.v x=>.v x
 |.sl f xs=>.sl f xs
 |.pim cs=>.pim cs
def A.renL (g:Nm→Nm) (δ:Nm→Nat):List A→List A
 |[]=>[]
 |x::xs=>A.ren g δ x::A.renL g δ xs
end
mutual
def A.refs (S:Nm→Prop):A→Prop
 |.pob o u off=>S o
 |.osl o u sz off len=>S o
 |.pel o u i j=>S o
 |.mo o u=>S o
 |.agg cs=>A.refsL S cs
 |.tup cs=>A.refsL S cs
 |.fnc f fs cs=>A.refsL S fs∧A.refsL S cs
 |.ifc t x=>A.refs S x
 |.any=>True
 |.v x=>True
 |.sl f xs=>True
 |.pim cs=>True
def A.refsL (S:Nm→Prop):List A→Prop
 |[]=>True
 |x::xs=>A.refs S x∧A.refsL S xs
end
theorem C3 {g:Nm→Nm} {δ:Nm→Nat}:∀ l:List A,A.renL g δ l=l.map (A.ren g δ)
 |[]=>by simp[A.renL]
 |x::l=>by simp[A.renL,C3 l]
theorem refsL_iff {S:Nm→Prop}:∀ {l:List A},A.refsL S l ↔ ∀ x,x ∈ l→x.refs S
 |[]=>by simp[A.refsL]
 |x::l=>by simp[A.refsL,refsL_iff (l:=l)]
theorem SN {g:Nm→Nm} {δ:Nm→Nat} (a:A):(a.ren g δ).cells=a.cells.map (A.ren g δ):=by cases a<;>simp[A.ren,A.cells,C3]
theorem VM {g:Nm→Nm} {δ:Nm→Nat}:∀ l:List A,(l.map (A.ren g δ)).flatMap A.cells=(l.flatMap A.cells).map (A.ren g δ)
 |[]=>rfl
 |x::l=>by simp[SN,VM l]
theorem YT {g:Nm→Nm} {δ:Nm→Nat} (a:A):(a.ren g δ).one=a.one:=by cases a<;>simp[A.ren,A.one]
theorem XJ {S:Nm→Prop} {a y:A} (h:a.refs S) (hy:y ∈ a.cells):y.refs S:=by
 cases a<;>simp[A.cells] at hy<;>first | (subst hy;exact h) | exact refsL_iff.1 (by simpa[A.refs] using h) y hy
theorem Rel.ren {w:World} {I:Nat→Prop} {μ:Mu} {a:A} {v:Value} (h:Rel w I μ a v):∀ {μ':Mu} {S:Nm→Prop} {g:Nm→Nm} {δ:Nm→Nat},a.refs S→(∀ o,S o→1≤(μ o).u→μ' (g o)={ μ o with u:=(μ o).u+δ o })→Rel w I μ' (a.ren g δ) v:=by
 induction h with
 |any=>intro μ' S g δ _ _;simpa[A.ren] using Rel.any _ _
 |v=>intro μ' S g δ _ _;simpa[A.ren] using Rel.v _ _
 |slN _ _ _ _ h=>intro μ' S g δ _ _;simpa[A.ren] using Rel.slN _ _ _ _ h
 |sl μ f b off n cap sz xs g hb hn hc hf hs h1 hcell hr _=>intro μ' S g' δ _ _;simpa[A.ren] using Rel.sl _ f b off n cap sz xs g hb hn hc hf hs h1 hcell hr
 |pim μ b off cs g hb h1 hcell hr _=>intro μ' S g' δ _ _;simpa[A.ren] using Rel.pim _ b off cs g hb h1 hcell hr
 |agg μ cs vs hl _ ih=>
  intro μ' S g δ hS hμ;simp only[A.ren,C3];refine .agg _ _ _ (by simpa using hl) fun k y hk=>?_;rw[List.getElem?_map,Option.map_eq_some_iff] at hk;obtain⟨y',hy,rfl⟩:=hk;exact ih k y' hy (refsL_iff.1 (by simpa[A.refs] using hS) y' (List.mem_of_getElem? hy)) hμ
 |tup μ cs vs hl _ ih=>
  intro μ' S g δ hS hμ;simp only[A.ren,C3];refine .tup _ _ _ (by simpa using hl) fun k y hk=>?_;rw[List.getElem?_map,Option.map_eq_some_iff] at hk;obtain⟨y',hy,rfl⟩:=hk;exact ih k y' hy (refsL_iff.1 (by simpa[A.refs] using hS) y' (List.mem_of_getElem? hy)) hμ
 |fnc μ f fs caps us vs hl0 _ hl _ ih0 ih=>
  intro μ' S g δ hS hμ;simp only[A.refs] at hS;simp only[A.ren,C3];refine .fnc _ _ _ _ _ _ (by simpa using hl0) (fun k y hk=>?_) (by simpa using hl) fun k y hk=>?_
  ·rw[List.getElem?_map,Option.map_eq_some_iff] at hk;obtain⟨y',hy,rfl⟩:=hk;exact ih0 k y' hy (refsL_iff.1 hS.1 y' (List.mem_of_getElem? hy)) hμ
  ·rw[List.getElem?_map,Option.map_eq_some_iff] at hk;obtain⟨y',hy,rfl⟩:=hk;exact ih k y' hy (refsL_iff.1 hS.2 y' (List.mem_of_getElem? hy)) hμ
 |ifc _ _ _ _ _ ih=>
  intro μ' S g δ hS hμ;simp only[A.ren];exact .ifc _ _ _ _ (ih (by simpa[A.refs] using hS) hμ)
 |pob μ o u off b k h1 h2 h3=>
  intro μ' S g δ hS hμ;have e:=hμ o (by simpa[A.refs] using hS) (by omega);simp only[A.ren];exact .pob _ _ _ _ _ _ (by omega) (by rw[e];simpa using h2) fun hu=>by rw[e] at hu ⊢; exact h3 (by simpa using hu)
 |osl μ o u sz off len a cap h1 h2 h4 h5 h3=>
  intro μ' S g δ hS hμ;have e:=hμ o (by simpa[A.refs] using hS) (by omega);simp only[A.ren];exact .osl _ _ _ _ _ _ _ _ (by omega) (by rw[e];simpa using h2) h4 h5 fun hu=>by rw[e] at hu ⊢; exact h3 (by simpa using hu)
 |pel μ o u i j b k h1 h2 h3=>
  intro μ' S g δ hS hμ;have e:=hμ o (by simpa[A.refs] using hS) (by omega);simp only[A.ren];exact .pel _ _ _ _ _ _ _ (by omega) (by rw[e];simpa using h2) fun hu=>by rw[e] at hu ⊢; exact h3 (by simpa using hu)
 |mo μ o u b h1 h2 h3=>
  intro μ' S g δ hS hμ;have e:=hμ o (by simpa[A.refs] using hS) (by omega);simp only[A.ren];exact .mo _ _ _ _ (by omega) (by rw[e];simpa using h2) fun hu=>by rw[e] at hu ⊢; exact h3 (by simpa using hu)
def Ob.ren (g:Nm→Nm) (δ:Nm→Nat):Ob→Ob
 |.none=>.none
 |.cells cs=>.cells (A.renL g δ cs)
 |.arr sz xs=>.arr sz (A.renL g δ xs)
 |.mp es=>.mp es
def Ob.refs (S:Nm→Prop):Ob→Prop
 |.none=>True
 |.cells cs=>A.refsL S cs
 |.arr sz xs=>A.refsL S xs
 |.mp _=>True
theorem P4 {g:Nm→Nm} {δ:Nm→Nat} {L:lf} {ob:Ob}:Dv L (ob.ren g δ)=Dv L ob:=by cases ob<;>rfl
theorem OSim.ren {w:World} {I:Nat→Prop} {μ μ':Mu} {L L':lf} {ob:Ob} {S:Nm→Prop} {g:Nm→Nm} {δ:Nm→Nat} (h:OSim w I μ L ob) (hS:ob.refs S) (hμ:∀ o,S o→1≤(μ o).u→μ' (g o)={ μ o with u:=(μ o).u+δ o }) (hL:L'={ L with u:=L'.u }) :
  OSim w I μ' L' (ob.ren g δ):=by
 rw[hL];cases ob with
 |none=>trivial
 |mp es=>exact h
 |cells cs=>
  obtain⟨vs,h1,h2,h3⟩:=h;simp only[Ob.ren,C3];refine⟨vs,h1,by simpa using h2,fun k y hk=>?_⟩;rw[List.getElem?_map,Option.map_eq_some_iff] at hk;obtain⟨y',hy,rfl⟩:=hk;exact⟨by rw[YT];exact(h3 k y' hy).1,(h3 k y' hy).2.ren (refsL_iff.1 hS y' (List.mem_of_getElem? hy)) hμ⟩
 |arr sz xs=>
  simp only[Ob.ren,C3];obtain⟨h0,⟨h1,h2⟩ | ⟨h1,vs,h3,h4,h5,h6,h7⟩⟩:=h
  ·exact⟨h0,.inl ⟨h1,by rw[h2];rfl⟩⟩
  ·refine⟨h0,.inr ⟨h1,vs,h3,h4,by simpa using h5,fun x hx=>?_,fun k y hk=>?_⟩⟩
   ·obtain⟨x',hx',rfl⟩:=List.mem_map.1 hx;simpa[SN] using h6 x' hx'
   ·rw[VM,List.getElem?_map,Option.map_eq_some_iff] at hk;obtain⟨y',hy,rfl⟩:=hk;obtain⟨x,hx,hy'⟩:=List.mem_flatMap.1 (List.mem_of_getElem? hy);exact⟨by rw[YT];exact(h7 k y' hy).1,(h7 k y' hy).2.ren (XJ (refsL_iff.1 hS x hx) hy') hμ⟩
def HY (P:Program) (w0:World) (I0:Nat→Prop) (M0:Nm→Nat→Prop) (n:Nat) (m0:Mu):Cx:=⟨P,w0,I0,M0,n,m0⟩
@[simp] theorem AbK {P:Program} {w0:World} {I0:Nat→Prop} {M0:Nm→Nat→Prop} {n:Nat} {m0:Mu}:(HY P w0 I0 M0 n m0).P=P:=rfl
def SpecH (P:Program) (f:FuncId) (k:Nat) (args:List A) (Hc:Hp) (r:A) (Hr:Hp):Prop:=
 RS P f=true∧∀ (w:World) (I:Nat→Prop) (M0:Nm→Nat→Prop) (n:Nat) (μ:Mu) (vs:Array Value),(∀ (o:Nm) (b:Nat),(Hc o).ob = .none→¬ M0 o b)→Sim (HY P w I M0 n μ) w I μ Hc→vs.size=args.length→(∀ (k:Nat) (y:A),args[k]? = some y→Rel w I μ y (vs.getD k undef)) →
  Calls P f vs w fun e w'=>∃ v,e = .returned v∧∃ H' I' μ',Sim (HY P w I M0 n μ) w' I' μ' H'∧Rel w' I' μ' r v∧∀ (i:Nat) (p:Nm),i<k→H' (i::p)=Hr (i::p)
theorem Sim.of_n {P:Program} {w0 w:World} {I0 I:Nat→Prop} {M0:Nm→Nat→Prop} {n n':Nat} {m0 μ:Mu} {H:Hp} (h:Sim (HY P w0 I0 M0 n m0) w I μ H):Sim (HY P w0 I0 M0 n' m0) w I μ H:=
 ⟨h.kept,h.lt,h.old,h.new,h.ver,h.ob,h.apart,h.own,h.mle,h.tag,h.tab⟩
def Lr (c:Cx) (rs:List ResultVar) (k:Nat) (r:A) (Hr:Hp):Exit→Sta→Prop:=fun e st=>Pn c (ae c.P rs (fun r0 H=>r0=r∧∀ (i:Nat) (p:Nm),i<k→H (i::p)=Hr (i::p)) e) st
theorem Hi {c:Cx} {rs:List ResultVar} {k:Nat} {r:A} {Hr:Hp} {e:Exit} {st st':Sta} (h:Le c st st') (k':Lr c rs k r Hr e st'):Lr c rs k r Hr e st:=JB h k'
theorem QW {c:Cx} {rs:List ResultVar} {k:Nat} {r r0:A} {Hr:Hp} {st:Sta} (h:EC c.P st rs=some r0) (he:r0=r) (hh:∀ (i:Nat) (p:Nm),i<k→st.H (i::p)=Hr (i::p)):Lr c rs k r Hr .ret st:=Ff ⟨r0,h,he,hh⟩
theorem OV {c:Cx} {rs:List ResultVar} {k:Nat} {r r0:A} {Hr:Hp} {st:Sta} (h:EC c.P st rs=some r0) (he:r0=r) (hh:∀ (i:Nat) (p:Nm),i<k→st.H (i::p)=Hr (i::p)):Lr c rs k r Hr .normal st:=Ff ⟨r0,h,he,hh⟩
theorem K3 {P:Program} {f:FuncId} {n k:Nat} {rs:List ResultVar} {cc:CC} {args:List A} {Hc:Hp} {r:A} {Hr:Hp} (t:Ca P f n rs cc) (ha:args.length≤n)
  (h:∀ w0 I0 M0 m0,(∀ (o:Nm) (b:Nat),(Hc o).ob = .none→¬ M0 o b)→WPC (HY P w0 I0 M0 n m0) cc (Lr (HY P w0 I0 M0 n m0) rs k r Hr) ⟨Mw args,Hc⟩):SpecH P f k args Hc r Hr:=by
 obtain⟨hm,hk,fn,code,hf,hb,hn,hrs,hc⟩:=t;refine⟨hk,fun w I M0 n' μ vs hN hs hl har=>?_⟩;refine(Rp (Q:=fun r0 H=>r0=r∧∀ (i:Nat) (p:Nm),i<k→H (i::p)=Hr (i::p)) hf hb (c:=HY P w I M0 n μ) rfl hn.symm hl (by omega) (Sim.of_n hs) har (fun a w1 I1 μ1 hsr=>wp_mono (K4 (c:=HY P w I M0 n μ) hm hc (h w I M0 μ hN) a w1 I1 μ1 hsr) fun e a' w' ⟨st',I',μ',g1,st2,g2,g3⟩=>by
   obtain⟨I2,μ2,g4⟩:=g2 a' w' I' μ' g1;exact⟨st2,I2,μ2,g4,by rw[hrs];exact g3⟩)).mono fun e w' ⟨v,r0,H',I',μ',he,h1,h2,h3,h4⟩=>?_
 subst h3;exact⟨v,he,H',I',μ',h1.of_n,h2,h4⟩
theorem VQ {P:Program} {f:FuncId} {n k:Nat} {rs:List ResultVar} {cc:CC} {args:List A} {Hc:Hp} {r:A} {Hr:Hp} (t:Ca P f n rs cc) (ha:args.length≤n)
  (h:∀ w0 I0 M0 m0,WPC (HY P w0 I0 M0 n m0) cc (Lr (HY P w0 I0 M0 n m0) rs k r Hr) ⟨Mw args,Hc⟩):SpecH P f k args Hc r Hr:=K3 t ha fun w0 I0 M0 m0 _=>h w0 I0 M0 m0
def MB (rs:List Nat):Nm→Nm
 |i::p=>rs.getD i 0::p
 |[]=>[]
def Py (rs:List Nat):Nm→Nm
 |j::p=>rs.idxOf j::p
 |[]=>[]
def NB (rs:List Nat) (m:Nat):Nm→Prop
 |j::p=>rs.idxOf j<m
 |[]=>False
def FG (k:Nat):Nm→Prop
 |i::p=>i<k
 |[]=>False
def LU (rs:List Nat) (m:Nat) (H:Hp):Nm→Nat
 |i::p=>if i<m then 0 else if i<rs.length then (H (rs.getD i 0::p)).u else 0
 |[]=>0
def VOb.ren (g:Nm→Nm) (δ:Nm→Nat) (d:Nat) (x:VOb):VOb:=⟨x.u+d,x.ob.ren g δ⟩
def Gm (rs:List Nat) (m:Nat) (H Hr:Hp):Hp
 |j::p=>(Hr (rs.idxOf j::p)).ren (MB rs) (LU rs m H) (LU rs m H (rs.idxOf j::p))
 |[]=>⟨0,.none⟩
theorem Jl {rs:List Nat} (hnd:rs.Nodup) {i:Nat} (h:i<rs.length):rs.idxOf (rs.getD i 0)=i:=by
 have e:rs.getD i 0=rs[i]:=by simp[List.getD,h]
 rw[e];exact hnd.idxOf_getElem i h
theorem MT {rs:List Nat} {j:Nat} (h:j ∈ rs):rs.getD (rs.idxOf j) 0=j:=by
 have hl:=List.idxOf_lt_length_iff.2 h;simp[List.getD,hl]
theorem idx_mem {rs:List Nat} {j:Nat}:rs.idxOf j<rs.length ↔ j ∈ rs:=List.idxOf_lt_length_iff
theorem Xn {g:Nm→Nm} {δ:Nm→Nat} {d:Nat} {x:VOb} (h:(x.ren g δ d).ob = .none):x.ob = .none:=by
 cases x with
 |mk u ob=>cases ob<;>first | rfl | cases h
theorem NZ {P:Program} {f:FuncId} {rs:List Nat} {m:Nat} {args:List A} {Hc Hr:Hp} {r:A} {H:Hp} (hnd:rs.Nodup) (hm:m≤rs.length)
  (hS:SpecH P f rs.length (A.renL (Py rs) (fun _=>0) args) Hc r Hr)
  (h1:∀ (i:Nat) (p:Nm),i<m→Hc (i::p)=(H (rs.getD i 0::p)).ren (Py rs) (fun _=>0) 0) (h2:∀ (i:Nat) (p:Nm),m≤i→Hc (i::p)=⟨0,.none⟩) (h3:Hc []=⟨0,.none⟩)
  (ha:A.refsL (NB rs m) args) (hc:∀ (i:Nat) (p:Nm),i<m→(H (rs.getD i 0::p)).ob.refs (NB rs m))
  (hr:r.refs (FG rs.length)) (ho:∀ (i:Nat) (p:Nm),i<rs.length→(Hr (i::p)).ob.refs (FG rs.length))
  (hv:∀ (i:Nat) (p:Nm),m≤i→i<rs.length→(Hr (i::p)).ob = .none∨1≤(Hr (i::p)).u) :
  OH P H f args (r.ren (MB rs) (LU rs m H)) (.fn rs (Gm rs m H Hr)):=by
 refine⟨hS.1,fun c w I μ vs hP hs hl har=>?_⟩
 let nm:Nat→Nm→Nm:=fun i p=>rs.getD i 0::p
 let μc:Mu:=fun o=>match o with
  |i::p=>if i<m then μ (nm i p) else Ry (i::p)
  |[]=>Ry []
 let M1:Nm→Nat→Prop:=fun o b=>∃ i p,o=i::p∧i<m∧Dv (μ (nm i p)) (H (nm i p)).ob=true∧b=(μ (nm i p)).b
 have hμ:∀ o,NB rs m o→1≤(μ o).u→μc (Py rs o)={ μ o with u:=(μ o).u+(fun _=>0) o }:=fun o ho _=>by
  cases o with
  |nil=>exact ho.elim
  |cons j p=>
   have hj:rs.idxOf j<m:=ho;show(if rs.idxOf j<m then μ (nm (rs.idxOf j) p) else _)=_;rw[if_pos hj];have:nm (rs.idxOf j) p=j::p:=by show rs.getD (rs.idxOf j) 0::p=_;rw[MT (idx_mem.1 (by omega))]
   rw[this];rfl
 have nm_ne:∀ {i i':Nat} {p p':Nm},i<rs.length→i'<rs.length→i::p ≠ i'::p'→nm i p ≠ nm i' p':=fun {i i' p p'} hi hi' hne e=>by
  have e1:rs.getD i 0=rs.getD i' 0:=by injection e
  have e2:p=p':=by injection e
  have:=Jl hnd hi;rw[e1,Jl hnd hi'] at this;exact hne (by rw[this,e2])
 have own1:∀ (i:Nat) (p:Nm),Dv (μc (i::p)) (Hc (i::p)).ob=true→i<m∧Dv (μ (nm i p)) (H (nm i p)).ob=true∧μc (i::p)=μ (nm i p):=fun i p h=>by
  by_cases hi:i<m
  ·have e:μc (i::p)=μ (nm i p):=if_pos hi;rw[e,h1 i p hi] at h;simp only[VOb.ren,P4] at h;exact⟨hi,h,e⟩
  ·rw[h2 i p (by omega)] at h;cases h
 have start:Sim (HY P w I M1 0 μc) w I μc Hc:=by
  refine⟨⟨rfl,rfl,rfl,Ei _,fun _ _ _=>rfl⟩,hs.lt,fun _ h=>h,fun b hb=>.inl hb,fun o=>?_,fun o=>?_,fun o o' k k' hne=>?_,fun o k=>?_,MuLe.refl _,fun o k=>?_,by subst hP;exact hs.tab⟩
  ·cases o with
   |nil=>rw[h3];rfl
   |cons i p=>
    by_cases hi:i<m
    ·have e:μc (i::p)=μ (nm i p):=if_pos hi;rw[e,h1 i p hi,hs.ver];rfl
    ·have e:μc (i::p)=Ry (i::p):=if_neg hi;rw[e,h2 i p (by omega)];rfl
  ·cases o with
   |nil=>rw[h3];trivial
   |cons i p=>
    by_cases hi:i<m
    ·have e:μc (i::p)=μ (nm i p):=if_pos hi;rw[e,h1 i p hi];exact(hs.ob (nm i p)).ren (hc i p hi) hμ rfl
    ·rw[h2 i p (by omega)];trivial
  ·cases o with
   |nil=>rw[h3] at k;cases k
   |cons i p=>
    cases o' with
    |nil=>rw[h3] at k';cases k'
    |cons i' p'=>
     obtain⟨q1,q2,q3⟩:=own1 i p k;obtain⟨r1,r2,r3⟩:=own1 i' p' k';rw[q3,r3];exact hs.apart _ _ q2 r2 (nm_ne (by omega) (by omega) hne)
  ·cases o with
   |nil=>rw[h3] at k;cases k
   |cons i p=>
    obtain⟨q1,q2,q3⟩:=own1 i p k;rw[q3];obtain⟨g1,g2,g3⟩:=hs.own _ q2;exact⟨g1,.inl ⟨i,p,rfl,q1,q2,rfl⟩,g3⟩
  ·cases o with
   |nil=>rw[h3] at k;cases k
   |cons i p=>
    obtain⟨q1,q2,q3⟩:=own1 i p k;rw[q3];exact hs.tag _ q2
 have harg:∀ (k:Nat) (y:A),(A.renL (Py rs) (fun _=>0) args)[k]? = some y→Rel w I μc y (vs.getD k undef):=fun k y hk=>by
  rw[C3,List.getElem?_map,Option.map_eq_some_iff] at hk;obtain⟨y',hy,rfl⟩:=hk;exact(har k y' hy).ren (refsL_iff.1 ha y' (List.mem_of_getElem? hy)) hμ
 refine(hS.2 w I M1 0 μc vs (fun o b h ⟨i,p,e,hi,hb,_⟩=>by
  subst e;rw[h1 i p hi] at h;rw[show(H (nm i p)).ob = .none from Xn h] at hb;cases hb) start (by simpa[C3] using hl) harg).mono fun e w' ⟨v,he,H',I',μ',hs',hrel,hH'⟩=>⟨v,he,I',?_⟩
 let δ:=LU rs m H
 let μ2:Mu:=fun n=>match n with
  |j::p=>if j ∈ rs then (if rs.idxOf j<m∨1≤(μ' (rs.idxOf j::p)).u then { μ' (rs.idxOf j::p) with u:=(μ' (rs.idxOf j::p)).u+δ (rs.idxOf j::p) } else μ (j::p)) else μ (j::p)
  |[]=>μ []
 have δ0:∀ {i:Nat} {p:Nm},i<m→δ (i::p)=0:=fun {i p} h=>if_pos h;have δ1:∀ {i:Nat} {p:Nm},¬ i<m→i<rs.length→δ (i::p)=(H (nm i p)).u:=fun {i p} h h'=>by
  show(if i<m then _ else _)=_;rw[if_neg h,if_pos h']
 have nmj:∀ {j:Nat} {p:Nm},j ∈ rs→nm (rs.idxOf j) p=j::p:=fun {j p} h=>by show rs.getD (rs.idxOf j) 0::p=_;rw[MT h]
 have app_in:∀ {j:Nat} {p:Nm},j ∈ rs→(Eff.fn rs (Gm rs m H Hr)).app H (j::p)=Gm rs m H Hr (j::p):=fun {j p} h=>by simp[Eff.app,h]
 have app_out:∀ {j:Nat} {p:Nm},j ∉ rs→(Eff.fn rs (Gm rs m H Hr)).app H (j::p)=H (j::p):=fun {j p} h=>by simp[Eff.app,h]
 have app_nil':(Eff.fn rs (Gm rs m H Hr)).app H []=H []:=rfl;have mu_in:∀ {j:Nat} {p:Nm},j ∈ rs→(rs.idxOf j<m∨1≤(μ' (rs.idxOf j::p)).u)→μ2 (j::p)={ μ' (rs.idxOf j::p) with u:=(μ' (rs.idxOf j::p)).u+δ (rs.idxOf j::p) }:=fun {j p} h h'=>by
  show(if j ∈ rs then _ else _)=_;rw[if_pos h,if_pos h']
 have mu_old:∀ {j:Nat} {p:Nm},j ∈ rs→¬ (rs.idxOf j<m∨1≤(μ' (rs.idxOf j::p)).u)→μ2 (j::p)=μ (j::p):=fun {j p} h h'=>by
  show(if j ∈ rs then _ else _)=_;rw[if_pos h,if_neg h']
 have mu_out:∀ {j:Nat} {p:Nm},j ∉ rs→μ2 (j::p)=μ (j::p):=fun {j p} h=>by
  show(if j ∈ rs then _ else _)=_;rw[if_neg h]
 have hle:MuLe μ μ2:=fun o=>by
  cases o with
  |nil=>exact⟨Ei _,fun _=>rfl⟩
  |cons j p=>
   by_cases hj:j ∈ rs
   ·by_cases hi:rs.idxOf j<m
    ·rw[mu_in hj (.inl hi),δ0 hi];have e:μc (rs.idxOf j::p)=μ (j::p):=by
      show(if rs.idxOf j<m then _ else _)=_;rw[if_pos hi,nmj hj]
     have:=hs'.mle (rs.idxOf j::p);change (μc (rs.idxOf j::p)).u≤_∧(_=(μc (rs.idxOf j::p)).u→_=μc (rs.idxOf j::p)) at this;rw[e] at this;exact⟨this.1,fun q=>by rw[← this.2 q];rfl⟩
    ·by_cases hu:1≤(μ' (rs.idxOf j::p)).u
     ·rw[mu_in hj (.inr hu),δ1 hi (idx_mem.2 hj),nmj hj,← hs.ver];exact⟨by simp,fun q=>by simp at q;omega⟩
     ·rw[mu_old hj (by omega)];exact⟨Ei _,fun _=>rfl⟩
   ·rw[mu_out hj];exact⟨Ei _,fun _=>rfl⟩
 have notM1:∀ {n:Nm} {b:Nat},Dv (μ n) (H n).ob=true→b=(μ n).b→(∀ j p,n=j::p→j ∉ rs)→¬ ∃ o,M1 o b:=fun {n b} hb e hn ⟨_,i,p,_,q1,q2,q3⟩=>by
  refine hs.apart n (nm i p) hb q2 (fun e'=>?_) (by rw[← e,q3]);refine hn _ _ e' ?_;have:i<rs.length:=by omega
  simp[List.getD,this]
 have hx:Ext I μ w I' μ2 w':=⟨fun b h=>hs'.old b h,fun b h=>hs'.kept.block b (hs.lt b h) (fun ⟨_,i,p,_,q1,q2,q3⟩=>(hs.own _ q2).1 (by rw[← q3];exact h)),hle⟩;have hμ2:∀ o,FG rs.length o→1≤(μ' o).u→μ2 (MB rs o)={ μ' o with u:=(μ' o).u+δ o }:=fun o ho h1=>by
  cases o with
  |nil=>exact ho.elim
  |cons i p=>
   have hi:i<rs.length:=ho;have e:=Jl hnd hi;have hmem:rs.getD i 0 ∈ rs:=idx_mem.1 (by rw[e];exact hi);show μ2 (rs.getD i 0::p)=_;rw[mu_in hmem (.inr (by rw[e];exact h1)),e]
 have oH:∀ {j:Nat} {p:Nm},j ∈ rs→(H' (rs.idxOf j::p))=Hr (rs.idxOf j::p):=fun {j p} h=>hH' _ _ (idx_mem.2 h);have own2:∀ {j:Nat} {p:Nm},j ∈ rs→Dv (μ2 (j::p)) (Gm rs m H Hr (j::p)).ob=true→Dv (μ' (rs.idxOf j::p)) (H' (rs.idxOf j::p)).ob=true∧(μ2 (j::p)).b=(μ' (rs.idxOf j::p)).b:=fun {j p} hj h=>by
  simp only[Gm,VOb.ren,P4] at h;by_cases hi:rs.idxOf j<m∨1≤(μ' (rs.idxOf j::p)).u
  ·rw[mu_in hj hi] at h ⊢;rw[oH hj];exact⟨by cases hq:(Hr (rs.idxOf j::p)).ob<;>rw[hq] at h<;>exact h,rfl⟩
  ·rcases hv (rs.idxOf j) p (by omega) (idx_mem.2 hj) with e | e
   ·rw[e] at h;cases h
   ·rw[← oH hj,← hs'.ver] at e;omega
 have own3:∀ {j:Nat} {p:Nm},j ∈ rs→Dv (μ2 (j::p)) (Gm rs m H Hr (j::p)).ob=true→(μ2 (j::p)).e=(μ' (rs.idxOf j::p)).e:=fun {j p} hj h=>by
  simp only[Gm,VOb.ren,P4] at h;by_cases hi:rs.idxOf j<m∨1≤(μ' (rs.idxOf j::p)).u
  ·rw[mu_in hj hi]
  ·rcases hv (rs.idxOf j) p (by omega) (idx_mem.2 hj) with e | e
   ·rw[e] at h;cases h
   ·rw[← oH hj,← hs'.ver] at e;omega
 have blk:∀ {i:Nat} {p:Nm},Dv (μ' (i::p)) (H' (i::p)).ob=true→¬ I' (μ' (i::p)).b∧(M1 (i::p) (μ' (i::p)).b∨w.heap.size≤(μ' (i::p)).b)∧(μ' (i::p)).b<w'.heap.size:=fun {i p} h=>hs'.own _ h;refine⟨μ2,hx,⟨?_,hs'.lt,fun b h=>hs'.old b (hs.old b h),fun b h=>?_,fun o=>?_,fun o=>?_,fun o o' k k' hne=>?_,fun o k=>?_,hs.mle.trans hle,fun o k=>?_,by subst hP;exact hs'.tab⟩,hrel.ren hr hμ2⟩
 ·have k1:=hs.kept;have k2:=hs'.kept;refine⟨k2.os.trans k1.os,k2.tape.trans k1.tape,k2.output.trans k1.output,Nat.le_trans k1.size k2.size,fun b hb hM=>?_⟩;refine(k2.block b (Nat.lt_of_lt_of_le hb k1.size) (fun ⟨_,i,p,_,q1,q2,q3⟩=>?_)).trans (k1.block b hb hM);rcases (hs.own _ q2).2.1 with g | g
  ·rw[← q3] at g;exact hM ⟨_,g⟩
  ·rw[← q3] at g;omega
 ·rcases hs'.new b h with g | g
  ·exact hs.new b g
  ·exact .inr (Nat.le_trans hs.kept.size g)
 ·cases o with
  |nil=>exact hs.ver []
  |cons j p=>
   by_cases hj:j ∈ rs
   ·rw[app_in hj];show _=(Hr (rs.idxOf j::p)).u+δ (rs.idxOf j::p);rw[← oH hj,← hs'.ver];by_cases hi:rs.idxOf j<m∨1≤(μ' (rs.idxOf j::p)).u
    ·rw[mu_in hj hi]
    ·rw[mu_old hj hi,δ1 (by omega) (idx_mem.2 hj),nmj hj,hs.ver];omega
   ·rw[app_out hj,mu_out hj];exact hs.ver _
 ·cases o with
  |nil=>exact OSim.keep hx (fun hb=>hs'.kept.block _ (hs.own _ hb).2.2 (notM1 hb rfl (fun j p e=>nomatch e))) (hs.ob [])
  |cons j p=>
   by_cases hj:j ∈ rs
   ·rw[app_in hj];by_cases hi:rs.idxOf j<m∨1≤(μ' (rs.idxOf j::p)).u
    ·rw[mu_in hj hi];have:=hs'.ob (rs.idxOf j::p);rw[oH hj] at this;exact this.ren (ho _ _ (idx_mem.2 hj)) hμ2 rfl
    ·rcases hv (rs.idxOf j) p (by omega) (idx_mem.2 hj) with e | e
     ·simp only[Gm,VOb.ren,e];trivial
     ·rw[← oH hj,← hs'.ver] at e;omega
   ·rw[app_out hj,mu_out hj];exact OSim.keep hx (fun hb=>hs'.kept.block _ (hs.own _ hb).2.2 (notM1 hb rfl (fun j' p' e=>by cases e;exact hj))) (hs.ob _)
 ·have cross:∀ {j:Nat} {p:Nm} {n:Nm},j ∈ rs→Dv (μ2 (j::p)) (Gm rs m H Hr (j::p)).ob=true→Dv (μ n) (H n).ob=true→(∀ j p,n=j::p→j ∉ rs)→(μ2 (j::p)).b ≠ (μ n).b:=fun {j p n} hj h h' hn e=>by
   obtain⟨q1,q2⟩:=own2 hj h;obtain⟨_,g,_⟩:=blk q1;rw[q2] at e;rcases g with g | g
   ·exact notM1 h' e hn ⟨_,g⟩
   ·have:=(hs.own _ h').2.2;omega
  cases o with
  |nil=>
   cases o' with
   |nil=>exact(hne rfl).elim
   |cons j' p'=>
    by_cases hj':j' ∈ rs
    ·rw[app_in hj'] at k';exact Ne.symm (cross hj' k' k (fun j p e=>nomatch e))
    ·rw[app_out hj',mu_out hj'] at k';rw[mu_out hj'];exact hs.apart _ _ k k' hne
  |cons j p=>
   by_cases hj:j ∈ rs
   ·rw[app_in hj] at k;cases o' with
    |nil=>exact cross hj k k' (fun j p e=>nomatch e)
    |cons j' p'=>
     by_cases hj':j' ∈ rs
     ·rw[app_in hj'] at k';obtain⟨q1,q2⟩:=own2 hj k;obtain⟨r1,r2⟩:=own2 hj' k';rw[q2,r2];refine hs'.apart _ _ q1 r1 (fun e=>hne ?_);have e1:rs.idxOf j=rs.idxOf j':=by injection e
      have e2:p=p':=by injection e
      rw[← MT hj,← MT hj',e1,e2]
     ·rw[app_out hj',mu_out hj'] at k';rw[mu_out hj'];exact cross hj k k' (fun j'' p'' e=>by cases e;exact hj')
   ·rw[app_out hj,mu_out hj] at k;rw[mu_out hj];cases o' with
    |nil=>exact hs.apart _ _ k k' hne
    |cons j' p'=>
     by_cases hj':j' ∈ rs
     ·rw[app_in hj'] at k';exact Ne.symm (cross hj' k' k (fun j'' p'' e=>by cases e;exact hj))
     ·rw[app_out hj',mu_out hj'] at k';rw[mu_out hj'];exact hs.apart _ _ k k' hne
 ·have far:∀ {n:Nm},Dv (μ n) (H n).ob=true→¬ I' (μ n).b∧(c.M0 n (μ n).b∨c.w0.heap.size≤(μ n).b)∧(μ n).b<w'.heap.size:=fun {n} h=>by
   obtain⟨g1,g2,g3⟩:=hs.own _ h;refine⟨fun h'=>?_,g2,Nat.lt_of_lt_of_le g3 hs'.kept.size⟩;rcases hs'.new _ h' with g | g
   ·exact g1 g
   ·exact absurd (show w.heap.size≤_ from g) (by omega)
  cases o with
  |nil=>exact far k
  |cons j p=>
   by_cases hj:j ∈ rs
   ·rw[app_in hj] at k;obtain⟨q1,q2⟩:=own2 hj k;rw[q2];obtain⟨g1,g2,g3⟩:=blk q1;refine⟨g1,?_,g3⟩;rcases g2 with ⟨i,p',r0,r1,r2,r3⟩ | g2
    ·have e1:rs.idxOf j=i:=by injection r0
     have e2:p=p':=by injection r0
     rw[← e1,← e2,nmj hj] at r2 r3;rw[r3];exact(hs.own _ r2).2.1
    ·exact .inr (Nat.le_trans hs.kept.size g2)
   ·rw[app_out hj,mu_out hj] at k;rw[mu_out hj];exact far k
 ·cases o with
  |nil=>exact hs.tag _ k
  |cons j p=>
   by_cases hj:j ∈ rs
   ·rw[app_in hj] at k;rw[own3 hj k];exact hs'.tag _ (own2 hj k).1
   ·rw[app_out hj,mu_out hj] at k;rw[mu_out hj];exact hs.tag _ k
end Go.G
