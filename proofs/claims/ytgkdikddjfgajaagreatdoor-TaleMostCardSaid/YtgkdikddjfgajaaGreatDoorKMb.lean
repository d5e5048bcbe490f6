/-
 Texts,merged,without what is not reached.
-/
import Derived.Test.YtgkdikddjfgajaaGreatDoorKMa
set_option linter.unusedSimpArgs false
set_option linter.unusedVariables false
open Go.IntKind (i64 u64)
namespace Go.G
open Go.RowKit
structure SR (c:Cx) (st:Sta) (a:Act) (w:World) (I:Nat→Prop) (μ:Mu):Prop where
 sim:Sim c w I μ st.H
 size:a.tmps.size=c.n
 defers:a.defers=c.ds
 rel:∀ t,Rel w I μ (st.s t) (a.tmps.getD t undef)
theorem SR.evs {c:Cx} {st:Sta} {a:Act} {w:World} {I:Nat→Prop} {μ:Mu} (h:SR c st a w I μ) (x:Operand):Rel w I μ (evs st.s x) (a.eval x):=by
 cases x with
 |tmp t=>exact h.rel t
 |const x=>exact Gu x
 |global g=>exact .v _ _
 |func f=>exact .fnc _ _ _ _ _ _ rfl (fun k y hk=>by simp at hk) rfl (fun k y hk=>by simp at hk)
theorem SR.put {c:Cx} {st:Sta} {a:Act} {w w':World} {I I':Nat→Prop} {μ μ':Mu} {H':Hp} (h:SR c st a w I μ) (hx:Ext I μ w I' μ' w') (hs:Sim c w' I' μ' H') {dst:Option Tmp} (hd:∀ d,dst=some d→d<c.n) {x:A} {v:Value} (hv:Rel w' I' μ' x v) :
  SR c (st.put dst x H') (a.put dst v) w' I' μ':=by
 cases dst with
 |none=>exact⟨hs,h.size,h.defers,fun t=>hx.rel (h.rel t)⟩
 |some d=>
  have hlt:=hd d rfl;refine⟨hs,by simp[Act.put,h.size],h.defers,fun t=>?_⟩;simp only[Sta.put,upd,Act.put];by_cases ht:t=d
  ·subst ht;rw[if_pos rfl];have:t<a.tmps.size:=by rw[h.size];exact hlt
   simpa[Array.getD_eq_getD_getElem?,this] using hv
  ·rw[if_neg ht];have e:(a.tmps.setIfInBounds d v).getD t undef=a.tmps.getD t undef:=by
    simp only[Array.getD_eq_getD_getElem?];rw[Array.getElem?_setIfInBounds_ne (Ne.symm ht)]
   rw[e];exact hx.rel (h.rel t)
def BG (a:A) (f:Bool):Option Bool:=
 match a with
 |.v (.bool b)=>some (b == f)
 |.v (.tuple _)=>some false
 |_=>none
def Jo (ops:Array Oper) (st:Sta) (o:Oper) (q:Bool):Prop:=
 match o.guard with
 |none=>q=true
 |some (j,f)=>∃ d,(ops[j]?).bind (·.dst)=some d∧BG (st.s d) f=some q
def gd (q:Bool) (x:A):A:=bif q then x else .v undef
structure Ft where
 R:Fp
 W:Fp
def nc (f g:Ft):Bool:=Wx f.W (g.R++g.W)&&Wx g.W (f.R++f.W)
theorem Zl {f g:Ft} (h:nc f g=true):nc g f=true:=by
 simp only[nc,Bool.and_eq_true] at h ⊢;exact⟨h.2,h.1⟩
def Cj (P:Program) (D:TypeId→Prop) (nms:Nat→Nm) (ops:Array Oper) (i:Nat) (o:Oper) (st:Sta) (x:A) (E:Eff) (f:Ft):Prop:=
 ∃ (q:Bool) (x0:A),Jo ops st o q∧(q=true→Sh P D (nms i) o.op (evs st.s) st.H x0 E f.R f.W)∧x=gd q x0∧(q=false→E = .nil∧f.R=[]∧f.W=[])
abbrev Lg:=List (Nat × Ft)
def S5 (need:Nat→Nat→Bool) (lg:Lg) (i:Nat) (f:Ft):Prop:=∀ p,p ∈ lg→need p.1 i=true→nc p.2 f=true
def UW (P:Program) (D:TypeId→Prop) (nms:Nat→Nm) (need:Nat→Nat→Bool) (ops:Array Oper) (K:Sta→Prop):List Oper→Nat→Lg→Sta→Prop
 |[],_,_,st=>K st
 |o::rest,i,lg,st=>∃ x E f,Cj P D nms ops i o st x E f∧S5 need lg i f∧UW P D nms need ops K rest (i+1) ((i,f)::lg) (st.put o.dst x (E.app st.H))
def Fy (n:Nat) (ops:Array Oper):Bool:=ops.all fun o=>match o.dst with
 |some d=>Nat.blt d n
 |none=>true
theorem G8 {n:Nat} {ops:Array Oper} (h:Fy n ops=true) {i:Nat} {o:Oper} (ho:ops[i]? = some o):∀ d,o.dst=some d→d<n:=by
 intro d hd;simp only[Fy,Array.all_eq_true] at h;obtain⟨hi,he⟩:=Array.getElem?_eq_some_iff.1 ho;have:=h i hi;rw[he,hd] at this;simpa[Nat.blt_eq] using this
theorem Gw {ops:Array Oper} {c:Cx} {st:Sta} {a:Act} {w:World} {I:Nat→Prop} {μ:Mu} (h:SR c st a w I μ) (hd:Fy c.n ops=true) {o:Oper} {q:Bool} (hg:Jo ops st o q):Region.wanted o (yielded ops a.tmps)=q:=by
 unfold Jo at hg;unfold Region.wanted;cases hgd:o.guard with
 |none=>simp only[hgd] at hg ⊢; exact hg.symm
 |some p=>
  obtain⟨j,f⟩:=p;simp only[hgd] at hg ⊢;obtain⟨d,h1,h2⟩:=hg;have hr:=h.rel d;have hlt:d<a.tmps.size:=by
   rw[h.size];cases hj:ops[j]? with
   |none=>simp[hj] at h1
   |some oj=>simp[hj] at h1;exact G8 hd hj d h1
  unfold BG at h2;split at h2
  ·rename_i b hb;cases h2;rw[hb] at hr;generalize hu:a.tmps.getD d undef=u at hr;cases hr;have ht:a.tmps[d]? = some (.bool b):=by
    simp[Array.getD_eq_getD_getElem?,hlt] at hu;simp[hlt,hu]
   have:yielded ops a.tmps j=some b:=by
    unfold yielded;simp only[h1,Option.bind_some,ht]
   rw[this];cases b<;>cases f<;>rfl
  ·rename_i vs hb;cases h2;rw[hb] at hr;generalize hu:a.tmps.getD d undef=u at hr;cases hr;have ht:a.tmps[d]? = some (.tuple vs):=by
    simp[Array.getD_eq_getD_getElem?,hlt] at hu;simp[hlt,hu]
   have:yielded ops a.tmps j=none:=by
    unfold yielded;simp only[h1,Option.bind_some,ht]
   rw[this];rfl
  ·cases h2
theorem LV {c:Cx} {st:Sta} {a:Act} {w:World} {I:Nat→Prop} {μ:Mu} (h:SR c st a w I μ) {o:Oper} (hd:∀ d,o.dst=some d→d<c.n) {nm:Nm} {x:A} {E:Eff} {R W:Fp} (ho:Sh c.P c.die nm o.op (evs st.s) st.H x E R W)
  {K:Act→World→Prop} {Q:Exit→Act→World→Prop} (hD:∀ t w',c.die t→Kept c.Mb c.w0 w'→Q (.panic [LH t]) a w') (hK:∀ a' w' I' μ',SR c (st.put o.dst x (E.app st.H)) a' w' I' μ'→K a' w'):o.wp c.P a w K Q:=by
 have hr:=Sb h.sim (h.evs) (fun _=>rfl) ho;unfold Oper.wp;generalize (execOp a.eval o).run c.P w=r at hr;cases r with
 |halt e w'=>exact hr.elim
 |ok nx w'=>
  cases nx<;>simp only[ROK] at hr<;>first | exact hr.elim | skip
  case value v=>
   obtain⟨I',μ',h1,h2,h3⟩:=hr;exact hK _ _ I' μ' (h.put h1 h2 hd h3)
  case skip=>
   obtain⟨I',μ',h1,h2,rfl⟩:=hr;exact hK _ _ I' μ' (h.put h1 h2 hd (.any _ _))
  case enter f args=>
   obtain⟨rfl,hc⟩:=hr;exact hc.mono fun e w'' hh=>by
    rcases hh with ⟨v,he,I',μ',h1,h2,h3⟩ | ⟨t,h1,he,h2⟩
    ·subst he;exact hK _ _ I' μ' (h.put h1 h2 hd h3)
    ·subst he;exact hD t w'' h1 h2
theorem Jh {c:Cx} {st:Sta} {a:Act} {w:World} {I:Nat→Prop} {μ:Mu} (h:SR c st a w I μ) {dst:Option Tmp} (hd:∀ d,dst=some d→d<c.n):SR c (st.put dst (.v undef) st.H) (a.put dst undef) w I μ:=
 h.put (Ext.refl _ _ _) h.sim hd (.v _ _)
theorem RZ {c:Cx} {nms:Nat→Nm} {need:Nat→Nat→Bool} {ops:Array Oper} {K:Sta→Prop} {Q:Exit→Act→World→Prop} (hd:Fy c.n ops=true) (hD:∀ t a w',c.die t→a.defers=c.ds→Kept c.Mb c.w0 w'→Q (.panic [LH t]) a w') (hQ:∀ st a w I μ,SR c st a w I μ→K st→Q .normal a w) :
  ∀ (l:List Oper) (k:Nat) (lg:Lg) (st:Sta) (a:Act) (w:World) (I:Nat→Prop) (μ:Mu),(∀ j,l[j]? = ops[k+j]?)→SR c st a w I μ→UW c.P c.die nms need ops K l k lg st→wpOps c.P ops Q (List.range' k l.length) a w
 |[],k,lg,st,a,w,I,μ,_,h,hs=>hQ st a w I μ h hs
 |o::l,k,lg,st,a,w,I,μ,hl,h,hs=>by
  obtain⟨x,E,f,⟨q,x0,hg,h1,rfl,h2⟩,_,hs⟩:=hs;have h0:ops[k]? = some o:=by simpa using (hl 0).symm
  have hw:=Gw h hd hg;have hdst:=G8 hd h0;have next:∀ a' w' I' μ',SR c (st.put o.dst (gd q x0) (E.app st.H)) a' w' I' μ'→wpOps c.P ops Q (List.range' (k+1) l.length) a' w':=fun a' w' I' μ' h'=>
   RZ hd hD hQ l (k+1) _ _ a' w' I' μ' (fun j=>by have:=hl (j+1);simpa[Nat.add_assoc,Nat.add_comm 1 j] using this) h' hs
  simp only[List.length_cons,List.range'_succ,wpOps,h0,hw];cases q with
  |true=>
   rw[if_pos rfl];exact .inl (LV h hdst (h1 rfl) (fun t w' e k'=>hD t a w' e h.defers k') next)
  |false=>
   rw[if_neg (by simp)];obtain⟨rfl,_,_⟩:=h2 rfl;exact next _ _ I μ (Jh h hdst)
section
variable {P:Program} {D:TypeId→Prop} {nms:Nat→Nm} {need:Nat→Nat→Bool} {ops:Array Oper} {md:Region.Mode}
def Hd (P:Program) (D:TypeId→Prop) (nms:Nat→Nm) (need:Nat→Nat→Bool) (ops:Array Oper) (i:Nat) (K:Lg→Sta→Prop) (lg:Lg) (st:Sta):Prop:=
 match ops[i]? with
 |none=>K lg st
 |some o=>∃ x E f,Cj P D nms ops i o st x E f∧S5 need lg i f∧K ((i,f)::lg) (st.put o.dst x (E.app st.H))
def X5 (P:Program) (D:TypeId→Prop) (nms:Nat→Nm) (need:Nat→Nat→Bool) (md:Region.Mode) (ops:Array Oper) (K:Sta→Prop):Nat→Array Bool→Lg→Sta→Prop
 |0,listed,lg,st=>Region.ready md ops listed=[]∧K st
 |fuel+1,listed,lg,st=>(Region.ready md ops listed=[]→K st)∧∀ i ∈ Region.ready md ops listed,Hd P D nms need ops i (X5 P D nms need md ops K fuel (listed.setIfInBounds i true)) lg st
theorem Wg {i:Nat} {lg:Lg} {st:Sta} {K K':Lg→Sta→Prop} (h:∀ lg st,K lg st→K' lg st) (hh:Hd P D nms need ops i K lg st):Hd P D nms need ops i K' lg st:=by
 unfold Hd at *;split
 ·exact h _ _ (by simpa[*] using hh)
 ·rename_i o ho;simp only[ho] at hh;obtain⟨x,E,f,h1,h2,h3⟩:=hh;exact⟨x,E,f,h1,h2,h _ _ h3⟩
def Same (lg lg':Lg):Prop:=∀ p,p ∈ lg ↔ p ∈ lg'
theorem Same.cons {lg lg':Lg} (h:Same lg lg') (p:Nat × Ft):Same (p::lg) (p::lg'):=fun q=>by simp[h q]
theorem NC {K:Sta→Prop}:∀ (fuel:Nat) (listed:Array Bool) {lg lg':Lg} {st:Sta},Same lg lg'→X5 P D nms need md ops K fuel listed lg st→X5 P D nms need md ops K fuel listed lg' st
 |0,_,_,_,_,_,h=>h
 |fuel+1,listed,lg,lg',st,hs,h=>⟨h.1,fun i hi=>by
   have h1:=h.2 i hi;unfold Hd at *;split
   ·rename_i ho;simp only[ho] at h1;exact NC fuel _ hs h1
   ·rename_i o ho;simp only[ho] at h1;obtain⟨x,E,f,h2,h3,h4⟩:=h1;exact⟨x,E,f,h2,fun p hp hn=>h3 p ((hs p).2 hp) hn,NC fuel _ (hs.cons _) h4⟩⟩
theorem Kr {c:Cx} {K:Sta→Prop} {Q:Exit→Act→World→Prop} (hd:Fy c.n ops=true) (hD:∀ t a w',c.die t→a.defers=c.ds→Kept c.Mb c.w0 w'→Q (.panic [LH t]) a w') (hQ:∀ st a w I μ,SR c st a w I μ→K st→Q .normal a w) :
  ∀ (fuel:Nat) (listed:Array Bool) (lg:Lg) (st:Sta) (a:Act) (w:World) (I:Nat→Prop) (μ:Mu),SR c st a w I μ→X5 c.P c.die nms need md ops K fuel listed lg st→wpAny c.P md ops Q fuel listed a w
 |0,_,_,st,a,w,I,μ,h,hs=>⟨hs.1,hQ st a w I μ h hs.2⟩
 |fuel+1,listed,lg,st,a,w,I,μ,h,hs=>by
  refine⟨fun h0=>hQ st a w I μ h (hs.1 h0),fun i hi=>?_⟩;have h1:=hs.2 i hi;unfold Hd at h1;unfold wpOp;split
  ·rename_i ho;simp only[ho] at h1;exact Kr hd hD hQ fuel _ _ st a w I μ h h1
  ·rename_i o ho;simp only[ho] at h1;obtain⟨x,E,f,⟨q,x0,hg,h2,rfl,h3⟩,_,hk⟩:=h1;have hw:=Gw h hd hg;have hdst:=G8 hd ho;cases q with
   |true=>
    rw[hw,if_pos rfl];exact .inl (LV h hdst (h2 rfl) (fun t w' e k'=>hD t a w' e h.defers k') (fun a' w' I' μ' h'=>Kr hd hD hQ fuel _ _ _ a' w' I' μ' h' hk))
   |false=>
    rw[hw,if_neg (by simp)];obtain⟨rfl,_,_⟩:=h3 rfl;exact Kr hd hD hQ fuel _ _ _ _ _ I μ (Jh h hdst) hk
theorem Zi {o:Oper} {st:Sta} {dst:Option Tmp} {x:A} {H:Hp} (h:∀ d,dst=some d→d ∉ o.looksAt ops):∀ z ∈ o.op.operands,evs (st.put dst x H).s z=evs st.s z:=by
 intro z hz;cases dst with
 |none=>rfl
 |some d=>
  cases z with
  |tmp t=>
   have:t ≠ d:=fun e=>h d rfl (by subst e;exact List.mem_append_left _ (List.mem_filterMap.2 ⟨.tmp t,by simpa using hz,rfl⟩));simp[evs,Sta.put,upd,this]
  |const x=>rfl
  |global g=>rfl
  |func f=>rfl
theorem RX {o:Oper} {st:Sta} {dst:Option Tmp} {x:A} {H:Hp} {q:Bool} (h:∀ d,dst=some d→d ∉ o.looksAt ops):Jo ops (st.put dst x H) o q ↔ Jo ops st o q:=by
 cases dst with
 |none=>rfl
 |some d=>
  unfold Jo;cases hg:o.guard with
  |none=>rfl
  |some p=>
   obtain⟨j,f⟩:=p;constructor
   ·rintro⟨d',h1,h2⟩;have:d' ≠ d:=fun e=>h d rfl (by subst e;simp[Oper.looksAt,hg,h1]);refine⟨d',h1,?_⟩;simpa[Sta.put,upd,this] using h2
   ·rintro⟨d',h1,h2⟩;have:d' ≠ d:=fun e=>h d rfl (by subst e;simp[Oper.looksAt,hg,h1]);refine⟨d',h1,?_⟩;simpa[Sta.put,upd,this] using h2
theorem SK {i:Nat} {o:Oper} {st st':Sta} {x:A} {E:Eff} {f:Ft} (hg:∀ q,Jo ops st' o q ↔ Jo ops st o q) (he:∀ z ∈ o.op.operands,evs st'.s z=evs st.s z) (hH:Agree (f.R++f.W) st.H st'.H)
  (h:Cj P D nms ops i o st x E f):Cj P D nms ops i o st' x E f:=by
 obtain⟨q,x0,h1,h2,h3,h4⟩:=h;exact⟨q,x0,(hg q).2 h1,fun hq=>aH (fun z hz=>(he z hz).symm) (ZT (h2 hq) hH),h3,h4⟩
theorem Ou {i:Nat} {o:Oper} {st:Sta} {x:A} {E:Eff} {f:Ft} (h:Cj P D nms ops i o st x E f):LU E f.W:=by
 obtain⟨q,x0,h1,h2,h3,h4⟩:=h;cases q with
 |true=>exact dD (h2 rfl)
 |false=>obtain⟨rfl,_,_⟩:=h4 rfl;exact Er _
theorem YN {st:Sta} {d:Option Tmp} {x:A} {H:Hp}:(st.put d x H).H=H:=by cases d<;>rfl
theorem fC (E:Eff) {H H':Hp} {o:Nm} (h:H o=H' o):E.app H o=E.app H' o:=by
 cases E with
 |nil=>exact h
 |one d x=>simp only[Hn,Ar];rw[h]
 |fn rs F=>
  simp only[Eff.app];cases o with
  |nil=>exact h
  |cons r p=>simp only;rw[h]
theorem jm {E1 E2:Eff} {f g:Ft} (h1:LU E1 f.W) (h2:LU E2 g.W) (hn:nc f g=true) (H:Hp):E2.app (E1.app H)=E1.app (E2.app H):=by
 funext o;simp only[nc,Bool.and_eq_true,Nw] at hn;cases ha:Ug f.W o with
 |false=>
  rw[h1 o _ ha];exact fC E2 (h1 o H ha)
 |true=>
  have hb:Ug g.W o=false:=by
   cases hb:Ug g.W o with
   |false=>rfl
   |true=>exact(UD hn.1.2 ha hb).elim
  rw[h2 o _ hb];exact(fC E1 (h2 o H hb)).symm
theorem RV {E:Eff} {f g:Ft} (h:LU E f.W) (hn:nc f g=true) (H:Hp):Agree (g.R++g.W) H (E.app H):=fun o ho=>h o H (by
 simp only[nc,Bool.and_eq_true] at hn;cases ha:Ug f.W o with
 |false=>rfl
 |true=>exact(UD hn.1 ha ho).elim)
theorem jg {st:Sta} {d e:Option Tmp} {x y:A} {H1 H2 H3:Hp} (h:∀ k,d=some k→e ≠ some k):(st.put d x H1).put e y H3=(st.put e y H2).put d x H3:=by
 cases d with
 |none=>cases e<;>rfl
 |some d=>
  cases e with
  |none=>rfl
  |some e=>
   have hne:d ≠ e:=fun he=>h d rfl (by rw[he]);simp only[Sta.put,Sta.mk.injEq,and_true];funext t;simp only[upd];by_cases h1:t=e<;>by_cases h2:t=d<;>simp_all
theorem XL {i j:Nat} {oi oj:Oper} {x:A} {E:Eff} {f:Ft} {lg:Lg} (hj:ops[j]? = some oj) (hap:oi.apart ops oj=true) (hneed:∀ g y E' st',Cj P D nms ops j oj st' y E' g→(need i j=true→nc f g=true)→nc f g=true) (hsym:need i j=need j i)
  {K:Lg→Sta→Prop} {st:Sta} (hy:Cj P D nms ops i oi st x E f) (hlg:S5 need lg i f) (h:Hd P D nms need ops j K ((i,f)::lg) (st.put oi.dst x (E.app st.H))) :
  Hd P D nms need ops j (fun lg' st'=>∃ g,lg'=(j,g)::lg∧Cj P D nms ops i oi st' x E f∧S5 need lg' i f∧K ((j,g)::(i,f)::lg) (st'.put oi.dst x (E.app st'.H))) lg st:=by
 obtain⟨h1,h2,h3⟩:=Oper.apart_spec hap;unfold Hd at *;simp only[hj] at *;obtain⟨y,E2,g,hyj,hck,hK⟩:=h;have hnc:nc f g=true:=hneed g y E2 _ hyj (fun hn=>hck (i,f) (by simp) hn);have s1:=Ou hy;have s2:=Ou hyj;rw[YN] at hK;have hyj':Cj P D nms ops j oj st y E2 g:=SK (fun q=>(RX h1).symm) (fun z hz=>(Zi h1 z hz).symm) (by
  rw[YN];intro o ho;exact(RV s1 hnc st.H o ho).symm) hyj
 have hy':Cj P D nms ops i oi (st.put oj.dst y (E2.app st.H)) x E f:=SK (fun q=>RX h3) (fun z hz=>Zi h3 z hz) (by
  rw[YN];exact RV s2 (Zl hnc) st.H) hy
 refine⟨y,E2,g,hyj',fun p hp hn=>hck p (List.mem_cons_of_mem _ hp) hn,g,rfl,hy',fun p hp hn=>?_,?_⟩
 ·rcases List.mem_cons.1 hp with rfl | hp
  ·exact Zl hnc
  ·exact hlg p hp hn
 ·rw[YN,← jg (H1:=E.app st.H) h2,← jm s1 s2 hnc];exact hK
def Q2 (ops:Array Oper) (i j:Nat):Bool:=
 match ops[i]?,ops[j]? with
 |some a,some b=>!(KW a.op == 0 || KW b.op == 0 || (KW a.op≤1&&KW b.op≤1))
 |_,_=>false
theorem Yp {i j:Nat}:Q2 ops i j=Q2 ops j i:=by
 unfold Q2;cases ops[i]?<;>cases ops[j]?<;>simp[Bool.or_comm,Bool.and_comm]
theorem N8 {i:Nat} {o:Oper} {st:Sta} {x:A} {E:Eff} {f:Ft} (hc:KW o.op=0) (h:Cj P D nms ops i o st x E f):f.R=[]∧f.W=[]:=by
 obtain⟨q,x0,h1,h2,h3,h4⟩:=h;cases q with
 |true=>exact VN hc (h2 rfl)
 |false=>exact(h4 rfl).2
theorem N5 {i:Nat} {o:Oper} {st:Sta} {x:A} {E:Eff} {f:Ft} (hc:KW o.op≤1) (h:Cj P D nms ops i o st x E f):f.W=[]:=by
 obtain⟨q,x0,h1,h2,h3,h4⟩:=h;cases q with
 |true=>exact ep hc (h2 rfl)
 |false=>exact(h4 rfl).2.2
theorem HD {l:Fp}:Wx l []=true:=by simp[Wx]
theorem Gv {l:Fp}:Wx [] l=true:=by simp[Wx]
theorem kF {i j:Nat} {a b:Oper} {st st':Sta} {x y:A} {E E':Eff} {f g:Ft} (ha:ops[i]? = some a) (hb:ops[j]? = some b) (hy:Cj P D nms ops i a st x E f) (hz:Cj P D nms ops j b st' y E' g) (h:Q2 ops i j=true→nc f g=true):nc f g=true:=by
 cases hn:Q2 ops i j with
 |true=>exact h hn
 |false=>
  unfold Q2 at hn;rw[ha,hb] at hn;simp only[Bool.not_eq_false',Bool.or_eq_true,beq_iff_eq,Bool.and_eq_true,decide_eq_true_eq] at hn;rcases hn with (h0 | h0) | ⟨h1,h2⟩
  ·obtain⟨e1,e2⟩:=N8 h0 hy;simp[nc,e1,e2,HD,Gv]
  ·obtain⟨e1,e2⟩:=N8 h0 hz;simp[nc,e1,e2,HD,Gv]
  ·have e1:=N5 h1 hy;have e2:=N5 h2 hz;simp[nc,e1,e2,Gv]
inductive Uo (md:Region.Mode) (ops:Array Oper):Nat→Nat→Prop
 |base {j:Nat} {o:Oper} {e:Edge}:ops[j]? = some o→e ∈ o.after→Region.binds md e=true→Uo md ops e.on j
 |step {i j:Nat} {o:Oper} {e:Edge}:ops[j]? = some o→e ∈ o.after→Region.binds md e=true→Uo md ops i e.on→Uo md ops i j
def Closed (md:Region.Mode) (ops:Array Oper) (listed:Array Bool):Prop:=∀ m o,ops[m]? = some o→listed.getD m false=true→∀ e ∈ o.after,Region.binds md e=true→listed.getD e.on false=true
theorem Closed.ord {listed:Array Bool} (hc:Closed md ops listed) {i j:Nat} (h:Uo md ops i j):listed.getD j false=true→listed.getD i false=true:=by
 induction h with
 |base ho he hb=>exact fun h=>hc _ _ ho h _ he hb
 |step ho he hb _ ih=>exact fun h=>ih (hc _ _ ho h _ he hb)
theorem Closed.ready {listed:Array Bool} (hc:Closed md ops listed) {i j:Nat} (hj:j ∈ Region.ready md ops listed) (h:Uo md ops i j):listed.getD i false=true:=by
 obtain⟨_,oj,hoj,hall⟩:=mem_ready.1 hj;cases h with
 |base ho he hb=>rw[hoj] at ho;cases ho;exact hall _ he hb
 |step ho he hb hi=>rw[hoj] at ho;cases ho;exact hc.ord hi (hall _ he hb)
theorem Closed.add {listed:Array Bool} (hc:Closed md ops listed) {i:Nat} (hi:i ∈ Region.ready md ops listed):Closed md ops (listed.setIfInBounds i true):=by
 obtain⟨_,oi,hoi,hall⟩:=mem_ready.1 hi;intro m o ho hm e he hb;have keep:∀ k,listed.getD k false=true→(listed.setIfInBounds i true).getD k false=true:=fun k hk=>by
  by_cases hik:i=k
  ·subst hik;simp only[Array.getD_eq_getD_getElem?] at hk ⊢;rw[Array.getElem?_setIfInBounds];split
   ·split
    ·rfl
    ·rename_i h1;rw[Array.getElem?_eq_none (by omega)] at hk;cases hk
   ·exact hk
  ·rw[getD_set_ne false hik];exact hk
 by_cases hmi:i=m
 ·subst hmi;rw[hoi] at ho;cases ho;exact keep _ (hall e he hb)
 ·rw[getD_set_ne false hmi] at hm;exact keep _ (hc m o ho hm e he hb)
theorem Ss {listed:Array Bool} {i:Nat} (h:listed.getD i true=false):listed.getD i false=false:=by
 simp only[Array.getD_eq_getD_getElem?] at h ⊢;cases hq:listed[i]?<;>simp_all
def W3 (md:Region.Mode) (o:Oper) (acc:List Nat):Nat:=o.after.toList.foldr (fun e m=>if Region.binds md e=true then m ||| (1 <<< e.on) ||| acc.getD e.on 0 else m) 0
def UA (md:Region.Mode):List Oper→List Nat→List Nat
 |[],acc=>acc
 |o::l,acc=>UA md l (acc++[W3 md o acc])
theorem X9 {o:Oper} {acc:List Nat} {i:Nat} (h:(W3 md o acc).testBit i=true):∃ e,e ∈ o.after∧Region.binds md e=true∧(e.on=i∨(acc.getD e.on 0).testBit i=true):=by
 unfold W3 at h;have:∀ l:List Edge,(l.foldr (fun e m=>if Region.binds md e=true then m ||| (1 <<< e.on) ||| acc.getD e.on 0 else m) 0).testBit i=true→∃ e,e ∈ l∧Region.binds md e=true∧(e.on=i∨(acc.getD e.on 0).testBit i=true):=by
  intro l;induction l with
  |nil=>intro h;simp at h
  |cons e l ih=>
   intro h;simp only[List.foldr_cons] at h;split at h
   ·rename_i hb;simp only[Nat.testBit_or,Bool.or_eq_true] at h;rcases h with (h | h) | h
    ·obtain⟨e',h1,h2⟩:=ih h;exact⟨e',List.mem_cons_of_mem _ h1,h2⟩
    ·refine⟨e,by simp,hb,.inl ?_⟩;rw[Nat.one_shiftLeft,Nat.testBit_two_pow] at h;simpa using h
    ·exact⟨e,by simp,hb,.inr h⟩
   ·obtain⟨e',h1,h2⟩:=ih h;exact⟨e',List.mem_cons_of_mem _ h1,h2⟩
 obtain⟨e,h1,h2⟩:=this _ h;exact⟨e,by simpa using h1,h2⟩
theorem OS:∀ (l:List Oper) (acc:List Nat),(∀ k,l[k]? = ops[acc.length+k]?)→(∀ i j,(acc.getD j 0).testBit i=true→Uo md ops i j)→∀ i j,((UA md l acc).getD j 0).testBit i=true→Uo md ops i j
 |[],acc,_,h=>h
 |o::l,acc,hl,h=>by
  unfold UA;refine OS l _ (fun k=>by have:=hl (k+1);simpa[Nat.add_assoc,Nat.add_comm 1 k] using this) (fun i j hj=>?_);have h0:ops[acc.length]? = some o:=by simpa using (hl 0).symm
  rcases Nat.lt_trichotomy j acc.length with hlt | rfl | hgt
  ·rw[List.getD_eq_getElem?_getD,List.getElem?_append_left hlt,← List.getD_eq_getElem?_getD] at hj;exact h i j hj
  ·rw[List.getD_eq_getElem?_getD,List.getElem?_append_right (CE _)] at hj;simp only[Nat.sub_self,List.getElem?_cons_zero,Option.getD_some] at hj;obtain⟨e,h1,h2,h3 | h3⟩:=X9 hj
   ·subst h3;exact .base h0 h1 h2
   ·exact .step h0 h1 h2 (h i e.on h3)
  ·rw[List.getD_eq_getElem?_getD,List.getElem?_eq_none (by simp;omega)] at hj;simp at hj
def OW (ms:List Nat) (i j:Nat):Bool:=(ms.getD j 0).testBit i
def OC (ops:Array Oper) (ms:List Nat) (i j:Nat):Bool:=Q2 ops i j&&!OW ms i j&&!OW ms j i
theorem W0 {ms:List Nat} {i j:Nat}:OC ops ms i j=OC ops ms j i:=by
 unfold OC;rw[Yp,Bool.and_assoc,Bool.and_comm (!OW ms i j),← Bool.and_assoc]
theorem aR {K:Sta→Prop} {i:Nat} {oi:Oper} (hi:ops[i]? = some oi) {f:Ft} :
  ∀ (fuel:Nat) (listed:Array Bool) (lg:Lg) (st:Sta) (x:A) (E:Eff),
   Closed md ops listed→(∀ j oj,ops[j]? = some oj→j ≠ i→listed.getD j true=false→¬ Uo md ops i j→¬ Uo md ops j i→oi.apart ops oj=true∧need i j=need j i∧(∀ g y E' st',Cj P D nms ops j oj st' y E' g→(need i j=true→nc f g=true)→nc f g=true)) →
   i ∈ Region.ready md ops listed→Cj P D nms ops i oi st x E f→S5 need lg i f →
   X5 P D nms need md ops K fuel (listed.setIfInBounds i true) ((i,f)::lg) (st.put oi.dst x (E.app st.H))→X5 P D nms need md ops K (fuel+1) listed lg st:=by
 have self:∀ {lg:Lg} {st:Sta} {x:A} {E:Eff} {K':Lg→Sta→Prop},Cj P D nms ops i oi st x E f→S5 need lg i f→K' ((i,f)::lg) (st.put oi.dst x (E.app st.H))→Hd P D nms need ops i K' lg st:=fun hy ha h=>by
  unfold Hd;simp only[hi];exact⟨_,_,_,hy,ha,h⟩
 intro fuel;induction fuel with
 |zero=>
  intro listed lg st x E _ _ hr hy ha H;refine⟨fun h=>(by rw[h] at hr;cases hr),fun j hj=>?_⟩;by_cases hji:j=i
  ·subst hji;exact self hy ha H
  ·have:=ready_mono hj hji;rw[H.1] at this;cases this
 |succ fuel ih=>
  intro listed lg st x E hcl hfree hr hy ha H;refine⟨fun h=>(by rw[h] at hr;cases hr),fun j hj=>?_⟩;by_cases hji:j=i
  ·subst hji;exact self hy ha H
  ·have h1:=H.2 j (ready_mono hj hji);obtain⟨hjun,oj,hoj,hall⟩:=mem_ready.1 hj;have hun:listed.getD i true=false:=(mem_ready.1 hr).1;have no1:¬ Uo md ops i j:=fun h=>by have:=hcl.ready hj h;rw[Ss hun] at this;cases this
   have no2:¬ Uo md ops j i:=fun h=>by have:=hcl.ready hr h;rw[Ss hjun] at this;cases this
   obtain⟨hap,hsy,hnd⟩:=hfree j oj hoj hji hjun no1 no2;have h2:=XL hoj hap hnd hsy hy ha h1;have hfree':∀ k ok,ops[k]? = some ok→k ≠ i→(listed.setIfInBounds j true).getD k true=false →
     ¬ Uo md ops i k→¬ Uo md ops k i→oi.apart ops ok=true∧need i k=need k i∧(∀ g y E' st',Cj P D nms ops k ok st' y E' g→(need i k=true→nc f g=true)→nc f g=true):=fun k ok hk hki hun hno1 hno2=>by
    refine hfree k ok hk hki ?_ hno1 hno2;by_cases hjk:j=k
    ·subst hjk;exact hjun
    ·rw[getD_set_ne true hjk] at hun;exact hun
   refine Wg (fun lg' st' ⟨g,e,h3,h4,h5⟩=>ih (listed.setIfInBounds j true) lg' st' x E (hcl.add hj) hfree' (ready_mono hr (Ne.symm hji)) h3 h4 ?_) h2;subst e;rw[Array.setIfInBounds_comm _ _ hji];exact NC fuel _ (fun p=>by simp only[List.mem_cons];exact⟨fun h=>h.elim (fun h=>.inr (.inl h)) (fun h=>h.elim .inl (fun h=>.inr (.inr h))),fun h=>h.elim (fun h=>.inr (.inl h)) (fun h=>h.elim .inl (fun h=>.inr (.inr h)))⟩) h5
def eT (md:Region.Mode) (ops:Array Oper) (ms:List Nat) (listed:Array Bool) (i:Nat):Bool:=
 match ops[i]? with
 |none=>false
 |some oi=>(List.range ops.size).all fun j=>j == i || listed.getD j true || OW ms i j || OW ms j i || match ops[j]? with
   |some oj=>oi.apart ops oj
   |none=>true
theorem WN {ms:List Nat} (hms:∀ i j,OW ms i j=true→Uo md ops i j) {i:Nat} {oi:Oper} {listed:Array Bool} (hi:ops[i]? = some oi) (h:eT md ops ms listed i=true) (j:Nat) (oj:Oper)
  (hj:ops[j]? = some oj) (hne:j ≠ i) (hun:listed.getD j true=false) (h1:¬ Uo md ops i j) (h2:¬ Uo md ops j i) :
  oi.apart ops oj=true:=by
 simp only[eT,hi,List.all_eq_true,List.mem_range] at h;have:=h j (Array.getElem?_eq_some_iff.1 hj).1;simp only[hj,hun,Bool.or_eq_true,beq_iff_eq,hne,Bool.false_eq_true,or_false,false_or,Bool.and_eq_true] at this;rcases this with (h3 | h3) | h3
 ·exact(h1 (hms _ _ h3)).elim
 ·exact(h2 (hms _ _ h3)).elim
 ·exact h3
def J3 (md:Region.Mode) (ops:Array Oper) (ms:List Nat):Nat→Nat→Array Bool→Bool
 |0,_,listed=>(Region.ready md ops listed).isEmpty
 |fuel+1,k,listed=>(Region.ready md ops listed).contains k&&eT md ops ms listed k&&J3 md ops ms fuel (k+1) (listed.setIfInBounds k true)
def pg (ops:Array Oper) (ms:List Nat):Bool:=J3 .any ops ms ops.size 0 (Array.replicate ops.size false)
theorem YO {ms:List Nat} (hms:∀ i j,OW ms i j=true→Uo md ops i j) {K:Sta→Prop}:∀ (l:List Oper) (k:Nat) (listed:Array Bool) (lg:Lg) (st:Sta),Closed md ops listed→(∀ j,l[j]? = ops[k+j]?) →
  J3 md ops ms l.length k listed=true→UW P D nms (OC ops ms) ops K l k lg st→X5 P D nms (OC ops ms) md ops K l.length listed lg st
 |[],_,_,_,_,_,_,hB,h=>⟨by simpa[J3] using hB,h⟩
 |o::l,k,listed,lg,st,hcl,hl,hB,h=>by
  have h0:ops[k]? = some o:=by simpa using (hl 0).symm
  simp only[List.length_cons,J3,Bool.and_eq_true] at hB;obtain⟨⟨hr,hf⟩,hB'⟩:=hB;have hr:k ∈ Region.ready md ops listed:=by simpa using hr
  obtain⟨x,E,f,hy,ha,hK⟩:=h;exact aR h0 l.length listed lg st x E hcl (fun j oj hj hne hun n1 n2=>⟨WN hms h0 hf j oj hj hne hun n1 n2,W0,fun g y E' st' hy' hn=>kF h0 hj hy hy' (fun hN=>hn (by
   have e1:OW ms k j=false:=by
    cases e:OW ms k j with
    |false=>rfl
    |true=>exact(n1 (hms _ _ e)).elim
   have e2:OW ms j k=false:=by
    cases e:OW ms j k with
    |false=>rfl
    |true=>exact(n2 (hms _ _ e)).elim
   simp[OC,hN,e1,e2]))⟩) hr hy ha
   (YO hms l (k+1) _ _ _ (hcl.add hr) (fun j=>by have:=hl (j+1);simpa[Nat.add_assoc,Nat.add_comm 1 j] using this) hB' hK)
end
def OX (ops:Array Oper):List Nat:=UA .any ops.toList []
theorem XI {ops:Array Oper} (i j:Nat) (h:OW (OX ops) i j=true):Uo .any ops i j:=
 OS ops.toList [] (fun k=>by simp) (fun i j h=>by simp at h) i j h
def jh (draw:Bool) (ops:Array Oper):Nat→Nat→Bool:=bif draw then OC ops (OX ops) else fun _ _=>false
def Vm (n:Nat) (ops:Array Oper) (draw:Bool):Bool:=Fy n ops&&(!draw || pg ops (OX ops))
theorem T3 {c:Cx} {nms:Nat→Nm} {K:Sta→Prop} {Q:Exit→Act→World→Prop} {id:Nat} {ops:Array Oper} {draw:Bool} (hm:c.P.follows .mixedOrders=true) (hok:Vm c.n ops draw=true) (hD:∀ t a w',c.die t→a.defers=c.ds→Kept c.Mb c.w0 w'→Q (.panic [LH t]) a w')
  (hQ:∀ st a w I μ,SR c st a w I μ→K st→Q .normal a w) {st:Sta} {a:Act} {w:World} {I:Nat→Prop} {μ:Mu} (h:SR c st a w I μ) (hs:UW c.P c.die nms (jh draw ops) ops K ops.toList 0 [] st):(Code.region id ops draw).wp c.P Q a w:=by
 simp only[Vm,Bool.and_eq_true,Bool.or_eq_true,Bool.not_eq_true'] at hok;obtain⟨hd,hl⟩:=hok;cases draw with
 |false=>
  apply wp_region;rw[List.range_eq_range'];have:=RZ hd hD hQ ops.toList 0 [] st a w I μ (by simp) h hs;simpa using this
 |true=>
  apply wp_region_any hm;have hl:pg ops (OX ops)=true:=by simpa using hl
  have h1:=YO (K:=K) (nms:=nms) (P:=c.P) (D:=c.die) XI ops.toList 0 (Array.replicate ops.size false) [] st (fun m o _ hm=>by
   simp only[Array.getD_eq_getD_getElem?,Array.getElem?_replicate] at hm;split at hm<;>simp at hm) (by simp) (by simpa[pg] using hl) hs
  have h':SR c st a { w with drawn:=w.drawn+1 } I μ:=by
   obtain⟨hx,hs'⟩:=h.sim.same (w':={ w with drawn:=w.drawn+1 }) (I':=I) ⟨rfl,rfl,rfl,CE _,fun _ _ _=>rfl⟩ (fun _ hb=>hb) (fun _ hb=>.inl hb);exact⟨hs',h.size,h.defers,fun t=>hx.rel (h.rel t)⟩
  have:=Kr (md:=.any) hd hD hQ ops.toList.length (Array.replicate ops.size false) [] st a _ I μ h' h1;simpa using this
def Acf (c:Cx) (e:Exit) (a:Act) (w:World):Prop:=∃ t,c.die t∧e = .panic [LH t]∧a.defers=c.ds∧Kept c.Mb c.w0 w
def Up (c:Cx) (Q:Exit→Sta→Prop):Exit→Act→World→Prop:=fun e a w=>(∃ st I μ,SR c st a w I μ∧Q e st)∨Acf c e a w
def AWP (c:Cx) (code:Code) (Q:Exit→Sta→Prop) (st:Sta):Prop:=∀ a w I μ,SR c st a w I μ→code.wp c.P (Up c Q) a w
def kg (c:Cx) (y:Code) (Q:Exit→Sta→Prop):Exit→Sta→Prop
 |.normal,st=>AWP c y Q st
 |e,st=>Q e st
def DN (id:Nat) (Q:Exit→Sta→Prop):Exit→Sta→Prop
 |.exit id',st=>if id'=id then Q .normal st else Q (.exit id') st
 |e,st=>Q e st
section
variable {c:Cx} {Q:Exit→Sta→Prop} {st:Sta} {x y:Code}
@[simp] theorem mM:kg c y Q .normal st=AWP c y Q st:=rfl
@[simp] theorem rT {i:Nat}:kg c y Q (.exit i) st=Q (.exit i) st:=rfl
@[simp] theorem yj:kg c y Q .ret st=Q .ret st:=rfl
@[simp] theorem fV {i:Nat}:DN i Q .normal st=Q .normal st:=rfl
@[simp] theorem mn {i:Nat}:DN i Q .ret st=Q .ret st:=rfl
@[simp] theorem TK {i:Nat}:DN i Q (.exit i) st=Q .normal st:=by simp[DN]
theorem AW {i j:Nat} (h:j ≠ i):DN i Q (.exit j) st=Q (.exit j) st:=by simp[DN,h]
theorem AWP.mono {Q':Exit→Sta→Prop} (h:AWP c x Q st) (hq:∀ e st,Q e st→Q' e st):AWP c x Q' st:=fun a w I μ hs=>
 wp_mono (h a w I μ hs) fun e a' w' h=>h.imp (fun ⟨st',I',μ',h1,h2⟩=>⟨st',I',μ',h1,hq e st' h2⟩) id
theorem kj (h:AWP c x (kg c y Q) st):AWP c (.seq x y) Q st:=fun a w I μ hs=>
 wp_seq (wp_mono (h a w I μ hs) fun e a' w' h=>by
  rcases h with ⟨st',I',μ',h1,h2⟩ | ⟨t,h1,rfl,h2⟩
  ·cases e<;>first | exact h2 a' w' I' μ' h1 | exact .inl ⟨st',I',μ',h1,h2⟩
  ·exact .inr ⟨t,h1,rfl,h2⟩)
theorem fY (h:Q .normal st):AWP c .skip Q st:=fun a w I μ hs=>wp_skip (.inl ⟨st,I,μ,hs,h⟩)
theorem gG {i:Nat} (h:Q (.exit i) st):AWP c (.exit i) Q st:=fun a w I μ hs=>wp_exit (.inl ⟨st,I,μ,hs,h⟩)
theorem lz (h:Q .ret st):AWP c .ret Q st:=fun a w I μ hs=>wp_ret (.inl ⟨st,I,μ,hs,h⟩)
theorem bg {i:Nat} (h:AWP c x (DN i Q) st):AWP c (.block i x) Q st:=fun a w I μ hs=>
 wp_block (wp_mono (h a w I μ hs) fun e a' w' h=>by
  rcases h with ⟨st',I',μ',h1,h2⟩ | ⟨t,h1,rfl,h2⟩
  ·cases e with
   |exit j=>
    simp only[Exit.inBlock];by_cases hj:j=i
    ·subst hj;rw[if_pos rfl];exact .inl ⟨st',I',μ',h1,by simpa using h2⟩
    ·rw[if_neg hj];exact .inl ⟨st',I',μ',h1,by rwa [AW hj] at h2⟩
   |_=>exact .inl ⟨st',I',μ',h1,h2⟩
  ·exact .inr ⟨t,h1,rfl,h2⟩)
theorem iw {o:Operand} {b:Bool} (hb:evs st.s o = .v (.bool b)) (ht:b=true→AWP c x Q st) (hf:b=false→AWP c y Q st):AWP c (.cond o x y) Q st:=fun a w I μ hs=>by
 have h1:=hs.evs o;rw[hb] at h1;generalize hu:a.eval o=u at h1;cases h1;exact wp_cond_split hu (fun h=>ht h a w I μ hs) (fun h=>hf h a w I μ hs)
def Uc (P:Program) (body:Code) (Q:Exit→Act→World→Prop) (a:Act) (w:World):Prop:=
 ∀ (b:Frame) (k:List Item) (cs:List Frame),∃ e a' w',Q e a' w'∧Arrives P (lone (b.at a (.code body :: .inLoop body::k)) cs w) b k cs e a' w'
theorem WV {P:Program} {body:Code} {Q:Exit→Act→World→Prop} {a:Act} {w:World} (h:body.wp P (Exit.then (Uc P body Q) Q) a w):Uc P body Q a w:=by
 intro b k cs;obtain⟨e,a₁,w₁,hq,harr⟩:=h b (.inLoop body::k) cs;cases e with
 |normal=>
  obtain⟨e₂,a₂,w₂,hq₂,harr₂⟩:=hq b k cs;exact⟨e₂,a₂,w₂,hq₂,.of_steps (Steps.trans harr (.one step_inLoop)) harr₂⟩
 |exit id=>exact⟨_,a₁,w₁,hq,.pass (x:=.inLoop body) rfl (fun _ _=>.inl (by simp)) harr⟩
 |goto l=>exact⟨_,a₁,w₁,hq,.pass (x:=.inLoop body) rfl (fun _ _=>.inl (by simp)) harr⟩
 |ret=>exact⟨_,a₁,w₁,hq,.pass (x:=.inLoop body) rfl (fun _ _=>.inl (by simp)) harr⟩
 |panic ch=>exact⟨_,a₁,w₁,hq,.pass (x:=.inLoop body) rfl (fun _ _=>.inl (by simp)) harr⟩
 |outgrown=>exact⟨_,a₁,w₁,hq,.pass (x:=.inLoop body) rfl (fun _ _=>.inl (by simp)) harr⟩
theorem au {P:Program} {body:Code} {Q:Exit→Act→World→Prop} {a:Act} {w:World} (h:Uc P body Q a w):(Code.loop body).wp P Q a w:=by
 intro b k cs;obtain⟨e,a₁,w₁,hq,harr⟩:=h b k cs;exact⟨e,a₁,w₁,hq,.of_steps (.one step_loop) harr⟩
def AHead (c:Cx) (body:Code) (Q:Exit→Sta→Prop) (st:Sta):Prop:=∀ a w I μ,SR c st a w I μ→Uc c.P body (Up c Q) a w
def YX (c:Cx) (body:Code) (Q:Exit→Sta→Prop):Exit→Sta→Prop
 |.normal,st=>AHead c body Q st
 |e,st=>Q e st
@[simp] theorem lV:YX c x Q .normal st=AHead c x Q st:=rfl
@[simp] theorem ou {i:Nat}:YX c x Q (.exit i) st=Q (.exit i) st:=rfl
@[simp] theorem tD:YX c x Q .ret st=Q .ret st:=rfl
theorem Uv (h:AWP c x (YX c x Q) st):AHead c x Q st:=fun a w I μ hs=>
 WV (wp_mono (h a w I μ hs) fun e a' w' h=>by
  rcases h with ⟨st',I',μ',h1,h2⟩ | ⟨t,h1,rfl,h2⟩
  ·cases e<;>first | exact h2 a' w' I' μ' h1 | exact .inl ⟨st',I',μ',h1,h2⟩
  ·exact .inr ⟨t,h1,rfl,h2⟩)
theorem dz (h:AHead c x Q st):AWP c (.loop x) Q st:=fun a w I μ hs=>au (h a w I μ hs)
def Le (c:Cx) (st st':Sta):Prop:=∀ a w I μ,SR c st a w I μ→∃ I' μ',SR c st' a w I' μ'
theorem Le.refl:Le c st st:=fun _ _ I μ h=>⟨I,μ,h⟩
theorem Le.trans {st1 st2 st3:Sta} (h:Le c st1 st2) (k:Le c st2 st3):Le c st1 st3:=fun a w I μ hs=>let ⟨I',μ',h1⟩:=h a w I μ hs;k a w I' μ' h1
theorem AWP.le {st':Sta} (h:Le c st st') (k:AWP c x Q st'):AWP c x Q st:=fun a w I μ hs=>let ⟨I',μ',h1⟩:=h a w I μ hs;k a w I' μ' h1
theorem AHead.le {st':Sta} (h:Le c st st') (k:AHead c x Q st'):AHead c x Q st:=fun a w I μ hs=>let ⟨I',μ',h1⟩:=h a w I μ hs;k a w I' μ' h1
theorem dy {s s':Nat→A} {H:Hp} (h:∀ t,s' t=s t∨s' t = .any):Le c ⟨s,H⟩ ⟨s',H⟩:=fun a w I μ hs=>
 ⟨I,μ,hs.sim,hs.size,hs.defers,fun t=>by
  rcases h t with e | e
  ·show Rel w I μ (s' t) _;rw[e];exact hs.rel t
  ·show Rel w I μ (s' t) _;rw[e];exact .any _ _⟩
theorem Vb (s:Nat→A):∀ (l:List (Nat × A)),(∀ p,p ∈ l→s p.1=p.2)→∀ t,lk l t=s t∨lk l t = .any
 |[],_,t=>.inr rfl
 |(k,x)::l,h,t=>by
  unfold lk;by_cases e:k=t
  ·subst e;rw[if_pos rfl];exact .inl (h (k,x) (by simp)).symm
  ·rw[if_neg e];exact Vb s l (fun p hp=>h p (by simp[hp])) t
theorem Be {s:Nat→A} {H:Hp} (l:List (Nat × A)) (h:∀ p,p ∈ l→s p.1=p.2):Le c ⟨s,H⟩ ⟨lk l,H⟩:=dy (Vb s l h)
def Lw (P:Program) (st:Sta):ResultVar→Option A
 |.tmp t=>some (st.s t)
 |.cell a t=>Em P st.H t (st.s a)
def FK (P:Program) (st:Sta):List ResultVar→Option (List A)
 |[]=>some []
 |r::rs=>match Lw P st r,FK P st rs with
  |some x,some l=>some (x::l)
  |_,_=>none
def FW (P:Program) (st:Sta) (rs:List ResultVar):Option A:=
 match rs with
 |[r]=>Lw P st r
 |rs=>(FK P st rs).map .tup
theorem L0 {a:Act} {w:World} {I:Nat→Prop} {μ:Mu} (hs:SR c st a w I μ) {r:ResultVar} {x:A} (h:Lw c.P st r=some x) :
  ∃ v,((match r with | .tmp t=>pure (a.tmps.getD t undef) | .cell p t=>do loadVar t (← asAddr (a.tmps.getD p undef))):Sem Value).run c.P w = .ok v w∧Rel w I μ x v:=by
 cases r with
 |tmp t=>cases h;exact⟨_,rfl,hs.rel t⟩
 |cell p t=>
  have hr:=hs.rel p;obtain⟨v,h1,h2⟩:=JY hs.sim hr h;refine⟨v,?_,h2⟩;have:∃ q,a.tmps.getD p undef = .pointer (some q):=EA hr (RT h);obtain⟨q,hq⟩:=this;rw[hq] at h1;simp only[hq,asAddr];simpa[Instr.loadAt,Instr.sureAddr] using h1
theorem K3 {a:Act} {w:World} {I:Nat→Prop} {μ:Mu} (hs:SR c st a w I μ):∀ {rs:List ResultVar} {xs:List A},FK c.P st rs=some xs →
  ∃ vs:List Value,(rs.mapM (m:=Sem) fun | .tmp t=>pure (a.tmps.getD t undef) | .cell p t=>do loadVar t (← asAddr (a.tmps.getD p undef))).run c.P w = .ok vs w∧vs.length=xs.length∧∀ (k:Nat) (y:A) (v:Value),xs[k]? = some y→vs[k]? = some v→Rel w I μ y v
 |[],xs,h=>by cases h;exact⟨[],rfl,rfl,fun k y v hk=>by simp at hk⟩
 |r::rs,xs,h=>by
  unfold FK at h;split at h
  ·rename_i x l hx hl;cases h;obtain⟨v,h1,h2⟩:=L0 hs hx;obtain⟨vs,h3,h4,h5⟩:=K3 hs hl;refine⟨v::vs,?_,by simp[h4],fun k y u hk hu=>?_⟩
   ·rw[List.mapM_cons];simp only[Sem.run_bind,h1,Result.andThen_ok,h3,Sem.run_pure]
   ·cases k with
    |zero=>simp at hk hu;subst hk hu;exact h2
    |succ k=>exact h5 k y u (by simpa using hk) (by simpa using hu)
  ·cases h
theorem HN {fn:Func} {a:Act} {w:World} {I:Nat→Prop} {μ:Mu} (hs:SR c st a w I μ) {x:A} (h:FW c.P st fn.results.toList=some x):∃ v,(results fn a.tmps).run c.P w = .ok v w∧Rel w I μ x v:=by
 have hm:∀ {vs:List Value},(fn.results.toList.mapM (m:=Sem) fun | .tmp t=>pure (a.tmps.getD t undef) | .cell p t=>do loadVar t (← asAddr (a.tmps.getD p undef))).run c.P w = .ok vs w →
   (results fn a.tmps).run c.P w = .ok (if h:vs.toArray.size=1 then vs.toArray[0] else .tuple vs.toArray) w:=fun {vs} hv=>by
  unfold results;rw[Array.mapM_eq_mapM_toList];simp only[Sem.run_bind,Sem.run_map]
  erw [hv]
  rfl
 unfold FW at h;split at h
 ·rename_i r hr;obtain⟨v,h1,h2⟩:=L0 hs h;have:=hm (vs:=[v]) (by rw[hr,List.mapM_cons];simp only[Sem.run_bind,h1,Result.andThen_ok];rfl);exact⟨v,by simpa using this,h2⟩
 ·rename_i rs hne;simp only[Option.map_eq_some_iff] at h;obtain⟨xs,hx,rfl⟩:=h;obtain⟨vs,h1,h2,h3⟩:=K3 hs hx;have hlen:xs.length=fn.results.toList.length:=by
   have:∀ (rs:List ResultVar) (xs:List A),FK c.P st rs=some xs→xs.length=rs.length:=by
    intro rs;induction rs with
    |nil=>intro xs h;cases h;rfl
    |cons r rs ih=>
     intro xs h;unfold FK at h;split at h
     ·rename_i x l _ hl;cases h;simp[ih l hl]
     ·cases h
   exact this _ _ hx
  have hv1:¬ vs.toArray.size=1:=by
   intro he;simp only[List.size_toArray] at he;have:fn.results.toList.length=1:=by omega
   obtain⟨r,hr⟩:=List.length_eq_one_iff.1 this;exact hne r hr
  have:=hm h1;rw[dif_neg hv1] at this;refine⟨_,this,.tup _ _ _ (by simp[h2]) fun k y hk=>?_⟩;have hlt:k<vs.length:=by rw[h2];exact(List.getElem?_eq_some_iff.1 hk).1
  have e:vs.toArray.getD k undef=vs[k]:=by simp[hlt]
  rw[e];exact h3 k y _ hk (List.getElem?_eq_getElem hlt)
def bf (P:Program) (rs:List ResultVar) (Q:A→Hp→Prop):Exit→Sta→Prop
 |.normal,st | .ret,st=>∃ r0,FW P st rs=some r0∧Q r0 st.H
 |_,_=>False
def Fk (args:List A):Nat→A:=fun t=>(args[t]?).getD .any
theorem Ka {P:Program} {f:FuncId} {fn:Func} {code:Code} (hf:P.funcs[f]? = some fn) (hb:fn.body=some code) {c:Cx} (hcP:c.P=P) (hcn:c.n=fn.ntmps) (hds:c.ds=[]) {args:List A} {vs:Array Value} (hl:vs.size=args.length) (ha:args.length≤fn.ntmps)
  {w:World} {I:Nat→Prop} {μ:Mu} {H:Hp} (hs:Sim c w I μ H) (hr:∀ (k:Nat) (y:A),args[k]? = some y→Rel w I μ y (vs.getD k undef)) {Q:A→Hp→Prop} (h:AWP c code (bf P fn.results.toList Q) ⟨Fk args,H⟩) :
  Calls P f vs w fun e w'=>(∃ v r0 H' I' μ',e = .returned v∧Sim c w' I' μ' H'∧Rel w' I' μ' r0 v∧Q r0 H')∨∃ t,c.die t∧e = .panicked [LH t]∧Kept c.Mb c.w0 w':=by
 subst hcP;refine calls_of_wp hf hb ?_;have hs:SR c ⟨Fk args,H⟩ { tmps:=vs++Array.replicate (fn.ntmps-vs.size) undef,defers:=[] } w I μ:=by
  refine⟨hs,?_,hds.symm,fun t=>?_⟩
  ·simp[hcn,hl];omega
  ·show Rel w I μ (Fk args t) _;unfold Fk;cases hq:args[t]? with
   |none=>exact .any _ _
   |some y=>
    have hlt:=(List.getElem?_eq_some_iff.1 hq).1;have e:(vs++Array.replicate (fn.ntmps-vs.size) undef).getD t undef=vs.getD t undef:=by
     simp only[Array.getD_eq_getD_getElem?];rw[Array.getElem?_append_left (by omega)]
    rw[e];exact hr t y hq
 refine wp_mono (h _ w I μ hs) fun e a' w' hh=>?_;rcases hh with ⟨st',I',μ',h1,h2⟩ | ⟨t,k1,rfl,k2,k3⟩
 case inr=>exact⟨k2.trans hds,.inr ⟨t,k1,rfl,k3⟩⟩
 have fin:(∃ r0,FW c.P st' fn.results.toList=some r0∧Q r0 st'.H)→a'.defers=[]∧∃ v,(results fn a'.tmps).run c.P w' = .ok v w'∧((∃ v' r0 H' I' μ',Ending.returned v = .returned v'∧Sim c w' I' μ' H'∧Rel w' I' μ' r0 v'∧Q r0 H')∨∃ t,c.die t∧Ending.returned v = .panicked [LH t]∧Kept c.Mb c.w0 w'):=by
  rintro⟨r0,h3,h4⟩;obtain⟨v,h5,h6⟩:=HN (fn:=fn) h1 h3;exact⟨h1.defers.trans hds,v,h5,.inl ⟨v,r0,st'.H,I',μ',rfl,h1.sim,h6,h4⟩⟩
 cases e<;>first | exact fin h2 | exact h2.elim
def cx (P:Program) (w0:World) (I0:Nat→Prop) (n:Nat):Cx:=⟨P,w0,I0,fun _ _=>False,n,Jq,fun _=>False,[]⟩
def H0:Hp:=fun _=>⟨0,.none⟩
theorem HW {P:Program} {w:World} {I:Nat→Prop} {n:Nat} (hI:∀ b,I b→b<w.heap.size) (ht:Tabs P w I):Sim (cx P w I n) w I Jq H0:=
 ⟨⟨rfl,rfl,rfl,CE _,fun _ _ _=>rfl⟩,hI,fun _ h=>h,fun b hb=>.inl hb,fun _=>rfl,fun _=>trivial,(fun _ _ h=>nomatch h),(fun _ h=>nomatch h),MuLe.refl _,(fun _ h=>nomatch h),ht⟩
theorem XW {P:Program} {f:FuncId} {fn:Func} {code:Code} {args:List A} {r:A} {n:Nat} (hk:Ji P f=true) (hf:P.funcs[f]? = some fn) (hb:fn.body=some code) (hn:fn.ntmps=n) (ha:args.length≤n)
  (h:∀ w0 I0,AWP (cx P w0 I0 n) code (bf P fn.results.toList fun r0 H=>Jw H r0 r) ⟨Fk args,H0⟩):Spec P f args r:=by
 refine⟨hk,fun w I vs hI htb hl hr=>?_⟩;refine(Ka hf hb (c:=cx P w I n) rfl hn.symm rfl hl (by omega) (HW hI htb) hr (h w I)).mono fun e w' hh=>?_;rcases hh with ⟨v,r0,H',I',μ',he,h1,h2,h3⟩ | ⟨t,k,_⟩
 case inr=>exact k.elim
 refine⟨v,he,?_,?_⟩
 ·have k:=h1.kept;exact⟨k.os,k.tape,k.output,k.size,fun b hb=>k.block b hb (fun ⟨_,h⟩=>h)⟩
 ·refine(h3 _ w' I' μ' v h1 h2).mono0 (fun b hb=>?_) (fun _ _=>rfl);rcases hb with hb | ⟨o,g1,rfl⟩
  ·rcases h1.new b hb with g | g
   ·exact .inl g
   ·exact .inr ⟨g,h1.lt b hb⟩
  ·obtain⟨_,g4,g5⟩:=h1.own o g1;rcases g4 with g4 | g4
   ·exact g4.elim
   ·exact .inr ⟨g4,g5⟩
theorem EV {s:Nat→A} {H:Hp} (t:Nat) (d:Nm) (sz:Nat) (ht:s t = .sl true []):Le c ⟨s,H⟩ ⟨upd s t (.osl d ((H d).u+1) sz 0 0),Ar H d ⟨(H d).u+1,.arr sz []⟩⟩:=fun a w I μ hs=>by
 obtain⟨hx,hs'⟩:=hs.sim.upd (Fi w none) d ⟨(H d).u+1,false,0,0,sz,0⟩ (.arr sz []) (.inl rfl) (.inl (by rw[hs.sim.ver];exact Nat.lt_succ_self _)) (fun h=>nomatch h) (fun h=>nomatch h) (fun hx=>⟨rfl,.inl ⟨rfl,rfl⟩⟩);refine⟨I,_,hs',hs.size,hs.defers,fun k=>?_⟩;show Rel w I _ (upd s t _ k) _;unfold upd;split
 ·rename_i hk;subst hk;have h1:=hs.rel k;simp only[ht] at h1;generalize a.tmps.getD k undef=v at h1;cases h1 with
  |slN _ _ q cap hc=>
   have:=hc rfl;subst this;exact .osl _ _ _ _ _ _ _ _ (by omega) (by simp) (CE _) (fun h=>by omega) (fun _=>by simp)
  |sl _ _ b off n cap z _ g h1 h2 h3 h4=>
   have h5:n=0:=h2;have h6:cap=0:=h4 rfl;subst h5 h6;exact .osl _ _ _ _ _ _ _ _ (by omega) (by simp) (CE _) (fun h=>by omega) (fun _=>by simp)
 ·exact hx.rel (hs.rel k)
end
structure CO where
 d:Option Nat
 o:Op
 g:Option (Nat × Bool)
 nm:Nm
 ix:Nat
 un:List Nat
 lg:Bool
abbrev co (d:Option Nat) (o:Op) (g:Option (Nat × Bool)):CO:=⟨d,o,g,[],0,[],false⟩
abbrev cn (d:Option Nat) (o:Op) (g:Option (Nat × Bool)) (nm:Nm):CO:=⟨d,o,g,nm,0,[],false⟩
inductive CC where
 |skip
 |reg (ops:List CO) (live:List Nat)
 |seq (x y:CC)
 |cond (c:Operand) (x y:CC)
 |block (i:Nat) (x:CC)
 |loop (x:CC)
 |exit (i:Nat)
 |ret
 |keep (live:List Nat) (x:CC)
 |stop (x:CC)
 |scope (x:CC)
def R3:List (Nat × Nm)→Nat→Nm
 |[],_=>[]
 |(k,n)::l,i=>if k=i then n else R3 l i
def La (draw:Bool) (ops:Array Oper) (ms:List Nat) (i j:Nat):Bool:=draw&&OC ops ms i j
theorem lU {draw:Bool} {ops:Array Oper}:La draw ops (OX ops)=jh draw ops:=by
 cases draw
 ·rfl
 ·funext i j;simp[La,jh]
def o2 (ops:Array Oper) (draw:Bool) (ms:List Nat) (nms:List (Nat × Nm)) (i:Nat) (o:Oper):Option CO:=
 let un:=(List.range i).filter fun j=>La draw ops ms j i
 let lg:=(List.range ops.size).any fun k=>Nat.blt i k&&La draw ops ms i k
 let ix:=if un.isEmpty&&!lg then 0 else i
 match o.guard with
 |none=>some ⟨o.dst,o.op,none,R3 nms i,ix,un,lg⟩
 |some (j,f)=>match (ops[j]?).bind (·.dst) with
  |some d=>some ⟨o.dst,o.op,some (d,f),R3 nms i,ix,un,lg⟩
  |none=>none
def Jp (ops:Array Oper) (draw:Bool) (ms:List Nat) (nms:List (Nat × Nm)):Nat→List Oper→Option (List CO)
 |_,[]=>some []
 |i,o::l=>match o2 ops draw ms nms i o,Jp ops draw ms nms (i+1) l with
  |some x,some r=>some (x::r)
  |_,_=>none
inductive Is (n:Nat):CC→Code→Prop
 |skip:Is n .skip .skip
 |reg (id:Nat) (ops:Array Oper) (draw:Bool) (live:List Nat) (nms:List (Nat × Nm)) (l:List CO):Vm n ops draw=true→Jp ops draw (OX ops) nms 0 ops.toList=some l→Is n (.reg l live) (.region id ops draw)
 |seq (x y:CC) (a b:Code):Is n x a→Is n y b→Is n (.seq x y) (.seq a b)
 |cond (o:Operand) (x y:CC) (a b:Code):Is n x a→Is n y b→Is n (.cond o x y) (.cond o a b)
 |block (i:Nat) (x:CC) (a:Code):Is n x a→Is n (.block i x) (.block i a)
 |loop (x:CC) (a:Code):Is n x a→Is n (.loop x) (.loop a)
 |exit (i:Nat):Is n (.exit i) (.exit i)
 |ret:Is n .ret .ret
 |keep (live:List Nat) (x:CC) (a:Code):Is n x a→Is n (.keep live x) a
 |stop (x:CC) (a:Code):Is n x a→Is n (.stop x) a
 |scope (x:CC) (a:Code):Is n x a→Is n (.scope x) (.scope a)
 |label (l:Nat):Is n .skip (.label l)
def qc (Q:Exit→Sta→Prop):Exit→Sta→Prop
 |.goto _,_=>False
 |e,st=>Q e st
def Sta.keep (st:Sta) (live:List Nat):Sta:=⟨lk (live.map fun k=>(k,st.s k)),st.H⟩
theorem M9 {c:Cx} {st:Sta} (live:List Nat):Le c st (st.keep live):=Be _ (fun p hp=>by
 obtain⟨k,_,rfl⟩:=List.mem_map.1 hp;rfl)
def Ue (P:Program) (D:TypeId→Prop) (o:CO) (st:Sta) (x:A) (E:Eff) (f:Ft):Prop:=
 match o.g with
 |none=>Sh P D o.nm o.o (evs st.s) st.H x E f.R f.W
 |some (d,fl)=>∃ q x0,BG (st.s d) fl=some q∧(q=true→Sh P D o.nm o.o (evs st.s) st.H x0 E f.R f.W)∧x=gd q x0∧(q=false→E = .nil∧f.R=[]∧f.W=[])
def Ck (un:List Nat) (lg:Lg) (f:Ft):Prop:=∀ p,p ∈ lg→p.1 ∈ un→nc p.2 f=true
def A2 (b:Bool) (i:Nat) (f:Ft) (lg:Lg):Lg:=if b=true then (i,f)::lg else lg
structure Lu where
 D:TypeId→Prop
 k:Sta→Prop
def An (P:Program) (K:Lu):List CO→Lg→Sta→Prop
 |[],_,st=>K.k st
 |o::rest,lg,st=>∃ x E f,Ue P K.D o st x E f∧Ck o.un lg f∧An P K rest (A2 o.lg o.ix f lg) (st.put o.d x (E.app st.H))
theorem YH {ops:Array Oper} {draw:Bool} {ms:List Nat} {nms:List (Nat × Nm)} {i:Nat} {o:Oper} {c:CO} (h:o2 ops draw ms nms i o=some c):c.d=o.dst∧c.o=o.op∧c.nm=R3 nms i ∧
  c.un=((List.range i).filter fun j=>La draw ops ms j i)∧c.lg=((List.range ops.size).any fun k=>Nat.blt i k&&La draw ops ms i k)∧(c.un ≠ []∨c.lg=true→c.ix=i) ∧
  ((o.guard=none∧c.g=none)∨∃ j f d,o.guard=some (j,f)∧(ops[j]?).bind (·.dst)=some d∧c.g=some (d,f)):=by
 have hix:∀ (un:List Nat) (lg:Bool),un ≠ []∨lg=true→(if (un.isEmpty&&!lg)=true then 0 else i)=i:=fun un lg hh=>by
  rw[if_neg];rcases hh with h1 | h1
  ·cases un with
   |nil=>exact(h1 rfl).elim
   |cons=>simp
  ·simp[h1]
 unfold o2 at h;cases hg:o.guard with
 |none=>
  rw[hg] at h;simp only[Option.some.injEq] at h;subst h;exact⟨rfl,rfl,rfl,rfl,rfl,hix _ _,.inl ⟨rfl,rfl⟩⟩
 |some p=>
  obtain⟨j,f⟩:=p;rw[hg] at h;simp only at h;cases hj:(ops[j]?).bind (·.dst) with
  |none=>rw[hj] at h;cases h
  |some d=>
   rw[hj] at h;simp only[Option.some.injEq] at h;subst h;exact⟨rfl,rfl,rfl,rfl,rfl,hix _ _,.inr ⟨j,f,d,rfl,hj,rfl⟩⟩
theorem Ls {P:Program} {ops:Array Oper} {draw:Bool} {ms:List Nat} {nms:List (Nat × Nm)} {K:Lu}:∀ (l:List Oper) (i:Nat) (r:List CO) (Lf lg:Lg) (st:Sta),Jp ops draw ms nms i l=some r→i+l.length=ops.size →
  (∀ p,p ∈ Lf→p.1<i∧∀ k,i≤k→k<ops.size→La draw ops ms p.1 k=true→p ∈ lg)→An P K r lg st→UW P K.D (R3 nms) (La draw ops ms) ops K.k l i Lf st:=by
 intro l;induction l with
 |nil=>
  intro i r Lf lg st he _ _ h;cases he;exact h
 |cons o l ih=>
  intro i r Lf lg st he hsz hlg h;unfold Jp at he;split at he
  ·rename_i c r' hc hr;cases he;obtain⟨e1,e2,e3,e4,e5,e7,e6⟩:=YH hc;obtain⟨x,E,f,hy,hk,h⟩:=h;simp only[List.length_cons] at hsz;refine⟨x,E,f,?_,fun p hp hn=>?_,?_⟩
   ·unfold Ue at hy;rw[e2,e3] at hy;rcases e6 with ⟨hg,hc⟩ | ⟨j,fl,d,hg,hj,hc⟩
    ·rw[hc] at hy;exact⟨true,x,by unfold Jo;rw[hg],fun _=>hy,rfl,fun h=>nomatch h⟩
    ·rw[hc] at hy;obtain⟨q,x0,k1,k2,k3,k4⟩:=hy;exact⟨q,x0,by unfold Jo;rw[hg];exact⟨d,hj,k1⟩,k2,k3,k4⟩
   ·obtain⟨h1,h2⟩:=hlg p hp;refine hk p (h2 i (CE _) (by omega) hn) ?_;rw[e4];exact List.mem_filter.2 ⟨List.mem_range.2 h1,hn⟩
   ·rw[e1] at h;refine ih (i+1) r' _ _ _ hr (by omega) (fun p hp=>?_) h;rcases List.mem_cons.1 hp with rfl | hp
    ·refine⟨Nat.lt_succ_self _,fun k h1 h2 h3=>?_⟩;have hl:c.lg=true:=by
      rw[e5];exact List.any_eq_true.2 ⟨k,List.mem_range.2 h2,by simp[Nat.blt_eq,h3];omega⟩
     unfold A2;rw[if_pos hl,e7 (.inr hl)];simp
    ·obtain⟨h1,h2⟩:=hlg p hp;refine⟨by omega,fun k h3 h4 h5=>?_⟩;have:=h2 k (by omega) h4 h5;unfold A2;split
     ·exact List.mem_cons_of_mem _ this
     ·exact this
  ·cases he
def LoopC (c:Cx) (x:CC) (Q:Exit→Sta→Prop) (st:Sta):Prop:=∀ a,Is c.n x a→AHead c a Q st
def Hk (K:Sta→Prop) (Q:Exit→Sta→Prop):Exit→Sta→Prop
 |.normal,st=>K st
 |e,st=>Q e st
def iK (c:Cx) (st:Sta):Prop:=∀ a w I μ,¬ SR c st a w I μ
def KX (c:Cx) (K:Sta→Prop) (st:Sta):Prop:=iK c st∨∃ st',Le c st st'∧K st'
theorem Au {c:Cx} {K:Sta→Prop} {st:Sta} (h:iK c st):KX c K st:=.inl h
theorem Ax {c:Cx} {K:Sta→Prop} {st:Sta} (h:K st):KX c K st:=.inr ⟨st,Le.refl,h⟩
theorem L5 {c:Cx} {K:Sta→Prop} {st st':Sta} (h:Le c st st') (k:KX c K st'):KX c K st:=k.elim (fun hd=>.inl fun a w I μ hs=>let ⟨_,_,h2⟩:=h a w I μ hs;hd _ _ _ _ h2) fun ⟨st2,h2,k2⟩=>.inr ⟨st2,h.trans h2,k2⟩
theorem LoopC.dead {c:Cx} {x:CC} {Q:Exit→Sta→Prop} {st:Sta} (h:iK c st):LoopC c x Q st:=fun _ _ _ _ _ _ hs=>(h _ _ _ _ hs).elim
def WPC (c:Cx):CC→(Exit→Sta→Prop)→Sta→Prop
 |.skip,Q,st=>Q .normal st
 |.exit i,Q,st=>Q (.exit i) st
 |.ret,Q,st=>Q .ret st
 |.reg ops live,Q,st=>An c.P ⟨c.die,fun st=>Q .normal (st.keep live)⟩ ops [] st
 |.seq x y,Q,st=>WPC c x (Hk (WPC c y Q) Q) st
 |.cond o x y,Q,st=>∃ b,evs st.s o = .v (.bool b)∧(b=true→WPC c x Q st)∧(b=false→WPC c y Q st)
 |.block i x,Q,st=>WPC c x (DN i Q) st
 |.loop x,Q,st=>LoopC c x Q st
 |.keep live x,Q,st=>WPC c x Q (st.keep live)
 |.stop x,Q,st=>KX c (fun st=>WPC c x Q st) st
 |.scope x,Q,st=>WPC c x (qc Q) st
theorem DH {c:Cx} (hm:c.P.follows .mixedOrders=true):∀ {x:CC} {a:Code} {Q:Exit→Sta→Prop} {st:Sta},Is c.n x a→WPC c x Q st→AWP c a Q st:=by
 intro x a Q st hi;induction hi generalizing Q st with
 |skip=>exact fun h=>fY h
 |exit i=>exact fun h=>gG h
 |ret=>exact fun h=>lz h
 |reg id ops draw live nms l hok hl=>
  intro h;intro a w I μ hs;have h1:=Ls ops.toList 0 l [] [] _ hl (by simp) (fun p hp=>by simp at hp) h;rw[lU] at h1;refine T3 hm hok (K:=fun st=>Q .normal (st.keep live)) (fun t _ _ e k1 k2=>.inr ⟨t,e,rfl,k1,k2⟩) (fun st' a' w' I' μ' h1 h2=>?_) hs h1;obtain⟨I2,μ2,h3⟩:=M9 live a' w' I' μ' h1;exact .inl ⟨_,I2,μ2,h3,h2⟩
 |seq x y a b _ _ ih1 ih2=>
  intro h;refine kj ((ih1 h).mono fun e st' hq=>?_);cases e<;>first | exact ih2 hq | exact hq
 |cond o x y a b _ _ ih1 ih2=>
  intro ⟨q,hb,ht,hf⟩;exact iw hb (fun h=>ih1 (ht h)) (fun h=>ih2 (hf h))
 |block i x a _ ih=>exact fun h=>bg (ih h)
 |loop x a hx _=>exact fun h=>dz (h a hx)
 |keep live x a _ ih=>
  intro h a w I μ hs;obtain⟨I2,μ2,h3⟩:=M9 live a w I μ hs;exact ih h a w I2 μ2 h3
 |stop x a _ ih=>
  intro hh a w I μ hs;rcases hh with hh | ⟨st',h1,h2⟩
  ·exact(hh a w I μ hs).elim
  ·obtain⟨I2,μ2,h3⟩:=h1 a w I μ hs;exact ih h2 a w I2 μ2 h3
 |scope x a _ ih=>
  intro h a w I μ hs;refine wp_scope_straight (wp_mono (ih h a w I μ hs) fun e a' w' hh=>?_);rcases hh with ⟨st',I',μ',h1,h2⟩ | ⟨t,h1,rfl,h2⟩
  ·cases e with
   |goto l=>exact h2.elim
   |_=>exact .inl ⟨st',I',μ',h1,h2⟩
  ·exact .inr ⟨t,h1,rfl,h2⟩
 |label l=>exact fun h a w I μ hs=>wp_label (.inl ⟨st,I,μ,hs,h⟩)
theorem WPC.mono {c:Cx}:∀ {x:CC} {Q Q':Exit→Sta→Prop} {st:Sta},(∀ e st,Q e st→Q' e st)→WPC c x Q st→WPC c x Q' st
 |.skip,_,_,_,hq,h=>hq _ _ h
 |.exit _,_,_,_,hq,h=>hq _ _ h
 |.ret,_,_,_,hq,h=>hq _ _ h
 |.reg ops live,Q,Q',st,hq,h=>by
  have:∀ (ops:List CO) (lg:Lg) (st:Sta),An c.P ⟨c.die,fun st=>Q .normal (st.keep live)⟩ ops lg st→An c.P ⟨c.die,fun st=>Q' .normal (st.keep live)⟩ ops lg st:=by
   intro ops;induction ops with
   |nil=>exact fun lg st h=>hq _ _ h
   |cons o ops ih=>exact fun lg st ⟨x,E,f,h1,h2,h3⟩=>⟨x,E,f,h1,h2,ih _ _ h3⟩
  exact this ops _ st h
 |.seq x y,Q,Q',st,hq,h=>WPC.mono (x:=x) (fun e st' h'=>by cases e<;>first | exact WPC.mono (x:=y) hq h' | exact hq _ _ h') h
 |.cond o x y,Q,Q',st,hq,⟨b,h1,h2,h3⟩=>⟨b,h1,fun h=>WPC.mono hq (h2 h),fun h=>WPC.mono hq (h3 h)⟩
 |.block i x,Q,Q',st,hq,h=>WPC.mono (x:=x) (fun e st' h'=>by
   cases e with
   |exit j=>
    by_cases hj:j=i
    ·subst hj;rw[TK] at h' ⊢; exact hq _ _ h'
    ·rw[AW hj] at h' ⊢; exact hq _ _ h'
   |_=>exact hq _ _ h') h
 |.keep live x,Q,Q',st,hq,h=>WPC.mono (x:=x) hq h
 |.stop x,Q,Q',st,hq,h=>h.imp id fun ⟨st',h1,h2⟩=>⟨st',h1,WPC.mono (x:=x) hq h2⟩
 |.scope x,Q,Q',st,hq,h=>WPC.mono (x:=x) (fun e st' h'=>by
   cases e with
   |goto l=>exact h'
   |_=>exact hq _ _ h') h
 |.loop x,Q,Q',st,hq,h=>fun a ha a' w I μ hs b k cs=>by
  obtain⟨e,a1,w1,h1,h3⟩:=h a ha a' w I μ hs b k cs;exact⟨e,a1,w1,h1.imp (fun ⟨st',I',μ',h1,h2⟩=>⟨st',I',μ',h1,hq _ _ h2⟩) id,h3⟩
theorem Vy {c:Cx} (hm:c.P.follows .mixedOrders=true) {x:CC} {Q:Exit→Sta→Prop} {st:Sta} (h:WPC c x (Hk (LoopC c x Q) Q) st):LoopC c x Q st:=fun a ha=>
 Uv ((DH hm ha h).mono fun e st' hq=>by cases e<;>first | exact hq a ha | exact hq)
theorem LoopC.le {c:Cx} {x:CC} {Q:Exit→Sta→Prop} {st st':Sta} (h:Le c st st') (k:LoopC c x Q st'):LoopC c x Q st:=fun a ha=>(k a ha).le h
def Xz:List Nat→CC→CC
 |999999::live,y=>.keep live y
 |999998::_,y=>.stop y
 |999997::live,y=>.keep live (.stop y)
 |_,y=>y
theorem bo {n:Nat} {m:List Nat} {y:CC} {b:Code} (h:Is n y b):Is n (Xz m y) b:=by
 unfold Xz;split
 ·exact .keep _ _ _ h
 ·exact .stop _ _ h
 ·exact .keep _ _ _ (.stop _ _ h)
 ·exact h
abbrev Mk:=List Nat × List (Nat × Nm)
def C8 (n:Nat):Code→List Mk→Option (CC × List Mk)
 |.skip,ls=>some (.skip,ls)
 |.exit i,ls=>some (.exit i,ls)
 |.ret,ls=>some (.ret,ls)
 |.region _ ops draw,(live,nms)::ls=>if Vm n ops draw=true then match Jp ops draw (OX ops) nms 0 ops.toList with
   |some l=>some (.reg l live,ls)
   |none=>none else none
 |.seq a b,ls=>match C8 n a ls with
  |some (x,m::ls)=>match C8 n b ls with
   |some (y,ls)=>some (.seq x (Xz m.1 y),ls)
   |none=>none
  |_=>none
 |.cond o a b,ls=>match C8 n a ls with
  |some (x,ls)=>match C8 n b ls with
   |some (y,ls)=>some (.cond o x y,ls)
   |none=>none
  |none=>none
 |.block i a,ls=>match C8 n a ls with
  |some (x,ls)=>some (.block i x,ls)
  |none=>none
 |.loop a,ls=>match C8 n a ls with
  |some (x,ls)=>some (.loop x,ls)
  |none=>none
 |.scope a,ls=>match C8 n a ls with
  |some (x,ls)=>some (.scope x,ls)
  |none=>none
 |.label _,ls=>some (.skip,ls)
 |_,_=>none
theorem B8 {n:Nat}:∀ {a:Code} {ls ls':List Mk} {x:CC},C8 n a ls=some (x,ls')→Is n x a:=by
 intro a;induction a with
 |skip=>intro ls ls' x h;simp only[C8] at h;cases h;exact .skip
 |exit i=>intro ls ls' x h;simp only[C8] at h;cases h;exact .exit i
 |ret=>intro ls ls' x h;simp only[C8] at h;cases h;exact .ret
 |region id ops draw=>
  intro ls ls' x h;cases ls with
  |nil=>simp[C8] at h
  |cons live ls=>
   simp only[C8] at h;split at h
   ·rename_i hok;split at h
    ·rename_i l hl;cases h;exact .reg _ _ _ _ _ _ hok hl
    ·cases h
   ·cases h
 |seq a b ih1 ih2=>
  intro ls ls' x h;simp only[C8] at h;split at h
  ·rename_i q1 m l1 h1;split at h
   ·rename_i q2 l2 h2;cases h;exact .seq _ _ _ _ (ih1 h1) (bo (ih2 h2))
   ·cases h
  ·cases h
 |cond o a b ih1 ih2=>
  intro ls ls' x h;simp only[C8] at h;split at h
  ·rename_i q1 l1 h1;split at h
   ·rename_i q2 l2 h2;cases h;exact .cond _ _ _ _ _ (ih1 h1) (ih2 h2)
   ·cases h
  ·cases h
 |block i a ih=>
  intro ls ls' x h;simp only[C8] at h;split at h
  ·rename_i q1 l1 h1;cases h;exact .block _ _ _ (ih h1)
  ·cases h
 |loop a ih=>
  intro ls ls' x h;simp only[C8] at h;split at h
  ·rename_i q1 l1 h1;cases h;exact .loop _ _ (ih h1)
  ·cases h
 |scope a ih=>
  intro ls ls' x h;simp only[C8] at h;split at h
  ·rename_i q1 l1 h1;cases h;exact .scope _ _ (ih h1)
  ·cases h
 |label l=>intro ls ls' x h;simp only[C8] at h;cases h;exact .label l
 |_=>intro ls ls' x h;cases ls<;>simp[C8] at h
structure BM (P:Program) (f:FuncId) (n:Nat) (rs:List ResultVar) (cc:CC):Prop where
 mixed:P.follows .mixedOrders=true
 ok:Ji P f=true
 fn:∃ fn code,P.funcs[f]? = some fn∧fn.body=some code∧fn.ntmps=n∧fn.results.toList=rs∧Is n cc code
theorem pw {P:Program} {f:FuncId} {fn:Func} {code:Code} {cc:CC} {ls:List Mk} {rs:List ResultVar} {n:Nat} (hm:P.follows .mixedOrders=true) (hk:Ji P f=true) (hf:P.funcs[f]? = some fn) (hb:fn.body=some code)
  (hn:fn.ntmps=n) (hrs:fn.results.toList=rs) (hc:C8 n code ls=some (cc,[])):BM P f n rs cc:=⟨hm,hk,fn,code,hf,hb,hn,hrs,B8 hc⟩
def Rx (P:Program) (rs:List ResultVar) (r:A):Exit→Sta→Prop:=bf P rs fun r0 H=>Jw H r0 r
theorem Ap {P:Program} {f:FuncId} {n:Nat} {rs:List ResultVar} {cc:CC} {args:List A} {r:A} (t:BM P f n rs cc) (ha:args.length≤n) (h:∀ w0 I0,WPC (cx P w0 I0 n) cc (Rx P rs r) ⟨Fk args,H0⟩):Spec P f args r:=by
 obtain⟨hm,hk,fn,code,hf,hb,hn,hrs,hc⟩:=t;exact XW hk hf hb hn ha fun w0 I0=>DH (c:=cx P w0 I0 n) hm hc (by rw[hrs];exact h w0 I0)
section
variable {P:Program} {H:Hp} {t u:TypeId}
def vc (x:VOb) (u:Nat):Option (List A):=match x with | ⟨u',.cells cs⟩=>if u'=u then some cs else none | _=>none
def vr (x:VOb) (u:Nat):Option (Nat × List A):=match x with | ⟨u',.arr s xs⟩=>if u'=u then some (s,xs) else none | _=>none
@[simp] theorem we {u' u:Nat} {cs:List A}:vc ⟨u',.cells cs⟩ u=if u'=u then some cs else none:=rfl
@[simp] theorem Aby {u' u s:Nat} {xs:List A}:vr ⟨u',.arr s xs⟩ u=if u'=u then some (s,xs) else none:=rfl
@[simp] theorem zL {o:Nm} {u:Nat}:RE H o u=vc (H o) u:=rfl
@[simp] theorem MX {o:Nm} {u:Nat}:KH H o u=vr (H o) u:=rfl
@[simp] theorem wj {o:Nm} {u off:Nat}:Em P H t (.pob o u off)=match Cu P t,B2 P t with | some g,some sz=>(match vc (H o) u with | some cs=>Ia g sz (cs.drop off) | none=>none) | _,_=>none:=by
 unfold Em;cases Cu P t with
 |none=>rfl
 |some g=>
  cases B2 P t with
  |none=>rfl
  |some sz=>rfl
@[simp] theorem yC {o:Nm} {u i j:Nat}:Em P H t (.pel o u i j)=match Cu P t,B2 P t with | some g,some sz=>(match vr (H o) u with | some (_,xs)=>(match xs[i]? with | some x=>Ia g sz (x.cells.drop j) | none=>none) | none=>none) | _,_=>none:=by
 unfold Em;cases Cu P t with
 |none=>rfl
 |some g=>
  cases B2 P t with
  |none=>rfl
  |some sz=>rfl
@[simp] theorem sD {o:Nm} {u off:Nat} {val:A}:FE P H t (.pob o u off) val=match B2 P t with
  |some sz=>if val.cells.length=sz∧A.ones val.cells=true then (match vc (H o) u with | some cs=>if off+sz≤cs.length then some (.one o ⟨u,.cells (splice cs off val.cells)⟩) else none | none=>none) else none
  |none=>none:=by
 unfold FE;cases B2 P t<;>rfl
def WX (o:Nm) (u i j s sz:Nat) (xs:List A) (val:A):Option A→Option Eff
 |some x=>if j=0∧sz=s then some (.one o ⟨u,.arr s (xs.set i val)⟩)
  else if j+sz≤s∧x.isAgg=true then some (.one o ⟨u,.arr s (xs.set i (x.remake (splice x.cells j val.cells)))⟩) else none
 |none=>none
def mW (o:Nm) (u i j sz:Nat) (val:A):Option (Nat × List A)→Option Eff
 |some (s,xs)=>WX o u i j s sz xs val xs[i]?
 |none=>none
@[simp] theorem Xs {o:Nm} {u i j s sz:Nat} {xs:List A} {val:A}:mW o u i j sz val (some (s,xs))=WX o u i j s sz xs val xs[i]?:=rfl
@[simp] theorem mD {o:Nm} {u i j s sz:Nat} {xs:List A} {x val:A}:WX o u i j s sz xs val (some x)=if j=0∧sz=s then some (.one o ⟨u,.arr s (xs.set i val)⟩)
  else if j+sz≤s∧x.isAgg=true then some (.one o ⟨u,.arr s (xs.set i (x.remake (splice x.cells j val.cells)))⟩) else none:=rfl
@[simp] theorem r5 {o:Nm} {u i j:Nat} {val:A}:FE P H t (.pel o u i j) val=match B2 P t with
  |some sz=>if val.cells.length=sz∧A.ones val.cells=true then mW o u i j sz val (vr (H o) u) else none
  |none=>none:=by
 unfold FE;cases B2 P t with
 |none=>rfl
 |some sz=>
  simp only[MX];cases vr (H o) u with
  |none=>rfl
  |some p=>
   obtain⟨s,xs⟩:=p;simp only[Xs];cases xs[i]?<;>rfl
@[simp] theorem alloc_eq {d:Nm} {e:TypeId}:LD P H d e=match A1 P e with | some z=>if A.ones (CU z).cells=true∧B3 d e=true then some (.pob d ((H d).u+1) 0,.one d ⟨(H d).u+1,.cells (CU z).cells⟩) else none | none=>none:=rfl
@[simp] theorem AbK {d:Nm} {e:TypeId} {a:A}:Xh H d e a=if A.ones a.cells=true∧B3 d e=true then some (.pob d ((H d).u+1) 0,.one d ⟨(H d).u+1,.cells a.cells⟩) else none:=rfl
@[simp] theorem zD {a:A}:ey a=if a.isPtr=true then some a else none:=rfl
def mq (H:Hp) (d:Nm) (e:TypeId) (n c:Int):Option Nat→Option Value→Option Nat→Option (A × Eff)
 |some s,some z,some b=>if 0≤n∧n≤c∧b*c≤140737488355328∧0<b∧(CU z).cells.length=s∧A.ones (CU z).cells=true∧B3 d e=true then some (.osl d ((H d).u+1) s 0 n.toNat,.one d ⟨(H d).u+1,.arr s (List.replicate n.toNat (CU z))⟩) else none
 |_,_,_=>none
@[simp] theorem qI {d:Nm} {e:TypeId} {n c:Int} {s b:Nat} {z:Value}:mq H d e n c (some s) (some z) (some b)=if 0≤n∧n≤c∧b*c≤140737488355328∧0<b∧(CU z).cells.length=s∧A.ones (CU z).cells=true∧B3 d e=true then some (.osl d ((H d).u+1) s 0 n.toNat,.one d ⟨(H d).u+1,.arr s (List.replicate n.toNat (CU z))⟩) else none:=rfl
@[simp] theorem ka {d:Nm} {k k':IntKind} {n c:Int}:D0 P H d t (.v (.int k n)) (.v (.int k' c))=match P.underlying t with | some (.slice e)=>mq H d e n c (B2 P e) (A1 P e) (BF P e) | _=>none:=by
 unfold D0;cases P.underlying t with
 |none=>rfl
 |some q=>
  cases q<;>first
   |rfl
   |(rename_i e;cases B2 P e<;>cases A1 P e<;>cases BF P e<;>rfl)
def apS (H:Hp) (d:Nm) (e:TypeId) (xs:List A):Option (List A)→Option Nat→Option Value→Option Nat→Option (A × Eff)
 |some zs,some s,some z,some b=>if 0<b∧(CU z).cells.length=s∧A.ones (CU z).cells=true then if Ds s xs=true∧(xs.length=0∨0<zs.length)∧(xs.length+zs.length)*b≤140737488355328∧B3 d e=true then some (.osl d ((H d).u+1) s 0 (xs.length+zs.length),.one d ⟨(H d).u+1,.arr s (xs++zs)⟩) else none else none
 |_,_,_,_=>none
@[simp] theorem uq {d:Nm} {e:TypeId} {xs zs:List A} {s b:Nat} {z:Value}:apS H d e xs (some zs) (some s) (some z) (some b)=if 0<b∧(CU z).cells.length=s∧A.ones (CU z).cells=true then if Ds s xs=true∧(xs.length=0∨0<zs.length)∧(xs.length+zs.length)*b≤140737488355328∧B3 d e=true then some (.osl d ((H d).u+1) s 0 (xs.length+zs.length),.one d ⟨(H d).u+1,.arr s (xs++zs)⟩) else none else none:=rfl
def apO (o:Nm) (e:TypeId) (v sz off len:Nat):Option (Nat × List A)→Option (List A)→Option Nat→Option Value→Option Nat→Option (A × Eff)
 |some (s',ys),some zs,some s,some z,some b=>if 0<b∧(CU z).cells.length=s∧A.ones (CU z).cells=true then if off=0∧s'=s∧sz=s∧len≤ys.length∧(len+zs.length)*b≤140737488355328∧B3 o e=true then some (.osl o (v+1) s 0 (len+zs.length),.one o ⟨v+1,.arr s (ys.take len++zs)⟩) else none else none
 |_,_,_,_,_=>none
@[simp] theorem xj {o:Nm} {e:TypeId} {v sz off len s' s b:Nat} {ys zs:List A} {z:Value}:apO o e v sz off len (some (s',ys)) (some zs) (some s) (some z) (some b)=if 0<b∧(CU z).cells.length=s∧A.ones (CU z).cells=true then if off=0∧s'=s∧sz=s∧len≤ys.length∧(len+zs.length)*b≤140737488355328∧B3 o e=true then some (.osl o (v+1) s 0 (len+zs.length),.one o ⟨v+1,.arr s (ys.take len++zs)⟩) else none else none:=rfl
@[simp] theorem tJ {d:Nm} {xs:List A} {x:A}:Dt P H d t u (.sl true xs) x=match P.underlying t with | some (.slice e)=>(match B2 P e with | some s=>apS H d e xs (EO P H s e u x) (some s) (A1 P e) (BF P e) | none=>none) | _=>none:=by
 unfold Dt;cases P.underlying t with
 |none=>rfl
 |some q=>
  cases q<;>try rfl
  rename_i e;simp only;cases B2 P e with
  |none=>rfl
  |some s=>
   cases A1 P e with
   |none=>simp only;cases EO P H s e u x<;>rfl
   |some z=>
    cases BF P e with
    |none=>simp only;cases EO P H s e u x<;>rfl
    |some b=>simp only;cases EO P H s e u x<;>rfl
def apF (xs:List A):Option (List A)→Option Nat→Option Value→Option Nat→Option (A × Eff)
 |some zs,some s,some z,some b=>if 0<b∧(CU z).cells.length=s∧A.ones (CU z).cells=true then if zs.length=0 then some (.sl false xs,.nil) else none else none
 |_,_,_,_=>none
@[simp] theorem yo {xs zs:List A} {s b:Nat} {z:Value}:apF xs (some zs) (some s) (some z) (some b)=if 0<b∧(CU z).cells.length=s∧A.ones (CU z).cells=true then if zs.length=0 then some (.sl false xs,.nil) else none else none:=rfl
@[simp] theorem po {d:Nm} {xs:List A} {x:A}:Dt P H d t u (.sl false xs) x=match P.underlying t with | some (.slice e)=>(match B2 P e with | some s=>apF xs (EO P H s e u x) (some s) (A1 P e) (BF P e) | none=>none) | _=>none:=by
 unfold Dt;cases P.underlying t with
 |none=>rfl
 |some q=>
  cases q<;>try rfl
  rename_i e;simp only;cases B2 P e with
  |none=>rfl
  |some s=>
   cases A1 P e with
   |none=>simp only;cases EO P H s e u x<;>rfl
   |some z=>
    cases BF P e with
    |none=>simp only;cases EO P H s e u x<;>rfl
    |some b=>simp only;cases EO P H s e u x<;>rfl
def cpO (o:Nm) (v sz off len s:Nat):Option (Nat × List A)→Option (List A)→Option (A × Eff)
 |some (s',ys),some zs=>if s'=s∧sz=s∧off+len≤ys.length then
   some (.v (.int .i64 (min zs.length len:Nat)),.one o ⟨v,.arr s (ys.take off++zs.take (min zs.length len)++ys.drop (off+min zs.length len))⟩) else none
 |_,_=>none
@[simp] theorem vQ {o:Nm} {v sz off len s s':Nat} {ys zs:List A}:cpO o v sz off len s (some (s',ys)) (some zs)=if s'=s∧sz=s∧off+len≤ys.length then
   some (.v (.int .i64 (min zs.length len:Nat)),.one o ⟨v,.arr s (ys.take off++zs.take (min zs.length len)++ys.drop (off+min zs.length len))⟩) else none:=rfl
@[simp] theorem wh {o:Nm} {v sz off len:Nat} {x:A}:JX P H t (.osl o v sz off len) x=match P.underlying t with | some (.slice e)=>(match B2 P e with | some s=>cpO o v sz off len s (vr (H o) v) (Fb H s x) | none=>none) | _=>none:=by
 unfold JX;cases P.underlying t with
 |none=>rfl
 |some q=>
  cases q<;>try rfl
  rename_i e;simp only[MX];generalize vr (H o) v=r;cases B2 P e with
  |none=>rfl
  |some s=>simp only;cases Fb H s x<;>cases r<;>rfl
def clO (o:Nm) (v sz off len s:Nat) (z:Value):Option (Nat × List A)→Option (A × Eff)
 |some (s',ys)=>if s'=s∧sz=s∧off+len≤ys.length∧(CU z).cells.length=s∧A.ones (CU z).cells=true then
   some (.any,.one o ⟨v,.arr s (ys.take off++List.replicate len (CU z)++ys.drop (off+len))⟩) else none
 |none=>none
@[simp] theorem vv {o:Nm} {v sz off len s s':Nat} {z:Value} {ys:List A}:clO o v sz off len s z (some (s',ys))=if s'=s∧sz=s∧off+len≤ys.length∧(CU z).cells.length=s∧A.ones (CU z).cells=true then
   some (.any,.one o ⟨v,.arr s (ys.take off++List.replicate len (CU z)++ys.drop (off+len))⟩) else none:=rfl
@[simp] theorem tZ {o:Nm} {v sz off len:Nat}:GW P H t (.osl o v sz off len)=match P.underlying t with | some (.slice e)=>(match B2 P e,A1 P e with | some s,some z=>clO o v sz off len s z (vr (H o) v) | _,_=>none) | _=>none:=by
 unfold GW;cases P.underlying t with
 |none=>rfl
 |some q=>
  cases q<;>try rfl
@[simp] theorem pb {d o:Nm} {v sz off len:Nat} {x:A}:Dt P H d t u (.osl o v sz off len) x=match P.underlying t with | some (.slice e)=>(match B2 P e with | some s=>apO o e v sz off len (vr (H o) v) (EO P H s e u x) (some s) (A1 P e) (BF P e) | none=>none) | _=>none:=by
 unfold Dt;cases P.underlying t with
 |none=>rfl
 |some q=>
  cases q<;>try rfl
  rename_i e;simp only[MX];generalize vr (H o) v=r;cases B2 P e with
  |none=>rfl
  |some s=>
   cases A1 P e with
   |none=>simp only;cases EO P H s e u x<;>cases r<;>rfl
   |some z=>
    cases BF P e with
    |none=>simp only;cases EO P H s e u x<;>cases r<;>rfl
    |some b=>
     simp only;cases EO P H s e u x with
     |none=>cases r<;>rfl
     |some zs=>cases r<;>simp only[apO]<;>(try split)<;>rfl
def dK (n:Int) (s:Nat):Option Value→Option Nat→Option (List A)
 |some z,some b=>if 0≤n∧n*b≤140737488355328∧0<b∧(CU z).cells.length=s∧A.ones (CU z).cells=true then some (List.replicate n.toNat (CU z)) else none
 |_,_=>none
@[simp] theorem mF {n:Int} {s b:Nat} {z:Value}:dK n s (some z) (some b)=if 0≤n∧n*b≤140737488355328∧0<b∧(CU z).cells.length=s∧A.ones (CU z).cells=true then some (List.replicate n.toNat (CU z)) else none:=rfl
@[simp] theorem zO {s e:Nat} {k:IntKind} {n:Int}:EO P H s e t (.v (.int k n))=match P.underlying t with | some (.int _)=>dK n s (A1 P e) (BF P e) | _=>none:=by
 unfold EO;cases P.underlying t with
 |none=>rfl
 |some q=>
  cases q<;>first
   |rfl
   |(cases A1 P e<;>cases BF P e<;>rfl)
@[simp] theorem zw {s e:Nat} {x:ByteArray}:EO P H s e t (.v (.string x))=match P.underlying t with | some .string=>if s=1 then some (x.data.toList.map fun b=>.v (.int .u8 b.toNat)) else none | _=>none:=by
 unfold EO;cases P.underlying t with
 |none=>rfl
 |some q=>cases q<;>rfl
@[simp] theorem Abw {s e:Nat} {f:Bool} {xs:List A}:EO P H s e t (.sl f xs)=match P.underlying t with | some (.slice _)=>if Ds s xs=true then some xs else none | _=>none:=by
 unfold EO;cases P.underlying t with
 |none=>rfl
 |some q=>cases q<;>rfl
def elO (s z off n:Nat):Option (Nat × List A)→Option (List A)
 |some (s',ys)=>if s'=s∧z=s∧off+n≤ys.length then some ((ys.drop off).take n) else none
 |none=>none
@[simp] theorem wN {s z off n s':Nat} {ys:List A}:elO s z off n (some (s',ys))=if s'=s∧z=s∧off+n≤ys.length then some ((ys.drop off).take n) else none:=rfl
@[simp] theorem Aau {s e u' z off n:Nat} {o:Nm}:EO P H s e t (.osl o u' z off n)=match P.underlying t with | some (.slice _)=>elO s z off n (vr (H o) u') | _=>none:=by
 unfold EO;cases P.underlying t with
 |none=>rfl
 |some q=>
  cases q<;>first
   |rfl
   |(simp only[Fb,MX];cases vr (H o) u'<;>rfl)
def ixS (xs:List A) (i:Int):Option Nat→Option A
 |some m=>if 0≤i∧i<xs.length then (match xs[i.toNat]? with
     |some x=>if x.cells.length=m then some (.pim x.cells) else none
     |none=>none) else none
 |none=>none
@[simp] theorem uL {xs:List A} {i:Int} {m:Nat}:ixS xs i (some m)=if 0≤i∧i<xs.length then (match xs[i.toNat]? with
     |some x=>if x.cells.length=m then some (.pim x.cells) else none
     |none=>none) else none:=rfl
@[simp] theorem jN {k:IntKind} {i:Int} {f:Bool} {xs:List A}:A7 P t (.sl f xs) (.v (.int k i))=match P.underlying t with | some (.slice e)=>ixS xs i (B2 P e) | _=>none:=by
 unfold A7;cases P.underlying t with
 |none=>rfl
 |some q=>
  cases q<;>first
   |rfl
   |(rename_i e;cases h:B2 P e<;>first | rfl | simp[A.shift,h] | (simp only[h];rfl))
def ixO (o:Nm) (u z off n:Nat) (i:Int):Option Nat→Option A
 |some m=>if 0≤i∧i<n∧z=m then some (.pel o u (off+i.toNat) 0) else none
 |none=>none
@[simp] theorem vI {o:Nm} {u z off n m:Nat} {i:Int}:ixO o u z off n i (some m)=if 0≤i∧i<n∧z=m then some (.pel o u (off+i.toNat) 0) else none:=rfl
@[simp] theorem jC {u z off n:Nat} {o:Nm} {k:IntKind} {i:Int}:A7 P t (.osl o u z off n) (.v (.int k i))=match P.underlying t with | some (.slice e)=>ixO o u z off n i (B2 P e) | _=>none:=by
 unfold A7;cases P.underlying t with
 |none=>rfl
 |some q=>
  cases q<;>first
   |rfl
   |(rename_i e;cases h:B2 P e<;>first | rfl | simp[A.shift,h] | (simp only[h];rfl))
def ixA (a:A) (n:Nat) (i:Int):Option Nat→Option A
 |some m=>if 0≤i∧i<n then a.shift (i.toNat*m) else none
 |none=>none
@[simp] theorem wg {a:A} {n m:Nat} {i:Int}:ixA a n i (some m)=if 0≤i∧i<n then a.shift (i.toNat*m) else none:=rfl
@[simp] theorem jI {u p:Nat} {o:Nm} {k:IntKind} {i:Int}:A7 P t (.pob o u p) (.v (.int k i))=match P.underlying t with | some (.array n e)=>ixA (.pob o u p) n i (B2 P e) | _=>none:=by
 unfold A7;cases P.underlying t with
 |none=>rfl
 |some q=>
  cases q<;>first
   |rfl
   |(rename_i e;cases h:B2 P e<;>first | rfl | simp[A.shift,h] | (simp only[h];rfl))
@[simp] theorem jG {cs:List A} {k:IntKind} {i:Int}:A7 P t (.pim cs) (.v (.int k i))=match P.underlying t with | some (.array n e)=>ixA (.pim cs) n i (B2 P e) | _=>none:=by
 unfold A7;cases P.underlying t with
 |none=>rfl
 |some q=>
  cases q<;>first
   |rfl
   |(rename_i e;cases h:B2 P e<;>first | rfl | simp[A.shift,h] | (simp only[h];rfl))
@[simp] theorem jE {u p q':Nat} {o:Nm} {k:IntKind} {i:Int}:A7 P t (.pel o u p q') (.v (.int k i))=match P.underlying t with | some (.array n e)=>ixA (.pel o u p q') n i (B2 P e) | _=>none:=by
 unfold A7;cases P.underlying t with
 |none=>rfl
 |some q=>
  cases q<;>first
   |rfl
   |(rename_i e;cases h:B2 P e<;>first | rfl | simp[A.shift,h] | (simp only[h];rfl))
def ixV (P:Program) (e:TypeId) (cs:List A) (n:Nat) (i:Int):Option Nat→Option A
 |some m=>if 0≤i∧i<n then KS P e cs (i.toNat*m) else none
 |none=>none
@[simp] theorem wm {e:TypeId} {cs:List A} {n m:Nat} {i:Int}:ixV P e cs n i (some m)=if 0≤i∧i<n then KS P e cs (i.toNat*m) else none:=rfl
@[simp] theorem yc {cs:List A} {off:Nat}:KS P t cs off=match Cu P t,B2 P t with | some g,some sz=>Ia g sz (cs.drop off) | _,_=>none:=rfl
@[simp] theorem tH {cs:List A} {k:IntKind} {i:Int}:II P t (.agg cs) (.v (.int k i))=match P.underlying t with | some (.array n e)=>ixV P e cs n i (B2 P e) | _=>none:=by
 unfold II;cases P.underlying t with
 |none=>rfl
 |some q=>
  cases q<;>first
   |rfl
   |(rename_i e;cases h:B2 P e<;>first | rfl | simp[A.shift,h] | (simp only[h];rfl))
@[simp] theorem rq {s:ByteArray} {k:IntKind} {i:Int}:II P t (.v (.string s)) (.v (.int k i))=match P.underlying t with | some .string=>if 0≤i then (s[i.toNat]?).map (fun b=>.v (.int .u8 b.toNat)) else none | _=>none:=by
 unfold II;cases P.underlying t with
 |none=>rfl
 |some q=>cases q<;>rfl
@[simp] theorem Adm {f:Bool} {xs:List A}:JV P t (.sl f xs)=match P.underlying t with | some (.slice _)=>some (.v (.int .i64 xs.length)) | some (.array n _)=>some (.v (.int .i64 n)) | _=>none:=by
 unfold JV;cases P.underlying t with
 |none=>rfl
 |some q=>cases q<;>rfl
@[simp] theorem Aay {u z off n:Nat} {o:Nm}:JV P t (.osl o u z off n)=match P.underlying t with | some (.slice _)=>some (.v (.int .i64 n)) | some (.array n _)=>some (.v (.int .i64 n)) | _=>none:=by
 unfold JV;cases P.underlying t with
 |none=>rfl
 |some q=>cases q<;>rfl
@[simp] theorem zX {s:ByteArray}:JV P t (.v (.string s))=match P.underlying t with | some .string=>some (.v (.int .i64 s.size)) | some (.array n _)=>some (.v (.int .i64 n)) | _=>none:=by
 unfold JV;cases P.underlying t with
 |none=>rfl
 |some q=>cases q<;>rfl
@[simp] theorem zy {cs:List A}:JV P t (.agg cs)=match P.underlying t with | some (.array n _)=>some (.v (.int .i64 n)) | _=>none:=by
 unfold JV;cases P.underlying t with
 |none=>rfl
 |some q=>cases q<;>rfl
@[simp] theorem AaA {o:Nm} {u p:Nat}:JV P t (.pob o u p)=match P.underlying t with | some (.array n _)=>some (.v (.int .i64 n)) | _=>none:=by
 unfold JV;cases P.underlying t with
 |none=>rfl
 |some q=>cases q<;>rfl
def slS (f:Bool) (xs:List A):Option (Nat × Nat × Option Nat)→Option Nat→Option A
 |some (l,h,m),some s=>if Ds s xs=true then some (.sl (Gl m f h xs.length) ((xs.drop l).take (h-l))) else none
 |_,_=>none
@[simp] theorem vp {f:Bool} {xs:List A} {l h s:Nat} {m:Option Nat}:slS f xs (some (l,h,m)) (some s)=if Ds s xs=true then some (.sl (Gl m f h xs.length) ((xs.drop l).take (h-l))) else none:=rfl
@[simp] theorem wV {f:Bool} {xs:List A} {s:Option Nat}:slS f xs none s=none:=by cases s<;>rfl
@[simp] theorem vw {f:Bool} {xs:List A} {lo hi mx:Option A}:FC P t (.sl f xs) lo hi mx=match P.underlying t with | some (.slice e)=>slS f xs (DP xs.length lo hi mx) (B2 P e) | _=>none:=by
 unfold FC;cases P.underlying t with
 |none=>rfl
 |some q=>
  cases q<;>first
   |rfl
   |(rename_i e;cases DP xs.length lo hi mx<;>cases B2 P e<;>rfl)
def slO (o:Nm) (u z off:Nat):Option (Nat × Nat × Option Nat)→Option Nat→Option A
 |some (l,h,_),some s=>if s=z then some (.osl o u z (off+l) (h-l)) else none
 |_,_=>none
@[simp] theorem yn {o:Nm} {u z off l h s:Nat} {m:Option Nat}:slO o u z off (some (l,h,m)) (some s)=if s=z then some (.osl o u z (off+l) (h-l)) else none:=rfl
@[simp] theorem yd {o:Nm} {u z off:Nat} {s:Option Nat}:slO o u z off none s=none:=by cases s<;>rfl
@[simp] theorem rl {u z off n:Nat} {o:Nm} {lo hi mx:Option A}:FC P t (.osl o u z off n) lo hi mx=match P.underlying t with | some (.slice e)=>slO o u z off (DP n lo hi mx) (B2 P e) | _=>none:=by
 unfold FC;cases P.underlying t with
 |none=>rfl
 |some q=>
  cases q<;>first
   |rfl
   |(rename_i e;cases DP n lo hi mx<;>cases B2 P e<;>rfl)
def slP (cs:List A) (n:Nat):Option (Nat × Nat × Option Nat)→Option Nat→Option A
 |some (l,h,m),some s=>if s=1∧n≤cs.length then some (.sl (Gl m true h n) ((cs.drop l).take (h-l))) else none
 |_,_=>none
@[simp] theorem yw {cs:List A} {n l h s:Nat} {m:Option Nat}:slP cs n (some (l,h,m)) (some s)=if s=1∧n≤cs.length then some (.sl (Gl m true h n) ((cs.drop l).take (h-l))) else none:=rfl
@[simp] theorem xu {cs:List A} {n:Nat} {s:Option Nat}:slP cs n none s=none:=by cases s<;>rfl
@[simp] theorem rj {cs:List A} {lo hi mx:Option A}:FC P t (.pim cs) lo hi mx=match P.underlying t with | some (.array n e)=>slP cs n (DP n lo hi mx) (B2 P e) | _=>none:=by
 unfold FC;cases P.underlying t with
 |none=>rfl
 |some q=>
  cases q<;>first
   |rfl
   |(rename_i n e;cases DP n lo hi mx<;>cases B2 P e<;>rfl)
@[simp] theorem ti {s:ByteArray} {lo hi mx:Option A}:FC P t (.v (.string s)) lo hi mx=match P.underlying t with | some .string=>(match DP s.size lo hi mx with | some (l,h,none)=>some (.v (.string (s.extract l h))) | _=>none) | _=>none:=by
 unfold FC;cases P.underlying t with
 |none=>rfl
 |some q=>cases q<;>rfl
@[simp] theorem AaZ {r:IntKind} {n:Int}:Gk P t u (.v (.int r n))=match P.underlying t,P.underlying u with | some _,some (.int k)=>some (.v (.int k (k.wrap n))) | _,_=>none:=by
 unfold Gk;cases P.underlying t with
 |none=>rfl
 |some q=>cases P.underlying u with
  |none=>rfl
  |some d=>cases d<;>rfl
@[simp] theorem Abb {x:ByteArray}:Gk P t u (.v (.string x))=match P.underlying t,P.underlying u with | some _,some .string=>some (.v (.string x)) | _,_=>none:=by
 unfold Gk;cases P.underlying t with
 |none=>rfl
 |some q=>cases P.underlying u with
  |none=>rfl
  |some d=>cases d<;>rfl
def gi (P:Program) (s:TypeId) (f:Nat):Option (TypeId × Nat):=match P.underlying s with
 |some (.struct fs)=>(fs[f]?).map fun fd=>(fd.type,fd.offset)
 |_=>none
@[simp] theorem rM {cs:List A} {f:Nat}:LQ P t (.agg cs) f=match gi P t f with | some (ft,off)=>KS P ft cs off | none=>none:=by
 unfold LQ gi;cases P.underlying t with
 |none=>rfl
 |some q=>
  cases q<;>first
   |rfl
   |(rename_i fs;simp only;cases fs[f]?<;>rfl)
@[simp] theorem Abv {s e:Nat} {a:Option Addr} {c:Nat}:EO P H s e t (.v (.slice a 0 c))=match P.underlying t with | some (.slice _)=>some [] | _=>none:=by
 unfold EO;cases P.underlying t with
 |none=>rfl
 |some q=>cases q<;>rfl
def Jn:Nat→List (Nat × A)→Bool
 |_,[]=>true
 |k,(i,_)::l=>i == k&&Jn (k+1) l
@[simp] theorem r9 {k:Nat}:Jn k []=true:=rfl
@[simp] theorem P6 {k i:Nat} {x:A} {l:List (Nat × A)}:Jn k ((i,x)::l)=(i == k&&Jn (k+1) l):=rfl
theorem Kd:∀ (l:List (Nat × A)) (k:Nat),Jn k l=true→l.map (·.1)=List.range' k l.length
 |[],k,_=>rfl
 |(i,x)::l,k,h=>by
  simp only[P6,Bool.and_eq_true,beq_iff_eq] at h;simp only[List.map_cons,List.length_cons,List.range'_succ];rw[h.1,Kd l (k+1) h.2]
def xM (len:Nat) (ps:List (Nat × A)):Option Nat→Option Value→Option A
 |some s,some z=>if Jn 0 ps=true∧ps.length=len∧len*s≤16777216∧(CU z).cells.length=s∧A.ones (CU z).cells=true∧(ps.all fun p=>p.2.cells.length == s&&A.ones p.2.cells&&p.2.cells.all A.bare1)=true then some (.sl true (ps.map (·.2))) else none
 |_,_=>none
@[simp] theorem bG {len s:Nat} {z:Value} {ps:List (Nat × A)}:xM len ps (some s) (some z)=if Jn 0 ps=true∧ps.length=len∧len*s≤16777216∧(CU z).cells.length=s∧A.ones (CU z).cells=true∧(ps.all fun p=>p.2.cells.length == s&&A.ones p.2.cells&&p.2.cells.all A.bare1)=true then some (.sl true (ps.map (·.2))) else none:=rfl
theorem JM:∀ (l:List (Nat × A)) (k:Nat),l.map (·.1)=List.range' k l.length→Jn k l=true
 |[],k,_=>rfl
 |(i,x)::l,k,h=>by
  simp only[List.map_cons,List.length_cons,List.range'_succ,List.cons.injEq] at h;simp only[P6,Bool.and_eq_true,beq_iff_eq];exact⟨h.1,JM l (k+1) h.2⟩
@[simp] theorem js {len:Nat} {ps:List (Nat × A)}:D1 P t len ps=match P.underlying t with | some (.slice e)=>xM len ps (B2 P e) (A1 P e) | _=>none:=by
 unfold D1;cases P.underlying t with
 |none=>rfl
 |some q=>
  cases q<;>try rfl
  rename_i e;simp only;cases B2 P e with
  |none=>rfl
  |some s=>
   cases A1 P e with
   |none=>rfl
   |some z=>
    have he:(ps.map (·.1)=List.range len) ↔ (Jn 0 ps=true∧ps.length=len):=by
     constructor
     ·intro h;have hl:ps.length=len:=by have:=congrArg List.length h;simpa using this
      exact⟨JM ps 0 (by rw[h,hl,List.range_eq_range']),hl⟩
     ·rintro⟨h1,h2⟩;rw[Kd _ _ h1,h2,List.range_eq_range']
    simp only[bG,he,and_assoc]
def v7 (H:Hp) (d:Nm) (e:TypeId) (len:Nat) (ps:List (Nat × A)):Option Nat→Option Value→Option (A × Eff)
 |some s,some z=>if Jn 0 ps=true∧ps.length=len∧len*s≤16777216∧(CU z).cells.length=s∧A.ones (CU z).cells=true∧(ps.all fun p=>p.2.cells.length == s&&A.ones p.2.cells)=true∧B3 d e=true then some (.osl d ((H d).u+1) s 0 len,.one d ⟨(H d).u+1,.arr s (ps.map (·.2))⟩) else none
 |_,_=>none
@[simp] theorem ZL {H:Hp} {d:Nm} {e:TypeId} {len s:Nat} {z:Value} {ps:List (Nat × A)}:v7 H d e len ps (some s) (some z)=if Jn 0 ps=true∧ps.length=len∧len*s≤16777216∧(CU z).cells.length=s∧A.ones (CU z).cells=true∧(ps.all fun p=>p.2.cells.length == s&&A.ones p.2.cells)=true∧B3 d e=true then some (.osl d ((H d).u+1) s 0 len,.one d ⟨(H d).u+1,.arr s (ps.map (·.2))⟩) else none:=rfl
@[simp] theorem iR {H:Hp} {d:Nm} {len:Nat} {ps:List (Nat × A)}:Da P H d t len ps=match P.underlying t with | some (.slice e)=>v7 H d e len ps (B2 P e) (A1 P e) | _=>none:=by
 unfold Da;cases P.underlying t with
 |none=>rfl
 |some q=>
  cases q<;>try rfl
  rename_i e;simp only;cases B2 P e with
  |none=>rfl
  |some s=>
   cases A1 P e with
   |none=>rfl
   |some z=>
    have he:(ps.map (·.1)=List.range len) ↔ (Jn 0 ps=true∧ps.length=len):=by
     constructor
     ·intro h;have hl:ps.length=len:=by have:=congrArg List.length h;simpa using this
      exact⟨JM ps 0 (by rw[h,hl,List.range_eq_range']),hl⟩
     ·rintro⟨h1,h2⟩;rw[Kd _ _ h1,h2,List.range_eq_range']
    simp only[ZL,he,and_assoc]
@[simp] theorem jY {cs:List A}:G3 P .eql t (.pim cs) (.v (.pointer none))=match P.underlying t with | some (.pointer _)=>some (.v (.bool false)) | _=>none:=by
 show(IZ P 100 t _ _).map _=_;unfold IZ;cases P.underlying t with
 |none=>rfl
 |some q=>cases q<;>rfl
@[simp] theorem kn {cs:List A}:G3 P .neq t (.pim cs) (.v (.pointer none))=match P.underlying t with | some (.pointer _)=>some (.v (.bool true)) | _=>none:=by
 show(IZ P 100 t _ _).map _=_;unfold IZ;cases P.underlying t with
 |none=>rfl
 |some q=>cases q<;>rfl
@[simp] theorem kJ {o:Nm} {v p:Nat}:G3 P .eql t (.pob o v p) (.v (.pointer none))=match P.underlying t with | some (.pointer _)=>some (.v (.bool false)) | _=>none:=by
 show(IZ P 100 t _ _).map _=_;unfold IZ;cases P.underlying t with
 |none=>rfl
 |some q=>cases q<;>rfl
@[simp] theorem jM {o:Nm} {v p:Nat}:G3 P .neq t (.pob o v p) (.v (.pointer none))=match P.underlying t with | some (.pointer _)=>some (.v (.bool true)) | _=>none:=by
 show(IZ P 100 t _ _).map _=_;unfold IZ;cases P.underlying t with
 |none=>rfl
 |some q=>cases q<;>rfl
@[simp] theorem lQ {o:Nm} {v p q':Nat}:G3 P .eql t (.pel o v p q') (.v (.pointer none))=match P.underlying t with | some (.pointer _)=>some (.v (.bool false)) | _=>none:=by
 show(IZ P 100 t _ _).map _=_;unfold IZ;cases P.underlying t with
 |none=>rfl
 |some q=>cases q<;>rfl
@[simp] theorem jW {o:Nm} {v p q':Nat}:G3 P .neq t (.pel o v p q') (.v (.pointer none))=match P.underlying t with | some (.pointer _)=>some (.v (.bool true)) | _=>none:=by
 show(IZ P 100 t _ _).map _=_;unfold IZ;cases P.underlying t with
 |none=>rfl
 |some q=>cases q<;>rfl
@[simp] theorem lJ:G3 P .eql t (.v (.pointer none)) (.v (.pointer none))=match P.underlying t with | some (.pointer _)=>some (.v (.bool true)) | _=>none:=by
 show(IZ P 100 t _ _).map _=_;unfold IZ;cases P.underlying t with
 |none=>rfl
 |some q=>cases q<;>rfl
@[simp] theorem ld:G3 P .neq t (.v (.pointer none)) (.v (.pointer none))=match P.underlying t with | some (.pointer _)=>some (.v (.bool false)) | _=>none:=by
 show(IZ P 100 t _ _).map _=_;unfold IZ;cases P.underlying t with
 |none=>rfl
 |some q=>cases q<;>rfl
@[simp] theorem jt {a b:Bool}:G3 P .eql t (.v (.bool a)) (.v (.bool b))=match P.underlying t with | some .bool=>some (.v (.bool (a == b))) | _=>none:=by
 show(IZ P 100 t _ _).map _=_;unfold IZ;cases P.underlying t with
 |none=>rfl
 |some q=>cases q<;>rfl
@[simp] theorem jo {a b:Bool}:G3 P .neq t (.v (.bool a)) (.v (.bool b))=match P.underlying t with | some .bool=>some (.v (.bool (!(a == b)))) | _=>none:=by
 show(IZ P 100 t _ _).map _=_;unfold IZ;cases P.underlying t with
 |none=>rfl
 |some q=>cases q<;>rfl
end
def Gt {α:Type} (F:Option α) (K:α→Prop):Prop:=∃ x,F=some x∧K x
def EY (q:Bool) (F:Option A) (K:A→Prop):Prop:=∃ x,(q=true→F=some x)∧K (gd q x)
def Qm (q:Bool) (F:Prop):Prop:=q=true→F
def OV (b:Bool) (F G:Prop):Prop:=(b=true→F)∧(b=false→G)
@[congr] theorem xh {α:Type} {F F':Option α} {K:α→Prop} (h:F=F'):Gt F K=Gt F' K:=by rw[h]
@[congr] theorem sO {q q':Bool} {F F':Option A} {K:A→Prop} (h1:q=q') (h2:F=F'):EY q F K=EY q' F' K:=by rw[h1,h2]
@[congr] theorem ri {b b':Bool} {F G:Prop} (h:b=b'):OV b F G=OV b' F G:=by rw[h]
@[congr] theorem qf {P:Program} {K:Lu} {l:List CO} {lg lg':Lg} {st st':Sta} (h0:lg=lg') (h:st=st'):An P K l lg st=An P K l lg' st':=by rw[h0,h]
@[congr] theorem sL {c:Cx} {x:CC} {Q:Exit→Sta→Prop} {st st':Sta} (h:st=st'):WPC c x Q st=WPC c x Q st':=by rw[h]
@[congr] theorem mz {c:Cx} {x:CC} {Q:Exit→Sta→Prop} {st st':Sta} (h:st=st'):LoopC c x Q st=LoopC c x Q st':=by rw[h]
@[congr] theorem ml {K:Sta→Prop} {Q:Exit→Sta→Prop} {e e':Exit} {st st':Sta} (h0:e=e') (h:st=st'):Hk K Q e st=Hk K Q e' st':=by rw[h0,h]
@[congr] theorem np {c:Cx} {K:Sta→Prop} {st st':Sta} (h:st=st'):KX c K st=KX c K st':=by rw[h]
@[congr] theorem jr {i:Nat} {Q:Exit→Sta→Prop} {e e':Exit} {st st':Sta} (h0:e=e') (h:st=st'):DN i Q e st=DN i Q e' st':=by rw[h0,h]
@[congr] theorem tU {Q:Exit→Sta→Prop} {e e':Exit} {st st':Sta} (h0:e=e') (h:st=st'):qc Q e st=qc Q e' st':=by rw[h0,h]
@[simp] theorem Aa1 {α:Type} {x:α} {K:α→Prop}:Gt (some x) K=K x:=by simp[Gt]
@[simp] theorem Adj {α:Type} {C:Prop} [Decidable C] {F G:Option α} {K:α→Prop}:Gt (if C then F else G) K=((C→Gt F K)∧(¬C→Gt G K)):=by
 by_cases h:C<;>simp[h]
@[simp] theorem Aa9 {α:Type} {K:α→Prop}:Gt none K=False:=by simp[Gt]
@[simp high] theorem zS {α:Type} {C:Prop} [Decidable C] {F:Option α} {K:α→Prop}:Gt (if C then F else none) K=(C∧Gt F K):=by
 by_cases h:C<;>simp[h]
@[simp] theorem uH {q:Bool} {x:A} {K:A→Prop}:EY q (some x) K=K (gd q x):=by
 apply propext;constructor
 ·rintro⟨y,h1,h2⟩;cases q
  ·exact h2
  ·cases h1 rfl;exact h2
 ·exact fun h=>⟨x,fun _=>rfl,h⟩
@[simp high] theorem xr {q:Bool} {C:Prop} [Decidable C] {F:Option A} {K:A→Prop}:EY q (if C then F else none) K=(Qm q C∧EY q F K):=by
 cases q
 ·simp[EY,Qm]
 ·by_cases h:C<;>simp[h,EY,Qm]
@[simp] theorem yp {F:Option A} {K:A→Prop}:EY true F K=Gt F K:=by simp[EY,Gt,gd]
@[simp] theorem sc {F:Option A} {K:A→Prop}:EY false F K=K (.v undef):=by simp[EY,gd]
@[simp] theorem v8 {F:Prop}:Qm true F=F:=by simp[Qm]
@[simp] theorem rv {F:Prop}:Qm false F=True:=by simp[Qm]
@[simp] theorem mb {q:Bool}:Qm q True=True:=by simp[Qm]
@[simp] theorem nF {p:Prop} [Decidable p] {F:Prop}:Qm (decide p) F=(p→F):=by simp[Qm]
@[simp] theorem uI {F G:Prop}:OV true F G=F:=by simp[OV]
@[simp] theorem rQ {F G:Prop}:OV false F G=G:=by simp[OV]
@[simp] theorem qy {p:Prop} [Decidable p] {F G:Prop}:OV (decide p) F G=((p→F)∧(¬p→G)):=by simp[OV]
@[simp] theorem Abd {b:Bool} {F G:Prop}:OV (!b) F G=OV b G F:=by cases b<;>simp
@[simp] theorem zz {a b:Bool} {F G:Prop}:OV (a&&b) F G=(((a&&b)=true→F)∧((a&&b)=false→G)):=rfl
@[simp] theorem Adn {a b:Bool} {F G:Prop}:OV (a || b) F G=(((a || b)=true→F)∧((a || b)=false→G)):=rfl
@[simp] theorem xo {b:Bool} {F:Prop}:OV b F F=F:=by cases b<;>simp
@[simp] theorem Abi {x:A}:gd true x=x:=rfl
@[simp] theorem vJ {x:A}:gd false x = .v undef:=rfl
@[simp] theorem Ach {q:Bool} {x y:A}:(bif q then gd q x else y)=bif q then x else y:=by cases q<;>rfl
def ng (b:Bool):Bool:=!b
@[simp] theorem vN:ng true=false:=rfl
@[simp] theorem sC:ng false=true:=rfl
@[simp] theorem Abj {b:Bool}:(ng b=true)=(b=false):=by cases b<;>simp[ng]
@[simp] theorem uU {b:Bool}:(ng b=false)=(b=true):=by cases b<;>simp[ng]
@[simp] theorem AcX {b:Bool}:ng (!b)=b:=by cases b<;>rfl
@[simp] theorem oE {q:Bool} {x y:A}:(bif q then x else gd (!q) y)=bif q then x else y:=by cases q<;>rfl
@[simp] theorem nQ {q c:Bool} {x y:A}:gd q (bif c then x else gd (q&&!c) y)=gd q (bif c then x else y):=by cases q<;>cases c<;>rfl
@[simp] theorem Ab0 {b:Bool} {F:Prop}:Qm (ng b) F=(b=false→F):=by cases b<;>simp[Qm]
@[simp] theorem zK {a b:Bool} {F:Prop}:Qm (a&&b) F=Qm a (Qm b F):=by cases a<;>cases b<;>simp[Qm]
@[simp] theorem Acj {a b:Bool} {F:Prop}:Qm (a || b) F=(Qm a F∧Qm b F):=by cases a<;>cases b<;>simp[Qm]
@[simp] theorem Aab {a:Bool} {F:Prop}:Qm (!a) F=(a=false→F):=by cases a<;>simp[Qm]
@[simp] theorem Aco {b:Bool} {F G:Prop}:OV (ng b) F G=OV b G F:=by cases b<;>simp[OV]
@[simp] theorem zJ {q:Bool} {x y:A}:(bif q then x else gd (ng q) y)=bif q then x else y:=by cases q<;>rfl
@[simp] theorem qq {b:Bool}:BG (.v (.bool b)) true=some b:=by cases b<;>rfl
@[simp] theorem mL {b:Bool}:BG (.v (.bool b)) false=some (ng b):=by cases b<;>rfl
@[simp] theorem mX {f:Bool}:BG (.v undef) f=some false:=rfl
@[simp] theorem wq {q b:Bool}:BG (gd q (.v (.bool b))) true=some (q&&b):=by cases q<;>cases b<;>rfl
@[simp] theorem tg {q b:Bool}:BG (gd q (.v (.bool b))) false=some (q&&ng b):=by cases q<;>cases b<;>rfl
@[simp] theorem AaG {q c:Bool} {x y:A}:gd q (bif c then gd (q&&c) x else y)=gd q (bif c then x else y):=by cases q<;>cases c<;>rfl
@[simp] theorem Aaw {q c:Bool} {x y:A}:gd q (bif c then x else gd (q&&ng c) y)=gd q (bif c then x else y):=by cases q<;>cases c<;>rfl
@[simp] theorem AdD {q:Bool} {x:A}:gd q (gd q x)=gd q x:=by cases q<;>rfl
@[simp] theorem qE {b:Bool}:U6 (.v (.bool b))=some b:=rfl
@[simp] theorem tk {b:Bool} {x y:A}:UI (.v (.bool b)) x y=some (bif b then x else y):=rfl
@[simp] theorem tz {α:Type} {b:Bool} {x:α}:(bif b then x else x)=x:=by cases b<;>rfl
section
variable {c:Cx} {Q:Exit→Sta→Prop} {st:Sta} {K:Sta→Prop}
@[simp] theorem vV:WPC c .skip Q st=Q .normal st:=rfl
@[simp] theorem uu {i:Nat}:WPC c (.exit i) Q st=Q (.exit i) st:=rfl
@[simp] theorem zG:WPC c .ret Q st=Q .ret st:=rfl
def ns (Q:Exit→Sta→Prop) (live:List Nat) (st:Sta):Prop:=Q .normal (st.keep live)
@[simp] theorem uJ {live:List Nat}:ns Q live st=Q .normal (st.keep live):=rfl
@[simp] theorem AaY {ops:List CO} {live:List Nat}:WPC c (.reg ops live) Q st=An c.P ⟨c.die,ns Q live⟩ ops [] st:=rfl
@[simp] theorem zr {x y:CC}:WPC c (.seq x y) Q st=WPC c x (Hk (WPC c y Q) Q) st:=rfl
@[simp] theorem re {i:Nat} {x:CC}:WPC c (.block i x) Q st=WPC c x (DN i Q) st:=rfl
@[simp] theorem yi {x:CC}:WPC c (.loop x) Q st=LoopC c x Q st:=rfl
@[simp] theorem tN {x:CC}:WPC c (.scope x) Q st=WPC c x (qc Q) st:=rfl
@[simp] theorem pC:qc Q .normal st=Q .normal st:=rfl
@[simp] theorem vk {i:Nat}:qc Q (.exit i) st=Q (.exit i) st:=rfl
@[simp] theorem zq:qc Q .ret st=Q .ret st:=rfl
@[simp] theorem yB {x:CC}:WPC c (.stop x) Q st=KX c (WPC c x Q) st:=rfl
@[simp] theorem vK {live:List Nat} {x:CC}:WPC c (.keep live x) Q st=WPC c x Q (st.keep live):=rfl
@[simp] theorem xC {o:Operand} {x y:CC}:WPC c (.cond o x y) Q st=Gt (U6 (evs st.s o)) fun b=>OV b (WPC c x Q st) (WPC c y Q st):=by
 apply propext;constructor
 ·rintro⟨b,h1,h2,h3⟩;exact⟨b,by rw[h1];rfl,h2,h3⟩
 ·rintro⟨b,h1,h2,h3⟩;exact⟨b,Ra h1,h2,h3⟩
@[simp] theorem lM:Hk K Q .normal st=K st:=rfl
@[simp] theorem oZ {i:Nat}:Hk K Q (.exit i) st=Q (.exit i) st:=rfl
@[simp] theorem rL:Hk K Q .ret st=Q .ret st:=rfl
theorem Ad {x x':CC} (hm:c.P.follows .mixedOrders=true) (he:x=x') (h:WPC c x' (Hk (LoopC c x Q) Q) st):LoopC c x Q st:=by
 subst he;exact Vy hm h
@[simp] theorem Aem {P:Program} {w0:World} {I0:Nat→Prop} {n:Nat}:(cx P w0 I0 n).P=P:=rfl
variable {P:Program} {rs:List ResultVar} {r:A}
@[simp] theorem mj:Rx P rs r .normal st=Gt (FW P st rs) fun r0=>Jw st.H r0 r:=rfl
@[simp] theorem wT:Rx P rs r .ret st=Gt (FW P st rs) fun r0=>Jw st.H r0 r:=rfl
@[simp] theorem pL {t:Nat}:Lw P st (.tmp t)=some (st.s t):=rfl
@[simp] theorem l6 {t:TypeId} {a:Nat}:Lw P st (.cell a t)=Em P st.H t (st.s a):=rfl
@[simp] theorem yx {x:ResultVar}:FW P st [x]=Lw P st x:=rfl
@[simp] theorem uY {x y:ResultVar} {l:List ResultVar}:FW P st (x::y::l)=(FK P st (x::y::l)).map .tup:=rfl
@[simp] theorem vl:FW P st []=some (.tup []):=rfl
@[simp] theorem ni:FK P st []=some []:=rfl
@[simp] theorem kB {x:ResultVar} {l:List ResultVar}:FK P st (x::l)=match Lw P st x,FK P st l with | some x,some l=>some (x::l) | _,_=>none:=rfl
end
section
variable {P:Program} {H:Hp} {t u:TypeId} {q:Bool} {x y z:A} {K:A→Prop}
theorem CV {F F':Option A} (h:q=true→F=F'):EY q F K=EY q F' K:=by
 cases q
 ·simp
 ·rw[h rfl]
@[simp] theorem xG {op:BinOp}:EY q (G3 P op t (gd q x) y) K=EY q (G3 P op t x y) K:=CV fun h=>by rw[h];rfl
@[simp] theorem xU {op:BinOp}:EY q (G3 P op t x (gd q y)) K=EY q (G3 P op t x y) K:=CV fun h=>by rw[h];rfl
@[simp] theorem AbU {op:UnOp}:EY q (lx op (gd q y)) K=EY q (lx op y) K:=CV fun h=>by rw[h];rfl
@[simp] theorem uK:EY q (HU P t u (gd q y)) K=EY q (HU P t u y) K:=CV fun h=>by rw[h];rfl
@[simp] theorem vF:EY q (Em P H t (gd q y)) K=EY q (Em P H t y) K:=CV fun h=>by rw[h];rfl
@[simp] theorem jx {i:Nat}:EY q (Eb P t (gd q y) i) K=EY q (Eb P t y i) K:=CV fun h=>by rw[h];rfl
@[simp] theorem gI:EY q (A7 P t (gd q x) y) K=EY q (A7 P t x y) K:=CV fun h=>by rw[h];rfl
@[simp] theorem gp:EY q (A7 P t x (gd q y)) K=EY q (A7 P t x y) K:=CV fun h=>by rw[h];rfl
@[simp] theorem AaC:EY q (JV P t (gd q y)) K=EY q (JV P t y) K:=CV fun h=>by rw[h];rfl
@[simp] theorem Abk:EY q (UI (gd q z) x y) K=EY q (UI z x y) K:=CV fun h=>by rw[h];rfl
def GB (P:Program) (q:Bool) (t:TypeId) (acc l:List (Nat × A)) (K:A→Prop):Prop:=EY q (Bw P t (acc++l)) K
@[congr] theorem xV {q':Bool} {acc l l':List (Nat × A)} (h0:q=q') (h:l=l'):GB P q t acc l K=GB P q' t acc l' K:=by rw[h0,h]
@[simp] theorem AcC {acc:List (Nat × A)}:GB P q t acc [] K=EY q (Bw P t acc) K:=by simp[GB]
theorem IQ {acc l:List (Nat × A)} {i:Nat}:GB P q t acc ((i,x)::l) K=GB P q t (acc++[(i,x)]) l K:=by simp[GB]
@[simp] theorem AdM {acc l:List (Nat × A)} {i:Nat}:GB P q t acc ((i,gd q x)::l) K=GB P q t (acc++[(i,x)]) l K:=by
 rw[← IQ];exact CV fun h=>by rw[h];rfl
@[simp] theorem Aec {acc l:List (Nat × A)} {i:Nat} {a:Value}:GB P q t acc ((i,.v a)::l) K=GB P q t (acc++[(i,.v a)]) l K:=IQ
@[simp] theorem AdR {acc l:List (Nat × A)} {i:Nat} {b:Bool} {xs:List A}:GB P q t acc ((i,.sl b xs)::l) K=GB P q t (acc++[(i,.sl b xs)]) l K:=IQ
@[simp] theorem Ab2 {acc l:List (Nat × A)} {i u z m n:Nat} {o:Nm}:GB P q t acc ((i,.osl o u z m n)::l) K=GB P q t (acc++[(i,.osl o u z m n)]) l K:=IQ
@[simp] theorem AcK {acc l:List (Nat × A)} {i u m:Nat} {o:Nm}:GB P q t acc ((i,.pob o u m)::l) K=GB P q t (acc++[(i,.pob o u m)]) l K:=IQ
@[simp] theorem Acs {acc l:List (Nat × A)} {i:Nat} {xs:List A}:GB P q t acc ((i,.pim xs)::l) K=GB P q t (acc++[(i,.pim xs)]) l K:=IQ
@[simp] theorem AbJ {acc l:List (Nat × A)} {i:Nat} {xs:List A}:GB P q t acc ((i,.agg xs)::l) K=GB P q t (acc++[(i,.agg xs)]) l K:=IQ
@[simp] theorem nA {i:Nat}:EY q (F3 (gd q y) i) K=EY q (F3 y i) K:=CV fun h=>by rw[h];rfl
end
section
variable {P:Program} {H:Hp} {t u:TypeId}
@[simp] theorem vj {op:BinOp} {q r:IntKind} {a b:Int}:G3 P op t (.v (.int q a)) (.v (.int r b))=C7 op q r a b:=rfl
@[simp] theorem wI {op:BinOp} {a b:ByteArray}:G3 P op t (.v (.string a)) (.v (.string b))=O8 op a b:=rfl
@[simp] theorem m8 {xs ys:List A}:G3 P .eql t (.agg xs) (.agg ys)=if P.eqGuardType P.depth t=false then (IZ P 100 t (.agg xs) (.agg ys)).map fun b=>.v (.bool b) else none:=rfl
@[simp] theorem mw {xs ys:List A}:G3 P .neq t (.agg xs) (.agg ys)=if P.eqGuardType P.depth t=false then (IZ P 100 t (.agg xs) (.agg ys)).map fun b=>.v (.bool (!b)) else none:=rfl
@[simp] theorem wa {q r:IntKind} {a b:Int}:C7 .shl q r a b=if 0≤b then some (.v (.int q (q.wrap (a*2 ^ (min b.toNat q.bits))))) else none:=rfl
@[simp] theorem ye {q r:IntKind} {a b:Int}:C7 .shr q r a b=if 0≤b then some (.v (.int q (a / 2 ^ (min b.toNat q.bits)))) else none:=rfl
@[simp] theorem um {q:IntKind} {a b:Int}:C7 .add q q a b=some (.v (.int q (q.wrap (a+b)))):=by simp[C7]
@[simp] theorem uf {q:IntKind} {a b:Int}:C7 .sub q q a b=some (.v (.int q (q.wrap (a-b)))):=by simp[C7]
@[simp] theorem u9 {q:IntKind} {a b:Int}:C7 .mul q q a b=some (.v (.int q (q.wrap (a*b)))):=by simp[C7]
@[simp] theorem vi {q:IntKind} {a b:Int}:C7 .quo q q a b=if b=0 then none else some (.v (.int q (q.wrap (a.tdiv b)))):=by simp[C7]
@[simp] theorem xZ {q:IntKind} {a b:Int}:C7 .rem q q a b=if b=0 then none else some (.v (.int q (a.tmod b))):=by simp[C7]
@[simp] theorem ya {q:IntKind} {a b:Int}:C7 .and q q a b=some (.v (.int q (bits .and q a b))):=by simp[C7]
@[simp] theorem z8 {q:IntKind} {a b:Int}:C7 .or q q a b=some (.v (.int q (bits .or q a b))):=by simp[C7]
@[simp] theorem wJ {q:IntKind} {a b:Int}:C7 .xor q q a b=some (.v (.int q (bits .xor q a b))):=by simp[C7]
@[simp] theorem mE {q:IntKind} {a b:Int}:C7 .andNot q q a b=some (.v (.int q (bits .andNot q a b))):=by simp[C7]
@[simp] theorem uW {q:IntKind} {a b:Int}:C7 .eql q q a b=some (.v (.bool (decide (a=b)))):=by simp[C7];rfl
@[simp] theorem wQ {q:IntKind} {a b:Int}:C7 .neq q q a b=some (.v (.bool (!decide (a=b)))):=by simp[C7];rfl
@[simp] theorem xn {q:IntKind} {a b:Int}:C7 .lss q q a b=some (.v (.bool (decide (a<b)))):=by simp[C7]
@[simp] theorem wc {q:IntKind} {a b:Int}:C7 .leq q q a b=some (.v (.bool (decide (a≤b)))):=by simp[C7]
@[simp] theorem uO {q:IntKind} {a b:Int}:C7 .gtr q q a b=some (.v (.bool (decide (b<a)))):=by simp[C7]
@[simp] theorem wz {q:IntKind} {a b:Int}:C7 .geq q q a b=some (.v (.bool (decide (b≤a)))):=by simp[C7]
@[simp] theorem Aaq {b:Bool}:lx .not (.v (.bool b))=some (.v (.bool (!b))):=rfl
@[simp] theorem Aba {q:IntKind} {n:Int}:lx .neg (.v (.int q n))=some (.v (.int q (q.wrap (0-n)))):=rfl
@[simp] theorem tM {u:TypeId} {k:IntKind} {n:Int}:HU P t u (.v (.int k n))=Gk P t u (.v (.int k n)):=rfl
@[simp] theorem uX {u:TypeId} {f:Bool} {xs:List A}:HU P t u (.sl f xs)=Gk P t u (.sl f xs):=rfl
@[simp] theorem si {u:TypeId} {o:Nm} {v z off n:Nat}:HU P t u (.osl o v z off n)=Gk P t u (.osl o v z off n):=rfl
@[simp] theorem oY {u:TypeId} {q:Bool}:HU P t u (.v (.bool q))=Gk P t u (.v (.bool q)):=rfl
@[simp] theorem tQ {u:TypeId} {xs:List A}:HU P t u (.agg xs)=Gk P t u (.agg xs):=rfl
@[simp] theorem tK {u:TypeId} {l:List UInt8}:HU P t u (.v (.string ⟨l.toArray⟩))=match P.underlying t,P.underlying u with
  |some .string,some (.slice e)=>match P.underlying e with
   |some (.int .u8)=>some (.sl false (l.map fun b=>.v (.int .u8 b.toNat)))
   |_=>none
  |_,_=>Gk P t u (.v (.string ⟨l.toArray⟩)):=rfl
@[simp] theorem ub {cs:List A}:Em P H t (.pim cs)=match Cu P t,B2 P t with | some g,some sz=>Ia g sz cs | _,_=>none:=rfl
@[simp] theorem wt {sz:Nat} {cs:List A}:Ia true sz cs=if sz≤cs.length then some (.agg (cs.take sz)) else none:=rfl
@[simp] theorem sx {sz:Nat} {cs:List A}:Ia false sz cs=cs[0]?:=rfl
@[simp] theorem p6 {n:Nat}:Fv (.tmp n)=false:=rfl
@[simp] theorem qB {k:IntKind} {n:Int}:Fv (.const (.int k n))=false:=rfl
@[simp] theorem na {n:Bool}:Fv (.const (.bool n))=false:=rfl
@[simp] theorem oI {n:ByteArray}:Fv (.const (.string n))=false:=rfl
@[simp] theorem pS {n:Option Addr}:Fv (.const (.pointer n))=false:=rfl
@[simp] theorem pP {n:Array Value}:Fv (.const (.agg n))=false:=rfl
@[simp] theorem pa:Fv (.const .nilIface)=false:=rfl
@[simp] theorem nZ:Fv (.const (.slice none 0 0))=true:=rfl
@[simp] theorem pN {n:Nat}:Gc (.tmp n)=false:=rfl
@[simp] theorem pJ {k:IntKind} {n:Int}:Gc (.const (.int k n))=false:=rfl
@[simp] theorem nq {n:Bool}:Gc (.const (.bool n))=false:=rfl
@[simp] theorem nT {n:ByteArray}:Gc (.const (.string n))=false:=rfl
@[simp] theorem qt {n:Option Addr}:Gc (.const (.pointer n))=false:=rfl
@[simp] theorem nR {n:Array Value}:Gc (.const (.agg n))=false:=rfl
@[simp] theorem qX:Gc (.const .nilIface)=true:=rfl
@[simp] theorem tl:OG (.v .nilIface)=some true:=rfl
@[simp] theorem sv {u:TypeId} {y:A}:OG (.ifc u y)=some false:=rfl
@[simp] theorem oh {x:A}:GA P .eql t x=match P.underlying t with | some (.interface _)=>(OG x).map fun b=>.v (.bool b) | _=>none:=by
 unfold GA;cases P.underlying t with
 |none=>rfl
 |some d=>cases d<;>rfl
@[simp] theorem oe {x:A}:GA P .neq t x=match P.underlying t with | some (.interface _)=>(OG x).map fun b=>.v (.bool (!b)) | _=>none:=by
 unfold GA;cases P.underlying t with
 |none=>rfl
 |some d=>cases d<;>rfl
@[simp] theorem sG {x:A}:IW P .eql t x=match P.underlying t with | some (.slice _)=>(US x).map fun b=>.v (.bool b) | _=>none:=by
 unfold IW;cases P.underlying t with
 |none=>rfl
 |some d=>cases d<;>rfl
@[simp] theorem sN {x:A}:IW P .neq t x=match P.underlying t with | some (.slice _)=>(US x).map fun b=>.v (.bool (!b)) | _=>none:=by
 unfold IW;cases P.underlying t with
 |none=>rfl
 |some d=>cases d<;>rfl
@[simp] theorem rA {f:Bool} {x:A} {xs:List A}:US (.sl f (x::xs))=some false:=rfl
@[simp] theorem AcR {a:Option Addr} {n c:Nat}:US (.v (.slice a n c))=some a.isNone:=rfl
@[simp] theorem rV {len:Nat} {lo hi:Option A}:DP len lo hi none=match EW hi len len with | some h=>(match EW lo 0 h with | some l=>some (l,h,none) | none=>none) | none=>none:=rfl
@[simp] theorem qz {d n:Nat}:EW none d n=some d:=rfl
@[simp] theorem so {k:IntKind} {i:Int} {d n:Nat}:EW (some (.v (.int k i))) d n=if 0≤i∧i≤n then some i.toNat else none:=rfl
@[simp] theorem nM {f:Bool} {h n:Nat}:Gl none f h n=(f&&h == n):=rfl
@[simp] theorem qo {f:Bool} {h n m:Nat}:Gl (some m) f h n=(m == h):=rfl
@[simp] theorem tW {n:Nat} {cs:List A}:A.shift n (.pim cs)=some (.pim (cs.drop n)):=rfl
@[simp] theorem ta {n u p:Nat} {o:Nm}:A.shift n (.pob o u p)=some (.pob o u (p+n)):=rfl
@[simp] theorem tR {n u p q:Nat} {o:Nm}:A.shift n (.pel o u p q)=some (.pel o u p (q+n)):=rfl
@[simp] theorem kh {a:A} {i:Nat}:Eb P t a i=(Ah P t i).bind a.shift:=rfl
@[simp] theorem mR {xs:List A} {i:Nat}:F3 (.tup xs) i=xs[i]?:=rfl
@[simp] theorem mQ {c:A} {cs news:List A} {n:Nat}:splice (c::cs) (n+1) news=c::splice cs n news:=by simp[splice,Nat.add_right_comm]
@[simp] theorem my {cs news:List A}:splice cs 0 news=news++cs.drop news.length:=by simp[splice]
end
section
variable {P:Program} {s:Nat→A} {H:Hp}
@[simp] theorem xy {d:Nat} {x:A} {H':Hp}:Sta.put ⟨s,H⟩ (some d) x H'=⟨upd s d x,H'⟩:=rfl
@[simp] theorem wL {x:A} {H':Hp}:Sta.put ⟨s,H⟩ none x H'=⟨s,H'⟩:=rfl
@[simp] theorem AbR {d t:Nat} {x:A}:upd s d x t=if t=d then x else s t:=rfl
@[simp] theorem X7 {t:Nat}:lk [] t = .any:=rfl
@[simp] theorem Pf {d t:Nat} {x:A} {l:List (Nat × A)}:lk ((d,x)::l) t=if d=t then x else lk l t:=rfl
@[simp] theorem zj {args:List A} {t:Nat}:Fk args t=(args[t]?).getD .any:=rfl
@[simp] theorem z6 {t:Nat}:evs s (.tmp t)=s t:=rfl
@[simp] theorem sh {x:Value}:evs s (.const x)=CU x:=rfl
@[simp] theorem xS {g:FuncId}:evs s (.func g) = .fnc g [] []:=rfl
@[simp] theorem zi {live:List Nat}:Sta.keep ⟨s,H⟩ live=⟨lk (live.map fun k=>(k,s k)),H⟩:=rfl
@[simp] theorem Aa0 {q:IntKind} {n:Int}:CU (.int q n) = .v (.int q n):=rfl
@[simp] theorem xI {b:Bool}:CU (.bool b) = .v (.bool b):=rfl
@[simp] theorem pB {b:ByteArray}:CU (.string b) = .v (.string b):=rfl
@[simp] theorem me {b:Option Addr}:CU (.pointer b) = .v (.pointer b):=rfl
@[simp] theorem Abc:CU (.slice none 0 0) = .sl true []:=rfl
@[simp] theorem zN {cs:Array Value}:CU (.agg cs) = .agg (cs.toList.map RP):=rfl
@[simp] theorem uE {q:IntKind} {n:Int}:RP (.int q n) = .v (.int q n):=rfl
@[simp] theorem tP {b:Bool}:RP (.bool b) = .v (.bool b):=rfl
@[simp] theorem mf {b:ByteArray}:RP (.string b) = .v (.string b):=rfl
@[simp] theorem lP {b:Option Addr}:RP (.pointer b) = .v (.pointer b):=rfl
@[simp] theorem uT:RP (.slice none 0 0) = .sl true []:=rfl
@[simp] theorem sF {cs:List A}:(A.agg cs).cells=cs:=rfl
@[simp] theorem zf {x:Value}:(A.v x).cells=[.v x]:=rfl
@[simp] theorem yf {b:Bool} {xs:List A}:(A.sl b xs).cells=[.sl b xs]:=rfl
@[simp] theorem sS {o:Nm} {u z p q:Nat}:(A.osl o u z p q).cells=[.osl o u z p q]:=rfl
@[simp] theorem q9 {cs:List A}:(A.pim cs).cells=[.pim cs]:=rfl
@[simp] theorem sU {o:Nm} {u p:Nat}:(A.pob o u p).cells=[.pob o u p]:=rfl
@[simp] theorem vZ:A.ones []=true:=rfl
@[simp] theorem sV {a:A} {l:List A}:A.ones (a::l)=(a.one&&A.ones l):=by simp[A.ones]
@[simp] theorem AaN {q:IntKind} {n:Int}:(A.v (.int q n)).one=true:=rfl
@[simp] theorem vz {b:Bool}:(A.v (.bool b)).one=true:=rfl
@[simp] theorem oQ {b:ByteArray}:(A.v (.string b)).one=true:=rfl
@[simp] theorem mh {b:Option Addr}:(A.v (.pointer b)).one=true:=rfl
@[simp] theorem Acb {b:Bool} {xs:List A}:(A.sl b xs).one=true:=rfl
@[simp] theorem zC {o:Nm} {u z p q:Nat}:(A.osl o u z p q).one=true:=rfl
@[simp] theorem Abo {cs:List A}:(A.pim cs).one=true:=rfl
@[simp] theorem Aa4 {o:Nm} {u p:Nat}:(A.pob o u p).one=true:=rfl
@[simp] theorem rC {cs:List A}:(A.pim cs).isPtr=true:=rfl
@[simp] theorem sJ {o:Nm} {u p:Nat}:(A.pob o u p).isPtr=true:=rfl
@[simp] theorem sn {o:Nm} {u p q:Nat}:(A.pel o u p q).isPtr=true:=rfl
@[simp] theorem zl {x:Value}:(A.v x).isPtr=false:=rfl
@[simp] theorem zB {x:Value}:(A.v x).bare1=true:=rfl
@[simp] theorem uV {b:Bool} {xs:List A}:(A.sl b xs).bare1=true:=rfl
@[simp] theorem sw {cs:List A}:(A.pim cs).bare1=true:=rfl
@[simp] theorem tu:(A.any).bare1=true:=rfl
@[simp] theorem rf {o:Nm} {u z p q:Nat}:(A.osl o u z p q).bare1=false:=rfl
@[simp] theorem tj {o:Nm} {u p:Nat}:(A.pob o u p).bare1=false:=rfl
@[simp] theorem Adi {x:Value}:(A.v x).bare=true:=rfl
@[simp] theorem AaR {b:Bool} {xs:List A}:(A.sl b xs).bare=true:=rfl
@[simp] theorem vM {cs:List A}:(A.pim cs).bare=true:=rfl
@[simp] theorem yr {o:Nm} {u z p q:Nat}:(A.osl o u z p q).bare=false:=rfl
@[simp] theorem yh {o:Nm} {u p:Nat}:(A.pob o u p).bare=false:=rfl
@[simp] theorem xN {cs:List A}:(A.agg cs).bare=cs.all A.bare2:=rfl
@[simp] theorem Aar {x:Value}:(A.v x).bare2=true:=rfl
@[simp] theorem wM {b:Bool} {xs:List A}:(A.sl b xs).bare2=true:=rfl
@[simp] theorem tw {cs:List A}:(A.pim cs).bare2=true:=rfl
@[simp] theorem rm:(A.any).bare2=true:=rfl
@[simp] theorem uQ {g:FuncId} {fs cs:List A}:(A.fnc g fs cs).bare=(fs.all A.bare1&&cs.all A.bare1):=rfl
@[simp] theorem rb {g:FuncId} {fs cs:List A}:(A.fnc g fs cs).bare2=(fs.all A.bare1&&cs.all A.bare1):=rfl
@[simp] theorem rz {g:FuncId} {fs cs:List A}:(A.fnc g fs cs).cells=[.fnc g fs cs]:=rfl
@[simp] theorem zv {g:FuncId} {fs cs:List A}:(A.fnc g fs cs).one=true:=rfl
@[simp] theorem Adb {x:Value}:(A.v x).flat=true:=rfl
@[simp] theorem ud {n:Nat}:Ds n []=true:=rfl
@[simp] theorem sk {n:Nat} {x:A} {l:List A}:Ds n (x::l)=(x.cells.length == n&&Ds n l):=rfl
@[simp] theorem nt {n:Nat} {l l':List A}:Ds n (l++l')=(Ds n l&&Ds n l'):=by simp[Ds]
@[simp] theorem rE {pl:Nat→Option (Nat × Nat)} {cs:List A}:BU pl cs []=some cs:=rfl
@[simp] theorem pV {pl:Nat→Option (Nat × Nat)} {cs:List A} {i:Nat} {x:A} {ps:List (Nat × A)}:BU pl cs ((i,x)::ps)=match pl i with
  |none=>none
  |some (off,size)=>if x.cells.length=size∧off+size≤cs.length∧A.ones x.cells=true then BU pl (splice cs off x.cells) ps else none:=rfl
def Dj:List (Nm × VOb)→Hp
 |[],_=>⟨0,.none⟩
 |(k,x)::l,o=>if k=o then x else Dj l o
def fp:List (Nm × VOb)→Nm→VOb→List (Nm × VOb)
 |[],d,x=>[(d,x)]
 |(k,y)::l,d,x=>if k=d then (k,x)::l else (k,y)::fp l d x
@[simp] theorem AdO:H0=Dj []:=rfl
@[simp] theorem j5 {o:Nm}:Dj [] o=⟨0,.none⟩:=rfl
@[simp] theorem Mp {k o:Nm} {x:VOb} {l:List (Nm × VOb)}:Dj ((k,x)::l) o=if k=o then x else Dj l o:=rfl
@[simp] theorem iu {d:Nm} {x:VOb}:fp [] d x=[(d,x)]:=rfl
@[simp] theorem aq {k d:Nm} {x y:VOb} {l:List (Nm × VOb)}:fp ((k,y)::l) d x=if k=d then (k,x)::l else (k,y)::fp l d x:=rfl
@[simp] theorem yb {l:List (Nm × VOb)} {d:Nm} {x:VOb}:Ar (Dj l) d x=Dj (fp l d x):=by
 funext o;induction l with
 |nil=>
  simp only[Ar,iu,Mp,j5];by_cases h:o=d
  ·subst h;simp
  ·simp[h,Ne.symm h]
 |cons p l ih=>
  obtain⟨k,y⟩:=p;simp only[aq];by_cases hk:k=d
  ·subst hk;simp only[if_pos,Mp,Ar];by_cases h:o=k
   ·subst h;simp
   ·simp[h,Ne.symm h]
  ·rw[if_neg hk,Mp,← ih];simp only[Ar,Mp];by_cases h:o=d
   ·subst h;simp[hk]
   ·simp[h]
@[simp] theorem yM {o:Nm} {u p:Nat}:refs (.pob o u p)=[(o,false)]:=rfl
@[simp] theorem xD {o:Nm} {u p q:Nat}:refs (.pel o u p q)=[(o,false)]:=rfl
@[simp] theorem Aan {o:Nm} {u:Nat}:refs (.mo o u)=[(o,false)]:=rfl
@[simp] theorem yK {o:Nm} {u z p q:Nat}:refs (.osl o u z p q)=[(o,false)]:=rfl
@[simp] theorem AcG {x:Value}:refs (.v x)=[]:=rfl
@[simp] theorem AaP {f:Bool} {xs:List A}:refs (.sl f xs)=[]:=rfl
@[simp] theorem xA {xs:List A}:refs (.pim xs)=[]:=rfl
@[simp] theorem wH {xs:List A}:refs (.agg xs)=[]:=rfl
@[simp] theorem zY {d o:Nm} {u z p q:Nat}:kL d (.osl o u z p q)=[(o,false)]:=rfl
@[simp] theorem AbQ {d:Nm} {f:Bool} {xs:List A}:kL d (.sl f xs)=[(d,false)]:=rfl
@[simp] theorem Adx {R W R' W':Fp}:nc ⟨R,W⟩ ⟨R',W'⟩=(Wx W (R'++W')&&Wx W' (R++W)):=rfl
@[simp] theorem Aaz {l:Fp}:Wx [] l=true:=rfl
@[simp] theorem vB {p:Nm × Bool} {l m:Fp}:Wx (p::l) m=((m.all fun q=>gx p q)&&Wx l m):=rfl
@[simp] theorem y8 {p q:Nm} {a b:Bool}:gx (p,a) (q,b)=match a,b with
 |false,false=>p != q
 |true,false=>!p.isPrefixOf q
 |false,true=>!q.isPrefixOf p
 |true,true=>!p.isPrefixOf q&&!q.isPrefixOf p:=rfl
end
section
variable {P:Program} {K:Lu} {rest:List CO} {s:Nat→A} {H:Hp} {dd:Option Nat} {k:Nat} {f:Bool} {nm:Nm} {ix:Nat} {un:List Nat} {l:Bool} {lg:Lg}
@[simp] theorem yR {st:Sta}:An P K [] lg st=K.k st:=rfl
@[simp] theorem pG {i:Nat} {g:Ft}:A2 false i g lg=lg:=rfl
@[simp] theorem r6 {i:Nat} {g:Ft}:A2 true i g lg=(i,g)::lg:=rfl
@[simp] theorem Ac3 {g:Ft}:Ck [] lg g=True:=by simp[Ck]
@[simp] theorem Aad {g:Ft}:Ck un [] g=True:=by simp[Ck]
@[simp] theorem Aaf {i:Nat} {g h:Ft}:Ck un ((i,g)::lg) h=((i ∈ un→nc g h=true)∧Ck un lg h):=by simp[Ck]
theorem KB:Ck un lg ⟨[],[]⟩:=fun p _ _=>by simp[nc,Gv,HD]
def fg (q:Bool) (g:Ft):Ft:=⟨bif q then g.R else [],bif q then g.W else []⟩
@[simp] theorem yY {g:Ft}:fg true g=g:=rfl
@[simp] theorem wG {g:Ft}:fg false g=⟨[],[]⟩:=rfl
theorem Cy {op:Op} {F:Option A} (hF:∀ x E R W,Sh P K.D nm op (evs s) H x E R W ↔ Rd F x E R W) :
  An P K (⟨dd,op,none,nm,ix,un,l⟩::rest) lg ⟨s,H⟩=Gt F fun x=>An P K rest (A2 l ix ⟨[],[]⟩ lg) (Sta.put ⟨s,H⟩ dd x H):=by
 apply propext;constructor
 ·rintro⟨x,E,⟨R,W⟩,h1,h2,h3⟩;obtain⟨h4,rfl,h5,h6⟩:=(hF x E R W).1 h1;subst h5 h6;exact⟨x,h4,h3⟩
 ·rintro⟨x,h1,h2⟩;exact⟨x,.nil,⟨[],[]⟩,(hF _ _ _ _).2 ⟨h1,rfl,rfl,rfl⟩,KB,h2⟩
theorem BB {op:Op} {F:Option A} (hF:∀ x E R W,Sh P K.D nm op (evs s) H x E R W ↔ Rd F x E R W) :
  An P K (⟨dd,op,some (k,f),nm,ix,un,l⟩::rest) lg ⟨s,H⟩=Gt (BG (s k) f) fun q=>EY q F fun x=>An P K rest (A2 l ix ⟨[],[]⟩ lg) (Sta.put ⟨s,H⟩ dd x H):=by
 apply propext;constructor
 ·rintro⟨x,E,⟨R,W⟩,⟨q,x0,h1,h2,rfl,h4⟩,h5,h6⟩;refine⟨q,h1,x0,fun hq=>((hF _ _ _ _).1 (h2 hq)).1,?_⟩;have:E = .nil∧R=[]∧W=[]:=by
   cases hq:q with
   |true=>exact((hF _ _ _ _).1 (h2 hq)).2
   |false=>exact h4 hq
  obtain⟨rfl,h7,h8⟩:=this;subst h7 h8;exact h6
 ·rintro⟨q,h1,x0,h2,h3⟩;exact⟨_,.nil,⟨[],[]⟩,⟨q,x0,h1,fun hq=>(hF _ _ _ _).2 ⟨h2 hq,rfl,rfl,rfl⟩,rfl,fun _=>⟨rfl,rfl,rfl⟩⟩,KB,h3⟩
theorem JN {op:Op} {F:Option (A × Eff)} {R W:Fp} (hF:∀ x E R' W',Sh P K.D nm op (evs s) H x E R' W' ↔ F=some (x,E)∧R'=R∧W'=W) :
  An P K (⟨dd,op,none,nm,ix,un,l⟩::rest) lg ⟨s,H⟩=Gt F fun p=>Ck un lg ⟨R,W⟩∧An P K rest (A2 l ix ⟨R,W⟩ lg) (Sta.put ⟨s,H⟩ dd p.1 (p.2.app H)):=by
 apply propext;constructor
 ·rintro⟨x,E,⟨R',W'⟩,h1,h2,h3⟩;obtain⟨h4,h5,h6⟩:=(hF x E R' W').1 h1;subst h5 h6;exact⟨(x,E),h4,h2,h3⟩
 ·rintro⟨⟨x,E⟩,h1,h2,h3⟩;exact⟨x,E,⟨R,W⟩,(hF _ _ _ _).2 ⟨h1,rfl,rfl⟩,h2,h3⟩
theorem Ci {op:Op}:An P K (⟨dd,op,some (k,f),nm,ix,un,l⟩::rest) lg ⟨s,H⟩=Gt (BG (s k) f) fun q=>OV q (An P K (⟨dd,op,none,nm,ix,un,l⟩::rest) lg ⟨s,H⟩) (An P K rest (A2 l ix ⟨[],[]⟩ lg) (Sta.put ⟨s,H⟩ dd (.v undef) H)):=by
 apply propext;constructor
 ·rintro⟨x,E,⟨R,W⟩,⟨q,x0,h1,h2,rfl,h4⟩,h5,h6⟩;refine⟨q,h1,fun hq=>⟨x0,E,⟨R,W⟩,h2 hq,h5,?_⟩,fun hq=>?_⟩
  ·subst hq;exact h6
  ·subst hq;obtain⟨rfl,h7,h8⟩:=h4 rfl;subst h7 h8;exact h6
 ·rintro⟨q,h1,h2,h3⟩;cases q with
  |true=>
   obtain⟨x,E,g,h4,h5,h6⟩:=h2 rfl;exact⟨x,E,g,⟨true,x,h1,fun _=>h4,rfl,(fun h=>nomatch h)⟩,h5,h6⟩
  |false=>exact⟨_,.nil,⟨[],[]⟩,⟨false,.any,h1,(fun h=>nomatch h),rfl,fun _=>⟨rfl,rfl,rfl⟩⟩,KB,h3 rfl⟩
section
variable {a b:Operand} {t:TypeId}
@[simp] theorem Aal:An P K (⟨dd,.move a,none,nm,ix,un,l⟩::rest) lg ⟨s,H⟩=An P K rest (A2 l ix ⟨[],[]⟩ lg) (Sta.put ⟨s,H⟩ dd (evs s a) H):=by
 rw[Cy (F:=some (evs s a)) (fun _ _ _ _=>Iff.rfl)];simp
@[simp] theorem rP:An P K (⟨dd,.assign a,none,nm,ix,un,l⟩::rest) lg ⟨s,H⟩=An P K rest (A2 l ix ⟨[],[]⟩ lg) (Sta.put ⟨s,H⟩ dd (evs s a) H):=by
 rw[Cy (F:=some (evs s a)) (fun _ _ _ _=>Iff.rfl)];simp
@[simp] theorem sW:An P K (⟨dd,.move a,some (k,f),nm,ix,un,l⟩::rest) lg ⟨s,H⟩=Gt (BG (s k) f) fun q=>An P K rest (A2 l ix ⟨[],[]⟩ lg) (Sta.put ⟨s,H⟩ dd (gd q (evs s a)) H):=by
 rw[BB (F:=some (evs s a)) (fun _ _ _ _=>Iff.rfl)];simp
@[simp] theorem Ac4 {op:BinOp} {u:TypeId}:An P K (⟨dd,.binOp op t a b u,none,nm,ix,un,l⟩::rest) lg ⟨s,H⟩=Gt (if Fv b=true then IW P op t (evs s a) else if Gc b=true then GA P op t (evs s a) else G3 P op t (evs s a) (evs s b)) fun x=>An P K rest (A2 l ix ⟨[],[]⟩ lg) (Sta.put ⟨s,H⟩ dd x H):=Cy fun _ _ _ _=>Iff.rfl
@[simp] theorem x8 {op:BinOp} {u:TypeId}:An P K (⟨dd,.binOp op t a b u,some (k,f),nm,ix,un,l⟩::rest) lg ⟨s,H⟩=Gt (BG (s k) f) fun q=>EY q (if Fv b=true then IW P op t (evs s a) else if Gc b=true then GA P op t (evs s a) else G3 P op t (evs s a) (evs s b)) fun x=>An P K rest (A2 l ix ⟨[],[]⟩ lg) (Sta.put ⟨s,H⟩ dd x H):=BB fun _ _ _ _=>Iff.rfl
@[simp] theorem Adw {op:UnOp}:An P K (⟨dd,.unOp op t a,none,nm,ix,un,l⟩::rest) lg ⟨s,H⟩=Gt (lx op (evs s a)) fun x=>An P K rest (A2 l ix ⟨[],[]⟩ lg) (Sta.put ⟨s,H⟩ dd x H):=Cy fun _ _ _ _=>Iff.rfl
@[simp] theorem zp {op:UnOp}:An P K (⟨dd,.unOp op t a,some (k,f),nm,ix,un,l⟩::rest) lg ⟨s,H⟩=Gt (BG (s k) f) fun q=>EY q (lx op (evs s a)) fun x=>An P K rest (A2 l ix ⟨[],[]⟩ lg) (Sta.put ⟨s,H⟩ dd x H):=BB fun _ _ _ _=>Iff.rfl
@[simp] theorem yQ {u:TypeId}:An P K (⟨dd,.convert t u a,none,nm,ix,un,l⟩::rest) lg ⟨s,H⟩=Gt (HU P t u (evs s a)) fun x=>An P K rest (A2 l ix ⟨[],[]⟩ lg) (Sta.put ⟨s,H⟩ dd x H):=Cy fun _ _ _ _=>Iff.rfl
@[simp] theorem sd {u:TypeId}:An P K (⟨dd,.convert t u a,some (k,f),nm,ix,un,l⟩::rest) lg ⟨s,H⟩=Gt (BG (s k) f) fun q=>EY q (HU P t u (evs s a)) fun x=>An P K rest (A2 l ix ⟨[],[]⟩ lg) (Sta.put ⟨s,H⟩ dd x H):=BB fun _ _ _ _=>Iff.rfl
@[simp] theorem ln {i:Nat}:An P K (⟨dd,.fieldAddr t a i,none,nm,ix,un,l⟩::rest) lg ⟨s,H⟩=Gt (Eb P t (evs s a) i) fun x=>An P K rest (A2 l ix ⟨[],[]⟩ lg) (Sta.put ⟨s,H⟩ dd x H):=Cy fun _ _ _ _=>Iff.rfl
@[simp] theorem gh {i:Nat}:An P K (⟨dd,.fieldAddr t a i,some (k,f),nm,ix,un,l⟩::rest) lg ⟨s,H⟩=Gt (BG (s k) f) fun q=>EY q (Eb P t (evs s a) i) fun x=>An P K rest (A2 l ix ⟨[],[]⟩ lg) (Sta.put ⟨s,H⟩ dd x H):=BB fun _ _ _ _=>Iff.rfl
@[simp] theorem vX {i:Nat}:An P K (⟨dd,.field t a i,none,nm,ix,un,l⟩::rest) lg ⟨s,H⟩=Gt (LQ P t (evs s a) i) fun x=>An P K rest (A2 l ix ⟨[],[]⟩ lg) (Sta.put ⟨s,H⟩ dd x H):=Cy fun _ _ _ _=>Iff.rfl
@[simp] theorem nV {i:Nat}:An P K (⟨dd,.field t a i,some (k,f),nm,ix,un,l⟩::rest) lg ⟨s,H⟩=Gt (BG (s k) f) fun q=>EY q (LQ P t (evs s a) i) fun x=>An P K rest (A2 l ix ⟨[],[]⟩ lg) (Sta.put ⟨s,H⟩ dd x H):=BB fun _ _ _ _=>Iff.rfl
@[simp] theorem j6  : An P K (⟨dd,.indexAddr t a b,none,nm,ix,un,l⟩::rest) lg ⟨s,H⟩=Gt (A7 P t (evs s a) (evs s b)) fun x=>An P K rest (A2 l ix ⟨[],[]⟩ lg) (Sta.put ⟨s,H⟩ dd x H):=Cy fun _ _ _ _=>Iff.rfl
@[simp] theorem im  : An P K (⟨dd,.indexAddr t a b,some (k,f),nm,ix,un,l⟩::rest) lg ⟨s,H⟩=Gt (BG (s k) f) fun q=>EY q (A7 P t (evs s a) (evs s b)) fun x=>An P K rest (A2 l ix ⟨[],[]⟩ lg) (Sta.put ⟨s,H⟩ dd x H):=BB fun _ _ _ _=>Iff.rfl
@[simp] theorem ve  : An P K (⟨dd,.index t a b,none,nm,ix,un,l⟩::rest) lg ⟨s,H⟩=Gt (II P t (evs s a) (evs s b)) fun x=>An P K rest (A2 l ix ⟨[],[]⟩ lg) (Sta.put ⟨s,H⟩ dd x H):=Cy fun _ _ _ _=>Iff.rfl
@[simp] theorem pA  : An P K (⟨dd,.index t a b,some (k,f),nm,ix,un,l⟩::rest) lg ⟨s,H⟩=Gt (BG (s k) f) fun q=>EY q (II P t (evs s a) (evs s b)) fun x=>An P K rest (A2 l ix ⟨[],[]⟩ lg) (Sta.put ⟨s,H⟩ dd x H):=BB fun _ _ _ _=>Iff.rfl
@[simp] theorem qx {i:Nat}:An P K (⟨dd,.extract a i,none,nm,ix,un,l⟩::rest) lg ⟨s,H⟩=Gt (F3 (evs s a) i) fun x=>An P K rest (A2 l ix ⟨[],[]⟩ lg) (Sta.put ⟨s,H⟩ dd x H):=Cy fun _ _ _ _=>Iff.rfl
@[simp] theorem kU {i:Nat}:An P K (⟨dd,.extract a i,some (k,f),nm,ix,un,l⟩::rest) lg ⟨s,H⟩=Gt (BG (s k) f) fun q=>EY q (F3 (evs s a) i) fun x=>An P K rest (A2 l ix ⟨[],[]⟩ lg) (Sta.put ⟨s,H⟩ dd x H):=BB fun _ _ _ _=>Iff.rfl
@[simp] theorem uG {ps:Array (Nat × Operand)}:An P K (⟨dd,.build t ps,none,nm,ix,un,l⟩::rest) lg ⟨s,H⟩=Gt (Bw P t (ps.toList.map fun p=>(p.1,evs s p.2))) fun x=>An P K rest (A2 l ix ⟨[],[]⟩ lg) (Sta.put ⟨s,H⟩ dd x H):=Cy fun _ _ _ _=>Iff.rfl
@[simp] theorem qD {ps:Array (Nat × Operand)}:An P K (⟨dd,.build t ps,some (k,f),nm,ix,un,l⟩::rest) lg ⟨s,H⟩=Gt (BG (s k) f) fun q=>GB P q t [] (ps.toList.map fun p=>(p.1,evs s p.2)) fun x=>An P K rest (A2 l ix ⟨[],[]⟩ lg) (Sta.put ⟨s,H⟩ dd x H):=BB fun _ _ _ _=>Iff.rfl
@[simp] theorem jv {n:Nat} {ps:Array (Nat × Operand)}:An P K (⟨dd,.buildSlice t n ps,none,[],ix,un,l⟩::rest) lg ⟨s,H⟩=Gt (D1 P t n (ps.toList.map fun p=>(p.1,evs s p.2))) fun x=>An P K rest (A2 l ix ⟨[],[]⟩ lg) (Sta.put ⟨s,H⟩ dd x H):=Cy fun _ _ _ _=>Iff.rfl
@[simp] theorem cu {n:Nat} {ps:Array (Nat × Operand)}:An P K (⟨dd,.buildSlice t n ps,some (k,f),[],ix,un,l⟩::rest) lg ⟨s,H⟩=Gt (BG (s k) f) fun q=>EY q (D1 P t n (ps.toList.map fun p=>(p.1,evs s p.2))) fun x=>An P K rest (A2 l ix ⟨[],[]⟩ lg) (Sta.put ⟨s,H⟩ dd x H):=BB fun _ _ _ _=>Iff.rfl
@[simp] theorem vH {lo hi mx:Option Operand}:An P K (⟨dd,.slice t a lo hi mx,none,nm,ix,un,l⟩::rest) lg ⟨s,H⟩=Gt (FC P t (evs s a) (lo.map (evs s)) (hi.map (evs s)) (mx.map (evs s))) fun x=>An P K rest (A2 l ix ⟨[],[]⟩ lg) (Sta.put ⟨s,H⟩ dd x H):=Cy fun _ _ _ _=>Iff.rfl
@[simp] theorem qe {lo hi mx:Option Operand}:An P K (⟨dd,.slice t a lo hi mx,some (k,f),nm,ix,un,l⟩::rest) lg ⟨s,H⟩=Gt (BG (s k) f) fun q=>EY q (FC P t (evs s a) (lo.map (evs s)) (hi.map (evs s)) (mx.map (evs s))) fun x=>An P K rest (A2 l ix ⟨[],[]⟩ lg) (Sta.put ⟨s,H⟩ dd x H):=BB fun _ _ _ _=>Iff.rfl
@[simp] theorem mJ  : An P K (⟨dd,.nilCheck a,none,nm,ix,un,l⟩::rest) lg ⟨s,H⟩=Gt (ey (evs s a)) fun x=>An P K rest (A2 l ix ⟨[],[]⟩ lg) (Sta.put ⟨s,H⟩ dd x H):=Cy fun _ _ _ _=>Iff.rfl
@[simp] theorem jy  : An P K (⟨dd,.nilCheck a,some (k,f),nm,ix,un,l⟩::rest) lg ⟨s,H⟩=Gt (BG (s k) f) fun q=>EY q (ey (evs s a)) fun x=>An P K rest (A2 l ix ⟨[],[]⟩ lg) (Sta.put ⟨s,H⟩ dd x H):=BB fun _ _ _ _=>Iff.rfl
@[simp] theorem zI {c:Operand}:An P K (⟨dd,.pick c a b,none,nm,ix,un,l⟩::rest) lg ⟨s,H⟩=Gt (UI (evs s c) (evs s a) (evs s b)) fun x=>An P K rest (A2 l ix ⟨[],[]⟩ lg) (Sta.put ⟨s,H⟩ dd x H):=Cy fun _ _ _ _=>Iff.rfl
@[simp] theorem ra {c:Operand}:An P K (⟨dd,.pick c a b,some (k,f),nm,ix,un,l⟩::rest) lg ⟨s,H⟩=Gt (BG (s k) f) fun q=>EY q (UI (evs s c) (evs s a) (evs s b)) fun x=>An P K rest (A2 l ix ⟨[],[]⟩ lg) (Sta.put ⟨s,H⟩ dd x H):=BB fun _ _ _ _=>Iff.rfl
@[simp] theorem mc {g:FuncId} {fs cs:Array Operand}:An P K (⟨dd,.makeFunc (.func g) fs cs,none,nm,ix,un,l⟩::rest) lg ⟨s,H⟩=Gt (some (A.fnc g (fs.toList.map (evs s)) (cs.toList.map (evs s)))) fun x=>An P K rest (A2 l ix ⟨[],[]⟩ lg) (Sta.put ⟨s,H⟩ dd x H):=Cy fun _ _ _ _=>Iff.rfl
@[simp] theorem jw {g:FuncId} {fs cs:Array Operand}:An P K (⟨dd,.makeFunc (.func g) fs cs,some (k,f),nm,ix,un,l⟩::rest) lg ⟨s,H⟩=Gt (BG (s k) f) fun q=>EY q (some (A.fnc g (fs.toList.map (evs s)) (cs.toList.map (evs s)))) fun x=>An P K rest (A2 l ix ⟨[],[]⟩ lg) (Sta.put ⟨s,H⟩ dd x H):=BB fun _ _ _ _=>Iff.rfl
@[simp] theorem Z5  : An P K (⟨dd,.makeInterface t a,none,nm,ix,un,l⟩::rest) lg ⟨s,H⟩=Gt (fT P t (evs s a)) fun x=>An P K rest (A2 l ix ⟨[],[]⟩ lg) (Sta.put ⟨s,H⟩ dd x H):=Cy fun _ _ _ _=>Iff.rfl
@[simp] theorem Yt  : An P K (⟨dd,.makeInterface t a,some (k,f),nm,ix,un,l⟩::rest) lg ⟨s,H⟩=Gt (BG (s k) f) fun q=>EY q (fT P t (evs s a)) fun x=>An P K rest (A2 l ix ⟨[],[]⟩ lg) (Sta.put ⟨s,H⟩ dd x H):=BB fun _ _ _ _=>Iff.rfl
@[simp] theorem jF {u:TypeId} {ok:Bool}:An P K (⟨dd,.typeAssert a t u ok,none,nm,ix,un,l⟩::rest) lg ⟨s,H⟩=Gt (Mt P u ok (evs s a)) fun x=>An P K rest (A2 l ix ⟨[],[]⟩ lg) (Sta.put ⟨s,H⟩ dd x H):=Cy fun _ _ _ _=>Iff.rfl
@[simp] theorem cq {u:TypeId} {ok:Bool}:An P K (⟨dd,.typeAssert a t u ok,some (k,f),nm,ix,un,l⟩::rest) lg ⟨s,H⟩=Gt (BG (s k) f) fun q=>EY q (Mt P u ok (evs s a)) fun x=>An P K rest (A2 l ix ⟨[],[]⟩ lg) (Sta.put ⟨s,H⟩ dd x H):=BB fun _ _ _ _=>Iff.rfl
@[simp] theorem Adg {as':Array Operand} {ts:Array TypeId}:An P K (⟨dd,.call { callee:=.builtin .min,args:=as',argTypes:=ts },none,nm,ix,un,l⟩::rest) lg ⟨s,H⟩=Gt (DS false (as'.toList.map (evs s))) fun x=>An P K rest (A2 l ix ⟨[],[]⟩ lg) (Sta.put ⟨s,H⟩ dd x H):=Cy fun _ _ _ _=>Iff.rfl
@[simp] theorem wU {as':Array Operand} {ts:Array TypeId}:An P K (⟨dd,.call { callee:=.builtin .min,args:=as',argTypes:=ts },some (k,f),nm,ix,un,l⟩::rest) lg ⟨s,H⟩=Gt (BG (s k) f) fun q=>EY q (DS false (as'.toList.map (evs s))) fun x=>An P K rest (A2 l ix ⟨[],[]⟩ lg) (Sta.put ⟨s,H⟩ dd x H):=BB fun _ _ _ _=>Iff.rfl
@[simp] theorem Abq {as':Array Operand} {ts:Array TypeId}:An P K (⟨dd,.call { callee:=.builtin .max,args:=as',argTypes:=ts },none,nm,ix,un,l⟩::rest) lg ⟨s,H⟩=Gt (DS true (as'.toList.map (evs s))) fun x=>An P K rest (A2 l ix ⟨[],[]⟩ lg) (Sta.put ⟨s,H⟩ dd x H):=Cy fun _ _ _ _=>Iff.rfl
@[simp] theorem xt {as':Array Operand} {ts:Array TypeId}:An P K (⟨dd,.call { callee:=.builtin .max,args:=as',argTypes:=ts },some (k,f),nm,ix,un,l⟩::rest) lg ⟨s,H⟩=Gt (BG (s k) f) fun q=>EY q (DS true (as'.toList.map (evs s))) fun x=>An P K rest (A2 l ix ⟨[],[]⟩ lg) (Sta.put ⟨s,H⟩ dd x H):=BB fun _ _ _ _=>Iff.rfl
@[simp] theorem Ac8:An P K (⟨dd,.call { callee:=.builtin .len,args:=#[a],argTypes:=#[t] },none,nm,ix,un,l⟩::rest) lg ⟨s,H⟩=Gt (JV P t (evs s a)) fun x=>An P K rest (A2 l ix ⟨[],[]⟩ lg) (Sta.put ⟨s,H⟩ dd x H):=Cy fun x E R W=>by
  constructor
  ·rintro⟨a',t',h1,h2,h3⟩;cases h1;cases h2;exact h3
  ·intro h;exact⟨a,t,rfl,rfl,h⟩
@[simp] theorem xF:An P K (⟨dd,.call { callee:=.builtin .len,args:=#[a],argTypes:=#[t] },some (k,f),nm,ix,un,l⟩::rest) lg ⟨s,H⟩=Gt (BG (s k) f) fun q=>EY q (JV P t (evs s a)) fun x=>An P K rest (A2 l ix ⟨[],[]⟩ lg) (Sta.put ⟨s,H⟩ dd x H):=BB fun x E R W=>by
  constructor
  ·rintro⟨a',t',h1,h2,h3⟩;cases h1;cases h2;exact h3
  ·intro h;exact⟨a,t,rfl,rfl,h⟩
@[simp] theorem zV:An P K (⟨dd,.load t a,none,nm,ix,un,l⟩::rest) lg ⟨s,H⟩=Gt (Em P H t (evs s a)) fun x=>Ck un lg ⟨refs (evs s a),[]⟩∧An P K rest (A2 l ix ⟨refs (evs s a),[]⟩ lg) (Sta.put ⟨s,H⟩ dd x H):=by
 apply propext;constructor
 ·rintro⟨x,E,⟨R,W⟩,⟨h1,rfl,h2,h3⟩,h4,h5⟩;simp only at h2 h3;subst h2 h3;exact⟨x,h1,h4,h5⟩
 ·rintro⟨x,h1,h4,h5⟩;exact⟨x,.nil,⟨_,_⟩,⟨h1,rfl,rfl,rfl⟩,h4,h5⟩
@[simp] theorem tb:An P K (⟨dd,.load t a,some (k,f),nm,ix,un,l⟩::rest) lg ⟨s,H⟩=Gt (BG (s k) f) fun q=>EY q (Em P H t (evs s a)) fun x=>Ck un lg (fg q ⟨refs (evs s a),[]⟩)∧An P K rest (A2 l ix (fg q ⟨refs (evs s a),[]⟩) lg) (Sta.put ⟨s,H⟩ dd x H):=by
 apply propext;constructor
 ·rintro⟨x,E,⟨R,W⟩,⟨q,x0,h1,h2,rfl,h4⟩,h5,h6⟩;refine⟨q,h1,x0,fun hq=>(h2 hq).1,?_⟩;have:E = .nil∧(⟨R,W⟩:Ft)=fg q ⟨refs (evs s a),[]⟩:=by
   cases hq:q with
   |true=>
    obtain⟨_,e1,e2,e3⟩:=h2 hq;simp only at e2 e3;exact⟨e1,by rw[e2,e3];rfl⟩
   |false=>
    obtain⟨e1,e2,e3⟩:=h4 hq;simp only at e2 e3;exact⟨e1,by rw[e2,e3];rfl⟩
  obtain⟨rfl,e⟩:=this;rw[e] at h5 h6;exact⟨h5,h6⟩
 ·rintro⟨q,h1,x0,h2,h5,h6⟩;refine⟨_,.nil,fg q ⟨refs (evs s a),[]⟩,⟨q,x0,h1,fun hq=>⟨h2 hq,rfl,?_,?_⟩,rfl,fun hq=>⟨rfl,?_,?_⟩⟩,h5,h6⟩<;>subst hq<;>rfl
@[simp] theorem o7:An P K (⟨dd,.makeMap t none,none,nm,ix,un,l⟩::rest) lg ⟨s,H⟩=Gt (Hh H nm) fun p=>Ck un lg ⟨[],[(nm,false)]⟩∧An P K rest (A2 l ix ⟨[],[(nm,false)]⟩ lg) (Sta.put ⟨s,H⟩ dd p.1 (p.2.app H)):=JN fun _ _ _ _=>Iff.rfl
@[simp] theorem ky {m k' v:Operand}:An P K (⟨dd,.mapUpdate t m k' v,none,nm,ix,un,l⟩::rest) lg ⟨s,H⟩=Gt (FG P H t (evs s m) (evs s k') (evs s v)) fun E=>Ck un lg ⟨[],refs (evs s m)⟩∧An P K rest (A2 l ix ⟨[],refs (evs s m)⟩ lg) (Sta.put ⟨s,H⟩ dd .any (E.app H)):=by
 apply propext;constructor
 ·rintro⟨x,E,⟨R,W⟩,⟨h1,rfl,h2,h3⟩,h4,h5⟩;simp only at h2 h3;subst h2 h3;exact⟨E,h1,h4,h5⟩
 ·rintro⟨E,h1,h4,h5⟩;exact⟨_,E,⟨_,_⟩,⟨h1,rfl,rfl,rfl⟩,h4,h5⟩
@[simp] theorem rn {m k':Operand} {ok:Bool}:An P K (⟨dd,.lookup t m k' ok,none,nm,ix,un,l⟩::rest) lg ⟨s,H⟩=Gt (Ht P H t (evs s m) (evs s k') ok) fun x=>Ck un lg ⟨refs (evs s m),[]⟩∧An P K rest (A2 l ix ⟨refs (evs s m),[]⟩ lg) (Sta.put ⟨s,H⟩ dd x H):=by
 apply propext;constructor
 ·rintro⟨x,E,⟨R,W⟩,⟨h1,rfl,h2,h3⟩,h4,h5⟩;simp only at h2 h3;subst h2 h3;exact⟨x,h1,h4,h5⟩
 ·rintro⟨x,h1,h4,h5⟩;exact⟨x,.nil,⟨_,_⟩,⟨h1,rfl,rfl,rfl⟩,h4,h5⟩
@[simp] theorem vL:An P K (⟨dd,.alloc t,none,nm,ix,un,l⟩::rest) lg ⟨s,H⟩=Gt (LD P H nm t) fun p=>Ck un lg ⟨[],[(nm,false)]⟩∧An P K rest (A2 l ix ⟨[],[(nm,false)]⟩ lg) (Sta.put ⟨s,H⟩ dd p.1 (p.2.app H)):=JN fun _ _ _ _=>Iff.rfl
@[simp] theorem Ab6:An P K (⟨dd,.box t a,none,nm,ix,un,l⟩::rest) lg ⟨s,H⟩=Gt (Xh H nm t (evs s a)) fun p=>Ck un lg ⟨[],[(nm,false)]⟩∧An P K rest (A2 l ix ⟨[],[(nm,false)]⟩ lg) (Sta.put ⟨s,H⟩ dd p.1 (p.2.app H)):=JN fun _ _ _ _=>Iff.rfl
@[simp] theorem eV {n a':Nat} {d':Nm} {ps:Array (Nat × Operand)}:An P K (⟨dd,.buildSlice t n ps,none,a'::d',ix,un,l⟩::rest) lg ⟨s,H⟩=Gt (Da P H (a'::d') t n (ps.toList.map fun p=>(p.1,evs s p.2))) fun p=>Ck un lg ⟨[],[(a'::d',false)]⟩∧An P K rest (A2 l ix ⟨[],[(a'::d',false)]⟩ lg) (Sta.put ⟨s,H⟩ dd p.1 (p.2.app H)):=JN fun _ _ _ _=>Iff.rfl
@[simp] theorem lX:An P K (⟨dd,.makeSlice t a b,none,nm,ix,un,l⟩::rest) lg ⟨s,H⟩=Gt (D0 P H nm t (evs s a) (evs s b)) fun p=>Ck un lg ⟨[],[(nm,false)]⟩∧An P K rest (A2 l ix ⟨[],[(nm,false)]⟩ lg) (Sta.put ⟨s,H⟩ dd p.1 (p.2.app H)):=JN fun _ _ _ _=>Iff.rfl
@[simp] theorem ui:An P K (⟨dd,.store t a b,none,nm,ix,un,l⟩::rest) lg ⟨s,H⟩=Gt (FE P H t (evs s a) (evs s b)) fun E=>Ck un lg ⟨[],refs (evs s a)⟩∧An P K rest (A2 l ix ⟨[],refs (evs s a)⟩ lg) (Sta.put ⟨s,H⟩ dd .any (E.app H)):=by
 apply propext;constructor
 ·rintro⟨x,E,⟨R,W⟩,⟨h1,rfl,h2,h3⟩,h4,h5⟩;simp only at h2 h3;subst h2 h3;exact⟨E,h1,h4,h5⟩
 ·rintro⟨E,h1,h4,h5⟩;exact⟨_,E,⟨_,_⟩,⟨h1,rfl,rfl,rfl⟩,h4,h5⟩
@[simp] theorem tT {u:TypeId}:An P K (⟨dd,.call { callee:=.builtin .append,args:=#[a,b],argTypes:=#[t,u] },none,nm,ix,un,l⟩::rest) lg ⟨s,H⟩=Gt (Dt P H nm t u (evs s a) (evs s b)) fun p=>Ck un lg ⟨refs (evs s b),kL nm (evs s a)⟩∧An P K rest (A2 l ix ⟨refs (evs s b),kL nm (evs s a)⟩ lg) (Sta.put ⟨s,H⟩ dd p.1 (p.2.app H)):=
 JN fun x E R W=>by
  constructor
  ·rintro⟨a',b',t',u',h1,h2,h3,h4,h5⟩;cases h1;cases h2;exact⟨h3,h4,h5⟩
  ·rintro⟨h3,h4,h5⟩;exact⟨a,b,t,u,rfl,rfl,h3,h4,h5⟩
@[simp] theorem Aa5 {u:TypeId}:An P K (⟨dd,.call { callee:=.builtin .copy,args:=#[a,b],argTypes:=#[t,u] },none,nm,ix,un,l⟩::rest) lg ⟨s,H⟩=Gt (JX P H t (evs s a) (evs s b)) fun p=>Ck un lg ⟨refs (evs s b),refs (evs s a)⟩∧An P K rest (A2 l ix ⟨refs (evs s b),refs (evs s a)⟩ lg) (Sta.put ⟨s,H⟩ dd p.1 (p.2.app H)):=
 JN fun x E R W=>by
  constructor
  ·rintro⟨a',b',t',u',h1,h2,h3,h4,h5⟩;cases h1;cases h2;exact⟨h3,h4,h5⟩
  ·rintro⟨h3,h4,h5⟩;exact⟨a,b,t,u,rfl,rfl,h3,h4,h5⟩
@[simp] theorem wW:An P K (⟨dd,.call { callee:=.builtin .clear,args:=#[a],argTypes:=#[t] },none,nm,ix,un,l⟩::rest) lg ⟨s,H⟩=Gt (GW P H t (evs s a)) fun p=>Ck un lg ⟨[],refs (evs s a)⟩∧An P K rest (A2 l ix ⟨[],refs (evs s a)⟩ lg) (Sta.put ⟨s,H⟩ dd p.1 (p.2.app H)):=
 JN fun x E R W=>by
  constructor
  ·rintro⟨a',t',h1,h2,h3,h4,h5⟩;cases h1;cases h2;exact⟨h3,h4,h5⟩
  ·rintro⟨h3,h4,h5⟩;exact⟨a,t,rfl,rfl,h3,h4,h5⟩
@[simp] theorem p7:An P K (⟨dd,.alloc t,some (k,f),nm,ix,un,l⟩::rest) lg ⟨s,H⟩=Gt (BG (s k) f) fun q=>OV q (An P K (⟨dd,.alloc t,none,nm,ix,un,l⟩::rest) lg ⟨s,H⟩) (An P K rest (A2 l ix ⟨[],[]⟩ lg) (Sta.put ⟨s,H⟩ dd (.v undef) H)):=Ci
@[simp] theorem yg:An P K (⟨dd,.box t a,some (k,f),nm,ix,un,l⟩::rest) lg ⟨s,H⟩=Gt (BG (s k) f) fun q=>OV q (An P K (⟨dd,.box t a,none,nm,ix,un,l⟩::rest) lg ⟨s,H⟩) (An P K rest (A2 l ix ⟨[],[]⟩ lg) (Sta.put ⟨s,H⟩ dd (.v undef) H)):=Ci
@[simp] theorem bm {n a':Nat} {d':Nm} {ps:Array (Nat × Operand)}:An P K (⟨dd,.buildSlice t n ps,some (k,f),a'::d',ix,un,l⟩::rest) lg ⟨s,H⟩=Gt (BG (s k) f) fun q=>OV q (An P K (⟨dd,.buildSlice t n ps,none,a'::d',ix,un,l⟩::rest) lg ⟨s,H⟩) (An P K rest (A2 l ix ⟨[],[]⟩ lg) (Sta.put ⟨s,H⟩ dd (.v undef) H)):=Ci
@[simp] theorem eQ:An P K (⟨dd,.makeSlice t a b,some (k,f),nm,ix,un,l⟩::rest) lg ⟨s,H⟩=Gt (BG (s k) f) fun q=>OV q (An P K (⟨dd,.makeSlice t a b,none,nm,ix,un,l⟩::rest) lg ⟨s,H⟩) (An P K rest (A2 l ix ⟨[],[]⟩ lg) (Sta.put ⟨s,H⟩ dd (.v undef) H)):=Ci
@[simp] theorem qK:An P K (⟨dd,.store t a b,some (k,f),nm,ix,un,l⟩::rest) lg ⟨s,H⟩=Gt (BG (s k) f) fun q=>OV q (An P K (⟨dd,.store t a b,none,nm,ix,un,l⟩::rest) lg ⟨s,H⟩) (An P K rest (A2 l ix ⟨[],[]⟩ lg) (Sta.put ⟨s,H⟩ dd (.v undef) H)):=Ci
@[simp] theorem nb {u:TypeId}:An P K (⟨dd,.call { callee:=.builtin .append,args:=#[a,b],argTypes:=#[t,u] },some (k,f),nm,ix,un,l⟩::rest) lg ⟨s,H⟩=Gt (BG (s k) f) fun q=>OV q (An P K (⟨dd,.call { callee:=.builtin .append,args:=#[a,b],argTypes:=#[t,u] },none,nm,ix,un,l⟩::rest) lg ⟨s,H⟩) (An P K rest (A2 l ix ⟨[],[]⟩ lg) (Sta.put ⟨s,H⟩ dd (.v undef) H)):=Ci
@[simp] theorem rN {u:TypeId}:An P K (⟨dd,.call { callee:=.builtin .copy,args:=#[a,b],argTypes:=#[t,u] },some (k,f),nm,ix,un,l⟩::rest) lg ⟨s,H⟩=Gt (BG (s k) f) fun q=>OV q (An P K (⟨dd,.call { callee:=.builtin .copy,args:=#[a,b],argTypes:=#[t,u] },none,nm,ix,un,l⟩::rest) lg ⟨s,H⟩) (An P K rest (A2 l ix ⟨[],[]⟩ lg) (Sta.put ⟨s,H⟩ dd (.v undef) H)):=Ci
theorem Af {g:FuncId} {as':Array Operand} {ts:Array TypeId} {x:A} (hs:Spec P g (as'.toList.map (evs s)) x) (hb:(as'.toList.map (evs s)).all A.bare=true) (h:An P K rest (A2 l ix ⟨[],[]⟩ lg) (Sta.put ⟨s,H⟩ dd x H)) :
  An P K (⟨dd,.call { callee:=.value (.func g),args:=as',argTypes:=ts },none,nm,ix,un,l⟩::rest) lg ⟨s,H⟩:=
 ⟨x,.nil,⟨[],[]⟩,⟨g,[],[],rfl,.inl (.inl ⟨by simpa using hb,by simpa using hs,rfl,rfl,rfl⟩)⟩,KB,h⟩
theorem gY {g:FuncId} {as':Array Operand} {ts:Array TypeId} {L:List A} {x:A} (hL:as'.toList.map (evs s)=L) (hs:Spec P g L x) (hb:L.all A.bare=true) (h:An P K rest (A2 l ix ⟨[],[]⟩ lg) (Sta.put ⟨s,H⟩ dd x H)) :
  An P K (⟨dd,.call { callee:=.value (.func g),args:=as',argTypes:=ts },none,nm,ix,un,l⟩::rest) lg ⟨s,H⟩:=by subst hL;exact Af hs hb h
theorem MV {o:Operand} {g:FuncId} {fs caps:List A} {as':Array Operand} {ts:Array TypeId} {x:A} (ho:evs s o = .fnc g fs caps) (hs:Spec P g (fs++(as'.toList.map (evs s)++caps)) x) (hb:(fs++(as'.toList.map (evs s)++caps)).all A.bare=true) (h:An P K rest (A2 l ix ⟨[],[]⟩ lg) (Sta.put ⟨s,H⟩ dd x H)) :
  An P K (⟨dd,.call { callee:=.value o,args:=as',argTypes:=ts },none,nm,ix,un,l⟩::rest) lg ⟨s,H⟩:=
 ⟨x,.nil,⟨[],[]⟩,⟨g,fs,caps,ho,.inl (.inl ⟨hb,hs,rfl,rfl,rfl⟩)⟩,KB,h⟩
theorem JT {g:FuncId} {as':Array Operand} {ts:Array TypeId} {x:A} (as'':List A) (hs:SpecB P g as'' x) (hf:FF H (as'.toList.map (evs s)) as'') (hc:Ck un lg ⟨[([],true)],[]⟩) (h:An P K rest (A2 l ix ⟨[([],true)],[]⟩ lg) (Sta.put ⟨s,H⟩ dd x H)) :
  An P K (⟨dd,.call { callee:=.value (.func g),args:=as',argTypes:=ts },none,nm,ix,un,l⟩::rest) lg ⟨s,H⟩:=
 ⟨x,.nil,⟨_,_⟩,⟨g,[],[],rfl,.inl (.inr (.inl ⟨⟨as'',by simpa using hf,hs⟩,rfl,rfl,rfl⟩))⟩,hc,h⟩
theorem iL {g:FuncId} {as':Array Operand} {ts:Array TypeId} {x:A} (E:Eff) (R W:Fp) (hs:∀ H2,Agree (R++W) H H2→Ye P H2 g (as'.toList.map (evs s)) x E) (hw:LU E W) (hc:Ck un lg ⟨R,W⟩) (h:An P K rest (A2 l ix ⟨R,W⟩ lg) (Sta.put ⟨s,H⟩ dd x (E.app H))) :
  An P K (⟨dd,.call { callee:=.value (.func g),args:=as',argTypes:=ts },none,nm,ix,un,l⟩::rest) lg ⟨s,H⟩:=
 ⟨x,E,⟨R,W⟩,⟨g,[],[],rfl,.inl (.inr (.inr ⟨by simpa using hs,hw⟩))⟩,hc,h⟩
theorem Nz {g:FuncId} {as':Array Operand} {ts:Array TypeId} {x:A} {q:Bool} (hq:BG (s k) f=some q) (hs:q=true→Spec P g (as'.toList.map (evs s)) x∧(as'.toList.map (evs s)).all A.bare=true)
  (h:An P K rest (A2 l ix ⟨[],[]⟩ lg) (Sta.put ⟨s,H⟩ dd (gd q x) H)) :
  An P K (⟨dd,.call { callee:=.value (.func g),args:=as',argTypes:=ts },some (k,f),nm,ix,un,l⟩::rest) lg ⟨s,H⟩:=
 ⟨_,.nil,⟨[],[]⟩,⟨q,x,hq,fun e=>⟨g,[],[],rfl,.inl (.inl ⟨by simpa using (hs e).2,by simpa using (hs e).1,rfl,rfl,rfl⟩)⟩,rfl,fun _=>⟨rfl,rfl,rfl⟩⟩,KB,h⟩
end
end
section
variable {P:Program} {K:Lu} {rest:List CO} {s:Nat→A} {H:Hp} {dd:Option Nat} {k:Nat} {g:FuncId} {as':Array Operand} {ts:Array TypeId} {x:A} {q:Bool} {L:List A} {nm:Nm} {ix:Nat} {un:List Nat} {l:Bool} {lg:Lg}
theorem BK (hq:s k = .v (.bool q)) (hs:q=true→Spec P g L x) (hL:q=true→as'.toList.map (evs s)=L) (hb:L.all A.bare=true)
  (h:An P K rest (A2 l ix ⟨[],[]⟩ lg) (Sta.put ⟨s,H⟩ dd (gd q x) H)) :
  An P K (⟨dd,.call { callee:=.value (.func g),args:=as',argTypes:=ts },some (k,true),nm,ix,un,l⟩::rest) lg ⟨s,H⟩:=
 Nz (q:=q) (by rw[hq];cases q<;>rfl) (fun e=>by rw[hL e];exact⟨hs e,hb⟩) h
theorem Bz (hq:s k = .v (.bool q)) (hs:q=false→Spec P g L x) (hL:q=false→as'.toList.map (evs s)=L) (hb:L.all A.bare=true)
  (h:An P K rest (A2 l ix ⟨[],[]⟩ lg) (Sta.put ⟨s,H⟩ dd (gd (ng q) x) H)) :
  An P K (⟨dd,.call { callee:=.value (.func g),args:=as',argTypes:=ts },some (k,false),nm,ix,un,l⟩::rest) lg ⟨s,H⟩:=
 Nz (q:=ng q) (by rw[hq];cases q<;>rfl) (fun e=>by have e:q=false:=(by simpa using e);rw[hL e];exact⟨hs e,hb⟩) h
end
@[simp] theorem uh {q r t:Bool}:(bif q then A.v (.bool r) else A.v (.bool t))=A.v (.bool (bif q then r else t)):=by cases q<;>rfl
theorem Ab {H:Hp} {a:A} (h:a.bare=true):Jw H a a:=fun c w I μ v hs hr=>(hr.of_bare h).mono0 (fun b hb=>.inl hb) (fun _ _=>rfl)
theorem km {w:World} {I:Nat→Prop} {μ:Mu} {f:Bool} {xs:List A} {v:Value} (h:Rel w I μ (.sl f xs) v):Rel w I μ (.sl false xs) v:=by
 cases h with
 |slN _ _ a cap _=>exact .slN _ _ _ _ (fun h=>by cases h)
 |sl _ _ b off n cap sz _ g h1 h2 h3 h4 h5 h6 h7 h8=>exact .sl _ _ b off n cap sz _ g h1 h2 h3 (fun h=>by cases h) h5 h6 h7 h8
theorem Ae {H:Hp} {f:Bool} {xs:List A}:Jw H (.sl f xs) (.sl false xs):=fun c w I μ v hs hr=>km (Ab (a:=.sl f xs) rfl c w I μ v hs hr)
theorem Ak {H:Hp} {p q:Bool} (h:p=q):Jw H (.v (.bool p)) (.v (.bool q)):=by rw[h];exact Ab rfl
theorem Mw {H:Hp} {k:IntKind} {p q:Int} (h:p=q):Jw H (.v (.int k p)) (.v (.int k q)):=by rw[h];exact Ab rfl
theorem Ix {H:Hp} {a a':A} (h:a.bare=true) (e:a=a'):Jw H a a':=by rw[← e];exact Ab h
theorem P7 {H:Hp} {o:Nm} {u off len sz:Nat} {xs ys:List A} (ho:KH H o u=some (sz,xs)) (hl:off+len≤xs.length) (hn:ys.length=len) (hy:∀ y,y ∈ ys→y.cells.length=sz) (h1:A.ones (ys.flatMap A.cells)=true)
  (hb:FF H (((xs.drop off).take len).flatMap A.cells) (ys.flatMap A.cells)):Jw H (.osl o u sz off len) (.sl false ys):=by
 intro c w I μ v hs hr;obtain⟨hg1,hg2⟩:=Ha hb;cases hr with
 |osl _ _ _ _ _ _ a cap g1 g2 g4 g5 g3=>
  obtain⟨hu,k2,hrow⟩:=hs.row ho;obtain⟨_,hcur⟩:=g3 hu.symm;by_cases h0:len=0
  ·subst h0;have:ys=[]:=List.eq_nil_of_length_eq_zero hn;subst this;exact .slN _ _ _ _ (fun h=>by cases h)
  rcases hcur with ⟨e,_⟩ | ⟨p1,rfl,p3⟩
  ·exact(h0 e).elim
  rcases hrow with ⟨q1,_⟩ | ⟨q1,vs,k3,k4,k5,k6,k7⟩
  ·rw[p1] at q1;cases q1
  subst k2;have hB:BJ (μ o) (H o).ob=true:=by rw[(DG ho).2];exact q1
  have hg:∀ (k:Nat) (y:A),(((xs.drop off).take len).flatMap A.cells)[k]? = some y→(xs.flatMap A.cells)[off*(μ o).sz+k]? = some y:=fun k y hk=>CW k6 hk;refine .sl _ _ (μ o).b (off*(μ o).sz) _ _ (μ o).sz _ (fun k=>vs.getD (off*(μ o).sz+k) undef) (Or.inr ⟨o,hB,rfl⟩) hn.symm (by omega) (fun h=>by cases h) hy
   (fun k y hk=>List.all_eq_true.1 h1 y (List.mem_of_getElem? hk)) (fun k y hk=>?_) (fun k y hk=>?_)
  ·obtain⟨a',ha',_⟩:=hg2 k y hk;have h3:=hg k a' ha';have h4:=Bb k6;have h5:xs.length*(μ o).sz≤(μ o).cap*(μ o).sz:=Nat.mul_le_mul_right _ k5;have h6:=(List.getElem?_eq_some_iff.1 h3).1;rw[cell_of_row w (μ o).b _ vs (μ o).e (0,0) k3];have:off*(μ o).sz+k<vs.size:=by rw[k4];omega
   simp[this]
  ·obtain⟨a',ha',hf⟩:=hg2 k y hk;exact hf c w I μ _ hs (k7 _ a' (hg k a' ha')).2
theorem Nr {H:Hp}:∀ {l:List A},l.all A.bare=true→FF H l l
 |[],_=>trivial
 |a::l,h=>by
  simp only[List.all_cons,Bool.and_eq_true] at h;exact⟨Ab h.1,Nr h.2⟩
theorem iz {a:A} (h:a.bare1=true):a.bare=true:=by cases a<;>simp_all [A.bare1,A.bare,A.bare2]
theorem Zw {H:Hp} {o:Nm} {u off len sz:Nat} {xs:List A} (ho:KH H o u=some (sz,xs)) (hl:off+len≤xs.length) (hb:((xs.drop off).take len).all (fun x=>x.cells.length == sz&&x.cells.all fun y=>A.bare1 y&&y.one)=true):Jw H (.osl o u sz off len) (.sl false ((xs.drop off).take len)):=by
 simp only[List.all_eq_true,Bool.and_eq_true,beq_iff_eq] at hb;refine P7 ho hl (by simp;omega) (fun y hy=>(hb y hy).1) ?_ (Nr ?_)
 ·simp only[A.ones,List.all_eq_true];intro y hy;obtain⟨x,hx,hy⟩:=List.mem_flatMap.1 hy;exact((hb x hx).2 y hy).2
 ·simp only[List.all_eq_true];intro y hy;obtain⟨x,hx,hy⟩:=List.mem_flatMap.1 hy;exact iz ((hb x hx).2 y hy).1
theorem CK {H:Hp} {cs cs':List A} (h:FF H cs cs'):Jw H (.agg cs) (.agg cs'):=by
 intro c w I μ v hs hr;obtain⟨hl,hg⟩:=Ha h;cases hr with
 |agg _ _ vs h1 h2=>
  refine .agg _ _ _ (by omega) fun k y hk=>?_;obtain⟨a,ha,hf⟩:=hg k y hk;exact hf c w I μ _ hs (h2 k a ha)
theorem BL {H:Hp} {cs cs':List A} (h:FF H cs cs'):Jw H (.tup cs) (.tup cs'):=by
 intro c w I μ v hs hr;obtain⟨hl,hg⟩:=Ha h;cases hr with
 |tup _ _ vs h1 h2=>
  refine .tup _ _ _ (by omega) fun k y hk=>?_;obtain⟨a,ha,hf⟩:=hg k y hk;exact hf c w I μ _ hs (h2 k a ha)
theorem Zf {H:Hp} {o:Nm} {u:Nat} {cs cs':List A} (ho:RE H o u=some cs) (h:FF H cs cs') (h1:A.ones cs'=true):Jw H (.pob o u 0) (.pim cs'):=by
 intro c w I μ v hs hr;obtain⟨hl,hg⟩:=Ha h;cases hr with
 |pob _ _ _ _ b k g1 g2 g3=>
  obtain⟨hu,vs,k2,k3,k4⟩:=hs.cells ho;obtain⟨rfl,rfl⟩:=g3 hu.symm;have hB:BJ (μ o) (H o).ob=true:=by rw[(NV ho).2];rfl
  refine .pim _ (μ o).b 0 _ (fun k=>vs.getD k undef) (Or.inr ⟨o,hB,rfl⟩) (fun k y hk=>?_) (fun k y hk=>?_) (fun k y hk=>?_)
  ·simp only[A.ones,List.all_eq_true] at h1;exact h1 y (List.mem_of_getElem? hk)
  ·rw[Nat.zero_add,cell_of_row w (μ o).b k vs (μ o).e (0,0) k2];have:k<vs.size:=by rw[k3,← hl];exact(List.getElem?_eq_some_iff.1 hk).1
   simp[this]
  ·obtain⟨a,ha,hf⟩:=hg k y hk;exact hf c w I μ _ hs (k4 k a ha).2
@[simp] theorem xz {H:Hp}:FF H [] []=True:=rfl
@[simp] theorem rh {H:Hp} {a a':A} {l l':List A}:FF H (a::l) (a'::l')=(Jw H a a'∧FF H l l'):=rfl
def ad (H:Hp) (a a':A):Prop:=∀ (c:Cx) (w:World) (I:Nat→Prop) (μ:Mu) (v:Value),Sim c w I μ H→Rel w I μ a v→Rel w (fun b=>Vz H μ b) Jq a' v
def qU (P:Program) (rs:List ResultVar) (r:A):Exit→Sta→Prop:=bf P rs fun r0 H=>ad H r0 r
theorem J2 {P:Program} {f:FuncId} {n:Nat} {rs:List ResultVar} {cc:CC} {args:List A} {r:A} (t:BM P f n rs cc) (ha:args.length≤n) (h:∀ w0 I0,WPC (cx P w0 I0 n) cc (qU P rs r) ⟨Fk args,H0⟩):SpecB P f args r:=by
 obtain⟨hm,hk,fn,code,hf,hb,hn,hrs,hc⟩:=t;refine⟨hk,fun w I J vs hI hJ htb hl hr=>?_⟩;have hIJ:∀ b,(I b∨J b)→b<w.heap.size:=fun b hb=>hb.elim (hI b) (hJ b);have h1:AWP (cx P w (fun b=>I b∨J b) n) code (bf P fn.results.toList fun r0 H=>ad H r0 r) ⟨Fk args,H0⟩:=DH (c:=cx P w _ n) hm hc (by rw[hrs];exact h w _);refine(Ka hf hb (c:=cx P w (fun b=>I b∨J b) n) rfl hn.symm rfl hl (by omega) (HW hIJ (htb.mono (fun _ h=>.inl h) (fun _ _=>rfl))) hr h1).mono fun e w' hh=>?_;rcases hh with ⟨v,r0,H',I',μ',he,h1,h2,h3⟩ | ⟨t,k,_⟩
 case inr=>exact k.elim
 refine⟨v,he,?_,?_⟩
 ·have k:=h1.kept;exact⟨k.os,k.tape,k.output,k.size,fun b hb=>k.block b hb (fun ⟨_,h⟩=>h)⟩
 ·refine(h3 _ w' I' μ' v h1 h2).mono0 (fun b hb=>?_) (fun _ _=>rfl);obtain⟨o,g1,rfl⟩:=hb;obtain⟨_,g4,g5⟩:=h1.own o g1;rcases g4 with g4 | g4
  ·exact g4.elim
  ·exact .inr ⟨g4,g5⟩
@[simp] theorem ny {P:Program} {rs:List ResultVar} {r:A} {st:Sta}:qU P rs r .normal st=Gt (FW P st rs) fun r0=>ad st.H r0 r:=rfl
@[simp] theorem xQ {P:Program} {rs:List ResultVar} {r:A} {st:Sta}:qU P rs r .ret st=Gt (FW P st rs) fun r0=>ad st.H r0 r:=rfl
theorem UN {H:Hp} {f:Bool}:ad H (.sl f []) (.sl false []):=fun c w I μ v hs hr=>by
 cases hr with
 |slN _ _ a cap _=>exact .slN _ _ _ _ (fun h=>by cases h)
 |sl _ _ b off n cap sz _ g h1 h2=>
  have:n=0:=h2;subst this;exact .slN _ _ _ _ (fun h=>by cases h)
theorem PS {H:Hp} {o:Nm} {u off len sz:Nat} {xs:List A} (ho:KH H o u=some (sz,xs)) (hl:off+len≤xs.length) (hb:((xs.drop off).take len).all (fun x=>x.cells.length == sz&&x.cells.all fun y=>A.flat1 y&&y.one)=true):ad H (.osl o u sz off len) (.sl false ((xs.drop off).take len)):=by
 simp only[List.all_eq_true,Bool.and_eq_true,beq_iff_eq] at hb;intro c w I μ v hs hr;have hlen:((xs.drop off).take len).length=len:=by simp;omega
 have hcell:∀ (k:Nat) (y:A),(((xs.drop off).take len).flatMap A.cells)[k]? = some y→y.flat1=true∧y.one=true:=fun k y hk=>by
  obtain⟨x,hx,hy⟩:=List.mem_flatMap.1 (List.mem_of_getElem? hk);exact(hb x hx).2 y hy
 cases hr with
 |osl _ _ _ _ _ _ a cap g1 g2 g4 g5 g3=>
  obtain⟨hu,k2,hrow⟩:=hs.row ho;obtain⟨_,hcur⟩:=g3 hu.symm;by_cases h0:len=0
  ·subst h0;simp only[List.take_zero];exact .slN _ _ _ _ (fun h=>by cases h)
  rcases hcur with ⟨e,_⟩ | ⟨p1,rfl,p3⟩
  ·exact(h0 e).elim
  rcases hrow with ⟨q1,_⟩ | ⟨q1,vs,k3,k4,k5,k6,k7⟩
  ·rw[p1] at q1;cases q1
  subst k2;have hB:BJ (μ o) (H o).ob=true:=by rw[(DG ho).2];exact q1
  have hg:∀ (k:Nat) (y:A),(((xs.drop off).take len).flatMap A.cells)[k]? = some y→(xs.flatMap A.cells)[off*(μ o).sz+k]? = some y:=fun k y hk=>CW k6 hk;refine .sl _ _ (μ o).b (off*(μ o).sz) _ _ (μ o).sz _ (fun k=>vs.getD (off*(μ o).sz+k) undef) ⟨o,hB,rfl⟩ hlen.symm (by omega) (fun h=>by cases h) (fun z hz=>k6 z (mN (Zy hz)))
   (fun k y hk=>(hcell k y hk).2) (fun k y hk=>?_) (fun k y hk=>(k7 _ y (hg k y hk)).2.of_flat1 (hcell k y hk).1)
  have h3:=hg k y hk;have h4:=Bb k6;have h5:xs.length*(μ o).sz≤(μ o).cap*(μ o).sz:=Nat.mul_le_mul_right _ k5;have h6:=(List.getElem?_eq_some_iff.1 h3).1;rw[cell_of_row w (μ o).b _ vs (μ o).e (0,0) k3];have:off*(μ o).sz+k<vs.size:=by rw[k4];omega
  simp[this]
theorem SO {P:Program} {f:FuncId} {fl:Bool} {r:A} (h1:∀ cap,SpecB P f [.v (.slice none 0 cap)] r) (h2:∀ a cap,SpecB P f [.v (.slice (some a) 0 cap)] r):SpecB P f [.sl fl []] r:=by
 refine⟨(h1 0).1,fun w I J vs hI hJ htb hl hr=>?_⟩;have h:=hr 0 _ rfl;have go:∀ x,vs.getD 0 undef=x→∀ (k:Nat) (y:A),[A.v x][k]? = some y→Rel w (fun b=>I b∨J b) Jq y (vs.getD k undef):=fun x hx k y hk=>by
  cases k with
  |zero=>cases hk;rw[hx];exact .v _ _
  |succ k=>simp at hk
 generalize hq:vs.getD 0 undef=x at h;cases h with
 |slN _ _ a cap _=>
  cases a with
  |none=>exact(h1 cap).2 w I J vs hI hJ htb hl (go _ hq)
  |some a=>exact(h2 a cap).2 w I J vs hI hJ htb hl (go _ hq)
 |sl _ _ b off n cap sz _ g k1 k2=>
  have:n=0:=k2;subst this;exact(h2 _ cap).2 w I J vs hI hJ htb hl (go _ hq)
theorem bP {w:World} {I:Nat→Prop} {μ:Mu} {d:Nm} {u sz:Nat} {v:Value} (h1:Rel w I μ (.sl true []) v) (hu:(μ d).u=u) (h0:1≤u) (hz:(μ d).sz=sz):Rel w I μ (.osl d u sz 0 0) v:=by
 subst hu;cases h1 with
 |slN _ _ q cap hc=>
  have:=hc rfl;subst this;exact .osl _ _ _ _ _ _ _ _ h0 (CE _) (CE _) (fun h=>by omega) (fun _=>⟨hz,.inl ⟨rfl,rfl⟩⟩)
 |sl _ _ b off n cap z _ g h1 h2 h3 h4=>
  have h5:n=0:=h2;have h6:cap=0:=h4 rfl;subst h5 h6;exact .osl _ _ _ _ _ _ _ _ h0 (CE _) (CE _) (fun h=>by omega) (fun _=>⟨hz,.inl ⟨rfl,rfl⟩⟩)
theorem CZ {c:Cx} {s:Nat→A} {H:Hp} {d:Nm} {u:Nat} {cs:List A} (i:Nat) (d':Nm) (sz:Nat) (hd:H d=⟨u,.cells cs⟩) (hi:cs[i]? = some (.sl true [])) (hne:d ≠ d') :
  Le c ⟨s,H⟩ ⟨s,Ar (Ar H d' ⟨(H d').u+1,.arr sz []⟩) d ⟨u,.cells (cs.set i (.osl d' ((H d').u+1) sz 0 0))⟩⟩:=fun a w I μ hs=>by
 obtain⟨hx,hs'⟩:=hs.sim.upd (Fi w none) d' ⟨(H d').u+1,false,0,0,sz,0⟩ (.arr sz []) (.inl rfl) (.inl (by rw[hs.sim.ver];exact Nat.lt_succ_self _)) (fun h=>nomatch h) (fun h=>nomatch h) (fun hx=>⟨rfl,.inl ⟨rfl,rfl⟩⟩);have hd1:(Ar H d' ⟨(H d').u+1,.arr sz []⟩:Hp) d=⟨u,.cells cs⟩:=by rw[Ao hne];exact hd
 have hob:=hs'.ob d;rw[hd1] at hob;obtain⟨vs,k1,k2,k3⟩:=hob;have hB:BJ (Ar μ d' ⟨(H d').u+1,false,0,0,sz,0⟩ d) ((Ar H d' ⟨(H d').u+1,.arr sz []⟩:Hp) d).ob=true:=by rw[hd1];rfl
 obtain⟨hx2,hs2⟩:=hs'.upd (Fi w none) d (Ar μ d' ⟨(H d').u+1,false,0,0,sz,0⟩ d) (.cells (cs.set i (.osl d' ((H d').u+1) sz 0 0))) (.inl rfl) (.inr rfl) (fun _=>.inr ⟨hB,rfl⟩) (fun _=>hs'.tag _ hB) (fun hx2=>by
  refine⟨vs,k1,by simpa using k2,fun k y hk=>?_⟩;rw[Ce];by_cases hki:k=i
  ·subst hki;have hlt:k<cs.length:=(List.getElem?_eq_some_iff.1 hi).1;rw[List.getElem?_set_self hlt] at hk;cases hk;exact⟨rfl,bP (k3 k _ hi).2 (by simp) (by omega) (by simp)⟩
  ·rw[List.getElem?_set_ne (Ne.symm hki)] at hk;exact k3 k y hk)
 have hu:(Ar μ d' ⟨(H d').u+1,false,0,0,sz,0⟩ d).u=u:=by rw[hs'.ver,hd1]
 rw[hu] at hs2;exact⟨I,_,hs2,hs.size,hs.defers,fun t=>hx2.rel (hx.rel (hs.rel t))⟩
def Part (H H':Hp):Prop:=∀ o,H' o=H o∨H' o=⟨(H o).u,.none⟩
theorem Part.has {H H':Hp} (h:Part H H') {L:nj} {o:Nm} (k:BJ L (H' o).ob=true):BJ L (H o).ob=true:=by
 rcases h o with e | e
 ·rw[← e];exact k
 ·rw[e] at k;cases k
theorem Part.ver {H H':Hp} (h:Part H H') (o:Nm):(H' o).u=(H o).u:=by rcases h o with e | e<;>rw[e]
theorem Sim.part {c:Cx} {w:World} {I:Nat→Prop} {μ:Mu} {H H':Hp} (hs:Sim c w I μ H) (h:Part H H'):Sim c w I μ H':=
 ⟨hs.kept,hs.lt,hs.old,hs.new,fun o=>by rw[h.ver,hs.ver],fun o=>by
  rcases h o with e | e
  ·rw[e];exact hs.ob o
  ·rw[e];trivial,fun o o' k k'=>hs.apart o o' (h.has k) (h.has k'),fun o k=>hs.own o (h.has k),hs.mle,fun o k=>hs.tag o (h.has k),hs.tab⟩
theorem Sim.freezeAll {c:Cx} {w:World} {I:Nat→Prop} {μ:Mu} {H H1 H2:Hp} (hs:Sim c w I μ H) (h1:Part H H1) (h2:Part H H2) (hd:∀ o,(H1 o).ob = .none∨(H2 o).ob = .none) (hM:∀ o b,(H1 o).ob ≠ .none→¬ c.M0 o b) :
  Sim c w (fun b=>I b∨Vz H1 μ b) μ H2:=by
 have hx:Ext I μ w (fun b=>I b∨Vz H1 μ b) μ w:=⟨fun b h=>.inl h,fun b h=>rfl,MuLe.refl _⟩;refine⟨hs.kept,fun b h=>?_,fun b h=>.inl (hs.old b h),fun b h=>?_,fun o=>by rw[h2.ver,hs.ver],fun o=>?_,fun o o' k k'=>hs.apart o o' (h2.has k) (h2.has k'),fun o k=>?_,hs.mle,fun o k=>hs.tag o (h2.has k),hs.tab.mono (fun _ h=>.inl h) (fun _ _=>rfl)⟩
 ·rcases h with h | ⟨o,k,rfl⟩
  ·exact hs.lt b h
  ·exact(hs.own o (h1.has k)).2.2
 ·rcases h with h | ⟨o,k,rfl⟩
  ·exact hs.new b h
  ·rcases (hs.own o (h1.has k)).2.1 with h | h
   ·exact(hM _ _ (fun e=>by rw[e] at k;cases k) h).elim
   ·exact .inr h
 ·rcases h2 o with e | e
  ·rw[e];exact OSim.keep hx (fun _=>rfl) (hs.ob o)
  ·rw[e];trivial
 ·obtain⟨k1,k2,k3⟩:=hs.own o (h2.has k);refine⟨fun hh=>?_,k2,k3⟩;rcases hh with hh | ⟨o',k',e⟩
  ·exact k1 hh
  ·refine hs.apart o o' (h2.has k) (h1.has k') (fun e=>?_) e.symm;subst e;rcases hd o with e | e
   ·rw[e] at k';cases k'
   ·rw[e] at k;cases k
theorem Ny {c:Cx} {s:Nat→A} {H H1 H2:Hp} (hM:∀ o b,(H1 o).ob ≠ .none→¬ c.M0 o b) (t:Nat) (a:A) (h1:Part H H1) (h2:Part H H2) (hd:∀ o,(H1 o).ob = .none∨(H2 o).ob = .none) (hf:Jw H1 (s t) a):Le c ⟨s,H⟩ ⟨upd s t a,H2⟩:=fun x w I μ hs=>by
 have h3:=hs.sim.freezeAll h1 h2 hd hM;refine⟨_,μ,h3,hs.size,hs.defers,fun k=>?_⟩;show Rel w _ μ (upd s t a k) _;unfold upd;split
 ·rename_i e;subst e;exact(hf c w I μ _ (hs.sim.part h1) (hs.rel k)).ofI
 ·exact(hs.rel k).mono0 (fun b h=>.inl h) (fun _ _=>rfl)
def R7 (D:List Nm) (l:List (Nm × VOb)):List (Nm × VOb):=l.map fun p=>if D.contains p.1 then p else (p.1,⟨p.2.u,.none⟩)
def WH (D:List Nm) (l:List (Nm × VOb)):List (Nm × VOb):=l.map fun p=>if D.contains p.1 then (p.1,⟨p.2.u,.none⟩) else p
theorem Qz (D:List Nm):∀ (l:List (Nm × VOb)) (o:Nm),Dj (R7 D l) o=if D.contains o=true then Dj l o else ⟨(Dj l o).u,.none⟩
 |[],o=>by simp[R7,Dj]
 |(k,x)::l,o=>by
  have ih:=Qz D l o;simp only[R7,List.map_cons] at ih ⊢;by_cases hk:k=o
  ·subst hk;by_cases h:D.contains k=true<;>simp only[h,if_true,Dj]<;>simp
  ·by_cases h:D.contains k=true<;>simp only[h,if_true,if_false,Bool.false_eq_true,Dj,hk]<;>exact ih
theorem QH (D:List Nm):∀ (l:List (Nm × VOb)) (o:Nm),Dj (WH D l) o=if D.contains o=true then ⟨(Dj l o).u,.none⟩ else Dj l o
 |[],o=>by simp[WH,Dj]
 |(k,x)::l,o=>by
  have ih:=QH D l o;simp only[WH,List.map_cons] at ih ⊢;by_cases hk:k=o
  ·subst hk;by_cases h:D.contains k=true<;>simp only[h,if_true,Dj]<;>simp
  ·by_cases h:D.contains k=true<;>simp only[h,if_true,if_false,Bool.false_eq_true,Dj,hk]<;>exact ih
theorem XD {c:Cx} {s:Nat→A} {l:List (Nm × VOb)} (D:List Nm) (t:Nat) (a:A) (hM:∀ o b,¬ c.M0 o b) (hf:Jw (Dj (R7 D l)) (s t) a):Le c ⟨s,Dj l⟩ ⟨upd s t a,Dj (WH D l)⟩:=by
 refine Ny (fun o b _=>hM o b) t a (H1:=Dj (R7 D l)) (fun o=>?_) (fun o=>?_) (fun o=>?_) hf
 ·rw[Qz];split
  ·exact .inl rfl
  ·exact .inr rfl
 ·rw[QH];split
  ·exact .inr rfl
  ·exact .inl rfl
 ·rw[Qz,QH];split
  ·exact .inr rfl
  ·exact .inl rfl
theorem Yu {c:Cx} {s:Nat→A} {H:Hp} {d:Nm} (hM:∀ b,¬ c.M0 d b) (t:Nat) (a:A) (hf:∀ H1:Hp,H1 d=H d→Jw H1 (s t) a):Le c ⟨s,H⟩ ⟨upd s t a,Ar H d ⟨(H d).u,.none⟩⟩:=by
 refine Ny (fun o b h=>by
  by_cases e:o=d
  ·subst e;exact hM b
  ·exact absurd (by simp[e]) h) t a (H1:=fun o=>if o=d then H o else ⟨(H o).u,.none⟩) (fun o=>?_) (fun o=>?_) (fun o=>?_) (hf _ (by simp))
 ·by_cases h:o=d
  ·exact .inl (by simp[h])
  ·exact .inr (by simp[h])
 ·by_cases h:o=d
  ·subst h;exact .inr (by simp)
  ·exact .inl (Ao h)
 ·by_cases h:o=d
  ·subst h;exact .inr (by simp)
  ·exact .inl (by simp[h])
mutual
def A.soft:A→A
 |.sl _ xs=>.sl false (A.softL xs)
 |.agg cs=>.agg (A.softL cs)
 |.tup cs=>.tup (A.softL cs)
 |.pim cs=>.pim (A.softL cs)
 |.ifc t x=>.ifc t (A.soft x)
 |.any=>.any
 |.v x=>.v x
 |.pob o u off=>.pob o u off
 |.osl o u sz off len=>.osl o u sz off len
 |.pel o u i j=>.pel o u i j
 |.mo o u=>.mo o u
 |.fnc f fs cs=>.fnc f fs cs
def A.softL:List A→List A
 |[]=>[]
 |x::xs=>A.soft x::A.softL xs
end
theorem BC:∀ l:List A,A.softL l=l.map A.soft
 |[]=>by simp[A.softL]
 |x::l=>by simp[A.softL,BC l]
theorem QQ (a:A):a.soft.cells=a.cells.map A.soft:=by cases a<;>simp[A.soft,A.cells,BC]
theorem SZ:∀ l:List A,(l.map A.soft).flatMap A.cells=(l.flatMap A.cells).map A.soft
 |[]=>rfl
 |x::l=>by simp[QQ,SZ l]
theorem VQ (a:A):a.soft.one=a.one:=by cases a<;>simp[A.soft,A.one]
theorem Rel.soft {w:World} {I:Nat→Prop} {μ:Mu} {a:A} {x:Value} (h:Rel w I μ a x):Rel w I μ a.soft x:=by
 induction h with
 |any=>simpa[A.soft] using Rel.any _ _
 |v=>simpa[A.soft] using Rel.v _ _
 |slN μ f a cap h=>
  simp only[A.soft,A.softL];exact .slN _ _ _ _ (fun h=>nomatch h)
 |sl μ f b off n cap sz xs g hb hn hc hf hs h1 hcell hr ih=>
  simp only[A.soft,BC];refine .sl _ _ b off n cap sz _ g hb (by simpa using hn) (by simpa using hc) (fun h=>nomatch h) (fun x hx=>?_) (fun k y hk=>?_) (fun k y hk=>?_) (fun k y hk=>?_)
  ·obtain⟨x',hx',rfl⟩:=List.mem_map.1 hx;simpa[QQ] using hs x' hx'
  all_goals
   rw[SZ,List.getElem?_map,Option.map_eq_some_iff] at hk;obtain⟨y',hy,rfl⟩:=hk
  ·rw[VQ];exact h1 k y' hy
  ·exact hcell k y' hy
  ·exact ih k y' hy
 |agg μ cs vs hl _ ih=>
  simp only[A.soft,BC];refine .agg _ _ _ (by simpa using hl) fun k y hk=>?_;rw[List.getElem?_map,Option.map_eq_some_iff] at hk;obtain⟨y',hy,rfl⟩:=hk;exact ih k y' hy
 |tup μ cs vs hl _ ih=>
  simp only[A.soft,BC];refine .tup _ _ _ (by simpa using hl) fun k y hk=>?_;rw[List.getElem?_map,Option.map_eq_some_iff] at hk;obtain⟨y',hy,rfl⟩:=hk;exact ih k y' hy
 |pim μ b off cs g hb h1 hcell hr ih=>
  simp only[A.soft,BC];refine .pim _ b off _ g hb (fun k y hk=>?_) (fun k y hk=>?_) (fun k y hk=>?_);all_goals
   rw[List.getElem?_map,Option.map_eq_some_iff] at hk;obtain⟨y',hy,rfl⟩:=hk
  ·rw[VQ];exact h1 k y' hy
  ·exact hcell k y' hy
  ·exact ih k y' hy
 |pob _ _ _ _ _ _ h1 h2 h3=>simpa[A.soft] using Rel.pob _ _ _ _ _ _ h1 h2 h3
 |osl _ _ _ _ _ _ _ _ h1 h2 h4 h5 h3=>simpa[A.soft] using Rel.osl _ _ _ _ _ _ _ _ h1 h2 h4 h5 h3
 |pel _ _ _ _ _ _ _ h1 h2 h3=>simpa[A.soft] using Rel.pel _ _ _ _ _ _ _ h1 h2 h3
 |mo _ _ _ _ h1 h2 h3=>simpa[A.soft] using Rel.mo _ _ _ _ h1 h2 h3
 |fnc _ _ _ _ _ _ hl0 h0 hl h _ _=>simpa[A.soft] using Rel.fnc _ _ _ _ _ _ hl0 h0 hl h
 |ifc _ _ _ _ _ ih=>simpa[A.soft] using Rel.ifc _ _ _ _ ih
theorem Spec.soft {P:Program} {f:FuncId} {as' as'':List A} {r:A} (h:Spec P f as'' r) (e:A.softL as'=as''):Spec P f as' r:=by
 subst e;refine⟨h.1,fun w I vs hI ht hn ha=>h.2 w I vs hI ht (by simpa[BC] using hn) fun k y hk=>?_⟩;rw[BC,List.getElem?_map,Option.map_eq_some_iff] at hk;obtain⟨y',hy,rfl⟩:=hk;exact(ha k y' hy).soft
theorem SpecB.soft {P:Program} {f:FuncId} {as' as'':List A} {r:A} (h:SpecB P f as'' r) (e:A.softL as'=as''):SpecB P f as' r:=by
 subst e;refine⟨h.1,fun w I J vs hI hJ ht hn ha=>h.2 w I J vs hI hJ ht (by simpa[BC] using hn) fun k y hk=>?_⟩;rw[BC,List.getElem?_map,Option.map_eq_some_iff] at hk;obtain⟨y',hy,rfl⟩:=hk;exact(ha k y' hy).soft
theorem fW {H:Hp} {a:A} (h:a.bare=true):Jw H a a.soft:=fun c w I μ v hs hr=>(Ab h c w I μ v hs hr).soft
mutual
def A.ren (g:Nm→Nm) (δ:Nm→Nat):A→A
 |.pob o u off=>.pob (g o) (u+δ o) off
 |.osl o u sz off len=>.osl (g o) (u+δ o) sz off len
 |.pel o u i j=>.pel (g o) (u+δ o) i j
 |.mo o u=>.mo (g o) (u+δ o)
 |.agg cs=>.agg (A.renL g δ cs)
 |.tup cs=>.tup (A.renL g δ cs)
 |.fnc f fs cs=>.fnc f (A.renL g δ fs) (A.renL g δ cs)
 |.ifc t x=>.ifc t (A.ren g δ x)
 |.any=>.any
 |.v x=>.v x
 |.sl f xs=>.sl f xs
 |.pim cs=>.pim cs
def A.renL (g:Nm→Nm) (δ:Nm→Nat):List A→List A
 |[]=>[]
 |x::xs=>A.ren g δ x::A.renL g δ xs
end
mutual
def A.refs (S:Nm→Prop):A→Prop
 |.pob o u off=>S o
 |.osl o u sz off len=>S o
 |.pel o u i j=>S o
 |.mo o u=>S o
 |.agg cs=>A.refsL S cs
 |.tup cs=>A.refsL S cs
 |.fnc f fs cs=>A.refsL S fs∧A.refsL S cs
 |.ifc t x=>A.refs S x
 |.any=>True
 |.v x=>True
 |.sl f xs=>True
 |.pim cs=>True
def A.refsL (S:Nm→Prop):List A→Prop
 |[]=>True
 |x::xs=>A.refs S x∧A.refsL S xs
end
theorem B1 {g:Nm→Nm} {δ:Nm→Nat}:∀ l:List A,A.renL g δ l=l.map (A.ren g δ)
 |[]=>by simp[A.renL]
 |x::l=>by simp[A.renL,B1 l]
theorem refsL_iff {S:Nm→Prop}:∀ {l:List A},A.refsL S l ↔ ∀ x,x ∈ l→x.refs S
 |[]=>by simp[A.refsL]
 |x::l=>by simp[A.refsL,refsL_iff (l:=l)]
theorem SU {g:Nm→Nm} {δ:Nm→Nat} (a:A):(a.ren g δ).cells=a.cells.map (A.ren g δ):=by cases a<;>simp[A.ren,A.cells,B1]
theorem V4 {g:Nm→Nm} {δ:Nm→Nat}:∀ l:List A,(l.map (A.ren g δ)).flatMap A.cells=(l.flatMap A.cells).map (A.ren g δ)
 |[]=>rfl
 |x::l=>by simp[SU,V4 l]
theorem Y9 {g:Nm→Nm} {δ:Nm→Nat} (a:A):(a.ren g δ).one=a.one:=by cases a<;>simp[A.ren,A.one]
theorem Xw {S:Nm→Prop} {a y:A} (h:a.refs S) (hy:y ∈ a.cells):y.refs S:=by
 cases a<;>simp[A.cells] at hy<;>first | (subst hy;exact h) | exact refsL_iff.1 (by simpa[A.refs] using h) y hy
theorem Rel.ren {w:World} {I:Nat→Prop} {μ:Mu} {a:A} {v:Value} (h:Rel w I μ a v):∀ {μ':Mu} {S:Nm→Prop} {g:Nm→Nm} {δ:Nm→Nat},a.refs S→(∀ o,S o→1≤(μ o).u→μ' (g o)={ μ o with u:=(μ o).u+δ o })→Rel w I μ' (a.ren g δ) v:=by
 induction h with
 |any=>intro μ' S g δ _ _;simpa[A.ren] using Rel.any _ _
 |v=>intro μ' S g δ _ _;simpa[A.ren] using Rel.v _ _
 |slN _ _ _ _ h=>intro μ' S g δ _ _;simpa[A.ren] using Rel.slN _ _ _ _ h
 |sl μ f b off n cap sz xs g hb hn hc hf hs h1 hcell hr _=>intro μ' S g' δ _ _;simpa[A.ren] using Rel.sl _ f b off n cap sz xs g hb hn hc hf hs h1 hcell hr
 |pim μ b off cs g hb h1 hcell hr _=>intro μ' S g' δ _ _;simpa[A.ren] using Rel.pim _ b off cs g hb h1 hcell hr
 |agg μ cs vs hl _ ih=>
  intro μ' S g δ hS hμ;simp only[A.ren,B1];refine .agg _ _ _ (by simpa using hl) fun k y hk=>?_;rw[List.getElem?_map,Option.map_eq_some_iff] at hk;obtain⟨y',hy,rfl⟩:=hk;exact ih k y' hy (refsL_iff.1 (by simpa[A.refs] using hS) y' (List.mem_of_getElem? hy)) hμ
 |tup μ cs vs hl _ ih=>
  intro μ' S g δ hS hμ;simp only[A.ren,B1];refine .tup _ _ _ (by simpa using hl) fun k y hk=>?_;rw[List.getElem?_map,Option.map_eq_some_iff] at hk;obtain⟨y',hy,rfl⟩:=hk;exact ih k y' hy (refsL_iff.1 (by simpa[A.refs] using hS) y' (List.mem_of_getElem? hy)) hμ
 |fnc μ f fs caps us vs hl0 _ hl _ ih0 ih=>
  intro μ' S g δ hS hμ;simp only[A.refs] at hS;simp only[A.ren,B1];refine .fnc _ _ _ _ _ _ (by simpa using hl0) (fun k y hk=>?_) (by simpa using hl) fun k y hk=>?_
  ·rw[List.getElem?_map,Option.map_eq_some_iff] at hk;obtain⟨y',hy,rfl⟩:=hk;exact ih0 k y' hy (refsL_iff.1 hS.1 y' (List.mem_of_getElem? hy)) hμ
  ·rw[List.getElem?_map,Option.map_eq_some_iff] at hk;obtain⟨y',hy,rfl⟩:=hk;exact ih k y' hy (refsL_iff.1 hS.2 y' (List.mem_of_getElem? hy)) hμ
 |ifc _ _ _ _ _ ih=>
  intro μ' S g δ hS hμ;simp only[A.ren];exact .ifc _ _ _ _ (ih (by simpa[A.refs] using hS) hμ)
 |pob μ o u off b k h1 h2 h3=>
  intro μ' S g δ hS hμ;have e:=hμ o (by simpa[A.refs] using hS) (by omega);simp only[A.ren];exact .pob _ _ _ _ _ _ (by omega) (by rw[e];simpa using h2) fun hu=>by rw[e] at hu ⊢; exact h3 (by simpa using hu)
 |osl μ o u sz off len a cap h1 h2 h4 h5 h3=>
  intro μ' S g δ hS hμ;have e:=hμ o (by simpa[A.refs] using hS) (by omega);simp only[A.ren];exact .osl _ _ _ _ _ _ _ _ (by omega) (by rw[e];simpa using h2) h4 h5 fun hu=>by rw[e] at hu ⊢; exact h3 (by simpa using hu)
 |pel μ o u i j b k h1 h2 h3=>
  intro μ' S g δ hS hμ;have e:=hμ o (by simpa[A.refs] using hS) (by omega);simp only[A.ren];exact .pel _ _ _ _ _ _ _ (by omega) (by rw[e];simpa using h2) fun hu=>by rw[e] at hu ⊢; exact h3 (by simpa using hu)
 |mo μ o u b h1 h2 h3=>
  intro μ' S g δ hS hμ;have e:=hμ o (by simpa[A.refs] using hS) (by omega);simp only[A.ren];exact .mo _ _ _ _ (by omega) (by rw[e];simpa using h2) fun hu=>by rw[e] at hu ⊢; exact h3 (by simpa using hu)
def Ob.ren (g:Nm→Nm) (δ:Nm→Nat):Ob→Ob
 |.none=>.none
 |.cells cs=>.cells (A.renL g δ cs)
 |.arr sz xs=>.arr sz (A.renL g δ xs)
 |.mp es=>.mp es
def Ob.refs (S:Nm→Prop):Ob→Prop
 |.none=>True
 |.cells cs=>A.refsL S cs
 |.arr sz xs=>A.refsL S xs
 |.mp _=>True
theorem MM {g:Nm→Nm} {δ:Nm→Nat} {L:nj} {ob:Ob}:BJ L (ob.ren g δ)=BJ L ob:=by cases ob<;>rfl
theorem OSim.ren {w:World} {I:Nat→Prop} {μ μ':Mu} {L L':nj} {ob:Ob} {S:Nm→Prop} {g:Nm→Nm} {δ:Nm→Nat} (h:OSim w I μ L ob) (hS:ob.refs S) (hμ:∀ o,S o→1≤(μ o).u→μ' (g o)={ μ o with u:=(μ o).u+δ o }) (hL:L'={ L with u:=L'.u }) :
  OSim w I μ' L' (ob.ren g δ):=by
 rw[hL];cases ob with
 |none=>trivial
 |mp es=>exact h
 |cells cs=>
  obtain⟨vs,h1,h2,h3⟩:=h;simp only[Ob.ren,B1];refine⟨vs,h1,by simpa using h2,fun k y hk=>?_⟩;rw[List.getElem?_map,Option.map_eq_some_iff] at hk;obtain⟨y',hy,rfl⟩:=hk;exact⟨by rw[Y9];exact(h3 k y' hy).1,(h3 k y' hy).2.ren (refsL_iff.1 hS y' (List.mem_of_getElem? hy)) hμ⟩
 |arr sz xs=>
  simp only[Ob.ren,B1];obtain⟨h0,⟨h1,h2⟩ | ⟨h1,vs,h3,h4,h5,h6,h7⟩⟩:=h
  ·exact⟨h0,.inl ⟨h1,by rw[h2];rfl⟩⟩
  ·refine⟨h0,.inr ⟨h1,vs,h3,h4,by simpa using h5,fun x hx=>?_,fun k y hk=>?_⟩⟩
   ·obtain⟨x',hx',rfl⟩:=List.mem_map.1 hx;simpa[SU] using h6 x' hx'
   ·rw[V4,List.getElem?_map,Option.map_eq_some_iff] at hk;obtain⟨y',hy,rfl⟩:=hk;obtain⟨x,hx,hy'⟩:=List.mem_flatMap.1 (List.mem_of_getElem? hy);exact⟨by rw[Y9];exact(h7 k y' hy).1,(h7 k y' hy).2.ren (Xw (refsL_iff.1 hS x hx) hy') hμ⟩
def HI (P:Program) (w0:World) (I0:Nat→Prop) (M0:Nm→Nat→Prop) (n:Nat) (m0:Mu):Cx:=⟨P,w0,I0,M0,n,m0,fun _=>False,[]⟩
@[simp] theorem AdV {P:Program} {w0:World} {I0:Nat→Prop} {M0:Nm→Nat→Prop} {n:Nat} {m0:Mu}:(HI P w0 I0 M0 n m0).P=P:=rfl
def SpecH (P:Program) (f:FuncId) (k:Nat) (args:List A) (Hc:Hp) (r:A) (Hr:Hp):Prop:=
 Ji P f=true∧∀ (w:World) (I:Nat→Prop) (M0:Nm→Nat→Prop) (n:Nat) (μ:Mu) (vs:Array Value),(∀ (o:Nm) (b:Nat),(Hc o).ob = .none→¬ M0 o b)→Sim (HI P w I M0 n μ) w I μ Hc→vs.size=args.length→(∀ (k:Nat) (y:A),args[k]? = some y→Rel w I μ y (vs.getD k undef)) →
  Calls P f vs w fun e w'=>∃ v,e = .returned v∧∃ H' I' μ',Sim (HI P w I M0 n μ) w' I' μ' H'∧Rel w' I' μ' r v∧∀ (i:Nat) (p:Nm),i<k→H' (i::p)=Hr (i::p)
theorem Sim.of_n {P:Program} {w0 w:World} {I0 I:Nat→Prop} {M0:Nm→Nat→Prop} {n n':Nat} {m0 μ:Mu} {H:Hp} (h:Sim (HI P w0 I0 M0 n m0) w I μ H):Sim (HI P w0 I0 M0 n' m0) w I μ H:=
 ⟨h.kept,h.lt,h.old,h.new,h.ver,h.ob,h.apart,h.own,h.mle,h.tag,h.tab⟩
def HK (c:Cx) (rs:List ResultVar) (k:Nat) (r:A) (Hr:Hp):Exit→Sta→Prop:=fun e st=>KX c (bf c.P rs (fun r0 H=>r0=r∧∀ (i:Nat) (p:Nm),i<k→H (i::p)=Hr (i::p)) e) st
theorem DQ {c:Cx} {rs:List ResultVar} {k:Nat} {r:A} {Hr:Hp} {e:Exit} {st st':Sta} (h:Le c st st') (k':HK c rs k r Hr e st'):HK c rs k r Hr e st:=L5 h k'
theorem Vi {c:Cx} {rs:List ResultVar} {k:Nat} {r r0:A} {Hr:Hp} {st:Sta} (h:FW c.P st rs=some r0) (he:r0=r) (hh:∀ (i:Nat) (p:Nm),i<k→st.H (i::p)=Hr (i::p)):HK c rs k r Hr .ret st:=Ax ⟨r0,h,he,hh⟩
theorem N4 {c:Cx} {rs:List ResultVar} {k:Nat} {r r0:A} {Hr:Hp} {st:Sta} (h:FW c.P st rs=some r0) (he:r0=r) (hh:∀ (i:Nat) (p:Nm),i<k→st.H (i::p)=Hr (i::p)):HK c rs k r Hr .normal st:=Ax ⟨r0,h,he,hh⟩
theorem NQ {P:Program} {f:FuncId} {n k:Nat} {rs:List ResultVar} {cc:CC} {args:List A} {Hc:Hp} {r:A} {Hr:Hp} (t:BM P f n rs cc) (ha:args.length≤n)
  (h:∀ w0 I0 M0 m0,(∀ (o:Nm) (b:Nat),(Hc o).ob = .none→¬ M0 o b)→WPC (HI P w0 I0 M0 n m0) cc (HK (HI P w0 I0 M0 n m0) rs k r Hr) ⟨Fk args,Hc⟩):SpecH P f k args Hc r Hr:=by
 obtain⟨hm,hk,fn,code,hf,hb,hn,hrs,hc⟩:=t;refine⟨hk,fun w I M0 n' μ vs hN hs hl har=>?_⟩;refine(Ka (Q:=fun r0 H=>r0=r∧∀ (i:Nat) (p:Nm),i<k→H (i::p)=Hr (i::p)) hf hb (c:=HI P w I M0 n μ) rfl hn.symm rfl hl (by omega) (Sim.of_n hs) har (fun a w1 I1 μ1 hsr=>wp_mono (DH (c:=HI P w I M0 n μ) hm hc (h w I M0 μ hN) a w1 I1 μ1 hsr) fun e a' w' hh=>by
   rcases hh with ⟨st',I',μ',g1,g2⟩ | ⟨t,k,_⟩
   ·rcases g2 with g2 | ⟨st2,g2,g3⟩
    ·exact(g2 _ _ _ _ g1).elim
    ·obtain⟨I2,μ2,g4⟩:=g2 a' w' I' μ' g1;exact .inl ⟨st2,I2,μ2,g4,by rw[hrs];exact g3⟩
   ·exact k.elim)).mono fun e w' hh=>?_
 rcases hh with ⟨v,r0,H',I',μ',he,h1,h2,h3,h4⟩ | ⟨t,k,_⟩
 case inr=>exact k.elim
 subst h3;exact⟨v,he,H',I',μ',h1.of_n,h2,h4⟩
theorem iI {P:Program} {f:FuncId} {n k:Nat} {rs:List ResultVar} {cc:CC} {args:List A} {Hc:Hp} {r:A} {Hr:Hp} (t:BM P f n rs cc) (ha:args.length≤n)
  (h:∀ w0 I0 M0 m0,WPC (HI P w0 I0 M0 n m0) cc (HK (HI P w0 I0 M0 n m0) rs k r Hr) ⟨Fk args,Hc⟩):SpecH P f k args Hc r Hr:=NQ t ha fun w0 I0 M0 m0 _=>h w0 I0 M0 m0
def mg (rs:List Nat):Nm→Nm
 |i::p=>rs.getD i 0::p
 |[]=>[]
def Uw (rs:List Nat):Nm→Nm
 |j::p=>rs.idxOf j::p
 |[]=>[]
def Zn (rs:List Nat) (m:Nat):Nm→Prop
 |j::p=>rs.idxOf j<m
 |[]=>False
def Wu (k:Nat):Nm→Prop
 |i::p=>i<k
 |[]=>False
def WM (rs:List Nat) (m:Nat) (H:Hp):Nm→Nat
 |i::p=>if i<m then 0 else if i<rs.length then (H (rs.getD i 0::p)).u else 0
 |[]=>0
def VOb.ren (g:Nm→Nm) (δ:Nm→Nat) (d:Nat) (x:VOb):VOb:=⟨x.u+d,x.ob.ren g δ⟩
def JF (rs:List Nat) (m:Nat) (H Hr:Hp):Hp
 |j::p=>(Hr (rs.idxOf j::p)).ren (mg rs) (WM rs m H) (WM rs m H (rs.idxOf j::p))
 |[]=>⟨0,.none⟩
theorem D5 {rs:List Nat} (hnd:rs.Nodup) {i:Nat} (h:i<rs.length):rs.idxOf (rs.getD i 0)=i:=by
 have e:rs.getD i 0=rs[i]:=by simp[List.getD,h]
 rw[e];exact hnd.idxOf_getElem i h
theorem HZ {rs:List Nat} {j:Nat} (h:j ∈ rs):rs.getD (rs.idxOf j) 0=j:=by
 have hl:=List.idxOf_lt_length_iff.2 h;simp[List.getD,hl]
theorem idx_mem {rs:List Nat} {j:Nat}:rs.idxOf j<rs.length ↔ j ∈ rs:=List.idxOf_lt_length_iff
theorem PI {g:Nm→Nm} {δ:Nm→Nat} {d:Nat} {x:VOb} (h:(x.ren g δ d).ob = .none):x.ob = .none:=by
 cases x with
 |mk u ob=>cases ob<;>first | rfl | cases h
theorem ab {P:Program} {f:FuncId} {rs:List Nat} {m:Nat} {args:List A} {Hc Hr:Hp} {r:A} {H:Hp} (hnd:rs.Nodup) (hm:m≤rs.length)
  (hS:SpecH P f rs.length (A.renL (Uw rs) (fun _=>0) args) Hc r Hr)
  (h1:∀ (i:Nat) (p:Nm),i<m→Hc (i::p)=(H (rs.getD i 0::p)).ren (Uw rs) (fun _=>0) 0) (h2:∀ (i:Nat) (p:Nm),m≤i→Hc (i::p)=⟨0,.none⟩) (h3:Hc []=⟨0,.none⟩)
  (ha:A.refsL (Zn rs m) args) (hc:∀ (i:Nat) (p:Nm),i<m→(H (rs.getD i 0::p)).ob.refs (Zn rs m))
  (hr:r.refs (Wu rs.length)) (ho:∀ (i:Nat) (p:Nm),i<rs.length→(Hr (i::p)).ob.refs (Wu rs.length))
  (hv:∀ (i:Nat) (p:Nm),m≤i→i<rs.length→(Hr (i::p)).ob = .none∨1≤(Hr (i::p)).u) :
  Ye P H f args (r.ren (mg rs) (WM rs m H)) (.fn rs (JF rs m H Hr)):=by
 refine⟨hS.1,fun c w I μ vs hP hs hl har=>?_⟩
 let nm:Nat→Nm→Nm:=fun i p=>rs.getD i 0::p
 let μc:Mu:=fun o=>match o with
  |i::p=>if i<m then μ (nm i p) else Jq (i::p)
  |[]=>Jq []
 let M1:Nm→Nat→Prop:=fun o b=>∃ i p,o=i::p∧i<m∧BJ (μ (nm i p)) (H (nm i p)).ob=true∧b=(μ (nm i p)).b
 have hμ:∀ o,Zn rs m o→1≤(μ o).u→μc (Uw rs o)={ μ o with u:=(μ o).u+(fun _=>0) o }:=fun o ho _=>by
  cases o with
  |nil=>exact ho.elim
  |cons j p=>
   have hj:rs.idxOf j<m:=ho;show(if rs.idxOf j<m then μ (nm (rs.idxOf j) p) else _)=_;rw[if_pos hj];have:nm (rs.idxOf j) p=j::p:=by show rs.getD (rs.idxOf j) 0::p=_;rw[HZ (idx_mem.1 (by omega))]
   rw[this];rfl
 have nm_ne:∀ {i i':Nat} {p p':Nm},i<rs.length→i'<rs.length→i::p ≠ i'::p'→nm i p ≠ nm i' p':=fun {i i' p p'} hi hi' hne e=>by
  have e1:rs.getD i 0=rs.getD i' 0:=by injection e
  have e2:p=p':=by injection e
  have:=D5 hnd hi;rw[e1,D5 hnd hi'] at this;exact hne (by rw[this,e2])
 have own1:∀ (i:Nat) (p:Nm),BJ (μc (i::p)) (Hc (i::p)).ob=true→i<m∧BJ (μ (nm i p)) (H (nm i p)).ob=true∧μc (i::p)=μ (nm i p):=fun i p h=>by
  by_cases hi:i<m
  ·have e:μc (i::p)=μ (nm i p):=if_pos hi;rw[e,h1 i p hi] at h;simp only[VOb.ren,MM] at h;exact⟨hi,h,e⟩
  ·rw[h2 i p (by omega)] at h;cases h
 have start:Sim (HI P w I M1 0 μc) w I μc Hc:=by
  refine⟨⟨rfl,rfl,rfl,CE _,fun _ _ _=>rfl⟩,hs.lt,fun _ h=>h,fun b hb=>.inl hb,fun o=>?_,fun o=>?_,fun o o' k k' hne=>?_,fun o k=>?_,MuLe.refl _,fun o k=>?_,by subst hP;exact hs.tab⟩
  ·cases o with
   |nil=>rw[h3];rfl
   |cons i p=>
    by_cases hi:i<m
    ·have e:μc (i::p)=μ (nm i p):=if_pos hi;rw[e,h1 i p hi,hs.ver];rfl
    ·have e:μc (i::p)=Jq (i::p):=if_neg hi;rw[e,h2 i p (by omega)];rfl
  ·cases o with
   |nil=>rw[h3];trivial
   |cons i p=>
    by_cases hi:i<m
    ·have e:μc (i::p)=μ (nm i p):=if_pos hi;rw[e,h1 i p hi];exact(hs.ob (nm i p)).ren (hc i p hi) hμ rfl
    ·rw[h2 i p (by omega)];trivial
  ·cases o with
   |nil=>rw[h3] at k;cases k
   |cons i p=>
    cases o' with
    |nil=>rw[h3] at k';cases k'
    |cons i' p'=>
     obtain⟨q1,q2,q3⟩:=own1 i p k;obtain⟨r1,r2,r3⟩:=own1 i' p' k';rw[q3,r3];exact hs.apart _ _ q2 r2 (nm_ne (by omega) (by omega) hne)
  ·cases o with
   |nil=>rw[h3] at k;cases k
   |cons i p=>
    obtain⟨q1,q2,q3⟩:=own1 i p k;rw[q3];obtain⟨g1,g2,g3⟩:=hs.own _ q2;exact⟨g1,.inl ⟨i,p,rfl,q1,q2,rfl⟩,g3⟩
  ·cases o with
   |nil=>rw[h3] at k;cases k
   |cons i p=>
    obtain⟨q1,q2,q3⟩:=own1 i p k;rw[q3];exact hs.tag _ q2
 have harg:∀ (k:Nat) (y:A),(A.renL (Uw rs) (fun _=>0) args)[k]? = some y→Rel w I μc y (vs.getD k undef):=fun k y hk=>by
  rw[B1,List.getElem?_map,Option.map_eq_some_iff] at hk;obtain⟨y',hy,rfl⟩:=hk;exact(har k y' hy).ren (refsL_iff.1 ha y' (List.mem_of_getElem? hy)) hμ
 refine(hS.2 w I M1 0 μc vs (fun o b h ⟨i,p,e,hi,hb,_⟩=>by
  subst e;rw[h1 i p hi] at h;rw[show(H (nm i p)).ob = .none from PI h] at hb;cases hb) start (by simpa[B1] using hl) harg).mono fun e w' ⟨v,he,H',I',μ',hs',hrel,hH'⟩=>⟨v,he,I',?_⟩
 let δ:=WM rs m H
 let μ2:Mu:=fun n=>match n with
  |j::p=>if j ∈ rs then (if rs.idxOf j<m∨1≤(μ' (rs.idxOf j::p)).u then { μ' (rs.idxOf j::p) with u:=(μ' (rs.idxOf j::p)).u+δ (rs.idxOf j::p) } else μ (j::p)) else μ (j::p)
  |[]=>μ []
 have δ0:∀ {i:Nat} {p:Nm},i<m→δ (i::p)=0:=fun {i p} h=>if_pos h;have δ1:∀ {i:Nat} {p:Nm},¬ i<m→i<rs.length→δ (i::p)=(H (nm i p)).u:=fun {i p} h h'=>by
  show(if i<m then _ else _)=_;rw[if_neg h,if_pos h']
 have nmj:∀ {j:Nat} {p:Nm},j ∈ rs→nm (rs.idxOf j) p=j::p:=fun {j p} h=>by show rs.getD (rs.idxOf j) 0::p=_;rw[HZ h]
 have app_in:∀ {j:Nat} {p:Nm},j ∈ rs→(Eff.fn rs (JF rs m H Hr)).app H (j::p)=JF rs m H Hr (j::p):=fun {j p} h=>by simp[Eff.app,h]
 have app_out:∀ {j:Nat} {p:Nm},j ∉ rs→(Eff.fn rs (JF rs m H Hr)).app H (j::p)=H (j::p):=fun {j p} h=>by simp[Eff.app,h]
 have app_nil':(Eff.fn rs (JF rs m H Hr)).app H []=H []:=rfl;have mu_in:∀ {j:Nat} {p:Nm},j ∈ rs→(rs.idxOf j<m∨1≤(μ' (rs.idxOf j::p)).u)→μ2 (j::p)={ μ' (rs.idxOf j::p) with u:=(μ' (rs.idxOf j::p)).u+δ (rs.idxOf j::p) }:=fun {j p} h h'=>by
  show(if j ∈ rs then _ else _)=_;rw[if_pos h,if_pos h']
 have mu_old:∀ {j:Nat} {p:Nm},j ∈ rs→¬ (rs.idxOf j<m∨1≤(μ' (rs.idxOf j::p)).u)→μ2 (j::p)=μ (j::p):=fun {j p} h h'=>by
  show(if j ∈ rs then _ else _)=_;rw[if_pos h,if_neg h']
 have mu_out:∀ {j:Nat} {p:Nm},j ∉ rs→μ2 (j::p)=μ (j::p):=fun {j p} h=>by
  show(if j ∈ rs then _ else _)=_;rw[if_neg h]
 have hle:MuLe μ μ2:=fun o=>by
  cases o with
  |nil=>exact⟨CE _,fun _=>rfl⟩
  |cons j p=>
   by_cases hj:j ∈ rs
   ·by_cases hi:rs.idxOf j<m
    ·rw[mu_in hj (.inl hi),δ0 hi];have e:μc (rs.idxOf j::p)=μ (j::p):=by
      show(if rs.idxOf j<m then _ else _)=_;rw[if_pos hi,nmj hj]
     have:=hs'.mle (rs.idxOf j::p);change (μc (rs.idxOf j::p)).u≤_∧(_=(μc (rs.idxOf j::p)).u→_=μc (rs.idxOf j::p)) at this;rw[e] at this;exact⟨this.1,fun q=>by rw[← this.2 q];rfl⟩
    ·by_cases hu:1≤(μ' (rs.idxOf j::p)).u
     ·rw[mu_in hj (.inr hu),δ1 hi (idx_mem.2 hj),nmj hj,← hs.ver];exact⟨by simp,fun q=>by simp at q;omega⟩
     ·rw[mu_old hj (by omega)];exact⟨CE _,fun _=>rfl⟩
   ·rw[mu_out hj];exact⟨CE _,fun _=>rfl⟩
 have notM1:∀ {n:Nm} {b:Nat},BJ (μ n) (H n).ob=true→b=(μ n).b→(∀ j p,n=j::p→j ∉ rs)→¬ ∃ o,M1 o b:=fun {n b} hb e hn ⟨_,i,p,_,q1,q2,q3⟩=>by
  refine hs.apart n (nm i p) hb q2 (fun e'=>?_) (by rw[← e,q3]);refine hn _ _ e' ?_;have:i<rs.length:=by omega
  simp[List.getD,this]
 have hx:Ext I μ w I' μ2 w':=⟨fun b h=>hs'.old b h,fun b h=>hs'.kept.block b (hs.lt b h) (fun ⟨_,i,p,_,q1,q2,q3⟩=>(hs.own _ q2).1 (by rw[← q3];exact h)),hle⟩;have hμ2:∀ o,Wu rs.length o→1≤(μ' o).u→μ2 (mg rs o)={ μ' o with u:=(μ' o).u+δ o }:=fun o ho h1=>by
  cases o with
  |nil=>exact ho.elim
  |cons i p=>
   have hi:i<rs.length:=ho;have e:=D5 hnd hi;have hmem:rs.getD i 0 ∈ rs:=idx_mem.1 (by rw[e];exact hi);show μ2 (rs.getD i 0::p)=_;rw[mu_in hmem (.inr (by rw[e];exact h1)),e]
 have oH:∀ {j:Nat} {p:Nm},j ∈ rs→(H' (rs.idxOf j::p))=Hr (rs.idxOf j::p):=fun {j p} h=>hH' _ _ (idx_mem.2 h);have own2:∀ {j:Nat} {p:Nm},j ∈ rs→BJ (μ2 (j::p)) (JF rs m H Hr (j::p)).ob=true→BJ (μ' (rs.idxOf j::p)) (H' (rs.idxOf j::p)).ob=true∧(μ2 (j::p)).b=(μ' (rs.idxOf j::p)).b:=fun {j p} hj h=>by
  simp only[JF,VOb.ren,MM] at h;by_cases hi:rs.idxOf j<m∨1≤(μ' (rs.idxOf j::p)).u
  ·rw[mu_in hj hi] at h ⊢;rw[oH hj];exact⟨by cases hq:(Hr (rs.idxOf j::p)).ob<;>rw[hq] at h<;>exact h,rfl⟩
  ·rcases hv (rs.idxOf j) p (by omega) (idx_mem.2 hj) with e | e
   ·rw[e] at h;cases h
   ·rw[← oH hj,← hs'.ver] at e;omega
 have own3:∀ {j:Nat} {p:Nm},j ∈ rs→BJ (μ2 (j::p)) (JF rs m H Hr (j::p)).ob=true→(μ2 (j::p)).e=(μ' (rs.idxOf j::p)).e:=fun {j p} hj h=>by
  simp only[JF,VOb.ren,MM] at h;by_cases hi:rs.idxOf j<m∨1≤(μ' (rs.idxOf j::p)).u
  ·rw[mu_in hj hi]
  ·rcases hv (rs.idxOf j) p (by omega) (idx_mem.2 hj) with e | e
   ·rw[e] at h;cases h
   ·rw[← oH hj,← hs'.ver] at e;omega
 have blk:∀ {i:Nat} {p:Nm},BJ (μ' (i::p)) (H' (i::p)).ob=true→¬ I' (μ' (i::p)).b∧(M1 (i::p) (μ' (i::p)).b∨w.heap.size≤(μ' (i::p)).b)∧(μ' (i::p)).b<w'.heap.size:=fun {i p} h=>hs'.own _ h;refine⟨μ2,hx,⟨?_,hs'.lt,fun b h=>hs'.old b (hs.old b h),fun b h=>?_,fun o=>?_,fun o=>?_,fun o o' k k' hne=>?_,fun o k=>?_,hs.mle.trans hle,fun o k=>?_,by subst hP;exact hs'.tab⟩,hrel.ren hr hμ2⟩
 ·have k1:=hs.kept;have k2:=hs'.kept;refine⟨k2.os.trans k1.os,k2.tape.trans k1.tape,k2.output.trans k1.output,Nat.le_trans k1.size k2.size,fun b hb hM=>?_⟩;refine(k2.block b (Nat.lt_of_lt_of_le hb k1.size) (fun ⟨_,i,p,_,q1,q2,q3⟩=>?_)).trans (k1.block b hb hM);rcases (hs.own _ q2).2.1 with g | g
  ·rw[← q3] at g;exact hM ⟨_,g⟩
  ·rw[← q3] at g;omega
 ·rcases hs'.new b h with g | g
  ·exact hs.new b g
  ·exact .inr (Nat.le_trans hs.kept.size g)
 ·cases o with
  |nil=>exact hs.ver []
  |cons j p=>
   by_cases hj:j ∈ rs
   ·rw[app_in hj];show _=(Hr (rs.idxOf j::p)).u+δ (rs.idxOf j::p);rw[← oH hj,← hs'.ver];by_cases hi:rs.idxOf j<m∨1≤(μ' (rs.idxOf j::p)).u
    ·rw[mu_in hj hi]
    ·rw[mu_old hj hi,δ1 (by omega) (idx_mem.2 hj),nmj hj,hs.ver];omega
   ·rw[app_out hj,mu_out hj];exact hs.ver _
 ·cases o with
  |nil=>exact OSim.keep hx (fun hb=>hs'.kept.block _ (hs.own _ hb).2.2 (notM1 hb rfl (fun j p e=>nomatch e))) (hs.ob [])
  |cons j p=>
   by_cases hj:j ∈ rs
   ·rw[app_in hj];by_cases hi:rs.idxOf j<m∨1≤(μ' (rs.idxOf j::p)).u
    ·rw[mu_in hj hi];have:=hs'.ob (rs.idxOf j::p);rw[oH hj] at this;exact this.ren (ho _ _ (idx_mem.2 hj)) hμ2 rfl
    ·rcases hv (rs.idxOf j) p (by omega) (idx_mem.2 hj) with e | e
     ·simp only[JF,VOb.ren,e];trivial
     ·rw[← oH hj,← hs'.ver] at e;omega
   ·rw[app_out hj,mu_out hj];exact OSim.keep hx (fun hb=>hs'.kept.block _ (hs.own _ hb).2.2 (notM1 hb rfl (fun j' p' e=>by cases e;exact hj))) (hs.ob _)
 ·have cross:∀ {j:Nat} {p:Nm} {n:Nm},j ∈ rs→BJ (μ2 (j::p)) (JF rs m H Hr (j::p)).ob=true→BJ (μ n) (H n).ob=true→(∀ j p,n=j::p→j ∉ rs)→(μ2 (j::p)).b ≠ (μ n).b:=fun {j p n} hj h h' hn e=>by
   obtain⟨q1,q2⟩:=own2 hj h;obtain⟨_,g,_⟩:=blk q1;rw[q2] at e;rcases g with g | g
   ·exact notM1 h' e hn ⟨_,g⟩
   ·have:=(hs.own _ h').2.2;omega
  cases o with
  |nil=>
   cases o' with
   |nil=>exact(hne rfl).elim
   |cons j' p'=>
    by_cases hj':j' ∈ rs
    ·rw[app_in hj'] at k';exact Ne.symm (cross hj' k' k (fun j p e=>nomatch e))
    ·rw[app_out hj',mu_out hj'] at k';rw[mu_out hj'];exact hs.apart _ _ k k' hne
  |cons j p=>
   by_cases hj:j ∈ rs
   ·rw[app_in hj] at k;cases o' with
    |nil=>exact cross hj k k' (fun j p e=>nomatch e)
    |cons j' p'=>
     by_cases hj':j' ∈ rs
     ·rw[app_in hj'] at k';obtain⟨q1,q2⟩:=own2 hj k;obtain⟨r1,r2⟩:=own2 hj' k';rw[q2,r2];refine hs'.apart _ _ q1 r1 (fun e=>hne ?_);have e1:rs.idxOf j=rs.idxOf j':=by injection e
      have e2:p=p':=by injection e
      rw[← HZ hj,← HZ hj',e1,e2]
     ·rw[app_out hj',mu_out hj'] at k';rw[mu_out hj'];exact cross hj k k' (fun j'' p'' e=>by cases e;exact hj')
   ·rw[app_out hj,mu_out hj] at k;rw[mu_out hj];cases o' with
    |nil=>exact hs.apart _ _ k k' hne
    |cons j' p'=>
     by_cases hj':j' ∈ rs
     ·rw[app_in hj'] at k';exact Ne.symm (cross hj' k' k (fun j'' p'' e=>by cases e;exact hj))
     ·rw[app_out hj',mu_out hj'] at k';rw[mu_out hj'];exact hs.apart _ _ k k' hne
 ·have far:∀ {n:Nm},BJ (μ n) (H n).ob=true→¬ I' (μ n).b∧(c.M0 n (μ n).b∨c.w0.heap.size≤(μ n).b)∧(μ n).b<w'.heap.size:=fun {n} h=>by
   obtain⟨g1,g2,g3⟩:=hs.own _ h;refine⟨fun h'=>?_,g2,Nat.lt_of_lt_of_le g3 hs'.kept.size⟩;rcases hs'.new _ h' with g | g
   ·exact g1 g
   ·exact absurd (show w.heap.size≤_ from g) (by omega)
  cases o with
  |nil=>exact far k
  |cons j p=>
   by_cases hj:j ∈ rs
   ·rw[app_in hj] at k;obtain⟨q1,q2⟩:=own2 hj k;rw[q2];obtain⟨g1,g2,g3⟩:=blk q1;refine⟨g1,?_,g3⟩;rcases g2 with ⟨i,p',r0,r1,r2,r3⟩ | g2
    ·have e1:rs.idxOf j=i:=by injection r0
     have e2:p=p':=by injection r0
     rw[← e1,← e2,nmj hj] at r2 r3;rw[r3];exact(hs.own _ r2).2.1
    ·exact .inr (Nat.le_trans hs.kept.size g2)
   ·rw[app_out hj,mu_out hj] at k;rw[mu_out hj];exact far k
 ·cases o with
  |nil=>exact hs.tag _ k
  |cons j p=>
   by_cases hj:j ∈ rs
   ·rw[app_in hj] at k;rw[own3 hj k];exact hs'.tag _ (own2 hj k).1
   ·rw[app_out hj,mu_out hj] at k;rw[mu_out hj];exact hs.tag _ k
def g9 (dt:TypeId) (P:Program) (f:FuncId) (args:List A) (Hc:Hp):Prop:=
 Ji P f=true∧∀ (w:World) (I:Nat→Prop) (M0:Nm→Nat→Prop) (n:Nat) (μ:Mu) (vs:Array Value),(∀ (o:Nm) (b:Nat),(Hc o).ob = .none→¬ M0 o b)→Sim (HI P w I M0 n μ) w I μ Hc→vs.size=args.length→(∀ (k:Nat) (y:A),args[k]? = some y→Rel w I μ y (vs.getD k undef)) →
  Calls P f vs w fun e w'=>e = .panicked [LH dt]∧Kept (fun b=>∃ o,M0 o b) w w'
def OM (dt:TypeId) (φ:Prop) (P:Program) (w0:World) (I0:Nat→Prop) (M0:Nm→Nat→Prop) (n:Nat) (m0:Mu):Cx:=⟨P,w0,I0,M0,n,m0,fun t=>t=dt∧φ,[]⟩
@[simp] theorem AdU {dt:TypeId} {φ:Prop} {P:Program} {w0:World} {I0:Nat→Prop} {M0:Nm→Nat→Prop} {n:Nat} {m0:Mu}:(OM dt φ P w0 I0 M0 n m0).P=P:=rfl
theorem Sim.to_d {dt:TypeId} {φ:Prop} {P:Program} {w0 w:World} {I0 I:Nat→Prop} {M0:Nm→Nat→Prop} {n n':Nat} {m0 μ:Mu} {H:Hp} (hs:Sim (HI P w0 I0 M0 n m0) w I μ H):Sim (OM dt φ P w0 I0 M0 n' m0) w I μ H:=
 ⟨hs.kept,hs.lt,hs.old,hs.new,hs.ver,hs.ob,hs.apart,hs.own,hs.mle,hs.tag,hs.tab⟩
theorem Sim.of_d {dt:TypeId} {φ:Prop} {P:Program} {w0 w:World} {I0 I:Nat→Prop} {M0:Nm→Nat→Prop} {n n':Nat} {m0 μ:Mu} {H:Hp} (hs:Sim (OM dt φ P w0 I0 M0 n m0) w I μ H):Sim (HI P w0 I0 M0 n' m0) w I μ H:=
 ⟨hs.kept,hs.lt,hs.old,hs.new,hs.ver,hs.ob,hs.apart,hs.own,hs.mle,hs.tag,hs.tab⟩
def mS (c:Cx):Exit→Sta→Prop:=fun _ st=>iK c st
theorem dJ {dt:TypeId} {P:Program} {f:FuncId} {n:Nat} {rs:List ResultVar} {cc:CC} {args:List A} {Hc:Hp} (t:BM P f n rs cc) (ha:args.length≤n)
  (h:∀ w0 I0 M0 m0,(∀ (o:Nm) (b:Nat),(Hc o).ob = .none→¬ M0 o b)→WPC (OM dt True P w0 I0 M0 n m0) cc (mS (OM dt True P w0 I0 M0 n m0)) ⟨Fk args,Hc⟩):g9 dt P f args Hc:=by
 obtain⟨hm,hk,fn,code,hf,hb,hn,hrs,hc⟩:=t;refine⟨hk,fun w I M0 n' μ vs hN hs hl har=>?_⟩;refine(Ka (Q:=fun _ _=>False) hf hb (c:=OM dt True P w I M0 n μ) rfl hn.symm rfl hl (by omega) hs.to_d har (fun a w1 I1 μ1 hsr=>wp_mono (DH (c:=OM dt True P w I M0 n μ) hm hc (h w I M0 μ hN) a w1 I1 μ1 hsr) fun e a' w' hh=>by
   rcases hh with ⟨st',I',μ',g1,g2⟩ | k
   ·exact(g2 _ _ _ _ g1).elim
   ·exact .inr k)).mono fun e w' hh=>?_
 rcases hh with ⟨v,r0,H',I',μ',he,h1,h2,h3⟩ | ⟨t,⟨rfl,_⟩,k2,k3⟩
 ·exact h3.elim
 ·exact⟨k2,k3⟩
theorem bb {dt:TypeId} {P:Program} {f:FuncId} {n k:Nat} {rs:List ResultVar} {cc:CC} {args:List A} {Hc:Hp} {r:A} {Hr:Hp} (t:BM P f n rs cc) (ha:args.length≤n)
  (h:∀ w0 I0 M0 m0,(∀ (o:Nm) (b:Nat),(Hc o).ob = .none→¬ M0 o b)→WPC (OM dt False P w0 I0 M0 n m0) cc (HK (OM dt False P w0 I0 M0 n m0) rs k r Hr) ⟨Fk args,Hc⟩):SpecH P f k args Hc r Hr:=by
 obtain⟨hm,hk,fn,code,hf,hb,hn,hrs,hc⟩:=t;refine⟨hk,fun w I M0 n' μ vs hN hs hl har=>?_⟩;refine(Ka (Q:=fun r0 H=>r0=r∧∀ (i:Nat) (p:Nm),i<k→H (i::p)=Hr (i::p)) hf hb (c:=OM dt False P w I M0 n μ) rfl hn.symm rfl hl (by omega) hs.to_d har (fun a w1 I1 μ1 hsr=>wp_mono (DH (c:=OM dt False P w I M0 n μ) hm hc (h w I M0 μ hN) a w1 I1 μ1 hsr) fun e a' w' hh=>by
   rcases hh with ⟨st',I',μ',g1,g2⟩ | ⟨t,⟨_,k⟩,_⟩
   ·rcases g2 with g2 | ⟨st2,g2,g3⟩
    ·exact(g2 _ _ _ _ g1).elim
    ·obtain⟨I2,μ2,g4⟩:=g2 a' w' I' μ' g1;exact .inl ⟨st2,I2,μ2,g4,by rw[hrs];exact g3⟩
   ·exact k.elim)).mono fun e w' hh=>?_
 rcases hh with ⟨v,r0,H',I',μ',he,h1,h2,h3,h4⟩ | ⟨t,⟨_,k⟩,_⟩
 case inr=>exact k.elim
 subst h3;exact⟨v,he,H',I',μ',h1.of_d,h2,h4⟩
theorem Wp {dt:TypeId} {P:Program} {f:FuncId} {rs:List Nat} {m:Nat} {args:List A} {Hc:Hp} {H:Hp} (hnd:rs.Nodup) (hm:m≤rs.length)
  (hS:g9 dt P f (A.renL (Uw rs) (fun _=>0) args) Hc)
  (h1:∀ (i:Nat) (p:Nm),i<m→Hc (i::p)=(H (rs.getD i 0::p)).ren (Uw rs) (fun _=>0) 0) (h2:∀ (i:Nat) (p:Nm),m≤i→Hc (i::p)=⟨0,.none⟩) (h3:Hc []=⟨0,.none⟩)
  (ha:A.refsL (Zn rs m) args) (hc:∀ (i:Nat) (p:Nm),i<m→(H (rs.getD i 0::p)).ob.refs (Zn rs m)) {x:A} {E:Eff} :
  Zr (fun t=>t=dt) P H f args x E:=by
 refine⟨hS.1,fun c w I μ vs hP hs hl har=>?_⟩
 let nm:Nat→Nm→Nm:=fun i p=>rs.getD i 0::p
 let μc:Mu:=fun o=>match o with
  |i::p=>if i<m then μ (nm i p) else Jq (i::p)
  |[]=>Jq []
 let M1:Nm→Nat→Prop:=fun o b=>∃ i p,o=i::p∧i<m∧BJ (μ (nm i p)) (H (nm i p)).ob=true∧b=(μ (nm i p)).b
 have hμ:∀ o,Zn rs m o→1≤(μ o).u→μc (Uw rs o)={ μ o with u:=(μ o).u+(fun _=>0) o }:=fun o ho _=>by
  cases o with
  |nil=>exact ho.elim
  |cons j p=>
   have hj:rs.idxOf j<m:=ho;show(if rs.idxOf j<m then μ (nm (rs.idxOf j) p) else _)=_;rw[if_pos hj];have:nm (rs.idxOf j) p=j::p:=by show rs.getD (rs.idxOf j) 0::p=_;rw[HZ (idx_mem.1 (by omega))]
   rw[this];rfl
 have nm_ne:∀ {i i':Nat} {p p':Nm},i<rs.length→i'<rs.length→i::p ≠ i'::p'→nm i p ≠ nm i' p':=fun {i i' p p'} hi hi' hne e=>by
  have e1:rs.getD i 0=rs.getD i' 0:=by injection e
  have e2:p=p':=by injection e
  have:=D5 hnd hi;rw[e1,D5 hnd hi'] at this;exact hne (by rw[this,e2])
 have own1:∀ (i:Nat) (p:Nm),BJ (μc (i::p)) (Hc (i::p)).ob=true→i<m∧BJ (μ (nm i p)) (H (nm i p)).ob=true∧μc (i::p)=μ (nm i p):=fun i p h=>by
  by_cases hi:i<m
  ·have e:μc (i::p)=μ (nm i p):=if_pos hi;rw[e,h1 i p hi] at h;simp only[VOb.ren,MM] at h;exact⟨hi,h,e⟩
  ·rw[h2 i p (by omega)] at h;cases h
 have start:Sim (HI P w I M1 0 μc) w I μc Hc:=by
  refine⟨⟨rfl,rfl,rfl,CE _,fun _ _ _=>rfl⟩,hs.lt,fun _ h=>h,fun b hb=>.inl hb,fun o=>?_,fun o=>?_,fun o o' k k' hne=>?_,fun o k=>?_,MuLe.refl _,fun o k=>?_,by subst hP;exact hs.tab⟩
  ·cases o with
   |nil=>rw[h3];rfl
   |cons i p=>
    by_cases hi:i<m
    ·have e:μc (i::p)=μ (nm i p):=if_pos hi;rw[e,h1 i p hi,hs.ver];rfl
    ·have e:μc (i::p)=Jq (i::p):=if_neg hi;rw[e,h2 i p (by omega)];rfl
  ·cases o with
   |nil=>rw[h3];trivial
   |cons i p=>
    by_cases hi:i<m
    ·have e:μc (i::p)=μ (nm i p):=if_pos hi;rw[e,h1 i p hi];exact(hs.ob (nm i p)).ren (hc i p hi) hμ rfl
    ·rw[h2 i p (by omega)];trivial
  ·cases o with
   |nil=>rw[h3] at k;cases k
   |cons i p=>
    cases o' with
    |nil=>rw[h3] at k';cases k'
    |cons i' p'=>
     obtain⟨q1,q2,q3⟩:=own1 i p k;obtain⟨r1,r2,r3⟩:=own1 i' p' k';rw[q3,r3];exact hs.apart _ _ q2 r2 (nm_ne (by omega) (by omega) hne)
  ·cases o with
   |nil=>rw[h3] at k;cases k
   |cons i p=>
    obtain⟨q1,q2,q3⟩:=own1 i p k;rw[q3];obtain⟨g1,g2,g3⟩:=hs.own _ q2;exact⟨g1,.inl ⟨i,p,rfl,q1,q2,rfl⟩,g3⟩
  ·cases o with
   |nil=>rw[h3] at k;cases k
   |cons i p=>
    obtain⟨q1,q2,q3⟩:=own1 i p k;rw[q3];exact hs.tag _ q2
 have harg:∀ (k:Nat) (y:A),(A.renL (Uw rs) (fun _=>0) args)[k]? = some y→Rel w I μc y (vs.getD k undef):=fun k y hk=>by
  rw[B1,List.getElem?_map,Option.map_eq_some_iff] at hk;obtain⟨y',hy,rfl⟩:=hk;exact(har k y' hy).ren (refsL_iff.1 ha y' (List.mem_of_getElem? hy)) hμ
 refine(hS.2 w I M1 0 μc vs (fun o b h ⟨i,p,e,hi,hb,_⟩=>by
  subst e;rw[h1 i p hi] at h;rw[show(H (nm i p)).ob = .none from PI h] at hb;cases hb) start (by simpa[B1] using hl) harg).mono fun e w' ⟨he,k2⟩=>.inr ⟨dt,rfl,he,?_⟩
 have k1:=hs.kept;refine⟨k2.os.trans k1.os,k2.tape.trans k1.tape,k2.output.trans k1.output,Nat.le_trans k1.size k2.size,fun b hb hM=>?_⟩;refine(k2.block b (Nat.lt_of_lt_of_le hb k1.size) (fun ⟨_,i,p,_,q1,q2,q3⟩=>?_)).trans (k1.block b hb hM);rcases (hs.own _ q2).2.1 with g | g
 ·rw[← q3] at g;exact hM ⟨_,g⟩
 ·rw[← q3] at g;omega
def mk (P:Program) (t:TypeId) (as':List A):A:=match P.underlying t with
 |some (.struct _)=>.agg as'
 |_=>as'.headD .any
def pn (R:TypeId→List A→Prop):List Field→List A→Prop
 |[],as'=>as'=[]
 |f::fs,as'=>∃ a b,as'=a++b∧R f.type a∧pn R fs b
def Has (P:Program):Nat→TypeId→List A→Prop
 |0,_,_=>False
 |n+1,t,as'=>match P.underlying t with
  |some .bool=>∃ b,as'=[.v (.bool b)]
  |some (.int k)=>∃ m,(Lit.int k m).wf=true∧as'=[.v (.int k m)]
  |some .string=>∃ s,s.size≤maxLen∧s.size≤reachBytes∧as'=[.v (.string s)]
  |some (.slice e)=>∃ f xs,as'=[.sl f xs]∧xs.length≤maxLen∧xs.length*P.bytesOf e≤reachBytes∧(f=true→xs=[])∧∀ x,x ∈ xs→∃ b,Has P n e b∧x=mk P e b
  |some (.struct fs)=>pn (Has P n) fs.toList as'
  |_=>False
def Zm (P:Program):Nat→List Field→Option Nat
 |off,[]=>some off
 |off,f::fs=>if f.offset=off then Zm P (off+P.cellsOf f.type) fs else none
def Kk (P:Program) (S:List TypeId):Bool:=S.all fun t=>match P.underlying t with
 |some .bool | some (.int _) | some .string=>P.cellsOf t == 1
 |some (.slice e)=>P.cellsOf t == 1&&(decide (0<P.cellsOf e)&&S.contains e)
 |some (.struct fs)=>Zm P 0 fs.toList == some (P.cellsOf t)&&fs.toList.all fun f=>S.contains f.type
 |_=>false
theorem Ze {β:Type} {R:Nat→β→Prop}:∀ {n:Nat},(∀ i,i<n→∃ b,R i b)→∃ l:List β,l.length=n∧∀ (i:Nat) (b:β),l[i]? = some b→R i b
 |0,_=>⟨[],rfl,fun i b h=>by simp at h⟩
 |n+1,h=>by
  obtain⟨l,h1,h2⟩:=Ze (n:=n) (fun i hi=>h i (by omega));obtain⟨b,hb⟩:=h n (by omega);refine⟨l++[b],by simp[h1],fun i c hc=>?_⟩;rw[List.getElem?_append] at hc;split at hc
  ·exact h2 i c hc
  ·rename_i hi;have:i=n:=by
    have:=(List.getElem?_eq_some_iff.1 hc).1;simp at this;omega
   subst this;simp[h1] at hc;subst hc;exact hb
theorem QJ {α β:Type} {f:α→Option β}:∀ {l:List α} {r:List β},l.mapM f=some r→r.length=l.length∧∀ (i:Nat) (a:α),l[i]? = some a→∃ b,f a=some b∧r[i]? = some b
 |[],r,h=>by
  simp at h;subst h;exact⟨rfl,fun i a h=>by simp at h⟩
 |a::l,r,h=>by
  rw[List.mapM_cons] at h;simp only[Option.bind_eq_bind,Option.bind_eq_some_iff] at h;obtain⟨b,hb,r',hr,h⟩:=h;cases h;obtain⟨h1,h2⟩:=QJ hr;refine⟨by simp[h1],fun i c hc=>?_⟩;cases i with
  |zero=>simp at hc;subst hc;exact⟨b,hb,rfl⟩
  |succ i=>simpa using h2 i c (by simpa using hc)
theorem cells?_get {w:World} {base:Nat} {a:Addr} {n:Nat} {cs:List Value} (h:w.cells? base a n=some cs):cs.length=n∧∀ i,i<n→w.cell? (a.add i)=some (cs.getD i undef):=by
 unfold World.cells? at h;split at h
 ·obtain⟨h1,h2⟩:=QJ h;refine⟨by simpa using h1,fun i hi=>?_⟩;obtain⟨b,hb,hr⟩:=h2 i i (by simp[hi]);rw[hb];simp[List.getD,hr]
 ·cases h
theorem G7 {P:Program} {n:Nat} {t:TypeId} {as':List A} (h:Has P n t as'):(mk P t as').cells=as':=by
 cases n with
 |zero=>exact h.elim
 |succ n=>
  unfold Has at h;unfold mk;split at h
  ·rename_i hu;obtain⟨b,rfl⟩:=h;rw[hu];rfl
  ·rename_i hu;obtain⟨m,_,rfl⟩:=h;rw[hu];rfl
  ·rename_i hu;obtain⟨m,_,_,rfl⟩:=h;rw[hu];rfl
  ·rename_i hu;obtain⟨f,xs,rfl,_⟩:=h;rw[hu];rfl
  ·rename_i hu;rw[hu];rfl
  ·exact h.elim
theorem dC {sz:Nat} (hp:0<sz) {xs:List A} {k:Nat} {y:A} (h:∀ x,x ∈ xs→x.cells.length=sz) (hk:(xs.flatMap A.cells)[k]? = some y):∃ x,xs[k / sz]? = some x∧x.cells[k % sz]? = some y:=by
 have hl:=(List.getElem?_eq_some_iff.1 hk).1;rw[Bb h] at hl;have hi:k / sz<xs.length:=by rw[Nat.div_lt_iff_lt_mul hp];exact hl
 have hj:k % sz<sz:=Nat.mod_lt _ hp;have hx:xs[k / sz]? = some xs[k / sz]:=List.getElem?_eq_getElem hi;have hcl:=h _ (List.mem_of_getElem? hx);have hz:xs[k / sz].cells[k % sz]? = some (xs[k / sz].cells[k % sz]'(by omega)):=List.getElem?_eq_getElem (by omega);have:=Kg h hx hz;have e:k / sz*sz+k % sz=k:=by rw[Nat.mul_comm];exact Nat.div_add_mod k sz
 rw[e,hk] at this;exact⟨_,hx,by rw[hz];exact this.symm⟩
theorem Z8 {α:Type} {l l':List α} {k:Nat} {d:α} (h:k<l.length):(l++l').getD k d=l.getD k d:=by
 simp[List.getD,List.getElem?_append_left h]
theorem WT {α:Type} {l l':List α} {k:Nat} {d:α} (h:l.length≤k):(l++l').getD k d=l'.getD (k-l.length) d:=by
 simp[List.getD,List.getElem?_append_right h]
section
variable {H:Type} {enc:TypeId × Value→H} {P:Program} {w:World} {base:Nat} {sp:Nat→Bool} {held:Bool}
abbrev Old (w:World) (b:Nat):Prop:=b<w.heap.size
def Fits (w:World) (as':List A) (cs:List Value):Prop:=as'.length=cs.length∧∀ (k:Nat) (y:A),as'[k]? = some y→y.one=true∧Rel w (Old w) Jq y (cs.getD k undef)
theorem Fits.one {x:A} {v:Value} (h:x.one=true) (hr:Rel w (Old w) Jq x v):Fits w [x] [v]:=⟨rfl,fun k y hk=>by
 cases k with
 |zero=>cases hk;exact⟨h,hr⟩
 |succ k=>simp at hk⟩
theorem Fits.append {as' bs:List A} {cs ds:List Value} (h:Fits w as' cs) (h':Fits w bs ds):Fits w (as'++bs) (cs++ds):=⟨by simp[h.1,h'.1],fun k y hk=>by
 rw[List.getElem?_append] at hk;split at hk
 ·rename_i hl;have:=h.2 k y hk
  rwa [Z8 (by rw[← h.1];exact hl)]
 ·rename_i hl;have:=h'.2 _ y hk;rw[WT (by rw[← h.1];omega),← h.1];exact this⟩
theorem P2 {n:Nat} {cs:List Value} (ih:∀ (t:TypeId) (cs:List Value) x,DataW.trod enc P w base sp held n t cs=some x→P.cellsOf t=cs.length→(∀ m,m ∈ DataW.weights P t x.1→m≤reachBytes)→∀ S,Kk P S=true→t ∈ S→∃ as',Has P n t as'∧Fits w as' cs) {S:List TypeId} (hS:Kk P S=true) :
  ∀ (fs:List Field) (off tot:Nat) xs,(∀ m,m ∈ DataW.weightsEach P (fs.map Field.type) (xs.map (·.1))→m≤reachBytes)→(∀ f,f ∈ fs→f.type ∈ S)→Zm P off fs=some tot→tot=cs.length→(fs.mapM fun f=>DataW.trod enc P w base sp held n f.type ((cs.drop f.offset).take (P.cellsOf f.type)))=some xs →
   ∃ as',pn (Has P n) fs as'∧Fits w as' (cs.drop off)∧off≤tot
 |[],off,tot,xs,_,_,ht,hn,_=>by
  cases ht;refine⟨[],rfl,⟨?_,fun k y hk=>by simp at hk⟩,CE _⟩;simp[hn]
 |f::fs,off,tot,xs,hw,hf,ht,hn,hm=>by
  unfold Zm at ht;split at ht
  ·rename_i ho;rw[List.mapM_cons] at hm;simp only[Option.bind_eq_bind,Option.bind_eq_some_iff] at hm;obtain⟨x,hx,xs',hxs,hq⟩:=hm;cases hq;simp only[List.map_cons,DataW.weightsEach,List.mem_append] at hw;obtain⟨bs,hb1,hb2,hb3⟩:=P2 ih hS fs (off+P.cellsOf f.type) tot xs' (fun m hm=>hw m (.inr hm)) (fun g hg=>hf g (by simp[hg])) ht hn hxs;rw[ho] at hx;obtain⟨as',ha1,ha2⟩:=ih f.type _ x hx (by simp;omega) (fun m hm=>hw m (.inl hm)) S hS (hf f (by simp));refine⟨as'++bs,⟨as',bs,rfl,ha1,hb1⟩,?_,by omega⟩;have e:cs.drop off=(cs.drop off).take (P.cellsOf f.type)++cs.drop (off+P.cellsOf f.type):=by
    rw[← List.drop_drop,List.take_append_drop]
   rw[e];exact ha2.append hb2
  ·cases ht
theorem K9 {e:TypeId} {d:DataW H} {m:Nat} (h:m ∈ DataW.weights P e d):∀ {l:List (DataW H)},d ∈ l→m ∈ DataW.weightsAll P e l
 |x::l,hd=>by
  simp only[DataW.weightsAll,List.mem_append];rcases List.mem_cons.1 hd with rfl | hd
  ·exact .inl h
  ·exact .inr (K9 h hd)
theorem Eg:∀ (n:Nat) (t:TypeId) (cs:List Value) (x:DataW H × List MemPlace),DataW.trod enc P w base sp held n t cs=some x→P.cellsOf t=cs.length→(∀ m,m ∈ DataW.weights P t x.1→m≤reachBytes)→∀ S,Kk P S=true→t ∈ S→∃ as',Has P n t as'∧Fits w as' cs
 |0,t,cs,x,h,_,_,_,_,_=>by simp[DataW.trod] at h
 |n+1,t,cs,x,h,hlen,hwt,S,hS,ht=>by
  have hT:=hS;unfold Kk at hT;rw[List.all_eq_true] at hT;have hT:=hT t ht;have ih:=Eg n;unfold DataW.trod at h;split at h
  ·rename_i b hu;exact⟨[.v (.bool b)],by unfold Has;rw[hu];exact⟨b,rfl⟩,Fits.one rfl (.v _ _)⟩
  ·rename_i k k' m hu;split at h
   ·rename_i hk;obtain⟨rfl,hw⟩:=hk;exact⟨[.v (.int k' m)],by unfold Has;rw[hu];exact⟨m,hw,rfl⟩,Fits.one rfl (.v _ _)⟩
   ·cases h
  ·rename_i hu;rw[hu] at hT;cases hT
  ·rename_i s hu;split at h
   ·rename_i hs;cases h;have hz:s.size≤reachBytes:=by
     have:=hwt s.data.toList.length (by simp[DataW.weights]);simpa using this
    exact⟨[.v (.string s)],by unfold Has;rw[hu];exact⟨s,hs,hz,rfl⟩,Fits.one rfl (.v _ _)⟩
   ·cases h
  ·rename_i hu;rw[hu] at hT;cases hT
  ·rename_i hu;rw[hu] at hT;cases hT
  ·rename_i e hu;exact⟨[.sl true []],by unfold Has;rw[hu];exact⟨true,[],rfl,by simp,by simp,fun _=>rfl,fun x hx=>by simp at hx⟩,Fits.one rfl (.slN _ _ _ _ (fun _=>rfl))⟩
  ·rename_i e a len cap hu;rw[hu] at hT;simp only[Bool.and_eq_true,decide_eq_true_eq,beq_iff_eq] at hT;obtain⟨_,hpos,heS⟩:=hT;have heS:e ∈ S:=by simpa using heS
   split at h
   ·rename_i hb;obtain⟨hb0,hb1,hb2⟩:=hb;simp only[Option.bind_eq_some_iff] at h;obtain⟨elems,he,h⟩:=h;simp only[Option.map_eq_some_iff] at h;obtain⟨rest,_,rfl⟩:=h;simp only[DataW.weights,hu] at hwt;obtain⟨he1,he2⟩:=QJ he;have each:∀ i,i<len→∃ as':List A,Has P n e as'∧∃ cs,w.cells? base (a.add (i*P.cellsOf e)) (P.cellsOf e)=some cs∧Fits w as' cs:=fun i hi=>by
     obtain⟨y,hy,hg⟩:=he2 i i (by simp[hi]);simp only[Option.bind_eq_some_iff] at hy;obtain⟨cs,hc1,hc2⟩:=hy;obtain⟨as',h1,h2⟩:=ih e cs y hc2 (cells?_get hc1).1.symm (fun m hm=>hwt m (List.mem_cons_of_mem _ (List.mem_append_left _ (K9 hm (List.mem_map.2 ⟨y,List.mem_of_getElem? hg,rfl⟩))))) S hS heS;exact⟨as',h1,cs,hc1,h2⟩
    obtain⟨l,hl1,hl2⟩:=Ze each;have hxs:(l.map (mk P e)).length=len:=by simpa using hl1
    refine⟨[.sl false (l.map (mk P e))],by
     unfold Has;rw[hu];refine⟨false,_,rfl,by rw[hxs];omega,by
      have:=hwt _ List.mem_cons_self;rw[hxs];refine Nat.le_trans (Nat.mul_le_mul_right _ ?_) this;simp at he1 ⊢;omega,(fun h=>nomatch h),fun x hx=>?_⟩
     obtain⟨b,hb,rfl⟩:=List.mem_map.1 hx;obtain⟨i,hi⟩:=List.getElem?_of_mem hb;exact⟨b,(hl2 i b hi).1,rfl⟩,Fits.one rfl ?_⟩
    by_cases h0:len=0
    ·subst h0;have:l=[]:=List.length_eq_zero_iff.1 hl1;subst this;exact .slN _ _ _ _ (fun h=>by cases h)
    ·have hlen2:∀ x,x ∈ l.map (mk P e)→x.cells.length=P.cellsOf e:=fun x hx=>by
      obtain⟨b,hb,rfl⟩:=List.mem_map.1 hx;obtain⟨i,hi⟩:=List.getElem?_of_mem hb;obtain⟨k1,cs,k2,k3⟩:=hl2 i b hi;rw[G7 k1,k3.1,(cells?_get k2).1]
     have hspot:a.spot=none∧a.block<w.heap.size:=by
      obtain⟨b,hb⟩:∃ b,l[0]? = some b:=⟨_,List.getElem?_eq_getElem (by omega)⟩;obtain⟨_,cs,k2,_⟩:=hl2 0 b hb;have:=(cells?_get k2).2 0 hpos;simp only[Nat.zero_mul,Addr.add,if_true,World.cell?] at this;split at this
      ·rename_i hh;split at this
       ·cases this
       ·rename_i hsp;exact⟨by simpa using hsp,(Array.getElem?_eq_some_iff.1 hh).1⟩
      ·cases this
     obtain⟨b,off,sp'⟩:=a;obtain⟨hsp,hbl⟩:=hspot;simp only at hsp hbl;subst hsp;have main:∀ (k:Nat) (y:A),((l.map (mk P e)).flatMap A.cells)[k]? = some y→y.one=true∧w.cell? ⟨b,off+k,none⟩=some ((w.cell? ⟨b,off+k,none⟩).getD undef)∧Rel w (Old w) Jq y ((w.cell? ⟨b,off+k,none⟩).getD undef):=fun k y hk=>by
      obtain⟨x,hx,hy⟩:=dC hpos hlen2 hk;rw[List.getElem?_map] at hx;simp only[Option.map_eq_some_iff] at hx;obtain⟨as',ha,rfl⟩:=hx;obtain⟨k1,cs,k2,k3⟩:=hl2 _ as' ha;rw[G7 k1] at hy;have hj:k % P.cellsOf e<P.cellsOf e:=Nat.mod_lt _ hpos;have hc:=(cells?_get k2).2 _ hj;have ea:((⟨b,off,none⟩:Addr).add (k / P.cellsOf e*P.cellsOf e)).add (k % P.cellsOf e)=⟨b,off+k,none⟩:=by
       have:=Nat.div_add_mod k (P.cellsOf e);rw[Nat.mul_comm] at this;unfold Addr.add;split<;>split<;>simp<;>omega
      rw[ea] at hc;obtain⟨k4,k5⟩:=k3.2 _ y hy;exact⟨k4,by rw[hc];rfl,by rw[hc];exact k5⟩
     exact .sl _ false b off len cap (P.cellsOf e) _ (fun k=>(w.cell? ⟨b,off+k,none⟩).getD undef) hbl hxs.symm (by omega) (fun h=>by cases h) hlen2 (fun k y hk=>(main k y hk).1) (fun k y hk=>(main k y hk).2.1) (fun k y hk=>(main k y hk).2.2)
   ·cases h
  ·rename_i fs hu;rw[hu] at hT;simp only[Bool.and_eq_true,beq_iff_eq,List.all_eq_true] at hT;split at h
   ·simp only[Option.map_eq_some_iff] at h;obtain⟨xs,hx,rfl⟩:=h;simp only[DataW.weights,hu] at hwt;obtain⟨as',h1,h2,_⟩:=P2 (fun t cs x h hl hw S hS ht=>ih t cs x h hl hw S hS ht) hS fs.toList 0 _ xs hwt (fun f hf=>by simpa using hT.2 f hf) hT.1 hlen hx;exact⟨as',by unfold Has;rw[hu];exact h1,by simpa using h2⟩
   ·cases h
  all_goals first | (rename_i hu;rw[hu] at hT;cases hT;done) | cases h
end
def ArgsHas (P:Program):List TypeId→List A→Prop
 |[],[]=>True
 |t::ts,a::as'=>(∃ n b,Has P n t b∧a=mk P t b)∧ArgsHas P ts as'
 |_,_=>False
section
open Go.ChangeShapes Go.WideShapes
variable {H:Type} {enc:TypeId × Value→H} {P:Program} {w:World} {base:Nat} {sp:Nat→Bool} {held:Bool}
theorem VM {S:List TypeId} (hS:Kk P S=true) {t:TypeId} (ht:t ∈ S) {v:Value} {d:DataW H} {p:List MemPlace} {base':Nat} (hwt:∀ m,m ∈ DataW.weights P t d→m≤reachBytes) (h:DataW.Trod enc P w base sp held t v d p) (hv:Value.okWide P w .any base' t v) :
  ∃ n b,Has P n t b∧Rel w (Old w) Jq (mk P t b) v:=by
 obtain⟨n,hn⟩:=h;have hT:=hS;unfold Kk at hT;rw[List.all_eq_true] at hT;have hT:=hT t ht;have one:∀ {b:List A},Has P n t b→(mk P t b).cells=[mk P t b]→v.cells.toList=[v]→Fits w b v.cells.toList→Rel w (Old w) Jq (mk P t b) v:=fun {b} hb h1 h2 h3=>by
  have h4:=G7 hb;rw[h1] at h4;have e:b[0]? = some (mk P t b):=by
   have:[mk P t b][0]? = some (mk P t b):=rfl
   rwa [h4] at this
  have:=(h3.2 0 (mk P t b) e).2;rw[h2] at this;exact this
 cases hu:P.underlying t with
 |none=>rw[hu] at hT;cases hT
 |some ty=>
  rw[hu] at hT;cases ty with
  |struct fs=>
   simp only[Bool.and_eq_true,beq_iff_eq] at hT;obtain⟨cs,rfl,hsz⟩:=okWide_struct hu hv;obtain⟨b,hb,hf⟩:=Eg n t _ _ hn (by show P.cellsOf t=cs.toList.length;simp[hsz]) hwt S hS ht;refine⟨n,b,hb,?_⟩;have:mk P t b = .agg b:=by unfold mk;rw[hu]
   rw[this];refine .agg _ _ _ ?_ fun k y hk=>?_
   ·have:=hf.1;simpa[Value.cells] using this.symm
   ·have:=(hf.2 k y hk).2;simpa[Value.cells,List.getD,Array.getD_eq_getD_getElem?] using this
  |bool=>
   obtain⟨q,rfl⟩:=okWide_bool hu hv;simp only[beq_iff_eq] at hT;obtain⟨b,hb,hf⟩:=Eg n t _ _ hn (by rw[hT];rfl) hwt S hS ht;refine⟨n,b,hb,one hb ?_ rfl hf⟩;obtain⟨y,rfl⟩:∃ y,b=[y]:=List.length_eq_one_iff.1 (by have:=hf.1;simpa[Value.cells] using this);unfold mk;rw[hu];have:=G7 hb;unfold mk at this;rw[hu] at this;exact this
  |int k=>
   obtain⟨q,rfl⟩:=okWide_int hu hv;simp only[beq_iff_eq] at hT;obtain⟨b,hb,hf⟩:=Eg n t _ _ hn (by rw[hT];rfl) hwt S hS ht;refine⟨n,b,hb,one hb ?_ rfl hf⟩;obtain⟨y,rfl⟩:∃ y,b=[y]:=List.length_eq_one_iff.1 (by have:=hf.1;simpa[Value.cells] using this);unfold mk;rw[hu];have:=G7 hb;unfold mk at this;rw[hu] at this;exact this
  |string=>
   obtain⟨q,rfl⟩:=okWide_string hu hv;simp only[beq_iff_eq] at hT;obtain⟨b,hb,hf⟩:=Eg n t _ _ hn (by rw[hT];rfl) hwt S hS ht;refine⟨n,b,hb,one hb ?_ rfl hf⟩;obtain⟨y,rfl⟩:∃ y,b=[y]:=List.length_eq_one_iff.1 (by have:=hf.1;simpa[Value.cells] using this);unfold mk;rw[hu];have:=G7 hb;unfold mk at this;rw[hu] at this;exact this
  |slice e=>
   obtain⟨a,l,c,rfl⟩:=okWide_slice hu hv;simp only[Bool.and_eq_true,beq_iff_eq] at hT;obtain⟨b,hb,hf⟩:=Eg n t _ _ hn (by rw[hT.1];rfl) hwt S hS ht;refine⟨n,b,hb,one hb ?_ rfl hf⟩;obtain⟨y,rfl⟩:∃ y,b=[y]:=List.length_eq_one_iff.1 (by have:=hf.1;simpa[Value.cells] using this);unfold mk;rw[hu];have:=G7 hb;unfold mk at this;rw[hu] at this;exact this
  |_=>simp at hT
theorem Mm {S:List TypeId} (hS:Kk P S=true) {base':Nat}:∀ {ts:List TypeId} {vs:List Value} {ds:List (DataW H)} {ps:List MemPlace},(∀ t,t ∈ ts→t ∈ S)→(∀ m,m ∈ DataW.weightsEach P ts ds→m≤reachBytes)→DataW.TrodAll enc P w base sp held ts vs ds ps →
  (∀ (j:Nat) t v,ts[j]? = some t→vs[j]? = some v→Value.okWide P w .any base' t v)→∃ as',as'.length=vs.length∧ArgsHas P ts as'∧∀ (k:Nat) (y:A),as'[k]? = some y→Rel w (Old w) Jq y (vs.getD k undef)
 |[],_,_,_,_,_,h,_=>by
  obtain⟨rfl,rfl,rfl⟩:=trodAll_nil h;exact⟨[],rfl,trivial,fun k y hk=>by simp at hk⟩
 |t::ts,_,_,_,hts,hwt,h,hv=>by
  obtain⟨v,vs,d,ds,p,q,rfl,rfl,rfl,h1,h2⟩:=trodAll_cons h;simp only[DataW.weightsEach,List.mem_append] at hwt;obtain⟨n,b,hb,hr⟩:=VM hS (hts t (by simp)) (fun m hm=>hwt m (.inl hm)) h1 (hv 0 t v rfl rfl);obtain⟨as',k1,k2,k3⟩:=Mm hS (fun u hu=>hts u (by simp[hu])) (fun m hm=>hwt m (.inr hm)) h2 (fun j u x hj hx=>hv (j+1) u x (by simpa using hj) (by simpa using hx));refine⟨mk P t b::as',by simp[k1],⟨⟨n,b,hb,rfl⟩,k2⟩,fun k y hk=>?_⟩;cases k with
  |zero=>cases hk;exact hr
  |succ k=>exact k3 k y (by simpa using hk)
end
@[simp] theorem mU {k k':IntKind} {x y:Int}:DS true [.v (.int k x),.v (.int k' y)]=some (.v (.int k (max x y))):=by
 simp only[DS,if_true];congr 3;split<;>omega
@[simp] theorem mT {k k':IntKind} {x y:Int}:DS false [.v (.int k x),.v (.int k' y)]=some (.v (.int k (min x y))):=by
 simp only[DS,Bool.false_eq_true,if_false];congr 3;split<;>omega
def ov (r:Nat) (F:Nm→VOb) (H:Hp):Hp
 |j::p=>if j=r then F p else H (j::p)
 |[]=>H []
@[simp] theorem Bo {r j:Nat} {p:Nm} {F:Nm→VOb} {H:Hp}:ov r F H (j::p)=if j=r then F p else H (j::p):=rfl
@[simp] theorem dB {r:Nat} {F:Nm→VOb} {H:Hp}:ov r F H []=H []:=rfl
@[simp] theorem AaQ {r j:Nat} {p:Nm} {F:Nm→VOb} {H:Hp} {x:VOb}:Ar (ov r F H) (j::p) x=if j=r then ov r (Ar F p x) H else ov r F (Ar H (j::p) x):=by
 funext o;cases o with
 |nil=>
  by_cases h:j=r
  ·rw[if_pos h];simp[Ar]
  ·rw[if_neg h];simp[Ar]
 |cons k q=>
  by_cases h:j=r
  ·subst h;rw[if_pos rfl];by_cases hk:k=j
   ·subst hk;simp[Ar]
   ·have:¬ k::q=j::p:=fun e=>hk (by injection e);simp[Ar,hk,this]
  ·rw[if_neg h];by_cases hk:k=r
   ·subst hk;have:¬ k::q=j::p:=fun e=>h (by injection e with e _;exact e.symm);simp[Ar,this]
   ·simp[Ar,hk]
theorem Aa {α:Type} {F:Nm→α} {d o:Nm} {x:α}:Ar F d x o=if o=d then x else F o:=rfl
def NG (rs:List Nat) (m:Nat) (H:Hp):Hp
 |i::p=>if i<m then (H (rs.getD i 0::p)).ren (Uw rs) (fun _=>0) 0 else ⟨0,.none⟩
 |[]=>⟨0,.none⟩
def VA (rs:List Nat) (δ:Nm→Nat) (B Hr:Hp):Hp
 |j::p=>if rs.contains j=true then (Hr (rs.idxOf j::p)).ren (mg rs) δ (δ (rs.idxOf j::p)) else B (j::p)
 |[]=>B []
theorem dT {rs:List Nat} {m:Nat} {H Hr:Hp}:(Eff.fn rs (JF rs m H Hr)).app H=VA rs (WM rs m H) H Hr:=by
 funext o;cases o<;>rfl
theorem Spec.toB {P:Program} {f:FuncId} {args:List A} {r:A} (h:Spec P f args r) (hr:r.flat=true):SpecB P f args r:=
 ⟨h.1,fun w I J vs hI hJ ht hl ha=>(h.2 w (fun b=>I b∨J b) vs (fun b hb=>hb.elim (hI b) (hJ b)) (ht.mono (fun _ h=>.inl h) (fun _ _=>rfl)) hl ha).mono fun e w' ⟨v,he,hB,hr'⟩=>⟨v,he,hB,hr'.of_flat hr⟩⟩
def Tp (rs:List Nat) (m:Nat) (H:Hp):Prop:=∀ (j:Nat) (p:Nm),rs.idxOf j<m→(H (j::p)).ob.refs (Zn rs m)
theorem Wd {P:Program} {K:Lu} {rest:List CO} {s:Nat→A} {H:Hp} {dd:Option Nat} {nm:Nm} {ix:Nat} {un:List Nat} {l:Bool} {lg:Lg} {g:FuncId} {as':Array Operand} {ts:Array TypeId}
  (rs:List Nat) (m:Nat) {args:List A} {Hc Hr H':Hp} {r x:A} (hS:SpecH P g rs.length args Hc r Hr) (hnd:rs.Nodup) (hm:m≤rs.length)
  (ha:A.renL (Uw rs) (fun _=>0) (as'.toList.map (evs s))=args) (har:A.refsL (Zn rs m) (as'.toList.map (evs s))) (hH:NG rs m H=Hc) (hcl:Tp rs m H)
  (hr:r.refs (Wu rs.length)) (ho:∀ (i:Nat) (p:Nm),i<rs.length→(Hr (i::p)).ob.refs (Wu rs.length)) (hv:∀ (i:Nat) (p:Nm),m≤i→i<rs.length→(Hr (i::p)).ob = .none∨1≤(Hr (i::p)).u)
  (hx:r.ren (mg rs) (WM rs m H)=x) (hH':VA rs (WM rs m H) H Hr=H') (hck:Ck un lg ⟨[],rs.map fun r=>([r],true)⟩)
  (h:An P K rest (A2 l ix ⟨[],rs.map fun r=>([r],true)⟩ lg) (Sta.put ⟨s,H⟩ dd x H')) :
  An P K (⟨dd,.call { callee:=.value (.func g),args:=as',argTypes:=ts },none,nm,ix,un,l⟩::rest) lg ⟨s,H⟩:=by
 have hit_in:∀ {j:Nat} {p:Nm},j ∈ rs→Ug (rs.map fun r=>([r],true)) (j::p)=true:=fun {j p} hj=>by
  simp only[Ug,List.any_map,List.any_eq_true];exact⟨j,hj,by simp[Rn,List.isPrefixOf]⟩
 have hnil:(Eff.fn rs (JF rs m H Hr)).app H=H':=by rw[dT];exact hH'
 subst hx;rw[← hnil] at h;refine iL (Eff.fn rs (JF rs m H Hr)) [] (rs.map fun r=>([r],true)) (fun H2 hag=>?_) (fun o H2 ho'=>?_) hck h
 ·have ag:∀ {j:Nat} {p:Nm},j ∈ rs→H2 (j::p)=H (j::p):=fun {j p} hj=>hag _ (by simpa using hit_in hj);have agi:∀ {i:Nat} {p:Nm},i<rs.length→H2 (rs.getD i 0::p)=H (rs.getD i 0::p):=fun {i p} hi=>ag (by simp[List.getD,hi]);have hd:WM rs m H2=WM rs m H:=by
   funext o;cases o with
   |nil=>rfl
   |cons i p=>
    simp only[WM];by_cases hi:i<rs.length
    ·rw[agi hi]
    ·rw[if_neg hi,if_neg hi]
  have hoH:JF rs m H2 Hr=JF rs m H Hr:=by
   funext o;cases o with
   |nil=>rfl
   |cons j p=>simp only[JF,hd]
  subst ha;have:=ab (P:=P) (f:=g) (rs:=rs) (m:=m) (args:=as'.toList.map (evs s)) (Hc:=Hc) (Hr:=Hr) (r:=r) (H:=H2) hnd hm hS
   (fun i p hi=>by rw[← hH,agi (by omega)];simp only[NG,if_pos hi]) (fun i p hi=>by rw[← hH];simp only[NG];rw[if_neg (by omega)]) (by rw[← hH];rfl) har
   (fun i p hi=>by rw[agi (by omega)];exact hcl _ _ (by rw[D5 hnd (by omega)];exact hi)) hr ho hv
  rwa [hd,hoH] at this
 ·cases o with
  |nil=>rfl
  |cons j p=>
   have:¬ j ∈ rs:=fun hj=>by rw[hit_in hj] at ho';cases ho'
   simp[Eff.app,this]
end Go.G
