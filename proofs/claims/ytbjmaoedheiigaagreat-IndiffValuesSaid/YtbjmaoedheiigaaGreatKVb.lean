/-
 Texts,merged,without what is not reached.
-/
import Derived.Test.YtbjmaoedheiigaaGreatKVa
set_option linter.unusedSimpArgs false
set_option linter.unusedVariables false
namespace Go.G
open Go.RowKit
def Up (c:Cx) (Q:Exit→Sta→Prop):Exit→Act→World→Prop:=fun e a w=>∃ st I μ,SR c st a w I μ∧Q e st
def AWP (c:Cx) (code:Code) (Q:Exit→Sta→Prop) (st:Sta):Prop:=∀ a w I μ,SR c st a w I μ→code.wp c.P (Up c Q) a w
def sj (c:Cx) (y:Code) (Q:Exit→Sta→Prop):Exit→Sta→Prop
 |.normal,st=>AWP c y Q st
 |e,st=>Q e st
def Bu (id:Nat) (Q:Exit→Sta→Prop):Exit→Sta→Prop
 |.exit id',st=>if id'=id then Q .normal st else Q (.exit id') st
 |e,st=>Q e st
section
variable {c:Cx} {Q:Exit→Sta→Prop} {st:Sta} {x y:Code}
@[simp] theorem u4:sj c y Q .normal st=AWP c y Q st:=rfl
@[simp] theorem Aak {i:Nat}:sj c y Q (.exit i) st=Q (.exit i) st:=rfl
@[simp] theorem AcH:sj c y Q .ret st=Q .ret st:=rfl
@[simp] theorem qF {i:Nat}:Bu i Q .normal st=Q .normal st:=rfl
@[simp] theorem vt {i:Nat}:Bu i Q .ret st=Q .ret st:=rfl
@[simp] theorem ZK {i:Nat}:Bu i Q (.exit i) st=Q .normal st:=by simp[Bu]
theorem Pr {i j:Nat} (h:j ≠ i):Bu i Q (.exit j) st=Q (.exit j) st:=by simp[Bu,h]
theorem AWP.mono {Q':Exit→Sta→Prop} (h:AWP c x Q st) (hq:∀ e st,Q e st→Q' e st):AWP c x Q' st:=fun a w I μ hs=>
 wp_mono (h a w I μ hs) fun e a' w' ⟨st',I',μ',h1,h2⟩=>⟨st',I',μ',h1,hq e st' h2⟩
theorem sv (h:AWP c x (sj c y Q) st):AWP c (.seq x y) Q st:=fun a w I μ hs=>
 wp_seq (wp_mono (h a w I μ hs) fun e a' w' ⟨st',I',μ',h1,h2⟩=>by
  cases e<;>first | exact h2 a' w' I' μ' h1 | exact⟨st',I',μ',h1,h2⟩)
theorem pI (h:Q .normal st):AWP c .skip Q st:=fun a w I μ hs=>wp_skip ⟨st,I,μ,hs,h⟩
theorem pB {i:Nat} (h:Q (.exit i) st):AWP c (.exit i) Q st:=fun a w I μ hs=>wp_exit ⟨st,I,μ,hs,h⟩
theorem tl (h:Q .ret st):AWP c .ret Q st:=fun a w I μ hs=>wp_ret ⟨st,I,μ,hs,h⟩
theorem kU {i:Nat} (h:AWP c x (Bu i Q) st):AWP c (.block i x) Q st:=fun a w I μ hs=>
 wp_block (wp_mono (h a w I μ hs) fun e a' w' ⟨st',I',μ',h1,h2⟩=>by
  cases e with
  |exit j=>
   simp only[Exit.inBlock]
   by_cases hj:j=i
   ·subst hj;rw[if_pos rfl];exact⟨st',I',μ',h1,by simpa using h2⟩
   ·rw[if_neg hj];exact⟨st',I',μ',h1,by rwa [Pr hj] at h2⟩
  |_=>exact⟨st',I',μ',h1,h2⟩)
theorem nM {o:Operand} {b:Bool} (hb:evs st.s o = .v (.bool b)) (ht:b=true→AWP c x Q st) (hf:b=false→AWP c y Q st):AWP c (.cond o x y) Q st:=fun a w I μ hs=>by
 have h1:=hs.evs o
 rw[hb] at h1
 generalize hu:a.eval o=u at h1
 cases h1
 exact wp_cond_split hu (fun h=>ht h a w I μ hs) (fun h=>hf h a w I μ hs)
def Z4 (P:Program) (body:Code) (Q:Exit→Act→World→Prop) (a:Act) (w:World):Prop:=
 ∀ (b:Frame) (k:List Item) (cs:List Frame),∃ e a' w',Q e a' w'∧Arrives P (lone (b.at a (.code body :: .inLoop body::k)) cs w) b k cs e a' w'
theorem gW {P:Program} {body:Code} {Q:Exit→Act→World→Prop} {a:Act} {w:World} (h:body.wp P (Exit.then (Z4 P body Q) Q) a w):Z4 P body Q a w:=by
 intro b k cs
 obtain⟨e,a₁,w₁,hq,harr⟩:=h b (.inLoop body::k) cs
 cases e with
 |normal=>
  obtain⟨e₂,a₂,w₂,hq₂,harr₂⟩:=hq b k cs
  exact⟨e₂,a₂,w₂,hq₂,.of_steps (Steps.trans harr (.one step_inLoop)) harr₂⟩
 |exit id=>exact⟨_,a₁,w₁,hq,.pass (x:=.inLoop body) rfl (fun _ _=>.inl (by simp)) harr⟩
 |goto l=>exact⟨_,a₁,w₁,hq,.pass (x:=.inLoop body) rfl (fun _ _=>.inl (by simp)) harr⟩
 |ret=>exact⟨_,a₁,w₁,hq,.pass (x:=.inLoop body) rfl (fun _ _=>.inl (by simp)) harr⟩
 |panic ch=>exact⟨_,a₁,w₁,hq,.pass (x:=.inLoop body) rfl (fun _ _=>.inl (by simp)) harr⟩
 |outgrown=>exact⟨_,a₁,w₁,hq,.pass (x:=.inLoop body) rfl (fun _ _=>.inl (by simp)) harr⟩
theorem lH {P:Program} {body:Code} {Q:Exit→Act→World→Prop} {a:Act} {w:World} (h:Z4 P body Q a w):(Code.loop body).wp P Q a w:=by
 intro b k cs
 obtain⟨e,a₁,w₁,hq,harr⟩:=h b k cs
 exact⟨e,a₁,w₁,hq,.of_steps (.one step_loop) harr⟩
def AHead (c:Cx) (body:Code) (Q:Exit→Sta→Prop) (st:Sta):Prop:=∀ a w I μ,SR c st a w I μ→Z4 c.P body (Up c Q) a w
def jd (c:Cx) (body:Code) (Q:Exit→Sta→Prop):Exit→Sta→Prop
 |.normal,st=>AHead c body Q st
 |e,st=>Q e st
@[simp] theorem sd:jd c x Q .normal st=AHead c x Q st:=rfl
@[simp] theorem w5 {i:Nat}:jd c x Q (.exit i) st=Q (.exit i) st:=rfl
@[simp] theorem zM:jd c x Q .ret st=Q .ret st:=rfl
theorem a9 (h:AWP c x (jd c x Q) st):AHead c x Q st:=fun a w I μ hs=>
 gW (wp_mono (h a w I μ hs) fun e a' w' ⟨st',I',μ',h1,h2⟩=>by
  cases e<;>first | exact h2 a' w' I' μ' h1 | exact⟨st',I',μ',h1,h2⟩)
theorem qa (h:AHead c x Q st):AWP c (.loop x) Q st:=fun a w I μ hs=>lH (h a w I μ hs)
def Le (c:Cx) (st st':Sta):Prop:=∀ a w I μ,SR c st a w I μ→∃ I' μ',SR c st' a w I' μ'
theorem Le.refl:Le c st st:=fun _ _ I μ h=>⟨I,μ,h⟩
theorem Le.trans {st1 st2 st3:Sta} (h:Le c st1 st2) (k:Le c st2 st3):Le c st1 st3:=fun a w I μ hs=>let ⟨I',μ',h1⟩:=h a w I μ hs;k a w I' μ' h1
theorem AWP.le {st':Sta} (h:Le c st st') (k:AWP c x Q st'):AWP c x Q st:=fun a w I μ hs=>let ⟨I',μ',h1⟩:=h a w I μ hs;k a w I' μ' h1
theorem AHead.le {st':Sta} (h:Le c st st') (k:AHead c x Q st'):AHead c x Q st:=fun a w I μ hs=>let ⟨I',μ',h1⟩:=h a w I μ hs;k a w I' μ' h1
theorem oE {s s':Nat→A} {H:Hp} (h:∀ t,s' t=s t∨s' t = .any):Le c ⟨s,H⟩ ⟨s',H⟩:=fun a w I μ hs=>
 ⟨I,μ,hs.sim,hs.size,hs.defers,fun t=>by
  rcases h t with e | e
  ·show Rel w I μ (s' t) _
   rw[e];exact hs.rel t
  ·show Rel w I μ (s' t) _
   rw[e];exact .any _ _⟩
theorem bA (s:Nat→A):∀ (l:List (Nat × A)),(∀ p,p ∈ l→s p.1=p.2)→∀ t,lk l t=s t∨lk l t = .any
 |[],_,t=>.inr rfl
 |(k,x)::l,h,t=>by
  unfold lk
  by_cases e:k=t
  ·subst e;rw[if_pos rfl];exact .inl (h (k,x) (by simp)).symm
  ·rw[if_neg e];exact bA s l (fun p hp=>h p (by simp[hp])) t
theorem Ao {s:Nat→A} {H:Hp} (l:List (Nat × A)) (h:∀ p,p ∈ l→s p.1=p.2):Le c ⟨s,H⟩ ⟨lk l,H⟩:=oE (bA s l h)
def Qj (P:Program) (st:Sta):ResultVar→Option A
 |.tmp t=>some (st.s t)
 |.cell a t=>Gh P st.H t (st.s a)
def HZ (P:Program) (st:Sta):List ResultVar→Option (List A)
 |[]=>some []
 |r::rs=>match Qj P st r,HZ P st rs with
  |some x,some l=>some (x::l)
  |_,_=>none
def Ms (P:Program) (st:Sta) (rs:List ResultVar):Option A:=
 match rs with
 |[r]=>Qj P st r
 |rs=>(HZ P st rs).map .tup
theorem Rk {a:Act} {w:World} {I:Nat→Prop} {μ:Mu} (hs:SR c st a w I μ) {r:ResultVar} {x:A} (h:Qj c.P st r=some x) :
  ∃ v,((match r with | .tmp t=>pure (a.tmps.getD t undef) | .cell p t=>do loadVar t (← asAddr (a.tmps.getD p undef))):Sem Value).run c.P w = .ok v w∧Rel w I μ x v:=by
 cases r with
 |tmp t=>cases h;exact⟨_,rfl,hs.rel t⟩
 |cell p t=>
  have hr:=hs.rel p
  obtain⟨v,h1,h2⟩:=N8 hs.sim hr h
  refine⟨v,?_,h2⟩
  have:∃ q,a.tmps.getD p undef = .pointer (some q):=Gu hr (Yb h)
  obtain⟨q,hq⟩:=this
  rw[hq] at h1
  simp only[hq,asAddr]
  simpa[Instr.loadAt,Instr.sureAddr] using h1
theorem PE {a:Act} {w:World} {I:Nat→Prop} {μ:Mu} (hs:SR c st a w I μ):∀ {rs:List ResultVar} {xs:List A},HZ c.P st rs=some xs →
  ∃ vs:List Value,(rs.mapM (m:=Sem) fun | .tmp t=>pure (a.tmps.getD t undef) | .cell p t=>do loadVar t (← asAddr (a.tmps.getD p undef))).run c.P w = .ok vs w∧vs.length=xs.length∧∀ (k:Nat) (y:A) (v:Value),xs[k]? = some y→vs[k]? = some v→Rel w I μ y v
 |[],xs,h=>by cases h;exact⟨[],rfl,rfl,fun k y v hk=>by simp at hk⟩
 |r::rs,xs,h=>by
  unfold HZ at h
  split at h
  ·rename_i x l hx hl
   cases h
   obtain⟨v,h1,h2⟩:=Rk hs hx
   obtain⟨vs,h3,h4,h5⟩:=PE hs hl
   refine⟨v::vs,?_,by simp[h4],fun k y u hk hu=>?_⟩
   ·rw[List.mapM_cons]
    simp only[Sem.run_bind,h1,Result.andThen_ok,h3,Sem.run_pure]
   ·cases k with
    |zero=>simp at hk hu;subst hk hu;exact h2
    |succ k=>exact h5 k y u (by simpa using hk) (by simpa using hu)
  ·cases h
theorem XM {fn:Func} {a:Act} {w:World} {I:Nat→Prop} {μ:Mu} (hs:SR c st a w I μ) {x:A} (h:Ms c.P st fn.results.toList=some x):∃ v,(results fn a.tmps).run c.P w = .ok v w∧Rel w I μ x v:=by
 have hm:∀ {vs:List Value},(fn.results.toList.mapM (m:=Sem) fun | .tmp t=>pure (a.tmps.getD t undef) | .cell p t=>do loadVar t (← asAddr (a.tmps.getD p undef))).run c.P w = .ok vs w →
   (results fn a.tmps).run c.P w = .ok (if h:vs.toArray.size=1 then vs.toArray[0] else .tuple vs.toArray) w:=fun {vs} hv=>by
  unfold results
  rw[Array.mapM_eq_mapM_toList]
  simp only[Sem.run_bind,Sem.run_map]
  erw [hv]
  rfl
 unfold Ms at h
 split at h
 ·rename_i r hr
  obtain⟨v,h1,h2⟩:=Rk hs h
  have:=hm (vs:=[v]) (by rw[hr,List.mapM_cons];simp only[Sem.run_bind,h1,Result.andThen_ok];rfl)
  exact⟨v,by simpa using this,h2⟩
 ·rename_i rs hne
  simp only[Option.map_eq_some_iff] at h
  obtain⟨xs,hx,rfl⟩:=h
  obtain⟨vs,h1,h2,h3⟩:=PE hs hx
  have hlen:xs.length=fn.results.toList.length:=by
   have:∀ (rs:List ResultVar) (xs:List A),HZ c.P st rs=some xs→xs.length=rs.length:=by
    intro rs
    induction rs with
    |nil=>intro xs h;cases h;rfl
    |cons r rs ih=>
     intro xs h
     unfold HZ at h
     split at h
     ·rename_i x l _ hl;cases h;simp[ih l hl]
     ·cases h
   exact this _ _ hx
  have hv1:¬ vs.toArray.size=1:=by
   intro he
   simp only[List.size_toArray] at he
   have:fn.results.toList.length=1:=by omega
   obtain⟨r,hr⟩:=List.length_eq_one_iff.1 this
   exact hne r hr
  have:=hm h1
  rw[dif_neg hv1] at this
  refine⟨_,this,.tup _ _ _ (by simp[h2]) fun k y hk=>?_⟩
  have hlt:k<vs.length:=by rw[h2];exact(List.getElem?_eq_some_iff.1 hk).1
  have e:vs.toArray.getD k undef=vs[k]:=by simp[hlt]
  rw[e]
  exact h3 k y _ hk (List.getElem?_eq_getElem hlt)
def lQ (P:Program) (rs:List ResultVar) (Q:A→Hp→Prop):Exit→Sta→Prop
 |.normal,st | .ret,st=>∃ r0,Ms P st rs=some r0∧Q r0 st.H
 |_,_=>False
def QP (args:List A):Nat→A:=fun t=>(args[t]?).getD .any
theorem Xh {P:Program} {f:FuncId} {fn:Func} {code:Code} (hf:P.funcs[f]? = some fn) (hb:fn.body=some code) {c:Cx} (hcP:c.P=P) (hcn:c.n=fn.ntmps) {args:List A} {vs:Array Value} (hl:vs.size=args.length) (ha:args.length≤fn.ntmps)
  {w:World} {I:Nat→Prop} {μ:Mu} {H:Hp} (hs:Sim c w I μ H) (hr:∀ (k:Nat) (y:A),args[k]? = some y→Rel w I μ y (vs.getD k undef)) {Q:A→Hp→Prop} (h:AWP c code (lQ P fn.results.toList Q) ⟨QP args,H⟩) :
  Calls P f vs w fun e w'=>∃ v r0 H' I' μ',e = .returned v∧Sim c w' I' μ' H'∧Rel w' I' μ' r0 v∧Q r0 H':=by
 subst hcP
 refine calls_of_wp hf hb ?_
 have hs:SR c ⟨QP args,H⟩ { tmps:=vs++Array.replicate (fn.ntmps-vs.size) undef,defers:=[] } w I μ:=by
  refine⟨hs,?_,rfl,fun t=>?_⟩
  ·simp[hcn,hl];omega
  ·show Rel w I μ (QP args t) _
   unfold QP
   cases hq:args[t]? with
   |none=>exact .any _ _
   |some y=>
    have hlt:=(List.getElem?_eq_some_iff.1 hq).1
    have e:(vs++Array.replicate (fn.ntmps-vs.size) undef).getD t undef=vs.getD t undef:=by
     simp only[Array.getD_eq_getD_getElem?]
     rw[Array.getElem?_append_left (by omega)]
    rw[e]
    exact hr t y hq
 refine wp_mono (h _ w I μ hs) fun e a' w' ⟨st',I',μ',h1,h2⟩=>?_
 have fin:(∃ r0,Ms c.P st' fn.results.toList=some r0∧Q r0 st'.H)→a'.defers=[]∧∃ v,(results fn a'.tmps).run c.P w' = .ok v w'∧∃ v' r0 H' I' μ',Ending.returned v = .returned v'∧Sim c w' I' μ' H'∧Rel w' I' μ' r0 v'∧Q r0 H':=by
  rintro⟨r0,h3,h4⟩
  obtain⟨v,h5,h6⟩:=XM (fn:=fn) h1 h3
  exact⟨h1.defers,v,h5,v,r0,st'.H,I',μ',rfl,h1.sim,h6,h4⟩
 cases e<;>first | exact fin h2 | exact h2.elim
def cx (P:Program) (w0:World) (I0:Nat→Prop) (n:Nat):Cx:=⟨P,w0,I0,fun _ _=>False,n,Xu⟩
def H0:Hp:=fun _=>⟨0,.none⟩
theorem YL {P:Program} {w:World} {I:Nat→Prop} {n:Nat} (hI:∀ b,I b→b<w.heap.size) (ht:Tabs P w I):Sim (cx P w I n) w I Xu H0:=
 ⟨⟨rfl,rfl,rfl,BW _,fun _ _ _=>rfl⟩,hI,fun _ h=>h,fun b hb=>.inl hb,fun _=>rfl,fun _=>trivial,(fun _ _ h=>nomatch h),(fun _ h=>nomatch h),MuLe.refl _,(fun _ h=>nomatch h),ht⟩
theorem eD {P:Program} {f:FuncId} {fn:Func} {code:Code} {args:List A} {r:A} {n:Nat} (hk:XK P f=true) (hf:P.funcs[f]? = some fn) (hb:fn.body=some code) (hn:fn.ntmps=n) (ha:args.length≤n)
  (h:∀ w0 I0,AWP (cx P w0 I0 n) code (lQ P fn.results.toList fun r0 H=>Jd H r0 r) ⟨QP args,H0⟩):Spec P f args r:=by
 refine⟨hk,fun w I vs hI htb hl hr=>?_⟩
 refine(Xh hf hb (c:=cx P w I n) rfl hn.symm hl (by omega) (YL hI htb) hr (h w I)).mono fun e w' ⟨v,r0,H',I',μ',he,h1,h2,h3⟩=>⟨v,he,?_,?_⟩
 ·have k:=h1.kept
  exact⟨k.os,k.tape,k.output,k.size,fun b hb=>k.block b hb (fun ⟨_,h⟩=>h)⟩
 ·refine(h3 _ w' I' μ' v h1 h2).mono0 (fun b hb=>?_) (fun _ _=>rfl)
  rcases hb with hb | ⟨o,g1,rfl⟩
  ·rcases h1.new b hb with g | g
   ·exact .inl g
   ·exact .inr ⟨g,h1.lt b hb⟩
  ·obtain⟨_,g4,g5⟩:=h1.own o g1
   rcases g4 with g4 | g4
   ·exact g4.elim
   ·exact .inr ⟨g4,g5⟩
theorem BX {s:Nat→A} {H:Hp} (t:Nat) (d:Nm) (sz:Nat) (ht:s t = .sl true []):Le c ⟨s,H⟩ ⟨upd s t (.osl d ((H d).u+1) sz 0 0),Ay H d ⟨(H d).u+1,.arr sz []⟩⟩:=fun a w I μ hs=>by
 obtain⟨hx,hs'⟩:=hs.sim.upd (FM w none) d ⟨(H d).u+1,false,0,0,sz,0⟩ (.arr sz []) (.inl rfl) (.inl (by rw[hs.sim.ver];exact Nat.lt_succ_self _)) (fun h=>nomatch h) (fun h=>nomatch h) (fun hx=>⟨rfl,.inl ⟨rfl,rfl⟩⟩)
 refine⟨I,_,hs',hs.size,hs.defers,fun k=>?_⟩
 show Rel w I _ (upd s t _ k) _
 unfold upd
 split
 ·rename_i hk
  subst hk
  have h1:=hs.rel k
  simp only[ht] at h1
  generalize a.tmps.getD k undef=v at h1
  cases h1 with
  |slN _ _ q cap hc=>
   have:=hc rfl
   subst this
   exact .osl _ _ _ _ _ _ _ _ (by omega) (by simp) (BW _) (fun h=>by omega) (fun _=>by simp)
  |sl _ _ b off n cap z _ g h1 h2 h3 h4=>
   have h5:n=0:=h2
   have h6:cap=0:=h4 rfl
   subst h5 h6
   exact .osl _ _ _ _ _ _ _ _ (by omega) (by simp) (BW _) (fun h=>by omega) (fun _=>by simp)
 ·exact hx.rel (hs.rel k)
end
structure CO where
 d:Option Nat
 o:Op
 g:Option (Nat × Bool)
 nm:Nm
 ix:Nat
 un:List Nat
 lg:Bool
abbrev co (d:Option Nat) (o:Op) (g:Option (Nat × Bool)):CO:=⟨d,o,g,[],0,[],false⟩
abbrev cn (d:Option Nat) (o:Op) (g:Option (Nat × Bool)) (nm:Nm):CO:=⟨d,o,g,nm,0,[],false⟩
inductive CC where
 |skip
 |reg (ops:List CO) (live:List Nat)
 |seq (x y:CC)
 |cond (c:Operand) (x y:CC)
 |block (i:Nat) (x:CC)
 |loop (x:CC)
 |exit (i:Nat)
 |ret
 |keep (live:List Nat) (x:CC)
 |stop (x:CC)
 |scope (x:CC)
def aL:List (Nat × Nm)→Nat→Nm
 |[],_=>[]
 |(k,n)::l,i=>if k=i then n else aL l i
def Uc (draw:Bool) (ops:Array Oper) (ms:List Nat) (i j:Nat):Bool:=draw&&Uq ops ms i j
theorem uo {draw:Bool} {ops:Array Oper}:Uc draw ops (eH ops)=qQ draw ops:=by
 cases draw
 ·rfl
 ·funext i j;simp[Uc,qQ]
def wZ (ops:Array Oper) (draw:Bool) (ms:List Nat) (nms:List (Nat × Nm)) (i:Nat) (o:Oper):Option CO:=
 let un:=(List.range i).filter fun j=>Uc draw ops ms j i
 let lg:=(List.range ops.size).any fun k=>Nat.blt i k&&Uc draw ops ms i k
 let ix:=if un.isEmpty&&!lg then 0 else i
 match o.guard with
 |none=>some ⟨o.dst,o.op,none,aL nms i,ix,un,lg⟩
 |some (j,f)=>match (ops[j]?).bind (·.dst) with
  |some d=>some ⟨o.dst,o.op,some (d,f),aL nms i,ix,un,lg⟩
  |none=>none
def di (ops:Array Oper) (draw:Bool) (ms:List Nat) (nms:List (Nat × Nm)):Nat→List Oper→Option (List CO)
 |_,[]=>some []
 |i,o::l=>match wZ ops draw ms nms i o,di ops draw ms nms (i+1) l with
  |some x,some r=>some (x::r)
  |_,_=>none
inductive Is (n:Nat):CC→Code→Prop
 |skip:Is n .skip .skip
 |reg (id:Nat) (ops:Array Oper) (draw:Bool) (live:List Nat) (nms:List (Nat × Nm)) (l:List CO):i6 n ops draw=true→di ops draw (eH ops) nms 0 ops.toList=some l→Is n (.reg l live) (.region id ops draw)
 |seq (x y:CC) (a b:Code):Is n x a→Is n y b→Is n (.seq x y) (.seq a b)
 |cond (o:Operand) (x y:CC) (a b:Code):Is n x a→Is n y b→Is n (.cond o x y) (.cond o a b)
 |block (i:Nat) (x:CC) (a:Code):Is n x a→Is n (.block i x) (.block i a)
 |loop (x:CC) (a:Code):Is n x a→Is n (.loop x) (.loop a)
 |exit (i:Nat):Is n (.exit i) (.exit i)
 |ret:Is n .ret .ret
 |keep (live:List Nat) (x:CC) (a:Code):Is n x a→Is n (.keep live x) a
 |stop (x:CC) (a:Code):Is n x a→Is n (.stop x) a
 |scope (x:CC) (a:Code):Is n x a→Is n (.scope x) (.scope a)
 |label (l:Nat):Is n .skip (.label l)
def w4 (Q:Exit→Sta→Prop):Exit→Sta→Prop
 |.goto _,_=>False
 |e,st=>Q e st
def Sta.keep (st:Sta) (live:List Nat):Sta:=⟨lk (live.map fun k=>(k,st.s k)),st.H⟩
theorem iM {c:Cx} {st:Sta} (live:List Nat):Le c st (st.keep live):=Ao _ (fun p hp=>by
 obtain⟨k,_,rfl⟩:=List.mem_map.1 hp
 rfl)
def iu (P:Program) (o:CO) (st:Sta) (x:A) (E:Eff) (f:Ft):Prop:=
 match o.g with
 |none=>Zx P o.nm o.o (evs st.s) st.H x E f.R f.W
 |some (d,fl)=>∃ q x0,B3 (st.s d) fl=some q∧(q=true→Zx P o.nm o.o (evs st.s) st.H x0 E f.R f.W)∧x=gd q x0∧(q=false→E = .nil∧f.R=[]∧f.W=[])
def Ck (un:List Nat) (lg:Lg) (f:Ft):Prop:=∀ p,p ∈ lg→p.1 ∈ un→nc p.2 f=true
def A9 (b:Bool) (i:Nat) (f:Ft) (lg:Lg):Lg:=if b=true then (i,f)::lg else lg
def Ar (P:Program) (K:Sta→Prop):List CO→Lg→Sta→Prop
 |[],_,st=>K st
 |o::rest,lg,st=>∃ x E f,iu P o st x E f∧Ck o.un lg f∧Ar P K rest (A9 o.lg o.ix f lg) (st.put o.d x (E.app st.H))
theorem sM {ops:Array Oper} {draw:Bool} {ms:List Nat} {nms:List (Nat × Nm)} {i:Nat} {o:Oper} {c:CO} (h:wZ ops draw ms nms i o=some c):c.d=o.dst∧c.o=o.op∧c.nm=aL nms i ∧
  c.un=((List.range i).filter fun j=>Uc draw ops ms j i)∧c.lg=((List.range ops.size).any fun k=>Nat.blt i k&&Uc draw ops ms i k)∧(c.un ≠ []∨c.lg=true→c.ix=i) ∧
  ((o.guard=none∧c.g=none)∨∃ j f d,o.guard=some (j,f)∧(ops[j]?).bind (·.dst)=some d∧c.g=some (d,f)):=by
 have hix:∀ (un:List Nat) (lg:Bool),un ≠ []∨lg=true→(if (un.isEmpty&&!lg)=true then 0 else i)=i:=fun un lg hh=>by
  rw[if_neg]
  rcases hh with h1 | h1
  ·cases un with
   |nil=>exact(h1 rfl).elim
   |cons=>simp
  ·simp[h1]
 unfold wZ at h
 cases hg:o.guard with
 |none=>
  rw[hg] at h
  simp only[Option.some.injEq] at h
  subst h
  exact⟨rfl,rfl,rfl,rfl,rfl,hix _ _,.inl ⟨rfl,rfl⟩⟩
 |some p=>
  obtain⟨j,f⟩:=p
  rw[hg] at h
  simp only at h
  cases hj:(ops[j]?).bind (·.dst) with
  |none=>rw[hj] at h;cases h
  |some d=>
   rw[hj] at h
   simp only[Option.some.injEq] at h
   subst h
   exact⟨rfl,rfl,rfl,rfl,rfl,hix _ _,.inr ⟨j,f,d,rfl,hj,rfl⟩⟩
theorem fZ {P:Program} {ops:Array Oper} {draw:Bool} {ms:List Nat} {nms:List (Nat × Nm)} {K:Sta→Prop}:∀ (l:List Oper) (i:Nat) (r:List CO) (Lf lg:Lg) (st:Sta),di ops draw ms nms i l=some r→i+l.length=ops.size →
  (∀ p,p ∈ Lf→p.1<i∧∀ k,i≤k→k<ops.size→Uc draw ops ms p.1 k=true→p ∈ lg)→Ar P K r lg st→oL P (aL nms) (Uc draw ops ms) ops K l i Lf st:=by
 intro l
 induction l with
 |nil=>
  intro i r Lf lg st he _ _ h
  cases he
  exact h
 |cons o l ih=>
  intro i r Lf lg st he hsz hlg h
  unfold di at he
  split at he
  ·rename_i c r' hc hr
   cases he
   obtain⟨e1,e2,e3,e4,e5,e7,e6⟩:=sM hc
   obtain⟨x,E,f,hy,hk,h⟩:=h
   simp only[List.length_cons] at hsz
   refine⟨x,E,f,?_,fun p hp hn=>?_,?_⟩
   ·unfold iu at hy
    rw[e2,e3] at hy
    rcases e6 with ⟨hg,hc⟩ | ⟨j,fl,d,hg,hj,hc⟩
    ·rw[hc] at hy
     exact⟨true,x,by unfold PM;rw[hg],fun _=>hy,rfl,fun h=>nomatch h⟩
    ·rw[hc] at hy
     obtain⟨q,x0,k1,k2,k3,k4⟩:=hy
     exact⟨q,x0,by unfold PM;rw[hg];exact⟨d,hj,k1⟩,k2,k3,k4⟩
   ·obtain⟨h1,h2⟩:=hlg p hp
    refine hk p (h2 i (BW _) (by omega) hn) ?_
    rw[e4]
    exact List.mem_filter.2 ⟨List.mem_range.2 h1,hn⟩
   ·rw[e1] at h
    refine ih (i+1) r' _ _ _ hr (by omega) (fun p hp=>?_) h
    rcases List.mem_cons.1 hp with rfl | hp
    ·refine⟨Nat.lt_succ_self _,fun k h1 h2 h3=>?_⟩
     have hl:c.lg=true:=by
      rw[e5]
      exact List.any_eq_true.2 ⟨k,List.mem_range.2 h2,by simp[Nat.blt_eq,h3];omega⟩
     unfold A9
     rw[if_pos hl,e7 (.inr hl)]
     simp
    ·obtain⟨h1,h2⟩:=hlg p hp
     refine⟨by omega,fun k h3 h4 h5=>?_⟩
     have:=h2 k (by omega) h4 h5
     unfold A9
     split
     ·exact List.mem_cons_of_mem _ this
     ·exact this
  ·cases he
def LoopC (c:Cx) (x:CC) (Q:Exit→Sta→Prop) (st:Sta):Prop:=∀ a,Is c.n x a→AHead c a Q st
def DB (K:Sta→Prop) (Q:Exit→Sta→Prop):Exit→Sta→Prop
 |.normal,st=>K st
 |e,st=>Q e st
def Us (c:Cx) (K:Sta→Prop) (st:Sta):Prop:=∃ st',Le c st st'∧K st'
theorem Ep {c:Cx} {K:Sta→Prop} {st:Sta} (h:K st):Us c K st:=⟨st,Le.refl,h⟩
theorem CJ {c:Cx} {K:Sta→Prop} {st st':Sta} (h:Le c st st') (k:Us c K st'):Us c K st:=let ⟨st2,h2,k2⟩:=k;⟨st2,h.trans h2,k2⟩
def WPC (c:Cx):CC→(Exit→Sta→Prop)→Sta→Prop
 |.skip,Q,st=>Q .normal st
 |.exit i,Q,st=>Q (.exit i) st
 |.ret,Q,st=>Q .ret st
 |.reg ops live,Q,st=>Ar c.P (fun st=>Q .normal (st.keep live)) ops [] st
 |.seq x y,Q,st=>WPC c x (DB (WPC c y Q) Q) st
 |.cond o x y,Q,st=>∃ b,evs st.s o = .v (.bool b)∧(b=true→WPC c x Q st)∧(b=false→WPC c y Q st)
 |.block i x,Q,st=>WPC c x (Bu i Q) st
 |.loop x,Q,st=>LoopC c x Q st
 |.keep live x,Q,st=>WPC c x Q (st.keep live)
 |.stop x,Q,st=>Us c (fun st=>WPC c x Q st) st
 |.scope x,Q,st=>WPC c x (w4 Q) st
theorem OQ {c:Cx} (hm:c.P.follows .mixedOrders=true):∀ {x:CC} {a:Code} {Q:Exit→Sta→Prop} {st:Sta},Is c.n x a→WPC c x Q st→AWP c a Q st:=by
 intro x a Q st hi
 induction hi generalizing Q st with
 |skip=>exact fun h=>pI h
 |exit i=>exact fun h=>pB h
 |ret=>exact fun h=>tl h
 |reg id ops draw live nms l hok hl=>
  intro h
  intro a w I μ hs
  have h1:=fZ ops.toList 0 l [] [] _ hl (by simp) (fun p hp=>by simp at hp) h
  rw[uo] at h1
  refine Z8 hm hok (K:=fun st=>Q .normal (st.keep live)) (fun st' a' w' I' μ' h1 h2=>?_) hs h1
  obtain⟨I2,μ2,h3⟩:=iM live a' w' I' μ' h1
  exact⟨_,I2,μ2,h3,h2⟩
 |seq x y a b _ _ ih1 ih2=>
  intro h
  refine sv ((ih1 h).mono fun e st' hq=>?_)
  cases e<;>first | exact ih2 hq | exact hq
 |cond o x y a b _ _ ih1 ih2=>
  intro ⟨q,hb,ht,hf⟩
  exact nM hb (fun h=>ih1 (ht h)) (fun h=>ih2 (hf h))
 |block i x a _ ih=>exact fun h=>kU (ih h)
 |loop x a hx _=>exact fun h=>qa (h a hx)
 |keep live x a _ ih=>
  intro h a w I μ hs
  obtain⟨I2,μ2,h3⟩:=iM live a w I μ hs
  exact ih h a w I2 μ2 h3
 |stop x a _ ih=>
  intro ⟨st',h1,h2⟩ a w I μ hs
  obtain⟨I2,μ2,h3⟩:=h1 a w I μ hs
  exact ih h2 a w I2 μ2 h3
 |scope x a _ ih=>
  intro h a w I μ hs
  refine wp_scope_straight (wp_mono (ih h a w I μ hs) fun e a' w' ⟨st',I',μ',h1,h2⟩=>?_)
  cases e with
  |goto l=>exact h2.elim
  |_=>exact⟨st',I',μ',h1,h2⟩
 |label l=>exact fun h a w I μ hs=>wp_label ⟨st,I,μ,hs,h⟩
theorem WPC.mono {c:Cx}:∀ {x:CC} {Q Q':Exit→Sta→Prop} {st:Sta},(∀ e st,Q e st→Q' e st)→WPC c x Q st→WPC c x Q' st
 |.skip,_,_,_,hq,h=>hq _ _ h
 |.exit _,_,_,_,hq,h=>hq _ _ h
 |.ret,_,_,_,hq,h=>hq _ _ h
 |.reg ops live,Q,Q',st,hq,h=>by
  have:∀ (ops:List CO) (lg:Lg) (st:Sta),Ar c.P (fun st=>Q .normal (st.keep live)) ops lg st→Ar c.P (fun st=>Q' .normal (st.keep live)) ops lg st:=by
   intro ops
   induction ops with
   |nil=>exact fun lg st h=>hq _ _ h
   |cons o ops ih=>exact fun lg st ⟨x,E,f,h1,h2,h3⟩=>⟨x,E,f,h1,h2,ih _ _ h3⟩
  exact this ops _ st h
 |.seq x y,Q,Q',st,hq,h=>WPC.mono (x:=x) (fun e st' h'=>by cases e<;>first | exact WPC.mono (x:=y) hq h' | exact hq _ _ h') h
 |.cond o x y,Q,Q',st,hq,⟨b,h1,h2,h3⟩=>⟨b,h1,fun h=>WPC.mono hq (h2 h),fun h=>WPC.mono hq (h3 h)⟩
 |.block i x,Q,Q',st,hq,h=>WPC.mono (x:=x) (fun e st' h'=>by
   cases e with
   |exit j=>
    by_cases hj:j=i
    ·subst hj;rw[ZK] at h' ⊢; exact hq _ _ h'
    ·rw[Pr hj] at h' ⊢; exact hq _ _ h'
   |_=>exact hq _ _ h') h
 |.keep live x,Q,Q',st,hq,h=>WPC.mono (x:=x) hq h
 |.stop x,Q,Q',st,hq,⟨st',h1,h2⟩=>⟨st',h1,WPC.mono (x:=x) hq h2⟩
 |.scope x,Q,Q',st,hq,h=>WPC.mono (x:=x) (fun e st' h'=>by
   cases e with
   |goto l=>exact h'
   |_=>exact hq _ _ h') h
 |.loop x,Q,Q',st,hq,h=>fun a ha a' w I μ hs b k cs=>by
  obtain⟨e,a1,w1,⟨st',I',μ',h1,h2⟩,h3⟩:=h a ha a' w I μ hs b k cs
  exact⟨e,a1,w1,⟨st',I',μ',h1,hq _ _ h2⟩,h3⟩
theorem aP {c:Cx} (hm:c.P.follows .mixedOrders=true) {x:CC} {Q:Exit→Sta→Prop} {st:Sta} (h:WPC c x (DB (LoopC c x Q) Q) st):LoopC c x Q st:=fun a ha=>
 a9 ((OQ hm ha h).mono fun e st' hq=>by cases e<;>first | exact hq a ha | exact hq)
theorem LoopC.le {c:Cx} {x:CC} {Q:Exit→Sta→Prop} {st st':Sta} (h:Le c st st') (k:LoopC c x Q st'):LoopC c x Q st:=fun a ha=>(k a ha).le h
def eR:List Nat→CC→CC
 |999999::live,y=>.keep live y
 |999998::_,y=>.stop y
 |999997::live,y=>.keep live (.stop y)
 |_,y=>y
theorem kD {n:Nat} {m:List Nat} {y:CC} {b:Code} (h:Is n y b):Is n (eR m y) b:=by
 unfold eR
 split
 ·exact .keep _ _ _ h
 ·exact .stop _ _ h
 ·exact .keep _ _ _ (.stop _ _ h)
 ·exact h
abbrev Mk:=List Nat × List (Nat × Nm)
def Ko (n:Nat):Code→List Mk→Option (CC × List Mk)
 |.skip,ls=>some (.skip,ls)
 |.exit i,ls=>some (.exit i,ls)
 |.ret,ls=>some (.ret,ls)
 |.region _ ops draw,(live,nms)::ls=>if i6 n ops draw=true then match di ops draw (eH ops) nms 0 ops.toList with
   |some l=>some (.reg l live,ls)
   |none=>none else none
 |.seq a b,ls=>match Ko n a ls with
  |some (x,m::ls)=>match Ko n b ls with
   |some (y,ls)=>some (.seq x (eR m.1 y),ls)
   |none=>none
  |_=>none
 |.cond o a b,ls=>match Ko n a ls with
  |some (x,ls)=>match Ko n b ls with
   |some (y,ls)=>some (.cond o x y,ls)
   |none=>none
  |none=>none
 |.block i a,ls=>match Ko n a ls with
  |some (x,ls)=>some (.block i x,ls)
  |none=>none
 |.loop a,ls=>match Ko n a ls with
  |some (x,ls)=>some (.loop x,ls)
  |none=>none
 |.scope a,ls=>match Ko n a ls with
  |some (x,ls)=>some (.scope x,ls)
  |none=>none
 |.label _,ls=>some (.skip,ls)
 |_,_=>none
theorem uA {n:Nat}:∀ {a:Code} {ls ls':List Mk} {x:CC},Ko n a ls=some (x,ls')→Is n x a:=by
 intro a
 induction a with
 |skip=>intro ls ls' x h;simp only[Ko] at h;cases h;exact .skip
 |exit i=>intro ls ls' x h;simp only[Ko] at h;cases h;exact .exit i
 |ret=>intro ls ls' x h;simp only[Ko] at h;cases h;exact .ret
 |region id ops draw=>
  intro ls ls' x h
  cases ls with
  |nil=>simp[Ko] at h
  |cons live ls=>
   simp only[Ko] at h
   split at h
   ·rename_i hok
    split at h
    ·rename_i l hl
     cases h
     exact .reg _ _ _ _ _ _ hok hl
    ·cases h
   ·cases h
 |seq a b ih1 ih2=>
  intro ls ls' x h
  simp only[Ko] at h
  split at h
  ·rename_i q1 m l1 h1
   split at h
   ·rename_i q2 l2 h2
    cases h
    exact .seq _ _ _ _ (ih1 h1) (kD (ih2 h2))
   ·cases h
  ·cases h
 |cond o a b ih1 ih2=>
  intro ls ls' x h
  simp only[Ko] at h
  split at h
  ·rename_i q1 l1 h1
   split at h
   ·rename_i q2 l2 h2
    cases h
    exact .cond _ _ _ _ _ (ih1 h1) (ih2 h2)
   ·cases h
  ·cases h
 |block i a ih=>
  intro ls ls' x h
  simp only[Ko] at h
  split at h
  ·rename_i q1 l1 h1
   cases h
   exact .block _ _ _ (ih h1)
  ·cases h
 |loop a ih=>
  intro ls ls' x h
  simp only[Ko] at h
  split at h
  ·rename_i q1 l1 h1
   cases h
   exact .loop _ _ (ih h1)
  ·cases h
 |scope a ih=>
  intro ls ls' x h
  simp only[Ko] at h
  split at h
  ·rename_i q1 l1 h1
   cases h
   exact .scope _ _ (ih h1)
  ·cases h
 |label l=>intro ls ls' x h;simp only[Ko] at h;cases h;exact .label l
 |_=>intro ls ls' x h;cases ls<;>simp[Ko] at h
structure AX (P:Program) (f:FuncId) (n:Nat) (rs:List ResultVar) (cc:CC):Prop where
 Ah:P.follows .mixedOrders=true
 ok:XK P f=true
 fn:∃ fn code,P.funcs[f]? = some fn∧fn.body=some code∧fn.ntmps=n∧fn.results.toList=rs∧Is n cc code
theorem yi {P:Program} {f:FuncId} {fn:Func} {code:Code} {cc:CC} {ls:List Mk} {rs:List ResultVar} {n:Nat} (hm:P.follows .mixedOrders=true) (hk:XK P f=true) (hf:P.funcs[f]? = some fn) (hb:fn.body=some code)
  (hn:fn.ntmps=n) (hrs:fn.results.toList=rs) (hc:Ko n code ls=some (cc,[])):AX P f n rs cc:=⟨hm,hk,fn,code,hf,hb,hn,hrs,uA hc⟩
def RY (P:Program) (rs:List ResultVar) (r:A):Exit→Sta→Prop:=lQ P rs fun r0 H=>Jd H r0 r
theorem Aj {P:Program} {f:FuncId} {n:Nat} {rs:List ResultVar} {cc:CC} {args:List A} {r:A} (t:AX P f n rs cc) (ha:args.length≤n) (h:∀ w0 I0,WPC (cx P w0 I0 n) cc (RY P rs r) ⟨QP args,H0⟩):Spec P f args r:=by
 obtain⟨hm,hk,fn,code,hf,hb,hn,hrs,hc⟩:=t
 exact eD hk hf hb hn ha fun w0 I0=>OQ (c:=cx P w0 I0 n) hm hc (by rw[hrs];exact h w0 I0)
section
variable {P:Program} {H:Hp} {t u:TypeId}
def vc (x:VOb) (u:Nat):Option (List A):=match x with | ⟨u',.cells cs⟩=>if u'=u then some cs else none | _=>none
def vr (x:VOb) (u:Nat):Option (Nat × List A):=match x with | ⟨u',.arr s xs⟩=>if u'=u then some (s,xs) else none | _=>none
@[simp] theorem AdP {u' u:Nat} {cs:List A}:vc ⟨u',.cells cs⟩ u=if u'=u then some cs else none:=rfl
@[simp] theorem AhI {u' u s:Nat} {xs:List A}:vr ⟨u',.arr s xs⟩ u=if u'=u then some (s,xs) else none:=rfl
@[simp] theorem AgH {o:Nm} {u:Nat}:Wf H o u=vc (H o) u:=rfl
@[simp] theorem MN {o:Nm} {u:Nat}:Q1 H o u=vr (H o) u:=rfl
@[simp] theorem Aca {o:Nm} {u off:Nat}:Gh P H t (.pob o u off)=match CZ P t,CF P t with | some g,some sz=>(match vc (H o) u with | some cs=>L5 g sz (cs.drop off) | none=>none) | _,_=>none:=by
 unfold Gh
 cases CZ P t with
 |none=>rfl
 |some g=>
  cases CF P t with
  |none=>rfl
  |some sz=>rfl
@[simp] theorem Aew {o:Nm} {u i j:Nat}:Gh P H t (.pel o u i j)=match CZ P t,CF P t with | some g,some sz=>(match vr (H o) u with | some (_,xs)=>(match xs[i]? with | some x=>L5 g sz (x.cells.drop j) | none=>none) | none=>none) | _,_=>none:=by
 unfold Gh
 cases CZ P t with
 |none=>rfl
 |some g=>
  cases CF P t with
  |none=>rfl
  |some sz=>rfl
@[simp] theorem Aaq {o:Nm} {u off:Nat} {val:A}:HG P H t (.pob o u off) val=match CF P t with
  |some sz=>if val.cells.length=sz∧A.ones val.cells=true then (match vc (H o) u with | some cs=>if off+sz≤cs.length then some (.one o ⟨u,.cells (splice cs off val.cells)⟩) else none | none=>none) else none
  |none=>none:=by
 unfold HG
 cases CF P t<;>rfl
def gJ (o:Nm) (u i j s sz:Nat) (xs:List A) (val:A):Option A→Option Eff
 |some x=>if j=0∧sz=s then some (.one o ⟨u,.arr s (xs.set i val)⟩)
  else if j+sz≤s∧x.isAgg=true then some (.one o ⟨u,.arr s (xs.set i (x.remake (splice x.cells j val.cells)))⟩) else none
 |none=>none
def vb (o:Nm) (u i j sz:Nat) (val:A):Option (Nat × List A)→Option Eff
 |some (s,xs)=>gJ o u i j s sz xs val xs[i]?
 |none=>none
@[simp] theorem gC {o:Nm} {u i j s sz:Nat} {xs:List A} {val:A}:vb o u i j sz val (some (s,xs))=gJ o u i j s sz xs val xs[i]?:=rfl
@[simp] theorem vC {o:Nm} {u i j s sz:Nat} {xs:List A} {x val:A}:gJ o u i j s sz xs val (some x)=if j=0∧sz=s then some (.one o ⟨u,.arr s (xs.set i val)⟩)
  else if j+sz≤s∧x.isAgg=true then some (.one o ⟨u,.arr s (xs.set i (x.remake (splice x.cells j val.cells)))⟩) else none:=rfl
@[simp] theorem Aav {o:Nm} {u i j:Nat} {val:A}:HG P H t (.pel o u i j) val=match CF P t with
  |some sz=>if val.cells.length=sz∧A.ones val.cells=true then vb o u i j sz val (vr (H o) u) else none
  |none=>none:=by
 unfold HG
 cases CF P t with
 |none=>rfl
 |some sz=>
  simp only[MN]
  cases vr (H o) u with
  |none=>rfl
  |some p=>
   obtain⟨s,xs⟩:=p
   simp only[gC]
   cases xs[i]?<;>rfl
@[simp] theorem Aea {d:Nm} {e:TypeId}:QG P H d e=match Bi P e with | some z=>if A.ones (FX z).cells=true∧CQ d e=true then some (.pob d ((H d).u+1) 0,.one d ⟨(H d).u+1,.cells (FX z).cells⟩) else none | none=>none:=rfl
@[simp] theorem Aht {d:Nm} {e:TypeId} {a:A}:eT H d e a=if A.ones a.cells=true∧CQ d e=true then some (.pob d ((H d).u+1) 0,.one d ⟨(H d).u+1,.cells a.cells⟩) else none:=rfl
@[simp] theorem Aff {a:A}:rv a=if a.isPtr=true then some a else none:=rfl
def vQ (H:Hp) (d:Nm) (e:TypeId) (n c:Int):Option Nat→Option Value→Option Nat→Option (A × Eff)
 |some s,some z,some b=>if 0≤n∧n≤c∧b*c≤140737488355328∧0<b∧(FX z).cells.length=s∧A.ones (FX z).cells=true∧CQ d e=true then some (.osl d ((H d).u+1) s 0 n.toNat,.one d ⟨(H d).u+1,.arr s (List.replicate n.toNat (FX z))⟩) else none
 |_,_,_=>none
@[simp] theorem xu {d:Nm} {e:TypeId} {n c:Int} {s b:Nat} {z:Value}:vQ H d e n c (some s) (some z) (some b)=if 0≤n∧n≤c∧b*c≤140737488355328∧0<b∧(FX z).cells.length=s∧A.ones (FX z).cells=true∧CQ d e=true then some (.osl d ((H d).u+1) s 0 n.toNat,.one d ⟨(H d).u+1,.arr s (List.replicate n.toNat (FX z))⟩) else none:=rfl
@[simp] theorem tD {d:Nm} {k k':IntKind} {n c:Int}:FA P H d t (.v (.int k n)) (.v (.int k' c))=match P.underlying t with | some (.slice e)=>vQ H d e n c (CF P e) (Bi P e) (BF P e) | _=>none:=by
 unfold FA
 cases P.underlying t with
 |none=>rfl
 |some q=>
  cases q<;>first
   |rfl
   |(rename_i e;cases CF P e<;>cases Bi P e<;>cases BF P e<;>rfl)
def apS (H:Hp) (d:Nm) (e:TypeId) (xs:List A):Option (List A)→Option Nat→Option Value→Option Nat→Option (A × Eff)
 |some zs,some s,some z,some b=>if 0<b∧(FX z).cells.length=s∧A.ones (FX z).cells=true then if Dq s xs=true∧(xs.length=0∨0<zs.length)∧(xs.length+zs.length)*b≤140737488355328∧CQ d e=true then some (.osl d ((H d).u+1) s 0 (xs.length+zs.length),.one d ⟨(H d).u+1,.arr s (xs++zs)⟩) else none else none
 |_,_,_,_=>none
@[simp] theorem AbI {d:Nm} {e:TypeId} {xs zs:List A} {s b:Nat} {z:Value}:apS H d e xs (some zs) (some s) (some z) (some b)=if 0<b∧(FX z).cells.length=s∧A.ones (FX z).cells=true then if Dq s xs=true∧(xs.length=0∨0<zs.length)∧(xs.length+zs.length)*b≤140737488355328∧CQ d e=true then some (.osl d ((H d).u+1) s 0 (xs.length+zs.length),.one d ⟨(H d).u+1,.arr s (xs++zs)⟩) else none else none:=rfl
def apO (o:Nm) (e:TypeId) (v sz off len:Nat):Option (Nat × List A)→Option (List A)→Option Nat→Option Value→Option Nat→Option (A × Eff)
 |some (s',ys),some zs,some s,some z,some b=>if 0<b∧(FX z).cells.length=s∧A.ones (FX z).cells=true then if off=0∧s'=s∧sz=s∧len≤ys.length∧(len+zs.length)*b≤140737488355328∧CQ o e=true then some (.osl o (v+1) s 0 (len+zs.length),.one o ⟨v+1,.arr s (ys.take len++zs)⟩) else none else none
 |_,_,_,_,_=>none
@[simp] theorem Adb {o:Nm} {e:TypeId} {v sz off len s' s b:Nat} {ys zs:List A} {z:Value}:apO o e v sz off len (some (s',ys)) (some zs) (some s) (some z) (some b)=if 0<b∧(FX z).cells.length=s∧A.ones (FX z).cells=true then if off=0∧s'=s∧sz=s∧len≤ys.length∧(len+zs.length)*b≤140737488355328∧CQ o e=true then some (.osl o (v+1) s 0 (len+zs.length),.one o ⟨v+1,.arr s (ys.take len++zs)⟩) else none else none:=rfl
@[simp] theorem zd {d:Nm} {xs:List A} {x:A}:EG P H d t u (.sl true xs) x=match P.underlying t with | some (.slice e)=>(match CF P e with | some s=>apS H d e xs (GI P H s e u x) (some s) (Bi P e) (BF P e) | none=>none) | _=>none:=by
 unfold EG
 cases P.underlying t with
 |none=>rfl
 |some q=>
  cases q<;>try rfl
  rename_i e
  simp only
  cases CF P e with
  |none=>rfl
  |some s=>
   cases Bi P e with
   |none=>simp only;cases GI P H s e u x<;>rfl
   |some z=>
    cases BF P e with
    |none=>simp only;cases GI P H s e u x<;>rfl
    |some b=>simp only;cases GI P H s e u x<;>rfl
def apF (xs:List A):Option (List A)→Option Nat→Option Value→Option Nat→Option (A × Eff)
 |some zs,some s,some z,some b=>if 0<b∧(FX z).cells.length=s∧A.ones (FX z).cells=true then if zs.length=0 then some (.sl false xs,.nil) else none else none
 |_,_,_,_=>none
@[simp] theorem AdR {xs zs:List A} {s b:Nat} {z:Value}:apF xs (some zs) (some s) (some z) (some b)=if 0<b∧(FX z).cells.length=s∧A.ones (FX z).cells=true then if zs.length=0 then some (.sl false xs,.nil) else none else none:=rfl
@[simp] theorem xe {d:Nm} {xs:List A} {x:A}:EG P H d t u (.sl false xs) x=match P.underlying t with | some (.slice e)=>(match CF P e with | some s=>apF xs (GI P H s e u x) (some s) (Bi P e) (BF P e) | none=>none) | _=>none:=by
 unfold EG
 cases P.underlying t with
 |none=>rfl
 |some q=>
  cases q<;>try rfl
  rename_i e
  simp only
  cases CF P e with
  |none=>rfl
  |some s=>
   cases Bi P e with
   |none=>simp only;cases GI P H s e u x<;>rfl
   |some z=>
    cases BF P e with
    |none=>simp only;cases GI P H s e u x<;>rfl
    |some b=>simp only;cases GI P H s e u x<;>rfl
def cpO (o:Nm) (v sz off len s:Nat):Option (Nat × List A)→Option (List A)→Option (A × Eff)
 |some (s',ys),some zs=>if s'=s∧sz=s∧off+len≤ys.length then
   some (.v (.int .i64 (min zs.length len:Nat)),.one o ⟨v,.arr s (ys.take off++zs.take (min zs.length len)++ys.drop (off+min zs.length len))⟩) else none
 |_,_=>none
@[simp] theorem Aej {o:Nm} {v sz off len s s':Nat} {ys zs:List A}:cpO o v sz off len s (some (s',ys)) (some zs)=if s'=s∧sz=s∧off+len≤ys.length then
   some (.v (.int .i64 (min zs.length len:Nat)),.one o ⟨v,.arr s (ys.take off++zs.take (min zs.length len)++ys.drop (off+min zs.length len))⟩) else none:=rfl
@[simp] theorem Ab9 {o:Nm} {v sz off len:Nat} {x:A}:N7 P H t (.osl o v sz off len) x=match P.underlying t with | some (.slice e)=>(match CF P e with | some s=>cpO o v sz off len s (vr (H o) v) (G3 H s x) | none=>none) | _=>none:=by
 unfold N7
 cases P.underlying t with
 |none=>rfl
 |some q=>
  cases q<;>try rfl
  rename_i e
  simp only[MN]
  generalize vr (H o) v=r
  cases CF P e with
  |none=>rfl
  |some s=>simp only;cases G3 H s x<;>cases r<;>rfl
@[simp] theorem xM {d o:Nm} {v sz off len:Nat} {x:A}:EG P H d t u (.osl o v sz off len) x=match P.underlying t with | some (.slice e)=>(match CF P e with | some s=>apO o e v sz off len (vr (H o) v) (GI P H s e u x) (some s) (Bi P e) (BF P e) | none=>none) | _=>none:=by
 unfold EG
 cases P.underlying t with
 |none=>rfl
 |some q=>
  cases q<;>try rfl
  rename_i e
  simp only[MN]
  generalize vr (H o) v=r
  cases CF P e with
  |none=>rfl
  |some s=>
   cases Bi P e with
   |none=>simp only;cases GI P H s e u x<;>cases r<;>rfl
   |some z=>
    cases BF P e with
    |none=>simp only;cases GI P H s e u x<;>cases r<;>rfl
    |some b=>
     simp only
     cases GI P H s e u x with
     |none=>cases r<;>rfl
     |some zs=>cases r<;>simp only[apO]<;>(try split)<;>rfl
def pA (n:Int) (s:Nat):Option Value→Option Nat→Option (List A)
 |some z,some b=>if 0≤n∧n*b≤140737488355328∧0<b∧(FX z).cells.length=s∧A.ones (FX z).cells=true then some (List.replicate n.toNat (FX z)) else none
 |_,_=>none
@[simp] theorem u7 {n:Int} {s b:Nat} {z:Value}:pA n s (some z) (some b)=if 0≤n∧n*b≤140737488355328∧0<b∧(FX z).cells.length=s∧A.ones (FX z).cells=true then some (List.replicate n.toNat (FX z)) else none:=rfl
@[simp] theorem AeX {s e:Nat} {k:IntKind} {n:Int}:GI P H s e t (.v (.int k n))=match P.underlying t with | some (.int _)=>pA n s (Bi P e) (BF P e) | _=>none:=by
 unfold GI
 cases P.underlying t with
 |none=>rfl
 |some q=>
  cases q<;>first
   |rfl
   |(cases Bi P e<;>cases BF P e<;>rfl)
@[simp] theorem Agq {s e:Nat} {x:ByteArray}:GI P H s e t (.v (.string x))=match P.underlying t with | some .string=>if s=1 then some (x.data.toList.map fun b=>.v (.int .u8 b.toNat)) else none | _=>none:=by
 unfold GI
 cases P.underlying t with
 |none=>rfl
 |some q=>cases q<;>rfl
@[simp] theorem AhA {s e:Nat} {f:Bool} {xs:List A}:GI P H s e t (.sl f xs)=match P.underlying t with | some (.slice _)=>if Dq s xs=true then some xs else none | _=>none:=by
 unfold GI
 cases P.underlying t with
 |none=>rfl
 |some q=>cases q<;>rfl
def elO (s z off n:Nat):Option (Nat × List A)→Option (List A)
 |some (s',ys)=>if s'=s∧z=s∧off+n≤ys.length then some ((ys.drop off).take n) else none
 |none=>none
@[simp] theorem Adt {s z off n s':Nat} {ys:List A}:elO s z off n (some (s',ys))=if s'=s∧z=s∧off+n≤ys.length then some ((ys.drop off).take n) else none:=rfl
@[simp] theorem AgX {s e u' z off n:Nat} {o:Nm}:GI P H s e t (.osl o u' z off n)=match P.underlying t with | some (.slice _)=>elO s z off n (vr (H o) u') | _=>none:=by
 unfold GI
 cases P.underlying t with
 |none=>rfl
 |some q=>
  cases q<;>first
   |rfl
   |(simp only[G3,MN];cases vr (H o) u'<;>rfl)
def ixS (xs:List A) (i:Int):Option Nat→Option A
 |some m=>if 0≤i∧i<xs.length then (match xs[i.toNat]? with
     |some x=>if x.cells.length=m then some (.pim x.cells) else none
     |none=>none) else none
 |none=>none
@[simp] theorem Ads {xs:List A} {i:Int} {m:Nat}:ixS xs i (some m)=if 0≤i∧i<xs.length then (match xs[i.toNat]? with
     |some x=>if x.cells.length=m then some (.pim x.cells) else none
     |none=>none) else none:=rfl
@[simp] theorem s9 {k:IntKind} {i:Int} {f:Bool} {xs:List A}:Bo P t (.sl f xs) (.v (.int k i))=match P.underlying t with | some (.slice e)=>ixS xs i (CF P e) | _=>none:=by
 unfold Bo
 cases P.underlying t with
 |none=>rfl
 |some q=>
  cases q<;>first
   |rfl
   |(rename_i e;cases h:CF P e<;>first | rfl | simp[A.shift,h] | (simp only[h];rfl))
def ixO (o:Nm) (u z off n:Nat) (i:Int):Option Nat→Option A
 |some m=>if 0≤i∧i<n∧z=m then some (.pel o u (off+i.toNat) 0) else none
 |none=>none
@[simp] theorem AcT {o:Nm} {u z off n m:Nat} {i:Int}:ixO o u z off n i (some m)=if 0≤i∧i<n∧z=m then some (.pel o u (off+i.toNat) 0) else none:=rfl
@[simp] theorem rZ {u z off n:Nat} {o:Nm} {k:IntKind} {i:Int}:Bo P t (.osl o u z off n) (.v (.int k i))=match P.underlying t with | some (.slice e)=>ixO o u z off n i (CF P e) | _=>none:=by
 unfold Bo
 cases P.underlying t with
 |none=>rfl
 |some q=>
  cases q<;>first
   |rfl
   |(rename_i e;cases h:CF P e<;>first | rfl | simp[A.shift,h] | (simp only[h];rfl))
def ixA (a:A) (n:Nat) (i:Int):Option Nat→Option A
 |some m=>if 0≤i∧i<n then a.shift (i.toNat*m) else none
 |none=>none
@[simp] theorem AbQ {a:A} {n m:Nat} {i:Int}:ixA a n i (some m)=if 0≤i∧i<n then a.shift (i.toNat*m) else none:=rfl
@[simp] theorem rT {u p:Nat} {o:Nm} {k:IntKind} {i:Int}:Bo P t (.pob o u p) (.v (.int k i))=match P.underlying t with | some (.array n e)=>ixA (.pob o u p) n i (CF P e) | _=>none:=by
 unfold Bo
 cases P.underlying t with
 |none=>rfl
 |some q=>
  cases q<;>first
   |rfl
   |(rename_i e;cases h:CF P e<;>first | rfl | simp[A.shift,h] | (simp only[h];rfl))
@[simp] theorem rR {cs:List A} {k:IntKind} {i:Int}:Bo P t (.pim cs) (.v (.int k i))=match P.underlying t with | some (.array n e)=>ixA (.pim cs) n i (CF P e) | _=>none:=by
 unfold Bo
 cases P.underlying t with
 |none=>rfl
 |some q=>
  cases q<;>first
   |rfl
   |(rename_i e;cases h:CF P e<;>first | rfl | simp[A.shift,h] | (simp only[h];rfl))
@[simp] theorem rV {u p q':Nat} {o:Nm} {k:IntKind} {i:Int}:Bo P t (.pel o u p q') (.v (.int k i))=match P.underlying t with | some (.array n e)=>ixA (.pel o u p q') n i (CF P e) | _=>none:=by
 unfold Bo
 cases P.underlying t with
 |none=>rfl
 |some q=>
  cases q<;>first
   |rfl
   |(rename_i e;cases h:CF P e<;>first | rfl | simp[A.shift,h] | (simp only[h];rfl))
def ixV (P:Program) (e:TypeId) (cs:List A) (n:Nat) (i:Int):Option Nat→Option A
 |some m=>if 0≤i∧i<n then PU P e cs (i.toNat*m) else none
 |none=>none
@[simp] theorem AcZ {e:TypeId} {cs:List A} {n m:Nat} {i:Int}:ixV P e cs n i (some m)=if 0≤i∧i<n then PU P e cs (i.toNat*m) else none:=rfl
@[simp] theorem AcL {cs:List A} {off:Nat}:PU P t cs off=match CZ P t,CF P t with | some g,some sz=>L5 g sz (cs.drop off) | _,_=>none:=rfl
@[simp] theorem zl {cs:List A} {k:IntKind} {i:Int}:Mn P t (.agg cs) (.v (.int k i))=match P.underlying t with | some (.array n e)=>ixV P e cs n i (CF P e) | _=>none:=by
 unfold Mn
 cases P.underlying t with
 |none=>rfl
 |some q=>
  cases q<;>first
   |rfl
   |(rename_i e;cases h:CF P e<;>first | rfl | simp[A.shift,h] | (simp only[h];rfl))
@[simp] theorem zb {s:ByteArray} {k:IntKind} {i:Int}:Mn P t (.v (.string s)) (.v (.int k i))=match P.underlying t with | some .string=>if 0≤i then (s[i.toNat]?).map (fun b=>.v (.int .u8 b.toNat)) else none | _=>none:=by
 unfold Mn
 cases P.underlying t with
 |none=>rfl
 |some q=>cases q<;>rfl
@[simp] theorem Ahq {f:Bool} {xs:List A}:Oo P t (.sl f xs)=match P.underlying t with | some (.slice _)=>some (.v (.int .i64 xs.length)) | some (.array n _)=>some (.v (.int .i64 n)) | _=>none:=by
 unfold Oo
 cases P.underlying t with
 |none=>rfl
 |some q=>cases q<;>rfl
@[simp] theorem Afp {u z off n:Nat} {o:Nm}:Oo P t (.osl o u z off n)=match P.underlying t with | some (.slice _)=>some (.v (.int .i64 n)) | some (.array n _)=>some (.v (.int .i64 n)) | _=>none:=by
 unfold Oo
 cases P.underlying t with
 |none=>rfl
 |some q=>cases q<;>rfl
@[simp] theorem Agy {s:ByteArray}:Oo P t (.v (.string s))=match P.underlying t with | some .string=>some (.v (.int .i64 s.size)) | some (.array n _)=>some (.v (.int .i64 n)) | _=>none:=by
 unfold Oo
 cases P.underlying t with
 |none=>rfl
 |some q=>cases q<;>rfl
@[simp] theorem AgV {cs:List A}:Oo P t (.agg cs)=match P.underlying t with | some (.array n _)=>some (.v (.int .i64 n)) | _=>none:=by
 unfold Oo
 cases P.underlying t with
 |none=>rfl
 |some q=>cases q<;>rfl
@[simp] theorem Ag4 {o:Nm} {u p:Nat}:Oo P t (.pob o u p)=match P.underlying t with | some (.array n _)=>some (.v (.int .i64 n)) | _=>none:=by
 unfold Oo
 cases P.underlying t with
 |none=>rfl
 |some q=>cases q<;>rfl
def w7 (f:Bool) (xs:List A):Option (Nat × Nat × Option Nat)→Option Nat→Option A
 |some (l,h,m),some s=>if Dq s xs=true then some (.sl (IP m f h xs.length) ((xs.drop l).take (h-l))) else none
 |_,_=>none
@[simp] theorem Ab2 {f:Bool} {xs:List A} {l h s:Nat} {m:Option Nat}:w7 f xs (some (l,h,m)) (some s)=if Dq s xs=true then some (.sl (IP m f h xs.length) ((xs.drop l).take (h-l))) else none:=rfl
@[simp] theorem Aez {f:Bool} {xs:List A} {s:Option Nat}:w7 f xs none s=none:=by cases s<;>rfl
@[simp] theorem Abg {f:Bool} {xs:List A} {lo hi mx:Option A}:HI P t (.sl f xs) lo hi mx=match P.underlying t with | some (.slice e)=>w7 f xs (Fe xs.length lo hi mx) (CF P e) | _=>none:=by
 unfold HI
 cases P.underlying t with
 |none=>rfl
 |some q=>
  cases q<;>first
   |rfl
   |(rename_i e;cases Fe xs.length lo hi mx<;>cases CF P e<;>rfl)
def slO (o:Nm) (u z off:Nat):Option (Nat × Nat × Option Nat)→Option Nat→Option A
 |some (l,h,_),some s=>if s=z then some (.osl o u z (off+l) (h-l)) else none
 |_,_=>none
@[simp] theorem AbM {o:Nm} {u z off l h s:Nat} {m:Option Nat}:slO o u z off (some (l,h,m)) (some s)=if s=z then some (.osl o u z (off+l) (h-l)) else none:=rfl
@[simp] theorem Aex {o:Nm} {u z off:Nat} {s:Option Nat}:slO o u z off none s=none:=by cases s<;>rfl
@[simp] theorem Abb {u z off n:Nat} {o:Nm} {lo hi mx:Option A}:HI P t (.osl o u z off n) lo hi mx=match P.underlying t with | some (.slice e)=>slO o u z off (Fe n lo hi mx) (CF P e) | _=>none:=by
 unfold HI
 cases P.underlying t with
 |none=>rfl
 |some q=>
  cases q<;>first
   |rfl
   |(rename_i e;cases Fe n lo hi mx<;>cases CF P e<;>rfl)
def slP (cs:List A) (n:Nat):Option (Nat × Nat × Option Nat)→Option Nat→Option A
 |some (l,h,m),some s=>if s=1∧n≤cs.length then some (.sl (IP m true h n) ((cs.drop l).take (h-l))) else none
 |_,_=>none
@[simp] theorem AeG {cs:List A} {n l h s:Nat} {m:Option Nat}:slP cs n (some (l,h,m)) (some s)=if s=1∧n≤cs.length then some (.sl (IP m true h n) ((cs.drop l).take (h-l))) else none:=rfl
@[simp] theorem AbK {cs:List A} {n:Nat} {s:Option Nat}:slP cs n none s=none:=by cases s<;>rfl
@[simp] theorem AaQ {cs:List A} {lo hi mx:Option A}:HI P t (.pim cs) lo hi mx=match P.underlying t with | some (.array n e)=>slP cs n (Fe n lo hi mx) (CF P e) | _=>none:=by
 unfold HI
 cases P.underlying t with
 |none=>rfl
 |some q=>
  cases q<;>first
   |rfl
   |(rename_i n e;cases Fe n lo hi mx<;>cases CF P e<;>rfl)
@[simp] theorem zH {s:ByteArray} {lo hi mx:Option A}:HI P t (.v (.string s)) lo hi mx=match P.underlying t with | some .string=>(match Fe s.size lo hi mx with | some (l,h,none)=>some (.v (.string (s.extract l h))) | _=>none) | _=>none:=by
 unfold HI
 cases P.underlying t with
 |none=>rfl
 |some q=>cases q<;>rfl
@[simp] theorem Afl {r:IntKind} {n:Int}:Kc P t u (.v (.int r n))=match P.underlying t,P.underlying u with | some _,some (.int k)=>some (.v (.int k (k.wrap n))) | _,_=>none:=by
 unfold Kc
 cases P.underlying t with
 |none=>rfl
 |some q=>cases P.underlying u with
  |none=>rfl
  |some d=>cases d<;>rfl
@[simp] theorem Aft {x:ByteArray}:Kc P t u (.v (.string x))=match P.underlying t,P.underlying u with | some _,some .string=>some (.v (.string x)) | _,_=>none:=by
 unfold Kc
 cases P.underlying t with
 |none=>rfl
 |some q=>cases P.underlying u with
  |none=>rfl
  |some d=>cases d<;>rfl
def fH (P:Program) (s:TypeId) (f:Nat):Option (TypeId × Nat):=match P.underlying s with
 |some (.struct fs)=>(fs[f]?).map fun fd=>(fd.type,fd.offset)
 |_=>none
@[simp] theorem Aao {cs:List A} {f:Nat}:QV P t (.agg cs) f=match fH P t f with | some (ft,off)=>PU P ft cs off | none=>none:=by
 unfold QV fH
 cases P.underlying t with
 |none=>rfl
 |some q=>
  cases q<;>first
   |rfl
   |(rename_i fs;simp only;cases fs[f]?<;>rfl)
@[simp] theorem Ahm {s e:Nat} {a:Option Addr} {c:Nat}:GI P H s e t (.v (.slice a 0 c))=match P.underlying t with | some (.slice _)=>some [] | _=>none:=by
 unfold GI
 cases P.underlying t with
 |none=>rfl
 |some q=>cases q<;>rfl
def MZ:Nat→List (Nat × A)→Bool
 |_,[]=>true
 |k,(i,_)::l=>i == k&&MZ (k+1) l
@[simp] theorem y8 {k:Nat}:MZ k []=true:=rfl
@[simp] theorem Vx {k i:Nat} {x:A} {l:List (Nat × A)}:MZ k ((i,x)::l)=(i == k&&MZ (k+1) l):=rfl
theorem N6:∀ (l:List (Nat × A)) (k:Nat),MZ k l=true→l.map (·.1)=List.range' k l.length
 |[],k,_=>rfl
 |(i,x)::l,k,h=>by
  simp only[Vx,Bool.and_eq_true,beq_iff_eq] at h
  simp only[List.map_cons,List.length_cons,List.range'_succ]
  rw[h.1,N6 l (k+1) h.2]
def Ac6 (len:Nat) (ps:List (Nat × A)):Option Nat→Option Value→Option A
 |some s,some z=>if MZ 0 ps=true∧ps.length=len∧len*s≤16777216∧(FX z).cells.length=s∧A.ones (FX z).cells=true∧(ps.all fun p=>p.2.cells.length == s&&A.ones p.2.cells&&p.2.cells.all A.bare1)=true then some (.sl true (ps.map (·.2))) else none
 |_,_=>none
@[simp] theorem kL {len s:Nat} {z:Value} {ps:List (Nat × A)}:Ac6 len ps (some s) (some z)=if MZ 0 ps=true∧ps.length=len∧len*s≤16777216∧(FX z).cells.length=s∧A.ones (FX z).cells=true∧(ps.all fun p=>p.2.cells.length == s&&A.ones p.2.cells&&p.2.cells.all A.bare1)=true then some (.sl true (ps.map (·.2))) else none:=rfl
theorem N0:∀ (l:List (Nat × A)) (k:Nat),l.map (·.1)=List.range' k l.length→MZ k l=true
 |[],k,_=>rfl
 |(i,x)::l,k,h=>by
  simp only[List.map_cons,List.length_cons,List.range'_succ,List.cons.injEq] at h
  simp only[Vx,Bool.and_eq_true,beq_iff_eq]
  exact⟨h.1,N0 l (k+1) h.2⟩
@[simp] theorem rP {len:Nat} {ps:List (Nat × A)}:Fq P t len ps=match P.underlying t with | some (.slice e)=>Ac6 len ps (CF P e) (Bi P e) | _=>none:=by
 unfold Fq
 cases P.underlying t with
 |none=>rfl
 |some q=>
  cases q<;>try rfl
  rename_i e
  simp only
  cases CF P e with
  |none=>rfl
  |some s=>
   cases Bi P e with
   |none=>rfl
   |some z=>
    have he:(ps.map (·.1)=List.range len) ↔ (MZ 0 ps=true∧ps.length=len):=by
     constructor
     ·intro h
      have hl:ps.length=len:=by have:=congrArg List.length h;simpa using this
      exact⟨N0 ps 0 (by rw[h,hl,List.range_eq_range']),hl⟩
     ·rintro⟨h1,h2⟩
      rw[N6 _ _ h1,h2,List.range_eq_range']
    simp only[kL,he,and_assoc]
def AeD (H:Hp) (d:Nm) (e:TypeId) (len:Nat) (ps:List (Nat × A)):Option Nat→Option Value→Option (A × Eff)
 |some s,some z=>if MZ 0 ps=true∧ps.length=len∧len*s≤16777216∧(FX z).cells.length=s∧A.ones (FX z).cells=true∧(ps.all fun p=>p.2.cells.length == s&&A.ones p.2.cells)=true∧CQ d e=true then some (.osl d ((H d).u+1) s 0 len,.one d ⟨(H d).u+1,.arr s (ps.map (·.2))⟩) else none
 |_,_=>none
@[simp] theorem kr {H:Hp} {d:Nm} {e:TypeId} {len s:Nat} {z:Value} {ps:List (Nat × A)}:AeD H d e len ps (some s) (some z)=if MZ 0 ps=true∧ps.length=len∧len*s≤16777216∧(FX z).cells.length=s∧A.ones (FX z).cells=true∧(ps.all fun p=>p.2.cells.length == s&&A.ones p.2.cells)=true∧CQ d e=true then some (.osl d ((H d).u+1) s 0 len,.one d ⟨(H d).u+1,.arr s (ps.map (·.2))⟩) else none:=rfl
@[simp] theorem o7 {H:Hp} {d:Nm} {len:Nat} {ps:List (Nat × A)}:Eh P H d t len ps=match P.underlying t with | some (.slice e)=>AeD H d e len ps (CF P e) (Bi P e) | _=>none:=by
 unfold Eh
 cases P.underlying t with
 |none=>rfl
 |some q=>
  cases q<;>try rfl
  rename_i e
  simp only
  cases CF P e with
  |none=>rfl
  |some s=>
   cases Bi P e with
   |none=>rfl
   |some z=>
    have he:(ps.map (·.1)=List.range len) ↔ (MZ 0 ps=true∧ps.length=len):=by
     constructor
     ·intro h
      have hl:ps.length=len:=by have:=congrArg List.length h;simpa using this
      exact⟨N0 ps 0 (by rw[h,hl,List.range_eq_range']),hl⟩
     ·rintro⟨h1,h2⟩
      rw[N6 _ _ h1,h2,List.range_eq_range']
    simp only[kr,he,and_assoc]
@[simp] theorem uE {cs:List A}:Ke P .eql t (.pim cs) (.v (.pointer none))=match P.underlying t with | some (.pointer _)=>some (.v (.bool false)) | _=>none:=by
 show(Mj P 100 t _ _).map _=_
 unfold Mj
 cases P.underlying t with
 |none=>rfl
 |some q=>cases q<;>rfl
@[simp] theorem uC {cs:List A}:Ke P .neq t (.pim cs) (.v (.pointer none))=match P.underlying t with | some (.pointer _)=>some (.v (.bool true)) | _=>none:=by
 show(Mj P 100 t _ _).map _=_
 unfold Mj
 cases P.underlying t with
 |none=>rfl
 |some q=>cases q<;>rfl
@[simp] theorem uw {o:Nm} {v p:Nat}:Ke P .eql t (.pob o v p) (.v (.pointer none))=match P.underlying t with | some (.pointer _)=>some (.v (.bool false)) | _=>none:=by
 show(Mj P 100 t _ _).map _=_
 unfold Mj
 cases P.underlying t with
 |none=>rfl
 |some q=>cases q<;>rfl
@[simp] theorem sO {o:Nm} {v p:Nat}:Ke P .neq t (.pob o v p) (.v (.pointer none))=match P.underlying t with | some (.pointer _)=>some (.v (.bool true)) | _=>none:=by
 show(Mj P 100 t _ _).map _=_
 unfold Mj
 cases P.underlying t with
 |none=>rfl
 |some q=>cases q<;>rfl
@[simp] theorem sL {o:Nm} {v p q':Nat}:Ke P .eql t (.pel o v p q') (.v (.pointer none))=match P.underlying t with | some (.pointer _)=>some (.v (.bool false)) | _=>none:=by
 show(Mj P 100 t _ _).map _=_
 unfold Mj
 cases P.underlying t with
 |none=>rfl
 |some q=>cases q<;>rfl
@[simp] theorem uu {o:Nm} {v p q':Nat}:Ke P .neq t (.pel o v p q') (.v (.pointer none))=match P.underlying t with | some (.pointer _)=>some (.v (.bool true)) | _=>none:=by
 show(Mj P 100 t _ _).map _=_
 unfold Mj
 cases P.underlying t with
 |none=>rfl
 |some q=>cases q<;>rfl
@[simp] theorem s7:Ke P .eql t (.v (.pointer none)) (.v (.pointer none))=match P.underlying t with | some (.pointer _)=>some (.v (.bool true)) | _=>none:=by
 show(Mj P 100 t _ _).map _=_
 unfold Mj
 cases P.underlying t with
 |none=>rfl
 |some q=>cases q<;>rfl
@[simp] theorem sQ:Ke P .neq t (.v (.pointer none)) (.v (.pointer none))=match P.underlying t with | some (.pointer _)=>some (.v (.bool false)) | _=>none:=by
 show(Mj P 100 t _ _).map _=_
 unfold Mj
 cases P.underlying t with
 |none=>rfl
 |some q=>cases q<;>rfl
@[simp] theorem rQ {a b:Bool}:Ke P .eql t (.v (.bool a)) (.v (.bool b))=match P.underlying t with | some .bool=>some (.v (.bool (a == b))) | _=>none:=by
 show(Mj P 100 t _ _).map _=_
 unfold Mj
 cases P.underlying t with
 |none=>rfl
 |some q=>cases q<;>rfl
@[simp] theorem rM {a b:Bool}:Ke P .neq t (.v (.bool a)) (.v (.bool b))=match P.underlying t with | some .bool=>some (.v (.bool (!(a == b)))) | _=>none:=by
 show(Mj P 100 t _ _).map _=_
 unfold Mj
 cases P.underlying t with
 |none=>rfl
 |some q=>cases q<;>rfl
end
def Gt {α:Type} (F:Option α) (K:α→Prop):Prop:=∃ x,F=some x∧K x
def G0 (q:Bool) (F:Option A) (K:A→Prop):Prop:=∃ x,(q=true→F=some x)∧K (gd q x)
def WL (q:Bool) (F:Prop):Prop:=q=true→F
def UU (b:Bool) (F G:Prop):Prop:=(b=true→F)∧(b=false→G)
@[congr] theorem AeJ {α:Type} {F F':Option α} {K:α→Prop} (h:F=F'):Gt F K=Gt F' K:=by rw[h]
@[congr] theorem Aa8 {q q':Bool} {F F':Option A} {K:A→Prop} (h1:q=q') (h2:F=F'):G0 q F K=G0 q' F' K:=by rw[h1,h2]
@[congr] theorem Aax {b b':Bool} {F G:Prop} (h:b=b'):UU b F G=UU b' F G:=by rw[h]
@[congr] theorem wL {P:Program} {K:Sta→Prop} {l:List CO} {lg lg':Lg} {st st':Sta} (h0:lg=lg') (h:st=st'):Ar P K l lg st=Ar P K l lg' st':=by rw[h0,h]
@[congr] theorem AaD {c:Cx} {x:CC} {Q:Exit→Sta→Prop} {st st':Sta} (h:st=st'):WPC c x Q st=WPC c x Q st':=by rw[h]
@[congr] theorem vF {c:Cx} {x:CC} {Q:Exit→Sta→Prop} {st st':Sta} (h:st=st'):LoopC c x Q st=LoopC c x Q st':=by rw[h]
@[congr] theorem vj {K:Sta→Prop} {Q:Exit→Sta→Prop} {e e':Exit} {st st':Sta} (h0:e=e') (h:st=st'):DB K Q e st=DB K Q e' st':=by rw[h0,h]
@[congr] theorem vB {c:Cx} {K:Sta→Prop} {st st':Sta} (h:st=st'):Us c K st=Us c K st':=by rw[h]
@[congr] theorem rY {i:Nat} {Q:Exit→Sta→Prop} {e e':Exit} {st st':Sta} (h0:e=e') (h:st=st'):Bu i Q e st=Bu i Q e' st':=by rw[h0,h]
@[congr] theorem Aa1 {Q:Exit→Sta→Prop} {e e':Exit} {st st':Sta} (h0:e=e') (h:st=st'):w4 Q e st=w4 Q e' st':=by rw[h0,h]
@[simp] theorem Af7 {α:Type} {x:α} {K:α→Prop}:Gt (some x) K=K x:=by simp[Gt]
@[simp] theorem AhN {α:Type} {C:Prop} [Decidable C] {F G:Option α} {K:α→Prop}:Gt (if C then F else G) K=((C→Gt F K)∧(¬C→Gt G K)):=by
 by_cases h:C<;>simp[h]
@[simp] theorem AfP {α:Type} {K:α→Prop}:Gt none K=False:=by simp[Gt]
@[simp high] theorem Agn {α:Type} {C:Prop} [Decidable C] {F:Option α} {K:α→Prop}:Gt (if C then F else none) K=(C∧Gt F K):=by
 by_cases h:C<;>simp[h]
@[simp] theorem AcG {q:Bool} {x:A} {K:A→Prop}:G0 q (some x) K=K (gd q x):=by
 apply propext
 constructor
 ·rintro⟨y,h1,h2⟩
  cases q
  ·exact h2
  ·cases h1 rfl;exact h2
 ·exact fun h=>⟨x,fun _=>rfl,h⟩
@[simp high] theorem Ad3 {q:Bool} {C:Prop} [Decidable C] {F:Option A} {K:A→Prop}:G0 q (if C then F else none) K=(WL q C∧G0 q F K):=by
 cases q
 ·simp[G0,WL]
 ·by_cases h:C<;>simp[h,G0,WL]
@[simp] theorem Abi {F:Option A} {K:A→Prop}:G0 true F K=Gt F K:=by simp[G0,Gt,gd]
@[simp] theorem AaW {F:Option A} {K:A→Prop}:G0 false F K=K (.v undef):=by simp[G0,gd]
@[simp] theorem Adf {F:Prop}:WL true F=F:=by simp[WL]
@[simp] theorem AaH {F:Prop}:WL false F=True:=by simp[WL]
@[simp] theorem vT {q:Bool}:WL q True=True:=by simp[WL]
@[simp] theorem xt {p:Prop} [Decidable p] {F:Prop}:WL (decide p) F=(p→F):=by simp[WL]
@[simp] theorem Acg {F G:Prop}:UU true F G=F:=by simp[UU]
@[simp] theorem zB {F G:Prop}:UU false F G=G:=by simp[UU]
@[simp] theorem yv {p:Prop} [Decidable p] {F G:Prop}:UU (decide p) F G=((p→F)∧(¬p→G)):=by simp[UU]
@[simp] theorem Ae6 {b:Bool} {F G:Prop}:UU (!b) F G=UU b G F:=by cases b<;>simp
@[simp] theorem Afi {a b:Bool} {F G:Prop}:UU (a&&b) F G=(((a&&b)=true→F)∧((a&&b)=false→G)):=rfl
@[simp] theorem Ah8 {a b:Bool} {F G:Prop}:UU (a || b) F G=(((a || b)=true→F)∧((a || b)=false→G)):=rfl
@[simp] theorem AbV {b:Bool} {F:Prop}:UU b F F=F:=by cases b<;>simp
@[simp] theorem AfF {x:A}:gd true x=x:=rfl
@[simp] theorem AdN {x:A}:gd false x = .v undef:=rfl
@[simp] theorem AhZ {q:Bool} {x y:A}:(bif q then gd q x else y)=bif q then x else y:=by cases q<;>rfl
def ng (b:Bool):Bool:=!b
@[simp] theorem AdT:ng true=false:=rfl
@[simp] theorem zK:ng false=true:=rfl
@[simp] theorem Ahh {b:Bool}:(ng b=true)=(b=false):=by cases b<;>simp[ng]
@[simp] theorem Aeb {b:Bool}:(ng b=false)=(b=true):=by cases b<;>simp[ng]
@[simp] theorem Aia {b:Bool}:ng (!b)=b:=by cases b<;>rfl
@[simp] theorem yw {q:Bool} {x y:A}:(bif q then x else gd (!q) y)=bif q then x else y:=by cases q<;>rfl
@[simp] theorem v9 {q c:Bool} {x y:A}:gd q (bif c then x else gd (q&&!c) y)=gd q (bif c then x else y):=by cases q<;>cases c<;>rfl
@[simp] theorem Ahw {b:Bool} {F:Prop}:WL (ng b) F=(b=false→F):=by cases b<;>simp[WL]
@[simp] theorem AfB {a b:Bool} {F:Prop}:WL (a&&b) F=WL a (WL b F):=by cases a<;>cases b<;>simp[WL]
@[simp] theorem AhT {a b:Bool} {F:Prop}:WL (a || b) F=(WL a F∧WL b F):=by cases a<;>cases b<;>simp[WL]
@[simp] theorem AfO {a:Bool} {F:Prop}:WL (!a) F=(a=false→F):=by cases a<;>simp[WL]
@[simp] theorem Aim {b:Bool} {F G:Prop}:UU (ng b) F G=UU b G F:=by cases b<;>simp[UU]
@[simp] theorem Ag2 {q:Bool} {x y:A}:(bif q then x else gd (ng q) y)=bif q then x else y:=by cases q<;>rfl
@[simp] theorem xA {b:Bool}:B3 (.v (.bool b)) true=some b:=by cases b<;>rfl
@[simp] theorem vY {b:Bool}:B3 (.v (.bool b)) false=some (ng b):=by cases b<;>rfl
@[simp] theorem vW {f:Bool}:B3 (.v undef) f=some false:=rfl
@[simp] theorem AdS {q b:Bool}:B3 (gd q (.v (.bool b))) true=some (q&&b):=by cases q<;>cases b<;>rfl
@[simp] theorem zy {q b:Bool}:B3 (gd q (.v (.bool b))) false=some (q&&ng b):=by cases q<;>cases b<;>rfl
@[simp] theorem AgR {q c:Bool} {x y:A}:gd q (bif c then gd (q&&c) x else y)=gd q (bif c then x else y):=by cases q<;>cases c<;>rfl
@[simp] theorem Afj {q c:Bool} {x y:A}:gd q (bif c then x else gd (q&&ng c) y)=gd q (bif c then x else y):=by cases q<;>cases c<;>rfl
@[simp] theorem AiT {q:Bool} {x:A}:gd q (gd q x)=gd q x:=by cases q<;>rfl
@[simp] theorem wh {b:Bool}:dI (.v (.bool b))=some b:=rfl
@[simp] theorem zu {b:Bool} {x y:A}:dN (.v (.bool b)) x y=some (bif b then x else y):=rfl
@[simp] theorem zm {α:Type} {b:Bool} {x:α}:(bif b then x else x)=x:=by cases b<;>rfl
section
variable {c:Cx} {Q:Exit→Sta→Prop} {st:Sta} {K:Sta→Prop}
@[simp] theorem AbG:WPC c .skip Q st=Q .normal st:=rfl
@[simp] theorem Ace {i:Nat}:WPC c (.exit i) Q st=Q (.exit i) st:=rfl
@[simp] theorem Af3:WPC c .ret Q st=Q .ret st:=rfl
def vw (Q:Exit→Sta→Prop) (live:List Nat) (st:Sta):Prop:=Q .normal (st.keep live)
@[simp] theorem AdI {live:List Nat}:vw Q live st=Q .normal (st.keep live):=rfl
@[simp] theorem Afr {ops:List CO} {live:List Nat}:WPC c (.reg ops live) Q st=Ar c.P (vw Q live) ops [] st:=rfl
@[simp] theorem AgL {x y:CC}:WPC c (.seq x y) Q st=WPC c x (DB (WPC c y Q) Q) st:=rfl
@[simp] theorem z0 {i:Nat} {x:CC}:WPC c (.block i x) Q st=WPC c x (Bu i Q) st:=rfl
@[simp] theorem Acq {x:CC}:WPC c (.loop x) Q st=LoopC c x Q st:=rfl
@[simp] theorem AaE {x:CC}:WPC c (.scope x) Q st=WPC c x (w4 Q) st:=rfl
@[simp] theorem xz:w4 Q .normal st=Q .normal st:=rfl
@[simp] theorem AcC {i:Nat}:w4 Q (.exit i) st=Q (.exit i) st:=rfl
@[simp] theorem Afn:w4 Q .ret st=Q .ret st:=rfl
@[simp] theorem Abr {x:CC}:WPC c (.stop x) Q st=Us c (WPC c x Q) st:=rfl
@[simp] theorem Aek {live:List Nat} {x:CC}:WPC c (.keep live x) Q st=WPC c x Q (st.keep live):=rfl
@[simp] theorem AcF {o:Operand} {x y:CC}:WPC c (.cond o x y) Q st=Gt (dI (evs st.s o)) fun b=>UU b (WPC c x Q st) (WPC c y Q st):=by
 apply propext
 constructor
 ·rintro⟨b,h1,h2,h3⟩;exact⟨b,by rw[h1];rfl,h2,h3⟩
 ·rintro⟨b,h1,h2,h3⟩;exact⟨b,We h1,h2,h3⟩
@[simp] theorem sK:DB K Q .normal st=K st:=rfl
@[simp] theorem xr {i:Nat}:DB K Q (.exit i) st=Q (.exit i) st:=rfl
@[simp] theorem Abe:DB K Q .ret st=Q .ret st:=rfl
theorem Ad {x x':CC} (hm:c.P.follows .mixedOrders=true) (he:x=x') (h:WPC c x' (DB (LoopC c x Q) Q) st):LoopC c x Q st:=by
 subst he
 exact aP hm h
@[simp] theorem Ajn {P:Program} {w0:World} {I0:Nat→Prop} {n:Nat}:(cx P w0 I0 n).P=P:=rfl
variable {P:Program} {rs:List ResultVar} {r:A}
@[simp] theorem v5:RY P rs r .normal st=Gt (Ms P st rs) fun r0=>Jd st.H r0 r:=rfl
@[simp] theorem Ac0:RY P rs r .ret st=Gt (Ms P st rs) fun r0=>Jd st.H r0 r:=rfl
@[simp] theorem wB {t:Nat}:Qj P st (.tmp t)=some (st.s t):=rfl
@[simp] theorem vK {t:TypeId} {a:Nat}:Qj P st (.cell a t)=Gh P st.H t (st.s a):=rfl
@[simp] theorem Ach {x:ResultVar}:Ms P st [x]=Qj P st x:=rfl
@[simp] theorem AcU {x y:ResultVar} {l:List ResultVar}:Ms P st (x::y::l)=(HZ P st (x::y::l)).map .tup:=rfl
@[simp] theorem AbW:Ms P st []=some (.tup []):=rfl
@[simp] theorem vI:HZ P st []=some []:=rfl
@[simp] theorem so {x:ResultVar} {l:List ResultVar}:HZ P st (x::l)=match Qj P st x,HZ P st l with | some x,some l=>some (x::l) | _,_=>none:=rfl
end
section
variable {P:Program} {H:Hp} {t u:TypeId} {q:Bool} {x y z:A} {K:A→Prop}
theorem D9 {F F':Option A} (h:q=true→F=F'):G0 q F K=G0 q F' K:=by
 cases q
 ·simp
 ·rw[h rfl]
@[simp] theorem Ad7 {op:BinOp}:G0 q (Ke P op t (gd q x) y) K=G0 q (Ke P op t x y) K:=D9 fun h=>by rw[h];rfl
@[simp] theorem AdF {op:BinOp}:G0 q (Ke P op t x (gd q y)) K=G0 q (Ke P op t x y) K:=D9 fun h=>by rw[h];rfl
@[simp] theorem Ahz {op:UnOp}:G0 q (tz op (gd q y)) K=G0 q (tz op y) K:=D9 fun h=>by rw[h];rfl
@[simp] theorem Acb:G0 q (Kc P t u (gd q y)) K=G0 q (Kc P t u y) K:=D9 fun h=>by rw[h];rfl
@[simp] theorem Ac1:G0 q (Gh P H t (gd q y)) K=G0 q (Gh P H t y) K:=D9 fun h=>by rw[h];rfl
@[simp] theorem rX {i:Nat}:G0 q (FG P t (gd q y) i) K=G0 q (FG P t y i) K:=D9 fun h=>by rw[h];rfl
@[simp] theorem pQ:G0 q (Bo P t (gd q x) y) K=G0 q (Bo P t x y) K:=D9 fun h=>by rw[h];rfl
@[simp] theorem pC:G0 q (Bo P t x (gd q y)) K=G0 q (Bo P t x y) K:=D9 fun h=>by rw[h];rfl
@[simp] theorem AgY:G0 q (Oo P t (gd q y)) K=G0 q (Oo P t y) K:=D9 fun h=>by rw[h];rfl
@[simp] theorem Agz:G0 q (dN (gd q z) x y) K=G0 q (dN z x y) K:=D9 fun h=>by rw[h];rfl
def GB (P:Program) (q:Bool) (t:TypeId) (acc l:List (Nat × A)) (K:A→Prop):Prop:=G0 q (Bt P t (acc++l)) K
@[congr] theorem Ab6 {q':Bool} {acc l l':List (Nat × A)} (h0:q=q') (h:l=l'):GB P q t acc l K=GB P q' t acc l' K:=by rw[h0,h]
@[simp] theorem AiB {acc:List (Nat × A)}:GB P q t acc [] K=G0 q (Bt P t acc) K:=by simp[GB]
theorem MI {acc l:List (Nat × A)} {i:Nat}:GB P q t acc ((i,x)::l) K=GB P q t (acc++[(i,x)]) l K:=by simp[GB]
@[simp] theorem AiZ {acc l:List (Nat × A)} {i:Nat}:GB P q t acc ((i,gd q x)::l) K=GB P q t (acc++[(i,x)]) l K:=by
 rw[← MI]
 exact D9 fun h=>by rw[h];rfl
@[simp] theorem Ajl {acc l:List (Nat × A)} {i:Nat} {a:Value}:GB P q t acc ((i,.v a)::l) K=GB P q t (acc++[(i,.v a)]) l K:=MI
@[simp] theorem Aje {acc l:List (Nat × A)} {i:Nat} {b:Bool} {xs:List A}:GB P q t acc ((i,.sl b xs)::l) K=GB P q t (acc++[(i,.sl b xs)]) l K:=MI
@[simp] theorem Air {acc l:List (Nat × A)} {i u z m n:Nat} {o:Nm}:GB P q t acc ((i,.osl o u z m n)::l) K=GB P q t (acc++[(i,.osl o u z m n)]) l K:=MI
@[simp] theorem AhB {acc l:List (Nat × A)} {i u m:Nat} {o:Nm}:GB P q t acc ((i,.pob o u m)::l) K=GB P q t (acc++[(i,.pob o u m)]) l K:=MI
@[simp] theorem AiC {acc l:List (Nat × A)} {i:Nat} {xs:List A}:GB P q t acc ((i,.pim xs)::l) K=GB P q t (acc++[(i,.pim xs)]) l K:=MI
@[simp] theorem Aih {acc l:List (Nat × A)} {i:Nat} {xs:List A}:GB P q t acc ((i,.agg xs)::l) K=GB P q t (acc++[(i,.agg xs)]) l K:=MI
@[simp] theorem vD {i:Nat}:G0 q (Im (gd q y) i) K=G0 q (Im y i) K:=D9 fun h=>by rw[h];rfl
end
section
variable {P:Program} {H:Hp} {t u:TypeId}
@[simp] theorem AdQ {op:BinOp} {q r:IntKind} {a b:Int}:Ke P op t (.v (.int q a)) (.v (.int r b))=Ef op q r a b:=rfl
@[simp] theorem Ab0 {op:BinOp} {a b:ByteArray}:Ke P op t (.v (.string a)) (.v (.string b))=ur op a b:=rfl
@[simp] theorem vV {xs ys:List A}:Ke P .eql t (.agg xs) (.agg ys)=if P.eqGuardType P.depth t=false then (Mj P 100 t (.agg xs) (.agg ys)).map fun b=>.v (.bool b) else none:=rfl
@[simp] theorem va {xs ys:List A}:Ke P .neq t (.agg xs) (.agg ys)=if P.eqGuardType P.depth t=false then (Mj P 100 t (.agg xs) (.agg ys)).map fun b=>.v (.bool (!b)) else none:=rfl
@[simp] theorem AcE {q r:IntKind} {a b:Int}:Ef .shl q r a b=if 0≤b then some (.v (.int q (q.wrap (a*2 ^ (min b.toNat q.bits))))) else none:=rfl
@[simp] theorem Adx {q r:IntKind} {a b:Int}:Ef .shr q r a b=if 0≤b then some (.v (.int q (a / 2 ^ (min b.toNat q.bits)))) else none:=rfl
@[simp] theorem Aed {q:IntKind} {a b:Int}:Ef .add q q a b=some (.v (.int q (q.wrap (a+b)))):=by simp[Ef]
@[simp] theorem AcN {q:IntKind} {a b:Int}:Ef .sub q q a b=some (.v (.int q (q.wrap (a-b)))):=by simp[Ef]
@[simp] theorem Ado {q:IntKind} {a b:Int}:Ef .mul q q a b=some (.v (.int q (q.wrap (a*b)))):=by simp[Ef]
@[simp] theorem AcP {q:IntKind} {a b:Int}:Ef .quo q q a b=if b=0 then none else some (.v (.int q (q.wrap (a.tdiv b)))):=by simp[Ef]
@[simp] theorem AcV {q:IntKind} {a b:Int}:Ef .rem q q a b=if b=0 then none else some (.v (.int q (a.tmod b))):=by simp[Ef]
@[simp] theorem Ack {q:IntKind} {a b:Int}:Ef .and q q a b=some (.v (.int q (bits .and q a b))):=by simp[Ef]
@[simp] theorem Afu {q:IntKind} {a b:Int}:Ef .or q q a b=some (.v (.int q (bits .or q a b))):=by simp[Ef]
@[simp] theorem AeC {q:IntKind} {a b:Int}:Ef .xor q q a b=some (.v (.int q (bits .xor q a b))):=by simp[Ef]
@[simp] theorem u6 {q:IntKind} {a b:Int}:Ef .andNot q q a b=some (.v (.int q (bits .andNot q a b))):=by simp[Ef]
@[simp] theorem Ad9 {q:IntKind} {a b:Int}:Ef .eql q q a b=some (.v (.bool (decide (a=b)))):=by simp[Ef];rfl
@[simp] theorem Aev {q:IntKind} {a b:Int}:Ef .neq q q a b=some (.v (.bool (!decide (a=b)))):=by simp[Ef];rfl
@[simp] theorem Abw {q:IntKind} {a b:Int}:Ef .lss q q a b=some (.v (.bool (decide (a<b)))):=by simp[Ef]
@[simp] theorem Adh {q:IntKind} {a b:Int}:Ef .leq q q a b=some (.v (.bool (decide (a≤b)))):=by simp[Ef]
@[simp] theorem Aeu {q:IntKind} {a b:Int}:Ef .gtr q q a b=some (.v (.bool (decide (b<a)))):=by simp[Ef]
@[simp] theorem Acu {q:IntKind} {a b:Int}:Ef .geq q q a b=some (.v (.bool (decide (b≤a)))):=by simp[Ef]
@[simp] theorem Agi {b:Bool}:tz .not (.v (.bool b))=some (.v (.bool (!b))):=rfl
@[simp] theorem Ae8 {q:IntKind} {n:Int}:tz .neg (.v (.int q n))=some (.v (.int q (q.wrap (0-n)))):=rfl
theorem lK {u:TypeId} {d:TypeDesc} {q r:IntKind} {n:Int} (h1:P.underlying t=some d) (h2:P.underlying u=some (.int q)):Kc P t u (.v (.int r n))=some (.v (.int q (q.wrap n))):=by unfold Kc;rw[h1,h2]
@[simp] theorem Acp {cs:List A}:Gh P H t (.pim cs)=match CZ P t,CF P t with | some g,some sz=>L5 g sz cs | _,_=>none:=rfl
@[simp] theorem AcK {sz:Nat} {cs:List A}:L5 true sz cs=if sz≤cs.length then some (.agg (cs.take sz)) else none:=rfl
@[simp] theorem Abc {sz:Nat} {cs:List A}:L5 false sz cs=cs[0]?:=rfl
@[simp] theorem xY {n:Nat}:HJ (.tmp n)=false:=rfl
@[simp] theorem wM {k:IntKind} {n:Int}:HJ (.const (.int k n))=false:=rfl
@[simp] theorem ve {n:Bool}:HJ (.const (.bool n))=false:=rfl
@[simp] theorem xk {n:ByteArray}:HJ (.const (.string n))=false:=rfl
@[simp] theorem yq {n:Option Addr}:HJ (.const (.pointer n))=false:=rfl
@[simp] theorem xZ {n:Array Value}:HJ (.const (.agg n))=false:=rfl
@[simp] theorem wP:HJ (.const .nilIface)=false:=rfl
@[simp] theorem wy:HJ (.const (.slice none 0 0))=true:=rfl
@[simp] theorem zJ {x:A}:MC P .eql t x=match P.underlying t with | some (.slice _)=>(bo x).map fun b=>.v (.bool b) | _=>none:=by
 unfold MC
 cases P.underlying t with
 |none=>rfl
 |some d=>cases d<;>rfl
@[simp] theorem zW {x:A}:MC P .neq t x=match P.underlying t with | some (.slice _)=>(bo x).map fun b=>.v (.bool (!b)) | _=>none:=by
 unfold MC
 cases P.underlying t with
 |none=>rfl
 |some d=>cases d<;>rfl
@[simp] theorem z8 {f:Bool} {x:A} {xs:List A}:bo (.sl f (x::xs))=some false:=rfl
@[simp] theorem Ait {a:Option Addr} {n c:Nat}:bo (.v (.slice a n c))=some a.isNone:=rfl
@[simp] theorem zp {len:Nat} {lo hi:Option A}:Fe len lo hi none=match GO hi len len with | some h=>(match GO lo 0 h with | some l=>some (l,h,none) | none=>none) | none=>none:=rfl
@[simp] theorem wk {d n:Nat}:GO none d n=some d:=rfl
@[simp] theorem zN {k:IntKind} {i:Int} {d n:Nat}:GO (some (.v (.int k i))) d n=if 0≤i∧i≤n then some i.toNat else none:=rfl
@[simp] theorem ym {f:Bool} {h n:Nat}:IP none f h n=(f&&h == n):=rfl
@[simp] theorem yQ {f:Bool} {h n m:Nat}:IP (some m) f h n=(m == h):=rfl
@[simp] theorem zQ {n:Nat} {cs:List A}:A.shift n (.pim cs)=some (.pim (cs.drop n)):=rfl
@[simp] theorem Aay {n u p:Nat} {o:Nm}:A.shift n (.pob o u p)=some (.pob o u (p+n)):=rfl
@[simp] theorem zG {n u p q:Nat} {o:Nm}:A.shift n (.pel o u p q)=some (.pel o u p (q+n)):=rfl
@[simp] theorem sF {a:A} {i:Nat}:FG P t a i=(Ak P t i).bind a.shift:=rfl
@[simp] theorem vO {xs:List A} {i:Nat}:Im (.tup xs) i=xs[i]?:=rfl
@[simp] theorem u9 {c:A} {cs news:List A} {n:Nat}:splice (c::cs) (n+1) news=c::splice cs n news:=by simp[splice,Nat.add_right_comm]
@[simp] theorem vM {cs news:List A}:splice cs 0 news=news++cs.drop news.length:=by simp[splice]
end
section
variable {P:Program} {s:Nat→A} {H:Hp}
@[simp] theorem AdK {d:Nat} {x:A} {H':Hp}:Sta.put ⟨s,H⟩ (some d) x H'=⟨upd s d x,H'⟩:=rfl
@[simp] theorem Ad1 {x:A} {H':Hp}:Sta.put ⟨s,H⟩ none x H'=⟨s,H'⟩:=rfl
@[simp] theorem AhX {d t:Nat} {x:A}:upd s d x t=if t=d then x else s t:=rfl
@[simp] theorem AhO {t:Nat}:lk [] t = .any:=rfl
@[simp] theorem AgC {d t:Nat} {x:A} {l:List (Nat × A)}:lk ((d,x)::l) t=if d=t then x else lk l t:=rfl
@[simp] theorem Afx {args:List A} {t:Nat}:QP args t=(args[t]?).getD .any:=rfl
@[simp] theorem AfN {t:Nat}:evs s (.tmp t)=s t:=rfl
@[simp] theorem Aag {x:Value}:evs s (.const x)=FX x:=rfl
@[simp] theorem AbL {g:FuncId}:evs s (.func g) = .fnc g [] []:=rfl
@[simp] theorem Ag1 {live:List Nat}:Sta.keep ⟨s,H⟩ live=⟨lk (live.map fun k=>(k,s k)),H⟩:=rfl
@[simp] theorem AgB {q:IntKind} {n:Int}:FX (.int q n) = .v (.int q n):=rfl
@[simp] theorem AbE {b:Bool}:FX (.bool b) = .v (.bool b):=rfl
@[simp] theorem wW {b:ByteArray}:FX (.string b) = .v (.string b):=rfl
@[simp] theorem vA {b:Option Addr}:FX (.pointer b) = .v (.pointer b):=rfl
@[simp] theorem AgM:FX (.slice none 0 0) = .sl true []:=rfl
@[simp] theorem Agu {cs:Array Value}:FX (.agg cs) = .agg (cs.toList.map Xx):=rfl
@[simp] theorem Abm {q:IntKind} {n:Int}:Xx (.int q n) = .v (.int q n):=rfl
@[simp] theorem zz {b:Bool}:Xx (.bool b) = .v (.bool b):=rfl
@[simp] theorem vN {b:ByteArray}:Xx (.string b) = .v (.string b):=rfl
@[simp] theorem s8 {b:Option Addr}:Xx (.pointer b) = .v (.pointer b):=rfl
@[simp] theorem Abp:Xx (.slice none 0 0) = .sl true []:=rfl
@[simp] theorem zx {cs:List A}:(A.agg cs).cells=cs:=rfl
@[simp] theorem Ae4 {x:Value}:(A.v x).cells=[.v x]:=rfl
@[simp] theorem AeH {b:Bool} {xs:List A}:(A.sl b xs).cells=[.sl b xs]:=rfl
@[simp] theorem Aat {o:Nm} {u z p q:Nat}:(A.osl o u z p q).cells=[.osl o u z p q]:=rfl
@[simp] theorem yZ {cs:List A}:(A.pim cs).cells=[.pim cs]:=rfl
@[simp] theorem Aaw {o:Nm} {u p:Nat}:(A.pob o u p).cells=[.pob o u p]:=rfl
@[simp] theorem Ab8:A.ones []=true:=rfl
@[simp] theorem AaZ {a:A} {l:List A}:A.ones (a::l)=(a.one&&A.ones l):=by simp[A.ones]
@[simp] theorem Ae0 {q:IntKind} {n:Int}:(A.v (.int q n)).one=true:=rfl
@[simp] theorem Adl {b:Bool}:(A.v (.bool b)).one=true:=rfl
@[simp] theorem yO {b:ByteArray}:(A.v (.string b)).one=true:=rfl
@[simp] theorem vv {b:Option Addr}:(A.v (.pointer b)).one=true:=rfl
@[simp] theorem Ah9 {b:Bool} {xs:List A}:(A.sl b xs).one=true:=rfl
@[simp] theorem Agc {o:Nm} {u z p q:Nat}:(A.osl o u z p q).one=true:=rfl
@[simp] theorem AfD {cs:List A}:(A.pim cs).one=true:=rfl
@[simp] theorem Ag0 {o:Nm} {u p:Nat}:(A.pob o u p).one=true:=rfl
@[simp] theorem Aa2 {cs:List A}:(A.pim cs).isPtr=true:=rfl
@[simp] theorem zA {o:Nm} {u p:Nat}:(A.pob o u p).isPtr=true:=rfl
@[simp] theorem Aar {o:Nm} {u p q:Nat}:(A.pel o u p q).isPtr=true:=rfl
@[simp] theorem AfI {x:Value}:(A.v x).isPtr=false:=rfl
@[simp] theorem AgW {x:Value}:(A.v x).bare1=true:=rfl
@[simp] theorem AbO {b:Bool} {xs:List A}:(A.sl b xs).bare1=true:=rfl
@[simp] theorem Aa6 {cs:List A}:(A.pim cs).bare1=true:=rfl
@[simp] theorem Aas:(A.any).bare1=true:=rfl
@[simp] theorem zf {o:Nm} {u z p q:Nat}:(A.osl o u z p q).bare1=false:=rfl
@[simp] theorem AaA {o:Nm} {u p:Nat}:(A.pob o u p).bare1=false:=rfl
@[simp] theorem AiA {x:Value}:(A.v x).bare=true:=rfl
@[simp] theorem AeR {b:Bool} {xs:List A}:(A.sl b xs).bare=true:=rfl
@[simp] theorem Aco {cs:List A}:(A.pim cs).bare=true:=rfl
@[simp] theorem Ade {o:Nm} {u z p q:Nat}:(A.osl o u z p q).bare=false:=rfl
@[simp] theorem Ab7 {o:Nm} {u p:Nat}:(A.pob o u p).bare=false:=rfl
@[simp] theorem Adv {cs:List A}:(A.agg cs).bare=cs.all A.bare2:=rfl
@[simp] theorem AgJ {x:Value}:(A.v x).bare2=true:=rfl
@[simp] theorem Adm {b:Bool} {xs:List A}:(A.sl b xs).bare2=true:=rfl
@[simp] theorem z6 {cs:List A}:(A.pim cs).bare2=true:=rfl
@[simp] theorem zD:(A.any).bare2=true:=rfl
@[simp] theorem Aef {g:FuncId} {fs cs:List A}:(A.fnc g fs cs).bare=(fs.all A.bare1&&cs.all A.bare1):=rfl
@[simp] theorem Aa7 {g:FuncId} {fs cs:List A}:(A.fnc g fs cs).bare2=(fs.all A.bare1&&cs.all A.bare1):=rfl
@[simp] theorem Aai {g:FuncId} {fs cs:List A}:(A.fnc g fs cs).cells=[.fnc g fs cs]:=rfl
@[simp] theorem Afh {g:FuncId} {fs cs:List A}:(A.fnc g fs cs).one=true:=rfl
@[simp] theorem Ahx {x:Value}:(A.v x).flat=true:=rfl
@[simp] theorem Adc {n:Nat}:Dq n []=true:=rfl
@[simp] theorem AaC {n:Nat} {x:A} {l:List A}:Dq n (x::l)=(x.cells.length == n&&Dq n l):=rfl
@[simp] theorem vX {n:Nat} {l l':List A}:Dq n (l++l')=(Dq n l&&Dq n l'):=by simp[Dq]
@[simp] theorem AaX {pl:Nat→Option (Nat × Nat)} {cs:List A}:BP pl cs []=some cs:=rfl
@[simp] theorem xi {pl:Nat→Option (Nat × Nat)} {cs:List A} {i:Nat} {x:A} {ps:List (Nat × A)}:BP pl cs ((i,x)::ps)=match pl i with
  |none=>none
  |some (off,size)=>if x.cells.length=size∧off+size≤cs.length∧A.ones x.cells=true then BP pl (splice cs off x.cells) ps else none:=rfl
def HM:List (Nm × VOb)→Hp
 |[],_=>⟨0,.none⟩
 |(k,x)::l,o=>if k=o then x else HM l o
def nV:List (Nm × VOb)→Nm→VOb→List (Nm × VOb)
 |[],d,x=>[(d,x)]
 |(k,y)::l,d,x=>if k=d then (k,x)::l else (k,y)::nV l d x
@[simp] theorem Ai4:H0=HM []:=rfl
@[simp] theorem td {o:Nm}:HM [] o=⟨0,.none⟩:=rfl
@[simp] theorem RS {k o:Nm} {x:VOb} {l:List (Nm × VOb)}:HM ((k,x)::l) o=if k=o then x else HM l o:=rfl
@[simp] theorem po {d:Nm} {x:VOb}:nV [] d x=[(d,x)]:=rfl
@[simp] theorem lP {k d:Nm} {x y:VOb} {l:List (Nm × VOb)}:nV ((k,y)::l) d x=if k=d then (k,x)::l else (k,y)::nV l d x:=rfl
@[simp] theorem Acs {l:List (Nm × VOb)} {d:Nm} {x:VOb}:Ay (HM l) d x=HM (nV l d x):=by
 funext o
 induction l with
 |nil=>
  simp only[Ay,po,RS,td]
  by_cases h:o=d
  ·subst h;simp
  ·simp[h,Ne.symm h]
 |cons p l ih=>
  obtain⟨k,y⟩:=p
  simp only[lP]
  by_cases hk:k=d
  ·subst hk
   simp only[if_pos,RS,Ay]
   by_cases h:o=k
   ·subst h;simp
   ·simp[h,Ne.symm h]
  ·rw[if_neg hk,RS,← ih]
   simp only[Ay,RS]
   by_cases h:o=d
   ·subst h;simp[hk]
   ·simp[h]
@[simp] theorem Ad2 {o:Nm} {u p:Nat}:refs (.pob o u p)=[(o,false)]:=rfl
@[simp] theorem AcX {o:Nm} {u p q:Nat}:refs (.pel o u p q)=[(o,false)]:=rfl
@[simp] theorem Acd {o:Nm} {u z p q:Nat}:refs (.osl o u z p q)=[(o,false)]:=rfl
@[simp] theorem Ah1 {x:Value}:refs (.v x)=[]:=rfl
@[simp] theorem Ags {f:Bool} {xs:List A}:refs (.sl f xs)=[]:=rfl
@[simp] theorem Abt {xs:List A}:refs (.pim xs)=[]:=rfl
@[simp] theorem AdU {xs:List A}:refs (.agg xs)=[]:=rfl
@[simp] theorem AeS {d o:Nm} {u z p q:Nat}:sk d (.osl o u z p q)=[(o,false)]:=rfl
@[simp] theorem AhS {d:Nm} {f:Bool} {xs:List A}:sk d (.sl f xs)=[(d,false)]:=rfl
@[simp] theorem AiV {R W R' W':Fp}:nc ⟨R,W⟩ ⟨R',W'⟩=(dR W (R'++W')&&dR W' (R++W)):=rfl
@[simp] theorem AfJ {l:Fp}:dR [] l=true:=rfl
@[simp] theorem Abx {p:Nm × Bool} {l m:Fp}:dR (p::l) m=((m.all fun q=>o6 p q)&&dR l m):=rfl
@[simp] theorem Ae9 {p q:Nm} {a b:Bool}:o6 (p,a) (q,b)=match a,b with
 |false,false=>p != q
 |true,false=>!p.isPrefixOf q
 |false,true=>!q.isPrefixOf p
 |true,true=>!p.isPrefixOf q&&!q.isPrefixOf p:=rfl
end
section
variable {P:Program} {K:Sta→Prop} {rest:List CO} {s:Nat→A} {H:Hp} {dd:Option Nat} {k:Nat} {f:Bool} {nm:Nm} {ix:Nat} {un:List Nat} {l:Bool} {lg:Lg}
@[simp] theorem Ag6 {st:Sta}:Ar P K [] lg st=K st:=rfl
@[simp] theorem xP {i:Nat} {g:Ft}:A9 false i g lg=lg:=rfl
@[simp] theorem zE {i:Nat} {g:Ft}:A9 true i g lg=(i,g)::lg:=rfl
@[simp] theorem Aio {g:Ft}:Ck [] lg g=True:=by simp[Ck]
@[simp] theorem Ae1 {g:Ft}:Ck un [] g=True:=by simp[Ck]
@[simp] theorem Agj {i:Nat} {g h:Ft}:Ck un ((i,g)::lg) h=((i ∈ un→nc g h=true)∧Ck un lg h):=by simp[Ck]
theorem OT:Ck un lg ⟨[],[]⟩:=fun p _ _=>by simp[nc,Jq,Lp]
def fg (q:Bool) (g:Ft):Ft:=⟨bif q then g.R else [],bif q then g.W else []⟩
@[simp] theorem AeY {g:Ft}:fg true g=g:=rfl
@[simp] theorem AcA {g:Ft}:fg false g=⟨[],[]⟩:=rfl
theorem DK {op:Op} {F:Option A} (hF:∀ x E R W,Zx P nm op (evs s) H x E R W ↔ Xt F x E R W) :
  Ar P K (⟨dd,op,none,nm,ix,un,l⟩::rest) lg ⟨s,H⟩=Gt F fun x=>Ar P K rest (A9 l ix ⟨[],[]⟩ lg) (Sta.put ⟨s,H⟩ dd x H):=by
 apply propext
 constructor
 ·rintro⟨x,E,⟨R,W⟩,h1,h2,h3⟩
  obtain⟨h4,rfl,h5,h6⟩:=(hF x E R W).1 h1
  subst h5 h6
  exact⟨x,h4,h3⟩
 ·rintro⟨x,h1,h2⟩
  exact⟨x,.nil,⟨[],[]⟩,(hF _ _ _ _).2 ⟨h1,rfl,rfl,rfl⟩,OT,h2⟩
theorem BZ {op:Op} {F:Option A} (hF:∀ x E R W,Zx P nm op (evs s) H x E R W ↔ Xt F x E R W) :
  Ar P K (⟨dd,op,some (k,f),nm,ix,un,l⟩::rest) lg ⟨s,H⟩=Gt (B3 (s k) f) fun q=>G0 q F fun x=>Ar P K rest (A9 l ix ⟨[],[]⟩ lg) (Sta.put ⟨s,H⟩ dd x H):=by
 apply propext
 constructor
 ·rintro⟨x,E,⟨R,W⟩,⟨q,x0,h1,h2,rfl,h4⟩,h5,h6⟩
  refine⟨q,h1,x0,fun hq=>((hF _ _ _ _).1 (h2 hq)).1,?_⟩
  have:E = .nil∧R=[]∧W=[]:=by
   cases hq:q with
   |true=>exact((hF _ _ _ _).1 (h2 hq)).2
   |false=>exact h4 hq
  obtain⟨rfl,h7,h8⟩:=this
  subst h7 h8
  exact h6
 ·rintro⟨q,h1,x0,h2,h3⟩
  exact⟨_,.nil,⟨[],[]⟩,⟨q,x0,h1,fun hq=>(hF _ _ _ _).2 ⟨h2 hq,rfl,rfl,rfl⟩,rfl,fun _=>⟨rfl,rfl,rfl⟩⟩,OT,h3⟩
theorem TB {op:Op} {F:Option (A × Eff)} {R W:Fp} (hF:∀ x E R' W',Zx P nm op (evs s) H x E R' W' ↔ F=some (x,E)∧R'=R∧W'=W) :
  Ar P K (⟨dd,op,none,nm,ix,un,l⟩::rest) lg ⟨s,H⟩=Gt F fun p=>Ck un lg ⟨R,W⟩∧Ar P K rest (A9 l ix ⟨R,W⟩ lg) (Sta.put ⟨s,H⟩ dd p.1 (p.2.app H)):=by
 apply propext
 constructor
 ·rintro⟨x,E,⟨R',W'⟩,h1,h2,h3⟩
  obtain⟨h4,h5,h6⟩:=(hF x E R' W').1 h1
  subst h5 h6
  exact⟨(x,E),h4,h2,h3⟩
 ·rintro⟨⟨x,E⟩,h1,h2,h3⟩
  exact⟨x,E,⟨R,W⟩,(hF _ _ _ _).2 ⟨h1,rfl,rfl⟩,h2,h3⟩
theorem Az {op:Op}:Ar P K (⟨dd,op,some (k,f),nm,ix,un,l⟩::rest) lg ⟨s,H⟩=Gt (B3 (s k) f) fun q=>UU q (Ar P K (⟨dd,op,none,nm,ix,un,l⟩::rest) lg ⟨s,H⟩) (Ar P K rest (A9 l ix ⟨[],[]⟩ lg) (Sta.put ⟨s,H⟩ dd (.v undef) H)):=by
 apply propext
 constructor
 ·rintro⟨x,E,⟨R,W⟩,⟨q,x0,h1,h2,rfl,h4⟩,h5,h6⟩
  refine⟨q,h1,fun hq=>⟨x0,E,⟨R,W⟩,h2 hq,h5,?_⟩,fun hq=>?_⟩
  ·subst hq;exact h6
  ·subst hq
   obtain⟨rfl,h7,h8⟩:=h4 rfl
   subst h7 h8
   exact h6
 ·rintro⟨q,h1,h2,h3⟩
  cases q with
  |true=>
   obtain⟨x,E,g,h4,h5,h6⟩:=h2 rfl
   exact⟨x,E,g,⟨true,x,h1,fun _=>h4,rfl,(fun h=>nomatch h)⟩,h5,h6⟩
  |false=>exact⟨_,.nil,⟨[],[]⟩,⟨false,.any,h1,(fun h=>nomatch h),rfl,fun _=>⟨rfl,rfl,rfl⟩⟩,OT,h3 rfl⟩
section
variable {a b:Operand} {t:TypeId}
@[simp] theorem Af5:Ar P K (⟨dd,.move a,none,nm,ix,un,l⟩::rest) lg ⟨s,H⟩=Ar P K rest (A9 l ix ⟨[],[]⟩ lg) (Sta.put ⟨s,H⟩ dd (evs s a) H):=by
 rw[DK (F:=some (evs s a)) (fun _ _ _ _=>Iff.rfl)];simp
@[simp] theorem Aa4:Ar P K (⟨dd,.assign a,none,nm,ix,un,l⟩::rest) lg ⟨s,H⟩=Ar P K rest (A9 l ix ⟨[],[]⟩ lg) (Sta.put ⟨s,H⟩ dd (evs s a) H):=by
 rw[DK (F:=some (evs s a)) (fun _ _ _ _=>Iff.rfl)];simp
@[simp] theorem y9:Ar P K (⟨dd,.move a,some (k,f),nm,ix,un,l⟩::rest) lg ⟨s,H⟩=Gt (B3 (s k) f) fun q=>Ar P K rest (A9 l ix ⟨[],[]⟩ lg) (Sta.put ⟨s,H⟩ dd (gd q (evs s a)) H):=by
 rw[BZ (F:=some (evs s a)) (fun _ _ _ _=>Iff.rfl)];simp
@[simp] theorem Aiv {op:BinOp} {u:TypeId}:Ar P K (⟨dd,.binOp op t a b u,none,nm,ix,un,l⟩::rest) lg ⟨s,H⟩=Gt (if HJ b=true then MC P op t (evs s a) else Ke P op t (evs s a) (evs s b)) fun x=>Ar P K rest (A9 l ix ⟨[],[]⟩ lg) (Sta.put ⟨s,H⟩ dd x H):=DK fun _ _ _ _=>Iff.rfl
@[simp] theorem Aeh {op:BinOp} {u:TypeId}:Ar P K (⟨dd,.binOp op t a b u,some (k,f),nm,ix,un,l⟩::rest) lg ⟨s,H⟩=Gt (B3 (s k) f) fun q=>G0 q (if HJ b=true then MC P op t (evs s a) else Ke P op t (evs s a) (evs s b)) fun x=>Ar P K rest (A9 l ix ⟨[],[]⟩ lg) (Sta.put ⟨s,H⟩ dd x H):=BZ fun _ _ _ _=>Iff.rfl
@[simp] theorem AiQ {op:UnOp}:Ar P K (⟨dd,.unOp op t a,none,nm,ix,un,l⟩::rest) lg ⟨s,H⟩=Gt (tz op (evs s a)) fun x=>Ar P K rest (A9 l ix ⟨[],[]⟩ lg) (Sta.put ⟨s,H⟩ dd x H):=DK fun _ _ _ _=>Iff.rfl
@[simp] theorem AfZ {op:UnOp}:Ar P K (⟨dd,.unOp op t a,some (k,f),nm,ix,un,l⟩::rest) lg ⟨s,H⟩=Gt (B3 (s k) f) fun q=>G0 q (tz op (evs s a)) fun x=>Ar P K rest (A9 l ix ⟨[],[]⟩ lg) (Sta.put ⟨s,H⟩ dd x H):=BZ fun _ _ _ _=>Iff.rfl
@[simp] theorem Age {u:TypeId}:Ar P K (⟨dd,.convert t u a,none,nm,ix,un,l⟩::rest) lg ⟨s,H⟩=Gt (Kc P t u (evs s a)) fun x=>Ar P K rest (A9 l ix ⟨[],[]⟩ lg) (Sta.put ⟨s,H⟩ dd x H):=DK fun _ _ _ _=>Iff.rfl
@[simp] theorem zP {u:TypeId}:Ar P K (⟨dd,.convert t u a,some (k,f),nm,ix,un,l⟩::rest) lg ⟨s,H⟩=Gt (B3 (s k) f) fun q=>G0 q (Kc P t u (evs s a)) fun x=>Ar P K rest (A9 l ix ⟨[],[]⟩ lg) (Sta.put ⟨s,H⟩ dd x H):=BZ fun _ _ _ _=>Iff.rfl
@[simp] theorem uz {i:Nat}:Ar P K (⟨dd,.fieldAddr t a i,none,nm,ix,un,l⟩::rest) lg ⟨s,H⟩=Gt (FG P t (evs s a) i) fun x=>Ar P K rest (A9 l ix ⟨[],[]⟩ lg) (Sta.put ⟨s,H⟩ dd x H):=DK fun _ _ _ _=>Iff.rfl
@[simp] theorem oM {i:Nat}:Ar P K (⟨dd,.fieldAddr t a i,some (k,f),nm,ix,un,l⟩::rest) lg ⟨s,H⟩=Gt (B3 (s k) f) fun q=>G0 q (FG P t (evs s a) i) fun x=>Ar P K rest (A9 l ix ⟨[],[]⟩ lg) (Sta.put ⟨s,H⟩ dd x H):=BZ fun _ _ _ _=>Iff.rfl
@[simp] theorem Acl {i:Nat}:Ar P K (⟨dd,.field t a i,none,nm,ix,un,l⟩::rest) lg ⟨s,H⟩=Gt (QV P t (evs s a) i) fun x=>Ar P K rest (A9 l ix ⟨[],[]⟩ lg) (Sta.put ⟨s,H⟩ dd x H):=DK fun _ _ _ _=>Iff.rfl
@[simp] theorem wQ {i:Nat}:Ar P K (⟨dd,.field t a i,some (k,f),nm,ix,un,l⟩::rest) lg ⟨s,H⟩=Gt (B3 (s k) f) fun q=>G0 q (QV P t (evs s a) i) fun x=>Ar P K rest (A9 l ix ⟨[],[]⟩ lg) (Sta.put ⟨s,H⟩ dd x H):=BZ fun _ _ _ _=>Iff.rfl
@[simp] theorem tE  : Ar P K (⟨dd,.indexAddr t a b,none,nm,ix,un,l⟩::rest) lg ⟨s,H⟩=Gt (Bo P t (evs s a) (evs s b)) fun x=>Ar P K rest (A9 l ix ⟨[],[]⟩ lg) (Sta.put ⟨s,H⟩ dd x H):=DK fun _ _ _ _=>Iff.rfl
@[simp] theorem qK  : Ar P K (⟨dd,.indexAddr t a b,some (k,f),nm,ix,un,l⟩::rest) lg ⟨s,H⟩=Gt (B3 (s k) f) fun q=>G0 q (Bo P t (evs s a) (evs s b)) fun x=>Ar P K rest (A9 l ix ⟨[],[]⟩ lg) (Sta.put ⟨s,H⟩ dd x H):=BZ fun _ _ _ _=>Iff.rfl
@[simp] theorem Aeq  : Ar P K (⟨dd,.index t a b,none,nm,ix,un,l⟩::rest) lg ⟨s,H⟩=Gt (Mn P t (evs s a) (evs s b)) fun x=>Ar P K rest (A9 l ix ⟨[],[]⟩ lg) (Sta.put ⟨s,H⟩ dd x H):=DK fun _ _ _ _=>Iff.rfl
@[simp] theorem xo  : Ar P K (⟨dd,.index t a b,some (k,f),nm,ix,un,l⟩::rest) lg ⟨s,H⟩=Gt (B3 (s k) f) fun q=>G0 q (Mn P t (evs s a) (evs s b)) fun x=>Ar P K rest (A9 l ix ⟨[],[]⟩ lg) (Sta.put ⟨s,H⟩ dd x H):=BZ fun _ _ _ _=>Iff.rfl
@[simp] theorem yo {i:Nat}:Ar P K (⟨dd,.extract a i,none,nm,ix,un,l⟩::rest) lg ⟨s,H⟩=Gt (Im (evs s a) i) fun x=>Ar P K rest (A9 l ix ⟨[],[]⟩ lg) (Sta.put ⟨s,H⟩ dd x H):=DK fun _ _ _ _=>Iff.rfl
@[simp] theorem tJ {i:Nat}:Ar P K (⟨dd,.extract a i,some (k,f),nm,ix,un,l⟩::rest) lg ⟨s,H⟩=Gt (B3 (s k) f) fun q=>G0 q (Im (evs s a) i) fun x=>Ar P K rest (A9 l ix ⟨[],[]⟩ lg) (Sta.put ⟨s,H⟩ dd x H):=BZ fun _ _ _ _=>Iff.rfl
@[simp] theorem Acv {ps:Array (Nat × Operand)}:Ar P K (⟨dd,.build t ps,none,nm,ix,un,l⟩::rest) lg ⟨s,H⟩=Gt (Bt P t (ps.toList.map fun p=>(p.1,evs s p.2))) fun x=>Ar P K rest (A9 l ix ⟨[],[]⟩ lg) (Sta.put ⟨s,H⟩ dd x H):=DK fun _ _ _ _=>Iff.rfl
@[simp] theorem yE {ps:Array (Nat × Operand)}:Ar P K (⟨dd,.build t ps,some (k,f),nm,ix,un,l⟩::rest) lg ⟨s,H⟩=Gt (B3 (s k) f) fun q=>GB P q t [] (ps.toList.map fun p=>(p.1,evs s p.2)) fun x=>Ar P K rest (A9 l ix ⟨[],[]⟩ lg) (Sta.put ⟨s,H⟩ dd x H):=BZ fun _ _ _ _=>Iff.rfl
@[simp] theorem rU {n:Nat} {ps:Array (Nat × Operand)}:Ar P K (⟨dd,.buildSlice t n ps,none,[],ix,un,l⟩::rest) lg ⟨s,H⟩=Gt (Fq P t n (ps.toList.map fun p=>(p.1,evs s p.2))) fun x=>Ar P K rest (A9 l ix ⟨[],[]⟩ lg) (Sta.put ⟨s,H⟩ dd x H):=DK fun _ _ _ _=>Iff.rfl
@[simp] theorem m5 {n:Nat} {ps:Array (Nat × Operand)}:Ar P K (⟨dd,.buildSlice t n ps,some (k,f),[],ix,un,l⟩::rest) lg ⟨s,H⟩=Gt (B3 (s k) f) fun q=>G0 q (Fq P t n (ps.toList.map fun p=>(p.1,evs s p.2))) fun x=>Ar P K rest (A9 l ix ⟨[],[]⟩ lg) (Sta.put ⟨s,H⟩ dd x H):=BZ fun _ _ _ _=>Iff.rfl
@[simp] theorem Aby {lo hi mx:Option Operand}:Ar P K (⟨dd,.slice t a lo hi mx,none,nm,ix,un,l⟩::rest) lg ⟨s,H⟩=Gt (HI P t (evs s a) (lo.map (evs s)) (hi.map (evs s)) (mx.map (evs s))) fun x=>Ar P K rest (A9 l ix ⟨[],[]⟩ lg) (Sta.put ⟨s,H⟩ dd x H):=DK fun _ _ _ _=>Iff.rfl
@[simp] theorem yB {lo hi mx:Option Operand}:Ar P K (⟨dd,.slice t a lo hi mx,some (k,f),nm,ix,un,l⟩::rest) lg ⟨s,H⟩=Gt (B3 (s k) f) fun q=>G0 q (HI P t (evs s a) (lo.map (evs s)) (hi.map (evs s)) (mx.map (evs s))) fun x=>Ar P K rest (A9 l ix ⟨[],[]⟩ lg) (Sta.put ⟨s,H⟩ dd x H):=BZ fun _ _ _ _=>Iff.rfl
@[simp] theorem vy  : Ar P K (⟨dd,.nilCheck a,none,nm,ix,un,l⟩::rest) lg ⟨s,H⟩=Gt (rv (evs s a)) fun x=>Ar P K rest (A9 l ix ⟨[],[]⟩ lg) (Sta.put ⟨s,H⟩ dd x H):=DK fun _ _ _ _=>Iff.rfl
@[simp] theorem rO  : Ar P K (⟨dd,.nilCheck a,some (k,f),nm,ix,un,l⟩::rest) lg ⟨s,H⟩=Gt (B3 (s k) f) fun q=>G0 q (rv (evs s a)) fun x=>Ar P K rest (A9 l ix ⟨[],[]⟩ lg) (Sta.put ⟨s,H⟩ dd x H):=BZ fun _ _ _ _=>Iff.rfl
@[simp] theorem Afs {c:Operand}:Ar P K (⟨dd,.pick c a b,none,nm,ix,un,l⟩::rest) lg ⟨s,H⟩=Gt (dN (evs s c) (evs s a) (evs s b)) fun x=>Ar P K rest (A9 l ix ⟨[],[]⟩ lg) (Sta.put ⟨s,H⟩ dd x H):=DK fun _ _ _ _=>Iff.rfl
@[simp] theorem z9 {c:Operand}:Ar P K (⟨dd,.pick c a b,some (k,f),nm,ix,un,l⟩::rest) lg ⟨s,H⟩=Gt (B3 (s k) f) fun q=>G0 q (dN (evs s c) (evs s a) (evs s b)) fun x=>Ar P K rest (A9 l ix ⟨[],[]⟩ lg) (Sta.put ⟨s,H⟩ dd x H):=BZ fun _ _ _ _=>Iff.rfl
@[simp] theorem vP {g:FuncId} {fs cs:Array Operand}:Ar P K (⟨dd,.makeFunc (.func g) fs cs,none,nm,ix,un,l⟩::rest) lg ⟨s,H⟩=Gt (some (A.fnc g (fs.toList.map (evs s)) (cs.toList.map (evs s)))) fun x=>Ar P K rest (A9 l ix ⟨[],[]⟩ lg) (Sta.put ⟨s,H⟩ dd x H):=DK fun _ _ _ _=>Iff.rfl
@[simp] theorem rJ {g:FuncId} {fs cs:Array Operand}:Ar P K (⟨dd,.makeFunc (.func g) fs cs,some (k,f),nm,ix,un,l⟩::rest) lg ⟨s,H⟩=Gt (B3 (s k) f) fun q=>G0 q (some (A.fnc g (fs.toList.map (evs s)) (cs.toList.map (evs s)))) fun x=>Ar P K rest (A9 l ix ⟨[],[]⟩ lg) (Sta.put ⟨s,H⟩ dd x H):=BZ fun _ _ _ _=>Iff.rfl
@[simp] theorem lI  : Ar P K (⟨dd,.makeInterface t a,none,nm,ix,un,l⟩::rest) lg ⟨s,H⟩=Gt (a8 P t (evs s a)) fun x=>Ar P K rest (A9 l ix ⟨[],[]⟩ lg) (Sta.put ⟨s,H⟩ dd x H):=DK fun _ _ _ _=>Iff.rfl
@[simp] theorem fT  : Ar P K (⟨dd,.makeInterface t a,some (k,f),nm,ix,un,l⟩::rest) lg ⟨s,H⟩=Gt (B3 (s k) f) fun q=>G0 q (a8 P t (evs s a)) fun x=>Ar P K rest (A9 l ix ⟨[],[]⟩ lg) (Sta.put ⟨s,H⟩ dd x H):=BZ fun _ _ _ _=>Iff.rfl
@[simp] theorem rL {u:TypeId} {ok:Bool}:Ar P K (⟨dd,.typeAssert a t u ok,none,nm,ix,un,l⟩::rest) lg ⟨s,H⟩=Gt (Mp P u ok (evs s a)) fun x=>Ar P K rest (A9 l ix ⟨[],[]⟩ lg) (Sta.put ⟨s,H⟩ dd x H):=DK fun _ _ _ _=>Iff.rfl
@[simp] theorem mX {u:TypeId} {ok:Bool}:Ar P K (⟨dd,.typeAssert a t u ok,some (k,f),nm,ix,un,l⟩::rest) lg ⟨s,H⟩=Gt (B3 (s k) f) fun q=>G0 q (Mp P u ok (evs s a)) fun x=>Ar P K rest (A9 l ix ⟨[],[]⟩ lg) (Sta.put ⟨s,H⟩ dd x H):=BZ fun _ _ _ _=>Iff.rfl
@[simp] theorem AhQ {as':Array Operand} {ts:Array TypeId}:Ar P K (⟨dd,.call { callee:=.builtin .min,args:=as',argTypes:=ts },none,nm,ix,un,l⟩::rest) lg ⟨s,H⟩=Gt (EW false (as'.toList.map (evs s))) fun x=>Ar P K rest (A9 l ix ⟨[],[]⟩ lg) (Sta.put ⟨s,H⟩ dd x H):=DK fun _ _ _ _=>Iff.rfl
@[simp] theorem Ab5 {as':Array Operand} {ts:Array TypeId}:Ar P K (⟨dd,.call { callee:=.builtin .min,args:=as',argTypes:=ts },some (k,f),nm,ix,un,l⟩::rest) lg ⟨s,H⟩=Gt (B3 (s k) f) fun q=>G0 q (EW false (as'.toList.map (evs s))) fun x=>Ar P K rest (A9 l ix ⟨[],[]⟩ lg) (Sta.put ⟨s,H⟩ dd x H):=BZ fun _ _ _ _=>Iff.rfl
@[simp] theorem Aiy {as':Array Operand} {ts:Array TypeId}:Ar P K (⟨dd,.call { callee:=.builtin .max,args:=as',argTypes:=ts },none,nm,ix,un,l⟩::rest) lg ⟨s,H⟩=Gt (EW true (as'.toList.map (evs s))) fun x=>Ar P K rest (A9 l ix ⟨[],[]⟩ lg) (Sta.put ⟨s,H⟩ dd x H):=DK fun _ _ _ _=>Iff.rfl
@[simp] theorem Abn {as':Array Operand} {ts:Array TypeId}:Ar P K (⟨dd,.call { callee:=.builtin .max,args:=as',argTypes:=ts },some (k,f),nm,ix,un,l⟩::rest) lg ⟨s,H⟩=Gt (B3 (s k) f) fun q=>G0 q (EW true (as'.toList.map (evs s))) fun x=>Ar P K rest (A9 l ix ⟨[],[]⟩ lg) (Sta.put ⟨s,H⟩ dd x H):=BZ fun _ _ _ _=>Iff.rfl
@[simp] theorem Aii:Ar P K (⟨dd,.call { callee:=.builtin .len,args:=#[a],argTypes:=#[t] },none,nm,ix,un,l⟩::rest) lg ⟨s,H⟩=Gt (Oo P t (evs s a)) fun x=>Ar P K rest (A9 l ix ⟨[],[]⟩ lg) (Sta.put ⟨s,H⟩ dd x H):=DK fun x E R W=>by
  constructor
  ·rintro⟨a',t',h1,h2,h3⟩;cases h1;cases h2;exact h3
  ·intro h;exact⟨a,t,rfl,rfl,h⟩
@[simp] theorem AdL:Ar P K (⟨dd,.call { callee:=.builtin .len,args:=#[a],argTypes:=#[t] },some (k,f),nm,ix,un,l⟩::rest) lg ⟨s,H⟩=Gt (B3 (s k) f) fun q=>G0 q (Oo P t (evs s a)) fun x=>Ar P K rest (A9 l ix ⟨[],[]⟩ lg) (Sta.put ⟨s,H⟩ dd x H):=BZ fun x E R W=>by
  constructor
  ·rintro⟨a',t',h1,h2,h3⟩;cases h1;cases h2;exact h3
  ·intro h;exact⟨a,t,rfl,rfl,h⟩
@[simp] theorem Af6:Ar P K (⟨dd,.load t a,none,nm,ix,un,l⟩::rest) lg ⟨s,H⟩=Gt (Gh P H t (evs s a)) fun x=>Ck un lg ⟨refs (evs s a),[]⟩∧Ar P K rest (A9 l ix ⟨refs (evs s a),[]⟩ lg) (Sta.put ⟨s,H⟩ dd x H):=by
 apply propext
 constructor
 ·rintro⟨x,E,⟨R,W⟩,⟨h1,rfl,h2,h3⟩,h4,h5⟩
  simp only at h2 h3
  subst h2 h3
  exact⟨x,h1,h4,h5⟩
 ·rintro⟨x,h1,h4,h5⟩
  exact⟨x,.nil,⟨_,_⟩,⟨h1,rfl,rfl,rfl⟩,h4,h5⟩
@[simp] theorem Aa3:Ar P K (⟨dd,.load t a,some (k,f),nm,ix,un,l⟩::rest) lg ⟨s,H⟩=Gt (B3 (s k) f) fun q=>G0 q (Gh P H t (evs s a)) fun x=>Ck un lg (fg q ⟨refs (evs s a),[]⟩)∧Ar P K rest (A9 l ix (fg q ⟨refs (evs s a),[]⟩) lg) (Sta.put ⟨s,H⟩ dd x H):=by
 apply propext
 constructor
 ·rintro⟨x,E,⟨R,W⟩,⟨q,x0,h1,h2,rfl,h4⟩,h5,h6⟩
  refine⟨q,h1,x0,fun hq=>(h2 hq).1,?_⟩
  have:E = .nil∧(⟨R,W⟩:Ft)=fg q ⟨refs (evs s a),[]⟩:=by
   cases hq:q with
   |true=>
    obtain⟨_,e1,e2,e3⟩:=h2 hq
    simp only at e2 e3
    exact⟨e1,by rw[e2,e3];rfl⟩
   |false=>
    obtain⟨e1,e2,e3⟩:=h4 hq
    simp only at e2 e3
    exact⟨e1,by rw[e2,e3];rfl⟩
  obtain⟨rfl,e⟩:=this
  rw[e] at h5 h6
  exact⟨h5,h6⟩
 ·rintro⟨q,h1,x0,h2,h5,h6⟩
  refine⟨_,.nil,fg q ⟨refs (evs s a),[]⟩,⟨q,x0,h1,fun hq=>⟨h2 hq,rfl,?_,?_⟩,rfl,fun hq=>⟨rfl,?_,?_⟩⟩,h5,h6⟩<;>subst hq<;>rfl
@[simp] theorem Ac8:Ar P K (⟨dd,.alloc t,none,nm,ix,un,l⟩::rest) lg ⟨s,H⟩=Gt (QG P H nm t) fun p=>Ck un lg ⟨[],[(nm,false)]⟩∧Ar P K rest (A9 l ix ⟨[],[(nm,false)]⟩ lg) (Sta.put ⟨s,H⟩ dd p.1 (p.2.app H)):=TB fun _ _ _ _=>Iff.rfl
@[simp] theorem Ail:Ar P K (⟨dd,.box t a,none,nm,ix,un,l⟩::rest) lg ⟨s,H⟩=Gt (eT H nm t (evs s a)) fun p=>Ck un lg ⟨[],[(nm,false)]⟩∧Ar P K rest (A9 l ix ⟨[],[(nm,false)]⟩ lg) (Sta.put ⟨s,H⟩ dd p.1 (p.2.app H)):=TB fun _ _ _ _=>Iff.rfl
@[simp] theorem nZ {n a':Nat} {d':Nm} {ps:Array (Nat × Operand)}:Ar P K (⟨dd,.buildSlice t n ps,none,a'::d',ix,un,l⟩::rest) lg ⟨s,H⟩=Gt (Eh P H (a'::d') t n (ps.toList.map fun p=>(p.1,evs s p.2))) fun p=>Ck un lg ⟨[],[(a'::d',false)]⟩∧Ar P K rest (A9 l ix ⟨[],[(a'::d',false)]⟩ lg) (Sta.put ⟨s,H⟩ dd p.1 (p.2.app H)):=TB fun _ _ _ _=>Iff.rfl
@[simp] theorem uY:Ar P K (⟨dd,.makeSlice t a b,none,nm,ix,un,l⟩::rest) lg ⟨s,H⟩=Gt (FA P H nm t (evs s a) (evs s b)) fun p=>Ck un lg ⟨[],[(nm,false)]⟩∧Ar P K rest (A9 l ix ⟨[],[(nm,false)]⟩ lg) (Sta.put ⟨s,H⟩ dd p.1 (p.2.app H)):=TB fun _ _ _ _=>Iff.rfl
@[simp] theorem AcD:Ar P K (⟨dd,.store t a b,none,nm,ix,un,l⟩::rest) lg ⟨s,H⟩=Gt (HG P H t (evs s a) (evs s b)) fun E=>Ck un lg ⟨[],refs (evs s a)⟩∧Ar P K rest (A9 l ix ⟨[],refs (evs s a)⟩ lg) (Sta.put ⟨s,H⟩ dd .any (E.app H)):=by
 apply propext
 constructor
 ·rintro⟨x,E,⟨R,W⟩,⟨h1,rfl,h2,h3⟩,h4,h5⟩
  simp only at h2 h3
  subst h2 h3
  exact⟨E,h1,h4,h5⟩
 ·rintro⟨E,h1,h4,h5⟩
  exact⟨_,E,⟨_,_⟩,⟨h1,rfl,rfl,rfl⟩,h4,h5⟩
@[simp] theorem Aaf {u:TypeId}:Ar P K (⟨dd,.call { callee:=.builtin .append,args:=#[a,b],argTypes:=#[t,u] },none,nm,ix,un,l⟩::rest) lg ⟨s,H⟩=Gt (EG P H nm t u (evs s a) (evs s b)) fun p=>Ck un lg ⟨refs (evs s b),sk nm (evs s a)⟩∧Ar P K rest (A9 l ix ⟨refs (evs s b),sk nm (evs s a)⟩ lg) (Sta.put ⟨s,H⟩ dd p.1 (p.2.app H)):=
 TB fun x E R W=>by
  constructor
  ·rintro⟨a',b',t',u',h1,h2,h3,h4,h5⟩;cases h1;cases h2;exact⟨h3,h4,h5⟩
  ·rintro⟨h3,h4,h5⟩;exact⟨a,b,t,u,rfl,rfl,h3,h4,h5⟩
@[simp] theorem Ahb {u:TypeId}:Ar P K (⟨dd,.call { callee:=.builtin .copy,args:=#[a,b],argTypes:=#[t,u] },none,nm,ix,un,l⟩::rest) lg ⟨s,H⟩=Gt (N7 P H t (evs s a) (evs s b)) fun p=>Ck un lg ⟨refs (evs s b),refs (evs s a)⟩∧Ar P K rest (A9 l ix ⟨refs (evs s b),refs (evs s a)⟩ lg) (Sta.put ⟨s,H⟩ dd p.1 (p.2.app H)):=
 TB fun x E R W=>by
  constructor
  ·rintro⟨a',b',t',u',h1,h2,h3,h4,h5⟩;cases h1;cases h2;exact⟨h3,h4,h5⟩
  ·rintro⟨h3,h4,h5⟩;exact⟨a,b,t,u,rfl,rfl,h3,h4,h5⟩
@[simp] theorem xJ:Ar P K (⟨dd,.alloc t,some (k,f),nm,ix,un,l⟩::rest) lg ⟨s,H⟩=Gt (B3 (s k) f) fun q=>UU q (Ar P K (⟨dd,.alloc t,none,nm,ix,un,l⟩::rest) lg ⟨s,H⟩) (Ar P K rest (A9 l ix ⟨[],[]⟩ lg) (Sta.put ⟨s,H⟩ dd (.v undef) H)):=Az
@[simp] theorem Adw:Ar P K (⟨dd,.box t a,some (k,f),nm,ix,un,l⟩::rest) lg ⟨s,H⟩=Gt (B3 (s k) f) fun q=>UU q (Ar P K (⟨dd,.box t a,none,nm,ix,un,l⟩::rest) lg ⟨s,H⟩) (Ar P K rest (A9 l ix ⟨[],[]⟩ lg) (Sta.put ⟨s,H⟩ dd (.v undef) H)):=Az
@[simp] theorem kK {n a':Nat} {d':Nm} {ps:Array (Nat × Operand)}:Ar P K (⟨dd,.buildSlice t n ps,some (k,f),a'::d',ix,un,l⟩::rest) lg ⟨s,H⟩=Gt (B3 (s k) f) fun q=>UU q (Ar P K (⟨dd,.buildSlice t n ps,none,a'::d',ix,un,l⟩::rest) lg ⟨s,H⟩) (Ar P K rest (A9 l ix ⟨[],[]⟩ lg) (Sta.put ⟨s,H⟩ dd (.v undef) H)):=Az
@[simp] theorem qh:Ar P K (⟨dd,.makeSlice t a b,some (k,f),nm,ix,un,l⟩::rest) lg ⟨s,H⟩=Gt (B3 (s k) f) fun q=>UU q (Ar P K (⟨dd,.makeSlice t a b,none,nm,ix,un,l⟩::rest) lg ⟨s,H⟩) (Ar P K rest (A9 l ix ⟨[],[]⟩ lg) (Sta.put ⟨s,H⟩ dd (.v undef) H)):=Az
@[simp] theorem xm:Ar P K (⟨dd,.store t a b,some (k,f),nm,ix,un,l⟩::rest) lg ⟨s,H⟩=Gt (B3 (s k) f) fun q=>UU q (Ar P K (⟨dd,.store t a b,none,nm,ix,un,l⟩::rest) lg ⟨s,H⟩) (Ar P K rest (A9 l ix ⟨[],[]⟩ lg) (Sta.put ⟨s,H⟩ dd (.v undef) H)):=Az
@[simp] theorem vU {u:TypeId}:Ar P K (⟨dd,.call { callee:=.builtin .append,args:=#[a,b],argTypes:=#[t,u] },some (k,f),nm,ix,un,l⟩::rest) lg ⟨s,H⟩=Gt (B3 (s k) f) fun q=>UU q (Ar P K (⟨dd,.call { callee:=.builtin .append,args:=#[a,b],argTypes:=#[t,u] },none,nm,ix,un,l⟩::rest) lg ⟨s,H⟩) (Ar P K rest (A9 l ix ⟨[],[]⟩ lg) (Sta.put ⟨s,H⟩ dd (.v undef) H)):=Az
@[simp] theorem Aab {u:TypeId}:Ar P K (⟨dd,.call { callee:=.builtin .copy,args:=#[a,b],argTypes:=#[t,u] },some (k,f),nm,ix,un,l⟩::rest) lg ⟨s,H⟩=Gt (B3 (s k) f) fun q=>UU q (Ar P K (⟨dd,.call { callee:=.builtin .copy,args:=#[a,b],argTypes:=#[t,u] },none,nm,ix,un,l⟩::rest) lg ⟨s,H⟩) (Ar P K rest (A9 l ix ⟨[],[]⟩ lg) (Sta.put ⟨s,H⟩ dd (.v undef) H)):=Az
theorem Ae {g:FuncId} {as':Array Operand} {ts:Array TypeId} {x:A} (hs:Spec P g (as'.toList.map (evs s)) x) (hb:(as'.toList.map (evs s)).all A.bare=true) (h:Ar P K rest (A9 l ix ⟨[],[]⟩ lg) (Sta.put ⟨s,H⟩ dd x H)) :
  Ar P K (⟨dd,.call { callee:=.value (.func g),args:=as',argTypes:=ts },none,nm,ix,un,l⟩::rest) lg ⟨s,H⟩:=
 ⟨x,.nil,⟨[],[]⟩,⟨g,[],[],rfl,.inl ⟨by simpa using hb,by simpa using hs,rfl,rfl,rfl⟩⟩,OT,h⟩
theorem rG {g:FuncId} {as':Array Operand} {ts:Array TypeId} {L:List A} {x:A} (hL:as'.toList.map (evs s)=L) (hs:Spec P g L x) (hb:L.all A.bare=true) (h:Ar P K rest (A9 l ix ⟨[],[]⟩ lg) (Sta.put ⟨s,H⟩ dd x H)) :
  Ar P K (⟨dd,.call { callee:=.value (.func g),args:=as',argTypes:=ts },none,nm,ix,un,l⟩::rest) lg ⟨s,H⟩:=by subst hL;exact Ae hs hb h
theorem LV {o:Operand} {g:FuncId} {fs caps:List A} {as':Array Operand} {ts:Array TypeId} {x:A} (ho:evs s o = .fnc g fs caps) (hs:Spec P g (fs++(as'.toList.map (evs s)++caps)) x) (hb:(fs++(as'.toList.map (evs s)++caps)).all A.bare=true) (h:Ar P K rest (A9 l ix ⟨[],[]⟩ lg) (Sta.put ⟨s,H⟩ dd x H)) :
  Ar P K (⟨dd,.call { callee:=.value o,args:=as',argTypes:=ts },none,nm,ix,un,l⟩::rest) lg ⟨s,H⟩:=
 ⟨x,.nil,⟨[],[]⟩,⟨g,fs,caps,ho,.inl ⟨hb,hs,rfl,rfl,rfl⟩⟩,OT,h⟩
theorem N5 {g:FuncId} {as':Array Operand} {ts:Array TypeId} {x:A} (as'':List A) (hs:SpecB P g as'' x) (hf:Hd H (as'.toList.map (evs s)) as'') (hc:Ck un lg ⟨[([],true)],[]⟩) (h:Ar P K rest (A9 l ix ⟨[([],true)],[]⟩ lg) (Sta.put ⟨s,H⟩ dd x H)) :
  Ar P K (⟨dd,.call { callee:=.value (.func g),args:=as',argTypes:=ts },none,nm,ix,un,l⟩::rest) lg ⟨s,H⟩:=
 ⟨x,.nil,⟨_,_⟩,⟨g,[],[],rfl,.inr (.inl ⟨⟨as'',by simpa using hf,hs⟩,rfl,rfl,rfl⟩)⟩,hc,h⟩
theorem bU {g:FuncId} {as':Array Operand} {ts:Array TypeId} {x:A} (E:Eff) (R W:Fp) (hs:∀ H2,Agree (R++W) H H2→Xl P H2 g (as'.toList.map (evs s)) x E) (hw:SV E W) (hc:Ck un lg ⟨R,W⟩) (h:Ar P K rest (A9 l ix ⟨R,W⟩ lg) (Sta.put ⟨s,H⟩ dd x (E.app H))) :
  Ar P K (⟨dd,.call { callee:=.value (.func g),args:=as',argTypes:=ts },none,nm,ix,un,l⟩::rest) lg ⟨s,H⟩:=
 ⟨x,E,⟨R,W⟩,⟨g,[],[],rfl,.inr (.inr ⟨by simpa using hs,hw⟩)⟩,hc,h⟩
theorem Tz {g:FuncId} {as':Array Operand} {ts:Array TypeId} {x:A} {q:Bool} (hq:B3 (s k) f=some q) (hs:q=true→Spec P g (as'.toList.map (evs s)) x∧(as'.toList.map (evs s)).all A.bare=true)
  (h:Ar P K rest (A9 l ix ⟨[],[]⟩ lg) (Sta.put ⟨s,H⟩ dd (gd q x) H)) :
  Ar P K (⟨dd,.call { callee:=.value (.func g),args:=as',argTypes:=ts },some (k,f),nm,ix,un,l⟩::rest) lg ⟨s,H⟩:=
 ⟨_,.nil,⟨[],[]⟩,⟨q,x,hq,fun e=>⟨g,[],[],rfl,.inl ⟨by simpa using (hs e).2,by simpa using (hs e).1,rfl,rfl,rfl⟩⟩,rfl,fun _=>⟨rfl,rfl,rfl⟩⟩,OT,h⟩
end
end
section
variable {P:Program} {K:Sta→Prop} {rest:List CO} {s:Nat→A} {H:Hp} {dd:Option Nat} {k:Nat} {g:FuncId} {as':Array Operand} {ts:Array TypeId} {x:A} {q:Bool} {L:List A} {nm:Nm} {ix:Nat} {un:List Nat} {l:Bool} {lg:Lg}
theorem Em (hq:s k = .v (.bool q)) (hs:q=true→Spec P g L x) (hL:q=true→as'.toList.map (evs s)=L) (hb:L.all A.bare=true)
  (h:Ar P K rest (A9 l ix ⟨[],[]⟩ lg) (Sta.put ⟨s,H⟩ dd (gd q x) H)) :
  Ar P K (⟨dd,.call { callee:=.value (.func g),args:=as',argTypes:=ts },some (k,true),nm,ix,un,l⟩::rest) lg ⟨s,H⟩:=
 Tz (q:=q) (by rw[hq];cases q<;>rfl) (fun e=>by rw[hL e];exact⟨hs e,hb⟩) h
theorem Bj (hq:s k = .v (.bool q)) (hs:q=false→Spec P g L x) (hL:q=false→as'.toList.map (evs s)=L) (hb:L.all A.bare=true)
  (h:Ar P K rest (A9 l ix ⟨[],[]⟩ lg) (Sta.put ⟨s,H⟩ dd (gd (ng q) x) H)) :
  Ar P K (⟨dd,.call { callee:=.value (.func g),args:=as',argTypes:=ts },some (k,false),nm,ix,un,l⟩::rest) lg ⟨s,H⟩:=
 Tz (q:=ng q) (by rw[hq];cases q<;>rfl) (fun e=>by have e:q=false:=(by simpa using e);rw[hL e];exact⟨hs e,hb⟩) h
end
@[simp] theorem Acy {q r t:Bool}:(bif q then A.v (.bool r) else A.v (.bool t))=A.v (.bool (bif q then r else t)):=by cases q<;>rfl
theorem Ab {H:Hp} {a:A} (h:a.bare=true):Jd H a a:=fun c w I μ v hs hr=>(hr.of_bare h).mono0 (fun b hb=>.inl hb) (fun _ _=>rfl)
theorem tB {w:World} {I:Nat→Prop} {μ:Mu} {f:Bool} {xs:List A} {v:Value} (h:Rel w I μ (.sl f xs) v):Rel w I μ (.sl false xs) v:=by
 cases h with
 |slN _ _ a cap _=>exact .slN _ _ _ _ (fun h=>by cases h)
 |sl _ _ b off n cap sz _ g h1 h2 h3 h4 h5 h6 h7 h8=>exact .sl _ _ b off n cap sz _ g h1 h2 h3 (fun h=>by cases h) h5 h6 h7 h8
theorem Al {H:Hp} {f:Bool} {xs:List A}:Jd H (.sl f xs) (.sl false xs):=fun c w I μ v hs hr=>tB (Ab (a:=.sl f xs) rfl c w I μ v hs hr)
theorem Bm {H:Hp} {p q:Bool} (h:p=q):Jd H (.v (.bool p)) (.v (.bool q)):=by rw[h];exact Ab rfl
theorem BS {H:Hp} {k:IntKind} {p q:Int} (h:p=q):Jd H (.v (.int k p)) (.v (.int k q)):=by rw[h];exact Ab rfl
theorem Ap {H:Hp} {a a':A} (h:a.bare=true) (e:a=a'):Jd H a a':=by rw[← e];exact Ab h
theorem JG {H:Hp} {o:Nm} {u off len sz:Nat} {xs ys:List A} (ho:Q1 H o u=some (sz,xs)) (hl:off+len≤xs.length) (hn:ys.length=len) (hy:∀ y,y ∈ ys→y.cells.length=sz) (h1:A.ones (ys.flatMap A.cells)=true)
  (hb:Hd H (((xs.drop off).take len).flatMap A.cells) (ys.flatMap A.cells)):Jd H (.osl o u sz off len) (.sl false ys):=by
 intro c w I μ v hs hr
 obtain⟨hg1,hg2⟩:=J9 hb
 cases hr with
 |osl _ _ _ _ _ _ a cap g1 g2 g4 g5 g3=>
  obtain⟨hu,k2,hrow⟩:=hs.row ho
  obtain⟨_,hcur⟩:=g3 hu.symm
  by_cases h0:len=0
  ·subst h0
   have:ys=[]:=List.eq_nil_of_length_eq_zero hn
   subst this
   exact .slN _ _ _ _ (fun h=>by cases h)
  rcases hcur with ⟨e,_⟩ | ⟨p1,rfl,p3⟩
  ·exact(h0 e).elim
  rcases hrow with ⟨q1,_⟩ | ⟨q1,vs,k3,k4,k5,k6,k7⟩
  ·rw[p1] at q1;cases q1
  subst k2
  have hB:Eg (μ o) (H o).ob=true:=by rw[(GG ho).2];exact q1
  have hg:∀ (k:Nat) (y:A),(((xs.drop off).take len).flatMap A.cells)[k]? = some y→(xs.flatMap A.cells)[off*(μ o).sz+k]? = some y:=fun k y hk=>Eb k6 hk
  refine .sl _ _ (μ o).b (off*(μ o).sz) _ _ (μ o).sz _ (fun k=>vs.getD (off*(μ o).sz+k) undef) (Or.inr ⟨o,hB,rfl⟩) hn.symm (by omega) (fun h=>by cases h) hy
   (fun k y hk=>List.all_eq_true.1 h1 y (List.mem_of_getElem? hk)) (fun k y hk=>?_) (fun k y hk=>?_)
  ·obtain⟨a',ha',_⟩:=hg2 k y hk
   have h3:=hg k a' ha'
   have h4:=BE k6
   have h5:xs.length*(μ o).sz≤(μ o).cap*(μ o).sz:=Nat.mul_le_mul_right _ k5
   have h6:=(List.getElem?_eq_some_iff.1 h3).1
   rw[cell_of_row w (μ o).b _ vs (μ o).e (0,0) k3]
   have:off*(μ o).sz+k<vs.size:=by rw[k4];omega
   simp[this]
  ·obtain⟨a',ha',hf⟩:=hg2 k y hk
   exact hf c w I μ _ hs (k7 _ a' (hg k a' ha')).2
theorem LY {H:Hp}:∀ {l:List A},l.all A.bare=true→Hd H l l
 |[],_=>trivial
 |a::l,h=>by
  simp only[List.all_cons,Bool.and_eq_true] at h
  exact⟨Ab h.1,LY h.2⟩
theorem qj {a:A} (h:a.bare1=true):a.bare=true:=by cases a<;>simp_all [A.bare1,A.bare,A.bare2]
theorem Y3 {H:Hp} {o:Nm} {u off len sz:Nat} {xs:List A} (ho:Q1 H o u=some (sz,xs)) (hl:off+len≤xs.length) (hb:((xs.drop off).take len).all (fun x=>x.cells.length == sz&&x.cells.all fun y=>A.bare1 y&&y.one)=true):Jd H (.osl o u sz off len) (.sl false ((xs.drop off).take len)):=by
 simp only[List.all_eq_true,Bool.and_eq_true,beq_iff_eq] at hb
 refine JG ho hl (by simp;omega) (fun y hy=>(hb y hy).1) ?_ (LY ?_)
 ·simp only[A.ones,List.all_eq_true]
  intro y hy
  obtain⟨x,hx,hy⟩:=List.mem_flatMap.1 hy
  exact((hb x hx).2 y hy).2
 ·simp only[List.all_eq_true]
  intro y hy
  obtain⟨x,hx,hy⟩:=List.mem_flatMap.1 hy
  exact qj ((hb x hx).2 y hy).1
theorem BG {H:Hp} {cs cs':List A} (h:Hd H cs cs'):Jd H (.agg cs) (.agg cs'):=by
 intro c w I μ v hs hr
 obtain⟨hl,hg⟩:=J9 h
 cases hr with
 |agg _ _ vs h1 h2=>
  refine .agg _ _ _ (by omega) fun k y hk=>?_
  obtain⟨a,ha,hf⟩:=hg k y hk
  exact hf c w I μ _ hs (h2 k a ha)
theorem G4 {H:Hp} {cs cs':List A} (h:Hd H cs cs'):Jd H (.tup cs) (.tup cs'):=by
 intro c w I μ v hs hr
 obtain⟨hl,hg⟩:=J9 h
 cases hr with
 |tup _ _ vs h1 h2=>
  refine .tup _ _ _ (by omega) fun k y hk=>?_
  obtain⟨a,ha,hf⟩:=hg k y hk
  exact hf c w I μ _ hs (h2 k a ha)
theorem Zo {H:Hp} {o:Nm} {u:Nat} {cs cs':List A} (ho:Wf H o u=some cs) (h:Hd H cs cs') (h1:A.ones cs'=true):Jd H (.pob o u 0) (.pim cs'):=by
 intro c w I μ v hs hr
 obtain⟨hl,hg⟩:=J9 h
 cases hr with
 |pob _ _ _ _ b k g1 g2 g3=>
  obtain⟨hu,vs,k2,k3,k4⟩:=hs.cells ho
  obtain⟨rfl,rfl⟩:=g3 hu.symm
  have hB:Eg (μ o) (H o).ob=true:=by rw[(Tr ho).2];rfl
  refine .pim _ (μ o).b 0 _ (fun k=>vs.getD k undef) (Or.inr ⟨o,hB,rfl⟩) (fun k y hk=>?_) (fun k y hk=>?_) (fun k y hk=>?_)
  ·simp only[A.ones,List.all_eq_true] at h1
   exact h1 y (List.mem_of_getElem? hk)
  ·rw[Nat.zero_add,cell_of_row w (μ o).b k vs (μ o).e (0,0) k2]
   have:k<vs.size:=by rw[k3,← hl];exact(List.getElem?_eq_some_iff.1 hk).1
   simp[this]
  ·obtain⟨a,ha,hf⟩:=hg k y hk
   exact hf c w I μ _ hs (k4 k a ha).2
@[simp] theorem Aep {H:Hp}:Hd H [] []=True:=rfl
@[simp] theorem kp {H:Hp} {a a':A} {l l':List A}:Hd H (a::l) (a'::l')=(Jd H a a'∧Hd H l l'):=rfl
end Go.G
namespace Go.Proofs.YtbjmaoedheiigaaGreat
set_option maxRecDepth 20000
open Go Go.G Go.Proofs
theorem Ah:Tryz.prog.follows .mixedOrders=true:=by kernel_rfl
@[simp] theorem Ai2:Tryz.prog.underlying 3=some (.int .i64):=by kernel_rfl
@[simp] theorem Ahp:Tryz.prog.underlying 21=some (.int .i32):=by kernel_rfl
@[simp] theorem Aik:Tryz.prog.underlying 51=some (.int .u64):=by kernel_rfl
@[simp] theorem Ae5:Tryz.prog.underlying 288=some (.int .u32):=by kernel_rfl
@[simp] theorem AiP:CF Tryz.prog 3=some 1:=by kernel_rfl
@[simp] theorem Ai5:CF Tryz.prog 4=some 1:=by kernel_rfl
@[simp] theorem AeU:CF Tryz.prog 135=some 8:=by kernel_rfl
@[simp] theorem Ahe:CF Tryz.prog 175=some 8:=by kernel_rfl
@[simp] theorem Aip:CZ Tryz.prog 3=some false:=by kernel_rfl
@[simp] theorem Ahy:CZ Tryz.prog 4=some false:=by kernel_rfl
@[simp] theorem Aen:CZ Tryz.prog 135=some true:=by kernel_rfl
@[simp] theorem Ac5:CZ Tryz.prog 175=some true:=by kernel_rfl
@[simp] theorem AaP:Bi Tryz.prog 135=some (Value.agg #[Value.int IntKind.i64 0,Value.int IntKind.i64 0,Value.int IntKind.i64 0,Value.int IntKind.i64 0,Value.int IntKind.i64 0,Value.int IntKind.i64 0,Value.int IntKind.i64 0,Value.bool false]):=by kernel_rfl
@[simp] theorem Aaa:Bi Tryz.prog 175=some (Value.agg #[Value.int IntKind.i64 0,Value.int IntKind.i64 0,Value.int IntKind.i64 0,Value.int IntKind.i64 0,Value.int IntKind.i64 0,Value.int IntKind.i64 0,Value.int IntKind.i64 0,Value.bool false]):=by kernel_rfl
@[simp] theorem mq:Ak Tryz.prog 175 0=some 0:=by kernel_rfl
@[simp] theorem nq:Ak Tryz.prog 175 1=some 1:=by kernel_rfl
@[simp] theorem nj:Ak Tryz.prog 175 2=some 2:=by kernel_rfl
@[simp] theorem nh:Ak Tryz.prog 175 3=some 3:=by kernel_rfl
@[simp] theorem mW:Ak Tryz.prog 175 4=some 4:=by kernel_rfl
@[simp] theorem ml:Ak Tryz.prog 175 5=some 5:=by kernel_rfl
@[simp] theorem ni:Ak Tryz.prog 175 6=some 6:=by kernel_rfl
@[simp] theorem mQ:Ak Tryz.prog 175 7=some 7:=by kernel_rfl
@[simp] theorem yn (ps:List (Nat × A)):Bt Tryz.prog 135 ps=(BP (fun i=>([(0,1),(1,1),(2,1),(3,1),(4,1),(5,1),(6,1),(7,1)]:List (Nat × Nat))[i]?) [A.v (Value.int IntKind.i64 0),A.v (Value.int IntKind.i64 0),A.v (Value.int IntKind.i64 0),A.v (Value.int IntKind.i64 0),A.v (Value.int IntKind.i64 0),A.v (Value.int IntKind.i64 0),A.v (Value.int IntKind.i64 0),A.v (Value.bool false)] ps).map A.agg:=by kernel_rfl
@[simp] theorem w8 (ps:List (Nat × A)):Bt Tryz.prog 175 ps=(BP (fun i=>([(0,1),(1,1),(2,1),(3,1),(4,1),(5,1),(6,1),(7,1)]:List (Nat × Nat))[i]?) [A.v (Value.int IntKind.i64 0),A.v (Value.int IntKind.i64 0),A.v (Value.int IntKind.i64 0),A.v (Value.int IntKind.i64 0),A.v (Value.int IntKind.i64 0),A.v (Value.int IntKind.i64 0),A.v (Value.int IntKind.i64 0),A.v (Value.bool false)] ps).map A.agg:=by kernel_rfl
@[simp] theorem AfH (x0 y0:Int) (x1 y1:Int) (x2 y2:Int) (x3 y3:Int) (x4 y4:Int) (x5 y5:Int) (x6 y6:Int) (x7 y7:Bool):Mj Tryz.prog 100 175 (.agg [A.v (.int .i64 x0),A.v (.int .i64 x1),A.v (.int .i64 x2),A.v (.int .i64 x3),A.v (.int .i64 x4),A.v (.int .i64 x5),A.v (.int .i64 x6),A.v (.bool x7)]) (.agg [A.v (.int .i64 y0),A.v (.int .i64 y1),A.v (.int .i64 y2),A.v (.int .i64 y3),A.v (.int .i64 y4),A.v (.int .i64 y5),A.v (.int .i64 y6),A.v (.bool y7)])=some (((x0 == y0)&&((x1 == y1)&&((x2 == y2)&&((x3 == y3)&&((x4 == y4)&&((x5 == y5)&&((x6 == y6)&&((x7 == y7)&&(true)))))))))):=by kernel_rfl
@[simp] theorem AfY:Tryz.prog.eqGuardType Tryz.prog.depth 175=false:=by kernel_rfl
@[simp] abbrev xT (n:Nat):Operand:=.tmp n
@[simp] abbrev nI (n:Int):Operand:=.const (.int .i64 n)
@[simp] abbrev cL (f:Nat) (xs:Array Operand) (ts:Array TypeId):Op:=.call { callee:=(.value (.func f)),args:=xs,argTypes:=ts }
@[simp] abbrev mV (n:Nat):Op:=.move (.tmp n)
@[simp] abbrev aS (n:Nat):Op:=.assign (.tmp n)
@[simp] abbrev lD (t n:Nat):Op:=.load t (.tmp n)
@[simp] abbrev fA (t n f:Nat):Op:=.fieldAddr t (.tmp n) f
@[simp] abbrev xR (n i:Nat):Op:=.extract (.tmp n) i
@[simp] abbrev oO (d:Nat) (o:Op):CO:=co (some d) o none
@[simp] abbrev oN (d:Nat) (o:Op) (nm:Nm):CO:=cn (some d) o none nm
@[simp] abbrev oS (o:Op):CO:=co none o none
@[simp] abbrev oG (d:Nat) (o:Op) (k:Nat) (b:Bool):CO:=co (some d) o (some (k,b))
@[simp] abbrev bC (b:Builtin) (xs:Array Operand) (ts:Array TypeId):Op:=.call { callee:=(.builtin b),args:=xs,argTypes:=ts }
@[simp] abbrev bL (n t:Nat):Op:=.call { callee:=(.builtin .len),args:=#[.tmp n],argTypes:=#[t] }
@[simp] abbrev bO (o:BinOp) (t a b u:Nat):Op:=.binOp o t (.tmp a) (.tmp b) u
@[simp] abbrev iA (t a b:Nat):Op:=.indexAddr t (.tmp a) (.tmp b)
@[simp] abbrev nB (b:Bool):Operand:=.const (.bool b)
@[simp] abbrev nS:Operand:=.const (.slice none 0 0)
@[simp] abbrev mO (d n:Nat):CO:=co (some d) (.move (.tmp n)) none
@[simp] abbrev aO (d n:Nat):CO:=co (some d) (.assign (.tmp n)) none
@[simp] abbrev lO (d t n:Nat):CO:=co (some d) (.load t (.tmp n)) none
@[simp] abbrev fO (d t n f:Nat):CO:=co (some d) (.fieldAddr t (.tmp n) f) none
@[simp] abbrev xO (d n i:Nat):CO:=co (some d) (.extract (.tmp n) i) none
def xc:Nat→List CO→List (Nat × Nm)
 |_,[]=>[]
 |i,x::l=>if x.nm.isEmpty then xc (i+1) l else (i,x.nm)::xc (i+1) l
def R5:CC→List Mk
 |.reg a b=>[(b,xc 0 a)]
 |.seq x (.keep b (.stop y))=>R5 x++(999997::b,[])::R5 y
 |.seq x (.keep b y)=>R5 x++(999999::b,[])::R5 y
 |.seq x (.stop y)=>R5 x++([999998],[])::R5 y
 |.seq x y=>R5 x++([],[])::R5 y
 |.cond _ x y=>R5 x++R5 y
 |.block _ x=>R5 x
 |.loop x=>R5 x
 |.scope x=>R5 x
 |_=>[]
@[simp] abbrev sR (a:List CO) (b:List Nat) (k:CC):CC:=.seq (.reg a b) k
@[simp] abbrev cD (n:Nat) (a b:CC):CC:=.cond (.tmp n) a b
def Ru:CC:=sR [oO 4 (.assign (nB false))] [0,1] (sR [mO 5 0,oO 6 (.binOp .geq 3 (xT 5) (nI 0) 3),mO 7 6,oG 8 (mV 0) 7 true,oG 9 (mV 1) 7 true,oG 10 (bO .leq 3 8 9 3) 7 true,oO 11 (.pick (xT 7) (xT 10) (nB false)),aO 4 11] [4] (.ret))
theorem Aq {f:FuncId} {fn:Func} {cc:CC} {rs:List ResultVar} {n:Nat} (hf:Tryz.prog.funcs[f]? = some fn) (hn:fn.ntmps=n:=by kernel_rfl) (hk:XK Tryz.prog f=true:=by kernel_rfl) (hb:fn.body=some (fn.body.getD .ret):=by kernel_rfl) (hrs:fn.results.toList=rs:=by kernel_rfl) (hc:Ko n (fn.body.getD .ret) (R5 cc)=some (cc,[]):=by kernel_rfl):AX Tryz.prog f n rs cc:=yi Ah hk hf hb hn hrs hc
theorem Z9:AX Tryz.prog 225 12 [(.tmp 4)] Ru:=Aq Tryz.func225
def Ra:CC:=sR [oN 2 (.alloc 175) [0]] [0,2] (sR [mO 4 0,oO 5 (.convert 51 288 (xT 4)),oO 6 (.convert 288 21 (xT 5)),oO 7 (.convert 21 3 (xT 6)),oO 8 (.binOp .shr 3 (xT 7) (.const (.int .u64 2)) 269),aO 3 8] [0,2,3] (.seq (.block 0 (sR [mO 10 0,oO 11 (.binOp .eql 51 (xT 10) (.const (.int .u64 0)) 51),aO 9 11] [0,2,3,9] (cD 9 (sR [oO 12 (.build 175 #[]),oS (.store 175 (xT 2) (xT 12))] [2] (.ret)) (sR [mO 14 0,oO 15 (.binOp .and 51 (xT 14) (.const (.int .u64 3)) 51),oO 16 (.binOp .eql 51 (xT 15) (.const (.int .u64 0)) 51),aO 13 16] [0,2,3,13] (cD 13 (sR [mO 17 3,mO 18 0,oO 19 (.binOp .shr 51 (xT 18) (.const (.int .u64 32)) 269),oO 20 (.binOp .and 51 (xT 19) (.const (.int .u64 65535)) 51),oO 21 (.convert 51 3 (xT 20)),mO 22 0,oO 23 (.binOp .shr 51 (xT 22) (.const (.int .u64 48)) 269),oO 24 (.convert 51 3 (xT 23)),oO 25 (.build 175 #[(0,(nI 1)),(1,(xT 17)),(2,(xT 21)),(3,(xT 24))]),oS (.store 175 (xT 2) (xT 25))] [2] (.ret)) (sR [mO 27 0,oO 28 (.binOp .and 51 (xT 27) (.const (.int .u64 3)) 51),oO 29 (.binOp .eql 51 (xT 28) (.const (.int .u64 1)) 51),aO 26 29] [0,2,3,26] (cD 26 (sR [mO 30 3,mO 31 0,oO 32 (.binOp .shr 51 (xT 31) (.const (.int .u64 32)) 269),oO 33 (.binOp .and 51 (xT 32) (.const (.int .u64 7)) 51),oO 34 (.convert 51 3 (xT 33)),mO 35 0,oO 36 (.binOp .shr 51 (xT 35) (.const (.int .u64 35)) 269),oO 37 (.convert 51 3 (xT 36)),oO 38 (.build 175 #[(0,(nI 2)),(1,(xT 30)),(4,(xT 34)),(5,(xT 37))]),oS (.store 175 (xT 2) (xT 38))] [2] (.ret)) (sR [mO 40 0,oO 41 (.binOp .and 51 (xT 40) (.const (.int .u64 3)) 51),oO 42 (.binOp .eql 51 (xT 41) (.const (.int .u64 2)) 51),aO 39 42] [0,2,39] (cD 39 (sR [mO 43 0,oO 44 (.binOp .shr 51 (xT 43) (.const (.int .u64 3)) 269),oO 45 (.binOp .and 51 (xT 44) (.const (.int .u64 536870911)) 51),oO 46 (.convert 51 3 (xT 45)),mO 47 0,oO 48 (.binOp .shr 51 (xT 47) (.const (.int .u64 32)) 269),oO 49 (.convert 51 3 (xT 48)),mO 50 0,oO 51 (.binOp .and 51 (xT 50) (.const (.int .u64 4)) 51),oO 52 (.binOp .neq 51 (xT 51) (.const (.int .u64 0)) 51),oO 53 (.build 175 #[(0,(nI 3)),(1,(xT 46)),(6,(xT 49)),(7,(xT 52))]),oS (.store 175 (xT 2) (xT 53))] [2] (.ret)) (.skip)))))))))) (.keep [2] (sR [oO 54 (.build 175 #[(0,(nI 4))]),oS (.store 175 (xT 2) (xT 54))] [2] (.ret)))))
theorem Zh:AX Tryz.prog 204 55 [(.cell 2 175)] Ra:=Aq Tryz.func204
def D0:CC:=.seq (sR [mO 11 7,mO 12 1,oO 13 (bO .lss 3 11 12 3)] [0,1,2,7,13] (cD 13 (.skip) (.exit 0))) (.keep [0,1,2,7] (.seq (.block 1 (.reg [mO 16 0,oO 17 (.binOp .quo 51 (xT 16) (.const (.int .u64 2)) 51),aO 0 17] [0,1,2,7])) (.reg [mO 14 7,oO 15 (.binOp .add 3 (xT 14) (nI 1) 3),aO 7 15] [0,1,2,7])))
def D4:CC:=.seq (sR [mO 18 10,mO 19 2,oO 20 (bO .lss 3 18 19 3)] [0,2,8,9,10,20] (cD 20 (.skip) (.exit 2))) (.keep [0,2,8,9,10] (.seq (.block 3 (.seq (sR [mO 23 0,oO 24 (.binOp .rem 51 (xT 23) (.const (.int .u64 2)) 51),oO 25 (.binOp .eql 51 (xT 24) (.const (.int .u64 1)) 51)] [0,2,8,9,10,25] (cD 25 (.reg [mO 26 8,mO 27 9,oO 28 (bO .add 3 26 27 3),aO 8 28] [0,2,8,9,10]) (.skip))) (.keep [0,2,8,9,10] (sR [mO 29 0,oO 30 (.binOp .quo 51 (xT 29) (.const (.int .u64 2)) 51),aO 0 30] [0,2,8,9,10] (.reg [mO 31 9,oO 32 (.binOp .mul 3 (nI 2) (xT 31) 3),aO 9 32] [0,2,8,9,10]))))) (.keep [0,2,8,9,10] (.reg [mO 21 10,oO 22 (.binOp .add 3 (xT 21) (nI 1) 3),aO 10 22] [0,2,8,9,10])))) 
def J8:CC:=sR [oO 6 (.assign (nI 0))] [0,1,2] (.seq (sR [oO 7 (.assign (nI 0))] [0,1,2,7] (.block 0 (.loop D0))) (.keep [0,2] (sR [oO 8 (.assign (nI 0)),oO 9 (.assign (nI 1))] [0,2,8,9] (.seq (sR [oO 10 (.assign (nI 0))] [0,2,8,9,10] (.block 2 (.loop D4))) (.keep [8] (sR [mO 33 8,aO 6 33] [6] (.ret)))))))
theorem P9:AX Tryz.prog 145 34 [(.tmp 6)] J8:=Aq Tryz.func145
def It:CC:=.seq (sR [mO 13 0,oO 14 (cL 145 #[(xT 13),(nI 0),(nI 2)] #[51,3,3])] [0,2,3,14] (.block 0 (sR [oO 16 (.binOp .eql 3 (xT 14) (nI 0) 3),aO 15 16] [0,2,3,14,15] (cD 15 (sR [mO 17 3,mO 18 0,oO 19 (cL 145 #[(xT 18),(nI 32),(nI 16)] #[51,3,3]),mO 20 0,oO 21 (cL 145 #[(xT 20),(nI 48),(nI 16)] #[51,3,3]),oO 22 (.build 135 #[(0,(nI 1)),(1,(xT 17)),(2,(xT 19)),(3,(xT 21))]),oS (.store 135 (xT 2) (xT 22))] [2] (.ret)) (sR [oO 24 (.binOp .eql 3 (xT 14) (nI 1) 3),aO 23 24] [0,2,3,14,23] (cD 23 (sR [mO 25 3,mO 26 0,oO 27 (cL 145 #[(xT 26),(nI 32),(nI 3)] #[51,3,3]),mO 28 0,oO 29 (cL 145 #[(xT 28),(nI 35),(nI 29)] #[51,3,3]),oO 30 (.build 135 #[(0,(nI 2)),(1,(xT 25)),(4,(xT 27)),(5,(xT 29))]),oS (.store 135 (xT 2) (xT 30))] [2] (.ret)) (sR [oO 32 (.binOp .eql 3 (xT 14) (nI 2) 3),aO 31 32] [0,2,31] (cD 31 (sR [mO 33 0,oO 34 (cL 145 #[(xT 33),(nI 3),(nI 29)] #[51,3,3]),mO 35 0,oO 36 (cL 145 #[(xT 35),(nI 32),(nI 32)] #[51,3,3]),mO 37 0,oO 38 (cL 145 #[(xT 37),(nI 2),(nI 1)] #[51,3,3]),oO 39 (.binOp .eql 3 (xT 38) (nI 1) 3),oO 40 (.build 135 #[(0,(nI 3)),(1,(xT 34)),(6,(xT 36)),(7,(xT 39))]),oS (.store 135 (xT 2) (xT 40))] [2] (.ret)) (.skip))))))))) (.keep [2] (sR [oO 41 (.build 135 #[(0,(nI 4))]),oS (.store 135 (xT 2) (xT 41))] [2] (.ret))) 
def I6:CC:=sR [oN 2 (.alloc 135) [0]] [0,2] (.seq (sR [mO 4 0,oO 5 (.binOp .eql 51 (xT 4) (.const (.int .u64 0)) 51)] [0,2,5] (cD 5 (sR [oO 6 (.build 135 #[]),oS (.store 135 (xT 2) (xT 6))] [2] (.ret)) (.skip))) (.keep [0,2] (sR [mO 7 0,oO 8 (cL 145 #[(xT 7),(nI 2),(nI 30)] #[51,3,3]),aO 3 8] [0,2,3] (.seq (sR [mO 9 3,oO 10 (.binOp .geq 3 (xT 9) (nI 536870912) 3)] [0,2,3,10] (cD 10 (.reg [mO 11 3,oO 12 (.binOp .sub 3 (xT 11) (nI 1073741824) 3),aO 3 12] [0,2,3]) (.skip))) (.keep [0,2,3] It)))))
theorem O6:AX Tryz.prog 89 42 [(.cell 2 135)] I6:=Aq Tryz.func89
@[simp] theorem Ai3:Tryz.prog.underlying 5=some (.int .u8):=by kernel_rfl
@[simp] theorem Ais:Tryz.prog.underlying 22=some (.slice 51):=by kernel_rfl
@[simp] theorem AfS:Tryz.prog.underlying 249=some (.array 8 5):=by kernel_rfl
@[simp] theorem Agx:Tryz.prog.underlying 253=some (.slice 5):=by kernel_rfl
@[simp] theorem AfK:Tryz.prog.underlying 270=some (.array 6 3):=by kernel_rfl
@[simp] theorem AiK:CF Tryz.prog 5=some 1:=by kernel_rfl
@[simp] theorem AhK:CF Tryz.prog 51=some 1:=by kernel_rfl
@[simp] theorem Ahd:CF Tryz.prog 249=some 8:=by kernel_rfl
@[simp] theorem Ae2:CF Tryz.prog 270=some 6:=by kernel_rfl
@[simp] theorem Ahv:CZ Tryz.prog 5=some false:=by kernel_rfl
@[simp] theorem Agw:CZ Tryz.prog 51=some false:=by kernel_rfl
@[simp] theorem AdM:CZ Tryz.prog 249=some true:=by kernel_rfl
@[simp] theorem Ael:Bi Tryz.prog 51=some (Value.int IntKind.u64 0):=by kernel_rfl
@[simp] theorem z5:Bi Tryz.prog 249=some (Value.agg #[Value.int IntKind.u8 0,Value.int IntKind.u8 0,Value.int IntKind.u8 0,Value.int IntKind.u8 0,Value.int IntKind.u8 0,Value.int IntKind.u8 0,Value.int IntKind.u8 0,Value.int IntKind.u8 0]):=by kernel_rfl
@[simp] theorem AaS:Bi Tryz.prog 270=some (Value.agg #[Value.int IntKind.i64 0,Value.int IntKind.i64 0,Value.int IntKind.i64 0,Value.int IntKind.i64 0,Value.int IntKind.i64 0,Value.int IntKind.i64 0]):=by kernel_rfl
@[simp] theorem Aa9:BF Tryz.prog 51=some 8:=by kernel_rfl
@[simp] theorem xq (ps:List (Nat × A)):Bt Tryz.prog 249 ps=(BP (fun i=>some (i*1,1)) [A.v (Value.int IntKind.u8 0),A.v (Value.int IntKind.u8 0),A.v (Value.int IntKind.u8 0),A.v (Value.int IntKind.u8 0),A.v (Value.int IntKind.u8 0),A.v (Value.int IntKind.u8 0),A.v (Value.int IntKind.u8 0),A.v (Value.int IntKind.u8 0)] ps).map A.agg:=by kernel_rfl
@[simp] theorem wF (ps:List (Nat × A)):Bt Tryz.prog 270 ps=(BP (fun i=>some (i*1,1)) [A.v (Value.int IntKind.i64 0),A.v (Value.int IntKind.i64 0),A.v (Value.int IntKind.i64 0),A.v (Value.int IntKind.i64 0),A.v (Value.int IntKind.i64 0),A.v (Value.int IntKind.i64 0)] ps).map A.agg:=by kernel_rfl
def Kl:CC:=sR [oO 2 (.assign (nI 0))] [0] (.seq (sR [mO 3 0] [3] (.block 0 (sR [oO 5 (.binOp .eql 3 (xT 3) (nI 0) 3),aO 4 5] [3,4] (cD 4 (sR [oO 2 (.assign (nI 0))] [2] (.ret)) (sR [oO 7 (.binOp .eql 3 (xT 3) (nI 1) 3),aO 6 7] [3,6] (cD 6 (sR [oO 2 (.assign (nI 1))] [2] (.ret)) (sR [oO 9 (.binOp .eql 3 (xT 3) (nI 2) 3),aO 8 9] [3,8] (cD 8 (sR [oO 2 (.assign (nI 8))] [2] (.ret)) (sR [oO 11 (.binOp .eql 3 (xT 3) (nI 3) 3),aO 10 11] [3,10] (cD 10 (sR [oO 2 (.assign (nI 16))] [2] (.ret)) (sR [oO 13 (.binOp .eql 3 (xT 3) (nI 4) 3),aO 12 13] [3,12] (cD 12 (sR [oO 2 (.assign (nI 32))] [2] (.ret)) (sR [oO 15 (.binOp .eql 3 (xT 3) (nI 5) 3),aO 14 15] [14] (cD 14 (sR [oO 2 (.assign (nI 64))] [2] (.ret)) (.skip))))))))))))))) (.keep [] (sR [oO 2 (.assign (.const (.int .i64 (-1))))] [2] (.ret))))
theorem Qi:AX Tryz.prog 109 16 [(.tmp 2)] Kl:=Aq Tryz.func109
def ED:CC:=.seq (sR [mO 11 5,mO 12 0,oO 13 (bL 12 22),oO 14 (bO .lss 3 11 13 3)] [0,1,5,14] (cD 14 (.skip) (.exit 0))) (.keep [0,1,5] (.seq (.block 1 (sR [mO 17 0,mO 18 5,oO 19 (iA 22 17 18),lO 20 51 19,mO 21 1,mO 22 5,oO 23 (iA 22 21 22),lO 24 51 23,oO 25 (bO .neq 51 20 24 51)] [0,1,5,25] (cD 25 (sR [oO 4 (.assign (nB false))] [4] (.ret)) (.skip)))) (.keep [0,1,5] (.reg [mO 15 5,oO 16 (.binOp .add 3 (xT 15) (nI 1) 3),aO 5 16] [0,1,5])))) 
def Ku:CC:=sR [oO 4 (.assign (nB false))] [0,1] (.seq (sR [mO 6 0,oO 7 (bL 6 22),mO 8 1,oO 9 (bL 8 22),oO 10 (bO .neq 3 7 9 3)] [0,1,10] (cD 10 (sR [oO 4 (.assign (nB false))] [4] (.ret)) (.skip))) (.keep [0,1] (.seq (sR [oO 5 (.assign (nI 0))] [0,1,5] (.block 0 (.loop ED))) (.keep [] (sR [oO 4 (.assign (nB true))] [4] (.ret))))))
theorem St:AX Tryz.prog 38 26 [(.tmp 4)] Ku:=Aq Tryz.func38
def DW:CC:=.seq (sR [mO 6 4,oO 7 (.binOp .lss 3 (xT 6) (nI 8) 3)] [0,2,3,4,7] (cD 7 (.skip) (.exit 0))) (.keep [0,2,3,4] (.seq (.block 1 (sR [mO 10 4,mO 11 0,oO 12 (.binOp .rem 51 (xT 11) (.const (.int .u64 256)) 51),oO 13 (.convert 51 5 (xT 12)),oO 14 (iA 249 3 10),oS (.store 5 (xT 14) (xT 13))] [0,2,3,4] (.reg [mO 15 0,oO 16 (.binOp .quo 51 (xT 15) (.const (.int .u64 256)) 51),aO 0 16] [0,2,3,4]))) (.reg [mO 8 4,oO 9 (.binOp .add 3 (xT 8) (nI 1) 3),aO 4 9] [0,2,3,4]))) 
def JF:CC:=sR [oN 2 (.alloc 249) [0]] [0,2] (sR [oO 5 (.build 249 #[]),oN 3 (.alloc 249) [1],oS (.store 249 (xT 3) (xT 5))] [0,2,3] (.seq (sR [oO 4 (.assign (nI 0))] [0,2,3,4] (.block 0 (.loop DW))) (.keep [2,3] (sR [lO 17 249 3,oS (.store 249 (xT 2) (xT 17))] [2] (.ret)))))
theorem Qv:AX Tryz.prog 208 18 [(.cell 2 249)] JF:=Aq Tryz.func208
def DX:CC:=.seq (sR [mO 6 5,mO 7 1,oO 8 (bO .lss 3 6 7 3)] [0,1,5,8] (cD 8 (.skip) (.exit 0))) (.keep [0,1,5] (.seq (.block 1 (.reg [mO 11 0,oO 12 (.binOp .quo 5 (xT 11) (.const (.int .u8 2)) 5),aO 0 12] [0,1,5])) (.reg [mO 9 5,oO 10 (.binOp .add 3 (xT 9) (nI 1) 3),aO 5 10] [0,1,5]))) 
def JQ:CC:=sR [oO 4 (.assign (nB false))] [0,1] (.seq (sR [oO 5 (.assign (nI 0))] [0,1,5] (.block 0 (.loop DX))) (.keep [0] (sR [mO 13 0,oO 14 (.binOp .rem 5 (xT 13) (.const (.int .u8 2)) 5),oO 15 (.binOp .eql 5 (xT 14) (.const (.int .u8 1)) 5),aO 4 15] [4] (.ret))))
theorem QA:AX Tryz.prog 209 16 [(.tmp 4)] JQ:=Aq Tryz.func209
def F0:CC:=.seq (sR [mO 7 6,oO 8 (.binOp .geq 3 (xT 7) (nI 0) 3)] [0,1,5,6,8] (cD 8 (.skip) (.exit 0))) (.keep [0,1,5,6] (.seq (.block 1 (.reg [mO 11 5,oO 12 (.binOp .mul 51 (xT 11) (.const (.int .u64 256)) 51),mO 13 0,mO 14 1,mO 15 6,oO 16 (bO .add 3 14 15 3),oO 17 (iA 253 13 16),lO 18 5 17,oO 19 (.convert 5 51 (xT 18)),oO 20 (bO .add 51 12 19 51),aO 5 20] [0,1,5,6])) (.reg [mO 9 6,oO 10 (.binOp .sub 3 (xT 9) (nI 1) 3),aO 6 10] [0,1,5,6]))) 
def Nc:CC:=sR [oO 4 (.assign (.const (.int .u64 0)))] [0,1] (sR [oO 5 (.assign (.const (.int .u64 0)))] [0,1,5] (.seq (sR [oO 6 (.assign (nI 7))] [0,1,5,6] (.block 0 (.loop F0))) (.keep [5] (sR [mO 21 5,aO 4 21] [4] (.ret)))))
theorem UL:AX Tryz.prog 210 22 [(.tmp 4)] Nc:=Aq Tryz.func210
def E9:CC:=.seq (sR [mO 14 9,oO 15 (.binOp .lss 3 (xT 14) (nI 8) 3)] [2,7,8,9,15] (cD 15 (.skip) (.exit 0))) (.keep [2,7,8,9] (.seq (.block 1 (sR [mO 18 2,mO 19 9,oO 20 (cL 209 #[(xT 18),(xT 19)] #[5,3])] [2,7,8,9,20] (cD 20 (.reg [mO 21 9,mO 22 9,oO 23 (iA 249 8 22),lO 24 5 23,oO 25 (iA 249 7 21),oS (.store 5 (xT 25) (xT 24))] [2,7,8,9]) (.skip)))) (.keep [2,7,8,9] (.reg [mO 16 9,oO 17 (.binOp .add 3 (xT 16) (nI 1) 3),aO 9 17] [2,7,8,9])))) 
def Mg:CC:=sR [oO 6 (.assign (.const (.int .u64 0)))] [0,1,2] (sR [mO 10 0,oO 11 (cL 208 #[(xT 10)] #[51]),mO 12 1,oO 13 (cL 208 #[(xT 12)] #[51]),oN 7 (.alloc 249) [0],oN 8 (.alloc 249) [1],oS (.store 249 (xT 7) (xT 11)),oS (.store 249 (xT 8) (xT 13))] [2,7,8] (.seq (sR [oO 9 (.assign (nI 0))] [2,7,8,9] (.block 0 (.loop E9))) (.keep [7] (.stop (sR [oO 26 (.slice 249 (xT 7) none none none),oO 27 (cL 210 #[(xT 26),(nI 0)] #[253,3]),aO 6 27] [6] (.ret))))))
theorem TE:AX Tryz.prog 163 28 [(.tmp 6)] Mg:=Aq Tryz.func163
def EZ:CC:=.seq (sR [mO 21 6,mO 22 1,oO 23 (.binOp .rem 3 (xT 22) (nI 64) 3),oO 24 (bO .lss 3 21 23 3)] [1,5,6,24] (cD 24 (.skip) (.exit 0))) (.keep [1,5,6] (.seq (.block 1 (.reg [mO 27 5,oO 28 (.binOp .quo 51 (xT 27) (.const (.int .u64 2)) 51),aO 5 28] [1,5,6])) (.reg [mO 25 6,oO 26 (.binOp .add 3 (xT 25) (nI 1) 3),aO 6 26] [1,5,6]))) 
def LF:CC:=sR [oO 4 (.assign (.const (.int .u64 0)))] [0,1] (.seq (sR [mO 7 1,oO 8 (.binOp .lss 3 (xT 7) (nI 0) 3),mO 9 8,oG 10 (mV 1) 9 false,oG 11 (.binOp .quo 3 (xT 10) (nI 64) 3) 9 false,oG 12 (mV 0) 9 false,oG 13 (bL 12 22) 9 false,oG 14 (bO .geq 3 11 13 3) 9 false,oO 15 (.pick (xT 9) (nB true) (xT 14))] [0,1,15] (cD 15 (sR [oO 4 (.assign (.const (.int .u64 0)))] [4] (.ret)) (.skip))) (.keep [0,1] (sR [mO 16 0,mO 17 1,oO 18 (.binOp .quo 3 (xT 17) (nI 64) 3),oO 19 (iA 22 16 18),lO 20 51 19,aO 5 20] [1,5] (.seq (sR [oO 6 (.assign (nI 0))] [1,5,6] (.block 0 (.loop EZ))) (.keep [5] (sR [mO 29 5,oO 30 (.binOp .rem 51 (xT 29) (.const (.int .u64 2)) 51),aO 4 30] [4] (.ret)))))))
theorem TQ:AX Tryz.prog 196 31 [(.tmp 4)] LF:=Aq Tryz.func196
def EY:CC:=.seq (sR [mO 24 9,oO 25 (.binOp .geq 3 (xT 24) (nI 0) 3)] [0,2,7,8,9,25] (cD 25 (.skip) (.exit 0))) (.keep [0,2,7,8,9] (.seq (.block 1 (.reg [mO 28 8,oO 29 (.binOp .mul 51 (xT 28) (.const (.int .u64 2)) 51),mO 30 0,mO 31 2,mO 32 7,oO 33 (bO .mul 3 31 32 3),mO 34 9,oO 35 (bO .add 3 33 34 3),oO 36 (cL 196 #[(xT 30),(xT 35)] #[22,3]),oO 37 (bO .add 51 29 36 51),aO 8 37] [0,2,7,8,9])) (.reg [mO 26 9,oO 27 (.binOp .sub 3 (xT 26) (nI 1) 3),aO 9 27] [0,2,7,8,9]))) 
def L4:CC:=sR [oO 6 (.assign (.const (.int .u64 0)))] [0,1,2] (sR [mO 10 1,oO 11 (cL 109 #[(xT 10)] #[3]),aO 7 11] [0,2,7] (.seq (sR [mO 12 7,oO 13 (.binOp .lss 3 (xT 12) (nI 1) 3),mO 14 13,oG 15 (mV 2) 14 false,oG 16 (.binOp .lss 3 (xT 15) (nI 0) 3) 14 false,oO 17 (.pick (xT 14) (nB true) (xT 16)),mO 18 17,oG 19 (mV 2) 18 false,oG 20 (.binOp .gtr 3 (xT 19) (nI 1099511627776) 3) 18 false,oO 21 (.pick (xT 18) (nB true) (xT 20))] [0,2,7,21] (cD 21 (sR [oO 6 (.assign (.const (.int .u64 0)))] [6] (.ret)) (.skip))) (.keep [0,2,7] (sR [oO 8 (.assign (.const (.int .u64 0)))] [0,2,7,8] (.seq (sR [mO 22 7,oO 23 (.binOp .sub 3 (xT 22) (nI 1) 3),aO 9 23] [0,2,7,8,9] (.block 0 (.loop EY))) (.keep [8] (sR [mO 38 8,aO 6 38] [6] (.ret))))))))
theorem Ta:AX Tryz.prog 146 39 [(.tmp 6)] L4:=Aq Tryz.func146
def Ri:CC:=sR [oO 2 (.assign (nI 0)),oO 3 (.assign (nB false))] [0] (sR [oO 5 (.build 270 #[(0,(nI 0)),(1,(nI 1)),(2,(nI 8)),(3,(nI 16)),(4,(nI 32)),(5,(nI 64))]),oN 4 (.alloc 270) [0],oS (.store 270 (xT 4) (xT 5))] [0,4] (.seq (sR [mO 6 0,oO 7 (.binOp .lss 3 (xT 6) (nI 0) 3),mO 8 7,oG 9 (mV 0) 8 false,oG 10 (.binOp .geq 3 (xT 9) (nI 6) 3) 8 false,oO 11 (.pick (xT 8) (nB true) (xT 10))] [0,4,11] (cD 11 (sR [oO 2 (.assign (nI 0)),oO 3 (.assign (nB false))] [2,3] (.ret)) (.skip))) (.keep [0,4] (sR [mO 12 0,oO 13 (iA 270 4 12),lO 14 3 13,aO 2 14,oO 3 (.assign (nB true))] [2,3] (.ret)))))
theorem ao:AX Tryz.prog 185 15 [(.tmp 2),(.tmp 3)] Ri:=Aq Tryz.func185
def SJ:CC:=sR [oO 2 (.assign (nI 0)),oO 3 (.assign (nB false))] [0] (sR [mO 4 0,oO 5 (cL 185 #[(xT 4)] #[3]),xO 6 5 0,xO 7 5 1,aO 2 6,aO 3 7] [2,3] (.ret))
theorem Za:AX Tryz.prog 254 8 [(.tmp 2),(.tmp 3)] SJ:=Aq Tryz.func254
def Xc:CC:=sR [oO 6 (.assign (.const (.int .u64 0)))] [0,1,2] (sR [mO 11 1,oO 12 (cL 185 #[(xT 11)] #[3]),mO 10 12,xO 13 10 0,xO 14 10 1,aO 7 13,aO 8 14] [0,2,7,8] (.seq (sR [mO 15 8,oO 16 (.unOp .not 4 (xT 15)),mO 17 16,oG 18 (mV 7) 17 false,oG 19 (.binOp .eql 3 (xT 18) (nI 0) 3) 17 false,oO 20 (.pick (xT 17) (nB true) (xT 19)),mO 21 20,oG 22 (mV 2) 21 false,oG 23 (.binOp .lss 3 (xT 22) (nI 0) 3) 21 false,oO 24 (.pick (xT 21) (nB true) (xT 23)),mO 25 24,oG 26 (mV 2) 25 false,oG 27 (.binOp .gtr 3 (xT 26) (nI 1099511627776) 3) 25 false,oO 28 (.pick (xT 25) (nB true) (xT 27)),mO 29 28,oG 30 (mV 2) 29 false,oG 31 (mV 7) 29 false,oG 32 (bO .mul 3 30 31 3) 29 false,oG 33 (.binOp .quo 3 (xT 32) (nI 64) 3) 29 false,oG 34 (mV 0) 29 false,oG 35 (bL 34 22) 29 false,oG 36 (bO .geq 3 33 35 3) 29 false,oO 37 (.pick (xT 29) (nB true) (xT 36))] [0,2,7,37] (cD 37 (sR [oO 6 (.assign (.const (.int .u64 0)))] [6] (.ret)) (.skip))) (.keep [0,2,7] (sR [mO 38 0,mO 39 2,mO 40 7,oO 41 (bO .mul 3 39 40 3),oO 42 (.binOp .quo 3 (xT 41) (nI 64) 3),oO 43 (iA 22 38 42),lO 44 51 43,mO 45 2,mO 46 7,oO 47 (bO .mul 3 45 46 3),oO 48 (.binOp .rem 3 (xT 47) (nI 64) 3),oO 49 (bO .shr 51 44 48 3),aO 9 49] [7,9] (.seq (sR [mO 50 7,oO 51 (.binOp .eql 3 (xT 50) (nI 64) 3)] [7,9,51] (cD 51 (sR [mO 52 9,aO 6 52] [6] (.ret)) (.skip))) (.keep [7,9] (sR [mO 53 9,mO 54 7,oO 55 (.binOp .shl 51 (.const (.int .u64 1)) (xT 54) 3),oO 56 (.binOp .sub 51 (xT 55) (.const (.int .u64 1)) 51),oO 57 (bO .and 51 53 56 51),aO 6 57] [6] (.ret))))))))
theorem eY:AX Tryz.prog 255 58 [(.tmp 6)] Xc:=Aq Tryz.func255
def Er:CC:=.seq (sR [mO 7 3,oO 8 (.binOp .gtr 3 (xT 7) (nI 0) 3),mO 9 8,oG 10 (mV 0) 9 true,oG 11 (mV 3) 9 true,oG 12 (.binOp .sub 3 (xT 11) (nI 1) 3) 9 true,oG 13 (iA 22 10 12) 9 true,oG 14 (lD 51 13) 9 true,oG 15 (.binOp .eql 51 (xT 14) (.const (.int .u64 0)) 51) 9 true,oO 16 (.pick (xT 9) (xT 15) (nB false))] [0,3,16] (cD 16 (.skip) (.exit 0))) (.keep [0,3] (.block 1 (.reg [mO 17 3,oO 18 (.binOp .sub 3 (xT 17) (nI 1) 3),aO 3 18] [0,3]))) 
def K3:CC:=sR [oO 2 (.assign nS)] [0] (sR [mO 5 0,oO 6 (bL 5 22),aO 3 6] [0,3] (.seq (.block 0 (.loop Er)) (.keep [0,3] (sR [oO 4 (.assign nS)] [0,3,4] (sR [mO 19 4,mO 20 0,mO 21 3,oO 22 (.slice 22 (xT 20) none (some (xT 21)) none),oN 23 (bC .append #[(xT 19),(xT 22)] #[22,22]) [0],aO 2 23] [2] (.ret))))))
theorem Rj:AX Tryz.prog 64 24 [(.tmp 2)] K3:=Aq Tryz.func64
@[simp] theorem AhD:Tryz.prog.underlying 41=some (.slice 22):=by kernel_rfl
@[simp] theorem AhP:Tryz.prog.underlying 50=some (.pointer 133):=by kernel_rfl
@[simp] theorem Ag5:Tryz.prog.underlying 327=some (.array 7 3):=by kernel_rfl
@[simp] theorem Ah4:CF Tryz.prog 22=some 1:=by kernel_rfl
@[simp] theorem Ah5:CF Tryz.prog 41=some 1:=by kernel_rfl
@[simp] theorem Ag8:CF Tryz.prog 137=some 10:=by kernel_rfl
@[simp] theorem AfV:CF Tryz.prog 198=some 10:=by kernel_rfl
@[simp] theorem AgI:CF Tryz.prog 327=some 7:=by kernel_rfl
@[simp] theorem AfE:CZ Tryz.prog 22=some false:=by kernel_rfl
@[simp] theorem Agk:CZ Tryz.prog 41=some false:=by kernel_rfl
@[simp] theorem Ac3:CZ Tryz.prog 137=some true:=by kernel_rfl
@[simp] theorem Aeg:CZ Tryz.prog 198=some true:=by kernel_rfl
@[simp] theorem AdV:Bi Tryz.prog 22=some (Value.slice none 0 0):=by kernel_rfl
@[simp] theorem Aap:Bi Tryz.prog 137=some (Value.agg #[Value.int IntKind.i64 0,Value.int IntKind.i64 0,Value.int IntKind.i64 0,Value.int IntKind.i64 0,Value.int IntKind.i64 0,Value.int IntKind.i64 0,Value.int IntKind.i64 0,Value.bool false,Value.int IntKind.i64 0,Value.int IntKind.i64 0]):=by kernel_rfl
@[simp] theorem AaL:Bi Tryz.prog 198=some (Value.agg #[Value.int IntKind.i64 0,Value.int IntKind.i64 0,Value.int IntKind.i64 0,Value.int IntKind.i64 0,Value.int IntKind.i64 0,Value.int IntKind.i64 0,Value.int IntKind.i64 0,Value.bool false,Value.int IntKind.i64 0,Value.int IntKind.i64 0]):=by kernel_rfl
@[simp] theorem AaB:Bi Tryz.prog 327=some (Value.agg #[Value.int IntKind.i64 0,Value.int IntKind.i64 0,Value.int IntKind.i64 0,Value.int IntKind.i64 0,Value.int IntKind.i64 0,Value.int IntKind.i64 0,Value.int IntKind.i64 0]):=by kernel_rfl
@[simp] theorem AaO:BF Tryz.prog 22=some 24:=by kernel_rfl
@[simp] theorem mI:Ak Tryz.prog 133 0=some 0:=by kernel_rfl
@[simp] theorem m7:Ak Tryz.prog 135 0=some 0:=by kernel_rfl
@[simp] theorem mN:Ak Tryz.prog 135 1=some 1:=by kernel_rfl
@[simp] theorem ma:Ak Tryz.prog 135 2=some 2:=by kernel_rfl
@[simp] theorem mS:Ak Tryz.prog 135 3=some 3:=by kernel_rfl
@[simp] theorem mh:Ak Tryz.prog 135 4=some 4:=by kernel_rfl
@[simp] theorem m4:Ak Tryz.prog 135 5=some 5:=by kernel_rfl
@[simp] theorem l9:Ak Tryz.prog 135 6=some 6:=by kernel_rfl
@[simp] theorem mn:Ak Tryz.prog 135 7=some 7:=by kernel_rfl
@[simp] theorem my:Ak Tryz.prog 137 0=some 0:=by kernel_rfl
@[simp] theorem mT:Ak Tryz.prog 137 1=some 8:=by kernel_rfl
@[simp] theorem mR:Ak Tryz.prog 137 2=some 9:=by kernel_rfl
@[simp] theorem nb:Ak Tryz.prog 198 0=some 0:=by kernel_rfl
@[simp] theorem mP:Ak Tryz.prog 198 1=some 8:=by kernel_rfl
@[simp] theorem mi:Ak Tryz.prog 198 2=some 9:=by kernel_rfl
@[simp] theorem yU (ps:List (Nat × A)):Bt Tryz.prog 133 ps=(BP (fun i=>([(0,1),(1,1),(2,1),(3,1)]:List (Nat × Nat))[i]?) [A.sl true [],A.v (Value.int IntKind.i64 0),A.v (Value.int IntKind.i64 0),A.v (Value.int IntKind.i64 0)] ps).map A.agg:=by kernel_rfl
@[simp] theorem xC (ps:List (Nat × A)):Bt Tryz.prog 137 ps=(BP (fun i=>([(0,8),(8,1),(9,1)]:List (Nat × Nat))[i]?) [A.v (Value.int IntKind.i64 0),A.v (Value.int IntKind.i64 0),A.v (Value.int IntKind.i64 0),A.v (Value.int IntKind.i64 0),A.v (Value.int IntKind.i64 0),A.v (Value.int IntKind.i64 0),A.v (Value.int IntKind.i64 0),A.v (Value.bool false),A.v (Value.int IntKind.i64 0),A.v (Value.int IntKind.i64 0)] ps).map A.agg:=by kernel_rfl
@[simp] theorem xh (ps:List (Nat × A)):Bt Tryz.prog 198 ps=(BP (fun i=>([(0,8),(8,1),(9,1)]:List (Nat × Nat))[i]?) [A.v (Value.int IntKind.i64 0),A.v (Value.int IntKind.i64 0),A.v (Value.int IntKind.i64 0),A.v (Value.int IntKind.i64 0),A.v (Value.int IntKind.i64 0),A.v (Value.int IntKind.i64 0),A.v (Value.int IntKind.i64 0),A.v (Value.bool false),A.v (Value.int IntKind.i64 0),A.v (Value.int IntKind.i64 0)] ps).map A.agg:=by kernel_rfl
@[simp] theorem xb (ps:List (Nat × A)):Bt Tryz.prog 327 ps=(BP (fun i=>some (i*1,1)) [A.v (Value.int IntKind.i64 0),A.v (Value.int IntKind.i64 0),A.v (Value.int IntKind.i64 0),A.v (Value.int IntKind.i64 0),A.v (Value.int IntKind.i64 0),A.v (Value.int IntKind.i64 0),A.v (Value.int IntKind.i64 0)] ps).map A.agg:=by kernel_rfl
def BR:CC:=sR [oO 2 (.assign nS)] [0] (.seq (sR [mO 3 0,oO 4 (.binOp .eql 22 (xT 3) nS 22)] [0,4] (cD 4 (sR [oO 2 (.assign nS)] [2] (.ret)) (.skip))) (.keep [0] (sR [oO 5 (.buildSlice 22 0 #[]),mO 6 0,oN 7 (bC .append #[(xT 5),(xT 6)] #[22,22]) [0],aO 2 7] [2] (.ret))))
theorem CN:AX Tryz.prog 63 8 [(.tmp 2)] BR:=Aq Tryz.func63
def Ks:CC:=sR [oO 11 (bO .lss 3 10 9 3)] [3,8,9,10,11] (.seq (cD 11 (.skip) (.exit 0)) (.keep [3,8,9,10] (.seq (.block 1 (sR [oO 12 (iA 41 8 10),lO 13 22 12,aO 5 13] [3,5,8,9,10] (.reg [mO 14 3,mO 15 3,oO 16 (.nilCheck (xT 15)),fO 17 133 16 0,⟨some 18,(lD 41 17),none,[],4,[],true⟩,mO 19 5,⟨some 20,(cL 63 #[(xT 19)] #[22]),none,[],6,[4],false⟩,⟨some 21,(.buildSlice 41 1 #[(0,(xT 20))]),none,[],7,[4],false⟩,oN 22 (bC .append #[(xT 18),(xT 21)] #[41,41]) [1],oO 23 (.nilCheck (xT 14)),fO 24 133 23 0,oS (.store 41 (xT 24) (xT 22))] [3,8,9,10]))) (.reg [oO 25 (.binOp .add 3 (xT 10) (nI 1) 3),mO 10 25] [3,8,9,10])))) 
def Wu:CC:=sR [oO 2 (.assign (.const (.pointer none)))] [0] (sR [oO 6 (.build 133 #[]),oN 7 (.box 133 (xT 6)) [0],aO 3 7] [0,3] (.seq (sR [mO 8 0,oO 9 (bL 8 41),oO 10 (.move (nI 0))] [3,8,9,10] (.block 0 (.loop Ks))) (.keep [3] (sR [mO 26 3,aO 2 26] [2] (.ret)))))
theorem gT:AX Tryz.prog 43 27 [(.tmp 2)] Wu:=Aq Tryz.func43
def KQ:CC:=sR [oO 2 (.assign (nI 0))] [0] (.seq (sR [mO 3 0,oO 4 (.binOp .eql 50 (xT 3) (.const (.pointer none)) 50)] [0,4] (cD 4 (sR [oO 2 (.assign (nI 0))] [2] (.ret)) (.skip))) (.keep [0] (sR [mO 5 0,oO 6 (.nilCheck (xT 5)),fO 7 133 6 0,lO 8 41 7,oO 9 (bL 8 41),aO 2 9] [2] (.ret))))
theorem SQ:AX Tryz.prog 257 10 [(.tmp 2)] KQ:=Aq Tryz.func257
def Kb:CC:=sR [oO 4 (.assign (nI 0))] [0,1] (.seq (sR [mO 5 1,oO 6 (.binOp .lss 3 (xT 5) (nI 0) 3),mO 7 6,oG 8 (mV 1) 7 false,oG 9 (mV 0) 7 false,oG 10 (cL 257 #[(xT 9)] #[50]) 7 false,oG 11 (bO .geq 3 8 10 3) 7 false,oO 12 (.pick (xT 7) (nB true) (xT 11))] [0,1,12] (cD 12 (sR [oO 4 (.assign (nI 0))] [4] (.ret)) (.skip))) (.keep [0,1] (sR [mO 13 0,oO 14 (.nilCheck (xT 13)),fO 15 133 14 0,lO 16 41 15,mO 17 1,oO 18 (iA 41 16 17),lO 19 22 18,oO 20 (bL 19 22),aO 4 20] [4] (.ret))))
theorem Qd:AX Tryz.prog 256 21 [(.tmp 4)] Kb:=Aq Tryz.func256
def KT:CC:=sR [oO 8 (.assign (nB false))] [0,1,2,3] (sR [mO 10 0,mO 11 1,oO 12 (cL 256 #[(xT 10),(xT 11)] #[50,3]),aO 9 12] [0,1,2,3,9] (sR [mO 13 1,oO 14 (.binOp .geq 3 (xT 13) (nI 0) 3),mO 15 14,oG 16 (mV 1) 15 true,oG 17 (mV 0) 15 true,oG 18 (cL 257 #[(xT 17)] #[50]) 15 true,oG 19 (bO .lss 3 16 18 3) 15 true,oO 20 (.pick (xT 15) (xT 19) (nB false)),mO 21 20,oG 22 (mV 2) 21 true,oG 23 (.binOp .geq 3 (xT 22) (nI 0) 3) 21 true,oO 24 (.pick (xT 21) (xT 23) (nB false)),mO 25 24,oG 26 (mV 3) 25 true,oG 27 (.binOp .geq 3 (xT 26) (nI 0) 3) 25 true,oO 28 (.pick (xT 25) (xT 27) (nB false)),mO 29 28,oG 30 (mV 3) 29 true,oG 31 (mV 9) 29 true,oG 32 (bO .leq 3 30 31 3) 29 true,oO 33 (.pick (xT 29) (xT 32) (nB false)),mO 34 33,oG 35 (mV 2) 34 true,oG 36 (mV 9) 34 true,oG 37 (mV 3) 34 true,oG 38 (bO .sub 3 36 37 3) 34 true,oG 39 (bO .leq 3 35 38 3) 34 true,oO 40 (.pick (xT 34) (xT 39) (nB false)),aO 8 40] [8] (.ret)))
theorem Si:AX Tryz.prog 234 41 [(.tmp 8)] KT:=Aq Tryz.func234
def KB:CC:=sR [oO 6 (.assign (.const (.int .u64 0))),oO 7 (.assign (nB false))] [0,1,2] (.seq (sR [mO 8 0,mO 9 1,mO 10 2,oO 11 (cL 234 #[(xT 8),(xT 9),(xT 10),(nI 1)] #[50,3,3,3]),oO 12 (.unOp .not 4 (xT 11))] [0,1,2,12] (cD 12 (sR [oO 6 (.assign (.const (.int .u64 0))),oO 7 (.assign (nB false))] [6,7] (.ret)) (.skip))) (.keep [0,1,2] (sR [mO 13 0,oO 14 (.nilCheck (xT 13)),fO 15 133 14 0,lO 16 41 15,mO 17 1,oO 18 (iA 41 16 17),lO 19 22 18,mO 20 2,oO 21 (iA 22 19 20),lO 22 51 21,aO 6 22,oO 7 (.assign (nB true))] [6,7] (.ret))))
theorem Sj:AX Tryz.prog 198 23 [(.tmp 6),(.tmp 7)] KB:=Aq Tryz.func198
def Kd:CC:=sR [oO 8 (.assign nS),oO 9 (.assign (nB false))] [0,1,2,3] (.seq (sR [mO 10 0,mO 11 1,mO 12 2,mO 13 3,oO 14 (cL 234 #[(xT 10),(xT 11),(xT 12),(xT 13)] #[50,3,3,3]),oO 15 (.unOp .not 4 (xT 14))] [0,1,2,3,15] (cD 15 (sR [oO 8 (.assign nS),oO 9 (.assign (nB false))] [8,9] (.ret)) (.skip))) (.keep [0,1,2,3] (sR [mO 16 0,oO 17 (.nilCheck (xT 16)),fO 18 133 17 0,lO 19 41 18,mO 20 1,oO 21 (iA 41 19 20),lO 22 22 21,mO 23 2,mO 24 2,mO 25 3,oO 26 (bO .add 3 24 25 3),oO 27 (.slice 22 (xT 22) (some (xT 23)) (some (xT 26)) none),oO 28 (cL 63 #[(xT 27)] #[22]),aO 8 28,oO 9 (.assign (nB true))] [8,9] (.ret))))
theorem Qk:AX Tryz.prog 245 29 [(.tmp 8),(.tmp 9)] Kd:=Aq Tryz.func245
def M6:CC:=sR [oN 1 (.box 175 (xT 0)) [0],oO 2 (.assign (nI 0)),oO 3 (.assign (nB false))] [1] (sR [oO 5 (.build 327 #[(0,(nI 0)),(1,(nI 1)),(2,(nI 8)),(3,(nI 16)),(4,(nI 32)),(5,(nI 64)),(6,(nI 64))]),oN 4 (.alloc 327) [1],oS (.store 327 (xT 4) (xT 5))] [1,4] (.seq (.block 0 (sR [fO 7 175 1 0,lO 8 3 7,oO 9 (.binOp .eql 3 (xT 8) (nI 1) 3),aO 6 9] [1,4,6] (cD 6 (sR [fO 10 175 1 2,lO 11 3 10,fO 12 175 1 3,lO 13 3 12,oO 14 (bO .add 3 11 13 3),aO 2 14,oO 3 (.assign (nB true))] [2,3] (.ret)) (sR [fO 16 175 1 0,lO 17 3 16,oO 18 (.binOp .eql 3 (xT 17) (nI 2) 3),mO 19 18,oG 20 (fA 175 1 4) 19 true,oG 21 (lD 3 20) 19 true,oG 22 (.binOp .eql 3 (xT 21) (nI 7) 3) 19 true,oO 23 (.pick (xT 19) (xT 22) (nB false)),aO 15 23] [1,4,15] (cD 15 (sR [fO 24 175 1 5,lO 25 3 24,oO 26 (.binOp .add 3 (xT 25) (nI 1) 3),aO 2 26,oO 3 (.assign (nB true))] [2,3] (.ret)) (sR [fO 28 175 1 0,lO 29 3 28,oO 30 (.binOp .eql 3 (xT 29) (nI 2) 3),mO 31 30,oG 32 (fA 175 1 4) 31 true,oG 33 (lD 3 32) 31 true,oG 34 (cL 225 #[(xT 33),(nI 6)] #[3,3]) 31 true,oO 35 (.pick (xT 31) (xT 34) (nB false)),mO 36 35,oG 37 (fA 175 1 5) 36 true,oG 38 (lD 3 37) 36 true,oG 39 (cL 225 #[(xT 38),(nI 536870911)] #[3,3]) 36 true,oO 40 (.pick (xT 36) (xT 39) (nB false)),aO 27 40] [1,4,27] (cD 27 (sR [fO 41 175 1 5,lO 42 3 41,fO 43 175 1 4,lO 44 3 43,oO 45 (iA 327 4 44),lO 46 3 45,oO 47 (bO .mul 3 42 46 3),oO 48 (.binOp .add 3 (xT 47) (nI 63) 3),oO 49 (.binOp .quo 3 (xT 48) (nI 64) 3),aO 2 49,oO 3 (.assign (nB true))] [2,3] (.ret)) (.skip)))))))) (.keep [] (sR [oO 2 (.assign (nI 0)),oO 3 (.assign (nB false))] [2,3] (.ret)))))
theorem UT:AX Tryz.prog 267 50 [(.tmp 2),(.tmp 3)] M6:=Aq Tryz.func267
def Se:CC:=sR [oN 3 (.box 198 (xT 1)) [0],oN 4 (.alloc 198) [1],oO 5 (.assign (nI 0))] [0,3,4] (sR [fO 9 198 3 0,lO 10 175 9,oO 11 (cL 267 #[(xT 10)] #[175]),mO 8 11,xO 12 8 0,xO 13 8 1,aO 6 12,aO 7 13] [0,3,4,6] (.seq (sR [mO 14 0,fO 15 198 3 1,lO 16 3 15,fO 17 198 3 2,lO 18 3 17,mO 19 6,oO 20 (cL 234 #[(xT 14),(xT 16),(xT 18),(xT 19)] #[50,3,3,3]),oO 21 (.unOp .not 4 (xT 20))] [3,4,21] (cD 21 (sR [oO 22 (.build 198 #[]),oS (.store 198 (xT 4) (xT 22)),oO 5 (.assign (nI 7))] [4,5] (.ret)) (.skip))) (.keep [3,4] (sR [fO 23 198 3 0,fO 24 175 23 1,oS (.store 3 (xT 24) (nI 0))] [3,4] (sR [lO 25 198 3,oS (.store 198 (xT 4) (xT 25)),oO 5 (.assign (nI 0))] [4,5] (.ret))))))
theorem Zl:AX Tryz.prog 244 26 [(.cell 4 198),(.tmp 5)] Se:=Aq Tryz.func244
def N4:CC:=cD 12 (sR [mO 15 0,lO 16 175 5,mO 17 2,mO 18 3,oO 19 (.binOp .add 3 (xT 18) (nI 1) 3),fO 20 175 5 1,lO 21 3 20,oO 22 (bO .add 3 19 21 3),oO 23 (.build 198 #[(0,(xT 16)),(1,(xT 17)),(2,(xT 22))]),oO 24 (cL 244 #[(xT 15),(xT 23)] #[50,198]),xO 25 24 0,xO 26 24 1,oS (.store 198 (xT 8) (xT 25)),aO 9 26] [8,9] (.ret)) (sR [oO 28 (.binOp .eql 3 (xT 11) (nI 4) 3),aO 27 28] [8,27] (cD 27 (sR [oO 29 (.build 198 #[]),oS (.store 198 (xT 8) (xT 29)),oO 9 (.assign (nI 9))] [8,9] (.ret)) (.skip))) 
def Wq:CC:=sR [oN 5 (.box 175 (xT 1)) [0],oN 8 (.alloc 198) [1],oO 9 (.assign (nI 0))] [0,2,3,5,8] (.seq (sR [fO 10 175 5 0,lO 11 3 10] [0,2,3,5,8,11] (.block 0 (.seq (sR [oO 13 (.binOp .eql 3 (xT 11) (nI 1) 3),aO 12 13] [0,2,3,5,8,11,12] (cD 12 (.skip) (.reg [oO 14 (.binOp .eql 3 (xT 11) (nI 2) 3),aO 12 14] [0,2,3,5,8,11,12]))) (.keep [0,2,3,5,8,11,12] N4)))) (.keep [8] (sR [oO 30 (.build 198 #[]),oS (.store 198 (xT 8) (xT 30)),oO 9 (.assign (nI 8))] [8,9] (.ret))))
theorem gn:AX Tryz.prog 205 31 [(.cell 8 198),(.tmp 9)] Wq:=Aq Tryz.func205
def Su:CC:=sR [oN 6 (.alloc 198) [0],oO 7 (.assign (nI 0))] [0,1,2,6] (sR [mO 13 0,mO 14 1,mO 15 2,oO 16 (cL 245 #[(xT 13),(xT 14),(xT 15),(nI 2)] #[50,3,3,3]),mO 12 16,xO 17 12 0,xO 18 12 1,aO 8 17,aO 9 18] [0,6,8,9] (.seq (sR [mO 19 9,oO 20 (.unOp .not 4 (xT 19))] [0,6,8,20] (cD 20 (sR [oO 21 (.build 198 #[]),oS (.store 198 (xT 6) (xT 21)),oO 7 (.assign (nI 7))] [6,7] (.ret)) (.skip))) (.keep [0,6,8] (sR [mO 22 8,oO 23 (.indexAddr 22 (xT 22) (nI 0)),⟨some 24,(lD 51 23),none,[],2,[],true⟩,⟨some 25,(cL 204 #[(xT 24)] #[51]),none,[],3,[],true⟩,mO 26 8,oO 27 (.indexAddr 22 (xT 26) (nI 1)),⟨some 28,(lD 51 27),none,[],6,[3],true⟩,⟨some 29,(cL 204 #[(xT 28)] #[51]),none,[],7,[],true⟩,⟨some 10,(.alloc 175),none,[1],8,[2,3,6,7],true⟩,⟨some 11,(.alloc 175),none,[2],9,[2,3,6,7,8],false⟩,oS (.store 175 (xT 10) (xT 25)),oS (.store 175 (xT 11) (xT 29))] [0,6,10,11] (.seq (.block 0 (sR [fO 31 175 10 0,lO 32 3 31,oO 33 (.binOp .neq 3 (xT 32) (nI 3) 3),mO 34 33,oG 35 (fA 175 10 7) 34 false,oG 36 (lD 4 35) 34 false,oO 37 (.pick (xT 34) (nB true) (xT 36)),aO 30 37] [0,6,10,11,30] (cD 30 (sR [oO 38 (.build 198 #[]),oS (.store 198 (xT 6) (xT 38)),oO 7 (.assign (nI 8))] [6,7] (.ret)) (sR [fO 40 175 11 0,lO 41 3 40,oO 42 (.binOp .eql 3 (xT 41) (nI 4) 3),aO 39 42] [0,6,10,11,39] (cD 39 (sR [oO 43 (.build 198 #[]),oS (.store 198 (xT 6) (xT 43)),oO 7 (.assign (nI 9))] [6,7] (.ret)) (sR [fO 45 175 11 0,lO 46 3 45,oO 47 (.binOp .neq 3 (xT 46) (nI 1) 3),mO 48 47,oG 49 (fA 175 11 0) 48 true,oG 50 (lD 3 49) 48 true,oG 51 (.binOp .neq 3 (xT 50) (nI 2) 3) 48 true,oO 52 (.pick (xT 48) (xT 51) (nB false)),mO 53 52,oG 54 (fA 175 11 1) 53 false,oG 55 (lD 3 54) 53 false,oG 56 (.binOp .neq 3 (xT 55) (nI 0) 3) 53 false,oO 57 (.pick (xT 53) (nB true) (xT 56)),aO 44 57] [0,6,10,11,44] (cD 44 (sR [oO 58 (.build 198 #[]),oS (.store 198 (xT 6) (xT 58)),oO 7 (.assign (nI 8))] [6,7] (.ret)) (.skip)))))))) (.keep [0,6,10,11] (sR [mO 59 0,lO 60 175 11,fO 61 175 10 6,lO 62 3 61,fO 63 175 10 1,lO 64 3 63,oO 65 (.build 198 #[(0,(xT 60)),(1,(xT 62)),(2,(xT 64))]),oO 66 (cL 244 #[(xT 59),(xT 65)] #[50,198]),xO 67 66 0,xO 68 66 1,oS (.store 198 (xT 6) (xT 67)),aO 7 68] [6,7] (.ret))))))))
theorem Y2:AX Tryz.prog 206 69 [(.cell 6 198),(.tmp 7)] Su:=Aq Tryz.func206
def RC:CC:=sR [oN 6 (.alloc 198) [0],oO 7 (.assign (nI 0))] [0,1,2,6] (sR [mO 13 0,mO 14 1,mO 15 2,oO 16 (cL 198 #[(xT 13),(xT 14),(xT 15)] #[50,3,3]),mO 12 16,xO 17 12 0,xO 18 12 1,aO 8 17,aO 9 18] [0,1,2,6,8,9] (.seq (sR [mO 19 9,oO 20 (.unOp .not 4 (xT 19))] [0,1,2,6,8,20] (cD 20 (sR [oO 21 (.build 198 #[]),oS (.store 198 (xT 6) (xT 21)),oO 7 (.assign (nI 7))] [6,7] (.ret)) (.skip))) (.keep [0,1,2,6,8] (sR [mO 22 8,oO 23 (cL 204 #[(xT 22)] #[51]),oN 10 (.alloc 175) [1],oS (.store 175 (xT 10) (xT 23))] [0,1,2,6,10] (.seq (.block 0 (sR [fO 25 175 10 0,lO 26 3 25,oO 27 (.binOp .eql 3 (xT 26) (nI 0) 3),aO 24 27] [0,1,2,6,10,24] (cD 24 (sR [oO 28 (.build 198 #[]),oS (.store 198 (xT 6) (xT 28)),oO 7 (.assign (nI 0))] [6,7] (.ret)) (sR [fO 30 175 10 0,lO 31 3 30,oO 32 (.binOp .neq 3 (xT 31) (nI 3) 3),aO 29 32] [0,1,2,6,10,29] (cD 29 (sR [mO 33 0,lO 34 175 10,mO 35 1,mO 36 2,oO 37 (cL 205 #[(xT 33),(xT 34),(xT 35),(xT 36)] #[50,175,3,3]),xO 38 37 0,xO 39 37 1,oS (.store 198 (xT 6) (xT 38)),aO 7 39] [6,7] (.ret)) (sR [fO 41 175 10 7,lO 42 4 41,aO 40 42] [0,6,10,40] (cD 40 (sR [mO 43 0,fO 44 175 10 6,lO 45 3 44,fO 46 175 10 1,lO 47 3 46,oO 48 (cL 206 #[(xT 43),(xT 45),(xT 47)] #[50,3,3]),xO 49 48 0,xO 50 48 1,oS (.store 198 (xT 6) (xT 49)),aO 7 50] [6,7] (.ret)) (.skip)))))))) (.keep [0,6,10] (sR [mO 52 0,fO 53 175 10 6,lO 54 3 53,fO 55 175 10 1,lO 56 3 55,oO 57 (cL 198 #[(xT 52),(xT 54),(xT 56)] #[50,3,3]),mO 51 57,xO 58 51 0,xO 59 51 1,aO 11 58,aO 9 59] [0,6,9,10,11] (.seq (sR [mO 60 9,oO 61 (.unOp .not 4 (xT 60))] [0,6,10,11,61] (cD 61 (sR [oO 62 (.build 198 #[]),oS (.store 198 (xT 6) (xT 62)),oO 7 (.assign (nI 7))] [6,7] (.ret)) (.skip))) (.keep [0,6,10,11] (sR [mO 63 0,mO 64 11,⟨some 65,(cL 204 #[(xT 64)] #[51]),none,[],2,[],true⟩,fO 66 175 10 6,⟨some 67,(lD 3 66),none,[],4,[2],false⟩,fO 68 175 10 1,⟨some 69,(lD 3 68),none,[],6,[2],false⟩,oO 70 (cL 205 #[(xT 63),(xT 65),(xT 67),(xT 69)] #[50,175,3,3]),xO 71 70 0,xO 72 70 1,oS (.store 198 (xT 6) (xT 71)),aO 7 72] [6,7] (.ret)))))))))))
theorem Z0:AX Tryz.prog 157 73 [(.cell 6 198),(.tmp 7)] RC:=Aq Tryz.func157
def Ga:CC:=.seq (sR [fO 51 135 1 5,lO 52 3 51,mO 53 3,oO 54 (bO .rem 3 52 53 3),oO 55 (.binOp .gtr 3 (xT 54) (nI 0) 3)] [1,3,55] (cD 55 (sR [fO 56 135 1 5,lO 57 3 56,mO 58 3,oO 59 (bO .quo 3 57 58 3),oO 60 (.binOp .add 3 (xT 59) (nI 1) 3),aO 2 60] [2] (.ret)) (.skip))) (.keep [1,3] (sR [fO 61 135 1 5,lO 62 3 61,mO 63 3,oO 64 (bO .quo 3 62 63 3),aO 2 64] [2] (.ret))) 
def JJ:CC:=sR [oN 1 (.box 135 (xT 0)) [0],oO 2 (.assign (nI 0))] [1] (.seq (sR [fO 4 135 1 0,lO 5 3 4,oO 6 (.binOp .eql 3 (xT 5) (nI 1) 3)] [1,6] (cD 6 (sR [fO 7 135 1 2,lO 8 3 7,fO 9 135 1 3,lO 10 3 9,oO 11 (bO .add 3 8 10 3),aO 2 11] [2] (.ret)) (.skip))) (.keep [1] (.seq (sR [fO 12 135 1 0,lO 13 3 12,oO 14 (.binOp .neq 3 (xT 13) (nI 2) 3)] [1,14] (cD 14 (sR [oO 2 (.assign (.const (.int .i64 (-1))))] [2] (.ret)) (.skip))) (.keep [1] (.seq (sR [fO 15 135 1 4,lO 16 3 15,oO 17 (.binOp .eql 3 (xT 16) (nI 7) 3)] [1,17] (cD 17 (sR [fO 18 135 1 5,lO 19 3 18,oO 20 (.binOp .add 3 (xT 19) (nI 1) 3),aO 2 20] [2] (.ret)) (.skip))) (.keep [1] (.seq (sR [fO 21 135 1 4,lO 22 3 21,oO 23 (.binOp .lss 3 (xT 22) (nI 0) 3),mO 24 23,oG 25 (fA 135 1 4) 24 false,oG 26 (lD 3 25) 24 false,oG 27 (.binOp .gtr 3 (xT 26) (nI 6) 3) 24 false,oO 28 (.pick (xT 24) (nB true) (xT 27)),mO 29 28,oG 30 (fA 135 1 5) 29 false,oG 31 (lD 3 30) 29 false,oG 32 (.binOp .lss 3 (xT 31) (nI 0) 3) 29 false,oO 33 (.pick (xT 29) (nB true) (xT 32)),mO 34 33,oG 35 (fA 135 1 5) 34 false,oG 36 (lD 3 35) 34 false,oG 37 (.binOp .geq 3 (xT 36) (nI 536870912) 3) 34 false,oO 38 (.pick (xT 34) (nB true) (xT 37))] [1,38] (cD 38 (sR [oO 2 (.assign (.const (.int .i64 (-1))))] [2] (.ret)) (.skip))) (.keep [1] (sR [oO 3 (.assign (nI 1))] [1,3] (.seq (sR [fO 39 135 1 4,lO 40 3 39] [1,3,40] (.block 0 (sR [oO 42 (.binOp .eql 3 (xT 40) (nI 0) 3),aO 41 42] [1,3,40,41] (cD 41 (sR [oO 2 (.assign (nI 0))] [2] (.ret)) (sR [oO 44 (.binOp .eql 3 (xT 40) (nI 1) 3),aO 43 44] [1,3,40,43] (cD 43 (.reg [oO 3 (.assign (nI 64))] [1,3]) (sR [oO 46 (.binOp .eql 3 (xT 40) (nI 2) 3),aO 45 46] [1,3,40,45] (cD 45 (.reg [oO 3 (.assign (nI 8))] [1,3]) (sR [oO 48 (.binOp .eql 3 (xT 40) (nI 3) 3),aO 47 48] [1,3,40,47] (cD 47 (.reg [oO 3 (.assign (nI 4))] [1,3]) (sR [oO 50 (.binOp .eql 3 (xT 40) (nI 4) 3),aO 49 50] [1,3,49] (cD 49 (.reg [oO 3 (.assign (nI 2))] [1,3]) (.skip))))))))))))) (.keep [1,3] Ga)))))))))))
theorem QJ:AX Tryz.prog 195 65 [(.tmp 2)] JJ:=Aq Tryz.func195
def LP:CC:=sR [oO 6 (.assign (nB false))] [0,1,2] (sR [mO 7 1,oO 8 (.binOp .geq 3 (xT 7) (nI 0) 3),mO 9 8,oG 10 (mV 1) 9 true,oG 11 (mV 0) 9 true,oG 12 (bL 11 41) 9 true,oG 13 (bO .lss 3 10 12 3) 9 true,oO 14 (.pick (xT 9) (xT 13) (nB false)),mO 15 14,oG 16 (mV 2) 15 true,oG 17 (.binOp .geq 3 (xT 16) (nI 0) 3) 15 true,oO 18 (.pick (xT 15) (xT 17) (nB false)),mO 19 18,oG 20 (mV 2) 19 true,oG 21 (mV 0) 19 true,oG 22 (mV 1) 19 true,oG 23 (iA 41 21 22) 19 true,oG 24 (lD 22 23) 19 true,oG 25 (bL 24 22) 19 true,oG 26 (bO .lss 3 20 25 3) 19 true,oO 27 (.pick (xT 19) (xT 26) (nB false)),aO 6 27] [6] (.ret))
theorem Tx:AX Tryz.prog 142 28 [(.tmp 6)] LP:=Aq Tryz.func142
def JR:CC:=sR [oN 3 (.box 137 (xT 1)) [0],oN 4 (.alloc 137) [1],oO 5 (.assign (nI 0))] [0,3,4] (sR [fO 7 137 3 0,lO 8 135 7,oO 9 (cL 195 #[(xT 8)] #[135]),aO 6 9] [0,3,4,6] (.seq (sR [fO 10 137 3 1,lO 11 3 10,oO 12 (.binOp .lss 3 (xT 11) (nI 0) 3),mO 13 12,oG 14 (fA 137 3 1) 13 false,oG 15 (lD 3 14) 13 false,oG 16 (mV 0) 13 false,oG 17 (bL 16 41) 13 false,oG 18 (bO .geq 3 15 17 3) 13 false,oO 19 (.pick (xT 13) (nB true) (xT 18)),mO 20 19,oG 21 (fA 137 3 2) 20 false,oG 22 (lD 3 21) 20 false,oG 23 (.binOp .lss 3 (xT 22) (nI 0) 3) 20 false,oO 24 (.pick (xT 20) (nB true) (xT 23)),mO 25 24,oG 26 (fA 137 3 2) 25 false,oG 27 (lD 3 26) 25 false,oG 28 (mV 0) 25 false,oG 29 (fA 137 3 1) 25 false,oG 30 (lD 3 29) 25 false,oG 31 (iA 41 28 30) 25 false,oG 32 (lD 22 31) 25 false,oG 33 (bL 32 22) 25 false,oG 34 (bO .gtr 3 27 33 3) 25 false,oO 35 (.pick (xT 25) (nB true) (xT 34)),mO 36 35,oG 37 (mV 6) 36 false,oG 38 (mV 0) 36 false,oG 39 (fA 137 3 1) 36 false,oG 40 (lD 3 39) 36 false,oG 41 (iA 41 38 40) 36 false,oG 42 (lD 22 41) 36 false,oG 43 (bL 42 22) 36 false,oG 44 (fA 137 3 2) 36 false,oG 45 (lD 3 44) 36 false,oG 46 (bO .sub 3 43 45 3) 36 false,oG 47 (bO .gtr 3 37 46 3) 36 false,oO 48 (.pick (xT 36) (nB true) (xT 47))] [3,4,48] (cD 48 (sR [oO 49 (.build 137 #[]),oS (.store 137 (xT 4) (xT 49)),oO 5 (.assign (nI 7))] [4,5] (.ret)) (.skip))) (.keep [3,4] (sR [fO 50 137 3 0,fO 51 135 50 1,oS (.store 3 (xT 51) (nI 0))] [3,4] (sR [lO 52 137 3,oS (.store 137 (xT 4) (xT 52)),oO 5 (.assign (nI 0))] [4,5] (.ret))))))
theorem QF:AX Tryz.prog 144 53 [(.cell 4 137),(.tmp 5)] JR:=Aq Tryz.func144
def JI:CC:=sR [oN 1 (.box 135 (xT 0)) [0],oO 2 (.assign (nI 0))] [1] (.seq (sR [fO 3 135 1 0,lO 4 3 3,oO 5 (.binOp .eql 3 (xT 4) (nI 4) 3)] [1,5] (cD 5 (sR [oO 2 (.assign (nI 9))] [2] (.ret)) (.skip))) (.keep [1] (.seq (sR [fO 6 135 1 0,lO 7 3 6,oO 8 (.binOp .neq 3 (xT 7) (nI 1) 3),mO 9 8,oG 10 (fA 135 1 0) 9 true,oG 11 (lD 3 10) 9 true,oG 12 (.binOp .neq 3 (xT 11) (nI 2) 3) 9 true,oO 13 (.pick (xT 9) (xT 12) (nB false))] [13] (cD 13 (sR [oO 2 (.assign (nI 8))] [2] (.ret)) (.skip))) (.keep [] (sR [oO 2 (.assign (nI 0))] [2] (.ret))))))
theorem Qa:AX Tryz.prog 143 14 [(.tmp 2)] JI:=Aq Tryz.func143
def FC:CC:=.seq (sR [mO 94 11,oO 95 (.binOp .neq 3 (xT 94) (nI 0) 3)] [0,6,9,10,11,95] (cD 95 (sR [oO 96 (.build 137 #[]),mO 97 11,oS (.store 137 (xT 6) (xT 96)),aO 7 97] [6,7] (.ret)) (.skip))) (.keep [0,6,9,10] (sR [mO 98 0,lO 99 135 10,fO 100 135 9 6,lO 101 3 100,fO 102 135 9 1,lO 103 3 102,oO 104 (.build 137 #[(0,(xT 99)),(1,(xT 101)),(2,(xT 103))]),oO 105 (cL 144 #[(xT 98),(xT 104)] #[41,137]),xO 106 105 0,xO 107 105 1,oS (.store 137 (xT 6) (xT 106)),aO 7 107] [6,7] (.ret)))
def FK:CC:=sR [lO 129 135 8,oO 130 (cL 143 #[(xT 129)] #[135]),aO 12 130] [0,1,2,6,8,12] (.seq (sR [mO 131 12,oO 132 (.binOp .neq 3 (xT 131) (nI 0) 3)] [0,1,2,6,8,12,132] (cD 132 (sR [oO 133 (.build 137 #[]),mO 134 12,oS (.store 137 (xT 6) (xT 133)),aO 7 134] [6,7] (.ret)) (.skip))) (.keep [0,1,2,6,8] (sR [mO 135 0,lO 136 135 8,mO 137 1,mO 138 2,oO 139 (.binOp .add 3 (xT 138) (nI 1) 3),fO 140 135 8 1,lO 141 3 140,oO 142 (bO .add 3 139 141 3),oO 143 (.build 137 #[(0,(xT 136)),(1,(xT 137)),(2,(xT 142))]),oO 144 (cL 144 #[(xT 135),(xT 143)] #[41,137]),xO 145 144 0,xO 146 144 1,oS (.store 137 (xT 6) (xT 145)),aO 7 146] [6,7] (.ret)))) 
def IZ:CC:=sR [oN 6 (.alloc 137) [0],oO 7 (.assign (nI 0))] [0,1,2,6] (.seq (sR [mO 13 0,mO 14 1,mO 15 2,oO 16 (cL 142 #[(xT 13),(xT 14),(xT 15)] #[41,3,3]),oO 17 (.unOp .not 4 (xT 16))] [0,1,2,6,17] (cD 17 (sR [oO 18 (.build 137 #[]),oS (.store 137 (xT 6) (xT 18)),oO 7 (.assign (nI 7))] [6,7] (.ret)) (.skip))) (.keep [0,1,2,6] (sR [mO 19 0,mO 20 1,oO 21 (iA 41 19 20),lO 22 22 21,mO 23 2,oO 24 (iA 22 22 23),lO 25 51 24,oO 26 (cL 89 #[(xT 25)] #[51]),oN 8 (.alloc 135) [1],oS (.store 135 (xT 8) (xT 26))] [0,1,2,6,8] (.seq (sR [fO 27 135 8 0,lO 28 3 27,oO 29 (.binOp .eql 3 (xT 28) (nI 0) 3)] [0,1,2,6,8,29] (cD 29 (sR [oO 30 (.build 137 #[]),oS (.store 137 (xT 6) (xT 30)),oO 7 (.assign (nI 0))] [6,7] (.ret)) (.skip))) (.keep [0,1,2,6,8] (.seq (sR [fO 31 135 8 0,lO 32 3 31,oO 33 (.binOp .eql 3 (xT 32) (nI 3) 3),mO 34 33,oG 35 (fA 135 8 7) 34 true,oG 36 (lD 4 35) 34 true,oO 37 (.pick (xT 34) (xT 36) (nB false))] [0,1,2,6,8,37] (cD 37 (.seq (sR [mO 38 0,fO 39 135 8 6,lO 40 3 39,fO 41 135 8 1,lO 42 3 41,oO 43 (cL 142 #[(xT 38),(xT 40),(xT 42)] #[41,3,3]),oO 44 (.unOp .not 4 (xT 43)),mO 45 44,oG 46 (mV 0) 45 false,oG 47 (fA 135 8 6) 45 false,oG 48 (lD 3 47) 45 false,oG 49 (fA 135 8 1) 45 false,oG 50 (lD 3 49) 45 false,oG 51 (.binOp .add 3 (xT 50) (nI 1) 3) 45 false,oG 52 (cL 142 #[(xT 46),(xT 48),(xT 51)] #[41,3,3]) 45 false,oG 53 (.unOp .not 4 (xT 52)) 45 false,oO 54 (.pick (xT 45) (nB true) (xT 53))] [0,6,8,54] (cD 54 (sR [oO 55 (.build 137 #[]),oS (.store 137 (xT 6) (xT 55)),oO 7 (.assign (nI 7))] [6,7] (.ret)) (.skip))) (.keep [0,6,8] (sR [mO 56 0,fO 57 135 8 6,⟨some 58,(lD 3 57),none,[],2,[],true⟩,oO 59 (iA 41 56 58),⟨some 60,(lD 22 59),none,[],4,[],true⟩,fO 61 135 8 1,⟨some 62,(lD 3 61),none,[],6,[],true⟩,oO 63 (iA 22 60 62),⟨some 64,(lD 51 63),none,[],8,[],true⟩,⟨some 65,(cL 89 #[(xT 64)] #[51]),none,[],9,[],true⟩,mO 66 0,fO 67 135 8 6,⟨some 68,(lD 3 67),none,[],12,[9],true⟩,oO 69 (iA 41 66 68),⟨some 70,(lD 22 69),none,[],14,[9],true⟩,fO 71 135 8 1,⟨some 72,(lD 3 71),none,[],16,[9],true⟩,oO 73 (.binOp .add 3 (xT 72) (nI 1) 3),oO 74 (iA 22 70 73),⟨some 75,(lD 51 74),none,[],19,[9],true⟩,⟨some 76,(cL 89 #[(xT 75)] #[51]),none,[],20,[],true⟩,⟨some 9,(.alloc 135),none,[2],21,[2,4,6,8,9,12,14,16,19,20],true⟩,⟨some 10,(.alloc 135),none,[3],22,[2,4,6,8,9,12,14,16,19,20,21],false⟩,oS (.store 135 (xT 9) (xT 65)),oS (.store 135 (xT 10) (xT 76))] [0,6,9,10] (.seq (sR [fO 77 135 9 0,lO 78 3 77,oO 79 (.binOp .neq 3 (xT 78) (nI 3) 3),mO 80 79,oG 81 (fA 135 9 7) 80 false,oG 82 (lD 4 81) 80 false,oO 83 (.pick (xT 80) (nB true) (xT 82))] [0,6,9,10,83] (cD 83 (sR [oO 84 (.build 137 #[]),oS (.store 137 (xT 6) (xT 84)),oO 7 (.assign (nI 8))] [6,7] (.ret)) (.skip))) (.keep [0,6,9,10] (sR [lO 85 135 10,oO 86 (cL 143 #[(xT 85)] #[135]),aO 11 86] [0,6,9,10,11] (.seq (sR [mO 87 11,oO 88 (.binOp .eql 3 (xT 87) (nI 0) 3),mO 89 88,oG 90 (fA 135 10 1) 89 true,oG 91 (lD 3 90) 89 true,oG 92 (.binOp .neq 3 (xT 91) (nI 0) 3) 89 true,oO 93 (.pick (xT 89) (xT 92) (nB false))] [0,6,9,10,11,93] (cD 93 (.reg [oO 11 (.assign (nI 8))] [0,6,9,10,11]) (.skip))) (.keep [0,6,9,10,11] FC)))))))) (.skip))) (.keep [0,1,2,6,8] (.seq (sR [fO 108 135 8 0,lO 109 3 108,oO 110 (.binOp .eql 3 (xT 109) (nI 3) 3)] [0,1,2,6,8,110] (cD 110 (sR [fO 111 135 8 6,lO 112 3 111,aO 1 112] [0,1,6,8] (sR [fO 113 135 8 1,lO 114 3 113,aO 2 114] [0,1,2,6,8] (.seq (sR [mO 115 0,mO 116 1,mO 117 2,oO 118 (cL 142 #[(xT 115),(xT 116),(xT 117)] #[41,3,3]),oO 119 (.unOp .not 4 (xT 118))] [0,1,2,6,8,119] (cD 119 (sR [oO 120 (.build 137 #[]),oS (.store 137 (xT 6) (xT 120)),oO 7 (.assign (nI 7))] [6,7] (.ret)) (.skip))) (.keep [0,1,2,6,8] (.reg [mO 121 0,mO 122 1,oO 123 (iA 41 121 122),lO 124 22 123,mO 125 2,oO 126 (iA 22 124 125),lO 127 51 126,oO 128 (cL 89 #[(xT 127)] #[51]),oS (.store 135 (xT 8) (xT 128))] [0,1,2,6,8]))))) (.skip))) (.keep [0,1,2,6,8] FK)))))))))
theorem O7:AX Tryz.prog 88 147 [(.cell 6 137),(.tmp 7)] IZ:=Aq Tryz.func88
@[simp] theorem AiY:Tryz.prog.underlying 4=some .bool:=by kernel_rfl
@[simp] theorem Aix:Tryz.prog.underlying 23=some (.slice 25):=by kernel_rfl
@[simp] theorem AhY:CF Tryz.prog 23=some 1:=by kernel_rfl
@[simp] theorem AhR:CF Tryz.prog 25=some 3:=by kernel_rfl
@[simp] theorem AgK:CZ Tryz.prog 23=some false:=by kernel_rfl
@[simp] theorem AfM:CZ Tryz.prog 25=some true:=by kernel_rfl
@[simp] theorem Ac4:Bi Tryz.prog 25=some (Value.agg #[Value.int IntKind.i64 0,Value.slice none 0 0,Value.slice none 0 0]):=by kernel_rfl
@[simp] theorem z7:BF Tryz.prog 25=some 56:=by kernel_rfl
@[simp] theorem qe:Ak Tryz.prog 25 0=some 0:=by kernel_rfl
@[simp] theorem re:Ak Tryz.prog 25 1=some 1:=by kernel_rfl
@[simp] theorem ql:Ak Tryz.prog 25 2=some 2:=by kernel_rfl
@[simp] theorem AaV (ps:List (Nat × A)):Bt Tryz.prog 25 ps=(BP (fun i=>([(0,1),(1,1),(2,1)]:List (Nat × Nat))[i]?) [A.v (Value.int IntKind.i64 0),A.sl true [],A.sl true []] ps).map A.agg:=by kernel_rfl
def Ev:CC:=.seq (sR [mO 12 5,fO 13 25 1 2,lO 14 23 13,oO 15 (bL 14 23),oO 16 (bO .lss 3 12 15 3)] [1,2,3,4,5,16] (cD 16 (.skip) (.exit 0))) (.keep [1,2,3,4,5] (.seq (.block 1 (sR [fO 19 25 1 2,lO 20 23 19,mO 21 5,oO 22 (iA 23 20 21),lO 23 25 22,oO 24 (cL 32 #[(xT 23)] #[25]),oN 6 (.alloc 25) [2],oS (.store 25 (xT 6) (xT 24))] [1,2,3,4,5,6] (sR [mO 25 3,lO 26 25 6,oO 27 (.buildSlice 23 1 #[(0,(xT 26))]),oN 28 (bC .append #[(xT 25),(xT 27)] #[23,23]) [3],aO 3 28] [1,2,3,4,5,6] (sR [fO 29 25 6 0,lO 30 3 29,oO 31 (.binOp .neq 3 (xT 30) (nI 0) 3)] [1,2,3,4,5,31] (cD 31 (.reg [mO 32 5,oO 33 (.binOp .add 3 (xT 32) (nI 1) 3),aO 4 33] [1,2,3,4,5]) (.skip)))))) (.keep [1,2,3,4,5] (.reg [mO 17 5,oO 18 (.binOp .add 3 (xT 17) (nI 1) 3),aO 5 18] [1,2,3,4,5])))) 
def KK:CC:=sR [oN 1 (.box 25 (xT 0)) [0],oN 2 (.alloc 25) [1]] [1,2] (.seq (sR [fO 8 25 1 0,lO 9 3 8,oO 10 (.binOp .eql 3 (xT 9) (nI 0) 3)] [1,2,10] (cD 10 (sR [oO 11 (.build 25 #[]),oS (.store 25 (xT 2) (xT 11))] [2] (.ret)) (.skip))) (.keep [1,2] (sR [oO 3 (.assign nS)] [1,2,3] (sR [oO 4 (.assign (nI 0))] [1,2,3,4] (.seq (sR [oO 5 (.assign (nI 0))] [1,2,3,4,5] (.block 0 (.loop Ev))) (.keep [1,2,3,4] (.seq (sR [fO 34 25 1 0,lO 35 3 34,oO 36 (.binOp .eql 3 (xT 35) (nI 1) 3)] [1,2,3,4,36] (cD 36 (sR [fO 37 25 1 1,lO 38 22 37,oO 39 (cL 64 #[(xT 38)] #[22]),mO 40 3,mO 41 4,oO 42 (.slice 23 (xT 40) none (some (xT 41)) none),oO 43 (.build 25 #[(0,(nI 1)),(1,(xT 39)),(2,(xT 42))]),oS (.store 25 (xT 2) (xT 43))] [2] (.ret)) (.skip))) (.keep [1,2,3] (sR [oO 7 (.assign nS)] [1,2,3,7] (sR [mO 44 7,fO 45 25 1 1,lO 46 22 45,oN 47 (bC .append #[(xT 44),(xT 46)] #[22,22]) [4],aO 7 47] [1,2,3,7] (sR [fO 48 25 1 0,lO 49 3 48,mO 50 7,mO 51 3,oO 52 (.build 25 #[(0,(xT 49)),(1,(xT 50)),(2,(xT 51))]),oS (.store 25 (xT 2) (xT 52))] [2] (.ret))))))))))))
theorem Rq:AX Tryz.prog 32 53 [(.cell 2 25)] KK:=Aq Tryz.func32
def Dh:CC:=.seq (sR [mO 20 7,fO 21 25 3 2,lO 22 23 21,oO 23 (bL 22 23),oO 24 (bO .lss 3 20 23 3),mO 25 24,oG 26 (mV 2) 25 true,oG 27 (.binOp .geq 3 (xT 26) (nI 0) 3) 25 true,oO 28 (.pick (xT 25) (xT 27) (nB false))] [1,2,3,7,28] (cD 28 (.skip) (.exit 0))) (.keep [1,2,3,7] (.seq (.block 1 (.reg [fO 31 25 3 2,lO 32 23 31,mO 33 7,oO 34 (iA 23 32 33),lO 35 25 34,mO 36 1,oO 37 (.binOp .sub 3 (xT 36) (nI 1) 3),mO 38 2,oO 39 (cL 27 #[(xT 35),(xT 37),(xT 38)] #[25,3,3]),aO 2 39] [1,2,3,7])) (.reg [mO 29 7,oO 30 (.binOp .add 3 (xT 29) (nI 1) 3),aO 7 30] [1,2,3,7]))) 
def Ih:CC:=sR [oN 3 (.box 25 (xT 0)) [0],oO 6 (.assign (nI 0))] [1,2,3] (sR [mO 8 2,oO 9 (.binOp .sub 3 (xT 8) (nI 1) 3),fO 10 25 3 1,lO 11 22 10,oO 12 (bL 11 22),oO 13 (bO .sub 3 9 12 3),aO 2 13] [1,2,3] (.seq (sR [mO 14 1,oO 15 (.binOp .eql 3 (xT 14) (nI 0) 3),mO 16 15,oG 17 (mV 2) 16 false,oG 18 (.binOp .lss 3 (xT 17) (nI 0) 3) 16 false,oO 19 (.pick (xT 16) (nB true) (xT 18))] [1,2,3,19] (cD 19 (sR [oO 6 (.assign (.const (.int .i64 (-1))))] [6] (.ret)) (.skip))) (.keep [1,2,3] (.seq (sR [oO 7 (.assign (nI 0))] [1,2,3,7] (.block 0 (.loop Dh))) (.keep [2] (sR [mO 40 2,aO 6 40] [6] (.ret)))))))
theorem N1:AX Tryz.prog 27 41 [(.tmp 6)] Ih:=Aq Tryz.func27
def En:CC:=.seq (sR [mO 28 5,fO 29 25 2 2,lO 30 23 29,oO 31 (bL 30 23),oO 32 (bO .lss 3 28 31 3)] [2,3,5,32] (cD 32 (.skip) (.exit 0))) (.keep [2,3,5] (.seq (.block 1 (sR [fO 35 25 2 2,lO 36 23 35,mO 37 5,oO 38 (iA 23 36 37),lO 39 25 38,fO 40 25 3 2,lO 41 23 40,mO 42 5,oO 43 (iA 23 41 42),lO 44 25 43,oO 45 (cL 50 #[(xT 39),(xT 44)] #[25,25]),oO 46 (.unOp .not 4 (xT 45))] [2,3,5,46] (cD 46 (sR [oO 4 (.assign (nB false))] [4] (.ret)) (.skip)))) (.keep [2,3,5] (.reg [mO 33 5,oO 34 (.binOp .add 3 (xT 33) (nI 1) 3),aO 5 34] [2,3,5])))) 
def KD:CC:=sR [oN 2 (.box 25 (xT 0)) [0],oN 3 (.box 25 (xT 1)) [1],oO 4 (.assign (nB false))] [2,3] (.seq (sR [fO 6 25 2 0,lO 7 3 6,fO 8 25 3 0,lO 9 3 8,oO 10 (bO .neq 3 7 9 3),mO 11 10,oG 12 (fA 25 2 1) 11 false,oG 13 (lD 22 12) 11 false,oG 14 (fA 25 3 1) 11 false,oG 15 (lD 22 14) 11 false,oG 16 (cL 38 #[(xT 13),(xT 15)] #[22,22]) 11 false,oG 17 (.unOp .not 4 (xT 16)) 11 false,oO 18 (.pick (xT 11) (nB true) (xT 17)),mO 19 18,oG 20 (fA 25 2 2) 19 false,oG 21 (lD 23 20) 19 false,oG 22 (bL 21 23) 19 false,oG 23 (fA 25 3 2) 19 false,oG 24 (lD 23 23) 19 false,oG 25 (bL 24 23) 19 false,oG 26 (bO .neq 3 22 25 3) 19 false,oO 27 (.pick (xT 19) (nB true) (xT 26))] [2,3,27] (cD 27 (sR [oO 4 (.assign (nB false))] [4] (.ret)) (.skip))) (.keep [2,3] (.seq (sR [oO 5 (.assign (nI 0))] [2,3,5] (.block 0 (.loop En))) (.keep [] (sR [oO 4 (.assign (nB true))] [4] (.ret))))))
theorem R2:AX Tryz.prog 50 47 [(.tmp 4)] KD:=Aq Tryz.func50
def JX:CC:=sR [oN 2 (.box 25 (xT 0)) [0],oN 3 (.box 25 (xT 1)) [1],oO 4 (.assign (nB false))] [2,3] (sR [lO 5 25 2,⟨some 6,(cL 32 #[(xT 5)] #[25]),none,[],1,[],true⟩,⟨some 7,(lD 25 3),none,[],2,[1],false⟩,oO 8 (cL 32 #[(xT 7)] #[25]),oO 9 (cL 50 #[(xT 6),(xT 8)] #[25,25]),aO 4 9] [4] (.ret))
theorem QC:AX Tryz.prog 101 10 [(.tmp 4)] JX:=Aq Tryz.func101
def Js:CC:=sR [oO 20 (bO .lss 3 19 18 3)] [1,2,3,17,18,19,20] (.seq (cD 20 (.skip) (.exit 0)) (.keep [1,2,3,17,18,19] (.seq (.block 1 (sR [oO 21 (iA 23 17 19),lO 22 25 21,oN 5 (.alloc 25) [3],oS (.store 25 (xT 5) (xT 22))] [1,2,3,5,17,18,19] (.reg [fO 23 25 3 2,⟨some 24,(lD 23 23),none,[],1,[],true⟩,lO 25 25 5,⟨some 26,(cL 31 #[(xT 25)] #[25]),none,[],3,[1],false⟩,⟨some 27,(.buildSlice 23 1 #[(0,(xT 26))]),none,[],4,[1],false⟩,oN 28 (bC .append #[(xT 24),(xT 27)] #[23,23]) [4],fO 29 25 3 2,oS (.store 23 (xT 29) (xT 28))] [1,2,3,17,18,19]))) (.reg [oO 30 (.binOp .add 3 (xT 19) (nI 1) 3),mO 19 30] [1,2,3,17,18,19]))))
def Jn:CC:=.seq (sR [fO 34 25 3 1,lO 35 22 34,oO 36 (bL 35 22),oO 37 (.binOp .gtr 3 (xT 36) (nI 0) 3),mO 38 37,oG 39 (fA 25 3 1) 38 true,oG 40 (lD 22 39) 38 true,oG 41 (fA 25 3 1) 38 true,oG 42 (lD 22 41) 38 true,oG 43 (bL 42 22) 38 true,oG 44 (.binOp .sub 3 (xT 43) (nI 1) 3) 38 true,oG 45 (iA 22 40 44) 38 true,oG 46 (lD 51 45) 38 true,oG 47 (.binOp .eql 51 (xT 46) (.const (.int .u64 0)) 51) 38 true,oO 48 (.pick (xT 38) (xT 47) (nB false))] [2,3,48] (cD 48 (.skip) (.exit 2))) (.keep [2,3] (.block 3 (.reg [fO 49 25 3 1,lO 50 22 49,fO 51 25 3 1,lO 52 22 51,oO 53 (bL 52 22),oO 54 (.binOp .sub 3 (xT 53) (nI 1) 3),oO 55 (.slice 22 (xT 50) none (some (xT 54)) none),fO 56 25 3 1,oS (.store 22 (xT 56) (xT 55))] [2,3])))
def Jh:CC:=.seq (sR [fO 57 25 3 2,lO 58 23 57,oO 59 (bL 58 23),oO 60 (.binOp .gtr 3 (xT 59) (nI 0) 3),mO 61 60,oG 62 (fA 25 3 2) 61 true,oG 63 (lD 23 62) 61 true,oG 64 (fA 25 3 2) 61 true,oG 65 (lD 23 64) 61 true,oG 66 (bL 65 23) 61 true,oG 67 (.binOp .sub 3 (xT 66) (nI 1) 3) 61 true,oG 68 (iA 23 63 67) 61 true,oG 69 (fA 25 68 0) 61 true,oG 70 (lD 3 69) 61 true,oG 71 (.binOp .eql 3 (xT 70) (nI 0) 3) 61 true,oO 72 (.pick (xT 61) (xT 71) (nB false))] [2,3,72] (cD 72 (.skip) (.exit 4))) (.keep [2,3] (.block 5 (.reg [fO 73 25 3 2,lO 74 23 73,fO 75 25 3 2,lO 76 23 75,oO 77 (bL 76 23),oO 78 (.binOp .sub 3 (xT 77) (nI 1) 3),oO 79 (.slice 23 (xT 74) none (some (xT 78)) none),fO 80 25 3 2,oS (.store 23 (xT 80) (xT 79))] [2,3]))) 
def Uk:CC:=sR [oN 1 (.box 25 (xT 0)) [0],oN 2 (.alloc 25) [1]] [1,2] (.seq (sR [fO 6 25 1 0,lO 7 3 6,oO 8 (.binOp .eql 3 (xT 7) (nI 0) 3)] [1,2,8] (cD 8 (sR [oO 9 (.build 25 #[]),oS (.store 25 (xT 2) (xT 9))] [2] (.ret)) (.skip))) (.keep [1,2] (sR [fO 10 25 1 0,⟨some 11,(lD 3 10),none,[],1,[],true⟩,fO 12 25 1 1,⟨some 13,(lD 22 12),none,[],3,[],true⟩,⟨some 14,(cL 63 #[(xT 13)] #[22]),none,[],4,[1],true⟩,oO 15 (.build 25 #[(0,(xT 11)),(1,(xT 14))]),⟨some 3,(.alloc 25),none,[2],6,[1,3,4],false⟩,oS (.store 25 (xT 3) (xT 15))] [1,2,3] (.seq (sR [fO 16 25 1 2,lO 17 23 16,oO 18 (bL 17 23),oO 19 (.move (nI 0))] [1,2,3,17,18,19] (.block 0 (.loop Js))) (.keep [1,2,3] (.seq (sR [fO 31 25 1 0,lO 32 3 31,oO 33 (.binOp .eql 3 (xT 32) (nI 1) 3)] [2,3,33] (cD 33 (.seq (.block 2 (.loop Jn)) (.keep [2,3] (.block 4 (.loop Jh)))) (.skip))) (.keep [2,3] (sR [lO 81 25 3,oS (.store 25 (xT 2) (xT 81))] [2] (.ret)))))))))
theorem cC:AX Tryz.prog 31 82 [(.cell 2 25)] Uk:=Aq Tryz.func31
@[simp] theorem Aiw:Tryz.prog.underlying 47=some (.int .i64):=by kernel_rfl
@[simp] theorem Aie:CF Tryz.prog 43=some 4:=by kernel_rfl
@[simp] theorem Aiz:CF Tryz.prog 50=some 1:=by kernel_rfl
@[simp] theorem Ah6:CF Tryz.prog 53=some 8:=by kernel_rfl
@[simp] theorem AhL:CF Tryz.prog 75=some 7:=by kernel_rfl
@[simp] theorem AeO:CZ Tryz.prog 43=some true:=by kernel_rfl
@[simp] theorem AeL:CZ Tryz.prog 50=some false:=by kernel_rfl
@[simp] theorem Afm:CZ Tryz.prog 53=some true:=by kernel_rfl
@[simp] theorem Afk:CZ Tryz.prog 75=some true:=by kernel_rfl
@[simp] theorem Adn:Bi Tryz.prog 43=some (Value.agg #[Value.int IntKind.i64 0,Value.int IntKind.i64 0,Value.int IntKind.i64 0,Value.int IntKind.i64 0]):=by kernel_rfl
@[simp] theorem AeI:Bi Tryz.prog 53=some (Value.agg #[Value.pointer none,Value.int IntKind.i64 0,Value.int IntKind.i64 0,Value.int IntKind.i64 0,Value.int IntKind.i64 0,Value.int IntKind.i64 0,Value.int IntKind.i64 0,Value.int IntKind.u64 0]):=by kernel_rfl
@[simp] theorem Ab3:Bi Tryz.prog 75=some (Value.agg #[Value.int IntKind.i64 0,Value.int IntKind.i64 0,Value.int IntKind.i64 0,Value.int IntKind.i64 0,Value.int IntKind.i64 0,Value.int IntKind.i64 0,Value.int IntKind.u64 0]):=by kernel_rfl
@[simp] theorem ph:Ak Tryz.prog 43 0=some 0:=by kernel_rfl
@[simp] theorem pN:Ak Tryz.prog 43 1=some 1:=by kernel_rfl
@[simp] theorem qS:Ak Tryz.prog 43 2=some 2:=by kernel_rfl
@[simp] theorem qo:Ak Tryz.prog 43 3=some 3:=by kernel_rfl
@[simp] theorem oc:Ak Tryz.prog 53 0=some 0:=by kernel_rfl
@[simp] theorem qI:Ak Tryz.prog 53 1=some 1:=by kernel_rfl
@[simp] theorem rb:Ak Tryz.prog 53 2=some 2:=by kernel_rfl
@[simp] theorem oZ:Ak Tryz.prog 53 3=some 3:=by kernel_rfl
@[simp] theorem qW:Ak Tryz.prog 53 4=some 4:=by kernel_rfl
@[simp] theorem oC:Ak Tryz.prog 53 5=some 5:=by kernel_rfl
@[simp] theorem oD:Ak Tryz.prog 53 6=some 6:=by kernel_rfl
@[simp] theorem rF:Ak Tryz.prog 53 7=some 7:=by kernel_rfl
@[simp] theorem rE:Ak Tryz.prog 75 0=some 0:=by kernel_rfl
@[simp] theorem qM:Ak Tryz.prog 75 1=some 1:=by kernel_rfl
@[simp] theorem pT:Ak Tryz.prog 75 2=some 2:=by kernel_rfl
@[simp] theorem pE:Ak Tryz.prog 75 3=some 3:=by kernel_rfl
@[simp] theorem oh:Ak Tryz.prog 75 4=some 4:=by kernel_rfl
@[simp] theorem oI:Ak Tryz.prog 75 5=some 5:=by kernel_rfl
@[simp] theorem o8:Ak Tryz.prog 75 6=some 6:=by kernel_rfl
@[simp] theorem Aad (ps:List (Nat × A)):Bt Tryz.prog 43 ps=(BP (fun i=>([(0,1),(1,1),(2,1),(3,1)]:List (Nat × Nat))[i]?) [A.v (Value.int IntKind.i64 0),A.v (Value.int IntKind.i64 0),A.v (Value.int IntKind.i64 0),A.v (Value.int IntKind.i64 0)] ps).map A.agg:=by kernel_rfl
@[simp] theorem zt (ps:List (Nat × A)):Bt Tryz.prog 53 ps=(BP (fun i=>([(0,1),(1,1),(2,1),(3,1),(4,1),(5,1),(6,1),(7,1)]:List (Nat × Nat))[i]?) [A.v (Value.pointer none),A.v (Value.int IntKind.i64 0),A.v (Value.int IntKind.i64 0),A.v (Value.int IntKind.i64 0),A.v (Value.int IntKind.i64 0),A.v (Value.int IntKind.i64 0),A.v (Value.int IntKind.i64 0),A.v (Value.int IntKind.u64 0)] ps).map A.agg:=by kernel_rfl
@[simp] theorem Aba (ps:List (Nat × A)):Bt Tryz.prog 75 ps=(BP (fun i=>([(0,1),(1,1),(2,1),(3,1),(4,1),(5,1),(6,1)]:List (Nat × Nat))[i]?) [A.v (Value.int IntKind.i64 0),A.v (Value.int IntKind.i64 0),A.v (Value.int IntKind.i64 0),A.v (Value.int IntKind.i64 0),A.v (Value.int IntKind.i64 0),A.v (Value.int IntKind.i64 0),A.v (Value.int IntKind.u64 0)] ps).map A.agg:=by kernel_rfl
def KP:CC:=sR [oN 1 (.box 53 (xT 0)) [0],oO 2 (.assign (nI 0))] [1] (sR [fO 3 53 1 1,lO 4 3 3,aO 2 4] [2] (.ret))
theorem RT:AX Tryz.prog 95 5 [(.tmp 2)] KP:=Aq Tryz.func95
def J4:CC:=sR [oN 1 (.box 53 (xT 0)) [0],oO 2 (.assign (nI 0))] [1] (.seq (sR [fO 3 53 1 1,lO 4 3 3] [1,4] (.block 0 (sR [oO 6 (.binOp .eql 3 (xT 4) (nI 1) 3),aO 5 6] [1,4,5] (cD 5 (sR [fO 7 53 1 4,lO 8 3 7,aO 2 8] [2] (.ret)) (sR [oO 10 (.binOp .eql 3 (xT 4) (nI 10) 3),aO 9 10] [9] (cD 9 (sR [oO 2 (.assign (nI 1))] [2] (.ret)) (.skip))))))) (.keep [] (sR [oO 2 (.assign (nI 0))] [2] (.ret))))
theorem QX:AX Tryz.prog 192 11 [(.tmp 2)] J4:=Aq Tryz.func192
def K6:CC:=sR [oN 1 (.box 53 (xT 0)) [0],oO 2 (.assign (nI 0))] [1] (.seq (sR [fO 3 53 1 1,lO 4 3 3,oO 5 (.binOp .eql 3 (xT 4) (nI 1) 3)] [1,5] (cD 5 (sR [fO 6 53 1 5,lO 7 3 6,aO 2 7] [2] (.ret)) (.skip))) (.keep [1] (sR [fO 8 53 1 6,lO 9 3 8,aO 2 9] [2] (.ret))))
theorem RQ:AX Tryz.prog 137 10 [(.tmp 2)] K6:=Aq Tryz.func137
def KW:CC:=sR [oN 2 (.box 53 (xT 0)) [0],oO 4 (.assign (.const (.int .u64 0)))] [1,2] (.seq (sR [mO 7 1,oO 8 (.binOp .lss 3 (xT 7) (nI 0) 3),mO 9 8,oG 10 (mV 1) 9 false,oG 11 (lD 53 2) 9 false,oG 12 (cL 192 #[(xT 11)] #[53]) 9 false,oG 13 (bO .geq 3 10 12 3) 9 false,oO 14 (.pick (xT 9) (nB true) (xT 13))] [1,2,14] (cD 14 (sR [oO 4 (.assign (.const (.int .u64 0)))] [4] (.ret)) (.skip))) (.keep [1,2] (.seq (sR [fO 15 53 2 1,lO 16 3 15,oO 17 (.binOp .eql 3 (xT 16) (nI 10) 3)] [1,2,17] (cD 17 (sR [fO 18 53 2 7,lO 19 51 18,aO 4 19] [4] (.ret)) (.skip))) (.keep [1,2] (sR [fO 21 53 2 0,lO 22 50 21,fO 23 53 2 2,lO 24 3 23,fO 25 53 2 3,lO 26 3 25,mO 27 1,oO 28 (bO .add 3 26 27 3),oO 29 (cL 198 #[(xT 22),(xT 24),(xT 28)] #[50,3,3]),mO 20 29,xO 30 20 0,xO 31 20 1,aO 5 30,aO 6 31] [5] (sR [mO 32 5,aO 4 32] [4] (.ret)))))))
theorem Ss:AX Tryz.prog 150 33 [(.tmp 4)] KW:=Aq Tryz.func150
def K9:CC:=sR [oN 2 (.box 53 (xT 0)) [0],oO 4 (.assign (.const (.int .u64 0)))] [1,2] (sR [fO 11 53 2 1,lO 12 3 11,oO 13 (.binOp .sub 3 (xT 12) (nI 2) 3),aO 5 13] [1,2,5] (sR [mO 15 5,oO 16 (cL 254 #[(xT 15)] #[3]),mO 14 16,xO 17 14 0,xO 18 14 1,aO 6 17,aO 7 18] [1,2,5,6] (.seq (sR [mO 19 6,oO 20 (.binOp .eql 3 (xT 19) (nI 0) 3)] [1,2,5,6,20] (cD 20 (sR [oO 4 (.assign (.const (.int .u64 0)))] [4] (.ret)) (.skip))) (.keep [1,2,5,6] (sR [mO 21 6,oO 22 (.binOp .quo 3 (nI 64) (xT 21) 3),aO 8 22] [1,2,5,8] (sR [fO 24 53 2 0,lO 25 50 24,fO 26 53 2 2,lO 27 3 26,fO 28 53 2 3,lO 29 3 28,mO 30 1,mO 31 8,oO 32 (bO .quo 3 30 31 3),oO 33 (bO .add 3 29 32 3),oO 34 (cL 198 #[(xT 25),(xT 27),(xT 33)] #[50,3,3]),mO 23 34,xO 35 23 0,xO 36 23 1,aO 9 35,aO 10 36] [1,5,8,9] (sR [mO 37 9,oO 38 (.buildSlice 22 1 #[(0,(xT 37))]),mO 39 5,mO 40 1,mO 41 8,oO 42 (bO .rem 3 40 41 3),oO 43 (cL 255 #[(xT 38),(xT 39),(xT 42)] #[22,3,3]),aO 4 43] [4] (.ret))))))))
theorem RH:AX Tryz.prog 231 44 [(.tmp 4)] K9:=Aq Tryz.func231
def Uf:CC:=sR [oN 6 (.alloc 53) [0],oO 7 (.assign (nI 0))] [0,1,2,6] (sR [mO 12 0,mO 13 1,mO 14 2,oO 15 (cL 157 #[(xT 12),(xT 13),(xT 14)] #[50,3,3]),mO 11 15,xO 16 11 0,xO 17 11 1,oN 8 (.alloc 198) [1],oS (.store 198 (xT 8) (xT 16)),aO 9 17] [0,6,8,9] (.seq (sR [mO 18 9,oO 19 (.binOp .neq 47 (xT 18) (nI 0) 47),mO 20 19,oG 21 (fA 198 8 0) 20 false,oG 22 (fA 175 21 0) 20 false,oG 23 (lD 3 22) 20 false,oG 24 (.binOp .eql 3 (xT 23) (nI 0) 3) 20 false,oO 25 (.pick (xT 20) (nB true) (xT 24))] [0,6,8,9,25] (cD 25 (sR [oO 26 (.build 53 #[]),mO 27 9,oS (.store 53 (xT 6) (xT 26)),aO 7 27] [6,7] (.ret)) (.skip))) (.keep [0,6,8] (sR [mO 28 0,fO 29 198 8 1,lO 30 3 29,fO 31 198 8 2,lO 32 3 31,oO 33 (.build 53 #[(0,(xT 28)),(2,(xT 30)),(3,(xT 32))]),oN 10 (.alloc 53) [2],oS (.store 53 (xT 10) (xT 33))] [6,8,10] (.seq (.block 0 (sR [fO 42 198 8 0,fO 43 175 42 0,lO 44 3 43,oO 45 (.binOp .eql 3 (xT 44) (nI 1) 3),aO 41 45] [6,8,10,41] (cD 41 (.reg [fO 46 198 8 0,fO 47 175 46 2,⟨some 48,(lD 3 47),none,[],2,[],true⟩,fO 49 198 8 0,fO 50 175 49 3,⟨some 51,(lD 3 50),none,[],5,[],true⟩,fO 52 53 10 1,⟨none,(.store 3 (xT 52) (nI 1)),none,[],7,[2,5],false⟩,fO 53 53 10 4,⟨none,(.store 3 (xT 53) (xT 48)),none,[],9,[5],false⟩,fO 54 53 10 5,oS (.store 3 (xT 54) (xT 51))] [6,10]) (sR [fO 56 198 8 0,fO 57 175 56 4,lO 58 3 57,oO 59 (.binOp .lss 3 (xT 58) (nI 6) 3),aO 55 59] [6,8,10,55] (cD 55 (.reg [fO 60 198 8 0,fO 61 175 60 4,lO 62 3 61,oO 63 (.binOp .add 3 (nI 2) (xT 62) 3),fO 64 198 8 0,fO 65 175 64 5,⟨some 66,(lD 3 65),none,[],6,[],true⟩,fO 67 53 10 1,⟨none,(.store 3 (xT 67) (xT 63)),none,[],8,[6],false⟩,fO 68 53 10 6,oS (.store 3 (xT 68) (xT 66))] [6,10]) (sR [fO 70 198 8 0,fO 71 175 70 4,lO 72 3 71,oO 73 (.binOp .eql 3 (xT 72) (nI 6) 3),aO 69 73] [6,8,10,69] (cD 69 (.reg [fO 74 198 8 0,fO 75 175 74 5,⟨some 76,(lD 3 75),none,[],2,[],true⟩,fO 77 53 10 1,⟨none,(.store 3 (xT 77) (nI 8)),none,[],4,[2],false⟩,fO 78 53 10 6,oS (.store 3 (xT 78) (xT 76))] [6,10]) (sR [lO 34 53 10,fO 35 198 8 0,fO 36 175 35 5,lO 37 3 36,oO 38 (cL 158 #[(xT 34),(xT 37)] #[53,3]),xO 39 38 0,xO 40 38 1,oS (.store 53 (xT 6) (xT 39)),aO 7 40] [6,7] (.ret))))))))) (.keep [6,10] (sR [lO 79 53 10,oS (.store 53 (xT 6) (xT 79)),oO 7 (.assign (nI 0))] [6,7] (.ret))))))))
theorem aV:AX Tryz.prog 99 80 [(.cell 6 53),(.tmp 7)] Uf:=Aq Tryz.func99
def Pu:CC:=sR [oN 2 (.alloc 53) [0],oO 3 (.assign (nI 0))] [0,2] (sR [mO 4 0,oO 5 (cL 99 #[(xT 4),(nI 0),(nI 0)] #[50,3,3]),xO 6 5 0,xO 7 5 1,oS (.store 53 (xT 2) (xT 6)),aO 3 7] [2,3] (.ret))
theorem XE:AX Tryz.prog 49 8 [(.cell 2 53),(.tmp 3)] Pu:=Aq Tryz.func49
def Hb:CC:=sR [oN 2 (.box 53 (xT 0)) [0],oN 4 (.alloc 53) [1],oO 5 (.assign (nI 0))] [1,2,4] (sR [fO 10 53 2 0,lO 11 50 10,fO 12 53 2 2,lO 13 3 12,fO 14 53 2 3,lO 15 3 14,oO 16 (cL 198 #[(xT 11),(xT 13),(xT 15)] #[50,3,3]),mO 9 16,xO 17 9 0,xO 18 9 1,aO 6 17,aO 7 18] [1,2,4,6] (sR [mO 19 6,oO 20 (cL 204 #[(xT 19)] #[51]),oN 8 (.alloc 175) [2],oS (.store 175 (xT 8) (xT 20))] [1,2,4,6,8] (.seq (sR [mO 21 6,oO 22 (.binOp .neq 51 (xT 21) (.const (.int .u64 0)) 51),mO 23 22,oG 24 (fA 175 8 0) 23 true,oG 25 (lD 3 24) 23 true,oG 26 (.binOp .neq 3 (xT 25) (nI 1) 3) 23 true,oO 27 (.pick (xT 23) (xT 26) (nB false)),mO 28 27,oG 29 (fA 175 8 1) 28 false,oG 30 (lD 3 29) 28 false,oG 31 (.binOp .lss 3 (xT 30) (nI 0) 3) 28 false,oO 32 (.pick (xT 28) (nB true) (xT 31)),mO 33 32,oG 34 (fA 175 8 1) 33 false,oG 35 (lD 3 34) 33 false,oG 36 (fA 175 8 2) 33 false,oG 37 (lD 3 36) 33 false,oG 38 (fA 175 8 3) 33 false,oG 39 (lD 3 38) 33 false,oG 40 (bO .add 3 37 39 3) 33 false,oG 41 (bO .mul 3 35 40 3) 33 false,oG 42 (mV 1) 33 false,oG 43 (bO .gtr 3 41 42 3) 33 false,oO 44 (.pick (xT 33) (nB true) (xT 43))] [2,4,8,44] (cD 44 (sR [oO 45 (.build 53 #[]),oS (.store 53 (xT 4) (xT 45)),oO 5 (.assign (nI 8))] [4,5] (.ret)) (.skip))) (.keep [2,4,8] (sR [fO 46 53 2 3,lO 47 3 46,oO 48 (.binOp .add 3 (xT 47) (nI 1) 3),fO 49 53 2 1,oS (.store 3 (xT 49) (nI 9)),fO 50 53 2 3,oS (.store 3 (xT 50) (xT 48))] [2,4,8] (sR [fO 51 175 8 1,lO 52 3 51,fO 53 175 8 2,⟨some 54,(lD 3 53),none,[],3,[],true⟩,fO 55 175 8 3,⟨some 56,(lD 3 55),none,[],5,[],true⟩,fO 57 53 2 6,⟨none,(.store 3 (xT 57) (xT 52)),none,[],7,[3,5],false⟩,fO 58 53 2 4,⟨none,(.store 3 (xT 58) (xT 54)),none,[],9,[5],false⟩,fO 59 53 2 5,oS (.store 3 (xT 59) (xT 56))] [2,4] (sR [lO 60 53 2,oS (.store 53 (xT 4) (xT 60)),oO 5 (.assign (nI 0))] [4,5] (.ret))))))))
theorem MJ:AX Tryz.prog 158 61 [(.cell 4 53),(.tmp 5)] Hb:=Aq Tryz.func158
def LH:CC:=sR [oN 2 (.box 53 (xT 0)) [0],oN 4 (.alloc 53) [1],oO 5 (.assign (nI 0))] [1,2,4] (.seq (sR [mO 6 1,oO 7 (.binOp .lss 3 (xT 6) (nI 0) 3),mO 8 7,oG 9 (mV 1) 8 false,oG 10 (lD 53 2) 8 false,oG 11 (cL 137 #[(xT 10)] #[53]) 8 false,oG 12 (bO .geq 3 9 11 3) 8 false,oO 13 (.pick (xT 8) (nB true) (xT 12))] [1,2,4,13] (cD 13 (sR [oO 14 (.build 53 #[]),oS (.store 53 (xT 4) (xT 14)),oO 5 (.assign (nI 0))] [4,5] (.ret)) (.skip))) (.keep [1,2,4] (.seq (sR [fO 15 53 2 1,lO 16 3 15] [1,2,4,16] (.block 0 (sR [oO 18 (.binOp .eql 3 (xT 16) (nI 1) 3),aO 17 18] [1,2,4,16,17] (cD 17 (sR [fO 19 53 2 0,lO 20 50 19,fO 21 53 2 2,lO 22 3 21,fO 23 53 2 3,lO 24 3 23,fO 25 53 2 4,lO 26 3 25,oO 27 (bO .add 3 24 26 3),mO 28 1,oO 29 (bO .add 3 27 28 3),oO 30 (cL 99 #[(xT 20),(xT 22),(xT 29)] #[50,3,3]),xO 31 30 0,xO 32 30 1,oS (.store 53 (xT 4) (xT 31)),aO 5 32] [4,5] (.ret)) (sR [oO 34 (.binOp .eql 3 (xT 16) (nI 8) 3),aO 33 34] [1,2,4,16,33] (cD 33 (sR [fO 35 53 2 0,lO 36 50 35,fO 37 53 2 2,lO 38 3 37,fO 39 53 2 3,lO 40 3 39,mO 41 1,oO 42 (bO .add 3 40 41 3),oO 43 (cL 99 #[(xT 36),(xT 38),(xT 42)] #[50,3,3]),xO 44 43 0,xO 45 43 1,oS (.store 53 (xT 4) (xT 44)),aO 5 45] [4,5] (.ret)) (sR [oO 47 (.binOp .eql 3 (xT 16) (nI 9) 3),aO 46 47] [1,2,4,46] (cD 46 (sR [fO 48 53 2 0,lO 49 50 48,fO 50 53 2 2,lO 51 3 50,fO 52 53 2 3,lO 53 3 52,mO 54 1,fO 55 53 2 4,lO 56 3 55,fO 57 53 2 5,lO 58 3 57,oO 59 (bO .add 3 56 58 3),oO 60 (bO .mul 3 54 59 3),oO 61 (bO .add 3 53 60 3),fO 62 53 2 4,lO 63 3 62,fO 64 53 2 5,lO 65 3 64,oO 66 (.build 53 #[(0,(xT 49)),(1,(nI 1)),(2,(xT 51)),(3,(xT 61)),(4,(xT 63)),(5,(xT 65))]),oS (.store 53 (xT 4) (xT 66)),oO 5 (.assign (nI 0))] [4,5] (.ret)) (.skip))))))))) (.keep [1,2,4] (sR [fO 67 53 2 0,⟨some 68,(lD 50 67),none,[],1,[],true⟩,lO 69 53 2,mO 70 1,⟨some 71,(cL 231 #[(xT 69),(xT 70)] #[53,3]),none,[],4,[1],false⟩,oO 72 (.build 53 #[(0,(xT 68)),(1,(nI 10)),(7,(xT 71))]),oS (.store 53 (xT 4) (xT 72)),oO 5 (.assign (nI 0))] [4,5] (.ret))))))
theorem Tg:AX Tryz.prog 194 73 [(.cell 4 53),(.tmp 5)] LH:=Aq Tryz.func194
def Jt:CC:=.seq (sR [mO 6 3,oO 7 (.binOp .gtr 3 (xT 6) (nI 0) 3),mO 8 7,oG 9 (lD 53 1) 8 true,oG 10 (mV 3) 8 true,oG 11 (.binOp .sub 3 (xT 10) (nI 1) 3) 8 true,oG 12 (cL 150 #[(xT 9),(xT 11)] #[53,3]) 8 true,oG 13 (.binOp .eql 51 (xT 12) (.const (.int .u64 0)) 51) 8 true,oO 14 (.pick (xT 8) (xT 13) (nB false))] [1,3,14] (cD 14 (.skip) (.exit 0))) (.keep [1,3] (.block 1 (.reg [mO 15 3,oO 16 (.binOp .sub 3 (xT 15) (nI 1) 3),aO 3 16] [1,3]))) 
def Ub:CC:=sR [oN 1 (.box 53 (xT 0)) [0],oO 2 (.assign (nI 0))] [1] (sR [lO 4 53 1,oO 5 (cL 192 #[(xT 4)] #[53]),aO 3 5] [1,3] (.seq (.block 0 (.loop Jt)) (.keep [3] (sR [mO 17 3,aO 2 17] [2] (.ret)))))
theorem cJ:AX Tryz.prog 149 18 [(.tmp 2)] Ub:=Aq Tryz.func149
def Jj:CC:=.seq (sR [mO 9 4,oO 10 (.binOp .gtr 3 (xT 9) (nI 0) 3)] [1,4,10] (cD 10 (.skip) (.exit 0))) (.keep [1,4] (.block 1 (sR [lO 12 53 1,mO 13 4,oO 14 (.binOp .sub 3 (xT 13) (nI 1) 3),oO 15 (cL 194 #[(xT 12),(xT 14)] #[53,3]),mO 11 15,xO 16 11 0,xO 17 11 1,oN 5 (.alloc 53) [1],oS (.store 53 (xT 5) (xT 16)),aO 6 17] [1,4,5,6] (.seq (sR [mO 18 6,oO 19 (.binOp .neq 47 (xT 18) (nI 0) 47),mO 20 19,oG 21 (lD 53 5) 20 false,oG 22 (cL 95 #[(xT 21)] #[53]) 20 false,oG 23 (.binOp .neq 3 (xT 22) (nI 0) 3) 20 false,oO 24 (.pick (xT 20) (nB true) (xT 23))] [1,4,6,24] (cD 24 (sR [mO 25 4,mO 26 6,aO 2 25,aO 3 26] [2,3] (.ret)) (.skip))) (.keep [1,4] (.reg [mO 27 4,oO 28 (.binOp .sub 3 (xT 27) (nI 1) 3),aO 4 28] [1,4])))))) 
def Uh:CC:=sR [oN 1 (.box 53 (xT 0)) [0],oO 2 (.assign (nI 0)),oO 3 (.assign (nI 0))] [1] (sR [lO 7 53 1,oO 8 (cL 137 #[(xT 7)] #[53]),aO 4 8] [1,4] (.seq (.block 0 (.loop Jj)) (.keep [] (sR [oO 2 (.assign (nI 0)),oO 3 (.assign (nI 0))] [2,3] (.ret)))))
theorem dv:AX Tryz.prog 199 29 [(.tmp 2),(.tmp 3)] Uh:=Aq Tryz.func199
def RB:CC:=sR [oN 1 (.box 53 (xT 0)) [0],oO 2 (.assign (nI 0)),oO 3 (.assign (nI 0))] [1] (.seq (sR [lO 4 53 1,oO 5 (cL 95 #[(xT 4)] #[53]),oO 6 (.binOp .eql 3 (xT 5) (nI 1) 3)] [1,6] (cD 6 (sR [lO 7 53 1,oO 8 (cL 199 #[(xT 7)] #[53]),xO 9 8 0,xO 10 8 1,aO 2 9,aO 3 10] [2,3] (.ret)) (.skip))) (.keep [1] (sR [lO 11 53 1,oO 12 (cL 137 #[(xT 11)] #[53]),aO 2 12,oO 3 (.assign (nI 0))] [2,3] (.ret))))
theorem ZV:AX Tryz.prog 233 13 [(.tmp 2),(.tmp 3)] RB:=Aq Tryz.func233
def PH:CC:=sR [oN 1 (.box 53 (xT 0)) [0],oO 2 (.assign (nI 0))] [1] (.seq (sR [lO 3 53 1,oO 4 (cL 95 #[(xT 3)] #[53]),oO 5 (.binOp .eql 3 (xT 4) (nI 1) 3)] [1,5] (cD 5 (sR [lO 6 53 1,oO 7 (cL 149 #[(xT 6)] #[53]),aO 2 7] [2] (.ret)) (.skip))) (.keep [1] (sR [lO 8 53 1,oO 9 (cL 192 #[(xT 8)] #[53]),aO 2 9] [2] (.ret))))
theorem XR:AX Tryz.prog 232 10 [(.tmp 2)] PH:=Aq Tryz.func232
def G5:CC:=sR [oO 48 (bO .lss 3 47 46 3)] [2,3,7,10,46,47,48] (.seq (cD 48 (.skip) (.exit 0)) (.keep [2,3,7,10,46,47] (.seq (.block 1 (sR [mO 49 47,aO 11 49] [2,3,7,10,11,46,47] (sR [mO 50 10,lO 51 53 2,mO 52 11,⟨some 53,(.call { callee:=(.value (xT 50)),args:=#[(xT 51),(xT 52)],argTypes:=#[53,3] }),none,[],3,[],true⟩,mO 54 10,⟨some 55,(lD 53 3),none,[],5,[3],false⟩,mO 56 11,oO 57 (.call { callee:=(.value (xT 54)),args:=#[(xT 55),(xT 56)],argTypes:=#[53,3] }),oO 58 (bO .neq 51 53 57 51)] [2,3,7,10,46,47,58] (cD 58 (sR [oO 4 (.assign (nI 0)),oO 5 (.assign (nB false)),oO 6 (.assign (nI 0))] [4,5,6] (.ret)) (.skip))))) (.keep [2,3,7,10,46,47] (.reg [oO 59 (.binOp .add 3 (xT 47) (nI 1) 3),mO 47 59] [2,3,7,10,46,47]))))) 
def Ps:CC:=sR [oN 2 (.box 53 (xT 0)) [0],oN 3 (.box 53 (xT 1)) [1],oO 4 (.assign (nI 0)),oO 5 (.assign (nB false)),oO 6 (.assign (nI 0))] [2,3] (.seq (sR [lO 12 53 2,⟨some 13,(cL 95 #[(xT 12)] #[53]),none,[],1,[],true⟩,⟨some 14,(lD 53 3),none,[],2,[1],false⟩,oO 15 (cL 95 #[(xT 14)] #[53]),oO 16 (bO .neq 3 13 15 3),mO 17 16,oG 18 (lD 53 2) 17 false,⟨some 19,(cL 232 #[(xT 18)] #[53]),(some (17,false)),[],7,[],true⟩,⟨some 20,(lD 53 3),(some (17,false)),[],8,[7],false⟩,oG 21 (cL 232 #[(xT 20)] #[53]) 17 false,oG 22 (bO .neq 3 19 21 3) 17 false,oO 23 (.pick (xT 17) (nB true) (xT 22))] [2,3,23] (cD 23 (sR [oO 4 (.assign (nI 0)),oO 5 (.assign (nB false)),oO 6 (.assign (nI 0))] [4,5,6] (.ret)) (.skip))) (.keep [2,3] (sR [lO 25 53 2,oO 26 (cL 233 #[(xT 25)] #[53]),mO 24 26,xO 27 24 0,xO 28 24 1,aO 7 27,aO 8 28] [2,3,7,8] (.seq (sR [mO 29 8,oO 30 (.binOp .neq 47 (xT 29) (nI 0) 47)] [2,3,7,8,30] (cD 30 (sR [mO 31 8,oO 4 (.assign (nI 0)),oO 5 (.assign (nB false)),aO 6 31] [4,5,6] (.ret)) (.skip))) (.keep [2,3,7] (sR [lO 33 53 3,oO 34 (cL 233 #[(xT 33)] #[53]),mO 32 34,xO 35 32 0,xO 36 32 1,aO 9 35,aO 8 36] [2,3,7,8,9] (.seq (sR [mO 37 8,oO 38 (.binOp .neq 47 (xT 37) (nI 0) 47),mO 39 38,oG 40 (mV 7) 39 false,oG 41 (mV 9) 39 false,oG 42 (bO .neq 3 40 41 3) 39 false,oO 43 (.pick (xT 39) (nB true) (xT 42))] [2,3,7,8,43] (cD 43 (sR [mO 44 8,oO 4 (.assign (nI 0)),oO 5 (.assign (nB false)),aO 6 44] [4,5,6] (.ret)) (.skip))) (.keep [2,3,7] (sR [oO 10 (.assign (.func 150))] [2,3,7,10] (.seq (sR [lO 45 53 2,oO 46 (cL 232 #[(xT 45)] #[53]),oO 47 (.move (nI 0))] [2,3,7,10,46,47] (.block 0 (.loop G5))) (.keep [7] (sR [mO 60 7,aO 4 60,oO 5 (.assign (nB true)),oO 6 (.assign (nI 0))] [4,5,6] (.ret)))))))))))))
theorem XQ:AX Tryz.prog 197 61 [(.tmp 4),(.tmp 5),(.tmp 6)] Ps:=Aq Tryz.func197
def Gn:CC:=sR [oO 31 (bO .lss 3 30 29 3)] [2,3,29,30,31] (.seq (cD 31 (.skip) (.exit 0)) (.keep [2,3,29,30] (.seq (.block 1 (sR [mO 32 30,aO 9 32] [2,3,9,29,30] (sR [lO 34 53 2,mO 35 9,oO 36 (cL 194 #[(xT 34),(xT 35)] #[53,3]),mO 33 36,xO 37 33 0,xO 38 33 1,oN 10 (.alloc 53) [2],oS (.store 53 (xT 10) (xT 37)),aO 11 38] [2,3,9,10,11,29,30] (.seq (sR [mO 39 11,oO 40 (.binOp .neq 47 (xT 39) (nI 0) 47)] [2,3,9,10,11,29,30,40] (cD 40 (sR [mO 41 11,oO 4 (.assign (nB false)),aO 5 41] [4,5] (.ret)) (.skip))) (.keep [2,3,9,10,29,30] (sR [lO 43 53 3,mO 44 9,oO 45 (cL 194 #[(xT 43),(xT 44)] #[53,3]),mO 42 45,xO 46 42 0,xO 47 42 1,oN 12 (.alloc 53) [3],oS (.store 53 (xT 12) (xT 46)),aO 11 47] [2,3,10,11,12,29,30] (.seq (sR [mO 48 11,oO 49 (.binOp .neq 47 (xT 48) (nI 0) 47)] [2,3,10,11,12,29,30,49] (cD 49 (sR [mO 50 11,oO 4 (.assign (nB false)),aO 5 50] [4,5] (.ret)) (.skip))) (.keep [2,3,10,12,29,30] (sR [lO 52 53 10,lO 53 53 12,oO 54 (cL 147 #[(xT 52),(xT 53)] #[53,53]),mO 51 54,xO 55 51 0,xO 56 51 1,aO 13 55,aO 14 56] [2,3,13,14,29,30] (sR [mO 57 14,oO 58 (.binOp .neq 47 (xT 57) (nI 0) 47),mO 59 58,oG 60 (mV 13) 59 false,oG 61 (.unOp .not 4 (xT 60)) 59 false,oO 62 (.pick (xT 59) (nB true) (xT 61))] [2,3,14,29,30,62] (cD 62 (sR [mO 63 14,oO 4 (.assign (nB false)),aO 5 63] [4,5] (.ret)) (.skip)))))))))))) (.keep [2,3,29,30] (.reg [oO 64 (.binOp .add 3 (xT 30) (nI 1) 3),mO 30 64] [2,3,29,30]))))) 
def Nx:CC:=sR [oN 2 (.box 53 (xT 0)) [0],oN 3 (.box 53 (xT 1)) [1],oO 4 (.assign (nB false)),oO 5 (.assign (nI 0))] [2,3] (sR [lO 16 53 2,lO 17 53 3,oO 18 (cL 197 #[(xT 16),(xT 17)] #[53,53]),mO 15 18,xO 19 15 0,xO 20 15 1,xO 21 15 2,aO 6 19,aO 7 20,aO 8 21] [2,3,6,7,8] (.seq (sR [mO 22 8,oO 23 (.binOp .neq 47 (xT 22) (nI 0) 47),mO 24 23,oG 25 (mV 7) 24 false,oG 26 (.unOp .not 4 (xT 25)) 24 false,oO 27 (.pick (xT 24) (nB true) (xT 26))] [2,3,6,8,27] (cD 27 (sR [mO 28 8,oO 4 (.assign (nB false)),aO 5 28] [4,5] (.ret)) (.skip))) (.keep [2,3,6] (.seq (sR [mO 29 6,oO 30 (.move (nI 0))] [2,3,29,30] (.block 0 (.loop Gn))) (.keep [] (sR [oO 4 (.assign (nB true)),oO 5 (.assign (nI 0))] [4,5] (.ret)))))))
theorem Xm:AX Tryz.prog 147 65 [(.tmp 4),(.tmp 5)] Nx:=Aq Tryz.func147
def Nb:CC:=sR [oN 6 (.alloc 75) [0],oO 7 (.assign (nI 0))] [0,1,2,6] (sR [mO 13 0,mO 14 1,mO 15 2,oO 16 (cL 88 #[(xT 13),(xT 14),(xT 15)] #[41,3,3]),mO 12 16,xO 17 12 0,xO 18 12 1,oN 8 (.alloc 137) [1],oS (.store 137 (xT 8) (xT 17)),aO 9 18] [0,6,8,9] (.seq (sR [mO 19 9,oO 20 (.binOp .neq 3 (xT 19) (nI 0) 3),mO 21 20,oG 22 (fA 137 8 0) 21 false,oG 23 (fA 135 22 0) 21 false,oG 24 (lD 3 23) 21 false,oG 25 (.binOp .eql 3 (xT 24) (nI 0) 3) 21 false,oO 26 (.pick (xT 21) (nB true) (xT 25))] [0,6,8,9,26] (cD 26 (sR [oO 27 (.build 75 #[]),mO 28 9,oS (.store 75 (xT 6) (xT 27)),aO 7 28] [6,7] (.ret)) (.skip))) (.keep [0,6,8] (.seq (sR [fO 29 137 8 0,fO 30 135 29 0,lO 31 3 30,oO 32 (.binOp .eql 3 (xT 31) (nI 1) 3)] [0,6,8,32] (cD 32 (sR [fO 33 137 8 1,lO 34 3 33,fO 35 137 8 2,lO 36 3 35,fO 37 137 8 0,fO 38 135 37 2,lO 39 3 38,fO 40 137 8 0,fO 41 135 40 3,lO 42 3 41,oO 43 (.build 75 #[(0,(nI 1)),(1,(xT 34)),(2,(xT 36)),(3,(xT 39)),(4,(xT 42))]),oS (.store 75 (xT 6) (xT 43)),oO 7 (.assign (nI 0))] [6,7] (.ret)) (.skip))) (.keep [0,6,8] (.seq (sR [fO 44 137 8 0,fO 45 135 44 4,lO 46 3 45,oO 47 (.binOp .lss 3 (xT 46) (nI 7) 3)] [0,6,8,47] (cD 47 (sR [fO 48 137 8 0,fO 49 135 48 4,lO 50 3 49,oO 51 (.binOp .add 3 (nI 2) (xT 50) 3),fO 52 137 8 1,lO 53 3 52,fO 54 137 8 2,lO 55 3 54,fO 56 137 8 0,fO 57 135 56 5,lO 58 3 57,oO 59 (.build 75 #[(0,(xT 51)),(1,(xT 53)),(2,(xT 55)),(5,(xT 58))]),oS (.store 75 (xT 6) (xT 59)),oO 7 (.assign (nI 0))] [6,7] (.ret)) (.skip))) (.keep [0,6,8] (sR [mO 60 0,fO 61 137 8 1,lO 62 3 61,oO 63 (iA 41 60 62),lO 64 22 63,fO 65 137 8 2,lO 66 3 65,oO 67 (iA 22 64 66),lO 68 51 67,aO 10 68] [6,8,10] (sR [mO 69 10,oO 70 (cL 89 #[(xT 69)] #[51]),oN 11 (.alloc 135) [2],oS (.store 135 (xT 11) (xT 70))] [6,8,10,11] (.seq (sR [mO 71 10,oO 72 (.binOp .neq 51 (xT 71) (.const (.int .u64 0)) 51),mO 73 72,oG 74 (fA 135 11 0) 73 true,oG 75 (lD 3 74) 73 true,oG 76 (.binOp .neq 3 (xT 75) (nI 1) 3) 73 true,oO 77 (.pick (xT 73) (xT 76) (nB false)),mO 78 77,oG 79 (fA 135 11 1) 78 false,oG 80 (lD 3 79) 78 false,oG 81 (.binOp .lss 3 (xT 80) (nI 0) 3) 78 false,oO 82 (.pick (xT 78) (nB true) (xT 81)),mO 83 82,oG 84 (fA 135 11 1) 83 false,oG 85 (lD 3 84) 83 false,oG 86 (fA 135 11 2) 83 false,oG 87 (lD 3 86) 83 false,oG 88 (fA 135 11 3) 83 false,oG 89 (lD 3 88) 83 false,oG 90 (bO .add 3 87 89 3) 83 false,oG 91 (bO .mul 3 85 90 3) 83 false,oG 92 (fA 137 8 0) 83 false,oG 93 (fA 135 92 5) 83 false,oG 94 (lD 3 93) 83 false,oG 95 (bO .gtr 3 91 94 3) 83 false,oO 96 (.pick (xT 83) (nB true) (xT 95))] [6,8,11,96] (cD 96 (sR [oO 97 (.build 75 #[]),oS (.store 75 (xT 6) (xT 97)),oO 7 (.assign (nI 8))] [6,7] (.ret)) (.skip))) (.keep [6,8,11] (sR [fO 98 137 8 1,lO 99 3 98,fO 100 137 8 2,lO 101 3 100,oO 102 (.binOp .add 3 (xT 101) (nI 1) 3),fO 103 135 11 2,lO 104 3 103,fO 105 135 11 3,lO 106 3 105,fO 107 135 11 1,lO 108 3 107,oO 109 (.build 75 #[(0,(nI 9)),(1,(xT 99)),(2,(xT 102)),(3,(xT 104)),(4,(xT 106)),(5,(xT 108))]),oS (.store 75 (xT 6) (xT 109)),oO 7 (.assign (nI 0))] [6,7] (.ret)))))))))))))
theorem U1:AX Tryz.prog 46 110 [(.cell 6 75),(.tmp 7)] Nb:=Aq Tryz.func46
def Hw:CC:=sR [oN 1 (.box 75 (xT 0)) [0],oO 2 (.assign (nI 0))] [1] (.seq (sR [fO 3 75 1 0,lO 4 3 3,oO 5 (.binOp .eql 3 (xT 4) (nI 1) 3)] [1,5] (cD 5 (sR [fO 6 75 1 4,lO 7 3 6,aO 2 7] [2] (.ret)) (.skip))) (.keep [1] (sR [fO 8 75 1 5,lO 9 3 8,aO 2 9] [2] (.ret))))
theorem Nh:AX Tryz.prog 91 10 [(.tmp 2)] Hw:=Aq Tryz.func91
def Hf:CC:=sR [oN 2 (.box 75 (xT 0)) [0],oO 4 (.assign nS)] [1,2] (.seq (sR [fO 6 75 2 0,lO 7 3 6,oO 8 (.binOp .eql 3 (xT 7) (nI 10) 3)] [1,2,8] (cD 8 (sR [fO 9 75 2 6,lO 10 51 9,oO 11 (.buildSlice 22 1 #[(0,(xT 10))]),aO 4 11] [4] (.ret)) (.skip))) (.keep [1,2] (.seq (sR [fO 12 75 2 0,lO 13 3 12,oO 14 (.binOp .neq 3 (xT 13) (nI 1) 3)] [1,2,14] (cD 14 (sR [oO 4 (.assign nS)] [4] (.ret)) (.skip))) (.keep [1,2] (sR [oO 5 (.assign nS)] [1,2,5] (sR [mO 15 5,mO 16 1,fO 17 75 2 1,lO 18 3 17,oO 19 (iA 41 16 18),lO 20 22 19,fO 21 75 2 2,lO 22 3 21,fO 23 75 2 2,lO 24 3 23,fO 25 75 2 3,lO 26 3 25,oO 27 (bO .add 3 24 26 3),oO 28 (.slice 22 (xT 20) (some (xT 22)) (some (xT 27)) none),oN 29 (bC .append #[(xT 15),(xT 28)] #[22,22]) [1],aO 4 29] [4] (.ret)))))))
theorem MX:AX Tryz.prog 90 30 [(.tmp 4)] Hf:=Aq Tryz.func90
def Ie:CC:=sR [oN 3 (.box 75 (xT 0)) [0],oN 6 (.alloc 75) [1],oO 7 (.assign (nI 0))] [1,2,3,6] (.seq (sR [mO 8 2,oO 9 (.binOp .lss 3 (xT 8) (nI 0) 3),mO 10 9,oG 11 (mV 2) 10 false,oG 12 (lD 75 3) 10 false,oG 13 (cL 91 #[(xT 12)] #[75]) 10 false,oG 14 (bO .geq 3 11 13 3) 10 false,oO 15 (.pick (xT 10) (nB true) (xT 14))] [1,2,3,6,15] (cD 15 (sR [oO 16 (.build 75 #[]),oS (.store 75 (xT 6) (xT 16)),oO 7 (.assign (nI 0))] [6,7] (.ret)) (.skip))) (.keep [1,2,3,6] (.seq (sR [fO 17 75 3 0,lO 18 3 17,oO 19 (.binOp .eql 3 (xT 18) (nI 1) 3)] [1,2,3,6,19] (cD 19 (sR [mO 20 1,fO 21 75 3 1,lO 22 3 21,fO 23 75 3 2,lO 24 3 23,fO 25 75 3 3,lO 26 3 25,oO 27 (bO .add 3 24 26 3),mO 28 2,oO 29 (bO .add 3 27 28 3),oO 30 (cL 46 #[(xT 20),(xT 22),(xT 29)] #[41,3,3]),xO 31 30 0,xO 32 30 1,oS (.store 75 (xT 6) (xT 31)),aO 7 32] [6,7] (.ret)) (.skip))) (.keep [1,2,3,6] (.seq (sR [fO 33 75 3 0,lO 34 3 33,oO 35 (.binOp .eql 3 (xT 34) (nI 8) 3)] [1,2,3,6,35] (cD 35 (sR [mO 36 1,fO 37 75 3 1,lO 38 3 37,fO 39 75 3 2,lO 40 3 39,mO 41 2,oO 42 (bO .add 3 40 41 3),oO 43 (cL 46 #[(xT 36),(xT 38),(xT 42)] #[41,3,3]),xO 44 43 0,xO 45 43 1,oS (.store 75 (xT 6) (xT 44)),aO 7 45] [6,7] (.ret)) (.skip))) (.keep [1,2,3,6] (.seq (sR [fO 46 75 3 0,lO 47 3 46,oO 48 (.binOp .eql 3 (xT 47) (nI 9) 3)] [1,2,3,6,48] (cD 48 (sR [fO 49 75 3 1,lO 50 3 49,fO 51 75 3 2,lO 52 3 51,mO 53 2,fO 54 75 3 3,lO 55 3 54,fO 56 75 3 4,lO 57 3 56,oO 58 (bO .add 3 55 57 3),oO 59 (bO .mul 3 53 58 3),oO 60 (bO .add 3 52 59 3),fO 61 75 3 3,lO 62 3 61,fO 63 75 3 4,lO 64 3 63,oO 65 (.build 75 #[(0,(nI 1)),(1,(xT 50)),(2,(xT 60)),(3,(xT 62)),(4,(xT 64))]),oS (.store 75 (xT 6) (xT 65)),oO 7 (.assign (nI 0))] [6,7] (.ret)) (.skip))) (.keep [1,2,3,6] (sR [mO 66 1,fO 67 75 3 1,lO 68 3 67,oO 69 (iA 41 66 68),lO 70 22 69,fO 71 75 3 2,lO 72 3 71,oO 73 (.slice 22 (xT 70) (some (xT 72)) none none),fO 74 75 3 0,lO 75 3 74,oO 76 (.binOp .sub 3 (xT 75) (nI 2) 3),mO 77 2,oO 78 (cL 146 #[(xT 73),(xT 76),(xT 77)] #[22,3,3]),oO 79 (.build 75 #[(0,(nI 10)),(6,(xT 78))]),oS (.store 75 (xT 6) (xT 79)),oO 7 (.assign (nI 0))] [6,7] (.ret))))))))))
theorem NK:AX Tryz.prog 92 80 [(.cell 6 75),(.tmp 7)] Ie:=Aq Tryz.func92
def IL:CC:=sR [oO 4 (.assign (nI 0))] [0,1] (.seq (sR [mO 5 0,oO 6 (.binOp .lss 3 (xT 5) (nI 0) 3)] [0,1,6] (cD 6 (sR [oO 4 (.assign (nI 0))] [4] (.ret)) (.skip))) (.keep [0,1] (.seq (sR [mO 7 0,mO 8 1,oO 9 (bO .gtr 3 7 8 3)] [0,1,9] (cD 9 (sR [mO 10 1,aO 4 10] [4] (.ret)) (.skip))) (.keep [0] (sR [mO 11 0,aO 4 11] [4] (.ret))))))
theorem Pk:AX Tryz.prog 87 12 [(.tmp 4)] IL:=Aq Tryz.func87
def IK:CC:=sR [oN 1 (.box 43 (xT 0)) [0],oN 2 (.alloc 43) [1]] [1,2] (sR [fO 3 43 1 0,lO 4 3 3,⟨some 5,(cL 87 #[(xT 4),(nI 64)] #[3,3]),none,[],2,[],true⟩,fO 6 43 1 1,⟨some 7,(lD 3 6),none,[],4,[2],false⟩,⟨some 8,(cL 87 #[(xT 7),(nI 65536)] #[3,3]),none,[],5,[],true⟩,fO 9 43 1 2,⟨some 10,(lD 3 9),none,[],7,[2,5],false⟩,⟨some 11,(cL 87 #[(xT 10),(nI 4096)] #[3,3]),none,[],8,[],true⟩,fO 12 43 1 3,⟨some 13,(lD 3 12),none,[],10,[2,5,8],false⟩,oO 14 (cL 87 #[(xT 13),(nI 131072)] #[3,3]),oO 15 (.build 43 #[(0,(xT 5)),(1,(xT 8)),(2,(xT 11)),(3,(xT 14))]),oS (.store 43 (xT 2) (xT 15))] [2] (.ret))
theorem Pd:AX Tryz.prog 45 16 [(.cell 2 43)] IK:=Aq Tryz.func45
def Ei:CC:=.seq (sR [mO 22 12,fO 23 75 5 4,lO 24 3 23,oO 25 (bO .lss 3 22 24 3)] [0,2,3,5,8,11,12,25] (cD 25 (.skip) (.exit 0))) (.keep [0,2,3,5,8,11,12] (.seq (.block 1 (sR [lO 29 75 5,mO 30 0,mO 31 12,oO 32 (cL 92 #[(xT 29),(xT 30),(xT 31)] #[75,41,3]),mO 28 32,xO 33 28 0,xO 34 28 1,oN 13 (.alloc 75) [3],oS (.store 75 (xT 13) (xT 33)),aO 14 34] [0,2,3,5,8,11,12,13,14] (.seq (sR [mO 35 14,oO 36 (.binOp .neq 3 (xT 35) (nI 0) 3)] [0,2,3,5,8,11,12,13,14,36] (cD 36 (sR [lO 37 25 11,mO 38 3,mO 39 14,oS (.store 25 (xT 8) (xT 37)),aO 9 38,aO 10 39] [8,9,10] (.ret)) (.skip))) (.keep [0,2,3,5,8,11,12,13] (sR [mO 41 0,lO 42 75 13,mO 43 2,mO 44 3,oO 45 (cL 47 #[(xT 41),(xT 42),(xT 43),(xT 44)] #[41,75,3,3]),mO 40 45,xO 46 40 0,xO 47 40 1,xO 48 40 2,oN 15 (.alloc 25) [4],oS (.store 25 (xT 15) (xT 46)),aO 16 47,aO 17 48] [0,2,5,8,11,12,15,16,17] (.seq (sR [mO 49 17,oO 50 (.binOp .neq 3 (xT 49) (nI 0) 3)] [0,2,5,8,11,12,15,16,17,50] (cD 50 (sR [lO 51 25 11,mO 52 16,mO 53 17,oS (.store 25 (xT 8) (xT 51)),aO 9 52,aO 10 53] [8,9,10] (.ret)) (.skip))) (.keep [0,2,5,8,11,12,15,16] (sR [mO 54 16,aO 3 54] [0,2,3,5,8,11,12,15] (.reg [fO 55 25 11 2,lO 56 23 55,lO 57 25 15,oO 58 (.buildSlice 23 1 #[(0,(xT 57))]),oN 59 (bC .append #[(xT 56),(xT 58)] #[23,23]) [5],fO 60 25 11 2,oS (.store 23 (xT 60) (xT 59))] [0,2,3,5,8,11,12]))))))))) (.keep [0,2,3,5,8,11,12] (.reg [mO 26 12,oO 27 (.binOp .add 3 (xT 26) (nI 1) 3),aO 12 27] [0,2,3,5,8,11,12])))) 
def KL:CC:=sR [oN 5 (.box 75 (xT 1)) [0],oN 8 (.alloc 25) [1],oO 9 (.assign (nI 0)),oO 10 (.assign (nI 0))] [0,2,3,5,8] (sR [lO 18 75 5,mO 19 0,oO 20 (cL 90 #[(xT 18),(xT 19)] #[75,41]),oO 21 (.build 25 #[(0,(nI 1)),(1,(xT 20))]),oN 11 (.alloc 25) [2],oS (.store 25 (xT 11) (xT 21))] [0,2,3,5,8,11] (.seq (sR [oO 12 (.assign (nI 0))] [0,2,3,5,8,11,12] (.block 0 (.loop Ei))) (.keep [3,8,11] (sR [lO 61 25 11,mO 62 3,oS (.store 25 (xT 8) (xT 61)),aO 9 62,oO 10 (.assign (nI 0))] [8,9,10] (.ret)))))
theorem RV:AX Tryz.prog 93 63 [(.cell 8 25),(.tmp 9),(.tmp 10)] KL:=Aq Tryz.func93
def Dc:CC:=.seq (sR [mO 136 15,oO 137 (.binOp .neq 3 (xT 136) (nI 0) 3)] [0,2,3,5,8,11,13,15,16,137] (cD 137 (sR [lO 138 25 11,mO 139 3,mO 140 15,oS (.store 25 (xT 8) (xT 138)),aO 9 139,aO 10 140] [8,9,10] (.ret)) (.skip))) (.keep [0,2,3,5,8,11,13,16] (.reg [fO 141 25 11 2,lO 142 23 141,lO 143 25 16,oO 144 (.buildSlice 23 1 #[(0,(xT 143))]),oN 145 (bC .append #[(xT 142),(xT 144)] #[23,23]) [5],fO 146 25 11 2,oS (.store 23 (xT 146) (xT 145))] [0,2,3,5,8,11,13]))
def Ch:CC:=.seq (sR [mO 79 13,lO 80 75 5,oO 81 (cL 91 #[(xT 80)] #[75]),oO 82 (bO .lss 3 79 81 3)] [0,2,3,5,8,11,13,82] (cD 82 (.skip) (.exit 0))) (.keep [0,2,3,5,8,11,13] (.seq (.block 1 (sR [lO 86 75 5,mO 87 0,mO 88 13,oO 89 (cL 92 #[(xT 86),(xT 87),(xT 88)] #[75,41,3]),mO 85 89,xO 90 85 0,xO 91 85 1,oN 14 (.alloc 75) [3],oS (.store 75 (xT 14) (xT 90)),aO 15 91] [0,2,3,5,8,11,13,14,15] (.seq (sR [mO 92 15,oO 93 (.binOp .neq 3 (xT 92) (nI 0) 3)] [0,2,3,5,8,11,13,14,15,93] (cD 93 (sR [lO 94 25 11,mO 95 3,mO 96 15,oS (.store 25 (xT 8) (xT 94)),aO 9 95,aO 10 96] [8,9,10] (.ret)) (.skip))) (.keep [0,2,3,5,8,11,13,14,15] (sR [fO 97 75 14 0,⟨some 98,(lD 3 97),none,[],1,[],true⟩,⟨some 99,(lD 75 14),none,[],2,[],true⟩,mO 100 0,⟨some 101,(cL 90 #[(xT 99),(xT 100)] #[75,41]),none,[],4,[1],true⟩,oO 102 (.build 25 #[(0,(xT 98)),(1,(xT 101))]),⟨some 16,(.alloc 25),none,[4],6,[1,2,4],false⟩,oS (.store 25 (xT 16) (xT 102))] [0,2,3,5,8,11,13,14,15,16] (.seq (.block 2 (sR [fO 104 75 5 0,lO 105 3 104,oO 106 (.binOp .eql 3 (xT 105) (nI 9) 3),aO 103 106] [0,2,3,5,8,11,13,14,15,16,103] (cD 103 (.reg [mO 108 0,lO 109 75 14,mO 110 2,oO 111 (.binOp .sub 3 (xT 110) (nI 2) 3),mO 112 3,oO 113 (cL 93 #[(xT 108),(xT 109),(xT 111),(xT 112)] #[41,75,3,3]),mO 107 113,xO 114 107 0,xO 115 107 1,xO 116 107 2,oS (.store 25 (xT 16) (xT 114)),aO 3 115,aO 15 116] [0,2,3,5,8,11,13,15,16]) (sR [fO 118 75 5 0,lO 119 3 118,oO 120 (.binOp .eql 3 (xT 119) (nI 1) 3),mO 121 120,oG 122 (fA 75 5 0) 121 false,oG 123 (lD 3 122) 121 false,oG 124 (.binOp .eql 3 (xT 123) (nI 8) 3) 121 false,oO 125 (.pick (xT 121) (nB true) (xT 124)),aO 117 125] [0,2,3,5,8,11,13,14,15,16,117] (cD 117 (.reg [mO 127 0,lO 128 75 14,mO 129 2,oO 130 (.binOp .sub 3 (xT 129) (nI 1) 3),mO 131 3,oO 132 (cL 47 #[(xT 127),(xT 128),(xT 130),(xT 131)] #[41,75,3,3]),mO 126 132,xO 133 126 0,xO 134 126 1,xO 135 126 2,oS (.store 25 (xT 16) (xT 133)),aO 3 134,aO 15 135] [0,2,3,5,8,11,13,15,16]) (.skip)))))) (.keep [0,2,3,5,8,11,13,15,16] Dc))))))) (.keep [0,2,3,5,8,11,13] (.reg [mO 83 13,oO 84 (.binOp .add 3 (xT 83) (nI 1) 3),aO 13 84] [0,2,3,5,8,11,13]))))
def EU:CC:=.seq (sR [mO 71 12,mO 72 3,oO 73 (bO .gtr 3 71 72 3)] [0,2,3,5,8,11,12,73] (cD 73 (sR [lO 74 25 11,mO 75 3,oS (.store 25 (xT 8) (xT 74)),aO 9 75,oO 10 (.assign (nI 3))] [8,9,10] (.ret)) (.skip))) (.keep [0,2,3,5,8,11,12] (sR [mO 76 3,mO 77 12,oO 78 (bO .sub 3 76 77 3),aO 3 78] [0,2,3,5,8,11] (.seq (sR [oO 13 (.assign (nI 0))] [0,2,3,5,8,11,13] (.block 0 (.loop Ch))) (.keep [3,8,11] (sR [lO 147 25 11,mO 148 3,oS (.store 25 (xT 8) (xT 147)),aO 9 148,oO 10 (.assign (nI 0))] [8,9,10] (.ret))))))
def Db:CC:=.seq (sR [fO 58 75 5 0,lO 59 3 58,oO 60 (.binOp .eql 3 (xT 59) (nI 9) 3)] [0,2,3,5,8,11,12,60] (cD 60 (.reg [fO 61 75 5 5,lO 62 3 61,fO 63 75 5 3,lO 64 3 63,oO 65 (.binOp .add 3 (nI 1) (xT 64) 3),fO 66 75 5 4,lO 67 3 66,oO 68 (bO .add 3 65 67 3),oO 69 (bO .mul 3 62 68 3),oO 70 (.binOp .add 3 (nI 1) (xT 69) 3),aO 12 70] [0,2,3,5,8,11,12]) (.skip))) (.keep [0,2,3,5,8,11,12] EU) 
def Iy:CC:=sR [oN 5 (.box 75 (xT 1)) [0],oN 8 (.alloc 25) [1],oO 9 (.assign (nI 0)),oO 10 (.assign (nI 0))] [0,2,3,5,8] (sR [fO 17 75 5 0,⟨some 18,(lD 3 17),none,[],1,[],true⟩,⟨some 19,(lD 75 5),none,[],2,[],true⟩,mO 20 0,⟨some 21,(cL 90 #[(xT 19),(xT 20)] #[75,41]),none,[],4,[1],true⟩,oO 22 (.build 25 #[(0,(xT 18)),(1,(xT 21))]),⟨some 11,(.alloc 25),none,[2],6,[1,2,4],false⟩,oS (.store 25 (xT 11) (xT 22))] [0,2,3,5,8,11] (.seq (sR [fO 23 75 5 0,lO 24 3 23,oO 25 (.binOp .eql 3 (xT 24) (nI 0) 3)] [0,2,3,5,8,11,25] (cD 25 (sR [lO 26 25 11,mO 27 3,oS (.store 25 (xT 8) (xT 26)),aO 9 27,oO 10 (.assign (nI 0))] [8,9,10] (.ret)) (.skip))) (.keep [0,2,3,5,8,11] (.seq (sR [mO 28 2,oO 29 (.binOp .lss 3 (xT 28) (nI 1) 3),mO 30 29,oG 31 (fA 75 5 0) 30 false,oG 32 (lD 3 31) 30 false,oG 33 (.binOp .eql 3 (xT 32) (nI 9) 3) 30 false,oG 34 (mV 33) 30 false,oG 35 (fA 75 5 5) 34 true,oG 36 (lD 3 35) 34 true,oG 37 (.binOp .gtr 3 (xT 36) (nI 0) 3) 34 true,oG 38 (.pick (xT 34) (xT 37) (nB false)) 30 false,oG 39 (mV 38) 30 false,oG 40 (mV 2) 39 true,oG 41 (.binOp .lss 3 (xT 40) (nI 2) 3) 39 true,oG 42 (.pick (xT 39) (xT 41) (nB false)) 30 false,oO 43 (.pick (xT 30) (nB true) (xT 42))] [0,2,3,5,8,11,43] (cD 43 (sR [lO 44 25 11,mO 45 3,oS (.store 25 (xT 8) (xT 44)),aO 9 45,oO 10 (.assign (nI 3))] [8,9,10] (.ret)) (.skip))) (.keep [0,2,3,5,8,11] (sR [lO 46 75 5,oO 47 (cL 91 #[(xT 46)] #[75]),oO 48 (.binOp .add 3 (nI 1) (xT 47) 3),aO 12 48] [0,2,3,5,8,11,12] (.seq (sR [fO 49 75 5 0,lO 50 3 49,oO 51 (.binOp .eql 3 (xT 50) (nI 1) 3)] [0,2,3,5,8,11,12,51] (cD 51 (.reg [fO 52 75 5 3,lO 53 3 52,oO 54 (.binOp .add 3 (nI 1) (xT 53) 3),fO 55 75 5 4,lO 56 3 55,oO 57 (bO .add 3 54 56 3),aO 12 57] [0,2,3,5,8,11,12]) (.skip))) (.keep [0,2,3,5,8,11,12] Db))))))))
theorem NU:AX Tryz.prog 47 149 [(.cell 8 25),(.tmp 9),(.tmp 10)] Iy:=Aq Tryz.func47
def I7:CC:=sR [oN 3 (.box 43 (xT 1)) [0],oN 4 (.alloc 25) [1],oO 5 (.assign (nI 0)),oO 6 (.assign (nI 0))] [0,3,4] (sR [lO 12 43 3,oO 13 (cL 45 #[(xT 12)] #[43]),oS (.store 43 (xT 3) (xT 13))] [0,3,4] (sR [mO 15 0,oO 16 (cL 46 #[(xT 15),(nI 0),(nI 0)] #[41,3,3]),mO 14 16,xO 17 14 0,xO 18 14 1,oN 7 (.alloc 75) [2],oS (.store 75 (xT 7) (xT 17)),aO 8 18] [0,3,4,7,8] (.seq (sR [mO 19 8,oO 20 (.binOp .neq 3 (xT 19) (nI 0) 3)] [0,3,4,7,8,20] (cD 20 (sR [oO 21 (.build 25 #[]),mO 22 8,oS (.store 25 (xT 4) (xT 21)),oO 5 (.assign (nI 0)),aO 6 22] [4,5,6] (.ret)) (.skip))) (.keep [0,3,4,7] (sR [mO 24 0,lO 25 75 7,fO 26 43 3 0,lO 27 3 26,fO 28 43 3 1,lO 29 3 28,oO 30 (cL 47 #[(xT 24),(xT 25),(xT 27),(xT 29)] #[41,75,3,3]),mO 23 30,xO 31 23 0,xO 32 23 1,xO 33 23 2,oN 9 (.alloc 25) [3],oS (.store 25 (xT 9) (xT 31)),aO 10 32,aO 11 33] [3,4,9,10,11] (.seq (sR [mO 34 11,oO 35 (.binOp .neq 3 (xT 34) (nI 0) 3)] [3,4,9,10,11,35] (cD 35 (sR [oO 36 (.build 25 #[]),mO 37 11,oS (.store 25 (xT 4) (xT 36)),oO 5 (.assign (nI 0)),aO 6 37] [4,5,6] (.ret)) (.skip))) (.keep [3,4,9,10] (sR [lO 38 25 9,fO 39 43 3 1,⟨some 40,(lD 3 39),none,[],2,[],true⟩,mO 41 10,oO 42 (bO .sub 3 40 41 3),⟨none,(.store 25 (xT 4) (xT 38)),none,[],5,[2],false⟩,aO 5 42,oO 6 (.assign (nI 0))] [4,5,6] (.ret)))))))))
theorem Pj:AX Tryz.prog 19 43 [(.cell 4 25),(.tmp 5),(.tmp 6)] I7:=Aq Tryz.func19
def Kj:CC:=sR [oN 1 (.box 43 (xT 0)) [0],oN 2 (.alloc 43) [1]] [1,2] (.seq (sR [fO 3 43 1 1,lO 4 3 3,oO 5 (.binOp .gtr 3 (xT 4) (nI 3000) 3)] [1,2,5] (cD 5 (.reg [fO 6 43 1 1,oS (.store 3 (xT 6) (nI 3000))] [1,2]) (.skip))) (.keep [1,2] (sR [lO 7 43 1,oS (.store 43 (xT 2) (xT 7))] [2] (.ret))))
theorem QU:AX Tryz.prog 18 8 [(.cell 2 43)] Kj:=Aq Tryz.func18
@[simp] theorem mY:Ak Tryz.prog 316 0=some 0:=by kernel_rfl
@[simp] theorem wq (ps:List (Nat × A)):Bt Tryz.prog 316 ps=(BP (fun i=>([(0,1)]:List (Nat × Nat))[i]?) [A.v (Value.int IntKind.u64 0)] ps).map A.agg:=by kernel_rfl
def KH:CC:=sR [mO 4 0,mO 5 0,oO 6 (.nilCheck (xT 5)),fO 7 316 6 0,lO 8 51 7,mO 9 1,oO 10 (bO .xor 51 8 9 51),oO 11 (.binOp .mul 51 (xT 10) (.const (.int .u64 1099511628211)) 51),oO 12 (.nilCheck (xT 4)),fO 13 316 12 0,oS (.store 51 (xT 13) (xT 11))] [0] (.reg [mO 14 0,oO 15 (.nilCheck (xT 14)),fO 16 316 15 0,lO 17 51 16,mO 18 0,oO 19 (.nilCheck (xT 18)),fO 20 316 19 0,lO 21 51 20,oO 22 (.binOp .shr 51 (xT 21) (.const (.int .u64 29)) 269),oO 23 (bO .xor 51 17 22 51),oO 24 (.nilCheck (xT 14)),fO 25 316 24 0,oS (.store 51 (xT 25) (xT 23))] [])
theorem Re:AX Tryz.prog 269 26 [] KH:=Aq Tryz.func269
def HU:CC:=sR [oO 38 (bO .lss 3 37 36 3)] [1,4,5,6,36,37,38] (.seq (cD 38 (.skip) (.exit 0)) (.keep [1,4,5,6,36,37] (.seq (.block 1 (sR [mO 39 37,aO 8 39] [1,4,5,6,8,36,37] (.reg [mO 40 5,lO 41 53 1,mO 42 8,oO 43 (cL 150 #[(xT 41),(xT 42)] #[53,3]),oO 44 (.call { callee:=(.value (xT 40)),args:=#[(xT 43)],argTypes:=#[51] })] [1,4,5,6,36,37]))) (.reg [oO 45 (.binOp .add 3 (xT 37) (nI 1) 3),mO 37 45] [1,4,5,6,36,37]))))
def H5:CC:=sR [oO 48 (bO .lss 3 47 46 3)] [1,4,5,46,47,48] (.seq (cD 48 (.skip) (.exit 2)) (.keep [1,4,5,46,47] (.seq (.block 3 (sR [mO 49 47,aO 9 49] [1,4,5,9,46,47] (sR [lO 51 53 1,mO 52 9,oO 53 (cL 194 #[(xT 51),(xT 52)] #[53,3]),mO 50 53,xO 54 50 0,xO 55 50 1,oN 10 (.alloc 53) [2],oS (.store 53 (xT 10) (xT 54)),aO 11 55] [1,4,5,10,11,46,47] (.seq (sR [mO 56 11,oO 57 (.binOp .neq 47 (xT 56) (nI 0) 47)] [1,4,5,10,11,46,47,57] (cD 57 (sR [mO 58 11,oO 2 (.assign (.const (.int .u64 0))),aO 3 58] [2,3] (.ret)) (.skip))) (.keep [1,4,5,10,46,47] (sR [lO 60 53 10,oO 61 (cL 258 #[(xT 60)] #[53]),mO 59 61,xO 62 59 0,xO 63 59 1,aO 12 62,aO 11 63] [1,4,5,11,12,46,47] (.seq (sR [mO 64 11,oO 65 (.binOp .neq 47 (xT 64) (nI 0) 47)] [1,4,5,11,12,46,47,65] (cD 65 (sR [mO 66 11,oO 2 (.assign (.const (.int .u64 0))),aO 3 66] [2,3] (.ret)) (.skip))) (.keep [1,4,5,12,46,47] (.reg [mO 67 5,mO 68 12,oO 69 (.call { callee:=(.value (xT 67)),args:=#[(xT 68)],argTypes:=#[51] })] [1,4,5,46,47]))))))))) (.keep [1,4,5,46,47] (.reg [oO 70 (.binOp .add 3 (xT 47) (nI 1) 3),mO 47 70] [1,4,5,46,47]))))) 
def R1:CC:=sR [oN 1 (.box 53 (xT 0)) [0],oO 2 (.assign (.const (.int .u64 0))),oO 3 (.assign (nI 0))] [1] (sR [oO 13 (.build 316 #[(0,(.const (.int .u64 14695981039346656037)))]),oN 14 (.box 316 (xT 13)) [1],aO 4 14] [1,4] (sR [mO 15 4,oO 16 (.makeFunc (.func 269) #[(xT 15)] #[]),aO 5 16] [1,4,5] (sR [mO 17 5,lO 18 53 1,oO 19 (cL 95 #[(xT 18)] #[53]),oO 20 (.convert 3 51 (xT 19)),oO 21 (.call { callee:=(.value (xT 17)),args:=#[(xT 20)],argTypes:=#[51] })] [1,4,5] (sR [lO 23 53 1,oO 24 (cL 233 #[(xT 23)] #[53]),mO 22 24,xO 25 22 0,xO 26 22 1,aO 6 25,aO 7 26] [1,4,5,6,7] (.seq (sR [mO 27 7,oO 28 (.binOp .neq 47 (xT 27) (nI 0) 47)] [1,4,5,6,7,28] (cD 28 (sR [mO 29 7,oO 2 (.assign (.const (.int .u64 0))),aO 3 29] [2,3] (.ret)) (.skip))) (.keep [1,4,5,6] (sR [mO 30 5,lO 31 53 1,oO 32 (cL 232 #[(xT 31)] #[53]),oO 33 (.convert 3 51 (xT 32)),oO 34 (.call { callee:=(.value (xT 30)),args:=#[(xT 33)],argTypes:=#[51] })] [1,4,5,6] (.seq (sR [lO 35 53 1,oO 36 (cL 232 #[(xT 35)] #[53]),oO 37 (.move (nI 0))] [1,4,5,6,36,37] (.block 0 (.loop HU))) (.keep [1,4,5,6] (.seq (sR [mO 46 6,oO 47 (.move (nI 0))] [1,4,5,46,47] (.block 2 (.loop H5))) (.keep [4] (sR [mO 71 4,oO 72 (.nilCheck (xT 71)),fO 73 316 72 0,lO 74 51 73,aO 2 74,oO 3 (.assign (nI 0))] [2,3] (.ret)))))))))))))
theorem Zz:AX Tryz.prog 258 75 [(.tmp 2),(.tmp 3)] R1:=Aq Tryz.func258
end Go.Proofs.YtbjmaoedheiigaaGreat
