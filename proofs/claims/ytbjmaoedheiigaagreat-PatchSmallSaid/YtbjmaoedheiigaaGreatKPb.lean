/-
 Texts,merged,without what is not reached.
-/
import Derived.Test.YtbjmaoedheiigaaGreatKPa
set_option linter.unusedSimpArgs false
set_option linter.unusedVariables false
open Go.IntKind (i64 u64)
namespace Go.G
open Go.RowKit
def Up (c:Cx) (Q:Exit→Sta→Prop):Exit→Act→World→Prop:=fun e a w=>∃ st I μ,SR c st a w I μ∧Q e st
def AWP (c:Cx) (code:Code) (Q:Exit→Sta→Prop) (st:Sta):Prop:=∀ a w I μ,SR c st a w I μ→code.wp c.P (Up c Q) a w
def AkF (c:Cx) (y:Code) (Q:Exit→Sta→Prop):Exit→Sta→Prop
 |.normal,st=>AWP c y Q st
 |e,st=>Q e st
def Cq (id:Nat) (Q:Exit→Sta→Prop):Exit→Sta→Prop
 |.exit id',st=>if id'=id then Q .normal st else Q (.exit id') st
 |e,st=>Q e st
section
variable {c:Cx} {Q:Exit→Sta→Prop} {st:Sta} {x y:Code}
@[simp] theorem yj {i:Nat}:Cq i Q .normal st=Q .normal st:=rfl
@[simp] theorem Abw {i:Nat}:Cq i Q .ret st=Q .ret st:=rfl
@[simp] theorem dE {i:Nat}:Cq i Q (.exit i) st=Q .normal st:=by simp[Cq]
theorem Bz {i j:Nat} (h:j ≠ i):Cq i Q (.exit j) st=Q (.exit j) st:=by simp[Cq,h]
theorem AWP.mono {Q':Exit→Sta→Prop} (h:AWP c x Q st) (hq:∀ e st,Q e st→Q' e st):AWP c x Q' st:=fun a w I μ hs=>
 wp_mono (h a w I μ hs) fun e a' w' ⟨st',I',μ',h1,h2⟩=>⟨st',I',μ',h1,hq e st' h2⟩
theorem Aap (h:AWP c x (AkF c y Q) st):AWP c (.seq x y) Q st:=fun a w I μ hs=>
 wp_seq (wp_mono (h a w I μ hs) fun e a' w' ⟨st',I',μ',h1,h2⟩=>by
  cases e<;>first | exact h2 a' w' I' μ' h1 | exact⟨st',I',μ',h1,h2⟩)
theorem tT (h:Q .normal st):AWP c .skip Q st:=fun a w I μ hs=>wp_skip ⟨st,I,μ,hs,h⟩
theorem wx {i:Nat} (h:Q (.exit i) st):AWP c (.exit i) Q st:=fun a w I μ hs=>wp_exit ⟨st,I,μ,hs,h⟩
theorem zN (h:Q .ret st):AWP c .ret Q st:=fun a w I μ hs=>wp_ret ⟨st,I,μ,hs,h⟩
theorem rO {i:Nat} (h:AWP c x (Cq i Q) st):AWP c (.block i x) Q st:=fun a w I μ hs=>
 wp_block (wp_mono (h a w I μ hs) fun e a' w' ⟨st',I',μ',h1,h2⟩=>by
  cases e with
  |exit j=>
   simp only[Exit.inBlock];by_cases hj:j=i
   ·subst hj;rw[if_pos rfl];exact⟨st',I',μ',h1,by simpa using h2⟩
   ·rw[if_neg hj];exact⟨st',I',μ',h1,by rwa [Bz hj] at h2⟩
  |_=>exact⟨st',I',μ',h1,h2⟩)
theorem vp {o:Operand} {b:Bool} (hb:evs st.s o = .v (.bool b)) (ht:b=true→AWP c x Q st) (hf:b=false→AWP c y Q st):AWP c (.cond o x y) Q st:=fun a w I μ hs=>by
 have h1:=hs.evs o;rw[hb] at h1;generalize hu:a.eval o=u at h1;cases h1;exact wp_cond_split hu (fun h=>ht h a w I μ hs) (fun h=>hf h a w I μ hs)
def fz (P:Program) (body:Code) (Q:Exit→Act→World→Prop) (a:Act) (w:World):Prop:=
 ∀ (b:Frame) (k:List Item) (cs:List Frame),∃ e a' w',Q e a' w'∧Arrives P (lone (b.at a (.code body :: .inLoop body::k)) cs w) b k cs e a' w'
theorem nZ {P:Program} {body:Code} {Q:Exit→Act→World→Prop} {a:Act} {w:World} (h:body.wp P (Exit.then (fz P body Q) Q) a w):fz P body Q a w:=by
 intro b k cs;obtain⟨e,a₁,w₁,hq,harr⟩:=h b (.inLoop body::k) cs;cases e with
 |normal=>
  obtain⟨e₂,a₂,w₂,hq₂,harr₂⟩:=hq b k cs;exact⟨e₂,a₂,w₂,hq₂,.of_steps (Steps.trans harr (.one step_inLoop)) harr₂⟩
 |exit id=>exact⟨_,a₁,w₁,hq,.pass (x:=.inLoop body) rfl (fun _ _=>.inl (by simp)) harr⟩
 |goto l=>exact⟨_,a₁,w₁,hq,.pass (x:=.inLoop body) rfl (fun _ _=>.inl (by simp)) harr⟩
 |ret=>exact⟨_,a₁,w₁,hq,.pass (x:=.inLoop body) rfl (fun _ _=>.inl (by simp)) harr⟩
 |panic ch=>exact⟨_,a₁,w₁,hq,.pass (x:=.inLoop body) rfl (fun _ _=>.inl (by simp)) harr⟩
 |outgrown=>exact⟨_,a₁,w₁,hq,.pass (x:=.inLoop body) rfl (fun _ _=>.inl (by simp)) harr⟩
theorem qX {P:Program} {body:Code} {Q:Exit→Act→World→Prop} {a:Act} {w:World} (h:fz P body Q a w):(Code.loop body).wp P Q a w:=by
 intro b k cs;obtain⟨e,a₁,w₁,hq,harr⟩:=h b k cs;exact⟨e,a₁,w₁,hq,.of_steps (.one step_loop) harr⟩
def AHead (c:Cx) (body:Code) (Q:Exit→Sta→Prop) (st:Sta):Prop:=∀ a w I μ,SR c st a w I μ→fz c.P body (Up c Q) a w
def AgP (c:Cx) (body:Code) (Q:Exit→Sta→Prop):Exit→Sta→Prop
 |.normal,st=>AHead c body Q st
 |e,st=>Q e st
theorem iy (h:AWP c x (AgP c x Q) st):AHead c x Q st:=fun a w I μ hs=>
 nZ (wp_mono (h a w I μ hs) fun e a' w' ⟨st',I',μ',h1,h2⟩=>by
  cases e<;>first | exact h2 a' w' I' μ' h1 | exact⟨st',I',μ',h1,h2⟩)
theorem xE (h:AHead c x Q st):AWP c (.loop x) Q st:=fun a w I μ hs=>qX (h a w I μ hs)
def Le (c:Cx) (st st':Sta):Prop:=∀ a w I μ,SR c st a w I μ→∃ I' μ',SR c st' a w I' μ'
theorem Le.refl:Le c st st:=fun _ _ I μ h=>⟨I,μ,h⟩
theorem Le.trans {st1 st2 st3:Sta} (h:Le c st1 st2) (k:Le c st2 st3):Le c st1 st3:=fun a w I μ hs=>let ⟨I',μ',h1⟩:=h a w I μ hs;k a w I' μ' h1
theorem AWP.le {st':Sta} (h:Le c st st') (k:AWP c x Q st'):AWP c x Q st:=fun a w I μ hs=>let ⟨I',μ',h1⟩:=h a w I μ hs;k a w I' μ' h1
theorem AHead.le {st':Sta} (h:Le c st st') (k:AHead c x Q st'):AHead c x Q st:=fun a w I μ hs=>let ⟨I',μ',h1⟩:=h a w I μ hs;k a w I' μ' h1
theorem uo {s s':Nat→A} {H:Hp} (h:∀ t,s' t=s t∨s' t = .any):Le c ⟨s,H⟩ ⟨s',H⟩:=fun a w I μ hs=>
 ⟨I,μ,hs.sim,hs.size,hs.defers,fun t=>by
  rcases h t with e | e
  ·show Rel w I μ (s' t) _;rw[e];exact hs.rel t
  ·show Rel w I μ (s' t) _;rw[e];exact .any _ _⟩
theorem gx (s:Nat→A):∀ (l:List (Nat × A)),(∀ p,p ∈ l→s p.1=p.2)→∀ t,lk l t=s t∨lk l t = .any
 |[],_,t=>.inr rfl
 |(k,x)::l,h,t=>by
  unfold lk;by_cases e:k=t
  ·subst e;rw[if_pos rfl];exact .inl (h (k,x) (by simp)).symm
  ·rw[if_neg e];exact gx s l (fun p hp=>h p (by simp[hp])) t
theorem AE {s:Nat→A} {H:Hp} (l:List (Nat × A)) (h:∀ p,p ∈ l→s p.1=p.2):Le c ⟨s,H⟩ ⟨lk l,H⟩:=uo (gx s l h)
def Qt (P:Program) (st:Sta):ResultVar→Option A
 |.tmp t=>some (st.s t)
 |.cell a t=>Gm P st.H t (st.s a)
def Im (P:Program) (st:Sta):List ResultVar→Option (List A)
 |[]=>some []
 |r::rs=>match Qt P st r,Im P st rs with
  |some x,some l=>some (x::l)
  |_,_=>none
def TL (P:Program) (st:Sta) (rs:List ResultVar):Option A:=
 match rs with
 |[r]=>Qt P st r
 |rs=>(Im P st rs).map .tup
theorem Sw {a:Act} {w:World} {I:Nat→Prop} {μ:Mu} (hs:SR c st a w I μ) {r:ResultVar} {x:A} (h:Qt c.P st r=some x) :
  ∃ v,((match r with | .tmp t=>pure (a.tmps.getD t undef) | .cell p t=>do loadVar t (← asAddr (a.tmps.getD p undef))):Sem Value).run c.P w = .ok v w∧Rel w I μ x v:=by
 cases r with
 |tmp t=>cases h;exact⟨_,rfl,hs.rel t⟩
 |cell p t=>
  have hr:=hs.rel p;obtain⟨v,h1,h2⟩:=NL hs.sim hr h;refine⟨v,?_,h2⟩;have:∃ q,a.tmps.getD p undef = .pointer (some q):=GV hr (bj h);obtain⟨q,hq⟩:=this;rw[hq] at h1;simp only[hq,asAddr];simpa[Instr.loadAt,Instr.sureAddr] using h1
theorem PZ {a:Act} {w:World} {I:Nat→Prop} {μ:Mu} (hs:SR c st a w I μ):∀ {rs:List ResultVar} {xs:List A},Im c.P st rs=some xs →
  ∃ vs:List Value,(rs.mapM (m:=Sem) fun | .tmp t=>pure (a.tmps.getD t undef) | .cell p t=>do loadVar t (← asAddr (a.tmps.getD p undef))).run c.P w = .ok vs w∧vs.length=xs.length∧∀ (k:Nat) (y:A) (v:Value),xs[k]? = some y→vs[k]? = some v→Rel w I μ y v
 |[],xs,h=>by cases h;exact⟨[],rfl,rfl,fun k y v hk=>by simp at hk⟩
 |r::rs,xs,h=>by
  unfold Im at h;split at h
  ·rename_i x l hx hl;cases h;obtain⟨v,h1,h2⟩:=Sw hs hx;obtain⟨vs,h3,h4,h5⟩:=PZ hs hl;refine⟨v::vs,?_,by simp[h4],fun k y u hk hu=>?_⟩
   ·rw[List.mapM_cons];simp only[Sem.run_bind,h1,Result.andThen_ok,h3,Sem.run_pure]
   ·cases k with
    |zero=>simp at hk hu;subst hk hu;exact h2
    |succ k=>exact h5 k y u (by simpa using hk) (by simpa using hu)
  ·cases h
theorem Zj {fn:Func} {a:Act} {w:World} {I:Nat→Prop} {μ:Mu} (hs:SR c st a w I μ) {x:A} (h:TL c.P st fn.results.toList=some x):∃ v,(results fn a.tmps).run c.P w = .ok v w∧Rel w I μ x v:=by
 have hm:∀ {vs:List Value},(fn.results.toList.mapM (m:=Sem) fun | .tmp t=>pure (a.tmps.getD t undef) | .cell p t=>do loadVar t (← asAddr (a.tmps.getD p undef))).run c.P w = .ok vs w →
   (results fn a.tmps).run c.P w = .ok (if h:vs.toArray.size=1 then vs.toArray[0] else .tuple vs.toArray) w:=fun {vs} hv=>by
  unfold results;rw[Array.mapM_eq_mapM_toList];simp only[Sem.run_bind,Sem.run_map]
  erw [hv]
  rfl
 unfold TL at h;split at h
 ·rename_i r hr;obtain⟨v,h1,h2⟩:=Sw hs h;have:=hm (vs:=[v]) (by rw[hr,List.mapM_cons];simp only[Sem.run_bind,h1,Result.andThen_ok];rfl);exact⟨v,by simpa using this,h2⟩
 ·rename_i rs hne;simp only[Option.map_eq_some_iff] at h;obtain⟨xs,hx,rfl⟩:=h;obtain⟨vs,h1,h2,h3⟩:=PZ hs hx;have hlen:xs.length=fn.results.toList.length:=by
   have:∀ (rs:List ResultVar) (xs:List A),Im c.P st rs=some xs→xs.length=rs.length:=by
    intro rs;induction rs with
    |nil=>intro xs h;cases h;rfl
    |cons r rs ih=>
     intro xs h;unfold Im at h;split at h
     ·rename_i x l _ hl;cases h;simp[ih l hl]
     ·cases h
   exact this _ _ hx
  have hv1:¬ vs.toArray.size=1:=by
   intro he;simp only[List.size_toArray] at he;have:fn.results.toList.length=1:=by omega
   obtain⟨r,hr⟩:=List.length_eq_one_iff.1 this;exact hne r hr
  have:=hm h1;rw[dif_neg hv1] at this;refine⟨_,this,.tup _ _ _ (by simp[h2]) fun k y hk=>?_⟩;have hlt:k<vs.length:=by rw[h2];exact(List.getElem?_eq_some_iff.1 hk).1
  have e:vs.toArray.getD k undef=vs[k]:=by simp[hlt]
  rw[e];exact h3 k y _ hk (List.getElem?_eq_getElem hlt)
def rm (P:Program) (rs:List ResultVar) (Q:A→Hp→Prop):Exit→Sta→Prop
 |.normal,st | .ret,st=>∃ r0,TL P st rs=some r0∧Q r0 st.H
 |_,_=>False
def QG (args:List A):Nat→A:=fun t=>(args[t]?).getD .any
theorem WX {P:Program} {f:FuncId} {fn:Func} {code:Code} (hf:P.funcs[f]? = some fn) (hb:fn.body=some code) {c:Cx} (hcP:c.P=P) (hcn:c.n=fn.ntmps) {args:List A} {vs:Array Value} (hl:vs.size=args.length) (ha:args.length≤fn.ntmps)
  {w:World} {I:Nat→Prop} {μ:Mu} {H:Hp} (hs:Sim c w I μ H) (hr:∀ (k:Nat) (y:A),args[k]? = some y→Rel w I μ y (vs.getD k undef)) {Q:A→Hp→Prop} (h:AWP c code (rm P fn.results.toList Q) ⟨QG args,H⟩) :
  Calls P f vs w fun e w'=>∃ v r0 H' I' μ',e = .returned v∧Sim c w' I' μ' H'∧Rel w' I' μ' r0 v∧Q r0 H':=by
 subst hcP;refine calls_of_wp hf hb ?_;have hs:SR c ⟨QG args,H⟩ { tmps:=vs++Array.replicate (fn.ntmps-vs.size) undef,defers:=[] } w I μ:=by
  refine⟨hs,?_,rfl,fun t=>?_⟩
  ·simp[hcn,hl];omega
  ·show Rel w I μ (QG args t) _;unfold QG;cases hq:args[t]? with
   |none=>exact .any _ _
   |some y=>
    have hlt:=(List.getElem?_eq_some_iff.1 hq).1;have e:(vs++Array.replicate (fn.ntmps-vs.size) undef).getD t undef=vs.getD t undef:=by
     simp only[Array.getD_eq_getD_getElem?];rw[Array.getElem?_append_left (by omega)]
    rw[e];exact hr t y hq
 refine wp_mono (h _ w I μ hs) fun e a' w' ⟨st',I',μ',h1,h2⟩=>?_;have fin:(∃ r0,TL c.P st' fn.results.toList=some r0∧Q r0 st'.H)→a'.defers=[]∧∃ v,(results fn a'.tmps).run c.P w' = .ok v w'∧∃ v' r0 H' I' μ',Ending.returned v = .returned v'∧Sim c w' I' μ' H'∧Rel w' I' μ' r0 v'∧Q r0 H':=by
  rintro⟨r0,h3,h4⟩;obtain⟨v,h5,h6⟩:=Zj (fn:=fn) h1 h3;exact⟨h1.defers,v,h5,v,r0,st'.H,I',μ',rfl,h1.sim,h6,h4⟩
 cases e<;>first | exact fin h2 | exact h2.elim
def cx (P:Program) (w0:World) (I0:Nat→Prop) (n:Nat):Cx:=⟨P,w0,I0,fun _ _=>False,n,Zw⟩
def H0:Hp:=fun _=>⟨0,.none⟩
theorem ai {P:Program} {w:World} {I:Nat→Prop} {n:Nat} (hI:∀ b,I b→b<w.heap.size) (ht:Tabs P w I):Sim (cx P w I n) w I Zw H0:=
 ⟨⟨rfl,rfl,rfl,Cb _,fun _ _ _=>rfl⟩,hI,fun _ h=>h,fun b hb=>.inl hb,fun _=>rfl,fun _=>trivial,(fun _ _ h=>nomatch h),(fun _ h=>nomatch h),MuLe.refl _,(fun _ h=>nomatch h),ht⟩
theorem mh {P:Program} {f:FuncId} {fn:Func} {code:Code} {args:List A} {r:A} {n:Nat} (hk:Zo P f=true) (hf:P.funcs[f]? = some fn) (hb:fn.body=some code) (hn:fn.ntmps=n) (ha:args.length≤n)
  (h:∀ w0 I0,AWP (cx P w0 I0 n) code (rm P fn.results.toList fun r0 H=>K6 H r0 r) ⟨QG args,H0⟩):Spec P f args r:=by
 refine⟨hk,fun w I vs hI htb hl hr=>?_⟩;refine(WX hf hb (c:=cx P w I n) rfl hn.symm hl (by omega) (ai hI htb) hr (h w I)).mono fun e w' ⟨v,r0,H',I',μ',he,h1,h2,h3⟩=>⟨v,he,?_,?_⟩
 ·have k:=h1.kept;exact⟨k.os,k.tape,k.output,k.size,fun b hb=>k.block b hb (fun ⟨_,h⟩=>h)⟩
 ·refine(h3 _ w' I' μ' v h1 h2).mono0 (fun b hb=>?_) (fun _ _=>rfl);rcases hb with hb | ⟨o,g1,rfl⟩
  ·rcases h1.new b hb with g | g
   ·exact .inl g
   ·exact .inr ⟨g,h1.lt b hb⟩
  ·obtain⟨_,g4,g5⟩:=h1.own o g1;rcases g4 with g4 | g4
   ·exact g4.elim
   ·exact .inr ⟨g4,g5⟩
theorem FC {s:Nat→A} {H:Hp} (t:Nat) (d:Nm) (sz:Nat) (ht:s t = .sl true []):Le c ⟨s,H⟩ ⟨upd s t (.osl d ((H d).u+1) sz 0 0),Bh H d ⟨(H d).u+1,.arr sz []⟩⟩:=fun a w I μ hs=>by
 obtain⟨hx,hs'⟩:=hs.sim.upd (JG w none) d ⟨(H d).u+1,false,0,0,sz,0⟩ (.arr sz []) (.inl rfl) (.inl (by rw[hs.sim.ver];exact Nat.lt_succ_self _)) (fun h=>nomatch h) (fun h=>nomatch h) (fun hx=>⟨rfl,.inl ⟨rfl,rfl⟩⟩);refine⟨I,_,hs',hs.size,hs.defers,fun k=>?_⟩;show Rel w I _ (upd s t _ k) _;unfold upd;split
 ·rename_i hk;subst hk;have h1:=hs.rel k;simp only[ht] at h1;generalize a.tmps.getD k undef=v at h1;cases h1 with
  |slN _ _ q cap hc=>
   have:=hc rfl;subst this;exact .osl _ _ _ _ _ _ _ _ (by omega) (by simp) (Cb _) (fun h=>by omega) (fun _=>by simp)
  |sl _ _ b off n cap z _ g h1 h2 h3 h4=>
   have h5:n=0:=h2;have h6:cap=0:=h4 rfl;subst h5 h6;exact .osl _ _ _ _ _ _ _ _ (by omega) (by simp) (Cb _) (fun h=>by omega) (fun _=>by simp)
 ·exact hx.rel (hs.rel k)
end
structure CO where
 d:Option Nat
 o:Op
 g:Option (Nat × Bool)
 nm:Nm
 ix:Nat
 un:List Nat
 lg:Bool
abbrev co (d:Option Nat) (o:Op) (g:Option (Nat × Bool)):CO:=⟨d,o,g,[],0,[],false⟩
abbrev cn (d:Option Nat) (o:Op) (g:Option (Nat × Bool)) (nm:Nm):CO:=⟨d,o,g,nm,0,[],false⟩
inductive CC where
 |skip
 |reg (ops:List CO) (live:List Nat)
 |seq (x y:CC)
 |cond (c:Operand) (x y:CC)
 |block (i:Nat) (x:CC)
 |loop (x:CC)
 |exit (i:Nat)
 |ret
 |keep (live:List Nat) (x:CC)
 |stop (x:CC)
 |scope (x:CC)
def gL:List (Nat × Nm)→Nat→Nm
 |[],_=>[]
 |(k,n)::l,i=>if k=i then n else gL l i
def Vx (draw:Bool) (ops:Array Oper) (ms:List Nat) (i j:Nat):Bool:=draw&&U2 ops ms i j
theorem Aad {draw:Bool} {ops:Array Oper}:Vx draw ops (m6 ops)=wJ draw ops:=by
 cases draw
 ·rfl
 ·funext i j;simp[Vx,wJ]
def AcZ (ops:Array Oper) (draw:Bool) (ms:List Nat) (nms:List (Nat × Nm)) (i:Nat) (o:Oper):Option CO:=
 let un:=(List.range i).filter fun j=>Vx draw ops ms j i
 let lg:=(List.range ops.size).any fun k=>Nat.blt i k&&Vx draw ops ms i k
 let ix:=if un.isEmpty&&!lg then 0 else i
 match o.guard with
 |none=>some ⟨o.dst,o.op,none,gL nms i,ix,un,lg⟩
 |some (j,f)=>match (ops[j]?).bind (·.dst) with
  |some d=>some ⟨o.dst,o.op,some (d,f),gL nms i,ix,un,lg⟩
  |none=>none
def jb (ops:Array Oper) (draw:Bool) (ms:List Nat) (nms:List (Nat × Nm)):Nat→List Oper→Option (List CO)
 |_,[]=>some []
 |i,o::l=>match AcZ ops draw ms nms i o,jb ops draw ms nms (i+1) l with
  |some x,some r=>some (x::r)
  |_,_=>none
inductive Is (n:Nat):CC→Code→Prop
 |skip:Is n .skip .skip
 |reg (id:Nat) (ops:Array Oper) (draw:Bool) (live:List Nat) (nms:List (Nat × Nm)) (l:List CO):oz n ops draw=true→jb ops draw (m6 ops) nms 0 ops.toList=some l→Is n (.reg l live) (.region id ops draw)
 |seq (x y:CC) (a b:Code):Is n x a→Is n y b→Is n (.seq x y) (.seq a b)
 |cond (o:Operand) (x y:CC) (a b:Code):Is n x a→Is n y b→Is n (.cond o x y) (.cond o a b)
 |block (i:Nat) (x:CC) (a:Code):Is n x a→Is n (.block i x) (.block i a)
 |loop (x:CC) (a:Code):Is n x a→Is n (.loop x) (.loop a)
 |exit (i:Nat):Is n (.exit i) (.exit i)
 |ret:Is n .ret .ret
 |keep (live:List Nat) (x:CC) (a:Code):Is n x a→Is n (.keep live x) a
 |stop (x:CC) (a:Code):Is n x a→Is n (.stop x) a
 |scope (x:CC) (a:Code):Is n x a→Is n (.scope x) (.scope a)
 |label (l:Nat):Is n .skip (.label l)
def NoG (Q:Exit→Sta→Prop):Exit→Sta→Prop
 |.goto _,_=>False
 |e,st=>Q e st
def Sta.keep (st:Sta) (live:List Nat):Sta:=⟨lk (live.map fun k=>(k,st.s k)),st.H⟩
theorem pP {c:Cx} {st:Sta} (live:List Nat):Le c st (st.keep live):=AE _ (fun p hp=>by
 obtain⟨k,_,rfl⟩:=List.mem_map.1 hp;rfl)
def oW (P:Program) (o:CO) (st:Sta) (x:A) (E:Eff) (f:Ft):Prop:=
 match o.g with
 |none=>bE P o.nm o.o (evs st.s) st.H x E f.R f.W
 |some (d,fl)=>∃ q x0,Fs (st.s d) fl=some q∧(q=true→bE P o.nm o.o (evs st.s) st.H x0 E f.R f.W)∧x=gd q x0∧(q=false→E = .nil∧f.R=[]∧f.W=[])
def Ck (un:List Nat) (lg:Lg) (f:Ft):Prop:=∀ p,p ∈ lg→p.1 ∈ un→nc p.2 f=true
def B0 (b:Bool) (i:Nat) (f:Ft) (lg:Lg):Lg:=if b=true then (i,f)::lg else lg
def AH (P:Program) (K:Sta→Prop):List CO→Lg→Sta→Prop
 |[],_,st=>K st
 |o::rest,lg,st=>∃ x E f,oW P o st x E f∧Ck o.un lg f∧AH P K rest (B0 o.lg o.ix f lg) (st.put o.d x (E.app st.H))
theorem AaG {ops:Array Oper} {draw:Bool} {ms:List Nat} {nms:List (Nat × Nm)} {i:Nat} {o:Oper} {c:CO} (h:AcZ ops draw ms nms i o=some c):c.d=o.dst∧c.o=o.op∧c.nm=gL nms i ∧
  c.un=((List.range i).filter fun j=>Vx draw ops ms j i)∧c.lg=((List.range ops.size).any fun k=>Nat.blt i k&&Vx draw ops ms i k)∧(c.un ≠ []∨c.lg=true→c.ix=i) ∧
  ((o.guard=none∧c.g=none)∨∃ j f d,o.guard=some (j,f)∧(ops[j]?).bind (·.dst)=some d∧c.g=some (d,f)):=by
 have hix:∀ (un:List Nat) (lg:Bool),un ≠ []∨lg=true→(if (un.isEmpty&&!lg)=true then 0 else i)=i:=fun un lg hh=>by
  rw[if_neg];rcases hh with h1 | h1
  ·cases un with
   |nil=>exact(h1 rfl).elim
   |cons=>simp
  ·simp[h1]
 unfold AcZ at h;cases hg:o.guard with
 |none=>
  rw[hg] at h;simp only[Option.some.injEq] at h;subst h;exact⟨rfl,rfl,rfl,rfl,rfl,hix _ _,.inl ⟨rfl,rfl⟩⟩
 |some p=>
  obtain⟨j,f⟩:=p;rw[hg] at h;simp only at h;cases hj:(ops[j]?).bind (·.dst) with
  |none=>rw[hj] at h;cases h
  |some d=>
   rw[hj] at h;simp only[Option.some.injEq] at h;subst h;exact⟨rfl,rfl,rfl,rfl,rfl,hix _ _,.inr ⟨j,f,d,rfl,hj,rfl⟩⟩
theorem nj {P:Program} {ops:Array Oper} {draw:Bool} {ms:List Nat} {nms:List (Nat × Nm)} {K:Sta→Prop}:∀ (l:List Oper) (i:Nat) (r:List CO) (Lf lg:Lg) (st:Sta),jb ops draw ms nms i l=some r→i+l.length=ops.size →
  (∀ p,p ∈ Lf→p.1<i∧∀ k,i≤k→k<ops.size→Vx draw ops ms p.1 k=true→p ∈ lg)→AH P K r lg st→yk P (gL nms) (Vx draw ops ms) ops K l i Lf st:=by
 intro l;induction l with
 |nil=>
  intro i r Lf lg st he _ _ h;cases he;exact h
 |cons o l ih=>
  intro i r Lf lg st he hsz hlg h;unfold jb at he;split at he
  ·rename_i c r' hc hr;cases he;obtain⟨e1,e2,e3,e4,e5,e7,e6⟩:=AaG hc;obtain⟨x,E,f,hy,hk,h⟩:=h;simp only[List.length_cons] at hsz;refine⟨x,E,f,?_,fun p hp hn=>?_,?_⟩
   ·unfold oW at hy;rw[e2,e3] at hy;rcases e6 with ⟨hg,hc⟩ | ⟨j,fl,d,hg,hj,hc⟩
    ·rw[hc] at hy;exact⟨true,x,by unfold P8;rw[hg],fun _=>hy,rfl,fun h=>nomatch h⟩
    ·rw[hc] at hy;obtain⟨q,x0,k1,k2,k3,k4⟩:=hy;exact⟨q,x0,by unfold P8;rw[hg];exact⟨d,hj,k1⟩,k2,k3,k4⟩
   ·obtain⟨h1,h2⟩:=hlg p hp;refine hk p (h2 i (Cb _) (by omega) hn) ?_;rw[e4];exact List.mem_filter.2 ⟨List.mem_range.2 h1,hn⟩
   ·rw[e1] at h;refine ih (i+1) r' _ _ _ hr (by omega) (fun p hp=>?_) h;rcases List.mem_cons.1 hp with rfl | hp
    ·refine⟨Nat.lt_succ_self _,fun k h1 h2 h3=>?_⟩;have hl:c.lg=true:=by
      rw[e5];exact List.any_eq_true.2 ⟨k,List.mem_range.2 h2,by simp[Nat.blt_eq,h3];omega⟩
     unfold B0;rw[if_pos hl,e7 (.inr hl)];simp
    ·obtain⟨h1,h2⟩:=hlg p hp;refine⟨by omega,fun k h3 h4 h5=>?_⟩;have:=h2 k (by omega) h4 h5;unfold B0;split
     ·exact List.mem_cons_of_mem _ this
     ·exact this
  ·cases he
def LoopC (c:Cx) (x:CC) (Q:Exit→Sta→Prop) (st:Sta):Prop:=∀ a,Is c.n x a→AHead c a Q st
def Ht (K:Sta→Prop) (Q:Exit→Sta→Prop):Exit→Sta→Prop
 |.normal,st=>K st
 |e,st=>Q e st
def Rn (c:Cx) (K:Sta→Prop) (st:Sta):Prop:=∃ st',Le c st st'∧K st'
theorem Di {c:Cx} {K:Sta→Prop} {st:Sta} (h:K st):Rn c K st:=⟨st,Le.refl,h⟩
theorem Ef {c:Cx} {K:Sta→Prop} {st st':Sta} (h:Le c st st') (k:Rn c K st'):Rn c K st:=let ⟨st2,h2,k2⟩:=k;⟨st2,h.trans h2,k2⟩
def WPC (c:Cx):CC→(Exit→Sta→Prop)→Sta→Prop
 |.skip,Q,st=>Q .normal st
 |.exit i,Q,st=>Q (.exit i) st
 |.ret,Q,st=>Q .ret st
 |.reg ops live,Q,st=>AH c.P (fun st=>Q .normal (st.keep live)) ops [] st
 |.seq x y,Q,st=>WPC c x (Ht (WPC c y Q) Q) st
 |.cond o x y,Q,st=>∃ b,evs st.s o = .v (.bool b)∧(b=true→WPC c x Q st)∧(b=false→WPC c y Q st)
 |.block i x,Q,st=>WPC c x (Cq i Q) st
 |.loop x,Q,st=>LoopC c x Q st
 |.keep live x,Q,st=>WPC c x Q (st.keep live)
 |.stop x,Q,st=>Rn c (fun st=>WPC c x Q st) st
 |.scope x,Q,st=>WPC c x (NoG Q) st
theorem Pu {c:Cx} (hm:c.P.follows .mixedOrders=true):∀ {x:CC} {a:Code} {Q:Exit→Sta→Prop} {st:Sta},Is c.n x a→WPC c x Q st→AWP c a Q st:=by
 intro x a Q st hi;induction hi generalizing Q st with
 |skip=>exact fun h=>tT h
 |exit i=>exact fun h=>wx h
 |ret=>exact fun h=>zN h
 |reg id ops draw live nms l hok hl=>
  intro h;intro a w I μ hs;have h1:=nj ops.toList 0 l [] [] _ hl (by simp) (fun p hp=>by simp at hp) h;rw[Aad] at h1;refine fr hm hok (K:=fun st=>Q .normal (st.keep live)) (fun st' a' w' I' μ' h1 h2=>?_) hs h1;obtain⟨I2,μ2,h3⟩:=pP live a' w' I' μ' h1;exact⟨_,I2,μ2,h3,h2⟩
 |seq x y a b _ _ ih1 ih2=>
  intro h;refine Aap ((ih1 h).mono fun e st' hq=>?_);cases e<;>first | exact ih2 hq | exact hq
 |cond o x y a b _ _ ih1 ih2=>
  intro ⟨q,hb,ht,hf⟩;exact vp hb (fun h=>ih1 (ht h)) (fun h=>ih2 (hf h))
 |block i x a _ ih=>exact fun h=>rO (ih h)
 |loop x a hx _=>exact fun h=>xE (h a hx)
 |keep live x a _ ih=>
  intro h a w I μ hs;obtain⟨I2,μ2,h3⟩:=pP live a w I μ hs;exact ih h a w I2 μ2 h3
 |stop x a _ ih=>
  intro ⟨st',h1,h2⟩ a w I μ hs;obtain⟨I2,μ2,h3⟩:=h1 a w I μ hs;exact ih h2 a w I2 μ2 h3
 |scope x a _ ih=>
  intro h a w I μ hs;refine wp_scope_straight (wp_mono (ih h a w I μ hs) fun e a' w' ⟨st',I',μ',h1,h2⟩=>?_);cases e with
  |goto l=>exact h2.elim
  |_=>exact⟨st',I',μ',h1,h2⟩
 |label l=>exact fun h a w I μ hs=>wp_label ⟨st,I,μ,hs,h⟩
theorem WPC.mono {c:Cx}:∀ {x:CC} {Q Q':Exit→Sta→Prop} {st:Sta},(∀ e st,Q e st→Q' e st)→WPC c x Q st→WPC c x Q' st
 |.skip,_,_,_,hq,h=>hq _ _ h
 |.exit _,_,_,_,hq,h=>hq _ _ h
 |.ret,_,_,_,hq,h=>hq _ _ h
 |.reg ops live,Q,Q',st,hq,h=>by
  have:∀ (ops:List CO) (lg:Lg) (st:Sta),AH c.P (fun st=>Q .normal (st.keep live)) ops lg st→AH c.P (fun st=>Q' .normal (st.keep live)) ops lg st:=by
   intro ops;induction ops with
   |nil=>exact fun lg st h=>hq _ _ h
   |cons o ops ih=>exact fun lg st ⟨x,E,f,h1,h2,h3⟩=>⟨x,E,f,h1,h2,ih _ _ h3⟩
  exact this ops _ st h
 |.seq x y,Q,Q',st,hq,h=>WPC.mono (x:=x) (fun e st' h'=>by cases e<;>first | exact WPC.mono (x:=y) hq h' | exact hq _ _ h') h
 |.cond o x y,Q,Q',st,hq,⟨b,h1,h2,h3⟩=>⟨b,h1,fun h=>WPC.mono hq (h2 h),fun h=>WPC.mono hq (h3 h)⟩
 |.block i x,Q,Q',st,hq,h=>WPC.mono (x:=x) (fun e st' h'=>by
   cases e with
   |exit j=>
    by_cases hj:j=i
    ·subst hj;rw[dE] at h' ⊢; exact hq _ _ h'
    ·rw[Bz hj] at h' ⊢; exact hq _ _ h'
   |_=>exact hq _ _ h') h
 |.keep live x,Q,Q',st,hq,h=>WPC.mono (x:=x) hq h
 |.stop x,Q,Q',st,hq,⟨st',h1,h2⟩=>⟨st',h1,WPC.mono (x:=x) hq h2⟩
 |.scope x,Q,Q',st,hq,h=>WPC.mono (x:=x) (fun e st' h'=>by
   cases e with
   |goto l=>exact h'
   |_=>exact hq _ _ h') h
 |.loop x,Q,Q',st,hq,h=>fun a ha a' w I μ hs b k cs=>by
  obtain⟨e,a1,w1,⟨st',I',μ',h1,h2⟩,h3⟩:=h a ha a' w I μ hs b k cs;exact⟨e,a1,w1,⟨st',I',μ',h1,hq _ _ h2⟩,h3⟩
theorem jP {c:Cx} (hm:c.P.follows .mixedOrders=true) {x:CC} {Q:Exit→Sta→Prop} {st:Sta} (h:WPC c x (Ht (LoopC c x Q) Q) st):LoopC c x Q st:=fun a ha=>
 iy ((Pu hm ha h).mono fun e st' hq=>by cases e<;>first | exact hq a ha | exact hq)
theorem LoopC.le {c:Cx} {x:CC} {Q:Exit→Sta→Prop} {st st':Sta} (h:Le c st st') (k:LoopC c x Q st'):LoopC c x Q st:=fun a ha=>(k a ha).le h
def mf:List Nat→CC→CC
 |999999::live,y=>.keep live y
 |999998::_,y=>.stop y
 |999997::live,y=>.keep live (.stop y)
 |_,y=>y
theorem qY {n:Nat} {m:List Nat} {y:CC} {b:Code} (h:Is n y b):Is n (mf m y) b:=by
 unfold mf;split
 ·exact .keep _ _ _ h
 ·exact .stop _ _ h
 ·exact .keep _ _ _ (.stop _ _ h)
 ·exact h
abbrev Mk:=List Nat × List (Nat × Nm)
def KA (n:Nat):Code→List Mk→Option (CC × List Mk)
 |.skip,ls=>some (.skip,ls)
 |.exit i,ls=>some (.exit i,ls)
 |.ret,ls=>some (.ret,ls)
 |.region _ ops draw,(live,nms)::ls=>if oz n ops draw=true then match jb ops draw (m6 ops) nms 0 ops.toList with
   |some l=>some (.reg l live,ls)
   |none=>none else none
 |.seq a b,ls=>match KA n a ls with
  |some (x,m::ls)=>match KA n b ls with
   |some (y,ls)=>some (.seq x (mf m.1 y),ls)
   |none=>none
  |_=>none
 |.cond o a b,ls=>match KA n a ls with
  |some (x,ls)=>match KA n b ls with
   |some (y,ls)=>some (.cond o x y,ls)
   |none=>none
  |none=>none
 |.block i a,ls=>match KA n a ls with
  |some (x,ls)=>some (.block i x,ls)
  |none=>none
 |.loop a,ls=>match KA n a ls with
  |some (x,ls)=>some (.loop x,ls)
  |none=>none
 |.scope a,ls=>match KA n a ls with
  |some (x,ls)=>some (.scope x,ls)
  |none=>none
 |.label _,ls=>some (.skip,ls)
 |_,_=>none
theorem Aag {n:Nat}:∀ {a:Code} {ls ls':List Mk} {x:CC},KA n a ls=some (x,ls')→Is n x a:=by
 intro a;induction a with
 |skip=>intro ls ls' x h;simp only[KA] at h;cases h;exact .skip
 |exit i=>intro ls ls' x h;simp only[KA] at h;cases h;exact .exit i
 |ret=>intro ls ls' x h;simp only[KA] at h;cases h;exact .ret
 |region id ops draw=>
  intro ls ls' x h;cases ls with
  |nil=>simp[KA] at h
  |cons live ls=>
   simp only[KA] at h;split at h
   ·rename_i hok;split at h
    ·rename_i l hl;cases h;exact .reg _ _ _ _ _ _ hok hl
    ·cases h
   ·cases h
 |seq a b ih1 ih2=>
  intro ls ls' x h;simp only[KA] at h;split at h
  ·rename_i q1 m l1 h1;split at h
   ·rename_i q2 l2 h2;cases h;exact .seq _ _ _ _ (ih1 h1) (qY (ih2 h2))
   ·cases h
  ·cases h
 |cond o a b ih1 ih2=>
  intro ls ls' x h;simp only[KA] at h;split at h
  ·rename_i q1 l1 h1;split at h
   ·rename_i q2 l2 h2;cases h;exact .cond _ _ _ _ _ (ih1 h1) (ih2 h2)
   ·cases h
  ·cases h
 |block i a ih=>
  intro ls ls' x h;simp only[KA] at h;split at h
  ·rename_i q1 l1 h1;cases h;exact .block _ _ _ (ih h1)
  ·cases h
 |loop a ih=>
  intro ls ls' x h;simp only[KA] at h;split at h
  ·rename_i q1 l1 h1;cases h;exact .loop _ _ (ih h1)
  ·cases h
 |scope a ih=>
  intro ls ls' x h;simp only[KA] at h;split at h
  ·rename_i q1 l1 h1;cases h;exact .scope _ _ (ih h1)
  ·cases h
 |label l=>intro ls ls' x h;simp only[KA] at h;cases h;exact .label l
 |_=>intro ls ls' x h;cases ls<;>simp[KA] at h
structure Bm (P:Program) (f:FuncId) (n:Nat) (rs:List ResultVar) (cc:CC):Prop where
 Ai:P.follows .mixedOrders=true
 ok:Zo P f=true
 fn:∃ fn code,P.funcs[f]? = some fn∧fn.body=some code∧fn.ntmps=n∧fn.results.toList=rs∧Is n cc code
theorem Acd {P:Program} {f:FuncId} {fn:Func} {code:Code} {cc:CC} {ls:List Mk} {rs:List ResultVar} {n:Nat} (hm:P.follows .mixedOrders=true) (hk:Zo P f=true) (hf:P.funcs[f]? = some fn) (hb:fn.body=some code)
  (hn:fn.ntmps=n) (hrs:fn.results.toList=rs) (hc:KA n code ls=some (cc,[])):Bm P f n rs cc:=⟨hm,hk,fn,code,hf,hb,hn,hrs,Aag hc⟩
def QU (P:Program) (rs:List ResultVar) (r:A):Exit→Sta→Prop:=rm P rs fun r0 H=>K6 H r0 r
theorem Ah {P:Program} {f:FuncId} {n:Nat} {rs:List ResultVar} {cc:CC} {args:List A} {r:A} (t:Bm P f n rs cc) (ha:args.length≤n) (h:∀ w0 I0,WPC (cx P w0 I0 n) cc (QU P rs r) ⟨QG args,H0⟩):Spec P f args r:=by
 obtain⟨hm,hk,fn,code,hf,hb,hn,hrs,hc⟩:=t;exact mh hk hf hb hn ha fun w0 I0=>Pu (c:=cx P w0 I0 n) hm hc (by rw[hrs];exact h w0 I0)
section
variable {P:Program} {H:Hp} {t u:TypeId}
def vc (x:VOb) (u:Nat):Option (List A):=match x with | ⟨u',.cells cs⟩=>if u'=u then some cs else none | _=>none
def vr (x:VOb) (u:Nat):Option (Nat × List A):=match x with | ⟨u',.arr s xs⟩=>if u'=u then some (s,xs) else none | _=>none
@[simp] theorem Aia {u' u:Nat} {cs:List A}:vc ⟨u',.cells cs⟩ u=if u'=u then some cs else none:=rfl
@[simp] theorem Aj8 {u' u s:Nat} {xs:List A}:vr ⟨u',.arr s xs⟩ u=if u'=u then some (s,xs) else none:=rfl
@[simp] theorem Ajo {o:Nm} {u:Nat}:Zn H o u=vc (H o) u:=rfl
@[simp] theorem Rj {o:Nm} {u:Nat}:QW H o u=vr (H o) u:=rfl
@[simp] theorem Ahs {o:Nm} {u off:Nat}:Gm P H t (.pob o u off)=match Ey P t,D9 P t with | some g,some sz=>(match vc (H o) u with | some cs=>L1 g sz (cs.drop off) | none=>none) | _,_=>none:=by
 unfold Gm;cases Ey P t with
 |none=>rfl
 |some g=>
  cases D9 P t with
  |none=>rfl
  |some sz=>rfl
@[simp] theorem Aid {o:Nm} {u i j:Nat}:Gm P H t (.pel o u i j)=match Ey P t,D9 P t with | some g,some sz=>(match vr (H o) u with | some (_,xs)=>(match xs[i]? with | some x=>L1 g sz (x.cells.drop j) | none=>none) | none=>none) | _,_=>none:=by
 unfold Gm;cases Ey P t with
 |none=>rfl
 |some g=>
  cases D9 P t with
  |none=>rfl
  |some sz=>rfl
@[simp] theorem Afj {o:Nm} {u off:Nat} {val:A}:HX P H t (.pob o u off) val=match D9 P t with
  |some sz=>if val.cells.length=sz∧A.ones val.cells=true then (match vc (H o) u with | some cs=>if off+sz≤cs.length then some (.one o ⟨u,.cells (splice cs off val.cells)⟩) else none | none=>none) else none
  |none=>none:=by
 unfold HX;cases D9 P t<;>rfl
def mB (o:Nm) (u i j s sz:Nat) (xs:List A) (val:A):Option A→Option Eff
 |some x=>if j=0∧sz=s then some (.one o ⟨u,.arr s (xs.set i val)⟩)
  else if j+sz≤s∧x.isAgg=true then some (.one o ⟨u,.arr s (xs.set i (x.remake (splice x.cells j val.cells)))⟩) else none
 |none=>none
def AbM (o:Nm) (u i j sz:Nat) (val:A):Option (Nat × List A)→Option Eff
 |some (s,xs)=>mB o u i j s sz xs val xs[i]?
 |none=>none
@[simp] theorem lW {o:Nm} {u i j s sz:Nat} {xs:List A} {val:A}:AbM o u i j sz val (some (s,xs))=mB o u i j s sz xs val xs[i]?:=rfl
@[simp] theorem Abx {o:Nm} {u i j s sz:Nat} {xs:List A} {x val:A}:mB o u i j s sz xs val (some x)=if j=0∧sz=s then some (.one o ⟨u,.arr s (xs.set i val)⟩)
  else if j+sz≤s∧x.isAgg=true then some (.one o ⟨u,.arr s (xs.set i (x.remake (splice x.cells j val.cells)))⟩) else none:=rfl
@[simp] theorem Aee {o:Nm} {u i j:Nat} {val:A}:HX P H t (.pel o u i j) val=match D9 P t with
  |some sz=>if val.cells.length=sz∧A.ones val.cells=true then AbM o u i j sz val (vr (H o) u) else none
  |none=>none:=by
 unfold HX;cases D9 P t with
 |none=>rfl
 |some sz=>
  simp only[Rj];cases vr (H o) u with
  |none=>rfl
  |some p=>
   obtain⟨s,xs⟩:=p;simp only[lW];cases xs[i]?<;>rfl
@[simp] theorem Af6 {d:Nm} {e:TypeId}:Q8 P H d e=match BW P e with | some z=>if A.ones (GH z).cells=true∧Fl d e=true then some (.pob d ((H d).u+1) 0,.one d ⟨(H d).u+1,.cells (GH z).cells⟩) else none | none=>none:=rfl
@[simp] theorem AkX {d:Nm} {e:TypeId} {a:A}:ml H d e a=if A.ones a.cells=true∧Fl d e=true then some (.pob d ((H d).u+1) 0,.one d ⟨(H d).u+1,.cells a.cells⟩) else none:=rfl
@[simp] theorem Aj0 {a:A}:vf a=if a.isPtr=true then some a else none:=rfl
def Abm (H:Hp) (d:Nm) (e:TypeId) (n c:Int):Option Nat→Option Value→Option Nat→Option (A × Eff)
 |some s,some z,some b=>if 0≤n∧n≤c∧b*c≤140737488355328∧0<b∧(GH z).cells.length=s∧A.ones (GH z).cells=true∧Fl d e=true then some (.osl d ((H d).u+1) s 0 n.toNat,.one d ⟨(H d).u+1,.arr s (List.replicate n.toNat (GH z))⟩) else none
 |_,_,_=>none
@[simp] theorem AcB {d:Nm} {e:TypeId} {n c:Int} {s b:Nat} {z:Value}:Abm H d e n c (some s) (some z) (some b)=if 0≤n∧n≤c∧b*c≤140737488355328∧0<b∧(GH z).cells.length=s∧A.ones (GH z).cells=true∧Fl d e=true then some (.osl d ((H d).u+1) s 0 n.toNat,.one d ⟨(H d).u+1,.arr s (List.replicate n.toNat (GH z))⟩) else none:=rfl
@[simp] theorem zU {d:Nm} {k k':IntKind} {n c:Int}:FL P H d t (.v (.int k n)) (.v (.int k' c))=match P.underlying t with | some (.slice e)=>Abm H d e n c (D9 P e) (BW P e) (Cv P e) | _=>none:=by
 unfold FL;cases P.underlying t with
 |none=>rfl
 |some q=>
  cases q<;>first
   |rfl
   |(rename_i e;cases D9 P e<;>cases BW P e<;>cases Cv P e<;>rfl)
def apS (H:Hp) (d:Nm) (e:TypeId) (xs:List A):Option (List A)→Option Nat→Option Value→Option Nat→Option (A × Eff)
 |some zs,some s,some z,some b=>if 0<b∧(GH z).cells.length=s∧A.ones (GH z).cells=true then if Ge s xs=true∧(xs.length=0∨0<zs.length)∧(xs.length+zs.length)*b≤140737488355328∧Fl d e=true then some (.osl d ((H d).u+1) s 0 (xs.length+zs.length),.one d ⟨(H d).u+1,.arr s (xs++zs)⟩) else none else none
 |_,_,_,_=>none
@[simp] theorem Afx {d:Nm} {e:TypeId} {xs zs:List A} {s b:Nat} {z:Value}:apS H d e xs (some zs) (some s) (some z) (some b)=if 0<b∧(GH z).cells.length=s∧A.ones (GH z).cells=true then if Ge s xs=true∧(xs.length=0∨0<zs.length)∧(xs.length+zs.length)*b≤140737488355328∧Fl d e=true then some (.osl d ((H d).u+1) s 0 (xs.length+zs.length),.one d ⟨(H d).u+1,.arr s (xs++zs)⟩) else none else none:=rfl
def apO (o:Nm) (e:TypeId) (v sz off len:Nat):Option (Nat × List A)→Option (List A)→Option Nat→Option Value→Option Nat→Option (A × Eff)
 |some (s',ys),some zs,some s,some z,some b=>if 0<b∧(GH z).cells.length=s∧A.ones (GH z).cells=true then if off=0∧s'=s∧sz=s∧len≤ys.length∧(len+zs.length)*b≤140737488355328∧Fl o e=true then some (.osl o (v+1) s 0 (len+zs.length),.one o ⟨v+1,.arr s (ys.take len++zs)⟩) else none else none
 |_,_,_,_,_=>none
@[simp] theorem AhW {o:Nm} {e:TypeId} {v sz off len s' s b:Nat} {ys zs:List A} {z:Value}:apO o e v sz off len (some (s',ys)) (some zs) (some s) (some z) (some b)=if 0<b∧(GH z).cells.length=s∧A.ones (GH z).cells=true then if off=0∧s'=s∧sz=s∧len≤ys.length∧(len+zs.length)*b≤140737488355328∧Fl o e=true then some (.osl o (v+1) s 0 (len+zs.length),.one o ⟨v+1,.arr s (ys.take len++zs)⟩) else none else none:=rfl
@[simp] theorem Aek {d:Nm} {xs:List A} {x:A}:Gd P H d t u (.sl true xs) x=match P.underlying t with | some (.slice e)=>(match D9 P e with | some s=>apS H d e xs (KB P H s e u x) (some s) (BW P e) (Cv P e) | none=>none) | _=>none:=by
 unfold Gd;cases P.underlying t with
 |none=>rfl
 |some q=>
  cases q<;>try rfl
  rename_i e;simp only;cases D9 P e with
  |none=>rfl
  |some s=>
   cases BW P e with
   |none=>simp only;cases KB P H s e u x<;>rfl
   |some z=>
    cases Cv P e with
    |none=>simp only;cases KB P H s e u x<;>rfl
    |some b=>simp only;cases KB P H s e u x<;>rfl
def cpO (o:Nm) (v sz off len s:Nat):Option (Nat × List A)→Option (List A)→Option (A × Eff)
 |some (s',ys),some zs=>if s'=s∧sz=s∧off+len≤ys.length then
   some (.v (.int .i64 (min zs.length len:Nat)),.one o ⟨v,.arr s (ys.take off++zs.take (min zs.length len)++ys.drop (off+min zs.length len))⟩) else none
 |_,_=>none
@[simp] theorem Afq {o:Nm} {v sz off len s s':Nat} {ys zs:List A}:cpO o v sz off len s (some (s',ys)) (some zs)=if s'=s∧sz=s∧off+len≤ys.length then
   some (.v (.int .i64 (min zs.length len:Nat)),.one o ⟨v,.arr s (ys.take off++zs.take (min zs.length len)++ys.drop (off+min zs.length len))⟩) else none:=rfl
@[simp] theorem AfX {o:Nm} {v sz off len:Nat} {x:A}:N9 P H t (.osl o v sz off len) x=match P.underlying t with | some (.slice e)=>(match D9 P e with | some s=>cpO o v sz off len s (vr (H o) v) (Hi H s x) | none=>none) | _=>none:=by
 unfold N9;cases P.underlying t with
 |none=>rfl
 |some q=>
  cases q<;>try rfl
  rename_i e;simp only[Rj];generalize vr (H o) v=r;cases D9 P e with
  |none=>rfl
  |some s=>simp only;cases Hi H s x<;>cases r<;>rfl
@[simp] theorem Ab3 {d o:Nm} {v sz off len:Nat} {x:A}:Gd P H d t u (.osl o v sz off len) x=match P.underlying t with | some (.slice e)=>(match D9 P e with | some s=>apO o e v sz off len (vr (H o) v) (KB P H s e u x) (some s) (BW P e) (Cv P e) | none=>none) | _=>none:=by
 unfold Gd;cases P.underlying t with
 |none=>rfl
 |some q=>
  cases q<;>try rfl
  rename_i e;simp only[Rj];generalize vr (H o) v=r;cases D9 P e with
  |none=>rfl
  |some s=>
   cases BW P e with
   |none=>simp only;cases KB P H s e u x<;>cases r<;>rfl
   |some z=>
    cases Cv P e with
    |none=>simp only;cases KB P H s e u x<;>cases r<;>rfl
    |some b=>
     simp only;cases KB P H s e u x with
     |none=>cases r<;>rfl
     |some zs=>cases r<;>simp only[apO]<;>(try split)<;>rfl
def ug (n:Int) (s:Nat):Option Value→Option Nat→Option (List A)
 |some z,some b=>if 0≤n∧n*b≤140737488355328∧0<b∧(GH z).cells.length=s∧A.ones (GH z).cells=true then some (List.replicate n.toNat (GH z)) else none
 |_,_=>none
@[simp] theorem AbD {n:Int} {s b:Nat} {z:Value}:ug n s (some z) (some b)=if 0≤n∧n*b≤140737488355328∧0<b∧(GH z).cells.length=s∧A.ones (GH z).cells=true then some (List.replicate n.toNat (GH z)) else none:=rfl
@[simp] theorem AiQ {s e:Nat} {k:IntKind} {n:Int}:KB P H s e t (.v (.int k n))=match P.underlying t with | some (.int _)=>ug n s (BW P e) (Cv P e) | _=>none:=by
 unfold KB;cases P.underlying t with
 |none=>rfl
 |some q=>
  cases q<;>first
   |rfl
   |(cases BW P e<;>cases Cv P e<;>rfl)
@[simp] theorem AkA {s e:Nat} {f:Bool} {xs:List A}:KB P H s e t (.sl f xs)=match P.underlying t with | some (.slice _)=>if Ge s xs=true then some xs else none | _=>none:=by
 unfold KB;cases P.underlying t with
 |none=>rfl
 |some q=>cases q<;>rfl
def ixS (xs:List A) (i:Int):Option Nat→Option A
 |some m=>if 0≤i∧i<xs.length then (match xs[i.toNat]? with
     |some x=>if x.cells.length=m then some (.pim x.cells) else none
     |none=>none) else none
 |none=>none
@[simp] theorem AfK {xs:List A} {i:Int} {m:Nat}:ixS xs i (some m)=if 0≤i∧i<xs.length then (match xs[i.toNat]? with
     |some x=>if x.cells.length=m then some (.pim x.cells) else none
     |none=>none) else none:=rfl
@[simp] theorem zl {k:IntKind} {i:Int} {f:Bool} {xs:List A}:Cg P t (.sl f xs) (.v (.int k i))=match P.underlying t with | some (.slice e)=>ixS xs i (D9 P e) | _=>none:=by
 unfold Cg;cases P.underlying t with
 |none=>rfl
 |some q=>
  cases q<;>first
   |rfl
   |(rename_i e;cases h:D9 P e<;>first | rfl | simp[A.shift,h] | (simp only[h];rfl))
def ixO (o:Nm) (u z off n:Nat) (i:Int):Option Nat→Option A
 |some m=>if 0≤i∧i<n∧z=m then some (.pel o u (off+i.toNat) 0) else none
 |none=>none
@[simp] theorem Ahr {o:Nm} {u z off n m:Nat} {i:Int}:ixO o u z off n i (some m)=if 0≤i∧i<n∧z=m then some (.pel o u (off+i.toNat) 0) else none:=rfl
@[simp] theorem yx {u z off n:Nat} {o:Nm} {k:IntKind} {i:Int}:Cg P t (.osl o u z off n) (.v (.int k i))=match P.underlying t with | some (.slice e)=>ixO o u z off n i (D9 P e) | _=>none:=by
 unfold Cg;cases P.underlying t with
 |none=>rfl
 |some q=>
  cases q<;>first
   |rfl
   |(rename_i e;cases h:D9 P e<;>first | rfl | simp[A.shift,h] | (simp only[h];rfl))
def ixA (a:A) (n:Nat) (i:Int):Option Nat→Option A
 |some m=>if 0≤i∧i<n then a.shift (i.toNat*m) else none
 |none=>none
@[simp] theorem Ah7 {a:A} {n m:Nat} {i:Int}:ixA a n i (some m)=if 0≤i∧i<n then a.shift (i.toNat*m) else none:=rfl
@[simp] theorem yu {u p:Nat} {o:Nm} {k:IntKind} {i:Int}:Cg P t (.pob o u p) (.v (.int k i))=match P.underlying t with | some (.array n e)=>ixA (.pob o u p) n i (D9 P e) | _=>none:=by
 unfold Cg;cases P.underlying t with
 |none=>rfl
 |some q=>
  cases q<;>first
   |rfl
   |(rename_i e;cases h:D9 P e<;>first | rfl | simp[A.shift,h] | (simp only[h];rfl))
def ixV (P:Program) (e:TypeId) (cs:List A) (n:Nat) (i:Int):Option Nat→Option A
 |some m=>if 0≤i∧i<n then PV P e cs (i.toNat*m) else none
 |none=>none
@[simp] theorem AgK {e:TypeId} {cs:List A} {n m:Nat} {i:Int}:ixV P e cs n i (some m)=if 0≤i∧i<n then PV P e cs (i.toNat*m) else none:=rfl
@[simp] theorem AfP {cs:List A} {off:Nat}:PV P t cs off=match Ey P t,D9 P t with | some g,some sz=>L1 g sz (cs.drop off) | _,_=>none:=rfl
@[simp] theorem AeG {cs:List A} {k:IntKind} {i:Int}:OD P t (.agg cs) (.v (.int k i))=match P.underlying t with | some (.array n e)=>ixV P e cs n i (D9 P e) | _=>none:=by
 unfold OD;cases P.underlying t with
 |none=>rfl
 |some q=>
  cases q<;>first
   |rfl
   |(rename_i e;cases h:D9 P e<;>first | rfl | simp[A.shift,h] | (simp only[h];rfl))
@[simp] theorem AeD {s:ByteArray} {k:IntKind} {i:Int}:OD P t (.v (.string s)) (.v (.int k i))=match P.underlying t with | some .string=>if 0≤i then (s[i.toNat]?).map (fun b=>.v (.int .u8 b.toNat)) else none | _=>none:=by
 unfold OD;cases P.underlying t with
 |none=>rfl
 |some q=>cases q<;>rfl
@[simp] theorem Akg {f:Bool} {xs:List A}:W2 P t (.sl f xs)=match P.underlying t with | some (.slice _)=>some (.v (.int .i64 xs.length)) | some (.array n _)=>some (.v (.int .i64 n)) | _=>none:=by
 unfold W2;cases P.underlying t with
 |none=>rfl
 |some q=>cases q<;>rfl
@[simp] theorem Aiq {u z off n:Nat} {o:Nm}:W2 P t (.osl o u z off n)=match P.underlying t with | some (.slice _)=>some (.v (.int .i64 n)) | some (.array n _)=>some (.v (.int .i64 n)) | _=>none:=by
 unfold W2;cases P.underlying t with
 |none=>rfl
 |some q=>cases q<;>rfl
def slS (f:Bool) (xs:List A):Option (Nat × Nat × Option Nat)→Option Nat→Option A
 |some (l,h,m),some s=>if Ge s xs=true then some (.sl (My m f h xs.length) ((xs.drop l).take (h-l))) else none
 |_,_=>none
@[simp] theorem Agj {f:Bool} {xs:List A} {l h s:Nat} {m:Option Nat}:slS f xs (some (l,h,m)) (some s)=if Ge s xs=true then some (.sl (My m f h xs.length) ((xs.drop l).take (h-l))) else none:=rfl
@[simp] theorem AgI {f:Bool} {xs:List A} {lo hi mx:Option A}:OE P t (.sl f xs) lo hi mx=match P.underlying t with | some (.slice e)=>slS f xs (HG xs.length lo hi mx) (D9 P e) | _=>none:=by
 unfold OE;cases P.underlying t with
 |none=>rfl
 |some q=>
  cases q<;>first
   |rfl
   |(rename_i e;cases HG xs.length lo hi mx<;>cases D9 P e<;>rfl)
def slO (o:Nm) (u z off:Nat):Option (Nat × Nat × Option Nat)→Option Nat→Option A
 |some (l,h,_),some s=>if s=z then some (.osl o u z (off+l) (h-l)) else none
 |_,_=>none
@[simp] theorem AfT {o:Nm} {u z off l h s:Nat} {m:Option Nat}:slO o u z off (some (l,h,m)) (some s)=if s=z then some (.osl o u z (off+l) (h-l)) else none:=rfl
@[simp] theorem Afk {u z off n:Nat} {o:Nm} {lo hi mx:Option A}:OE P t (.osl o u z off n) lo hi mx=match P.underlying t with | some (.slice e)=>slO o u z off (HG n lo hi mx) (D9 P e) | _=>none:=by
 unfold OE;cases P.underlying t with
 |none=>rfl
 |some q=>
  cases q<;>first
   |rfl
   |(rename_i e;cases HG n lo hi mx<;>cases D9 P e<;>rfl)
@[simp] theorem Aio {r:IntKind} {n:Int}:UX P t u (.v (.int r n))=match P.underlying t,P.underlying u with | some _,some (.int k)=>some (.v (.int k (k.wrap n))) | _,_=>none:=by
 unfold UX;cases P.underlying t with
 |none=>rfl
 |some q=>cases P.underlying u with
  |none=>rfl
  |some d=>cases d<;>rfl
def lp (P:Program) (s:TypeId) (f:Nat):Option (TypeId × Nat):=match P.underlying s with
 |some (.struct fs)=>(fs[f]?).map fun fd=>(fd.type,fd.offset)
 |_=>none
@[simp] theorem Ae6 {cs:List A} {f:Nat}:Ua P t (.agg cs) f=match lp P t f with | some (ft,off)=>PV P ft cs off | none=>none:=by
 unfold Ua lp;cases P.underlying t with
 |none=>rfl
 |some q=>
  cases q<;>first
   |rfl
   |(rename_i fs;simp only;cases fs[f]?<;>rfl)
@[simp] theorem AkS {s e:Nat} {a:Option Addr} {c:Nat}:KB P H s e t (.v (.slice a 0 c))=match P.underlying t with | some (.slice _)=>some [] | _=>none:=by
 unfold KB;cases P.underlying t with
 |none=>rfl
 |some q=>cases q<;>rfl
def N1:Nat→List (Nat × A)→Bool
 |_,[]=>true
 |k,(i,_)::l=>i == k&&N1 (k+1) l
@[simp] theorem Ae9 {k:Nat}:N1 k []=true:=rfl
@[simp] theorem W0 {k i:Nat} {x:A} {l:List (Nat × A)}:N1 k ((i,x)::l)=(i == k&&N1 (k+1) l):=rfl
theorem Vb:∀ (l:List (Nat × A)) (k:Nat),N1 k l=true→l.map (·.1)=List.range' k l.length
 |[],k,_=>rfl
 |(i,x)::l,k,h=>by
  simp only[W0,Bool.and_eq_true,beq_iff_eq] at h;simp only[List.map_cons,List.length_cons,List.range'_succ];rw[h.1,Vb l (k+1) h.2]
def AhA (len:Nat) (ps:List (Nat × A)):Option Nat→Option Value→Option A
 |some s,some z=>if N1 0 ps=true∧ps.length=len∧len*s≤16777216∧(GH z).cells.length=s∧A.ones (GH z).cells=true∧(ps.all fun p=>p.2.cells.length == s&&A.ones p.2.cells&&p.2.cells.all A.bare1)=true then some (.sl true (ps.map (·.2))) else none
 |_,_=>none
@[simp] theorem rB {len s:Nat} {z:Value} {ps:List (Nat × A)}:AhA len ps (some s) (some z)=if N1 0 ps=true∧ps.length=len∧len*s≤16777216∧(GH z).cells.length=s∧A.ones (GH z).cells=true∧(ps.all fun p=>p.2.cells.length == s&&A.ones p.2.cells&&p.2.cells.all A.bare1)=true then some (.sl true (ps.map (·.2))) else none:=rfl
theorem U4:∀ (l:List (Nat × A)) (k:Nat),l.map (·.1)=List.range' k l.length→N1 k l=true
 |[],k,_=>rfl
 |(i,x)::l,k,h=>by
  simp only[List.map_cons,List.length_cons,List.range'_succ,List.cons.injEq] at h;simp only[W0,Bool.and_eq_true,beq_iff_eq];exact⟨h.1,U4 l (k+1) h.2⟩
@[simp] theorem yE {len:Nat} {ps:List (Nat × A)}:FJ P t len ps=match P.underlying t with | some (.slice e)=>AhA len ps (D9 P e) (BW P e) | _=>none:=by
 unfold FJ;cases P.underlying t with
 |none=>rfl
 |some q=>
  cases q<;>try rfl
  rename_i e;simp only;cases D9 P e with
  |none=>rfl
  |some s=>
   cases BW P e with
   |none=>rfl
   |some z=>
    have he:(ps.map (·.1)=List.range len) ↔ (N1 0 ps=true∧ps.length=len):=by
     constructor
     ·intro h;have hl:ps.length=len:=by have:=congrArg List.length h;simpa using this
      exact⟨U4 ps 0 (by rw[h,hl,List.range_eq_range']),hl⟩
     ·rintro⟨h1,h2⟩;rw[Vb _ _ h1,h2,List.range_eq_range']
    simp only[rB,he,and_assoc]
def Ak4 (H:Hp) (d:Nm) (e:TypeId) (len:Nat) (ps:List (Nat × A)):Option Nat→Option Value→Option (A × Eff)
 |some s,some z=>if N1 0 ps=true∧ps.length=len∧len*s≤16777216∧(GH z).cells.length=s∧A.ones (GH z).cells=true∧(ps.all fun p=>p.2.cells.length == s&&A.ones p.2.cells)=true∧Fl d e=true then some (.osl d ((H d).u+1) s 0 len,.one d ⟨(H d).u+1,.arr s (ps.map (·.2))⟩) else none
 |_,_=>none
@[simp] theorem AeA {H:Hp} {d:Nm} {e:TypeId} {len s:Nat} {z:Value} {ps:List (Nat × A)}:Ak4 H d e len ps (some s) (some z)=if N1 0 ps=true∧ps.length=len∧len*s≤16777216∧(GH z).cells.length=s∧A.ones (GH z).cells=true∧(ps.all fun p=>p.2.cells.length == s&&A.ones p.2.cells)=true∧Fl d e=true then some (.osl d ((H d).u+1) s 0 len,.one d ⟨(H d).u+1,.arr s (ps.map (·.2))⟩) else none:=rfl
@[simp] theorem zd {cs:List A}:TJ P .eql t (.pim cs) (.v (.pointer none))=match P.underlying t with | some (.pointer _)=>some (.v (.bool false)) | _=>none:=by
 show(Zc P 100 t _ _).map _=_;unfold Zc;cases P.underlying t with
 |none=>rfl
 |some q=>cases q<;>rfl
@[simp] theorem yI {a b:Bool}:TJ P .neq t (.v (.bool a)) (.v (.bool b))=match P.underlying t with | some .bool=>some (.v (.bool (!(a == b)))) | _=>none:=by
 show(Zc P 100 t _ _).map _=_;unfold Zc;cases P.underlying t with
 |none=>rfl
 |some q=>cases q<;>rfl
end
def Gt {α:Type} (F:Option α) (K:α→Prop):Prop:=∃ x,F=some x∧K x
def LQ (q:Bool) (F:Option A) (K:A→Prop):Prop:=∃ x,(q=true→F=some x)∧K (gd q x)
def xi (q:Bool) (F:Prop):Prop:=q=true→F
def nJ (b:Bool) (F G:Prop):Prop:=(b=true→F)∧(b=false→G)
@[congr] theorem Af0 {α:Type} {F F':Option α} {K:α→Prop} (h:F=F'):Gt F K=Gt F' K:=by rw[h]
@[congr] theorem Ad1 {q q':Bool} {F F':Option A} {K:A→Prop} (h1:q=q') (h2:F=F'):LQ q F K=LQ q' F' K:=by rw[h1,h2]
@[congr] theorem Ad0 {b b':Bool} {F G:Prop} (h:b=b'):nJ b F G=nJ b' F G:=by rw[h]
@[congr] theorem AbZ {P:Program} {K:Sta→Prop} {l:List CO} {lg lg':Lg} {st st':Sta} (h0:lg=lg') (h:st=st'):AH P K l lg st=AH P K l lg' st':=by rw[h0,h]
@[congr] theorem AeC {c:Cx} {x:CC} {Q:Exit→Sta→Prop} {st st':Sta} (h:st=st'):WPC c x Q st=WPC c x Q st':=by rw[h]
@[congr] theorem Aa6 {c:Cx} {x:CC} {Q:Exit→Sta→Prop} {st st':Sta} (h:st=st'):LoopC c x Q st=LoopC c x Q st':=by rw[h]
@[congr] theorem AbB {K:Sta→Prop} {Q:Exit→Sta→Prop} {e e':Exit} {st st':Sta} (h0:e=e') (h:st=st'):Ht K Q e st=Ht K Q e' st':=by rw[h0,h]
@[congr] theorem Abi {c:Cx} {K:Sta→Prop} {st st':Sta} (h:st=st'):Rn c K st=Rn c K st':=by rw[h]
@[congr] theorem yG {i:Nat} {Q:Exit→Sta→Prop} {e e':Exit} {st st':Sta} (h0:e=e') (h:st=st'):Cq i Q e st=Cq i Q e' st':=by rw[h0,h]
@[congr] theorem AeW {Q:Exit→Sta→Prop} {e e':Exit} {st st':Sta} (h0:e=e') (h:st=st'):NoG Q e st=NoG Q e' st':=by rw[h0,h]
@[simp] theorem Aj6 {α:Type} {x:α} {K:α→Prop}:Gt (some x) K=K x:=by simp[Gt]
@[simp] theorem Aji {α:Type} {K:α→Prop}:Gt none K=False:=by simp[Gt]
@[simp high] theorem AjU {α:Type} {C:Prop} [Decidable C] {F:Option α} {K:α→Prop}:Gt (if C then F else none) K=(C∧Gt F K):=by
 by_cases h:C<;>simp[h]
@[simp] theorem AgD {q:Bool} {x:A} {K:A→Prop}:LQ q (some x) K=K (gd q x):=by
 apply propext;constructor
 ·rintro⟨y,h1,h2⟩;cases q
  ·exact h2
  ·cases h1 rfl;exact h2
 ·exact fun h=>⟨x,fun _=>rfl,h⟩
@[simp high] theorem Agp {q:Bool} {C:Prop} [Decidable C] {F:Option A} {K:A→Prop}:LQ q (if C then F else none) K=(xi q C∧LQ q F K):=by
 cases q
 ·simp[LQ,xi]
 ·by_cases h:C<;>simp[h,LQ,xi]
@[simp] theorem Ah4 {F:Option A} {K:A→Prop}:LQ true F K=Gt F K:=by simp[LQ,Gt,gd]
@[simp] theorem Afa {F:Option A} {K:A→Prop}:LQ false F K=K (.v undef):=by simp[LQ,gd]
@[simp] theorem AgZ {F:Prop}:xi true F=F:=by simp[xi]
@[simp] theorem Adc {p:Prop} [Decidable p] {F:Prop}:xi (decide p) F=(p→F):=by simp[xi]
@[simp] theorem Aig {F G:Prop}:nJ true F G=F:=by simp[nJ]
@[simp] theorem Ae3 {F G:Prop}:nJ false F G=G:=by simp[nJ]
@[simp] theorem Acm {p:Prop} [Decidable p] {F G:Prop}:nJ (decide p) F G=((p→F)∧(¬p→G)):=by simp[nJ]
@[simp] theorem Ai7 {b:Bool} {F G:Prop}:nJ (!b) F G=nJ b G F:=by cases b<;>simp
@[simp] theorem Ai0 {a b:Bool} {F G:Prop}:nJ (a&&b) F G=(((a&&b)=true→F)∧((a&&b)=false→G)):=rfl
@[simp] theorem Akf {a b:Bool} {F G:Prop}:nJ (a || b) F G=(((a || b)=true→F)∧((a || b)=false→G)):=rfl
@[simp] theorem AgG {b:Bool} {F:Prop}:nJ b F F=F:=by cases b<;>simp
@[simp] theorem Ais {x:A}:gd true x=x:=rfl
@[simp] theorem Ahi {x:A}:gd false x = .v undef:=rfl
@[simp] theorem AkB {q:Bool} {x y:A}:(bif q then gd q x else y)=bif q then x else y:=by cases q<;>rfl
def ng (b:Bool):Bool:=!b
@[simp] theorem AgJ:ng true=false:=rfl
@[simp] theorem Aeh:ng false=true:=rfl
@[simp] theorem AiO {b:Bool}:(ng b=true)=(b=false):=by cases b<;>simp[ng]
@[simp] theorem AkV {b:Bool}:ng (!b)=b:=by cases b<;>rfl
@[simp] theorem Adn {q:Bool} {x y:A}:(bif q then x else gd (!q) y)=bif q then x else y:=by cases q<;>rfl
@[simp] theorem AjA {a b:Bool} {F:Prop}:xi (a&&b) F=xi a (xi b F):=by cases a<;>cases b<;>simp[xi]
@[simp] theorem AiE {q:Bool} {x y:A}:(bif q then x else gd (ng q) y)=bif q then x else y:=by cases q<;>rfl
@[simp] theorem AcD {b:Bool}:Fs (.v (.bool b)) true=some b:=by cases b<;>rfl
@[simp] theorem AbV {b:Bool}:Fs (.v (.bool b)) false=some (ng b):=by cases b<;>rfl
@[simp] theorem AbC {f:Bool}:Fs (.v undef) f=some false:=rfl
@[simp] theorem AfO {q b:Bool}:Fs (gd q (.v (.bool b))) true=some (q&&b):=by cases q<;>cases b<;>rfl
@[simp] theorem AdU {q b:Bool}:Fs (gd q (.v (.bool b))) false=some (q&&ng b):=by cases q<;>cases b<;>rfl
@[simp] theorem Ali {q:Bool} {x:A}:gd q (gd q x)=gd q x:=by cases q<;>rfl
@[simp] theorem AdA {b:Bool}:iV (.v (.bool b))=some b:=rfl
@[simp] theorem AeE {b:Bool} {x y:A}:jx (.v (.bool b)) x y=some (bif b then x else y):=rfl
section
variable {c:Cx} {Q:Exit→Sta→Prop} {st:Sta} {K:Sta→Prop}
@[simp] theorem Ag9:WPC c .skip Q st=Q .normal st:=rfl
@[simp] theorem Age {i:Nat}:WPC c (.exit i) Q st=Q (.exit i) st:=rfl
@[simp] theorem AiW:WPC c .ret Q st=Q .ret st:=rfl
def Abl (Q:Exit→Sta→Prop) (live:List Nat) (st:Sta):Prop:=Q .normal (st.keep live)
@[simp] theorem AhG {live:List Nat}:Abl Q live st=Q .normal (st.keep live):=rfl
@[simp] theorem Ait {ops:List CO} {live:List Nat}:WPC c (.reg ops live) Q st=AH c.P (Abl Q live) ops [] st:=rfl
@[simp] theorem Ajf {x y:CC}:WPC c (.seq x y) Q st=WPC c x (Ht (WPC c y Q) Q) st:=rfl
@[simp] theorem Aei {i:Nat} {x:CC}:WPC c (.block i x) Q st=WPC c x (Cq i Q) st:=rfl
@[simp] theorem Agb {x:CC}:WPC c (.loop x) Q st=LoopC c x Q st:=rfl
@[simp] theorem Afd {x:CC}:WPC c (.scope x) Q st=WPC c x (NoG Q) st:=rfl
@[simp] theorem Ajk:NoG Q .ret st=Q .ret st:=rfl
@[simp] theorem Afw {x:CC}:WPC c (.stop x) Q st=Rn c (WPC c x Q) st:=rfl
@[simp] theorem Agg {live:List Nat} {x:CC}:WPC c (.keep live x) Q st=WPC c x Q (st.keep live):=rfl
@[simp] theorem AgC {o:Operand} {x y:CC}:WPC c (.cond o x y) Q st=Gt (iV (evs st.s o)) fun b=>nJ b (WPC c x Q st) (WPC c y Q st):=by
 apply propext;constructor
 ·rintro⟨b,h1,h2,h3⟩;exact⟨b,by rw[h1];rfl,h2,h3⟩
 ·rintro⟨b,h1,h2,h3⟩;exact⟨b,Yo h1,h2,h3⟩
@[simp] theorem AaU:Ht K Q .normal st=K st:=rfl
@[simp] theorem Ac3 {i:Nat}:Ht K Q (.exit i) st=Q (.exit i) st:=rfl
@[simp] theorem Aed:Ht K Q .ret st=Q .ret st:=rfl
theorem Ad {x x':CC} (hm:c.P.follows .mixedOrders=true) (he:x=x') (h:WPC c x' (Ht (LoopC c x Q) Q) st):LoopC c x Q st:=by
 subst he;exact jP hm h
@[simp] theorem AlC {P:Program} {w0:World} {I0:Nat→Prop} {n:Nat}:(cx P w0 I0 n).P=P:=rfl
variable {P:Program} {rs:List ResultVar} {r:A}
@[simp] theorem Afo:QU P rs r .ret st=Gt (TL P st rs) fun r0=>K6 st.H r0 r:=rfl
@[simp] theorem Adr {t:Nat}:Qt P st (.tmp t)=some (st.s t):=rfl
@[simp] theorem AbH {t:TypeId} {a:Nat}:Qt P st (.cell a t)=Gm P st.H t (st.s a):=rfl
@[simp] theorem Ahl {x:ResultVar}:TL P st [x]=Qt P st x:=rfl
@[simp] theorem AgL {x y:ResultVar} {l:List ResultVar}:TL P st (x::y::l)=(Im P st (x::y::l)).map .tup:=rfl
@[simp] theorem AbU:Im P st []=some []:=rfl
@[simp] theorem Aaf {x:ResultVar} {l:List ResultVar}:Im P st (x::l)=match Qt P st x,Im P st l with | some x,some l=>some (x::l) | _,_=>none:=rfl
end
section
variable {P:Program} {H:Hp} {t u:TypeId} {q:Bool} {x y z:A} {K:A→Prop}
theorem IQ {F F':Option A} (h:q=true→F=F'):LQ q F K=LQ q F' K:=by
 cases q
 ·simp
 ·rw[h rfl]
@[simp] theorem Agn {op:BinOp}:LQ q (TJ P op t (gd q x) y) K=LQ q (TJ P op t x y) K:=IQ fun h=>by rw[h];rfl
@[simp] theorem AgE {op:BinOp}:LQ q (TJ P op t x (gd q y)) K=LQ q (TJ P op t x y) K:=IQ fun h=>by rw[h];rfl
@[simp] theorem Aie:LQ q (Gm P H t (gd q y)) K=LQ q (Gm P H t y) K:=IQ fun h=>by rw[h];rfl
@[simp] theorem tz:LQ q (Cg P t (gd q x) y) K=LQ q (Cg P t x y) K:=IQ fun h=>by rw[h];rfl
@[simp] theorem uV:LQ q (Cg P t x (gd q y)) K=LQ q (Cg P t x y) K:=IQ fun h=>by rw[h];rfl
@[simp] theorem Ajm:LQ q (W2 P t (gd q y)) K=LQ q (W2 P t y) K:=IQ fun h=>by rw[h];rfl
@[simp] theorem AjM:LQ q (jx (gd q z) x y) K=LQ q (jx z x y) K:=IQ fun h=>by rw[h];rfl
def GB (P:Program) (q:Bool) (t:TypeId) (acc l:List (Nat × A)) (K:A→Prop):Prop:=LQ q (CS P t (acc++l)) K
@[congr] theorem Agq {q':Bool} {acc l l':List (Nat × A)} (h0:q=q') (h:l=l'):GB P q t acc l K=GB P q' t acc l' K:=by rw[h0,h]
@[simp] theorem Aki {acc:List (Nat × A)}:GB P q t acc [] K=LQ q (CS P t acc) K:=by simp[GB]
theorem zF {acc l:List (Nat × A)} {i:Nat}:GB P q t acc ((i,x)::l) K=GB P q t (acc++[(i,x)]) l K:=by simp[GB]
@[simp] theorem AlD {acc l:List (Nat × A)} {i:Nat} {a:Value}:GB P q t acc ((i,.v a)::l) K=GB P q t (acc++[(i,.v a)]) l K:=zF
end
section
variable {P:Program} {H:Hp} {t u:TypeId}
@[simp] theorem Ah1 {op:BinOp} {q r:IntKind} {a b:Int}:TJ P op t (.v (.int q a)) (.v (.int r b))=En op q r a b:=rfl
@[simp] theorem Aa5 {xs ys:List A}:TJ P .eql t (.agg xs) (.agg ys)=if P.eqGuardType P.depth t=false then (Zc P 100 t (.agg xs) (.agg ys)).map fun b=>.v (.bool b) else none:=rfl
@[simp] theorem Ag6 {q r:IntKind} {a b:Int}:En .shl q r a b=if 0≤b then some (.v (.int q (q.wrap (a*2 ^ (min b.toNat q.bits))))) else none:=rfl
@[simp] theorem AgA {q r:IntKind} {a b:Int}:En .shr q r a b=if 0≤b then some (.v (.int q (a / 2 ^ (min b.toNat q.bits)))) else none:=rfl
@[simp] theorem AfD {q:IntKind} {a b:Int}:En .add q q a b=some (.v (.int q (q.wrap (a+b)))):=by simp[En]
@[simp] theorem AgM {q:IntKind} {a b:Int}:En .sub q q a b=some (.v (.int q (q.wrap (a-b)))):=by simp[En]
@[simp] theorem Ahz {q:IntKind} {a b:Int}:En .mul q q a b=some (.v (.int q (q.wrap (a*b)))):=by simp[En]
@[simp] theorem Ags {q:IntKind} {a b:Int}:En .quo q q a b=if b=0 then none else some (.v (.int q (q.wrap (a.tdiv b)))):=by simp[En]
@[simp] theorem Ahg {q:IntKind} {a b:Int}:En .rem q q a b=if b=0 then none else some (.v (.int q (a.tmod b))):=by simp[En]
@[simp] theorem Ahn {q:IntKind} {a b:Int}:En .and q q a b=some (.v (.int q (bits .and q a b))):=by simp[En]
@[simp] theorem Ajl {q:IntKind} {a b:Int}:En .or q q a b=some (.v (.int q (bits .or q a b))):=by simp[En]
@[simp] theorem Ah8 {q:IntKind} {a b:Int}:En .xor q q a b=some (.v (.int q (bits .xor q a b))):=by simp[En]
@[simp] theorem AbR {q:IntKind} {a b:Int}:En .andNot q q a b=some (.v (.int q (bits .andNot q a b))):=by simp[En]
@[simp] theorem AhZ {q:IntKind} {a b:Int}:En .eql q q a b=some (.v (.bool (decide (a=b)))):=by simp[En];rfl
@[simp] theorem Afn {q:IntKind} {a b:Int}:En .neq q q a b=some (.v (.bool (!decide (a=b)))):=by simp[En];rfl
@[simp] theorem Agl {q:IntKind} {a b:Int}:En .lss q q a b=some (.v (.bool (decide (a<b)))):=by simp[En]
@[simp] theorem Ag1 {q:IntKind} {a b:Int}:En .leq q q a b=some (.v (.bool (decide (a≤b)))):=by simp[En]
@[simp] theorem AfQ {q:IntKind} {a b:Int}:En .gtr q q a b=some (.v (.bool (decide (b<a)))):=by simp[En]
@[simp] theorem Afp {q:IntKind} {a b:Int}:En .geq q q a b=some (.v (.bool (decide (b≤a)))):=by simp[En]
@[simp] theorem AiC {b:Bool}:unA .not (.v (.bool b))=some (.v (.bool (!b))):=rfl
@[simp] theorem AiP {q:IntKind} {n:Int}:unA .neg (.v (.int q n))=some (.v (.int q (q.wrap (0-n)))):=rfl
theorem aA {u:TypeId} {d:TypeDesc} {q r:IntKind} {n:Int} (h1:P.underlying t=some d) (h2:P.underlying u=some (.int q)):UX P t u (.v (.int r n))=some (.v (.int q (q.wrap n))):=by unfold UX;rw[h1,h2]
@[simp] theorem Af9 {cs:List A}:Gm P H t (.pim cs)=match Ey P t,D9 P t with | some g,some sz=>L1 g sz cs | _,_=>none:=rfl
@[simp] theorem AgO {sz:Nat} {cs:List A}:L1 true sz cs=if sz≤cs.length then some (.agg (cs.take sz)) else none:=rfl
@[simp] theorem Afb {sz:Nat} {cs:List A}:L1 false sz cs=cs[0]?:=rfl
@[simp] theorem AdC {n:Nat}:MN (.tmp n)=false:=rfl
@[simp] theorem Ac7 {k:IntKind} {n:Int}:MN (.const (.int k n))=false:=rfl
@[simp] theorem AcI {n:Option Addr}:MN (.const (.pointer n))=false:=rfl
@[simp] theorem Acl:MN (.const (.slice none 0 0))=true:=rfl
@[simp] theorem Ad3 {x:A}:QH P .eql t x=match P.underlying t with | some (.slice _)=>(kG x).map fun b=>.v (.bool b) | _=>none:=by
 unfold QH;cases P.underlying t with
 |none=>rfl
 |some d=>cases d<;>rfl
@[simp] theorem Aet {f:Bool} {x:A} {xs:List A}:kG (.sl f (x::xs))=some false:=rfl
@[simp] theorem AkH {a:Option Addr} {n c:Nat}:kG (.v (.slice a n c))=some a.isNone:=rfl
@[simp] theorem AeT {len:Nat} {lo hi:Option A}:HG len lo hi none=match HF hi len len with | some h=>(match HF lo 0 h with | some l=>some (l,h,none) | none=>none) | none=>none:=rfl
@[simp] theorem Acu {d n:Nat}:HF none d n=some d:=rfl
@[simp] theorem Afh {k:IntKind} {i:Int} {d n:Nat}:HF (some (.v (.int k i))) d n=if 0≤i∧i≤n then some i.toNat else none:=rfl
@[simp] theorem AcN {f:Bool} {h n:Nat}:My none f h n=(f&&h == n):=rfl
@[simp] theorem AeH {n:Nat} {cs:List A}:A.shift n (.pim cs)=some (.pim (cs.drop n)):=rfl
@[simp] theorem Ae0 {n u p:Nat} {o:Nm}:A.shift n (.pob o u p)=some (.pob o u (p+n)):=rfl
@[simp] theorem Aem {n u p q:Nat} {o:Nm}:A.shift n (.pel o u p q)=some (.pel o u p (q+n)):=rfl
@[simp] theorem zy {a:A} {i:Nat}:H7 P t a i=(Al P t i).bind a.shift:=rfl
@[simp] theorem AbE {xs:List A} {i:Nat}:Og (.tup xs) i=xs[i]?:=rfl
@[simp] theorem AbO {c:A} {cs news:List A} {n:Nat}:splice (c::cs) (n+1) news=c::splice cs n news:=by simp[splice,Nat.add_right_comm]
@[simp] theorem Aa8 {cs news:List A}:splice cs 0 news=news++cs.drop news.length:=by simp[splice]
end
section
variable {P:Program} {s:Nat→A} {H:Hp}
@[simp] theorem Agd {d:Nat} {x:A} {H':Hp}:Sta.put ⟨s,H⟩ (some d) x H'=⟨upd s d x,H'⟩:=rfl
@[simp] theorem Afs {x:A} {H':Hp}:Sta.put ⟨s,H⟩ none x H'=⟨s,H'⟩:=rfl
@[simp] theorem AkL {d t:Nat} {x:A}:upd s d x t=if t=d then x else s t:=rfl
@[simp] theorem AkK {t:Nat}:lk [] t = .any:=rfl
@[simp] theorem Aje {d t:Nat} {x:A} {l:List (Nat × A)}:lk ((d,x)::l) t=if d=t then x else lk l t:=rfl
@[simp] theorem Ai1 {args:List A} {t:Nat}:QG args t=(args[t]?).getD .any:=rfl
@[simp] theorem AiH {t:Nat}:evs s (.tmp t)=s t:=rfl
@[simp] theorem Aeb {x:Value}:evs s (.const x)=GH x:=rfl
@[simp] theorem Ahj {g:FuncId}:evs s (.func g) = .fnc g [] []:=rfl
@[simp] theorem AjB {live:List Nat}:Sta.keep ⟨s,H⟩ live=⟨lk (live.map fun k=>(k,s k)),H⟩:=rfl
@[simp] theorem AjW {q:IntKind} {n:Int}:GH (.int q n) = .v (.int q n):=rfl
@[simp] theorem Agt {b:Bool}:GH (.bool b) = .v (.bool b):=rfl
@[simp] theorem AcJ {b:ByteArray}:GH (.string b) = .v (.string b):=rfl
@[simp] theorem AbP {b:Option Addr}:GH (.pointer b) = .v (.pointer b):=rfl
@[simp] theorem Ajc:GH (.slice none 0 0) = .sl true []:=rfl
@[simp] theorem Ai4 {cs:Array Value}:GH (.agg cs) = .agg (cs.toList.map eE):=rfl
@[simp] theorem AhK {q:IntKind} {n:Int}:eE (.int q n) = .v (.int q n):=rfl
@[simp] theorem Aez {b:Bool}:eE (.bool b) = .v (.bool b):=rfl
@[simp] theorem AaQ {b:Option Addr}:eE (.pointer b) = .v (.pointer b):=rfl
@[simp] theorem Agr:eE (.slice none 0 0) = .sl true []:=rfl
@[simp] theorem Ad4 {cs:List A}:(A.agg cs).cells=cs:=rfl
@[simp] theorem Ajj {x:Value}:(A.v x).cells=[.v x]:=rfl
@[simp] theorem Ag2 {b:Bool} {xs:List A}:(A.sl b xs).cells=[.sl b xs]:=rfl
@[simp] theorem Aes {o:Nm} {u z p q:Nat}:(A.osl o u z p q).cells=[.osl o u z p q]:=rfl
@[simp] theorem Ael {cs:List A}:(A.pim cs).cells=[.pim cs]:=rfl
@[simp] theorem Ahe:A.ones []=true:=rfl
@[simp] theorem Aea {a:A} {l:List A}:A.ones (a::l)=(a.one&&A.ones l):=by simp[A.ones]
@[simp] theorem AiY {q:IntKind} {n:Int}:(A.v (.int q n)).one=true:=rfl
@[simp] theorem AfB {b:Bool}:(A.v (.bool b)).one=true:=rfl
@[simp] theorem Aby {b:Option Addr}:(A.v (.pointer b)).one=true:=rfl
@[simp] theorem AkE {b:Bool} {xs:List A}:(A.sl b xs).one=true:=rfl
@[simp] theorem Aiv {o:Nm} {u z p q:Nat}:(A.osl o u z p q).one=true:=rfl
@[simp] theorem AjO {cs:List A}:(A.pim cs).one=true:=rfl
@[simp] theorem Afm {cs:List A}:(A.pim cs).isPtr=true:=rfl
@[simp] theorem Ad7 {o:Nm} {u p:Nat}:(A.pob o u p).isPtr=true:=rfl
@[simp] theorem AjK {x:Value}:(A.v x).isPtr=false:=rfl
@[simp] theorem Ajg {x:Value}:(A.v x).bare1=true:=rfl
@[simp] theorem AfL {b:Bool} {xs:List A}:(A.sl b xs).bare1=true:=rfl
@[simp] theorem AkP {x:Value}:(A.v x).bare=true:=rfl
@[simp] theorem AjF {b:Bool} {xs:List A}:(A.sl b xs).bare=true:=rfl
@[simp] theorem Agc {cs:List A}:(A.pim cs).bare=true:=rfl
@[simp] theorem Ag4 {cs:List A}:(A.agg cs).bare=cs.all A.bare2:=rfl
@[simp] theorem Ajw {x:Value}:(A.v x).bare2=true:=rfl
@[simp] theorem AhD {b:Bool} {xs:List A}:(A.sl b xs).bare2=true:=rfl
@[simp] theorem AeU {cs:List A}:(A.pim cs).bare2=true:=rfl
@[simp] theorem AgN {n:Nat}:Ge n []=true:=rfl
@[simp] theorem Aeg {n:Nat} {x:A} {l:List A}:Ge n (x::l)=(x.cells.length == n&&Ge n l):=rfl
@[simp] theorem Ae5 {pl:Nat→Option (Nat × Nat)} {cs:List A}:Dy pl cs []=some cs:=rfl
@[simp] theorem Acr {pl:Nat→Option (Nat × Nat)} {cs:List A} {i:Nat} {x:A} {ps:List (Nat × A)}:Dy pl cs ((i,x)::ps)=match pl i with
  |none=>none
  |some (off,size)=>if x.cells.length=size∧off+size≤cs.length∧A.ones x.cells=true then Dy pl (splice cs off x.cells) ps else none:=rfl
def FA:List (Nm × VOb)→Hp
 |[],_=>⟨0,.none⟩
 |(k,x)::l,o=>if k=o then x else FA l o
def xH:List (Nm × VOb)→Nm→VOb→List (Nm × VOb)
 |[],d,x=>[(d,x)]
 |(k,y)::l,d,x=>if k=d then (k,x)::l else (k,y)::xH l d x
@[simp] theorem Ak7:H0=FA []:=rfl
@[simp] theorem AaL {o:Nm}:FA [] o=⟨0,.none⟩:=rfl
@[simp] theorem Se {k o:Nm} {x:VOb} {l:List (Nm × VOb)}:FA ((k,x)::l) o=if k=o then x else FA l o:=rfl
@[simp] theorem tD {d:Nm} {x:VOb}:xH [] d x=[(d,x)]:=rfl
@[simp] theorem ri {k d:Nm} {x y:VOb} {l:List (Nm × VOb)}:xH ((k,y)::l) d x=if k=d then (k,x)::l else (k,y)::xH l d x:=rfl
@[simp] theorem Af4 {l:List (Nm × VOb)} {d:Nm} {x:VOb}:Bh (FA l) d x=FA (xH l d x):=by
 funext o;induction l with
 |nil=>
  simp only[Bh,tD,Se,AaL];by_cases h:o=d
  ·subst h;simp
  ·simp[h,Ne.symm h]
 |cons p l ih=>
  obtain⟨k,y⟩:=p;simp only[ri];by_cases hk:k=d
  ·subst hk;simp only[if_pos,Se,Bh];by_cases h:o=k
   ·subst h;simp
   ·simp[h,Ne.symm h]
  ·rw[if_neg hk,Se,← ih];simp only[Bh,Se];by_cases h:o=d
   ·subst h;simp[hk]
   ·simp[h]
@[simp] theorem Ahm {o:Nm} {u p:Nat}:refs (.pob o u p)=[(o,false)]:=rfl
@[simp] theorem Aih {o:Nm} {u p q:Nat}:refs (.pel o u p q)=[(o,false)]:=rfl
@[simp] theorem AgQ {o:Nm} {u z p q:Nat}:refs (.osl o u z p q)=[(o,false)]:=rfl
@[simp] theorem Akh {x:Value}:refs (.v x)=[]:=rfl
@[simp] theorem Aj2 {f:Bool} {xs:List A}:refs (.sl f xs)=[]:=rfl
@[simp] theorem Af2 {xs:List A}:refs (.pim xs)=[]:=rfl
@[simp] theorem Air {d o:Nm} {u z p q:Nat}:zT d (.osl o u z p q)=[(o,false)]:=rfl
@[simp] theorem AkO {d:Nm} {f:Bool} {xs:List A}:zT d (.sl f xs)=[(d,false)]:=rfl
@[simp] theorem Ak9 {R W R' W':Fp}:nc ⟨R,W⟩ ⟨R',W'⟩=(jK W (R'++W')&&jK W' (R++W)):=rfl
@[simp] theorem AiM {l:Fp}:jK [] l=true:=rfl
@[simp] theorem AfY {p:Nm × Bool} {l m:Fp}:jK (p::l) m=((m.all fun q=>yb p q)&&jK l m):=rfl
@[simp] theorem AjR {p q:Nm} {a b:Bool}:yb (p,a) (q,b)=match a,b with
 |false,false=>p != q
 |true,false=>!p.isPrefixOf q
 |false,true=>!q.isPrefixOf p
 |true,true=>!p.isPrefixOf q&&!q.isPrefixOf p:=rfl
end
section
variable {P:Program} {K:Sta→Prop} {rest:List CO} {s:Nat→A} {H:Hp} {dd:Option Nat} {k:Nat} {f:Bool} {nm:Nm} {ix:Nat} {un:List Nat} {l:Bool} {lg:Lg}
@[simp] theorem AjE {st:Sta}:AH P K [] lg st=K st:=rfl
@[simp] theorem Ac5 {i:Nat} {g:Ft}:B0 false i g lg=lg:=rfl
@[simp] theorem AeM {i:Nat} {g:Ft}:B0 true i g lg=(i,g)::lg:=rfl
@[simp] theorem AjG {g:Ft}:Ck un [] g=True:=by simp[Ck]
@[simp] theorem Aj4 {i:Nat} {g h:Ft}:Ck un ((i,g)::lg) h=((i ∈ un→nc g h=true)∧Ck un lg h):=by simp[Ck]
theorem O1:Ck un lg ⟨[],[]⟩:=fun p _ _=>by simp[nc,JQ,Ls]
def fg (q:Bool) (g:Ft):Ft:=⟨bif q then g.R else [],bif q then g.W else []⟩
@[simp] theorem Ajp {g:Ft}:fg true g=g:=rfl
@[simp] theorem Aif {g:Ft}:fg false g=⟨[],[]⟩:=rfl
theorem D4 {op:Op} {F:Option A} (hF:∀ x E R W,bE P nm op (evs s) H x E R W ↔ Zd F x E R W) :
  AH P K (⟨dd,op,none,nm,ix,un,l⟩::rest) lg ⟨s,H⟩=Gt F fun x=>AH P K rest (B0 l ix ⟨[],[]⟩ lg) (Sta.put ⟨s,H⟩ dd x H):=by
 apply propext;constructor
 ·rintro⟨x,E,⟨R,W⟩,h1,h2,h3⟩;obtain⟨h4,rfl,h5,h6⟩:=(hF x E R W).1 h1;subst h5 h6;exact⟨x,h4,h3⟩
 ·rintro⟨x,h1,h2⟩;exact⟨x,.nil,⟨[],[]⟩,(hF _ _ _ _).2 ⟨h1,rfl,rfl,rfl⟩,O1,h2⟩
theorem FR {op:Op} {F:Option A} (hF:∀ x E R W,bE P nm op (evs s) H x E R W ↔ Zd F x E R W) :
  AH P K (⟨dd,op,some (k,f),nm,ix,un,l⟩::rest) lg ⟨s,H⟩=Gt (Fs (s k) f) fun q=>LQ q F fun x=>AH P K rest (B0 l ix ⟨[],[]⟩ lg) (Sta.put ⟨s,H⟩ dd x H):=by
 apply propext;constructor
 ·rintro⟨x,E,⟨R,W⟩,⟨q,x0,h1,h2,rfl,h4⟩,h5,h6⟩;refine⟨q,h1,x0,fun hq=>((hF _ _ _ _).1 (h2 hq)).1,?_⟩;have:E = .nil∧R=[]∧W=[]:=by
   cases hq:q with
   |true=>exact((hF _ _ _ _).1 (h2 hq)).2
   |false=>exact h4 hq
  obtain⟨rfl,h7,h8⟩:=this;subst h7 h8;exact h6
 ·rintro⟨q,h1,x0,h2,h3⟩;exact⟨_,.nil,⟨[],[]⟩,⟨q,x0,h1,fun hq=>(hF _ _ _ _).2 ⟨h2 hq,rfl,rfl,rfl⟩,rfl,fun _=>⟨rfl,rfl,rfl⟩⟩,O1,h3⟩
theorem XI {op:Op} {F:Option (A × Eff)} {R W:Fp} (hF:∀ x E R' W',bE P nm op (evs s) H x E R' W' ↔ F=some (x,E)∧R'=R∧W'=W) :
  AH P K (⟨dd,op,none,nm,ix,un,l⟩::rest) lg ⟨s,H⟩=Gt F fun p=>Ck un lg ⟨R,W⟩∧AH P K rest (B0 l ix ⟨R,W⟩ lg) (Sta.put ⟨s,H⟩ dd p.1 (p.2.app H)):=by
 apply propext;constructor
 ·rintro⟨x,E,⟨R',W'⟩,h1,h2,h3⟩;obtain⟨h4,h5,h6⟩:=(hF x E R' W').1 h1;subst h5 h6;exact⟨(x,E),h4,h2,h3⟩
 ·rintro⟨⟨x,E⟩,h1,h2,h3⟩;exact⟨x,E,⟨R,W⟩,(hF _ _ _ _).2 ⟨h1,rfl,rfl⟩,h2,h3⟩
theorem AB {op:Op}:AH P K (⟨dd,op,some (k,f),nm,ix,un,l⟩::rest) lg ⟨s,H⟩=Gt (Fs (s k) f) fun q=>nJ q (AH P K (⟨dd,op,none,nm,ix,un,l⟩::rest) lg ⟨s,H⟩) (AH P K rest (B0 l ix ⟨[],[]⟩ lg) (Sta.put ⟨s,H⟩ dd (.v undef) H)):=by
 apply propext;constructor
 ·rintro⟨x,E,⟨R,W⟩,⟨q,x0,h1,h2,rfl,h4⟩,h5,h6⟩;refine⟨q,h1,fun hq=>⟨x0,E,⟨R,W⟩,h2 hq,h5,?_⟩,fun hq=>?_⟩
  ·subst hq;exact h6
  ·subst hq;obtain⟨rfl,h7,h8⟩:=h4 rfl;subst h7 h8;exact h6
 ·rintro⟨q,h1,h2,h3⟩;cases q with
  |true=>
   obtain⟨x,E,g,h4,h5,h6⟩:=h2 rfl;exact⟨x,E,g,⟨true,x,h1,fun _=>h4,rfl,(fun h=>nomatch h)⟩,h5,h6⟩
  |false=>exact⟨_,.nil,⟨[],[]⟩,⟨false,.any,h1,(fun h=>nomatch h),rfl,fun _=>⟨rfl,rfl,rfl⟩⟩,O1,h3 rfl⟩
section
variable {a b:Operand} {t:TypeId}
@[simp] theorem Aix:AH P K (⟨dd,.move a,none,nm,ix,un,l⟩::rest) lg ⟨s,H⟩=AH P K rest (B0 l ix ⟨[],[]⟩ lg) (Sta.put ⟨s,H⟩ dd (evs s a) H):=by
 rw[D4 (F:=some (evs s a)) (fun _ _ _ _=>Iff.rfl)];simp
@[simp] theorem AeZ:AH P K (⟨dd,.assign a,none,nm,ix,un,l⟩::rest) lg ⟨s,H⟩=AH P K rest (B0 l ix ⟨[],[]⟩ lg) (Sta.put ⟨s,H⟩ dd (evs s a) H):=by
 rw[D4 (F:=some (evs s a)) (fun _ _ _ _=>Iff.rfl)];simp
@[simp] theorem AeY:AH P K (⟨dd,.move a,some (k,f),nm,ix,un,l⟩::rest) lg ⟨s,H⟩=Gt (Fs (s k) f) fun q=>AH P K rest (B0 l ix ⟨[],[]⟩ lg) (Sta.put ⟨s,H⟩ dd (gd q (evs s a)) H):=by
 rw[FR (F:=some (evs s a)) (fun _ _ _ _=>Iff.rfl)];simp
@[simp] theorem Aka {op:BinOp} {u:TypeId}:AH P K (⟨dd,.binOp op t a b u,none,nm,ix,un,l⟩::rest) lg ⟨s,H⟩=Gt (if MN b=true then QH P op t (evs s a) else TJ P op t (evs s a) (evs s b)) fun x=>AH P K rest (B0 l ix ⟨[],[]⟩ lg) (Sta.put ⟨s,H⟩ dd x H):=D4 fun _ _ _ _=>Iff.rfl
@[simp] theorem AfC {op:BinOp} {u:TypeId}:AH P K (⟨dd,.binOp op t a b u,some (k,f),nm,ix,un,l⟩::rest) lg ⟨s,H⟩=Gt (Fs (s k) f) fun q=>LQ q (if MN b=true then QH P op t (evs s a) else TJ P op t (evs s a) (evs s b)) fun x=>AH P K rest (B0 l ix ⟨[],[]⟩ lg) (Sta.put ⟨s,H⟩ dd x H):=FR fun _ _ _ _=>Iff.rfl
@[simp] theorem Alb {op:UnOp}:AH P K (⟨dd,.unOp op t a,none,nm,ix,un,l⟩::rest) lg ⟨s,H⟩=Gt (unA op (evs s a)) fun x=>AH P K rest (B0 l ix ⟨[],[]⟩ lg) (Sta.put ⟨s,H⟩ dd x H):=D4 fun _ _ _ _=>Iff.rfl
@[simp] theorem AjY {op:UnOp}:AH P K (⟨dd,.unOp op t a,some (k,f),nm,ix,un,l⟩::rest) lg ⟨s,H⟩=Gt (Fs (s k) f) fun q=>LQ q (unA op (evs s a)) fun x=>AH P K rest (B0 l ix ⟨[],[]⟩ lg) (Sta.put ⟨s,H⟩ dd x H):=FR fun _ _ _ _=>Iff.rfl
@[simp] theorem Ajr {u:TypeId}:AH P K (⟨dd,.convert t u a,none,nm,ix,un,l⟩::rest) lg ⟨s,H⟩=Gt (UX P t u (evs s a)) fun x=>AH P K rest (B0 l ix ⟨[],[]⟩ lg) (Sta.put ⟨s,H⟩ dd x H):=D4 fun _ _ _ _=>Iff.rfl
@[simp] theorem zB {i:Nat}:AH P K (⟨dd,.fieldAddr t a i,none,nm,ix,un,l⟩::rest) lg ⟨s,H⟩=Gt (H7 P t (evs s a) i) fun x=>AH P K rest (B0 l ix ⟨[],[]⟩ lg) (Sta.put ⟨s,H⟩ dd x H):=D4 fun _ _ _ _=>Iff.rfl
@[simp] theorem wV {i:Nat}:AH P K (⟨dd,.fieldAddr t a i,some (k,f),nm,ix,un,l⟩::rest) lg ⟨s,H⟩=Gt (Fs (s k) f) fun q=>LQ q (H7 P t (evs s a) i) fun x=>AH P K rest (B0 l ix ⟨[],[]⟩ lg) (Sta.put ⟨s,H⟩ dd x H):=FR fun _ _ _ _=>Iff.rfl
@[simp] theorem Ahu {i:Nat}:AH P K (⟨dd,.field t a i,none,nm,ix,un,l⟩::rest) lg ⟨s,H⟩=Gt (Ua P t (evs s a) i) fun x=>AH P K rest (B0 l ix ⟨[],[]⟩ lg) (Sta.put ⟨s,H⟩ dd x H):=D4 fun _ _ _ _=>Iff.rfl
@[simp] theorem zu  : AH P K (⟨dd,.indexAddr t a b,none,nm,ix,un,l⟩::rest) lg ⟨s,H⟩=Gt (Cg P t (evs s a) (evs s b)) fun x=>AH P K rest (B0 l ix ⟨[],[]⟩ lg) (Sta.put ⟨s,H⟩ dd x H):=D4 fun _ _ _ _=>Iff.rfl
@[simp] theorem xB  : AH P K (⟨dd,.indexAddr t a b,some (k,f),nm,ix,un,l⟩::rest) lg ⟨s,H⟩=Gt (Fs (s k) f) fun q=>LQ q (Cg P t (evs s a) (evs s b)) fun x=>AH P K rest (B0 l ix ⟨[],[]⟩ lg) (Sta.put ⟨s,H⟩ dd x H):=FR fun _ _ _ _=>Iff.rfl
@[simp] theorem AhQ  : AH P K (⟨dd,.index t a b,none,nm,ix,un,l⟩::rest) lg ⟨s,H⟩=Gt (OD P t (evs s a) (evs s b)) fun x=>AH P K rest (B0 l ix ⟨[],[]⟩ lg) (Sta.put ⟨s,H⟩ dd x H):=D4 fun _ _ _ _=>Iff.rfl
@[simp] theorem Ac1 {i:Nat}:AH P K (⟨dd,.extract a i,none,nm,ix,un,l⟩::rest) lg ⟨s,H⟩=Gt (Og (evs s a) i) fun x=>AH P K rest (B0 l ix ⟨[],[]⟩ lg) (Sta.put ⟨s,H⟩ dd x H):=D4 fun _ _ _ _=>Iff.rfl
@[simp] theorem Aii {ps:Array (Nat × Operand)}:AH P K (⟨dd,.build t ps,none,nm,ix,un,l⟩::rest) lg ⟨s,H⟩=Gt (CS P t (ps.toList.map fun p=>(p.1,evs s p.2))) fun x=>AH P K rest (B0 l ix ⟨[],[]⟩ lg) (Sta.put ⟨s,H⟩ dd x H):=D4 fun _ _ _ _=>Iff.rfl
@[simp] theorem Ace {ps:Array (Nat × Operand)}:AH P K (⟨dd,.build t ps,some (k,f),nm,ix,un,l⟩::rest) lg ⟨s,H⟩=Gt (Fs (s k) f) fun q=>GB P q t [] (ps.toList.map fun p=>(p.1,evs s p.2)) fun x=>AH P K rest (B0 l ix ⟨[],[]⟩ lg) (Sta.put ⟨s,H⟩ dd x H):=FR fun _ _ _ _=>Iff.rfl
@[simp] theorem yB {n:Nat} {ps:Array (Nat × Operand)}:AH P K (⟨dd,.buildSlice t n ps,none,[],ix,un,l⟩::rest) lg ⟨s,H⟩=Gt (FJ P t n (ps.toList.map fun p=>(p.1,evs s p.2))) fun x=>AH P K rest (B0 l ix ⟨[],[]⟩ lg) (Sta.put ⟨s,H⟩ dd x H):=D4 fun _ _ _ _=>Iff.rfl
@[simp] theorem tv {n:Nat} {ps:Array (Nat × Operand)}:AH P K (⟨dd,.buildSlice t n ps,some (k,f),[],ix,un,l⟩::rest) lg ⟨s,H⟩=Gt (Fs (s k) f) fun q=>LQ q (FJ P t n (ps.toList.map fun p=>(p.1,evs s p.2))) fun x=>AH P K rest (B0 l ix ⟨[],[]⟩ lg) (Sta.put ⟨s,H⟩ dd x H):=FR fun _ _ _ _=>Iff.rfl
@[simp] theorem AhJ {lo hi mx:Option Operand}:AH P K (⟨dd,.slice t a lo hi mx,none,nm,ix,un,l⟩::rest) lg ⟨s,H⟩=Gt (OE P t (evs s a) (lo.map (evs s)) (hi.map (evs s)) (mx.map (evs s))) fun x=>AH P K rest (B0 l ix ⟨[],[]⟩ lg) (Sta.put ⟨s,H⟩ dd x H):=D4 fun _ _ _ _=>Iff.rfl
@[simp] theorem Abh  : AH P K (⟨dd,.nilCheck a,none,nm,ix,un,l⟩::rest) lg ⟨s,H⟩=Gt (vf (evs s a)) fun x=>AH P K rest (B0 l ix ⟨[],[]⟩ lg) (Sta.put ⟨s,H⟩ dd x H):=D4 fun _ _ _ _=>Iff.rfl
@[simp] theorem yz  : AH P K (⟨dd,.nilCheck a,some (k,f),nm,ix,un,l⟩::rest) lg ⟨s,H⟩=Gt (Fs (s k) f) fun q=>LQ q (vf (evs s a)) fun x=>AH P K rest (B0 l ix ⟨[],[]⟩ lg) (Sta.put ⟨s,H⟩ dd x H):=FR fun _ _ _ _=>Iff.rfl
@[simp] theorem AjD {c:Operand}:AH P K (⟨dd,.pick c a b,none,nm,ix,un,l⟩::rest) lg ⟨s,H⟩=Gt (jx (evs s c) (evs s a) (evs s b)) fun x=>AH P K rest (B0 l ix ⟨[],[]⟩ lg) (Sta.put ⟨s,H⟩ dd x H):=D4 fun _ _ _ _=>Iff.rfl
@[simp] theorem Aey {c:Operand}:AH P K (⟨dd,.pick c a b,some (k,f),nm,ix,un,l⟩::rest) lg ⟨s,H⟩=Gt (Fs (s k) f) fun q=>LQ q (jx (evs s c) (evs s a) (evs s b)) fun x=>AH P K rest (B0 l ix ⟨[],[]⟩ lg) (Sta.put ⟨s,H⟩ dd x H):=FR fun _ _ _ _=>Iff.rfl
@[simp] theorem AbJ {g:FuncId} {fs cs:Array Operand}:AH P K (⟨dd,.makeFunc (.func g) fs cs,none,nm,ix,un,l⟩::rest) lg ⟨s,H⟩=Gt (some (A.fnc g (fs.toList.map (evs s)) (cs.toList.map (evs s)))) fun x=>AH P K rest (B0 l ix ⟨[],[]⟩ lg) (Sta.put ⟨s,H⟩ dd x H):=D4 fun _ _ _ _=>Iff.rfl
@[simp] theorem yv {g:FuncId} {fs cs:Array Operand}:AH P K (⟨dd,.makeFunc (.func g) fs cs,some (k,f),nm,ix,un,l⟩::rest) lg ⟨s,H⟩=Gt (Fs (s k) f) fun q=>LQ q (some (A.fnc g (fs.toList.map (evs s)) (cs.toList.map (evs s)))) fun x=>AH P K rest (B0 l ix ⟨[],[]⟩ lg) (Sta.put ⟨s,H⟩ dd x H):=FR fun _ _ _ _=>Iff.rfl
@[simp] theorem rF  : AH P K (⟨dd,.makeInterface t a,none,nm,ix,un,l⟩::rest) lg ⟨s,H⟩=Gt (lh P t (evs s a)) fun x=>AH P K rest (B0 l ix ⟨[],[]⟩ lg) (Sta.put ⟨s,H⟩ dd x H):=D4 fun _ _ _ _=>Iff.rfl
@[simp] theorem yD {u:TypeId} {ok:Bool}:AH P K (⟨dd,.typeAssert a t u ok,none,nm,ix,un,l⟩::rest) lg ⟨s,H⟩=Gt (OY P u ok (evs s a)) fun x=>AH P K rest (B0 l ix ⟨[],[]⟩ lg) (Sta.put ⟨s,H⟩ dd x H):=D4 fun _ _ _ _=>Iff.rfl
@[simp] theorem Akv {as':Array Operand} {ts:Array TypeId}:AH P K (⟨dd,.call { callee:=.builtin .min,args:=as',argTypes:=ts },none,nm,ix,un,l⟩::rest) lg ⟨s,H⟩=Gt (GQ false (as'.toList.map (evs s))) fun x=>AH P K rest (B0 l ix ⟨[],[]⟩ lg) (Sta.put ⟨s,H⟩ dd x H):=D4 fun _ _ _ _=>Iff.rfl
@[simp] theorem AkG {as':Array Operand} {ts:Array TypeId}:AH P K (⟨dd,.call { callee:=.builtin .max,args:=as',argTypes:=ts },none,nm,ix,un,l⟩::rest) lg ⟨s,H⟩=Gt (GQ true (as'.toList.map (evs s))) fun x=>AH P K rest (B0 l ix ⟨[],[]⟩ lg) (Sta.put ⟨s,H⟩ dd x H):=D4 fun _ _ _ _=>Iff.rfl
@[simp] theorem AkZ:AH P K (⟨dd,.call { callee:=.builtin .len,args:=#[a],argTypes:=#[t] },none,nm,ix,un,l⟩::rest) lg ⟨s,H⟩=Gt (W2 P t (evs s a)) fun x=>AH P K rest (B0 l ix ⟨[],[]⟩ lg) (Sta.put ⟨s,H⟩ dd x H):=D4 fun x E R W=>by
  constructor
  ·rintro⟨a',t',h1,h2,h3⟩;cases h1;cases h2;exact h3
  ·intro h;exact⟨a,t,rfl,rfl,h⟩
@[simp] theorem AfR:AH P K (⟨dd,.call { callee:=.builtin .len,args:=#[a],argTypes:=#[t] },some (k,f),nm,ix,un,l⟩::rest) lg ⟨s,H⟩=Gt (Fs (s k) f) fun q=>LQ q (W2 P t (evs s a)) fun x=>AH P K rest (B0 l ix ⟨[],[]⟩ lg) (Sta.put ⟨s,H⟩ dd x H):=FR fun x E R W=>by
  constructor
  ·rintro⟨a',t',h1,h2,h3⟩;cases h1;cases h2;exact h3
  ·intro h;exact⟨a,t,rfl,rfl,h⟩
@[simp] theorem AiZ:AH P K (⟨dd,.load t a,none,nm,ix,un,l⟩::rest) lg ⟨s,H⟩=Gt (Gm P H t (evs s a)) fun x=>Ck un lg ⟨refs (evs s a),[]⟩∧AH P K rest (B0 l ix ⟨refs (evs s a),[]⟩ lg) (Sta.put ⟨s,H⟩ dd x H):=by
 apply propext;constructor
 ·rintro⟨x,E,⟨R,W⟩,⟨h1,rfl,h2,h3⟩,h4,h5⟩;simp only at h2 h3;subst h2 h3;exact⟨x,h1,h4,h5⟩
 ·rintro⟨x,h1,h4,h5⟩;exact⟨x,.nil,⟨_,_⟩,⟨h1,rfl,rfl,rfl⟩,h4,h5⟩
@[simp] theorem AeI:AH P K (⟨dd,.load t a,some (k,f),nm,ix,un,l⟩::rest) lg ⟨s,H⟩=Gt (Fs (s k) f) fun q=>LQ q (Gm P H t (evs s a)) fun x=>Ck un lg (fg q ⟨refs (evs s a),[]⟩)∧AH P K rest (B0 l ix (fg q ⟨refs (evs s a),[]⟩) lg) (Sta.put ⟨s,H⟩ dd x H):=by
 apply propext;constructor
 ·rintro⟨x,E,⟨R,W⟩,⟨q,x0,h1,h2,rfl,h4⟩,h5,h6⟩;refine⟨q,h1,x0,fun hq=>(h2 hq).1,?_⟩;have:E = .nil∧(⟨R,W⟩:Ft)=fg q ⟨refs (evs s a),[]⟩:=by
   cases hq:q with
   |true=>
    obtain⟨_,e1,e2,e3⟩:=h2 hq;simp only at e2 e3;exact⟨e1,by rw[e2,e3];rfl⟩
   |false=>
    obtain⟨e1,e2,e3⟩:=h4 hq;simp only at e2 e3;exact⟨e1,by rw[e2,e3];rfl⟩
  obtain⟨rfl,e⟩:=this;rw[e] at h5 h6;exact⟨h5,h6⟩
 ·rintro⟨q,h1,x0,h2,h5,h6⟩;refine⟨_,.nil,fg q ⟨refs (evs s a),[]⟩,⟨q,x0,h1,fun hq=>⟨h2 hq,rfl,?_,?_⟩,rfl,fun hq=>⟨rfl,?_,?_⟩⟩,h5,h6⟩<;>subst hq<;>rfl
@[simp] theorem Aij:AH P K (⟨dd,.alloc t,none,nm,ix,un,l⟩::rest) lg ⟨s,H⟩=Gt (Q8 P H nm t) fun p=>Ck un lg ⟨[],[(nm,false)]⟩∧AH P K rest (B0 l ix ⟨[],[(nm,false)]⟩ lg) (Sta.put ⟨s,H⟩ dd p.1 (p.2.app H)):=XI fun _ _ _ _=>Iff.rfl
@[simp] theorem AkC:AH P K (⟨dd,.box t a,none,nm,ix,un,l⟩::rest) lg ⟨s,H⟩=Gt (ml H nm t (evs s a)) fun p=>Ck un lg ⟨[],[(nm,false)]⟩∧AH P K rest (B0 l ix ⟨[],[(nm,false)]⟩ lg) (Sta.put ⟨s,H⟩ dd p.1 (p.2.app H)):=XI fun _ _ _ _=>Iff.rfl
@[simp] theorem AaX:AH P K (⟨dd,.makeSlice t a b,none,nm,ix,un,l⟩::rest) lg ⟨s,H⟩=Gt (FL P H nm t (evs s a) (evs s b)) fun p=>Ck un lg ⟨[],[(nm,false)]⟩∧AH P K rest (B0 l ix ⟨[],[(nm,false)]⟩ lg) (Sta.put ⟨s,H⟩ dd p.1 (p.2.app H)):=XI fun _ _ _ _=>Iff.rfl
@[simp] theorem AgF:AH P K (⟨dd,.store t a b,none,nm,ix,un,l⟩::rest) lg ⟨s,H⟩=Gt (HX P H t (evs s a) (evs s b)) fun E=>Ck un lg ⟨[],refs (evs s a)⟩∧AH P K rest (B0 l ix ⟨[],refs (evs s a)⟩ lg) (Sta.put ⟨s,H⟩ dd .any (E.app H)):=by
 apply propext;constructor
 ·rintro⟨x,E,⟨R,W⟩,⟨h1,rfl,h2,h3⟩,h4,h5⟩;simp only at h2 h3;subst h2 h3;exact⟨E,h1,h4,h5⟩
 ·rintro⟨E,h1,h4,h5⟩;exact⟨_,E,⟨_,_⟩,⟨h1,rfl,rfl,rfl⟩,h4,h5⟩
@[simp] theorem Aev {u:TypeId}:AH P K (⟨dd,.call { callee:=.builtin .append,args:=#[a,b],argTypes:=#[t,u] },none,nm,ix,un,l⟩::rest) lg ⟨s,H⟩=Gt (Gd P H nm t u (evs s a) (evs s b)) fun p=>Ck un lg ⟨refs (evs s b),zT nm (evs s a)⟩∧AH P K rest (B0 l ix ⟨refs (evs s b),zT nm (evs s a)⟩ lg) (Sta.put ⟨s,H⟩ dd p.1 (p.2.app H)):=
 XI fun x E R W=>by
  constructor
  ·rintro⟨a',b',t',u',h1,h2,h3,h4,h5⟩;cases h1;cases h2;exact⟨h3,h4,h5⟩
  ·rintro⟨h3,h4,h5⟩;exact⟨a,b,t,u,rfl,rfl,h3,h4,h5⟩
@[simp] theorem AiA {u:TypeId}:AH P K (⟨dd,.call { callee:=.builtin .copy,args:=#[a,b],argTypes:=#[t,u] },none,nm,ix,un,l⟩::rest) lg ⟨s,H⟩=Gt (N9 P H t (evs s a) (evs s b)) fun p=>Ck un lg ⟨refs (evs s b),refs (evs s a)⟩∧AH P K rest (B0 l ix ⟨refs (evs s b),refs (evs s a)⟩ lg) (Sta.put ⟨s,H⟩ dd p.1 (p.2.app H)):=
 XI fun x E R W=>by
  constructor
  ·rintro⟨a',b',t',u',h1,h2,h3,h4,h5⟩;cases h1;cases h2;exact⟨h3,h4,h5⟩
  ·rintro⟨h3,h4,h5⟩;exact⟨a,b,t,u,rfl,rfl,h3,h4,h5⟩
theorem Ae {g:FuncId} {as':Array Operand} {ts:Array TypeId} {x:A} (hs:Spec P g (as'.toList.map (evs s)) x) (hb:(as'.toList.map (evs s)).all A.bare=true) (h:AH P K rest (B0 l ix ⟨[],[]⟩ lg) (Sta.put ⟨s,H⟩ dd x H)) :
  AH P K (⟨dd,.call { callee:=.value (.func g),args:=as',argTypes:=ts },none,nm,ix,un,l⟩::rest) lg ⟨s,H⟩:=
 ⟨x,.nil,⟨[],[]⟩,⟨g,[],[],rfl,.inl ⟨by simpa using hb,by simpa using hs,rfl,rfl,rfl⟩⟩,O1,h⟩
theorem CT {g:FuncId} {as':Array Operand} {ts:Array TypeId} {L:List A} {x:A} (hL:as'.toList.map (evs s)=L) (hs:Spec P g L x) (hb:L.all A.bare=true) (h:AH P K rest (B0 l ix ⟨[],[]⟩ lg) (Sta.put ⟨s,H⟩ dd x H)) :
  AH P K (⟨dd,.call { callee:=.value (.func g),args:=as',argTypes:=ts },none,nm,ix,un,l⟩::rest) lg ⟨s,H⟩:=by subst hL;exact Ae hs hb h
theorem Om {o:Operand} {g:FuncId} {fs caps:List A} {as':Array Operand} {ts:Array TypeId} {x:A} (ho:evs s o = .fnc g fs caps) (hs:Spec P g (fs++(as'.toList.map (evs s)++caps)) x) (hb:(fs++(as'.toList.map (evs s)++caps)).all A.bare=true) (h:AH P K rest (B0 l ix ⟨[],[]⟩ lg) (Sta.put ⟨s,H⟩ dd x H)) :
  AH P K (⟨dd,.call { callee:=.value o,args:=as',argTypes:=ts },none,nm,ix,un,l⟩::rest) lg ⟨s,H⟩:=
 ⟨x,.nil,⟨[],[]⟩,⟨g,fs,caps,ho,.inl ⟨hb,hs,rfl,rfl,rfl⟩⟩,O1,h⟩
theorem kn {g:FuncId} {as':Array Operand} {ts:Array TypeId} {x:A} (as'':List A) (hs:SpecB P g as'' x) (hf:Ky H (as'.toList.map (evs s)) as'') (hc:Ck un lg ⟨[([],true)],[]⟩) (h:AH P K rest (B0 l ix ⟨[([],true)],[]⟩ lg) (Sta.put ⟨s,H⟩ dd x H)) :
  AH P K (⟨dd,.call { callee:=.value (.func g),args:=as',argTypes:=ts },none,nm,ix,un,l⟩::rest) lg ⟨s,H⟩:=
 ⟨x,.nil,⟨_,_⟩,⟨g,[],[],rfl,.inr (.inl ⟨⟨as'',by simpa using hf,hs⟩,rfl,rfl,rfl⟩)⟩,hc,h⟩
theorem yo {g:FuncId} {as':Array Operand} {ts:Array TypeId} {x:A} (E:Eff) (R W:Fp) (hs:∀ H2,Agree (R++W) H H2→cP P H2 g (as'.toList.map (evs s)) x E) (hw:Uj E W) (hc:Ck un lg ⟨R,W⟩) (h:AH P K rest (B0 l ix ⟨R,W⟩ lg) (Sta.put ⟨s,H⟩ dd x (E.app H))) :
  AH P K (⟨dd,.call { callee:=.value (.func g),args:=as',argTypes:=ts },none,nm,ix,un,l⟩::rest) lg ⟨s,H⟩:=
 ⟨x,E,⟨R,W⟩,⟨g,[],[],rfl,.inr (.inr ⟨by simpa using hs,hw⟩)⟩,hc,h⟩
theorem Tw {g:FuncId} {as':Array Operand} {ts:Array TypeId} {x:A} {q:Bool} (hq:Fs (s k) f=some q) (hs:q=true→Spec P g (as'.toList.map (evs s)) x∧(as'.toList.map (evs s)).all A.bare=true)
  (h:AH P K rest (B0 l ix ⟨[],[]⟩ lg) (Sta.put ⟨s,H⟩ dd (gd q x) H)) :
  AH P K (⟨dd,.call { callee:=.value (.func g),args:=as',argTypes:=ts },some (k,f),nm,ix,un,l⟩::rest) lg ⟨s,H⟩:=
 ⟨_,.nil,⟨[],[]⟩,⟨q,x,hq,fun e=>⟨g,[],[],rfl,.inl ⟨by simpa using (hs e).2,by simpa using (hs e).1,rfl,rfl,rfl⟩⟩,rfl,fun _=>⟨rfl,rfl,rfl⟩⟩,O1,h⟩
end
end
section
variable {P:Program} {K:Sta→Prop} {rest:List CO} {s:Nat→A} {H:Hp} {dd:Option Nat} {k:Nat} {g:FuncId} {as':Array Operand} {ts:Array TypeId} {x:A} {q:Bool} {L:List A} {nm:Nm} {ix:Nat} {un:List Nat} {l:Bool} {lg:Lg}
theorem Bc (hq:s k = .v (.bool q)) (hs:q=true→Spec P g L x) (hL:q=true→as'.toList.map (evs s)=L) (hb:L.all A.bare=true)
  (h:AH P K rest (B0 l ix ⟨[],[]⟩ lg) (Sta.put ⟨s,H⟩ dd (gd q x) H)) :
  AH P K (⟨dd,.call { callee:=.value (.func g),args:=as',argTypes:=ts },some (k,true),nm,ix,un,l⟩::rest) lg ⟨s,H⟩:=
 Tw (q:=q) (by rw[hq];cases q<;>rfl) (fun e=>by rw[hL e];exact⟨hs e,hb⟩) h
theorem Cf (hq:s k = .v (.bool q)) (hs:q=false→Spec P g L x) (hL:q=false→as'.toList.map (evs s)=L) (hb:L.all A.bare=true)
  (h:AH P K rest (B0 l ix ⟨[],[]⟩ lg) (Sta.put ⟨s,H⟩ dd (gd (ng q) x) H)) :
  AH P K (⟨dd,.call { callee:=.value (.func g),args:=as',argTypes:=ts },some (k,false),nm,ix,un,l⟩::rest) lg ⟨s,H⟩:=
 Tw (q:=ng q) (by rw[hq];cases q<;>rfl) (fun e=>by have e:q=false:=(by simpa using e);rw[hL e];exact⟨hs e,hb⟩) h
end
@[simp] theorem Ahh {q r t:Bool}:(bif q then A.v (.bool r) else A.v (.bool t))=A.v (.bool (bif q then r else t)):=by cases q<;>rfl
theorem Ab {H:Hp} {a:A} (h:a.bare=true):K6 H a a:=fun c w I μ v hs hr=>(hr.of_bare h).mono0 (fun b hb=>.inl hb) (fun _ _=>rfl)
theorem Aaa {w:World} {I:Nat→Prop} {μ:Mu} {f:Bool} {xs:List A} {v:Value} (h:Rel w I μ (.sl f xs) v):Rel w I μ (.sl false xs) v:=by
 cases h with
 |slN _ _ a cap _=>exact .slN _ _ _ _ (fun h=>by cases h)
 |sl _ _ b off n cap sz _ g h1 h2 h3 h4 h5 h6 h7 h8=>exact .sl _ _ b off n cap sz _ g h1 h2 h3 (fun h=>by cases h) h5 h6 h7 h8
theorem Au {H:Hp} {f:Bool} {xs:List A}:K6 H (.sl f xs) (.sl false xs):=fun c w I μ v hs hr=>Aaa (Ab (a:=.sl f xs) rfl c w I μ v hs hr)
theorem Ak {H:Hp} {p q:Bool} (h:p=q):K6 H (.v (.bool p)) (.v (.bool q)):=by rw[h];exact Ab rfl
theorem DY {H:Hp} {k:IntKind} {p q:Int} (h:p=q):K6 H (.v (.int k p)) (.v (.int k q)):=by rw[h];exact Ab rfl
theorem AW {H:Hp} {a a':A} (h:a.bare=true) (e:a=a'):K6 H a a':=by rw[← e];exact Ab h
theorem Xj {H:Hp} {o:Nm} {u off len sz:Nat} {xs ys:List A} (ho:QW H o u=some (sz,xs)) (hl:off+len≤xs.length) (hn:ys.length=len) (hy:∀ y,y ∈ ys→y.cells.length=sz) (h1:A.ones (ys.flatMap A.cells)=true)
  (hb:Ky H (((xs.drop off).take len).flatMap A.cells) (ys.flatMap A.cells)):K6 H (.osl o u sz off len) (.sl false ys):=by
 intro c w I μ v hs hr;obtain⟨hg1,hg2⟩:=Md hb;cases hr with
 |osl _ _ _ _ _ _ a cap g1 g2 g4 g5 g3=>
  obtain⟨hu,k2,hrow⟩:=hs.row ho;obtain⟨_,hcur⟩:=g3 hu.symm;by_cases h0:len=0
  ·subst h0;have:ys=[]:=List.eq_nil_of_length_eq_zero hn;subst this;exact .slN _ _ _ _ (fun h=>by cases h)
  rcases hcur with ⟨e,_⟩ | ⟨p1,rfl,p3⟩
  ·exact(h0 e).elim
  rcases hrow with ⟨q1,_⟩ | ⟨q1,vs,k3,k4,k5,k6,k7⟩
  ·rw[p1] at q1;cases q1
  subst k2;have hB:ER (μ o) (H o).ob=true:=by rw[(G7 ho).2];exact q1
  have hg:∀ (k:Nat) (y:A),(((xs.drop off).take len).flatMap A.cells)[k]? = some y→(xs.flatMap A.cells)[off*(μ o).sz+k]? = some y:=fun k y hk=>Ei k6 hk;refine .sl _ _ (μ o).b (off*(μ o).sz) _ _ (μ o).sz _ (fun k=>vs.getD (off*(μ o).sz+k) undef) (Or.inr ⟨o,hB,rfl⟩) hn.symm (by omega) (fun h=>by cases h) hy
   (fun k y hk=>List.all_eq_true.1 h1 y (List.mem_of_getElem? hk)) (fun k y hk=>?_) (fun k y hk=>?_)
  ·obtain⟨a',ha',_⟩:=hg2 k y hk;have h3:=hg k a' ha';have h4:=BS k6;have h5:xs.length*(μ o).sz≤(μ o).cap*(μ o).sz:=Nat.mul_le_mul_right _ k5;have h6:=(List.getElem?_eq_some_iff.1 h3).1;rw[cell_of_row w (μ o).b _ vs (μ o).e (0,0) k3];have:off*(μ o).sz+k<vs.size:=by rw[k4];omega
   simp[this]
  ·obtain⟨a',ha',hf⟩:=hg2 k y hk;exact hf c w I μ _ hs (k7 _ a' (hg k a' ha')).2
theorem Tm {H:Hp}:∀ {l:List A},l.all A.bare=true→Ky H l l
 |[],_=>trivial
 |a::l,h=>by
  simp only[List.all_cons,Bool.and_eq_true] at h;exact⟨Ab h.1,Tm h.2⟩
theorem vR {a:A} (h:a.bare1=true):a.bare=true:=by cases a<;>simp_all [A.bare1,A.bare,A.bare2]
theorem dM {H:Hp} {o:Nm} {u off len sz:Nat} {xs:List A} (ho:QW H o u=some (sz,xs)) (hl:off+len≤xs.length) (hb:((xs.drop off).take len).all (fun x=>x.cells.length == sz&&x.cells.all fun y=>A.bare1 y&&y.one)=true):K6 H (.osl o u sz off len) (.sl false ((xs.drop off).take len)):=by
 simp only[List.all_eq_true,Bool.and_eq_true,beq_iff_eq] at hb;refine Xj ho hl (by simp;omega) (fun y hy=>(hb y hy).1) ?_ (Tm ?_)
 ·simp only[A.ones,List.all_eq_true];intro y hy;obtain⟨x,hx,hy⟩:=List.mem_flatMap.1 hy;exact((hb x hx).2 y hy).2
 ·simp only[List.all_eq_true];intro y hy;obtain⟨x,hx,hy⟩:=List.mem_flatMap.1 hy;exact vR ((hb x hx).2 y hy).1
theorem BT {H:Hp} {cs cs':List A} (h:Ky H cs cs'):K6 H (.agg cs) (.agg cs'):=by
 intro c w I μ v hs hr;obtain⟨hl,hg⟩:=Md h;cases hr with
 |agg _ _ vs h1 h2=>
  refine .agg _ _ _ (by omega) fun k y hk=>?_;obtain⟨a,ha,hf⟩:=hg k y hk;exact hf c w I μ _ hs (h2 k a ha)
theorem CY {H:Hp} {cs cs':List A} (h:Ky H cs cs'):K6 H (.tup cs) (.tup cs'):=by
 intro c w I μ v hs hr;obtain⟨hl,hg⟩:=Md h;cases hr with
 |tup _ _ vs h1 h2=>
  refine .tup _ _ _ (by omega) fun k y hk=>?_;obtain⟨a,ha,hf⟩:=hg k y hk;exact hf c w I μ _ hs (h2 k a ha)
theorem o7 {H:Hp} {o:Nm} {u:Nat} {cs cs':List A} (ho:Zn H o u=some cs) (h:Ky H cs cs') (h1:A.ones cs'=true):K6 H (.pob o u 0) (.pim cs'):=by
 intro c w I μ v hs hr;obtain⟨hl,hg⟩:=Md h;cases hr with
 |pob _ _ _ _ b k g1 g2 g3=>
  obtain⟨hu,vs,k2,k3,k4⟩:=hs.cells ho;obtain⟨rfl,rfl⟩:=g3 hu.symm;have hB:ER (μ o) (H o).ob=true:=by rw[(T2 ho).2];rfl
  refine .pim _ (μ o).b 0 _ (fun k=>vs.getD k undef) (Or.inr ⟨o,hB,rfl⟩) (fun k y hk=>?_) (fun k y hk=>?_) (fun k y hk=>?_)
  ·simp only[A.ones,List.all_eq_true] at h1;exact h1 y (List.mem_of_getElem? hk)
  ·rw[Nat.zero_add,cell_of_row w (μ o).b k vs (μ o).e (0,0) k2];have:k<vs.size:=by rw[k3,← hl];exact(List.getElem?_eq_some_iff.1 hk).1
   simp[this]
  ·obtain⟨a,ha,hf⟩:=hg k y hk;exact hf c w I μ _ hs (k4 k a ha).2
@[simp] theorem AfV {H:Hp}:Ky H [] []=True:=rfl
@[simp] theorem Aer {H:Hp} {a a':A} {l l':List A}:Ky H (a::l) (a'::l')=(K6 H a a'∧Ky H l l'):=rfl
def rC (H:Hp) (a a':A):Prop:=∀ (c:Cx) (w:World) (I:Nat→Prop) (μ:Mu) (v:Value),Sim c w I μ H→Rel w I μ a v→Rel w (fun b=>jk H μ b) Zw a' v
def AhH (P:Program) (rs:List ResultVar) (r:A):Exit→Sta→Prop:=rm P rs fun r0 H=>rC H r0 r
theorem R5 {P:Program} {f:FuncId} {n:Nat} {rs:List ResultVar} {cc:CC} {args:List A} {r:A} (t:Bm P f n rs cc) (ha:args.length≤n) (h:∀ w0 I0,WPC (cx P w0 I0 n) cc (AhH P rs r) ⟨QG args,H0⟩):SpecB P f args r:=by
 obtain⟨hm,hk,fn,code,hf,hb,hn,hrs,hc⟩:=t;refine⟨hk,fun w I J vs hI hJ htb hl hr=>?_⟩;have hIJ:∀ b,(I b∨J b)→b<w.heap.size:=fun b hb=>hb.elim (hI b) (hJ b);have h1:AWP (cx P w (fun b=>I b∨J b) n) code (rm P fn.results.toList fun r0 H=>rC H r0 r) ⟨QG args,H0⟩:=Pu (c:=cx P w _ n) hm hc (by rw[hrs];exact h w _);refine(WX hf hb (c:=cx P w (fun b=>I b∨J b) n) rfl hn.symm hl (by omega) (ai hIJ (htb.mono (fun _ h=>.inl h) (fun _ _=>rfl))) hr h1).mono fun e w' ⟨v,r0,H',I',μ',he,h1,h2,h3⟩=>⟨v,he,?_,?_⟩
 ·have k:=h1.kept;exact⟨k.os,k.tape,k.output,k.size,fun b hb=>k.block b hb (fun ⟨_,h⟩=>h)⟩
 ·refine(h3 _ w' I' μ' v h1 h2).mono0 (fun b hb=>?_) (fun _ _=>rfl);obtain⟨o,g1,rfl⟩:=hb;obtain⟨_,g4,g5⟩:=h1.own o g1;rcases g4 with g4 | g4
  ·exact g4.elim
  ·exact .inr ⟨g4,g5⟩
@[simp] theorem AgX {P:Program} {rs:List ResultVar} {r:A} {st:Sta}:AhH P rs r .ret st=Gt (TL P st rs) fun r0=>rC st.H r0 r:=rfl
theorem yg {H:Hp} {f:Bool}:rC H (.sl f []) (.sl false []):=fun c w I μ v hs hr=>by
 cases hr with
 |slN _ _ a cap _=>exact .slN _ _ _ _ (fun h=>by cases h)
 |sl _ _ b off n cap sz _ g h1 h2=>
  have:n=0:=h2;subst this;exact .slN _ _ _ _ (fun h=>by cases h)
theorem W5 {H:Hp} {o:Nm} {u off len sz:Nat} {xs:List A} (ho:QW H o u=some (sz,xs)) (hl:off+len≤xs.length) (hb:((xs.drop off).take len).all (fun x=>x.cells.length == sz&&x.cells.all fun y=>A.flat1 y&&y.one)=true):rC H (.osl o u sz off len) (.sl false ((xs.drop off).take len)):=by
 simp only[List.all_eq_true,Bool.and_eq_true,beq_iff_eq] at hb;intro c w I μ v hs hr;have hlen:((xs.drop off).take len).length=len:=by simp;omega
 have hcell:∀ (k:Nat) (y:A),(((xs.drop off).take len).flatMap A.cells)[k]? = some y→y.flat1=true∧y.one=true:=fun k y hk=>by
  obtain⟨x,hx,hy⟩:=List.mem_flatMap.1 (List.mem_of_getElem? hk);exact(hb x hx).2 y hy
 cases hr with
 |osl _ _ _ _ _ _ a cap g1 g2 g4 g5 g3=>
  obtain⟨hu,k2,hrow⟩:=hs.row ho;obtain⟨_,hcur⟩:=g3 hu.symm;by_cases h0:len=0
  ·subst h0;simp only[List.take_zero];exact .slN _ _ _ _ (fun h=>by cases h)
  rcases hcur with ⟨e,_⟩ | ⟨p1,rfl,p3⟩
  ·exact(h0 e).elim
  rcases hrow with ⟨q1,_⟩ | ⟨q1,vs,k3,k4,k5,k6,k7⟩
  ·rw[p1] at q1;cases q1
  subst k2;have hB:ER (μ o) (H o).ob=true:=by rw[(G7 ho).2];exact q1
  have hg:∀ (k:Nat) (y:A),(((xs.drop off).take len).flatMap A.cells)[k]? = some y→(xs.flatMap A.cells)[off*(μ o).sz+k]? = some y:=fun k y hk=>Ei k6 hk;refine .sl _ _ (μ o).b (off*(μ o).sz) _ _ (μ o).sz _ (fun k=>vs.getD (off*(μ o).sz+k) undef) ⟨o,hB,rfl⟩ hlen.symm (by omega) (fun h=>by cases h) (fun z hz=>k6 z (QB (PD hz)))
   (fun k y hk=>(hcell k y hk).2) (fun k y hk=>?_) (fun k y hk=>(k7 _ y (hg k y hk)).2.of_flat1 (hcell k y hk).1)
  have h3:=hg k y hk;have h4:=BS k6;have h5:xs.length*(μ o).sz≤(μ o).cap*(μ o).sz:=Nat.mul_le_mul_right _ k5;have h6:=(List.getElem?_eq_some_iff.1 h3).1;rw[cell_of_row w (μ o).b _ vs (μ o).e (0,0) k3];have:off*(μ o).sz+k<vs.size:=by rw[k4];omega
  simp[this]
theorem qM {P:Program} {f:FuncId} {fl:Bool} {r:A} (h1:∀ cap,SpecB P f [.v (.slice none 0 cap)] r) (h2:∀ a cap,SpecB P f [.v (.slice (some a) 0 cap)] r):SpecB P f [.sl fl []] r:=by
 refine⟨(h1 0).1,fun w I J vs hI hJ htb hl hr=>?_⟩;have h:=hr 0 _ rfl;have go:∀ x,vs.getD 0 undef=x→∀ (k:Nat) (y:A),[A.v x][k]? = some y→Rel w (fun b=>I b∨J b) Zw y (vs.getD k undef):=fun x hx k y hk=>by
  cases k with
  |zero=>cases hk;rw[hx];exact .v _ _
  |succ k=>simp at hk
 generalize hq:vs.getD 0 undef=x at h;cases h with
 |slN _ _ a cap _=>
  cases a with
  |none=>exact(h1 cap).2 w I J vs hI hJ htb hl (go _ hq)
  |some a=>exact(h2 a cap).2 w I J vs hI hJ htb hl (go _ hq)
 |sl _ _ b off n cap sz _ g k1 k2=>
  have:n=0:=k2;subst this;exact(h2 _ cap).2 w I J vs hI hJ htb hl (go _ hq)
theorem rr {w:World} {I:Nat→Prop} {μ:Mu} {d:Nm} {u sz:Nat} {v:Value} (h1:Rel w I μ (.sl true []) v) (hu:(μ d).u=u) (h0:1≤u) (hz:(μ d).sz=sz):Rel w I μ (.osl d u sz 0 0) v:=by
 subst hu;cases h1 with
 |slN _ _ q cap hc=>
  have:=hc rfl;subst this;exact .osl _ _ _ _ _ _ _ _ h0 (Cb _) (Cb _) (fun h=>by omega) (fun _=>⟨hz,.inl ⟨rfl,rfl⟩⟩)
 |sl _ _ b off n cap z _ g h1 h2 h3 h4=>
  have h5:n=0:=h2;have h6:cap=0:=h4 rfl;subst h5 h6;exact .osl _ _ _ _ _ _ _ _ h0 (Cb _) (Cb _) (fun h=>by omega) (fun _=>⟨hz,.inl ⟨rfl,rfl⟩⟩)
theorem B9 {c:Cx} {s:Nat→A} {H:Hp} {d:Nm} {u:Nat} {cs:List A} (i:Nat) (d':Nm) (sz:Nat) (hd:H d=⟨u,.cells cs⟩) (hi:cs[i]? = some (.sl true [])) (hne:d ≠ d') :
  Le c ⟨s,H⟩ ⟨s,Bh (Bh H d' ⟨(H d').u+1,.arr sz []⟩) d ⟨u,.cells (cs.set i (.osl d' ((H d').u+1) sz 0 0))⟩⟩:=fun a w I μ hs=>by
 obtain⟨hx,hs'⟩:=hs.sim.upd (JG w none) d' ⟨(H d').u+1,false,0,0,sz,0⟩ (.arr sz []) (.inl rfl) (.inl (by rw[hs.sim.ver];exact Nat.lt_succ_self _)) (fun h=>nomatch h) (fun h=>nomatch h) (fun hx=>⟨rfl,.inl ⟨rfl,rfl⟩⟩);have hd1:(Bh H d' ⟨(H d').u+1,.arr sz []⟩:Hp) d=⟨u,.cells cs⟩:=by rw[Bq hne];exact hd
 have hob:=hs'.ob d;rw[hd1] at hob;obtain⟨vs,k1,k2,k3⟩:=hob;have hB:ER (Bh μ d' ⟨(H d').u+1,false,0,0,sz,0⟩ d) ((Bh H d' ⟨(H d').u+1,.arr sz []⟩:Hp) d).ob=true:=by rw[hd1];rfl
 obtain⟨hx2,hs2⟩:=hs'.upd (JG w none) d (Bh μ d' ⟨(H d').u+1,false,0,0,sz,0⟩ d) (.cells (cs.set i (.osl d' ((H d').u+1) sz 0 0))) (.inl rfl) (.inr rfl) (fun _=>.inr ⟨hB,rfl⟩) (fun _=>hs'.tag _ hB) (fun hx2=>by
  refine⟨vs,k1,by simpa using k2,fun k y hk=>?_⟩;rw[HY];by_cases hki:k=i
  ·subst hki;have hlt:k<cs.length:=(List.getElem?_eq_some_iff.1 hi).1;rw[List.getElem?_set_self hlt] at hk;cases hk;exact⟨rfl,rr (k3 k _ hi).2 (by simp) (by omega) (by simp)⟩
  ·rw[List.getElem?_set_ne (Ne.symm hki)] at hk;exact k3 k y hk)
 have hu:(Bh μ d' ⟨(H d').u+1,false,0,0,sz,0⟩ d).u=u:=by rw[hs'.ver,hd1]
 rw[hu] at hs2;exact⟨I,_,hs2,hs.size,hs.defers,fun t=>hx2.rel (hx.rel (hs.rel t))⟩
def Part (H H':Hp):Prop:=∀ o,H' o=H o∨H' o=⟨(H o).u,.none⟩
theorem Part.has {H H':Hp} (h:Part H H') {L:Loc} {o:Nm} (k:ER L (H' o).ob=true):ER L (H o).ob=true:=by
 rcases h o with e | e
 ·rw[← e];exact k
 ·rw[e] at k;cases k
theorem Part.ver {H H':Hp} (h:Part H H') (o:Nm):(H' o).u=(H o).u:=by rcases h o with e | e<;>rw[e]
theorem Sim.part {c:Cx} {w:World} {I:Nat→Prop} {μ:Mu} {H H':Hp} (hs:Sim c w I μ H) (h:Part H H'):Sim c w I μ H':=
 ⟨hs.kept,hs.lt,hs.old,hs.new,fun o=>by rw[h.ver,hs.ver],fun o=>by
  rcases h o with e | e
  ·rw[e];exact hs.ob o
  ·rw[e];trivial,fun o o' k k'=>hs.apart o o' (h.has k) (h.has k'),fun o k=>hs.own o (h.has k),hs.mle,fun o k=>hs.tag o (h.has k),hs.tab⟩
theorem Sim.freezeAll {c:Cx} {w:World} {I:Nat→Prop} {μ:Mu} {H H1 H2:Hp} (hs:Sim c w I μ H) (h1:Part H H1) (h2:Part H H2) (hd:∀ o,(H1 o).ob = .none∨(H2 o).ob = .none) (hM:∀ o b,(H1 o).ob ≠ .none→¬ c.M0 o b) :
  Sim c w (fun b=>I b∨jk H1 μ b) μ H2:=by
 have hx:Ext I μ w (fun b=>I b∨jk H1 μ b) μ w:=⟨fun b h=>.inl h,fun b h=>rfl,MuLe.refl _⟩;refine⟨hs.kept,fun b h=>?_,fun b h=>.inl (hs.old b h),fun b h=>?_,fun o=>by rw[h2.ver,hs.ver],fun o=>?_,fun o o' k k'=>hs.apart o o' (h2.has k) (h2.has k'),fun o k=>?_,hs.mle,fun o k=>hs.tag o (h2.has k),hs.tab.mono (fun _ h=>.inl h) (fun _ _=>rfl)⟩
 ·rcases h with h | ⟨o,k,rfl⟩
  ·exact hs.lt b h
  ·exact(hs.own o (h1.has k)).2.2
 ·rcases h with h | ⟨o,k,rfl⟩
  ·exact hs.new b h
  ·rcases (hs.own o (h1.has k)).2.1 with h | h
   ·exact(hM _ _ (fun e=>by rw[e] at k;cases k) h).elim
   ·exact .inr h
 ·rcases h2 o with e | e
  ·rw[e];exact OSim.keep hx (fun _=>rfl) (hs.ob o)
  ·rw[e];trivial
 ·obtain⟨k1,k2,k3⟩:=hs.own o (h2.has k);refine⟨fun hh=>?_,k2,k3⟩;rcases hh with hh | ⟨o',k',e⟩
  ·exact k1 hh
  ·refine hs.apart o o' (h2.has k) (h1.has k') (fun e=>?_) e.symm;subst e;rcases hd o with e | e
   ·rw[e] at k';cases k'
   ·rw[e] at k;cases k
theorem Tv {c:Cx} {s:Nat→A} {H H1 H2:Hp} (hM:∀ o b,(H1 o).ob ≠ .none→¬ c.M0 o b) (t:Nat) (a:A) (h1:Part H H1) (h2:Part H H2) (hd:∀ o,(H1 o).ob = .none∨(H2 o).ob = .none) (hf:K6 H1 (s t) a):Le c ⟨s,H⟩ ⟨upd s t a,H2⟩:=fun x w I μ hs=>by
 have h3:=hs.sim.freezeAll h1 h2 hd hM;refine⟨_,μ,h3,hs.size,hs.defers,fun k=>?_⟩;show Rel w _ μ (upd s t a k) _;unfold upd;split
 ·rename_i e;subst e;exact(hf c w I μ _ (hs.sim.part h1) (hs.rel k)).ofI
 ·exact(hs.rel k).mono0 (fun b h=>.inl h) (fun _ _=>rfl)
def aw (D:List Nm) (l:List (Nm × VOb)):List (Nm × VOb):=l.map fun p=>if D.contains p.1 then p else (p.1,⟨p.2.u,.none⟩)
def iW (D:List Nm) (l:List (Nm × VOb)):List (Nm × VOb):=l.map fun p=>if D.contains p.1 then (p.1,⟨p.2.u,.none⟩) else p
theorem Yh (D:List Nm):∀ (l:List (Nm × VOb)) (o:Nm),FA (aw D l) o=if D.contains o=true then FA l o else ⟨(FA l o).u,.none⟩
 |[],o=>by simp[aw,FA]
 |(k,x)::l,o=>by
  have ih:=Yh D l o;simp only[aw,List.map_cons] at ih ⊢;by_cases hk:k=o
  ·subst hk;by_cases h:D.contains k=true<;>simp only[h,if_true,FA]<;>simp
  ·by_cases h:D.contains k=true<;>simp only[h,if_true,if_false,Bool.false_eq_true,FA,hk]<;>exact ih
theorem YL (D:List Nm):∀ (l:List (Nm × VOb)) (o:Nm),FA (iW D l) o=if D.contains o=true then ⟨(FA l o).u,.none⟩ else FA l o
 |[],o=>by simp[iW,FA]
 |(k,x)::l,o=>by
  have ih:=YL D l o;simp only[iW,List.map_cons] at ih ⊢;by_cases hk:k=o
  ·subst hk;by_cases h:D.contains k=true<;>simp only[h,if_true,FA]<;>simp
  ·by_cases h:D.contains k=true<;>simp only[h,if_true,if_false,Bool.false_eq_true,FA,hk]<;>exact ih
theorem nV {c:Cx} {s:Nat→A} {l:List (Nm × VOb)} (D:List Nm) (t:Nat) (a:A) (hM:∀ o b,¬ c.M0 o b) (hf:K6 (FA (aw D l)) (s t) a):Le c ⟨s,FA l⟩ ⟨upd s t a,FA (iW D l)⟩:=by
 refine Tv (fun o b _=>hM o b) t a (H1:=FA (aw D l)) (fun o=>?_) (fun o=>?_) (fun o=>?_) hf
 ·rw[Yh];split
  ·exact .inl rfl
  ·exact .inr rfl
 ·rw[YL];split
  ·exact .inr rfl
  ·exact .inl rfl
 ·rw[Yh,YL];split
  ·exact .inr rfl
  ·exact .inl rfl
theorem H5 {c:Cx} {s:Nat→A} {H:Hp} {d:Nm} (hM:∀ b,¬ c.M0 d b) (t:Nat) (a:A) (hf:∀ H1:Hp,H1 d=H d→K6 H1 (s t) a):Le c ⟨s,H⟩ ⟨upd s t a,Bh H d ⟨(H d).u,.none⟩⟩:=by
 refine Tv (fun o b h=>by
  by_cases e:o=d
  ·subst e;exact hM b
  ·exact absurd (by simp[e]) h) t a (H1:=fun o=>if o=d then H o else ⟨(H o).u,.none⟩) (fun o=>?_) (fun o=>?_) (fun o=>?_) (hf _ (by simp))
 ·by_cases h:o=d
  ·exact .inl (by simp[h])
  ·exact .inr (by simp[h])
 ·by_cases h:o=d
  ·subst h;exact .inr (by simp)
  ·exact .inl (Bq h)
 ·by_cases h:o=d
  ·subst h;exact .inr (by simp)
  ·exact .inl (by simp[h])
mutual
def A.soft:A→A
 |.sl _ xs=>.sl false (A.softL xs)
 |.agg cs=>.agg (A.softL cs)
 |.tup cs=>.tup (A.softL cs)
 |.pim cs=>.pim (A.softL cs)
 |.ifc t x=>.ifc t (A.soft x)
 |.any=>.any
 |.v x=>.v x
 |.pob o u off=>.pob o u off
 |.osl o u sz off len=>.osl o u sz off len
 |.pel o u i j=>.pel o u i j
 |.fnc f fs cs=>.fnc f fs cs
def A.softL:List A→List A
 |[]=>[]
 |x::xs=>A.soft x::A.softL xs
end
theorem C0:∀ l:List A,A.softL l=l.map A.soft
 |[]=>by simp[A.softL]
 |x::l=>by simp[A.softL,C0 l]
theorem WL (a:A):a.soft.cells=a.cells.map A.soft:=by cases a<;>simp[A.soft,A.cells,C0]
theorem ZX:∀ l:List A,(l.map A.soft).flatMap A.cells=(l.flatMap A.cells).map A.soft
 |[]=>rfl
 |x::l=>by simp[WL,ZX l]
theorem iz (a:A):a.soft.one=a.one:=by cases a<;>simp[A.soft,A.one]
theorem Rel.soft {w:World} {I:Nat→Prop} {μ:Mu} {a:A} {x:Value} (h:Rel w I μ a x):Rel w I μ a.soft x:=by
 induction h with
 |any=>simpa[A.soft] using Rel.any _ _
 |v=>simpa[A.soft] using Rel.v _ _
 |slN μ f a cap h=>
  simp only[A.soft,A.softL];exact .slN _ _ _ _ (fun h=>nomatch h)
 |sl μ f b off n cap sz xs g hb hn hc hf hs h1 hcell hr ih=>
  simp only[A.soft,C0];refine .sl _ _ b off n cap sz _ g hb (by simpa using hn) (by simpa using hc) (fun h=>nomatch h) (fun x hx=>?_) (fun k y hk=>?_) (fun k y hk=>?_) (fun k y hk=>?_)
  ·obtain⟨x',hx',rfl⟩:=List.mem_map.1 hx;simpa[WL] using hs x' hx'
  all_goals
   rw[ZX,List.getElem?_map,Option.map_eq_some_iff] at hk;obtain⟨y',hy,rfl⟩:=hk
  ·rw[iz];exact h1 k y' hy
  ·exact hcell k y' hy
  ·exact ih k y' hy
 |agg μ cs vs hl _ ih=>
  simp only[A.soft,C0];refine .agg _ _ _ (by simpa using hl) fun k y hk=>?_;rw[List.getElem?_map,Option.map_eq_some_iff] at hk;obtain⟨y',hy,rfl⟩:=hk;exact ih k y' hy
 |tup μ cs vs hl _ ih=>
  simp only[A.soft,C0];refine .tup _ _ _ (by simpa using hl) fun k y hk=>?_;rw[List.getElem?_map,Option.map_eq_some_iff] at hk;obtain⟨y',hy,rfl⟩:=hk;exact ih k y' hy
 |pim μ b off cs g hb h1 hcell hr ih=>
  simp only[A.soft,C0];refine .pim _ b off _ g hb (fun k y hk=>?_) (fun k y hk=>?_) (fun k y hk=>?_);all_goals
   rw[List.getElem?_map,Option.map_eq_some_iff] at hk;obtain⟨y',hy,rfl⟩:=hk
  ·rw[iz];exact h1 k y' hy
  ·exact hcell k y' hy
  ·exact ih k y' hy
 |pob _ _ _ _ _ _ h1 h2 h3=>simpa[A.soft] using Rel.pob _ _ _ _ _ _ h1 h2 h3
 |osl _ _ _ _ _ _ _ _ h1 h2 h4 h5 h3=>simpa[A.soft] using Rel.osl _ _ _ _ _ _ _ _ h1 h2 h4 h5 h3
 |pel _ _ _ _ _ _ _ h1 h2 h3=>simpa[A.soft] using Rel.pel _ _ _ _ _ _ _ h1 h2 h3
 |fnc _ _ _ _ _ _ hl0 h0 hl h _ _=>simpa[A.soft] using Rel.fnc _ _ _ _ _ _ hl0 h0 hl h
 |ifc _ _ _ _ _ ih=>simpa[A.soft] using Rel.ifc _ _ _ _ ih
theorem Spec.soft {P:Program} {f:FuncId} {as' as'':List A} {r:A} (h:Spec P f as'' r) (e:A.softL as'=as''):Spec P f as' r:=by
 subst e;refine⟨h.1,fun w I vs hI ht hn ha=>h.2 w I vs hI ht (by simpa[C0] using hn) fun k y hk=>?_⟩;rw[C0,List.getElem?_map,Option.map_eq_some_iff] at hk;obtain⟨y',hy,rfl⟩:=hk;exact(ha k y' hy).soft
theorem SpecB.soft {P:Program} {f:FuncId} {as' as'':List A} {r:A} (h:SpecB P f as'' r) (e:A.softL as'=as''):SpecB P f as' r:=by
 subst e;refine⟨h.1,fun w I J vs hI hJ ht hn ha=>h.2 w I J vs hI hJ ht (by simpa[C0] using hn) fun k y hk=>?_⟩;rw[C0,List.getElem?_map,Option.map_eq_some_iff] at hk;obtain⟨y',hy,rfl⟩:=hk;exact(ha k y' hy).soft
theorem ux {H:Hp} {a:A} (h:a.bare=true):K6 H a a.soft:=fun c w I μ v hs hr=>(Ab h c w I μ v hs hr).soft
mutual
def A.ren (g:Nm→Nm) (δ:Nm→Nat):A→A
 |.pob o u off=>.pob (g o) (u+δ o) off
 |.osl o u sz off len=>.osl (g o) (u+δ o) sz off len
 |.pel o u i j=>.pel (g o) (u+δ o) i j
 |.agg cs=>.agg (A.renL g δ cs)
 |.tup cs=>.tup (A.renL g δ cs)
 |.fnc f fs cs=>.fnc f (A.renL g δ fs) (A.renL g δ cs)
 |.ifc t x=>.ifc t (A.ren g δ x)
 |.any=>.any
 |.v x=>.v x
 |.sl f xs=>.sl f xs
 |.pim cs=>.pim cs
def A.renL (g:Nm→Nm) (δ:Nm→Nat):List A→List A
 |[]=>[]
 |x::xs=>A.ren g δ x::A.renL g δ xs
end
mutual
def A.refs (S:Nm→Prop):A→Prop
 |.pob o u off=>S o
 |.osl o u sz off len=>S o
 |.pel o u i j=>S o
 |.agg cs=>A.refsL S cs
 |.tup cs=>A.refsL S cs
 |.fnc f fs cs=>A.refsL S fs∧A.refsL S cs
 |.ifc t x=>A.refs S x
 |.any=>True
 |.v x=>True
 |.sl f xs=>True
 |.pim cs=>True
def A.refsL (S:Nm→Prop):List A→Prop
 |[]=>True
 |x::xs=>A.refs S x∧A.refsL S xs
end
theorem Dd {g:Nm→Nm} {δ:Nm→Nat}:∀ l:List A,A.renL g δ l=l.map (A.ren g δ)
 |[]=>by simp[A.renL]
 |x::l=>by simp[A.renL,Dd l]
theorem refsL_iff {S:Nm→Prop}:∀ {l:List A},A.refsL S l ↔ ∀ x,x ∈ l→x.refs S
 |[]=>by simp[A.refsL]
 |x::l=>by simp[A.refsL,refsL_iff (l:=l)]
theorem aD {g:Nm→Nm} {δ:Nm→Nat} (a:A):(a.ren g δ).cells=a.cells.map (A.ren g δ):=by cases a<;>simp[A.ren,A.cells,Dd]
theorem jo {g:Nm→Nm} {δ:Nm→Nat}:∀ l:List A,(l.map (A.ren g δ)).flatMap A.cells=(l.flatMap A.cells).map (A.ren g δ)
 |[]=>rfl
 |x::l=>by simp[aD,jo l]
theorem pX {g:Nm→Nm} {δ:Nm→Nat} (a:A):(a.ren g δ).one=a.one:=by cases a<;>simp[A.ren,A.one]
theorem me {S:Nm→Prop} {a y:A} (h:a.refs S) (hy:y ∈ a.cells):y.refs S:=by
 cases a<;>simp[A.cells] at hy<;>first | (subst hy;exact h) | exact refsL_iff.1 (by simpa[A.refs] using h) y hy
theorem Rel.ren {w:World} {I:Nat→Prop} {μ:Mu} {a:A} {v:Value} (h:Rel w I μ a v):∀ {μ':Mu} {S:Nm→Prop} {g:Nm→Nm} {δ:Nm→Nat},a.refs S→(∀ o,S o→1≤(μ o).u→μ' (g o)={ μ o with u:=(μ o).u+δ o })→Rel w I μ' (a.ren g δ) v:=by
 induction h with
 |any=>intro μ' S g δ _ _;simpa[A.ren] using Rel.any _ _
 |v=>intro μ' S g δ _ _;simpa[A.ren] using Rel.v _ _
 |slN _ _ _ _ h=>intro μ' S g δ _ _;simpa[A.ren] using Rel.slN _ _ _ _ h
 |sl μ f b off n cap sz xs g hb hn hc hf hs h1 hcell hr _=>intro μ' S g' δ _ _;simpa[A.ren] using Rel.sl _ f b off n cap sz xs g hb hn hc hf hs h1 hcell hr
 |pim μ b off cs g hb h1 hcell hr _=>intro μ' S g' δ _ _;simpa[A.ren] using Rel.pim _ b off cs g hb h1 hcell hr
 |agg μ cs vs hl _ ih=>
  intro μ' S g δ hS hμ;simp only[A.ren,Dd];refine .agg _ _ _ (by simpa using hl) fun k y hk=>?_;rw[List.getElem?_map,Option.map_eq_some_iff] at hk;obtain⟨y',hy,rfl⟩:=hk;exact ih k y' hy (refsL_iff.1 (by simpa[A.refs] using hS) y' (List.mem_of_getElem? hy)) hμ
 |tup μ cs vs hl _ ih=>
  intro μ' S g δ hS hμ;simp only[A.ren,Dd];refine .tup _ _ _ (by simpa using hl) fun k y hk=>?_;rw[List.getElem?_map,Option.map_eq_some_iff] at hk;obtain⟨y',hy,rfl⟩:=hk;exact ih k y' hy (refsL_iff.1 (by simpa[A.refs] using hS) y' (List.mem_of_getElem? hy)) hμ
 |fnc μ f fs caps us vs hl0 _ hl _ ih0 ih=>
  intro μ' S g δ hS hμ;simp only[A.refs] at hS;simp only[A.ren,Dd];refine .fnc _ _ _ _ _ _ (by simpa using hl0) (fun k y hk=>?_) (by simpa using hl) fun k y hk=>?_
  ·rw[List.getElem?_map,Option.map_eq_some_iff] at hk;obtain⟨y',hy,rfl⟩:=hk;exact ih0 k y' hy (refsL_iff.1 hS.1 y' (List.mem_of_getElem? hy)) hμ
  ·rw[List.getElem?_map,Option.map_eq_some_iff] at hk;obtain⟨y',hy,rfl⟩:=hk;exact ih k y' hy (refsL_iff.1 hS.2 y' (List.mem_of_getElem? hy)) hμ
 |ifc _ _ _ _ _ ih=>
  intro μ' S g δ hS hμ;simp only[A.ren];exact .ifc _ _ _ _ (ih (by simpa[A.refs] using hS) hμ)
 |pob μ o u off b k h1 h2 h3=>
  intro μ' S g δ hS hμ;have e:=hμ o (by simpa[A.refs] using hS) (by omega);simp only[A.ren];exact .pob _ _ _ _ _ _ (by omega) (by rw[e];simpa using h2) fun hu=>by rw[e] at hu ⊢; exact h3 (by simpa using hu)
 |osl μ o u sz off len a cap h1 h2 h4 h5 h3=>
  intro μ' S g δ hS hμ;have e:=hμ o (by simpa[A.refs] using hS) (by omega);simp only[A.ren];exact .osl _ _ _ _ _ _ _ _ (by omega) (by rw[e];simpa using h2) h4 h5 fun hu=>by rw[e] at hu ⊢; exact h3 (by simpa using hu)
 |pel μ o u i j b k h1 h2 h3=>
  intro μ' S g δ hS hμ;have e:=hμ o (by simpa[A.refs] using hS) (by omega);simp only[A.ren];exact .pel _ _ _ _ _ _ _ (by omega) (by rw[e];simpa using h2) fun hu=>by rw[e] at hu ⊢; exact h3 (by simpa using hu)
def Ob.ren (g:Nm→Nm) (δ:Nm→Nat):Ob→Ob
 |.none=>.none
 |.cells cs=>.cells (A.renL g δ cs)
 |.arr sz xs=>.arr sz (A.renL g δ xs)
def Ob.refs (S:Nm→Prop):Ob→Prop
 |.none=>True
 |.cells cs=>A.refsL S cs
 |.arr sz xs=>A.refsL S xs
theorem Yy {g:Nm→Nm} {δ:Nm→Nat} {L:Loc} {ob:Ob}:ER L (ob.ren g δ)=ER L ob:=by cases ob<;>rfl
theorem OSim.ren {w:World} {I:Nat→Prop} {μ μ':Mu} {L L':Loc} {ob:Ob} {S:Nm→Prop} {g:Nm→Nm} {δ:Nm→Nat} (h:OSim w I μ L ob) (hS:ob.refs S) (hμ:∀ o,S o→1≤(μ o).u→μ' (g o)={ μ o with u:=(μ o).u+δ o }) (hL:L'={ L with u:=L'.u }) :
  OSim w I μ' L' (ob.ren g δ):=by
 rw[hL];cases ob with
 |none=>trivial
 |cells cs=>
  obtain⟨vs,h1,h2,h3⟩:=h;simp only[Ob.ren,Dd];refine⟨vs,h1,by simpa using h2,fun k y hk=>?_⟩;rw[List.getElem?_map,Option.map_eq_some_iff] at hk;obtain⟨y',hy,rfl⟩:=hk;exact⟨by rw[pX];exact(h3 k y' hy).1,(h3 k y' hy).2.ren (refsL_iff.1 hS y' (List.mem_of_getElem? hy)) hμ⟩
 |arr sz xs=>
  simp only[Ob.ren,Dd];obtain⟨h0,⟨h1,h2⟩ | ⟨h1,vs,h3,h4,h5,h6,h7⟩⟩:=h
  ·exact⟨h0,.inl ⟨h1,by rw[h2];rfl⟩⟩
  ·refine⟨h0,.inr ⟨h1,vs,h3,h4,by simpa using h5,fun x hx=>?_,fun k y hk=>?_⟩⟩
   ·obtain⟨x',hx',rfl⟩:=List.mem_map.1 hx;simpa[aD] using h6 x' hx'
   ·rw[jo,List.getElem?_map,Option.map_eq_some_iff] at hk;obtain⟨y',hy,rfl⟩:=hk;obtain⟨x,hx,hy'⟩:=List.mem_flatMap.1 (List.mem_of_getElem? hy);exact⟨by rw[pX];exact(h7 k y' hy).1,(h7 k y' hy).2.ren (me (refsL_iff.1 hS x hx) hy') hμ⟩
def FW (P:Program) (w0:World) (I0:Nat→Prop) (M0:Nm→Nat→Prop) (n:Nat) (m0:Mu):Cx:=⟨P,w0,I0,M0,n,m0⟩
@[simp] theorem Aly {P:Program} {w0:World} {I0:Nat→Prop} {M0:Nm→Nat→Prop} {n:Nat} {m0:Mu}:(FW P w0 I0 M0 n m0).P=P:=rfl
def Vz (P:Program) (f:FuncId) (k:Nat) (args:List A) (Hc:Hp) (r:A) (Hr:Hp):Prop:=
 Zo P f=true∧∀ (w:World) (I:Nat→Prop) (M0:Nm→Nat→Prop) (n:Nat) (μ:Mu) (vs:Array Value),(∀ (o:Nm) (b:Nat),(Hc o).ob = .none→¬ M0 o b)→Sim (FW P w I M0 n μ) w I μ Hc→vs.size=args.length→(∀ (k:Nat) (y:A),args[k]? = some y→Rel w I μ y (vs.getD k undef)) →
  Calls P f vs w fun e w'=>∃ v,e = .returned v∧∃ H' I' μ',Sim (FW P w I M0 n μ) w' I' μ' H'∧Rel w' I' μ' r v∧∀ (i:Nat) (p:Nm),i<k→H' (i::p)=Hr (i::p)
theorem Sim.of_n {P:Program} {w0 w:World} {I0 I:Nat→Prop} {M0:Nm→Nat→Prop} {n n':Nat} {m0 μ:Mu} {H:Hp} (h:Sim (FW P w0 I0 M0 n m0) w I μ H):Sim (FW P w0 I0 M0 n' m0) w I μ H:=
 ⟨h.kept,h.lt,h.old,h.new,h.ver,h.ob,h.apart,h.own,h.mle,h.tag,h.tab⟩
def R4 (c:Cx) (rs:List ResultVar) (k:Nat) (r:A) (Hr:Hp):Exit→Sta→Prop:=fun e st=>Rn c (rm c.P rs (fun r0 H=>r0=r∧∀ (i:Nat) (p:Nm),i<k→H (i::p)=Hr (i::p)) e) st
theorem jC {c:Cx} {rs:List ResultVar} {k:Nat} {r r0:A} {Hr:Hp} {st:Sta} (h:TL c.P st rs=some r0) (he:r0=r) (hh:∀ (i:Nat) (p:Nm),i<k→st.H (i::p)=Hr (i::p)):R4 c rs k r Hr .ret st:=Di ⟨r0,h,he,hh⟩
theorem g8 {c:Cx} {rs:List ResultVar} {k:Nat} {r r0:A} {Hr:Hp} {st:Sta} (h:TL c.P st rs=some r0) (he:r0=r) (hh:∀ (i:Nat) (p:Nm),i<k→st.H (i::p)=Hr (i::p)):R4 c rs k r Hr .normal st:=Di ⟨r0,h,he,hh⟩
theorem a9 {P:Program} {f:FuncId} {n k:Nat} {rs:List ResultVar} {cc:CC} {args:List A} {Hc:Hp} {r:A} {Hr:Hp} (t:Bm P f n rs cc) (ha:args.length≤n)
  (h:∀ w0 I0 M0 m0,(∀ (o:Nm) (b:Nat),(Hc o).ob = .none→¬ M0 o b)→WPC (FW P w0 I0 M0 n m0) cc (R4 (FW P w0 I0 M0 n m0) rs k r Hr) ⟨QG args,Hc⟩):Vz P f k args Hc r Hr:=by
 obtain⟨hm,hk,fn,code,hf,hb,hn,hrs,hc⟩:=t;refine⟨hk,fun w I M0 n' μ vs hN hs hl har=>?_⟩;refine(WX (Q:=fun r0 H=>r0=r∧∀ (i:Nat) (p:Nm),i<k→H (i::p)=Hr (i::p)) hf hb (c:=FW P w I M0 n μ) rfl hn.symm hl (by omega) (Sim.of_n hs) har (fun a w1 I1 μ1 hsr=>wp_mono (Pu (c:=FW P w I M0 n μ) hm hc (h w I M0 μ hN) a w1 I1 μ1 hsr) fun e a' w' ⟨st',I',μ',g1,st2,g2,g3⟩=>by
   obtain⟨I2,μ2,g4⟩:=g2 a' w' I' μ' g1;exact⟨st2,I2,μ2,g4,by rw[hrs];exact g3⟩)).mono fun e w' ⟨v,r0,H',I',μ',he,h1,h2,h3,h4⟩=>?_
 subst h3;exact⟨v,he,H',I',μ',h1.of_n,h2,h4⟩
theorem iM {P:Program} {f:FuncId} {n k:Nat} {rs:List ResultVar} {cc:CC} {args:List A} {Hc:Hp} {r:A} {Hr:Hp} (t:Bm P f n rs cc) (ha:args.length≤n)
  (h:∀ w0 I0 M0 m0,WPC (FW P w0 I0 M0 n m0) cc (R4 (FW P w0 I0 M0 n m0) rs k r Hr) ⟨QG args,Hc⟩):Vz P f k args Hc r Hr:=a9 t ha fun w0 I0 M0 m0 _=>h w0 I0 M0 m0
def fB (rs:List Nat):Nm→Nm
 |i::p=>rs.getD i 0::p
 |[]=>[]
def kz (rs:List Nat):Nm→Nm
 |j::p=>rs.idxOf j::p
 |[]=>[]
def g9 (rs:List Nat) (m:Nat):Nm→Prop
 |j::p=>rs.idxOf j<m
 |[]=>False
def L6 (k:Nat):Nm→Prop
 |i::p=>i<k
 |[]=>False
def Tk (rs:List Nat) (m:Nat) (H:Hp):Nm→Nat
 |i::p=>if i<m then 0 else if i<rs.length then (H (rs.getD i 0::p)).u else 0
 |[]=>0
def VOb.ren (g:Nm→Nm) (δ:Nm→Nat) (d:Nat) (x:VOb):VOb:=⟨x.u+d,x.ob.ren g δ⟩
def Ig (rs:List Nat) (m:Nat) (H Hr:Hp):Hp
 |j::p=>(Hr (rs.idxOf j::p)).ren (fB rs) (Tk rs m H) (Tk rs m H (rs.idxOf j::p))
 |[]=>⟨0,.none⟩
theorem L4 {rs:List Nat} (hnd:rs.Nodup) {i:Nat} (h:i<rs.length):rs.idxOf (rs.getD i 0)=i:=by
 have e:rs.getD i 0=rs[i]:=by simp[List.getD,h]
 rw[e];exact hnd.idxOf_getElem i h
theorem Rr {rs:List Nat} {j:Nat} (h:j ∈ rs):rs.getD (rs.idxOf j) 0=j:=by
 have hl:=List.idxOf_lt_length_iff.2 h;simp[List.getD,hl]
theorem idx_mem {rs:List Nat} {j:Nat}:rs.idxOf j<rs.length ↔ j ∈ rs:=List.idxOf_lt_length_iff
theorem nH {g:Nm→Nm} {δ:Nm→Nat} {d:Nat} {x:VOb} (h:(x.ren g δ d).ob = .none):x.ob = .none:=by
 cases x with
 |mk u ob=>cases ob<;>first | rfl | cases h
theorem Uw {P:Program} {f:FuncId} {rs:List Nat} {m:Nat} {args:List A} {Hc Hr:Hp} {r:A} {H:Hp} (hnd:rs.Nodup) (hm:m≤rs.length)
  (hS:Vz P f rs.length (A.renL (kz rs) (fun _=>0) args) Hc r Hr)
  (h1:∀ (i:Nat) (p:Nm),i<m→Hc (i::p)=(H (rs.getD i 0::p)).ren (kz rs) (fun _=>0) 0) (h2:∀ (i:Nat) (p:Nm),m≤i→Hc (i::p)=⟨0,.none⟩) (h3:Hc []=⟨0,.none⟩)
  (ha:A.refsL (g9 rs m) args) (hc:∀ (i:Nat) (p:Nm),i<m→(H (rs.getD i 0::p)).ob.refs (g9 rs m))
  (hr:r.refs (L6 rs.length)) (ho:∀ (i:Nat) (p:Nm),i<rs.length→(Hr (i::p)).ob.refs (L6 rs.length))
  (hv:∀ (i:Nat) (p:Nm),m≤i→i<rs.length→(Hr (i::p)).ob = .none∨1≤(Hr (i::p)).u) :
  cP P H f args (r.ren (fB rs) (Tk rs m H)) (.fn rs (Ig rs m H Hr)):=by
 refine⟨hS.1,fun c w I μ vs hP hs hl har=>?_⟩
 let nm:Nat→Nm→Nm:=fun i p=>rs.getD i 0::p
 let μc:Mu:=fun o=>match o with
  |i::p=>if i<m then μ (nm i p) else Zw (i::p)
  |[]=>Zw []
 let M1:Nm→Nat→Prop:=fun o b=>∃ i p,o=i::p∧i<m∧ER (μ (nm i p)) (H (nm i p)).ob=true∧b=(μ (nm i p)).b
 have hμ:∀ o,g9 rs m o→1≤(μ o).u→μc (kz rs o)={ μ o with u:=(μ o).u+(fun _=>0) o }:=fun o ho _=>by
  cases o with
  |nil=>exact ho.elim
  |cons j p=>
   have hj:rs.idxOf j<m:=ho;show(if rs.idxOf j<m then μ (nm (rs.idxOf j) p) else _)=_;rw[if_pos hj];have:nm (rs.idxOf j) p=j::p:=by show rs.getD (rs.idxOf j) 0::p=_;rw[Rr (idx_mem.1 (by omega))]
   rw[this];rfl
 have nm_ne:∀ {i i':Nat} {p p':Nm},i<rs.length→i'<rs.length→i::p ≠ i'::p'→nm i p ≠ nm i' p':=fun {i i' p p'} hi hi' hne e=>by
  have e1:rs.getD i 0=rs.getD i' 0:=by injection e
  have e2:p=p':=by injection e
  have:=L4 hnd hi;rw[e1,L4 hnd hi'] at this;exact hne (by rw[this,e2])
 have own1:∀ (i:Nat) (p:Nm),ER (μc (i::p)) (Hc (i::p)).ob=true→i<m∧ER (μ (nm i p)) (H (nm i p)).ob=true∧μc (i::p)=μ (nm i p):=fun i p h=>by
  by_cases hi:i<m
  ·have e:μc (i::p)=μ (nm i p):=if_pos hi;rw[e,h1 i p hi] at h;simp only[VOb.ren,Yy] at h;exact⟨hi,h,e⟩
  ·rw[h2 i p (by omega)] at h;cases h
 have start:Sim (FW P w I M1 0 μc) w I μc Hc:=by
  refine⟨⟨rfl,rfl,rfl,Cb _,fun _ _ _=>rfl⟩,hs.lt,fun _ h=>h,fun b hb=>.inl hb,fun o=>?_,fun o=>?_,fun o o' k k' hne=>?_,fun o k=>?_,MuLe.refl _,fun o k=>?_,by subst hP;exact hs.tab⟩
  ·cases o with
   |nil=>rw[h3];rfl
   |cons i p=>
    by_cases hi:i<m
    ·have e:μc (i::p)=μ (nm i p):=if_pos hi;rw[e,h1 i p hi,hs.ver];rfl
    ·have e:μc (i::p)=Zw (i::p):=if_neg hi;rw[e,h2 i p (by omega)];rfl
  ·cases o with
   |nil=>rw[h3];trivial
   |cons i p=>
    by_cases hi:i<m
    ·have e:μc (i::p)=μ (nm i p):=if_pos hi;rw[e,h1 i p hi];exact(hs.ob (nm i p)).ren (hc i p hi) hμ rfl
    ·rw[h2 i p (by omega)];trivial
  ·cases o with
   |nil=>rw[h3] at k;cases k
   |cons i p=>
    cases o' with
    |nil=>rw[h3] at k';cases k'
    |cons i' p'=>
     obtain⟨q1,q2,q3⟩:=own1 i p k;obtain⟨r1,r2,r3⟩:=own1 i' p' k';rw[q3,r3];exact hs.apart _ _ q2 r2 (nm_ne (by omega) (by omega) hne)
  ·cases o with
   |nil=>rw[h3] at k;cases k
   |cons i p=>
    obtain⟨q1,q2,q3⟩:=own1 i p k;rw[q3];obtain⟨g1,g2,g3⟩:=hs.own _ q2;exact⟨g1,.inl ⟨i,p,rfl,q1,q2,rfl⟩,g3⟩
  ·cases o with
   |nil=>rw[h3] at k;cases k
   |cons i p=>
    obtain⟨q1,q2,q3⟩:=own1 i p k;rw[q3];exact hs.tag _ q2
 have harg:∀ (k:Nat) (y:A),(A.renL (kz rs) (fun _=>0) args)[k]? = some y→Rel w I μc y (vs.getD k undef):=fun k y hk=>by
  rw[Dd,List.getElem?_map,Option.map_eq_some_iff] at hk;obtain⟨y',hy,rfl⟩:=hk;exact(har k y' hy).ren (refsL_iff.1 ha y' (List.mem_of_getElem? hy)) hμ
 refine(hS.2 w I M1 0 μc vs (fun o b h ⟨i,p,e,hi,hb,_⟩=>by
  subst e;rw[h1 i p hi] at h;rw[show(H (nm i p)).ob = .none from nH h] at hb;cases hb) start (by simpa[Dd] using hl) harg).mono fun e w' ⟨v,he,H',I',μ',hs',hrel,hH'⟩=>⟨v,he,I',?_⟩
 let δ:=Tk rs m H
 let μ2:Mu:=fun n=>match n with
  |j::p=>if j ∈ rs then (if rs.idxOf j<m∨1≤(μ' (rs.idxOf j::p)).u then { μ' (rs.idxOf j::p) with u:=(μ' (rs.idxOf j::p)).u+δ (rs.idxOf j::p) } else μ (j::p)) else μ (j::p)
  |[]=>μ []
 have δ0:∀ {i:Nat} {p:Nm},i<m→δ (i::p)=0:=fun {i p} h=>if_pos h;have δ1:∀ {i:Nat} {p:Nm},¬ i<m→i<rs.length→δ (i::p)=(H (nm i p)).u:=fun {i p} h h'=>by
  show(if i<m then _ else _)=_;rw[if_neg h,if_pos h']
 have nmj:∀ {j:Nat} {p:Nm},j ∈ rs→nm (rs.idxOf j) p=j::p:=fun {j p} h=>by show rs.getD (rs.idxOf j) 0::p=_;rw[Rr h]
 have app_in:∀ {j:Nat} {p:Nm},j ∈ rs→(Eff.fn rs (Ig rs m H Hr)).app H (j::p)=Ig rs m H Hr (j::p):=fun {j p} h=>by simp[Eff.app,h]
 have app_out:∀ {j:Nat} {p:Nm},j ∉ rs→(Eff.fn rs (Ig rs m H Hr)).app H (j::p)=H (j::p):=fun {j p} h=>by simp[Eff.app,h]
 have app_nil':(Eff.fn rs (Ig rs m H Hr)).app H []=H []:=rfl;have mu_in:∀ {j:Nat} {p:Nm},j ∈ rs→(rs.idxOf j<m∨1≤(μ' (rs.idxOf j::p)).u)→μ2 (j::p)={ μ' (rs.idxOf j::p) with u:=(μ' (rs.idxOf j::p)).u+δ (rs.idxOf j::p) }:=fun {j p} h h'=>by
  show(if j ∈ rs then _ else _)=_;rw[if_pos h,if_pos h']
 have mu_old:∀ {j:Nat} {p:Nm},j ∈ rs→¬ (rs.idxOf j<m∨1≤(μ' (rs.idxOf j::p)).u)→μ2 (j::p)=μ (j::p):=fun {j p} h h'=>by
  show(if j ∈ rs then _ else _)=_;rw[if_pos h,if_neg h']
 have mu_out:∀ {j:Nat} {p:Nm},j ∉ rs→μ2 (j::p)=μ (j::p):=fun {j p} h=>by
  show(if j ∈ rs then _ else _)=_;rw[if_neg h]
 have hle:MuLe μ μ2:=fun o=>by
  cases o with
  |nil=>exact⟨Cb _,fun _=>rfl⟩
  |cons j p=>
   by_cases hj:j ∈ rs
   ·by_cases hi:rs.idxOf j<m
    ·rw[mu_in hj (.inl hi),δ0 hi];have e:μc (rs.idxOf j::p)=μ (j::p):=by
      show(if rs.idxOf j<m then _ else _)=_;rw[if_pos hi,nmj hj]
     have:=hs'.mle (rs.idxOf j::p);change (μc (rs.idxOf j::p)).u≤_∧(_=(μc (rs.idxOf j::p)).u→_=μc (rs.idxOf j::p)) at this;rw[e] at this;exact⟨this.1,fun q=>by rw[← this.2 q];rfl⟩
    ·by_cases hu:1≤(μ' (rs.idxOf j::p)).u
     ·rw[mu_in hj (.inr hu),δ1 hi (idx_mem.2 hj),nmj hj,← hs.ver];exact⟨by simp,fun q=>by simp at q;omega⟩
     ·rw[mu_old hj (by omega)];exact⟨Cb _,fun _=>rfl⟩
   ·rw[mu_out hj];exact⟨Cb _,fun _=>rfl⟩
 have notM1:∀ {n:Nm} {b:Nat},ER (μ n) (H n).ob=true→b=(μ n).b→(∀ j p,n=j::p→j ∉ rs)→¬ ∃ o,M1 o b:=fun {n b} hb e hn ⟨_,i,p,_,q1,q2,q3⟩=>by
  refine hs.apart n (nm i p) hb q2 (fun e'=>?_) (by rw[← e,q3]);refine hn _ _ e' ?_;have:i<rs.length:=by omega
  simp[List.getD,this]
 have hx:Ext I μ w I' μ2 w':=⟨fun b h=>hs'.old b h,fun b h=>hs'.kept.block b (hs.lt b h) (fun ⟨_,i,p,_,q1,q2,q3⟩=>(hs.own _ q2).1 (by rw[← q3];exact h)),hle⟩;have hμ2:∀ o,L6 rs.length o→1≤(μ' o).u→μ2 (fB rs o)={ μ' o with u:=(μ' o).u+δ o }:=fun o ho h1=>by
  cases o with
  |nil=>exact ho.elim
  |cons i p=>
   have hi:i<rs.length:=ho;have e:=L4 hnd hi;have hmem:rs.getD i 0 ∈ rs:=idx_mem.1 (by rw[e];exact hi);show μ2 (rs.getD i 0::p)=_;rw[mu_in hmem (.inr (by rw[e];exact h1)),e]
 have oH:∀ {j:Nat} {p:Nm},j ∈ rs→(H' (rs.idxOf j::p))=Hr (rs.idxOf j::p):=fun {j p} h=>hH' _ _ (idx_mem.2 h);have own2:∀ {j:Nat} {p:Nm},j ∈ rs→ER (μ2 (j::p)) (Ig rs m H Hr (j::p)).ob=true→ER (μ' (rs.idxOf j::p)) (H' (rs.idxOf j::p)).ob=true∧(μ2 (j::p)).b=(μ' (rs.idxOf j::p)).b:=fun {j p} hj h=>by
  simp only[Ig,VOb.ren,Yy] at h;by_cases hi:rs.idxOf j<m∨1≤(μ' (rs.idxOf j::p)).u
  ·rw[mu_in hj hi] at h ⊢;rw[oH hj];exact⟨by cases hq:(Hr (rs.idxOf j::p)).ob<;>rw[hq] at h<;>exact h,rfl⟩
  ·rcases hv (rs.idxOf j) p (by omega) (idx_mem.2 hj) with e | e
   ·rw[e] at h;cases h
   ·rw[← oH hj,← hs'.ver] at e;omega
 have own3:∀ {j:Nat} {p:Nm},j ∈ rs→ER (μ2 (j::p)) (Ig rs m H Hr (j::p)).ob=true→(μ2 (j::p)).e=(μ' (rs.idxOf j::p)).e:=fun {j p} hj h=>by
  simp only[Ig,VOb.ren,Yy] at h;by_cases hi:rs.idxOf j<m∨1≤(μ' (rs.idxOf j::p)).u
  ·rw[mu_in hj hi]
  ·rcases hv (rs.idxOf j) p (by omega) (idx_mem.2 hj) with e | e
   ·rw[e] at h;cases h
   ·rw[← oH hj,← hs'.ver] at e;omega
 have blk:∀ {i:Nat} {p:Nm},ER (μ' (i::p)) (H' (i::p)).ob=true→¬ I' (μ' (i::p)).b∧(M1 (i::p) (μ' (i::p)).b∨w.heap.size≤(μ' (i::p)).b)∧(μ' (i::p)).b<w'.heap.size:=fun {i p} h=>hs'.own _ h;refine⟨μ2,hx,⟨?_,hs'.lt,fun b h=>hs'.old b (hs.old b h),fun b h=>?_,fun o=>?_,fun o=>?_,fun o o' k k' hne=>?_,fun o k=>?_,hs.mle.trans hle,fun o k=>?_,by subst hP;exact hs'.tab⟩,hrel.ren hr hμ2⟩
 ·have k1:=hs.kept;have k2:=hs'.kept;refine⟨k2.os.trans k1.os,k2.tape.trans k1.tape,k2.output.trans k1.output,Nat.le_trans k1.size k2.size,fun b hb hM=>?_⟩;refine(k2.block b (Nat.lt_of_lt_of_le hb k1.size) (fun ⟨_,i,p,_,q1,q2,q3⟩=>?_)).trans (k1.block b hb hM);rcases (hs.own _ q2).2.1 with g | g
  ·rw[← q3] at g;exact hM ⟨_,g⟩
  ·rw[← q3] at g;omega
 ·rcases hs'.new b h with g | g
  ·exact hs.new b g
  ·exact .inr (Nat.le_trans hs.kept.size g)
 ·cases o with
  |nil=>exact hs.ver []
  |cons j p=>
   by_cases hj:j ∈ rs
   ·rw[app_in hj];show _=(Hr (rs.idxOf j::p)).u+δ (rs.idxOf j::p);rw[← oH hj,← hs'.ver];by_cases hi:rs.idxOf j<m∨1≤(μ' (rs.idxOf j::p)).u
    ·rw[mu_in hj hi]
    ·rw[mu_old hj hi,δ1 (by omega) (idx_mem.2 hj),nmj hj,hs.ver];omega
   ·rw[app_out hj,mu_out hj];exact hs.ver _
 ·cases o with
  |nil=>exact OSim.keep hx (fun hb=>hs'.kept.block _ (hs.own _ hb).2.2 (notM1 hb rfl (fun j p e=>nomatch e))) (hs.ob [])
  |cons j p=>
   by_cases hj:j ∈ rs
   ·rw[app_in hj];by_cases hi:rs.idxOf j<m∨1≤(μ' (rs.idxOf j::p)).u
    ·rw[mu_in hj hi];have:=hs'.ob (rs.idxOf j::p);rw[oH hj] at this;exact this.ren (ho _ _ (idx_mem.2 hj)) hμ2 rfl
    ·rcases hv (rs.idxOf j) p (by omega) (idx_mem.2 hj) with e | e
     ·simp only[Ig,VOb.ren,e];trivial
     ·rw[← oH hj,← hs'.ver] at e;omega
   ·rw[app_out hj,mu_out hj];exact OSim.keep hx (fun hb=>hs'.kept.block _ (hs.own _ hb).2.2 (notM1 hb rfl (fun j' p' e=>by cases e;exact hj))) (hs.ob _)
 ·have cross:∀ {j:Nat} {p:Nm} {n:Nm},j ∈ rs→ER (μ2 (j::p)) (Ig rs m H Hr (j::p)).ob=true→ER (μ n) (H n).ob=true→(∀ j p,n=j::p→j ∉ rs)→(μ2 (j::p)).b ≠ (μ n).b:=fun {j p n} hj h h' hn e=>by
   obtain⟨q1,q2⟩:=own2 hj h;obtain⟨_,g,_⟩:=blk q1;rw[q2] at e;rcases g with g | g
   ·exact notM1 h' e hn ⟨_,g⟩
   ·have:=(hs.own _ h').2.2;omega
  cases o with
  |nil=>
   cases o' with
   |nil=>exact(hne rfl).elim
   |cons j' p'=>
    by_cases hj':j' ∈ rs
    ·rw[app_in hj'] at k';exact Ne.symm (cross hj' k' k (fun j p e=>nomatch e))
    ·rw[app_out hj',mu_out hj'] at k';rw[mu_out hj'];exact hs.apart _ _ k k' hne
  |cons j p=>
   by_cases hj:j ∈ rs
   ·rw[app_in hj] at k;cases o' with
    |nil=>exact cross hj k k' (fun j p e=>nomatch e)
    |cons j' p'=>
     by_cases hj':j' ∈ rs
     ·rw[app_in hj'] at k';obtain⟨q1,q2⟩:=own2 hj k;obtain⟨r1,r2⟩:=own2 hj' k';rw[q2,r2];refine hs'.apart _ _ q1 r1 (fun e=>hne ?_);have e1:rs.idxOf j=rs.idxOf j':=by injection e
      have e2:p=p':=by injection e
      rw[← Rr hj,← Rr hj',e1,e2]
     ·rw[app_out hj',mu_out hj'] at k';rw[mu_out hj'];exact cross hj k k' (fun j'' p'' e=>by cases e;exact hj')
   ·rw[app_out hj,mu_out hj] at k;rw[mu_out hj];cases o' with
    |nil=>exact hs.apart _ _ k k' hne
    |cons j' p'=>
     by_cases hj':j' ∈ rs
     ·rw[app_in hj'] at k';exact Ne.symm (cross hj' k' k (fun j'' p'' e=>by cases e;exact hj))
     ·rw[app_out hj',mu_out hj'] at k';rw[mu_out hj'];exact hs.apart _ _ k k' hne
 ·have far:∀ {n:Nm},ER (μ n) (H n).ob=true→¬ I' (μ n).b∧(c.M0 n (μ n).b∨c.w0.heap.size≤(μ n).b)∧(μ n).b<w'.heap.size:=fun {n} h=>by
   obtain⟨g1,g2,g3⟩:=hs.own _ h;refine⟨fun h'=>?_,g2,Nat.lt_of_lt_of_le g3 hs'.kept.size⟩;rcases hs'.new _ h' with g | g
   ·exact g1 g
   ·exact absurd (show w.heap.size≤_ from g) (by omega)
  cases o with
  |nil=>exact far k
  |cons j p=>
   by_cases hj:j ∈ rs
   ·rw[app_in hj] at k;obtain⟨q1,q2⟩:=own2 hj k;rw[q2];obtain⟨g1,g2,g3⟩:=blk q1;refine⟨g1,?_,g3⟩;rcases g2 with ⟨i,p',r0,r1,r2,r3⟩ | g2
    ·have e1:rs.idxOf j=i:=by injection r0
     have e2:p=p':=by injection r0
     rw[← e1,← e2,nmj hj] at r2 r3;rw[r3];exact(hs.own _ r2).2.1
    ·exact .inr (Nat.le_trans hs.kept.size g2)
   ·rw[app_out hj,mu_out hj] at k;rw[mu_out hj];exact far k
 ·cases o with
  |nil=>exact hs.tag _ k
  |cons j p=>
   by_cases hj:j ∈ rs
   ·rw[app_in hj] at k;rw[own3 hj k];exact hs'.tag _ (own2 hj k).1
   ·rw[app_out hj,mu_out hj] at k;rw[mu_out hj];exact hs.tag _ k
def mk (P:Program) (t:TypeId) (as':List A):A:=match P.underlying t with
 |some (.struct _)=>.agg as'
 |_=>as'.headD .any
def uY (R:TypeId→List A→Prop):List Field→List A→Prop
 |[],as'=>as'=[]
 |f::fs,as'=>∃ a b,as'=a++b∧R f.type a∧uY R fs b
def Has (P:Program):Nat→TypeId→List A→Prop
 |0,_,_=>False
 |n+1,t,as'=>match P.underlying t with
  |some .bool=>∃ b,as'=[.v (.bool b)]
  |some (.int k)=>∃ m,(Lit.int k m).wf=true∧as'=[.v (.int k m)]
  |some .string=>∃ s,s.size≤maxLen∧s.size≤reachBytes∧as'=[.v (.string s)]
  |some (.slice e)=>∃ f xs,as'=[.sl f xs]∧xs.length≤maxLen∧xs.length*P.bytesOf e≤reachBytes∧(f=true→xs=[])∧∀ x,x ∈ xs→∃ b,Has P n e b∧x=mk P e b
  |some (.struct fs)=>uY (Has P n) fs.toList as'
  |_=>False
def AcV (R:TypeId→List A→Prop):List TypeId→List A→Prop
 |[],as'=>as'=[]
 |t::ts,as'=>∃ a b,as'=a++b∧R t a∧AcV R ts b
theorem Za {R:TypeId→List A→Prop}:∀ {fs:List Field} {as':List A},uY R fs as' ↔ AcV R (fs.map Field.type) as'
 |[],as'=>Iff.rfl
 |f::fs,as'=>by simp only[uY,AcV,List.map_cons,Za (fs:=fs)]
def o5 (P:Program):Nat→List Field→Option Nat
 |off,[]=>some off
 |off,f::fs=>if f.offset=off then o5 P (off+P.cellsOf f.type) fs else none
def NY (P:Program) (S:List TypeId):Bool:=S.all fun t=>match P.underlying t with
 |some .bool | some (.int _) | some .string=>P.cellsOf t == 1
 |some (.slice e)=>P.cellsOf t == 1&&(decide (0<P.cellsOf e)&&S.contains e)
 |some (.struct fs)=>o5 P 0 fs.toList == some (P.cellsOf t)&&fs.toList.all fun f=>S.contains f.type
 |_=>false
theorem pd {β:Type} {R:Nat→β→Prop}:∀ {n:Nat},(∀ i,i<n→∃ b,R i b)→∃ l:List β,l.length=n∧∀ (i:Nat) (b:β),l[i]? = some b→R i b
 |0,_=>⟨[],rfl,fun i b h=>by simp at h⟩
 |n+1,h=>by
  obtain⟨l,h1,h2⟩:=pd (n:=n) (fun i hi=>h i (by omega));obtain⟨b,hb⟩:=h n (by omega);refine⟨l++[b],by simp[h1],fun i c hc=>?_⟩;rw[List.getElem?_append] at hc;split at hc
  ·exact h2 i c hc
  ·rename_i hi;have:i=n:=by
    have:=(List.getElem?_eq_some_iff.1 hc).1;simp at this;omega
   subst this;simp[h1] at hc;subst hc;exact hb
theorem X1 {α β:Type} {f:α→Option β}:∀ {l:List α} {r:List β},l.mapM f=some r→r.length=l.length∧∀ (i:Nat) (a:α),l[i]? = some a→∃ b,f a=some b∧r[i]? = some b
 |[],r,h=>by
  simp at h;subst h;exact⟨rfl,fun i a h=>by simp at h⟩
 |a::l,r,h=>by
  rw[List.mapM_cons] at h;simp only[Option.bind_eq_bind,Option.bind_eq_some_iff] at h;obtain⟨b,hb,r',hr,h⟩:=h;cases h;obtain⟨h1,h2⟩:=X1 hr;refine⟨by simp[h1],fun i c hc=>?_⟩;cases i with
  |zero=>simp at hc;subst hc;exact⟨b,hb,rfl⟩
  |succ i=>simpa using h2 i c (by simpa using hc)
theorem cells?_get {w:World} {base:Nat} {a:Addr} {n:Nat} {cs:List Value} (h:w.cells? base a n=some cs):cs.length=n∧∀ i,i<n→w.cell? (a.add i)=some (cs.getD i undef):=by
 unfold World.cells? at h;split at h
 ·obtain⟨h1,h2⟩:=X1 h;refine⟨by simpa using h1,fun i hi=>?_⟩;obtain⟨b,hb,hr⟩:=h2 i i (by simp[hi]);rw[hb];simp[List.getD,hr]
 ·cases h
theorem Kp {P:Program} {n:Nat} {t:TypeId} {as':List A} (h:Has P n t as'):(mk P t as').cells=as':=by
 cases n with
 |zero=>exact h.elim
 |succ n=>
  unfold Has at h;unfold mk;split at h
  ·rename_i hu;obtain⟨b,rfl⟩:=h;rw[hu];rfl
  ·rename_i hu;obtain⟨m,_,rfl⟩:=h;rw[hu];rfl
  ·rename_i hu;obtain⟨m,_,_,rfl⟩:=h;rw[hu];rfl
  ·rename_i hu;obtain⟨f,xs,rfl,_⟩:=h;rw[hu];rfl
  ·rename_i hu;rw[hu];rfl
  ·exact h.elim
theorem xM {sz:Nat} (hp:0<sz) {xs:List A} {k:Nat} {y:A} (h:∀ x,x ∈ xs→x.cells.length=sz) (hk:(xs.flatMap A.cells)[k]? = some y):∃ x,xs[k / sz]? = some x∧x.cells[k % sz]? = some y:=by
 have hl:=(List.getElem?_eq_some_iff.1 hk).1;rw[BS h] at hl;have hi:k / sz<xs.length:=by rw[Nat.div_lt_iff_lt_mul hp];exact hl
 have hj:k % sz<sz:=Nat.mod_lt _ hp;have hx:xs[k / sz]? = some xs[k / sz]:=List.getElem?_eq_getElem hi;have hcl:=h _ (List.mem_of_getElem? hx);have hz:xs[k / sz].cells[k % sz]? = some (xs[k / sz].cells[k % sz]'(by omega)):=List.getElem?_eq_getElem (by omega);have:=Oz h hx hz;have e:k / sz*sz+k % sz=k:=by rw[Nat.mul_comm];exact Nat.div_add_mod k sz
 rw[e,hk] at this;exact⟨_,hx,by rw[hz];exact this.symm⟩
theorem rI {α:Type} {l l':List α} {k:Nat} {d:α} (h:k<l.length):(l++l').getD k d=l.getD k d:=by
 simp[List.getD,List.getElem?_append_left h]
theorem l6 {α:Type} {l l':List α} {k:Nat} {d:α} (h:l.length≤k):(l++l').getD k d=l'.getD (k-l.length) d:=by
 simp[List.getD,List.getElem?_append_right h]
section
variable {H:Type} {enc:TypeId × Value→H} {P:Program} {w:World} {base:Nat} {sp:Nat→Bool} {held:Bool}
abbrev Old (w:World) (b:Nat):Prop:=b<w.heap.size
def Fits (w:World) (as':List A) (cs:List Value):Prop:=as'.length=cs.length∧∀ (k:Nat) (y:A),as'[k]? = some y→y.one=true∧Rel w (Old w) Zw y (cs.getD k undef)
theorem Fits.one {x:A} {v:Value} (h:x.one=true) (hr:Rel w (Old w) Zw x v):Fits w [x] [v]:=⟨rfl,fun k y hk=>by
 cases k with
 |zero=>cases hk;exact⟨h,hr⟩
 |succ k=>simp at hk⟩
theorem Fits.append {as' bs:List A} {cs ds:List Value} (h:Fits w as' cs) (h':Fits w bs ds):Fits w (as'++bs) (cs++ds):=⟨by simp[h.1,h'.1],fun k y hk=>by
 rw[List.getElem?_append] at hk;split at hk
 ·rename_i hl;have:=h.2 k y hk
  rwa [rI (by rw[← h.1];exact hl)]
 ·rename_i hl;have:=h'.2 _ y hk;rw[l6 (by rw[← h.1];omega),← h.1];exact this⟩
theorem YD {n:Nat} {cs:List Value} (ih:∀ (t:TypeId) (cs:List Value) x,DataW.trod enc P w base sp held n t cs=some x→P.cellsOf t=cs.length→(∀ m,m ∈ DataW.weights P t x.1→m≤reachBytes)→∀ S,NY P S=true→t ∈ S→∃ as',Has P n t as'∧Fits w as' cs) {S:List TypeId} (hS:NY P S=true) :
  ∀ (fs:List Field) (off tot:Nat) xs,(∀ m,m ∈ DataW.weightsEach P (fs.map Field.type) (xs.map (·.1))→m≤reachBytes)→(∀ f,f ∈ fs→f.type ∈ S)→o5 P off fs=some tot→tot=cs.length→(fs.mapM fun f=>DataW.trod enc P w base sp held n f.type ((cs.drop f.offset).take (P.cellsOf f.type)))=some xs →
   ∃ as',uY (Has P n) fs as'∧Fits w as' (cs.drop off)∧off≤tot
 |[],off,tot,xs,_,_,ht,hn,_=>by
  cases ht;refine⟨[],rfl,⟨?_,fun k y hk=>by simp at hk⟩,Cb _⟩;simp[hn]
 |f::fs,off,tot,xs,hw,hf,ht,hn,hm=>by
  unfold o5 at ht;split at ht
  ·rename_i ho;rw[List.mapM_cons] at hm;simp only[Option.bind_eq_bind,Option.bind_eq_some_iff] at hm;obtain⟨x,hx,xs',hxs,hq⟩:=hm;cases hq;simp only[List.map_cons,DataW.weightsEach,List.mem_append] at hw;obtain⟨bs,hb1,hb2,hb3⟩:=YD ih hS fs (off+P.cellsOf f.type) tot xs' (fun m hm=>hw m (.inr hm)) (fun g hg=>hf g (by simp[hg])) ht hn hxs;rw[ho] at hx;obtain⟨as',ha1,ha2⟩:=ih f.type _ x hx (by simp;omega) (fun m hm=>hw m (.inl hm)) S hS (hf f (by simp));refine⟨as'++bs,⟨as',bs,rfl,ha1,hb1⟩,?_,by omega⟩;have e:cs.drop off=(cs.drop off).take (P.cellsOf f.type)++cs.drop (off+P.cellsOf f.type):=by
    rw[← List.drop_drop,List.take_append_drop]
   rw[e];exact ha2.append hb2
  ·cases ht
theorem PY {e:TypeId} {d:DataW H} {m:Nat} (h:m ∈ DataW.weights P e d):∀ {l:List (DataW H)},d ∈ l→m ∈ DataW.weightsAll P e l
 |x::l,hd=>by
  simp only[DataW.weightsAll,List.mem_append];rcases List.mem_cons.1 hd with rfl | hd
  ·exact .inl h
  ·exact .inr (PY h hd)
theorem F9:∀ (n:Nat) (t:TypeId) (cs:List Value) (x:DataW H × List MemPlace),DataW.trod enc P w base sp held n t cs=some x→P.cellsOf t=cs.length→(∀ m,m ∈ DataW.weights P t x.1→m≤reachBytes)→∀ S,NY P S=true→t ∈ S→∃ as',Has P n t as'∧Fits w as' cs
 |0,t,cs,x,h,_,_,_,_,_=>by simp[DataW.trod] at h
 |n+1,t,cs,x,h,hlen,hwt,S,hS,ht=>by
  have hT:=hS;unfold NY at hT;rw[List.all_eq_true] at hT;have hT:=hT t ht;have ih:=F9 n;unfold DataW.trod at h;split at h
  ·rename_i b hu;exact⟨[.v (.bool b)],by unfold Has;rw[hu];exact⟨b,rfl⟩,Fits.one rfl (.v _ _)⟩
  ·rename_i k k' m hu;split at h
   ·rename_i hk;obtain⟨rfl,hw⟩:=hk;exact⟨[.v (.int k' m)],by unfold Has;rw[hu];exact⟨m,hw,rfl⟩,Fits.one rfl (.v _ _)⟩
   ·cases h
  ·rename_i hu;rw[hu] at hT;cases hT
  ·rename_i s hu;split at h
   ·rename_i hs;cases h;have hz:s.size≤reachBytes:=by
     have:=hwt s.data.toList.length (by simp[DataW.weights]);simpa using this
    exact⟨[.v (.string s)],by unfold Has;rw[hu];exact⟨s,hs,hz,rfl⟩,Fits.one rfl (.v _ _)⟩
   ·cases h
  ·rename_i hu;rw[hu] at hT;cases hT
  ·rename_i hu;rw[hu] at hT;cases hT
  ·rename_i e hu;exact⟨[.sl true []],by unfold Has;rw[hu];exact⟨true,[],rfl,by simp,by simp,fun _=>rfl,fun x hx=>by simp at hx⟩,Fits.one rfl (.slN _ _ _ _ (fun _=>rfl))⟩
  ·rename_i e a len cap hu;rw[hu] at hT;simp only[Bool.and_eq_true,decide_eq_true_eq,beq_iff_eq] at hT;obtain⟨_,hpos,heS⟩:=hT;have heS:e ∈ S:=by simpa using heS
   split at h
   ·rename_i hb;obtain⟨hb0,hb1,hb2⟩:=hb;simp only[Option.bind_eq_some_iff] at h;obtain⟨elems,he,h⟩:=h;simp only[Option.map_eq_some_iff] at h;obtain⟨rest,_,rfl⟩:=h;simp only[DataW.weights,hu] at hwt;obtain⟨he1,he2⟩:=X1 he;have each:∀ i,i<len→∃ as':List A,Has P n e as'∧∃ cs,w.cells? base (a.add (i*P.cellsOf e)) (P.cellsOf e)=some cs∧Fits w as' cs:=fun i hi=>by
     obtain⟨y,hy,hg⟩:=he2 i i (by simp[hi]);simp only[Option.bind_eq_some_iff] at hy;obtain⟨cs,hc1,hc2⟩:=hy;obtain⟨as',h1,h2⟩:=ih e cs y hc2 (cells?_get hc1).1.symm (fun m hm=>hwt m (List.mem_cons_of_mem _ (List.mem_append_left _ (PY hm (List.mem_map.2 ⟨y,List.mem_of_getElem? hg,rfl⟩))))) S hS heS;exact⟨as',h1,cs,hc1,h2⟩
    obtain⟨l,hl1,hl2⟩:=pd each;have hxs:(l.map (mk P e)).length=len:=by simpa using hl1
    refine⟨[.sl false (l.map (mk P e))],by
     unfold Has;rw[hu];refine⟨false,_,rfl,by rw[hxs];omega,by
      have:=hwt _ List.mem_cons_self;rw[hxs];refine Nat.le_trans (Nat.mul_le_mul_right _ ?_) this;simp at he1 ⊢;omega,(fun h=>nomatch h),fun x hx=>?_⟩
     obtain⟨b,hb,rfl⟩:=List.mem_map.1 hx;obtain⟨i,hi⟩:=List.getElem?_of_mem hb;exact⟨b,(hl2 i b hi).1,rfl⟩,Fits.one rfl ?_⟩
    by_cases h0:len=0
    ·subst h0;have:l=[]:=List.length_eq_zero_iff.1 hl1;subst this;exact .slN _ _ _ _ (fun h=>by cases h)
    ·have hlen2:∀ x,x ∈ l.map (mk P e)→x.cells.length=P.cellsOf e:=fun x hx=>by
      obtain⟨b,hb,rfl⟩:=List.mem_map.1 hx;obtain⟨i,hi⟩:=List.getElem?_of_mem hb;obtain⟨k1,cs,k2,k3⟩:=hl2 i b hi;rw[Kp k1,k3.1,(cells?_get k2).1]
     have hspot:a.spot=none∧a.block<w.heap.size:=by
      obtain⟨b,hb⟩:∃ b,l[0]? = some b:=⟨_,List.getElem?_eq_getElem (by omega)⟩;obtain⟨_,cs,k2,_⟩:=hl2 0 b hb;have:=(cells?_get k2).2 0 hpos;simp only[Nat.zero_mul,Addr.add,if_true,World.cell?] at this;split at this
      ·rename_i hh;split at this
       ·cases this
       ·rename_i hsp;exact⟨by simpa using hsp,(Array.getElem?_eq_some_iff.1 hh).1⟩
      ·cases this
     obtain⟨b,off,sp'⟩:=a;obtain⟨hsp,hbl⟩:=hspot;simp only at hsp hbl;subst hsp;have main:∀ (k:Nat) (y:A),((l.map (mk P e)).flatMap A.cells)[k]? = some y→y.one=true∧w.cell? ⟨b,off+k,none⟩=some ((w.cell? ⟨b,off+k,none⟩).getD undef)∧Rel w (Old w) Zw y ((w.cell? ⟨b,off+k,none⟩).getD undef):=fun k y hk=>by
      obtain⟨x,hx,hy⟩:=xM hpos hlen2 hk;rw[List.getElem?_map] at hx;simp only[Option.map_eq_some_iff] at hx;obtain⟨as',ha,rfl⟩:=hx;obtain⟨k1,cs,k2,k3⟩:=hl2 _ as' ha;rw[Kp k1] at hy;have hj:k % P.cellsOf e<P.cellsOf e:=Nat.mod_lt _ hpos;have hc:=(cells?_get k2).2 _ hj;have ea:((⟨b,off,none⟩:Addr).add (k / P.cellsOf e*P.cellsOf e)).add (k % P.cellsOf e)=⟨b,off+k,none⟩:=by
       have:=Nat.div_add_mod k (P.cellsOf e);rw[Nat.mul_comm] at this;unfold Addr.add;split<;>split<;>simp<;>omega
      rw[ea] at hc;obtain⟨k4,k5⟩:=k3.2 _ y hy;exact⟨k4,by rw[hc];rfl,by rw[hc];exact k5⟩
     exact .sl _ false b off len cap (P.cellsOf e) _ (fun k=>(w.cell? ⟨b,off+k,none⟩).getD undef) hbl hxs.symm (by omega) (fun h=>by cases h) hlen2 (fun k y hk=>(main k y hk).1) (fun k y hk=>(main k y hk).2.1) (fun k y hk=>(main k y hk).2.2)
   ·cases h
  ·rename_i fs hu;rw[hu] at hT;simp only[Bool.and_eq_true,beq_iff_eq,List.all_eq_true] at hT;split at h
   ·simp only[Option.map_eq_some_iff] at h;obtain⟨xs,hx,rfl⟩:=h;simp only[DataW.weights,hu] at hwt;obtain⟨as',h1,h2,_⟩:=YD (fun t cs x h hl hw S hS ht=>ih t cs x h hl hw S hS ht) hS fs.toList 0 _ xs hwt (fun f hf=>by simpa using hT.2 f hf) hT.1 hlen hx;exact⟨as',by unfold Has;rw[hu];exact h1,by simpa using h2⟩
   ·cases h
  all_goals first | (rename_i hu;rw[hu] at hT;cases hT;done) | cases h
end
def ArgsHas (P:Program):List TypeId→List A→Prop
 |[],[]=>True
 |t::ts,a::as'=>(∃ n b,Has P n t b∧a=mk P t b)∧ArgsHas P ts as'
 |_,_=>False
section
open Go.ChangeShapes Go.WideShapes
variable {H:Type} {enc:TypeId × Value→H} {P:Program} {w:World} {base:Nat} {sp:Nat→Bool} {held:Bool}
theorem hY {S:List TypeId} (hS:NY P S=true) {t:TypeId} (ht:t ∈ S) {v:Value} {d:DataW H} {p:List MemPlace} {base':Nat} (hwt:∀ m,m ∈ DataW.weights P t d→m≤reachBytes) (h:DataW.Trod enc P w base sp held t v d p) (hv:Value.okWide P w .any base' t v) :
  ∃ n b,Has P n t b∧Rel w (Old w) Zw (mk P t b) v:=by
 obtain⟨n,hn⟩:=h;have hT:=hS;unfold NY at hT;rw[List.all_eq_true] at hT;have hT:=hT t ht;have one:∀ {b:List A},Has P n t b→(mk P t b).cells=[mk P t b]→v.cells.toList=[v]→Fits w b v.cells.toList→Rel w (Old w) Zw (mk P t b) v:=fun {b} hb h1 h2 h3=>by
  have h4:=Kp hb;rw[h1] at h4;have e:b[0]? = some (mk P t b):=by
   have:[mk P t b][0]? = some (mk P t b):=rfl
   rwa [h4] at this
  have:=(h3.2 0 (mk P t b) e).2;rw[h2] at this;exact this
 cases hu:P.underlying t with
 |none=>rw[hu] at hT;cases hT
 |some ty=>
  rw[hu] at hT;cases ty with
  |struct fs=>
   simp only[Bool.and_eq_true,beq_iff_eq] at hT;obtain⟨cs,rfl,hsz⟩:=okWide_struct hu hv;obtain⟨b,hb,hf⟩:=F9 n t _ _ hn (by show P.cellsOf t=cs.toList.length;simp[hsz]) hwt S hS ht;refine⟨n,b,hb,?_⟩;have:mk P t b = .agg b:=by unfold mk;rw[hu]
   rw[this];refine .agg _ _ _ ?_ fun k y hk=>?_
   ·have:=hf.1;simpa[Value.cells] using this.symm
   ·have:=(hf.2 k y hk).2;simpa[Value.cells,List.getD,Array.getD_eq_getD_getElem?] using this
  |bool=>
   obtain⟨q,rfl⟩:=okWide_bool hu hv;simp only[beq_iff_eq] at hT;obtain⟨b,hb,hf⟩:=F9 n t _ _ hn (by rw[hT];rfl) hwt S hS ht;refine⟨n,b,hb,one hb ?_ rfl hf⟩;obtain⟨y,rfl⟩:∃ y,b=[y]:=List.length_eq_one_iff.1 (by have:=hf.1;simpa[Value.cells] using this);unfold mk;rw[hu];have:=Kp hb;unfold mk at this;rw[hu] at this;exact this
  |int k=>
   obtain⟨q,rfl⟩:=okWide_int hu hv;simp only[beq_iff_eq] at hT;obtain⟨b,hb,hf⟩:=F9 n t _ _ hn (by rw[hT];rfl) hwt S hS ht;refine⟨n,b,hb,one hb ?_ rfl hf⟩;obtain⟨y,rfl⟩:∃ y,b=[y]:=List.length_eq_one_iff.1 (by have:=hf.1;simpa[Value.cells] using this);unfold mk;rw[hu];have:=Kp hb;unfold mk at this;rw[hu] at this;exact this
  |string=>
   obtain⟨q,rfl⟩:=okWide_string hu hv;simp only[beq_iff_eq] at hT;obtain⟨b,hb,hf⟩:=F9 n t _ _ hn (by rw[hT];rfl) hwt S hS ht;refine⟨n,b,hb,one hb ?_ rfl hf⟩;obtain⟨y,rfl⟩:∃ y,b=[y]:=List.length_eq_one_iff.1 (by have:=hf.1;simpa[Value.cells] using this);unfold mk;rw[hu];have:=Kp hb;unfold mk at this;rw[hu] at this;exact this
  |slice e=>
   obtain⟨a,l,c,rfl⟩:=okWide_slice hu hv;simp only[Bool.and_eq_true,beq_iff_eq] at hT;obtain⟨b,hb,hf⟩:=F9 n t _ _ hn (by rw[hT.1];rfl) hwt S hS ht;refine⟨n,b,hb,one hb ?_ rfl hf⟩;obtain⟨y,rfl⟩:∃ y,b=[y]:=List.length_eq_one_iff.1 (by have:=hf.1;simpa[Value.cells] using this);unfold mk;rw[hu];have:=Kp hb;unfold mk at this;rw[hu] at this;exact this
  |_=>simp at hT
theorem SM {S:List TypeId} (hS:NY P S=true) {base':Nat}:∀ {ts:List TypeId} {vs:List Value} {ds:List (DataW H)} {ps:List MemPlace},(∀ t,t ∈ ts→t ∈ S)→(∀ m,m ∈ DataW.weightsEach P ts ds→m≤reachBytes)→DataW.TrodAll enc P w base sp held ts vs ds ps →
  (∀ (j:Nat) t v,ts[j]? = some t→vs[j]? = some v→Value.okWide P w .any base' t v)→∃ as',as'.length=vs.length∧ArgsHas P ts as'∧∀ (k:Nat) (y:A),as'[k]? = some y→Rel w (Old w) Zw y (vs.getD k undef)
 |[],_,_,_,_,_,h,_=>by
  obtain⟨rfl,rfl,rfl⟩:=trodAll_nil h;exact⟨[],rfl,trivial,fun k y hk=>by simp at hk⟩
 |t::ts,_,_,_,hts,hwt,h,hv=>by
  obtain⟨v,vs,d,ds,p,q,rfl,rfl,rfl,h1,h2⟩:=trodAll_cons h;simp only[DataW.weightsEach,List.mem_append] at hwt;obtain⟨n,b,hb,hr⟩:=hY hS (hts t (by simp)) (fun m hm=>hwt m (.inl hm)) h1 (hv 0 t v rfl rfl);obtain⟨as',k1,k2,k3⟩:=SM hS (fun u hu=>hts u (by simp[hu])) (fun m hm=>hwt m (.inr hm)) h2 (fun j u x hj hx=>hv (j+1) u x (by simpa using hj) (by simpa using hx));refine⟨mk P t b::as',by simp[k1],⟨⟨n,b,hb,rfl⟩,k2⟩,fun k y hk=>?_⟩;cases k with
  |zero=>cases hk;exact hr
  |succ k=>exact k3 k y (by simpa using hk)
end
@[simp] theorem Abj {k k':IntKind} {x y:Int}:GQ true [.v (.int k x),.v (.int k' y)]=some (.v (.int k (max x y))):=by
 simp only[GQ,if_true];congr 3;split<;>omega
@[simp] theorem Abg {k k':IntKind} {x y:Int}:GQ false [.v (.int k x),.v (.int k' y)]=some (.v (.int k (min x y))):=by
 simp only[GQ,Bool.false_eq_true,if_false];congr 3;split<;>omega
def ov (r:Nat) (F:Nm→VOb) (H:Hp):Hp
 |j::p=>if j=r then F p else H (j::p)
 |[]=>H []
@[simp] theorem DT {r j:Nat} {p:Nm} {F:Nm→VOb} {H:Hp}:ov r F H (j::p)=if j=r then F p else H (j::p):=rfl
@[simp] theorem Akm {r:Nat} {F:Nm→VOb} {H:Hp}:ov r F H []=H []:=rfl
@[simp] theorem Ai5 {r j:Nat} {p:Nm} {F:Nm→VOb} {H:Hp} {x:VOb}:Bh (ov r F H) (j::p) x=if j=r then ov r (Bh F p x) H else ov r F (Bh H (j::p) x):=by
 funext o;cases o with
 |nil=>
  by_cases h:j=r
  ·rw[if_pos h];simp[Bh]
  ·rw[if_neg h];simp[Bh]
 |cons k q=>
  by_cases h:j=r
  ·subst h;rw[if_pos rfl];by_cases hk:k=j
   ·subst hk;simp[Bh]
   ·have:¬ k::q=j::p:=fun e=>hk (by injection e);simp[Bh,hk,this]
  ·rw[if_neg h];by_cases hk:k=r
   ·subst hk;have:¬ k::q=j::p:=fun e=>h (by injection e with e _;exact e.symm);simp[Bh,this]
   ·simp[Bh,hk]
theorem Aa {α:Type} {F:Nm→α} {d o:Nm} {x:α}:Bh F d x o=if o=d then x else F o:=rfl
theorem SC {α:Type} {F G:Nm→α} {d p:Nm} {x:α} (h:x=G d) (k:p ≠ d→F p=G p):Bh F d x p=G p:=by
 rw[Aa];split
 ·rename_i e;rw[e];exact h
 ·exact k (by assumption)
def Sh (rs:List Nat) (m:Nat) (H:Hp):Hp
 |i::p=>if i<m then (H (rs.getD i 0::p)).ren (kz rs) (fun _=>0) 0 else ⟨0,.none⟩
 |[]=>⟨0,.none⟩
def Zt (rs:List Nat) (δ:Nm→Nat) (B Hr:Hp):Hp
 |j::p=>if rs.contains j=true then (Hr (rs.idxOf j::p)).ren (fB rs) δ (δ (rs.idxOf j::p)) else B (j::p)
 |[]=>B []
theorem Wq {rs:List Nat} {m:Nat} {H Hr:Hp}:(Eff.fn rs (Ig rs m H Hr)).app H=Zt rs (Tk rs m H) H Hr:=by
 funext o;cases o<;>rfl
theorem Spec.toB {P:Program} {f:FuncId} {args:List A} {r:A} (h:Spec P f args r) (hr:r.flat=true):SpecB P f args r:=
 ⟨h.1,fun w I J vs hI hJ ht hl ha=>(h.2 w (fun b=>I b∨J b) vs (fun b hb=>hb.elim (hI b) (hJ b)) (ht.mono (fun _ h=>.inl h) (fun _ _=>rfl)) hl ha).mono fun e w' ⟨v,he,hB,hr'⟩=>⟨v,he,hB,hr'.of_flat hr⟩⟩
def Wk (rs:List Nat) (m:Nat) (H:Hp):Prop:=∀ (j:Nat) (p:Nm),rs.idxOf j<m→(H (j::p)).ob.refs (g9 rs m)
theorem i9 {P:Program} {K:Sta→Prop} {rest:List CO} {s:Nat→A} {H:Hp} {dd:Option Nat} {nm:Nm} {ix:Nat} {un:List Nat} {l:Bool} {lg:Lg} {g:FuncId} {as':Array Operand} {ts:Array TypeId}
  (rs:List Nat) (m:Nat) {args:List A} {Hc Hr H':Hp} {r x:A} (hS:Vz P g rs.length args Hc r Hr) (hnd:rs.Nodup) (hm:m≤rs.length)
  (ha:A.renL (kz rs) (fun _=>0) (as'.toList.map (evs s))=args) (har:A.refsL (g9 rs m) (as'.toList.map (evs s))) (hH:Sh rs m H=Hc) (hcl:Wk rs m H)
  (hr:r.refs (L6 rs.length)) (ho:∀ (i:Nat) (p:Nm),i<rs.length→(Hr (i::p)).ob.refs (L6 rs.length)) (hv:∀ (i:Nat) (p:Nm),m≤i→i<rs.length→(Hr (i::p)).ob = .none∨1≤(Hr (i::p)).u)
  (hx:r.ren (fB rs) (Tk rs m H)=x) (hH':Zt rs (Tk rs m H) H Hr=H') (hck:Ck un lg ⟨[],rs.map fun r=>([r],true)⟩)
  (h:AH P K rest (B0 l ix ⟨[],rs.map fun r=>([r],true)⟩ lg) (Sta.put ⟨s,H⟩ dd x H')) :
  AH P K (⟨dd,.call { callee:=.value (.func g),args:=as',argTypes:=ts },none,nm,ix,un,l⟩::rest) lg ⟨s,H⟩:=by
 have hit_in:∀ {j:Nat} {p:Nm},j ∈ rs→dQ (rs.map fun r=>([r],true)) (j::p)=true:=fun {j p} hj=>by
  simp only[dQ,List.any_map,List.any_eq_true];exact⟨j,hj,by simp[Zk,List.isPrefixOf]⟩
 have hnil:(Eff.fn rs (Ig rs m H Hr)).app H=H':=by rw[Wq];exact hH'
 subst hx;rw[← hnil] at h;refine yo (Eff.fn rs (Ig rs m H Hr)) [] (rs.map fun r=>([r],true)) (fun H2 hag=>?_) (fun o H2 ho'=>?_) hck h
 ·have ag:∀ {j:Nat} {p:Nm},j ∈ rs→H2 (j::p)=H (j::p):=fun {j p} hj=>hag _ (by simpa using hit_in hj);have agi:∀ {i:Nat} {p:Nm},i<rs.length→H2 (rs.getD i 0::p)=H (rs.getD i 0::p):=fun {i p} hi=>ag (by simp[List.getD,hi]);have hd:Tk rs m H2=Tk rs m H:=by
   funext o;cases o with
   |nil=>rfl
   |cons i p=>
    simp only[Tk];by_cases hi:i<rs.length
    ·rw[agi hi]
    ·rw[if_neg hi,if_neg hi]
  have hoH:Ig rs m H2 Hr=Ig rs m H Hr:=by
   funext o;cases o with
   |nil=>rfl
   |cons j p=>simp only[Ig,hd]
  subst ha;have:=Uw (P:=P) (f:=g) (rs:=rs) (m:=m) (args:=as'.toList.map (evs s)) (Hc:=Hc) (Hr:=Hr) (r:=r) (H:=H2) hnd hm hS
   (fun i p hi=>by rw[← hH,agi (by omega)];simp only[Sh,if_pos hi]) (fun i p hi=>by rw[← hH];simp only[Sh];rw[if_neg (by omega)]) (by rw[← hH];rfl) har
   (fun i p hi=>by rw[agi (by omega)];exact hcl _ _ (by rw[L4 hnd (by omega)];exact hi)) hr ho hv
  rwa [hd,hoH] at this
 ·cases o with
  |nil=>rfl
  |cons j p=>
   have:¬ j ∈ rs:=fun hj=>by rw[hit_in hj] at ho';cases ho'
   simp[Eff.app,this]
theorem qw {P:Program} {K:Sta→Prop} {rest:List CO} {s:Nat→A} {H:Hp} {dd:Option Nat} {nm:Nm} {ix:Nat} {un:List Nat} {l:Bool} {lg:Lg} {g:FuncId} {fo:Operand} {fs caps L:List A} {as':Array Operand} {ts:Array TypeId} {x:A} (hv0:evs s fo = .fnc g fs caps) (hL:fs++(as'.toList.map (evs s)++caps)=L) (E:Eff) (R W:Fp) (hs:∀ H2,Agree (R++W) H H2→cP P H2 g L x E) (hw:Uj E W) (hc:Ck un lg ⟨R,W⟩) (h:AH P K rest (B0 l ix ⟨R,W⟩ lg) (Sta.put ⟨s,H⟩ dd x (E.app H))) :
  AH P K (⟨dd,.call { callee:=.value fo,args:=as',argTypes:=ts },none,nm,ix,un,l⟩::rest) lg ⟨s,H⟩:=by
 subst hL;exact⟨x,E,⟨R,W⟩,⟨g,fs,caps,hv0,.inr (.inr ⟨hs,hw⟩)⟩,hc,h⟩
theorem rh {P:Program} {K:Sta→Prop} {rest:List CO} {s:Nat→A} {H:Hp} {dd:Option Nat} {nm:Nm} {ix:Nat} {un:List Nat} {l:Bool} {lg:Lg} {g:FuncId} {fo:Operand} {fs caps L:List A} {as':Array Operand} {ts:Array TypeId}
  (hv0:evs s fo = .fnc g fs caps) (hL:fs++(as'.toList.map (evs s)++caps)=L) (rs:List Nat) (m:Nat) {args:List A} {Hc Hr H':Hp} {r x:A} (hS:Vz P g rs.length args Hc r Hr) (hnd:rs.Nodup) (hm:m≤rs.length)
  (ha:A.renL (kz rs) (fun _=>0) L=args) (har:A.refsL (g9 rs m) L) (hH:Sh rs m H=Hc) (hcl:Wk rs m H)
  (hr:r.refs (L6 rs.length)) (ho:∀ (i:Nat) (p:Nm),i<rs.length→(Hr (i::p)).ob.refs (L6 rs.length)) (hv:∀ (i:Nat) (p:Nm),m≤i→i<rs.length→(Hr (i::p)).ob = .none∨1≤(Hr (i::p)).u)
  (hx:r.ren (fB rs) (Tk rs m H)=x) (hH':Zt rs (Tk rs m H) H Hr=H') (hck:Ck un lg ⟨[],rs.map fun r=>([r],true)⟩)
  (h:AH P K rest (B0 l ix ⟨[],rs.map fun r=>([r],true)⟩ lg) (Sta.put ⟨s,H⟩ dd x H')) :
  AH P K (⟨dd,.call { callee:=.value fo,args:=as',argTypes:=ts },none,nm,ix,un,l⟩::rest) lg ⟨s,H⟩:=by
 have hit_in:∀ {j:Nat} {p:Nm},j ∈ rs→dQ (rs.map fun r=>([r],true)) (j::p)=true:=fun {j p} hj=>by
  simp only[dQ,List.any_map,List.any_eq_true];exact⟨j,hj,by simp[Zk,List.isPrefixOf]⟩
 have hnil:(Eff.fn rs (Ig rs m H Hr)).app H=H':=by rw[Wq];exact hH'
 subst hx;rw[← hnil] at h;refine qw hv0 hL (Eff.fn rs (Ig rs m H Hr)) [] (rs.map fun r=>([r],true)) (fun H2 hag=>?_) (fun o H2 ho'=>?_) hck h
 ·have ag:∀ {j:Nat} {p:Nm},j ∈ rs→H2 (j::p)=H (j::p):=fun {j p} hj=>hag _ (by simpa using hit_in hj);have agi:∀ {i:Nat} {p:Nm},i<rs.length→H2 (rs.getD i 0::p)=H (rs.getD i 0::p):=fun {i p} hi=>ag (by simp[List.getD,hi]);have hd:Tk rs m H2=Tk rs m H:=by
   funext o;cases o with
   |nil=>rfl
   |cons i p=>
    simp only[Tk];by_cases hi:i<rs.length
    ·rw[agi hi]
    ·rw[if_neg hi,if_neg hi]
  have hoH:Ig rs m H2 Hr=Ig rs m H Hr:=by
   funext o;cases o with
   |nil=>rfl
   |cons j p=>simp only[Ig,hd]
  subst ha;have:=Uw (P:=P) (f:=g) (rs:=rs) (m:=m) (args:=L) (Hc:=Hc) (Hr:=Hr) (r:=r) (H:=H2) hnd hm hS
   (fun i p hi=>by rw[← hH,agi (by omega)];simp only[Sh,if_pos hi]) (fun i p hi=>by rw[← hH];simp only[Sh];rw[if_neg (by omega)]) (by rw[← hH];rfl) har
   (fun i p hi=>by rw[agi (by omega)];exact hcl _ _ (by rw[L4 hnd (by omega)];exact hi)) hr ho hv
  rwa [hd,hoH] at this
 ·cases o with
  |nil=>rfl
  |cons j p=>
   have:¬ j ∈ rs:=fun hj=>by rw[hit_in hj] at ho';cases ho'
   simp[Eff.app,this]
theorem Aan {P:Program} {H:Hp} {g:FuncId} {L:List A} (rs:List Nat) (m:Nat) {args:List A} {Hc Hr H':Hp} {r:A} (hS:Vz P g rs.length args Hc r Hr) (hnd:rs.Nodup) (hm:m≤rs.length)
  (ha:A.renL (kz rs) (fun _=>0) L=args) (har:A.refsL (g9 rs m) L) (hH:Sh rs m H=Hc) (hcl:Wk rs m H)
  (hr:r.refs (L6 rs.length)) (ho:∀ (i:Nat) (p:Nm),i<rs.length→(Hr (i::p)).ob.refs (L6 rs.length)) (hv:∀ (i:Nat) (p:Nm),m≤i→i<rs.length→(Hr (i::p)).ob = .none∨1≤(Hr (i::p)).u)
  (hH':Zt rs (Tk rs m H) H Hr=H'):∃ E,ah P H g L (r.ren (fB rs) (Tk rs m H)) E [] (rs.map fun r=>([r],true))∧E.app H=H':=by
 have hit_in:∀ {j:Nat} {p:Nm},j ∈ rs→dQ (rs.map fun r=>([r],true)) (j::p)=true:=fun {j p} hj=>by
  simp only[dQ,List.any_map,List.any_eq_true];exact⟨j,hj,by simp[Zk,List.isPrefixOf]⟩
 have hnil:(Eff.fn rs (Ig rs m H Hr)).app H=H':=by rw[Wq];exact hH'
 refine⟨Eff.fn rs (Ig rs m H Hr),.inr (.inr ⟨fun H2 hag=>?_,fun o H2 ho'=>?_⟩),hnil⟩
 ·have ag:∀ {j:Nat} {p:Nm},j ∈ rs→H2 (j::p)=H (j::p):=fun {j p} hj=>hag _ (by simpa using hit_in hj);have agi:∀ {i:Nat} {p:Nm},i<rs.length→H2 (rs.getD i 0::p)=H (rs.getD i 0::p):=fun {i p} hi=>ag (by simp[List.getD,hi]);have hd:Tk rs m H2=Tk rs m H:=by
   funext o;cases o with
   |nil=>rfl
   |cons i p=>
    simp only[Tk];by_cases hi:i<rs.length
    ·rw[agi hi]
    ·rw[if_neg hi,if_neg hi]
  have hoH:Ig rs m H2 Hr=Ig rs m H Hr:=by
   funext o;cases o with
   |nil=>rfl
   |cons j p=>simp only[Ig,hd]
  subst ha;have:=Uw (P:=P) (f:=g) (rs:=rs) (m:=m) (args:=L) (Hc:=Hc) (Hr:=Hr) (r:=r) (H:=H2) hnd hm hS
   (fun i p hi=>by rw[← hH,agi (by omega)];simp only[Sh,if_pos hi]) (fun i p hi=>by rw[← hH];simp only[Sh];rw[if_neg (by omega)]) (by rw[← hH];rfl) har
   (fun i p hi=>by rw[agi (by omega)];exact hcl _ _ (by rw[L4 hnd (by omega)];exact hi)) hr ho hv
  rwa [hd,hoH] at this
 ·cases o with
  |nil=>rfl
  |cons j p=>
   have:¬ j ∈ rs:=fun hj=>by rw[hit_in hj] at ho';cases ho'
   simp[Eff.app,this]
theorem Ab1 {P:Program} {K:Sta→Prop} {rest:List CO} {s:Nat→A} {H H':Hp} {dd:Option Nat} {nm:Nm} {ix:Nat} {un:List Nat} {l:Bool} {lg:Lg} {ro:Operand} {name:String} {t:TypeId} {a a':A} {g:FuncId} {d:Option TypeId} {L:List A} {as':Array Operand} {ts:Array TypeId} {x:A} {R W:Fp}
  (hr:evs s ro = .ifc t a) (hm:P7 P t name=some (g,d)) (ha:aE P H d a=some a') (hL:a'::as'.toList.map (evs s)=L) (hc:∃ E,ah P H g L x E R W∧E.app H=H') (hck:Ck un lg ⟨refs a++R,W⟩)
  (h:AH P K rest (B0 l ix ⟨refs a++R,W⟩ lg) (Sta.put ⟨s,H⟩ dd x H')) :
  AH P K (⟨dd,.call { callee:=.invoke ro name,args:=as',argTypes:=ts },none,nm,ix,un,l⟩::rest) lg ⟨s,H⟩:=by
 obtain⟨E,h1,rfl⟩:=hc;subst hL;exact⟨x,E,⟨refs a++R,W⟩,⟨t,a,g,d,a',R,hr,hm,ha,h1,rfl⟩,hck,h⟩
structure Fam where
 F:Nat→Nm→VOb
 ren:∀ {g:Nm→Nm} {δ:Nm→Nat} {r r':Nat},(∀ p,g (r::p)=r'::p)→(∀ p,δ (r::p)=0)→∀ p,(F r p).ren g δ 0=F r' p
 refs:∀ {D:Nm→Prop} {r:Nat},(∀ p,D (r::p))→∀ p,(F r p).ob.refs D
def Fam.no:Fam:=⟨fun _ _=>⟨0,.none⟩,fun _ _ _=>rfl,fun _ _=>trivial⟩
structure Hm (a:Nat→A):Prop where
 ren:∀ {g:Nm→Nm} {δ:Nm→Nat} {r r':Nat},(∀ p,g (r::p)=r'::p)→(∀ p,δ (r::p)=0)→(a r).ren g δ=a r'
 refs:∀ {D:Nm→Prop} {r:Nat},(∀ p,D (r::p))→(a r).refs D
structure FamL (a:Nat→List A):Prop where
 ren:∀ {g:Nm→Nm} {δ:Nm→Nat} {r r':Nat},(∀ p,g (r::p)=r'::p)→(∀ p,δ (r::p)=0)→A.renL g δ (a r)=a r'
 refs:∀ {D:Nm→Prop} {r:Nat},(∀ p,D (r::p))→A.refsL D (a r)
@[simp] theorem Ap:FamL (fun _=>[]):=⟨fun _ _=>by simp[A.renL],fun _=>by simp[A.refsL]⟩
theorem Ag {a:Nat→A} {l:Nat→List A} (h:Hm a) (k:FamL l):FamL (fun r=>a r::l r):=⟨fun h1 h2=>by simp[A.renL,h.ren h1 h2,k.ren h1 h2],fun h1=>by simp only[A.refsL];exact⟨h.refs h1,k.refs h1⟩⟩
theorem FamL.all {l:List A} (h:∀ x,x ∈ l→Hm (fun _=>x)):FamL (fun _=>l):=by
 induction l with
 |nil=>simp
 |cons x l ih=>exact Ag (h x (by simp)) (ih fun y hy=>h y (by simp[hy]))
@[simp] theorem Aib:Hm (fun _=>.any):=⟨fun _ _=>by simp[A.ren],fun _=>by simp[A.refs]⟩
@[simp] theorem Ax {x:Value}:Hm (fun _=>.v x):=⟨fun _ _=>by simp[A.ren],fun _=>by simp[A.refs]⟩
@[simp] theorem Fu {f:Bool} {xs:List A}:Hm (fun _=>.sl f xs):=⟨fun _ _=>by simp[A.ren],fun _=>by simp[A.refs]⟩
@[simp] theorem AgT {xs:List A}:Hm (fun _=>.pim xs):=⟨fun _ _=>by simp[A.ren],fun _=>by simp[A.refs]⟩
@[simp] theorem Bi {u off:Nat} {q:Nm}:Hm (fun r=>.pob (r::q) u off):=⟨fun h1 h2=>by simp[A.ren,h1,h2],fun h=>by simp[A.refs,h]⟩
@[simp] theorem J3 {u sz off len:Nat} {q:Nm}:Hm (fun r=>.osl (r::q) u sz off len):=⟨fun h1 h2=>by simp[A.ren,h1,h2],fun h=>by simp[A.refs,h]⟩
@[simp] theorem gR {l:Nat→List A} (h:FamL l):Hm (fun r=>.agg (l r)):=⟨fun h1 h2=>by simp[A.ren,h.ren h1 h2],fun h1=>by simp only[A.refs];exact h.refs h1⟩
@[simp] theorem BP {l:Nat→List A} (h:FamL l):Hm (fun r=>.tup (l r)):=⟨fun h1 h2=>by simp[A.ren,h.ren h1 h2],fun h1=>by simp only[A.refs];exact h.refs h1⟩
@[simp] theorem ie {f:FuncId} {l m:Nat→List A} (h:FamL l) (k:FamL m):Hm (fun r=>.fnc f (l r) (m r)):=⟨fun h1 h2=>by simp[A.ren,h.ren h1 h2,k.ren h1 h2],fun h1=>by simp only[A.refs];exact⟨h.refs h1,k.refs h1⟩⟩
@[simp] theorem Ov {t:TypeId} {a:Nat→A} (h:Hm a):Hm (fun r=>.ifc t (a r)):=⟨fun h1 h2=>by simp[A.ren,h.ren h1 h2],fun h1=>by simp only[A.refs];exact h.refs h1⟩
theorem mH {a:A} (h:a.bare1=true):Hm (fun _=>a):=by cases a<;>simp[A.bare1] at h ⊢
theorem Mn {a:A} {cs:List A} (ha:a = .agg cs) (h:∀ x,x ∈ cs→x.bare1=true):Hm (fun _=>a):=by
 subst ha;exact gR (l:=fun _=>cs) (FamL.all fun x hx=>mH (h x hx))
theorem Fam.cells_ren {g:Nm→Nm} {δ:Nm→Nat} {u:Nat} {l l':List A} (h:A.renL g δ l=l'):VOb.ren g δ 0 ⟨u,.cells l⟩=⟨u,.cells l'⟩:=by simp[VOb.ren,Ob.ren,h]
theorem Fam.arr_ren {g:Nm→Nm} {δ:Nm→Nat} {u sz:Nat} {l l':List A} (h:A.renL g δ l=l'):VOb.ren g δ 0 ⟨u,.arr sz l⟩=⟨u,.arr sz l'⟩:=by simp[VOb.ren,Ob.ren,h]
structure BR (P:Program) (f:FuncId) (as':Nat→List A) (F:Fam) (x:Nat→A) (F':Fam):Prop where
 fa:FamL as'
 fx:Hm x
 h:Vz P f 1 (as' 0) (ov 0 (F.F 0) (FA [])) (x 0) (ov 0 (F'.F 0) (FA []))
section
variable {P:Program} {K:Sta→Prop} {rest:List CO} {s:Nat→A} {H:Hp} {dd:Option Nat} {nm:Nm} {ix:Nat} {un:List Nat} {l:Bool} {lg:Lg} {g:FuncId} {aa:Array Operand} {ts:Array TypeId}
theorem mo {r:Nat} {F:Fam} (hF:∀ p,H (r::p)=F.F r p):Sh [r] 1 H=ov 0 (F.F 0) (FA []):=by
 funext o;cases o with
 |nil=>rfl
 |cons i p=>
  by_cases hi:i<1
  ·have:i=0:=by omega
   subst this;simp only[Sh,if_pos hi,DT,if_true];show(H (r::p)).ren _ _ 0=_;rw[hF];exact F.ren (fun q=>by simp[kz]) (fun _=>rfl) p
  ·simp only[Sh,if_neg hi,DT];rw[if_neg (by omega)];rfl
theorem cN {r:Nat} {F':Fam}:Zt [r] (Tk [r] 1 H) H (ov 0 (F'.F 0) (FA []))=ov r (F'.F r) H:=by
 have hd:∀ p,Tk [r] 1 H (0::p)=0:=fun p=>rfl;funext o;cases o with
 |nil=>rfl
 |cons j p=>
  by_cases hj:j=r
  ·subst hj;simp only[Zt,DT,if_true];rw[if_pos (by simp)];have:[j].idxOf j=0:=by simp
   rw[this,if_pos rfl,hd];exact F'.ren (fun q=>by simp[fB]) hd p
  ·have:¬ [r].contains j=true:=by simpa using hj
   simp only[Zt,if_neg this,DT,if_neg hj]
theorem QQ {r:Nat} {F:Fam} (hF:∀ p,H (r::p)=F.F r p):Wk [r] 1 H:=by
 intro j p hj;have hjr:j=r:=by
  have:=(idx_mem (rs:=[r])).1 (by simpa using hj);simpa using this
 rw[hjr,hF];exact F.refs (fun q=>by simp[g9]) p
theorem Ww {F':Fam} (i:Nat) (p:Nm) (hi:i<1):((ov 0 (F'.F 0) (FA [])) (i::p)).ob.refs (L6 1):=by
 have:i=0:=by omega
 subst this;simp only[DT,if_true];exact F'.refs (fun q=>by simp[L6]) p
theorem AA {as':Nat→List A} {F F':Fam} {x:Nat→A} (r:Nat) (hS:BR P g as' F x F') (hF:∀ p,H (r::p)=F.F r p) (ha:aa.toList.map (evs s)=as' r) (hck:Ck un lg ⟨[],[([r],true)]⟩)
  (h:AH P K rest (B0 l ix ⟨[],[([r],true)]⟩ lg) (Sta.put ⟨s,H⟩ dd (x r) (ov r (F'.F r) H))) :
  AH P K (⟨dd,.call { callee:=.value (.func g),args:=aa,argTypes:=ts },none,nm,ix,un,l⟩::rest) lg ⟨s,H⟩:=by
 have hd:∀ p,Tk [r] 1 H (0::p)=0:=fun p=>rfl;refine i9 [r] 1 hS.h (by simp) (by simp) ?_ ?_ (mo hF) (QQ hF) (hS.fx.refs (fun p=>by simp[L6])) (fun i p hi=>Ww i p hi) (fun i p h1 h2=>by simp at h2;omega) (hS.fx.ren (fun q=>by simp[fB]) hd) cN hck h
 ·rw[ha];exact hS.fa.ren (fun q=>by simp[kz]) (fun _=>rfl)
 ·rw[ha];exact hS.fa.refs (fun q=>by simp[g9])
theorem VR {as':Nat→List A} {F F':Fam} {x:Nat→A} {fo:Operand} {fs caps:List A} (r:Nat) (hv0:evs s fo = .fnc g fs caps) (hS:BR P g as' F x F') (hF:∀ p,H (r::p)=F.F r p) (ha:fs++(aa.toList.map (evs s)++caps)=as' r) (hck:Ck un lg ⟨[],[([r],true)]⟩)
  (h:AH P K rest (B0 l ix ⟨[],[([r],true)]⟩ lg) (Sta.put ⟨s,H⟩ dd (x r) (ov r (F'.F r) H))) :
  AH P K (⟨dd,.call { callee:=.value fo,args:=aa,argTypes:=ts },none,nm,ix,un,l⟩::rest) lg ⟨s,H⟩:=by
 have hd:∀ p,Tk [r] 1 H (0::p)=0:=fun p=>rfl;refine rh hv0 ha [r] 1 hS.h (by simp) (by simp) (hS.fa.ren (fun q=>by simp[kz]) (fun _=>rfl)) (hS.fa.refs (fun q=>by simp[g9])) (mo hF) (QQ hF) (hS.fx.refs (fun p=>by simp[L6])) (fun i p hi=>Ww i p hi) (fun i p h1 h2=>by simp at h2;omega) (hS.fx.ren (fun q=>by simp[fB]) hd) cN hck h
end
section
variable {P:Program} {K:Sta→Prop} {rest:List CO} {s:Nat→A} {H:Hp} {dd:Option Nat} {nm:Nm} {ix:Nat} {un:List Nat} {l:Bool} {lg:Lg} {g:FuncId} {aa:Array Operand} {ts:Array TypeId}
theorem ru {as':Nat→List A} {F F':Fam} {x:Nat→A} (r:Nat) (hS:BR P g as' F x F') (hF:∀ p,H (r::p)=F.F r p):∃ E,ah P H g (as' r) (x r) E [] [([r],true)]∧E.app H=ov r (F'.F r) H:=by
 have hd:∀ p,Tk [r] 1 H (0::p)=0:=fun p=>rfl;have:=Aan (H:=H) (L:=as' r) [r] 1 hS.h (by simp) (by simp) (hS.fa.ren (fun q=>by simp[kz]) (fun _=>rfl)) (hS.fa.refs (fun q=>by simp[g9])) (mo hF) (QQ hF) (hS.fx.refs (fun p=>by simp[L6])) (fun i p hi=>Ww i p hi) (fun i p h1 h2=>by simp at h2;omega) cN;have e:A.ren (fB [r]) (Tk [r] 1 H) (x 0)=x r:=hS.fx.ren (fun q=>by simp[fB]) hd;rw[e] at this;exact this
theorem II {as':Nat→List A} {F F':Fam} {x:Nat→A} {ro:Operand} {name:String} {t:TypeId} {a a':A} {d:Option TypeId} (r:Nat) (hS:BR P g as' F x F') (hF:∀ p,H (r::p)=F.F r p) (hr:evs s ro = .ifc t a) (hm:P7 P t name=some (g,d)) (ha:aE P H d a=some a') (hL:a'::aa.toList.map (evs s)=as' r)
  (hck:Ck un lg ⟨refs a++[],[([r],true)]⟩) (h:AH P K rest (B0 l ix ⟨refs a++[],[([r],true)]⟩ lg) (Sta.put ⟨s,H⟩ dd (x r) (ov r (F'.F r) H))) :
  AH P K (⟨dd,.call { callee:=.invoke ro name,args:=aa,argTypes:=ts },none,nm,ix,un,l⟩::rest) lg ⟨s,H⟩:=
 Ab1 hr hm ha hL (ru r hS hF) hck h
end
theorem AhR {r:Nat} {F F':Nm→VOb} {H:Hp}:ov r F (ov r F' H)=ov r F H:=by
 funext o;cases o with
 |nil=>rfl
 |cons j p=>by_cases hj:j=r<;>simp[hj]
@[simp] theorem Ai2 {r:Nat} {F F':Nm→VOb} {H:Hp}:ov r F (ov r F' H)=ov r F H:=AhR
theorem Ay {P:Program} {f:FuncId} {n:Nat} {rs:List ResultVar} {cc:CC} {as':Nat→List A} {F F':Fam} {x:Nat→A} (t:Bm P f n rs cc) (ha:(as' 0).length≤n) (h0:FamL as') (h1:Hm x)
  (h:∀ w0 I0 M0 m0,WPC (FW P w0 I0 M0 n m0) cc (R4 (FW P w0 I0 M0 n m0) rs 1 (x 0) (ov 0 (F'.F 0) (FA []))) ⟨QG (as' 0),ov 0 (F.F 0) (FA [])⟩):BR P f as' F x F':=
 ⟨h0,h1,iM t ha h⟩
theorem AJ {c:Cx} {rs:List ResultVar} {x:A} {F':Nm→VOb} {r0:A} {st:Sta} (h:TL c.P st rs=some r0) (he:r0=x) (hh:∀ p,st.H (0::p)=F' p):R4 c rs 1 x (ov 0 F' (FA [])) .ret st:=
 jC h he fun i p hi=>by
  have:i=0:=by omega
  subst this;rw[hh];simp
theorem A0 {c:Cx} {rs:List ResultVar} {x:A} {F':Nm→VOb} {r0:A} {st:Sta} (h:TL c.P st rs=some r0) (he:r0=x) (hh:∀ p,st.H (0::p)=F' p):R4 c rs 1 x (ov 0 F' (FA [])) .normal st:=
 g8 h he fun i p hi=>by
  have:i=0:=by omega
  subst this;rw[hh];simp
structure bn (a:Nat→Nat→A):Prop where
 ren:∀ {g:Nm→Nm} {δ:Nm→Nat} {r r' q q':Nat},(∀ p,g (r::p)=r'::p)→(∀ p,δ (r::p)=0)→(∀ p,g (q::p)=q'::p)→(∀ p,δ (q::p)=0)→(a r q).ren g δ=a r' q'
 refs:∀ {D:Nm→Prop} {r q:Nat},(∀ p,D (r::p))→(∀ p,D (q::p))→(a r q).refs D
structure Z5 (a:Nat→Nat→List A):Prop where
 ren:∀ {g:Nm→Nm} {δ:Nm→Nat} {r r' q q':Nat},(∀ p,g (r::p)=r'::p)→(∀ p,δ (r::p)=0)→(∀ p,g (q::p)=q'::p)→(∀ p,δ (q::p)=0)→A.renL g δ (a r q)=a r' q'
 refs:∀ {D:Nm→Prop} {r q:Nat},(∀ p,D (r::p))→(∀ p,D (q::p))→A.refsL D (a r q)
@[simp] theorem Uv:Z5 (fun _ _=>[]):=⟨fun _ _ _ _=>by simp[A.renL],fun _ _=>by simp[A.refsL]⟩
theorem CG {a:Nat→Nat→A} {l:Nat→Nat→List A} (h:bn a) (k:Z5 l):Z5 (fun r q=>a r q::l r q):=⟨fun h1 h2 h3 h4=>by simp[A.renL,h.ren h1 h2 h3 h4,k.ren h1 h2 h3 h4],fun h1 h2=>by simp only[A.refsL];exact⟨h.refs h1 h2,k.refs h1 h2⟩⟩
theorem GK {a:Nat→A} (h:Hm a):bn (fun r _=>a r):=⟨fun h1 h2 _ _=>h.ren h1 h2,fun h1 _=>h.refs h1⟩
theorem pk {a:Nat→A} (h:Hm a):bn (fun _ q=>a q):=⟨fun _ _ h1 h2=>h.ren h1 h2,fun _ h1=>h.refs h1⟩
theorem sf {l:Nat→Nat→List A} (h:Z5 l):bn (fun r q=>.tup (l r q)):=⟨fun h1 h2 h3 h4=>by simp[A.ren,h.ren h1 h2 h3 h4],fun h1 h2=>by simp only[A.refs];exact h.refs h1 h2⟩
section
variable {P:Program} {K:Sta→Prop} {rest:List CO} {s:Nat→A} {H:Hp} {dd:Option Nat} {nm:Nm} {ix:Nat} {un:List Nat} {l:Bool} {lg:Lg} {g:FuncId} {aa:Array Operand} {ts:Array TypeId}
end
theorem TF {c:Cx} {rs:List ResultVar} {x:A} {F' N:Nm→VOb} {r0:A} {st:Sta} (h:TL c.P st rs=some r0) (he:r0=x) (hh:∀ p,st.H (0::p)=F' p) (hn:∀ p,st.H (1::p)=N p):R4 c rs 2 x (ov 0 F' (ov 1 N (FA []))) .ret st:=
 jC h he fun i p hi=>by
  by_cases h0:i=0
  ·subst h0;rw[hh];simp
  ·have:i=1:=by omega
   subst this;rw[hn];simp
structure uj where
 B:Nat→Nat→Nm→VOb
 C:Nat→Nat→Nm→VOb
 ren:∀ {g:Nm→Nm} {δ:Nm→Nat} {r r' q q':Nat},(∀ p,g (r::p)=r'::p)→(∀ p,δ (r::p)=0)→(∀ p,g (q::p)=q'::p)→(∀ p,δ (q::p)=0)→∀ p,(B r q p).ren g δ 0=B r' q' p∧(C r q p).ren g δ 0=C r' q' p
 refs:∀ {D:Nm→Prop} {r q:Nat},(∀ p,D (r::p))→(∀ p,D (q::p))→∀ p,(B r q p).ob.refs D∧(C r q p).ob.refs D
def Fam.two (F G:Fam):uj:=⟨fun r _=>F.F r,fun _ q=>G.F q,fun h1 h2 h3 h4 p=>⟨F.ren h1 h2 p,G.ren h3 h4 p⟩,fun h1 h2 p=>⟨F.refs h1 p,G.refs h2 p⟩⟩
@[simp] theorem Alw {F G:Fam} {r q:Nat}:(F.two G).B r q=F.F r:=rfl
@[simp] theorem AfG {F G:Fam} {r q:Nat}:(F.two G).C r q=G.F q:=rfl
structure cY (P:Program) (f:FuncId) (as':Nat→Nat→List A) (F:uj) (x:Nat→Nat→A) (F':uj):Prop where
 fa:Z5 as'
 fx:bn x
 h:Vz P f 2 (as' 0 1) (ov 0 (F.B 0 1) (ov 1 (F.C 0 1) (FA []))) (x 0 1) (ov 0 (F'.B 0 1) (ov 1 (F'.C 0 1) (FA [])))
section
variable {P:Program} {K:Sta→Prop} {rest:List CO} {s:Nat→A} {H:Hp} {dd:Option Nat} {nm:Nm} {ix:Nat} {un:List Nat} {l:Bool} {lg:Lg} {g:FuncId} {aa:Array Operand} {ts:Array TypeId}
theorem VV {as':Nat→Nat→List A} {F F':uj} {x:Nat→Nat→A} (r q:Nat) (hrq:r ≠ q) (hS:cY P g as' F x F') (hF:∀ p,H (r::p)=F.B r q p) (hG:∀ p,H (q::p)=F.C r q p) (ha:aa.toList.map (evs s)=as' r q) (hck:Ck un lg ⟨[],[([r],true),([q],true)]⟩)
  (h:AH P K rest (B0 l ix ⟨[],[([r],true),([q],true)]⟩ lg) (Sta.put ⟨s,H⟩ dd (x r q) (ov r (F'.B r q) (ov q (F'.C r q) H)))) :
  AH P K (⟨dd,.call { callee:=.value (.func g),args:=aa,argTypes:=ts },none,nm,ix,un,l⟩::rest) lg ⟨s,H⟩:=by
 have hd:∀ p,Tk [r,q] 2 H (0::p)=0:=fun p=>rfl;have hd1:∀ p,Tk [r,q] 2 H (1::p)=0:=fun p=>rfl;have i0:[r,q].idxOf r=0:=by simp
 have i1:[r,q].idxOf q=1:=by simp[List.idxOf_cons,beq_eq_false_iff_ne.2 hrq]
 have d0:∀ p,kz [r,q] (r::p)=0::p:=fun p=>by simp[kz]
 have d1:∀ p,kz [r,q] (q::p)=1::p:=fun p=>by simp[kz,i1]
 have jin:∀ {j:Nat},[r,q].idxOf j<2→j=r∨j=q:=fun {j} hj=>by
  have:=(idx_mem (rs:=[r,q])).1 (by simpa using hj);simpa using this
 refine i9 [r,q] 2 hS.h (by simp[hrq]) (by simp) ?_ ?_ ?_ ?_ (hS.fx.refs (fun p=>by simp[L6]) (fun p=>by simp[L6])) ?_ (fun i p h1 h2=>by simp at h2;omega) (hS.fx.ren (fun p=>by simp[fB]) hd (fun p=>by simp[fB]) hd1) ?_ hck h
 ·rw[ha];exact hS.fa.ren d0 (fun _=>rfl) d1 (fun _=>rfl)
 ·rw[ha];exact hS.fa.refs (fun p=>by simp[g9]) (fun p=>by simp[g9,i1])
 ·funext o;cases o with
  |nil=>rfl
  |cons i p=>
   by_cases hi:i<2
   ·simp only[Sh,if_pos hi];have h01:i=0∨i=1:=by omega
    rcases h01 with rfl | rfl
    ·show(H (r::p)).ren _ _ 0=_;rw[hF];simp only[DT,if_true];exact(F.ren d0 (fun _=>rfl) d1 (fun _=>rfl) p).1
    ·show(H (q::p)).ren _ _ 0=_;rw[hG];simp only[DT,if_true];rw[if_neg (by omega)];exact(F.ren d0 (fun _=>rfl) d1 (fun _=>rfl) p).2
   ·simp only[Sh,if_neg hi,DT];rw[if_neg (by omega),if_neg (by omega)];rfl
 ·intro j p hj;rcases jin hj with rfl | rfl
  ·rw[hF];exact(F.refs (fun p=>by simp[g9]) (fun p=>by simp[g9,i1]) p).1
  ·rw[hG];exact(F.refs (fun p=>by simp[g9]) (fun p=>by simp[g9,i1]) p).2
 ·intro i p hi;have hi:i<2:=hi;by_cases h0:i=0
  ·subst h0;simp only[DT,if_true];exact(F'.refs (fun q=>by simp[L6]) (fun q=>by simp[L6]) p).1
  ·have:i=1:=by omega
   subst this;simp only[DT,if_true];rw[if_neg (by omega)];exact(F'.refs (fun q=>by simp[L6]) (fun q=>by simp[L6]) p).2
 ·have u0:∀ p,fB [r,q] (0::p)=r::p:=fun p=>by simp[fB]
  have u1:∀ p,fB [r,q] (1::p)=q::p:=fun p=>by simp[fB]
  funext o;cases o with
  |nil=>rfl
  |cons j p=>
   by_cases hj:j=r
   ·subst hj;simp only[Zt,DT,if_true];rw[if_pos (by simp),i0,if_pos rfl,hd];exact(F'.ren u0 hd u1 hd1 p).1
   ·by_cases hj2:j=q
    ·subst hj2;simp only[Zt,DT,if_true,if_neg hj];rw[if_pos (by simp),i1,if_neg (by omega),if_pos rfl,hd1];exact(F'.ren u0 hd u1 hd1 p).2
    ·have:¬ [r,q].contains j=true:=by simp[hj,hj2]
     simp only[Zt,if_neg this,DT,if_neg hj,if_neg hj2]
end
theorem bx {P:Program} {f:FuncId} {n:Nat} {rs:List ResultVar} {cc:CC} {as':Nat→Nat→List A} {F F':uj} {x:Nat→Nat→A} (t:Bm P f n rs cc) (ha:(as' 0 1).length≤n) (h0:Z5 as') (h1:bn x)
  (h:∀ w0 I0 M0 m0,WPC (FW P w0 I0 M0 n m0) cc (R4 (FW P w0 I0 M0 n m0) rs 2 (x 0 1) (ov 0 (F'.B 0 1) (ov 1 (F'.C 0 1) (FA [])))) ⟨QG (as' 0 1),ov 0 (F.B 0 1) (ov 1 (F.C 0 1) (FA []))⟩):cY P f as' F x F':=
 ⟨h0,h1,iM t ha h⟩
theorem Sim.move {c:Cx} {w:World} {I:Nat→Prop} {μ:Mu} {H:Hp} (hs:Sim c w I μ H) {d d':Nm} (hne:d ≠ d') (h0:(H d').u=0) (h1:1≤(H d).u) (hM:∀ b,¬ c.M0 d b) (htg:∀ e,Fl d' e=true) :
  Ext I μ w I (Bh μ d' (μ d)) w∧Sim c w I (Bh μ d' (μ d)) (Bh (Bh H d' (H d)) d ⟨(H d).u,.none⟩):=by
 have hu0:(μ d').u=0:=by rw[hs.ver,h0]
 have hu1:1≤(μ d).u:=by rw[hs.ver];exact h1
 have hm:MuLe μ (Bh μ d' (μ d)):=fun o=>by
  by_cases e:o=d'
  ·subst e;rw[C4];exact⟨by omega,fun e=>by omega⟩
  ·rw[Bq e];exact⟨Cb _,fun _=>rfl⟩
 have hx:Ext I μ w I (Bh μ d' (μ d)) w:=⟨fun b h=>h,fun b h=>rfl,hm⟩;have hd:(Bh (Bh H d' (H d)) d ⟨(H d).u,.none⟩:Hp) d=⟨(H d).u,.none⟩:=C4;have hd':(Bh (Bh H d' (H d)) d ⟨(H d).u,.none⟩:Hp) d'=H d:=by rw[Bq (Ne.symm hne),C4]
 have hoth:∀ o,o ≠ d→o ≠ d'→(Bh (Bh H d' (H d)) d ⟨(H d).u,.none⟩:Hp) o=H o:=fun o e1 e2=>by rw[Bq e1,Bq e2]
 -- who has a block has it in the old state,under an old name
 have old:∀ o,ER (Bh μ d' (μ d) o) ((Bh (Bh H d' (H d)) d ⟨(H d).u,.none⟩:Hp) o).ob=true→∃ p,ER (μ p) (H p).ob=true∧(Bh μ d' (μ d) o)=μ p∧(o=d'∧p=d∨o ≠ d'∧o ≠ d∧p=o):=fun o h=>by
  by_cases e1:o=d
  ·subst e1;rw[hd] at h;cases h
  ·by_cases e2:o=d'
   ·subst e2;rw[hd',C4] at h;exact⟨d,h,C4,.inl ⟨rfl,rfl⟩⟩
   ·rw[hoth o e1 e2,Bq e2] at h;exact⟨o,h,Bq e2,.inr ⟨e2,e1,rfl⟩⟩
 refine⟨hx,hs.kept,hs.lt,hs.old,hs.new,fun o=>?_,fun o=>?_,fun o o' k k' hoo=>?_,fun o k=>?_,hs.mle.trans hm,fun o k=>?_,hs.tab⟩
 ·by_cases e1:o=d
  ·subst e1;rw[hd,Bq hne];exact hs.ver o
  ·by_cases e2:o=d'
   ·subst e2;rw[hd',C4];exact hs.ver d
   ·rw[hoth o e1 e2,Bq e2];exact hs.ver o
 ·by_cases e1:o=d
  ·subst e1;rw[hd];trivial
  ·by_cases e2:o=d'
   ·subst e2;rw[hd',C4];exact OSim.keep hx (fun _=>rfl) (hs.ob d)
   ·rw[hoth o e1 e2,Bq e2];exact OSim.keep hx (fun _=>rfl) (hs.ob o)
 ·obtain⟨p,k1,k2,k3⟩:=old o k;obtain⟨p',g1,g2,g3⟩:=old o' k';rw[k2,g2];refine hs.apart p p' k1 g1 fun e=>hoo ?_;rcases k3 with ⟨a1,a2⟩ | ⟨a1,a2,a3⟩<;>rcases g3 with ⟨b1,b2⟩ | ⟨b1,b2,b3⟩
  ·rw[a1,b1]
  ·exact absurd (by rw[← b3,← e,a2]) b2
  ·exact absurd (by rw[← a3,e,b2]) a2
  ·rw[← a3,← b3,e]
 ·obtain⟨p,k1,k2,k3⟩:=old o k;rw[k2];obtain⟨q1,q2,q3⟩:=hs.own p k1;refine⟨q1,?_,q3⟩;rcases k3 with ⟨a1,a2⟩ | ⟨a1,a2,a3⟩
  ·subst a2;rcases q2 with h | h
   ·exact(hM _ h).elim
   ·exact .inr h
  ·subst a3;exact q2
 ·obtain⟨p,k1,k2,k3⟩:=old o k;rw[k2];rcases k3 with ⟨a1,a2⟩ | ⟨a1,a2,a3⟩
  ·rw[a1];exact htg _
  ·rw[← a3];exact hs.tag p k1
theorem lN {c:Cx} {s:Nat→A} {H:Hp} (R:Nat→Prop) [DecidablePred R] (hM:∀ r p b,R r→¬ c.M0 (r::p) b) (t:Nat) (a:A) (hf:∀ H1:Hp,(∀ r p,R r→H1 (r::p)=H (r::p))→K6 H1 (s t) a) :
  ∃ H2:Hp,Le c ⟨s,H⟩ ⟨upd s t a,H2⟩∧∀ r p,¬ R r→H2 (r::p)=H (r::p):=by
 refine⟨fun o=>match o with | r::p=>if R r then ⟨(H (r::p)).u,.none⟩ else H (r::p) | []=>H [],Tv (H1:=fun o=>match o with | r::p=>if R r then H (r::p) else ⟨(H (r::p)).u,.none⟩ | []=>⟨(H []).u,.none⟩) (fun o b h=>?_) t a (fun o=>?_) (fun o=>?_) (fun o=>?_) (hf _ fun r p h=>if_pos h),fun r p h=>if_neg h⟩
 ·cases o with
  |nil=>exact absurd rfl h
  |cons r p=>
   by_cases hr:R r
   ·exact hM r p b hr
   ·exact absurd (by simp[hr]) h
 ·cases o with
  |nil=>exact .inr rfl
  |cons r p=>
   by_cases hr:R r
   ·exact .inl (by simp[hr])
   ·exact .inr (by simp[hr])
 ·cases o with
  |nil=>exact .inl rfl
  |cons r p=>
   by_cases hr:R r
   ·exact .inr (by simp[hr])
   ·exact .inl (by simp[hr])
 ·cases o with
  |nil=>exact .inl rfl
  |cons r p=>
   by_cases hr:R r
   ·exact .inr (by simp[hr])
   ·exact .inl (by simp[hr])
theorem ZN {P:Program} {f:FuncId} {n:Nat} {rs:List ResultVar} {cc:CC} {as':Nat→List A} {F F':Fam} {x:Nat→A} (t:Bm P f n rs cc) (ha:(as' 0).length≤n) (h0:FamL as') (h1:Hm x)
  (h:∀ w0 I0 M0 m0,(∀ r p b,1≤r→¬ M0 (r::p) b)→WPC (FW P w0 I0 M0 n m0) cc (R4 (FW P w0 I0 M0 n m0) rs 1 (x 0) (ov 0 (F'.F 0) (FA []))) ⟨QG (as' 0),ov 0 (F.F 0) (FA [])⟩):BR P f as' F x F':=
 ⟨h0,h1,a9 t ha fun w0 I0 M0 m0 hM=>h w0 I0 M0 m0 fun r p b hr=>hM (r::p) b (by
  simp only[DT];rw[if_neg (by omega)];rfl)⟩
abbrev S (l:List UInt8):A:=.v (.string ⟨l.toArray⟩)
@[simp] theorem Agu (l:List UInt8):(ByteArray.mk l.toArray).size=l.length:=by simp[ByteArray.size]
@[simp] theorem Aj5 (l:List UInt8) (i:Nat):(ByteArray.mk l.toArray)[i]? = l[i]?:=by
 by_cases h:i<l.length
 ·have h':i<(ByteArray.mk l.toArray).size:=by simpa using h
  rw[getElem?_pos (ByteArray.mk l.toArray) i h',List.getElem?_eq_getElem h];rfl
 ·have h':¬ i<(ByteArray.mk l.toArray).size:=by simpa using h
  rw[getElem?_neg (ByteArray.mk l.toArray) i h',List.getElem?_eq_none (by omega)]
end Go.G
namespace Go.Proofs.YtbjmaoedheiigaaGreat
set_option maxRecDepth 20000
open Go Go.G Go.Proofs
theorem Ai:Tryz.prog.follows .mixedOrders=true:=by kernel_rfl
@[simp] theorem Ala:D9 Tryz.prog 3=some 1:=by kernel_rfl
@[simp] theorem Alp:D9 Tryz.prog 4=some 1:=by kernel_rfl
@[simp] theorem Ajn:D9 Tryz.prog 175=some 8:=by kernel_rfl
@[simp] theorem Aks:Ey Tryz.prog 3=some false:=by kernel_rfl
@[simp] theorem Akb:Ey Tryz.prog 4=some false:=by kernel_rfl
@[simp] theorem AhT:Ey Tryz.prog 175=some true:=by kernel_rfl
@[simp] theorem Afg:BW Tryz.prog 175=some (Value.agg #[Value.int i64 0,Value.int i64 0,Value.int i64 0,Value.int i64 0,Value.int i64 0,Value.int i64 0,Value.int i64 0,Value.bool false]):=by kernel_rfl
@[simp] theorem sY:Al Tryz.prog 175 0=some 0:=by kernel_rfl
@[simp] theorem tu:Al Tryz.prog 175 1=some 1:=by kernel_rfl
@[simp] theorem sP:Al Tryz.prog 175 2=some 2:=by kernel_rfl
@[simp] theorem sN:Al Tryz.prog 175 3=some 3:=by kernel_rfl
@[simp] theorem tq:Al Tryz.prog 175 4=some 4:=by kernel_rfl
@[simp] theorem s9:Al Tryz.prog 175 5=some 5:=by kernel_rfl
@[simp] theorem sX:Al Tryz.prog 175 6=some 6:=by kernel_rfl
@[simp] theorem s6:Al Tryz.prog 175 7=some 7:=by kernel_rfl
@[simp] theorem Ada (ps:List (Nat × A)):CS Tryz.prog 175 ps=(Dy (fun i=>([(0,1),(1,1),(2,1),(3,1),(4,1),(5,1),(6,1),(7,1)]:List (Nat × Nat))[i]?) [A.v (Value.int i64 0),A.v (Value.int i64 0),A.v (Value.int i64 0),A.v (Value.int i64 0),A.v (Value.int i64 0),A.v (Value.int i64 0),A.v (Value.int i64 0),A.v (Value.bool false)] ps).map A.agg:=by kernel_rfl
@[simp] theorem AiD (x0 y0:Int) (x1 y1:Int) (x2 y2:Int) (x3 y3:Int) (x4 y4:Int) (x5 y5:Int) (x6 y6:Int) (x7 y7:Bool):Zc Tryz.prog 100 175 (.agg [A.v (.int .i64 x0),A.v (.int .i64 x1),A.v (.int .i64 x2),A.v (.int .i64 x3),A.v (.int .i64 x4),A.v (.int .i64 x5),A.v (.int .i64 x6),A.v (.bool x7)]) (.agg [A.v (.int .i64 y0),A.v (.int .i64 y1),A.v (.int .i64 y2),A.v (.int .i64 y3),A.v (.int .i64 y4),A.v (.int .i64 y5),A.v (.int .i64 y6),A.v (.bool y7)])=some (((x0 == y0)&&((x1 == y1)&&((x2 == y2)&&((x3 == y3)&&((x4 == y4)&&((x5 == y5)&&((x6 == y6)&&((x7 == y7)&&(true)))))))))):=by kernel_rfl
@[simp] abbrev xT (n:Nat):Operand:=.tmp n
@[simp] abbrev nI (n:Int):Operand:=.const (.int .i64 n)
@[simp] abbrev cL (f:Nat) (xs:Array Operand) (ts:Array TypeId):Op:=.call { callee:=(.value (.func f)),args:=xs,argTypes:=ts }
@[simp] abbrev mV (n:Nat):Op:=.move (.tmp n)
@[simp] abbrev aS (n:Nat):Op:=.assign (.tmp n)
@[simp] abbrev lD (t n:Nat):Op:=.load t (.tmp n)
@[simp] abbrev fA (t n f:Nat):Op:=.fieldAddr t (.tmp n) f
@[simp] abbrev xR (n i:Nat):Op:=.extract (.tmp n) i
@[simp] abbrev oO (d:Nat) (o:Op):CO:=co (some d) o none
@[simp] abbrev oN (d:Nat) (o:Op) (nm:Nm):CO:=cn (some d) o none nm
@[simp] abbrev oS (o:Op):CO:=co none o none
@[simp] abbrev oG (d:Nat) (o:Op) (k:Nat) (b:Bool):CO:=co (some d) o (some (k,b))
@[simp] abbrev bC (b:Builtin) (xs:Array Operand) (ts:Array TypeId):Op:=.call { callee:=(.builtin b),args:=xs,argTypes:=ts }
@[simp] abbrev bL (n t:Nat):Op:=.call { callee:=(.builtin .len),args:=#[.tmp n],argTypes:=#[t] }
@[simp] abbrev bO (o:BinOp) (t a b u:Nat):Op:=.binOp o t (.tmp a) (.tmp b) u
@[simp] abbrev iA (t a b:Nat):Op:=.indexAddr t (.tmp a) (.tmp b)
@[simp] abbrev nB (b:Bool):Operand:=.const (.bool b)
@[simp] abbrev nS:Operand:=.const (.slice none 0 0)
@[simp] abbrev mO (d n:Nat):CO:=co (some d) (.move (.tmp n)) none
@[simp] abbrev aO (d n:Nat):CO:=co (some d) (.assign (.tmp n)) none
@[simp] abbrev lO (d t n:Nat):CO:=co (some d) (.load t (.tmp n)) none
@[simp] abbrev fO (d t n f:Nat):CO:=co (some d) (.fieldAddr t (.tmp n) f) none
@[simp] abbrev xO (d n i:Nat):CO:=co (some d) (.extract (.tmp n) i) none
def Ac9:Nat→List CO→List (Nat × Nm)
 |_,[]=>[]
 |i,x::l=>if x.nm.isEmpty then Ac9 (i+1) l else (i,x.nm)::Ac9 (i+1) l
def Ru:CC→List Mk
 |.reg a b=>[(b,Ac9 0 a)]
 |.seq x (.keep b (.stop y))=>Ru x++(999997::b,[])::Ru y
 |.seq x (.keep b y)=>Ru x++(999999::b,[])::Ru y
 |.seq x (.stop y)=>Ru x++([999998],[])::Ru y
 |.seq x y=>Ru x++([],[])::Ru y
 |.cond _ x y=>Ru x++Ru y
 |.block _ x=>Ru x
 |.loop x=>Ru x
 |.scope x=>Ru x
 |_=>[]
@[simp] abbrev sR (a:List CO) (b:List Nat) (k:CC):CC:=.seq (.reg a b) k
@[simp] abbrev cD (n:Nat) (a b:CC):CC:=.cond (.tmp n) a b
@[simp] abbrev sT (t a b:Nat):CO:=co none (.store t (.tmp a) (.tmp b)) none
@[simp] abbrev bQ (o:BinOp) (d t a:Nat) (n:Int) (u:Nat):CO:=co (some d) (.binOp o t (.tmp a) (.const (.int .i64 n)) u) none
@[simp] abbrev bB (o:BinOp) (d t a b u:Nat):CO:=co (some d) (.binOp o t (.tmp a) (.tmp b) u) none
@[simp] abbrev aI (d:Nat) (n:Int):CO:=co (some d) (.assign (.const (.int .i64 n))) none
@[simp] abbrev aP (d a b t u:Nat) (m:Nm):CO:=cn (some d) (.call { callee:=(.builtin .append),args:=#[.tmp a,.tmp b],argTypes:=#[t,u] }) none m
@[simp] abbrev pF (d a b:Nat):CO:=co (some d) (.pick (.tmp a) (.tmp b) (.const (.bool false))) none
@[simp] abbrev pT (d a b:Nat):CO:=co (some d) (.pick (.tmp a) (.const (.bool true)) (.tmp b)) none
@[simp] abbrev cA (d f a t:Nat):CO:=co (some d) (.call { callee:=(.value (.func f)),args:=#[.tmp a],argTypes:=#[t] }) none
@[simp] abbrev cB (d f a b t u:Nat):CO:=co (some d) (.call { callee:=(.value (.func f)),args:=#[.tmp a,.tmp b],argTypes:=#[t,u] }) none
@[simp] abbrev cE (d f a b e t u v:Nat):CO:=co (some d) (.call { callee:=(.value (.func f)),args:=#[.tmp a,.tmp b,.tmp e],argTypes:=#[t,u,v] }) none
@[simp] abbrev bX (d t a:Nat) (m:Nm):CO:=cn (some d) (.box t (.tmp a)) none m
@[simp] abbrev aL (d t:Nat) (m:Nm):CO:=cn (some d) (.alloc t) none m
@[simp] abbrev mG (d a k:Nat) (b:Bool):CO:=co (some d) (.move (.tmp a)) (some (k,b))
@[simp] abbrev lG (d t a k:Nat) (b:Bool):CO:=co (some d) (.load t (.tmp a)) (some (k,b))
@[simp] abbrev fG (d t a f k:Nat) (b:Bool):CO:=co (some d) (.fieldAddr t (.tmp a) f) (some (k,b))
@[simp] abbrev iO (d t a b:Nat):CO:=co (some d) (.indexAddr t (.tmp a) (.tmp b)) none
@[simp] abbrev bN (d n t:Nat):CO:=co (some d) (.call { callee:=(.builtin .len),args:=#[.tmp n],argTypes:=#[t] }) none
@[simp] abbrev nC (d a:Nat):CO:=co (some d) (.nilCheck (.tmp a)) none
@[simp] abbrev aB (d:Nat) (b:Bool):CO:=co (some d) (.assign (.const (.bool b))) none
@[simp] abbrev aN (d:Nat):CO:=co (some d) (.assign (.const (.slice none 0 0))) none
@[simp] abbrev lS (d t a k:Nat):CO:=⟨some d,.load t (.tmp a),none,[],k,[],true⟩
@[simp] abbrev sQ (a:List CO) (l:List Nat) (k:CC) (m:List Nat) (n:CC):CC:=.seq (.seq (.reg a l) k) (.keep m n)
def W9:CC:=sR [aB 2 false] [0] (sR [mO 3 0,oO 4 (.binOp .geq 3 (xT 3) (.const (.int .i64 (-536870912))) 3),mO 5 4,mG 6 0 5 true,oG 7 (.binOp .lss 3 (xT 6) (nI 536870912) 3) 5 true,pF 8 5 7,aO 2 8] [2] (.ret))
theorem Aw {f:FuncId} {fn:Func} {cc:CC} {rs:List ResultVar} {n:Nat} (hf:Tryz.prog.funcs[f]? = some fn) (hn:fn.ntmps=n:=by kernel_rfl) (hk:Zo Tryz.prog f=true:=by kernel_rfl) (hb:fn.body=some (fn.body.getD .ret):=by kernel_rfl) (hrs:fn.results.toList=rs:=by kernel_rfl) (hc:KA n (fn.body.getD .ret) (Ru cc)=some (cc,[]):=by kernel_rfl):Bm Tryz.prog f n rs cc:=Acd Ai hk hf hb hn hrs hc
theorem l7:Bm Tryz.prog 224 9 [(.tmp 2)] W9:=Aw Tryz.func224
def Td:CC:=sR [aB 4 false] [0,1] (sR [mO 5 0,bQ .geq 6 3 5 0 3,mO 7 6,mG 8 0 7 true,mG 9 1 7 true,oG 10 (bO .leq 3 8 9 3) 7 true,pF 11 7 10,aO 4 11] [4] (.ret))
theorem dJ:Bm Tryz.prog 225 12 [(.tmp 4)] Td:=Aw Tryz.func225
def aQ:CC:=sR [oO 4 (.assign (.const (.int .u64 0)))] [0,1] (sR [mO 5 0,oO 6 (.convert 3 288 (xT 5)),oO 7 (.binOp .shl 288 (xT 6) (.const (.int .u64 2)) 269),mO 8 1,oO 9 (.convert 3 288 (xT 8)),bB .or 10 288 7 9 288,oO 11 (.convert 288 51 (xT 10)),aO 4 11] [4] (.ret))
theorem qA:Bm Tryz.prog 226 12 [(.tmp 4)] aQ:=Aw Tryz.func226
def Rx:CC:=sR [aL 2 175 [0]] [0,2] (sR [mO 4 0,oO 5 (.convert 51 288 (xT 4)),oO 6 (.convert 288 21 (xT 5)),oO 7 (.convert 21 3 (xT 6)),oO 8 (.binOp .shr 3 (xT 7) (.const (.int .u64 2)) 269),aO 3 8] [0,2,3] (.seq (.block 0 (sR [mO 10 0,oO 11 (.binOp .eql 51 (xT 10) (.const (.int .u64 0)) 51),aO 9 11] [0,2,3,9] (cD 9 (sR [oO 12 (.build 175 #[]),sT 175 2 12] [2] (.ret)) (sR [mO 14 0,oO 15 (.binOp .and 51 (xT 14) (.const (.int .u64 3)) 51),oO 16 (.binOp .eql 51 (xT 15) (.const (.int .u64 0)) 51),aO 13 16] [0,2,3,13] (cD 13 (sR [mO 17 3,mO 18 0,oO 19 (.binOp .shr 51 (xT 18) (.const (.int .u64 32)) 269),oO 20 (.binOp .and 51 (xT 19) (.const (.int .u64 65535)) 51),oO 21 (.convert 51 3 (xT 20)),mO 22 0,oO 23 (.binOp .shr 51 (xT 22) (.const (.int .u64 48)) 269),oO 24 (.convert 51 3 (xT 23)),oO 25 (.build 175 #[(0,(nI 1)),(1,(xT 17)),(2,(xT 21)),(3,(xT 24))]),sT 175 2 25] [2] (.ret)) (sR [mO 27 0,oO 28 (.binOp .and 51 (xT 27) (.const (.int .u64 3)) 51),oO 29 (.binOp .eql 51 (xT 28) (.const (.int .u64 1)) 51),aO 26 29] [0,2,3,26] (cD 26 (sR [mO 30 3,mO 31 0,oO 32 (.binOp .shr 51 (xT 31) (.const (.int .u64 32)) 269),oO 33 (.binOp .and 51 (xT 32) (.const (.int .u64 7)) 51),oO 34 (.convert 51 3 (xT 33)),mO 35 0,oO 36 (.binOp .shr 51 (xT 35) (.const (.int .u64 35)) 269),oO 37 (.convert 51 3 (xT 36)),oO 38 (.build 175 #[(0,(nI 2)),(1,(xT 30)),(4,(xT 34)),(5,(xT 37))]),sT 175 2 38] [2] (.ret)) (sR [mO 40 0,oO 41 (.binOp .and 51 (xT 40) (.const (.int .u64 3)) 51),oO 42 (.binOp .eql 51 (xT 41) (.const (.int .u64 2)) 51),aO 39 42] [0,2,39] (cD 39 (sR [mO 43 0,oO 44 (.binOp .shr 51 (xT 43) (.const (.int .u64 3)) 269),oO 45 (.binOp .and 51 (xT 44) (.const (.int .u64 536870911)) 51),oO 46 (.convert 51 3 (xT 45)),mO 47 0,oO 48 (.binOp .shr 51 (xT 47) (.const (.int .u64 32)) 269),oO 49 (.convert 51 3 (xT 48)),mO 50 0,oO 51 (.binOp .and 51 (xT 50) (.const (.int .u64 4)) 51),oO 52 (.binOp .neq 51 (xT 51) (.const (.int .u64 0)) 51),oO 53 (.build 175 #[(0,(nI 3)),(1,(xT 46)),(6,(xT 49)),(7,(xT 52))]),sT 175 2 53] [2] (.ret)) (.skip)))))))))) (.keep [2] (sR [oO 54 (.build 175 #[(0,(nI 4))]),sT 175 2 54] [2] (.ret)))))
theorem cI:Bm Tryz.prog 204 55 [(.cell 2 175)] Rx:=Aw Tryz.func204
def Ly:CC:=sR [mO 87 4,mO 88 4,⟨some 89,(cL 204 #[(xT 88)] #[51]),none,[],2,[],true⟩,⟨some 90,(lD 175 1),none,[],3,[2],false⟩,bB .eql 91 175 89 90 175,mO 92 91,fG 93 175 1 0 92 true,lG 94 3 93 92 true,oG 95 (.binOp .neq 3 (xT 94) (nI 4) 3) 92 true,pF 96 92 95,aO 2 87,aO 3 96] [2,3] (.ret) 
def SU:CC:=sR [bX 1 175 0 [0],oO 2 (.assign (.const (.int .u64 0))),aB 3 false] [1] (sR [oO 4 (.assign (.const (.int .u64 0)))] [1,4] (sQ [fO 5 175 1 0,lO 6 3 5] [1,4,6] (.block 0 (sR [bQ .eql 8 3 6 1 3,aO 7 8] [1,4,6,7] (cD 7 (sR [fO 9 175 1 1,lO 10 3 9,cA 11 224 10 3,mO 12 11,fG 13 175 1 2 12 true,lG 14 3 13 12 true,oG 15 (cL 225 #[(xT 14),(nI 65535)] #[3,3]) 12 true,pF 16 12 15,mO 17 16,fG 18 175 1 3 17 true,lG 19 3 18 17 true,oG 20 (cL 225 #[(xT 19),(nI 65535)] #[3,3]) 17 true,pF 21 17 20] [1,4,21] (cD 21 (.reg [fO 22 175 1 1,lO 23 3 22,⟨some 24,(cL 226 #[(xT 23),(nI 0)] #[3,3]),none,[],2,[],true⟩,fO 25 175 1 2,⟨some 26,(lD 3 25),none,[],4,[2],false⟩,oO 27 (.convert 3 51 (xT 26)),oO 28 (.binOp .shl 51 (xT 27) (.const (.int .u64 32)) 269),bB .or 29 51 24 28 51,fO 30 175 1 3,⟨some 31,(lD 3 30),none,[],9,[2],false⟩,oO 32 (.convert 3 51 (xT 31)),oO 33 (.binOp .shl 51 (xT 32) (.const (.int .u64 48)) 269),bB .or 34 51 29 33 51,aO 4 34] [1,4]) (.skip))) (sR [bQ .eql 36 3 6 2 3,aO 35 36] [1,4,6,35] (cD 35 (sR [fO 37 175 1 1,lO 38 3 37,cA 39 224 38 3,mO 40 39,fG 41 175 1 4 40 true,lG 42 3 41 40 true,oG 43 (cL 225 #[(xT 42),(nI 7)] #[3,3]) 40 true,pF 44 40 43,mO 45 44,fG 46 175 1 5 45 true,lG 47 3 46 45 true,oG 48 (cL 225 #[(xT 47),(nI 536870911)] #[3,3]) 45 true,pF 49 45 48] [1,4,49] (cD 49 (.reg [fO 50 175 1 1,lO 51 3 50,⟨some 52,(cL 226 #[(xT 51),(nI 1)] #[3,3]),none,[],2,[],true⟩,fO 53 175 1 4,⟨some 54,(lD 3 53),none,[],4,[2],false⟩,oO 55 (.convert 3 51 (xT 54)),oO 56 (.binOp .shl 51 (xT 55) (.const (.int .u64 32)) 269),bB .or 57 51 52 56 51,fO 58 175 1 5,⟨some 59,(lD 3 58),none,[],9,[2],false⟩,oO 60 (.convert 3 51 (xT 59)),oO 61 (.binOp .shl 51 (xT 60) (.const (.int .u64 35)) 269),bB .or 62 51 57 61 51,aO 4 62] [1,4]) (.skip))) (sR [bQ .eql 64 3 6 3 3,aO 63 64] [1,4,63] (cD 63 (sR [fO 65 175 1 1,lO 66 3 65,oO 67 (cL 225 #[(xT 66),(nI 536870911)] #[3,3]),mO 68 67,fG 69 175 1 6 68 true,lG 70 3 69 68 true,oG 71 (cL 225 #[(xT 70),(nI 4294967295)] #[3,3]) 68 true,pF 72 68 71] [1,4,72] (cD 72 (sR [fO 73 175 1 1,lO 74 3 73,oO 75 (.convert 3 51 (xT 74)),oO 76 (.binOp .shl 51 (xT 75) (.const (.int .u64 3)) 269),oO 77 (.binOp .or 51 (xT 76) (.const (.int .u64 2)) 51),fO 78 175 1 6,lO 79 3 78,oO 80 (.convert 3 51 (xT 79)),oO 81 (.binOp .shl 51 (xT 80) (.const (.int .u64 32)) 269),bB .or 82 51 77 81 51,aO 4 82] [1,4] (sR [fO 83 175 1 7,lO 84 4 83] [1,4,84] (cD 84 (.reg [mO 85 4,oO 86 (.binOp .or 51 (xT 85) (.const (.int .u64 4)) 51),aO 4 86] [1,4]) (.skip)))) (.skip))) (.skip)))))))) [1,4] Ly))
theorem de:Bm Tryz.prog 184 97 [(.tmp 2),(.tmp 3)] SU:=Aw Tryz.func184
@[simp] theorem Ale:D9 Tryz.prog 5=some 1:=by kernel_rfl
@[simp] theorem Ak1:D9 Tryz.prog 51=some 1:=by kernel_rfl
@[simp] theorem Aiw:D9 Tryz.prog 249=some 8:=by kernel_rfl
@[simp] theorem AiT:D9 Tryz.prog 270=some 6:=by kernel_rfl
@[simp] theorem AkT:Ey Tryz.prog 5=some false:=by kernel_rfl
@[simp] theorem AiN:Ey Tryz.prog 51=some false:=by kernel_rfl
@[simp] theorem AgY:Ey Tryz.prog 249=some true:=by kernel_rfl
@[simp] theorem AhL:BW Tryz.prog 51=some (Value.int u64 0):=by kernel_rfl
@[simp] theorem Ae7:BW Tryz.prog 249=some (Value.agg #[Value.int IntKind.u8 0,Value.int IntKind.u8 0,Value.int IntKind.u8 0,Value.int IntKind.u8 0,Value.int IntKind.u8 0,Value.int IntKind.u8 0,Value.int IntKind.u8 0,Value.int IntKind.u8 0]):=by kernel_rfl
@[simp] theorem Aeo:BW Tryz.prog 270=some (Value.agg #[Value.int i64 0,Value.int i64 0,Value.int i64 0,Value.int i64 0,Value.int i64 0,Value.int i64 0]):=by kernel_rfl
@[simp] theorem Afl:Cv Tryz.prog 51=some 8:=by kernel_rfl
@[simp] theorem Adz (ps:List (Nat × A)):CS Tryz.prog 270 ps=(Dy (fun i=>some (i*1,1)) [A.v (Value.int i64 0),A.v (Value.int i64 0),A.v (Value.int i64 0),A.v (Value.int i64 0),A.v (Value.int i64 0),A.v (Value.int i64 0)] ps).map A.agg:=by kernel_rfl
def J6:CC:=sR [aI 2 0] [0] (sQ [mO 3 0] [3] (.block 0 (sR [bQ .eql 5 3 3 0 3,aO 4 5] [3,4] (cD 4 (sR [aI 2 0] [2] (.ret)) (sR [bQ .eql 7 3 3 1 3,aO 6 7] [3,6] (cD 6 (sR [aI 2 1] [2] (.ret)) (sR [bQ .eql 9 3 3 2 3,aO 8 9] [3,8] (cD 8 (sR [aI 2 8] [2] (.ret)) (sR [bQ .eql 11 3 3 3 3,aO 10 11] [3,10] (cD 10 (sR [aI 2 16] [2] (.ret)) (sR [bQ .eql 13 3 3 4 3,aO 12 13] [3,12] (cD 12 (sR [aI 2 32] [2] (.ret)) (sR [bQ .eql 15 3 3 5 3,aO 14 15] [14] (cD 14 (sR [aI 2 64] [2] (.ret)) (.skip)))))))))))))) [] (sR [oO 2 (.assign (.const (.int .i64 (-1))))] [2] (.ret)))
theorem Qx:Bm Tryz.prog 109 16 [(.tmp 2)] J6:=Aw Tryz.func109
def Ew:CC:=sQ [mO 11 6,mO 12 5,bB .lss 13 3 11 12 3] [1,5,6,13] (cD 13 (.skip) (.exit 0)) [1,5,6] (.seq (.block 1 (.reg [mO 16 1,oO 17 (.binOp .quo 51 (xT 16) (.const (.int .u64 2)) 51),aO 1 17] [1,5,6])) (.reg [mO 14 6,bQ .add 15 3 14 1 3,aO 6 15] [1,5,6])) 
def KG:CC:=sR [aB 4 false] [0,1] (sR [mO 7 0,cA 8 109 7 3,aO 5 8] [1,5] (sQ [mO 9 5,bQ .lss 10 3 9 0 3] [1,5,10] (cD 10 (sR [aB 4 false] [4] (.ret)) (.skip)) [1,5] (sQ [aI 6 0] [1,5,6] (.block 0 (.loop Ew)) [1] (sR [mO 18 1,oO 19 (.binOp .eql 51 (xT 18) (.const (.int .u64 0)) 51),aO 4 19] [4] (.ret)))))
theorem R2:Bm Tryz.prog 57 20 [(.tmp 4)] KG:=Aw Tryz.func57
def EH:CC:=sQ [mO 11 5,mO 12 0,bN 13 12 22,bB .lss 14 3 11 13 3] [0,1,5,14] (cD 14 (.skip) (.exit 0)) [0,1,5] (.seq (.block 1 (sR [mO 17 0,mO 18 5,iO 19 22 17 18,lO 20 51 19,mO 21 1,mO 22 5,iO 23 22 21 22,lO 24 51 23,bB .neq 25 51 20 24 51] [0,1,5,25] (cD 25 (sR [aB 4 false] [4] (.ret)) (.skip)))) (.keep [0,1,5] (.reg [mO 15 5,bQ .add 16 3 15 1 3,aO 5 16] [0,1,5]))) 
def KY:CC:=sR [aB 4 false] [0,1] (sQ [mO 6 0,bN 7 6 22,mO 8 1,bN 9 8 22,bB .neq 10 3 7 9 3] [0,1,10] (cD 10 (sR [aB 4 false] [4] (.ret)) (.skip)) [0,1] (sQ [aI 5 0] [0,1,5] (.block 0 (.loop EH)) [] (sR [aB 4 true] [4] (.ret))))
theorem Rk:Bm Tryz.prog 38 26 [(.tmp 4)] KY:=Aw Tryz.func38
def RQ:CC:=sR [aI 2 0,aB 3 false] [0] (sR [oO 5 (.build 270 #[(0,(nI 0)),(1,(nI 1)),(2,(nI 8)),(3,(nI 16)),(4,(nI 32)),(5,(nI 64))]),aL 4 270 [0],sT 270 4 5] [0,4] (sQ [mO 6 0,bQ .lss 7 3 6 0 3,mO 8 7,mG 9 0 8 false,oG 10 (.binOp .geq 3 (xT 9) (nI 6) 3) 8 false,pT 11 8 10] [0,4,11] (cD 11 (sR [aI 2 0,aB 3 false] [2,3] (.ret)) (.skip)) [0,4] (sR [mO 12 0,iO 13 270 4 12,lO 14 3 13,aO 2 14,aB 3 true] [2,3] (.ret))))
theorem bJ:Bm Tryz.prog 185 15 [(.tmp 2),(.tmp 3)] RQ:=Aw Tryz.func185
def SK:CC:=sR [aI 2 0,aB 3 false] [0] (sR [mO 4 0,cA 5 185 4 3,xO 6 5 0,xO 7 5 1,aO 2 6,aO 3 7] [2,3] (.ret))
theorem eV:Bm Tryz.prog 254 8 [(.tmp 2),(.tmp 3)] SK:=Aw Tryz.func254
def VF:CC:=sR [aI 4 0] [0,1] (sR [mO 8 0,cA 9 185 8 3,mO 7 9,xO 10 7 0,xO 11 7 1,aO 5 10,aO 6 11] [1,5,6] (sQ [mO 12 6,oO 13 (.unOp .not 4 (xT 12)),mO 14 13,mG 15 1 14 false,oG 16 (.binOp .lss 3 (xT 15) (nI 0) 3) 14 false,pT 17 14 16,mO 18 17,mG 19 1 18 false,oG 20 (.binOp .gtr 3 (xT 19) (nI 1099511627776) 3) 18 false,pT 21 18 20] [1,5,21] (cD 21 (sR [aI 4 0] [4] (.ret)) (.skip)) [1,5] (sR [mO 22 1,mO 23 5,bB .mul 24 3 22 23 3,bQ .add 25 3 24 63 3,bQ .quo 26 3 25 64 3,aO 4 26] [4] (.ret))))
theorem kg:Bm Tryz.prog 182 27 [(.tmp 4)] VF:=Aw Tryz.func182
def Yb:CC:=sR [oO 6 (.assign (.const (.int .u64 0)))] [0,1,2] (sR [mO 11 1,cA 12 185 11 3,mO 10 12,xO 13 10 0,xO 14 10 1,aO 7 13,aO 8 14] [0,2,7,8] (sQ [mO 15 8,oO 16 (.unOp .not 4 (xT 15)),mO 17 16,mG 18 7 17 false,oG 19 (.binOp .eql 3 (xT 18) (nI 0) 3) 17 false,pT 20 17 19,mO 21 20,mG 22 2 21 false,oG 23 (.binOp .lss 3 (xT 22) (nI 0) 3) 21 false,pT 24 21 23,mO 25 24,mG 26 2 25 false,oG 27 (.binOp .gtr 3 (xT 26) (nI 1099511627776) 3) 25 false,pT 28 25 27,mO 29 28,mG 30 2 29 false,mG 31 7 29 false,oG 32 (bO .mul 3 30 31 3) 29 false,oG 33 (.binOp .quo 3 (xT 32) (nI 64) 3) 29 false,mG 34 0 29 false,oG 35 (bL 34 22) 29 false,oG 36 (bO .geq 3 33 35 3) 29 false,pT 37 29 36] [0,2,7,37] (cD 37 (sR [oO 6 (.assign (.const (.int .u64 0)))] [6] (.ret)) (.skip)) [0,2,7] (sR [mO 38 0,mO 39 2,mO 40 7,bB .mul 41 3 39 40 3,bQ .quo 42 3 41 64 3,iO 43 22 38 42,lO 44 51 43,mO 45 2,mO 46 7,bB .mul 47 3 45 46 3,bQ .rem 48 3 47 64 3,bB .shr 49 51 44 48 3,aO 9 49] [7,9] (sQ [mO 50 7,bQ .eql 51 3 50 64 3] [7,9,51] (cD 51 (sR [mO 52 9,aO 6 52] [6] (.ret)) (.skip)) [7,9] (sR [mO 53 9,mO 54 7,oO 55 (.binOp .shl 51 (.const (.int .u64 1)) (xT 54) 3),oO 56 (.binOp .sub 51 (xT 55) (.const (.int .u64 1)) 51),bB .and 57 51 53 56 51,aO 6 57] [6] (.ret))))))
theorem lq:Bm Tryz.prog 255 58 [(.tmp 6)] Yb:=Aw Tryz.func255
def Vs:CC:=sR [aB 2 false] [0] (sR [mO 3 0,bQ .geq 4 3 3 2 3,mO 5 4,mG 6 0 5 true,oG 7 (.binOp .leq 3 (xT 6) (nI 7) 3) 5 true,pF 8 5 7,aO 2 8] [2] (.ret))
theorem jQ:Bm Tryz.prog 140 9 [(.tmp 2)] Vs:=Aw Tryz.func140
def EG:CC:=sQ [mO 7 3,bQ .gtr 8 3 7 0 3,mO 9 8,mG 10 0 9 true,mG 11 3 9 true,oG 12 (.binOp .sub 3 (xT 11) (nI 1) 3) 9 true,oG 13 (iA 22 10 12) 9 true,lG 14 51 13 9 true,oG 15 (.binOp .eql 51 (xT 14) (.const (.int .u64 0)) 51) 9 true,pF 16 9 15] [0,3,16] (cD 16 (.skip) (.exit 0)) [0,3] (.block 1 (.reg [mO 17 3,bQ .sub 18 3 17 1 3,aO 3 18] [0,3])) 
def KM:CC:=sR [aN 2] [0] (sR [mO 5 0,bN 6 5 22,aO 3 6] [0,3] (.seq (.block 0 (.loop EG)) (.keep [0,3] (sR [aN 4] [0,3,4] (sR [mO 19 4,mO 20 0,mO 21 3,oO 22 (.slice 22 (xT 20) none (some (xT 21)) none),aP 23 19 22 22 22 [0],aO 2 23] [2] (.ret))))))
theorem Sx:Bm Tryz.prog 64 24 [(.tmp 2)] KM:=Aw Tryz.func64
@[simp] theorem AkQ:D9 Tryz.prog 22=some 1:=by kernel_rfl
@[simp] theorem AkY:D9 Tryz.prog 41=some 1:=by kernel_rfl
@[simp] theorem Ajt:D9 Tryz.prog 198=some 10:=by kernel_rfl
@[simp] theorem AjQ:D9 Tryz.prog 327=some 7:=by kernel_rfl
@[simp] theorem AiS:Ey Tryz.prog 22=some false:=by kernel_rfl
@[simp] theorem Ajs:Ey Tryz.prog 41=some false:=by kernel_rfl
@[simp] theorem Aic:Ey Tryz.prog 198=some true:=by kernel_rfl
@[simp] theorem Afv:BW Tryz.prog 22=some (Value.slice none 0 0):=by kernel_rfl
@[simp] theorem Aej:BW Tryz.prog 198=some (Value.agg #[Value.int i64 0,Value.int i64 0,Value.int i64 0,Value.int i64 0,Value.int i64 0,Value.int i64 0,Value.int i64 0,Value.bool false,Value.int i64 0,Value.int i64 0]):=by kernel_rfl
@[simp] theorem AdX:BW Tryz.prog 327=some (Value.agg #[Value.int i64 0,Value.int i64 0,Value.int i64 0,Value.int i64 0,Value.int i64 0,Value.int i64 0,Value.int i64 0]):=by kernel_rfl
@[simp] theorem AdP:Cv Tryz.prog 22=some 24:=by kernel_rfl
@[simp] theorem ta:Al Tryz.prog 133 0=some 0:=by kernel_rfl
@[simp] theorem sO:Al Tryz.prog 198 0=some 0:=by kernel_rfl
@[simp] theorem tp:Al Tryz.prog 198 1=some 8:=by kernel_rfl
@[simp] theorem tr:Al Tryz.prog 198 2=some 9:=by kernel_rfl
@[simp] theorem AcT (ps:List (Nat × A)):CS Tryz.prog 133 ps=(Dy (fun i=>([(0,1),(1,1),(2,1),(3,1)]:List (Nat × Nat))[i]?) [A.sl true [],A.v (Value.int i64 0),A.v (Value.int i64 0),A.v (Value.int i64 0)] ps).map A.agg:=by kernel_rfl
@[simp] theorem AdL (ps:List (Nat × A)):CS Tryz.prog 198 ps=(Dy (fun i=>([(0,8),(8,1),(9,1)]:List (Nat × Nat))[i]?) [A.v (Value.int i64 0),A.v (Value.int i64 0),A.v (Value.int i64 0),A.v (Value.int i64 0),A.v (Value.int i64 0),A.v (Value.int i64 0),A.v (Value.int i64 0),A.v (Value.bool false),A.v (Value.int i64 0),A.v (Value.int i64 0)] ps).map A.agg:=by kernel_rfl
@[simp] theorem Ab4 (ps:List (Nat × A)):CS Tryz.prog 327 ps=(Dy (fun i=>some (i*1,1)) [A.v (Value.int i64 0),A.v (Value.int i64 0),A.v (Value.int i64 0),A.v (Value.int i64 0),A.v (Value.int i64 0),A.v (Value.int i64 0),A.v (Value.int i64 0)] ps).map A.agg:=by kernel_rfl
def Cc:CC:=sR [aN 2] [0] (sQ [mO 3 0,oO 4 (.binOp .eql 22 (xT 3) nS 22)] [0,4] (cD 4 (sR [aN 2] [2] (.ret)) (.skip)) [0] (sR [oO 5 (.buildSlice 22 0 #[]),mO 6 0,aP 7 5 6 22 22 [0],aO 2 7] [2] (.ret)))
theorem C8:Bm Tryz.prog 63 8 [(.tmp 2)] Cc:=Aw Tryz.func63
def KS:CC:=sR [bB .lss 11 3 10 9 3] [3,8,9,10,11] (.seq (cD 11 (.skip) (.exit 0)) (.keep [3,8,9,10] (.seq (.block 1 (sR [iO 12 41 8 10,lO 13 22 12,aO 5 13] [3,5,8,9,10] (.reg [mO 14 3,mO 15 3,nC 16 15,fO 17 133 16 0,lS 18 41 17 4,mO 19 5,⟨some 20,(cL 63 #[(xT 19)] #[22]),none,[],6,[4],false⟩,⟨some 21,(.buildSlice 41 1 #[(0,(xT 20))]),none,[],7,[4],false⟩,aP 22 18 21 41 41 [1],nC 23 14,fO 24 133 23 0,sT 41 24 22] [3,8,9,10]))) (.reg [bQ .add 25 3 10 1 3,mO 10 25] [3,8,9,10])))) 
def Y2:CC:=sR [oO 2 (.assign (.const (.pointer none)))] [0] (sR [oO 6 (.build 133 #[]),bX 7 133 6 [0],aO 3 7] [0,3] (sQ [mO 8 0,bN 9 8 41,oO 10 (.move (nI 0))] [3,8,9,10] (.block 0 (.loop KS)) [3] (sR [mO 26 3,aO 2 26] [2] (.ret))))
theorem kO:Bm Tryz.prog 43 27 [(.tmp 2)] Y2:=Aw Tryz.func43
def Ll:CC:=sR [aI 2 0] [0] (sQ [mO 3 0,oO 4 (.binOp .eql 50 (xT 3) (.const (.pointer none)) 50)] [0,4] (cD 4 (sR [aI 2 0] [2] (.ret)) (.skip)) [0] (sR [mO 5 0,nC 6 5,fO 7 133 6 0,lO 8 41 7,bN 9 8 41,aO 2 9] [2] (.ret)))
theorem Ta:Bm Tryz.prog 257 10 [(.tmp 2)] Ll:=Aw Tryz.func257
def Km:CC:=sR [aI 4 0] [0,1] (sQ [mO 5 1,bQ .lss 6 3 5 0 3,mO 7 6,mG 8 1 7 false,mG 9 0 7 false,oG 10 (cL 257 #[(xT 9)] #[50]) 7 false,oG 11 (bO .geq 3 8 10 3) 7 false,pT 12 7 11] [0,1,12] (cD 12 (sR [aI 4 0] [4] (.ret)) (.skip)) [0,1] (sR [mO 13 0,nC 14 13,fO 15 133 14 0,lO 16 41 15,mO 17 1,iO 18 41 16 17,lO 19 22 18,bN 20 19 22,aO 4 20] [4] (.ret)))
theorem QM:Bm Tryz.prog 256 21 [(.tmp 4)] Km:=Aw Tryz.func256
def KJ:CC:=sR [aB 8 false] [0,1,2,3] (sR [mO 10 0,mO 11 1,cB 12 256 10 11 50 3,aO 9 12] [0,1,2,3,9] (sR [mO 13 1,bQ .geq 14 3 13 0 3,mO 15 14,mG 16 1 15 true,mG 17 0 15 true,oG 18 (cL 257 #[(xT 17)] #[50]) 15 true,oG 19 (bO .lss 3 16 18 3) 15 true,pF 20 15 19,mO 21 20,mG 22 2 21 true,oG 23 (.binOp .geq 3 (xT 22) (nI 0) 3) 21 true,pF 24 21 23,mO 25 24,mG 26 3 25 true,oG 27 (.binOp .geq 3 (xT 26) (nI 0) 3) 25 true,pF 28 25 27,mO 29 28,mG 30 3 29 true,mG 31 9 29 true,oG 32 (bO .leq 3 30 31 3) 29 true,pF 33 29 32,mO 34 33,mG 35 2 34 true,mG 36 9 34 true,mG 37 3 34 true,oG 38 (bO .sub 3 36 37 3) 34 true,oG 39 (bO .leq 3 35 38 3) 34 true,pF 40 34 39,aO 8 40] [8] (.ret)))
theorem Sv:Bm Tryz.prog 234 41 [(.tmp 8)] KJ:=Aw Tryz.func234
def KF:CC:=sR [oO 6 (.assign (.const (.int .u64 0))),aB 7 false] [0,1,2] (sQ [mO 8 0,mO 9 1,mO 10 2,oO 11 (cL 234 #[(xT 8),(xT 9),(xT 10),(nI 1)] #[50,3,3,3]),oO 12 (.unOp .not 4 (xT 11))] [0,1,2,12] (cD 12 (sR [oO 6 (.assign (.const (.int .u64 0))),aB 7 false] [6,7] (.ret)) (.skip)) [0,1,2] (sR [mO 13 0,nC 14 13,fO 15 133 14 0,lO 16 41 15,mO 17 1,iO 18 41 16 17,lO 19 22 18,mO 20 2,iO 21 22 19 20,lO 22 51 21,aO 6 22,aB 7 true] [6,7] (.ret)))
theorem Rp:Bm Tryz.prog 198 23 [(.tmp 6),(.tmp 7)] KF:=Aw Tryz.func198
def Ks:CC:=sR [aN 8,aB 9 false] [0,1,2,3] (sQ [mO 10 0,mO 11 1,mO 12 2,mO 13 3,oO 14 (cL 234 #[(xT 10),(xT 11),(xT 12),(xT 13)] #[50,3,3,3]),oO 15 (.unOp .not 4 (xT 14))] [0,1,2,3,15] (cD 15 (sR [aN 8,aB 9 false] [8,9] (.ret)) (.skip)) [0,1,2,3] (sR [mO 16 0,nC 17 16,fO 18 133 17 0,lO 19 41 18,mO 20 1,iO 21 41 19 20,lO 22 22 21,mO 23 2,mO 24 2,mO 25 3,bB .add 26 3 24 25 3,oO 27 (.slice 22 (xT 22) (some (xT 23)) (some (xT 26)) none),cA 28 63 27 22,aO 8 28,aB 9 true] [8,9] (.ret)))
theorem Qr:Bm Tryz.prog 245 29 [(.tmp 8),(.tmp 9)] Ks:=Aw Tryz.func245
def Nt:CC:=sR [bX 1 175 0 [0],aI 2 0,aB 3 false] [1] (sR [oO 5 (.build 327 #[(0,(nI 0)),(1,(nI 1)),(2,(nI 8)),(3,(nI 16)),(4,(nI 32)),(5,(nI 64)),(6,(nI 64))]),aL 4 327 [1],sT 327 4 5] [1,4] (.seq (.block 0 (sR [fO 7 175 1 0,lO 8 3 7,bQ .eql 9 3 8 1 3,aO 6 9] [1,4,6] (cD 6 (sR [fO 10 175 1 2,lO 11 3 10,fO 12 175 1 3,lO 13 3 12,bB .add 14 3 11 13 3,aO 2 14,aB 3 true] [2,3] (.ret)) (sR [fO 16 175 1 0,lO 17 3 16,bQ .eql 18 3 17 2 3,mO 19 18,fG 20 175 1 4 19 true,lG 21 3 20 19 true,oG 22 (.binOp .eql 3 (xT 21) (nI 7) 3) 19 true,pF 23 19 22,aO 15 23] [1,4,15] (cD 15 (sR [fO 24 175 1 5,lO 25 3 24,bQ .add 26 3 25 1 3,aO 2 26,aB 3 true] [2,3] (.ret)) (sR [fO 28 175 1 0,lO 29 3 28,bQ .eql 30 3 29 2 3,mO 31 30,fG 32 175 1 4 31 true,lG 33 3 32 31 true,oG 34 (cL 225 #[(xT 33),(nI 6)] #[3,3]) 31 true,pF 35 31 34,mO 36 35,fG 37 175 1 5 36 true,lG 38 3 37 36 true,oG 39 (cL 225 #[(xT 38),(nI 536870911)] #[3,3]) 36 true,pF 40 36 39,aO 27 40] [1,4,27] (cD 27 (sR [fO 41 175 1 5,lO 42 3 41,fO 43 175 1 4,lO 44 3 43,iO 45 327 4 44,lO 46 3 45,bB .mul 47 3 42 46 3,bQ .add 48 3 47 63 3,bQ .quo 49 3 48 64 3,aO 2 49,aB 3 true] [2,3] (.ret)) (.skip)))))))) (.keep [] (sR [aI 2 0,aB 3 false] [2,3] (.ret)))))
theorem VL:Bm Tryz.prog 267 50 [(.tmp 2),(.tmp 3)] Nt:=Aw Tryz.func267
def Rz:CC:=sR [bX 3 198 1 [0],aL 4 198 [1],aI 5 0] [0,3,4] (sR [fO 9 198 3 0,lO 10 175 9,cA 11 267 10 175,mO 8 11,xO 12 8 0,xO 13 8 1,aO 6 12,aO 7 13] [0,3,4,6] (sQ [mO 14 0,fO 15 198 3 1,lO 16 3 15,fO 17 198 3 2,lO 18 3 17,mO 19 6,oO 20 (cL 234 #[(xT 14),(xT 16),(xT 18),(xT 19)] #[50,3,3,3]),oO 21 (.unOp .not 4 (xT 20))] [3,4,21] (cD 21 (sR [oO 22 (.build 198 #[]),sT 198 4 22,aI 5 7] [4,5] (.ret)) (.skip)) [3,4] (sR [fO 23 198 3 0,fO 24 175 23 1,oS (.store 3 (xT 24) (nI 0))] [3,4] (sR [lO 25 198 3,sT 198 4 25,aI 5 0] [4,5] (.ret)))))
theorem fj:Bm Tryz.prog 244 26 [(.cell 4 198),(.tmp 5)] Rz:=Aw Tryz.func244
def OB:CC:=cD 12 (sR [mO 15 0,lO 16 175 5,mO 17 2,mO 18 3,bQ .add 19 3 18 1 3,fO 20 175 5 1,lO 21 3 20,bB .add 22 3 19 21 3,oO 23 (.build 198 #[(0,(xT 16)),(1,(xT 17)),(2,(xT 22))]),cB 24 244 15 23 50 198,xO 25 24 0,xO 26 24 1,sT 198 8 25,aO 9 26] [8,9] (.ret)) (sR [bQ .eql 28 3 11 4 3,aO 27 28] [8,27] (cD 27 (sR [oO 29 (.build 198 #[]),sT 198 8 29,aI 9 9] [8,9] (.ret)) (.skip))) 
def Y5:CC:=sR [bX 5 175 1 [0],aL 8 198 [1],aI 9 0] [0,2,3,5,8] (sQ [fO 10 175 5 0,lO 11 3 10] [0,2,3,5,8,11] (.block 0 (sQ [bQ .eql 13 3 11 1 3,aO 12 13] [0,2,3,5,8,11,12] (cD 12 (.skip) (.reg [bQ .eql 14 3 11 2 3,aO 12 14] [0,2,3,5,8,11,12])) [0,2,3,5,8,11,12] OB)) [8] (sR [oO 30 (.build 198 #[]),sT 198 8 30,aI 9 8] [8,9] (.ret)))
theorem kH:Bm Tryz.prog 205 31 [(.cell 8 198),(.tmp 9)] Y5:=Aw Tryz.func205
def RY:CC:=sR [aL 6 198 [0],aI 7 0] [0,1,2,6] (sR [mO 13 0,mO 14 1,mO 15 2,oO 16 (cL 245 #[(xT 13),(xT 14),(xT 15),(nI 2)] #[50,3,3,3]),mO 12 16,xO 17 12 0,xO 18 12 1,aO 8 17,aO 9 18] [0,6,8,9] (sQ [mO 19 9,oO 20 (.unOp .not 4 (xT 19))] [0,6,8,20] (cD 20 (sR [oO 21 (.build 198 #[]),sT 198 6 21,aI 7 7] [6,7] (.ret)) (.skip)) [0,6,8] (sR [mO 22 8,oO 23 (.indexAddr 22 (xT 22) (nI 0)),lS 24 51 23 2,⟨some 25,(cL 204 #[(xT 24)] #[51]),none,[],3,[],true⟩,mO 26 8,oO 27 (.indexAddr 22 (xT 26) (nI 1)),⟨some 28,(lD 51 27),none,[],6,[3],true⟩,⟨some 29,(cL 204 #[(xT 28)] #[51]),none,[],7,[],true⟩,⟨some 10,(.alloc 175),none,[1],8,[2,3,6,7],true⟩,⟨some 11,(.alloc 175),none,[2],9,[2,3,6,7,8],false⟩,sT 175 10 25,sT 175 11 29] [0,6,10,11] (.seq (.block 0 (sR [fO 31 175 10 0,lO 32 3 31,bQ .neq 33 3 32 3 3,mO 34 33,fG 35 175 10 7 34 false,lG 36 4 35 34 false,pT 37 34 36,aO 30 37] [0,6,10,11,30] (cD 30 (sR [oO 38 (.build 198 #[]),sT 198 6 38,aI 7 8] [6,7] (.ret)) (sR [fO 40 175 11 0,lO 41 3 40,bQ .eql 42 3 41 4 3,aO 39 42] [0,6,10,11,39] (cD 39 (sR [oO 43 (.build 198 #[]),sT 198 6 43,aI 7 9] [6,7] (.ret)) (sR [fO 45 175 11 0,lO 46 3 45,bQ .neq 47 3 46 1 3,mO 48 47,fG 49 175 11 0 48 true,lG 50 3 49 48 true,oG 51 (.binOp .neq 3 (xT 50) (nI 2) 3) 48 true,pF 52 48 51,mO 53 52,fG 54 175 11 1 53 false,lG 55 3 54 53 false,oG 56 (.binOp .neq 3 (xT 55) (nI 0) 3) 53 false,pT 57 53 56,aO 44 57] [0,6,10,11,44] (cD 44 (sR [oO 58 (.build 198 #[]),sT 198 6 58,aI 7 8] [6,7] (.ret)) (.skip)))))))) (.keep [0,6,10,11] (sR [mO 59 0,lO 60 175 11,fO 61 175 10 6,lO 62 3 61,fO 63 175 10 1,lO 64 3 63,oO 65 (.build 198 #[(0,(xT 60)),(1,(xT 62)),(2,(xT 64))]),cB 66 244 59 65 50 198,xO 67 66 0,xO 68 66 1,sT 198 6 67,aO 7 68] [6,7] (.ret)))))))
theorem dz:Bm Tryz.prog 206 69 [(.cell 6 198),(.tmp 7)] RY:=Aw Tryz.func206
def SI:CC:=sR [aL 6 198 [0],aI 7 0] [0,1,2,6] (sR [mO 13 0,mO 14 1,mO 15 2,cE 16 198 13 14 15 50 3 3,mO 12 16,xO 17 12 0,xO 18 12 1,aO 8 17,aO 9 18] [0,1,2,6,8,9] (sQ [mO 19 9,oO 20 (.unOp .not 4 (xT 19))] [0,1,2,6,8,20] (cD 20 (sR [oO 21 (.build 198 #[]),sT 198 6 21,aI 7 7] [6,7] (.ret)) (.skip)) [0,1,2,6,8] (sR [mO 22 8,cA 23 204 22 51,aL 10 175 [1],sT 175 10 23] [0,1,2,6,10] (.seq (.block 0 (sR [fO 25 175 10 0,lO 26 3 25,bQ .eql 27 3 26 0 3,aO 24 27] [0,1,2,6,10,24] (cD 24 (sR [oO 28 (.build 198 #[]),sT 198 6 28,aI 7 0] [6,7] (.ret)) (sR [fO 30 175 10 0,lO 31 3 30,bQ .neq 32 3 31 3 3,aO 29 32] [0,1,2,6,10,29] (cD 29 (sR [mO 33 0,lO 34 175 10,mO 35 1,mO 36 2,oO 37 (cL 205 #[(xT 33),(xT 34),(xT 35),(xT 36)] #[50,175,3,3]),xO 38 37 0,xO 39 37 1,sT 198 6 38,aO 7 39] [6,7] (.ret)) (sR [fO 41 175 10 7,lO 42 4 41,aO 40 42] [0,6,10,40] (cD 40 (sR [mO 43 0,fO 44 175 10 6,lO 45 3 44,fO 46 175 10 1,lO 47 3 46,cE 48 206 43 45 47 50 3 3,xO 49 48 0,xO 50 48 1,sT 198 6 49,aO 7 50] [6,7] (.ret)) (.skip)))))))) (.keep [0,6,10] (sR [mO 52 0,fO 53 175 10 6,lO 54 3 53,fO 55 175 10 1,lO 56 3 55,cE 57 198 52 54 56 50 3 3,mO 51 57,xO 58 51 0,xO 59 51 1,aO 11 58,aO 9 59] [0,6,9,10,11] (sQ [mO 60 9,oO 61 (.unOp .not 4 (xT 60))] [0,6,10,11,61] (cD 61 (sR [oO 62 (.build 198 #[]),sT 198 6 62,aI 7 7] [6,7] (.ret)) (.skip)) [0,6,10,11] (sR [mO 63 0,mO 64 11,⟨some 65,(cL 204 #[(xT 64)] #[51]),none,[],2,[],true⟩,fO 66 175 10 6,⟨some 67,(lD 3 66),none,[],4,[2],false⟩,fO 68 175 10 1,⟨some 69,(lD 3 68),none,[],6,[2],false⟩,oO 70 (cL 205 #[(xT 63),(xT 65),(xT 67),(xT 69)] #[50,175,3,3]),xO 71 70 0,xO 72 70 1,sT 198 6 71,aO 7 72] [6,7] (.ret)))))))))
theorem bG:Bm Tryz.prog 157 73 [(.cell 6 198),(.tmp 7)] SI:=Aw Tryz.func157
end Go.Proofs.YtbjmaoedheiigaaGreat
