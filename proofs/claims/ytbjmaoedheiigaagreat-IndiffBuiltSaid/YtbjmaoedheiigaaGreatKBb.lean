/-
 Texts,merged,without what is not reached.
-/
import Derived.Test.YtbjmaoedheiigaaGreatKBa
set_option linter.unusedSimpArgs false
set_option linter.unusedVariables false
open Go.IntKind (i64 u64)
namespace Go.G
open Go.RowKit
def Up (c:Cx) (Q:Exit→Sta→Prop):Exit→Act→World→Prop:=fun e a w=>∃ st I μ,SR c st a w I μ∧Q e st
def AWP (c:Cx) (code:Code) (Q:Exit→Sta→Prop) (st:Sta):Prop:=∀ a w I μ,SR c st a w I μ→code.wp c.P (Up c Q) a w
def Aiq (c:Cx) (y:Code) (Q:Exit→Sta→Prop):Exit→Sta→Prop
 |.normal,st=>AWP c y Q st
 |e,st=>Q e st
def BD (id:Nat) (Q:Exit→Sta→Prop):Exit→Sta→Prop
 |.exit id',st=>if id'=id then Q .normal st else Q (.exit id') st
 |e,st=>Q e st
section
variable {c:Cx} {Q:Exit→Sta→Prop} {st:Sta} {x y:Code}
@[simp] theorem uB {i:Nat}:BD i Q .normal st=Q .normal st:=rfl
@[simp] theorem yi {i:Nat}:BD i Q .ret st=Q .ret st:=rfl
@[simp] theorem aA {i:Nat}:BD i Q (.exit i) st=Q .normal st:=by simp[BD]
theorem Qv {i j:Nat} (h:j ≠ i):BD i Q (.exit j) st=Q (.exit j) st:=by simp[BD,h]
theorem AWP.mono {Q':Exit→Sta→Prop} (h:AWP c x Q st) (hq:∀ e st,Q e st→Q' e st):AWP c x Q' st:=fun a w I μ hs=>
 wp_mono (h a w I μ hs) fun e a' w' ⟨st',I',μ',h1,h2⟩=>⟨st',I',μ',h1,hq e st' h2⟩
theorem w4 (h:AWP c x (Aiq c y Q) st):AWP c (.seq x y) Q st:=fun a w I μ hs=>
 wp_seq (wp_mono (h a w I μ hs) fun e a' w' ⟨st',I',μ',h1,h2⟩=>by
  cases e<;>first | exact h2 a' w' I' μ' h1 | exact⟨st',I',μ',h1,h2⟩)
theorem rh (h:Q .normal st):AWP c .skip Q st:=fun a w I μ hs=>wp_skip ⟨st,I,μ,hs,h⟩
theorem rL {i:Nat} (h:Q (.exit i) st):AWP c (.exit i) Q st:=fun a w I μ hs=>wp_exit ⟨st,I,μ,hs,h⟩
theorem vz (h:Q .ret st):AWP c .ret Q st:=fun a w I μ hs=>wp_ret ⟨st,I,μ,hs,h⟩
theorem nH {i:Nat} (h:AWP c x (BD i Q) st):AWP c (.block i x) Q st:=fun a w I μ hs=>
 wp_block (wp_mono (h a w I μ hs) fun e a' w' ⟨st',I',μ',h1,h2⟩=>by
  cases e with
  |exit j=>
   simp only[Exit.inBlock];by_cases hj:j=i
   ·subst hj;rw[if_pos rfl];exact⟨st',I',μ',h1,by simpa using h2⟩
   ·rw[if_neg hj];exact⟨st',I',μ',h1,by rwa [Qv hj] at h2⟩
  |_=>exact⟨st',I',μ',h1,h2⟩)
theorem sB {o:Operand} {b:Bool} (hb:evs st.s o = .v (.bool b)) (ht:b=true→AWP c x Q st) (hf:b=false→AWP c y Q st):AWP c (.cond o x y) Q st:=fun a w I μ hs=>by
 have h1:=hs.evs o;rw[hb] at h1;generalize hu:a.eval o=u at h1;cases h1;exact wp_cond_split hu (fun h=>ht h a w I μ hs) (fun h=>hf h a w I μ hs)
def aR (P:Program) (body:Code) (Q:Exit→Act→World→Prop) (a:Act) (w:World):Prop:=
 ∀ (b:Frame) (k:List Item) (cs:List Frame),∃ e a' w',Q e a' w'∧Arrives P (lone (b.at a (.code body :: .inLoop body::k)) cs w) b k cs e a' w'
theorem iu {P:Program} {body:Code} {Q:Exit→Act→World→Prop} {a:Act} {w:World} (h:body.wp P (Exit.then (aR P body Q) Q) a w):aR P body Q a w:=by
 intro b k cs;obtain⟨e,a₁,w₁,hq,harr⟩:=h b (.inLoop body::k) cs;cases e with
 |normal=>
  obtain⟨e₂,a₂,w₂,hq₂,harr₂⟩:=hq b k cs;exact⟨e₂,a₂,w₂,hq₂,.of_steps (Steps.trans harr (.one step_inLoop)) harr₂⟩
 |exit id=>exact⟨_,a₁,w₁,hq,.pass (x:=.inLoop body) rfl (fun _ _=>.inl (by simp)) harr⟩
 |goto l=>exact⟨_,a₁,w₁,hq,.pass (x:=.inLoop body) rfl (fun _ _=>.inl (by simp)) harr⟩
 |ret=>exact⟨_,a₁,w₁,hq,.pass (x:=.inLoop body) rfl (fun _ _=>.inl (by simp)) harr⟩
 |panic ch=>exact⟨_,a₁,w₁,hq,.pass (x:=.inLoop body) rfl (fun _ _=>.inl (by simp)) harr⟩
 |outgrown=>exact⟨_,a₁,w₁,hq,.pass (x:=.inLoop body) rfl (fun _ _=>.inl (by simp)) harr⟩
theorem pQ {P:Program} {body:Code} {Q:Exit→Act→World→Prop} {a:Act} {w:World} (h:aR P body Q a w):(Code.loop body).wp P Q a w:=by
 intro b k cs;obtain⟨e,a₁,w₁,hq,harr⟩:=h b k cs;exact⟨e,a₁,w₁,hq,.of_steps (.one step_loop) harr⟩
def AHead (c:Cx) (body:Code) (Q:Exit→Sta→Prop) (st:Sta):Prop:=∀ a w I μ,SR c st a w I μ→aR c.P body (Up c Q) a w
def AfM (c:Cx) (body:Code) (Q:Exit→Sta→Prop):Exit→Sta→Prop
 |.normal,st=>AHead c body Q st
 |e,st=>Q e st
theorem dZ (h:AWP c x (AfM c x Q) st):AHead c x Q st:=fun a w I μ hs=>
 iu (wp_mono (h a w I μ hs) fun e a' w' ⟨st',I',μ',h1,h2⟩=>by
  cases e<;>first | exact h2 a' w' I' μ' h1 | exact⟨st',I',μ',h1,h2⟩)
theorem tT (h:AHead c x Q st):AWP c (.loop x) Q st:=fun a w I μ hs=>pQ (h a w I μ hs)
def Le (c:Cx) (st st':Sta):Prop:=∀ a w I μ,SR c st a w I μ→∃ I' μ',SR c st' a w I' μ'
theorem Le.refl:Le c st st:=fun _ _ I μ h=>⟨I,μ,h⟩
theorem Le.trans {st1 st2 st3:Sta} (h:Le c st1 st2) (k:Le c st2 st3):Le c st1 st3:=fun a w I μ hs=>let ⟨I',μ',h1⟩:=h a w I μ hs;k a w I' μ' h1
theorem AWP.le {st':Sta} (h:Le c st st') (k:AWP c x Q st'):AWP c x Q st:=fun a w I μ hs=>let ⟨I',μ',h1⟩:=h a w I μ hs;k a w I' μ' h1
theorem AHead.le {st':Sta} (h:Le c st st') (k:AHead c x Q st'):AHead c x Q st:=fun a w I μ hs=>let ⟨I',μ',h1⟩:=h a w I μ hs;k a w I' μ' h1
theorem qR {s s':Nat→A} {H:Hp} (h:∀ t,s' t=s t∨s' t = .any):Le c ⟨s,H⟩ ⟨s',H⟩:=fun a w I μ hs=>
 ⟨I,μ,hs.sim,hs.size,hs.defers,fun t=>by
  rcases h t with e | e
  ·show Rel w I μ (s' t) _;rw[e];exact hs.rel t
  ·show Rel w I μ (s' t) _;rw[e];exact .any _ _⟩
theorem eW (s:Nat→A):∀ (l:List (Nat × A)),(∀ p,p ∈ l→s p.1=p.2)→∀ t,lk l t=s t∨lk l t = .any
 |[],_,t=>.inr rfl
 |(k,x)::l,h,t=>by
  unfold lk;by_cases e:k=t
  ·subst e;rw[if_pos rfl];exact .inl (h (k,x) (by simp)).symm
  ·rw[if_neg e];exact eW s l (fun p hp=>h p (by simp[hp])) t
theorem Ao {s:Nat→A} {H:Hp} (l:List (Nat × A)) (h:∀ p,p ∈ l→s p.1=p.2):Le c ⟨s,H⟩ ⟨lk l,H⟩:=qR (eW s l h)
def QO (P:Program) (st:Sta):ResultVar→Option A
 |.tmp t=>some (st.s t)
 |.cell a t=>GC P st.H t (st.s a)
def Iy (P:Program) (st:Sta):List ResultVar→Option (List A)
 |[]=>some []
 |r::rs=>match QO P st r,Iy P st rs with
  |some x,some l=>some (x::l)
  |_,_=>none
def O7 (P:Program) (st:Sta) (rs:List ResultVar):Option A:=
 match rs with
 |[r]=>QO P st r
 |rs=>(Iy P st rs).map .tup
theorem R9 {a:Act} {w:World} {I:Nat→Prop} {μ:Mu} (hs:SR c st a w I μ) {r:ResultVar} {x:A} (h:QO c.P st r=some x) :
  ∃ v,((match r with | .tmp t=>pure (a.tmps.getD t undef) | .cell p t=>do loadVar t (← asAddr (a.tmps.getD p undef))):Sem Value).run c.P w = .ok v w∧Rel w I μ x v:=by
 cases r with
 |tmp t=>cases h;exact⟨_,rfl,hs.rel t⟩
 |cell p t=>
  have hr:=hs.rel p;obtain⟨v,h1,h2⟩:=OV hs.sim hr h;refine⟨v,?_,h2⟩;have:∃ q,a.tmps.getD p undef = .pointer (some q):=G8 hr (Zf h);obtain⟨q,hq⟩:=this;rw[hq] at h1;simp only[hq,asAddr];simpa[Instr.loadAt,Instr.sureAddr] using h1
theorem Qe {a:Act} {w:World} {I:Nat→Prop} {μ:Mu} (hs:SR c st a w I μ):∀ {rs:List ResultVar} {xs:List A},Iy c.P st rs=some xs →
  ∃ vs:List Value,(rs.mapM (m:=Sem) fun | .tmp t=>pure (a.tmps.getD t undef) | .cell p t=>do loadVar t (← asAddr (a.tmps.getD p undef))).run c.P w = .ok vs w∧vs.length=xs.length∧∀ (k:Nat) (y:A) (v:Value),xs[k]? = some y→vs[k]? = some v→Rel w I μ y v
 |[],xs,h=>by cases h;exact⟨[],rfl,rfl,fun k y v hk=>by simp at hk⟩
 |r::rs,xs,h=>by
  unfold Iy at h;split at h
  ·rename_i x l hx hl;cases h;obtain⟨v,h1,h2⟩:=R9 hs hx;obtain⟨vs,h3,h4,h5⟩:=Qe hs hl;refine⟨v::vs,?_,by simp[h4],fun k y u hk hu=>?_⟩
   ·rw[List.mapM_cons];simp only[Sem.run_bind,h1,Result.andThen_ok,h3,Sem.run_pure]
   ·cases k with
    |zero=>simp at hk hu;subst hk hu;exact h2
    |succ k=>exact h5 k y u (by simpa using hk) (by simpa using hu)
  ·cases h
theorem YA {fn:Func} {a:Act} {w:World} {I:Nat→Prop} {μ:Mu} (hs:SR c st a w I μ) {x:A} (h:O7 c.P st fn.results.toList=some x):∃ v,(results fn a.tmps).run c.P w = .ok v w∧Rel w I μ x v:=by
 have hm:∀ {vs:List Value},(fn.results.toList.mapM (m:=Sem) fun | .tmp t=>pure (a.tmps.getD t undef) | .cell p t=>do loadVar t (← asAddr (a.tmps.getD p undef))).run c.P w = .ok vs w →
   (results fn a.tmps).run c.P w = .ok (if h:vs.toArray.size=1 then vs.toArray[0] else .tuple vs.toArray) w:=fun {vs} hv=>by
  unfold results;rw[Array.mapM_eq_mapM_toList];simp only[Sem.run_bind,Sem.run_map]
  erw [hv]
  rfl
 unfold O7 at h;split at h
 ·rename_i r hr;obtain⟨v,h1,h2⟩:=R9 hs h;have:=hm (vs:=[v]) (by rw[hr,List.mapM_cons];simp only[Sem.run_bind,h1,Result.andThen_ok];rfl);exact⟨v,by simpa using this,h2⟩
 ·rename_i rs hne;simp only[Option.map_eq_some_iff] at h;obtain⟨xs,hx,rfl⟩:=h;obtain⟨vs,h1,h2,h3⟩:=Qe hs hx;have hlen:xs.length=fn.results.toList.length:=by
   have:∀ (rs:List ResultVar) (xs:List A),Iy c.P st rs=some xs→xs.length=rs.length:=by
    intro rs;induction rs with
    |nil=>intro xs h;cases h;rfl
    |cons r rs ih=>
     intro xs h;unfold Iy at h;split at h
     ·rename_i x l _ hl;cases h;simp[ih l hl]
     ·cases h
   exact this _ _ hx
  have hv1:¬ vs.toArray.size=1:=by
   intro he;simp only[List.size_toArray] at he;have:fn.results.toList.length=1:=by omega
   obtain⟨r,hr⟩:=List.length_eq_one_iff.1 this;exact hne r hr
  have:=hm h1;rw[dif_neg hv1] at this;refine⟨_,this,.tup _ _ _ (by simp[h2]) fun k y hk=>?_⟩;have hlt:k<vs.length:=by rw[h2];exact(List.getElem?_eq_some_iff.1 hk).1
  have e:vs.toArray.getD k undef=vs[k]:=by simp[hlt]
  rw[e];exact h3 k y _ hk (List.getElem?_eq_getElem hlt)
def pJ (P:Program) (rs:List ResultVar) (Q:A→Hp→Prop):Exit→Sta→Prop
 |.normal,st | .ret,st=>∃ r0,O7 P st rs=some r0∧Q r0 st.H
 |_,_=>False
def Rz (args:List A):Nat→A:=fun t=>(args[t]?).getD .any
theorem XV {P:Program} {f:FuncId} {fn:Func} {code:Code} (hf:P.funcs[f]? = some fn) (hb:fn.body=some code) {c:Cx} (hcP:c.P=P) (hcn:c.n=fn.ntmps) {args:List A} {vs:Array Value} (hl:vs.size=args.length) (ha:args.length≤fn.ntmps)
  {w:World} {I:Nat→Prop} {μ:Mu} {H:Hp} (hs:Sim c w I μ H) (hr:∀ (k:Nat) (y:A),args[k]? = some y→Rel w I μ y (vs.getD k undef)) {Q:A→Hp→Prop} (h:AWP c code (pJ P fn.results.toList Q) ⟨Rz args,H⟩) :
  Calls P f vs w fun e w'=>∃ v r0 H' I' μ',e = .returned v∧Sim c w' I' μ' H'∧Rel w' I' μ' r0 v∧Q r0 H':=by
 subst hcP;refine calls_of_wp hf hb ?_;have hs:SR c ⟨Rz args,H⟩ { tmps:=vs++Array.replicate (fn.ntmps-vs.size) undef,defers:=[] } w I μ:=by
  refine⟨hs,?_,rfl,fun t=>?_⟩
  ·simp[hcn,hl];omega
  ·show Rel w I μ (Rz args t) _;unfold Rz;cases hq:args[t]? with
   |none=>exact .any _ _
   |some y=>
    have hlt:=(List.getElem?_eq_some_iff.1 hq).1;have e:(vs++Array.replicate (fn.ntmps-vs.size) undef).getD t undef=vs.getD t undef:=by
     simp only[Array.getD_eq_getD_getElem?];rw[Array.getElem?_append_left (by omega)]
    rw[e];exact hr t y hq
 refine wp_mono (h _ w I μ hs) fun e a' w' ⟨st',I',μ',h1,h2⟩=>?_;have fin:(∃ r0,O7 c.P st' fn.results.toList=some r0∧Q r0 st'.H)→a'.defers=[]∧∃ v,(results fn a'.tmps).run c.P w' = .ok v w'∧∃ v' r0 H' I' μ',Ending.returned v = .returned v'∧Sim c w' I' μ' H'∧Rel w' I' μ' r0 v'∧Q r0 H':=by
  rintro⟨r0,h3,h4⟩;obtain⟨v,h5,h6⟩:=YA (fn:=fn) h1 h3;exact⟨h1.defers,v,h5,v,r0,st'.H,I',μ',rfl,h1.sim,h6,h4⟩
 cases e<;>first | exact fin h2 | exact h2.elim
def cx (P:Program) (w0:World) (I0:Nat→Prop) (n:Nat):Cx:=⟨P,w0,I0,fun _ _=>False,n,YN⟩
def H0:Hp:=fun _=>⟨0,.none⟩
theorem ZW {P:Program} {w:World} {I:Nat→Prop} {n:Nat} (hI:∀ b,I b→b<w.heap.size) (ht:Tabs P w I):Sim (cx P w I n) w I YN H0:=
 ⟨⟨rfl,rfl,rfl,BZ _,fun _ _ _=>rfl⟩,hI,fun _ h=>h,fun b hb=>.inl hb,fun _=>rfl,fun _=>trivial,(fun _ _ h=>nomatch h),(fun _ h=>nomatch h),MuLe.refl _,(fun _ h=>nomatch h),ht⟩
theorem iQ {P:Program} {f:FuncId} {fn:Func} {code:Code} {args:List A} {r:A} {n:Nat} (hk:YO P f=true) (hf:P.funcs[f]? = some fn) (hb:fn.body=some code) (hn:fn.ntmps=n) (ha:args.length≤n)
  (h:∀ w0 I0,AWP (cx P w0 I0 n) code (pJ P fn.results.toList fun r0 H=>J3 H r0 r) ⟨Rz args,H0⟩):Spec P f args r:=by
 refine⟨hk,fun w I vs hI htb hl hr=>?_⟩;refine(XV hf hb (c:=cx P w I n) rfl hn.symm hl (by omega) (ZW hI htb) hr (h w I)).mono fun e w' ⟨v,r0,H',I',μ',he,h1,h2,h3⟩=>⟨v,he,?_,?_⟩
 ·have k:=h1.kept;exact⟨k.os,k.tape,k.output,k.size,fun b hb=>k.block b hb (fun ⟨_,h⟩=>h)⟩
 ·refine(h3 _ w' I' μ' v h1 h2).mono0 (fun b hb=>?_) (fun _ _=>rfl);rcases hb with hb | ⟨o,g1,rfl⟩
  ·rcases h1.new b hb with g | g
   ·exact .inl g
   ·exact .inr ⟨g,h1.lt b hb⟩
  ·obtain⟨_,g4,g5⟩:=h1.own o g1;rcases g4 with g4 | g4
   ·exact g4.elim
   ·exact .inr ⟨g4,g5⟩
theorem Cd {s:Nat→A} {H:Hp} (t:Nat) (d:Nm) (sz:Nat) (ht:s t = .sl true []):Le c ⟨s,H⟩ ⟨upd s t (.osl d ((H d).u+1) sz 0 0),Ay H d ⟨(H d).u+1,.arr sz []⟩⟩:=fun a w I μ hs=>by
 obtain⟨hx,hs'⟩:=hs.sim.upd (DR w none) d ⟨(H d).u+1,false,0,0,sz,0⟩ (.arr sz []) (.inl rfl) (.inl (by rw[hs.sim.ver];exact Nat.lt_succ_self _)) (fun h=>nomatch h) (fun h=>nomatch h) (fun hx=>⟨rfl,.inl ⟨rfl,rfl⟩⟩);refine⟨I,_,hs',hs.size,hs.defers,fun k=>?_⟩;show Rel w I _ (upd s t _ k) _;unfold upd;split
 ·rename_i hk;subst hk;have h1:=hs.rel k;simp only[ht] at h1;generalize a.tmps.getD k undef=v at h1;cases h1 with
  |slN _ _ q cap hc=>
   have:=hc rfl;subst this;exact .osl _ _ _ _ _ _ _ _ (by omega) (by simp) (BZ _) (fun h=>by omega) (fun _=>by simp)
  |sl _ _ b off n cap z _ g h1 h2 h3 h4=>
   have h5:n=0:=h2;have h6:cap=0:=h4 rfl;subst h5 h6;exact .osl _ _ _ _ _ _ _ _ (by omega) (by simp) (BZ _) (fun h=>by omega) (fun _=>by simp)
 ·exact hx.rel (hs.rel k)
end
structure CO where
 d:Option Nat
 o:Op
 g:Option (Nat × Bool)
 nm:Nm
 ix:Nat
 un:List Nat
 lg:Bool
abbrev co (d:Option Nat) (o:Op) (g:Option (Nat × Bool)):CO:=⟨d,o,g,[],0,[],false⟩
abbrev cn (d:Option Nat) (o:Op) (g:Option (Nat × Bool)) (nm:Nm):CO:=⟨d,o,g,nm,0,[],false⟩
inductive CC where
 |skip
 |reg (ops:List CO) (live:List Nat)
 |seq (x y:CC)
 |cond (c:Operand) (x y:CC)
 |block (i:Nat) (x:CC)
 |loop (x:CC)
 |exit (i:Nat)
 |ret
 |keep (live:List Nat) (x:CC)
 |stop (x:CC)
 |scope (x:CC)
def eR:List (Nat × Nm)→Nat→Nm
 |[],_=>[]
 |(k,n)::l,i=>if k=i then n else eR l i
def U9 (draw:Bool) (ops:Array Oper) (ms:List Nat) (i j:Nat):Bool:=draw&&VB ops ms i j
theorem xH {draw:Bool} {ops:Array Oper}:U9 draw ops (jP ops)=sZ draw ops:=by
 cases draw
 ·rfl
 ·funext i j;simp[U9,sZ]
def Aap (ops:Array Oper) (draw:Bool) (ms:List Nat) (nms:List (Nat × Nm)) (i:Nat) (o:Oper):Option CO:=
 let un:=(List.range i).filter fun j=>U9 draw ops ms j i
 let lg:=(List.range ops.size).any fun k=>Nat.blt i k&&U9 draw ops ms i k
 let ix:=if un.isEmpty&&!lg then 0 else i
 match o.guard with
 |none=>some ⟨o.dst,o.op,none,eR nms i,ix,un,lg⟩
 |some (j,f)=>match (ops[j]?).bind (·.dst) with
  |some d=>some ⟨o.dst,o.op,some (d,f),eR nms i,ix,un,lg⟩
  |none=>none
def fU (ops:Array Oper) (draw:Bool) (ms:List Nat) (nms:List (Nat × Nm)):Nat→List Oper→Option (List CO)
 |_,[]=>some []
 |i,o::l=>match Aap ops draw ms nms i o,fU ops draw ms nms (i+1) l with
  |some x,some r=>some (x::r)
  |_,_=>none
inductive Is (n:Nat):CC→Code→Prop
 |skip:Is n .skip .skip
 |reg (id:Nat) (ops:Array Oper) (draw:Bool) (live:List Nat) (nms:List (Nat × Nm)) (l:List CO):mX n ops draw=true→fU ops draw (jP ops) nms 0 ops.toList=some l→Is n (.reg l live) (.region id ops draw)
 |seq (x y:CC) (a b:Code):Is n x a→Is n y b→Is n (.seq x y) (.seq a b)
 |cond (o:Operand) (x y:CC) (a b:Code):Is n x a→Is n y b→Is n (.cond o x y) (.cond o a b)
 |block (i:Nat) (x:CC) (a:Code):Is n x a→Is n (.block i x) (.block i a)
 |loop (x:CC) (a:Code):Is n x a→Is n (.loop x) (.loop a)
 |exit (i:Nat):Is n (.exit i) (.exit i)
 |ret:Is n .ret .ret
 |keep (live:List Nat) (x:CC) (a:Code):Is n x a→Is n (.keep live x) a
 |stop (x:CC) (a:Code):Is n x a→Is n (.stop x) a
 |scope (x:CC) (a:Code):Is n x a→Is n (.scope x) (.scope a)
 |label (l:Nat):Is n .skip (.label l)
def NoG (Q:Exit→Sta→Prop):Exit→Sta→Prop
 |.goto _,_=>False
 |e,st=>Q e st
def Sta.keep (st:Sta) (live:List Nat):Sta:=⟨lk (live.map fun k=>(k,st.s k)),st.H⟩
theorem ly {c:Cx} {st:Sta} (live:List Nat):Le c st (st.keep live):=Ao _ (fun p hp=>by
 obtain⟨k,_,rfl⟩:=List.mem_map.1 hp;rfl)
def mC (P:Program) (o:CO) (st:Sta) (x:A) (E:Eff) (f:Ft):Prop:=
 match o.g with
 |none=>aw P o.nm o.o (evs st.s) st.H x E f.R f.W
 |some (d,fl)=>∃ q x0,FO (st.s d) fl=some q∧(q=true→aw P o.nm o.o (evs st.s) st.H x0 E f.R f.W)∧x=gd q x0∧(q=false→E = .nil∧f.R=[]∧f.W=[])
def Ck (un:List Nat) (lg:Lg) (f:Ft):Prop:=∀ p,p ∈ lg→p.1 ∈ un→nc p.2 f=true
def BV (b:Bool) (i:Nat) (f:Ft) (lg:Lg):Lg:=if b=true then (i,f)::lg else lg
def AB (P:Program) (K:Sta→Prop):List CO→Lg→Sta→Prop
 |[],_,st=>K st
 |o::rest,lg,st=>∃ x E f,mC P o st x E f∧Ck o.un lg f∧AB P K rest (BV o.lg o.ix f lg) (st.put o.d x (E.app st.H))
theorem xl {ops:Array Oper} {draw:Bool} {ms:List Nat} {nms:List (Nat × Nm)} {i:Nat} {o:Oper} {c:CO} (h:Aap ops draw ms nms i o=some c):c.d=o.dst∧c.o=o.op∧c.nm=eR nms i ∧
  c.un=((List.range i).filter fun j=>U9 draw ops ms j i)∧c.lg=((List.range ops.size).any fun k=>Nat.blt i k&&U9 draw ops ms i k)∧(c.un ≠ []∨c.lg=true→c.ix=i) ∧
  ((o.guard=none∧c.g=none)∨∃ j f d,o.guard=some (j,f)∧(ops[j]?).bind (·.dst)=some d∧c.g=some (d,f)):=by
 have hix:∀ (un:List Nat) (lg:Bool),un ≠ []∨lg=true→(if (un.isEmpty&&!lg)=true then 0 else i)=i:=fun un lg hh=>by
  rw[if_neg];rcases hh with h1 | h1
  ·cases un with
   |nil=>exact(h1 rfl).elim
   |cons=>simp
  ·simp[h1]
 unfold Aap at h;cases hg:o.guard with
 |none=>
  rw[hg] at h;simp only[Option.some.injEq] at h;subst h;exact⟨rfl,rfl,rfl,rfl,rfl,hix _ _,.inl ⟨rfl,rfl⟩⟩
 |some p=>
  obtain⟨j,f⟩:=p;rw[hg] at h;simp only at h;cases hj:(ops[j]?).bind (·.dst) with
  |none=>rw[hj] at h;cases h
  |some d=>
   rw[hj] at h;simp only[Option.some.injEq] at h;subst h;exact⟨rfl,rfl,rfl,rfl,rfl,hix _ _,.inr ⟨j,f,d,rfl,hj,rfl⟩⟩
theorem jT {P:Program} {ops:Array Oper} {draw:Bool} {ms:List Nat} {nms:List (Nat × Nm)} {K:Sta→Prop}:∀ (l:List Oper) (i:Nat) (r:List CO) (Lf lg:Lg) (st:Sta),fU ops draw ms nms i l=some r→i+l.length=ops.size →
  (∀ p,p ∈ Lf→p.1<i∧∀ k,i≤k→k<ops.size→U9 draw ops ms p.1 k=true→p ∈ lg)→AB P K r lg st→rU P (eR nms) (U9 draw ops ms) ops K l i Lf st:=by
 intro l;induction l with
 |nil=>
  intro i r Lf lg st he _ _ h;cases he;exact h
 |cons o l ih=>
  intro i r Lf lg st he hsz hlg h;unfold fU at he;split at he
  ·rename_i c r' hc hr;cases he;obtain⟨e1,e2,e3,e4,e5,e7,e6⟩:=xl hc;obtain⟨x,E,f,hy,hk,h⟩:=h;simp only[List.length_cons] at hsz;refine⟨x,E,f,?_,fun p hp hn=>?_,?_⟩
   ·unfold mC at hy;rw[e2,e3] at hy;rcases e6 with ⟨hg,hc⟩ | ⟨j,fl,d,hg,hj,hc⟩
    ·rw[hc] at hy;exact⟨true,x,by unfold Qn;rw[hg],fun _=>hy,rfl,fun h=>nomatch h⟩
    ·rw[hc] at hy;obtain⟨q,x0,k1,k2,k3,k4⟩:=hy;exact⟨q,x0,by unfold Qn;rw[hg];exact⟨d,hj,k1⟩,k2,k3,k4⟩
   ·obtain⟨h1,h2⟩:=hlg p hp;refine hk p (h2 i (BZ _) (by omega) hn) ?_;rw[e4];exact List.mem_filter.2 ⟨List.mem_range.2 h1,hn⟩
   ·rw[e1] at h;refine ih (i+1) r' _ _ _ hr (by omega) (fun p hp=>?_) h;rcases List.mem_cons.1 hp with rfl | hp
    ·refine⟨Nat.lt_succ_self _,fun k h1 h2 h3=>?_⟩;have hl:c.lg=true:=by
      rw[e5];exact List.any_eq_true.2 ⟨k,List.mem_range.2 h2,by simp[Nat.blt_eq,h3];omega⟩
     unfold BV;rw[if_pos hl,e7 (.inr hl)];simp
    ·obtain⟨h1,h2⟩:=hlg p hp;refine⟨by omega,fun k h3 h4 h5=>?_⟩;have:=h2 k (by omega) h4 h5;unfold BV;split
     ·exact List.mem_cons_of_mem _ this
     ·exact this
  ·cases he
def LoopC (c:Cx) (x:CC) (Q:Exit→Sta→Prop) (st:Sta):Prop:=∀ a,Is c.n x a→AHead c a Q st
def D4 (K:Sta→Prop) (Q:Exit→Sta→Prop):Exit→Sta→Prop
 |.normal,st=>K st
 |e,st=>Q e st
def VA (c:Cx) (K:Sta→Prop) (st:Sta):Prop:=∃ st',Le c st st'∧K st'
theorem CQ {c:Cx} {K:Sta→Prop} {st:Sta} (h:K st):VA c K st:=⟨st,Le.refl,h⟩
theorem Cm {c:Cx} {K:Sta→Prop} {st st':Sta} (h:Le c st st') (k:VA c K st'):VA c K st:=let ⟨st2,h2,k2⟩:=k;⟨st2,h.trans h2,k2⟩
def WPC (c:Cx):CC→(Exit→Sta→Prop)→Sta→Prop
 |.skip,Q,st=>Q .normal st
 |.exit i,Q,st=>Q (.exit i) st
 |.ret,Q,st=>Q .ret st
 |.reg ops live,Q,st=>AB c.P (fun st=>Q .normal (st.keep live)) ops [] st
 |.seq x y,Q,st=>WPC c x (D4 (WPC c y Q) Q) st
 |.cond o x y,Q,st=>∃ b,evs st.s o = .v (.bool b)∧(b=true→WPC c x Q st)∧(b=false→WPC c y Q st)
 |.block i x,Q,st=>WPC c x (BD i Q) st
 |.loop x,Q,st=>LoopC c x Q st
 |.keep live x,Q,st=>WPC c x Q (st.keep live)
 |.stop x,Q,st=>VA c (fun st=>WPC c x Q st) st
 |.scope x,Q,st=>WPC c x (NoG Q) st
theorem PH {c:Cx} (hm:c.P.follows .mixedOrders=true):∀ {x:CC} {a:Code} {Q:Exit→Sta→Prop} {st:Sta},Is c.n x a→WPC c x Q st→AWP c a Q st:=by
 intro x a Q st hi;induction hi generalizing Q st with
 |skip=>exact fun h=>rh h
 |exit i=>exact fun h=>rL h
 |ret=>exact fun h=>vz h
 |reg id ops draw live nms l hok hl=>
  intro h;intro a w I μ hs;have h1:=jT ops.toList 0 l [] [] _ hl (by simp) (fun p hp=>by simp at hp) h;rw[xH] at h1;refine Z8 hm hok (K:=fun st=>Q .normal (st.keep live)) (fun st' a' w' I' μ' h1 h2=>?_) hs h1;obtain⟨I2,μ2,h3⟩:=ly live a' w' I' μ' h1;exact⟨_,I2,μ2,h3,h2⟩
 |seq x y a b _ _ ih1 ih2=>
  intro h;refine w4 ((ih1 h).mono fun e st' hq=>?_);cases e<;>first | exact ih2 hq | exact hq
 |cond o x y a b _ _ ih1 ih2=>
  intro ⟨q,hb,ht,hf⟩;exact sB hb (fun h=>ih1 (ht h)) (fun h=>ih2 (hf h))
 |block i x a _ ih=>exact fun h=>nH (ih h)
 |loop x a hx _=>exact fun h=>tT (h a hx)
 |keep live x a _ ih=>
  intro h a w I μ hs;obtain⟨I2,μ2,h3⟩:=ly live a w I μ hs;exact ih h a w I2 μ2 h3
 |stop x a _ ih=>
  intro ⟨st',h1,h2⟩ a w I μ hs;obtain⟨I2,μ2,h3⟩:=h1 a w I μ hs;exact ih h2 a w I2 μ2 h3
 |scope x a _ ih=>
  intro h a w I μ hs;refine wp_scope_straight (wp_mono (ih h a w I μ hs) fun e a' w' ⟨st',I',μ',h1,h2⟩=>?_);cases e with
  |goto l=>exact h2.elim
  |_=>exact⟨st',I',μ',h1,h2⟩
 |label l=>exact fun h a w I μ hs=>wp_label ⟨st,I,μ,hs,h⟩
theorem WPC.mono {c:Cx}:∀ {x:CC} {Q Q':Exit→Sta→Prop} {st:Sta},(∀ e st,Q e st→Q' e st)→WPC c x Q st→WPC c x Q' st
 |.skip,_,_,_,hq,h=>hq _ _ h
 |.exit _,_,_,_,hq,h=>hq _ _ h
 |.ret,_,_,_,hq,h=>hq _ _ h
 |.reg ops live,Q,Q',st,hq,h=>by
  have:∀ (ops:List CO) (lg:Lg) (st:Sta),AB c.P (fun st=>Q .normal (st.keep live)) ops lg st→AB c.P (fun st=>Q' .normal (st.keep live)) ops lg st:=by
   intro ops;induction ops with
   |nil=>exact fun lg st h=>hq _ _ h
   |cons o ops ih=>exact fun lg st ⟨x,E,f,h1,h2,h3⟩=>⟨x,E,f,h1,h2,ih _ _ h3⟩
  exact this ops _ st h
 |.seq x y,Q,Q',st,hq,h=>WPC.mono (x:=x) (fun e st' h'=>by cases e<;>first | exact WPC.mono (x:=y) hq h' | exact hq _ _ h') h
 |.cond o x y,Q,Q',st,hq,⟨b,h1,h2,h3⟩=>⟨b,h1,fun h=>WPC.mono hq (h2 h),fun h=>WPC.mono hq (h3 h)⟩
 |.block i x,Q,Q',st,hq,h=>WPC.mono (x:=x) (fun e st' h'=>by
   cases e with
   |exit j=>
    by_cases hj:j=i
    ·subst hj;rw[aA] at h' ⊢; exact hq _ _ h'
    ·rw[Qv hj] at h' ⊢; exact hq _ _ h'
   |_=>exact hq _ _ h') h
 |.keep live x,Q,Q',st,hq,h=>WPC.mono (x:=x) hq h
 |.stop x,Q,Q',st,hq,⟨st',h1,h2⟩=>⟨st',h1,WPC.mono (x:=x) hq h2⟩
 |.scope x,Q,Q',st,hq,h=>WPC.mono (x:=x) (fun e st' h'=>by
   cases e with
   |goto l=>exact h'
   |_=>exact hq _ _ h') h
 |.loop x,Q,Q',st,hq,h=>fun a ha a' w I μ hs b k cs=>by
  obtain⟨e,a1,w1,⟨st',I',μ',h1,h2⟩,h3⟩:=h a ha a' w I μ hs b k cs;exact⟨e,a1,w1,⟨st',I',μ',h1,hq _ _ h2⟩,h3⟩
theorem eU {c:Cx} (hm:c.P.follows .mixedOrders=true) {x:CC} {Q:Exit→Sta→Prop} {st:Sta} (h:WPC c x (D4 (LoopC c x Q) Q) st):LoopC c x Q st:=fun a ha=>
 dZ ((PH hm ha h).mono fun e st' hq=>by cases e<;>first | exact hq a ha | exact hq)
theorem LoopC.le {c:Cx} {x:CC} {Q:Exit→Sta→Prop} {st st':Sta} (h:Le c st st') (k:LoopC c x Q st'):LoopC c x Q st:=fun a ha=>(k a ha).le h
def iC:List Nat→CC→CC
 |999999::live,y=>.keep live y
 |999998::_,y=>.stop y
 |999997::live,y=>.keep live (.stop y)
 |_,y=>y
theorem nP {n:Nat} {m:List Nat} {y:CC} {b:Code} (h:Is n y b):Is n (iC m y) b:=by
 unfold iC;split
 ·exact .keep _ _ _ h
 ·exact .stop _ _ h
 ·exact .keep _ _ _ (.stop _ _ h)
 ·exact h
abbrev Mk:=List Nat × List (Nat × Nm)
def K4 (n:Nat):Code→List Mk→Option (CC × List Mk)
 |.skip,ls=>some (.skip,ls)
 |.exit i,ls=>some (.exit i,ls)
 |.ret,ls=>some (.ret,ls)
 |.region _ ops draw,(live,nms)::ls=>if mX n ops draw=true then match fU ops draw (jP ops) nms 0 ops.toList with
   |some l=>some (.reg l live,ls)
   |none=>none else none
 |.seq a b,ls=>match K4 n a ls with
  |some (x,m::ls)=>match K4 n b ls with
   |some (y,ls)=>some (.seq x (iC m.1 y),ls)
   |none=>none
  |_=>none
 |.cond o a b,ls=>match K4 n a ls with
  |some (x,ls)=>match K4 n b ls with
   |some (y,ls)=>some (.cond o x y,ls)
   |none=>none
  |none=>none
 |.block i a,ls=>match K4 n a ls with
  |some (x,ls)=>some (.block i x,ls)
  |none=>none
 |.loop a,ls=>match K4 n a ls with
  |some (x,ls)=>some (.loop x,ls)
  |none=>none
 |.scope a,ls=>match K4 n a ls with
  |some (x,ls)=>some (.scope x,ls)
  |none=>none
 |.label _,ls=>some (.skip,ls)
 |_,_=>none
theorem vm {n:Nat}:∀ {a:Code} {ls ls':List Mk} {x:CC},K4 n a ls=some (x,ls')→Is n x a:=by
 intro a;induction a with
 |skip=>intro ls ls' x h;simp only[K4] at h;cases h;exact .skip
 |exit i=>intro ls ls' x h;simp only[K4] at h;cases h;exact .exit i
 |ret=>intro ls ls' x h;simp only[K4] at h;cases h;exact .ret
 |region id ops draw=>
  intro ls ls' x h;cases ls with
  |nil=>simp[K4] at h
  |cons live ls=>
   simp only[K4] at h;split at h
   ·rename_i hok;split at h
    ·rename_i l hl;cases h;exact .reg _ _ _ _ _ _ hok hl
    ·cases h
   ·cases h
 |seq a b ih1 ih2=>
  intro ls ls' x h;simp only[K4] at h;split at h
  ·rename_i q1 m l1 h1;split at h
   ·rename_i q2 l2 h2;cases h;exact .seq _ _ _ _ (ih1 h1) (nP (ih2 h2))
   ·cases h
  ·cases h
 |cond o a b ih1 ih2=>
  intro ls ls' x h;simp only[K4] at h;split at h
  ·rename_i q1 l1 h1;split at h
   ·rename_i q2 l2 h2;cases h;exact .cond _ _ _ _ _ (ih1 h1) (ih2 h2)
   ·cases h
  ·cases h
 |block i a ih=>
  intro ls ls' x h;simp only[K4] at h;split at h
  ·rename_i q1 l1 h1;cases h;exact .block _ _ _ (ih h1)
  ·cases h
 |loop a ih=>
  intro ls ls' x h;simp only[K4] at h;split at h
  ·rename_i q1 l1 h1;cases h;exact .loop _ _ (ih h1)
  ·cases h
 |scope a ih=>
  intro ls ls' x h;simp only[K4] at h;split at h
  ·rename_i q1 l1 h1;cases h;exact .scope _ _ (ih h1)
  ·cases h
 |label l=>intro ls ls' x h;simp only[K4] at h;cases h;exact .label l
 |_=>intro ls ls' x h;cases ls<;>simp[K4] at h
structure Ba (P:Program) (f:FuncId) (n:Nat) (rs:List ResultVar) (cc:CC):Prop where
 Ai:P.follows .mixedOrders=true
 ok:YO P f=true
 fn:∃ fn code,P.funcs[f]? = some fn∧fn.body=some code∧fn.ntmps=n∧fn.results.toList=rs∧Is n cc code
theorem AaR {P:Program} {f:FuncId} {fn:Func} {code:Code} {cc:CC} {ls:List Mk} {rs:List ResultVar} {n:Nat} (hm:P.follows .mixedOrders=true) (hk:YO P f=true) (hf:P.funcs[f]? = some fn) (hb:fn.body=some code)
  (hn:fn.ntmps=n) (hrs:fn.results.toList=rs) (hc:K4 n code ls=some (cc,[])):Ba P f n rs cc:=⟨hm,hk,fn,code,hf,hb,hn,hrs,vm hc⟩
def TS (P:Program) (rs:List ResultVar) (r:A):Exit→Sta→Prop:=pJ P rs fun r0 H=>J3 H r0 r
theorem Aj {P:Program} {f:FuncId} {n:Nat} {rs:List ResultVar} {cc:CC} {args:List A} {r:A} (t:Ba P f n rs cc) (ha:args.length≤n) (h:∀ w0 I0,WPC (cx P w0 I0 n) cc (TS P rs r) ⟨Rz args,H0⟩):Spec P f args r:=by
 obtain⟨hm,hk,fn,code,hf,hb,hn,hrs,hc⟩:=t;exact iQ hk hf hb hn ha fun w0 I0=>PH (c:=cx P w0 I0 n) hm hc (by rw[hrs];exact h w0 I0)
section
variable {P:Program} {H:Hp} {t u:TypeId}
def vc (x:VOb) (u:Nat):Option (List A):=match x with | ⟨u',.cells cs⟩=>if u'=u then some cs else none | _=>none
def vr (x:VOb) (u:Nat):Option (Nat × List A):=match x with | ⟨u',.arr s xs⟩=>if u'=u then some (s,xs) else none | _=>none
@[simp] theorem Afv {u' u:Nat} {cs:List A}:vc ⟨u',.cells cs⟩ u=if u'=u then some cs else none:=rfl
@[simp] theorem Air {u' u s:Nat} {xs:List A}:vr ⟨u',.arr s xs⟩ u=if u'=u then some (s,xs) else none:=rfl
@[simp] theorem AfV {o:Nm} {u:Nat}:X5 H o u=vc (H o) u:=rfl
@[simp] theorem PC {o:Nm} {u:Nat}:QJ H o u=vr (H o) u:=rfl
@[simp] theorem AeK {o:Nm} {u off:Nat}:GC P H t (.pob o u off)=match DQ P t,DB P t with | some g,some sz=>(match vc (H o) u with | some cs=>My g sz (cs.drop off) | none=>none) | _,_=>none:=by
 unfold GC;cases DQ P t with
 |none=>rfl
 |some g=>
  cases DB P t with
  |none=>rfl
  |some sz=>rfl
@[simp] theorem Ae3 {o:Nm} {u i j:Nat}:GC P H t (.pel o u i j)=match DQ P t,DB P t with | some g,some sz=>(match vr (H o) u with | some (_,xs)=>(match xs[i]? with | some x=>My g sz (x.cells.drop j) | none=>none) | none=>none) | _,_=>none:=by
 unfold GC;cases DQ P t with
 |none=>rfl
 |some g=>
  cases DB P t with
  |none=>rfl
  |some sz=>rfl
@[simp] theorem Abq {o:Nm} {u off:Nat} {val:A}:Ip P H t (.pob o u off) val=match DB P t with
  |some sz=>if val.cells.length=sz∧A.ones val.cells=true then (match vc (H o) u with | some cs=>if off+sz≤cs.length then some (.one o ⟨u,.cells (splice cs off val.cells)⟩) else none | none=>none) else none
  |none=>none:=by
 unfold Ip;cases DB P t<;>rfl
def jH (o:Nm) (u i j s sz:Nat) (xs:List A) (val:A):Option A→Option Eff
 |some x=>if j=0∧sz=s then some (.one o ⟨u,.arr s (xs.set i val)⟩)
  else if j+sz≤s∧x.isAgg=true then some (.one o ⟨u,.arr s (xs.set i (x.remake (splice x.cells j val.cells)))⟩) else none
 |none=>none
def yO (o:Nm) (u i j sz:Nat) (val:A):Option (Nat × List A)→Option Eff
 |some (s,xs)=>jH o u i j s sz xs val xs[i]?
 |none=>none
@[simp] theorem iU {o:Nm} {u i j s sz:Nat} {xs:List A} {val:A}:yO o u i j sz val (some (s,xs))=jH o u i j s sz xs val xs[i]?:=rfl
@[simp] theorem yH {o:Nm} {u i j s sz:Nat} {xs:List A} {x val:A}:jH o u i j s sz xs val (some x)=if j=0∧sz=s then some (.one o ⟨u,.arr s (xs.set i val)⟩)
  else if j+sz≤s∧x.isAgg=true then some (.one o ⟨u,.arr s (xs.set i (x.remake (splice x.cells j val.cells)))⟩) else none:=rfl
@[simp] theorem Aa4 {o:Nm} {u i j:Nat} {val:A}:Ip P H t (.pel o u i j) val=match DB P t with
  |some sz=>if val.cells.length=sz∧A.ones val.cells=true then yO o u i j sz val (vr (H o) u) else none
  |none=>none:=by
 unfold Ip;cases DB P t with
 |none=>rfl
 |some sz=>
  simp only[PC];cases vr (H o) u with
  |none=>rfl
  |some p=>
   obtain⟨s,xs⟩:=p;simp only[iU];cases xs[i]?<;>rfl
@[simp] theorem Aeo {d:Nm} {e:TypeId}:RH P H d e=match BU P e with | some z=>if A.ones (HM z).cells=true∧Ek d e=true then some (.pob d ((H d).u+1) 0,.one d ⟨(H d).u+1,.cells (HM z).cells⟩) else none | none=>none:=rfl
@[simp] theorem AiA {d:Nm} {e:TypeId} {a:A}:ik H d e a=if A.ones a.cells=true∧Ek d e=true then some (.pob d ((H d).u+1) 0,.one d ⟨(H d).u+1,.cells a.cells⟩) else none:=rfl
@[simp] theorem AfU {a:A}:uJ a=if a.isPtr=true then some a else none:=rfl
def yK (H:Hp) (d:Nm) (e:TypeId) (n c:Int):Option Nat→Option Value→Option Nat→Option (A × Eff)
 |some s,some z,some b=>if 0≤n∧n≤c∧b*c≤140737488355328∧0<b∧(HM z).cells.length=s∧A.ones (HM z).cells=true∧Ek d e=true then some (.osl d ((H d).u+1) s 0 n.toNat,.one d ⟨(H d).u+1,.arr s (List.replicate n.toNat (HM z))⟩) else none
 |_,_,_=>none
@[simp] theorem z6 {d:Nm} {e:TypeId} {n c:Int} {s b:Nat} {z:Value}:yK H d e n c (some s) (some z) (some b)=if 0≤n∧n≤c∧b*c≤140737488355328∧0<b∧(HM z).cells.length=s∧A.ones (HM z).cells=true∧Ek d e=true then some (.osl d ((H d).u+1) s 0 n.toNat,.one d ⟨(H d).u+1,.arr s (List.replicate n.toNat (HM z))⟩) else none:=rfl
@[simp] theorem xQ {d:Nm} {k k':IntKind} {n c:Int}:FT P H d t (.v (.int k n)) (.v (.int k' c))=match P.underlying t with | some (.slice e)=>yK H d e n c (DB P e) (BU P e) (Co P e) | _=>none:=by
 unfold FT;cases P.underlying t with
 |none=>rfl
 |some q=>
  cases q<;>first
   |rfl
   |(rename_i e;cases DB P e<;>cases BU P e<;>cases Co P e<;>rfl)
def apS (H:Hp) (d:Nm) (e:TypeId) (xs:List A):Option (List A)→Option Nat→Option Value→Option Nat→Option (A × Eff)
 |some zs,some s,some z,some b=>if 0<b∧(HM z).cells.length=s∧A.ones (HM z).cells=true then if Gh s xs=true∧(xs.length=0∨0<zs.length)∧(xs.length+zs.length)*b≤140737488355328∧Ek d e=true then some (.osl d ((H d).u+1) s 0 (xs.length+zs.length),.one d ⟨(H d).u+1,.arr s (xs++zs)⟩) else none else none
 |_,_,_,_=>none
@[simp] theorem AfQ {d:Nm} {e:TypeId} {xs zs:List A} {s b:Nat} {z:Value}:apS H d e xs (some zs) (some s) (some z) (some b)=if 0<b∧(HM z).cells.length=s∧A.ones (HM z).cells=true then if Gh s xs=true∧(xs.length=0∨0<zs.length)∧(xs.length+zs.length)*b≤140737488355328∧Ek d e=true then some (.osl d ((H d).u+1) s 0 (xs.length+zs.length),.one d ⟨(H d).u+1,.arr s (xs++zs)⟩) else none else none:=rfl
def apO (o:Nm) (e:TypeId) (v sz off len:Nat):Option (Nat × List A)→Option (List A)→Option Nat→Option Value→Option Nat→Option (A × Eff)
 |some (s',ys),some zs,some s,some z,some b=>if 0<b∧(HM z).cells.length=s∧A.ones (HM z).cells=true then if off=0∧s'=s∧sz=s∧len≤ys.length∧(len+zs.length)*b≤140737488355328∧Ek o e=true then some (.osl o (v+1) s 0 (len+zs.length),.one o ⟨v+1,.arr s (ys.take len++zs)⟩) else none else none
 |_,_,_,_,_=>none
@[simp] theorem Aex {o:Nm} {e:TypeId} {v sz off len s' s b:Nat} {ys zs:List A} {z:Value}:apO o e v sz off len (some (s',ys)) (some zs) (some s) (some z) (some b)=if 0<b∧(HM z).cells.length=s∧A.ones (HM z).cells=true then if off=0∧s'=s∧sz=s∧len≤ys.length∧(len+zs.length)*b≤140737488355328∧Ek o e=true then some (.osl o (v+1) s 0 (len+zs.length),.one o ⟨v+1,.arr s (ys.take len++zs)⟩) else none else none:=rfl
@[simp] theorem Acd {d:Nm} {xs:List A} {x:A}:Ga P H d t u (.sl true xs) x=match P.underlying t with | some (.slice e)=>(match DB P e with | some s=>apS H d e xs (K0 P H s e u x) (some s) (BU P e) (Co P e) | none=>none) | _=>none:=by
 unfold Ga;cases P.underlying t with
 |none=>rfl
 |some q=>
  cases q<;>try rfl
  rename_i e;simp only;cases DB P e with
  |none=>rfl
  |some s=>
   cases BU P e with
   |none=>simp only;cases K0 P H s e u x<;>rfl
   |some z=>
    cases Co P e with
    |none=>simp only;cases K0 P H s e u x<;>rfl
    |some b=>simp only;cases K0 P H s e u x<;>rfl
@[simp] theorem Aae {d o:Nm} {v sz off len:Nat} {x:A}:Ga P H d t u (.osl o v sz off len) x=match P.underlying t with | some (.slice e)=>(match DB P e with | some s=>apO o e v sz off len (vr (H o) v) (K0 P H s e u x) (some s) (BU P e) (Co P e) | none=>none) | _=>none:=by
 unfold Ga;cases P.underlying t with
 |none=>rfl
 |some q=>
  cases q<;>try rfl
  rename_i e;simp only[PC];generalize vr (H o) v=r;cases DB P e with
  |none=>rfl
  |some s=>
   cases BU P e with
   |none=>simp only;cases K0 P H s e u x<;>cases r<;>rfl
   |some z=>
    cases Co P e with
    |none=>simp only;cases K0 P H s e u x<;>cases r<;>rfl
    |some b=>
     simp only;cases K0 P H s e u x with
     |none=>cases r<;>rfl
     |some zs=>cases r<;>simp only[apO]<;>(try split)<;>rfl
@[simp] theorem Aie {s e:Nat} {f:Bool} {xs:List A}:K0 P H s e t (.sl f xs)=match P.underlying t with | some (.slice _)=>if Gh s xs=true then some xs else none | _=>none:=by
 unfold K0;cases P.underlying t with
 |none=>rfl
 |some q=>cases q<;>rfl
def elO (s z off n:Nat):Option (Nat × List A)→Option (List A)
 |some (s',ys)=>if s'=s∧z=s∧off+n≤ys.length then some ((ys.drop off).take n) else none
 |none=>none
@[simp] theorem Ael {s z off n s':Nat} {ys:List A}:elO s z off n (some (s',ys))=if s'=s∧z=s∧off+n≤ys.length then some ((ys.drop off).take n) else none:=rfl
@[simp] theorem AgG {s e u' z off n:Nat} {o:Nm}:K0 P H s e t (.osl o u' z off n)=match P.underlying t with | some (.slice _)=>elO s z off n (vr (H o) u') | _=>none:=by
 unfold K0;cases P.underlying t with
 |none=>rfl
 |some q=>
  cases q<;>first
   |rfl
   |(simp only[Jo,PC];cases vr (H o) u'<;>rfl)
def ixS (xs:List A) (i:Int):Option Nat→Option A
 |some m=>if 0≤i∧i<xs.length then (match xs[i.toNat]? with
     |some x=>if x.cells.length=m then some (.pim x.cells) else none
     |none=>none) else none
 |none=>none
@[simp] theorem AeF {xs:List A} {i:Int} {m:Nat}:ixS xs i (some m)=if 0≤i∧i<xs.length then (match xs[i.toNat]? with
     |some x=>if x.cells.length=m then some (.pim x.cells) else none
     |none=>none) else none:=rfl
@[simp] theorem v7 {k:IntKind} {i:Int} {f:Bool} {xs:List A}:Ch P t (.sl f xs) (.v (.int k i))=match P.underlying t with | some (.slice e)=>ixS xs i (DB P e) | _=>none:=by
 unfold Ch;cases P.underlying t with
 |none=>rfl
 |some q=>
  cases q<;>first
   |rfl
   |(rename_i e;cases h:DB P e<;>first | rfl | simp[A.shift,h] | (simp only[h];rfl))
def ixO (o:Nm) (u z off n:Nat) (i:Int):Option Nat→Option A
 |some m=>if 0≤i∧i<n∧z=m then some (.pel o u (off+i.toNat) 0) else none
 |none=>none
@[simp] theorem AdR {o:Nm} {u z off n m:Nat} {i:Int}:ixO o u z off n i (some m)=if 0≤i∧i<n∧z=m then some (.pel o u (off+i.toNat) 0) else none:=rfl
@[simp] theorem u9 {u z off n:Nat} {o:Nm} {k:IntKind} {i:Int}:Ch P t (.osl o u z off n) (.v (.int k i))=match P.underlying t with | some (.slice e)=>ixO o u z off n i (DB P e) | _=>none:=by
 unfold Ch;cases P.underlying t with
 |none=>rfl
 |some q=>
  cases q<;>first
   |rfl
   |(rename_i e;cases h:DB P e<;>first | rfl | simp[A.shift,h] | (simp only[h];rfl))
def ixA (a:A) (n:Nat) (i:Int):Option Nat→Option A
 |some m=>if 0≤i∧i<n then a.shift (i.toNat*m) else none
 |none=>none
@[simp] theorem AeO {a:A} {n m:Nat} {i:Int}:ixA a n i (some m)=if 0≤i∧i<n then a.shift (i.toNat*m) else none:=rfl
@[simp] theorem vd {u p:Nat} {o:Nm} {k:IntKind} {i:Int}:Ch P t (.pob o u p) (.v (.int k i))=match P.underlying t with | some (.array n e)=>ixA (.pob o u p) n i (DB P e) | _=>none:=by
 unfold Ch;cases P.underlying t with
 |none=>rfl
 |some q=>
  cases q<;>first
   |rfl
   |(rename_i e;cases h:DB P e<;>first | rfl | simp[A.shift,h] | (simp only[h];rfl))
def ixV (P:Program) (e:TypeId) (cs:List A) (n:Nat) (i:Int):Option Nat→Option A
 |some m=>if 0≤i∧i<n then SM P e cs (i.toNat*m) else none
 |none=>none
@[simp] theorem Ado {e:TypeId} {cs:List A} {n m:Nat} {i:Int}:ixV P e cs n i (some m)=if 0≤i∧i<n then SM P e cs (i.toNat*m) else none:=rfl
@[simp] theorem Adw {cs:List A} {off:Nat}:SM P t cs off=match DQ P t,DB P t with | some g,some sz=>My g sz (cs.drop off) | _,_=>none:=rfl
@[simp] theorem Ab3 {cs:List A} {k:IntKind} {i:Int}:Ph P t (.agg cs) (.v (.int k i))=match P.underlying t with | some (.array n e)=>ixV P e cs n i (DB P e) | _=>none:=by
 unfold Ph;cases P.underlying t with
 |none=>rfl
 |some q=>
  cases q<;>first
   |rfl
   |(rename_i e;cases h:DB P e<;>first | rfl | simp[A.shift,h] | (simp only[h];rfl))
@[simp] theorem Ab4 {s:ByteArray} {k:IntKind} {i:Int}:Ph P t (.v (.string s)) (.v (.int k i))=match P.underlying t with | some .string=>if 0≤i then (s[i.toNat]?).map (fun b=>.v (.int .u8 b.toNat)) else none | _=>none:=by
 unfold Ph;cases P.underlying t with
 |none=>rfl
 |some q=>cases q<;>rfl
@[simp] theorem Ah9 {f:Bool} {xs:List A}:XT P t (.sl f xs)=match P.underlying t with | some (.slice _)=>some (.v (.int .i64 xs.length)) | some (.array n _)=>some (.v (.int .i64 n)) | _=>none:=by
 unfold XT;cases P.underlying t with
 |none=>rfl
 |some q=>cases q<;>rfl
@[simp] theorem AgS {u z off n:Nat} {o:Nm}:XT P t (.osl o u z off n)=match P.underlying t with | some (.slice _)=>some (.v (.int .i64 n)) | some (.array n _)=>some (.v (.int .i64 n)) | _=>none:=by
 unfold XT;cases P.underlying t with
 |none=>rfl
 |some q=>cases q<;>rfl
def slS (f:Bool) (xs:List A):Option (Nat × Nat × Option Nat)→Option Nat→Option A
 |some (l,h,m),some s=>if Gh s xs=true then some (.sl (Kw m f h xs.length) ((xs.drop l).take (h-l))) else none
 |_,_=>none
@[simp] theorem Ad1 {f:Bool} {xs:List A} {l h s:Nat} {m:Option Nat}:slS f xs (some (l,h,m)) (some s)=if Gh s xs=true then some (.sl (Kw m f h xs.length) ((xs.drop l).take (h-l))) else none:=rfl
@[simp] theorem AfN {f:Bool} {xs:List A} {s:Option Nat}:slS f xs none s=none:=by cases s<;>rfl
@[simp] theorem Aep {f:Bool} {xs:List A} {lo hi mx:Option A}:Mf P t (.sl f xs) lo hi mx=match P.underlying t with | some (.slice e)=>slS f xs (Gi xs.length lo hi mx) (DB P e) | _=>none:=by
 unfold Mf;cases P.underlying t with
 |none=>rfl
 |some q=>
  cases q<;>first
   |rfl
   |(rename_i e;cases Gi xs.length lo hi mx<;>cases DB P e<;>rfl)
def slO (o:Nm) (u z off:Nat):Option (Nat × Nat × Option Nat)→Option Nat→Option A
 |some (l,h,_),some s=>if s=z then some (.osl o u z (off+l) (h-l)) else none
 |_,_=>none
@[simp] theorem Afq {o:Nm} {u z off l h s:Nat} {m:Option Nat}:slO o u z off (some (l,h,m)) (some s)=if s=z then some (.osl o u z (off+l) (h-l)) else none:=rfl
@[simp] theorem Acn {u z off n:Nat} {o:Nm} {lo hi mx:Option A}:Mf P t (.osl o u z off n) lo hi mx=match P.underlying t with | some (.slice e)=>slO o u z off (Gi n lo hi mx) (DB P e) | _=>none:=by
 unfold Mf;cases P.underlying t with
 |none=>rfl
 |some q=>
  cases q<;>first
   |rfl
   |(rename_i e;cases Gi n lo hi mx<;>cases DB P e<;>rfl)
def slP (cs:List A) (n:Nat):Option (Nat × Nat × Option Nat)→Option Nat→Option A
 |some (l,h,m),some s=>if s=1∧n≤cs.length then some (.sl (Kw m true h n) ((cs.drop l).take (h-l))) else none
 |_,_=>none
@[simp] theorem Aez {cs:List A} {n l h s:Nat} {m:Option Nat}:slP cs n (some (l,h,m)) (some s)=if s=1∧n≤cs.length then some (.sl (Kw m true h n) ((cs.drop l).take (h-l))) else none:=rfl
@[simp] theorem Acr {cs:List A} {lo hi mx:Option A}:Mf P t (.pim cs) lo hi mx=match P.underlying t with | some (.array n e)=>slP cs n (Gi n lo hi mx) (DB P e) | _=>none:=by
 unfold Mf;cases P.underlying t with
 |none=>rfl
 |some q=>
  cases q<;>first
   |rfl
   |(rename_i n e;cases Gi n lo hi mx<;>cases DB P e<;>rfl)
@[simp] theorem AhJ {r:IntKind} {n:Int}:Ve P t u (.v (.int r n))=match P.underlying t,P.underlying u with | some _,some (.int k)=>some (.v (.int k (k.wrap n))) | _,_=>none:=by
 unfold Ve;cases P.underlying t with
 |none=>rfl
 |some q=>cases P.underlying u with
  |none=>rfl
  |some d=>cases d<;>rfl
@[simp] theorem AiM {s e:Nat} {a:Option Addr} {c:Nat}:K0 P H s e t (.v (.slice a 0 c))=match P.underlying t with | some (.slice _)=>some [] | _=>none:=by
 unfold K0;cases P.underlying t with
 |none=>rfl
 |some q=>cases q<;>rfl
def NT:Nat→List (Nat × A)→Bool
 |_,[]=>true
 |k,(i,_)::l=>i == k&&NT (k+1) l
@[simp] theorem Acw {k:Nat}:NT k []=true:=rfl
@[simp] theorem XX {k i:Nat} {x:A} {l:List (Nat × A)}:NT k ((i,x)::l)=(i == k&&NT (k+1) l):=rfl
theorem Pg:∀ (l:List (Nat × A)) (k:Nat),NT k l=true→l.map (·.1)=List.range' k l.length
 |[],k,_=>rfl
 |(i,x)::l,k,h=>by
  simp only[XX,Bool.and_eq_true,beq_iff_eq] at h;simp only[List.map_cons,List.length_cons,List.range'_succ];rw[h.1,Pg l (k+1) h.2]
def AdO (len:Nat) (ps:List (Nat × A)):Option Nat→Option Value→Option A
 |some s,some z=>if NT 0 ps=true∧ps.length=len∧len*s≤16777216∧(HM z).cells.length=s∧A.ones (HM z).cells=true∧(ps.all fun p=>p.2.cells.length == s&&A.ones p.2.cells&&p.2.cells.all A.bare1)=true then some (.sl true (ps.map (·.2))) else none
 |_,_=>none
@[simp] theorem pg {len s:Nat} {z:Value} {ps:List (Nat × A)}:AdO len ps (some s) (some z)=if NT 0 ps=true∧ps.length=len∧len*s≤16777216∧(HM z).cells.length=s∧A.ones (HM z).cells=true∧(ps.all fun p=>p.2.cells.length == s&&A.ones p.2.cells&&p.2.cells.all A.bare1)=true then some (.sl true (ps.map (·.2))) else none:=rfl
theorem Pn:∀ (l:List (Nat × A)) (k:Nat),l.map (·.1)=List.range' k l.length→NT k l=true
 |[],k,_=>rfl
 |(i,x)::l,k,h=>by
  simp only[List.map_cons,List.length_cons,List.range'_succ,List.cons.injEq] at h;simp only[XX,Bool.and_eq_true,beq_iff_eq];exact⟨h.1,Pn l (k+1) h.2⟩
@[simp] theorem u6 {len:Nat} {ps:List (Nat × A)}:Hl P t len ps=match P.underlying t with | some (.slice e)=>AdO len ps (DB P e) (BU P e) | _=>none:=by
 unfold Hl;cases P.underlying t with
 |none=>rfl
 |some q=>
  cases q<;>try rfl
  rename_i e;simp only;cases DB P e with
  |none=>rfl
  |some s=>
   cases BU P e with
   |none=>rfl
   |some z=>
    have he:(ps.map (·.1)=List.range len) ↔ (NT 0 ps=true∧ps.length=len):=by
     constructor
     ·intro h;have hl:ps.length=len:=by have:=congrArg List.length h;simpa using this
      exact⟨Pn ps 0 (by rw[h,hl,List.range_eq_range']),hl⟩
     ·rintro⟨h1,h2⟩;rw[Pg _ _ h1,h2,List.range_eq_range']
    simp only[pg,he,and_assoc]
def Adk (H:Hp) (d:Nm) (e:TypeId) (len:Nat) (ps:List (Nat × A)):Option Nat→Option Value→Option (A × Eff)
 |some s,some z=>if NT 0 ps=true∧ps.length=len∧len*s≤16777216∧(HM z).cells.length=s∧A.ones (HM z).cells=true∧(ps.all fun p=>p.2.cells.length == s&&A.ones p.2.cells)=true∧Ek d e=true then some (.osl d ((H d).u+1) s 0 len,.one d ⟨(H d).u+1,.arr s (ps.map (·.2))⟩) else none
 |_,_=>none
@[simp] theorem nV {H:Hp} {d:Nm} {e:TypeId} {len s:Nat} {z:Value} {ps:List (Nat × A)}:Adk H d e len ps (some s) (some z)=if NT 0 ps=true∧ps.length=len∧len*s≤16777216∧(HM z).cells.length=s∧A.ones (HM z).cells=true∧(ps.all fun p=>p.2.cells.length == s&&A.ones p.2.cells)=true∧Ek d e=true then some (.osl d ((H d).u+1) s 0 len,.one d ⟨(H d).u+1,.arr s (ps.map (·.2))⟩) else none:=rfl
@[simp] theorem rP {H:Hp} {d:Nm} {len:Nat} {ps:List (Nat × A)}:EJ P H d t len ps=match P.underlying t with | some (.slice e)=>Adk H d e len ps (DB P e) (BU P e) | _=>none:=by
 unfold EJ;cases P.underlying t with
 |none=>rfl
 |some q=>
  cases q<;>try rfl
  rename_i e;simp only;cases DB P e with
  |none=>rfl
  |some s=>
   cases BU P e with
   |none=>rfl
   |some z=>
    have he:(ps.map (·.1)=List.range len) ↔ (NT 0 ps=true∧ps.length=len):=by
     constructor
     ·intro h;have hl:ps.length=len:=by have:=congrArg List.length h;simpa using this
      exact⟨Pn ps 0 (by rw[h,hl,List.range_eq_range']),hl⟩
     ·rintro⟨h1,h2⟩;rw[Pg _ _ h1,h2,List.range_eq_range']
    simp only[nV,he,and_assoc]
@[simp] theorem xS {cs:List A}:Q1 P .eql t (.pim cs) (.v (.pointer none))=match P.underlying t with | some (.pointer _)=>some (.v (.bool false)) | _=>none:=by
 show(VJ P 100 t _ _).map _=_;unfold VJ;cases P.underlying t with
 |none=>rfl
 |some q=>cases q<;>rfl
@[simp] theorem vQ {o:Nm} {v p:Nat}:Q1 P .eql t (.pob o v p) (.v (.pointer none))=match P.underlying t with | some (.pointer _)=>some (.v (.bool false)) | _=>none:=by
 show(VJ P 100 t _ _).map _=_;unfold VJ;cases P.underlying t with
 |none=>rfl
 |some q=>cases q<;>rfl
@[simp] theorem u7 {a b:Bool}:Q1 P .neq t (.v (.bool a)) (.v (.bool b))=match P.underlying t with | some .bool=>some (.v (.bool (!(a == b)))) | _=>none:=by
 show(VJ P 100 t _ _).map _=_;unfold VJ;cases P.underlying t with
 |none=>rfl
 |some q=>cases q<;>rfl
end
def Gt {α:Type} (F:Option α) (K:α→Prop):Prop:=∃ x,F=some x∧K x
def Mn (q:Bool) (F:Option A) (K:A→Prop):Prop:=∃ x,(q=true→F=some x)∧K (gd q x)
def rS (q:Bool) (F:Prop):Prop:=q=true→F
def ji (b:Bool) (F G:Prop):Prop:=(b=true→F)∧(b=false→G)
@[congr] theorem Afo {α:Type} {F F':Option α} {K:α→Prop} (h:F=F'):Gt F K=Gt F' K:=by rw[h]
@[congr] theorem AbD {q q':Bool} {F F':Option A} {K:A→Prop} (h1:q=q') (h2:F=F'):Mn q F K=Mn q' F' K:=by rw[h1,h2]
@[congr] theorem Abr {b b':Bool} {F G:Prop} (h:b=b'):ji b F G=ji b' F G:=by rw[h]
@[congr] theorem z9 {P:Program} {K:Sta→Prop} {l:List CO} {lg lg':Lg} {st st':Sta} (h0:lg=lg') (h:st=st'):AB P K l lg st=AB P K l lg' st':=by rw[h0,h]
@[congr] theorem AcE {c:Cx} {x:CC} {Q:Exit→Sta→Prop} {st st':Sta} (h:st=st'):WPC c x Q st=WPC c x Q st':=by rw[h]
@[congr] theorem yq {c:Cx} {x:CC} {Q:Exit→Sta→Prop} {st st':Sta} (h:st=st'):LoopC c x Q st=LoopC c x Q st':=by rw[h]
@[congr] theorem yk {K:Sta→Prop} {Q:Exit→Sta→Prop} {e e':Exit} {st st':Sta} (h0:e=e') (h:st=st'):D4 K Q e st=D4 K Q e' st':=by rw[h0,h]
@[congr] theorem yC {c:Cx} {K:Sta→Prop} {st st':Sta} (h:st=st'):VA c K st=VA c K st':=by rw[h]
@[congr] theorem u5 {i:Nat} {Q:Exit→Sta→Prop} {e e':Exit} {st st':Sta} (h0:e=e') (h:st=st'):BD i Q e st=BD i Q e' st':=by rw[h0,h]
@[congr] theorem Aco {Q:Exit→Sta→Prop} {e e':Exit} {st st':Sta} (h0:e=e') (h:st=st'):NoG Q e st=NoG Q e' st':=by rw[h0,h]
@[simp] theorem Ag0 {α:Type} {x:α} {K:α→Prop}:Gt (some x) K=K x:=by simp[Gt]
@[simp] theorem Aih {α:Type} {C:Prop} [Decidable C] {F G:Option α} {K:α→Prop}:Gt (if C then F else G) K=((C→Gt F K)∧(¬C→Gt G K)):=by
 by_cases h:C<;>simp[h]
@[simp] theorem Agm {α:Type} {K:α→Prop}:Gt none K=False:=by simp[Gt]
@[simp high] theorem Af3 {α:Type} {C:Prop} [Decidable C] {F:Option α} {K:α→Prop}:Gt (if C then F else none) K=(C∧Gt F K):=by
 by_cases h:C<;>simp[h]
@[simp] theorem Afm {q:Bool} {x:A} {K:A→Prop}:Mn q (some x) K=K (gd q x):=by
 apply propext;constructor
 ·rintro⟨y,h1,h2⟩;cases q
  ·exact h2
  ·cases h1 rfl;exact h2
 ·exact fun h=>⟨x,fun _=>rfl,h⟩
@[simp high] theorem AcT {q:Bool} {C:Prop} [Decidable C] {F:Option A} {K:A→Prop}:Mn q (if C then F else none) K=(rS q C∧Mn q F K):=by
 cases q
 ·simp[Mn,rS]
 ·by_cases h:C<;>simp[h,Mn,rS]
@[simp] theorem Afu {F:Option A} {K:A→Prop}:Mn true F K=Gt F K:=by simp[Mn,Gt,gd]
@[simp] theorem AbT {F:Option A} {K:A→Prop}:Mn false F K=K (.v undef):=by simp[Mn,gd]
@[simp] theorem AdS {F:Prop}:rS true F=F:=by simp[rS]
@[simp] theorem AbL {F:Prop}:rS false F=True:=by simp[rS]
@[simp] theorem AaQ {p:Prop} [Decidable p] {F:Prop}:rS (decide p) F=(p→F):=by simp[rS]
@[simp] theorem Afw {F G:Prop}:ji true F G=F:=by simp[ji]
@[simp] theorem AcH {F G:Prop}:ji false F G=G:=by simp[ji]
@[simp] theorem zh {p:Prop} [Decidable p] {F G:Prop}:ji (decide p) F G=((p→F)∧(¬p→G)):=by simp[ji]
@[simp] theorem Ahe {b:Bool} {F G:Prop}:ji (!b) F G=ji b G F:=by cases b<;>simp
@[simp] theorem Agw {a b:Bool} {F G:Prop}:ji (a&&b) F G=(((a&&b)=true→F)∧((a&&b)=false→G)):=rfl
@[simp] theorem Aip {a b:Bool} {F G:Prop}:ji (a || b) F G=(((a || b)=true→F)∧((a || b)=false→G)):=rfl
@[simp] theorem Afx {b:Bool} {F:Prop}:ji b F F=F:=by cases b<;>simp
@[simp] theorem Ahu {x:A}:gd true x=x:=rfl
@[simp] theorem AfH {x:A}:gd false x = .v undef:=rfl
@[simp] theorem Aiw {q:Bool} {x y:A}:(bif q then gd q x else y)=bif q then x else y:=by cases q<;>rfl
def ng (b:Bool):Bool:=!b
@[simp] theorem Afj:ng true=false:=rfl
@[simp] theorem Aa6:ng false=true:=rfl
@[simp] theorem AgA {b:Bool}:(ng b=true)=(b=false):=by cases b<;>simp[ng]
@[simp] theorem Aik {b:Bool}:ng (!b)=b:=by cases b<;>rfl
@[simp] theorem yR {q:Bool} {x y:A}:(bif q then x else gd (!q) y)=bif q then x else y:=by cases q<;>rfl
@[simp] theorem Ait {b:Bool} {F:Prop}:rS (ng b) F=(b=false→F):=by cases b<;>simp[rS]
@[simp] theorem Af4 {q:Bool} {x y:A}:(bif q then x else gd (ng q) y)=bif q then x else y:=by cases q<;>rfl
@[simp] theorem AaF {b:Bool}:FO (.v (.bool b)) true=some b:=by cases b<;>rfl
@[simp] theorem yl {b:Bool}:FO (.v (.bool b)) false=some (ng b):=by cases b<;>rfl
@[simp] theorem yp {f:Bool}:FO (.v undef) f=some false:=rfl
@[simp] theorem Afe {q b:Bool}:FO (gd q (.v (.bool b))) true=some (q&&b):=by cases q<;>cases b<;>rfl
@[simp] theorem Abp {q b:Bool}:FO (gd q (.v (.bool b))) false=some (q&&ng b):=by cases q<;>cases b<;>rfl
@[simp] theorem Ajb {q:Bool} {x:A}:gd q (gd q x)=gd q x:=by cases q<;>rfl
@[simp] theorem AaJ {b:Bool}:dX (.v (.bool b))=some b:=rfl
@[simp] theorem Abf {b:Bool} {x y:A}:fT (.v (.bool b)) x y=some (bif b then x else y):=rfl
section
variable {c:Cx} {Q:Exit→Sta→Prop} {st:Sta} {K:Sta→Prop}
@[simp] theorem AdP:WPC c .skip Q st=Q .normal st:=rfl
@[simp] theorem Ac3 {i:Nat}:WPC c (.exit i) Q st=Q (.exit i) st:=rfl
@[simp] theorem Ahp:WPC c .ret Q st=Q .ret st:=rfl
def yb (Q:Exit→Sta→Prop) (live:List Nat) (st:Sta):Prop:=Q .normal (st.keep live)
@[simp] theorem AdV {live:List Nat}:yb Q live st=Q .normal (st.keep live):=rfl
@[simp] theorem Af9 {ops:List CO} {live:List Nat}:WPC c (.reg ops live) Q st=AB c.P (yb Q live) ops [] st:=rfl
@[simp] theorem Agh {x y:CC}:WPC c (.seq x y) Q st=WPC c x (D4 (WPC c y Q) Q) st:=rfl
@[simp] theorem Abi {i:Nat} {x:CC}:WPC c (.block i x) Q st=WPC c x (BD i Q) st:=rfl
@[simp] theorem Ac4 {x:CC}:WPC c (.loop x) Q st=LoopC c x Q st:=rfl
@[simp] theorem Acy {x:CC}:WPC c (.scope x) Q st=WPC c x (NoG Q) st:=rfl
@[simp] theorem AhE:NoG Q .ret st=Q .ret st:=rfl
@[simp] theorem Aec {x:CC}:WPC c (.stop x) Q st=VA c (WPC c x Q) st:=rfl
@[simp] theorem Ae0 {live:List Nat} {x:CC}:WPC c (.keep live x) Q st=WPC c x Q (st.keep live):=rfl
@[simp] theorem Ac5 {o:Operand} {x y:CC}:WPC c (.cond o x y) Q st=Gt (dX (evs st.s o)) fun b=>ji b (WPC c x Q st) (WPC c y Q st):=by
 apply propext;constructor
 ·rintro⟨b,h1,h2,h3⟩;exact⟨b,by rw[h1];rfl,h2,h3⟩
 ·rintro⟨b,h1,h2,h3⟩;exact⟨b,Xb h1,h2,h3⟩
@[simp] theorem wQ:D4 K Q .normal st=K st:=rfl
@[simp] theorem AaU {i:Nat}:D4 K Q (.exit i) st=Q (.exit i) st:=rfl
@[simp] theorem Acx:D4 K Q .ret st=Q .ret st:=rfl
theorem Ab {x x':CC} (hm:c.P.follows .mixedOrders=true) (he:x=x') (h:WPC c x' (D4 (LoopC c x Q) Q) st):LoopC c x Q st:=by
 subst he;exact eU hm h
@[simp] theorem Ajo {P:Program} {w0:World} {I0:Nat→Prop} {n:Nat}:(cx P w0 I0 n).P=P:=rfl
variable {P:Program} {rs:List ResultVar} {r:A}
@[simp] theorem Ac0:TS P rs r .ret st=Gt (O7 P st rs) fun r0=>J3 st.H r0 r:=rfl
@[simp] theorem AaP {t:Nat}:QO P st (.tmp t)=some (st.s t):=rfl
@[simp] theorem yz {t:TypeId} {a:Nat}:QO P st (.cell a t)=GC P st.H t (st.s a):=rfl
@[simp] theorem Afb {x:ResultVar}:O7 P st [x]=QO P st x:=rfl
@[simp] theorem Aeh {x y:ResultVar} {l:List ResultVar}:O7 P st (x::y::l)=(Iy P st (x::y::l)).map .tup:=rfl
@[simp] theorem yE:Iy P st []=some []:=rfl
@[simp] theorem vn {x:ResultVar} {l:List ResultVar}:Iy P st (x::l)=match QO P st x,Iy P st l with | some x,some l=>some (x::l) | _,_=>none:=rfl
end
section
variable {P:Program} {H:Hp} {t u:TypeId} {q:Bool} {x y z:A} {K:A→Prop}
theorem Hy {F F':Option A} (h:q=true→F=F'):Mn q F K=Mn q F' K:=by
 cases q
 ·simp
 ·rw[h rfl]
@[simp] theorem AeB {op:BinOp}:Mn q (Q1 P op t (gd q x) y) K=Mn q (Q1 P op t x y) K:=Hy fun h=>by rw[h];rfl
@[simp] theorem AeA {op:BinOp}:Mn q (Q1 P op t x (gd q y)) K=Mn q (Q1 P op t x y) K:=Hy fun h=>by rw[h];rfl
@[simp] theorem Ail {op:UnOp}:Mn q (xh op (gd q y)) K=Mn q (xh op y) K:=Hy fun h=>by rw[h];rfl
@[simp] theorem AdF:Mn q (GC P H t (gd q y)) K=Mn q (GC P H t y) K:=Hy fun h=>by rw[h];rfl
@[simp] theorem qW:Mn q (Ch P t (gd q x) y) K=Mn q (Ch P t x y) K:=Hy fun h=>by rw[h];rfl
@[simp] theorem rM:Mn q (Ch P t x (gd q y)) K=Mn q (Ch P t x y) K:=Hy fun h=>by rw[h];rfl
@[simp] theorem AfW:Mn q (XT P t (gd q y)) K=Mn q (XT P t y) K:=Hy fun h=>by rw[h];rfl
@[simp] theorem Ahb:Mn q (fT (gd q z) x y) K=Mn q (fT z x y) K:=Hy fun h=>by rw[h];rfl
def GB (P:Program) (q:Bool) (t:TypeId) (acc l:List (Nat × A)) (K:A→Prop):Prop:=Mn q (Cc P t (acc++l)) K
@[congr] theorem AdN {q':Bool} {acc l l':List (Nat × A)} (h0:q=q') (h:l=l'):GB P q t acc l K=GB P q' t acc l' K:=by rw[h0,h]
@[simp] theorem Aia {acc:List (Nat × A)}:GB P q t acc [] K=Mn q (Cc P t acc) K:=by simp[GB]
theorem vO {acc l:List (Nat × A)} {i:Nat}:GB P q t acc ((i,x)::l) K=GB P q t (acc++[(i,x)]) l K:=by simp[GB]
@[simp] theorem Ajr {acc l:List (Nat × A)} {i:Nat} {a:Value}:GB P q t acc ((i,.v a)::l) K=GB P q t (acc++[(i,.v a)]) l K:=vO
end
section
variable {P:Program} {H:Hp} {t u:TypeId}
@[simp] theorem AfP {op:BinOp} {q r:IntKind} {a b:Int}:Q1 P op t (.v (.int q a)) (.v (.int r b))=EG op q r a b:=rfl
@[simp] theorem ye {xs ys:List A}:Q1 P .eql t (.agg xs) (.agg ys)=if P.eqGuardType P.depth t=false then (VJ P 100 t (.agg xs) (.agg ys)).map fun b=>.v (.bool b) else none:=rfl
@[simp] theorem yL {xs ys:List A}:Q1 P .neq t (.agg xs) (.agg ys)=if P.eqGuardType P.depth t=false then (VJ P 100 t (.agg xs) (.agg ys)).map fun b=>.v (.bool (!b)) else none:=rfl
@[simp] theorem AcY {q r:IntKind} {a b:Int}:EG .shl q r a b=if 0≤b then some (.v (.int q (q.wrap (a*2 ^ (min b.toNat q.bits))))) else none:=rfl
@[simp] theorem Adr {q r:IntKind} {a b:Int}:EG .shr q r a b=if 0≤b then some (.v (.int q (a / 2 ^ (min b.toNat q.bits)))) else none:=rfl
@[simp] theorem Ae6 {q:IntKind} {a b:Int}:EG .add q q a b=some (.v (.int q (q.wrap (a+b)))):=by simp[EG]
@[simp] theorem AeS {q:IntKind} {a b:Int}:EG .sub q q a b=some (.v (.int q (q.wrap (a-b)))):=by simp[EG]
@[simp] theorem Ac1 {q:IntKind} {a b:Int}:EG .mul q q a b=some (.v (.int q (q.wrap (a*b)))):=by simp[EG]
@[simp] theorem Aea {q:IntKind} {a b:Int}:EG .quo q q a b=if b=0 then none else some (.v (.int q (q.wrap (a.tdiv b)))):=by simp[EG]
@[simp] theorem AeG {q:IntKind} {a b:Int}:EG .rem q q a b=if b=0 then none else some (.v (.int q (a.tmod b))):=by simp[EG]
@[simp] theorem AcW {q:IntKind} {a b:Int}:EG .and q q a b=some (.v (.int q (bits .and q a b))):=by simp[EG]
@[simp] theorem Ahh {q:IntKind} {a b:Int}:EG .or q q a b=some (.v (.int q (bits .or q a b))):=by simp[EG]
@[simp] theorem Ad2 {q:IntKind} {a b:Int}:EG .xor q q a b=some (.v (.int q (bits .xor q a b))):=by simp[EG]
@[simp] theorem x8 {q:IntKind} {a b:Int}:EG .andNot q q a b=some (.v (.int q (bits .andNot q a b))):=by simp[EG]
@[simp] theorem AdZ {q:IntKind} {a b:Int}:EG .eql q q a b=some (.v (.bool (decide (a=b)))):=by simp[EG];rfl
@[simp] theorem Aef {q:IntKind} {a b:Int}:EG .neq q q a b=some (.v (.bool (!decide (a=b)))):=by simp[EG];rfl
@[simp] theorem AfL {q:IntKind} {a b:Int}:EG .lss q q a b=some (.v (.bool (decide (a<b)))):=by simp[EG]
@[simp] theorem Afi {q:IntKind} {a b:Int}:EG .leq q q a b=some (.v (.bool (decide (a≤b)))):=by simp[EG]
@[simp] theorem AdG {q:IntKind} {a b:Int}:EG .gtr q q a b=some (.v (.bool (decide (b<a)))):=by simp[EG]
@[simp] theorem Adj {q:IntKind} {a b:Int}:EG .geq q q a b=some (.v (.bool (decide (b≤a)))):=by simp[EG]
@[simp] theorem Agy {b:Bool}:xh .not (.v (.bool b))=some (.v (.bool (!b))):=rfl
@[simp] theorem Ahk {q:IntKind} {n:Int}:xh .neg (.v (.int q n))=some (.v (.int q (q.wrap (0-n)))):=rfl
theorem nD {u:TypeId} {d:TypeDesc} {q r:IntKind} {n:Int} (h1:P.underlying t=some d) (h2:P.underlying u=some (.int q)):Ve P t u (.v (.int r n))=some (.v (.int q (q.wrap n))):=by unfold Ve;rw[h1,h2]
@[simp] theorem AeR {cs:List A}:GC P H t (.pim cs)=match DQ P t,DB P t with | some g,some sz=>My g sz cs | _,_=>none:=rfl
@[simp] theorem Ae2 {sz:Nat} {cs:List A}:My true sz cs=if sz≤cs.length then some (.agg (cs.take sz)) else none:=rfl
@[simp] theorem Abj {sz:Nat} {cs:List A}:My false sz cs=cs[0]?:=rfl
@[simp] theorem zN {n:Nat}:Ny (.tmp n)=false:=rfl
@[simp] theorem z5 {k:IntKind} {n:Int}:Ny (.const (.int k n))=false:=rfl
@[simp] theorem zJ {n:Option Addr}:Ny (.const (.pointer n))=false:=rfl
@[simp] theorem AaS:Ny (.const (.slice none 0 0))=true:=rfl
@[simp] theorem Ach {x:A}:Rt P .eql t x=match P.underlying t with | some (.slice _)=>(j3 x).map fun b=>.v (.bool b) | _=>none:=by
 unfold Rt;cases P.underlying t with
 |none=>rfl
 |some d=>cases d<;>rfl
@[simp] theorem AbF {f:Bool} {x:A} {xs:List A}:j3 (.sl f (x::xs))=some false:=rfl
@[simp] theorem AhM {a:Option Addr} {n c:Nat}:j3 (.v (.slice a n c))=some a.isNone:=rfl
@[simp] theorem AbG {len:Nat} {lo hi:Option A}:Gi len lo hi none=match HI hi len len with | some h=>(match HI lo 0 h with | some l=>some (l,h,none) | none=>none) | none=>none:=rfl
@[simp] theorem yY {d n:Nat}:HI none d n=some d:=rfl
@[simp] theorem AcG {k:IntKind} {i:Int} {d n:Nat}:HI (some (.v (.int k i))) d n=if 0≤i∧i≤n then some i.toNat else none:=rfl
@[simp] theorem zo {f:Bool} {h n:Nat}:Kw none f h n=(f&&h == n):=rfl
@[simp] theorem Aa3 {n:Nat} {cs:List A}:A.shift n (.pim cs)=some (.pim (cs.drop n)):=rfl
@[simp] theorem Aa8 {n u p:Nat} {o:Nm}:A.shift n (.pob o u p)=some (.pob o u (p+n)):=rfl
@[simp] theorem Acp {n u p q:Nat} {o:Nm}:A.shift n (.pel o u p q)=some (.pel o u p (q+n)):=rfl
@[simp] theorem vM {a:A} {i:Nat}:Iv P t a i=(An P t i).bind a.shift:=rfl
@[simp] theorem yd {xs:List A} {i:Nat}:Pq (.tup xs) i=xs[i]?:=rfl
@[simp] theorem yB {c:A} {cs news:List A} {n:Nat}:splice (c::cs) (n+1) news=c::splice cs n news:=by simp[splice,Nat.add_right_comm]
@[simp] theorem yQ {cs news:List A}:splice cs 0 news=news++cs.drop news.length:=by simp[splice]
end
section
variable {P:Program} {s:Nat→A} {H:Hp}
@[simp] theorem AdW {d:Nat} {x:A} {H':Hp}:Sta.put ⟨s,H⟩ (some d) x H'=⟨upd s d x,H'⟩:=rfl
@[simp] theorem Ad8 {x:A} {H':Hp}:Sta.put ⟨s,H⟩ none x H'=⟨s,H'⟩:=rfl
@[simp] theorem Ais {d t:Nat} {x:A}:upd s d x t=if t=d then x else s t:=rfl
@[simp] theorem AhN {t:Nat}:lk [] t = .any:=rfl
@[simp] theorem AgB {d t:Nat} {x:A} {l:List (Nat × A)}:lk ((d,x)::l) t=if d=t then x else lk l t:=rfl
@[simp] theorem AhH {args:List A} {t:Nat}:Rz args t=(args[t]?).getD .any:=rfl
@[simp] theorem Ahz {t:Nat}:evs s (.tmp t)=s t:=rfl
@[simp] theorem Abo {x:Value}:evs s (.const x)=HM x:=rfl
@[simp] theorem Adf {g:FuncId}:evs s (.func g) = .fnc g [] []:=rfl
@[simp] theorem Ahi {live:List Nat}:Sta.keep ⟨s,H⟩ live=⟨lk (live.map fun k=>(k,s k)),H⟩:=rfl
@[simp] theorem Ahr {q:IntKind} {n:Int}:HM (.int q n) = .v (.int q n):=rfl
@[simp] theorem Adc {b:Bool}:HM (.bool b) = .v (.bool b):=rfl
@[simp] theorem Aaz {b:ByteArray}:HM (.string b) = .v (.string b):=rfl
@[simp] theorem ya {b:Option Addr}:HM (.pointer b) = .v (.pointer b):=rfl
@[simp] theorem AgR:HM (.slice none 0 0) = .sl true []:=rfl
@[simp] theorem Agj {cs:Array Value}:HM (.agg cs) = .agg (cs.toList.map bh):=rfl
@[simp] theorem Afg {q:IntKind} {n:Int}:bh (.int q n) = .v (.int q n):=rfl
@[simp] theorem AbP {b:Bool}:bh (.bool b) = .v (.bool b):=rfl
@[simp] theorem vy {b:Option Addr}:bh (.pointer b) = .v (.pointer b):=rfl
@[simp] theorem AeL:bh (.slice none 0 0) = .sl true []:=rfl
@[simp] theorem Aa7 {cs:List A}:(A.agg cs).cells=cs:=rfl
@[simp] theorem Agp {x:Value}:(A.v x).cells=[.v x]:=rfl
@[simp] theorem AdX {b:Bool} {xs:List A}:(A.sl b xs).cells=[.sl b xs]:=rfl
@[simp] theorem AbJ {o:Nm} {u z p q:Nat}:(A.osl o u z p q).cells=[.osl o u z p q]:=rfl
@[simp] theorem AcF {cs:List A}:(A.pim cs).cells=[.pim cs]:=rfl
@[simp] theorem Abg {o:Nm} {u p:Nat}:(A.pob o u p).cells=[.pob o u p]:=rfl
@[simp] theorem Adq:A.ones []=true:=rfl
@[simp] theorem AbQ {a:A} {l:List A}:A.ones (a::l)=(a.one&&A.ones l):=by simp[A.ones]
@[simp] theorem AhF {q:IntKind} {n:Int}:(A.v (.int q n)).one=true:=rfl
@[simp] theorem Ae5 {b:Bool}:(A.v (.bool b)).one=true:=rfl
@[simp] theorem yw {b:Option Addr}:(A.v (.pointer b)).one=true:=rfl
@[simp] theorem Aim {b:Bool} {xs:List A}:(A.sl b xs).one=true:=rfl
@[simp] theorem AgJ {o:Nm} {u z p q:Nat}:(A.osl o u z p q).one=true:=rfl
@[simp] theorem Ag1 {cs:List A}:(A.pim cs).one=true:=rfl
@[simp] theorem AgK {o:Nm} {u p:Nat}:(A.pob o u p).one=true:=rfl
@[simp] theorem Acg {cs:List A}:(A.pim cs).isPtr=true:=rfl
@[simp] theorem Abe {o:Nm} {u p:Nat}:(A.pob o u p).isPtr=true:=rfl
@[simp] theorem AgQ {x:Value}:(A.v x).isPtr=false:=rfl
@[simp] theorem Ahm {x:Value}:(A.v x).bare1=true:=rfl
@[simp] theorem Afn {b:Bool} {xs:List A}:(A.sl b xs).bare1=true:=rfl
@[simp] theorem AiC {x:Value}:(A.v x).bare=true:=rfl
@[simp] theorem Age {b:Bool} {xs:List A}:(A.sl b xs).bare=true:=rfl
@[simp] theorem Adz {cs:List A}:(A.pim cs).bare=true:=rfl
@[simp] theorem Aft {cs:List A}:(A.agg cs).bare=cs.all A.bare2:=rfl
@[simp] theorem Af0 {x:Value}:(A.v x).bare2=true:=rfl
@[simp] theorem Ade {b:Bool} {xs:List A}:(A.sl b xs).bare2=true:=rfl
@[simp] theorem Acs {cs:List A}:(A.pim cs).bare2=true:=rfl
@[simp] theorem Aei {n:Nat}:Gh n []=true:=rfl
@[simp] theorem AcM {n:Nat} {x:A} {l:List A}:Gh n (x::l)=(x.cells.length == n&&Gh n l):=rfl
@[simp] theorem Abm {pl:Nat→Option (Nat × Nat)} {cs:List A}:CI pl cs []=some cs:=rfl
@[simp] theorem zy {pl:Nat→Option (Nat × Nat)} {cs:List A} {i:Nat} {x:A} {ps:List (Nat × A)}:CI pl cs ((i,x)::ps)=match pl i with
  |none=>none
  |some (off,size)=>if x.cells.length=size∧off+size≤cs.length∧A.ones x.cells=true then CI pl (splice cs off x.cells) ps else none:=rfl
def EH:List (Nm × VOb)→Hp
 |[],_=>⟨0,.none⟩
 |(k,x)::l,o=>if k=o then x else EH l o
def sC:List (Nm × VOb)→Nm→VOb→List (Nm × VOb)
 |[],d,x=>[(d,x)]
 |(k,y)::l,d,x=>if k=d then (k,x)::l else (k,y)::sC l d x
@[simp] theorem AiQ:H0=EH []:=rfl
@[simp] theorem lI {o:Nm}:EH [] o=⟨0,.none⟩:=rfl
@[simp] theorem Pk {k o:Nm} {x:VOb} {l:List (Nm × VOb)}:EH ((k,x)::l) o=if k=o then x else EH l o:=rfl
@[simp] theorem rR {d:Nm} {x:VOb}:sC [] d x=[(d,x)]:=rfl
@[simp] theorem ny {k d:Nm} {x y:VOb} {l:List (Nm × VOb)}:sC ((k,y)::l) d x=if k=d then (k,x)::l else (k,y)::sC l d x:=rfl
@[simp] theorem Afy {l:List (Nm × VOb)} {d:Nm} {x:VOb}:Ay (EH l) d x=EH (sC l d x):=by
 funext o;induction l with
 |nil=>
  simp only[Ay,rR,Pk,lI];by_cases h:o=d
  ·subst h;simp
  ·simp[h,Ne.symm h]
 |cons p l ih=>
  obtain⟨k,y⟩:=p;simp only[ny];by_cases hk:k=d
  ·subst hk;simp only[if_pos,Pk,Ay];by_cases h:o=k
   ·subst h;simp
   ·simp[h,Ne.symm h]
  ·rw[if_neg hk,Pk,← ih];simp only[Ay,Pk];by_cases h:o=d
   ·subst h;simp[hk]
   ·simp[h]
@[simp] theorem AcU {o:Nm} {u p:Nat}:refs (.pob o u p)=[(o,false)]:=rfl
@[simp] theorem AcX {o:Nm} {u p q:Nat}:refs (.pel o u p q)=[(o,false)]:=rfl
@[simp] theorem Afr {o:Nm} {u z p q:Nat}:refs (.osl o u z p q)=[(o,false)]:=rfl
@[simp] theorem Ah8 {x:Value}:refs (.v x)=[]:=rfl
@[simp] theorem Aht {f:Bool} {xs:List A}:refs (.sl f xs)=[]:=rfl
@[simp] theorem AeM {xs:List A}:refs (.pim xs)=[]:=rfl
@[simp] theorem Ahw {d o:Nm} {u z p q:Nat}:vC d (.osl o u z p q)=[(o,false)]:=rfl
@[simp] theorem Ah5 {d:Nm} {f:Bool} {xs:List A}:vC d (.sl f xs)=[(d,false)]:=rfl
@[simp] theorem Ajl {R W R' W':Fp}:nc ⟨R,W⟩ ⟨R',W'⟩=(fY W (R'++W')&&fY W' (R++W)):=rfl
@[simp] theorem Ag6 {l:Fp}:fY [] l=true:=rfl
@[simp] theorem AeN {p:Nm × Bool} {l m:Fp}:fY (p::l) m=((m.all fun q=>sJ p q)&&fY l m):=rfl
@[simp] theorem AgN {p q:Nm} {a b:Bool}:sJ (p,a) (q,b)=match a,b with
 |false,false=>p != q
 |true,false=>!p.isPrefixOf q
 |false,true=>!q.isPrefixOf p
 |true,true=>!p.isPrefixOf q&&!q.isPrefixOf p:=rfl
end
section
variable {P:Program} {K:Sta→Prop} {rest:List CO} {s:Nat→A} {H:Hp} {dd:Option Nat} {k:Nat} {f:Bool} {nm:Nm} {ix:Nat} {un:List Nat} {l:Bool} {lg:Lg}
@[simp] theorem Ag4 {st:Sta}:AB P K [] lg st=K st:=rfl
@[simp] theorem Aak {i:Nat} {g:Ft}:BV false i g lg=lg:=rfl
@[simp] theorem Abh {i:Nat} {g:Ft}:BV true i g lg=(i,g)::lg:=rfl
@[simp] theorem Agr {g:Ft}:Ck un [] g=True:=by simp[Ck]
@[simp] theorem Ag7 {i:Nat} {g h:Ft}:Ck un ((i,g)::lg) h=((i ∈ un→nc g h=true)∧Ck un lg h):=by simp[Ck]
theorem PR:Ck un lg ⟨[],[]⟩:=fun p _ _=>by simp[nc,JV,Mc]
def fg (q:Bool) (g:Ft):Ft:=⟨bif q then g.R else [],bif q then g.W else []⟩
@[simp] theorem AhB {g:Ft}:fg true g=g:=rfl
@[simp] theorem AdK {g:Ft}:fg false g=⟨[],[]⟩:=rfl
theorem EF {op:Op} {F:Option A} (hF:∀ x E R W,aw P nm op (evs s) H x E R W ↔ Yy F x E R W) :
  AB P K (⟨dd,op,none,nm,ix,un,l⟩::rest) lg ⟨s,H⟩=Gt F fun x=>AB P K rest (BV l ix ⟨[],[]⟩ lg) (Sta.put ⟨s,H⟩ dd x H):=by
 apply propext;constructor
 ·rintro⟨x,E,⟨R,W⟩,h1,h2,h3⟩;obtain⟨h4,rfl,h5,h6⟩:=(hF x E R W).1 h1;subst h5 h6;exact⟨x,h4,h3⟩
 ·rintro⟨x,h1,h2⟩;exact⟨x,.nil,⟨[],[]⟩,(hF _ _ _ _).2 ⟨h1,rfl,rfl,rfl⟩,PR,h2⟩
theorem HG {op:Op} {F:Option A} (hF:∀ x E R W,aw P nm op (evs s) H x E R W ↔ Yy F x E R W) :
  AB P K (⟨dd,op,some (k,f),nm,ix,un,l⟩::rest) lg ⟨s,H⟩=Gt (FO (s k) f) fun q=>Mn q F fun x=>AB P K rest (BV l ix ⟨[],[]⟩ lg) (Sta.put ⟨s,H⟩ dd x H):=by
 apply propext;constructor
 ·rintro⟨x,E,⟨R,W⟩,⟨q,x0,h1,h2,rfl,h4⟩,h5,h6⟩;refine⟨q,h1,x0,fun hq=>((hF _ _ _ _).1 (h2 hq)).1,?_⟩;have:E = .nil∧R=[]∧W=[]:=by
   cases hq:q with
   |true=>exact((hF _ _ _ _).1 (h2 hq)).2
   |false=>exact h4 hq
  obtain⟨rfl,h7,h8⟩:=this;subst h7 h8;exact h6
 ·rintro⟨q,h1,x0,h2,h3⟩;exact⟨_,.nil,⟨[],[]⟩,⟨q,x0,h1,fun hq=>(hF _ _ _ _).2 ⟨h2 hq,rfl,rfl,rfl⟩,rfl,fun _=>⟨rfl,rfl,rfl⟩⟩,PR,h3⟩
theorem XE {op:Op} {F:Option (A × Eff)} {R W:Fp} (hF:∀ x E R' W',aw P nm op (evs s) H x E R' W' ↔ F=some (x,E)∧R'=R∧W'=W) :
  AB P K (⟨dd,op,none,nm,ix,un,l⟩::rest) lg ⟨s,H⟩=Gt F fun p=>Ck un lg ⟨R,W⟩∧AB P K rest (BV l ix ⟨R,W⟩ lg) (Sta.put ⟨s,H⟩ dd p.1 (p.2.app H)):=by
 apply propext;constructor
 ·rintro⟨x,E,⟨R',W'⟩,h1,h2,h3⟩;obtain⟨h4,h5,h6⟩:=(hF x E R' W').1 h1;subst h5 h6;exact⟨(x,E),h4,h2,h3⟩
 ·rintro⟨⟨x,E⟩,h1,h2,h3⟩;exact⟨x,E,⟨R,W⟩,(hF _ _ _ _).2 ⟨h1,rfl,rfl⟩,h2,h3⟩
theorem AU {op:Op}:AB P K (⟨dd,op,some (k,f),nm,ix,un,l⟩::rest) lg ⟨s,H⟩=Gt (FO (s k) f) fun q=>ji q (AB P K (⟨dd,op,none,nm,ix,un,l⟩::rest) lg ⟨s,H⟩) (AB P K rest (BV l ix ⟨[],[]⟩ lg) (Sta.put ⟨s,H⟩ dd (.v undef) H)):=by
 apply propext;constructor
 ·rintro⟨x,E,⟨R,W⟩,⟨q,x0,h1,h2,rfl,h4⟩,h5,h6⟩;refine⟨q,h1,fun hq=>⟨x0,E,⟨R,W⟩,h2 hq,h5,?_⟩,fun hq=>?_⟩
  ·subst hq;exact h6
  ·subst hq;obtain⟨rfl,h7,h8⟩:=h4 rfl;subst h7 h8;exact h6
 ·rintro⟨q,h1,h2,h3⟩;cases q with
  |true=>
   obtain⟨x,E,g,h4,h5,h6⟩:=h2 rfl;exact⟨x,E,g,⟨true,x,h1,fun _=>h4,rfl,(fun h=>nomatch h)⟩,h5,h6⟩
  |false=>exact⟨_,.nil,⟨[],[]⟩,⟨false,.any,h1,(fun h=>nomatch h),rfl,fun _=>⟨rfl,rfl,rfl⟩⟩,PR,h3 rfl⟩
section
variable {a b:Operand} {t:TypeId}
@[simp] theorem Ahc:AB P K (⟨dd,.move a,none,nm,ix,un,l⟩::rest) lg ⟨s,H⟩=AB P K rest (BV l ix ⟨[],[]⟩ lg) (Sta.put ⟨s,H⟩ dd (evs s a) H):=by
 rw[EF (F:=some (evs s a)) (fun _ _ _ _=>Iff.rfl)];simp
@[simp] theorem Ab9:AB P K (⟨dd,.assign a,none,nm,ix,un,l⟩::rest) lg ⟨s,H⟩=AB P K rest (BV l ix ⟨[],[]⟩ lg) (Sta.put ⟨s,H⟩ dd (evs s a) H):=by
 rw[EF (F:=some (evs s a)) (fun _ _ _ _=>Iff.rfl)];simp
@[simp] theorem Aby:AB P K (⟨dd,.move a,some (k,f),nm,ix,un,l⟩::rest) lg ⟨s,H⟩=Gt (FO (s k) f) fun q=>AB P K rest (BV l ix ⟨[],[]⟩ lg) (Sta.put ⟨s,H⟩ dd (gd q (evs s a)) H):=by
 rw[HG (F:=some (evs s a)) (fun _ _ _ _=>Iff.rfl)];simp
@[simp] theorem AiG {op:BinOp} {u:TypeId}:AB P K (⟨dd,.binOp op t a b u,none,nm,ix,un,l⟩::rest) lg ⟨s,H⟩=Gt (if Ny b=true then Rt P op t (evs s a) else Q1 P op t (evs s a) (evs s b)) fun x=>AB P K rest (BV l ix ⟨[],[]⟩ lg) (Sta.put ⟨s,H⟩ dd x H):=EF fun _ _ _ _=>Iff.rfl
@[simp] theorem AfJ {op:BinOp} {u:TypeId}:AB P K (⟨dd,.binOp op t a b u,some (k,f),nm,ix,un,l⟩::rest) lg ⟨s,H⟩=Gt (FO (s k) f) fun q=>Mn q (if Ny b=true then Rt P op t (evs s a) else Q1 P op t (evs s a) (evs s b)) fun x=>AB P K rest (BV l ix ⟨[],[]⟩ lg) (Sta.put ⟨s,H⟩ dd x H):=HG fun _ _ _ _=>Iff.rfl
@[simp] theorem Ajm {op:UnOp}:AB P K (⟨dd,.unOp op t a,none,nm,ix,un,l⟩::rest) lg ⟨s,H⟩=Gt (xh op (evs s a)) fun x=>AB P K rest (BV l ix ⟨[],[]⟩ lg) (Sta.put ⟨s,H⟩ dd x H):=EF fun _ _ _ _=>Iff.rfl
@[simp] theorem Ago {op:UnOp}:AB P K (⟨dd,.unOp op t a,some (k,f),nm,ix,un,l⟩::rest) lg ⟨s,H⟩=Gt (FO (s k) f) fun q=>Mn q (xh op (evs s a)) fun x=>AB P K rest (BV l ix ⟨[],[]⟩ lg) (Sta.put ⟨s,H⟩ dd x H):=HG fun _ _ _ _=>Iff.rfl
@[simp] theorem AgC {u:TypeId}:AB P K (⟨dd,.convert t u a,none,nm,ix,un,l⟩::rest) lg ⟨s,H⟩=Gt (Ve P t u (evs s a)) fun x=>AB P K rest (BV l ix ⟨[],[]⟩ lg) (Sta.put ⟨s,H⟩ dd x H):=EF fun _ _ _ _=>Iff.rfl
@[simp] theorem vi {i:Nat}:AB P K (⟨dd,.fieldAddr t a i,none,nm,ix,un,l⟩::rest) lg ⟨s,H⟩=Gt (Iv P t (evs s a) i) fun x=>AB P K rest (BV l ix ⟨[],[]⟩ lg) (Sta.put ⟨s,H⟩ dd x H):=EF fun _ _ _ _=>Iff.rfl
@[simp] theorem uC {i:Nat}:AB P K (⟨dd,.fieldAddr t a i,some (k,f),nm,ix,un,l⟩::rest) lg ⟨s,H⟩=Gt (FO (s k) f) fun q=>Mn q (Iv P t (evs s a) i) fun x=>AB P K rest (BV l ix ⟨[],[]⟩ lg) (Sta.put ⟨s,H⟩ dd x H):=HG fun _ _ _ _=>Iff.rfl
@[simp] theorem vV  : AB P K (⟨dd,.indexAddr t a b,none,nm,ix,un,l⟩::rest) lg ⟨s,H⟩=Gt (Ch P t (evs s a) (evs s b)) fun x=>AB P K rest (BV l ix ⟨[],[]⟩ lg) (Sta.put ⟨s,H⟩ dd x H):=EF fun _ _ _ _=>Iff.rfl
@[simp] theorem ug  : AB P K (⟨dd,.indexAddr t a b,some (k,f),nm,ix,un,l⟩::rest) lg ⟨s,H⟩=Gt (FO (s k) f) fun q=>Mn q (Ch P t (evs s a) (evs s b)) fun x=>AB P K rest (BV l ix ⟨[],[]⟩ lg) (Sta.put ⟨s,H⟩ dd x H):=HG fun _ _ _ _=>Iff.rfl
@[simp] theorem Aes  : AB P K (⟨dd,.index t a b,none,nm,ix,un,l⟩::rest) lg ⟨s,H⟩=Gt (Ph P t (evs s a) (evs s b)) fun x=>AB P K rest (BV l ix ⟨[],[]⟩ lg) (Sta.put ⟨s,H⟩ dd x H):=EF fun _ _ _ _=>Iff.rfl
@[simp] theorem AaE {i:Nat}:AB P K (⟨dd,.extract a i,none,nm,ix,un,l⟩::rest) lg ⟨s,H⟩=Gt (Pq (evs s a) i) fun x=>AB P K rest (BV l ix ⟨[],[]⟩ lg) (Sta.put ⟨s,H⟩ dd x H):=EF fun _ _ _ _=>Iff.rfl
@[simp] theorem Afc {ps:Array (Nat × Operand)}:AB P K (⟨dd,.build t ps,none,nm,ix,un,l⟩::rest) lg ⟨s,H⟩=Gt (Cc P t (ps.toList.map fun p=>(p.1,evs s p.2))) fun x=>AB P K rest (BV l ix ⟨[],[]⟩ lg) (Sta.put ⟨s,H⟩ dd x H):=EF fun _ _ _ _=>Iff.rfl
@[simp] theorem zR {ps:Array (Nat × Operand)}:AB P K (⟨dd,.build t ps,some (k,f),nm,ix,un,l⟩::rest) lg ⟨s,H⟩=Gt (FO (s k) f) fun q=>GB P q t [] (ps.toList.map fun p=>(p.1,evs s p.2)) fun x=>AB P K rest (BV l ix ⟨[],[]⟩ lg) (Sta.put ⟨s,H⟩ dd x H):=HG fun _ _ _ _=>Iff.rfl
@[simp] theorem vb {n:Nat} {ps:Array (Nat × Operand)}:AB P K (⟨dd,.buildSlice t n ps,none,[],ix,un,l⟩::rest) lg ⟨s,H⟩=Gt (Hl P t n (ps.toList.map fun p=>(p.1,evs s p.2))) fun x=>AB P K rest (BV l ix ⟨[],[]⟩ lg) (Sta.put ⟨s,H⟩ dd x H):=EF fun _ _ _ _=>Iff.rfl
@[simp] theorem AeD {lo hi mx:Option Operand}:AB P K (⟨dd,.slice t a lo hi mx,none,nm,ix,un,l⟩::rest) lg ⟨s,H⟩=Gt (Mf P t (evs s a) (lo.map (evs s)) (hi.map (evs s)) (mx.map (evs s))) fun x=>AB P K rest (BV l ix ⟨[],[]⟩ lg) (Sta.put ⟨s,H⟩ dd x H):=EF fun _ _ _ _=>Iff.rfl
@[simp] theorem yA  : AB P K (⟨dd,.nilCheck a,none,nm,ix,un,l⟩::rest) lg ⟨s,H⟩=Gt (uJ (evs s a)) fun x=>AB P K rest (BV l ix ⟨[],[]⟩ lg) (Sta.put ⟨s,H⟩ dd x H):=EF fun _ _ _ _=>Iff.rfl
@[simp] theorem uX  : AB P K (⟨dd,.nilCheck a,some (k,f),nm,ix,un,l⟩::rest) lg ⟨s,H⟩=Gt (FO (s k) f) fun q=>Mn q (uJ (evs s a)) fun x=>AB P K rest (BV l ix ⟨[],[]⟩ lg) (Sta.put ⟨s,H⟩ dd x H):=HG fun _ _ _ _=>Iff.rfl
@[simp] theorem Agl {c:Operand}:AB P K (⟨dd,.pick c a b,none,nm,ix,un,l⟩::rest) lg ⟨s,H⟩=Gt (fT (evs s c) (evs s a) (evs s b)) fun x=>AB P K rest (BV l ix ⟨[],[]⟩ lg) (Sta.put ⟨s,H⟩ dd x H):=EF fun _ _ _ _=>Iff.rfl
@[simp] theorem AbX {c:Operand}:AB P K (⟨dd,.pick c a b,some (k,f),nm,ix,un,l⟩::rest) lg ⟨s,H⟩=Gt (FO (s k) f) fun q=>Mn q (fT (evs s c) (evs s a) (evs s b)) fun x=>AB P K rest (BV l ix ⟨[],[]⟩ lg) (Sta.put ⟨s,H⟩ dd x H):=HG fun _ _ _ _=>Iff.rfl
@[simp] theorem yI {g:FuncId} {fs cs:Array Operand}:AB P K (⟨dd,.makeFunc (.func g) fs cs,none,nm,ix,un,l⟩::rest) lg ⟨s,H⟩=Gt (some (A.fnc g (fs.toList.map (evs s)) (cs.toList.map (evs s)))) fun x=>AB P K rest (BV l ix ⟨[],[]⟩ lg) (Sta.put ⟨s,H⟩ dd x H):=EF fun _ _ _ _=>Iff.rfl
@[simp] theorem oT  : AB P K (⟨dd,.makeInterface t a,none,nm,ix,un,l⟩::rest) lg ⟨s,H⟩=Gt (ju P t (evs s a)) fun x=>AB P K rest (BV l ix ⟨[],[]⟩ lg) (Sta.put ⟨s,H⟩ dd x H):=EF fun _ _ _ _=>Iff.rfl
@[simp] theorem u4 {u:TypeId} {ok:Bool}:AB P K (⟨dd,.typeAssert a t u ok,none,nm,ix,un,l⟩::rest) lg ⟨s,H⟩=Gt (PB P u ok (evs s a)) fun x=>AB P K rest (BV l ix ⟨[],[]⟩ lg) (Sta.put ⟨s,H⟩ dd x H):=EF fun _ _ _ _=>Iff.rfl
@[simp] theorem Aiy {as':Array Operand} {ts:Array TypeId}:AB P K (⟨dd,.call { callee:=.builtin .min,args:=as',argTypes:=ts },none,nm,ix,un,l⟩::rest) lg ⟨s,H⟩=Gt (GW false (as'.toList.map (evs s))) fun x=>AB P K rest (BV l ix ⟨[],[]⟩ lg) (Sta.put ⟨s,H⟩ dd x H):=EF fun _ _ _ _=>Iff.rfl
@[simp] theorem AiP {as':Array Operand} {ts:Array TypeId}:AB P K (⟨dd,.call { callee:=.builtin .max,args:=as',argTypes:=ts },none,nm,ix,un,l⟩::rest) lg ⟨s,H⟩=Gt (GW true (as'.toList.map (evs s))) fun x=>AB P K rest (BV l ix ⟨[],[]⟩ lg) (Sta.put ⟨s,H⟩ dd x H):=EF fun _ _ _ _=>Iff.rfl
@[simp] theorem Aiu:AB P K (⟨dd,.call { callee:=.builtin .len,args:=#[a],argTypes:=#[t] },none,nm,ix,un,l⟩::rest) lg ⟨s,H⟩=Gt (XT P t (evs s a)) fun x=>AB P K rest (BV l ix ⟨[],[]⟩ lg) (Sta.put ⟨s,H⟩ dd x H):=EF fun x E R W=>by
  constructor
  ·rintro⟨a',t',h1,h2,h3⟩;cases h1;cases h2;exact h3
  ·intro h;exact⟨a,t,rfl,rfl,h⟩
@[simp] theorem Afa:AB P K (⟨dd,.call { callee:=.builtin .len,args:=#[a],argTypes:=#[t] },some (k,f),nm,ix,un,l⟩::rest) lg ⟨s,H⟩=Gt (FO (s k) f) fun q=>Mn q (XT P t (evs s a)) fun x=>AB P K rest (BV l ix ⟨[],[]⟩ lg) (Sta.put ⟨s,H⟩ dd x H):=HG fun x E R W=>by
  constructor
  ·rintro⟨a',t',h1,h2,h3⟩;cases h1;cases h2;exact h3
  ·intro h;exact⟨a,t,rfl,rfl,h⟩
@[simp] theorem Ahx:AB P K (⟨dd,.load t a,none,nm,ix,un,l⟩::rest) lg ⟨s,H⟩=Gt (GC P H t (evs s a)) fun x=>Ck un lg ⟨refs (evs s a),[]⟩∧AB P K rest (BV l ix ⟨refs (evs s a),[]⟩ lg) (Sta.put ⟨s,H⟩ dd x H):=by
 apply propext;constructor
 ·rintro⟨x,E,⟨R,W⟩,⟨h1,rfl,h2,h3⟩,h4,h5⟩;simp only at h2 h3;subst h2 h3;exact⟨x,h1,h4,h5⟩
 ·rintro⟨x,h1,h4,h5⟩;exact⟨x,.nil,⟨_,_⟩,⟨h1,rfl,rfl,rfl⟩,h4,h5⟩
@[simp] theorem Acv:AB P K (⟨dd,.load t a,some (k,f),nm,ix,un,l⟩::rest) lg ⟨s,H⟩=Gt (FO (s k) f) fun q=>Mn q (GC P H t (evs s a)) fun x=>Ck un lg (fg q ⟨refs (evs s a),[]⟩)∧AB P K rest (BV l ix (fg q ⟨refs (evs s a),[]⟩) lg) (Sta.put ⟨s,H⟩ dd x H):=by
 apply propext;constructor
 ·rintro⟨x,E,⟨R,W⟩,⟨q,x0,h1,h2,rfl,h4⟩,h5,h6⟩;refine⟨q,h1,x0,fun hq=>(h2 hq).1,?_⟩;have:E = .nil∧(⟨R,W⟩:Ft)=fg q ⟨refs (evs s a),[]⟩:=by
   cases hq:q with
   |true=>
    obtain⟨_,e1,e2,e3⟩:=h2 hq;simp only at e2 e3;exact⟨e1,by rw[e2,e3];rfl⟩
   |false=>
    obtain⟨e1,e2,e3⟩:=h4 hq;simp only at e2 e3;exact⟨e1,by rw[e2,e3];rfl⟩
  obtain⟨rfl,e⟩:=this;rw[e] at h5 h6;exact⟨h5,h6⟩
 ·rintro⟨q,h1,x0,h2,h5,h6⟩;refine⟨_,.nil,fg q ⟨refs (evs s a),[]⟩,⟨q,x0,h1,fun hq=>⟨h2 hq,rfl,?_,?_⟩,rfl,fun hq=>⟨rfl,?_,?_⟩⟩,h5,h6⟩<;>subst hq<;>rfl
@[simp] theorem AfG:AB P K (⟨dd,.alloc t,none,nm,ix,un,l⟩::rest) lg ⟨s,H⟩=Gt (RH P H nm t) fun p=>Ck un lg ⟨[],[(nm,false)]⟩∧AB P K rest (BV l ix ⟨[],[(nm,false)]⟩ lg) (Sta.put ⟨s,H⟩ dd p.1 (p.2.app H)):=XE fun _ _ _ _=>Iff.rfl
@[simp] theorem Aio:AB P K (⟨dd,.box t a,none,nm,ix,un,l⟩::rest) lg ⟨s,H⟩=Gt (ik H nm t (evs s a)) fun p=>Ck un lg ⟨[],[(nm,false)]⟩∧AB P K rest (BV l ix ⟨[],[(nm,false)]⟩ lg) (Sta.put ⟨s,H⟩ dd p.1 (p.2.app H)):=XE fun _ _ _ _=>Iff.rfl
@[simp] theorem uQ {n a':Nat} {d':Nm} {ps:Array (Nat × Operand)}:AB P K (⟨dd,.buildSlice t n ps,none,a'::d',ix,un,l⟩::rest) lg ⟨s,H⟩=Gt (EJ P H (a'::d') t n (ps.toList.map fun p=>(p.1,evs s p.2))) fun p=>Ck un lg ⟨[],[(a'::d',false)]⟩∧AB P K rest (BV l ix ⟨[],[(a'::d',false)]⟩ lg) (Sta.put ⟨s,H⟩ dd p.1 (p.2.app H)):=XE fun _ _ _ _=>Iff.rfl
@[simp] theorem vS:AB P K (⟨dd,.makeSlice t a b,none,nm,ix,un,l⟩::rest) lg ⟨s,H⟩=Gt (FT P H nm t (evs s a) (evs s b)) fun p=>Ck un lg ⟨[],[(nm,false)]⟩∧AB P K rest (BV l ix ⟨[],[(nm,false)]⟩ lg) (Sta.put ⟨s,H⟩ dd p.1 (p.2.app H)):=XE fun _ _ _ _=>Iff.rfl
@[simp] theorem AcQ:AB P K (⟨dd,.store t a b,none,nm,ix,un,l⟩::rest) lg ⟨s,H⟩=Gt (Ip P H t (evs s a) (evs s b)) fun E=>Ck un lg ⟨[],refs (evs s a)⟩∧AB P K rest (BV l ix ⟨[],refs (evs s a)⟩ lg) (Sta.put ⟨s,H⟩ dd .any (E.app H)):=by
 apply propext;constructor
 ·rintro⟨x,E,⟨R,W⟩,⟨h1,rfl,h2,h3⟩,h4,h5⟩;simp only at h2 h3;subst h2 h3;exact⟨E,h1,h4,h5⟩
 ·rintro⟨E,h1,h4,h5⟩;exact⟨_,E,⟨_,_⟩,⟨h1,rfl,rfl,rfl⟩,h4,h5⟩
@[simp] theorem Acl {u:TypeId}:AB P K (⟨dd,.call { callee:=.builtin .append,args:=#[a,b],argTypes:=#[t,u] },none,nm,ix,un,l⟩::rest) lg ⟨s,H⟩=Gt (Ga P H nm t u (evs s a) (evs s b)) fun p=>Ck un lg ⟨refs (evs s b),vC nm (evs s a)⟩∧AB P K rest (BV l ix ⟨refs (evs s b),vC nm (evs s a)⟩ lg) (Sta.put ⟨s,H⟩ dd p.1 (p.2.app H)):=
 XE fun x E R W=>by
  constructor
  ·rintro⟨a',b',t',u',h1,h2,h3,h4,h5⟩;cases h1;cases h2;exact⟨h3,h4,h5⟩
  ·rintro⟨h3,h4,h5⟩;exact⟨a,b,t,u,rfl,rfl,h3,h4,h5⟩
theorem Ae {g:FuncId} {as':Array Operand} {ts:Array TypeId} {x:A} (hs:Spec P g (as'.toList.map (evs s)) x) (hb:(as'.toList.map (evs s)).all A.bare=true) (h:AB P K rest (BV l ix ⟨[],[]⟩ lg) (Sta.put ⟨s,H⟩ dd x H)) :
  AB P K (⟨dd,.call { callee:=.value (.func g),args:=as',argTypes:=ts },none,nm,ix,un,l⟩::rest) lg ⟨s,H⟩:=
 ⟨x,.nil,⟨[],[]⟩,⟨g,[],[],rfl,.inl ⟨by simpa using hb,by simpa using hs,rfl,rfl,rfl⟩⟩,PR,h⟩
theorem MF {o:Operand} {g:FuncId} {fs caps:List A} {as':Array Operand} {ts:Array TypeId} {x:A} (ho:evs s o = .fnc g fs caps) (hs:Spec P g (fs++(as'.toList.map (evs s)++caps)) x) (hb:(fs++(as'.toList.map (evs s)++caps)).all A.bare=true) (h:AB P K rest (BV l ix ⟨[],[]⟩ lg) (Sta.put ⟨s,H⟩ dd x H)) :
  AB P K (⟨dd,.call { callee:=.value o,args:=as',argTypes:=ts },none,nm,ix,un,l⟩::rest) lg ⟨s,H⟩:=
 ⟨x,.nil,⟨[],[]⟩,⟨g,fs,caps,ho,.inl ⟨hb,hs,rfl,rfl,rfl⟩⟩,PR,h⟩
theorem Kf {g:FuncId} {as':Array Operand} {ts:Array TypeId} {x:A} (as'':List A) (hs:SpecB P g as'' x) (hf:G9 H (as'.toList.map (evs s)) as'') (hc:Ck un lg ⟨[([],true)],[]⟩) (h:AB P K rest (BV l ix ⟨[([],true)],[]⟩ lg) (Sta.put ⟨s,H⟩ dd x H)) :
  AB P K (⟨dd,.call { callee:=.value (.func g),args:=as',argTypes:=ts },none,nm,ix,un,l⟩::rest) lg ⟨s,H⟩:=
 ⟨x,.nil,⟨_,_⟩,⟨g,[],[],rfl,.inr (.inl ⟨⟨as'',by simpa using hf,hs⟩,rfl,rfl,rfl⟩)⟩,hc,h⟩
theorem dW {g:FuncId} {as':Array Operand} {ts:Array TypeId} {x:A} (E:Eff) (R W:Fp) (hs:∀ H2,Agree (R++W) H H2→Yg P H2 g (as'.toList.map (evs s)) x E) (hw:Us E W) (hc:Ck un lg ⟨R,W⟩) (h:AB P K rest (BV l ix ⟨R,W⟩ lg) (Sta.put ⟨s,H⟩ dd x (E.app H))) :
  AB P K (⟨dd,.call { callee:=.value (.func g),args:=as',argTypes:=ts },none,nm,ix,un,l⟩::rest) lg ⟨s,H⟩:=
 ⟨x,E,⟨R,W⟩,⟨g,[],[],rfl,.inr (.inr ⟨by simpa using hs,hw⟩)⟩,hc,h⟩
theorem UA {g:FuncId} {as':Array Operand} {ts:Array TypeId} {x:A} {q:Bool} (hq:FO (s k) f=some q) (hs:q=true→Spec P g (as'.toList.map (evs s)) x∧(as'.toList.map (evs s)).all A.bare=true)
  (h:AB P K rest (BV l ix ⟨[],[]⟩ lg) (Sta.put ⟨s,H⟩ dd (gd q x) H)) :
  AB P K (⟨dd,.call { callee:=.value (.func g),args:=as',argTypes:=ts },some (k,f),nm,ix,un,l⟩::rest) lg ⟨s,H⟩:=
 ⟨_,.nil,⟨[],[]⟩,⟨q,x,hq,fun e=>⟨g,[],[],rfl,.inl ⟨by simpa using (hs e).2,by simpa using (hs e).1,rfl,rfl,rfl⟩⟩,rfl,fun _=>⟨rfl,rfl,rfl⟩⟩,PR,h⟩
end
end
section
variable {P:Program} {K:Sta→Prop} {rest:List CO} {s:Nat→A} {H:Hp} {dd:Option Nat} {k:Nat} {g:FuncId} {as':Array Operand} {ts:Array TypeId} {x:A} {q:Bool} {L:List A} {nm:Nm} {ix:Nat} {un:List Nat} {l:Bool} {lg:Lg}
theorem Ee (hq:s k = .v (.bool q)) (hs:q=true→Spec P g L x) (hL:q=true→as'.toList.map (evs s)=L) (hb:L.all A.bare=true)
  (h:AB P K rest (BV l ix ⟨[],[]⟩ lg) (Sta.put ⟨s,H⟩ dd (gd q x) H)) :
  AB P K (⟨dd,.call { callee:=.value (.func g),args:=as',argTypes:=ts },some (k,true),nm,ix,un,l⟩::rest) lg ⟨s,H⟩:=
 UA (q:=q) (by rw[hq];cases q<;>rfl) (fun e=>by rw[hL e];exact⟨hs e,hb⟩) h
theorem B0 (hq:s k = .v (.bool q)) (hs:q=false→Spec P g L x) (hL:q=false→as'.toList.map (evs s)=L) (hb:L.all A.bare=true)
  (h:AB P K rest (BV l ix ⟨[],[]⟩ lg) (Sta.put ⟨s,H⟩ dd (gd (ng q) x) H)) :
  AB P K (⟨dd,.call { callee:=.value (.func g),args:=as',argTypes:=ts },some (k,false),nm,ix,un,l⟩::rest) lg ⟨s,H⟩:=
 UA (q:=ng q) (by rw[hq];cases q<;>rfl) (fun e=>by have e:q=false:=(by simpa using e);rw[hL e];exact⟨hs e,hb⟩) h
end
@[simp] theorem AfE {q r t:Bool}:(bif q then A.v (.bool r) else A.v (.bool t))=A.v (.bool (bif q then r else t)):=by cases q<;>rfl
theorem Ad {H:Hp} {a:A} (h:a.bare=true):J3 H a a:=fun c w I μ v hs hr=>(hr.of_bare h).mono0 (fun b hb=>.inl hb) (fun _ _=>rfl)
theorem xa {w:World} {I:Nat→Prop} {μ:Mu} {f:Bool} {xs:List A} {v:Value} (h:Rel w I μ (.sl f xs) v):Rel w I μ (.sl false xs) v:=by
 cases h with
 |slN _ _ a cap _=>exact .slN _ _ _ _ (fun h=>by cases h)
 |sl _ _ b off n cap sz _ g h1 h2 h3 h4 h5 h6 h7 h8=>exact .sl _ _ b off n cap sz _ g h1 h2 h3 (fun h=>by cases h) h5 h6 h7 h8
theorem Ak {H:Hp} {f:Bool} {xs:List A}:J3 H (.sl f xs) (.sl false xs):=fun c w I μ v hs hr=>xa (Ad (a:=.sl f xs) rfl c w I μ v hs hr)
theorem Bc {H:Hp} {p q:Bool} (h:p=q):J3 H (.v (.bool p)) (.v (.bool q)):=by rw[h];exact Ad rfl
theorem CE {H:Hp} {k:IntKind} {p q:Int} (h:p=q):J3 H (.v (.int k p)) (.v (.int k q)):=by rw[h];exact Ad rfl
theorem AN {H:Hp} {a a':A} (h:a.bare=true) (e:a=a'):J3 H a a':=by rw[← e];exact Ad h
theorem Jh {H:Hp} {o:Nm} {u off len sz:Nat} {xs ys:List A} (ho:QJ H o u=some (sz,xs)) (hl:off+len≤xs.length) (hn:ys.length=len) (hy:∀ y,y ∈ ys→y.cells.length=sz) (h1:A.ones (ys.flatMap A.cells)=true)
  (hb:G9 H (((xs.drop off).take len).flatMap A.cells) (ys.flatMap A.cells)):J3 H (.osl o u sz off len) (.sl false ys):=by
 intro c w I μ v hs hr;obtain⟨hg1,hg2⟩:=KG hb;cases hr with
 |osl _ _ _ _ _ _ a cap g1 g2 g4 g5 g3=>
  obtain⟨hu,k2,hrow⟩:=hs.row ho;obtain⟨_,hcur⟩:=g3 hu.symm;by_cases h0:len=0
  ·subst h0;have:ys=[]:=List.eq_nil_of_length_eq_zero hn;subst this;exact .slN _ _ _ _ (fun h=>by cases h)
  rcases hcur with ⟨e,_⟩ | ⟨p1,rfl,p3⟩
  ·exact(h0 e).elim
  rcases hrow with ⟨q1,_⟩ | ⟨q1,vs,k3,k4,k5,k6,k7⟩
  ·rw[p1] at q1;cases q1
  subst k2;have hB:EA (μ o) (H o).ob=true:=by rw[(Hk ho).2];exact q1
  have hg:∀ (k:Nat) (y:A),(((xs.drop off).take len).flatMap A.cells)[k]? = some y→(xs.flatMap A.cells)[off*(μ o).sz+k]? = some y:=fun k y hk=>EC k6 hk;refine .sl _ _ (μ o).b (off*(μ o).sz) _ _ (μ o).sz _ (fun k=>vs.getD (off*(μ o).sz+k) undef) (Or.inr ⟨o,hB,rfl⟩) hn.symm (by omega) (fun h=>by cases h) hy
   (fun k y hk=>List.all_eq_true.1 h1 y (List.mem_of_getElem? hk)) (fun k y hk=>?_) (fun k y hk=>?_)
  ·obtain⟨a',ha',_⟩:=hg2 k y hk;have h3:=hg k a' ha';have h4:=BT k6;have h5:xs.length*(μ o).sz≤(μ o).cap*(μ o).sz:=Nat.mul_le_mul_right _ k5;have h6:=(List.getElem?_eq_some_iff.1 h3).1;rw[cell_of_row w (μ o).b _ vs (μ o).e (0,0) k3];have:off*(μ o).sz+k<vs.size:=by rw[k4];omega
   simp[this]
  ·obtain⟨a',ha',hf⟩:=hg2 k y hk;exact hf c w I μ _ hs (k7 _ a' (hg k a' ha')).2
theorem M8 {H:Hp}:∀ {l:List A},l.all A.bare=true→G9 H l l
 |[],_=>trivial
 |a::l,h=>by
  simp only[List.all_cons,Bool.and_eq_true] at h;exact⟨Ad h.1,M8 h.2⟩
theorem tP {a:A} (h:a.bare1=true):a.bare=true:=by cases a<;>simp_all [A.bare1,A.bare,A.bare2]
theorem SG {H:Hp} {o:Nm} {u off len sz:Nat} {xs:List A} (ho:QJ H o u=some (sz,xs)) (hl:off+len≤xs.length) (hb:((xs.drop off).take len).all (fun x=>x.cells.length == sz&&x.cells.all fun y=>A.bare1 y&&y.one)=true):J3 H (.osl o u sz off len) (.sl false ((xs.drop off).take len)):=by
 simp only[List.all_eq_true,Bool.and_eq_true,beq_iff_eq] at hb;refine Jh ho hl (by simp;omega) (fun y hy=>(hb y hy).1) ?_ (M8 ?_)
 ·simp only[A.ones,List.all_eq_true];intro y hy;obtain⟨x,hx,hy⟩:=List.mem_flatMap.1 hy;exact((hb x hx).2 y hy).2
 ·simp only[List.all_eq_true];intro y hy;obtain⟨x,hx,hy⟩:=List.mem_flatMap.1 hy;exact tP ((hb x hx).2 y hy).1
theorem Cn {H:Hp} {cs cs':List A} (h:G9 H cs cs'):J3 H (.agg cs) (.agg cs'):=by
 intro c w I μ v hs hr;obtain⟨hl,hg⟩:=KG h;cases hr with
 |agg _ _ vs h1 h2=>
  refine .agg _ _ _ (by omega) fun k y hk=>?_;obtain⟨a,ha,hf⟩:=hg k y hk;exact hf c w I μ _ hs (h2 k a ha)
theorem J1 {H:Hp} {cs cs':List A} (h:G9 H cs cs'):J3 H (.tup cs) (.tup cs'):=by
 intro c w I μ v hs hr;obtain⟨hl,hg⟩:=KG h;cases hr with
 |tup _ _ vs h1 h2=>
  refine .tup _ _ _ (by omega) fun k y hk=>?_;obtain⟨a,ha,hf⟩:=hg k y hk;exact hf c w I μ _ hs (h2 k a ha)
theorem V0 {H:Hp} {o:Nm} {u:Nat} {cs cs':List A} (ho:X5 H o u=some cs) (h:G9 H cs cs') (h1:A.ones cs'=true):J3 H (.pob o u 0) (.pim cs'):=by
 intro c w I μ v hs hr;obtain⟨hl,hg⟩:=KG h;cases hr with
 |pob _ _ _ _ b k g1 g2 g3=>
  obtain⟨hu,vs,k2,k3,k4⟩:=hs.cells ho;obtain⟨rfl,rfl⟩:=g3 hu.symm;have hB:EA (μ o) (H o).ob=true:=by rw[(Uh ho).2];rfl
  refine .pim _ (μ o).b 0 _ (fun k=>vs.getD k undef) (Or.inr ⟨o,hB,rfl⟩) (fun k y hk=>?_) (fun k y hk=>?_) (fun k y hk=>?_)
  ·simp only[A.ones,List.all_eq_true] at h1;exact h1 y (List.mem_of_getElem? hk)
  ·rw[Nat.zero_add,cell_of_row w (μ o).b k vs (μ o).e (0,0) k2];have:k<vs.size:=by rw[k3,← hl];exact(List.getElem?_eq_some_iff.1 hk).1
   simp[this]
  ·obtain⟨a,ha,hf⟩:=hg k y hk;exact hf c w I μ _ hs (k4 k a ha).2
@[simp] theorem AeC {H:Hp}:G9 H [] []=True:=rfl
@[simp] theorem nL {H:Hp} {a a':A} {l l':List A}:G9 H (a::l) (a'::l')=(J3 H a a'∧G9 H l l'):=rfl
end Go.G
namespace Go.Proofs.YtbjmaoedheiigaaGreat
set_option maxRecDepth 20000
open Go Go.G Go.Proofs
theorem Ai:Tryz.prog.follows .mixedOrders=true:=by kernel_rfl
@[simp] theorem AiZ:DB Tryz.prog 3=some 1:=by kernel_rfl
@[simp] theorem Ai7:DB Tryz.prog 4=some 1:=by kernel_rfl
@[simp] theorem Ahy:DB Tryz.prog 175=some 8:=by kernel_rfl
@[simp] theorem AiH:DQ Tryz.prog 3=some false:=by kernel_rfl
@[simp] theorem Ain:DQ Tryz.prog 4=some false:=by kernel_rfl
@[simp] theorem Ac2:DQ Tryz.prog 175=some true:=by kernel_rfl
@[simp] theorem AbE:BU Tryz.prog 175=some (Value.agg #[Value.int i64 0,Value.int i64 0,Value.int i64 0,Value.int i64 0,Value.int i64 0,Value.int i64 0,Value.int i64 0,Value.bool false]):=by kernel_rfl
@[simp] theorem qA:An Tryz.prog 175 0=some 0:=by kernel_rfl
@[simp] theorem p9:An Tryz.prog 175 1=some 1:=by kernel_rfl
@[simp] theorem qB:An Tryz.prog 175 2=some 2:=by kernel_rfl
@[simp] theorem qb:An Tryz.prog 175 3=some 3:=by kernel_rfl
@[simp] theorem qe:An Tryz.prog 175 4=some 4:=by kernel_rfl
@[simp] theorem pV:An Tryz.prog 175 5=some 5:=by kernel_rfl
@[simp] theorem qv:An Tryz.prog 175 6=some 6:=by kernel_rfl
@[simp] theorem qG:An Tryz.prog 175 7=some 7:=by kernel_rfl
@[simp] theorem zO (ps:List (Nat × A)):Cc Tryz.prog 175 ps=(CI (fun i=>([(0,1),(1,1),(2,1),(3,1),(4,1),(5,1),(6,1),(7,1)]:List (Nat × Nat))[i]?) [A.v (Value.int i64 0),A.v (Value.int i64 0),A.v (Value.int i64 0),A.v (Value.int i64 0),A.v (Value.int i64 0),A.v (Value.int i64 0),A.v (Value.int i64 0),A.v (Value.bool false)] ps).map A.agg:=by kernel_rfl
@[simp] abbrev xT (n:Nat):Operand:=.tmp n
@[simp] abbrev nI (n:Int):Operand:=.const (.int .i64 n)
@[simp] abbrev cL (f:Nat) (xs:Array Operand) (ts:Array TypeId):Op:=.call { callee:=(.value (.func f)),args:=xs,argTypes:=ts }
@[simp] abbrev mV (n:Nat):Op:=.move (.tmp n)
@[simp] abbrev aS (n:Nat):Op:=.assign (.tmp n)
@[simp] abbrev lD (t n:Nat):Op:=.load t (.tmp n)
@[simp] abbrev fA (t n f:Nat):Op:=.fieldAddr t (.tmp n) f
@[simp] abbrev xR (n i:Nat):Op:=.extract (.tmp n) i
@[simp] abbrev oO (d:Nat) (o:Op):CO:=co (some d) o none
@[simp] abbrev oN (d:Nat) (o:Op) (nm:Nm):CO:=cn (some d) o none nm
@[simp] abbrev oS (o:Op):CO:=co none o none
@[simp] abbrev oG (d:Nat) (o:Op) (k:Nat) (b:Bool):CO:=co (some d) o (some (k,b))
@[simp] abbrev bC (b:Builtin) (xs:Array Operand) (ts:Array TypeId):Op:=.call { callee:=(.builtin b),args:=xs,argTypes:=ts }
@[simp] abbrev bL (n t:Nat):Op:=.call { callee:=(.builtin .len),args:=#[.tmp n],argTypes:=#[t] }
@[simp] abbrev bO (o:BinOp) (t a b u:Nat):Op:=.binOp o t (.tmp a) (.tmp b) u
@[simp] abbrev iA (t a b:Nat):Op:=.indexAddr t (.tmp a) (.tmp b)
@[simp] abbrev nB (b:Bool):Operand:=.const (.bool b)
@[simp] abbrev nS:Operand:=.const (.slice none 0 0)
@[simp] abbrev mO (d n:Nat):CO:=co (some d) (.move (.tmp n)) none
@[simp] abbrev aO (d n:Nat):CO:=co (some d) (.assign (.tmp n)) none
@[simp] abbrev lO (d t n:Nat):CO:=co (some d) (.load t (.tmp n)) none
@[simp] abbrev fO (d t n f:Nat):CO:=co (some d) (.fieldAddr t (.tmp n) f) none
@[simp] abbrev xO (d n i:Nat):CO:=co (some d) (.extract (.tmp n) i) none
def Aa2:Nat→List CO→List (Nat × Nm)
 |_,[]=>[]
 |i,x::l=>if x.nm.isEmpty then Aa2 (i+1) l else (i,x.nm)::Aa2 (i+1) l
def SS:CC→List Mk
 |.reg a b=>[(b,Aa2 0 a)]
 |.seq x (.keep b (.stop y))=>SS x++(999997::b,[])::SS y
 |.seq x (.keep b y)=>SS x++(999999::b,[])::SS y
 |.seq x (.stop y)=>SS x++([999998],[])::SS y
 |.seq x y=>SS x++([],[])::SS y
 |.cond _ x y=>SS x++SS y
 |.block _ x=>SS x
 |.loop x=>SS x
 |.scope x=>SS x
 |_=>[]
@[simp] abbrev sR (a:List CO) (b:List Nat) (k:CC):CC:=.seq (.reg a b) k
@[simp] abbrev cD (n:Nat) (a b:CC):CC:=.cond (.tmp n) a b
@[simp] abbrev sT (t a b:Nat):CO:=co none (.store t (.tmp a) (.tmp b)) none
@[simp] abbrev bQ (o:BinOp) (d t a:Nat) (n:Int) (u:Nat):CO:=co (some d) (.binOp o t (.tmp a) (.const (.int .i64 n)) u) none
@[simp] abbrev bB (o:BinOp) (d t a b u:Nat):CO:=co (some d) (.binOp o t (.tmp a) (.tmp b) u) none
@[simp] abbrev aI (d:Nat) (n:Int):CO:=co (some d) (.assign (.const (.int .i64 n))) none
@[simp] abbrev aP (d a b t u:Nat) (m:Nm):CO:=cn (some d) (.call { callee:=(.builtin .append),args:=#[.tmp a,.tmp b],argTypes:=#[t,u] }) none m
@[simp] abbrev pF (d a b:Nat):CO:=co (some d) (.pick (.tmp a) (.tmp b) (.const (.bool false))) none
@[simp] abbrev pT (d a b:Nat):CO:=co (some d) (.pick (.tmp a) (.const (.bool true)) (.tmp b)) none
@[simp] abbrev cA (d f a t:Nat):CO:=co (some d) (.call { callee:=(.value (.func f)),args:=#[.tmp a],argTypes:=#[t] }) none
@[simp] abbrev cB (d f a b t u:Nat):CO:=co (some d) (.call { callee:=(.value (.func f)),args:=#[.tmp a,.tmp b],argTypes:=#[t,u] }) none
@[simp] abbrev cE (d f a b e t u v:Nat):CO:=co (some d) (.call { callee:=(.value (.func f)),args:=#[.tmp a,.tmp b,.tmp e],argTypes:=#[t,u,v] }) none
@[simp] abbrev bX (d t a:Nat) (m:Nm):CO:=cn (some d) (.box t (.tmp a)) none m
@[simp] abbrev aL (d t:Nat) (m:Nm):CO:=cn (some d) (.alloc t) none m
@[simp] abbrev mG (d a k:Nat) (b:Bool):CO:=co (some d) (.move (.tmp a)) (some (k,b))
@[simp] abbrev lG (d t a k:Nat) (b:Bool):CO:=co (some d) (.load t (.tmp a)) (some (k,b))
@[simp] abbrev fG (d t a f k:Nat) (b:Bool):CO:=co (some d) (.fieldAddr t (.tmp a) f) (some (k,b))
@[simp] abbrev iO (d t a b:Nat):CO:=co (some d) (.indexAddr t (.tmp a) (.tmp b)) none
@[simp] abbrev bN (d n t:Nat):CO:=co (some d) (.call { callee:=(.builtin .len),args:=#[.tmp n],argTypes:=#[t] }) none
@[simp] abbrev nC (d a:Nat):CO:=co (some d) (.nilCheck (.tmp a)) none
@[simp] abbrev aB (d:Nat) (b:Bool):CO:=co (some d) (.assign (.const (.bool b))) none
@[simp] abbrev aN (d:Nat):CO:=co (some d) (.assign (.const (.slice none 0 0))) none
@[simp] abbrev lS (d t a k:Nat):CO:=⟨some d,.load t (.tmp a),none,[],k,[],true⟩
@[simp] abbrev sQ (a:List CO) (l:List Nat) (k:CC) (m:List Nat) (n:CC):CC:=.seq (.seq (.reg a l) k) (.keep m n)
def S8:CC:=sR [aB 4 false] [0,1] (sR [mO 5 0,bQ .geq 6 3 5 0 3,mO 7 6,mG 8 0 7 true,mG 9 1 7 true,oG 10 (bO .leq 3 8 9 3) 7 true,pF 11 7 10,aO 4 11] [4] (.ret))
theorem Ap {f:FuncId} {fn:Func} {cc:CC} {rs:List ResultVar} {n:Nat} (hf:Tryz.prog.funcs[f]? = some fn) (hn:fn.ntmps=n:=by kernel_rfl) (hk:YO Tryz.prog f=true:=by kernel_rfl) (hb:fn.body=some (fn.body.getD .ret):=by kernel_rfl) (hrs:fn.results.toList=rs:=by kernel_rfl) (hc:K4 n (fn.body.getD .ret) (SS cc)=some (cc,[]):=by kernel_rfl):Ba Tryz.prog f n rs cc:=AaR Ai hk hf hb hn hrs hc
theorem bV:Ba Tryz.prog 225 12 [(.tmp 4)] S8:=Ap Tryz.func225
def SL:CC:=sR [aL 2 175 [0]] [0,2] (sR [mO 4 0,oO 5 (.convert 51 288 (xT 4)),oO 6 (.convert 288 21 (xT 5)),oO 7 (.convert 21 3 (xT 6)),oO 8 (.binOp .shr 3 (xT 7) (.const (.int .u64 2)) 269),aO 3 8] [0,2,3] (.seq (.block 0 (sR [mO 10 0,oO 11 (.binOp .eql 51 (xT 10) (.const (.int .u64 0)) 51),aO 9 11] [0,2,3,9] (cD 9 (sR [oO 12 (.build 175 #[]),sT 175 2 12] [2] (.ret)) (sR [mO 14 0,oO 15 (.binOp .and 51 (xT 14) (.const (.int .u64 3)) 51),oO 16 (.binOp .eql 51 (xT 15) (.const (.int .u64 0)) 51),aO 13 16] [0,2,3,13] (cD 13 (sR [mO 17 3,mO 18 0,oO 19 (.binOp .shr 51 (xT 18) (.const (.int .u64 32)) 269),oO 20 (.binOp .and 51 (xT 19) (.const (.int .u64 65535)) 51),oO 21 (.convert 51 3 (xT 20)),mO 22 0,oO 23 (.binOp .shr 51 (xT 22) (.const (.int .u64 48)) 269),oO 24 (.convert 51 3 (xT 23)),oO 25 (.build 175 #[(0,(nI 1)),(1,(xT 17)),(2,(xT 21)),(3,(xT 24))]),sT 175 2 25] [2] (.ret)) (sR [mO 27 0,oO 28 (.binOp .and 51 (xT 27) (.const (.int .u64 3)) 51),oO 29 (.binOp .eql 51 (xT 28) (.const (.int .u64 1)) 51),aO 26 29] [0,2,3,26] (cD 26 (sR [mO 30 3,mO 31 0,oO 32 (.binOp .shr 51 (xT 31) (.const (.int .u64 32)) 269),oO 33 (.binOp .and 51 (xT 32) (.const (.int .u64 7)) 51),oO 34 (.convert 51 3 (xT 33)),mO 35 0,oO 36 (.binOp .shr 51 (xT 35) (.const (.int .u64 35)) 269),oO 37 (.convert 51 3 (xT 36)),oO 38 (.build 175 #[(0,(nI 2)),(1,(xT 30)),(4,(xT 34)),(5,(xT 37))]),sT 175 2 38] [2] (.ret)) (sR [mO 40 0,oO 41 (.binOp .and 51 (xT 40) (.const (.int .u64 3)) 51),oO 42 (.binOp .eql 51 (xT 41) (.const (.int .u64 2)) 51),aO 39 42] [0,2,39] (cD 39 (sR [mO 43 0,oO 44 (.binOp .shr 51 (xT 43) (.const (.int .u64 3)) 269),oO 45 (.binOp .and 51 (xT 44) (.const (.int .u64 536870911)) 51),oO 46 (.convert 51 3 (xT 45)),mO 47 0,oO 48 (.binOp .shr 51 (xT 47) (.const (.int .u64 32)) 269),oO 49 (.convert 51 3 (xT 48)),mO 50 0,oO 51 (.binOp .and 51 (xT 50) (.const (.int .u64 4)) 51),oO 52 (.binOp .neq 51 (xT 51) (.const (.int .u64 0)) 51),oO 53 (.build 175 #[(0,(nI 3)),(1,(xT 46)),(6,(xT 49)),(7,(xT 52))]),sT 175 2 53] [2] (.ret)) (.skip)))))))))) (.keep [2] (sR [oO 54 (.build 175 #[(0,(nI 4))]),sT 175 2 54] [2] (.ret)))))
theorem a9:Ba Tryz.prog 204 55 [(.cell 2 175)] SL:=Ap Tryz.func204
end Go.Proofs.YtbjmaoedheiigaaGreat
namespace Go.Proofs.YtbjmaoedheiigaaGreat
open Go Go.G Go.Proofs
abbrev iv (n:Int):A:=.v (.int .i64 n)
abbrev uv (n:Int):A:=.v (.int .u64 n)
abbrev bv (b:Bool):A:=.v (.bool b)
theorem Vn (a b:Int):G.Spec Tryz.prog 225 [iv a,iv b] (bv (decide (0≤a)&&decide (a≤b))):=by
 refine Aj bV (by simp) fun w0 I0=>?_;unfold S8;simp;exact Ad rfl
theorem dc (w:Int) (m:Nat):w / 2 / 2 ^ m=w / 2 ^ (m+1):=by
 rw[Int.ediv_ediv_of_nonneg (by decide),Int.pow_succ,Int.mul_comm]
theorem Al {n:Int} (h0:-9223372036854775808≤n) (h1:n<9223372036854775808):i64.wrap n=n:=by rw[IntKind.wrap_i64];omega
theorem AP {n m:Int} (h0:-9223372036854775808 ≤ n:=by omega) (h1:n<9223372036854775808:=by omega) (h:n=m:=by omega):i64.wrap n=m:=by rw[Al h0 h1];exact h
theorem Av (i:Nat) (h:i<9223372036854775807:=by omega):i64.wrap ((i:Int)+1)=((i+1:Nat):Int):=by rw[Al (by omega) (by omega)];omega
theorem BJ {n:Int} (h0:-9223372036854775808 ≤ n:=by omega) (h1:n<9223372036854775808:=by omega):i64.wrap n=n:=Al h0 h1
theorem AG {n:Int} (h0:0≤n) (h1:n<18446744073709551616):u64.wrap n=n:=by rw[IntKind.wrap_u64];omega
structure Pt where
 (kind off data ptrs code count seg:Int)
 dbl:Bool
deriving DecidableEq
@[simp] def Pt.a (p:Pt):A:=.agg [iv p.kind,iv p.off,iv p.data,iv p.ptrs,iv p.code,iv p.count,iv p.seg,bv p.dbl]
def VP (w:Int):Int:=if w / 4 % 1073741824<536870912 then w / 4 % 1073741824 else w / 4 % 1073741824-1073741824
def Fz (w:Int):Pt:=
 if w=0 then ⟨0,0,0,0,0,0,0,false⟩
 else if w % 4=0 then ⟨1,VP w,w / 4294967296 % 65536,w / 281474976710656,0,0,0,false⟩
 else if w % 4=1 then ⟨2,VP w,0,0,w / 4294967296 % 8,w / 34359738368,0,false⟩
 else if w % 4=2 then ⟨3,w / 8 % 536870912,0,0,0,0,w / 4294967296,decide (w / 4 % 2=1)⟩
 else ⟨4,0,0,0,0,0,0,false⟩
theorem OI (i:Nat) (hi:i≤64) {x:Int} (h0:0≤x) (h1:x<18446744073709551616):bits .and .u64 x (2 ^ i-1)=x % 2 ^ i:=
 bits_mask .u64 64 (by decide) (fun n a b=>AG a b) i hi x h0 h1
theorem s8 {x:Int} (h0:0≤x) (h1:x<18446744073709551616):(bits .and .u64 x 4=0) ↔ x / 4 % 2=0:=by
 obtain⟨a,rfl⟩:=Int.eq_ofNat_of_zero_le h0;have h2:=bits_and_u64_nat a 4 (by omega) (by omega);have h3:bits .and .u64 (a:Int) 4=((a &&& 4:Nat):Int):=h2;rw[h3];have h4:a &&& 4=4*(a / 4 % 2):=by
  have e:a &&& 4=(a % 8) &&& 4:=by
   rw[show a % 8=a &&& 7 from(Nat.and_two_pow_sub_one_eq_mod a 3).symm,Nat.and_assoc];rfl
  have d:∀ r,r<8→r &&& 4=4*(r / 4 % 2):=by decide
  rw[e,d _ (by omega)];omega
 rw[h4];omega
theorem sk {w:Int}:(IntKind.i32.wrap (IntKind.u32.wrap w)) / 4=VP w:=by
 rw[IntKind.wrap_i32,IntKind.wrap_u32,VP];split<;>omega
theorem I8 {w:Int} (h0:0≤w) (h1:w<18446744073709551616):G.Spec Tryz.prog 204 [uv w] (Fz w).a:=by
 refine Aj a9 (by simp) fun w0 I0=>?_;unfold SL;simp[nD];have e3:bits .and .u64 w 3=w % 4:=OI 2 (by decide) h0 h1;have e1:i64.wrap (bits .and .u64 (w / 2 ^ min 32 u64.bits) 65535)=w / 4294967296 % 65536:=by
  rw[show w / 2 ^ min 32 u64.bits=w / 4294967296 from rfl,show bits .and .u64 (w / 4294967296) 65535=w / 4294967296 % 65536 from OI 16 (by decide) (by omega) (by omega)];exact Al (by omega) (by omega)
 have e2:i64.wrap (w / 2 ^ min 48 u64.bits)=w / 281474976710656:=by
  rw[show w / 2 ^ min 48 u64.bits=w / 281474976710656 from rfl];exact Al (by omega) (by omega)
 have e4:i64.wrap (bits .and .u64 (w / 2 ^ min 32 u64.bits) 7)=w / 4294967296 % 8:=by
  rw[show w / 2 ^ min 32 u64.bits=w / 4294967296 from rfl,show bits .and .u64 (w / 4294967296) 7=w / 4294967296 % 8 from OI 3 (by decide) (by omega) (by omega)];exact Al (by omega) (by omega)
 have e5:i64.wrap (w / 2 ^ min 35 u64.bits)=w / 34359738368:=by
  rw[show w / 2 ^ min 35 u64.bits=w / 34359738368 from rfl];exact Al (by omega) (by omega)
 have e6:i64.wrap (bits .and .u64 (w / 2 ^ min 3 u64.bits) 536870911)=w / 8 % 536870912:=by
  rw[show w / 2 ^ min 3 u64.bits=w / 8 from rfl,show bits .and .u64 (w / 8) 536870911=w / 8 % 536870912 from OI 29 (by decide) (by omega) (by omega)];exact Al (by omega) (by omega)
 have e7:i64.wrap (w / 2 ^ min 32 u64.bits)=w / 4294967296:=by
  rw[show w / 2 ^ min 32 u64.bits=w / 4294967296 from rfl];exact Al (by omega) (by omega)
 have e8:(!decide (bits .and .u64 w 4=0))=decide (w / 4 % 2=1):=by
  have:=s8 h0 h1;by_cases h:w / 4 % 2=1
  ·rw[decide_eq_true h,decide_eq_false (by rw[this];omega)];rfl
  ·rw[decide_eq_false h,decide_eq_true (by rw[this];omega)];rfl
 have e9:i64.wrap (IntKind.i32.wrap (IntKind.u32.wrap w)) / 2 ^ min 2 i64.bits=VP w:=by
  rw[← sk,IntKind.wrap_i32,Al (by omega) (by omega)];rfl
 rw[e1,e2,e3,e4,e5,e6,e7,e8,e9];refine⟨fun h=>?_,fun h=>⟨fun h2=>?_,fun h2=>⟨fun h3=>?_,fun h3=>⟨fun h4=>?_,fun h4=>?_⟩⟩⟩⟩
 ·subst h;exact Ad rfl
 ·rw[show Fz w=_ from(if_neg h).trans (if_pos h2)];exact Ad rfl
 ·rw[show Fz w=_ from(if_neg h).trans ((if_neg h2).trans (if_pos h3))];exact Ad rfl
 ·rw[show Fz w=_ from(if_neg h).trans ((if_neg h2).trans ((if_neg h3).trans (if_pos h4)))];exact Ad rfl
 ·rw[show Fz w=_ from(if_neg h).trans ((if_neg h2).trans ((if_neg h3).trans (if_neg h4)))];exact Ad rfl
theorem mf (w:Int):-536870912≤VP w∧VP w<536870912∧VP w*4 % 4294967296=w / 4 % 1073741824*4:=by
 unfold VP;split<;>omega
end Go.Proofs.YtbjmaoedheiigaaGreat
namespace Go.Proofs.YtbjmaoedheiigaaGreat
set_option maxRecDepth 20000
open Go Go.G Go.Proofs
@[simp] theorem Aji:DB Tryz.prog 5=some 1:=by kernel_rfl
@[simp] theorem AhP:DB Tryz.prog 51=some 1:=by kernel_rfl
@[simp] theorem Ahd:DB Tryz.prog 249=some 8:=by kernel_rfl
@[simp] theorem AhG:DB Tryz.prog 270=some 6:=by kernel_rfl
@[simp] theorem Ah3:DQ Tryz.prog 5=some false:=by kernel_rfl
@[simp] theorem Agu:DQ Tryz.prog 51=some false:=by kernel_rfl
@[simp] theorem AcS:DQ Tryz.prog 249=some true:=by kernel_rfl
@[simp] theorem AcO:BU Tryz.prog 51=some (Value.int u64 0):=by kernel_rfl
@[simp] theorem Abk:BU Tryz.prog 249=some (Value.agg #[Value.int IntKind.u8 0,Value.int IntKind.u8 0,Value.int IntKind.u8 0,Value.int IntKind.u8 0,Value.int IntKind.u8 0,Value.int IntKind.u8 0,Value.int IntKind.u8 0,Value.int IntKind.u8 0]):=by kernel_rfl
@[simp] theorem Ab0:BU Tryz.prog 270=some (Value.agg #[Value.int i64 0,Value.int i64 0,Value.int i64 0,Value.int i64 0,Value.int i64 0,Value.int i64 0]):=by kernel_rfl
@[simp] theorem Abn:Co Tryz.prog 51=some 8:=by kernel_rfl
@[simp] theorem AaW (ps:List (Nat × A)):Cc Tryz.prog 249 ps=(CI (fun i=>some (i*1,1)) [A.v (Value.int IntKind.u8 0),A.v (Value.int IntKind.u8 0),A.v (Value.int IntKind.u8 0),A.v (Value.int IntKind.u8 0),A.v (Value.int IntKind.u8 0),A.v (Value.int IntKind.u8 0),A.v (Value.int IntKind.u8 0),A.v (Value.int IntKind.u8 0)] ps).map A.agg:=by kernel_rfl
@[simp] theorem AaC (ps:List (Nat × A)):Cc Tryz.prog 270 ps=(CI (fun i=>some (i*1,1)) [A.v (Value.int i64 0),A.v (Value.int i64 0),A.v (Value.int i64 0),A.v (Value.int i64 0),A.v (Value.int i64 0),A.v (Value.int i64 0)] ps).map A.agg:=by kernel_rfl
def Kz:CC:=sR [aI 2 0] [0] (sQ [mO 3 0] [3] (.block 0 (sR [bQ .eql 5 3 3 0 3,aO 4 5] [3,4] (cD 4 (sR [aI 2 0] [2] (.ret)) (sR [bQ .eql 7 3 3 1 3,aO 6 7] [3,6] (cD 6 (sR [aI 2 1] [2] (.ret)) (sR [bQ .eql 9 3 3 2 3,aO 8 9] [3,8] (cD 8 (sR [aI 2 8] [2] (.ret)) (sR [bQ .eql 11 3 3 3 3,aO 10 11] [3,10] (cD 10 (sR [aI 2 16] [2] (.ret)) (sR [bQ .eql 13 3 3 4 3,aO 12 13] [3,12] (cD 12 (sR [aI 2 32] [2] (.ret)) (sR [bQ .eql 15 3 3 5 3,aO 14 15] [14] (cD 14 (sR [aI 2 64] [2] (.ret)) (.skip)))))))))))))) [] (sR [oO 2 (.assign (.const (.int .i64 (-1))))] [2] (.ret)))
theorem Rc:Ba Tryz.prog 109 16 [(.tmp 2)] Kz:=Ap Tryz.func109
def Fb:CC:=sQ [mO 11 6,mO 12 5,bB .lss 13 3 11 12 3] [1,5,6,13] (cD 13 (.skip) (.exit 0)) [1,5,6] (.seq (.block 1 (.reg [mO 16 1,oO 17 (.binOp .quo 51 (xT 16) (.const (.int .u64 2)) 51),aO 1 17] [1,5,6])) (.reg [mO 14 6,bQ .add 15 3 14 1 3,aO 6 15] [1,5,6])) 
def Ln:CC:=sR [aB 4 false] [0,1] (sR [mO 7 0,cA 8 109 7 3,aO 5 8] [1,5] (sQ [mO 9 5,bQ .lss 10 3 9 0 3] [1,5,10] (cD 10 (sR [aB 4 false] [4] (.ret)) (.skip)) [1,5] (sQ [aI 6 0] [1,5,6] (.block 0 (.loop Fb)) [1] (sR [mO 18 1,oO 19 (.binOp .eql 51 (xT 18) (.const (.int .u64 0)) 51),aO 4 19] [4] (.ret)))))
theorem Tv:Ba Tryz.prog 57 20 [(.tmp 4)] Ln:=Ap Tryz.func57
def LP:CC:=sR [aI 4 0] [0,1] (sQ [mO 6 0,cA 7 109 6 3,bQ .lss 8 3 7 1 3,mO 9 8,mG 10 1 9 false,oG 11 (.binOp .lss 3 (xT 10) (nI 0) 3) 9 false,pT 12 9 11,mO 13 12,mG 14 1 13 false,oG 15 (.binOp .gtr 3 (xT 14) (nI 1099511627776) 3) 13 false,pT 16 13 15] [0,1,16] (cD 16 (sR [aI 4 0] [4] (.ret)) (.skip)) [0,1] (sR [mO 17 0,cA 18 109 17 3,oO 19 (.binOp .quo 3 (nI 64) (xT 18) 3),aO 5 19] [1,5] (sQ [mO 20 1,mO 21 5,bB .rem 22 3 20 21 3,bQ .gtr 23 3 22 0 3] [1,5,23] (cD 23 (sR [mO 24 1,mO 25 5,bB .quo 26 3 24 25 3,bQ .add 27 3 26 1 3,aO 4 27] [4] (.ret)) (.skip)) [1,5] (sR [mO 28 1,mO 29 5,bB .quo 30 3 28 29 3,aO 4 30] [4] (.ret)))))
theorem SF:Ba Tryz.prog 65 31 [(.tmp 4)] LP:=Ap Tryz.func65
def E4:CC:=sQ [mO 11 5,mO 12 0,bN 13 12 22,bB .lss 14 3 11 13 3] [0,1,5,14] (cD 14 (.skip) (.exit 0)) [0,1,5] (.seq (.block 1 (sR [mO 17 0,mO 18 5,iO 19 22 17 18,lO 20 51 19,mO 21 1,mO 22 5,iO 23 22 21 22,lO 24 51 23,bB .neq 25 51 20 24 51] [0,1,5,25] (cD 25 (sR [aB 4 false] [4] (.ret)) (.skip)))) (.keep [0,1,5] (.reg [mO 15 5,bQ .add 16 3 15 1 3,aO 5 16] [0,1,5]))) 
def LN:CC:=sR [aB 4 false] [0,1] (sQ [mO 6 0,bN 7 6 22,mO 8 1,bN 9 8 22,bB .neq 10 3 7 9 3] [0,1,10] (cD 10 (sR [aB 4 false] [4] (.ret)) (.skip)) [0,1] (sQ [aI 5 0] [0,1,5] (.block 0 (.loop E4)) [] (sR [aB 4 true] [4] (.ret))))
theorem So:Ba Tryz.prog 38 26 [(.tmp 4)] LN:=Ap Tryz.func38
def Es:CC:=sQ [mO 6 4,bQ .lss 7 3 6 8 3] [0,2,3,4,7] (cD 7 (.skip) (.exit 0)) [0,2,3,4] (.seq (.block 1 (sR [mO 10 4,mO 11 0,oO 12 (.binOp .rem 51 (xT 11) (.const (.int .u64 256)) 51),oO 13 (.convert 51 5 (xT 12)),iO 14 249 3 10,sT 5 14 13] [0,2,3,4] (.reg [mO 15 0,oO 16 (.binOp .quo 51 (xT 15) (.const (.int .u64 256)) 51),aO 0 16] [0,2,3,4]))) (.reg [mO 8 4,bQ .add 9 3 8 1 3,aO 4 9] [0,2,3,4])) 
def KS:CC:=sR [aL 2 249 [0]] [0,2] (sR [oO 5 (.build 249 #[]),aL 3 249 [1],sT 249 3 5] [0,2,3] (sQ [aI 4 0] [0,2,3,4] (.block 0 (.loop Es)) [2,3] (sR [lO 17 249 3,sT 249 2 17] [2] (.ret))))
theorem QW:Ba Tryz.prog 208 18 [(.cell 2 249)] KS:=Ap Tryz.func208
def Ep:CC:=sQ [mO 6 5,mO 7 1,bB .lss 8 3 6 7 3] [0,1,5,8] (cD 8 (.skip) (.exit 0)) [0,1,5] (.seq (.block 1 (.reg [mO 11 0,oO 12 (.binOp .quo 5 (xT 11) (.const (.int .u8 2)) 5),aO 0 12] [0,1,5])) (.reg [mO 9 5,bQ .add 10 3 9 1 3,aO 5 10] [0,1,5])) 
def Kq:CC:=sR [aB 4 false] [0,1] (sQ [aI 5 0] [0,1,5] (.block 0 (.loop Ep)) [0] (sR [mO 13 0,oO 14 (.binOp .rem 5 (xT 13) (.const (.int .u8 2)) 5),oO 15 (.binOp .eql 5 (xT 14) (.const (.int .u8 1)) 5),aO 4 15] [4] (.ret)))
theorem RE:Ba Tryz.prog 209 16 [(.tmp 4)] Kq:=Ap Tryz.func209
def Gg:CC:=sQ [mO 7 6,bQ .geq 8 3 7 0 3] [0,1,5,6,8] (cD 8 (.skip) (.exit 0)) [0,1,5,6] (.seq (.block 1 (.reg [mO 11 5,oO 12 (.binOp .mul 51 (xT 11) (.const (.int .u64 256)) 51),mO 13 0,mO 14 1,mO 15 6,bB .add 16 3 14 15 3,iO 17 253 13 16,lO 18 5 17,oO 19 (.convert 5 51 (xT 18)),bB .add 20 51 12 19 51,aO 5 20] [0,1,5,6])) (.reg [mO 9 6,bQ .sub 10 3 9 1 3,aO 6 10] [0,1,5,6])) 
def N4:CC:=sR [oO 4 (.assign (.const (.int .u64 0)))] [0,1] (sR [oO 5 (.assign (.const (.int .u64 0)))] [0,1,5] (sQ [aI 6 7] [0,1,5,6] (.block 0 (.loop Gg)) [5] (sR [mO 21 5,aO 4 21] [4] (.ret))))
theorem VN:Ba Tryz.prog 210 22 [(.tmp 4)] N4:=Ap Tryz.func210
def Fs:CC:=sQ [mO 14 9,bQ .lss 15 3 14 8 3] [2,7,8,9,15] (cD 15 (.skip) (.exit 0)) [2,7,8,9] (.seq (.block 1 (sR [mO 18 2,mO 19 9,cB 20 209 18 19 5 3] [2,7,8,9,20] (cD 20 (.reg [mO 21 9,mO 22 9,iO 23 249 8 22,lO 24 5 23,iO 25 249 7 21,sT 5 25 24] [2,7,8,9]) (.skip)))) (.keep [2,7,8,9] (.reg [mO 16 9,bQ .add 17 3 16 1 3,aO 9 17] [2,7,8,9]))) 
def MI:CC:=sR [oO 6 (.assign (.const (.int .u64 0)))] [0,1,2] (sR [mO 10 0,cA 11 208 10 51,mO 12 1,cA 13 208 12 51,aL 7 249 [0],aL 8 249 [1],sT 249 7 11,sT 249 8 13] [2,7,8] (sQ [aI 9 0] [2,7,8,9] (.block 0 (.loop Fs)) [7] (.stop (sR [oO 26 (.slice 249 (xT 7) none none none),oO 27 (cL 210 #[(xT 26),(nI 0)] #[253,3]),aO 6 27] [6] (.ret)))))
theorem TN:Ba Tryz.prog 163 28 [(.tmp 6)] MI:=Ap Tryz.func163
def Tz:CC:=sR [aI 2 0,aB 3 false] [0] (sR [oO 5 (.build 270 #[(0,(nI 0)),(1,(nI 1)),(2,(nI 8)),(3,(nI 16)),(4,(nI 32)),(5,(nI 64))]),aL 4 270 [0],sT 270 4 5] [0,4] (sQ [mO 6 0,bQ .lss 7 3 6 0 3,mO 8 7,mG 9 0 8 false,oG 10 (.binOp .geq 3 (xT 9) (nI 6) 3) 8 false,pT 11 8 10] [0,4,11] (cD 11 (sR [aI 2 0,aB 3 false] [2,3] (.ret)) (.skip)) [0,4] (sR [mO 12 0,iO 13 270 4 12,lO 14 3 13,aO 2 14,aB 3 true] [2,3] (.ret))))
theorem aq:Ba Tryz.prog 185 15 [(.tmp 2),(.tmp 3)] Tz:=Ap Tryz.func185
def Tr:CC:=sR [aI 2 0,aB 3 false] [0] (sR [mO 4 0,cA 5 185 4 3,xO 6 5 0,xO 7 5 1,aO 2 6,aO 3 7] [2,3] (.ret))
theorem cb:Ba Tryz.prog 254 8 [(.tmp 2),(.tmp 3)] Tr:=Ap Tryz.func254
def Xu:CC:=sR [oO 6 (.assign (.const (.int .u64 0)))] [0,1,2] (sR [mO 11 1,cA 12 185 11 3,mO 10 12,xO 13 10 0,xO 14 10 1,aO 7 13,aO 8 14] [0,2,7,8] (sQ [mO 15 8,oO 16 (.unOp .not 4 (xT 15)),mO 17 16,mG 18 7 17 false,oG 19 (.binOp .eql 3 (xT 18) (nI 0) 3) 17 false,pT 20 17 19,mO 21 20,mG 22 2 21 false,oG 23 (.binOp .lss 3 (xT 22) (nI 0) 3) 21 false,pT 24 21 23,mO 25 24,mG 26 2 25 false,oG 27 (.binOp .gtr 3 (xT 26) (nI 1099511627776) 3) 25 false,pT 28 25 27,mO 29 28,mG 30 2 29 false,mG 31 7 29 false,oG 32 (bO .mul 3 30 31 3) 29 false,oG 33 (.binOp .quo 3 (xT 32) (nI 64) 3) 29 false,mG 34 0 29 false,oG 35 (bL 34 22) 29 false,oG 36 (bO .geq 3 33 35 3) 29 false,pT 37 29 36] [0,2,7,37] (cD 37 (sR [oO 6 (.assign (.const (.int .u64 0)))] [6] (.ret)) (.skip)) [0,2,7] (sR [mO 38 0,mO 39 2,mO 40 7,bB .mul 41 3 39 40 3,bQ .quo 42 3 41 64 3,iO 43 22 38 42,lO 44 51 43,mO 45 2,mO 46 7,bB .mul 47 3 45 46 3,bQ .rem 48 3 47 64 3,bB .shr 49 51 44 48 3,aO 9 49] [7,9] (sQ [mO 50 7,bQ .eql 51 3 50 64 3] [7,9,51] (cD 51 (sR [mO 52 9,aO 6 52] [6] (.ret)) (.skip)) [7,9] (sR [mO 53 9,mO 54 7,oO 55 (.binOp .shl 51 (.const (.int .u64 1)) (xT 54) 3),oO 56 (.binOp .sub 51 (xT 55) (.const (.int .u64 1)) 51),bB .and 57 51 53 56 51,aO 6 57] [6] (.ret))))))
theorem iV:Ba Tryz.prog 255 58 [(.tmp 6)] Xu:=Ap Tryz.func255
def E8:CC:=sQ [mO 7 3,bQ .gtr 8 3 7 0 3,mO 9 8,mG 10 0 9 true,mG 11 3 9 true,oG 12 (.binOp .sub 3 (xT 11) (nI 1) 3) 9 true,oG 13 (iA 22 10 12) 9 true,lG 14 51 13 9 true,oG 15 (.binOp .eql 51 (xT 14) (.const (.int .u64 0)) 51) 9 true,pF 16 9 15] [0,3,16] (cD 16 (.skip) (.exit 0)) [0,3] (.block 1 (.reg [mO 17 3,bQ .sub 18 3 17 1 3,aO 3 18] [0,3])) 
def LV:CC:=sR [aN 2] [0] (sR [mO 5 0,bN 6 5 22,aO 3 6] [0,3] (.seq (.block 0 (.loop E8)) (.keep [0,3] (sR [aN 4] [0,3,4] (sR [mO 19 4,mO 20 0,mO 21 3,oO 22 (.slice 22 (xT 20) none (some (xT 21)) none),aP 23 19 22 22 22 [0],aO 2 23] [2] (.ret))))))
theorem RY:Ba Tryz.prog 64 24 [(.tmp 2)] LV:=Ap Tryz.func64
@[simp] theorem AiN:DB Tryz.prog 22=some 1:=by kernel_rfl
@[simp] theorem Ah6:DB Tryz.prog 41=some 1:=by kernel_rfl
@[simp] theorem AgI:DB Tryz.prog 198=some 10:=by kernel_rfl
@[simp] theorem AfX:DB Tryz.prog 327=some 7:=by kernel_rfl
@[simp] theorem Af8:DQ Tryz.prog 22=some false:=by kernel_rfl
@[simp] theorem Agz:DQ Tryz.prog 41=some false:=by kernel_rfl
@[simp] theorem Ad7:DQ Tryz.prog 198=some true:=by kernel_rfl
@[simp] theorem AcR:BU Tryz.prog 22=some (Value.slice none 0 0):=by kernel_rfl
@[simp] theorem Acq:BU Tryz.prog 198=some (Value.agg #[Value.int i64 0,Value.int i64 0,Value.int i64 0,Value.int i64 0,Value.int i64 0,Value.int i64 0,Value.int i64 0,Value.bool false,Value.int i64 0,Value.int i64 0]):=by kernel_rfl
@[simp] theorem Aci:BU Tryz.prog 327=some (Value.agg #[Value.int i64 0,Value.int i64 0,Value.int i64 0,Value.int i64 0,Value.int i64 0,Value.int i64 0,Value.int i64 0]):=by kernel_rfl
@[simp] theorem Acf:Co Tryz.prog 22=some 24:=by kernel_rfl
@[simp] theorem pX:An Tryz.prog 133 0=some 0:=by kernel_rfl
@[simp] theorem qD:An Tryz.prog 198 0=some 0:=by kernel_rfl
@[simp] theorem qy:An Tryz.prog 198 1=some 8:=by kernel_rfl
@[simp] theorem qh:An Tryz.prog 198 2=some 9:=by kernel_rfl
@[simp] theorem zj (ps:List (Nat × A)):Cc Tryz.prog 133 ps=(CI (fun i=>([(0,1),(1,1),(2,1),(3,1)]:List (Nat × Nat))[i]?) [A.sl true [],A.v (Value.int i64 0),A.v (Value.int i64 0),A.v (Value.int i64 0)] ps).map A.agg:=by kernel_rfl
@[simp] theorem AaK (ps:List (Nat × A)):Cc Tryz.prog 198 ps=(CI (fun i=>([(0,8),(8,1),(9,1)]:List (Nat × Nat))[i]?) [A.v (Value.int i64 0),A.v (Value.int i64 0),A.v (Value.int i64 0),A.v (Value.int i64 0),A.v (Value.int i64 0),A.v (Value.int i64 0),A.v (Value.int i64 0),A.v (Value.bool false),A.v (Value.int i64 0),A.v (Value.int i64 0)] ps).map A.agg:=by kernel_rfl
@[simp] theorem Aao (ps:List (Nat × A)):Cc Tryz.prog 327 ps=(CI (fun i=>some (i*1,1)) [A.v (Value.int i64 0),A.v (Value.int i64 0),A.v (Value.int i64 0),A.v (Value.int i64 0),A.v (Value.int i64 0),A.v (Value.int i64 0),A.v (Value.int i64 0)] ps).map A.agg:=by kernel_rfl
def Cg:CC:=sR [aN 2] [0] (sQ [mO 3 0,oO 4 (.binOp .eql 22 (xT 3) nS 22)] [0,4] (cD 4 (sR [aN 2] [2] (.ret)) (.skip)) [0] (sR [oO 5 (.buildSlice 22 0 #[]),mO 6 0,aP 7 5 6 22 22 [0],aO 2 7] [2] (.ret)))
theorem Da:Ba Tryz.prog 63 8 [(.tmp 2)] Cg:=Ap Tryz.func63
def Lw:CC:=sR [bB .lss 11 3 10 9 3] [3,8,9,10,11] (.seq (cD 11 (.skip) (.exit 0)) (.keep [3,8,9,10] (.seq (.block 1 (sR [iO 12 41 8 10,lO 13 22 12,aO 5 13] [3,5,8,9,10] (.reg [mO 14 3,mO 15 3,nC 16 15,fO 17 133 16 0,lS 18 41 17 4,mO 19 5,⟨some 20,(cL 63 #[(xT 19)] #[22]),none,[],6,[4],false⟩,⟨some 21,(.buildSlice 41 1 #[(0,(xT 20))]),none,[],7,[4],false⟩,aP 22 18 21 41 41 [1],nC 23 14,fO 24 133 23 0,sT 41 24 22] [3,8,9,10]))) (.reg [bQ .add 25 3 10 1 3,mO 10 25] [3,8,9,10])))) 
def Wt:CC:=sR [oO 2 (.assign (.const (.pointer none)))] [0] (sR [oO 6 (.build 133 #[]),bX 7 133 6 [0],aO 3 7] [0,3] (sQ [mO 8 0,bN 9 8 41,oO 10 (.move (nI 0))] [3,8,9,10] (.block 0 (.loop Lw)) [3] (sR [mO 26 3,aO 2 26] [2] (.ret))))
theorem ku:Ba Tryz.prog 43 27 [(.tmp 2)] Wt:=Ap Tryz.func43
def LG:CC:=sR [aI 2 0] [0] (sQ [mO 3 0,oO 4 (.binOp .eql 50 (xT 3) (.const (.pointer none)) 50)] [0,4] (cD 4 (sR [aI 2 0] [2] (.ret)) (.skip)) [0] (sR [mO 5 0,nC 6 5,fO 7 133 6 0,lO 8 41 7,bN 9 8 41,aO 2 9] [2] (.ret)))
theorem Su:Ba Tryz.prog 257 10 [(.tmp 2)] LG:=Ap Tryz.func257
def KO:CC:=sR [aI 4 0] [0,1] (sQ [mO 5 1,bQ .lss 6 3 5 0 3,mO 7 6,mG 8 1 7 false,mG 9 0 7 false,oG 10 (cL 257 #[(xT 9)] #[50]) 7 false,oG 11 (bO .geq 3 8 10 3) 7 false,pT 12 7 11] [0,1,12] (cD 12 (sR [aI 4 0] [4] (.ret)) (.skip)) [0,1] (sR [mO 13 0,nC 14 13,fO 15 133 14 0,lO 16 41 15,mO 17 1,iO 18 41 16 17,lO 19 22 18,bN 20 19 22,aO 4 20] [4] (.ret)))
theorem Q6:Ba Tryz.prog 256 21 [(.tmp 4)] KO:=Ap Tryz.func256
def Ly:CC:=sR [aB 8 false] [0,1,2,3] (sR [mO 10 0,mO 11 1,cB 12 256 10 11 50 3,aO 9 12] [0,1,2,3,9] (sR [mO 13 1,bQ .geq 14 3 13 0 3,mO 15 14,mG 16 1 15 true,mG 17 0 15 true,oG 18 (cL 257 #[(xT 17)] #[50]) 15 true,oG 19 (bO .lss 3 16 18 3) 15 true,pF 20 15 19,mO 21 20,mG 22 2 21 true,oG 23 (.binOp .geq 3 (xT 22) (nI 0) 3) 21 true,pF 24 21 23,mO 25 24,mG 26 3 25 true,oG 27 (.binOp .geq 3 (xT 26) (nI 0) 3) 25 true,pF 28 25 27,mO 29 28,mG 30 3 29 true,mG 31 9 29 true,oG 32 (bO .leq 3 30 31 3) 29 true,pF 33 29 32,mO 34 33,mG 35 2 34 true,mG 36 9 34 true,mG 37 3 34 true,oG 38 (bO .sub 3 36 37 3) 34 true,oG 39 (bO .leq 3 35 38 3) 34 true,pF 40 34 39,aO 8 40] [8] (.ret)))
theorem SW:Ba Tryz.prog 234 41 [(.tmp 8)] Ly:=Ap Tryz.func234
def Lh:CC:=sR [oO 6 (.assign (.const (.int .u64 0))),aB 7 false] [0,1,2] (sQ [mO 8 0,mO 9 1,mO 10 2,oO 11 (cL 234 #[(xT 8),(xT 9),(xT 10),(nI 1)] #[50,3,3,3]),oO 12 (.unOp .not 4 (xT 11))] [0,1,2,12] (cD 12 (sR [oO 6 (.assign (.const (.int .u64 0))),aB 7 false] [6,7] (.ret)) (.skip)) [0,1,2] (sR [mO 13 0,nC 14 13,fO 15 133 14 0,lO 16 41 15,mO 17 1,iO 18 41 16 17,lO 19 22 18,mO 20 2,iO 21 22 19 20,lO 22 51 21,aO 6 22,aB 7 true] [6,7] (.ret)))
theorem Sx:Ba Tryz.prog 198 23 [(.tmp 6),(.tmp 7)] Lh:=Ap Tryz.func198
def KK:CC:=sR [aN 8,aB 9 false] [0,1,2,3] (sQ [mO 10 0,mO 11 1,mO 12 2,mO 13 3,oO 14 (cL 234 #[(xT 10),(xT 11),(xT 12),(xT 13)] #[50,3,3,3]),oO 15 (.unOp .not 4 (xT 14))] [0,1,2,3,15] (cD 15 (sR [aN 8,aB 9 false] [8,9] (.ret)) (.skip)) [0,1,2,3] (sR [mO 16 0,nC 17 16,fO 18 133 17 0,lO 19 41 18,mO 20 1,iO 21 41 19 20,lO 22 22 21,mO 23 2,mO 24 2,mO 25 3,bB .add 26 3 24 25 3,oO 27 (.slice 22 (xT 22) (some (xT 23)) (some (xT 26)) none),cA 28 63 27 22,aO 8 28,aB 9 true] [8,9] (.ret)))
theorem Ro:Ba Tryz.prog 245 29 [(.tmp 8),(.tmp 9)] KK:=Ap Tryz.func245
def NV:CC:=sR [bX 1 175 0 [0],aI 2 0,aB 3 false] [1] (sR [oO 5 (.build 327 #[(0,(nI 0)),(1,(nI 1)),(2,(nI 8)),(3,(nI 16)),(4,(nI 32)),(5,(nI 64)),(6,(nI 64))]),aL 4 327 [1],sT 327 4 5] [1,4] (.seq (.block 0 (sR [fO 7 175 1 0,lO 8 3 7,bQ .eql 9 3 8 1 3,aO 6 9] [1,4,6] (cD 6 (sR [fO 10 175 1 2,lO 11 3 10,fO 12 175 1 3,lO 13 3 12,bB .add 14 3 11 13 3,aO 2 14,aB 3 true] [2,3] (.ret)) (sR [fO 16 175 1 0,lO 17 3 16,bQ .eql 18 3 17 2 3,mO 19 18,fG 20 175 1 4 19 true,lG 21 3 20 19 true,oG 22 (.binOp .eql 3 (xT 21) (nI 7) 3) 19 true,pF 23 19 22,aO 15 23] [1,4,15] (cD 15 (sR [fO 24 175 1 5,lO 25 3 24,bQ .add 26 3 25 1 3,aO 2 26,aB 3 true] [2,3] (.ret)) (sR [fO 28 175 1 0,lO 29 3 28,bQ .eql 30 3 29 2 3,mO 31 30,fG 32 175 1 4 31 true,lG 33 3 32 31 true,oG 34 (cL 225 #[(xT 33),(nI 6)] #[3,3]) 31 true,pF 35 31 34,mO 36 35,fG 37 175 1 5 36 true,lG 38 3 37 36 true,oG 39 (cL 225 #[(xT 38),(nI 536870911)] #[3,3]) 36 true,pF 40 36 39,aO 27 40] [1,4,27] (cD 27 (sR [fO 41 175 1 5,lO 42 3 41,fO 43 175 1 4,lO 44 3 43,iO 45 327 4 44,lO 46 3 45,bB .mul 47 3 42 46 3,bQ .add 48 3 47 63 3,bQ .quo 49 3 48 64 3,aO 2 49,aB 3 true] [2,3] (.ret)) (.skip)))))))) (.keep [] (sR [aI 2 0,aB 3 false] [2,3] (.ret)))))
theorem VR:Ba Tryz.prog 267 50 [(.tmp 2),(.tmp 3)] NV:=Ap Tryz.func267
def Te:CC:=sR [bX 3 198 1 [0],aL 4 198 [1],aI 5 0] [0,3,4] (sR [fO 9 198 3 0,lO 10 175 9,cA 11 267 10 175,mO 8 11,xO 12 8 0,xO 13 8 1,aO 6 12,aO 7 13] [0,3,4,6] (sQ [mO 14 0,fO 15 198 3 1,lO 16 3 15,fO 17 198 3 2,lO 18 3 17,mO 19 6,oO 20 (cL 234 #[(xT 14),(xT 16),(xT 18),(xT 19)] #[50,3,3,3]),oO 21 (.unOp .not 4 (xT 20))] [3,4,21] (cD 21 (sR [oO 22 (.build 198 #[]),sT 198 4 22,aI 5 7] [4,5] (.ret)) (.skip)) [3,4] (sR [fO 23 198 3 0,fO 24 175 23 1,oS (.store 3 (xT 24) (nI 0))] [3,4] (sR [lO 25 198 3,sT 198 4 25,aI 5 0] [4,5] (.ret)))))
theorem bg:Ba Tryz.prog 244 26 [(.cell 4 198),(.tmp 5)] Te:=Ap Tryz.func244
def Ou:CC:=cD 12 (sR [mO 15 0,lO 16 175 5,mO 17 2,mO 18 3,bQ .add 19 3 18 1 3,fO 20 175 5 1,lO 21 3 20,bB .add 22 3 19 21 3,oO 23 (.build 198 #[(0,(xT 16)),(1,(xT 17)),(2,(xT 22))]),cB 24 244 15 23 50 198,xO 25 24 0,xO 26 24 1,sT 198 8 25,aO 9 26] [8,9] (.ret)) (sR [bQ .eql 28 3 11 4 3,aO 27 28] [8,27] (cD 27 (sR [oO 29 (.build 198 #[]),sT 198 8 29,aI 9 9] [8,9] (.ret)) (.skip))) 
def XU:CC:=sR [bX 5 175 1 [0],aL 8 198 [1],aI 9 0] [0,2,3,5,8] (sQ [fO 10 175 5 0,lO 11 3 10] [0,2,3,5,8,11] (.block 0 (sQ [bQ .eql 13 3 11 1 3,aO 12 13] [0,2,3,5,8,11,12] (cD 12 (.skip) (.reg [bQ .eql 14 3 11 2 3,aO 12 14] [0,2,3,5,8,11,12])) [0,2,3,5,8,11,12] Ou)) [8] (sR [oO 30 (.build 198 #[]),sT 198 8 30,aI 9 8] [8,9] (.ret)))
theorem jJ:Ba Tryz.prog 205 31 [(.cell 8 198),(.tmp 9)] XU:=Ap Tryz.func205
def Tc:CC:=sR [aL 6 198 [0],aI 7 0] [0,1,2,6] (sR [mO 13 0,mO 14 1,mO 15 2,oO 16 (cL 245 #[(xT 13),(xT 14),(xT 15),(nI 2)] #[50,3,3,3]),mO 12 16,xO 17 12 0,xO 18 12 1,aO 8 17,aO 9 18] [0,6,8,9] (sQ [mO 19 9,oO 20 (.unOp .not 4 (xT 19))] [0,6,8,20] (cD 20 (sR [oO 21 (.build 198 #[]),sT 198 6 21,aI 7 7] [6,7] (.ret)) (.skip)) [0,6,8] (sR [mO 22 8,oO 23 (.indexAddr 22 (xT 22) (nI 0)),lS 24 51 23 2,⟨some 25,(cL 204 #[(xT 24)] #[51]),none,[],3,[],true⟩,mO 26 8,oO 27 (.indexAddr 22 (xT 26) (nI 1)),⟨some 28,(lD 51 27),none,[],6,[3],true⟩,⟨some 29,(cL 204 #[(xT 28)] #[51]),none,[],7,[],true⟩,⟨some 10,(.alloc 175),none,[1],8,[2,3,6,7],true⟩,⟨some 11,(.alloc 175),none,[2],9,[2,3,6,7,8],false⟩,sT 175 10 25,sT 175 11 29] [0,6,10,11] (.seq (.block 0 (sR [fO 31 175 10 0,lO 32 3 31,bQ .neq 33 3 32 3 3,mO 34 33,fG 35 175 10 7 34 false,lG 36 4 35 34 false,pT 37 34 36,aO 30 37] [0,6,10,11,30] (cD 30 (sR [oO 38 (.build 198 #[]),sT 198 6 38,aI 7 8] [6,7] (.ret)) (sR [fO 40 175 11 0,lO 41 3 40,bQ .eql 42 3 41 4 3,aO 39 42] [0,6,10,11,39] (cD 39 (sR [oO 43 (.build 198 #[]),sT 198 6 43,aI 7 9] [6,7] (.ret)) (sR [fO 45 175 11 0,lO 46 3 45,bQ .neq 47 3 46 1 3,mO 48 47,fG 49 175 11 0 48 true,lG 50 3 49 48 true,oG 51 (.binOp .neq 3 (xT 50) (nI 2) 3) 48 true,pF 52 48 51,mO 53 52,fG 54 175 11 1 53 false,lG 55 3 54 53 false,oG 56 (.binOp .neq 3 (xT 55) (nI 0) 3) 53 false,pT 57 53 56,aO 44 57] [0,6,10,11,44] (cD 44 (sR [oO 58 (.build 198 #[]),sT 198 6 58,aI 7 8] [6,7] (.ret)) (.skip)))))))) (.keep [0,6,10,11] (sR [mO 59 0,lO 60 175 11,fO 61 175 10 6,lO 62 3 61,fO 63 175 10 1,lO 64 3 63,oO 65 (.build 198 #[(0,(xT 60)),(1,(xT 62)),(2,(xT 64))]),cB 66 244 59 65 50 198,xO 67 66 0,xO 68 66 1,sT 198 6 67,aO 7 68] [6,7] (.ret)))))))
theorem cu:Ba Tryz.prog 206 69 [(.cell 6 198),(.tmp 7)] Tc:=Ap Tryz.func206
def Td:CC:=sR [aL 6 198 [0],aI 7 0] [0,1,2,6] (sR [mO 13 0,mO 14 1,mO 15 2,cE 16 198 13 14 15 50 3 3,mO 12 16,xO 17 12 0,xO 18 12 1,aO 8 17,aO 9 18] [0,1,2,6,8,9] (sQ [mO 19 9,oO 20 (.unOp .not 4 (xT 19))] [0,1,2,6,8,20] (cD 20 (sR [oO 21 (.build 198 #[]),sT 198 6 21,aI 7 7] [6,7] (.ret)) (.skip)) [0,1,2,6,8] (sR [mO 22 8,cA 23 204 22 51,aL 10 175 [1],sT 175 10 23] [0,1,2,6,10] (.seq (.block 0 (sR [fO 25 175 10 0,lO 26 3 25,bQ .eql 27 3 26 0 3,aO 24 27] [0,1,2,6,10,24] (cD 24 (sR [oO 28 (.build 198 #[]),sT 198 6 28,aI 7 0] [6,7] (.ret)) (sR [fO 30 175 10 0,lO 31 3 30,bQ .neq 32 3 31 3 3,aO 29 32] [0,1,2,6,10,29] (cD 29 (sR [mO 33 0,lO 34 175 10,mO 35 1,mO 36 2,oO 37 (cL 205 #[(xT 33),(xT 34),(xT 35),(xT 36)] #[50,175,3,3]),xO 38 37 0,xO 39 37 1,sT 198 6 38,aO 7 39] [6,7] (.ret)) (sR [fO 41 175 10 7,lO 42 4 41,aO 40 42] [0,6,10,40] (cD 40 (sR [mO 43 0,fO 44 175 10 6,lO 45 3 44,fO 46 175 10 1,lO 47 3 46,cE 48 206 43 45 47 50 3 3,xO 49 48 0,xO 50 48 1,sT 198 6 49,aO 7 50] [6,7] (.ret)) (.skip)))))))) (.keep [0,6,10] (sR [mO 52 0,fO 53 175 10 6,lO 54 3 53,fO 55 175 10 1,lO 56 3 55,cE 57 198 52 54 56 50 3 3,mO 51 57,xO 58 51 0,xO 59 51 1,aO 11 58,aO 9 59] [0,6,9,10,11] (sQ [mO 60 9,oO 61 (.unOp .not 4 (xT 60))] [0,6,10,11,61] (cD 61 (sR [oO 62 (.build 198 #[]),sT 198 6 62,aI 7 7] [6,7] (.ret)) (.skip)) [0,6,10,11] (sR [mO 63 0,mO 64 11,⟨some 65,(cL 204 #[(xT 64)] #[51]),none,[],2,[],true⟩,fO 66 175 10 6,⟨some 67,(lD 3 66),none,[],4,[2],false⟩,fO 68 175 10 1,⟨some 69,(lD 3 68),none,[],6,[2],false⟩,oO 70 (cL 205 #[(xT 63),(xT 65),(xT 67),(xT 69)] #[50,175,3,3]),xO 71 70 0,xO 72 70 1,sT 198 6 71,aO 7 72] [6,7] (.ret)))))))))
theorem ay:Ba Tryz.prog 157 73 [(.cell 6 198),(.tmp 7)] Td:=Ap Tryz.func157
end Go.Proofs.YtbjmaoedheiigaaGreat
namespace Go.G
open Go.RowKit
def VH (H:Hp) (a a':A):Prop:=∀ (c:Cx) (w:World) (I:Nat→Prop) (μ:Mu) (v:Value),Sim c w I μ H→Rel w I μ a v→Rel w (fun b=>dp H μ b) YN a' v
def AdD (P:Program) (rs:List ResultVar) (r:A):Exit→Sta→Prop:=pJ P rs fun r0 H=>VH H r0 r
theorem MZ {P:Program} {f:FuncId} {n:Nat} {rs:List ResultVar} {cc:CC} {args:List A} {r:A} (t:Ba P f n rs cc) (ha:args.length≤n) (h:∀ w0 I0,WPC (cx P w0 I0 n) cc (AdD P rs r) ⟨Rz args,H0⟩):SpecB P f args r:=by
 obtain⟨hm,hk,fn,code,hf,hb,hn,hrs,hc⟩:=t;refine⟨hk,fun w I J vs hI hJ htb hl hr=>?_⟩;have hIJ:∀ b,(I b∨J b)→b<w.heap.size:=fun b hb=>hb.elim (hI b) (hJ b);have h1:AWP (cx P w (fun b=>I b∨J b) n) code (pJ P fn.results.toList fun r0 H=>VH H r0 r) ⟨Rz args,H0⟩:=PH (c:=cx P w _ n) hm hc (by rw[hrs];exact h w _);refine(XV hf hb (c:=cx P w (fun b=>I b∨J b) n) rfl hn.symm hl (by omega) (ZW hIJ (htb.mono (fun _ h=>.inl h) (fun _ _=>rfl))) hr h1).mono fun e w' ⟨v,r0,H',I',μ',he,h1,h2,h3⟩=>⟨v,he,?_,?_⟩
 ·have k:=h1.kept;exact⟨k.os,k.tape,k.output,k.size,fun b hb=>k.block b hb (fun ⟨_,h⟩=>h)⟩
 ·refine(h3 _ w' I' μ' v h1 h2).mono0 (fun b hb=>?_) (fun _ _=>rfl);obtain⟨o,g1,rfl⟩:=hb;obtain⟨_,g4,g5⟩:=h1.own o g1;rcases g4 with g4 | g4
  ·exact g4.elim
  ·exact .inr ⟨g4,g5⟩
@[simp] theorem AfB {P:Program} {rs:List ResultVar} {r:A} {st:Sta}:AdD P rs r .ret st=Gt (O7 P st rs) fun r0=>VH st.H r0 r:=rfl
theorem py {H:Hp} {a:A} (h:a.flat=true):VH H a a:=fun c w I μ v hs hr=>hr.of_flat h
theorem tS {H:Hp} {f:Bool}:VH H (.sl f []) (.sl false []):=fun c w I μ v hs hr=>by
 cases hr with
 |slN _ _ a cap _=>exact .slN _ _ _ _ (fun h=>by cases h)
 |sl _ _ b off n cap sz _ g h1 h2=>
  have:n=0:=h2;subst this;exact .slN _ _ _ _ (fun h=>by cases h)
theorem SE {H:Hp} {o:Nm} {u off len sz:Nat} {xs:List A} (ho:QJ H o u=some (sz,xs)) (hl:off+len≤xs.length) (hb:((xs.drop off).take len).all (fun x=>x.cells.length == sz&&x.cells.all fun y=>A.flat1 y&&y.one)=true):VH H (.osl o u sz off len) (.sl false ((xs.drop off).take len)):=by
 simp only[List.all_eq_true,Bool.and_eq_true,beq_iff_eq] at hb;intro c w I μ v hs hr;have hlen:((xs.drop off).take len).length=len:=by simp;omega
 have hcell:∀ (k:Nat) (y:A),(((xs.drop off).take len).flatMap A.cells)[k]? = some y→y.flat1=true∧y.one=true:=fun k y hk=>by
  obtain⟨x,hx,hy⟩:=List.mem_flatMap.1 (List.mem_of_getElem? hk);exact(hb x hx).2 y hy
 cases hr with
 |osl _ _ _ _ _ _ a cap g1 g2 g4 g5 g3=>
  obtain⟨hu,k2,hrow⟩:=hs.row ho;obtain⟨_,hcur⟩:=g3 hu.symm;by_cases h0:len=0
  ·subst h0;simp only[List.take_zero];exact .slN _ _ _ _ (fun h=>by cases h)
  rcases hcur with ⟨e,_⟩ | ⟨p1,rfl,p3⟩
  ·exact(h0 e).elim
  rcases hrow with ⟨q1,_⟩ | ⟨q1,vs,k3,k4,k5,k6,k7⟩
  ·rw[p1] at q1;cases q1
  subst k2;have hB:EA (μ o) (H o).ob=true:=by rw[(Hk ho).2];exact q1
  have hg:∀ (k:Nat) (y:A),(((xs.drop off).take len).flatMap A.cells)[k]? = some y→(xs.flatMap A.cells)[off*(μ o).sz+k]? = some y:=fun k y hk=>EC k6 hk;refine .sl _ _ (μ o).b (off*(μ o).sz) _ _ (μ o).sz _ (fun k=>vs.getD (off*(μ o).sz+k) undef) ⟨o,hB,rfl⟩ hlen.symm (by omega) (fun h=>by cases h) (fun z hz=>k6 z (TK (Oh hz)))
   (fun k y hk=>(hcell k y hk).2) (fun k y hk=>?_) (fun k y hk=>(k7 _ y (hg k y hk)).2.of_flat1 (hcell k y hk).1)
  have h3:=hg k y hk;have h4:=BT k6;have h5:xs.length*(μ o).sz≤(μ o).cap*(μ o).sz:=Nat.mul_le_mul_right _ k5;have h6:=(List.getElem?_eq_some_iff.1 h3).1;rw[cell_of_row w (μ o).b _ vs (μ o).e (0,0) k3];have:off*(μ o).sz+k<vs.size:=by rw[k4];omega
  simp[this]
theorem oY {P:Program} {f:FuncId} {fl:Bool} {r:A} (h1:∀ cap,SpecB P f [.v (.slice none 0 cap)] r) (h2:∀ a cap,SpecB P f [.v (.slice (some a) 0 cap)] r):SpecB P f [.sl fl []] r:=by
 refine⟨(h1 0).1,fun w I J vs hI hJ htb hl hr=>?_⟩;have h:=hr 0 _ rfl;have go:∀ x,vs.getD 0 undef=x→∀ (k:Nat) (y:A),[A.v x][k]? = some y→Rel w (fun b=>I b∨J b) YN y (vs.getD k undef):=fun x hx k y hk=>by
  cases k with
  |zero=>cases hk;rw[hx];exact .v _ _
  |succ k=>simp at hk
 generalize hq:vs.getD 0 undef=x at h;cases h with
 |slN _ _ a cap _=>
  cases a with
  |none=>exact(h1 cap).2 w I J vs hI hJ htb hl (go _ hq)
  |some a=>exact(h2 a cap).2 w I J vs hI hJ htb hl (go _ hq)
 |sl _ _ b off n cap sz _ g k1 k2=>
  have:n=0:=k2;subst this;exact(h2 _ cap).2 w I J vs hI hJ htb hl (go _ hq)
theorem Zz {w:World} {I:Nat→Prop} {μ:Mu} {d:Nm} {u sz:Nat} {v:Value} (h1:Rel w I μ (.sl true []) v) (hu:(μ d).u=u) (h0:1≤u) (hz:(μ d).sz=sz):Rel w I μ (.osl d u sz 0 0) v:=by
 subst hu;cases h1 with
 |slN _ _ q cap hc=>
  have:=hc rfl;subst this;exact .osl _ _ _ _ _ _ _ _ h0 (BZ _) (BZ _) (fun h=>by omega) (fun _=>⟨hz,.inl ⟨rfl,rfl⟩⟩)
 |sl _ _ b off n cap z _ g h1 h2 h3 h4=>
  have h5:n=0:=h2;have h6:cap=0:=h4 rfl;subst h5 h6;exact .osl _ _ _ _ _ _ _ _ h0 (BZ _) (BZ _) (fun h=>by omega) (fun _=>⟨hz,.inl ⟨rfl,rfl⟩⟩)
theorem Bu {c:Cx} {s:Nat→A} {H:Hp} {d:Nm} {u:Nat} {cs:List A} (i:Nat) (d':Nm) (sz:Nat) (hd:H d=⟨u,.cells cs⟩) (hi:cs[i]? = some (.sl true [])) (hne:d ≠ d') :
  Le c ⟨s,H⟩ ⟨s,Ay (Ay H d' ⟨(H d').u+1,.arr sz []⟩) d ⟨u,.cells (cs.set i (.osl d' ((H d').u+1) sz 0 0))⟩⟩:=fun a w I μ hs=>by
 obtain⟨hx,hs'⟩:=hs.sim.upd (DR w none) d' ⟨(H d').u+1,false,0,0,sz,0⟩ (.arr sz []) (.inl rfl) (.inl (by rw[hs.sim.ver];exact Nat.lt_succ_self _)) (fun h=>nomatch h) (fun h=>nomatch h) (fun hx=>⟨rfl,.inl ⟨rfl,rfl⟩⟩);have hd1:(Ay H d' ⟨(H d').u+1,.arr sz []⟩:Hp) d=⟨u,.cells cs⟩:=by rw[AH hne];exact hd
 have hob:=hs'.ob d;rw[hd1] at hob;obtain⟨vs,k1,k2,k3⟩:=hob;have hB:EA (Ay μ d' ⟨(H d').u+1,false,0,0,sz,0⟩ d) ((Ay H d' ⟨(H d').u+1,.arr sz []⟩:Hp) d).ob=true:=by rw[hd1];rfl
 obtain⟨hx2,hs2⟩:=hs'.upd (DR w none) d (Ay μ d' ⟨(H d').u+1,false,0,0,sz,0⟩ d) (.cells (cs.set i (.osl d' ((H d').u+1) sz 0 0))) (.inl rfl) (.inr rfl) (fun _=>.inr ⟨hB,rfl⟩) (fun _=>hs'.tag _ hB) (fun hx2=>by
  refine⟨vs,k1,by simpa using k2,fun k y hk=>?_⟩;rw[Fi];by_cases hki:k=i
  ·subst hki;have hlt:k<cs.length:=(List.getElem?_eq_some_iff.1 hi).1;rw[List.getElem?_set_self hlt] at hk;cases hk;exact⟨rfl,Zz (k3 k _ hi).2 (by simp) (by omega) (by simp)⟩
  ·rw[List.getElem?_set_ne (Ne.symm hki)] at hk;exact k3 k y hk)
 have hu:(Ay μ d' ⟨(H d').u+1,false,0,0,sz,0⟩ d).u=u:=by rw[hs'.ver,hd1]
 rw[hu] at hs2;exact⟨I,_,hs2,hs.size,hs.defers,fun t=>hx2.rel (hx.rel (hs.rel t))⟩
def Part (H H':Hp):Prop:=∀ o,H' o=H o∨H' o=⟨(H o).u,.none⟩
theorem Part.has {H H':Hp} (h:Part H H') {L:yo} {o:Nm} (k:EA L (H' o).ob=true):EA L (H o).ob=true:=by
 rcases h o with e | e
 ·rw[← e];exact k
 ·rw[e] at k;cases k
theorem Part.ver {H H':Hp} (h:Part H H') (o:Nm):(H' o).u=(H o).u:=by rcases h o with e | e<;>rw[e]
theorem Sim.part {c:Cx} {w:World} {I:Nat→Prop} {μ:Mu} {H H':Hp} (hs:Sim c w I μ H) (h:Part H H'):Sim c w I μ H':=
 ⟨hs.kept,hs.lt,hs.old,hs.new,fun o=>by rw[h.ver,hs.ver],fun o=>by
  rcases h o with e | e
  ·rw[e];exact hs.ob o
  ·rw[e];trivial,fun o o' k k'=>hs.apart o o' (h.has k) (h.has k'),fun o k=>hs.own o (h.has k),hs.mle,fun o k=>hs.tag o (h.has k),hs.tab⟩
theorem Sim.freezeAll {c:Cx} {w:World} {I:Nat→Prop} {μ:Mu} {H H1 H2:Hp} (hs:Sim c w I μ H) (h1:Part H H1) (h2:Part H H2) (hd:∀ o,(H1 o).ob = .none∨(H2 o).ob = .none) (hM:∀ o b,(H1 o).ob ≠ .none→¬ c.M0 o b) :
  Sim c w (fun b=>I b∨dp H1 μ b) μ H2:=by
 have hx:Ext I μ w (fun b=>I b∨dp H1 μ b) μ w:=⟨fun b h=>.inl h,fun b h=>rfl,MuLe.refl _⟩;refine⟨hs.kept,fun b h=>?_,fun b h=>.inl (hs.old b h),fun b h=>?_,fun o=>by rw[h2.ver,hs.ver],fun o=>?_,fun o o' k k'=>hs.apart o o' (h2.has k) (h2.has k'),fun o k=>?_,hs.mle,fun o k=>hs.tag o (h2.has k),hs.tab.mono (fun _ h=>.inl h) (fun _ _=>rfl)⟩
 ·rcases h with h | ⟨o,k,rfl⟩
  ·exact hs.lt b h
  ·exact(hs.own o (h1.has k)).2.2
 ·rcases h with h | ⟨o,k,rfl⟩
  ·exact hs.new b h
  ·rcases (hs.own o (h1.has k)).2.1 with h | h
   ·exact(hM _ _ (fun e=>by rw[e] at k;cases k) h).elim
   ·exact .inr h
 ·rcases h2 o with e | e
  ·rw[e];exact OSim.keep hx (fun _=>rfl) (hs.ob o)
  ·rw[e];trivial
 ·obtain⟨k1,k2,k3⟩:=hs.own o (h2.has k);refine⟨fun hh=>?_,k2,k3⟩;rcases hh with hh | ⟨o',k',e⟩
  ·exact k1 hh
  ·refine hs.apart o o' (h2.has k) (h1.has k') (fun e=>?_) e.symm;subst e;rcases hd o with e | e
   ·rw[e] at k';cases k'
   ·rw[e] at k;cases k
theorem YX {c:Cx} {s:Nat→A} {H H1 H2:Hp} (hM:∀ o b,(H1 o).ob ≠ .none→¬ c.M0 o b) (t:Nat) (a:A) (h1:Part H H1) (h2:Part H H2) (hd:∀ o,(H1 o).ob = .none∨(H2 o).ob = .none) (hf:J3 H1 (s t) a):Le c ⟨s,H⟩ ⟨upd s t a,H2⟩:=fun x w I μ hs=>by
 have h3:=hs.sim.freezeAll h1 h2 hd hM;refine⟨_,μ,h3,hs.size,hs.defers,fun k=>?_⟩;show Rel w _ μ (upd s t a k) _;unfold upd;split
 ·rename_i e;subst e;exact(hf c w I μ _ (hs.sim.part h1) (hs.rel k)).ofI
 ·exact(hs.rel k).mono0 (fun b h=>.inl h) (fun _ _=>rfl)
theorem FW {c:Cx} {s:Nat→A} {H:Hp} {d:Nm} (hM:∀ b,¬ c.M0 d b) (t:Nat) (a:A) (hf:∀ H1:Hp,H1 d=H d→J3 H1 (s t) a):Le c ⟨s,H⟩ ⟨upd s t a,Ay H d ⟨(H d).u,.none⟩⟩:=by
 refine YX (fun o b h=>by
  by_cases e:o=d
  ·subst e;exact hM b
  ·exact absurd (by simp[e]) h) t a (H1:=fun o=>if o=d then H o else ⟨(H o).u,.none⟩) (fun o=>?_) (fun o=>?_) (fun o=>?_) (hf _ (by simp))
 ·by_cases h:o=d
  ·exact .inl (by simp[h])
  ·exact .inr (by simp[h])
 ·by_cases h:o=d
  ·subst h;exact .inr (by simp)
  ·exact .inl (AH h)
 ·by_cases h:o=d
  ·subst h;exact .inr (by simp)
  ·exact .inl (by simp[h])
end Go.G
namespace Go.Proofs.YtbjmaoedheiigaaGreat
open Go Go.G Go.Proofs
abbrev ws (l:List Int):A:=.sl false (l.map uv)
abbrev vK (l:List (List Int)):A:=.sl false (l.map ws)
@[simp] theorem AhA (l:List Int):Gh 1 (l.map uv)=true:=by simp[Gh]
theorem Ru (f:Bool) (l:List Int) (h:l.length*8≤140737488355328):SpecB Tryz.prog 63 [.sl f (l.map uv)] (ws l):=by
 cases l with
 |nil=>
  refine oY (fun cap=>?_) (fun a cap=>?_)
  ·refine MZ Da (by simp) fun w0 I0=>?_;unfold Cg;simp;exact tS
  ·refine MZ Da (by simp) fun w0 I0=>?_;unfold Cg;simp;exact SE (sz:=1) (xs:=[]) (by simp) (by simp) (by simp)
 |cons x l=>
  refine MZ Da (by simp) fun w0 I0=>?_;unfold Cg;simp at h ⊢;refine⟨h,?_⟩;have:=SE (H:=EH [([0],{ u:=1,ob:=Ob.arr 1 (uv x::l.map uv) })]) (o:=[0]) (u:=1) (off:=0) (len:=l.length+1) (sz:=1) (xs:=uv x::l.map uv) (by simp) (by simp) (by simp[A.flat1,AL]);simp[AL] at this;exact this
theorem xM {n:Nat} {w0:World} {I0:Nat→Prop} {Q:Exit→Sta→Prop} {l:List (List Int)} (hl:l.length*24≤140737488355328) (hb:∀ x,x ∈ l→x.length*8≤140737488355328):∀ (k i u:Nat),i+k=l.length →
  (∀ u',Q (.exit 0) ⟨lk [(3,.pob [0] 1 0),(8,vK l),(9,iv l.length),(10,iv l.length),(11,bv false)],EH [([0],⟨1,.cells [.osl [1] u' 1 0 l.length,iv 0,iv 0,iv 0]⟩),([1],⟨u',.arr 1 (l.map ws)⟩)]⟩) →
  LoopC (cx Tryz.prog w0 I0 n) Lw Q ⟨lk [(3,.pob [0] 1 0),(8,vK l),(9,iv l.length),(10,iv i)],EH [([0],⟨1,.cells [.osl [1] u 1 0 i,iv 0,iv 0,iv 0]⟩),([1],⟨u,.arr 1 ((l.map ws).take i)⟩)]⟩:=by
 intro k;induction k with
 |zero=>
  intro i u hi hq;have:i=l.length:=by omega
  subst this;refine Ab Ai Lw.eq_1 ?_;simp;simpa[AL] using hq u
 |succ k ih=>
  intro i u hi hq;have hlt:i<l.length:=by omega
  refine Ab Ai Lw.eq_1 ?_;simp[hlt];refine Ae (Ru false _ (hb _ (Bg _))).spec rfl ?_;simp;have h24:(i+1)*24≤140737488355328:=by omega
  refine⟨⟨by omega,h24⟩,?_⟩;rw[Al (by omega) (by omega)];have:=ih (i+1) (u+1) (by omega) hq;rw[Fm (by simpa using hlt)] at this;simpa[List.take_take] using this
abbrev x7 (l:List (List Int)) (z m u:Int):A:=.pim [vK l,iv z,iv m,iv u]
abbrev ql (l:List (List Int)):A:=x7 l 0 0 0
theorem xg {H:Hp} {o:Nm} {u n:Nat} {l:List (List Int)} (h:vr (H o) u=some (1,l.map ws)) (hn:n=l.length):J3 H (.osl o u 1 0 n) (vK l):=by
 subst hn;have:=SG (H:=H) (o:=o) (u:=u) (off:=0) (len:=l.length) (sz:=1) (xs:=l.map ws) (by simpa using h) (by simp) (by simp[AL]);simp[AL] at this;exact this
theorem xp (l:List (List Int)) (hl:l.length*24≤140737488355328) (hb:∀ x,x ∈ l→x.length*8≤140737488355328):G.Spec Tryz.prog 43 [vK l] (ql l):=by
 refine Aj ku (by simp) fun w0 I0=>?_;unfold Wt;simp;refine LoopC.le (Bu (d:=[0]) 0 [1] 1 rfl rfl (by simp)) ?_;simp;refine xM hl hb l.length 0 1 (by omega) (fun u'=>?_);simp;refine V0 (by simp;rfl) ?_ (by simp);simp;exact⟨xg (by simp) rfl,Ad rfl⟩
theorem ee {z m u:Int} (l:List (List Int)):G.Spec Tryz.prog 257 [x7 l z m u] (iv l.length):=by
 refine Aj Su (by simp) fun w0 I0=>?_;unfold LG;simp;exact Ad rfl
def seg (l:List (List Int)) (s:Int):Option (List Int):=if 0≤s then l[s.toNat]? else none
def szAt (l:List (List Int)) (s:Int):Nat:=((seg l s).map List.length).getD 0
theorem W9 {l:List (List Int)} {s:Int} (h0:0≤s) (h1:s<l.length):∃ h:s.toNat<l.length,seg l s=some l[s.toNat]:=by
 have:s.toNat<l.length:=by omega
 exact⟨this,by simp[seg,h0,this]⟩
theorem xP {l:List (List Int)} {s:Int} (h:s<0∨l.length≤s):seg l s=none:=by
 unfold seg;split
 ·rw[List.getElem?_eq_none_iff];omega
 ·rfl
theorem OC {l:List (List Int)} {s:Int} {g:List Int} (h:seg l s=some g):0≤s∧s<l.length∧∃ h:s.toNat<l.length,g=l[s.toNat]:=by
 unfold seg at h;split at h
 ·obtain⟨h1,h2⟩:=List.getElem?_eq_some_iff.1 h;exact⟨by assumption,by omega,h1,h2.symm⟩
 ·cases h
theorem nT {z m u:Int} (l:List (List Int)) (s:Int):G.Spec Tryz.prog 256 [x7 l z m u,iv s] (iv (szAt l s)):=by
 refine Aj Q6 (by simp) fun w0 I0=>?_;unfold KO;simp;refine B0 rfl (fun _=>ee (z:=z) (m:=m) (u:=u) l) (fun e=>by simp[e]) rfl ?_;simp;refine⟨fun h=>?_,fun h0 h1=>?_⟩
 ·rw[szAt,xP h];exact Ad rfl
 ·obtain⟨h2,e1⟩:=W9 h0 h1;simp[h0,h1,h2];rw[szAt,e1];exact CE rfl
def Im (l:List (List Int)) (s a n:Int):Bool:=decide (0≤s∧s<l.length∧0≤a∧0≤n∧a+n≤szAt l s)
theorem XI {z m u:Int} (l:List (List Int)) (hb:∀ x,x ∈ l→x.length*8≤140737488355328) (s a n:Int):G.Spec Tryz.prog 234 [x7 l z m u,iv s,iv a,iv n] (bv (Im l s a n)):=by
 have hz:szAt l s*8≤140737488355328:=by
  unfold szAt;cases h:seg l s with
  |none=>simp
  |some g=>
   obtain⟨_,_,h2,rfl⟩:=OC h;simpa using hb _ (Bg h2)
 refine Aj SW (by simp) fun w0 I0=>?_;unfold Ly;simp;refine Ae (nT l s) rfl ?_;simp;refine Ee rfl (fun _=>ee (z:=z) (m:=m) (u:=u) l) (fun e=>by simp[e]) rfl ?_;simp;refine Bc ?_;rw[Bool.eq_iff_iff];simp only[Bool.and_eq_true,decide_eq_true_eq,Im];constructor
 ·rintro⟨⟨⟨⟨⟨h1,h2⟩,h3⟩,h4⟩,h5⟩,h6⟩;rw[Al (by omega) (by omega)] at h6;omega
 ·rintro⟨h1,h2,h3,h4,h5⟩;rw[Al (by omega) (by omega)];omega
def Dd (l:List (List Int)) (s a:Int):Option Int:=if 0≤a then (seg l s).bind fun g=>g[a.toNat]? else none
theorem WM {l:List (List Int)} {s a:Int}:Im l s a 1=(Dd l s a).isSome:=by
 rw[Bool.eq_iff_iff];simp only[Im,decide_eq_true_eq];simp only[Dd,szAt];constructor
 ·rintro⟨h1,h2,h3,h4,h5⟩;obtain⟨h6,e1⟩:=W9 h1 h2;rw[e1] at h5;simp at h5;simp[h3,e1];omega
 ·intro h;split at h
  ·rename_i h3;cases e:seg l s with
   |none=>simp[e] at h
   |some g=>
    obtain⟨k1,k2,_⟩:=OC e;simp[e] at h;simp;omega
  ·simp at h
theorem M4 {l:List (List Int)} {s a x:Int} (h:Dd l s a=some x):0≤s∧s<l.length∧0≤a∧∃ (h1:s.toNat<l.length) (h2:a.toNat<l[s.toNat].length),x=l[s.toNat][a.toNat]:=by
 unfold Dd at h;split at h
 ·rename_i h3;cases e:seg l s with
  |none=>simp[e] at h
  |some g=>
   obtain⟨k1,k2,k3,rfl⟩:=OC e;simp only[e,Option.bind_some] at h;obtain⟨h1,h2⟩:=List.getElem?_eq_some_iff.1 h;exact⟨k1,k2,h3,k3,h1,h2.symm⟩
 ·cases h
theorem O5 {z m u:Int} (l:List (List Int)) (hb:∀ x,x ∈ l→x.length*8≤140737488355328) (s a:Int):G.Spec Tryz.prog 198 [x7 l z m u,iv s,iv a] (.tup [uv ((Dd l s a).getD 0),bv (Dd l s a).isSome]):=by
 refine Aj Sx (by simp) fun w0 I0=>?_;unfold Lh;simp;refine Ae (XI l hb s a 1) rfl ?_;simp[WM];cases h:Dd l s a with
 |none=>
  simp;exact Ad rfl
 |some x=>
  obtain⟨k1,k2,k3,k4,k5,rfl⟩:=M4 h;have k6:a<l[s.toNat].length:=by omega
  simp[k1,k2,k3,k4,k5,k6];exact Ad rfl
def part (l:List (List Int)) (s a n:Int):List Int:=(((seg l s).getD []).drop a.toNat).take n.toNat
theorem V1 {l:List (List Int)} {s a n:Int} (h:Im l s a n=true):0≤s∧s<l.length∧0≤a∧0≤n∧∃ h:s.toNat<l.length,seg l s=some l[s.toNat]∧a+n≤l[s.toNat].length:=by
 simp only[Im,decide_eq_true_eq] at h;obtain⟨h1,h2,h3,h4,h5⟩:=h;obtain⟨h6,e1⟩:=W9 h1 h2;rw[szAt,e1] at h5;exact⟨h1,h2,h3,h4,h6,e1,h5⟩
theorem nF {z m u:Int} (l:List (List Int)) (hb:∀ x,x ∈ l→x.length*8≤140737488355328) (s a n:Int):G.Spec Tryz.prog 245 [x7 l z m u,iv s,iv a,iv n] (if Im l s a n=true then .tup [ws (part l s a n),bv true] else .tup [ws [],bv false]):=by
 refine Aj Ro (by simp) fun w0 I0=>?_;unfold KK;simp;refine Ae (XI l hb s a n) rfl ?_;cases h:Im l s a n with
 |false=>
  simp;refine J1 ?_;simp;exact⟨Ak,Ad rfl⟩
 |true=>
  obtain⟨h1,h2,h3,h4,h5,e1,h6⟩:=V1 h;have hg:=hb _ (Bg h5);simp[h1,h2,h5];rw[Al (by omega) (by omega)];have h7:0≤a+n:=by omega
  have h8:a≤max (a+n) 0:=by omega
  simp[h3,h6,h7,h4,h8];have e:List.take ((a+n).toNat-a.toNat) (List.drop a.toNat (List.map uv l[s.toNat]))=(part l s a n).map uv:=by
   rw[part,e1,show(a+n).toNat-a.toNat=n.toNat from by omega];simp
  rw[e];have hl:(part l s a n).length*8≤140737488355328:=by
   rw[part,e1];simp;omega
  refine Ae (Ru _ _ hl).spec rfl ?_;simp;exact Ad rfl
def KH (c:Int):Int:=if c=0 then 0 else if c=1 then 1 else if c=2 then 8 else if c=3 then 16 else if c=4 then 32 else 64
def EE (p:Pt):Option Int:=
 if p.kind=1 then some (p.data+p.ptrs)
 else if p.kind=2∧p.code=7 then some (p.count+1)
 else if p.kind=2∧0≤p.code∧p.code≤6∧0≤p.count∧p.count≤536870911 then some ((p.count*KH p.code+63) / 64)
 else none
def sL (p:Pt):Prop:=-9223372036854775808≤p.data+p.ptrs∧p.data+p.ptrs<9223372036854775808∧-9223372036854775808≤p.count+1∧p.count+1<9223372036854775808
set_option maxRecDepth 8000 in
theorem jQ (p:Pt) (hs:sL p):G.Spec Tryz.prog 267 [p.a] (.tup [iv ((EE p).getD 0),bv (EE p).isSome]):=by
 obtain⟨s1,s2,s3,s4⟩:=hs;refine Aj VR (by simp) fun w0 I0=>?_;unfold NV;simp;refine⟨fun h=>?_,fun h=>⟨fun h2 h3=>?_,fun h2=>?_⟩⟩
 ·rw[Al s1 s2];refine AN rfl ?_;simp[EE,h]
 ·rw[Al s3 s4];refine AN rfl ?_;simp[EE,h,h2,h3]
 ·refine Ee rfl (fun _=>Vn p.code 6) (fun e=>by simp[e]) rfl ?_;simp;refine Ee rfl (fun _=>Vn p.count 536870911) (fun e=>by simp[e]) rfl ?_;simp;refine⟨fun a1 a2 a3 a4 a5=>?_,fun hn=>?_⟩
  ·obtain⟨k,o,d,q,co,n,sg,b⟩:=p;simp only at *;have hc:co=0∨co=1∨co=2∨co=3∨co=4∨co=5∨co=6:=by omega
   rcases hc with rfl | rfl | rfl | rfl | rfl | rfl | rfl;all_goals
    simp;simp (disch:=omega) only[Al,Int.tdiv_eq_ediv_of_nonneg];refine AN rfl ?_;simp[EE,a1,a4,a5,KH]
  ·refine AN rfl ?_;have e:EE p=none:=by
    rw[EE,if_neg h,if_neg (fun ⟨h3,h4⟩=>h2 h3 h4),if_neg (fun ⟨b1,b2,b3,b4,b5⟩=>by have:=hn b1 b2 b3 b4;omega)]
   simp[e]
structure Lc where
 p:Pt
 s:Int
 at_:Int
deriving DecidableEq
def Pt.l (p:Pt):List A:=[iv p.kind,iv p.off,iv p.data,iv p.ptrs,iv p.code,iv p.count,iv p.seg,bv p.dbl]
def Pt.zero:Pt:=⟨0,0,0,0,0,0,0,false⟩
def Lc.zero:Lc:=⟨Pt.zero,0,0⟩
abbrev Lc.a (x:Lc):A:=.agg [iv x.p.kind,iv x.p.off,iv x.p.data,iv x.p.ptrs,iv x.p.code,iv x.p.count,iv x.p.seg,bv x.p.dbl,iv x.s,iv x.at_]
def FE (l:List (List Int)) (x:Lc):Lc × Int:=if Im l x.s x.at_ ((EE x.p).getD 0)=true then (⟨{ x.p with off:=0 },x.s,x.at_⟩,0) else (Lc.zero,7)
theorem Pp (l:List (List Int)) (hb:∀ x,x ∈ l→x.length*8≤140737488355328) (x:Lc) (hs:sL x.p):G.Spec Tryz.prog 244 [ql l,x.a] (.tup [(FE l x).1.a,iv (FE l x).2]):=by
 refine Aj bg (by simp) fun w0 I0=>?_;unfold Te;simp;refine Ae (jQ x.p hs) rfl ?_;simp;refine Ae (XI l hb _ _ _) rfl ?_;simp;refine⟨fun h=>?_,fun h=>?_⟩
 ·refine AN rfl ?_;simp[FE,h]
 ·refine AN rfl ?_;simp[FE,h,Lc.zero,Pt.zero]
def Kk (l:List (List Int)) (p:Pt) (s a:Int):Lc × Int:=
 if p.kind=1∨p.kind=2 then FE l ⟨p,s,a+1+p.off⟩ else if p.kind=4 then (Lc.zero,9) else (Lc.zero,8)
theorem Qr (l:List (List Int)) (hb:∀ x,x ∈ l→x.length*8≤140737488355328) (p:Pt) (s a:Int) (hs:sL p) (h1:-1000000000000000000≤a) (h2:a≤1000000000000000000) (h3:-1000000000000000000≤p.off) (h4:p.off≤1000000000000000000) :
  G.Spec Tryz.prog 205 [ql l,p.a,iv s,iv a] (.tup [(Kk l p s a).1.a,iv (Kk l p s a).2]):=by
 refine Aj jJ (by simp) fun w0 I0=>?_;unfold XU;simp;have go:p.kind=1∨p.kind=2→Kk l p s a=FE l ⟨p,s,a+1+p.off⟩:=fun h=>by rw[Kk,if_pos h]
 refine⟨fun h=>?_,fun h=>?_⟩
 ·have hd:decide (p.kind=1)=true:=by simp[h]
  rw[Ou.eq_1];simp[hd];simp (disch:=omega) only[Al];refine Ae (Pp l hb ⟨p,s,a+1+p.off⟩ hs) rfl ?_;simp;rw[go (.inl h)];exact Ad rfl
 ·rw[Ou.eq_1];simp;refine⟨fun h2=>?_,fun h2=>⟨fun h4=>?_,fun h4=>?_⟩⟩
  ·simp (disch:=omega) only[Al];refine Ae (Pp l hb ⟨p,s,a+1+p.off⟩ hs) rfl ?_;simp;rw[go (.inr h2)];exact Ad rfl
  ·refine AN rfl ?_;simp[Kk,h4,Lc.zero,Pt.zero]
  ·refine AN rfl ?_;simp[Kk,h,h2,h4,Lc.zero,Pt.zero]
def oZ (l:List (List Int)):Prop:=∀ x,x ∈ l→∀ y,y ∈ x→0≤y∧y<18446744073709551616
theorem XY {w:Int} (h0:0≤w) (h1:w<18446744073709551616):sL (Fz w):=by
 unfold sL Fz
 repeat' split
 all_goals simp only
 all_goals omega
theorem Wj {w:Int} (h0:0≤w) (h1:w<18446744073709551616):-536870912≤(Fz w).off∧(Fz w).off≤536870912∧0≤(Fz w).seg∧(Fz w).seg<4294967296:=by
 obtain⟨o1,o2,_⟩:=mf w;unfold Fz
 repeat' split
 all_goals simp only
 all_goals omega
theorem HT {l:List (List Int)} (hw:oZ l) {s a x:Int} (h:Dd l s a=some x):0≤x∧x<18446744073709551616:=by
 obtain⟨_,_,_,h1,h2,rfl⟩:=M4 h;exact hw _ (Bg h1) _ (Bg h2)
def HD (l:List (List Int)) (s a:Int):Lc × Int:=
 match Dd l s a,Dd l s (a+1) with
 |some v,some w=>
  if (Fz v).kind ≠ 3∨(Fz v).dbl=true then (Lc.zero,8)
  else if (Fz w).kind=4 then (Lc.zero,9)
  else if ((Fz w).kind ≠ 1∧(Fz w).kind ≠ 2)∨(Fz w).off ≠ 0 then (Lc.zero,8)
  else FE l ⟨Fz w,(Fz v).seg,(Fz v).off⟩
 |_,_=>(Lc.zero,7)
theorem ru {l:List (List Int)} {s a:Int}:Im l s a 2=((Dd l s a).isSome&&(Dd l s (a+1)).isSome):=by
 rw[← WM,← WM,Bool.eq_iff_iff];simp only[Im,Bool.and_eq_true,decide_eq_true_eq];omega
theorem r9 {l:List (List Int)} {s a v w:Int} (h1:Dd l s a=some v) (h2:Dd l s (a+1)=some w):part l s a 2=[v,w]:=by
 obtain⟨k1,k2,k3,k4,k5,rfl⟩:=M4 h1;obtain⟨_,_,k6,_,k7,rfl⟩:=M4 h2;obtain⟨_,e⟩:=W9 k1 k2;have e1:(a+1).toNat=a.toNat+1:=by omega
 simp only[e1] at k7;rw[part,e];simp only[Option.getD_some,e1];rw[List.drop_eq_getElem_cons k5,List.drop_eq_getElem_cons k7];rfl
theorem gg (l:List (List Int)) (hb:∀ x,x ∈ l→x.length*8≤140737488355328) (hw:oZ l) (s a:Int) :
  G.Spec Tryz.prog 206 [ql l,iv s,iv a] (.tup [(HD l s a).1.a,iv (HD l s a).2]):=by
 refine Aj cu (by simp) fun w0 I0=>?_;unfold Tc;simp;refine Ae (nF l hb s a 2) rfl ?_;rw[ru];cases h1:Dd l s a with
 |none=>
  simp;refine AN rfl ?_;simp[HD,h1,Lc.zero,Pt.zero]
 |some v=>
  cases h2:Dd l s (a+1) with
  |none=>
   simp;refine AN rfl ?_;simp[HD,h1,h2,Lc.zero,Pt.zero]
  |some w=>
   obtain⟨v0,v1⟩:=HT hw h1;obtain⟨w0',w1⟩:=HT hw h2;rw[r9 h1 h2];simp;refine Ae (I8 v0 v1) rfl ?_;simp;refine Ae (I8 w0' w1) rfl ?_;simp;have hs:=XY w0' w1;generalize hv:Fz v=p;generalize hq:Fz w=q at hs;have e:HD l s a=if p.kind ≠ 3∨p.dbl=true then (Lc.zero,8) else if q.kind=4 then (Lc.zero,9) else if (q.kind ≠ 1∧q.kind ≠ 2)∨q.off ≠ 0 then (Lc.zero,8) else FE l ⟨q,p.seg,p.off⟩:=by
    simp only[HD,h1,h2,hv,hq]
   refine⟨fun h=>?_,fun a1 a2=>⟨fun h3=>?_,fun h3=>⟨fun h4=>?_,fun h4 h5=>?_⟩⟩⟩
   ·rw[e,if_pos h];exact Ad rfl
   ·rw[e,if_neg (by simp[a1,a2]),if_pos h3];exact Ad rfl
   ·rw[e,if_neg (by simp[a1,a2]),if_neg h3,if_pos (by simpa using h4)];exact Ad rfl
   ·refine Ae (Pp l hb ⟨q,p.seg,p.off⟩ hs) rfl ?_;simp;rw[e,if_neg (by simp[a1,a2]),if_neg h3,if_neg (by simp[h5];omega)];exact Ad rfl
def C0 (l:List (List Int)) (s a:Int):Lc × Int:=
 match Dd l s a with
 |none=>(Lc.zero,7)
 |some w=>
  if (Fz w).kind=0 then (Lc.zero,0)
  else if (Fz w).kind ≠ 3 then Kk l (Fz w) s a
  else if (Fz w).dbl=true then HD l (Fz w).seg (Fz w).off
  else match Dd l (Fz w).seg (Fz w).off with
   |none=>(Lc.zero,7)
   |some v=>Kk l (Fz v) (Fz w).seg (Fz w).off
theorem cR (l:List (List Int)) (hb:∀ x,x ∈ l→x.length*8≤140737488355328) (hw:oZ l) (s a:Int) :
  G.Spec Tryz.prog 157 [ql l,iv s,iv a] (.tup [(C0 l s a).1.a,iv (C0 l s a).2]):=by
 refine Aj ay (by simp) fun w0 I0=>?_;unfold Td;simp;refine Ae (O5 l hb s a) rfl ?_;simp;cases h1:Dd l s a with
 |none=>
  simp;refine AN rfl ?_;simp[C0,h1,Lc.zero,Pt.zero]
 |some w=>
  obtain⟨k1,k2,k3,k4,k5,_⟩:=M4 h1;have hla:=hb _ (Bg k4);obtain⟨v0,v1⟩:=HT hw h1;simp;refine Ae (I8 v0 v1) rfl ?_;simp;have hs:=XY v0 v1;obtain⟨o1,o2,o3,o4⟩:=Wj v0 v1;generalize hv:Fz w=p at *;have e:C0 l s a=if p.kind=0 then (Lc.zero,0) else if p.kind ≠ 3 then Kk l p s a else if p.dbl=true then HD l p.seg p.off else match Dd l p.seg p.off with | none=>(Lc.zero,7) | some v=>Kk l (Fz v) p.seg p.off:=by
   simp only[C0,h1,hv]
  refine⟨fun h0=>?_,fun h0=>⟨fun h3=>⟨fun hd=>?_,fun hd=>?_⟩,fun h3=>?_⟩⟩
  ·rw[e,if_pos h0];exact Ad rfl
  ·refine Ae (gg l hb hw p.seg p.off) rfl ?_;simp;rw[e,if_neg h0,if_neg (by simp[h3]),if_pos hd];exact Ad rfl
  ·rw[if_neg h0,if_neg (by simp[h3]),if_neg (by simp[hd])] at e;refine Ae (O5 l hb p.seg p.off) rfl ?_;simp;cases h2:Dd l p.seg p.off with
   |none=>
    simp[h2] at e;simp;rw[e];exact Ad rfl
   |some v=>
    simp[h2] at e;simp;obtain⟨j0,j1⟩:=HT hw h2;obtain⟨q1,q2,q3,q4⟩:=Wj j0 j1;refine Ae (I8 j0 j1) rfl ?_;simp;refine Ae (Qr l hb (Fz v) p.seg p.off (XY j0 j1) (by omega) (by omega) (by omega) (by omega)) rfl ?_;simp;rw[e];exact Ad rfl
  ·refine Ae (Qr l hb p s a hs (by omega) (by omega) (by omega) (by omega)) rfl ?_;simp;rw[e,if_neg h0,if_pos (by simpa using h3)];exact Ad rfl
end Go.Proofs.YtbjmaoedheiigaaGreat
namespace Go.Proofs.YtbjmaoedheiigaaGreat
set_option maxRecDepth 20000
open Go Go.G Go.Proofs
@[simp] theorem AiB:DB Tryz.prog 23=some 1:=by kernel_rfl
@[simp] theorem Aix:DB Tryz.prog 25=some 3:=by kernel_rfl
@[simp] theorem Ahv:DQ Tryz.prog 23=some false:=by kernel_rfl
@[simp] theorem AgE:DQ Tryz.prog 25=some true:=by kernel_rfl
@[simp] theorem AeE:BU Tryz.prog 25=some (Value.agg #[Value.int i64 0,Value.slice none 0 0,Value.slice none 0 0]):=by kernel_rfl
@[simp] theorem AbW:Co Tryz.prog 25=some 56:=by kernel_rfl
@[simp] theorem td:An Tryz.prog 25 0=some 0:=by kernel_rfl
@[simp] theorem rv:An Tryz.prog 25 1=some 1:=by kernel_rfl
@[simp] theorem tR:An Tryz.prog 25 2=some 2:=by kernel_rfl
@[simp] theorem Acz (ps:List (Nat × A)):Cc Tryz.prog 25 ps=(CI (fun i=>([(0,1),(1,1),(2,1)]:List (Nat × Nat))[i]?) [A.v (Value.int i64 0),A.sl true [],A.sl true []] ps).map A.agg:=by kernel_rfl
def CA:CC:=sQ [mO 78 5,fO 79 25 2 2,lO 80 23 79,bN 81 80 23,bB .lss 82 3 78 81 3] [1,2,5,82] (cD 82 (.skip) (.exit 0)) [1,2,5] (.seq (.block 1 (sR [fO 85 25 2 2,lO 86 23 85,mO 87 5,iO 88 23 86 87,lO 89 25 88,aL 6 25 [1],sT 25 6 89] [1,2,5,6] (sQ [lO 90 25 6,mO 91 1,bQ .sub 92 3 91 1 3,cB 93 28 90 92 25 3,oO 94 (.unOp .not 4 (xT 93))] [1,2,5,6,94] (cD 94 (sR [aB 4 false] [4] (.ret)) (.skip)) [1,2,5,6] (sR [fO 95 25 2 0,lO 96 3 95,bQ .geq 97 3 96 2 3,mO 98 97,fG 99 25 2 0 98 true,lG 100 3 99 98 true,oG 101 (.binOp .leq 3 (xT 100) (nI 7) 3) 98 true,pF 102 98 101,aO 7 102] [1,2,5,6,7] (sR [mO 103 7,fO 104 25 6 0,lO 105 3 104,bQ .eql 106 3 105 10 3,bB .neq 107 4 103 106 4,mO 108 107,fG 109 25 2 0 108 false,lG 110 3 109 108 false,oG 111 (.binOp .eql 3 (xT 110) (nI 9) 3) 108 false,mG 112 111 108 false,fG 113 25 6 0 112 true,lG 114 3 113 112 true,oG 115 (.binOp .neq 3 (xT 114) (nI 1) 3) 112 true,oG 116 (.pick (xT 112) (xT 115) (nB false)) 108 false,pT 117 108 116,mO 118 117,mG 119 7 118 false,mG 120 119 118 false,fG 121 25 2 0 120 true,lG 122 3 121 120 true,oG 123 (.binOp .sub 3 (xT 122) (nI 2) 3) 120 true,fG 124 25 6 1 120 true,lG 125 22 124 120 true,oG 126 (.indexAddr 22 (xT 125) (nI 0)) 120 true,lG 127 51 126 120 true,oG 128 (cL 57 #[(xT 123),(xT 127)] #[3,51]) 120 true,oG 129 (.unOp .not 4 (xT 128)) 120 true,oG 130 (.pick (xT 120) (xT 129) (nB false)) 118 false,pT 131 118 130] [1,2,5,131] (cD 131 (sR [aB 4 false] [4] (.ret)) (.skip))))))) (.keep [1,2,5] (.reg [mO 83 5,bQ .add 84 3 83 1 3,aO 5 84] [1,2,5]))) 
def KV:CC:=sR [bX 2 25 0 [0],aB 4 false] [1,2] (sQ [fO 8 25 2 0,lO 9 3 8,bQ .eql 10 3 9 0 3] [1,2,10] (cD 10 (sR [fO 11 25 2 1,lO 12 22 11,bN 13 12 22,bQ .eql 14 3 13 0 3,mO 15 14,fG 16 25 2 2 15 true,lG 17 23 16 15 true,oG 18 (bL 17 23) 15 true,oG 19 (.binOp .eql 3 (xT 18) (nI 0) 3) 15 true,pF 20 15 19,aO 4 20] [4] (.ret)) (.skip)) [1,2] (sQ [fO 21 25 2 0,lO 22 3 21,bQ .eql 23 3 22 10 3] [1,2,23] (cD 23 (sR [fO 24 25 2 1,lO 25 22 24,bN 26 25 22,bQ .eql 27 3 26 1 3,mO 28 27,fG 29 25 2 2 28 true,lG 30 23 29 28 true,oG 31 (bL 30 23) 28 true,oG 32 (.binOp .eql 3 (xT 31) (nI 0) 3) 28 true,pF 33 28 32,aO 4 33] [4] (.ret)) (.skip)) [1,2] (sQ [fO 34 25 2 0,lO 35 3 34,bQ .lss 36 3 35 0 3,mO 37 36,fG 38 25 2 0 37 false,lG 39 3 38 37 false,oG 40 (.binOp .gtr 3 (xT 39) (nI 10) 3) 37 false,pT 41 37 40,mO 42 41,mG 43 1 42 false,oG 44 (.binOp .eql 3 (xT 43) (nI 0) 3) 42 false,pT 45 42 44,mO 46 45,fG 47 25 2 1 46 false,lG 48 22 47 46 false,oG 49 (bL 48 22) 46 false,oG 50 (.binOp .geq 3 (xT 49) (nI 65536) 3) 46 false,pT 51 46 50,mO 52 51,fG 53 25 2 0 52 false,lG 54 3 53 52 false,oG 55 (.binOp .eql 3 (xT 54) (nI 1) 3) 52 false,mG 56 55 52 false,fG 57 25 2 2 56 true,lG 58 23 57 56 true,oG 59 (bL 58 23) 56 true,oG 60 (.binOp .geq 3 (xT 59) (nI 65536) 3) 56 true,oG 61 (.pick (xT 56) (xT 60) (nB false)) 52 false,pT 62 52 61,mO 63 62,fG 64 25 2 2 63 false,lG 65 23 64 63 false,oG 66 (bL 65 23) 63 false,oG 67 (.binOp .geq 3 (xT 66) (nI 1048576) 3) 63 false,pT 68 63 67] [1,2,68] (cD 68 (sR [aB 4 false] [4] (.ret)) (.skip)) [1,2] (sQ [fO 69 25 2 0,lO 70 3 69,bQ .gtr 71 3 70 1 3,mO 72 71,fG 73 25 2 1 72 true,lG 74 22 73 72 true,oG 75 (bL 74 22) 72 true,oG 76 (.binOp .gtr 3 (xT 75) (nI 0) 3) 72 true,pF 77 72 76] [1,2,77] (cD 77 (sR [aB 4 false] [4] (.ret)) (.skip)) [1,2] (sQ [aI 5 0] [1,2,5] (.block 0 (.loop CA)) [] (sR [aB 4 true] [4] (.ret)))))))
theorem Rh:Ba Tryz.prog 28 132 [(.tmp 4)] KV:=Ap Tryz.func28
def EW:CC:=sQ [mO 12 5,fO 13 25 1 2,lO 14 23 13,bN 15 14 23,bB .lss 16 3 12 15 3] [1,2,3,4,5,16] (cD 16 (.skip) (.exit 0)) [1,2,3,4,5] (.seq (.block 1 (sR [fO 19 25 1 2,lO 20 23 19,mO 21 5,iO 22 23 20 21,lO 23 25 22,cA 24 32 23 25,aL 6 25 [2],sT 25 6 24] [1,2,3,4,5,6] (sR [mO 25 3,lO 26 25 6,oO 27 (.buildSlice 23 1 #[(0,(xT 26))]),aP 28 25 27 23 23 [3],aO 3 28] [1,2,3,4,5,6] (sR [fO 29 25 6 0,lO 30 3 29,bQ .neq 31 3 30 0 3] [1,2,3,4,5,31] (cD 31 (.reg [mO 32 5,bQ .add 33 3 32 1 3,aO 4 33] [1,2,3,4,5]) (.skip)))))) (.keep [1,2,3,4,5] (.reg [mO 17 5,bQ .add 18 3 17 1 3,aO 5 18] [1,2,3,4,5]))) 
def LJ:CC:=sR [bX 1 25 0 [0],aL 2 25 [1]] [1,2] (sQ [fO 8 25 1 0,lO 9 3 8,bQ .eql 10 3 9 0 3] [1,2,10] (cD 10 (sR [oO 11 (.build 25 #[]),sT 25 2 11] [2] (.ret)) (.skip)) [1,2] (sR [aN 3] [1,2,3] (sR [aI 4 0] [1,2,3,4] (sQ [aI 5 0] [1,2,3,4,5] (.block 0 (.loop EW)) [1,2,3,4] (sQ [fO 34 25 1 0,lO 35 3 34,bQ .eql 36 3 35 1 3] [1,2,3,4,36] (cD 36 (sR [fO 37 25 1 1,lO 38 22 37,cA 39 64 38 22,mO 40 3,mO 41 4,oO 42 (.slice 23 (xT 40) none (some (xT 41)) none),oO 43 (.build 25 #[(0,(nI 1)),(1,(xT 39)),(2,(xT 42))]),sT 25 2 43] [2] (.ret)) (.skip)) [1,2,3] (sR [aN 7] [1,2,3,7] (sR [mO 44 7,fO 45 25 1 1,lO 46 22 45,aP 47 44 46 22 22 [4],aO 7 47] [1,2,3,7] (sR [fO 48 25 1 0,lO 49 3 48,mO 50 7,mO 51 3,oO 52 (.build 25 #[(0,(xT 49)),(1,(xT 50)),(2,(xT 51))]),sT 25 2 52] [2] (.ret)))))))))
theorem TG:Ba Tryz.prog 32 53 [(.cell 2 25)] LJ:=Ap Tryz.func32
def Jz:CC:=sR [fO 30 25 1 2,lO 31 23 30,mO 32 6,iO 33 23 31 32,fO 34 25 33 2,lO 35 23 34,bN 36 35 23,mO 37 5,bB .gtr 38 3 36 37 3] [1,4,5,6,38] (cD 38 (.reg [fO 39 25 1 2,lO 40 23 39,mO 41 6,iO 42 23 40 41,fO 43 25 42 2,lO 44 23 43,bN 45 44 23,aO 5 45] [1,4,5,6]) (.skip))
def El:CC:=sQ [mO 7 6,fO 8 25 1 2,lO 9 23 8,bN 10 9 23,bB .lss 11 3 7 10 3] [1,4,5,6,11] (cD 11 (.skip) (.exit 0)) [1,4,5,6] (.seq (.block 1 (sQ [fO 14 25 1 2,lO 15 23 14,mO 16 6,iO 17 23 15 16,fO 18 25 17 1,lO 19 22 18,bN 20 19 22,mO 21 4,bB .gtr 22 3 20 21 3] [1,4,5,6,22] (cD 22 (.reg [fO 23 25 1 2,lO 24 23 23,mO 25 6,iO 26 23 24 25,fO 27 25 26 1,lO 28 22 27,bN 29 28 22,aO 4 29] [1,4,5,6]) (.skip)) [1,4,5,6] Jz)) (.keep [1,4,5,6] (.reg [mO 12 6,bQ .add 13 3 12 1 3,aO 6 13] [1,4,5,6]))) 
def KU:CC:=sR [bX 1 25 0 [0],aI 2 0,aI 3 0] [1] (sR [aI 4 0,aI 5 0] [1,4,5] (sQ [aI 6 0] [1,4,5,6] (.block 0 (.loop El)) [4,5] (sR [mO 46 4,mO 47 5,aO 2 46,aO 3 47] [2,3] (.ret))))
theorem RA:Ba Tryz.prog 66 48 [(.tmp 2),(.tmp 3)] KU:=Ap Tryz.func66
def DA:CC:=sQ [mO 20 7,fO 21 25 3 2,lO 22 23 21,bN 23 22 23,bB .lss 24 3 20 23 3,mO 25 24,mG 26 2 25 true,oG 27 (.binOp .geq 3 (xT 26) (nI 0) 3) 25 true,pF 28 25 27] [1,2,3,7,28] (cD 28 (.skip) (.exit 0)) [1,2,3,7] (.seq (.block 1 (.reg [fO 31 25 3 2,lO 32 23 31,mO 33 7,iO 34 23 32 33,lO 35 25 34,mO 36 1,bQ .sub 37 3 36 1 3,mO 38 2,cE 39 27 35 37 38 25 3 3,aO 2 39] [1,2,3,7])) (.reg [mO 29 7,bQ .add 30 3 29 1 3,aO 7 30] [1,2,3,7])) 
def Je:CC:=sR [bX 3 25 0 [0],aI 6 0] [1,2,3] (sR [mO 8 2,bQ .sub 9 3 8 1 3,fO 10 25 3 1,lO 11 22 10,bN 12 11 22,bB .sub 13 3 9 12 3,aO 2 13] [1,2,3] (sQ [mO 14 1,bQ .eql 15 3 14 0 3,mO 16 15,mG 17 2 16 false,oG 18 (.binOp .lss 3 (xT 17) (nI 0) 3) 16 false,pT 19 16 18] [1,2,3,19] (cD 19 (sR [oO 6 (.assign (.const (.int .i64 (-1))))] [6] (.ret)) (.skip)) [1,2,3] (sQ [aI 7 0] [1,2,3,7] (.block 0 (.loop DA)) [2] (sR [mO 40 2,aO 6 40] [6] (.ret)))))
theorem O1:Ba Tryz.prog 27 41 [(.tmp 6)] Je:=Ap Tryz.func27
def EP:CC:=sQ [mO 28 5,fO 29 25 2 2,lO 30 23 29,bN 31 30 23,bB .lss 32 3 28 31 3] [2,3,5,32] (cD 32 (.skip) (.exit 0)) [2,3,5] (.seq (.block 1 (sR [fO 35 25 2 2,lO 36 23 35,mO 37 5,iO 38 23 36 37,lO 39 25 38,fO 40 25 3 2,lO 41 23 40,mO 42 5,iO 43 23 41 42,lO 44 25 43,cB 45 50 39 44 25 25,oO 46 (.unOp .not 4 (xT 45))] [2,3,5,46] (cD 46 (sR [aB 4 false] [4] (.ret)) (.skip)))) (.keep [2,3,5] (.reg [mO 33 5,bQ .add 34 3 33 1 3,aO 5 34] [2,3,5]))) 
def LB:CC:=sR [bX 2 25 0 [0],bX 3 25 1 [1],aB 4 false] [2,3] (sQ [fO 6 25 2 0,lO 7 3 6,fO 8 25 3 0,lO 9 3 8,bB .neq 10 3 7 9 3,mO 11 10,fG 12 25 2 1 11 false,lG 13 22 12 11 false,fG 14 25 3 1 11 false,lG 15 22 14 11 false,oG 16 (cL 38 #[(xT 13),(xT 15)] #[22,22]) 11 false,oG 17 (.unOp .not 4 (xT 16)) 11 false,pT 18 11 17,mO 19 18,fG 20 25 2 2 19 false,lG 21 23 20 19 false,oG 22 (bL 21 23) 19 false,fG 23 25 3 2 19 false,lG 24 23 23 19 false,oG 25 (bL 24 23) 19 false,oG 26 (bO .neq 3 22 25 3) 19 false,pT 27 19 26] [2,3,27] (cD 27 (sR [aB 4 false] [4] (.ret)) (.skip)) [2,3] (sQ [aI 5 0] [2,3,5] (.block 0 (.loop EP)) [] (sR [aB 4 true] [4] (.ret))))
theorem TJ:Ba Tryz.prog 50 47 [(.tmp 4)] LB:=Ap Tryz.func50
def KA:CC:=sR [bX 2 25 0 [0],bX 3 25 1 [1],aB 4 false] [2,3] (sR [lO 5 25 2,⟨some 6,(cL 32 #[(xT 5)] #[25]),none,[],1,[],true⟩,⟨some 7,(lD 25 3),none,[],2,[1],false⟩,cA 8 32 7 25,cB 9 50 6 8 25 25,aO 4 9] [4] (.ret))
theorem QT:Ba Tryz.prog 101 10 [(.tmp 4)] KA:=Ap Tryz.func101
def J8:CC:=sR [bB .lss 20 3 19 18 3] [1,2,3,17,18,19,20] (.seq (cD 20 (.skip) (.exit 0)) (.keep [1,2,3,17,18,19] (.seq (.block 1 (sR [iO 21 23 17 19,lO 22 25 21,aL 5 25 [3],sT 25 5 22] [1,2,3,5,17,18,19] (.reg [fO 23 25 3 2,lS 24 23 23 1,lO 25 25 5,⟨some 26,(cL 31 #[(xT 25)] #[25]),none,[],3,[1],false⟩,⟨some 27,(.buildSlice 23 1 #[(0,(xT 26))]),none,[],4,[1],false⟩,aP 28 24 27 23 23 [4],fO 29 25 3 2,sT 23 29 28] [1,2,3,17,18,19]))) (.reg [bQ .add 30 3 19 1 3,mO 19 30] [1,2,3,17,18,19]))))
def JK:CC:=sQ [fO 34 25 3 1,lO 35 22 34,bN 36 35 22,bQ .gtr 37 3 36 0 3,mO 38 37,fG 39 25 3 1 38 true,lG 40 22 39 38 true,fG 41 25 3 1 38 true,lG 42 22 41 38 true,oG 43 (bL 42 22) 38 true,oG 44 (.binOp .sub 3 (xT 43) (nI 1) 3) 38 true,oG 45 (iA 22 40 44) 38 true,lG 46 51 45 38 true,oG 47 (.binOp .eql 51 (xT 46) (.const (.int .u64 0)) 51) 38 true,pF 48 38 47] [2,3,48] (cD 48 (.skip) (.exit 2)) [2,3] (.block 3 (.reg [fO 49 25 3 1,lO 50 22 49,fO 51 25 3 1,lO 52 22 51,bN 53 52 22,bQ .sub 54 3 53 1 3,oO 55 (.slice 22 (xT 50) none (some (xT 54)) none),fO 56 25 3 1,sT 22 56 55] [2,3]))
def JP:CC:=sQ [fO 57 25 3 2,lO 58 23 57,bN 59 58 23,bQ .gtr 60 3 59 0 3,mO 61 60,fG 62 25 3 2 61 true,lG 63 23 62 61 true,fG 64 25 3 2 61 true,lG 65 23 64 61 true,oG 66 (bL 65 23) 61 true,oG 67 (.binOp .sub 3 (xT 66) (nI 1) 3) 61 true,oG 68 (iA 23 63 67) 61 true,fG 69 25 68 0 61 true,lG 70 3 69 61 true,oG 71 (.binOp .eql 3 (xT 70) (nI 0) 3) 61 true,pF 72 61 71] [2,3,72] (cD 72 (.skip) (.exit 4)) [2,3] (.block 5 (.reg [fO 73 25 3 2,lO 74 23 73,fO 75 25 3 2,lO 76 23 75,bN 77 76 23,bQ .sub 78 3 77 1 3,oO 79 (.slice 23 (xT 74) none (some (xT 78)) none),fO 80 25 3 2,sT 23 80 79] [2,3])) 
def Vd:CC:=sR [bX 1 25 0 [0],aL 2 25 [1]] [1,2] (sQ [fO 6 25 1 0,lO 7 3 6,bQ .eql 8 3 7 0 3] [1,2,8] (cD 8 (sR [oO 9 (.build 25 #[]),sT 25 2 9] [2] (.ret)) (.skip)) [1,2] (sR [fO 10 25 1 0,lS 11 3 10 1,fO 12 25 1 1,lS 13 22 12 3,⟨some 14,(cL 63 #[(xT 13)] #[22]),none,[],4,[1],true⟩,oO 15 (.build 25 #[(0,(xT 11)),(1,(xT 14))]),⟨some 3,(.alloc 25),none,[2],6,[1,3,4],false⟩,sT 25 3 15] [1,2,3] (sQ [fO 16 25 1 2,lO 17 23 16,bN 18 17 23,oO 19 (.move (nI 0))] [1,2,3,17,18,19] (.block 0 (.loop J8)) [1,2,3] (sQ [fO 31 25 1 0,lO 32 3 31,bQ .eql 33 3 32 1 3] [2,3,33] (cD 33 (.seq (.block 2 (.loop JK)) (.keep [2,3] (.block 4 (.loop JP)))) (.skip)) [2,3] (sR [lO 81 25 3,sT 25 2 81] [2] (.ret))))))
theorem fe:Ba Tryz.prog 31 82 [(.cell 2 25)] Vd:=Ap Tryz.func31
@[simp] theorem AhU:DB Tryz.prog 50=some 1:=by kernel_rfl
@[simp] theorem Aib:DB Tryz.prog 53=some 8:=by kernel_rfl
@[simp] theorem Agd:DQ Tryz.prog 50=some false:=by kernel_rfl
@[simp] theorem Agf:DQ Tryz.prog 53=some true:=by kernel_rfl
@[simp] theorem AfI:BU Tryz.prog 53=some (Value.agg #[Value.pointer none,Value.int i64 0,Value.int i64 0,Value.int i64 0,Value.int i64 0,Value.int i64 0,Value.int i64 0,Value.int u64 0]):=by kernel_rfl
@[simp] theorem rm:An Tryz.prog 53 0=some 0:=by kernel_rfl
@[simp] theorem sW:An Tryz.prog 53 1=some 1:=by kernel_rfl
@[simp] theorem th:An Tryz.prog 53 2=some 2:=by kernel_rfl
@[simp] theorem uN:An Tryz.prog 53 3=some 3:=by kernel_rfl
@[simp] theorem uI:An Tryz.prog 53 4=some 4:=by kernel_rfl
@[simp] theorem uu:An Tryz.prog 53 5=some 5:=by kernel_rfl
@[simp] theorem qQ:An Tryz.prog 53 6=some 6:=by kernel_rfl
@[simp] theorem rX:An Tryz.prog 53 7=some 7:=by kernel_rfl
@[simp] theorem Ab2 (ps:List (Nat × A)):Cc Tryz.prog 53 ps=(CI (fun i=>([(0,1),(1,1),(2,1),(3,1),(4,1),(5,1),(6,1),(7,1)]:List (Nat × Nat))[i]?) [A.v (Value.pointer none),A.v (Value.int i64 0),A.v (Value.int i64 0),A.v (Value.int i64 0),A.v (Value.int i64 0),A.v (Value.int i64 0),A.v (Value.int i64 0),A.v (Value.int u64 0)] ps).map A.agg:=by kernel_rfl
def LF:CC:=sR [bX 1 53 0 [0],aI 2 0] [1] (sR [fO 3 53 1 1,lO 4 3 3,aO 2 4] [2] (.ret))
theorem Ty:Ba Tryz.prog 95 5 [(.tmp 2)] LF:=Ap Tryz.func95
def KB:CC:=sR [bX 1 53 0 [0],aI 2 0] [1] (sQ [fO 3 53 1 1,lO 4 3 3] [1,4] (.block 0 (sR [bQ .eql 6 3 4 1 3,aO 5 6] [1,4,5] (cD 5 (sR [fO 7 53 1 4,lO 8 3 7,aO 2 8] [2] (.ret)) (sR [bQ .eql 10 3 4 10 3,aO 9 10] [9] (cD 9 (sR [aI 2 1] [2] (.ret)) (.skip)))))) [] (sR [aI 2 0] [2] (.ret)))
theorem RJ:Ba Tryz.prog 192 11 [(.tmp 2)] KB:=Ap Tryz.func192
def LR:CC:=sR [bX 1 53 0 [0],aI 2 0] [1] (sQ [fO 3 53 1 1,lO 4 3 3,bQ .eql 5 3 4 1 3] [1,5] (cD 5 (sR [fO 6 53 1 5,lO 7 3 6,aO 2 7] [2] (.ret)) (.skip)) [1] (sR [fO 8 53 1 6,lO 9 3 8,aO 2 9] [2] (.ret)))
theorem Ta:Ba Tryz.prog 137 10 [(.tmp 2)] LR:=Ap Tryz.func137
def Lp:CC:=sR [bX 2 53 0 [0],oO 4 (.assign (.const (.int .u64 0)))] [1,2] (sQ [mO 7 1,bQ .lss 8 3 7 0 3,mO 9 8,mG 10 1 9 false,lG 11 53 2 9 false,oG 12 (cL 192 #[(xT 11)] #[53]) 9 false,oG 13 (bO .geq 3 10 12 3) 9 false,pT 14 9 13] [1,2,14] (cD 14 (sR [oO 4 (.assign (.const (.int .u64 0)))] [4] (.ret)) (.skip)) [1,2] (sQ [fO 15 53 2 1,lO 16 3 15,bQ .eql 17 3 16 10 3] [1,2,17] (cD 17 (sR [fO 18 53 2 7,lO 19 51 18,aO 4 19] [4] (.ret)) (.skip)) [1,2] (sR [fO 21 53 2 0,lO 22 50 21,fO 23 53 2 2,lO 24 3 23,fO 25 53 2 3,lO 26 3 25,mO 27 1,bB .add 28 3 26 27 3,cE 29 198 22 24 28 50 3 3,mO 20 29,xO 30 20 0,xO 31 20 1,aO 5 30,aO 6 31] [5] (sR [mO 32 5,aO 4 32] [4] (.ret)))))
theorem R6:Ba Tryz.prog 150 33 [(.tmp 4)] Lp:=Ap Tryz.func150
def LL:CC:=sR [bX 2 53 0 [0],oO 4 (.assign (.const (.int .u64 0)))] [1,2] (sR [fO 11 53 2 1,lO 12 3 11,bQ .sub 13 3 12 2 3,aO 5 13] [1,2,5] (sR [mO 15 5,cA 16 254 15 3,mO 14 16,xO 17 14 0,xO 18 14 1,aO 6 17,aO 7 18] [1,2,5,6] (sQ [mO 19 6,bQ .eql 20 3 19 0 3] [1,2,5,6,20] (cD 20 (sR [oO 4 (.assign (.const (.int .u64 0)))] [4] (.ret)) (.skip)) [1,2,5,6] (sR [mO 21 6,oO 22 (.binOp .quo 3 (nI 64) (xT 21) 3),aO 8 22] [1,2,5,8] (sR [fO 24 53 2 0,lO 25 50 24,fO 26 53 2 2,lO 27 3 26,fO 28 53 2 3,lO 29 3 28,mO 30 1,mO 31 8,bB .quo 32 3 30 31 3,bB .add 33 3 29 32 3,cE 34 198 25 27 33 50 3 3,mO 23 34,xO 35 23 0,xO 36 23 1,aO 9 35,aO 10 36] [1,5,8,9] (sR [mO 37 9,oO 38 (.buildSlice 22 1 #[(0,(xT 37))]),mO 39 5,mO 40 1,mO 41 8,bB .rem 42 3 40 41 3,cE 43 255 38 39 42 22 3 3,aO 4 43] [4] (.ret)))))))
theorem Sf:Ba Tryz.prog 231 44 [(.tmp 4)] LL:=Ap Tryz.func231
def U5:CC:=sR [aL 6 53 [0],aI 7 0] [0,1,2,6] (sR [mO 12 0,mO 13 1,mO 14 2,cE 15 157 12 13 14 50 3 3,mO 11 15,xO 16 11 0,xO 17 11 1,aL 8 198 [1],sT 198 8 16,aO 9 17] [0,6,8,9] (sQ [mO 18 9,bQ .neq 19 47 18 0 47,mO 20 19,fG 21 198 8 0 20 false,fG 22 175 21 0 20 false,lG 23 3 22 20 false,oG 24 (.binOp .eql 3 (xT 23) (nI 0) 3) 20 false,pT 25 20 24] [0,6,8,9,25] (cD 25 (sR [oO 26 (.build 53 #[]),mO 27 9,sT 53 6 26,aO 7 27] [6,7] (.ret)) (.skip)) [0,6,8] (sR [mO 28 0,fO 29 198 8 1,lO 30 3 29,fO 31 198 8 2,lO 32 3 31,oO 33 (.build 53 #[(0,(xT 28)),(2,(xT 30)),(3,(xT 32))]),aL 10 53 [2],sT 53 10 33] [6,8,10] (.seq (.block 0 (sR [fO 42 198 8 0,fO 43 175 42 0,lO 44 3 43,bQ .eql 45 3 44 1 3,aO 41 45] [6,8,10,41] (cD 41 (.reg [fO 46 198 8 0,fO 47 175 46 2,lS 48 3 47 2,fO 49 198 8 0,fO 50 175 49 3,lS 51 3 50 5,fO 52 53 10 1,⟨none,(.store 3 (xT 52) (nI 1)),none,[],7,[2,5],false⟩,fO 53 53 10 4,⟨none,(.store 3 (xT 53) (xT 48)),none,[],9,[5],false⟩,fO 54 53 10 5,sT 3 54 51] [6,10]) (sR [fO 56 198 8 0,fO 57 175 56 4,lO 58 3 57,bQ .lss 59 3 58 6 3,aO 55 59] [6,8,10,55] (cD 55 (.reg [fO 60 198 8 0,fO 61 175 60 4,lO 62 3 61,oO 63 (.binOp .add 3 (nI 2) (xT 62) 3),fO 64 198 8 0,fO 65 175 64 5,lS 66 3 65 6,fO 67 53 10 1,⟨none,(.store 3 (xT 67) (xT 63)),none,[],8,[6],false⟩,fO 68 53 10 6,sT 3 68 66] [6,10]) (sR [fO 70 198 8 0,fO 71 175 70 4,lO 72 3 71,bQ .eql 73 3 72 6 3,aO 69 73] [6,8,10,69] (cD 69 (.reg [fO 74 198 8 0,fO 75 175 74 5,lS 76 3 75 2,fO 77 53 10 1,⟨none,(.store 3 (xT 77) (nI 8)),none,[],4,[2],false⟩,fO 78 53 10 6,sT 3 78 76] [6,10]) (sR [lO 34 53 10,fO 35 198 8 0,fO 36 175 35 5,lO 37 3 36,cB 38 158 34 37 53 3,xO 39 38 0,xO 40 38 1,sT 53 6 39,aO 7 40] [6,7] (.ret))))))))) (.keep [6,10] (sR [lO 79 53 10,sT 53 6 79,aI 7 0] [6,7] (.ret)))))))
theorem gD:Ba Tryz.prog 99 80 [(.cell 6 53),(.tmp 7)] U5:=Ap Tryz.func99
def QD:CC:=sR [aL 2 53 [0],aI 3 0] [0,2] (sR [mO 4 0,oO 5 (cL 99 #[(xT 4),(nI 0),(nI 0)] #[50,3,3]),xO 6 5 0,xO 7 5 1,sT 53 2 6,aO 3 7] [2,3] (.ret))
theorem YU:Ba Tryz.prog 49 8 [(.cell 2 53),(.tmp 3)] QD:=Ap Tryz.func49
def HP:CC:=sR [bX 2 53 0 [0],aL 4 53 [1],aI 5 0] [1,2,4] (sR [fO 10 53 2 0,lO 11 50 10,fO 12 53 2 2,lO 13 3 12,fO 14 53 2 3,lO 15 3 14,cE 16 198 11 13 15 50 3 3,mO 9 16,xO 17 9 0,xO 18 9 1,aO 6 17,aO 7 18] [1,2,4,6] (sR [mO 19 6,cA 20 204 19 51,aL 8 175 [2],sT 175 8 20] [1,2,4,6,8] (sQ [mO 21 6,oO 22 (.binOp .neq 51 (xT 21) (.const (.int .u64 0)) 51),mO 23 22,fG 24 175 8 0 23 true,lG 25 3 24 23 true,oG 26 (.binOp .neq 3 (xT 25) (nI 1) 3) 23 true,pF 27 23 26,mO 28 27,fG 29 175 8 1 28 false,lG 30 3 29 28 false,oG 31 (.binOp .lss 3 (xT 30) (nI 0) 3) 28 false,pT 32 28 31,mO 33 32,fG 34 175 8 1 33 false,lG 35 3 34 33 false,fG 36 175 8 2 33 false,lG 37 3 36 33 false,fG 38 175 8 3 33 false,lG 39 3 38 33 false,oG 40 (bO .add 3 37 39 3) 33 false,oG 41 (bO .mul 3 35 40 3) 33 false,mG 42 1 33 false,oG 43 (bO .gtr 3 41 42 3) 33 false,pT 44 33 43] [2,4,8,44] (cD 44 (sR [oO 45 (.build 53 #[]),sT 53 4 45,aI 5 8] [4,5] (.ret)) (.skip)) [2,4,8] (sR [fO 46 53 2 3,lO 47 3 46,bQ .add 48 3 47 1 3,fO 49 53 2 1,oS (.store 3 (xT 49) (nI 9)),fO 50 53 2 3,sT 3 50 48] [2,4,8] (sR [fO 51 175 8 1,lO 52 3 51,fO 53 175 8 2,lS 54 3 53 3,fO 55 175 8 3,lS 56 3 55 5,fO 57 53 2 6,⟨none,(.store 3 (xT 57) (xT 52)),none,[],7,[3,5],false⟩,fO 58 53 2 4,⟨none,(.store 3 (xT 58) (xT 54)),none,[],9,[5],false⟩,fO 59 53 2 5,sT 3 59 56] [2,4] (sR [lO 60 53 2,sT 53 4 60,aI 5 0] [4,5] (.ret)))))))
theorem Nz:Ba Tryz.prog 158 61 [(.cell 4 53),(.tmp 5)] HP:=Ap Tryz.func158
def Ms:CC:=sR [bX 2 53 0 [0],aL 4 53 [1],aI 5 0] [1,2,4] (sQ [mO 6 1,bQ .lss 7 3 6 0 3,mO 8 7,mG 9 1 8 false,lG 10 53 2 8 false,oG 11 (cL 137 #[(xT 10)] #[53]) 8 false,oG 12 (bO .geq 3 9 11 3) 8 false,pT 13 8 12] [1,2,4,13] (cD 13 (sR [oO 14 (.build 53 #[]),sT 53 4 14,aI 5 0] [4,5] (.ret)) (.skip)) [1,2,4] (sQ [fO 15 53 2 1,lO 16 3 15] [1,2,4,16] (.block 0 (sR [bQ .eql 18 3 16 1 3,aO 17 18] [1,2,4,16,17] (cD 17 (sR [fO 19 53 2 0,lO 20 50 19,fO 21 53 2 2,lO 22 3 21,fO 23 53 2 3,lO 24 3 23,fO 25 53 2 4,lO 26 3 25,bB .add 27 3 24 26 3,mO 28 1,bB .add 29 3 27 28 3,cE 30 99 20 22 29 50 3 3,xO 31 30 0,xO 32 30 1,sT 53 4 31,aO 5 32] [4,5] (.ret)) (sR [bQ .eql 34 3 16 8 3,aO 33 34] [1,2,4,16,33] (cD 33 (sR [fO 35 53 2 0,lO 36 50 35,fO 37 53 2 2,lO 38 3 37,fO 39 53 2 3,lO 40 3 39,mO 41 1,bB .add 42 3 40 41 3,cE 43 99 36 38 42 50 3 3,xO 44 43 0,xO 45 43 1,sT 53 4 44,aO 5 45] [4,5] (.ret)) (sR [bQ .eql 47 3 16 9 3,aO 46 47] [1,2,4,46] (cD 46 (sR [fO 48 53 2 0,lO 49 50 48,fO 50 53 2 2,lO 51 3 50,fO 52 53 2 3,lO 53 3 52,mO 54 1,fO 55 53 2 4,lO 56 3 55,fO 57 53 2 5,lO 58 3 57,bB .add 59 3 56 58 3,bB .mul 60 3 54 59 3,bB .add 61 3 53 60 3,fO 62 53 2 4,lO 63 3 62,fO 64 53 2 5,lO 65 3 64,oO 66 (.build 53 #[(0,(xT 49)),(1,(nI 1)),(2,(xT 51)),(3,(xT 61)),(4,(xT 63)),(5,(xT 65))]),sT 53 4 66,aI 5 0] [4,5] (.ret)) (.skip)))))))) [1,2,4] (sR [fO 67 53 2 0,lS 68 50 67 1,lO 69 53 2,mO 70 1,⟨some 71,(cL 231 #[(xT 69),(xT 70)] #[53,3]),none,[],4,[1],false⟩,oO 72 (.build 53 #[(0,(xT 68)),(1,(nI 10)),(7,(xT 71))]),sT 53 4 72,aI 5 0] [4,5] (.ret))))
theorem T9:Ba Tryz.prog 194 73 [(.cell 4 53),(.tmp 5)] Ms:=Ap Tryz.func194
def J7:CC:=sQ [mO 6 3,bQ .gtr 7 3 6 0 3,mO 8 7,lG 9 53 1 8 true,mG 10 3 8 true,oG 11 (.binOp .sub 3 (xT 10) (nI 1) 3) 8 true,oG 12 (cL 150 #[(xT 9),(xT 11)] #[53,3]) 8 true,oG 13 (.binOp .eql 51 (xT 12) (.const (.int .u64 0)) 51) 8 true,pF 14 8 13] [1,3,14] (cD 14 (.skip) (.exit 0)) [1,3] (.block 1 (.reg [mO 15 3,bQ .sub 16 3 15 1 3,aO 3 16] [1,3])) 
def Vr:CC:=sR [bX 1 53 0 [0],aI 2 0] [1] (sR [lO 4 53 1,cA 5 192 4 53,aO 3 5] [1,3] (.seq (.block 0 (.loop J7)) (.keep [3] (sR [mO 17 3,aO 2 17] [2] (.ret)))))
theorem dy:Ba Tryz.prog 149 18 [(.tmp 2)] Vr:=Ap Tryz.func149
def J0:CC:=sQ [mO 9 4,bQ .gtr 10 3 9 0 3] [1,4,10] (cD 10 (.skip) (.exit 0)) [1,4] (.block 1 (sR [lO 12 53 1,mO 13 4,bQ .sub 14 3 13 1 3,cB 15 194 12 14 53 3,mO 11 15,xO 16 11 0,xO 17 11 1,aL 5 53 [1],sT 53 5 16,aO 6 17] [1,4,5,6] (sQ [mO 18 6,bQ .neq 19 47 18 0 47,mO 20 19,lG 21 53 5 20 false,oG 22 (cL 95 #[(xT 21)] #[53]) 20 false,oG 23 (.binOp .neq 3 (xT 22) (nI 0) 3) 20 false,pT 24 20 23] [1,4,6,24] (cD 24 (sR [mO 25 4,mO 26 6,aO 2 25,aO 3 26] [2,3] (.ret)) (.skip)) [1,4] (.reg [mO 27 4,bQ .sub 28 3 27 1 3,aO 4 28] [1,4])))) 
def UQ:CC:=sR [bX 1 53 0 [0],aI 2 0,aI 3 0] [1] (sR [lO 7 53 1,cA 8 137 7 53,aO 4 8] [1,4] (.seq (.block 0 (.loop J0)) (.keep [] (sR [aI 2 0,aI 3 0] [2,3] (.ret)))))
theorem gB:Ba Tryz.prog 199 29 [(.tmp 2),(.tmp 3)] UQ:=Ap Tryz.func199
def R8:CC:=sR [bX 1 53 0 [0],aI 2 0,aI 3 0] [1] (sQ [lO 4 53 1,cA 5 95 4 53,bQ .eql 6 3 5 1 3] [1,6] (cD 6 (sR [lO 7 53 1,cA 8 199 7 53,xO 9 8 0,xO 10 8 1,aO 2 9,aO 3 10] [2,3] (.ret)) (.skip)) [1] (sR [lO 11 53 1,cA 12 137 11 53,aO 2 12,aI 3 0] [2,3] (.ret)))
theorem cg:Ba Tryz.prog 233 13 [(.tmp 2),(.tmp 3)] R8:=Ap Tryz.func233
def Qo:CC:=sR [bX 1 53 0 [0],aI 2 0] [1] (sQ [lO 3 53 1,cA 4 95 3 53,bQ .eql 5 3 4 1 3] [1,5] (cD 5 (sR [lO 6 53 1,cA 7 149 6 53,aO 2 7] [2] (.ret)) (.skip)) [1] (sR [lO 8 53 1,cA 9 192 8 53,aO 2 9] [2] (.ret)))
theorem YM:Ba Tryz.prog 232 10 [(.tmp 2)] Qo:=Ap Tryz.func232
def HE:CC:=sR [bB .lss 48 3 47 46 3] [2,3,7,10,46,47,48] (.seq (cD 48 (.skip) (.exit 0)) (.keep [2,3,7,10,46,47] (.seq (.block 1 (sR [mO 49 47,aO 11 49] [2,3,7,10,11,46,47] (sR [mO 50 10,lO 51 53 2,mO 52 11,⟨some 53,(.call { callee:=(.value (xT 50)),args:=#[(xT 51),(xT 52)],argTypes:=#[53,3] }),none,[],3,[],true⟩,mO 54 10,⟨some 55,(lD 53 3),none,[],5,[3],false⟩,mO 56 11,oO 57 (.call { callee:=(.value (xT 54)),args:=#[(xT 55),(xT 56)],argTypes:=#[53,3] }),bB .neq 58 51 53 57 51] [2,3,7,10,46,47,58] (cD 58 (sR [aI 4 0,aB 5 false,aI 6 0] [4,5,6] (.ret)) (.skip))))) (.keep [2,3,7,10,46,47] (.reg [bQ .add 59 3 47 1 3,mO 47 59] [2,3,7,10,46,47]))))) 
def Qd:CC:=sR [bX 2 53 0 [0],bX 3 53 1 [1],aI 4 0,aB 5 false,aI 6 0] [2,3] (sQ [lO 12 53 2,⟨some 13,(cL 95 #[(xT 12)] #[53]),none,[],1,[],true⟩,⟨some 14,(lD 53 3),none,[],2,[1],false⟩,cA 15 95 14 53,bB .neq 16 3 13 15 3,mO 17 16,lG 18 53 2 17 false,⟨some 19,(cL 232 #[(xT 18)] #[53]),(some (17,false)),[],7,[],true⟩,⟨some 20,(lD 53 3),(some (17,false)),[],8,[7],false⟩,oG 21 (cL 232 #[(xT 20)] #[53]) 17 false,oG 22 (bO .neq 3 19 21 3) 17 false,pT 23 17 22] [2,3,23] (cD 23 (sR [aI 4 0,aB 5 false,aI 6 0] [4,5,6] (.ret)) (.skip)) [2,3] (sR [lO 25 53 2,cA 26 233 25 53,mO 24 26,xO 27 24 0,xO 28 24 1,aO 7 27,aO 8 28] [2,3,7,8] (sQ [mO 29 8,bQ .neq 30 47 29 0 47] [2,3,7,8,30] (cD 30 (sR [mO 31 8,aI 4 0,aB 5 false,aO 6 31] [4,5,6] (.ret)) (.skip)) [2,3,7] (sR [lO 33 53 3,cA 34 233 33 53,mO 32 34,xO 35 32 0,xO 36 32 1,aO 9 35,aO 8 36] [2,3,7,8,9] (sQ [mO 37 8,bQ .neq 38 47 37 0 47,mO 39 38,mG 40 7 39 false,mG 41 9 39 false,oG 42 (bO .neq 3 40 41 3) 39 false,pT 43 39 42] [2,3,7,8,43] (cD 43 (sR [mO 44 8,aI 4 0,aB 5 false,aO 6 44] [4,5,6] (.ret)) (.skip)) [2,3,7] (sR [oO 10 (.assign (.func 150))] [2,3,7,10] (sQ [lO 45 53 2,cA 46 232 45 53,oO 47 (.move (nI 0))] [2,3,7,10,46,47] (.block 0 (.loop HE)) [7] (sR [mO 60 7,aO 4 60,aB 5 true,aI 6 0] [4,5,6] (.ret)))))))))
theorem YI:Ba Tryz.prog 197 61 [(.tmp 4),(.tmp 5),(.tmp 6)] Qd:=Ap Tryz.func197
def GX:CC:=sR [bB .lss 31 3 30 29 3] [2,3,29,30,31] (.seq (cD 31 (.skip) (.exit 0)) (.keep [2,3,29,30] (.seq (.block 1 (sR [mO 32 30,aO 9 32] [2,3,9,29,30] (sR [lO 34 53 2,mO 35 9,cB 36 194 34 35 53 3,mO 33 36,xO 37 33 0,xO 38 33 1,aL 10 53 [2],sT 53 10 37,aO 11 38] [2,3,9,10,11,29,30] (sQ [mO 39 11,bQ .neq 40 47 39 0 47] [2,3,9,10,11,29,30,40] (cD 40 (sR [mO 41 11,aB 4 false,aO 5 41] [4,5] (.ret)) (.skip)) [2,3,9,10,29,30] (sR [lO 43 53 3,mO 44 9,cB 45 194 43 44 53 3,mO 42 45,xO 46 42 0,xO 47 42 1,aL 12 53 [3],sT 53 12 46,aO 11 47] [2,3,10,11,12,29,30] (sQ [mO 48 11,bQ .neq 49 47 48 0 47] [2,3,10,11,12,29,30,49] (cD 49 (sR [mO 50 11,aB 4 false,aO 5 50] [4,5] (.ret)) (.skip)) [2,3,10,12,29,30] (sR [lO 52 53 10,lO 53 53 12,cB 54 147 52 53 53 53,mO 51 54,xO 55 51 0,xO 56 51 1,aO 13 55,aO 14 56] [2,3,13,14,29,30] (sR [mO 57 14,bQ .neq 58 47 57 0 47,mO 59 58,mG 60 13 59 false,oG 61 (.unOp .not 4 (xT 60)) 59 false,pT 62 59 61] [2,3,14,29,30,62] (cD 62 (sR [mO 63 14,aB 4 false,aO 5 63] [4,5] (.ret)) (.skip)))))))))) (.keep [2,3,29,30] (.reg [bQ .add 64 3 30 1 3,mO 30 64] [2,3,29,30]))))) 
def Ox:CC:=sR [bX 2 53 0 [0],bX 3 53 1 [1],aB 4 false,aI 5 0] [2,3] (sR [lO 16 53 2,lO 17 53 3,cB 18 197 16 17 53 53,mO 15 18,xO 19 15 0,xO 20 15 1,xO 21 15 2,aO 6 19,aO 7 20,aO 8 21] [2,3,6,7,8] (sQ [mO 22 8,bQ .neq 23 47 22 0 47,mO 24 23,mG 25 7 24 false,oG 26 (.unOp .not 4 (xT 25)) 24 false,pT 27 24 26] [2,3,6,8,27] (cD 27 (sR [mO 28 8,aB 4 false,aO 5 28] [4,5] (.ret)) (.skip)) [2,3,6] (sQ [mO 29 6,oO 30 (.move (nI 0))] [2,3,29,30] (.block 0 (.loop GX)) [] (sR [aB 4 true,aI 5 0] [4,5] (.ret)))))
theorem XR:Ba Tryz.prog 147 65 [(.tmp 4),(.tmp 5)] Ox:=Ap Tryz.func147
@[simp] theorem pY:An Tryz.prog 316 0=some 0:=by kernel_rfl
@[simp] theorem yW (ps:List (Nat × A)):Cc Tryz.prog 316 ps=(CI (fun i=>([(0,1)]:List (Nat × Nat))[i]?) [A.v (Value.int u64 0)] ps).map A.agg:=by kernel_rfl
def LQ:CC:=sR [mO 4 0,mO 5 0,nC 6 5,fO 7 316 6 0,lO 8 51 7,mO 9 1,bB .xor 10 51 8 9 51,oO 11 (.binOp .mul 51 (xT 10) (.const (.int .u64 1099511628211)) 51),nC 12 4,fO 13 316 12 0,sT 51 13 11] [0] (.reg [mO 14 0,nC 15 14,fO 16 316 15 0,lO 17 51 16,mO 18 0,nC 19 18,fO 20 316 19 0,lO 21 51 20,oO 22 (.binOp .shr 51 (xT 21) (.const (.int .u64 29)) 269),bB .xor 23 51 17 22 51,nC 24 14,fO 25 316 24 0,sT 51 25 23] [])
theorem Th:Ba Tryz.prog 269 26 [] LQ:=Ap Tryz.func269
def IE:CC:=sR [bB .lss 38 3 37 36 3] [1,4,5,6,36,37,38] (.seq (cD 38 (.skip) (.exit 0)) (.keep [1,4,5,6,36,37] (.seq (.block 1 (sR [mO 39 37,aO 8 39] [1,4,5,6,8,36,37] (.reg [mO 40 5,lO 41 53 1,mO 42 8,cB 43 150 41 42 53 3,oO 44 (.call { callee:=(.value (xT 40)),args:=#[(xT 43)],argTypes:=#[51] })] [1,4,5,6,36,37]))) (.reg [bQ .add 45 3 37 1 3,mO 37 45] [1,4,5,6,36,37]))))
def IJ:CC:=sR [bB .lss 48 3 47 46 3] [1,4,5,46,47,48] (.seq (cD 48 (.skip) (.exit 2)) (.keep [1,4,5,46,47] (.seq (.block 3 (sR [mO 49 47,aO 9 49] [1,4,5,9,46,47] (sR [lO 51 53 1,mO 52 9,cB 53 194 51 52 53 3,mO 50 53,xO 54 50 0,xO 55 50 1,aL 10 53 [2],sT 53 10 54,aO 11 55] [1,4,5,10,11,46,47] (sQ [mO 56 11,bQ .neq 57 47 56 0 47] [1,4,5,10,11,46,47,57] (cD 57 (sR [mO 58 11,oO 2 (.assign (.const (.int .u64 0))),aO 3 58] [2,3] (.ret)) (.skip)) [1,4,5,10,46,47] (sR [lO 60 53 10,cA 61 258 60 53,mO 59 61,xO 62 59 0,xO 63 59 1,aO 12 62,aO 11 63] [1,4,5,11,12,46,47] (sQ [mO 64 11,bQ .neq 65 47 64 0 47] [1,4,5,11,12,46,47,65] (cD 65 (sR [mO 66 11,oO 2 (.assign (.const (.int .u64 0))),aO 3 66] [2,3] (.ret)) (.skip)) [1,4,5,12,46,47] (.reg [mO 67 5,mO 68 12,oO 69 (.call { callee:=(.value (xT 67)),args:=#[(xT 68)],argTypes:=#[51] })] [1,4,5,46,47]))))))) (.keep [1,4,5,46,47] (.reg [bQ .add 70 3 47 1 3,mO 47 70] [1,4,5,46,47]))))) 
def Tx:CC:=sR [bX 1 53 0 [0],oO 2 (.assign (.const (.int .u64 0))),aI 3 0] [1] (sR [oO 13 (.build 316 #[(0,(.const (.int .u64 14695981039346656037)))]),bX 14 316 13 [1],aO 4 14] [1,4] (sR [mO 15 4,oO 16 (.makeFunc (.func 269) #[(xT 15)] #[]),aO 5 16] [1,4,5] (sR [mO 17 5,lO 18 53 1,cA 19 95 18 53,oO 20 (.convert 3 51 (xT 19)),oO 21 (.call { callee:=(.value (xT 17)),args:=#[(xT 20)],argTypes:=#[51] })] [1,4,5] (sR [lO 23 53 1,cA 24 233 23 53,mO 22 24,xO 25 22 0,xO 26 22 1,aO 6 25,aO 7 26] [1,4,5,6,7] (sQ [mO 27 7,bQ .neq 28 47 27 0 47] [1,4,5,6,7,28] (cD 28 (sR [mO 29 7,oO 2 (.assign (.const (.int .u64 0))),aO 3 29] [2,3] (.ret)) (.skip)) [1,4,5,6] (sR [mO 30 5,lO 31 53 1,cA 32 232 31 53,oO 33 (.convert 3 51 (xT 32)),oO 34 (.call { callee:=(.value (xT 30)),args:=#[(xT 33)],argTypes:=#[51] })] [1,4,5,6] (sQ [lO 35 53 1,cA 36 232 35 53,oO 37 (.move (nI 0))] [1,4,5,6,36,37] (.block 0 (.loop IE)) [1,4,5,6] (sQ [mO 46 6,oO 47 (.move (nI 0))] [1,4,5,46,47] (.block 2 (.loop IJ)) [4] (sR [mO 71 4,nC 72 71,fO 73 316 72 0,lO 74 51 73,aO 2 74,aI 3 0] [2,3] (.ret))))))))))
theorem ca:Ba Tryz.prog 258 75 [(.tmp 2),(.tmp 3)] Tx:=Ap Tryz.func258
@[simp] theorem AgP:DB Tryz.prog 164=some 1:=by kernel_rfl
@[simp] theorem Agi:DB Tryz.prog 274=some 1:=by kernel_rfl
@[simp] theorem Af5:DB Tryz.prog 302=some 9:=by kernel_rfl
@[simp] theorem Adh:DQ Tryz.prog 164=some false:=by kernel_rfl
@[simp] theorem AeJ:DQ Tryz.prog 274=some false:=by kernel_rfl
@[simp] theorem Ac9:DQ Tryz.prog 302=some true:=by kernel_rfl
@[simp] theorem AgY:BU Tryz.prog 3=some (Value.int i64 0):=by kernel_rfl
@[simp] theorem Ace:BU Tryz.prog 302=some (Value.agg #[Value.int u64 0,Value.pointer none,Value.int i64 0,Value.int i64 0,Value.int i64 0,Value.int i64 0,Value.int i64 0,Value.int i64 0,Value.int u64 0]):=by kernel_rfl
@[simp] theorem AeT:Co Tryz.prog 3=some 8:=by kernel_rfl
@[simp] theorem zp:Co Tryz.prog 302=some 72:=by kernel_rfl
@[simp] theorem qt:An Tryz.prog 276 0=some 0:=by kernel_rfl
@[simp] theorem qu:An Tryz.prog 276 1=some 1:=by kernel_rfl
@[simp] theorem qm:An Tryz.prog 302 0=some 0:=by kernel_rfl
@[simp] theorem pW:An Tryz.prog 302 1=some 1:=by kernel_rfl
@[simp] theorem AaZ (ps:List (Nat × A)):Cc Tryz.prog 276 ps=(CI (fun i=>([(0,1),(1,1)]:List (Nat × Nat))[i]?) [A.sl true [],A.sl true []] ps).map A.agg:=by kernel_rfl
@[simp] theorem zH (ps:List (Nat × A)):Cc Tryz.prog 302 ps=(CI (fun i=>([(0,1),(1,8)]:List (Nat × Nat))[i]?) [A.v (Value.int u64 0),A.v (Value.pointer none),A.v (Value.int i64 0),A.v (Value.int i64 0),A.v (Value.int i64 0),A.v (Value.int i64 0),A.v (Value.int i64 0),A.v (Value.int i64 0),A.v (Value.int u64 0)] ps).map A.agg:=by kernel_rfl
def SV:CC:=sR [oO 0 (.assign (.const (.pointer none)))] [] (sR [oN 1 (.makeSlice 164 (nI 8) (nI 8)) [0,1],oO 2 (.build 276 #[(1,(xT 1))]),bX 3 276 2 [0],aO 0 3] [0] (.ret))
theorem bx:Ba Tryz.prog 200 4 [(.tmp 0)] SV:=Ap Tryz.func200
def JB:CC:=sR [aI 4 0] [0,1] (sR [mO 5 1,bQ .add 6 3 5 1 3,mO 7 0,nC 8 7,fO 9 276 8 1,lO 10 164 9,bN 11 10 164,bB .rem 12 3 6 11 3,aO 4 12] [4] (.ret))
theorem Qa:Ba Tryz.prog 270 13 [(.tmp 4)] JB:=Ap Tryz.func270
def DY:CC:=sQ [mO 24 0,nC 25 24,fO 26 276 25 1,lO 27 164 26,mO 28 9,iO 29 164 27 28,lO 30 3 29,bQ .gtr 31 3 30 0 3] [0,1,5,8,9,31] (cD 31 (.skip) (.exit 0)) [0,1,5,8,9] (.block 1 (sR [mO 32 0,nC 33 32,fO 34 276 33 0,lS 35 274 34 3,mO 36 0,nC 37 36,fO 38 276 37 1,lS 39 164 38 7,mO 40 9,iO 41 164 39 40,lS 42 3 41 10,bQ .sub 43 3 42 1 3,iO 44 274 35 43,lS 45 302 44 13,⟨some 10,(.alloc 302),none,[1],14,[3,7,10,13],false⟩,sT 302 10 45] [0,1,5,8,9,10] (sQ [fO 46 302 10 0,lO 47 51 46,mO 48 1,bB .eql 49 51 47 48 51] [0,1,5,8,9,10,49] (cD 49 (sR [fO 51 302 10 1,lO 52 53 51,lO 53 53 5,cB 54 147 52 53 53 53,mO 50 54,xO 55 50 0,xO 56 50 1,aO 11 55,aO 12 56] [0,1,5,8,9,11,12] (sR [mO 57 12,bQ .neq 58 47 57 0 47,mO 59 58,mG 60 11 59 false,pT 61 59 60] [0,1,5,8,9,12,61] (cD 61 (sR [mO 62 9,mO 63 12,aO 6 62,aO 7 63] [6,7] (.ret)) (.skip)))) (.skip)) [0,1,5,8,9] (.reg [mO 64 8,mO 65 9,oO 66 (.call { callee:=(.value (xT 64)),args:=#[(xT 65)],argTypes:=#[3] }),aO 9 66] [0,1,5,8,9])))) 
def JC:CC:=sR [bX 5 53 2 [0],aI 6 0,aI 7 0] [0,1,5] (sR [mO 13 0,oO 14 (.makeFunc (.func 270) #[(xT 13)] #[]),aO 8 14] [0,1,5,8] (sR [mO 15 1,mO 16 0,nC 17 16,fO 18 276 17 1,lO 19 164 18,bN 20 19 164,oO 21 (.convert 3 51 (xT 20)),bB .rem 22 51 15 21 51,oO 23 (.convert 51 3 (xT 22)),aO 9 23] [0,1,5,8,9] (.seq (.block 0 (.loop DY)) (.keep [9] (sR [mO 67 9,aO 6 67,aI 7 0] [6,7] (.ret))))))
theorem PW:Ba Tryz.prog 259 68 [(.tmp 6),(.tmp 7)] JC:=Ap Tryz.func259
def FQ:CC:=sQ [mO 35 0,nC 36 35,fO 37 276 36 1,lO 38 164 37,mO 39 4,iO 40 164 38 39,lO 41 3 40,bQ .gtr 42 3 41 0 3] [0,2,4,18,19,20,42] (cD 42 (.skip) (.exit 2)) [0,2,4,18,19,20] (.block 3 (.reg [mO 43 0,mO 44 4,cB 45 270 43 44 236 3,aO 4 45] [0,2,4,18,19,20]))
def DN:CC:=sR [bB .lss 21 3 20 19 3] [0,18,19,20,21] (.seq (cD 21 (.skip) (.exit 0)) (.keep [0,18,19,20] (.seq (.block 1 (sR [mO 22 20,iO 23 274 18 20,lO 24 302 23,aL 3 302 [2],aO 2 22,sT 302 3 24] [0,2,3,18,19,20] (sR [fO 25 302 3 0,lO 26 51 25,mO 27 0,nC 28 27,fO 29 276 28 1,lO 30 164 29,bN 31 30 164,oO 32 (.convert 3 51 (xT 31)),bB .rem 33 51 26 32 51,oO 34 (.convert 51 3 (xT 33)),aO 4 34] [0,2,4,18,19,20] (.seq (.block 2 (.loop FQ)) (.keep [0,2,4,18,19,20] (.reg [mO 46 0,nC 47 46,fO 48 276 47 1,lO 49 164 48,mO 50 4,mO 51 2,bQ .add 52 3 51 1 3,iO 53 164 49 50,sT 3 53 52] [0,18,19,20])))))) (.keep [0,18,19,20] (.reg [bQ .add 54 3 20 1 3,mO 20 54] [0,18,19,20]))))) 
def Jv:CC:=sR [mO 5 0,mO 6 0,nC 7 6,fO 8 276 7 1,lO 9 164 8,bN 10 9 164,oO 11 (.binOp .mul 3 (nI 2) (xT 10) 3),oN 12 (.makeSlice 164 (xT 11) (xT 11)) [0,1],nC 13 5,fO 14 276 13 1,sT 164 14 12] [0] (sR [mO 15 0,nC 16 15,fO 17 276 16 0,lO 18 274 17,bN 19 18 274,oO 20 (.move (nI 0))] [0,18,19,20] (.block 0 (.loop DN)))
theorem PZ:Ba Tryz.prog 260 55 [] Jv:=Ap Tryz.func260
def Fo:CC:=sR [mO 84 0,nC 85 84,fO 86 276 85 0,lO 87 274 86,bN 88 87 274,bQ .sub 89 3 88 1 3,aO 4 89,aI 5 0] [4,5] (.ret) 
def IY:CC:=sR [bX 3 53 1 [1],aI 4 0,aI 5 0] [0,3] (sQ [mO 9 0,oO 10 (.binOp .eql 236 (xT 9) (.const (.pointer none)) 236)] [0,3,10] (cD 10 (sR [aI 4 0,aI 5 1] [4,5] (.ret)) (.skip)) [0,3] (sR [lO 12 53 3,cA 13 258 12 53,mO 11 13,xO 14 11 0,xO 15 11 1,aO 6 14,aO 7 15] [0,3,6,7] (sQ [mO 16 7,bQ .neq 17 47 16 0 47] [0,3,6,7,17] (cD 17 (sR [mO 18 7,aI 4 0,aO 5 18] [4,5] (.ret)) (.skip)) [0,3,6] (sR [mO 20 0,mO 21 6,lO 22 53 3,cE 23 259 20 21 22 236 51 53,mO 19 23,xO 24 19 0,xO 25 19 1,aO 8 24,aO 7 25] [0,3,6,7,8] (.seq (.block 0 (sR [mO 27 7,bQ .neq 28 47 27 0 47,aO 26 28] [0,3,6,7,8,26] (cD 26 (sR [mO 29 7,aI 4 0,aO 5 29] [4,5] (.ret)) (sR [mO 31 0,nC 32 31,fO 33 276 32 1,lO 34 164 33,mO 35 8,iO 36 164 34 35,lO 37 3 36,bQ .gtr 38 3 37 0 3,aO 30 38] [0,3,6,8,30] (cD 30 (sR [mO 39 0,nC 40 39,fO 41 276 40 1,lO 42 164 41,mO 43 8,iO 44 164 42 43,lO 45 3 44,bQ .sub 46 3 45 1 3,aO 4 46,aI 5 0] [4,5] (.ret)) (.skip)))))) (.keep [0,3,6,8] (sR [mO 47 0,mO 48 0,nC 49 48,fO 50 276 49 0,lS 51 274 50 4,mO 52 6,lO 53 53 3,oO 54 (.build 302 #[(0,(xT 52)),(1,(xT 53))]),⟨some 55,(.buildSlice 274 1 #[(0,(xT 54))]),none,[],8,[4],false⟩,aP 56 51 55 274 274 [2],nC 57 47,fO 58 276 57 0,sT 274 58 56] [0,8] (sR [mO 59 0,nC 60 59,fO 61 276 60 1,lO 62 164 61,mO 63 8,mO 64 0,nC 65 64,fO 66 276 65 0,lO 67 274 66,bN 68 67 274,iO 69 164 62 63,sT 3 69 68] [0] (sQ [mO 70 0,nC 71 70,fO 72 276 71 0,lO 73 274 72,bN 74 73 274,oO 75 (.binOp .mul 3 (nI 2) (xT 74) 3),mO 76 0,nC 77 76,fO 78 276 77 1,lO 79 164 78,bN 80 79 164,bB .gtr 81 3 75 80 3] [0,81] (cD 81 (.reg [mO 82 0,cA 83 260 82 236] [0]) (.skip)) [0] Fo)))))))))
theorem O2:Ba Tryz.prog 235 90 [(.tmp 4),(.tmp 5)] IY:=Ap Tryz.func235
def DU:CC:=sR [bB .lss 14 3 13 12 3] [0,3,6,12,13,14] (.seq (cD 14 (.skip) (.exit 0)) (.keep [0,3,6,12,13] (.seq (.block 1 (sR [mO 15 13,aO 7 15] [0,3,6,7,12,13] (sR [lO 17 53 3,mO 18 7,cB 19 194 17 18 53 3,mO 16 19,xO 20 16 0,xO 21 16 1,aL 8 53 [3],sT 53 8 20,aO 9 21] [0,3,6,8,9,12,13] (sQ [mO 22 9,bQ .neq 23 47 22 0 47] [0,3,6,8,9,12,13,23] (cD 23 (sR [mO 24 9,aN 4,aO 5 24] [4,5] (.ret)) (.skip)) [0,3,6,8,12,13] (sR [mO 26 0,lO 27 53 8,cB 28 235 26 27 236 53,mO 25 28,xO 29 25 0,xO 30 25 1,aO 10 29,aO 9 30] [0,3,6,9,10,12,13] (sQ [mO 31 9,bQ .neq 32 47 31 0 47] [0,3,6,9,10,12,13,32] (cD 32 (sR [mO 33 9,aN 4,aO 5 33] [4,5] (.ret)) (.skip)) [0,3,6,10,12,13] (.reg [mO 34 6,mO 35 10,oO 36 (.buildSlice 164 1 #[(0,(xT 35))]),aP 37 34 36 164 164 [4],aO 6 37] [0,3,6,12,13]))))))) (.keep [0,3,6,12,13] (.reg [bQ .add 38 3 13 1 3,mO 13 38] [0,3,6,12,13]))))) 
def JH:CC:=sR [bX 3 53 1 [2],aN 4,aI 5 0] [0,3] (sR [aN 6] [0,3,6] (sQ [lO 11 53 3,cA 12 137 11 53,oO 13 (.move (nI 0))] [0,3,6,12,13] (.block 0 (.loop DU)) [6] (sR [mO 39 6,aO 4 39,aI 5 0] [4,5] (.ret))))
theorem PV:Ba Tryz.prog 201 40 [(.tmp 4),(.tmp 5)] JH:=Ap Tryz.func201
def Et:CC:=sQ [mO 10 7,mO 11 0,bN 12 11 23,bB .lss 13 3 10 12 3] [0,6,7,13] (cD 13 (.skip) (.exit 0)) [0,6,7] (.seq (.block 1 (sR [mO 16 0,mO 17 7,iO 18 23 16 17,lO 19 25 18,lO 20 25 6,cB 21 50 19 20 25 25] [0,6,7,21] (cD 21 (sR [mO 22 0,mO 23 7,aO 4 22,aO 5 23] [4,5] (.ret)) (.skip)))) (.keep [0,6,7] (.reg [mO 14 7,bQ .add 15 3 14 1 3,aO 7 15] [0,6,7]))) 
def Kl:CC:=sR [bX 3 25 1 [1],aN 4,aI 5 0] [0,3] (sR [lO 8 25 3,cA 9 32 8 25,aL 6 25 [2],sT 25 6 9] [0,6] (sQ [aI 7 0] [0,6,7] (.block 0 (.loop Et)) [0,6] (sR [mO 24 0,lO 25 25 6,oO 26 (.buildSlice 23 1 #[(0,(xT 25))]),aP 27 24 26 23 23 [3],mO 28 0,bN 29 28 23,aO 4 27,aO 5 29] [4,5] (.ret))))
theorem QG:Ba Tryz.prog 211 30 [(.tmp 4),(.tmp 5)] Kl:=Ap Tryz.func211
def Dx:CC:=sQ [mO 10 7,mO 11 1,bN 12 11 23,bB .lss 13 3 10 12 3] [0,1,6,7,13] (cD 13 (.skip) (.exit 0)) [0,1,6,7] (.seq (.block 1 (sR [mO 17 0,mO 18 1,mO 19 7,iO 20 23 18 19,lO 21 25 20,cB 22 211 17 21 23 25,mO 16 22,xO 23 16 0,xO 24 16 1,aO 8 23,aO 9 24] [1,6,7,8,9] (sR [mO 25 8,aO 0 25] [0,1,6,7,9] (.reg [mO 26 6,mO 27 9,oO 28 (.buildSlice 164 1 #[(0,(xT 27))]),aP 29 26 28 164 164 [2],aO 6 29] [0,1,6,7])))) (.reg [mO 14 7,bQ .add 15 3 14 1 3,aO 7 15] [0,1,6,7])) 
def Jb:CC:=sR [aN 4,aN 5] [0,1] (sR [aN 6] [0,1,6] (sQ [aI 7 0] [0,1,6,7] (.block 0 (.loop Dx)) [0,6] (sR [mO 30 0,mO 31 6,aO 4 30,aO 5 31] [4,5] (.ret))))
theorem Ow:Ba Tryz.prog 165 32 [(.tmp 4),(.tmp 5)] Jb:=Ap Tryz.func165
def Fq:CC:=sQ [mO 34 10,mO 35 8,mO 36 6,bB .mul 37 3 35 36 3,bQ .rem 38 3 37 64 3,bB .lss 39 3 34 38 3] [0,1,6,7,8,9,10,39] (cD 39 (.skip) (.exit 2)) [0,1,6,7,8,9,10] (.seq (.block 3 (.reg [mO 42 9,oO 43 (.binOp .mul 51 (xT 42) (.const (.int .u64 2)) 51),aO 9 43] [0,1,6,7,8,9,10])) (.reg [mO 40 10,bQ .add 41 3 40 1 3,aO 10 41] [0,1,6,7,8,9,10]))
def FB:CC:=sQ [mO 20 8,mO 21 1,bN 22 21 22,bB .lss 23 3 20 22 3] [0,1,6,7,8,23] (cD 23 (.skip) (.exit 0)) [0,1,6,7,8] (.seq (.block 1 (sR [mO 26 1,mO 27 8,iO 28 22 26 27,lO 29 51 28,aO 9 29] [0,1,6,7,8,9] (sQ [mO 30 0,mO 31 9,cB 32 57 30 31 3 51,oO 33 (.unOp .not 4 (xT 32))] [0,1,6,7,8,9,33] (cD 33 (sR [aN 4,aB 5 false] [4,5] (.ret)) (.skip)) [0,1,6,7,8,9] (sQ [aI 10 0] [0,1,6,7,8,9,10] (.block 2 (.loop Fq)) [0,1,6,7,8,9] (sR [mO 44 6,bQ .gtr 45 3 44 0 3] [0,1,6,7,8,9,45] (cD 45 (.reg [mO 46 7,mO 47 8,mO 48 6,bB .mul 49 3 47 48 3,bQ .quo 50 3 49 64 3,mO 51 7,mO 52 8,mO 53 6,bB .mul 54 3 52 53 3,bQ .quo 55 3 54 64 3,iO 56 22 51 55,lO 57 51 56,mO 58 9,bB .add 59 51 57 58 51,iO 60 22 46 50,sT 51 60 59] [0,1,6,7,8]) (.skip))))))) (.keep [0,1,6,7,8] (.reg [mO 24 8,bQ .add 25 3 24 1 3,aO 8 25] [0,1,6,7,8]))) 
def MH:CC:=sR [aN 4,aB 5 false] [0,1] (sR [mO 11 0,cA 12 109 11 3,aO 6 12] [0,1,6] (sQ [mO 13 6,bQ .lss 14 3 13 0 3] [0,1,6,14] (cD 14 (sR [aN 4,aB 5 false] [4,5] (.ret)) (.skip)) [0,1,6] (sR [mO 15 0,mO 16 1,bN 17 16 22,cB 18 65 15 17 3 3,oN 19 (.makeSlice 22 (xT 18) (xT 18)) [0],aO 7 19] [0,1,6,7] (sQ [aI 8 0] [0,1,6,7,8] (.block 0 (.loop FB)) [7] (sR [mO 61 7,aO 4 61,aB 5 true] [4,5] (.ret))))))
theorem Um:Ba Tryz.prog 69 62 [(.tmp 4),(.tmp 5)] MH:=Ap Tryz.func69
@[simp] theorem qw:An Tryz.prog 102 0=some 0:=by kernel_rfl
@[simp] theorem qx:An Tryz.prog 102 1=some 1:=by kernel_rfl
@[simp] theorem qq:An Tryz.prog 102 2=some 2:=by kernel_rfl
@[simp] theorem qj:An Tryz.prog 102 3=some 3:=by kernel_rfl
@[simp] theorem AaO (ps:List (Nat × A)):Cc Tryz.prog 102 ps=(CI (fun i=>([(0,1),(1,1),(2,1),(3,1)]:List (Nat × Nat))[i]?) [A.sl true [],A.v (Value.int i64 0),A.v (Value.int i64 0),A.v (Value.int i64 0)] ps).map A.agg:=by kernel_rfl
def DT:CC:=sQ [mO 9 1,bQ .gtr 10 3 9 131072 3] [0,1,10] (cD 10 (.reg [aI 1 131072] [0,1]) (.skip)) [0,1] (sR [mO 11 0,mO 12 1,oO 13 (.build 102 #[(1,(xT 11)),(2,(xT 12))]),bX 14 102 13 [0],aO 4 14] [4] (.ret))
def HY:CC:=sQ [mO 7 1,bQ .lss 8 3 7 0 3] [0,1,8] (cD 8 (.reg [aI 1 0] [0,1]) (.skip)) [0,1] DT 
def MW:CC:=sR [oO 4 (.assign (.const (.pointer none)))] [0,1] (sQ [mO 5 0,bQ .lss 6 3 5 1 3] [0,1,6] (cD 6 (.reg [aI 0 1] [0,1]) (.skip)) [0,1] HY)
theorem Uy:Ba Tryz.prog 54 15 [(.tmp 4)] MW:=Ap Tryz.func54
def Hm:CC:=sR [aI 4 0] [0,1] (sQ [mO 5 1,bQ .lss 6 3 5 0 3,mO 7 6,mG 8 1 7 false,mG 9 0 7 false,oG 10 (.nilCheck (xT 9)) 7 false,fG 11 102 10 0 7 false,lG 12 41 11 7 false,oG 13 (bL 12 41) 7 false,oG 14 (bO .geq 3 8 13 3) 7 false,pT 15 7 14] [0,1,15] (cD 15 (sR [oO 4 (.assign (.const (.int .i64 (-1))))] [4] (.ret)) (.skip)) [0,1] (sR [mO 16 0,nC 17 16,fO 18 102 17 0,lO 19 41 18,mO 20 1,iO 21 41 19 20,lO 22 22 21,bN 23 22 22,aO 4 23] [4] (.ret)))
theorem MM:Ba Tryz.prog 169 24 [(.tmp 4)] Hm:=Ap Tryz.func169
def C8:CC:=sQ [mO 17 8,mO 18 2,bB .lss 19 3 17 18 3] [0,1,2,7,8,19] (cD 19 (.skip) (.exit 0)) [0,1,2,7,8] (.seq (.block 1 (.reg [mO 22 0,nC 23 22,fO 24 102 23 0,lS 25 41 24 3,mO 26 1,mO 27 0,nC 28 27,fO 29 102 28 0,lS 30 41 29 8,mO 31 1,iO 32 41 30 31,lS 33 22 32 11,⟨some 34,(.buildSlice 22 1 #[(0,(.const (.int .u64 0)))]),none,[],12,[3,8,11],false⟩,⟨some 35,(bC .append #[(xT 33),(xT 34)] #[22,22]),none,[1],13,[3],false⟩,iO 36 41 25 26,sT 22 36 35] [0,1,2,7,8])) (.reg [mO 20 8,bQ .add 21 3 20 1 3,aO 8 21] [0,1,2,7,8])) 
def HQ:CC:=sR [aI 6 0] [0,1,2] (sR [mO 9 0,nC 10 9,fO 11 102 10 0,lO 12 41 11,mO 13 1,iO 14 41 12 13,lO 15 22 14,bN 16 15 22,aO 7 16] [0,1,2,7] (sQ [aI 8 0] [0,1,2,7,8] (.block 0 (.loop C8)) [0,2,7] (sR [mO 37 0,mO 38 0,nC 39 38,fO 40 102 39 3,lO 41 3 40,mO 42 2,bB .add 43 3 41 42 3,nC 44 37,fO 45 102 44 3,sT 3 45 43] [7] (sR [mO 46 7,aO 6 46] [6] (.ret)))))
theorem NB:Ba Tryz.prog 170 47 [(.tmp 6)] HQ:=Ap Tryz.func170
def Ic:CC:=sR [aI 6 0] [0,1,2] (sQ [mO 7 0,mO 8 1,cB 9 169 7 8 94 3,bQ .lss 10 3 9 0 3,mO 11 10,mG 12 2 11 false,oG 13 (.binOp .lss 3 (xT 12) (nI 0) 3) 11 false,pT 14 11 13,mO 15 14,mG 16 2 15 false,mG 17 0 15 false,oG 18 (.nilCheck (xT 17)) 15 false,fG 19 102 18 2 15 false,lG 20 3 19 15 false,mG 21 0 15 false,oG 22 (.nilCheck (xT 21)) 15 false,fG 23 102 22 3 15 false,lG 24 3 23 15 false,oG 25 (bO .sub 3 20 24 3) 15 false,oG 26 (bO .gtr 3 16 25 3) 15 false,pT 27 15 26,mO 28 27,mG 29 2 28 false,mG 30 0 28 false,oG 31 (.nilCheck (xT 30)) 28 false,fG 32 102 31 1 28 false,⟨some 33,(lD 3 32),(some (28,false)),[],26,[],true⟩,mG 34 0 28 false,mG 35 1 28 false,⟨some 36,(cL 169 #[(xT 34),(xT 35)] #[94,3]),(some (28,false)),[],29,[26],false⟩,oG 37 (bO .sub 3 33 36 3) 28 false,oG 38 (bO .gtr 3 29 37 3) 28 false,pT 39 28 38] [0,1,2,39] (cD 39 (sR [oO 6 (.assign (.const (.int .i64 (-1))))] [6] (.ret)) (.skip)) [0,1,2] (sR [mO 40 0,mO 41 1,mO 42 2,cE 43 170 40 41 42 94 3 3,aO 6 43] [6] (.ret)))
theorem Oa:Ba Tryz.prog 172 44 [(.tmp 6)] Ic:=Ap Tryz.func172
def Cb:CC:=sR [mO 57 6,bQ .sub 58 3 57 1 3,mO 59 0,mO 60 6,bQ .sub 61 3 60 1 3,mO 62 1,cE 63 170 59 61 62 94 3 3,aO 4 58,aO 5 63] [4,5] (.ret) 
def Hj:CC:=sR [aI 4 0,aI 5 0] [0,1] (sQ [mO 7 1,bQ .lss 8 3 7 0 3,mO 9 8,mG 10 1 9 false,mG 11 0 9 false,oG 12 (.nilCheck (xT 11)) 9 false,fG 13 102 12 2 9 false,lG 14 3 13 9 false,mG 15 0 9 false,oG 16 (.nilCheck (xT 15)) 9 false,fG 17 102 16 3 9 false,lG 18 3 17 9 false,oG 19 (bO .sub 3 14 18 3) 9 false,oG 20 (bO .gtr 3 10 19 3) 9 false,pT 21 9 20] [0,1,21] (cD 21 (sR [oO 4 (.assign (.const (.int .i64 (-1)))),oO 5 (.assign (.const (.int .i64 (-1))))] [4,5] (.ret)) (.skip)) [0,1] (sR [mO 22 0,nC 23 22,fO 24 102 23 0,lO 25 41 24,bN 26 25 41,aO 6 26] [0,1,6] (sQ [mO 27 6,bQ .eql 28 3 27 0 3,mO 29 28,mG 30 1 29 false,mG 31 0 29 false,oG 32 (.nilCheck (xT 31)) 29 false,fG 33 102 32 1 29 false,⟨some 34,(lD 3 33),(some (29,false)),[],7,[],true⟩,mG 35 0 29 false,mG 36 6 29 false,oG 37 (.binOp .sub 3 (xT 36) (nI 1) 3) 29 false,⟨some 38,(cL 169 #[(xT 35),(xT 37)] #[94,3]),(some (29,false)),[],11,[7],false⟩,oG 39 (bO .sub 3 34 38 3) 29 false,oG 40 (bO .gtr 3 30 39 3) 29 false,mG 41 40 29 false,mG 42 6 41 true,oG 43 (.binOp .lss 3 (xT 42) (nI 16) 3) 41 true,oG 44 (.pick (xT 41) (xT 43) (nB false)) 29 false,pT 45 29 44] [0,1,6,45] (cD 45 (sR [mO 46 0,mO 47 0,nC 48 47,fO 49 102 48 0,lO 50 41 49,oO 51 (.buildSlice 41 1 #[(0,nS)]),aP 52 50 51 41 41 [1],nC 53 46,fO 54 102 53 0,sT 41 54 52] [0,1,6] (.reg [mO 55 6,bQ .add 56 3 55 1 3,aO 6 56] [0,1,6])) (.skip)) [0,1,6] (.stop Cb))))
theorem Mz:Ba Tryz.prog 104 64 [(.tmp 4),(.tmp 5)] Hj:=Ap Tryz.func104
end Go.Proofs.YtbjmaoedheiigaaGreat
namespace Go.G
open Go.RowKit
mutual
def A.soft:A→A
 |.sl _ xs=>.sl false (A.softL xs)
 |.agg cs=>.agg (A.softL cs)
 |.tup cs=>.tup (A.softL cs)
 |.pim cs=>.pim (A.softL cs)
 |.ifc t x=>.ifc t (A.soft x)
 |.any=>.any
 |.v x=>.v x
 |.pob o u off=>.pob o u off
 |.osl o u sz off len=>.osl o u sz off len
 |.pel o u i j=>.pel o u i j
 |.fnc f fs cs=>.fnc f fs cs
def A.softL:List A→List A
 |[]=>[]
 |x::xs=>A.soft x::A.softL xs
end
theorem C3:∀ l:List A,A.softL l=l.map A.soft
 |[]=>by simp[A.softL]
 |x::l=>by simp[A.softL,C3 l]
theorem W5 (a:A):a.soft.cells=a.cells.map A.soft:=by cases a<;>simp[A.soft,A.cells,C3]
theorem ZO:∀ l:List A,(l.map A.soft).flatMap A.cells=(l.flatMap A.cells).map A.soft
 |[]=>rfl
 |x::l=>by simp[W5,ZO l]
theorem fM (a:A):a.soft.one=a.one:=by cases a<;>simp[A.soft,A.one]
theorem Rel.soft {w:World} {I:Nat→Prop} {μ:Mu} {a:A} {x:Value} (h:Rel w I μ a x):Rel w I μ a.soft x:=by
 induction h with
 |any=>simpa[A.soft] using Rel.any _ _
 |v=>simpa[A.soft] using Rel.v _ _
 |slN μ f a cap h=>
  simp only[A.soft,A.softL];exact .slN _ _ _ _ (fun h=>nomatch h)
 |sl μ f b off n cap sz xs g hb hn hc hf hs h1 hcell hr ih=>
  simp only[A.soft,C3];refine .sl _ _ b off n cap sz _ g hb (by simpa using hn) (by simpa using hc) (fun h=>nomatch h) (fun x hx=>?_) (fun k y hk=>?_) (fun k y hk=>?_) (fun k y hk=>?_)
  ·obtain⟨x',hx',rfl⟩:=List.mem_map.1 hx;simpa[W5] using hs x' hx'
  all_goals
   rw[ZO,List.getElem?_map,Option.map_eq_some_iff] at hk;obtain⟨y',hy,rfl⟩:=hk
  ·rw[fM];exact h1 k y' hy
  ·exact hcell k y' hy
  ·exact ih k y' hy
 |agg μ cs vs hl _ ih=>
  simp only[A.soft,C3];refine .agg _ _ _ (by simpa using hl) fun k y hk=>?_;rw[List.getElem?_map,Option.map_eq_some_iff] at hk;obtain⟨y',hy,rfl⟩:=hk;exact ih k y' hy
 |tup μ cs vs hl _ ih=>
  simp only[A.soft,C3];refine .tup _ _ _ (by simpa using hl) fun k y hk=>?_;rw[List.getElem?_map,Option.map_eq_some_iff] at hk;obtain⟨y',hy,rfl⟩:=hk;exact ih k y' hy
 |pim μ b off cs g hb h1 hcell hr ih=>
  simp only[A.soft,C3];refine .pim _ b off _ g hb (fun k y hk=>?_) (fun k y hk=>?_) (fun k y hk=>?_);all_goals
   rw[List.getElem?_map,Option.map_eq_some_iff] at hk;obtain⟨y',hy,rfl⟩:=hk
  ·rw[fM];exact h1 k y' hy
  ·exact hcell k y' hy
  ·exact ih k y' hy
 |pob _ _ _ _ _ _ h1 h2 h3=>simpa[A.soft] using Rel.pob _ _ _ _ _ _ h1 h2 h3
 |osl _ _ _ _ _ _ _ _ h1 h2 h4 h5 h3=>simpa[A.soft] using Rel.osl _ _ _ _ _ _ _ _ h1 h2 h4 h5 h3
 |pel _ _ _ _ _ _ _ h1 h2 h3=>simpa[A.soft] using Rel.pel _ _ _ _ _ _ _ h1 h2 h3
 |fnc _ _ _ _ _ _ hl0 h0 hl h _ _=>simpa[A.soft] using Rel.fnc _ _ _ _ _ _ hl0 h0 hl h
 |ifc _ _ _ _ _ ih=>simpa[A.soft] using Rel.ifc _ _ _ _ ih
theorem Spec.soft {P:Program} {f:FuncId} {as' as'':List A} {r:A} (h:Spec P f as'' r) (e:A.softL as'=as''):Spec P f as' r:=by
 subst e;refine⟨h.1,fun w I vs hI ht hn ha=>h.2 w I vs hI ht (by simpa[C3] using hn) fun k y hk=>?_⟩;rw[C3,List.getElem?_map,Option.map_eq_some_iff] at hk;obtain⟨y',hy,rfl⟩:=hk;exact(ha k y' hy).soft
theorem SpecB.soft {P:Program} {f:FuncId} {as' as'':List A} {r:A} (h:SpecB P f as'' r) (e:A.softL as'=as''):SpecB P f as' r:=by
 subst e;refine⟨h.1,fun w I J vs hI hJ ht hn ha=>h.2 w I J vs hI hJ ht (by simpa[C3] using hn) fun k y hk=>?_⟩;rw[C3,List.getElem?_map,Option.map_eq_some_iff] at hk;obtain⟨y',hy,rfl⟩:=hk;exact(ha k y' hy).soft
theorem rj {H:Hp} {a:A} (h:a.bare=true):J3 H a a.soft:=fun c w I μ v hs hr=>(Ad h c w I μ v hs hr).soft
end Go.G
