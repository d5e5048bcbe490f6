/-
 Texts,merged,without what is not reached.
-/
import Derived.Test.YtbjmaoedheiigaaGreatKIa
set_option linter.unusedSimpArgs false
set_option linter.unusedVariables false
namespace Go.G
open Go.RowKit
def Up (c:Cx) (Q:Exit→Sta→Prop):Exit→Act→World→Prop:=fun e a w=>∃ st I μ,SR c st a w I μ∧Q e st
def AWP (c:Cx) (code:Code) (Q:Exit→Sta→Prop) (st:Sta):Prop:=∀ a w I μ,SR c st a w I μ→code.wp c.P (Up c Q) a w
def sP (c:Cx) (y:Code) (Q:Exit→Sta→Prop):Exit→Sta→Prop
 |.normal,st=>AWP c y Q st
 |e,st=>Q e st
def Cf (id:Nat) (Q:Exit→Sta→Prop):Exit→Sta→Prop
 |.exit id',st=>if id'=id then Q .normal st else Q (.exit id') st
 |e,st=>Q e st
section
variable {c:Cx} {Q:Exit→Sta→Prop} {st:Sta} {x y:Code}
@[simp] theorem u7:sP c y Q .normal st=AWP c y Q st:=rfl
@[simp] theorem yr {i:Nat}:sP c y Q (.exit i) st=Q (.exit i) st:=rfl
@[simp] theorem Abp:sP c y Q .ret st=Q .ret st:=rfl
@[simp] theorem ra {i:Nat}:Cf i Q .normal st=Q .normal st:=rfl
@[simp] theorem uV {i:Nat}:Cf i Q .ret st=Q .ret st:=rfl
@[simp] theorem Y4 {i:Nat}:Cf i Q (.exit i) st=Q .normal st:=by simp[Cf]
theorem Pk {i j:Nat} (h:j ≠ i):Cf i Q (.exit j) st=Q (.exit j) st:=by simp[Cf,h]
theorem AWP.mono {Q':Exit→Sta→Prop} (h:AWP c x Q st) (hq:∀ e st,Q e st→Q' e st):AWP c x Q' st:=fun a w I μ hs=>
 wp_mono (h a w I μ hs) fun e a' w' ⟨st',I',μ',h1,h2⟩=>⟨st',I',μ',h1,hq e st' h2⟩
theorem ux (h:AWP c x (sP c y Q) st):AWP c (.seq x y) Q st:=fun a w I μ hs=>
 wp_seq (wp_mono (h a w I μ hs) fun e a' w' ⟨st',I',μ',h1,h2⟩=>by
  cases e<;>first | exact h2 a' w' I' μ' h1 | exact⟨st',I',μ',h1,h2⟩)
theorem mN (h:Q .normal st):AWP c .skip Q st:=fun a w I μ hs=>wp_skip ⟨st,I,μ,hs,h⟩
theorem qb {i:Nat} (h:Q (.exit i) st):AWP c (.exit i) Q st:=fun a w I μ hs=>wp_exit ⟨st,I,μ,hs,h⟩
theorem tT (h:Q .ret st):AWP c .ret Q st:=fun a w I μ hs=>wp_ret ⟨st,I,μ,hs,h⟩
theorem jS {i:Nat} (h:AWP c x (Cf i Q) st):AWP c (.block i x) Q st:=fun a w I μ hs=>
 wp_block (wp_mono (h a w I μ hs) fun e a' w' ⟨st',I',μ',h1,h2⟩=>by
  cases e with
  |exit j=>
   simp only[Exit.inBlock]
   by_cases hj:j=i
   ·subst hj;rw[if_pos rfl];exact⟨st',I',μ',h1,by simpa using h2⟩
   ·rw[if_neg hj];exact⟨st',I',μ',h1,by rwa [Pk hj] at h2⟩
  |_=>exact⟨st',I',μ',h1,h2⟩)
theorem pH {o:Operand} {b:Bool} (hb:evs st.s o = .v (.bool b)) (ht:b=true→AWP c x Q st) (hf:b=false→AWP c y Q st):AWP c (.cond o x y) Q st:=fun a w I μ hs=>by
 have h1:=hs.evs o
 rw[hb] at h1
 generalize hu:a.eval o=u at h1
 cases h1
 exact wp_cond_split hu (fun h=>ht h a w I μ hs) (fun h=>hf h a w I μ hs)
def Zp (P:Program) (body:Code) (Q:Exit→Act→World→Prop) (a:Act) (w:World):Prop:=
 ∀ (b:Frame) (k:List Item) (cs:List Frame),∃ e a' w',Q e a' w'∧Arrives P (lone (b.at a (.code body :: .inLoop body::k)) cs w) b k cs e a' w'
theorem fV {P:Program} {body:Code} {Q:Exit→Act→World→Prop} {a:Act} {w:World} (h:body.wp P (Exit.then (Zp P body Q) Q) a w):Zp P body Q a w:=by
 intro b k cs
 obtain⟨e,a₁,w₁,hq,harr⟩:=h b (.inLoop body::k) cs
 cases e with
 |normal=>
  obtain⟨e₂,a₂,w₂,hq₂,harr₂⟩:=hq b k cs
  exact⟨e₂,a₂,w₂,hq₂,.of_steps (Steps.trans harr (.one step_inLoop)) harr₂⟩
 |exit id=>exact⟨_,a₁,w₁,hq,.pass (x:=.inLoop body) rfl (fun _ _=>.inl (by simp)) harr⟩
 |goto l=>exact⟨_,a₁,w₁,hq,.pass (x:=.inLoop body) rfl (fun _ _=>.inl (by simp)) harr⟩
 |ret=>exact⟨_,a₁,w₁,hq,.pass (x:=.inLoop body) rfl (fun _ _=>.inl (by simp)) harr⟩
 |panic ch=>exact⟨_,a₁,w₁,hq,.pass (x:=.inLoop body) rfl (fun _ _=>.inl (by simp)) harr⟩
 |outgrown=>exact⟨_,a₁,w₁,hq,.pass (x:=.inLoop body) rfl (fun _ _=>.inl (by simp)) harr⟩
theorem jH {P:Program} {body:Code} {Q:Exit→Act→World→Prop} {a:Act} {w:World} (h:Zp P body Q a w):(Code.loop body).wp P Q a w:=by
 intro b k cs
 obtain⟨e,a₁,w₁,hq,harr⟩:=h b k cs
 exact⟨e,a₁,w₁,hq,.of_steps (.one step_loop) harr⟩
def AHead (c:Cx) (body:Code) (Q:Exit→Sta→Prop) (st:Sta):Prop:=∀ a w I μ,SR c st a w I μ→Zp c.P body (Up c Q) a w
def iw (c:Cx) (body:Code) (Q:Exit→Sta→Prop):Exit→Sta→Prop
 |.normal,st=>AHead c body Q st
 |e,st=>Q e st
@[simp] theorem sB:iw c x Q .normal st=AHead c x Q st:=rfl
@[simp] theorem wU {i:Nat}:iw c x Q (.exit i) st=Q (.exit i) st:=rfl
@[simp] theorem zu:iw c x Q .ret st=Q .ret st:=rfl
theorem ZV (h:AWP c x (iw c x Q) st):AHead c x Q st:=fun a w I μ hs=>
 fV (wp_mono (h a w I μ hs) fun e a' w' ⟨st',I',μ',h1,h2⟩=>by
  cases e<;>first | exact h2 a' w' I' μ' h1 | exact⟨st',I',μ',h1,h2⟩)
theorem oD (h:AHead c x Q st):AWP c (.loop x) Q st:=fun a w I μ hs=>jH (h a w I μ hs)
def Le (c:Cx) (st st':Sta):Prop:=∀ a w I μ,SR c st a w I μ→∃ I' μ',SR c st' a w I' μ'
theorem Le.refl:Le c st st:=fun _ _ I μ h=>⟨I,μ,h⟩
theorem Le.trans {st1 st2 st3:Sta} (h:Le c st1 st2) (k:Le c st2 st3):Le c st1 st3:=fun a w I μ hs=>let ⟨I',μ',h1⟩:=h a w I μ hs;k a w I' μ' h1
theorem AWP.le {st':Sta} (h:Le c st st') (k:AWP c x Q st'):AWP c x Q st:=fun a w I μ hs=>let ⟨I',μ',h1⟩:=h a w I μ hs;k a w I' μ' h1
theorem AHead.le {st':Sta} (h:Le c st st') (k:AHead c x Q st'):AHead c x Q st:=fun a w I μ hs=>let ⟨I',μ',h1⟩:=h a w I μ hs;k a w I' μ' h1
theorem qf {s s':Nat→A} {H:Hp} (h:∀ t,s' t=s t∨s' t = .any):Le c ⟨s,H⟩ ⟨s',H⟩:=fun a w I μ hs=>
 ⟨I,μ,hs.sim,hs.size,hs.defers,fun t=>by
  rcases h t with e | e
  ·show Rel w I μ (s' t) _
   rw[e];exact hs.rel t
  ·show Rel w I μ (s' t) _
   rw[e];exact .any _ _⟩
theorem ca (s:Nat→A):∀ (l:List (Nat × A)),(∀ p,p ∈ l→s p.1=p.2)→∀ t,lk l t=s t∨lk l t = .any
 |[],_,t=>.inr rfl
 |(k,x)::l,h,t=>by
  unfold lk
  by_cases e:k=t
  ·subst e;rw[if_pos rfl];exact .inl (h (k,x) (by simp)).symm
  ·rw[if_neg e];exact ca s l (fun p hp=>h p (by simp[hp])) t
theorem AA {s:Nat→A} {H:Hp} (l:List (Nat × A)) (h:∀ p,p ∈ l→s p.1=p.2):Le c ⟨s,H⟩ ⟨lk l,H⟩:=qf (ca s l h)
def PD (P:Program) (st:Sta):ResultVar→Option A
 |.tmp t=>some (st.s t)
 |.cell a t=>FU P st.H t (st.s a)
def HK (P:Program) (st:Sta):List ResultVar→Option (List A)
 |[]=>some []
 |r::rs=>match PD P st r,HK P st rs with
  |some x,some l=>some (x::l)
  |_,_=>none
def Ll (P:Program) (st:Sta) (rs:List ResultVar):Option A:=
 match rs with
 |[r]=>PD P st r
 |rs=>(HK P st rs).map .tup
theorem Qr {a:Act} {w:World} {I:Nat→Prop} {μ:Mu} (hs:SR c st a w I μ) {r:ResultVar} {x:A} (h:PD c.P st r=some x) :
  ∃ v,((match r with | .tmp t=>pure (a.tmps.getD t undef) | .cell p t=>do loadVar t (← asAddr (a.tmps.getD p undef))):Sem Value).run c.P w = .ok v w∧Rel w I μ x v:=by
 cases r with
 |tmp t=>cases h;exact⟨_,rfl,hs.rel t⟩
 |cell p t=>
  have hr:=hs.rel p
  obtain⟨v,h1,h2⟩:=NH hs.sim hr h
  refine⟨v,?_,h2⟩
  have:∃ q,a.tmps.getD p undef = .pointer (some q):=Gl hr (WO h)
  obtain⟨q,hq⟩:=this
  rw[hq] at h1
  simp only[hq,asAddr]
  simpa[Instr.loadAt,Instr.sureAddr] using h1
theorem Pa {a:Act} {w:World} {I:Nat→Prop} {μ:Mu} (hs:SR c st a w I μ):∀ {rs:List ResultVar} {xs:List A},HK c.P st rs=some xs →
  ∃ vs:List Value,(rs.mapM (m:=Sem) fun | .tmp t=>pure (a.tmps.getD t undef) | .cell p t=>do loadVar t (← asAddr (a.tmps.getD p undef))).run c.P w = .ok vs w∧vs.length=xs.length∧∀ (k:Nat) (y:A) (v:Value),xs[k]? = some y→vs[k]? = some v→Rel w I μ y v
 |[],xs,h=>by cases h;exact⟨[],rfl,rfl,fun k y v hk=>by simp at hk⟩
 |r::rs,xs,h=>by
  unfold HK at h
  split at h
  ·rename_i x l hx hl
   cases h
   obtain⟨v,h1,h2⟩:=Qr hs hx
   obtain⟨vs,h3,h4,h5⟩:=Pa hs hl
   refine⟨v::vs,?_,by simp[h4],fun k y u hk hu=>?_⟩
   ·rw[List.mapM_cons]
    simp only[Sem.run_bind,h1,Result.andThen_ok,h3,Sem.run_pure]
   ·cases k with
    |zero=>simp at hk hu;subst hk hu;exact h2
    |succ k=>exact h5 k y u (by simpa using hk) (by simpa using hu)
  ·cases h
theorem Wr {fn:Func} {a:Act} {w:World} {I:Nat→Prop} {μ:Mu} (hs:SR c st a w I μ) {x:A} (h:Ll c.P st fn.results.toList=some x):∃ v,(results fn a.tmps).run c.P w = .ok v w∧Rel w I μ x v:=by
 have hm:∀ {vs:List Value},(fn.results.toList.mapM (m:=Sem) fun | .tmp t=>pure (a.tmps.getD t undef) | .cell p t=>do loadVar t (← asAddr (a.tmps.getD p undef))).run c.P w = .ok vs w →
   (results fn a.tmps).run c.P w = .ok (if h:vs.toArray.size=1 then vs.toArray[0] else .tuple vs.toArray) w:=fun {vs} hv=>by
  unfold results
  rw[Array.mapM_eq_mapM_toList]
  simp only[Sem.run_bind,Sem.run_map]
  erw [hv]
  rfl
 unfold Ll at h
 split at h
 ·rename_i r hr
  obtain⟨v,h1,h2⟩:=Qr hs h
  have:=hm (vs:=[v]) (by rw[hr,List.mapM_cons];simp only[Sem.run_bind,h1,Result.andThen_ok];rfl)
  exact⟨v,by simpa using this,h2⟩
 ·rename_i rs hne
  simp only[Option.map_eq_some_iff] at h
  obtain⟨xs,hx,rfl⟩:=h
  obtain⟨vs,h1,h2,h3⟩:=Pa hs hx
  have hlen:xs.length=fn.results.toList.length:=by
   have:∀ (rs:List ResultVar) (xs:List A),HK c.P st rs=some xs→xs.length=rs.length:=by
    intro rs
    induction rs with
    |nil=>intro xs h;cases h;rfl
    |cons r rs ih=>
     intro xs h
     unfold HK at h
     split at h
     ·rename_i x l _ hl;cases h;simp[ih l hl]
     ·cases h
   exact this _ _ hx
  have hv1:¬ vs.toArray.size=1:=by
   intro he
   simp only[List.size_toArray] at he
   have:fn.results.toList.length=1:=by omega
   obtain⟨r,hr⟩:=List.length_eq_one_iff.1 this
   exact hne r hr
  have:=hm h1
  rw[dif_neg hv1] at this
  refine⟨_,this,.tup _ _ _ (by simp[h2]) fun k y hk=>?_⟩
  have hlt:k<vs.length:=by rw[h2];exact(List.getElem?_eq_some_iff.1 hk).1
  have e:vs.toArray.getD k undef=vs[k]:=by simp[hlt]
  rw[e]
  exact h3 k y _ hk (List.getElem?_eq_getElem hlt)
def jX (P:Program) (rs:List ResultVar) (Q:A→Hp→Prop):Exit→Sta→Prop
 |.normal,st | .ret,st=>∃ r0,Ll P st rs=some r0∧Q r0 st.H
 |_,_=>False
def Qb (args:List A):Nat→A:=fun t=>(args[t]?).getD .any
theorem Ul {P:Program} {f:FuncId} {fn:Func} {code:Code} (hf:P.funcs[f]? = some fn) (hb:fn.body=some code) {c:Cx} (hcP:c.P=P) (hcn:c.n=fn.ntmps) {args:List A} {vs:Array Value} (hl:vs.size=args.length) (ha:args.length≤fn.ntmps)
  {w:World} {I:Nat→Prop} {μ:Mu} {H:Hp} (hs:Sim c w I μ H) (hr:∀ (k:Nat) (y:A),args[k]? = some y→Rel w I μ y (vs.getD k undef)) {Q:A→Hp→Prop} (h:AWP c code (jX P fn.results.toList Q) ⟨Qb args,H⟩) :
  Calls P f vs w fun e w'=>∃ v r0 H' I' μ',e = .returned v∧Sim c w' I' μ' H'∧Rel w' I' μ' r0 v∧Q r0 H':=by
 subst hcP
 refine calls_of_wp hf hb ?_
 have hs:SR c ⟨Qb args,H⟩ { tmps:=vs++Array.replicate (fn.ntmps-vs.size) undef,defers:=[] } w I μ:=by
  refine⟨hs,?_,rfl,fun t=>?_⟩
  ·simp[hcn,hl];omega
  ·show Rel w I μ (Qb args t) _
   unfold Qb
   cases hq:args[t]? with
   |none=>exact .any _ _
   |some y=>
    have hlt:=(List.getElem?_eq_some_iff.1 hq).1
    have e:(vs++Array.replicate (fn.ntmps-vs.size) undef).getD t undef=vs.getD t undef:=by
     simp only[Array.getD_eq_getD_getElem?]
     rw[Array.getElem?_append_left (by omega)]
    rw[e]
    exact hr t y hq
 refine wp_mono (h _ w I μ hs) fun e a' w' ⟨st',I',μ',h1,h2⟩=>?_
 have fin:(∃ r0,Ll c.P st' fn.results.toList=some r0∧Q r0 st'.H)→a'.defers=[]∧∃ v,(results fn a'.tmps).run c.P w' = .ok v w'∧∃ v' r0 H' I' μ',Ending.returned v = .returned v'∧Sim c w' I' μ' H'∧Rel w' I' μ' r0 v'∧Q r0 H':=by
  rintro⟨r0,h3,h4⟩
  obtain⟨v,h5,h6⟩:=Wr (fn:=fn) h1 h3
  exact⟨h1.defers,v,h5,v,r0,st'.H,I',μ',rfl,h1.sim,h6,h4⟩
 cases e<;>first | exact fin h2 | exact h2.elim
def cx (P:Program) (w0:World) (I0:Nat→Prop) (n:Nat):Cx:=⟨P,w0,I0,fun _ _=>False,n,Wk⟩
def H0:Hp:=fun _=>⟨0,.none⟩
theorem W7 {P:Program} {w:World} {I:Nat→Prop} {n:Nat} (hI:∀ b,I b→b<w.heap.size) (ht:Tabs P w I):Sim (cx P w I n) w I Wk H0:=
 ⟨⟨rfl,rfl,rfl,Cc _,fun _ _ _=>rfl⟩,hI,fun _ h=>h,fun b hb=>.inl hb,fun _=>rfl,fun _=>trivial,(fun _ _ h=>nomatch h),(fun _ h=>nomatch h),MuLe.refl _,(fun _ h=>nomatch h),ht⟩
theorem eG {P:Program} {f:FuncId} {fn:Func} {code:Code} {args:List A} {r:A} {n:Nat} (hk:WA P f=true) (hf:P.funcs[f]? = some fn) (hb:fn.body=some code) (hn:fn.ntmps=n) (ha:args.length≤n)
  (h:∀ w0 I0,AWP (cx P w0 I0 n) code (jX P fn.results.toList fun r0 H=>Jw H r0 r) ⟨Qb args,H0⟩):Spec P f args r:=by
 refine⟨hk,fun w I vs hI htb hl hr=>?_⟩
 refine(Ul hf hb (c:=cx P w I n) rfl hn.symm hl (by omega) (W7 hI htb) hr (h w I)).mono fun e w' ⟨v,r0,H',I',μ',he,h1,h2,h3⟩=>⟨v,he,?_,?_⟩
 ·have k:=h1.kept
  exact⟨k.os,k.tape,k.output,k.size,fun b hb=>k.block b hb (fun ⟨_,h⟩=>h)⟩
 ·refine(h3 _ w' I' μ' v h1 h2).mono0 (fun b hb=>?_) (fun _ _=>rfl)
  rcases hb with hb | ⟨o,g1,rfl⟩
  ·rcases h1.new b hb with g | g
   ·exact .inl g
   ·exact .inr ⟨g,h1.lt b hb⟩
  ·obtain⟨_,g4,g5⟩:=h1.own o g1
   rcases g4 with g4 | g4
   ·exact g4.elim
   ·exact .inr ⟨g4,g5⟩
theorem FP {s:Nat→A} {H:Hp} (t:Nat) (d:Nm) (sz:Nat) (ht:s t = .sl true []):Le c ⟨s,H⟩ ⟨upd s t (.osl d ((H d).u+1) sz 0 0),AQ H d ⟨(H d).u+1,.arr sz []⟩⟩:=fun a w I μ hs=>by
 obtain⟨hx,hs'⟩:=hs.sim.upd (Es w none) d ⟨(H d).u+1,false,0,0,sz,0⟩ (.arr sz []) (.inl rfl) (.inl (by rw[hs.sim.ver];exact Nat.lt_succ_self _)) (fun h=>nomatch h) (fun h=>nomatch h) (fun hx=>⟨rfl,.inl ⟨rfl,rfl⟩⟩)
 refine⟨I,_,hs',hs.size,hs.defers,fun k=>?_⟩
 show Rel w I _ (upd s t _ k) _
 unfold upd
 split
 ·rename_i hk
  subst hk
  have h1:=hs.rel k
  simp only[ht] at h1
  generalize a.tmps.getD k undef=v at h1
  cases h1 with
  |slN _ _ q cap hc=>
   have:=hc rfl
   subst this
   exact .osl _ _ _ _ _ _ _ _ (by omega) (by simp) (Cc _) (fun h=>by omega) (fun _=>by simp)
  |sl _ _ b off n cap z _ g h1 h2 h3 h4=>
   have h5:n=0:=h2
   have h6:cap=0:=h4 rfl
   subst h5 h6
   exact .osl _ _ _ _ _ _ _ _ (by omega) (by simp) (Cc _) (fun h=>by omega) (fun _=>by simp)
 ·exact hx.rel (hs.rel k)
end
structure CO where
 d:Option Nat
 o:Op
 g:Option (Nat × Bool)
 nm:Nm
 ix:Nat
 un:List Nat
 lg:Bool
abbrev co (d:Option Nat) (o:Op) (g:Option (Nat × Bool)):CO:=⟨d,o,g,[],0,[],false⟩
abbrev cn (d:Option Nat) (o:Op) (g:Option (Nat × Bool)) (nm:Nm):CO:=⟨d,o,g,nm,0,[],false⟩
inductive CC where
 |skip
 |reg (ops:List CO) (live:List Nat)
 |seq (x y:CC)
 |cond (c:Operand) (x y:CC)
 |block (i:Nat) (x:CC)
 |loop (x:CC)
 |exit (i:Nat)
 |ret
 |keep (live:List Nat) (x:CC)
 |stop (x:CC)
 |scope (x:CC)
def ck:List (Nat × Nm)→Nat→Nm
 |[],_=>[]
 |(k,n)::l,i=>if k=i then n else ck l i
def SN (draw:Bool) (ops:Array Oper) (ms:List Nat) (i j:Nat):Bool:=draw&&SV ops ms i j
theorem sZ {draw:Bool} {ops:Array Oper}:SN draw ops (ee ops)=pK draw ops:=by
 cases draw
 ·rfl
 ·funext i j;simp[SN,pK]
def xn (ops:Array Oper) (draw:Bool) (ms:List Nat) (nms:List (Nat × Nm)) (i:Nat) (o:Oper):Option CO:=
 let un:=(List.range i).filter fun j=>SN draw ops ms j i
 let lg:=(List.range ops.size).any fun k=>Nat.blt i k&&SN draw ops ms i k
 let ix:=if un.isEmpty&&!lg then 0 else i
 match o.guard with
 |none=>some ⟨o.dst,o.op,none,ck nms i,ix,un,lg⟩
 |some (j,f)=>match (ops[j]?).bind (·.dst) with
  |some d=>some ⟨o.dst,o.op,some (d,f),ck nms i,ix,un,lg⟩
  |none=>none
def cp (ops:Array Oper) (draw:Bool) (ms:List Nat) (nms:List (Nat × Nm)):Nat→List Oper→Option (List CO)
 |_,[]=>some []
 |i,o::l=>match xn ops draw ms nms i o,cp ops draw ms nms (i+1) l with
  |some x,some r=>some (x::r)
  |_,_=>none
inductive Is (n:Nat):CC→Code→Prop
 |skip:Is n .skip .skip
 |reg (id:Nat) (ops:Array Oper) (draw:Bool) (live:List Nat) (nms:List (Nat × Nm)) (l:List CO):iE n ops draw=true→cp ops draw (ee ops) nms 0 ops.toList=some l→Is n (.reg l live) (.region id ops draw)
 |seq (x y:CC) (a b:Code):Is n x a→Is n y b→Is n (.seq x y) (.seq a b)
 |cond (o:Operand) (x y:CC) (a b:Code):Is n x a→Is n y b→Is n (.cond o x y) (.cond o a b)
 |block (i:Nat) (x:CC) (a:Code):Is n x a→Is n (.block i x) (.block i a)
 |loop (x:CC) (a:Code):Is n x a→Is n (.loop x) (.loop a)
 |exit (i:Nat):Is n (.exit i) (.exit i)
 |ret:Is n .ret .ret
 |keep (live:List Nat) (x:CC) (a:Code):Is n x a→Is n (.keep live x) a
 |stop (x:CC) (a:Code):Is n x a→Is n (.stop x) a
 |scope (x:CC) (a:Code):Is n x a→Is n (.scope x) (.scope a)
 |label (l:Nat):Is n .skip (.label l)
def xW (Q:Exit→Sta→Prop):Exit→Sta→Prop
 |.goto _,_=>False
 |e,st=>Q e st
def Sta.keep (st:Sta) (live:List Nat):Sta:=⟨lk (live.map fun k=>(k,st.s k)),st.H⟩
theorem iQ {c:Cx} {st:Sta} (live:List Nat):Le c st (st.keep live):=AA _ (fun p hp=>by
 obtain⟨k,_,rfl⟩:=List.mem_map.1 hp
 rfl)
def iz (P:Program) (o:CO) (st:Sta) (x:A) (E:Eff) (f:Ft):Prop:=
 match o.g with
 |none=>Zr P o.nm o.o (evs st.s) st.H x E f.R f.W
 |some (d,fl)=>∃ q x0,B8 (st.s d) fl=some q∧(q=true→Zr P o.nm o.o (evs st.s) st.H x0 E f.R f.W)∧x=gd q x0∧(q=false→E = .nil∧f.R=[]∧f.W=[])
def Ck (un:List Nat) (lg:Lg) (f:Ft):Prop:=∀ p,p ∈ lg→p.1 ∈ un→nc p.2 f=true
def Bd (b:Bool) (i:Nat) (f:Ft) (lg:Lg):Lg:=if b=true then (i,f)::lg else lg
def Ap (P:Program) (K:Sta→Prop):List CO→Lg→Sta→Prop
 |[],_,st=>K st
 |o::rest,lg,st=>∃ x E f,iz P o st x E f∧Ck o.un lg f∧Ap P K rest (Bd o.lg o.ix f lg) (st.put o.d x (E.app st.H))
theorem uo {ops:Array Oper} {draw:Bool} {ms:List Nat} {nms:List (Nat × Nm)} {i:Nat} {o:Oper} {c:CO} (h:xn ops draw ms nms i o=some c):c.d=o.dst∧c.o=o.op∧c.nm=ck nms i ∧
  c.un=((List.range i).filter fun j=>SN draw ops ms j i)∧c.lg=((List.range ops.size).any fun k=>Nat.blt i k&&SN draw ops ms i k)∧(c.un ≠ []∨c.lg=true→c.ix=i) ∧
  ((o.guard=none∧c.g=none)∨∃ j f d,o.guard=some (j,f)∧(ops[j]?).bind (·.dst)=some d∧c.g=some (d,f)):=by
 have hix:∀ (un:List Nat) (lg:Bool),un ≠ []∨lg=true→(if (un.isEmpty&&!lg)=true then 0 else i)=i:=fun un lg hh=>by
  rw[if_neg]
  rcases hh with h1 | h1
  ·cases un with
   |nil=>exact(h1 rfl).elim
   |cons=>simp
  ·simp[h1]
 unfold xn at h
 cases hg:o.guard with
 |none=>
  rw[hg] at h
  simp only[Option.some.injEq] at h
  subst h
  exact⟨rfl,rfl,rfl,rfl,rfl,hix _ _,.inl ⟨rfl,rfl⟩⟩
 |some p=>
  obtain⟨j,f⟩:=p
  rw[hg] at h
  simp only at h
  cases hj:(ops[j]?).bind (·.dst) with
  |none=>rw[hj] at h;cases h
  |some d=>
   rw[hj] at h
   simp only[Option.some.injEq] at h
   subst h
   exact⟨rfl,rfl,rfl,rfl,rfl,hix _ _,.inr ⟨j,f,d,rfl,hj,rfl⟩⟩
theorem ff {P:Program} {ops:Array Oper} {draw:Bool} {ms:List Nat} {nms:List (Nat × Nm)} {K:Sta→Prop}:∀ (l:List Oper) (i:Nat) (r:List CO) (Lf lg:Lg) (st:Sta),cp ops draw ms nms i l=some r→i+l.length=ops.size →
  (∀ p,p ∈ Lf→p.1<i∧∀ k,i≤k→k<ops.size→SN draw ops ms p.1 k=true→p ∈ lg)→Ap P K r lg st→px P (ck nms) (SN draw ops ms) ops K l i Lf st:=by
 intro l
 induction l with
 |nil=>
  intro i r Lf lg st he _ _ h
  cases he
  exact h
 |cons o l ih=>
  intro i r Lf lg st he hsz hlg h
  unfold cp at he
  split at he
  ·rename_i c r' hc hr
   cases he
   obtain⟨e1,e2,e3,e4,e5,e7,e6⟩:=uo hc
   obtain⟨x,E,f,hy,hk,h⟩:=h
   simp only[List.length_cons] at hsz
   refine⟨x,E,f,?_,fun p hp hn=>?_,?_⟩
   ·unfold iz at hy
    rw[e2,e3] at hy
    rcases e6 with ⟨hg,hc⟩ | ⟨j,fl,d,hg,hj,hc⟩
    ·rw[hc] at hy
     exact⟨true,x,by unfold O0;rw[hg],fun _=>hy,rfl,fun h=>nomatch h⟩
    ·rw[hc] at hy
     obtain⟨q,x0,k1,k2,k3,k4⟩:=hy
     exact⟨q,x0,by unfold O0;rw[hg];exact⟨d,hj,k1⟩,k2,k3,k4⟩
   ·obtain⟨h1,h2⟩:=hlg p hp
    refine hk p (h2 i (Cc _) (by omega) hn) ?_
    rw[e4]
    exact List.mem_filter.2 ⟨List.mem_range.2 h1,hn⟩
   ·rw[e1] at h
    refine ih (i+1) r' _ _ _ hr (by omega) (fun p hp=>?_) h
    rcases List.mem_cons.1 hp with rfl | hp
    ·refine⟨Nat.lt_succ_self _,fun k h1 h2 h3=>?_⟩
     have hl:c.lg=true:=by
      rw[e5]
      exact List.any_eq_true.2 ⟨k,List.mem_range.2 h2,by simp[Nat.blt_eq,h3];omega⟩
     unfold Bd
     rw[if_pos hl,e7 (.inr hl)]
     simp
    ·obtain⟨h1,h2⟩:=hlg p hp
     refine⟨by omega,fun k h3 h4 h5=>?_⟩
     have:=h2 k (by omega) h4 h5
     unfold Bd
     split
     ·exact List.mem_cons_of_mem _ this
     ·exact this
  ·cases he
def LoopC (c:Cx) (x:CC) (Q:Exit→Sta→Prop) (st:Sta):Prop:=∀ a,Is c.n x a→AHead c a Q st
def Gv (K:Sta→Prop) (Q:Exit→Sta→Prop):Exit→Sta→Prop
 |.normal,st=>K st
 |e,st=>Q e st
def SH (c:Cx) (K:Sta→Prop) (st:Sta):Prop:=∃ st',Le c st st'∧K st'
theorem Dn {c:Cx} {K:Sta→Prop} {st:Sta} (h:K st):SH c K st:=⟨st,Le.refl,h⟩
theorem Dv {c:Cx} {K:Sta→Prop} {st st':Sta} (h:Le c st st') (k:SH c K st'):SH c K st:=let ⟨st2,h2,k2⟩:=k;⟨st2,h.trans h2,k2⟩
def WPC (c:Cx):CC→(Exit→Sta→Prop)→Sta→Prop
 |.skip,Q,st=>Q .normal st
 |.exit i,Q,st=>Q (.exit i) st
 |.ret,Q,st=>Q .ret st
 |.reg ops live,Q,st=>Ap c.P (fun st=>Q .normal (st.keep live)) ops [] st
 |.seq x y,Q,st=>WPC c x (Gv (WPC c y Q) Q) st
 |.cond o x y,Q,st=>∃ b,evs st.s o = .v (.bool b)∧(b=true→WPC c x Q st)∧(b=false→WPC c y Q st)
 |.block i x,Q,st=>WPC c x (Cf i Q) st
 |.loop x,Q,st=>LoopC c x Q st
 |.keep live x,Q,st=>WPC c x Q (st.keep live)
 |.stop x,Q,st=>SH c (fun st=>WPC c x Q st) st
 |.scope x,Q,st=>WPC c x (xW Q) st
theorem Og {c:Cx} (hm:c.P.follows .mixedOrders=true):∀ {x:CC} {a:Code} {Q:Exit→Sta→Prop} {st:Sta},Is c.n x a→WPC c x Q st→AWP c a Q st:=by
 intro x a Q st hi
 induction hi generalizing Q st with
 |skip=>exact fun h=>mN h
 |exit i=>exact fun h=>qb h
 |ret=>exact fun h=>tT h
 |reg id ops draw live nms l hok hl=>
  intro h
  intro a w I μ hs
  have h1:=ff ops.toList 0 l [] [] _ hl (by simp) (fun p hp=>by simp at hp) h
  rw[sZ] at h1
  refine Y8 hm hok (K:=fun st=>Q .normal (st.keep live)) (fun st' a' w' I' μ' h1 h2=>?_) hs h1
  obtain⟨I2,μ2,h3⟩:=iQ live a' w' I' μ' h1
  exact⟨_,I2,μ2,h3,h2⟩
 |seq x y a b _ _ ih1 ih2=>
  intro h
  refine ux ((ih1 h).mono fun e st' hq=>?_)
  cases e<;>first | exact ih2 hq | exact hq
 |cond o x y a b _ _ ih1 ih2=>
  intro ⟨q,hb,ht,hf⟩
  exact pH hb (fun h=>ih1 (ht h)) (fun h=>ih2 (hf h))
 |block i x a _ ih=>exact fun h=>jS (ih h)
 |loop x a hx _=>exact fun h=>oD (h a hx)
 |keep live x a _ ih=>
  intro h a w I μ hs
  obtain⟨I2,μ2,h3⟩:=iQ live a w I μ hs
  exact ih h a w I2 μ2 h3
 |stop x a _ ih=>
  intro ⟨st',h1,h2⟩ a w I μ hs
  obtain⟨I2,μ2,h3⟩:=h1 a w I μ hs
  exact ih h2 a w I2 μ2 h3
 |scope x a _ ih=>
  intro h a w I μ hs
  refine wp_scope_straight (wp_mono (ih h a w I μ hs) fun e a' w' ⟨st',I',μ',h1,h2⟩=>?_)
  cases e with
  |goto l=>exact h2.elim
  |_=>exact⟨st',I',μ',h1,h2⟩
 |label l=>exact fun h a w I μ hs=>wp_label ⟨st,I,μ,hs,h⟩
theorem WPC.mono {c:Cx}:∀ {x:CC} {Q Q':Exit→Sta→Prop} {st:Sta},(∀ e st,Q e st→Q' e st)→WPC c x Q st→WPC c x Q' st
 |.skip,_,_,_,hq,h=>hq _ _ h
 |.exit _,_,_,_,hq,h=>hq _ _ h
 |.ret,_,_,_,hq,h=>hq _ _ h
 |.reg ops live,Q,Q',st,hq,h=>by
  have:∀ (ops:List CO) (lg:Lg) (st:Sta),Ap c.P (fun st=>Q .normal (st.keep live)) ops lg st→Ap c.P (fun st=>Q' .normal (st.keep live)) ops lg st:=by
   intro ops
   induction ops with
   |nil=>exact fun lg st h=>hq _ _ h
   |cons o ops ih=>exact fun lg st ⟨x,E,f,h1,h2,h3⟩=>⟨x,E,f,h1,h2,ih _ _ h3⟩
  exact this ops _ st h
 |.seq x y,Q,Q',st,hq,h=>WPC.mono (x:=x) (fun e st' h'=>by cases e<;>first | exact WPC.mono (x:=y) hq h' | exact hq _ _ h') h
 |.cond o x y,Q,Q',st,hq,⟨b,h1,h2,h3⟩=>⟨b,h1,fun h=>WPC.mono hq (h2 h),fun h=>WPC.mono hq (h3 h)⟩
 |.block i x,Q,Q',st,hq,h=>WPC.mono (x:=x) (fun e st' h'=>by
   cases e with
   |exit j=>
    by_cases hj:j=i
    ·subst hj;rw[Y4] at h' ⊢; exact hq _ _ h'
    ·rw[Pk hj] at h' ⊢; exact hq _ _ h'
   |_=>exact hq _ _ h') h
 |.keep live x,Q,Q',st,hq,h=>WPC.mono (x:=x) hq h
 |.stop x,Q,Q',st,hq,⟨st',h1,h2⟩=>⟨st',h1,WPC.mono (x:=x) hq h2⟩
 |.scope x,Q,Q',st,hq,h=>WPC.mono (x:=x) (fun e st' h'=>by
   cases e with
   |goto l=>exact h'
   |_=>exact hq _ _ h') h
 |.loop x,Q,Q',st,hq,h=>fun a ha a' w I μ hs b k cs=>by
  obtain⟨e,a1,w1,⟨st',I',μ',h1,h2⟩,h3⟩:=h a ha a' w I μ hs b k cs
  exact⟨e,a1,w1,⟨st',I',μ',h1,hq _ _ h2⟩,h3⟩
theorem aN {c:Cx} (hm:c.P.follows .mixedOrders=true) {x:CC} {Q:Exit→Sta→Prop} {st:Sta} (h:WPC c x (Gv (LoopC c x Q) Q) st):LoopC c x Q st:=fun a ha=>
 ZV ((Og hm ha h).mono fun e st' hq=>by cases e<;>first | exact hq a ha | exact hq)
theorem LoopC.le {c:Cx} {x:CC} {Q:Exit→Sta→Prop} {st st':Sta} (h:Le c st st') (k:LoopC c x Q st'):LoopC c x Q st:=fun a ha=>(k a ha).le h
def fe:List Nat→CC→CC
 |999999::live,y=>.keep live y
 |999998::_,y=>.stop y
 |999997::live,y=>.keep live (.stop y)
 |_,y=>y
theorem jm {n:Nat} {m:List Nat} {y:CC} {b:Code} (h:Is n y b):Is n (fe m y) b:=by
 unfold fe
 split
 ·exact .keep _ _ _ h
 ·exact .stop _ _ h
 ·exact .keep _ _ _ (.stop _ _ h)
 ·exact h
abbrev Mk:=List Nat × List (Nat × Nm)
def Ke (n:Nat):Code→List Mk→Option (CC × List Mk)
 |.skip,ls=>some (.skip,ls)
 |.exit i,ls=>some (.exit i,ls)
 |.ret,ls=>some (.ret,ls)
 |.region _ ops draw,(live,nms)::ls=>if iE n ops draw=true then match cp ops draw (ee ops) nms 0 ops.toList with
   |some l=>some (.reg l live,ls)
   |none=>none else none
 |.seq a b,ls=>match Ke n a ls with
  |some (x,m::ls)=>match Ke n b ls with
   |some (y,ls)=>some (.seq x (fe m.1 y),ls)
   |none=>none
  |_=>none
 |.cond o a b,ls=>match Ke n a ls with
  |some (x,ls)=>match Ke n b ls with
   |some (y,ls)=>some (.cond o x y,ls)
   |none=>none
  |none=>none
 |.block i a,ls=>match Ke n a ls with
  |some (x,ls)=>some (.block i x,ls)
  |none=>none
 |.loop a,ls=>match Ke n a ls with
  |some (x,ls)=>some (.loop x,ls)
  |none=>none
 |.scope a,ls=>match Ke n a ls with
  |some (x,ls)=>some (.scope x,ls)
  |none=>none
 |.label _,ls=>some (.skip,ls)
 |_,_=>none
theorem sn {n:Nat}:∀ {a:Code} {ls ls':List Mk} {x:CC},Ke n a ls=some (x,ls')→Is n x a:=by
 intro a
 induction a with
 |skip=>intro ls ls' x h;simp only[Ke] at h;cases h;exact .skip
 |exit i=>intro ls ls' x h;simp only[Ke] at h;cases h;exact .exit i
 |ret=>intro ls ls' x h;simp only[Ke] at h;cases h;exact .ret
 |region id ops draw=>
  intro ls ls' x h
  cases ls with
  |nil=>simp[Ke] at h
  |cons live ls=>
   simp only[Ke] at h
   split at h
   ·rename_i hok
    split at h
    ·rename_i l hl
     cases h
     exact .reg _ _ _ _ _ _ hok hl
    ·cases h
   ·cases h
 |seq a b ih1 ih2=>
  intro ls ls' x h
  simp only[Ke] at h
  split at h
  ·rename_i q1 m l1 h1
   split at h
   ·rename_i q2 l2 h2
    cases h
    exact .seq _ _ _ _ (ih1 h1) (jm (ih2 h2))
   ·cases h
  ·cases h
 |cond o a b ih1 ih2=>
  intro ls ls' x h
  simp only[Ke] at h
  split at h
  ·rename_i q1 l1 h1
   split at h
   ·rename_i q2 l2 h2
    cases h
    exact .cond _ _ _ _ _ (ih1 h1) (ih2 h2)
   ·cases h
  ·cases h
 |block i a ih=>
  intro ls ls' x h
  simp only[Ke] at h
  split at h
  ·rename_i q1 l1 h1
   cases h
   exact .block _ _ _ (ih h1)
  ·cases h
 |loop a ih=>
  intro ls ls' x h
  simp only[Ke] at h
  split at h
  ·rename_i q1 l1 h1
   cases h
   exact .loop _ _ (ih h1)
  ·cases h
 |scope a ih=>
  intro ls ls' x h
  simp only[Ke] at h
  split at h
  ·rename_i q1 l1 h1
   cases h
   exact .scope _ _ (ih h1)
  ·cases h
 |label l=>intro ls ls' x h;simp only[Ke] at h;cases h;exact .label l
 |_=>intro ls ls' x h;cases ls<;>simp[Ke] at h
structure Bh (P:Program) (f:FuncId) (n:Nat) (rs:List ResultVar) (cc:CC):Prop where
 Ak:P.follows .mixedOrders=true
 ok:WA P f=true
 fn:∃ fn code,P.funcs[f]? = some fn∧fn.body=some code∧fn.ntmps=n∧fn.results.toList=rs∧Is n cc code
theorem xc {P:Program} {f:FuncId} {fn:Func} {code:Code} {cc:CC} {ls:List Mk} {rs:List ResultVar} {n:Nat} (hm:P.follows .mixedOrders=true) (hk:WA P f=true) (hf:P.funcs[f]? = some fn) (hb:fn.body=some code)
  (hn:fn.ntmps=n) (hrs:fn.results.toList=rs) (hc:Ke n code ls=some (cc,[])):Bh P f n rs cc:=⟨hm,hk,fn,code,hf,hb,hn,hrs,sn hc⟩
def PO (P:Program) (rs:List ResultVar) (r:A):Exit→Sta→Prop:=jX P rs fun r0 H=>Jw H r0 r
theorem Al {P:Program} {f:FuncId} {n:Nat} {rs:List ResultVar} {cc:CC} {args:List A} {r:A} (t:Bh P f n rs cc) (ha:args.length≤n) (h:∀ w0 I0,WPC (cx P w0 I0 n) cc (PO P rs r) ⟨Qb args,H0⟩):Spec P f args r:=by
 obtain⟨hm,hk,fn,code,hf,hb,hn,hrs,hc⟩:=t
 exact eG hk hf hb hn ha fun w0 I0=>Og (c:=cx P w0 I0 n) hm hc (by rw[hrs];exact h w0 I0)
section
variable {P:Program} {H:Hp} {t u:TypeId}
def vc (x:VOb) (u:Nat):Option (List A):=match x with | ⟨u',.cells cs⟩=>if u'=u then some cs else none | _=>none
def vr (x:VOb) (u:Nat):Option (Nat × List A):=match x with | ⟨u',.arr s xs⟩=>if u'=u then some (s,xs) else none | _=>none
@[simp] theorem Adt {u' u:Nat} {cs:List A}:vc ⟨u',.cells cs⟩ u=if u'=u then some cs else none:=rfl
@[simp] theorem Ahd {u' u s:Nat} {xs:List A}:vr ⟨u',.arr s xs⟩ u=if u'=u then some (s,xs) else none:=rfl
@[simp] theorem Aei {o:Nm} {u:Nat}:We H o u=vc (H o) u:=rfl
@[simp] theorem N8 {o:Nm} {u:Nat}:PY H o u=vr (H o) u:=rfl
@[simp] theorem AdG {o:Nm} {u off:Nat}:FU P H t (.pob o u off)=match C5 P t,CI P t with | some g,some sz=>(match vc (H o) u with | some cs=>Ln g sz (cs.drop off) | none=>none) | _,_=>none:=by
 unfold FU
 cases C5 P t with
 |none=>rfl
 |some g=>
  cases CI P t with
  |none=>rfl
  |some sz=>rfl
@[simp] theorem AbY {o:Nm} {u i j:Nat}:FU P H t (.pel o u i j)=match C5 P t,CI P t with | some g,some sz=>(match vr (H o) u with | some (_,xs)=>(match xs[i]? with | some x=>Ln g sz (x.cells.drop j) | none=>none) | none=>none) | _,_=>none:=by
 unfold FU
 cases C5 P t with
 |none=>rfl
 |some g=>
  cases CI P t with
  |none=>rfl
  |some sz=>rfl
@[simp] theorem AaH {o:Nm} {u off:Nat} {val:A}:HD P H t (.pob o u off) val=match CI P t with
  |some sz=>if val.cells.length=sz∧A.ones val.cells=true then (match vc (H o) u with | some cs=>if off+sz≤cs.length then some (.one o ⟨u,.cells (splice cs off val.cells)⟩) else none | none=>none) else none
  |none=>none:=by
 unfold HD
 cases CI P t<;>rfl
def dF (o:Nm) (u i j s sz:Nat) (xs:List A) (val:A):Option A→Option Eff
 |some x=>if j=0∧sz=s then some (.one o ⟨u,.arr s (xs.set i val)⟩)
  else if j+sz≤s∧x.isAgg=true then some (.one o ⟨u,.arr s (xs.set i (x.remake (splice x.cells j val.cells)))⟩) else none
 |none=>none
def uC (o:Nm) (u i j sz:Nat) (val:A):Option (Nat × List A)→Option Eff
 |some (s,xs)=>dF o u i j s sz xs val xs[i]?
 |none=>none
@[simp] theorem fP {o:Nm} {u i j s sz:Nat} {xs:List A} {val:A}:uC o u i j sz val (some (s,xs))=dF o u i j s sz xs val xs[i]?:=rfl
@[simp] theorem vj {o:Nm} {u i j s sz:Nat} {xs:List A} {x val:A}:dF o u i j s sz xs val (some x)=if j=0∧sz=s then some (.one o ⟨u,.arr s (xs.set i val)⟩)
  else if j+sz≤s∧x.isAgg=true then some (.one o ⟨u,.arr s (xs.set i (x.remake (splice x.cells j val.cells)))⟩) else none:=rfl
@[simp] theorem Aad {o:Nm} {u i j:Nat} {val:A}:HD P H t (.pel o u i j) val=match CI P t with
  |some sz=>if val.cells.length=sz∧A.ones val.cells=true then uC o u i j sz val (vr (H o) u) else none
  |none=>none:=by
 unfold HD
 cases CI P t with
 |none=>rfl
 |some sz=>
  simp only[N8]
  cases vr (H o) u with
  |none=>rfl
  |some p=>
   obtain⟨s,xs⟩:=p
   simp only[fP]
   cases xs[i]?<;>rfl
@[simp] theorem AcS {d:Nm} {e:TypeId}:PH P H d e=match Bn P e with | some z=>if A.ones (Fu z).cells=true∧C4 d e=true then some (.pob d ((H d).u+1) 0,.one d ⟨(H d).u+1,.cells (Fu z).cells⟩) else none | none=>none:=rfl
@[simp] theorem Aic {d:Nm} {e:TypeId} {a:A}:cW H d e a=if A.ones a.cells=true∧C4 d e=true then some (.pob d ((H d).u+1) 0,.one d ⟨(H d).u+1,.cells a.cells⟩) else none:=rfl
@[simp] theorem AeV {a:A}:pT a=if a.isPtr=true then some a else none:=rfl
def u9 (H:Hp) (d:Nm) (e:TypeId) (n c:Int):Option Nat→Option Value→Option Nat→Option (A × Eff)
 |some s,some z,some b=>if 0≤n∧n≤c∧b*c≤140737488355328∧0<b∧(Fu z).cells.length=s∧A.ones (Fu z).cells=true∧C4 d e=true then some (.osl d ((H d).u+1) s 0 n.toNat,.one d ⟨(H d).u+1,.arr s (List.replicate n.toNat (Fu z))⟩) else none
 |_,_,_=>none
@[simp] theorem vN {d:Nm} {e:TypeId} {n c:Int} {s b:Nat} {z:Value}:u9 H d e n c (some s) (some z) (some b)=if 0≤n∧n≤c∧b*c≤140737488355328∧0<b∧(Fu z).cells.length=s∧A.ones (Fu z).cells=true∧C4 d e=true then some (.osl d ((H d).u+1) s 0 n.toNat,.one d ⟨(H d).u+1,.arr s (List.replicate n.toNat (Fu z))⟩) else none:=rfl
@[simp] theorem sH {d:Nm} {k k':IntKind} {n c:Int}:EV P H d t (.v (.int k n)) (.v (.int k' c))=match P.underlying t with | some (.slice e)=>u9 H d e n c (CI P e) (Bn P e) (BJ P e) | _=>none:=by
 unfold EV
 cases P.underlying t with
 |none=>rfl
 |some q=>
  cases q<;>first
   |rfl
   |(rename_i e;cases CI P e<;>cases Bn P e<;>cases BJ P e<;>rfl)
def apS (H:Hp) (d:Nm) (e:TypeId) (xs:List A):Option (List A)→Option Nat→Option Value→Option Nat→Option (A × Eff)
 |some zs,some s,some z,some b=>if 0<b∧(Fu z).cells.length=s∧A.ones (Fu z).cells=true then if DS s xs=true∧(xs.length=0∨0<zs.length)∧(xs.length+zs.length)*b≤140737488355328∧C4 d e=true then some (.osl d ((H d).u+1) s 0 (xs.length+zs.length),.one d ⟨(H d).u+1,.arr s (xs++zs)⟩) else none else none
 |_,_,_,_=>none
@[simp] theorem Abj {d:Nm} {e:TypeId} {xs zs:List A} {s b:Nat} {z:Value}:apS H d e xs (some zs) (some s) (some z) (some b)=if 0<b∧(Fu z).cells.length=s∧A.ones (Fu z).cells=true then if DS s xs=true∧(xs.length=0∨0<zs.length)∧(xs.length+zs.length)*b≤140737488355328∧C4 d e=true then some (.osl d ((H d).u+1) s 0 (xs.length+zs.length),.one d ⟨(H d).u+1,.arr s (xs++zs)⟩) else none else none:=rfl
def apO (o:Nm) (e:TypeId) (v sz off len:Nat):Option (Nat × List A)→Option (List A)→Option Nat→Option Value→Option Nat→Option (A × Eff)
 |some (s',ys),some zs,some s,some z,some b=>if 0<b∧(Fu z).cells.length=s∧A.ones (Fu z).cells=true then if off=0∧s'=s∧sz=s∧len≤ys.length∧(len+zs.length)*b≤140737488355328∧C4 o e=true then some (.osl o (v+1) s 0 (len+zs.length),.one o ⟨v+1,.arr s (ys.take len++zs)⟩) else none else none
 |_,_,_,_,_=>none
@[simp] theorem Ad0 {o:Nm} {e:TypeId} {v sz off len s' s b:Nat} {ys zs:List A} {z:Value}:apO o e v sz off len (some (s',ys)) (some zs) (some s) (some z) (some b)=if 0<b∧(Fu z).cells.length=s∧A.ones (Fu z).cells=true then if off=0∧s'=s∧sz=s∧len≤ys.length∧(len+zs.length)*b≤140737488355328∧C4 o e=true then some (.osl o (v+1) s 0 (len+zs.length),.one o ⟨v+1,.arr s (ys.take len++zs)⟩) else none else none:=rfl
@[simp] theorem Aab {d:Nm} {xs:List A} {x:A}:El P H d t u (.sl true xs) x=match P.underlying t with | some (.slice e)=>(match CI P e with | some s=>apS H d e xs (GF P H s e u x) (some s) (Bn P e) (BJ P e) | none=>none) | _=>none:=by
 unfold El
 cases P.underlying t with
 |none=>rfl
 |some q=>
  cases q<;>try rfl
  rename_i e
  simp only
  cases CI P e with
  |none=>rfl
  |some s=>
   cases Bn P e with
   |none=>simp only;cases GF P H s e u x<;>rfl
   |some z=>
    cases BJ P e with
    |none=>simp only;cases GF P H s e u x<;>rfl
    |some b=>simp only;cases GF P H s e u x<;>rfl
def apF (xs:List A):Option (List A)→Option Nat→Option Value→Option Nat→Option (A × Eff)
 |some zs,some s,some z,some b=>if 0<b∧(Fu z).cells.length=s∧A.ones (Fu z).cells=true then if zs.length=0 then some (.sl false xs,.nil) else none else none
 |_,_,_,_=>none
@[simp] theorem Acs {xs zs:List A} {s b:Nat} {z:Value}:apF xs (some zs) (some s) (some z) (some b)=if 0<b∧(Fu z).cells.length=s∧A.ones (Fu z).cells=true then if zs.length=0 then some (.sl false xs,.nil) else none else none:=rfl
@[simp] theorem wH {d:Nm} {xs:List A} {x:A}:El P H d t u (.sl false xs) x=match P.underlying t with | some (.slice e)=>(match CI P e with | some s=>apF xs (GF P H s e u x) (some s) (Bn P e) (BJ P e) | none=>none) | _=>none:=by
 unfold El
 cases P.underlying t with
 |none=>rfl
 |some q=>
  cases q<;>try rfl
  rename_i e
  simp only
  cases CI P e with
  |none=>rfl
  |some s=>
   cases Bn P e with
   |none=>simp only;cases GF P H s e u x<;>rfl
   |some z=>
    cases BJ P e with
    |none=>simp only;cases GF P H s e u x<;>rfl
    |some b=>simp only;cases GF P H s e u x<;>rfl
def cpO (o:Nm) (v sz off len s:Nat):Option (Nat × List A)→Option (List A)→Option (A × Eff)
 |some (s',ys),some zs=>if s'=s∧sz=s∧off+len≤ys.length then
   some (.v (.int .i64 (min zs.length len:Nat)),.one o ⟨v,.arr s (ys.take off++zs.take (min zs.length len)++ys.drop (off+min zs.length len))⟩) else none
 |_,_=>none
@[simp] theorem AbX {o:Nm} {v sz off len s s':Nat} {ys zs:List A}:cpO o v sz off len s (some (s',ys)) (some zs)=if s'=s∧sz=s∧off+len≤ys.length then
   some (.v (.int .i64 (min zs.length len:Nat)),.one o ⟨v,.arr s (ys.take off++zs.take (min zs.length len)++ys.drop (off+min zs.length len))⟩) else none:=rfl
@[simp] theorem Abw {o:Nm} {v sz off len:Nat} {x:A}:NA P H t (.osl o v sz off len) x=match P.underlying t with | some (.slice e)=>(match CI P e with | some s=>cpO o v sz off len s (vr (H o) v) (G3 H s x) | none=>none) | _=>none:=by
 unfold NA
 cases P.underlying t with
 |none=>rfl
 |some q=>
  cases q<;>try rfl
  rename_i e
  simp only[N8]
  generalize vr (H o) v=r
  cases CI P e with
  |none=>rfl
  |some s=>simp only;cases G3 H s x<;>cases r<;>rfl
@[simp] theorem vW {d o:Nm} {v sz off len:Nat} {x:A}:El P H d t u (.osl o v sz off len) x=match P.underlying t with | some (.slice e)=>(match CI P e with | some s=>apO o e v sz off len (vr (H o) v) (GF P H s e u x) (some s) (Bn P e) (BJ P e) | none=>none) | _=>none:=by
 unfold El
 cases P.underlying t with
 |none=>rfl
 |some q=>
  cases q<;>try rfl
  rename_i e
  simp only[N8]
  generalize vr (H o) v=r
  cases CI P e with
  |none=>rfl
  |some s=>
   cases Bn P e with
   |none=>simp only;cases GF P H s e u x<;>cases r<;>rfl
   |some z=>
    cases BJ P e with
    |none=>simp only;cases GF P H s e u x<;>cases r<;>rfl
    |some b=>
     simp only
     cases GF P H s e u x with
     |none=>cases r<;>rfl
     |some zs=>cases r<;>simp only[apO]<;>(try split)<;>rfl
def oK (n:Int) (s:Nat):Option Value→Option Nat→Option (List A)
 |some z,some b=>if 0≤n∧n*b≤140737488355328∧0<b∧(Fu z).cells.length=s∧A.ones (Fu z).cells=true then some (List.replicate n.toNat (Fu z)) else none
 |_,_=>none
@[simp] theorem vw {n:Int} {s b:Nat} {z:Value}:oK n s (some z) (some b)=if 0≤n∧n*b≤140737488355328∧0<b∧(Fu z).cells.length=s∧A.ones (Fu z).cells=true then some (List.replicate n.toNat (Fu z)) else none:=rfl
@[simp] theorem Aex {s e:Nat} {k:IntKind} {n:Int}:GF P H s e t (.v (.int k n))=match P.underlying t with | some (.int _)=>oK n s (Bn P e) (BJ P e) | _=>none:=by
 unfold GF
 cases P.underlying t with
 |none=>rfl
 |some q=>
  cases q<;>first
   |rfl
   |(cases Bn P e<;>cases BJ P e<;>rfl)
@[simp] theorem Aez {s e:Nat} {x:ByteArray}:GF P H s e t (.v (.string x))=match P.underlying t with | some .string=>if s=1 then some (x.data.toList.map fun b=>.v (.int .u8 b.toNat)) else none | _=>none:=by
 unfold GF
 cases P.underlying t with
 |none=>rfl
 |some q=>cases q<;>rfl
@[simp] theorem AhI {s e:Nat} {f:Bool} {xs:List A}:GF P H s e t (.sl f xs)=match P.underlying t with | some (.slice _)=>if DS s xs=true then some xs else none | _=>none:=by
 unfold GF
 cases P.underlying t with
 |none=>rfl
 |some q=>cases q<;>rfl
def elO (s z off n:Nat):Option (Nat × List A)→Option (List A)
 |some (s',ys)=>if s'=s∧z=s∧off+n≤ys.length then some ((ys.drop off).take n) else none
 |none=>none
@[simp] theorem Abo {s z off n s':Nat} {ys:List A}:elO s z off n (some (s',ys))=if s'=s∧z=s∧off+n≤ys.length then some ((ys.drop off).take n) else none:=rfl
@[simp] theorem AfL {s e u' z off n:Nat} {o:Nm}:GF P H s e t (.osl o u' z off n)=match P.underlying t with | some (.slice _)=>elO s z off n (vr (H o) u') | _=>none:=by
 unfold GF
 cases P.underlying t with
 |none=>rfl
 |some q=>
  cases q<;>first
   |rfl
   |(simp only[G3,N8];cases vr (H o) u'<;>rfl)
def ixS (xs:List A) (i:Int):Option Nat→Option A
 |some m=>if 0≤i∧i<xs.length then (match xs[i.toNat]? with
     |some x=>if x.cells.length=m then some (.pim x.cells) else none
     |none=>none) else none
 |none=>none
@[simp] theorem Aa4 {xs:List A} {i:Int} {m:Nat}:ixS xs i (some m)=if 0≤i∧i<xs.length then (match xs[i.toNat]? with
     |some x=>if x.cells.length=m then some (.pim x.cells) else none
     |none=>none) else none:=rfl
@[simp] theorem tH {k:IntKind} {i:Int} {f:Bool} {xs:List A}:Bq P t (.sl f xs) (.v (.int k i))=match P.underlying t with | some (.slice e)=>ixS xs i (CI P e) | _=>none:=by
 unfold Bq
 cases P.underlying t with
 |none=>rfl
 |some q=>
  cases q<;>first
   |rfl
   |(rename_i e;cases h:CI P e<;>first | rfl | simp[A.shift,h] | (simp only[h];rfl))
def ixO (o:Nm) (u z off n:Nat) (i:Int):Option Nat→Option A
 |some m=>if 0≤i∧i<n∧z=m then some (.pel o u (off+i.toNat) 0) else none
 |none=>none
@[simp] theorem AbT {o:Nm} {u z off n m:Nat} {i:Int}:ixO o u z off n i (some m)=if 0≤i∧i<n∧z=m then some (.pel o u (off+i.toNat) 0) else none:=rfl
@[simp] theorem rD {u z off n:Nat} {o:Nm} {k:IntKind} {i:Int}:Bq P t (.osl o u z off n) (.v (.int k i))=match P.underlying t with | some (.slice e)=>ixO o u z off n i (CI P e) | _=>none:=by
 unfold Bq
 cases P.underlying t with
 |none=>rfl
 |some q=>
  cases q<;>first
   |rfl
   |(rename_i e;cases h:CI P e<;>first | rfl | simp[A.shift,h] | (simp only[h];rfl))
def ixA (a:A) (n:Nat) (i:Int):Option Nat→Option A
 |some m=>if 0≤i∧i<n then a.shift (i.toNat*m) else none
 |none=>none
@[simp] theorem Ad7 {a:A} {n m:Nat} {i:Int}:ixA a n i (some m)=if 0≤i∧i<n then a.shift (i.toNat*m) else none:=rfl
@[simp] theorem rp {u p:Nat} {o:Nm} {k:IntKind} {i:Int}:Bq P t (.pob o u p) (.v (.int k i))=match P.underlying t with | some (.array n e)=>ixA (.pob o u p) n i (CI P e) | _=>none:=by
 unfold Bq
 cases P.underlying t with
 |none=>rfl
 |some q=>
  cases q<;>first
   |rfl
   |(rename_i e;cases h:CI P e<;>first | rfl | simp[A.shift,h] | (simp only[h];rfl))
@[simp] theorem rj {cs:List A} {k:IntKind} {i:Int}:Bq P t (.pim cs) (.v (.int k i))=match P.underlying t with | some (.array n e)=>ixA (.pim cs) n i (CI P e) | _=>none:=by
 unfold Bq
 cases P.underlying t with
 |none=>rfl
 |some q=>
  cases q<;>first
   |rfl
   |(rename_i e;cases h:CI P e<;>first | rfl | simp[A.shift,h] | (simp only[h];rfl))
@[simp] theorem rr {u p q':Nat} {o:Nm} {k:IntKind} {i:Int}:Bq P t (.pel o u p q') (.v (.int k i))=match P.underlying t with | some (.array n e)=>ixA (.pel o u p q') n i (CI P e) | _=>none:=by
 unfold Bq
 cases P.underlying t with
 |none=>rfl
 |some q=>
  cases q<;>first
   |rfl
   |(rename_i e;cases h:CI P e<;>first | rfl | simp[A.shift,h] | (simp only[h];rfl))
def ixV (P:Program) (e:TypeId) (cs:List A) (n:Nat) (i:Int):Option Nat→Option A
 |some m=>if 0≤i∧i<n then O1 P e cs (i.toNat*m) else none
 |none=>none
@[simp] theorem Ad9 {e:TypeId} {cs:List A} {n m:Nat} {i:Int}:ixV P e cs n i (some m)=if 0≤i∧i<n then O1 P e cs (i.toNat*m) else none:=rfl
@[simp] theorem Abc {cs:List A} {off:Nat}:O1 P t cs off=match C5 P t,CI P t with | some g,some sz=>Ln g sz (cs.drop off) | _,_=>none:=rfl
@[simp] theorem Aax {cs:List A} {k:IntKind} {i:Int}:Ma P t (.agg cs) (.v (.int k i))=match P.underlying t with | some (.array n e)=>ixV P e cs n i (CI P e) | _=>none:=by
 unfold Ma
 cases P.underlying t with
 |none=>rfl
 |some q=>
  cases q<;>first
   |rfl
   |(rename_i e;cases h:CI P e<;>first | rfl | simp[A.shift,h] | (simp only[h];rfl))
@[simp] theorem zG {s:ByteArray} {k:IntKind} {i:Int}:Ma P t (.v (.string s)) (.v (.int k i))=match P.underlying t with | some .string=>if 0≤i then (s[i.toNat]?).map (fun b=>.v (.int .u8 b.toNat)) else none | _=>none:=by
 unfold Ma
 cases P.underlying t with
 |none=>rfl
 |some q=>cases q<;>rfl
@[simp] theorem Ah2 {f:Bool} {xs:List A}:Nj P t (.sl f xs)=match P.underlying t with | some (.slice _)=>some (.v (.int .i64 xs.length)) | some (.array n _)=>some (.v (.int .i64 n)) | _=>none:=by
 unfold Nj
 cases P.underlying t with
 |none=>rfl
 |some q=>cases q<;>rfl
@[simp] theorem Aet {u z off n:Nat} {o:Nm}:Nj P t (.osl o u z off n)=match P.underlying t with | some (.slice _)=>some (.v (.int .i64 n)) | some (.array n _)=>some (.v (.int .i64 n)) | _=>none:=by
 unfold Nj
 cases P.underlying t with
 |none=>rfl
 |some q=>cases q<;>rfl
@[simp] theorem Afy {s:ByteArray}:Nj P t (.v (.string s))=match P.underlying t with | some .string=>some (.v (.int .i64 s.size)) | some (.array n _)=>some (.v (.int .i64 n)) | _=>none:=by
 unfold Nj
 cases P.underlying t with
 |none=>rfl
 |some q=>cases q<;>rfl
@[simp] theorem AeX {cs:List A}:Nj P t (.agg cs)=match P.underlying t with | some (.array n _)=>some (.v (.int .i64 n)) | _=>none:=by
 unfold Nj
 cases P.underlying t with
 |none=>rfl
 |some q=>cases q<;>rfl
@[simp] theorem Ae1 {o:Nm} {u p:Nat}:Nj P t (.pob o u p)=match P.underlying t with | some (.array n _)=>some (.v (.int .i64 n)) | _=>none:=by
 unfold Nj
 cases P.underlying t with
 |none=>rfl
 |some q=>cases q<;>rfl
def wC (f:Bool) (xs:List A):Option (Nat × Nat × Option Nat)→Option Nat→Option A
 |some (l,h,m),some s=>if DS s xs=true then some (.sl (IQ m f h xs.length) ((xs.drop l).take (h-l))) else none
 |_,_=>none
@[simp] theorem AbF {f:Bool} {xs:List A} {l h s:Nat} {m:Option Nat}:wC f xs (some (l,h,m)) (some s)=if DS s xs=true then some (.sl (IQ m f h xs.length) ((xs.drop l).take (h-l))) else none:=rfl
@[simp] theorem Aci {f:Bool} {xs:List A} {s:Option Nat}:wC f xs none s=none:=by cases s<;>rfl
@[simp] theorem Adn {f:Bool} {xs:List A} {lo hi mx:Option A}:HC P t (.sl f xs) lo hi mx=match P.underlying t with | some (.slice e)=>wC f xs (EM xs.length lo hi mx) (CI P e) | _=>none:=by
 unfold HC
 cases P.underlying t with
 |none=>rfl
 |some q=>
  cases q<;>first
   |rfl
   |(rename_i e;cases EM xs.length lo hi mx<;>cases CI P e<;>rfl)
def slO (o:Nm) (u z off:Nat):Option (Nat × Nat × Option Nat)→Option Nat→Option A
 |some (l,h,_),some s=>if s=z then some (.osl o u z (off+l) (h-l)) else none
 |_,_=>none
@[simp] theorem AbI {o:Nm} {u z off l h s:Nat} {m:Option Nat}:slO o u z off (some (l,h,m)) (some s)=if s=z then some (.osl o u z (off+l) (h-l)) else none:=rfl
@[simp] theorem Abu {o:Nm} {u z off:Nat} {s:Option Nat}:slO o u z off none s=none:=by cases s<;>rfl
@[simp] theorem zd {u z off n:Nat} {o:Nm} {lo hi mx:Option A}:HC P t (.osl o u z off n) lo hi mx=match P.underlying t with | some (.slice e)=>slO o u z off (EM n lo hi mx) (CI P e) | _=>none:=by
 unfold HC
 cases P.underlying t with
 |none=>rfl
 |some q=>
  cases q<;>first
   |rfl
   |(rename_i e;cases EM n lo hi mx<;>cases CI P e<;>rfl)
def slP (cs:List A) (n:Nat):Option (Nat × Nat × Option Nat)→Option Nat→Option A
 |some (l,h,m),some s=>if s=1∧n≤cs.length then some (.sl (IQ m true h n) ((cs.drop l).take (h-l))) else none
 |_,_=>none
@[simp] theorem Adp {cs:List A} {n l h s:Nat} {m:Option Nat}:slP cs n (some (l,h,m)) (some s)=if s=1∧n≤cs.length then some (.sl (IQ m true h n) ((cs.drop l).take (h-l))) else none:=rfl
@[simp] theorem Ab8 {cs:List A} {n:Nat} {s:Option Nat}:slP cs n none s=none:=by cases s<;>rfl
@[simp] theorem zb {cs:List A} {lo hi mx:Option A}:HC P t (.pim cs) lo hi mx=match P.underlying t with | some (.array n e)=>slP cs n (EM n lo hi mx) (CI P e) | _=>none:=by
 unfold HC
 cases P.underlying t with
 |none=>rfl
 |some q=>
  cases q<;>first
   |rfl
   |(rename_i n e;cases EM n lo hi mx<;>cases CI P e<;>rfl)
@[simp] theorem yB {s:ByteArray} {lo hi mx:Option A}:HC P t (.v (.string s)) lo hi mx=match P.underlying t with | some .string=>(match EM s.size lo hi mx with | some (l,h,none)=>some (.v (.string (s.extract l h))) | _=>none) | _=>none:=by
 unfold HC
 cases P.underlying t with
 |none=>rfl
 |some q=>cases q<;>rfl
@[simp] theorem Afb {r:IntKind} {n:Int}:JV P t u (.v (.int r n))=match P.underlying t,P.underlying u with | some _,some (.int k)=>some (.v (.int k (k.wrap n))) | _,_=>none:=by
 unfold JV
 cases P.underlying t with
 |none=>rfl
 |some q=>cases P.underlying u with
  |none=>rfl
  |some d=>cases d<;>rfl
@[simp] theorem AgG {x:ByteArray}:JV P t u (.v (.string x))=match P.underlying t,P.underlying u with | some _,some .string=>some (.v (.string x)) | _,_=>none:=by
 unfold JV
 cases P.underlying t with
 |none=>rfl
 |some q=>cases P.underlying u with
  |none=>rfl
  |some d=>cases d<;>rfl
def eU (P:Program) (s:TypeId) (f:Nat):Option (TypeId × Nat):=match P.underlying s with
 |some (.struct fs)=>(fs[f]?).map fun fd=>(fd.type,fd.offset)
 |_=>none
@[simp] theorem Aas {cs:List A} {f:Nat}:Px P t (.agg cs) f=match eU P t f with | some (ft,off)=>O1 P ft cs off | none=>none:=by
 unfold Px eU
 cases P.underlying t with
 |none=>rfl
 |some q=>
  cases q<;>first
   |rfl
   |(rename_i fs;simp only;cases fs[f]?<;>rfl)
@[simp] theorem Ag2 {s e:Nat} {a:Option Addr} {c:Nat}:GF P H s e t (.v (.slice a 0 c))=match P.underlying t with | some (.slice _)=>some [] | _=>none:=by
 unfold GF
 cases P.underlying t with
 |none=>rfl
 |some q=>cases q<;>rfl
def Mz:Nat→List (Nat × A)→Bool
 |_,[]=>true
 |k,(i,_)::l=>i == k&&Mz (k+1) l
@[simp] theorem zW {k:Nat}:Mz k []=true:=rfl
@[simp] theorem Vl {k i:Nat} {x:A} {l:List (Nat × A)}:Mz k ((i,x)::l)=(i == k&&Mz (k+1) l):=rfl
theorem NU:∀ (l:List (Nat × A)) (k:Nat),Mz k l=true→l.map (·.1)=List.range' k l.length
 |[],k,_=>rfl
 |(i,x)::l,k,h=>by
  simp only[Vl,Bool.and_eq_true,beq_iff_eq] at h
  simp only[List.map_cons,List.length_cons,List.range'_succ]
  rw[h.1,NU l (k+1) h.2]
def AbN (len:Nat) (ps:List (Nat × A)):Option Nat→Option Value→Option A
 |some s,some z=>if Mz 0 ps=true∧ps.length=len∧len*s≤16777216∧(Fu z).cells.length=s∧A.ones (Fu z).cells=true∧(ps.all fun p=>p.2.cells.length == s&&A.ones p.2.cells&&p.2.cells.all A.bare1)=true then some (.sl true (ps.map (·.2))) else none
 |_,_=>none
@[simp] theorem jy {len s:Nat} {z:Value} {ps:List (Nat × A)}:AbN len ps (some s) (some z)=if Mz 0 ps=true∧ps.length=len∧len*s≤16777216∧(Fu z).cells.length=s∧A.ones (Fu z).cells=true∧(ps.all fun p=>p.2.cells.length == s&&A.ones p.2.cells&&p.2.cells.all A.bare1)=true then some (.sl true (ps.map (·.2))) else none:=rfl
theorem Nf:∀ (l:List (Nat × A)) (k:Nat),l.map (·.1)=List.range' k l.length→Mz k l=true
 |[],k,_=>rfl
 |(i,x)::l,k,h=>by
  simp only[List.map_cons,List.length_cons,List.range'_succ,List.cons.injEq] at h
  simp only[Vl,Bool.and_eq_true,beq_iff_eq]
  exact⟨h.1,Nf l (k+1) h.2⟩
@[simp] theorem rz {len:Nat} {ps:List (Nat × A)}:Fc P t len ps=match P.underlying t with | some (.slice e)=>AbN len ps (CI P e) (Bn P e) | _=>none:=by
 unfold Fc
 cases P.underlying t with
 |none=>rfl
 |some q=>
  cases q<;>try rfl
  rename_i e
  simp only
  cases CI P e with
  |none=>rfl
  |some s=>
   cases Bn P e with
   |none=>rfl
   |some z=>
    have he:(ps.map (·.1)=List.range len) ↔ (Mz 0 ps=true∧ps.length=len):=by
     constructor
     ·intro h
      have hl:ps.length=len:=by have:=congrArg List.length h;simpa using this
      exact⟨Nf ps 0 (by rw[h,hl,List.range_eq_range']),hl⟩
     ·rintro⟨h1,h2⟩
      rw[NU _ _ h1,h2,List.range_eq_range']
    simp only[jy,he,and_assoc]
def AdX (H:Hp) (d:Nm) (e:TypeId) (len:Nat) (ps:List (Nat × A)):Option Nat→Option Value→Option (A × Eff)
 |some s,some z=>if Mz 0 ps=true∧ps.length=len∧len*s≤16777216∧(Fu z).cells.length=s∧A.ones (Fu z).cells=true∧(ps.all fun p=>p.2.cells.length == s&&A.ones p.2.cells)=true∧C4 d e=true then some (.osl d ((H d).u+1) s 0 len,.one d ⟨(H d).u+1,.arr s (ps.map (·.2))⟩) else none
 |_,_=>none
@[simp] theorem jG {H:Hp} {d:Nm} {e:TypeId} {len s:Nat} {z:Value} {ps:List (Nat × A)}:AdX H d e len ps (some s) (some z)=if Mz 0 ps=true∧ps.length=len∧len*s≤16777216∧(Fu z).cells.length=s∧A.ones (Fu z).cells=true∧(ps.all fun p=>p.2.cells.length == s&&A.ones p.2.cells)=true∧C4 d e=true then some (.osl d ((H d).u+1) s 0 len,.one d ⟨(H d).u+1,.arr s (ps.map (·.2))⟩) else none:=rfl
@[simp] theorem nX {H:Hp} {d:Nm} {len:Nat} {ps:List (Nat × A)}:Ef P H d t len ps=match P.underlying t with | some (.slice e)=>AdX H d e len ps (CI P e) (Bn P e) | _=>none:=by
 unfold Ef
 cases P.underlying t with
 |none=>rfl
 |some q=>
  cases q<;>try rfl
  rename_i e
  simp only
  cases CI P e with
  |none=>rfl
  |some s=>
   cases Bn P e with
   |none=>rfl
   |some z=>
    have he:(ps.map (·.1)=List.range len) ↔ (Mz 0 ps=true∧ps.length=len):=by
     constructor
     ·intro h
      have hl:ps.length=len:=by have:=congrArg List.length h;simpa using this
      exact⟨Nf ps 0 (by rw[h,hl,List.range_eq_range']),hl⟩
     ·rintro⟨h1,h2⟩
      rw[NU _ _ h1,h2,List.range_eq_range']
    simp only[jG,he,and_assoc]
@[simp] theorem s9 {cs:List A}:JU P .eql t (.pim cs) (.v (.pointer none))=match P.underlying t with | some (.pointer _)=>some (.v (.bool false)) | _=>none:=by
 show(LL P 100 t _ _).map _=_
 unfold LL
 cases P.underlying t with
 |none=>rfl
 |some q=>cases q<;>rfl
@[simp] theorem rV {cs:List A}:JU P .neq t (.pim cs) (.v (.pointer none))=match P.underlying t with | some (.pointer _)=>some (.v (.bool true)) | _=>none:=by
 show(LL P 100 t _ _).map _=_
 unfold LL
 cases P.underlying t with
 |none=>rfl
 |some q=>cases q<;>rfl
@[simp] theorem tq {o:Nm} {v p:Nat}:JU P .eql t (.pob o v p) (.v (.pointer none))=match P.underlying t with | some (.pointer _)=>some (.v (.bool false)) | _=>none:=by
 show(LL P 100 t _ _).map _=_
 unfold LL
 cases P.underlying t with
 |none=>rfl
 |some q=>cases q<;>rfl
@[simp] theorem tu {o:Nm} {v p:Nat}:JU P .neq t (.pob o v p) (.v (.pointer none))=match P.underlying t with | some (.pointer _)=>some (.v (.bool true)) | _=>none:=by
 show(LL P 100 t _ _).map _=_
 unfold LL
 cases P.underlying t with
 |none=>rfl
 |some q=>cases q<;>rfl
@[simp] theorem sa {o:Nm} {v p q':Nat}:JU P .eql t (.pel o v p q') (.v (.pointer none))=match P.underlying t with | some (.pointer _)=>some (.v (.bool false)) | _=>none:=by
 show(LL P 100 t _ _).map _=_
 unfold LL
 cases P.underlying t with
 |none=>rfl
 |some q=>cases q<;>rfl
@[simp] theorem sr {o:Nm} {v p q':Nat}:JU P .neq t (.pel o v p q') (.v (.pointer none))=match P.underlying t with | some (.pointer _)=>some (.v (.bool true)) | _=>none:=by
 show(LL P 100 t _ _).map _=_
 unfold LL
 cases P.underlying t with
 |none=>rfl
 |some q=>cases q<;>rfl
@[simp] theorem tY:JU P .eql t (.v (.pointer none)) (.v (.pointer none))=match P.underlying t with | some (.pointer _)=>some (.v (.bool true)) | _=>none:=by
 show(LL P 100 t _ _).map _=_
 unfold LL
 cases P.underlying t with
 |none=>rfl
 |some q=>cases q<;>rfl
@[simp] theorem sO:JU P .neq t (.v (.pointer none)) (.v (.pointer none))=match P.underlying t with | some (.pointer _)=>some (.v (.bool false)) | _=>none:=by
 show(LL P 100 t _ _).map _=_
 unfold LL
 cases P.underlying t with
 |none=>rfl
 |some q=>cases q<;>rfl
@[simp] theorem rv {a b:Bool}:JU P .eql t (.v (.bool a)) (.v (.bool b))=match P.underlying t with | some .bool=>some (.v (.bool (a == b))) | _=>none:=by
 show(LL P 100 t _ _).map _=_
 unfold LL
 cases P.underlying t with
 |none=>rfl
 |some q=>cases q<;>rfl
@[simp] theorem rl {a b:Bool}:JU P .neq t (.v (.bool a)) (.v (.bool b))=match P.underlying t with | some .bool=>some (.v (.bool (!(a == b)))) | _=>none:=by
 show(LL P 100 t _ _).map _=_
 unfold LL
 cases P.underlying t with
 |none=>rfl
 |some q=>cases q<;>rfl
end
def Gt {α:Type} (F:Option α) (K:α→Prop):Prop:=∃ x,F=some x∧K x
def GJ (q:Bool) (F:Option A) (K:A→Prop):Prop:=∃ x,(q=true→F=some x)∧K (gd q x)
def Vx (q:Bool) (F:Prop):Prop:=q=true→F
def TJ (b:Bool) (F G:Prop):Prop:=(b=true→F)∧(b=false→G)
@[congr] theorem AaO {α:Type} {F F':Option α} {K:α→Prop} (h:F=F'):Gt F K=Gt F' K:=by rw[h]
@[congr] theorem zV {q q':Bool} {F F':Option A} {K:A→Prop} (h1:q=q') (h2:F=F'):GJ q F K=GJ q' F' K:=by rw[h1,h2]
@[congr] theorem zh {b b':Bool} {F G:Prop} (h:b=b'):TJ b F G=TJ b' F G:=by rw[h]
@[congr] theorem wJ {P:Program} {K:Sta→Prop} {l:List CO} {lg lg':Lg} {st st':Sta} (h0:lg=lg') (h:st=st'):Ap P K l lg st=Ap P K l lg' st':=by rw[h0,h]
@[congr] theorem zK {c:Cx} {x:CC} {Q:Exit→Sta→Prop} {st st':Sta} (h:st=st'):WPC c x Q st=WPC c x Q st':=by rw[h]
@[congr] theorem vv {c:Cx} {x:CC} {Q:Exit→Sta→Prop} {st st':Sta} (h:st=st'):LoopC c x Q st=LoopC c x Q st':=by rw[h]
@[congr] theorem uI {K:Sta→Prop} {Q:Exit→Sta→Prop} {e e':Exit} {st st':Sta} (h0:e=e') (h:st=st'):Gv K Q e st=Gv K Q e' st':=by rw[h0,h]
@[congr] theorem uT {c:Cx} {K:Sta→Prop} {st st':Sta} (h:st=st'):SH c K st=SH c K st':=by rw[h]
@[congr] theorem rq {i:Nat} {Q:Exit→Sta→Prop} {e e':Exit} {st st':Sta} (h0:e=e') (h:st=st'):Cf i Q e st=Cf i Q e' st':=by rw[h0,h]
@[congr] theorem Aaj {Q:Exit→Sta→Prop} {e e':Exit} {st st':Sta} (h0:e=e') (h:st=st'):xW Q e st=xW Q e' st':=by rw[h0,h]
@[simp] theorem Agx {α:Type} {x:α} {K:α→Prop}:Gt (some x) K=K x:=by simp[Gt]
@[simp] theorem AhD {α:Type} {C:Prop} [Decidable C] {F G:Option α} {K:α→Prop}:Gt (if C then F else G) K=((C→Gt F K)∧(¬C→Gt G K)):=by
 by_cases h:C<;>simp[h]
@[simp] theorem Af1 {α:Type} {K:α→Prop}:Gt none K=False:=by simp[Gt]
@[simp high] theorem Af0 {α:Type} {C:Prop} [Decidable C] {F:Option α} {K:α→Prop}:Gt (if C then F else none) K=(C∧Gt F K):=by
 by_cases h:C<;>simp[h]
@[simp] theorem Aca {q:Bool} {x:A} {K:A→Prop}:GJ q (some x) K=K (gd q x):=by
 apply propext
 constructor
 ·rintro⟨y,h1,h2⟩
  cases q
  ·exact h2
  ·cases h1 rfl;exact h2
 ·exact fun h=>⟨x,fun _=>rfl,h⟩
@[simp high] theorem Abh {q:Bool} {C:Prop} [Decidable C] {F:Option A} {K:A→Prop}:GJ q (if C then F else none) K=(Vx q C∧GJ q F K):=by
 cases q
 ·simp[GJ,Vx]
 ·by_cases h:C<;>simp[h,GJ,Vx]
@[simp] theorem Adk {F:Option A} {K:A→Prop}:GJ true F K=Gt F K:=by simp[GJ,Gt,gd]
@[simp] theorem yF {F:Option A} {K:A→Prop}:GJ false F K=K (.v undef):=by simp[GJ,gd]
@[simp] theorem AdO {F:Prop}:Vx true F=F:=by simp[Vx]
@[simp] theorem zR {F:Prop}:Vx false F=True:=by simp[Vx]
@[simp] theorem vh {q:Bool}:Vx q True=True:=by simp[Vx]
@[simp] theorem wV {p:Prop} [Decidable p] {F:Prop}:Vx (decide p) F=(p→F):=by simp[Vx]
@[simp] theorem Adu {F G:Prop}:TJ true F G=F:=by simp[TJ]
@[simp] theorem z9 {F G:Prop}:TJ false F G=G:=by simp[TJ]
@[simp] theorem vD {p:Prop} [Decidable p] {F G:Prop}:TJ (decide p) F G=((p→F)∧(¬p→G)):=by simp[TJ]
@[simp] theorem Af9 {b:Bool} {F G:Prop}:TJ (!b) F G=TJ b G F:=by cases b<;>simp
@[simp] theorem Agi {a b:Bool} {F G:Prop}:TJ (a&&b) F G=(((a&&b)=true→F)∧((a&&b)=false→G)):=rfl
@[simp] theorem Ah4 {a b:Bool} {F G:Prop}:TJ (a || b) F G=(((a || b)=true→F)∧((a || b)=false→G)):=rfl
@[simp] theorem AdV {b:Bool} {F:Prop}:TJ b F F=F:=by cases b<;>simp
@[simp] theorem AeP {x:A}:gd true x=x:=rfl
@[simp] theorem Acv {x:A}:gd false x = .v undef:=rfl
@[simp] theorem Ag7 {q:Bool} {x y:A}:(bif q then gd q x else y)=bif q then x else y:=by cases q<;>rfl
def ng (b:Bool):Bool:=!b
@[simp] theorem AaU:ng true=false:=rfl
@[simp] theorem yv:ng false=true:=rfl
@[simp] theorem Af4 {b:Bool}:(ng b=true)=(b=false):=by cases b<;>simp[ng]
@[simp] theorem AdB {b:Bool}:(ng b=false)=(b=true):=by cases b<;>simp[ng]
@[simp] theorem Ahs {b:Bool}:ng (!b)=b:=by cases b<;>rfl
@[simp] theorem xf {q:Bool} {x y:A}:(bif q then x else gd (!q) y)=bif q then x else y:=by cases q<;>rfl
@[simp] theorem wW {q c:Bool} {x y:A}:gd q (bif c then x else gd (q&&!c) y)=gd q (bif c then x else y):=by cases q<;>cases c<;>rfl
@[simp] theorem Ahi {b:Bool} {F:Prop}:Vx (ng b) F=(b=false→F):=by cases b<;>simp[Vx]
@[simp] theorem Af2 {a b:Bool} {F:Prop}:Vx (a&&b) F=Vx a (Vx b F):=by cases a<;>cases b<;>simp[Vx]
@[simp] theorem AhG {a b:Bool} {F:Prop}:Vx (a || b) F=(Vx a F∧Vx b F):=by cases a<;>cases b<;>simp[Vx]
@[simp] theorem Afa {a:Bool} {F:Prop}:Vx (!a) F=(a=false→F):=by cases a<;>simp[Vx]
@[simp] theorem AhS {b:Bool} {F G:Prop}:TJ (ng b) F G=TJ b G F:=by cases b<;>simp[TJ]
@[simp] theorem AeA {q:Bool} {x y:A}:(bif q then x else gd (ng q) y)=bif q then x else y:=by cases q<;>rfl
@[simp] theorem xI {b:Bool}:B8 (.v (.bool b)) true=some b:=by cases b<;>rfl
@[simp] theorem vx {b:Bool}:B8 (.v (.bool b)) false=some (ng b):=by cases b<;>rfl
@[simp] theorem u3 {f:Bool}:B8 (.v undef) f=some false:=rfl
@[simp] theorem Ac3 {q b:Bool}:B8 (gd q (.v (.bool b))) true=some (q&&b):=by cases q<;>cases b<;>rfl
@[simp] theorem zE {q b:Bool}:B8 (gd q (.v (.bool b))) false=some (q&&ng b):=by cases q<;>cases b<;>rfl
@[simp] theorem Ae5 {q c:Bool} {x y:A}:gd q (bif c then gd (q&&c) x else y)=gd q (bif c then x else y):=by cases q<;>cases c<;>rfl
@[simp] theorem AeZ {q c:Bool} {x y:A}:gd q (bif c then x else gd (q&&ng c) y)=gd q (bif c then x else y):=by cases q<;>cases c<;>rfl
@[simp] theorem Aiy {q:Bool} {x:A}:gd q (gd q x)=gd q x:=by cases q<;>rfl
@[simp] theorem vK {b:Bool}:cf (.v (.bool b))=some b:=rfl
@[simp] theorem Aao {b:Bool} {x y:A}:ao (.v (.bool b)) x y=some (bif b then x else y):=rfl
@[simp] theorem zf {α:Type} {b:Bool} {x:α}:(bif b then x else x)=x:=by cases b<;>rfl
section
variable {c:Cx} {Q:Exit→Sta→Prop} {st:Sta} {K:Sta→Prop}
@[simp] theorem AcA:WPC c .skip Q st=Q .normal st:=rfl
@[simp] theorem Acy {i:Nat}:WPC c (.exit i) Q st=Q (.exit i) st:=rfl
@[simp] theorem Afj:WPC c .ret Q st=Q .ret st:=rfl
def vf (Q:Exit→Sta→Prop) (live:List Nat) (st:Sta):Prop:=Q .normal (st.keep live)
@[simp] theorem Ad5 {live:List Nat}:vf Q live st=Q .normal (st.keep live):=rfl
@[simp] theorem Afs {ops:List CO} {live:List Nat}:WPC c (.reg ops live) Q st=Ap c.P (vf Q live) ops [] st:=rfl
@[simp] theorem Aes {x y:CC}:WPC c (.seq x y) Q st=WPC c x (Gv (WPC c y Q) Q) st:=rfl
@[simp] theorem zv {i:Nat} {x:CC}:WPC c (.block i x) Q st=WPC c x (Cf i Q) st:=rfl
@[simp] theorem AaT {x:CC}:WPC c (.loop x) Q st=LoopC c x Q st:=rfl
@[simp] theorem zJ {x:CC}:WPC c (.scope x) Q st=WPC c x (xW Q) st:=rfl
@[simp] theorem vG:xW Q .normal st=Q .normal st:=rfl
@[simp] theorem Aa1 {i:Nat}:xW Q (.exit i) st=Q (.exit i) st:=rfl
@[simp] theorem AfE:xW Q .ret st=Q .ret st:=rfl
@[simp] theorem Aa5 {x:CC}:WPC c (.stop x) Q st=SH c (WPC c x Q) st:=rfl
@[simp] theorem Aco {live:List Nat} {x:CC}:WPC c (.keep live x) Q st=WPC c x Q (st.keep live):=rfl
@[simp] theorem Aa7 {o:Operand} {x y:CC}:WPC c (.cond o x y) Q st=Gt (cf (evs st.s o)) fun b=>TJ b (WPC c x Q st) (WPC c y Q st):=by
 apply propext
 constructor
 ·rintro⟨b,h1,h2,h3⟩;exact⟨b,by rw[h1];rfl,h2,h3⟩
 ·rintro⟨b,h1,h2,h3⟩;exact⟨b,V0 h1,h2,h3⟩
@[simp] theorem sS:Gv K Q .normal st=K st:=rfl
@[simp] theorem we {i:Nat}:Gv K Q (.exit i) st=Q (.exit i) st:=rfl
@[simp] theorem yG:Gv K Q .ret st=Q .ret st:=rfl
theorem Ad {x x':CC} (hm:c.P.follows .mixedOrders=true) (he:x=x') (h:WPC c x' (Gv (LoopC c x Q) Q) st):LoopC c x Q st:=by
 subst he
 exact aN hm h
@[simp] theorem AiY {P:Program} {w0:World} {I0:Nat→Prop} {n:Nat}:(cx P w0 I0 n).P=P:=rfl
variable {P:Program} {rs:List ResultVar} {r:A}
@[simp] theorem vi:PO P rs r .normal st=Gt (Ll P st rs) fun r0=>Jw st.H r0 r:=rfl
@[simp] theorem AcP:PO P rs r .ret st=Gt (Ll P st rs) fun r0=>Jw st.H r0 r:=rfl
@[simp] theorem xK {t:Nat}:PD P st (.tmp t)=some (st.s t):=rfl
@[simp] theorem uS {t:TypeId} {a:Nat}:PD P st (.cell a t)=FU P st.H t (st.s a):=rfl
@[simp] theorem Ad6 {x:ResultVar}:Ll P st [x]=PD P st x:=rfl
@[simp] theorem Acz {x y:ResultVar} {l:List ResultVar}:Ll P st (x::y::l)=(HK P st (x::y::l)).map .tup:=rfl
@[simp] theorem AdY:Ll P st []=some (.tup []):=rfl
@[simp] theorem uX:HK P st []=some []:=rfl
@[simp] theorem te {x:ResultVar} {l:List ResultVar}:HK P st (x::l)=match PD P st x,HK P st l with | some x,some l=>some (x::l) | _,_=>none:=rfl
end
section
variable {P:Program} {H:Hp} {t u:TypeId} {q:Bool} {x y z:A} {K:A→Prop}
theorem D6 {F F':Option A} (h:q=true→F=F'):GJ q F K=GJ q F' K:=by
 cases q
 ·simp
 ·rw[h rfl]
@[simp] theorem AcU {op:BinOp}:GJ q (JU P op t (gd q x) y) K=GJ q (JU P op t x y) K:=D6 fun h=>by rw[h];rfl
@[simp] theorem Abq {op:BinOp}:GJ q (JU P op t x (gd q y)) K=GJ q (JU P op t x y) K:=D6 fun h=>by rw[h];rfl
@[simp] theorem Ah3 {op:UnOp}:GJ q (rM op (gd q y)) K=GJ q (rM op y) K:=D6 fun h=>by rw[h];rfl
@[simp] theorem Abt:GJ q (JV P t u (gd q y)) K=GJ q (JV P t u y) K:=D6 fun h=>by rw[h];rfl
@[simp] theorem Ado:GJ q (FU P H t (gd q y)) K=GJ q (FU P H t y) K:=D6 fun h=>by rw[h];rfl
@[simp] theorem rC {i:Nat}:GJ q (Fh P t (gd q y) i) K=GJ q (Fh P t y i) K:=D6 fun h=>by rw[h];rfl
@[simp] theorem pW:GJ q (Bq P t (gd q x) y) K=GJ q (Bq P t x y) K:=D6 fun h=>by rw[h];rfl
@[simp] theorem m6:GJ q (Bq P t x (gd q y)) K=GJ q (Bq P t x y) K:=D6 fun h=>by rw[h];rfl
@[simp] theorem AeC:GJ q (Nj P t (gd q y)) K=GJ q (Nj P t y) K:=D6 fun h=>by rw[h];rfl
@[simp] theorem AeF:GJ q (ao (gd q z) x y) K=GJ q (ao z x y) K:=D6 fun h=>by rw[h];rfl
def GB (P:Program) (q:Bool) (t:TypeId) (acc l:List (Nat × A)) (K:A→Prop):Prop:=GJ q (Bs P t (acc++l)) K
@[congr] theorem AcO {q':Bool} {acc l l':List (Nat × A)} (h0:q=q') (h:l=l'):GB P q t acc l K=GB P q' t acc l' K:=by rw[h0,h]
@[simp] theorem AhW {acc:List (Nat × A)}:GB P q t acc [] K=GJ q (Bs P t acc) K:=by simp[GB]
theorem L7 {acc l:List (Nat × A)} {i:Nat}:GB P q t acc ((i,x)::l) K=GB P q t (acc++[(i,x)]) l K:=by simp[GB]
@[simp] theorem Aiz {acc l:List (Nat × A)} {i:Nat}:GB P q t acc ((i,gd q x)::l) K=GB P q t (acc++[(i,x)]) l K:=by
 rw[← L7]
 exact D6 fun h=>by rw[h];rfl
@[simp] theorem AiX {acc l:List (Nat × A)} {i:Nat} {a:Value}:GB P q t acc ((i,.v a)::l) K=GB P q t (acc++[(i,.v a)]) l K:=L7
@[simp] theorem AiL {acc l:List (Nat × A)} {i:Nat} {b:Bool} {xs:List A}:GB P q t acc ((i,.sl b xs)::l) K=GB P q t (acc++[(i,.sl b xs)]) l K:=L7
@[simp] theorem Aie {acc l:List (Nat × A)} {i u z m n:Nat} {o:Nm}:GB P q t acc ((i,.osl o u z m n)::l) K=GB P q t (acc++[(i,.osl o u z m n)]) l K:=L7
@[simp] theorem Ahe {acc l:List (Nat × A)} {i u m:Nat} {o:Nm}:GB P q t acc ((i,.pob o u m)::l) K=GB P q t (acc++[(i,.pob o u m)]) l K:=L7
@[simp] theorem Aia {acc l:List (Nat × A)} {i:Nat} {xs:List A}:GB P q t acc ((i,.pim xs)::l) K=GB P q t (acc++[(i,.pim xs)]) l K:=L7
@[simp] theorem Aih {acc l:List (Nat × A)} {i:Nat} {xs:List A}:GB P q t acc ((i,.agg xs)::l) K=GB P q t (acc++[(i,.agg xs)]) l K:=L7
@[simp] theorem vk {i:Nat}:GJ q (Ih (gd q y) i) K=GJ q (Ih y i) K:=D6 fun h=>by rw[h];rfl
end
section
variable {P:Program} {H:Hp} {t u:TypeId}
@[simp] theorem Abl {op:BinOp} {q r:IntKind} {a b:Int}:JU P op t (.v (.int q a)) (.v (.int r b))=Eb op q r a b:=rfl
@[simp] theorem AcX {op:BinOp} {a b:ByteArray}:JU P op t (.v (.string a)) (.v (.string b))=r5 op a b:=rfl
@[simp] theorem vp {xs ys:List A}:JU P .eql t (.agg xs) (.agg ys)=if P.eqGuardType P.depth t=false then (LL P 100 t (.agg xs) (.agg ys)).map fun b=>.v (.bool b) else none:=rfl
@[simp] theorem vm {xs ys:List A}:JU P .neq t (.agg xs) (.agg ys)=if P.eqGuardType P.depth t=false then (LL P 100 t (.agg xs) (.agg ys)).map fun b=>.v (.bool (!b)) else none:=rfl
@[simp] theorem Aa6 {q r:IntKind} {a b:Int}:Eb .shl q r a b=if 0≤b then some (.v (.int q (q.wrap (a*2 ^ (min b.toNat q.bits))))) else none:=rfl
@[simp] theorem AbH {q r:IntKind} {a b:Int}:Eb .shr q r a b=if 0≤b then some (.v (.int q (a / 2 ^ (min b.toNat q.bits)))) else none:=rfl
@[simp] theorem Abg {q:IntKind} {a b:Int}:Eb .add q q a b=some (.v (.int q (q.wrap (a+b)))):=by simp[Eb]
@[simp] theorem AcL {q:IntKind} {a b:Int}:Eb .sub q q a b=some (.v (.int q (q.wrap (a-b)))):=by simp[Eb]
@[simp] theorem AdK {q:IntKind} {a b:Int}:Eb .mul q q a b=some (.v (.int q (q.wrap (a*b)))):=by simp[Eb]
@[simp] theorem Ada {q:IntKind} {a b:Int}:Eb .quo q q a b=if b=0 then none else some (.v (.int q (q.wrap (a.tdiv b)))):=by simp[Eb]
@[simp] theorem AdJ {q:IntKind} {a b:Int}:Eb .rem q q a b=if b=0 then none else some (.v (.int q (a.tmod b))):=by simp[Eb]
@[simp] theorem Ac5 {q:IntKind} {a b:Int}:Eb .and q q a b=some (.v (.int q (bits .and q a b))):=by simp[Eb]
@[simp] theorem AfF {q:IntKind} {a b:Int}:Eb .or q q a b=some (.v (.int q (bits .or q a b))):=by simp[Eb]
@[simp] theorem AbO {q:IntKind} {a b:Int}:Eb .xor q q a b=some (.v (.int q (bits .xor q a b))):=by simp[Eb]
@[simp] theorem vq {q:IntKind} {a b:Int}:Eb .andNot q q a b=some (.v (.int q (bits .andNot q a b))):=by simp[Eb]
@[simp] theorem Abe {q:IntKind} {a b:Int}:Eb .eql q q a b=some (.v (.bool (decide (a=b)))):=by simp[Eb];rfl
@[simp] theorem Abb {q:IntKind} {a b:Int}:Eb .neq q q a b=some (.v (.bool (!decide (a=b)))):=by simp[Eb];rfl
@[simp] theorem Abi {q:IntKind} {a b:Int}:Eb .lss q q a b=some (.v (.bool (decide (a<b)))):=by simp[Eb]
@[simp] theorem Ac7 {q:IntKind} {a b:Int}:Eb .leq q q a b=some (.v (.bool (decide (a≤b)))):=by simp[Eb]
@[simp] theorem Adi {q:IntKind} {a b:Int}:Eb .gtr q q a b=some (.v (.bool (decide (b<a)))):=by simp[Eb]
@[simp] theorem AaP {q:IntKind} {a b:Int}:Eb .geq q q a b=some (.v (.bool (decide (b≤a)))):=by simp[Eb]
@[simp] theorem AeO {b:Bool}:rM .not (.v (.bool b))=some (.v (.bool (!b))):=rfl
@[simp] theorem AfK {q:IntKind} {n:Int}:rM .neg (.v (.int q n))=some (.v (.int q (q.wrap (0-n)))):=rfl
theorem jg {u:TypeId} {d:TypeDesc} {q r:IntKind} {n:Int} (h1:P.underlying t=some d) (h2:P.underlying u=some (.int q)):JV P t u (.v (.int r n))=some (.v (.int q (q.wrap n))):=by unfold JV;rw[h1,h2]
@[simp] theorem Aed {cs:List A}:FU P H t (.pim cs)=match C5 P t,CI P t with | some g,some sz=>Ln g sz cs | _,_=>none:=rfl
@[simp] theorem Ad2 {sz:Nat} {cs:List A}:Ln true sz cs=if sz≤cs.length then some (.agg (cs.take sz)) else none:=rfl
@[simp] theorem yL {sz:Nat} {cs:List A}:Ln false sz cs=cs[0]?:=rfl
@[simp] theorem xu {n:Nat}:Hz (.tmp n)=false:=rfl
@[simp] theorem xH {k:IntKind} {n:Int}:Hz (.const (.int k n))=false:=rfl
@[simp] theorem uQ {n:Bool}:Hz (.const (.bool n))=false:=rfl
@[simp] theorem w6 {n:ByteArray}:Hz (.const (.string n))=false:=rfl
@[simp] theorem xP {n:Option Addr}:Hz (.const (.pointer n))=false:=rfl
@[simp] theorem vT {n:Array Value}:Hz (.const (.agg n))=false:=rfl
@[simp] theorem yj:Hz (.const .nilIface)=false:=rfl
@[simp] theorem wj:Hz (.const (.slice none 0 0))=true:=rfl
@[simp] theorem zl {x:A}:LW P .eql t x=match P.underlying t with | some (.slice _)=>(ZG x).map fun b=>.v (.bool b) | _=>none:=by
 unfold LW
 cases P.underlying t with
 |none=>rfl
 |some d=>cases d<;>rfl
@[simp] theorem yS {x:A}:LW P .neq t x=match P.underlying t with | some (.slice _)=>(ZG x).map fun b=>.v (.bool (!b)) | _=>none:=by
 unfold LW
 cases P.underlying t with
 |none=>rfl
 |some d=>cases d<;>rfl
@[simp] theorem zc {f:Bool} {x:A} {xs:List A}:ZG (.sl f (x::xs))=some false:=rfl
@[simp] theorem Ahx {a:Option Addr} {n c:Nat}:ZG (.v (.slice a n c))=some a.isNone:=rfl
@[simp] theorem zF {len:Nat} {lo hi:Option A}:EM len lo hi none=match GX hi len len with | some h=>(match GX lo 0 h with | some l=>some (l,h,none) | none=>none) | none=>none:=rfl
@[simp] theorem xv {d n:Nat}:GX none d n=some d:=rfl
@[simp] theorem yW {k:IntKind} {i:Int} {d n:Nat}:GX (some (.v (.int k i))) d n=if 0≤i∧i≤n then some i.toNat else none:=rfl
@[simp] theorem vP {f:Bool} {h n:Nat}:IQ none f h n=(f&&h == n):=rfl
@[simp] theorem w4 {f:Bool} {h n m:Nat}:IQ (some m) f h n=(m == h):=rfl
@[simp] theorem Aaz {n:Nat} {cs:List A}:A.shift n (.pim cs)=some (.pim (cs.drop n)):=rfl
@[simp] theorem zC {n u p:Nat} {o:Nm}:A.shift n (.pob o u p)=some (.pob o u (p+n)):=rfl
@[simp] theorem AaF {n u p q:Nat} {o:Nm}:A.shift n (.pel o u p q)=some (.pel o u p (q+n)):=rfl
@[simp] theorem sd {a:A} {i:Nat}:Fh P t a i=(Aj P t i).bind a.shift:=rfl
@[simp] theorem uL {xs:List A} {i:Nat}:Ih (.tup xs) i=xs[i]?:=rfl
@[simp] theorem uO {c:A} {cs news:List A} {n:Nat}:splice (c::cs) (n+1) news=c::splice cs n news:=by simp[splice,Nat.add_right_comm]
@[simp] theorem uE {cs news:List A}:splice cs 0 news=news++cs.drop news.length:=by simp[splice]
end
section
variable {P:Program} {s:Nat→A} {H:Hp}
@[simp] theorem Ab3 {d:Nat} {x:A} {H':Hp}:Sta.put ⟨s,H⟩ (some d) x H'=⟨upd s d x,H'⟩:=rfl
@[simp] theorem Ac2 {x:A} {H':Hp}:Sta.put ⟨s,H⟩ none x H'=⟨s,H'⟩:=rfl
@[simp] theorem AgY {d t:Nat} {x:A}:upd s d x t=if t=d then x else s t:=rfl
@[simp] theorem AgW {t:Nat}:lk [] t = .any:=rfl
@[simp] theorem AgA {d t:Nat} {x:A} {l:List (Nat × A)}:lk ((d,x)::l) t=if d=t then x else lk l t:=rfl
@[simp] theorem Afg {args:List A} {t:Nat}:Qb args t=(args[t]?).getD .any:=rfl
@[simp] theorem AfQ {t:Nat}:evs s (.tmp t)=s t:=rfl
@[simp] theorem Aac {x:Value}:evs s (.const x)=Fu x:=rfl
@[simp] theorem AaX {g:FuncId}:evs s (.func g) = .fnc g [] []:=rfl
@[simp] theorem Agu {live:List Nat}:Sta.keep ⟨s,H⟩ live=⟨lk (live.map fun k=>(k,s k)),H⟩:=rfl
@[simp] theorem Aeh {q:IntKind} {n:Int}:Fu (.int q n) = .v (.int q n):=rfl
@[simp] theorem Adc {b:Bool}:Fu (.bool b) = .v (.bool b):=rfl
@[simp] theorem xX {b:ByteArray}:Fu (.string b) = .v (.string b):=rfl
@[simp] theorem uF {b:Option Addr}:Fu (.pointer b) = .v (.pointer b):=rfl
@[simp] theorem Afm:Fu (.slice none 0 0) = .sl true []:=rfl
@[simp] theorem Agc {cs:Array Value}:Fu (.agg cs) = .agg (cs.toList.map Wz):=rfl
@[simp] theorem Acn {q:IntKind} {n:Int}:Wz (.int q n) = .v (.int q n):=rfl
@[simp] theorem yT {b:Bool}:Wz (.bool b) = .v (.bool b):=rfl
@[simp] theorem uN {b:ByteArray}:Wz (.string b) = .v (.string b):=rfl
@[simp] theorem tQ {b:Option Addr}:Wz (.pointer b) = .v (.pointer b):=rfl
@[simp] theorem AbE:Wz (.slice none 0 0) = .sl true []:=rfl
@[simp] theorem zp {cs:List A}:(A.agg cs).cells=cs:=rfl
@[simp] theorem Afc {x:Value}:(A.v x).cells=[.v x]:=rfl
@[simp] theorem Acp {b:Bool} {xs:List A}:(A.sl b xs).cells=[.sl b xs]:=rfl
@[simp] theorem zU {o:Nm} {u z p q:Nat}:(A.osl o u z p q).cells=[.osl o u z p q]:=rfl
@[simp] theorem zy {cs:List A}:(A.pim cs).cells=[.pim cs]:=rfl
@[simp] theorem Aal {o:Nm} {u p:Nat}:(A.pob o u p).cells=[.pob o u p]:=rfl
@[simp] theorem Acl:A.ones []=true:=rfl
@[simp] theorem zw {a:A} {l:List A}:A.ones (a::l)=(a.one&&A.ones l):=by simp[A.ones]
@[simp] theorem Ae7 {q:IntKind} {n:Int}:(A.v (.int q n)).one=true:=rfl
@[simp] theorem Abn {b:Bool}:(A.v (.bool b)).one=true:=rfl
@[simp] theorem wE {b:ByteArray}:(A.v (.string b)).one=true:=rfl
@[simp] theorem vb {b:Option Addr}:(A.v (.pointer b)).one=true:=rfl
@[simp] theorem Aib {b:Bool} {xs:List A}:(A.sl b xs).one=true:=rfl
@[simp] theorem AgC {o:Nm} {u z p q:Nat}:(A.osl o u z p q).one=true:=rfl
@[simp] theorem Af7 {cs:List A}:(A.pim cs).one=true:=rfl
@[simp] theorem Aeo {o:Nm} {u p:Nat}:(A.pob o u p).one=true:=rfl
@[simp] theorem Aah {cs:List A}:(A.pim cs).isPtr=true:=rfl
@[simp] theorem AaJ {o:Nm} {u p:Nat}:(A.pob o u p).isPtr=true:=rfl
@[simp] theorem Aaq {o:Nm} {u p q:Nat}:(A.pel o u p q).isPtr=true:=rfl
@[simp] theorem Ae9 {x:Value}:(A.v x).isPtr=false:=rfl
@[simp] theorem AfB {x:Value}:(A.v x).bare1=true:=rfl
@[simp] theorem AbG {b:Bool} {xs:List A}:(A.sl b xs).bare1=true:=rfl
@[simp] theorem ze {cs:List A}:(A.pim cs).bare1=true:=rfl
@[simp] theorem AaE:(A.any).bare1=true:=rfl
@[simp] theorem zP {o:Nm} {u z p q:Nat}:(A.osl o u z p q).bare1=false:=rfl
@[simp] theorem zD {o:Nm} {u p:Nat}:(A.pob o u p).bare1=false:=rfl
@[simp] theorem Aha {x:Value}:(A.v x).bare=true:=rfl
@[simp] theorem AfN {b:Bool} {xs:List A}:(A.sl b xs).bare=true:=rfl
@[simp] theorem AcE {cs:List A}:(A.pim cs).bare=true:=rfl
@[simp] theorem Adl {o:Nm} {u z p q:Nat}:(A.osl o u z p q).bare=false:=rfl
@[simp] theorem Ab1 {o:Nm} {u p:Nat}:(A.pob o u p).bare=false:=rfl
@[simp] theorem Acf {cs:List A}:(A.agg cs).bare=cs.all A.bare2:=rfl
@[simp] theorem Afk {x:Value}:(A.v x).bare2=true:=rfl
@[simp] theorem AbP {b:Bool} {xs:List A}:(A.sl b xs).bare2=true:=rfl
@[simp] theorem zo {cs:List A}:(A.pim cs).bare2=true:=rfl
@[simp] theorem yD:(A.any).bare2=true:=rfl
@[simp] theorem AbQ {g:FuncId} {fs cs:List A}:(A.fnc g fs cs).bare=(fs.all A.bare1&&cs.all A.bare1):=rfl
@[simp] theorem zz {g:FuncId} {fs cs:List A}:(A.fnc g fs cs).bare2=(fs.all A.bare1&&cs.all A.bare1):=rfl
@[simp] theorem yC {g:FuncId} {fs cs:List A}:(A.fnc g fs cs).cells=[.fnc g fs cs]:=rfl
@[simp] theorem Aff {g:FuncId} {fs cs:List A}:(A.fnc g fs cs).one=true:=rfl
@[simp] theorem AgR {x:Value}:(A.v x).flat=true:=rfl
@[simp] theorem AcY {n:Nat}:DS n []=true:=rfl
@[simp] theorem AaK {n:Nat} {x:A} {l:List A}:DS n (x::l)=(x.cells.length == n&&DS n l):=rfl
@[simp] theorem ve {n:Nat} {l l':List A}:DS n (l++l')=(DS n l&&DS n l'):=by simp[DS]
@[simp] theorem AaI {pl:Nat→Option (Nat × Nat)} {cs:List A}:BW pl cs []=some cs:=rfl
@[simp] theorem wM {pl:Nat→Option (Nat × Nat)} {cs:List A} {i:Nat} {x:A} {ps:List (Nat × A)}:BW pl cs ((i,x)::ps)=match pl i with
  |none=>none
  |some (off,size)=>if x.cells.length=size∧off+size≤cs.length∧A.ones x.cells=true then BW pl (splice cs off x.cells) ps else none:=rfl
def DH:List (Nm × VOb)→Hp
 |[],_=>⟨0,.none⟩
 |(k,x)::l,o=>if k=o then x else DH l o
def po:List (Nm × VOb)→Nm→VOb→List (Nm × VOb)
 |[],d,x=>[(d,x)]
 |(k,y)::l,d,x=>if k=d then (k,x)::l else (k,y)::po l d x
@[simp] theorem AiT:H0=DH []:=rfl
@[simp] theorem gV {o:Nm}:DH [] o=⟨0,.none⟩:=rfl
@[simp] theorem N3 {k o:Nm} {x:VOb} {l:List (Nm × VOb)}:DH ((k,x)::l) o=if k=o then x else DH l o:=rfl
@[simp] theorem nE {d:Nm} {x:VOb}:po [] d x=[(d,x)]:=rfl
@[simp] theorem kq {k d:Nm} {x y:VOb} {l:List (Nm × VOb)}:po ((k,y)::l) d x=if k=d then (k,x)::l else (k,y)::po l d x:=rfl
@[simp] theorem Ac9 {l:List (Nm × VOb)} {d:Nm} {x:VOb}:AQ (DH l) d x=DH (po l d x):=by
 funext o
 induction l with
 |nil=>
  simp only[AQ,nE,N3,gV]
  by_cases h:o=d
  ·subst h;simp
  ·simp[h,Ne.symm h]
 |cons p l ih=>
  obtain⟨k,y⟩:=p
  simp only[kq]
  by_cases hk:k=d
  ·subst hk
   simp only[if_pos,N3,AQ]
   by_cases h:o=k
   ·subst h;simp
   ·simp[h,Ne.symm h]
  ·rw[if_neg hk,N3,← ih]
   simp only[AQ,N3]
   by_cases h:o=d
   ·subst h;simp[hk]
   ·simp[h]
@[simp] theorem AcN {o:Nm} {u p:Nat}:refs (.pob o u p)=[(o,false)]:=rfl
@[simp] theorem Aee {o:Nm} {u p q:Nat}:refs (.pel o u p q)=[(o,false)]:=rfl
@[simp] theorem Acd {o:Nm} {u z p q:Nat}:refs (.osl o u z p q)=[(o,false)]:=rfl
@[simp] theorem AhO {x:Value}:refs (.v x)=[]:=rfl
@[simp] theorem AfD {f:Bool} {xs:List A}:refs (.sl f xs)=[]:=rfl
@[simp] theorem AcQ {xs:List A}:refs (.pim xs)=[]:=rfl
@[simp] theorem AdN {xs:List A}:refs (.agg xs)=[]:=rfl
@[simp] theorem Ae8 {d o:Nm} {u z p q:Nat}:tS d (.osl o u z p q)=[(o,false)]:=rfl
@[simp] theorem AhB {d:Nm} {f:Bool} {xs:List A}:tS d (.sl f xs)=[(d,false)]:=rfl
@[simp] theorem AiR {R W R' W':Fp}:nc ⟨R,W⟩ ⟨R',W'⟩=(bJ W (R'++W')&&bJ W' (R++W)):=rfl
@[simp] theorem Agn {l:Fp}:bJ [] l=true:=rfl
@[simp] theorem AdU {p:Nm × Bool} {l m:Fp}:bJ (p::l) m=((m.all fun q=>ou p q)&&bJ l m):=rfl
@[simp] theorem Afx {p q:Nm} {a b:Bool}:ou (p,a) (q,b)=match a,b with
 |false,false=>p != q
 |true,false=>!p.isPrefixOf q
 |false,true=>!q.isPrefixOf p
 |true,true=>!p.isPrefixOf q&&!q.isPrefixOf p:=rfl
end
section
variable {P:Program} {K:Sta→Prop} {rest:List CO} {s:Nat→A} {H:Hp} {dd:Option Nat} {k:Nat} {f:Bool} {nm:Nm} {ix:Nat} {un:List Nat} {l:Bool} {lg:Lg}
@[simp] theorem Agg {st:Sta}:Ap P K [] lg st=K st:=rfl
@[simp] theorem wm {i:Nat} {g:Ft}:Bd false i g lg=lg:=rfl
@[simp] theorem yY {i:Nat} {g:Ft}:Bd true i g lg=(i,g)::lg:=rfl
@[simp] theorem AhU {g:Ft}:Ck [] lg g=True:=by simp[Ck]
@[simp] theorem Aga {g:Ft}:Ck un [] g=True:=by simp[Ck]
@[simp] theorem Aep {i:Nat} {g h:Ft}:Ck un ((i,g)::lg) h=((i ∈ un→nc g h=true)∧Ck un lg h):=by simp[Ck]
theorem Oo:Ck un lg ⟨[],[]⟩:=fun p _ _=>by simp[nc,Jt,KR]
def fg (q:Bool) (g:Ft):Ft:=⟨bif q then g.R else [],bif q then g.W else []⟩
@[simp] theorem Aer {g:Ft}:fg true g=g:=rfl
@[simp] theorem AbB {g:Ft}:fg false g=⟨[],[]⟩:=rfl
theorem DK {op:Op} {F:Option A} (hF:∀ x E R W,Zr P nm op (evs s) H x E R W ↔ Wa F x E R W) :
  Ap P K (⟨dd,op,none,nm,ix,un,l⟩::rest) lg ⟨s,H⟩=Gt F fun x=>Ap P K rest (Bd l ix ⟨[],[]⟩ lg) (Sta.put ⟨s,H⟩ dd x H):=by
 apply propext
 constructor
 ·rintro⟨x,E,⟨R,W⟩,h1,h2,h3⟩
  obtain⟨h4,rfl,h5,h6⟩:=(hF x E R W).1 h1
  subst h5 h6
  exact⟨x,h4,h3⟩
 ·rintro⟨x,h1,h2⟩
  exact⟨x,.nil,⟨[],[]⟩,(hF _ _ _ _).2 ⟨h1,rfl,rfl,rfl⟩,Oo,h2⟩
theorem B9 {op:Op} {F:Option A} (hF:∀ x E R W,Zr P nm op (evs s) H x E R W ↔ Wa F x E R W) :
  Ap P K (⟨dd,op,some (k,f),nm,ix,un,l⟩::rest) lg ⟨s,H⟩=Gt (B8 (s k) f) fun q=>GJ q F fun x=>Ap P K rest (Bd l ix ⟨[],[]⟩ lg) (Sta.put ⟨s,H⟩ dd x H):=by
 apply propext
 constructor
 ·rintro⟨x,E,⟨R,W⟩,⟨q,x0,h1,h2,rfl,h4⟩,h5,h6⟩
  refine⟨q,h1,x0,fun hq=>((hF _ _ _ _).1 (h2 hq)).1,?_⟩
  have:E = .nil∧R=[]∧W=[]:=by
   cases hq:q with
   |true=>exact((hF _ _ _ _).1 (h2 hq)).2
   |false=>exact h4 hq
  obtain⟨rfl,h7,h8⟩:=this
  subst h7 h8
  exact h6
 ·rintro⟨q,h1,x0,h2,h3⟩
  exact⟨_,.nil,⟨[],[]⟩,⟨q,x0,h1,fun hq=>(hF _ _ _ _).2 ⟨h2 hq,rfl,rfl,rfl⟩,rfl,fun _=>⟨rfl,rfl,rfl⟩⟩,Oo,h3⟩
theorem Sk {op:Op} {F:Option (A × Eff)} {R W:Fp} (hF:∀ x E R' W',Zr P nm op (evs s) H x E R' W' ↔ F=some (x,E)∧R'=R∧W'=W) :
  Ap P K (⟨dd,op,none,nm,ix,un,l⟩::rest) lg ⟨s,H⟩=Gt F fun p=>Ck un lg ⟨R,W⟩∧Ap P K rest (Bd l ix ⟨R,W⟩ lg) (Sta.put ⟨s,H⟩ dd p.1 (p.2.app H)):=by
 apply propext
 constructor
 ·rintro⟨x,E,⟨R',W'⟩,h1,h2,h3⟩
  obtain⟨h4,h5,h6⟩:=(hF x E R' W').1 h1
  subst h5 h6
  exact⟨(x,E),h4,h2,h3⟩
 ·rintro⟨⟨x,E⟩,h1,h2,h3⟩
  exact⟨x,E,⟨R,W⟩,(hF _ _ _ _).2 ⟨h1,rfl,rfl⟩,h2,h3⟩
theorem AF {op:Op}:Ap P K (⟨dd,op,some (k,f),nm,ix,un,l⟩::rest) lg ⟨s,H⟩=Gt (B8 (s k) f) fun q=>TJ q (Ap P K (⟨dd,op,none,nm,ix,un,l⟩::rest) lg ⟨s,H⟩) (Ap P K rest (Bd l ix ⟨[],[]⟩ lg) (Sta.put ⟨s,H⟩ dd (.v undef) H)):=by
 apply propext
 constructor
 ·rintro⟨x,E,⟨R,W⟩,⟨q,x0,h1,h2,rfl,h4⟩,h5,h6⟩
  refine⟨q,h1,fun hq=>⟨x0,E,⟨R,W⟩,h2 hq,h5,?_⟩,fun hq=>?_⟩
  ·subst hq;exact h6
  ·subst hq
   obtain⟨rfl,h7,h8⟩:=h4 rfl
   subst h7 h8
   exact h6
 ·rintro⟨q,h1,h2,h3⟩
  cases q with
  |true=>
   obtain⟨x,E,g,h4,h5,h6⟩:=h2 rfl
   exact⟨x,E,g,⟨true,x,h1,fun _=>h4,rfl,(fun h=>nomatch h)⟩,h5,h6⟩
  |false=>exact⟨_,.nil,⟨[],[]⟩,⟨false,.any,h1,(fun h=>nomatch h),rfl,fun _=>⟨rfl,rfl,rfl⟩⟩,Oo,h3 rfl⟩
section
variable {a b:Operand} {t:TypeId}
@[simp] theorem AeT:Ap P K (⟨dd,.move a,none,nm,ix,un,l⟩::rest) lg ⟨s,H⟩=Ap P K rest (Bd l ix ⟨[],[]⟩ lg) (Sta.put ⟨s,H⟩ dd (evs s a) H):=by
 rw[DK (F:=some (evs s a)) (fun _ _ _ _=>Iff.rfl)];simp
@[simp] theorem yU:Ap P K (⟨dd,.assign a,none,nm,ix,un,l⟩::rest) lg ⟨s,H⟩=Ap P K rest (Bd l ix ⟨[],[]⟩ lg) (Sta.put ⟨s,H⟩ dd (evs s a) H):=by
 rw[DK (F:=some (evs s a)) (fun _ _ _ _=>Iff.rfl)];simp
@[simp] theorem y8:Ap P K (⟨dd,.move a,some (k,f),nm,ix,un,l⟩::rest) lg ⟨s,H⟩=Gt (B8 (s k) f) fun q=>Ap P K rest (Bd l ix ⟨[],[]⟩ lg) (Sta.put ⟨s,H⟩ dd (gd q (evs s a)) H):=by
 rw[B9 (F:=some (evs s a)) (fun _ _ _ _=>Iff.rfl)];simp
@[simp] theorem Ahc {op:BinOp} {u:TypeId}:Ap P K (⟨dd,.binOp op t a b u,none,nm,ix,un,l⟩::rest) lg ⟨s,H⟩=Gt (if Hz b=true then LW P op t (evs s a) else JU P op t (evs s a) (evs s b)) fun x=>Ap P K rest (Bd l ix ⟨[],[]⟩ lg) (Sta.put ⟨s,H⟩ dd x H):=DK fun _ _ _ _=>Iff.rfl
@[simp] theorem AdL {op:BinOp} {u:TypeId}:Ap P K (⟨dd,.binOp op t a b u,some (k,f),nm,ix,un,l⟩::rest) lg ⟨s,H⟩=Gt (B8 (s k) f) fun q=>GJ q (if Hz b=true then LW P op t (evs s a) else JU P op t (evs s a) (evs s b)) fun x=>Ap P K rest (Bd l ix ⟨[],[]⟩ lg) (Sta.put ⟨s,H⟩ dd x H):=B9 fun _ _ _ _=>Iff.rfl
@[simp] theorem AiV {op:UnOp}:Ap P K (⟨dd,.unOp op t a,none,nm,ix,un,l⟩::rest) lg ⟨s,H⟩=Gt (rM op (evs s a)) fun x=>Ap P K rest (Bd l ix ⟨[],[]⟩ lg) (Sta.put ⟨s,H⟩ dd x H):=DK fun _ _ _ _=>Iff.rfl
@[simp] theorem AgI {op:UnOp}:Ap P K (⟨dd,.unOp op t a,some (k,f),nm,ix,un,l⟩::rest) lg ⟨s,H⟩=Gt (B8 (s k) f) fun q=>GJ q (rM op (evs s a)) fun x=>Ap P K rest (Bd l ix ⟨[],[]⟩ lg) (Sta.put ⟨s,H⟩ dd x H):=B9 fun _ _ _ _=>Iff.rfl
@[simp] theorem AeW {u:TypeId}:Ap P K (⟨dd,.convert t u a,none,nm,ix,un,l⟩::rest) lg ⟨s,H⟩=Gt (JV P t u (evs s a)) fun x=>Ap P K rest (Bd l ix ⟨[],[]⟩ lg) (Sta.put ⟨s,H⟩ dd x H):=DK fun _ _ _ _=>Iff.rfl
@[simp] theorem zt {u:TypeId}:Ap P K (⟨dd,.convert t u a,some (k,f),nm,ix,un,l⟩::rest) lg ⟨s,H⟩=Gt (B8 (s k) f) fun q=>GJ q (JV P t u (evs s a)) fun x=>Ap P K rest (Bd l ix ⟨[],[]⟩ lg) (Sta.put ⟨s,H⟩ dd x H):=B9 fun _ _ _ _=>Iff.rfl
@[simp] theorem sv {i:Nat}:Ap P K (⟨dd,.fieldAddr t a i,none,nm,ix,un,l⟩::rest) lg ⟨s,H⟩=Gt (Fh P t (evs s a) i) fun x=>Ap P K rest (Bd l ix ⟨[],[]⟩ lg) (Sta.put ⟨s,H⟩ dd x H):=DK fun _ _ _ _=>Iff.rfl
@[simp] theorem rb {i:Nat}:Ap P K (⟨dd,.fieldAddr t a i,some (k,f),nm,ix,un,l⟩::rest) lg ⟨s,H⟩=Gt (B8 (s k) f) fun q=>GJ q (Fh P t (evs s a) i) fun x=>Ap P K rest (Bd l ix ⟨[],[]⟩ lg) (Sta.put ⟨s,H⟩ dd x H):=B9 fun _ _ _ _=>Iff.rfl
@[simp] theorem AcJ {i:Nat}:Ap P K (⟨dd,.field t a i,none,nm,ix,un,l⟩::rest) lg ⟨s,H⟩=Gt (Px P t (evs s a) i) fun x=>Ap P K rest (Bd l ix ⟨[],[]⟩ lg) (Sta.put ⟨s,H⟩ dd x H):=DK fun _ _ _ _=>Iff.rfl
@[simp] theorem xS {i:Nat}:Ap P K (⟨dd,.field t a i,some (k,f),nm,ix,un,l⟩::rest) lg ⟨s,H⟩=Gt (B8 (s k) f) fun q=>GJ q (Px P t (evs s a) i) fun x=>Ap P K rest (Bd l ix ⟨[],[]⟩ lg) (Sta.put ⟨s,H⟩ dd x H):=B9 fun _ _ _ _=>Iff.rfl
@[simp] theorem tR  : Ap P K (⟨dd,.indexAddr t a b,none,nm,ix,un,l⟩::rest) lg ⟨s,H⟩=Gt (Bq P t (evs s a) (evs s b)) fun x=>Ap P K rest (Bd l ix ⟨[],[]⟩ lg) (Sta.put ⟨s,H⟩ dd x H):=DK fun _ _ _ _=>Iff.rfl
@[simp] theorem mY  : Ap P K (⟨dd,.indexAddr t a b,some (k,f),nm,ix,un,l⟩::rest) lg ⟨s,H⟩=Gt (B8 (s k) f) fun q=>GJ q (Bq P t (evs s a) (evs s b)) fun x=>Ap P K rest (Bd l ix ⟨[],[]⟩ lg) (Sta.put ⟨s,H⟩ dd x H):=B9 fun _ _ _ _=>Iff.rfl
@[simp] theorem AbZ  : Ap P K (⟨dd,.index t a b,none,nm,ix,un,l⟩::rest) lg ⟨s,H⟩=Gt (Ma P t (evs s a) (evs s b)) fun x=>Ap P K rest (Bd l ix ⟨[],[]⟩ lg) (Sta.put ⟨s,H⟩ dd x H):=DK fun _ _ _ _=>Iff.rfl
@[simp] theorem vS  : Ap P K (⟨dd,.index t a b,some (k,f),nm,ix,un,l⟩::rest) lg ⟨s,H⟩=Gt (B8 (s k) f) fun q=>GJ q (Ma P t (evs s a) (evs s b)) fun x=>Ap P K rest (Bd l ix ⟨[],[]⟩ lg) (Sta.put ⟨s,H⟩ dd x H):=B9 fun _ _ _ _=>Iff.rfl
@[simp] theorem v5 {i:Nat}:Ap P K (⟨dd,.extract a i,none,nm,ix,un,l⟩::rest) lg ⟨s,H⟩=Gt (Ih (evs s a) i) fun x=>Ap P K rest (Bd l ix ⟨[],[]⟩ lg) (Sta.put ⟨s,H⟩ dd x H):=DK fun _ _ _ _=>Iff.rfl
@[simp] theorem tP {i:Nat}:Ap P K (⟨dd,.extract a i,some (k,f),nm,ix,un,l⟩::rest) lg ⟨s,H⟩=Gt (B8 (s k) f) fun q=>GJ q (Ih (evs s a) i) fun x=>Ap P K rest (Bd l ix ⟨[],[]⟩ lg) (Sta.put ⟨s,H⟩ dd x H):=B9 fun _ _ _ _=>Iff.rfl
@[simp] theorem Abr {ps:Array (Nat × Operand)}:Ap P K (⟨dd,.build t ps,none,nm,ix,un,l⟩::rest) lg ⟨s,H⟩=Gt (Bs P t (ps.toList.map fun p=>(p.1,evs s p.2))) fun x=>Ap P K rest (Bd l ix ⟨[],[]⟩ lg) (Sta.put ⟨s,H⟩ dd x H):=DK fun _ _ _ _=>Iff.rfl
@[simp] theorem xU {ps:Array (Nat × Operand)}:Ap P K (⟨dd,.build t ps,some (k,f),nm,ix,un,l⟩::rest) lg ⟨s,H⟩=Gt (B8 (s k) f) fun q=>GB P q t [] (ps.toList.map fun p=>(p.1,evs s p.2)) fun x=>Ap P K rest (Bd l ix ⟨[],[]⟩ lg) (Sta.put ⟨s,H⟩ dd x H):=B9 fun _ _ _ _=>Iff.rfl
@[simp] theorem rA {n:Nat} {ps:Array (Nat × Operand)}:Ap P K (⟨dd,.buildSlice t n ps,none,[],ix,un,l⟩::rest) lg ⟨s,H⟩=Gt (Fc P t n (ps.toList.map fun p=>(p.1,evs s p.2))) fun x=>Ap P K rest (Bd l ix ⟨[],[]⟩ lg) (Sta.put ⟨s,H⟩ dd x H):=DK fun _ _ _ _=>Iff.rfl
@[simp] theorem lH {n:Nat} {ps:Array (Nat × Operand)}:Ap P K (⟨dd,.buildSlice t n ps,some (k,f),[],ix,un,l⟩::rest) lg ⟨s,H⟩=Gt (B8 (s k) f) fun q=>GJ q (Fc P t n (ps.toList.map fun p=>(p.1,evs s p.2))) fun x=>Ap P K rest (Bd l ix ⟨[],[]⟩ lg) (Sta.put ⟨s,H⟩ dd x H):=B9 fun _ _ _ _=>Iff.rfl
@[simp] theorem Ads {lo hi mx:Option Operand}:Ap P K (⟨dd,.slice t a lo hi mx,none,nm,ix,un,l⟩::rest) lg ⟨s,H⟩=Gt (HC P t (evs s a) (lo.map (evs s)) (hi.map (evs s)) (mx.map (evs s))) fun x=>Ap P K rest (Bd l ix ⟨[],[]⟩ lg) (Sta.put ⟨s,H⟩ dd x H):=DK fun _ _ _ _=>Iff.rfl
@[simp] theorem yq {lo hi mx:Option Operand}:Ap P K (⟨dd,.slice t a lo hi mx,some (k,f),nm,ix,un,l⟩::rest) lg ⟨s,H⟩=Gt (B8 (s k) f) fun q=>GJ q (HC P t (evs s a) (lo.map (evs s)) (hi.map (evs s)) (mx.map (evs s))) fun x=>Ap P K rest (Bd l ix ⟨[],[]⟩ lg) (Sta.put ⟨s,H⟩ dd x H):=B9 fun _ _ _ _=>Iff.rfl
@[simp] theorem u6  : Ap P K (⟨dd,.nilCheck a,none,nm,ix,un,l⟩::rest) lg ⟨s,H⟩=Gt (pT (evs s a)) fun x=>Ap P K rest (Bd l ix ⟨[],[]⟩ lg) (Sta.put ⟨s,H⟩ dd x H):=DK fun _ _ _ _=>Iff.rfl
@[simp] theorem ry  : Ap P K (⟨dd,.nilCheck a,some (k,f),nm,ix,un,l⟩::rest) lg ⟨s,H⟩=Gt (B8 (s k) f) fun q=>GJ q (pT (evs s a)) fun x=>Ap P K rest (Bd l ix ⟨[],[]⟩ lg) (Sta.put ⟨s,H⟩ dd x H):=B9 fun _ _ _ _=>Iff.rfl
@[simp] theorem Ags {c:Operand}:Ap P K (⟨dd,.pick c a b,none,nm,ix,un,l⟩::rest) lg ⟨s,H⟩=Gt (ao (evs s c) (evs s a) (evs s b)) fun x=>Ap P K rest (Bd l ix ⟨[],[]⟩ lg) (Sta.put ⟨s,H⟩ dd x H):=DK fun _ _ _ _=>Iff.rfl
@[simp] theorem zL {c:Operand}:Ap P K (⟨dd,.pick c a b,some (k,f),nm,ix,un,l⟩::rest) lg ⟨s,H⟩=Gt (B8 (s k) f) fun q=>GJ q (ao (evs s c) (evs s a) (evs s b)) fun x=>Ap P K rest (Bd l ix ⟨[],[]⟩ lg) (Sta.put ⟨s,H⟩ dd x H):=B9 fun _ _ _ _=>Iff.rfl
@[simp] theorem u5 {g:FuncId} {fs cs:Array Operand}:Ap P K (⟨dd,.makeFunc (.func g) fs cs,none,nm,ix,un,l⟩::rest) lg ⟨s,H⟩=Gt (some (A.fnc g (fs.toList.map (evs s)) (cs.toList.map (evs s)))) fun x=>Ap P K rest (Bd l ix ⟨[],[]⟩ lg) (Sta.put ⟨s,H⟩ dd x H):=DK fun _ _ _ _=>Iff.rfl
@[simp] theorem rB {g:FuncId} {fs cs:Array Operand}:Ap P K (⟨dd,.makeFunc (.func g) fs cs,some (k,f),nm,ix,un,l⟩::rest) lg ⟨s,H⟩=Gt (B8 (s k) f) fun q=>GJ q (some (A.fnc g (fs.toList.map (evs s)) (cs.toList.map (evs s)))) fun x=>Ap P K rest (Bd l ix ⟨[],[]⟩ lg) (Sta.put ⟨s,H⟩ dd x H):=B9 fun _ _ _ _=>Iff.rfl
@[simp] theorem jb  : Ap P K (⟨dd,.makeInterface t a,none,nm,ix,un,l⟩::rest) lg ⟨s,H⟩=Gt (aK P t (evs s a)) fun x=>Ap P K rest (Bd l ix ⟨[],[]⟩ lg) (Sta.put ⟨s,H⟩ dd x H):=DK fun _ _ _ _=>Iff.rfl
@[simp] theorem df  : Ap P K (⟨dd,.makeInterface t a,some (k,f),nm,ix,un,l⟩::rest) lg ⟨s,H⟩=Gt (B8 (s k) f) fun q=>GJ q (aK P t (evs s a)) fun x=>Ap P K rest (Bd l ix ⟨[],[]⟩ lg) (Sta.put ⟨s,H⟩ dd x H):=B9 fun _ _ _ _=>Iff.rfl
@[simp] theorem ri {u:TypeId} {ok:Bool}:Ap P K (⟨dd,.typeAssert a t u ok,none,nm,ix,un,l⟩::rest) lg ⟨s,H⟩=Gt (Mi P u ok (evs s a)) fun x=>Ap P K rest (Bd l ix ⟨[],[]⟩ lg) (Sta.put ⟨s,H⟩ dd x H):=DK fun _ _ _ _=>Iff.rfl
@[simp] theorem ly {u:TypeId} {ok:Bool}:Ap P K (⟨dd,.typeAssert a t u ok,some (k,f),nm,ix,un,l⟩::rest) lg ⟨s,H⟩=Gt (B8 (s k) f) fun q=>GJ q (Mi P u ok (evs s a)) fun x=>Ap P K rest (Bd l ix ⟨[],[]⟩ lg) (Sta.put ⟨s,H⟩ dd x H):=B9 fun _ _ _ _=>Iff.rfl
@[simp] theorem Ah9 {as':Array Operand} {ts:Array TypeId}:Ap P K (⟨dd,.call { callee:=.builtin .min,args:=as',argTypes:=ts },none,nm,ix,un,l⟩::rest) lg ⟨s,H⟩=Gt (EL false (as'.toList.map (evs s))) fun x=>Ap P K rest (Bd l ix ⟨[],[]⟩ lg) (Sta.put ⟨s,H⟩ dd x H):=DK fun _ _ _ _=>Iff.rfl
@[simp] theorem AcH {as':Array Operand} {ts:Array TypeId}:Ap P K (⟨dd,.call { callee:=.builtin .min,args:=as',argTypes:=ts },some (k,f),nm,ix,un,l⟩::rest) lg ⟨s,H⟩=Gt (B8 (s k) f) fun q=>GJ q (EL false (as'.toList.map (evs s))) fun x=>Ap P K rest (Bd l ix ⟨[],[]⟩ lg) (Sta.put ⟨s,H⟩ dd x H):=B9 fun _ _ _ _=>Iff.rfl
@[simp] theorem Ag1 {as':Array Operand} {ts:Array TypeId}:Ap P K (⟨dd,.call { callee:=.builtin .max,args:=as',argTypes:=ts },none,nm,ix,un,l⟩::rest) lg ⟨s,H⟩=Gt (EL true (as'.toList.map (evs s))) fun x=>Ap P K rest (Bd l ix ⟨[],[]⟩ lg) (Sta.put ⟨s,H⟩ dd x H):=DK fun _ _ _ _=>Iff.rfl
@[simp] theorem AbV {as':Array Operand} {ts:Array TypeId}:Ap P K (⟨dd,.call { callee:=.builtin .max,args:=as',argTypes:=ts },some (k,f),nm,ix,un,l⟩::rest) lg ⟨s,H⟩=Gt (B8 (s k) f) fun q=>GJ q (EL true (as'.toList.map (evs s))) fun x=>Ap P K rest (Bd l ix ⟨[],[]⟩ lg) (Sta.put ⟨s,H⟩ dd x H):=B9 fun _ _ _ _=>Iff.rfl
@[simp] theorem AhM:Ap P K (⟨dd,.call { callee:=.builtin .len,args:=#[a],argTypes:=#[t] },none,nm,ix,un,l⟩::rest) lg ⟨s,H⟩=Gt (Nj P t (evs s a)) fun x=>Ap P K rest (Bd l ix ⟨[],[]⟩ lg) (Sta.put ⟨s,H⟩ dd x H):=DK fun x E R W=>by
  constructor
  ·rintro⟨a',t',h1,h2,h3⟩;cases h1;cases h2;exact h3
  ·intro h;exact⟨a,t,rfl,rfl,h⟩
@[simp] theorem AcC:Ap P K (⟨dd,.call { callee:=.builtin .len,args:=#[a],argTypes:=#[t] },some (k,f),nm,ix,un,l⟩::rest) lg ⟨s,H⟩=Gt (B8 (s k) f) fun q=>GJ q (Nj P t (evs s a)) fun x=>Ap P K rest (Bd l ix ⟨[],[]⟩ lg) (Sta.put ⟨s,H⟩ dd x H):=B9 fun x E R W=>by
  constructor
  ·rintro⟨a',t',h1,h2,h3⟩;cases h1;cases h2;exact h3
  ·intro h;exact⟨a,t,rfl,rfl,h⟩
@[simp] theorem AfI:Ap P K (⟨dd,.load t a,none,nm,ix,un,l⟩::rest) lg ⟨s,H⟩=Gt (FU P H t (evs s a)) fun x=>Ck un lg ⟨refs (evs s a),[]⟩∧Ap P K rest (Bd l ix ⟨refs (evs s a),[]⟩ lg) (Sta.put ⟨s,H⟩ dd x H):=by
 apply propext
 constructor
 ·rintro⟨x,E,⟨R,W⟩,⟨h1,rfl,h2,h3⟩,h4,h5⟩
  simp only at h2 h3
  subst h2 h3
  exact⟨x,h1,h4,h5⟩
 ·rintro⟨x,h1,h4,h5⟩
  exact⟨x,.nil,⟨_,_⟩,⟨h1,rfl,rfl,rfl⟩,h4,h5⟩
@[simp] theorem AaL:Ap P K (⟨dd,.load t a,some (k,f),nm,ix,un,l⟩::rest) lg ⟨s,H⟩=Gt (B8 (s k) f) fun q=>GJ q (FU P H t (evs s a)) fun x=>Ck un lg (fg q ⟨refs (evs s a),[]⟩)∧Ap P K rest (Bd l ix (fg q ⟨refs (evs s a),[]⟩) lg) (Sta.put ⟨s,H⟩ dd x H):=by
 apply propext
 constructor
 ·rintro⟨x,E,⟨R,W⟩,⟨q,x0,h1,h2,rfl,h4⟩,h5,h6⟩
  refine⟨q,h1,x0,fun hq=>(h2 hq).1,?_⟩
  have:E = .nil∧(⟨R,W⟩:Ft)=fg q ⟨refs (evs s a),[]⟩:=by
   cases hq:q with
   |true=>
    obtain⟨_,e1,e2,e3⟩:=h2 hq
    simp only at e2 e3
    exact⟨e1,by rw[e2,e3];rfl⟩
   |false=>
    obtain⟨e1,e2,e3⟩:=h4 hq
    simp only at e2 e3
    exact⟨e1,by rw[e2,e3];rfl⟩
  obtain⟨rfl,e⟩:=this
  rw[e] at h5 h6
  exact⟨h5,h6⟩
 ·rintro⟨q,h1,x0,h2,h5,h6⟩
  refine⟨_,.nil,fg q ⟨refs (evs s a),[]⟩,⟨q,x0,h1,fun hq=>⟨h2 hq,rfl,?_,?_⟩,rfl,fun hq=>⟨rfl,?_,?_⟩⟩,h5,h6⟩<;>subst hq<;>rfl
@[simp] theorem AbC:Ap P K (⟨dd,.alloc t,none,nm,ix,un,l⟩::rest) lg ⟨s,H⟩=Gt (PH P H nm t) fun p=>Ck un lg ⟨[],[(nm,false)]⟩∧Ap P K rest (Bd l ix ⟨[],[(nm,false)]⟩ lg) (Sta.put ⟨s,H⟩ dd p.1 (p.2.app H)):=Sk fun _ _ _ _=>Iff.rfl
@[simp] theorem Ahp:Ap P K (⟨dd,.box t a,none,nm,ix,un,l⟩::rest) lg ⟨s,H⟩=Gt (cW H nm t (evs s a)) fun p=>Ck un lg ⟨[],[(nm,false)]⟩∧Ap P K rest (Bd l ix ⟨[],[(nm,false)]⟩ lg) (Sta.put ⟨s,H⟩ dd p.1 (p.2.app H)):=Sk fun _ _ _ _=>Iff.rfl
@[simp] theorem qY {n a':Nat} {d':Nm} {ps:Array (Nat × Operand)}:Ap P K (⟨dd,.buildSlice t n ps,none,a'::d',ix,un,l⟩::rest) lg ⟨s,H⟩=Gt (Ef P H (a'::d') t n (ps.toList.map fun p=>(p.1,evs s p.2))) fun p=>Ck un lg ⟨[],[(a'::d',false)]⟩∧Ap P K rest (Bd l ix ⟨[],[(a'::d',false)]⟩ lg) (Sta.put ⟨s,H⟩ dd p.1 (p.2.app H)):=Sk fun _ _ _ _=>Iff.rfl
@[simp] theorem tg:Ap P K (⟨dd,.makeSlice t a b,none,nm,ix,un,l⟩::rest) lg ⟨s,H⟩=Gt (EV P H nm t (evs s a) (evs s b)) fun p=>Ck un lg ⟨[],[(nm,false)]⟩∧Ap P K rest (Bd l ix ⟨[],[(nm,false)]⟩ lg) (Sta.put ⟨s,H⟩ dd p.1 (p.2.app H)):=Sk fun _ _ _ _=>Iff.rfl
@[simp] theorem AbA:Ap P K (⟨dd,.store t a b,none,nm,ix,un,l⟩::rest) lg ⟨s,H⟩=Gt (HD P H t (evs s a) (evs s b)) fun E=>Ck un lg ⟨[],refs (evs s a)⟩∧Ap P K rest (Bd l ix ⟨[],refs (evs s a)⟩ lg) (Sta.put ⟨s,H⟩ dd .any (E.app H)):=by
 apply propext
 constructor
 ·rintro⟨x,E,⟨R,W⟩,⟨h1,rfl,h2,h3⟩,h4,h5⟩
  simp only at h2 h3
  subst h2 h3
  exact⟨E,h1,h4,h5⟩
 ·rintro⟨E,h1,h4,h5⟩
  exact⟨_,E,⟨_,_⟩,⟨h1,rfl,rfl,rfl⟩,h4,h5⟩
@[simp] theorem zi {u:TypeId}:Ap P K (⟨dd,.call { callee:=.builtin .append,args:=#[a,b],argTypes:=#[t,u] },none,nm,ix,un,l⟩::rest) lg ⟨s,H⟩=Gt (El P H nm t u (evs s a) (evs s b)) fun p=>Ck un lg ⟨refs (evs s b),tS nm (evs s a)⟩∧Ap P K rest (Bd l ix ⟨refs (evs s b),tS nm (evs s a)⟩ lg) (Sta.put ⟨s,H⟩ dd p.1 (p.2.app H)):=
 Sk fun x E R W=>by
  constructor
  ·rintro⟨a',b',t',u',h1,h2,h3,h4,h5⟩;cases h1;cases h2;exact⟨h3,h4,h5⟩
  ·rintro⟨h3,h4,h5⟩;exact⟨a,b,t,u,rfl,rfl,h3,h4,h5⟩
@[simp] theorem Agz {u:TypeId}:Ap P K (⟨dd,.call { callee:=.builtin .copy,args:=#[a,b],argTypes:=#[t,u] },none,nm,ix,un,l⟩::rest) lg ⟨s,H⟩=Gt (NA P H t (evs s a) (evs s b)) fun p=>Ck un lg ⟨refs (evs s b),refs (evs s a)⟩∧Ap P K rest (Bd l ix ⟨refs (evs s b),refs (evs s a)⟩ lg) (Sta.put ⟨s,H⟩ dd p.1 (p.2.app H)):=
 Sk fun x E R W=>by
  constructor
  ·rintro⟨a',b',t',u',h1,h2,h3,h4,h5⟩;cases h1;cases h2;exact⟨h3,h4,h5⟩
  ·rintro⟨h3,h4,h5⟩;exact⟨a,b,t,u,rfl,rfl,h3,h4,h5⟩
@[simp] theorem wB:Ap P K (⟨dd,.alloc t,some (k,f),nm,ix,un,l⟩::rest) lg ⟨s,H⟩=Gt (B8 (s k) f) fun q=>TJ q (Ap P K (⟨dd,.alloc t,none,nm,ix,un,l⟩::rest) lg ⟨s,H⟩) (Ap P K rest (Bd l ix ⟨[],[]⟩ lg) (Sta.put ⟨s,H⟩ dd (.v undef) H)):=AF
@[simp] theorem Aa0:Ap P K (⟨dd,.box t a,some (k,f),nm,ix,un,l⟩::rest) lg ⟨s,H⟩=Gt (B8 (s k) f) fun q=>TJ q (Ap P K (⟨dd,.box t a,none,nm,ix,un,l⟩::rest) lg ⟨s,H⟩) (Ap P K rest (Bd l ix ⟨[],[]⟩ lg) (Sta.put ⟨s,H⟩ dd (.v undef) H)):=AF
@[simp] theorem jQ {n a':Nat} {d':Nm} {ps:Array (Nat × Operand)}:Ap P K (⟨dd,.buildSlice t n ps,some (k,f),a'::d',ix,un,l⟩::rest) lg ⟨s,H⟩=Gt (B8 (s k) f) fun q=>TJ q (Ap P K (⟨dd,.buildSlice t n ps,none,a'::d',ix,un,l⟩::rest) lg ⟨s,H⟩) (Ap P K rest (Bd l ix ⟨[],[]⟩ lg) (Sta.put ⟨s,H⟩ dd (.v undef) H)):=AF
@[simp] theorem oE:Ap P K (⟨dd,.makeSlice t a b,some (k,f),nm,ix,un,l⟩::rest) lg ⟨s,H⟩=Gt (B8 (s k) f) fun q=>TJ q (Ap P K (⟨dd,.makeSlice t a b,none,nm,ix,un,l⟩::rest) lg ⟨s,H⟩) (Ap P K rest (Bd l ix ⟨[],[]⟩ lg) (Sta.put ⟨s,H⟩ dd (.v undef) H)):=AF
@[simp] theorem vU:Ap P K (⟨dd,.store t a b,some (k,f),nm,ix,un,l⟩::rest) lg ⟨s,H⟩=Gt (B8 (s k) f) fun q=>TJ q (Ap P K (⟨dd,.store t a b,none,nm,ix,un,l⟩::rest) lg ⟨s,H⟩) (Ap P K rest (Bd l ix ⟨[],[]⟩ lg) (Sta.put ⟨s,H⟩ dd (.v undef) H)):=AF
@[simp] theorem uY {u:TypeId}:Ap P K (⟨dd,.call { callee:=.builtin .append,args:=#[a,b],argTypes:=#[t,u] },some (k,f),nm,ix,un,l⟩::rest) lg ⟨s,H⟩=Gt (B8 (s k) f) fun q=>TJ q (Ap P K (⟨dd,.call { callee:=.builtin .append,args:=#[a,b],argTypes:=#[t,u] },none,nm,ix,un,l⟩::rest) lg ⟨s,H⟩) (Ap P K rest (Bd l ix ⟨[],[]⟩ lg) (Sta.put ⟨s,H⟩ dd (.v undef) H)):=AF
@[simp] theorem yZ {u:TypeId}:Ap P K (⟨dd,.call { callee:=.builtin .copy,args:=#[a,b],argTypes:=#[t,u] },some (k,f),nm,ix,un,l⟩::rest) lg ⟨s,H⟩=Gt (B8 (s k) f) fun q=>TJ q (Ap P K (⟨dd,.call { callee:=.builtin .copy,args:=#[a,b],argTypes:=#[t,u] },none,nm,ix,un,l⟩::rest) lg ⟨s,H⟩) (Ap P K rest (Bd l ix ⟨[],[]⟩ lg) (Sta.put ⟨s,H⟩ dd (.v undef) H)):=AF
theorem Ae {g:FuncId} {as':Array Operand} {ts:Array TypeId} {x:A} (hs:Spec P g (as'.toList.map (evs s)) x) (hb:(as'.toList.map (evs s)).all A.bare=true) (h:Ap P K rest (Bd l ix ⟨[],[]⟩ lg) (Sta.put ⟨s,H⟩ dd x H)) :
  Ap P K (⟨dd,.call { callee:=.value (.func g),args:=as',argTypes:=ts },none,nm,ix,un,l⟩::rest) lg ⟨s,H⟩:=
 ⟨x,.nil,⟨[],[]⟩,⟨g,[],[],rfl,.inl ⟨by simpa using hb,by simpa using hs,rfl,rfl,rfl⟩⟩,Oo,h⟩
theorem nN {g:FuncId} {as':Array Operand} {ts:Array TypeId} {L:List A} {x:A} (hL:as'.toList.map (evs s)=L) (hs:Spec P g L x) (hb:L.all A.bare=true) (h:Ap P K rest (Bd l ix ⟨[],[]⟩ lg) (Sta.put ⟨s,H⟩ dd x H)) :
  Ap P K (⟨dd,.call { callee:=.value (.func g),args:=as',argTypes:=ts },none,nm,ix,un,l⟩::rest) lg ⟨s,H⟩:=by subst hL;exact Ae hs hb h
theorem Lo {o:Operand} {g:FuncId} {fs caps:List A} {as':Array Operand} {ts:Array TypeId} {x:A} (ho:evs s o = .fnc g fs caps) (hs:Spec P g (fs++(as'.toList.map (evs s)++caps)) x) (hb:(fs++(as'.toList.map (evs s)++caps)).all A.bare=true) (h:Ap P K rest (Bd l ix ⟨[],[]⟩ lg) (Sta.put ⟨s,H⟩ dd x H)) :
  Ap P K (⟨dd,.call { callee:=.value o,args:=as',argTypes:=ts },none,nm,ix,un,l⟩::rest) lg ⟨s,H⟩:=
 ⟨x,.nil,⟨[],[]⟩,⟨g,fs,caps,ho,.inl ⟨hb,hs,rfl,rfl,rfl⟩⟩,Oo,h⟩
theorem LG {g:FuncId} {as':Array Operand} {ts:Array TypeId} {x:A} (as'':List A) (hs:SpecB P g as'' x) (hf:GG H (as'.toList.map (evs s)) as'') (hc:Ck un lg ⟨[([],true)],[]⟩) (h:Ap P K rest (Bd l ix ⟨[([],true)],[]⟩ lg) (Sta.put ⟨s,H⟩ dd x H)) :
  Ap P K (⟨dd,.call { callee:=.value (.func g),args:=as',argTypes:=ts },none,nm,ix,un,l⟩::rest) lg ⟨s,H⟩:=
 ⟨x,.nil,⟨_,_⟩,⟨g,[],[],rfl,.inr (.inl ⟨⟨as'',by simpa using hf,hs⟩,rfl,rfl,rfl⟩)⟩,hc,h⟩
theorem cy {g:FuncId} {as':Array Operand} {ts:Array TypeId} {x:A} (E:Eff) (R W:Fp) (hs:∀ H2,Agree (R++W) H H2→Vw P H2 g (as'.toList.map (evs s)) x E) (hw:Sn E W) (hc:Ck un lg ⟨R,W⟩) (h:Ap P K rest (Bd l ix ⟨R,W⟩ lg) (Sta.put ⟨s,H⟩ dd x (E.app H))) :
  Ap P K (⟨dd,.call { callee:=.value (.func g),args:=as',argTypes:=ts },none,nm,ix,un,l⟩::rest) lg ⟨s,H⟩:=
 ⟨x,E,⟨R,W⟩,⟨g,[],[],rfl,.inr (.inr ⟨by simpa using hs,hw⟩)⟩,hc,h⟩
theorem Sm {g:FuncId} {as':Array Operand} {ts:Array TypeId} {x:A} {q:Bool} (hq:B8 (s k) f=some q) (hs:q=true→Spec P g (as'.toList.map (evs s)) x∧(as'.toList.map (evs s)).all A.bare=true)
  (h:Ap P K rest (Bd l ix ⟨[],[]⟩ lg) (Sta.put ⟨s,H⟩ dd (gd q x) H)) :
  Ap P K (⟨dd,.call { callee:=.value (.func g),args:=as',argTypes:=ts },some (k,f),nm,ix,un,l⟩::rest) lg ⟨s,H⟩:=
 ⟨_,.nil,⟨[],[]⟩,⟨q,x,hq,fun e=>⟨g,[],[],rfl,.inl ⟨by simpa using (hs e).2,by simpa using (hs e).1,rfl,rfl,rfl⟩⟩,rfl,fun _=>⟨rfl,rfl,rfl⟩⟩,Oo,h⟩
end
end
section
variable {P:Program} {K:Sta→Prop} {rest:List CO} {s:Nat→A} {H:Hp} {dd:Option Nat} {k:Nat} {g:FuncId} {as':Array Operand} {ts:Array TypeId} {x:A} {q:Bool} {L:List A} {nm:Nm} {ix:Nat} {un:List Nat} {l:Bool} {lg:Lg}
theorem Gk (hq:s k = .v (.bool q)) (hs:q=true→Spec P g L x) (hL:q=true→as'.toList.map (evs s)=L) (hb:L.all A.bare=true)
  (h:Ap P K rest (Bd l ix ⟨[],[]⟩ lg) (Sta.put ⟨s,H⟩ dd (gd q x) H)) :
  Ap P K (⟨dd,.call { callee:=.value (.func g),args:=as',argTypes:=ts },some (k,true),nm,ix,un,l⟩::rest) lg ⟨s,H⟩:=
 Sm (q:=q) (by rw[hq];cases q<;>rfl) (fun e=>by rw[hL e];exact⟨hs e,hb⟩) h
theorem C6 (hq:s k = .v (.bool q)) (hs:q=false→Spec P g L x) (hL:q=false→as'.toList.map (evs s)=L) (hb:L.all A.bare=true)
  (h:Ap P K rest (Bd l ix ⟨[],[]⟩ lg) (Sta.put ⟨s,H⟩ dd (gd (ng q) x) H)) :
  Ap P K (⟨dd,.call { callee:=.value (.func g),args:=as',argTypes:=ts },some (k,false),nm,ix,un,l⟩::rest) lg ⟨s,H⟩:=
 Sm (q:=ng q) (by rw[hq];cases q<;>rfl) (fun e=>by have e:q=false:=(by simpa using e);rw[hL e];exact⟨hs e,hb⟩) h
end
@[simp] theorem Abk {q r t:Bool}:(bif q then A.v (.bool r) else A.v (.bool t))=A.v (.bool (bif q then r else t)):=by cases q<;>rfl
theorem Ab {H:Hp} {a:A} (h:a.bare=true):Jw H a a:=fun c w I μ v hs hr=>(hr.of_bare h).mono0 (fun b hb=>.inl hb) (fun _ _=>rfl)
theorem rZ {w:World} {I:Nat→Prop} {μ:Mu} {f:Bool} {xs:List A} {v:Value} (h:Rel w I μ (.sl f xs) v):Rel w I μ (.sl false xs) v:=by
 cases h with
 |slN _ _ a cap _=>exact .slN _ _ _ _ (fun h=>by cases h)
 |sl _ _ b off n cap sz _ g h1 h2 h3 h4 h5 h6 h7 h8=>exact .sl _ _ b off n cap sz _ g h1 h2 h3 (fun h=>by cases h) h5 h6 h7 h8
theorem An {H:Hp} {f:Bool} {xs:List A}:Jw H (.sl f xs) (.sl false xs):=fun c w I μ v hs hr=>rZ (Ab (a:=.sl f xs) rfl c w I μ v hs hr)
theorem Bl {H:Hp} {p q:Bool} (h:p=q):Jw H (.v (.bool p)) (.v (.bool q)):=by rw[h];exact Ab rfl
theorem Ca {H:Hp} {k:IntKind} {p q:Int} (h:p=q):Jw H (.v (.int k p)) (.v (.int k q)):=by rw[h];exact Ab rfl
theorem Ao {H:Hp} {a a':A} (h:a.bare=true) (e:a=a'):Jw H a a':=by rw[← e];exact Ab h
theorem K5 {H:Hp} {o:Nm} {u off len sz:Nat} {xs ys:List A} (ho:PY H o u=some (sz,xs)) (hl:off+len≤xs.length) (hn:ys.length=len) (hy:∀ y,y ∈ ys→y.cells.length=sz) (h1:A.ones (ys.flatMap A.cells)=true)
  (hb:GG H (((xs.drop off).take len).flatMap A.cells) (ys.flatMap A.cells)):Jw H (.osl o u sz off len) (.sl false ys):=by
 intro c w I μ v hs hr
 obtain⟨hg1,hg2⟩:=JO hb
 cases hr with
 |osl _ _ _ _ _ _ a cap g1 g2 g4 g5 g3=>
  obtain⟨hu,k2,hrow⟩:=hs.row ho
  obtain⟨_,hcur⟩:=g3 hu.symm
  by_cases h0:len=0
  ·subst h0
   have:ys=[]:=List.eq_nil_of_length_eq_zero hn
   subst this
   exact .slN _ _ _ _ (fun h=>by cases h)
  rcases hcur with ⟨e,_⟩ | ⟨p1,rfl,p3⟩
  ·exact(h0 e).elim
  rcases hrow with ⟨q1,_⟩ | ⟨q1,vs,k3,k4,k5,k6,k7⟩
  ·rw[p1] at q1;cases q1
  subst k2
  have hB:Ec (μ o) (H o).ob=true:=by rw[(Gq ho).2];exact q1
  have hg:∀ (k:Nat) (y:A),(((xs.drop off).take len).flatMap A.cells)[k]? = some y→(xs.flatMap A.cells)[off*(μ o).sz+k]? = some y:=fun k y hk=>Ea k6 hk
  refine .sl _ _ (μ o).b (off*(μ o).sz) _ _ (μ o).sz _ (fun k=>vs.getD (off*(μ o).sz+k) undef) (Or.inr ⟨o,hB,rfl⟩) hn.symm (by omega) (fun h=>by cases h) hy
   (fun k y hk=>List.all_eq_true.1 h1 y (List.mem_of_getElem? hk)) (fun k y hk=>?_) (fun k y hk=>?_)
  ·obtain⟨a',ha',_⟩:=hg2 k y hk
   have h3:=hg k a' ha'
   have h4:=BH k6
   have h5:xs.length*(μ o).sz≤(μ o).cap*(μ o).sz:=Nat.mul_le_mul_right _ k5
   have h6:=(List.getElem?_eq_some_iff.1 h3).1
   rw[cell_of_row w (μ o).b _ vs (μ o).e (0,0) k3]
   have:off*(μ o).sz+k<vs.size:=by rw[k4];omega
   simp[this]
  ·obtain⟨a',ha',hf⟩:=hg2 k y hk
   exact hf c w I μ _ hs (k7 _ a' (hg k a' ha')).2
theorem Oe {H:Hp}:∀ {l:List A},l.all A.bare=true→GG H l l
 |[],_=>trivial
 |a::l,h=>by
  simp only[List.all_cons,Bool.and_eq_true] at h
  exact⟨Ab h.1,Oe h.2⟩
theorem qg {a:A} (h:a.bare1=true):a.bare=true:=by cases a<;>simp_all [A.bare1,A.bare,A.bare2]
theorem Rn {H:Hp} {o:Nm} {u off len sz:Nat} {xs:List A} (ho:PY H o u=some (sz,xs)) (hl:off+len≤xs.length) (hb:((xs.drop off).take len).all (fun x=>x.cells.length == sz&&x.cells.all fun y=>A.bare1 y&&y.one)=true):Jw H (.osl o u sz off len) (.sl false ((xs.drop off).take len)):=by
 simp only[List.all_eq_true,Bool.and_eq_true,beq_iff_eq] at hb
 refine K5 ho hl (by simp;omega) (fun y hy=>(hb y hy).1) ?_ (Oe ?_)
 ·simp only[A.ones,List.all_eq_true]
  intro y hy
  obtain⟨x,hx,hy⟩:=List.mem_flatMap.1 hy
  exact((hb x hx).2 y hy).2
 ·simp only[List.all_eq_true]
  intro y hy
  obtain⟨x,hx,hy⟩:=List.mem_flatMap.1 hy
  exact qg ((hb x hx).2 y hy).1
theorem Dd {H:Hp} {cs cs':List A} (h:GG H cs cs'):Jw H (.agg cs) (.agg cs'):=by
 intro c w I μ v hs hr
 obtain⟨hl,hg⟩:=JO h
 cases hr with
 |agg _ _ vs h1 h2=>
  refine .agg _ _ _ (by omega) fun k y hk=>?_
  obtain⟨a,ha,hf⟩:=hg k y hk
  exact hf c w I μ _ hs (h2 k a ha)
theorem F5 {H:Hp} {cs cs':List A} (h:GG H cs cs'):Jw H (.tup cs) (.tup cs'):=by
 intro c w I μ v hs hr
 obtain⟨hl,hg⟩:=JO h
 cases hr with
 |tup _ _ vs h1 h2=>
  refine .tup _ _ _ (by omega) fun k y hk=>?_
  obtain⟨a,ha,hf⟩:=hg k y hk
  exact hf c w I μ _ hs (h2 k a ha)
theorem YR {H:Hp} {o:Nm} {u:Nat} {cs cs':List A} (ho:We H o u=some cs) (h:GG H cs cs') (h1:A.ones cs'=true):Jw H (.pob o u 0) (.pim cs'):=by
 intro c w I μ v hs hr
 obtain⟨hl,hg⟩:=JO h
 cases hr with
 |pob _ _ _ _ b k g1 g2 g3=>
  obtain⟨hu,vs,k2,k3,k4⟩:=hs.cells ho
  obtain⟨rfl,rfl⟩:=g3 hu.symm
  have hB:Ec (μ o) (H o).ob=true:=by rw[(RK ho).2];rfl
  refine .pim _ (μ o).b 0 _ (fun k=>vs.getD k undef) (Or.inr ⟨o,hB,rfl⟩) (fun k y hk=>?_) (fun k y hk=>?_) (fun k y hk=>?_)
  ·simp only[A.ones,List.all_eq_true] at h1
   exact h1 y (List.mem_of_getElem? hk)
  ·rw[Nat.zero_add,cell_of_row w (μ o).b k vs (μ o).e (0,0) k2]
   have:k<vs.size:=by rw[k3,← hl];exact(List.getElem?_eq_some_iff.1 hk).1
   simp[this]
  ·obtain⟨a,ha,hf⟩:=hg k y hk
   exact hf c w I μ _ hs (k4 k a ha).2
@[simp] theorem AdW {H:Hp}:GG H [] []=True:=rfl
@[simp] theorem AaB {H:Hp} {a a':A} {l l':List A}:GG H (a::l) (a'::l')=(Jw H a a'∧GG H l l'):=rfl
end Go.G
namespace Go.Proofs.YtbjmaoedheiigaaGreat
set_option maxRecDepth 20000
open Go Go.G Go.Proofs
theorem Ak:Tryz.prog.follows .mixedOrders=true:=by kernel_rfl
@[simp] theorem Ail:Tryz.prog.underlying 3=some (.int .i64):=by kernel_rfl
@[simp] theorem AgT:Tryz.prog.underlying 21=some (.int .i32):=by kernel_rfl
@[simp] theorem Ag6:Tryz.prog.underlying 51=some (.int .u64):=by kernel_rfl
@[simp] theorem AeM:Tryz.prog.underlying 288=some (.int .u32):=by kernel_rfl
@[simp] theorem AiH:CI Tryz.prog 3=some 1:=by kernel_rfl
@[simp] theorem Aiw:CI Tryz.prog 4=some 1:=by kernel_rfl
@[simp] theorem Af3:CI Tryz.prog 135=some 8:=by kernel_rfl
@[simp] theorem AeY:CI Tryz.prog 175=some 8:=by kernel_rfl
@[simp] theorem Ahv:C5 Tryz.prog 3=some false:=by kernel_rfl
@[simp] theorem AhN:C5 Tryz.prog 4=some false:=by kernel_rfl
@[simp] theorem AdM:C5 Tryz.prog 135=some true:=by kernel_rfl
@[simp] theorem AcI:C5 Tryz.prog 175=some true:=by kernel_rfl
@[simp] theorem AaM:Bn Tryz.prog 135=some (Value.agg #[Value.int IntKind.i64 0,Value.int IntKind.i64 0,Value.int IntKind.i64 0,Value.int IntKind.i64 0,Value.int IntKind.i64 0,Value.int IntKind.i64 0,Value.int IntKind.i64 0,Value.bool false]):=by kernel_rfl
@[simp] theorem Aay:Bn Tryz.prog 175=some (Value.agg #[Value.int IntKind.i64 0,Value.int IntKind.i64 0,Value.int IntKind.i64 0,Value.int IntKind.i64 0,Value.int IntKind.i64 0,Value.int IntKind.i64 0,Value.int IntKind.i64 0,Value.bool false]):=by kernel_rfl
@[simp] theorem lQ:Aj Tryz.prog 175 0=some 0:=by kernel_rfl
@[simp] theorem lq:Aj Tryz.prog 175 1=some 1:=by kernel_rfl
@[simp] theorem l9:Aj Tryz.prog 175 2=some 2:=by kernel_rfl
@[simp] theorem my:Aj Tryz.prog 175 3=some 3:=by kernel_rfl
@[simp] theorem mo:Aj Tryz.prog 175 4=some 4:=by kernel_rfl
@[simp] theorem kZ:Aj Tryz.prog 175 5=some 5:=by kernel_rfl
@[simp] theorem lS:Aj Tryz.prog 175 6=some 6:=by kernel_rfl
@[simp] theorem lh:Aj Tryz.prog 175 7=some 7:=by kernel_rfl
@[simp] theorem w5 (ps:List (Nat × A)):Bs Tryz.prog 135 ps=(BW (fun i=>([(0,1),(1,1),(2,1),(3,1),(4,1),(5,1),(6,1),(7,1)]:List (Nat × Nat))[i]?) [A.v (Value.int IntKind.i64 0),A.v (Value.int IntKind.i64 0),A.v (Value.int IntKind.i64 0),A.v (Value.int IntKind.i64 0),A.v (Value.int IntKind.i64 0),A.v (Value.int IntKind.i64 0),A.v (Value.int IntKind.i64 0),A.v (Value.bool false)] ps).map A.agg:=by kernel_rfl
@[simp] theorem yk (ps:List (Nat × A)):Bs Tryz.prog 175 ps=(BW (fun i=>([(0,1),(1,1),(2,1),(3,1),(4,1),(5,1),(6,1),(7,1)]:List (Nat × Nat))[i]?) [A.v (Value.int IntKind.i64 0),A.v (Value.int IntKind.i64 0),A.v (Value.int IntKind.i64 0),A.v (Value.int IntKind.i64 0),A.v (Value.int IntKind.i64 0),A.v (Value.int IntKind.i64 0),A.v (Value.int IntKind.i64 0),A.v (Value.bool false)] ps).map A.agg:=by kernel_rfl
@[simp] theorem Aew (x0 y0:Int) (x1 y1:Int) (x2 y2:Int) (x3 y3:Int) (x4 y4:Int) (x5 y5:Int) (x6 y6:Int) (x7 y7:Bool):LL Tryz.prog 100 175 (.agg [A.v (.int .i64 x0),A.v (.int .i64 x1),A.v (.int .i64 x2),A.v (.int .i64 x3),A.v (.int .i64 x4),A.v (.int .i64 x5),A.v (.int .i64 x6),A.v (.bool x7)]) (.agg [A.v (.int .i64 y0),A.v (.int .i64 y1),A.v (.int .i64 y2),A.v (.int .i64 y3),A.v (.int .i64 y4),A.v (.int .i64 y5),A.v (.int .i64 y6),A.v (.bool y7)])=some (((x0 == y0)&&((x1 == y1)&&((x2 == y2)&&((x3 == y3)&&((x4 == y4)&&((x5 == y5)&&((x6 == y6)&&((x7 == y7)&&(true)))))))))):=by kernel_rfl
@[simp] theorem AfJ:Tryz.prog.eqGuardType Tryz.prog.depth 175=false:=by kernel_rfl
@[simp] abbrev xT (n:Nat):Operand:=.tmp n
@[simp] abbrev nI (n:Int):Operand:=.const (.int .i64 n)
@[simp] abbrev cL (f:Nat) (xs:Array Operand) (ts:Array TypeId):Op:=.call { callee:=(.value (.func f)),args:=xs,argTypes:=ts }
@[simp] abbrev mV (n:Nat):Op:=.move (.tmp n)
@[simp] abbrev aS (n:Nat):Op:=.assign (.tmp n)
@[simp] abbrev lD (t n:Nat):Op:=.load t (.tmp n)
@[simp] abbrev fA (t n f:Nat):Op:=.fieldAddr t (.tmp n) f
@[simp] abbrev xR (n i:Nat):Op:=.extract (.tmp n) i
@[simp] abbrev oO (d:Nat) (o:Op):CO:=co (some d) o none
@[simp] abbrev oN (d:Nat) (o:Op) (nm:Nm):CO:=cn (some d) o none nm
@[simp] abbrev oS (o:Op):CO:=co none o none
@[simp] abbrev oG (d:Nat) (o:Op) (k:Nat) (b:Bool):CO:=co (some d) o (some (k,b))
@[simp] abbrev bC (b:Builtin) (xs:Array Operand) (ts:Array TypeId):Op:=.call { callee:=(.builtin b),args:=xs,argTypes:=ts }
@[simp] abbrev bL (n t:Nat):Op:=.call { callee:=(.builtin .len),args:=#[.tmp n],argTypes:=#[t] }
@[simp] abbrev bO (o:BinOp) (t a b u:Nat):Op:=.binOp o t (.tmp a) (.tmp b) u
@[simp] abbrev iA (t a b:Nat):Op:=.indexAddr t (.tmp a) (.tmp b)
@[simp] abbrev nB (b:Bool):Operand:=.const (.bool b)
@[simp] abbrev nS:Operand:=.const (.slice none 0 0)
@[simp] abbrev mO (d n:Nat):CO:=co (some d) (.move (.tmp n)) none
@[simp] abbrev aO (d n:Nat):CO:=co (some d) (.assign (.tmp n)) none
@[simp] abbrev lO (d t n:Nat):CO:=co (some d) (.load t (.tmp n)) none
@[simp] abbrev fO (d t n f:Nat):CO:=co (some d) (.fieldAddr t (.tmp n) f) none
@[simp] abbrev xO (d n i:Nat):CO:=co (some d) (.extract (.tmp n) i) none
def yc:Nat→List CO→List (Nat × Nm)
 |_,[]=>[]
 |i,x::l=>if x.nm.isEmpty then yc (i+1) l else (i,x.nm)::yc (i+1) l
def Rq:CC→List Mk
 |.reg a b=>[(b,yc 0 a)]
 |.seq x (.keep b (.stop y))=>Rq x++(999997::b,[])::Rq y
 |.seq x (.keep b y)=>Rq x++(999999::b,[])::Rq y
 |.seq x (.stop y)=>Rq x++([999998],[])::Rq y
 |.seq x y=>Rq x++([],[])::Rq y
 |.cond _ x y=>Rq x++Rq y
 |.block _ x=>Rq x
 |.loop x=>Rq x
 |.scope x=>Rq x
 |_=>[]
@[simp] abbrev sR (a:List CO) (b:List Nat) (k:CC):CC:=.seq (.reg a b) k
@[simp] abbrev cD (n:Nat) (a b:CC):CC:=.cond (.tmp n) a b
def Rs:CC:=sR [oO 4 (.assign (nB false))] [0,1] (sR [mO 5 0,oO 6 (.binOp .geq 3 (xT 5) (nI 0) 3),mO 7 6,oG 8 (mV 0) 7 true,oG 9 (mV 1) 7 true,oG 10 (bO .leq 3 8 9 3) 7 true,oO 11 (.pick (xT 7) (xT 10) (nB false)),aO 4 11] [4] (.ret))
theorem Au {f:FuncId} {fn:Func} {cc:CC} {rs:List ResultVar} {n:Nat} (hf:Tryz.prog.funcs[f]? = some fn) (hn:fn.ntmps=n:=by kernel_rfl) (hk:WA Tryz.prog f=true:=by kernel_rfl) (hb:fn.body=some (fn.body.getD .ret):=by kernel_rfl) (hrs:fn.results.toList=rs:=by kernel_rfl) (hc:Ke n (fn.body.getD .ret) (Rq cc)=some (cc,[]):=by kernel_rfl):Bh Tryz.prog f n rs cc:=xc Ak hk hf hb hn hrs hc
theorem Y3:Bh Tryz.prog 225 12 [(.tmp 4)] Rs:=Au Tryz.func225
def RB:CC:=sR [oN 2 (.alloc 175) [0]] [0,2] (sR [mO 4 0,oO 5 (.convert 51 288 (xT 4)),oO 6 (.convert 288 21 (xT 5)),oO 7 (.convert 21 3 (xT 6)),oO 8 (.binOp .shr 3 (xT 7) (.const (.int .u64 2)) 269),aO 3 8] [0,2,3] (.seq (.block 0 (sR [mO 10 0,oO 11 (.binOp .eql 51 (xT 10) (.const (.int .u64 0)) 51),aO 9 11] [0,2,3,9] (cD 9 (sR [oO 12 (.build 175 #[]),oS (.store 175 (xT 2) (xT 12))] [2] (.ret)) (sR [mO 14 0,oO 15 (.binOp .and 51 (xT 14) (.const (.int .u64 3)) 51),oO 16 (.binOp .eql 51 (xT 15) (.const (.int .u64 0)) 51),aO 13 16] [0,2,3,13] (cD 13 (sR [mO 17 3,mO 18 0,oO 19 (.binOp .shr 51 (xT 18) (.const (.int .u64 32)) 269),oO 20 (.binOp .and 51 (xT 19) (.const (.int .u64 65535)) 51),oO 21 (.convert 51 3 (xT 20)),mO 22 0,oO 23 (.binOp .shr 51 (xT 22) (.const (.int .u64 48)) 269),oO 24 (.convert 51 3 (xT 23)),oO 25 (.build 175 #[(0,(nI 1)),(1,(xT 17)),(2,(xT 21)),(3,(xT 24))]),oS (.store 175 (xT 2) (xT 25))] [2] (.ret)) (sR [mO 27 0,oO 28 (.binOp .and 51 (xT 27) (.const (.int .u64 3)) 51),oO 29 (.binOp .eql 51 (xT 28) (.const (.int .u64 1)) 51),aO 26 29] [0,2,3,26] (cD 26 (sR [mO 30 3,mO 31 0,oO 32 (.binOp .shr 51 (xT 31) (.const (.int .u64 32)) 269),oO 33 (.binOp .and 51 (xT 32) (.const (.int .u64 7)) 51),oO 34 (.convert 51 3 (xT 33)),mO 35 0,oO 36 (.binOp .shr 51 (xT 35) (.const (.int .u64 35)) 269),oO 37 (.convert 51 3 (xT 36)),oO 38 (.build 175 #[(0,(nI 2)),(1,(xT 30)),(4,(xT 34)),(5,(xT 37))]),oS (.store 175 (xT 2) (xT 38))] [2] (.ret)) (sR [mO 40 0,oO 41 (.binOp .and 51 (xT 40) (.const (.int .u64 3)) 51),oO 42 (.binOp .eql 51 (xT 41) (.const (.int .u64 2)) 51),aO 39 42] [0,2,39] (cD 39 (sR [mO 43 0,oO 44 (.binOp .shr 51 (xT 43) (.const (.int .u64 3)) 269),oO 45 (.binOp .and 51 (xT 44) (.const (.int .u64 536870911)) 51),oO 46 (.convert 51 3 (xT 45)),mO 47 0,oO 48 (.binOp .shr 51 (xT 47) (.const (.int .u64 32)) 269),oO 49 (.convert 51 3 (xT 48)),mO 50 0,oO 51 (.binOp .and 51 (xT 50) (.const (.int .u64 4)) 51),oO 52 (.binOp .neq 51 (xT 51) (.const (.int .u64 0)) 51),oO 53 (.build 175 #[(0,(nI 3)),(1,(xT 46)),(6,(xT 49)),(7,(xT 52))]),oS (.store 175 (xT 2) (xT 53))] [2] (.ret)) (.skip)))))))))) (.keep [2] (sR [oO 54 (.build 175 #[(0,(nI 4))]),oS (.store 175 (xT 2) (xT 54))] [2] (.ret)))))
theorem X0:Bh Tryz.prog 204 55 [(.cell 2 175)] RB:=Au Tryz.func204
def D0:CC:=.seq (sR [mO 11 7,mO 12 1,oO 13 (bO .lss 3 11 12 3)] [0,1,2,7,13] (cD 13 (.skip) (.exit 0))) (.keep [0,1,2,7] (.seq (.block 1 (.reg [mO 16 0,oO 17 (.binOp .quo 51 (xT 16) (.const (.int .u64 2)) 51),aO 0 17] [0,1,2,7])) (.reg [mO 14 7,oO 15 (.binOp .add 3 (xT 14) (nI 1) 3),aO 7 15] [0,1,2,7])))
def DZ:CC:=.seq (sR [mO 18 10,mO 19 2,oO 20 (bO .lss 3 18 19 3)] [0,2,8,9,10,20] (cD 20 (.skip) (.exit 2))) (.keep [0,2,8,9,10] (.seq (.block 3 (.seq (sR [mO 23 0,oO 24 (.binOp .rem 51 (xT 23) (.const (.int .u64 2)) 51),oO 25 (.binOp .eql 51 (xT 24) (.const (.int .u64 1)) 51)] [0,2,8,9,10,25] (cD 25 (.reg [mO 26 8,mO 27 9,oO 28 (bO .add 3 26 27 3),aO 8 28] [0,2,8,9,10]) (.skip))) (.keep [0,2,8,9,10] (sR [mO 29 0,oO 30 (.binOp .quo 51 (xT 29) (.const (.int .u64 2)) 51),aO 0 30] [0,2,8,9,10] (.reg [mO 31 9,oO 32 (.binOp .mul 3 (nI 2) (xT 31) 3),aO 9 32] [0,2,8,9,10]))))) (.keep [0,2,8,9,10] (.reg [mO 21 10,oO 22 (.binOp .add 3 (xT 21) (nI 1) 3),aO 10 22] [0,2,8,9,10])))) 
def J2:CC:=sR [oO 6 (.assign (nI 0))] [0,1,2] (.seq (sR [oO 7 (.assign (nI 0))] [0,1,2,7] (.block 0 (.loop D0))) (.keep [0,2] (sR [oO 8 (.assign (nI 0)),oO 9 (.assign (nI 1))] [0,2,8,9] (.seq (sR [oO 10 (.assign (nI 0))] [0,2,8,9,10] (.block 2 (.loop DZ))) (.keep [8] (sR [mO 33 8,aO 6 33] [6] (.ret)))))))
theorem Qk:Bh Tryz.prog 145 34 [(.tmp 6)] J2:=Au Tryz.func145
def H8:CC:=.seq (sR [mO 13 0,oO 14 (cL 145 #[(xT 13),(nI 0),(nI 2)] #[51,3,3])] [0,2,3,14] (.block 0 (sR [oO 16 (.binOp .eql 3 (xT 14) (nI 0) 3),aO 15 16] [0,2,3,14,15] (cD 15 (sR [mO 17 3,mO 18 0,oO 19 (cL 145 #[(xT 18),(nI 32),(nI 16)] #[51,3,3]),mO 20 0,oO 21 (cL 145 #[(xT 20),(nI 48),(nI 16)] #[51,3,3]),oO 22 (.build 135 #[(0,(nI 1)),(1,(xT 17)),(2,(xT 19)),(3,(xT 21))]),oS (.store 135 (xT 2) (xT 22))] [2] (.ret)) (sR [oO 24 (.binOp .eql 3 (xT 14) (nI 1) 3),aO 23 24] [0,2,3,14,23] (cD 23 (sR [mO 25 3,mO 26 0,oO 27 (cL 145 #[(xT 26),(nI 32),(nI 3)] #[51,3,3]),mO 28 0,oO 29 (cL 145 #[(xT 28),(nI 35),(nI 29)] #[51,3,3]),oO 30 (.build 135 #[(0,(nI 2)),(1,(xT 25)),(4,(xT 27)),(5,(xT 29))]),oS (.store 135 (xT 2) (xT 30))] [2] (.ret)) (sR [oO 32 (.binOp .eql 3 (xT 14) (nI 2) 3),aO 31 32] [0,2,31] (cD 31 (sR [mO 33 0,oO 34 (cL 145 #[(xT 33),(nI 3),(nI 29)] #[51,3,3]),mO 35 0,oO 36 (cL 145 #[(xT 35),(nI 32),(nI 32)] #[51,3,3]),mO 37 0,oO 38 (cL 145 #[(xT 37),(nI 2),(nI 1)] #[51,3,3]),oO 39 (.binOp .eql 3 (xT 38) (nI 1) 3),oO 40 (.build 135 #[(0,(nI 3)),(1,(xT 34)),(6,(xT 36)),(7,(xT 39))]),oS (.store 135 (xT 2) (xT 40))] [2] (.ret)) (.skip))))))))) (.keep [2] (sR [oO 41 (.build 135 #[(0,(nI 4))]),oS (.store 135 (xT 2) (xT 41))] [2] (.ret))) 
def IM:CC:=sR [oN 2 (.alloc 135) [0]] [0,2] (.seq (sR [mO 4 0,oO 5 (.binOp .eql 51 (xT 4) (.const (.int .u64 0)) 51)] [0,2,5] (cD 5 (sR [oO 6 (.build 135 #[]),oS (.store 135 (xT 2) (xT 6))] [2] (.ret)) (.skip))) (.keep [0,2] (sR [mO 7 0,oO 8 (cL 145 #[(xT 7),(nI 2),(nI 30)] #[51,3,3]),aO 3 8] [0,2,3] (.seq (sR [mO 9 3,oO 10 (.binOp .geq 3 (xT 9) (nI 536870912) 3)] [0,2,3,10] (cD 10 (.reg [mO 11 3,oO 12 (.binOp .sub 3 (xT 11) (nI 1073741824) 3),aO 3 12] [0,2,3]) (.skip))) (.keep [0,2,3] H8)))))
theorem OH:Bh Tryz.prog 89 42 [(.cell 2 135)] IM:=Au Tryz.func89
end Go.Proofs.YtbjmaoedheiigaaGreat
namespace Go.Proofs.YtbjmaoedheiigaaGreat
open Go Go.G Go.Proofs
abbrev iv (n:Int):A:=.v (.int .i64 n)
abbrev uv (n:Int):A:=.v (.int .u64 n)
abbrev bv (b:Bool):A:=.v (.bool b)
theorem SX (a b:Int):G.Spec Tryz.prog 225 [iv a,iv b] (bv (decide (0≤a)&&decide (a≤b))):=by
 refine Al Y3 (by simp) fun w0 I0=>?_
 unfold Rs
 simp
 exact Ab rfl
theorem Rx (w:Int) (m:Nat):w / 2 / 2 ^ m=w / 2 ^ (m+1):=by
 rw[Int.ediv_ediv_of_nonneg (by decide),Int.pow_succ,Int.mul_comm]
theorem Af {n:Int} (h0:-9223372036854775808≤n) (h1:n<9223372036854775808):IntKind.i64.wrap n=n:=by rw[IntKind.wrap_i64];omega
theorem Av {n m:Int} (h0:-9223372036854775808 ≤ n:=by omega) (h1:n<9223372036854775808:=by omega) (h:n=m:=by omega):IntKind.i64.wrap n=m:=by rw[Af h0 h1];exact h
theorem AE {n:Int} (h0:0≤n) (h1:n<18446744073709551616):IntKind.u64.wrap n=n:=by rw[IntKind.wrap_u64];omega
theorem pN {n:Nat} {w0:World} {I0:Nat→Prop} {Q:Exit→Sta→Prop} {b k:Int} (hb:b<1000):∀ (m:Nat) (w i:Int),0≤w→w<18446744073709551616→0≤i→i+m=b →
  Q (.exit 0) ⟨lk [(0,uv (w / 2 ^ m)),(1,iv b),(2,iv k),(7,iv b),(13,bv false)],DH []⟩ →
  LoopC (cx Tryz.prog w0 I0 n) D0 Q ⟨lk [(0,uv w),(1,iv b),(2,iv k),(7,iv i)],DH []⟩:=by
 intro m
 induction m with
 |zero=>
  intro w i h0 h1 h2 h3 hq
  have:i=b:=by simpa using h3
  subst this
  refine Ad Ak D0.eq_1 ?_
  simp
  simpa using hq
 |succ m ih=>
  intro w i h0 h1 h2 h3 hq
  refine Ad Ak D0.eq_1 ?_
  have hi:i<b:=by omega
  simp[hi]
  rw[Af (by omega) (by omega),Int.tdiv_eq_ediv_of_nonneg h0,AE (by omega) (by omega)]
  exact ih _ _ (by omega) (by omega) (by omega) (by omega) (by rw[Rx];exact hq)
theorem Z5 {w:Int} (m:Nat) (h0:0≤w):w % 2 ^ (m+1)=w % 2+2*(w / 2 % 2 ^ m):=by
 have hp:(0:Int)<2 ^ m:=Int.pow_pos (by decide)
 have h1:w / 2 % 2 ^ m=w / 2-2 ^ m*(w / 2 / 2 ^ m):=Int.emod_def ..
 have h2:w % 2 ^ (m+1)=w-2 ^ (m+1)*(w / 2 ^ (m+1)):=Int.emod_def ..
 rw[h1,h2,Rx,Int.pow_succ]
 have h3:(2:Int) ^ m*2*(w / (2 ^ m*2))=2*(2 ^ m*(w / (2 ^ m*2))):=by rw[Int.mul_comm (2 ^ m) 2,Int.mul_assoc]
 rw[h3]
 omega
theorem qx {n:Nat} {w0:World} {I0:Nat→Prop} {Q:Exit→Sta→Prop} {k:Int} (hb:k<1000):∀ (m:Nat) (w i a p:Int),0≤w→w<18446744073709551616→0≤i→i+m=k →
  0≤a→0<p→a<p→p*2 ^ m≤4611686018427387904 →
  (∀ w' p',Q (.exit 2) ⟨lk [(0,uv w'),(2,iv k),(8,iv (a+p*(w % 2 ^ m))),(9,iv p'),(10,iv k),(20,bv false)],DH []⟩) →
  LoopC (cx Tryz.prog w0 I0 n) DZ Q ⟨lk [(0,uv w),(2,iv k),(8,iv a),(9,iv p),(10,iv i)],DH []⟩:=by
 intro m
 induction m with
 |zero=>
  intro w i a p h0 h1 h2 h3 h4 h5 h6 h7 hq
  have:i=k:=by simpa using h3
  subst this
  refine Ad Ak DZ.eq_1 ?_
  simp
  simpa using hq w p
 |succ m ih=>
  intro w i a p h0 h1 h2 h3 h4 h5 h6 h7 hq
  have hp:(0:Int)<2 ^ m:=Int.pow_pos (by decide)
  have h8:p*2≤4611686018427387904:=by
   refine Int.le_trans ?_ h7
   refine Int.mul_le_mul_of_nonneg_left ?_ (by omega)
   rw[Int.pow_succ];omega
  have h9:2*p*2 ^ m≤4611686018427387904:=by
   have:2*p*2 ^ m=p*2 ^ (m+1):=by rw[Int.pow_succ,Int.mul_comm 2 p,Int.mul_assoc,Int.mul_comm 2]
   omega
  refine Ad Ak DZ.eq_1 ?_
  have hi:i<k:=by omega
  simp[hi]
  rw[Af (n:=i+1) (by omega) (by omega),Int.tdiv_eq_ediv_of_nonneg h0,Int.tmod_eq_emod_of_nonneg h0,AE (n:=w / 2) (by omega) (by omega),Af (n:=a+p) (by omega) (by omega),Af (n:=2*p) (by omega) (by omega)]
  constructor
  ·intro hw
   refine ih _ _ _ _ (by omega) (by omega) (by omega) (by omega) (by omega) (by omega) (by omega) h9 (fun w' p'=>?_)
   have:=hq w' p'
   rw[Z5 m h0,hw,Int.mul_add,← Int.mul_assoc,Int.mul_comm p 2,Int.mul_one,← Int.add_assoc] at this
   exact this
  ·intro hw
   have hw:w % 2=0:=by omega
   refine ih _ _ _ _ (by omega) (by omega) (by omega) (by omega) (by omega) (by omega) (by omega) h9 (fun w' p'=>?_)
   have:=hq w' p'
   rw[Z5 m h0,hw,Int.mul_add,← Int.mul_assoc,Int.mul_comm p 2,Int.mul_zero,Int.zero_add] at this
   exact this
theorem Eo {w:Int} (h0:0≤w) (h1:w<18446744073709551616) (b k:Nat) (hb:b<100) (hk:k≤32):G.Spec Tryz.prog 145 [uv w,iv b,iv k] (iv (w / 2 ^ b % 2 ^ k)):=by
 refine Al Qk (by simp) fun w0 I0=>?_
 have hp:(0:Int)<2 ^ b:=Int.pow_pos (by decide)
 have hq:(2:Int) ^ k≤4294967296:=by
  have h2:=Int.ofNat_le.2 (Nat.pow_le_pow_right (n:=2) (by decide) hk)
  rw[Int.natCast_pow] at h2
  exact h2
 unfold J2
 simp
 refine pN (b:=b) (k:=k) (by omega) b w 0 h0 h1 (by omega) (by omega) ?_
 simp
 refine qx (k:=k) (by omega) k _ 0 0 1 (Int.ediv_nonneg h0 (by omega)) ?_ (by omega) (by omega) (by omega) (by omega) (by omega) (by omega) (fun w' p'=>?_)
 ·exact Int.lt_of_le_of_lt (Int.ediv_le_self _ h0) h1
 simp
 exact Ab rfl
structure Pt where
 (kind off data ptrs code count seg:Int)
 dbl:Bool
deriving DecidableEq
@[simp] def Pt.a (p:Pt):A:=.agg [iv p.kind,iv p.off,iv p.data,iv p.ptrs,iv p.code,iv p.count,iv p.seg,bv p.dbl]
def OM (w:Int):Int:=if w / 4 % 1073741824<536870912 then w / 4 % 1073741824 else w / 4 % 1073741824-1073741824
def CW (w:Int):Pt:=
 if w=0 then ⟨0,0,0,0,0,0,0,false⟩
 else if w % 4=0 then ⟨1,OM w,w / 4294967296 % 65536,w / 281474976710656,0,0,0,false⟩
 else if w % 4=1 then ⟨2,OM w,0,0,w / 4294967296 % 8,w / 34359738368,0,false⟩
 else if w % 4=2 then ⟨3,w / 8 % 536870912,0,0,0,0,w / 4294967296,decide (w / 4 % 2=1)⟩
 else ⟨4,0,0,0,0,0,0,false⟩
theorem Fi {w:Int} (h0:0≤w) (h1:w<18446744073709551616):G.Spec Tryz.prog 89 [uv w] (CW w).a:=by
 refine Al OH (by simp) fun w0 I0=>?_
 unfold IM
 simp
 refine⟨fun hw=>?_,fun hw=>?_⟩
 ·subst hw;exact Ab rfl
 refine Ae (Eo h0 h1 2 30 (by decide) (by decide)) rfl ?_
 simp
 have hd:CW w=if w % 4=0 then ⟨1,OM w,w / 4294967296 % 65536,w / 281474976710656,0,0,0,false⟩
  else if w % 4=1 then ⟨2,OM w,0,0,w / 4294967296 % 8,w / 34359738368,0,false⟩
  else if w % 4=2 then ⟨3,w / 8 % 536870912,0,0,0,0,w / 4294967296,decide (w / 4 % 2=1)⟩
  else ⟨4,0,0,0,0,0,0,false⟩:=by rw[CW,if_neg hw]
 have ho:IntKind.i64.wrap (w / 4 % 1073741824-1073741824)=w / 4 % 1073741824-1073741824:=Af (by omega) (by omega)
 rw[ho]
 have hk:∀ z:Int,w / 2 ^ 0 % 2 ^ 2=z ↔ w % 4=z:=fun z=>by simp
 have e32:w / 2 ^ 32 % 2 ^ 16=w / 4294967296 % 65536:=rfl
 have e48:w / 2 ^ 48 % 2 ^ 16=w / 281474976710656:=by show w / 281474976710656 % 65536=_;omega
 have e35:w / 2 ^ 35 % 2 ^ 29=w / 34359738368:=by show w / 34359738368 % 536870912=_;omega
 have e33:w / 2 ^ 32 % 2 ^ 32=w / 4294967296:=by show w / 4294967296 % 4294967296=_;omega
 refine⟨fun h=>?_,fun h=>?_⟩
 all_goals
  first
   |rw[← show OM w=w / 4 % 1073741824-1073741824 from if_neg (by omega)]
   |rw[← show OM w=w / 4 % 1073741824 from if_pos (by omega)]
  rw[H8.eq_1]
  simp
  refine Ae (Eo h0 h1 0 2 (by decide) (by decide)) rfl ?_
  simp
  refine⟨fun h=>?_,fun h=>?_⟩
  ·refine Ae (Eo h0 h1 32 16 (by decide) (by decide)) rfl ?_
   simp
   refine Ae (Eo h0 h1 48 16 (by decide) (by decide)) rfl ?_
   rw[e48]
   simp
   rw[hd,if_pos h]
   exact Ab rfl
  refine⟨fun h=>?_,fun h=>?_⟩
  ·refine Ae (Eo h0 h1 32 3 (by decide) (by decide)) rfl ?_
   simp
   refine Ae (Eo h0 h1 35 29 (by decide) (by decide)) rfl ?_
   rw[e35]
   simp
   rw[hd,if_neg (by omega),if_pos h]
   exact Ab rfl
  refine⟨fun h=>?_,fun h=>?_⟩
  ·refine Ae (Eo h0 h1 3 29 (by decide) (by decide)) rfl ?_
   simp
   refine Ae (Eo h0 h1 32 32 (by decide) (by decide)) rfl ?_
   rw[e33]
   simp
   refine Ae (Eo h0 h1 2 1 (by decide) (by decide)) rfl ?_
   simp
   rw[hd,if_neg (by omega),if_neg (by omega),if_pos h]
   exact Ab rfl
  ·rw[hd,if_neg (by omega),if_neg (by omega),if_neg (by omega)]
   exact Ab rfl
theorem N4 (i:Nat) (hi:i≤64) {x:Int} (h0:0≤x) (h1:x<18446744073709551616):bits .and .u64 x (2 ^ i-1)=x % 2 ^ i:=
 bits_mask .u64 64 (by decide) (fun n a b=>AE a b) i hi x h0 h1
theorem pk {x:Int} (h0:0≤x) (h1:x<18446744073709551616):(bits .and .u64 x 4=0) ↔ x / 4 % 2=0:=by
 obtain⟨a,rfl⟩:=Int.eq_ofNat_of_zero_le h0
 have h2:=bits_and_u64_nat a 4 (by omega) (by omega)
 have h3:bits .and .u64 (a:Int) 4=((a &&& 4:Nat):Int):=h2
 rw[h3]
 have h4:a &&& 4=4*(a / 4 % 2):=by
  have e:a &&& 4=(a % 8) &&& 4:=by
   rw[show a % 8=a &&& 7 from(Nat.and_two_pow_sub_one_eq_mod a 3).symm,Nat.and_assoc];rfl
  have d:∀ r,r<8→r &&& 4=4*(r / 4 % 2):=by decide
  rw[e,d _ (by omega)]
  omega
 rw[h4]
 omega
theorem qy {w:Int}:(IntKind.i32.wrap (IntKind.u32.wrap w)) / 4=OM w:=by
 rw[IntKind.wrap_i32,IntKind.wrap_u32,OM]
 split<;>omega
theorem H6 {w:Int} (h0:0≤w) (h1:w<18446744073709551616):G.Spec Tryz.prog 204 [uv w] (CW w).a:=by
 refine Al X0 (by simp) fun w0 I0=>?_
 unfold RB
 simp[jg]
 have e3:bits .and .u64 w 3=w % 4:=N4 2 (by decide) h0 h1
 have e1:IntKind.i64.wrap (bits .and .u64 (w / 2 ^ min 32 IntKind.u64.bits) 65535)=w / 4294967296 % 65536:=by
  rw[show w / 2 ^ min 32 IntKind.u64.bits=w / 4294967296 from rfl,show bits .and .u64 (w / 4294967296) 65535=w / 4294967296 % 65536 from N4 16 (by decide) (by omega) (by omega)]
  exact Af (by omega) (by omega)
 have e2:IntKind.i64.wrap (w / 2 ^ min 48 IntKind.u64.bits)=w / 281474976710656:=by
  rw[show w / 2 ^ min 48 IntKind.u64.bits=w / 281474976710656 from rfl]
  exact Af (by omega) (by omega)
 have e4:IntKind.i64.wrap (bits .and .u64 (w / 2 ^ min 32 IntKind.u64.bits) 7)=w / 4294967296 % 8:=by
  rw[show w / 2 ^ min 32 IntKind.u64.bits=w / 4294967296 from rfl,show bits .and .u64 (w / 4294967296) 7=w / 4294967296 % 8 from N4 3 (by decide) (by omega) (by omega)]
  exact Af (by omega) (by omega)
 have e5:IntKind.i64.wrap (w / 2 ^ min 35 IntKind.u64.bits)=w / 34359738368:=by
  rw[show w / 2 ^ min 35 IntKind.u64.bits=w / 34359738368 from rfl]
  exact Af (by omega) (by omega)
 have e6:IntKind.i64.wrap (bits .and .u64 (w / 2 ^ min 3 IntKind.u64.bits) 536870911)=w / 8 % 536870912:=by
  rw[show w / 2 ^ min 3 IntKind.u64.bits=w / 8 from rfl,show bits .and .u64 (w / 8) 536870911=w / 8 % 536870912 from N4 29 (by decide) (by omega) (by omega)]
  exact Af (by omega) (by omega)
 have e7:IntKind.i64.wrap (w / 2 ^ min 32 IntKind.u64.bits)=w / 4294967296:=by
  rw[show w / 2 ^ min 32 IntKind.u64.bits=w / 4294967296 from rfl]
  exact Af (by omega) (by omega)
 have e8:(!decide (bits .and .u64 w 4=0))=decide (w / 4 % 2=1):=by
  have:=pk h0 h1
  by_cases h:w / 4 % 2=1
  ·rw[decide_eq_true h,decide_eq_false (by rw[this];omega)];rfl
  ·rw[decide_eq_false h,decide_eq_true (by rw[this];omega)];rfl
 have e9:IntKind.i64.wrap (IntKind.i32.wrap (IntKind.u32.wrap w)) / 2 ^ min 2 IntKind.i64.bits=OM w:=by
  rw[← qy,IntKind.wrap_i32,Af (by omega) (by omega)]
  rfl
 rw[e1,e2,e3,e4,e5,e6,e7,e8,e9]
 refine⟨fun h=>?_,fun h=>⟨fun h2=>?_,fun h2=>⟨fun h3=>?_,fun h3=>⟨fun h4=>?_,fun h4=>?_⟩⟩⟩⟩
 ·subst h;exact Ab rfl
 ·rw[show CW w=_ from(if_neg h).trans (if_pos h2)];exact Ab rfl
 ·rw[show CW w=_ from(if_neg h).trans ((if_neg h2).trans (if_pos h3))];exact Ab rfl
 ·rw[show CW w=_ from(if_neg h).trans ((if_neg h2).trans ((if_neg h3).trans (if_pos h4)))];exact Ab rfl
 ·rw[show CW w=_ from(if_neg h).trans ((if_neg h2).trans ((if_neg h3).trans (if_neg h4)))];exact Ab rfl
theorem gx (w:Int):-536870912≤OM w∧OM w<536870912∧OM w*4 % 4294967296=w / 4 % 1073741824*4:=by
 unfold OM
 split<;>omega
end Go.Proofs.YtbjmaoedheiigaaGreat
namespace Go.Proofs.YtbjmaoedheiigaaGreat
set_option maxRecDepth 20000
open Go Go.G Go.Proofs
@[simp] theorem AiP:Tryz.prog.underlying 5=some (.int .u8):=by kernel_rfl
@[simp] theorem AhY:Tryz.prog.underlying 22=some (.slice 51):=by kernel_rfl
@[simp] theorem Agr:Tryz.prog.underlying 249=some (.array 8 5):=by kernel_rfl
@[simp] theorem Ae2:Tryz.prog.underlying 253=some (.slice 5):=by kernel_rfl
@[simp] theorem AfA:Tryz.prog.underlying 270=some (.array 6 3):=by kernel_rfl
@[simp] theorem AiM:CI Tryz.prog 5=some 1:=by kernel_rfl
@[simp] theorem AgZ:CI Tryz.prog 51=some 1:=by kernel_rfl
@[simp] theorem AgK:CI Tryz.prog 249=some 8:=by kernel_rfl
@[simp] theorem Afw:CI Tryz.prog 270=some 6:=by kernel_rfl
@[simp] theorem AhH:C5 Tryz.prog 5=some false:=by kernel_rfl
@[simp] theorem Ae3:C5 Tryz.prog 51=some false:=by kernel_rfl
@[simp] theorem Aby:C5 Tryz.prog 249=some true:=by kernel_rfl
@[simp] theorem Ab7:Bn Tryz.prog 51=some (Value.int IntKind.u64 0):=by kernel_rfl
@[simp] theorem z5:Bn Tryz.prog 249=some (Value.agg #[Value.int IntKind.u8 0,Value.int IntKind.u8 0,Value.int IntKind.u8 0,Value.int IntKind.u8 0,Value.int IntKind.u8 0,Value.int IntKind.u8 0,Value.int IntKind.u8 0,Value.int IntKind.u8 0]):=by kernel_rfl
@[simp] theorem Aau:Bn Tryz.prog 270=some (Value.agg #[Value.int IntKind.i64 0,Value.int IntKind.i64 0,Value.int IntKind.i64 0,Value.int IntKind.i64 0,Value.int IntKind.i64 0,Value.int IntKind.i64 0]):=by kernel_rfl
@[simp] theorem Aat:BJ Tryz.prog 51=some 8:=by kernel_rfl
@[simp] theorem xB (ps:List (Nat × A)):Bs Tryz.prog 249 ps=(BW (fun i=>some (i*1,1)) [A.v (Value.int IntKind.u8 0),A.v (Value.int IntKind.u8 0),A.v (Value.int IntKind.u8 0),A.v (Value.int IntKind.u8 0),A.v (Value.int IntKind.u8 0),A.v (Value.int IntKind.u8 0),A.v (Value.int IntKind.u8 0),A.v (Value.int IntKind.u8 0)] ps).map A.agg:=by kernel_rfl
@[simp] theorem wN (ps:List (Nat × A)):Bs Tryz.prog 270 ps=(BW (fun i=>some (i*1,1)) [A.v (Value.int IntKind.i64 0),A.v (Value.int IntKind.i64 0),A.v (Value.int IntKind.i64 0),A.v (Value.int IntKind.i64 0),A.v (Value.int IntKind.i64 0),A.v (Value.int IntKind.i64 0)] ps).map A.agg:=by kernel_rfl
def J4:CC:=sR [oO 2 (.assign (nI 0))] [0] (.seq (sR [mO 3 0] [3] (.block 0 (sR [oO 5 (.binOp .eql 3 (xT 3) (nI 0) 3),aO 4 5] [3,4] (cD 4 (sR [oO 2 (.assign (nI 0))] [2] (.ret)) (sR [oO 7 (.binOp .eql 3 (xT 3) (nI 1) 3),aO 6 7] [3,6] (cD 6 (sR [oO 2 (.assign (nI 1))] [2] (.ret)) (sR [oO 9 (.binOp .eql 3 (xT 3) (nI 2) 3),aO 8 9] [3,8] (cD 8 (sR [oO 2 (.assign (nI 8))] [2] (.ret)) (sR [oO 11 (.binOp .eql 3 (xT 3) (nI 3) 3),aO 10 11] [3,10] (cD 10 (sR [oO 2 (.assign (nI 16))] [2] (.ret)) (sR [oO 13 (.binOp .eql 3 (xT 3) (nI 4) 3),aO 12 13] [3,12] (cD 12 (sR [oO 2 (.assign (nI 32))] [2] (.ret)) (sR [oO 15 (.binOp .eql 3 (xT 3) (nI 5) 3),aO 14 15] [14] (cD 14 (sR [oO 2 (.assign (nI 64))] [2] (.ret)) (.skip))))))))))))))) (.keep [] (sR [oO 2 (.assign (.const (.int .i64 (-1))))] [2] (.ret))))
theorem PC:Bh Tryz.prog 109 16 [(.tmp 2)] J4:=Au Tryz.func109
def Ek:CC:=.seq (sR [mO 11 6,mO 12 5,oO 13 (bO .lss 3 11 12 3)] [1,5,6,13] (cD 13 (.skip) (.exit 0))) (.keep [1,5,6] (.seq (.block 1 (.reg [mO 16 1,oO 17 (.binOp .quo 51 (xT 16) (.const (.int .u64 2)) 51),aO 1 17] [1,5,6])) (.reg [mO 14 6,oO 15 (.binOp .add 3 (xT 14) (nI 1) 3),aO 6 15] [1,5,6]))) 
def Ki:CC:=sR [oO 4 (.assign (nB false))] [0,1] (sR [mO 7 0,oO 8 (cL 109 #[(xT 7)] #[3]),aO 5 8] [1,5] (.seq (sR [mO 9 5,oO 10 (.binOp .lss 3 (xT 9) (nI 0) 3)] [1,5,10] (cD 10 (sR [oO 4 (.assign (nB false))] [4] (.ret)) (.skip))) (.keep [1,5] (.seq (sR [oO 6 (.assign (nI 0))] [1,5,6] (.block 0 (.loop Ek))) (.keep [1] (sR [mO 18 1,oO 19 (.binOp .eql 51 (xT 18) (.const (.int .u64 0)) 51),aO 4 19] [4] (.ret)))))))
theorem Rk:Bh Tryz.prog 57 20 [(.tmp 4)] Ki:=Au Tryz.func57
def Kl:CC:=sR [oO 4 (.assign (nI 0))] [0,1] (.seq (sR [mO 6 0,oO 7 (cL 109 #[(xT 6)] #[3]),oO 8 (.binOp .lss 3 (xT 7) (nI 1) 3),mO 9 8,oG 10 (mV 1) 9 false,oG 11 (.binOp .lss 3 (xT 10) (nI 0) 3) 9 false,oO 12 (.pick (xT 9) (nB true) (xT 11)),mO 13 12,oG 14 (mV 1) 13 false,oG 15 (.binOp .gtr 3 (xT 14) (nI 1099511627776) 3) 13 false,oO 16 (.pick (xT 13) (nB true) (xT 15))] [0,1,16] (cD 16 (sR [oO 4 (.assign (nI 0))] [4] (.ret)) (.skip))) (.keep [0,1] (sR [mO 17 0,oO 18 (cL 109 #[(xT 17)] #[3]),oO 19 (.binOp .quo 3 (nI 64) (xT 18) 3),aO 5 19] [1,5] (.seq (sR [mO 20 1,mO 21 5,oO 22 (bO .rem 3 20 21 3),oO 23 (.binOp .gtr 3 (xT 22) (nI 0) 3)] [1,5,23] (cD 23 (sR [mO 24 1,mO 25 5,oO 26 (bO .quo 3 24 25 3),oO 27 (.binOp .add 3 (xT 26) (nI 1) 3),aO 4 27] [4] (.ret)) (.skip))) (.keep [1,5] (sR [mO 28 1,mO 29 5,oO 30 (bO .quo 3 28 29 3),aO 4 30] [4] (.ret)))))))
theorem Rp:Bh Tryz.prog 65 31 [(.tmp 4)] Kl:=Au Tryz.func65
def EO:CC:=.seq (sR [mO 21 6,mO 22 1,oO 23 (.binOp .rem 3 (xT 22) (nI 64) 3),oO 24 (bO .lss 3 21 23 3)] [1,5,6,24] (cD 24 (.skip) (.exit 0))) (.keep [1,5,6] (.seq (.block 1 (.reg [mO 27 5,oO 28 (.binOp .quo 51 (xT 27) (.const (.int .u64 2)) 51),aO 5 28] [1,5,6])) (.reg [mO 25 6,oO 26 (.binOp .add 3 (xT 25) (nI 1) 3),aO 6 26] [1,5,6]))) 
def K8:CC:=sR [oO 4 (.assign (.const (.int .u64 0)))] [0,1] (.seq (sR [mO 7 1,oO 8 (.binOp .lss 3 (xT 7) (nI 0) 3),mO 9 8,oG 10 (mV 1) 9 false,oG 11 (.binOp .quo 3 (xT 10) (nI 64) 3) 9 false,oG 12 (mV 0) 9 false,oG 13 (bL 12 22) 9 false,oG 14 (bO .geq 3 11 13 3) 9 false,oO 15 (.pick (xT 9) (nB true) (xT 14))] [0,1,15] (cD 15 (sR [oO 4 (.assign (.const (.int .u64 0)))] [4] (.ret)) (.skip))) (.keep [0,1] (sR [mO 16 0,mO 17 1,oO 18 (.binOp .quo 3 (xT 17) (nI 64) 3),oO 19 (iA 22 16 18),lO 20 51 19,aO 5 20] [1,5] (.seq (sR [oO 6 (.assign (nI 0))] [1,5,6] (.block 0 (.loop EO))) (.keep [5] (sR [mO 29 5,oO 30 (.binOp .rem 51 (xT 29) (.const (.int .u64 2)) 51),aO 4 30] [4] (.ret)))))))
theorem R8:Bh Tryz.prog 196 31 [(.tmp 4)] K8:=Au Tryz.func196
def EF:CC:=.seq (sR [mO 24 9,oO 25 (.binOp .geq 3 (xT 24) (nI 0) 3)] [0,2,7,8,9,25] (cD 25 (.skip) (.exit 0))) (.keep [0,2,7,8,9] (.seq (.block 1 (.reg [mO 28 8,oO 29 (.binOp .mul 51 (xT 28) (.const (.int .u64 2)) 51),mO 30 0,mO 31 2,mO 32 7,oO 33 (bO .mul 3 31 32 3),mO 34 9,oO 35 (bO .add 3 33 34 3),oO 36 (cL 196 #[(xT 30),(xT 35)] #[22,3]),oO 37 (bO .add 51 29 36 51),aO 8 37] [0,2,7,8,9])) (.reg [mO 26 9,oO 27 (.binOp .sub 3 (xT 26) (nI 1) 3),aO 9 27] [0,2,7,8,9]))) 
def La:CC:=sR [oO 6 (.assign (.const (.int .u64 0)))] [0,1,2] (sR [mO 10 1,oO 11 (cL 109 #[(xT 10)] #[3]),aO 7 11] [0,2,7] (.seq (sR [mO 12 7,oO 13 (.binOp .lss 3 (xT 12) (nI 1) 3),mO 14 13,oG 15 (mV 2) 14 false,oG 16 (.binOp .lss 3 (xT 15) (nI 0) 3) 14 false,oO 17 (.pick (xT 14) (nB true) (xT 16)),mO 18 17,oG 19 (mV 2) 18 false,oG 20 (.binOp .gtr 3 (xT 19) (nI 1099511627776) 3) 18 false,oO 21 (.pick (xT 18) (nB true) (xT 20))] [0,2,7,21] (cD 21 (sR [oO 6 (.assign (.const (.int .u64 0)))] [6] (.ret)) (.skip))) (.keep [0,2,7] (sR [oO 8 (.assign (.const (.int .u64 0)))] [0,2,7,8] (.seq (sR [mO 22 7,oO 23 (.binOp .sub 3 (xT 22) (nI 1) 3),aO 9 23] [0,2,7,8,9] (.block 0 (.loop EF))) (.keep [8] (sR [mO 38 8,aO 6 38] [6] (.ret))))))))
theorem RH:Bh Tryz.prog 146 39 [(.tmp 6)] La:=Au Tryz.func146
def Rh:CC:=sR [oO 2 (.assign (nI 0)),oO 3 (.assign (nB false))] [0] (sR [oO 5 (.build 270 #[(0,(nI 0)),(1,(nI 1)),(2,(nI 8)),(3,(nI 16)),(4,(nI 32)),(5,(nI 64))]),oN 4 (.alloc 270) [0],oS (.store 270 (xT 4) (xT 5))] [0,4] (.seq (sR [mO 6 0,oO 7 (.binOp .lss 3 (xT 6) (nI 0) 3),mO 8 7,oG 9 (mV 0) 8 false,oG 10 (.binOp .geq 3 (xT 9) (nI 6) 3) 8 false,oO 11 (.pick (xT 8) (nB true) (xT 10))] [0,4,11] (cD 11 (sR [oO 2 (.assign (nI 0)),oO 3 (.assign (nB false))] [2,3] (.ret)) (.skip))) (.keep [0,4] (sR [mO 12 0,oO 13 (iA 270 4 12),lO 14 3 13,aO 2 14,oO 3 (.assign (nB true))] [2,3] (.ret)))))
theorem X5:Bh Tryz.prog 185 15 [(.tmp 2),(.tmp 3)] Rh:=Au Tryz.func185
def Qs:CC:=sR [oO 2 (.assign (nI 0)),oO 3 (.assign (nB false))] [0] (sR [mO 4 0,oO 5 (cL 185 #[(xT 4)] #[3]),xO 6 5 0,xO 7 5 1,aO 2 6,aO 3 7] [2,3] (.ret))
theorem Zh:Bh Tryz.prog 254 8 [(.tmp 2),(.tmp 3)] Qs:=Au Tryz.func254
def Vq:CC:=sR [oO 6 (.assign (.const (.int .u64 0)))] [0,1,2] (sR [mO 11 1,oO 12 (cL 185 #[(xT 11)] #[3]),mO 10 12,xO 13 10 0,xO 14 10 1,aO 7 13,aO 8 14] [0,2,7,8] (.seq (sR [mO 15 8,oO 16 (.unOp .not 4 (xT 15)),mO 17 16,oG 18 (mV 7) 17 false,oG 19 (.binOp .eql 3 (xT 18) (nI 0) 3) 17 false,oO 20 (.pick (xT 17) (nB true) (xT 19)),mO 21 20,oG 22 (mV 2) 21 false,oG 23 (.binOp .lss 3 (xT 22) (nI 0) 3) 21 false,oO 24 (.pick (xT 21) (nB true) (xT 23)),mO 25 24,oG 26 (mV 2) 25 false,oG 27 (.binOp .gtr 3 (xT 26) (nI 1099511627776) 3) 25 false,oO 28 (.pick (xT 25) (nB true) (xT 27)),mO 29 28,oG 30 (mV 2) 29 false,oG 31 (mV 7) 29 false,oG 32 (bO .mul 3 30 31 3) 29 false,oG 33 (.binOp .quo 3 (xT 32) (nI 64) 3) 29 false,oG 34 (mV 0) 29 false,oG 35 (bL 34 22) 29 false,oG 36 (bO .geq 3 33 35 3) 29 false,oO 37 (.pick (xT 29) (nB true) (xT 36))] [0,2,7,37] (cD 37 (sR [oO 6 (.assign (.const (.int .u64 0)))] [6] (.ret)) (.skip))) (.keep [0,2,7] (sR [mO 38 0,mO 39 2,mO 40 7,oO 41 (bO .mul 3 39 40 3),oO 42 (.binOp .quo 3 (xT 41) (nI 64) 3),oO 43 (iA 22 38 42),lO 44 51 43,mO 45 2,mO 46 7,oO 47 (bO .mul 3 45 46 3),oO 48 (.binOp .rem 3 (xT 47) (nI 64) 3),oO 49 (bO .shr 51 44 48 3),aO 9 49] [7,9] (.seq (sR [mO 50 7,oO 51 (.binOp .eql 3 (xT 50) (nI 64) 3)] [7,9,51] (cD 51 (sR [mO 52 9,aO 6 52] [6] (.ret)) (.skip))) (.keep [7,9] (sR [mO 53 9,mO 54 7,oO 55 (.binOp .shl 51 (.const (.int .u64 1)) (xT 54) 3),oO 56 (.binOp .sub 51 (xT 55) (.const (.int .u64 1)) 51),oO 57 (bO .and 51 53 56 51),aO 6 57] [6] (.ret))))))))
theorem dh:Bh Tryz.prog 255 58 [(.tmp 6)] Vq:=Au Tryz.func255
def Eh:CC:=.seq (sR [mO 7 3,oO 8 (.binOp .gtr 3 (xT 7) (nI 0) 3),mO 9 8,oG 10 (mV 0) 9 true,oG 11 (mV 3) 9 true,oG 12 (.binOp .sub 3 (xT 11) (nI 1) 3) 9 true,oG 13 (iA 22 10 12) 9 true,oG 14 (lD 51 13) 9 true,oG 15 (.binOp .eql 51 (xT 14) (.const (.int .u64 0)) 51) 9 true,oO 16 (.pick (xT 9) (xT 15) (nB false))] [0,3,16] (cD 16 (.skip) (.exit 0))) (.keep [0,3] (.block 1 (.reg [mO 17 3,oO 18 (.binOp .sub 3 (xT 17) (nI 1) 3),aO 3 18] [0,3]))) 
def Kk:CC:=sR [oO 2 (.assign nS)] [0] (sR [mO 5 0,oO 6 (bL 5 22),aO 3 6] [0,3] (.seq (.block 0 (.loop Eh)) (.keep [0,3] (sR [oO 4 (.assign nS)] [0,3,4] (sR [mO 19 4,mO 20 0,mO 21 3,oO 22 (.slice 22 (xT 20) none (some (xT 21)) none),oN 23 (bC .append #[(xT 19),(xT 22)] #[22,22]) [0],aO 2 23] [2] (.ret))))))
theorem Rv:Bh Tryz.prog 64 24 [(.tmp 2)] Kk:=Au Tryz.func64
@[simp] theorem Ag5:Tryz.prog.underlying 41=some (.slice 22):=by kernel_rfl
@[simp] theorem AgU:Tryz.prog.underlying 50=some (.pointer 133):=by kernel_rfl
@[simp] theorem AgF:Tryz.prog.underlying 327=some (.array 7 3):=by kernel_rfl
@[simp] theorem Ah0:CI Tryz.prog 22=some 1:=by kernel_rfl
@[simp] theorem AhZ:CI Tryz.prog 41=some 1:=by kernel_rfl
@[simp] theorem AfG:CI Tryz.prog 137=some 10:=by kernel_rfl
@[simp] theorem AgL:CI Tryz.prog 198=some 10:=by kernel_rfl
@[simp] theorem AfH:CI Tryz.prog 327=some 7:=by kernel_rfl
@[simp] theorem AeI:C5 Tryz.prog 22=some false:=by kernel_rfl
@[simp] theorem AgP:C5 Tryz.prog 41=some false:=by kernel_rfl
@[simp] theorem AbK:C5 Tryz.prog 137=some true:=by kernel_rfl
@[simp] theorem AcK:C5 Tryz.prog 198=some true:=by kernel_rfl
@[simp] theorem Acq:Bn Tryz.prog 22=some (Value.slice none 0 0):=by kernel_rfl
@[simp] theorem zq:Bn Tryz.prog 137=some (Value.agg #[Value.int IntKind.i64 0,Value.int IntKind.i64 0,Value.int IntKind.i64 0,Value.int IntKind.i64 0,Value.int IntKind.i64 0,Value.int IntKind.i64 0,Value.int IntKind.i64 0,Value.bool false,Value.int IntKind.i64 0,Value.int IntKind.i64 0]):=by kernel_rfl
@[simp] theorem AaG:Bn Tryz.prog 198=some (Value.agg #[Value.int IntKind.i64 0,Value.int IntKind.i64 0,Value.int IntKind.i64 0,Value.int IntKind.i64 0,Value.int IntKind.i64 0,Value.int IntKind.i64 0,Value.int IntKind.i64 0,Value.bool false,Value.int IntKind.i64 0,Value.int IntKind.i64 0]):=by kernel_rfl
@[simp] theorem zg:Bn Tryz.prog 327=some (Value.agg #[Value.int IntKind.i64 0,Value.int IntKind.i64 0,Value.int IntKind.i64 0,Value.int IntKind.i64 0,Value.int IntKind.i64 0,Value.int IntKind.i64 0,Value.int IntKind.i64 0]):=by kernel_rfl
@[simp] theorem Aam:BJ Tryz.prog 22=some 24:=by kernel_rfl
@[simp] theorem lG:Aj Tryz.prog 133 0=some 0:=by kernel_rfl
@[simp] theorem lK:Aj Tryz.prog 135 0=some 0:=by kernel_rfl
@[simp] theorem lI:Aj Tryz.prog 135 1=some 1:=by kernel_rfl
@[simp] theorem lC:Aj Tryz.prog 135 2=some 2:=by kernel_rfl
@[simp] theorem lZ:Aj Tryz.prog 135 3=some 3:=by kernel_rfl
@[simp] theorem lU:Aj Tryz.prog 135 4=some 4:=by kernel_rfl
@[simp] theorem lz:Aj Tryz.prog 135 5=some 5:=by kernel_rfl
@[simp] theorem mr:Aj Tryz.prog 135 6=some 6:=by kernel_rfl
@[simp] theorem kU:Aj Tryz.prog 135 7=some 7:=by kernel_rfl
@[simp] theorem mn:Aj Tryz.prog 137 0=some 0:=by kernel_rfl
@[simp] theorem lj:Aj Tryz.prog 137 1=some 8:=by kernel_rfl
@[simp] theorem mq:Aj Tryz.prog 137 2=some 9:=by kernel_rfl
@[simp] theorem mf:Aj Tryz.prog 198 0=some 0:=by kernel_rfl
@[simp] theorem mc:Aj Tryz.prog 198 1=some 8:=by kernel_rfl
@[simp] theorem mC:Aj Tryz.prog 198 2=some 9:=by kernel_rfl
@[simp] theorem xo (ps:List (Nat × A)):Bs Tryz.prog 133 ps=(BW (fun i=>([(0,1),(1,1),(2,1),(3,1)]:List (Nat × Nat))[i]?) [A.sl true [],A.v (Value.int IntKind.i64 0),A.v (Value.int IntKind.i64 0),A.v (Value.int IntKind.i64 0)] ps).map A.agg:=by kernel_rfl
@[simp] theorem w8 (ps:List (Nat × A)):Bs Tryz.prog 137 ps=(BW (fun i=>([(0,8),(8,1),(9,1)]:List (Nat × Nat))[i]?) [A.v (Value.int IntKind.i64 0),A.v (Value.int IntKind.i64 0),A.v (Value.int IntKind.i64 0),A.v (Value.int IntKind.i64 0),A.v (Value.int IntKind.i64 0),A.v (Value.int IntKind.i64 0),A.v (Value.int IntKind.i64 0),A.v (Value.bool false),A.v (Value.int IntKind.i64 0),A.v (Value.int IntKind.i64 0)] ps).map A.agg:=by kernel_rfl
@[simp] theorem wO (ps:List (Nat × A)):Bs Tryz.prog 198 ps=(BW (fun i=>([(0,8),(8,1),(9,1)]:List (Nat × Nat))[i]?) [A.v (Value.int IntKind.i64 0),A.v (Value.int IntKind.i64 0),A.v (Value.int IntKind.i64 0),A.v (Value.int IntKind.i64 0),A.v (Value.int IntKind.i64 0),A.v (Value.int IntKind.i64 0),A.v (Value.int IntKind.i64 0),A.v (Value.bool false),A.v (Value.int IntKind.i64 0),A.v (Value.int IntKind.i64 0)] ps).map A.agg:=by kernel_rfl
@[simp] theorem xC (ps:List (Nat × A)):Bs Tryz.prog 327 ps=(BW (fun i=>some (i*1,1)) [A.v (Value.int IntKind.i64 0),A.v (Value.int IntKind.i64 0),A.v (Value.int IntKind.i64 0),A.v (Value.int IntKind.i64 0),A.v (Value.int IntKind.i64 0),A.v (Value.int IntKind.i64 0),A.v (Value.int IntKind.i64 0)] ps).map A.agg:=by kernel_rfl
def B5:CC:=sR [oO 2 (.assign nS)] [0] (.seq (sR [mO 3 0,oO 4 (.binOp .eql 22 (xT 3) nS 22)] [0,4] (cD 4 (sR [oO 2 (.assign nS)] [2] (.ret)) (.skip))) (.keep [0] (sR [oO 5 (.buildSlice 22 0 #[]),mO 6 0,oN 7 (bC .append #[(xT 5),(xT 6)] #[22,22]) [0],aO 2 7] [2] (.ret))))
theorem CT:Bh Tryz.prog 63 8 [(.tmp 2)] B5:=Au Tryz.func63
def Kx:CC:=sR [oO 11 (bO .lss 3 10 9 3)] [3,8,9,10,11] (.seq (cD 11 (.skip) (.exit 0)) (.keep [3,8,9,10] (.seq (.block 1 (sR [oO 12 (iA 41 8 10),lO 13 22 12,aO 5 13] [3,5,8,9,10] (.reg [mO 14 3,mO 15 3,oO 16 (.nilCheck (xT 15)),fO 17 133 16 0,⟨some 18,(lD 41 17),none,[],4,[],true⟩,mO 19 5,⟨some 20,(cL 63 #[(xT 19)] #[22]),none,[],6,[4],false⟩,⟨some 21,(.buildSlice 41 1 #[(0,(xT 20))]),none,[],7,[4],false⟩,oN 22 (bC .append #[(xT 18),(xT 21)] #[41,41]) [1],oO 23 (.nilCheck (xT 14)),fO 24 133 23 0,oS (.store 41 (xT 24) (xT 22))] [3,8,9,10]))) (.reg [oO 25 (.binOp .add 3 (xT 10) (nI 1) 3),mO 10 25] [3,8,9,10])))) 
def UN:CC:=sR [oO 2 (.assign (.const (.pointer none)))] [0] (sR [oO 6 (.build 133 #[]),oN 7 (.box 133 (xT 6)) [0],aO 3 7] [0,3] (.seq (sR [mO 8 0,oO 9 (bL 8 41),oO 10 (.move (nI 0))] [3,8,9,10] (.block 0 (.loop Kx))) (.keep [3] (sR [mO 26 3,aO 2 26] [2] (.ret)))))
theorem cK:Bh Tryz.prog 43 27 [(.tmp 2)] UN:=Au Tryz.func43
def KB:CC:=sR [oO 2 (.assign (nI 0))] [0] (.seq (sR [mO 3 0,oO 4 (.binOp .eql 50 (xT 3) (.const (.pointer none)) 50)] [0,4] (cD 4 (sR [oO 2 (.assign (nI 0))] [2] (.ret)) (.skip))) (.keep [0] (sR [mO 5 0,oO 6 (.nilCheck (xT 5)),fO 7 133 6 0,lO 8 41 7,oO 9 (bL 8 41),aO 2 9] [2] (.ret))))
theorem QV:Bh Tryz.prog 257 10 [(.tmp 2)] KB:=Au Tryz.func257
def JW:CC:=sR [oO 4 (.assign (nI 0))] [0,1] (.seq (sR [mO 5 1,oO 6 (.binOp .lss 3 (xT 5) (nI 0) 3),mO 7 6,oG 8 (mV 1) 7 false,oG 9 (mV 0) 7 false,oG 10 (cL 257 #[(xT 9)] #[50]) 7 false,oG 11 (bO .geq 3 8 10 3) 7 false,oO 12 (.pick (xT 7) (nB true) (xT 11))] [0,1,12] (cD 12 (sR [oO 4 (.assign (nI 0))] [4] (.ret)) (.skip))) (.keep [0,1] (sR [mO 13 0,oO 14 (.nilCheck (xT 13)),fO 15 133 14 0,lO 16 41 15,mO 17 1,oO 18 (iA 41 16 17),lO 19 22 18,oO 20 (bL 19 22),aO 4 20] [4] (.ret))))
theorem Qj:Bh Tryz.prog 256 21 [(.tmp 4)] JW:=Au Tryz.func256
def KC:CC:=sR [oO 8 (.assign (nB false))] [0,1,2,3] (sR [mO 10 0,mO 11 1,oO 12 (cL 256 #[(xT 10),(xT 11)] #[50,3]),aO 9 12] [0,1,2,3,9] (sR [mO 13 1,oO 14 (.binOp .geq 3 (xT 13) (nI 0) 3),mO 15 14,oG 16 (mV 1) 15 true,oG 17 (mV 0) 15 true,oG 18 (cL 257 #[(xT 17)] #[50]) 15 true,oG 19 (bO .lss 3 16 18 3) 15 true,oO 20 (.pick (xT 15) (xT 19) (nB false)),mO 21 20,oG 22 (mV 2) 21 true,oG 23 (.binOp .geq 3 (xT 22) (nI 0) 3) 21 true,oO 24 (.pick (xT 21) (xT 23) (nB false)),mO 25 24,oG 26 (mV 3) 25 true,oG 27 (.binOp .geq 3 (xT 26) (nI 0) 3) 25 true,oO 28 (.pick (xT 25) (xT 27) (nB false)),mO 29 28,oG 30 (mV 3) 29 true,oG 31 (mV 9) 29 true,oG 32 (bO .leq 3 30 31 3) 29 true,oO 33 (.pick (xT 29) (xT 32) (nB false)),mO 34 33,oG 35 (mV 2) 34 true,oG 36 (mV 9) 34 true,oG 37 (mV 3) 34 true,oG 38 (bO .sub 3 36 37 3) 34 true,oG 39 (bO .leq 3 35 38 3) 34 true,oO 40 (.pick (xT 34) (xT 39) (nB false)),aO 8 40] [8] (.ret)))
theorem Re:Bh Tryz.prog 234 41 [(.tmp 8)] KC:=Au Tryz.func234
def KH:CC:=sR [oO 6 (.assign (.const (.int .u64 0))),oO 7 (.assign (nB false))] [0,1,2] (.seq (sR [mO 8 0,mO 9 1,mO 10 2,oO 11 (cL 234 #[(xT 8),(xT 9),(xT 10),(nI 1)] #[50,3,3,3]),oO 12 (.unOp .not 4 (xT 11))] [0,1,2,12] (cD 12 (sR [oO 6 (.assign (.const (.int .u64 0))),oO 7 (.assign (nB false))] [6,7] (.ret)) (.skip))) (.keep [0,1,2] (sR [mO 13 0,oO 14 (.nilCheck (xT 13)),fO 15 133 14 0,lO 16 41 15,mO 17 1,oO 18 (iA 41 16 17),lO 19 22 18,mO 20 2,oO 21 (iA 22 19 20),lO 22 51 21,aO 6 22,oO 7 (.assign (nB true))] [6,7] (.ret))))
theorem QA:Bh Tryz.prog 198 23 [(.tmp 6),(.tmp 7)] KH:=Au Tryz.func198
def J3:CC:=sR [oO 8 (.assign nS),oO 9 (.assign (nB false))] [0,1,2,3] (.seq (sR [mO 10 0,mO 11 1,mO 12 2,mO 13 3,oO 14 (cL 234 #[(xT 10),(xT 11),(xT 12),(xT 13)] #[50,3,3,3]),oO 15 (.unOp .not 4 (xT 14))] [0,1,2,3,15] (cD 15 (sR [oO 8 (.assign nS),oO 9 (.assign (nB false))] [8,9] (.ret)) (.skip))) (.keep [0,1,2,3] (sR [mO 16 0,oO 17 (.nilCheck (xT 16)),fO 18 133 17 0,lO 19 41 18,mO 20 1,oO 21 (iA 41 19 20),lO 22 22 21,mO 23 2,mO 24 2,mO 25 3,oO 26 (bO .add 3 24 25 3),oO 27 (.slice 22 (xT 22) (some (xT 23)) (some (xT 26)) none),oO 28 (cL 63 #[(xT 27)] #[22]),aO 8 28,oO 9 (.assign (nB true))] [8,9] (.ret))))
theorem Qd:Bh Tryz.prog 245 29 [(.tmp 8),(.tmp 9)] J3:=Au Tryz.func245
def MI:CC:=sR [oN 1 (.box 175 (xT 0)) [0],oO 2 (.assign (nI 0)),oO 3 (.assign (nB false))] [1] (sR [oO 5 (.build 327 #[(0,(nI 0)),(1,(nI 1)),(2,(nI 8)),(3,(nI 16)),(4,(nI 32)),(5,(nI 64)),(6,(nI 64))]),oN 4 (.alloc 327) [1],oS (.store 327 (xT 4) (xT 5))] [1,4] (.seq (.block 0 (sR [fO 7 175 1 0,lO 8 3 7,oO 9 (.binOp .eql 3 (xT 8) (nI 1) 3),aO 6 9] [1,4,6] (cD 6 (sR [fO 10 175 1 2,lO 11 3 10,fO 12 175 1 3,lO 13 3 12,oO 14 (bO .add 3 11 13 3),aO 2 14,oO 3 (.assign (nB true))] [2,3] (.ret)) (sR [fO 16 175 1 0,lO 17 3 16,oO 18 (.binOp .eql 3 (xT 17) (nI 2) 3),mO 19 18,oG 20 (fA 175 1 4) 19 true,oG 21 (lD 3 20) 19 true,oG 22 (.binOp .eql 3 (xT 21) (nI 7) 3) 19 true,oO 23 (.pick (xT 19) (xT 22) (nB false)),aO 15 23] [1,4,15] (cD 15 (sR [fO 24 175 1 5,lO 25 3 24,oO 26 (.binOp .add 3 (xT 25) (nI 1) 3),aO 2 26,oO 3 (.assign (nB true))] [2,3] (.ret)) (sR [fO 28 175 1 0,lO 29 3 28,oO 30 (.binOp .eql 3 (xT 29) (nI 2) 3),mO 31 30,oG 32 (fA 175 1 4) 31 true,oG 33 (lD 3 32) 31 true,oG 34 (cL 225 #[(xT 33),(nI 6)] #[3,3]) 31 true,oO 35 (.pick (xT 31) (xT 34) (nB false)),mO 36 35,oG 37 (fA 175 1 5) 36 true,oG 38 (lD 3 37) 36 true,oG 39 (cL 225 #[(xT 38),(nI 536870911)] #[3,3]) 36 true,oO 40 (.pick (xT 36) (xT 39) (nB false)),aO 27 40] [1,4,27] (cD 27 (sR [fO 41 175 1 5,lO 42 3 41,fO 43 175 1 4,lO 44 3 43,oO 45 (iA 327 4 44),lO 46 3 45,oO 47 (bO .mul 3 42 46 3),oO 48 (.binOp .add 3 (xT 47) (nI 63) 3),oO 49 (.binOp .quo 3 (xT 48) (nI 64) 3),aO 2 49,oO 3 (.assign (nB true))] [2,3] (.ret)) (.skip)))))))) (.keep [] (sR [oO 2 (.assign (nI 0)),oO 3 (.assign (nB false))] [2,3] (.ret)))))
theorem TA:Bh Tryz.prog 267 50 [(.tmp 2),(.tmp 3)] MI:=Au Tryz.func267
def Rc:CC:=sR [oN 3 (.box 198 (xT 1)) [0],oN 4 (.alloc 198) [1],oO 5 (.assign (nI 0))] [0,3,4] (sR [fO 9 198 3 0,lO 10 175 9,oO 11 (cL 267 #[(xT 10)] #[175]),mO 8 11,xO 12 8 0,xO 13 8 1,aO 6 12,aO 7 13] [0,3,4,6] (.seq (sR [mO 14 0,fO 15 198 3 1,lO 16 3 15,fO 17 198 3 2,lO 18 3 17,mO 19 6,oO 20 (cL 234 #[(xT 14),(xT 16),(xT 18),(xT 19)] #[50,3,3,3]),oO 21 (.unOp .not 4 (xT 20))] [3,4,21] (cD 21 (sR [oO 22 (.build 198 #[]),oS (.store 198 (xT 4) (xT 22)),oO 5 (.assign (nI 7))] [4,5] (.ret)) (.skip))) (.keep [3,4] (sR [fO 23 198 3 0,fO 24 175 23 1,oS (.store 3 (xT 24) (nI 0))] [3,4] (sR [lO 25 198 3,oS (.store 198 (xT 4) (xT 25)),oO 5 (.assign (nI 0))] [4,5] (.ret))))))
theorem YW:Bh Tryz.prog 244 26 [(.cell 4 198),(.tmp 5)] Rc:=Au Tryz.func244
def N0:CC:=cD 12 (sR [mO 15 0,lO 16 175 5,mO 17 2,mO 18 3,oO 19 (.binOp .add 3 (xT 18) (nI 1) 3),fO 20 175 5 1,lO 21 3 20,oO 22 (bO .add 3 19 21 3),oO 23 (.build 198 #[(0,(xT 16)),(1,(xT 17)),(2,(xT 22))]),oO 24 (cL 244 #[(xT 15),(xT 23)] #[50,198]),xO 25 24 0,xO 26 24 1,oS (.store 198 (xT 8) (xT 25)),aO 9 26] [8,9] (.ret)) (sR [oO 28 (.binOp .eql 3 (xT 11) (nI 4) 3),aO 27 28] [8,27] (cD 27 (sR [oO 29 (.build 198 #[]),oS (.store 198 (xT 8) (xT 29)),oO 9 (.assign (nI 9))] [8,9] (.ret)) (.skip))) 
def U6:CC:=sR [oN 5 (.box 175 (xT 1)) [0],oN 8 (.alloc 198) [1],oO 9 (.assign (nI 0))] [0,2,3,5,8] (.seq (sR [fO 10 175 5 0,lO 11 3 10] [0,2,3,5,8,11] (.block 0 (.seq (sR [oO 13 (.binOp .eql 3 (xT 11) (nI 1) 3),aO 12 13] [0,2,3,5,8,11,12] (cD 12 (.skip) (.reg [oO 14 (.binOp .eql 3 (xT 11) (nI 2) 3),aO 12 14] [0,2,3,5,8,11,12]))) (.keep [0,2,3,5,8,11,12] N0)))) (.keep [8] (sR [oO 30 (.build 198 #[]),oS (.store 198 (xT 8) (xT 30)),oO 9 (.assign (nI 8))] [8,9] (.ret))))
theorem dN:Bh Tryz.prog 205 31 [(.cell 8 198),(.tmp 9)] U6:=Au Tryz.func205
def QD:CC:=sR [oN 6 (.alloc 198) [0],oO 7 (.assign (nI 0))] [0,1,2,6] (sR [mO 13 0,mO 14 1,mO 15 2,oO 16 (cL 245 #[(xT 13),(xT 14),(xT 15),(nI 2)] #[50,3,3,3]),mO 12 16,xO 17 12 0,xO 18 12 1,aO 8 17,aO 9 18] [0,6,8,9] (.seq (sR [mO 19 9,oO 20 (.unOp .not 4 (xT 19))] [0,6,8,20] (cD 20 (sR [oO 21 (.build 198 #[]),oS (.store 198 (xT 6) (xT 21)),oO 7 (.assign (nI 7))] [6,7] (.ret)) (.skip))) (.keep [0,6,8] (sR [mO 22 8,oO 23 (.indexAddr 22 (xT 22) (nI 0)),⟨some 24,(lD 51 23),none,[],2,[],true⟩,⟨some 25,(cL 204 #[(xT 24)] #[51]),none,[],3,[],true⟩,mO 26 8,oO 27 (.indexAddr 22 (xT 26) (nI 1)),⟨some 28,(lD 51 27),none,[],6,[3],true⟩,⟨some 29,(cL 204 #[(xT 28)] #[51]),none,[],7,[],true⟩,⟨some 10,(.alloc 175),none,[1],8,[2,3,6,7],true⟩,⟨some 11,(.alloc 175),none,[2],9,[2,3,6,7,8],false⟩,oS (.store 175 (xT 10) (xT 25)),oS (.store 175 (xT 11) (xT 29))] [0,6,10,11] (.seq (.block 0 (sR [fO 31 175 10 0,lO 32 3 31,oO 33 (.binOp .neq 3 (xT 32) (nI 3) 3),mO 34 33,oG 35 (fA 175 10 7) 34 false,oG 36 (lD 4 35) 34 false,oO 37 (.pick (xT 34) (nB true) (xT 36)),aO 30 37] [0,6,10,11,30] (cD 30 (sR [oO 38 (.build 198 #[]),oS (.store 198 (xT 6) (xT 38)),oO 7 (.assign (nI 8))] [6,7] (.ret)) (sR [fO 40 175 11 0,lO 41 3 40,oO 42 (.binOp .eql 3 (xT 41) (nI 4) 3),aO 39 42] [0,6,10,11,39] (cD 39 (sR [oO 43 (.build 198 #[]),oS (.store 198 (xT 6) (xT 43)),oO 7 (.assign (nI 9))] [6,7] (.ret)) (sR [fO 45 175 11 0,lO 46 3 45,oO 47 (.binOp .neq 3 (xT 46) (nI 1) 3),mO 48 47,oG 49 (fA 175 11 0) 48 true,oG 50 (lD 3 49) 48 true,oG 51 (.binOp .neq 3 (xT 50) (nI 2) 3) 48 true,oO 52 (.pick (xT 48) (xT 51) (nB false)),mO 53 52,oG 54 (fA 175 11 1) 53 false,oG 55 (lD 3 54) 53 false,oG 56 (.binOp .neq 3 (xT 55) (nI 0) 3) 53 false,oO 57 (.pick (xT 53) (nB true) (xT 56)),aO 44 57] [0,6,10,11,44] (cD 44 (sR [oO 58 (.build 198 #[]),oS (.store 198 (xT 6) (xT 58)),oO 7 (.assign (nI 8))] [6,7] (.ret)) (.skip)))))))) (.keep [0,6,10,11] (sR [mO 59 0,lO 60 175 11,fO 61 175 10 6,lO 62 3 61,fO 63 175 10 1,lO 64 3 63,oO 65 (.build 198 #[(0,(xT 60)),(1,(xT 62)),(2,(xT 64))]),oO 66 (cL 244 #[(xT 59),(xT 65)] #[50,198]),xO 67 66 0,xO 68 66 1,oS (.store 198 (xT 6) (xT 67)),aO 7 68] [6,7] (.ret))))))))
theorem YS:Bh Tryz.prog 206 69 [(.cell 6 198),(.tmp 7)] QD:=Au Tryz.func206
def QO:CC:=sR [oN 6 (.alloc 198) [0],oO 7 (.assign (nI 0))] [0,1,2,6] (sR [mO 13 0,mO 14 1,mO 15 2,oO 16 (cL 198 #[(xT 13),(xT 14),(xT 15)] #[50,3,3]),mO 12 16,xO 17 12 0,xO 18 12 1,aO 8 17,aO 9 18] [0,1,2,6,8,9] (.seq (sR [mO 19 9,oO 20 (.unOp .not 4 (xT 19))] [0,1,2,6,8,20] (cD 20 (sR [oO 21 (.build 198 #[]),oS (.store 198 (xT 6) (xT 21)),oO 7 (.assign (nI 7))] [6,7] (.ret)) (.skip))) (.keep [0,1,2,6,8] (sR [mO 22 8,oO 23 (cL 204 #[(xT 22)] #[51]),oN 10 (.alloc 175) [1],oS (.store 175 (xT 10) (xT 23))] [0,1,2,6,10] (.seq (.block 0 (sR [fO 25 175 10 0,lO 26 3 25,oO 27 (.binOp .eql 3 (xT 26) (nI 0) 3),aO 24 27] [0,1,2,6,10,24] (cD 24 (sR [oO 28 (.build 198 #[]),oS (.store 198 (xT 6) (xT 28)),oO 7 (.assign (nI 0))] [6,7] (.ret)) (sR [fO 30 175 10 0,lO 31 3 30,oO 32 (.binOp .neq 3 (xT 31) (nI 3) 3),aO 29 32] [0,1,2,6,10,29] (cD 29 (sR [mO 33 0,lO 34 175 10,mO 35 1,mO 36 2,oO 37 (cL 205 #[(xT 33),(xT 34),(xT 35),(xT 36)] #[50,175,3,3]),xO 38 37 0,xO 39 37 1,oS (.store 198 (xT 6) (xT 38)),aO 7 39] [6,7] (.ret)) (sR [fO 41 175 10 7,lO 42 4 41,aO 40 42] [0,6,10,40] (cD 40 (sR [mO 43 0,fO 44 175 10 6,lO 45 3 44,fO 46 175 10 1,lO 47 3 46,oO 48 (cL 206 #[(xT 43),(xT 45),(xT 47)] #[50,3,3]),xO 49 48 0,xO 50 48 1,oS (.store 198 (xT 6) (xT 49)),aO 7 50] [6,7] (.ret)) (.skip)))))))) (.keep [0,6,10] (sR [mO 52 0,fO 53 175 10 6,lO 54 3 53,fO 55 175 10 1,lO 56 3 55,oO 57 (cL 198 #[(xT 52),(xT 54),(xT 56)] #[50,3,3]),mO 51 57,xO 58 51 0,xO 59 51 1,aO 11 58,aO 9 59] [0,6,9,10,11] (.seq (sR [mO 60 9,oO 61 (.unOp .not 4 (xT 60))] [0,6,10,11,61] (cD 61 (sR [oO 62 (.build 198 #[]),oS (.store 198 (xT 6) (xT 62)),oO 7 (.assign (nI 7))] [6,7] (.ret)) (.skip))) (.keep [0,6,10,11] (sR [mO 63 0,mO 64 11,⟨some 65,(cL 204 #[(xT 64)] #[51]),none,[],2,[],true⟩,fO 66 175 10 6,⟨some 67,(lD 3 66),none,[],4,[2],false⟩,fO 68 175 10 1,⟨some 69,(lD 3 68),none,[],6,[2],false⟩,oO 70 (cL 205 #[(xT 63),(xT 65),(xT 67),(xT 69)] #[50,175,3,3]),xO 71 70 0,xO 72 70 1,oS (.store 198 (xT 6) (xT 71)),aO 7 72] [6,7] (.ret)))))))))))
theorem Zs:Bh Tryz.prog 157 73 [(.cell 6 198),(.tmp 7)] QO:=Au Tryz.func157
def FL:CC:=.seq (sR [fO 51 135 1 5,lO 52 3 51,mO 53 3,oO 54 (bO .rem 3 52 53 3),oO 55 (.binOp .gtr 3 (xT 54) (nI 0) 3)] [1,3,55] (cD 55 (sR [fO 56 135 1 5,lO 57 3 56,mO 58 3,oO 59 (bO .quo 3 57 58 3),oO 60 (.binOp .add 3 (xT 59) (nI 1) 3),aO 2 60] [2] (.ret)) (.skip))) (.keep [1,3] (sR [fO 61 135 1 5,lO 62 3 61,mO 63 3,oO 64 (bO .quo 3 62 63 3),aO 2 64] [2] (.ret))) 
def J1:CC:=sR [oN 1 (.box 135 (xT 0)) [0],oO 2 (.assign (nI 0))] [1] (.seq (sR [fO 4 135 1 0,lO 5 3 4,oO 6 (.binOp .eql 3 (xT 5) (nI 1) 3)] [1,6] (cD 6 (sR [fO 7 135 1 2,lO 8 3 7,fO 9 135 1 3,lO 10 3 9,oO 11 (bO .add 3 8 10 3),aO 2 11] [2] (.ret)) (.skip))) (.keep [1] (.seq (sR [fO 12 135 1 0,lO 13 3 12,oO 14 (.binOp .neq 3 (xT 13) (nI 2) 3)] [1,14] (cD 14 (sR [oO 2 (.assign (.const (.int .i64 (-1))))] [2] (.ret)) (.skip))) (.keep [1] (.seq (sR [fO 15 135 1 4,lO 16 3 15,oO 17 (.binOp .eql 3 (xT 16) (nI 7) 3)] [1,17] (cD 17 (sR [fO 18 135 1 5,lO 19 3 18,oO 20 (.binOp .add 3 (xT 19) (nI 1) 3),aO 2 20] [2] (.ret)) (.skip))) (.keep [1] (.seq (sR [fO 21 135 1 4,lO 22 3 21,oO 23 (.binOp .lss 3 (xT 22) (nI 0) 3),mO 24 23,oG 25 (fA 135 1 4) 24 false,oG 26 (lD 3 25) 24 false,oG 27 (.binOp .gtr 3 (xT 26) (nI 6) 3) 24 false,oO 28 (.pick (xT 24) (nB true) (xT 27)),mO 29 28,oG 30 (fA 135 1 5) 29 false,oG 31 (lD 3 30) 29 false,oG 32 (.binOp .lss 3 (xT 31) (nI 0) 3) 29 false,oO 33 (.pick (xT 29) (nB true) (xT 32)),mO 34 33,oG 35 (fA 135 1 5) 34 false,oG 36 (lD 3 35) 34 false,oG 37 (.binOp .geq 3 (xT 36) (nI 536870912) 3) 34 false,oO 38 (.pick (xT 34) (nB true) (xT 37))] [1,38] (cD 38 (sR [oO 2 (.assign (.const (.int .i64 (-1))))] [2] (.ret)) (.skip))) (.keep [1] (sR [oO 3 (.assign (nI 1))] [1,3] (.seq (sR [fO 39 135 1 4,lO 40 3 39] [1,3,40] (.block 0 (sR [oO 42 (.binOp .eql 3 (xT 40) (nI 0) 3),aO 41 42] [1,3,40,41] (cD 41 (sR [oO 2 (.assign (nI 0))] [2] (.ret)) (sR [oO 44 (.binOp .eql 3 (xT 40) (nI 1) 3),aO 43 44] [1,3,40,43] (cD 43 (.reg [oO 3 (.assign (nI 64))] [1,3]) (sR [oO 46 (.binOp .eql 3 (xT 40) (nI 2) 3),aO 45 46] [1,3,40,45] (cD 45 (.reg [oO 3 (.assign (nI 8))] [1,3]) (sR [oO 48 (.binOp .eql 3 (xT 40) (nI 3) 3),aO 47 48] [1,3,40,47] (cD 47 (.reg [oO 3 (.assign (nI 4))] [1,3]) (sR [oO 50 (.binOp .eql 3 (xT 40) (nI 4) 3),aO 49 50] [1,3,49] (cD 49 (.reg [oO 3 (.assign (nI 2))] [1,3]) (.skip))))))))))))) (.keep [1,3] FL)))))))))))
theorem P7:Bh Tryz.prog 195 65 [(.tmp 2)] J1:=Au Tryz.func195
def Ly:CC:=sR [oO 6 (.assign (nB false))] [0,1,2] (sR [mO 7 1,oO 8 (.binOp .geq 3 (xT 7) (nI 0) 3),mO 9 8,oG 10 (mV 1) 9 true,oG 11 (mV 0) 9 true,oG 12 (bL 11 41) 9 true,oG 13 (bO .lss 3 10 12 3) 9 true,oO 14 (.pick (xT 9) (xT 13) (nB false)),mO 15 14,oG 16 (mV 2) 15 true,oG 17 (.binOp .geq 3 (xT 16) (nI 0) 3) 15 true,oO 18 (.pick (xT 15) (xT 17) (nB false)),mO 19 18,oG 20 (mV 2) 19 true,oG 21 (mV 0) 19 true,oG 22 (mV 1) 19 true,oG 23 (iA 41 21 22) 19 true,oG 24 (lD 22 23) 19 true,oG 25 (bL 24 22) 19 true,oG 26 (bO .lss 3 20 25 3) 19 true,oO 27 (.pick (xT 19) (xT 26) (nB false)),aO 6 27] [6] (.ret))
theorem So:Bh Tryz.prog 142 28 [(.tmp 6)] Ly:=Au Tryz.func142
def JP:CC:=sR [oN 3 (.box 137 (xT 1)) [0],oN 4 (.alloc 137) [1],oO 5 (.assign (nI 0))] [0,3,4] (sR [fO 7 137 3 0,lO 8 135 7,oO 9 (cL 195 #[(xT 8)] #[135]),aO 6 9] [0,3,4,6] (.seq (sR [fO 10 137 3 1,lO 11 3 10,oO 12 (.binOp .lss 3 (xT 11) (nI 0) 3),mO 13 12,oG 14 (fA 137 3 1) 13 false,oG 15 (lD 3 14) 13 false,oG 16 (mV 0) 13 false,oG 17 (bL 16 41) 13 false,oG 18 (bO .geq 3 15 17 3) 13 false,oO 19 (.pick (xT 13) (nB true) (xT 18)),mO 20 19,oG 21 (fA 137 3 2) 20 false,oG 22 (lD 3 21) 20 false,oG 23 (.binOp .lss 3 (xT 22) (nI 0) 3) 20 false,oO 24 (.pick (xT 20) (nB true) (xT 23)),mO 25 24,oG 26 (fA 137 3 2) 25 false,oG 27 (lD 3 26) 25 false,oG 28 (mV 0) 25 false,oG 29 (fA 137 3 1) 25 false,oG 30 (lD 3 29) 25 false,oG 31 (iA 41 28 30) 25 false,oG 32 (lD 22 31) 25 false,oG 33 (bL 32 22) 25 false,oG 34 (bO .gtr 3 27 33 3) 25 false,oO 35 (.pick (xT 25) (nB true) (xT 34)),mO 36 35,oG 37 (mV 6) 36 false,oG 38 (mV 0) 36 false,oG 39 (fA 137 3 1) 36 false,oG 40 (lD 3 39) 36 false,oG 41 (iA 41 38 40) 36 false,oG 42 (lD 22 41) 36 false,oG 43 (bL 42 22) 36 false,oG 44 (fA 137 3 2) 36 false,oG 45 (lD 3 44) 36 false,oG 46 (bO .sub 3 43 45 3) 36 false,oG 47 (bO .gtr 3 37 46 3) 36 false,oO 48 (.pick (xT 36) (nB true) (xT 47))] [3,4,48] (cD 48 (sR [oO 49 (.build 137 #[]),oS (.store 137 (xT 4) (xT 49)),oO 5 (.assign (nI 7))] [4,5] (.ret)) (.skip))) (.keep [3,4] (sR [fO 50 137 3 0,fO 51 135 50 1,oS (.store 3 (xT 51) (nI 0))] [3,4] (sR [lO 52 137 3,oS (.store 137 (xT 4) (xT 52)),oO 5 (.assign (nI 0))] [4,5] (.ret))))))
theorem Qc:Bh Tryz.prog 144 53 [(.cell 4 137),(.tmp 5)] JP:=Au Tryz.func144
def JF:CC:=sR [oN 1 (.box 135 (xT 0)) [0],oO 2 (.assign (nI 0))] [1] (.seq (sR [fO 3 135 1 0,lO 4 3 3,oO 5 (.binOp .eql 3 (xT 4) (nI 4) 3)] [1,5] (cD 5 (sR [oO 2 (.assign (nI 9))] [2] (.ret)) (.skip))) (.keep [1] (.seq (sR [fO 6 135 1 0,lO 7 3 6,oO 8 (.binOp .neq 3 (xT 7) (nI 1) 3),mO 9 8,oG 10 (fA 135 1 0) 9 true,oG 11 (lD 3 10) 9 true,oG 12 (.binOp .neq 3 (xT 11) (nI 2) 3) 9 true,oO 13 (.pick (xT 9) (xT 12) (nB false))] [13] (cD 13 (sR [oO 2 (.assign (nI 8))] [2] (.ret)) (.skip))) (.keep [] (sR [oO 2 (.assign (nI 0))] [2] (.ret))))))
theorem PW:Bh Tryz.prog 143 14 [(.tmp 2)] JF:=Au Tryz.func143
def EY:CC:=.seq (sR [mO 94 11,oO 95 (.binOp .neq 3 (xT 94) (nI 0) 3)] [0,6,9,10,11,95] (cD 95 (sR [oO 96 (.build 137 #[]),mO 97 11,oS (.store 137 (xT 6) (xT 96)),aO 7 97] [6,7] (.ret)) (.skip))) (.keep [0,6,9,10] (sR [mO 98 0,lO 99 135 10,fO 100 135 9 6,lO 101 3 100,fO 102 135 9 1,lO 103 3 102,oO 104 (.build 137 #[(0,(xT 99)),(1,(xT 101)),(2,(xT 103))]),oO 105 (cL 144 #[(xT 98),(xT 104)] #[41,137]),xO 106 105 0,xO 107 105 1,oS (.store 137 (xT 6) (xT 106)),aO 7 107] [6,7] (.ret)))
def Ff:CC:=sR [lO 129 135 8,oO 130 (cL 143 #[(xT 129)] #[135]),aO 12 130] [0,1,2,6,8,12] (.seq (sR [mO 131 12,oO 132 (.binOp .neq 3 (xT 131) (nI 0) 3)] [0,1,2,6,8,12,132] (cD 132 (sR [oO 133 (.build 137 #[]),mO 134 12,oS (.store 137 (xT 6) (xT 133)),aO 7 134] [6,7] (.ret)) (.skip))) (.keep [0,1,2,6,8] (sR [mO 135 0,lO 136 135 8,mO 137 1,mO 138 2,oO 139 (.binOp .add 3 (xT 138) (nI 1) 3),fO 140 135 8 1,lO 141 3 140,oO 142 (bO .add 3 139 141 3),oO 143 (.build 137 #[(0,(xT 136)),(1,(xT 137)),(2,(xT 142))]),oO 144 (cL 144 #[(xT 135),(xT 143)] #[41,137]),xO 145 144 0,xO 146 144 1,oS (.store 137 (xT 6) (xT 145)),aO 7 146] [6,7] (.ret)))) 
def IK:CC:=sR [oN 6 (.alloc 137) [0],oO 7 (.assign (nI 0))] [0,1,2,6] (.seq (sR [mO 13 0,mO 14 1,mO 15 2,oO 16 (cL 142 #[(xT 13),(xT 14),(xT 15)] #[41,3,3]),oO 17 (.unOp .not 4 (xT 16))] [0,1,2,6,17] (cD 17 (sR [oO 18 (.build 137 #[]),oS (.store 137 (xT 6) (xT 18)),oO 7 (.assign (nI 7))] [6,7] (.ret)) (.skip))) (.keep [0,1,2,6] (sR [mO 19 0,mO 20 1,oO 21 (iA 41 19 20),lO 22 22 21,mO 23 2,oO 24 (iA 22 22 23),lO 25 51 24,oO 26 (cL 89 #[(xT 25)] #[51]),oN 8 (.alloc 135) [1],oS (.store 135 (xT 8) (xT 26))] [0,1,2,6,8] (.seq (sR [fO 27 135 8 0,lO 28 3 27,oO 29 (.binOp .eql 3 (xT 28) (nI 0) 3)] [0,1,2,6,8,29] (cD 29 (sR [oO 30 (.build 137 #[]),oS (.store 137 (xT 6) (xT 30)),oO 7 (.assign (nI 0))] [6,7] (.ret)) (.skip))) (.keep [0,1,2,6,8] (.seq (sR [fO 31 135 8 0,lO 32 3 31,oO 33 (.binOp .eql 3 (xT 32) (nI 3) 3),mO 34 33,oG 35 (fA 135 8 7) 34 true,oG 36 (lD 4 35) 34 true,oO 37 (.pick (xT 34) (xT 36) (nB false))] [0,1,2,6,8,37] (cD 37 (.seq (sR [mO 38 0,fO 39 135 8 6,lO 40 3 39,fO 41 135 8 1,lO 42 3 41,oO 43 (cL 142 #[(xT 38),(xT 40),(xT 42)] #[41,3,3]),oO 44 (.unOp .not 4 (xT 43)),mO 45 44,oG 46 (mV 0) 45 false,oG 47 (fA 135 8 6) 45 false,oG 48 (lD 3 47) 45 false,oG 49 (fA 135 8 1) 45 false,oG 50 (lD 3 49) 45 false,oG 51 (.binOp .add 3 (xT 50) (nI 1) 3) 45 false,oG 52 (cL 142 #[(xT 46),(xT 48),(xT 51)] #[41,3,3]) 45 false,oG 53 (.unOp .not 4 (xT 52)) 45 false,oO 54 (.pick (xT 45) (nB true) (xT 53))] [0,6,8,54] (cD 54 (sR [oO 55 (.build 137 #[]),oS (.store 137 (xT 6) (xT 55)),oO 7 (.assign (nI 7))] [6,7] (.ret)) (.skip))) (.keep [0,6,8] (sR [mO 56 0,fO 57 135 8 6,⟨some 58,(lD 3 57),none,[],2,[],true⟩,oO 59 (iA 41 56 58),⟨some 60,(lD 22 59),none,[],4,[],true⟩,fO 61 135 8 1,⟨some 62,(lD 3 61),none,[],6,[],true⟩,oO 63 (iA 22 60 62),⟨some 64,(lD 51 63),none,[],8,[],true⟩,⟨some 65,(cL 89 #[(xT 64)] #[51]),none,[],9,[],true⟩,mO 66 0,fO 67 135 8 6,⟨some 68,(lD 3 67),none,[],12,[9],true⟩,oO 69 (iA 41 66 68),⟨some 70,(lD 22 69),none,[],14,[9],true⟩,fO 71 135 8 1,⟨some 72,(lD 3 71),none,[],16,[9],true⟩,oO 73 (.binOp .add 3 (xT 72) (nI 1) 3),oO 74 (iA 22 70 73),⟨some 75,(lD 51 74),none,[],19,[9],true⟩,⟨some 76,(cL 89 #[(xT 75)] #[51]),none,[],20,[],true⟩,⟨some 9,(.alloc 135),none,[2],21,[2,4,6,8,9,12,14,16,19,20],true⟩,⟨some 10,(.alloc 135),none,[3],22,[2,4,6,8,9,12,14,16,19,20,21],false⟩,oS (.store 135 (xT 9) (xT 65)),oS (.store 135 (xT 10) (xT 76))] [0,6,9,10] (.seq (sR [fO 77 135 9 0,lO 78 3 77,oO 79 (.binOp .neq 3 (xT 78) (nI 3) 3),mO 80 79,oG 81 (fA 135 9 7) 80 false,oG 82 (lD 4 81) 80 false,oO 83 (.pick (xT 80) (nB true) (xT 82))] [0,6,9,10,83] (cD 83 (sR [oO 84 (.build 137 #[]),oS (.store 137 (xT 6) (xT 84)),oO 7 (.assign (nI 8))] [6,7] (.ret)) (.skip))) (.keep [0,6,9,10] (sR [lO 85 135 10,oO 86 (cL 143 #[(xT 85)] #[135]),aO 11 86] [0,6,9,10,11] (.seq (sR [mO 87 11,oO 88 (.binOp .eql 3 (xT 87) (nI 0) 3),mO 89 88,oG 90 (fA 135 10 1) 89 true,oG 91 (lD 3 90) 89 true,oG 92 (.binOp .neq 3 (xT 91) (nI 0) 3) 89 true,oO 93 (.pick (xT 89) (xT 92) (nB false))] [0,6,9,10,11,93] (cD 93 (.reg [oO 11 (.assign (nI 8))] [0,6,9,10,11]) (.skip))) (.keep [0,6,9,10,11] EY)))))))) (.skip))) (.keep [0,1,2,6,8] (.seq (sR [fO 108 135 8 0,lO 109 3 108,oO 110 (.binOp .eql 3 (xT 109) (nI 3) 3)] [0,1,2,6,8,110] (cD 110 (sR [fO 111 135 8 6,lO 112 3 111,aO 1 112] [0,1,6,8] (sR [fO 113 135 8 1,lO 114 3 113,aO 2 114] [0,1,2,6,8] (.seq (sR [mO 115 0,mO 116 1,mO 117 2,oO 118 (cL 142 #[(xT 115),(xT 116),(xT 117)] #[41,3,3]),oO 119 (.unOp .not 4 (xT 118))] [0,1,2,6,8,119] (cD 119 (sR [oO 120 (.build 137 #[]),oS (.store 137 (xT 6) (xT 120)),oO 7 (.assign (nI 7))] [6,7] (.ret)) (.skip))) (.keep [0,1,2,6,8] (.reg [mO 121 0,mO 122 1,oO 123 (iA 41 121 122),lO 124 22 123,mO 125 2,oO 126 (iA 22 124 125),lO 127 51 126,oO 128 (cL 89 #[(xT 127)] #[51]),oS (.store 135 (xT 8) (xT 128))] [0,1,2,6,8]))))) (.skip))) (.keep [0,1,2,6,8] Ff)))))))))
theorem OB:Bh Tryz.prog 88 147 [(.cell 6 137),(.tmp 7)] IK:=Au Tryz.func88
end Go.Proofs.YtbjmaoedheiigaaGreat
namespace Go.G
open Go.RowKit
def RU (H:Hp) (a a':A):Prop:=∀ (c:Cx) (w:World) (I:Nat→Prop) (μ:Mu) (v:Value),Sim c w I μ H→Rel w I μ a v→Rel w (fun b=>aw H μ b) Wk a' v
def wy (P:Program) (rs:List ResultVar) (r:A):Exit→Sta→Prop:=jX P rs fun r0 H=>RU H r0 r
theorem Nb {P:Program} {f:FuncId} {n:Nat} {rs:List ResultVar} {cc:CC} {args:List A} {r:A} (t:Bh P f n rs cc) (ha:args.length≤n) (h:∀ w0 I0,WPC (cx P w0 I0 n) cc (wy P rs r) ⟨Qb args,H0⟩):SpecB P f args r:=by
 obtain⟨hm,hk,fn,code,hf,hb,hn,hrs,hc⟩:=t
 refine⟨hk,fun w I J vs hI hJ htb hl hr=>?_⟩
 have hIJ:∀ b,(I b∨J b)→b<w.heap.size:=fun b hb=>hb.elim (hI b) (hJ b)
 have h1:AWP (cx P w (fun b=>I b∨J b) n) code (jX P fn.results.toList fun r0 H=>RU H r0 r) ⟨Qb args,H0⟩:=Og (c:=cx P w _ n) hm hc (by rw[hrs];exact h w _)
 refine(Ul hf hb (c:=cx P w (fun b=>I b∨J b) n) rfl hn.symm hl (by omega) (W7 hIJ (htb.mono (fun _ h=>.inl h) (fun _ _=>rfl))) hr h1).mono fun e w' ⟨v,r0,H',I',μ',he,h1,h2,h3⟩=>⟨v,he,?_,?_⟩
 ·have k:=h1.kept
  exact⟨k.os,k.tape,k.output,k.size,fun b hb=>k.block b hb (fun ⟨_,h⟩=>h)⟩
 ·refine(h3 _ w' I' μ' v h1 h2).mono0 (fun b hb=>?_) (fun _ _=>rfl)
  obtain⟨o,g1,rfl⟩:=hb
  obtain⟨_,g4,g5⟩:=h1.own o g1
  rcases g4 with g4 | g4
  ·exact g4.elim
  ·exact .inr ⟨g4,g5⟩
@[simp] theorem vn {P:Program} {rs:List ResultVar} {r:A} {st:Sta}:wy P rs r .normal st=Gt (Ll P st rs) fun r0=>RU st.H r0 r:=rfl
@[simp] theorem Adr {P:Program} {rs:List ResultVar} {r:A} {st:Sta}:wy P rs r .ret st=Gt (Ll P st rs) fun r0=>RU st.H r0 r:=rfl
theorem kh {H:Hp} {a:A} (h:a.flat=true):RU H a a:=fun c w I μ v hs hr=>hr.of_flat h
theorem pU {H:Hp} {f:Bool}:RU H (.sl f []) (.sl false []):=fun c w I μ v hs hr=>by
 cases hr with
 |slN _ _ a cap _=>exact .slN _ _ _ _ (fun h=>by cases h)
 |sl _ _ b off n cap sz _ g h1 h2=>
  have:n=0:=h2
  subst this
  exact .slN _ _ _ _ (fun h=>by cases h)
theorem Qy {H:Hp} {o:Nm} {u off len sz:Nat} {xs:List A} (ho:PY H o u=some (sz,xs)) (hl:off+len≤xs.length) (hb:((xs.drop off).take len).all (fun x=>x.cells.length == sz&&x.cells.all fun y=>A.flat1 y&&y.one)=true):RU H (.osl o u sz off len) (.sl false ((xs.drop off).take len)):=by
 simp only[List.all_eq_true,Bool.and_eq_true,beq_iff_eq] at hb
 intro c w I μ v hs hr
 have hlen:((xs.drop off).take len).length=len:=by simp;omega
 have hcell:∀ (k:Nat) (y:A),(((xs.drop off).take len).flatMap A.cells)[k]? = some y→y.flat1=true∧y.one=true:=fun k y hk=>by
  obtain⟨x,hx,hy⟩:=List.mem_flatMap.1 (List.mem_of_getElem? hk)
  exact(hb x hx).2 y hy
 cases hr with
 |osl _ _ _ _ _ _ a cap g1 g2 g4 g5 g3=>
  obtain⟨hu,k2,hrow⟩:=hs.row ho
  obtain⟨_,hcur⟩:=g3 hu.symm
  by_cases h0:len=0
  ·subst h0
   simp only[List.take_zero]
   exact .slN _ _ _ _ (fun h=>by cases h)
  rcases hcur with ⟨e,_⟩ | ⟨p1,rfl,p3⟩
  ·exact(h0 e).elim
  rcases hrow with ⟨q1,_⟩ | ⟨q1,vs,k3,k4,k5,k6,k7⟩
  ·rw[p1] at q1;cases q1
  subst k2
  have hB:Ec (μ o) (H o).ob=true:=by rw[(Gq ho).2];exact q1
  have hg:∀ (k:Nat) (y:A),(((xs.drop off).take len).flatMap A.cells)[k]? = some y→(xs.flatMap A.cells)[off*(μ o).sz+k]? = some y:=fun k y hk=>Ea k6 hk
  refine .sl _ _ (μ o).b (off*(μ o).sz) _ _ (μ o).sz _ (fun k=>vs.getD (off*(μ o).sz+k) undef) ⟨o,hB,rfl⟩ hlen.symm (by omega) (fun h=>by cases h) (fun z hz=>k6 z (V4 (Qo hz)))
   (fun k y hk=>(hcell k y hk).2) (fun k y hk=>?_) (fun k y hk=>(k7 _ y (hg k y hk)).2.of_flat1 (hcell k y hk).1)
  have h3:=hg k y hk
  have h4:=BH k6
  have h5:xs.length*(μ o).sz≤(μ o).cap*(μ o).sz:=Nat.mul_le_mul_right _ k5
  have h6:=(List.getElem?_eq_some_iff.1 h3).1
  rw[cell_of_row w (μ o).b _ vs (μ o).e (0,0) k3]
  have:off*(μ o).sz+k<vs.size:=by rw[k4];omega
  simp[this]
theorem ko {P:Program} {f:FuncId} {fl:Bool} {r:A} (h1:∀ cap,SpecB P f [.v (.slice none 0 cap)] r) (h2:∀ a cap,SpecB P f [.v (.slice (some a) 0 cap)] r):SpecB P f [.sl fl []] r:=by
 refine⟨(h1 0).1,fun w I J vs hI hJ htb hl hr=>?_⟩
 have h:=hr 0 _ rfl
 have go:∀ x,vs.getD 0 undef=x→∀ (k:Nat) (y:A),[A.v x][k]? = some y→Rel w (fun b=>I b∨J b) Wk y (vs.getD k undef):=fun x hx k y hk=>by
  cases k with
  |zero=>cases hk;rw[hx];exact .v _ _
  |succ k=>simp at hk
 generalize hq:vs.getD 0 undef=x at h
 cases h with
 |slN _ _ a cap _=>
  cases a with
  |none=>exact(h1 cap).2 w I J vs hI hJ htb hl (go _ hq)
  |some a=>exact(h2 a cap).2 w I J vs hI hJ htb hl (go _ hq)
 |sl _ _ b off n cap sz _ g k1 k2=>
  have:n=0:=k2
  subst this
  exact(h2 _ cap).2 w I J vs hI hJ htb hl (go _ hq)
theorem W0 {w:World} {I:Nat→Prop} {μ:Mu} {d:Nm} {u sz:Nat} {v:Value} (h1:Rel w I μ (.sl true []) v) (hu:(μ d).u=u) (h0:1≤u) (hz:(μ d).sz=sz):Rel w I μ (.osl d u sz 0 0) v:=by
 subst hu
 cases h1 with
 |slN _ _ q cap hc=>
  have:=hc rfl
  subst this
  exact .osl _ _ _ _ _ _ _ _ h0 (Cc _) (Cc _) (fun h=>by omega) (fun _=>⟨hz,.inl ⟨rfl,rfl⟩⟩)
 |sl _ _ b off n cap z _ g h1 h2 h3 h4=>
  have h5:n=0:=h2
  have h6:cap=0:=h4 rfl
  subst h5 h6
  exact .osl _ _ _ _ _ _ _ _ h0 (Cc _) (Cc _) (fun h=>by omega) (fun _=>⟨hz,.inl ⟨rfl,rfl⟩⟩)
theorem Bv {c:Cx} {s:Nat→A} {H:Hp} {d:Nm} {u:Nat} {cs:List A} (i:Nat) (d':Nm) (sz:Nat) (hd:H d=⟨u,.cells cs⟩) (hi:cs[i]? = some (.sl true [])) (hne:d ≠ d') :
  Le c ⟨s,H⟩ ⟨s,AQ (AQ H d' ⟨(H d').u+1,.arr sz []⟩) d ⟨u,.cells (cs.set i (.osl d' ((H d').u+1) sz 0 0))⟩⟩:=fun a w I μ hs=>by
 obtain⟨hx,hs'⟩:=hs.sim.upd (Es w none) d' ⟨(H d').u+1,false,0,0,sz,0⟩ (.arr sz []) (.inl rfl) (.inl (by rw[hs.sim.ver];exact Nat.lt_succ_self _)) (fun h=>nomatch h) (fun h=>nomatch h) (fun hx=>⟨rfl,.inl ⟨rfl,rfl⟩⟩)
 have hd1:(AQ H d' ⟨(H d').u+1,.arr sz []⟩:Hp) d=⟨u,.cells cs⟩:=by rw[AM hne];exact hd
 have hob:=hs'.ob d
 rw[hd1] at hob
 obtain⟨vs,k1,k2,k3⟩:=hob
 have hB:Ec (AQ μ d' ⟨(H d').u+1,false,0,0,sz,0⟩ d) ((AQ H d' ⟨(H d').u+1,.arr sz []⟩:Hp) d).ob=true:=by rw[hd1];rfl
 obtain⟨hx2,hs2⟩:=hs'.upd (Es w none) d (AQ μ d' ⟨(H d').u+1,false,0,0,sz,0⟩ d) (.cells (cs.set i (.osl d' ((H d').u+1) sz 0 0))) (.inl rfl) (.inr rfl) (fun _=>.inr ⟨hB,rfl⟩) (fun _=>hs'.tag _ hB) (fun hx2=>by
  refine⟨vs,k1,by simpa using k2,fun k y hk=>?_⟩
  rw[Fv]
  by_cases hki:k=i
  ·subst hki
   have hlt:k<cs.length:=(List.getElem?_eq_some_iff.1 hi).1
   rw[List.getElem?_set_self hlt] at hk
   cases hk
   exact⟨rfl,W0 (k3 k _ hi).2 (by simp) (by omega) (by simp)⟩
  ·rw[List.getElem?_set_ne (Ne.symm hki)] at hk
   exact k3 k y hk)
 have hu:(AQ μ d' ⟨(H d').u+1,false,0,0,sz,0⟩ d).u=u:=by rw[hs'.ver,hd1]
 rw[hu] at hs2
 exact⟨I,_,hs2,hs.size,hs.defers,fun t=>hx2.rel (hx.rel (hs.rel t))⟩
def Part (H H':Hp):Prop:=∀ o,H' o=H o∨H' o=⟨(H o).u,.none⟩
theorem Part.has {H H':Hp} (h:Part H H') {L:vg} {o:Nm} (k:Ec L (H' o).ob=true):Ec L (H o).ob=true:=by
 rcases h o with e | e
 ·rw[← e];exact k
 ·rw[e] at k;cases k
theorem Part.ver {H H':Hp} (h:Part H H') (o:Nm):(H' o).u=(H o).u:=by rcases h o with e | e<;>rw[e]
theorem Sim.part {c:Cx} {w:World} {I:Nat→Prop} {μ:Mu} {H H':Hp} (hs:Sim c w I μ H) (h:Part H H'):Sim c w I μ H':=
 ⟨hs.kept,hs.lt,hs.old,hs.new,fun o=>by rw[h.ver,hs.ver],fun o=>by
  rcases h o with e | e
  ·rw[e];exact hs.ob o
  ·rw[e];trivial,fun o o' k k'=>hs.apart o o' (h.has k) (h.has k'),fun o k=>hs.own o (h.has k),hs.mle,fun o k=>hs.tag o (h.has k),hs.tab⟩
theorem Sim.freezeAll {c:Cx} {w:World} {I:Nat→Prop} {μ:Mu} {H H1 H2:Hp} (hs:Sim c w I μ H) (h1:Part H H1) (h2:Part H H2) (hd:∀ o,(H1 o).ob = .none∨(H2 o).ob = .none) (hM:∀ o b,(H1 o).ob ≠ .none→¬ c.M0 o b) :
  Sim c w (fun b=>I b∨aw H1 μ b) μ H2:=by
 have hx:Ext I μ w (fun b=>I b∨aw H1 μ b) μ w:=⟨fun b h=>.inl h,fun b h=>rfl,MuLe.refl _⟩
 refine⟨hs.kept,fun b h=>?_,fun b h=>.inl (hs.old b h),fun b h=>?_,fun o=>by rw[h2.ver,hs.ver],fun o=>?_,fun o o' k k'=>hs.apart o o' (h2.has k) (h2.has k'),fun o k=>?_,hs.mle,fun o k=>hs.tag o (h2.has k),hs.tab.mono (fun _ h=>.inl h) (fun _ _=>rfl)⟩
 ·rcases h with h | ⟨o,k,rfl⟩
  ·exact hs.lt b h
  ·exact(hs.own o (h1.has k)).2.2
 ·rcases h with h | ⟨o,k,rfl⟩
  ·exact hs.new b h
  ·rcases (hs.own o (h1.has k)).2.1 with h | h
   ·exact(hM _ _ (fun e=>by rw[e] at k;cases k) h).elim
   ·exact .inr h
 ·rcases h2 o with e | e
  ·rw[e];exact OSim.keep hx (fun _=>rfl) (hs.ob o)
  ·rw[e];trivial
 ·obtain⟨k1,k2,k3⟩:=hs.own o (h2.has k)
  refine⟨fun hh=>?_,k2,k3⟩
  rcases hh with hh | ⟨o',k',e⟩
  ·exact k1 hh
  ·refine hs.apart o o' (h2.has k) (h1.has k') (fun e=>?_) e.symm
   subst e
   rcases hd o with e | e
   ·rw[e] at k';cases k'
   ·rw[e] at k;cases k
theorem Xo {c:Cx} {s:Nat→A} {H H1 H2:Hp} (hM:∀ o b,(H1 o).ob ≠ .none→¬ c.M0 o b) (t:Nat) (a:A) (h1:Part H H1) (h2:Part H H2) (hd:∀ o,(H1 o).ob = .none∨(H2 o).ob = .none) (hf:Jw H1 (s t) a):Le c ⟨s,H⟩ ⟨upd s t a,H2⟩:=fun x w I μ hs=>by
 have h3:=hs.sim.freezeAll h1 h2 hd hM
 refine⟨_,μ,h3,hs.size,hs.defers,fun k=>?_⟩
 show Rel w _ μ (upd s t a k) _
 unfold upd
 split
 ·rename_i e
  subst e
  exact(hf c w I μ _ (hs.sim.part h1) (hs.rel k)).ofI
 ·exact(hs.rel k).mono0 (fun b h=>.inl h) (fun _ _=>rfl)
theorem LV {c:Cx} {s:Nat→A} {H:Hp} {d:Nm} (hM:∀ b,¬ c.M0 d b) (t:Nat) (a:A) (hf:∀ H1:Hp,H1 d=H d→Jw H1 (s t) a):Le c ⟨s,H⟩ ⟨upd s t a,AQ H d ⟨(H d).u,.none⟩⟩:=by
 refine Xo (fun o b h=>by
  by_cases e:o=d
  ·subst e;exact hM b
  ·exact absurd (by simp[e]) h) t a (H1:=fun o=>if o=d then H o else ⟨(H o).u,.none⟩) (fun o=>?_) (fun o=>?_) (fun o=>?_) (hf _ (by simp))
 ·by_cases h:o=d
  ·exact .inl (by simp[h])
  ·exact .inr (by simp[h])
 ·by_cases h:o=d
  ·subst h;exact .inr (by simp)
  ·exact .inl (AM h)
 ·by_cases h:o=d
  ·subst h;exact .inr (by simp)
  ·exact .inl (by simp[h])
end Go.G
namespace Go.Proofs.YtbjmaoedheiigaaGreat
open Go Go.G Go.Proofs
abbrev ws (l:List Int):A:=.sl false (l.map uv)
abbrev RA (l:List (List Int)):A:=.sl false (l.map ws)
@[simp] theorem Afz (l:List Int):DS 1 (l.map uv)=true:=by simp[DS]
@[simp] theorem Agq (l:List (List Int)):DS 1 (l.map ws)=true:=by simp[DS]
theorem PR (f:Bool) (l:List Int) (h:l.length*8≤140737488355328):SpecB Tryz.prog 63 [.sl f (l.map uv)] (ws l):=by
 cases l with
 |nil=>
  refine ko (fun cap=>?_) (fun a cap=>?_)
  ·refine Nb CT (by simp) fun w0 I0=>?_
   unfold B5
   simp
   exact pU
  ·refine Nb CT (by simp) fun w0 I0=>?_
   unfold B5
   simp
   exact Qy (sz:=1) (xs:=[]) (by simp) (by simp) (by simp)
 |cons x l=>
  refine Nb CT (by simp) fun w0 I0=>?_
  unfold B5
  simp at h ⊢
  refine⟨h,?_⟩
  have:=Qy (H:=DH [([0],{ u:=1,ob:=Ob.arr 1 (uv x::l.map uv) })]) (o:=[0]) (u:=1) (off:=0) (len:=l.length+1) (sz:=1) (xs:=uv x::l.map uv) (by simp) (by simp) (by simp[A.flat1,Bb])
  simp[Bb] at this
  exact this
theorem rJ {n:Nat} {w0:World} {I0:Nat→Prop} {Q:Exit→Sta→Prop} {l:List (List Int)} (hl:l.length*24≤140737488355328) (hb:∀ x,x ∈ l→x.length*8≤140737488355328):∀ (k i u:Nat),i+k=l.length →
  (∀ u',Q (.exit 0) ⟨lk [(3,.pob [0] 1 0),(8,RA l),(9,iv l.length),(10,iv l.length),(11,bv false)],DH [([0],⟨1,.cells [.osl [1] u' 1 0 l.length,iv 0,iv 0,iv 0]⟩),([1],⟨u',.arr 1 (l.map ws)⟩)]⟩) →
  LoopC (cx Tryz.prog w0 I0 n) Kx Q ⟨lk [(3,.pob [0] 1 0),(8,RA l),(9,iv l.length),(10,iv i)],DH [([0],⟨1,.cells [.osl [1] u 1 0 i,iv 0,iv 0,iv 0]⟩),([1],⟨u,.arr 1 ((l.map ws).take i)⟩)]⟩:=by
 intro k
 induction k with
 |zero=>
  intro i u hi hq
  have:i=l.length:=by omega
  subst this
  refine Ad Ak Kx.eq_1 ?_
  simp
  simpa[Bb] using hq u
 |succ k ih=>
  intro i u hi hq
  have hlt:i<l.length:=by omega
  refine Ad Ak Kx.eq_1 ?_
  simp[hlt]
  refine Ae (PR false _ (hb _ (BI _))).spec rfl ?_
  simp
  have h24:(i+1)*24≤140737488355328:=by omega
  refine⟨⟨by omega,h24⟩,?_⟩
  rw[Af (by omega) (by omega)]
  have:=ih (i+1) (u+1) (by omega) hq
  rw[Hj (by simpa using hlt)] at this
  simpa[List.take_take] using this
abbrev uB (l:List (List Int)) (z m u:Int):A:=.pim [RA l,iv z,iv m,iv u]
abbrev lV (l:List (List Int)):A:=uB l 0 0 0
theorem tr {H:Hp} {o:Nm} {u n:Nat} {l:List (List Int)} (h:vr (H o) u=some (1,l.map ws)) (hn:n=l.length):Jw H (.osl o u 1 0 n) (RA l):=by
 subst hn
 have:=Rn (H:=H) (o:=o) (u:=u) (off:=0) (len:=l.length) (sz:=1) (xs:=l.map ws) (by simpa using h) (by simp) (by simp[Bb])
 simp[Bb] at this
 exact this
theorem uf (l:List (List Int)) (hl:l.length*24≤140737488355328) (hb:∀ x,x ∈ l→x.length*8≤140737488355328):G.Spec Tryz.prog 43 [RA l] (lV l):=by
 refine Al cK (by simp) fun w0 I0=>?_
 unfold UN
 simp
 refine LoopC.le (Bv (d:=[0]) 0 [1] 1 rfl rfl (by simp)) ?_
 simp
 refine rJ hl hb l.length 0 1 (by omega) (fun u'=>?_)
 simp
 refine YR (by simp;rfl) ?_ (by simp)
 simp
 exact⟨tr (by simp) rfl,Ab rfl⟩
theorem cm {z m u:Int} (l:List (List Int)):G.Spec Tryz.prog 257 [uB l z m u] (iv l.length):=by
 refine Al QV (by simp) fun w0 I0=>?_
 unfold KB
 simp
 exact Ab rfl
def seg (l:List (List Int)) (s:Int):Option (List Int):=if 0≤s then l[s.toNat]? else none
def szAt (l:List (List Int)) (s:Int):Nat:=((seg l s).map List.length).getD 0
theorem PE {l:List (List Int)} {s:Int} (h0:0≤s) (h1:s<l.length):∃ h:s.toNat<l.length,seg l s=some l[s.toNat]:=by
 have:s.toNat<l.length:=by omega
 exact⟨this,by simp[seg,h0,this]⟩
theorem sy {l:List (List Int)} {s:Int} (h:s<0∨l.length≤s):seg l s=none:=by
 unfold seg
 split
 ·rw[List.getElem?_eq_none_iff];omega
 ·rfl
theorem Nc {l:List (List Int)} {s:Int} {g:List Int} (h:seg l s=some g):0≤s∧s<l.length∧∃ h:s.toNat<l.length,g=l[s.toNat]:=by
 unfold seg at h
 split at h
 ·obtain⟨h1,h2⟩:=List.getElem?_eq_some_iff.1 h
  exact⟨by assumption,by omega,h1,h2.symm⟩
 ·cases h
theorem jk {z m u:Int} (l:List (List Int)) (s:Int):G.Spec Tryz.prog 256 [uB l z m u,iv s] (iv (szAt l s)):=by
 refine Al Qj (by simp) fun w0 I0=>?_
 unfold JW
 simp
 refine C6 rfl (fun _=>cm (z:=z) (m:=m) (u:=u) l) (fun e=>by simp[e]) rfl ?_
 simp
 refine⟨fun h=>?_,fun h0 h1=>?_⟩
 ·rw[szAt,sy h]
  exact Ab rfl
 ·obtain⟨h2,e1⟩:=PE h0 h1
  simp[h0,h1,h2]
  rw[szAt,e1]
  exact Ca rfl
def FV (l:List (List Int)) (s a n:Int):Bool:=decide (0≤s∧s<l.length∧0≤a∧0≤n∧a+n≤szAt l s)
theorem Vk {z m u:Int} (l:List (List Int)) (hb:∀ x,x ∈ l→x.length*8≤140737488355328) (s a n:Int):G.Spec Tryz.prog 234 [uB l z m u,iv s,iv a,iv n] (bv (FV l s a n)):=by
 have hz:szAt l s*8≤140737488355328:=by
  unfold szAt
  cases h:seg l s with
  |none=>simp
  |some g=>
   obtain⟨_,_,h2,rfl⟩:=Nc h
   simpa using hb _ (BI h2)
 refine Al Re (by simp) fun w0 I0=>?_
 unfold KC
 simp
 refine Ae (jk l s) rfl ?_
 simp
 refine Gk rfl (fun _=>cm (z:=z) (m:=m) (u:=u) l) (fun e=>by simp[e]) rfl ?_
 simp
 refine Bl ?_
 rw[Bool.eq_iff_iff]
 simp only[Bool.and_eq_true,decide_eq_true_eq,FV]
 constructor
 ·rintro⟨⟨⟨⟨⟨h1,h2⟩,h3⟩,h4⟩,h5⟩,h6⟩
  rw[Af (by omega) (by omega)] at h6
  omega
 ·rintro⟨h1,h2,h3,h4,h5⟩
  rw[Af (by omega) (by omega)]
  omega
def B0 (l:List (List Int)) (s a:Int):Option Int:=if 0≤a then (seg l s).bind fun g=>g[a.toNat]? else none
theorem Us {l:List (List Int)} {s a:Int}:FV l s a 1=(B0 l s a).isSome:=by
 rw[Bool.eq_iff_iff]
 simp only[FV,decide_eq_true_eq]
 simp only[B0,szAt]
 constructor
 ·rintro⟨h1,h2,h3,h4,h5⟩
  obtain⟨h6,e1⟩:=PE h1 h2
  rw[e1] at h5
  simp at h5
  simp[h3,e1]
  omega
 ·intro h
  split at h
  ·rename_i h3
   cases e:seg l s with
   |none=>simp[e] at h
   |some g=>
    obtain⟨k1,k2,_⟩:=Nc e
    simp[e] at h
    simp
    omega
  ·simp at h
theorem Ew {l:List (List Int)} {s a x:Int} (h:B0 l s a=some x):0≤s∧s<l.length∧0≤a∧∃ (h1:s.toNat<l.length) (h2:a.toNat<l[s.toNat].length),x=l[s.toNat][a.toNat]:=by
 unfold B0 at h
 split at h
 ·rename_i h3
  cases e:seg l s with
  |none=>simp[e] at h
  |some g=>
   obtain⟨k1,k2,k3,rfl⟩:=Nc e
   simp only[e,Option.bind_some] at h
   obtain⟨h1,h2⟩:=List.getElem?_eq_some_iff.1 h
   exact⟨k1,k2,h3,k3,h1,h2.symm⟩
 ·cases h
theorem Na {z m u:Int} (l:List (List Int)) (hb:∀ x,x ∈ l→x.length*8≤140737488355328) (s a:Int):G.Spec Tryz.prog 198 [uB l z m u,iv s,iv a] (.tup [uv ((B0 l s a).getD 0),bv (B0 l s a).isSome]):=by
 refine Al QA (by simp) fun w0 I0=>?_
 unfold KH
 simp
 refine Ae (Vk l hb s a 1) rfl ?_
 simp[Us]
 cases h:B0 l s a with
 |none=>
  simp
  exact Ab rfl
 |some x=>
  obtain⟨k1,k2,k3,k4,k5,rfl⟩:=Ew h
  have k6:a<l[s.toNat].length:=by omega
  simp[k1,k2,k3,k4,k5,k6]
  exact Ab rfl
def part (l:List (List Int)) (s a n:Int):List Int:=(((seg l s).getD []).drop a.toNat).take n.toNat
theorem LN {l:List (List Int)} {s a n:Int} (h:FV l s a n=true):0≤s∧s<l.length∧0≤a∧0≤n∧∃ h:s.toNat<l.length,seg l s=some l[s.toNat]∧a+n≤l[s.toNat].length:=by
 simp only[FV,decide_eq_true_eq] at h
 obtain⟨h1,h2,h3,h4,h5⟩:=h
 obtain⟨h6,e1⟩:=PE h1 h2
 rw[szAt,e1] at h5
 exact⟨h1,h2,h3,h4,h6,e1,h5⟩
theorem js {z m u:Int} (l:List (List Int)) (hb:∀ x,x ∈ l→x.length*8≤140737488355328) (s a n:Int):G.Spec Tryz.prog 245 [uB l z m u,iv s,iv a,iv n] (if FV l s a n=true then .tup [ws (part l s a n),bv true] else .tup [ws [],bv false]):=by
 refine Al Qd (by simp) fun w0 I0=>?_
 unfold J3
 simp
 refine Ae (Vk l hb s a n) rfl ?_
 cases h:FV l s a n with
 |false=>
  simp
  refine F5 ?_
  simp
  exact⟨An,Ab rfl⟩
 |true=>
  obtain⟨h1,h2,h3,h4,h5,e1,h6⟩:=LN h
  have hg:=hb _ (BI h5)
  simp[h1,h2,h5]
  rw[Af (by omega) (by omega)]
  have h7:0≤a+n:=by omega
  have h8:a≤max (a+n) 0:=by omega
  simp[h3,h6,h7,h4,h8]
  have e:List.take ((a+n).toNat-a.toNat) (List.drop a.toNat (List.map uv l[s.toNat]))=(part l s a n).map uv:=by
   rw[part,e1,show(a+n).toNat-a.toNat=n.toNat from by omega]
   simp
  rw[e]
  have hl:(part l s a n).length*8≤140737488355328:=by
   rw[part,e1]
   simp
   omega
  refine Ae (PR _ _ hl).spec rfl ?_
  simp
  exact Ab rfl
def D7 (c:Int):Int:=if c=0 then 0 else if c=1 then 1 else if c=2 then 8 else if c=3 then 16 else if c=4 then 32 else 64
def Bz (p:Pt):Option Int:=
 if p.kind=1 then some (p.data+p.ptrs)
 else if p.kind=2∧p.code=7 then some (p.count+1)
 else if p.kind=2∧0≤p.code∧p.code≤6∧0≤p.count∧p.count≤536870911 then some ((p.count*D7 p.code+63) / 64)
 else none
def Zd (p:Pt):Prop:=-9223372036854775808≤p.data+p.ptrs∧p.data+p.ptrs<9223372036854775808∧-9223372036854775808≤p.count+1∧p.count+1<9223372036854775808
set_option maxRecDepth 8000 in
theorem fE (p:Pt) (hs:Zd p):G.Spec Tryz.prog 267 [p.a] (.tup [iv ((Bz p).getD 0),bv (Bz p).isSome]):=by
 obtain⟨s1,s2,s3,s4⟩:=hs
 refine Al TA (by simp) fun w0 I0=>?_
 unfold MI
 simp
 refine⟨fun h=>?_,fun h=>⟨fun h2 h3=>?_,fun h2=>?_⟩⟩
 ·rw[Af s1 s2]
  refine Ao rfl ?_
  simp[Bz,h]
 ·rw[Af s3 s4]
  refine Ao rfl ?_
  simp[Bz,h,h2,h3]
 ·refine Gk rfl (fun _=>SX p.code 6) (fun e=>by simp[e]) rfl ?_
  simp
  refine Gk rfl (fun _=>SX p.count 536870911) (fun e=>by simp[e]) rfl ?_
  simp
  refine⟨fun a1 a2 a3 a4 a5=>?_,fun hn=>?_⟩
  ·obtain⟨k,o,d,q,co,n,sg,b⟩:=p
   simp only at *
   have hc:co=0∨co=1∨co=2∨co=3∨co=4∨co=5∨co=6:=by omega
   rcases hc with rfl | rfl | rfl | rfl | rfl | rfl | rfl
   all_goals
    simp
    simp (disch:=omega) only[Af,Int.tdiv_eq_ediv_of_nonneg]
    refine Ao rfl ?_
    simp[Bz,a1,a4,a5,D7]
  ·refine Ao rfl ?_
   have e:Bz p=none:=by
    rw[Bz,if_neg h,if_neg (fun ⟨h3,h4⟩=>h2 h3 h4),if_neg (fun ⟨b1,b2,b3,b4,b5⟩=>by have:=hn b1 b2 b3 b4;omega)]
   simp[e]
structure Lc where
 p:Pt
 s:Int
 at_:Int
deriving DecidableEq
def Pt.l (p:Pt):List A:=[iv p.kind,iv p.off,iv p.data,iv p.ptrs,iv p.code,iv p.count,iv p.seg,bv p.dbl]
@[simp] theorem Pt.l_eq (p:Pt):p.l=[iv p.kind,iv p.off,iv p.data,iv p.ptrs,iv p.code,iv p.count,iv p.seg,bv p.dbl]:=rfl
def Pt.zero:Pt:=⟨0,0,0,0,0,0,0,false⟩
def Lc.zero:Lc:=⟨Pt.zero,0,0⟩
abbrev Lc.a (x:Lc):A:=.agg [iv x.p.kind,iv x.p.off,iv x.p.data,iv x.p.ptrs,iv x.p.code,iv x.p.count,iv x.p.seg,bv x.p.dbl,iv x.s,iv x.at_]
def CE (l:List (List Int)) (x:Lc):Lc × Int:=if FV l x.s x.at_ ((Bz x.p).getD 0)=true then (⟨{ x.p with off:=0 },x.s,x.at_⟩,0) else (Lc.zero,7)
theorem Nv (l:List (List Int)) (hb:∀ x,x ∈ l→x.length*8≤140737488355328) (x:Lc) (hs:Zd x.p):G.Spec Tryz.prog 244 [lV l,x.a] (.tup [(CE l x).1.a,iv (CE l x).2]):=by
 refine Al YW (by simp) fun w0 I0=>?_
 unfold Rc
 simp
 refine Ae (fE x.p hs) rfl ?_
 simp
 refine Ae (Vk l hb _ _ _) rfl ?_
 simp
 refine⟨fun h=>?_,fun h=>?_⟩
 ·refine Ao rfl ?_
  simp[CE,h]
 ·refine Ao rfl ?_
  simp[CE,h,Lc.zero,Pt.zero]
def FH (l:List (List Int)) (p:Pt) (s a:Int):Lc × Int:=
 if p.kind=1∨p.kind=2 then CE l ⟨p,s,a+1+p.off⟩ else if p.kind=4 then (Lc.zero,9) else (Lc.zero,8)
theorem Pc (l:List (List Int)) (hb:∀ x,x ∈ l→x.length*8≤140737488355328) (p:Pt) (s a:Int) (hs:Zd p) (h1:-1000000000000000000≤a) (h2:a≤1000000000000000000) (h3:-1000000000000000000≤p.off) (h4:p.off≤1000000000000000000) :
  G.Spec Tryz.prog 205 [lV l,p.a,iv s,iv a] (.tup [(FH l p s a).1.a,iv (FH l p s a).2]):=by
 refine Al dN (by simp) fun w0 I0=>?_
 unfold U6
 simp
 have go:p.kind=1∨p.kind=2→FH l p s a=CE l ⟨p,s,a+1+p.off⟩:=fun h=>by rw[FH,if_pos h]
 refine⟨fun h=>?_,fun h=>?_⟩
 ·have hd:decide (p.kind=1)=true:=by simp[h]
  rw[N0.eq_1]
  simp[hd]
  simp (disch:=omega) only[Af]
  refine Ae (Nv l hb ⟨p,s,a+1+p.off⟩ hs) rfl ?_
  simp
  rw[go (.inl h)]
  exact Ab rfl
 ·rw[N0.eq_1]
  simp
  refine⟨fun h2=>?_,fun h2=>⟨fun h4=>?_,fun h4=>?_⟩⟩
  ·simp (disch:=omega) only[Af]
   refine Ae (Nv l hb ⟨p,s,a+1+p.off⟩ hs) rfl ?_
   simp
   rw[go (.inr h2)]
   exact Ab rfl
  ·refine Ao rfl ?_
   simp[FH,h4,Lc.zero,Pt.zero]
  ·refine Ao rfl ?_
   simp[FH,h,h2,h4,Lc.zero,Pt.zero]
def Zu (l:List (List Int)):Prop:=∀ x,x ∈ l→∀ y,y ∈ x→0≤y∧y<18446744073709551616
theorem LJ {w:Int} (h0:0≤w) (h1:w<18446744073709551616):Zd (CW w):=by
 unfold Zd CW
 repeat' split
 all_goals simp only
 all_goals omega
theorem Mj {w:Int} (h0:0≤w) (h1:w<18446744073709551616):-536870912≤(CW w).off∧(CW w).off≤536870912∧0≤(CW w).seg∧(CW w).seg<4294967296:=by
 obtain⟨o1,o2,_⟩:=gx w
 unfold CW
 repeat' split
 all_goals simp only
 all_goals omega
theorem DV {l:List (List Int)} (hw:Zu l) {s a x:Int} (h:B0 l s a=some x):0≤x∧x<18446744073709551616:=by
 obtain⟨_,_,_,h1,h2,rfl⟩:=Ew h
 exact hw _ (BI h1) _ (BI h2)
def D3 (l:List (List Int)) (s a:Int):Lc × Int:=
 match B0 l s a,B0 l s (a+1) with
 |some v,some w=>
  if (CW v).kind ≠ 3∨(CW v).dbl=true then (Lc.zero,8)
  else if (CW w).kind=4 then (Lc.zero,9)
  else if ((CW w).kind ≠ 1∧(CW w).kind ≠ 2)∨(CW w).off ≠ 0 then (Lc.zero,8)
  else CE l ⟨CW w,(CW v).seg,(CW v).off⟩
 |_,_=>(Lc.zero,7)
theorem qt {l:List (List Int)} {s a:Int}:FV l s a 2=((B0 l s a).isSome&&(B0 l s (a+1)).isSome):=by
 rw[← Us,← Us,Bool.eq_iff_iff]
 simp only[FV,Bool.and_eq_true,decide_eq_true_eq]
 omega
theorem mP {l:List (List Int)} {s a v w:Int} (h1:B0 l s a=some v) (h2:B0 l s (a+1)=some w):part l s a 2=[v,w]:=by
 obtain⟨k1,k2,k3,k4,k5,rfl⟩:=Ew h1
 obtain⟨_,_,k6,_,k7,rfl⟩:=Ew h2
 obtain⟨_,e⟩:=PE k1 k2
 have e1:(a+1).toNat=a.toNat+1:=by omega
 simp only[e1] at k7
 rw[part,e]
 simp only[Option.getD_some,e1]
 rw[List.drop_eq_getElem_cons k5,List.drop_eq_getElem_cons k7]
 rfl
theorem bh (l:List (List Int)) (hb:∀ x,x ∈ l→x.length*8≤140737488355328) (hw:Zu l) (s a:Int) :
  G.Spec Tryz.prog 206 [lV l,iv s,iv a] (.tup [(D3 l s a).1.a,iv (D3 l s a).2]):=by
 refine Al YS (by simp) fun w0 I0=>?_
 unfold QD
 simp
 refine Ae (js l hb s a 2) rfl ?_
 rw[qt]
 cases h1:B0 l s a with
 |none=>
  simp
  refine Ao rfl ?_
  simp[D3,h1,Lc.zero,Pt.zero]
 |some v=>
  cases h2:B0 l s (a+1) with
  |none=>
   simp
   refine Ao rfl ?_
   simp[D3,h1,h2,Lc.zero,Pt.zero]
  |some w=>
   obtain⟨v0,v1⟩:=DV hw h1
   obtain⟨w0',w1⟩:=DV hw h2
   rw[mP h1 h2]
   simp
   refine Ae (H6 v0 v1) rfl ?_
   simp
   refine Ae (H6 w0' w1) rfl ?_
   simp
   have hs:=LJ w0' w1
   generalize hv:CW v=p
   generalize hq:CW w=q at hs
   have e:D3 l s a=if p.kind ≠ 3∨p.dbl=true then (Lc.zero,8) else if q.kind=4 then (Lc.zero,9) else if (q.kind ≠ 1∧q.kind ≠ 2)∨q.off ≠ 0 then (Lc.zero,8) else CE l ⟨q,p.seg,p.off⟩:=by
    simp only[D3,h1,h2,hv,hq]
   refine⟨fun h=>?_,fun a1 a2=>⟨fun h3=>?_,fun h3=>⟨fun h4=>?_,fun h4 h5=>?_⟩⟩⟩
   ·rw[e,if_pos h]
    exact Ab rfl
   ·rw[e,if_neg (by simp[a1,a2]),if_pos h3]
    exact Ab rfl
   ·rw[e,if_neg (by simp[a1,a2]),if_neg h3,if_pos (by simpa using h4)]
    exact Ab rfl
   ·refine Ae (Nv l hb ⟨q,p.seg,p.off⟩ hs) rfl ?_
    simp
    rw[e,if_neg (by simp[a1,a2]),if_neg h3,if_neg (by simp[h5];omega)]
    exact Ab rfl
def BP (l:List (List Int)) (s a:Int):Lc × Int:=
 match B0 l s a with
 |none=>(Lc.zero,7)
 |some w=>
  if (CW w).kind=0 then (Lc.zero,0)
  else if (CW w).kind ≠ 3 then FH l (CW w) s a
  else if (CW w).dbl=true then D3 l (CW w).seg (CW w).off
  else match B0 l (CW w).seg (CW w).off with
   |none=>(Lc.zero,7)
   |some v=>FH l (CW v) (CW w).seg (CW w).off
theorem ZM (l:List (List Int)) (hb:∀ x,x ∈ l→x.length*8≤140737488355328) (hw:Zu l) (s a:Int) :
  G.Spec Tryz.prog 157 [lV l,iv s,iv a] (.tup [(BP l s a).1.a,iv (BP l s a).2]):=by
 refine Al Zs (by simp) fun w0 I0=>?_
 unfold QO
 simp
 refine Ae (Na l hb s a) rfl ?_
 simp
 cases h1:B0 l s a with
 |none=>
  simp
  refine Ao rfl ?_
  simp[BP,h1,Lc.zero,Pt.zero]
 |some w=>
  obtain⟨k1,k2,k3,k4,k5,_⟩:=Ew h1
  have hla:=hb _ (BI k4)
  obtain⟨v0,v1⟩:=DV hw h1
  simp
  refine Ae (H6 v0 v1) rfl ?_
  simp
  have hs:=LJ v0 v1
  obtain⟨o1,o2,o3,o4⟩:=Mj v0 v1
  generalize hv:CW w=p at *
  have e:BP l s a=if p.kind=0 then (Lc.zero,0) else if p.kind ≠ 3 then FH l p s a else if p.dbl=true then D3 l p.seg p.off else match B0 l p.seg p.off with | none=>(Lc.zero,7) | some v=>FH l (CW v) p.seg p.off:=by
   simp only[BP,h1,hv]
  refine⟨fun h0=>?_,fun h0=>⟨fun h3=>⟨fun hd=>?_,fun hd=>?_⟩,fun h3=>?_⟩⟩
  ·rw[e,if_pos h0]
   exact Ab rfl
  ·refine Ae (bh l hb hw p.seg p.off) rfl ?_
   simp
   rw[e,if_neg h0,if_neg (by simp[h3]),if_pos hd]
   exact Ab rfl
  ·rw[if_neg h0,if_neg (by simp[h3]),if_neg (by simp[hd])] at e
   refine Ae (Na l hb p.seg p.off) rfl ?_
   simp
   cases h2:B0 l p.seg p.off with
   |none=>
    simp[h2] at e
    simp
    rw[e]
    exact Ab rfl
   |some v=>
    simp[h2] at e
    simp
    obtain⟨j0,j1⟩:=DV hw h2
    obtain⟨q1,q2,q3,q4⟩:=Mj j0 j1
    refine Ae (H6 j0 j1) rfl ?_
    simp
    refine Ae (Pc l hb (CW v) p.seg p.off (LJ j0 j1) (by omega) (by omega) (by omega) (by omega)) rfl ?_
    simp
    rw[e]
    exact Ab rfl
  ·refine Ae (Pc l hb p s a hs (by omega) (by omega) (by omega) (by omega)) rfl ?_
   simp
   rw[e,if_neg h0,if_pos (by simpa using h3)]
   exact Ab rfl
end Go.Proofs.YtbjmaoedheiigaaGreat
namespace Go.Proofs.YtbjmaoedheiigaaGreat
set_option maxRecDepth 20000
open Go Go.G Go.Proofs
@[simp] theorem Aij:Tryz.prog.underlying 4=some .bool:=by kernel_rfl
@[simp] theorem AhT:Tryz.prog.underlying 23=some (.slice 25):=by kernel_rfl
@[simp] theorem Ahb:CI Tryz.prog 23=some 1:=by kernel_rfl
@[simp] theorem Ahy:CI Tryz.prog 25=some 3:=by kernel_rfl
@[simp] theorem AfO:C5 Tryz.prog 23=some false:=by kernel_rfl
@[simp] theorem AfM:C5 Tryz.prog 25=some true:=by kernel_rfl
@[simp] theorem Ack:Bn Tryz.prog 25=some (Value.agg #[Value.int IntKind.i64 0,Value.slice none 0 0,Value.slice none 0 0]):=by kernel_rfl
@[simp] theorem zI:BJ Tryz.prog 25=some 56:=by kernel_rfl
@[simp] theorem pY:Aj Tryz.prog 25 0=some 0:=by kernel_rfl
@[simp] theorem nD:Aj Tryz.prog 25 1=some 1:=by kernel_rfl
@[simp] theorem pF:Aj Tryz.prog 25 2=some 2:=by kernel_rfl
@[simp] theorem Aav (ps:List (Nat × A)):Bs Tryz.prog 25 ps=(BW (fun i=>([(0,1),(1,1),(2,1)]:List (Nat × Nat))[i]?) [A.v (Value.int IntKind.i64 0),A.sl true [],A.sl true []] ps).map A.agg:=by kernel_rfl
def Cn:CC:=.seq (sR [mO 78 5,fO 79 25 2 2,lO 80 23 79,oO 81 (bL 80 23),oO 82 (bO .lss 3 78 81 3)] [1,2,5,82] (cD 82 (.skip) (.exit 0))) (.keep [1,2,5] (.seq (.block 1 (sR [fO 85 25 2 2,lO 86 23 85,mO 87 5,oO 88 (iA 23 86 87),lO 89 25 88,oN 6 (.alloc 25) [1],oS (.store 25 (xT 6) (xT 89))] [1,2,5,6] (.seq (sR [lO 90 25 6,mO 91 1,oO 92 (.binOp .sub 3 (xT 91) (nI 1) 3),oO 93 (cL 28 #[(xT 90),(xT 92)] #[25,3]),oO 94 (.unOp .not 4 (xT 93))] [1,2,5,6,94] (cD 94 (sR [oO 4 (.assign (nB false))] [4] (.ret)) (.skip))) (.keep [1,2,5,6] (sR [fO 95 25 2 0,lO 96 3 95,oO 97 (.binOp .geq 3 (xT 96) (nI 2) 3),mO 98 97,oG 99 (fA 25 2 0) 98 true,oG 100 (lD 3 99) 98 true,oG 101 (.binOp .leq 3 (xT 100) (nI 7) 3) 98 true,oO 102 (.pick (xT 98) (xT 101) (nB false)),aO 7 102] [1,2,5,6,7] (sR [mO 103 7,fO 104 25 6 0,lO 105 3 104,oO 106 (.binOp .eql 3 (xT 105) (nI 10) 3),oO 107 (bO .neq 4 103 106 4),mO 108 107,oG 109 (fA 25 2 0) 108 false,oG 110 (lD 3 109) 108 false,oG 111 (.binOp .eql 3 (xT 110) (nI 9) 3) 108 false,oG 112 (mV 111) 108 false,oG 113 (fA 25 6 0) 112 true,oG 114 (lD 3 113) 112 true,oG 115 (.binOp .neq 3 (xT 114) (nI 1) 3) 112 true,oG 116 (.pick (xT 112) (xT 115) (nB false)) 108 false,oO 117 (.pick (xT 108) (nB true) (xT 116)),mO 118 117,oG 119 (mV 7) 118 false,oG 120 (mV 119) 118 false,oG 121 (fA 25 2 0) 120 true,oG 122 (lD 3 121) 120 true,oG 123 (.binOp .sub 3 (xT 122) (nI 2) 3) 120 true,oG 124 (fA 25 6 1) 120 true,oG 125 (lD 22 124) 120 true,oG 126 (.indexAddr 22 (xT 125) (nI 0)) 120 true,oG 127 (lD 51 126) 120 true,oG 128 (cL 57 #[(xT 123),(xT 127)] #[3,51]) 120 true,oG 129 (.unOp .not 4 (xT 128)) 120 true,oG 130 (.pick (xT 120) (xT 129) (nB false)) 118 false,oO 131 (.pick (xT 118) (nB true) (xT 130))] [1,2,5,131] (cD 131 (sR [oO 4 (.assign (nB false))] [4] (.ret)) (.skip)))))))) (.keep [1,2,5] (.reg [mO 83 5,oO 84 (.binOp .add 3 (xT 83) (nI 1) 3),aO 5 84] [1,2,5])))) 
def JD:CC:=sR [oN 2 (.box 25 (xT 0)) [0],oO 4 (.assign (nB false))] [1,2] (.seq (sR [fO 8 25 2 0,lO 9 3 8,oO 10 (.binOp .eql 3 (xT 9) (nI 0) 3)] [1,2,10] (cD 10 (sR [fO 11 25 2 1,lO 12 22 11,oO 13 (bL 12 22),oO 14 (.binOp .eql 3 (xT 13) (nI 0) 3),mO 15 14,oG 16 (fA 25 2 2) 15 true,oG 17 (lD 23 16) 15 true,oG 18 (bL 17 23) 15 true,oG 19 (.binOp .eql 3 (xT 18) (nI 0) 3) 15 true,oO 20 (.pick (xT 15) (xT 19) (nB false)),aO 4 20] [4] (.ret)) (.skip))) (.keep [1,2] (.seq (sR [fO 21 25 2 0,lO 22 3 21,oO 23 (.binOp .eql 3 (xT 22) (nI 10) 3)] [1,2,23] (cD 23 (sR [fO 24 25 2 1,lO 25 22 24,oO 26 (bL 25 22),oO 27 (.binOp .eql 3 (xT 26) (nI 1) 3),mO 28 27,oG 29 (fA 25 2 2) 28 true,oG 30 (lD 23 29) 28 true,oG 31 (bL 30 23) 28 true,oG 32 (.binOp .eql 3 (xT 31) (nI 0) 3) 28 true,oO 33 (.pick (xT 28) (xT 32) (nB false)),aO 4 33] [4] (.ret)) (.skip))) (.keep [1,2] (.seq (sR [fO 34 25 2 0,lO 35 3 34,oO 36 (.binOp .lss 3 (xT 35) (nI 0) 3),mO 37 36,oG 38 (fA 25 2 0) 37 false,oG 39 (lD 3 38) 37 false,oG 40 (.binOp .gtr 3 (xT 39) (nI 10) 3) 37 false,oO 41 (.pick (xT 37) (nB true) (xT 40)),mO 42 41,oG 43 (mV 1) 42 false,oG 44 (.binOp .eql 3 (xT 43) (nI 0) 3) 42 false,oO 45 (.pick (xT 42) (nB true) (xT 44)),mO 46 45,oG 47 (fA 25 2 1) 46 false,oG 48 (lD 22 47) 46 false,oG 49 (bL 48 22) 46 false,oG 50 (.binOp .geq 3 (xT 49) (nI 65536) 3) 46 false,oO 51 (.pick (xT 46) (nB true) (xT 50)),mO 52 51,oG 53 (fA 25 2 0) 52 false,oG 54 (lD 3 53) 52 false,oG 55 (.binOp .eql 3 (xT 54) (nI 1) 3) 52 false,oG 56 (mV 55) 52 false,oG 57 (fA 25 2 2) 56 true,oG 58 (lD 23 57) 56 true,oG 59 (bL 58 23) 56 true,oG 60 (.binOp .geq 3 (xT 59) (nI 65536) 3) 56 true,oG 61 (.pick (xT 56) (xT 60) (nB false)) 52 false,oO 62 (.pick (xT 52) (nB true) (xT 61)),mO 63 62,oG 64 (fA 25 2 2) 63 false,oG 65 (lD 23 64) 63 false,oG 66 (bL 65 23) 63 false,oG 67 (.binOp .geq 3 (xT 66) (nI 1048576) 3) 63 false,oO 68 (.pick (xT 63) (nB true) (xT 67))] [1,2,68] (cD 68 (sR [oO 4 (.assign (nB false))] [4] (.ret)) (.skip))) (.keep [1,2] (.seq (sR [fO 69 25 2 0,lO 70 3 69,oO 71 (.binOp .gtr 3 (xT 70) (nI 1) 3),mO 72 71,oG 73 (fA 25 2 1) 72 true,oG 74 (lD 22 73) 72 true,oG 75 (bL 74 22) 72 true,oG 76 (.binOp .gtr 3 (xT 75) (nI 0) 3) 72 true,oO 77 (.pick (xT 72) (xT 76) (nB false))] [1,2,77] (cD 77 (sR [oO 4 (.assign (nB false))] [4] (.ret)) (.skip))) (.keep [1,2] (.seq (sR [oO 5 (.assign (nI 0))] [1,2,5] (.block 0 (.loop Cn))) (.keep [] (sR [oO 4 (.assign (nB true))] [4] (.ret))))))))))))
theorem Ql:Bh Tryz.prog 28 132 [(.tmp 4)] JD:=Au Tryz.func28
def Ep:CC:=.seq (sR [mO 12 5,fO 13 25 1 2,lO 14 23 13,oO 15 (bL 14 23),oO 16 (bO .lss 3 12 15 3)] [1,2,3,4,5,16] (cD 16 (.skip) (.exit 0))) (.keep [1,2,3,4,5] (.seq (.block 1 (sR [fO 19 25 1 2,lO 20 23 19,mO 21 5,oO 22 (iA 23 20 21),lO 23 25 22,oO 24 (cL 32 #[(xT 23)] #[25]),oN 6 (.alloc 25) [2],oS (.store 25 (xT 6) (xT 24))] [1,2,3,4,5,6] (sR [mO 25 3,lO 26 25 6,oO 27 (.buildSlice 23 1 #[(0,(xT 26))]),oN 28 (bC .append #[(xT 25),(xT 27)] #[23,23]) [3],aO 3 28] [1,2,3,4,5,6] (sR [fO 29 25 6 0,lO 30 3 29,oO 31 (.binOp .neq 3 (xT 30) (nI 0) 3)] [1,2,3,4,5,31] (cD 31 (.reg [mO 32 5,oO 33 (.binOp .add 3 (xT 32) (nI 1) 3),aO 4 33] [1,2,3,4,5]) (.skip)))))) (.keep [1,2,3,4,5] (.reg [mO 17 5,oO 18 (.binOp .add 3 (xT 17) (nI 1) 3),aO 5 18] [1,2,3,4,5])))) 
def Kj:CC:=sR [oN 1 (.box 25 (xT 0)) [0],oN 2 (.alloc 25) [1]] [1,2] (.seq (sR [fO 8 25 1 0,lO 9 3 8,oO 10 (.binOp .eql 3 (xT 9) (nI 0) 3)] [1,2,10] (cD 10 (sR [oO 11 (.build 25 #[]),oS (.store 25 (xT 2) (xT 11))] [2] (.ret)) (.skip))) (.keep [1,2] (sR [oO 3 (.assign nS)] [1,2,3] (sR [oO 4 (.assign (nI 0))] [1,2,3,4] (.seq (sR [oO 5 (.assign (nI 0))] [1,2,3,4,5] (.block 0 (.loop Ep))) (.keep [1,2,3,4] (.seq (sR [fO 34 25 1 0,lO 35 3 34,oO 36 (.binOp .eql 3 (xT 35) (nI 1) 3)] [1,2,3,4,36] (cD 36 (sR [fO 37 25 1 1,lO 38 22 37,oO 39 (cL 64 #[(xT 38)] #[22]),mO 40 3,mO 41 4,oO 42 (.slice 23 (xT 40) none (some (xT 41)) none),oO 43 (.build 25 #[(0,(nI 1)),(1,(xT 39)),(2,(xT 42))]),oS (.store 25 (xT 2) (xT 43))] [2] (.ret)) (.skip))) (.keep [1,2,3] (sR [oO 7 (.assign nS)] [1,2,3,7] (sR [mO 44 7,fO 45 25 1 1,lO 46 22 45,oN 47 (bC .append #[(xT 44),(xT 46)] #[22,22]) [4],aO 7 47] [1,2,3,7] (sR [fO 48 25 1 0,lO 49 3 48,mO 50 7,mO 51 3,oO 52 (.build 25 #[(0,(xT 49)),(1,(xT 50)),(2,(xT 51))]),oS (.store 25 (xT 2) (xT 52))] [2] (.ret))))))))))))
theorem Ry:Bh Tryz.prog 32 53 [(.cell 2 25)] Kj:=Au Tryz.func32
def IU:CC:=sR [fO 30 25 1 2,lO 31 23 30,mO 32 6,oO 33 (iA 23 31 32),fO 34 25 33 2,lO 35 23 34,oO 36 (bL 35 23),mO 37 5,oO 38 (bO .gtr 3 36 37 3)] [1,4,5,6,38] (cD 38 (.reg [fO 39 25 1 2,lO 40 23 39,mO 41 6,oO 42 (iA 23 40 41),fO 43 25 42 2,lO 44 23 43,oO 45 (bL 44 23),aO 5 45] [1,4,5,6]) (.skip))
def DY:CC:=.seq (sR [mO 7 6,fO 8 25 1 2,lO 9 23 8,oO 10 (bL 9 23),oO 11 (bO .lss 3 7 10 3)] [1,4,5,6,11] (cD 11 (.skip) (.exit 0))) (.keep [1,4,5,6] (.seq (.block 1 (.seq (sR [fO 14 25 1 2,lO 15 23 14,mO 16 6,oO 17 (iA 23 15 16),fO 18 25 17 1,lO 19 22 18,oO 20 (bL 19 22),mO 21 4,oO 22 (bO .gtr 3 20 21 3)] [1,4,5,6,22] (cD 22 (.reg [fO 23 25 1 2,lO 24 23 23,mO 25 6,oO 26 (iA 23 24 25),fO 27 25 26 1,lO 28 22 27,oO 29 (bL 28 22),aO 4 29] [1,4,5,6]) (.skip))) (.keep [1,4,5,6] IU))) (.keep [1,4,5,6] (.reg [mO 12 6,oO 13 (.binOp .add 3 (xT 12) (nI 1) 3),aO 6 13] [1,4,5,6])))) 
def J6:CC:=sR [oN 1 (.box 25 (xT 0)) [0],oO 2 (.assign (nI 0)),oO 3 (.assign (nI 0))] [1] (sR [oO 4 (.assign (nI 0)),oO 5 (.assign (nI 0))] [1,4,5] (.seq (sR [oO 6 (.assign (nI 0))] [1,4,5,6] (.block 0 (.loop DY))) (.keep [4,5] (sR [mO 46 4,mO 47 5,aO 2 46,aO 3 47] [2,3] (.ret)))))
theorem P1:Bh Tryz.prog 66 48 [(.tmp 2),(.tmp 3)] J6:=Au Tryz.func66
def Dc:CC:=.seq (sR [mO 20 7,fO 21 25 3 2,lO 22 23 21,oO 23 (bL 22 23),oO 24 (bO .lss 3 20 23 3),mO 25 24,oG 26 (mV 2) 25 true,oG 27 (.binOp .geq 3 (xT 26) (nI 0) 3) 25 true,oO 28 (.pick (xT 25) (xT 27) (nB false))] [1,2,3,7,28] (cD 28 (.skip) (.exit 0))) (.keep [1,2,3,7] (.seq (.block 1 (.reg [fO 31 25 3 2,lO 32 23 31,mO 33 7,oO 34 (iA 23 32 33),lO 35 25 34,mO 36 1,oO 37 (.binOp .sub 3 (xT 36) (nI 1) 3),mO 38 2,oO 39 (cL 27 #[(xT 35),(xT 37),(xT 38)] #[25,3,3]),aO 2 39] [1,2,3,7])) (.reg [mO 29 7,oO 30 (.binOp .add 3 (xT 29) (nI 1) 3),aO 7 30] [1,2,3,7]))) 
def Ix:CC:=sR [oN 3 (.box 25 (xT 0)) [0],oO 6 (.assign (nI 0))] [1,2,3] (sR [mO 8 2,oO 9 (.binOp .sub 3 (xT 8) (nI 1) 3),fO 10 25 3 1,lO 11 22 10,oO 12 (bL 11 22),oO 13 (bO .sub 3 9 12 3),aO 2 13] [1,2,3] (.seq (sR [mO 14 1,oO 15 (.binOp .eql 3 (xT 14) (nI 0) 3),mO 16 15,oG 17 (mV 2) 16 false,oG 18 (.binOp .lss 3 (xT 17) (nI 0) 3) 16 false,oO 19 (.pick (xT 16) (nB true) (xT 18))] [1,2,3,19] (cD 19 (sR [oO 6 (.assign (.const (.int .i64 (-1))))] [6] (.ret)) (.skip))) (.keep [1,2,3] (.seq (sR [oO 7 (.assign (nI 0))] [1,2,3,7] (.block 0 (.loop Dc))) (.keep [2] (sR [mO 40 2,aO 6 40] [6] (.ret)))))))
theorem M4:Bh Tryz.prog 27 41 [(.tmp 6)] Ix:=Au Tryz.func27
def Js:CC:=sR [oO 20 (bO .lss 3 19 18 3)] [1,2,3,17,18,19,20] (.seq (cD 20 (.skip) (.exit 0)) (.keep [1,2,3,17,18,19] (.seq (.block 1 (sR [oO 21 (iA 23 17 19),lO 22 25 21,oN 5 (.alloc 25) [3],oS (.store 25 (xT 5) (xT 22))] [1,2,3,5,17,18,19] (.reg [fO 23 25 3 2,⟨some 24,(lD 23 23),none,[],1,[],true⟩,lO 25 25 5,⟨some 26,(cL 31 #[(xT 25)] #[25]),none,[],3,[1],false⟩,⟨some 27,(.buildSlice 23 1 #[(0,(xT 26))]),none,[],4,[1],false⟩,oN 28 (bC .append #[(xT 24),(xT 27)] #[23,23]) [4],fO 29 25 3 2,oS (.store 23 (xT 29) (xT 28))] [1,2,3,17,18,19]))) (.reg [oO 30 (.binOp .add 3 (xT 19) (nI 1) 3),mO 19 30] [1,2,3,17,18,19]))))
def Jm:CC:=.seq (sR [fO 34 25 3 1,lO 35 22 34,oO 36 (bL 35 22),oO 37 (.binOp .gtr 3 (xT 36) (nI 0) 3),mO 38 37,oG 39 (fA 25 3 1) 38 true,oG 40 (lD 22 39) 38 true,oG 41 (fA 25 3 1) 38 true,oG 42 (lD 22 41) 38 true,oG 43 (bL 42 22) 38 true,oG 44 (.binOp .sub 3 (xT 43) (nI 1) 3) 38 true,oG 45 (iA 22 40 44) 38 true,oG 46 (lD 51 45) 38 true,oG 47 (.binOp .eql 51 (xT 46) (.const (.int .u64 0)) 51) 38 true,oO 48 (.pick (xT 38) (xT 47) (nB false))] [2,3,48] (cD 48 (.skip) (.exit 2))) (.keep [2,3] (.block 3 (.reg [fO 49 25 3 1,lO 50 22 49,fO 51 25 3 1,lO 52 22 51,oO 53 (bL 52 22),oO 54 (.binOp .sub 3 (xT 53) (nI 1) 3),oO 55 (.slice 22 (xT 50) none (some (xT 54)) none),fO 56 25 3 1,oS (.store 22 (xT 56) (xT 55))] [2,3])))
def Jo:CC:=.seq (sR [fO 57 25 3 2,lO 58 23 57,oO 59 (bL 58 23),oO 60 (.binOp .gtr 3 (xT 59) (nI 0) 3),mO 61 60,oG 62 (fA 25 3 2) 61 true,oG 63 (lD 23 62) 61 true,oG 64 (fA 25 3 2) 61 true,oG 65 (lD 23 64) 61 true,oG 66 (bL 65 23) 61 true,oG 67 (.binOp .sub 3 (xT 66) (nI 1) 3) 61 true,oG 68 (iA 23 63 67) 61 true,oG 69 (fA 25 68 0) 61 true,oG 70 (lD 3 69) 61 true,oG 71 (.binOp .eql 3 (xT 70) (nI 0) 3) 61 true,oO 72 (.pick (xT 61) (xT 71) (nB false))] [2,3,72] (cD 72 (.skip) (.exit 4))) (.keep [2,3] (.block 5 (.reg [fO 73 25 3 2,lO 74 23 73,fO 75 25 3 2,lO 76 23 75,oO 77 (bL 76 23),oO 78 (.binOp .sub 3 (xT 77) (nI 1) 3),oO 79 (.slice 23 (xT 74) none (some (xT 78)) none),fO 80 25 3 2,oS (.store 23 (xT 80) (xT 79))] [2,3]))) 
def Td:CC:=sR [oN 1 (.box 25 (xT 0)) [0],oN 2 (.alloc 25) [1]] [1,2] (.seq (sR [fO 6 25 1 0,lO 7 3 6,oO 8 (.binOp .eql 3 (xT 7) (nI 0) 3)] [1,2,8] (cD 8 (sR [oO 9 (.build 25 #[]),oS (.store 25 (xT 2) (xT 9))] [2] (.ret)) (.skip))) (.keep [1,2] (sR [fO 10 25 1 0,⟨some 11,(lD 3 10),none,[],1,[],true⟩,fO 12 25 1 1,⟨some 13,(lD 22 12),none,[],3,[],true⟩,⟨some 14,(cL 63 #[(xT 13)] #[22]),none,[],4,[1],true⟩,oO 15 (.build 25 #[(0,(xT 11)),(1,(xT 14))]),⟨some 3,(.alloc 25),none,[2],6,[1,3,4],false⟩,oS (.store 25 (xT 3) (xT 15))] [1,2,3] (.seq (sR [fO 16 25 1 2,lO 17 23 16,oO 18 (bL 17 23),oO 19 (.move (nI 0))] [1,2,3,17,18,19] (.block 0 (.loop Js))) (.keep [1,2,3] (.seq (sR [fO 31 25 1 0,lO 32 3 31,oO 33 (.binOp .eql 3 (xT 32) (nI 1) 3)] [2,3,33] (cD 33 (.seq (.block 2 (.loop Jm)) (.keep [2,3] (.block 4 (.loop Jo)))) (.skip))) (.keep [2,3] (sR [lO 81 25 3,oS (.store 25 (xT 2) (xT 81))] [2] (.ret)))))))))
theorem Z0:Bh Tryz.prog 31 82 [(.cell 2 25)] Td:=Au Tryz.func31
end Go.Proofs.YtbjmaoedheiigaaGreat
