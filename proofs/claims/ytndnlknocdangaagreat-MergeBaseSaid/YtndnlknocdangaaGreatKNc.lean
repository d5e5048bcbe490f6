/-
 Texts,merged,without what is not reached.
-/
import Derived.Test.YtndnlknocdangaaGreatKNb
set_option linter.unusedSimpArgs false
set_option linter.unusedVariables false
open Go.IntKind (i64 u64)
namespace Go.PL
theorem RY {w:List Int} {n:Nat} (h:n<w.length) (h0:w[n]=0):C4 (w.take (n+1))=C4 (w.take n):=by
 rw[HP h,N8,if_pos h0]
theorem Tq {w:List Int} {n:Nat} (h:n<w.length) (h0:w[n] ≠ 0):C4 (w.take (n+1))=w.take (n+1):=by
 rw[HP h,N8,if_neg h0]
theorem Sh {w:List T} {n:Nat} (h:n<w.length) (h0:w[n].kind=0):Cy (w.take (n+1))=Cy (w.take n):=by
 rw[HP h,IB,if_pos h0]
theorem Th {w:List T} {n:Nat} (h:n<w.length) (h0:w[n].kind ≠ 0):Cy (w.take (n+1))=w.take (n+1):=by
 rw[HP h,IB,if_neg h0]
theorem UE (l:List T):(Cy (l.map Ag)).length=(Cy l).length:=by
 induction l using WO with
 |h0=>rfl
 |h1 l x ih=>
  rw[List.map_append,List.map_cons,List.map_nil,IB,IB,F5];split
  ·exact ih
  ·simp
theorem UT (l:List T):Cy (l.map Ag)=(l.map Ag).take (Cy l).length:=by
 rw[← UE];exact IQ _
theorem T.ext' {t u:T} (h1:t.kind=u.kind) (h2:t.words=u.words) (h3:t.kids=u.kids):t=u:=by
 cases t;cases u;simp at h1 h2 h3;rw[h1,h2,h3]
noncomputable def ET (t u:T):Bool:=by classical exact decide (t=u)
theorem sameB_iff {t u:T}:ET t u=true ↔ t=u:=by simp[ET]
noncomputable def Kd (t u:T):Bool:=ET (Ag t) (Ag u)
theorem eqT_iff {t u:T}:Kd t u=true ↔ Ag t=Ag u:=sameB_iff
end Go.PL
namespace Go.Proofs.YtndnlknocdangaaGreat
open Go Go.G Go.Proofs Go.PL
theorem Bv {P:Program} {K:Sta→Prop} {rest:List CO} {s:Nat→A} {H:Hp} {dd:Option Nat} {k:Nat} {f:Bool} {nm:Nm} {ix:Nat} {un:List Nat} {l:Bool} {lg:Lg} {g:FuncId} {aa:Array Operand} {ts:Array TypeId}
  (hq:B6 (s k) f=some false) (h:An P K rest (A9 l ix ⟨[],[]⟩ lg) (Sta.put ⟨s,H⟩ dd (.v undef) H)) :
  An P K (⟨dd,.call { callee:=.value (.func g),args:=aa,argTypes:=ts },some (k,f),nm,ix,un,l⟩::rest) lg ⟨s,H⟩:=
 P8 (q:=false) (x:=.any) hq (fun e=>by cases e) h
abbrev DN (l:List Int):A:=.sl false (l.map uv)
abbrev Fc (l:List Int):A:=.sl false (l.map iv)
abbrev u8 (n:Int):A:=.v (.int .u8 n)
mutual
def tC:T→List A
 |.mk k w l=>[iv k,DN w,.sl false (tCs l)]
def tCs:List T→List A
 |[]=>[]
 |t::l=>.agg (tC t)::tCs l
end
def tA (t:T):A:=.agg (tC t)
abbrev BG (l:List T):A:=.sl false (l.map tA)
abbrev tX (t:T):A:=.agg [iv t.kind,DN t.words,BG t.kids]
theorem dg:∀ l,tCs l=l.map tA
 |[]=>by rw[tCs];rfl
 |t::l=>by rw[tCs,dg l];rfl
theorem AaU (t:T):tC t=[iv t.kind,DN t.words,BG t.kids]:=by cases t;rw[tC,dg];rfl
@[simp] theorem tA_eq (t:T):tA t=tX t:=by rw[tA,AaU]
def wA (w:WE):A:=.agg [iv w.at_,u8 w.mask,uv w.old,uv w.new]
abbrev wX (w:WE):A:=.agg [iv w.at_,u8 w.mask,uv w.old,uv w.new]
@[simp] theorem wA_eq (w:WE):wA w=wX w:=rfl
abbrev Qn (l:List WE):A:=.sl false (l.map wA)
mutual
def eC:E→List A
 |.mk k o n w ks l os=>[iv k,iv o.kind,DN o.words,BG o.kids,iv n.kind,DN n.words,BG n.kids,Qn w,.sl false (eKs ks),iv l,.sl false (eOs os)]
def eKs:List KE→List A
 |[]=>[]
 |.mk a e::l=>.agg (iv a::eC e)::eKs l
def eOs:List OP→List A
 |[]=>[]
 |.mk k n t e::l=>.agg (iv k::iv n::BG t::eC e)::eOs l
end
def kA (x:KE):A:=.agg (iv x.at_::eC x.e)
def oA (x:OP):A:=.agg (iv x.kind::iv x.n::BG x.l::eC x.e)
abbrev QA (l:List KE):A:=.sl false (l.map kA)
abbrev LO (l:List OP):A:=.sl false (l.map oA)
abbrev eL (e:E):List A:=[iv e.kind,iv e.old.kind,DN e.old.words,BG e.old.kids,iv e.new.kind,DN e.new.words,BG e.new.kids,Qn e.words,QA e.kids,iv e.list,LO e.ops]
abbrev eX (e:E):A:=.agg (eL e)
abbrev kX (x:KE):A:=.agg (iv x.at_::eL x.e)
abbrev oX (x:OP):A:=.agg (iv x.kind::iv x.n::BG x.l::eL x.e)
theorem dH:∀ l,eKs l=l.map kA
 |[]=>by rw[eKs];rfl
 |.mk a e::l=>by rw[eKs,dH l];rfl
theorem fB:∀ l,eOs l=l.map oA
 |[]=>by rw[eOs];rfl
 |.mk k n t e::l=>by rw[eOs,fB l];rfl
theorem sn (e:E):eC e=eL e:=by cases e;rw[eC,dH,fB];rfl
@[simp] theorem kA_eq (x:KE):kA x=kX x:=by rw[kA,sn]
@[simp] theorem oA_eq (x:OP):oA x=oX x:=by rw[oA,sn]
@[simp] theorem Afu (l:List Int):Dd 1 (l.map iv)=true:=by simp[Dd]
@[simp] theorem AdH (l:List T):Dd 3 (l.map tA)=true:=by simp[Dd]
@[simp] theorem AeR (l:List WE):Dd 4 (l.map wA)=true:=by simp[Dd]
@[simp] theorem Afw (l:List KE):Dd 12 (l.map kA)=true:=by simp[Dd]
@[simp] theorem AeD (l:List OP):Dd 14 (l.map oA)=true:=by simp[Dd]
theorem EX {n:Nat} {l:List A}:Dd n l=true ↔ ∀ x,x ∈ l→x.cells.length=n:=by simp[Dd]
@[simp] theorem yw {n k:Nat} {l:List A} (h:Dd n l=true):Dd n (l.take k)=true:=by
 rw[EX] at h ⊢;exact fun x hx=>h x (OB hx)
@[simp] theorem yz {n k:Nat} {l:List A} (h:Dd n l=true):Dd n (l.drop k)=true:=by
 rw[EX] at h ⊢;exact fun x hx=>h x (QL hx)
theorem B0 {α:Type} {H:Hp} {o:Nm} {u n sz:Nat} {l:List α} {f:α→A} (h:vr (H o) u=some (sz,l.map f)) (hn:n=l.length) (hf:∀ x,((f x).cells.length == sz&&(f x).cells.all fun y=>A.bare1 y&&y.one)=true):IZ H (.osl o u sz 0 n) (.sl false (l.map f)):=by
 subst hn;have:=dF (H:=H) (o:=o) (u:=u) (off:=0) (len:=l.length) (sz:=sz) (xs:=l.map f) (by simpa using h) (by simp) (by
  simp only[List.drop_zero];rw[AX (by simp),List.all_map,List.all_eq_true];exact fun x _=>hf x)
 simp[AX] at this;exact this
theorem Te {α:Type} {H:Hp} {o:Nm} {u n sz:Nat} {l:List α} {f:α→A} (h:vr (H o) u=some (sz,l.map f)) (hn:n≤l.length) (hf:∀ x,((f x).cells.length == sz&&(f x).cells.all fun y=>A.bare1 y&&y.one)=true):IZ H (.osl o u sz 0 n) (.sl false ((l.take n).map f)):=by
 have:=dF (H:=H) (o:=o) (u:=u) (off:=0) (len:=n) (sz:=sz) (xs:=l.map f) (by simpa using h) (by simpa using hn) (by
  simp only[List.drop_zero];rw[← List.map_take,List.all_map,List.all_eq_true];exact fun x _=>hf x)
 simpa using this
theorem YY {α:Type} {f:α→A} {l:List α} {i:Nat} (h:i<l.length) {x:A} (hx:f l[i]=x):List.take i (List.take i (l.map f))++[x]=(l.take (i+1)).map f:=by
 rw[List.take_take,Nat.min_self,HP h,List.map_append,List.map_take,← hx];rfl
theorem lL {H:Hp}:IZ H (.agg [iv 0,.sl true [],.sl true []]) (tX T0):=BZ (by simp;exact⟨Ad rfl,Am,Am⟩)
def BN (n:Int):Prop:=-9223372036854775808≤n∧n<9223372036854775808
def Bo (n:Int):Prop:=0≤n∧n<18446744073709551616
mutual
def AK:T→Prop
 |.mk k w l=>BN k∧(∀ x,x ∈ w→Bo x)∧w.length*8≤140737488355328∧l.length*56≤140737488355328∧gY l
def gY:List T→Prop
 |[]=>True
 |t::l=>AK t∧gY l
end
theorem TD:∀ {l:List T},gY l ↔ ∀ t,t ∈ l→AK t
 |[]=>by simp[gY]
 |t::l=>by simp[gY,TD (l:=l)]
structure WfT (t:T):Prop where
 k:BN t.kind
 w:∀ x,x ∈ t.words→Bo x
 wl:t.words.length*8≤140737488355328
 kl:t.kids.length*56≤140737488355328
 ks:∀ x,x ∈ t.kids→AK x
theorem wfT_iff {t:T}:AK t ↔ WfT t:=by
 cases t;rw[AK,TD];exact⟨fun ⟨a,b,c,d,e⟩=>⟨a,b,c,d,e⟩,fun ⟨a,b,c,d,e⟩=>⟨a,b,c,d,e⟩⟩
def WE.wf (w:WE):Prop:=BN w.at_∧(0≤w.mask∧w.mask<256)∧Bo w.old∧Bo w.new
mutual
def Pn:E→Prop
 |.mk k o n w ks l os=>(BN k∧BN l∧AK o∧AK n∧(∀ x,x ∈ w→WE.wf x)∧w.length*32≤140737488355328∧ks.length*208≤140737488355328∧os.length*240≤140737488355328)∧kU ks∧lY os
def kU:List KE→Prop
 |[]=>True
 |.mk a e::l=>(BN a∧Pn e)∧kU l
def lY:List OP→Prop
 |[]=>True
 |.mk k n t e::l=>(BN k∧BN n∧gY t∧t.length*56≤140737488355328∧Pn e)∧lY l
end
structure pn (x:OP):Prop where
 k:BN x.kind
 n:BN x.n
 l:∀ t,t ∈ x.l→AK t
 ll:x.l.length*56≤140737488355328
 e:Pn x.e
theorem XZ:∀ {l:List KE},kU l ↔ ∀ x,x ∈ l→BN x.at_∧Pn x.e
 |[]=>by simp[kU]
 |.mk a e::l=>by simp[kU,XZ (l:=l)]
theorem ZG:∀ {l:List OP},lY l ↔ ∀ x,x ∈ l→pn x
 |[]=>by simp[lY]
 |.mk k n t e::l=>by
  simp only[lY,ZG (l:=l),TD,List.forall_mem_cons];exact⟨fun ⟨⟨a,b,c,d,e⟩,h⟩=>⟨⟨a,b,c,d,e⟩,h⟩,fun ⟨⟨a,b,c,d,e⟩,h⟩=>⟨⟨a,b,c,d,e⟩,h⟩⟩
structure WfE (e:E):Prop where
 k:BN e.kind
 l:BN e.list
 o:AK e.old
 n:AK e.new
 w:∀ x,x ∈ e.words→WE.wf x
 wl:e.words.length*32≤140737488355328
 kl:e.kids.length*208≤140737488355328
 ol:e.ops.length*240≤140737488355328
 ks:∀ x,x ∈ e.kids→BN x.at_∧Pn x.e
 os:∀ x,x ∈ e.ops→pn x
theorem wfE_iff {e:E}:Pn e ↔ WfE e:=by
 cases e;rw[Pn,XZ,ZG];exact⟨fun ⟨⟨a,b,c,d,e,f,g,h⟩,i,j⟩=>⟨a,b,c,d,e,f,g,h,i,j⟩,fun ⟨a,b,c,d,e,f,g,h,i,j⟩=>⟨⟨a,b,c,d,e,f,g,h⟩,i,j⟩⟩
theorem Ys (c:Int):G.Spec Tryz.prog 48 [iv c] (iv (Ew c)):=by
 refine Al Ny (by simp) fun w0 I0=>?_;unfold IM;by_cases h0:c=0
 ·subst h0;simp;exact HN rfl rfl
 by_cases h1:c=1
 ·subst h1;simp;exact HN rfl rfl
 by_cases h2:c=2
 ·subst h2;simp;exact HN rfl rfl
 by_cases h3:c=3
 ·subst h3;simp;exact HN rfl rfl
 by_cases h4:c=4
 ·subst h4;simp;exact HN rfl rfl
 by_cases h5:c=5
 ·subst h5;simp;exact HN rfl rfl
 simp[h0,h1,h2,h3,h4,h5];exact HN rfl (by simp[Ew,h0,h1,h2,h3,h4,h5])
theorem Xe (c:Int):Ew c = -1∨Ew c=0∨Ew c=1∨Ew c=8∨Ew c=16∨Ew c=32∨Ew c=64:=by
 unfold Ew;repeat' split
 all_goals simp
variable {n0:Nat} {w0:World} {I0:Nat→Prop} {Q:Exit→Sta→Prop} {H:Hp}
theorem nJ {w:Int} (hw:w≤64):∀ (m:Nat) (x i:Int),0≤x→x<18446744073709551616→0≤i→i+m=w→(∀ b,Q (.exit 0) ⟨lk [(1,uv (x / 2 ^ m)),(5,iv w),(6,iv w),(13,bv b)],H⟩) →
  LoopC (cx Tryz.prog w0 I0 n0) DW Q ⟨lk [(1,uv x),(5,iv w),(6,iv i)],H⟩:=by
 intro m;induction m with
 |zero=>
  intro x i h0 h1 h2 h3 hq;have:i=w:=by simpa using h3
  subst this;refine Ab Ai DW.eq_1 ?_;simp;simpa using hq _
 |succ m ih=>
  intro x i h0 h1 h2 h3 hq;refine Ab Ai DW.eq_1 ?_;have hi:i<w:=by omega
  simp[hi];rw[Bf (by omega) (by omega),Int.tdiv_eq_ediv_of_nonneg h0,Gp (by omega) (by omega)];exact ih _ _ (by omega) (by omega) (by omega) (by omega) (by rw[mM];exact hq)
theorem ax {c n:Int} (h:Bo n):G.Spec Tryz.prog 29 [iv c,uv n] (bv (US c n)):=by
 refine Al PO (by simp) fun w0 I0=>?_;unfold Jg;simp;refine Af (Ys c) rfl ?_;simp;have hw:=Xe c;refine⟨fun h0=>?_,fun h0=>?_⟩
 ·refine BE ?_;simp[US];omega
 ·refine nJ (w:=Ew c) (by omega) (Ew c).toNat n 0 h.1 h.2 (by omega) (by omega) (fun b=>?_);simp;refine BE ?_;simp[US,h0]
theorem jM {a b:List Int} (hl:a.length=b.length) (hb:a.length*8≤140737488355328):∀ (m i:Nat),i+m=a.length→a.take i=b.take i→(a=b→∀ i q,Q (.exit 0) ⟨lk [(0,DN a),(1,DN b),(5,iv i),(14,bv q)],H⟩)→(a ≠ b→Q .ret ⟨lk [(4,bv false)],H⟩) →
  LoopC (cx Tryz.prog w0 I0 n0) D9 Q ⟨lk [(0,DN a),(1,DN b),(5,iv i)],H⟩:=by
 intro m;induction m with
 |zero=>
  intro i hi ht h1 h2;have:i=a.length:=by omega
  subst this;refine Ab Ai D9.eq_1 ?_;simp;refine h1 ?_ _ _;rw[AX (Cj _),AX (by omega)] at ht;exact ht
 |succ m ih=>
  intro i hi ht h1 h2;have hlt:i<a.length:=by omega
  have hlt':i<b.length:=by omega
  refine Ab Ai D9.eq_1 ?_;simp[hlt,hlt'];refine⟨fun he=>?_,fun hne=>h2 fun e=>hne (by subst e;rfl)⟩;rw[Bf (by omega) (by omega)];refine ih (i+1) (by omega) ?_ h1 h2;rw[HP hlt,HP hlt',ht,he]
theorem NT (a b:List Int) (hb:a.length*8≤140737488355328):G.Spec Tryz.prog 38 [DN a,DN b] (bv (decide (a=b))):=by
 refine Al PC (by simp) fun w0 I0=>?_;unfold Jw;simp;refine⟨fun h=>?_,fun h=>?_⟩
 ·refine jM (by omega) hb a.length 0 (by omega) rfl (fun e i q=>?_) (fun e=>?_)
  ·simp;refine BE ?_;simp[e]
  ·simp;refine BE ?_;simp[e]
 ·refine BE ?_;have:¬ a=b:=fun e=>h (by rw[e]);simp[this]
theorem kF {w:List Int} (hb:w.length*8≤140737488355328) (hq:∀ q,Q (.exit 0) ⟨lk [(0,DN w),(3,iv (C4 w).length),(16,bv q)],H⟩):∀ (n:Nat),n≤w.length→C4 (w.take n)=C4 w →
  LoopC (cx Tryz.prog w0 I0 n0) Eb Q ⟨lk [(0,DN w),(3,iv n)],H⟩:=by
 intro n;induction n with
 |zero=>
  intro hn ht;refine Ab Ai Eb.eq_1 ?_;simp;have e:(C4 w).length=0:=by rw[← ht];rfl
  have:=hq false;rw[e] at this;exact this
 |succ n ih=>
  intro hn ht;have hlt:n<w.length:=by omega
  have e:i64.wrap (n:Int)=n:=EJ;refine Ab Ai Eb.eq_1 ?_;by_cases h0:w[n]=0
  ·simp[e,hlt,h0];exact ih (by omega) (by rw[← RY hlt h0];exact ht)
  ·have e2:(C4 w).length=n+1:=by rw[← ht,Tq hlt h0];simp;omega
   have:=hq false;rw[e2] at this;simp[e,hlt,h0];simpa using this
theorem bx (w:List Int) (hb:w.length*8≤140737488355328):G.Spec Tryz.prog 41 [DN w] (DN (C4 w)):=by
 refine Al OY (by simp) fun w0 I0=>?_;unfold Jm;simp;refine kF hb (fun q=>?_) w.length (Cj _) (by rw[AX (Cj _)]);have hl:=J7 w;have hb':(C4 w).length*8≤140737488355328:=by omega
 simp[hl];refine⟨hb',?_⟩;rw[← List.map_take,← TN];exact B0 (by simp) rfl (by simp)
abbrev Z9 (l:List Int):List A:=l.map u8
def Dh:Nat→Int→List Int
 |0,_=>[]
 |m+1,x=>x % 256::Dh m (x / 256)
@[simp] theorem Nl:∀ (m:Nat) (x:Int),(Dh m x).length=m
 |0,_=>rfl
 |m+1,x=>by simp[Dh,Nl m]
theorem bj {l:List Int} {i:Nat} {v:Int} (h:i<l.length):splice (l.map u8) i [u8 v]=(l.set i v).map u8:=by
 apply List.ext_getElem?;intro j;simp only[splice,List.length_singleton];rw[List.append_assoc,List.map_set];by_cases h1:j<i
 ·rw[List.getElem?_append_left (by simp;omega),List.getElem?_take,if_pos h1,List.getElem?_set_ne (by omega)]
 ·rw[List.getElem?_append_right (by simp;omega)];have e:(List.take i (l.map u8)).length=i:=by simp;omega
  rw[e];by_cases h2:j=i
  ·subst h2;rw[List.getElem?_set_self (by simpa using h)];simp
  ·rw[List.getElem?_set_ne (by omega),List.getElem?_append_right (by simp;omega),List.getElem?_drop];congr 1;simp;omega
section
variable {n0:Nat} {w0:World} {I0:Nat→Prop} {Q:Exit→Sta→Prop}
end
def AY (x:Int):List Int:=Dh 8 x
theorem iQ {H:Hp} {l:List Int}:IZ H (.agg (Z9 l)) (.agg (Z9 l)):=Ad (by simp)
def Dz (x:Int) (i:Nat):Bool:=decide (x / 2 ^ i % 2=1)
def Zj:List Int→Int
 |[]=>0
 |b::l=>b+256*Zj l
theorem Vi:∀ (l:List Int),(∀ b,b ∈ l→0≤b∧b<256)→0≤Zj l∧Zj l<256 ^ l.length
 |[],_=>by simp[Zj]
 |b::l,h=>by
  have h1:=h b (by simp);have h2:=Vi l fun x hx=>h x (by simp[hx]);simp only[Zj,List.length_cons,Int.pow_succ];omega
theorem Kp:∀ (m:Nat) (x:Int),∀ b,b ∈ Dh m x→0≤b∧b<256
 |m+1,x,b,h=>by
  rcases List.mem_cons.1 h with rfl | h
  ·omega
  ·exact Kp m _ b h
def OG (a b:List Int) (mask:Int) (k:Nat):List Int:=(List.range k).map (fun i=>if Dz mask i=true then b.getD i 0 else a.getD i 0)++a.drop k
theorem Jo {a b:List Int} {mask:Int} {k:Nat} (h:k≤a.length):(OG a b mask k).length=a.length:=by simp[OG];omega
section
variable {n0:Nat} {w0:World} {I0:Nat→Prop} {Q:Exit→Sta→Prop}
end
def BV (a b mask:Int):Int:=Zj (OG (AY a) (AY b) mask 8)
theorem SJ {a b mask:Int} {k:Nat}:∀ x,x ∈ OG (AY a) (AY b) mask k→0≤x∧x<256:=by
 have hg:∀ (y:Int) (i:Nat),0≤(AY y).getD i 0∧(AY y).getD i 0<256:=fun y i=>by
  rw[List.getD_eq_getElem?_getD];cases e:(AY y)[i]? with
  |none=>simp
  |some z=>exact Kp 8 y z (List.mem_of_getElem? e)
 intro x hx;rcases List.mem_append.1 hx with hx | hx
 ·obtain⟨i,_,rfl⟩:=List.mem_map.1 hx;split
  ·exact hg b i
  ·exact hg a i
 ·exact Kp 8 a x (QL hx)
theorem BP (x:Int):(AY x).length=8:=Nl 8 x
@[simp] theorem xA {q:Bool} {n:Nat} {y:A} {K:A→Prop}:Gz q (A.shift n (gd q y)) K=Gz q (A.shift n y) K:=DJ fun h=>by rw[h];rfl
theorem Ji (l:List Int):A.softL (l.map uv)=l.map uv:=by
 rw[Bi,List.map_map];rfl
theorem qd:∀ t:T,(tA t).soft=tA t:=by
 refine T.ind fun k w l ih=>?_;rw[tA_eq];simp only[A.soft,A.softL,T.kind_mk,T.words_mk,T.kids_mk,Ji];have e:l.map (A.soft ∘ tA)=l.map tA:=List.map_congr_left fun t ht=>ih t ht;rw[Bi,List.map_map,e];rfl
theorem FB (l:List T):A.softL (l.map tA)=l.map tA:=by
 rw[Bi,List.map_map];exact List.map_congr_left fun t _=>qd t
theorem OX (l:List WE):A.softL (l.map wA)=l.map wA:=by
 rw[Bi,List.map_map];rfl
theorem dC:∀ e:E,A.softL (eL e)=eL e:=by
 refine E.ind fun k o n w ks l os ihk iho=>?_;have h1:A.softL (ks.map kA)=ks.map kA:=by
  rw[Bi,List.map_map];refine List.map_congr_left fun x hx=>?_;have:=ihk x hx;simp only[Function.comp,kA_eq];simp only[A.soft,A.softL] at this ⊢;simp_all
 have h2:A.softL (os.map oA)=os.map oA:=by
  rw[Bi,List.map_map];refine List.map_congr_left fun x hx=>?_;have:=iho x hx;simp only[Function.comp,oA_eq];simp only[A.soft,A.softL,FB] at this ⊢;simp_all
 simp only[A.soft,A.softL,E.kind_mk,E.old_mk,E.new_mk,E.words_mk,E.kids_mk,E.list_mk,E.ops_mk,Ji,FB,OX,h1,h2];rfl
theorem Su (l:List KE):A.softL (l.map kA)=l.map kA:=by
 rw[Bi,List.map_map];refine List.map_congr_left fun x _=>?_;have:=dC x.e;simp only[Function.comp,kA_eq];simp only[A.soft,A.softL] at this ⊢;simp_all
theorem Sb (l:List OP):A.softL (l.map oA)=l.map oA:=by
 rw[Bi,List.map_map];refine List.map_congr_left fun x _=>?_;have:=dC x.e;simp only[Function.comp,oA_eq];simp only[A.soft,A.softL,FB] at this ⊢;simp_all
end Go.Proofs.YtndnlknocdangaaGreat
namespace Go.Proofs.YtndnlknocdangaaGreat
set_option maxRecDepth 20000
open Go Go.G Go.Proofs
@[simp] theorem AhV:Tryz.prog.underlying 4=some .bool:=by kernel_rfl
@[simp] theorem Ag7:Tryz.prog.underlying 23=some (.slice 25):=by kernel_rfl
@[simp] theorem AhG:CX Tryz.prog 3=some 1:=by kernel_rfl
@[simp] theorem Agf:CX Tryz.prog 22=some 1:=by kernel_rfl
@[simp] theorem Ahe:CX Tryz.prog 23=some 1:=by kernel_rfl
@[simp] theorem Agk:CX Tryz.prog 25=some 3:=by kernel_rfl
@[simp] theorem Agl:Dj Tryz.prog 3=some false:=by kernel_rfl
@[simp] theorem AeX:Dj Tryz.prog 22=some false:=by kernel_rfl
@[simp] theorem AfP:Dj Tryz.prog 23=some false:=by kernel_rfl
@[simp] theorem Aee:Dj Tryz.prog 25=some true:=by kernel_rfl
@[simp] theorem Aao:Bh Tryz.prog 25=some (Value.agg #[Value.int i64 0,Value.slice none 0 0,Value.slice none 0 0]):=by kernel_rfl
@[simp] theorem xz:Bs Tryz.prog 25=some 56:=by kernel_rfl
@[simp] theorem kI:Aj Tryz.prog 25 0=some 0:=by kernel_rfl
@[simp] theorem oI:Aj Tryz.prog 25 1=some 1:=by kernel_rfl
@[simp] theorem lI:Aj Tryz.prog 25 2=some 2:=by kernel_rfl
@[simp] theorem x9 (ps:List (Nat × A)):Ch Tryz.prog 25 ps=(CT (fun i=>([(0,1),(1,1),(2,1)]:List (Nat × Nat))[i]?) [iv 0,A.sl true [],A.sl true []] ps).map A.agg:=by kernel_rfl
def Cd:CC:=sQ [mO 78 5,fO 79 25 2 2,lO 80 23 79,bN 81 80 23,bB .lss 82 3 78 81 3] [1,2,5,82] (cD 82 (.skip) (.exit 0)) [1,2,5] (.seq (.block 1 (sR [fO 85 25 2 2,lO 86 23 85,mO 87 5,iO 88 23 86 87,lO 89 25 88,aL 6 25 [1],sT 25 6 89] [1,2,5,6] (sQ [lO 90 25 6,mO 91 1,bQ .sub 92 3 91 1 3,cB 93 11 90 92 25 3,oO 94 (.unOp .not 4 (xT 93))] [1,2,5,6,94] (cD 94 (sR [aB 4 false] [4] (.ret)) (.skip)) [1,2,5,6] (sR [fO 95 25 2 0,lO 96 3 95,bQ .geq 97 3 96 2 3,mO 98 97,fG 99 25 2 0 98 true,lG 100 3 99 98 true,oG 101 (.binOp .leq 3 (xT 100) (nI 7) 3) 98 true,pF 102 98 101,aO 7 102] [1,2,5,6,7] (sR [mO 103 7,fO 104 25 6 0,lO 105 3 104,bQ .eql 106 3 105 10 3,bB .neq 107 4 103 106 4,mO 108 107,fG 109 25 2 0 108 false,lG 110 3 109 108 false,oG 111 (.binOp .eql 3 (xT 110) (nI 9) 3) 108 false,mG 112 111 108 false,fG 113 25 6 0 112 true,lG 114 3 113 112 true,oG 115 (.binOp .neq 3 (xT 114) (nI 1) 3) 112 true,oG 116 (.pick (xT 112) (xT 115) (nB false)) 108 false,pT 117 108 116,mO 118 117,mG 119 7 118 false,mG 120 119 118 false,fG 121 25 2 0 120 true,lG 122 3 121 120 true,oG 123 (.binOp .sub 3 (xT 122) (nI 2) 3) 120 true,fG 124 25 6 1 120 true,lG 125 22 124 120 true,oG 126 (.indexAddr 22 (xT 125) (nI 0)) 120 true,lG 127 61 126 120 true,oG 128 (cL 29 #[(xT 123),(xT 127)] #[3,61]) 120 true,oG 129 (.unOp .not 4 (xT 128)) 120 true,oG 130 (.pick (xT 120) (xT 129) (nB false)) 118 false,pT 131 118 130] [1,2,5,131] (cD 131 (sR [aB 4 false] [4] (.ret)) (.skip))))))) (.keep [1,2,5] (.reg [mO 83 5,bQ .add 84 3 83 1 3,aO 5 84] [1,2,5]))) 
def IP:CC:=sR [bX 2 25 0 [0],aB 4 false] [1,2] (sQ [fO 8 25 2 0,lO 9 3 8,bQ .eql 10 3 9 0 3] [1,2,10] (cD 10 (sR [fO 11 25 2 1,lO 12 22 11,bN 13 12 22,bQ .eql 14 3 13 0 3,mO 15 14,fG 16 25 2 2 15 true,lG 17 23 16 15 true,oG 18 (bL 17 23) 15 true,oG 19 (.binOp .eql 3 (xT 18) (nI 0) 3) 15 true,pF 20 15 19,aO 4 20] [4] (.ret)) (.skip)) [1,2] (sQ [fO 21 25 2 0,lO 22 3 21,bQ .eql 23 3 22 10 3] [1,2,23] (cD 23 (sR [fO 24 25 2 1,lO 25 22 24,bN 26 25 22,bQ .eql 27 3 26 1 3,mO 28 27,fG 29 25 2 2 28 true,lG 30 23 29 28 true,oG 31 (bL 30 23) 28 true,oG 32 (.binOp .eql 3 (xT 31) (nI 0) 3) 28 true,pF 33 28 32,aO 4 33] [4] (.ret)) (.skip)) [1,2] (sQ [fO 34 25 2 0,lO 35 3 34,bQ .lss 36 3 35 0 3,mO 37 36,fG 38 25 2 0 37 false,lG 39 3 38 37 false,oG 40 (.binOp .gtr 3 (xT 39) (nI 10) 3) 37 false,pT 41 37 40,mO 42 41,mG 43 1 42 false,oG 44 (.binOp .eql 3 (xT 43) (nI 0) 3) 42 false,pT 45 42 44,mO 46 45,fG 47 25 2 1 46 false,lG 48 22 47 46 false,oG 49 (bL 48 22) 46 false,oG 50 (.binOp .geq 3 (xT 49) (nI 65536) 3) 46 false,pT 51 46 50,mO 52 51,fG 53 25 2 0 52 false,lG 54 3 53 52 false,oG 55 (.binOp .eql 3 (xT 54) (nI 1) 3) 52 false,mG 56 55 52 false,fG 57 25 2 2 56 true,lG 58 23 57 56 true,oG 59 (bL 58 23) 56 true,oG 60 (.binOp .geq 3 (xT 59) (nI 65536) 3) 56 true,oG 61 (.pick (xT 56) (xT 60) (nB false)) 52 false,pT 62 52 61,mO 63 62,fG 64 25 2 2 63 false,lG 65 23 64 63 false,oG 66 (bL 65 23) 63 false,oG 67 (.binOp .geq 3 (xT 66) (nI 1048576) 3) 63 false,pT 68 63 67] [1,2,68] (cD 68 (sR [aB 4 false] [4] (.ret)) (.skip)) [1,2] (sQ [fO 69 25 2 0,lO 70 3 69,bQ .gtr 71 3 70 1 3,mO 72 71,fG 73 25 2 1 72 true,lG 74 22 73 72 true,oG 75 (bL 74 22) 72 true,oG 76 (.binOp .gtr 3 (xT 75) (nI 0) 3) 72 true,pF 77 72 76] [1,2,77] (cD 77 (sR [aB 4 false] [4] (.ret)) (.skip)) [1,2] (sQ [aI 5 0] [1,2,5] (.block 0 (.loop Cd)) [] (sR [aB 4 true] [4] (.ret)))))))
theorem NJ:BU Tryz.prog 11 132 [(.tmp 4)] IP:=AH Tryz.func11
def DV:CC:=sQ [mO 12 5,fO 13 25 1 2,lO 14 23 13,bN 15 14 23,bB .lss 16 3 12 15 3] [1,2,3,4,5,16] (cD 16 (.skip) (.exit 0)) [1,2,3,4,5] (.seq (.block 1 (sR [fO 19 25 1 2,lO 20 23 19,mO 21 5,iO 22 23 20 21,lO 23 25 22,cA 24 21 23 25,aL 6 25 [2],sT 25 6 24] [1,2,3,4,5,6] (sR [mO 25 3,lO 26 25 6,oO 27 (.buildSlice 23 1 #[(0,(xT 26))]),aP 28 25 27 23 23 [3],aO 3 28] [1,2,3,4,5,6] (sR [fO 29 25 6 0,lO 30 3 29,bQ .neq 31 3 30 0 3] [1,2,3,4,5,31] (cD 31 (.reg [mO 32 5,bQ .add 33 3 32 1 3,aO 4 33] [1,2,3,4,5]) (.skip)))))) (.keep [1,2,3,4,5] (.reg [mO 17 5,bQ .add 18 3 17 1 3,aO 5 18] [1,2,3,4,5]))) 
def Jv:CC:=sR [bX 1 25 0 [0],aL 2 25 [1]] [1,2] (sQ [fO 8 25 1 0,lO 9 3 8,bQ .eql 10 3 9 0 3] [1,2,10] (cD 10 (sR [oO 11 (.build 25 #[]),sT 25 2 11] [2] (.ret)) (.skip)) [1,2] (sR [aN 3] [1,2,3] (sR [aI 4 0] [1,2,3,4] (sQ [aI 5 0] [1,2,3,4,5] (.block 0 (.loop DV)) [1,2,3,4] (sQ [fO 34 25 1 0,lO 35 3 34,bQ .eql 36 3 35 1 3] [1,2,3,4,36] (cD 36 (sR [fO 37 25 1 1,lO 38 22 37,cA 39 41 38 22,mO 40 3,mO 41 4,oO 42 (.slice 23 (xT 40) none (some (xT 41)) none),oO 43 (.build 25 #[(0,(nI 1)),(1,(xT 39)),(2,(xT 42))]),sT 25 2 43] [2] (.ret)) (.skip)) [1,2,3] (sR [aN 7] [1,2,3,7] (sR [mO 44 7,fO 45 25 1 1,lO 46 22 45,aP 47 44 46 22 22 [4],aO 7 47] [1,2,3,7] (sR [fO 48 25 1 0,lO 49 3 48,mO 50 7,mO 51 3,oO 52 (.build 25 #[(0,(xT 49)),(1,(xT 50)),(2,(xT 51))]),sT 25 2 52] [2] (.ret)))))))))
theorem O4:BU Tryz.prog 21 53 [(.cell 2 25)] Jv:=AH Tryz.func21
def Da:CC:=sQ [mO 20 7,fO 21 25 3 2,lO 22 23 21,bN 23 22 23,bB .lss 24 3 20 23 3,mO 25 24,mG 26 2 25 true,oG 27 (.binOp .geq 3 (xT 26) (nI 0) 3) 25 true,pF 28 25 27] [1,2,3,7,28] (cD 28 (.skip) (.exit 0)) [1,2,3,7] (.seq (.block 1 (.reg [fO 31 25 3 2,lO 32 23 31,mO 33 7,iO 34 23 32 33,lO 35 25 34,mO 36 1,bQ .sub 37 3 36 1 3,mO 38 2,cE 39 28 35 37 38 25 3 3,aO 2 39] [1,2,3,7])) (.reg [mO 29 7,bQ .add 30 3 29 1 3,aO 7 30] [1,2,3,7])) 
def HG:CC:=sR [bX 3 25 0 [0],aI 6 0] [1,2,3] (sR [mO 8 2,bQ .sub 9 3 8 1 3,fO 10 25 3 1,lO 11 22 10,bN 12 11 22,bB .sub 13 3 9 12 3,aO 2 13] [1,2,3] (sQ [mO 14 1,bQ .eql 15 3 14 0 3,mO 16 15,mG 17 2 16 false,oG 18 (.binOp .lss 3 (xT 17) (nI 0) 3) 16 false,pT 19 16 18] [1,2,3,19] (cD 19 (sR [oO 6 (.assign (.const (.int .i64 (-1))))] [6] (.ret)) (.skip)) [1,2,3] (sQ [aI 7 0] [1,2,3,7] (.block 0 (.loop Da)) [2] (sR [mO 40 2,aO 6 40] [6] (.ret)))))
theorem LV:BU Tryz.prog 28 41 [(.tmp 6)] HG:=AH Tryz.func28
def D4:CC:=sQ [mO 28 5,fO 29 25 2 2,lO 30 23 29,bN 31 30 23,bB .lss 32 3 28 31 3] [2,3,5,32] (cD 32 (.skip) (.exit 0)) [2,3,5] (.seq (.block 1 (sR [fO 35 25 2 2,lO 36 23 35,mO 37 5,iO 38 23 36 37,lO 39 25 38,fO 40 25 3 2,lO 41 23 40,mO 42 5,iO 43 23 41 42,lO 44 25 43,cB 45 16 39 44 25 25,oO 46 (.unOp .not 4 (xT 45))] [2,3,5,46] (cD 46 (sR [aB 4 false] [4] (.ret)) (.skip)))) (.keep [2,3,5] (.reg [mO 33 5,bQ .add 34 3 33 1 3,aO 5 34] [2,3,5]))) 
def I7:CC:=sR [bX 2 25 0 [0],bX 3 25 1 [1],aB 4 false] [2,3] (sQ [fO 6 25 2 0,lO 7 3 6,fO 8 25 3 0,lO 9 3 8,bB .neq 10 3 7 9 3,mO 11 10,fG 12 25 2 1 11 false,lG 13 22 12 11 false,fG 14 25 3 1 11 false,lG 15 22 14 11 false,oG 16 (cL 38 #[(xT 13),(xT 15)] #[22,22]) 11 false,oG 17 (.unOp .not 4 (xT 16)) 11 false,pT 18 11 17,mO 19 18,fG 20 25 2 2 19 false,lG 21 23 20 19 false,oG 22 (bL 21 23) 19 false,fG 23 25 3 2 19 false,lG 24 23 23 19 false,oG 25 (bL 24 23) 19 false,oG 26 (bO .neq 3 22 25 3) 19 false,pT 27 19 26] [2,3,27] (cD 27 (sR [aB 4 false] [4] (.ret)) (.skip)) [2,3] (sQ [aI 5 0] [2,3,5] (.block 0 (.loop D4)) [] (sR [aB 4 true] [4] (.ret))))
theorem Py:BU Tryz.prog 16 47 [(.tmp 4)] I7:=AH Tryz.func16
def Ib:CC:=sR [bB .lss 20 3 19 18 3] [1,2,3,17,18,19,20] (.seq (cD 20 (.skip) (.exit 0)) (.keep [1,2,3,17,18,19] (.seq (.block 1 (sR [iO 21 23 17 19,lO 22 25 21,aL 5 25 [3],sT 25 5 22] [1,2,3,5,17,18,19] (.reg [fO 23 25 3 2,lS 24 23 23 1,lO 25 25 5,⟨some 26,(cL 35 #[(xT 25)] #[25]),none,[],3,[1],false⟩,⟨some 27,(.buildSlice 23 1 #[(0,(xT 26))]),none,[],4,[1],false⟩,aP 28 24 27 23 23 [4],fO 29 25 3 2,sT 23 29 28] [1,2,3,17,18,19]))) (.reg [bQ .add 30 3 19 1 3,mO 19 30] [1,2,3,17,18,19]))))
def Ic:CC:=sQ [fO 34 25 3 1,lO 35 22 34,bN 36 35 22,bQ .gtr 37 3 36 0 3,mO 38 37,fG 39 25 3 1 38 true,lG 40 22 39 38 true,fG 41 25 3 1 38 true,lG 42 22 41 38 true,oG 43 (bL 42 22) 38 true,oG 44 (.binOp .sub 3 (xT 43) (nI 1) 3) 38 true,oG 45 (iA 22 40 44) 38 true,lG 46 61 45 38 true,oG 47 (.binOp .eql 61 (xT 46) (.const (.int .u64 0)) 61) 38 true,pF 48 38 47] [2,3,48] (cD 48 (.skip) (.exit 2)) [2,3] (.block 3 (.reg [fO 49 25 3 1,lO 50 22 49,fO 51 25 3 1,lO 52 22 51,bN 53 52 22,bQ .sub 54 3 53 1 3,oO 55 (.slice 22 (xT 50) none (some (xT 54)) none),fO 56 25 3 1,sT 22 56 55] [2,3]))
def Ik:CC:=sQ [fO 57 25 3 2,lO 58 23 57,bN 59 58 23,bQ .gtr 60 3 59 0 3,mO 61 60,fG 62 25 3 2 61 true,lG 63 23 62 61 true,fG 64 25 3 2 61 true,lG 65 23 64 61 true,oG 66 (bL 65 23) 61 true,oG 67 (.binOp .sub 3 (xT 66) (nI 1) 3) 61 true,oG 68 (iA 23 63 67) 61 true,fG 69 25 68 0 61 true,lG 70 3 69 61 true,oG 71 (.binOp .eql 3 (xT 70) (nI 0) 3) 61 true,pF 72 61 71] [2,3,72] (cD 72 (.skip) (.exit 4)) [2,3] (.block 5 (.reg [fO 73 25 3 2,lO 74 23 73,fO 75 25 3 2,lO 76 23 75,bN 77 76 23,bQ .sub 78 3 77 1 3,oO 79 (.slice 23 (xT 74) none (some (xT 78)) none),fO 80 25 3 2,sT 23 80 79] [2,3])) 
def Q8:CC:=sR [bX 1 25 0 [0],aL 2 25 [1]] [1,2] (sQ [fO 6 25 1 0,lO 7 3 6,bQ .eql 8 3 7 0 3] [1,2,8] (cD 8 (sR [oO 9 (.build 25 #[]),sT 25 2 9] [2] (.ret)) (.skip)) [1,2] (sR [fO 10 25 1 0,lS 11 3 10 1,fO 12 25 1 1,lS 13 22 12 3,⟨some 14,(cL 59 #[(xT 13)] #[22]),none,[],4,[1],true⟩,oO 15 (.build 25 #[(0,(xT 11)),(1,(xT 14))]),⟨some 3,(.alloc 25),none,[2],6,[1,3,4],false⟩,sT 25 3 15] [1,2,3] (sQ [fO 16 25 1 2,lO 17 23 16,bN 18 17 23,oO 19 (.move (nI 0))] [1,2,3,17,18,19] (.block 0 (.loop Ib)) [1,2,3] (sQ [fO 31 25 1 0,lO 32 3 31,bQ .eql 33 3 32 1 3] [2,3,33] (cD 33 (.seq (.block 2 (.loop Ic)) (.keep [2,3] (.block 4 (.loop Ik)))) (.skip)) [2,3] (sR [lO 81 25 3,sT 25 2 81] [2] (.ret))))))
theorem Yk:BU Tryz.prog 35 82 [(.cell 2 25)] Q8:=AH Tryz.func35
end Go.Proofs.YtndnlknocdangaaGreat
namespace Go.Proofs.YtndnlknocdangaaGreat
open Go Go.G Go.Proofs Go.PL
structure Sg (l:List (List Int)):Prop where
 b:∀ x,x ∈ l→x.length*8≤140737488355328
 w:Wds l
def jI (l:List (List Int)) (r:Rf):A:=if r.kind=0 then .v (.pointer none) else arn l
@[simp] theorem yQ (l:List (List Int)) (r:Rf):(jI l r).cells=[jI l r]:=by unfold jI;split<;>rfl
@[simp] theorem Afj (l:List (List Int)) (r:Rf):(jI l r).one=true:=by unfold jI;split<;>rfl
@[simp] theorem Aap (l:List (List Int)) (r:Rf):(jI l r).bare=true:=by unfold jI;split<;>rfl
@[simp] theorem yN (l:List (List Int)) (r:Rf):(jI l r).bare1=true:=by unfold jI;split<;>rfl
@[simp] theorem zM (l:List (List Int)) (r:Rf):(jI l r).bare2=true:=by unfold jI;split<;>rfl
abbrev paL (l:List (List Int)) (r:Rf):List A:=[jI l r,iv r.kind,iv r.s,iv r.at_,iv r.data,iv r.kids,iv r.count,uv r.n]
end Go.Proofs.YtndnlknocdangaaGreat
namespace Go.Proofs.YtndnlknocdangaaGreat
set_option maxRecDepth 20000
open Go Go.G Go.Proofs
@[simp] theorem AdE:Tryz.prog.underlying 159=some (.slice 3):=by kernel_rfl
@[simp] theorem Ady:Bh Tryz.prog 3=some (Value.int i64 0):=by kernel_rfl
@[simp] theorem Adm:Bs Tryz.prog 3=some 8:=by kernel_rfl
@[simp] theorem Ag2:Tryz.prog.underlying 26=some (.slice 85):=by kernel_rfl
@[simp] theorem Ahc:Tryz.prog.underlying 27=some (.slice 88):=by kernel_rfl
@[simp] theorem AgI:Tryz.prog.underlying 28=some (.slice 91):=by kernel_rfl
@[simp] theorem Agz:CX Tryz.prog 26=some 1:=by kernel_rfl
@[simp] theorem AgE:CX Tryz.prog 27=some 1:=by kernel_rfl
@[simp] theorem Ahr:CX Tryz.prog 28=some 1:=by kernel_rfl
@[simp] theorem AgY:CX Tryz.prog 30=some 11:=by kernel_rfl
@[simp] theorem Ahg:CX Tryz.prog 85=some 4:=by kernel_rfl
@[simp] theorem Agn:CX Tryz.prog 88=some 12:=by kernel_rfl
@[simp] theorem Af6:CX Tryz.prog 91=some 14:=by kernel_rfl
@[simp] theorem AdP:Dj Tryz.prog 26=some false:=by kernel_rfl
@[simp] theorem Aeg:Dj Tryz.prog 27=some false:=by kernel_rfl
@[simp] theorem AfK:Dj Tryz.prog 28=some false:=by kernel_rfl
@[simp] theorem AfG:Dj Tryz.prog 30=some true:=by kernel_rfl
@[simp] theorem AeE:Dj Tryz.prog 85=some true:=by kernel_rfl
@[simp] theorem Afl:Dj Tryz.prog 88=some true:=by kernel_rfl
@[simp] theorem AfS:Dj Tryz.prog 91=some true:=by kernel_rfl
@[simp] theorem Ab9:Bh Tryz.prog 85=some (Value.agg #[Value.int i64 0,Value.int IntKind.u8 0,Value.int u64 0,Value.int u64 0]):=by kernel_rfl
@[simp] theorem Aci:Bh Tryz.prog 88=some (Value.agg #[Value.int i64 0,Value.int i64 0,Value.int i64 0,Value.slice none 0 0,Value.slice none 0 0,Value.int i64 0,Value.slice none 0 0,Value.slice none 0 0,Value.slice none 0 0,Value.slice none 0 0,Value.int i64 0,Value.slice none 0 0]):=by kernel_rfl
@[simp] theorem Abb:Bh Tryz.prog 91=some (Value.agg #[Value.int i64 0,Value.int i64 0,Value.slice none 0 0,Value.int i64 0,Value.int i64 0,Value.slice none 0 0,Value.slice none 0 0,Value.int i64 0,Value.slice none 0 0,Value.slice none 0 0,Value.slice none 0 0,Value.slice none 0 0,Value.int i64 0,Value.slice none 0 0]):=by kernel_rfl
@[simp] theorem zc:Bs Tryz.prog 85=some 32:=by kernel_rfl
@[simp] theorem yK:Bs Tryz.prog 88=some 208:=by kernel_rfl
@[simp] theorem zb:Bs Tryz.prog 91=some 240:=by kernel_rfl
@[simp] theorem kB:Aj Tryz.prog 30 0=some 0:=by kernel_rfl
@[simp] theorem mj:Aj Tryz.prog 30 1=some 1:=by kernel_rfl
@[simp] theorem ma:Aj Tryz.prog 30 2=some 4:=by kernel_rfl
@[simp] theorem mi:Aj Tryz.prog 30 3=some 7:=by kernel_rfl
@[simp] theorem om:Aj Tryz.prog 30 4=some 8:=by kernel_rfl
@[simp] theorem lf:Aj Tryz.prog 30 5=some 9:=by kernel_rfl
@[simp] theorem nN:Aj Tryz.prog 30 6=some 10:=by kernel_rfl
@[simp] theorem k8:Aj Tryz.prog 85 0=some 0:=by kernel_rfl
@[simp] theorem oD:Aj Tryz.prog 85 1=some 1:=by kernel_rfl
@[simp] theorem nW:Aj Tryz.prog 85 2=some 2:=by kernel_rfl
@[simp] theorem m9:Aj Tryz.prog 85 3=some 3:=by kernel_rfl
@[simp] theorem mY:Aj Tryz.prog 88 0=some 0:=by kernel_rfl
@[simp] theorem l8:Aj Tryz.prog 88 1=some 1:=by kernel_rfl
@[simp] theorem oK:Aj Tryz.prog 91 0=some 0:=by kernel_rfl
@[simp] theorem my:Aj Tryz.prog 91 1=some 1:=by kernel_rfl
@[simp] theorem jQ:Aj Tryz.prog 91 2=some 2:=by kernel_rfl
@[simp] theorem mn:Aj Tryz.prog 91 3=some 3:=by kernel_rfl
def QP:CC:=sR [bX 2 25 0 [0],oO 4 (.assign (.const (.int .u64 0)))] [1,2] (sQ [mO 5 1,bQ .lss 6 3 5 0 3,mO 7 6,mG 8 1 7 false,fG 9 25 2 1 7 false,lG 10 22 9 7 false,oG 11 (bL 10 22) 7 false,oG 12 (bO .geq 3 8 11 3) 7 false,pT 13 7 12] [1,2,13] (cD 13 (sR [oO 4 (.assign (.const (.int .u64 0)))] [4] (.ret)) (.skip)) [1,2] (sR [fO 14 25 2 1,lO 15 22 14,mO 16 1,iO 17 22 15 16,lO 18 61 17,aO 4 18] [4] (.ret)))
theorem YU:BU Tryz.prog 90 19 [(.tmp 4)] QP:=AH Tryz.func90
def SX:CC:=sR [bX 2 25 0 [0],aL 4 25 [1]] [1,2,4] (sQ [mO 5 1,bQ .lss 6 3 5 0 3,mO 7 6,mG 8 1 7 false,fG 9 25 2 2 7 false,lG 10 23 9 7 false,oG 11 (bL 10 23) 7 false,oG 12 (bO .geq 3 8 11 3) 7 false,pT 13 7 12] [1,2,4,13] (cD 13 (sR [oO 14 (.build 25 #[]),sT 25 4 14] [4] (.ret)) (.skip)) [1,2,4] (sR [fO 15 25 2 2,lO 16 23 15,mO 17 1,iO 18 23 16 17,lO 19 25 18,sT 25 4 19] [4] (.ret)))
theorem aZ:BU Tryz.prog 70 20 [(.cell 4 25)] SX:=AH Tryz.func70
def H6:CC:=sR [bQ .lss 6 3 5 8 3] [0,3,5,6] (.seq (cD 6 (.skip) (.exit 0)) (.keep [0,3,5] (.seq (.block 1 (sR [mO 7 5,aO 4 7] [0,3,4,5] (sR [mO 8 0,mO 9 4,bB .shr 10 5 8 9 3,oO 11 (.binOp .and 5 (xT 10) (.const (.int .u8 1)) 5),oO 12 (.binOp .eql 5 (xT 11) (.const (.int .u8 1)) 5)] [0,3,4,5,12] (cD 12 (.reg [mO 13 3,mO 14 4,oO 15 (.binOp .mul 3 (nI 8) (xT 14) 3),oO 16 (.binOp .shl 61 (.const (.int .u64 255)) (xT 15) 3),bB .or 17 61 13 16 61,aO 3 17] [0,3,5]) (.skip))))) (.keep [0,3,5] (.reg [bQ .add 18 3 5 1 3,mO 5 18] [0,3,5]))))) 
def QV:CC:=sR [oO 2 (.assign (.const (.int .u64 0)))] [0] (sR [oO 3 (.assign (.const (.int .u64 0)))] [0,3] (sQ [oO 5 (.move (nI 0))] [0,3,5] (.block 0 (.loop H6)) [3] (sR [mO 19 3,aO 2 19] [2] (.ret))))
theorem ZC:BU Tryz.prog 163 20 [(.tmp 2)] QV:=AH Tryz.func163
def T7:CC:=sR [oO 6 (.assign (.const (.int .u64 0)))] [0,1,2] (sR [mO 7 0,mO 8 2,cA 9 163 8 5,bB .andNot 10 61 7 9 61,mO 11 1,mO 12 2,cA 13 163 12 5,bB .and 14 61 11 13 61,bB .or 15 61 10 14 61,aO 6 15] [6] (.ret))
theorem bh:BU Tryz.prog 126 16 [(.tmp 6)] T7:=AH Tryz.func126
end Go.Proofs.YtndnlknocdangaaGreat
namespace Go.Proofs.YtndnlknocdangaaGreat
open Go Go.G Go.Proofs Go.PL
theorem Et (t:T) (i:Nat):G.Spec Tryz.prog 90 [tX t,iv i] (uv (t.words.getD i 0)):=by
 refine Al YU (by simp) fun w0 I0=>?_;unfold QP;have hn:¬ (i:Int)<0:=by omega
 by_cases h:i<t.words.length
 ·have h2:¬ t.words.length≤i:=by omega
  simp[h,hn,h2];exact HN rfl (by simp[h])
 ·have h2:t.words.length≤i:=by omega
  simp[h,hn,h2];exact HN rfl (by simp[List.getElem?_eq_none (Nat.le_of_not_lt h)])
theorem Fl (t:T) (i:Nat):G.Spec Tryz.prog 70 [tX t,iv i] (tX (t.kids.getD i T0)):=by
 refine Al aZ (by simp) fun w0 I0=>?_;unfold SX;have hn:¬ (i:Int)<0:=by omega
 by_cases h:i<t.kids.length
 ·have h2:¬ t.kids.length≤i:=by omega
  simp[h,hn,h2];exact Ad (by simp)
 ·have h2:t.kids.length≤i:=by omega
  simp[h,hn,h2];exact BZ (by simp;exact⟨Ad rfl,Am,Am⟩)
variable {n0:Nat} {w0:World} {I0:Nat→Prop} {Q:Exit→Sta→Prop}
abbrev M3 (x:T × Int × Int):A:=.tup [tX x.1,iv x.2.1,iv x.2.2]
abbrev s1:List (List Int):=[[4294967296,7]]
abbrev s2:List (List Int):=[[8589934592,7,0]]
abbrev s3:List (List Int):=[[4294967296,8]]
end Go.Proofs.YtndnlknocdangaaGreat
namespace Go.G
open Go.RowKit
theorem VK {P:Program} {K:Sta→Prop} {rest:List CO} {s:Nat→A} {H:Hp} {dd:Option Nat} {nm:Nm} {ix:Nat} {un:List Nat} {l:Bool} {lg:Lg} {g:FuncId} {fo:Operand} {fs caps L:List A} {as':Array Operand} {ts:Array TypeId} {x:A} (hv0:evs s fo = .fnc g fs caps) (hL:fs++(as'.toList.map (evs s)++caps)=L) (E:Eff) (R W:Fp) (hs:∀ H2,Agree (R++W) H H2→Qj P H2 g L x E) (hw:Ot E W) (hc:Ck un lg ⟨R,W⟩) (h:An P K rest (A9 l ix ⟨R,W⟩ lg) (Sta.put ⟨s,H⟩ dd x (E.app H))) :
  An P K (⟨dd,.call { callee:=.value fo,args:=as',argTypes:=ts },none,nm,ix,un,l⟩::rest) lg ⟨s,H⟩:=by
 subst hL;exact⟨x,E,⟨R,W⟩,⟨g,fs,caps,hv0,.inr (.inr ⟨hs,hw⟩)⟩,hc,h⟩
theorem Vm {P:Program} {K:Sta→Prop} {rest:List CO} {s:Nat→A} {H:Hp} {dd:Option Nat} {nm:Nm} {ix:Nat} {un:List Nat} {l:Bool} {lg:Lg} {g:FuncId} {fo:Operand} {fs caps L:List A} {as':Array Operand} {ts:Array TypeId}
  (hv0:evs s fo = .fnc g fs caps) (hL:fs++(as'.toList.map (evs s)++caps)=L) (rs:List Nat) (m:Nat) {args:List A} {Hc Hr H':Hp} {r x:A} (hS:SpecH P g rs.length args Hc r Hr) (hnd:rs.Nodup) (hm:m≤rs.length)
  (ha:A.renL (Q2 rs) (fun _=>0) L=args) (har:A.refsL (Oh rs m) L) (hH:K7 rs m H=Hc) (hcl:RO rs m H)
  (hr:r.refs (Ga rs.length)) (ho:∀ (i:Nat) (p:Nm),i<rs.length→(Hr (i::p)).ob.refs (Ga rs.length)) (hv:∀ (i:Nat) (p:Nm),m≤i→i<rs.length→(Hr (i::p)).ob = .none∨1≤(Hr (i::p)).u)
  (hx:r.ren (Og rs) (MP rs m H)=x) (hH':Lk rs (MP rs m H) H Hr=H') (hck:Ck un lg ⟨[],rs.map fun r=>([r],true)⟩)
  (h:An P K rest (A9 l ix ⟨[],rs.map fun r=>([r],true)⟩ lg) (Sta.put ⟨s,H⟩ dd x H')) :
  An P K (⟨dd,.call { callee:=.value fo,args:=as',argTypes:=ts },none,nm,ix,un,l⟩::rest) lg ⟨s,H⟩:=by
 have hit_in:∀ {j:Nat} {p:Nm},j ∈ rs→SH (rs.map fun r=>([r],true)) (j::p)=true:=fun {j p} hj=>by
  simp only[SH,List.any_map,List.any_eq_true];exact⟨j,hj,by simp[Pp,List.isPrefixOf]⟩
 have hnil:(Eff.fn rs (GS rs m H Hr)).app H=H':=by rw[Sw];exact hH'
 subst hx;rw[← hnil] at h;refine VK hv0 hL (Eff.fn rs (GS rs m H Hr)) [] (rs.map fun r=>([r],true)) (fun H2 hag=>?_) (fun o H2 ho'=>?_) hck h
 ·have ag:∀ {j:Nat} {p:Nm},j ∈ rs→H2 (j::p)=H (j::p):=fun {j p} hj=>hag _ (by simpa using hit_in hj);have agi:∀ {i:Nat} {p:Nm},i<rs.length→H2 (rs.getD i 0::p)=H (rs.getD i 0::p):=fun {i p} hi=>ag (by simp[List.getD,hi]);have hd:MP rs m H2=MP rs m H:=by
   funext o;cases o with
   |nil=>rfl
   |cons i p=>
    simp only[MP];by_cases hi:i<rs.length
    ·rw[agi hi]
    ·rw[if_neg hi,if_neg hi]
  have hoH:GS rs m H2 Hr=GS rs m H Hr:=by
   funext o;cases o with
   |nil=>rfl
   |cons j p=>simp only[GS,hd]
  subst ha;have:=Qu (P:=P) (f:=g) (rs:=rs) (m:=m) (args:=L) (Hc:=Hc) (Hr:=Hr) (r:=r) (H:=H2) hnd hm hS
   (fun i p hi=>by rw[← hH,agi (by omega)];simp only[K7,if_pos hi]) (fun i p hi=>by rw[← hH];simp only[K7];rw[if_neg (by omega)]) (by rw[← hH];rfl) har
   (fun i p hi=>by rw[agi (by omega)];exact hcl _ _ (by rw[J1 hnd (by omega)];exact hi)) hr ho hv
  rwa [hd,hoH] at this
 ·cases o with
  |nil=>rfl
  |cons j p=>
   have:¬ j ∈ rs:=fun hj=>by rw[hit_in hj] at ho';cases ho'
   simp[Eff.app,this]
theorem dj {P:Program} {H:Hp} {g:FuncId} {L:List A} (rs:List Nat) (m:Nat) {args:List A} {Hc Hr H':Hp} {r:A} (hS:SpecH P g rs.length args Hc r Hr) (hnd:rs.Nodup) (hm:m≤rs.length)
  (ha:A.renL (Q2 rs) (fun _=>0) L=args) (har:A.refsL (Oh rs m) L) (hH:K7 rs m H=Hc) (hcl:RO rs m H)
  (hr:r.refs (Ga rs.length)) (ho:∀ (i:Nat) (p:Nm),i<rs.length→(Hr (i::p)).ob.refs (Ga rs.length)) (hv:∀ (i:Nat) (p:Nm),m≤i→i<rs.length→(Hr (i::p)).ob = .none∨1≤(Hr (i::p)).u)
  (hH':Lk rs (MP rs m H) H Hr=H'):∃ E,Tm P H g L (r.ren (Og rs) (MP rs m H)) E [] (rs.map fun r=>([r],true))∧E.app H=H':=by
 have hit_in:∀ {j:Nat} {p:Nm},j ∈ rs→SH (rs.map fun r=>([r],true)) (j::p)=true:=fun {j p} hj=>by
  simp only[SH,List.any_map,List.any_eq_true];exact⟨j,hj,by simp[Pp,List.isPrefixOf]⟩
 have hnil:(Eff.fn rs (GS rs m H Hr)).app H=H':=by rw[Sw];exact hH'
 refine⟨Eff.fn rs (GS rs m H Hr),.inr (.inr ⟨fun H2 hag=>?_,fun o H2 ho'=>?_⟩),hnil⟩
 ·have ag:∀ {j:Nat} {p:Nm},j ∈ rs→H2 (j::p)=H (j::p):=fun {j p} hj=>hag _ (by simpa using hit_in hj);have agi:∀ {i:Nat} {p:Nm},i<rs.length→H2 (rs.getD i 0::p)=H (rs.getD i 0::p):=fun {i p} hi=>ag (by simp[List.getD,hi]);have hd:MP rs m H2=MP rs m H:=by
   funext o;cases o with
   |nil=>rfl
   |cons i p=>
    simp only[MP];by_cases hi:i<rs.length
    ·rw[agi hi]
    ·rw[if_neg hi,if_neg hi]
  have hoH:GS rs m H2 Hr=GS rs m H Hr:=by
   funext o;cases o with
   |nil=>rfl
   |cons j p=>simp only[GS,hd]
  subst ha;have:=Qu (P:=P) (f:=g) (rs:=rs) (m:=m) (args:=L) (Hc:=Hc) (Hr:=Hr) (r:=r) (H:=H2) hnd hm hS
   (fun i p hi=>by rw[← hH,agi (by omega)];simp only[K7,if_pos hi]) (fun i p hi=>by rw[← hH];simp only[K7];rw[if_neg (by omega)]) (by rw[← hH];rfl) har
   (fun i p hi=>by rw[agi (by omega)];exact hcl _ _ (by rw[J1 hnd (by omega)];exact hi)) hr ho hv
  rwa [hd,hoH] at this
 ·cases o with
  |nil=>rfl
  |cons j p=>
   have:¬ j ∈ rs:=fun hj=>by rw[hit_in hj] at ho';cases ho'
   simp[Eff.app,this]
theorem xg {P:Program} {K:Sta→Prop} {rest:List CO} {s:Nat→A} {H H':Hp} {dd:Option Nat} {nm:Nm} {ix:Nat} {un:List Nat} {l:Bool} {lg:Lg} {ro:Operand} {name:String} {t:TypeId} {a a':A} {g:FuncId} {d:Option TypeId} {L:List A} {as':Array Operand} {ts:Array TypeId} {x:A} {R W:Fp}
  (hr:evs s ro = .ifc t a) (hm:MY P t name=some (g,d)) (ha:VM P H d a=some a') (hL:a'::as'.toList.map (evs s)=L) (hc:∃ E,Tm P H g L x E R W∧E.app H=H') (hck:Ck un lg ⟨refs a++R,W⟩)
  (h:An P K rest (A9 l ix ⟨refs a++R,W⟩ lg) (Sta.put ⟨s,H⟩ dd x H')) :
  An P K (⟨dd,.call { callee:=.invoke ro name,args:=as',argTypes:=ts },none,nm,ix,un,l⟩::rest) lg ⟨s,H⟩:=by
 obtain⟨E,h1,rfl⟩:=hc;subst hL;exact⟨x,E,⟨refs a++R,W⟩,⟨t,a,g,d,a',R,hr,hm,ha,h1,rfl⟩,hck,h⟩
end Go.G
namespace Go.Proofs.YtndnlknocdangaaGreat
open Go Go.G Go.Proofs Go.PL
def zS (h x:Int):Int:=u64.wrap (bits .xor .u64 h x*1099511628211)
def qf (h x:Int):Int:=bits .xor .u64 (zS h x) (zS h x / 2 ^ min 29 u64.bits)
mutual
def su:T→Int
 |.mk k w l=>sY (w.foldl qf (qf (qf 14695981039346656037 (u64.wrap k)) (u64.wrap w.length))) l
def sY:Int→List T→Int
 |h,[]=>h
 |h,t::l=>sY (qf h (su t)) l
end
mutual
theorem Nn:∀ (t:T) (d:Nat) (n:Int),-1≤DF d n t∧(-1≤n→DF d n t≤n)
 |.mk k w l,d,n=>by
  rw[ND];split
  ·omega
  ·have:=L6 l (d-1) (n-1-w.length) (by omega);omega
theorem L6:∀ (l:List T) (d:Nat) (n:Int),-1≤n→-1≤Dm d n l∧Dm d n l≤n
 |[],d,n,h=>by simp;omega
 |t::l,d,n,h=>by
  rw[Ha];split
  ·omega
  ·have h1:=Nn t d n;have h2:=L6 l d (DF d n t) h1.1;omega
end
theorem Wg (l:List T) (d:Nat) {n:Int} (h:n<0):Dm d n l=n:=by
 cases l with
 |nil=>simp
 |cons t l=>simp[h]
variable {n0:Nat} {w0:World} {I0:Nat→Prop} {Q:Exit→Sta→Prop}
theorem aF {t:T} {d:Nat} (hd:1≤d) (hd1:d≤1000) (hl:t.kids.length*56≤140737488355328) (ih:∀ c,c ∈ t.kids→∀ (d:Nat) (n:Int),d≤1000→0≤n→n≤1000000→G.Spec Tryz.prog 28 [tX c,iv d,iv n] (iv (DF d n c)))
  {H:Hp} (hH:H [0]=⟨1,.cells [iv t.kind,DN t.words,BG t.kids]⟩):∀ (m i:Nat) (n:Int),i+m=t.kids.length→-1≤n→n≤1000000 →
  (∀ i' q,Q (.exit 0) ⟨lk [(1,iv d),(2,iv (Dm (d-1) n (t.kids.drop i))),(3,.pob [0] 1 0),(7,iv i'),(28,bv q)],H⟩) →
  LoopC (cx Tryz.prog w0 I0 n0) Da Q ⟨lk [(1,iv d),(2,iv n),(3,.pob [0] 1 0),(7,iv i)],H⟩:=by
 intro m;induction m with
 |zero=>
  intro i n hi h1 h2 hq;have:i=t.kids.length:=by omega
  subst this;refine Ab Ai Da.eq_1 ?_;simp[hH];simpa using hq _ false
 |succ m ihm=>
  intro i n hi h1 h2 hq;have hlt:i<t.kids.length:=by omega
  refine Ab Ai Da.eq_1 ?_;have e:t.kids.drop i=t.kids[i]::t.kids.drop (i+1):=List.drop_eq_getElem_cons hlt;by_cases hn:n<0
  ·simp[hH,hlt,show ¬ (0:Int)≤n by omega];have:=hq i false
   rwa [Wg _ _ hn] at this
  ·have hn':0≤n:=by omega
   simp[hH,hlt,hn'];have ed:i64.wrap ((d:Int)-1)=((d-1:Nat):Int):=Bg;rw[ed];refine Af (ih _ (C5 hlt) (d-1) n (by omega) hn' h2) rfl ?_;simp;have hr:=Nn t.kids[i] (d-1) n;rw[Bf (by omega) (by omega)];refine ihm (i+1) _ (by omega) hr.1 (by omega) fun i' q=>?_;have:=hq i' q;rw[e,Ha,if_neg (by omega)] at this;exact this
theorem WA:∀ (t:T),AK t→∀ (d:Nat) (n:Int),d≤1000→0≤n→n≤1000000→G.Spec Tryz.prog 28 [tX t,iv d,iv n] (iv (DF d n t)):=by
 refine T.ind fun k w l ih hw d n hd hn hn1=>?_;have hw':=wfT_iff.1 hw;have hwl:=hw'.wl;have hkl:=hw'.kl;simp at hwl hkl;have ihc:∀ c,c ∈ (T.mk k w l).kids→∀ (d:Nat) (n:Int),d≤1000→0≤n→n≤1000000→G.Spec Tryz.prog 28 [tX c,iv d,iv n] (iv (DF d n c)):=fun c hc=>ih c hc (hw'.ks c hc);refine Al LV (by simp) fun w0 I0=>?_;unfold HG;have e1:i64.wrap (i64.wrap (n-1)-(w.length:Int))=n-1-w.length:=by rw[Bf (n:=n-1) (by omega) (by omega),Bf (by omega) (by omega)]
 rw[ND];by_cases hc:d=0∨n-1-(w.length:Int)<0
 ·have hd:(decide (d=0) || decide (n-1-(w.length:Int)<0))=true:=by simp;omega
  simp[e1,hd,hc];exact Ad rfl
 ·have hd:(decide (d=0) || decide (n-1-(w.length:Int)<0))=false:=by simp;omega
  simp[e1,hd,hc];refine aF (t:=.mk k w l) (by omega) (by omega) hkl ihc (by simp) l.length 0 _ (by simp) (by omega) (by omega) fun i' q=>?_;simp;exact Ad rfl
abbrev tL (t:T):List A:=[iv t.kind,DN t.words,BG t.kids]
theorem rV {a b:T} (hl:a.kids.length*56≤140737488355328) (hn:a.kids.length=b.kids.length) (ih:∀ c,c ∈ a.kids→∀ u,G.Spec Tryz.prog 16 [tX c,tX u] (bv (ET c u)))
  {H:Hp} (hA:H [0]=⟨1,.cells (tL a)⟩) (hB:H [1]=⟨1,.cells (tL b)⟩):∀ (m i:Nat),i+m=a.kids.length→a.kids.take i=b.kids.take i→(a.kids=b.kids→∀ i' q,Q (.exit 0) ⟨lk [(2,.pob [0] 1 0),(3,.pob [1] 1 0),(5,iv i'),(32,bv q)],H⟩)→(a.kids ≠ b.kids→Q .ret ⟨lk [(4,bv false)],H⟩) →
  LoopC (cx Tryz.prog w0 I0 n0) D4 Q ⟨lk [(2,.pob [0] 1 0),(3,.pob [1] 1 0),(5,iv i)],H⟩:=by
 intro m;induction m with
 |zero=>
  intro i hi ht h1 h2;have:i=a.kids.length:=by omega
  subst this;refine Ab Ai D4.eq_1 ?_;simp[hA,hB];refine h1 ?_ _ _;rw[AX (Cj _),AX (by omega)] at ht;exact ht
 |succ m ihm=>
  intro i hi ht h1 h2;have hlt:i<a.kids.length:=by omega
  have hlt':i<b.kids.length:=by omega
  refine Ab Ai D4.eq_1 ?_;simp[hA,hB,hlt,hlt'];refine Af (ih _ (C5 hlt) b.kids[i]) rfl ?_;simp;cases hs:ET a.kids[i] b.kids[i] with
  |false=>
   simp;refine h2 fun e=>?_;have:a.kids[i]=b.kids[i]:=by simp[e]
   rw[← sameB_iff,hs] at this;cases this
  |true=>
   simp;rw[Bf (by omega) (by omega)];refine ihm (i+1) (by omega) ?_ h1 h2;rw[HP hlt,HP hlt',ht,sameB_iff.1 hs]
set_option maxRecDepth 8000 in
theorem HB:∀ (a:T),AK a→∀ b:T,G.Spec Tryz.prog 16 [tX a,tX b] (bv (ET a b)):=by
 refine T.ind fun k w l ih hw b=>?_;have hw':=wfT_iff.1 hw;have hwl:=hw'.wl;have hkl:=hw'.kl;simp at hwl hkl;refine Al Py (by simp) fun w0 I0=>?_;unfold I7;have no:(k ≠ b.kind∨w ≠ b.words∨l ≠ b.kids)→ET (.mk k w l) b=false:=fun h=>by
  rw[Bool.eq_false_iff];intro e;have:=sameB_iff.1 e;subst this;simp at h
 by_cases h1:k=b.kind
 ·by_cases h2:w=b.words
  ·by_cases h3:l.length=b.kids.length
   ·simp[h1];refine FQ rfl (fun _=>NT w b.words hwl) (fun _=>rfl) rfl ?_;simp[h2,h3];refine rV (a:=.mk k w l) (b:=b) hkl h3 (fun c hc u=>ih c hc (hw'.ks c hc) u) (by simp[h1,h2]) (by simp) l.length 0 (by simp) rfl (fun e i' q=>?_) (fun e=>?_)
    ·simp;have:ET (.mk k w l) b=true:=sameB_iff.2 (T.ext' h1 h2 e);rw[← h1,← h2,this];exact Ad rfl
    ·simp;rw[← h1,← h2,no (.inr (.inr e))];exact Ad rfl
   ·simp[h1];refine FQ rfl (fun _=>NT w b.words hwl) (fun _=>rfl) rfl ?_;simp[h2,h3];refine⟨fun h=>absurd (by omega) h3,fun _=>?_⟩;rw[← h1,← h2,no (.inr (.inr fun e=>h3 (by rw[e])))];exact Ad rfl
  ·simp[h1];refine FQ rfl (fun _=>NT w b.words hwl) (fun _=>rfl) rfl ?_;simp[h2];rw[← h1,no (.inr (.inl h2))];exact Ad rfl
 ·simp[h1];refine Bv rfl ?_;simp;rw[no (.inl h1)];exact Ad rfl
theorem rm {t:T} (hl:t.kids.length*56≤140737488355328) (ih:∀ c,c ∈ t.kids→G.Spec Tryz.prog 21 [tX c] (tX (Ag c))) {v:VOb}:∀ (m i:Nat) (u:Nat) (H:Hp),i+m=t.kids.length→H [0]=⟨1,.cells (tL t)⟩→H [1]=v→H [3]=⟨u,.arr 3 (((t.kids.take i).map Ag).map tA)⟩ →
  (∀ i' q (u':Nat) (H':Hp),H' [0]=⟨1,.cells (tL t)⟩→H' [1]=v→H' [3]=⟨u',.arr 3 ((t.kids.map Ag).map tA)⟩→Q (.exit 0) ⟨lk [(1,.pob [0] 1 0),(2,.pob [1] 1 0),(3,.osl [3] u' 3 0 t.kids.length),(4,iv (Cy t.kids).length),(5,iv i'),(16,bv q)],H'⟩) →
  LoopC (cx Tryz.prog w0 I0 n0) DV Q ⟨lk [(1,.pob [0] 1 0),(2,.pob [1] 1 0),(3,.osl [3] u 3 0 i),(4,iv (Cy (t.kids.take i)).length),(5,iv i)],H⟩:=by
 intro m;induction m with
 |zero=>
  intro i u H hi hA hR hB hq;have:i=t.kids.length:=by omega
  subst this;refine Ab Ai DV.eq_1 ?_;simp[hA];have:=hq t.kids.length false u H hA hR (by rw[hB];simp);simpa using this
 |succ m ihm=>
  intro i u H hi hA hR hB hq;have hlt:i<t.kids.length:=by omega
  refine Ab Ai DV.eq_1 ?_;simp[hA,hlt];refine Af (ih _ (C5 hlt)) rfl ?_;simp[Aa,hB];have ei:=AW i;have hrow:=YY (f:=tA ∘ Ag) hlt (x:=A.agg [iv t.kids[i].kind,DN (Ag t.kids[i]).words,BG (Ag t.kids[i]).kids]) (by simp);rw[hrow];refine⟨⟨by omega,by omega⟩,fun h=>?_,fun h=>?_⟩
  ·rw[ei,← Sh hlt h];exact ihm (i+1) (u+1) _ (by omega) (by simp[Aa,hA]) (by simp[Aa,hR]) (by simp[Aa]) hq
  ·have ek:(Cy (t.kids.take (i+1))).length=i+1:=by rw[Th hlt h];simp;omega
   rw[ei];have:=fun H h1 h2 h3=>ihm (i+1) (u+1) H (by omega) h1 h2 h3 hq;rw[ek] at this;exact this _ (by simp[Aa,hA]) (by simp[Aa,hR]) (by simp[Aa])
theorem So:∀ (t:T),AK t→G.Spec Tryz.prog 21 [tX t] (tX (Ag t)):=by
 refine T.ind fun k w l ih hw=>?_;have hw':=wfT_iff.1 hw;have hwl:=hw'.wl;have hkl:=hw'.kl;simp at hwl hkl;refine Al O4 (by simp) fun w0 I0=>?_;unfold Jv;rw[Ci];by_cases h0:k=0
 ·simp[h0];exact lL
 ·simp[h0];refine LoopC.le (FF 3 [3] 3 (by simp)) ?_;simp;refine LoopC.le (Ao [(1,.pob [0] 1 0),(2,.pob [1] 1 0),(3,.osl [3] 1 3 0 0),(4,iv 0),(5,iv 0)] (by simp[upd])) ?_;refine rm (t:=.mk k w l) (by simpa using hkl) (fun c hc=>ih c hc (hw'.ks c hc)) l.length 0 1 _ (by simp) (by simp) rfl (by simp) fun i' q u' H' hA hR hB=>?_;have hle:=JT l;by_cases h1:k=1
  ·subst h1;simp at hA hR hB;simp[hA,hR,hB,hle,Aa];refine Af (bx w hwl) rfl ?_;simp[hA,hR,hB,hle,Aa];refine BZ ?_;simp;rw[UT];refine⟨Ad rfl,Ad rfl,?_⟩;have:=Te (H:=AJ H' [1] ⟨1,.cells [iv 1,A.sl false (List.map uv (C4 w)),A.osl [3] u' 3 0 (Cy l).length]⟩) (o:=[3]) (u:=u') (sz:=3) (l:=l) (f:=tA ∘ Ag) (by simp[Aa,hB]) hle (by simp);rw[← List.map_take];show IZ _ _ (A.sl false (((l.take (Cy l).length).map Ag).map tA));rw[List.map_map];exact this
  ·simp at hA hR hB;simp[hA,hR,hB,h1,Aa];refine⟨hwl,BZ ?_⟩;simp;refine⟨Ad rfl,B0 (by simp[Aa]) rfl (by simp),?_⟩;have:=B0 (H:=AJ (AJ H' [4] { u:=(H' [4]).u+1,ob:=Ob.arr 1 (List.map uv w) }) [1] ⟨1,.cells [A.v (Value.int i64 k),A.osl [4] ((H' [4]).u+1) 1 0 w.length,A.osl [3] u' 3 0 l.length]⟩) (o:=[3]) (u:=u') (sz:=3) (l:=l) (f:=tA ∘ Ag) (by simp[Aa,hB]) rfl (by simp);show IZ _ _ (A.sl false ((l.map Ag).map tA));rw[List.map_map];exact this
theorem CQ:∀ (t:T),AK t→AK (Ag t):=by
 refine T.ind fun k w l ih hw=>?_;have hw':=wfT_iff.1 hw;rw[Ci];have h2:∀ (l:List T),(∀ t,t ∈ l→∃ u,u ∈ l∧t=u)→True:=fun _ _=>trivial;have hm:∀ t,t ∈ l.map Ag→AK t:=fun t ht=>by
  obtain⟨u,hu,rfl⟩:=List.mem_map.1 ht;exact ih u hu (hw'.ks u hu)
 split
 ·exact wfT_iff.2 ⟨by simp[BN],by simp,by simp,by simp,by simp⟩
 ·split
  ·refine wfT_iff.2 ⟨by simp[BN],fun x hx=>?_,?_,?_,fun t ht=>?_⟩
   ·simp only[T.words_mk] at hx;rw[TN] at hx;exact hw'.w x (OB hx)
   ·have:=J7 w;have:=hw'.wl;simp at this ⊢;omega
   ·have:=JT (l.map Ag);have:=hw'.kl;simp at this ⊢;simp at *;omega
   ·simp only[T.kids_mk] at ht;rw[IQ] at ht;exact hm t (OB ht)
  ·exact wfT_iff.2 ⟨hw'.k,hw'.w,hw'.wl,by simpa using hw'.kl,by simpa using hm⟩
theorem iT {c:T} (h:AK c) (hl:c.words.length=1):∃ x,c.words=[x]∧Bo x:=by
 have:=(wfT_iff.1 h).w
 match hc:c.words,hl with
 |[x],_=>exact⟨x,rfl,this x (by simp[hc])⟩
theorem Wx {d:Nat} {c:T} (h:Cr d c=true) (h10:c.kind=10):c.words.length=1:=by
 obtain⟨k,w,l⟩:=c;simp at h10;subst h10;rw[Em] at h;simp at h;exact h.1
theorem lU {t:T} (hl:t.kids.length*56≤140737488355328) (hk0:0≤t.kind) (hk1:t.kind≤10) {d:Nat} (hd:1≤d) (hd1:d≤1000) (hw:∀ c,c ∈ t.kids→AK c) (ih:∀ c,c ∈ t.kids→∀ d:Nat,d≤1000→G.Spec Tryz.prog 11 [tX c,iv d] (bv (Cr d c))):∀ (m i:Nat) (H:Hp),i+m=t.kids.length→H [0]=⟨1,.cells (tL t)⟩ →
  (FP (d-1) t.kind (t.kids.drop i)=true→∀ i' q H',Q (.exit 0) ⟨lk [(1,iv d),(2,.pob [0] 1 0),(5,iv i'),(82,bv q)],H'⟩)→(FP (d-1) t.kind (t.kids.drop i)=false→∀ H',Q .ret ⟨lk [(4,bv false)],H'⟩) →
  LoopC (cx Tryz.prog w0 I0 n0) Cd Q ⟨lk [(1,iv d),(2,.pob [0] 1 0),(5,iv i)],H⟩:=by
 intro m;induction m with
 |zero=>
  intro i H hi hA h1 h2;have:i=t.kids.length:=by omega
  subst this;refine Ab Ai Cd.eq_1 ?_;simp[hA];exact h1 (by simp) _ _ _
 |succ m ihm=>
  intro i H hi hA h1 h2;have hlt:i<t.kids.length:=by omega
  have e:t.kids.drop i=t.kids[i]::t.kids.drop (i+1):=List.drop_eq_getElem_cons hlt;have ei:=AW i;have ed:i64.wrap ((d:Int)-1)=((d-1:Nat):Int):=Bg;rw[e,Yj] at h1 h2;have hwc:=hw _ (C5 hlt);have ihc:=ih _ (C5 hlt) (d-1) (by omega);generalize hc:t.kids[i]=c at *;refine Ab Ai Cd.eq_1 ?_;simp[hA,hlt,hc,Aa,ed];refine Af ihc rfl ?_;cases hr:Cr (d-1) c with
  |false=>
   simp;exact h2 (by simp[hr]) _
  |true=>
   rw[hr] at h1 h2;have good:Gj t.kind c=true→∀ H',H' [0]=⟨1,.cells (tL t)⟩→LoopC (cx Tryz.prog w0 I0 n0) Cd Q ⟨lk [(1,iv d),(2,.pob [0] 1 0),(5,iv ((i:Int)+1))],H'⟩:=fun hg H' hA'=>
    ihm (i+1) H' (by omega) hA' (fun hh=>h1 (by simp[hg,hh])) (fun hh=>h2 (by simp[hh]))
   have bad:Gj t.kind c=false→∀ H',Q .ret ⟨lk [(4,bv false)],H'⟩:=fun hg=>h2 (by simp[hg]);rw[show((i+1:Nat):Int)=(i:Int)+1 from rfl] at ei;by_cases hD:2≤t.kind∧t.kind≤7
   ·obtain⟨d2,d7⟩:=hD;have d9:¬ t.kind=9:=by omega
    by_cases h10:c.kind=10
    ·obtain⟨x,hx,hx64⟩:=iT hwc (Wx hr h10);have hk:Gj t.kind c=US (t.kind-2) x:=by simp[Gj,Kt,d2,d7,d9,h10,hx]
     have e2:i64.wrap (t.kind-2)=t.kind-2:=EJ;simp[Aa,hA,d2,d7,d9,h10,hx,e2];refine Dy rfl (fun _=>ax hx64) (fun _=>rfl) rfl ?_;cases hf:US (t.kind-2) x with
     |false=>simp;exact bad (by rw[hk,hf]) _
     |true=>simp[ei];exact good (by rw[hk,hf]) _ (by simp[Aa,hA])
    ·have hk:Gj t.kind c=false:=by simp[Gj,Kt,d2,d7,d9,h10]
     simp[Aa,hA,d2,d7,d9,h10];refine Bv rfl ?_;simp;exact bad hk _
   ·have hD':(decide (2≤t.kind)&&decide (t.kind≤7))=false:=by simp;omega
    by_cases h10:c.kind=10
    ·have hk:Gj t.kind c=false:=by simp[Gj,Kt,hD',h10]
     simp[Aa,hA,hD',h10];refine Bv rfl ?_;simp;exact bad hk _
    ·by_cases h9:t.kind=9
     ·by_cases h1':c.kind=1
      ·have hk:Gj t.kind c=true:=by simp[Gj,Kt,hD',h9,h1']
       rw[h9] at hD';simp[Aa,hA,hD',h10,h9,h1'];refine Bv rfl ?_;simp[ei];exact good hk _ (by simp[Aa,hA])
      ·have hk:Gj t.kind c=false:=by simp[Gj,Kt,hD',h9,h1',h10]
       rw[h9] at hD';simp[Aa,hA,hD',h10,h9,h1'];refine Bv rfl ?_;simp;exact bad hk _
     ·have hk:Gj t.kind c=true:=by simp[Gj,Kt,hD',h9,h10]
      simp[Aa,hA,hD',h10,h9];refine Bv rfl ?_;simp[ei];exact good hk _ (by simp[Aa,hA])
theorem Yt:∀ (t:T),AK t→∀ d:Nat,d≤1000→G.Spec Tryz.prog 11 [tX t,iv d] (bv (Cr d t)):=by
 refine T.ind fun k w l ih hw d hd=>?_;have hw':=wfT_iff.1 hw;have hwl:=hw'.wl;have hkl:=hw'.kl;simp at hwl hkl;refine Al NJ (by simp) fun w0 I0=>?_;unfold IP;rw[Em];by_cases h0:k=0
 ·simp[h0];exact BE (by cases w<;>cases l<;>simp<;>(rw[← List.length_eq_zero_iff];omega))
 by_cases h10:k=10
 ·simp[h10];exact BE (by cases w<;>cases l<;>simp<;>(rw[← List.length_eq_zero_iff];omega))
 rw[if_neg h0,if_neg h10];have bad:FT k d w.length l.length=true→∀ H,IZ H (bv false) (bv (if FT k d w.length l.length=true then false else FP (d-1) k l)):=fun hb H=>BE (by simp[hb]);by_cases ha:k<0∨10<k∨d=0∨65536≤w.length
 ·have ha':(decide (k<0) || decide (10<k) || decide (d=0) || decide (65536≤(w.length:Int)))=true:=by simp;omega
  simp[h0,h10,ha'];have:=bad (by simp[FT];omega) (FR [([0],{ u:=1,ob:=Ob.cells [iv k,DN w,BG l] })]);simpa using this
 have ha':(decide (k<0) || decide (10<k) || decide (d=0) || decide (65536≤(w.length:Int)))=false:=by simp;omega
 by_cases h1:k=1∧65536≤l.length
 ·have hl:(65536:Int)≤l.length:=by omega
  simp[h0,h10,ha',h1.1,hl];have:=bad (by simp[FT];omega) (FR [([0],{ u:=1,ob:=Ob.cells [iv k,DN w,BG l] })]);simpa[h1.1] using this
 by_cases h2:1048576≤l.length
 ·have hl:(1048576:Int)≤l.length:=by omega
  have hk1:¬ k=1:=by omega
  simp[h0,h10,ha',hk1,hl];have:=bad (by simp[FT];omega) (FR [([0],{ u:=1,ob:=Ob.cells [iv k,DN w,BG l] })]);simpa using this
 have hl2:¬ (1048576:Int)≤l.length:=by omega
 by_cases h3:1<k∧0<w.length
 ·have hk1:¬ k=1:=by omega
  have hw0:w ≠ []:=fun e=>by simp[e] at h3
  simp[h0,h10,ha',hk1,hl2,h3.1,h3.2,hw0];have:=bad (by simp[FT];omega) (FR [([0],{ u:=1,ob:=Ob.cells [iv k,DN w,BG l] })]);simpa using this
 have hb:FT k d w.length l.length=false:=by
  rw[Bool.eq_false_iff];unfold FT;simp only[Bool.or_eq_true,Bool.and_eq_true,decide_eq_true_eq,ne_eq];omega
 have hw0:(1<k→w=[]):=fun h=>List.eq_nil_of_length_eq_zero (by omega);have fin:LoopC (cx Tryz.prog w0 I0 132) Cd (BR 0 (F7 (WPC (cx Tryz.prog w0 I0 132) (.keep [] (.seq (.reg [co (some 4) (.assign (.const (.bool true))) none] [4]) .ret)) (Xt Tryz.prog [.tmp 4] (bv (FP (d-1) k l)))) (Xt Tryz.prog [.tmp 4] (bv (FP (d-1) k l))))) ⟨lk [(1,iv d),(2,.pob [0] 1 0),(5,iv 0)],FR [([0],⟨1,.cells [iv k,DN w,BG l]⟩)]⟩:=by
  refine lU (t:=.mk k w l) (by simpa using hkl) (by simp;omega) (by simp;omega) (by omega) hd (fun c hc=>hw'.ks c hc) (fun c hc=>ih c hc (hw'.ks c hc)) l.length 0 _ (by simp) (by simp) (fun hr i' q H'=>?_) (fun hr H'=>?_)
  ·simp;exact BE (by simpa using hr.symm)
  ·simp;exact BE (by simpa using hr.symm)
 rw[if_neg (by simp[hb])];by_cases k1:k=1
 ·have hl3:¬ (65536:Int)≤l.length:=by omega
  have ha1:(decide (d=0) || decide (65536≤(w.length:Int)))=false:=by simp;omega
  simp[ha1,k1,hl2,hl3];simpa[k1] using fin
 ·simp[h0,h10,ha',k1,hl2];refine⟨fun a b=>absurd ⟨a,by omega⟩ h3,fun _=>?_⟩;exact fin
end Go.Proofs.YtndnlknocdangaaGreat
namespace Go.G
open Go.RowKit
structure Fam where
 F:Nat→Nm→VOb
 ren:∀ {g:Nm→Nm} {δ:Nm→Nat} {r r':Nat},(∀ p,g (r::p)=r'::p)→(∀ p,δ (r::p)=0)→∀ p,(F r p).ren g δ 0=F r' p
 refs:∀ {D:Nm→Prop} {r:Nat},(∀ p,D (r::p))→∀ p,(F r p).ob.refs D
def Fam.no:Fam:=⟨fun _ _=>⟨0,.none⟩,fun _ _ _=>rfl,fun _ _=>trivial⟩
@[simp] theorem Fam.no_F {r:Nat} {p:Nm}:Fam.no.F r p=⟨0,.none⟩:=rfl
structure EH (a:Nat→A):Prop where
 ren:∀ {g:Nm→Nm} {δ:Nm→Nat} {r r':Nat},(∀ p,g (r::p)=r'::p)→(∀ p,δ (r::p)=0)→(a r).ren g δ=a r'
 refs:∀ {D:Nm→Prop} {r:Nat},(∀ p,D (r::p))→(a r).refs D
structure FamL (a:Nat→List A):Prop where
 ren:∀ {g:Nm→Nm} {δ:Nm→Nat} {r r':Nat},(∀ p,g (r::p)=r'::p)→(∀ p,δ (r::p)=0)→A.renL g δ (a r)=a r'
 refs:∀ {D:Nm→Prop} {r:Nat},(∀ p,D (r::p))→A.refsL D (a r)
@[simp] theorem Ah:FamL (fun _=>[]):=⟨fun _ _=>by simp[A.renL],fun _=>by simp[A.refsL]⟩
theorem Ae {a:Nat→A} {l:Nat→List A} (h:EH a) (k:FamL l):FamL (fun r=>a r::l r):=⟨fun h1 h2=>by simp[A.renL,h.ren h1 h2,k.ren h1 h2],fun h1=>by simp only[A.refsL];exact⟨h.refs h1,k.refs h1⟩⟩
@[simp] theorem oZ {a:Nat→A} {l:Nat→List A} (h:EH a):FamL (fun r=>a r::l r)=FamL l:=by
 refine propext ⟨fun k=>⟨fun h1 h2=>?_,fun h1=>?_⟩,Ae h⟩
 ·have:=k.ren h1 h2;simp only[A.renL,List.cons.injEq] at this;exact this.2
 ·have:=k.refs h1;simp only[A.refsL] at this;exact this.2
theorem FamL.all {l:List A} (h:∀ x,x ∈ l→EH (fun _=>x)):FamL (fun _=>l):=by
 induction l with
 |nil=>simp
 |cons x l ih=>exact Ae (h x (by simp)) (ih fun y hy=>h y (by simp[hy]))
@[simp] theorem Aai:EH (fun _=>.any):=⟨fun _ _=>by simp[A.ren],fun _=>by simp[A.refs]⟩
@[simp] theorem AB {x:Value}:EH (fun _=>.v x):=⟨fun _ _=>by simp[A.ren],fun _=>by simp[A.refs]⟩
@[simp] theorem Ba {f:Bool} {xs:List A}:EH (fun _=>.sl f xs):=⟨fun _ _=>by simp[A.ren],fun _=>by simp[A.refs]⟩
@[simp] theorem Abq {xs:List A}:EH (fun _=>.pim xs):=⟨fun _ _=>by simp[A.ren],fun _=>by simp[A.refs]⟩
@[simp] theorem Au {u off:Nat} {q:Nm}:EH (fun r=>.pob (r::q) u off):=⟨fun h1 h2=>by simp[A.ren,h1,h2],fun h=>by simp[A.refs,h]⟩
@[simp] theorem C7 {u sz off len:Nat} {q:Nm}:EH (fun r=>.osl (r::q) u sz off len):=⟨fun h1 h2=>by simp[A.ren,h1,h2],fun h=>by simp[A.refs,h]⟩
@[simp] theorem AbU {u i j:Nat} {q:Nm}:EH (fun r=>.pel (r::q) u i j):=⟨fun h1 h2=>by simp[A.ren,h1,h2],fun h=>by simp[A.refs,h]⟩
@[simp] theorem nu {l:Nat→List A} (h:FamL l):EH (fun r=>.agg (l r)):=⟨fun h1 h2=>by simp[A.ren,h.ren h1 h2],fun h1=>by simp only[A.refs];exact h.refs h1⟩
@[simp] theorem A5 {l:Nat→List A} (h:FamL l):EH (fun r=>.tup (l r)):=⟨fun h1 h2=>by simp[A.ren,h.ren h1 h2],fun h1=>by simp only[A.refs];exact h.refs h1⟩
@[simp] theorem XO {f:FuncId} {l m:Nat→List A} (h:FamL l) (k:FamL m):EH (fun r=>.fnc f (l r) (m r)):=⟨fun h1 h2=>by simp[A.ren,h.ren h1 h2,k.ren h1 h2],fun h1=>by simp only[A.refs];exact⟨h.refs h1,k.refs h1⟩⟩
@[simp] theorem LA {t:TypeId} {a:Nat→A} (h:EH a):EH (fun r=>.ifc t (a r)):=⟨fun h1 h2=>by simp[A.ren,h.ren h1 h2],fun h1=>by simp only[A.refs];exact h.refs h1⟩
theorem a7 {a:A} (h:a.bare1=true):EH (fun _=>a):=by cases a<;>simp[A.bare1] at h ⊢
theorem GV {a:A} {cs:List A} (ha:a = .agg cs) (h:∀ x,x ∈ cs→x.bare1=true):EH (fun _=>a):=by
 subst ha;exact nu (l:=fun _=>cs) (FamL.all fun x hx=>a7 (h x hx))
theorem Fam.cells_ren {g:Nm→Nm} {δ:Nm→Nat} {u:Nat} {l l':List A} (h:A.renL g δ l=l'):VOb.ren g δ 0 ⟨u,.cells l⟩=⟨u,.cells l'⟩:=by simp[VOb.ren,Ob.ren,h]
theorem Fam.arr_ren {g:Nm→Nm} {δ:Nm→Nat} {u sz:Nat} {l l':List A} (h:A.renL g δ l=l'):VOb.ren g δ 0 ⟨u,.arr sz l⟩=⟨u,.arr sz l'⟩:=by simp[VOb.ren,Ob.ren,h]
structure SpecF (P:Program) (f:FuncId) (as':Nat→List A) (F:Fam) (x:Nat→A) (F':Fam):Prop where
 fa:FamL as'
 fx:EH x
 h:SpecH P f 1 (as' 0) (ov 0 (F.F 0) (FR [])) (x 0) (ov 0 (F'.F 0) (FR []))
section
variable {P:Program} {K:Sta→Prop} {rest:List CO} {s:Nat→A} {H:Hp} {dd:Option Nat} {nm:Nm} {ix:Nat} {un:List Nat} {l:Bool} {lg:Lg} {g:FuncId} {aa:Array Operand} {ts:Array TypeId}
theorem a0 {r:Nat} {F:Fam} (hF:∀ p,H (r::p)=F.F r p):K7 [r] 1 H=ov 0 (F.F 0) (FR []):=by
 funext o;cases o with
 |nil=>rfl
 |cons i p=>
  by_cases hi:i<1
  ·have:i=0:=by omega
   subst this;simp only[K7,if_pos hi,Be,if_true];show(H (r::p)).ren _ _ 0=_;rw[hF];exact F.ren (fun q=>by simp[Q2]) (fun _=>rfl) p
  ·simp only[K7,if_neg hi,Be];rw[if_neg (by omega)];rfl
theorem Xl {r:Nat} {F':Fam}:Lk [r] (MP [r] 1 H) H (ov 0 (F'.F 0) (FR []))=ov r (F'.F r) H:=by
 have hd:∀ p,MP [r] 1 H (0::p)=0:=fun p=>rfl;funext o;cases o with
 |nil=>rfl
 |cons j p=>
  by_cases hj:j=r
  ·subst hj;simp only[Lk,Be,if_true];rw[if_pos (by simp)];have:[j].idxOf j=0:=by simp
   rw[this,if_pos rfl,hd];exact F'.ren (fun q=>by simp[Og]) hd p
  ·have:¬ [r].contains j=true:=by simpa using hj
   simp only[Lk,if_neg this,Be,if_neg hj]
theorem NK {r:Nat} {F:Fam} (hF:∀ p,H (r::p)=F.F r p):RO [r] 1 H:=by
 intro j p hj;have hjr:j=r:=by
  have:=(idx_mem (rs:=[r])).1 (by simpa using hj);simpa using this
 rw[hjr,hF];exact F.refs (fun q=>by simp[Oh]) p
theorem TA {F':Fam} (i:Nat) (p:Nm) (hi:i<1):((ov 0 (F'.F 0) (FR [])) (i::p)).ob.refs (Ga 1):=by
 have:i=0:=by omega
 subst this;simp only[Be,if_true];exact F'.refs (fun q=>by simp[Ga]) p
theorem Ar {as':Nat→List A} {F F':Fam} {x:Nat→A} (r:Nat) (hS:SpecF P g as' F x F') (hF:∀ p,H (r::p)=F.F r p) (ha:aa.toList.map (evs s)=as' r) (hck:Ck un lg ⟨[],[([r],true)]⟩)
  (h:An P K rest (A9 l ix ⟨[],[([r],true)]⟩ lg) (Sta.put ⟨s,H⟩ dd (x r) (ov r (F'.F r) H))) :
  An P K (⟨dd,.call { callee:=.value (.func g),args:=aa,argTypes:=ts },none,nm,ix,un,l⟩::rest) lg ⟨s,H⟩:=by
 have hd:∀ p,MP [r] 1 H (0::p)=0:=fun p=>rfl;refine YD [r] 1 hS.h (by simp) (by simp) ?_ ?_ (a0 hF) (NK hF) (hS.fx.refs (fun p=>by simp[Ga])) (fun i p hi=>TA i p hi) (fun i p h1 h2=>by simp at h2;omega) (hS.fx.ren (fun q=>by simp[Og]) hd) Xl hck h
 ·rw[ha];exact hS.fa.ren (fun q=>by simp[Q2]) (fun _=>rfl)
 ·rw[ha];exact hS.fa.refs (fun q=>by simp[Oh])
theorem RV {as':Nat→List A} {F F':Fam} {x:Nat→A} {fo:Operand} {fs caps:List A} (r:Nat) (hv0:evs s fo = .fnc g fs caps) (hS:SpecF P g as' F x F') (hF:∀ p,H (r::p)=F.F r p) (ha:fs++(aa.toList.map (evs s)++caps)=as' r) (hck:Ck un lg ⟨[],[([r],true)]⟩)
  (h:An P K rest (A9 l ix ⟨[],[([r],true)]⟩ lg) (Sta.put ⟨s,H⟩ dd (x r) (ov r (F'.F r) H))) :
  An P K (⟨dd,.call { callee:=.value fo,args:=aa,argTypes:=ts },none,nm,ix,un,l⟩::rest) lg ⟨s,H⟩:=by
 have hd:∀ p,MP [r] 1 H (0::p)=0:=fun p=>rfl;refine Vm hv0 ha [r] 1 hS.h (by simp) (by simp) (hS.fa.ren (fun q=>by simp[Q2]) (fun _=>rfl)) (hS.fa.refs (fun q=>by simp[Oh])) (a0 hF) (NK hF) (hS.fx.refs (fun p=>by simp[Ga])) (fun i p hi=>TA i p hi) (fun i p h1 h2=>by simp at h2;omega) (hS.fx.ren (fun q=>by simp[Og]) hd) Xl hck h
end
section
variable {P:Program} {K:Sta→Prop} {rest:List CO} {s:Nat→A} {H:Hp} {dd:Option Nat} {nm:Nm} {ix:Nat} {un:List Nat} {l:Bool} {lg:Lg} {g:FuncId} {aa:Array Operand} {ts:Array TypeId}
theorem Vy {as':Nat→List A} {F F':Fam} {x:Nat→A} (r:Nat) (hS:SpecF P g as' F x F') (hF:∀ p,H (r::p)=F.F r p):∃ E,Tm P H g (as' r) (x r) E [] [([r],true)]∧E.app H=ov r (F'.F r) H:=by
 have hd:∀ p,MP [r] 1 H (0::p)=0:=fun p=>rfl;have:=dj (H:=H) (L:=as' r) [r] 1 hS.h (by simp) (by simp) (hS.fa.ren (fun q=>by simp[Q2]) (fun _=>rfl)) (hS.fa.refs (fun q=>by simp[Oh])) (a0 hF) (NK hF) (hS.fx.refs (fun p=>by simp[Ga])) (fun i p hi=>TA i p hi) (fun i p h1 h2=>by simp at h2;omega) Xl;have e:A.ren (Og [r]) (MP [r] 1 H) (x 0)=x r:=hS.fx.ren (fun q=>by simp[Og]) hd;rw[e] at this;exact this
theorem Hi {as':Nat→List A} {F F':Fam} {x:Nat→A} {ro:Operand} {name:String} {t:TypeId} {a a':A} {d:Option TypeId} (r:Nat) (hS:SpecF P g as' F x F') (hF:∀ p,H (r::p)=F.F r p) (hr:evs s ro = .ifc t a) (hm:MY P t name=some (g,d)) (ha:VM P H d a=some a') (hL:a'::aa.toList.map (evs s)=as' r)
  (hck:Ck un lg ⟨refs a++[],[([r],true)]⟩) (h:An P K rest (A9 l ix ⟨refs a++[],[([r],true)]⟩ lg) (Sta.put ⟨s,H⟩ dd (x r) (ov r (F'.F r) H))) :
  An P K (⟨dd,.call { callee:=.invoke ro name,args:=aa,argTypes:=ts },none,nm,ix,un,l⟩::rest) lg ⟨s,H⟩:=
 xg hr hm ha hL (Vy r hS hF) hck h
end
theorem Abm {r:Nat} {F F':Nm→VOb} {H:Hp}:ov r F (ov r F' H)=ov r F H:=by
 funext o;cases o with
 |nil=>rfl
 |cons j p=>by_cases hj:j=r<;>simp[hj]
@[simp] theorem AdN {r:Nat} {F F':Nm→VOb} {H:Hp}:ov r F (ov r F' H)=ov r F H:=Abm
theorem Aq {P:Program} {f:FuncId} {n:Nat} {rs:List ResultVar} {cc:CC} {as':Nat→List A} {F F':Fam} {x:Nat→A} (t:BU P f n rs cc) (ha:(as' 0).length≤n) (h0:FamL as') (h1:EH x)
  (h:∀ w0 I0 M0 m0,WPC (DD P w0 I0 M0 n m0) cc (MJ (DD P w0 I0 M0 n m0) rs 1 (x 0) (ov 0 (F'.F 0) (FR []))) ⟨NB (as' 0),ov 0 (F.F 0) (FR [])⟩):SpecF P f as' F x F':=
 ⟨h0,h1,Z4 t ha h⟩
theorem Ax {c:Cx} {rs:List ResultVar} {x:A} {F':Nm→VOb} {r0:A} {st:Sta} (h:EU c.P st rs=some r0) (he:r0=x) (hh:∀ p,st.H (0::p)=F' p):MJ c rs 1 x (ov 0 F' (FR [])) .ret st:=
 SN h he fun i p hi=>by
  have:i=0:=by omega
  subst this;rw[hh];simp
theorem AU {c:Cx} {rs:List ResultVar} {x:A} {F':Nm→VOb} {r0:A} {st:Sta} (h:EU c.P st rs=some r0) (he:r0=x) (hh:∀ p,st.H (0::p)=F' p):MJ c rs 1 x (ov 0 F' (FR [])) .normal st:=
 QT h he fun i p hi=>by
  have:i=0:=by omega
  subst this;rw[hh];simp
structure SG (a:Nat→Nat→A):Prop where
 ren:∀ {g:Nm→Nm} {δ:Nm→Nat} {r r' q q':Nat},(∀ p,g (r::p)=r'::p)→(∀ p,δ (r::p)=0)→(∀ p,g (q::p)=q'::p)→(∀ p,δ (q::p)=0)→(a r q).ren g δ=a r' q'
 refs:∀ {D:Nm→Prop} {r q:Nat},(∀ p,D (r::p))→(∀ p,D (q::p))→(a r q).refs D
structure RX (a:Nat→Nat→List A):Prop where
 ren:∀ {g:Nm→Nm} {δ:Nm→Nat} {r r' q q':Nat},(∀ p,g (r::p)=r'::p)→(∀ p,δ (r::p)=0)→(∀ p,g (q::p)=q'::p)→(∀ p,δ (q::p)=0)→A.renL g δ (a r q)=a r' q'
 refs:∀ {D:Nm→Prop} {r q:Nat},(∀ p,D (r::p))→(∀ p,D (q::p))→A.refsL D (a r q)
@[simp] theorem Eo:RX (fun _ _=>[]):=⟨fun _ _ _ _=>by simp[A.renL],fun _ _=>by simp[A.refsL]⟩
theorem Az {a:Nat→Nat→A} {l:Nat→Nat→List A} (h:SG a) (k:RX l):RX (fun r q=>a r q::l r q):=⟨fun h1 h2 h3 h4=>by simp[A.renL,h.ren h1 h2 h3 h4,k.ren h1 h2 h3 h4],fun h1 h2=>by simp only[A.refsL];exact⟨h.refs h1 h2,k.refs h1 h2⟩⟩
theorem Bj {a:Nat→A} (h:EH a):SG (fun r _=>a r):=⟨fun h1 h2 _ _=>h.ren h1 h2,fun h1 _=>h.refs h1⟩
theorem Jj {a:Nat→A} (h:EH a):SG (fun _ q=>a q):=⟨fun _ _ h1 h2=>h.ren h1 h2,fun _ h1=>h.refs h1⟩
theorem fK {l:Nat→Nat→List A} (h:RX l):SG (fun r q=>.tup (l r q)):=⟨fun h1 h2 h3 h4=>by simp[A.ren,h.ren h1 h2 h3 h4],fun h1 h2=>by simp only[A.refs];exact h.refs h1 h2⟩
section
variable {P:Program} {K:Sta→Prop} {rest:List CO} {s:Nat→A} {H:Hp} {dd:Option Nat} {nm:Nm} {ix:Nat} {un:List Nat} {l:Bool} {lg:Lg} {g:FuncId} {aa:Array Operand} {ts:Array TypeId}
end
theorem MB {c:Cx} {rs:List ResultVar} {x:A} {F' N:Nm→VOb} {r0:A} {st:Sta} (h:EU c.P st rs=some r0) (he:r0=x) (hh:∀ p,st.H (0::p)=F' p) (hn:∀ p,st.H (1::p)=N p):MJ c rs 2 x (ov 0 F' (ov 1 N (FR []))) .ret st:=
 SN h he fun i p hi=>by
  by_cases h0:i=0
  ·subst h0;rw[hh];simp
  ·have:i=1:=by omega
   subst this;rw[hn];simp
def xb (u sz:Nat) (xs:List A) (h:∀ x,x ∈ xs→EH (fun _=>x)):Fam:=⟨fun _ p=>if p=[] then ⟨u,.arr sz xs⟩ else ⟨0,.none⟩,fun {g δ r r'} hg hd p=>by
  by_cases hp:p=[]
  ·rw[if_pos hp];exact Fam.arr_ren ((FamL.all h).ren hg hd)
  ·rw[if_neg hp];rfl,fun {D r} hD p=>by
  by_cases hp:p=[]
  ·rw[if_pos hp];exact(FamL.all h).refs hD
  ·rw[if_neg hp];trivial⟩
@[simp] theorem Af7 {u sz:Nat} {xs:List A} {h:∀ x,x ∈ xs→EH (fun _=>x)} {r:Nat} {p:Nm}:(xb u sz xs h).F r p=if p=[] then ⟨u,.arr sz xs⟩ else ⟨0,.none⟩:=rfl
structure Qm where
 B:Nat→Nat→Nm→VOb
 C:Nat→Nat→Nm→VOb
 ren:∀ {g:Nm→Nm} {δ:Nm→Nat} {r r' q q':Nat},(∀ p,g (r::p)=r'::p)→(∀ p,δ (r::p)=0)→(∀ p,g (q::p)=q'::p)→(∀ p,δ (q::p)=0)→∀ p,(B r q p).ren g δ 0=B r' q' p∧(C r q p).ren g δ 0=C r' q' p
 refs:∀ {D:Nm→Prop} {r q:Nat},(∀ p,D (r::p))→(∀ p,D (q::p))→∀ p,(B r q p).ob.refs D∧(C r q p).ob.refs D
def Fam.two (F G:Fam):Qm:=⟨fun r _=>F.F r,fun _ q=>G.F q,fun h1 h2 h3 h4 p=>⟨F.ren h1 h2 p,G.ren h3 h4 p⟩,fun h1 h2 p=>⟨F.refs h1 p,G.refs h2 p⟩⟩
@[simp] theorem Ahx {F G:Fam} {r q:Nat}:(F.two G).B r q=F.F r:=rfl
@[simp] theorem zV {F G:Fam} {r q:Nat}:(F.two G).C r q=G.F q:=rfl
structure JB (P:Program) (f:FuncId) (as':Nat→Nat→List A) (F:Qm) (x:Nat→Nat→A) (F':Qm):Prop where
 fa:RX as'
 fx:SG x
 h:SpecH P f 2 (as' 0 1) (ov 0 (F.B 0 1) (ov 1 (F.C 0 1) (FR []))) (x 0 1) (ov 0 (F'.B 0 1) (ov 1 (F'.C 0 1) (FR [])))
section
variable {P:Program} {K:Sta→Prop} {rest:List CO} {s:Nat→A} {H:Hp} {dd:Option Nat} {nm:Nm} {ix:Nat} {un:List Nat} {l:Bool} {lg:Lg} {g:FuncId} {aa:Array Operand} {ts:Array TypeId}
theorem Jn {as':Nat→Nat→List A} {F F':Qm} {x:Nat→Nat→A} (r q:Nat) (hrq:r ≠ q) (hS:JB P g as' F x F') (hF:∀ p,H (r::p)=F.B r q p) (hG:∀ p,H (q::p)=F.C r q p) (ha:aa.toList.map (evs s)=as' r q) (hck:Ck un lg ⟨[],[([r],true),([q],true)]⟩)
  (h:An P K rest (A9 l ix ⟨[],[([r],true),([q],true)]⟩ lg) (Sta.put ⟨s,H⟩ dd (x r q) (ov r (F'.B r q) (ov q (F'.C r q) H)))) :
  An P K (⟨dd,.call { callee:=.value (.func g),args:=aa,argTypes:=ts },none,nm,ix,un,l⟩::rest) lg ⟨s,H⟩:=by
 have hd:∀ p,MP [r,q] 2 H (0::p)=0:=fun p=>rfl;have hd1:∀ p,MP [r,q] 2 H (1::p)=0:=fun p=>rfl;have i0:[r,q].idxOf r=0:=by simp
 have i1:[r,q].idxOf q=1:=by simp[List.idxOf_cons,beq_eq_false_iff_ne.2 hrq]
 have d0:∀ p,Q2 [r,q] (r::p)=0::p:=fun p=>by simp[Q2]
 have d1:∀ p,Q2 [r,q] (q::p)=1::p:=fun p=>by simp[Q2,i1]
 have jin:∀ {j:Nat},[r,q].idxOf j<2→j=r∨j=q:=fun {j} hj=>by
  have:=(idx_mem (rs:=[r,q])).1 (by simpa using hj);simpa using this
 refine YD [r,q] 2 hS.h (by simp[hrq]) (by simp) ?_ ?_ ?_ ?_ (hS.fx.refs (fun p=>by simp[Ga]) (fun p=>by simp[Ga])) ?_ (fun i p h1 h2=>by simp at h2;omega) (hS.fx.ren (fun p=>by simp[Og]) hd (fun p=>by simp[Og]) hd1) ?_ hck h
 ·rw[ha];exact hS.fa.ren d0 (fun _=>rfl) d1 (fun _=>rfl)
 ·rw[ha];exact hS.fa.refs (fun p=>by simp[Oh]) (fun p=>by simp[Oh,i1])
 ·funext o;cases o with
  |nil=>rfl
  |cons i p=>
   by_cases hi:i<2
   ·simp only[K7,if_pos hi];have h01:i=0∨i=1:=by omega
    rcases h01 with rfl | rfl
    ·show(H (r::p)).ren _ _ 0=_;rw[hF];simp only[Be,if_true];exact(F.ren d0 (fun _=>rfl) d1 (fun _=>rfl) p).1
    ·show(H (q::p)).ren _ _ 0=_;rw[hG];simp only[Be,if_true];rw[if_neg (by omega)];exact(F.ren d0 (fun _=>rfl) d1 (fun _=>rfl) p).2
   ·simp only[K7,if_neg hi,Be];rw[if_neg (by omega),if_neg (by omega)];rfl
 ·intro j p hj;rcases jin hj with rfl | rfl
  ·rw[hF];exact(F.refs (fun p=>by simp[Oh]) (fun p=>by simp[Oh,i1]) p).1
  ·rw[hG];exact(F.refs (fun p=>by simp[Oh]) (fun p=>by simp[Oh,i1]) p).2
 ·intro i p hi;have hi:i<2:=hi;by_cases h0:i=0
  ·subst h0;simp only[Be,if_true];exact(F'.refs (fun q=>by simp[Ga]) (fun q=>by simp[Ga]) p).1
  ·have:i=1:=by omega
   subst this;simp only[Be,if_true];rw[if_neg (by omega)];exact(F'.refs (fun q=>by simp[Ga]) (fun q=>by simp[Ga]) p).2
 ·have u0:∀ p,Og [r,q] (0::p)=r::p:=fun p=>by simp[Og]
  have u1:∀ p,Og [r,q] (1::p)=q::p:=fun p=>by simp[Og]
  funext o;cases o with
  |nil=>rfl
  |cons j p=>
   by_cases hj:j=r
   ·subst hj;simp only[Lk,Be,if_true];rw[if_pos (by simp),i0,if_pos rfl,hd];exact(F'.ren u0 hd u1 hd1 p).1
   ·by_cases hj2:j=q
    ·subst hj2;simp only[Lk,Be,if_true,if_neg hj];rw[if_pos (by simp),i1,if_neg (by omega),if_pos rfl,hd1];exact(F'.ren u0 hd u1 hd1 p).2
    ·have:¬ [r,q].contains j=true:=by simp[hj,hj2]
     simp only[Lk,if_neg this,Be,if_neg hj,if_neg hj2]
theorem kQ {as':Nat→Nat→List A} {F F':Qm} {x:Nat→Nat→A} {fo:Operand} {fs caps:List A} (r q:Nat) (hv0:evs s fo = .fnc g fs caps) (hrq:r ≠ q) (hS:JB P g as' F x F') (hF:∀ p,H (r::p)=F.B r q p) (hG:∀ p,H (q::p)=F.C r q p) (ha:fs++(aa.toList.map (evs s)++caps)=as' r q) (hck:Ck un lg ⟨[],[([r],true),([q],true)]⟩)
  (h:An P K rest (A9 l ix ⟨[],[([r],true),([q],true)]⟩ lg) (Sta.put ⟨s,H⟩ dd (x r q) (ov r (F'.B r q) (ov q (F'.C r q) H)))) :
  An P K (⟨dd,.call { callee:=.value fo,args:=aa,argTypes:=ts },none,nm,ix,un,l⟩::rest) lg ⟨s,H⟩:=by
 have hd:∀ p,MP [r,q] 2 H (0::p)=0:=fun p=>rfl;have hd1:∀ p,MP [r,q] 2 H (1::p)=0:=fun p=>rfl;have i0:[r,q].idxOf r=0:=by simp
 have i1:[r,q].idxOf q=1:=by simp[List.idxOf_cons,beq_eq_false_iff_ne.2 hrq]
 have d0:∀ p,Q2 [r,q] (r::p)=0::p:=fun p=>by simp[Q2]
 have d1:∀ p,Q2 [r,q] (q::p)=1::p:=fun p=>by simp[Q2,i1]
 have jin:∀ {j:Nat},[r,q].idxOf j<2→j=r∨j=q:=fun {j} hj=>by
  have:=(idx_mem (rs:=[r,q])).1 (by simpa using hj);simpa using this
 refine Vm hv0 ha [r,q] 2 hS.h (by simp[hrq]) (by simp) ?_ ?_ ?_ ?_ (hS.fx.refs (fun p=>by simp[Ga]) (fun p=>by simp[Ga])) ?_ (fun i p h1 h2=>by simp at h2;omega) (hS.fx.ren (fun p=>by simp[Og]) hd (fun p=>by simp[Og]) hd1) ?_ hck h
 ·exact hS.fa.ren d0 (fun _=>rfl) d1 (fun _=>rfl)
 ·exact hS.fa.refs (fun p=>by simp[Oh]) (fun p=>by simp[Oh,i1])
 ·funext o;cases o with
  |nil=>rfl
  |cons i p=>
   by_cases hi:i<2
   ·simp only[K7,if_pos hi];have h01:i=0∨i=1:=by omega
    rcases h01 with rfl | rfl
    ·show(H (r::p)).ren _ _ 0=_;rw[hF];simp only[Be,if_true];exact(F.ren d0 (fun _=>rfl) d1 (fun _=>rfl) p).1
    ·show(H (q::p)).ren _ _ 0=_;rw[hG];simp only[Be,if_true];rw[if_neg (by omega)];exact(F.ren d0 (fun _=>rfl) d1 (fun _=>rfl) p).2
   ·simp only[K7,if_neg hi,Be];rw[if_neg (by omega),if_neg (by omega)];rfl
 ·intro j p hj;rcases jin hj with rfl | rfl
  ·rw[hF];exact(F.refs (fun p=>by simp[Oh]) (fun p=>by simp[Oh,i1]) p).1
  ·rw[hG];exact(F.refs (fun p=>by simp[Oh]) (fun p=>by simp[Oh,i1]) p).2
 ·intro i p hi;have hi:i<2:=hi;by_cases h0:i=0
  ·subst h0;simp only[Be,if_true];exact(F'.refs (fun q=>by simp[Ga]) (fun q=>by simp[Ga]) p).1
  ·have:i=1:=by omega
   subst this;simp only[Be,if_true];rw[if_neg (by omega)];exact(F'.refs (fun q=>by simp[Ga]) (fun q=>by simp[Ga]) p).2
 ·have u0:∀ p,Og [r,q] (0::p)=r::p:=fun p=>by simp[Og]
  have u1:∀ p,Og [r,q] (1::p)=q::p:=fun p=>by simp[Og]
  funext o;cases o with
  |nil=>rfl
  |cons j p=>
   by_cases hj:j=r
   ·subst hj;simp only[Lk,Be,if_true];rw[if_pos (by simp),i0,if_pos rfl,hd];exact(F'.ren u0 hd u1 hd1 p).1
   ·by_cases hj2:j=q
    ·subst hj2;simp only[Lk,Be,if_true,if_neg hj];rw[if_pos (by simp),i1,if_neg (by omega),if_pos rfl,hd1];exact(F'.ren u0 hd u1 hd1 p).2
    ·have:¬ [r,q].contains j=true:=by simp[hj,hj2]
     simp only[Lk,if_neg this,Be,if_neg hj,if_neg hj2]
end
theorem F8 {P:Program} {f:FuncId} {n:Nat} {rs:List ResultVar} {cc:CC} {as':Nat→Nat→List A} {F F':Qm} {x:Nat→Nat→A} (t:BU P f n rs cc) (ha:(as' 0 1).length≤n) (h0:RX as') (h1:SG x)
  (h:∀ w0 I0 M0 m0,WPC (DD P w0 I0 M0 n m0) cc (MJ (DD P w0 I0 M0 n m0) rs 2 (x 0 1) (ov 0 (F'.B 0 1) (ov 1 (F'.C 0 1) (FR [])))) ⟨NB (as' 0 1),ov 0 (F.B 0 1) (ov 1 (F.C 0 1) (FR []))⟩):JB P f as' F x F':=
 ⟨h0,h1,Z4 t ha h⟩
theorem EE {P:Program} {K:Sta→Prop} {rest:List CO} {s:Nat→A} {H:Hp} {dd:Option Nat} {nm:Nm} {ix:Nat} {un:List Nat} {l:Bool} {lg:Lg} {g:FuncId} {aa:Array Operand} {ts:Array TypeId} {ars:Nat→List A} {F:Fam} {x:Nat→A} (r:Nat) (hS:SpecF P g ars F x F) (hF:∀ p,H (r::p)=F.F r p) (ha:aa.toList.map (evs s)=ars r) (hck:Ck un lg ⟨[([r],true)],[]⟩)
  (h:An P K rest (A9 l ix ⟨[([r],true)],[]⟩ lg) (Sta.put ⟨s,H⟩ dd (x r) H)) :
  An P K (⟨dd,.call { callee:=.value (.func g),args:=aa,argTypes:=ts },none,nm,ix,un,l⟩::rest) lg ⟨s,H⟩:=by
 refine ZP .nil [([r],true)] [] (fun H2 hag=>?_) (fun o H2 ho=>rfl) hck h;rw[ha];have hF2:∀ p,H2 (r::p)=F.F r p:=fun p=>by rw[hag (r::p) (by simp[SH,Pp,List.isPrefixOf]),hF]
 obtain⟨E,hc,hE⟩:=Vy r hS hF2;have hc3:Qj P H2 g (ars r) (x r) E:=by
  rcases hc with ⟨_,_,_,_,h5⟩ | ⟨_,_,_,h4⟩ | ⟨h1,_⟩
  ·cases h5
  ·cases h4
  ·exact h1 H2 (fun o _=>rfl)
 have e2:ov r (F.F r) H2=H2:=by
  funext o;cases o with
  |nil=>rfl
  |cons j p=>
   by_cases hj:j=r
   ·subst hj;simp[hF2]
   ·simp[hj]
 rw[e2] at hE;refine⟨hc3.1,fun c w I μ vs a b d e=>?_⟩;have:=hc3.2 c w I μ vs a b d e;rw[hE] at this;exact this
end Go.G
namespace Go.PL
def Tf (stop:Nat→Bool) (pl:List Nat):Nat→Nat→Nat
 |0,a=>a
 |f+1,a=>if pl.getD a 0=0 then a else if stop (pl.getD a 0)=true then a else Tf stop pl f ((a+1) % pl.length)
theorem Td (a d m:Nat):((a+1) % m+d) % m=(a+(d+1)) % m:=by
 rw[Nat.mod_add_mod];congr 1;omega
theorem iq {stop:Nat→Bool} {pl:List Nat}:∀ (f a d:Nat),a<pl.length→d<f→pl.getD ((a+d) % pl.length) 0=0 →
  Tf stop pl f a<pl.length∧(pl.getD (Tf stop pl f a) 0=0∨stop (pl.getD (Tf stop pl f a) 0)=true) ∧
   ∃ k,Tf stop pl f a=(a+k) % pl.length∧∀ e,e<k→pl.getD ((a+e) % pl.length) 0 ≠ 0∧stop (pl.getD ((a+e) % pl.length) 0)=false:=by
 intro f;induction f with
 |zero=>intro a d _ h;omega
 |succ f ih=>
  intro a d ha hd hz;unfold Tf;have hself:∃ k,a=(a+k) % pl.length∧∀ e,e<k→pl.getD ((a+e) % pl.length) 0 ≠ 0∧stop (pl.getD ((a+e) % pl.length) 0)=false:=⟨0,by rw[Nat.add_zero,Nat.mod_eq_of_lt ha],fun e he=>by omega⟩;split
  ·rename_i h0;exact⟨ha,.inl h0,hself⟩
  ·rename_i h0;split
   ·rename_i h1;exact⟨ha,.inr h1,hself⟩
   ·rename_i h1;cases d with
    |zero=>rw[Nat.add_zero,Nat.mod_eq_of_lt ha] at hz;exact absurd hz h0
    |succ d=>
     obtain⟨p1,p2,k,p3,p4⟩:=ih ((a+1) % pl.length) d (Nat.mod_lt _ (by omega)) (by omega) (by rw[Td];exact hz);refine⟨p1,p2,k+1,by rw[p3,Td],fun e he=>?_⟩;cases e with
     |zero=>rw[Nat.add_zero,Nat.mod_eq_of_lt ha];exact⟨h0,by simpa using h1⟩
     |succ e=>
      have:=p4 e (by omega)
      rwa [Td] at this
structure Pl (hs:List Nat) (pl:List Nat):Prop where
 cnt:pl.countP (fun v=>v != 0)=hs.length
 vals:∀ v,v ∈ pl→v≤hs.length
 reach:∀ (c:Nat) (hc:c<hs.length),∃ d,pl[(hs[c]+d) % pl.length]? = some (c+1)∧∀ e,e<d→pl.getD ((hs[c]+e) % pl.length) 0 ≠ 0
theorem Pl.free {hs pl:List Nat} (h:Pl hs pl) (hl:hs.length<pl.length) (a:Nat):∃ d,d<pl.length∧pl.getD ((a+d) % pl.length) 0=0:=by
 have hm:∃ v,v ∈ pl∧v=0:=by
  apply Classical.byContradiction;intro hn;have:pl.countP (fun v=>v != 0)=pl.length:=List.countP_eq_length.2 fun v hv=>by
   simp only[bne_iff_ne,ne_eq];exact fun e=>hn ⟨v,hv,e⟩
  have:=h.cnt;omega
 obtain⟨v,hv,rfl⟩:=hm;obtain⟨i,hi,e⟩:=List.mem_iff_getElem.1 hv;refine⟨(i+(pl.length-a % pl.length)) % pl.length,Nat.mod_lt _ (by omega),?_⟩;have:(a+(i+(pl.length-a % pl.length)) % pl.length) % pl.length=i:=by
  rw[Nat.add_mod_mod];have h1:=Nat.mod_lt a (show 0<pl.length by omega);have h2:=Nat.div_add_mod a pl.length;have h3:a+(i+(pl.length-a % pl.length))=i+pl.length*(a / pl.length+1):=by
   rw[Nat.mul_add,Nat.mul_one];omega
  rw[h3,Nat.add_mul_mod_self_left,Nat.mod_eq_of_lt hi]
 rw[this];simp[hi,e]
theorem az {pl:List Nat} {a v:Nat} (ha:a<pl.length) (h0:pl.getD a 0=0) (hv:v ≠ 0):(pl.set a v).countP (fun v=>v != 0)=pl.countP (fun v=>v != 0)+1:=by
 induction pl generalizing a with
 |nil=>simp at ha
 |cons x l ih=>
  cases a with
  |zero=>
   simp at h0;subst h0;simp[hv]
  |succ a=>
   simp only[List.set_cons_succ,List.countP_cons];rw[ih (by simpa using ha) (by simpa using h0)];omega
theorem Pl.ins {hs pl:List Nat} (h:Pl hs pl) {x a k:Nat} (ha:a<pl.length) (h0:pl.getD a 0=0) (he:a=(x+k) % pl.length) (hk:∀ e,e<k→pl.getD ((x+e) % pl.length) 0 ≠ 0):Pl (hs++[x]) (pl.set a (hs.length+1)):=by
 have hmod:∀ y,y % pl.length<pl.length:=fun y=>Nat.mod_lt _ (by omega);have nz:∀ y,pl.getD (y % pl.length) 0 ≠ 0→(pl.set a (hs.length+1)).getD (y % pl.length) 0 ≠ 0:=fun y hy=>by
  have hne:a ≠ y % pl.length:=fun e=>hy (by rw[← e];exact h0);simpa[List.getD_eq_getElem?_getD,List.getElem?_set_ne hne] using hy
 refine⟨?_,fun v hv=>?_,fun c hc=>?_⟩
 ·rw[az ha h0 (by omega),h.cnt];simp
 ·rw[List.length_append,List.length_singleton];rcases List.mem_or_eq_of_mem_set hv with hv | rfl
  ·have:=h.vals v hv;omega
  ·omega
 ·simp only[List.length_set];by_cases hcl:c<hs.length
  ·obtain⟨d,h1,h2⟩:=h.reach c hcl;rw[List.getElem_append_left hcl];refine⟨d,?_,fun e he=>nz _ (h2 e he)⟩;have hne:a ≠ (hs[c]+d) % pl.length:=fun e=>by
    rw[← e] at h1;rw[List.getD_eq_getElem?_getD,h1] at h0;simp at h0
   rw[List.getElem?_set_ne hne,h1]
  ·have:c=hs.length:=by simp at hc;omega
   subst this;rw[List.getElem_append_right (Cj _)];simp only[Nat.sub_self,List.getElem_cons_zero];refine⟨k,?_,fun e he=>nz _ (hk e he)⟩;rw[← he,List.getElem?_set_self ha]
def insP (pl:List Nat) (x v:Nat):List Nat:=pl.set (Tf (fun _=>false) pl pl.length (x % pl.length)) v
def ec:List Nat→Nat→List Nat→List Nat
 |pl,_,[]=>pl
 |pl,i,x::hs=>ec (insP pl x (i+1)) (i+1) hs
@[simp] theorem sM {pl:List Nat} {x v:Nat}:(insP pl x v).length=pl.length:=by simp[insP]
theorem Pl.nil (m:Nat):Pl [] (List.replicate m 0):=by
 refine⟨?_,fun v hv=>?_,fun c hc=>?_⟩
 ·simp[List.countP_replicate]
 ·simp at hv;omega
 ·simp at hc
theorem kY {stop:Nat→Bool} {pl:List Nat} {x:Nat} {hs:List Nat} (h:Pl hs pl) (hl:hs.length<pl.length) :
  Tf stop pl pl.length (x % pl.length)<pl.length∧(pl.getD (Tf stop pl pl.length (x % pl.length)) 0=0∨stop (pl.getD (Tf stop pl pl.length (x % pl.length)) 0)=true) ∧
   ∃ k,Tf stop pl pl.length (x % pl.length)=(x+k) % pl.length∧∀ e,e<k→pl.getD ((x+e) % pl.length) 0 ≠ 0∧stop (pl.getD ((x+e) % pl.length) 0)=false:=by
 obtain⟨d,h1,h2⟩:=h.free hl (x % pl.length);have:=iq (stop:=stop) pl.length (x % pl.length) d (Nat.mod_lt _ (by omega)) h1 h2;simpa using this
theorem Pl.insP {hs pl:List Nat} (h:Pl hs pl) (hl:hs.length<pl.length) (x:Nat):Pl (hs++[x]) (insP pl x (hs.length+1)):=by
 obtain⟨h1,h2,k,h3,h4⟩:=kY (stop:=fun _=>false) (x:=x) h hl;refine h.ins h1 (h2.resolve_right (by simp)) h3 fun e he=>(h4 e he).1
theorem Pl.grow:∀ {hs2 hs pl:List Nat},Pl hs pl→hs.length+hs2.length≤pl.length→Pl (hs++hs2) (ec pl hs.length hs2)
 |[],hs,pl,h,_=>by simpa[ec] using h
 |x::hs2,hs,pl,h,hl=>by
  simp only[List.length_cons] at hl;have h1:=h.insP (by omega) x;have:=Pl.grow (hs2:=hs2) h1 (by simp;omega);rw[List.append_assoc] at this;simpa[ec] using this
noncomputable def EL (ks:List T) (n:T):Nat:=ks.findIdx (fun k=>ET k n)
noncomputable def FV (ks:List T) (n:T):List T:=if EL ks n<ks.length then ks else ks++[n]
theorem rj {ks:List T} {n:T} {i:Nat} (h:i<ks.length) (e:ks[i]=n) (hd:ks.Nodup):EL ks n=i:=by
 have h1:EL ks n≤i:=by
  apply Classical.byContradiction;intro hn;have:=List.not_of_lt_findIdx (p:=fun k=>ET k n) (xs:=ks) (i:=i) (by unfold EL at hn;omega);simp[sameB_iff.2 e] at this
 have h2:EL ks n<ks.length:=by omega
 have h3:ks[EL ks n]=n:=sameB_iff.1 (List.findIdx_getElem (p:=fun k=>ET k n) (w:=h2));apply Classical.byContradiction;intro hn;have h4:EL ks n<i:=by omega
 have:=List.pairwise_iff_getElem.1 hd _ _ h2 h h4;exact this (by rw[h3,e])
theorem gZ {ks:List T} {n:T} (h:n ∉ ks):EL ks n=ks.length:=by
 unfold EL;rw[List.findIdx_eq_length];intro x hx;rw[Bool.eq_false_iff];intro e;rw[sameB_iff] at e;subst e;exact h hx
theorem eR (ks:List T) (n:T):EL ks n≤ks.length:=List.findIdx_le_length
theorem p9 {ks:List T} {n:T}:EL ks n<ks.length ↔ n ∈ ks:=by
 constructor
 ·intro h;have h3:ks[EL ks n]=n:=sameB_iff.1 (List.findIdx_getElem (p:=fun k=>ET k n) (w:=h));rw[← h3];exact C5 _
 ·intro h;have:=eR ks n;apply Classical.byContradiction;intro hn;have e:EL ks n=ks.length:=by omega
  have:=(List.findIdx_eq_length (p:=fun k=>ET k n) (xs:=ks)).1 e n h;rw[Bool.eq_false_iff] at this;exact this (sameB_iff.2 rfl)
theorem ai {ks:List T} {n:T} (h:ks.Nodup):(FV ks n).Nodup:=by
 unfold FV;split
 ·exact h
 ·rename_i hn;rw[p9] at hn;rw[List.nodup_append];exact⟨h,by simp,fun a ha b hb=>by simp at hb;subst hb;exact fun e=>hn (e ▸ ha)⟩
noncomputable def Cs:List T→List T→List T × List Nat
 |ks,[]=>(ks,[])
 |ks,t::l=>((Cs (FV ks (Ag t)) l).1,EL ks (Ag t)::(Cs (FV ks (Ag t)) l).2)
end Go.PL
namespace Go.Proofs.YtndnlknocdangaaGreat
open Go Go.G Go.Proofs Go.PL
structure Cl where
 l:List (List Int)
 r:Rf
 t:T
noncomputable def Cl.h (c:Cl):Int:=su (Ag c.t)
noncomputable def Cl.hn (c:Cl):Nat:=c.h.toNat
abbrev clL (h:Int) (l:List (List Int)) (r:Rf):List A:=uv h::paL l r
noncomputable def Cl.a (c:Cl):A:=.agg (clL c.h c.l c.r)
abbrev nv (n:Nat):A:=iv (n:Int)
structure Tb where
 u:Nat
 uc:Nat
 up:Nat
 cl:List Cl
 pl:List Nat
structure Tb.Ok (S:Tb):Prop where
 p8:8≤S.pl.length
 half:2*S.cl.length≤S.pl.length
 most:S.pl.length≤8+4*S.cl.length
 pl:Pl (S.cl.map Cl.hn) S.pl
 means:∀ c,c ∈ S.cl→Sg c.l∧dG c.l c.r c.t
 nd:(S.cl.map fun c=>Ag c.t).Nodup
noncomputable def Tb.ks (S:Tb):List T:=S.cl.map fun c=>Ag c.t
@[simp] theorem Tb.ks_length (S:Tb):S.ks.length=S.cl.length:=by simp[Tb.ks]
theorem Tb.Ok.lt {S:Tb} (h:S.Ok):S.cl.length<S.pl.length:=by have:=h.p8;have:=h.half;omega
structure Tb.Ok1 (S:Tb):Prop where
 p8:8≤S.pl.length
 half:2*S.cl.length≤S.pl.length+2
 most:S.pl.length≤8+4*S.cl.length
 pl:Pl (S.cl.map Cl.hn) S.pl
 means:∀ c,c ∈ S.cl→Sg c.l∧dG c.l c.r c.t
 nd:(S.cl.map fun c=>Ag c.t).Nodup
theorem Tb.Ok1.ok {S:Tb} (h:S.Ok1) (hf:¬ S.pl.length<2*S.cl.length):S.Ok:=⟨h.p8,by omega,h.most,h.pl,h.means,h.nd⟩
variable {n0:Nat} {w0:World} {I0:Nat→Prop} {Q:Exit→Sta→Prop}
end Go.Proofs.YtndnlknocdangaaGreat
namespace Go.G
open Go.RowKit
theorem Sim.move {c:Cx} {w:World} {I:Nat→Prop} {μ:Mu} {H:Hp} (hs:Sim c w I μ H) {d d':Nm} (hne:d ≠ d') (h0:(H d').u=0) (h1:1≤(H d).u) (hM:∀ b,¬ c.M0 d b) (htg:∀ e,CF d' e=true) :
  Ext I μ w I (AJ μ d' (μ d)) w∧Sim c w I (AJ μ d' (μ d)) (AJ (AJ H d' (H d)) d ⟨(H d).u,.none⟩):=by
 have hu0:(μ d').u=0:=by rw[hs.ver,h0]
 have hu1:1≤(μ d).u:=by rw[hs.ver];exact h1
 have hm:MuLe μ (AJ μ d' (μ d)):=fun o=>by
  by_cases e:o=d'
  ·subst e;rw[CN];exact⟨by omega,fun e=>by omega⟩
  ·rw[AD e];exact⟨Cj _,fun _=>rfl⟩
 have hx:Ext I μ w I (AJ μ d' (μ d)) w:=⟨fun b h=>h,fun b h=>rfl,hm⟩;have hd:(AJ (AJ H d' (H d)) d ⟨(H d).u,.none⟩:Hp) d=⟨(H d).u,.none⟩:=CN;have hd':(AJ (AJ H d' (H d)) d ⟨(H d).u,.none⟩:Hp) d'=H d:=by rw[AD (Ne.symm hne),CN]
 have hoth:∀ o,o ≠ d→o ≠ d'→(AJ (AJ H d' (H d)) d ⟨(H d).u,.none⟩:Hp) o=H o:=fun o e1 e2=>by rw[AD e1,AD e2]
 -- who has a block has it in the old state,under an old name
 have old:∀ o,DR (AJ μ d' (μ d) o) ((AJ (AJ H d' (H d)) d ⟨(H d).u,.none⟩:Hp) o).ob=true→∃ p,DR (μ p) (H p).ob=true∧(AJ μ d' (μ d) o)=μ p∧(o=d'∧p=d∨o ≠ d'∧o ≠ d∧p=o):=fun o h=>by
  by_cases e1:o=d
  ·subst e1;rw[hd] at h;cases h
  ·by_cases e2:o=d'
   ·subst e2;rw[hd',CN] at h;exact⟨d,h,CN,.inl ⟨rfl,rfl⟩⟩
   ·rw[hoth o e1 e2,AD e2] at h;exact⟨o,h,AD e2,.inr ⟨e2,e1,rfl⟩⟩
 refine⟨hx,hs.kept,hs.lt,hs.old,hs.new,fun o=>?_,fun o=>?_,fun o o' k k' hoo=>?_,fun o k=>?_,hs.mle.trans hm,fun o k=>?_,hs.tab⟩
 ·by_cases e1:o=d
  ·subst e1;rw[hd,AD hne];exact hs.ver o
  ·by_cases e2:o=d'
   ·subst e2;rw[hd',CN];exact hs.ver d
   ·rw[hoth o e1 e2,AD e2];exact hs.ver o
 ·by_cases e1:o=d
  ·subst e1;rw[hd];trivial
  ·by_cases e2:o=d'
   ·subst e2;rw[hd',CN];exact OSim.keep hx (fun _=>rfl) (hs.ob d)
   ·rw[hoth o e1 e2,AD e2];exact OSim.keep hx (fun _=>rfl) (hs.ob o)
 ·obtain⟨p,k1,k2,k3⟩:=old o k;obtain⟨p',g1,g2,g3⟩:=old o' k';rw[k2,g2];refine hs.apart p p' k1 g1 fun e=>hoo ?_;rcases k3 with ⟨a1,a2⟩ | ⟨a1,a2,a3⟩<;>rcases g3 with ⟨b1,b2⟩ | ⟨b1,b2,b3⟩
  ·rw[a1,b1]
  ·exact absurd (by rw[← b3,← e,a2]) b2
  ·exact absurd (by rw[← a3,e,b2]) a2
  ·rw[← a3,← b3,e]
 ·obtain⟨p,k1,k2,k3⟩:=old o k;rw[k2];obtain⟨q1,q2,q3⟩:=hs.own p k1;refine⟨q1,?_,q3⟩;rcases k3 with ⟨a1,a2⟩ | ⟨a1,a2,a3⟩
  ·subst a2;rcases q2 with h | h
   ·exact(hM _ h).elim
   ·exact .inr h
  ·subst a3;exact q2
 ·obtain⟨p,k1,k2,k3⟩:=old o k;rw[k2];rcases k3 with ⟨a1,a2⟩ | ⟨a1,a2,a3⟩
  ·rw[a1];exact htg _
  ·rw[← a3];exact hs.tag p k1
theorem N7 {c:Cx} {s:Nat→A} {H:Hp} (R:Nat→Prop) [DecidablePred R] (hM:∀ r p b,R r→¬ c.M0 (r::p) b) (t:Nat) (a:A) (hf:∀ H1:Hp,(∀ r p,R r→H1 (r::p)=H (r::p))→IZ H1 (s t) a) :
  ∃ H2:Hp,Le c ⟨s,H⟩ ⟨upd s t a,H2⟩∧∀ r p,¬ R r→H2 (r::p)=H (r::p):=by
 refine⟨fun o=>match o with | r::p=>if R r then ⟨(H (r::p)).u,.none⟩ else H (r::p) | []=>H [],Ve (H1:=fun o=>match o with | r::p=>if R r then H (r::p) else ⟨(H (r::p)).u,.none⟩ | []=>⟨(H []).u,.none⟩) (fun o b h=>?_) t a (fun o=>?_) (fun o=>?_) (fun o=>?_) (hf _ fun r p h=>if_pos h),fun r p h=>if_neg h⟩
 ·cases o with
  |nil=>exact absurd rfl h
  |cons r p=>
   by_cases hr:R r
   ·exact hM r p b hr
   ·exact absurd (by simp[hr]) h
 ·cases o with
  |nil=>exact .inr rfl
  |cons r p=>
   by_cases hr:R r
   ·exact .inl (by simp[hr])
   ·exact .inr (by simp[hr])
 ·cases o with
  |nil=>exact .inl rfl
  |cons r p=>
   by_cases hr:R r
   ·exact .inr (by simp[hr])
   ·exact .inl (by simp[hr])
 ·cases o with
  |nil=>exact .inl rfl
  |cons r p=>
   by_cases hr:R r
   ·exact .inr (by simp[hr])
   ·exact .inl (by simp[hr])
theorem Iz {c:Cx} {s:Nat→A} {H:Hp} (R:Nat→Prop) [DecidablePred R] (hM:∀ r p b,R r→¬ c.M0 (r::p) b) {r0:Nat} {p0:Nm} (hr0:¬ R r0) {u:Nat} {cs cs':List A} (hd:H (r0::p0)=⟨u,.cells cs⟩) (h1:A.ones cs'=true)
  (hf:∀ H1:Hp,(∀ r p,R r→H1 (r::p)=H (r::p))→Hy H1 cs cs') :
  ∃ H2:Hp,Le c ⟨s,H⟩ ⟨s,AJ H2 (r0::p0) ⟨u,.cells cs'⟩⟩∧∀ r p,¬ R r→H2 (r::p)=H (r::p):=by
 refine⟨fun o=>match o with | r::p=>if R r then ⟨(H (r::p)).u,.none⟩ else H (r::p) | []=>H [],fun a w I μ hs=>?_,fun r p h=>if_neg h⟩;have part1:Part H (fun o=>match o with | r::p=>if R r then H (r::p) else ⟨(H (r::p)).u,.none⟩ | []=>⟨(H []).u,.none⟩):=fun o=>by
  cases o with
  |nil=>exact .inr rfl
  |cons r p=>
   by_cases hr:R r
   ·exact .inl (by simp[hr])
   ·exact .inr (by simp[hr])
 have part2:Part H (fun o=>match o with | r::p=>if R r then ⟨(H (r::p)).u,.none⟩ else H (r::p) | []=>H []):=fun o=>by
  cases o with
  |nil=>exact .inl rfl
  |cons r p=>
   by_cases hr:R r
   ·exact .inr (by simp[hr])
   ·exact .inl (by simp[hr])
 have h3:=hs.sim.freezeAll part1 part2 (fun o=>by
  cases o with
  |nil=>exact .inl rfl
  |cons r p=>
   by_cases hr:R r
   ·exact .inr (by simp[hr])
   ·exact .inl (by simp[hr])) (fun o b h=>by
  cases o with
  |nil=>exact absurd rfl h
  |cons r p=>
   by_cases hr:R r
   ·exact hM r p b hr
   ·exact absurd (by simp[hr]) h)
 have hd2:(fun o=>match o with | r::p=>if R r then (⟨(H (r::p)).u,.none⟩:VOb) else H (r::p) | []=>H []:Hp) (r0::p0)=⟨u,.cells cs⟩:=by
  show(if R r0 then _ else _)=_;rw[if_neg hr0,hd]
 have hob:=hs.sim.ob (r0::p0);have hob:OSim w I μ (μ (r0::p0)) (.cells cs):=by
  have e:(⟨s,H⟩:Sta).H (r0::p0)=⟨u,.cells cs⟩:=hd;rw[e] at hob;exact hob
 obtain⟨vs,k1,k2,k3⟩:=hob;obtain⟨hl,hg⟩:=J2 (hf (fun o=>match o with | r::p=>if R r then H (r::p) else ⟨(H (r::p)).u,.none⟩ | []=>⟨(H []).u,.none⟩) fun r p h=>if_pos h);have hB:DR (μ (r0::p0)) ((fun o=>match o with | r::p=>if R r then (⟨(H (r::p)).u,.none⟩:VOb) else H (r::p) | []=>H []:Hp) (r0::p0)).ob=true:=by rw[hd2];rfl
 obtain⟨hx2,hs2⟩:=h3.upd (Fh w none) (r0::p0) (μ (r0::p0)) (.cells cs') (.inl rfl) (.inr rfl) (fun _=>.inr ⟨hB,rfl⟩) (fun _=>h3.tag _ hB) (fun hx2=>by
  refine⟨vs,k1,by rw[k2,hl],fun k y hk=>?_⟩;rw[Fg];obtain⟨x,hx,hfx⟩:=hg k y hk;simp only[A.ones,List.all_eq_true] at h1;exact⟨h1 y (List.mem_of_getElem? hk),(hfx c w I μ _ (hs.sim.part part1) (k3 k x hx).2).ofI⟩)
 have hu:(μ (r0::p0)).u=u:=by exact(h3.ver (r0::p0)).trans (congrArg VOb.u hd2)
 rw[hu] at hs2;exact⟨_,_,hs2,hs.size,hs.defers,fun t=>hx2.rel ((hs.rel t).mono0 (fun b h=>.inl h) (fun _ _=>rfl))⟩
theorem Iq {P:Program} {f:FuncId} {n:Nat} {rs:List ResultVar} {cc:CC} {as':Nat→List A} {F F':Fam} {x:Nat→A} (t:BU P f n rs cc) (ha:(as' 0).length≤n) (h0:FamL as') (h1:EH x)
  (h:∀ w0 I0 M0 m0,(∀ r p b,1≤r→¬ M0 (r::p) b)→WPC (DD P w0 I0 M0 n m0) cc (MJ (DD P w0 I0 M0 n m0) rs 1 (x 0) (ov 0 (F'.F 0) (FR []))) ⟨NB (as' 0),ov 0 (F.F 0) (FR [])⟩):SpecF P f as' F x F':=
 ⟨h0,h1,Mw t ha fun w0 I0 M0 m0 hM=>h w0 I0 M0 m0 fun r p b hr=>hM (r::p) b (by
  simp only[Be];rw[if_neg (by omega)];rfl)⟩
end Go.G
namespace Go.Proofs.YtndnlknocdangaaGreat
open Go Go.G Go.Proofs Go.PL
abbrev z0:List A:=[iv 0,.sl true [],.sl true []]
end Go.Proofs.YtndnlknocdangaaGreat
namespace Go.PL
def Ef {α:Type} (p:α→Bool) (l:List α):List α:=(l.reverse.dropWhile p).reverse
theorem R5 {α:Type} {p:α→Bool} (l:List α) (x:α):Ef p (l++[x])=if p x=true then Ef p l else l++[x]:=by
 unfold Ef;rw[List.reverse_append,List.reverse_singleton,List.singleton_append,List.dropWhile_cons];split<;>simp
theorem fq {α:Type} {P:List α→Prop} (h0:P []) (h1:∀ l x,P l→P (l++[x])) (l:List α):P l:=by
 have:∀ m:List α,P m.reverse:=by
  intro m;induction m with
  |nil=>exact h0
  |cons x m ih=>rw[List.reverse_cons];exact h1 _ _ ih
 have:=this l.reverse
 rwa [List.reverse_reverse] at this
theorem G0 {α:Type} {p:α→Bool} {z:α} (l:List α):(∀ x,x ∈ l→p x=true→x=z)→∀ i,(Ef p l).getD i z=l.getD i z:=by
 refine fq (P:=fun l=>(∀ x,x ∈ l→p x=true→x=z)→∀ i,(Ef p l).getD i z=l.getD i z) (fun _ i=>rfl) (fun l x ih h i=>?_) l;rw[R5];split
 ·rename_i hx;rw[ih (fun y hy=>h y (by simp[hy])) i];have:=h x (by simp) hx;subst this;simp only[List.getD_eq_getElem?_getD,List.getElem?_append];split
  ·rfl
  ·rw[List.getElem?_eq_none (by omega)];by_cases e:i-l.length=0
   ·simp[e]
   ·rw[List.getElem?_eq_none (by simp;omega)]
 ·rfl
theorem aX {α:Type} {p:α→Bool} {z:α} (l:List α):Ef p l ≠ []→p ((Ef p l).getD ((Ef p l).length-1) z)=false:=by
 refine fq (P:=fun l=>Ef p l ≠ []→p ((Ef p l).getD ((Ef p l).length-1) z)=false) (fun h=>absurd rfl h) (fun l x ih h=>?_) l;rw[R5] at h ⊢;split
 ·rename_i hx;rw[if_pos hx] at h;exact ih h
 ·rename_i hx;simp at hx ⊢;exact hx
theorem Yx {α:Type} {p:α→Bool} {z:α} (hz:p z=true) {a b:List α} (ha:∀ x,x ∈ a→p x=true→x=z) (hb:∀ x,x ∈ b→p x=true→x=z):Ef p a=Ef p b ↔ ∀ i,a.getD i z=b.getD i z:=by
 constructor
 ·intro h i;rw[← G0 a ha,h,G0 b hb]
 ·intro h;have h':∀ i,(Ef p a).getD i z=(Ef p b).getD i z:=fun i=>by rw[G0 a ha,G0 b hb,h]
  have one:∀ c d:List α,(∀ i,(Ef p c).getD i z=(Ef p d).getD i z)→(Ef p c).length≤(Ef p d).length:=fun c d hcd=>by
   by_cases e:Ef p c=[]
   ·simp[e]
   ·have hl:=aX (z:=z) c e;have hpos:0<(Ef p c).length:=List.length_pos_iff.2 e;rw[hcd] at hl;refine Nat.le_of_not_lt fun hlt=>?_;rw[List.getD_eq_getElem?_getD,List.getElem?_eq_none (by omega)] at hl;simp[hz] at hl
  have hlen:(Ef p a).length=(Ef p b).length:=Nat.le_antisymm (one a b h') (one b a fun i=>(h' i).symm);apply List.ext_getElem hlen;intro i h1 h2;have:=h' i;simpa[List.getD_eq_getElem?_getD,h1,h2] using this
theorem WC (l:List Int):C4 l=Ef (fun x=>x == 0) l:=rfl
theorem WG (l:List T):Cy l=Ef (fun x=>x.kind == 0) l:=rfl
theorem nQ {a b:List Int}:C4 a=C4 b ↔ ∀ i,a.getD i 0=b.getD i 0:=by
 rw[WC,WC];exact Yx rfl (fun x _ h=>by simpa using h) (fun x _ h=>by simpa using h)
theorem IV {t:T} (h:t.kind=0):Ag t=T0:=by cases t;simp at h;rw[Ci,if_pos h]
theorem Pf:Ag T0=T0:=IV rfl
theorem Fq (l:List T) (i:Nat):(l.map Ag).getD i T0=Ag (l.getD i T0):=by
 simp only[List.getD_eq_getElem?_getD,List.getElem?_map];cases l[i]? with
 |none=>simp[Pf]
 |some x=>rfl
theorem mz {a b:List T}:Cy (a.map Ag)=Cy (b.map Ag) ↔ ∀ i,Ag (a.getD i T0)=Ag (b.getD i T0):=by
 have hz:∀ c:List T,∀ x,x ∈ c.map Ag→(x.kind == 0)=true→x=T0:=fun c x hx h0=>by
  obtain⟨y,_,rfl⟩:=List.mem_map.1 hx;simp at h0;exact IV h0
 rw[WG,WG,Yx (z:=T0) rfl (hz a) (hz b)];constructor
 ·intro h i;rw[← Fq,← Fq];exact h i
 ·intro h i;rw[Fq,Fq];exact h i
theorem struct_eq {w w':List Int} {a b:List T}:Ag (.mk 1 w a)=Ag (.mk 1 w' b) ↔ (∀ i,w.getD i 0=w'.getD i 0)∧∀ i,Ag (a.getD i T0)=Ag (b.getD i T0):=by
 rw[Ci,Ci];simp only[if_neg (show ¬ (1:Int)=0 by decide),if_true,T.mk.injEq,true_and];rw[nQ,mz]
theorem LR {k:Int} {w w':List Int} {a b:List T} (h0:k ≠ 0) (h1:k ≠ 1):Ag (.mk k w a)=Ag (.mk k w' b) ↔ w=w'∧a.map Ag=b.map Ag:=by
 rw[Ci,Ci];simp[h0,h1]
theorem Es:∀ t,Ag (Ag t)=Ag t:=by
 refine T.ind fun k w ks ih=>?_;have hm:(ks.map Ag).map Ag=ks.map Ag:=by
  rw[List.map_map];exact List.map_congr_left fun x hx=>ih x hx
 rw[Ci];split
 ·exact Pf
 ·rename_i h0;split
  ·rename_i h1;subst h1;rw[struct_eq (w':=w) (b:=ks) |>.2 ⟨fun i=>?_,fun i=>?_⟩,Ci]
   ·simp
   ·rw[WC];exact G0 w (fun x _ h=>by simpa using h) i
   ·have hz:∀ x,x ∈ ks.map Ag→(x.kind == 0)=true→x=T0:=fun x hx h0=>by
     obtain⟨y,_,rfl⟩:=List.mem_map.1 hx;simp at h0;exact IV h0
    rw[WG,G0 _ hz i,← Fq,hm,Fq]
  ·rename_i h1;rw[Ci,if_neg h0,if_neg h1,hm]
end Go.PL
namespace Go.Proofs.YtndnlknocdangaaGreat
open Go Go.G Go.Proofs Go.PL
theorem VT {a b:List T} (hl:a.length=b.length):a.map Ag=b.map Ag ↔ ∀ i,Ag (a.getD i T0)=Ag (b.getD i T0):=by
 constructor
 ·intro h i;rw[← Fq,h,Fq]
 ·intro h;apply List.ext_getElem (by simpa using hl);intro i h1 h2;have:=h i;simp at h1 h2;simpa[List.getD_eq_getElem?_getD,h1,h2] using this
variable {n0:Nat} {w0:World} {I0:Nat→Prop} {Q:Exit→Sta→Prop}
def V9:Nat→Nat→Nat→Nat→Nat
 |0,_,_,_=>0
 |k+1,a,b,m=>(if m % 2=1 then b % 256 else a % 256)+256*V9 k (a / 256) (b / 256) (m / 2)
def DC:Nat→Nat→Nat
 |0,_=>0
 |k+1,m=>(if m % 2=1 then 255 else 0)+256*DC k (m / 2)
theorem T5:∀ k m,DC k m<256 ^ k
 |0,m=>by simp[DC]
 |k+1,m=>by
  have:=T5 k (m / 2);simp only[DC,Nat.pow_succ];split<;>omega
theorem VR:∀ k a b m,a<256 ^ k→b<256 ^ k→(a &&& (256 ^ k-1-DC k m)) ||| (b &&& DC k m)=V9 k a b m
 |0,a,b,m,ha,hb=>by
  simp at ha hb;subst ha hb;simp[V9,DC]
 |k+1,a,b,m,ha,hb=>by
  have hw:=T5 k (m / 2);rw[Nat.pow_succ] at ha hb;have ih:=VR k (a / 256) (b / 256) (m / 2) (by omega) (by omega);have p0:0<256 ^ k:=Nat.pow_pos (by decide);generalize hx:(a &&& (256 ^ (k+1)-1-DC (k+1) m)) ||| (b &&& DC (k+1) m)=x;have d1:DC (k+1) m / 256=DC k (m / 2):=by simp only[DC];split<;>omega
  have d2:(256 ^ (k+1)-1-DC (k+1) m) / 256=256 ^ k-1-DC k (m / 2):=by simp only[DC,Nat.pow_succ];split<;>omega
  have m1:DC (k+1) m % 256=if m % 2=1 then 255 else 0:=by simp only[DC];split<;>omega
  have m2:(256 ^ (k+1)-1-DC (k+1) m) % 256=if m % 2=1 then 0 else 255:=by simp only[DC,Nat.pow_succ];split<;>omega
  have e1:x / 256=V9 k (a / 256) (b / 256) (m / 2):=by
   have q1:=@Nat.or_div_two_pow (a &&& (256 ^ (k+1)-1-DC (k+1) m)) (b &&& DC (k+1) m) 8;have q2:=@Nat.and_div_two_pow a (256 ^ (k+1)-1-DC (k+1) m) 8;have q3:=@Nat.and_div_two_pow b (DC (k+1) m) 8;have c:(2:Nat) ^ 8=256:=rfl;rw[q2,q3,c,d1,d2,hx] at q1;rw[q1,ih]
  have e2:x % 256=if m % 2=1 then b % 256 else a % 256:=by
   have h:x % 2 ^ 8=(a % 2 ^ 8 &&& (256 ^ (k+1)-1-DC (k+1) m) % 2 ^ 8) ||| (b % 2 ^ 8 &&& DC (k+1) m % 2 ^ 8):=by
    rw[← hx,Nat.or_mod_two_pow,Nat.and_mod_two_pow,Nat.and_mod_two_pow]
   have c:(2:Nat) ^ 8=256:=rfl;rw[c,m1,m2] at h;rw[h];have h255:(255:Nat)=2 ^ 8-1:=rfl;split
   ·rw[h255,Nat.and_two_pow_sub_one_eq_mod];simp
   ·rw[h255,Nat.and_two_pow_sub_one_eq_mod];simp
  simp only[V9];omega
theorem Ze:∀ (k:Nat) (a b mask:Int),0≤a→0≤b→0≤mask→Zj ((List.range k).map fun i=>if Dz mask i=true then (Dh k b).getD i 0 else (Dh k a).getD i 0)=(V9 k a.toNat b.toNat mask.toNat:Nat)
 |0,a,b,mask,_,_,_=>by simp[Zj,V9]
 |k+1,a,b,mask,ha,hb,hm=>by
  have ih:=Ze k (a / 256) (b / 256) (mask / 2) (by omega) (by omega) (by omega);have e1:(a / 256).toNat=a.toNat / 256:=by omega
  have e2:(b / 256).toNat=b.toNat / 256:=by omega
  have e3:(mask / 2).toNat=mask.toNat / 2:=by omega
  rw[e1,e2,e3] at ih;rw[List.range_succ_eq_map,List.map_cons,List.map_map,Zj];have h:(List.range k).map ((fun i=>if Dz mask i=true then (Dh (k+1) b).getD i 0 else (Dh (k+1) a).getD i 0) ∘ Nat.succ)=(List.range k).map fun i=>if Dz (mask / 2) i=true then (Dh k (b / 256)).getD i 0 else (Dh k (a / 256)).getD i 0:=by
   refine List.map_congr_left fun i _=>?_;have hn:Dz mask (i+1)=Dz (mask / 2) i:=by
    unfold Dz;have:mask / 2 ^ (i+1)=mask / 2 / 2 ^ i:=by
     rw[Int.ediv_ediv_of_nonneg (by decide),Int.pow_succ,Int.mul_comm]
    rw[this]
   simp[Dh,hn]
  rw[h,ih];have h0:(Dz mask 0=true)=(mask.toNat % 2=1):=by
   simp[Dz];omega
  simp only[h0,V9,Dh,List.getD_cons_zero];split<;>omega
theorem nM {a b mask:Int} (ha:Bo a) (hb:Bo b) (h0:0≤mask):BV a b mask=(V9 8 a.toNat b.toNat mask.toNat:Nat):=by
 rw[← Ze 8 a b mask ha.1 hb.1 h0];unfold BV OG AY;rw[List.drop_eq_nil_of_le (by simp),List.append_nil]
def wS (mask:Int):Nat→Int
 |0=>0
 |i+1=>if bits .and .u8 (mask / 2 ^ min i 8) 1=1 then bits .or .u64 (wS mask i) (u64.wrap (255*2 ^ min (8*i) 64)) else wS mask i
theorem wZ:∀ m:Nat,m<256→wS m 8=(DC 8 m:Nat):=by decide +kernel
theorem iE {mask:Int} (hq:∀ q,Q (.exit 0) ⟨lk [(0,u8 mask),(3,uv (wS mask 8)),(5,iv 8),(6,bv q)],FR []⟩) :
  ∀ (j i:Nat),i+j=8→LoopC (cx Tryz.prog w0 I0 n0) H6 Q ⟨lk [(0,u8 mask),(3,uv (wS mask i)),(5,iv i)],FR []⟩:=by
 intro j;induction j with
 |zero=>
  intro i hi;have:i=8:=by omega
  subst this;refine Ab Ai H6.eq_1 ?_;simp;exact hq _
 |succ j ih=>
  intro i hi;refine Ab Ai H6.eq_1 ?_;have hlt:i<8:=by omega
  have hlt2:(i:Int)<8:=by omega
  have e8:i64.wrap (8*(i:Int))=((8*i:Nat):Int):=(Bf (by omega) (by omega)).trans (by omega);have ei:=AW i;have b8:IntKind.u8.bits=8:=rfl;have b64:u64.bits=64:=rfl;have hs:=ih (i+1) (by omega);rw[wS] at hs;have e9:(8*(i:Int)).toNat=8*i:=by omega
  simp[hlt,hlt2,e8,ei,b8,b64,e9];refine⟨fun hc=>⟨by omega,?_⟩,fun hc=>?_⟩
  ·rw[if_pos hc] at hs;exact hs
  ·rw[if_neg hc] at hs;exact hs
theorem Sr {mask:Int} (h0:0≤mask) (h1:mask<256):G.Spec Tryz.prog 163 [u8 mask] (uv (DC 8 mask.toNat:Nat)):=by
 refine Al ZC (by simp) fun w0 I0=>?_;unfold QV;simp;obtain⟨m,rfl⟩:=Int.eq_ofNat_of_zero_le h0;refine iE (fun q=>?_) 8 0 rfl;simp;rw[wZ m (by omega)];exact Ad rfl
theorem P1 {x:Nat} (h:x<2 ^ 64):(BitVec.ofInt 64 (x:Int)).toNat=x:=by
 rw[BitVec.toNat_ofInt];omega
theorem v9 {x y:Nat} (hx:x<2 ^ 64) (hy:y<2 ^ 64):bits .and .u64 x y=(x &&& y:Nat):=by
 have h:=Nat.lt_of_le_of_lt (Nat.and_le_left (n:=x) (m:=y)) hx;show u64.wrap ((BitVec.ofInt 64 x &&& BitVec.ofInt 64 y).toNat:Nat)=_;rw[BitVec.toNat_and,P1 hx,P1 hy];exact Gp (by omega) (by omega)
theorem z8 {x y:Nat} (hx:x<2 ^ 64) (hy:y<2 ^ 64):bits .or .u64 x y=(x ||| y:Nat):=by
 have h:=Nat.or_lt_two_pow hx hy;show u64.wrap ((BitVec.ofInt 64 x ||| BitVec.ofInt 64 y).toNat:Nat)=_;rw[BitVec.toNat_or,P1 hx,P1 hy];exact Gp (by omega) (by omega)
theorem qL {x y:Nat} (hx:x<2 ^ 64) (hy:y<2 ^ 64):bits .andNot .u64 x y=(x &&& (256 ^ 8-1-y):Nat):=by
 have h:=Nat.lt_of_le_of_lt (Nat.and_le_left (n:=x) (m:=256 ^ 8-1-y)) hx;show u64.wrap ((BitVec.ofInt 64 x &&& ~~~ BitVec.ofInt 64 y).toNat:Nat)=_;rw[BitVec.toNat_and,BitVec.toNat_not,P1 hx,P1 hy];have e:(2:Nat) ^ 64-1-y=256 ^ 8-1-y:=rfl;rw[e];exact Gp (by omega) (by omega)
theorem Fa {a b mask:Int} (ha:Bo a) (hb:Bo b) (h0:0≤mask) (h1:mask<256):G.Spec Tryz.prog 126 [uv a,uv b,u8 mask] (uv (BV a b mask)):=by
 refine Al bh (by simp) fun w0 I0=>?_;unfold T7;simp;refine Af (Sr h0 h1) (by simp) ?_;simp;refine Af (Sr h0 h1) (by simp) ?_;simp;refine Jz ?_;rw[nM ha hb h0];obtain⟨x,rfl⟩:=Int.eq_ofNat_of_zero_le ha.1;obtain⟨y,rfl⟩:=Int.eq_ofNat_of_zero_le hb.1;have hx:x<2 ^ 64:=by have:=ha.2;omega
 have hy:y<2 ^ 64:=by have:=hb.2;omega
 have hw:DC 8 mask.toNat<2 ^ 64:=T5 8 _;rw[qL hx hw,v9 hy hw,z8 (Nat.lt_of_le_of_lt Nat.and_le_left hx) (Nat.lt_of_le_of_lt Nat.and_le_left hy)];have:=VR 8 x y mask.toNat hx hy;simp only[Int.toNat_natCast];rw[← this]
theorem mh {t:T} (hl:t.kids.length*56≤140737488355328) (ih:∀ c,c ∈ t.kids→G.Spec Tryz.prog 35 [tX c] (tX (Ag c))) {v v0:VOb} {k w:A}:∀ (m i:Nat) (u:Nat) (H:Hp),i+m=t.kids.length→H [0]=v0→H [1]=v→H [2]=⟨1,.cells [k,w,.osl [4] u 3 0 i]⟩→H [4]=⟨u,.arr 3 ((t.kids.take i).map (tA ∘ Ag))⟩ →
  (∀ i' q (u':Nat) (H':Hp),H' [0]=v0→H' [1]=v→H' [2]=⟨1,.cells [k,w,.osl [4] u' 3 0 t.kids.length]⟩→H' [4]=⟨u',.arr 3 (t.kids.map (tA ∘ Ag))⟩→Q (.exit 0) ⟨lk [(1,.pob [0] 1 0),(2,.pob [1] 1 0),(3,.pob [2] 1 0),(17,BG t.kids),(18,iv t.kids.length),(19,iv i'),(20,bv q)],H'⟩) →
  LoopC (cx Tryz.prog w0 I0 n0) Ib Q ⟨lk [(1,.pob [0] 1 0),(2,.pob [1] 1 0),(3,.pob [2] 1 0),(17,BG t.kids),(18,iv t.kids.length),(19,iv i)],H⟩:=by
 intro m;induction m with
 |zero=>
  intro i u H hi hA hR hO hB hq;have:i=t.kids.length:=by omega
  subst this;refine Ab Ai Ib.eq_1 ?_;simp;exact hq _ _ u H hA hR hO (by rw[hB];simp)
 |succ m ihm=>
  intro i u H hi hA hR hO hB hq;have hlt:i<t.kids.length:=by omega
  have ei:=AW i;refine Ab Ai Ib.eq_1 ?_;simp[hlt,Aa,hO];refine Af (ih _ (C5 hlt)) rfl ?_;simp[Aa,hO,hB];have hrow:=YY (f:=tA ∘ Ag) hlt (x:=tX (Ag t.kids[i])) (by simp);rw[hrow,ei];refine⟨⟨by omega,by omega⟩,?_⟩;exact ihm (i+1) (u+1) _ (by omega) (by simp[Aa,hA]) (by simp[Aa,hR]) (by simp[Aa]) (by simp[Aa]) hq
theorem nh {w:List Int} (hl:w.length*8≤140737488355328) {v v4:VOb} {K:A}:∀ (n:Nat) (H:Hp),n≤w.length→C4 (w.take n)=C4 w→H [1]=v→H [2]=⟨1,.cells [iv 1,DN (w.take n),K]⟩→H [4]=v4 →
  (∀ q (H':Hp),H' [1]=v→H' [2]=⟨1,.cells [iv 1,DN (C4 w),K]⟩→H' [4]=v4→Q (.exit 2) ⟨lk [(2,.pob [1] 1 0),(3,.pob [2] 1 0),(48,bv q)],H'⟩) →
  LoopC (cx Tryz.prog w0 I0 n0) Ic Q ⟨lk [(2,.pob [1] 1 0),(3,.pob [2] 1 0)],H⟩:=by
 intro n;induction n with
 |zero=>
  intro H hn ht hR hO hB hq;refine Ab Ai Ic.eq_1 ?_;simp[hO];refine hq _ H hR ?_ hB;rw[← ht];simpa using hO
 |succ n ihn=>
  intro H hn ht hR hO hB hq;have hlt:n<w.length:=by omega
  have en:i64.wrap (n:Int)=n:=EJ;have emin:min (n+1) w.length=n+1:=by omega
  refine Ab Ai Ic.eq_1 ?_;by_cases h0:w[n]=0
  ·have hnn:(n:Int)<n+1:=by omega
   have hnn':(n:Int)≤n+1:=by omega
   have hs:List.take n (List.take (n+1) (List.map uv w))=(w.take n).map uv:=by rw[List.take_take,Nat.min_eq_left (by omega),List.map_take]
   simp[hO,emin,en,hlt,h0,hnn,hnn',hs];exact ihn _ (by omega) (by rw[← RY hlt h0];exact ht) (by simp[Aa,hR]) (by simp[Aa]) (by simp[Aa,hB]) hq
  ·have hnn:(n:Int)<n+1:=by omega
   simp[hO,emin,en,hlt,h0,hnn];refine hq _ H hR ?_ hB;rw[hO,← ht,Tq hlt h0]
theorem m8 {l:List T} (hl:l.length*56≤140737488355328) {v:VOb} {W:A} {u:Nat}:∀ (n:Nat) (H:Hp),n≤l.length→Cy (l.take n)=Cy l→H [1]=v→H [2]=⟨1,.cells [iv 1,W,.osl [4] u 3 0 n]⟩→H [4]=⟨u,.arr 3 (l.map (tA ∘ Ag))⟩ →
  (∀ q (H':Hp),H' [1]=v→H' [2]=⟨1,.cells [iv 1,W,.osl [4] u 3 0 (Cy l).length]⟩→H' [4]=⟨u,.arr 3 (l.map (tA ∘ Ag))⟩→Q (.exit 4) ⟨lk [(2,.pob [1] 1 0),(3,.pob [2] 1 0),(72,bv q)],H'⟩) →
  LoopC (cx Tryz.prog w0 I0 n0) Ik Q ⟨lk [(2,.pob [1] 1 0),(3,.pob [2] 1 0)],H⟩:=by
 intro n;induction n with
 |zero=>
  intro H hn ht hR hO hB hq;refine Ab Ai Ik.eq_1 ?_;simp[hO];refine hq _ H hR ?_ hB;rw[← ht];simpa using hO
 |succ n ihn=>
  intro H hn ht hR hO hB hq;have hlt:n<l.length:=by omega
  have en:i64.wrap (n:Int)=n:=EJ;have hnn:(n:Int)<n+1:=by omega
  have hnn':(n:Int)≤n+1:=by omega
  refine Ab Ai Ik.eq_1 ?_;by_cases h0:l[n].kind=0
  ·simp[hO,hB,en,hlt,h0,hnn,hnn'];exact ihn _ (by omega) (by rw[← Sh hlt h0];exact ht) (by simp[Aa,hR]) (by simp[Aa]) (by simp[Aa,hB]) hq
  ·simp[hO,hB,en,hlt,h0,hnn];refine hq _ H hR ?_ hB;rw[hO,← ht,Th hlt h0];simp;omega
theorem C8:∀ (t:T),AK t→G.Spec Tryz.prog 35 [tX t] (tX (Ag t)):=by
 refine T.ind fun k w l ih hw=>?_;have hw':=wfT_iff.1 hw;have hwl:=hw'.wl;have hkl:=hw'.kl;simp at hwl hkl;refine Al Yk (by simp) fun w0 I0=>?_;unfold Q8;rw[Ci];by_cases h0:k=0
 ·simp[h0];exact lL
 ·simp[h0];refine Af (cF false w hwl).spec rfl ?_;simp;refine LoopC.le (BX (d:=[2]) 2 [4] 3 rfl rfl (by simp)) ?_;simp;refine mh (t:=.mk k w l) (k:=iv k) (w:=DN w) (by simpa using hkl) (fun c hc=>ih c hc (hw'.ks c hc)) l.length 0 1 _ (by simp) rfl rfl (by simp) (by simp) fun i' q u' H' hA hR hO hB=>?_;by_cases h1:k=1
  ·subst h1;simp at hA hR hO hB;simp[hA,hR,hO,hB];refine LoopC.le (Ao [(2,.pob [1] 1 0),(3,.pob [2] 1 0)] (by simp)) ?_;refine nh hwl w.length _ (Cj _) (by rw[AX (Cj _)]) hR (by rw[hO,AX (Cj _)]) hB fun q H2 hR2 hO2 hB2=>?_;simp;refine m8 hkl l.length _ (Cj _) (by rw[AX (Cj _)]) hR2 hO2 hB2 fun q H3 hR3 hO3 hB3=>?_;simp[hO3,hR3,Aa];refine BZ ?_;simp;rw[UT];refine⟨Ad rfl,Ad rfl,?_⟩;have:=Te (H:=AJ H3 [1] ⟨1,.cells [iv 1,DN (C4 w),A.osl [4] u' 3 0 (Cy l).length]⟩) (o:=[4]) (u:=u') (sz:=3) (l:=l) (f:=tA ∘ Ag) (by simp[Aa,hB3]) (JT l) (by simp);rw[← List.map_take];show IZ _ _ (A.sl false (((l.take (Cy l).length).map Ag).map tA));rw[List.map_map];exact this
  ·simp at hA hR hO hB;simp[hA,hR,hO,hB,h1,Aa];refine BZ ?_;simp;refine⟨Ad rfl,Ad rfl,?_⟩;have:=B0 (H:=AJ H' [1] ⟨1,.cells [iv k,DN w,A.osl [4] u' 3 0 l.length]⟩) (o:=[4]) (u:=u') (sz:=3) (l:=l) (f:=tA ∘ Ag) (by simp[Aa,hB]) rfl (by simp);show IZ _ _ (A.sl false ((l.map Ag).map tA));rw[List.map_map];exact this
end Go.Proofs.YtndnlknocdangaaGreat
namespace Go.PL
def YZ (ws:List WE):Prop:=∀ w,w ∈ ws→0≤w.mask∧w.mask<256
end Go.PL
namespace Go.Proofs.YtndnlknocdangaaGreat
open Go Go.G Go.Proofs Go.PL
def dX (tw:List Int):Nat→Nat→List WE→Option (List Int)
 |0,_,_=>some []
 |m+1,i,[]=>(dX tw m (i+1) []).map (tw.getD i 0 :: ·)
 |m+1,i,x::xs=>if x.at_=(i:Int) then (if BV 0 (tw.getD i 0) x.mask=x.old then (dX tw m (i+1) xs).map (BV (tw.getD i 0) x.new x.mask :: ·) else none) else (dX tw m (i+1) (x::xs)).map (tw.getD i 0 :: ·)
def dQ (tk:List T):Nat→Nat→List (Int × (T→Option T))→Option (List T)
 |0,_,_=>some []
 |m+1,i,[]=>(dQ tk m (i+1) []).map (tk.getD i T0 :: ·)
 |m+1,i,x::xs=>if x.1=(i:Int) then (match x.2 (tk.getD i T0) with | none=>none | some u=>(dQ tk m (i+1) xs).map (u :: ·)) else (dQ tk m (i+1) (x::xs)).map (tk.getD i T0 :: ·)
noncomputable def Tx (tk:List T):Nat→List (Int × Int × List T × (T→Option T))→Option (List T × Nat)
 |a,[]=>some ([],a)
 |a,(k,n,l,f)::os=>
  if k=0 then (if a+n.toNat≤tk.length then (Tx tk (a+n.toNat) os).map (fun r=>((tk.drop a).take n.toNat++r.1,r.2)) else none)
  else if k=1 then (if a+l.length≤tk.length∧(((tk.drop a).take l.length).zip l).all (fun p=>Kd p.1 p.2)=true then Tx tk (a+l.length) os else none)
  else if k=2 then (Tx tk a os).map (fun r=>(l++r.1,r.2))
  else match tk[a]? with
   |none=>none
   |some x=>match f x with
    |none=>none
    |some u=>(Tx tk (a+1) os).map (fun r=>(u::r.1,r.2))
theorem Yn {tw:List Int} {m i:Nat} {rem:List WE} (h:∀ x xs,rem=x::xs→x.at_ ≠ (i:Int)):dX tw (m+1) i rem=(dX tw m (i+1) rem).map (tw.getD i 0 :: ·):=by
 cases rem with
 |nil=>rw[dX]
 |cons x xs=>rw[dX,if_neg (h x xs rfl)]
theorem qk {tw:List Int} {m i:Nat} {x:WE} {xs:List WE} (h:x.at_=(i:Int)) (hb:BV 0 (tw.getD i 0) x.mask=x.old):dX tw (m+1) i (x::xs)=(dX tw m (i+1) xs).map (BV (tw.getD i 0) x.new x.mask :: ·):=by rw[dX,if_pos h,if_pos hb]
theorem Yo {tk:List T} {m i:Nat} {rem:List (Int × (T→Option T))} (h:∀ x xs,rem=x::xs→x.1 ≠ (i:Int)):dQ tk (m+1) i rem=(dQ tk m (i+1) rem).map (tk.getD i T0 :: ·):=by
 cases rem with
 |nil=>rw[dQ]
 |cons x xs=>rw[dQ,if_neg (h x xs rfl)]
theorem pI {tk:List T} {m i:Nat} {x:Int × (T→Option T)} {xs:List (Int × (T→Option T))} {u:T} (h:x.1=(i:Int)) (hb:x.2 (tk.getD i T0)=some u):dQ tk (m+1) i (x::xs)=(dQ tk m (i+1) xs).map (u :: ·):=by rw[dQ,if_pos h,hb]
def Vt (ws:List WE) (n:Nat):Nat:=match ws.getLast? with | none=>n | some x=>max n (x.at_+1).toNat
def UU {β:Type} (ks:List (Int × β)) (n:Nat):Nat:=match ks.getLast? with | none=>n | some x=>max n (x.1+1).toNat
noncomputable def U5 (k:Int) (o n:T) (ws:List WE) (ks:List (Int × (T→Option T))) (list:Int) (os:List (Int × Int × List T × (T→Option T))) (t:T):Option T:=
 if k=0 then some (Ag t)
 else if k=1 then (if Kd o t=true then some (Ag n) else none)
 else if k=2 then (if t.kind=1 then (match dX t.words (Vt ws t.words.length) 0 ws,dQ t.kids (UU ks t.kids.length) 0 ks with
  |some w,some l=>some (Ag (.mk 1 w l))
  |_,_=>none) else none)
 else if k=3 then (if t.kind=list then (match Tx t.kids 0 os with
  |some (l,a)=>if a=t.kids.length then some (Ag (.mk t.kind [] l)) else none
  |none=>none) else none)
 else none
mutual
noncomputable def pg:E→T→Option T
 |.mk k o n ws ks l os,t=>U5 k o n ws (Ox ks) l (WM os) t
noncomputable def Ox:List KE→List (Int × (T→Option T))
 |[]=>[]
 |.mk a e::r=>(a,pg e)::Ox r
noncomputable def WM:List OP→List (Int × Int × List T × (T→Option T))
 |[]=>[]
 |.mk k n t e::r=>(k,n,t,pg e)::WM r
end
theorem Ww (k:Int) (o n:T) (ws:List WE) (ks:List KE) (l:Int) (os:List OP) (t:T):pg (.mk k o n ws ks l os) t=U5 k o n ws (Ox ks) l (WM os) t:=by rw[pg]
theorem X5:∀ ks:List KE,Ox ks=ks.map fun x=>(x.at_,pg x.e)
 |[]=>by rw[Ox];rfl
 |.mk a e::r=>by rw[Ox,X5 r];rfl
variable {n0:Nat} {w0:World} {I0:Nat→Prop} {Q:Exit→Sta→Prop}
theorem Yr:AK T0:=wfT_iff.2 ⟨by simp[BN],by simp,by simp,by simp,by simp⟩
theorem qC {t:T} (h:AK t) (i:Nat):AK (t.kids.getD i T0):=by
 by_cases hi:i<t.kids.length
 ·rw[List.getD_eq_getElem?_getD,List.getElem?_eq_getElem hi];exact(wfT_iff.1 h).ks _ (C5 hi)
 ·rw[List.getD_eq_getElem?_getD,List.getElem?_eq_none (by omega)];exact Yr
theorem Fk (a b mask:Int):Bo (BV a b mask):=by
 have h:=Vi (OG (AY a) (AY b) mask 8) SJ;rw[Jo (by rw[BP];exact Cj _),BP] at h;have e:(256:Int) ^ 8=18446744073709551616:=by decide
 rw[e] at h;exact⟨h.1,h.2⟩
section
variable {n0:Nat} {w0:World} {I0:Nat→Prop}
noncomputable def AgD (e:E) (t:T) (n m:Nat):Option T:=match dX t.words n 0 e.words,dQ t.kids m 0 (Ox e.kids) with
 |some w,some l=>some (.mk 1 w l)
 |_,_=>none
end
noncomputable def pO (e:E) (t:T):Option T:=if t.kind=1 then AgD e t (Vt e.words t.words.length) (UU (Ox e.kids) t.kids.length) else none
def Agj (x:OP):Prop:=(x.kind=0∧1≤x.n∧x.n≤1048576∧x.l=[])∨(x.kind=1∧x.n=0)∨(x.kind=2∧x.n=0)∨(x.kind=3∧x.n=0∧x.l=[])
structure LsH (e:E) (t:T) (k:Int) (acc:List T) (H:Hp):Prop where
 g0:H [0]=⟨1,.cells (eL e)⟩
 g1:H [1]=⟨1,.cells (tL t)⟩
 g2:H [2]=⟨1,.cells z0⟩
 g3:H [3]=⟨1,.cells [iv k,.sl true [],.osl [5] (acc.length+1) 3 0 acc.length]⟩
 g5:H [5]=⟨acc.length+1,.arr 3 (acc.map tA)⟩
theorem LsH.put {e:E} {t:T} {k:Int} {acc:List T} {H:Hp} (h:LsH e t k acc H) {d:Nm} (x:VOb) (hd:d ≠ [0]∧d ≠ [1]∧d ≠ [2]∧d ≠ [3]∧d ≠ [5]):LsH e t k acc (AJ H d x):=
 ⟨by rw[AD (Ne.symm hd.1)];exact h.g0,by rw[AD (Ne.symm hd.2.1)];exact h.g1,by rw[AD (Ne.symm hd.2.2.1)];exact h.g2,by rw[AD (Ne.symm hd.2.2.2.1)];exact h.g3,by rw[AD (Ne.symm hd.2.2.2.2)];exact h.g5⟩
end Go.Proofs.YtndnlknocdangaaGreat
namespace Go.G
open Go.RowKit
abbrev S (l:List UInt8):A:=.v (.string ⟨l.toArray⟩)
abbrev u8v (b:UInt8):A:=.v (.int .u8 b.toNat)
@[simp] theorem AaE (l:List UInt8):(ByteArray.mk l.toArray).size=l.length:=by simp[ByteArray.size]
@[simp] theorem Ad2 (l:List UInt8) (i:Nat):(ByteArray.mk l.toArray)[i]? = l[i]?:=by
 by_cases h:i<l.length
 ·have h':i<(ByteArray.mk l.toArray).size:=by simpa using h
  rw[getElem?_pos (ByteArray.mk l.toArray) i h',List.getElem?_eq_getElem h];rfl
 ·have h':¬ i<(ByteArray.mk l.toArray).size:=by simpa using h
  rw[getElem?_neg (ByteArray.mk l.toArray) i h',List.getElem?_eq_none (by omega)]
@[simp] theorem Ada (l:List UInt8) (i:Nat) (h:i<(ByteArray.mk l.toArray).size):(ByteArray.mk l.toArray)[i]'h=l[i]'(by simpa using h):=rfl
@[simp] theorem tc (l:List UInt8) (a b:Nat):(ByteArray.mk l.toArray).extract a b=ByteArray.mk ((l.drop a).take (b-a)).toArray:=by
 have h:((ByteArray.mk l.toArray).extract a b).data=((l.drop a).take (b-a)).toArray:=by
  rw[ByteArray.data_extract];simp
 cases hq:(ByteArray.mk l.toArray).extract a b with
 |mk d=>rw[hq] at h;simpa using h
@[simp] theorem tT (l m:List UInt8):ByteArray.mk l.toArray++ByteArray.mk m.toArray=ByteArray.mk (l++m).toArray:=Go.ByteArray.mk_append_mk l m
@[simp] theorem wz (l:List UInt8):(ByteArray.mk l.toArray).toList=l:=Go.ByteArray.toList_eq _
@[simp] theorem wV (l:List UInt8):Oe (l.map u8v)=some l:=by
 induction l with
 |nil=>rfl
 |cons b l ih=>
  have h:XX (u8v b)=some b:=by
   have:=b.toNat_lt;simp[XX];omega
  simp[Oe,h,ih]
@[simp] theorem Adq {P:Program} {t u:TypeId} {f:Bool} {xs:List A}:J0 P t u (.sl f xs)=match P.underlying t,P.underlying u with
  |some (.slice e),some .string=>(match P.underlying e,Oe xs with | some (.int .u8),some l=>some (S l) | _,_=>none)
  |_,_=>none:=by
 unfold J0;cases P.underlying t with
 |none=>rfl
 |some d=>
  cases P.underlying u with
  |none=>cases d<;>rfl
  |some d'=>cases d<;>cases d'<;>rfl
end Go.G
namespace Go.Proofs.YtndnlknocdangaaGreat
set_option maxRecDepth 20000
open Go Go.G Go.Proofs
def QH:CC:=sR [aB 2 false] [0] (sR [mO 3 0,bQ .geq 4 3 3 2 3,mO 5 4,mG 6 0 5 true,oG 7 (.binOp .leq 3 (xT 6) (nI 9) 3) 5 true,pF 8 5 7,aO 2 8] [2] (.ret))
theorem ZA:BU Tryz.prog 77 9 [(.tmp 2)] QH:=AH Tryz.func77
def BL:CC:=sR [bB .lss 14 3 13 12 3] [0,1,12,13,14] (.seq (cD 14 (.skip) (.exit 0)) (.keep [0,1,12,13] (.seq (.block 1 (sR [mO 15 13,aO 5 15] [0,1,5,12,13] (sR [mO 16 0,mO 17 5,iO 18 22 16 17,lO 19 61 18,mO 20 1,mO 21 5,iO 22 22 20 21,lO 23 61 22,bB .neq 24 61 19 23 61] [0,1,12,13,24] (cD 24 (sR [aB 4 false] [4] (.ret)) (.skip))))) (.keep [0,1,12,13] (.reg [bQ .add 25 3 13 1 3,mO 13 25] [0,1,12,13]))))) 
def Eg:CC:=sR [aB 4 false] [0,1] (sQ [mO 6 0,bN 7 6 22,mO 8 1,bN 9 8 22,bB .neq 10 3 7 9 3] [0,1,10] (cD 10 (sR [aB 4 false] [4] (.ret)) (.skip)) [0,1] (sQ [mO 11 0,bN 12 11 22,oO 13 (.move (nI 0))] [0,1,12,13] (.block 0 (.loop BL)) [] (sR [aB 4 true] [4] (.ret))))
theorem HM:BU Tryz.prog 89 26 [(.tmp 4)] Eg:=AH Tryz.func89
def Hq:CC:=sR [bB .lss 50 3 49 48 3] [2,3,48,49,50] (.seq (cD 50 (.skip) (.exit 0)) (.keep [2,3,48,49] (.seq (.block 1 (sR [mO 51 49,aO 5 51] [2,3,5,48,49] (sR [lO 52 25 2,mO 53 5,⟨some 54,(cL 90 #[(xT 52),(xT 53)] #[25,3]),none,[],2,[],true⟩,⟨some 55,(lD 25 3),none,[],3,[2],false⟩,mO 56 5,cB 57 90 55 56 25 3,bB .neq 58 61 54 57 61] [2,3,48,49,58] (cD 58 (sR [aB 4 false] [4] (.ret)) (.skip))))) (.keep [2,3,48,49] (.reg [bQ .add 59 3 49 1 3,mO 49 59] [2,3,48,49])))))
def Hj:CC:=sR [bB .lss 68 3 67 66 3] [2,3,66,67,68] (.seq (cD 68 (.skip) (.exit 2)) (.keep [2,3,66,67] (.seq (.block 3 (sR [mO 69 67,aO 6 69] [2,3,6,66,67] (sR [lO 70 25 2,mO 71 6,⟨some 72,(cL 70 #[(xT 70),(xT 71)] #[25,3]),none,[],2,[],true⟩,⟨some 73,(lD 25 3),none,[],3,[2],false⟩,mO 74 6,cB 75 70 73 74 25 3,cB 76 57 72 75 25 25,oO 77 (.unOp .not 4 (xT 76))] [2,3,66,67,77] (cD 77 (sR [aB 4 false] [4] (.ret)) (.skip))))) (.keep [2,3,66,67] (.reg [bQ .add 78 3 67 1 3,mO 67 78] [2,3,66,67])))))
def JF:CC:=sQ [fO 42 25 2 1,lO 43 22 42,bN 44 43 22,fO 45 25 3 1,lO 46 22 45,bN 47 46 22,oO 48 (bC .max #[(xT 44),(xT 47)] #[3,3]),oO 49 (.move (nI 0))] [2,3,48,49] (.block 0 (.loop Hq)) [2,3] (sQ [fO 60 25 2 2,lO 61 23 60,bN 62 61 23,fO 63 25 3 2,lO 64 23 63,bN 65 64 23,oO 66 (bC .max #[(xT 62),(xT 65)] #[3,3]),oO 67 (.move (nI 0))] [2,3,66,67] (.block 2 (.loop Hj)) [] (sR [aB 4 true] [4] (.ret))) 
def KK:CC:=sR [bX 2 25 0 [0],bX 3 25 1 [1],aB 4 false] [2,3] (sQ [fO 7 25 2 0,lO 8 3 7,fO 9 25 3 0,lO 10 3 9,bB .neq 11 3 8 10 3,mO 12 11,fG 13 25 2 0 12 false,lG 14 3 13 12 false,oG 15 (.binOp .eql 3 (xT 14) (nI 0) 3) 12 false,pT 16 12 15] [2,3,16] (cD 16 (sR [fO 17 25 2 0,lO 18 3 17,fO 19 25 3 0,lO 20 3 19,bB .eql 21 3 18 20 3,aO 4 21] [4] (.ret)) (.skip)) [2,3] (sQ [fO 22 25 2 0,lO 23 3 22,bQ .neq 24 3 23 1 3,mO 25 24,fG 26 25 2 2 25 true,lG 27 23 26 25 true,oG 28 (bL 27 23) 25 true,fG 29 25 3 2 25 true,lG 30 23 29 25 true,oG 31 (bL 30 23) 25 true,oG 32 (bO .neq 3 28 31 3) 25 true,mG 33 32 25 true,fG 34 25 2 1 33 false,lG 35 22 34 33 false,fG 36 25 3 1 33 false,lG 37 22 36 33 false,oG 38 (cL 89 #[(xT 35),(xT 37)] #[22,22]) 33 false,oG 39 (.unOp .not 4 (xT 38)) 33 false,oG 40 (.pick (xT 33) (nB true) (xT 39)) 25 true,pF 41 25 40] [2,3,41] (cD 41 (sR [aB 4 false] [4] (.ret)) (.skip)) [2,3] (.stop JF)))
theorem Pb:BU Tryz.prog 57 79 [(.tmp 4)] KK:=AH Tryz.func57
@[simp] theorem Ae8:Tryz.prog.underlying 219=some (.slice 159):=by kernel_rfl
@[simp] theorem Aer:Tryz.prog.underlying 221=some (.slice 224):=by kernel_rfl
@[simp] theorem Ad6:Tryz.prog.underlying 233=some (.slice 235):=by kernel_rfl
@[simp] theorem AfV:Tryz.prog.underlying 244=some (.slice 247):=by kernel_rfl
@[simp] theorem AfI:CX Tryz.prog 159=some 1:=by kernel_rfl
@[simp] theorem Ae2:CX Tryz.prog 224=some 2:=by kernel_rfl
@[simp] theorem AfN:CX Tryz.prog 235=some 2:=by kernel_rfl
@[simp] theorem AdM:CX Tryz.prog 244=some 1:=by kernel_rfl
@[simp] theorem Aet:CX Tryz.prog 247=some 3:=by kernel_rfl
@[simp] theorem AcO:Dj Tryz.prog 159=some false:=by kernel_rfl
@[simp] theorem Acv:Dj Tryz.prog 224=some true:=by kernel_rfl
@[simp] theorem AbB:Dj Tryz.prog 235=some true:=by kernel_rfl
@[simp] theorem Adh:Dj Tryz.prog 244=some false:=by kernel_rfl
@[simp] theorem Aba:Dj Tryz.prog 247=some true:=by kernel_rfl
@[simp] theorem xE:Bh Tryz.prog 159=some (Value.slice none 0 0):=by kernel_rfl
@[simp] theorem xY:Bh Tryz.prog 224=some (Value.agg #[Value.int i64 0,Value.int i64 0]):=by kernel_rfl
@[simp] theorem zF:Bh Tryz.prog 235=some (Value.agg #[Value.int i64 0,Value.int i64 0]):=by kernel_rfl
@[simp] theorem yD:Bh Tryz.prog 247=some (Value.agg #[Value.int i64 0,Value.int i64 0,Value.int i64 0]):=by kernel_rfl
@[simp] theorem vl:Bs Tryz.prog 159=some 24:=by kernel_rfl
@[simp] theorem tQ:Bs Tryz.prog 224=some 16:=by kernel_rfl
@[simp] theorem vt:Bs Tryz.prog 235=some 16:=by kernel_rfl
@[simp] theorem vJ:Bs Tryz.prog 247=some 24:=by kernel_rfl
@[simp] theorem jm:Aj Tryz.prog 224 0=some 0:=by kernel_rfl
@[simp] theorem jf:Aj Tryz.prog 224 1=some 1:=by kernel_rfl
@[simp] theorem jo:Aj Tryz.prog 235 0=some 0:=by kernel_rfl
@[simp] theorem jB:Aj Tryz.prog 235 1=some 1:=by kernel_rfl
@[simp] theorem jq:Aj Tryz.prog 247 0=some 0:=by kernel_rfl
@[simp] theorem jg:Aj Tryz.prog 247 1=some 2:=by kernel_rfl
@[simp] theorem xn (ps:List (Nat × A)):Ch Tryz.prog 224 ps=(CT (fun i=>([(0,1),(1,1)]:List (Nat × Nat))[i]?) [iv 0,iv 0] ps).map A.agg:=by kernel_rfl
@[simp] theorem vw (ps:List (Nat × A)):Ch Tryz.prog 235 ps=(CT (fun i=>([(0,1),(1,1)]:List (Nat × Nat))[i]?) [iv 0,iv 0] ps).map A.agg:=by kernel_rfl
@[simp] theorem uZ (ps:List (Nat × A)):Ch Tryz.prog 247 ps=(CT (fun i=>([(0,2),(2,1)]:List (Nat × Nat))[i]?) [iv 0,iv 0,iv 0] ps).map A.agg:=by kernel_rfl
def KS:CC:=sR [aB 2 false] [0] (sR [mO 3 0,mO 4 0,bB .neq 5 3 3 4 3,aO 2 5] [2] (.ret))
theorem Rk:BU Tryz.prog 207 6 [(.tmp 2)] KS:=AH Tryz.func207
def Ju:CC:=sR [aI 4 0] [0,1] (sR [mO 7 0,cA 8 207 7 3,aO 5 8] [0,1,5] (sR [mO 9 1,cA 10 207 9 3,aO 6 10] [0,1,5,6] (sQ [mO 11 5] [0,1,6,11] (cD 11 (sQ [mO 12 6] [12] (cD 12 (sR [aI 4 0] [4] (.ret)) (.skip)) [] (sR [oO 4 (.assign (.const (.int .i64 (-1))))] [4] (.ret))) (.skip)) [0,1,6] (sQ [mO 13 6] [0,1,13] (cD 13 (sR [aI 4 1] [4] (.ret)) (.skip)) [0,1] (sQ [mO 14 0,mO 15 1,bB .lss 16 3 14 15 3] [0,1,16] (cD 16 (sR [oO 4 (.assign (.const (.int .i64 (-1))))] [4] (.ret)) (.skip)) [0,1] (sQ [mO 17 0,mO 18 1,bB .gtr 19 3 17 18 3] [19] (cD 19 (sR [aI 4 1] [4] (.ret)) (.skip)) [] (sR [aI 4 0] [4] (.ret))))))))
theorem PA:BU Tryz.prog 200 20 [(.tmp 4)] Ju:=AH Tryz.func200
def FA:CC:=sR [bB .lss 9 3 8 7 3] [3,6,7,8,9] (.seq (cD 9 (.skip) (.exit 0)) (.keep [3,6,7,8] (.seq (.block 1 (sR [iO 10 159 6 8,lO 11 3 10,aO 5 11] [3,5,6,7,8] (sR [mO 12 5,mO 13 3,bB .neq 14 3 12 13 3] [3,5,6,7,8,14] (cD 14 (sR [mO 15 5,aO 2 15] [2] (.ret)) (.skip))))) (.keep [3,6,7,8] (.reg [bQ .add 16 3 8 1 3,mO 8 16] [3,6,7,8]))))) 
def Ps:CC:=sR [aI 2 0] [0] (sR [aI 3 0] [0,3] (sQ [mO 6 0,bN 7 6 159,oO 8 (.move (nI 0))] [3,6,7,8] (.block 0 (.loop FA)) [3] (sR [mO 17 3,aO 2 17] [2] (.ret))))
theorem Wb:BU Tryz.prog 245 18 [(.tmp 2)] Ps:=AH Tryz.func245
def HW:CC:=sR [bX 2 247 0 [0],bX 3 247 1 [1],aB 4 false] [2,3] (sR [fO 5 247 3 1,lO 6 3 5,fO 7 247 2 1,lO 8 3 7,⟨some 9,(cL 200 #[(xT 6),(xT 8)] #[3,3]),none,[],4,[],true⟩,fO 10 247 2 0,fO 11 235 10 0,⟨some 12,(lD 3 11),none,[],7,[4],false⟩,fO 13 247 3 0,fO 14 235 13 0,⟨some 15,(lD 3 14),none,[],10,[4],false⟩,⟨some 16,(cL 200 #[(xT 12),(xT 15)] #[3,3]),none,[],11,[],true⟩,fO 17 247 2 0,fO 18 235 17 1,⟨some 19,(lD 3 18),none,[],14,[4,11],false⟩,fO 20 247 3 0,fO 21 235 20 1,⟨some 22,(lD 3 21),none,[],17,[4,11],false⟩,cB 23 200 19 22 3 3,oO 24 (.buildSlice 159 3 #[(0,(xT 9)),(1,(xT 16)),(2,(xT 23))]),cA 25 245 24 159,bQ .lss 26 3 25 0 3,aO 4 26] [4] (.ret))
theorem MQ:BU Tryz.prog 244 27 [(.tmp 4)] HW:=AH Tryz.func244
def KO:CC:=.reg [mO 4 0,mO 5 0,nC 6 5,lS 7 244 6 3,mO 8 1,oO 9 (.typeAssert (xT 8) 20 247 false),⟨some 10,(.buildSlice 244 1 #[(0,(xT 9))]),none,[],6,[3],false⟩,aP 11 7 10 244 244 [1],nC 12 4,sT 244 12 11] []
theorem Rn:BU Tryz.prog 242 13 [] KO:=AH Tryz.func242
def LZ:CC:=sR [oO 2 (.assign (.const .nilIface))] [0] (sR [mO 5 0,nC 6 5,lO 7 244 6,aO 3 7] [0,3] (sR [mO 8 3,mO 9 3,bN 10 9 244,bQ .sub 11 3 10 1 3,iO 12 244 8 11,lO 13 247 12,aL 4 247 [1],sT 247 4 13] [0,3,4] (sR [mO 14 0,mO 15 3,mO 16 3,bN 17 16 244,bQ .sub 18 3 17 1 3,oO 19 (.slice 244 (xT 15) none (some (xT 18)) none),nC 20 14,sT 244 20 19] [4] (sR [lO 21 247 4,oO 22 (.makeInterface 247 (xT 21)),aO 2 22] [2] (.ret)))))
theorem TT:BU Tryz.prog 241 23 [(.tmp 2)] LZ:=AH Tryz.func241
def Mc:CC:=sR [aI 2 0] [0] (sR [mO 3 0,bN 4 3 244,aO 2 4] [2] (.ret))
theorem Sa:BU Tryz.prog 194 5 [(.tmp 2)] Mc:=AH Tryz.func194
def KX:CC:=sR [aB 6 false] [0,1,2] (sR [mO 7 0,mO 8 1,iO 9 244 7 8,lO 10 247 9,mO 11 0,mO 12 2,iO 13 244 11 12,lO 14 247 13,cB 15 244 10 14 247 247,aO 6 15] [6] (.ret))
theorem Ro:BU Tryz.prog 240 16 [(.tmp 6)] KX:=AH Tryz.func240
def KT:CC:=.reg [mO 6 0,mO 7 1,mO 8 0,mO 9 2,mO 10 0,mO 11 2,iO 12 244 10 11,lO 13 247 12,mO 14 0,mO 15 1,iO 16 244 14 15,lO 17 247 16,iO 18 244 6 7,sT 247 18 13,iO 19 244 8 9,sT 247 19 17] []
theorem Rp:BU Tryz.prog 243 20 [] KT:=AH Tryz.func243
def E4:CC:=.block 1 (sR [mO 5 1,bQ .sub 6 3 5 1 3,bQ .quo 7 3 6 2 3,aO 4 7] [0,1,4] (sQ [mO 8 4,mO 9 1,bB .eql 10 3 8 9 3,mO 11 10,mG 12 0 11 false,mG 13 1 11 false,mG 14 4 11 false,oG 15 (.call { callee:=(.invoke (xT 12) "Less"),args:=#[(xT 13),(xT 14)],argTypes:=#[3,3] }) 11 false,oG 16 (.unOp .not 4 (xT 15)) 11 false,pT 17 11 16] [0,1,4,17] (cD 17 (.exit 0) (.skip)) [0,1,4] (sR [mO 18 0,mO 19 4,mO 20 1,oO 21 (.call { callee:=(.invoke (xT 18) "Swap"),args:=#[(xT 19),(xT 20)],argTypes:=#[3,3] })] [0,4] (.reg [mO 22 4,aO 1 22] [0,1])))) 
def HS:CC:=.block 0 (.loop E4)
theorem MO:BU Tryz.prog 202 23 [] HS:=AH Tryz.func202
def CY:CC:=sQ [mO 35 0,mO 36 9,mO 37 7,oO 38 (.call { callee:=(.invoke (xT 35) "Less"),args:=#[(xT 36),(xT 37)],argTypes:=#[3,3] }),oO 39 (.unOp .not 4 (xT 38))] [0,1,2,7,9,39] (cD 39 (.exit 0) (.skip)) [0,1,2,7,9] (sR [mO 40 0,mO 41 7,mO 42 9,oO 43 (.call { callee:=(.invoke (xT 40) "Swap"),args:=#[(xT 41),(xT 42)],argTypes:=#[3,3] })] [0,1,2,9] (.reg [mO 44 9,aO 7 44] [0,1,2,7]))
def CZ:CC:=.block 1 (sR [mO 12 7,oO 13 (.binOp .mul 3 (nI 2) (xT 12) 3),bQ .add 14 3 13 1 3,aO 8 14] [0,1,2,7,8] (sQ [mO 15 8,mO 16 2,bB .geq 17 3 15 16 3,mO 18 17,mG 19 8 18 false,oG 20 (.binOp .lss 3 (xT 19) (nI 0) 3) 18 false,pT 21 18 20] [0,1,2,7,8,21] (cD 21 (.exit 0) (.skip)) [0,1,2,7,8] (sR [mO 22 8,aO 9 22] [0,1,2,7,8,9] (sQ [mO 23 8,bQ .add 24 3 23 1 3,aO 10 24] [0,1,2,7,8,9,10] (sR [mO 25 10,mO 26 2,bB .lss 27 3 25 26 3,mO 28 27,mG 29 0 28 true,mG 30 10 28 true,mG 31 8 28 true,oG 32 (.call { callee:=(.invoke (xT 29) "Less"),args:=#[(xT 30),(xT 31)],argTypes:=#[3,3] }) 28 true,pF 33 28 32] [0,1,2,7,9,10,33] (cD 33 (.reg [mO 34 10,aO 9 34] [0,1,2,7,9]) (.skip))) [0,1,2,7,9] CY)))) 
def GR:CC:=sR [aB 6 false] [0,1,2] (sR [mO 11 1,aO 7 11] [0,1,2,7] (.seq (.block 0 (.loop CZ)) (.keep [1,7] (sR [mO 45 7,mO 46 1,bB .gtr 47 3 45 46 3,aO 6 47] [6] (.ret)))))
theorem K5:BU Tryz.prog 203 48 [(.tmp 6)] GR:=AH Tryz.func203
def GQ:CC:=sR [mO 4 0,mO 5 1,oO 6 (.call { callee:=(.invoke (xT 4) "Push"),args:=#[(xT 5)],argTypes:=#[20] })] [0] (.reg [mO 7 0,mO 8 0,oO 9 (.call { callee:=(.invoke (xT 8) "Len"),args:=#[],argTypes:=#[] }),bQ .sub 10 3 9 1 3,cB 11 202 7 10 257 3] [])
theorem K6:BU Tryz.prog 193 12 [] GQ:=AH Tryz.func193
def HA:CC:=sR [oO 2 (.assign (.const .nilIface))] [0] (sR [mO 4 0,oO 5 (.call { callee:=(.invoke (xT 4) "Len"),args:=#[],argTypes:=#[] }),bQ .sub 6 3 5 1 3,aO 3 6] [0,3] (sR [mO 7 0,mO 8 3,oO 9 (.call { callee:=(.invoke (xT 7) "Swap"),args:=#[(nI 0),(xT 8)],argTypes:=#[3,3] })] [0,3] (sR [mO 10 0,mO 11 3,oO 12 (cL 203 #[(xT 10),(nI 0),(xT 11)] #[257,3,3])] [0] (sR [mO 13 0,oO 14 (.call { callee:=(.invoke (xT 13) "Pop"),args:=#[],argTypes:=#[] }),aO 2 14] [2] (.ret)))))
theorem LH:BU Tryz.prog 195 15 [(.tmp 2)] HA:=AH Tryz.func195
def HX:CC:=sR [bX 2 235 0 [0],bX 3 235 1 [1],aB 4 false] [2,3] (sR [fO 5 235 2 0,lO 6 3 5,fO 7 235 3 0,lO 8 3 7,bB .lss 9 3 6 8 3,mO 10 9,fG 11 235 2 1 10 true,lG 12 3 11 10 true,fG 13 235 3 1 10 true,lG 14 3 13 10 true,oG 15 (bO .lss 3 12 14 3) 10 true,pF 16 10 15,mO 17 16,fG 18 235 2 0 17 false,lG 19 3 18 17 false,fG 20 235 3 0 17 false,lG 21 3 20 17 false,oG 22 (bO .gtr 3 19 21 3) 17 false,mG 23 22 17 false,fG 24 235 2 1 23 true,lG 25 3 24 23 true,fG 26 235 3 1 23 true,lG 27 3 26 23 true,oG 28 (bO .gtr 3 25 27 3) 23 true,oG 29 (.pick (xT 23) (xT 28) (nB false)) 17 false,pT 30 17 29,oO 31 (.unOp .not 4 (xT 30)),aO 4 31] [4] (.ret))
theorem MH:BU Tryz.prog 197 32 [(.tmp 4)] HX:=AH Tryz.func197
def A6:CC:=sR [bB .lss 9 3 8 7 3] [0,1,7,8,9] (.seq (cD 9 (.skip) (.exit 0)) (.keep [0,1,7,8] (.seq (.block 1 (sR [mO 10 8,aO 5 10] [0,1,5,7,8] (sR [mO 11 1,mO 12 0,mO 13 5,iO 14 233 12 13,lO 15 235 14,oO 16 (.call { callee:=(.value (xT 11)),args:=#[(xT 15)],argTypes:=#[235] })] [0,1,5,7,8,16] (cD 16 (sR [mO 17 5,aO 4 17] [4] (.ret)) (.skip))))) (.keep [0,1,7,8] (.reg [bQ .add 18 3 8 1 3,mO 8 18] [0,1,7,8]))))) 
def CA:CC:=sR [aI 4 0] [0,1] (sQ [mO 6 0,bN 7 6 233,oO 8 (.move (nI 0))] [0,1,7,8] (.block 0 (.loop A6)) [] (sR [oO 4 (.assign (.const (.int .i64 (-1))))] [4] (.ret)))
theorem EZ:BU Tryz.prog 204 19 [(.tmp 4)] CA:=AH Tryz.func204
def Cg:CC:=sR [aB 4 false] [0,1] (sR [mO 5 0,mO 6 1,cB 7 204 5 6 233 251,bQ .geq 8 3 7 0 3,aO 4 8] [4] (.ret))
theorem Eh:BU Tryz.prog 196 9 [(.tmp 4)] Cg:=AH Tryz.func196
def Na:CC:=sR [bX 2 235 0 [0],bX 3 235 1 [1],aI 4 0] [2,3] (sR [fO 5 235 2 0,lO 6 3 5,fO 7 235 3 0,lO 8 3 7,cB 9 200 6 8 3 3,aO 4 9] [4] (.ret))
theorem UH:BU Tryz.prog 199 10 [(.tmp 4)] Na:=AH Tryz.func199
def Gm:CC:=sR [bB .lss 22 3 21 20 3] [3,4,12,13,14,19,20,21,22] (.seq (cD 22 (.skip) (.exit 2)) (.keep [3,4,12,13,14,19,20,21] (.seq (.block 3 (sR [mO 23 21,iO 24 159 19 21,lO 25 3 24,aO 6 23,aO 7 25] [3,4,6,7,12,13,14,19,20,21] (sR [mO 26 7,bQ .gtr 27 3 26 0 3,mO 28 27,mG 29 4 28 true,oG 30 (.binOp .lss 3 (xT 29) (nI 16) 3) 28 true,pF 31 28 30,mO 32 31,mG 33 6 32 true,oG 34 (.binOp .lss 3 (xT 33) (nI 16) 3) 32 true,pF 35 32 34] [3,4,6,7,12,13,14,19,20,21,35] (cD 35 (.reg [mO 36 3,oO 37 (.makeInterface 242 (xT 36)),mO 38 4,mO 39 6,oO 40 (.build 235 #[(0,(xT 38)),(1,(xT 39))]),mO 41 7,oO 42 (.build 247 #[(0,(xT 40)),(1,(xT 41))]),oO 43 (.makeInterface 247 (xT 42)),cB 44 193 37 43 257 20] [3,4,12,13,14,19,20,21]) (.skip))))) (.keep [3,4,12,13,14,19,20,21] (.reg [bQ .add 45 3 21 1 3,mO 21 45] [3,4,12,13,14,19,20,21])))))
def Ia:CC:=sR [bB .lss 15 3 14 13 3] [3,12,13,14,15] (.seq (cD 15 (.skip) (.exit 0)) (.keep [3,12,13,14] (.seq (.block 1 (sR [mO 16 14,iO 17 219 12 14,lO 18 159 17,aO 4 16,aO 5 18] [3,4,5,12,13,14] (sR [mO 19 5,bN 20 19 159,oO 21 (.move (nI 0))] [3,4,12,13,14,19,20,21] (.block 2 (.loop Gm))))) (.keep [3,12,13,14] (.reg [bQ .add 46 3 14 1 3,mO 14 46] [3,12,13,14])))))
def Ge:CC:=sQ [mO 47 3,nC 48 47,lO 49 244 48,cA 50 194 49 242,bQ .gtr 51 3 50 0 3] [3,8,51] (cD 51 (.skip) (.exit 4)) [3,8] (.block 5 (sR [mO 52 3,oO 53 (.makeInterface 242 (xT 52)),cA 54 195 53 257,oO 55 (.typeAssert (xT 54) 20 247 false),aL 9 247 [1],sT 247 9 55] [3,8,9] (sR [mO 56 8,fO 57 247 9 0,lO 58 235 57,oO 59 (.makeFunc (.func 197) #[(xT 58)] #[]),cB 60 196 56 59 233 251,oO 61 (.unOp .not 4 (xT 60))] [3,8,9,61] (cD 61 (.reg [mO 62 8,fO 63 247 9 0,lO 64 235 63,oO 65 (.buildSlice 233 1 #[(0,(xT 64))]),aP 66 62 65 233 233 [2],aO 8 66] [3,8]) (.skip))))) 
def Q4:CC:=sR [aN 2] [0] (sR [oO 10 (.buildSlice 244 0 #[]),bX 11 244 10 [0],aO 3 11] [0,3] (sQ [mO 12 0,bN 13 12 219,oO 14 (.move (nI 0))] [3,12,13,14] (.block 0 (.loop Ia)) [3] (sR [aN 8] [3,8] (.seq (.block 4 (.loop Ge)) (.keep [8] (sR [mO 67 8,oO 68 (cL 198 #[(xT 67),(.func 199)] #[233,254])] [8] (sR [mO 69 8,aO 2 69] [2] (.ret))))))))
theorem Yd:BU Tryz.prog 185 70 [(.tmp 2)] Q4:=AH Tryz.func185
def Ho:CC:=sR [bB .lss 31 3 30 29 3] [2,3,5,29,30,31] (.seq (cD 31 (.skip) (.exit 0)) (.keep [2,3,5,29,30] (.seq (.block 1 (sR [mO 32 30,aO 6 32] [2,3,5,6,29,30] (sR [fO 33 25 2 1,lO 34 22 33,mO 35 6,iO 36 22 34 35,lO 37 61 36,fO 38 25 3 1,lO 39 22 38,mO 40 6,iO 41 22 39 40,lO 42 61 41,bB .eql 43 61 37 42 61] [2,3,5,29,30,43] (cD 43 (.reg [mO 44 5,bQ .add 45 3 44 1 3,aO 5 45] [2,3,5,29,30]) (.skip))))) (.keep [2,3,5,29,30] (.reg [bQ .add 46 3 30 1 3,mO 30 46] [2,3,5,29,30])))))
def Hg:CC:=sR [bB .lss 55 3 54 53 3] [2,3,5,53,54,55] (.seq (cD 55 (.skip) (.exit 2)) (.keep [2,3,5,53,54] (.seq (.block 3 (sR [mO 56 54,aO 7 56] [2,3,5,7,53,54] (sR [fO 57 25 2 2,lO 58 23 57,mO 59 7,iO 60 23 58 59,lO 61 25 60,fO 62 25 3 2,lO 63 23 62,mO 64 7,iO 65 23 63 64,lO 66 25 65,cB 67 57 61 66 25 25] [2,3,5,53,54,67] (cD 67 (.reg [mO 68 5,bQ .add 69 3 68 1 3,aO 5 69] [2,3,5,53,54]) (.skip))))) (.keep [2,3,5,53,54] (.reg [bQ .add 70 3 54 1 3,mO 54 70] [2,3,5,53,54]))))) 
def PN:CC:=sR [bX 2 25 0 [0],bX 3 25 1 [1],aI 4 0] [2,3] (sQ [fO 8 25 2 0,lO 9 3 8,fO 10 25 3 0,lO 11 3 10,bB .neq 12 3 9 11 3,mO 13 12,fG 14 25 2 0 13 false,lG 15 3 14 13 false,oG 16 (.binOp .eql 3 (xT 15) (nI 0) 3) 13 false,pT 17 13 16,mO 18 17,fG 19 25 2 0 18 false,lG 20 3 19 18 false,oG 21 (.binOp .eql 3 (xT 20) (nI 10) 3) 18 false,pT 22 18 21] [2,3,22] (cD 22 (sR [aI 4 0] [4] (.ret)) (.skip)) [2,3] (sR [aI 5 1] [2,3,5] (sQ [fO 23 25 2 1,lO 24 22 23,bN 25 24 22,fO 26 25 3 1,lO 27 22 26,bN 28 27 22,oO 29 (bC .min #[(xT 25),(xT 28)] #[3,3]),oO 30 (.move (nI 0))] [2,3,5,29,30] (.block 0 (.loop Ho)) [2,3,5] (sQ [fO 47 25 2 2,lO 48 23 47,bN 49 48 23,fO 50 25 3 2,lO 51 23 50,bN 52 51 23,oO 53 (bC .min #[(xT 49),(xT 52)] #[3,3]),oO 54 (.move (nI 0))] [2,3,5,53,54] (.block 2 (.loop Hg)) [5] (sR [mO 71 5,aO 4 71] [4] (.ret))))))
theorem Wo:BU Tryz.prog 184 72 [(.tmp 4)] PN:=AH Tryz.func184
end Go.Proofs.YtndnlknocdangaaGreat
namespace Go.PL
structure Sc where
 i:Nat
 j:Nat
 n:Int
 deriving DecidableEq
def Yz:Sc:=⟨0,0,0⟩
def Bk (a b:Sc):Bool:=decide (b.n<a.n) || (decide (a.n=b.n)&&(decide (a.i<b.i) || (decide (a.i=b.i)&&decide (a.j<b.j))))
def UF (l:List Sc) (i j:Nat):List Sc:=(l.set i (l.getD j Yz)).set j (l.getD i Yz)
@[simp] theorem W9 {l:List Sc} {i j:Nat}:(UF l i j).length=l.length:=by simp[UF]
def g8:Nat→List Sc→Nat→List Sc
 |0,l,_=>l
 |f+1,l,j=>if (j-1) / 2=j∨Bk (l.getD j Yz) (l.getD ((j-1) / 2) Yz)=false then l else g8 f (UF l ((j-1) / 2) j) ((j-1) / 2)
def JS (l:List Sc) (i n:Nat):Nat:=if 2*i+2<n∧Bk (l.getD (2*i+2) Yz) (l.getD (2*i+1) Yz)=true then 2*i+2 else 2*i+1
def GO:Nat→List Sc→Nat→Nat→List Sc × Nat
 |0,l,i,_=>(l,i)
 |f+1,l,i,n=>if n≤2*i+1 then (l,i) else if Bk (l.getD (JS l i n) Yz) (l.getD i Yz)=true then GO f (UF l i (JS l i n)) (JS l i n) n else (l,i)
theorem Xa:∀ (f:Nat) (l:List Sc) (j:Nat),(g8 f l j).length=l.length
 |0,l,j=>rfl
 |f+1,l,j=>by
  unfold g8;split
  ·rfl
  ·rw[Xa f];simp
theorem U8:∀ (f:Nat) (l:List Sc) (i n:Nat),(GO f l i n).1.length=l.length
 |0,l,i,n=>rfl
 |f+1,l,i,n=>by
  unfold GO;split
  ·rfl
  ·split
   ·rw[U8 f];simp
   ·rfl
end Go.PL
namespace Go.PL
open List
theorem Vk {a b:Sc}:Bk a b=true ↔ b.n<a.n∨(a.n=b.n∧(a.i<b.i∨(a.i=b.i∧a.j<b.j))):=by
 unfold Bk;simp
theorem Mq {a b:Sc}:Bk a b=false ↔ a.n<b.n∨(a.n=b.n∧(b.i<a.i∨(a.i=b.i∧b.j≤a.j))):=by
 rw[Bool.eq_false_iff,ne_eq,Vk];omega
theorem Qq (a:Sc):Bk a a=false:=by rw[Mq];omega
theorem Kn {a b:Sc} (h:Bk a b=true):Bk b a=false:=by
 rw[Vk] at h;rw[Mq];omega
theorem O6 {a b c:Sc} (h1:Bk b a=false) (h2:Bk c b=false):Bk c a=false:=by
 rw[Mq] at h1 h2 ⊢; omega
theorem ij {a b:Sc} (h1:Bk a b=false) (h2:Bk b a=false):a=b:=by
 rw[Mq] at h1 h2;obtain⟨i,j,n⟩:=a;obtain⟨i',j',n'⟩:=b;simp at h1 h2 ⊢;omega
abbrev gt (l:List Sc) (k:Nat):Sc:=l.getD k Yz
theorem Fj {l:List Sc} {i j:Nat} (hi:i<l.length) (hj:j<l.length) (k:Nat):gt (UF l i j) k=if k=j then gt l i else if k=i then gt l j else gt l k:=by
 unfold gt UF;simp only[List.getD_eq_getElem?_getD,List.getElem?_set,List.length_set];by_cases h1:k=j
 ·subst h1;simp[hj]
 ·rw[if_neg (fun e=>h1 e.symm)];by_cases h2:k=i
  ·subst h2;simp[h1,hi]
  ·rw[if_neg (fun e=>h2 e.symm)];simp[h1,h2]
theorem TV {l:List Sc} {i j:Nat} (hi:i<l.length) (hj:j<l.length):UF l i j ~ l:=by
 unfold UF;rw[List.getD_eq_getElem?_getD,List.getD_eq_getElem?_getD,List.getElem?_eq_getElem hi,List.getElem?_eq_getElem hj];exact List.set_set_perm hi hj
def KR (l:List Sc) (n:Nat):Prop:=∀ k,0<k→k<n→Bk (gt l k) (gt l ((k-1) / 2))=false
theorem od {l:List Sc} {n:Nat} (h:KR l n):∀ k,k<n→Bk (gt l k) (gt l 0)=false:=by
 intro k;induction k using Nat.strongRecOn with
 |_ k ih=>
  intro hk;by_cases h0:k=0
  ·subst h0;exact Qq _
  ·exact O6 (ih ((k-1) / 2) (by omega) (by omega)) (h k (by omega) hk)
def Abk (l:List Sc) (n j:Nat):Prop:=(∀ k,0<k→k<n→k ≠ j→Bk (gt l k) (gt l ((k-1) / 2))=false)∧(∀ k,0<k→k<n→(k-1) / 2=j→0<j→Bk (gt l k) (gt l ((j-1) / 2))=false)
theorem sF:∀ (f:Nat) (l:List Sc) (j:Nat),j<f→j<l.length→Abk l l.length j→KR (g8 f l j) l.length∧g8 f l j ~ l
 |0,l,j,hf,_,_=>by omega
 |f+1,l,j,hf,hj,⟨h1,h2⟩=>by
  unfold g8;split
  ·rename_i hc;refine⟨fun k hk hk2=>?_,Perm.refl _⟩;by_cases e:k=j
   ·subst e;rcases hc with hc | hc
    ·omega
    ·exact hc
   ·exact h1 k hk hk2 e
  ·rename_i hc;have hij:¬ (j-1) / 2=j:=fun e=>hc (.inl e);have hA:Bk (gt l j) (gt l ((j-1) / 2))=true:=by
    cases hq:Bk (gt l j) (gt l ((j-1) / 2)) with
    |true=>rfl
    |false=>exact(hc (.inr hq)).elim
   obtain⟨i,hi⟩:∃ i,i=(j-1) / 2:=⟨_,rfl⟩;rw[← hi] at hij hA h2 ⊢;have hil:i<l.length:=by omega
   have hlt:i<j:=by omega
   have ih:=sF f (UF l i j) i (by omega) (by simp;omega) ⟨fun k hk hk2 hne=>?_,fun k hk hk2 hp h0=>?_⟩
   ·simp only[W9] at ih;exact⟨ih.1,ih.2.trans (TV hil hj)⟩
   ·simp only[W9] at hk2;rw[Fj hil hj,Fj hil hj];by_cases e1:k=j
    ·subst e1;rw[if_pos rfl,← hi,if_neg (by omega),if_pos rfl];exact Kn hA
    ·rw[if_neg e1,if_neg hne];by_cases e2:(k-1) / 2=j
     ·rw[if_pos e2];exact h2 k hk hk2 e2 (by omega)
     ·rw[if_neg e2];by_cases e3:(k-1) / 2=i
      ·rw[if_pos e3];have:=h1 k hk hk2 e1;rw[e3] at this;exact O6 (Kn hA) this
      ·rw[if_neg e3];exact h1 k hk hk2 e1
   ·simp only[W9] at hk2;rw[Fj hil hj,Fj hil hj];have hpi:=h1 i h0 hil (by omega);rw[if_neg (by omega:¬ (i-1) / 2=j),if_neg (by omega:¬ (i-1) / 2=i)];by_cases e1:k=j
    ·rw[if_pos e1];exact hpi
    ·rw[if_neg e1,if_neg (by omega:¬ k=i)];have:=h1 k hk hk2 e1;rw[hp] at this;exact O6 hpi this
theorem dZ {l:List Sc} (h:KR l l.length) (x:Sc):KR (g8 (l.length+1) (l++[x]) l.length) (l.length+1)∧g8 (l.length+1) (l++[x]) l.length ~ x::l:=by
 have hg:∀ k,k<l.length→gt (l++[x]) k=gt l k:=fun k hk=>by
  unfold gt;rw[List.getD_eq_getElem?_getD,List.getD_eq_getElem?_getD,List.getElem?_append_left hk]
 have:=sF (l.length+1) (l++[x]) l.length (by omega) (by simp) ⟨fun k hk hk2 hne=>?_,fun k hk hk2 hp h0=>?_⟩
 ·simp only[List.length_append,List.length_singleton] at this;exact⟨this.1,this.2.trans (List.perm_append_singleton x l)⟩
 ·simp at hk2;rw[hg k (by omega),hg _ (by omega)];exact h k hk (by omega)
 ·simp at hk2;omega
def qm (l:List Sc) (n i:Nat):Prop:=(∀ k,0<k→k<n→(k-1) / 2 ≠ i→Bk (gt l k) (gt l ((k-1) / 2))=false)∧(∀ k,0<k→k<n→(k-1) / 2=i→0<i→Bk (gt l k) (gt l ((i-1) / 2))=false)
theorem iP {l:List Sc} {i n:Nat} (h:2*i+1<n):JS l i n<n∧(JS l i n-1) / 2=i∧i<JS l i n∧∀ k,0<k→k<n→(k-1) / 2=i→Bk (gt l k) (gt l (JS l i n))=false:=by
 unfold JS;split
 ·rename_i hc;refine⟨hc.1,by omega,by omega,fun k hk hk2 hp=>?_⟩;have:k=2*i+1∨k=2*i+2:=by omega
  rcases this with rfl | rfl
  ·exact Kn hc.2
  ·exact Qq _
 ·rename_i hc;refine⟨h,by omega,by omega,fun k hk hk2 hp=>?_⟩;have:k=2*i+1∨k=2*i+2:=by omega
  rcases this with rfl | rfl
  ·exact Qq _
  ·cases hq:Bk (gt l (2*i+2)) (gt l (2*i+1)) with
   |false=>rfl
   |true=>exact(hc ⟨hk2,hq⟩).elim
theorem dT:∀ (f:Nat) (l:List Sc) (i n:Nat),n≤l.length→i<l.length→n<i+f→qm l n i→KR (GO f l i n).1 n∧(GO f l i n).1 ~ l∧∀ k,n≤k→gt (GO f l i n).1 k=if k=i then gt (GO f l i n).1 i else gt l k
 |0,l,i,n,hn,hil,hf,⟨h1,h2⟩=>by
  refine⟨fun k hk hk2=>h1 k hk hk2 (by omega),Perm.refl _,fun k hk=>?_⟩;show gt l k=if k=i then gt l i else gt l k
  split
  ·rename_i e;rw[e]
  ·rfl
 |f+1,l,i,n,hn,hil,hf,⟨h1,h2⟩=>by
  have same:∀ k:Nat,gt l k=if k=i then gt l i else gt l k:=fun k=>by
   split
   ·rename_i e;rw[e]
   ·rfl
  unfold GO;split
  ·refine⟨fun k hk hk2=>h1 k hk hk2 (by omega),Perm.refl _,fun k _=>same k⟩
  ·rename_i hlt;obtain⟨c1,c2,c3,c4⟩:=iP (l:=l) (i:=i) (n:=n) (by omega);split
   ·rename_i hA;generalize JS l i n=c at *;have hcl:c<l.length:=by omega
    have ih:=dT f (UF l i c) c n (by simp;omega) (by simp;omega) (by omega) ⟨fun k hk hk2 hne=>?_,fun k hk hk2 hp h0=>?_⟩
    ·refine⟨ih.1,ih.2.1.trans (TV hil hcl),fun k hk=>?_⟩;rw[ih.2.2 k hk,if_neg (by omega:¬ k=c),Fj hil hcl,if_neg (by omega:¬ k=c)];by_cases e:k=i
     ·subst e;omega
     ·rw[if_neg e,if_neg e]
    ·rw[Fj hil hcl,Fj hil hcl];by_cases e1:k=c
     ·subst e1;rw[if_pos rfl,c2,if_neg (by omega),if_pos rfl];exact Kn hA
     ·rw[if_neg e1];by_cases e2:k=i
      ·subst e2;rw[if_pos rfl,if_neg hne,if_neg (by omega:¬ (k-1) / 2=k)];exact h2 c (by omega) c1 c2 hk
      ·rw[if_neg e2,if_neg hne];by_cases e3:(k-1) / 2=i
       ·rw[if_pos e3];exact c4 k hk hk2 e3
       ·rw[if_neg e3];exact h1 k hk hk2 e3
    ·rw[Fj hil hcl,Fj hil hcl,c2,if_neg (by omega:¬ i=c),if_pos rfl,if_neg (by omega:¬ k=c),if_neg (by omega:¬ k=i)];have:=h1 k hk hk2 (by omega)
     rwa [hp] at this
   ·rename_i hA;have hA':Bk (gt l (JS l i n)) (gt l i)=false:=by
     cases hq:Bk (gt l (JS l i n)) (gt l i) with
     |false=>rfl
     |true=>exact(hA hq).elim
    refine⟨fun k hk hk2=>?_,Perm.refl _,fun k _=>same k⟩;by_cases e:(k-1) / 2=i
    ·rw[e];exact O6 hA' (c4 k hk hk2 e)
    ·exact h1 k hk hk2 e
def IW (l:List Sc):List Sc:=(GO (l.length-1+1) (UF l 0 (l.length-1)) 0 (l.length-1)).1
theorem SO (l:List Sc):(IW l).length=l.length:=by unfold IW;rw[U8];simp
theorem tf {l:List Sc} {i:Nat} (h:i<l.length):gt l i=l[i]:=by unfold gt;rw[List.getD_eq_getElem?_getD,List.getElem?_eq_getElem h];rfl
theorem eZ {l:List Sc} {n k:Nat} (h:k<n):gt (l.take n) k=gt l k:=by
 unfold gt;rw[List.getD_eq_getElem?_getD,List.getD_eq_getElem?_getD,List.getElem?_take,if_pos h]
theorem tY {l:List Sc} (h0:0<l.length) (h:KR l l.length):gt (IW l) (l.length-1)=gt l 0∧KR ((IW l).take (l.length-1)) (l.length-1)∧(gt l 0::(IW l).take (l.length-1)) ~ l:=by
 have hlen:=SO l;obtain⟨n,hn⟩:∃ n,n=l.length-1:=⟨_,rfl⟩;unfold IW at hlen ⊢;rw[← hn] at hlen ⊢;have hnl:n<l.length:=by omega
 have hd:=dT (n+1) (UF l 0 n) 0 n (by simp;omega) (by simp;omega) (by omega) ⟨fun k hk hk2 hne=>?_,fun k _ _ _ h0=>by omega⟩
 ·generalize hl2:(GO (n+1) (UF l 0 n) 0 n).1=l2 at hd hlen;have hg:gt l2 n=gt l 0:=by
   by_cases e:n=0
   ·subst e;have:l2=UF l 0 0:=by rw[← hl2,GO,if_pos (by omega)]
    rw[this,Fj h0 h0,if_pos rfl]
   ·rw[hd.2.2 n (Cj _),if_neg e,Fj h0 hnl,if_pos rfl]
  refine⟨hg,fun k hk hk2=>?_,?_⟩
  ·rw[eZ hk2,eZ (by omega)];exact hd.1 k hk hk2
  ·have hsplit:l2=l2.take n++[gt l2 n]:=by
    rw[tf (by omega),List.take_append_getElem,AX (by omega)]
   refine Perm.trans ?_ (hd.2.1.trans (TV h0 hnl))
   conv=>rhs;rw[hsplit]
   rw[hg];exact(List.perm_append_singleton _ _).symm
 ·rw[Fj h0 hnl,Fj h0 hnl,if_neg (by omega:¬ k=n),if_neg (by omega:¬ k=0),if_neg (by omega:¬ (k-1) / 2=n),if_neg hne];exact h k hk (by omega)
def Ug (p q:Sc):Bool:=(decide (p.i<q.i)&&decide (p.j<q.j)) || (decide (q.i<p.i)&&decide (q.j<p.j))
theorem YK {p q:Sc}:Ug p q=Ug q p:=by unfold Ug;rw[Bool.or_comm]
theorem pQ (p:Sc):Ug p p=false:=by simp[Ug]
def Gn (o:List Sc) (x:Sc):Bool:=o.all fun p=>Ug p x
theorem UZ {o:List Sc} {x y:Sc}:Gn (o++[x]) y=(Gn o y&&Ug x y):=by simp[Gn]
def rQ (all o:List Sc) (x:Sc):Prop:=x ∈ all∧Gn o x=true∧∀ y,y ∈ all→Gn o y=true→Bk y x=false
inductive KV (all:List Sc):List Sc→List Sc→Prop
 |done {o}:(∀ y,y ∈ all→Gn o y=false)→KV all o o
 |step {o x o'}:rQ all o x→KV all (o++[x]) o'→KV all o o'
theorem kK {all o:List Sc} {x y:Sc} (h:rQ all o x) (k:rQ all o y):x=y:=ij (k.2.2 x h.1 h.2.1) (h.2.2 y k.1 k.2.1)
theorem hY {all o a b:List Sc} (h:KV all o a):KV all o b→a=b:=by
 induction h with
 |done h=>
  intro k;cases k with
  |done=>rfl
  |step hb _=>
   have:=hb.2.1;rw[h _ hb.1] at this;cases this
 |step hb _ ih=>
  intro k;cases k with
  |done k=>
   have:=hb.2.1;rw[k _ hb.1] at this;cases this
  |step hb' k=>
   have:=kK hb hb';subst this;exact ih k
def EB (o:List Sc):Prop:=o.Pairwise fun p q=>Ug p q=true
theorem cf {o:List Sc} {x:Sc} (h:EB o) (hx:Gn o x=true):EB (o++[x]):=by
 unfold EB at h ⊢;rw[List.pairwise_append];refine⟨h,by simp,fun p hp q hq=>?_⟩;simp at hq;subst hq;simp[Gn] at hx;exact hx p hp
theorem XW {all o o':List Sc} (h:KV all o o'):EB o→(∀ x,x ∈ o→x ∈ all)→EB o'∧∀ x,x ∈ o'→x ∈ all:=by
 induction h with
 |done=>exact fun h k=>⟨h,k⟩
 |step hb _ ih=>
  intro h k;refine ih (cf h hb.2.1) fun x hx=>?_;rcases List.mem_append.1 hx with hx | hx
  ·exact k x hx
  ·simp at hx;subst hx;exact hb.1
theorem lN {all o:List Sc} {x:Sc} {l rest:List Sc} (hl:x::rest ~ l) (hmin:∀ y,y ∈ l→Bk y x=false) (hall:∀ y,y ∈ all→y ∈ l∨Gn o y=false) (hsub:∀ y,y ∈ l→y ∈ all) :
  (Gn o x=true→rQ all o x∧(∀ y,y ∈ all→y ∈ rest∨Gn (o++[x]) y=false))∧(Gn o x=false→∀ y,y ∈ all→y ∈ rest∨Gn o y=false):=by
 refine⟨fun hx=>⟨⟨hsub x (hl.subset (by simp)),hx,fun y hy hf=>?_⟩,fun y hy=>?_⟩,fun hx y hy=>?_⟩
 ·rcases hall y hy with h | h
  ·exact hmin y h
  ·rw[h] at hf;cases hf
 ·rcases hall y hy with h | h
  ·rcases List.mem_cons.1 (hl.symm.subset h) with rfl | h
   ·right;rw[UZ,pQ];simp
   ·exact .inl h
  ·right;rw[UZ,h];rfl
 ·rcases hall y hy with h | h
  ·rcases List.mem_cons.1 (hl.symm.subset h) with rfl | h
   ·exact .inr hx
   ·exact .inl h
  ·exact .inr h
def Un (x:Sc):List Sc→List Sc
 |[]=>[x]
 |y::l=>if y.i<x.i then y::Un x l else x::y::l
def Iu (l:List Sc):Prop:=l.Pairwise fun p q=>p.i<q.i
theorem Qv (x:Sc):∀ l,Un x l ~ x::l
 |[]=>Perm.refl _
 |y::l=>by
  unfold Un;split
  ·exact((Qv x l).cons y).trans (Perm.swap x y l)
  ·exact Perm.refl _
theorem T8 {x:Sc}:∀ {l:List Sc},Iu l→(∀ y,y ∈ l→y.i ≠ x.i)→Iu (Un x l)
 |[],_,_=>by simp[Un,Iu]
 |y::l,h,hne=>by
  unfold Un;unfold Iu at h ⊢;rw[List.pairwise_cons] at h;split
  ·rename_i hlt;rw[List.pairwise_cons];refine⟨fun z hz=>?_,T8 h.2 fun z hz=>hne z (by simp[hz])⟩;rcases List.mem_cons.1 ((Qv x l).subset hz) with rfl | hz
   ·exact hlt
   ·exact h.1 z hz
  ·rename_i hlt;have:=hne y (by simp);rw[List.pairwise_cons,List.pairwise_cons];refine⟨fun z hz=>?_,h⟩;rcases List.mem_cons.1 hz with rfl | hz
   ·omega
   ·have:=h.1 z hz;omega
theorem Vv:∀ {l m:List Sc},Iu l→Iu m→l ~ m→l=m
 |[],m,_,_,h=>(List.nil_perm.1 h).symm
 |x::l,[],_,_,h=>by have:=h.length_eq;simp at this
 |x::l,y::m,hl,hm,h=>by
  unfold Iu at hl hm;rw[List.pairwise_cons] at hl hm;have e:x=y:=by
   rcases List.mem_cons.1 (h.subset (by simp:x ∈ x::l)) with e | e
   ·exact e
   ·rcases List.mem_cons.1 (h.symm.subset (by simp:y ∈ y::m)) with e2 | e2
    ·exact e2.symm
    ·have h1:=hm.1 x e;have h2:=hl.1 y e2;omega
  subst e;rw[Vv hl.2 hm.2 ((List.perm_cons x).1 h)]
def P3 (o:List Sc):List Sc:=o.foldl (fun l x=>Un x l) []
theorem N5 {o:List Sc} (h:EB o):Iu (P3 o)∧P3 o ~ o:=by
 have main:∀ (o l p:List Sc),Iu l→l ~ p→(p++o).Pairwise (fun a b=>Ug a b=true)→Iu (o.foldl (fun l x=>Un x l) l)∧o.foldl (fun l x=>Un x l) l ~ p++o:=by
  intro o;induction o with
  |nil=>intro l p h1 h2 _;simpa using ⟨h1,h2⟩
  |cons x o ih=>
   intro l p h1 h2 h3;have hx:∀ y,y ∈ p→Ug y x=true:=fun y hy=>by
    rw[List.pairwise_append] at h3;exact h3.2.2 y hy x (by simp)
   have:=ih (Un x l) (p++[x]) (T8 h1 fun y hy e=>by
    have:=hx y (h2.subset hy);simp[Ug] at this;omega) ((Qv x l).trans ((h2.cons x).trans (List.perm_append_singleton x p).symm)) (by simpa using h3)
   simpa using this
 have:=main o [] [] (by simp[Iu]) (Perm.refl _) (by show EB ([]++o);exact h);simpa[P3] using this
theorem UX:∀ (l:List Sc) (a b:Nat),Iu l→(∀ x,x ∈ l→a≤x.i∧x.i<b)→l.length≤b-a
 |[],a,b,_,_=>by simp
 |x::l,a,b,h,hb=>by
  unfold Iu at h;rw[List.pairwise_cons] at h;have h1:=hb x (by simp);have:=UX l (x.i+1) b h.2 fun y hy=>⟨h.1 y hy,(hb y (by simp[hy])).2⟩;simp;omega
end Go.PL
namespace Go.Proofs.YtndnlknocdangaaGreat
open Go Go.G Go.Proofs Go.PL
def XL (x:Sc):List A:=[iv x.i,iv x.j,iv x.n]
def Mj (x:Sc):A:=.agg (XL x)
@[simp] theorem yf {x:Sc}:(Mj x).cells=XL x:=rfl
@[simp] theorem AfY {x:Sc}:(XL x).length=3:=rfl
@[simp] theorem Adw {a:A}:Yi Tryz.prog 242 a=some (.ifc 242 a):=by
 unfold Yi;rw[show Tryz.prog.underlying 242=some (.pointer 244) by kernel_rfl]
@[simp] theorem Ag4 {a:A}:Yi Tryz.prog 247 a=some (.ifc 247 a):=by
 unfold Yi;rw[show Tryz.prog.underlying 247=some (.struct (Tryz.prog.fieldsOf 247)) by kernel_rfl]
@[simp] theorem xJ {a:A}:Ky Tryz.prog 247 false (.ifc 247 a)=some a:=by
 simp only[Ky,if_true];rw[show Tryz.prog.underlying 247=some (.struct (Tryz.prog.fieldsOf 247)) by kernel_rfl];rfl
def JQ (l junk:List Sc) (v:Nat):Fam:=⟨fun r p=>if p=[] then ⟨1,.cells [.osl (r::[0]) v 3 0 l.length]⟩ else if p=[0] then ⟨v,.arr 3 ((l++junk).map Mj)⟩ else ⟨0,.none⟩,fun {g δ r r'} hg hd p=>by
  by_cases h1:p=[]
  ·rw[if_pos h1,if_pos h1];refine Fam.cells_ren ?_;simp[A.renL,A.ren,hg,hd]
  ·rw[if_neg h1,if_neg h1];by_cases h2:p=[0]
   ·rw[if_pos h2];refine Fam.arr_ren ?_;have e:∀ x:Sc,(Mj x).ren g δ=Mj x:=fun x=>by simp[Mj,XL,A.ren,A.renL]
    simp only[Co,List.map_map];refine List.map_congr_left fun x _=>?_;exact e x
   ·rw[if_neg h2];rfl,fun {D r} hD p=>by
  by_cases h1:p=[]
  ·rw[if_pos h1];simp[Ob.refs,A.refsL,A.refs,hD]
  ·rw[if_neg h1];by_cases h2:p=[0]
   ·rw[if_pos h2];simp only[Ob.refs,refsL_iff];intro y hy;obtain⟨x,_,rfl⟩:=List.mem_map.1 hy;simp[A.refs,A.refsL,Mj,XL]
   ·rw[if_neg h2];trivial⟩
@[simp] theorem sv {l junk:List Sc} {v r:Nat} {p:Nm}:(JQ l junk v).F r p=if p=[] then ⟨1,.cells [.osl (r::[0]) v 3 0 l.length]⟩ else if p=[0] then ⟨v,.arr 3 ((l++junk).map Mj)⟩ else ⟨0,.none⟩:=rfl
abbrev Z8 (r:Nat):A:=.pob [r] 1 0
abbrev bf (r:Nat):A:=.ifc 242 (Z8 r)
abbrev scI (x:Sc):A:=.ifc 247 (Mj x)
theorem sj {x:Sc}:∀ y,y ∈ XL x→y.bare1=true:=fun y hy=>by simp[XL] at hy;rcases hy with rfl | rfl | rfl<;>rfl
@[simp] theorem Aft {x:Sc}:A.ones (XL x)=true:=rfl
@[simp] theorem Ae5 {x:Sc}:(XL x).take 3=XL x:=rfl
theorem kd {x:Sc}:A.agg (XL x)=Mj x:=rfl
theorem ru {l:List Sc}:Dd 3 (l.map Mj)=true:=by rw[EX];simp
theorem O9 (x:Sc):EH (fun _=>scI x):=LA (GV (cs:=XL x) rfl fun y hy=>by simp[XL] at hy;rcases hy with rfl | rfl | rfl<;>rfl)
theorem MD (l junk:List Sc) (v:Nat) (hl:l.length≤1000):SpecF Tryz.prog 194 (fun r=>[.osl (r::[0]) v 3 0 l.length]) (JQ l junk v) (fun _=>iv l.length) (JQ l junk v):=by
 refine Aq Sa (by simp) (Ae C7 Ah) AB fun w0 I0 M0 m0=>?_;unfold Mc;simp;exact Ax rfl rfl (fun p=>by simp)
theorem bw (l junk:List Sc) (v:Nat) (hl:l.length≤1000) (x:Sc):SpecF Tryz.prog 242 (fun r=>[Z8 r,scI x]) (JQ l junk v) (fun _=>.tup []) (JQ (l++[x]) [] (v+1)):=by
 refine Aq Rn (by simp) (Ae Au (Ae (O9 x) Ah)) (A5 Ah) fun w0 I0 M0 m0=>?_;unfold KO;simp[ru,Aa];refine⟨sj,by omega,?_⟩;exact AU rfl rfl (fun p=>by by_cases h1:p=[]<;>by_cases h2:p=[0]<;>simp[h1,h2,Aa])
theorem gh (l junk:List Sc) (v:Nat) (hl:l.length≤1000) (x:Sc):SpecF Tryz.prog 241 (fun r=>[Z8 r]) (JQ (l++[x]) junk v) (fun _=>scI x) (JQ l (x::junk) v):=by
 refine Aq TT (by simp) (Ae Au Ah) (O9 x) fun w0 I0 M0 m0=>?_;have e1:i64.wrap (l.length:Int)=(l.length:Int):=EJ;have he:(l.map Mj++Mj x::junk.map Mj)[l.length]? = some (Mj x):=by
  rw[List.getElem?_append_right (by simp)];simp
 unfold LZ;simp[e1,he,Aa,show(l.length:Int)<l.length+1 by omega,show(l.length:Int)≤l.length+1 by omega];exact AU rfl rfl (fun p=>by by_cases h1:p=[]<;>by_cases h2:p=[0]<;>simp[h1,h2,Aa])
theorem TS (n:Int):G.Spec Tryz.prog 207 [iv n] (bv false):=by
 refine Al Rk (by simp) fun w0 I0=>?_;unfold KS;simp;exact Ad rfl
def Eu (a b:Int):Int:=if a<b then -1 else if b<a then 1 else 0
theorem O5 (a b:Int):G.Spec Tryz.prog 200 [iv a,iv b] (iv (Eu a b)):=by
 refine Al PA (by simp) fun w0 I0=>?_;unfold Ju Eu;simp;refine Af (TS a) rfl ?_;simp;refine Af (TS b) rfl ?_;by_cases h:a<b
 ·simp[h];exact Ad rfl
 ·by_cases h2:b<a
  ·simp[h,h2];exact Ad rfl
  ·simp[h,h2];exact Ad rfl
theorem qP (a b c:Int):G.Spec Tryz.prog 245 [.sl true [iv a,iv b,iv c]] (iv (if a ≠ 0 then a else if b ≠ 0 then b else c)):=by
 refine Al Wb (by simp) fun w0 I0=>?_;have w1:i64.wrap 1=1:=rfl;have w2:i64.wrap 2=2:=rfl;have w3:i64.wrap 3=3:=rfl;unfold Ps;simp;refine Ab Ai FA.eq_1 ?_;by_cases h1:a=0
 ·simp[h1,w1];refine Ab Ai FA.eq_1 ?_;by_cases h2:b=0
  ·simp[h2,w2];refine Ab Ai FA.eq_1 ?_;by_cases h3:c=0
   ·simp[h3,w3];refine Ab Ai FA.eq_1 ?_;simp;exact Ad rfl
   ·simp[h3];exact Ad rfl
  ·simp[h2];exact Ad rfl
 ·simp[h1];exact Ad rfl
theorem fT (a b:Sc):decide ((if Eu b.n a.n ≠ 0 then Eu b.n a.n else if Eu a.i b.i ≠ 0 then Eu a.i b.i else Eu a.j b.j)<0)=Bk a b:=by
 have h3:∀ x y:Int,(x<y∧Eu x y = -1)∨(x=y∧Eu x y=0)∨(y<x∧Eu x y=1):=fun x y=>by
  unfold Eu;rcases Int.lt_trichotomy x y with h | h | h
  ·exact .inl ⟨h,if_pos h⟩
  ·exact .inr (.inl ⟨h,by rw[if_neg (by omega),if_neg (by omega)]⟩)
  ·exact .inr (.inr ⟨h,by rw[if_neg (by omega),if_pos h]⟩)
 unfold Bk;rcases h3 b.n a.n with ⟨h,e⟩ | ⟨h,e⟩ | ⟨h,e⟩
 ·rw[e];simp[h]
 ·rw[e];rcases h3 a.i b.i with ⟨h2,e2⟩ | ⟨h2,e2⟩ | ⟨h2,e2⟩
  ·rw[e2];have:a.i<b.i:=by omega
   simp[h,this]
  ·rw[e2];have h2':a.i=b.i:=by omega
   rcases h3 a.j b.j with ⟨h4,e4⟩ | ⟨h4,e4⟩ | ⟨h4,e4⟩
   ·rw[e4];have:a.j<b.j:=by omega
    simp[h,h2',this]
   ·rw[e4];have:¬ a.j<b.j:=by omega
    simp[h,h2',this]
   ·rw[e4];have:¬ a.j<b.j:=by omega
    simp[h,h2',this]
  ·rw[e2];have h5:¬ a.i<b.i:=by omega
   have h6:¬ a.i=b.i:=by omega
   simp[h,h5,h6]
 ·rw[e];have h5:¬ b.n<a.n:=by omega
  have h6:¬ a.n=b.n:=by omega
  simp[h5,h6]
theorem cu (a b:Sc):G.Spec Tryz.prog 244 [Mj a,Mj b] (bv (Bk a b)):=by
 refine Al MQ (by simp) fun w0 I0=>?_;have hO:=qP (Eu b.n a.n) (Eu a.i b.i) (Eu a.j b.j);unfold HW;simp[Mj,XL];refine Af (O5 b.n a.n) rfl ?_;simp;refine Af (O5 a.i b.i) rfl ?_;simp;refine Af (O5 a.j b.j) rfl ?_;simp;refine Af hO rfl ?_;simp;refine BE ?_;rw[← fT];simp
theorem NM (l junk:List Sc) (v:Nat) (hl:l.length≤1000) (i j:Nat) (hi:i<l.length) (hj:j<l.length):SpecF Tryz.prog 240 (fun r=>[.osl (r::[0]) v 3 0 l.length,iv i,iv j]) (JQ l junk v) (fun _=>bv (Bk l[i] l[j])) (JQ l junk v):=by
 refine Aq Ro (by simp) (Ae C7 (Ae AB (Ae AB Ah))) AB fun w0 I0 M0 m0=>?_;have hA:=cu l[i] l[j];have gi:(l.map Mj++junk.map Mj)[i]? = some (Mj l[i]):=by rw[List.getElem?_append_left (by simpa using hi)];simp[hi]
 have gj:(l.map Mj++junk.map Mj)[j]? = some (Mj l[j]):=by rw[List.getElem?_append_left (by simpa using hj)];simp[hj]
 unfold KX;simp[gi,gj,hi,hj,show(i:Int)<l.length by omega,show(j:Int)<l.length by omega,kd];refine Af hA rfl ?_;simp;exact Ax rfl rfl (fun p=>by simp)
theorem Nx (l junk:List Sc) (v:Nat) (hl:l.length≤1000) (i j:Nat) (hi:i<l.length) (hj:j<l.length):SpecF Tryz.prog 243 (fun r=>[.osl (r::[0]) v 3 0 l.length,iv i,iv j]) (JQ l junk v) (fun _=>.tup []) (JQ ((l.set i l[j]).set j l[i]) junk v):=by
 refine Aq Rp (by simp) (Ae C7 (Ae AB (Ae AB Ah))) (A5 Ah) fun w0 I0 M0 m0=>?_;have gi:(l.map Mj++junk.map Mj)[i]? = some (Mj l[i]):=by rw[List.getElem?_append_left (by simpa using hi)];simp[hi]
 have gj:(l.map Mj++junk.map Mj)[j]? = some (Mj l[j]):=by rw[List.getElem?_append_left (by simpa using hj)];simp[hj]
 unfold KT;simp[gi,gj,hi,hj,show(i:Int)<l.length by omega,show(j:Int)<l.length by omega,kd];have gk:((l.map Mj).set i (Mj l[j])++junk.map Mj)[j]? = some (Mj l[j]):=by
  rw[List.getElem?_append_left (by simpa using hj)];by_cases e:i=j
  ·subst e;simp[hi]
  ·rw[List.getElem?_set_ne e];simp[hj]
 rw[gk];simp[hj];exact AU rfl rfl (fun p=>by by_cases h1:p=[]<;>by_cases h2:p=[0]<;>simp[h1,h2,Aa,List.map_set])
theorem PV:MY Tryz.prog 242 "Less" = some (240,some 244):=by kernel_rfl
theorem Qr:MY Tryz.prog 242 "Swap" = some (243,some 244):=by kernel_rfl
theorem Zr:MY Tryz.prog 242 "Len" = some (194,some 244):=by kernel_rfl
theorem fW:MY Tryz.prog 242 "Push" = some (242,none):=by kernel_rfl
theorem nG:MY Tryz.prog 242 "Pop" = some (241,none):=by kernel_rfl
theorem Gq {l:List Sc} {i:Nat} (h:i<l.length):l.getD i Yz=l[i]:=by rw[List.getD_eq_getElem?_getD,List.getElem?_eq_getElem h];rfl
theorem b9 {l:List Sc} {i j:Nat} (hi:i<l.length) (hj:j<l.length):UF l i j=(l.set i l[j]).set j l[i]:=by unfold UF;rw[Gq hi,Gq hj]
theorem HI {H:Hp} {l junk:List Sc} {v:Nat} (hH:∀ p,H (0::p)=(JQ l junk v).F 0 p):VM Tryz.prog H (some 244) (Z8 0)=some (.osl [0,0] v 3 0 l.length):=by
 have:=hH [];unfold VM;simp[this]
theorem Adp {n0:Nat} {w0:World} {I0:Nat→Prop} {M0:Nm→Nat→Prop} {m0:Mu} {Q:Exit→Sta→Prop} {junk:List Sc} {v:Nat}:∀ (f:Nat) (l:List Sc) (j:Nat) (H:Hp),l.length≤1000→j<l.length→j<f→(∀ p,H (0::p)=(JQ l junk v).F 0 p) →
  (∀ (H':Hp) (st:List (Nat × A)),(∀ p,H' (0::p)=(JQ (g8 f l j) junk v).F 0 p)→Q (.exit 0) ⟨lk st,H'⟩) →
  LoopC (DD Tryz.prog w0 I0 M0 n0 m0) E4 Q ⟨lk [(0,bf 0),(1,iv j)],H⟩:=by
 intro f;induction f with
 |zero=>intro l j H _ _ hf;omega
 |succ f ih=>
  intro l j H hl hj hf hH hq;obtain⟨i,hi⟩:∃ i,i=(j-1) / 2:=⟨_,rfl⟩;have hil:i<l.length:=by omega
  have e1:i64.wrap ((j:Int)-1)=(j:Int)-1:=EJ;have e2:i64.wrap (((j:Int)-1).tdiv 2)=(i:Int):=by
   by_cases h0:j=0
   ·subst h0;have:i=0:=by omega
    subst this;rfl
   ·rw[Int.tdiv_eq_ediv_of_nonneg (by omega),Bf (by omega) (by omega)];omega
  have hL:=NM l junk v hl j i hj hil;have hS:=Nx l junk v hl i j hil hj;rw[g8,← hi,Gq hj,Gq hil,b9 hil hj] at hq;refine Ab Ai E4.eq_1 ?_;by_cases hij:i=j
  ·rw[if_pos (.inl hij)] at hq;simp[e1,e2,hij];rw[Ay];simp;exact hq H [(0,bf 0),(1,iv j),(4,iv j),(17,bv true)] hH
  ·have hij':¬ (i:Int)=j:=by omega
   simp[e1,e2,hij,hij'];rw[Ay];simp;refine Hi 0 hL hH rfl PV (HI hH) rfl (by simp) ?_;cases hA:Bk l[j] l[i] with
   |false=>
    rw[hA,if_pos (.inr rfl)] at hq;simp;exact hq _ [(0,bf 0),(1,iv j),(4,iv i),(17,bv true)] (fun p=>by simp)
   |true=>
    rw[hA,if_neg (by simp[hij])] at hq;simp;have hH2:∀ p,(ov 0 ((JQ l junk v).F 0) H) (0::p)=(JQ l junk v).F 0 p:=fun p=>by simp
    refine Hi 0 hS hH2 rfl Qr (HI hH2) rfl (by simp) ?_;simp;refine ih _ i _ (by simp;omega) (by simp;omega) (by omega) (fun p=>by simp) hq
theorem qn (l junk:List Sc) (v:Nat) (hl:l.length≤1000) (j:Nat) (hj:j<l.length):SpecF Tryz.prog 202 (fun r=>[bf r,iv j]) (JQ l junk v) (fun _=>.tup []) (JQ (g8 (j+1) l j) junk v):=by
 refine Aq MO (by simp) (Ae (LA Au) (Ae AB Ah)) (A5 Ah) fun w0 I0 M0 m0=>?_;unfold HS;simp;refine LoopC.le (Ao [(0,bf 0),(1,iv j)] (by simp)) ?_;refine Adp (junk:=junk) (v:=v) (j+1) l j _ hl hj (by omega) (fun p=>by simp) fun H' st hH=>?_;simp;exact AU rfl rfl hH
theorem qa {l:List Sc} {i n:Nat} (h:2*i+1<n):JS l i n<n∧i<JS l i n:=by
 unfold JS;split
 ·rename_i h2;omega
 ·omega
theorem rn {n0:Nat} {w0:World} {I0:Nat→Prop} {M0:Nm→Nat→Prop} {m0:Mu} {Q':Exit→Sta→Prop} {junk l:List Sc} {v i k:Nat} {i0 n:Int} {H:Hp} (hl:l.length≤1000) (hi:i<l.length) (hk:k<l.length) (hH:∀ p,H (0::p)=(JQ l junk v).F 0 p)
  (h0:Bk l[k] l[i]=false→∀ (H':Hp),(∀ p,H' (0::p)=(JQ l junk v).F 0 p)→Q' (.exit 0) ⟨lk [(0,bf 0),(1,iv i0),(2,iv n),(7,iv i),(9,iv k),(39,bv true)],H'⟩)
  (h1:Bk l[k] l[i]=true→∀ (H':Hp),(∀ p,H' (0::p)=(JQ (UF l i k) junk v).F 0 p)→Q' .normal ⟨lk [(0,bf 0),(1,iv i0),(2,iv n),(7,iv k)],H'⟩) :
  WPC (DD Tryz.prog w0 I0 M0 n0 m0) CY Q' ⟨lk [(0,bf 0),(1,iv i0),(2,iv n),(7,iv i),(9,iv k)],H⟩:=by
 have hL:=NM l junk v hl k i hk hi;have hS:=Nx l junk v hl i k hi hk;rw[← b9 hi hk] at hS;rw[CY.eq_1];simp;refine Hi 0 hL hH rfl PV (HI hH) rfl (by simp) ?_;cases hA:Bk l[k] l[i] with
 |false=>
  simp;exact h0 hA _ (fun p=>by simp)
 |true=>
  simp;have hH2:∀ p,(ov 0 ((JQ l junk v).F 0) H) (0::p)=(JQ l junk v).F 0 p:=fun p=>by simp
  refine Hi 0 hS hH2 rfl Qr (HI hH2) rfl (by simp) ?_;simp;exact h1 hA _ (fun p=>by simp)
theorem qo {n0:Nat} {w0:World} {I0:Nat→Prop} {M0:Nm→Nat→Prop} {m0:Mu} {Q:Exit→Sta→Prop} {junk:List Sc} {v n:Nat} {i0:Int}:∀ (f:Nat) (l:List Sc) (i:Nat) (H:Hp),l.length≤1000→n≤l.length→(i<n∨(n=0∧i=0))→n<i+f→i<l.length→(∀ p,H (0::p)=(JQ l junk v).F 0 p) →
  (∀ (H':Hp) (st:List (Nat × A)),(∀ p,H' (0::p)=(JQ (GO f l i n).1 junk v).F 0 p)→(lk st) 1=iv i0→(lk st) 7=iv (GO f l i n).2→Q (.exit 0) ⟨lk st,H'⟩) →
  LoopC (DD Tryz.prog w0 I0 M0 n0 m0) CZ Q ⟨lk [(0,bf 0),(1,iv i0),(2,iv n),(7,iv i)],H⟩:=by
 intro f;induction f with
 |zero=>intro l i H hl hn hi hf hil hH hq;omega
 |succ f ih=>
  intro l i H hl hn hi hf hil hH hq;have e1:i64.wrap (2*(i:Int))=2*(i:Int):=EJ;have e2:i64.wrap (2*(i:Int)+1)=((2*i+1:Nat):Int):=Bg;rw[GO] at hq;refine Ab Ai CZ.eq_1 ?_;by_cases h1:n≤2*i+1
  ·rw[if_pos h1] at hq;simp[e1,e2,show(n:Int)≤2*i+1 by omega];exact hq H [(0,bf 0),(1,iv i0),(2,iv n),(7,iv i),(8,iv (2*i+1:Nat)),(21,bv true)] hH rfl rfl
  ·rw[if_neg h1] at hq;have e3:i64.wrap (2*(i:Int)+1+1)=((2*i+2:Nat):Int):=Bg;have hkl:=qa (l:=l) (i:=i) (n:=n) (by omega);have fin:∀ (H':Hp),(∀ p,H' (0::p)=(JQ l junk v).F 0 p)→WPC (DD Tryz.prog w0 I0 M0 n0 m0) CY (BR 1 (F7 (LoopC (DD Tryz.prog w0 I0 M0 n0 m0) CZ Q) Q)) ⟨lk [(0,bf 0),(1,iv i0),(2,iv n),(7,iv i),(9,iv (JS l i n))],H'⟩:=fun H' hH'=>by
    refine rn hl hil (k:=JS l i n) (by omega) hH' (fun hA H2 h2=>?_) (fun hA H2 h2=>?_)
    ·rw[← Gq (by omega),← Gq hil] at hA;rw[if_neg (by rw[hA];simp)] at hq;exact hq H2 _ h2 rfl rfl
    ·rw[← Gq (by omega),← Gq hil] at hA;rw[if_pos hA] at hq;simp;exact ih _ _ H2 (by simp;omega) (by simp;omega) (.inl hkl.1) (by omega) (by simp;omega) h2 hq
   clear hq ih;simp[e1,e2,show ¬ (n:Int)≤2*i+1 by omega,show ¬ 2*(i:Int)+1<0 by omega,e3];by_cases h2:2*i+2<n
   ·have hL:=NM l junk v hl (2*i+2) (2*i+1) (by omega) (by omega);simp[show 2*(i:Int)+2<n by omega];rw[Ay];simp;refine Hi 0 hL hH rfl PV (HI hH) rfl (by simp) ?_;have hk:JS l i n=if Bk l[2*i+2] l[2*i+1]=true then 2*i+2 else 2*i+1:=by
     unfold JS;rw[Gq (by omega),Gq (by omega)];simp[h2]
    rw[hk] at fin;cases hA:Bk l[2*i+2] l[2*i+1] with
    |false=>
     rw[hA] at fin;simp;exact fin _ (fun p=>by simp)
    |true=>
     rw[hA] at fin;simp;exact fin _ (fun p=>by simp)
   ·have hk:JS l i n=2*i+1:=by
     unfold JS;rw[if_neg (fun e=>h2 e.1)]
    rw[hk] at fin;simp[show ¬ 2*(i:Int)+2<n by omega];rw[Ay];simp;exact fin _ hH
theorem gm (l junk:List Sc) (v:Nat) (hl:l.length≤1000) (n:Nat) (hn:n≤l.length) (h0:0<l.length):SpecF Tryz.prog 203 (fun r=>[bf r,iv 0,iv n]) (JQ l junk v) (fun _=>bv (decide (0<(GO (n+1) l 0 n).2))) (JQ (GO (n+1) l 0 n).1 junk v):=by
 refine Aq K5 (by simp) (Ae (LA Au) (Ae AB (Ae AB Ah))) AB fun w0 I0 M0 m0=>?_;unfold GR;simp;refine LoopC.le (Ao [(0,bf 0),(1,iv 0),(2,iv n),(7,iv (0:Nat))] (by simp)) ?_;refine qo (junk:=junk) (v:=v) (n+1) l 0 _ hl hn (by omega) (by omega) h0 (fun p=>by simp) fun H' st hH h1 h7=>?_;simp[h1,h7];exact Ax rfl rfl hH
theorem Zo (l junk:List Sc) (v:Nat) (hl:l.length≤900) (x:Sc):SpecF Tryz.prog 193 (fun r=>[bf r,scI x]) (JQ l junk v) (fun _=>.tup []) (JQ (g8 (l.length+1) (l++[x]) l.length) [] (v+1)):=by
 refine Aq K6 (by simp) (Ae (LA Au) (Ae (O9 x) Ah)) (A5 Ah) fun w0 I0 M0 m0=>?_;have hP:=bw l junk v (by omega) x;have hL:=MD (l++[x]) [] (v+1) (by simp;omega);have hU:=qn (l++[x]) [] (v+1) (by simp;omega) l.length (by simp);have e1:i64.wrap (l.length:Int)=(l.length:Int):=EJ;unfold GQ;simp;refine Hi 0 hP (fun p=>by simp) rfl fW rfl rfl (by simp) ?_;simp;have hH2:∀ p,(ov 0 ((JQ (l++[x]) [] (v+1)).F 0) (FR []):Hp) (0::p)=(JQ (l++[x]) [] (v+1)).F 0 p:=fun p=>by simp
 refine Hi 0 hL hH2 rfl Zr (HI hH2) rfl (by simp) ?_;simp[e1];refine Ar 0 hU (fun p=>by simp) (by simp) (by simp) ?_;simp;exact AU rfl rfl (fun p=>by simp)
theorem aW (l junk:List Sc) (v:Nat) (hl:l.length≤900) (h0:0<l.length):SpecF Tryz.prog 195 (fun r=>[bf r]) (JQ l junk v) (fun _=>scI ((IW l).getD (l.length-1) Yz)) (JQ ((IW l).take (l.length-1)) ((IW l).getD (l.length-1) Yz::junk) v):=by
 refine Aq LH (by simp) (Ae (LA Au) Ah) (O9 _) fun w0 I0 M0 m0=>?_;obtain⟨n,hn⟩:∃ n,n=l.length-1:=⟨_,rfl⟩;have hlen:=SO l;rw[← hn];have hL:=MD l junk v (by omega);have hS:=Nx l junk v (by omega) 0 n h0 (by omega);rw[← b9 h0 (by omega)] at hS;have hD:=gm (UF l 0 n) junk v (by simp;omega) n (by simp;omega) (by simp;omega);have hpd:(GO (n+1) (UF l 0 n) 0 n).1=IW l:=by unfold IW;rw[← hn]
 rw[hpd] at hD;have hsplit:IW l=(IW l).take n++[(IW l).getD n Yz]:=by
  rw[Gq (by omega),List.take_append_getElem,AX (by omega)]
 have hP:=gh ((IW l).take n) junk v (by simp;omega) ((IW l).getD n Yz);rw[← hsplit] at hP;have e1:i64.wrap ((l.length:Int)-1)=(n:Int):=Bg;have hH1:∀ p,(ov 0 ((JQ l junk v).F 0) (FR []):Hp) (0::p)=(JQ l junk v).F 0 p:=fun p=>by simp
 have hH3:∀ l2:List Sc,∀ p,(ov 0 ((JQ l2 junk v).F 0) (FR []):Hp) (0::p)=(JQ l2 junk v).F 0 p:=fun l2 p=>by simp
 generalize (IW l).getD n Yz=z at hP ⊢;generalize (IW l).take n=l3 at hP ⊢;generalize IW l=l2 at hD hP;generalize (GO (n+1) (UF l 0 n) 0 n).2=dd at hD;generalize UF l 0 n=l1 at hS hD;unfold HA;simp;refine Hi 0 hL hH1 rfl Zr (HI hH1) rfl (by simp) ?_;simp[e1];refine Hi 0 hS hH1 rfl Qr (HI hH1) rfl (by simp) ?_;simp;refine Ar 0 hD (fun p=>by simp) (by simp) (by simp) ?_;simp;refine Hi 0 hP (fun p=>by simp) rfl nG rfl rfl (by simp) ?_;simp;exact Ax rfl rfl (fun p=>by simp)
def Z6 (x:Sc):List A:=[iv x.i,iv x.j]
def Jh (x:Sc):A:=.agg (Z6 x)
@[simp] theorem xV {x:Sc}:(Jh x).cells=Z6 x:=rfl
@[simp] theorem Aeo {x:Sc}:(Z6 x).length=2:=rfl
@[simp] theorem AeB {x:Sc}:A.ones (Z6 x)=true:=rfl
@[simp] theorem Afm {x:Sc}:(Z6 x).take 2=Z6 x:=rfl
theorem C0 {x:Sc}:A.agg (Z6 x)=Jh x:=rfl
theorem cW {x:Sc}:∀ y,y ∈ Z6 x→y.bare1=true:=fun y hy=>by simp[Z6] at hy;rcases hy with rfl | rfl<;>rfl
theorem re {l:List Sc}:Dd 2 (l.map Jh)=true:=by rw[EX];simp
theorem rq (x:Sc):EH (fun _=>Jh x):=GV (cs:=Z6 x) rfl cW
def Z5 (l:List Sc) (v:Nat):Fam:=⟨fun r p=>if p=[] then ⟨v,.arr 2 (l.map Jh)⟩ else ⟨0,.none⟩,fun {g δ r r'} hg hd p=>by
  by_cases h1:p=[]
  ·rw[if_pos h1];refine Fam.arr_ren ?_;have e:∀ x:Sc,(Jh x).ren g δ=Jh x:=fun x=>by simp[Jh,Z6,A.ren,A.renL]
   simp only[Co,List.map_map];refine List.map_congr_left fun x _=>?_;exact e x
  ·rw[if_neg h1];rfl,fun {D r} hD p=>by
  by_cases h1:p=[]
  ·rw[if_pos h1];simp only[Ob.refs,refsL_iff];intro y hy;obtain⟨x,_,rfl⟩:=List.mem_map.1 hy;simp[A.refs,A.refsL,Jh,Z6]
  ·rw[if_neg h1];trivial⟩
@[simp] theorem Jx {l:List Sc} {v r:Nat} {p:Nm}:(Z5 l v).F r p=if p=[] then ⟨v,.arr 2 (l.map Jh)⟩ else ⟨0,.none⟩:=rfl
abbrev oU (l:List Sc) (v r:Nat):A:=.osl [r] v 2 0 l.length
theorem Wj (p q:Sc):G.Spec Tryz.prog 197 [Jh p,Jh q] (bv (!Ug p q)):=by
 refine Al MH (by simp) fun w0 I0=>?_;unfold HX Ug;by_cases h1:p.i<q.i<;>by_cases h2:p.j<q.j<;>by_cases h3:q.i<p.i<;>by_cases h4:q.j<p.j<;>simp[Jh,Z6,h1,h2,h3,h4,Aa]<;>exact BE rfl
abbrev crF (x:Sc):A:=.fnc 197 [Jh x] []
theorem X2 (x:Sc):EH (fun _=>crF x):=XO (Ae (rq x) Ah) Ah
def Nh (x:Sc):List Sc→Nat→Int
 |[],_=>-1
 |q::l,i=>if Ug x q=true then Nh x l (i+1) else i
theorem R6 (x:Sc):∀ (l:List Sc) (i:Nat),decide (0≤Nh x l i) = !(l.all fun q=>Ug x q)
 |[],i=>rfl
 |q::l,i=>by
  unfold Nh;cases h:Ug x q with
  |true=>simp[h,R6 x l (i+1)]
  |false=>simp[h]
theorem wJ {n0:Nat} {w0:World} {I0:Nat→Prop} {M0:Nm→Nat→Prop} {m0:Mu} {Q:Exit→Sta→Prop} {x:Sc} {l:List Sc} {v:Nat} {H:Hp} (hl:l.length≤1000) (hH:∀ p,H (0::p)=(Z5 l v).F 0 p)
  (hq:∀ y:Int,y=Nh x l 0→y ≠ -1→Q .ret ⟨lk [(4,iv y)],H⟩) (hq2:Nh x l 0 = -1→Q (.exit 0) ⟨lk [(0,oU l v 0),(1,crF x),(7,iv l.length),(8,iv l.length),(9,bv false)],H⟩):∀ (m i:Nat),i+m=l.length→Nh x (l.drop i) i=Nh x l 0 →
  LoopC (DD Tryz.prog w0 I0 M0 n0 m0) A6 Q ⟨lk [(0,oU l v 0),(1,crF x),(7,iv l.length),(8,iv i)],H⟩:=by
 intro m;induction m with
 |zero=>
  intro i hi he;have:i=l.length:=by omega
  subst this;rw[List.drop_length] at he;refine Ab Ai A6.eq_1 ?_;simp;exact hq2 (he.symm.trans rfl)
 |succ m ih=>
  intro i hi he;have hlt:i<l.length:=by omega
  have h0:=hH [];have hg:(l.map Jh)[i]? = some (Jh l[i]):=by simp[hlt]
  have e1:=AW i;rw[List.drop_eq_getElem_cons hlt,Nh] at he;refine Ab Ai A6.eq_1 ?_;simp[h0,hg,hlt,C0,show(i:Int)<l.length by omega];refine LI (fs:=[Jh x]) (caps:=[]) rfl (Wj x l[i]) rfl ?_;cases hp:Ug x l[i] with
  |true=>
   rw[hp,if_pos rfl] at he;simp[e1];exact ih (i+1) (by omega) he
  |false=>
   rw[hp,if_neg (by simp)] at he;simp;exact hq _ he (by omega)
theorem iU (x:Sc) (l:List Sc) (v:Nat) (hl:l.length≤1000):SpecF Tryz.prog 204 (fun r=>[oU l v r,crF x]) (Z5 l v) (fun _=>iv (Nh x l 0)) (Z5 l v):=by
 refine Aq EZ (by simp) (Ae C7 (Ae (X2 x) Ah)) AB fun w0 I0 M0 m0=>?_;unfold CA;simp;refine wJ (v:=v) (x:=x) hl (fun p=>by simp) (fun y hy hn=>?_) (fun h=>?_) l.length 0 (by omega) rfl
 ·simp;exact Ax (by rw[hy];rfl) rfl (fun p=>by simp)
 ·simp;exact Ax (by rw[h];rfl) rfl (fun p=>by simp)
theorem Vu (x:Sc) (l:List Sc) (v:Nat) (hl:l.length≤1000):SpecF Tryz.prog 196 (fun r=>[oU l v r,crF x]) (Z5 l v) (fun _=>bv (!Gn l x)) (Z5 l v):=by
 have hI:=iU x l v hl;have e:decide (0≤Nh x l 0) = !Gn l x:=by
  rw[R6];unfold Gn;congr 2;funext q;exact YK
 refine Aq Eh (by simp) (Ae C7 (Ae (X2 x) Ah)) AB fun w0 I0 M0 m0=>?_;unfold Cg;simp;refine Ar 0 hI (fun p=>by simp) (by simp) (by simp) ?_;simp;rw[← e];exact Ax rfl rfl (fun p=>by simp)
end Go.Proofs.YtndnlknocdangaaGreat
