/-
 Texts,merged,without what is not reached.
-/
import Derived.Test.YtebihdhapepejaaGreatDoorKCb
set_option linter.unusedSimpArgs false
set_option linter.unusedVariables false
open Go.IntKind (i64 u64)
namespace Go.G
open Go.RowKit
structure Fam where
 F:Nat→Nm→VOb
 ren:∀ {g:Nm→Nm} {δ:Nm→Nat} {r r':Nat},(∀ p,g (r::p)=r'::p)→(∀ p,δ (r::p)=0)→∀ p,(F r p).ren g δ 0=F r' p
 refs:∀ {D:Nm→Prop} {r:Nat},(∀ p,D (r::p))→∀ p,(F r p).ob.refs D
def Fam.no:Fam:=⟨fun _ _=>⟨0,.none⟩,fun _ _ _=>rfl,fun _ _=>trivial⟩
@[simp] theorem Fam.no_F {r:Nat} {p:Nm}:Fam.no.F r p=⟨0,.none⟩:=rfl
structure Gb (a:Nat→A):Prop where
 ren:∀ {g:Nm→Nm} {δ:Nm→Nat} {r r':Nat},(∀ p,g (r::p)=r'::p)→(∀ p,δ (r::p)=0)→(a r).ren g δ=a r'
 refs:∀ {D:Nm→Prop} {r:Nat},(∀ p,D (r::p))→(a r).refs D
structure FamL (a:Nat→List A):Prop where
 ren:∀ {g:Nm→Nm} {δ:Nm→Nat} {r r':Nat},(∀ p,g (r::p)=r'::p)→(∀ p,δ (r::p)=0)→A.renL g δ (a r)=a r'
 refs:∀ {D:Nm→Prop} {r:Nat},(∀ p,D (r::p))→A.refsL D (a r)
@[simp] theorem Ay:FamL (fun _=>[]):=⟨fun _ _=>by simp[A.renL],fun _=>by simp[A.refsL]⟩
theorem Ak {a:Nat→A} {l:Nat→List A} (h:Gb a) (k:FamL l):FamL (fun r=>a r::l r):=⟨fun h1 h2=>by simp[A.renL,h.ren h1 h2,k.ren h1 h2],fun h1=>by simp only[A.refsL];exact⟨h.refs h1,k.refs h1⟩⟩
@[simp] theorem sP {a:Nat→A} {l:Nat→List A} (h:Gb a):FamL (fun r=>a r::l r)=FamL l:=by
 refine propext ⟨fun k=>⟨fun h1 h2=>?_,fun h1=>?_⟩,Ak h⟩
 ·have:=k.ren h1 h2;simp only[A.renL,List.cons.injEq] at this;exact this.2
 ·have:=k.refs h1;simp only[A.refsL] at this;exact this.2
theorem FamL.all {l:List A} (h:∀ x,x ∈ l→Gb (fun _=>x)):FamL (fun _=>l):=by
 induction l with
 |nil=>simp
 |cons x l ih=>exact Ak (h x (by simp)) (ih fun y hy=>h y (by simp[hy]))
@[simp] theorem lz:Gb (fun _=>.any):=⟨fun _ _=>by simp[A.ren],fun _=>by simp[A.refs]⟩
@[simp] theorem Bi {x:Value}:Gb (fun _=>.v x):=⟨fun _ _=>by simp[A.ren],fun _=>by simp[A.refs]⟩
@[simp] theorem Lv {f:Bool} {xs:List A}:Gb (fun _=>.sl f xs):=⟨fun _ _=>by simp[A.ren],fun _=>by simp[A.refs]⟩
@[simp] theorem nU {xs:List A}:Gb (fun _=>.pim xs):=⟨fun _ _=>by simp[A.ren],fun _=>by simp[A.refs]⟩
@[simp] theorem A8 {u off:Nat} {q:Nm}:Gb (fun r=>.pob (r::q) u off):=⟨fun h1 h2=>by simp[A.ren,h1,h2],fun h=>by simp[A.refs,h]⟩
@[simp] theorem wj {u sz off len:Nat} {q:Nm}:Gb (fun r=>.osl (r::q) u sz off len):=⟨fun h1 h2=>by simp[A.ren,h1,h2],fun h=>by simp[A.refs,h]⟩
@[simp] theorem vQ {u i j:Nat} {q:Nm}:Gb (fun r=>.pel (r::q) u i j):=⟨fun h1 h2=>by simp[A.ren,h1,h2],fun h=>by simp[A.refs,h]⟩
@[simp] theorem af {l:Nat→List A} (h:FamL l):Gb (fun r=>.agg (l r)):=⟨fun h1 h2=>by simp[A.ren,h.ren h1 h2],fun h1=>by simp only[A.refs];exact h.refs h1⟩
@[simp] theorem Cb {l:Nat→List A} (h:FamL l):Gb (fun r=>.tup (l r)):=⟨fun h1 h2=>by simp[A.ren,h.ren h1 h2],fun h1=>by simp only[A.refs];exact h.refs h1⟩
@[simp] theorem vS {f:FuncId} {l m:Nat→List A} (h:FamL l) (k:FamL m):Gb (fun r=>.fnc f (l r) (m r)):=⟨fun h1 h2=>by simp[A.ren,h.ren h1 h2,k.ren h1 h2],fun h1=>by simp only[A.refs];exact⟨h.refs h1,k.refs h1⟩⟩
@[simp] theorem vO {t:TypeId} {a:Nat→A} (h:Gb a):Gb (fun r=>.ifc t (a r)):=⟨fun h1 h2=>by simp[A.ren,h.ren h1 h2],fun h1=>by simp only[A.refs];exact h.refs h1⟩
theorem Xi {a:A} (h:a.bare1=true):Gb (fun _=>a):=by cases a<;>simp[A.bare1] at h ⊢
theorem Jl {a:A} {cs:List A} (ha:a = .agg cs) (h:∀ x,x ∈ cs→x.bare1=true):Gb (fun _=>a):=by
 subst ha;exact af (l:=fun _=>cs) (FamL.all fun x hx=>Xi (h x hx))
theorem Fam.cells_ren {g:Nm→Nm} {δ:Nm→Nat} {u:Nat} {l l':List A} (h:A.renL g δ l=l'):VOb.ren g δ 0 ⟨u,.cells l⟩=⟨u,.cells l'⟩:=by simp[VOb.ren,Ob.ren,h]
theorem Fam.arr_ren {g:Nm→Nm} {δ:Nm→Nat} {u sz:Nat} {l l':List A} (h:A.renL g δ l=l'):VOb.ren g δ 0 ⟨u,.arr sz l⟩=⟨u,.arr sz l'⟩:=by simp[VOb.ren,Ob.ren,h]
structure FK (P:Program) (f:FuncId) (as':Nat→List A) (F:Fam) (x:Nat→A) (F':Fam):Prop where
 fa:FamL as'
 fx:Gb x
 h:SG P f 1 (as' 0) (ov 0 (F.F 0) (Dl [])) (x 0) (ov 0 (F'.F 0) (Dl []))
section
variable {P:Program} {K:PU} {rest:List CO} {s:Nat→A} {H:Hp} {dd:Option Nat} {nm:Nm} {ix:Nat} {un:List Nat} {l:Bool} {lg:Lg} {g:FuncId} {aa:Array Operand} {ts:Array TypeId}
theorem Xl {r:Nat} {F:Fam} (hF:∀ p,H (r::p)=F.F r p):R1 [r] 1 H=ov 0 (F.F 0) (Dl []):=by
 funext o;cases o with
 |nil=>rfl
 |cons i p=>
  by_cases hi:i<1
  ·have:i=0:=by omega
   subst this;simp only[R1,if_pos hi,JB,if_true];show(H (r::p)).ren _ _ 0=_;rw[hF];exact F.ren (fun q=>by simp[Wg]) (fun _=>rfl) p
  ·simp only[R1,if_neg hi,JB];rw[if_neg (by omega)];rfl
theorem fK {r:Nat} {F':Fam}:cI [r] (Zm [r] 1 H) H (ov 0 (F'.F 0) (Dl []))=ov r (F'.F r) H:=by
 have hd:∀ p,Zm [r] 1 H (0::p)=0:=fun p=>rfl;funext o;cases o with
 |nil=>rfl
 |cons j p=>
  by_cases hj:j=r
  ·subst hj;simp only[cI,JB,if_true];rw[if_pos (by simp)];have:[j].idxOf j=0:=by simp
   rw[this,if_pos rfl,hd];exact F'.ren (fun q=>by simp[ie]) hd p
  ·have:¬ [r].contains j=true:=by simpa using hj
   simp only[cI,if_neg this,JB,if_neg hj]
theorem ME {r:Nat} {F:Fam} (hF:∀ p,H (r::p)=F.F r p):X9 [r] 1 H:=by
 intro j p hj;have hjr:j=r:=by
  have:=(idx_mem (rs:=[r])).1 (by simpa using hj);simpa using this
 rw[hjr,hF];exact F.refs (fun q=>by simp[XQ]) p
theorem dm {F':Fam} (i:Nat) (p:Nm) (hi:i<1):((ov 0 (F'.F 0) (Dl [])) (i::p)).ob.refs (UH 1):=by
 have:i=0:=by omega
 subst this;simp only[JB,if_true];exact F'.refs (fun q=>by simp[UH]) p
theorem Al {as':Nat→List A} {F F':Fam} {x:Nat→A} (r:Nat) (hS:FK P g as' F x F') (hF:∀ p,H (r::p)=F.F r p) (ha:aa.toList.map (evs s)=as' r) (hck:Ck un lg ⟨[],[([r],true)]⟩)
  (h:AD P K rest (BJ l ix ⟨[],[([r],true)]⟩ lg) (Sta.put ⟨s,H⟩ dd (x r) (ov r (F'.F r) H))) :
  AD P K (⟨dd,.call { callee:=.value (.func g),args:=aa,argTypes:=ts },none,nm,ix,un,l⟩::rest) lg ⟨s,H⟩:=by
 have hd:∀ p,Zm [r] 1 H (0::p)=0:=fun p=>rfl;refine ak [r] 1 hS.h (by simp) (by simp) ?_ ?_ (Xl hF) (ME hF) (hS.fx.refs (fun p=>by simp[UH])) (fun i p hi=>dm i p hi) (fun i p h1 h2=>by simp at h2;omega) (hS.fx.ren (fun q=>by simp[ie]) hd) fK hck h
 ·rw[ha];exact hS.fa.ren (fun q=>by simp[Wg]) (fun _=>rfl)
 ·rw[ha];exact hS.fa.refs (fun q=>by simp[XQ])
end
section
variable {P:Program} {K:PU} {rest:List CO} {s:Nat→A} {H:Hp} {dd:Option Nat} {nm:Nm} {ix:Nat} {un:List Nat} {l:Bool} {lg:Lg} {g:FuncId} {aa:Array Operand} {ts:Array TypeId}
end
theorem pf {r:Nat} {F F':Nm→VOb} {H:Hp}:ov r F (ov r F' H)=ov r F H:=by
 funext o;cases o with
 |nil=>rfl
 |cons j p=>by_cases hj:j=r<;>simp[hj]
@[simp] theorem qE {r:Nat} {F F':Nm→VOb} {H:Hp}:ov r F (ov r F' H)=ov r F H:=pf
theorem C5 {P:Program} {f:FuncId} {n:Nat} {rs:List ResultVar} {cc:CC} {as':Nat→List A} {F F':Fam} {x:Nat→A} (t:BP P f n rs cc) (ha:(as' 0).length≤n) (h0:FamL as') (h1:Gb x)
  (h:∀ w0 I0 M0 m0,WPC (J4 P w0 I0 M0 n m0) cc (KN (J4 P w0 I0 M0 n m0) rs 1 (x 0) (ov 0 (F'.F 0) (Dl []))) ⟨JN (as' 0),ov 0 (F.F 0) (Dl [])⟩):FK P f as' F x F':=
 ⟨h0,h1,cb t ha h⟩
theorem Bh {c:Cx} {rs:List ResultVar} {x:A} {F':Nm→VOb} {r0:A} {st:Sta} (h:J9 c.P st rs=some r0) (he:r0=x) (hh:∀ p,st.H (0::p)=F' p):KN c rs 1 x (ov 0 F' (Dl [])) .ret st:=
 cF h he fun i p hi=>by
  have:i=0:=by omega
  subst this;rw[hh];simp
theorem D0 {c:Cx} {rs:List ResultVar} {x:A} {F':Nm→VOb} {r0:A} {st:Sta} (h:J9 c.P st rs=some r0) (he:r0=x) (hh:∀ p,st.H (0::p)=F' p):KN c rs 1 x (ov 0 F' (Dl [])) .normal st:=
 VO h he fun i p hi=>by
  have:i=0:=by omega
  subst this;rw[hh];simp
structure vU (a:Nat→Nat→List A):Prop where
 ren:∀ {g:Nm→Nm} {δ:Nm→Nat} {r r' q q':Nat},(∀ p,g (r::p)=r'::p)→(∀ p,δ (r::p)=0)→(∀ p,g (q::p)=q'::p)→(∀ p,δ (q::p)=0)→A.renL g δ (a r q)=a r' q'
 refs:∀ {D:Nm→Prop} {r q:Nat},(∀ p,D (r::p))→(∀ p,D (q::p))→A.refsL D (a r q)
@[simp] theorem uD:vU (fun _ _=>[]):=⟨fun _ _ _ _=>by simp[A.renL],fun _ _=>by simp[A.refsL]⟩
section
variable {P:Program} {K:PU} {rest:List CO} {s:Nat→A} {H:Hp} {dd:Option Nat} {nm:Nm} {ix:Nat} {un:List Nat} {l:Bool} {lg:Lg} {g:FuncId} {aa:Array Operand} {ts:Array TypeId}
end
def rN (u sz:Nat) (xs:List A) (h:∀ x,x ∈ xs→Gb (fun _=>x)):Fam:=⟨fun _ p=>if p=[] then ⟨u,.arr sz xs⟩ else ⟨0,.none⟩,fun {g δ r r'} hg hd p=>by
  by_cases hp:p=[]
  ·rw[if_pos hp];exact Fam.arr_ren ((FamL.all h).ren hg hd)
  ·rw[if_neg hp];rfl,fun {D r} hD p=>by
  by_cases hp:p=[]
  ·rw[if_pos hp];exact(FamL.all h).refs hD
  ·rw[if_neg hp];trivial⟩
@[simp] theorem ri {u sz:Nat} {xs:List A} {h:∀ x,x ∈ xs→Gb (fun _=>x)} {r:Nat} {p:Nm}:(rN u sz xs h).F r p=if p=[] then ⟨u,.arr sz xs⟩ else ⟨0,.none⟩:=rfl
structure rj where
 B:Nat→Nat→Nm→VOb
 C:Nat→Nat→Nm→VOb
 ren:∀ {g:Nm→Nm} {δ:Nm→Nat} {r r' q q':Nat},(∀ p,g (r::p)=r'::p)→(∀ p,δ (r::p)=0)→(∀ p,g (q::p)=q'::p)→(∀ p,δ (q::p)=0)→∀ p,(B r q p).ren g δ 0=B r' q' p∧(C r q p).ren g δ 0=C r' q' p
 refs:∀ {D:Nm→Prop} {r q:Nat},(∀ p,D (r::p))→(∀ p,D (q::p))→∀ p,(B r q p).ob.refs D∧(C r q p).ob.refs D
def Fam.two (F G:Fam):rj:=⟨fun r _=>F.F r,fun _ q=>G.F q,fun h1 h2 h3 h4 p=>⟨F.ren h1 h2 p,G.ren h3 h4 p⟩,fun h1 h2 p=>⟨F.refs h1 p,G.refs h2 p⟩⟩
@[simp] theorem ss {F G:Fam} {r q:Nat}:(F.two G).B r q=F.F r:=rfl
@[simp] theorem rY {F G:Fam} {r q:Nat}:(F.two G).C r q=G.F q:=rfl
section
variable {P:Program} {K:PU} {rest:List CO} {s:Nat→A} {H:Hp} {dd:Option Nat} {nm:Nm} {ix:Nat} {un:List Nat} {l:Bool} {lg:Lg} {g:FuncId} {aa:Array Operand} {ts:Array TypeId}
end
theorem Sim.move {c:Cx} {w:World} {I:Nat→Prop} {μ:Mu} {H:Hp} (hs:Sim c w I μ H) {d d':Nm} (hne:d ≠ d') (h0:(H d').u=0) (h1:1≤(H d).u) (hM:∀ b,¬ c.M0 d b) (htg:∀ e,C7 d' e=true) :
  Ext I μ w I (AR μ d' (μ d)) w∧Sim c w I (AR μ d' (μ d)) (AR (AR H d' (H d)) d ⟨(H d).u,.none⟩):=by
 have hu0:(μ d').u=0:=by rw[hs.ver,h0]
 have hu1:1≤(μ d).u:=by rw[hs.ver];exact h1
 have hm:MuLe μ (AR μ d' (μ d)):=fun o=>by
  by_cases e:o=d'
  ·subst e;rw[BX];exact⟨by omega,fun e=>by omega⟩
  ·rw[AM e];exact⟨Fa _,fun _=>rfl⟩
 have hx:Ext I μ w I (AR μ d' (μ d)) w:=⟨fun b h=>h,fun b h=>rfl,hm⟩;have hd:(AR (AR H d' (H d)) d ⟨(H d).u,.none⟩:Hp) d=⟨(H d).u,.none⟩:=BX;have hd':(AR (AR H d' (H d)) d ⟨(H d).u,.none⟩:Hp) d'=H d:=by rw[AM (Ne.symm hne),BX]
 have hoth:∀ o,o ≠ d→o ≠ d'→(AR (AR H d' (H d)) d ⟨(H d).u,.none⟩:Hp) o=H o:=fun o e1 e2=>by rw[AM e1,AM e2]
 -- who has a block has it in the old state,under an old name
 have old:∀ o,BU (AR μ d' (μ d) o) ((AR (AR H d' (H d)) d ⟨(H d).u,.none⟩:Hp) o).ob=true→∃ p,BU (μ p) (H p).ob=true∧(AR μ d' (μ d) o)=μ p∧(o=d'∧p=d∨o ≠ d'∧o ≠ d∧p=o):=fun o h=>by
  by_cases e1:o=d
  ·subst e1;rw[hd] at h;cases h
  ·by_cases e2:o=d'
   ·subst e2;rw[hd',BX] at h;exact⟨d,h,BX,.inl ⟨rfl,rfl⟩⟩
   ·rw[hoth o e1 e2,AM e2] at h;exact⟨o,h,AM e2,.inr ⟨e2,e1,rfl⟩⟩
 refine⟨hx,hs.kept,hs.lt,hs.old,hs.new,fun o=>?_,fun o=>?_,fun o o' k k' hoo=>?_,fun o k=>?_,hs.mle.trans hm,fun o k=>?_,hs.tab⟩
 ·by_cases e1:o=d
  ·subst e1;rw[hd,AM hne];exact hs.ver o
  ·by_cases e2:o=d'
   ·subst e2;rw[hd',BX];exact hs.ver d
   ·rw[hoth o e1 e2,AM e2];exact hs.ver o
 ·by_cases e1:o=d
  ·subst e1;rw[hd];trivial
  ·by_cases e2:o=d'
   ·subst e2;rw[hd',BX];exact OSim.keep hx (fun _=>rfl) (hs.ob d)
   ·rw[hoth o e1 e2,AM e2];exact OSim.keep hx (fun _=>rfl) (hs.ob o)
 ·obtain⟨p,k1,k2,k3⟩:=old o k;obtain⟨p',g1,g2,g3⟩:=old o' k';rw[k2,g2];refine hs.apart p p' k1 g1 fun e=>hoo ?_;rcases k3 with ⟨a1,a2⟩ | ⟨a1,a2,a3⟩<;>rcases g3 with ⟨b1,b2⟩ | ⟨b1,b2,b3⟩
  ·rw[a1,b1]
  ·exact absurd (by rw[← b3,← e,a2]) b2
  ·exact absurd (by rw[← a3,e,b2]) a2
  ·rw[← a3,← b3,e]
 ·obtain⟨p,k1,k2,k3⟩:=old o k;rw[k2];obtain⟨q1,q2,q3⟩:=hs.own p k1;refine⟨q1,?_,q3⟩;rcases k3 with ⟨a1,a2⟩ | ⟨a1,a2,a3⟩
  ·subst a2;rcases q2 with h | h
   ·exact(hM _ h).elim
   ·exact .inr h
  ·subst a3;exact q2
 ·obtain⟨p,k1,k2,k3⟩:=old o k;rw[k2];rcases k3 with ⟨a1,a2⟩ | ⟨a1,a2,a3⟩
  ·rw[a1];exact htg _
  ·rw[← a3];exact hs.tag p k1
theorem QN {c:Cx} {s:Nat→A} {H:Hp} (R:Nat→Prop) [DecidablePred R] (hM:∀ r p b,R r→¬ c.M0 (r::p) b) (t:Nat) (a:A) (hf:∀ H1:Hp,(∀ r p,R r→H1 (r::p)=H (r::p))→Jr H1 (s t) a) :
  ∃ H2:Hp,Le c ⟨s,H⟩ ⟨upd s t a,H2⟩∧∀ r p,¬ R r→H2 (r::p)=H (r::p):=by
 refine⟨fun o=>match o with | r::p=>if R r then ⟨(H (r::p)).u,.none⟩ else H (r::p) | []=>H [],Oh (H1:=fun o=>match o with | r::p=>if R r then H (r::p) else ⟨(H (r::p)).u,.none⟩ | []=>⟨(H []).u,.none⟩) (fun o b h=>?_) t a (fun o=>?_) (fun o=>?_) (fun o=>?_) (hf _ fun r p h=>if_pos h),fun r p h=>if_neg h⟩
 ·cases o with
  |nil=>exact absurd rfl h
  |cons r p=>
   by_cases hr:R r
   ·exact hM r p b hr
   ·exact absurd (by simp[hr]) h
 ·cases o with
  |nil=>exact .inr rfl
  |cons r p=>
   by_cases hr:R r
   ·exact .inl (by simp[hr])
   ·exact .inr (by simp[hr])
 ·cases o with
  |nil=>exact .inl rfl
  |cons r p=>
   by_cases hr:R r
   ·exact .inr (by simp[hr])
   ·exact .inl (by simp[hr])
 ·cases o with
  |nil=>exact .inl rfl
  |cons r p=>
   by_cases hr:R r
   ·exact .inr (by simp[hr])
   ·exact .inl (by simp[hr])
theorem Mg {c:Cx} {s:Nat→A} {H:Hp} (R:Nat→Prop) [DecidablePred R] (hM:∀ r p b,R r→¬ c.M0 (r::p) b) {r0:Nat} {p0:Nm} (hr0:¬ R r0) {u:Nat} {cs cs':List A} (hd:H (r0::p0)=⟨u,.cells cs⟩) (h1:A.ones cs'=true)
  (hf:∀ H1:Hp,(∀ r p,R r→H1 (r::p)=H (r::p))→Gv H1 cs cs') :
  ∃ H2:Hp,Le c ⟨s,H⟩ ⟨s,AR H2 (r0::p0) ⟨u,.cells cs'⟩⟩∧∀ r p,¬ R r→H2 (r::p)=H (r::p):=by
 refine⟨fun o=>match o with | r::p=>if R r then ⟨(H (r::p)).u,.none⟩ else H (r::p) | []=>H [],fun a w I μ hs=>?_,fun r p h=>if_neg h⟩;have part1:Part H (fun o=>match o with | r::p=>if R r then H (r::p) else ⟨(H (r::p)).u,.none⟩ | []=>⟨(H []).u,.none⟩):=fun o=>by
  cases o with
  |nil=>exact .inr rfl
  |cons r p=>
   by_cases hr:R r
   ·exact .inl (by simp[hr])
   ·exact .inr (by simp[hr])
 have part2:Part H (fun o=>match o with | r::p=>if R r then ⟨(H (r::p)).u,.none⟩ else H (r::p) | []=>H []):=fun o=>by
  cases o with
  |nil=>exact .inl rfl
  |cons r p=>
   by_cases hr:R r
   ·exact .inr (by simp[hr])
   ·exact .inl (by simp[hr])
 have h3:=hs.sim.freezeAll part1 part2 (fun o=>by
  cases o with
  |nil=>exact .inl rfl
  |cons r p=>
   by_cases hr:R r
   ·exact .inr (by simp[hr])
   ·exact .inl (by simp[hr])) (fun o b h=>by
  cases o with
  |nil=>exact absurd rfl h
  |cons r p=>
   by_cases hr:R r
   ·exact hM r p b hr
   ·exact absurd (by simp[hr]) h)
 have hd2:(fun o=>match o with | r::p=>if R r then (⟨(H (r::p)).u,.none⟩:VOb) else H (r::p) | []=>H []:Hp) (r0::p0)=⟨u,.cells cs⟩:=by
  show(if R r0 then _ else _)=_;rw[if_neg hr0,hd]
 have hob:=hs.sim.ob (r0::p0);have hob:OSim w I μ (μ (r0::p0)) (.cells cs):=by
  have e:(⟨s,H⟩:Sta).H (r0::p0)=⟨u,.cells cs⟩:=hd;rw[e] at hob;exact hob
 obtain⟨vs,k1,k2,k3⟩:=hob;obtain⟨hl,hg⟩:=Hs (hf (fun o=>match o with | r::p=>if R r then H (r::p) else ⟨(H (r::p)).u,.none⟩ | []=>⟨(H []).u,.none⟩) fun r p h=>if_pos h);have hB:BU (μ (r0::p0)) ((fun o=>match o with | r::p=>if R r then (⟨(H (r::p)).u,.none⟩:VOb) else H (r::p) | []=>H []:Hp) (r0::p0)).ob=true:=by rw[hd2];rfl
 obtain⟨hx2,hs2⟩:=h3.upd (FR w none) (r0::p0) (μ (r0::p0)) (.cells cs') (.inl rfl) (.inr rfl) (fun _=>.inr ⟨hB,rfl⟩) (fun _=>h3.tag _ hB) (fun hx2=>by
  refine⟨vs,k1,by rw[k2,hl],fun k y hk=>?_⟩;rw[Cm];obtain⟨x,hx,hfx⟩:=hg k y hk;simp only[A.ones,List.all_eq_true] at h1;exact⟨h1 y (List.mem_of_getElem? hk),(hfx c w I μ _ (hs.sim.part part1) (k3 k x hx).2).ofI⟩)
 have hu:(μ (r0::p0)).u=u:=by exact(h3.ver (r0::p0)).trans (congrArg VOb.u hd2)
 rw[hu] at hs2;exact⟨_,_,hs2,hs.size,hs.defers,fun t=>hx2.rel ((hs.rel t).mono0 (fun b h=>.inl h) (fun _ _=>rfl))⟩
theorem EO {P:Program} {f:FuncId} {n:Nat} {rs:List ResultVar} {cc:CC} {as':Nat→List A} {F F':Fam} {x:Nat→A} (t:BP P f n rs cc) (ha:(as' 0).length≤n) (h0:FamL as') (h1:Gb x)
  (h:∀ w0 I0 M0 m0,(∀ r p b,1≤r→¬ M0 (r::p) b)→WPC (J4 P w0 I0 M0 n m0) cc (KN (J4 P w0 I0 M0 n m0) rs 1 (x 0) (ov 0 (F'.F 0) (Dl []))) ⟨JN (as' 0),ov 0 (F.F 0) (Dl [])⟩):FK P f as' F x F':=
 ⟨h0,h1,Ta t ha fun w0 I0 M0 m0 hM=>h w0 I0 M0 m0 fun r p b hr=>hM (r::p) b (by
  simp only[JB];rw[if_neg (by omega)];rfl)⟩
abbrev S (l:List UInt8):A:=.v (.string ⟨l.toArray⟩)
abbrev Gy (b:UInt8):A:=.v (.int .u8 b.toNat)
theorem eT (s:ByteArray):(⟨s.data.toList.toArray⟩:ByteArray)=s:=by cases s;simp
@[simp] theorem o8 (l:List UInt8):(ByteArray.mk l.toArray).size=l.length:=by simp[ByteArray.size]
@[simp] theorem qm (l:List UInt8) (i:Nat):(ByteArray.mk l.toArray)[i]? = l[i]?:=by
 by_cases h:i<l.length
 ·have h':i<(ByteArray.mk l.toArray).size:=by simpa using h
  rw[getElem?_pos (ByteArray.mk l.toArray) i h',List.getElem?_eq_getElem h];rfl
 ·have h':¬ i<(ByteArray.mk l.toArray).size:=by simpa using h
  rw[getElem?_neg (ByteArray.mk l.toArray) i h',List.getElem?_eq_none (by omega)]
@[simp] theorem we (l:List UInt8) (i:Nat) (h:i<(ByteArray.mk l.toArray).size):(ByteArray.mk l.toArray)[i]'h=l[i]'(by simpa using h):=rfl
@[simp] theorem tF (l:List UInt8) (a b:Nat):(ByteArray.mk l.toArray).extract a b=ByteArray.mk ((l.drop a).take (b-a)).toArray:=by
 have h:((ByteArray.mk l.toArray).extract a b).data=((l.drop a).take (b-a)).toArray:=by
  rw[ByteArray.data_extract];simp
 cases hq:(ByteArray.mk l.toArray).extract a b with
 |mk d=>rw[hq] at h;simpa using h
@[simp] theorem tR (l m:List UInt8):ByteArray.mk l.toArray++ByteArray.mk m.toArray=ByteArray.mk (l++m).toArray:=Go.ByteArray.mk_append_mk l m
@[simp] theorem tZ (l:List UInt8):(ByteArray.mk l.toArray).toList=l:=Go.ByteArray.toList_eq _
theorem dU {l m:List UInt8}:(ByteArray.mk l.toArray=ByteArray.mk m.toArray)=(l=m):=by simp
@[simp] theorem tP (l:List UInt8):T5 (l.map Gy)=some l:=by
 induction l with
 |nil=>rfl
 |cons b l ih=>
  have h:bz (Gy b)=some b:=by
   have:=b.toNat_lt;simp[bz];omega
  simp[T5,h,ih]
@[simp] theorem wE {P:Program} {t u:TypeId} {f:Bool} {xs:List A}:SO P t u (.sl f xs)=match P.underlying t,P.underlying u with
  |some (.slice e),some .string=>(match P.underlying e,T5 xs with | some (.int .u8),some l=>some (S l) | _,_=>none)
  |_,_=>none:=by
 unfold SO;cases P.underlying t with
 |none=>rfl
 |some d=>
  cases P.underlying u with
  |none=>cases d<;>rfl
  |some d'=>cases d<;>cases d'<;>rfl
end Go.G
namespace Go.PL
inductive T where
 |mk (kind:Int) (words:List Int) (kids:List T)
 deriving Inhabited
namespace T
def kind:T→Int | mk k _ _=>k
def words:T→List Int | mk _ w _=>w
def kids:T→List T | mk _ _ l=>l
@[simp] theorem kind_mk {k:Int} {w:List Int} {l:List T}:(mk k w l).kind=k:=rfl
@[simp] theorem words_mk {k:Int} {w:List Int} {l:List T}:(mk k w l).words=w:=rfl
@[simp] theorem kids_mk {k:Int} {w:List Int} {l:List T}:(mk k w l).kids=l:=rfl
end T
abbrev T0:T:=.mk 0 [] []
mutual
theorem T.ind {P:T→Prop} (h:∀ k w l,(∀ t,t ∈ l→P t)→P (.mk k w l)):∀ t,P t
 |.mk k w l=>h k w l (T.indL h l)
theorem T.indL {P:T→Prop} (h:∀ k w l,(∀ t,t ∈ l→P t)→P (.mk k w l)):∀ (l:List T),∀ t,t ∈ l→P t
 |[],t,ht=>nomatch ht
 |x::l,t,ht=>by
  rcases List.mem_cons.1 ht with e | ht
  ·rw[e];exact T.ind h x
  ·exact T.indL h l t ht
end
def bu (l:List Int):List Int:=(l.reverse.dropWhile (fun x=>x == 0)).reverse
def bU (l:List T):List T:=(l.reverse.dropWhile (fun x=>x.kind == 0)).reverse
mutual
def QQ:T→T
 |.mk k w l=>if k=0 then T0 else if k=1 then .mk 1 (bu w) (bU (SA l)) else .mk k w (SA l)
def SA:List T→List T
 |[]=>[]
 |t::l=>QQ t::SA l
end
@[simp] theorem YS:∀ l,SA l=l.map QQ
 |[]=>by simp[SA]
 |t::l=>by simp[SA,YS l]
theorem fe (k:Int) (w:List Int) (l:List T):QQ (.mk k w l)=if k=0 then T0 else if k=1 then .mk 1 (bu w) (bU (l.map QQ)) else .mk k w (l.map QQ):=by simp[QQ]
@[simp] theorem kP (t:T):(QQ t).kind=t.kind:=by
 cases t;rw[fe];split
 ·rename_i h;rw[h];rfl
 ·split
  ·rename_i h;rw[h];rfl
  ·rfl
@[simp] theorem kF:bu []=[]:=rfl
@[simp] theorem ke:bU []=[]:=rfl
def Cy (c:Int):Int:=if c=0 then 0 else if c=1 then 1 else if c=2 then 8 else if c=3 then 16 else if c=4 then 32 else if c=5 then 64 else -1
def NP (c n:Int):Bool:=decide (0≤Cy c)&&decide (n / 2 ^ (Cy c).toNat=0)
def Cc (k:Int):Bool:=decide (2≤k)&&decide (k≤7)
def DW (k:Int) (c:T):Bool:=!(Cc k != decide (c.kind=10) || decide (k=9)&&!decide (c.kind=1) || Cc k&&!NP (k-2) (c.words.headD 0))
def Cf (k:Int) (d nw nl:Nat):Bool:=decide (k<0) || decide (k > 10) || decide (d=0) || decide (nw ≥ 65536) || decide (k=1)&&decide (nl ≥ 65536) || decide (nl ≥ 1048576) || decide (k > 1)&&decide (nw > 0)
mutual
def Ax:Nat→T→Bool
 |d,.mk k w l=>if k=0 then w.isEmpty&&l.isEmpty else if k=10 then decide (w.length=1)&&l.isEmpty
  else if Cf k d w.length l.length=true then false else Eu (d-1) k l
def Eu:Nat→Int→List T→Bool
 |_,_,[]=>true
 |d,k,t::l=>Ax d t&&DW k t&&Eu d k l
end
theorem C4 (d:Nat) (k:Int) (w:List Int) (l:List T):Ax d (.mk k w l)=if k=0 then w.isEmpty&&l.isEmpty else if k=10 then decide (w.length=1)&&l.isEmpty
  else if Cf k d w.length l.length=true then false else Eu (d-1) k l:=by rw[Ax]
@[simp] theorem iP (d:Nat) (k:Int):Eu d k []=true:=by rw[Eu]
@[simp] theorem Pj (d:Nat) (k:Int) (t:T) (l:List T):Eu d k (t::l)=(Ax d t&&DW k t&&Eu d k l):=by rw[Eu]
theorem rightL_all {d:Nat} {k:Int}:∀ {l:List T},Eu d k l=true ↔ ∀ t,t ∈ l→Ax d t=true∧DW k t=true
 |[]=>by simp
 |t::l=>by simp[rightL_all (l:=l),and_assoc]
mutual
def AV:Nat→Int→T→Int
 |d,n,.mk _ w l=>if d=0∨n-1-w.length<0 then -1 else AJ (d-1) (n-1-w.length) l
def AJ:Nat→Int→List T→Int
 |_,n,[]=>n
 |d,n,t::l=>if n<0 then n else AJ d (AV d n t) l
end
theorem Mr (d:Nat) (n:Int) (k:Int) (w:List Int) (l:List T):AV d n (.mk k w l)=if d=0∨n-1-w.length<0 then -1 else AJ (d-1) (n-1-w.length) l:=by rw[AV]
@[simp] theorem fZ (d:Nat) (n:Int):AJ d n []=n:=by rw[AJ]
@[simp] theorem D1 (d:Nat) (n:Int) (t:T) (l:List T):AJ d n (t::l)=if n<0 then n else AJ d (AV d n t) l:=by rw[AJ]
theorem LQ {d:Nat} {k:Int} {w:List Int} {l:List T} (h:Ax d (.mk k w l)=true):∀ t,t ∈ l→Ax (d-1) t=true∧DW k t=true:=by
 rw[C4] at h;split at h
 ·simp at h;intro t ht;rw[h.2] at ht;cases ht
 ·split at h
  ·simp at h;intro t ht;rw[h.2] at ht;cases ht
  ·split at h
   ·cases h
   ·exact rightL_all.1 h
end Go.PL
namespace Go.PL
def Ji (n:Nat):UInt8:=if n<10 then UInt8.ofNat (48+n) else UInt8.ofNat (87+n)
def Bg (c:UInt8):Option Nat:=if 48≤c.toNat∧c.toNat≤57 then some (c.toNat-48) else if 97≤c.toNat∧c.toNat≤102 then some (c.toNat-87) else none
def Am (n:Nat):List UInt8:=if n<16 then [Ji n] else Am (n / 16)++[Ji (n % 16)]
 termination_by n
theorem Ce {n:Nat} (h:n<16):Am n=[Ji n]:=by rw[Am,if_pos h]
theorem Gw {n:Nat} (h:16≤n):Am n=Am (n / 16)++[Ji (n % 16)]:=by rw[Am,if_neg (by omega)]
theorem N1 {m d:Nat} (hm:1≤m) (hd:d<16):Am (m*16+d)=Am m++[Ji d]:=by
 rw[Gw (by omega)];have e1:(m*16+d) / 16=m:=by omega
 have e2:(m*16+d) % 16=d:=by omega
 rw[e1,e2]
theorem RG {n:Nat} (h:n<16):(Ji n).toNat=if n<10 then 48+n else 87+n:=by
 unfold Ji;split
 ·rw[UInt8.toNat_ofNat'];exact Nat.mod_eq_of_lt (by omega)
 ·rw[UInt8.toNat_ofNat'];exact Nat.mod_eq_of_lt (by omega)
theorem KI {n:Nat} (h:n<16):Bg (Ji n)=some n:=by
 have e:=RG h;unfold Bg;rw[e];by_cases h1:n<10
 ·rw[if_pos h1,if_pos (by omega)];congr 1;omega
 ·rw[if_neg h1,if_neg (by omega),if_pos (by omega)];congr 1;omega
theorem Gl {c:UInt8} {d:Nat} (h:Bg c=some d):d<16∧Ji d=c:=by
 unfold Bg at h;have hd:d<16:=by
  split at h
  ·cases h;omega
  ·split at h
   ·cases h;omega
   ·cases h
 refine⟨hd,?_⟩;apply UInt8.toNat_inj.1;rw[RG hd];split at h
 ·cases h;split<;>omega
 ·split at h
  ·cases h;split<;>omega
  ·cases h
theorem Dc (n:Nat):0<(Am n).length:=by
 by_cases h:n<16
 ·rw[Ce h];simp
 ·rw[Gw (by omega)];simp
theorem HO:∀ (n:Nat),∀ c,c ∈ Am n→∃ d,Bg c=some d:=by
 intro n;induction n using Nat.strongRecOn with
 |_ n ih=>
  intro c hc;by_cases h:n<16
  ·rw[Ce h] at hc;simp at hc;rw[hc];exact⟨n,KI h⟩
  ·rw[Gw (by omega)] at hc;rcases List.mem_append.1 hc with hc | hc
   ·exact ih (n / 16) (by omega) c hc
   ·simp at hc;rw[hc];exact⟨_,KI (Nat.mod_lt _ (by omega))⟩
theorem OJ:∀ (n:Nat),1≤n→(Am n).headD 0 ≠ 48:=by
 intro n;induction n using Nat.strongRecOn with
 |_ n ih=>
  intro h1;by_cases h:n<16
  ·rw[Ce h];simp only[List.headD_cons];intro e;have:=RG h;rw[e] at this;have e48:(48:UInt8).toNat=48:=rfl;rw[e48] at this;split at this<;>omega
  ·rw[Gw (by omega)];have h2:=ih (n / 16) (by omega) (by omega);have h3:=Dc (n / 16);cases hq:Am (n / 16) with
   |nil=>rw[hq] at h3;simp at h3
   |cons c l=>rw[hq] at h2;simpa using h2
theorem Jb:∀ (j n:Nat),1≤j→n<16 ^ j→(Am n).length≤j:=by
 intro j;induction j with
 |zero=>intro n h;omega
 |succ j ih=>
  intro n _ hn;by_cases h:n<16
  ·rw[Ce h];simp
  ·have hj:1≤j:=by
    rcases Nat.eq_zero_or_pos j with e | e
    ·subst e;simp at hn;omega
    ·exact e
   rw[Gw (by omega)];have:=ih (n / 16) hj (by rw[Nat.pow_succ] at hn;omega);simp;exact this
structure MW (num:List UInt8→Nat × Bool × Nat):Prop where
 to:∀ r n k,num r=(n,true,k)→r.take k=Am n∧n<18446744073709551616∧k≤r.length
 of:∀ n rest,n<18446744073709551616→(∀ c,rest.head? = some c→Bg c=none)→num (Am n++rest)=(n,true,(Am n).length)
def AE:Nat→List UInt8→Nat × Nat
 |n,[]=>(n,0)
 |n,x::r=>match Bg x with
  |some d=>if n<1152921504606846976 then ((AE (n*16+d) r).1,(AE (n*16+d) r).2+1) else (n,0)
  |none=>(n,0)
def AG (r:List UInt8):Nat × Bool × Nat:=((AE 0 r).1,decide (0<(AE 0 r).2)&&(decide ((AE 0 r).2=1) || decide (r.headD 0 ≠ 48)),(AE 0 r).2)
theorem NX:∀ (r:List UInt8) (n:Nat),n<18446744073709551616→(AE n r).1<18446744073709551616∧(AE n r).2≤r.length
 |[],n,h=>by simp[AE];exact h
 |x::r,n,h=>by
  unfold AE;split
  ·rename_i d hd;have:=(Gl hd).1;split
   ·have:=NX r (n*16+d) (by omega);simp;omega
   ·simp;exact h
  ·simp;exact h
theorem Jf:∀ (r:List UInt8) (m:Nat),1≤m→Am m++r.take (AE m r).2=Am (AE m r).1
 |[],m,h=>by simp[AE]
 |x::r,m,h=>by
  unfold AE;split
  ·rename_i d hd;have hx:=Gl hd;split
   ·have:=Jf r (m*16+d) (by omega);rw[N1 h hx.1,hx.2] at this;simpa using this
   ·simp
  ·simp
theorem Xq:∀ (q:Nat) (tail:List UInt8),q<18446744073709551616→AE 0 (Am q++tail)=((AE q tail).1,(AE q tail).2+(Am q).length):=by
 intro q;induction q using Nat.strongRecOn with
 |_ q ih=>
  intro tail hq;by_cases h:q<16
  ·rw[Ce h];simp only[List.singleton_append,AE,KI h];simp
  ·rw[Gw (by omega),List.append_assoc,List.singleton_append,ih (q / 16) (by omega) _ (by omega)];have h16:q % 16<16:=Nat.mod_lt _ (by omega);have e:AE (q / 16) (Ji (q % 16)::tail)=((AE q tail).1,(AE q tail).2+1):=by
    rw[AE,KI h16];simp only;rw[if_pos (by omega)];have:q / 16*16+q % 16=q:=by omega
    rw[this]
   rw[e];simp;omega
theorem Xw {n:Nat} {rest:List UInt8} (h:∀ c,rest.head? = some c→Bg c=none):AE n rest=(n,0):=by
 cases rest with
 |nil=>rfl
 |cons c r=>rw[AE,h c rfl]
theorem G0:MW AG where
 to:=by
  intro r n k h;unfold AG at h;simp only[Prod.mk.injEq] at h;obtain⟨h1,h2,h3⟩:=h;have hle:=NX r 0 (by omega);subst h1 h3;refine⟨?_,hle⟩;cases r with
  |nil=>simp[AE] at h2
  |cons x r=>
   rw[AE] at h2 ⊢;cases hv:Bg x with
   |none=>simp[hv] at h2
   |some d=>
    have hx:=Gl hv;simp only[hv] at h2 ⊢;simp only[Nat.zero_mul,Nat.zero_add,List.headD_cons,if_pos (show(0:Nat)<1152921504606846976 by omega)] at h2 ⊢;by_cases hd:d=0
    ·subst hd;have h48:x=48:=by rw[← hx.2];rfl
     simp[h48] at h2;have hz:(AE 0 r).2=0:=h2;have hn:(AE 0 r).1=0:=by
      cases r with
      |nil=>rfl
      |cons y r=>
       rw[AE] at hz ⊢;cases hy:Bg y with
       |none=>rfl
       |some e=>simp[hy] at hz
     rw[hz,hn,h48,Ce (by omega)];rfl
    ·have:=Jf r d (by omega);rw[← this,Ce hx.1,hx.2];simp
 of:=by
  intro n rest hn hr;unfold AG;rw[Xq n rest hn,Xw hr];have hp:=Dc n;simp only[Nat.zero_add,Prod.mk.injEq,true_and,and_true];by_cases h:n<16
  ·rw[Ce h];simp
  ·have h1:=OJ n (by omega);cases hq:Am n with
   |nil=>rw[hq] at hp;simp at hp
   |cons c l=>rw[hq] at h1;simp at h1;simp[h1]
def Bo:Nat→Nat→List UInt8→Nat × Nat
 |0,n,_=>(n,0)
 |c+1,n,[]=>(n,0)
 |c+1,n,x::r=>match Bg x with
  |some d=>((Bo c ((n*16+d) % 18446744073709551616) r).1,(Bo c ((n*16+d) % 18446744073709551616) r).2+1)
  |none=>(n,0)
def AI (r:List UInt8):Nat × Bool × Nat:=((Bo 17 0 r).1,decide (0<(Bo 17 0 r).2)&&decide ((Bo 17 0 r).2<17)&&(decide ((Bo 17 0 r).2=1) || decide (r.headD 0 ≠ 48)),(Bo 17 0 r).2)
theorem MX:∀ (c:Nat) (r:List UInt8) (n:Nat),(Bo c n r).2≤r.length∧(Bo c n r).2≤c
 |0,r,n=>by simp[Bo]
 |c+1,[],n=>by simp[Bo]
 |c+1,x::r,n=>by
  unfold Bo;split
  ·rename_i d hd;have:=MX c r ((n*16+d) % 18446744073709551616);simp;omega
  ·simp
theorem SI:∀ (c:Nat) (r:List UInt8) (m j:Nat),1≤m→m<16 ^ j→j+(Bo c m r).2≤16→Am m++r.take (Bo c m r).2=Am (Bo c m r).1∧(Bo c m r).1<16 ^ (j+(Bo c m r).2)
 |0,r,m,j,h,hj,_=>by simp[Bo];exact hj
 |c+1,[],m,j,h,hj,_=>by simp[Bo];exact hj
 |c+1,x::r,m,j,h,hj,hk=>by
  unfold Bo at hk ⊢;split at hk
  ·rename_i d hd;have hx:=Gl hd;simp only[hd] at hk ⊢;have hpow:16 ^ (j+1)≤16 ^ 16:=Nat.pow_le_pow_right (by omega) (by omega);have h16:(16:Nat) ^ 16=18446744073709551616:=by decide
   have hlt:m*16+d<16 ^ (j+1):=by rw[Nat.pow_succ];omega
   have e:(m*16+d) % 18446744073709551616=m*16+d:=Nat.mod_eq_of_lt (by omega);rw[e] at hk ⊢;have:=SI c r (m*16+d) (j+1) (by omega) hlt (by omega);rw[N1 h hx.1,hx.2] at this;have e2:j+1+(Bo c (m*16+d) r).2=j+((Bo c (m*16+d) r).2+1):=by omega
   rw[e2] at this;simpa using this
  ·rename_i hd;simp[hd];exact hj
theorem Wo:∀ (q c:Nat) (tail:List UInt8),q<18446744073709551616→Bo (c+(Am q).length) 0 (Am q++tail)=((Bo c q tail).1,(Bo c q tail).2+(Am q).length):=by
 intro q;induction q using Nat.strongRecOn with
 |_ q ih=>
  intro c tail hq;by_cases h:q<16
  ·rw[Ce h];simp only[List.length_singleton,List.singleton_append,Bo,KI h];have e:(0*16+q) % 18446744073709551616=q:=by omega
   rw[e]
  ·rw[Gw (by omega)];have h16:q % 16<16:=Nat.mod_lt _ (by omega);have e0:c+(Am (q / 16)++[Ji (q % 16)]).length=(c+1)+(Am (q / 16)).length:=by simp;omega
   rw[e0,List.append_assoc,List.singleton_append,ih (q / 16) (by omega) _ _ (by omega)];have e:Bo (c+1) (q / 16) (Ji (q % 16)::tail)=((Bo c q tail).1,(Bo c q tail).2+1):=by
    rw[Bo,KI h16];have:(q / 16*16+q % 16) % 18446744073709551616=q:=by omega
    simp only[this]
   rw[e];simp;omega
theorem QO {c n:Nat} {rest:List UInt8} (h:∀ x,rest.head? = some x→Bg x=none):Bo c n rest=(n,0):=by
 cases c with
 |zero=>rfl
 |succ c=>cases rest with
  |nil=>rfl
  |cons x r=>rw[Bo,h x rfl]
theorem Oa:MW AI where
 to:=by
  intro r n k h;unfold AI at h;simp only[Prod.mk.injEq] at h;obtain⟨h1,h2,h3⟩:=h;have hle:=MX 17 r 0;subst h1 h3;have h16:(16:Nat) ^ 16=18446744073709551616:=by decide
  suffices r.take (Bo 17 0 r).2=Am (Bo 17 0 r).1∧(Bo 17 0 r).1<18446744073709551616 from⟨this.1,this.2,hle.1⟩
  cases r with
  |nil=>simp[Bo] at h2
  |cons x r=>
   rw[Bo] at h2 ⊢;cases hv:Bg x with
   |none=>simp[hv] at h2
   |some d=>
    have hx:=Gl hv;simp only[hv] at h2 ⊢;have e0:(0*16+d) % 18446744073709551616=d:=by omega
    rw[e0] at h2 ⊢;simp only[List.headD_cons] at h2;by_cases hd:d=0
    ·subst hd;have h48:x=48:=by rw[← hx.2];rfl
     simp[h48] at h2;have hz:(Bo 16 0 r).2=0:=h2.2;have hn:(Bo 16 0 r).1=0:=by
      cases r with
      |nil=>rfl
      |cons y r=>
       rw[Bo] at hz ⊢;cases hy:Bg y with
       |none=>rfl
       |some e=>simp[hy] at hz
     rw[hz,hn,h48,Ce (by omega)];exact⟨rfl,by omega⟩
    ·have hk:(Bo 16 d r).2+1<17:=by simp at h2;exact h2.1
     have:=SI 16 r d 1 (by omega) (by omega) (by omega);have hpow:16 ^ (1+(Bo 16 d r).2)≤16 ^ 16:=Nat.pow_le_pow_right (by omega) (by omega);refine⟨?_,by omega⟩;rw[← this.1,Ce hx.1,hx.2];simp
 of:=by
  intro n rest hn hr;have hl:=Jb 16 n (by omega) (by omega);have e:=Wo n (17-(Am n).length) rest hn;rw[show 17-(Am n).length+(Am n).length=17 by omega,QO hr] at e;unfold AI;rw[e];have hp:=Dc n;simp only[Nat.zero_add,Prod.mk.injEq,true_and,and_true];by_cases h:n<16
  ·rw[Ce h];simp
  ·have h1:=OJ n (by omega);cases hq:Am n with
   |nil=>rw[hq] at hp;simp at hp
   |cons c l=>rw[hq] at h1 hl;simp at h1 hl;simp[h1];omega
def Ag:List (List UInt8)→List UInt8
 |[]=>[]
 |[x]=>x
 |x::y::l=>x++44::Ag (y::l)
@[simp] theorem Og:Ag []=[]:=rfl
@[simp] theorem N6 {x:List UInt8}:Ag [x]=x:=rfl
theorem DL {x:List UInt8} {l:List (List UInt8)} (h:l ≠ []):Ag (x::l)=x++44::Ag l:=by
 cases l with
 |nil=>exact(h rfl).elim
 |cons y l=>rfl
theorem JK:∀ (l:List (List UInt8)) (x:List UInt8),Ag (l++[x])=if l=[] then x else Ag l++44::x
 |[],x=>rfl
 |[y],x=>rfl
 |y::z::l,x=>by
  have:=JK (z::l) x;simp only[List.cons_append] at this ⊢;rw[Ag,this];simp[Ag]
def letters:List UInt8:=[46,46,118,98,121,116,102,101,112,99]
def A9 (k:Int):UInt8:=letters.getD k.toNat 0
mutual
def Ah:T→List UInt8
 |.mk k w l=>if k=10∧w.length=1 then Am (w.headD 0).toNat
  else if k=1 then 123::(Ag (w.map fun x=>Am x.toNat)++((if l=[] then [] else 124::Ag (Ov l))++[125]))
  else if 2≤k∧k≤9 then A9 k::91::(Ag (Ov l)++[93]) else [95]
def Ov:List T→List (List UInt8)
 |[]=>[]
 |t::l=>Ah t::Ov l
end
theorem Ri:∀ l,Ov l=l.map Ah
 |[]=>by rw[Ov];rfl
 |t::l=>by rw[Ov,Ri l];rfl
theorem AO (k:Int) (w:List Int) (l:List T):Ah (.mk k w l)=if k=10∧w.length=1 then Am (w.headD 0).toNat
  else if k=1 then 123::(Ag (w.map fun x=>Am x.toNat)++((if l=[] then [] else 124::Ag (l.map Ah))++[125]))
  else if 2≤k∧k≤9 then A9 k::91::(Ag (l.map Ah)++[93]) else [95]:=by rw[Ah,Ri]
def A1:List UInt8→UInt8→Bool
 |[],_=>false
 |x::_,c=>x == c
@[simp] theorem Cz {x c:UInt8} {r:List UInt8}:A1 (x::r) c=(x == c):=rfl
@[simp] theorem wx {c:UInt8}:A1 [] c=false:=rfl
def GO:List UInt8→UInt8→Int
 |[],_=>-1
 |b::l,c=>if b == c then 0 else if GO l c == -1 then -1 else GO l c+1
def FH (c:UInt8):Int:=GO letters c
section
variable (num:List UInt8→Nat × Bool × Nat)
def Bl:Nat→List UInt8→List Int × Bool × Nat
 |0,r=>([],false,0)
 |f+1,r=>if (num r).2.1=true then
   if A1 (r.drop (num r).2.2) 44=true then
    let q:=Bl f (r.drop ((num r).2.2+1))
    (if q.2.1=true then ((num r).1:Int)::q.1 else [],q.2.1,(num r).2.2+1+q.2.2)
   else ([((num r).1:Int)],true,(num r).2.2)
  else ([],false,(num r).2.2)
def I6 (r:List UInt8):T × Bool × Nat:=(.mk 10 [((num r).1:Int)] [],(num r).2.1,(num r).2.2)
end
def BB (p:List UInt8→T × Bool × Nat) (e:UInt8):Nat→List UInt8→List T × Bool × Nat
 |0,r=>([],false,0)
 |f+1,r=>if (p r).2.1=true then
   if A1 (r.drop (p r).2.2) e=true then ([(p r).1],true,(p r).2.2+1)
   else if A1 (r.drop (p r).2.2) 44=true then
    let g:=BB p e f (r.drop ((p r).2.2+1))
    (if g.2.1=true then (p r).1::g.1 else [],g.2.1,(p r).2.2+1+g.2.2)
   else ([],false,(p r).2.2)
  else ([],false,(p r).2.2)
def AB (p:List UInt8→T × Bool × Nat) (e:UInt8) (r:List UInt8):List T × Bool × Nat:=
 if A1 r e=true then ([],true,1) else BB p e (r.length+1) r
def PS (num:List UInt8→Nat × Bool × Nat) (r:List UInt8):List Int × Bool × Nat:=if r.headD 0 ≠ 124 then Bl num (r.length+1) r else ([],true,0)
def GX (kp:List UInt8→List T × Bool × Nat) (ws:List Int) (r:List UInt8):T × Bool × Nat:=
 if A1 r 125=true then (.mk 1 ws [],true,1)
 else if A1 r 124=true then
  if (r.drop 1).headD 0=125 then (.mk 1 ws [],false,1)
  else (.mk 1 ws (kp (r.drop 1)).1,(kp (r.drop 1)).2.1,1+(kp (r.drop 1)).2.2)
 else (.mk 1 ws [],false,0)
def B1 (num:List UInt8→Nat × Bool × Nat) (kp:List UInt8→List T × Bool × Nat) (r:List UInt8):T × Bool × Nat:=
 if A1 r 125=true then (.mk 1 [] [],true,1)
 else if (PS num r).2.1=true then
  let q:=GX kp (PS num r).1 (r.drop (PS num r).2.2)
  (q.1,q.2.1,(PS num r).2.2+q.2.2)
 else (.mk 1 [] [],false,(PS num r).2.2)
def EZ (k:Int):Bool:=decide (2≤k)&&decide (k≤7)
def Az (num:List UInt8→Nat × Bool × Nat):Nat→List UInt8→T × Bool × Nat
 |d,r=>if A1 r 95=true then (T0,true,1) else match d with
  |0=>(T0,false,0)
  |d+1=>
   if A1 r 123=true then
    let q:=B1 num (AB (Az num d) 125) (r.drop 1)
    (q.1,q.2.1,1+q.2.2)
   else if FH (r.headD 0)<2 then (T0,false,0)
   else if A1 (r.drop 1) 91=true then
    let g:=AB (if EZ (FH (r.headD 0))=true then I6 num else Az num d) 93 (r.drop 2)
    (.mk (FH (r.headD 0)) [] g.1,g.2.1,2+g.2.2)
   else (T0,false,1)
theorem JA (num:List UInt8→Nat × Bool × Nat) (r:List UInt8):Az num 0 r=if A1 r 95=true then (T0,true,1) else (T0,false,0):=by rw[Az]
theorem Fx (num:List UInt8→Nat × Bool × Nat) (d:Nat) (r:List UInt8):Az num (d+1) r=if A1 r 95=true then (T0,true,1) else
   if A1 r 123=true then ((B1 num (AB (Az num d) 125) (r.drop 1)).1,(B1 num (AB (Az num d) 125) (r.drop 1)).2.1,1+(B1 num (AB (Az num d) 125) (r.drop 1)).2.2)
   else if FH (r.headD 0)<2 then (T0,false,0)
   else if A1 (r.drop 1) 91=true then
    (.mk (FH (r.headD 0)) [] (AB (if EZ (FH (r.headD 0))=true then I6 num else Az num d) 93 (r.drop 2)).1,(AB (if EZ (FH (r.headD 0))=true then I6 num else Az num d) 93 (r.drop 2)).2.1,2+(AB (if EZ (FH (r.headD 0))=true then I6 num else Az num d) 93 (r.drop 2)).2.2)
   else (T0,false,1):=by rw[Az]
def IE (t:T):Prop:=t.kind=10∧t.kids=[]∧∃ n:Nat,t.words=[(n:Int)]∧n<18446744073709551616
def Cd:Nat→T→Prop
 |0,t=>t=T0
 |d+1,t=>t=T0∨(t.kind=1∧(∀ x,x ∈ t.words→0≤x∧x<18446744073709551616)∧∀ c,c ∈ t.kids→Cd d c) ∨
  (2≤t.kind∧t.kind≤9∧t.words=[]∧∀ c,c ∈ t.kids→if EZ t.kind=true then IE c else Cd d c)
theorem T.mkOf {t:T} {k:Int} {w:List Int} {l:List T} (h1:t.kind=k) (h2:t.words=w) (h3:t.kids=l):t = .mk k w l:=by cases t;simp at h1 h2 h3;rw[h1,h2,h3]
theorem OE {t:T} (h:IE t):∃ n:Nat,t = .mk 10 [(n:Int)] []∧n<18446744073709551616∧Ah t=Am n:=by
 obtain⟨h1,h2,n,h3,h4⟩:=h;have e:=T.mkOf h1 h3 h2;refine⟨n,e,h4,?_⟩;rw[e,AO];simp
theorem jm:∀ k:Nat,k<10→2≤k→FH (A9 (k:Int))=k∧A9 (k:Int) ≠ 95∧A9 (k:Int) ≠ 123∧A9 (k:Int) ≠ 125∧A9 (k:Int) ≠ 93:=by decide
theorem Sx {k:Int} (h1:2≤k) (h2:k≤9):FH (A9 k)=k∧A9 k ≠ 95∧A9 k ≠ 123∧A9 k ≠ 125∧A9 k ≠ 93:=by
 have:=jm k.toNat (by omega) (by omega)
 rwa [Int.toNat_of_nonneg (by omega)] at this
theorem Se:∀ (l:List UInt8) (c:UInt8),GO l c = -1∨(0≤GO l c∧GO l c<l.length∧l[(GO l c).toNat]? = some c)
 |[],c=>.inl rfl
 |b::l,c=>by
  unfold GO;by_cases h:(b == c)=true
  ·rw[if_pos h];right;simp at h;simp[h]
  ·rw[if_neg h];rcases Se l c with e | ⟨e1,e2,e3⟩
   ·simp[e]
   ·right;have hne:¬ (GO l c == -1)=true:=by simp;omega
    rw[if_neg hne];refine⟨by omega,by simp;omega,?_⟩;have:(GO l c+1).toNat=(GO l c).toNat+1:=by omega
    rw[this];simpa using e3
theorem Xn {c:UInt8} (h:¬ FH c<2):2≤FH c∧FH c≤9∧A9 (FH c)=c:=by
 rcases Se letters c with e | ⟨e1,e2,e3⟩
 ·unfold FH at h;omega
 ·have e2:FH c<10:=e2;refine⟨by omega,by omega,?_⟩;unfold A9;rw[List.getD_eq_getElem?_getD];show(letters[(GO letters c).toNat]?).getD 0=c;rw[e3];rfl
theorem DE {α:Type} {q:α × Bool × Nat} (h:q.2.1=true):q=(q.1,true,q.2.2):=by
 obtain⟨a,b,c⟩:=q;simp at h;rw[h]
theorem C8 {α:Type} (r:List α) (a b:Nat):r.take (a+b)=r.take a++(r.drop a).take b:=List.take_add ..
theorem BF {r:List UInt8} {c:UInt8} {k:Nat} (h:A1 (r.drop k) c=true):k<r.length∧(r.drop k).take 1=[c]:=by
 cases hq:r.drop k with
 |nil=>rw[hq] at h;cases h
 |cons x q=>
  rw[hq] at h;simp at h;have:k<r.length:=by
   apply Nat.lt_of_not_le;intro hk;rw[List.drop_of_length_le hk] at hq;cases hq
  exact⟨this,by simp[h]⟩
section
variable {num:List UInt8→Nat × Bool × Nat}
def bE (p:List UInt8→T × Bool × Nat) (Q:T→Prop):Prop:=∀ r t k,p r=(t,true,k)→r.take k=Ah t∧k≤r.length∧Q t
theorem NA (h:MW num):∀ (f:Nat) (r:List UInt8) (ws:List Int) (k:Nat),Bl num f r=(ws,true,k)→r.take k=Ag (ws.map fun x=>Am x.toNat)∧k≤r.length∧ws ≠ []∧∀ x,x ∈ ws→0≤x∧x<18446744073709551616
 |0,r,ws,k,e=>by simp[Bl] at e
 |f+1,r,ws,k,e=>by
  unfold Bl at e;split at e
  ·rename_i ho;have hn:=DE ho;obtain⟨g1,g2,g3⟩:=h.to _ _ _ hn;split at e
   ·rename_i hc;simp only[Prod.mk.injEq] at e;obtain⟨e1,e2,e3⟩:=e;rw[if_pos e2] at e1;obtain⟨i1,i2,i3,i4⟩:=NA h f _ _ _ (DE e2);obtain⟨c1,c2⟩:=BF hc;subst e1 e3;refine⟨?_,?_,by simp,fun x hx=>?_⟩
    ·rw[C8,C8,g1,c2,i1,List.map_cons,DL (by simpa using i3)];simp
    ·simp at i2;omega
    ·rcases List.mem_cons.1 hx with rfl | hx
     ·omega
     ·exact i4 x hx
   ·simp only[Prod.mk.injEq] at e;obtain⟨e1,_,e3⟩:=e;subst e1 e3;refine⟨by simpa using g1,g3,by simp,fun x hx=>?_⟩;simp at hx;omega
  ·simp at e
theorem Uj (h:MW num):bE (I6 num) IE:=fun r t k e=>by
 unfold I6 at e;simp only[Prod.mk.injEq] at e;obtain⟨e1,e2,e3⟩:=e;have hn:=DE e2;obtain⟨g1,g2,g3⟩:=h.to _ _ _ hn;subst e1 e3;refine⟨?_,g3,rfl,rfl,_,rfl,g2⟩;rw[g1,AO];simp
theorem Lm {p:List UInt8→T × Bool × Nat} {Q:T→Prop} (h:bE p Q) (e:UInt8):∀ (f:Nat) (r:List UInt8) (l:List T) (k:Nat),BB p e f r=(l,true,k) →
  r.take k=Ag (l.map Ah)++[e]∧k≤r.length∧l ≠ []∧∀ c,c ∈ l→Q c
 |0,r,l,k,q=>by simp[BB] at q
 |f+1,r,l,k,q=>by
  unfold BB at q;split at q
  ·rename_i ho;have hn:=DE ho;obtain⟨g1,g2,g3⟩:=h _ _ _ hn;split at q
   ·rename_i hc;simp only[Prod.mk.injEq] at q;obtain⟨e1,_,e3⟩:=q;obtain⟨c1,c2⟩:=BF hc;subst e1 e3;refine⟨by rw[C8,g1,c2];simp,by omega,by simp,fun c hc=>?_⟩;simp at hc;rw[hc];exact g3
   ·split at q
    ·rename_i hc;simp only[Prod.mk.injEq] at q;obtain⟨e1,e2,e3⟩:=q;rw[if_pos e2] at e1;obtain⟨i1,i2,i3,i4⟩:=Lm h e f _ _ _ (DE e2);obtain⟨c1,c2⟩:=BF hc;subst e1 e3;refine⟨?_,?_,by simp,fun x hx=>?_⟩
     ·rw[C8,C8,g1,c2,i1,List.map_cons,DL (by simpa using i3)];simp
     ·simp at i2;omega
     ·rcases List.mem_cons.1 hx with rfl | hx
      ·exact g3
      ·exact i4 x hx
    ·simp at q
  ·simp at q
theorem SJ {p:List UInt8→T × Bool × Nat} {Q:T→Prop} (h:bE p Q) (e:UInt8) (r:List UInt8) (l:List T) (k:Nat) (q:AB p e r=(l,true,k)) :
  r.take k=Ag (l.map Ah)++[e]∧k≤r.length∧(l=[]→A1 r e=true)∧∀ c,c ∈ l→Q c:=by
 unfold AB at q;split at q
 ·rename_i hc;simp only[Prod.mk.injEq] at q;obtain⟨e1,_,e3⟩:=q;subst e1 e3;obtain⟨c1,c2⟩:=BF (k:=0) (by simpa using hc);exact⟨by simpa using c2,by omega,fun _=>hc,fun c hc=>by simp at hc⟩
 ·obtain⟨h1,h2,h3,h4⟩:=Lm h e _ _ _ _ q;exact⟨h1,h2,fun e=>(h3 e).elim,h4⟩
theorem QA {r:List UInt8} {c:UInt8} (h:A1 r c=true):r.headD 0=c:=by
 cases r with
 |nil=>cases h
 |cons x r=>simpa using h
theorem Jq (h:MW num):∀ d,bE (Az num d) (Cd d)
 |0=>fun r t k q=>by
  rw[JA] at q;split at q
  ·rename_i hc;simp only[Prod.mk.injEq] at q;obtain⟨e1,_,e3⟩:=q;subst e1 e3;obtain⟨c1,c2⟩:=BF (k:=0) (by simpa using hc);refine⟨?_,by omega,rfl⟩;rw[AO];simpa using c2
  ·simp at q
 |d+1=>fun r t k q=>by
  have ih:=Jq h d;rw[Fx] at q;split at q
  ·rename_i hc;simp only[Prod.mk.injEq] at q;obtain⟨e1,_,e3⟩:=q;subst e1 e3;obtain⟨c1,c2⟩:=BF (k:=0) (by simpa using hc);refine⟨?_,by omega,.inl rfl⟩;rw[AO];simpa using c2
  ·split at q
   ·rename_i hc;obtain⟨c1,c2⟩:=BF (k:=0) (by simpa using hc);simp only[List.drop_zero] at c2;simp only[Prod.mk.injEq] at q;obtain⟨e1,e2,e3⟩:=q
    suffices ∀ (t:T) (k:Nat),B1 num (AB (Az num d) 125) (r.drop 1)=(t,true,k)→(r.drop 1).take k++[]=(Ah t).drop 1∧k+1≤r.length∧Ah t=123::(Ah t).drop 1∧Cd (d+1) t by
     obtain⟨g1,g2,g3,g4⟩:=this _ _ (DE e2);subst e1 e3;refine⟨?_,by omega,g4⟩;rw[C8,c2,g3,← g1];simp
    clear e1 e2 e3;intro t k q;unfold B1 at q;split at q
    ·rename_i hc2;simp only[Prod.mk.injEq] at q;obtain⟨e1,_,e3⟩:=q;subst e1 e3;obtain⟨b1,b2⟩:=BF hc2;refine⟨?_,by omega,?_,.inr (.inl ⟨rfl,fun x hx=>by simp at hx,fun c hc=>by simp at hc⟩)⟩
     ·rw[AO,b2];simp
     ·rw[AO];simp
    ·split at q
     ·rename_i hw;have hws:(r.drop 1).take (PS num (r.drop 1)).2.2=Ag ((PS num (r.drop 1)).1.map fun x=>Am x.toNat)∧(PS num (r.drop 1)).2.2≤(r.drop 1).length∧∀ x,x ∈ (PS num (r.drop 1)).1→0≤x∧x<18446744073709551616:=by
       unfold PS at hw ⊢;split at hw
       ·rename_i h124;rw[if_pos h124];obtain⟨i1,i2,_,i4⟩:=NA h _ _ _ _ (DE hw);exact⟨i1,i2,i4⟩
       ·rename_i h124;rw[if_neg h124];simp
      obtain⟨w1,w2,w3⟩:=hws;generalize hwv:PS num (r.drop 1)=W at q hw w1 w2 w3;simp only[Prod.mk.injEq] at q;obtain⟨e1,e2,e3⟩:=q;unfold GX at e1 e2 e3;split at e2
      ·rename_i hc3;rw[if_pos hc3] at e1 e3;simp only at e1 e3;subst e1 e3;obtain⟨b1,b2⟩:=BF hc3;refine⟨?_,by simp at b1;omega,?_,.inr (.inl ⟨rfl,w3,fun c hc=>by simp at hc⟩)⟩
       ·rw[C8,w1,b2,AO];simp
       ·rw[AO];simp
      ·rename_i hc3;rw[if_neg hc3] at e1 e3;split at e2
       ·rename_i hc4;rw[if_pos hc4] at e1 e3;split at e2
        ·cases e2
        ·rename_i hc5;rw[if_neg hc5] at e1 e3;obtain⟨b1,b2⟩:=BF hc4;obtain⟨k1,k2,k3,k4⟩:=SJ ih 125 _ _ _ (DE e2);generalize AB (Az num d) 125 (((r.drop 1).drop W.2.2).drop 1)=G at e1 e2 e3 k1 k2 k3 k4;have hne:G.1 ≠ []:=fun e=>hc5 (QA (k3 e));simp only at e1 e3;subst e1 e3;refine⟨?_,by simp at b1 k2;omega,?_,.inr (.inl ⟨rfl,w3,k4⟩)⟩
         ·rw[C8,w1,C8,b2,k1,AO];simp[hne]
         ·rw[AO];simp
       ·cases e2
     ·simp at q
   ·split at q
    ·simp at q
    ·rename_i hl;obtain⟨l1,l2,l3⟩:=Xn hl;split at q
     ·rename_i hc2;obtain⟨b1,b2⟩:=BF hc2;have hhd:r.take 1=[r.headD 0]:=by
       cases r with
       |nil=>simp at b1
       |cons x r=>rfl
      generalize hk:FH (r.headD 0)=K at q hl l1 l2 l3;simp only[Prod.mk.injEq] at q;obtain⟨e1,e2,e3⟩:=q;have hto:bE (if EZ K=true then I6 num else Az num d) (fun c=>if EZ K=true then IE c else Cd d c):=by
       by_cases hD:EZ K=true
       ·simp only[hD,if_true];exact Uj h
       ·simp only[hD,if_false];exact ih
      obtain⟨k1,k2,k3,k4⟩:=SJ hto 93 _ _ _ (DE e2);generalize AB (if EZ K=true then I6 num else Az num d) 93 (r.drop 2)=G at e1 e2 e3 k1 k2 k3 k4;subst e1 e3;refine⟨?_,by simp at k2;omega,.inr (.inr ⟨l1,l2,rfl,k4⟩)⟩;rw[show 2+G.2.2=1+(1+G.2.2) by omega,C8,hhd,C8,b2,List.drop_drop,k1,AO,if_neg (by omega),if_neg (by omega),if_pos ⟨l1,l2⟩,l3];simp
     ·simp at q
end
end Go.PL
namespace Go.Proofs.YtebihdhapepejaaGreatDoor
set_option maxRecDepth 20000
open Go Go.G Go.Proofs
theorem mixed:Tryz.prog.follows .mixedOrders=true:=by kernel_rfl
@[simp] theorem yc:Tryz.prog.underlying 3=some (.int .i64):=by kernel_rfl
@[simp] theorem yi:Tryz.prog.underlying 5=some (.int .u8):=by kernel_rfl
@[simp] theorem xV:Tryz.prog.underlying 22=some (.slice 45):=by kernel_rfl
@[simp] theorem xu:Tryz.prog.underlying 45=some (.int .u64):=by kernel_rfl
@[simp] theorem xW:Tryz.prog.underlying 68=some (.slice 5):=by kernel_rfl
@[simp] theorem xz:Tryz.prog.underlying 98=some (.array 8 5):=by kernel_rfl
@[simp] theorem wN:Tryz.prog.underlying 180=some (.array 6 3):=by kernel_rfl
@[simp] theorem sd:El Tryz.prog 3=some 1:=by kernel_rfl
@[simp] theorem rU:El Tryz.prog 5=some 1:=by kernel_rfl
@[simp] theorem xX:El Tryz.prog 45=some 1:=by kernel_rfl
@[simp] theorem xE:El Tryz.prog 98=some 8:=by kernel_rfl
@[simp] theorem xh:El Tryz.prog 180=some 6:=by kernel_rfl
@[simp] theorem qR:I9 Tryz.prog 3=some false:=by kernel_rfl
@[simp] theorem qW:I9 Tryz.prog 5=some false:=by kernel_rfl
@[simp] theorem wK:I9 Tryz.prog 45=some false:=by kernel_rfl
@[simp] theorem xg:I9 Tryz.prog 98=some true:=by kernel_rfl
@[simp] theorem wo:CL Tryz.prog 45=some (Value.int u64 0):=by kernel_rfl
@[simp] theorem wb:CL Tryz.prog 98=some (Value.agg #[Value.int IntKind.u8 0,Value.int IntKind.u8 0,Value.int IntKind.u8 0,Value.int IntKind.u8 0,Value.int IntKind.u8 0,Value.int IntKind.u8 0,Value.int IntKind.u8 0,Value.int IntKind.u8 0]):=by kernel_rfl
@[simp] theorem uS:CL Tryz.prog 180=some (Value.agg #[Value.int i64 0,Value.int i64 0,Value.int i64 0,Value.int i64 0,Value.int i64 0,Value.int i64 0]):=by kernel_rfl
@[simp] theorem uT:Ev Tryz.prog 45=some 8:=by kernel_rfl
@[simp] theorem uC (ps:List (Nat × A)):JV Tryz.prog 98 ps=(H7 (fun i=>some (i*1,1)) [A.v (Value.int IntKind.u8 0),A.v (Value.int IntKind.u8 0),A.v (Value.int IntKind.u8 0),A.v (Value.int IntKind.u8 0),A.v (Value.int IntKind.u8 0),A.v (Value.int IntKind.u8 0),A.v (Value.int IntKind.u8 0),A.v (Value.int IntKind.u8 0)] ps).map A.agg:=by kernel_rfl
@[simp] theorem uz (ps:List (Nat × A)):JV Tryz.prog 180 ps=(H7 (fun i=>some (i*1,1)) [A.v (Value.int i64 0),A.v (Value.int i64 0),A.v (Value.int i64 0),A.v (Value.int i64 0),A.v (Value.int i64 0),A.v (Value.int i64 0)] ps).map A.agg:=by kernel_rfl
@[simp] abbrev xT (n:Nat):Operand:=.tmp n
@[simp] abbrev nI (n:Int):Operand:=.const (.int .i64 n)
@[simp] abbrev cL (f:Nat) (xs:Array Operand) (ts:Array TypeId):Op:=.call { callee:=(.value (.func f)),args:=xs,argTypes:=ts }
@[simp] abbrev mV (n:Nat):Op:=.move (.tmp n)
@[simp] abbrev aS (n:Nat):Op:=.assign (.tmp n)
@[simp] abbrev lD (t n:Nat):Op:=.load t (.tmp n)
@[simp] abbrev fA (t n f:Nat):Op:=.fieldAddr t (.tmp n) f
@[simp] abbrev xR (n i:Nat):Op:=.extract (.tmp n) i
@[simp] abbrev oO (d:Nat) (o:Op):CO:=co (some d) o none
@[simp] abbrev oN (d:Nat) (o:Op) (nm:Nm):CO:=cn (some d) o none nm
@[simp] abbrev oS (o:Op):CO:=co none o none
@[simp] abbrev oG (d:Nat) (o:Op) (k:Nat) (b:Bool):CO:=co (some d) o (some (k,b))
@[simp] abbrev bC (b:Builtin) (xs:Array Operand) (ts:Array TypeId):Op:=.call { callee:=(.builtin b),args:=xs,argTypes:=ts }
@[simp] abbrev bL (n t:Nat):Op:=.call { callee:=(.builtin .len),args:=#[.tmp n],argTypes:=#[t] }
@[simp] abbrev bO (o:BinOp) (t a b u:Nat):Op:=.binOp o t (.tmp a) (.tmp b) u
@[simp] abbrev iA (t a b:Nat):Op:=.indexAddr t (.tmp a) (.tmp b)
@[simp] abbrev nB (b:Bool):Operand:=.const (.bool b)
@[simp] abbrev nS:Operand:=.const (.slice none 0 0)
@[simp] abbrev mO (d n:Nat):CO:=co (some d) (.move (.tmp n)) none
@[simp] abbrev aO (d n:Nat):CO:=co (some d) (.assign (.tmp n)) none
@[simp] abbrev lO (d t n:Nat):CO:=co (some d) (.load t (.tmp n)) none
@[simp] abbrev fO (d t n f:Nat):CO:=co (some d) (.fieldAddr t (.tmp n) f) none
@[simp] abbrev xO (d n i:Nat):CO:=co (some d) (.extract (.tmp n) i) none
def jl:Nat→List CO→List (Nat × Nm)
 |_,[]=>[]
 |i,x::l=>if x.nm.isEmpty then jl (i+1) l else (i,x.nm)::jl (i+1) l
def Nb:CC→List Mk
 |.reg a b=>[(b,jl 0 a)]
 |.seq x (.keep b (.stop y))=>Nb x++(999997::b,[])::Nb y
 |.seq x (.keep b y)=>Nb x++(999999::b,[])::Nb y
 |.seq x (.stop y)=>Nb x++([999998],[])::Nb y
 |.seq x y=>Nb x++([],[])::Nb y
 |.cond _ x y=>Nb x++Nb y
 |.block _ x=>Nb x
 |.loop x=>Nb x
 |.scope x=>Nb x
 |_=>[]
@[simp] abbrev sR (a:List CO) (b:List Nat) (k:CC):CC:=.seq (.reg a b) k
@[simp] abbrev cD (n:Nat) (a b:CC):CC:=.cond (.tmp n) a b
@[simp] abbrev sT (t a b:Nat):CO:=co none (.store t (.tmp a) (.tmp b)) none
@[simp] abbrev bQ (o:BinOp) (d t a:Nat) (n:Int) (u:Nat):CO:=co (some d) (.binOp o t (.tmp a) (.const (.int .i64 n)) u) none
@[simp] abbrev bB (o:BinOp) (d t a b u:Nat):CO:=co (some d) (.binOp o t (.tmp a) (.tmp b) u) none
@[simp] abbrev aI (d:Nat) (n:Int):CO:=co (some d) (.assign (.const (.int .i64 n))) none
@[simp] abbrev aP (d a b t u:Nat) (m:Nm):CO:=cn (some d) (.call { callee:=(.builtin .append),args:=#[.tmp a,.tmp b],argTypes:=#[t,u] }) none m
@[simp] abbrev pF (d a b:Nat):CO:=co (some d) (.pick (.tmp a) (.tmp b) (.const (.bool false))) none
@[simp] abbrev pT (d a b:Nat):CO:=co (some d) (.pick (.tmp a) (.const (.bool true)) (.tmp b)) none
@[simp] abbrev cA (d f a t:Nat):CO:=co (some d) (.call { callee:=(.value (.func f)),args:=#[.tmp a],argTypes:=#[t] }) none
@[simp] abbrev cB (d f a b t u:Nat):CO:=co (some d) (.call { callee:=(.value (.func f)),args:=#[.tmp a,.tmp b],argTypes:=#[t,u] }) none
@[simp] abbrev cE (d f a b e t u v:Nat):CO:=co (some d) (.call { callee:=(.value (.func f)),args:=#[.tmp a,.tmp b,.tmp e],argTypes:=#[t,u,v] }) none
@[simp] abbrev bX (d t a:Nat) (m:Nm):CO:=cn (some d) (.box t (.tmp a)) none m
@[simp] abbrev aL (d t:Nat) (m:Nm):CO:=cn (some d) (.alloc t) none m
@[simp] abbrev mG (d a k:Nat) (b:Bool):CO:=co (some d) (.move (.tmp a)) (some (k,b))
@[simp] abbrev lG (d t a k:Nat) (b:Bool):CO:=co (some d) (.load t (.tmp a)) (some (k,b))
@[simp] abbrev fG (d t a f k:Nat) (b:Bool):CO:=co (some d) (.fieldAddr t (.tmp a) f) (some (k,b))
@[simp] abbrev iO (d t a b:Nat):CO:=co (some d) (.indexAddr t (.tmp a) (.tmp b)) none
@[simp] abbrev bN (d n t:Nat):CO:=co (some d) (.call { callee:=(.builtin .len),args:=#[.tmp n],argTypes:=#[t] }) none
@[simp] abbrev nC (d a:Nat):CO:=co (some d) (.nilCheck (.tmp a)) none
@[simp] abbrev aB (d:Nat) (b:Bool):CO:=co (some d) (.assign (.const (.bool b))) none
@[simp] abbrev aN (d:Nat):CO:=co (some d) (.assign (.const (.slice none 0 0))) none
@[simp] abbrev lS (d t a k:Nat):CO:=⟨some d,.load t (.tmp a),none,[],k,[],true⟩
@[simp] abbrev sQ (a:List CO) (l:List Nat) (k:CC) (m:List Nat) (n:CC):CC:=.seq (.seq (.reg a l) k) (.keep m n)
def HB:CC:=sR [aI 2 0] [0] (sQ [mO 3 0] [3] (.block 0 (sR [bQ .eql 5 3 3 0 3,aO 4 5] [3,4] (cD 4 (sR [aI 2 0] [2] (.ret)) (sR [bQ .eql 7 3 3 1 3,aO 6 7] [3,6] (cD 6 (sR [aI 2 1] [2] (.ret)) (sR [bQ .eql 9 3 3 2 3,aO 8 9] [3,8] (cD 8 (sR [aI 2 8] [2] (.ret)) (sR [bQ .eql 11 3 3 3 3,aO 10 11] [3,10] (cD 10 (sR [aI 2 16] [2] (.ret)) (sR [bQ .eql 13 3 3 4 3,aO 12 13] [3,12] (cD 12 (sR [aI 2 32] [2] (.ret)) (sR [bQ .eql 15 3 3 5 3,aO 14 15] [14] (cD 14 (sR [aI 2 64] [2] (.ret)) (.skip)))))))))))))) [] (sR [oO 2 (.assign (.const (.int .i64 (-1))))] [2] (.ret)))
theorem AP {f:FuncId} {fn:Func} {cc:CC} {rs:List ResultVar} {n:Nat} (hf:Tryz.prog.funcs[f]? = some fn) (hn:fn.ntmps=n:=by kernel_rfl) (hk:LA Tryz.prog f=true:=by kernel_rfl) (hb:fn.body=some (fn.body.getD .ret):=by kernel_rfl) (hrs:fn.results.toList=rs:=by kernel_rfl) (hc:GM n (fn.body.getD .ret) (Nb cc)=some (cc,[]):=by kernel_rfl):BP Tryz.prog f n rs cc:=jM mixed hk hf hb hn hrs hc
theorem Mo:BP Tryz.prog 50 16 [(.tmp 2)] HB:=AP Tryz.func50
def Dy:CC:=sQ [mO 11 6,mO 12 5,bB .lss 13 3 11 12 3] [1,5,6,13] (cD 13 (.skip) (.exit 0)) [1,5,6] (.seq (.block 1 (.reg [mO 16 1,oO 17 (.binOp .quo 45 (xT 16) (.const (.int .u64 2)) 45),aO 1 17] [1,5,6])) (.reg [mO 14 6,bQ .add 15 3 14 1 3,aO 6 15] [1,5,6])) 
def Ib:CC:=sR [aB 4 false] [0,1] (sR [mO 7 0,cA 8 50 7 3,aO 5 8] [1,5] (sQ [mO 9 5,bQ .lss 10 3 9 0 3] [1,5,10] (cD 10 (sR [aB 4 false] [4] (.ret)) (.skip)) [1,5] (sQ [aI 6 0] [1,5,6] (.block 0 (.loop Dy)) [1] (sR [mO 18 1,oO 19 (.binOp .eql 45 (xT 18) (.const (.int .u64 0)) 45),aO 4 19] [4] (.ret)))))
theorem MY:BP Tryz.prog 31 20 [(.tmp 4)] Ib:=AP Tryz.func31
def DH:CC:=sQ [mO 11 5,mO 12 0,bN 13 12 22,bB .lss 14 3 11 13 3] [0,1,5,14] (cD 14 (.skip) (.exit 0)) [0,1,5] (.seq (.block 1 (sR [mO 17 0,mO 18 5,iO 19 22 17 18,lO 20 45 19,mO 21 1,mO 22 5,iO 23 22 21 22,lO 24 45 23,bB .neq 25 45 20 24 45] [0,1,5,25] (cD 25 (sR [aB 4 false] [4] (.ret)) (.skip)))) (.keep [0,1,5] (.reg [mO 15 5,bQ .add 16 3 15 1 3,aO 5 16] [0,1,5]))) 
def Il:CC:=sR [aB 4 false] [0,1] (sQ [mO 6 0,bN 7 6 22,mO 8 1,bN 9 8 22,bB .neq 10 3 7 9 3] [0,1,10] (cD 10 (sR [aB 4 false] [4] (.ret)) (.skip)) [0,1] (sQ [aI 5 0] [0,1,5] (.block 0 (.loop DH)) [] (sR [aB 4 true] [4] (.ret))))
theorem MV:BP Tryz.prog 43 26 [(.tmp 4)] Il:=AP Tryz.func43
def CP:CC:=sQ [mO 6 4,bQ .lss 7 3 6 8 3] [0,2,3,4,7] (cD 7 (.skip) (.exit 0)) [0,2,3,4] (.seq (.block 1 (sR [mO 10 4,mO 11 0,oO 12 (.binOp .rem 45 (xT 11) (.const (.int .u64 256)) 45),oO 13 (.convert 45 5 (xT 12)),iO 14 98 3 10,sT 5 14 13] [0,2,3,4] (.reg [mO 15 0,oO 16 (.binOp .quo 45 (xT 15) (.const (.int .u64 256)) 45),aO 0 16] [0,2,3,4]))) (.reg [mO 8 4,bQ .add 9 3 8 1 3,aO 4 9] [0,2,3,4])) 
def HR:CC:=sR [aL 2 98 [0]] [0,2] (sR [oO 5 (.build 98 #[]),aL 3 98 [1],sT 98 3 5] [0,2,3] (sQ [aI 4 0] [0,2,3,4] (.block 0 (.loop CP)) [2,3] (sR [lO 17 98 3,sT 98 2 17] [2] (.ret))))
theorem MC:BP Tryz.prog 51 18 [(.cell 2 98)] HR:=AP Tryz.func51
def CY:CC:=sQ [mO 6 5,mO 7 1,bB .lss 8 3 6 7 3] [0,1,5,8] (cD 8 (.skip) (.exit 0)) [0,1,5] (.seq (.block 1 (.reg [mO 11 0,oO 12 (.binOp .quo 5 (xT 11) (.const (.int .u8 2)) 5),aO 0 12] [0,1,5])) (.reg [mO 9 5,bQ .add 10 3 9 1 3,aO 5 10] [0,1,5])) 
def HI:CC:=sR [aB 4 false] [0,1] (sQ [aI 5 0] [0,1,5] (.block 0 (.loop CY)) [0] (sR [mO 13 0,oO 14 (.binOp .rem 5 (xT 13) (.const (.int .u8 2)) 5),oO 15 (.binOp .eql 5 (xT 14) (.const (.int .u8 1)) 5),aO 4 15] [4] (.ret)))
theorem Mq:BP Tryz.prog 52 16 [(.tmp 4)] HI:=AP Tryz.func52
def EI:CC:=sQ [mO 7 6,bQ .geq 8 3 7 0 3] [0,1,5,6,8] (cD 8 (.skip) (.exit 0)) [0,1,5,6] (.seq (.block 1 (.reg [mO 11 5,oO 12 (.binOp .mul 45 (xT 11) (.const (.int .u64 256)) 45),mO 13 0,mO 14 1,mO 15 6,bB .add 16 3 14 15 3,iO 17 68 13 16,lO 18 5 17,oO 19 (.convert 5 45 (xT 18)),bB .add 20 45 12 19 45,aO 5 20] [0,1,5,6])) (.reg [mO 9 6,bQ .sub 10 3 9 1 3,aO 6 10] [0,1,5,6])) 
def J5:CC:=sR [oO 4 (.assign (.const (.int .u64 0)))] [0,1] (sR [oO 5 (.assign (.const (.int .u64 0)))] [0,1,5] (sQ [aI 6 7] [0,1,5,6] (.block 0 (.loop EI)) [5] (sR [mO 21 5,aO 4 21] [4] (.ret))))
theorem PO:BP Tryz.prog 53 22 [(.tmp 4)] J5:=AP Tryz.func53
def Ec:CC:=sQ [mO 14 9,bQ .lss 15 3 14 8 3] [2,7,8,9,15] (cD 15 (.skip) (.exit 0)) [2,7,8,9] (.seq (.block 1 (sR [mO 18 2,mO 19 9,cB 20 52 18 19 5 3] [2,7,8,9,20] (cD 20 (.reg [mO 21 9,mO 22 9,iO 23 98 8 22,lO 24 5 23,iO 25 98 7 21,sT 5 25 24] [2,7,8,9]) (.skip)))) (.keep [2,7,8,9] (.reg [mO 16 9,bQ .add 17 3 16 1 3,aO 9 17] [2,7,8,9]))) 
def Jp:CC:=sR [oO 6 (.assign (.const (.int .u64 0)))] [0,1,2] (sR [mO 10 0,cA 11 51 10 45,mO 12 1,cA 13 51 12 45,aL 7 98 [0],aL 8 98 [1],sT 98 7 11,sT 98 8 13] [2,7,8] (sQ [aI 9 0] [2,7,8,9] (.block 0 (.loop Ec)) [7] (.stop (sR [oO 26 (.slice 98 (xT 7) none none none),oO 27 (cL 53 #[(xT 26),(nI 0)] #[68,3]),aO 6 27] [6] (.ret)))))
theorem Ox:BP Tryz.prog 32 28 [(.tmp 6)] Jp:=AP Tryz.func32
def MO:CC:=sR [aI 2 0,aB 3 false] [0] (sR [oO 5 (.build 180 #[(0,(nI 0)),(1,(nI 1)),(2,(nI 8)),(3,(nI 16)),(4,(nI 32)),(5,(nI 64))]),aL 4 180 [0],sT 180 4 5] [0,4] (sQ [mO 6 0,bQ .lss 7 3 6 0 3,mO 8 7,mG 9 0 8 false,oG 10 (.binOp .geq 3 (xT 9) (nI 6) 3) 8 false,pT 11 8 10] [0,4,11] (cD 11 (sR [aI 2 0,aB 3 false] [2,3] (.ret)) (.skip)) [0,4] (sR [mO 12 0,iO 13 180 4 12,lO 14 3 13,aO 2 14,aB 3 true] [2,3] (.ret))))
theorem TA:BP Tryz.prog 136 15 [(.tmp 2),(.tmp 3)] MO:=AP Tryz.func136
def Kv:CC:=sR [aB 2 false] [0] (sR [mO 3 0,bQ .geq 4 3 3 2 3,mO 5 4,mG 6 0 5 true,oG 7 (.binOp .leq 3 (xT 6) (nI 7) 3) 5 true,pF 8 5 7,aO 2 8] [2] (.ret))
theorem Pm:BP Tryz.prog 121 9 [(.tmp 2)] Kv:=AP Tryz.func121
@[simp] theorem yg:Tryz.prog.underlying 4=some .bool:=by kernel_rfl
@[simp] theorem xQ:Tryz.prog.underlying 23=some (.slice 25):=by kernel_rfl
@[simp] theorem rk:El Tryz.prog 22=some 1:=by kernel_rfl
@[simp] theorem rB:El Tryz.prog 23=some 1:=by kernel_rfl
@[simp] theorem qO:El Tryz.prog 25=some 3:=by kernel_rfl
@[simp] theorem qy:I9 Tryz.prog 22=some false:=by kernel_rfl
@[simp] theorem qb:I9 Tryz.prog 23=some false:=by kernel_rfl
@[simp] theorem p6:I9 Tryz.prog 25=some true:=by kernel_rfl
@[simp] theorem lR:CL Tryz.prog 25=some (Value.agg #[Value.int i64 0,Value.slice none 0 0,Value.slice none 0 0]):=by kernel_rfl
@[simp] theorem j8:Ev Tryz.prog 25=some 56:=by kernel_rfl
@[simp] theorem bx:BV Tryz.prog 25 0=some 0:=by kernel_rfl
@[simp] theorem cj:BV Tryz.prog 25 1=some 1:=by kernel_rfl
@[simp] theorem cX:BV Tryz.prog 25 2=some 2:=by kernel_rfl
def BO:CC:=sQ [mO 78 5,fO 79 25 2 2,lO 80 23 79,bN 81 80 23,bB .lss 82 3 78 81 3] [1,2,5,82] (cD 82 (.skip) (.exit 0)) [1,2,5] (.seq (.block 1 (sR [fO 85 25 2 2,lO 86 23 85,mO 87 5,iO 88 23 86 87,lO 89 25 88,aL 6 25 [1],sT 25 6 89] [1,2,5,6] (sQ [lO 90 25 6,mO 91 1,bQ .sub 92 3 91 1 3,cB 93 15 90 92 25 3,oO 94 (.unOp .not 4 (xT 93))] [1,2,5,6,94] (cD 94 (sR [aB 4 false] [4] (.ret)) (.skip)) [1,2,5,6] (sR [fO 95 25 2 0,lO 96 3 95,bQ .geq 97 3 96 2 3,mO 98 97,fG 99 25 2 0 98 true,lG 100 3 99 98 true,oG 101 (.binOp .leq 3 (xT 100) (nI 7) 3) 98 true,pF 102 98 101,aO 7 102] [1,2,5,6,7] (sR [mO 103 7,fO 104 25 6 0,lO 105 3 104,bQ .eql 106 3 105 10 3,bB .neq 107 4 103 106 4,mO 108 107,fG 109 25 2 0 108 false,lG 110 3 109 108 false,oG 111 (.binOp .eql 3 (xT 110) (nI 9) 3) 108 false,mG 112 111 108 false,fG 113 25 6 0 112 true,lG 114 3 113 112 true,oG 115 (.binOp .neq 3 (xT 114) (nI 1) 3) 112 true,oG 116 (.pick (xT 112) (xT 115) (nB false)) 108 false,pT 117 108 116,mO 118 117,mG 119 7 118 false,mG 120 119 118 false,fG 121 25 2 0 120 true,lG 122 3 121 120 true,oG 123 (.binOp .sub 3 (xT 122) (nI 2) 3) 120 true,fG 124 25 6 1 120 true,lG 125 22 124 120 true,oG 126 (.indexAddr 22 (xT 125) (nI 0)) 120 true,lG 127 45 126 120 true,oG 128 (cL 31 #[(xT 123),(xT 127)] #[3,45]) 120 true,oG 129 (.unOp .not 4 (xT 128)) 120 true,oG 130 (.pick (xT 120) (xT 129) (nB false)) 118 false,pT 131 118 130] [1,2,5,131] (cD 131 (sR [aB 4 false] [4] (.ret)) (.skip))))))) (.keep [1,2,5] (.reg [mO 83 5,bQ .add 84 3 83 1 3,aO 5 84] [1,2,5]))) 
def Hx:CC:=sR [bX 2 25 0 [0],aB 4 false] [1,2] (sQ [fO 8 25 2 0,lO 9 3 8,bQ .eql 10 3 9 0 3] [1,2,10] (cD 10 (sR [fO 11 25 2 1,lO 12 22 11,bN 13 12 22,bQ .eql 14 3 13 0 3,mO 15 14,fG 16 25 2 2 15 true,lG 17 23 16 15 true,oG 18 (bL 17 23) 15 true,oG 19 (.binOp .eql 3 (xT 18) (nI 0) 3) 15 true,pF 20 15 19,aO 4 20] [4] (.ret)) (.skip)) [1,2] (sQ [fO 21 25 2 0,lO 22 3 21,bQ .eql 23 3 22 10 3] [1,2,23] (cD 23 (sR [fO 24 25 2 1,lO 25 22 24,bN 26 25 22,bQ .eql 27 3 26 1 3,mO 28 27,fG 29 25 2 2 28 true,lG 30 23 29 28 true,oG 31 (bL 30 23) 28 true,oG 32 (.binOp .eql 3 (xT 31) (nI 0) 3) 28 true,pF 33 28 32,aO 4 33] [4] (.ret)) (.skip)) [1,2] (sQ [fO 34 25 2 0,lO 35 3 34,bQ .lss 36 3 35 0 3,mO 37 36,fG 38 25 2 0 37 false,lG 39 3 38 37 false,oG 40 (.binOp .gtr 3 (xT 39) (nI 10) 3) 37 false,pT 41 37 40,mO 42 41,mG 43 1 42 false,oG 44 (.binOp .eql 3 (xT 43) (nI 0) 3) 42 false,pT 45 42 44,mO 46 45,fG 47 25 2 1 46 false,lG 48 22 47 46 false,oG 49 (bL 48 22) 46 false,oG 50 (.binOp .geq 3 (xT 49) (nI 65536) 3) 46 false,pT 51 46 50,mO 52 51,fG 53 25 2 0 52 false,lG 54 3 53 52 false,oG 55 (.binOp .eql 3 (xT 54) (nI 1) 3) 52 false,mG 56 55 52 false,fG 57 25 2 2 56 true,lG 58 23 57 56 true,oG 59 (bL 58 23) 56 true,oG 60 (.binOp .geq 3 (xT 59) (nI 65536) 3) 56 true,oG 61 (.pick (xT 56) (xT 60) (nB false)) 52 false,pT 62 52 61,mO 63 62,fG 64 25 2 2 63 false,lG 65 23 64 63 false,oG 66 (bL 65 23) 63 false,oG 67 (.binOp .geq 3 (xT 66) (nI 1048576) 3) 63 false,pT 68 63 67] [1,2,68] (cD 68 (sR [aB 4 false] [4] (.ret)) (.skip)) [1,2] (sQ [fO 69 25 2 0,lO 70 3 69,bQ .gtr 71 3 70 1 3,mO 72 71,fG 73 25 2 1 72 true,lG 74 22 73 72 true,oG 75 (bL 74 22) 72 true,oG 76 (.binOp .gtr 3 (xT 75) (nI 0) 3) 72 true,pF 77 72 76] [1,2,77] (cD 77 (sR [aB 4 false] [4] (.ret)) (.skip)) [1,2] (sQ [aI 5 0] [1,2,5] (.block 0 (.loop BO)) [] (sR [aB 4 true] [4] (.ret)))))))
theorem MH:BP Tryz.prog 15 132 [(.tmp 4)] Hx:=AP Tryz.func15
def Cs:CC:=sQ [mO 20 7,fO 21 25 3 2,lO 22 23 21,bN 23 22 23,bB .lss 24 3 20 23 3,mO 25 24,mG 26 2 25 true,oG 27 (.binOp .geq 3 (xT 26) (nI 0) 3) 25 true,pF 28 25 27] [1,2,3,7,28] (cD 28 (.skip) (.exit 0)) [1,2,3,7] (.seq (.block 1 (.reg [fO 31 25 3 2,lO 32 23 31,mO 33 7,iO 34 23 32 33,lO 35 25 34,mO 36 1,bQ .sub 37 3 36 1 3,mO 38 2,cE 39 30 35 37 38 25 3 3,aO 2 39] [1,2,3,7])) (.reg [mO 29 7,bQ .add 30 3 29 1 3,aO 7 30] [1,2,3,7])) 
def GJ:CC:=sR [bX 3 25 0 [0],aI 6 0] [1,2,3] (sR [mO 8 2,bQ .sub 9 3 8 1 3,fO 10 25 3 1,lO 11 22 10,bN 12 11 22,bB .sub 13 3 9 12 3,aO 2 13] [1,2,3] (sQ [mO 14 1,bQ .eql 15 3 14 0 3,mO 16 15,mG 17 2 16 false,oG 18 (.binOp .lss 3 (xT 17) (nI 0) 3) 16 false,pT 19 16 18] [1,2,3,19] (cD 19 (sR [oO 6 (.assign (.const (.int .i64 (-1))))] [6] (.ret)) (.skip)) [1,2,3] (sQ [aI 7 0] [1,2,3,7] (.block 0 (.loop Cs)) [2] (sR [mO 40 2,aO 6 40] [6] (.ret)))))
theorem Ky:BP Tryz.prog 30 41 [(.tmp 6)] GJ:=AP Tryz.func30
def DC:CC:=sQ [mO 28 5,fO 29 25 2 2,lO 30 23 29,bN 31 30 23,bB .lss 32 3 28 31 3] [2,3,5,32] (cD 32 (.skip) (.exit 0)) [2,3,5] (.seq (.block 1 (sR [fO 35 25 2 2,lO 36 23 35,mO 37 5,iO 38 23 36 37,lO 39 25 38,fO 40 25 3 2,lO 41 23 40,mO 42 5,iO 43 23 41 42,lO 44 25 43,cB 45 27 39 44 25 25,oO 46 (.unOp .not 4 (xT 45))] [2,3,5,46] (cD 46 (sR [aB 4 false] [4] (.ret)) (.skip)))) (.keep [2,3,5] (.reg [mO 33 5,bQ .add 34 3 33 1 3,aO 5 34] [2,3,5]))) 
def Iq:CC:=sR [bX 2 25 0 [0],bX 3 25 1 [1],aB 4 false] [2,3] (sQ [fO 6 25 2 0,lO 7 3 6,fO 8 25 3 0,lO 9 3 8,bB .neq 10 3 7 9 3,mO 11 10,fG 12 25 2 1 11 false,lG 13 22 12 11 false,fG 14 25 3 1 11 false,lG 15 22 14 11 false,oG 16 (cL 43 #[(xT 13),(xT 15)] #[22,22]) 11 false,oG 17 (.unOp .not 4 (xT 16)) 11 false,pT 18 11 17,mO 19 18,fG 20 25 2 2 19 false,lG 21 23 20 19 false,oG 22 (bL 21 23) 19 false,fG 23 25 3 2 19 false,lG 24 23 23 19 false,oG 25 (bL 24 23) 19 false,oG 26 (bO .neq 3 22 25 3) 19 false,pT 27 19 26] [2,3,27] (cD 27 (sR [aB 4 false] [4] (.ret)) (.skip)) [2,3] (sQ [aI 5 0] [2,3,5] (.block 0 (.loop DC)) [] (sR [aB 4 true] [4] (.ret))))
theorem MT:BP Tryz.prog 27 47 [(.tmp 4)] Iq:=AP Tryz.func27
@[simp] theorem xK:Tryz.prog.underlying 26=some (.slice 47):=by kernel_rfl
@[simp] theorem xB:Tryz.prog.underlying 27=some (.slice 50):=by kernel_rfl
@[simp] theorem xC:Tryz.prog.underlying 28=some (.slice 53):=by kernel_rfl
@[simp] theorem rm:El Tryz.prog 26=some 1:=by kernel_rfl
@[simp] theorem rI:El Tryz.prog 27=some 1:=by kernel_rfl
@[simp] theorem rn:El Tryz.prog 28=some 1:=by kernel_rfl
@[simp] theorem qT:El Tryz.prog 30=some 11:=by kernel_rfl
@[simp] theorem xL:El Tryz.prog 47=some 4:=by kernel_rfl
@[simp] theorem xY:El Tryz.prog 50=some 12:=by kernel_rfl
@[simp] theorem xN:El Tryz.prog 53=some 14:=by kernel_rfl
@[simp] theorem pj:I9 Tryz.prog 26=some false:=by kernel_rfl
@[simp] theorem qA:I9 Tryz.prog 27=some false:=by kernel_rfl
@[simp] theorem qo:I9 Tryz.prog 28=some false:=by kernel_rfl
@[simp] theorem pX:I9 Tryz.prog 30=some true:=by kernel_rfl
@[simp] theorem wJ:I9 Tryz.prog 47=some true:=by kernel_rfl
@[simp] theorem xq:I9 Tryz.prog 50=some true:=by kernel_rfl
@[simp] theorem xp:I9 Tryz.prog 53=some true:=by kernel_rfl
@[simp] theorem vG:CL Tryz.prog 47=some (Value.agg #[Value.int i64 0,Value.int IntKind.u8 0,Value.int u64 0,Value.int u64 0]):=by kernel_rfl
@[simp] theorem vF:CL Tryz.prog 50=some (Value.agg #[Value.int i64 0,Value.int i64 0,Value.int i64 0,Value.slice none 0 0,Value.slice none 0 0,Value.int i64 0,Value.slice none 0 0,Value.slice none 0 0,Value.slice none 0 0,Value.slice none 0 0,Value.int i64 0,Value.slice none 0 0]):=by kernel_rfl
@[simp] theorem vM:CL Tryz.prog 53=some (Value.agg #[Value.int i64 0,Value.int i64 0,Value.slice none 0 0,Value.int i64 0,Value.int i64 0,Value.slice none 0 0,Value.slice none 0 0,Value.int i64 0,Value.slice none 0 0,Value.slice none 0 0,Value.slice none 0 0,Value.slice none 0 0,Value.int i64 0,Value.slice none 0 0]):=by kernel_rfl
@[simp] theorem uH:Ev Tryz.prog 47=some 32:=by kernel_rfl
@[simp] theorem vh:Ev Tryz.prog 50=some 208:=by kernel_rfl
@[simp] theorem uZ:Ev Tryz.prog 53=some 240:=by kernel_rfl
@[simp] theorem bA:BV Tryz.prog 30 0=some 0:=by kernel_rfl
@[simp] theorem dj:BV Tryz.prog 30 1=some 1:=by kernel_rfl
@[simp] theorem cJ:BV Tryz.prog 30 2=some 4:=by kernel_rfl
@[simp] theorem bK:BV Tryz.prog 30 3=some 7:=by kernel_rfl
@[simp] theorem ai:BV Tryz.prog 30 4=some 8:=by kernel_rfl
@[simp] theorem bI:BV Tryz.prog 30 5=some 9:=by kernel_rfl
@[simp] theorem Z0:BV Tryz.prog 30 6=some 10:=by kernel_rfl
@[simp] theorem cG:BV Tryz.prog 47 0=some 0:=by kernel_rfl
@[simp] theorem sO:BV Tryz.prog 47 1=some 1:=by kernel_rfl
@[simp] theorem gC:BV Tryz.prog 47 2=some 2:=by kernel_rfl
@[simp] theorem cP:BV Tryz.prog 47 3=some 3:=by kernel_rfl
@[simp] theorem sM:BV Tryz.prog 50 0=some 0:=by kernel_rfl
@[simp] theorem oq:BV Tryz.prog 50 1=some 1:=by kernel_rfl
@[simp] theorem sN:BV Tryz.prog 53 0=some 0:=by kernel_rfl
@[simp] theorem su:BV Tryz.prog 53 1=some 1:=by kernel_rfl
@[simp] theorem sH:BV Tryz.prog 53 2=some 2:=by kernel_rfl
@[simp] theorem sL:BV Tryz.prog 53 3=some 3:=by kernel_rfl
@[simp] theorem ky (ps:List (Nat × A)):JV Tryz.prog 25 ps=(H7 (fun i=>([(0,1),(1,1),(2,1)]:List (Nat × Nat))[i]?) [A.v (Value.int i64 0),A.sl true [],A.sl true []] ps).map A.agg:=by kernel_rfl
def Ij:CC:=sR [bX 1 25 0 [0],aB 2 false] [1] (sR [fO 3 25 1 0,lO 4 3 3,bQ .eql 5 3 4 0 3,mO 6 5,fG 7 25 1 1 6 true,lG 8 22 7 6 true,oG 9 (bL 8 22) 6 true,fG 10 25 1 2 6 true,lG 11 23 10 6 true,oG 12 (bL 11 23) 6 true,oG 13 (bO .add 3 9 12 3) 6 true,oG 14 (.binOp .eql 3 (xT 13) (nI 0) 3) 6 true,pF 15 6 14,aO 2 15] [2] (.ret))
theorem NN:BP Tryz.prog 14 16 [(.tmp 2)] Ij:=AP Tryz.func14
def G7:CC:=sR [aB 4 false] [0,1] (sR [mO 5 0,mO 6 1,oO 7 (cL 32 #[(xT 5),(.const (.int .u64 0)),(xT 6)] #[45,45,5]),oO 8 (.binOp .eql 45 (xT 7) (.const (.int .u64 0)) 45),aO 4 8] [4] (.ret))
theorem LC:BP Tryz.prog 16 9 [(.tmp 4)] G7:=AP Tryz.func16
def H8:CC:=sR [bX 1 30 0 [0],aB 2 false] [1] (sR [fO 3 30 1 0,lO 4 3 3,bQ .eql 5 3 4 0 3,mO 6 5,fG 7 30 1 1 6 true,lG 8 25 7 6 true,oG 9 (cL 14 #[(xT 8)] #[25]) 6 true,pF 10 6 9,mO 11 10,fG 12 30 1 2 11 true,lG 13 25 12 11 true,oG 14 (cL 14 #[(xT 13)] #[25]) 11 true,pF 15 11 14,mO 16 15,fG 17 30 1 3 16 true,lG 18 26 17 16 true,oG 19 (bL 18 26) 16 true,fG 20 30 1 4 16 true,lG 21 27 20 16 true,oG 22 (bL 21 27) 16 true,oG 23 (bO .add 3 19 22 3) 16 true,fG 24 30 1 6 16 true,lG 25 28 24 16 true,oG 26 (bL 25 28) 16 true,oG 27 (bO .add 3 23 26 3) 16 true,oG 28 (.binOp .eql 3 (xT 27) (nI 0) 3) 16 true,pF 29 16 28,mO 30 29,fG 31 30 1 5 30 true,lG 32 3 31 30 true,oG 33 (.binOp .eql 3 (xT 32) (nI 0) 3) 30 true,pF 34 30 33,aO 2 34] [2] (.ret))
theorem Nw:BP Tryz.prog 33 35 [(.tmp 2)] H8:=AP Tryz.func33
def EC:CC:=sQ [mO 46 7,fO 47 53 4 2,lO 48 23 47,bN 49 48 23,bB .lss 50 3 46 49 3] [0,4,7,50] (cD 50 (.skip) (.exit 0)) [0,4,7] (.seq (.block 1 (sR [mO 53 0,fO 54 53 4 2,lO 55 23 54,mO 56 7,mO 57 7,bQ .add 58 3 57 1 3,oO 59 (.slice 23 (xT 55) (some (xT 56)) (some (xT 58)) none),oO 60 (.build 25 #[(0,(xT 53)),(2,(xT 59))]),oO 61 (cL 15 #[(xT 60),(nI 64)] #[25,3]),oO 62 (.unOp .not 4 (xT 61))] [0,4,7,62] (cD 62 (sR [aB 6 false] [6] (.ret)) (.skip)))) (.keep [0,4,7] (.reg [mO 51 7,bQ .add 52 3 51 1 3,aO 7 52] [0,4,7]))) 
def J8:CC:=sR [bX 4 53 1 [0],aB 6 false] [0,2,4] (sQ [fO 8 53 4 0,lO 9 3 8,bQ .eql 10 3 9 0 3] [0,2,4,10] (cD 10 (sR [fO 11 53 4 1,lO 12 3 11,bQ .geq 13 3 12 1 3,mO 14 13,fG 15 53 4 1 14 true,lG 16 3 15 14 true,oG 17 (.binOp .leq 3 (xT 16) (nI 1048576) 3) 14 true,pF 18 14 17,mO 19 18,fG 20 53 4 2 19 true,lG 21 23 20 19 true,oG 22 (bL 21 23) 19 true,oG 23 (.binOp .eql 3 (xT 22) (nI 0) 3) 19 true,pF 24 19 23,mO 25 24,fG 26 53 4 3 25 true,lG 27 30 26 25 true,oG 28 (cL 33 #[(xT 27)] #[30]) 25 true,pF 29 25 28,aO 6 29] [6] (.ret)) (.skip)) [0,2,4] (sQ [fO 30 53 4 1,lO 31 3 30,bQ .neq 32 3 31 0 3,mO 33 32,fG 34 53 4 0 33 false,lG 35 3 34 33 false,oG 36 (.binOp .lss 3 (xT 35) (nI 0) 3) 33 false,pT 37 33 36,mO 38 37,fG 39 53 4 0 38 false,lG 40 3 39 38 false,oG 41 (.binOp .gtr 3 (xT 40) (nI 3) 3) 38 false,pT 42 38 41] [0,2,4,42] (cD 42 (sR [aB 6 false] [6] (.ret)) (.skip)) [0,2,4] (sQ [fO 43 53 4 0,lO 44 3 43,bQ .lss 45 3 44 3 3] [0,2,4,45] (cD 45 (sQ [aI 7 0] [0,4,7] (.block 0 (.loop EC)) [4] (sR [fO 63 53 4 2,lO 64 23 63,bN 65 64 23,bQ .gtr 66 3 65 0 3,mO 67 66,fG 68 53 4 3 67 true,lG 69 30 68 67 true,oG 70 (cL 33 #[(xT 69)] #[30]) 67 true,pF 71 67 70,aO 6 71] [6] (.ret))) (.skip)) [0,2,4] (sQ [fO 72 53 4 2,lO 73 23 72,bN 74 73 23,bQ .gtr 75 3 74 0 3,mO 76 75,fG 77 53 4 3 76 false,fG 78 30 77 0 76 false,lG 79 3 78 76 false,oG 80 (.binOp .eql 3 (xT 79) (nI 0) 3) 76 false,pT 81 76 80,mO 82 81,mG 83 0 82 false,oG 84 (.binOp .leq 3 (xT 83) (nI 7) 3) 82 false,pT 85 82 84,mO 86 85,fG 87 53 4 3 86 false,lG 88 30 87 86 false,mG 89 2 86 false,oG 90 (cL 6 #[(xT 88),(xT 89)] #[30,3]) 86 false,oG 91 (.unOp .not 4 (xT 90)) 86 false,pT 92 86 91] [0,4,92] (cD 92 (sR [aB 6 false] [6] (.ret)) (.skip)) [0,4] (sR [mO 93 0,bQ .eql 94 3 93 8 3,mO 95 94,fG 96 53 4 3 95 false,fG 97 30 96 0 95 false,lG 98 3 97 95 false,oG 99 (.binOp .eql 3 (xT 98) (nI 2) 3) 95 false,pT 100 95 99,mO 101 100,fG 102 53 4 3 101 false,fG 103 30 102 0 101 false,lG 104 3 103 101 false,oG 105 (.binOp .eql 3 (xT 104) (nI 1) 3) 101 false,mG 106 105 101 false,fG 107 53 4 3 106 true,fG 108 30 107 1 106 true,fG 109 25 108 0 106 true,lG 110 3 109 106 true,oG 111 (.binOp .eql 3 (xT 110) (nI 1) 3) 106 true,oG 112 (.pick (xT 106) (xT 111) (nB false)) 101 false,mG 113 112 101 false,fG 114 53 4 3 113 true,fG 115 30 114 2 113 true,fG 116 25 115 0 113 true,lG 117 3 116 113 true,oG 118 (.binOp .eql 3 (xT 117) (nI 1) 3) 113 true,oG 119 (.pick (xT 113) (xT 118) (nB false)) 101 false,pT 120 101 119,aO 6 120] [6] (.ret))))))
theorem PR:BP Tryz.prog 17 121 [(.tmp 6)] J8:=AP Tryz.func17
def CV:CC:=sQ [mO 93 6,fO 94 30 2 3,lO 95 26 94,bN 96 95 26,bB .lss 97 3 93 96 3] [1,2,5,6,97] (cD 97 (.skip) (.exit 0)) [1,2,5,6] (.seq (.block 1 (sR [fO 100 30 2 3,lO 101 26 100,mO 102 6,iO 103 26 101 102,lO 104 47 103,aL 7 47 [1],sT 47 7 104] [1,2,5,6,7] (sQ [fO 105 47 7 0,lO 106 3 105,mO 107 5,bB .leq 108 3 106 107 3,mO 109 108,fG 110 47 7 0 109 false,lG 111 3 110 109 false,oG 112 (.binOp .gtr 3 (xT 111) (nI 65534) 3) 109 false,pT 113 109 112,mO 114 113,fG 115 47 7 1 114 false,lG 116 5 115 114 false,oG 117 (.binOp .eql 5 (xT 116) (.const (.int .u8 0)) 5) 114 false,pT 118 114 117,mO 119 118,fG 120 47 7 2 119 false,lG 121 45 120 119 false,fG 122 47 7 1 119 false,lG 123 5 122 119 false,oG 124 (cL 16 #[(xT 121),(xT 123)] #[45,5]) 119 false,oG 125 (.unOp .not 4 (xT 124)) 119 false,pT 126 119 125,mO 127 126,fG 128 47 7 3 127 false,lG 129 45 128 127 false,fG 130 47 7 1 127 false,lG 131 5 130 127 false,oG 132 (cL 16 #[(xT 129),(xT 131)] #[45,5]) 127 false,oG 133 (.unOp .not 4 (xT 132)) 127 false,pT 134 127 133] [1,2,6,7,134] (cD 134 (sR [aB 4 false] [4] (.ret)) (.skip)) [1,2,6,7] (.reg [fO 135 47 7 0,lO 136 3 135,aO 5 136] [1,2,5,6])))) (.keep [1,2,5,6] (.reg [mO 98 6,bQ .add 99 3 98 1 3,aO 6 99] [1,2,5,6])))
def CS:CC:=sQ [mO 137 8,fO 138 30 2 4,lO 139 27 138,bN 140 139 27,bB .lss 141 3 137 140 3] [1,2,5,8,141] (cD 141 (.skip) (.exit 2)) [1,2,5,8] (.seq (.block 3 (sR [fO 144 30 2 4,lO 145 27 144,mO 146 8,iO 147 27 145 146,lO 148 50 147,aL 9 50 [2],sT 50 9 148] [1,2,5,8,9] (sQ [fO 149 50 9 0,lO 150 3 149,mO 151 5,bB .leq 152 3 150 151 3,mO 153 152,fG 154 50 9 0 153 false,lG 155 3 154 153 false,oG 156 (.binOp .gtr 3 (xT 155) (nI 65534) 3) 153 false,pT 157 153 156,mO 158 157,fG 159 50 9 1 158 false,fG 160 30 159 0 158 false,lG 161 3 160 158 false,oG 162 (.binOp .eql 3 (xT 161) (nI 0) 3) 158 false,pT 163 158 162,mO 164 163,fG 165 50 9 1 164 false,lG 166 30 165 164 false,mG 167 1 164 false,oG 168 (.binOp .sub 3 (xT 167) (nI 1) 3) 164 false,oG 169 (cL 6 #[(xT 166),(xT 168)] #[30,3]) 164 false,oG 170 (.unOp .not 4 (xT 169)) 164 false,pT 171 164 170] [1,2,8,9,171] (cD 171 (sR [aB 4 false] [4] (.ret)) (.skip)) [1,2,8,9] (.reg [fO 172 50 9 0,lO 173 3 172,aO 5 173] [1,2,5,8])))) (.keep [1,2,5,8] (.reg [mO 142 8,bQ .add 143 3 142 1 3,aO 8 143] [1,2,5,8])))
def CU:CC:=sQ [mO 187 10,fO 188 30 2 6,lO 189 28 188,bN 190 189 28,bB .lss 191 3 187 190 3] [1,2,10,191] (cD 191 (.skip) (.exit 4)) [1,2,10] (.seq (.block 5 (sR [fO 194 30 2 5,lO 195 3 194,fO 196 30 2 6,lO 197 28 196,mO 198 10,iO 199 28 197 198,lO 200 53 199,mO 201 1,bQ .sub 202 3 201 1 3,cE 203 17 195 200 202 3 53 3,oO 204 (.unOp .not 4 (xT 203))] [1,2,10,204] (cD 204 (sR [aB 4 false] [4] (.ret)) (.skip)))) (.keep [1,2,10] (.reg [mO 192 10,bQ .add 193 3 192 1 3,aO 10 193] [1,2,10]))) 
def HP:CC:=sR [bX 2 30 0 [0],aB 4 false] [1,2] (sQ [mO 13 1,bQ .eql 14 3 13 0 3,mO 15 14,fG 16 30 2 0 15 false,lG 17 3 16 15 false,oG 18 (.binOp .lss 3 (xT 17) (nI 0) 3) 15 false,pT 19 15 18,mO 20 19,fG 21 30 2 0 20 false,lG 22 3 21 20 false,oG 23 (.binOp .gtr 3 (xT 22) (nI 3) 3) 20 false,pT 24 20 23] [1,2,24] (cD 24 (sR [aB 4 false] [4] (.ret)) (.skip)) [1,2] (sQ [fO 25 30 2 0,lO 26 3 25,bQ .neq 27 3 26 1 3,mO 28 27,fG 29 30 2 1 28 true,lG 30 25 29 28 true,oG 31 (cL 14 #[(xT 30)] #[25]) 28 true,mG 32 31 28 true,fG 33 30 2 2 32 true,lG 34 25 33 32 true,oG 35 (cL 14 #[(xT 34)] #[25]) 32 true,oG 36 (.pick (xT 32) (xT 35) (nB false)) 28 true,oG 37 (.unOp .not 4 (xT 36)) 28 true,pF 38 28 37,mO 39 38,fG 40 30 2 0 39 false,lG 41 3 40 39 false,oG 42 (.binOp .neq 3 (xT 41) (nI 2) 3) 39 false,mG 43 42 39 false,fG 44 30 2 3 43 true,lG 45 26 44 43 true,oG 46 (bL 45 26) 43 true,fG 47 30 2 4 43 true,lG 48 27 47 43 true,oG 49 (bL 48 27) 43 true,oG 50 (bO .add 3 46 49 3) 43 true,oG 51 (.binOp .gtr 3 (xT 50) (nI 0) 3) 43 true,oG 52 (.pick (xT 43) (xT 51) (nB false)) 39 false,pT 53 39 52,mO 54 53,fG 55 30 2 0 54 false,lG 56 3 55 54 false,oG 57 (.binOp .neq 3 (xT 56) (nI 3) 3) 54 false,mG 58 57 54 false,fG 59 30 2 5 58 true,lG 60 3 59 58 true,oG 61 (.binOp .neq 3 (xT 60) (nI 0) 3) 58 true,mG 62 61 58 true,fG 63 30 2 6 62 false,lG 64 28 63 62 false,oG 65 (bL 64 28) 62 false,oG 66 (.binOp .gtr 3 (xT 65) (nI 0) 3) 62 false,oG 67 (.pick (xT 62) (nB true) (xT 66)) 58 true,oG 68 (.pick (xT 58) (xT 67) (nB false)) 54 false,pT 69 54 68] [1,2,69] (cD 69 (sR [aB 4 false] [4] (.ret)) (.skip)) [1,2] (sQ [fO 70 30 2 0,lO 71 3 70,bQ .eql 72 3 71 1 3] [1,2,72] (cD 72 (sR [fO 73 30 2 1,lO 74 25 73,oO 75 (cL 15 #[(xT 74),(nI 64)] #[25,3]),mO 76 75,fG 77 30 2 2 76 true,lG 78 25 77 76 true,oG 79 (cL 15 #[(xT 78),(nI 64)] #[25,3]) 76 true,pF 80 76 79,mO 81 80,fG 82 30 2 1 81 true,fG 83 25 82 0 81 true,lG 84 3 83 81 true,oG 85 (.binOp .neq 3 (xT 84) (nI 10) 3) 81 true,pF 86 81 85,mO 87 86,fG 88 30 2 2 87 true,fG 89 25 88 0 87 true,lG 90 3 89 87 true,oG 91 (.binOp .neq 3 (xT 90) (nI 10) 3) 87 true,pF 92 87 91,aO 4 92] [4] (.ret)) (.skip)) [1,2] (sR [oO 5 (.assign (.const (.int .i64 (-1))))] [1,2,5] (sQ [aI 6 0] [1,2,5,6] (.block 0 (.loop CV)) [1,2] (sR [oO 5 (.assign (.const (.int .i64 (-1))))] [1,2,5] (sQ [aI 8 0] [1,2,5,8] (.block 2 (.loop CS)) [1,2] (sQ [fO 174 30 2 0,lO 175 3 174,bQ .eql 176 3 175 3 3,mO 177 176,fG 178 30 2 5 177 true,lG 179 3 178 177 true,oG 180 (.binOp .lss 3 (xT 179) (nI 2) 3) 177 true,mG 181 180 177 true,fG 182 30 2 5 181 false,lG 183 3 182 181 false,oG 184 (.binOp .gtr 3 (xT 183) (nI 9) 3) 181 false,oG 185 (.pick (xT 181) (nB true) (xT 184)) 177 true,pF 186 177 185] [1,2,186] (cD 186 (sR [aB 4 false] [4] (.ret)) (.skip)) [1,2] (sQ [aI 10 0] [1,2,10] (.block 4 (.loop CU)) [2] (sR [lO 206 30 2,cA 207 18 206 30,mO 205 207,xO 208 205 0,xO 209 205 1,aO 11 208,aO 12 209] [11,12] (sR [mO 210 11,bQ .lss 211 3 210 1048576 3,mO 212 211,mG 213 12 212 true,oG 214 (.binOp .lss 3 (xT 213) (nI 1048576) 3) 212 true,pF 215 212 214,aO 4 215] [4] (.ret))))))))))))
theorem My:BP Tryz.prog 6 216 [(.tmp 4)] HP:=AP Tryz.func6
def D4:CC:=sQ [mO 42 4,bQ .gtr 43 3 42 1048576 3] [1,4,5,6,43] (cD 43 (.reg [aI 4 1048576] [1,4,5,6]) (.skip)) [1,4,5,6] (sR [mO 44 5,bQ .gtr 45 3 44 1048576 3] [1,4,5,6,45] (cD 45 (.reg [aI 5 1048576] [1,4,5,6]) (.skip)))
def Cq:CC:=sQ [fO 36 53 7 0,lO 37 3 36,bQ .neq 38 3 37 1 3] [1,4,5,6,8,38] (cD 38 (.reg [mO 39 5,mO 40 8,bB .add 41 3 39 40 3,aO 5 41] [1,4,5,6]) (.skip)) [1,4,5,6] D4
def D9:CC:=sQ [fO 30 53 7 0,lO 31 3 30,bQ .neq 32 3 31 2 3] [1,4,5,6,7,8,32] (cD 32 (.reg [mO 33 4,mO 34 8,bB .add 35 3 33 34 3,aO 4 35] [1,4,5,6,7,8]) (.skip)) [1,4,5,6,7,8] Cq
def BS:CC:=sQ [mO 9 6,fO 10 30 1 6,lO 11 28 10,bN 12 11 28,bB .lss 13 3 9 12 3] [1,4,5,6,13] (cD 13 (.skip) (.exit 0)) [1,4,5,6] (.seq (.block 1 (sR [fO 16 30 1 6,lO 17 28 16,mO 18 6,iO 19 28 17 18,lO 20 53 19,aL 7 53 [1],sT 53 7 20] [1,4,5,6,7] (sR [fO 21 53 7 1,lO 22 3 21,fO 23 53 7 2,lO 24 23 23,bN 25 24 23,bB .add 26 3 22 25 3,aO 8 26] [1,4,5,6,7,8] (sQ [fO 27 53 7 0,lO 28 3 27,bQ .eql 29 3 28 3 3] [1,4,5,6,7,8,29] (cD 29 (.reg [aI 8 1] [1,4,5,6,7,8]) (.skip)) [1,4,5,6,7,8] D9)))) (.keep [1,4,5,6] (.reg [mO 14 6,bQ .add 15 3 14 1 3,aO 6 15] [1,4,5,6]))) 
def GG:CC:=sR [bX 1 30 0 [0],aI 2 0,aI 3 0] [1] (sR [aI 4 0,aI 5 0] [1,4,5] (sQ [aI 6 0] [1,4,5,6] (.block 0 (.loop BS)) [4,5] (sR [mO 46 4,mO 47 5,aO 2 46,aO 3 47] [2,3] (.ret))))
theorem KO:BP Tryz.prog 18 48 [(.tmp 2),(.tmp 3)] GG:=AP Tryz.func18
def DI:CC:=sQ [mO 36 7,fO 37 30 3 4,lO 38 27 37,bN 39 38 27,bB .lss 40 3 36 39 3,mO 41 40,mG 42 2 41 true,oG 43 (.binOp .geq 3 (xT 42) (nI 0) 3) 41 true,pF 44 41 43] [1,2,3,7,44] (cD 44 (.skip) (.exit 0)) [1,2,3,7] (.seq (.block 1 (.reg [fO 47 30 3 4,lO 48 27 47,mO 49 7,iO 50 27 48 49,fO 51 50 50 1,lO 52 30 51,mO 53 1,bQ .sub 54 3 53 1 3,mO 55 2,cE 56 13 52 54 55 30 3 3,aO 2 56] [1,2,3,7])) (.reg [mO 45 7,bQ .add 46 3 45 1 3,aO 7 46] [1,2,3,7]))
def DM:CC:=sQ [mO 68 9,fO 69 30 3 6,lO 70 28 69,mO 71 8,iO 72 28 70 71,fO 73 53 72 2,lO 74 23 73,bN 75 74 23,bB .lss 76 3 68 75 3,mO 77 76,mG 78 2 77 true,oG 79 (.binOp .geq 3 (xT 78) (nI 0) 3) 77 true,pF 80 77 79] [1,2,3,8,9,80] (cD 80 (.skip) (.exit 4)) [1,2,3,8,9] (.seq (.block 5 (.reg [fO 83 30 3 6,lO 84 28 83,mO 85 8,iO 86 28 84 85,fO 87 53 86 2,lO 88 23 87,mO 89 9,iO 90 23 88 89,lO 91 25 90,mO 92 2,oO 93 (cL 30 #[(xT 91),(nI 80),(xT 92)] #[25,3,3]),aO 2 93] [1,2,3,8,9])) (.reg [mO 81 9,bQ .add 82 3 81 1 3,aO 9 82] [1,2,3,8,9]))
def DP:CC:=sQ [mO 57 8,fO 58 30 3 6,lO 59 28 58,bN 60 59 28,bB .lss 61 3 57 60 3,mO 62 61,mG 63 2 62 true,oG 64 (.binOp .geq 3 (xT 63) (nI 0) 3) 62 true,pF 65 62 64] [1,2,3,8,65] (cD 65 (.skip) (.exit 2)) [1,2,3,8] (.seq (.block 3 (sQ [aI 9 0] [1,2,3,8,9] (.block 4 (.loop DM)) [1,2,3,8] (sR [mO 94 2,bQ .geq 95 3 94 0 3] [1,2,3,8,95] (cD 95 (.reg [fO 96 30 3 6,lO 97 28 96,mO 98 8,iO 99 28 97 98,fO 100 53 99 3,lO 101 30 100,mO 102 1,bQ .sub 103 3 102 1 3,mO 104 2,cE 105 13 101 103 104 30 3 3,aO 2 105] [1,2,3,8]) (.skip))))) (.keep [1,2,3,8] (.reg [mO 66 8,bQ .add 67 3 66 1 3,aO 8 67] [1,2,3,8])))
def Fj:CC:=sQ [aI 7 0] [1,2,3,7] (.block 0 (.loop DI)) [1,2,3] (sQ [aI 8 0] [1,2,3,8] (.block 2 (.loop DP)) [2] (sR [mO 106 2,aO 6 106] [6] (.ret))) 
def H6:CC:=sR [bX 3 30 0 [0],aI 6 0] [1,2,3] (sR [mO 10 2,bQ .sub 11 3 10 1 3,fO 12 30 3 3,lO 13 26 12,bN 14 13 26,bB .sub 15 3 11 14 3,fO 16 30 3 6,lO 17 28 16,bN 18 17 28,bB .sub 19 3 15 18 3,aO 2 19] [1,2,3] (sQ [mO 20 1,bQ .eql 21 3 20 0 3,mO 22 21,mG 23 2 22 false,oG 24 (.binOp .lss 3 (xT 23) (nI 0) 3) 22 false,pT 25 22 24] [1,2,3,25] (cD 25 (sR [oO 6 (.assign (.const (.int .i64 (-1))))] [6] (.ret)) (.skip)) [1,2,3] (sR [fO 26 30 3 1,lO 27 25 26,mO 28 2,oO 29 (cL 30 #[(xT 27),(nI 80),(xT 28)] #[25,3,3]),aO 2 29] [1,2,3] (sQ [mO 30 2,bQ .geq 31 3 30 0 3] [1,2,3,31] (cD 31 (.reg [fO 32 30 3 2,lO 33 25 32,mO 34 2,oO 35 (cL 30 #[(xT 33),(nI 80),(xT 34)] #[25,3,3]),aO 2 35] [1,2,3]) (.skip)) [1,2,3] Fj))))
theorem Nr:BP Tryz.prog 13 107 [(.tmp 6)] H6:=AP Tryz.func13
def Jn:CC:=sR [bX 1 30 0 [0],aB 2 false] [1] (sR [lO 3 30 1,oO 4 (cL 13 #[(xT 3),(nI 80),(nI 3000)] #[30,3,3]),bQ .geq 5 3 4 0 3,aO 2 5] [2] (.ret))
theorem Oj:BP Tryz.prog 5 6 [(.tmp 2)] Jn:=AP Tryz.func5
def Hg:CC:=sR [bQ .lss 6 3 5 8 3] [0,3,5,6] (.seq (cD 6 (.skip) (.exit 0)) (.keep [0,3,5] (.seq (.block 1 (sR [mO 7 5,aO 4 7] [0,3,4,5] (sR [mO 8 0,mO 9 4,bB .shr 10 5 8 9 3,oO 11 (.binOp .and 5 (xT 10) (.const (.int .u8 1)) 5),oO 12 (.binOp .eql 5 (xT 11) (.const (.int .u8 1)) 5)] [0,3,4,5,12] (cD 12 (.reg [mO 13 3,mO 14 4,oO 15 (.binOp .mul 3 (nI 8) (xT 14) 3),oO 16 (.binOp .shl 45 (.const (.int .u64 255)) (xT 15) 3),bB .or 17 45 13 16 45,aO 3 17] [0,3,5]) (.skip))))) (.keep [0,3,5] (.reg [bQ .add 18 3 5 1 3,mO 5 18] [0,3,5]))))) 
def PF:CC:=sR [oO 2 (.assign (.const (.int .u64 0)))] [0] (sR [oO 3 (.assign (.const (.int .u64 0)))] [0,3] (sQ [oO 5 (.move (nI 0))] [0,3,5] (.block 0 (.loop Hg)) [3] (sR [mO 19 3,aO 2 19] [2] (.ret))))
theorem VR:BP Tryz.prog 104 20 [(.tmp 2)] PF:=AP Tryz.func104
def QL:CC:=sR [oO 6 (.assign (.const (.int .u64 0)))] [0,1,2] (sR [mO 7 0,mO 8 2,cA 9 104 8 5,bB .andNot 10 45 7 9 45,mO 11 1,mO 12 2,cA 13 104 12 5,bB .and 14 45 11 13 45,bB .or 15 45 10 14 45,aO 6 15] [6] (.ret))
theorem Xk:BP Tryz.prog 88 16 [(.tmp 6)] QL:=AP Tryz.func88
@[simp] theorem xr (x0 y0:Int) (x1 y1:Int) (x2 y2:Int) (x3 y3:Int):St Tryz.prog 100 47 (.agg [A.v (.int .i64 x0),A.v (.int .u8 x1),A.v (.int .u64 x2),A.v (.int .u64 x3)]) (.agg [A.v (.int .i64 y0),A.v (.int .u8 y1),A.v (.int .u64 y2),A.v (.int .u64 y3)])=some (((x0 == y0)&&((x1 == y1)&&((x2 == y2)&&((x3 == y3)&&(true)))))):=by kernel_rfl
@[simp] theorem xv:Tryz.prog.eqGuardType Tryz.prog.depth 47=false:=by kernel_rfl
def Pe:CC:=sR [aB 4 false] [0,1] (sR [mO 8 0,cA 9 136 8 3,mO 7 9,xO 10 7 0,xO 11 7 1,aO 5 10,aO 6 11] [1,5,6] (sR [mO 12 6,mO 13 12,mG 14 5 13 true,oG 15 (.binOp .eql 3 (xT 14) (nI 64) 3) 13 true,mG 16 15 13 true,mG 17 1 16 false,mG 18 5 16 false,oG 19 (bO .shr 45 17 18 3) 16 false,oG 20 (.binOp .eql 45 (xT 19) (.const (.int .u64 0)) 45) 16 false,oG 21 (.pick (xT 16) (nB true) (xT 20)) 13 true,pF 22 13 21,aO 4 22] [4] (.ret)))
theorem Vd:BP Tryz.prog 131 23 [(.tmp 4)] Pe:=AP Tryz.func131
def OW:CC:=sR [aB 2 false] [0] (sR [mO 3 0,bQ .geq 4 3 3 2 3,mO 5 4,mG 6 0 5 true,oG 7 (.binOp .leq 3 (xT 6) (nI 9) 3) 5 true,pF 8 5 7,aO 2 8] [2] (.ret))
theorem Vk:BP Tryz.prog 56 9 [(.tmp 2)] OW:=AP Tryz.func56
def QY:CC:=sR [bX 3 25 1 [0],aB 4 false] [0,3] (.seq (.block 0 (sR [mO 6 0,cA 7 121 6 3,aO 5 7] [0,3,5] (cD 5 (sR [fO 8 25 3 0,lO 9 3 8,bQ .eql 10 3 9 10 3,mO 11 10,fG 12 25 3 2 11 true,lG 13 23 12 11 true,oG 14 (bL 13 23) 11 true,oG 15 (.binOp .eql 3 (xT 14) (nI 0) 3) 11 true,pF 16 11 15,mO 17 16,fG 18 25 3 1 17 true,lG 19 22 18 17 true,oG 20 (bL 19 22) 17 true,oG 21 (.binOp .eql 3 (xT 20) (nI 1) 3) 17 true,pF 22 17 21,mO 23 22,mG 24 0 23 true,oG 25 (.binOp .sub 3 (xT 24) (nI 2) 3) 23 true,fG 26 25 3 1 23 true,lG 27 22 26 23 true,oG 28 (.indexAddr 22 (xT 27) (nI 0)) 23 true,lG 29 45 28 23 true,oG 30 (cL 131 #[(xT 25),(xT 29)] #[3,45]) 23 true,pF 31 23 30,aO 4 31] [4] (.ret)) (sR [mO 33 0,bQ .eql 34 3 33 9 3,aO 32 34] [3,32] (cD 32 (sR [fO 35 25 3 0,lO 36 3 35,bQ .eql 37 3 36 1 3,aO 4 37] [4] (.ret)) (.skip)))))) (.keep [3] (sR [fO 38 25 3 0,lO 39 3 38,bQ .neq 40 3 39 10 3,aO 4 40] [4] (.ret))))
theorem WC:BP Tryz.prog 119 41 [(.tmp 4)] QY:=AP Tryz.func119
def Iy:CC:=sR [mO 87 7,oO 88 (.unOp .not 4 (xT 87)),mO 89 88,lG 90 25 6 89 false,mG 91 1 89 false,oG 92 (.binOp .sub 3 (xT 91) (nI 1) 3) 89 false,oG 93 (cL 103 #[(xT 90),(xT 92)] #[25,3]) 89 false,oG 94 (.unOp .not 4 (xT 93)) 89 false,pT 95 89 94] [1,2,71,72,73,95] (cD 95 (sR [aB 4 false] [4] (.ret)) (.skip))
def GA:CC:=sR [bB .lss 74 3 73 72 3] [1,2,71,72,73,74] (.seq (cD 74 (.skip) (.exit 1)) (.keep [1,2,71,72,73] (.seq (.block 2 (sR [iO 75 23 71 73,lO 76 25 75,aL 6 25 [1],sT 25 6 76] [1,2,6,71,72,73] (sR [fO 77 25 6 0,lO 78 3 77,bQ .neq 79 3 78 10 3,aO 7 79] [1,2,6,7,71,72,73] (sQ [fO 80 25 2 0,lO 81 3 80,bQ .neq 82 3 81 1 3] [1,2,6,7,71,72,73,82] (cD 82 (.reg [fO 83 25 2 0,lO 84 3 83,lO 85 25 6,cB 86 119 84 85 3 25,aO 7 86] [1,2,6,7,71,72,73]) (.skip)) [1,2,6,7,71,72,73] Iy)))) (.keep [1,2,71,72,73] (.reg [bQ .add 96 3 73 1 3,mO 73 96] [1,2,71,72,73])))))
def IB:CC:=sQ [fO 70 25 2 2,lO 71 23 70,bN 72 71 23,oO 73 (.move (nI 0))] [1,2,71,72,73] (.block 1 (.loop GA)) [] (sR [aB 4 true] [4] (.ret)) 
def MS:CC:=sR [bX 2 25 0 [0],aB 4 false] [1,2] (.seq (.block 0 (sR [fO 9 25 2 0,lO 10 3 9,bQ .eql 11 3 10 0 3,aO 8 11] [1,2,8] (cD 8 (sR [fO 12 25 2 1,lO 13 22 12,bN 14 13 22,bQ .eql 15 3 14 0 3,mO 16 15,fG 17 25 2 2 16 true,lG 18 23 17 16 true,oG 19 (bL 18 23) 16 true,oG 20 (.binOp .eql 3 (xT 19) (nI 0) 3) 16 true,pF 21 16 20,aO 4 21] [4] (.ret)) (sR [fO 23 25 2 0,lO 24 3 23,bQ .eql 25 3 24 10 3,aO 22 25] [1,2,22] (cD 22 (sR [fO 26 25 2 1,lO 27 22 26,bN 28 27 22,bQ .eql 29 3 28 1 3,mO 30 29,fG 31 25 2 2 30 true,lG 32 23 31 30 true,oG 33 (bL 32 23) 30 true,oG 34 (.binOp .eql 3 (xT 33) (nI 0) 3) 30 true,pF 35 30 34,aO 4 35] [4] (.ret)) (sR [mO 37 1,bQ .eql 38 3 37 0 3,aO 36 38] [1,2,36] (cD 36 (sR [aB 4 false] [4] (.ret)) (sR [fO 40 25 2 0,lO 41 3 40,bQ .eql 42 3 41 1 3,aO 39 42] [1,2,39] (cD 39 (sR [fO 43 25 2 1,lO 44 22 43,bN 45 44 22,bQ .geq 46 3 45 65536 3,mO 47 46,fG 48 25 2 2 47 false,lG 49 23 48 47 false,oG 50 (bL 49 23) 47 false,oG 51 (.binOp .geq 3 (xT 50) (nI 65536) 3) 47 false,pT 52 47 51] [1,2,52] (cD 52 (sR [aB 4 false] [4] (.ret)) (.skip))) (sR [fO 54 25 2 0,lO 55 3 54,cA 56 56 55 3,oO 57 (.unOp .not 4 (xT 56)),mO 58 57,fG 59 25 2 1 58 false,lG 60 22 59 58 false,oG 61 (bL 60 22) 58 false,oG 62 (.binOp .gtr 3 (xT 61) (nI 0) 3) 58 false,pT 63 58 62,mO 64 63,fG 65 25 2 2 64 false,lG 66 23 65 64 false,oG 67 (bL 66 23) 64 false,oG 68 (.binOp .geq 3 (xT 67) (nI 1048576) 3) 64 false,pT 69 64 68,aO 53 69] [1,2,53] (cD 53 (sR [aB 4 false] [4] (.ret)) (.skip)))))))))))) (.keep [1,2] IB))
theorem T2:BP Tryz.prog 103 97 [(.tmp 4)] MS:=AP Tryz.func103
def NV:CC:=sR [bX 1 25 0 [0],aB 2 false] [1] (sR [lO 3 25 1,oO 4 (cL 103 #[(xT 3),(nI 64)] #[25,3]),aO 2 4] [2] (.ret))
theorem TW:BP Tryz.prog 87 5 [(.tmp 2)] NV:=AP Tryz.func87
def LL:CC:=sR [bX 1 25 0 [0],aB 2 false] [1] (sR [fO 3 25 1 0,lO 4 3 3,bQ .eql 5 3 4 0 3,mO 6 5,fG 7 25 1 1 6 true,lG 8 22 7 6 true,oG 9 (bL 8 22) 6 true,fG 10 25 1 2 6 true,lG 11 23 10 6 true,oG 12 (bL 11 23) 6 true,oG 13 (bO .add 3 9 12 3) 6 true,oG 14 (.binOp .eql 3 (xT 13) (nI 0) 3) 6 true,pF 15 6 14,aO 2 15] [2] (.ret))
theorem R8:BP Tryz.prog 86 16 [(.tmp 2)] LL:=AP Tryz.func86
def Px:CC:=sR [bX 1 30 0 [0],aB 2 false] [1] (sR [oO 3 (.assign (.func 86))] [1,3] (.seq (.block 0 (sR [fO 5 30 1 0,lO 6 3 5,bQ .neq 7 3 6 1 3,mO 8 7,mG 9 3 8 true,fG 10 30 1 1 8 true,lG 11 25 10 8 true,oG 12 (.call { callee:=(.value (xT 9)),args:=#[(xT 11)],argTypes:=#[25] }) 8 true,mG 13 12 8 true,mG 14 3 13 true,fG 15 30 1 2 13 true,lG 16 25 15 13 true,oG 17 (.call { callee:=(.value (xT 14)),args:=#[(xT 16)],argTypes:=#[25] }) 13 true,oG 18 (.pick (xT 13) (xT 17) (nB false)) 8 true,oG 19 (.unOp .not 4 (xT 18)) 8 true,pF 20 8 19,aO 4 20] [1,4] (cD 4 (sR [aB 2 false] [2] (.ret)) (sR [fO 22 30 1 0,lO 23 3 22,bQ .neq 24 3 23 2 3,mO 25 24,fG 26 30 1 3 25 true,lG 27 26 26 25 true,oG 28 (bL 27 26) 25 true,fG 29 30 1 4 25 true,lG 30 27 29 25 true,oG 31 (bL 30 27) 25 true,oG 32 (bO .add 3 28 31 3) 25 true,oG 33 (.binOp .gtr 3 (xT 32) (nI 0) 3) 25 true,pF 34 25 33,aO 21 34] [1,21] (cD 21 (sR [aB 2 false] [2] (.ret)) (.skip)))))) (.keep [1] (sR [fO 35 30 1 0,lO 36 3 35,bQ .eql 37 3 36 3 3,mO 38 37,fG 39 30 1 5 38 false,lG 40 3 39 38 false,oG 41 (.binOp .eql 3 (xT 40) (nI 0) 3) 38 false,mG 42 41 38 false,fG 43 30 1 6 42 true,lG 44 28 43 42 true,oG 45 (bL 44 28) 42 true,oG 46 (.binOp .eql 3 (xT 45) (nI 0) 3) 42 true,oG 47 (.pick (xT 42) (xT 46) (nB false)) 38 false,pT 48 38 47,aO 2 48] [2] (.ret)))))
theorem Wc:BP Tryz.prog 66 49 [(.tmp 2)] Px:=AP Tryz.func66
def Nq:CC:=sR [bX 1 25 0 [0],aB 2 false] [1] (sR [fO 3 25 1 0,lO 4 3 3,bQ .neq 5 3 4 10 3,mO 6 5,lG 7 25 1 6 true,oG 8 (cL 87 #[(xT 7)] #[25]) 6 true,pF 9 6 8,aO 2 9] [2] (.ret))
theorem TH:BP Tryz.prog 67 10 [(.tmp 2)] Nq:=AP Tryz.func67
def IG:CC:=sR [fO 40 47 4 2,lO 41 45 40,fO 42 47 4 1,lO 43 5 42,oO 44 (cL 88 #[(xT 41),(.const (.int .u64 0)),(xT 43)] #[45,45,5]),oO 45 (.binOp .neq 45 (xT 44) (.const (.int .u64 0)) 45),mO 46 45,fG 47 47 4 3 46 false,lG 48 45 47 46 false,fG 49 47 4 1 46 false,lG 50 5 49 46 false,oG 51 (cL 88 #[(xT 48),(.const (.int .u64 0)),(xT 50)] #[45,45,5]) 46 false,oG 52 (.binOp .neq 45 (xT 51) (.const (.int .u64 0)) 45) 46 false,pT 53 46 52] [0,5,6,7,53] (cD 53 (sR [aB 2 false] [2] (.ret)) (.skip))
def GC:CC:=sR [bB .lss 8 3 7 6 3] [0,5,6,7,8] (.seq (cD 8 (.skip) (.exit 0)) (.keep [0,5,6,7] (.seq (.block 1 (sR [mO 9 7,iO 10 26 5 7,lO 11 47 10,aL 4 47 [0],aO 3 9,sT 47 4 11] [0,3,4,5,6,7] (sQ [fO 12 47 4 0,lO 13 3 12,bQ .lss 14 3 13 0 3,mO 15 14,fG 16 47 4 0 15 false,lG 17 3 16 15 false,oG 18 (.binOp .geq 3 (xT 17) (nI 65535) 3) 15 false,pT 19 15 18,mO 20 19,mG 21 3 20 false,oG 22 (.binOp .gtr 3 (xT 21) (nI 0) 3) 20 false,mG 23 22 20 false,mG 24 0 23 true,mG 25 3 23 true,oG 26 (.binOp .sub 3 (xT 25) (nI 1) 3) 23 true,oG 27 (iA 26 24 26) 23 true,fG 28 47 27 0 23 true,lG 29 3 28 23 true,fG 30 47 4 0 23 true,lG 31 3 30 23 true,oG 32 (bO .geq 3 29 31 3) 23 true,oG 33 (.pick (xT 23) (xT 32) (nB false)) 20 false,pT 34 20 33,mO 35 34,fG 36 47 4 1 35 false,lG 37 5 36 35 false,oG 38 (.binOp .eql 5 (xT 37) (.const (.int .u8 0)) 5) 35 false,pT 39 35 38] [0,4,5,6,7,39] (cD 39 (sR [aB 2 false] [2] (.ret)) (.skip)) [0,4,5,6,7] (.stop IG)))) (.keep [0,5,6,7] (.reg [bQ .add 54 3 7 1 3,mO 7 54] [0,5,6,7]))))) 
def Nz:CC:=sR [aB 2 false] [0] (sQ [mO 5 0,bN 6 5 26,oO 7 (.move (nI 0))] [0,5,6,7] (.block 0 (.loop GC)) [] (sR [aB 2 true] [2] (.ret)))
theorem Ts:BP Tryz.prog 68 55 [(.tmp 2)] Nz:=AP Tryz.func68
def Ha:CC:=sR [bB .lss 10 3 9 8 3] [0,1,7,8,9,10] (.seq (cD 10 (.skip) (.exit 0)) (.keep [0,1,7,8,9] (.seq (.block 1 (sR [mO 11 9,iO 12 27 7 9,lO 13 50 12,aL 6 50 [0],aO 5 11,sT 50 6 13] [0,1,5,6,7,8,9] (sR [fO 14 50 6 0,lO 15 3 14,bQ .lss 16 3 15 0 3,mO 17 16,fG 18 50 6 0 17 false,lG 19 3 18 17 false,oG 20 (.binOp .geq 3 (xT 19) (nI 65535) 3) 17 false,pT 21 17 20,mO 22 21,mG 23 5 22 false,oG 24 (.binOp .gtr 3 (xT 23) (nI 0) 3) 22 false,mG 25 24 22 false,mG 26 0 25 true,mG 27 5 25 true,oG 28 (.binOp .sub 3 (xT 27) (nI 1) 3) 25 true,oG 29 (iA 27 26 28) 25 true,fG 30 50 29 0 25 true,lG 31 3 30 25 true,fG 32 50 6 0 25 true,lG 33 3 32 25 true,oG 34 (bO .geq 3 31 33 3) 25 true,oG 35 (.pick (xT 25) (xT 34) (nB false)) 22 false,pT 36 22 35,mO 37 36,fG 38 50 6 1 37 false,fG 39 30 38 0 37 false,lG 40 3 39 37 false,oG 41 (.binOp .eql 3 (xT 40) (nI 0) 3) 37 false,pT 42 37 41,mO 43 42,fG 44 50 6 1 43 false,lG 45 30 44 43 false,mG 46 1 43 false,oG 47 (cL 41 #[(xT 45),(xT 46)] #[30,3]) 43 false,oG 48 (.unOp .not 4 (xT 47)) 43 false,pT 49 43 48] [0,1,7,8,9,49] (cD 49 (sR [aB 4 false] [4] (.ret)) (.skip))))) (.keep [0,1,7,8,9] (.reg [bQ .add 50 3 9 1 3,mO 9 50] [0,1,7,8,9]))))) 
def PA:CC:=sR [aB 4 false] [0,1] (sQ [mO 7 0,bN 8 7 27,oO 9 (.move (nI 0))] [0,1,7,8,9] (.block 0 (.loop Ha)) [] (sR [aB 4 true] [4] (.ret)))
theorem UX:BP Tryz.prog 69 51 [(.tmp 4)] PA:=AP Tryz.func69
def Qi:CC:=sR [bX 3 25 1 [0],aB 4 false] [0,3] (sR [mO 5 0,lO 6 25 3,oO 7 (.buildSlice 23 1 #[(0,(xT 6))]),oO 8 (.build 25 #[(0,(xT 5)),(2,(xT 7))]),cA 9 87 8 25,aO 4 9] [4] (.ret))
theorem XJ:BP Tryz.prog 107 10 [(.tmp 4)] Qi:=AP Tryz.func107
def LO:CC:=sR [bX 3 30 1 [0],aB 4 false] [0,3] (.seq (.block 0 (sR [mO 6 0,cA 7 121 6 3,mO 8 7,fG 9 30 3 0 8 false,lG 10 3 9 8 false,oG 11 (.binOp .eql 3 (xT 10) (nI 0) 3) 8 false,pT 12 8 11,aO 5 12] [0,3,5] (cD 5 (sR [aB 4 false] [4] (.ret)) (sR [mO 14 0,bQ .eql 15 3 14 8 3,mO 16 15,fG 17 30 3 0 16 false,lG 18 3 17 16 false,oG 19 (.binOp .eql 3 (xT 18) (nI 2) 3) 16 false,pT 20 16 19,aO 13 20] [3,13] (cD 13 (sR [aB 4 true] [4] (.ret)) (.skip)))))) (.keep [3] (sR [fO 21 30 3 0,lO 22 3 21,bQ .eql 23 3 22 1 3,mO 24 23,fG 25 30 3 1 24 true,fG 26 25 25 0 24 true,lG 27 3 26 24 true,oG 28 (.binOp .eql 3 (xT 27) (nI 1) 3) 24 true,pF 29 24 28,mO 30 29,fG 31 30 3 2 30 true,fG 32 25 31 0 30 true,lG 33 3 32 30 true,oG 34 (.binOp .eql 3 (xT 33) (nI 1) 3) 30 true,pF 35 30 34,aO 4 35] [4] (.ret))))
theorem RM:BP Tryz.prog 108 36 [(.tmp 4)] LO:=AP Tryz.func108
def Pw:CC:=sR [bX 2 25 0 [0],aB 3 false] [1,2] (sR [lO 4 3 1,lO 5 25 2,cB 6 107 4 5 3 25,oO 7 (.unOp .not 4 (xT 6)),aO 3 7] [3] (.ret))
theorem U2:BP Tryz.prog 106 8 [(.tmp 3)] Pw:=AP Tryz.func106
def A6:CC:=sR [bB .lss 9 3 8 7 3] [0,1,7,8,9] (.seq (cD 9 (.skip) (.exit 0)) (.keep [0,1,7,8] (.seq (.block 1 (sR [mO 10 8,aO 5 10] [0,1,5,7,8] (sR [mO 11 1,mO 12 0,mO 13 5,iO 14 23 12 13,lO 15 25 14,oO 16 (.call { callee:=(.value (xT 11)),args:=#[(xT 15)],argTypes:=#[25] })] [0,1,5,7,8,16] (cD 16 (sR [mO 17 5,aO 4 17] [4] (.ret)) (.skip))))) (.keep [0,1,7,8] (.reg [bQ .add 18 3 8 1 3,mO 8 18] [0,1,7,8]))))) 
def Ca:CC:=sR [aI 4 0] [0,1] (sQ [mO 6 0,bN 7 6 23,oO 8 (.move (nI 0))] [0,1,7,8] (.block 0 (.loop A6)) [] (sR [oO 4 (.assign (.const (.int .i64 (-1))))] [4] (.ret)))
theorem EX:BP Tryz.prog 120 19 [(.tmp 4)] Ca:=AP Tryz.func120
def BZ:CC:=sR [aB 4 false] [0,1] (sR [mO 5 0,mO 6 1,cB 7 120 5 6 23 43,bQ .geq 8 3 7 0 3,aO 4 8] [4] (.ret))
theorem Eh:BP Tryz.prog 105 9 [(.tmp 4)] BZ:=AP Tryz.func105
def Jw:CC:=.seq (sR [fO 42 53 4 1,lO 43 3 42,bQ .eql 44 3 43 0 3,mO 45 44,fG 46 53 4 2 45 true,lG 47 23 46 45 true,oG 48 (bL 47 23) 45 true,oG 49 (.binOp .gtr 3 (xT 48) (nI 0) 3) 45 true,pF 50 45 49,mO 51 50,fG 52 53 4 3 51 true,lG 53 30 52 51 true,oG 54 (cL 41 #[(xT 53),(nI 1)] #[30,3]) 51 true,pF 55 51 54,mO 56 55,fG 57 53 4 3 56 true,fG 58 30 57 0 56 true,lG 59 3 58 56 true,oG 60 (.binOp .eql 3 (xT 59) (nI 0) 3) 56 true,pF 61 56 60,mO 62 61,fG 63 53 4 2 62 true,lG 64 23 63 62 true,oG 65 (.makeFunc (.func 106) #[] #[(xT 3)]) 62 true,oG 66 (cL 105 #[(xT 64),(xT 65)] #[23,43]) 62 true,oG 67 (.unOp .not 4 (xT 66)) 62 true,pF 68 62 67,aO 6 68] [6] (.ret)) (.exit 0) 
def Td:CC:=sR [bX 3 3 0 [0],bX 4 53 1 [1],aB 6 false] [2,3,4] (sQ [fO 7 53 4 0,lO 8 3 7] [2,3,4,8] (.block 0 (.seq (.block 4 (.seq (.block 3 (.block 2 (.seq (.block 1 (.seq (sQ [bQ .eql 10 3 8 0 3,aO 9 10] [2,3,4,8,9] (cD 9 (.exit 1) (.skip)) [2,3,4,8] (sQ [bQ .eql 12 3 8 1 3,aO 11 12] [2,3,4,8,11] (cD 11 (.exit 2) (.skip)) [2,3,4,8] (sQ [bQ .eql 14 3 8 2 3,aO 13 14] [2,3,4,8,13] (cD 13 (.exit 3) (.skip)) [2,3,4,8] (sR [bQ .eql 16 3 8 3 3,aO 15 16] [2,3,4,15] (cD 15 (.exit 4) (.skip)))))) (.exit 0))) (.keep [4] (.seq (sR [fO 17 53 4 1,lO 18 3 17,bQ .geq 19 3 18 1 3,mO 20 19,fG 21 53 4 1 20 true,lG 22 3 21 20 true,oG 23 (.binOp .leq 3 (xT 22) (nI 1048576) 3) 20 true,pF 24 20 23,mO 25 24,fG 26 53 4 2 25 true,lG 27 23 26 25 true,oG 28 (bL 27 23) 25 true,oG 29 (.binOp .eql 3 (xT 28) (nI 0) 3) 25 true,pF 30 25 29,mO 31 30,fG 32 53 4 3 31 true,lG 33 30 32 31 true,oG 34 (cL 41 #[(xT 33),(nI 1)] #[30,3]) 31 true,pF 35 31 34,mO 36 35,fG 37 53 4 3 36 true,fG 38 30 37 0 36 true,lG 39 3 38 36 true,oG 40 (.binOp .eql 3 (xT 39) (nI 0) 3) 36 true,pF 41 36 40,aO 6 41] [6] (.ret)) (.exit 0)))))) (.keep [3,4] (.stop Jw)))) (.keep [2,3,4] (.seq (sR [fO 69 53 4 1,lO 70 3 69,bQ .eql 71 3 70 0 3,mO 72 71,fG 73 53 4 2 72 true,lG 74 23 73 72 true,oG 75 (bL 74 23) 72 true,oG 76 (.binOp .eql 3 (xT 75) (nI 0) 3) 72 true,pF 77 72 76,mO 78 77,lG 79 3 3 78 true,fG 80 53 4 3 78 true,lG 81 30 80 78 true,oG 82 (cL 108 #[(xT 79),(xT 81)] #[3,30]) 78 true,pF 83 78 82,mO 84 83,fG 85 53 4 3 84 true,lG 86 30 85 84 true,mG 87 2 84 true,oG 88 (cL 41 #[(xT 86),(xT 87)] #[30,3]) 84 true,pF 89 84 88,aO 6 89] [6] (.ret)) (.exit 0))))) [] (sR [aB 6 false] [6] (.ret)))
theorem YF:BP Tryz.prog 89 90 [(.tmp 6)] Td:=AP Tryz.func89
def Fi:CC:=sR [fO 32 53 7 0,lO 33 3 32,bQ .neq 34 3 33 1 3] [4,5,8,10,11,12,34] (cD 34 (.reg [mO 35 5,mO 36 8,bB .add 37 3 35 36 3,oO 38 (bC .min #[(xT 37),(nI 1048576)] #[3,3]),aO 5 38] [4,5,10,11,12]) (.skip))
def GZ:CC:=sQ [fO 25 53 7 0,lO 26 3 25,bQ .neq 27 3 26 2 3] [4,5,7,8,10,11,12,27] (cD 27 (.reg [mO 28 4,mO 29 8,bB .add 30 3 28 29 3,oO 31 (bC .min #[(xT 30),(nI 1048576)] #[3,3]),aO 4 31] [4,5,7,8,10,11,12]) (.skip)) [4,5,7,8,10,11,12] Fi
def DT:CC:=sR [bB .lss 13 3 12 11 3] [4,5,10,11,12,13] (.seq (cD 13 (.skip) (.exit 0)) (.keep [4,5,10,11,12] (.seq (.block 1 (sR [iO 14 28 10 12,lO 15 53 14,aL 7 53 [1],sT 53 7 15] [4,5,7,10,11,12] (sR [fO 16 53 7 1,lO 17 3 16,fO 18 53 7 2,lO 19 23 18,bN 20 19 23,bB .add 21 3 17 20 3,aO 8 21] [4,5,7,8,10,11,12] (sQ [fO 22 53 7 0,lO 23 3 22,bQ .eql 24 3 23 3 3] [4,5,7,8,10,11,12,24] (cD 24 (.reg [aI 8 1] [4,5,7,8,10,11,12]) (.skip)) [4,5,7,8,10,11,12] GZ)))) (.keep [4,5,10,11,12] (.reg [bQ .add 39 3 12 1 3,mO 12 39] [4,5,10,11,12]))))) 
def KQ:CC:=sR [bX 1 30 0 [0],aI 2 0,aI 3 0] [1] (sR [aI 4 0,aI 5 0] [1,4,5] (sQ [fO 9 30 1 6,lO 10 28 9,bN 11 10 28,oO 12 (.move (nI 0))] [4,5,10,11,12] (.block 0 (.loop DT)) [4,5] (sR [mO 40 4,mO 41 5,aO 2 40,aO 3 41] [2,3] (.ret))))
theorem QD:BP Tryz.prog 90 42 [(.tmp 2),(.tmp 3)] KQ:=AP Tryz.func90
def Ic:CC:=sR [bB .lss 13 3 12 11 3] [1,2,10,11,12,13] (.seq (cD 13 (.skip) (.exit 0)) (.keep [1,2,10,11,12] (.seq (.block 1 (sR [iO 14 28 10 12,lO 15 53 14,aL 6 53 [1],sT 53 6 15] [1,2,6,10,11,12] (sR [fO 16 30 2 5,lO 17 3 16,lO 18 53 6,mO 19 1,cE 20 89 17 18 19 3 53 3,oO 21 (.unOp .not 4 (xT 20))] [1,2,10,11,12,21] (cD 21 (sR [aB 4 false] [4] (.ret)) (.skip))))) (.keep [1,2,10,11,12] (.reg [bQ .add 22 3 12 1 3,mO 12 22] [1,2,10,11,12]))))) 
def Qw:CC:=sR [bX 2 30 0 [0],aB 4 false] [1,2] (sQ [fO 9 30 2 6,lO 10 28 9,bN 11 10 28,oO 12 (.move (nI 0))] [1,2,10,11,12] (.block 0 (.loop Ic)) [2] (sR [lO 24 30 2,cA 25 90 24 30,mO 23 25,xO 26 23 0,xO 27 23 1,aO 7 26,aO 8 27] [7,8] (sR [mO 28 7,bQ .lss 29 3 28 1048576 3,mO 30 29,mG 31 8 30 true,oG 32 (.binOp .lss 3 (xT 31) (nI 1048576) 3) 30 true,pF 33 30 32,aO 4 33] [4] (.ret))))
theorem WA:BP Tryz.prog 70 34 [(.tmp 4)] Qw:=AP Tryz.func70
def Nk:CC:=sR [bX 2 30 0 [0],aB 4 false] [1,2] (sQ [lO 5 30 2,cA 6 66 5 30,oO 7 (.unOp .not 4 (xT 6)),mO 8 7,mG 9 1 8 false,oG 10 (.binOp .eql 3 (xT 9) (nI 0) 3) 8 false,pT 11 8 10] [1,2,11] (cD 11 (sR [aB 4 false] [4] (.ret)) (.skip)) [1,2] (sQ [fO 12 30 2 0,lO 13 3 12] [1,2,13] (.block 0 (sR [bQ .eql 15 3 13 0 3,aO 14 15] [1,2,13,14] (cD 14 (sR [aB 4 true] [4] (.ret)) (sR [bQ .eql 17 3 13 1 3,aO 16 17] [1,2,13,16] (cD 16 (sR [fO 18 30 2 1,lO 19 25 18,cA 20 67 19 25,mO 21 20,fG 22 30 2 2 21 true,lG 23 25 22 21 true,oG 24 (cL 67 #[(xT 23)] #[25]) 21 true,pF 25 21 24,aO 4 25] [4] (.ret)) (sR [bQ .eql 27 3 13 2 3,aO 26 27] [1,2,13,26] (cD 26 (sR [fO 28 30 2 3,lO 29 26 28,cA 30 68 29 26,mO 31 30,fG 32 30 2 4 31 true,lG 33 27 32 31 true,mG 34 1 31 true,oG 35 (.binOp .sub 3 (xT 34) (nI 1) 3) 31 true,oG 36 (cL 69 #[(xT 33),(xT 35)] #[27,3]) 31 true,pF 37 31 36,aO 4 37] [4] (.ret)) (sR [bQ .eql 39 3 13 3 3,aO 38 39] [1,2,38] (cD 38 (sR [fO 40 30 2 5,lO 41 3 40,cA 42 56 41 3,mO 43 42,lG 44 30 2 43 true,mG 45 1 43 true,oG 46 (.binOp .sub 3 (xT 45) (nI 1) 3) 43 true,oG 47 (cL 70 #[(xT 44),(xT 46)] #[30,3]) 43 true,pF 48 43 47,aO 4 48] [4] (.ret)) (.skip)))))))))) [] (sR [aB 4 false] [4] (.ret))))
theorem TM:BP Tryz.prog 41 49 [(.tmp 4)] Nk:=AP Tryz.func41
def NC:CC:=sR [bX 1 30 0 [0],aB 2 false] [1] (sR [lO 3 30 1,oO 4 (cL 41 #[(xT 3),(nI 64)] #[30,3]),aO 2 4] [2] (.ret))
theorem Ua:BP Tryz.prog 24 5 [(.tmp 2)] NC:=AP Tryz.func24
def B7:CC:=sQ [mO 11 5,mO 12 0,bN 13 12 23,bB .lss 14 3 11 13 3] [0,1,5,14] (cD 14 (.skip) (.exit 0)) [0,1,5] (.seq (.block 1 (sR [mO 17 0,mO 18 5,iO 19 23 17 18,lO 20 25 19,mO 21 1,mO 22 5,iO 23 23 21 22,lO 24 25 23,cB 25 27 20 24 25 25,oO 26 (.unOp .not 4 (xT 25))] [0,1,5,26] (cD 26 (sR [aB 4 false] [4] (.ret)) (.skip)))) (.keep [0,1,5] (.reg [mO 15 5,bQ .add 16 3 15 1 3,aO 5 16] [0,1,5]))) 
def F1:CC:=sR [aB 4 false] [0,1] (sQ [mO 6 0,bN 7 6 23,mO 8 1,bN 9 8 23,bB .neq 10 3 7 9 3] [0,1,10] (cD 10 (sR [aB 4 false] [4] (.ret)) (.skip)) [0,1] (sQ [aI 5 0] [0,1,5] (.block 0 (.loop B7)) [] (sR [aB 4 true] [4] (.ret))))
theorem JZ:BP Tryz.prog 28 27 [(.tmp 4)] F1:=AP Tryz.func28
def DQ:CC:=sQ [mO 65 5,fO 66 30 2 3,lO 67 26 66,bN 68 67 26,bB .lss 69 3 65 68 3] [2,3,5,69] (cD 69 (.skip) (.exit 0)) [2,3,5] (.seq (.block 1 (sR [fO 72 30 2 3,lO 73 26 72,mO 74 5,iO 75 26 73 74,lO 76 47 75,fO 77 30 3 3,lO 78 26 77,mO 79 5,iO 80 26 78 79,lO 81 47 80,bB .neq 82 47 76 81 47] [2,3,5,82] (cD 82 (sR [aB 4 false] [4] (.ret)) (.skip)))) (.keep [2,3,5] (.reg [mO 70 5,bQ .add 71 3 70 1 3,aO 5 71] [2,3,5])))
def DF:CC:=sQ [mO 83 6,fO 84 30 2 4,lO 85 27 84,bN 86 85 27,bB .lss 87 3 83 86 3] [2,3,6,87] (cD 87 (.skip) (.exit 2)) [2,3,6] (.seq (.block 3 (sR [fO 90 30 2 4,lO 91 27 90,mO 92 6,iO 93 27 91 92,fO 94 50 93 0,lO 95 3 94,fO 96 30 3 4,lO 97 27 96,mO 98 6,iO 99 27 97 98,fO 100 50 99 0,lO 101 3 100,bB .neq 102 3 95 101 3,mO 103 102,fG 104 30 2 4 103 false,lG 105 27 104 103 false,mG 106 6 103 false,oG 107 (iA 27 105 106) 103 false,fG 108 50 107 1 103 false,lG 109 30 108 103 false,fG 110 30 3 4 103 false,lG 111 27 110 103 false,mG 112 6 103 false,oG 113 (iA 27 111 112) 103 false,fG 114 50 113 1 103 false,lG 115 30 114 103 false,oG 116 (cL 11 #[(xT 109),(xT 115)] #[30,30]) 103 false,oG 117 (.unOp .not 4 (xT 116)) 103 false,pT 118 103 117] [2,3,6,118] (cD 118 (sR [aB 4 false] [4] (.ret)) (.skip)))) (.keep [2,3,6] (.reg [mO 88 6,bQ .add 89 3 88 1 3,aO 6 89] [2,3,6])))
def Dx:CC:=sQ [mO 119 7,fO 120 30 2 6,lO 121 28 120,bN 122 121 28,bB .lss 123 3 119 122 3] [2,3,7,123] (cD 123 (.skip) (.exit 4)) [2,3,7] (.seq (.block 5 (sR [fO 126 30 2 6,lS 127 28 126 1,mO 128 7,iO 129 28 127 128,lS 130 53 129 4,fO 131 30 3 6,lS 132 28 131 6,mO 133 7,iO 134 28 132 133,lS 135 53 134 9,⟨some 8,(.alloc 53),none,[2],10,[1,4,6,9],true⟩,⟨some 9,(.alloc 53),none,[3],11,[1,4,6,9,10],false⟩,⟨none,(.store 53 (xT 8) (xT 130)),none,[],12,[6,9],false⟩,sT 53 9 135] [2,3,7,8,9] (sR [fO 136 53 8 0,lO 137 3 136,fO 138 53 9 0,lO 139 3 138,bB .neq 140 3 137 139 3,mO 141 140,fG 142 53 8 1 141 false,lG 143 3 142 141 false,fG 144 53 9 1 141 false,lG 145 3 144 141 false,oG 146 (bO .neq 3 143 145 3) 141 false,pT 147 141 146,mO 148 147,fG 149 53 8 2 148 false,lG 150 23 149 148 false,fG 151 53 9 2 148 false,lG 152 23 151 148 false,oG 153 (cL 28 #[(xT 150),(xT 152)] #[23,23]) 148 false,oG 154 (.unOp .not 4 (xT 153)) 148 false,pT 155 148 154,mO 156 155,fG 157 53 8 3 156 false,lG 158 30 157 156 false,fG 159 53 9 3 156 false,lG 160 30 159 156 false,oG 161 (cL 11 #[(xT 158),(xT 160)] #[30,30]) 156 false,oG 162 (.unOp .not 4 (xT 161)) 156 false,pT 163 156 162] [2,3,7,163] (cD 163 (sR [aB 4 false] [4] (.ret)) (.skip))))) (.keep [2,3,7] (.reg [mO 124 7,bQ .add 125 3 124 1 3,aO 7 125] [2,3,7]))) 
def HY:CC:=sR [bX 2 30 0 [0],bX 3 30 1 [1],aB 4 false] [2,3] (sQ [fO 10 30 2 0,lO 11 3 10,fO 12 30 3 0,lO 13 3 12,bB .neq 14 3 11 13 3,mO 15 14,fG 16 30 2 5 15 false,lG 17 3 16 15 false,fG 18 30 3 5 15 false,lG 19 3 18 15 false,oG 20 (bO .neq 3 17 19 3) 15 false,pT 21 15 20,mO 22 21,fG 23 30 2 1 22 false,lG 24 25 23 22 false,fG 25 30 3 1 22 false,lG 26 25 25 22 false,oG 27 (cL 27 #[(xT 24),(xT 26)] #[25,25]) 22 false,oG 28 (.unOp .not 4 (xT 27)) 22 false,pT 29 22 28,mO 30 29,fG 31 30 2 2 30 false,lG 32 25 31 30 false,fG 33 30 3 2 30 false,lG 34 25 33 30 false,oG 35 (cL 27 #[(xT 32),(xT 34)] #[25,25]) 30 false,oG 36 (.unOp .not 4 (xT 35)) 30 false,pT 37 30 36,mO 38 37,fG 39 30 2 3 38 false,lG 40 26 39 38 false,oG 41 (bL 40 26) 38 false,fG 42 30 3 3 38 false,lG 43 26 42 38 false,oG 44 (bL 43 26) 38 false,oG 45 (bO .neq 3 41 44 3) 38 false,pT 46 38 45,mO 47 46,fG 48 30 2 4 47 false,lG 49 27 48 47 false,oG 50 (bL 49 27) 47 false,fG 51 30 3 4 47 false,lG 52 27 51 47 false,oG 53 (bL 52 27) 47 false,oG 54 (bO .neq 3 50 53 3) 47 false,pT 55 47 54,mO 56 55,fG 57 30 2 6 56 false,lG 58 28 57 56 false,oG 59 (bL 58 28) 56 false,fG 60 30 3 6 56 false,lG 61 28 60 56 false,oG 62 (bL 61 28) 56 false,oG 63 (bO .neq 3 59 62 3) 56 false,pT 64 56 63] [2,3,64] (cD 64 (sR [aB 4 false] [4] (.ret)) (.skip)) [2,3] (sQ [aI 5 0] [2,3,5] (.block 0 (.loop DQ)) [2,3] (sQ [aI 6 0] [2,3,6] (.block 2 (.loop DF)) [2,3] (sQ [aI 7 0] [2,3,7] (.block 4 (.loop Dx)) [] (sR [aB 4 true] [4] (.ret))))))
theorem Nv:BP Tryz.prog 11 164 [(.tmp 4)] HY:=AP Tryz.func11
@[simp] theorem yf:Tryz.prog.underlying 9=some .string:=by kernel_rfl
@[simp] theorem wY:Tryz.prog.underlying 120=some (.array 24 5):=by kernel_rfl
@[simp] theorem wL:Tryz.prog.underlying 139=some (.array 65 5):=by kernel_rfl
@[simp] theorem wV:Tryz.prog.underlying 140=some (.int .u64):=by kernel_rfl
@[simp] theorem yd:El Tryz.prog 9=some 1:=by kernel_rfl
@[simp] theorem xA:El Tryz.prog 68=some 1:=by kernel_rfl
@[simp] theorem xt:I9 Tryz.prog 9=some false:=by kernel_rfl
@[simp] theorem xf:I9 Tryz.prog 68=some false:=by kernel_rfl
@[simp] theorem wW:CL Tryz.prog 5=some (Value.int IntKind.u8 0):=by kernel_rfl
@[simp] theorem vY:CL Tryz.prog 70=some (Value.agg #[Value.pointer none,Value.slice none 0 0]):=by kernel_rfl
@[simp] theorem vu:CL Tryz.prog 120=some (Value.agg #[Value.int IntKind.u8 0,Value.int IntKind.u8 0,Value.int IntKind.u8 0,Value.int IntKind.u8 0,Value.int IntKind.u8 0,Value.int IntKind.u8 0,Value.int IntKind.u8 0,Value.int IntKind.u8 0,Value.int IntKind.u8 0,Value.int IntKind.u8 0,Value.int IntKind.u8 0,Value.int IntKind.u8 0,Value.int IntKind.u8 0,Value.int IntKind.u8 0,Value.int IntKind.u8 0,Value.int IntKind.u8 0,Value.int IntKind.u8 0,Value.int IntKind.u8 0,Value.int IntKind.u8 0,Value.int IntKind.u8 0,Value.int IntKind.u8 0,Value.int IntKind.u8 0,Value.int IntKind.u8 0,Value.int IntKind.u8 0]):=by kernel_rfl
@[simp] theorem vo:CL Tryz.prog 139=some (Value.agg #[Value.int IntKind.u8 0,Value.int IntKind.u8 0,Value.int IntKind.u8 0,Value.int IntKind.u8 0,Value.int IntKind.u8 0,Value.int IntKind.u8 0,Value.int IntKind.u8 0,Value.int IntKind.u8 0,Value.int IntKind.u8 0,Value.int IntKind.u8 0,Value.int IntKind.u8 0,Value.int IntKind.u8 0,Value.int IntKind.u8 0,Value.int IntKind.u8 0,Value.int IntKind.u8 0,Value.int IntKind.u8 0,Value.int IntKind.u8 0,Value.int IntKind.u8 0,Value.int IntKind.u8 0,Value.int IntKind.u8 0,Value.int IntKind.u8 0,Value.int IntKind.u8 0,Value.int IntKind.u8 0,Value.int IntKind.u8 0,Value.int IntKind.u8 0,Value.int IntKind.u8 0,Value.int IntKind.u8 0,Value.int IntKind.u8 0,Value.int IntKind.u8 0,Value.int IntKind.u8 0,Value.int IntKind.u8 0,Value.int IntKind.u8 0,Value.int IntKind.u8 0,Value.int IntKind.u8 0,Value.int IntKind.u8 0,Value.int IntKind.u8 0,Value.int IntKind.u8 0,Value.int IntKind.u8 0,Value.int IntKind.u8 0,Value.int IntKind.u8 0,Value.int IntKind.u8 0,Value.int IntKind.u8 0,Value.int IntKind.u8 0,Value.int IntKind.u8 0,Value.int IntKind.u8 0,Value.int IntKind.u8 0,Value.int IntKind.u8 0,Value.int IntKind.u8 0,Value.int IntKind.u8 0,Value.int IntKind.u8 0,Value.int IntKind.u8 0,Value.int IntKind.u8 0,Value.int IntKind.u8 0,Value.int IntKind.u8 0,Value.int IntKind.u8 0,Value.int IntKind.u8 0,Value.int IntKind.u8 0,Value.int IntKind.u8 0,Value.int IntKind.u8 0,Value.int IntKind.u8 0,Value.int IntKind.u8 0,Value.int IntKind.u8 0,Value.int IntKind.u8 0,Value.int IntKind.u8 0,Value.int IntKind.u8 0]):=by kernel_rfl
@[simp] theorem wa:Ev Tryz.prog 5=some 1:=by kernel_rfl
@[simp] theorem cS:BV Tryz.prog 70 1=some 1:=by kernel_rfl
@[simp] theorem ZY:BV Tryz.prog 144 0=some 0:=by kernel_rfl
@[simp] theorem ZW:BV Tryz.prog 144 1=some 1:=by kernel_rfl
@[simp] theorem iu (ps:List (Nat × A)):JV Tryz.prog 144 ps=(H7 (fun i=>([(0,1),(1,1)]:List (Nat × Nat))[i]?) [A.v (Value.string ByteArray.empty),A.v (Value.int i64 0)] ps).map A.agg:=by kernel_rfl
def Eb:CC:=sR [oO 4 (.assign (.const .nilIface))] [0,1] (sR [mO 5 0,cA 6 57 5 67] [0,1] (sR [mO 7 0,mO 8 0,nC 9 8,fO 10 70 9 1,lO 11 68 10,mO 12 1,oO 13 (.buildSlice 68 1 #[(0,(xT 12))]),aP 14 11 13 68 68 [1],nC 15 7,fO 16 70 15 1,sT 68 16 14] [] (sR [oO 4 (.assign (.const .nilIface))] [4] (.ret))))
theorem Hb:BP Tryz.prog 54 17 [(.tmp 4)] Eb:=AP Tryz.func54
def Dm:CC:=sR [aI 4 0,oO 5 (.assign (.const .nilIface))] [0,1] (sR [mO 6 0,cA 7 57 6 67] [0,1] (sR [mO 8 0,mO 9 0,nC 10 9,fO 11 70 10 1,lO 12 68 11,mO 13 1,aP 14 12 13 68 9 [1],nC 15 8,fO 16 70 15 1,sT 68 16 14] [1] (sR [mO 17 1,bN 18 17 9,aO 4 18,oO 5 (.assign (.const .nilIface))] [4,5] (.ret))))
theorem GS:BP Tryz.prog 37 19 [(.tmp 4),(.tmp 5)] Dm:=AP Tryz.func37
def CM:CC:=sR [aB 2 false] [0] (sR [mO 3 0,mO 4 0,bQ .sub 5 3 4 1 3,bB .and 6 3 3 5 3,bQ .eql 7 3 6 0 3,aO 2 7] [2] (.ret))
theorem Ga:BP Tryz.prog 98 8 [(.tmp 2)] CM:=AP Tryz.func98
def BW:CC:=sQ [mO 44 1,mO 45 15,bB .geq 46 45 44 45 45] [0,1,3,4,10,11,12,13,14,15,16,46] (cD 46 (.skip) (.exit 0)) [0,1,3,4,10,11,12,13,14,15,16] (.block 1 (sR [mO 47 13,bQ .sub 48 3 47 1 3,aO 13 48] [0,1,3,4,10,11,12,13,14,15,16] (sR [mO 49 13,mO 50 1,mO 51 16,bB .and 52 140 50 51 140,oO 53 (.index 9 (.const (.string { data:=#[48,49,50,51,52,53,54,55,56,57,97,98,99,100,101,102,103,104,105,106,107,108,109,110,111,112,113,114,115,116,117,118,119,120,121,122] })) (xT 52)),iO 54 139 12 49,sT 5 54 53] [0,1,3,4,10,11,12,13,14,15,16] (.reg [mO 55 1,mO 56 14,bB .shr 57 45 55 56 140,aO 1 57] [0,1,3,4,10,11,12,13,14,15,16]))))
def Gj:CC:=sQ [mO 66 1,mO 67 17,bB .geq 68 45 66 67 45] [0,1,3,4,10,11,12,13,17,68] (cD 68 (.skip) (.exit 2)) [0,1,3,4,10,11,12,13,17] (.block 3 (sR [mO 69 13,bQ .sub 70 3 69 1 3,aO 13 70] [0,1,3,4,10,11,12,13,17] (sR [mO 71 1,mO 72 17,bB .quo 73 45 71 72 45,aO 18 73] [0,1,3,4,10,11,12,13,17,18] (sR [mO 74 13,mO 75 1,mO 76 18,mO 77 17,bB .mul 78 45 76 77 45,bB .sub 79 45 75 78 45,oO 80 (.index 9 (.const (.string { data:=#[48,49,50,51,52,53,54,55,56,57,97,98,99,100,101,102,103,104,105,106,107,108,109,110,111,112,113,114,115,116,117,118,119,120,121,122] })) (xT 79)),iO 81 139 12 74,sT 5 81 80] [0,3,4,10,11,12,13,17,18] (.reg [mO 82 18,aO 1 82] [0,1,3,4,10,11,12,13,17])))))
def C1:CC:=sQ [mO 94 4] [0,10,11,12,13,94] (cD 94 (sR [mO 95 0,mO 96 13,oO 97 (.slice 139 (xT 12) (some (xT 96)) none none),aP 98 95 97 68 68 [1],aO 10 98] [10,11] (.ret)) (.skip)) [10,12,13] (.stop (sR [mO 99 13,oO 100 (.slice 139 (xT 12) (some (xT 99)) none none),oO 101 (.convert 68 9 (xT 100)),aO 11 101] [10,11] (.ret)))
def Dd:CC:=sQ [mO 89 3] [0,4,10,11,12,13,89] (cD 89 (sR [mO 90 13,bQ .sub 91 3 90 1 3,aO 13 91] [0,4,10,11,12,13] (.reg [mO 92 13,iO 93 139 12 92,oS (.store 5 (xT 93) (.const (.int .u8 45)))] [0,4,10,11,12,13])) (.skip)) [0,4,10,11,12,13] C1
def Da:CC:=sQ [mO 33 2,cA 34 98 33 3] [0,1,2,3,4,10,11,12,13,34] (cD 34 (sR [mO 35 2,oO 36 (.convert 3 140 (xT 35)),cA 37 99 36 140,oO 38 (.convert 3 140 (xT 37)),aO 14 38] [0,1,2,3,4,10,11,12,13,14] (sR [mO 39 2,oO 40 (.convert 3 45 (xT 39)),aO 15 40] [0,1,2,3,4,10,11,12,13,14,15] (sR [mO 41 2,oO 42 (.convert 3 140 (xT 41)),oO 43 (.binOp .sub 140 (xT 42) (.const (.int .u64 1)) 140),aO 16 43] [0,1,3,4,10,11,12,13,14,15,16] (.seq (.block 0 (.loop BW)) (.keep [0,1,3,4,10,11,12,13] (sR [mO 58 13,bQ .sub 59 3 58 1 3,aO 13 59] [0,1,3,4,10,11,12,13] (.reg [mO 60 13,mO 61 1,oO 62 (.index 9 (.const (.string { data:=#[48,49,50,51,52,53,54,55,56,57,97,98,99,100,101,102,103,104,105,106,107,108,109,110,111,112,113,114,115,116,117,118,119,120,121,122] })) (xT 61)),iO 63 139 12 60,sT 5 63 62] [0,3,4,10,11,12,13]))))))) (sR [mO 64 2,oO 65 (.convert 3 45 (xT 64)),aO 17 65] [0,1,3,4,10,11,12,13,17] (.seq (.block 2 (.loop Gj)) (.keep [0,1,3,4,10,11,12,13] (sR [mO 83 13,bQ .sub 84 3 83 1 3,aO 13 84] [0,1,3,4,10,11,12,13] (.reg [mO 85 13,mO 86 1,oO 87 (.index 9 (.const (.string { data:=#[48,49,50,51,52,53,54,55,56,57,97,98,99,100,101,102,103,104,105,106,107,108,109,110,111,112,113,114,115,116,117,118,119,120,121,122] })) (xT 86)),iO 88 139 12 85,sT 5 88 87] [0,3,4,10,11,12,13])))))) [0,3,4,10,11,12,13] Dd
def C3:CC:=sR [aL 12 139 [0]] [0,1,2,3,4,10,11,12] (sR [aI 13 65] [0,1,2,3,4,10,11,12,13] (sQ [mO 30 3] [0,1,2,3,4,10,11,12,13,30] (cD 30 (.reg [mO 31 1,oO 32 (.unOp .neg 45 (xT 31)),aO 1 32] [0,1,2,3,4,10,11,12,13]) (.skip)) [0,1,2,3,4,10,11,12,13] Da)) 
def Dr:CC:=sR [aN 10,oO 11 (.assign (.const (.string { data:=#[] })))] [0,1,2,3,4,10,11] (sQ [mO 19 2,bQ .lss 20 3 19 2 3,mO 21 20,mG 22 2 21 false,oG 23 (.binOp .eql 3 (xT 22) (nI 10) 3) 21 false,pT 24 21 23,mO 25 24,mG 26 2 25 false,oG 27 (.binOp .gtr 3 (xT 26) (nI 36) 3) 25 false,pT 28 25 27] [0,1,2,3,4,10,11,28] (cD 28 (.reg [oO 29 (.makeInterface 9 (.const (.string { data:=#[115,116,114,99,111,110,118,58,32,105,108,108,101,103,97,108,32,65,112,112,101,110,100,73,110,116,47,70,111,114,109,97,116,73,110,116,32,98,97,115,101] }))),oS (.panic (xT 29))] [0,1,2,3,4,10,11]) (.skip)) [0,1,2,3,4,10,11] C3)
theorem GH:BP Tryz.prog 79 102 [(.tmp 10),(.tmp 11)] Dr:=AP Tryz.func79
def Dt:CC:=sR [oO 4 (.assign (.const (.string { data:=#[] })))] [0,1] (sQ [mO 9 1,bQ .eql 10 3 9 10 3] [0,1,10] (cD 10 (sQ [mO 11 0,oO 12 (.binOp .lss 45 (xT 11) (.const (.int .u64 100)) 45)] [0,12] (cD 12 (sR [mO 13 0,oO 14 (.convert 45 3 (xT 13)),cA 15 76 14 3,aO 4 15] [4] (.ret)) (.skip)) [0] (sR [aL 5 120 [0]] [0,5] (sR [mO 16 0,cA 17 77 16 45,aO 6 17] [0,5,6] (sR [mO 18 6,oO 19 (.slice 120 (xT 5) none (some (xT 18)) none),mO 20 0,cB 21 78 19 20 68 45] [5,6] (sR [mO 22 6,oO 23 (.slice 120 (xT 5) none (some (xT 22)) none),oO 24 (.convert 68 9 (xT 23)),aO 4 24] [4] (.ret)))))) (.skip)) [0,1] (sR [mO 26 0,mO 27 1,oO 28 (cL 79 #[nS,(xT 26),(xT 27),(nB false),(nB false)] #[68,45,3,4,4]),mO 25 28,xO 29 25 0,xO 30 25 1,aO 7 29,aO 8 30] [8] (sR [mO 31 8,aO 4 31] [4] (.ret))))
theorem GV:BP Tryz.prog 59 32 [(.tmp 4)] Dt:=AP Tryz.func59
def GW:CC:=sR [oO 4 (.assign (.const (.string { data:=#[] })))] [0,1] (sR [mO 5 0,mO 6 1,cB 7 59 5 6 45 3,aO 4 7] [4] (.ret))
theorem KT:BP Tryz.prog 38 8 [(.tmp 4)] GW:=AP Tryz.func38
def GF:CC:=sR [bB .lss 9 3 8 7 3] [0,6,7,8,9] (.seq (cD 9 (.skip) (.exit 0)) (.keep [0,6,7,8] (.seq (.block 1 (sR [mO 10 8,iO 11 23 6 8,lO 12 25 11,aL 5 25 [1],aO 4 10,sT 25 5 12] [0,4,5,6,7,8] (sQ [mO 13 4,bQ .gtr 14 3 13 0 3] [0,5,6,7,8,14] (cD 14 (.reg [mO 15 0,oO 16 (cL 54 #[(xT 15),(.const (.int .u8 44))] #[67,5])] [0,5,6,7,8]) (.skip)) [0,5,6,7,8] (.reg [mO 17 0,lO 18 25 5,cB 19 34 17 18 67 25] [0,6,7,8])))) (.keep [0,6,7,8] (.reg [bQ .add 20 3 8 1 3,mO 8 20] [0,6,7,8]))))) 
def Qu:CC:=sR [mO 6 1,bN 7 6 23,oO 8 (.move (nI 0))] [0,6,7,8] (.block 0 (.loop GF))
theorem WD:BP Tryz.prog 55 21 [] Qu:=AP Tryz.func55
def FP:CC:=sR [bB .lss 35 3 34 33 3] [0,3,32,33,34,35] (.seq (cD 35 (.skip) (.exit 1)) (.keep [0,3,32,33,34] (.seq (.block 2 (sR [mO 36 34,iO 37 22 32 34,lO 38 45 37,aO 4 36,aO 5 38] [0,3,4,5,32,33,34] (sQ [mO 39 4,bQ .gtr 40 3 39 0 3] [0,3,5,32,33,34,40] (cD 40 (.reg [mO 41 0,oO 42 (cL 54 #[(xT 41),(.const (.int .u8 44))] #[67,5])] [0,3,5,32,33,34]) (.skip)) [0,3,5,32,33,34] (.reg [mO 43 0,mO 44 5,oO 45 (cL 38 #[(xT 44),(nI 16)] #[45,3]),cB 46 37 43 45 67 9] [0,3,32,33,34])))) (.keep [0,3,32,33,34] (.reg [bQ .add 47 3 34 1 3,mO 34 47] [0,3,32,33,34]))))) 
def FF:CC:=sR [bX 3 25 1 [1]] [0,3] (.block 0 (sR [fO 9 25 3 0,lO 10 3 9,bQ .eql 11 3 10 10 3,mO 12 11,fG 13 25 3 1 12 true,lG 14 22 13 12 true,oG 15 (bL 14 22) 12 true,oG 16 (.binOp .eql 3 (xT 15) (nI 1) 3) 12 true,pF 17 12 16,aO 8 17] [0,3,8] (cD 8 (.reg [mO 18 0,fO 19 25 3 1,lO 20 22 19,oO 21 (.indexAddr 22 (xT 20) (nI 0)),lO 22 45 21,oO 23 (cL 38 #[(xT 22),(nI 16)] #[45,3]),cB 24 37 18 23 67 9] []) (sR [fO 26 25 3 0,lO 27 3 26,bQ .eql 28 3 27 1 3,aO 25 28] [0,3,25] (cD 25 (sR [mO 29 0,oO 30 (cL 54 #[(xT 29),(.const (.int .u8 123))] #[67,5])] [0,3] (sQ [fO 31 25 3 1,lO 32 22 31,bN 33 32 22,oO 34 (.move (nI 0))] [0,3,32,33,34] (.block 1 (.loop FP)) [0,3] (sQ [fO 48 25 3 2,lO 49 23 48,bN 50 49 23,bQ .gtr 51 3 50 0 3] [0,3,51] (cD 51 (.reg [mO 52 0,oO 53 (cL 54 #[(xT 52),(.const (.int .u8 124))] #[67,5])] [0,3]) (.skip)) [0,3] (sR [mO 54 0,fO 55 25 3 2,lO 56 23 55,cB 57 55 54 56 67 23] [0] (.reg [mO 58 0,oO 59 (cL 54 #[(xT 58),(.const (.int .u8 125))] #[67,5])] []))))) (sR [fO 61 25 3 0,lO 62 3 61,cA 63 56 62 3,aO 60 63] [0,3,60] (cD 60 (sR [mO 64 0,fO 65 25 3 0,lO 66 3 65,oO 67 (.index 9 (.const (.string { data:=#[46,46,118,98,121,116,102,101,112,99] })) (xT 66)),cB 68 54 64 67 67 5] [0,3] (sR [mO 69 0,oO 70 (cL 54 #[(xT 69),(.const (.int .u8 91))] #[67,5])] [0,3] (sR [mO 71 0,fO 72 25 3 2,lO 73 23 72,cB 74 55 71 73 67 23] [0] (.reg [mO 75 0,oO 76 (cL 54 #[(xT 75),(.const (.int .u8 93))] #[67,5])] [])))) (.reg [mO 6 0,oO 7 (cL 54 #[(xT 6),(.const (.int .u8 95))] #[67,5])] []))))))))
theorem GU:BP Tryz.prog 34 77 [] FF:=AP Tryz.func34
def M9:CC:=sR [bX 1 25 0 [0],oO 2 (.assign (.const (.string { data:=#[] })))] [1] (sR [aL 3 70 [1,777777,70]] [1,3] (.stop (sR [lO 4 25 1,cB 5 34 3 4 67 25] [3] (sR [cA 6 35 3 70,aO 2 6] [2] (.ret)))))
theorem Tx:BP Tryz.prog 19 7 [(.tmp 2)] M9:=AP Tryz.func19
def HJ:CC:=sR [oO 2 (.assign (.const (.int .u8 0)))] [0] (sQ [mO 3 0,nC 4 3,fO 5 144 4 1,lO 6 3 5,mO 7 0,nC 8 7,fO 9 144 8 0,lO 10 9 9,bN 11 10 9,bB .eql 12 3 6 11 3] [0,12] (cD 12 (sR [oO 2 (.assign (.const (.int .u8 0)))] [2] (.ret)) (.skip)) [0] (sR [mO 13 0,nC 14 13,fO 15 144 14 0,lO 16 9 15,mO 17 0,nC 18 17,fO 19 144 18 1,lO 20 3 19,oO 21 (.index 9 (xT 16) (xT 20)),aO 2 21] [2] (.ret)))
theorem MJ:BP Tryz.prog 114 22 [(.tmp 2)] HJ:=AP Tryz.func114
def Ih:CC:=sR [aB 4 false] [0,1] (sQ [mO 5 0,cA 6 114 5 142,mO 7 1,bB .neq 8 5 6 7 5,mO 9 8,mG 10 0 9 false,oG 11 (.nilCheck (xT 10)) 9 false,fG 12 144 11 1 9 false,lG 13 3 12 9 false,mG 14 0 9 false,oG 15 (.nilCheck (xT 14)) 9 false,fG 16 144 15 0 9 false,lG 17 9 16 9 false,oG 18 (bL 17 9) 9 false,oG 19 (bO .eql 3 13 18 3) 9 false,pT 20 9 19] [0,20] (cD 20 (sR [aB 4 false] [4] (.ret)) (.skip)) [0] (sR [mO 21 0,nC 22 21,fO 23 144 22 1,lO 24 3 23,bQ .add 25 3 24 1 3,nC 26 21,fO 27 144 26 1,sT 3 27 25] [] (sR [aB 4 true] [4] (.ret))))
theorem M4:BP Tryz.prog 112 28 [(.tmp 4)] Ih:=AP Tryz.func112
def QS:CC:=sR [oO 2 (.assign (.const (.int .u64 0))),aB 3 false] [0] (sR [mO 5 0,oO 6 (.call { callee:=(.value (.func 101)),args:=#[(.const (.string { data:=#[48,49,50,51,52,53,54,55,56,57,97,98,99,100,101,102] })),(xT 5)],argTypes:=#[9,5] }),aO 4 6] [4] (sR [mO 7 4,oO 8 (bC .max #[(xT 7),(nI 0)] #[3,3]),oO 9 (.convert 3 45 (xT 8)),mO 10 4,bQ .geq 11 3 10 0 3,aO 2 9,aO 3 11] [2,3] (.ret)))
theorem WI:BP Tryz.prog 132 12 [(.tmp 2),(.tmp 3)] QS:=AP Tryz.func132
def Cp:CC:=sQ [mO 13 0,nC 14 13,fO 15 144 14 1,lO 16 3 15,mO 17 0,nC 18 17,fO 19 144 18 0,lO 20 9 19,bN 21 20 9,bB .lss 22 3 16 21 3] [0,4,5,22] (cD 22 (.skip) (.exit 0)) [0,4,5] (.block 1 (sR [mO 24 0,nC 25 24,fO 26 144 25 0,lO 27 9 26,mO 28 0,nC 29 28,fO 30 144 29 1,lO 31 3 30,oO 32 (.index 9 (xT 27) (xT 31)),cA 33 132 32 5,mO 23 33,xO 34 23 0,xO 35 23 1,aO 6 34,aO 7 35] [0,4,5,6,7] (sQ [mO 36 7,oO 37 (.unOp .not 4 (xT 36)),mO 38 37,mG 39 5 38 false,oG 40 (.binOp .shr 45 (xT 39) (.const (.int .u64 60)) 140) 38 false,oG 41 (.binOp .neq 45 (xT 40) (.const (.int .u64 0)) 45) 38 false,pT 42 38 41] [0,4,5,6,42] (cD 42 (.exit 0) (.skip)) [0,4,5,6] (.reg [mO 43 0,mO 44 5,oO 45 (.binOp .shl 45 (xT 44) (.const (.int .u64 4)) 140),mO 46 6,bB .or 47 45 45 46 45,mO 48 0,nC 49 48,fO 50 144 49 1,lO 51 3 50,bQ .add 52 3 51 1 3,aO 5 47,nC 53 43,fO 54 144 53 1,sT 3 54 52] [0,4,5]))))
def D6:CC:=sR [mO 55 0,nC 56 55,fO 57 144 56 1,lO 58 3 57,mO 59 4,bB .sub 60 3 58 59 3,aO 8 60] [0,4,5,8] (sR [mO 61 5,mO 62 8,bQ .gtr 63 3 62 0 3,mO 64 63,mG 65 8 64 true,oG 66 (.binOp .eql 3 (xT 65) (nI 1) 3) 64 true,mG 67 66 64 true,mG 68 0 67 false,oG 69 (.nilCheck (xT 68)) 67 false,fG 70 144 69 0 67 false,lG 71 9 70 67 false,mG 72 4 67 false,oG 73 (.index 9 (xT 71) (xT 72)) 67 false,oG 74 (.binOp .neq 5 (xT 73) (.const (.int .u8 48)) 5) 67 false,oG 75 (.pick (xT 67) (nB true) (xT 74)) 64 true,pF 76 64 75,aO 2 61,aO 3 76] [2,3] (.ret)) 
def GR:CC:=sR [oO 2 (.assign (.const (.int .u64 0))),aB 3 false] [0] (sR [mO 9 0,nC 10 9,fO 11 144 10 1,lO 12 3 11,aO 4 12,oO 5 (.assign (.const (.int .u64 0)))] [0,4,5] (.seq (.block 0 (.loop Cp)) (.keep [0,4,5] D6)))
theorem K0:BP Tryz.prog 123 77 [(.tmp 2),(.tmp 3)] GR:=AP Tryz.func123
def DB:CC:=.block 1 (sR [mO 8 0,cA 9 123 8 142,mO 7 9,xO 10 7 0,xO 11 7 1,aO 5 10,aO 6 11] [0,4,5,6] (sQ [mO 12 6,oO 13 (.unOp .not 4 (xT 12))] [0,4,5,13] (cD 13 (sR [aN 2,aB 3 false] [2,3] (.ret)) (.skip)) [0,4,5] (sR [mO 14 4,mO 15 5,oO 16 (.buildSlice 22 1 #[(0,(xT 15))]),aP 17 14 16 22 22 [1],aO 4 17] [0,4] (sR [mO 18 0,oO 19 (cL 112 #[(xT 18),(.const (.int .u8 44))] #[142,5]),oO 20 (.unOp .not 4 (xT 19))] [0,4,20] (cD 20 (sR [mO 21 4,aO 2 21,aB 3 true] [2,3] (.ret)) (.skip)))))) 
def D7:CC:=sR [aN 2,aB 3 false] [0] (sR [aN 4] [0,4] (.block 0 (.loop DB)))
theorem Gd:BP Tryz.prog 122 22 [(.tmp 2),(.tmp 3)] D7:=AP Tryz.func122
def CQ:CC:=sQ [mO 33 12,oO 34 (.unOp .not 4 (xT 33))] [0,1,2,3,10,11,34] (cD 34 (sR [aN 8,aB 9 false] [8,9] (.ret)) (.skip)) [0,1,2,3,10,11] (sR [mO 35 10,lO 36 25 11,oO 37 (.buildSlice 23 1 #[(0,(xT 36))]),aP 38 35 37 23 23 [2],aO 10 38] [0,1,2,3,10] (.block 2 (sR [mO 40 0,mO 41 2,cB 42 112 40 41 142 5,aO 39 42] [0,1,2,3,10,39] (cD 39 (sR [mO 43 10,aO 8 43,aB 9 true] [8,9] (.ret)) (sR [mO 45 0,oO 46 (cL 112 #[(xT 45),(.const (.int .u8 44))] #[142,5]),oO 47 (.unOp .not 4 (xT 46)),aO 44 47] [0,1,2,3,10,44] (cD 44 (sR [aN 8,aB 9 false] [8,9] (.ret)) (.skip)))))))
def CR:CC:=.block 1 (sR [aL 11 25 [1]] [0,1,2,3,10,11] (sR [aB 12 false] [0,1,2,3,10,11] (sQ [mO 17 1,cA 18 121 17 3] [0,1,2,3,10,11,18] (cD 18 (sR [oO 13 (.assign (.const (.int .u64 0)))] [0,1,2,3,10,11] (sR [mO 20 0,cA 21 123 20 142,mO 19 21,xO 22 19 0,xO 23 19 1,aO 13 22,aO 12 23] [0,1,2,3,10,11,12,13] (.reg [mO 24 13,oO 25 (.buildSlice 22 1 #[(0,(xT 24))]),oO 26 (.build 25 #[(0,(nI 10)),(1,(xT 25))]),sT 25 11 26] [0,1,2,3,10,11,12]))) (.reg [mO 28 0,mO 29 3,cB 30 100 28 29 142 3,mO 27 30,xO 31 27 0,xO 32 27 1,sT 25 11 31,aO 12 32] [0,1,2,3,10,11,12])) [0,1,2,3,10,11,12] CQ))) 
def Dw:CC:=sR [aN 8,aB 9 false] [0,1,2,3] (sR [aN 10] [0,1,2,3,10] (sQ [mO 14 0,mO 15 2,cB 16 112 14 15 142 5] [0,1,2,3,10,16] (cD 16 (sR [aN 8,aB 9 true] [8,9] (.ret)) (.skip)) [0,1,2,3,10] (.block 0 (.loop CR))))
theorem Fw:BP Tryz.prog 115 48 [(.tmp 8),(.tmp 9)] Dw:=AP Tryz.func115
def CK:CC:=sQ [mO 24 0,oO 25 (cL 112 #[(xT 24),(.const (.int .u8 125))] #[142,5])] [0,1,4,6,25] (cD 25 (sR [lO 26 25 6,sT 25 4 26,aB 5 true] [4,5] (.ret)) (.skip)) [0,1,4,6] (sQ [mO 27 0,oO 28 (cL 112 #[(xT 27),(.const (.int .u8 124))] #[142,5]),oO 29 (.unOp .not 4 (xT 28)),mO 30 29,mG 31 0 30 false,oG 32 (cL 114 #[(xT 31)] #[142]) 30 false,oG 33 (.binOp .eql 5 (xT 32) (.const (.int .u8 125)) 5) 30 false,pT 34 30 33] [0,1,4,6,34] (cD 34 (sR [lO 35 25 6,sT 25 4 35,aB 5 false] [4,5] (.ret)) (.skip)) [0,1,4,6] (sR [mO 37 0,mO 38 1,bQ .sub 39 3 38 1 3,oO 40 (cL 115 #[(xT 37),(nI 1),(.const (.int .u8 125)),(xT 39)] #[142,3,5,3]),mO 36 40,xO 41 36 0,xO 42 36 1,fO 43 25 6 2,sT 23 43 41,aO 7 42] [4,6,7] (sR [lO 44 25 6,mO 45 7,sT 25 4 44,aO 5 45] [4,5] (.ret)))) 
def FG:CC:=sR [aL 4 25 [1],aB 5 false] [0,1,4] (sR [oO 8 (.build 25 #[(0,(nI 1))]),aL 6 25 [2],sT 25 6 8] [0,1,4,6] (sQ [mO 9 0,oO 10 (cL 112 #[(xT 9),(.const (.int .u8 125))] #[142,5])] [0,1,4,6,10] (cD 10 (sR [lO 11 25 6,sT 25 4 11,aB 5 true] [4,5] (.ret)) (.skip)) [0,1,4,6] (sR [aB 7 true] [0,1,4,6] (sQ [mO 12 0,cA 13 114 12 142,oO 14 (.binOp .neq 5 (xT 13) (.const (.int .u8 124)) 5)] [0,1,4,6,14] (cD 14 (sR [mO 16 0,cA 17 122 16 142,mO 15 17,xO 18 15 0,xO 19 15 1,fO 20 25 6 1,sT 22 20 18,aO 7 19] [0,1,4,6,7] (sR [mO 21 7,oO 22 (.unOp .not 4 (xT 21))] [0,1,4,6,22] (cD 22 (sR [lO 23 25 6,sT 25 4 23,aB 5 false] [4,5] (.ret)) (.skip)))) (.skip)) [0,1,4,6] CK))))
theorem IW:BP Tryz.prog 113 46 [(.cell 4 25),(.tmp 5)] FG:=AP Tryz.func113
def DD:CC:=sR [aL 4 25 [1],aB 5 false] [0,1,4] (sQ [mO 9 0,oO 10 (cL 112 #[(xT 9),(.const (.int .u8 95))] #[142,5])] [0,1,4,10] (cD 10 (sR [oO 11 (.build 25 #[]),sT 25 4 11,aB 5 true] [4,5] (.ret)) (.skip)) [0,1,4] (sQ [mO 12 1,bQ .eql 13 3 12 0 3] [0,1,4,13] (cD 13 (sR [oO 14 (.build 25 #[]),sT 25 4 14,aB 5 false] [4,5] (.ret)) (.skip)) [0,1,4] (sQ [mO 15 0,oO 16 (cL 112 #[(xT 15),(.const (.int .u8 123))] #[142,5])] [0,1,4,16] (cD 16 (sR [mO 17 0,mO 18 1,cB 19 113 17 18 142 3,xO 20 19 0,xO 21 19 1,sT 25 4 20,aO 5 21] [4,5] (.ret)) (.skip)) [0,1,4] (sR [mO 22 0,cA 23 114 22 142,oO 24 (.call { callee:=(.value (.func 101)),args:=#[(.const (.string { data:=#[46,46,118,98,121,116,102,101,112,99] })),(xT 23)],argTypes:=#[9,5] }),aO 6 24] [0,1,4,6] (sQ [mO 25 6,bQ .lss 26 3 25 2 3,mO 27 26,mG 28 0 27 false,oG 29 (cL 114 #[(xT 28)] #[142]) 27 false,oG 30 (.binOp .eql 5 (xT 29) (.const (.int .u8 46)) 5) 27 false,pT 31 27 30] [0,1,4,6,31] (cD 31 (sR [oO 32 (.build 25 #[]),sT 25 4 32,aB 5 false] [4,5] (.ret)) (.skip)) [0,1,4,6] (sR [mO 33 0,nC 34 33,fO 35 144 34 1,lO 36 3 35,bQ .add 37 3 36 1 3,nC 38 33,fO 39 144 38 1,sT 3 39 37] [0,1,4,6] (sQ [mO 40 0,oO 41 (cL 112 #[(xT 40),(.const (.int .u8 91))] #[142,5]),oO 42 (.unOp .not 4 (xT 41))] [0,1,4,6,42] (cD 42 (sR [oO 43 (.build 25 #[]),sT 25 4 43,aB 5 false] [4,5] (.ret)) (.skip)) [0,1,4,6] (sR [mO 45 0,mO 46 6,mO 47 1,bQ .sub 48 3 47 1 3,oO 49 (cL 115 #[(xT 45),(xT 46),(.const (.int .u8 93)),(xT 48)] #[142,3,5,3]),mO 44 49,xO 50 44 0,xO 51 44 1,aO 7 50,aO 8 51] [4,6,7,8] (sR [mO 52 6,mO 53 7,oO 54 (.build 25 #[(0,(xT 52)),(2,(xT 53))]),mO 55 8,sT 25 4 54,aO 5 55] [4,5] (.ret))))))))))
theorem Fo:BP Tryz.prog 100 56 [(.cell 4 25),(.tmp 5)] DD:=AP Tryz.func100
def Np:CC:=sR [aL 2 25 [0],aI 3 0] [0,2] (sR [mO 7 0,oO 8 (.build 144 #[(0,(xT 7))]),bX 9 144 8 [1],aO 4 9] [0,2,4] (sR [mO 11 4,oO 12 (cL 100 #[(xT 11),(nI 64)] #[142,3]),mO 10 12,xO 13 10 0,xO 14 10 1,aL 5 25 [2],sT 25 5 13,aO 6 14] [0,2,4,5,6] (sQ [mO 15 6,oO 16 (.unOp .not 4 (xT 15)),mO 17 16,mG 18 4 17 false,oG 19 (.nilCheck (xT 18)) 17 false,fG 20 144 19 1 17 false,lG 21 3 20 17 false,mG 22 0 17 false,oG 23 (bL 22 9) 17 false,oG 24 (bO .lss 3 21 23 3) 17 false,pT 25 17 24,mO 26 25,lG 27 25 5 26 false,oG 28 (cL 87 #[(xT 27)] #[25]) 26 false,oG 29 (.unOp .not 4 (xT 28)) 26 false,pT 30 26 29] [2,5,30] (cD 30 (sR [oO 31 (.build 25 #[]),sT 25 2 31,aI 3 11] [2,3] (.ret)) (.skip)) [2,5] (sR [lO 32 25 5,sT 25 2 32,aI 3 0] [2,3] (.ret)))))
theorem Tr:BP Tryz.prog 81 33 [(.cell 2 25),(.tmp 3)] Np:=AP Tryz.func81
def Je:CC:=sR [oO 2 (.assign (.const (.string { data:=#[] })))] [0] (sR [mO 4 0,oO 5 (.binOp .rem 45 (xT 4) (.const (.int .u64 16)) 45),mO 6 0,oO 7 (.binOp .rem 45 (xT 6) (.const (.int .u64 16)) 45),oO 8 (.binOp .add 45 (xT 7) (.const (.int .u64 1)) 45),oO 9 (.slice 9 (.const (.string { data:=#[48,49,50,51,52,53,54,55,56,57,97,98,99,100,101,102] })) (some (xT 5)) (some (xT 8)) none),aO 3 9] [0,3] (sQ [mO 10 0,oO 11 (.binOp .lss 45 (xT 10) (.const (.int .u64 16)) 45)] [0,3,11] (cD 11 (sR [mO 12 3,aO 2 12] [2] (.ret)) (.skip)) [0,3] (sR [mO 13 0,oO 14 (.binOp .quo 45 (xT 13) (.const (.int .u64 16)) 45),cA 15 26 14 45,mO 16 3,bB .add 17 9 15 16 9,aO 2 17] [2] (.ret))))
theorem OQ:BP Tryz.prog 26 18 [(.tmp 2)] Je:=AP Tryz.func26
def DA:CC:=sQ [mO 5 4,mO 6 0,bN 7 6 23,bB .lss 8 3 5 7 3] [0,3,4,8] (cD 8 (.skip) (.exit 0)) [0,3,4] (.seq (.block 1 (sQ [mO 11 4,bQ .gtr 12 3 11 0 3] [0,3,4,12] (cD 12 (.reg [mO 13 3,oO 14 (.binOp .add 9 (xT 13) (.const (.string { data:=#[44] })) 9),aO 3 14] [0,3,4]) (.skip)) [0,3,4] (.reg [mO 15 3,mO 16 0,mO 17 4,iO 18 23 16 17,lO 19 25 18,cA 20 25 19 25,bB .add 21 9 15 20 9,aO 3 21] [0,3,4]))) (.keep [0,3,4] (.reg [mO 9 4,bQ .add 10 3 9 1 3,aO 4 10] [0,3,4]))) 
def HW:CC:=sR [oO 2 (.assign (.const (.string { data:=#[] })))] [0] (sR [oO 3 (.assign (.const (.string { data:=#[] })))] [0,3] (sQ [aI 4 0] [0,3,4] (.block 0 (.loop DA)) [3] (sR [mO 22 3,aO 2 22] [2] (.ret))))
theorem M6:BP Tryz.prog 42 23 [(.tmp 2)] HW:=AP Tryz.func42
def EY:CC:=.reg [mO 42 3,fO 43 25 1 1,lO 44 22 43,mO 45 4,iO 46 22 44 45,lO 47 45 46,cA 48 26 47 45,bB .add 49 9 42 48 9,aO 3 49] [1,3,4]
def CT:CC:=sQ [mO 31 4,fO 32 25 1 1,lO 33 22 32,bN 34 33 22,bB .lss 35 3 31 34 3] [1,3,4,35] (cD 35 (.skip) (.exit 0)) [1,3,4] (.seq (.block 1 (sQ [mO 38 4,bQ .gtr 39 3 38 0 3] [1,3,4,39] (cD 39 (.reg [mO 40 3,oO 41 (.binOp .add 9 (xT 40) (.const (.string { data:=#[44] })) 9),aO 3 41] [1,3,4]) (.skip)) [1,3,4] EY)) (.keep [1,3,4] (.reg [mO 36 4,bQ .add 37 3 36 1 3,aO 4 37] [1,3,4]))) 
def HN:CC:=sR [bX 1 25 0 [0],oO 2 (.assign (.const (.string { data:=#[] })))] [1] (sQ [fO 5 25 1 0,lO 6 3 5,bQ .eql 7 3 6 0 3] [1,7] (cD 7 (sR [oO 2 (.assign (.const (.string { data:=#[95] })))] [2] (.ret)) (.skip)) [1] (sQ [fO 8 25 1 0,lO 9 3 8,bQ .eql 10 3 9 10 3] [1,10] (cD 10 (sR [fO 11 25 1 1,lO 12 22 11,oO 13 (.indexAddr 22 (xT 12) (nI 0)),lO 14 45 13,cA 15 26 14 45,aO 2 15] [2] (.ret)) (.skip)) [1] (sQ [fO 16 25 1 0,lO 17 3 16,bQ .gtr 18 3 17 1 3] [1,18] (cD 18 (sR [fO 19 25 1 0,lS 20 3 19 1,fO 21 25 1 0,lS 22 3 21 3,bQ .add 23 3 22 1 3,oO 24 (.slice 9 (.const (.string { data:=#[46,46,118,98,121,116,102,101,112,99] })) (some (xT 20)) (some (xT 23)) none),oO 25 (.binOp .add 9 (xT 24) (.const (.string { data:=#[91] })) 9),fO 26 25 1 2,lO 27 23 26,⟨some 28,(cL 42 #[(xT 27)] #[23]),none,[],9,[1,3],false⟩,bB .add 29 9 25 28 9,oO 30 (.binOp .add 9 (xT 29) (.const (.string { data:=#[93] })) 9),aO 2 30] [2] (.ret)) (.skip)) [1] (sR [oO 3 (.assign (.const (.string { data:=#[123] })))] [1,3] (sQ [aI 4 0] [1,3,4] (.block 0 (.loop CT)) [1,3] (sQ [fO 50 25 1 2,lO 51 23 50,bN 52 51 23,bQ .gtr 53 3 52 0 3] [1,3,53] (cD 53 (.reg [mO 54 3,oO 55 (.binOp .add 9 (xT 54) (.const (.string { data:=#[124] })) 9),fO 56 25 1 2,lO 57 23 56,cA 58 42 57 23,bB .add 59 9 55 58 9,aO 3 59] [3]) (.skip)) [3] (sR [mO 60 3,oO 61 (.binOp .add 9 (xT 60) (.const (.string { data:=#[125] })) 9),aO 2 61] [2] (.ret))))))))
theorem L3:BP Tryz.prog 25 62 [(.tmp 2)] HN:=AP Tryz.func25
def Eo:CC:=sR [mO 52 7,oO 53 (.binOp .mul 45 (xT 52) (.const (.int .u64 16)) 45),mO 54 9,oO 55 (.convert 3 45 (xT 54)),bB .add 56 45 53 55 45,aO 7 56] [0,1,7,8] (.reg [mO 57 8,bQ .add 58 3 57 1 3,aO 8 58] [0,1,7,8])
def BE:CC:=sQ [mO 11 8,mO 12 0,bN 13 12 9,bB .lss 14 3 11 13 3,mO 15 14,mG 16 8 15 true,mG 17 1 15 true,oG 18 (bO .sub 3 16 17 3) 15 true,oG 19 (.binOp .lss 3 (xT 18) (nI 17) 3) 15 true,pF 20 15 19] [0,1,7,8,20] (cD 20 (.skip) (.exit 0)) [0,1,7,8] (.block 1 (sR [aI 9 0] [0,1,7,8] (sQ [mO 21 0,mO 22 8,oO 23 (.index 9 (xT 21) (xT 22)),oO 24 (.binOp .geq 5 (xT 23) (.const (.int .u8 48)) 5),mO 25 24,mG 26 0 25 true,mG 27 8 25 true,oG 28 (.index 9 (xT 26) (xT 27)) 25 true,oG 29 (.binOp .leq 5 (xT 28) (.const (.int .u8 57)) 5) 25 true,pF 30 25 29] [0,1,7,8,30] (cD 30 (.reg [mO 31 0,mO 32 8,oO 33 (.index 9 (xT 31) (xT 32)),oO 34 (.binOp .sub 5 (xT 33) (.const (.int .u8 48)) 5),oO 35 (.convert 5 3 (xT 34)),aO 9 35] [0,1,7,8,9]) (sR [mO 36 0,mO 37 8,oO 38 (.index 9 (xT 36) (xT 37)),oO 39 (.binOp .geq 5 (xT 38) (.const (.int .u8 97)) 5),mO 40 39,mG 41 0 40 true,mG 42 8 40 true,oG 43 (.index 9 (xT 41) (xT 42)) 40 true,oG 44 (.binOp .leq 5 (xT 43) (.const (.int .u8 102)) 5) 40 true,pF 45 40 44] [0,1,7,8,45] (cD 45 (.reg [mO 46 0,mO 47 8,oO 48 (.index 9 (xT 46) (xT 47)),oO 49 (.binOp .sub 5 (xT 48) (.const (.int .u8 97)) 5),oO 50 (.convert 5 3 (xT 49)),bQ .add 51 3 50 10 3,aO 9 51] [0,1,7,8,9]) (.exit 0)))) [0,1,7,8,9] Eo)))
def GL:CC:=sR [mO 59 7,mO 60 8,mO 61 8,mO 62 1,bB .gtr 63 3 61 62 3,mO 64 63,mG 65 8 64 true,mG 66 1 64 true,oG 67 (bO .sub 3 65 66 3) 64 true,oG 68 (.binOp .lss 3 (xT 67) (nI 17) 3) 64 true,pF 69 64 68,mO 70 69,mG 71 8 70 true,mG 72 1 70 true,oG 73 (.binOp .add 3 (xT 72) (nI 1) 3) 70 true,oG 74 (bO .eql 3 71 73 3) 70 true,mG 75 74 70 true,mG 76 0 75 false,mG 77 1 75 false,oG 78 (.index 9 (xT 76) (xT 77)) 75 false,oG 79 (.binOp .neq 5 (xT 78) (.const (.int .u8 48)) 5) 75 false,oG 80 (.pick (xT 75) (nB true) (xT 79)) 70 true,pF 81 70 80,aO 4 59,aO 5 60,aO 6 81] [4,5,6] (.ret) 
def G6:CC:=sR [oO 4 (.assign (.const (.int .u64 0))),aI 5 0,aB 6 false] [0,1] (sR [oO 7 (.assign (.const (.int .u64 0)))] [0,1,7] (sR [mO 10 1,aO 8 10] [0,1,7,8] (.seq (.block 0 (.loop BE)) (.keep [0,1,7,8] GL))))
theorem Ly:BP Tryz.prog 109 82 [(.tmp 4),(.tmp 5),(.tmp 6)] G6:=AP Tryz.func109
def CD:CC:=sQ [mO 4 3,bQ .lss 5 3 4 10 3] [0,3,5] (cD 5 (.skip) (.exit 0)) [0,3] (.seq (.block 1 (sR [mO 8 3,oO 9 (.index 9 (.const (.string { data:=#[46,46,118,98,121,116,102,101,112,99] })) (xT 8)),mO 10 0,bB .eql 11 5 9 10 5] [0,3,11] (cD 11 (sR [mO 12 3,aO 2 12] [2] (.ret)) (.skip)))) (.keep [0,3] (.reg [mO 6 3,bQ .add 7 3 6 1 3,aO 3 7] [0,3]))) 
def G8:CC:=sR [aI 2 0] [0] (sQ [aI 3 2] [0,3] (.block 0 (.loop CD)) [] (sR [aI 2 0] [2] (.ret)))
theorem LB:BP Tryz.prog 92 13 [(.tmp 2)] G8:=AP Tryz.func92
def DG:CC:=sQ [mO 64 17,oO 65 (.unOp .not 4 (xT 64)),mO 66 65,mG 67 16 66 false,mG 68 0 66 false,oG 69 (bL 68 9) 66 false,oG 70 (bO .geq 3 67 69 3) 66 false,pT 71 66 70] [0,2,3,4,13,14,15,16,71] (cD 71 (sR [aN 10,aI 11 0,aB 12 false] [10,11,12] (.ret)) (.skip)) [0,2,3,4,13,14,15,16] (sR [mO 72 13,lO 73 25 15,oO 74 (.buildSlice 23 1 #[(0,(xT 73))]),aP 75 72 74 23 23 [1],aO 13 75] [0,2,3,4,13,14,16] (sR [mO 76 16,bQ .add 77 3 76 1 3,aO 1 77] [0,1,2,3,4,13,14,16] (sQ [mO 78 0,mO 79 16,oO 80 (.index 9 (xT 78) (xT 79)),mO 81 3,bB .eql 82 5 80 81 5] [0,1,2,3,4,13,14,16,82] (cD 82 (sR [mO 83 13,mO 84 1,aO 10 83,aO 11 84,aB 12 true] [10,11,12] (.ret)) (.skip)) [0,1,2,3,4,13,14,16] (sR [mO 85 0,mO 86 16,oO 87 (.index 9 (xT 85) (xT 86)),oO 88 (.binOp .neq 5 (xT 87) (.const (.int .u8 44)) 5)] [0,1,2,3,4,13,14,88] (cD 88 (sR [aN 10,aI 11 0,aB 12 false] [10,11,12] (.ret)) (.skip))))))
def DK:CC:=sQ [mO 35 14,mO 36 0,bN 37 36 9,bB .leq 38 3 35 37 3] [0,1,2,3,4,13,14,38] (cD 38 (.skip) (.exit 0)) [0,1,2,3,4,13,14] (.seq (.block 1 (sR [oO 41 (.build 25 #[]),aL 15 25 [0],sT 25 15 41] [0,1,2,3,4,13,14,15] (sR [mO 42 1,aO 16 42,aB 17 false] [0,1,2,3,4,13,14,15] (sQ [mO 43 2] [0,1,2,3,4,13,14,15,43] (cD 43 (sR [mO 45 0,mO 46 1,cB 47 109 45 46 9 3,mO 44 47,xO 48 44 0,xO 49 44 1,xO 50 44 2,aO 18 48,aO 19 49,aO 20 50] [0,2,3,4,13,14,15,18,19,20] (sR [mO 51 18,oO 52 (.buildSlice 22 1 #[(0,(xT 51))]),oO 53 (.build 25 #[(0,(nI 10)),(1,(xT 52))]),sT 25 15 53] [0,2,3,4,13,14,15,19,20] (sR [mO 54 19,aO 16 54] [0,2,3,4,13,14,15,16,20] (.reg [mO 55 20,aO 17 55] [0,2,3,4,13,14,15,16,17])))) (.reg [mO 57 0,mO 58 1,mO 59 4,cE 60 71 57 58 59 9 3 3,mO 56 60,xO 61 56 0,xO 62 56 1,xO 63 56 2,sT 25 15 61,aO 16 62,aO 17 63] [0,2,3,4,13,14,15,16,17])) [0,2,3,4,13,14,15,16,17] DG)))) (.keep [0,1,2,3,4,13,14] (.reg [mO 39 14,bQ .add 40 3 39 1 3,aO 14 40] [0,1,2,3,4,13,14]))) 
def Ef:CC:=sR [aN 10,aI 11 0,aB 12 false] [0,1,2,3,4] (sR [aN 13] [0,1,2,3,4,13] (sQ [mO 21 1,mO 22 0,bN 23 22 9,bB .lss 24 3 21 23 3,mO 25 24,mG 26 0 25 true,mG 27 1 25 true,oG 28 (.index 9 (xT 26) (xT 27)) 25 true,mG 29 3 25 true,oG 30 (bO .eql 5 28 29 5) 25 true,pF 31 25 30] [0,1,2,3,4,13,31] (cD 31 (sR [mO 32 13,mO 33 1,bQ .add 34 3 33 1 3,aO 10 32,aO 11 34,aB 12 true] [10,11,12] (.ret)) (.skip)) [0,1,2,3,4,13] (sQ [aI 14 0] [0,1,2,3,4,13,14] (.block 0 (.loop DK)) [] (sR [aN 10,aI 11 0,aB 12 false] [10,11,12] (.ret)))))
theorem F5:BP Tryz.prog 93 89 [(.tmp 10),(.tmp 11),(.tmp 12)] Ef:=AP Tryz.func93
def BH:CC:=sQ [mO 31 10,mO 32 0,bN 33 32 9,bB .leq 34 3 31 33 3,mO 35 34,mG 36 1 35 true,mG 37 0 35 true,oG 38 (bL 37 9) 35 true,oG 39 (bO .lss 3 36 38 3) 35 true,pF 40 35 39,mO 41 40,mG 42 0 41 true,mG 43 1 41 true,oG 44 (.index 9 (xT 42) (xT 43)) 41 true,oG 45 (.binOp .neq 5 (xT 44) (.const (.int .u8 124)) 5) 41 true,pF 46 41 45] [0,1,2,6,9,10,46] (cD 46 (.skip) (.exit 0)) [0,1,2,6,9,10] (.seq (.block 1 (sR [mO 50 0,mO 51 1,cB 52 109 50 51 9 3,mO 49 52,xO 53 49 0,xO 54 49 1,xO 55 49 2,aO 11 53,aO 12 54,aO 13 55] [0,2,6,9,10,11,12,13] (sQ [mO 56 13,oO 57 (.unOp .not 4 (xT 56)),mO 58 57,mG 59 12 58 false,mG 60 0 58 false,oG 61 (bL 60 9) 58 false,oG 62 (bO .geq 3 59 61 3) 58 false,pT 63 58 62] [0,2,6,9,10,11,12,63] (cD 63 (sR [lO 64 25 9,sT 25 6 64,aI 7 0,aB 8 false] [6,7,8] (.ret)) (.skip)) [0,2,6,9,10,11,12] (sR [fO 65 25 9 1,lO 66 22 65,mO 67 11,oO 68 (.buildSlice 22 1 #[(0,(xT 67))]),aP 69 66 68 22 22 [2],fO 70 25 9 1,sT 22 70 69] [0,2,6,9,10,12] (sR [mO 71 12,aO 1 71] [0,1,2,6,9,10] (sQ [mO 72 0,mO 73 1,oO 74 (.index 9 (xT 72) (xT 73)),oO 75 (.binOp .eql 5 (xT 74) (.const (.int .u8 125)) 5)] [0,1,2,6,9,10,75] (cD 75 (sR [lO 76 25 9,mO 77 1,bQ .add 78 3 77 1 3,sT 25 6 76,aO 7 78,aB 8 true] [6,7,8] (.ret)) (.skip)) [0,1,2,6,9,10] (sQ [mO 79 0,mO 80 1,oO 81 (.index 9 (xT 79) (xT 80)),oO 82 (.binOp .eql 5 (xT 81) (.const (.int .u8 124)) 5)] [0,1,2,6,9,10,82] (cD 82 (.exit 0) (.skip)) [0,1,2,6,9,10] (sQ [mO 83 0,mO 84 1,oO 85 (.index 9 (xT 83) (xT 84)),oO 86 (.binOp .neq 5 (xT 85) (.const (.int .u8 44)) 5),mO 87 86,mG 88 1 87 false,oG 89 (.binOp .add 3 (xT 88) (nI 1) 3) 87 false,mG 90 0 87 false,oG 91 (bL 90 9) 87 false,oG 92 (bO .geq 3 89 91 3) 87 false,pT 93 87 92,mO 94 93,mG 95 0 94 false,mG 96 1 94 false,oG 97 (.binOp .add 3 (xT 96) (nI 1) 3) 94 false,oG 98 (.index 9 (xT 95) (xT 97)) 94 false,oG 99 (.binOp .eql 5 (xT 98) (.const (.int .u8 124)) 5) 94 false,pT 100 94 99] [0,1,2,6,9,10,100] (cD 100 (sR [lO 101 25 9,sT 25 6 101,aI 7 0,aB 8 false] [6,7,8] (.ret)) (.skip)) [0,1,2,6,9,10] (.reg [mO 102 1,bQ .add 103 3 102 1 3,aO 1 103] [0,1,2,6,9,10]))))))))) (.keep [0,1,2,6,9,10] (.reg [mO 47 10,bQ .add 48 3 47 1 3,aO 10 48] [0,1,2,6,9,10])))
def AN:CC:=sQ [mO 104 1,mO 105 0,bN 106 105 9,bB .geq 107 3 104 106 3,mO 108 107,mG 109 0 108 false,mG 110 1 108 false,oG 111 (.index 9 (xT 109) (xT 110)) 108 false,oG 112 (.binOp .neq 5 (xT 111) (.const (.int .u8 124)) 5) 108 false,pT 113 108 112,mO 114 113,mG 115 1 114 false,oG 116 (.binOp .add 3 (xT 115) (nI 1) 3) 114 false,mG 117 0 114 false,oG 118 (bL 117 9) 114 false,oG 119 (bO .lss 3 116 118 3) 114 false,mG 120 119 114 false,mG 121 0 120 true,mG 122 1 120 true,oG 123 (.binOp .add 3 (xT 122) (nI 1) 3) 120 true,oG 124 (.index 9 (xT 121) (xT 123)) 120 true,oG 125 (.binOp .eql 5 (xT 124) (.const (.int .u8 125)) 5) 120 true,oG 126 (.pick (xT 120) (xT 125) (nB false)) 114 false,pT 127 114 126] [0,1,2,6,9,127] (cD 127 (sR [lO 128 25 9,sT 25 6 128,aI 7 0,aB 8 false] [6,7,8] (.ret)) (.skip)) [0,1,2,6,9] (sR [mO 130 0,mO 131 1,bQ .add 132 3 131 1 3,mO 133 2,bQ .sub 134 3 133 1 3,oO 135 (cL 93 #[(xT 130),(xT 132),(nB false),(.const (.int .u8 125)),(xT 134)] #[9,3,4,5,3]),mO 129 135,xO 136 129 0,xO 137 129 1,xO 138 129 2,aO 14 136,aO 15 137,aO 16 138] [6,9,14,15,16] (sR [mO 139 14,fO 140 25 9 2,sT 23 140 139] [6,9,15,16] (sR [lO 141 25 9,mO 142 15,mO 143 16,sT 25 6 141,aO 7 142,aO 8 143] [6,7,8] (.ret)))) 
def Br:CC:=sR [aL 6 25 [0],aI 7 0,aB 8 false] [0,1,2,6] (sR [oO 17 (.build 25 #[(0,(nI 1))]),aL 9 25 [1],sT 25 9 17] [0,1,2,6,9] (sQ [mO 18 1,mO 19 0,bN 20 19 9,bB .lss 21 3 18 20 3,mO 22 21,mG 23 0 22 true,mG 24 1 22 true,oG 25 (.index 9 (xT 23) (xT 24)) 22 true,oG 26 (.binOp .eql 5 (xT 25) (.const (.int .u8 125)) 5) 22 true,pF 27 22 26] [0,1,2,6,9,27] (cD 27 (sR [lO 28 25 9,mO 29 1,bQ .add 30 3 29 1 3,sT 25 6 28,aO 7 30,aB 8 true] [6,7,8] (.ret)) (.skip)) [0,1,2,6,9] (sQ [aI 10 0] [0,1,2,6,9,10] (.block 0 (.loop BH)) [0,1,2,6,9] AN)))
theorem BL:BP Tryz.prog 91 144 [(.cell 6 25),(.tmp 7),(.tmp 8)] Br:=AP Tryz.func91
def Bc:CC:=sR [aL 6 25 [0],aI 7 0,aB 8 false] [0,1,2,6] (sQ [mO 13 1,mO 14 0,bN 15 14 9,bB .geq 16 3 13 15 3] [0,1,2,6,16] (cD 16 (sR [oO 17 (.build 25 #[]),sT 25 6 17,aI 7 0,aB 8 false] [6,7,8] (.ret)) (.skip)) [0,1,2,6] (sQ [mO 18 0,mO 19 1,oO 20 (.index 9 (xT 18) (xT 19)),oO 21 (.binOp .eql 5 (xT 20) (.const (.int .u8 95)) 5)] [0,1,2,6,21] (cD 21 (sR [oO 22 (.build 25 #[]),mO 23 1,bQ .add 24 3 23 1 3,sT 25 6 22,aO 7 24,aB 8 true] [6,7,8] (.ret)) (.skip)) [0,1,2,6] (sQ [mO 25 2,bQ .eql 26 3 25 0 3] [0,1,2,6,26] (cD 26 (sR [oO 27 (.build 25 #[]),sT 25 6 27,aI 7 0,aB 8 false] [6,7,8] (.ret)) (.skip)) [0,1,2,6] (sQ [mO 28 0,mO 29 1,oO 30 (.index 9 (xT 28) (xT 29)),oO 31 (.binOp .eql 5 (xT 30) (.const (.int .u8 123)) 5)] [0,1,2,6,31] (cD 31 (sR [mO 32 0,mO 33 1,bQ .add 34 3 33 1 3,mO 35 2,cE 36 91 32 34 35 9 3 3,xO 37 36 0,xO 38 36 1,xO 39 36 2,sT 25 6 37,aO 7 38,aO 8 39] [6,7,8] (.ret)) (.skip)) [0,1,2,6] (sR [mO 40 0,mO 41 1,oO 42 (.index 9 (xT 40) (xT 41)),cA 43 92 42 5,aO 9 43] [0,1,2,6,9] (sQ [mO 44 9,bQ .eql 45 3 44 0 3,mO 46 45,mG 47 1 46 false,oG 48 (.binOp .add 3 (xT 47) (nI 1) 3) 46 false,mG 49 0 46 false,oG 50 (bL 49 9) 46 false,oG 51 (bO .geq 3 48 50 3) 46 false,pT 52 46 51,mO 53 52,mG 54 0 53 false,mG 55 1 53 false,oG 56 (.binOp .add 3 (xT 55) (nI 1) 3) 53 false,oG 57 (.index 9 (xT 54) (xT 56)) 53 false,oG 58 (.binOp .neq 5 (xT 57) (.const (.int .u8 91)) 5) 53 false,pT 59 53 58] [0,1,2,6,9,59] (cD 59 (sR [oO 60 (.build 25 #[]),sT 25 6 60,aI 7 0,aB 8 false] [6,7,8] (.ret)) (.skip)) [0,1,2,6,9] (sR [mO 62 0,mO 63 1,bQ .add 64 3 63 2 3,mO 65 9,bQ .leq 66 3 65 7 3,mO 67 2,bQ .sub 68 3 67 1 3,oO 69 (cL 93 #[(xT 62),(xT 64),(xT 66),(.const (.int .u8 93)),(xT 68)] #[9,3,4,5,3]),mO 61 69,xO 70 61 0,xO 71 61 1,xO 72 61 2,aO 10 70,aO 11 71,aO 12 72] [6,9,10,11,12] (sR [mO 73 9,mO 74 10,oO 75 (.build 25 #[(0,(xT 73)),(2,(xT 74))]),mO 76 11,mO 77 12,sT 25 6 75,aO 7 76,aO 8 77] [6,7,8] (.ret)))))))))
theorem Bm:BP Tryz.prog 71 78 [(.cell 6 25),(.tmp 7),(.tmp 8)] Bc:=AP Tryz.func71
def HK:CC:=sR [aL 2 25 [0],aB 3 false] [0,2] (sR [mO 8 0,oO 9 (cL 71 #[(xT 8),(nI 0),(nI 64)] #[9,3,3]),mO 7 9,xO 10 7 0,xO 11 7 1,xO 12 7 2,aL 4 25 [1],sT 25 4 10,aO 5 11,aO 6 12] [0,2,4,5,6] (sQ [mO 13 6,oO 14 (.unOp .not 4 (xT 13)),mO 15 14,mG 16 5 15 false,mG 17 0 15 false,oG 18 (bL 17 9) 15 false,oG 19 (bO .neq 3 16 18 3) 15 false,pT 20 15 19,mO 21 20,lG 22 25 4 21 false,oG 23 (cL 15 #[(xT 22),(nI 64)] #[25,3]) 21 false,oG 24 (.unOp .not 4 (xT 23)) 21 false,pT 25 21 24] [2,4,25] (cD 25 (sR [oO 26 (.build 25 #[]),sT 25 2 26,aB 3 false] [2,3] (.ret)) (.skip)) [2,4] (sR [lO 27 25 4,sT 25 2 27,aB 3 true] [2,3] (.ret))))
theorem MI:BP Tryz.prog 46 28 [(.cell 2 25),(.tmp 3)] HK:=AP Tryz.func46
end Go.Proofs.YtebihdhapepejaaGreatDoor
namespace Go.Proofs.YtebihdhapepejaaGreatDoor
open Go Go.G Go.Proofs Go.RowKit Go.PL
theorem UC {P:Program} {f:FuncId} {r:Value} (hk:LA P f=true) (l:List Value) (h:∀ (w:World) (I:Nat→Prop),Tabs P w I→Calls P f l.toArray w fun e w'=>e = .returned r∧w'=w):G.Spec P f (l.map A.v) (.v r):=by
 refine⟨hk,fun w I vs hI ht hl hr=>?_⟩;have e:vs=l.toArray:=by
  apply Array.ext
  ·simpa using hl
  ·intro i h1 h2;have h3:i<l.length:=by simpa using h2
   have:=hr i (A.v l[i]) (by simp[h3]);generalize hq:vs.getD i undef=x at this;cases this;have:vs.getD i undef=vs[i]:=by simp[h1]
   rw[this] at hq;simpa using hq
 subst e;refine(h w I ht).mono fun e w' ⟨h1,h2⟩=>⟨r,h1,?_,?_⟩
 ·subst h2;exact⟨rfl,rfl,rfl,Fa _,fun _ _=>rfl⟩
 ·exact .v _ _
theorem fR (l:List UInt8) (c:UInt8):Lib.indexByte l c=GO l c:=by
 induction l with
 |nil=>rfl
 |cons b l ih=>simp[Lib.indexByte,GO,ih]
set_option maxHeartbeats 1000000 in
set_option maxRecDepth 100000 in
theorem Sb (l:List UInt8) (c:UInt8) (w:World):Calls Tryz.prog 101 #[.string ⟨l.toArray⟩,.int .u8 c.toNat] w fun e w'=>e = .returned (.int .i64 (GO l c))∧w'=w:=by
 have h:(Extern.BytealgIndexByte.indexByte #[.string ⟨l.toArray⟩,.int .u8 c.toNat]).run Tryz.prog w = .ok (.int .i64 (GO l c)) w:=by
  rw[Lib.run_indexByteString,fR];simp
 go_enter Tryz.func101,Tryz.ntmps101
 go_wp2
 rw[run_callFunc_extern Tryz.func124 (by kernel_rfl) (by kernel_rfl) (by kernel_rfl) (e:=Extern.BytealgIndexByte.indexByte) (by kernel_rfl)];rw[h];simp only[Result.andThen];rw[Oper.upon_value]
 go_wp2
 go_ret
 exact⟨rfl,rfl⟩
theorem Kz (l:List UInt8) (c:UInt8):G.Spec Tryz.prog 101 [S l,Gy c] (.v (.int .i64 (GO l c))):=
 UC (by kernel_rfl) [.string ⟨l.toArray⟩,.int .u8 c.toNat] fun w I _=>Sb l c w
set_option maxHeartbeats 1000000 in
set_option maxRecDepth 100000 in
theorem iq (w:World) (I:Nat→Prop) (ht:Tabs Tryz.prog w I):Calls Tryz.prog 99 #[.int .u64 16] w fun e w'=>e = .returned (.int .i64 4)∧w'=w:=by
 have h0:gtab Tryz.prog 3=some (.u8,tab64):=by kernel_rfl
 have h1:=(ht.tab 3 _ h0).2 15 4 (by decide);have e:u64.wrap (bits BinOp.and u64 16 (u64.wrap (-16))*285870213051353865) / 288230376151711744=15:=by decide
 have hb:0≤u64.wrap (bits BinOp.and u64 16 (u64.wrap (-16))*285870213051353865) / 288230376151711744∧u64.wrap (bits BinOp.and u64 16 (u64.wrap (-16))*285870213051353865) / 288230376151711744<64:=by rw[e];decide
 have hc:w.cell? ⟨3,(u64.wrap (bits BinOp.and u64 16 (u64.wrap (-16))*285870213051353865) / 288230376151711744).toNat,none⟩=some (.int .u8 4):=by rw[e];exact h1
 clear e
 go_enter Tryz.func99,Tryz.ntmps99
 go_wp2
 go_ret
 exact⟨rfl,rfl⟩
set_option maxHeartbeats 1000000 in
set_option maxRecDepth 100000 in
theorem Qk (b:Nat) (w:World) (h0:w.cell? ⟨b,0,none⟩=some (.pointer (some ⟨b,0,none⟩))) :
  Calls Tryz.prog 57 #[.pointer (some ⟨b,0,none⟩)] w fun e w'=>e = .returned (.tuple #[])∧w'=w:=by
 obtain⟨j,hj,hjs⟩:=Option.map_eq_some_iff.1 (show El Tryz.prog 70=some 2 by kernel_rfl)
 go_enter Tryz.func57,Tryz.ntmps57
 go_wp2
 rw[Lib.run_neq_ptr_same w _ Tryz.underlying67 hj]
 go_wp2
 go_end0
 exact⟨rfl,rfl⟩
set_option maxHeartbeats 1000000 in
set_option maxRecDepth 100000 in
theorem PQ (b:Nat) (w:World) (h0:w.cell? ⟨b,0,none⟩=some (.pointer none)) (hsh:w.shape? b=some (70,2)) (hfz:w.frozen? ⟨b,0,none⟩=false) :
  Calls Tryz.prog 57 #[.pointer (some ⟨b,0,none⟩)] w fun e w'=>e = .returned (.tuple #[])∧w'=w.setCell ⟨b,0,none⟩ (.pointer (some ⟨b,0,none⟩)):=by
 obtain⟨j,hj,hjs⟩:=Option.map_eq_some_iff.1 (show El Tryz.prog 70=some 2 by kernel_rfl)
 go_enter Tryz.func57,Tryz.ntmps57
 go_wp2
 rw[Lib.run_to_unsafe w ⟨b,0,none⟩ Tryz.underlying67 Tryz.underlying116 hj (by rw[hjs];decide) hsh (Nat.zero_lt_succ 1)];simp only[Result.andThen];rw[Oper.upon_value]
 go_wp2
 rw[run_callFunc_extern Tryz.func74 (by kernel_rfl) (by kernel_rfl) (by kernel_rfl) (e:=Extern.AbiNoEscape.same) (by kernel_rfl)];rw[Lib.run_noEscape];simp only[Result.andThen];rw[Oper.upon_value]
 go_wp2
 rw[Lib.run_from_unsafe w ⟨b,0,none⟩ Tryz.underlying116 Tryz.underlying67 hj hsh (by kernel_rfl)];simp only[Result.andThen];rw[Oper.upon_value]
 go_wp2
 go_end0
 exact⟨rfl,rfl⟩
set_option maxHeartbeats 1000000 in
set_option maxRecDepth 100000 in
theorem WS (b g:Nat) (l:List UInt8) (cap:Nat) (w:World) (h0:l ≠ []) (hb1:w.cell? ⟨b,1,none⟩=some (.slice (some ⟨g,0,none⟩) l.length cap)) (cells:Nat) (hsh:w.shape? g=some (5,cells)) (hn:l.length≤cells) (hc:l.length≤cap) (hcm:l.length≤9223372036854775807)
  (hcell:∀ j x,l[j]? = some x→w.cell? ⟨g,j,none⟩=some (.int .u8 x.toNat)) :
  Calls Tryz.prog 35 #[.pointer (some ⟨b,0,none⟩)] w fun e w'=>e = .returned (.string ⟨l.toArray⟩)∧w'=w.drew.freeze ⟨g,0,none⟩ l.length:=by
 have hl0:l.length ≠ 0:=by simpa using h0
 have c1:w.drew.cell? ⟨b,1,none⟩=some (.slice (some ⟨g,0,none⟩) l.length cap):=hb1;have hSD:(Builtin.unsafeSliceData_ #[68] 105 #[.slice (some ⟨g,0,none⟩) l.length cap]).run Tryz.prog w.drew = .ok (.pointer (some ⟨g,0,none⟩)) w.drew:=
  Lib.run_unsafeSliceData_row _ _ _ _ _ _ (by omega)
 have hUS:(Builtin.unsafeString_ #[105,3] 9 #[.pointer (some ⟨g,0,none⟩),.int .i64 l.length]).run Tryz.prog w.drew = .ok (.string ⟨l.toArray⟩) (w.drew.freeze ⟨g,0,none⟩ l.length):=
  Lib.run_unsafeString_row w.drew 105 3 9 5 Tryz.underlying105 (by kernel_rfl) g cells hsh l h0 hn (by omega) (fun j x hx=>by rw[Addr.add_lit,Nat.zero_add];exact hcell j x hx)
 go_enter Tryz.func35,Tryz.ntmps35
 go_wp2
 go_region
 all_goals (go_wp2;go_ret;exact⟨rfl,rfl⟩)
theorem fc:G.Spec Tryz.prog 99 [.v (.int .u64 16)] (.v (.int .i64 4)):=
 UC (by kernel_rfl) [.int .u64 16] fun w I ht=>iq w I ht
def Ro (a:Bool) (l:List UInt8) (v:Nat):Fam:=⟨fun r p=>if p=[777777,70] then ⟨1,.cells [if a=true then .pob (r::[777777,70]) 1 0 else .v (.pointer none),.osl (r::[777777,70,777777,5]) v 1 0 l.length]⟩
  else if p=[777777,70,777777,5] then ⟨v,.arr 1 (l.map Gy)⟩ else ⟨0,.none⟩,fun {g δ r r'} hg hd p=>by
  by_cases h1:p=[777777,70]
  ·rw[if_pos h1,if_pos h1];refine Fam.cells_ren ?_;cases a<;>simp[A.renL,A.ren,hg,hd]
  ·rw[if_neg h1,if_neg h1];by_cases h2:p=[777777,70,777777,5]
   ·rw[if_pos h2];refine Fam.arr_ren ?_;simp[DX,A.ren,Function.comp_def]
   ·rw[if_neg h2];rfl,fun {D r} hD p=>by
  by_cases h1:p=[777777,70]
  ·rw[if_pos h1];cases a<;>simp[Ob.refs,A.refsL,A.refs,hD]
  ·rw[if_neg h1];by_cases h2:p=[777777,70,777777,5]
   ·rw[if_pos h2];simp[Ob.refs,refsL_iff,A.refs]
   ·rw[if_neg h2];trivial⟩
@[simp] theorem gz {a:Bool} {l:List UInt8} {v r:Nat} {p:Nm}:(Ro a l v).F r p=if p=[777777,70] then ⟨1,.cells [if a=true then .pob (r::[777777,70]) 1 0 else .v (.pointer none),.osl (r::[777777,70,777777,5]) v 1 0 l.length]⟩
  else if p=[777777,70,777777,5] then ⟨v,.arr 1 (l.map Gy)⟩ else ⟨0,.none⟩:=rfl
abbrev bp (r:Nat):A:=.pob (r::[777777,70]) 1 0
theorem Kj (a:Bool) (l:List UInt8) (v:Nat):FK Tryz.prog 57 (fun r=>[bp r]) (Ro a l v) (fun _=>.tup []) (Ro true l v):=by
 refine⟨Ak A8 Ay,Cb Ay,by kernel_rfl,fun w I M0 n μ vs hM hs hl hr=>?_⟩;have hd:(ov 0 ((Ro a l v).F 0) (Dl []):Hp) [0,777777,70]=⟨1,.cells [if a=true then .pob [0,777777,70] 1 0 else .v (.pointer none),.osl [0,777777,70,777777,5] v 1 0 l.length]⟩:=by simp
 have hob:=hs.ob [0,777777,70];have hver:=hs.ver [0,777777,70];have hB:BU (μ [0,777777,70]) ((ov 0 ((Ro a l v).F 0) (Dl []):Hp) [0,777777,70]).ob=true:=by rw[hd];rfl
 have htag:=hs.tag _ hB;rw[hd] at hob hver;obtain⟨cs,k1,k2,k3⟩:=hob;simp only[List.length_cons,List.length_nil] at k2;simp only[YB,beq_iff_eq] at htag
 replace htag:=htag.symm
 generalize hμ:μ [0,777777,70]=L at k1 k2 k3 hver htag hB;have harg:=hr 0 _ rfl;obtain⟨b,hb⟩:∃ b,b=L.b:=⟨_,rfl⟩;have hv0:vs.getD 0 undef = .pointer (some ⟨b,0,none⟩):=by
  generalize vs.getD 0 undef=x at harg;cases harg with
  |pob _ _ _ _ b' k' g1 g2 g3=>
   have:=g3 (by rw[hμ,hver]);rw[hμ] at this;obtain⟨rfl,rfl⟩:=this;rw[hb]
 have hvs:vs = #[.pointer (some ⟨b,0,none⟩)]:=by
  apply Array.ext
  ·simpa using hl
  ·intro i h1 h2;have:i=0:=by simp at h2;omega
   subst this;have e:vs.getD 0 undef=vs[0]:=by simp[h1]
   rw[← e,hv0];rfl
 subst hvs;obtain⟨x0,x1,hcs⟩:∃ x0 x1,cs = #[x0,x1]:=⟨cs[0]'(by omega),cs[1]'(by omega),by
  apply Array.ext
  ·simpa using k2
  ·intro i h1 h2
   match i,h2 with
   |0,_=>rfl
   |1,_=>rfl⟩
 subst hcs;have hx0:=(k3 0 _ rfl).2;have hx1:=(k3 1 _ rfl).2;simp only[show(#[x0,x1]:Array Value).getD 0 undef=x0 from rfl] at hx0;simp only[show(#[x0,x1]:Array Value).getD 1 undef=x1 from rfl] at hx1;rw[← hb,htag] at k1;have c0:w.cell? ⟨b,0,none⟩=some x0:=by rw[cell_of_row w b 0 _ _ _ k1];rfl
 cases a with
 |true=>
  simp only[if_true] at hx0;have e0:x0 = .pointer (some ⟨b,0,none⟩):=by
   cases hx0 with
   |pob _ _ _ _ b' k' g1 g2 g3=>
    have:=g3 (by rw[hμ,hver]);rw[hμ] at this;obtain⟨rfl,rfl⟩:=this;rw[hb]
  rw[e0] at c0;refine(Qk b w c0).mono fun e w' ⟨h1,h2⟩=>⟨_,h1,_,I,μ,by rw[h2];exact hs,.tup _ _ _ rfl (fun k y hk=>by simp at hk),fun i p hi=>rfl⟩
 |false=>
  simp only[Bool.false_eq_true,if_false] at hx0;have e0:x0 = .pointer none:=by cases hx0;rfl
  rw[e0] at c0;refine(PQ b w c0 (by simp[World.shape?,k1]) (by simp[World.frozen?,k1])).mono fun e w' ⟨h1,h2⟩=>?_;rw[setCell_eq_setRow w b 0 _ _ _ _ k1] at h2;subst h2;obtain⟨hx,hs'⟩:=hs.upd (C0 w b (#[x0,x1].setIfInBounds 0 (.pointer (some ⟨b,0,none⟩)))) [0,777777,70] (μ [0,777777,70]) (.cells [.pob [0,777777,70] 1 0,.osl [0,777777,70,777777,5] v 1 0 l.length])
   (.inr ⟨by rw[hμ,hb],by rw[hμ];exact hB⟩) (.inr rfl) (fun _=>.inr ⟨by rw[hμ];exact hB,rfl⟩) (fun _=>by rw[hμ];simp[htag]) (fun hx=>by
    rw[Cm] at hx ⊢;rw[hμ];refine⟨#[.pointer (some ⟨b,0,none⟩),x1],?_,rfl,fun k y hk=>?_⟩
    ·rw[← hb,htag];exact setRow_heap w b _ _ _ _ k1
    ·match k,hk with
     |0,hk=>
      cases hk;exact⟨rfl,.pob _ _ _ _ _ _ (Fa _) (by rw[hμ,hver];exact Fa _) (fun _=>by rw[hμ,hb];exact⟨rfl,rfl⟩)⟩
     |1,hk=>
      cases hk;exact⟨rfl,hx.rel hx1⟩)
  rw[Cm,hμ,hver] at hs';refine⟨_,h1,_,I,μ,hs',.tup _ _ _ rfl (fun k y hk=>by simp at hk),fun i p hi=>?_⟩;have:i=0:=by omega
  subst this;by_cases hp:p=[777777,70]
  ·subst hp;simp
  ·rw[AM (by simpa using hp)];simp[hp]
def qx (v:Nat):Fam:=⟨fun r p=>if p=[777777,70] then ⟨1,.none⟩ else if p=[777777,70,777777,5] then ⟨v,.none⟩ else ⟨0,.none⟩,fun {g δ r r'} hg hd p=>by
  by_cases h1:p=[777777,70]
  ·rw[if_pos h1];rfl
  ·rw[if_neg h1];by_cases h2:p=[777777,70,777777,5]
   ·rw[if_pos h2];rfl
   ·rw[if_neg h2];rfl,fun {D r} hD p=>by
  by_cases h1:p=[777777,70]
  ·rw[if_pos h1];trivial
  ·rw[if_neg h1];by_cases h2:p=[777777,70,777777,5]
   ·rw[if_pos h2];trivial
   ·rw[if_neg h2];trivial⟩
theorem Rv (w:World) (g n:Nat):w.grownBy (w.drew.freeze ⟨g,0,none⟩ n) (some g):=by
 unfold World.freeze;split
 ·exact⟨rfl,rfl,rfl,Fa _,fun _ _ _=>rfl⟩
 ·refine⟨rfl,rfl,rfl,?_,fun k _ hk=>?_⟩
  ·show w.heap.size≤(w.heap.modify g _).size;rw[Array.size_modify];exact Fa _
  ·have:g ≠ k:=fun e=>hk (by rw[e]);show(w.heap.modify g _)[k]? = w.heap[k]?;rw[Array.getElem?_modify,if_neg this]
theorem Ug (l:List UInt8) (v:Nat) (h0:l ≠ []) (hl63:l.length≤9223372036854775807):FK Tryz.prog 35 (fun r=>[bp r]) (Ro true l v) (fun _=>S l) (qx v):=by
 refine⟨Ak A8 Ay,Bi,by kernel_rfl,fun w I M0 n μ vs hM hs hl hr=>?_⟩;have hl0:l.length ≠ 0:=by simpa using h0
 have hd:(ov 0 ((Ro true l v).F 0) (Dl []):Hp) [0,777777,70]=⟨1,.cells [.pob [0,777777,70] 1 0,.osl [0,777777,70,777777,5] v 1 0 l.length]⟩:=by simp
 have hd2:(ov 0 ((Ro true l v).F 0) (Dl []):Hp) [0,777777,70,777777,5]=⟨v,.arr 1 (l.map Gy)⟩:=by simp
 have hob:=hs.ob [0,777777,70];have hver:=hs.ver [0,777777,70];rw[hd] at hob hver;obtain⟨cs,k1,k2,k3⟩:=hob;have hob2:=hs.ob [0,777777,70,777777,5];have hver2:=hs.ver [0,777777,70,777777,5];rw[hd2] at hob2 hver2;obtain⟨q0,⟨_,q1⟩ | ⟨q1,cur,q3,q4,q5,q6,q7⟩⟩:=hob2
 ·exact(h0 (by simpa using q1)).elim
 have hB:BU (μ [0,777777,70,777777,5]) ((ov 0 ((Ro true l v).F 0) (Dl []):Hp) [0,777777,70,777777,5]).ob=true:=by rw[hd2];exact q1
 have htag:=hs.tag _ hB;simp only[Xc,beq_iff_eq] at htag
 replace htag:=htag.symm
 simp only[List.length_cons,List.length_nil] at k2;have harg:=hr 0 _ rfl;have hv0:vs.getD 0 undef = .pointer (some ⟨(μ [0,777777,70]).b,0,none⟩):=by
  generalize vs.getD 0 undef=x at harg;cases harg with
  |pob _ _ _ _ b' k' g1 g2 g3=>
   obtain⟨rfl,rfl⟩:=g3 hver.symm;rfl
 generalize hb:(μ [0,777777,70]).b=b at k1 hv0;have hvs:vs = #[.pointer (some ⟨b,0,none⟩)]:=by
  apply Array.ext
  ·simpa using hl
  ·intro i h1 h2;have:i=0:=by simp at h2;omega
   subst this;have e:vs.getD 0 undef=vs[0]:=by simp[h1]
   rw[← e,hv0];rfl
 subst hvs;have hx1:=(k3 1 _ rfl).2;have hc1:w.cell? ⟨b,1,none⟩=some (cs.getD 1 undef):=by
  rw[cell_of_row w b 1 _ _ _ k1];have:1<cs.size:=by omega
  simp[this]
 generalize cs.getD 1 undef=x1 at hx1 hc1;cases hx1 with
 |osl _ _ _ _ _ _ a cap g1 g2 g4 g5 g3=>
  obtain⟨_,⟨e1,_⟩ | ⟨_,rfl,e3⟩⟩:=g3 hver2.symm
  ·exact(hl0 e1).elim
  ·simp only[Nat.zero_mul] at hc1;have hflat:(l.map Gy).flatMap A.cells=l.map Gy:=Rk l;have hcell:∀ j x,l[j]? = some x→w.cell? ⟨(μ [0,777777,70,777777,5]).b,j,none⟩=some (.int .u8 x.toNat):=fun j x hx=>by
    have hlt:=(List.getElem?_eq_some_iff.1 hx).1;have h1:=(q7 j (Gy x) (by rw[hflat];simp[hx])).2;rw[cell_of_row w _ j _ _ _ q3];have hj:j<cur.size:=by simp at q5;rw[q4];omega
    have e:cur.getD j undef=cur[j]:=by simp[hj]
    rw[e] at h1;generalize hq:cur[j]=y at h1;cases h1;simp[hj,hq]
   have hsh:w.shape? (μ [0,777777,70,777777,5]).b=some (5,cur.size):=by simp[World.shape?,q3,htag]
   simp only[List.length_map] at q5;refine(WS b (μ [0,777777,70,777777,5]).b l cap w h0 hc1 cur.size hsh (by omega) g4 hl63 hcell).mono fun e w' ⟨h1,h2⟩=>?_;subst h2;obtain⟨hx,hs'⟩:=hs.upd (Rv w (μ [0,777777,70,777777,5]).b l.length) [0,777777,70,777777,5] (μ [0,777777,70,777777,5]) .none (.inr ⟨rfl,hB⟩) (.inr rfl) (fun h=>nomatch h) (fun h=>nomatch h) (fun _=>trivial);rw[Cm,hver2] at hs';have hs2:=hs'.drop [0,777777,70];refine⟨_,h1,_,I,μ,hs2,.v _ _,fun i p hi=>?_⟩;have:i=0:=by omega
   subst this;by_cases hp:p=[777777,70]
   ·subst hp;simp[qx,AR]
   ·rw[AM (by simpa using hp)];by_cases hp2:p=[777777,70,777777,5]
    ·subst hp2;simp[qx]
    ·rw[AM (by simpa using hp2)];simp[qx,hp,hp2]
theorem IX {α β:Type} (l:List α) (f:α→β):(l.map f).take l.length=l.map f:=by rw[Fv (by simp)]
theorem Yr {n:Nat} {c:Cx} {l:List UInt8} {v:Nat} {H:Hp} {p:Nm} (hp:H [0,777777,70]=⟨1,.cells [.pob [0,777777,70] 1 0,.osl [0,777777,70,777777,5] v 1 0 l.length]⟩) (h2:H [0,777777,70,777777,5]=⟨v,.arr 1 (l.map Gy)⟩)
  (h3:∀ p,p ≠ [777777,70]→p ≠ [777777,70,777777,5]→H (0::p)=⟨0,.none⟩):H (0::p)=(Ro true l v).F 0 p:=by
 rw[gz];by_cases h1:p=[777777,70]
 ·rw[if_pos h1,h1];exact hp
 ·rw[if_neg h1];by_cases hq:p=[777777,70,777777,5]
  ·rw[if_pos hq,hq];exact h2
  ·rw[if_neg hq];exact h3 p h1 hq
theorem CH (a:Bool) (l:List UInt8) (v:Nat) (c:UInt8) (hl:l.length+1≤140737488355328):FK Tryz.prog 54 (fun r=>[bp r,Gy c]) (Ro a l v) (fun _=>.v .nilIface) (Ro true (l++[c]) (v+1)):=by
 refine C5 Hb (by simp) (Ak A8 (Ak Bi Ay)) Bi fun w0 I0 M0 m0=>?_;unfold Eb;simp;refine Al 0 (Kj a l v) (fun p=>by simp) (by simp) (by simp) ?_;simp[Aa,IX,splice];refine⟨by omega,Bh rfl rfl fun p=>Yr (n:=0) (c:=J4 Tryz.prog w0 I0 M0 17 m0) (by simp[Aa]) (by simp[Aa]) (fun p h1 h2=>by simp[Aa,h1,h2])⟩
theorem Od (a:Bool) (l:List UInt8) (v:Nat) (m:List UInt8) (hl:l.length+m.length≤140737488355328):FK Tryz.prog 37 (fun r=>[bp r,S m]) (Ro a l v) (fun _=>.tup [.v (.int .i64 m.length),.v .nilIface]) (Ro true (l++m) (v+1)):=by
 refine C5 GS (by simp) (Ak A8 (Ak Bi Ay)) (Cb (Ak Bi (Ak Bi Ay))) fun w0 I0 M0 m0=>?_;unfold Dm;simp;refine Al 0 (Kj a l v) (fun p=>by simp) (by simp) (by simp) ?_;simp[Aa,IX,splice];refine⟨by omega,Bh rfl rfl fun p=>Yr (n:=0) (c:=J4 Tryz.prog w0 I0 M0 19 m0) (by simp[Aa]) (by simp[Aa]) (fun p h1 h2=>by simp[Aa,h1,h2])⟩
end Go.Proofs.YtebihdhapepejaaGreatDoor
namespace Go.Proofs.YtebihdhapepejaaGreatDoor
open Go Go.G Go.Proofs
abbrev iv (n:Int):A:=.v (.int .i64 n)
abbrev uv (n:Int):A:=.v (.int .u64 n)
abbrev bv (b:Bool):A:=.v (.bool b)
theorem Wf (w:Int) (m:Nat):w / 2 / 2 ^ m=w / 2 ^ (m+1):=by
 rw[Int.ediv_ediv_of_nonneg (by decide),Int.pow_succ,Int.mul_comm]
theorem Bs {n:Int} (h0:-9223372036854775808≤n) (h1:n<9223372036854775808):i64.wrap n=n:=by rw[IntKind.wrap_i64];omega
theorem DU {n m:Int} (h0:-9223372036854775808 ≤ n:=by omega) (h1:n<9223372036854775808:=by omega) (h:n=m:=by omega):i64.wrap n=m:=by rw[Bs h0 h1];exact h
theorem A7 (i:Nat) (h:i<9223372036854775807:=by omega):i64.wrap ((i:Int)+1)=((i+1:Nat):Int):=by rw[Bs (by omega) (by omega)];omega
theorem EK {n:Int} (h0:-9223372036854775808 ≤ n:=by omega) (h1:n<9223372036854775808:=by omega):i64.wrap n=n:=Bs h0 h1
theorem AX {n:Int} (h0:0≤n) (h1:n<18446744073709551616):u64.wrap n=n:=by rw[IntKind.wrap_u64];omega
structure Pt where
 (kind off data ptrs code count seg:Int)
 dbl:Bool
deriving DecidableEq
@[simp] def Pt.a (p:Pt):A:=.agg [iv p.kind,iv p.off,iv p.data,iv p.ptrs,iv p.code,iv p.count,iv p.seg,bv p.dbl]
def mQ (w:Int):Int:=if w / 4 % 1073741824<536870912 then w / 4 % 1073741824 else w / 4 % 1073741824-1073741824
def NY (w:Int):Pt:=
 if w=0 then ⟨0,0,0,0,0,0,0,false⟩
 else if w % 4=0 then ⟨1,mQ w,w / 4294967296 % 65536,w / 281474976710656,0,0,0,false⟩
 else if w % 4=1 then ⟨2,mQ w,0,0,w / 4294967296 % 8,w / 34359738368,0,false⟩
 else if w % 4=2 then ⟨3,w / 8 % 536870912,0,0,0,0,w / 4294967296,decide (w / 4 % 2=1)⟩
 else ⟨4,0,0,0,0,0,0,false⟩
end Go.Proofs.YtebihdhapepejaaGreatDoor
namespace Go.PL
structure WE where
 at_:Int
 mask:Int
 old:Int
 new:Int
mutual
inductive E where
 |mk (kind:Int) (old new:T) (words:List WE) (kids:List KE) (list:Int) (ops:List OP)
inductive KE where
 |mk (at_:Int) (e:E)
inductive OP where
 |mk (kind n:Int) (l:List T) (e:E)
end
namespace E
def kind:E→Int | mk k _ _ _ _ _ _=>k
def old:E→T | mk _ o _ _ _ _ _=>o
def new:E→T | mk _ _ n _ _ _ _=>n
def words:E→List WE | mk _ _ _ w _ _ _=>w
def kids:E→List KE | mk _ _ _ _ k _ _=>k
def list:E→Int | mk _ _ _ _ _ l _=>l
def ops:E→List OP | mk _ _ _ _ _ _ o=>o
variable {k l:Int} {o n:T} {w:List WE} {ks:List KE} {os:List OP}
@[simp] theorem kind_mk:(mk k o n w ks l os).kind=k:=rfl
@[simp] theorem old_mk:(mk k o n w ks l os).old=o:=rfl
@[simp] theorem new_mk:(mk k o n w ks l os).new=n:=rfl
@[simp] theorem words_mk:(mk k o n w ks l os).words=w:=rfl
@[simp] theorem kids_mk:(mk k o n w ks l os).kids=ks:=rfl
@[simp] theorem list_mk:(mk k o n w ks l os).list=l:=rfl
@[simp] theorem ops_mk:(mk k o n w ks l os).ops=os:=rfl
end E
namespace KE
def at_:KE→Int | mk a _=>a
def e:KE→E | mk _ e=>e
@[simp] theorem at_mk {a:Int} {e:E}:(mk a e).at_=a:=rfl
@[simp] theorem e_mk {a:Int} {e:E}:(mk a e).e=e:=rfl
end KE
namespace OP
def kind:OP→Int | mk k _ _ _=>k
def n:OP→Int | mk _ n _ _=>n
def l:OP→List T | mk _ _ l _=>l
def e:OP→E | mk _ _ _ e=>e
variable {k m:Int} {t:List T} {x:E}
@[simp] theorem kind_mk:(mk k m t x).kind=k:=rfl
@[simp] theorem n_mk:(mk k m t x).n=m:=rfl
@[simp] theorem l_mk:(mk k m t x).l=t:=rfl
@[simp] theorem e_mk:(mk k m t x).e=x:=rfl
end OP
abbrev E0:E:=.mk 0 T0 T0 [] [] 0 []
mutual
theorem E.ind {P:E→Prop} (h:∀ k o n w ks l os,(∀ x,x ∈ ks→P x.e)→(∀ x,x ∈ os→P x.e)→P (.mk k o n w ks l os)):∀ e,P e
 |.mk k o n w ks l os=>h k o n w ks l os (E.indK h ks) (E.indO h os)
theorem E.indK {P:E→Prop} (h:∀ k o n w ks l os,(∀ x,x ∈ ks→P x.e)→(∀ x,x ∈ os→P x.e)→P (.mk k o n w ks l os)):∀ (ks:List KE),∀ x,x ∈ ks→P x.e
 |[],_,hx=>nomatch hx
 |.mk a e::ks,x,hx=>by
  rcases List.mem_cons.1 hx with q | hx
  ·rw[q];exact E.ind h e
  ·exact E.indK h ks x hx
theorem E.indO {P:E→Prop} (h:∀ k o n w ks l os,(∀ x,x ∈ ks→P x.e)→(∀ x,x ∈ os→P x.e)→P (.mk k o n w ks l os)):∀ (os:List OP),∀ x,x ∈ os→P x.e
 |[],_,hx=>nomatch hx
 |.mk a n l e::os,x,hx=>by
  rcases List.mem_cons.1 hx with q | hx
  ·rw[q];exact E.ind h e
  ·exact E.indO h os x hx
end
def Cv (t:T):Bool:=decide (t.kind=0)&&t.words.isEmpty&&t.kids.isEmpty
def J6 (e:E):Bool:=decide (e.kind=0)&&Cv e.old&&Cv e.new&&(e.words.isEmpty&&e.kids.isEmpty&&e.ops.isEmpty)&&decide (e.list=0)
def DJ (w mask:Int):Bool:=(List.range 8).all fun i=>decide (mask / 2 ^ i % 2=1) || decide (w / 256 ^ i % 256=0)
def G2 (last:Int) (w:WE):Bool:=!(decide (w.at_≤last) || decide (w.at_ > 65534) || decide (w.mask=0) || !DJ w.old w.mask || !DJ w.new w.mask)
def Bq:Int→List WE→Bool
 |_,[]=>true
 |last,w::l=>G2 last w&&Bq w.at_ l
def JF (n:Int):Int:=if n > 1048576 then 1048576 else n
def Bn (o:OP):Int:=if o.kind=3 then 1 else o.n+o.l.length
def A2:Int→Int→List OP→Int × Int
 |n,m,[]=>(n,m)
 |n,m,o::l=>A2 (JF (if o.kind ≠ 2 then n+Bn o else n)) (JF (if o.kind ≠ 1 then m+Bn o else m)) l
def EW (list:Int) (o:OP):Bool:=
 if o.kind=0 then decide (1≤o.n)&&decide (o.n≤1048576)&&o.l.isEmpty&&J6 o.e
 else if o.n ≠ 0∨o.kind<0∨o.kind > 3 then false
 else if o.kind<3 then (o.l.all fun t=>Ax 64 (.mk list [] [t]))&&!o.l.isEmpty&&J6 o.e
 else true
def KR (list:Int) (o:OP):Bool:=o.l.isEmpty&&!decide (o.e.kind=0)&&!decide (list≤7)
def KD (list:Int) (o:OP):Bool:=decide (list=8) || decide (o.e.kind=2) || decide (o.e.kind=1)&&decide (o.e.old.kind=1)&&decide (o.e.new.kind=1)
def Ch (d:Nat) (k:Int) (o n:T) (nw nk:Nat) (list:Int) (no:Nat):Bool:=
 !(decide (d=0) || decide (k<0) || decide (k > 3))&&!(!decide (k=1)&&!(Cv o&&Cv n) || !decide (k=2)&&decide (nw+nk > 0) || !decide (k=3)&&(!decide (list=0) || decide (no > 0)))
mutual
def AQ:Nat→E→Bool
 |d,.mk k o n ws ks l os=>
  if Ch d k o n ws.length ks.length l os.length=false then false
  else if k=1 then Ax 64 o&&Ax 64 n&&!decide (o.kind=10)&&!decide (n.kind=10)
  else if Bq (-1) ws=false then false
  else if Cu (d-1) (-1) ks=false then false
  else if k=3∧(l<2∨l > 9) then false
  else if Ct (d-1) l os=false then false
  else decide ((A2 0 0 os).1<1048576)&&decide ((A2 0 0 os).2<1048576)
def Cu:Nat→Int→List KE→Bool
 |_,_,[]=>true
 |d,last,.mk a e::l=>!(decide (a≤last) || decide (a > 65534) || decide (e.kind=0))&&AQ d e&&Cu d a l
def Ct:Nat→Int→List OP→Bool
 |_,_,[]=>true
 |d,list,.mk k n t e::l=>D8 d list (.mk k n t e)&&Ct d list l
def D8:Nat→Int→OP→Bool
 |d,list,.mk k n t e=>EW list (.mk k n t e)&&(if k=3 then KR list (.mk k n t e)&&AQ d e&&KD list (.mk k n t e) else true)
end
theorem Gi (d:Nat) (k:Int) (o n:T) (ws:List WE) (ks:List KE) (l:Int) (os:List OP):AQ d (.mk k o n ws ks l os) =
  if Ch d k o n ws.length ks.length l os.length=false then false
  else if k=1 then Ax 64 o&&Ax 64 n&&!decide (o.kind=10)&&!decide (n.kind=10)
  else if Bq (-1) ws=false then false
  else if Cu (d-1) (-1) ks=false then false
  else if k=3∧(l<2∨l > 9) then false
  else if Ct (d-1) l os=false then false
  else decide ((A2 0 0 os).1<1048576)&&decide ((A2 0 0 os).2<1048576):=by rw[AQ]
@[simp] theorem gm (d:Nat) (last:Int):Cu d last []=true:=by rw[Cu]
@[simp] theorem EA (d:Nat) (last:Int) (x:KE) (l:List KE):Cu d last (x::l)=(!(decide (x.at_≤last) || decide (x.at_ > 65534) || decide (x.e.kind=0))&&AQ d x.e&&Cu d x.at_ l):=by cases x;rw[Cu];rfl
@[simp] theorem gB (d:Nat) (list:Int):Ct d list []=true:=by rw[Ct]
@[simp] theorem Jz (d:Nat) (list:Int) (x:OP) (l:List OP):Ct d list (x::l)=(D8 d list x&&Ct d list l):=by cases x;rw[Ct]
theorem FC (d:Nat) (list:Int) (x:OP):D8 d list x=(EW list x&&(if x.kind=3 then KR list x&&AQ d x.e&&KD list x else true)):=by cases x;rw[D8];rfl
theorem rightOs_all {d:Nat} {list:Int}:∀ {l:List OP},Ct d list l=true ↔ ∀ x,x ∈ l→D8 d list x=true
 |[]=>by simp
 |x::l=>by simp[rightOs_all (l:=l)]
mutual
def GK:Nat→Int→E→Int
 |d,n,.mk _ o nn ws ks _ os=>if d=0∨n-1-ws.length-os.length<0 then -1 else Fz (d-1) (Ew (d-1) (PM n ws.length os.length o nn) ks) os
def Ew:Nat→Int→List KE→Int
 |_,n,[]=>n
 |d,n,.mk _ e::l=>if n<0 then n else Ew d (GK d n e) l
def Fz:Nat→Int→List OP→Int
 |_,n,[]=>n
 |d,n,.mk _ _ t e::l=>if n<0 then n else Fz d (if AJ 80 n t<0 then AJ 80 n t else GK d (AJ 80 n t) e) l
def PM:Int→Nat→Nat→T→T→Int
 |n,a,b,o,nn=>if AV 80 (n-1-a-b) o<0 then AV 80 (n-1-a-b) o else AV 80 (AV 80 (n-1-a-b) o) nn
end
theorem QI (d:Nat) (n:Int) (k:Int) (o nn:T) (ws:List WE) (ks:List KE) (l:Int) (os:List OP):GK d n (.mk k o nn ws ks l os)=if d=0∨n-1-ws.length-os.length<0 then -1 else Fz (d-1) (Ew (d-1) (PM n ws.length os.length o nn) ks) os:=by rw[GK]
theorem Ni (n:Int) (a b:Nat) (o nn:T):PM n a b o nn=if AV 80 (n-1-a-b) o<0 then AV 80 (n-1-a-b) o else AV 80 (AV 80 (n-1-a-b) o) nn:=by rw[PM]
@[simp] theorem iW (d:Nat) (n:Int):Ew d n []=n:=by rw[Ew]
@[simp] theorem Kx (d:Nat) (n:Int) (x:KE) (l:List KE):Ew d n (x::l)=if n<0 then n else Ew d (GK d n x.e) l:=by cases x;rw[Ew];rfl
@[simp] theorem iE (d:Nat) (n:Int):Fz d n []=n:=by rw[Fz]
@[simp] theorem Ik (d:Nat) (n:Int) (x:OP) (l:List OP):Fz d n (x::l)=if n<0 then n else Fz d (if AJ 80 n x.l<0 then AJ 80 n x.l else GK d (AJ 80 n x.l) x.e) l:=by cases x;rw[Fz];rfl
def ZB (n:Int):Int:=n % 18446744073709551616
def oZ (w:WE):T:=.mk 1 [ZB (w.at_+4294967296*w.mask),w.old,w.new] []
mutual
def CE:E→T
 |.mk k o n ws ks l os=>
  if k=0 then T0
  else if k=1 then .mk 1 [ZB (k+256*l)] [o,n]
  else if k=2 then .mk 1 [ZB (k+256*l)] [Py (ws.map oZ),Py (dk ks)]
  else .mk 1 [ZB (k+256*l)] [Py (ct l os)]
def dk:List KE→List T
 |[]=>[]
 |.mk a e::l=>.mk 1 [ZB a] [CE e]::dk l
def ct:Int→List OP→List T
 |_,[]=>[]
 |list,.mk k n t e::l=>.mk 1 [ZB (k+256*n)] (if k=3 then [CE e] else if k > 0 then [.mk list [] t] else [])::ct list l
def Py:List T→T
 |[]=>T0
 |t::l=>.mk 9 [] (t::l)
end
@[simp] theorem jU:Py []=T0:=by rw[Py]
@[simp] theorem jj (t:T) (l:List T):Py (t::l) = .mk 9 [] (t::l):=by rw[Py]
end Go.PL
namespace Go.PL
theorem T.ext' {t u:T} (h1:t.kind=u.kind) (h2:t.words=u.words) (h3:t.kids=u.kids):t=u:=by
 cases t;cases u;simp at h1 h2 h3;rw[h1,h2,h3]
noncomputable def Pb (t u:T):Bool:=by classical exact decide (t=u)
theorem sameB_iff {t u:T}:Pb t u=true ↔ t=u:=by simp[Pb]
end Go.PL
namespace Go.Proofs.YtebihdhapepejaaGreatDoor
open Go Go.G Go.Proofs Go.PL
theorem Ap {P:Program} {K:PU} {rest:List CO} {s:Nat→A} {H:Hp} {dd:Option Nat} {k:Nat} {f:Bool} {nm:Nm} {ix:Nat} {un:List Nat} {l:Bool} {lg:Lg} {g:FuncId} {aa:Array Operand} {ts:Array TypeId}
  (hq:ES (s k) f=some false) (h:AD P K rest (BJ l ix ⟨[],[]⟩ lg) (Sta.put ⟨s,H⟩ dd (.v undef) H)) :
  AD P K (⟨dd,.call { callee:=.value (.func g),args:=aa,argTypes:=ts },some (k,f),nm,ix,un,l⟩::rest) lg ⟨s,H⟩:=
 Oy (q:=false) (x:=.any) hq (fun e=>by cases e) h
abbrev IT (l:List Int):A:=.sl false (l.map uv)
abbrev u8 (n:Int):A:=.v (.int .u8 n)
mutual
def tC:T→List A
 |.mk k w l=>[iv k,IT w,.sl false (lx l)]
def lx:List T→List A
 |[]=>[]
 |t::l=>.agg (tC t)::lx l
end
def tA (t:T):A:=.agg (tC t)
abbrev Eg (l:List T):A:=.sl false (l.map tA)
abbrev tX (t:T):A:=.agg [iv t.kind,IT t.words,Eg t.kids]
theorem Yt:∀ l,lx l=l.map tA
 |[]=>by rw[lx];rfl
 |t::l=>by rw[lx,Yt l];rfl
theorem ml (t:T):tC t=[iv t.kind,IT t.words,Eg t.kids]:=by cases t;rw[tC,Yt];rfl
@[simp] theorem tA_eq (t:T):tA t=tX t:=by rw[tA,ml]
def wA (w:WE):A:=.agg [iv w.at_,u8 w.mask,uv w.old,uv w.new]
abbrev wX (w:WE):A:=.agg [iv w.at_,u8 w.mask,uv w.old,uv w.new]
@[simp] theorem wA_eq (w:WE):wA w=wX w:=rfl
abbrev aV (l:List WE):A:=.sl false (l.map wA)
mutual
def eC:E→List A
 |.mk k o n w ks l os=>[iv k,iv o.kind,IT o.words,Eg o.kids,iv n.kind,IT n.words,Eg n.kids,aV w,.sl false (lh ks),iv l,.sl false (mS os)]
def lh:List KE→List A
 |[]=>[]
 |.mk a e::l=>.agg (iv a::eC e)::lh l
def mS:List OP→List A
 |[]=>[]
 |.mk k n t e::l=>.agg (iv k::iv n::Eg t::eC e)::mS l
end
def kA (x:KE):A:=.agg (iv x.at_::eC x.e)
def oA (x:OP):A:=.agg (iv x.kind::iv x.n::Eg x.l::eC x.e)
abbrev eM (l:List KE):A:=.sl false (l.map kA)
abbrev eg (l:List OP):A:=.sl false (l.map oA)
abbrev eL (e:E):List A:=[iv e.kind,iv e.old.kind,IT e.old.words,Eg e.old.kids,iv e.new.kind,IT e.new.words,Eg e.new.kids,aV e.words,eM e.kids,iv e.list,eg e.ops]
abbrev eX (e:E):A:=.agg (eL e)
abbrev kX (x:KE):A:=.agg (iv x.at_::eL x.e)
abbrev oX (x:OP):A:=.agg (iv x.kind::iv x.n::Eg x.l::eL x.e)
theorem Yj:∀ l,lh l=l.map kA
 |[]=>by rw[lh];rfl
 |.mk a e::l=>by rw[lh,Yj l];rfl
theorem Yq:∀ l,mS l=l.map oA
 |[]=>by rw[mS];rfl
 |.mk k n t e::l=>by rw[mS,Yq l];rfl
theorem gV (e:E):eC e=eL e:=by cases e;rw[eC,Yj,Yq];rfl
@[simp] theorem kA_eq (x:KE):kA x=kX x:=by rw[kA,gV]
@[simp] theorem oA_eq (x:OP):oA x=oX x:=by rw[oA,gV]
@[simp] theorem qh (l:List Int):EJ 1 (l.map uv)=true:=by simp[EJ]
@[simp] theorem qw (l:List Int):EJ 1 (l.map iv)=true:=by simp[EJ]
@[simp] theorem qd (l:List T):EJ 3 (l.map tA)=true:=by simp[EJ]
@[simp] theorem pk (l:List WE):EJ 4 (l.map wA)=true:=by simp[EJ]
@[simp] theorem pY (l:List KE):EJ 12 (l.map kA)=true:=by simp[EJ]
@[simp] theorem qB (l:List OP):EJ 14 (l.map oA)=true:=by simp[EJ]
theorem Vw {n:Nat} {l:List A}:EJ n l=true ↔ ∀ x,x ∈ l→x.cells.length=n:=by simp[EJ]
@[simp] theorem kC {n k:Nat} {l:List A} (h:EJ n l=true):EJ n (l.take k)=true:=by
 rw[Vw] at h ⊢;exact fun x hx=>h x (ZT hx)
@[simp] theorem vj {n k:Nat} {l:List A} (h:EJ n l=true):EJ n (l.drop k)=true:=by
 rw[Vw] at h ⊢;exact fun x hx=>h x (gX hx)
theorem Ed {α:Type} {H:Hp} {o:Nm} {u n sz:Nat} {l:List α} {f:α→A} (h:vr (H o) u=some (sz,l.map f)) (hn:n=l.length) (hf:∀ x,((f x).cells.length == sz&&(f x).cells.all fun y=>A.bare1 y&&y.one)=true):Jr H (.osl o u sz 0 n) (.sl false (l.map f)):=by
 subst hn;have:=fL (H:=H) (o:=o) (u:=u) (off:=0) (len:=l.length) (sz:=sz) (xs:=l.map f) (by simpa using h) (by simp) (by
  simp only[List.drop_zero];rw[Fv (by simp),List.all_map,List.all_eq_true];exact fun x _=>hf x)
 simp[Fv] at this;exact this
theorem FT {H:Hp}:Jr H (.agg [iv 0,.sl true [],.sl true []]) (tX T0):=Ee (by simp;exact⟨Ab rfl,Ad,Ad⟩)
def AU (n:Int):Prop:=-9223372036854775808≤n∧n<9223372036854775808
def D5 (n:Int):Prop:=0≤n∧n<18446744073709551616
mutual
def Gc:T→Prop
 |.mk k w l=>AU k∧(∀ x,x ∈ w→D5 x)∧w.length*8≤140737488355328∧l.length*56≤140737488355328∧Xb l
def Xb:List T→Prop
 |[]=>True
 |t::l=>Gc t∧Xb l
end
theorem wfTs_all:∀ {l:List T},Xb l ↔ ∀ t,t ∈ l→Gc t
 |[]=>by simp[Xb]
 |t::l=>by simp[Xb,wfTs_all (l:=l)]
structure sq (t:T):Prop where
 k:AU t.kind
 w:∀ x,x ∈ t.words→D5 x
 wl:t.words.length*8≤140737488355328
 kl:t.kids.length*56≤140737488355328
 ks:∀ x,x ∈ t.kids→Gc x
theorem wfT_iff {t:T}:Gc t ↔ sq t:=by
 cases t;rw[Gc,wfTs_all];exact⟨fun ⟨a,b,c,d,e⟩=>⟨a,b,c,d,e⟩,fun ⟨a,b,c,d,e⟩=>⟨a,b,c,d,e⟩⟩
def WE.wf (w:WE):Prop:=AU w.at_∧(0≤w.mask∧w.mask<256)∧D5 w.old∧D5 w.new
mutual
def HT:E→Prop
 |.mk k o n w ks l os=>(AU k∧AU l∧Gc o∧Gc n∧(∀ x,x ∈ w→WE.wf x)∧w.length*32≤140737488355328∧ks.length*208≤140737488355328∧os.length*240≤140737488355328)∧Y4 ks∧ZP os
def Y4:List KE→Prop
 |[]=>True
 |.mk a e::l=>(AU a∧HT e)∧Y4 l
def ZP:List OP→Prop
 |[]=>True
 |.mk k n t e::l=>(AU k∧AU n∧Xb t∧t.length*56≤140737488355328∧HT e)∧ZP l
end
structure Uv (x:OP):Prop where
 k:AU x.kind
 n:AU x.n
 l:∀ t,t ∈ x.l→Gc t
 ll:x.l.length*56≤140737488355328
 e:HT x.e
theorem VD:∀ {l:List KE},Y4 l ↔ ∀ x,x ∈ l→AU x.at_∧HT x.e
 |[]=>by simp[Y4]
 |.mk a e::l=>by simp[Y4,VD (l:=l)]
theorem US:∀ {l:List OP},ZP l ↔ ∀ x,x ∈ l→Uv x
 |[]=>by simp[ZP]
 |.mk k n t e::l=>by
  simp only[ZP,US (l:=l),wfTs_all,List.forall_mem_cons];exact⟨fun ⟨⟨a,b,c,d,e⟩,h⟩=>⟨⟨a,b,c,d,e⟩,h⟩,fun ⟨⟨a,b,c,d,e⟩,h⟩=>⟨⟨a,b,c,d,e⟩,h⟩⟩
structure qC (e:E):Prop where
 k:AU e.kind
 l:AU e.list
 o:Gc e.old
 n:Gc e.new
 w:∀ x,x ∈ e.words→WE.wf x
 wl:e.words.length*32≤140737488355328
 kl:e.kids.length*208≤140737488355328
 ol:e.ops.length*240≤140737488355328
 ks:∀ x,x ∈ e.kids→AU x.at_∧HT x.e
 os:∀ x,x ∈ e.ops→Uv x
theorem wfE_iff {e:E}:HT e ↔ qC e:=by
 cases e;rw[HT,VD,US];exact⟨fun ⟨⟨a,b,c,d,e,f,g,h⟩,i,j⟩=>⟨a,b,c,d,e,f,g,h,i,j⟩,fun ⟨a,b,c,d,e,f,g,h,i,j⟩=>⟨⟨a,b,c,d,e,f,g,h⟩,i,j⟩⟩
end Go.Proofs.YtebihdhapepejaaGreatDoor
namespace Go.Proofs.YtebihdhapepejaaGreatDoor
open Go Go.G Go.Proofs
theorem cN (i:Nat) (hi:i≤64) {x:Int} (h0:0≤x) (h1:x<18446744073709551616):bits .and .u64 x (2 ^ i-1)=x % 2 ^ i:=
 bits_mask .u64 64 (by decide) (fun n a b=>AX a b) i hi x h0 h1
end Go.Proofs.YtebihdhapepejaaGreatDoor
namespace Go.Proofs.YtebihdhapepejaaGreatDoor
open Go Go.G Go.Proofs Go.PL
theorem Yx:G.Spec Tryz.prog 98 [iv 16] (bv true):=by
 refine Aj Ga (by simp) fun w0 I0=>?_;unfold CM;simp;exact Ai (by decide)
def Za (i:Nat) (ds:List UInt8):List A:=List.replicate i (.v (.int .u8 0))++ds.map Gy
theorem X7 (i:Nat) (ds:List UInt8) (c:UInt8):splice (Za (i+1) ds) i [Gy c]=Za i (c::ds):=by
 unfold splice Za;rw[List.take_append_of_le_length (by simp),List.take_replicate];have e:(List.replicate (i+1) (A.v (.int .u8 0))++ds.map Gy).drop (i+[Gy c].length)=ds.map Gy:=by
  rw[List.drop_append_of_le_length (by simp)];simp
 rw[e];simp
theorem Ui (i:Nat) (ds:List UInt8):(Za i ds).length=i+ds.length:=by simp[Za]
theorem Rj (n:Nat) (h:n<16):([48,49,50,51,52,53,54,55,56,57,97,98,99,100,101,102,103,104,105,106,107,108,109,110,111,112,113,114,115,116,117,118,119,120,121,122]:List UInt8)[n]? = some (Ji n):=by
 have:∀ n:Nat,n<16→([48,49,50,51,52,53,54,55,56,57,97,98,99,100,101,102,103,104,105,106,107,108,109,110,111,112,113,114,115,116,117,118,119,120,121,122]:List UInt8)[n]? = some (Ji n):=by decide
 exact this n h
theorem Y8 (n:Nat) (h:n<18446744073709551616):bits .and .u64 (n:Int) 15=((n % 16:Nat):Int):=by
 have:=cN 4 (by decide) (x:=(n:Int)) (by omega) (by omega);simpa using this
variable {n0:Nat} {w0:World} {I0:Nat→Prop} {Q:Exit→Sta→Prop}
theorem jC:∀ (n:Nat) (i:Nat) (ds:List UInt8) (H:Hp),n<18446744073709551616→i≤65→(Am n).length≤i→H [0]=⟨1,.cells (Za i ds)⟩ →
  (∀ (H':Hp) (m i':Nat) (ds':List UInt8),H' [0]=⟨1,.cells (Za i' ds')⟩→m<16→Ji m::ds'=Am n++ds→i'+ds'.length=i+ds.length→1≤i'→i'≤65→Q (.exit 0) ⟨lk [(0,.sl true []),(1,uv m),(3,bv false),(4,bv false),(10,.sl true []),(11,S []),(12,.pob [0] 1 0),(13,iv i'),(14,uv 4),(15,uv 16),(16,uv 15),(46,bv false)],H'⟩) →
  LoopC (cx Tryz.prog w0 I0 n0) BW Q ⟨lk [(0,.sl true []),(1,uv n),(3,bv false),(4,bv false),(10,.sl true []),(11,S []),(12,.pob [0] 1 0),(13,iv i),(14,uv 4),(15,uv 16),(16,uv 15)],H⟩:=by
 intro n;induction n using Nat.strongRecOn with
 |_ n ih=>
  intro i ds H hn hi hl hH hq;refine Ae mixed BW.eq_1 ?_;have hp:=Dc n;by_cases h16:n<16
  ·simp[hH,show ¬ (16:Int)≤n by omega];exact hq H n i ds hH h16 (by rw[Ce h16];rfl) rfl (by omega) hi
  ·have hge:=Gw (n:=n) (by omega);have hp2:=Dc (n / 16);have hl2:(Am n).length=(Am (n / 16)).length+1:=by rw[hge];simp
   obtain⟨j,rfl⟩:∃ j,i=j+1:=⟨i-1,by omega⟩;have e1:i64.wrap (j:Int)=(j:Int):=EK;obtain⟨q,hqd⟩:∃ q,q=n / 16:=⟨_,rfl⟩;have e2:(n:Int) / 2 ^ min 4 u64.bits=(q:Int):=by
    rw[show min 4 u64.bits=4 from rfl];omega
   have hm:n % 16<16:=Nat.mod_lt _ (by omega);have h0:0≤(n:Int) % 16:=by omega
   have hdg:=Rj _ hm;rw[show n % 16=((n:Int) % 16).toNat by omega] at hdg;simp[hH,show(16:Int)≤n by omega,Y8 n hn,e1,e2,h0,hdg,X7,Ui];refine⟨by omega,?_⟩;refine ih q (by omega) j (Ji ((n:Int) % 16).toNat::ds) _ (by omega) (by omega) (by rw[hqd];omega) (by simp) fun H' m i' ds' g1 g2 g3 g4 g5 g6=>?_;refine hq H' m i' ds' g1 g2 ?_ (by rw[g4];simp;omega) g5 g6;rw[g3,hge,← hqd,show((n:Int) % 16).toNat=n % 16 by omega];simp
theorem TS (n:Nat) (hn:n<18446744073709551616):G.Spec Tryz.prog 79 [.sl true [],uv n,iv 16,bv false,bv false] (.tup [.sl false [],S (Am n)]):=by
 refine Aj GH (by simp) fun w0 I0=>?_;unfold Dr;simp;rw[C3.eq_1];simp;rw[Da.eq_1];simp;refine Af Yx rfl ?_;simp;refine Af fc rfl ?_;have w4:u64.wrap 4=4:=by decide
 have w16:u64.wrap 16=16:=by decide
 have w15:u64.wrap (16-1)=15:=by decide
 simp[w4,w16,w15];have hlen:=Jb 16 n (by omega) (by omega);refine jC n 65 [] _ hn (by omega) (by omega) (by simp;rfl) fun H' m i' ds' g1 g2 g3 g4 g5 g6=>?_;obtain⟨j,rfl⟩:∃ j,i'=j+1:=⟨i'-1,by omega⟩;have e1:i64.wrap (j:Int)=(j:Int):=EK;have hdg:=Rj m g2;simp at g3;simp at g4;simp[g1,e1,hdg,X7,Ui,show(j:Int)<65 by omega];rw[Dd.eq_1];simp;rw[C1.eq_1];simp;refine Lj (Qn (d:=[0]) (fun _ h=>h) 12 (.pim (Za j (Am n))) fun H1 h1=>Tt (cs:=Za j (Am n)) (by simp[h1,g3]) (Lx (List.all_eq_true.2 fun x hx=>?_)) ?_) (AA ?_)
 ·unfold Za at hx;rcases List.mem_append.1 hx with hx | hx
  ·rw[List.eq_of_mem_replicate hx];rfl
  ·obtain⟨b,_,rfl⟩:=List.mem_map.1 hx;rfl
 ·unfold A.ones Za;rw[List.all_append,List.all_map,List.all_replicate];simp
 ·have hd:((Za j (Am n)).drop j).take (65-j)=(Am n).map Gy:=by
   unfold Za;rw[List.drop_append_of_le_length (by simp),List.drop_replicate,Nat.sub_self,List.replicate_zero,List.nil_append,Fv (by rw[← g3];simp;omega)]
  simp[Ui,show(j:Int)≤65 by omega,hd];exact⟨by rw[← g3];simp;omega,AF ⟨Ad,Ab rfl,trivial⟩⟩
theorem JX (n:Nat) (hn:n<18446744073709551616):G.Spec Tryz.prog 38 [uv n,iv 16] (S (Am n)):=by
 have h1:G.Spec Tryz.prog 59 [uv n,iv 16] (S (Am n)):=by
  refine Aj GV (by simp) fun w0 I0=>?_;unfold Dt;simp;refine Af (TS n hn) rfl ?_;simp;exact Ab rfl
 refine Aj KT (by simp) fun w0 I0=>?_;unfold GW;simp;refine Af h1 rfl ?_;simp;exact Ab rfl
end Go.Proofs.YtebihdhapepejaaGreatDoor
namespace Go.Proofs.YtebihdhapepejaaGreatDoor
open Go Go.G Go.Proofs
abbrev ws (l:List Int):A:=.sl false (l.map uv)
abbrev sC (l:List (List Int)):A:=.sl false (l.map ws)
@[simp] theorem wI (l:List (List Int)):EJ 1 (l.map ws)=true:=by simp[EJ]
abbrev sA (l:List (List Int)) (z m u:Int):A:=.pim [sC l,iv z,iv m,iv u]
abbrev sG (l:List (List Int)):A:=sA l 0 0 0
def seg (l:List (List Int)) (s:Int):Option (List Int):=if 0≤s then l[s.toNat]? else none
def rl (l:List (List Int)) (s:Int):Nat:=((seg l s).map List.length).getD 0
def bb (l:List (List Int)) (s a n:Int):Bool:=decide (0≤s∧s<l.length∧0≤a∧0≤n∧a+n≤rl l s)
def OI (l:List (List Int)) (s a:Int):Option Int:=if 0≤a then (seg l s).bind fun g=>g[a.toNat]? else none
def part (l:List (List Int)) (s a n:Int):List Int:=(((seg l s).getD []).drop a.toNat).take n.toNat
def c8 (c:Int):Int:=if c=0 then 0 else if c=1 then 1 else if c=2 then 8 else if c=3 then 16 else if c=4 then 32 else 64
def jq (p:Pt):Option Int:=
 if p.kind=1 then some (p.data+p.ptrs)
 else if p.kind=2∧p.code=7 then some (p.count+1)
 else if p.kind=2∧0≤p.code∧p.code≤6∧0≤p.count∧p.count≤536870911 then some ((p.count*c8 p.code+63) / 64)
 else none
structure Lc where
 p:Pt
 s:Int
 at_:Int
deriving DecidableEq
def Pt.l (p:Pt):List A:=[iv p.kind,iv p.off,iv p.data,iv p.ptrs,iv p.code,iv p.count,iv p.seg,bv p.dbl]
@[simp] theorem Pt.l_eq (p:Pt):p.l=[iv p.kind,iv p.off,iv p.data,iv p.ptrs,iv p.code,iv p.count,iv p.seg,bv p.dbl]:=rfl
def Pt.zero:Pt:=⟨0,0,0,0,0,0,0,false⟩
def Lc.zero:Lc:=⟨Pt.zero,0,0⟩
abbrev Lc.a (x:Lc):A:=.agg [iv x.p.kind,iv x.p.off,iv x.p.data,iv x.p.ptrs,iv x.p.code,iv x.p.count,iv x.p.seg,bv x.p.dbl,iv x.s,iv x.at_]
def XV (l:List (List Int)) (x:Lc):Lc × Int:=if bb l x.s x.at_ ((jq x.p).getD 0)=true then (⟨{ x.p with off:=0 },x.s,x.at_⟩,0) else (Lc.zero,7)
def gF (l:List (List Int)) (p:Pt) (s a:Int):Lc × Int:=
 if p.kind=1∨p.kind=2 then XV l ⟨p,s,a+1+p.off⟩ else if p.kind=4 then (Lc.zero,9) else (Lc.zero,8)
def sy (l:List (List Int)):Prop:=∀ x,x ∈ l→∀ y,y ∈ x→0≤y∧y<18446744073709551616
def eQ (l:List (List Int)) (s a:Int):Lc × Int:=
 match OI l s a,OI l s (a+1) with
 |some v,some w=>
  if (NY v).kind ≠ 3∨(NY v).dbl=true then (Lc.zero,8)
  else if (NY w).kind=4 then (Lc.zero,9)
  else if ((NY w).kind ≠ 1∧(NY w).kind ≠ 2)∨(NY w).off ≠ 0 then (Lc.zero,8)
  else XV l ⟨NY w,(NY v).seg,(NY v).off⟩
 |_,_=>(Lc.zero,7)
def PW (l:List (List Int)) (s a:Int):Lc × Int:=
 match OI l s a with
 |none=>(Lc.zero,7)
 |some w=>
  if (NY w).kind=0 then (Lc.zero,0)
  else if (NY w).kind ≠ 3 then gF l (NY w) s a
  else if (NY w).dbl=true then eQ l (NY w).seg (NY w).off
  else match OI l (NY w).seg (NY w).off with
   |none=>(Lc.zero,7)
   |some v=>gF l (NY v) (NY w).seg (NY w).off
abbrev zs:List A:=[iv 0,iv 0,iv 0,iv 0,iv 0,iv 0,iv 0,bv false,iv 0,iv 0]
end Go.Proofs.YtebihdhapepejaaGreatDoor
namespace Go.Proofs.YtebihdhapepejaaGreatDoor
open Go Go.G Go.Proofs Go.PL
structure Rf where
 kind:Int
 s:Int
 at_:Int
 data:Int
 kids:Int
 count:Int
 n:Int
def Rf.zero:Rf:=⟨0,0,0,0,0,0,0⟩
def nk (r:Rf):Int:=if r.kind=1 then r.kids else r.count
def my (l:List (List Int)) (s a m:Int):Rf × Int:=
 if ((OI l s a).getD 0 ≠ 0∧(NY ((OI l s a).getD 0)).kind ≠ 1)∨(NY ((OI l s a).getD 0)).off<0∨m<(NY ((OI l s a).getD 0)).off*((NY ((OI l s a).getD 0)).data+(NY ((OI l s a).getD 0)).ptrs) then (Rf.zero,8)
 else (⟨9,s,a+1,(NY ((OI l s a).getD 0)).data,(NY ((OI l s a).getD 0)).ptrs,(NY ((OI l s a).getD 0)).off,0⟩,0)
def rv (l:List (List Int)) (x:Lc):Rf × Int:=
 if x.p.kind=1 then (⟨1,x.s,x.at_,x.p.data,x.p.ptrs,0,0⟩,0)
 else if x.p.code<7 then (⟨2+x.p.code,x.s,x.at_,0,0,x.p.count,0⟩,0)
 else my l x.s x.at_ x.p.count
def so (l:List (List Int)) (s a:Int):Rf × Int:=
 if (PW l s a).2 ≠ 0∨(PW l s a).1.p.kind=0 then (Rf.zero,(PW l s a).2) else rv l (PW l s a).1
def qZ (g:List Int) (c i:Int):Int:=
 if Cy c<1∨i<0∨1099511627776<i then 0 else ((g[(i*Cy c / 64).toNat]?).getD 0) / 2 ^ (i*Cy c % 64).toNat % 2 ^ (Cy c).toNat
def lY (l:List (List Int)) (r:Rf) (i:Int):Int:=qZ (((seg l r.s).getD []).drop r.at_.toNat) (r.kind-2) i
def nZ (l:List (List Int)) (r:Rf) (i:Int):Rf × Int:=
 if i<0∨nk r≤i then (Rf.zero,0)
 else if r.kind=1 then so l r.s (r.at_+r.data+i)
 else if r.kind=8 then so l r.s (r.at_+i)
 else if r.kind=9 then (⟨1,r.s,r.at_+i*(r.data+r.kids),r.data,r.kids,0,0⟩,0)
 else (⟨10,0,0,0,0,0,lY l r i⟩,0)
def jA (l:List (List Int)) (r:Rf):List Int:=if r.kind=10 then [r.n] else if r.kind ≠ 1 then [] else part l r.s r.at_ r.data
inductive Xt (l:List (List Int)):Rf→Prop
 |zero:Xt l Rf.zero
 |str (s a d k:Int):0≤d→d<65536→0≤k→k<65536→bb l s a (d+k)=true→Xt l ⟨1,s,a,d,k,0,0⟩
 |dat (c s a n:Int):0≤c→c<6→0≤n→n<536870912→bb l s a ((n*c8 c+63) / 64)=true→Xt l ⟨2+c,s,a,0,0,n,0⟩
 |ptrs (s a n:Int):0≤n→n<536870912→bb l s a n=true→Xt l ⟨8,s,a,0,0,n,0⟩
 |comp (s a d k n:Int):0≤d→d<65536→0≤k→k<65536→0≤n→n<536870912→bb l s a (n*(d+k))=true→Xt l ⟨9,s,a,d,k,n,0⟩
 |atom (n:Int):0≤n→n<18446744073709551616→Xt l ⟨10,0,0,0,0,0,n⟩
inductive X1 (l:List (List Int)):Rf→T→Prop
 |mk (r:Rf) (t:T):Xt l r→r.kind=t.kind→jA l r=t.words→nk r=t.kids.length→(∀ (i:Nat) (h:i<t.kids.length),(nZ l r i).2=0)→(∀ (i:Nat) (h:i<t.kids.length),X1 l (nZ l r i).1 t.kids[i])→X1 l r t
theorem UF (c:Int):G.Spec Tryz.prog 50 [iv c] (iv (Cy c)):=by
 refine Aj Mo (by simp) fun w0 I0=>?_;unfold HB;by_cases h0:c=0
 ·subst h0;simp;exact F0 rfl rfl
 by_cases h1:c=1
 ·subst h1;simp;exact F0 rfl rfl
 by_cases h2:c=2
 ·subst h2;simp;exact F0 rfl rfl
 by_cases h3:c=3
 ·subst h3;simp;exact F0 rfl rfl
 by_cases h4:c=4
 ·subst h4;simp;exact F0 rfl rfl
 by_cases h5:c=5
 ·subst h5;simp;exact F0 rfl rfl
 simp[h0,h1,h2,h3,h4,h5];exact F0 rfl (by simp[Cy,h0,h1,h2,h3,h4,h5])
theorem NW (c:Int):Cy c = -1∨Cy c=0∨Cy c=1∨Cy c=8∨Cy c=16∨Cy c=32∨Cy c=64:=by
 unfold Cy;repeat' split
 all_goals simp
variable {n0:Nat} {w0:World} {I0:Nat→Prop} {Q:Exit→Sta→Prop} {H:Hp}
theorem Z9 {w:Int} (hw:w≤64):∀ (m:Nat) (x i:Int),0≤x→x<18446744073709551616→0≤i→i+m=w→(∀ b,Q (.exit 0) ⟨lk [(1,uv (x / 2 ^ m)),(5,iv w),(6,iv w),(13,bv b)],H⟩) →
  LoopC (cx Tryz.prog w0 I0 n0) Dy Q ⟨lk [(1,uv x),(5,iv w),(6,iv i)],H⟩:=by
 intro m;induction m with
 |zero=>
  intro x i h0 h1 h2 h3 hq;have:i=w:=by simpa using h3
  subst this;refine Ae mixed Dy.eq_1 ?_;simp;simpa using hq _
 |succ m ih=>
  intro x i h0 h1 h2 h3 hq;refine Ae mixed Dy.eq_1 ?_;have hi:i<w:=by omega
  simp[hi];rw[Bs (by omega) (by omega),Int.tdiv_eq_ediv_of_nonneg h0,AX (by omega) (by omega)];exact ih _ _ (by omega) (by omega) (by omega) (by omega) (by rw[Wf];exact hq)
theorem WV {c n:Int} (h:D5 n):G.Spec Tryz.prog 31 [iv c,uv n] (bv (NP c n)):=by
 refine Aj MY (by simp) fun w0 I0=>?_;unfold Ib;simp;refine Af (UF c) rfl ?_;simp;have hw:=NW c;refine⟨fun h0=>?_,fun h0=>?_⟩
 ·refine Ai ?_;simp[NP];omega
 ·refine Z9 (w:=Cy c) (by omega) (Cy c).toNat n 0 h.1 h.2 (by omega) (by omega) (fun b=>?_);simp;refine Ai ?_;simp[NP,h0]
theorem Z2 {a b:List Int} (hl:a.length=b.length) (hb:a.length*8≤140737488355328):∀ (m i:Nat),i+m=a.length→a.take i=b.take i→(a=b→∀ i q,Q (.exit 0) ⟨lk [(0,IT a),(1,IT b),(5,iv i),(14,bv q)],H⟩)→(a ≠ b→Q .ret ⟨lk [(4,bv false)],H⟩) →
  LoopC (cx Tryz.prog w0 I0 n0) DH Q ⟨lk [(0,IT a),(1,IT b),(5,iv i)],H⟩:=by
 intro m;induction m with
 |zero=>
  intro i hi ht h1 h2;have:i=a.length:=by omega
  subst this;refine Ae mixed DH.eq_1 ?_;simp;refine h1 ?_ _ _;rw[Fv (Fa _),Fv (by omega)] at ht;exact ht
 |succ m ih=>
  intro i hi ht h1 h2;have hlt:i<a.length:=by omega
  have hlt':i<b.length:=by omega
  refine Ae mixed DH.eq_1 ?_;simp[hlt,hlt'];refine⟨fun he=>?_,fun hne=>h2 fun e=>hne (by subst e;rfl)⟩;rw[Bs (by omega) (by omega)];refine ih (i+1) (by omega) ?_ h1 h2;rw[RY hlt,RY hlt',ht,he]
theorem Ms (a b:List Int) (hb:a.length*8≤140737488355328):G.Spec Tryz.prog 43 [IT a,IT b] (bv (decide (a=b))):=by
 refine Aj MV (by simp) fun w0 I0=>?_;unfold Il;simp;refine⟨fun h=>?_,fun h=>?_⟩
 ·refine Z2 (by omega) hb a.length 0 (by omega) rfl (fun e i q=>?_) (fun e=>?_)
  ·simp;refine Ai ?_;simp[e]
  ·simp;refine Ai ?_;simp[e]
 ·refine Ai ?_;have:¬ a=b:=fun e=>h (by rw[e]);simp[this]
theorem W7 (c:Int):G.Spec Tryz.prog 136 [iv c] (.tup [iv (if Cy c<0 then 0 else Cy c),bv (decide (0≤Cy c))]):=by
 refine Aj TA (by simp) fun w0 I0=>?_;unfold MO;by_cases h0:c=0
 ·subst h0;simp;exact F0 rfl rfl
 by_cases h1:c=1
 ·subst h1;simp;exact F0 rfl rfl
 by_cases h2:c=2
 ·subst h2;simp;exact F0 rfl rfl
 by_cases h3:c=3
 ·subst h3;simp;exact F0 rfl rfl
 by_cases h4:c=4
 ·subst h4;simp;exact F0 rfl rfl
 by_cases h5:c=5
 ·subst h5;simp;exact F0 rfl rfl
 have hd:(decide (c<0) || decide (6≤c))=true:=by simp;omega
 simp[hd];exact F0 rfl (by simp[Cy,h0,h1,h2,h3,h4,h5])
theorem SY (k:Int):G.Spec Tryz.prog 121 [iv k] (bv (Cc k)):=by
 refine Aj Pm (by simp) fun w0 I0=>?_;unfold Kv;simp;refine Ai ?_;simp[Cc]
abbrev Um (l:List Int):List A:=l.map u8
def CI:Nat→Int→List Int
 |0,_=>[]
 |m+1,x=>x % 256::CI m (x / 256)
@[simp] theorem LN:∀ (m:Nat) (x:Int),(CI m x).length=m
 |0,_=>rfl
 |m+1,x=>by simp[CI,LN m]
theorem XD {l:List Int} {i:Nat} {v:Int} (h:i<l.length):splice (l.map u8) i [u8 v]=(l.set i v).map u8:=by
 apply List.ext_getElem?;intro j;simp only[splice,List.length_singleton];rw[List.append_assoc,List.map_set];by_cases h1:j<i
 ·rw[List.getElem?_append_left (by simp;omega),List.getElem?_take,if_pos h1,List.getElem?_set_ne (by omega)]
 ·rw[List.getElem?_append_right (by simp;omega)];have e:(List.take i (l.map u8)).length=i:=by simp;omega
  rw[e];by_cases h2:j=i
  ·subst h2;rw[List.getElem?_set_self (by simpa using h)];simp
  ·rw[List.getElem?_set_ne (by omega),List.getElem?_append_right (by simp;omega),List.getElem?_drop];congr 1;simp;omega
theorem YZ (a:List A) (x v:A) (b:List A):splice (a++x::b) a.length [v]=a++v::b:=by simp[splice]
section
variable {n0:Nat} {w0:World} {I0:Nat→Prop} {Q:Exit→Sta→Prop}
theorem YT:∀ (m:Nat) (i:Nat) (x:Int) (d:List Int) (H:Hp),0≤x→x<18446744073709551616→i+m=8→d.length=i→H [1]=⟨1,.cells (Um (d++List.replicate m 0))⟩→H [0]=⟨1,.cells (Um (List.replicate 8 0))⟩ →
  (∀ x' q H',H' [1]=⟨1,.cells (Um (d++CI m x))⟩→H' [0]=⟨1,.cells (Um (List.replicate 8 0))⟩→Q (.exit 0) ⟨lk [(0,uv x'),(2,.pob [0] 1 0),(3,.pob [1] 1 0),(4,iv 8),(7,bv q)],H'⟩) →
  LoopC (cx Tryz.prog w0 I0 n0) CP Q ⟨lk [(0,uv x),(2,.pob [0] 1 0),(3,.pob [1] 1 0),(4,iv i)],H⟩:=by
 intro m;induction m with
 |zero=>
  intro i x d H h0 h1 hi hd hH hH0 hq;have:i=8:=by omega
  subst this;refine Ae mixed CP.eq_1 ?_;simp;exact hq _ _ _ (by simpa[CI] using hH) hH0
 |succ m ih=>
  intro i x d H h0 h1 hi hd hH hH0 hq;refine Ae mixed CP.eq_1 ?_;have hlt:(i:Int)<8:=by omega
  simp[hlt,hH];refine⟨by omega,?_⟩;have ht:x.tmod 256=x % 256:=Int.tmod_eq_emod_of_nonneg h0;have e8:IntKind.u8.wrap (x % 256)=x % 256:=by rw[IntKind.wrap_u8];omega
  rw[Int.tdiv_eq_ediv_of_nonneg h0,ht,AX (by omega) (by omega),e8,Bs (by omega) (by omega)];refine ih (i+1) (x / 256) (d++[x % 256]) _ (by omega) (by omega) (by omega) (by simp[hd]) ?_ (by simp[Aa,hH0]) (fun x' q H' k1 k0=>hq x' q H' (by rw[k1];simp[CI]) k0);simp[Aa];rw[List.replicate_succ,← hd];simpa using YZ (List.map u8 d) (u8 0) (u8 (x % 256)) (List.replicate m (u8 0))
end
def B3 (x:Int):List Int:=CI 8 x
theorem ZG {H:Hp} {l:List Int}:Jr H (.agg (Um l)) (.agg (Um l)):=Ab (by simp)
theorem Pq {x:Int} (h:D5 x):G.Spec Tryz.prog 51 [uv x] (.agg (Um (B3 x))):=by
 refine Aj MC (by simp) fun w0 I0=>?_;unfold HR;simp;refine YT 8 0 x [] _ h.1 h.2 rfl rfl (by simp) (by simp) (fun x' q H' h1 h0=>?_);have e:List.take 8 (Um (CI 8 x))=Um (CI 8 x):=Fv (by simp);simp[h1,h0,Aa,e];exact⟨by simp[A.ones],ZG⟩
theorem YJ {k:Int} (hk:k≤8):∀ (m:Nat) (x i:Int),0≤x→x<256→0≤i→i+m=k→(∀ q,Q (.exit 0) ⟨lk [(0,u8 (x / 2 ^ m)),(1,iv k),(5,iv k),(8,bv q)],H⟩) →
  LoopC (cx Tryz.prog w0 I0 n0) CY Q ⟨lk [(0,u8 x),(1,iv k),(5,iv i)],H⟩:=by
 intro m;induction m with
 |zero=>
  intro x i h0 h1 h2 h3 hq;have:i=k:=by simpa using h3
  subst this;refine Ae mixed CY.eq_1 ?_;simp;simpa using hq _
 |succ m ih=>
  intro x i h0 h1 h2 h3 hq;refine Ae mixed CY.eq_1 ?_;have hi:i<k:=by omega
  simp[hi];have e8:IntKind.u8.wrap (x / 2)=x / 2:=by rw[IntKind.wrap_u8];omega
  rw[Bs (by omega) (by omega),Int.tdiv_eq_ediv_of_nonneg h0,e8];exact ih _ _ (by omega) (by omega) (by omega) (by omega) (by rw[Wf];exact hq)
def D3 (x:Int) (i:Nat):Bool:=decide (x / 2 ^ i % 2=1)
theorem Vs {x:Int} (h0:0≤x) (h1:x<256) {i:Nat} (hi:i≤8):G.Spec Tryz.prog 52 [u8 x,iv i] (bv (D3 x i)):=by
 refine Aj Mq (by simp) fun w0 I0=>?_;unfold HI;simp;refine YJ (by omega) i x 0 h0 h1 (by omega) (by omega) (fun q=>?_);simp;refine Ai ?_;have:0≤x / 2 ^ i:=Int.ediv_nonneg h0 (Int.le_of_lt (Int.pow_pos (by decide)));rw[Int.tmod_eq_emod_of_nonneg this];rfl
def TJ:List Int→Int
 |[]=>0
 |b::l=>b+256*TJ l
theorem K4:∀ (l:List Int),(∀ b,b ∈ l→0≤b∧b<256)→0≤TJ l∧TJ l<256 ^ l.length
 |[],_=>by simp[TJ]
 |b::l,h=>by
  have h1:=h b (by simp);have h2:=K4 l fun x hx=>h x (by simp[hx]);simp only[TJ,List.length_cons,Int.pow_succ];omega
theorem iX {f:Bool} {l:List Int} (hl:l.length=8) (hr:∀ b,b ∈ l→0≤b∧b<256):∀ (m:Nat) (x j:Int),m≤8→x=TJ (l.drop m)→j=(m:Int)-1→(∀ q,Q (.exit 0) ⟨lk [(0,.sl f (Um l)),(1,iv 0),(5,uv (TJ l)),(6,iv (-1)),(8,bv q)],H⟩) →
  LoopC (cx Tryz.prog w0 I0 n0) EI Q ⟨lk [(0,.sl f (Um l)),(1,iv 0),(5,uv x),(6,iv j)],H⟩:=by
 intro m;induction m with
 |zero=>
  intro x j hm hx hj hq;subst hx hj;refine Ae mixed EI.eq_1 ?_;simp;simpa using hq false
 |succ m ih=>
  intro x j hm hx hj hq;subst hx hj;have hlt:m<l.length:=by omega
  have hd:=K4 (l.drop m) fun b hb=>hr b (gX hb);have hp:(256:Int) ^ (l.drop m).length≤18446744073709551616:=by
   have h2:=Int.ofNat_le.2 (Nat.pow_le_pow_right (n:=256) (by decide) (by simp;omega:(l.drop m).length≤8));rw[Int.natCast_pow] at h2;exact h2
  have e1:l.drop m=l[m]::l.drop (m+1):=List.drop_eq_getElem_cons hlt;have hb:=hr l[m] (B0 hlt);have ez:TJ (l.drop m)=l[m]+256*TJ (l.drop (m+1)):=by rw[e1,TJ]
  have hd1:=K4 (l.drop (m+1)) fun b hb=>hr b (gX hb);refine Ae mixed EI.eq_1 ?_;have em:i64.wrap (m:Int)=m:=EK;have hm0:(0:Int)≤m:=by omega
  have hm8:(m:Int)<8:=by omega
  simp[em,hl,hm8,List.getElem?_eq_getElem hlt];have e64:u64.wrap l[m]=l[m]:=AX (by omega) (by omega);rw[e64,AX (n:=TJ (List.drop (m+1) l)*256) (by omega) (by omega),AX (by omega) (by omega),Bs (by omega) (by omega)];exact ih _ _ (by omega) (by rw[ez];omega) rfl hq
theorem al {f:Bool} {l:List Int} (hl:l.length=8) (hr:∀ b,b ∈ l→0≤b∧b<256):G.Spec Tryz.prog 53 [.sl f (Um l),iv 0] (uv (TJ l)):=by
 refine Aj PO (by simp) fun w0 I0=>?_;unfold J5;simp;refine iX hl hr 8 0 7 (Fa _) ?_ rfl (fun q=>?_)
 ·rw[List.drop_of_length_le (by omega)];rfl
 ·simp;exact Ab rfl
theorem Jv:∀ (m:Nat) (x:Int),∀ b,b ∈ CI m x→0≤b∧b<256
 |m+1,x,b,h=>by
  rcases List.mem_cons.1 h with rfl | h
  ·omega
  ·exact Jv m _ b h
def JY (a b:List Int) (mask:Int) (k:Nat):List Int:=(List.range k).map (fun i=>if D3 mask i=true then b.getD i 0 else a.getD i 0)++a.drop k
theorem OX {a b:List Int} {mask:Int} {k:Nat} (h:k≤a.length):(JY a b mask k).length=a.length:=by simp[JY];omega
theorem Y7 {a b:List Int} {mask:Int} {k:Nat} (h:k<a.length):JY a b mask (k+1)=if D3 mask k=true then (JY a b mask k).set k (b.getD k 0) else JY a b mask k:=by
 unfold JY;rw[List.range_succ];have e0:a.drop k=a[k]::a.drop (k+1):=List.drop_eq_getElem_cons h;have e:((List.range k).map (fun i=>if D3 mask i=true then b.getD i 0 else a.getD i 0)).length=k:=by simp
 split
 ·rename_i hn;rw[List.set_append_right _ _ (by omega),e,e0,Nat.sub_self,List.set_cons_zero];simp[hn]
 ·rename_i hn;rw[e0];simp[hn,List.getElem?_eq_getElem h]
section
variable {n0:Nat} {w0:World} {I0:Nat→Prop} {Q:Exit→Sta→Prop}
theorem fm {a b:List Int} {mask:Int} (ha:a.length=8) (hb:b.length=8) (h0:0≤mask) (h1:mask<256) (hq:∀ q H',H' [0]=⟨1,.cells (Um (JY a b mask 8))⟩→Q (.exit 0) ⟨lk [(2,u8 mask),(7,.pob [0] 1 0),(8,.pob [1] 1 0),(9,iv 8),(15,bv q)],H'⟩):∀ (m i:Nat) (H:Hp),i+m=8→H [0]=⟨1,.cells (Um (JY a b mask i))⟩→H [1]=⟨1,.cells (Um b)⟩ →
  LoopC (cx Tryz.prog w0 I0 n0) Ec Q ⟨lk [(2,u8 mask),(7,.pob [0] 1 0),(8,.pob [1] 1 0),(9,iv i)],H⟩:=by
 intro m;induction m with
 |zero=>
  intro i H hi hA hB;have:i=8:=by omega
  subst this;refine Ae mixed Ec.eq_1 ?_;simp;exact hq _ _ hA
 |succ m ih=>
  intro i H hi hA hB;have hlt:(i:Int)<8:=by omega
  have hml:=OX (a:=a) (b:=b) (mask:=mask) (k:=i) (by omega);have hia:i<(JY a b mask i).length:=by omega
  have hib:i<b.length:=by omega
  refine Ae mixed Ec.eq_1 ?_;simp[hlt];refine Af (Vs h0 h1 (by omega)) rfl ?_;have hs:=Y7 (a:=a) (b:=b) (mask:=mask) (k:=i) (by omega);cases hn:D3 mask i with
  |false=>
   simp[hn] at hs;simp;rw[Bs (by omega) (by omega)];exact ih (i+1) H (by omega) (by rw[hs];exact hA) hB
  |true=>
   simp[hn] at hs;simp[hlt,hA,hB,List.getElem?_eq_getElem hib];refine⟨by omega,?_⟩;rw[Bs (by omega) (by omega)];refine ih (i+1) _ (by omega) ?_ (by simp[Aa,hB]);rw[hs];simp only[Aa,if_true];rw[XD hia];simp[List.getElem?_eq_getElem hib]
end
def Ve (a b mask:Int):Int:=TJ (JY (B3 a) (B3 b) mask 8)
theorem Qt {a b mask:Int} {k:Nat}:∀ x,x ∈ JY (B3 a) (B3 b) mask k→0≤x∧x<256:=by
 have hg:∀ (y:Int) (i:Nat),0≤(B3 y).getD i 0∧(B3 y).getD i 0<256:=fun y i=>by
  rw[List.getD_eq_getElem?_getD];cases e:(B3 y)[i]? with
  |none=>simp
  |some z=>exact Jv 8 y z (List.mem_of_getElem? e)
 intro x hx;rcases List.mem_append.1 hx with hx | hx
 ·obtain⟨i,_,rfl⟩:=List.mem_map.1 hx;split
  ·exact hg b i
  ·exact hg a i
 ·exact Jv 8 a x (gX hx)
theorem IA (x:Int):(B3 x).length=8:=LN 8 x
theorem Zs {a b mask:Int} (ha:D5 a) (hb:D5 b) (h0:0≤mask) (h1:mask<256):G.Spec Tryz.prog 32 [uv a,uv b,u8 mask] (uv (Ve a b mask)):=by
 refine Aj Ox (by simp) fun w0 I0=>?_;unfold Jp;simp;refine Af (Pq ha) rfl ?_;simp;refine Af (Pq hb) rfl ?_;have l8:=IA a;have m8:=IA b;have o1:∀ l:List Int,A.ones (Um l)=true:=fun l=>by simp[A.ones]
 simp[l8,m8,o1];refine fm l8 m8 h0 h1 (fun q H' hH=>?_) 8 0 _ (by omega) (by simp[JY]) (by simp);simp;have lm:(JY (B3 a) (B3 b) mask 8).length=8:=by rw[OX (by omega),l8]
 refine Lj (Qn (d:=[0]) (fun _ h=>h) 7 (.pim (Um (JY (B3 a) (B3 b) mask 8))) (fun H1 h1=>?_)) (AA ?_)
 ·rw[hH] at h1;exact Tt (by simp[Qx,h1]) (Lx (by simp)) (o1 _)
 have e:List.take 8 (Um (JY (B3 a) (B3 b) mask 8))=Um (JY (B3 a) (B3 b) mask 8):=Fv (by simp[lm]);simp[lm,e];refine Af (al lm Qt) rfl ?_;simp;exact Ab rfl
@[simp] theorem jW {q:Bool} {n:Nat} {y:A} {K:A→Prop}:IQ q (A.shift n (gd q y)) K=IQ q (A.shift n y) K:=FY fun h=>by rw[h];rfl
theorem Jy (l:List Int):A.softL (l.map uv)=l.map uv:=by
 rw[BM,List.map_map];rfl
theorem P2:∀ t:T,(tA t).soft=tA t:=by
 refine T.ind fun k w l ih=>?_;rw[tA_eq];simp only[A.soft,A.softL,T.kind_mk,T.words_mk,T.kids_mk,Jy];have e:l.map (A.soft ∘ tA)=l.map tA:=List.map_congr_left fun t ht=>ih t ht;rw[BM,List.map_map,e];rfl
theorem NG (l:List T):A.softL (l.map tA)=l.map tA:=by
 rw[BM,List.map_map];exact List.map_congr_left fun t _=>P2 t
structure Sg (l:List (List Int)):Prop where
 b:∀ x,x ∈ l→x.length*8≤140737488355328
 w:sy l
def oo (l:List (List Int)) (r:Rf):A:=if r.kind=0 then .v (.pointer none) else sG l
@[simp] theorem vv (l:List (List Int)) (r:Rf):(oo l r).cells=[oo l r]:=by unfold oo;split<;>rfl
@[simp] theorem qD (l:List (List Int)) (r:Rf):(oo l r).one=true:=by unfold oo;split<;>rfl
@[simp] theorem vP (l:List (List Int)) (r:Rf):(oo l r).bare=true:=by unfold oo;split<;>rfl
@[simp] theorem kq (l:List (List Int)) (r:Rf):(oo l r).bare1=true:=by unfold oo;split<;>rfl
@[simp] theorem uK (l:List (List Int)) (r:Rf):(oo l r).bare2=true:=by unfold oo;split<;>rfl
abbrev sB (l:List (List Int)) (r:Rf):List A:=[oo l r,iv r.kind,iv r.s,iv r.at_,iv r.data,iv r.kids,iv r.count,uv r.n]
end Go.Proofs.YtebihdhapepejaaGreatDoor
