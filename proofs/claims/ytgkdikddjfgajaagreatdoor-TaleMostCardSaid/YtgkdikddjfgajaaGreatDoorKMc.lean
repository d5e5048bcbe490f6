/-
 Texts,merged,without what is not reached.
-/
import Derived.Test.YtgkdikddjfgajaaGreatDoorKMb
set_option linter.unusedSimpArgs false
set_option linter.unusedVariables false
open Go.IntKind (i64 u64)
namespace Go.G
open Go.RowKit
structure Fam where
 F:Nat→Nm→VOb
 ren:∀ {g:Nm→Nm} {δ:Nm→Nat} {r r':Nat},(∀ p,g (r::p)=r'::p)→(∀ p,δ (r::p)=0)→∀ p,(F r p).ren g δ 0=F r' p
 refs:∀ {D:Nm→Prop} {r:Nat},(∀ p,D (r::p))→∀ p,(F r p).ob.refs D
def Fam.no:Fam:=⟨fun _ _=>⟨0,.none⟩,fun _ _ _=>rfl,fun _ _=>trivial⟩
@[simp] theorem Fam.no_F {r:Nat} {p:Nm}:Fam.no.F r p=⟨0,.none⟩:=rfl
structure DV (a:Nat→A):Prop where
 ren:∀ {g:Nm→Nm} {δ:Nm→Nat} {r r':Nat},(∀ p,g (r::p)=r'::p)→(∀ p,δ (r::p)=0)→(a r).ren g δ=a r'
 refs:∀ {D:Nm→Prop} {r:Nat},(∀ p,D (r::p))→(a r).refs D
structure FamL (a:Nat→List A):Prop where
 ren:∀ {g:Nm→Nm} {δ:Nm→Nat} {r r':Nat},(∀ p,g (r::p)=r'::p)→(∀ p,δ (r::p)=0)→A.renL g δ (a r)=a r'
 refs:∀ {D:Nm→Prop} {r:Nat},(∀ p,D (r::p))→A.refsL D (a r)
@[simp] theorem Al:FamL (fun _=>[]):=⟨fun _ _=>by simp[A.renL],fun _=>by simp[A.refsL]⟩
theorem Ag {a:Nat→A} {l:Nat→List A} (h:DV a) (k:FamL l):FamL (fun r=>a r::l r):=⟨fun h1 h2=>by simp[A.renL,h.ren h1 h2,k.ren h1 h2],fun h1=>by simp only[A.refsL];exact⟨h.refs h1,k.refs h1⟩⟩
@[simp] theorem jz {a:Nat→A} {l:Nat→List A} (h:DV a):FamL (fun r=>a r::l r)=FamL l:=by
 refine propext ⟨fun k=>⟨fun h1 h2=>?_,fun h1=>?_⟩,Ag h⟩
 ·have:=k.ren h1 h2;simp only[A.renL,List.cons.injEq] at this;exact this.2
 ·have:=k.refs h1;simp only[A.refsL] at this;exact this.2
theorem FamL.all {l:List A} (h:∀ x,x ∈ l→DV (fun _=>x)):FamL (fun _=>l):=by
 induction l with
 |nil=>simp
 |cons x l ih=>exact Ag (h x (by simp)) (ih fun y hy=>h y (by simp[hy]))
@[simp] theorem uD:DV (fun _=>.any):=⟨fun _ _=>by simp[A.ren],fun _=>by simp[A.refs]⟩
@[simp] theorem AO {x:Value}:DV (fun _=>.v x):=⟨fun _ _=>by simp[A.ren],fun _=>by simp[A.refs]⟩
@[simp] theorem Ew {f:Bool} {xs:List A}:DV (fun _=>.sl f xs):=⟨fun _ _=>by simp[A.ren],fun _=>by simp[A.refs]⟩
@[simp] theorem uZ {xs:List A}:DV (fun _=>.pim xs):=⟨fun _ _=>by simp[A.ren],fun _=>by simp[A.refs]⟩
@[simp] theorem AJ {u off:Nat} {q:Nm}:DV (fun r=>.pob (r::q) u off):=⟨fun h1 h2=>by simp[A.ren,h1,h2],fun h=>by simp[A.refs,h]⟩
@[simp] theorem FR {u sz off len:Nat} {q:Nm}:DV (fun r=>.osl (r::q) u sz off len):=⟨fun h1 h2=>by simp[A.ren,h1,h2],fun h=>by simp[A.refs,h]⟩
@[simp] theorem vR {u i j:Nat} {q:Nm}:DV (fun r=>.pel (r::q) u i j):=⟨fun h1 h2=>by simp[A.ren,h1,h2],fun h=>by simp[A.refs,h]⟩
@[simp] theorem dF {l:Nat→List A} (h:FamL l):DV (fun r=>.agg (l r)):=⟨fun h1 h2=>by simp[A.ren,h.ren h1 h2],fun h1=>by simp only[A.refs];exact h.refs h1⟩
@[simp] theorem Bu {l:Nat→List A} (h:FamL l):DV (fun r=>.tup (l r)):=⟨fun h1 h2=>by simp[A.ren,h.ren h1 h2],fun h1=>by simp only[A.refs];exact h.refs h1⟩
@[simp] theorem vA {f:FuncId} {l m:Nat→List A} (h:FamL l) (k:FamL m):DV (fun r=>.fnc f (l r) (m r)):=⟨fun h1 h2=>by simp[A.ren,h.ren h1 h2,k.ren h1 h2],fun h1=>by simp only[A.refs];exact⟨h.refs h1,k.refs h1⟩⟩
@[simp] theorem uw {t:TypeId} {a:Nat→A} (h:DV a):DV (fun r=>.ifc t (a r)):=⟨fun h1 h2=>by simp[A.ren,h.ren h1 h2],fun h1=>by simp only[A.refs];exact h.refs h1⟩
theorem Yd {a:A} (h:a.bare1=true):DV (fun _=>a):=by cases a<;>simp[A.bare1] at h ⊢
theorem GN {a:A} {cs:List A} (ha:a = .agg cs) (h:∀ x,x ∈ cs→x.bare1=true):DV (fun _=>a):=by
 subst ha;exact dF (l:=fun _=>cs) (FamL.all fun x hx=>Yd (h x hx))
theorem Fam.cells_ren {g:Nm→Nm} {δ:Nm→Nat} {u:Nat} {l l':List A} (h:A.renL g δ l=l'):VOb.ren g δ 0 ⟨u,.cells l⟩=⟨u,.cells l'⟩:=by simp[VOb.ren,Ob.ren,h]
theorem Fam.arr_ren {g:Nm→Nm} {δ:Nm→Nat} {u sz:Nat} {l l':List A} (h:A.renL g δ l=l'):VOb.ren g δ 0 ⟨u,.arr sz l⟩=⟨u,.arr sz l'⟩:=by simp[VOb.ren,Ob.ren,h]
structure SpecF (P:Program) (f:FuncId) (as':Nat→List A) (F:Fam) (x:Nat→A) (F':Fam):Prop where
 fa:FamL as'
 fx:DV x
 h:SpecH P f 1 (as' 0) (ov 0 (F.F 0) (Dj [])) (x 0) (ov 0 (F'.F 0) (Dj []))
section
variable {P:Program} {K:Lu} {rest:List CO} {s:Nat→A} {H:Hp} {dd:Option Nat} {nm:Nm} {ix:Nat} {un:List Nat} {l:Bool} {lg:Lg} {g:FuncId} {aa:Array Operand} {ts:Array TypeId}
theorem XV {r:Nat} {F:Fam} (hF:∀ p,H (r::p)=F.F r p):NG [r] 1 H=ov 0 (F.F 0) (Dj []):=by
 funext o;cases o with
 |nil=>rfl
 |cons i p=>
  by_cases hi:i<1
  ·have:i=0:=by omega
   subst this;simp only[NG,if_pos hi,Bo,if_true];show(H (r::p)).ren _ _ 0=_;rw[hF];exact F.ren (fun q=>by simp[Uw]) (fun _=>rfl) p
  ·simp only[NG,if_neg hi,Bo];rw[if_neg (by omega)];rfl
theorem lW {r:Nat} {F':Fam}:VA [r] (WM [r] 1 H) H (ov 0 (F'.F 0) (Dj []))=ov r (F'.F r) H:=by
 have hd:∀ p,WM [r] 1 H (0::p)=0:=fun p=>rfl;funext o;cases o with
 |nil=>rfl
 |cons j p=>
  by_cases hj:j=r
  ·subst hj;simp only[VA,Bo,if_true];rw[if_pos (by simp)];have:[j].idxOf j=0:=by simp
   rw[this,if_pos rfl,hd];exact F'.ren (fun q=>by simp[mg]) hd p
  ·have:¬ [r].contains j=true:=by simpa using hj
   simp only[VA,if_neg this,Bo,if_neg hj]
theorem LL {r:Nat} {F:Fam} (hF:∀ p,H (r::p)=F.F r p):Tp [r] 1 H:=by
 intro j p hj;have hjr:j=r:=by
  have:=(idx_mem (rs:=[r])).1 (by simpa using hj);simpa using this
 rw[hjr,hF];exact F.refs (fun q=>by simp[Zn]) p
theorem gZ {F':Fam} (i:Nat) (p:Nm) (hi:i<1):((ov 0 (F'.F 0) (Dj [])) (i::p)).ob.refs (Wu 1):=by
 have:i=0:=by omega
 subst this;simp only[Bo,if_true];exact F'.refs (fun q=>by simp[Wu]) p
theorem Ai {as':Nat→List A} {F F':Fam} {x:Nat→A} (r:Nat) (hS:SpecF P g as' F x F') (hF:∀ p,H (r::p)=F.F r p) (ha:aa.toList.map (evs s)=as' r) (hck:Ck un lg ⟨[],[([r],true)]⟩)
  (h:An P K rest (A2 l ix ⟨[],[([r],true)]⟩ lg) (Sta.put ⟨s,H⟩ dd (x r) (ov r (F'.F r) H))) :
  An P K (⟨dd,.call { callee:=.value (.func g),args:=aa,argTypes:=ts },none,nm,ix,un,l⟩::rest) lg ⟨s,H⟩:=by
 have hd:∀ p,WM [r] 1 H (0::p)=0:=fun p=>rfl;refine Wd [r] 1 hS.h (by simp) (by simp) ?_ ?_ (XV hF) (LL hF) (hS.fx.refs (fun p=>by simp[Wu])) (fun i p hi=>gZ i p hi) (fun i p h1 h2=>by simp at h2;omega) (hS.fx.ren (fun q=>by simp[mg]) hd) lW hck h
 ·rw[ha];exact hS.fa.ren (fun q=>by simp[Uw]) (fun _=>rfl)
 ·rw[ha];exact hS.fa.refs (fun q=>by simp[Zn])
end
section
variable {P:Program} {K:Lu} {rest:List CO} {s:Nat→A} {H:Hp} {dd:Option Nat} {nm:Nm} {ix:Nat} {un:List Nat} {l:Bool} {lg:Lg} {g:FuncId} {aa:Array Operand} {ts:Array TypeId}
end
theorem vy {r:Nat} {F F':Nm→VOb} {H:Hp}:ov r F (ov r F' H)=ov r F H:=by
 funext o;cases o with
 |nil=>rfl
 |cons j p=>by_cases hj:j=r<;>simp[hj]
@[simp] theorem Aa7 {r:Nat} {F F':Nm→VOb} {H:Hp}:ov r F (ov r F' H)=ov r F H:=vy
theorem Bk {P:Program} {f:FuncId} {n:Nat} {rs:List ResultVar} {cc:CC} {as':Nat→List A} {F F':Fam} {x:Nat→A} (t:BM P f n rs cc) (ha:(as' 0).length≤n) (h0:FamL as') (h1:DV x)
  (h:∀ w0 I0 M0 m0,WPC (HI P w0 I0 M0 n m0) cc (HK (HI P w0 I0 M0 n m0) rs 1 (x 0) (ov 0 (F'.F 0) (Dj []))) ⟨Fk (as' 0),ov 0 (F.F 0) (Dj [])⟩):SpecF P f as' F x F':=
 ⟨h0,h1,iI t ha h⟩
theorem AK {c:Cx} {rs:List ResultVar} {x:A} {F':Nm→VOb} {r0:A} {st:Sta} (h:FW c.P st rs=some r0) (he:r0=x) (hh:∀ p,st.H (0::p)=F' p):HK c rs 1 x (ov 0 F' (Dj [])) .ret st:=
 Vi h he fun i p hi=>by
  have:i=0:=by omega
  subst this;rw[hh];simp
theorem Bn {c:Cx} {rs:List ResultVar} {x:A} {F':Nm→VOb} {r0:A} {st:Sta} (h:FW c.P st rs=some r0) (he:r0=x) (hh:∀ p,st.H (0::p)=F' p):HK c rs 1 x (ov 0 F' (Dj [])) .normal st:=
 N4 h he fun i p hi=>by
  have:i=0:=by omega
  subst this;rw[hh];simp
structure ux (a:Nat→Nat→List A):Prop where
 ren:∀ {g:Nm→Nm} {δ:Nm→Nat} {r r' q q':Nat},(∀ p,g (r::p)=r'::p)→(∀ p,δ (r::p)=0)→(∀ p,g (q::p)=q'::p)→(∀ p,δ (q::p)=0)→A.renL g δ (a r q)=a r' q'
 refs:∀ {D:Nm→Prop} {r q:Nat},(∀ p,D (r::p))→(∀ p,D (q::p))→A.refsL D (a r q)
@[simp] theorem sj:ux (fun _ _=>[]):=⟨fun _ _ _ _=>by simp[A.renL],fun _ _=>by simp[A.refsL]⟩
section
variable {P:Program} {K:Lu} {rest:List CO} {s:Nat→A} {H:Hp} {dd:Option Nat} {nm:Nm} {ix:Nat} {un:List Nat} {l:Bool} {lg:Lg} {g:FuncId} {aa:Array Operand} {ts:Array TypeId}
end
def pE (u sz:Nat) (xs:List A) (h:∀ x,x ∈ xs→DV (fun _=>x)):Fam:=⟨fun _ p=>if p=[] then ⟨u,.arr sz xs⟩ else ⟨0,.none⟩,fun {g δ r r'} hg hd p=>by
  by_cases hp:p=[]
  ·rw[if_pos hp];exact Fam.arr_ren ((FamL.all h).ren hg hd)
  ·rw[if_neg hp];rfl,fun {D r} hD p=>by
  by_cases hp:p=[]
  ·rw[if_pos hp];exact(FamL.all h).refs hD
  ·rw[if_neg hp];trivial⟩
@[simp] theorem AbN {u sz:Nat} {xs:List A} {h:∀ x,x ∈ xs→DV (fun _=>x)} {r:Nat} {p:Nm}:(pE u sz xs h).F r p=if p=[] then ⟨u,.arr sz xs⟩ else ⟨0,.none⟩:=rfl
structure AbO where
 B:Nat→Nat→Nm→VOb
 C:Nat→Nat→Nm→VOb
 ren:∀ {g:Nm→Nm} {δ:Nm→Nat} {r r' q q':Nat},(∀ p,g (r::p)=r'::p)→(∀ p,δ (r::p)=0)→(∀ p,g (q::p)=q'::p)→(∀ p,δ (q::p)=0)→∀ p,(B r q p).ren g δ 0=B r' q' p∧(C r q p).ren g δ 0=C r' q' p
 refs:∀ {D:Nm→Prop} {r q:Nat},(∀ p,D (r::p))→(∀ p,D (q::p))→∀ p,(B r q p).ob.refs D∧(C r q p).ob.refs D
def Fam.two (F G:Fam):AbO:=⟨fun r _=>F.F r,fun _ q=>G.F q,fun h1 h2 h3 h4 p=>⟨F.ren h1 h2 p,G.ren h3 h4 p⟩,fun h1 h2 p=>⟨F.refs h1 p,G.refs h2 p⟩⟩
@[simp] theorem Adr {F G:Fam} {r q:Nat}:(F.two G).B r q=F.F r:=rfl
@[simp] theorem Ad7 {F G:Fam} {r q:Nat}:(F.two G).C r q=G.F q:=rfl
section
variable {P:Program} {K:Lu} {rest:List CO} {s:Nat→A} {H:Hp} {dd:Option Nat} {nm:Nm} {ix:Nat} {un:List Nat} {l:Bool} {lg:Lg} {g:FuncId} {aa:Array Operand} {ts:Array TypeId}
end
theorem Sim.move {c:Cx} {w:World} {I:Nat→Prop} {μ:Mu} {H:Hp} (hs:Sim c w I μ H) {d d':Nm} (hne:d ≠ d') (h0:(H d').u=0) (h1:1≤(H d).u) (hM:∀ b,¬ c.M0 d b) (htg:∀ e,B3 d' e=true) :
  Ext I μ w I (Ar μ d' (μ d)) w∧Sim c w I (Ar μ d' (μ d)) (Ar (Ar H d' (H d)) d ⟨(H d).u,.none⟩):=by
 have hu0:(μ d').u=0:=by rw[hs.ver,h0]
 have hu1:1≤(μ d).u:=by rw[hs.ver];exact h1
 have hm:MuLe μ (Ar μ d' (μ d)):=fun o=>by
  by_cases e:o=d'
  ·subst e;rw[A5];exact⟨by omega,fun e=>by omega⟩
  ·rw[Ao e];exact⟨CE _,fun _=>rfl⟩
 have hx:Ext I μ w I (Ar μ d' (μ d)) w:=⟨fun b h=>h,fun b h=>rfl,hm⟩;have hd:(Ar (Ar H d' (H d)) d ⟨(H d).u,.none⟩:Hp) d=⟨(H d).u,.none⟩:=A5;have hd':(Ar (Ar H d' (H d)) d ⟨(H d).u,.none⟩:Hp) d'=H d:=by rw[Ao (Ne.symm hne),A5]
 have hoth:∀ o,o ≠ d→o ≠ d'→(Ar (Ar H d' (H d)) d ⟨(H d).u,.none⟩:Hp) o=H o:=fun o e1 e2=>by rw[Ao e1,Ao e2]
 -- who has a block has it in the old state,under an old name
 have old:∀ o,BJ (Ar μ d' (μ d) o) ((Ar (Ar H d' (H d)) d ⟨(H d).u,.none⟩:Hp) o).ob=true→∃ p,BJ (μ p) (H p).ob=true∧(Ar μ d' (μ d) o)=μ p∧(o=d'∧p=d∨o ≠ d'∧o ≠ d∧p=o):=fun o h=>by
  by_cases e1:o=d
  ·subst e1;rw[hd] at h;cases h
  ·by_cases e2:o=d'
   ·subst e2;rw[hd',A5] at h;exact⟨d,h,A5,.inl ⟨rfl,rfl⟩⟩
   ·rw[hoth o e1 e2,Ao e2] at h;exact⟨o,h,Ao e2,.inr ⟨e2,e1,rfl⟩⟩
 refine⟨hx,hs.kept,hs.lt,hs.old,hs.new,fun o=>?_,fun o=>?_,fun o o' k k' hoo=>?_,fun o k=>?_,hs.mle.trans hm,fun o k=>?_,hs.tab⟩
 ·by_cases e1:o=d
  ·subst e1;rw[hd,Ao hne];exact hs.ver o
  ·by_cases e2:o=d'
   ·subst e2;rw[hd',A5];exact hs.ver d
   ·rw[hoth o e1 e2,Ao e2];exact hs.ver o
 ·by_cases e1:o=d
  ·subst e1;rw[hd];trivial
  ·by_cases e2:o=d'
   ·subst e2;rw[hd',A5];exact OSim.keep hx (fun _=>rfl) (hs.ob d)
   ·rw[hoth o e1 e2,Ao e2];exact OSim.keep hx (fun _=>rfl) (hs.ob o)
 ·obtain⟨p,k1,k2,k3⟩:=old o k;obtain⟨p',g1,g2,g3⟩:=old o' k';rw[k2,g2];refine hs.apart p p' k1 g1 fun e=>hoo ?_;rcases k3 with ⟨a1,a2⟩ | ⟨a1,a2,a3⟩<;>rcases g3 with ⟨b1,b2⟩ | ⟨b1,b2,b3⟩
  ·rw[a1,b1]
  ·exact absurd (by rw[← b3,← e,a2]) b2
  ·exact absurd (by rw[← a3,e,b2]) a2
  ·rw[← a3,← b3,e]
 ·obtain⟨p,k1,k2,k3⟩:=old o k;rw[k2];obtain⟨q1,q2,q3⟩:=hs.own p k1;refine⟨q1,?_,q3⟩;rcases k3 with ⟨a1,a2⟩ | ⟨a1,a2,a3⟩
  ·subst a2;rcases q2 with h | h
   ·exact(hM _ h).elim
   ·exact .inr h
  ·subst a3;exact q2
 ·obtain⟨p,k1,k2,k3⟩:=old o k;rw[k2];rcases k3 with ⟨a1,a2⟩ | ⟨a1,a2,a3⟩
  ·rw[a1];exact htg _
  ·rw[← a3];exact hs.tag p k1
theorem PA {c:Cx} {s:Nat→A} {H:Hp} (R:Nat→Prop) [DecidablePred R] (hM:∀ r p b,R r→¬ c.M0 (r::p) b) (t:Nat) (a:A) (hf:∀ H1:Hp,(∀ r p,R r→H1 (r::p)=H (r::p))→Jw H1 (s t) a) :
  ∃ H2:Hp,Le c ⟨s,H⟩ ⟨upd s t a,H2⟩∧∀ r p,¬ R r→H2 (r::p)=H (r::p):=by
 refine⟨fun o=>match o with | r::p=>if R r then ⟨(H (r::p)).u,.none⟩ else H (r::p) | []=>H [],Ny (H1:=fun o=>match o with | r::p=>if R r then H (r::p) else ⟨(H (r::p)).u,.none⟩ | []=>⟨(H []).u,.none⟩) (fun o b h=>?_) t a (fun o=>?_) (fun o=>?_) (fun o=>?_) (hf _ fun r p h=>if_pos h),fun r p h=>if_neg h⟩
 ·cases o with
  |nil=>exact absurd rfl h
  |cons r p=>
   by_cases hr:R r
   ·exact hM r p b hr
   ·exact absurd (by simp[hr]) h
 ·cases o with
  |nil=>exact .inr rfl
  |cons r p=>
   by_cases hr:R r
   ·exact .inl (by simp[hr])
   ·exact .inr (by simp[hr])
 ·cases o with
  |nil=>exact .inl rfl
  |cons r p=>
   by_cases hr:R r
   ·exact .inr (by simp[hr])
   ·exact .inl (by simp[hr])
 ·cases o with
  |nil=>exact .inl rfl
  |cons r p=>
   by_cases hr:R r
   ·exact .inr (by simp[hr])
   ·exact .inl (by simp[hr])
theorem IE {c:Cx} {s:Nat→A} {H:Hp} (R:Nat→Prop) [DecidablePred R] (hM:∀ r p b,R r→¬ c.M0 (r::p) b) {r0:Nat} {p0:Nm} (hr0:¬ R r0) {u:Nat} {cs cs':List A} (hd:H (r0::p0)=⟨u,.cells cs⟩) (h1:A.ones cs'=true)
  (hf:∀ H1:Hp,(∀ r p,R r→H1 (r::p)=H (r::p))→FF H1 cs cs') :
  ∃ H2:Hp,Le c ⟨s,H⟩ ⟨s,Ar H2 (r0::p0) ⟨u,.cells cs'⟩⟩∧∀ r p,¬ R r→H2 (r::p)=H (r::p):=by
 refine⟨fun o=>match o with | r::p=>if R r then ⟨(H (r::p)).u,.none⟩ else H (r::p) | []=>H [],fun a w I μ hs=>?_,fun r p h=>if_neg h⟩;have part1:Part H (fun o=>match o with | r::p=>if R r then H (r::p) else ⟨(H (r::p)).u,.none⟩ | []=>⟨(H []).u,.none⟩):=fun o=>by
  cases o with
  |nil=>exact .inr rfl
  |cons r p=>
   by_cases hr:R r
   ·exact .inl (by simp[hr])
   ·exact .inr (by simp[hr])
 have part2:Part H (fun o=>match o with | r::p=>if R r then ⟨(H (r::p)).u,.none⟩ else H (r::p) | []=>H []):=fun o=>by
  cases o with
  |nil=>exact .inl rfl
  |cons r p=>
   by_cases hr:R r
   ·exact .inr (by simp[hr])
   ·exact .inl (by simp[hr])
 have h3:=hs.sim.freezeAll part1 part2 (fun o=>by
  cases o with
  |nil=>exact .inl rfl
  |cons r p=>
   by_cases hr:R r
   ·exact .inr (by simp[hr])
   ·exact .inl (by simp[hr])) (fun o b h=>by
  cases o with
  |nil=>exact absurd rfl h
  |cons r p=>
   by_cases hr:R r
   ·exact hM r p b hr
   ·exact absurd (by simp[hr]) h)
 have hd2:(fun o=>match o with | r::p=>if R r then (⟨(H (r::p)).u,.none⟩:VOb) else H (r::p) | []=>H []:Hp) (r0::p0)=⟨u,.cells cs⟩:=by
  show(if R r0 then _ else _)=_;rw[if_neg hr0,hd]
 have hob:=hs.sim.ob (r0::p0);have hob:OSim w I μ (μ (r0::p0)) (.cells cs):=by
  have e:(⟨s,H⟩:Sta).H (r0::p0)=⟨u,.cells cs⟩:=hd;rw[e] at hob;exact hob
 obtain⟨vs,k1,k2,k3⟩:=hob;obtain⟨hl,hg⟩:=Ha (hf (fun o=>match o with | r::p=>if R r then H (r::p) else ⟨(H (r::p)).u,.none⟩ | []=>⟨(H []).u,.none⟩) fun r p h=>if_pos h);have hB:BJ (μ (r0::p0)) ((fun o=>match o with | r::p=>if R r then (⟨(H (r::p)).u,.none⟩:VOb) else H (r::p) | []=>H []:Hp) (r0::p0)).ob=true:=by rw[hd2];rfl
 obtain⟨hx2,hs2⟩:=h3.upd (Fi w none) (r0::p0) (μ (r0::p0)) (.cells cs') (.inl rfl) (.inr rfl) (fun _=>.inr ⟨hB,rfl⟩) (fun _=>h3.tag _ hB) (fun hx2=>by
  refine⟨vs,k1,by rw[k2,hl],fun k y hk=>?_⟩;rw[Ce];obtain⟨x,hx,hfx⟩:=hg k y hk;simp only[A.ones,List.all_eq_true] at h1;exact⟨h1 y (List.mem_of_getElem? hk),(hfx c w I μ _ (hs.sim.part part1) (k3 k x hx).2).ofI⟩)
 have hu:(μ (r0::p0)).u=u:=by exact(h3.ver (r0::p0)).trans (congrArg VOb.u hd2)
 rw[hu] at hs2;exact⟨_,_,hs2,hs.size,hs.defers,fun t=>hx2.rel ((hs.rel t).mono0 (fun b h=>.inl h) (fun _ _=>rfl))⟩
theorem Ef {P:Program} {f:FuncId} {n:Nat} {rs:List ResultVar} {cc:CC} {as':Nat→List A} {F F':Fam} {x:Nat→A} (t:BM P f n rs cc) (ha:(as' 0).length≤n) (h0:FamL as') (h1:DV x)
  (h:∀ w0 I0 M0 m0,(∀ r p b,1≤r→¬ M0 (r::p) b)→WPC (HI P w0 I0 M0 n m0) cc (HK (HI P w0 I0 M0 n m0) rs 1 (x 0) (ov 0 (F'.F 0) (Dj []))) ⟨Fk (as' 0),ov 0 (F.F 0) (Dj [])⟩):SpecF P f as' F x F':=
 ⟨h0,h1,NQ t ha fun w0 I0 M0 m0 hM=>h w0 I0 M0 m0 fun r p b hr=>hM (r::p) b (by
  simp only[Bo];rw[if_neg (by omega)];rfl)⟩
abbrev Fo:=Nat→Nat
def DX:List Nat→Fo
 |[],_=>0
 |r::_,0=>r
 |_::l,i+1=>DX l i
@[simp] theorem Zp {r:Nat} {l:List Nat}:DX (r::l) 0=r:=rfl
@[simp] theorem uC {r:Nat} {l:List Nat}:DX (r::l) 1=DX l 0:=rfl
@[simp] theorem Ad8 {r:Nat} {l:List Nat}:DX (r::l) 2=DX l 1:=rfl
@[simp] theorem Adz {r:Nat} {l:List Nat}:DX (r::l) 3=DX l 2:=rfl
@[simp] theorem AdN {r:Nat} {l:List Nat}:DX (r::l) 4=DX l 3:=rfl
@[simp] theorem AdX {r:Nat} {l:List Nat}:DX (r::l) 5=DX l 4:=rfl
theorem D8:∀ (l:List Nat) (i:Nat),DX l i=l.getD i 0
 |[],i=>by simp[DX]
 |r::l,0=>by simp
 |r::l,i+1=>by rw[DX,D8 l i];simp
structure N0 (k:Nat) (ρ ρ':Fo) (g:Nm→Nm) (δ:Nm→Nat):Prop where
 g:∀ i,i<k→∀ p,g (ρ i::p)=ρ' i::p
 d:∀ i,i<k→∀ p,δ (ρ i::p)=0
structure KA (k:Nat) (a:Fo→A):Prop where
 ren:∀ {g:Nm→Nm} {δ:Nm→Nat} {ρ ρ':Fo},N0 k ρ ρ' g δ→(a ρ).ren g δ=a ρ'
 refs:∀ {D:Nm→Prop} {ρ:Fo},(∀ i,i<k→∀ p,D (ρ i::p))→(a ρ).refs D
structure KL (k:Nat) (a:Fo→List A):Prop where
 ren:∀ {g:Nm→Nm} {δ:Nm→Nat} {ρ ρ':Fo},N0 k ρ ρ' g δ→A.renL g δ (a ρ)=a ρ'
 refs:∀ {D:Nm→Prop} {ρ:Fo},(∀ i,i<k→∀ p,D (ρ i::p))→A.refsL D (a ρ)
section
variable {k:Nat}
@[simp] theorem EH:KL k (fun _=>[]):=⟨fun _=>by simp[A.renL],fun _=>by simp[A.refsL]⟩
theorem A3 {a:Fo→A} {l:Fo→List A} (h:KA k a) (m:KL k l):KL k (fun ρ=>a ρ::l ρ):=⟨fun t=>by simp[A.renL,h.ren t,m.ren t],fun t=>by simp only[A.refsL];exact⟨h.refs t,m.refs t⟩⟩
@[simp] theorem mZ {a:Fo→A} {l:Fo→List A} (h:KA k a):KL k (fun ρ=>a ρ::l ρ)=KL k l:=by
 refine propext ⟨fun m=>⟨fun t=>?_,fun t=>?_⟩,A3 h⟩
 ·have:=m.ren t;simp only[A.renL,List.cons.injEq] at this;exact this.2
 ·have:=m.refs t;simp only[A.refsL] at this;exact this.2
structure Eo (a:A):Prop where
 ren:∀ (g:Nm→Nm) (δ:Nm→Nat),a.ren g δ=a
 refs:∀ D:Nm→Prop,a.refs D
@[simp] theorem bz:Eo .any:=⟨fun _ _=>by simp[A.ren],fun _=>by simp[A.refs]⟩
@[simp] theorem lC {x:Value}:Eo (.v x):=⟨fun _ _=>by simp[A.ren],fun _=>by simp[A.refs]⟩
@[simp] theorem fL {f:Bool} {xs:List A}:Eo (.sl f xs):=⟨fun _ _=>by simp[A.ren],fun _=>by simp[A.refs]⟩
@[simp] theorem ah {xs:List A}:Eo (.pim xs):=⟨fun _ _=>by simp[A.ren],fun _=>by simp[A.refs]⟩
theorem BO:∀ {l:List A},(∀ x,x ∈ l→Eo x)→(∀ (g:Nm→Nm) (δ:Nm→Nat),A.renL g δ l=l)∧∀ D:Nm→Prop,A.refsL D l
 |[],_=>⟨fun _ _=>by simp[A.renL],fun _=>by simp[A.refsL]⟩
 |x::l,h=>by
  have h1:=h x (by simp);have h2:=BO (l:=l) fun y hy=>h y (by simp[hy]);exact⟨fun g δ=>by simp[A.renL,h1.ren,h2.1],fun D=>by simp only[A.refsL];exact⟨h1.refs D,h2.2 D⟩⟩
theorem H8 {l:List A} (h:∀ x,x ∈ l→Eo x):Eo (.agg l):=⟨fun g δ=>by simp[A.ren,(BO h).1],fun D=>by simp only[A.refs];exact(BO h).2 D⟩
theorem GR {l:List A} (h:∀ x,x ∈ l→Eo x):Eo (.tup l):=⟨fun g δ=>by simp[A.ren,(BO h).1],fun D=>by simp only[A.refs];exact(BO h).2 D⟩
theorem DR {a:A} (h:Eo a):KA k (fun _=>a):=⟨fun _=>h.ren _ _,fun _=>h.refs _⟩
theorem Hz {l:List A} (h:∀ x,x ∈ l→Eo x):KL k (fun _=>l):=⟨fun _=>(BO h).1 _ _,fun _=>(BO h).2 _⟩
@[simp] theorem Acu:KA k (fun _=>.any):=DR bz
@[simp] theorem LI {x:Value}:KA k (fun _=>.v x):=DR lC
@[simp] theorem yk {f:Bool} {xs:List A}:KA k (fun _=>.sl f xs):=DR fL
@[simp] theorem AcD {xs:List A}:KA k (fun _=>.pim xs):=DR ah
@[simp] theorem B4 {i u off:Nat} {q:Nm} (h:i<k):KA k (fun ρ=>.pob (ρ i::q) u off):=⟨fun t=>by simp[A.ren,t.g i h,t.d i h],fun t=>by simp[A.refs,t i h]⟩
@[simp] theorem jd {i u sz off len:Nat} {q:Nm} (h:i<k):KA k (fun ρ=>.osl (ρ i::q) u sz off len):=⟨fun t=>by simp[A.ren,t.g i h,t.d i h],fun t=>by simp[A.refs,t i h]⟩
@[simp] theorem Ab4 {i u a b:Nat} {q:Nm} (h:i<k):KA k (fun ρ=>.pel (ρ i::q) u a b):=⟨fun t=>by simp[A.ren,t.g i h,t.d i h],fun t=>by simp[A.refs,t i h]⟩
@[simp] theorem Adc {l:Fo→List A} (h:KL k l):KA k (fun ρ=>.agg (l ρ)):=⟨fun t=>by simp[A.ren,h.ren t],fun t=>by simp only[A.refs];exact h.refs t⟩
@[simp] theorem Adk {l:Fo→List A} (h:KL k l):KA k (fun ρ=>.tup (l ρ)):=⟨fun t=>by simp[A.ren,h.ren t],fun t=>by simp only[A.refs];exact h.refs t⟩
@[simp] theorem oD {f:FuncId} {l m:Fo→List A} (h:KL k l) (h2:KL k m):KA k (fun ρ=>.fnc f (l ρ) (m ρ)):=⟨fun t=>by simp[A.ren,h.ren t,h2.ren t],fun t=>by simp only[A.refs];exact⟨h.refs t,h2.refs t⟩⟩
@[simp] theorem Aci {t:TypeId} {a:Fo→A} (h:KA k a):KA k (fun ρ=>.ifc t (a ρ)):=⟨fun t=>by simp[A.ren,h.ren t],fun t=>by simp only[A.refs];exact h.refs t⟩
theorem ZM {l m:Fo→List A} (h:KL k l) (h2:KL k m):KL k (fun ρ=>l ρ++m ρ):=⟨fun t=>by rw[B1,List.map_append,← B1,← B1,h.ren t,h2.ren t],fun t=>refsL_iff.2 fun x hx=>by
 rcases List.mem_append.1 hx with hx | hx
 ·exact refsL_iff.1 (h.refs t) x hx
 ·exact refsL_iff.1 (h2.refs t) x hx⟩
end
structure FamK (k:Nat) where
 F:Fo→Nat→Nm→VOb
 ren:∀ {g:Nm→Nm} {δ:Nm→Nat} {ρ ρ':Fo},N0 k ρ ρ' g δ→∀ i,i<k→∀ p,(F ρ i p).ren g δ 0=F ρ' i p
 refs:∀ {D:Nm→Prop} {ρ:Fo},(∀ i,i<k→∀ p,D (ρ i::p))→∀ i,i<k→∀ p,(F ρ i p).ob.refs D
def FamK.no:FamK 0:=⟨fun _ _ _=>⟨0,.none⟩,fun _ i h=>by omega,fun _ i h=>by omega⟩
def FamK.app {a b:Nat} (F:FamK a) (G:FamK b):FamK (a+b):=⟨fun ρ i p=>if i<a then F.F ρ i p else G.F (fun j=>ρ (a+j)) (i-a) p,fun t i hi p=>by
  by_cases h:i<a
  ·simp only[if_pos h];exact F.ren ⟨fun i hi=>t.g i (by omega),fun i hi=>t.d i (by omega)⟩ i h p
  ·simp only[if_neg h];exact G.ren ⟨fun i hi=>t.g (a+i) (by omega),fun i hi=>t.d (a+i) (by omega)⟩ (i-a) (by omega) p,fun t i hi p=>by
  by_cases h:i<a
  ·simp only[if_pos h];exact F.refs (fun i hi=>t i (by omega)) i h p
  ·simp only[if_neg h];exact G.refs (fun i hi=>t (a+i) (by omega)) (i-a) (by omega) p⟩
theorem Bg {a b:Nat} {F:FamK a} {G:FamK b} {ρ:Fo} {i:Nat} {p:Nm} (h:i<a):(F.app G).F ρ i p=F.F ρ i p:=if_pos h
theorem A9 {a b:Nat} {F:FamK a} {G:FamK b} {ρ:Fo} {i:Nat} {p:Nm} (h:a≤i):(F.app G).F ρ i p=G.F (fun j=>ρ (a+j)) (i-a) p:=if_neg (by omega)
def It:List Nat→(Nat→Nm→VOb)→Hp→Hp
 |[],_,H=>H
 |r::l,F,H=>ov r (F 0) (It l (fun i=>F (i+1)) H)
@[simp] theorem Aa2 {F:Nat→Nm→VOb} {H:Hp}:It [] F H=H:=rfl
@[simp] theorem MB {r:Nat} {l:List Nat} {F:Nat→Nm→VOb} {H:Hp}:It (r::l) F H=ov r (F 0) (It l (fun i=>F (i+1)) H):=rfl
theorem Gd:∀ {l:List Nat} {F:Nat→Nm→VOb} {H:Hp} {j:Nat} {p:Nm},It l F H (j::p)=if j ∈ l then F (l.idxOf j) p else H (j::p)
 |[],F,H,j,p=>by simp
 |r::l,F,H,j,p=>by
  rw[MB,Bo,Gd];by_cases e:j=r
  ·subst e;simp
  ·rw[if_neg e];have hne:¬ (r == j)=true:=by simpa using fun h:r=j=>e h.symm
   by_cases hm:j ∈ l
   ·rw[if_pos hm,if_pos (by simp[hm])];rw[List.idxOf_cons];simp[hne,show ¬ r=j from fun h=>e h.symm]
   ·rw[if_neg hm,if_neg (by simp[hm,e])]
theorem QL:∀ {l:List Nat} {F:Nat→Nm→VOb} {H:Hp},It l F H []=H []
 |[],F,H=>rfl
 |r::l,F,H=>by rw[MB,dB,QL]
theorem ZK {k i:Nat} (h:i<k):(List.range k).idxOf i=i:=by
 have:=D5 (rs:=List.range k) List.nodup_range (i:=i) (by simpa using h);have e:(List.range k).getD i 0=i:=by simp[h]
 rwa [e] at this
theorem AG {k:Nat} {F:Nat→Nm→VOb} {H:Hp} {j:Nat} {p:Nm}:It (List.range k) F H (j::p)=if j<k then F j p else H (j::p):=by
 rw[Gd];by_cases h:j<k
 ·rw[if_pos (by simpa using h),if_pos h,ZK h]
 ·rw[if_neg (by simpa using h),if_neg h]
structure SpecK (P:Program) (f:FuncId) (k0 k:Nat) (as':Fo→List A) (F:FamK k0) (x:Fo→A) (F':FamK k):Prop where
 le:k0≤k
 fa:KL k0 as'
 fx:KA k x
 n:∀ i,k0≤i→i<k→∀ p,(F'.F id i p).ob = .none∨1≤(F'.F id i p).u
 h:SpecH P f k (as' id) (It (List.range k0) (F.F id) (Dj [])) (x id) (It (List.range k) (F'.F id) (Dj []))
section
variable {P:Program} {K:Lu} {rest:List CO} {s:Nat→A} {H:Hp} {dd:Option Nat} {nm:Nm} {ix:Nat} {un:List Nat} {l:Bool} {lg:Lg} {g:FuncId} {aa:Array Operand} {ts:Array TypeId}
theorem Wi {rs:List Nat} (hnd:rs.Nodup) {k0:Nat} (hk:k0≤rs.length):N0 k0 (DX rs) id (Uw rs) (fun _=>0):=⟨fun i hi p=>by
 show rs.idxOf (DX rs i)::p=i::p;rw[D8,D5 hnd (by omega)],fun _ _ _=>rfl⟩
theorem QI {rs:List Nat} {k0:Nat} (hq:∀ i,k0≤i→i<rs.length→∀ p,(H (DX rs i::p)).u=0):N0 rs.length id (DX rs) (mg rs) (WM rs k0 H):=⟨fun i hi p=>by
 show rs.getD i 0::p=DX rs i::p;rw[D8],fun i hi p=>by
 show(if i<k0 then 0 else if i<rs.length then (H (rs.getD i 0::p)).u else 0)=0;by_cases h:i<k0
 ·rw[if_pos h]
 ·rw[if_neg h,if_pos hi,← D8];exact hq i (by omega) hi p⟩
theorem lp {rs:List Nat} {j:Nat} (h:j ∈ rs):DX rs (rs.idxOf j)=j:=by rw[D8,HZ h]
theorem qj {rs:List Nat} (hnd:rs.Nodup) {k0:Nat} (hk:k0≤rs.length) {F:FamK k0} (hF:∀ i,i<k0→∀ p,H (DX rs i::p)=F.F (DX rs) i p):NG rs k0 H=It (List.range k0) (F.F id) (Dj []):=by
 funext o;cases o with
 |nil=>rw[QL];rfl
 |cons i p=>
  rw[AG];by_cases hi:i<k0
  ·simp only[NG,if_pos hi];rw[← D8,hF i hi];exact F.ren (Wi hnd hk) i hi p
  ·simp only[NG,if_neg hi];rfl
theorem ik {rs:List Nat} (hnd:rs.Nodup) {k0:Nat} (hk:k0≤rs.length) {F:FamK k0} (hF:∀ i,i<k0→∀ p,H (DX rs i::p)=F.F (DX rs) i p):Tp rs k0 H:=by
 intro j p hj;have hm:j ∈ rs:=idx_mem.1 (by omega);have e:=hF _ hj p;rw[lp hm] at e;rw[e];refine F.refs (fun i hi p=>?_) _ hj p;show rs.idxOf (DX rs i)<k0;rw[D8,D5 hnd (by omega)];exact hi
theorem xv {rs:List Nat} {k0:Nat} (hq:∀ i,k0≤i→i<rs.length→∀ p,(H (DX rs i::p)).u=0) {F':FamK rs.length}:VA rs (WM rs k0 H) H (It (List.range rs.length) (F'.F id) (Dj []))=It rs (F'.F (DX rs)) H:=by
 funext o;cases o with
 |nil=>rw[QL];rfl
 |cons j p=>
  rw[Gd];by_cases hj:j ∈ rs
  ·have hi:rs.idxOf j<rs.length:=idx_mem.2 hj;simp only[VA];have hd0:WM rs k0 H (rs.idxOf j::p)=0:=(QI hq).d _ hi p;rw[if_pos (by simpa using hj),if_pos hj,AG,if_pos hi,hd0];exact F'.ren (QI hq) _ hi p
  ·simp only[VA];rw[if_neg (by simpa using hj),if_neg hj]
theorem BD {k0:Nat} {as':Fo→List A} {F:FamK k0} {x:Fo→A} (rs:List Nat) {F':FamK rs.length} (hS:SpecK P g k0 rs.length as' F x F') (hnd:rs.Nodup) (hF:∀ i,i<k0→∀ p,H (DX rs i::p)=F.F (DX rs) i p) (hq:∀ i,k0≤i→i<rs.length→∀ p,(H (DX rs i::p)).u=0)
  (ha:aa.toList.map (evs s)=as' (DX rs)) (hck:Ck un lg ⟨[],rs.map fun r=>([r],true)⟩)
  (h:An P K rest (A2 l ix ⟨[],rs.map fun r=>([r],true)⟩ lg) (Sta.put ⟨s,H⟩ dd (x (DX rs)) (It rs (F'.F (DX rs)) H))) :
  An P K (⟨dd,.call { callee:=.value (.func g),args:=aa,argTypes:=ts },none,nm,ix,un,l⟩::rest) lg ⟨s,H⟩:=by
 refine Wd rs k0 hS.h hnd hS.le ?_ ?_ (qj hnd hS.le hF) (ik hnd hS.le hF) (hS.fx.refs fun i hi p=>hi) (fun i p hi=>?_) (fun i p h1 h2=>?_) (hS.fx.ren (QI hq)) (xv hq) hck h
 ·rw[ha];exact hS.fa.ren (Wi hnd hS.le)
 ·rw[ha];exact hS.fa.refs fun i hi p=>by
   show rs.idxOf (DX rs i)<k0;rw[D8,D5 hnd (by have:=hS.le;omega)];exact hi
 ·rw[AG,if_pos hi];exact F'.refs (fun i hi p=>hi) i hi p
 ·rw[AG,if_pos h2];exact hS.n i h1 h2 p
end
theorem Bq {P:Program} {f:FuncId} {n k0 k:Nat} {rs:List ResultVar} {cc:CC} {as':Fo→List A} {F:FamK k0} {x:Fo→A} {F':FamK k} (t:BM P f n rs cc) (ha:(as' id).length≤n) (hk:k0≤k) (h0:KL k0 as') (h1:KA k x) (hn:∀ i,k0≤i→i<k→∀ p,(F'.F id i p).ob = .none∨1≤(F'.F id i p).u)
  (h:∀ w0 I0 M0 m0,(∀ i p b,k0≤i→¬ M0 (i::p) b)→WPC (HI P w0 I0 M0 n m0) cc (HK (HI P w0 I0 M0 n m0) rs k (x id) (It (List.range k) (F'.F id) (Dj []))) ⟨Fk (as' id),It (List.range k0) (F.F id) (Dj [])⟩):SpecK P f k0 k as' F x F':=
 ⟨hk,h0,h1,hn,NQ t ha fun w0 I0 M0 m0 hM=>h w0 I0 M0 m0 fun i p b hi=>hM (i::p) b (by rw[AG,if_neg (by omega)];rfl)⟩
theorem Bf {c:Cx} {rs:List ResultVar} {k:Nat} {x:A} {F':Nat→Nm→VOb} {r0:A} {st:Sta} (h:FW c.P st rs=some r0) (he:r0=x) (hh:∀ i,i<k→∀ p,st.H (i::p)=F' i p):HK c rs k x (It (List.range k) F' (Dj [])) .ret st:=
 Vi h he fun i p hi=>by rw[hh i hi,AG,if_pos hi]
theorem Qv {c:Cx} {rs:List ResultVar} {k:Nat} {x:A} {F':Nat→Nm→VOb} {r0:A} {st:Sta} (h:FW c.P st rs=some r0) (he:r0=x) (hh:∀ i,i<k→∀ p,st.H (i::p)=F' i p):HK c rs k x (It (List.range k) F' (Dj [])) .normal st:=
 N4 h he fun i p hi=>by rw[hh i hi,AG,if_pos hi]
theorem R6:∀ (cs:List A) (k:Nat) (y:A),(A.softL cs)[k]? = some y→∃ x,cs[k]? = some x∧y=A.soft x
 |[],k,y,h=>by simp[A.softL] at h
 |x::cs,0,y,h=>by simp[A.softL] at h ⊢; exact h.symm
 |x::cs,k+1,y,h=>by
  simp only[A.softL,List.getElem?_cons_succ] at h ⊢;exact R6 cs k y h
theorem SY:∀ cs:List A,(A.softL cs).length=cs.length
 |[]=>rfl
 |x::cs=>by simp[A.softL,SY cs]
theorem Uq {c:Cx} {s:Nat→A} {H:Hp} {d:Nm} {u:Nat} {cs:List A} (h:H d=⟨u,.cells cs⟩) (h1:∀ x,x ∈ cs→A.one x=true→A.one (A.soft x)=true:=by intro x _;cases x<;>simp[A.soft,A.one]):Le c ⟨s,H⟩ ⟨s,Ar H d ⟨u,.cells (A.softL cs)⟩⟩:=fun a w I μ hs=>by
 have hob:OSim w I μ (μ d) (H d).ob:=hs.sim.ob d;rw[h] at hob;have hv:(μ d).u=(H d).u:=hs.sim.ver d;rw[h] at hv;have hB:BJ (μ d) (H d).ob=true:=by rw[h];rfl
 obtain⟨hx,h2⟩:=hs.sim.upd (w':=w) (B:=none) ⟨rfl,rfl,rfl,CE _,fun _ _ _=>rfl⟩ d (μ d) (.cells (A.softL cs)) (.inl rfl) (.inr rfl) (fun _=>.inr ⟨hB,rfl⟩) (fun _=>hs.sim.tag d hB) (fun hx=>by
  obtain⟨vs,g2,g3,g4⟩:=hob;refine⟨vs,g2,by rw[SY];exact g3,fun k y hk=>?_⟩;obtain⟨x,k1,rfl⟩:=R6 cs k y hk;exact⟨h1 x (List.mem_of_getElem? k1) (g4 k x k1).1,hx.rel (g4 k x k1).2.soft⟩)
 have e:Ar μ d (μ d)=μ:=by funext o;unfold Ar;split<;>simp_all
 rw[e] at h2;refine⟨I,μ,⟨?_,hs.size,hs.defers,hs.rel⟩⟩;have ev:(μ d).u=u:=hv;rw[ev] at h2;exact h2
theorem kO {c:Cx} {s:Nat→A} {H:Hp} {t:Nat} {o:Nm} (sz:Nat) (hs:s t = .sl true []) (hu:(H o).u=0):Le c ⟨s,H⟩ ⟨upd s t (.osl o 1 sz 0 0),Ar H o ⟨1,.arr sz []⟩⟩:=fun a w I μ h=>by
 have hv:(μ o).u=0:=(h.sim.ver o).trans hu;obtain⟨hx,h2⟩:=h.sim.upd (w':=w) (B:=none) ⟨rfl,rfl,rfl,CE _,fun _ _ _=>rfl⟩ o { μ o with u:=1,bk:=false,sz:=sz } (.arr sz []) (.inl rfl) (.inl (by show(μ o).u<1;omega)) (fun hb=>by cases hb) (fun hb=>by cases hb) (fun _=>⟨rfl,.inl ⟨rfl,rfl⟩⟩);refine⟨I,_,⟨h2,h.size,h.defers,fun k=>?_⟩⟩;show Rel w I _ (upd s t (.osl o 1 sz 0 0) k) _;unfold upd;by_cases hk:k=t
 ·subst hk;rw[if_pos rfl];have hr:Rel w I μ (s k) (a.tmps.getD k undef):=h.rel k;rw[hs] at hr;generalize a.tmps.getD k undef=v at hr;cases hr with
  |slN _ _ b cap hc=>
   have:cap=0:=hc rfl;subst this;exact .osl _ _ _ _ _ _ _ _ (CE _) (by rw[A5];exact CE _) (CE _) (fun h=>by omega) (fun _=>⟨by rw[A5],.inl ⟨rfl,rfl⟩⟩)
  |sl _ _ b off n cap sz' _ g k1 k2 k3 k4=>
   have e1:n=0:=k2;have e2:cap=0:=k4 rfl;subst e1;subst e2;exact .osl _ _ _ _ _ _ _ _ (CE _) (by rw[A5];exact CE _) (CE _) (fun h=>by omega) (fun _=>⟨by rw[A5],.inl ⟨rfl,rfl⟩⟩)
 ·rw[if_neg hk];exact hx.rel (h.rel k)
theorem Ik {k:Nat} {ρ ρ':Fo} (h:∀ i,i<k→ρ i=ρ' i):N0 k ρ ρ' id (fun _=>0):=⟨fun i hi p=>by simp[h i hi],fun _ _ _=>rfl⟩
theorem MJ {k:Nat} (F:FamK k) {ρ ρ':Fo} (h:∀ i,i<k→ρ i=ρ' i) {i:Nat} (hi:i<k) {p:Nm}:F.F ρ i p=F.F ρ' i p:=
 (F.ren (Ik fun _ _=>rfl) i hi p).symm.trans (F.ren (Ik h) i hi p)
theorem yG {k:Nat} {a:Fo→List A} (ha:KL k a) {ρ ρ':Fo} (h:∀ i,i<k→ρ i=ρ' i):a ρ=a ρ':=(ha.ren (Ik fun _ _=>rfl)).symm.trans (ha.ren (Ik h))
theorem xf {k:Nat} {a:Fo→A} (ha:KA k a) {ρ ρ':Fo} (h:∀ i,i<k→ρ i=ρ' i):a ρ=a ρ':=(ha.ren (Ik fun _ _=>rfl)).symm.trans (ha.ren (Ik h))
theorem aG {k i:Nat} (h:i<k):DX (List.range k) i=i:=by rw[D8];simp[h]
section
variable {P:Program} {K:Lu} {rest:List CO} {s:Nat→A} {H:Hp} {dd:Option Nat} {nm:Nm} {ix:Nat} {un:List Nat} {l:Bool} {lg:Lg} {g:FuncId} {aa:Array Operand} {ts:Array TypeId}
theorem Tz {k:Nat} {F:FamK k} {H:Hp} {ρ:Fo} (h:∀ i,i<k→ρ i=i):It (List.range k) (F.F ρ) H=It (List.range k) (F.F id) H:=by
 funext o;cases o with
 |nil=>rw[QL,QL]
 |cons j p=>
  rw[AG,AG];by_cases hj:j<k
  ·rw[if_pos hj,if_pos hj];exact MJ F h hj
  ·rw[if_neg hj,if_neg hj]
theorem Kf {k0 k:Nat} {as':Fo→List A} {F:FamK k0} {x:Fo→A} {F':FamK k} (hS:SpecK P g k0 k as' F x F') (hF:∀ i,i<k0→∀ p,H (i::p)=F.F id i p) (hq:∀ i,k0≤i→i<k→∀ p,(H (i::p)).u=0)
  (ha:aa.toList.map (evs s)=as' id) (hck:Ck un lg ⟨[],(List.range k).map fun r=>([r],true)⟩)
  (h:An P K rest (A2 l ix ⟨[],(List.range k).map fun r=>([r],true)⟩ lg) (Sta.put ⟨s,H⟩ dd (x id) (It (List.range k) (F'.F id) H))) :
  An P K (⟨dd,.call { callee:=.value (.func g),args:=aa,argTypes:=ts },none,nm,ix,un,l⟩::rest) lg ⟨s,H⟩:=by
 have hl:(List.range k).length=k:=List.length_range;have hn:(List.range k).Nodup:=List.nodup_range;have hr:∀ i,i<k→DX (List.range k) i=i:=fun i hi=>aG hi;have e3:It (List.range k) (F'.F id) H=It (List.range k) (F'.F (DX (List.range k))) H:=(Tz hr).symm;rw[e3] at h;clear e3;generalize List.range k=rs at *;subst hl;have hle:=hS.le;refine BD rs hS hn (fun i hi p=>?_) (fun i h1 h2 p=>?_) ?_ hck ?_
 ·rw[hr i (by omega),hF i hi p];exact MJ F (fun i hi=>(hr i (by omega)).symm) hi
 ·rw[hr i h2];exact hq i h1 h2 p
 ·rw[ha];exact yG hS.fa fun i hi=>(hr i (by omega)).symm
 ·rw[xf hS.fx (ρ:=DX rs) (ρ':=id) hr];exact h
end
def Nc (k:Nat) (ρ:Fo):Fo:=fun j=>if j=0 then ρ 0 else ρ (j+k)
theorem V1 {k:Nat} {g:Nm→Nm} {δ:Nm→Nat} {ρ ρ':Fo} (t:N0 (k+(k+1)) ρ ρ' g δ):N0 (k+1) (Nc k ρ) (Nc k ρ') g δ:=⟨fun i hi p=>by
  unfold Nc;split
  ·exact t.g 0 (by omega) p
  ·exact t.g (i+k) (by omega) p,fun i hi p=>by
  unfold Nc;split
  ·exact t.d 0 (by omega) p
  ·exact t.d (i+k) (by omega) p⟩
def FamK.nw {k:Nat} (F F':FamK (k+1)):FamK (k+(k+1)):=⟨fun ρ i p=>if i=0 then F'.F (Nc k ρ) 0 p else if i<k+1 then F.F ρ i p else F'.F (Nc k ρ) (i-k) p,fun t i hi p=>by
  split
  ·exact F'.ren (V1 t) 0 (by omega) p
  ·split
   ·exact F.ren ⟨fun i hi=>t.g i (by omega),fun i hi=>t.d i (by omega)⟩ i (by omega) p
   ·exact F'.ren (V1 t) (i-k) (by omega) p,fun {D ρ} t i hi p=>by
  have t2:∀ j,j<k+1→∀ p,D (Nc k ρ j::p):=fun j hj p=>by
   unfold Nc;split
   ·exact t 0 (by omega) p
   ·exact t (j+k) (by omega) p
  split
  ·exact F'.refs t2 0 (by omega) p
  ·split
   ·exact F.refs (fun i hi=>t i (by omega)) i (by omega) p
   ·exact F'.refs t2 (i-k) (by omega) p⟩
theorem j7 {k:Nat} {F F':FamK (k+1)} {ρ:Fo} {i:Nat} {p:Nm}:(F.nw F').F ρ i p=if i=0 then F'.F (Nc k ρ) 0 p else if i<k+1 then F.F ρ i p else F'.F (Nc k ρ) (i-k) p:=rfl
theorem SpecH.soft {P:Program} {f:FuncId} {k:Nat} {as' as'':List A} {Hc:Hp} {r:A} {Hr:Hp} (h:SpecH P f k as'' Hc r Hr) (e:A.softL as'=as''):SpecH P f k as' Hc r Hr:=by
 subst e;refine⟨h.1,fun w I M0 n' μ vs hN hs hl har=>h.2 w I M0 n' μ vs hN hs (by simpa[BC] using hl) fun k y hk=>?_⟩;rw[BC,List.getElem?_map,Option.map_eq_some_iff] at hk;obtain⟨y',hy,rfl⟩:=hk;exact(har k y' hy).soft
theorem SpecK.soft {P:Program} {f:FuncId} {k0 k:Nat} {xs as'':Fo→List A} {F:FamK k0} {x:Fo→A} {F':FamK k} (h:SpecK P f k0 k as'' F x F') (h0:KL k0 xs) (e:A.softL (xs id)=as'' id):SpecK P f k0 k xs F x F':=⟨h.le,h0,h.fx,h.n,h.h.soft e⟩
structure Qk (F:Fence):Prop where
 fn:∀ f,F.fn f
 depth:F.depth=none
 call:∀ {n:Nat} {P:Program} {f:FuncId} {args:Array Value} {w:World} {R:Ending→World→Prop},Calls P f args w R→CallsIn F n P f args w R
theorem CT:Qk Fence.wide:=⟨fun _=>trivial,rfl,fun h=>callsIn_wide.2 h⟩
theorem Qx (l:Nat):Qk (Fence.wide.inRound l):=⟨fun _=>trivial,rfl,fun h=>CallsIn.inRound l (callsIn_wide.2 h)⟩
theorem VE {F:Fence} (hF:Qk F) {m:Nat} {c:Cx} (hdie:∀ t,¬ c.die t) {st:Sta} {a:Act} {w:World} {I:Nat→Prop} {μ:Mu} (h:SR c st a w I μ) {o:Oper} (hnd:∀ k,o.op ≠ .defer k) (hd:∀ d,o.dst=some d→d<c.n) {nm:Nm} {x:A} {E:Eff} {R W:Fp} (ho:Sh c.P c.die nm o.op (evs st.s) st.H x E R W)
  {K:Act→World→Prop} {Q:Exit→Act→World→Prop} (hK:∀ a' w' I' μ',SR c (st.put o.dst x (E.app st.H)) a' w' I' μ'→K a' w'):o.wpIn F m c.P a w K Q:=by
 have hr:=Sb h.sim (h.evs) (fun _=>rfl) ho;unfold Oper.wpIn;refine⟨fun f _=>hF.fn f,?_⟩;rw[Oper.semAt_eq _ _ _ hnd];generalize (execOp a.eval o).run c.P w=r at hr;cases r with
 |halt e w'=>exact hr.elim
 |ok nx w'=>
  cases nx<;>simp only[ROK] at hr<;>first | exact hr.elim | skip
  case value v=>
   obtain⟨I',μ',h1,h2,h3⟩:=hr;exact hK _ _ I' μ' (h.put h1 h2 hd h3)
  case skip=>
   obtain⟨I',μ',h1,h2,rfl⟩:=hr;exact hK _ _ I' μ' (h.put h1 h2 hd (.any _ _))
  case enter f args=>
   obtain⟨rfl,hc⟩:=hr;refine⟨fun e=>by simp[hF.depth] at e,hF.call (hc.mono fun e w'' hh=>?_)⟩;rcases hh with ⟨v,he,I',μ',h1,h2,h3⟩ | ⟨t,h1,he,h2⟩
   ·subst he;exact hK _ _ I' μ' (h.put h1 h2 hd h3)
   ·exact(hdie t h1).elim
theorem Lj {F:Fence} (hF:Qk F) {m:Nat} {c:Cx} {nms:Nat→Nm} {need:Nat→Nat→Bool} {ops:Array Oper} {K:Sta→Prop} {Q:Exit→Act→World→Prop} (hd:Fy c.n ops=true) (hnd:∀ (i:Nat) (o:Oper),ops[i]? = some o→∀ k,o.op ≠ .defer k) (hdie:∀ t,¬ c.die t) {tail:List Nat} (hQ:∀ st a w I μ,SR c st a w I μ→K st→wpOpsIn F m c.P ops Q tail a w) :
  ∀ (l:List Oper) (k:Nat) (lg:Lg) (st:Sta) (a:Act) (w:World) (I:Nat→Prop) (μ:Mu),(∀ j,j<l.length→l[j]? = ops[k+j]?)→SR c st a w I μ→UW c.P c.die nms need ops K l k lg st→wpOpsIn F m c.P ops Q (List.range' k l.length++tail) a w
 |[],k,lg,st,a,w,I,μ,_,h,hs=>hQ st a w I μ h hs
 |o::l,k,lg,st,a,w,I,μ,hl,h,hs=>by
  obtain⟨x,E,f,⟨q,x0,hg,h1,rfl,h2⟩,_,hs⟩:=hs;have h0:ops[k]? = some o:=by simpa using (hl 0 (by simp)).symm
  have hw:=Gw h hd hg;have hdst:=G8 hd h0;have next:∀ a' w' I' μ',SR c (st.put o.dst (gd q x0) (E.app st.H)) a' w' I' μ'→wpOpsIn F m c.P ops Q (List.range' (k+1) l.length++tail) a' w':=fun a' w' I' μ' h'=>
   Lj hF hd hnd hdie hQ l (k+1) _ _ a' w' I' μ' (fun j hj=>by have:=hl (j+1) (by simp;omega);simpa[Nat.add_assoc,Nat.add_comm 1 j] using this) h' hs
  simp only[List.length_cons,List.range'_succ,List.cons_append,wpOpsIn,h0,hw];cases q with
  |true=>
   rw[if_pos rfl];exact VE hF hdie h (hnd k o h0) hdst (h1 rfl) next
  |false=>
   rw[if_neg (by simp)];obtain⟨rfl,_,_⟩:=h2 rfl;exact⟨fun f _=>hF.fn f,next _ _ I μ (Jh h hdst)⟩
def tG (o:Oper):Bool:=match o.op with
 |.defer _=>false
 |_=>true
def BW:Code→Bool
 |.region _ ops draw=>!draw&&ops.all tG
 |.seq x y=>BW x&&BW y
 |.cond _ x y=>BW x&&BW y
 |.block _ x=>BW x
 |.skip=>true
 |.exit _=>true
 |.ret=>true
 |_=>false
def UpI (c:Cx) (Q:Exit→Sta→Prop) (e:Exit) (a:Act) (w:World):Prop:=∃ st I μ,SR c st a w I μ∧Q e st
def Ac2 (F:Fence) (m:Nat) (c:Cx) (code:Code) (Q:Exit→Sta→Prop) (st:Sta):Prop:=∀ a w I μ,SR c st a w I μ→code.wpIn F m c.P (UpI c Q) a w
theorem Ly {F:Fence} (hF:Qk F) {m:Nat} {c:Cx} (hdie:∀ t,¬ c.die t) (hm:c.P.follows .mixedOrders=true):∀ {x:CC} {a:Code} {Q:Exit→Sta→Prop} {st:Sta},Is c.n x a→BW a=true→WPC c x Q st→Ac2 F m c a Q st:=by
 intro x a Q st hi hst;induction hi generalizing Q st with
 |skip=>exact fun h a w I μ hs=>wpIn_skip ⟨st,I,μ,hs,h⟩
 |exit i=>exact fun h a w I μ hs=>wpIn_exit ⟨st,I,μ,hs,h⟩
 |ret=>exact fun h a w I μ hs=>wpIn_ret ⟨st,I,μ,hs,h⟩
 |reg id ops draw live nms l hok hl=>
  intro h a w I μ hs;simp only[BW,Bool.and_eq_true,Bool.not_eq_true'] at hst;obtain⟨rfl,hnd⟩:=hst;have hnd':∀ (i:Nat) (o:Oper),ops[i]? = some o→∀ k,o.op ≠ .defer k:=fun i o ho k e=>by
   obtain⟨hi,he⟩:=Array.getElem?_eq_some_iff.1 ho;have:=(Array.all_eq_true.1 hnd) i hi;rw[he] at this;unfold tG at this;rw[e] at this;cases this
  have hds:Fy c.n ops=true:=by
   unfold Vm at hok;simp only[Bool.and_eq_true] at hok;first | exact hok.1 | exact hok.1.1 | exact hok
  have h1:=Ls ops.toList 0 l [] [] _ hl (by simp) (fun p hp=>by simp at hp) h;refine wpIn_region ?_;rw[List.range_eq_range'];have:=Lj hF (m:=m) (Q:=UpI c Q) (tail:=[]) hds hnd' hdie (fun st' a' w' I' μ' g1 g2=>by
   obtain⟨I2,μ2,h3⟩:=M9 live a' w' I' μ' g1;exact⟨_,I2,μ2,h3,g2⟩) ops.toList 0 [] _ a w I μ (fun j _=>by simp) hs h1
  simpa using this
 |seq x y a b _ _ ih1 ih2=>
  intro h a w I μ hs;simp only[BW,Bool.and_eq_true] at hst;refine wpIn_seq (wpIn_mono (ih1 hst.1 h a w I μ hs) fun e a' w' hh=>?_);obtain⟨st',I',μ',g1,g2⟩:=hh;cases e<;>first | exact ih2 hst.2 g2 a' w' I' μ' g1 | exact⟨st',I',μ',g1,g2⟩
 |cond o x y a b _ _ ih1 ih2=>
  intro ⟨q,hb,ht,hf⟩ a w I μ hs;simp only[BW,Bool.and_eq_true] at hst;have h1:=hs.evs o;rw[hb] at h1;generalize hu:a.eval o=u at h1;cases h1;exact wpIn_cond_split hu (fun h=>ih1 hst.1 (ht h) a w I μ hs) (fun h=>ih2 hst.2 (hf h) a w I μ hs)
 |block i x a _ ih=>
  intro h a w I μ hs;simp only[BW] at hst;refine wpIn_block (wpIn_mono (ih hst h a w I μ hs) fun e a' w' hh=>?_);obtain⟨st',I',μ',g1,g2⟩:=hh;cases e with
  |exit j=>
   simp only[Exit.inBlock];by_cases hj:j=i
   ·subst hj;rw[if_pos rfl];exact⟨st',I',μ',g1,by simpa using g2⟩
   ·rw[if_neg hj];exact⟨st',I',μ',g1,by rwa [AW hj] at g2⟩
  |_=>exact⟨st',I',μ',g1,g2⟩
 |loop x a hx _=>simp[BW] at hst
 |keep live x a _ ih=>
  intro h a w I μ hs;obtain⟨I2,μ2,h3⟩:=M9 live a w I μ hs;exact ih hst h a w I2 μ2 h3
 |stop x a _ ih=>
  intro hh a w I μ hs;rcases hh with hh | ⟨st',h1,h2⟩
  ·exact(hh a w I μ hs).elim
  ·obtain⟨I2,μ2,h3⟩:=h1 a w I μ hs;exact ih hst h2 a w I2 μ2 h3
 |scope x a _ ih=>simp[BW] at hst
 |label l=>simp[BW] at hst
def Cx.sub (c:Cx) (w:World) (I:Nat→Prop) (μ:Mu) (H:Hp) (n:Nat) (ds:List Deferred):Cx:=⟨c.P,w,I,fun o b=>BJ (μ o) (H o).ob=true∧b=(μ o).b,n,μ,fun _=>False,ds⟩
@[simp] theorem AdW {c:Cx} {w:World} {I:Nat→Prop} {μ:Mu} {H:Hp} {n:Nat} {ds:List Deferred}:(c.sub w I μ H n ds).P=c.P:=rfl
@[simp] theorem Ad4 {c:Cx} {w:World} {I:Nat→Prop} {μ:Mu} {H:Hp} {n:Nat} {ds:List Deferred}:(c.sub w I μ H n ds).n=n:=rfl
@[simp] theorem Abl {c:Cx} {w:World} {I:Nat→Prop} {μ:Mu} {H:Hp} {n:Nat} {ds:List Deferred}:(c.sub w I μ H n ds).die=fun _=>False:=rfl
@[simp] theorem Acw {c:Cx} {w:World} {I:Nat→Prop} {μ:Mu} {H:Hp} {n:Nat} {ds:List Deferred}:(c.sub w I μ H n ds).ds=ds:=rfl
section
variable {c:Cx} {w w':World} {I I':Nat→Prop} {μ μ':Mu} {H H':Hp} {n:Nat} {ds:List Deferred}
theorem Sim.into (hs:Sim c w I μ H):Sim (c.sub w I μ H n ds) w I μ H:=
 ⟨⟨rfl,rfl,rfl,CE _,fun _ _ _=>rfl⟩,hs.lt,fun _ h=>h,fun b hb=>.inl hb,hs.ver,hs.ob,hs.apart,fun o k=>⟨(hs.own o k).1,.inl ⟨k,rfl⟩,(hs.own o k).2.2⟩,MuLe.refl _,hs.tag,hs.tab⟩
theorem Sim.outof (hs:Sim c w I μ H) (h:Sim (c.sub w I μ H n ds) w' I' μ' H'):Ext I μ w I' μ' w'∧Sim c w' I' μ' H':=by
 have h0:=hs.kept.size;have h1:w.heap.size≤w'.heap.size:=h.kept.size;refine⟨⟨h.old,fun b hb=>h.kept.block b (hs.lt b hb) fun ⟨o,k,e⟩=>?_,h.mle⟩,⟨h.kept.os.trans hs.kept.os,h.kept.tape.trans hs.kept.tape,h.kept.output.trans hs.kept.output,Nat.le_trans h0 h1,fun b hb hm=>?_⟩,h.lt,fun b hb=>h.old b (hs.old b hb),fun b hb=>?_,h.ver,h.ob,h.apart,fun o k=>?_,hs.mle.trans h.mle,h.tag,h.tab⟩
 ·rw[e] at hb;exact(hs.own o k).1 hb
 ·refine(h.kept.block b (show b<w.heap.size by omega) fun ⟨o,k,e⟩=>?_).trans (hs.kept.block b hb hm);rcases (hs.own o k).2.1 with g | g
  ·exact hm ⟨o,by rw[e];exact g⟩
  ·omega
 ·rcases h.new b hb with g | g
  ·exact hs.new b g
  ·exact .inr (Nat.le_trans h0 g)
 ·obtain⟨k1,k2,k3⟩:=h.own o k;refine⟨k1,?_,k3⟩;rcases k2 with ⟨g1,g2⟩ | g
  ·rw[g2];exact(hs.own o g1).2.1
  ·exact .inr (Nat.le_trans h0 g)
structure Foreign (c:Cx) (w:World) (I:Nat→Prop) (μ:Mu) (H:Hp) (l:Nat):Prop where
 i:¬ I l
 o:∀ o,BJ (μ o) (H o).ob=true→(μ o).b ≠ l
 lt:l<w.heap.size
 ge:c.w0.heap.size≤l
theorem Foreign.keep {l:Nat} (hs:Sim c w I μ H) (hf:Foreign c w I μ H l) (h:Sim (c.sub w I μ H n ds) w' I' μ' H'):Foreign c w' I' μ' H' l∧w'.heap[l]? = w.heap[l]?:=by
 have h1:w.heap.size≤w'.heap.size:=h.kept.size;have hlt:=hf.lt;refine⟨⟨fun hi=>?_,fun o k e=>?_,by omega,hf.ge⟩,h.kept.block l hlt fun ⟨o,k,e⟩=>hf.o o k e.symm⟩
 ·rcases h.new l hi with g | g
  ·exact hf.i g
  ·have:w.heap.size≤l:=g;omega
 ·rcases (h.own o k).2.1 with ⟨g1,g2⟩ | g
  ·exact hf.o o g1 (by rw[← g2,e])
  ·have:w.heap.size≤(μ' o).b:=g;omega
theorem Sim.other {l:Nat} (hs:Sim c w I μ H) (hf:Foreign c w I μ H l) (hg:w.grownBy w' (some l)):Ext I μ w I μ w'∧Sim c w' I μ H:=by
 have hsz:=hg.size;have hx:Ext I μ w I μ w':=⟨fun _ h=>h,fun b h=>hg.block b (hs.lt b h) (fun e=>by cases e;exact hf.i h),MuLe.refl _⟩;refine⟨hx,hs.kept.trans' hg (fun b e=>by cases e;exact .inr hf.ge),fun b hb=>by have:=hs.lt b hb;omega,hs.old,hs.new,hs.ver,fun o=>OSim.keep hx (fun hl=>hg.block _ (hs.own o hl).2.2 (fun e=>hf.o o hl (Option.some.inj e))) (hs.ob o),hs.apart,fun o k=>?_,hs.mle,hs.tag,hs.tab.mono (fun _ h=>h) hx.heap⟩;obtain⟨k1,k2,k3⟩:=hs.own o k;exact⟨k1,k2,by omega⟩
theorem Foreign.other {l:Nat} (hf:Foreign c w I μ H l) (hg:w.heap.size≤w'.heap.size):Foreign c w' I μ H l:=⟨hf.i,hf.o,by have:=hf.lt;omega,hf.ge⟩
theorem Sim.newF (hs:Sim c w I μ H) (o:Obj):Sim c (w.alloc o) I μ H∧Foreign c (w.alloc o) I μ H w.heap.size∧Ext I μ w I μ (w.alloc o):=by
 have hg:w.grownBy (w.alloc o) none:=⟨rfl,rfl,rfl,by simp,fun b hb _=>by
  show(w.heap.push o)[b]? = w.heap[b]?;rw[Array.getElem?_push];rw[if_neg (by omega)]⟩
 obtain⟨h1,h2⟩:=hs.same hg (fun _ h=>h) (fun b h=>.inl h);refine⟨h2,⟨fun h=>?_,fun o' k e=>?_,by simp,hs.kept.size⟩,h1⟩
 ·have:=hs.lt _ h;omega
 ·have:=(hs.own o' k).2.2;omega
end
structure SRF (c:Cx) (L:List (Nat × Obj)) (st:Sta) (a:Act) (w:World) (I:Nat→Prop) (μ:Mu):Prop where
 sr:SR c st a w I μ
 f:∀ p,p ∈ L→Foreign c w I μ st.H p.1∧w.heap[p.1]? = some p.2
theorem SR.into {c:Cx} {st:Sta} {a:Act} {w:World} {I:Nat→Prop} {μ:Mu} (h:SR c st a w I μ):SR (c.sub w I μ st.H c.n c.ds) st a w I μ:=⟨h.sim.into,h.size,h.defers,h.rel⟩
theorem SRF.out {c:Cx} {L:List (Nat × Obj)} {st st':Sta} {a a':Act} {w w':World} {I I':Nat→Prop} {μ μ':Mu} (h:SRF c L st a w I μ) (k:SR (c.sub w I μ st.H c.n c.ds) st' a' w' I' μ'):SRF c L st' a' w' I' μ'∧Ext I μ w I' μ' w':=by
 obtain⟨h1,h2⟩:=h.sr.sim.outof k.sim;refine⟨⟨⟨h2,k.size,k.defers,k.rel⟩,fun p hp=>?_⟩,h1⟩;obtain⟨g1,g2⟩:=Foreign.keep h.sr.sim (h.f p hp).1 k.sim;exact⟨g1,g2.trans (h.f p hp).2⟩
def UpF (c:Cx) (L:List (Nat × Obj)) (w0:World) (I0:Nat→Prop) (μ0:Mu) (Q:Exit→Sta→Prop) (e:Exit) (a:Act) (w:World):Prop:=∃ st I μ,SRF c L st a w I μ∧Ext I0 μ0 w0 I μ w∧Q e st
theorem D6 {F:Fence} (hF:Qk F) {m:Nat} {c:Cx} (hm:c.P.follows .mixedOrders=true) {L:List (Nat × Obj)} {x:CC} {a:Code} {Q:Exit→Sta→Prop} {st:Sta} (hi:Is c.n x a) (hst:BW a=true) (h:∀ c':Cx,c'.P=c.P→c'.n=c.n→c'.die=(fun _=>False)→WPC c' x Q st)
  {b:Act} {w:World} {I:Nat→Prop} {μ:Mu} (hs:SRF c L st b w I μ):a.wpIn F m c.P (UpF c L w I μ Q) b w:=by
 refine wpIn_mono (Ly hF (m:=m) (c:=c.sub w I μ st.H c.n c.ds) (fun _ h=>h) hm hi hst (h _ rfl rfl rfl) b w I μ hs.sr.into) fun e a' w' hh=>?_;obtain⟨st',I',μ',g1,g2⟩:=hh;exact⟨st',I',μ',(hs.out g1).1,(hs.out g1).2,g2⟩
theorem Vk {ops:Array Oper} {ms:List Nat} {i j:Nat}:La false ops ms i j=false:=rfl
theorem Qf {P:Program} {ops:Array Oper} {ms:List Nat} {nms:List (Nat × Nm)} {K:Lu}:∀ (l:List Oper) (i:Nat) (r:List CO) (Lf lg:Lg) (st:Sta),Jp ops false ms nms i l=some r→An P K r lg st→UW P K.D (R3 nms) (La false ops ms) ops K.k l i Lf st
 |[],i,r,Lf,lg,st,he,h=>by cases he;exact h
 |o::l,i,r,Lf,lg,st,he,h=>by
  unfold Jp at he;split at he
  ·rename_i c r' hc hr;cases he;obtain⟨e1,e2,e3,e4,e5,e7,e6⟩:=YH hc;obtain⟨x,E,f,hy,hk,h⟩:=h;refine⟨x,E,f,?_,fun p hp hn=>by rw[Vk] at hn;(cases hn),?_⟩
   ·unfold Ue at hy;rw[e2,e3] at hy;rcases e6 with ⟨hg,hc⟩ | ⟨j,fl,d,hg,hj,hc⟩
    ·rw[hc] at hy;exact⟨true,x,by unfold Jo;rw[hg],fun _=>hy,rfl,fun h=>nomatch h⟩
    ·rw[hc] at hy;obtain⟨q,x0,k1,k2,k3,k4⟩:=hy;exact⟨q,x0,by unfold Jo;rw[hg];exact⟨d,hj,k1⟩,k2,k3,k4⟩
   ·rw[e1] at h;exact Qf l (i+1) r' _ _ _ hr h
  ·cases he
theorem LB {F:Fence} (hF:Qk F) {m:Nat} {c:Cx} {L:List (Nat × Obj)} {ops:Array Oper} (hd:Fy c.n ops=true) (hnd:ops.all tG=true) {nms:List (Nat × Nm)} {k:Nat} {l:List Oper} {r:List CO} (hr:Jp ops false (OX ops) nms k l=some r) (hl:∀ j,j<l.length→l[j]? = ops[k+j]?) {K:Sta→Prop} {Q:Exit→Act→World→Prop} {st:Sta}
  (h:An c.P ⟨fun _=>False,K⟩ r [] st) {b:Act} {w:World} {I:Nat→Prop} {μ:Mu} (hs:SRF c L st b w I μ) {tail:List Nat} (hQ:∀ st' a' w' I' μ',SRF c L st' a' w' I' μ'→Ext I μ w I' μ' w'→K st'→wpOpsIn F m c.P ops Q tail a' w'):wpOpsIn F m c.P ops Q (List.range' k l.length++tail) b w:=by
 have hnd':∀ (i:Nat) (o:Oper),ops[i]? = some o→∀ k,o.op ≠ .defer k:=fun i o ho k e=>by
  obtain⟨hi,he⟩:=Array.getElem?_eq_some_iff.1 ho;have:=(Array.all_eq_true.1 hnd) i hi;rw[he] at this;unfold tG at this;rw[e] at this;cases this
 have h1:=Qf (P:=c.P) (K:=⟨fun _=>False,K⟩) l k r [] [] st hr h;exact Lj hF (m:=m) (c:=c.sub w I μ st.H c.n c.ds) (Q:=Q) hd hnd' (fun _ h=>h) (tail:=tail) (fun st' a' w' I' μ' g1 g2=>hQ st' a' w' I' μ' (hs.out g1).1 (hs.out g1).2 g2) l k [] st b w I μ hl hs.sr.into h1
theorem gJ {m:Nat} {P:Program} {ops:Array Oper} {i:Nat} {rest:List Nat} {Q:Exit→Act→World→Prop} {b:Act} {w:World} {l:Nat} {d:Option Tmp} {t u:Tmp} {tys:Array TypeId} {ty:TypeId} {pos:String} {tt:Array Edge}
  (ho:ops[i]? = some ⟨d,.call { callee:=.value (.tmp t),args:=#[.tmp u],argTypes:=tys },ty,pos,tt,none⟩) (ht:b.eval (.tmp t) = .func (.yield l) #[] #[]) {R:Ending→World→Prop} (hy:YieldAt Fence.wide 0 P l #[b.eval (.tmp u)] w R)
  (hR:∀ e w',R e w'→∃ v,e = .returned v∧wpOpsIn Fence.wide m P ops Q rest (b.put d v) w'):wpOpsIn Fence.wide m P ops Q (i::rest) b w:=by
 simp only[wpOpsIn,ho];have hw:Region.wanted ⟨d,.call { callee:=.value (.tmp t),args:=#[.tmp u],argTypes:=tys },ty,pos,tt,none⟩ (yielded ops b.tmps)=true:=rfl;rw[if_pos hw];obtain⟨fn,tmps,assign,body,h1,h2⟩:=hy;refine⟨fun _ _=>trivial,?_⟩;rw[Oper.semAt_eq _ _ _ (fun c e=>by cases e)];have hx:(execOp b.eval ⟨d,.call { callee:=.value (.tmp t),args:=#[.tmp u],argTypes:=tys },ty,pos,tt,none⟩).run P w = .ok (.round l fn tmps assign body) w:=by
  have e0:execOp b.eval ⟨d,.call { callee:=.value (.tmp t),args:=#[.tmp u],argTypes:=tys },ty,pos,tt,none⟩=(do let q ← resolve b.eval { callee:=.value (.tmp t),args:=#[.tmp u],argTypes:=tys } ty;invoke q.target q.args):=rfl;rw[e0];simp only[resolve,ht];have e2:b.eval (.tmp u)=b.tmps[u]?.getD undef:=by simp[go_sem]
  rw[e2] at h1;simp[go_sem,invoke];exact h1
 rw[hx];refine⟨fun e=>by simp[Fence.wide] at e,?_⟩;have h2':RoundIn Fence.wide (m-1) P l fn tmps assign body w R:=⟨h2.1,fun c cs _=>h2.2 c cs (room_wide _)⟩;refine h2'.mono fun e w' hr=>?_;obtain⟨v,rfl,h3⟩:=hR e w' hr;exact h3
theorem Vf {p:Nat→Prop} (h:∃ n,p n):∃ n,p n∧∀ m,p m→n≤m:=by
 obtain⟨n,hn⟩:=h;induction n using Nat.strongRecOn with
 |_ n ih=>
  by_cases hm:∃ m,m<n∧p m
  ·obtain⟨m,h1,h2⟩:=hm;exact ih m h1 h2
  ·exact⟨n,hn,fun m h=>by
    by_cases hlt:m<n
    ·exact absurd ⟨m,hlt,h⟩ hm
    ·omega⟩
open Classical in
noncomputable def NI (p:Nat→Prop):Nat:=if h:∃ n,p n then Classical.choose (Vf h) else 0
theorem OQ {p:Nat→Prop} (h:∃ n,p n):p (NI p)∧∀ m,p m→NI p≤m:=by
 unfold NI;rw[dif_pos h];exact Classical.choose_spec (Vf h)
theorem xJ {F:Fence} {m:Nat} {P:Program} {Q:Exit→Act→World→Prop} {a:Act} {w:World} {c:Code} (I:Nat→Act→World→Prop) (n₀:Nat) (h₀:I n₀ a w)
  (round:∀ n a w,I n a w→c.wpIn F m P (Exit.then (fun a' w'=>∃ n',n'<n∧I n' a' w') Q) a w):(Code.loop c).wpIn F m P Q a w:=by
 refine wpIn_loop (fun a w=>∃ n,I n a w) (fun a w=>NI (fun n=>I n a w)) ⟨n₀,h₀⟩ fun a w hI=>?_;refine wpIn_mono (round _ a w (OQ hI).1) fun e a' w' hq=>?_;cases e with
 |normal=>
  obtain⟨n',hlt,hI'⟩:=hq;exact show(∃ n,I n a' w')∧NI (fun n=>I n a' w')<NI (fun n=>I n a w) from⟨⟨n',hI'⟩,Nat.lt_of_le_of_lt ((OQ ⟨n',hI'⟩).2 n' hI') hlt⟩
 |_=>exact hq
def Hi (fn:Nat) (T:Array Value) (p:Nat) (assign body:Code) (D:Nat) (st:LoopState) (pe:Option Code):Loop:={ state:=st,pending:=pe,fn,tmps:=T,params:=#[p],assign,body,defers:=D }
structure LS (c:Cx) (T:Array Value) (s:Nat→A) (l D fn p:Nat) (assign body:Code) (st:LoopState) (pe:Option Code) (w:World) (I:Nat→Prop) (μ:Mu) (H:Hp):Prop where
 sim:Sim c w I μ H
 rel:∀ t,Rel w I μ (s t) (T.getD t undef)
 fl:Foreign c w I μ H l
 hl:w.heap[l]? = some (.loop (Hi fn T p assign body D st pe))
 fd:Foreign c w I μ H D
 hd:w.heap[D]? = some (.deferred (some []))
 ne:l ≠ D
theorem LS.put {c:Cx} {T:Array Value} {s:Nat→A} {l D fn p:Nat} {assign body:Code} {st st':LoopState} {pe pe':Option Code} {w:World} {I:Nat→Prop} {μ:Mu} {H:Hp} (h:LS c T s l D fn p assign body st pe w I μ H):LS c T s l D fn p assign body st' pe' (w.putObj l (.loop (Hi fn T p assign body D st' pe'))) I μ H∧Ext I μ w I μ (w.putObj l (.loop (Hi fn T p assign body D st' pe'))):=by
 have hg:=grownBy_putObj' w l (.loop (Hi fn T p assign body D st' pe'));obtain⟨h1,h2⟩:=h.sim.other h.fl hg;exact⟨⟨h2,fun t=>h1.rel (h.rel t),h.fl.other (by simp),World.putObj_heap_same h.fl.lt,h.fd.other (by simp),(World.putObj_heap_other h.ne.symm).trans h.hd,h.ne⟩,h1⟩
theorem LS.srf {c:Cx} (hds:c.ds=[]) {T:Array Value} (hT:T.size=c.n) {s:Nat→A} {l D fn p:Nat} {assign body:Code} {st:LoopState} {pe:Option Code} {w:World} {I:Nat→Prop} {μ:Mu} {H:Hp} (h:LS c T s l D fn p assign body st pe w I μ H) (hp:p<c.n) {x:A} {v:Value} (hx:Rel w I μ x v) :
  SRF c [(l,.loop (Hi fn T p assign body D st pe)),(D,.deferred (some []))] ⟨upd s p x,H⟩ ⟨T.setIfInBounds p v,[]⟩ w I μ:=by
 refine⟨⟨h.sim,by simp[hT],hds.symm,fun t=>?_⟩,fun q hq=>?_⟩
 ·show Rel w I μ (upd s p x t) _;unfold upd;by_cases ht:t=p
  ·subst ht;rw[if_pos rfl];have:t<T.size:=by rw[hT];exact hp
   simpa[Array.getD_eq_getD_getElem?,this] using hx
  ·rw[if_neg ht];have e:(T.setIfInBounds p v).getD t undef=T.getD t undef:=by
    simp only[Array.getD_eq_getD_getElem?];rw[Array.getElem?_setIfInBounds_ne (Ne.symm ht)]
   show Rel w I μ (s t) ((T.setIfInBounds p v).getD t undef);rw[e];exact h.rel t
 ·simp only[List.mem_cons,List.not_mem_nil,or_false] at hq;rcases hq with rfl | rfl
  ·exact⟨h.fl,h.hl⟩
  ·exact⟨h.fd,h.hd⟩
theorem Zz {c:Cx} (hm:c.P.follows .mixedOrders=true) (hds:c.ds=[]) {T:Array Value} (hT:T.size=c.n) {s:Nat→A} {l D fn p:Nat} (hp:p<c.n) {assign body:Code} {ax bx:CC} (ia:Is c.n ax assign) (ib:Is c.n bx body) (sa:BW assign=true) (sb:BW body=true)
  {w:World} {I:Nat→Prop} {μ:Mu} {H:Hp} (hs:LS c T s l D fn p assign body .ready none w I μ H) {x:A} {v:Value} (hx:Rel w I μ x v) {b:Bool} {j:Nat} {H':Hp}
  (hb:∀ c':Cx,c'.P=c.P→c'.n=c.n→c'.die=(fun _=>False)→WPC c' ax (fun e st=>e = .normal∧∀ c'':Cx,c''.P=c.P→c''.n=c.n→c''.die=(fun _=>False)→WPC c'' bx (fun e st=>st.H=H'∧((b=true∧e = .normal)∨(b=false∧e = .exit j))) st) ⟨upd s p x,H⟩) :
  YieldAt Fence.wide 0 c.P l #[v] w fun e w'=>e = .returned (.bool b)∧∃ I' μ',Ext I μ w I' μ' w'∧LS c T s l D fn p assign body (if b then .ready else .done) (if b then none else some (.exit j)) w' I' μ' H':=by
 have hy:=run_yield (P:=c.P) (args:=#[v]) hs.hl (by simp[Hi]);have hT2:((Hi fn T p assign body D .ready none).params.zip #[v]).foldl (fun (tmps:Array Value) (q:Tmp × Value)=>tmps.setIfInBounds q.1 q.2) (Hi fn T p assign body D .ready none).tmps=T.setIfInBounds p v:=by simp[Hi]
 refine⟨fn,T.setIfInBounds p v,assign,body,?_,roundIn_of_wpIn trivial ?_⟩
 ·rw[hy];rw[← hT2];rfl
 have h1:=hs.srf hds hT hp hx;refine wpIn_mono (D6 (Qx l) (m:=0) hm ia sa hb h1) fun e a1 w1 hh=>?_;obtain⟨st1,I1,μ1,g1,g2,rfl,g3⟩:=hh;have l1:LS c T s l D fn p assign body .ready none w1 I1 μ1 st1.H:=by
  obtain⟨f1,f2⟩:=g1.f (l,.loop (Hi fn T p assign body D .ready none)) (by simp);obtain⟨f3,f4⟩:=g1.f (D,.deferred (some [])) (by simp);exact⟨g1.sr.sim,fun t=>g2.rel (hs.rel t),f1,f2,f3,f4,hs.ne⟩
 obtain⟨l2,x2⟩:=l1.put (st':=.busy) (pe':=none);refine⟨_,run_beginRound l1.hl rfl,?_⟩;have s2:SRF c [(l,.loop (Hi fn T p assign body D .busy none)),(D,.deferred (some []))] st1 a1 (w1.putObj l (.loop (Hi fn T p assign body D .busy none))) I1 μ1:=by
  refine⟨⟨l2.sim,g1.sr.size,g1.sr.defers,fun t=>x2.rel (g1.sr.rel t)⟩,fun q hq=>?_⟩;simp only[List.mem_cons,List.not_mem_nil,or_false] at hq;rcases hq with rfl | rfl
  ·exact⟨l2.fl,l2.hl⟩
  ·exact⟨l2.fd,l2.hd⟩
 refine wpIn_mono (D6 (Qx l) (m:=0) hm ib sb g3 s2) fun e a3 w3 hh=>?_;obtain⟨st3,I3,μ3,k1,k2,k3,k4⟩:=hh;have l3:LS c T s l D fn p assign body .busy none w3 I3 μ3 H':=by
  obtain⟨f1,f2⟩:=k1.f (l,.loop (Hi fn T p assign body D .busy none)) (by simp);obtain⟨f3,f4⟩:=k1.f (D,.deferred (some [])) (by simp);rw[← k3];exact⟨k1.sr.sim,fun t=>k2.rel (l2.rel t),f1,f2,f3,f4,hs.ne⟩
 have xx:Ext I μ w I3 μ3 w3:=g2.trans (x2.trans k2);rcases k4 with ⟨rfl,rfl⟩ | ⟨rfl,rfl⟩
 ·obtain⟨l4,x4⟩:=l3.put (st':=.ready) (pe':=none);exact⟨_,_,run_endRound none l3.hl,rfl,I3,μ3,xx.trans x4,l4⟩
 ·obtain⟨l4,x4⟩:=l3.put (st':=.done) (pe':=some (.exit j));exact⟨_,_,run_endRound (some (.exit j)) l3.hl,rfl,I3,μ3,xx.trans x4,l4⟩
theorem gj {c:Cx} (hds:c.ds=[]) {g:Operand} {p:Tmp} {assign body:Code} {st:Sta} {gf:FuncId} {caps:List A} (hg:evs st.s g = .fnc gf [] caps) (hk:Ji c.P gf=true) {br:Bool} {j:Nat} {He:Hp} {Q:Exit→Act→World→Prop}
  (Ug:∀ (l D fn:Nat) (T lb:Array Value) (w1:World) (I1:Nat→Prop) (μ1:Mu),T.size=c.n→LS c T st.s l D fn p assign body .ready none w1 I1 μ1 st.H→lb.size=caps.length→(∀ (k:Nat) (y:A),caps[k]? = some y→Rel w1 I1 μ1 y (lb.getD k undef)) →
   CallsIn Fence.wide 0 c.P gf (#[.func (.yield l) #[] #[]]++lb) w1 fun e w2=>(∃ v,e = .returned v)∧∃ I2 μ2,LS c T st.s l D fn p assign body (if br then .done else .ready) (if br then some (.exit j) else none) w2 I2 μ2 He)
  (hQ:∀ (D:Nat) (a:Act) (w:World) (I:Nat→Prop) (μ:Mu),SR { c with ds:=[{ target:=.collected D,args:=#[] }] } ⟨st.s,He⟩ a w I μ→Foreign c w I μ He D→w.heap[D]? = some (.deferred (some []))→Q (if br then .exit j else .normal) a w)
  {a:Act} {w:World} {I:Nat→Prop} {μ:Mu} (hs:SR c st a w I μ):(Code.rangeFunc g #[p] assign body).wpIn Fence.wide 0 c.P Q a w:=by
 have hr:=hs.evs g;rw[hg] at hr;generalize hv:a.eval g=u at hr;cases hr with
 |fnc _ _ _ _ fs lb h1 h2 h3 h4=>
 have hfs:fs = #[]:=by
  have:fs.size=0:=by simpa using h1
  exact Array.eq_empty_of_size_eq_zero this
 subst hfs;refine wpIn_rangeFunc fun fn _=>?_;obtain⟨k1,k2,k3⟩:=hs.sim.newF (.deferred (some []));obtain⟨m1,m2,m3⟩:=k1.newF (.loop (Hi fn a.tmps p assign body w.heap.size .ready none));have ls:LS c a.tmps st.s (w.heap.size+1) w.heap.size fn p assign body .ready none ((w.alloc (.deferred (some []))).alloc (.loop (Hi fn a.tmps p assign body w.heap.size .ready none))) I μ st.H:=by
  refine⟨m1,fun t=>m3.rel (k3.rel (hs.rel t)),?_,?_,?_,?_,by omega⟩
  ·have:=m2;rwa [World.size_alloc] at this
  ·have:=World.alloc_heap_new (w.alloc (.deferred (some []))) (.loop (Hi fn a.tmps p assign body w.heap.size .ready none));rwa [World.size_alloc] at this
  ·exact⟨k2.i,k2.o,by simp;omega,k2.ge⟩
  ·exact(Below.heap_alloc _ _ _ (by simp)).trans (World.alloc_heap_new w _)
 refine⟨w.heap.size+1,[{ target:=.collected w.heap.size,args:=#[] }],(w.alloc (.deferred (some []))).alloc (.loop (Hi fn a.tmps p assign body w.heap.size .ready none)),{ target:=.fn (.func gf) lb,args:=#[.func (.yield (w.heap.size+1)) #[] #[]] },(w.alloc (.deferred (some []))).alloc (.loop (Hi fn a.tmps p assign body w.heap.size .ready none)),gf,
  #[.func (.yield (w.heap.size+1)) #[] #[]]++lb,(w.alloc (.deferred (some []))).alloc (.loop (Hi fn a.tmps p assign body w.heap.size .ready none)),run_enterLoop_outer _ _ _ _ _,?_,fun _ _=>trivial,?_,fun e=>by simp[Fence.wide] at e,?_⟩
 ·simp only[resolve,hv];simp[go_sem]
 ·unfold Ji at hk;cases hf:c.P.funcs[gf]? with
  |none=>simp[hf] at hk
  |some fnn=>
   simp only[hf,Bool.and_eq_true,Bool.not_eq_true'] at hk;have hb:fnn.body.isNone=false:=by cases hq:fnn.body<;>simp_all
   simp only[invoke,callFunc,Sem.run_bind,run_program,Result.andThen_ok,hf,hk.2,hb,Bool.false_eq_true,if_false,Sem.run_pure]
 ·refine(Ug (w.heap.size+1) w.heap.size fn a.tmps lb _ I μ hs.size ls (by simpa using h3) (fun k y hy=>m3.rel (k3.rel (h4 k y hy)))).mono fun e w2 hh=>?_;obtain⟨⟨v,rfl⟩,I2,μ2,l2⟩:=hh;obtain⟨l3,x3⟩:=l2.put (st':=.exhausted) (pe':=(if br then some (.exit j) else none));have sr:SR { c with ds:=[{ target:=.collected w.heap.size,args:=#[] }] } ⟨st.s,He⟩ { a with defers:=[{ target:=.collected w.heap.size,args:=#[] }]++a.defers } (w2.putObj (w.heap.size+1) (.loop (Hi fn a.tmps p assign body w.heap.size .exhausted (if br then some (.exit j) else none)))) I2 μ2:=by
   refine⟨⟨l3.sim.kept,l3.sim.lt,l3.sim.old,l3.sim.new,l3.sim.ver,l3.sim.ob,l3.sim.apart,l3.sim.own,l3.sim.mle,l3.sim.tag,l3.sim.tab⟩,hs.size,?_,l3.rel⟩;show [_]++a.defers=[_];rw[hs.defers,hds];rfl
  have he:=run_endLoop (P:=c.P) l2.hl (by cases br<;>simp[Hi]);have hq:=hQ w.heap.size _ _ I2 μ2 sr l3.fd l3.hd;refine⟨_,_,he,?_⟩;cases br with
  |true=>exact wpIn_exit hq
  |false=>exact hq
abbrev S (l:List UInt8):A:=.v (.string ⟨l.toArray⟩)
abbrev IL (b:UInt8):A:=.v (.int .u8 b.toNat)
@[simp] theorem xX (l:List UInt8):(ByteArray.mk l.toArray).size=l.length:=by simp[ByteArray.size]
@[simp] theorem Abp (l:List UInt8) (i:Nat):(ByteArray.mk l.toArray)[i]? = l[i]?:=by
 by_cases h:i<l.length
 ·have h':i<(ByteArray.mk l.toArray).size:=by simpa using h
  rw[getElem?_pos (ByteArray.mk l.toArray) i h',List.getElem?_eq_getElem h];rfl
 ·have h':¬ i<(ByteArray.mk l.toArray).size:=by simpa using h
  rw[getElem?_neg (ByteArray.mk l.toArray) i h',List.getElem?_eq_none (by omega)]
@[simp] theorem vU (l:List UInt8) (i:Nat) (h:i<(ByteArray.mk l.toArray).size):(ByteArray.mk l.toArray)[i]'h=l[i]'(by simpa using h):=rfl
@[simp] theorem mI (l:List UInt8) (a b:Nat):(ByteArray.mk l.toArray).extract a b=ByteArray.mk ((l.drop a).take (b-a)).toArray:=by
 have h:((ByteArray.mk l.toArray).extract a b).data=((l.drop a).take (b-a)).toArray:=by
  rw[ByteArray.data_extract];simp
 cases hq:(ByteArray.mk l.toArray).extract a b with
 |mk d=>rw[hq] at h;simpa using h
@[simp] theorem pc (l m:List UInt8):ByteArray.mk l.toArray++ByteArray.mk m.toArray=ByteArray.mk (l++m).toArray:=Go.ByteArray.mk_append_mk l m
@[simp] theorem ot (l:List UInt8):(ByteArray.mk l.toArray).toList=l:=Go.ByteArray.toList_eq _
theorem lf {l m:List UInt8}:(ByteArray.mk l.toArray=ByteArray.mk m.toArray)=(l=m):=by simp
@[simp] theorem o8 (l:List UInt8):Lz (l.map IL)=some l:=by
 induction l with
 |nil=>rfl
 |cons b l ih=>
  have h:VC (IL b)=some b:=by
   have:=b.toNat_lt;simp[VC];omega
  simp[Lz,h,ih]
@[simp] theorem wP {P:Program} {t u:TypeId} {f:Bool} {xs:List A}:Gk P t u (.sl f xs)=match P.underlying t,P.underlying u with
  |some (.slice e),some .string=>(match P.underlying e,Lz xs with | some (.int .u8),some l=>some (S l) | _,_=>none)
  |_,_=>none:=by
 unfold Gk;cases P.underlying t with
 |none=>rfl
 |some d=>
  cases P.underlying u with
  |none=>cases d<;>rfl
  |some d'=>cases d<;>cases d'<;>rfl
end Go.G
namespace Go.PL
inductive T where
 |mk (kind:Int) (words:List Int) (kids:List T)
 deriving Inhabited
namespace T
def kind:T→Int | mk k _ _=>k
def words:T→List Int | mk _ w _=>w
def kids:T→List T | mk _ _ l=>l
@[simp] theorem kind_mk {k:Int} {w:List Int} {l:List T}:(mk k w l).kind=k:=rfl
@[simp] theorem words_mk {k:Int} {w:List Int} {l:List T}:(mk k w l).words=w:=rfl
@[simp] theorem kids_mk {k:Int} {w:List Int} {l:List T}:(mk k w l).kids=l:=rfl
end T
theorem Y1 {α:Type} {P:List α→Prop} (h0:P []) (h1:∀ l x,P l→P (l++[x])) (l:List α):P l:=by
 have:∀ m:List α,P m.reverse:=by
  intro m;induction m with
  |nil=>exact h0
  |cons x m ih=>rw[List.reverse_cons];exact h1 _ _ ih
 have h:=this l.reverse
 rwa [List.reverse_reverse] at h
abbrev T0:T:=.mk 0 [] []
mutual
theorem T.ind {P:T→Prop} (h:∀ k w l,(∀ t,t ∈ l→P t)→P (.mk k w l)):∀ t,P t
 |.mk k w l=>h k w l (T.indL h l)
theorem T.indL {P:T→Prop} (h:∀ k w l,(∀ t,t ∈ l→P t)→P (.mk k w l)):∀ (l:List T),∀ t,t ∈ l→P t
 |[],t,ht=>nomatch ht
 |x::l,t,ht=>by
  rcases List.mem_cons.1 ht with e | ht
  ·rw[e];exact T.ind h x
  ·exact T.indL h l t ht
end
def Gq (l:List Int):List Int:=(l.reverse.dropWhile (fun x=>x == 0)).reverse
def DC (l:List T):List T:=(l.reverse.dropWhile (fun x=>x.kind == 0)).reverse
mutual
def Aq:T→T
 |.mk k w l=>if k=0 then T0 else if k=1 then .mk 1 (Gq w) (DC (S6 l)) else .mk k w (S6 l)
def S6:List T→List T
 |[]=>[]
 |t::l=>Aq t::S6 l
end
@[simp] theorem aY:∀ l,S6 l=l.map Aq
 |[]=>by simp[S6]
 |t::l=>by simp[S6,aY l]
theorem Jf (k:Int) (w:List Int) (l:List T):Aq (.mk k w l)=if k=0 then T0 else if k=1 then .mk 1 (Gq w) (DC (l.map Aq)) else .mk k w (l.map Aq):=by simp[Aq]
@[simp] theorem GQ (t:T):(Aq t).kind=t.kind:=by
 cases t;rw[Jf];split
 ·rename_i h;rw[h];rfl
 ·split
  ·rename_i h;rw[h];rfl
  ·rfl
@[simp] theorem tf:Gq []=[]:=rfl
@[simp] theorem sZ:DC []=[]:=rfl
theorem QA (l:List Int) (x:Int):Gq (l++[x])=if x=0 then Gq l else l++[x]:=by
 unfold Gq;simp[List.dropWhile_cons];split<;>simp
theorem G9 (l:List T) (x:T):DC (l++[x])=if x.kind=0 then DC l else l++[x]:=by
 unfold DC;by_cases h:x.kind=0<;>simp[List.dropWhile_cons,h]
theorem Wq (l:List T):(DC l).length≤l.length:=by
 unfold DC;simp;have:=(List.dropWhile_sublist (fun x:T=>x.kind == 0) (l:=l.reverse)).length_le;simpa using this
theorem Xd (l:List T):DC l=l.take (DC l).length:=by
 induction l using Y1 with
 |h0=>rfl
 |h1 l x ih=>
  rw[G9];split
  ·rw[List.take_append_of_le_length (Wq l)];exact ih
  ·rw[DE (CE _)]
def DL (c:Int):Int:=if c=0 then 0 else if c=1 then 1 else if c=2 then 8 else if c=3 then 16 else if c=4 then 32 else if c=5 then 64 else -1
def YC (c n:Int):Bool:=decide (0≤DL c)&&decide (n / 2 ^ (DL c).toNat=0)
def DM (k:Int):Bool:=decide (2≤k)&&decide (k≤7)
def JJ (k:Int) (c:T):Bool:=!(DM k != decide (c.kind=10) || decide (k=9)&&!decide (c.kind=1) || DM k&&!YC (k-2) (c.words.headD 0))
def FD (k:Int) (d nw nl:Nat):Bool:=decide (k<0) || decide (k > 10) || decide (d=0) || decide (nw ≥ 65536) || decide (k=1)&&decide (nl ≥ 65536) || decide (nl ≥ 1048576) || decide (k > 1)&&decide (nw > 0)
mutual
def Ay:Nat→T→Bool
 |d,.mk k w l=>if k=0 then w.isEmpty&&l.isEmpty else if k=10 then decide (w.length=1)&&l.isEmpty
  else if FD k d w.length l.length=true then false else Gf (d-1) k l
def Gf:Nat→Int→List T→Bool
 |_,_,[]=>true
 |d,k,t::l=>Ay d t&&JJ k t&&Gf d k l
end
theorem EJ (d:Nat) (k:Int) (w:List Int) (l:List T):Ay d (.mk k w l)=if k=0 then w.isEmpty&&l.isEmpty else if k=10 then decide (w.length=1)&&l.isEmpty
  else if FD k d w.length l.length=true then false else Gf (d-1) k l:=by rw[Ay]
@[simp] theorem oT (d:Nat) (k:Int):Gf d k []=true:=by rw[Gf]
@[simp] theorem UJ (d:Nat) (k:Int) (t:T) (l:List T):Gf d k (t::l)=(Ay d t&&JJ k t&&Gf d k l):=by rw[Gf]
theorem rightL_all {d:Nat} {k:Int}:∀ {l:List T},Gf d k l=true ↔ ∀ t,t ∈ l→Ay d t=true∧JJ k t=true
 |[]=>by simp
 |t::l=>by simp[rightL_all (l:=l),and_assoc]
theorem Rq {d:Nat} {k:Int} {w:List Int} {l:List T} (h:Ay d (.mk k w l)=true):∀ t,t ∈ l→Ay (d-1) t=true∧JJ k t=true:=by
 rw[EJ] at h;split at h
 ·simp at h;intro t ht;rw[h.2] at ht;cases ht
 ·split at h
  ·simp at h;intro t ht;rw[h.2] at ht;cases ht
  ·split at h
   ·cases h
   ·exact rightL_all.1 h
end Go.PL
namespace Go.PL
def Mo (n:Nat):UInt8:=if n<10 then UInt8.ofNat (48+n) else UInt8.ofNat (87+n)
def BN (c:UInt8):Option Nat:=if 48≤c.toNat∧c.toNat≤57 then some (c.toNat-48) else if 97≤c.toNat∧c.toNat≤102 then some (c.toNat-87) else none
def Az (n:Nat):List UInt8:=if n<16 then [Mo n] else Az (n / 16)++[Mo (n % 16)]
 termination_by n
theorem FH {n:Nat} (h:n<16):Az n=[Mo n]:=by rw[Az,if_pos h]
theorem Hw {n:Nat} (h:16≤n):Az n=Az (n / 16)++[Mo (n % 16)]:=by rw[Az,if_neg (by omega)]
theorem Tc {m d:Nat} (hm:1≤m) (hd:d<16):Az (m*16+d)=Az m++[Mo d]:=by
 rw[Hw (by omega)];have e1:(m*16+d) / 16=m:=by omega
 have e2:(m*16+d) % 16=d:=by omega
 rw[e1,e2]
theorem PJ {n:Nat} (h:n<16):(Mo n).toNat=if n<10 then 48+n else 87+n:=by
 unfold Mo;split
 ·rw[UInt8.toNat_ofNat'];exact Nat.mod_eq_of_lt (by omega)
 ·rw[UInt8.toNat_ofNat'];exact Nat.mod_eq_of_lt (by omega)
theorem NT {n:Nat} (h:n<16):BN (Mo n)=some n:=by
 have e:=PJ h;unfold BN;rw[e];by_cases h1:n<10
 ·rw[if_pos h1,if_pos (by omega)];congr 1;omega
 ·rw[if_neg h1,if_neg (by omega),if_pos (by omega)];congr 1;omega
theorem Ki {c:UInt8} {d:Nat} (h:BN c=some d):d<16∧Mo d=c:=by
 unfold BN at h;have hd:d<16:=by
  split at h
  ·cases h;omega
  ·split at h
   ·cases h;omega
   ·cases h
 refine⟨hd,?_⟩;apply UInt8.toNat_inj.1;rw[PJ hd];split at h
 ·cases h;split<;>omega
 ·split at h
  ·cases h;split<;>omega
  ·cases h
theorem Ea (n:Nat):0<(Az n).length:=by
 by_cases h:n<16
 ·rw[FH h];simp
 ·rw[Hw (by omega)];simp
theorem Kb:∀ (n:Nat),∀ c,c ∈ Az n→∃ d,BN c=some d:=by
 intro n;induction n using Nat.strongRecOn with
 |_ n ih=>
  intro c hc;by_cases h:n<16
  ·rw[FH h] at hc;simp at hc;rw[hc];exact⟨n,NT h⟩
  ·rw[Hw (by omega)] at hc;rcases List.mem_append.1 hc with hc | hc
   ·exact ih (n / 16) (by omega) c hc
   ·simp at hc;rw[hc];exact⟨_,NT (Nat.mod_lt _ (by omega))⟩
theorem bj:∀ (n:Nat),1≤n→(Az n).headD 0 ≠ 48:=by
 intro n;induction n using Nat.strongRecOn with
 |_ n ih=>
  intro h1;by_cases h:n<16
  ·rw[FH h];simp only[List.headD_cons];intro e;have:=PJ h;rw[e] at this;have e48:(48:UInt8).toNat=48:=rfl;rw[e48] at this;split at this<;>omega
  ·rw[Hw (by omega)];have h2:=ih (n / 16) (by omega) (by omega);have h3:=Ea (n / 16);cases hq:Az (n / 16) with
   |nil=>rw[hq] at h3;simp at h3
   |cons c l=>rw[hq] at h2;simpa using h2
theorem fN:∀ (j n:Nat),1≤j→n<16 ^ j→(Az n).length≤j:=by
 intro j;induction j with
 |zero=>intro n h;omega
 |succ j ih=>
  intro n _ hn;by_cases h:n<16
  ·rw[FH h];simp
  ·have hj:1≤j:=by
    rcases Nat.eq_zero_or_pos j with e | e
    ·subst e;simp at hn;omega
    ·exact e
   rw[Hw (by omega)];have:=ih (n / 16) hj (by rw[Nat.pow_succ] at hn;omega);simp;exact this
structure P3 (num:List UInt8→Nat × Bool × Nat):Prop where
 fwd:∀ r n k,num r=(n,true,k)→r.take k=Az n∧n<18446744073709551616∧k≤r.length
 of:∀ n rest,n<18446744073709551616→(∀ c,rest.head? = some c→BN c=none)→num (Az n++rest)=(n,true,(Az n).length)
def AN:Nat→List UInt8→Nat × Nat
 |n,[]=>(n,0)
 |n,x::r=>match BN x with
  |some d=>if n<1152921504606846976 then ((AN (n*16+d) r).1,(AN (n*16+d) r).2+1) else (n,0)
  |none=>(n,0)
def AB (r:List UInt8):Nat × Bool × Nat:=((AN 0 r).1,decide (0<(AN 0 r).2)&&(decide ((AN 0 r).2=1) || decide (r.headD 0 ≠ 48)),(AN 0 r).2)
theorem Ml:∀ (r:List UInt8) (n:Nat),n<18446744073709551616→(AN n r).1<18446744073709551616∧(AN n r).2≤r.length
 |[],n,h=>by simp[AN];exact h
 |x::r,n,h=>by
  unfold AN;split
  ·rename_i d hd;have:=(Ki hd).1;split
   ·have:=Ml r (n*16+d) (by omega);simp;omega
   ·simp;exact h
  ·simp;exact h
theorem Kz:∀ (r:List UInt8) (m:Nat),1≤m→Az m++r.take (AN m r).2=Az (AN m r).1
 |[],m,h=>by simp[AN]
 |x::r,m,h=>by
  unfold AN;split
  ·rename_i d hd;have hx:=Ki hd;split
   ·have:=Kz r (m*16+d) (by omega);rw[Tc h hx.1,hx.2] at this;simpa using this
   ·simp
  ·simp
theorem XC:∀ (q:Nat) (tail:List UInt8),q<18446744073709551616→AN 0 (Az q++tail)=((AN q tail).1,(AN q tail).2+(Az q).length):=by
 intro q;induction q using Nat.strongRecOn with
 |_ q ih=>
  intro tail hq;by_cases h:q<16
  ·rw[FH h];simp only[List.singleton_append,AN,NT h];simp
  ·rw[Hw (by omega),List.append_assoc,List.singleton_append,ih (q / 16) (by omega) _ (by omega)];have h16:q % 16<16:=Nat.mod_lt _ (by omega);have e:AN (q / 16) (Mo (q % 16)::tail)=((AN q tail).1,(AN q tail).2+1):=by
    rw[AN,NT h16];simp only;rw[if_pos (by omega)];have:q / 16*16+q % 16=q:=by omega
    rw[this]
   rw[e];simp;omega
theorem Yi {n:Nat} {rest:List UInt8} (h:∀ c,rest.head? = some c→BN c=none):AN n rest=(n,0):=by
 cases rest with
 |nil=>rfl
 |cons c r=>rw[AN,h c rfl]
theorem JS:P3 AB where
 fwd:=by
  intro r n k h;unfold AB at h;simp only[Prod.mk.injEq] at h;obtain⟨h1,h2,h3⟩:=h;have hle:=Ml r 0 (by omega);subst h1 h3;refine⟨?_,hle⟩;cases r with
  |nil=>simp[AN] at h2
  |cons x r=>
   rw[AN] at h2 ⊢;cases hv:BN x with
   |none=>simp[hv] at h2
   |some d=>
    have hx:=Ki hv;simp only[hv] at h2 ⊢;simp only[Nat.zero_mul,Nat.zero_add,List.headD_cons,if_pos (show(0:Nat)<1152921504606846976 by omega)] at h2 ⊢;by_cases hd:d=0
    ·subst hd;have h48:x=48:=by rw[← hx.2];rfl
     simp[h48] at h2;have hz:(AN 0 r).2=0:=h2;have hn:(AN 0 r).1=0:=by
      cases r with
      |nil=>rfl
      |cons y r=>
       rw[AN] at hz ⊢;cases hy:BN y with
       |none=>rfl
       |some e=>simp[hy] at hz
     rw[hz,hn,h48,FH (by omega)];rfl
    ·have:=Kz r d (by omega);rw[← this,FH hx.1,hx.2];simp
 of:=by
  intro n rest hn hr;unfold AB;rw[XC n rest hn,Yi hr];have hp:=Ea n;simp only[Nat.zero_add,Prod.mk.injEq,true_and,and_true];by_cases h:n<16
  ·rw[FH h];simp
  ·have h1:=bj n (by omega);cases hq:Az n with
   |nil=>rw[hq] at hp;simp at hp
   |cons c l=>rw[hq] at h1;simp at h1;simp[h1]
def Aj:List (List UInt8)→List UInt8
 |[]=>[]
 |[x]=>x
 |x::y::l=>x++44::Aj (y::l)
@[simp] theorem NA:Aj []=[]:=rfl
@[simp] theorem SF {x:List UInt8}:Aj [x]=x:=rfl
theorem Ez {x:List UInt8} {l:List (List UInt8)} (h:l ≠ []):Aj (x::l)=x++44::Aj l:=by
 cases l with
 |nil=>exact(h rfl).elim
 |cons y l=>rfl
theorem LC:∀ (l:List (List UInt8)) (x:List UInt8),Aj (l++[x])=if l=[] then x else Aj l++44::x
 |[],x=>rfl
 |[y],x=>rfl
 |y::z::l,x=>by
  have:=LC (z::l) x;simp only[List.cons_append] at this ⊢;rw[Aj,this];simp[Aj]
def letters:List UInt8:=[46,46,118,98,121,116,102,101,112,99]
def Cn (k:Int):UInt8:=letters.getD k.toNat 0
mutual
def Am:T→List UInt8
 |.mk k w l=>if k=10∧w.length=1 then Az (w.headD 0).toNat
  else if k=1 then 123::(Aj (w.map fun x=>Az x.toNat)++((if l=[] then [] else 124::Aj (NN l))++[125]))
  else if 2≤k∧k≤9 then Cn k::91::(Aj (NN l)++[93]) else [95]
def NN:List T→List (List UInt8)
 |[]=>[]
 |t::l=>Am t::NN l
end
theorem QS:∀ l,NN l=l.map Am
 |[]=>by rw[NN];rfl
 |t::l=>by rw[NN,QS l];rfl
theorem AY (k:Int) (w:List Int) (l:List T):Am (.mk k w l)=if k=10∧w.length=1 then Az (w.headD 0).toNat
  else if k=1 then 123::(Aj (w.map fun x=>Az x.toNat)++((if l=[] then [] else 124::Aj (l.map Am))++[125]))
  else if 2≤k∧k≤9 then Cn k::91::(Aj (l.map Am)++[93]) else [95]:=by rw[Am,QS]
def Bt:List UInt8→UInt8→Bool
 |[],_=>false
 |x::_,c=>x == c
@[simp] theorem FA {x c:UInt8} {r:List UInt8}:Bt (x::r) c=(x == c):=rfl
@[simp] theorem wo {c:UInt8}:Bt [] c=false:=rfl
def A6:List UInt8→UInt8→Int
 |[],_=>-1
 |b::l,c=>if b == c then 0 else if A6 l c == -1 then -1 else A6 l c+1
def Hl (c:UInt8):Int:=A6 letters c
section
variable (num:List UInt8→Nat × Bool × Nat)
def Co:Nat→List UInt8→List Int × Bool × Nat
 |0,r=>([],false,0)
 |f+1,r=>if (num r).2.1=true then
   if Bt (r.drop (num r).2.2) 44=true then
    let q:=Co f (r.drop ((num r).2.2+1))
    (if q.2.1=true then ((num r).1:Int)::q.1 else [],q.2.1,(num r).2.2+1+q.2.2)
   else ([((num r).1:Int)],true,(num r).2.2)
  else ([],false,(num r).2.2)
def KJ (r:List UInt8):T × Bool × Nat:=(.mk 10 [((num r).1:Int)] [],(num r).2.1,(num r).2.2)
end
def Ch (p:List UInt8→T × Bool × Nat) (e:UInt8):Nat→List UInt8→List T × Bool × Nat
 |0,r=>([],false,0)
 |f+1,r=>if (p r).2.1=true then
   if Bt (r.drop (p r).2.2) e=true then ([(p r).1],true,(p r).2.2+1)
   else if Bt (r.drop (p r).2.2) 44=true then
    let g:=Ch p e f (r.drop ((p r).2.2+1))
    (if g.2.1=true then (p r).1::g.1 else [],g.2.1,(p r).2.2+1+g.2.2)
   else ([],false,(p r).2.2)
  else ([],false,(p r).2.2)
def Bc (p:List UInt8→T × Bool × Nat) (e:UInt8) (r:List UInt8):List T × Bool × Nat:=
 if Bt r e=true then ([],true,1) else Ch p e (r.length+1) r
def SP (num:List UInt8→Nat × Bool × Nat) (r:List UInt8):List Int × Bool × Nat:=if r.headD 0 ≠ 124 then Co num (r.length+1) r else ([],true,0)
def Mq (kp:List UInt8→List T × Bool × Nat) (ws:List Int) (r:List UInt8):T × Bool × Nat:=
 if Bt r 125=true then (.mk 1 ws [],true,1)
 else if Bt r 124=true then
  if (r.drop 1).headD 0=125 then (.mk 1 ws [],false,1)
  else (.mk 1 ws (kp (r.drop 1)).1,(kp (r.drop 1)).2.1,1+(kp (r.drop 1)).2.2)
 else (.mk 1 ws [],false,0)
def CL (num:List UInt8→Nat × Bool × Nat) (kp:List UInt8→List T × Bool × Nat) (r:List UInt8):T × Bool × Nat:=
 if Bt r 125=true then (.mk 1 [] [],true,1)
 else if (SP num r).2.1=true then
  let q:=Mq kp (SP num r).1 (r.drop (SP num r).2.2)
  (q.1,q.2.1,(SP num r).2.2+q.2.2)
 else (.mk 1 [] [],false,(SP num r).2.2)
def E5 (k:Int):Bool:=decide (2≤k)&&decide (k≤7)
def AU (num:List UInt8→Nat × Bool × Nat):Nat→List UInt8→T × Bool × Nat
 |d,r=>if Bt r 95=true then (T0,true,1) else match d with
  |0=>(T0,false,0)
  |d+1=>
   if Bt r 123=true then
    let q:=CL num (Bc (AU num d) 125) (r.drop 1)
    (q.1,q.2.1,1+q.2.2)
   else if Hl (r.headD 0)<2 then (T0,false,0)
   else if Bt (r.drop 1) 91=true then
    let g:=Bc (if E5 (Hl (r.headD 0))=true then KJ num else AU num d) 93 (r.drop 2)
    (.mk (Hl (r.headD 0)) [] g.1,g.2.1,2+g.2.2)
   else (T0,false,1)
theorem Lq (num:List UInt8→Nat × Bool × Nat) (r:List UInt8):AU num 0 r=if Bt r 95=true then (T0,true,1) else (T0,false,0):=by rw[AU]
theorem Fz (num:List UInt8→Nat × Bool × Nat) (d:Nat) (r:List UInt8):AU num (d+1) r=if Bt r 95=true then (T0,true,1) else
   if Bt r 123=true then ((CL num (Bc (AU num d) 125) (r.drop 1)).1,(CL num (Bc (AU num d) 125) (r.drop 1)).2.1,1+(CL num (Bc (AU num d) 125) (r.drop 1)).2.2)
   else if Hl (r.headD 0)<2 then (T0,false,0)
   else if Bt (r.drop 1) 91=true then
    (.mk (Hl (r.headD 0)) [] (Bc (if E5 (Hl (r.headD 0))=true then KJ num else AU num d) 93 (r.drop 2)).1,(Bc (if E5 (Hl (r.headD 0))=true then KJ num else AU num d) 93 (r.drop 2)).2.1,2+(Bc (if E5 (Hl (r.headD 0))=true then KJ num else AU num d) 93 (r.drop 2)).2.2)
   else (T0,false,1):=by rw[AU]
def HG (t:T):Prop:=t.kind=10∧t.kids=[]∧∃ n:Nat,t.words=[(n:Int)]∧n<18446744073709551616
def Cw:Nat→T→Prop
 |0,t=>t=T0
 |d+1,t=>t=T0∨(t.kind=1∧(∀ x,x ∈ t.words→0≤x∧x<18446744073709551616)∧∀ c,c ∈ t.kids→Cw d c) ∨
  (2≤t.kind∧t.kind≤9∧t.words=[]∧∀ c,c ∈ t.kids→if E5 t.kind=true then HG c else Cw d c)
theorem T.mkOf {t:T} {k:Int} {w:List Int} {l:List T} (h1:t.kind=k) (h2:t.words=w) (h3:t.kids=l):t = .mk k w l:=by cases t;simp at h1 h2 h3;rw[h1,h2,h3]
theorem NF {t:T} (h:HG t):∃ n:Nat,t = .mk 10 [(n:Int)] []∧n<18446744073709551616∧Am t=Az n:=by
 obtain⟨h1,h2,n,h3,h4⟩:=h;have e:=T.mkOf h1 h3 h2;refine⟨n,e,h4,?_⟩;rw[e,AY];simp
theorem q8:∀ k:Nat,k<10→2≤k→Hl (Cn (k:Int))=k∧Cn (k:Int) ≠ 95∧Cn (k:Int) ≠ 123∧Cn (k:Int) ≠ 125∧Cn (k:Int) ≠ 93:=by decide
theorem SI {k:Int} (h1:2≤k) (h2:k≤9):Hl (Cn k)=k∧Cn k ≠ 95∧Cn k ≠ 123∧Cn k ≠ 125∧Cn k ≠ 93:=by
 have:=q8 k.toNat (by omega) (by omega)
 rwa [Int.toNat_of_nonneg (by omega)] at this
theorem H7:∀ (l:List UInt8) (c:UInt8),A6 l c = -1∨(0≤A6 l c∧A6 l c<l.length∧l[(A6 l c).toNat]? = some c)
 |[],c=>.inl rfl
 |b::l,c=>by
  unfold A6;by_cases h:(b == c)=true
  ·rw[if_pos h];right;simp at h;simp[h]
  ·rw[if_neg h];rcases H7 l c with e | ⟨e1,e2,e3⟩
   ·simp[e]
   ·right;have hne:¬ (A6 l c == -1)=true:=by simp;omega
    rw[if_neg hne];refine⟨by omega,by simp;omega,?_⟩;have:(A6 l c+1).toNat=(A6 l c).toNat+1:=by omega
    rw[this];simpa using e3
theorem iC {c:UInt8} (h:¬ Hl c<2):2≤Hl c∧Hl c≤9∧Cn (Hl c)=c:=by
 rcases H7 letters c with e | ⟨e1,e2,e3⟩
 ·unfold Hl at h;omega
 ·have e2:Hl c<10:=e2;refine⟨by omega,by omega,?_⟩;unfold Cn;rw[List.getD_eq_getElem?_getD];show(letters[(A6 letters c).toNat]?).getD 0=c;rw[e3];rfl
theorem ES {α:Type} {q:α × Bool × Nat} (h:q.2.1=true):q=(q.1,true,q.2.2):=by
 obtain⟨a,b,c⟩:=q;simp at h;rw[h]
theorem CY {α:Type} (r:List α) (a b:Nat):r.take (a+b)=r.take a++(r.drop a).take b:=List.take_add ..
theorem BA {r:List UInt8} {c:UInt8} {k:Nat} (h:Bt (r.drop k) c=true):k<r.length∧(r.drop k).take 1=[c]:=by
 cases hq:r.drop k with
 |nil=>rw[hq] at h;cases h
 |cons x q=>
  rw[hq] at h;simp at h;have:k<r.length:=by
   apply Nat.lt_of_not_le;intro hk;rw[List.drop_of_length_le hk] at hq;cases hq
  exact⟨this,by simp[h]⟩
section
variable {num:List UInt8→Nat × Bool × Nat}
def gq (p:List UInt8→T × Bool × Nat) (Q:T→Prop):Prop:=∀ r t k,p r=(t,true,k)→r.take k=Am t∧k≤r.length∧Q t
theorem Q6 (h:P3 num):∀ (f:Nat) (r:List UInt8) (ws:List Int) (k:Nat),Co num f r=(ws,true,k)→r.take k=Aj (ws.map fun x=>Az x.toNat)∧k≤r.length∧ws ≠ []∧∀ x,x ∈ ws→0≤x∧x<18446744073709551616
 |0,r,ws,k,e=>by simp[Co] at e
 |f+1,r,ws,k,e=>by
  unfold Co at e;split at e
  ·rename_i ho;have hn:=ES ho;obtain⟨g1,g2,g3⟩:=h.fwd _ _ _ hn;split at e
   ·rename_i hc;simp only[Prod.mk.injEq] at e;obtain⟨e1,e2,e3⟩:=e;rw[if_pos e2] at e1;obtain⟨i1,i2,i3,i4⟩:=Q6 h f _ _ _ (ES e2);obtain⟨c1,c2⟩:=BA hc;subst e1 e3;refine⟨?_,?_,by simp,fun x hx=>?_⟩
    ·rw[CY,CY,g1,c2,i1,List.map_cons,Ez (by simpa using i3)];simp
    ·simp at i2;omega
    ·rcases List.mem_cons.1 hx with rfl | hx
     ·omega
     ·exact i4 x hx
   ·simp only[Prod.mk.injEq] at e;obtain⟨e1,_,e3⟩:=e;subst e1 e3;refine⟨by simpa using g1,g3,by simp,fun x hx=>?_⟩;simp at hx;omega
  ·simp at e
theorem Y0 (h:P3 num):gq (KJ num) HG:=fun r t k e=>by
 unfold KJ at e;simp only[Prod.mk.injEq] at e;obtain⟨e1,e2,e3⟩:=e;have hn:=ES e2;obtain⟨g1,g2,g3⟩:=h.fwd _ _ _ hn;subst e1 e3;refine⟨?_,g3,rfl,rfl,_,rfl,g2⟩;rw[g1,AY];simp
theorem Nj {p:List UInt8→T × Bool × Nat} {Q:T→Prop} (h:gq p Q) (e:UInt8):∀ (f:Nat) (r:List UInt8) (l:List T) (k:Nat),Ch p e f r=(l,true,k) →
  r.take k=Aj (l.map Am)++[e]∧k≤r.length∧l ≠ []∧∀ c,c ∈ l→Q c
 |0,r,l,k,q=>by simp[Ch] at q
 |f+1,r,l,k,q=>by
  unfold Ch at q;split at q
  ·rename_i ho;have hn:=ES ho;obtain⟨g1,g2,g3⟩:=h _ _ _ hn;split at q
   ·rename_i hc;simp only[Prod.mk.injEq] at q;obtain⟨e1,_,e3⟩:=q;obtain⟨c1,c2⟩:=BA hc;subst e1 e3;refine⟨by rw[CY,g1,c2];simp,by omega,by simp,fun c hc=>?_⟩;simp at hc;rw[hc];exact g3
   ·split at q
    ·rename_i hc;simp only[Prod.mk.injEq] at q;obtain⟨e1,e2,e3⟩:=q;rw[if_pos e2] at e1;obtain⟨i1,i2,i3,i4⟩:=Nj h e f _ _ _ (ES e2);obtain⟨c1,c2⟩:=BA hc;subst e1 e3;refine⟨?_,?_,by simp,fun x hx=>?_⟩
     ·rw[CY,CY,g1,c2,i1,List.map_cons,Ez (by simpa using i3)];simp
     ·simp at i2;omega
     ·rcases List.mem_cons.1 hx with rfl | hx
      ·exact g3
      ·exact i4 x hx
    ·simp at q
  ·simp at q
theorem Te {p:List UInt8→T × Bool × Nat} {Q:T→Prop} (h:gq p Q) (e:UInt8) (r:List UInt8) (l:List T) (k:Nat) (q:Bc p e r=(l,true,k)) :
  r.take k=Aj (l.map Am)++[e]∧k≤r.length∧(l=[]→Bt r e=true)∧∀ c,c ∈ l→Q c:=by
 unfold Bc at q;split at q
 ·rename_i hc;simp only[Prod.mk.injEq] at q;obtain⟨e1,_,e3⟩:=q;subst e1 e3;obtain⟨c1,c2⟩:=BA (k:=0) (by simpa using hc);exact⟨by simpa using c2,by omega,fun _=>hc,fun c hc=>by simp at hc⟩
 ·obtain⟨h1,h2,h3,h4⟩:=Nj h e _ _ _ _ q;exact⟨h1,h2,fun e=>(h3 e).elim,h4⟩
theorem fF {r:List UInt8} {c:UInt8} (h:Bt r c=true):r.headD 0=c:=by
 cases r with
 |nil=>cases h
 |cons x r=>simpa using h
theorem LY (h:P3 num):∀ d,gq (AU num d) (Cw d)
 |0=>fun r t k q=>by
  rw[Lq] at q;split at q
  ·rename_i hc;simp only[Prod.mk.injEq] at q;obtain⟨e1,_,e3⟩:=q;subst e1 e3;obtain⟨c1,c2⟩:=BA (k:=0) (by simpa using hc);refine⟨?_,by omega,rfl⟩;rw[AY];simpa using c2
  ·simp at q
 |d+1=>fun r t k q=>by
  have ih:=LY h d;rw[Fz] at q;split at q
  ·rename_i hc;simp only[Prod.mk.injEq] at q;obtain⟨e1,_,e3⟩:=q;subst e1 e3;obtain⟨c1,c2⟩:=BA (k:=0) (by simpa using hc);refine⟨?_,by omega,.inl rfl⟩;rw[AY];simpa using c2
  ·split at q
   ·rename_i hc;obtain⟨c1,c2⟩:=BA (k:=0) (by simpa using hc);simp only[List.drop_zero] at c2;simp only[Prod.mk.injEq] at q;obtain⟨e1,e2,e3⟩:=q
    suffices ∀ (t:T) (k:Nat),CL num (Bc (AU num d) 125) (r.drop 1)=(t,true,k)→(r.drop 1).take k++[]=(Am t).drop 1∧k+1≤r.length∧Am t=123::(Am t).drop 1∧Cw (d+1) t by
     obtain⟨g1,g2,g3,g4⟩:=this _ _ (ES e2);subst e1 e3;refine⟨?_,by omega,g4⟩;rw[CY,c2,g3,← g1];simp
    clear e1 e2 e3;intro t k q;unfold CL at q;split at q
    ·rename_i hc2;simp only[Prod.mk.injEq] at q;obtain⟨e1,_,e3⟩:=q;subst e1 e3;obtain⟨b1,b2⟩:=BA hc2;refine⟨?_,by omega,?_,.inr (.inl ⟨rfl,fun x hx=>by simp at hx,fun c hc=>by simp at hc⟩)⟩
     ·rw[AY,b2];simp
     ·rw[AY];simp
    ·split at q
     ·rename_i hw;have hws:(r.drop 1).take (SP num (r.drop 1)).2.2=Aj ((SP num (r.drop 1)).1.map fun x=>Az x.toNat)∧(SP num (r.drop 1)).2.2≤(r.drop 1).length∧∀ x,x ∈ (SP num (r.drop 1)).1→0≤x∧x<18446744073709551616:=by
       unfold SP at hw ⊢;split at hw
       ·rename_i h124;rw[if_pos h124];obtain⟨i1,i2,_,i4⟩:=Q6 h _ _ _ _ (ES hw);exact⟨i1,i2,i4⟩
       ·rename_i h124;rw[if_neg h124];simp
      obtain⟨w1,w2,w3⟩:=hws;generalize hwv:SP num (r.drop 1)=W at q hw w1 w2 w3;simp only[Prod.mk.injEq] at q;obtain⟨e1,e2,e3⟩:=q;unfold Mq at e1 e2 e3;split at e2
      ·rename_i hc3;rw[if_pos hc3] at e1 e3;simp only at e1 e3;subst e1 e3;obtain⟨b1,b2⟩:=BA hc3;refine⟨?_,by simp at b1;omega,?_,.inr (.inl ⟨rfl,w3,fun c hc=>by simp at hc⟩)⟩
       ·rw[CY,w1,b2,AY];simp
       ·rw[AY];simp
      ·rename_i hc3;rw[if_neg hc3] at e1 e3;split at e2
       ·rename_i hc4;rw[if_pos hc4] at e1 e3;split at e2
        ·cases e2
        ·rename_i hc5;rw[if_neg hc5] at e1 e3;obtain⟨b1,b2⟩:=BA hc4;obtain⟨k1,k2,k3,k4⟩:=Te ih 125 _ _ _ (ES e2);generalize Bc (AU num d) 125 (((r.drop 1).drop W.2.2).drop 1)=G at e1 e2 e3 k1 k2 k3 k4;have hne:G.1 ≠ []:=fun e=>hc5 (fF (k3 e));simp only at e1 e3;subst e1 e3;refine⟨?_,by simp at b1 k2;omega,?_,.inr (.inl ⟨rfl,w3,k4⟩)⟩
         ·rw[CY,w1,CY,b2,k1,AY];simp[hne]
         ·rw[AY];simp
       ·cases e2
     ·simp at q
   ·split at q
    ·simp at q
    ·rename_i hl;obtain⟨l1,l2,l3⟩:=iC hl;split at q
     ·rename_i hc2;obtain⟨b1,b2⟩:=BA hc2;have hhd:r.take 1=[r.headD 0]:=by
       cases r with
       |nil=>simp at b1
       |cons x r=>rfl
      generalize hk:Hl (r.headD 0)=K at q hl l1 l2 l3;simp only[Prod.mk.injEq] at q;obtain⟨e1,e2,e3⟩:=q;have hto:gq (if E5 K=true then KJ num else AU num d) (fun c=>if E5 K=true then HG c else Cw d c):=by
       by_cases hD:E5 K=true
       ·simp only[hD,if_true];exact Y0 h
       ·simp only[hD,if_false];exact ih
      obtain⟨k1,k2,k3,k4⟩:=Te hto 93 _ _ _ (ES e2);generalize Bc (if E5 K=true then KJ num else AU num d) 93 (r.drop 2)=G at e1 e2 e3 k1 k2 k3 k4;subst e1 e3;refine⟨?_,by simp at k2;omega,.inr (.inr ⟨l1,l2,rfl,k4⟩)⟩;rw[show 2+G.2.2=1+(1+G.2.2) by omega,CY,hhd,CY,b2,List.drop_drop,k1,AY,if_neg (by omega),if_neg (by omega),if_pos ⟨l1,l2⟩,l3];simp
     ·simp at q
end
end Go.PL
namespace Go.Proofs.YtgkdikddjfgajaaGreatDoor
set_option maxRecDepth 20000
open Go Go.G Go.Proofs
theorem mixed:Tryz.prog.follows .mixedOrders=true:=by kernel_rfl
@[simp] theorem Ad1:Tryz.prog.underlying 3=some (.int .i64):=by kernel_rfl
@[simp] theorem Adl:Tryz.prog.underlying 21=some (.int .i32):=by kernel_rfl
@[simp] theorem zk:Tryz.prog.underlying 101=some (.int .u64):=by kernel_rfl
@[simp] theorem AaX:Tryz.prog.underlying 181=some (.int .u32):=by kernel_rfl
@[simp] theorem AdL:B2 Tryz.prog 3=some 1:=by kernel_rfl
@[simp] theorem AdF:B2 Tryz.prog 4=some 1:=by kernel_rfl
@[simp] theorem zg:B2 Tryz.prog 234=some 8:=by kernel_rfl
@[simp] theorem AbG:Cu Tryz.prog 3=some false:=by kernel_rfl
@[simp] theorem AcY:Cu Tryz.prog 4=some false:=by kernel_rfl
@[simp] theorem xL:Cu Tryz.prog 234=some true:=by kernel_rfl
@[simp] theorem rY:A1 Tryz.prog 234=some (Value.agg #[Value.int i64 0,Value.int i64 0,Value.int i64 0,Value.int i64 0,Value.int i64 0,Value.int i64 0,Value.int i64 0,Value.bool false]):=by kernel_rfl
@[simp] theorem cK:Ah Tryz.prog 234 0=some 0:=by kernel_rfl
@[simp] theorem cU:Ah Tryz.prog 234 1=some 1:=by kernel_rfl
@[simp] theorem cP:Ah Tryz.prog 234 2=some 2:=by kernel_rfl
@[simp] theorem cj:Ah Tryz.prog 234 3=some 3:=by kernel_rfl
@[simp] theorem cW:Ah Tryz.prog 234 4=some 4:=by kernel_rfl
@[simp] theorem dn:Ah Tryz.prog 234 5=some 5:=by kernel_rfl
@[simp] theorem dk:Ah Tryz.prog 234 6=some 6:=by kernel_rfl
@[simp] theorem da:Ah Tryz.prog 234 7=some 7:=by kernel_rfl
@[simp] theorem pU (ps:List (Nat × A)):Bw Tryz.prog 234 ps=(BU (fun i=>([(0,1),(1,1),(2,1),(3,1),(4,1),(5,1),(6,1),(7,1)]:List (Nat × Nat))[i]?) [A.v (Value.int i64 0),A.v (Value.int i64 0),A.v (Value.int i64 0),A.v (Value.int i64 0),A.v (Value.int i64 0),A.v (Value.int i64 0),A.v (Value.int i64 0),A.v (Value.bool false)] ps).map A.agg:=by kernel_rfl
@[simp] theorem Aaa (x0 y0:Int) (x1 y1:Int) (x2 y2:Int) (x3 y3:Int) (x4 y4:Int) (x5 y5:Int) (x6 y6:Int) (x7 y7:Bool):IZ Tryz.prog 100 234 (.agg [A.v (.int .i64 x0),A.v (.int .i64 x1),A.v (.int .i64 x2),A.v (.int .i64 x3),A.v (.int .i64 x4),A.v (.int .i64 x5),A.v (.int .i64 x6),A.v (.bool x7)]) (.agg [A.v (.int .i64 y0),A.v (.int .i64 y1),A.v (.int .i64 y2),A.v (.int .i64 y3),A.v (.int .i64 y4),A.v (.int .i64 y5),A.v (.int .i64 y6),A.v (.bool y7)])=some (((x0 == y0)&&((x1 == y1)&&((x2 == y2)&&((x3 == y3)&&((x4 == y4)&&((x5 == y5)&&((x6 == y6)&&((x7 == y7)&&(true)))))))))):=by kernel_rfl
@[simp] theorem Aag:Tryz.prog.eqGuardType Tryz.prog.depth 234=false:=by kernel_rfl
@[simp] theorem Aca:Tryz.prog.underlying 26=some (.slice 101):=by kernel_rfl
@[simp] theorem yU:Tryz.prog.underlying 279=some (.array 6 3):=by kernel_rfl
@[simp] theorem zP:B2 Tryz.prog 101=some 1:=by kernel_rfl
@[simp] theorem Aaj:B2 Tryz.prog 279=some 6:=by kernel_rfl
@[simp] theorem vT:Cu Tryz.prog 101=some false:=by kernel_rfl
@[simp] theorem sf:A1 Tryz.prog 101=some (Value.int u64 0):=by kernel_rfl
@[simp] theorem sy:A1 Tryz.prog 279=some (Value.agg #[Value.int i64 0,Value.int i64 0,Value.int i64 0,Value.int i64 0,Value.int i64 0,Value.int i64 0]):=by kernel_rfl
@[simp] theorem nY:BF Tryz.prog 101=some 8:=by kernel_rfl
@[simp] theorem pX (ps:List (Nat × A)):Bw Tryz.prog 279 ps=(BU (fun i=>some (i*1,1)) [A.v (Value.int i64 0),A.v (Value.int i64 0),A.v (Value.int i64 0),A.v (Value.int i64 0),A.v (Value.int i64 0),A.v (Value.int i64 0)] ps).map A.agg:=by kernel_rfl
@[simp] abbrev xT (n:Nat):Operand:=.tmp n
@[simp] abbrev nI (n:Int):Operand:=.const (.int .i64 n)
@[simp] abbrev cL (f:Nat) (xs:Array Operand) (ts:Array TypeId):Op:=.call { callee:=(.value (.func f)),args:=xs,argTypes:=ts }
@[simp] abbrev mV (n:Nat):Op:=.move (.tmp n)
@[simp] abbrev aS (n:Nat):Op:=.assign (.tmp n)
@[simp] abbrev lD (t n:Nat):Op:=.load t (.tmp n)
@[simp] abbrev fA (t n f:Nat):Op:=.fieldAddr t (.tmp n) f
@[simp] abbrev xR (n i:Nat):Op:=.extract (.tmp n) i
@[simp] abbrev oO (d:Nat) (o:Op):CO:=co (some d) o none
@[simp] abbrev oN (d:Nat) (o:Op) (nm:Nm):CO:=cn (some d) o none nm
@[simp] abbrev oS (o:Op):CO:=co none o none
@[simp] abbrev oG (d:Nat) (o:Op) (k:Nat) (b:Bool):CO:=co (some d) o (some (k,b))
@[simp] abbrev bC (b:Builtin) (xs:Array Operand) (ts:Array TypeId):Op:=.call { callee:=(.builtin b),args:=xs,argTypes:=ts }
@[simp] abbrev bL (n t:Nat):Op:=.call { callee:=(.builtin .len),args:=#[.tmp n],argTypes:=#[t] }
@[simp] abbrev bO (o:BinOp) (t a b u:Nat):Op:=.binOp o t (.tmp a) (.tmp b) u
@[simp] abbrev iA (t a b:Nat):Op:=.indexAddr t (.tmp a) (.tmp b)
@[simp] abbrev nB (b:Bool):Operand:=.const (.bool b)
@[simp] abbrev nS:Operand:=.const (.slice none 0 0)
@[simp] abbrev mO (d n:Nat):CO:=co (some d) (.move (.tmp n)) none
@[simp] abbrev aO (d n:Nat):CO:=co (some d) (.assign (.tmp n)) none
@[simp] abbrev lO (d t n:Nat):CO:=co (some d) (.load t (.tmp n)) none
@[simp] abbrev fO (d t n f:Nat):CO:=co (some d) (.fieldAddr t (.tmp n) f) none
@[simp] abbrev xO (d n i:Nat):CO:=co (some d) (.extract (.tmp n) i) none
def pW:Nat→List CO→List (Nat × Nm)
 |_,[]=>[]
 |i,x::l=>if x.nm.isEmpty then pW (i+1) l else (i,x.nm)::pW (i+1) l
def MG:CC→List Mk
 |.reg a b=>[(b,pW 0 a)]
 |.seq x (.keep b (.stop y))=>MG x++(999997::b,[])::MG y
 |.seq x (.keep b y)=>MG x++(999999::b,[])::MG y
 |.seq x (.stop y)=>MG x++([999998],[])::MG y
 |.seq x y=>MG x++([],[])::MG y
 |.cond _ x y=>MG x++MG y
 |.block _ x=>MG x
 |.loop x=>MG x
 |.scope x=>MG x
 |_=>[]
@[simp] abbrev sR (a:List CO) (b:List Nat) (k:CC):CC:=.seq (.reg a b) k
@[simp] abbrev cD (n:Nat) (a b:CC):CC:=.cond (.tmp n) a b
@[simp] abbrev sT (t a b:Nat):CO:=co none (.store t (.tmp a) (.tmp b)) none
@[simp] abbrev bQ (o:BinOp) (d t a:Nat) (n:Int) (u:Nat):CO:=co (some d) (.binOp o t (.tmp a) (.const (.int .i64 n)) u) none
@[simp] abbrev bB (o:BinOp) (d t a b u:Nat):CO:=co (some d) (.binOp o t (.tmp a) (.tmp b) u) none
@[simp] abbrev aI (d:Nat) (n:Int):CO:=co (some d) (.assign (.const (.int .i64 n))) none
@[simp] abbrev aP (d a b t u:Nat) (m:Nm):CO:=cn (some d) (.call { callee:=(.builtin .append),args:=#[.tmp a,.tmp b],argTypes:=#[t,u] }) none m
@[simp] abbrev pF (d a b:Nat):CO:=co (some d) (.pick (.tmp a) (.tmp b) (.const (.bool false))) none
@[simp] abbrev pT (d a b:Nat):CO:=co (some d) (.pick (.tmp a) (.const (.bool true)) (.tmp b)) none
@[simp] abbrev cA (d f a t:Nat):CO:=co (some d) (.call { callee:=(.value (.func f)),args:=#[.tmp a],argTypes:=#[t] }) none
@[simp] abbrev cB (d f a b t u:Nat):CO:=co (some d) (.call { callee:=(.value (.func f)),args:=#[.tmp a,.tmp b],argTypes:=#[t,u] }) none
@[simp] abbrev cE (d f a b e t u v:Nat):CO:=co (some d) (.call { callee:=(.value (.func f)),args:=#[.tmp a,.tmp b,.tmp e],argTypes:=#[t,u,v] }) none
@[simp] abbrev bX (d t a:Nat) (m:Nm):CO:=cn (some d) (.box t (.tmp a)) none m
@[simp] abbrev aL (d t:Nat) (m:Nm):CO:=cn (some d) (.alloc t) none m
@[simp] abbrev mG (d a k:Nat) (b:Bool):CO:=co (some d) (.move (.tmp a)) (some (k,b))
@[simp] abbrev lG (d t a k:Nat) (b:Bool):CO:=co (some d) (.load t (.tmp a)) (some (k,b))
@[simp] abbrev fG (d t a f k:Nat) (b:Bool):CO:=co (some d) (.fieldAddr t (.tmp a) f) (some (k,b))
@[simp] abbrev iO (d t a b:Nat):CO:=co (some d) (.indexAddr t (.tmp a) (.tmp b)) none
@[simp] abbrev bN (d n t:Nat):CO:=co (some d) (.call { callee:=(.builtin .len),args:=#[.tmp n],argTypes:=#[t] }) none
@[simp] abbrev nC (d a:Nat):CO:=co (some d) (.nilCheck (.tmp a)) none
@[simp] abbrev aB (d:Nat) (b:Bool):CO:=co (some d) (.assign (.const (.bool b))) none
@[simp] abbrev aN (d:Nat):CO:=co (some d) (.assign (.const (.slice none 0 0))) none
@[simp] abbrev lS (d t a k:Nat):CO:=⟨some d,.load t (.tmp a),none,[],k,[],true⟩
@[simp] abbrev sQ (a:List CO) (l:List Nat) (k:CC) (m:List Nat) (n:CC):CC:=.seq (.seq (.reg a l) k) (.keep m n)
def L9:CC:=sR [aI 2 0,aB 3 false] [0] (sR [oO 5 (.build 279 #[(0,(nI 0)),(1,(nI 1)),(2,(nI 8)),(3,(nI 16)),(4,(nI 32)),(5,(nI 64))]),aL 4 279 [0],sT 279 4 5] [0,4] (sQ [mO 6 0,bQ .lss 7 3 6 0 3,mO 8 7,mG 9 0 8 false,oG 10 (.binOp .geq 3 (xT 9) (nI 6) 3) 8 false,pT 11 8 10] [0,4,11] (cD 11 (sR [aI 2 0,aB 3 false] [2,3] (.ret)) (.skip)) [0,4] (sR [mO 12 0,iO 13 279 4 12,lO 14 3 13,aO 2 14,aB 3 true] [2,3] (.ret))))
theorem AH {f:FuncId} {fn:Func} {cc:CC} {rs:List ResultVar} {n:Nat} (hf:Tryz.prog.funcs[f]? = some fn) (hn:fn.ntmps=n:=by kernel_rfl) (hk:Ji Tryz.prog f=true:=by kernel_rfl) (hb:fn.body=some (fn.body.getD .ret):=by kernel_rfl) (hrs:fn.results.toList=rs:=by kernel_rfl) (hc:C8 n (fn.body.getD .ret) (MG cc)=some (cc,[]):=by kernel_rfl):BM Tryz.prog f n rs cc:=pw mixed hk hf hb hn hrs hc
theorem T5:BM Tryz.prog 144 15 [(.tmp 2),(.tmp 3)] L9:=AH Tryz.func144
def JL:CC:=sR [aB 2 false] [0] (sR [mO 3 0,bQ .geq 4 3 3 2 3,mO 5 4,mG 6 0 5 true,oG 7 (.binOp .leq 3 (xT 6) (nI 7) 3) 5 true,pF 8 5 7,aO 2 8] [2] (.ret))
theorem Od:BM Tryz.prog 97 9 [(.tmp 2)] JL:=AH Tryz.func97
@[simp] theorem zW:Tryz.prog.underlying 150=some (.pointer 204):=by kernel_rfl
@[simp] theorem Aas:Tryz.prog.underlying 152=some (.slice 26):=by kernel_rfl
@[simp] theorem AaM:Tryz.prog.underlying 341=some (.array 7 3):=by kernel_rfl
@[simp] theorem Abz:B2 Tryz.prog 26=some 1:=by kernel_rfl
@[simp] theorem zu:B2 Tryz.prog 152=some 1:=by kernel_rfl
@[simp] theorem Aam:B2 Tryz.prog 285=some 10:=by kernel_rfl
@[simp] theorem z7:B2 Tryz.prog 341=some 7:=by kernel_rfl
@[simp] theorem Aa6:Cu Tryz.prog 26=some false:=by kernel_rfl
@[simp] theorem xw:Cu Tryz.prog 152=some false:=by kernel_rfl
@[simp] theorem xK:Cu Tryz.prog 285=some true:=by kernel_rfl
@[simp] theorem vd:A1 Tryz.prog 26=some (Value.slice none 0 0):=by kernel_rfl
@[simp] theorem sg:A1 Tryz.prog 285=some (Value.agg #[Value.int i64 0,Value.int i64 0,Value.int i64 0,Value.int i64 0,Value.int i64 0,Value.int i64 0,Value.int i64 0,Value.bool false,Value.int i64 0,Value.int i64 0]):=by kernel_rfl
@[simp] theorem rO:A1 Tryz.prog 341=some (Value.agg #[Value.int i64 0,Value.int i64 0,Value.int i64 0,Value.int i64 0,Value.int i64 0,Value.int i64 0,Value.int i64 0]):=by kernel_rfl
@[simp] theorem tS:BF Tryz.prog 26=some 24:=by kernel_rfl
@[simp] theorem cF:Ah Tryz.prog 204 0=some 0:=by kernel_rfl
@[simp] theorem de:Ah Tryz.prog 285 0=some 0:=by kernel_rfl
@[simp] theorem cz:Ah Tryz.prog 285 1=some 8:=by kernel_rfl
@[simp] theorem bT:Ah Tryz.prog 285 2=some 9:=by kernel_rfl
@[simp] theorem oo (ps:List (Nat × A)):Bw Tryz.prog 204 ps=(BU (fun i=>([(0,1),(1,1),(2,1),(3,1)]:List (Nat × Nat))[i]?) [A.sl true [],A.v (Value.int i64 0),A.v (Value.int i64 0),A.v (Value.int i64 0)] ps).map A.agg:=by kernel_rfl
@[simp] theorem pf (ps:List (Nat × A)):Bw Tryz.prog 285 ps=(BU (fun i=>([(0,8),(8,1),(9,1)]:List (Nat × Nat))[i]?) [A.v (Value.int i64 0),A.v (Value.int i64 0),A.v (Value.int i64 0),A.v (Value.int i64 0),A.v (Value.int i64 0),A.v (Value.int i64 0),A.v (Value.int i64 0),A.v (Value.bool false),A.v (Value.int i64 0),A.v (Value.int i64 0)] ps).map A.agg:=by kernel_rfl
@[simp] theorem qb (ps:List (Nat × A)):Bw Tryz.prog 341 ps=(BU (fun i=>some (i*1,1)) [A.v (Value.int i64 0),A.v (Value.int i64 0),A.v (Value.int i64 0),A.v (Value.int i64 0),A.v (Value.int i64 0),A.v (Value.int i64 0),A.v (Value.int i64 0)] ps).map A.agg:=by kernel_rfl
def AI:CC:=sR [aN 2] [0] (sQ [mO 3 0,oO 4 (.binOp .eql 26 (xT 3) nS 26)] [0,4] (cD 4 (sR [aN 2] [2] (.ret)) (.skip)) [0] (sR [oO 5 (.buildSlice 26 0 #[]),mO 6 0,aP 7 5 6 26 26 [0],aO 2 7] [2] (.ret)))
theorem AP:BM Tryz.prog 43 8 [(.tmp 2)] AI:=AH Tryz.func43
@[simp] theorem Abt:Tryz.prog.underlying 27=some (.slice 29):=by kernel_rfl
@[simp] theorem Ace:B2 Tryz.prog 27=some 1:=by kernel_rfl
@[simp] theorem AbH:B2 Tryz.prog 29=some 3:=by kernel_rfl
@[simp] theorem yS:Cu Tryz.prog 27=some false:=by kernel_rfl
@[simp] theorem zd:Cu Tryz.prog 29=some true:=by kernel_rfl
@[simp] theorem wK:A1 Tryz.prog 29=some (Value.agg #[Value.int i64 0,Value.slice none 0 0,Value.slice none 0 0]):=by kernel_rfl
@[simp] theorem rG:BF Tryz.prog 29=some 56:=by kernel_rfl
@[simp] theorem gC:Ah Tryz.prog 29 0=some 0:=by kernel_rfl
@[simp] theorem fZ:Ah Tryz.prog 29 1=some 1:=by kernel_rfl
@[simp] theorem fK:Ah Tryz.prog 29 2=some 2:=by kernel_rfl
@[simp] theorem sI (ps:List (Nat × A)):Bw Tryz.prog 29 ps=(BU (fun i=>([(0,1),(1,1),(2,1)]:List (Nat × Nat))[i]?) [A.v (Value.int i64 0),A.sl true [],A.sl true []] ps).map A.agg:=by kernel_rfl
def GI:CC:=sR [bB .lss 20 3 19 18 3] [1,2,3,17,18,19,20] (.seq (cD 20 (.skip) (.exit 0)) (.keep [1,2,3,17,18,19] (.seq (.block 1 (sR [iO 21 27 17 19,lO 22 29 21,aL 5 29 [3],sT 29 5 22] [1,2,3,5,17,18,19] (.reg [fO 23 29 3 2,lS 24 27 23 1,lO 25 29 5,⟨some 26,(cL 23 #[(xT 25)] #[29]),none,[],3,[1],false⟩,⟨some 27,(.buildSlice 27 1 #[(0,(xT 26))]),none,[],4,[1],false⟩,aP 28 24 27 27 27 [4],fO 29 29 3 2,sT 27 29 28] [1,2,3,17,18,19]))) (.reg [bQ .add 30 3 19 1 3,mO 19 30] [1,2,3,17,18,19]))))
def Gz:CC:=sQ [fO 34 29 3 1,lO 35 26 34,bN 36 35 26,bQ .gtr 37 3 36 0 3,mO 38 37,fG 39 29 3 1 38 true,lG 40 26 39 38 true,fG 41 29 3 1 38 true,lG 42 26 41 38 true,oG 43 (bL 42 26) 38 true,oG 44 (.binOp .sub 3 (xT 43) (nI 1) 3) 38 true,oG 45 (iA 26 40 44) 38 true,lG 46 101 45 38 true,oG 47 (.binOp .eql 101 (xT 46) (.const (.int .u64 0)) 101) 38 true,pF 48 38 47] [2,3,48] (cD 48 (.skip) (.exit 2)) [2,3] (.block 3 (.reg [fO 49 29 3 1,lO 50 26 49,fO 51 29 3 1,lO 52 26 51,bN 53 52 26,bQ .sub 54 3 53 1 3,oO 55 (.slice 26 (xT 50) none (some (xT 54)) none),fO 56 29 3 1,sT 26 56 55] [2,3]))
def GD:CC:=sQ [fO 57 29 3 2,lO 58 27 57,bN 59 58 27,bQ .gtr 60 3 59 0 3,mO 61 60,fG 62 29 3 2 61 true,lG 63 27 62 61 true,fG 64 29 3 2 61 true,lG 65 27 64 61 true,oG 66 (bL 65 27) 61 true,oG 67 (.binOp .sub 3 (xT 66) (nI 1) 3) 61 true,oG 68 (iA 27 63 67) 61 true,fG 69 29 68 0 61 true,lG 70 3 69 61 true,oG 71 (.binOp .eql 3 (xT 70) (nI 0) 3) 61 true,pF 72 61 71] [2,3,72] (cD 72 (.skip) (.exit 4)) [2,3] (.block 5 (.reg [fO 73 29 3 2,lO 74 27 73,fO 75 29 3 2,lO 76 27 75,bN 77 76 27,bQ .sub 78 3 77 1 3,oO 79 (.slice 27 (xT 74) none (some (xT 78)) none),fO 80 29 3 2,sT 27 80 79] [2,3])) 
def Oc:CC:=sR [bX 1 29 0 [0],aL 2 29 [1]] [1,2] (sQ [fO 6 29 1 0,lO 7 3 6,bQ .eql 8 3 7 0 3] [1,2,8] (cD 8 (sR [oO 9 (.build 29 #[]),sT 29 2 9] [2] (.ret)) (.skip)) [1,2] (sR [fO 10 29 1 0,lS 11 3 10 1,fO 12 29 1 1,lS 13 26 12 3,⟨some 14,(cL 43 #[(xT 13)] #[26]),none,[],4,[1],true⟩,oO 15 (.build 29 #[(0,(xT 11)),(1,(xT 14))]),⟨some 3,(.alloc 29),none,[2],6,[1,3,4],false⟩,sT 29 3 15] [1,2,3] (sQ [fO 16 29 1 2,lO 17 27 16,bN 18 17 27,oO 19 (.move (nI 0))] [1,2,3,17,18,19] (.block 0 (.loop GI)) [1,2,3] (sQ [fO 31 29 1 0,lO 32 3 31,bQ .eql 33 3 32 1 3] [2,3,33] (cD 33 (.seq (.block 2 (.loop Gz)) (.keep [2,3] (.block 4 (.loop GD)))) (.skip)) [2,3] (sR [lO 81 29 3,sT 29 2 81] [2] (.ret))))))
theorem UL:BM Tryz.prog 23 82 [(.cell 2 29)] Oc:=AH Tryz.func23
@[simp] theorem Ab9:Tryz.prog.underlying 54=some (.int .i64):=by kernel_rfl
@[simp] theorem AaS:B2 Tryz.prog 150=some 1:=by kernel_rfl
@[simp] theorem zn:B2 Tryz.prog 196=some 8:=by kernel_rfl
@[simp] theorem vx:Cu Tryz.prog 150=some false:=by kernel_rfl
@[simp] theorem uM:Cu Tryz.prog 196=some true:=by kernel_rfl
@[simp] theorem rr:A1 Tryz.prog 196=some (Value.agg #[Value.pointer none,Value.int i64 0,Value.int i64 0,Value.int i64 0,Value.int i64 0,Value.int i64 0,Value.int i64 0,Value.int u64 0]):=by kernel_rfl
@[simp] theorem cr:Ah Tryz.prog 196 0=some 0:=by kernel_rfl
@[simp] theorem b9:Ah Tryz.prog 196 1=some 1:=by kernel_rfl
@[simp] theorem cQ:Ah Tryz.prog 196 2=some 2:=by kernel_rfl
@[simp] theorem cH:Ah Tryz.prog 196 3=some 3:=by kernel_rfl
@[simp] theorem cZ:Ah Tryz.prog 196 4=some 4:=by kernel_rfl
@[simp] theorem c6:Ah Tryz.prog 196 5=some 5:=by kernel_rfl
@[simp] theorem cm:Ah Tryz.prog 196 6=some 6:=by kernel_rfl
@[simp] theorem nJ (ps:List (Nat × A)):Bw Tryz.prog 196 ps=(BU (fun i=>([(0,1),(1,1),(2,1),(3,1),(4,1),(5,1),(6,1),(7,1)]:List (Nat × Nat))[i]?) [A.v (Value.pointer none),A.v (Value.int i64 0),A.v (Value.int i64 0),A.v (Value.int i64 0),A.v (Value.int i64 0),A.v (Value.int i64 0),A.v (Value.int i64 0),A.v (Value.int u64 0)] ps).map A.agg:=by kernel_rfl
@[simp] theorem AdA:Tryz.prog.underlying 5=some (.int .u8):=by kernel_rfl
def OH:CC:=sR [bX 2 29 0 [0],oO 4 (.assign (.const (.int .u64 0)))] [1,2] (sQ [mO 5 1,bQ .lss 6 3 5 0 3,mO 7 6,mG 8 1 7 false,fG 9 29 2 1 7 false,lG 10 26 9 7 false,oG 11 (bL 10 26) 7 false,oG 12 (bO .geq 3 8 11 3) 7 false,pT 13 7 12] [1,2,13] (cD 13 (sR [oO 4 (.assign (.const (.int .u64 0)))] [4] (.ret)) (.skip)) [1,2] (sR [fO 14 29 2 1,lO 15 26 14,mO 16 1,iO 17 26 15 16,lO 18 101 17,aO 4 18] [4] (.ret)))
theorem UR:BM Tryz.prog 155 19 [(.tmp 4)] OH:=AH Tryz.func155
def Qh:CC:=sR [bX 2 29 0 [0],aL 4 29 [1]] [1,2,4] (sQ [mO 5 1,bQ .lss 6 3 5 0 3,mO 7 6,mG 8 1 7 false,fG 9 29 2 2 7 false,lG 10 27 9 7 false,oG 11 (bL 10 27) 7 false,oG 12 (bO .geq 3 8 11 3) 7 false,pT 13 7 12] [1,2,4,13] (cD 13 (sR [oO 14 (.build 29 #[]),sT 29 4 14] [4] (.ret)) (.skip)) [1,2,4] (sR [fO 15 29 2 2,lO 16 27 15,mO 17 1,iO 18 27 16 17,lO 19 29 18,sT 29 4 19] [4] (.ret)))
theorem Yr:BM Tryz.prog 216 20 [(.cell 4 29)] Qh:=AH Tryz.func216
def Gx:CC:=sR [bQ .lss 6 3 5 8 3] [0,3,5,6] (.seq (cD 6 (.skip) (.exit 0)) (.keep [0,3,5] (.seq (.block 1 (sR [mO 7 5,aO 4 7] [0,3,4,5] (sR [mO 8 0,mO 9 4,bB .shr 10 5 8 9 3,oO 11 (.binOp .and 5 (xT 10) (.const (.int .u8 1)) 5),oO 12 (.binOp .eql 5 (xT 11) (.const (.int .u8 1)) 5)] [0,3,4,5,12] (cD 12 (.reg [mO 13 3,mO 14 4,oO 15 (.binOp .mul 3 (nI 8) (xT 14) 3),oO 16 (.binOp .shl 101 (.const (.int .u64 255)) (xT 15) 3),bB .or 17 101 13 16 101,aO 3 17] [0,3,5]) (.skip))))) (.keep [0,3,5] (.reg [bQ .add 18 3 5 1 3,mO 5 18] [0,3,5]))))) 
def Oq:CC:=sR [oO 2 (.assign (.const (.int .u64 0)))] [0] (sR [oO 3 (.assign (.const (.int .u64 0)))] [0,3] (sQ [oO 5 (.move (nI 0))] [0,3,5] (.block 0 (.loop Gx)) [3] (sR [mO 19 3,aO 2 19] [2] (.ret))))
theorem Ux:BM Tryz.prog 210 20 [(.tmp 2)] Oq:=AH Tryz.func210
def QN:CC:=sR [oO 6 (.assign (.const (.int .u64 0)))] [0,1,2] (sR [mO 7 0,mO 8 2,cA 9 210 8 5,bB .andNot 10 101 7 9 101,mO 11 1,mO 12 2,cA 13 210 12 5,bB .and 14 101 11 13 101,bB .or 15 101 10 14 101,aO 6 15] [6] (.ret))
theorem Ym:BM Tryz.prog 173 16 [(.tmp 6)] QN:=AH Tryz.func173
@[simp] theorem AcH:Tryz.prog.underlying 69=some (.slice 127):=by kernel_rfl
@[simp] theorem Acy:Tryz.prog.underlying 70=some (.slice 131):=by kernel_rfl
@[simp] theorem AcF:Tryz.prog.underlying 71=some (.slice 133):=by kernel_rfl
@[simp] theorem AdY:B2 Tryz.prog 5=some 1:=by kernel_rfl
@[simp] theorem AbZ:B2 Tryz.prog 69=some 1:=by kernel_rfl
@[simp] theorem Abx:B2 Tryz.prog 70=some 1:=by kernel_rfl
@[simp] theorem AbV:B2 Tryz.prog 71=some 1:=by kernel_rfl
@[simp] theorem AcU:B2 Tryz.prog 73=some 11:=by kernel_rfl
@[simp] theorem AaU:B2 Tryz.prog 127=some 4:=by kernel_rfl
@[simp] theorem Aax:B2 Tryz.prog 131=some 12:=by kernel_rfl
@[simp] theorem Abm:B2 Tryz.prog 133=some 14:=by kernel_rfl
@[simp] theorem yN:B2 Tryz.prog 154=some 4:=by kernel_rfl
@[simp] theorem AcT:Cu Tryz.prog 5=some false:=by kernel_rfl
@[simp] theorem zF:Cu Tryz.prog 69=some false:=by kernel_rfl
@[simp] theorem zx:Cu Tryz.prog 70=some false:=by kernel_rfl
@[simp] theorem zb:Cu Tryz.prog 71=some false:=by kernel_rfl
@[simp] theorem Aac:Cu Tryz.prog 73=some true:=by kernel_rfl
@[simp] theorem vg:Cu Tryz.prog 127=some true:=by kernel_rfl
@[simp] theorem ua:Cu Tryz.prog 131=some true:=by kernel_rfl
@[simp] theorem xW:Cu Tryz.prog 133=some true:=by kernel_rfl
@[simp] theorem yE:Cu Tryz.prog 154=some true:=by kernel_rfl
@[simp] theorem sH:A1 Tryz.prog 127=some (Value.agg #[Value.int i64 0,Value.int IntKind.u8 0,Value.int u64 0,Value.int u64 0]):=by kernel_rfl
@[simp] theorem rk:A1 Tryz.prog 131=some (Value.agg #[Value.int i64 0,Value.int i64 0,Value.int i64 0,Value.slice none 0 0,Value.slice none 0 0,Value.int i64 0,Value.slice none 0 0,Value.slice none 0 0,Value.slice none 0 0,Value.slice none 0 0,Value.int i64 0,Value.slice none 0 0]):=by kernel_rfl
@[simp] theorem rH:A1 Tryz.prog 133=some (Value.agg #[Value.int i64 0,Value.int i64 0,Value.slice none 0 0,Value.int i64 0,Value.int i64 0,Value.slice none 0 0,Value.slice none 0 0,Value.int i64 0,Value.slice none 0 0,Value.slice none 0 0,Value.slice none 0 0,Value.slice none 0 0,Value.int i64 0,Value.slice none 0 0]):=by kernel_rfl
@[simp] theorem sK:A1 Tryz.prog 154=some (Value.agg #[Value.int i64 0,Value.int i64 0,Value.int i64 0,Value.int i64 0]):=by kernel_rfl
@[simp] theorem qm:BF Tryz.prog 127=some 32:=by kernel_rfl
@[simp] theorem qA:BF Tryz.prog 131=some 208:=by kernel_rfl
@[simp] theorem oa:BF Tryz.prog 133=some 240:=by kernel_rfl
@[simp] theorem iJ:Ah Tryz.prog 73 0=some 0:=by kernel_rfl
@[simp] theorem fq:Ah Tryz.prog 73 1=some 1:=by kernel_rfl
@[simp] theorem eu:Ah Tryz.prog 73 2=some 4:=by kernel_rfl
@[simp] theorem g7:Ah Tryz.prog 73 3=some 7:=by kernel_rfl
@[simp] theorem jc:Ah Tryz.prog 73 4=some 8:=by kernel_rfl
@[simp] theorem eG:Ah Tryz.prog 73 5=some 9:=by kernel_rfl
@[simp] theorem iB:Ah Tryz.prog 73 6=some 10:=by kernel_rfl
@[simp] theorem cR:Ah Tryz.prog 127 0=some 0:=by kernel_rfl
@[simp] theorem df:Ah Tryz.prog 127 1=some 1:=by kernel_rfl
@[simp] theorem dj:Ah Tryz.prog 127 2=some 2:=by kernel_rfl
@[simp] theorem c7:Ah Tryz.prog 127 3=some 3:=by kernel_rfl
@[simp] theorem bW:Ah Tryz.prog 131 0=some 0:=by kernel_rfl
@[simp] theorem ct:Ah Tryz.prog 131 1=some 1:=by kernel_rfl
@[simp] theorem dc:Ah Tryz.prog 133 0=some 0:=by kernel_rfl
@[simp] theorem cN:Ah Tryz.prog 133 1=some 1:=by kernel_rfl
@[simp] theorem dv:Ah Tryz.prog 133 2=some 2:=by kernel_rfl
@[simp] theorem cd:Ah Tryz.prog 133 3=some 3:=by kernel_rfl
@[simp] theorem bV:Ah Tryz.prog 154 0=some 0:=by kernel_rfl
@[simp] theorem dq:Ah Tryz.prog 154 1=some 1:=by kernel_rfl
@[simp] theorem bZ:Ah Tryz.prog 154 2=some 2:=by kernel_rfl
@[simp] theorem di:Ah Tryz.prog 154 3=some 3:=by kernel_rfl
@[simp] theorem dp:Ah Tryz.prog 192 0=some 0:=by kernel_rfl
@[simp] theorem cC:Ah Tryz.prog 201 0=some 0:=by kernel_rfl
@[simp] theorem du:Ah Tryz.prog 201 1=some 1:=by kernel_rfl
@[simp] theorem oM (ps:List (Nat × A)):Bw Tryz.prog 154 ps=(BU (fun i=>([(0,1),(1,1),(2,1),(3,1)]:List (Nat × Nat))[i]?) [A.v (Value.int i64 0),A.v (Value.int i64 0),A.v (Value.int i64 0),A.v (Value.int i64 0)] ps).map A.agg:=by kernel_rfl
@[simp] theorem oq (ps:List (Nat × A)):Bw Tryz.prog 192 ps=(BU (fun i=>([(0,1)]:List (Nat × Nat))[i]?) [A.sl true []] ps).map A.agg:=by kernel_rfl
@[simp] theorem qL (ps:List (Nat × A)):Bw Tryz.prog 201 ps=(BU (fun i=>([(0,1),(1,1)]:List (Nat × Nat))[i]?) [A.v (Value.int i64 0),A.v (Value.int i64 0)] ps).map A.agg:=by kernel_rfl
def Oj:CC:=sR [aB 4 false] [0,1] (sR [mO 8 0,cA 9 144 8 3,mO 7 9,xO 10 7 0,xO 11 7 1,aO 5 10,aO 6 11] [1,5,6] (sR [mO 12 6,mO 13 12,mG 14 5 13 true,oG 15 (.binOp .eql 3 (xT 14) (nI 64) 3) 13 true,mG 16 15 13 true,mG 17 1 16 false,mG 18 5 16 false,oG 19 (bO .shr 101 17 18 3) 16 false,oG 20 (.binOp .eql 101 (xT 19) (.const (.int .u64 0)) 101) 16 false,oG 21 (.pick (xT 16) (nB true) (xT 20)) 13 true,pF 22 13 21,aO 4 22] [4] (.ret)))
theorem UE:BM Tryz.prog 105 23 [(.tmp 4)] Oj:=AH Tryz.func105
def N6:CC:=sR [aB 2 false] [0] (sR [mO 3 0,bQ .geq 4 3 3 2 3,mO 5 4,mG 6 0 5 true,oG 7 (.binOp .leq 3 (xT 6) (nI 9) 3) 5 true,pF 8 5 7,aO 2 8] [2] (.ret))
theorem Wm:BM Tryz.prog 70 9 [(.tmp 2)] N6:=AH Tryz.func70
def Pv:CC:=sR [bX 3 29 1 [0],aB 4 false] [0,3] (.seq (.block 0 (sR [mO 6 0,cA 7 97 6 3,aO 5 7] [0,3,5] (cD 5 (sR [fO 8 29 3 0,lO 9 3 8,bQ .eql 10 3 9 10 3,mO 11 10,fG 12 29 3 2 11 true,lG 13 27 12 11 true,oG 14 (bL 13 27) 11 true,oG 15 (.binOp .eql 3 (xT 14) (nI 0) 3) 11 true,pF 16 11 15,mO 17 16,fG 18 29 3 1 17 true,lG 19 26 18 17 true,oG 20 (bL 19 26) 17 true,oG 21 (.binOp .eql 3 (xT 20) (nI 1) 3) 17 true,pF 22 17 21,mO 23 22,mG 24 0 23 true,oG 25 (.binOp .sub 3 (xT 24) (nI 2) 3) 23 true,fG 26 29 3 1 23 true,lG 27 26 26 23 true,oG 28 (.indexAddr 26 (xT 27) (nI 0)) 23 true,lG 29 101 28 23 true,oG 30 (cL 105 #[(xT 25),(xT 29)] #[3,101]) 23 true,pF 31 23 30,aO 4 31] [4] (.ret)) (sR [mO 33 0,bQ .eql 34 3 33 9 3,aO 32 34] [3,32] (cD 32 (sR [fO 35 29 3 0,lO 36 3 35,bQ .eql 37 3 36 1 3,aO 4 37] [4] (.ret)) (.skip)))))) (.keep [3] (sR [fO 38 29 3 0,lO 39 3 38,bQ .neq 40 3 39 10 3,aO 4 40] [4] (.ret))))
theorem Xa:BM Tryz.prog 71 41 [(.tmp 4)] Pv:=AH Tryz.func71
def HP:CC:=sR [mO 87 7,oO 88 (.unOp .not 4 (xT 87)),mO 89 88,lG 90 29 6 89 false,mG 91 1 89 false,oG 92 (.binOp .sub 3 (xT 91) (nI 1) 3) 89 false,oG 93 (cL 42 #[(xT 90),(xT 92)] #[29,3]) 89 false,oG 94 (.unOp .not 4 (xT 93)) 89 false,pT 95 89 94] [1,2,71,72,73,95] (cD 95 (sR [aB 4 false] [4] (.ret)) (.skip))
def FI:CC:=sR [bB .lss 74 3 73 72 3] [1,2,71,72,73,74] (.seq (cD 74 (.skip) (.exit 1)) (.keep [1,2,71,72,73] (.seq (.block 2 (sR [iO 75 27 71 73,lO 76 29 75,aL 6 29 [1],sT 29 6 76] [1,2,6,71,72,73] (sR [fO 77 29 6 0,lO 78 3 77,bQ .neq 79 3 78 10 3,aO 7 79] [1,2,6,7,71,72,73] (sQ [fO 80 29 2 0,lO 81 3 80,bQ .neq 82 3 81 1 3] [1,2,6,7,71,72,73,82] (cD 82 (.reg [fO 83 29 2 0,lO 84 3 83,lO 85 29 6,cB 86 71 84 85 3 29,aO 7 86] [1,2,6,7,71,72,73]) (.skip)) [1,2,6,7,71,72,73] HP)))) (.keep [1,2,71,72,73] (.reg [bQ .add 96 3 73 1 3,mO 73 96] [1,2,71,72,73])))))
def HL:CC:=sQ [fO 70 29 2 2,lO 71 27 70,bN 72 71 27,oO 73 (.move (nI 0))] [1,2,71,72,73] (.block 1 (.loop FI)) [] (sR [aB 4 true] [4] (.ret)) 
def My:CC:=sR [bX 2 29 0 [0],aB 4 false] [1,2] (.seq (.block 0 (sR [fO 9 29 2 0,lO 10 3 9,bQ .eql 11 3 10 0 3,aO 8 11] [1,2,8] (cD 8 (sR [fO 12 29 2 1,lO 13 26 12,bN 14 13 26,bQ .eql 15 3 14 0 3,mO 16 15,fG 17 29 2 2 16 true,lG 18 27 17 16 true,oG 19 (bL 18 27) 16 true,oG 20 (.binOp .eql 3 (xT 19) (nI 0) 3) 16 true,pF 21 16 20,aO 4 21] [4] (.ret)) (sR [fO 23 29 2 0,lO 24 3 23,bQ .eql 25 3 24 10 3,aO 22 25] [1,2,22] (cD 22 (sR [fO 26 29 2 1,lO 27 26 26,bN 28 27 26,bQ .eql 29 3 28 1 3,mO 30 29,fG 31 29 2 2 30 true,lG 32 27 31 30 true,oG 33 (bL 32 27) 30 true,oG 34 (.binOp .eql 3 (xT 33) (nI 0) 3) 30 true,pF 35 30 34,aO 4 35] [4] (.ret)) (sR [mO 37 1,bQ .eql 38 3 37 0 3,aO 36 38] [1,2,36] (cD 36 (sR [aB 4 false] [4] (.ret)) (sR [fO 40 29 2 0,lO 41 3 40,bQ .eql 42 3 41 1 3,aO 39 42] [1,2,39] (cD 39 (sR [fO 43 29 2 1,lO 44 26 43,bN 45 44 26,bQ .geq 46 3 45 65536 3,mO 47 46,fG 48 29 2 2 47 false,lG 49 27 48 47 false,oG 50 (bL 49 27) 47 false,oG 51 (.binOp .geq 3 (xT 50) (nI 65536) 3) 47 false,pT 52 47 51] [1,2,52] (cD 52 (sR [aB 4 false] [4] (.ret)) (.skip))) (sR [fO 54 29 2 0,lO 55 3 54,cA 56 70 55 3,oO 57 (.unOp .not 4 (xT 56)),mO 58 57,fG 59 29 2 1 58 false,lG 60 26 59 58 false,oG 61 (bL 60 26) 58 false,oG 62 (.binOp .gtr 3 (xT 61) (nI 0) 3) 58 false,pT 63 58 62,mO 64 63,fG 65 29 2 2 64 false,lG 66 27 65 64 false,oG 67 (bL 66 27) 64 false,oG 68 (.binOp .geq 3 (xT 67) (nI 1048576) 3) 64 false,pT 69 64 68,aO 53 69] [1,2,53] (cD 53 (sR [aB 4 false] [4] (.ret)) (.skip)))))))))))) (.keep [1,2] HL))
theorem T9:BM Tryz.prog 42 97 [(.tmp 4)] My:=AH Tryz.func42
def MQ:CC:=sR [bX 1 29 0 [0],aB 2 false] [1] (sR [lO 3 29 1,oO 4 (cL 42 #[(xT 3),(nI 64)] #[29,3]),aO 2 4] [2] (.ret))
theorem TG:BM Tryz.prog 22 5 [(.tmp 2)] MQ:=AH Tryz.func22
def Bs:CC:=sR [bB .lss 14 3 13 12 3] [0,1,12,13,14] (.seq (cD 14 (.skip) (.exit 0)) (.keep [0,1,12,13] (.seq (.block 1 (sR [mO 15 13,aO 5 15] [0,1,5,12,13] (sR [mO 16 0,mO 17 5,iO 18 26 16 17,lO 19 101 18,mO 20 1,mO 21 5,iO 22 26 20 21,lO 23 101 22,bB .neq 24 101 19 23 101] [0,1,12,13,24] (cD 24 (sR [aB 4 false] [4] (.ret)) (.skip))))) (.keep [0,1,12,13] (.reg [bQ .add 25 3 13 1 3,mO 13 25] [0,1,12,13]))))) 
def DD:CC:=sR [aB 4 false] [0,1] (sQ [mO 6 0,bN 7 6 26,mO 8 1,bN 9 8 26,bB .neq 10 3 7 9 3] [0,1,10] (cD 10 (sR [aB 4 false] [4] (.ret)) (.skip)) [0,1] (sQ [mO 11 0,bN 12 11 26,oO 13 (.move (nI 0))] [0,1,12,13] (.block 0 (.loop Bs)) [] (sR [aB 4 true] [4] (.ret))))
theorem Gj:BM Tryz.prog 215 26 [(.tmp 4)] DD:=AH Tryz.func215
def FN:CC:=sR [bB .lss 50 3 49 48 3] [2,3,48,49,50] (.seq (cD 50 (.skip) (.exit 0)) (.keep [2,3,48,49] (.seq (.block 1 (sR [mO 51 49,aO 5 51] [2,3,5,48,49] (sR [lO 52 29 2,mO 53 5,⟨some 54,(cL 155 #[(xT 52),(xT 53)] #[29,3]),none,[],2,[],true⟩,⟨some 55,(lD 29 3),none,[],3,[2],false⟩,mO 56 5,cB 57 155 55 56 29 3,bB .neq 58 101 54 57 101] [2,3,48,49,58] (cD 58 (sR [aB 4 false] [4] (.ret)) (.skip))))) (.keep [2,3,48,49] (.reg [bQ .add 59 3 49 1 3,mO 49 59] [2,3,48,49])))))
def FM:CC:=sR [bB .lss 68 3 67 66 3] [2,3,66,67,68] (.seq (cD 68 (.skip) (.exit 2)) (.keep [2,3,66,67] (.seq (.block 3 (sR [mO 69 67,aO 6 69] [2,3,6,66,67] (sR [lO 70 29 2,mO 71 6,⟨some 72,(cL 216 #[(xT 70),(xT 71)] #[29,3]),none,[],2,[],true⟩,⟨some 73,(lD 29 3),none,[],3,[2],false⟩,mO 74 6,cB 75 216 73 74 29 3,cB 76 176 72 75 29 29,oO 77 (.unOp .not 4 (xT 76))] [2,3,66,67,77] (cD 77 (sR [aB 4 false] [4] (.ret)) (.skip))))) (.keep [2,3,66,67] (.reg [bQ .add 78 3 67 1 3,mO 67 78] [2,3,66,67])))))
def HH:CC:=sQ [fO 42 29 2 1,lO 43 26 42,bN 44 43 26,fO 45 29 3 1,lO 46 26 45,bN 47 46 26,oO 48 (bC .max #[(xT 44),(xT 47)] #[3,3]),oO 49 (.move (nI 0))] [2,3,48,49] (.block 0 (.loop FN)) [2,3] (sQ [fO 60 29 2 2,lO 61 27 60,bN 62 61 27,fO 63 29 3 2,lO 64 27 63,bN 65 64 27,oO 66 (bC .max #[(xT 62),(xT 65)] #[3,3]),oO 67 (.move (nI 0))] [2,3,66,67] (.block 2 (.loop FM)) [] (sR [aB 4 true] [4] (.ret))) 
def IA:CC:=sR [bX 2 29 0 [0],bX 3 29 1 [1],aB 4 false] [2,3] (sQ [fO 7 29 2 0,lO 8 3 7,fO 9 29 3 0,lO 10 3 9,bB .neq 11 3 8 10 3,mO 12 11,fG 13 29 2 0 12 false,lG 14 3 13 12 false,oG 15 (.binOp .eql 3 (xT 14) (nI 0) 3) 12 false,pT 16 12 15] [2,3,16] (cD 16 (sR [fO 17 29 2 0,lO 18 3 17,fO 19 29 3 0,lO 20 3 19,bB .eql 21 3 18 20 3,aO 4 21] [4] (.ret)) (.skip)) [2,3] (sQ [fO 22 29 2 0,lO 23 3 22,bQ .neq 24 3 23 1 3,mO 25 24,fG 26 29 2 2 25 true,lG 27 27 26 25 true,oG 28 (bL 27 27) 25 true,fG 29 29 3 2 25 true,lG 30 27 29 25 true,oG 31 (bL 30 27) 25 true,oG 32 (bO .neq 3 28 31 3) 25 true,mG 33 32 25 true,fG 34 29 2 1 33 false,lG 35 26 34 33 false,fG 36 29 3 1 33 false,lG 37 26 36 33 false,oG 38 (cL 215 #[(xT 35),(xT 37)] #[26,26]) 33 false,oG 39 (.unOp .not 4 (xT 38)) 33 false,oG 40 (.pick (xT 33) (nB true) (xT 39)) 25 true,pF 41 25 40] [2,3,41] (cD 41 (sR [aB 4 false] [4] (.ret)) (.skip)) [2,3] (.stop HH)))
theorem MS:BM Tryz.prog 176 79 [(.tmp 4)] IA:=AH Tryz.func176
def K4:CC:=sR [bX 1 29 0 [0],aB 2 false] [1] (sR [fO 3 29 1 0,lO 4 3 3,bQ .eql 5 3 4 0 3,mO 6 5,fG 7 29 1 1 6 true,lG 8 26 7 6 true,oG 9 (bL 8 26) 6 true,fG 10 29 1 2 6 true,lG 11 27 10 6 true,oG 12 (bL 11 27) 6 true,oG 13 (bO .add 3 9 12 3) 6 true,oG 14 (.binOp .eql 3 (xT 13) (nI 0) 3) 6 true,pF 15 6 14,aO 2 15] [2] (.ret))
theorem RD:BM Tryz.prog 172 16 [(.tmp 2)] K4:=AH Tryz.func172
def N1:CC:=sR [bX 1 73 0 [0],aB 2 false] [1] (sR [oO 3 (.assign (.func 172))] [1,3] (.seq (.block 0 (sR [fO 5 73 1 0,lO 6 3 5,bQ .neq 7 3 6 1 3,mO 8 7,mG 9 3 8 true,fG 10 73 1 1 8 true,lG 11 29 10 8 true,oG 12 (.call { callee:=(.value (xT 9)),args:=#[(xT 11)],argTypes:=#[29] }) 8 true,mG 13 12 8 true,mG 14 3 13 true,fG 15 73 1 2 13 true,lG 16 29 15 13 true,oG 17 (.call { callee:=(.value (xT 14)),args:=#[(xT 16)],argTypes:=#[29] }) 13 true,oG 18 (.pick (xT 13) (xT 17) (nB false)) 8 true,oG 19 (.unOp .not 4 (xT 18)) 8 true,pF 20 8 19,aO 4 20] [1,4] (cD 4 (sR [aB 2 false] [2] (.ret)) (sR [fO 22 73 1 0,lO 23 3 22,bQ .neq 24 3 23 2 3,mO 25 24,fG 26 73 1 3 25 true,lG 27 69 26 25 true,oG 28 (bL 27 69) 25 true,fG 29 73 1 4 25 true,lG 30 70 29 25 true,oG 31 (bL 30 70) 25 true,oG 32 (bO .add 3 28 31 3) 25 true,oG 33 (.binOp .gtr 3 (xT 32) (nI 0) 3) 25 true,pF 34 25 33,aO 21 34] [1,21] (cD 21 (sR [aB 2 false] [2] (.ret)) (.skip)))))) (.keep [1] (sR [fO 35 73 1 0,lO 36 3 35,bQ .eql 37 3 36 3 3,mO 38 37,fG 39 73 1 5 38 false,lG 40 3 39 38 false,oG 41 (.binOp .eql 3 (xT 40) (nI 0) 3) 38 false,mG 42 41 38 false,fG 43 73 1 6 42 true,lG 44 71 43 42 true,oG 45 (bL 44 71) 42 true,oG 46 (.binOp .eql 3 (xT 45) (nI 0) 3) 42 true,oG 47 (.pick (xT 42) (xT 46) (nB false)) 38 false,pT 48 38 47,aO 2 48] [2] (.ret)))))
theorem Wj:BM Tryz.prog 127 49 [(.tmp 2)] N1:=AH Tryz.func127
def Mh:CC:=sR [bX 1 29 0 [0],aB 2 false] [1] (sR [fO 3 29 1 0,lO 4 3 3,bQ .neq 5 3 4 10 3,mO 6 5,lG 7 29 1 6 true,oG 8 (cL 22 #[(xT 7)] #[29]) 6 true,pF 9 6 8,aO 2 9] [2] (.ret))
theorem Ua:BM Tryz.prog 128 10 [(.tmp 2)] Mh:=AH Tryz.func128
def HM:CC:=sR [fO 40 127 4 2,lO 41 101 40,fO 42 127 4 1,lO 43 5 42,oO 44 (cL 173 #[(xT 41),(.const (.int .u64 0)),(xT 43)] #[101,101,5]),oO 45 (.binOp .neq 101 (xT 44) (.const (.int .u64 0)) 101),mO 46 45,fG 47 127 4 3 46 false,lG 48 101 47 46 false,fG 49 127 4 1 46 false,lG 50 5 49 46 false,oG 51 (cL 173 #[(xT 48),(.const (.int .u64 0)),(xT 50)] #[101,101,5]) 46 false,oG 52 (.binOp .neq 101 (xT 51) (.const (.int .u64 0)) 101) 46 false,pT 53 46 52] [0,5,6,7,53] (cD 53 (sR [aB 2 false] [2] (.ret)) (.skip))
def FP:CC:=sR [bB .lss 8 3 7 6 3] [0,5,6,7,8] (.seq (cD 8 (.skip) (.exit 0)) (.keep [0,5,6,7] (.seq (.block 1 (sR [mO 9 7,iO 10 69 5 7,lO 11 127 10,aL 4 127 [0],aO 3 9,sT 127 4 11] [0,3,4,5,6,7] (sQ [fO 12 127 4 0,lO 13 3 12,bQ .lss 14 3 13 0 3,mO 15 14,fG 16 127 4 0 15 false,lG 17 3 16 15 false,oG 18 (.binOp .geq 3 (xT 17) (nI 65535) 3) 15 false,pT 19 15 18,mO 20 19,mG 21 3 20 false,oG 22 (.binOp .gtr 3 (xT 21) (nI 0) 3) 20 false,mG 23 22 20 false,mG 24 0 23 true,mG 25 3 23 true,oG 26 (.binOp .sub 3 (xT 25) (nI 1) 3) 23 true,oG 27 (iA 69 24 26) 23 true,fG 28 127 27 0 23 true,lG 29 3 28 23 true,fG 30 127 4 0 23 true,lG 31 3 30 23 true,oG 32 (bO .geq 3 29 31 3) 23 true,oG 33 (.pick (xT 23) (xT 32) (nB false)) 20 false,pT 34 20 33,mO 35 34,fG 36 127 4 1 35 false,lG 37 5 36 35 false,oG 38 (.binOp .eql 5 (xT 37) (.const (.int .u8 0)) 5) 35 false,pT 39 35 38] [0,4,5,6,7,39] (cD 39 (sR [aB 2 false] [2] (.ret)) (.skip)) [0,4,5,6,7] (.stop HM)))) (.keep [0,5,6,7] (.reg [bQ .add 54 3 7 1 3,mO 7 54] [0,5,6,7]))))) 
def L3:CC:=sR [aB 2 false] [0] (sQ [mO 5 0,bN 6 5 69,oO 7 (.move (nI 0))] [0,5,6,7] (.block 0 (.loop FP)) [] (sR [aB 2 true] [2] (.ret)))
theorem Uk:BM Tryz.prog 129 55 [(.tmp 2)] L3:=AH Tryz.func129
def GC:CC:=sR [bB .lss 10 3 9 8 3] [0,1,7,8,9,10] (.seq (cD 10 (.skip) (.exit 0)) (.keep [0,1,7,8,9] (.seq (.block 1 (sR [mO 11 9,iO 12 70 7 9,lO 13 131 12,aL 6 131 [0],aO 5 11,sT 131 6 13] [0,1,5,6,7,8,9] (sR [fO 14 131 6 0,lO 15 3 14,bQ .lss 16 3 15 0 3,mO 17 16,fG 18 131 6 0 17 false,lG 19 3 18 17 false,oG 20 (.binOp .geq 3 (xT 19) (nI 65535) 3) 17 false,pT 21 17 20,mO 22 21,mG 23 5 22 false,oG 24 (.binOp .gtr 3 (xT 23) (nI 0) 3) 22 false,mG 25 24 22 false,mG 26 0 25 true,mG 27 5 25 true,oG 28 (.binOp .sub 3 (xT 27) (nI 1) 3) 25 true,oG 29 (iA 70 26 28) 25 true,fG 30 131 29 0 25 true,lG 31 3 30 25 true,fG 32 131 6 0 25 true,lG 33 3 32 25 true,oG 34 (bO .geq 3 31 33 3) 25 true,oG 35 (.pick (xT 25) (xT 34) (nB false)) 22 false,pT 36 22 35,mO 37 36,fG 38 131 6 1 37 false,fG 39 73 38 0 37 false,lG 40 3 39 37 false,oG 41 (.binOp .eql 3 (xT 40) (nI 0) 3) 37 false,pT 42 37 41,mO 43 42,fG 44 131 6 1 43 false,lG 45 73 44 43 false,mG 46 1 43 false,oG 47 (cL 91 #[(xT 45),(xT 46)] #[73,3]) 43 false,oG 48 (.unOp .not 4 (xT 47)) 43 false,pT 49 43 48] [0,1,7,8,9,49] (cD 49 (sR [aB 4 false] [4] (.ret)) (.skip))))) (.keep [0,1,7,8,9] (.reg [bQ .add 50 3 9 1 3,mO 9 50] [0,1,7,8,9]))))) 
def Om:CC:=sR [aB 4 false] [0,1] (sQ [mO 7 0,bN 8 7 70,oO 9 (.move (nI 0))] [0,1,7,8,9] (.block 0 (.loop GC)) [] (sR [aB 4 true] [4] (.ret)))
theorem V0:BM Tryz.prog 130 51 [(.tmp 4)] Om:=AH Tryz.func130
def PD:CC:=sR [bX 3 29 1 [0],aB 4 false] [0,3] (sR [mO 5 0,lO 6 29 3,oO 7 (.buildSlice 27 1 #[(0,(xT 6))]),oO 8 (.build 29 #[(0,(xT 5)),(2,(xT 7))]),cA 9 22 8 29,aO 4 9] [4] (.ret))
theorem Yz:BM Tryz.prog 213 10 [(.tmp 4)] PD:=AH Tryz.func213
def KO:CC:=sR [bX 3 73 1 [0],aB 4 false] [0,3] (.seq (.block 0 (sR [mO 6 0,cA 7 97 6 3,mO 8 7,fG 9 73 3 0 8 false,lG 10 3 9 8 false,oG 11 (.binOp .eql 3 (xT 10) (nI 0) 3) 8 false,pT 12 8 11,aO 5 12] [0,3,5] (cD 5 (sR [aB 4 false] [4] (.ret)) (sR [mO 14 0,bQ .eql 15 3 14 8 3,mO 16 15,fG 17 73 3 0 16 false,lG 18 3 17 16 false,oG 19 (.binOp .eql 3 (xT 18) (nI 2) 3) 16 false,pT 20 16 19,aO 13 20] [3,13] (cD 13 (sR [aB 4 true] [4] (.ret)) (.skip)))))) (.keep [3] (sR [fO 21 73 3 0,lO 22 3 21,bQ .eql 23 3 22 1 3,mO 24 23,fG 25 73 3 1 24 true,fG 26 29 25 0 24 true,lG 27 3 26 24 true,oG 28 (.binOp .eql 3 (xT 27) (nI 1) 3) 24 true,pF 29 24 28,mO 30 29,fG 31 73 3 2 30 true,fG 32 29 31 0 30 true,lG 33 3 32 30 true,oG 34 (.binOp .eql 3 (xT 33) (nI 1) 3) 30 true,pF 35 30 34,aO 4 35] [4] (.ret))))
theorem Rt:BM Tryz.prog 214 36 [(.tmp 4)] KO:=AH Tryz.func214
def Og:CC:=sR [bX 2 29 0 [0],aB 3 false] [1,2] (sR [lO 4 3 1,lO 5 29 2,cB 6 213 4 5 3 29,oO 7 (.unOp .not 4 (xT 6)),aO 3 7] [3] (.ret))
theorem Wr:BM Tryz.prog 212 8 [(.tmp 3)] Og:=AH Tryz.func212
def AX:CC:=sR [bB .lss 9 3 8 7 3] [0,1,7,8,9] (.seq (cD 9 (.skip) (.exit 0)) (.keep [0,1,7,8] (.seq (.block 1 (sR [mO 10 8,aO 5 10] [0,1,5,7,8] (sR [mO 11 1,mO 12 0,mO 13 5,iO 14 27 12 13,lO 15 29 14,oO 16 (.call { callee:=(.value (xT 11)),args:=#[(xT 15)],argTypes:=#[29] })] [0,1,5,7,8,16] (cD 16 (sR [mO 17 5,aO 4 17] [4] (.ret)) (.skip))))) (.keep [0,1,7,8] (.reg [bQ .add 18 3 8 1 3,mO 8 18] [0,1,7,8]))))) 
def B7:CC:=sR [aI 4 0] [0,1] (sQ [mO 6 0,bN 7 6 27,oO 8 (.move (nI 0))] [0,1,7,8] (.block 0 (.loop AX)) [] (sR [oO 4 (.assign (.const (.int .i64 (-1))))] [4] (.ret)))
theorem Ek:BM Tryz.prog 238 19 [(.tmp 4)] B7:=AH Tryz.func238
def BS:CC:=sR [aB 4 false] [0,1] (sR [mO 5 0,mO 6 1,cB 7 238 5 6 27 62,bQ .geq 8 3 7 0 3,aO 4 8] [4] (.ret))
theorem DW:BM Tryz.prog 211 9 [(.tmp 4)] BS:=AH Tryz.func211
def IP:CC:=.seq (sR [fO 42 133 4 1,lO 43 3 42,bQ .eql 44 3 43 0 3,mO 45 44,fG 46 133 4 2 45 true,lG 47 27 46 45 true,oG 48 (bL 47 27) 45 true,oG 49 (.binOp .gtr 3 (xT 48) (nI 0) 3) 45 true,pF 50 45 49,mO 51 50,fG 52 133 4 3 51 true,lG 53 73 52 51 true,oG 54 (cL 91 #[(xT 53),(nI 1)] #[73,3]) 51 true,pF 55 51 54,mO 56 55,fG 57 133 4 3 56 true,fG 58 73 57 0 56 true,lG 59 3 58 56 true,oG 60 (.binOp .eql 3 (xT 59) (nI 0) 3) 56 true,pF 61 56 60,mO 62 61,fG 63 133 4 2 62 true,lG 64 27 63 62 true,oG 65 (.makeFunc (.func 212) #[] #[(xT 3)]) 62 true,oG 66 (cL 211 #[(xT 64),(xT 65)] #[27,62]) 62 true,oG 67 (.unOp .not 4 (xT 66)) 62 true,pF 68 62 67,aO 6 68] [6] (.ret)) (.exit 0) 
def RY:CC:=sR [bX 3 3 0 [0],bX 4 133 1 [1],aB 6 false] [2,3,4] (sQ [fO 7 133 4 0,lO 8 3 7] [2,3,4,8] (.block 0 (.seq (.block 4 (.seq (.block 3 (.block 2 (.seq (.block 1 (.seq (sQ [bQ .eql 10 3 8 0 3,aO 9 10] [2,3,4,8,9] (cD 9 (.exit 1) (.skip)) [2,3,4,8] (sQ [bQ .eql 12 3 8 1 3,aO 11 12] [2,3,4,8,11] (cD 11 (.exit 2) (.skip)) [2,3,4,8] (sQ [bQ .eql 14 3 8 2 3,aO 13 14] [2,3,4,8,13] (cD 13 (.exit 3) (.skip)) [2,3,4,8] (sR [bQ .eql 16 3 8 3 3,aO 15 16] [2,3,4,15] (cD 15 (.exit 4) (.skip)))))) (.exit 0))) (.keep [4] (.seq (sR [fO 17 133 4 1,lO 18 3 17,bQ .geq 19 3 18 1 3,mO 20 19,fG 21 133 4 1 20 true,lG 22 3 21 20 true,oG 23 (.binOp .leq 3 (xT 22) (nI 1048576) 3) 20 true,pF 24 20 23,mO 25 24,fG 26 133 4 2 25 true,lG 27 27 26 25 true,oG 28 (bL 27 27) 25 true,oG 29 (.binOp .eql 3 (xT 28) (nI 0) 3) 25 true,pF 30 25 29,mO 31 30,fG 32 133 4 3 31 true,lG 33 73 32 31 true,oG 34 (cL 91 #[(xT 33),(nI 1)] #[73,3]) 31 true,pF 35 31 34,mO 36 35,fG 37 133 4 3 36 true,fG 38 73 37 0 36 true,lG 39 3 38 36 true,oG 40 (.binOp .eql 3 (xT 39) (nI 0) 3) 36 true,pF 41 36 40,aO 6 41] [6] (.ret)) (.exit 0)))))) (.keep [3,4] (.stop IP)))) (.keep [2,3,4] (.seq (sR [fO 69 133 4 1,lO 70 3 69,bQ .eql 71 3 70 0 3,mO 72 71,fG 73 133 4 2 72 true,lG 74 27 73 72 true,oG 75 (bL 74 27) 72 true,oG 76 (.binOp .eql 3 (xT 75) (nI 0) 3) 72 true,pF 77 72 76,mO 78 77,lG 79 3 3 78 true,fG 80 133 4 3 78 true,lG 81 73 80 78 true,oG 82 (cL 214 #[(xT 79),(xT 81)] #[3,73]) 78 true,pF 83 78 82,mO 84 83,fG 85 133 4 3 84 true,lG 86 73 85 84 true,mG 87 2 84 true,oG 88 (cL 91 #[(xT 86),(xT 87)] #[73,3]) 84 true,pF 89 84 88,aO 6 89] [6] (.ret)) (.exit 0))))) [] (sR [aB 6 false] [6] (.ret)))
theorem ZQ:BM Tryz.prog 174 90 [(.tmp 6)] RY:=AH Tryz.func174
def Ev:CC:=sR [fO 32 133 7 0,lO 33 3 32,bQ .neq 34 3 33 1 3] [4,5,8,10,11,12,34] (cD 34 (.reg [mO 35 5,mO 36 8,bB .add 37 3 35 36 3,oO 38 (bC .min #[(xT 37),(nI 1048576)] #[3,3]),aO 5 38] [4,5,10,11,12]) (.skip))
def Ge:CC:=sQ [fO 25 133 7 0,lO 26 3 25,bQ .neq 27 3 26 2 3] [4,5,7,8,10,11,12,27] (cD 27 (.reg [mO 28 4,mO 29 8,bB .add 30 3 28 29 3,oO 31 (bC .min #[(xT 30),(nI 1048576)] #[3,3]),aO 4 31] [4,5,7,8,10,11,12]) (.skip)) [4,5,7,8,10,11,12] Ev
def Dz:CC:=sR [bB .lss 13 3 12 11 3] [4,5,10,11,12,13] (.seq (cD 13 (.skip) (.exit 0)) (.keep [4,5,10,11,12] (.seq (.block 1 (sR [iO 14 71 10 12,lO 15 133 14,aL 7 133 [1],sT 133 7 15] [4,5,7,10,11,12] (sR [fO 16 133 7 1,lO 17 3 16,fO 18 133 7 2,lO 19 27 18,bN 20 19 27,bB .add 21 3 17 20 3,aO 8 21] [4,5,7,8,10,11,12] (sQ [fO 22 133 7 0,lO 23 3 22,bQ .eql 24 3 23 3 3] [4,5,7,8,10,11,12,24] (cD 24 (.reg [aI 8 1] [4,5,7,8,10,11,12]) (.skip)) [4,5,7,8,10,11,12] Ge)))) (.keep [4,5,10,11,12] (.reg [bQ .add 39 3 12 1 3,mO 12 39] [4,5,10,11,12]))))) 
def J8:CC:=sR [bX 1 73 0 [0],aI 2 0,aI 3 0] [1] (sR [aI 4 0,aI 5 0] [1,4,5] (sQ [fO 9 73 1 6,lO 10 71 9,bN 11 10 71,oO 12 (.move (nI 0))] [4,5,10,11,12] (.block 0 (.loop Dz)) [4,5] (sR [mO 40 4,mO 41 5,aO 2 40,aO 3 41] [2,3] (.ret))))
theorem QZ:BM Tryz.prog 175 42 [(.tmp 2),(.tmp 3)] J8:=AH Tryz.func175
def Hq:CC:=sR [bB .lss 13 3 12 11 3] [1,2,10,11,12,13] (.seq (cD 13 (.skip) (.exit 0)) (.keep [1,2,10,11,12] (.seq (.block 1 (sR [iO 14 71 10 12,lO 15 133 14,aL 6 133 [1],sT 133 6 15] [1,2,6,10,11,12] (sR [fO 16 73 2 5,lO 17 3 16,lO 18 133 6,mO 19 1,cE 20 174 17 18 19 3 133 3,oO 21 (.unOp .not 4 (xT 20))] [1,2,10,11,12,21] (cD 21 (sR [aB 4 false] [4] (.ret)) (.skip))))) (.keep [1,2,10,11,12] (.reg [bQ .add 22 3 12 1 3,mO 12 22] [1,2,10,11,12]))))) 
def QB:CC:=sR [bX 2 73 0 [0],aB 4 false] [1,2] (sQ [fO 9 73 2 6,lO 10 71 9,bN 11 10 71,oO 12 (.move (nI 0))] [1,2,10,11,12] (.block 0 (.loop Hq)) [2] (sR [lO 24 73 2,cA 25 175 24 73,mO 23 25,xO 26 23 0,xO 27 23 1,aO 7 26,aO 8 27] [7,8] (sR [mO 28 7,bQ .lss 29 3 28 1048576 3,mO 30 29,mG 31 8 30 true,oG 32 (.binOp .lss 3 (xT 31) (nI 1048576) 3) 30 true,pF 33 30 32,aO 4 33] [4] (.ret))))
theorem XQ:BM Tryz.prog 131 34 [(.tmp 4)] QB:=AH Tryz.func131
def Mf:CC:=sR [bX 2 73 0 [0],aB 4 false] [1,2] (sQ [lO 5 73 2,cA 6 127 5 73,oO 7 (.unOp .not 4 (xT 6)),mO 8 7,mG 9 1 8 false,oG 10 (.binOp .eql 3 (xT 9) (nI 0) 3) 8 false,pT 11 8 10] [1,2,11] (cD 11 (sR [aB 4 false] [4] (.ret)) (.skip)) [1,2] (sQ [fO 12 73 2 0,lO 13 3 12] [1,2,13] (.block 0 (sR [bQ .eql 15 3 13 0 3,aO 14 15] [1,2,13,14] (cD 14 (sR [aB 4 true] [4] (.ret)) (sR [bQ .eql 17 3 13 1 3,aO 16 17] [1,2,13,16] (cD 16 (sR [fO 18 73 2 1,lO 19 29 18,cA 20 128 19 29,mO 21 20,fG 22 73 2 2 21 true,lG 23 29 22 21 true,oG 24 (cL 128 #[(xT 23)] #[29]) 21 true,pF 25 21 24,aO 4 25] [4] (.ret)) (sR [bQ .eql 27 3 13 2 3,aO 26 27] [1,2,13,26] (cD 26 (sR [fO 28 73 2 3,lO 29 69 28,cA 30 129 29 69,mO 31 30,fG 32 73 2 4 31 true,lG 33 70 32 31 true,mG 34 1 31 true,oG 35 (.binOp .sub 3 (xT 34) (nI 1) 3) 31 true,oG 36 (cL 130 #[(xT 33),(xT 35)] #[70,3]) 31 true,pF 37 31 36,aO 4 37] [4] (.ret)) (sR [bQ .eql 39 3 13 3 3,aO 38 39] [1,2,38] (cD 38 (sR [fO 40 73 2 5,lO 41 3 40,cA 42 70 41 3,mO 43 42,lG 44 73 2 43 true,mG 45 1 43 true,oG 46 (.binOp .sub 3 (xT 45) (nI 1) 3) 43 true,oG 47 (cL 131 #[(xT 44),(xT 46)] #[73,3]) 43 true,pF 48 43 47,aO 4 48] [4] (.ret)) (.skip)))))))))) [] (sR [aB 4 false] [4] (.ret))))
theorem TT:BM Tryz.prog 91 49 [(.tmp 4)] Mf:=AH Tryz.func91
def M7:CC:=sR [bX 1 73 0 [0],aB 2 false] [1] (sR [lO 3 73 1,oO 4 (cL 91 #[(xT 3),(nI 64)] #[73,3]),aO 2 4] [2] (.ret))
theorem Tv:BM Tryz.prog 55 5 [(.tmp 2)] M7:=AH Tryz.func55
@[simp] theorem Ad3:Tryz.prog.underlying 9=some .string:=by kernel_rfl
@[simp] theorem AcA:Tryz.prog.underlying 37=some (.slice 5):=by kernel_rfl
@[simp] theorem Aao:Tryz.prog.underlying 137=some (.int .u64):=by kernel_rfl
@[simp] theorem Aai:Tryz.prog.underlying 184=some (.array 24 5):=by kernel_rfl
@[simp] theorem Aak:Tryz.prog.underlying 230=some (.array 65 5):=by kernel_rfl
@[simp] theorem Ad2:B2 Tryz.prog 9=some 1:=by kernel_rfl
@[simp] theorem Ab1:B2 Tryz.prog 37=some 1:=by kernel_rfl
@[simp] theorem Acd:Cu Tryz.prog 9=some false:=by kernel_rfl
@[simp] theorem yZ:Cu Tryz.prog 37=some false:=by kernel_rfl
@[simp] theorem Aav:A1 Tryz.prog 5=some (Value.int IntKind.u8 0):=by kernel_rfl
@[simp] theorem vu:A1 Tryz.prog 39=some (Value.agg #[Value.pointer none,Value.slice none 0 0]):=by kernel_rfl
@[simp] theorem rD:A1 Tryz.prog 184=some (Value.agg #[Value.int IntKind.u8 0,Value.int IntKind.u8 0,Value.int IntKind.u8 0,Value.int IntKind.u8 0,Value.int IntKind.u8 0,Value.int IntKind.u8 0,Value.int IntKind.u8 0,Value.int IntKind.u8 0,Value.int IntKind.u8 0,Value.int IntKind.u8 0,Value.int IntKind.u8 0,Value.int IntKind.u8 0,Value.int IntKind.u8 0,Value.int IntKind.u8 0,Value.int IntKind.u8 0,Value.int IntKind.u8 0,Value.int IntKind.u8 0,Value.int IntKind.u8 0,Value.int IntKind.u8 0,Value.int IntKind.u8 0,Value.int IntKind.u8 0,Value.int IntKind.u8 0,Value.int IntKind.u8 0,Value.int IntKind.u8 0]):=by kernel_rfl
@[simp] theorem s8:A1 Tryz.prog 230=some (Value.agg #[Value.int IntKind.u8 0,Value.int IntKind.u8 0,Value.int IntKind.u8 0,Value.int IntKind.u8 0,Value.int IntKind.u8 0,Value.int IntKind.u8 0,Value.int IntKind.u8 0,Value.int IntKind.u8 0,Value.int IntKind.u8 0,Value.int IntKind.u8 0,Value.int IntKind.u8 0,Value.int IntKind.u8 0,Value.int IntKind.u8 0,Value.int IntKind.u8 0,Value.int IntKind.u8 0,Value.int IntKind.u8 0,Value.int IntKind.u8 0,Value.int IntKind.u8 0,Value.int IntKind.u8 0,Value.int IntKind.u8 0,Value.int IntKind.u8 0,Value.int IntKind.u8 0,Value.int IntKind.u8 0,Value.int IntKind.u8 0,Value.int IntKind.u8 0,Value.int IntKind.u8 0,Value.int IntKind.u8 0,Value.int IntKind.u8 0,Value.int IntKind.u8 0,Value.int IntKind.u8 0,Value.int IntKind.u8 0,Value.int IntKind.u8 0,Value.int IntKind.u8 0,Value.int IntKind.u8 0,Value.int IntKind.u8 0,Value.int IntKind.u8 0,Value.int IntKind.u8 0,Value.int IntKind.u8 0,Value.int IntKind.u8 0,Value.int IntKind.u8 0,Value.int IntKind.u8 0,Value.int IntKind.u8 0,Value.int IntKind.u8 0,Value.int IntKind.u8 0,Value.int IntKind.u8 0,Value.int IntKind.u8 0,Value.int IntKind.u8 0,Value.int IntKind.u8 0,Value.int IntKind.u8 0,Value.int IntKind.u8 0,Value.int IntKind.u8 0,Value.int IntKind.u8 0,Value.int IntKind.u8 0,Value.int IntKind.u8 0,Value.int IntKind.u8 0,Value.int IntKind.u8 0,Value.int IntKind.u8 0,Value.int IntKind.u8 0,Value.int IntKind.u8 0,Value.int IntKind.u8 0,Value.int IntKind.u8 0,Value.int IntKind.u8 0,Value.int IntKind.u8 0,Value.int IntKind.u8 0,Value.int IntKind.u8 0]):=by kernel_rfl
@[simp] theorem vD:BF Tryz.prog 5=some 1:=by kernel_rfl
@[simp] theorem dX:Ah Tryz.prog 39 1=some 1:=by kernel_rfl
@[simp] theorem hU:Ah Tryz.prog 92 0=some 0:=by kernel_rfl
@[simp] theorem dw:Ah Tryz.prog 92 1=some 1:=by kernel_rfl
@[simp] theorem tY (ps:List (Nat × A)):Bw Tryz.prog 92 ps=(BU (fun i=>([(0,1),(1,1)]:List (Nat × Nat))[i]?) [A.v (Value.string ByteArray.empty),A.v (Value.int i64 0)] ps).map A.agg:=by kernel_rfl
def DU:CC:=sR [oO 4 (.assign (.const .nilIface))] [0,1] (sR [mO 5 0,cA 6 14 5 36] [0,1] (sR [mO 7 0,mO 8 0,nC 9 8,fO 10 39 9 1,lO 11 37 10,mO 12 1,oO 13 (.buildSlice 37 1 #[(0,(xT 12))]),aP 14 11 13 37 37 [1],nC 15 7,fO 16 39 15 1,sT 37 16 14] [] (sR [oO 4 (.assign (.const .nilIface))] [4] (.ret))))
theorem Gr:BM Tryz.prog 79 17 [(.tmp 4)] DU:=AH Tryz.func79
def C9:CC:=sR [aI 4 0,oO 5 (.assign (.const .nilIface))] [0,1] (sR [mO 6 0,cA 7 14 6 36] [0,1] (sR [mO 8 0,mO 9 0,nC 10 9,fO 11 39 10 1,lO 12 37 11,mO 13 1,aP 14 12 13 37 9 [1],nC 15 8,fO 16 39 15 1,sT 37 16 14] [1] (sR [mO 17 1,bN 18 17 9,aO 4 18,oO 5 (.assign (.const .nilIface))] [4,5] (.ret))))
theorem F6:BM Tryz.prog 8 19 [(.tmp 4),(.tmp 5)] C9:=AH Tryz.func8
def CB:CC:=sR [aB 2 false] [0] (sR [mO 3 0,mO 4 0,bQ .sub 5 3 4 1 3,bB .and 6 3 3 5 3,bQ .eql 7 3 6 0 3,aO 2 7] [2] (.ret))
theorem Fl:BM Tryz.prog 148 8 [(.tmp 2)] CB:=AH Tryz.func148
def BQ:CC:=sQ [mO 44 1,mO 45 15,bB .geq 46 101 44 45 101] [0,1,3,4,10,11,12,13,14,15,16,46] (cD 46 (.skip) (.exit 0)) [0,1,3,4,10,11,12,13,14,15,16] (.block 1 (sR [mO 47 13,bQ .sub 48 3 47 1 3,aO 13 48] [0,1,3,4,10,11,12,13,14,15,16] (sR [mO 49 13,mO 50 1,mO 51 16,bB .and 52 137 50 51 137,oO 53 (.index 9 (.const (.string { data:=#[48,49,50,51,52,53,54,55,56,57,97,98,99,100,101,102,103,104,105,106,107,108,109,110,111,112,113,114,115,116,117,118,119,120,121,122] })) (xT 52)),iO 54 230 12 49,sT 5 54 53] [0,1,3,4,10,11,12,13,14,15,16] (.reg [mO 55 1,mO 56 14,bB .shr 57 101 55 56 137,aO 1 57] [0,1,3,4,10,11,12,13,14,15,16]))))
def Fx:CC:=sQ [mO 66 1,mO 67 17,bB .geq 68 101 66 67 101] [0,1,3,4,10,11,12,13,17,68] (cD 68 (.skip) (.exit 2)) [0,1,3,4,10,11,12,13,17] (.block 3 (sR [mO 69 13,bQ .sub 70 3 69 1 3,aO 13 70] [0,1,3,4,10,11,12,13,17] (sR [mO 71 1,mO 72 17,bB .quo 73 101 71 72 101,aO 18 73] [0,1,3,4,10,11,12,13,17,18] (sR [mO 74 13,mO 75 1,mO 76 18,mO 77 17,bB .mul 78 101 76 77 101,bB .sub 79 101 75 78 101,oO 80 (.index 9 (.const (.string { data:=#[48,49,50,51,52,53,54,55,56,57,97,98,99,100,101,102,103,104,105,106,107,108,109,110,111,112,113,114,115,116,117,118,119,120,121,122] })) (xT 79)),iO 81 230 12 74,sT 5 81 80] [0,3,4,10,11,12,13,17,18] (.reg [mO 82 18,aO 1 82] [0,1,3,4,10,11,12,13,17])))))
def C6:CC:=sQ [mO 94 4] [0,10,11,12,13,94] (cD 94 (sR [mO 95 0,mO 96 13,oO 97 (.slice 230 (xT 12) (some (xT 96)) none none),aP 98 95 97 37 37 [1],aO 10 98] [10,11] (.ret)) (.skip)) [10,12,13] (.stop (sR [mO 99 13,oO 100 (.slice 230 (xT 12) (some (xT 99)) none none),oO 101 (.convert 37 9 (xT 100)),aO 11 101] [10,11] (.ret)))
def C4:CC:=sQ [mO 89 3] [0,4,10,11,12,13,89] (cD 89 (sR [mO 90 13,bQ .sub 91 3 90 1 3,aO 13 91] [0,4,10,11,12,13] (.reg [mO 92 13,iO 93 230 12 92,oS (.store 5 (xT 93) (.const (.int .u8 45)))] [0,4,10,11,12,13])) (.skip)) [0,4,10,11,12,13] C6
def CR:CC:=sQ [mO 33 2,cA 34 148 33 3] [0,1,2,3,4,10,11,12,13,34] (cD 34 (sR [mO 35 2,oO 36 (.convert 3 137 (xT 35)),cA 37 149 36 137,oO 38 (.convert 3 137 (xT 37)),aO 14 38] [0,1,2,3,4,10,11,12,13,14] (sR [mO 39 2,oO 40 (.convert 3 101 (xT 39)),aO 15 40] [0,1,2,3,4,10,11,12,13,14,15] (sR [mO 41 2,oO 42 (.convert 3 137 (xT 41)),oO 43 (.binOp .sub 137 (xT 42) (.const (.int .u64 1)) 137),aO 16 43] [0,1,3,4,10,11,12,13,14,15,16] (.seq (.block 0 (.loop BQ)) (.keep [0,1,3,4,10,11,12,13] (sR [mO 58 13,bQ .sub 59 3 58 1 3,aO 13 59] [0,1,3,4,10,11,12,13] (.reg [mO 60 13,mO 61 1,oO 62 (.index 9 (.const (.string { data:=#[48,49,50,51,52,53,54,55,56,57,97,98,99,100,101,102,103,104,105,106,107,108,109,110,111,112,113,114,115,116,117,118,119,120,121,122] })) (xT 61)),iO 63 230 12 60,sT 5 63 62] [0,3,4,10,11,12,13]))))))) (sR [mO 64 2,oO 65 (.convert 3 101 (xT 64)),aO 17 65] [0,1,3,4,10,11,12,13,17] (.seq (.block 2 (.loop Fx)) (.keep [0,1,3,4,10,11,12,13] (sR [mO 83 13,bQ .sub 84 3 83 1 3,aO 13 84] [0,1,3,4,10,11,12,13] (.reg [mO 85 13,mO 86 1,oO 87 (.index 9 (.const (.string { data:=#[48,49,50,51,52,53,54,55,56,57,97,98,99,100,101,102,103,104,105,106,107,108,109,110,111,112,113,114,115,116,117,118,119,120,121,122] })) (xT 86)),iO 88 230 12 85,sT 5 88 87] [0,3,4,10,11,12,13])))))) [0,3,4,10,11,12,13] C4
def CQ:CC:=sR [aL 12 230 [0]] [0,1,2,3,4,10,11,12] (sR [aI 13 65] [0,1,2,3,4,10,11,12,13] (sQ [mO 30 3] [0,1,2,3,4,10,11,12,13,30] (cD 30 (.reg [mO 31 1,oO 32 (.unOp .neg 101 (xT 31)),aO 1 32] [0,1,2,3,4,10,11,12,13]) (.skip)) [0,1,2,3,4,10,11,12,13] CR)) 
def Dg:CC:=sR [aN 10,oO 11 (.assign (.const (.string { data:=#[] })))] [0,1,2,3,4,10,11] (sQ [mO 19 2,bQ .lss 20 3 19 2 3,mO 21 20,mG 22 2 21 false,oG 23 (.binOp .eql 3 (xT 22) (nI 10) 3) 21 false,pT 24 21 23,mO 25 24,mG 26 2 25 false,oG 27 (.binOp .gtr 3 (xT 26) (nI 36) 3) 25 false,pT 28 25 27] [0,1,2,3,4,10,11,28] (cD 28 (.reg [oO 29 (.makeInterface 9 (.const (.string { data:=#[115,116,114,99,111,110,118,58,32,105,108,108,101,103,97,108,32,65,112,112,101,110,100,73,110,116,47,70,111,114,109,97,116,73,110,116,32,98,97,115,101] }))),oS (.panic (xT 29))] [0,1,2,3,4,10,11]) (.skip)) [0,1,2,3,4,10,11] CQ)
theorem F4:BM Tryz.prog 112 102 [(.tmp 10),(.tmp 11)] Dg:=AH Tryz.func112
def Db:CC:=sR [oO 4 (.assign (.const (.string { data:=#[] })))] [0,1] (sQ [mO 9 1,bQ .eql 10 3 9 10 3] [0,1,10] (cD 10 (sQ [mO 11 0,oO 12 (.binOp .lss 101 (xT 11) (.const (.int .u64 100)) 101)] [0,12] (cD 12 (sR [mO 13 0,oO 14 (.convert 101 3 (xT 13)),cA 15 109 14 3,aO 4 15] [4] (.ret)) (.skip)) [0] (sR [aL 5 184 [0]] [0,5] (sR [mO 16 0,cA 17 110 16 101,aO 6 17] [0,5,6] (sR [mO 18 6,oO 19 (.slice 184 (xT 5) none (some (xT 18)) none),mO 20 0,cB 21 111 19 20 37 101] [5,6] (sR [mO 22 6,oO 23 (.slice 184 (xT 5) none (some (xT 22)) none),oO 24 (.convert 37 9 (xT 23)),aO 4 24] [4] (.ret)))))) (.skip)) [0,1] (sR [mO 26 0,mO 27 1,oO 28 (cL 112 #[nS,(xT 26),(xT 27),(nB false),(nB false)] #[37,101,3,4,4]),mO 25 28,xO 29 25 0,xO 30 25 1,aO 7 29,aO 8 30] [8] (sR [mO 31 8,aO 4 31] [4] (.ret))))
theorem FZ:BM Tryz.prog 108 32 [(.tmp 4)] Db:=AH Tryz.func108
def F8:CC:=sR [oO 4 (.assign (.const (.string { data:=#[] })))] [0,1] (sR [mO 5 0,mO 6 1,cB 7 108 5 6 101 3,aO 4 7] [4] (.ret))
theorem JK:BM Tryz.prog 78 8 [(.tmp 4)] F8:=AH Tryz.func78
def FQ:CC:=sR [bB .lss 9 3 8 7 3] [0,6,7,8,9] (.seq (cD 9 (.skip) (.exit 0)) (.keep [0,6,7,8] (.seq (.block 1 (sR [mO 10 8,iO 11 27 6 8,lO 12 29 11,aL 5 29 [1],aO 4 10,sT 29 5 12] [0,4,5,6,7,8] (sQ [mO 13 4,bQ .gtr 14 3 13 0 3] [0,5,6,7,8,14] (cD 14 (.reg [mO 15 0,oO 16 (cL 79 #[(xT 15),(.const (.int .u8 44))] #[36,5])] [0,5,6,7,8]) (.skip)) [0,5,6,7,8] (.reg [mO 17 0,lO 18 29 5,cB 19 48 17 18 36 29] [0,6,7,8])))) (.keep [0,6,7,8] (.reg [bQ .add 20 3 8 1 3,mO 8 20] [0,6,7,8]))))) 
def PM:CC:=sR [mO 6 1,bN 7 6 27,oO 8 (.move (nI 0))] [0,6,7,8] (.block 0 (.loop FQ))
theorem Xm:BM Tryz.prog 80 21 [] PM:=AH Tryz.func80
def E6:CC:=sR [bB .lss 35 3 34 33 3] [0,3,32,33,34,35] (.seq (cD 35 (.skip) (.exit 1)) (.keep [0,3,32,33,34] (.seq (.block 2 (sR [mO 36 34,iO 37 26 32 34,lO 38 101 37,aO 4 36,aO 5 38] [0,3,4,5,32,33,34] (sQ [mO 39 4,bQ .gtr 40 3 39 0 3] [0,3,5,32,33,34,40] (cD 40 (.reg [mO 41 0,oO 42 (cL 79 #[(xT 41),(.const (.int .u8 44))] #[36,5])] [0,3,5,32,33,34]) (.skip)) [0,3,5,32,33,34] (.reg [mO 43 0,mO 44 5,oO 45 (cL 78 #[(xT 44),(nI 16)] #[101,3]),cB 46 8 43 45 36 9] [0,3,32,33,34])))) (.keep [0,3,32,33,34] (.reg [bQ .add 47 3 34 1 3,mO 34 47] [0,3,32,33,34]))))) 
def EK:CC:=sR [bX 3 29 1 [1]] [0,3] (.block 0 (sR [fO 9 29 3 0,lO 10 3 9,bQ .eql 11 3 10 10 3,mO 12 11,fG 13 29 3 1 12 true,lG 14 26 13 12 true,oG 15 (bL 14 26) 12 true,oG 16 (.binOp .eql 3 (xT 15) (nI 1) 3) 12 true,pF 17 12 16,aO 8 17] [0,3,8] (cD 8 (.reg [mO 18 0,fO 19 29 3 1,lO 20 26 19,oO 21 (.indexAddr 26 (xT 20) (nI 0)),lO 22 101 21,oO 23 (cL 78 #[(xT 22),(nI 16)] #[101,3]),cB 24 8 18 23 36 9] []) (sR [fO 26 29 3 0,lO 27 3 26,bQ .eql 28 3 27 1 3,aO 25 28] [0,3,25] (cD 25 (sR [mO 29 0,oO 30 (cL 79 #[(xT 29),(.const (.int .u8 123))] #[36,5])] [0,3] (sQ [fO 31 29 3 1,lO 32 26 31,bN 33 32 26,oO 34 (.move (nI 0))] [0,3,32,33,34] (.block 1 (.loop E6)) [0,3] (sQ [fO 48 29 3 2,lO 49 27 48,bN 50 49 27,bQ .gtr 51 3 50 0 3] [0,3,51] (cD 51 (.reg [mO 52 0,oO 53 (cL 79 #[(xT 52),(.const (.int .u8 124))] #[36,5])] [0,3]) (.skip)) [0,3] (sR [mO 54 0,fO 55 29 3 2,lO 56 27 55,cB 57 80 54 56 36 27] [0] (.reg [mO 58 0,oO 59 (cL 79 #[(xT 58),(.const (.int .u8 125))] #[36,5])] []))))) (sR [fO 61 29 3 0,lO 62 3 61,cA 63 70 62 3,aO 60 63] [0,3,60] (cD 60 (sR [mO 64 0,fO 65 29 3 0,lO 66 3 65,oO 67 (.index 9 (.const (.string { data:=#[46,46,118,98,121,116,102,101,112,99] })) (xT 66)),cB 68 79 64 67 36 5] [0,3] (sR [mO 69 0,oO 70 (cL 79 #[(xT 69),(.const (.int .u8 91))] #[36,5])] [0,3] (sR [mO 71 0,fO 72 29 3 2,lO 73 27 72,cB 74 80 71 73 36 27] [0] (.reg [mO 75 0,oO 76 (cL 79 #[(xT 75),(.const (.int .u8 93))] #[36,5])] [])))) (.reg [mO 6 0,oO 7 (cL 79 #[(xT 6),(.const (.int .u8 95))] #[36,5])] []))))))))
theorem Ga:BM Tryz.prog 48 77 [] EK:=AH Tryz.func48
def ML:CC:=sR [bX 1 29 0 [0],oO 2 (.assign (.const (.string { data:=#[] })))] [1] (sR [aL 3 39 [1,777777,39]] [1,3] (.stop (sR [lO 4 29 1,cB 5 48 3 4 36 29] [3] (sR [cA 6 10 3 39,aO 2 6] [2] (.ret)))))
theorem Ud:BM Tryz.prog 30 7 [(.tmp 2)] ML:=AH Tryz.func30
def GV:CC:=sR [oO 2 (.assign (.const (.int .u8 0)))] [0] (sQ [mO 3 0,nC 4 3,fO 5 92 4 1,lO 6 3 5,mO 7 0,nC 8 7,fO 9 92 8 0,lO 10 9 9,bN 11 10 9,bB .eql 12 3 6 11 3] [0,12] (cD 12 (sR [oO 2 (.assign (.const (.int .u8 0)))] [2] (.ret)) (.skip)) [0] (sR [mO 13 0,nC 14 13,fO 15 92 14 0,lO 16 9 15,mO 17 0,nC 18 17,fO 19 92 18 1,lO 20 3 19,oO 21 (.index 9 (xT 16) (xT 20)),aO 2 21] [2] (.ret)))
theorem Lx:BM Tryz.prog 63 22 [(.tmp 2)] GV:=AH Tryz.func63
def Ho:CC:=sR [aB 4 false] [0,1] (sQ [mO 5 0,cA 6 63 5 90,mO 7 1,bB .neq 8 5 6 7 5,mO 9 8,mG 10 0 9 false,oG 11 (.nilCheck (xT 10)) 9 false,fG 12 92 11 1 9 false,lG 13 3 12 9 false,mG 14 0 9 false,oG 15 (.nilCheck (xT 14)) 9 false,fG 16 92 15 0 9 false,lG 17 9 16 9 false,oG 18 (bL 17 9) 9 false,oG 19 (bO .eql 3 13 18 3) 9 false,pT 20 9 19] [0,20] (cD 20 (sR [aB 4 false] [4] (.ret)) (.skip)) [0] (sR [mO 21 0,nC 22 21,fO 23 92 22 1,lO 24 3 23,bQ .add 25 3 24 1 3,nC 26 21,fO 27 92 26 1,sT 3 27 25] [] (sR [aB 4 true] [4] (.ret))))
theorem L6:BM Tryz.prog 60 28 [(.tmp 4)] Ho:=AH Tryz.func60
def Qo:CC:=sR [oO 2 (.assign (.const (.int .u64 0))),aB 3 false] [0] (sR [mO 5 0,oO 6 (.call { callee:=(.value (.func 62)),args:=#[(.const (.string { data:=#[48,49,50,51,52,53,54,55,56,57,97,98,99,100,101,102] })),(xT 5)],argTypes:=#[9,5] }),aO 4 6] [4] (sR [mO 7 4,oO 8 (bC .max #[(xT 7),(nI 0)] #[3,3]),oO 9 (.convert 3 101 (xT 8)),mO 10 4,bQ .geq 11 3 10 0 3,aO 2 9,aO 3 11] [2,3] (.ret)))
theorem Xr:BM Tryz.prog 139 12 [(.tmp 2),(.tmp 3)] Qo:=AH Tryz.func139
def Cm:CC:=sQ [mO 13 0,nC 14 13,fO 15 92 14 1,lO 16 3 15,mO 17 0,nC 18 17,fO 19 92 18 0,lO 20 9 19,bN 21 20 9,bB .lss 22 3 16 21 3] [0,4,5,22] (cD 22 (.skip) (.exit 0)) [0,4,5] (.block 1 (sR [mO 24 0,nC 25 24,fO 26 92 25 0,lO 27 9 26,mO 28 0,nC 29 28,fO 30 92 29 1,lO 31 3 30,oO 32 (.index 9 (xT 27) (xT 31)),cA 33 139 32 5,mO 23 33,xO 34 23 0,xO 35 23 1,aO 6 34,aO 7 35] [0,4,5,6,7] (sQ [mO 36 7,oO 37 (.unOp .not 4 (xT 36)),mO 38 37,mG 39 5 38 false,oG 40 (.binOp .shr 101 (xT 39) (.const (.int .u64 60)) 137) 38 false,oG 41 (.binOp .neq 101 (xT 40) (.const (.int .u64 0)) 101) 38 false,pT 42 38 41] [0,4,5,6,42] (cD 42 (.exit 0) (.skip)) [0,4,5,6] (.reg [mO 43 0,mO 44 5,oO 45 (.binOp .shl 101 (xT 44) (.const (.int .u64 4)) 137),mO 46 6,bB .or 47 101 45 46 101,mO 48 0,nC 49 48,fO 50 92 49 1,lO 51 3 50,bQ .add 52 3 51 1 3,aO 5 47,nC 53 43,fO 54 92 53 1,sT 3 54 52] [0,4,5]))))
def DK:CC:=sR [mO 55 0,nC 56 55,fO 57 92 56 1,lO 58 3 57,mO 59 4,bB .sub 60 3 58 59 3,aO 8 60] [0,4,5,8] (sR [mO 61 5,mO 62 8,bQ .gtr 63 3 62 0 3,mO 64 63,mG 65 8 64 true,oG 66 (.binOp .eql 3 (xT 65) (nI 1) 3) 64 true,mG 67 66 64 true,mG 68 0 67 false,oG 69 (.nilCheck (xT 68)) 67 false,fG 70 92 69 0 67 false,lG 71 9 70 67 false,mG 72 4 67 false,oG 73 (.index 9 (xT 71) (xT 72)) 67 false,oG 74 (.binOp .neq 5 (xT 73) (.const (.int .u8 48)) 5) 67 false,oG 75 (.pick (xT 67) (nB true) (xT 74)) 64 true,pF 76 64 75,aO 2 61,aO 3 76] [2,3] (.ret)) 
def F2:CC:=sR [oO 2 (.assign (.const (.int .u64 0))),aB 3 false] [0] (sR [mO 9 0,nC 10 9,fO 11 92 10 1,lO 12 3 11,aO 4 12,oO 5 (.assign (.const (.int .u64 0)))] [0,4,5] (.seq (.block 0 (.loop Cm)) (.keep [0,4,5] DK)))
theorem JQ:BM Tryz.prog 98 77 [(.tmp 2),(.tmp 3)] F2:=AH Tryz.func98
def Dw:CC:=.block 1 (sR [mO 8 0,cA 9 98 8 90,mO 7 9,xO 10 7 0,xO 11 7 1,aO 5 10,aO 6 11] [0,4,5,6] (sQ [mO 12 6,oO 13 (.unOp .not 4 (xT 12))] [0,4,5,13] (cD 13 (sR [aN 2,aB 3 false] [2,3] (.ret)) (.skip)) [0,4,5] (sR [mO 14 4,mO 15 5,oO 16 (.buildSlice 26 1 #[(0,(xT 15))]),aP 17 14 16 26 26 [1],aO 4 17] [0,4] (sR [mO 18 0,oO 19 (cL 60 #[(xT 18),(.const (.int .u8 44))] #[90,5]),oO 20 (.unOp .not 4 (xT 19))] [0,4,20] (cD 20 (sR [mO 21 4,aO 2 21,aB 3 true] [2,3] (.ret)) (.skip)))))) 
def DJ:CC:=sR [aN 2,aB 3 false] [0] (sR [aN 4] [0,4] (.block 0 (.loop Dw)))
theorem Fq:BM Tryz.prog 96 22 [(.tmp 2),(.tmp 3)] DJ:=AH Tryz.func96
def CM:CC:=sQ [mO 33 12,oO 34 (.unOp .not 4 (xT 33))] [0,1,2,3,10,11,34] (cD 34 (sR [aN 8,aB 9 false] [8,9] (.ret)) (.skip)) [0,1,2,3,10,11] (sR [mO 35 10,lO 36 29 11,oO 37 (.buildSlice 27 1 #[(0,(xT 36))]),aP 38 35 37 27 27 [2],aO 10 38] [0,1,2,3,10] (.block 2 (sR [mO 40 0,mO 41 2,cB 42 60 40 41 90 5,aO 39 42] [0,1,2,3,10,39] (cD 39 (sR [mO 43 10,aO 8 43,aB 9 true] [8,9] (.ret)) (sR [mO 45 0,oO 46 (cL 60 #[(xT 45),(.const (.int .u8 44))] #[90,5]),oO 47 (.unOp .not 4 (xT 46)),aO 44 47] [0,1,2,3,10,44] (cD 44 (sR [aN 8,aB 9 false] [8,9] (.ret)) (.skip)))))))
def CN:CC:=.block 1 (sR [aL 11 29 [1]] [0,1,2,3,10,11] (sR [aB 12 false] [0,1,2,3,10,11] (sQ [mO 17 1,cA 18 97 17 3] [0,1,2,3,10,11,18] (cD 18 (sR [oO 13 (.assign (.const (.int .u64 0)))] [0,1,2,3,10,11] (sR [mO 20 0,cA 21 98 20 90,mO 19 21,xO 22 19 0,xO 23 19 1,aO 13 22,aO 12 23] [0,1,2,3,10,11,12,13] (.reg [mO 24 13,oO 25 (.buildSlice 26 1 #[(0,(xT 24))]),oO 26 (.build 29 #[(0,(nI 10)),(1,(xT 25))]),sT 29 11 26] [0,1,2,3,10,11,12]))) (.reg [mO 28 0,mO 29 3,cB 30 36 28 29 90 3,mO 27 30,xO 31 27 0,xO 32 27 1,sT 29 11 31,aO 12 32] [0,1,2,3,10,11,12])) [0,1,2,3,10,11,12] CM))) 
def Dn:CC:=sR [aN 8,aB 9 false] [0,1,2,3] (sR [aN 10] [0,1,2,3,10] (sQ [mO 14 0,mO 15 2,cB 16 60 14 15 90 5] [0,1,2,3,10,16] (cD 16 (sR [aN 8,aB 9 true] [8,9] (.ret)) (.skip)) [0,1,2,3,10] (.block 0 (.loop CN))))
theorem EC:BM Tryz.prog 64 48 [(.tmp 8),(.tmp 9)] Dn:=AH Tryz.func64
def Cv:CC:=sQ [mO 24 0,oO 25 (cL 60 #[(xT 24),(.const (.int .u8 125))] #[90,5])] [0,1,4,6,25] (cD 25 (sR [lO 26 29 6,sT 29 4 26,aB 5 true] [4,5] (.ret)) (.skip)) [0,1,4,6] (sQ [mO 27 0,oO 28 (cL 60 #[(xT 27),(.const (.int .u8 124))] #[90,5]),oO 29 (.unOp .not 4 (xT 28)),mO 30 29,mG 31 0 30 false,oG 32 (cL 63 #[(xT 31)] #[90]) 30 false,oG 33 (.binOp .eql 5 (xT 32) (.const (.int .u8 125)) 5) 30 false,pT 34 30 33] [0,1,4,6,34] (cD 34 (sR [lO 35 29 6,sT 29 4 35,aB 5 false] [4,5] (.ret)) (.skip)) [0,1,4,6] (sR [mO 37 0,mO 38 1,bQ .sub 39 3 38 1 3,oO 40 (cL 64 #[(xT 37),(nI 1),(.const (.int .u8 125)),(xT 39)] #[90,3,5,3]),mO 36 40,xO 41 36 0,xO 42 36 1,fO 43 29 6 2,sT 27 43 41,aO 7 42] [4,6,7] (sR [lO 44 29 6,mO 45 7,sT 29 4 44,aO 5 45] [4,5] (.ret)))) 
def EL:CC:=sR [aL 4 29 [1],aB 5 false] [0,1,4] (sR [oO 8 (.build 29 #[(0,(nI 1))]),aL 6 29 [2],sT 29 6 8] [0,1,4,6] (sQ [mO 9 0,oO 10 (cL 60 #[(xT 9),(.const (.int .u8 125))] #[90,5])] [0,1,4,6,10] (cD 10 (sR [lO 11 29 6,sT 29 4 11,aB 5 true] [4,5] (.ret)) (.skip)) [0,1,4,6] (sR [aB 7 true] [0,1,4,6] (sQ [mO 12 0,cA 13 63 12 90,oO 14 (.binOp .neq 5 (xT 13) (.const (.int .u8 124)) 5)] [0,1,4,6,14] (cD 14 (sR [mO 16 0,cA 17 96 16 90,mO 15 17,xO 18 15 0,xO 19 15 1,fO 20 29 6 1,sT 26 20 18,aO 7 19] [0,1,4,6,7] (sR [mO 21 7,oO 22 (.unOp .not 4 (xT 21))] [0,1,4,6,22] (cD 22 (sR [lO 23 29 6,sT 29 4 23,aB 5 false] [4,5] (.ret)) (.skip)))) (.skip)) [0,1,4,6] Cv))))
theorem HV:BM Tryz.prog 61 46 [(.cell 4 29),(.tmp 5)] EL:=AH Tryz.func61
def Dp:CC:=sR [aL 4 29 [1],aB 5 false] [0,1,4] (sQ [mO 9 0,oO 10 (cL 60 #[(xT 9),(.const (.int .u8 95))] #[90,5])] [0,1,4,10] (cD 10 (sR [oO 11 (.build 29 #[]),sT 29 4 11,aB 5 true] [4,5] (.ret)) (.skip)) [0,1,4] (sQ [mO 12 1,bQ .eql 13 3 12 0 3] [0,1,4,13] (cD 13 (sR [oO 14 (.build 29 #[]),sT 29 4 14,aB 5 false] [4,5] (.ret)) (.skip)) [0,1,4] (sQ [mO 15 0,oO 16 (cL 60 #[(xT 15),(.const (.int .u8 123))] #[90,5])] [0,1,4,16] (cD 16 (sR [mO 17 0,mO 18 1,cB 19 61 17 18 90 3,xO 20 19 0,xO 21 19 1,sT 29 4 20,aO 5 21] [4,5] (.ret)) (.skip)) [0,1,4] (sR [mO 22 0,cA 23 63 22 90,oO 24 (.call { callee:=(.value (.func 62)),args:=#[(.const (.string { data:=#[46,46,118,98,121,116,102,101,112,99] })),(xT 23)],argTypes:=#[9,5] }),aO 6 24] [0,1,4,6] (sQ [mO 25 6,bQ .lss 26 3 25 2 3,mO 27 26,mG 28 0 27 false,oG 29 (cL 63 #[(xT 28)] #[90]) 27 false,oG 30 (.binOp .eql 5 (xT 29) (.const (.int .u8 46)) 5) 27 false,pT 31 27 30] [0,1,4,6,31] (cD 31 (sR [oO 32 (.build 29 #[]),sT 29 4 32,aB 5 false] [4,5] (.ret)) (.skip)) [0,1,4,6] (sR [mO 33 0,nC 34 33,fO 35 92 34 1,lO 36 3 35,bQ .add 37 3 36 1 3,nC 38 33,fO 39 92 38 1,sT 3 39 37] [0,1,4,6] (sQ [mO 40 0,oO 41 (cL 60 #[(xT 40),(.const (.int .u8 91))] #[90,5]),oO 42 (.unOp .not 4 (xT 41))] [0,1,4,6,42] (cD 42 (sR [oO 43 (.build 29 #[]),sT 29 4 43,aB 5 false] [4,5] (.ret)) (.skip)) [0,1,4,6] (sR [mO 45 0,mO 46 6,mO 47 1,bQ .sub 48 3 47 1 3,oO 49 (cL 64 #[(xT 45),(xT 46),(.const (.int .u8 93)),(xT 48)] #[90,3,5,3]),mO 44 49,xO 50 44 0,xO 51 44 1,aO 7 50,aO 8 51] [4,6,7,8] (sR [mO 52 6,mO 53 7,oO 54 (.build 29 #[(0,(xT 52)),(2,(xT 53))]),mO 55 8,sT 29 4 54,aO 5 55] [4,5] (.ret))))))))))
theorem EF:BM Tryz.prog 36 56 [(.cell 4 29),(.tmp 5)] Dp:=AH Tryz.func36
def L7:CC:=sR [aL 2 29 [0],aI 3 0] [0,2] (sR [mO 7 0,oO 8 (.build 92 #[(0,(xT 7))]),bX 9 92 8 [1],aO 4 9] [0,2,4] (sR [mO 11 4,oO 12 (cL 36 #[(xT 11),(nI 64)] #[90,3]),mO 10 12,xO 13 10 0,xO 14 10 1,aL 5 29 [2],sT 29 5 13,aO 6 14] [0,2,4,5,6] (sQ [mO 15 6,oO 16 (.unOp .not 4 (xT 15)),mO 17 16,mG 18 4 17 false,oG 19 (.nilCheck (xT 18)) 17 false,fG 20 92 19 1 17 false,lG 21 3 20 17 false,mG 22 0 17 false,oG 23 (bL 22 9) 17 false,oG 24 (bO .lss 3 21 23 3) 17 false,pT 25 17 24,mO 26 25,lG 27 29 5 26 false,oG 28 (cL 22 #[(xT 27)] #[29]) 26 false,oG 29 (.unOp .not 4 (xT 28)) 26 false,pT 30 26 29] [2,5,30] (cD 30 (sR [oO 31 (.build 29 #[]),sT 29 2 31,aI 3 11] [2,3] (.ret)) (.skip)) [2,5] (sR [lO 32 29 5,sT 29 2 32,aI 3 0] [2,3] (.ret)))))
theorem TJ:BM Tryz.prog 18 33 [(.cell 2 29),(.tmp 3)] L7:=AH Tryz.func18
end Go.Proofs.YtgkdikddjfgajaaGreatDoor
namespace Go.Proofs.YtgkdikddjfgajaaGreatDoor
open Go Go.G Go.Proofs Go.RowKit Go.PL
theorem Q9 {P:Program} {f:FuncId} {r:Value} (hk:Ji P f=true) (l:List Value) (h:∀ (w:World) (I:Nat→Prop),Tabs P w I→Calls P f l.toArray w fun e w'=>e = .returned r∧w'=w):G.Spec P f (l.map A.v) (.v r):=by
 refine⟨hk,fun w I vs hI ht hl hr=>?_⟩;have e:vs=l.toArray:=by
  apply Array.ext
  ·simpa using hl
  ·intro i h1 h2;have h3:i<l.length:=by simpa using h2
   have:=hr i (A.v l[i]) (by simp[h3]);generalize hq:vs.getD i undef=x at this;cases this;have:vs.getD i undef=vs[i]:=by simp[h1]
   rw[this] at hq;simpa using hq
 subst e;refine(h w I ht).mono fun e w' ⟨h1,h2⟩=>⟨r,h1,?_,?_⟩
 ·subst h2;exact⟨rfl,rfl,rfl,CE _,fun _ _=>rfl⟩
 ·exact .v _ _
theorem YV (l:List UInt8) (c:UInt8):Lib.indexByte l c=A6 l c:=by
 induction l with
 |nil=>rfl
 |cons b l ih=>simp[Lib.indexByte,A6,ih]
set_option maxHeartbeats 1000000 in
set_option maxRecDepth 100000 in
theorem Re (l:List UInt8) (c:UInt8) (w:World):Calls Tryz.prog 62 #[.string ⟨l.toArray⟩,.int .u8 c.toNat] w fun e w'=>e = .returned (.int .i64 (A6 l c))∧w'=w:=by
 have h:(Extern.BytealgIndexByte.indexByte #[.string ⟨l.toArray⟩,.int .u8 c.toNat]).run Tryz.prog w = .ok (.int .i64 (A6 l c)) w:=by
  rw[Lib.run_indexByteString,YV];simp
 go_enter Tryz.func62,Tryz.ntmps62
 go_wp2
 rw[run_callFunc_extern Tryz.func106 (by kernel_rfl) (by kernel_rfl) (by kernel_rfl) (e:=Extern.BytealgIndexByte.indexByte) (by kernel_rfl)];rw[h];simp only[Result.andThen];rw[Oper.upon_value]
 go_wp2
 go_ret
 exact⟨rfl,rfl⟩
theorem Jy (l:List UInt8) (c:UInt8):G.Spec Tryz.prog 62 [S l,IL c] (.v (.int .i64 (A6 l c))):=
 Q9 (by kernel_rfl) [.string ⟨l.toArray⟩,.int .u8 c.toNat] fun w I _=>Re l c w
set_option maxHeartbeats 1000000 in
set_option maxRecDepth 100000 in
theorem pI (w:World) (I:Nat→Prop) (ht:Tabs Tryz.prog w I):Calls Tryz.prog 149 #[.int .u64 16] w fun e w'=>e = .returned (.int .i64 4)∧w'=w:=by
 have h0:gtab Tryz.prog 7=some (.u8,tab64):=by kernel_rfl
 have h1:=(ht.tab 7 _ h0).2 15 4 (by decide);have e:u64.wrap (bits BinOp.and u64 16 (u64.wrap (-16))*285870213051353865) / 288230376151711744=15:=by decide
 have hb:0≤u64.wrap (bits BinOp.and u64 16 (u64.wrap (-16))*285870213051353865) / 288230376151711744∧u64.wrap (bits BinOp.and u64 16 (u64.wrap (-16))*285870213051353865) / 288230376151711744<64:=by rw[e];decide
 have hc:w.cell? ⟨7,(u64.wrap (bits BinOp.and u64 16 (u64.wrap (-16))*285870213051353865) / 288230376151711744).toNat,none⟩=some (.int .u8 4):=by rw[e];exact h1
 clear e
 go_enter Tryz.func149,Tryz.ntmps149
 go_wp2
 go_ret
 exact⟨rfl,rfl⟩
set_option maxHeartbeats 1000000 in
set_option maxRecDepth 100000 in
theorem Qb (b:Nat) (w:World) (h0:w.cell? ⟨b,0,none⟩=some (.pointer (some ⟨b,0,none⟩))) :
  Calls Tryz.prog 14 #[.pointer (some ⟨b,0,none⟩)] w fun e w'=>e = .returned (.tuple #[])∧w'=w:=by
 obtain⟨j,hj,hjs⟩:=Option.map_eq_some_iff.1 (show B2 Tryz.prog 39=some 2 by kernel_rfl)
 go_enter Tryz.func14,Tryz.ntmps14
 go_wp2
 rw[Lib.run_neq_ptr_same w _ Tryz.underlying36 hj]
 go_wp2
 go_end0
 exact⟨rfl,rfl⟩
set_option maxHeartbeats 1000000 in
set_option maxRecDepth 100000 in
theorem OY (b:Nat) (w:World) (h0:w.cell? ⟨b,0,none⟩=some (.pointer none)) (hsh:w.shape? b=some (39,2)) (hfz:w.frozen? ⟨b,0,none⟩=false) :
  Calls Tryz.prog 14 #[.pointer (some ⟨b,0,none⟩)] w fun e w'=>e = .returned (.tuple #[])∧w'=w.setCell ⟨b,0,none⟩ (.pointer (some ⟨b,0,none⟩)):=by
 obtain⟨j,hj,hjs⟩:=Option.map_eq_some_iff.1 (show B2 Tryz.prog 39=some 2 by kernel_rfl)
 go_enter Tryz.func14,Tryz.ntmps14
 go_wp2
 rw[Lib.run_to_unsafe w ⟨b,0,none⟩ Tryz.underlying36 Tryz.underlying80 hj (by rw[hjs];decide) hsh (Nat.zero_lt_succ 1)];simp only[Result.andThen];rw[Oper.upon_value]
 go_wp2
 rw[run_callFunc_extern Tryz.func28 (by kernel_rfl) (by kernel_rfl) (by kernel_rfl) (e:=Extern.AbiNoEscape.same) (by kernel_rfl)];rw[Lib.run_noEscape];simp only[Result.andThen];rw[Oper.upon_value]
 go_wp2
 rw[Lib.run_from_unsafe w ⟨b,0,none⟩ Tryz.underlying80 Tryz.underlying36 hj hsh (by kernel_rfl)];simp only[Result.andThen];rw[Oper.upon_value]
 go_wp2
 go_end0
 exact⟨rfl,rfl⟩
set_option maxHeartbeats 1000000 in
set_option maxRecDepth 100000 in
theorem XB (b g:Nat) (l:List UInt8) (cap:Nat) (w:World) (h0:l ≠ []) (hb1:w.cell? ⟨b,1,none⟩=some (.slice (some ⟨g,0,none⟩) l.length cap)) (cells:Nat) (hsh:w.shape? g=some (5,cells)) (hn:l.length≤cells) (hc:l.length≤cap) (hcm:l.length≤9223372036854775807)
  (hcell:∀ j x,l[j]? = some x→w.cell? ⟨g,j,none⟩=some (.int .u8 x.toNat)) :
  Calls Tryz.prog 10 #[.pointer (some ⟨b,0,none⟩)] w fun e w'=>e = .returned (.string ⟨l.toArray⟩)∧w'=w.drew.freeze ⟨g,0,none⟩ l.length:=by
 have hl0:l.length ≠ 0:=by simpa using h0
 have c1:w.drew.cell? ⟨b,1,none⟩=some (.slice (some ⟨g,0,none⟩) l.length cap):=hb1;have hSD:(Builtin.unsafeSliceData_ #[37] 61 #[.slice (some ⟨g,0,none⟩) l.length cap]).run Tryz.prog w.drew = .ok (.pointer (some ⟨g,0,none⟩)) w.drew:=
  Lib.run_unsafeSliceData_row _ _ _ _ _ _ (by omega)
 have hUS:(Builtin.unsafeString_ #[61,3] 9 #[.pointer (some ⟨g,0,none⟩),.int .i64 l.length]).run Tryz.prog w.drew = .ok (.string ⟨l.toArray⟩) (w.drew.freeze ⟨g,0,none⟩ l.length):=
  Lib.run_unsafeString_row w.drew 61 3 9 5 Tryz.underlying61 (by kernel_rfl) g cells hsh l h0 hn (by omega) (fun j x hx=>by rw[Addr.add_lit,Nat.zero_add];exact hcell j x hx)
 go_enter Tryz.func10,Tryz.ntmps10
 go_wp2
 go_region
 all_goals (go_wp2;go_ret;exact⟨rfl,rfl⟩)
theorem kc:G.Spec Tryz.prog 149 [.v (.int .u64 16)] (.v (.int .i64 4)):=
 Q9 (by kernel_rfl) [.int .u64 16] fun w I ht=>pI w I ht
end Go.Proofs.YtgkdikddjfgajaaGreatDoor
namespace Go.Proofs.YtgkdikddjfgajaaGreatDoor
open Go Go.G Go.Proofs
abbrev iv (n:Int):A:=.v (.int .i64 n)
abbrev uv (n:Int):A:=.v (.int .u64 n)
abbrev bv (b:Bool):A:=.v (.bool b)
theorem JE {n:Int} (h0:-9223372036854775808≤n) (h1:n<9223372036854775808):i64.wrap n=n:=by rw[IntKind.wrap_i64];omega
theorem H9 {n m:Int} (h0:-9223372036854775808 ≤ n:=by omega) (h1:n<9223372036854775808:=by omega) (h:n=m:=by omega):i64.wrap n=m:=by rw[JE h0 h1];exact h
theorem B0 (i:Nat) (h:i<9223372036854775807:=by omega):i64.wrap ((i:Int)+1)=((i+1:Nat):Int):=by rw[JE (by omega) (by omega)];omega
theorem Ih {n:Int} (h0:-9223372036854775808 ≤ n:=by omega) (h1:n<9223372036854775808:=by omega):i64.wrap n=n:=JE h0 h1
theorem Cr {n:Int} (h0:0≤n) (h1:n<18446744073709551616):u64.wrap n=n:=by rw[IntKind.wrap_u64];omega
structure Pt where
 (kind off data ptrs code count seg:Int)
 dbl:Bool
deriving DecidableEq
@[simp] def Pt.a (p:Pt):A:=.agg [iv p.kind,iv p.off,iv p.data,iv p.ptrs,iv p.code,iv p.count,iv p.seg,bv p.dbl]
def vG (w:Int):Int:=if w / 4 % 1073741824<536870912 then w / 4 % 1073741824 else w / 4 % 1073741824-1073741824
def Ng (w:Int):Pt:=
 if w=0 then ⟨0,0,0,0,0,0,0,false⟩
 else if w % 4=0 then ⟨1,vG w,w / 4294967296 % 65536,w / 281474976710656,0,0,0,false⟩
 else if w % 4=1 then ⟨2,vG w,0,0,w / 4294967296 % 8,w / 34359738368,0,false⟩
 else if w % 4=2 then ⟨3,w / 8 % 536870912,0,0,0,0,w / 4294967296,decide (w / 4 % 2=1)⟩
 else ⟨4,0,0,0,0,0,0,false⟩
end Go.Proofs.YtgkdikddjfgajaaGreatDoor
namespace Go.Proofs.YtgkdikddjfgajaaGreatDoor
set_option maxRecDepth 20000
open Go Go.G Go.Proofs
@[simp] theorem yW:Tryz.prog.underlying 156=some (.array 8 5):=by kernel_rfl
@[simp] theorem AaB:B2 Tryz.prog 156=some 8:=by kernel_rfl
@[simp] theorem ym:Cu Tryz.prog 156=some true:=by kernel_rfl
@[simp] theorem yD:A1 Tryz.prog 73=some (Value.agg #[Value.int i64 0,Value.int i64 0,Value.slice none 0 0,Value.slice none 0 0,Value.int i64 0,Value.slice none 0 0,Value.slice none 0 0,Value.slice none 0 0,Value.slice none 0 0,Value.int i64 0,Value.slice none 0 0]):=by kernel_rfl
@[simp] theorem ru:A1 Tryz.prog 156=some (Value.agg #[Value.int IntKind.u8 0,Value.int IntKind.u8 0,Value.int IntKind.u8 0,Value.int IntKind.u8 0,Value.int IntKind.u8 0,Value.int IntKind.u8 0,Value.int IntKind.u8 0,Value.int IntKind.u8 0]):=by kernel_rfl
@[simp] theorem bU:Ah Tryz.prog 268 0=some 0:=by kernel_rfl
@[simp] theorem c8:Ah Tryz.prog 268 1=some 1:=by kernel_rfl
@[simp] theorem dr:Ah Tryz.prog 268 2=some 2:=by kernel_rfl
@[simp] theorem sY (ps:List (Nat × A)):Bw Tryz.prog 73 ps=(BU (fun i=>([(0,1),(1,3),(4,3),(7,1),(8,1),(9,1),(10,1)]:List (Nat × Nat))[i]?) [A.v (Value.int i64 0),A.v (Value.int i64 0),A.sl true [],A.sl true [],A.v (Value.int i64 0),A.sl true [],A.sl true [],A.sl true [],A.sl true [],A.v (Value.int i64 0),A.sl true []] ps).map A.agg:=by kernel_rfl
@[simp] theorem qg (ps:List (Nat × A)):Bw Tryz.prog 131 ps=(BU (fun i=>([(0,1),(1,11)]:List (Nat × Nat))[i]?) [A.v (Value.int i64 0),A.v (Value.int i64 0),A.v (Value.int i64 0),A.sl true [],A.sl true [],A.v (Value.int i64 0),A.sl true [],A.sl true [],A.sl true [],A.sl true [],A.v (Value.int i64 0),A.sl true []] ps).map A.agg:=by kernel_rfl
@[simp] theorem pR (ps:List (Nat × A)):Bw Tryz.prog 133 ps=(BU (fun i=>([(0,1),(1,1),(2,1),(3,11)]:List (Nat × Nat))[i]?) [A.v (Value.int i64 0),A.v (Value.int i64 0),A.sl true [],A.v (Value.int i64 0),A.v (Value.int i64 0),A.sl true [],A.sl true [],A.v (Value.int i64 0),A.sl true [],A.sl true [],A.sl true [],A.sl true [],A.v (Value.int i64 0),A.sl true []] ps).map A.agg:=by kernel_rfl
@[simp] theorem nL (ps:List (Nat × A)):Bw Tryz.prog 268 ps=(BU (fun i=>([(0,1),(1,1),(2,1)]:List (Nat × Nat))[i]?) [A.sl true [],A.sl true [],A.sl true []] ps).map A.agg:=by kernel_rfl
def Li:CC:=sR [bX 3 73 1 [0],aB 4 false] [0,3] (sR [fO 5 73 3 0,lO 6 3 5,bQ .eql 7 3 6 0 3,mO 8 7,mG 9 0 8 false,oG 10 (.binOp .eql 3 (xT 9) (nI 9) 3) 8 false,mG 11 10 8 false,fG 12 73 3 0 11 true,lG 13 3 12 11 true,oG 14 (.binOp .eql 3 (xT 13) (nI 2) 3) 11 true,oG 15 (.pick (xT 11) (xT 14) (nB false)) 8 false,mG 16 15 8 false,fG 17 73 3 3 16 true,lG 18 69 17 16 true,oG 19 (bL 18 69) 16 true,fG 20 73 3 4 16 true,lG 21 70 20 16 true,oG 22 (bL 21 70) 16 true,oG 23 (bO .add 3 19 22 3) 16 true,oG 24 (.binOp .eql 3 (xT 23) (nI 0) 3) 16 true,oG 25 (.pick (xT 16) (xT 24) (nB false)) 8 false,pT 26 8 25,aO 4 26] [4] (.ret))
theorem RQ:BM Tryz.prog 190 27 [(.tmp 4)] Li:=AH Tryz.func190
def EU:CC:=sR [bB .lss 9 3 8 7 3] [0,6,7,8,9] (.seq (cD 9 (.skip) (.exit 0)) (.keep [0,6,7,8] (.seq (.block 1 (sR [iO 10 27 6 8,lO 11 29 10,aL 5 29 [1],sT 29 5 11] [0,5,6,7,8] (.reg [mO 12 0,nC 13 12,lS 14 27 13 2,lS 15 29 5 3,⟨some 16,(cL 23 #[(xT 15)] #[29]),none,[],4,[2],true⟩,bN 17 14 27,⟨some 18,(.buildSlice 27 1 #[(0,(.const (.agg #[(.int .i64 0),(.slice none 0 0),(.slice none 0 0)])))]),none,[],6,[2,3,4],false⟩,aP 19 14 18 27 27 [2],iO 20 27 19 17,⟨none,(.store 29 (xT 20) (xT 16)),none,[],9,[],true⟩,nC 21 12,⟨none,(.store 27 (xT 21) (xT 19)),none,[],11,[9],false⟩] [0,6,7,8]))) (.reg [bQ .add 22 3 8 1 3,mO 8 22] [0,6,7,8])))) 
def HJ:CC:=sR [mO 6 1,bN 7 6 27,oO 8 (.move (nI 0))] [0,6,7,8] (.block 0 (.loop EU))
theorem K7:BM Tryz.prog 189 23 [] HJ:=AH Tryz.func189
def BI:CC:=sQ [mO 23 0,nC 24 23,fO 25 268 24 2,lO 26 27 25,bN 27 26 27,bQ .gtr 28 3 27 0 3] [0,28] (cD 28 (.reg [mO 29 0,nC 30 29,fO 31 268 30 0,lS 32 71 31 3,mO 33 0,nC 34 33,fO 35 268 34 2,lS 36 27 35 7,oO 37 (.build 133 #[(0,(nI 2)),(2,(xT 36))]),bN 38 32 71,⟨some 39,(.buildSlice 71 1 #[(0,(.const (.agg #[(.int .i64 0),(.int .i64 0),(.slice none 0 0),(.int .i64 0),(.int .i64 0),(.slice none 0 0),(.slice none 0 0),(.int .i64 0),(.slice none 0 0),(.slice none 0 0),(.slice none 0 0),(.slice none 0 0),(.int .i64 0),(.slice none 0 0)])))]),none,[],10,[3,7],false⟩,aP 40 32 39 71 71 [2],iO 41 71 40 38,⟨none,(.store 133 (xT 41) (xT 37)),none,[],13,[],true⟩,nC 42 29,fO 43 268 42 0,⟨none,(.store 71 (xT 43) (xT 40)),none,[],16,[13],false⟩] [0]) (.skip)) [0] (.reg [mO 44 0,mO 45 0,nC 46 44,fO 47 268 46 1,oS (.store 27 (xT 47) nS),nC 48 45,fO 49 268 48 2,oS (.store 27 (xT 49) nS)] []) 
def Fm:CC:=sQ [mO 2 0,nC 3 2,fO 4 268 3 1,lO 5 27 4,bN 6 5 27,bQ .gtr 7 3 6 0 3] [0,7] (cD 7 (.reg [mO 8 0,nC 9 8,fO 10 268 9 0,lS 11 71 10 3,mO 12 0,nC 13 12,fO 14 268 13 1,lS 15 27 14 7,oO 16 (.build 133 #[(0,(nI 1)),(2,(xT 15))]),bN 17 11 71,⟨some 18,(.buildSlice 71 1 #[(0,(.const (.agg #[(.int .i64 0),(.int .i64 0),(.slice none 0 0),(.int .i64 0),(.int .i64 0),(.slice none 0 0),(.slice none 0 0),(.int .i64 0),(.slice none 0 0),(.slice none 0 0),(.slice none 0 0),(.slice none 0 0),(.int .i64 0),(.slice none 0 0)])))]),none,[],10,[3,7],false⟩,aP 19 11 18 71 71 [1],iO 20 71 19 17,⟨none,(.store 133 (xT 20) (xT 16)),none,[],13,[],true⟩,nC 21 8,fO 22 268 21 0,⟨none,(.store 71 (xT 22) (xT 19)),none,[],16,[13],false⟩] [0]) (.skip)) [0] BI
theorem Ju:BM Tryz.prog 191 50 [] Fm:=AH Tryz.func191
def D9:CC:=sR [mO 5 0,cA 6 191 5 266] [0,1] (sQ [mO 7 0,nC 8 7,fO 9 268 8 0,lO 10 71 9,bN 11 10 71,bQ .sub 12 3 11 1 3,aO 4 12] [0,1,4] (sR [mO 13 4,bQ .geq 14 3 13 0 3,mO 15 14,mG 16 0 15 true,oG 17 (.nilCheck (xT 16)) 15 true,fG 18 268 17 0 15 true,lG 19 71 18 15 true,mG 20 4 15 true,oG 21 (iA 71 19 20) 15 true,fG 22 133 21 0 15 true,lG 23 3 22 15 true,oG 24 (.binOp .eql 3 (xT 23) (nI 0) 3) 15 true,pF 25 15 24] [0,1,4,25] (cD 25 (sR [mO 26 0,nC 27 26,fO 28 268 27 0,lO 29 71 28,mO 30 4,iO 31 71 29 30,fO 32 133 31 1,lO 33 3 32,mO 34 1,bB .add 35 3 33 34 3,iO 36 71 29 30,fO 37 133 36 1,sT 3 37 35] [] (.ret)) (.skip))) [0,1] (.reg [mO 38 0,nC 39 38,fO 40 268 39 0,lS 41 71 40 3,mO 42 1,oO 43 (.build 133 #[(0,(nI 0)),(1,(xT 42))]),bN 44 41 71,⟨some 45,(.buildSlice 71 1 #[(0,(.const (.agg #[(.int .i64 0),(.int .i64 0),(.slice none 0 0),(.int .i64 0),(.int .i64 0),(.slice none 0 0),(.slice none 0 0),(.int .i64 0),(.slice none 0 0),(.slice none 0 0),(.slice none 0 0),(.slice none 0 0),(.int .i64 0),(.slice none 0 0)])))]),none,[],7,[3],false⟩,aP 46 41 45 71 71 [1],iO 47 71 46 44,⟨none,(.store 133 (xT 47) (xT 43)),none,[],10,[],true⟩,nC 48 38,fO 49 268 48 0,⟨none,(.store 71 (xT 49) (xT 46)),none,[],13,[10],false⟩] []))
theorem F5:BM Tryz.prog 188 50 [] D9:=AH Tryz.func188
def Eu:CC:=sR [bB .lss 14 3 13 12 3] [0,5,11,12,13,14] (.seq (cD 14 (.skip) (.exit 0)) (.keep [0,5,11,12,13] (.seq (.block 1 (sR [iO 15 71 11 13,lO 16 133 15,aL 7 133 [1],sT 133 7 16] [0,5,7,11,12,13] (sR [fO 17 133 7 0,lO 18 3 17] [0,5,7,11,12,13,18] (.block 2 (sR [bQ .eql 20 3 18 0 3,aO 19 20] [0,5,7,11,12,13,18,19] (cD 19 (.reg [mO 21 5,fO 22 133 7 1,lO 23 3 22,cB 24 188 21 23 266 3] [0,5,11,12,13]) (sR [bQ .eql 26 3 18 1 3,aO 25 26] [0,5,7,11,12,13,18,25] (cD 25 (.reg [mO 27 5,nC 28 27,fO 29 268 28 1,fO 30 133 7 2,lO 31 27 30,cB 32 189 29 31 270 27] [0,5,11,12,13]) (sR [bQ .eql 34 3 18 2 3,aO 33 34] [0,5,7,11,12,13,18,33] (cD 33 (.reg [mO 35 5,nC 36 35,fO 37 268 36 2,fO 38 133 7 2,lO 39 27 38,cB 40 189 37 39 270 27] [0,5,11,12,13]) (sR [bQ .eql 42 3 18 3 3,aO 41 42] [0,5,7,11,12,13,41] (cD 41 (sR [fO 43 133 7 3,lO 44 73 43,cA 45 94 44 73,aL 8 73 [2],sT 73 8 45] [0,5,8,11,12,13] (sR [mO 46 0,lO 47 73 8,cB 48 190 46 47 3 73] [0,5,8,11,12,13,48] (cD 48 (.reg [mO 49 5,oO 50 (cL 188 #[(xT 49),(nI 1)] #[266,3])] [0,5,11,12,13]) (sR [mO 51 5,cA 52 191 51 266] [0,5,8,11,12,13] (.reg [mO 53 5,nC 54 53,fO 55 268 54 0,lS 56 71 55 3,lS 57 73 8 4,oO 58 (.build 133 #[(0,(nI 3)),(3,(xT 57))]),bN 59 56 71,⟨some 60,(.buildSlice 71 1 #[(0,(.const (.agg #[(.int .i64 0),(.int .i64 0),(.slice none 0 0),(.int .i64 0),(.int .i64 0),(.slice none 0 0),(.slice none 0 0),(.int .i64 0),(.slice none 0 0),(.slice none 0 0),(.slice none 0 0),(.slice none 0 0),(.int .i64 0),(.slice none 0 0)])))]),none,[],7,[3,4],false⟩,aP 61 56 60 71 71 [3],iO 62 71 61 59,⟨none,(.store 133 (xT 62) (xT 58)),none,[],10,[],true⟩,nC 63 53,fO 64 268 63 0,⟨none,(.store 71 (xT 64) (xT 61)),none,[],13,[10],false⟩] [0,5,11,12,13]))))) (.skip))))))))))))) (.keep [0,5,11,12,13] (.reg [bQ .add 65 3 13 1 3,mO 13 65] [0,5,11,12,13]))))) 
def Mi:CC:=sR [aN 4] [0,1] (sR [oO 9 (.build 268 #[]),bX 10 268 9 [0],aO 5 10] [0,1,5] (sQ [mO 11 1,bN 12 11 71,oO 13 (.move (nI 0))] [0,5,11,12,13] (.block 0 (.loop Eu)) [5] (sR [mO 66 5,cA 67 191 66 266] [5] (sR [mO 68 5,nC 69 68,fO 70 268 69 0,lO 71 71 70,aO 4 71] [4] (.ret)))))
theorem TV:BM Tryz.prog 137 72 [(.tmp 4)] Mi:=AH Tryz.func137
def E9:CC:=sR [bB .lss 35 3 34 33 3] [2,3,32,33,34,35] (.seq (cD 35 (.skip) (.exit 1)) (.keep [2,3,32,33,34] (.seq (.block 2 (sR [iO 36 70 32 34,lO 37 131 36,aL 5 131 [4],sT 131 5 37] [2,3,5,32,33,34] (.reg [fO 38 73 3 4,lS 39 70 38 1,fO 40 131 5 0,lS 41 3 40 3,fO 42 131 5 1,lO 43 73 42,⟨some 44,(cL 94 #[(xT 43)] #[73]),none,[],6,[1,3],false⟩,oO 45 (.build 131 #[(0,(xT 41)),(1,(xT 44))]),⟨some 46,(.buildSlice 70 1 #[(0,(xT 45))]),none,[],8,[1],false⟩,aP 47 39 46 70 70 [5],fO 48 73 3 4,sT 70 48 47] [2,3,32,33,34]))) (.reg [bQ .add 49 3 34 1 3,mO 34 49] [2,3,32,33,34])))) 
def Lb:CC:=sR [bX 1 73 0 [0],aL 2 73 [1]] [1,2] (sR [fO 6 73 1 0,lO 7 3 6,fO 8 73 1 5,lO 9 3 8,oO 10 (.build 73 #[(0,(xT 7)),(5,(xT 9))]),aL 3 73 [2],sT 73 3 10] [1,2,3] (sQ [fO 11 73 1 0,lO 12 3 11] [1,2,3,12] (.block 0 (sR [bQ .eql 14 3 12 1 3,aO 13 14] [1,2,3,12,13] (cD 13 (.reg [fO 15 73 1 1,lO 16 29 15,⟨some 17,(cL 23 #[(xT 16)] #[29]),none,[],2,[],true⟩,fO 18 73 1 2,⟨some 19,(lD 29 18),none,[],4,[2],false⟩,cA 20 23 19 29,fO 21 73 3 1,sT 29 21 17,fO 22 73 3 2,sT 29 22 20] [2,3]) (sR [bQ .eql 24 3 12 2 3,aO 23 24] [1,2,3,12,23] (cD 23 (sR [fO 25 73 3 3,lO 26 69 25,fO 27 73 1 3,lO 28 69 27,aP 29 26 28 69 69 [3],fO 30 73 3 3,sT 69 30 29] [1,2,3] (sR [fO 31 73 1 4,lO 32 70 31,bN 33 32 70,oO 34 (.move (nI 0))] [2,3,32,33,34] (.block 1 (.loop E9)))) (sR [bQ .eql 51 3 12 3 3,aO 50 51] [1,2,3,50] (cD 50 (.reg [fO 52 73 1 5,lO 53 3 52,fO 54 73 1 6,lO 55 71 54,cB 56 137 53 55 3 71,fO 57 73 3 6,sT 71 57 56] [2,3]) (.skip)))))))) [2,3] (sR [lO 58 73 3,sT 73 2 58] [2] (.ret))))
theorem Rv:BM Tryz.prog 94 59 [(.cell 2 73)] Lb:=AH Tryz.func94
@[simp] theorem qa (ps:List (Nat × A)):Bw Tryz.prog 127 ps=(BU (fun i=>([(0,1),(1,1),(2,1),(3,1)]:List (Nat × Nat))[i]?) [A.v (Value.int i64 0),A.v (Value.int IntKind.u8 0),A.v (Value.int u64 0),A.v (Value.int u64 0)] ps).map A.agg:=by kernel_rfl
def Bj:CC:=sR [aN 2] [0] (sQ [mO 3 0,oO 4 (.binOp .eql 27 (xT 3) nS 27)] [0,4] (cD 4 (sR [aN 2] [2] (.ret)) (.skip)) [0] (sR [oO 5 (.buildSlice 27 0 #[]),mO 6 0,aP 7 5 6 27 27 [0],aO 2 7] [2] (.ret)))
theorem BH:BM Tryz.prog 217 8 [(.tmp 2)] Bj:=AH Tryz.func217
def Aw:CC:=sR [bB .lss 18 3 17 16 3] [1,2,15,16,17,18] (.seq (cD 18 (.skip) (.exit 0)) (.keep [1,2,15,16,17] (.seq (.block 1 (sR [mO 19 17,iO 20 27 15 17,lO 21 29 20,aL 8 29 [0],aO 7 19,sT 29 8 21] [1,2,7,8,15,16,17] (sR [mO 22 1,mO 23 7,iO 24 27 22 23,lO 25 29 24,aL 9 29 [1],sT 29 9 25] [1,2,8,9,15,16,17] (sR [mO 26 2,lO 27 29 8,lO 28 29 9,oO 29 (.call { callee:=(.value (xT 26)),args:=#[(xT 27),(xT 28)],argTypes:=#[29,29] }),oO 30 (.unOp .not 4 (xT 29))] [1,2,15,16,17,30] (cD 30 (sR [aB 6 false] [6] (.ret)) (.skip)))))) (.keep [1,2,15,16,17] (.reg [bQ .add 31 3 17 1 3,mO 17 31] [1,2,15,16,17]))))) 
def Ba:CC:=sR [aB 6 false] [0,1,2] (sQ [mO 10 0,bN 11 10 27,mO 12 1,bN 13 12 27,bB .neq 14 3 11 13 3] [0,1,2,14] (cD 14 (sR [aB 6 false] [6] (.ret)) (.skip)) [0,1,2] (sQ [mO 15 0,bN 16 15 27,oO 17 (.move (nI 0))] [1,2,15,16,17] (.block 0 (.loop Aw)) [] (sR [aB 6 true] [6] (.ret))))
theorem B5:BM Tryz.prog 218 32 [(.tmp 6)] Ba:=AH Tryz.func218
def F7:CC:=sR [bX 2 73 0 [0],bX 3 29 1 [1],aL 4 29 [2],aB 5 false] [2,3,4] (sQ [fO 6 73 2 0,lO 7 3 6] [2,3,4,7] (.block 0 (sR [bQ .eql 9 3 7 0 3,aO 8 9] [2,3,4,7,8] (cD 8 (sR [lO 10 29 3,sT 29 4 10,aB 5 true] [4,5] (.ret)) (sR [bQ .eql 12 3 7 1 3,aO 11 12] [2,3,4,7,11] (cD 11 (sR [fO 13 73 2 2,lS 14 29 13 1,fO 15 73 2 1,lO 16 29 15,lO 17 29 3,⟨some 18,(cL 176 #[(xT 16),(xT 17)] #[29,29]),none,[],5,[1],false⟩,sT 29 4 14,aO 5 18] [4,5] (.ret)) (sR [bQ .eql 20 3 7 2 3,aO 19 20] [2,3,4,7,19] (cD 19 (sR [lO 21 73 2,lO 22 29 3,cB 23 177 21 22 73 29,xO 24 23 0,xO 25 23 1,sT 29 4 24,aO 5 25] [4,5] (.ret)) (sR [bQ .eql 27 3 7 3 3,aO 26 27] [2,3,4,26] (cD 26 (sR [lO 28 73 2,lO 29 29 3,cB 30 178 28 29 73 29,xO 31 30 0,xO 32 30 1,sT 29 4 31,aO 5 32] [4,5] (.ret)) (.skip)))))))))) [4] (sR [oO 33 (.build 29 #[]),sT 29 4 33,aB 5 false] [4,5] (.ret)))
theorem Hx:BM Tryz.prog 132 34 [(.cell 4 29),(.tmp 5)] F7:=AH Tryz.func132
def Dh:CC:=sQ [fO 44 29 6 1,lO 45 26 44,bN 46 45 26,fO 47 127 8 0,lO 48 3 47,bB .leq 49 3 46 48 3] [2,3,4,6,8,9,26,27,28,49] (cD 49 (.skip) (.exit 2)) [2,3,4,6,8,9,26,27,28] (.block 3 (.reg [fO 50 29 6 1,lO 51 26 50,oO 52 (.buildSlice 26 1 #[(0,(.const (.int .u64 0)))]),aP 53 51 52 26 26 [5],fO 54 29 6 1,sT 26 54 53] [2,3,4,6,8,9,26,27,28]))
def Dm:CC:=sR [bB .lss 29 3 28 27 3] [2,3,4,6,26,27,28,29] (.seq (cD 29 (.skip) (.exit 0)) (.keep [2,3,4,6,26,27,28] (.seq (.block 1 (sR [iO 30 69 26 28,lO 31 127 30,aL 8 127 [4],sT 127 8 31] [2,3,4,6,8,26,27,28] (sR [lO 32 29 3,fO 33 127 8 0,lO 34 3 33,cB 35 155 32 34 29 3,aO 9 35] [2,3,4,6,8,9,26,27,28] (sQ [mO 36 9,fO 37 127 8 1,lO 38 5 37,⟨some 39,(cL 173 #[(.const (.int .u64 0)),(xT 36),(xT 38)] #[101,101,5]),none,[],3,[],true⟩,fO 40 127 8 2,⟨some 41,(lD 101 40),none,[],5,[3],false⟩,bB .neq 42 101 39 41 101] [2,3,4,6,8,9,26,27,28,42] (cD 42 (sR [oO 43 (.build 29 #[]),sT 29 4 43,aB 5 false] [4,5] (.ret)) (.skip)) [2,3,4,6,8,9,26,27,28] (.seq (.block 2 (.loop Dh)) (.keep [2,3,4,6,8,9,26,27,28] (.reg [fO 55 29 6 1,lS 56 26 55 1,fO 57 127 8 0,lS 58 3 57 3,mO 59 9,fO 60 127 8 3,lO 61 101 60,fO 62 127 8 1,lO 63 5 62,⟨some 64,(cL 173 #[(xT 59),(xT 61),(xT 63)] #[101,101,5]),none,[],9,[1,3],false⟩,iO 65 26 56 58,sT 101 65 64] [2,3,4,6,26,27,28]))))))) (.keep [2,3,4,6,26,27,28] (.reg [bQ .add 66 3 28 1 3,mO 28 66] [2,3,4,6,26,27,28])))))
def Dl:CC:=sQ [fO 87 29 6 2,lO 88 27 87,bN 89 88 27,fO 90 131 11 0,lO 91 3 90,bB .leq 92 3 89 91 3] [3,4,6,11,12,68,69,70,92] (cD 92 (.skip) (.exit 6)) [3,4,6,11,12,68,69,70] (.block 7 (.reg [fO 93 29 6 2,lO 94 27 93,oO 95 (.build 29 #[]),oO 96 (.buildSlice 27 1 #[(0,(xT 95))]),aP 97 94 96 27 27 [8],fO 98 29 6 2,sT 27 98 97] [3,4,6,11,12,68,69,70]))
def Du:CC:=sR [bB .lss 71 3 70 69 3] [3,4,6,68,69,70,71] (.seq (cD 71 (.skip) (.exit 4)) (.keep [3,4,6,68,69,70] (.seq (.block 5 (sR [iO 72 70 68 70,lO 73 131 72,aL 11 131 [6],sT 131 11 73] [3,4,6,11,68,69,70] (sR [fO 75 131 11 1,lS 76 73 75 1,lS 77 29 3 2,fO 78 131 11 0,lS 79 3 78 4,⟨some 80,(cL 216 #[(xT 77),(xT 79)] #[29,3]),none,[],5,[1],true⟩,⟨some 81,(cL 132 #[(xT 76),(xT 80)] #[73,29]),none,[],6,[],true⟩,mO 74 81,xO 82 74 0,xO 83 74 1,⟨some 12,(.alloc 29),none,[7],10,[1,2,4,5,6],false⟩,sT 29 12 82,aO 13 83] [3,4,6,11,12,13,68,69,70] (sQ [mO 84 13,oO 85 (.unOp .not 4 (xT 84))] [3,4,6,11,12,68,69,70,85] (cD 85 (sR [oO 86 (.build 29 #[]),sT 29 4 86,aB 5 false] [4,5] (.ret)) (.skip)) [3,4,6,11,12,68,69,70] (.seq (.block 6 (.loop Dl)) (.keep [3,4,6,11,12,68,69,70] (.reg [fO 99 29 6 2,lO 100 27 99,fO 101 131 11 0,lO 102 3 101,lO 103 29 12,iO 104 27 100 102,sT 29 104 103] [3,4,6,68,69,70]))))))) (.keep [3,4,6,68,69,70] (.reg [bQ .add 105 3 70 1 3,mO 70 105] [3,4,6,68,69,70]))))) 
def HC:CC:=sR [bX 2 73 0 [0],bX 3 29 1 [1],aL 4 29 [2],aB 5 false] [2,3,4] (sQ [fO 14 29 3 0,lO 15 3 14,bQ .neq 16 3 15 1 3] [2,3,4,16] (cD 16 (sR [oO 17 (.build 29 #[]),sT 29 4 17,aB 5 false] [4,5] (.ret)) (.skip)) [2,3,4] (sR [fO 18 29 3 1,lS 19 26 18 1,⟨some 20,(cL 43 #[(xT 19)] #[26]),none,[],2,[],true⟩,fO 21 29 3 2,⟨some 22,(lD 27 21),none,[],4,[2],true⟩,⟨some 23,(cL 217 #[(xT 22)] #[27]),none,[],5,[],true⟩,oO 24 (.build 29 #[(0,(nI 1)),(1,(xT 20)),(2,(xT 23))]),⟨some 6,(.alloc 29),none,[3],7,[1,2,4,5],false⟩,sT 29 6 24] [2,3,4,6] (sQ [fO 25 73 2 3,lO 26 69 25,bN 27 26 69,oO 28 (.move (nI 0))] [2,3,4,6,26,27,28] (.block 0 (.loop Dm)) [2,3,4,6] (sQ [fO 67 73 2 4,lO 68 70 67,bN 69 68 70,oO 70 (.move (nI 0))] [3,4,6,68,69,70] (.block 4 (.loop Du)) [4,6] (sR [lO 106 29 6,sT 29 4 106,aB 5 true] [4,5] (.ret))))))
theorem LX:BM Tryz.prog 177 107 [(.cell 4 29),(.tmp 5)] HC:=AH Tryz.func177
def FO:CC:=sQ [mO 51 10,mO 52 7,bN 53 52 27,bB .gtr 54 3 51 53 3] [4,6,7,9,10,26,27,28,54] (cD 54 (sR [oO 55 (.build 29 #[]),sT 29 4 55,aB 5 false] [4,5] (.ret)) (.skip)) [4,6,7,9,10,26,27,28] (sR [aN 11] [4,6,7,9,10,26,27,28] (sR [mO 56 7,mO 57 10,oO 58 (.slice 27 (xT 56) none (some (xT 57)) none),mO 59 7,mO 60 10,oO 61 (.slice 27 (xT 59) (some (xT 60)) none none),aO 11 58,aO 7 61] [4,6,7,9,11,26,27,28] (.block 3 (sR [fO 81 133 9 0,lO 82 3 81,bQ .eql 83 3 82 0 3,aO 80 83] [4,6,7,9,11,26,27,28,80] (cD 80 (.reg [fO 84 29 6 2,lO 85 27 84,mO 86 11,aP 87 85 86 27 27 [6],fO 88 29 6 2,sT 27 88 87] [4,6,7,26,27,28]) (sR [fO 90 133 9 0,lO 91 3 90,bQ .eql 92 3 91 1 3,aO 89 92] [4,6,7,9,11,26,27,28,89] (cD 89 (sR [fO 93 133 9 2,lO 94 27 93,mO 95 11,oO 96 (cL 218 #[(xT 94),(xT 95),(.func 176)] #[27,27,252]),oO 97 (.unOp .not 4 (xT 96))] [4,6,7,26,27,28,97] (cD 97 (sR [oO 98 (.build 29 #[]),sT 29 4 98,aB 5 false] [4,5] (.ret)) (.skip))) (sR [fO 63 133 9 3,lS 64 73 63 1,mO 65 11,oO 66 (.indexAddr 27 (xT 65) (nI 0)),lS 67 29 66 4,⟨some 68,(cL 132 #[(xT 64),(xT 67)] #[73,29]),none,[],5,[],true⟩,mO 62 68,xO 69 62 0,xO 70 62 1,⟨some 12,(.alloc 29),none,[7],9,[1,4,5],false⟩,sT 29 12 69,aO 13 70] [4,6,7,12,13,26,27,28] (sQ [mO 71 13,oO 72 (.unOp .not 4 (xT 71))] [4,6,7,12,26,27,28,72] (cD 72 (sR [oO 73 (.build 29 #[]),sT 29 4 73,aB 5 false] [4,5] (.ret)) (.skip)) [4,6,7,12,26,27,28] (.reg [fO 74 29 6 2,lO 75 27 74,lO 76 29 12,oO 77 (.buildSlice 27 1 #[(0,(xT 76))]),aP 78 75 77 27 27 [8],fO 79 29 6 2,sT 27 79 78] [4,6,7,26,27,28]))))))))))
def FJ:CC:=sR [bB .lss 29 3 28 27 3] [4,6,7,26,27,28,29] (.seq (cD 29 (.skip) (.exit 0)) (.keep [4,6,7,26,27,28] (.seq (.block 1 (sR [iO 30 71 26 28,lO 31 133 30,aL 9 133 [4],sT 133 9 31] [4,6,7,9,26,27,28] (sR [fO 32 133 9 1,lO 33 3 32,aO 10 33] [4,6,7,9,10,26,27,28] (sQ [fO 34 133 9 0,lO 35 3 34] [4,6,7,9,10,26,27,28,35] (.block 2 (sR [bQ .eql 37 3 35 2 3,aO 36 37] [4,6,7,9,10,26,27,28,35,36] (cD 36 (sR [fO 38 29 6 2,lO 39 27 38,fO 40 133 9 2,lO 41 27 40,aP 42 39 41 27 27 [5],fO 43 29 6 2,sT 27 43 42] [4,6,7,26,27,28] (.exit 1)) (sR [bQ .eql 45 3 35 1 3,aO 44 45] [4,6,7,9,10,26,27,28,35,44] (cD 44 (.reg [fO 46 133 9 2,lO 47 27 46,bN 48 47 27,aO 10 48] [4,6,7,9,10,26,27,28]) (sR [bQ .eql 50 3 35 3 3,aO 49 50] [4,6,7,9,10,26,27,28,49] (cD 49 (.reg [aI 10 1] [4,6,7,9,10,26,27,28]) (.skip)))))))) [4,6,7,9,10,26,27,28] FO)))) (.keep [4,6,7,26,27,28] (.reg [bQ .add 99 3 28 1 3,mO 28 99] [4,6,7,26,27,28]))))) 
def MF:CC:=sR [bX 2 73 0 [0],bX 3 29 1 [1],aL 4 29 [2],aB 5 false] [2,3,4] (sQ [fO 14 29 3 0,lO 15 3 14,fO 16 73 2 5,lO 17 3 16,bB .neq 18 3 15 17 3] [2,3,4,18] (cD 18 (sR [oO 19 (.build 29 #[]),sT 29 4 19,aB 5 false] [4,5] (.ret)) (.skip)) [2,3,4] (sR [fO 20 29 3 0,lO 21 3 20,oO 22 (.build 29 #[(0,(xT 21))]),aL 6 29 [3],sT 29 6 22] [2,3,4,6] (sR [fO 23 29 3 2,lO 24 27 23,aO 7 24] [2,4,6,7] (sQ [fO 25 73 2 6,lO 26 71 25,bN 27 26 71,oO 28 (.move (nI 0))] [4,6,7,26,27,28] (.block 0 (.loop FJ)) [4,6,7] (sR [lO 100 29 6,mO 101 7,bN 102 101 27,bQ .eql 103 3 102 0 3,sT 29 4 100,aO 5 103] [4,5] (.ret))))))
theorem Tw:BM Tryz.prog 178 104 [(.cell 4 29),(.tmp 5)] MF:=AH Tryz.func178
def ME:CC:=sR [bX 2 73 0 [0],bX 3 29 1 [1],aL 4 29 [2],aB 5 false] [2,3,4] (sR [lO 9 73 2,lO 10 29 3,cB 11 132 9 10 73 29,mO 8 11,xO 12 8 0,xO 13 8 1,aL 6 29 [3],sT 29 6 12,aO 7 13] [4,6,7] (sQ [mO 14 7,oO 15 (.unOp .not 4 (xT 14))] [4,6,15] (cD 15 (sR [oO 16 (.build 29 #[]),sT 29 4 16,aB 5 false] [4,5] (.ret)) (.skip)) [4,6] (sR [lO 17 29 6,cA 18 23 17 29,sT 29 4 18,aB 5 true] [4,5] (.ret))))
theorem TQ:BM Tryz.prog 92 19 [(.cell 4 29),(.tmp 5)] ME:=AH Tryz.func92
@[simp] theorem Ad9:Tryz.prog.underlying 4=some .bool:=by kernel_rfl
@[simp] theorem zt:Tryz.prog.underlying 259=some (.slice 263):=by kernel_rfl
@[simp] theorem Abe:B2 Tryz.prog 263=some 29:=by kernel_rfl
@[simp] theorem tE:A1 Tryz.prog 263=some (Value.agg #[Value.int i64 0,Value.int i64 0,Value.int i64 0,Value.slice none 0 0,Value.int i64 0,Value.int i64 0,Value.slice none 0 0,Value.slice none 0 0,Value.int i64 0,Value.slice none 0 0,Value.slice none 0 0,Value.slice none 0 0,Value.slice none 0 0,Value.int i64 0,Value.slice none 0 0,Value.int i64 0,Value.int i64 0,Value.slice none 0 0,Value.int i64 0,Value.int i64 0,Value.slice none 0 0,Value.slice none 0 0,Value.int i64 0,Value.slice none 0 0,Value.slice none 0 0,Value.slice none 0 0,Value.slice none 0 0,Value.int i64 0,Value.slice none 0 0]):=by kernel_rfl
@[simp] theorem pM:BF Tryz.prog 263=some 488:=by kernel_rfl
@[simp] theorem cS:Ah Tryz.prog 302 0=some 0:=by kernel_rfl
@[simp] theorem cf:Ah Tryz.prog 302 1=some 1:=by kernel_rfl
@[simp] theorem qR (ps:List (Nat × A)):Bw Tryz.prog 263 ps=(BU (fun i=>([(0,1),(1,14),(15,14)]:List (Nat × Nat))[i]?) [A.v (Value.int i64 0),A.v (Value.int i64 0),A.v (Value.int i64 0),A.sl true [],A.v (Value.int i64 0),A.v (Value.int i64 0),A.sl true [],A.sl true [],A.v (Value.int i64 0),A.sl true [],A.sl true [],A.sl true [],A.sl true [],A.v (Value.int i64 0),A.sl true [],A.v (Value.int i64 0),A.v (Value.int i64 0),A.sl true [],A.v (Value.int i64 0),A.v (Value.int i64 0),A.sl true [],A.sl true [],A.v (Value.int i64 0),A.sl true [],A.sl true [],A.sl true [],A.sl true [],A.v (Value.int i64 0),A.sl true []] ps).map A.agg:=by kernel_rfl
@[simp] theorem oB (ps:List (Nat × A)):Bw Tryz.prog 302 ps=(BU (fun i=>([(0,1),(1,1)]:List (Nat × Nat))[i]?) [A.sl true [],A.v (Value.int i64 0)] ps).map A.agg:=by kernel_rfl
@[simp] theorem AaI:B2 Tryz.prog 216=some 1:=by kernel_rfl
@[simp] theorem vO:Cu Tryz.prog 216=some false:=by kernel_rfl
@[simp] theorem uy:Cu Tryz.prog 263=some true:=by kernel_rfl
@[simp] theorem cO:Ah Tryz.prog 218 0=some 0:=by kernel_rfl
@[simp] theorem cJ:Ah Tryz.prog 218 1=some 1:=by kernel_rfl
@[simp] theorem cX:Ah Tryz.prog 263 0=some 0:=by kernel_rfl
@[simp] theorem dm:Ah Tryz.prog 263 1=some 1:=by kernel_rfl
@[simp] theorem cb:Ah Tryz.prog 263 2=some 15:=by kernel_rfl
@[simp] theorem cG:Ah Tryz.prog 309 0=some 0:=by kernel_rfl
@[simp] theorem bS:Ah Tryz.prog 309 1=some 1:=by kernel_rfl
@[simp] theorem cg:Ah Tryz.prog 309 2=some 2:=by kernel_rfl
@[simp] theorem cT:Ah Tryz.prog 309 3=some 3:=by kernel_rfl
@[simp] theorem dh:Ah Tryz.prog 309 4=some 4:=by kernel_rfl
@[simp] theorem oJ (ps:List (Nat × A)):Bw Tryz.prog 218 ps=(BU (fun i=>([(0,1),(1,1)]:List (Nat × Nat))[i]?) [A.v (Value.bool false),A.v (Value.bool false)] ps).map A.agg:=by kernel_rfl
@[simp] theorem p5 (ps:List (Nat × A)):Bw Tryz.prog 309 ps=(BU (fun i=>([(0,1),(1,1),(2,1),(3,1),(4,1)]:List (Nat × Nat))[i]?) [A.v (Value.pointer none),A.sl true [],A.sl true [],A.sl true [],A.sl true []] ps).map A.agg:=by kernel_rfl
end Go.Proofs.YtgkdikddjfgajaaGreatDoor
