/-
 Texts,merged,without what is not reached.
-/
import Derived.Test.YtbjmaoedheiigaaGreatKBc
set_option linter.unusedSimpArgs false
set_option linter.unusedVariables false
open Go.IntKind (i64 u64)
namespace Go.G
open Go.RowKit
structure Fam where
 F:Nat→Nm→VOb
 ren:∀ {g:Nm→Nm} {δ:Nm→Nat} {r r':Nat},(∀ p,g (r::p)=r'::p)→(∀ p,δ (r::p)=0)→∀ p,(F r p).ren g δ 0=F r' p
 refs:∀ {D:Nm→Prop} {r:Nat},(∀ p,D (r::p))→∀ p,(F r p).ob.refs D
def Fam.no:Fam:=⟨fun _ _=>⟨0,.none⟩,fun _ _ _=>rfl,fun _ _=>trivial⟩
@[simp] theorem Fam.no_F {r:Nat} {p:Nm}:Fam.no.F r p=⟨0,.none⟩:=rfl
structure EU (a:Nat→A):Prop where
 ren:∀ {g:Nm→Nm} {δ:Nm→Nat} {r r':Nat},(∀ p,g (r::p)=r'::p)→(∀ p,δ (r::p)=0)→(a r).ren g δ=a r'
 refs:∀ {D:Nm→Prop} {r:Nat},(∀ p,D (r::p))→(a r).refs D
structure FamL (a:Nat→List A):Prop where
 ren:∀ {g:Nm→Nm} {δ:Nm→Nat} {r r':Nat},(∀ p,g (r::p)=r'::p)→(∀ p,δ (r::p)=0)→A.renL g δ (a r)=a r'
 refs:∀ {D:Nm→Prop} {r:Nat},(∀ p,D (r::p))→A.refsL D (a r)
@[simp] theorem Am:FamL (fun _=>[]):=⟨fun _ _=>by simp[A.renL],fun _=>by simp[A.refsL]⟩
theorem Af {a:Nat→A} {l:Nat→List A} (h:EU a) (k:FamL l):FamL (fun r=>a r::l r):=⟨fun h1 h2=>by simp[A.renL,h.ren h1 h2,k.ren h1 h2],fun h1=>by simp only[A.refsL];exact⟨h.refs h1,k.refs h1⟩⟩
@[simp] theorem va {a:Nat→A} {l:Nat→List A} (h:EU a):FamL (fun r=>a r::l r)=FamL l:=by
 refine propext ⟨fun k=>⟨fun h1 h2=>?_,fun h1=>?_⟩,Af h⟩
 ·have:=k.ren h1 h2;simp only[A.renL,List.cons.injEq] at this;exact this.2
 ·have:=k.refs h1;simp only[A.refsL] at this;exact this.2
theorem FamL.all {l:List A} (h:∀ x,x ∈ l→EU (fun _=>x)):FamL (fun _=>l):=by
 induction l with
 |nil=>simp
 |cons x l ih=>exact Af (h x (by simp)) (ih fun y hy=>h y (by simp[hy]))
@[simp] theorem AeH:EU (fun _=>.any):=⟨fun _ _=>by simp[A.ren],fun _=>by simp[A.refs]⟩
@[simp] theorem Au {x:Value}:EU (fun _=>.v x):=⟨fun _ _=>by simp[A.ren],fun _=>by simp[A.refs]⟩
@[simp] theorem Dl {f:Bool} {xs:List A}:EU (fun _=>.sl f xs):=⟨fun _ _=>by simp[A.ren],fun _=>by simp[A.refs]⟩
@[simp] theorem Adv {xs:List A}:EU (fun _=>.pim xs):=⟨fun _ _=>by simp[A.ren],fun _=>by simp[A.refs]⟩
@[simp] theorem AJ {u off:Nat} {q:Nm}:EU (fun r=>.pob (r::q) u off):=⟨fun h1 h2=>by simp[A.ren,h1,h2],fun h=>by simp[A.refs,h]⟩
@[simp] theorem Cu {u sz off len:Nat} {q:Nm}:EU (fun r=>.osl (r::q) u sz off len):=⟨fun h1 h2=>by simp[A.ren,h1,h2],fun h=>by simp[A.refs,h]⟩
@[simp] theorem ti {l:Nat→List A} (h:FamL l):EU (fun r=>.agg (l r)):=⟨fun h1 h2=>by simp[A.ren,h.ren h1 h2],fun h1=>by simp only[A.refs];exact h.refs h1⟩
@[simp] theorem Bz {l:Nat→List A} (h:FamL l):EU (fun r=>.tup (l r)):=⟨fun h1 h2=>by simp[A.ren,h.ren h1 h2],fun h1=>by simp only[A.refs];exact h.refs h1⟩
@[simp] theorem dx {f:FuncId} {l m:Nat→List A} (h:FamL l) (k:FamL m):EU (fun r=>.fnc f (l r) (m r)):=⟨fun h1 h2=>by simp[A.ren,h.ren h1 h2,k.ren h1 h2],fun h1=>by simp only[A.refs];exact⟨h.refs h1,k.refs h1⟩⟩
@[simp] theorem Pd {t:TypeId} {a:Nat→A} (h:EU a):EU (fun r=>.ifc t (a r)):=⟨fun h1 h2=>by simp[A.ren,h.ren h1 h2],fun h1=>by simp only[A.refs];exact h.refs h1⟩
theorem jh {a:A} (h:a.bare1=true):EU (fun _=>a):=by cases a<;>simp[A.bare1] at h ⊢
theorem Ez {a:A} {cs:List A} (ha:a = .agg cs) (h:∀ x,x ∈ cs→x.bare1=true):EU (fun _=>a):=by
 subst ha;exact ti (l:=fun _=>cs) (FamL.all fun x hx=>jh (h x hx))
theorem Fam.cells_ren {g:Nm→Nm} {δ:Nm→Nat} {u:Nat} {l l':List A} (h:A.renL g δ l=l'):VOb.ren g δ 0 ⟨u,.cells l⟩=⟨u,.cells l'⟩:=by simp[VOb.ren,Ob.ren,h]
theorem Fam.arr_ren {g:Nm→Nm} {δ:Nm→Nat} {u sz:Nat} {l l':List A} (h:A.renL g δ l=l'):VOb.ren g δ 0 ⟨u,.arr sz l⟩=⟨u,.arr sz l'⟩:=by simp[VOb.ren,Ob.ren,h]
structure Bh (P:Program) (f:FuncId) (as':Nat→List A) (F:Fam) (x:Nat→A) (F':Fam):Prop where
 fa:FamL as'
 fx:EU x
 h:Jc P f 1 (as' 0) (ov 0 (F.F 0) (EH [])) (x 0) (ov 0 (F'.F 0) (EH []))
section
variable {P:Program} {K:Sta→Prop} {rest:List CO} {s:Nat→A} {H:Hp} {dd:Option Nat} {nm:Nm} {ix:Nat} {un:List Nat} {l:Bool} {lg:Lg} {g:FuncId} {aa:Array Operand} {ts:Array TypeId}
theorem jZ {r:Nat} {F:Fam} (hF:∀ p,H (r::p)=F.F r p):Mg [r] 1 H=ov 0 (F.F 0) (EH []):=by
 funext o;cases o with
 |nil=>rfl
 |cons i p=>
  by_cases hi:i<1
  ·have:i=0:=by omega
   subst this;simp only[Mg,if_pos hi,AZ,if_true];show(H (r::p)).ren _ _ 0=_;rw[hF];exact F.ren (fun q=>by simp[YJ]) (fun _=>rfl) p
  ·simp only[Mg,if_neg hi,AZ];rw[if_neg (by omega)];rfl
theorem Z6 {r:Nat} {F':Fam}:Nx [r] (OY [r] 1 H) H (ov 0 (F'.F 0) (EH []))=ov r (F'.F r) H:=by
 have hd:∀ p,OY [r] 1 H (0::p)=0:=fun p=>rfl;funext o;cases o with
 |nil=>rfl
 |cons j p=>
  by_cases hj:j=r
  ·subst hj;simp only[Nx,AZ,if_true];rw[if_pos (by simp)];have:[j].idxOf j=0:=by simp
   rw[this,if_pos rfl,hd];exact F'.ren (fun q=>by simp[VI]) hd p
  ·have:¬ [r].contains j=true:=by simpa using hj
   simp only[Nx,if_neg this,AZ,if_neg hj]
theorem RL {r:Nat} {F:Fam} (hF:∀ p,H (r::p)=F.F r p):Wi [r] 1 H:=by
 intro j p hj;have hjr:j=r:=by
  have:=(idx_mem (rs:=[r])).1 (by simpa using hj);simpa using this
 rw[hjr,hF];exact F.refs (fun q=>by simp[Yv]) p
theorem WR {F':Fam} (i:Nat) (p:Nm) (hi:i<1):((ov 0 (F'.F 0) (EH [])) (i::p)).ob.refs (Iu 1):=by
 have:i=0:=by omega
 subst this;simp only[AZ,if_true];exact F'.refs (fun q=>by simp[Iu]) p
theorem Aw {as':Nat→List A} {F F':Fam} {x:Nat→A} (r:Nat) (hS:Bh P g as' F x F') (hF:∀ p,H (r::p)=F.F r p) (ha:aa.toList.map (evs s)=as' r) (hck:Ck un lg ⟨[],[([r],true)]⟩)
  (h:AB P K rest (BV l ix ⟨[],[([r],true)]⟩ lg) (Sta.put ⟨s,H⟩ dd (x r) (ov r (F'.F r) H))) :
  AB P K (⟨dd,.call { callee:=.value (.func g),args:=aa,argTypes:=ts },none,nm,ix,un,l⟩::rest) lg ⟨s,H⟩:=by
 have hd:∀ p,OY [r] 1 H (0::p)=0:=fun p=>rfl;refine Ol [r] 1 hS.h (by simp) (by simp) ?_ ?_ (jZ hF) (RL hF) (hS.fx.refs (fun p=>by simp[Iu])) (fun i p hi=>WR i p hi) (fun i p h1 h2=>by simp at h2;omega) (hS.fx.ren (fun q=>by simp[VI]) hd) Z6 hck h
 ·rw[ha];exact hS.fa.ren (fun q=>by simp[YJ]) (fun _=>rfl)
 ·rw[ha];exact hS.fa.refs (fun q=>by simp[Yv])
theorem Wc {as':Nat→List A} {F F':Fam} {x:Nat→A} {fo:Operand} {fs caps:List A} (r:Nat) (hv0:evs s fo = .fnc g fs caps) (hS:Bh P g as' F x F') (hF:∀ p,H (r::p)=F.F r p) (ha:fs++(aa.toList.map (evs s)++caps)=as' r) (hck:Ck un lg ⟨[],[([r],true)]⟩)
  (h:AB P K rest (BV l ix ⟨[],[([r],true)]⟩ lg) (Sta.put ⟨s,H⟩ dd (x r) (ov r (F'.F r) H))) :
  AB P K (⟨dd,.call { callee:=.value fo,args:=aa,argTypes:=ts },none,nm,ix,un,l⟩::rest) lg ⟨s,H⟩:=by
 have hd:∀ p,OY [r] 1 H (0::p)=0:=fun p=>rfl;refine ZB hv0 ha [r] 1 hS.h (by simp) (by simp) (hS.fa.ren (fun q=>by simp[YJ]) (fun _=>rfl)) (hS.fa.refs (fun q=>by simp[Yv])) (jZ hF) (RL hF) (hS.fx.refs (fun p=>by simp[Iu])) (fun i p hi=>WR i p hi) (fun i p h1 h2=>by simp at h2;omega) (hS.fx.ren (fun q=>by simp[VI]) hd) Z6 hck h
end
section
variable {P:Program} {K:Sta→Prop} {rest:List CO} {s:Nat→A} {H:Hp} {dd:Option Nat} {nm:Nm} {ix:Nat} {un:List Nat} {l:Bool} {lg:Lg} {g:FuncId} {aa:Array Operand} {ts:Array TypeId}
theorem Y5 {as':Nat→List A} {F F':Fam} {x:Nat→A} (r:Nat) (hS:Bh P g as' F x F') (hF:∀ p,H (r::p)=F.F r p):∃ E,Y4 P H g (as' r) (x r) E [] [([r],true)]∧E.app H=ov r (F'.F r) H:=by
 have hd:∀ p,OY [r] 1 H (0::p)=0:=fun p=>rfl;have:=xb (H:=H) (L:=as' r) [r] 1 hS.h (by simp) (by simp) (hS.fa.ren (fun q=>by simp[YJ]) (fun _=>rfl)) (hS.fa.refs (fun q=>by simp[Yv])) (jZ hF) (RL hF) (hS.fx.refs (fun p=>by simp[Iu])) (fun i p hi=>WR i p hi) (fun i p h1 h2=>by simp at h2;omega) Z6;have e:A.ren (VI [r]) (OY [r] 1 H) (x 0)=x r:=hS.fx.ren (fun q=>by simp[VI]) hd;rw[e] at this;exact this
theorem IL {as':Nat→List A} {F F':Fam} {x:Nat→A} {ro:Operand} {name:String} {t:TypeId} {a a':A} {d:Option TypeId} (r:Nat) (hS:Bh P g as' F x F') (hF:∀ p,H (r::p)=F.F r p) (hr:evs s ro = .ifc t a) (hm:QE P t name=some (g,d)) (ha:Zg P H d a=some a') (hL:a'::aa.toList.map (evs s)=as' r)
  (hck:Ck un lg ⟨refs a++[],[([r],true)]⟩) (h:AB P K rest (BV l ix ⟨refs a++[],[([r],true)]⟩ lg) (Sta.put ⟨s,H⟩ dd (x r) (ov r (F'.F r) H))) :
  AB P K (⟨dd,.call { callee:=.invoke ro name,args:=aa,argTypes:=ts },none,nm,ix,un,l⟩::rest) lg ⟨s,H⟩:=
 Aa0 hr hm ha hL (Y5 r hS hF) hck h
end
theorem AfA {r:Nat} {F F':Nm→VOb} {H:Hp}:ov r F (ov r F' H)=ov r F H:=by
 funext o;cases o with
 |nil=>rfl
 |cons j p=>by_cases hj:j=r<;>simp[hj]
@[simp] theorem AhC {r:Nat} {F F':Nm→VOb} {H:Hp}:ov r F (ov r F' H)=ov r F H:=AfA
theorem AE {P:Program} {f:FuncId} {n:Nat} {rs:List ResultVar} {cc:CC} {as':Nat→List A} {F F':Fam} {x:Nat→A} (t:Ba P f n rs cc) (ha:(as' 0).length≤n) (h0:FamL as') (h1:EU x)
  (h:∀ w0 I0 M0 m0,WPC (DG P w0 I0 M0 n m0) cc (Nt (DG P w0 I0 M0 n m0) rs 1 (x 0) (ov 0 (F'.F 0) (EH []))) ⟨Rz (as' 0),ov 0 (F.F 0) (EH [])⟩):Bh P f as' F x F':=
 ⟨h0,h1,Jf t ha h⟩
theorem AM {c:Cx} {rs:List ResultVar} {x:A} {F':Nm→VOb} {r0:A} {st:Sta} (h:O7 c.P st rs=some r0) (he:r0=x) (hh:∀ p,st.H (0::p)=F' p):Nt c rs 1 x (ov 0 F' (EH [])) .ret st:=
 FZ h he fun i p hi=>by
  have:i=0:=by omega
  subst this;rw[hh];simp
theorem AX {c:Cx} {rs:List ResultVar} {x:A} {F':Nm→VOb} {r0:A} {st:Sta} (h:O7 c.P st rs=some r0) (he:r0=x) (hh:∀ p,st.H (0::p)=F' p):Nt c rs 1 x (ov 0 F' (EH [])) .normal st:=
 Pa h he fun i p hi=>by
  have:i=0:=by omega
  subst this;rw[hh];simp
structure Vx (a:Nat→Nat→A):Prop where
 ren:∀ {g:Nm→Nm} {δ:Nm→Nat} {r r' q q':Nat},(∀ p,g (r::p)=r'::p)→(∀ p,δ (r::p)=0)→(∀ p,g (q::p)=q'::p)→(∀ p,δ (q::p)=0)→(a r q).ren g δ=a r' q'
 refs:∀ {D:Nm→Prop} {r q:Nat},(∀ p,D (r::p))→(∀ p,D (q::p))→(a r q).refs D
structure SY (a:Nat→Nat→List A):Prop where
 ren:∀ {g:Nm→Nm} {δ:Nm→Nat} {r r' q q':Nat},(∀ p,g (r::p)=r'::p)→(∀ p,δ (r::p)=0)→(∀ p,g (q::p)=q'::p)→(∀ p,δ (q::p)=0)→A.renL g δ (a r q)=a r' q'
 refs:∀ {D:Nm→Prop} {r q:Nat},(∀ p,D (r::p))→(∀ p,D (q::p))→A.refsL D (a r q)
@[simp] theorem A5:SY (fun _ _=>[]):=⟨fun _ _ _ _=>by simp[A.renL],fun _ _=>by simp[A.refsL]⟩
theorem Aq {a:Nat→Nat→A} {l:Nat→Nat→List A} (h:Vx a) (k:SY l):SY (fun r q=>a r q::l r q):=⟨fun h1 h2 h3 h4=>by simp[A.renL,h.ren h1 h2 h3 h4,k.ren h1 h2 h3 h4],fun h1 h2=>by simp only[A.refsL];exact⟨h.refs h1 h2,k.refs h1 h2⟩⟩
theorem A0 {a:Nat→A} (h:EU a):Vx (fun r _=>a r):=⟨fun h1 h2 _ _=>h.ren h1 h2,fun h1 _=>h.refs h1⟩
theorem Tu {a:Nat→A} (h:EU a):Vx (fun _ q=>a q):=⟨fun _ _ h1 h2=>h.ren h1 h2,fun _ h1=>h.refs h1⟩
theorem BK {l:Nat→Nat→List A} (h:SY l):Vx (fun r q=>.tup (l r q)):=⟨fun h1 h2 h3 h4=>by simp[A.ren,h.ren h1 h2 h3 h4],fun h1 h2=>by simp only[A.refs];exact h.refs h1 h2⟩
structure fX (P:Program) (f:FuncId) (as':Nat→List A) (F:Fam) (x:Nat→Nat→A) (F' N:Fam):Prop where
 fa:FamL as'
 fx:Vx x
 n:∀ p,(N.F 1 p).ob = .none∨1≤(N.F 1 p).u
 h:Jc P f 2 (as' 0) (ov 0 (F.F 0) (EH [])) (x 0 1) (ov 0 (F'.F 0) (ov 1 (N.F 1) (EH [])))
section
variable {P:Program} {K:Sta→Prop} {rest:List CO} {s:Nat→A} {H:Hp} {dd:Option Nat} {nm:Nm} {ix:Nat} {un:List Nat} {l:Bool} {lg:Lg} {g:FuncId} {aa:Array Operand} {ts:Array TypeId}
theorem Se {as':Nat→List A} {F F' N:Fam} {x:Nat→Nat→A} (r q:Nat) (hrq:r ≠ q) (hS:fX P g as' F x F' N) (hF:∀ p,H (r::p)=F.F r p) (hq:∀ p,(H (q::p)).u=0) (ha:aa.toList.map (evs s)=as' r) (hck:Ck un lg ⟨[],[([r],true),([q],true)]⟩)
  (h:AB P K rest (BV l ix ⟨[],[([r],true),([q],true)]⟩ lg) (Sta.put ⟨s,H⟩ dd (x r q) (ov r (F'.F r) (ov q (N.F q) H)))) :
  AB P K (⟨dd,.call { callee:=.value (.func g),args:=aa,argTypes:=ts },none,nm,ix,un,l⟩::rest) lg ⟨s,H⟩:=by
 have hd:∀ p,OY [r,q] 1 H (0::p)=0:=fun p=>rfl;have hd1:∀ p,OY [r,q] 1 H (1::p)=0:=fun p=>by
  simp only[OY];rw[if_neg (by omega),if_pos (by simp)];exact hq p
 have i0:[r,q].idxOf r=0:=by simp
 have i1:[r,q].idxOf q=1:=by simp[List.idxOf_cons,beq_eq_false_iff_ne.2 hrq]
 refine Ol [r,q] 1 hS.h (by simp[hrq]) (by simp) ?_ ?_ ?_ ?_ (hS.fx.refs (fun p=>by simp[Iu]) (fun p=>by simp[Iu])) ?_ ?_ (hS.fx.ren (fun p=>by simp[VI]) hd (fun p=>by simp[VI]) hd1) ?_ hck h
 ·rw[ha];exact hS.fa.ren (fun p=>by simp[YJ]) (fun _=>rfl)
 ·rw[ha];exact hS.fa.refs (fun p=>by simp[Yv])
 ·funext o;cases o with
  |nil=>rfl
  |cons i p=>
   by_cases hi:i<1
   ·have:i=0:=by omega
    subst this;simp only[Mg,if_pos hi,AZ,if_true];show(H (r::p)).ren _ _ 0=_;rw[hF];exact F.ren (fun q=>by simp[YJ]) (fun _=>rfl) p
   ·simp only[Mg,if_neg hi,AZ];rw[if_neg (by omega)];rfl
 ·intro j p hj;have hjr:j=r:=by
   by_cases e:r=j
   ·exact e.symm
   ·simp only[List.idxOf_cons,beq_eq_false_iff_ne.2 e] at hj;simp at hj
  rw[hjr,hF];exact F.refs (fun q=>by simp[Yv]) p
 ·intro i p hi;have hi:i<2:=hi;by_cases h0:i=0
  ·subst h0;simp only[AZ,if_true];exact F'.refs (fun q=>by simp[Iu]) p
  ·have:i=1:=by omega
   subst this;simp only[AZ,if_true];rw[if_neg (by omega)];exact N.refs (fun q=>by simp[Iu]) p
 ·intro i p hi hi2;have:i=1:=by simp at hi2;omega
  subst this;simp only[AZ,if_true];rw[if_neg (by omega)];exact hS.n p
 ·funext o;cases o with
  |nil=>rfl
  |cons j p=>
   by_cases hj:j=r
   ·subst hj;simp only[Nx,AZ,if_true];rw[if_pos (by simp),i0,if_pos rfl,hd];exact F'.ren (fun q=>by simp[VI]) hd p
   ·by_cases hj2:j=q
    ·subst hj2;simp only[Nx,AZ,if_true,if_neg hj];rw[if_pos (by simp),i1,if_neg (by omega),if_pos rfl,hd1];exact N.ren (fun q=>by simp[VI]) hd1 p
    ·have:¬ [r,q].contains j=true:=by simp[hj,hj2]
     simp only[Nx,if_neg this,AZ,if_neg hj,if_neg hj2]
end
theorem Yp {P:Program} {f:FuncId} {n:Nat} {rs:List ResultVar} {cc:CC} {as':Nat→List A} {F F' N:Fam} {x:Nat→Nat→A} (t:Ba P f n rs cc) (ha:(as' 0).length≤n) (h0:FamL as') (h1:Vx x) (hn:∀ p,(N.F 1 p).ob = .none∨1≤(N.F 1 p).u)
  (h:∀ w0 I0 M0 m0,WPC (DG P w0 I0 M0 n m0) cc (Nt (DG P w0 I0 M0 n m0) rs 2 (x 0 1) (ov 0 (F'.F 0) (ov 1 (N.F 1) (EH [])))) ⟨Rz (as' 0),ov 0 (F.F 0) (EH [])⟩):fX P f as' F x F' N:=
 ⟨h0,h1,hn,Jf t ha h⟩
theorem C7 {c:Cx} {rs:List ResultVar} {x:A} {F' N:Nm→VOb} {r0:A} {st:Sta} (h:O7 c.P st rs=some r0) (he:r0=x) (hh:∀ p,st.H (0::p)=F' p) (hn:∀ p,st.H (1::p)=N p):Nt c rs 2 x (ov 0 F' (ov 1 N (EH []))) .ret st:=
 FZ h he fun i p hi=>by
  by_cases h0:i=0
  ·subst h0;rw[hh];simp
  ·have:i=1:=by omega
   subst this;rw[hn];simp
def ta (u sz:Nat) (xs:List A) (h:∀ x,x ∈ xs→EU (fun _=>x)):Fam:=⟨fun _ p=>if p=[] then ⟨u,.arr sz xs⟩ else ⟨0,.none⟩,fun {g δ r r'} hg hd p=>by
  by_cases hp:p=[]
  ·rw[if_pos hp];exact Fam.arr_ren ((FamL.all h).ren hg hd)
  ·rw[if_neg hp];rfl,fun {D r} hD p=>by
  by_cases hp:p=[]
  ·rw[if_pos hp];exact(FamL.all h).refs hD
  ·rw[if_neg hp];trivial⟩
@[simp] theorem Ah1 {u sz:Nat} {xs:List A} {h:∀ x,x ∈ xs→EU (fun _=>x)} {r:Nat} {p:Nm}:(ta u sz xs h).F r p=if p=[] then ⟨u,.arr sz xs⟩ else ⟨0,.none⟩:=rfl
structure nA where
 B:Nat→Nat→Nm→VOb
 C:Nat→Nat→Nm→VOb
 ren:∀ {g:Nm→Nm} {δ:Nm→Nat} {r r' q q':Nat},(∀ p,g (r::p)=r'::p)→(∀ p,δ (r::p)=0)→(∀ p,g (q::p)=q'::p)→(∀ p,δ (q::p)=0)→∀ p,(B r q p).ren g δ 0=B r' q' p∧(C r q p).ren g δ 0=C r' q' p
 refs:∀ {D:Nm→Prop} {r q:Nat},(∀ p,D (r::p))→(∀ p,D (q::p))→∀ p,(B r q p).ob.refs D∧(C r q p).ob.refs D
def Fam.two (F G:Fam):nA:=⟨fun r _=>F.F r,fun _ q=>G.F q,fun h1 h2 h3 h4 p=>⟨F.ren h1 h2 p,G.ren h3 h4 p⟩,fun h1 h2 p=>⟨F.refs h1 p,G.refs h2 p⟩⟩
@[simp] theorem Ajj {F G:Fam} {r q:Nat}:(F.two G).B r q=F.F r:=rfl
@[simp] theorem Aeb {F G:Fam} {r q:Nat}:(F.two G).C r q=G.F q:=rfl
structure Iq (P:Program) (f:FuncId) (as':Nat→Nat→List A) (F:nA) (x:Nat→Nat→A) (F':nA):Prop where
 fa:SY as'
 fx:Vx x
 h:Jc P f 2 (as' 0 1) (ov 0 (F.B 0 1) (ov 1 (F.C 0 1) (EH []))) (x 0 1) (ov 0 (F'.B 0 1) (ov 1 (F'.C 0 1) (EH [])))
section
variable {P:Program} {K:Sta→Prop} {rest:List CO} {s:Nat→A} {H:Hp} {dd:Option Nat} {nm:Nm} {ix:Nat} {un:List Nat} {l:Bool} {lg:Lg} {g:FuncId} {aa:Array Operand} {ts:Array TypeId}
theorem Bp {as':Nat→Nat→List A} {F F':nA} {x:Nat→Nat→A} (r q:Nat) (hrq:r ≠ q) (hS:Iq P g as' F x F') (hF:∀ p,H (r::p)=F.B r q p) (hG:∀ p,H (q::p)=F.C r q p) (ha:aa.toList.map (evs s)=as' r q) (hck:Ck un lg ⟨[],[([r],true),([q],true)]⟩)
  (h:AB P K rest (BV l ix ⟨[],[([r],true),([q],true)]⟩ lg) (Sta.put ⟨s,H⟩ dd (x r q) (ov r (F'.B r q) (ov q (F'.C r q) H)))) :
  AB P K (⟨dd,.call { callee:=.value (.func g),args:=aa,argTypes:=ts },none,nm,ix,un,l⟩::rest) lg ⟨s,H⟩:=by
 have hd:∀ p,OY [r,q] 2 H (0::p)=0:=fun p=>rfl;have hd1:∀ p,OY [r,q] 2 H (1::p)=0:=fun p=>rfl;have i0:[r,q].idxOf r=0:=by simp
 have i1:[r,q].idxOf q=1:=by simp[List.idxOf_cons,beq_eq_false_iff_ne.2 hrq]
 have d0:∀ p,YJ [r,q] (r::p)=0::p:=fun p=>by simp[YJ]
 have d1:∀ p,YJ [r,q] (q::p)=1::p:=fun p=>by simp[YJ,i1]
 have jin:∀ {j:Nat},[r,q].idxOf j<2→j=r∨j=q:=fun {j} hj=>by
  have:=(idx_mem (rs:=[r,q])).1 (by simpa using hj);simpa using this
 refine Ol [r,q] 2 hS.h (by simp[hrq]) (by simp) ?_ ?_ ?_ ?_ (hS.fx.refs (fun p=>by simp[Iu]) (fun p=>by simp[Iu])) ?_ (fun i p h1 h2=>by simp at h2;omega) (hS.fx.ren (fun p=>by simp[VI]) hd (fun p=>by simp[VI]) hd1) ?_ hck h
 ·rw[ha];exact hS.fa.ren d0 (fun _=>rfl) d1 (fun _=>rfl)
 ·rw[ha];exact hS.fa.refs (fun p=>by simp[Yv]) (fun p=>by simp[Yv,i1])
 ·funext o;cases o with
  |nil=>rfl
  |cons i p=>
   by_cases hi:i<2
   ·simp only[Mg,if_pos hi];have h01:i=0∨i=1:=by omega
    rcases h01 with rfl | rfl
    ·show(H (r::p)).ren _ _ 0=_;rw[hF];simp only[AZ,if_true];exact(F.ren d0 (fun _=>rfl) d1 (fun _=>rfl) p).1
    ·show(H (q::p)).ren _ _ 0=_;rw[hG];simp only[AZ,if_true];rw[if_neg (by omega)];exact(F.ren d0 (fun _=>rfl) d1 (fun _=>rfl) p).2
   ·simp only[Mg,if_neg hi,AZ];rw[if_neg (by omega),if_neg (by omega)];rfl
 ·intro j p hj;rcases jin hj with rfl | rfl
  ·rw[hF];exact(F.refs (fun p=>by simp[Yv]) (fun p=>by simp[Yv,i1]) p).1
  ·rw[hG];exact(F.refs (fun p=>by simp[Yv]) (fun p=>by simp[Yv,i1]) p).2
 ·intro i p hi;have hi:i<2:=hi;by_cases h0:i=0
  ·subst h0;simp only[AZ,if_true];exact(F'.refs (fun q=>by simp[Iu]) (fun q=>by simp[Iu]) p).1
  ·have:i=1:=by omega
   subst this;simp only[AZ,if_true];rw[if_neg (by omega)];exact(F'.refs (fun q=>by simp[Iu]) (fun q=>by simp[Iu]) p).2
 ·have u0:∀ p,VI [r,q] (0::p)=r::p:=fun p=>by simp[VI]
  have u1:∀ p,VI [r,q] (1::p)=q::p:=fun p=>by simp[VI]
  funext o;cases o with
  |nil=>rfl
  |cons j p=>
   by_cases hj:j=r
   ·subst hj;simp only[Nx,AZ,if_true];rw[if_pos (by simp),i0,if_pos rfl,hd];exact(F'.ren u0 hd u1 hd1 p).1
   ·by_cases hj2:j=q
    ·subst hj2;simp only[Nx,AZ,if_true,if_neg hj];rw[if_pos (by simp),i1,if_neg (by omega),if_pos rfl,hd1];exact(F'.ren u0 hd u1 hd1 p).2
    ·have:¬ [r,q].contains j=true:=by simp[hj,hj2]
     simp only[Nx,if_neg this,AZ,if_neg hj,if_neg hj2]
end
theorem BR {P:Program} {f:FuncId} {n:Nat} {rs:List ResultVar} {cc:CC} {as':Nat→Nat→List A} {F F':nA} {x:Nat→Nat→A} (t:Ba P f n rs cc) (ha:(as' 0 1).length≤n) (h0:SY as') (h1:Vx x)
  (h:∀ w0 I0 M0 m0,WPC (DG P w0 I0 M0 n m0) cc (Nt (DG P w0 I0 M0 n m0) rs 2 (x 0 1) (ov 0 (F'.B 0 1) (ov 1 (F'.C 0 1) (EH [])))) ⟨Rz (as' 0 1),ov 0 (F.B 0 1) (ov 1 (F.C 0 1) (EH []))⟩):Iq P f as' F x F':=
 ⟨h0,h1,Jf t ha h⟩
end Go.G
namespace Go.PL
def H8 (stop:Nat→Bool) (pl:List Nat):Nat→Nat→Nat
 |0,a=>a
 |f+1,a=>if pl.getD a 0=0 then a else if stop (pl.getD a 0)=true then a else H8 stop pl f ((a+1) % pl.length)
theorem OA (a d m:Nat):((a+1) % m+d) % m=(a+(d+1)) % m:=by
 rw[Nat.mod_add_mod];congr 1;omega
theorem ZX {stop:Nat→Bool} {pl:List Nat}:∀ (f a d:Nat),a<pl.length→d<f→pl.getD ((a+d) % pl.length) 0=0 →
  H8 stop pl f a<pl.length∧(pl.getD (H8 stop pl f a) 0=0∨stop (pl.getD (H8 stop pl f a) 0)=true) ∧
   ∃ k,H8 stop pl f a=(a+k) % pl.length∧∀ e,e<k→pl.getD ((a+e) % pl.length) 0 ≠ 0∧stop (pl.getD ((a+e) % pl.length) 0)=false:=by
 intro f;induction f with
 |zero=>intro a d _ h;omega
 |succ f ih=>
  intro a d ha hd hz;unfold H8;have hself:∃ k,a=(a+k) % pl.length∧∀ e,e<k→pl.getD ((a+e) % pl.length) 0 ≠ 0∧stop (pl.getD ((a+e) % pl.length) 0)=false:=⟨0,by rw[Nat.add_zero,Nat.mod_eq_of_lt ha],fun e he=>by omega⟩;split
  ·rename_i h0;exact⟨ha,.inl h0,hself⟩
  ·rename_i h0;split
   ·rename_i h1;exact⟨ha,.inr h1,hself⟩
   ·rename_i h1;cases d with
    |zero=>rw[Nat.add_zero,Nat.mod_eq_of_lt ha] at hz;exact absurd hz h0
    |succ d=>
     obtain⟨p1,p2,k,p3,p4⟩:=ih ((a+1) % pl.length) d (Nat.mod_lt _ (by omega)) (by omega) (by rw[OA];exact hz);refine⟨p1,p2,k+1,by rw[p3,OA],fun e he=>?_⟩;cases e with
     |zero=>rw[Nat.add_zero,Nat.mod_eq_of_lt ha];exact⟨h0,by simpa using h1⟩
     |succ e=>
      have:=p4 e (by omega)
      rwa [OA] at this
structure Pl (hs:List Nat) (pl:List Nat):Prop where
 cnt:pl.countP (fun v=>v != 0)=hs.length
 vals:∀ v,v ∈ pl→v≤hs.length
 reach:∀ (c:Nat) (hc:c<hs.length),∃ d,pl[(hs[c]+d) % pl.length]? = some (c+1)∧∀ e,e<d→pl.getD ((hs[c]+e) % pl.length) 0 ≠ 0
theorem Pl.free {hs pl:List Nat} (h:Pl hs pl) (hl:hs.length<pl.length) (a:Nat):∃ d,d<pl.length∧pl.getD ((a+d) % pl.length) 0=0:=by
 have hm:∃ v,v ∈ pl∧v=0:=by
  apply Classical.byContradiction;intro hn;have:pl.countP (fun v=>v != 0)=pl.length:=List.countP_eq_length.2 fun v hv=>by
   simp only[bne_iff_ne,ne_eq];exact fun e=>hn ⟨v,hv,e⟩
  have:=h.cnt;omega
 obtain⟨v,hv,rfl⟩:=hm;obtain⟨i,hi,e⟩:=List.mem_iff_getElem.1 hv;refine⟨(i+(pl.length-a % pl.length)) % pl.length,Nat.mod_lt _ (by omega),?_⟩;have:(a+(i+(pl.length-a % pl.length)) % pl.length) % pl.length=i:=by
  rw[Nat.add_mod_mod];have h1:=Nat.mod_lt a (show 0<pl.length by omega);have h2:=Nat.div_add_mod a pl.length;have h3:a+(i+(pl.length-a % pl.length))=i+pl.length*(a / pl.length+1):=by
   rw[Nat.mul_add,Nat.mul_one];omega
  rw[h3,Nat.add_mul_mod_self_left,Nat.mod_eq_of_lt hi]
 rw[this];simp[hi,e]
theorem j4 {pl:List Nat} {a v:Nat} (ha:a<pl.length) (h0:pl.getD a 0=0) (hv:v ≠ 0):(pl.set a v).countP (fun v=>v != 0)=pl.countP (fun v=>v != 0)+1:=by
 induction pl generalizing a with
 |nil=>simp at ha
 |cons x l ih=>
  cases a with
  |zero=>
   simp at h0;subst h0;simp[hv]
  |succ a=>
   simp only[List.set_cons_succ,List.countP_cons];rw[ih (by simpa using ha) (by simpa using h0)];omega
theorem Pl.ins {hs pl:List Nat} (h:Pl hs pl) {x a k:Nat} (ha:a<pl.length) (h0:pl.getD a 0=0) (he:a=(x+k) % pl.length) (hk:∀ e,e<k→pl.getD ((x+e) % pl.length) 0 ≠ 0):Pl (hs++[x]) (pl.set a (hs.length+1)):=by
 have hmod:∀ y,y % pl.length<pl.length:=fun y=>Nat.mod_lt _ (by omega);have nz:∀ y,pl.getD (y % pl.length) 0 ≠ 0→(pl.set a (hs.length+1)).getD (y % pl.length) 0 ≠ 0:=fun y hy=>by
  have hne:a ≠ y % pl.length:=fun e=>hy (by rw[← e];exact h0);simpa[List.getD_eq_getElem?_getD,List.getElem?_set_ne hne] using hy
 refine⟨?_,fun v hv=>?_,fun c hc=>?_⟩
 ·rw[j4 ha h0 (by omega),h.cnt];simp
 ·rw[List.length_append,List.length_singleton];rcases List.mem_or_eq_of_mem_set hv with hv | rfl
  ·have:=h.vals v hv;omega
  ·omega
 ·simp only[List.length_set];by_cases hcl:c<hs.length
  ·obtain⟨d,h1,h2⟩:=h.reach c hcl;rw[List.getElem_append_left hcl];refine⟨d,?_,fun e he=>nz _ (h2 e he)⟩;have hne:a ≠ (hs[c]+d) % pl.length:=fun e=>by
    rw[← e] at h1;rw[List.getD_eq_getElem?_getD,h1] at h0;simp at h0
   rw[List.getElem?_set_ne hne,h1]
  ·have:c=hs.length:=by simp at hc;omega
   subst this;rw[List.getElem_append_right (BZ _)];simp only[Nat.sub_self,List.getElem_cons_zero];refine⟨k,?_,fun e he=>nz _ (hk e he)⟩;rw[← he,List.getElem?_set_self ha]
def insP (pl:List Nat) (x v:Nat):List Nat:=pl.set (H8 (fun _=>false) pl pl.length (x % pl.length)) v
def NX:List Nat→Nat→List Nat→List Nat
 |pl,_,[]=>pl
 |pl,i,x::hs=>NX (insP pl x (i+1)) (i+1) hs
@[simp] theorem cU {pl:List Nat} {x v:Nat}:(insP pl x v).length=pl.length:=by simp[insP]
theorem Tf:∀ {hs pl:List Nat} {i:Nat},(NX pl i hs).length=pl.length
 |[],_,_=>rfl
 |x::hs,pl,i=>by rw[NX,Tf,cU]
theorem Pl.nil (m:Nat):Pl [] (List.replicate m 0):=by
 refine⟨?_,fun v hv=>?_,fun c hc=>?_⟩
 ·simp[List.countP_replicate]
 ·simp at hv;omega
 ·simp at hc
theorem dz {stop:Nat→Bool} {pl:List Nat} {x:Nat} {hs:List Nat} (h:Pl hs pl) (hl:hs.length<pl.length) :
  H8 stop pl pl.length (x % pl.length)<pl.length∧(pl.getD (H8 stop pl pl.length (x % pl.length)) 0=0∨stop (pl.getD (H8 stop pl pl.length (x % pl.length)) 0)=true) ∧
   ∃ k,H8 stop pl pl.length (x % pl.length)=(x+k) % pl.length∧∀ e,e<k→pl.getD ((x+e) % pl.length) 0 ≠ 0∧stop (pl.getD ((x+e) % pl.length) 0)=false:=by
 obtain⟨d,h1,h2⟩:=h.free hl (x % pl.length);have:=ZX (stop:=stop) pl.length (x % pl.length) d (Nat.mod_lt _ (by omega)) h1 h2;simpa using this
theorem Pl.insP {hs pl:List Nat} (h:Pl hs pl) (hl:hs.length<pl.length) (x:Nat):Pl (hs++[x]) (insP pl x (hs.length+1)):=by
 obtain⟨h1,h2,k,h3,h4⟩:=dz (stop:=fun _=>false) (x:=x) h hl;refine h.ins h1 (h2.resolve_right (by simp)) h3 fun e he=>(h4 e he).1
theorem Pl.grow:∀ {hs2 hs pl:List Nat},Pl hs pl→hs.length+hs2.length≤pl.length→Pl (hs++hs2) (NX pl hs.length hs2)
 |[],hs,pl,h,_=>by simpa[NX] using h
 |x::hs2,hs,pl,h,hl=>by
  simp only[List.length_cons] at hl;have h1:=h.insP (by omega) x;have:=Pl.grow (hs2:=hs2) h1 (by simp;omega);rw[List.append_assoc] at this;simpa[NX] using this
noncomputable def FX (ks:List T) (n:T):Nat:=ks.findIdx (fun k=>HA k n)
noncomputable def JO (ks:List T) (n:T):List T:=if FX ks n<ks.length then ks else ks++[n]
theorem vB {ks:List T} {n:T} {i:Nat} (h:i<ks.length) (e:ks[i]=n) (hd:ks.Nodup):FX ks n=i:=by
 have h1:FX ks n≤i:=by
  apply Classical.byContradiction;intro hn;have:=List.not_of_lt_findIdx (p:=fun k=>HA k n) (xs:=ks) (i:=i) (by unfold FX at hn;omega);simp[sameB_iff.2 e] at this
 have h2:FX ks n<ks.length:=by omega
 have h3:ks[FX ks n]=n:=sameB_iff.1 (List.findIdx_getElem (p:=fun k=>HA k n) (w:=h2));apply Classical.byContradiction;intro hn;have h4:FX ks n<i:=by omega
 have:=List.pairwise_iff_getElem.1 hd _ _ h2 h h4;exact this (by rw[h3,e])
theorem Uk {ks:List T} {n:T} (h:n ∉ ks):FX ks n=ks.length:=by
 unfold FX;rw[List.findIdx_eq_length];intro x hx;rw[Bool.eq_false_iff];intro e;rw[sameB_iff] at e;subst e;exact h hx
theorem mR (ks:List T) (n:T):FX ks n≤ks.length:=List.findIdx_le_length
theorem clsI_lt {ks:List T} {n:T}:FX ks n<ks.length ↔ n ∈ ks:=by
 constructor
 ·intro h;have h3:ks[FX ks n]=n:=sameB_iff.1 (List.findIdx_getElem (p:=fun k=>HA k n) (w:=h));rw[← h3];exact Bg _
 ·intro h;have:=mR ks n;apply Classical.byContradiction;intro hn;have e:FX ks n=ks.length:=by omega
  have:=(List.findIdx_eq_length (p:=fun k=>HA k n) (xs:=ks)).1 e n h;rw[Bool.eq_false_iff] at this;exact this (sameB_iff.2 rfl)
noncomputable def Br:List T→List T→List T × List Nat
 |ks,[]=>(ks,[])
 |ks,t::l=>((Br (JO ks (Ah t)) l).1,FX ks (Ah t)::(Br (JO ks (Ah t)) l).2)
end Go.PL
namespace Go.Proofs.YtbjmaoedheiigaaGreat
open Go Go.G Go.Proofs Go.PL
structure Cl where
 l:List (List Int)
 r:Rf
 t:T
noncomputable def Cl.h (c:Cl):Int:=Ev (Ah c.t)
noncomputable def Cl.hn (c:Cl):Nat:=c.h.toNat
abbrev clL (h:Int) (l:List (List Int)) (r:Rf):List A:=uv h::Yw l r
noncomputable def Cl.a (c:Cl):A:=.agg (clL c.h c.l c.r)
abbrev nv (n:Nat):A:=iv (n:Int)
structure Tb where
 u:Nat
 uc:Nat
 up:Nat
 cl:List Cl
 pl:List Nat
noncomputable def eV (r:Nat) (S:Tb):Nm→VOb
 |[]=>⟨S.u,.cells [.osl [r,0] S.uc 9 0 S.cl.length,.osl [r,1] S.up 1 0 S.pl.length]⟩
 |[0]=>⟨S.uc,.arr 9 (S.cl.map Cl.a)⟩
 |[1]=>⟨S.up,.arr 1 (S.pl.map nv)⟩
 |_=>⟨0,.none⟩
@[simp] theorem Ahg {r:Nat} {S:Tb}:eV r S []=⟨S.u,.cells [.osl [r,0] S.uc 9 0 S.cl.length,.osl [r,1] S.up 1 0 S.pl.length]⟩:=rfl
@[simp] theorem Aja {r:Nat} {S:Tb}:eV r S [0]=⟨S.uc,.arr 9 (S.cl.map Cl.a)⟩:=rfl
@[simp] theorem AiW {r:Nat} {S:Tb}:eV r S [1]=⟨S.up,.arr 1 (S.pl.map nv)⟩:=rfl
theorem wH {g:Nm→Nm} {δ:Nm→Nat} (l:List Nat):A.renL g δ (l.map nv)=l.map nv:=by
 rw[Cv,List.map_map];rfl
theorem zV {g:Nm→Nm} {δ:Nm→Nat} (c:Cl):c.a.ren g δ=c.a:=by
 have:(RP c.l c.r).ren g δ=RP c.l c.r:=by unfold RP;split<;>simp[A.ren,ql]
 simp[Cl.a,A.ren,A.renL,this]
theorem vJ {D:Nm→Prop} (c:Cl):c.a.refs D:=by
 have:(RP c.l c.r).refs D:=by unfold RP;split<;>simp[A.refs,ql]
 simp[Cl.a,A.refs,A.refsL,this]
noncomputable def x9 (S:Tb):Fam:=⟨fun r=>eV r S,fun {g δ r r'} hg hd p=>by
  match p with
  |[]=>simp[VOb.ren,Ob.ren,A.renL,A.ren,hg,hd]
  |[0]=>
   refine Fam.arr_ren ?_;rw[Cv,List.map_map];exact List.map_congr_left fun c _=>zV c
  |[1]=>exact Fam.arr_ren (wH _)
  |0::a::q=>rfl
  |1::a::q=>rfl
  |(a+2)::q=>rfl,fun {D r} hD p=>by
  match p with
  |[]=>simp[Ob.refs,A.refsL,A.refs,hD]
  |[0]=>
   refine refsL_iff.2 fun x hx=>?_;obtain⟨c,_,rfl⟩:=List.mem_map.1 hx;exact vJ c
  |[1]=>
   refine refsL_iff.2 fun x hx=>?_;obtain⟨c,_,rfl⟩:=List.mem_map.1 hx;trivial
  |0::a::q=>trivial
  |1::a::q=>trivial
  |(a+2)::q=>trivial⟩
@[simp] theorem Ai2 {S:Tb} {r:Nat}:(x9 S).F r=eV r S:=rfl
theorem az {r:Nat} {S S':Tb} {p:Nm} (h0:p ≠ []) (h1:p ≠ [0]) (h2:p ≠ [1]):eV r S p=eV r S' p:=by
 match p,h0,h1,h2 with
 |[],h,_,_=>exact absurd rfl h
 |[0],_,h,_=>exact absurd rfl h
 |[1],_,_,h=>exact absurd rfl h
 |0::a::q,_,_,_=>rfl
 |1::a::q,_,_,_=>rfl
 |(a+2)::q,_,_,_=>rfl
theorem yU {r u uc up:Nat} {cl:List Cl} {pl pl':List Nat} {p:Nm} (h:p ≠ [1]) (hl:pl.length=pl'.length):eV r ⟨u,uc,up,cl,pl⟩ p=eV r ⟨u,uc,up,cl,pl'⟩ p:=by
 by_cases h0:p=[]
 ·subst h0;simp[hl]
 ·by_cases h1:p=[0]
  ·subst h1;rfl
  ·exact az h0 h1 h
noncomputable abbrev wc (S:Tb):A:=.pim [.sl false (S.cl.map Cl.a),.sl false (S.pl.map nv)]
theorem tB {r:Nat} {S:Tb} {H:Hp} (hF:∀ p,H (r::p)=eV r S p):J3 H (.pob [r] S.u 0) (wc S):=by
 refine V0 (cs:=[.osl [r,0] S.uc 9 0 S.cl.length,.osl [r,1] S.up 1 0 S.pl.length]) (by simp[hF]) ?_ (by simp);simp;refine⟨Bx (l:=S.cl) (f:=Cl.a) (by simp[hF]) rfl fun x=>?_,Bx (l:=S.pl) (f:=nv) (by simp[hF]) rfl fun x=>by simp⟩;simp[Cl.a]
structure Tb.Ok (S:Tb):Prop where
 p8:8≤S.pl.length
 half:2*S.cl.length≤S.pl.length
 most:S.pl.length≤8+4*S.cl.length
 pl:Pl (S.cl.map Cl.hn) S.pl
 means:∀ c,c ∈ S.cl→Sg c.l∧AA c.l c.r c.t
 nd:(S.cl.map fun c=>Ah c.t).Nodup
noncomputable def Tb.ks (S:Tb):List T:=S.cl.map fun c=>Ah c.t
@[simp] theorem Tb.ks_length (S:Tb):S.ks.length=S.cl.length:=by simp[Tb.ks]
def newTb:Tb:=⟨1,1,1,[],List.replicate 8 0⟩
theorem nY:Bh Tryz.prog 200 (fun _=>[]) Fam.no (fun r=>.pob [r] 1 0) (x9 newTb):=by
 refine AE bx (by simp) (by simp) AJ fun w0 I0 M0 m0=>?_;unfold SV;simp;refine PT (Bu (d:=[0]) 0 [0,0] 9 rfl rfl (by simp)) ?_;simp;refine AM rfl rfl fun p=>?_
 match p with
 |[]=>rfl
 |[0]=>rfl
 |[1]=>rfl
 |0::a::q=>rfl
 |1::a::q=>rfl
 |(a+2)::q=>rfl
theorem WG (a m:Nat):((a:Int) % (m:Int))=((a % m:Nat):Int):=by omega
theorem Yl (S:Tb) (h:S.pl.length<4611686018427387904) (a:Nat) (ha:a<S.pl.length):G.Spec Tryz.prog 270 [wc S,nv a] (nv ((a+1) % S.pl.length)):=by
 refine Aj Qa (by simp) fun w0 I0=>?_;unfold JB;have e:=Av a;have hne:¬ S.pl=[]:=fun e=>by rw[e] at ha;simp at ha
 simp[e,hne];refine AN rfl ?_;have h1:((a:Int)+1).tmod (S.pl.length:Int)=(((a+1) % S.pl.length:Nat):Int):=by
  rw[Int.tmod_eq_emod_of_nonneg (by omega)];have:=WG (a+1) S.pl.length;rw[Int.natCast_add] at this;exact this
 rw[h1]
noncomputable def MO (S:Tb) (t:T) (v:Nat):Bool:=match S.cl[v-1]? with
 |some c=>LK c.t t
 |none=>false
noncomputable def Tb.fnd (S:Tb) (t:T):Nat:=H8 (MO S t) S.pl S.pl.length ((Ev (Ah t)).toNat % S.pl.length)
theorem Tb.Ok.lt {S:Tb} (h:S.Ok):S.cl.length<S.pl.length:=by have:=h.p8;have:=h.half;omega
theorem YY {S:Tb} (h:S.Ok) (t:T):S.fnd t<S.pl.length∧((∃ v,S.pl[S.fnd t]? = some (v+1)∧FX S.ks (Ah t)=v∧v<S.cl.length)∨(S.pl.getD (S.fnd t) 0=0∧FX S.ks (Ah t)=S.cl.length)) ∧
  ∃ k,S.fnd t=((Ev (Ah t)).toNat+k) % S.pl.length∧∀ e,e<k→S.pl.getD (((Ev (Ah t)).toNat+e) % S.pl.length) 0 ≠ 0:=by
 have hlt:=h.lt;obtain⟨h1,h2,k,h3,h4⟩:=dz (stop:=MO S t) (x:=(Ev (Ah t)).toNat) h.pl (by simpa using hlt);refine⟨h1,?_,k,h3,fun e he=>(h4 e he).1⟩;change S.fnd t<_ at h1;change S.pl.getD (S.fnd t) 0=0∨MO S t (S.pl.getD (S.fnd t) 0)=true at h2;change S.fnd t=_ at h3;by_cases h0:S.pl.getD (S.fnd t) 0=0
 ·refine .inr ⟨h0,?_⟩;rw[← Tb.ks_length];refine Uk fun hn=>?_;simp only[Tb.ks,List.mem_map] at hn;obtain⟨c,hc,e⟩:=hn;obtain⟨i,hi,rfl⟩:=List.mem_iff_getElem.1 hc;obtain⟨d,g1,g2⟩:=h.pl.reach i (by simpa using hi);have eh:(S.cl.map Cl.hn)[i]'(by simpa using hi)=(Ev (Ah t)).toNat:=by simp[Cl.hn,Cl.h,e]
  rw[eh] at g1;have g2':∀ e,e<d→S.pl.getD (((Ev (Ah t)).toNat+e) % S.pl.length) 0 ≠ 0:=fun e' he'=>by have:=g2 e' he';rwa [eh] at this
  rcases Nat.lt_trichotomy d k with hd | hd | hd
  ·have:=(h4 d hd).2;rw[List.getD_eq_getElem?_getD,g1] at this;simp[MO,hi] at this;rw[eqT_iff.2 e] at this;cases this
  ·subst hd;rw[h3,List.getD_eq_getElem?_getD,g1] at h0;simp at h0
  ·exact g2' k hd (by rw[← h3];exact h0)
 ·have h2:=h2.resolve_left h0;rw[List.getD_eq_getElem?_getD,List.getElem?_eq_getElem h1] at h0 h2;simp only[Option.getD_some] at h0 h2;have hv:=h.pl.vals _ (Bg h1);rw[List.length_map] at hv;have hvl:S.pl[S.fnd t]-1<S.cl.length:=by omega
  simp[MO,hvl] at h2;refine .inl ⟨S.pl[S.fnd t]-1,by rw[List.getElem?_eq_getElem h1];congr 1;omega,?_,hvl⟩;exact vB (ks:=S.ks) (by simpa using hvl) (by simp[Tb.ks,eqT_iff.1 h2]) h.nd
noncomputable def NY (S:Tb):Tb:={ S with up:=S.up+1,pl:=NX (List.replicate (2*S.pl.length) 0) 0 (S.cl.map Cl.hn) }
noncomputable def Jq (S:Tb) (l:List (List Int)) (r:Rf) (t:T):Tb:={ S with uc:=S.uc+1,cl:=S.cl++[⟨l,r,t⟩],pl:=S.pl.set (S.fnd t) (S.cl.length+1) }
noncomputable def MT (S:Tb) (l:List (List Int)) (r:Rf) (t:T):Tb:=
 if FX S.ks (Ah t)<S.cl.length then S else if S.pl.length<2*(S.cl.length+1) then NY (Jq S l r t) else Jq S l r t
structure Tb.Ok1 (S:Tb):Prop where
 p8:8≤S.pl.length
 half:2*S.cl.length≤S.pl.length+2
 most:S.pl.length≤8+4*S.cl.length
 pl:Pl (S.cl.map Cl.hn) S.pl
 means:∀ c,c ∈ S.cl→Sg c.l∧AA c.l c.r c.t
 nd:(S.cl.map fun c=>Ah c.t).Nodup
theorem mF {S:Tb} (h:S.Ok) {l:List (List Int)} {r:Rf} {t:T} (hs:Sg l) (hm:AA l r t) (hn:FX S.ks (Ah t)=S.cl.length):(Jq S l r t).Ok1:=by
 obtain⟨h1,h2,k,h3,h4⟩:=YY h t;have h0:S.pl.getD (S.fnd t) 0=0:=by
  rcases h2 with ⟨v,_,e,hv⟩ | ⟨h0,_⟩
  ·omega
  ·exact h0
 have p8:=h.p8;have half:=h.half;have most:=h.most;refine⟨by simpa[Jq] using p8,by simp[Jq];omega,by simp[Jq];omega,?_,fun c hc=>?_,?_⟩
 ·have:=h.pl.ins h1 h0 h3 h4;simpa[Jq,Cl.hn,Cl.h] using this
 ·simp only[Jq,List.mem_append,List.mem_singleton] at hc;rcases hc with hc | rfl
  ·exact h.means c hc
  ·exact⟨hs,hm⟩
 ·simp only[Jq,List.map_append,List.map_cons,List.map_nil];rw[List.nodup_append];refine⟨h.nd,by simp,fun a ha b hb=>?_⟩;simp at hb;subst hb;rintro rfl;have:FX S.ks (Ah t)<S.ks.length:=clsI_lt.2 ha;simp at this;omega
theorem uV {S:Tb} (h:S.Ok1) (hf:S.pl.length<2*S.cl.length):(NY S).Ok:=by
 have p8:=h.p8;have half:=h.half;have most:=h.most;have hl:(NY S).pl.length=2*S.pl.length:=by simp[NY,Tf]
 refine⟨by rw[hl];omega,by rw[hl];show 2*S.cl.length≤_;omega,by rw[hl];show _≤8+4*S.cl.length;omega,?_,h.means,h.nd⟩;have:=Pl.grow (hs2:=S.cl.map Cl.hn) (Pl.nil (2*S.pl.length)) (by simp;omega);simpa[NY] using this
theorem Tb.Ok1.ok {S:Tb} (h:S.Ok1) (hf:¬ S.pl.length<2*S.cl.length):S.Ok:=⟨h.p8,by omega,h.most,h.pl,h.means,h.nd⟩
theorem VY {S:Tb} {l:List (List Int)} {r:Rf} {t:T}:(Jq S l r t).cl.length=S.cl.length+1:=by simp[Jq]
theorem Wf {S:Tb} {l:List (List Int)} {r:Rf} {t:T}:(Jq S l r t).pl.length=S.pl.length:=by simp[Jq]
theorem lJ {S:Tb} (h:S.Ok) {l:List (List Int)} {r:Rf} {t:T} (hs:Sg l) (hm:AA l r t):(MT S l r t).Ok:=by
 unfold MT;split
 ·exact h
 ·rename_i hn;have hle:=mR S.ks (Ah t);have he:FX S.ks (Ah t)=S.cl.length:=by simp at hle;omega
  have h1:=mF h hs hm he;split
  ·exact uV h1 (by rw[VY,Wf];assumption)
  ·exact h1.ok (by rw[VY,Wf];assumption)
theorem xu {S:Tb} {l:List (List Int)} {r:Rf} {t:T}:(MT S l r t).ks=JO S.ks (Ah t):=by
 unfold MT JO;rw[Tb.ks_length];split
 ·rfl
 ·split<;>simp[Tb.ks,NY,Jq]
theorem AaV {S:Tb} {l:List (List Int)} {r:Rf} {t:T}:(MT S l r t).u=S.u:=by
 unfold MT;split
 ·rfl
 ·split<;>rfl
variable {n0:Nat} {w0:World} {I0:Nat→Prop} {Q:Exit→Sta→Prop}
noncomputable abbrev q9 (S:Tb):A:=.fnc 270 [wc S] []
set_option pp.deepTerms true in
set_option pp.maxSteps 1000000 in
theorem wq {S:Tb} (hS:S.Ok) (hb:S.cl.length≤1000000) {l:List (List Int)} (hs:Sg l) {r:Rf} {t:T} (hm:AA l r t):∀ (f a d:Nat) (H:Hp),a<S.pl.length→d<f→S.pl.getD ((a+d) % S.pl.length) 0=0→H [0]=⟨1,.cells (Yw l r)⟩ →
  (∀ H',S.pl.getD (H8 (MO S t) S.pl f a) 0=0→Q (.exit 0) ⟨lk [(0,wc S),(1,uv (Ev (Ah t))),(5,.pob [0] 1 0),(8,q9 S),(9,nv (H8 (MO S t) S.pl f a)),(31,bv false)],H'⟩) →
  (∀ H',Q .ret ⟨lk [(6,nv (H8 (MO S t) S.pl f a)),(7,iv 0)],H'⟩) →
  LoopC (cx Tryz.prog w0 I0 n0) DY Q ⟨lk [(0,wc S),(1,uv (Ev (Ah t))),(5,.pob [0] 1 0),(8,q9 S),(9,nv a)],H⟩:=by
 have hp8:=hS.p8;have hmost:=hS.most;intro f;induction f with
 |zero=>intro a d H _ h;omega
 |succ f ih=>
  intro a d H ha hd hz hA hq hq2;have ha':(a:Int)<S.pl.length:=by omega
  refine Ab Ai DY.eq_1 ?_;have hg:S.pl.getD a 0=S.pl[a]:=by simp[ha]
  by_cases h0:S.pl[a]=0
  ·simp[ha,h0];have e:H8 (MO S t) S.pl (f+1) a=a:=by rw[H8,if_pos (by rw[hg];exact h0)]
   rw[e] at hq;exact hq H (by rw[hg];exact h0)
  ·have hd0:d ≠ 0:=fun e=>by
    subst e;rw[Nat.add_zero,Nat.mod_eq_of_lt ha,hg] at hz;exact h0 hz
   obtain⟨d,rfl⟩:∃ d',d=d'+1:=⟨d-1,by omega⟩;have hv:=hS.pl.vals _ (Bg ha);rw[List.length_map] at hv;obtain⟨v,hv1⟩:∃ v,S.pl[a]=v+1:=⟨S.pl[a]-1,by omega⟩;have hvl:v<S.cl.length:=by omega
   have hvl':(v:Int)<S.cl.length:=by omega
   have hpos:(0:Int)<(v:Int)+1:=by omega
   have e1:i64.wrap ((v:Int)+1-1)=v:=(Al (by omega) (by omega)).trans (by omega);have e2:i64.wrap (v:Int)=v:=BJ;have hst:MO S t (S.pl.getD a 0)=LK S.cl[v].t t:=by rw[hg,hv1];simp[MO,hvl]
   have ef:H8 (MO S t) S.pl (f+1) a=if LK S.cl[v].t t=true then a else H8 (MO S t) S.pl f ((a+1) % S.pl.length):=by
    rw[H8,if_neg (by rw[hg];exact h0),hst]
   have ihn:=ih ((a+1) % S.pl.length) d;rw[OA] at ihn;obtain⟨hcs,hcm⟩:=hS.means _ (Bg hvl);have hnx:=Yl S (by omega) a ha;simp[ha,hv1,hpos,e1,e2,hvl,Cl.a];have go:LK S.cl[v].t t=false→∀ H2:Hp,H2 [0]=⟨1,.cells (Yw l r)⟩→LoopC (cx Tryz.prog w0 I0 n0) DY Q ⟨lk [(0,wc S),(1,uv (Ev (Ah t))),(5,.pob [0] 1 0),(8,q9 S),(9,nv ((a+1) % S.pl.length))],H2⟩:=fun he H2 h2=>by
    rw[ef,he] at hq hq2;exact ihn H2 (Nat.mod_lt _ (by omega)) (by omega) hz h2 hq hq2
   refine⟨fun hh=>?_,fun hh=>?_⟩
   ·simp[Aa,hA];refine Ae (Vz hcs hs _ _ _ _ hcm hm) (by simp) ?_;cases hq':LK S.cl[v].t t with
    |true=>
     rw[ef,hq',if_pos rfl] at hq2;simp;exact hq2 _
    |false=>
     simp;refine MF rfl hnx (by simp) ?_;simp;exact go hq' _ (by simp[Aa,hA])
   ·refine MF rfl hnx (by simp) ?_;have he:LK S.cl[v].t t=false:=by
     rw[Bool.eq_false_iff];intro e;exact hh (by simp[Cl.h,eqT_iff.1 e])
    simp;exact go he _ (by simp[Aa,hA])
theorem jr {S:Tb} (hS:S.Ok) (hb:S.cl.length≤1000000) {l:List (List Int)} (hs:Sg l) {r:Rf} {t:T} (hm:AA l r t) (hh:Bw (Ev (Ah t))):G.Spec Tryz.prog 259 [wc S,uv (Ev (Ah t)),Hi l r] (.tup [nv (S.fnd t),iv 0]):=by
 have hp8:=hS.p8;have hmost:=hS.most;refine Aj PW (by simp) fun w0 I0=>?_;unfold JC;obtain⟨d,h1,h2⟩:=hS.pl.free (by simpa using hS.lt) ((Ev (Ah t)).toNat % S.pl.length);have eu:u64.wrap (S.pl.length:Int)=S.pl.length:=AG (by omega) (by omega);have hne:¬ S.pl=[]:=fun e=>by rw[e] at hp8;simp at hp8
 have et:i64.wrap ((Ev (Ah t)).tmod (S.pl.length:Int))=(((Ev (Ah t)).toNat % S.pl.length:Nat):Int):=by
  rw[Int.tmod_eq_emod_of_nonneg hh.1];obtain⟨n,hn⟩:=Int.eq_ofNat_of_zero_le hh.1;rw[hn,WG];have:=Nat.mod_lt n (show 0<S.pl.length by omega);exact Al (by omega) (by omega)
 have hlt:(Ev (Ah t)).toNat % S.pl.length<S.pl.length:=Nat.mod_lt _ (by omega);unfold Tb.fnd;generalize (Ev (Ah t)).toNat % S.pl.length=a at et hlt h2;simp[eu,hne,et];refine wq hS hb hs hm S.pl.length a d _ hlt h1 h2 (by simp) (fun H' _=>?_) fun H'=>?_
 ·simp;exact Ad rfl
 ·simp;exact Ad rfl
theorem uU {h:Int} (h0:Bw h) {m:Nat} (hm:0<m) (hm2:m<4611686018427387904):i64.wrap (h.tmod (m:Int))=((h.toNat % m:Nat):Int):=by
 rw[Int.tmod_eq_emod_of_nonneg h0.1];obtain⟨n,hn⟩:=Int.eq_ofNat_of_zero_le h0.1;rw[hn,WG];have:=Nat.mod_lt n hm;exact Al (by omega) (by omega)
section
variable {n0:Nat} {w0:World} {I0:Nat→Prop} {M0:Nm→Nat→Prop} {m0:Mu} {Q:Exit→Sta→Prop}
theorem vw {S:Tb} (hb:S.pl.length<4611686018427387904) {i n uc:Nat} {k:Int}:∀ (f a d:Nat) (H:Hp),(∀ p,H (0::p)=eV 0 S p)→a<S.pl.length→d<f→S.pl.getD ((a+d) % S.pl.length) 0=0 →
  Q (.exit 2) ⟨lk [(0,.pob [0] S.u 0),(2,iv k),(4,nv (H8 (fun _=>false) S.pl f a)),(18,.osl [0,0] uc 9 0 n),(19,nv n),(20,nv i),(42,bv false)],H⟩ →
  LoopC (DG Tryz.prog w0 I0 M0 n0 m0) FQ Q ⟨lk [(0,.pob [0] S.u 0),(2,iv k),(4,nv a),(18,.osl [0,0] uc 9 0 n),(19,nv n),(20,nv i)],H⟩:=by
 intro f;induction f with
 |zero=>intro a d H _ _ h;omega
 |succ f ih=>
  intro a d H hH ha hd hz hq;have ha':(a:Int)<S.pl.length:=by omega
  refine Ab Ai FQ.eq_1 ?_;have hg:S.pl.getD a 0=S.pl[a]:=by simp[ha]
  by_cases h0:S.pl[a]=0
  ·simp[ha,h0,hH];have e:H8 (fun _=>false) S.pl (f+1) a=a:=by rw[H8,if_pos (by rw[hg];exact h0)]
   rw[e] at hq;exact hq
  ·have hd0:d ≠ 0:=fun e=>by
    subst e;rw[Nat.add_zero,Nat.mod_eq_of_lt ha,hg] at hz;exact h0 hz
   obtain⟨d,rfl⟩:∃ d',d=d'+1:=⟨d-1,by omega⟩;have hpos:(0:Int)<S.pl[a]:=by omega
   have hpos':0<S.pl[a]:=by omega
   have ef:H8 (fun _=>false) S.pl (f+1) a=H8 (fun _=>false) S.pl f ((a+1) % S.pl.length):=by
    rw[H8,if_neg (by rw[hg];exact h0)];simp
   rw[ef] at hq;simp[ha,hpos',hH];refine Kf [wc S,nv a] ((Yl S hb a ha).toB rfl) (by simp;exact⟨tB hH,Ad rfl⟩) (by simp) ?_;simp;exact ih ((a+1) % S.pl.length) d H hH (Nat.mod_lt _ (by omega)) (by omega) (by rw[OA];exact hz) hq
theorem wU {cl:List Cl} {u uc up m:Nat} (hc:cl.length≤1000000) (hb:m<4611686018427387904) (hm:cl.length<m) (hh:∀ c,c ∈ cl→Bw c.h):∀ (j i:Nat) (pl:List Nat) (H:Hp),i+j=cl.length→pl.length=m→Pl ((cl.take i).map Cl.hn) pl→(∀ p,H (0::p)=eV 0 ⟨u,uc,up,cl,pl⟩ p) →
  (∀ (q:Bool) (H':Hp),(∀ p,H' (0::p)=eV 0 ⟨u,uc,up,cl,NX pl i ((cl.drop i).map Cl.hn)⟩ p)→Q (.exit 0) ⟨lk [(0,.pob [0] u 0),(18,.osl [0,0] uc 9 0 cl.length),(19,nv cl.length),(20,nv cl.length),(21,bv q)],H'⟩) →
  LoopC (DG Tryz.prog w0 I0 M0 n0 m0) DN Q ⟨lk [(0,.pob [0] u 0),(18,.osl [0,0] uc 9 0 cl.length),(19,nv cl.length),(20,nv i)],H⟩:=by
 intro j;induction j with
 |zero=>
  intro i pl H hi hl hpl hH hq;have:i=cl.length:=by omega
  subst this;refine Ab Ai DN.eq_1 ?_;simp;exact hq _ H (by simpa[NX] using hH)
 |succ j ih=>
  intro i pl H hi hl hpl hH hq;have hlt:i<cl.length:=by omega
  have hlt':(i:Int)<cl.length:=by omega
  have hpos:0<pl.length:=by omega
  have hne:¬ pl=[]:=fun e=>by rw[e] at hpos;simp at hpos
  have eu:u64.wrap (pl.length:Int)=pl.length:=AG (by omega) (by omega);have hck:=hh _ (Bg hlt);have et:=uU hck hpos (by omega);have ei:=Av i;refine Ab Ai DN.eq_1 ?_;obtain⟨d,f1,f2⟩:=hpl.free (by simp;omega) (cl[i].h.toNat % pl.length);have ha:cl[i].h.toNat % pl.length<pl.length:=Nat.mod_lt _ hpos;have hins:insP pl cl[i].hn (i+1)=pl.set (H8 (fun _=>false) pl pl.length (cl[i].h.toNat % pl.length)) (i+1):=rfl;have hpl2:=hpl.insP (by simp;omega) cl[i].hn;have htk:(cl.take (i+1)).map Cl.hn=(cl.take i).map Cl.hn++[cl[i].hn]:=by rw[Fm hlt,List.map_append];rfl
  have hlen:((cl.take i).map Cl.hn).length+1=i+1:=by simp;omega
  rw[hlen,← htk] at hpl2;have hgr:NX pl i ((cl.drop i).map Cl.hn)=NX (insP pl cl[i].hn (i+1)) (i+1) ((cl.drop (i+1)).map Cl.hn):=by rw[List.drop_eq_getElem_cons hlt,List.map_cons,NX]
  rw[hgr] at hq;have f3:=(ZX (stop:=fun _=>false) pl.length (cl[i].h.toNat % pl.length) d ha f1 f2).1;rw[hins] at hpl2 hq;generalize cl[i].h.toNat % pl.length=a at et ha f2 f3 hpl2 hq;simp[hlt,hH,Aa,Cl.a,eu,hne,et];refine vw (S:=⟨u,uc,up,cl,pl⟩) (by simpa using (by omega)) pl.length a d _ (fun p=>by simp[Aa,hH]) ha f1 f2 ?_;generalize H8 (fun _=>false) pl pl.length a=b at f3 hpl2 hq;have f3':(b:Int)<pl.length:=by omega
  simp[f3,hH,Aa,ei];refine ih (i+1) (pl.set b (i+1)) _ (by omega) (by simpa using hl) hpl2 (fun p=>?_) hq;by_cases hp:p=[1]
  ·subst hp;simp[Aa,List.map_set];rfl
  ·simp[Aa,hp,hH];exact yU hp (by simp)
end
theorem iZ {S:Tb} (hc:S.cl.length≤1000000) (hb:S.pl.length≤8000000) (hm:S.cl.length<2*S.pl.length) (hh:∀ c,c ∈ S.cl→Bw c.h):Bh Tryz.prog 260 (fun r=>[.pob [r] S.u 0]) (x9 S) (fun _=>.tup []) (x9 (NY S)):=by
 refine AE PZ (by simp) (by simp) (by simp) fun w0 I0 M0 m0=>?_;unfold Jv;have e2:i64.wrap (2*(S.pl.length:Int))=((2*S.pl.length:Nat):Int):=(Al (by omega) (by omega)).trans (by simp);have e3:(2*(S.pl.length:Int)).toNat=2*S.pl.length:=by omega
 simp[e2,e3,Aa];refine⟨⟨by omega,by omega⟩,?_⟩;refine wU (cl:=S.cl) (u:=S.u) (uc:=S.uc) (up:=S.up+1) (m:=2*S.pl.length) hc (by omega) hm hh S.cl.length 0 (List.replicate (2*S.pl.length) 0) _ (by omega) (by simp) (by simpa using Pl.nil _) (fun p=>?_) (fun q H' hH'=>?_)
 ·simp only[AZ,if_true];refine Gf ?_ (fun h1=>Gf ?_ (fun h2=>?_))
  ·simp
  ·simp
  ·by_cases h3:p=[0]
   ·subst h3;rfl
   ·exact az h1 h3 h2
 ·simp;exact AX rfl rfl fun p=>hH' p
theorem EI (x:Int):Bw (u64.wrap x):=by
 rw[IntKind.wrap_u64];unfold Bw;omega
theorem aF (h x:Int):Bw (Q3 h x):=EI _
theorem gm:∀ (w:List Int) (h:Int),Bw h→Bw (w.foldl Q3 h)
 |[],_,h=>h
 |x::w,_,_=>gm w _ (aF _ _)
mutual
theorem sX:∀ t:T,Bw (Ev t)
 |.mk k w l=>by rw[Ev];exact de l _ (gm _ _ (aF _ _))
theorem de:∀ (l:List T) (h:Int),Bw h→Bw (Tn h l)
 |[],_,h=>by rw[Tn];exact h
 |t::l,_,_=>by rw[Tn];exact de l _ (aF _ _)
end
theorem Xx (l:List (List Int)) (r:Rf):EU (fun _=>Hi l r):=Ez rfl fun x hx=>by
 simp at hx;rcases hx with rfl | rfl | rfl | rfl | rfl | rfl | rfl | rfl<;>simp
theorem cO {S:Tb} (hS:S.Ok) (hb:S.cl.length≤400000) {l:List (List Int)} (hs:Sg l) {r:Rf} {t:T} (hm:AA l r t) :
  Bh Tryz.prog 235 (fun q=>[.pob [q] S.u 0,Hi l r]) (x9 S) (fun _=>.tup [nv (FX S.ks (Ah t)),iv 0]) (x9 (MT S l r t)):=by
 refine AE O2 (by simp) (Af AJ (Af (Xx l r) Am)) (Bz (Af Au (Af Au Am))) fun w0 I0 M0 m0=>?_;unfold IY;have hp8:=hS.p8;have hmost:=hS.most;have hhalf:=hS.half;have hr:=sX;obtain⟨f1,f2,_⟩:=YY hS t;simp;refine Ae (ow hs _ _ hm) (by simp) ?_;simp;refine Kf [wc S,uv (Ev (Ah t)),Hi l r] ((jr hS (by omega) hs hm (hr _)).toB rfl) (by simp;exact⟨tB (fun p=>by simp),Ad rfl,Ad (by simp)⟩) (by simp) ?_;have f1':(S.fnd t:Int)<S.pl.length:=by omega
 rcases f2 with ⟨v,g1,g2,g3⟩ | ⟨g1,g2⟩
 ·have e1:i64.wrap ((v:Int)+1-1)=v:=(Al (by omega) (by omega)).trans (by omega);have hpos:(0:Int)<(v:Int)+1:=by omega
  have e1b:i64.wrap (v:Int)=v:=BJ;have hcs:MT S l r t=S:=by simp[MT,g2,g3]
  have g1':S.pl[S.fnd t]=v+1:=by rw[List.getElem?_eq_getElem f1] at g1;exact Option.some.inj g1
  simp[f1,g1',hpos,e1,e1b,hcs,g2];exact AM rfl rfl fun p=>rfl
 ·have g1':S.pl[S.fnd t]=0:=by
   rw[List.getD_eq_getElem?_getD,List.getElem?_eq_getElem f1] at g1;simpa using g1
  have e8:i64.wrap ((S.cl.length:Int)+1-1)=S.cl.length:=(Al (by omega) (by omega)).trans (by omega);have e9:i64.wrap (S.cl.length:Int)=S.cl.length:=BJ;have hfam:∀ p,(Ay (Ay (Ay (eV 0 S) [0] ⟨S.uc+1,.arr 9 (S.cl.map Cl.a++[.agg [uv (Ev (Ah t)),RP l r,iv r.kind,iv r.s,iv r.at_,iv r.data,iv r.kids,iv r.count,uv r.n]])⟩) [] ⟨S.u,.cells [.osl [0,0] (S.uc+1) 9 0 (S.cl.length+1),.osl [0,1] S.up 1 0 S.pl.length]⟩) [1] ⟨S.up,.arr 1 ((S.pl.map nv).set (S.fnd t) (iv ((S.cl.length:Int)+1)))⟩:Nm→VOb) p=eV 0 (Jq S l r t) p:=fun p=>by
   refine Gf ?_ (fun h1=>Gf ?_ (fun h2=>Gf ?_ (fun h3=>?_)))
   ·simp[Jq,List.map_set];rfl
   ·simp[Jq]
   ·simp[Jq,Cl.a,Cl.h]
   ·exact az h2 h3 h1
  have ew:i64.wrap ((S.cl.length:Int)+1)=(S.cl.length:Int)+1:=BJ;have ew2:i64.wrap (2*((S.cl.length:Int)+1))=2*((S.cl.length:Int)+1):=BJ;have hle:(S.cl.length+1)*72≤140737488355328:=by omega
  simp[f1,g1',Aa,AL,hle,ew,ew2];refine⟨fun hf=>?_,fun hf=>?_⟩
  ·have hok:=mF hS hs hm g2;have hcs:MT S l r t=NY (Jq S l r t):=by
    unfold MT;rw[if_neg (by omega),if_pos (by omega)]
   have hcl:(NY (Jq S l r t)).cl.length=S.cl.length+1:=by simp[NY,Jq]
   have hu:(NY (Jq S l r t)).u=S.u:=rfl;refine Aw 0 (iZ (S:=Jq S l r t) (by rw[VY];omega) (by rw[Wf];omega) (by rw[VY,Wf];omega) (fun c _=>hr _)) (fun p=>hfam p) rfl (by simp) ?_;rw[hcs];simp;unfold Fo;simp[hu,hcl,e8,e9];exact AM rfl (by simp[g2]) fun p=>rfl
  ·have hcs:MT S l r t=Jq S l r t:=by
    unfold MT;rw[if_neg (by omega),if_neg (by omega)]
   rw[hcs];unfold Fo;simp[Aa,e8,e9];exact AM rfl (by simp[g2]) fun p=>hfam p
theorem OT {c:Int} (h0:0≤c) (h6:c<6):∃ w:Nat,AD c=w∧c9 c=w∧(w=0∨w=1∨w=8∨w=16∨w=32∨w=64):=by
 have:c=0∨c=1∨c=2∨c=3∨c=4∨c=5:=by omega
 rcases this with rfl | rfl | rfl | rfl | rfl | rfl
 ·exact⟨0,rfl,rfl,by simp⟩
 ·exact⟨1,rfl,rfl,by simp⟩
 ·exact⟨8,rfl,rfl,by simp⟩
 ·exact⟨16,rfl,rfl,by simp⟩
 ·exact⟨32,rfl,rfl,by simp⟩
 ·exact⟨64,rfl,rfl,by simp⟩
theorem aj {c n:Int} {w:Nat} (hw:AD c=w) (h0:0≤n) (h:JA c n=true):n<2 ^ w:=by
 simp only[JA,Bool.and_eq_true,decide_eq_true_eq,hw] at h;have hp:(0:Int)<2 ^ w:=Int.pow_pos (by decide);have h2:=h.2;simp only[Int.toNat_natCast] at h2;have h3:=Int.emod_add_mul_ediv n (2 ^ w);rw[h2,Int.mul_zero,Int.add_zero] at h3;rw[← h3];exact Int.emod_lt_of_pos _ hp
theorem fZ {i w:Nat} (hw:w≤64) (hi:i≤1000000000):i64.wrap ((i:Int)*w)=(i:Int)*w∧((i:Int)*w).tmod 64=((i*w % 64:Nat):Int)∧((i:Int)*w).tdiv 64=((i*w / 64:Nat):Int):=by
 have him:i*w≤1000000000*64:=Nat.mul_le_mul hi hw;have e:(i:Int)*w=((i*w:Nat):Int):=by rw[Int.natCast_mul]
 rw[e];refine⟨Al (by omega) (by omega),?_,?_⟩
 ·rw[Int.tmod_eq_emod_of_nonneg (by omega)];omega
 ·rw[Int.tdiv_eq_ediv_of_nonneg (by omega)];omega
theorem kP {c:A} {ns:List Int} {w i s:Nat} {m:Nat} {H:Hp} (hw:w≤64) (hi:i≤1000000000) (hs:i*w % 64=s):∀ (j k:Nat) (x:Int),k+j=s→0≤x→x*2 ^ j<18446744073709551616→(∀ q,Q (.exit 2) ⟨lk [(0,c),(1,Dz ns),(6,nv w),(7,.osl [0] 1 1 0 m),(8,nv i),(9,uv (x*2 ^ j)),(10,nv s),(39,bv q)],H⟩) →
  LoopC (cx Tryz.prog w0 I0 n0) Fq Q ⟨lk [(0,c),(1,Dz ns),(6,nv w),(7,.osl [0] 1 1 0 m),(8,nv i),(9,uv x),(10,nv k)],H⟩:=by
 obtain⟨e1,e2,_⟩:=fZ hw hi;rw[hs] at e2;have hs64:s<64:=by omega
 intro j;induction j with
 |zero=>
  intro k x hk h0 hx hq;have:k=s:=by omega
  subst this;refine Ab Ai Fq.eq_1 ?_;have:=hq false;simp[e1,e2] at this ⊢;exact this
 |succ j ih=>
  intro k x hk h0 hx hq;have hlt:k<s:=by omega
  have ek:=Av k;have hp:(0:Int)<2 ^ j:=Int.pow_pos (by decide);rw[Int.pow_succ,Int.mul_comm (2 ^ j) 2,← Int.mul_assoc] at hx hq;have h2:x*2≤x*2*2 ^ j:=by
   have:=Int.mul_le_mul_of_nonneg_left (show(1:Int)≤2 ^ j by omega) (show 0≤x*2 by omega);omega
  have ex:u64.wrap (x*2)=x*2:=AG (by omega) (by omega);refine Ab Ai Fq.eq_1 ?_;simp[e1,e2,hlt,ek,ex];exact ih (k+1) (x*2) (by omega) (by omega) hx hq
theorem wF {c:Int} {ns:List Int} (hn:ns.length≤1000000000) {w:Nat} (hw:w=0∨w=1∨w=8∨w=16∨w=32∨w=64) (hwc:AD c=w) (hfit:∀ x,x ∈ ns→Bw x∧JA c x=true) {m:Nat} (hm:w ≠ 0→m=(ns.length*w+63) / 64)
  (hq:∀ (q:Bool) (H':Hp) (out:List Int),out=L3 w ns 0 (List.replicate m 0)→H' [0]=⟨1,.arr 1 (out.map uv)⟩→Q (.exit 0) ⟨lk [(0,iv c),(1,Dz ns),(6,nv w),(7,.osl [0] 1 1 0 m),(8,nv ns.length),(23,bv q)],H'⟩) :
  ∀ (j i:Nat) (out:List Int) (H:Hp),i+j=ns.length→out.length=m→(w ≠ 0→PutI w i out)→L3 w (ns.drop i) i out=L3 w ns 0 (List.replicate m 0)→H [0]=⟨1,.arr 1 (out.map uv)⟩ →
  LoopC (cx Tryz.prog w0 I0 n0) FB Q ⟨lk [(0,iv c),(1,Dz ns),(6,nv w),(7,.osl [0] 1 1 0 m),(8,nv i)],H⟩:=by
 have hw64:w≤64:=by omega
 intro j;induction j with
 |zero=>
  intro i out H hi hl hI hp hH;have:i=ns.length:=by omega
  subst this;rw[List.drop_eq_nil_of_le (BZ _),L3] at hp;refine Ab Ai FB.eq_1 ?_;simp;exact hq _ H out hp hH
 |succ j ih=>
  intro i out H hi hl hI hp hH;have hlt:i<ns.length:=by omega
  have ei:=Av i;obtain⟨f1,f2⟩:=hfit _ (Bg hlt);have f1':=f1;unfold Bw at f1';have hx2:=aj hwc f1'.1 f2;obtain⟨e1,e2,e3⟩:=fZ (i:=i) hw64 (by omega);rw[List.drop_eq_getElem_cons hlt,L3] at hp;refine Ab Ai FB.eq_1 ?_;simp[hlt];refine Ae (Xw f1) (by simp) ?_;simp[f2];by_cases h0:w=0
  ·subst h0;rw[if_pos rfl] at hp;refine kP (s:=0) hw64 (by omega) (by simp) 0 0 _ (by omega) f1'.1 (by simpa using f1'.2) (fun q=>?_);simp[ei];exact ih (i+1) out H (by omega) hl (fun h=>absurd rfl h) hp hH
  ·rw[if_neg h0] at hp;have hat:i*w / 64<out.length:=by rw[hl,hm h0];exact j8 (by omega) hlt
   obtain⟨p1,p2,p3,p4,p5⟩:=Uz (hI h0) (by omega) f1'.1 hx2 hat;refine kP (s:=i*w % 64) hw64 (by omega) rfl (i*w % 64) 0 _ (by omega) f1'.1 p4 (fun q=>?_);have hw0:(0:Int)<w:=by omega
   have hw0':0<w:=by omega
   have hg:out.getD (i*w / 64) 0=out[i*w / 64]:=by simp[hat]
   have hat':((i*w / 64:Nat):Int)<m:=by omega
   have hatm:i*w / 64<m:=by omega
   rw[hg] at p1 p2 p3 p5 hp;have ex:u64.wrap (out[i*w / 64]+ns[i]*2 ^ (i*w % 64))=out[i*w / 64]+ns[i]*2 ^ (i*w % 64):=by
    have:=Int.mul_nonneg f1'.1 (show(0:Int)≤2 ^ (i*w % 64) from Int.le_of_lt (Int.pow_pos (by decide)));exact AG (by omega) (by omega)
   have him:i*w≤1000000000*64:=Nat.mul_le_mul (by omega) hw64;have eP:i64.wrap ((i*w / 64:Nat):Int)=((i*w / 64:Nat):Int):=BJ;generalize i*w / 64=P at *;simp[ei,hw0',e1,e3,hH,hat,hatm,ex,eP];refine ih (i+1) (out.set P (out[P]+ns[i]*2 ^ (i*w % 64))) _ (by omega) (by simpa using hl) (fun _=>p1) hp ?_;simp[List.map_set]
section
variable {n0:Nat} {w0:World} {I0:Nat→Prop} {M0:Nm→Nat→Prop} {m0:Mu} {Q:Exit→Sta→Prop}
end
end Go.Proofs.YtbjmaoedheiigaaGreat
namespace Go.PL
def Fc {α:Type} (p:α→Bool) (l:List α):List α:=(l.reverse.dropWhile p).reverse
theorem WB {α:Type} {p:α→Bool} (l:List α) (x:α):Fc p (l++[x])=if p x=true then Fc p l else l++[x]:=by
 unfold Fc;rw[List.reverse_append,List.reverse_singleton,List.singleton_append,List.dropWhile_cons];split<;>simp
theorem lh {α:Type} {P:List α→Prop} (h0:P []) (h1:∀ l x,P l→P (l++[x])) (l:List α):P l:=by
 have:∀ m:List α,P m.reverse:=by
  intro m;induction m with
  |nil=>exact h0
  |cons x m ih=>rw[List.reverse_cons];exact h1 _ _ ih
 have:=this l.reverse
 rwa [List.reverse_reverse] at this
theorem FK {α:Type} {p:α→Bool} {z:α} (l:List α):(∀ x,x ∈ l→p x=true→x=z)→∀ i,(Fc p l).getD i z=l.getD i z:=by
 refine lh (P:=fun l=>(∀ x,x ∈ l→p x=true→x=z)→∀ i,(Fc p l).getD i z=l.getD i z) (fun _ i=>rfl) (fun l x ih h i=>?_) l;rw[WB];split
 ·rename_i hx;rw[ih (fun y hy=>h y (by simp[hy])) i];have:=h x (by simp) hx;subst this;simp only[List.getD_eq_getElem?_getD,List.getElem?_append];split
  ·rfl
  ·rw[List.getElem?_eq_none (by omega)];by_cases e:i-l.length=0
   ·simp[e]
   ·rw[List.getElem?_eq_none (by simp;omega)]
 ·rfl
theorem iq {α:Type} {p:α→Bool} {z:α} (l:List α):Fc p l ≠ []→p ((Fc p l).getD ((Fc p l).length-1) z)=false:=by
 refine lh (P:=fun l=>Fc p l ≠ []→p ((Fc p l).getD ((Fc p l).length-1) z)=false) (fun h=>absurd rfl h) (fun l x ih h=>?_) l;rw[WB] at h ⊢;split
 ·rename_i hx;rw[if_pos hx] at h;exact ih h
 ·rename_i hx;simp at hx ⊢;exact hx
theorem fD {α:Type} {p:α→Bool} {z:α} (hz:p z=true) {a b:List α} (ha:∀ x,x ∈ a→p x=true→x=z) (hb:∀ x,x ∈ b→p x=true→x=z):Fc p a=Fc p b ↔ ∀ i,a.getD i z=b.getD i z:=by
 constructor
 ·intro h i;rw[← FK a ha,h,FK b hb]
 ·intro h;have h':∀ i,(Fc p a).getD i z=(Fc p b).getD i z:=fun i=>by rw[FK a ha,FK b hb,h]
  have one:∀ c d:List α,(∀ i,(Fc p c).getD i z=(Fc p d).getD i z)→(Fc p c).length≤(Fc p d).length:=fun c d hcd=>by
   by_cases e:Fc p c=[]
   ·simp[e]
   ·have hl:=iq (z:=z) c e;have hpos:0<(Fc p c).length:=List.length_pos_iff.2 e;rw[hcd] at hl;refine Nat.le_of_not_lt fun hlt=>?_;rw[List.getD_eq_getElem?_getD,List.getElem?_eq_none (by omega)] at hl;simp[hz] at hl
  have hlen:(Fc p a).length=(Fc p b).length:=Nat.le_antisymm (one a b h') (one b a fun i=>(h' i).symm);apply List.ext_getElem hlen;intro i h1 h2;have:=h' i;simpa[List.getD_eq_getElem?_getD,h1,h2] using this
theorem Wo (l:List Int):Cf l=Fc (fun x=>x == 0) l:=rfl
theorem Wm (l:List T):BO l=Fc (fun x=>x.kind == 0) l:=rfl
theorem tV {a b:List Int}:Cf a=Cf b ↔ ∀ i,a.getD i 0=b.getD i 0:=by
 rw[Wo,Wo];exact fD rfl (fun x _ h=>by simpa using h) (fun x _ h=>by simpa using h)
theorem G6 {t:T} (h:t.kind=0):Ah t=T0:=by cases t;simp at h;rw[BS,if_pos h]
theorem ax:Ah T0=T0:=G6 rfl
theorem Gl (l:List T) (i:Nat):(l.map Ah).getD i T0=Ah (l.getD i T0):=by
 simp only[List.getD_eq_getElem?_getD,List.getElem?_map];cases l[i]? with
 |none=>simp[ax]
 |some x=>rfl
theorem qK {a b:List T}:BO (a.map Ah)=BO (b.map Ah) ↔ ∀ i,Ah (a.getD i T0)=Ah (b.getD i T0):=by
 have hz:∀ c:List T,∀ x,x ∈ c.map Ah→(x.kind == 0)=true→x=T0:=fun c x hx h0=>by
  obtain⟨y,_,rfl⟩:=List.mem_map.1 hx;simp at h0;exact G6 h0
 rw[Wm,Wm,fD (z:=T0) rfl (hz a) (hz b)];constructor
 ·intro h i;rw[← Gl,← Gl];exact h i
 ·intro h i;rw[Gl,Gl];exact h i
theorem struct_eq {w w':List Int} {a b:List T}:Ah (.mk 1 w a)=Ah (.mk 1 w' b) ↔ (∀ i,w.getD i 0=w'.getD i 0)∧∀ i,Ah (a.getD i T0)=Ah (b.getD i T0):=by
 rw[BS,BS];simp only[if_neg (show ¬ (1:Int)=0 by decide),if_true,T.mk.injEq,true_and];rw[tV,qK]
theorem Xq {k:Int} {w w':List Int} {a b:List T} (h0:k ≠ 0) (h1:k ≠ 1):Ah (.mk k w a)=Ah (.mk k w' b) ↔ w=w'∧a.map Ah=b.map Ah:=by
 rw[BS,BS];simp[h0,h1]
theorem Ka:∀ t,Ah (Ah t)=Ah t:=by
 refine T.ind fun k w ks ih=>?_;have hm:(ks.map Ah).map Ah=ks.map Ah:=by
  rw[List.map_map];exact List.map_congr_left fun x hx=>ih x hx
 rw[BS];split
 ·exact ax
 ·rename_i h0;split
  ·rename_i h1;subst h1;rw[struct_eq (w':=w) (b:=ks) |>.2 ⟨fun i=>?_,fun i=>?_⟩,BS]
   ·simp
   ·rw[Wo];exact FK w (fun x _ h=>by simpa using h) i
   ·have hz:∀ x,x ∈ ks.map Ah→(x.kind == 0)=true→x=T0:=fun x hx h0=>by
     obtain⟨y,_,rfl⟩:=List.mem_map.1 hx;simp at h0;exact G6 h0
    rw[Wm,FK _ hz i,← Gl,hm,Gl]
  ·rename_i h1;rw[BS,if_neg h0,if_neg h1,hm]
def Ux (w:Nat) (out:List Int) (j:Nat):Int:=out.getD (j*w / 64) 0 / 2 ^ (j*w % 64) % 2 ^ w
theorem Z0 {a b:Nat}:(2:Int) ^ (a+b)=2 ^ a*2 ^ b:=Int.pow_add _ _ _
theorem nq {x n:Int} {a b w:Nat} (h:a+w≤b):(x+n*2 ^ b) / 2 ^ a % 2 ^ w=x / 2 ^ a % 2 ^ w:=by
 obtain⟨c,rfl⟩:∃ c,b=a+(w+c):=⟨b-a-w,by omega⟩;have pa:(0:Int)<2 ^ a:=Int.pow_pos (by decide);have e:n*2 ^ (a+(w+c))=(n*2 ^ c*2 ^ w)*2 ^ a:=by
  rw[Z0,Z0];rw[Int.mul_comm ((2:Int) ^ w) (2 ^ c),Int.mul_comm ((2:Int) ^ a),← Int.mul_assoc,← Int.mul_assoc]
 rw[e,Int.add_mul_ediv_right _ _ (by omega),Int.add_mul_emod_self_right]
theorem jD {x n:Int} {b w:Nat} (h0:0≤x) (h1:x<2 ^ b) (n0:0≤n) (n1:n<2 ^ w):(x+n*2 ^ b) / 2 ^ b % 2 ^ w=n:=by
 have pb:(0:Int)<2 ^ b:=Int.pow_pos (by decide);rw[Int.add_mul_ediv_right _ _ (by omega),Int.ediv_eq_zero_of_lt h0 h1,Int.zero_add,Int.emod_eq_of_lt n0 n1]
theorem Qf {l:List Int} {q:Nat} {x:Int} (h:q<l.length):(l.set q x).getD q 0=x:=by simp[List.getD_eq_getElem?_getD,h]
theorem WU {l:List Int} {q p:Nat} {x:Int} (h:q ≠ p):(l.set q x).getD p 0=l.getD p 0:=by simp[List.getD_eq_getElem?_getD,List.getElem?_set_ne h]
theorem XL {w:Nat} (hw:w=1∨w=8∨w=16∨w=32∨w=64):∀ (ns:List Int) (i:Nat) (out:List Int),PutI w i out→(∀ x,x ∈ ns→0≤x∧x<2 ^ w)→(∀ j,j<i+ns.length→j*w / 64<out.length) →
  (∀ j,j<i→Ux w (L3 w ns i out) j=Ux w out j)∧∀ (j:Nat) (h:j<ns.length),Ux w (L3 w ns i out) (i+j)=ns[j]
 |[],i,out,_,_,_=>⟨fun j _=>by rw[L3],fun j h=>by simp at h⟩
 |n::ns,i,out,h,hn,hl=>by
  have hat:=hl i (by simp);obtain⟨n0,n1⟩:=hn n (by simp);obtain⟨g,x0,x1,g2,g3⟩:=Uz h hw n0 n1 hat;have hrec:=XL hw ns (i+1) _ g (fun x hx=>hn x (by simp[hx])) (fun j hj=>by rw[List.length_set];exact hl j (by simp;omega));obtain⟨r1,r2⟩:=hrec;rw[L3,if_neg (by omega)];refine⟨fun j hj=>?_,fun j hj=>?_⟩
  ·rw[r1 j (by omega)];unfold Ux;by_cases hq:i*w / 64=j*w / 64
   ·rw[← hq,Qf hat];refine nq ?_;have h1:(j+1)*w≤i*w:=Nat.mul_le_mul_right _ hj;rw[Nat.add_mul,Nat.one_mul] at h1;omega
   ·rw[WU hq]
  ·cases j with
   |zero=>
    have e0:i+0=i:=rfl;rw[e0,r1 i (by omega)];unfold Ux;rw[Qf hat];exact jD x0 x1 n0 n1
   |succ j=>
    have:=r2 j (by simpa using hj);rw[show i+(j+1)=i+1+j by omega];simpa using this
theorem Y6 {B:Nat} (hB:0<B):∀ {ts:List T},(∀ t,t ∈ ts→t.words.length<B)→Gx ts<B
 |[],_=>hB
 |t::ts,h=>by
  have h1:=h t (by simp);have h2:=Y6 hB (ts:=ts) fun u hu=>h u (by simp[hu]);simp only[Gx];omega
theorem YZ {B:Nat} (hB:0<B):∀ {ts:List T},(∀ t,t ∈ ts→t.kids.length<B)→Gw ts<B
 |[],_=>hB
 |t::ts,h=>by
  have h1:=h t (by simp);have h2:=YZ hB (ts:=ts) fun u hu=>h u (by simp[hu]);simp only[Gw];omega
theorem jL {α:Type} {n:Nat} {P:Nat→α→Prop} (h:∀ i,i<n→∃ u,P i u):∃ us:List α,us.length=n∧∀ (i:Nat) (hi:i<us.length),P i us[i]:=by
 induction n with
 |zero=>exact⟨[],rfl,fun i hi=>by simp at hi⟩
 |succ n ih=>
  obtain⟨us,h1,h2⟩:=ih fun i hi=>h i (by omega);obtain⟨u,hu⟩:=h n (by omega);refine⟨us++[u],by simp[h1],fun i hi=>?_⟩;rw[List.getElem_append];split
  ·exact h2 i _
  ·have:i=n:=by simp at hi;omega
   subst this;simpa using hu
theorem UR {a b:List T} (hl:a.length=b.length) (h:∀ (i:Nat) (h1:i<a.length) (h2:i<b.length),Ah a[i]=Ah b[i]):a.map Ah=b.map Ah:=by
 apply List.ext_getElem (by simpa using hl);intro i h1 h2;simp only[List.getElem_map];exact h i (by simpa using h1) (by simpa using h2)
end Go.PL
namespace Go.Proofs.YtbjmaoedheiigaaGreat
open Go Go.G Go.Proofs Go.PL
theorem RM (l:List (List Int)):AA l Rf.zero T0:=.mk _ _ .zero rfl (by simp[E7,Rf.zero]) (by simp[nk,Rf.zero]) (fun i h=>by simp at h) (fun i h=>by simp at h)
theorem jc {d:Nat} {t:T} (h:Ef d t=true):∀ c,c ∈ t.kids→Ef (d-1) c=true∧Ey t.kind c=true:=by
 cases t;exact Iz h
theorem ou {l:List (List Int)} {kd s a n i:Int} (h1:kd ≠ 1) (h8:kd ≠ 8) (h9:kd ≠ 9) (h0:0≤i) (hn:i<n):CZ l ⟨kd,s,a,0,0,n,0⟩ i=(⟨10,0,0,0,0,0,U1 l ⟨kd,s,a,0,0,n,0⟩ i⟩,0):=by
 unfold CZ nk;simp only[if_neg h1,if_neg h8,if_neg h9];rw[if_neg (by omega)]
theorem jW {c:Int} (c0:0≤c) (c6:c<6):KH c=c9 c:=by
 have:c=0∨c=1∨c=2∨c=3∨c=4∨c=5:=by omega
 rcases this with rfl | rfl | rfl | rfl | rfl | rfl<;>rfl
def wL (L:List (List Int)) (k i:Nat):Option Int:=(L[k]?).bind fun g=>g[i]?
def nU (L:List (List Int)) (k:Nat):Nat:=((L[k]?).map List.length).getD 0
theorem J5 (L:List (List Int)) (k i:Nat):Dd L k i=wL L k i:=by simp[Dd,seg,wL]
theorem uL (L:List (List Int)) (k:Nat):szAt L k=nU L k:=by simp[szAt,seg,nU]
theorem KQ {L:List (List Int)} {k a n:Nat} (hk:k<L.length) (h:a+n≤nU L k):Im L k a n=true:=by
 simp only[Im,decide_eq_true_eq,uL];omega
theorem V7 {L:List (List Int)} {k i:Nat} {x:Int} (h:wL L k i=some x):k<L.length∧i<nU L k:=by
 unfold wL at h;cases e:L[k]? with
 |none=>rw[e] at h;simp at h
 |some g=>
  rw[e] at h;have:=(List.getElem?_eq_some_iff.1 e).1;have h2:=(List.getElem?_eq_some_iff.1 h).1;refine⟨this,?_⟩;unfold nU;rw[e];exact h2
theorem kY {L:List (List Int)} {k a n i:Nat}:(part L k a n)[i]? = if i<n then wL L k (a+i) else none:=by
 unfold part seg wL;simp only[Int.natCast_nonneg,if_true,Int.toNat_natCast];rw[List.getElem?_take];split
 ·rw[List.getElem?_drop];cases L[k]?<;>simp
 ·rfl
theorem vP {L:List (List Int)} {k a:Nat} {W:List Int} (h:∀ (i:Nat) (hi:i<W.length),wL L k (a+i)=some W[i]):part L k a W.length=W:=by
 apply List.ext_getElem?;intro i;rw[kY];split
 ·rename_i hi;rw[h i hi,List.getElem?_eq_getElem hi]
 ·rename_i hi;rw[List.getElem?_eq_none (by omega)]
def gF (kd up:Int):Pt:=if kd=0 then ⟨1,0,up % 65536,up / 65536,0,0,0,false⟩ else ⟨2,0,0,0,up % 8,up / 8,0,false⟩
theorem Wy {kd up:Int}:(gF kd up).kind=1∨(gF kd up).kind=2:=by
 unfold gF;split
 ·exact .inl rfl
 ·exact .inr rfl
theorem kV {kd up:Int}:(gF kd up).off=0:=by
 unfold gF;split<;>rfl
theorem iJ {x kd up:Int} (x0:0≤x) (x1:x<1073741824) (hk:kd=0∨kd=1) (u0:0≤up) (u1:up<4294967296) (hz:kd=0→up ≠ 0) :
  Fz (4*x+kd+up*4294967296)={ gF kd up with off:=if x<536870912 then x else x-1073741824 }:=by
 generalize hv:4*x+kd+up*4294967296=v;have hx:v / 4 % 1073741824=x:=by omega
 rcases hk with rfl | rfl
 ·have:=hz rfl;unfold Fz VP;rw[if_neg (by omega),if_pos (by omega),hx];unfold gF;simp only[if_true,Pt.mk.injEq,true_and,and_true];omega
 ·unfold Fz VP;rw[if_neg (by omega),if_neg (by omega),if_pos (by omega),hx];unfold gF;simp only[if_neg (show ¬ (1:Int)=0 by decide),Pt.mk.injEq,true_and,and_true];omega
theorem cS {a t:Nat} {kd up:Int} (ha:a<200000) (ht:t≤200000) (hk:kd=0∨kd=1) (u0:0≤up) (u1:up<4294967296) (hz:kd=0→up ≠ 0) :
  Fz (Uq a t kd up)={ gF kd up with off:=(t:Int)-a-1 }:=by
 unfold Uq;split
 ·rw[iJ (by omega) (by omega) hk u0 u1 hz,if_neg (by omega),show(t:Int)-a-1+1073741824-1073741824=(t:Int)-a-1 by omega]
 ·rw[iJ (by omega) (by omega) hk u0 u1 hz,if_pos (by omega)]
theorem qH {kd up:Int} (hk:kd=0∨kd=1) (u0:0≤up) (u1:up<4294967296) (hz:kd=0→up ≠ 0):Fz (kd+up*4294967296)=gF kd up:=by
 have:=iJ (x:=0) (by omega) (by omega) hk u0 u1 hz;rw[show 4*(0:Int)+kd+up*4294967296=kd+up*4294967296 by omega] at this;rw[this];unfold gF;split<;>rfl
theorem mJ {x y:Nat} (hx:x<4294967296) (hy:y<536870912):Fz (2+8*(y:Int)+4294967296*(x:Int))=⟨3,y,0,0,0,0,x,false⟩:=by
 generalize hv:2+8*(y:Int)+4294967296*(x:Int)=v;unfold Fz;rw[if_neg (by omega),if_neg (by omega),if_neg (by omega),if_pos (by omega)];simp only[Pt.mk.injEq,true_and];refine⟨by omega,by omega,?_⟩;simp;omega
theorem xr {x y:Nat} (hx:x<4294967296) (hy:y<536870912):Fz (6+8*(y:Int)+4294967296*(x:Int))=⟨3,y,0,0,0,0,x,true⟩:=by
 generalize hv:6+8*(y:Int)+4294967296*(x:Int)=v;unfold Fz;rw[if_neg (by omega),if_neg (by omega),if_neg (by omega),if_pos (by omega)];simp only[Pt.mk.injEq,true_and];refine⟨by omega,by omega,?_⟩;simp;omega
def To (L:List (List Int)) (k b g t:Nat) (kd up:Int):Prop:=(kd=0∧up=0→wL L k b=some 4294967292)∧(¬ (kd=0∧up=0)→∃ o,C0 L k b=FE L ⟨{ gF kd up with off:=o },g,t⟩)
theorem vp {L:List (List Int)} {k b t:Nat} {kd up:Int} (h:wL L k b=some (Uq b t kd up)) (hb:b<200000) (ht:t≤200000) (hk:kd=0∨kd=1) (u0:0≤up) (u1:up<4294967296) (hz:¬ (kd=0∧up=0)):To L k b k t kd up:=by
 refine⟨fun e=>absurd e hz,fun _=>⟨(t:Int)-b-1,?_⟩⟩;have hd:=cS hb ht hk u0 u1 fun e e'=>hz ⟨e,e'⟩;have hkd:=Wy (kd:=kd) (up:=up);unfold C0;rw[J5,h];simp only[hd];rw[if_neg (by omega),if_pos (by omega)];unfold Kk;rw[if_pos hkd];simp only;rw[show(b:Int)+1+((t:Int)-b-1)=t by omega]
theorem Aav {L:List (List Int)} {k b g p t:Nat} {kd up:Int} (h:wL L k b=some (2+8*(p:Int)+4294967296*(g:Int))) (h2:wL L g p=some (Uq p t kd up)) (hg:g<100000) (hp:p<200000) (ht:t≤200000) (hk:kd=0∨kd=1) (u0:0≤up) (u1:up<4294967296) (hz:¬ (kd=0∧up=0)):To L k b g t kd up:=by
 refine⟨fun e=>absurd e hz,fun _=>⟨(t:Int)-p-1,?_⟩⟩;have hd:=cS hp ht hk u0 u1 fun e e'=>hz ⟨e,e'⟩;have hkd:=Wy (kd:=kd) (up:=up);unfold C0;rw[J5,h];simp only[mJ (x:=g) (y:=p) (by omega) (by omega)];rw[if_neg (by decide),if_neg (by decide),if_neg (by decide),J5,h2];simp only[hd];unfold Kk;rw[if_pos hkd];simp only;rw[show(p:Int)+1+((t:Int)-p-1)=t by omega]
theorem zn {L:List (List Int)} {k b x y g t:Nat} {kd up:Int} (h:wL L k b=some (6+8*(y:Int)+4294967296*(x:Int))) (h2:wL L x y=some (2+8*(t:Int)+4294967296*(g:Int))) (h3:wL L x (y+1)=some (kd+up*4294967296)) (hx:x<100000) (hy:y<200000) (hg:g<100000) (ht:t≤200000) (hk:kd=0∨kd=1) (u0:0≤up) (u1:up<4294967296) (hz:¬ (kd=0∧up=0)):To L k b g t kd up:=by
 refine⟨fun e=>absurd e hz,fun _=>⟨0,?_⟩⟩;have hd:=qH hk u0 u1 fun e e'=>hz ⟨e,e'⟩;have hkd:=Wy (kd:=kd) (up:=up);unfold C0;rw[J5,h];simp only[xr (x:=x) (y:=y) (by omega) (by omega)];rw[if_neg (by decide),if_neg (by decide),if_pos trivial];unfold HD;rw[J5,h2,show((y:Int)+1)=((y+1:Nat):Int) by omega,J5,h3];simp only[hd,mJ (x:=g) (y:=t) (by omega) (by omega)];rw[if_neg (by decide),if_neg (by omega),if_neg (by rw[kV];omega)];congr 2;have:=kV (kd:=kd) (up:=up);generalize gF kd up=q at *;cases q;simp at this;simp[this]
theorem Uj {L:List (List Int)} {p:Pt} {g t:Nat} {n:Nat} {o:Int} (hp:EE p=some (n:Int)) (h0:p.off=0) (hg:g<L.length) (h:t+n≤nU L g):FE L ⟨{ p with off:=o },g,t⟩=(⟨p,g,t⟩,0):=by
 have e:EE { p with off:=o }=some (n:Int):=hp;unfold FE;simp only[e,Option.getD_some];rw[if_pos (KQ hg h)];cases p;simp at h0;simp[h0]
theorem v9 {w k:Nat} (hw:w<65536):gF 0 ((w:Int)+65536*k)=⟨1,0,w,k,0,0,0,false⟩:=by
 unfold gF;simp only[if_true,Pt.mk.injEq,true_and,and_true];omega
theorem mi {c n:Int} (c0:0≤c) (c8:c<8):gF 1 (c+8*n)=⟨2,0,0,0,c,n,0,false⟩:=by
 unfold gF;rw[if_neg (by decide)];simp only[Pt.mk.injEq,true_and,and_true];omega
theorem zU {L:List (List Int)} {k b g t w n:Nat} (h:To L k b g t 0 ((w:Int)+65536*n)) (hw:w<65536) (hn:n<65536) (hg:g<L.length) (hin:t+(w+n)≤nU L g) :
  ∃ g' t':Nat,Oi L k b=(⟨1,g',t',w,n,0,0⟩,0)∧(w+n ≠ 0→g'=g∧t'=t)∧Im L g' t' ((w+n:Nat):Int)=true:=by
 obtain⟨h0,h1⟩:=h;by_cases hz:w+n=0
 ·have hw0:w=0:=by omega
  have hn0:n=0:=by omega
  subst hw0 hn0;have e:=h0 ⟨rfl,by simp⟩;obtain⟨k1,k2⟩:=V7 e;have hh:=KQ (L:=L) (k:=k) (a:=b) (n:=0) k1 (by omega);refine⟨k,b,?_,fun e=>absurd rfl e,hh⟩;have hd:Fz 4294967292=⟨1,-1,0,0,0,0,0,false⟩:=by decide
  have hf:C0 L k b=(⟨⟨1,0,0,0,0,0,0,false⟩,k,b⟩,0):=by
   unfold C0;rw[J5,e];simp only[hd];rw[if_neg (by decide),if_pos (by decide)];unfold Kk;rw[if_pos (.inl rfl)];simp only;rw[show(b:Int)+1 + -1=b by omega];unfold FE;simp only[EE,if_true,Option.getD_some];rw[if_pos (by simpa using hh)]
  unfold Oi;rw[hf];simp[cT]
 ·obtain⟨o,e⟩:=h1 (by omega);rw[v9 hw] at e;rw[Uj (n:=w+n) (by simp[EE]) rfl hg hin] at e;refine⟨g,t,?_,fun _=>⟨rfl,rfl⟩,KQ hg hin⟩;unfold Oi;rw[e];simp[cT]
theorem uG {L:List (List Int)} {k b g t n m:Nat} {c:Int} (h:To L k b g t 1 (c+8*n)) (c0:0≤c) (c7:c<7) (hn:n<536870912) (hm:((n:Int)*KH c+63) / 64=m) (hg:g<L.length) (hin:t+m≤nU L g) :
  Oi L k b=(⟨2+c,g,t,0,0,n,0⟩,0):=by
 obtain⟨o,e⟩:=h.2 (by omega);rw[mi c0 (by omega)] at e;rw[Uj (n:=m) (by rw[X9 rfl ⟨by simp,by simp;omega,by simp⟩ c7];simp[hm]) rfl hg hin] at e;unfold Oi;rw[e];simp[cT,c7]
theorem AaA {L:List (List Int)} {k b g t n w m:Nat} (h:To L k b g t 1 (7+8*(n*(w+m):Nat))) (ht:wL L g t=some (4*(n:Int)+4294967296*((w:Int)+65536*m))) (hn:n<536870912) (hw:w<65536) (hm:m<65536) (hin:t+(n*(w+m)+1)≤nU L g) :
  Oi L k b=(⟨9,g,(t:Int)+1,w,m,n,0⟩,0):=by
 obtain⟨o,e⟩:=h.2 (by omega);rw[mi (by omega) (by omega)] at e;rw[Uj (n:=n*(w+m)+1) (by rw[Vf rfl rfl];simp) rfl (V7 ht).1 hin] at e;unfold Oi;rw[e];have hm:((n*(w+m):Nat):Int)=(n:Int)*((w:Int)+m):=by rw[Int.natCast_mul,Int.natCast_add]
 have hdt:(4*(n:Int)+4294967296*((w:Int)+65536*m)=0∧n=0∧w=0∧m=0)∨Fz (4*(n:Int)+4294967296*((w:Int)+65536*m))=⟨1,n,w,m,0,0,0,false⟩:=by
  by_cases h0:4*(n:Int)+4294967296*((w:Int)+65536*m)=0
  ·exact .inl ⟨h0,by omega,by omega,by omega⟩
  ·right;unfold Fz VP;rw[if_neg h0,if_pos (by omega)];simp only[Pt.mk.injEq,true_and,and_true];refine⟨?_,by omega,by omega⟩;split<;>omega
 simp only[cT,if_neg (show ¬ (2:Int)=1 by decide),if_neg (show ¬ (7:Int)<7 by decide)];rw[if_neg (by simp)];unfold Xm;rw[J5,ht];simp only[Option.getD_some];rcases hdt with ⟨h0,rfl,rfl,rfl⟩ | hdt
 ·rw[h0];simp[Fz]
 ·rw[hdt];simp only;rw[if_neg];rw[← hm];simp
theorem tW {L:List (List Int)} {k b:Nat} (h:wL L k b=some 0):Oi L k b=(Rf.zero,0):=by
 have e:C0 L k b=(Lc.zero,0):=by
  unfold C0;rw[J5,h];rfl
 unfold Oi;rw[e];rfl
end Go.Proofs.YtbjmaoedheiigaaGreat
namespace Go.Proofs.YtbjmaoedheiigaaGreat
set_option maxRecDepth 20000
open Go Go.G Go.Proofs
@[simp] theorem AhV:DB Tryz.prog 94=some 1:=by kernel_rfl
@[simp] theorem Agx:DQ Tryz.prog 94=some false:=by kernel_rfl
@[simp] theorem qO:An Tryz.prog 97 0=some 0:=by kernel_rfl
@[simp] theorem sK:An Tryz.prog 97 1=some 1:=by kernel_rfl
@[simp] theorem AbO (ps:List (Nat × A)):Cc Tryz.prog 97 ps=(CI (fun i=>([(0,1),(1,1)]:List (Nat × Nat))[i]?) [A.v (Value.pointer none),A.v (Value.bool false)] ps).map A.agg:=by kernel_rfl
def Gp:CC:=sR [aI 4 0,aI 5 0] [0,1] (sR [mO 9 0,nC 10 9,fO 11 97 10 0,lO 12 94 11,mO 13 1,cB 14 104 12 13 94 3,mO 8 14,xO 15 8 0,xO 16 8 1,aO 6 15,aO 7 16] [0,6,7] (sQ [mO 17 6,bQ .lss 18 3 17 0 3] [0,6,7,18] (cD 18 (.reg [mO 19 0,nC 20 19,fO 21 97 20 1,oS (.store 4 (xT 21) (nB false))] [6,7]) (.skip)) [6,7] (sR [mO 22 6,mO 23 7,aO 4 22,aO 5 23] [4,5] (.ret))))
theorem K6:Ba Tryz.prog 55 24 [(.tmp 4),(.tmp 5)] Gp:=Ap Tryz.func55
def Ec:CC:=sR [mO 8 0,nC 9 8,fO 10 97 9 1,lO 11 4 10] [0,1,2,3,11] (cD 11 (.reg [mO 12 0,nC 13 12,fO 14 97 13 0,lO 15 94 14,nC 16 15,fO 17 102 16 0,lO 18 41 17,mO 19 1,iO 20 41 18 19,lO 21 22 20,mO 22 2,mO 23 3,iO 24 22 21 22,sT 51 24 23] []) (.skip))
theorem GO:Ba Tryz.prog 108 25 [] Ec:=Ap Tryz.func108
def G4:CC:=sR [mO 18 9,oO 19 (.binOp .mul 3 (nI 4) (xT 18) 3),oO 20 (.convert 3 51 (xT 19)),mO 21 2,bB .add 22 51 20 21 51,mO 23 3,oO 24 (.binOp .mul 51 (xT 23) (.const (.int .u64 4294967296)) 51),bB .add 25 51 22 24 51,aO 8 25] [8] (.ret) 
def HC:CC:=sR [oO 8 (.assign (.const (.int .u64 0)))] [0,1,2,3] (sR [mO 10 1,mO 11 0,bB .sub 12 3 10 11 3,bQ .sub 13 3 12 1 3,aO 9 13] [2,3,9] (sQ [mO 14 9,bQ .lss 15 3 14 0 3] [2,3,9,15] (cD 15 (.reg [mO 16 9,bQ .add 17 3 16 1073741824 3,aO 9 17] [2,3,9]) (.skip)) [2,3,9] G4))
theorem LD:Ba Tryz.prog 171 26 [(.tmp 8)] HC:=Ap Tryz.func171
def Bb:CC:=sQ [mO 17 0,nC 18 17,fO 19 97 18 1,lO 20 4 19,oO 21 (.unOp .not 4 (xT 20))] [0,1,2,3,4,5,6,21] (cD 21 (.ret) (.skip)) [0,1,2,3,4,5,6] (sQ [mO 22 5,oO 23 (.binOp .eql 51 (xT 22) (.const (.int .u64 0)) 51),mO 24 23,mG 25 6 24 true,oG 26 (.binOp .eql 51 (xT 25) (.const (.int .u64 0)) 51) 24 true,pF 27 24 26] [0,1,2,3,4,5,6,27] (cD 27 (sR [mO 28 0,mO 29 1,mO 30 2,oO 31 (cL 108 #[(xT 28),(xT 29),(xT 30),(.const (.int .u64 4294967292))] #[93,3,3,51])] [] (.ret)) (.skip)) [0,1,2,3,4,5,6] (sQ [mO 32 1,mO 33 3,bB .eql 34 3 32 33 3] [0,1,2,3,4,5,6,34] (cD 34 (sR [mO 35 0,mO 36 1,mO 37 2,mO 38 2,mO 39 4,mO 40 5,mO 41 6,oO 42 (cL 171 #[(xT 38),(xT 39),(xT 40),(xT 41)] #[3,3,51,51]),oO 43 (cL 108 #[(xT 35),(xT 36),(xT 37),(xT 42)] #[93,3,3,51])] [] (.ret)) (.skip)) [0,1,2,3,4,5,6] (sR [mO 44 0,nC 45 44,fO 46 97 45 0,lO 47 94 46,mO 48 3,oO 49 (cL 172 #[(xT 47),(xT 48),(nI 1)] #[94,3,3]),aO 14 49] [0,1,2,3,4,5,6,14] (sQ [mO 50 14,bQ .geq 51 3 50 0 3] [0,1,2,3,4,5,6,14,51] (cD 51 (sR [mO 52 0,mO 53 1,mO 54 2,mO 55 14,oO 56 (.convert 3 51 (xT 55)),oO 57 (.binOp .mul 51 (.const (.int .u64 8)) (xT 56) 51),oO 58 (.binOp .add 51 (.const (.int .u64 2)) (xT 57) 51),mO 59 3,oO 60 (.convert 3 51 (xT 59)),oO 61 (.binOp .mul 51 (.const (.int .u64 4294967296)) (xT 60) 51),bB .add 62 51 58 61 51,oO 63 (cL 108 #[(xT 52),(xT 53),(xT 54),(xT 62)] #[93,3,3,51])] [0,3,4,5,6,14] (sR [mO 64 0,mO 65 3,mO 66 14,mO 67 14,mO 68 4,mO 69 5,mO 70 6,oO 71 (cL 171 #[(xT 67),(xT 68),(xT 69),(xT 70)] #[3,3,51,51]),oO 72 (cL 108 #[(xT 64),(xT 65),(xT 66),(xT 71)] #[93,3,3,51])] [] (.ret))) (.skip)) [0,1,2,3,4,5,6] (sR [mO 74 0,oO 75 (cL 55 #[(xT 74),(nI 2)] #[93,3]),mO 73 75,xO 76 73 0,xO 77 73 1,aO 15 76,aO 16 77] [0,1,2,3,4,5,6,15,16] (sQ [mO 78 0,nC 79 78,fO 80 97 79 1,lO 81 4 80,oO 82 (.unOp .not 4 (xT 81))] [0,1,2,3,4,5,6,15,16,82] (cD 82 (.ret) (.skip)) [0,1,2,3,4,5,6,15,16] (sR [mO 83 0,mO 84 1,mO 85 2,mO 86 16,oO 87 (.convert 3 51 (xT 86)),oO 88 (.binOp .mul 51 (.const (.int .u64 8)) (xT 87) 51),oO 89 (.binOp .add 51 (.const (.int .u64 6)) (xT 88) 51),mO 90 15,oO 91 (.convert 3 51 (xT 90)),oO 92 (.binOp .mul 51 (.const (.int .u64 4294967296)) (xT 91) 51),bB .add 93 51 89 92 51,oO 94 (cL 108 #[(xT 83),(xT 84),(xT 85),(xT 93)] #[93,3,3,51])] [0,3,4,5,6,15,16] (sR [mO 95 0,mO 96 15,mO 97 16,mO 98 4,oO 99 (.convert 3 51 (xT 98)),oO 100 (.binOp .mul 51 (.const (.int .u64 8)) (xT 99) 51),oO 101 (.binOp .add 51 (.const (.int .u64 2)) (xT 100) 51),mO 102 3,oO 103 (.convert 3 51 (xT 102)),oO 104 (.binOp .mul 51 (.const (.int .u64 4294967296)) (xT 103) 51),bB .add 105 51 101 104 51,oO 106 (cL 108 #[(xT 95),(xT 96),(xT 97),(xT 105)] #[93,3,3,51])] [0,5,6,15,16] (.reg [mO 107 0,mO 108 15,mO 109 16,bQ .add 110 3 109 1 3,mO 111 5,mO 112 6,oO 113 (.binOp .mul 51 (xT 112) (.const (.int .u64 4294967296)) 51),bB .add 114 51 111 113 51,oO 115 (cL 108 #[(xT 107),(xT 108),(xT 110),(xT 114)] #[93,3,3,51])] [])))))))))
theorem Bt:Ba Tryz.prog 105 116 [] Bb:=Ap Tryz.func105
def Bk:CC:=sQ [mO 9 8,mO 10 3,bN 11 10 22,bB .lss 12 3 9 11 3] [0,1,2,3,8,12] (cD 12 (.skip) (.exit 0)) [0,1,2,3,8] (.seq (.block 1 (.reg [mO 15 0,mO 16 1,mO 17 2,mO 18 8,bB .add 19 3 17 18 3,mO 20 3,mO 21 8,iO 22 22 20 21,lO 23 51 22,oO 24 (cL 108 #[(xT 15),(xT 16),(xT 19),(xT 23)] #[93,3,3,51])] [0,1,2,3,8])) (.reg [mO 13 8,bQ .add 14 3 13 1 3,aO 8 14] [0,1,2,3,8])) 
def D9:CC:=sR [aI 8 0] [0,1,2,3,8] (.block 0 (.loop Bk))
theorem GA:Ba Tryz.prog 106 25 [] D9:=Ap Tryz.func106
def Bv:CC:=sQ [mO 9 8,fO 10 25 7 2,lO 11 23 10,bN 12 11 23,bB .lss 13 3 9 12 3,mO 14 13,mG 15 0 14 true,oG 16 (.nilCheck (xT 15)) 14 true,fG 17 97 16 1 14 true,lG 18 4 17 14 true,pF 19 14 18] [0,1,2,7,8,19] (cD 19 (.skip) (.exit 0)) [0,1,2,7,8] (.seq (.block 1 (.reg [mO 22 0,mO 23 1,mO 24 2,mO 25 8,bB .add 26 3 24 25 3,fO 27 25 7 2,lO 28 23 27,mO 29 8,iO 30 23 28 29,lO 31 25 30,oO 32 (cL 56 #[(xT 22),(xT 23),(xT 26),(xT 31)] #[93,3,3,25])] [0,1,2,7,8])) (.reg [mO 20 8,bQ .add 21 3 20 1 3,aO 8 21] [0,1,2,7,8])) 
def DE:CC:=sR [bX 7 25 3 [2]] [0,1,2,7] (sR [aI 8 0] [0,1,2,7,8] (.block 0 (.loop Bv)))
theorem Gn:Ba Tryz.prog 107 33 [] DE:=Ap Tryz.func107
def BX:CC:=sQ [mO 192 17,mO 193 8,bB .lss 194 3 192 193 3,mO 195 194,mG 196 0 195 true,oG 197 (.nilCheck (xT 196)) 195 true,fG 198 97 197 1 195 true,lG 199 4 198 195 true,pF 200 195 199] [0,7,8,13,14,15,16,17,200] (cD 200 (.skip) (.exit 3)) [0,7,8,13,14,15,16,17] (.seq (.block 4 (sR [mO 203 0,mO 204 15,mO 205 16,bQ .add 206 3 205 1 3,mO 207 17,mO 208 13,mO 209 14,bB .add 210 3 208 209 3,bB .mul 211 3 207 210 3,bB .add 212 3 206 211 3,fO 213 25 7 2,lO 214 23 213,mO 215 17,iO 216 23 214 215,fO 217 25 216 1,lO 218 22 217,oO 219 (cL 106 #[(xT 203),(xT 204),(xT 212),(xT 218)] #[93,3,3,22])] [0,7,8,13,14,15,16,17] (.reg [mO 220 0,mO 221 15,mO 222 16,bQ .add 223 3 222 1 3,mO 224 17,mO 225 13,mO 226 14,bB .add 227 3 225 226 3,bB .mul 228 3 224 227 3,bB .add 229 3 223 228 3,mO 230 13,bB .add 231 3 229 230 3,fO 232 25 7 2,lO 233 23 232,mO 234 17,iO 235 23 233 234,lO 236 25 235,oO 237 (cL 107 #[(xT 220),(xT 221),(xT 231),(xT 236)] #[93,3,3,25])] [0,7,8,13,14,15,16,17]))) (.reg [mO 201 17,bQ .add 202 3 201 1 3,aO 17 202] [0,7,8,13,14,15,16,17]))
def CF:CC:=sQ [mO 29 19,mO 30 8,bB .lss 31 3 29 30 3] [0,1,2,7,8,18,19,31] (cD 31 (.skip) (.exit 1)) [0,1,2,7,8,18,19] (.seq (.block 2 (.reg [mO 34 18,fO 35 25 7 2,lO 36 23 35,mO 37 19,iO 38 23 36 37,fO 39 25 38 1,lO 40 22 39,oO 41 (.indexAddr 22 (xT 40) (nI 0)),lO 42 51 41,oO 43 (.buildSlice 22 1 #[(0,(xT 42))]),aP 44 34 43 22 22 [3],aO 18 44] [0,1,2,7,8,18,19])) (.stop (.reg [mO 32 19,bQ .add 33 3 32 1 3,aO 19 33] [0,1,2,7,8,18,19]))) 
def BI:CC:=sR [bX 7 25 3 [2]] [0,1,2,7] (sR [fO 24 25 7 2,lO 25 23 24,bN 26 25 23,aO 8 26] [0,1,2,7,8] (sR [fO 27 25 7 0,lO 28 3 27] [0,1,2,7,8,28] (.block 0 (sR [bQ .eql 80 3 28 0 3,aO 79 80] [0,1,2,7,8,28,79] (cD 79 (.ret) (sR [bQ .eql 82 3 28 1 3,aO 81 82] [0,1,2,7,8,28,81] (cD 81 (sR [mO 84 0,fO 85 25 7 1,lO 86 22 85,bN 87 86 22,mO 88 8,bB .add 89 3 87 88 3,cB 90 55 84 89 93 3,mO 83 90,xO 91 83 0,xO 92 83 1,aO 9 91,aO 10 92] [0,1,2,7,8,9,10] (sR [mO 93 0,mO 94 1,mO 95 2,mO 96 9,mO 97 10,fO 98 25 7 1,lO 99 22 98,bN 100 99 22,oO 101 (.convert 3 51 (xT 100)),mO 102 8,oO 103 (.convert 3 51 (xT 102)),oO 104 (.binOp .mul 51 (.const (.int .u64 65536)) (xT 103) 51),bB .add 105 51 101 104 51,oO 106 (cL 105 #[(xT 93),(xT 94),(xT 95),(xT 96),(xT 97),(.const (.int .u64 0)),(xT 105)] #[93,3,3,3,3,51,51])] [0,7,9,10] (sR [mO 107 0,mO 108 9,mO 109 10,fO 110 25 7 1,lO 111 22 110,oO 112 (cL 106 #[(xT 107),(xT 108),(xT 109),(xT 111)] #[93,3,3,22])] [0,7,9,10] (.reg [mO 113 0,mO 114 9,mO 115 10,fO 116 25 7 1,lO 117 22 116,bN 118 117 22,bB .add 119 3 115 118 3,lO 120 25 7,oO 121 (cL 107 #[(xT 113),(xT 114),(xT 119),(xT 120)] #[93,3,3,25])] [])))) (sR [bQ .eql 123 3 28 8 3,aO 122 123] [0,1,2,7,8,28,122] (cD 122 (sR [mO 125 0,mO 126 8,cB 127 55 125 126 93 3,mO 124 127,xO 128 124 0,xO 129 124 1,aO 11 128,aO 12 129] [0,1,2,7,8,11,12] (sR [mO 130 0,mO 131 1,mO 132 2,mO 133 11,mO 134 12,mO 135 8,oO 136 (.convert 3 51 (xT 135)),oO 137 (.binOp .mul 51 (.const (.int .u64 8)) (xT 136) 51),oO 138 (.binOp .add 51 (.const (.int .u64 6)) (xT 137) 51),oO 139 (cL 105 #[(xT 130),(xT 131),(xT 132),(xT 133),(xT 134),(.const (.int .u64 1)),(xT 138)] #[93,3,3,3,3,51,51])] [0,7,11,12] (.reg [mO 140 0,mO 141 11,mO 142 12,lO 143 25 7,oO 144 (cL 107 #[(xT 140),(xT 141),(xT 142),(xT 143)] #[93,3,3,25])] []))) (sR [bQ .eql 146 3 28 9 3,aO 145 146] [0,1,2,7,8,145] (cD 145 (sR [lO 148 25 7,cA 149 66 148 25,mO 147 149,xO 150 147 0,xO 151 147 1,aO 13 150,aO 14 151] [0,1,2,7,8,13,14] (sR [mO 153 0,mO 154 8,mO 155 13,mO 156 14,bB .add 157 3 155 156 3,bB .mul 158 3 154 157 3,oO 159 (.binOp .add 3 (nI 1) (xT 158) 3),cB 160 55 153 159 93 3,mO 152 160,xO 161 152 0,xO 162 152 1,aO 15 161,aO 16 162] [0,1,2,7,8,13,14,15,16] (sR [mO 163 0,mO 164 1,mO 165 2,mO 166 15,mO 167 16,mO 168 8,mO 169 13,mO 170 14,bB .add 171 3 169 170 3,bB .mul 172 3 168 171 3,oO 173 (.convert 3 51 (xT 172)),oO 174 (.binOp .mul 51 (.const (.int .u64 8)) (xT 173) 51),oO 175 (.binOp .add 51 (.const (.int .u64 7)) (xT 174) 51),oO 176 (cL 105 #[(xT 163),(xT 164),(xT 165),(xT 166),(xT 167),(.const (.int .u64 1)),(xT 175)] #[93,3,3,3,3,51,51])] [0,7,8,13,14,15,16] (sR [mO 177 0,mO 178 15,mO 179 16,mO 180 8,oO 181 (.binOp .mul 3 (nI 4) (xT 180) 3),oO 182 (.convert 3 51 (xT 181)),mO 183 13,oO 184 (.convert 3 51 (xT 183)),mO 185 14,oO 186 (.convert 3 51 (xT 185)),oO 187 (.binOp .mul 51 (.const (.int .u64 65536)) (xT 186) 51),bB .add 188 51 184 187 51,oO 189 (.binOp .mul 51 (.const (.int .u64 4294967296)) (xT 188) 51),bB .add 190 51 182 189 51,oO 191 (cL 108 #[(xT 177),(xT 178),(xT 179),(xT 190)] #[93,3,3,51])] [0,7,8,13,14,15,16] (sR [aI 17 0] [0,7,8,13,14,15,16,17] (.block 3 (.loop BX))))))) (sR [aN 18] [0,1,2,7,8,18] (.stop (sQ [aI 19 0] [0,1,2,7,8,18,19] (.block 1 (.loop CF)) [0,1,2,7,8,18] (sR [fO 46 25 7 0,lO 47 3 46,bQ .sub 48 3 47 2 3,mO 49 18,cB 50 69 48 49 3 22,mO 45 50,xO 51 45 0,xO 52 45 1,aO 20 51,aO 21 52] [0,1,2,7,8,20] (sR [mO 54 0,mO 55 20,bN 56 55 22,cB 57 55 54 56 93 3,mO 53 57,xO 58 53 0,xO 59 53 1,aO 22 58,aO 23 59] [0,1,2,7,8,20,22,23] (sR [mO 60 0,mO 61 1,mO 62 2,mO 63 22,mO 64 23,fO 65 25 7 0,lO 66 3 65,bQ .sub 67 3 66 2 3,oO 68 (.convert 3 51 (xT 67)),mO 69 8,oO 70 (.convert 3 51 (xT 69)),oO 71 (.binOp .mul 51 (.const (.int .u64 8)) (xT 70) 51),bB .add 72 51 68 71 51,oO 73 (cL 105 #[(xT 60),(xT 61),(xT 62),(xT 63),(xT 64),(.const (.int .u64 1)),(xT 72)] #[93,3,3,3,3,51,51])] [0,20,22,23] (.reg [mO 74 0,mO 75 22,mO 76 23,mO 77 20,oO 78 (cL 106 #[(xT 74),(xT 75),(xT 76),(xT 77)] #[93,3,3,22])] []))))))))))))))))))
theorem Ce:Ba Tryz.prog 56 238 [] BI:=Ap Tryz.func56
def Gv:CC:=sQ [mO 39 8,nC 40 39,fO 41 97 40 1,lO 42 4 41,oO 43 (.unOp .not 4 (xT 42))] [8,43] (cD 43 (sR [aN 6,aB 7 false] [6,7] (.ret)) (.skip)) [8] (sR [mO 44 8,nC 45 44,fO 46 97 45 0,lO 47 94 46,nC 48 47,fO 49 102 48 0,lO 50 41 49,aO 6 50,aB 7 true] [6,7] (.ret)) 
def G5:CC:=sR [bX 3 25 0 [0],aN 6,aB 7 false] [1,2,3] (sQ [lO 11 25 3,oO 12 (cL 28 #[(xT 11),(nI 64)] #[25,3]),oO 13 (.unOp .not 4 (xT 12)),mO 14 13,fG 15 25 3 0 14 false,lG 16 3 15 14 false,oG 17 (.binOp .eql 3 (xT 16) (nI 10) 3) 14 false,pT 18 14 17] [1,2,3,18] (cD 18 (sR [aN 6,aB 7 false] [6,7] (.ret)) (.skip)) [1,2,3] (sR [mO 19 1,mO 20 2,cB 21 54 19 20 3 3,oO 22 (.build 97 #[(0,(xT 21)),(1,(nB true))]),bX 23 97 22 [1],aO 8 23] [3,8] (sR [mO 25 8,oO 26 (cL 55 #[(xT 25),(nI 1)] #[93,3]),mO 24 26,xO 27 24 0,xO 28 24 1,aO 9 27,aO 10 28] [3,8,9,10] (sQ [mO 29 8,nC 30 29,fO 31 97 30 1,lO 32 4 31] [3,8,9,10,32] (cD 32 (.reg [mO 33 8,mO 34 9,mO 35 10,lO 36 25 3,cA 37 32 36 25,oO 38 (cL 56 #[(xT 33),(xT 34),(xT 35),(xT 37)] #[93,3,3,25])] [8]) (.skip)) [8] Gv))))
theorem Ki:Ba Tryz.prog 26 51 [(.tmp 6),(.tmp 7)] G5:=Ap Tryz.func26
end Go.Proofs.YtbjmaoedheiigaaGreat
namespace Go.Proofs.YtbjmaoedheiigaaGreat
open Go Go.G Go.Proofs
def RR (u:Nat) (S:Ar) (ok:Bool):nA:=⟨fun r q p=>if p=[] then ⟨u,.cells [.pob [q] S.u 0,bv ok]⟩ else ⟨0,.none⟩,fun _ q=>H6 q S,fun {g δ r r' q q'} h1 h2 h3 h4 p=>⟨by
  by_cases hp:p=[]
  ·subst hp;simp only[if_true];exact Fam.cells_ren (by simp[A.renL,A.ren,h3,h4])
  ·rw[if_neg hp,if_neg hp];rfl,V8 h3 h4 S p⟩,fun {D r q} h1 h2 p=>⟨by
  by_cases hp:p=[]
  ·subst hp;simp only[if_true];simp[Ob.refs,A.refsL,A.refs,h2]
  ·rw[if_neg hp];trivial,St h2 S p⟩⟩
@[simp] theorem Ajg {u:Nat} {S:Ar} {ok:Bool} {r q:Nat} {p:Nm}:(RR u S ok).B r q p=if p=[] then ⟨u,.cells [.pob [q] S.u 0,bv ok]⟩ else ⟨0,.none⟩:=rfl
@[simp] theorem Ai1 {u:Nat} {S:Ar} {ok:Bool} {r q:Nat}:(RR u S ok).C r q=H6 q S:=rfl
def wl (S:Ar) (k:Nat):Nat:=((S.l[k]?).map fun e=>e.2.length).getD 0
theorem XQ {S:Ar} {k:Nat} (h:k<S.l.length):wl S k=S.l[k].2.length:=by simp[wl,h]
theorem yN {S:Ar} {k b:Nat} (h:b<wl S k):∃ hk:k<S.l.length,b<S.l[k].2.length:=by
 by_cases hk:k<S.l.length
 ·exact⟨hk,by rwa [XQ hk] at h⟩
 ·simp[wl,List.getElem?_eq_none (Nat.le_of_not_lt hk)] at h
def Wd (S:Ar):Prop:=∀ e,e ∈ S.l→∀ x,x ∈ e.2→Bw x
structure Gr (S S':Ar):Prop where
 ok:S'.Ok
 wd:Wd S'
 wl:∀ k,Go.Proofs.YtbjmaoedheiigaaGreat.wl S k≤Go.Proofs.YtbjmaoedheiigaaGreat.wl S' k
theorem Gr.refl {S:Ar} (h:S.Ok) (w:Wd S):Gr S S:=⟨h,w,fun _=>BZ _⟩
theorem Gr.trans {S S' S2:Ar} (h:Gr S S') (k:Gr S' S2):Gr S S2:=⟨k.ok,k.wd,fun i=>Nat.le_trans (h.wl i) (k.wl i)⟩
theorem ao (S:Ar) (n:Int):1≤(JF S n).l.length:=by
 unfold JF;split
 ·simp[EK]
 ·rename_i h;simp[HV] at h;cases e:S.l with
  |nil=>simp[e] at h
  |cons a l=>simp
theorem qZ (S:Ar) (n:Int):(Dk S n).u=S.u:=by
 have:(JF S n).u=S.u:=by unfold JF;split<;>rfl
 unfold Dk;split
 ·exact this
 ·rfl
theorem Aal (S:Ar) (s n:Int):(K3 S s n).u=S.u:=by
 unfold K3;split<;>rfl
theorem Rv (u:Nat) (S:Ar) (h:S.Ok) (ok:Bool) (n:Int):Iq Tryz.prog 55 (fun r _=>[.pob [r] u 0,iv n]) (RR u S ok)
  (fun _ _=>.tup [iv (if Dq S n=true then ((JF S n).l.length:Int)-1 else -1),iv (if Dq S n=true then (szAt (JF S n).w (((JF S n).l.length:Int)-1):Int) else -1)]) (RR u (Dk S n) (ok&&Dq S n)):=by
 refine BR K6 (by simp) (Aq (A0 AJ) (Aq (A0 Au) A5)) (BK (Aq (A0 Au) (Aq (A0 Au) A5))) fun w0 I0 M0 m0=>?_;unfold Gp;simp;refine ZK (r:=1) (ij S h n) (fun p=>by simp) rfl (fun _ _=>rfl) (fun _=>⟨trivial,trivial⟩) (fun _ _=>rfl) (fun _=>⟨trivial,trivial,trivial⟩) (by simp) ?_;simp;have hp:=ao S n;have hu:=qZ S n;refine⟨fun hc=>?_,fun hc=>?_⟩
 ·have hk:Dq S n=false:=by
   cases e:Dq S n with
   |false=>rfl
   |true=>rw[if_pos e] at hc;omega
  refine C7 rfl rfl (fun p=>?_) (fun p=>?_)
  ·by_cases hp:p=[]
   ·subst hp;simp[Aa,hk,hu]
   ·simp[Aa,hp,hk]
  ·simp
 ·have hk:Dq S n=true:=by
   cases e:Dq S n with
   |true=>rfl
   |false=>simp[e] at hc
  refine C7 rfl rfl (fun p=>?_) (fun p=>?_)
  ·simp[hk,hu]
  ·simp
def SH (S:Ar) (k b:Nat) (w:Int):Ar:={ S with l:=S.l.modify k fun e=>(e.1,e.2.set b w) }
theorem sa {S:Ar} (h:S.Ok) (hw:Wd S) (k b:Nat) {w:Int} (hu:Bw w):Gr S (SH S k b w):=by
 refine⟨⟨h.used0,h.used1,h.most1,h.size0,h.size1,by simpa[SH] using h.len,fun e he=>?_⟩,fun e he x hx=>?_,fun i=>?_⟩
 ·simp only[SH] at he ⊢;obtain⟨i,hi,rfl⟩:=List.getElem_of_mem he;simp only[List.getElem_modify];simp at hi;have:=h.seg _ (Bg hi);split
  ·simpa using this
  ·exact this
 ·simp only[SH] at he;obtain⟨i,hi,rfl⟩:=List.getElem_of_mem he;simp only[List.getElem_modify] at hx;simp at hi;split at hx
  ·rcases List.mem_or_eq_of_mem_set hx with hx | rfl
   ·exact hw _ (Bg hi) x hx
   ·exact hu
  ·exact hw _ (Bg hi) x hx
 ·unfold wl;simp only[SH,List.getElem?_modify];cases e:S.l[i]? with
  |none=>simp
  |some e=>
   by_cases hk:k=i
   ·simp[hk]
   ·simp[hk]
theorem Dc {c:Cx} {rs:List ResultVar} {x:A} {F' N:Nm→VOb} {r0:A} {st:Sta} (h:O7 c.P st rs=some r0) (he:r0=x) (hh:∀ p,st.H (0::p)=F' p) (hn:∀ p,st.H (1::p)=N p):Nt c rs 2 x (ov 0 F' (ov 1 N (EH []))) .normal st:=
 Pa h he fun i p hi=>by
  by_cases h0:i=0
  ·subst h0;rw[hh];simp
  ·have:i=1:=by omega
   subst this;rw[hn];simp
theorem Aaq {r:Nat} {S:Ar} {k b:Nat} {w:Int} (hk:k<S.l.length):Ay (H6 r S) [0,k] ⟨S.l[k].1,.arr 1 ((S.l[k].2.map uv).set b (uv w))⟩=H6 r (SH S k b w):=by
 funext p;refine Gf ?_ (fun h1=>?_)
 ·simp[SH,List.getElem?_modify,hk]
 ·match p,h1 with
  |[],_=>simp[SH]
  |[0],_=>
   have e:Io r (S.l.modify k fun e=>(e.1,e.2.set b w))=Io r S.l:=by
    apply List.ext_getElem
    ·simp
    ·intro i g1 g2;simp only[dt,List.getElem_modify];by_cases e:k=i
     ·subst e;simp
     ·simp[e]
   simp[e,SH]
  |[0,i],h1=>
   have:k ≠ i:=fun e=>h1 (by rw[e]);simp[List.getElem?_modify,this,SH]
  |(a+1)::q,_=>rfl
  |0::a::b::q,_=>rfl
theorem fW (u:Nat) (S:Ar) (s a w:Int):Iq Tryz.prog 108 (fun r _=>[.pob [r] u 0,iv s,iv a,uv w]) (RR u S false) (fun _ _=>.tup []) (RR u S false):=by
 refine BR GO (by simp) (Aq (A0 AJ) (Aq (A0 Au) (Aq (A0 Au) (Aq (A0 Au) A5)))) (BK A5) fun w0 I0 M0 m0=>?_;unfold Ec;simp;exact Dc rfl rfl (fun p=>by simp) (fun p=>by simp)
theorem JW (u:Nat) (S:Ar) (k b:Nat) (w:Int) (hb:b<wl S k):Iq Tryz.prog 108 (fun r _=>[.pob [r] u 0,iv k,iv b,uv w]) (RR u S true) (fun _ _=>.tup []) (RR u (SH S k b w) true):=by
 refine BR GO (by simp) (Aq (A0 AJ) (Aq (A0 Au) (Aq (A0 Au) (Aq (A0 Au) A5)))) (BK A5) fun w0 I0 M0 m0=>?_;unfold Ec;obtain⟨hk,hb'⟩:=yN hb;have hb2:(b:Int)<S.l[k].2.length:=by omega
 simp[hk,hb',hb2];rw[Aaq hk];exact Dc rfl rfl (fun p=>by simp[SH]) (fun p=>by simp)
def dI (z kd up:Int):Int:=u64.wrap (u64.wrap (u64.wrap (i64.wrap (4*z))+kd)+u64.wrap (up*4294967296))
theorem lM {w0:World} {I0:Nat→Prop} (z kd up:Int):WPC (cx Tryz.prog w0 I0 26) G4 (TS Tryz.prog [.tmp 8] (uv (dI z kd up))) ⟨lk [(2,uv kd),(3,uv up),(9,iv z)],EH []⟩:=by
 unfold G4;simp;exact Ad rfl
variable {n0:Nat} {w0:World} {I0:Nat→Prop} {M0:Nm→Nat→Prop} {m0:Mu} {u:Nat} {W:List Int}
theorem iz {k b:Int} {S:Ar} (hn:W.length≤1000000000):∀ (j i:Nat),i+j=W.length→
  ∀ {Q:Exit→Sta→Prop} {H:Hp},(∀ p,H (0::p)=(RR u S false).B 0 1 p)→(∀ p,H (1::p)=H6 1 S p) →
   (∀ s H',(∀ p,H' (0::p)=(RR u S false).B 0 1 p)→(∀ p,H' (1::p)=H6 1 S p)→Q (.exit 0) ⟨s,H'⟩) →
   LoopC (DG Tryz.prog w0 I0 M0 n0 m0) Bk Q ⟨lk [(0,.pob [0] u 0),(1,iv k),(2,iv b),(3,Dz W),(8,iv i)],H⟩:=by
 intro j;induction j with
 |zero=>
  intro i hi Q H g0 g1 q;have:i=W.length:=by omega
  subst this;refine Ab Ai Bk.eq_1 ?_;simp;exact q _ _ g0 g1
 |succ j ih=>
  intro i hi Q H g0 g1 q;have hlt:i<W.length:=by omega
  refine Ab Ai Bk.eq_1 ?_;have hlt2:(i:Int)<W.length:=by omega
  have e2:=Av i;simp[hlt,hlt2];refine Bp 0 1 (by simp) (fW u S k (i64.wrap (b+i)) W[i]) g0 g1 (by simp) (by simp) ?_;simp[e2];refine ih (i+1) (by omega) (fun p=>by simp) (fun p=>by simp) q
theorem bj {S:Ar} {k n i:Nat} (hk:k<S.l.length):wl (Mj S k n) i=wl S i+if i=k then n else 0:=by
 unfold wl;simp only[Mj,HH,List.getElem?_modify];by_cases e:k=i
 ·subst e;simp[hk]
 ·cases h:S.l[i]?<;>simp[e,Ne.symm e]
theorem lU {S:Ar} (h:S.Ok) (hw:Wd S) {k n:Nat} (hk:k<S.l.length) (hn:S.used+n≤S.most):Gr S (Mj S k n):=by
 refine⟨⟨?_,?_,h.most1,h.size0,h.size1,by simpa[Mj,HH] using h.len,fun e he=>?_⟩,fun e he x hx=>?_,fun i=>by rw[bj hk];omega⟩
 ·have:=h.used0;simp only[Mj];omega
 ·simpa[Mj] using hn
 ·simp only[Mj,HH] at he ⊢;obtain⟨i,hi,rfl⟩:=List.getElem_of_mem he;simp only[List.getElem_modify];simp at hi;have:=h.seg _ (Bg hi);split
  ·simp;omega
  ·omega
 ·simp only[Mj,HH] at he;obtain⟨i,hi,rfl⟩:=List.getElem_of_mem he;simp only[List.getElem_modify] at hx;simp at hi;split at hx
  ·simp only[List.mem_append] at hx;rcases hx with hx | hx
   ·exact hw _ (Bg hi) x hx
   ·have:=List.eq_of_mem_replicate hx;subst this;exact⟨by omega,by omega⟩
  ·exact hw _ (Bg hi) x hx
theorem zg {S:Ar} (h:S.Ok) (hw:Wd S) (n:Int):Gr S (JF S n):=by
 refine⟨qX h n,fun e he x hx=>?_,fun i=>?_⟩
 ·unfold JF at he;split at he
  ·simp only[EK,List.mem_append,List.mem_singleton] at he;rcases he with he | rfl
   ·exact hw e he x hx
   ·simp at hx
  ·exact hw e he x hx
 ·unfold JF;split
  ·unfold wl;simp only[EK,List.getElem?_append];split
   ·exact BZ _
   ·rw[List.getElem?_eq_none (by omega)];simp
  ·exact BZ _
theorem Xe {S:Ar} (h:S.Ok) (hw:Wd S) (n:Int):Gr S (Dk S n):=by
 unfold Dk;split
 ·rename_i hg;simp[Dq] at hg;have hu:(JF S n).used=S.used∧(JF S n).most=S.most:=by unfold JF;split<;>exact⟨rfl,rfl⟩
  have g:=zg h hw n;have hp:=ao S n;refine g.trans (lU g.ok g.wd (by omega) ?_);rw[hu.1,hu.2];omega
 ·exact Gr.refl h hw
theorem Aah {S:Ar} (h:S.Ok) (hw:Wd S) (s n:Int):Gr S (K3 S s n):=by
 unfold K3;split
 ·rename_i hg;simp[VO] at hg;exact lU h hw (by omega) (by omega)
 ·exact Gr.refl h hw
end Go.Proofs.YtbjmaoedheiigaaGreat
namespace Go.Proofs.YtbjmaoedheiigaaGreat
open Go Go.G Go.Proofs Go.PL
def wv (S:Ar) (k i:Nat):Option Int:=(S.l[k]?).bind fun e=>e.2[i]?
theorem wL_ar {S:Ar} {k i:Nat}:wL S.w k i=wv S k i:=by
 unfold wL wv Ar.w;rw[List.getElem?_map];cases S.l[k]?<;>rfl
theorem tF {S:Ar} {k:Nat}:nU S.w k=wl S k:=by
 unfold nU wl Ar.w;rw[List.getElem?_map];cases S.l[k]?<;>rfl
theorem G0 {S:Ar} {k i:Nat} {x:Int} (h:wv S k i=some x):k<S.l.length∧i<wl S k:=by
 have:=V7 (wL_ar.trans h);rw[tF] at this;simpa[Ar.w] using this
theorem HZ {S:Ar} {k b:Nat} {w:Int} (hb:b<wl S k) (k' i:Nat):wv (SH S k b w) k' i=if k'=k∧i=b then some w else wv S k' i:=by
 obtain⟨hk,hb'⟩:=yN hb;unfold wv;simp only[SH,List.getElem?_modify];by_cases e:k'=k
 ·subst e;simp only[if_true,List.getElem?_eq_getElem hk,Option.map_some,Option.bind_some,List.getElem?_set,true_and];by_cases e2:i=b
  ·subst e2;simp[hb']
  ·simp[e2,Ne.symm e2]
 ·rw[if_neg (fun h=>e h.1)];cases S.l[k']?<;>simp[Ne.symm e]
theorem TU {S:Ar} {k b:Nat} {w:Int} (k':Nat):wl (SH S k b w) k'=wl S k':=by
 unfold wl;simp only[SH,List.getElem?_modify];cases e:S.l[k']? with
 |none=>simp
 |some e=>
  by_cases hk:k=k'
  ·simp[hk]
  ·simp[hk]
theorem sH {S:Ar} {k b:Nat} {w:Int}:(SH S k b w).l.length=S.l.length:=by simp[SH]
theorem mN {S:Ar} {k n:Nat} (hk:k<S.l.length) (k' i:Nat):wv (Mj S k n) k' i=if k'=k∧wl S k≤i∧i<wl S k+n then some 0 else wv S k' i:=by
 rw[XQ hk];unfold wv;simp only[Mj,HH,List.getElem?_modify];by_cases e:k'=k
 ·subst e;simp only[if_true,List.getElem?_eq_getElem hk,Option.map_eq_map,Option.map_some,Option.bind_some,true_and,List.getElem?_append];split
  ·rw[if_neg (by omega)]
  ·rw[List.getElem?_replicate];split
   ·rw[if_pos (by omega)]
   ·rw[if_neg (by omega),List.getElem?_eq_none (by omega)]
 ·rw[if_neg (fun h=>e h.1)];cases S.l[k']?<;>simp[Ne.symm e]
theorem Aan (S:Ar) (n:Int) (k i:Nat):wv (JF S n) k i=wv S k i:=by
 unfold JF;split
 ·unfold wv;simp only[EK,List.getElem?_append];split
  ·rfl
  ·rw[List.getElem?_eq_none (l:=S.l) (by omega)];cases e:([(1,[])]:List (Nat × List Int))[k-S.l.length]? with
   |none=>rfl
   |some e'=>
    have:=List.mem_of_getElem? e;simp at this;subst this;rfl
 ·rfl
theorem je (S:Ar) (n:Int) (k:Nat):wl (JF S n) k=wl S k:=by
 unfold JF;split
 ·unfold wl;simp only[EK,List.getElem?_append];split
  ·rfl
  ·rw[List.getElem?_eq_none (l:=S.l) (by omega)];cases e:([(1,[])]:List (Nat × List Int))[k-S.l.length]? with
   |none=>rfl
   |some e'=>
    have:=List.mem_of_getElem? e;simp at this;subst this;rfl
 ·rfl
theorem tD (S:Ar) (n:Int):S.l.length≤(JF S n).l.length∧(JF S n).l.length≤S.l.length+1:=by
 unfold JF;split<;>simp[EK]
structure Nw (S S':Ar) (kk bb nn:Nat):Prop where
 b:bb=Go.Proofs.YtbjmaoedheiigaaGreat.wl S kk
 k:kk<S'.l.length
 ln:S.l.length≤S'.l.length
 ln2:S'.l.length≤S.l.length+1
 wl:∀ j,Go.Proofs.YtbjmaoedheiigaaGreat.wl S' j=Go.Proofs.YtbjmaoedheiigaaGreat.wl S j+if j=kk then nn else 0
 wv:∀ j i,Go.Proofs.YtbjmaoedheiigaaGreat.wv S' j i=if j=kk∧bb≤i∧i<bb+nn then some 0 else Go.Proofs.YtbjmaoedheiigaaGreat.wv S j i
theorem gW {S:Ar} {n:Nat} (hg:Dq S n=true):∃ k b:Nat,((JF S n).l.length:Int)-1=k∧(szAt (JF S n).w (((JF S n).l.length:Int)-1):Int)=b∧Nw S (Dk S n) k b n:=by
 have hp:=ao S n;have hk:(JF S n).l.length-1<(JF S n).l.length:=by omega
 have hw:=je S n ((JF S n).l.length-1);refine⟨(JF S n).l.length-1,wl S ((JF S n).l.length-1),by omega,?_,rfl,?_,?_,?_,fun j=>?_,fun j i=>?_⟩
 ·rw[show((JF S n).l.length:Int)-1=(((JF S n).l.length-1:Nat):Int) from by omega,OL (by omega),← hw,XQ (by omega)]
 ·simp[Dk,hg,Mj];omega
 ·have:=(tD S n).1;simp[Dk,hg,Mj];exact this
 ·have:=(tD S n).2;simp[Dk,hg,Mj];exact this
 ·simp only[Dk,hg,if_true,Int.toNat_natCast];rw[bj hk,je]
 ·simp only[Dk,hg,if_true,Int.toNat_natCast];rw[mN hk,Aan,je]
theorem zw {S:Ar} {s:Int} {n:Nat} (hg:VO S s n=true):∃ k:Nat,s=k∧(szAt S.w s:Int)=wl S k∧Nw S (K3 S s n) k (wl S k) n:=by
 have hg':=hg;simp[VO] at hg';obtain⟨k,rfl⟩:=Int.eq_ofNat_of_zero_le hg'.1;have hk:k<S.l.length:=by omega
 refine⟨k,rfl,by rw[OL hk,XQ hk],rfl,?_,?_,?_,fun j=>?_,fun j i=>?_⟩
 ·simp[K3,hg,Mj,hk]
 ·simp[K3,hg,Mj]
 ·simp[K3,hg,Mj]
 ·simp only[K3,hg,if_true,Int.toNat_natCast];rw[bj hk]
 ·simp only[K3,hg,if_true,Int.toNat_natCast];rw[mN hk]
structure Kp31 (P:Nat→Nat→Prop) (S S':Ar):Prop where
 gr:Gr S S'
 ln:S.l.length≤S'.l.length
 eq:∀ k i,i<wl S k→¬ P k i→wv S' k i=wv S k i
theorem Kp31.refl {P:Nat→Nat→Prop} {S:Ar} (h:S.Ok) (w:Wd S):Kp31 P S S:=⟨Gr.refl h w,BZ _,fun _ _ _ _=>rfl⟩
theorem Kp31.trans {P Q R:Nat→Nat→Prop} {S S1 S2:Ar} (h:Kp31 P S S1) (k:Kp31 Q S1 S2) (hp:∀ k i,i<wl S k→P k i→R k i) (hq:∀ k i,i<wl S k→Q k i→R k i):Kp31 R S S2:=by
 refine⟨h.gr.trans k.gr,Nat.le_trans h.ln k.ln,fun x i hi hn=>?_⟩;have:=h.gr.wl x;rw[k.eq x i (by omega) fun e=>hn (hq x i hi e),h.eq x i hi fun e=>hn (hp x i hi e)]
def bI (k b:Nat) (j i:Nat):Prop:=j=k∧i=b
def rng (k b n:Nat) (j i:Nat):Prop:=j=k∧b≤i∧i<b+n
def no2 (j i:Nat):Prop:=False
theorem Nw.kp {S S':Ar} {k b n:Nat} (h:Nw S S' k b n) (g:Gr S S'):Kp31 no2 S S':=by
 refine⟨g,h.ln,fun j i hi _=>?_⟩;rw[h.wv,if_neg];rintro⟨rfl,h1,h2⟩;have:=h.b;omega
theorem NI {S:Ar} (h:S.Ok) (hw:Wd S) {k b:Nat} {w:Int} (hu:Bw w) (hb:b<wl S k):Kp31 (bI k b) S (SH S k b w):=by
 refine⟨sa h hw k b hu,by rw[sH];exact BZ _,fun j i hi hn=>?_⟩;have hn:¬ (j=k∧i=b):=hn;rw[HZ hb,if_neg hn]
structure Ag (P:Nat→Nat→Prop) (S S':Ar) (L:List (List Int)):Prop where
 ln:S'.l.length≤L.length
 wl:∀ k,Go.Proofs.YtbjmaoedheiigaaGreat.wl S' k≤nU L k
 eq:∀ k i,i<Go.Proofs.YtbjmaoedheiigaaGreat.wl S' k→Go.Proofs.YtbjmaoedheiigaaGreat.wl S k≤i∨P k i→wL L k i=wv S' k i
theorem Ag.self (P:Nat→Nat→Prop) (S S':Ar):Ag P S S' S'.w:=⟨by simp[Ar.w],fun k=>by rw[tF];exact BZ _,fun k i _ _=>wL_ar⟩
theorem Ag.fst {P Q R:Nat→Nat→Prop} {S S1 S2:Ar} {L:List (List Int)} (h:Ag R S S2 L) (k:Kp31 Q S1 S2) (hp:∀ k i,i<Go.Proofs.YtbjmaoedheiigaaGreat.wl S1 k→P k i→Go.Proofs.YtbjmaoedheiigaaGreat.wl S k≤i∨R k i) (hq:∀ k i,i<Go.Proofs.YtbjmaoedheiigaaGreat.wl S1 k→Q k i→¬ (Go.Proofs.YtbjmaoedheiigaaGreat.wl S k≤i∨P k i)):Ag P S S1 L:=by
 refine⟨Nat.le_trans k.ln h.ln,fun j=>Nat.le_trans (k.gr.wl j) (h.wl j),fun j i hi ho=>?_⟩;have:=k.gr.wl j;rw[h.eq j i (by omega) ?_,k.eq j i hi fun e=>hq j i hi e ho];rcases ho with ho | ho
 ·exact .inl ho
 ·exact hp j i hi ho
theorem Ag.snd {Q R:Nat→Nat→Prop} {S S1 S2:Ar} {L:List (List Int)} (h:Ag R S S2 L) (g:Gr S S1) (hq:∀ k i,i<Go.Proofs.YtbjmaoedheiigaaGreat.wl S2 k→Q k i→Go.Proofs.YtbjmaoedheiigaaGreat.wl S k≤i∨R k i):Ag Q S1 S2 L:=by
 refine⟨h.ln,h.wl,fun j i hi ho=>h.eq j i hi ?_⟩;have:=g.wl j;rcases ho with ho | ho
 ·exact .inl (by omega)
 ·exact hq j i hi ho
theorem Ag.at {P:Nat→Nat→Prop} {S S':Ar} {L:List (List Int)} (h:Ag P S S' L) {k i:Nat} {x:Int} (hx:wv S' k i=some x) (ho:Go.Proofs.YtbjmaoedheiigaaGreat.wl S k≤i∨P k i):wL L k i=some x:=by
 rw[h.eq k i (G0 hx).2 ho,hx]
end Go.Proofs.YtbjmaoedheiigaaGreat
namespace Go.Proofs.YtbjmaoedheiigaaGreat
open Go Go.G Go.Proofs
theorem MY {u:Nat} {s a g t kd up:Int}:SY (fun r _=>[.pob [r] u 0,iv s,iv a,iv g,iv t,uv kd,uv up]):=Aq (A0 AJ) (Aq (A0 Au) (Aq (A0 Au) (Aq (A0 Au) (Aq (A0 Au) (Aq (A0 Au) (Aq (A0 Au) A5))))))
def P8 (c x y:Int):Int:=u64.wrap (u64.wrap (c+u64.wrap (8*u64.wrap x))+u64.wrap (4294967296*u64.wrap y))
theorem af (c x y:Int):Bw (P8 c x y):=EI _
end Go.Proofs.YtbjmaoedheiigaaGreat
namespace Go.Proofs.YtbjmaoedheiigaaGreat
open Go Go.G Go.Proofs Go.PL
theorem Vl {f t:Nat} {kd up:Int} (hf:f≤200000) (ht:t≤200000) (hk:kd=0∨kd=1) (u0:0≤up) (u1:up<4294967296):Bw (Uq f t kd up)∧G.Spec Tryz.prog 171 [iv f,iv t,uv kd,uv up] (uv (Uq f t kd up)):=by
 have key:∀ z:Int,0≤z→z<1073741824→dI z kd up=4*z+kd+up*4294967296:=fun z z0 z1=>by
  unfold dI;rw[Al (n:=4*z) (by omega) (by omega),AG (n:=4*z) (by omega) (by omega),AG (n:=4*z+kd) (by omega) (by omega),AG (n:=up*4294967296) (by omega) (by omega),AG (by omega) (by omega)]
 have e1:i64.wrap (i64.wrap ((t:Int)-f)-1)=(t:Int)-f-1:=by rw[Al (n:=(t:Int)-f) (by omega) (by omega),Al (by omega) (by omega)]
 by_cases hc:(t:Int)-f-1<0
 ·have e2:i64.wrap ((t:Int)-f-1+1073741824)=(t:Int)-f-1+1073741824:=BJ;have e3:=key ((t:Int)-f-1+1073741824) (by omega) (by omega);have e4:Uq f t kd up=dI ((t:Int)-f-1+1073741824) kd up:=by rw[e3,Uq,if_pos hc]
  rw[e4];refine⟨EI _,Aj LD (by simp) fun w0 I0=>?_⟩;unfold HC;simp[e1,hc,e2];exact lM _ kd up
 ·have e3:=key ((t:Int)-f-1) (by omega) (by omega);have e4:Uq f t kd up=dI ((t:Int)-f-1) kd up:=by rw[e3,Uq,if_neg hc]
  rw[e4];refine⟨EI _,Aj LD (by simp) fun w0 I0=>?_⟩;unfold HC;simp[e1,hc];exact lM _ kd up
theorem ct {c:Int} {x y:Nat} (c0:0≤c) (c1:c<10) (hx:x≤200000) (hy:y≤100000):P8 c x y=c+8*(x:Int)+4294967296*(y:Int):=by
 unfold P8;rw[AG (n:=(x:Int)) (by omega) (by omega),AG (n:=(y:Int)) (by omega) (by omega),AG (n:=8*(x:Int)) (by omega) (by omega),AG (n:=c+8*(x:Int)) (by omega) (by omega),AG (n:=4294967296*(y:Int)) (by omega) (by omega),AG (by omega) (by omega)]
theorem Oy {S:Ar} (h:S.Ok) (k:Nat):wl S k≤131072:=by
 by_cases hk:k<S.l.length
 ·rw[XQ hk];have:=h.seg _ (Bg hk);have:=h.used1;have:=h.most1;omega
 ·simp[wl,List.getElem?_eq_none (Nat.le_of_not_lt hk)]
theorem JZ (u:Nat) {S:Ar} (h:S.Ok) (hw:Wd S) (ok:Bool) (s a g t kd up:Int) (hk:kd=0∨kd=1) (u0:0≤up) (u1:ok=true→up<4294967296) (hp:ok=true→∃ k b:Nat,s=k∧a=b∧b<wl S k) (hq:ok=true→∃ k b:Nat,g=k∧t=b∧b≤wl S k∧k<S.l.length) :
  ∃ S' ok',Gr S S'∧(ok'=true→ok=true)∧Iq Tryz.prog 105 (fun r _=>[.pob [r] u 0,iv s,iv a,iv g,iv t,uv kd,uv up]) (RR u S ok) (fun _ _=>.tup []) (RR u S' ok') ∧
  (ok'=true→∀ k b g' t':Nat,s=k→a=b→g=g'→t=t'→Kp31 (bI k b) S S'∧∀ L,Ag (bI k b) S S' L→To L k b g' t' kd up):=by
 cases ok with
 |false=>
  refine⟨S,false,Gr.refl h hw,id,BR Bt (by simp) MY (BK A5) fun w0 I0 M0 m0=>?_,fun e=>by cases e⟩;unfold Bb;simp;exact C7 rfl rfl (fun p=>by simp) (fun p=>by simp)
 |true=>
  obtain⟨k,b,rfl,rfl,hb⟩:=hp rfl;obtain⟨gk,tb,rfl,rfl,htb,hgk⟩:=hq rfl;have u1:=u1 rfl;have hwl:=Oy h k;have hwl2:=Oy h gk;have hln:=h.len;by_cases h0:(decide (kd=0)&&decide (up=0))=true
  ·have g1:=NI h hw (w:=4294967292) ⟨by omega,by omega⟩ hb;refine⟨_,true,g1.gr,id,BR Bt (by simp) MY (BK A5) fun w0 I0 M0 m0=>?_,fun _ k' b' g' t' e1 e2 e3 e4=>?_⟩
   ·unfold Bb;simp[h0];refine Bp 0 1 (by simp) (JW u S k b 4294967292 (by omega)) (fun p=>by simp) (fun p=>by simp) (by simp) (by simp) ?_;simp;exact C7 rfl rfl (fun p=>by simp) (fun p=>by simp)
   ·have e1:k'=k:=by omega
    have e2:b'=b:=by omega
    subst e1 e2;refine⟨g1,fun L hL=>⟨fun _=>hL.at (by rw[HZ hb,if_pos ⟨rfl,rfl⟩]) (.inr ⟨rfl,rfl⟩),fun hn=>?_⟩⟩;simp at h0;exact absurd h0 hn
  have hz:¬ (kd=0∧up=0):=fun e=>h0 (by simp[e.1,e.2]);have h0:=Bool.eq_false_iff.2 h0;by_cases hs:(gk:Int)=(k:Int)
  ·have hs:gk=k:=by omega
   subst hs;obtain⟨hx,hN⟩:=Vl (f:=b) (t:=tb) (by omega) (by omega) hk u0 u1;have g1:=NI h hw hx hb;refine⟨_,true,g1.gr,id,BR Bt (by simp) MY (BK A5) fun w0 I0 M0 m0=>?_,fun _ k' b' g' t' e1 e2 e3 e4=>?_⟩
   ·unfold Bb;simp[h0];refine Ae hN (by simp) ?_;simp;refine Bp 0 1 (by simp) (JW u S gk b (Uq b tb kd up) (by omega)) (fun p=>by simp) (fun p=>by simp) (by simp) (by simp) ?_;simp;exact C7 rfl rfl (fun p=>by simp) (fun p=>by simp)
   ·have e1:k'=gk:=by omega
    have e2:b'=b:=by omega
    have e3:g'=gk:=by omega
    have e4:t'=tb:=by omega
    subst e1 e2 e3 e4;exact⟨g1,fun L hL=>vp (hL.at (by rw[HZ hb,if_pos ⟨rfl,rfl⟩]) (.inr ⟨rfl,rfl⟩)) (by omega) (by omega) hk u0 u1 hz⟩
  have hs':¬ (k:Int)=gk:=fun e=>hs e.symm;by_cases hi:VO S gk 1=true
  ·obtain⟨k2,e0,e1,nw⟩:=zw (n:=1) hi;have e0:k2=gk:=by omega
   subst e0;have gi:=Aah h hw k2 1;have nw:Nw S (K3 S k2 1) k2 (wl S k2) 1:=nw;have ki:=nw.kp gi;have hfv:=ct (c:=2) (x:=wl S k2) (y:=k2) (by omega) (by omega) (by omega) (by omega);obtain⟨hx,hN⟩:=Vl (f:=wl S k2) (t:=tb) (by omega) (by omega) hk u0 u1;have hu:=Aal S k2 1;have hr1:b<wl (K3 S k2 1) k:=by have:=gi.wl k;omega
   have ka:=NI gi.ok gi.wd (af 2 (wl S k2) k2) hr1;have hr2:wl S k2<wl (SH (K3 S k2 1) k b (P8 2 (wl S k2) k2)) k2:=by rw[TU,nw.wl];simp
   have kb:=NI ka.gr.ok ka.gr.wd hx hr2;have hkp:Kp31 (bI k b) S (SH (SH (K3 S k2 1) k b (P8 2 (wl S k2) k2)) k2 (wl S k2) (Uq (wl S k2) tb kd up)):=by
    refine(ki.trans ka (R:=bI k b) (fun _ _ _ e=>e.elim) (fun _ _ _ e=>e)).trans kb (fun _ _ _ e=>e) fun x y hxy e=>?_;obtain⟨rfl,rfl⟩:=e;omega
   refine⟨_,true,(gi.trans ka.gr).trans kb.gr,id,BR Bt (by simp) MY (BK A5) fun w0 I0 M0 m0=>?_,fun _ k' b' g' t' e3 e4 e5 e6=>?_⟩
   ·unfold Bb;simp[h0,hs'];refine ZK (r:=1) (WT S h k2 1) (fun p=>by simp) rfl (fun _ _=>rfl) (fun _=>⟨trivial,trivial,trivial⟩) (fun _ _=>rfl) (fun _=>trivial) (by simp) ?_;rw[if_pos hi,e1];simp;refine Bp 0 1 (by simp) (JW u (K3 S k2 1) k b (P8 2 (wl S k2) k2) hr1) (fun p=>by simp[hu]) (fun p=>by simp) (by simp[P8]) (by simp) ?_;simp;refine Ae hN (by simp) ?_;simp;refine Bp 0 1 (by simp) (JW u _ k2 (wl S k2) (Uq (wl S k2) tb kd up) hr2) (fun p=>by simp) (fun p=>by simp) (by simp) (by simp) ?_;simp;exact C7 rfl rfl (fun p=>by simp) (fun p=>by simp)
   ·have e3:k'=k:=by omega
    have e4:b'=b:=by omega
    have e5:g'=k2:=by omega
    have e6:t'=tb:=by omega
    subst e3 e4 e5 e6;refine⟨hkp,fun L hL=>Aav (p:=wl S g') (g:=g') ?_ ?_ (by omega) (by omega) (by omega) hk u0 u1 hz⟩
    ·refine hL.at ?_ (.inr ⟨rfl,rfl⟩);rw[HZ hr2,if_neg (by omega),HZ hr1,if_pos ⟨rfl,rfl⟩,hfv]
    ·refine hL.at ?_ (.inl (BZ _));rw[HZ hr2,if_pos ⟨rfl,rfl⟩]
  ·have hi:=Bool.eq_false_iff.2 hi;have hin:K3 S gk 1=S:=by simp[K3,hi]
   by_cases hgv:Dq S 2=true
   ·obtain⟨k3,b3,e1,e2,nw⟩:=gW (n:=2) hgv;have gi:=Xe h hw 2;have nw:Nw S (Dk S 2) k3 b3 2:=nw;have ki:=nw.kp gi;have hb3:=nw.b;have hwl3:=Oy h k3;have hk3:=nw.k;have hl3:=gi.ok.len;have e1:((JF S 2).l.length:Int)-1=k3:=e1;have e2:(szAt (JF S 2).w (((JF S 2).l.length:Int)-1):Int)=b3:=e2;have hf1:=ct (c:=6) (x:=b3) (y:=k3) (by omega) (by omega) (by omega) (by omega);have hf2:=ct (c:=2) (x:=tb) (y:=gk) (by omega) (by omega) (by omega) (by omega);have hf3:u64.wrap (kd+u64.wrap (up*4294967296))=kd+up*4294967296:=by rw[AG (n:=up*4294967296) (by omega) (by omega),AG (by omega) (by omega)]
    have hr1:b<wl (Dk S 2) k:=by have:=gi.wl k;omega
    have ka:=NI gi.ok gi.wd (af 6 b3 k3) hr1;have hr2:b3<wl (SH (Dk S 2) k b (P8 6 b3 k3)) k3:=by rw[TU,nw.wl];simp;omega
    have kb:=NI ka.gr.ok ka.gr.wd (af 2 tb gk) hr2;have hr3:b3+1<wl (SH (SH (Dk S 2) k b (P8 6 b3 k3)) k3 b3 (P8 2 tb gk)) k3:=by rw[TU,TU,nw.wl];simp;omega
    have kc:=NI kb.gr.ok kb.gr.wd (EI (kd+u64.wrap (up*4294967296))) hr3;have hkp:Kp31 (bI k b) S (SH (SH (SH (Dk S 2) k b (P8 6 b3 k3)) k3 b3 (P8 2 tb gk)) k3 (b3+1) (u64.wrap (kd+u64.wrap (up*4294967296)))):=by
     refine((ki.trans ka (R:=bI k b) (fun _ _ _ e=>e.elim) (fun _ _ _ e=>e)).trans kb (R:=bI k b) (fun _ _ _ e=>e) fun x y hxy e=>?_).trans kc (fun _ _ _ e=>e) fun x y hxy e=>?_
     ·obtain⟨rfl,rfl⟩:=e;omega
     ·obtain⟨rfl,rfl⟩:=e;omega
    refine⟨_,true,((gi.trans ka.gr).trans kb.gr).trans kc.gr,id,BR Bt (by simp) MY (BK A5) fun w0 I0 M0 m0=>?_,fun _ k' b' g' t' e3 e4 e5 e6=>?_⟩
    ·unfold Bb;simp[h0,hs'];refine ZK (r:=1) (WT S h gk 1) (fun p=>by simp) rfl (fun _ _=>rfl) (fun _=>⟨trivial,trivial,trivial⟩) (fun _ _=>rfl) (fun _=>trivial) (by simp) ?_;rw[hi,hin];simp;refine Bp 0 1 (by simp) (Rv u S h true 2) (fun p=>by simp) (fun p=>by simp) (by simp) (by simp) ?_;rw[if_pos hgv,if_pos hgv,e2,e1,hgv];have ew:=Av b3;simp[ew];refine Bp 0 1 (by simp) (JW u (Dk S 2) k b (P8 6 b3 k3) hr1) (fun p=>by simp) (fun p=>by simp) (by simp[P8]) (by simp) ?_;simp[ew];refine Bp 0 1 (by simp) (JW u _ k3 b3 (P8 2 tb gk) hr2) (fun p=>by simp) (fun p=>by simp) (by simp[P8]) (by simp) ?_;simp[ew];refine Bp 0 1 (by simp) (JW u _ k3 (b3+1) (u64.wrap (kd+u64.wrap (up*4294967296))) hr3) (fun p=>by simp) (fun p=>by simp) (by simp[ew]) (by simp) ?_;simp;exact Dc rfl rfl (fun p=>by simp) (fun p=>by simp)
    ·have e3:k'=k:=by omega
     have e4:b'=b:=by omega
     have e5:g'=gk:=by omega
     have e6:t'=tb:=by omega
     subst e3 e4 e5 e6;refine⟨hkp,fun L hL=>zn (x:=k3) (y:=b3) ?_ ?_ ?_ (by omega) (by omega) (by omega) (by omega) hk u0 u1 hz⟩
     ·refine hL.at ?_ (.inr ⟨rfl,rfl⟩);have n1:¬ (k'=k3∧b'=b3+1):=fun ⟨x,y⟩=>by subst x;omega
      have n2:¬ (k'=k3∧b'=b3):=fun ⟨x,y⟩=>by subst x;omega
      rw[HZ hr3,if_neg n1,HZ hr2,if_neg n2,HZ hr1,if_pos ⟨rfl,rfl⟩,hf1]
     ·refine hL.at ?_ (.inl (by omega));rw[HZ hr3,if_neg (by omega),HZ hr2,if_pos ⟨rfl,rfl⟩,hf2]
     ·refine hL.at ?_ (.inl (by omega));rw[HZ hr3,if_pos ⟨rfl,rfl⟩,hf3]
   ·have hgv:=Bool.eq_false_iff.2 hgv;refine⟨_,false,Xe h hw 2,(fun e=>by cases e),BR Bt (by simp) MY (BK A5) fun w0 I0 M0 m0=>?_,fun e=>by cases e⟩;unfold Bb;simp[h0,hs'];refine ZK (r:=1) (WT S h gk 1) (fun p=>by simp) rfl (fun _ _=>rfl) (fun _=>⟨trivial,trivial,trivial⟩) (fun _ _=>rfl) (fun _=>trivial) (by simp) ?_;rw[hi,hin];simp;refine Bp 0 1 (by simp) (Rv u S h true 2) (fun p=>by simp) (fun p=>by simp) (by simp) (by simp) ?_;simp[hgv];exact C7 rfl rfl (fun p=>by simp) (fun p=>by simp)
theorem sY {u:Nat} {W:List Int} {k b:Nat} (hW:∀ x,x ∈ W→Bw x) (hn:W.length≤1000000000) (hb0:b≤1000000):∀ (j i:Nat) (S:Ar),S.Ok→Wd S→i+j=W.length→b+W.length≤wl S k →
  ∃ S',(Kp31 (rng k (b+i) j) S S'∧(∀ x,wl S' x=wl S x)∧S'.l.length=S.l.length∧∀ (q:Nat) (hq:q<W.length),i≤q→wv S' k (b+q)=some W[q])∧∀ {n0:Nat} {w0:World} {I0:Nat→Prop} {M0:Nm→Nat→Prop} {m0:Mu} {Q:Exit→Sta→Prop} {H:Hp},(∀ p,H (0::p)=(RR u S true).B 0 1 p)→(∀ p,H (1::p)=H6 1 S p) →
   (∀ s H',(∀ p,H' (0::p)=(RR u S' true).B 0 1 p)→(∀ p,H' (1::p)=H6 1 S' p)→Q (.exit 0) ⟨s,H'⟩) →
   LoopC (DG Tryz.prog w0 I0 M0 n0 m0) Bk Q ⟨lk [(0,.pob [0] u 0),(1,iv k),(2,iv b),(3,Dz W),(8,iv i)],H⟩:=by
 intro j;induction j with
 |zero=>
  intro i S h hw hi hb;refine⟨S,⟨Kp31.refl h hw,fun _=>rfl,rfl,fun q hq hq2=>by omega⟩,fun {n0 w0 I0 M0 m0 Q H} g0 g1 q=>?_⟩;have:i=W.length:=by omega
  subst this;refine Ab Ai Bk.eq_1 ?_;simp;exact q _ _ g0 g1
 |succ j ih=>
  intro i S h hw hi hb;have hlt:i<W.length:=by omega
  have hx:Bw W[i]:=hW _ (Bg hlt);have hlb:b+i<wl S k:=by omega
  have g:=NI h hw hx hlb;obtain⟨S',⟨g',gw,gl,gq⟩,hl⟩:=ih (i+1) (SH S k (b+i) W[i]) g.gr.ok g.gr.wd (by omega) (Nat.le_trans hb (g.gr.wl k));refine⟨S',⟨g.trans g' (fun x y _ e=>?_) (fun x y _ e=>?_),fun x=>by rw[gw,TU],by rw[gl,sH],fun q hq hq2=>?_⟩,fun {n0 w0 I0 M0 m0 Q H} g0 g1 q=>?_⟩
  ·obtain⟨e1,e2⟩:=e;exact⟨e1,by omega,by omega⟩
  ·obtain⟨e1,e2,e3⟩:=e;exact⟨e1,by omega,by omega⟩
  ·by_cases e:q=i
   ·subst e;rw[g'.eq k (b+q) (by rw[TU];omega) (fun e=>by obtain⟨_,e,_⟩:=e;omega),HZ hlb,if_pos ⟨rfl,rfl⟩]
   ·exact gq q hq (by omega)
  refine Ab Ai Bk.eq_1 ?_;have hlt2:(i:Int)<W.length:=by omega
  have e1:i64.wrap ((b:Int)+i)=((b+i:Nat):Int):=(Al (n:=(b:Int)+i) (by omega) (by omega)).trans (by omega);have e2:=Av i;simp[hlt,hlt2,e1];refine Bp 0 1 (by simp) (JW u S k (b+i) W[i] (by omega)) g0 g1 (by simp[e1]) (by simp) ?_;simp[e2];refine hl (fun p=>by simp) (fun p=>by simp) q
theorem QX (u:Nat) {S:Ar} (h:S.Ok) (hw:Wd S) {W:List Int} (hW:∀ x,x ∈ W→Bw x) (hn:W.length≤1000000000) (ok:Bool) (s a:Int) (hp:ok=true→∃ k b:Nat,s=k∧a=b∧b+W.length≤wl S k∧b≤1000000) :
  ∃ S',Gr S S'∧Iq Tryz.prog 106 (fun r _=>[.pob [r] u 0,iv s,iv a,Dz W]) (RR u S ok) (fun _ _=>.tup []) (RR u S' ok) ∧
  (ok=true→∀ k b:Nat,s=k→a=b→Kp31 (rng k b W.length) S S'∧(∀ x,wl S' x=wl S x)∧S'.l.length=S.l.length∧∀ (q:Nat) (hq:q<W.length),wv S' k (b+q)=some W[q]):=by
 have fa:SY (fun r _=>[.pob [r] u 0,iv s,iv a,Dz W]):=Aq (A0 AJ) (Aq (A0 Au) (Aq (A0 Au) (Aq (A0 Dl) A5)));cases ok with
 |false=>
  refine⟨S,Gr.refl h hw,BR GA (by simp) fa (BK A5) fun w0 I0 M0 m0=>?_,fun e=>by cases e⟩;unfold D9;simp;refine iz (S:=S) hn W.length 0 (by omega) (fun p=>by simp) (fun p=>by simp) fun s H' g0 g1=>?_;simp;exact Dc rfl rfl g0 g1
 |true=>
  obtain⟨k,b,rfl,rfl,hb,hb0⟩:=hp rfl;obtain⟨S',⟨g,gw,gl,gq⟩,hl⟩:=sY (u:=u) hW hn hb0 W.length 0 S h hw (by omega) hb;refine⟨S',g.gr,BR GA (by simp) fa (BK A5) fun w0 I0 M0 m0=>?_,fun _ k' b' e1 e2=>?_⟩
  ·unfold D9;simp;refine hl (fun p=>by simp) (fun p=>by simp) fun s H' g0 g1=>?_;simp;exact Dc rfl rfl g0 g1
  ·have e1:k'=k:=by omega
   have e2:b'=b:=by omega
   subst e1 e2;exact⟨g,gw,gl,fun q hq=>gq q hq (by omega)⟩
theorem XG {S:Ar} (h:S.Ok) (hw:Wd S) (u:Nat) (ok:Bool) (n:Nat):∃ (s a:Int) (S':Ar) (ok':Bool),Gr S S'∧(ok'=true→ok=true)∧(ok'=true→∃ k b:Nat,s=k∧a=b∧Nw S S' k b n) ∧
  Iq Tryz.prog 55 (fun r _=>[.pob [r] u 0,iv (n:Int)]) (RR u S ok) (fun _ _=>.tup [iv s,iv a]) (RR u S' ok'):=by
 refine⟨_,_,_,_,Xe h hw n,?_,?_,Rv u S h ok n⟩
 ·intro e;simp at e;exact e.1
 ·intro e;simp at e;obtain⟨k,b,e1,e2,e3⟩:=gW e.2;exact⟨k,b,by rw[if_pos e.2,e1],by rw[if_pos e.2,e2],e3⟩
theorem jA:∀ (t:T) (d:Nat),Ef d t=true→BH t→t.kind ≠ 10→M7 (Ah t):=by
 refine T.ind fun k w ks ih d hr hw h10=>?_;have hst:=Iz hr;have hwk:=(wfT_iff.1 hw).ks;simp at h10;rw[DH] at hr;rw[BS];by_cases h0:k=0
 ·rw[if_pos h0];exact .null _
 rw[if_neg h0] at hr ⊢;rw[if_neg h10] at hr;have htb:FU k d w.length ks.length=false:=by
  cases e:FU k d w.length ks.length with
  |false=>rfl
  |true=>rw[e] at hr;simp at hr
 simp[FU] at htb;by_cases h1:k=1
 ·rw[if_pos h1];have hb2:=KL w;have hb3:=Ji (ks.map Ah);rw[List.length_map] at hb3;refine .str _ _ (by omega) (by omega) fun t ht=>?_;rw[PN] at ht;obtain⟨u,hu,rfl⟩:=List.mem_map.1 (Oh ht);obtain⟨g1,g2⟩:=hst u hu;refine ih u hu _ g1 (hwk u hu) fun e=>?_;subst h1;simp[Ey,F0,e] at g2
 rw[if_neg h1];by_cases h8:k=8
 ·subst h8;refine .ptrs _ _ (by simp;omega) fun t ht=>?_;obtain⟨u,hu,rfl⟩:=List.mem_map.1 ht;obtain⟨g1,g2⟩:=hst u hu;refine ih u hu _ g1 (hwk u hu) fun e=>?_;simp[Ey,F0,e] at g2
 by_cases h9:k=9
 ·subst h9;have kk:∀ u,u ∈ ks→u.kind=1∧M7 (Ah u):=fun u hu=>by
   obtain⟨g1,g2⟩:=hst u hu;have hk1:u.kind=1:=by
    simp[Ey,F0] at g2;exact g2.2
   exact⟨hk1,ih u hu _ g1 (hwk u hu) (by omega)⟩
  have two:∀ u,u ∈ ks→(Ah u).words.length<65536∧(Ah u).kids.length<65536∧∀ c,c ∈ (Ah u).kids→M7 c:=fun u hu=>by
   obtain⟨e1,hL⟩:=kk u hu;have hkn2:(Ah u).kind=1:=by rw[CB];exact e1
   generalize Ah u=x at hL hkn2;cases hL with
   |str w ks b1 b2 h=>exact⟨b1,b2,h⟩
   |_=>simp at hkn2<;>omega
  refine .comp _ _ (by simp;omega) (fun t ht=>?_) fun t ht c hc=>?_
  ·obtain⟨u,hu,rfl⟩:=List.mem_map.1 ht;exact⟨(two u hu).1,(two u hu).2.1⟩
  ·obtain⟨u,hu,rfl⟩:=List.mem_map.1 ht;exact(two u hu).2.2 c hc
 refine .data _ _ _ (by omega) (by omega) (by simp;omega) fun c hc=>?_;obtain⟨u,hu,rfl⟩:=List.mem_map.1 hc;obtain⟨g1,g2⟩:=hst u hu;have hd:F0 k=true:=by simp[F0];omega
 have hwu:=hwk u hu;obtain⟨k2,w2,l2⟩:=u;simp[Ey,hd] at g2;obtain⟨⟨e1,e2⟩,e3⟩:=g2;have e1:k2=10:=of_decide_eq_true e1;subst e1;rw[DH,if_neg (by decide),if_pos rfl] at g1;simp at g1;obtain⟨x,hx⟩:=List.length_eq_one_iff.1 g1.1;subst hx;have hr:=(wfT_iff.1 hwu).w x (by simp);refine⟨x,by rw[BS];simp,hr.1,hr.2,by simpa using e3⟩
variable {n0:Nat} {w0:World} {I0:Nat→Prop} {Q:Exit→Sta→Prop}
theorem uz (t:T):EU (fun _=>tX t):=Ez rfl fun y hy=>by
 simp at hy;rcases hy with rfl | rfl | rfl<;>rfl
theorem Ng {u:Nat} {s a:Int} {t:T}:SY (fun r _=>[.pob [r] u 0,iv s,iv a,tX t]):=Aq (A0 AJ) (Aq (A0 Au) (Aq (A0 Au) (Aq (A0 (uz t)) A5)))
theorem mD {w:Nat} (hw:w=1∨w=8∨w=16∨w=32∨w=64):∀ (ns:List Int) (i:Nat) (out:List Int),PutI w i out→(∀ x,x ∈ ns→0≤x∧x<2 ^ w)→(∀ j,j<i+ns.length→j*w / 64<out.length)→∀ x,x ∈ L3 w ns i out→Bw x
 |[],i,out,h,_,_=>fun x hx=>by
  rw[L3] at hx;obtain⟨j,hj,rfl⟩:=List.getElem_of_mem hx;exact h.rng j hj
 |n::ns,i,out,h,hn,hl=>by
  have hat:=hl i (by simp);have g:=Uz h hw (hn n (by simp)).1 (hn n (by simp)).2 hat;rw[L3,if_neg (by omega)];exact mD hw ns (i+1) _ g.1 (fun x hx=>hn x (by simp[hx])) (fun j hj=>by rw[List.length_set];exact hl j (by simp;omega))
theorem mZ:∀ (ns:List Int) (i:Nat) (o:List Int),L3 0 ns i o=o
 |[],i,o=>by rw[L3]
 |n::ns,i,o=>by rw[L3,if_pos rfl,mZ ns]
theorem wo {c:Int} (c0:0≤c) (c6:c<6) {ns:List Int} (hn:ns.length≤536870912) (hfit:∀ x,x ∈ ns→Bw x∧JA c x=true):(∀ x,x ∈ N9 c ns→Bw x)∧(N9 c ns).length≤600000000:=by
 obtain⟨w,w1,w2,w3⟩:=OT c0 c6;have hroom:Ll c ns.length=(((ns.length*w+63) / 64:Nat):Int):=by
  unfold Ll;rw[if_neg (by omega),w2];have e:(ns.length:Int)*w=((ns.length*w:Nat):Int):=by rw[Int.natCast_mul]
  rw[e];omega
 have hm:(Ll c ns.length).toNat=(ns.length*w+63) / 64:=by rw[hroom];omega
 have hb:(ns.length*w+63) / 64≤600000000:=by
  have:ns.length*w≤536870912*64:=Nat.mul_le_mul hn (by omega);omega
 refine⟨fun x hx=>?_,by rw[Vo,hm];exact hb⟩;unfold N9 at hx;rw[w1,hm] at hx;simp only[Int.toNat_natCast] at hx;by_cases h0:w=0
 ·subst h0;rw[mZ] at hx;have:=List.eq_of_mem_replicate hx;subst this;exact⟨by omega,by omega⟩
 ·refine mD (by omega) ns 0 _ (PutI.start w _) (fun y hy=>?_) (fun j hj=>?_) x hx
  ·obtain⟨f1,f2⟩:=hfit y hy;exact⟨f1.1,aj w1 f1.1 f2⟩
  ·rw[List.length_replicate];exact j8 (by omega) (by omega)
section
variable {n0:Nat} {w0:World} {I0:Nat→Prop} {M0:Nm→Nat→Prop} {m0:Mu} {Q:Exit→Sta→Prop}
theorem vU {t:T} {ub:Nat} {s a:Int} {F G:Nm→VOb} (hl:t.kids.length≤1000000000) (hw:∀ c,c ∈ t.kids→c.words=[hd c])
  (hq:∀ (q:Bool) (u:Nat) (H:Hp),(∀ p,H (0::p)=F p)→(∀ p,H (1::p)=G p)→H [2]=⟨1,.cells (tL t)⟩→H [3]=⟨u,.arr 1 ((t.kids.map hd).map uv)⟩ →
   Q (.exit 1) ⟨lk [(0,.pob [0] ub 0),(1,iv s),(2,iv a),(7,.pob [2] 1 0),(8,nv t.kids.length),(18,.osl [3] u 1 0 t.kids.length),(19,nv t.kids.length),(31,bv q)],H⟩) :
  ∀ (j i u:Nat) (H:Hp),i+j=t.kids.length→(∀ p,H (0::p)=F p)→(∀ p,H (1::p)=G p)→H [2]=⟨1,.cells (tL t)⟩→H [3]=⟨u,.arr 1 (((t.kids.take i).map hd).map uv)⟩ →
  LoopC (DG Tryz.prog w0 I0 M0 n0 m0) CF Q ⟨lk [(0,.pob [0] ub 0),(1,iv s),(2,iv a),(7,.pob [2] 1 0),(8,nv t.kids.length),(18,.osl [3] u 1 0 i),(19,nv i)],H⟩:=by
 intro j;induction j with
 |zero=>
  intro i u H hi hF hG h0 h1;have:i=t.kids.length:=by omega
  subst this;rw[AL (BZ _)] at h1;refine Ab Ai CF.eq_1 ?_;simp;exact hq _ u H hF hG h0 h1
 |succ j ih=>
  intro i u H hi hF hG h0 h1;have hlt:i<t.kids.length:=by omega
  have hx:=hw _ (Bg hlt);have ei:=Av i;have htk:((t.kids.take (i+1)).map hd).map uv=((t.kids.take i).map hd).map uv++[uv (hd t.kids[i])]:=by rw[Fm hlt,List.map_append,List.map_append];rfl
  refine Ab Ai CF.eq_1 ?_;simp[h0,hlt,hx,h1,ei];refine⟨⟨by omega,by omega⟩,CQ ?_⟩;simp[ei];refine ih (i+1) (u+1) _ (by omega) (fun p=>?_) (fun p=>?_) ?_ ?_
  ·rw[AH (by simp)];exact hF p
  ·rw[AH (by simp)];exact hG p
  ·rw[AH (by simp)];exact h0
  rw[htk];simp[Aa];rw[List.take_take,Nat.min_self]
end
theorem sj {H:Hp} {cs cs':List A} (hl:cs.length=cs'.length) (h:∀ (k:Nat) (a a':A),cs[k]? = some a→cs'[k]? = some a'→VH H a a'):VH H (.tup cs) (.tup cs'):=by
 intro c w I μ v hs hr;cases hr with
 |tup _ _ vs h1 h2=>
  refine .tup _ _ _ (by omega) fun k y hk=>?_;have hlt:k<cs.length:=by have:=(List.getElem?_eq_some_iff.1 hk).1;omega
  exact h k _ y (List.getElem?_eq_getElem hlt) hk c w I μ _ hs (h2 k _ (List.getElem?_eq_getElem hlt))
theorem oh {H:Hp} {a b a' b':A} (h1:VH H a a') (h2:VH H b b'):VH H (.tup [a,b]) (.tup [a',b']):=sj rfl fun k x x' hx hx'=>by
 match k with
 |0=>simp at hx hx';subst hx hx';exact h1
 |1=>simp at hx hx';subst hx hx';exact h2
 |k+2=>simp at hx
theorem kN {c:Int} (c0:0≤c) (c6:c<6) {ns:List Int} (hn:ns.length≤1000000000) (hfit:∀ x,x ∈ ns→Bw x∧JA c x=true):SpecB Tryz.prog 69 [iv c,Dz ns] (.tup [Dz (N9 c ns),bv true]):=by
 obtain⟨w,w1,w2,w3⟩:=OT c0 c6;have hroom:Ll c ns.length=(((ns.length*w+63) / 64:Nat):Int):=by
  unfold Ll;rw[if_neg (by omega),w2];have e:(ns.length:Int)*w=((ns.length*w:Nat):Int):=by rw[Int.natCast_mul]
  rw[e];omega
 have hm:(Ll c ns.length).toNat=(ns.length*w+63) / 64:=by rw[hroom];omega
 have hb:(ns.length*w+63) / 64≤1000000001:=by
  have:ns.length*w≤1000000000*64:=Nat.mul_le_mul hn (by omega);omega
 refine MZ Um (by simp) fun w0 I0=>?_;unfold MH;simp;refine Ae (Lj c) rfl ?_;rw[w1];have hnn:¬ (w:Int)<0:=by omega
 simp[hnn];refine Ae (jl c ns.length) (by simp) ?_;rw[hroom];generalize hM:(ns.length*w+63) / 64=m at *;have hm8:(m:Int)*8≤140737488355328:=by omega
 have hz:N9 c ns=L3 w ns 0 (List.replicate m 0):=by
  unfold N9;rw[w1,hm];simp
 rw[hz];simp[hm8];refine⟨by omega,?_⟩;refine wF hn w3 w1 hfit (m:=m) (fun _=>hM.symm) (fun q H' out ho hH=>?_) ns.length 0 (List.replicate m 0) _ (by omega) (by simp) (fun _=>PutI.start w m) (by simp) ?_;rotate_left
 ·simp
 have hlen:out.length=m:=by rw[ho];simp[Pj]
 rw[← ho];simp;have:=SE (H:=H') (o:=[0]) (u:=1) (off:=0) (len:=m) (sz:=1) (xs:=out.map uv) (by simp[hH]) (by simp[hlen]) (by rw[List.drop_zero,List.all_eq_true];intro x hx;obtain⟨y,_,rfl⟩:=List.mem_map.1 (Oh hx);rfl);rw[List.drop_zero,AL (by simp[hlen])] at this;exact oh this (py rfl)
def Li (L:List (List Int)) (k b:Nat) (t:T):Prop:=∃ r u,Oi L k b=(r,0)∧AA L r u∧Ah u=Ah t
def BM (t:T):Prop:=∀ (u:Nat) (S:Ar) (ok:Bool) (s a:Int),S.Ok→Wd S→(ok=true→∃ k b:Nat,s=k∧a=b∧wv S k b=some 0) →
 ∃ S' ok',Gr S S'∧(ok'=true→ok=true)∧Iq Tryz.prog 56 (fun r _=>[.pob [r] u 0,iv s,iv a,tX t]) (RR u S ok) (fun _ _=>.tup []) (RR u S' ok') ∧
 (ok'=true→∀ k b:Nat,s=k→a=b→Kp31 (bI k b) S S'∧∀ L,Ag (bI k b) S S' L→Li L k b t)
theorem pI {u:Nat} {t:T} (hn:t.kids.length≤1000000000) (ih:∀ c,c ∈ t.kids→BM c) {k b:Nat}:∀ (j i:Nat) (S:Ar) (ok:Bool),S.Ok→Wd S→i+j=t.kids.length→b+t.kids.length≤wl S k→(ok=true→∀ q,i≤q→q<t.kids.length→wv S k (b+q)=some 0) →
  ∃ S' ok',(Gr S S'∧(ok'=true→ok=true)∧(ok'=true→Kp31 (rng k (b+i) j) S S'∧∀ L,Ag (rng k (b+i) j) S S' L→∀ (q:Nat) (hq:q<t.kids.length),i≤q→Li L k (b+q) t.kids[q]))∧∀ {n0:Nat} {w0:World} {I0:Nat→Prop} {M0:Nm→Nat→Prop} {m0:Mu} {Q:Exit→Sta→Prop} {H:Hp},(∀ p,H (0::p)=(RR u S ok).B 0 1 p)→(∀ p,H (1::p)=H6 1 S p)→H [2]=⟨1,.cells (tL t)⟩ →
   (∀ s H',(∀ p,H' (0::p)=(RR u S' ok').B 0 1 p)→(∀ p,H' (1::p)=H6 1 S' p)→Q (.exit 0) ⟨s,H'⟩) →
   LoopC (DG Tryz.prog w0 I0 M0 n0 m0) Bv Q ⟨lk [(0,.pob [0] u 0),(1,iv k),(2,iv b),(7,.pob [2] 1 0),(8,iv i)],H⟩:=by
 intro j;induction j with
 |zero=>
  intro i S ok h hw hi hb hz;refine⟨S,ok,⟨Gr.refl h hw,id,fun _=>⟨Kp31.refl h hw,fun L hL q hq hiq=>by omega⟩⟩,fun {n0 w0 I0 M0 m0 Q H} g0 g1 g2 q=>?_⟩;have:i=t.kids.length:=by omega
  subst this;refine Ab Ai Bv.eq_1 ?_;simp[g2,g0];exact q _ _ g0 g1
 |succ j ihj=>
  intro i S ok h hw hi hb hz;have hlt:i<t.kids.length:=by omega
  have hlt2:(i:Int)<t.kids.length:=by omega
  cases ok with
  |false=>
   refine⟨S,false,⟨Gr.refl h hw,id,fun e=>by cases e⟩,fun {n0 w0 I0 M0 m0 Q H} g0 g1 g2 q=>?_⟩;refine Ab Ai Bv.eq_1 ?_;have:=g0 [];simp at this;simp[g2,g0,this,hlt,hlt2];exact q _ _ g0 g1
  |true=>
   have hwl:=Oy h k;obtain⟨S1,ok1,g,k1,hL,hR⟩:=ih _ (Bg hlt) u S true k ((b+i:Nat):Int) h hw (fun _=>⟨k,b+i,rfl,rfl,hz rfl i (BZ _) hlt⟩);obtain⟨S',ok',⟨g',k',hR'⟩,hl⟩:=ihj (i+1) S1 ok1 g.ok g.wd (by omega) (Nat.le_trans hb (g.wl k)) fun e q hq1 hq2=>by
    rw[(hR e k (b+i) rfl rfl).1.eq k (b+q) (by omega) fun e=>by obtain⟨_,e⟩:=e;omega];exact hz rfl q (by omega) hq2
   refine⟨S',ok',⟨g.trans g',fun _=>rfl,fun e=>?_⟩,fun {n0 w0 I0 M0 m0 Q H} g0 g1 g2 q=>?_⟩
   ·obtain⟨p1,p2⟩:=hR (k' e) k (b+i) rfl rfl;obtain⟨p3,p4⟩:=hR' e;refine⟨p1.trans p3 (fun x y _ e=>?_) (fun x y _ e=>?_),fun L hA q hq hiq=>?_⟩
    ·obtain⟨e1,e2⟩:=e;exact⟨e1,by omega,by omega⟩
    ·obtain⟨e1,e2,e3⟩:=e;exact⟨e1,by omega,by omega⟩
    ·by_cases hqi:q=i
     ·subst hqi;refine p2 L (hA.fst p3 (fun x y _ e=>?_) (fun x y hy e=>?_))
      ·obtain⟨e1,e2⟩:=e;exact .inr ⟨e1,by omega,by omega⟩
      ·obtain⟨rfl,e2,e3⟩:=e;rintro(e | ⟨_,e⟩)<;>omega
     ·refine p4 L (hA.snd g fun x y _ e=>?_) q hq (by omega);obtain⟨e1,e2,e3⟩:=e;exact .inr ⟨e1,by omega,by omega⟩
   refine Ab Ai Bv.eq_1 ?_;have h0:=g0 [];simp at h0;have e1:i64.wrap ((b:Int)+i)=((b+i:Nat):Int):=(Al (n:=(b:Int)+i) (by omega) (by omega)).trans (by omega);have e2:=Av i;simp[g2,h0,hlt,hlt2,e1];refine Bp 0 1 (by simp) hL g0 g1 (by simp[e1]) (by simp) ?_;simp[e2];exact hl (fun p=>by simp) (fun p=>by simp) (by simp[g2]) q
theorem OQ {t:T} (hn:t.kids.length≤1000000000) (ih:∀ c,c ∈ t.kids→BM c) (u:Nat) (S:Ar) (ok:Bool) (s a:Int) (h:S.Ok) (hw:Wd S) (hp:ok=true→∃ k b:Nat,s=k∧a=b∧b+t.kids.length≤wl S k∧∀ q,q<t.kids.length→wv S k (b+q)=some 0) :
  ∃ S' ok',Gr S S'∧(ok'=true→ok=true)∧Iq Tryz.prog 107 (fun r _=>[.pob [r] u 0,iv s,iv a,tX t]) (RR u S ok) (fun _ _=>.tup []) (RR u S' ok') ∧
  (ok'=true→∀ k b:Nat,s=k→a=b→Kp31 (rng k b t.kids.length) S S'∧∀ L,Ag (rng k b t.kids.length) S S' L→∀ (q:Nat) (hq:q<t.kids.length),Li L k (b+q) t.kids[q]):=by
 cases ok with
 |false=>
  refine⟨S,false,Gr.refl h hw,id,BR Gn (by simp) Ng (BK A5) fun w0 I0 M0 m0=>?_,fun e=>by cases e⟩;unfold DE;simp;refine Ab Ai Bv.eq_1 ?_;by_cases hz:0<t.kids.length
  ·have hz2:(0:Int)<t.kids.length:=by omega
   simp[hz,hz2];exact Dc rfl rfl (fun p=>by simp) (fun p=>by simp)
  ·have hz2:t.kids.length=0:=by omega
   simp[hz2];exact Dc rfl rfl (fun p=>by simp) (fun p=>by simp)
 |true=>
  obtain⟨k,b,rfl,rfl,hb,hz⟩:=hp rfl;obtain⟨S',ok',⟨g,g2,g3⟩,hl⟩:=pI (u:=u) hn ih (k:=k) (b:=b) t.kids.length 0 S true h hw (by omega) hb (fun _ q _ hq=>hz q hq);refine⟨S',ok',g,g2,BR Gn (by simp) Ng (BK A5) fun w0 I0 M0 m0=>?_,fun e k' b' e1 e2=>?_⟩
  ·unfold DE;simp;refine hl (fun p=>by simp) (fun p=>by simp) (by simp) fun s H' g0 g1=>?_;simp;exact Dc rfl rfl g0 g1
  ·have e1:k'=k:=by omega
   have e2:b'=b:=by omega
   subst e1 e2;obtain⟨p1,p2⟩:=g3 e;exact⟨p1,fun L hL q hq=>p2 L hL q hq (by omega)⟩
theorem Vp {L:List (List Int)} {g t w k:Nat} {W:List Int} {us:List T} (hw:w<65536) (hk:k<65536) (hh:Im L g t ((w+k:Nat):Int)=true) (hW:part L g t w=W) (hu:us.length=k) (hm:∀ (i:Nat) (hi:i<us.length),∃ r,Oi L g ((t+w+i:Nat):Int)=(r,0)∧AA L r us[i]) :
  AA L ⟨1,g,t,w,k,0,0⟩ (.mk 1 W us):=by
 have hkid:∀ (i:Nat),i<us.length→CZ L ⟨1,g,t,w,k,0,0⟩ i=Oi L g ((t+w+i:Nat):Int):=fun i hi=>by
  unfold CZ;rw[if_neg (by simp[nk];omega),if_pos rfl];simp
 refine .mk _ _ (.str _ _ _ _ (by omega) (by omega) (by omega) (by omega) (by simpa using hh)) rfl ?_ (by simp[nk,hu]) (fun i hi=>?_) (fun i hi=>?_)
 ·simp[E7,hW]
 ·obtain⟨r,e,_⟩:=hm i hi;rw[hkid i hi,e]
 ·obtain⟨r,e,h⟩:=hm i hi;rw[hkid i hi,e];exact h
theorem l6 {L:List (List Int)} {k b n:Nat} {ts:List T} (h:∀ (q:Nat) (hq:q<ts.length),Li L k (b+q) ts[q]):∃ us:List T,us.length=ts.length∧∀ (i:Nat) (hi:i<us.length),∃ r,Oi L k ((b+i:Nat):Int)=(r,0)∧AA L r us[i]∧∀ hi:i<ts.length,Ah us[i]=Ah ts[i]:=
 jL (P:=fun i u=>∃ r,Oi L k ((b+i:Nat):Int)=(r,0)∧AA L r u∧∀ hi:i<ts.length,Ah u=Ah ts[i]) fun i hi=>by
  obtain⟨r,u,e1,e2,e3⟩:=h i hi;exact⟨u,r,e1,e2,fun _=>e3⟩
theorem kq {w:List Int}:BM (.mk 0 w []):=by
 intro u S ok s a h hw hp;refine⟨S,ok,Gr.refl h hw,id,BR Ce (by simp) Ng (BK A5) fun w0 I0 M0 m0=>?_,fun e k b e1 e2=>⟨Kp31.refl h hw,fun L hL=>?_⟩⟩
 ·unfold BI;simp;exact C7 rfl rfl (fun p=>by simp) (fun p=>by simp)
 ·obtain⟨k',b',f1,f2,f3⟩:=hp e;have e1:k'=k:=by omega
  have e2:b'=b:=by omega
  subst e1 e2;exact⟨Rf.zero,T0,tW (hL.at f3 (.inr ⟨rfl,rfl⟩)),RM _,by rw[ax,G6 rfl]⟩
theorem SJ {w n:Nat} (hw:w<65536) (hn:n<65536):u64.wrap (u64.wrap w+u64.wrap (65536*u64.wrap n))=(w:Int)+65536*n:=by
 rw[AG (n:=(n:Int)) (by omega) (by omega),AG (n:=(w:Int)) (by omega) (by omega),AG (n:=65536*(n:Int)) (by omega) (by omega),AG (by omega) (by omega)]
theorem ni {w:List Int} {ks:List T} (hW:∀ x,x ∈ w→Bw x) (hw1:w.length<65536) (hk1:ks.length<65536) (ih:∀ c,c ∈ ks→BM c):BM (.mk 1 w ks):=by
 intro u S ok s a h hw hp;obtain⟨s1,a1,S1,ok1,g1,k1,p1,q1⟩:=XG h hw u ok (w.length+ks.length);obtain⟨S2,ok2,g2,k2,q2,r2⟩:=JZ u g1.ok g1.wd ok1 s a s1 a1 0 (u64.wrap (u64.wrap w.length+u64.wrap (65536*u64.wrap ks.length))) (.inl rfl) (by rw[SJ hw1 hk1];omega) (fun _=>by rw[SJ hw1 hk1];omega) (fun e=>by
  obtain⟨k,b,e1,e2,e3⟩:=hp (k1 e);have:=(G0 e3).2;have:=g1.wl k;exact⟨k,b,e1,e2,by omega⟩) (fun e=>by
  obtain⟨k,b,e1,e2,e3⟩:=p1 e;have:=e3.wl k;have:=e3.b;exact⟨k,b,e1,e2,by omega,e3.k⟩)
 obtain⟨S3,g3,q3,r3⟩:=QX u g2.ok g2.wd hW (by omega) ok2 s1 a1 fun e=>by
  obtain⟨k,b,e1,e2,e3⟩:=p1 (k2 e);have h1:=e3.wl k;have:=e3.b;have:=g2.wl k;have:=Oy g2.ok k;rw[if_pos rfl] at h1;exact⟨k,b,e1,e2,by omega,by omega⟩
 have hz:ok2=true→∀ k b:Nat,s1=k→a1=b→∀ q,q<ks.length→wv S3 k (b+w.length+q)=some 0:=fun e k b e1 e2 q hq=>by
  obtain⟨k',b',f1,f2,f3⟩:=p1 (k2 e);have f1:k'=k:=by omega
  have f2:b'=b:=by omega
  subst f1 f2;obtain⟨kp,bp,x1,x2,x3⟩:=hp (k1 (k2 e));have hb:=f3.b;have hl:=f3.wl k';rw[if_pos rfl] at hl;have hbp:=(G0 x3).2;have hg2:=g2.wl k';rw[(r3 e k' b' e1 e2).1.eq _ _ (by omega) (fun x=>by obtain⟨_,_,x⟩:=x;omega),(r2 e kp bp k' b' x1 x2 e1 e2).1.eq _ _ (by omega) (fun x=>by obtain⟨x,y⟩:=x;subst x;omega),f3.wv,if_pos ⟨rfl,by omega,by omega⟩]
 obtain⟨S4,ok4,g4,k4,q4,r4⟩:=OQ (t:=.mk 1 w ks) (by simp;omega) ih u S3 ok2 s1 (i64.wrap (a1+w.length)) g3.ok g3.wd fun e=>by
  obtain⟨k,b,e1,e2,e3⟩:=p1 (k2 e);have h1:=e3.wl k;rw[if_pos rfl] at h1;have:=e3.b;have h2:=g2.wl k;have h3:=g3.wl k;have:=Oy g3.ok k;refine⟨k,b+w.length,e1,?_,by simp;omega,fun q hq=>hz e k b e1 e2 q (by simpa using hq)⟩;rw[e2];exact(Al (n:=(b:Int)+w.length) (by omega) (by omega)).trans (by omega)
 refine⟨S4,ok4,((g1.trans g2).trans g3).trans g4,fun e=>k1 (k2 (k4 e)),BR Ce (by simp) Ng (BK A5) fun w0 I0 M0 m0=>?_,fun e kp bp x1 x2=>?_⟩
 ·unfold BI;have e5:i64.wrap ((w.length:Int)+ks.length)=((w.length+ks.length:Nat):Int):=(Al (n:=(w.length:Int)+ks.length) (by omega) (by omega)).trans (by omega);simp[e5];refine Bp 0 1 (by simp) q1 (fun p=>by simp) (fun p=>by simp) (by simp[e5]) (by simp) ?_;simp;refine Bp 0 1 (by simp) q2 (fun p=>by simp) (fun p=>by simp) (by simp) (by simp) ?_;simp;refine Bp 0 1 (by simp) q3 (fun p=>by simp) (fun p=>by simp) (by simp) (by simp) ?_;simp;refine Bp 0 1 (by simp) q4 (fun p=>by simp) (fun p=>by simp) (by simp) (by simp) ?_;simp;exact Dc rfl rfl (fun p=>by simp) (fun p=>by simp)
 ·have e2':=k4 e;obtain⟨k',b',x3,x4,nw⟩:=p1 (k2 e2');have hb:=nw.b;have hl:=nw.wl k';rw[if_pos rfl] at hl;have hbp:bp<wl S kp:=by
   obtain⟨k5,b5,y1,y2,y3⟩:=hp (k1 (k2 e2'));have y1:k5=kp:=by omega
   have y2:b5=bp:=by omega
   subst y1 y2;exact(G0 y3).2
  have hwl:=Oy g3.ok k';have h12:=g2.wl k';have h23:=g3.wl k';have h34:=g4.wl k';obtain⟨A1,A2⟩:=r2 e2' kp bp k' b' x1 x2 x3 x4;obtain⟨B1,B2,B3,B4⟩:=r3 e2' k' b' x3 x4;obtain⟨C1,C2⟩:=r4 e k' (b'+w.length) x3 (by rw[x4];exact(Al (n:=(b':Int)+w.length) (by omega) (by omega)).trans (by omega));simp only[T.kids_mk] at C1 C2;have hnw:=nw.kp g1;have BC:Kp31 (rng k' b' (w.length+ks.length)) S2 S4:=B1.trans C1 (fun x y _ e=>by obtain⟨e1,e2,e3⟩:=e;exact⟨e1,by omega,by omega⟩) fun x y _ e=>by obtain⟨e1,e2,e3⟩:=e;exact⟨e1,by omega,by omega⟩
  refine⟨(hnw.trans A1 (R:=bI kp bp) (fun _ _ _ e=>e.elim) (fun _ _ _ e=>e)).trans BC (fun _ _ _ e=>e) (fun x y hy e=>?_),fun L hL=>?_⟩
  ·obtain⟨rfl,e2,e3⟩:=e;omega
  ·have hTo:=A2 L ((hL.snd (Q:=bI kp bp) g1 (fun _ _ _ e=>.inr e)).fst BC (fun _ _ _ e=>.inr e) fun x y hy e=>by
    obtain⟨rfl,e2,e3⟩:=e;rintro(e | ⟨rfl,rfl⟩)<;>omega)
   rw[SJ hw1 hk1] at hTo;have hgl:k'<L.length:=by
    have:=nw.k;have:=A1.ln;have:=BC.ln;have:=hL.ln;omega
   have hsz:=hL.wl k';obtain⟨g',t',y1,y2,y3⟩:=zU hTo hw1 hk1 hgl (by omega);have hwords:part L g' t' w.length=w:=by
    by_cases hw0:w.length=0
    ·have:w=[]:=List.length_eq_zero_iff.1 hw0;subst this;simp[part]
    ·obtain⟨z1,z2⟩:=y2 (by omega);subst z1 z2;refine vP fun i hi=>hL.at ?_ (.inl (by omega));rw[C1.eq _ _ (by omega) (fun x=>by obtain⟨_,x,_⟩:=x;omega),B4 i hi]
   obtain⟨us,u1,u2⟩:=l6 (n:=0) (C2 L (hL.snd ((g1.trans g2).trans g3) fun x y hy e=>by
    obtain⟨rfl,e2,e3⟩:=e;exact .inl (by omega)))
   refine⟨_,.mk 1 w us,y1,Vp hw1 hk1 y3 hwords u1 fun i hi=>?_,struct_eq.2 ⟨fun i=>rfl,fun i=>?_⟩⟩
   ·obtain⟨z1,z2⟩:=y2 (by omega);subst z1 z2;obtain⟨r,f1,f2,_⟩:=u2 i hi;exact⟨r,f1,f2⟩
   ·by_cases hi:i<ks.length
    ·obtain⟨_,_,_,e3⟩:=u2 i (by omega);simpa[List.getD_eq_getElem?_getD,hi,u1] using e3 hi
    ·simp[List.getD_eq_getElem?_getD,List.getElem?_eq_none (by omega:ks.length≤i),List.getElem?_eq_none (by omega:us.length≤i)]
theorem Xy {c n:Int} (c0:0≤c) (c8:c<8) (n0:0≤n) (hn:n<536870912):u64.wrap (c+u64.wrap (8*u64.wrap n))=c+8*n:=by
 rw[AG (n:=n) (by omega) (by omega),AG (n:=8*n) (by omega) (by omega),AG (by omega) (by omega)]
theorem jb {ks:List T} (hk1:ks.length<536870912) (ih:∀ c,c ∈ ks→BM c):BM (.mk 8 [] ks):=by
 intro u S ok s a h hw hp;obtain⟨s1,a1,S1,ok1,g1,k1,p1,q1⟩:=XG h hw u ok ks.length;have hup:=Xy (c:=6) (n:=ks.length) (by omega) (by omega) (by omega) (by omega);obtain⟨S2,ok2,g2,k2,q2,r2⟩:=JZ u g1.ok g1.wd ok1 s a s1 a1 1 (u64.wrap (6+u64.wrap (8*u64.wrap ks.length))) (.inr rfl) (by rw[hup];omega) (fun e=>by
  obtain⟨k,b,e1,e2,e3⟩:=p1 e;have h1:=e3.wl k;have:=Oy g1.ok k;rw[if_pos rfl] at h1;rw[hup];omega) (fun e=>by
  obtain⟨k,b,e1,e2,e3⟩:=hp (k1 e);have:=(G0 e3).2;have:=g1.wl k;exact⟨k,b,e1,e2,by omega⟩) (fun e=>by
  obtain⟨k,b,e1,e2,e3⟩:=p1 e;have:=e3.wl k;have:=e3.b;exact⟨k,b,e1,e2,by omega,e3.k⟩)
 have hz:ok2=true→∀ k b:Nat,s1=k→a1=b→∀ q,q<ks.length→wv S2 k (b+q)=some 0:=fun e k b e1 e2 q hq=>by
  obtain⟨k',b',f1,f2,f3⟩:=p1 (k2 e);have f1:k'=k:=by omega
  have f2:b'=b:=by omega
  subst f1 f2;obtain⟨kp,bp,x1,x2,x3⟩:=hp (k1 (k2 e));have hb:=f3.b;have hl:=f3.wl k';rw[if_pos rfl] at hl;have hbp:=(G0 x3).2;rw[(r2 e kp bp k' b' x1 x2 e1 e2).1.eq _ _ (by omega) (fun x=>by obtain⟨x,y⟩:=x;subst x;omega),f3.wv,if_pos ⟨rfl,by omega,by omega⟩]
 obtain⟨S4,ok4,g4,k4,q4,r4⟩:=OQ (t:=.mk 8 [] ks) (by simp;omega) ih u S2 ok2 s1 a1 g2.ok g2.wd fun e=>by
  obtain⟨k,b,e1,e2,e3⟩:=p1 (k2 e);have h1:=e3.wl k;rw[if_pos rfl] at h1;have:=e3.b;have h2:=g2.wl k;exact⟨k,b,e1,e2,by simp;omega,fun q hq=>hz e k b e1 e2 q (by simpa using hq)⟩
 refine⟨S4,ok4,(g1.trans g2).trans g4,fun e=>k1 (k2 (k4 e)),BR Ce (by simp) Ng (BK A5) fun w0 I0 M0 m0=>?_,fun e kp bp x1 x2=>?_⟩
 ·unfold BI;simp;refine Bp 0 1 (by simp) q1 (fun p=>by simp) (fun p=>by simp) (by simp) (by simp) ?_;simp;refine Bp 0 1 (by simp) q2 (fun p=>by simp) (fun p=>by simp) (by simp) (by simp) ?_;simp;refine Bp 0 1 (by simp) q4 (fun p=>by simp) (fun p=>by simp) (by simp) (by simp) ?_;simp;exact Dc rfl rfl (fun p=>by simp) (fun p=>by simp)
 ·have e2':=k4 e;obtain⟨k',b',x3,x4,nw⟩:=p1 (k2 e2');have hb:=nw.b;have hl:=nw.wl k';rw[if_pos rfl] at hl;have hbp:bp<wl S kp:=by
   obtain⟨k5,b5,y1,y2,y3⟩:=hp (k1 (k2 e2'));have y1:k5=kp:=by omega
   have y2:b5=bp:=by omega
   subst y1 y2;exact(G0 y3).2
  have h12:=g2.wl k';have h34:=g4.wl k';obtain⟨A1,A2⟩:=r2 e2' kp bp k' b' x1 x2 x3 x4;obtain⟨C1,C2⟩:=r4 e k' b' x3 x4;simp only[T.kids_mk] at C1 C2;have hnw:=nw.kp g1;refine⟨(hnw.trans A1 (R:=bI kp bp) (fun _ _ _ e=>e.elim) (fun _ _ _ e=>e)).trans C1 (fun _ _ _ e=>e) (fun x y hy e=>?_),fun L hL=>?_⟩
  ·obtain⟨rfl,e2,e3⟩:=e;omega
  ·have hTo:=A2 L ((hL.snd (Q:=bI kp bp) g1 (fun _ _ _ e=>.inr e)).fst C1 (fun _ _ _ e=>.inr e) fun x y hy e=>by
    obtain⟨rfl,e2,e3⟩:=e;rintro(e | ⟨rfl,rfl⟩)<;>omega)
   rw[hup] at hTo;have hgl:k'<L.length:=by
    have:=nw.k;have:=A1.ln;have:=C1.ln;have:=hL.ln;omega
   have hsz:=hL.wl k';have hb6:KH 6=64:=by decide
   have hat:=uG (m:=ks.length) hTo (by omega) (by omega) hk1 (by rw[hb6];omega) hgl (by omega);obtain⟨us,u1,u2⟩:=l6 (n:=0) (C2 L (hL.snd (g1.trans g2) fun x y hy e=>by
    obtain⟨rfl,e2,e3⟩:=e;exact .inl (by omega)))
   have hkid:∀ (i:Nat),i<us.length→CZ L ⟨8,k',b',0,0,ks.length,0⟩ i=Oi L k' ((b'+i:Nat):Int):=fun i hi=>by
    unfold CZ;rw[if_neg (by simp[nk];omega),if_neg (by simp),if_pos rfl];simp
   refine⟨⟨8,k',b',0,0,ks.length,0⟩,.mk 8 [] us,hat,?_,?_⟩
   ·refine .mk _ _ (.ptrs _ _ _ (by omega) (by omega) (KQ hgl (by omega))) rfl (by simp[E7]) (by simp[nk,u1]) (fun i hi=>?_) (fun i hi=>?_)
    ·obtain⟨r,e,_⟩:=u2 i hi;rw[hkid i hi,e]
    ·obtain⟨r,e,h,_⟩:=u2 i hi;rw[hkid i hi,e];exact h
   ·refine(Xq (by decide) (by decide)).2 ⟨rfl,UR u1 fun i h1 h2=>?_⟩;obtain⟨_,_,_,e⟩:=u2 i h1;exact e h2
def Row (L:List (List Int)) (k b fw fk:Nat) (c:T):Prop:=(∀ q,q<fw→wL L k (b+q)=some (c.words.getD q 0))∧∀ q,q<fk→Li L k (b+fw+q) (c.kids.getD q T0)
theorem sI {u:Nat} {t:T} {fw fk:Nat} (hn:t.kids.length<536870912) (hc:∀ c,c ∈ t.kids→(∀ x,x ∈ c.words→Bw x)∧c.words.length≤fw∧c.kids.length≤fk∧∀ d,d ∈ c.kids→BM d) (hfw:fw≤65536) (hfk:fk≤65536) {s a:Int} :
  ∀ (j i:Nat) (S:Ar) (ok:Bool),S.Ok→Wd S→i+j=t.kids.length→(ok=true→∃ k b:Nat,s=k∧a=b∧b+1+t.kids.length*(fw+fk)≤wl S k∧∀ y,b+1+i*(fw+fk)≤y→y<b+1+t.kids.length*(fw+fk)→wv S k y=some 0) →
  ∃ S' ok',(Gr S S'∧(ok'=true→ok=true)∧(ok'=true→∀ k b:Nat,s=k→a=b→Kp31 (rng k (b+1+i*(fw+fk)) (j*(fw+fk))) S S'∧∀ L,Ag (rng k (b+1+i*(fw+fk)) (j*(fw+fk))) S S' L→∀ (x:Nat) (hx:x<t.kids.length),i≤x→Row L k (b+1+x*(fw+fk)) fw fk t.kids[x]))∧∀ {n0:Nat} {w0:World} {I0:Nat→Prop} {M0:Nm→Nat→Prop} {m0:Mu} {Q:Exit→Sta→Prop} {H:Hp},(∀ p,H (0::p)=(RR u S ok).B 0 1 p)→(∀ p,H (1::p)=H6 1 S p)→H [2]=⟨1,.cells (tL t)⟩ →
   (∀ s H',(∀ p,H' (0::p)=(RR u S' ok').B 0 1 p)→(∀ p,H' (1::p)=H6 1 S' p)→Q (.exit 3) ⟨s,H'⟩) →
   LoopC (DG Tryz.prog w0 I0 M0 n0 m0) BX Q ⟨lk [(0,.pob [0] u 0),(7,.pob [2] 1 0),(8,iv t.kids.length),(13,iv fw),(14,iv fk),(15,iv s),(16,iv a),(17,iv i)],H⟩:=by
 intro j;induction j with
 |zero=>
  intro i S ok h hw hi hp;refine⟨S,ok,⟨Gr.refl h hw,id,fun _ k b _ _=>⟨Kp31.refl h hw,fun L _ x hx hx2=>by omega⟩⟩,fun {n0 w0 I0 M0 m0 Q H} g0 g1 g2 q=>?_⟩;have:i=t.kids.length:=by omega
  subst this;refine Ab Ai BX.eq_1 ?_;simp[g2,g0];exact q _ _ g0 g1
 |succ j ihj=>
  intro i S ok h hw hi hp;have hlt:i<t.kids.length:=by omega
  have hlt2:(i:Int)<t.kids.length:=by omega
  cases ok with
  |false=>
   refine⟨S,false,⟨Gr.refl h hw,id,fun e=>by cases e⟩,fun {n0 w0 I0 M0 m0 Q H} g0 g1 g2 q=>?_⟩;refine Ab Ai BX.eq_1 ?_;have:=g0 [];simp at this;simp[g2,g0,this,hlt,hlt2];exact q _ _ g0 g1
  |true=>
   obtain⟨k,b,rfl,rfl,hb,hz⟩:=hp rfl;obtain⟨c1,c2,c3,c4⟩:=hc _ (Bg hlt);have hmul2:(i+1)*(fw+fk)=i*(fw+fk)+(fw+fk):=by rw[Nat.add_mul,Nat.one_mul]
   have hmul3:(j+1)*(fw+fk)=j*(fw+fk)+(fw+fk):=by rw[Nat.add_mul,Nat.one_mul]
   have hmul4:t.kids.length*(fw+fk)=i*(fw+fk)+(j+1)*(fw+fk):=by rw[← hi,Nat.add_mul]
   have hwl:=Oy h k;obtain⟨S1,g1',q1,r1⟩:=QX u h hw c1 (by omega) true k ((b+1+i*(fw+fk):Nat):Int) fun _=>⟨k,_,rfl,rfl,by omega,by omega⟩;obtain⟨A1,A2,A3,A4⟩:=r1 rfl k _ rfl rfl;obtain⟨S2,ok2,g2',k2,q2,r2⟩:=OQ (t:=t.kids[i]) (by omega) c4 u S1 true k ((b+1+i*(fw+fk)+fw:Nat):Int) g1'.ok g1'.wd fun _=>⟨k,_,rfl,rfl,by rw[A2];omega,fun q hq=>by
    rw[A1.eq _ _ (by omega) (fun x=>by obtain⟨_,_,x⟩:=x;omega)];exact hz _ (by omega) (by omega)⟩
   obtain⟨S',ok',⟨g',k',r3⟩,hl⟩:=ihj (i+1) S2 ok2 g2'.ok g2'.wd (by omega) fun e=>⟨k,b,rfl,rfl,Nat.le_trans hb ((g1'.trans g2').wl k),fun y hy1 hy2=>by
    rw[(r2 e k _ rfl rfl).1.eq _ _ (by rw[A2];omega) (fun x=>by obtain⟨_,_,x⟩:=x;omega),A1.eq _ _ (by omega) (fun x=>by obtain⟨_,_,x⟩:=x;omega)];exact hz _ (by omega) (by omega)⟩
   refine⟨S',ok',⟨(g1'.trans g2').trans g',fun _=>rfl,fun e kk bb f1 f2=>?_⟩,fun {n0 w0 I0 M0 m0 Q H} g0 g1 g2 q=>?_⟩
   ·have f1:kk=k:=by omega
    have f2:bb=b:=by omega
    subst f1 f2;obtain⟨B1,B2⟩:=r2 (k' e) kk _ rfl rfl;obtain⟨C1,C2⟩:=r3 e kk bb rfl rfl;rw[hmul2] at C1 C2;rw[hmul3];have hAB:Kp31 (rng kk (bb+1+i*(fw+fk)) (fw+fk)) S S2:=A1.trans B1 (fun x y _ e=>by obtain⟨e1,e2,e3⟩:=e;exact⟨e1,by omega,by omega⟩) fun x y _ e=>by obtain⟨e1,e2,e3⟩:=e;exact⟨e1,by omega,by omega⟩
    refine⟨hAB.trans C1 (fun x y _ e=>by obtain⟨e1,e2,e3⟩:=e;exact⟨e1,by omega,by omega⟩) fun x y _ e=>by obtain⟨e1,e2,e3⟩:=e;exact⟨e1,by omega,by omega⟩,fun L hL x hx hix=>?_⟩;by_cases hxi:x=i
    ·subst hxi;have zero:∀ y,bb+1+x*(fw+fk)≤y→y<bb+1+x*(fw+fk)+(fw+fk)→(bb+1+x*(fw+fk)+t.kids[x].words.length≤y)→(y<bb+1+x*(fw+fk)+fw∨bb+1+x*(fw+fk)+fw+t.kids[x].kids.length≤y)→wL L kk y=some 0:=fun y y1 y2 y3 y4=>by
      refine hL.at ?_ (.inr ⟨rfl,y1,by omega⟩);have:=g2'.wl kk;rw[A2] at this;rw[C1.eq _ _ (by omega) (fun x=>by obtain⟨_,x,_⟩:=x;omega),B1.eq _ _ (by rw[A2];omega) (fun x=>by obtain⟨_,x,x'⟩:=x;omega),A1.eq _ _ (by omega) (fun x=>by obtain⟨_,_,x⟩:=x;omega)];exact hz _ y1 (by omega)
     refine⟨fun q hq=>?_,fun q hq=>?_⟩
     ·by_cases hqw:q<t.kids[x].words.length
      ·rw[List.getD_eq_getElem?_getD,List.getElem?_eq_getElem hqw];refine hL.at ?_ (.inr ⟨rfl,by omega,by omega⟩);have:=g2'.wl kk;rw[A2] at this;rw[C1.eq _ _ (by omega) (fun x=>by obtain⟨_,x,_⟩:=x;omega),B1.eq _ _ (by rw[A2];omega) (fun x=>by obtain⟨_,x,x'⟩:=x;omega),A4 q hqw];rfl
      ·rw[List.getD_eq_getElem?_getD,List.getElem?_eq_none (by omega)];exact zero _ (by omega) (by omega) (by omega) (.inl (by omega))
     ·by_cases hqk:q<t.kids[x].kids.length
      ·rw[List.getD_eq_getElem?_getD,List.getElem?_eq_getElem hqk];refine B2 L ((hL.snd g1' fun x y _ e=>?_).fst C1 (fun x y _ e=>.inr e) fun x' y hy e=>?_) q hqk
       ·obtain⟨e1,e2,e3⟩:=e;exact .inr ⟨e1,by omega,by omega⟩
       ·obtain⟨rfl,e2,e3⟩:=e;rintro(e | ⟨_,e,e'⟩)
        ·rw[A2] at e;omega
        ·omega
      ·rw[List.getD_eq_getElem?_getD,List.getElem?_eq_none (by omega)];exact⟨Rf.zero,T0,tW (zero _ (by omega) (by omega) (by omega) (.inr (by omega))),RM _,rfl⟩
    ·refine C2 L (hL.snd (g1'.trans g2') fun x y _ e=>?_) x hx (by omega);obtain⟨e1,e2,e3⟩:=e;exact .inr ⟨e1,by omega,by omega⟩
   refine Ab Ai BX.eq_1 ?_;have h0:=g0 [];simp at h0;have hprod:(i:Int)*((fw:Int)+fk)=((i*(fw+fk):Nat):Int):=by rw[Int.natCast_mul,Int.natCast_add]
   have e1:i64.wrap ((fw:Int)+fk)=(fw:Int)+fk:=BJ;have e2:i64.wrap ((i:Int)*((fw:Int)+fk))=((i*(fw+fk):Nat):Int):=by rw[hprod];exact Al (by omega) (by omega)
   have e3:i64.wrap ((b:Int)+1)=(b:Int)+1:=BJ;clear r1 r2 r3 A1 A4 hz hp;generalize hN:i*(fw+fk)=N at *;have e4:i64.wrap ((b:Int)+1+(N:Int))=((b+1+N:Nat):Int):=(Al (n:=(b:Int)+1+(N:Int)) (by omega) (by omega)).trans (by omega);have e5:i64.wrap (((b+1+N:Nat):Int)+fw)=((b+1+N+fw:Nat):Int):=(Al (n:=((b+1+N:Nat):Int)+fw) (by omega) (by omega)).trans (by omega);have e6:=Av i;generalize hA:b+1+N=A1 at *;generalize hB:A1+fw=B1 at *;simp[g2,h0,hlt,hlt2,e1,e2,e3,e4];refine Bp 0 1 (by simp) q1 g0 g1 (by simp[e1,e2,e3,e4]) (by simp) ?_;simp[g2,hlt,hlt2,e1,e2,e3,e4,e5];refine Bp 0 1 (by simp) q2 (fun p=>by simp) (fun p=>by simp) (by simp[e1,e2,e3,e4,e5]) (by simp) ?_;simp[e6];exact hl (fun p=>by simp) (fun p=>by simp) (by simp[g2]) q
theorem kx (u:Nat) {S:Ar} (h:S.Ok) (hw:Wd S) (ok:Bool) (s a w:Int) (hx:Bw w) (hp:ok=true→∃ k b:Nat,s=k∧a=b∧b<wl S k) :
  ∃ S',Gr S S'∧Iq Tryz.prog 108 (fun r _=>[.pob [r] u 0,iv s,iv a,uv w]) (RR u S ok) (fun _ _=>.tup []) (RR u S' ok) ∧
  (ok=true→∀ k b:Nat,s=k→a=b→Kp31 (bI k b) S S'∧wv S' k b=some w):=by
 cases ok with
 |false=>exact⟨S,Gr.refl h hw,fW u S s a w,fun e=>by cases e⟩
 |true=>
  obtain⟨k,b,rfl,rfl,hb⟩:=hp rfl;refine⟨_,sa h hw k b hx,JW u S k b w hb,fun _ k' b' e1 e2=>?_⟩;have e1:k'=k:=by omega
  have e2:b'=b:=by omega
  subst e1 e2;exact⟨NI h hw hx hb,by rw[HZ hb,if_pos ⟨rfl,rfl⟩]⟩
theorem AfC {n fw fk:Nat} (hn:n<536870912) (hw:fw<65536) (hk:fk<65536):u64.wrap (u64.wrap (i64.wrap (4*(n:Int)))+u64.wrap (4294967296*u64.wrap (u64.wrap fw+u64.wrap (65536*u64.wrap fk))))=4*(n:Int)+4294967296*((fw:Int)+65536*fk):=by
 rw[SJ hw hk,Al (n:=4*(n:Int)) (by omega) (by omega),AG (n:=4*(n:Int)) (by omega) (by omega),AG (n:=4294967296*((fw:Int)+65536*fk)) (by omega) (by omega),AG (by omega) (by omega)]
theorem iE {ks:List T} (hk1:ks.length<536870912) (hkd:∀ c,c ∈ ks→c.kind=1) (hc:∀ c,c ∈ ks→(∀ x,x ∈ c.words→Bw x)∧c.words.length<65536∧c.kids.length<65536∧∀ d,d ∈ c.kids→BM d):BM (.mk 9 [] ks):=by
 intro u S ok s a h hw hp;have hF1:Gx ks<65536:=Y6 (by decide) fun t ht=>(hc t ht).2.1;have hF2:Gw ks<65536:=YZ (by decide) fun t ht=>(hc t ht).2.2.1;have hfr:=di (.mk 9 [] ks) (by simp;omega);have hcc:∀ c,c ∈ ks→(∀ x,x ∈ c.words→Bw x)∧c.words.length≤Gx ks∧c.kids.length≤Gw ks∧∀ d,d ∈ c.kids→BM d:=fun c hc'=>⟨(hc c hc').1,ZH hc',ZU hc',(hc c hc').2.2.2⟩;simp only[T.kids_mk] at hfr;generalize Gx ks=fw at *;generalize Gw ks=fk at *;have hcast:(ks.length:Int)*((fw:Int)+fk)=((ks.length*(fw+fk):Nat):Int):=by rw[Int.natCast_mul,Int.natCast_add]
 have hbig:ks.length*(fw+fk)≤536870912*131070:=Nat.mul_le_mul (by omega) (by omega);obtain⟨s1,a1,S1,ok1,g1,k1,p1,q1⟩:=XG h hw u ok (1+ks.length*(fw+fk));have hup:ok1=true→ks.length*(fw+fk)≤131072:=fun e=>by
  obtain⟨k,b,e1,e2,e3⟩:=p1 e;have h1:=e3.wl k;have:=Oy g1.ok k;rw[if_pos rfl] at h1;omega
 have hupE:ok1=true→u64.wrap (7+u64.wrap (8*u64.wrap ((ks.length*(fw+fk):Nat):Int)))=7+8*((ks.length*(fw+fk):Nat):Int):=fun e=>by
  have:=hup e;exact Xy (by omega) (by omega) (by omega) (by omega)
 obtain⟨S2,ok2,g2,k2,q2,r2⟩:=JZ u g1.ok g1.wd ok1 s a s1 a1 1 (u64.wrap (7+u64.wrap (8*u64.wrap ((ks.length*(fw+fk):Nat):Int)))) (.inr rfl) (EI _).1 (fun e=>by
  have:=hup e;rw[hupE e];omega) (fun e=>by
  obtain⟨k,b,e1,e2,e3⟩:=hp (k1 e);have:=(G0 e3).2;have:=g1.wl k;exact⟨k,b,e1,e2,by omega⟩) (fun e=>by
  obtain⟨k,b,e1,e2,e3⟩:=p1 e;have:=e3.wl k;have:=e3.b;exact⟨k,b,e1,e2,by omega,e3.k⟩)
 have p2:ok2=true→∃ k b:Nat,s1=k∧a1=b∧b+1+ks.length*(fw+fk)≤wl S2 k∧∀ y,b≤y→y<b+1+ks.length*(fw+fk)→wv S2 k y=some 0:=fun e=>by
  obtain⟨k,b,e1,e2,e3⟩:=p1 (k2 e);obtain⟨kp,bp,x1,x2,x3⟩:=hp (k1 (k2 e));have hb:=e3.b;have hl:=e3.wl k;rw[if_pos rfl] at hl;have hbp:=(G0 x3).2;have:=g2.wl k;refine⟨k,b,e1,e2,by omega,fun y y1 y2=>?_⟩;rw[(r2 e kp bp k b x1 x2 e1 e2).1.eq _ _ (by omega) (fun x=>by obtain⟨x,y⟩:=x;subst x;omega),e3.wv,if_pos ⟨rfl,by omega,by omega⟩]
 have htag:=AfC hk1 hF1 hF2;obtain⟨S3,g3,q3,r3⟩:=kx u g2.ok g2.wd ok2 s1 a1 (u64.wrap (u64.wrap (i64.wrap (4*(ks.length:Int)))+u64.wrap (4294967296*u64.wrap (u64.wrap fw+u64.wrap (65536*u64.wrap fk))))) (EI _) fun e=>by
  obtain⟨k,b,e1,e2,e3,_⟩:=p2 e;exact⟨k,b,e1,e2,by omega⟩
 obtain⟨S4,ok4,⟨g4,k4,r4⟩,hl⟩:=sI (u:=u) (t:=.mk 9 [] ks) (fw:=fw) (fk:=fk) (s:=s1) (a:=a1) (by simpa using hk1) hcc (by omega) (by omega) ks.length 0 S3 ok2 g3.ok g3.wd (by simp) fun e=>by
  obtain⟨k,b,e1,e2,e3,e4⟩:=p2 e;have:=g3.wl k;refine⟨k,b,e1,e2,by simp only[T.kids_mk];omega,fun y y1 y2=>?_⟩;simp only[T.kids_mk] at y2;rw[(r3 e k b e1 e2).1.eq _ _ (by omega) (fun x=>by obtain⟨_,x⟩:=x;omega)];exact e4 y (by omega) y2
 refine⟨S4,ok4,((g1.trans g2).trans g3).trans g4,fun e=>k1 (k2 (k4 e)),BR Ce (by simp) Ng (BK A5) fun w0 I0 M0 m0=>?_,fun e kp bp x1 x2=>?_⟩
 ·unfold BI;have e1:i64.wrap ((fw:Int)+fk)=(fw:Int)+fk:=BJ;clear r2 r3 r4 hup hupE p1 p2;generalize hN:ks.length*(fw+fk)=N at *;have e2:i64.wrap ((ks.length:Int)*((fw:Int)+fk))=(N:Int):=by rw[hcast];exact Al (by omega) (by omega)
  have e3:i64.wrap (1+(N:Int))=((1+N:Nat):Int):=(Al (n:=1+(N:Int)) (by omega) (by omega)).trans (by omega);generalize hM:1+N=M at *;simp;refine Ae hfr (by simp) ?_;simp[e1,e2,e3];refine Bp 0 1 (by simp) q1 (fun p=>by simp) (fun p=>by simp) (by simp[e1,e2,e3]) (by simp) ?_;simp[e1,e2];refine Bp 0 1 (by simp) q2 (fun p=>by simp) (fun p=>by simp) (by simp[e1,e2]) (by simp) ?_;simp;refine Bp 0 1 (by simp) q3 (fun p=>by simp) (fun p=>by simp) (by simp) (by simp) ?_;simp;refine hl (fun p=>by simp) (fun p=>by simp) (by simp) fun s H' g0 g1=>?_;simp;exact Dc rfl rfl g0 g1
 ·have e2':=k4 e;have e1':=k2 e2';obtain⟨k',b',x3,x4,nw⟩:=p1 e1';have hb:=nw.b;have hl:=nw.wl k';rw[if_pos rfl] at hl;have hbp:bp<wl S kp:=by
   obtain⟨k5,b5,y1,y2,y3⟩:=hp (k1 e1');have y1:k5=kp:=by omega
   have y2:b5=bp:=by omega
   subst y1 y2;exact(G0 y3).2
  have h12:=g2.wl k';have h23:=g3.wl k';have h34:=g4.wl k';obtain⟨A1,A2⟩:=r2 e2' kp bp k' b' x1 x2 x3 x4;obtain⟨B1,B2⟩:=r3 e2' k' b' x3 x4;obtain⟨C1,C2⟩:=r4 e k' b' x3 x4;simp only[T.kids_mk,Nat.zero_mul,Nat.add_zero] at C1 C2;have hnw:=nw.kp g1;have BC:Kp31 (rng k' b' (1+ks.length*(fw+fk))) S2 S4:=B1.trans C1 (fun x y _ e=>by obtain⟨e1,e2⟩:=e;exact⟨e1,by omega,by omega⟩) fun x y _ e=>by obtain⟨e1,e2,e3⟩:=e;exact⟨e1,by omega,by omega⟩
  refine⟨(hnw.trans A1 (R:=bI kp bp) (fun _ _ _ e=>e.elim) (fun _ _ _ e=>e)).trans BC (fun _ _ _ e=>e) (fun x y hy e=>?_),fun L hL=>?_⟩
  ·obtain⟨rfl,e2,e3⟩:=e;omega
  ·have hTo:=A2 L ((hL.snd (Q:=bI kp bp) g1 (fun _ _ _ e=>.inr e)).fst BC (fun _ _ _ e=>.inr e) fun x y hy e=>by
    obtain⟨rfl,e2,e3⟩:=e;rintro(e | ⟨rfl,rfl⟩)<;>omega)
   rw[hupE e1'] at hTo;have hsz:=hL.wl k';have hgt:wL L k' b'=some (4*(ks.length:Int)+4294967296*((fw:Int)+65536*fk)):=by
    refine hL.at ?_ (.inl (by omega));rw[C1.eq _ _ (by omega) (fun x=>by obtain⟨_,x,_⟩:=x;omega),B2,htag]
   have hgl:=(V7 hgt).1;have hat:=AaA hTo hgt hk1 hF1 hF2 (by omega);have hin1:∀ i,i<ks.length→i*(fw+fk)+(fw+fk)≤ks.length*(fw+fk):=fun i hi=>by
    have h1:(i+1)*(fw+fk)≤ks.length*(fw+fk):=Nat.mul_le_mul_right _ hi;rw[Nat.add_mul,Nat.one_mul] at h1;omega
   have hrow:=C2 L (hL.snd ((g1.trans g2).trans g3) fun x y hy e=>by
    obtain⟨rfl,e2,e3⟩:=e;exact .inl (by omega))
   have hst:∀ i,i<ks.length→∃ v,AA L ⟨1,k',((b'+1+i*(fw+fk):Nat):Int),fw,fk,0,0⟩ v∧∀ hi:i<ks.length,Ah v=Ah ks[i]:=fun i hi=>by
    have hc1:=hkd _ (Bg hi);have h5:=hin1 i hi;obtain⟨w1,w2⟩:=hrow i hi (by omega);obtain⟨us,u1,u2⟩:=jL (P:=fun j v=>∃ r,Oi L k' ((b'+1+i*(fw+fk)+fw+j:Nat):Int)=(r,0)∧AA L r v∧Ah v=Ah (ks[i].kids.getD j T0)) (n:=fk) fun j hj=>by
     obtain⟨r,v,e1,e2,e3⟩:=w2 j hj;exact⟨v,r,e1,e2,e3⟩
    refine⟨.mk 1 (part L k' ((b'+1+i*(fw+fk):Nat):Int) fw) us,Vp hF1 hF2 (KQ hgl (by omega)) rfl u1 fun j hj=>?_,fun _=>?_⟩
    ·obtain⟨r,e1,e2,_⟩:=u2 j hj;exact⟨r,e1,e2⟩
    ·have e:ks[i] = .mk 1 ks[i].words ks[i].kids:=by rw[← hc1];exact T.eta _
     rw[e];refine struct_eq.2 ⟨fun j=>?_,fun j=>?_⟩
     ·have hcw:=(hcc _ (Bg hi)).2.1;rw[List.getD_eq_getElem?_getD,kY];split
      ·rename_i hj;rw[w1 j hj];rfl
      ·rename_i hj;rw[List.getD_eq_getElem?_getD,List.getElem?_eq_none (by omega)]
     ·have hck:=(hcc _ (Bg hi)).2.2.1;by_cases hj:j<fk
      ·obtain⟨_,_,_,e3⟩:=u2 j (by omega);rw[← e3];simp[List.getD_eq_getElem?_getD,u1,hj]
      ·simp[List.getD_eq_getElem?_getD,List.getElem?_eq_none (by omega:ks[i].kids.length≤j),List.getElem?_eq_none (by omega:us.length≤j)]
   obtain⟨us,u1,u2⟩:=jL hst;have hkid:∀ (i:Nat),i<us.length→CZ L ⟨9,k',(b':Int)+1,fw,fk,ks.length,0⟩ i=(⟨1,k',((b'+1+i*(fw+fk):Nat):Int),fw,fk,0,0⟩,0):=fun i hi=>by
    unfold CZ;rw[if_neg (by simp[nk];omega),if_neg (by simp),if_neg (by simp),if_pos rfl];simp
   refine⟨⟨9,k',(b':Int)+1,fw,fk,ks.length,0⟩,.mk 9 [] us,hat,?_,?_⟩
   ·have hh:=KQ (L:=L) (k:=k') (a:=b'+1) (n:=ks.length*(fw+fk)) hgl (by omega);refine .mk _ _ (.comp _ _ _ _ _ (by omega) (by omega) (by omega) (by omega) (by omega) (by omega) (by simpa using hh)) rfl (by simp[E7]) (by simp[nk,u1]) (fun i hi=>?_) (fun i hi=>?_)
    ·rw[hkid i hi]
    ·rw[hkid i hi];exact(u2 i hi).1
   ·refine(Xq (by decide) (by decide)).2 ⟨rfl,UR u1 fun i h1 h2=>?_⟩;exact(u2 i h1).2 h2
noncomputable def Ei (l:List (List Int)) (r:Rf):Tb→Nat→List T→Tb
 |S,_,[]=>S
 |S,i,t::ts=>Ei l r (MT S l (CZ l r i).1 t) (i+1) ts
theorem vX {l:List Nat}:∀ x,x ∈ l.map nv→EU (fun _=>x):=fun x hx=>by
 obtain⟨n,_,rfl⟩:=List.mem_map.1 hx;exact Au
abbrev nvM (u:Nat) (l:List Nat):Fam:=ta u 1 (l.map nv) vX
theorem LX:∀ (l:List T) (ks:List T) (t:T),Br ks (l++[t])=(JO (Br ks l).1 (Ah t),(Br ks l).2++[FX (Br ks l).1 (Ah t)])
 |[],ks,t=>by simp[Br]
 |a::l,ks,t=>by simp[Br,LX l]
theorem BA:∀ (l:List T) (ks:List T),(Br ks l).2.length=l.length
 |[],ks=>rfl
 |a::l,ks=>by simp[Br,BA l]
theorem Xa {l:List (List Int)} {r:Rf}:∀ (ts:List T) (S:Tb) (i:Nat) (t:T),Ei l r S i (ts++[t])=MT (Ei l r S i ts) l (CZ l r ((i+ts.length:Nat):Int)).1 t
 |[],S,i,t=>by simp[Ei]
 |a::ts,S,i,t=>by
  simp only[List.cons_append,Ei,Xa ts,List.length_cons];rw[show i+1+ts.length=i+(ts.length+1) from by omega]
theorem X2 {l:List (List Int)} {r:Rf}:∀ (ts:List T) (S:Tb) (i:Nat),(Ei l r S i ts).ks=(Br S.ks ts).1
 |[],S,i=>rfl
 |a::ts,S,i=>by simp[Ei,Br,X2 ts,xu]
theorem bE {l:List (List Int)} {r:Rf}:∀ (ts:List T) (S:Tb) (i:Nat),(Ei l r S i ts).u=S.u
 |[],S,i=>rfl
 |a::ts,S,i=>by simp[Ei,bE ts,AaV]
theorem sE (S:Tb) (l:List (List Int)) (r:Rf) (t:T):(MT S l r t).cl.length≤S.cl.length+1:=by
 unfold MT;split
 ·omega
 ·split<;>simp[NY,Jq]
theorem TL {l:List (List Int)} {r:Rf}:∀ (ts:List T) (S:Tb) (i:Nat),(Ei l r S i ts).cl.length≤S.cl.length+ts.length
 |[],S,i=>by simp[Ei]
 |a::ts,S,i=>by
  have:=TL (l:=l) (r:=r) ts (MT S l (CZ l r i).1 a) (i+1);have:=sE S l (CZ l r i).1 a;simp only[Ei,List.length_cons];omega
section
variable {n0:Nat} {w0:World} {I0:Nat→Prop} {M0:Nm→Nat→Prop} {m0:Mu} {Q:Exit→Sta→Prop}
theorem sc {l:List (List Int)} (hs:Sg l) {r:Rf} {t:T} (hm:AA l r t) {S0:Tb} {u:Nat} (hu:S0.u=u) (hb:S0.cl.length+t.kids.length≤400000):∀ (j i:Nat) (v:VOb) (H:Hp),i+j=t.kids.length →
  (Ei l r S0 0 (t.kids.take i)).Ok→(∀ p,H (0::p)=eV 0 (Ei l r S0 0 (t.kids.take i)) p)→(∀ p,H (1::p)=(nvM (i+1) (Br S0.ks (t.kids.take i)).2).F 1 p)→H [2]=⟨1,.cells (Yw l r)⟩ →
  (∀ (q:Bool) (H':Hp),(Ei l r S0 0 t.kids).Ok→(∀ p,H' (0::p)=eV 0 (Ei l r S0 0 t.kids) p)→(∀ p,H' (1::p)=(nvM (t.kids.length+1) (Br S0.ks t.kids).2).F 1 p)→Q (.exit 0) ⟨lk [(0,.pob [0] u 0),(3,.pob [2] 1 0),(6,.osl [1] (t.kids.length+1) 1 0 t.kids.length),(12,nv t.kids.length),(13,nv t.kids.length),(14,bv q)],H'⟩) →
  LoopC (DG Tryz.prog w0 I0 M0 n0 m0) DU Q ⟨lk [(0,.pob [0] u 0),(3,.pob [2] 1 0),(6,.osl [1] (i+1) 1 0 i),(12,nv t.kids.length),(13,nv i)],H⟩:=by
 intro j;induction j with
 |zero=>
  intro i v H hi hok hH hN hA hq;have:i=t.kids.length:=by omega
  subst this;rw[AL (BZ _)] at hok hH hN;refine Ab Ai DU.eq_1 ?_;simp;exact hq _ H hok hH hN
 |succ j ih=>
  intro i v H hi hok hH hN hA hq;have hlt:i<t.kids.length:=by omega
  have hlt':(i:Int)<t.kids.length:=by omega
  obtain⟨k1,k2⟩:=F9 hm hlt;have ei:=Av i;have htk:t.kids.take (i+1)=t.kids.take i++[t.kids[i]]:=Fm hlt;have hlen:=TL (l:=l) (r:=r) (t.kids.take i) S0 0;rw[List.length_take,Nat.min_eq_left (by omega)] at hlen;have hku:=bE (l:=l) (r:=r) (t.kids.take i) S0 0;rw[hu] at hku;have hC:=cO hok (by omega) hs k2;rw[hku] at hC;have hok2:=lJ hok hs k2;have hks:(Ei l r S0 0 (t.kids.take i)).ks=(Br S0.ks (t.kids.take i)).1:=X2 _ _ _;have hS2:Ei l r S0 0 (t.kids.take (i+1))=MT (Ei l r S0 0 (t.kids.take i)) l (CZ l r i).1 t.kids[i]:=by
   rw[htk,Xa,List.length_take,Nat.min_eq_left (by omega),Nat.zero_add]
  have hL2:(Br S0.ks (t.kids.take (i+1))).2=(Br S0.ks (t.kids.take i)).2++[FX (Ei l r S0 0 (t.kids.take i)).ks (Ah t.kids[i])]:=by
   rw[htk,LX,hks]
  have hlL:(Br S0.ks (t.kids.take i)).2.length=i:=by rw[BA,List.length_take,Nat.min_eq_left (by omega)]
  have ihn:=ih (i+1);rw[hS2,hL2] at ihn;generalize FX (Ei l r S0 0 (t.kids.take i)).ks (Ah t.kids[i])=c at hC ihn;generalize (Br S0.ks (t.kids.take i)).2=L at hN ihn hlL;generalize MT (Ei l r S0 0 (t.kids.take i)) l (CZ l r i).1 t.kids[i]=S2 at hC ihn hok2;have hN0:=hN [];simp at hN0;refine Ab Ai DU.eq_1 ?_;simp[hlt,hA];refine Ae (Kx hs (Cy hm) i) (by simp) ?_;simp[k1,Aa];refine Aw 0 hC (fun p=>by simp[Aa,hH]) rfl (by simp) ?_;simp[Aa,hN0,ei];refine⟨⟨by omega,by omega⟩,?_⟩;refine ihn v _ (by omega) hok2 (fun p=>by simp) (fun p=>?_) (by simp[Aa,hA]) hq;by_cases hp:p=[]
  ·subst hp;simp[Aa,AL,hlL]
  ·simp[Aa,hp,hN]
end
theorem X3 {S:Tb} (hS:S.Ok) {l:List (List Int)} (hs:Sg l) {r:Rf} {t:T} (hm:AA l r t) (hb:S.cl.length+t.kids.length≤400000) :
  fX Tryz.prog 201 (fun q=>[.pob [q] S.u 0,Hi l r]) (x9 S) (fun _ q=>.tup [.osl [q] (t.kids.length+1) 1 0 t.kids.length,iv 0]) (x9 (Ei l r S 0 t.kids)) (nvM (t.kids.length+1) (Br S.ks t.kids).2):=by
 refine Yp PV (by simp) (Af AJ (Af (Xx l r) Am)) (BK (Aq (Tu Cu) (Aq (A0 Au) A5))) (fun p=>?_) fun w0 I0 M0 m0=>?_
 ·by_cases hp:p=[]
  ·subst hp;exact .inr (by simp)
  ·exact .inl (by simp[hp])
 unfold JH;simp;refine Ae (Ea l r) (by simp) ?_;rw[Ht hm];simp;refine LoopC.le (Cd 6 [1] 1 (by simp)) ?_;simp;refine LoopC.le (Ao [(0,.pob [0] S.u 0),(3,.pob [2] 1 0),(6,.osl [1] 1 1 0 0),(12,nv t.kids.length),(13,nv 0)] (by simp[upd])) ?_;refine sc hs hm (S0:=S) rfl hb t.kids.length 0 ⟨0,.none⟩ _ (by omega) (by simpa[Ei] using hS) (fun p=>by simp[Ei]) (fun p=>?_) (by simp) (fun q H' h1 h2 h3=>?_)
 ·by_cases hp:p=[]
  ·subst hp;simp[Br]
  ·simp[hp,Ne.symm hp]
 ·simp;exact C7 rfl rfl h2 h3
theorem av {l:List T}:∀ x,x ∈ l.map tA→EU (fun _=>x):=fun x hx=>by
 obtain⟨t,_,rfl⟩:=List.mem_map.1 hx;exact Ez (tA_eq t) fun y hy=>by
  simp at hy;rcases hy with rfl | rfl | rfl<;>rfl
abbrev trM (u:Nat) (l:List T):Fam:=ta u 3 (l.map tA) av
theorem vq (t:T):EU (fun _=>tX t):=Ez rfl fun y hy=>by
 simp at hy;rcases hy with rfl | rfl | rfl<;>rfl
theorem Wu {ks:List T} {n:T} {i:Nat} (h:i<ks.length) (e:ks[i]=n) (hb:∀ (x:Nat) (hx:x<i),ks[x]'(by omega) ≠ n):FX ks n=i:=by
 unfold FX;rw[List.findIdx_eq h];refine⟨sameB_iff.2 e,fun j hj=>?_⟩;rw[Bool.eq_false_iff];exact fun h2=>hb j hj (sameB_iff.1 h2)
noncomputable def ia (u:Nat) (ks:List T) (n:T):Nat:=if FX ks n<ks.length then u else u+1
section
variable {n0:Nat} {w0:World} {I0:Nat→Prop} {M0:Nm→Nat→Prop} {m0:Mu} {Q:Exit→Sta→Prop}
theorem wO {ks:List T} (hw:∀ k,k ∈ ks→BH k) (hl:ks.length≤1000000) {n:T} {u:Nat} {H:Hp} (hN:H [2]=⟨1,.cells (tL n)⟩) (hK:H [0]=⟨u,.arr 3 (ks.map tA)⟩)
  (hq:FX ks n=ks.length→∀ i q,Q (.exit 0) ⟨lk [(0,.osl [0] u 3 0 ks.length),(6,.pob [2] 1 0),(7,i),(13,bv q)],H⟩) (hq2:FX ks n<ks.length→Q .ret ⟨lk [(4,.osl [0] u 3 0 ks.length),(5,nv (FX ks n))],H⟩):∀ (j i:Nat),i+j=ks.length→(∀ (x:Nat) (hx:x<i) (h:x<ks.length),ks[x] ≠ n) →
  LoopC (DG Tryz.prog w0 I0 M0 n0 m0) Et Q ⟨lk [(0,.osl [0] u 3 0 ks.length),(6,.pob [2] 1 0),(7,nv i)],H⟩:=by
 intro j;induction j with
 |zero=>
  intro i hi hb;have:i=ks.length:=by omega
  subst this;refine Ab Ai Et.eq_1 ?_;simp;exact hq (Uk fun hm=>by
   obtain⟨x,hx,e⟩:=List.mem_iff_getElem.1 hm;exact hb x hx hx e) _ _
 |succ j ih=>
  intro i hi hb;have hlt:i<ks.length:=by omega
  have ei:=Av i;refine Ab Ai Et.eq_1 ?_;simp[hlt,hN,hK];refine Ae (Oq _ (hw _ (Bg hlt)) n) (by simp) ?_;by_cases he:ks[i]=n
  ·have hc:=Wu hlt he fun x hx=>hb x hx (by omega);rw[hc] at hq2;have:HA ks[i] n=true:=sameB_iff.2 he;simp[this];exact hq2 hlt
  ·have:HA ks[i] n=false:=by rw[Bool.eq_false_iff];exact fun h=>he (sameB_iff.1 h)
   simp[this,ei];refine ih (i+1) (by omega) fun x hx h=>?_;by_cases e:x=i
   ·subst e;exact he
   ·exact hb x (by omega) h
end
theorem fF {ks:List T} (hw:∀ k,k ∈ ks→BH k) (hl:ks.length≤1000000) {t:T} (ht:BH t) (u:Nat) :
  Bh Tryz.prog 211 (fun r=>[.osl [r] u 3 0 ks.length,tX t]) (trM u ks) (fun r=>.tup [.osl [r] (ia u ks (Ah t)) 3 0 (JO ks (Ah t)).length,nv (FX ks (Ah t))]) (trM (ia u ks (Ah t)) (JO ks (Ah t))):=by
 refine AE QG (by simp) (Af Cu (Af (vq t) Am)) (Bz (Af Cu (Af Au Am))) fun w0 I0 M0 m0=>?_;unfold Kl;simp;refine Ae (EN t ht) (by simp) ?_;simp;refine wO hw hl (n:=Ah t) (u:=u) (by simp) (by simp) (fun hc i q=>?_) (fun hc=>?_) ks.length 0 (by omega) (fun x hx=>by omega)
 ·have h1:ia u ks (Ah t)=u+1:=by simp[ia,hc]
  have h2:JO ks (Ah t)=ks++[Ah t]:=by simp[JO,hc]
  have h3:(ks.length+1)*56≤140737488355328:=by omega
  simp[h3];refine AM rfl ?_ fun p=>?_
  ·simp[h1,h2,hc]
  ·rw[h1,h2];by_cases hp:p=[]
   ·subst hp;simp[Aa,AL]
   ·simp[Aa,hp]
 ·have h1:ia u ks (Ah t)=u:=by simp[ia,hc]
  have h2:JO ks (Ah t)=ks:=by simp[JO,hc]
  simp[h1,h2];exact AM rfl rfl fun p=>rfl
noncomputable def LY:Nat→List T→List T→Nat
 |u,_,[]=>u
 |u,ks,t::l=>LY (ia u ks (Ah t)) (JO ks (Ah t)) l
theorem SZ:∀ (l:List T) (u:Nat) (ks:List T) (t:T),LY u ks (l++[t])=ia (LY u ks l) (Br ks l).1 (Ah t)
 |[],u,ks,t=>by simp[LY,Br]
 |a::l,u,ks,t=>by simp[LY,Br,SZ l]
theorem sV (ks:List T) (n:T):(JO ks n).length≤ks.length+1:=by
 unfold JO;split<;>simp
theorem OS:∀ (l ks:List T),(Br ks l).1.length≤ks.length+l.length
 |[],ks=>by simp[Br]
 |t::l,ks=>by
  have:=OS l (JO ks (Ah t));have:=sV ks (Ah t);simp only[Br,List.length_cons];omega
theorem vx {ks:List T} {n:T} (h:∀ k,k ∈ ks→BH k) (hn:BH n):∀ k,k ∈ JO ks n→BH k:=by
 unfold JO;split
 ·exact h
 ·intro k hk;rcases List.mem_append.1 hk with hk | hk
  ·exact h k hk
  ·simp at hk;subst hk;exact hn
theorem R5:∀ {l ks:List T},(∀ k,k ∈ ks→BH k)→(∀ k,k ∈ l→BH k)→∀ k,k ∈ (Br ks l).1→BH k
 |[],ks,h,_=>h
 |t::l,ks,h,hl=>R5 (l:=l) (vx h (GU _ (hl t (by simp)))) fun k hk=>hl k (by simp[hk])
section
variable {n0:Nat} {w0:World} {I0:Nat→Prop} {M0:Nm→Nat→Prop} {m0:Mu} {Q:Exit→Sta→Prop}
theorem ri {ks0 ts:List T} (hw:∀ k,k ∈ ks0→BH k) (ht:∀ k,k ∈ ts→BH k) (hl:ks0.length+ts.length≤1000000) {u0:Nat} (hq:∀ (q:Bool) (H:Hp),(∀ p,H (0::p)=(trM (LY u0 ks0 ts) (Br ks0 ts).1).F 0 p)→(∀ p,H (1::p)=(nvM (ts.length+1) (Br ks0 ts).2).F 1 p) →
   Q (.exit 0) ⟨lk [(0,.osl [0] (LY u0 ks0 ts) 3 0 (Br ks0 ts).1.length),(1,Bm ts),(6,.osl [1] (ts.length+1) 1 0 ts.length),(7,nv ts.length),(13,bv q)],H⟩) :
  ∀ (j i:Nat) (H:Hp),i+j=ts.length→(∀ p,H (0::p)=(trM (LY u0 ks0 (ts.take i)) (Br ks0 (ts.take i)).1).F 0 p)→(∀ p,H (1::p)=(nvM (i+1) (Br ks0 (ts.take i)).2).F 1 p) →
  LoopC (DG Tryz.prog w0 I0 M0 n0 m0) Dx Q ⟨lk [(0,.osl [0] (LY u0 ks0 (ts.take i)) 3 0 (Br ks0 (ts.take i)).1.length),(1,Bm ts),(6,.osl [1] (i+1) 1 0 i),(7,nv i)],H⟩:=by
 intro j;induction j with
 |zero=>
  intro i H hi hH hN;have:i=ts.length:=by omega
  subst this;rw[AL (BZ _)] at hH hN ⊢;refine Ab Ai Dx.eq_1 ?_;simp;exact hq _ H hH hN
 |succ j ih=>
  intro i H hi hH hN;have hlt:i<ts.length:=by omega
  have ei:=Av i;have htk:ts.take (i+1)=ts.take i++[ts[i]]:=Fm hlt;have hlen:=OS (ts.take i) ks0;rw[List.length_take,Nat.min_eq_left (by omega)] at hlen;have hwt:=ht _ (Bg hlt);have hC:=fF (R5 hw (l:=ts.take i) fun k hk=>ht k (Oh hk)) (by omega) hwt (LY u0 ks0 (ts.take i));have hlL:(Br ks0 (ts.take i)).2.length=i:=by rw[BA,List.length_take,Nat.min_eq_left (by omega)]
  have ihn:=ih (i+1);rw[htk,SZ,LX] at ihn;simp only at ihn;have hN0:=hN [];simp at hN0;refine Ab Ai Dx.eq_1 ?_;simp[hlt];refine Aw 0 hC hH (by simp) (by simp) ?_;generalize (Br ks0 (ts.take i)).2=L at hN hN0 ihn hlL;simp[hN0,ei];refine⟨⟨by omega,by omega⟩,?_⟩;refine ihn _ (by omega) (fun p=>by simp) (fun p=>?_);by_cases hp:p=[]
  ·subst hp;simp[Aa,AL,hlL]
  ·simp[Aa,hp,hN]
end
theorem Qu {ks ts:List T} (hw:∀ k,k ∈ ks→BH k) (ht:∀ k,k ∈ ts→BH k) (hl:ks.length+ts.length≤1000000) (u:Nat) :
  fX Tryz.prog 165 (fun r=>[.osl [r] u 3 0 ks.length,Bm ts]) (trM u ks) (fun r q=>.tup [.osl [r] (LY u ks ts) 3 0 (Br ks ts).1.length,.osl [q] (ts.length+1) 1 0 ts.length]) (trM (LY u ks ts) (Br ks ts).1) (nvM (ts.length+1) (Br ks ts).2):=by
 refine Yp Ow (by simp) (Af Cu (Af Dl Am)) (BK (Aq (A0 Cu) (Aq (Tu Cu) A5))) (fun p=>?_) fun w0 I0 M0 m0=>?_
 ·by_cases hp:p=[]
  ·subst hp;exact .inr (by simp)
  ·exact .inl (by simp[hp])
 unfold Jb;simp;refine LoopC.le (Cd 6 [1] 1 (by simp)) ?_;simp;refine LoopC.le (Ao [(0,.osl [0] u 3 0 ks.length),(1,Bm ts),(6,.osl [1] 1 1 0 0),(7,nv 0)] (by simp[upd])) ?_;refine ri hw ht hl (u0:=u) (fun q H h1 h2=>?_) ts.length 0 _ (by omega) (fun p=>by simp[LY,Br]) (fun p=>?_)
 ·simp;exact C7 rfl rfl h1 h2
 ·by_cases hp:p=[]
  ·subst hp;simp[Br]
  ·simp[hp,Ne.symm hp]
section
variable {n0:Nat} {w0:World} {I0:Nat→Prop} {Q:Exit→Sta→Prop} {H:Hp}
end
theorem cZ:newTb.Ok:=⟨by decide,by decide,by decide,by simpa[newTb] using Pl.nil 8,fun c hc=>by simp[newTb] at hc,by simp[newTb]⟩
theorem aE {H:Hp} {o:Nm} {u:Nat} {l:List Nat} {n:Nat} (h:vr (H o) u=some (1,l.map nv)) (hn:n=l.length):J3 H (.osl o u 1 0 n) (.sl false (l.map nv)):=Bx (f:=nv) h hn fun x=>by simp
theorem tf {c:Cx} {s:Nat→A} {H:Hp} (t:Nat):Le c ⟨s,H⟩ ⟨upd s t (A.soft (s t)),H⟩:=fun a w I μ hs=>
 ⟨I,μ,hs.sim,hs.size,hs.defers,fun k=>by
  show Rel w I μ (upd s t (A.soft (s t)) k) _;unfold upd;split
  ·rename_i e;subst e;exact(hs.rel _).soft
  ·exact hs.rel k⟩
theorem gu {l:List (List Int)} (hs:Sg l) {r:Rf}:∀ (ts:List T) (S:Tb) (i:Nat),S.Ok→(∀ (j:Nat) (h:j<ts.length),AA l (CZ l r ((i+j:Nat):Int)).1 ts[j])→(Ei l r S i ts).Ok
 |[],S,i,h,_=>h
 |t::ts,S,i,h,hm=>by
  rw[Ei];refine gu hs ts _ (i+1) (lJ h hs (by have:=hm 0 (by simp);exact this)) fun j hj=>?_;have:=hm (j+1) (by simpa using hj)
  rwa [show i+(j+1)=i+1+j from by omega] at this
section
variable {n0:Nat} {w0:World} {I0:Nat→Prop}
end
theorem wR {r:Nat} {S:Ar} {H:Hp} (hH:∀ p,H (r::p)=H6 r S p):J3 H (.osl [r,0] S.ur 1 0 S.l.length) (vK S.w):=by
 have h0:=hH [0];refine Jh (o:=[r,0]) (u:=S.ur) (off:=0) (len:=S.l.length) (sz:=1) (xs:=Io r S.l) (ys:=S.w.map ws) (by simp[h0]) (by simp) (by simp[Ar.w]) (by simp) (by simp[A.ones]) ?_;have e1:List.flatMap A.cells (List.take S.l.length (List.drop 0 (Io r S.l)))=Io r S.l:=by
  rw[List.drop_zero,AL (by simp)];exact MP fun x hx=>by
   obtain⟨i,hi,rfl⟩:=List.mem_mapIdx.1 hx;rfl
 have e2:List.flatMap A.cells (List.map ws S.w)=List.map ws S.w:=MP fun x hx=>by
  obtain⟨i,hi,rfl⟩:=List.mem_map.1 hx;rfl
 rw[e1,e2];refine Rl (by simp[Ar.w]) fun k a a' ha ha'=>?_;simp at ha ha';obtain⟨p,q,hk,rfl⟩:=ha;obtain⟨g,hg,rfl⟩:=ha';simp[Ar.w,hk] at hg;subst hg;have:=SG (H:=H) (o:=[r,0,k]) (u:=p) (off:=0) (len:=q.length) (sz:=1) (xs:=q.map uv) (by simp[hH,hk]) (by simp) (by simp[AL]);simpa[AL] using this
theorem Aff {S:Ar} (h:S.Ok) (hw:Wd S):Sg S.w∧S.w.length≤16:=by
 refine⟨⟨fun x hx=>?_,fun x hx y hy=>?_⟩,by simpa[Ar.w] using h.len⟩
 ·obtain⟨e,he,rfl⟩:=List.mem_map.1 hx;have:=h.seg e he;have:=h.used1;have:=h.most1;omega
 ·obtain⟨e,he,rfl⟩:=List.mem_map.1 hx;exact hw e he y hy
section
variable {n0:Nat} {w0:World} {I0:Nat→Prop}
theorem Y3 {S:Ar} {ok:Bool} {u:Nat} {H:Hp} (g0:∀ p,H (1::p)=(RR u S ok).B 1 2 p) (g1:∀ p,H (2::p)=H6 2 S p) :
  WPC (cx Tryz.prog w0 I0 n0) Gv (TS Tryz.prog [.tmp 6,.tmp 7] (.tup [vK (if ok=true then S.w else []),bv ok])) ⟨lk [(8,.pob [1] u 0)],H⟩:=by
 unfold Gv;have h0:=g0 [];have h1:=g1 [];simp at h0 h1;cases ok with
 |false=>
  simp[h0];exact J1 (by simp;exact⟨Ak,Ad rfl⟩)
 |true=>
  simp[h0,h1];exact J1 (by simp;exact⟨wR g1,Ad rfl⟩)
end
end Go.Proofs.YtbjmaoedheiigaaGreat
namespace Go.PL
def wdT (t:T) (i:Nat):Int:=t.words.getD i 0
def kdT (t:T) (i:Nat):T:=t.kids.getD i T0
theorem jB:∀ (t:T) (d:Nat),Ef d t=true→Ef d (Ah t)=true:=by
 refine T.ind fun k w l ih d h=>?_;have hk:=Iz h;rw[DH] at h;rw[BS];by_cases h0:k=0
 ·rw[if_pos h0,DH];rfl
 rw[if_neg h0] at h ⊢;by_cases h10:k=10
 ·subst h10;rw[if_pos rfl] at h;simp at h;obtain⟨hw,rfl⟩:=h;rw[if_neg (by decide),DH];simp[hw]
 rw[if_neg h10] at h;by_cases hb:FU k d w.length l.length=true
 ·rw[if_pos hb] at h;cases h
 have hm:∀ (m:List T),(∀ t,t ∈ m→∃ u,u ∈ l∧t=Ah u)→G7 (d-1) k m=true:=fun m hm=>rightL_all.2 fun t ht=>by
  obtain⟨u,hu,rfl⟩:=hm t ht;obtain⟨g1,g2⟩:=hk u hu;refine⟨ih u hu _ g1,?_⟩;unfold Ey at g2 ⊢;rw[CB];cases hd:F0 k with
  |false=>rw[hd] at g2;simpa using g2
  |true=>
   rw[hd] at g2;simp at g2;obtain⟨⟨g3,g4⟩,g5⟩:=g2;obtain⟨uk,uw,ul⟩:=u;simp at g3;subst g3;rw[BS];simp at g4 g5 ⊢;exact⟨g4,g5⟩
 by_cases h1:k=1
 ·subst h1;have hw:=KL w;have hl:=Ji (l.map Ah);rw[List.length_map] at hl;have hb':¬ FU 1 d (Cf w).length (BO (l.map Ah)).length=true:=by
   simp[FU] at hb ⊢;omega
  rw[if_pos rfl,DH,if_neg (by decide),if_neg (by decide),if_neg hb'];refine hm _ fun t ht=>?_;rw[NQ] at ht;obtain⟨u,hu,rfl⟩:=List.mem_map.1 (Oh ht);exact⟨u,hu,rfl⟩
 ·rw[if_neg h1,DH,if_neg h0,if_neg h10,if_neg (by rw[List.length_map];exact hb)];refine hm _ fun t ht=>?_;obtain⟨u,hu,rfl⟩:=List.mem_map.1 ht;exact⟨u,hu,rfl⟩
inductive SmT:T→Prop
 |mk (k:Int) (w:List Int) (l:List T):l.length≤1048576→(∀ t,t ∈ l→SmT t)→SmT (.mk k w l)
theorem SmT.len {t:T} (h:SmT t):t.kids.length≤1048576:=by cases h;assumption
theorem SmT.kid {t:T} (h:SmT t):∀ c,c ∈ t.kids→SmT c:=by cases h;assumption
theorem Adi:SmT T0:=.mk _ _ _ (Nat.zero_le _) (fun t h=>by cases h)
theorem SmT.kd {t:T} (h:SmT t) (i:Nat):SmT (kdT t i):=by
 unfold kdT;rw[List.getD_eq_getElem?_getD];cases e:t.kids[i]? with
 |none=>exact Adi
 |some x=>exact h.kid x (List.mem_of_getElem? e)
end Go.PL
namespace Go.Proofs.YtbjmaoedheiigaaGreat
open Go Go.G Go.Proofs Go.PL
theorem zZ {L:List (List Int)} {g t wd:Nat} {k:Int} {ks:List T} (h1:2≤k) (h2:k≤7) (hg:g<L.length)
  (b1:ks.length<536870912) (b2:∀ c,c ∈ ks→∃ x,c.words=[x]∧0≤x∧x<18446744073709551616∧JA (k-2) x=true) (hkd:∀ c,c ∈ ks→c.kind=10∧c.kids=[])
  (hin:t+(N9 (k-2) (ks.map hd)).length≤nU L g) (hq:∀ (q:Nat) (hq:q<(N9 (k-2) (ks.map hd)).length),wL L g (t+q)=some (N9 (k-2) (ks.map hd))[q]) :
  ((ks.length:Int)*KH (k-2)+63) / 64=((N9 (k-2) (ks.map hd)).length:Int)∧AA L ⟨2+(k-2),g,t,0,0,ks.length,0⟩ (.mk k [] ks):=by
 obtain⟨wd,w1,w2,w3⟩:=OT (c:=k-2) (by omega) (by omega);have hroom:Ll (k-2) (ks.map hd).length=(((ks.length*wd+63) / 64:Nat):Int):=by
  unfold Ll;rw[List.length_map,if_neg (by omega),w2];have e:(ks.length:Int)*wd=((ks.length*wd:Nat):Int):=by rw[Int.natCast_mul]
  rw[e];omega
 have hpl:(N9 (k-2) (ks.map hd)).length=(ks.length*wd+63) / 64:=by rw[Vo,hroom];omega
 have hm:((ks.length:Int)*KH (k-2)+63) / 64=(((ks.length*wd+63) / 64:Nat):Int):=by
  rw[jW (by omega) (by omega),w2];have e:(ks.length:Int)*wd=((ks.length*wd:Nat):Int):=by rw[Int.natCast_mul]
  rw[e];omega
 refine⟨by rw[hm,hpl],?_⟩;have hk2:2+(k-2)=k:=by omega
 have hq:∀ q,q<(ks.length*wd+63) / 64→(((seg L g).getD []).drop t)[q]? = (N9 (k-2) (ks.map hd))[q]?:=fun q hq2=>by
  rw[List.getElem?_eq_getElem (l:=N9 (k-2) (ks.map hd)) (by omega),← hq q (by omega),List.getElem?_drop];unfold seg wL;simp only[Int.natCast_nonneg,if_true,Int.toNat_natCast];cases L[g]?<;>simp
 have hkid:∀ (i:Nat) (hi:i<ks.length),CZ L ⟨2+(k-2),g,t,0,0,ks.length,0⟩ i=(⟨10,0,0,0,0,0,hd ks[i]⟩,0):=fun i hi=>by
  rw[ou (by omega) (by omega) (by omega) (by omega) (by omega)];have:U1 L ⟨2+(k-2),g,t,0,0,ks.length,0⟩ i=hd ks[i]:=by
   unfold U1 Uo;simp only[Int.toNat_natCast,show 2+(k-2)-2=k-2 by omega,w1];obtain⟨x,hx1,hx2,hx3,hx4⟩:=b2 _ (Bg hi);have hhd:hd ks[i]=x:=by unfold hd;rw[hx1];rfl
   by_cases hw0:wd=0
   ·subst hw0;rw[if_pos (by omega),hhd];unfold JA at hx4;rw[w1] at hx4;simp at hx4;omega
   ·rw[if_neg (by omega)];have e1:((i:Int)*wd / 64).toNat=i*wd / 64:=by
     have:(i:Int)*wd=((i*wd:Nat):Int):=by rw[Int.natCast_mul]
     rw[this];omega
    have e2:((i:Int)*wd % 64).toNat=i*wd % 64:=by
     have:(i:Int)*wd=((i*wd:Nat):Int):=by rw[Int.natCast_mul]
     rw[this];omega
    rw[e1,e2];have hat2:∀ j,j<ks.length→j*wd / 64<(ks.length*wd+63) / 64:=fun j hj=>j8 (by omega) hj;rw[hq _ (hat2 i hi)];have hput:N9 (k-2) (ks.map hd)=L3 wd (ks.map hd) 0 (List.replicate ((ks.length*wd+63) / 64) 0):=by
     unfold N9;rw[w1,hroom];simp only[Int.toNat_natCast]
    have hf:=(XL (w:=wd) (by omega) (ks.map hd) 0 _ (PutI.start wd ((ks.length*wd+63) / 64)) (fun y hy=>by
     obtain⟨c,hc,rfl⟩:=List.mem_map.1 hy;obtain⟨z,z1,z2,z3,z4⟩:=b2 c hc;have:hd c=z:=by unfold hd;rw[z1];rfl
     rw[this];exact⟨z2,aj w1 z2 z4⟩) (fun j hj=>by
     rw[List.length_replicate];exact hat2 j (by simpa using hj))).2 i (by simpa using hi)
    rw[Nat.zero_add,← hput] at hf;unfold Ux at hf;rw[List.getD_eq_getElem?_getD] at hf;rw[hf];simp
  rw[this]
 have hh:=KQ (L:=L) (k:=g) (a:=t) (n:=(ks.length*wd+63) / 64) hg (by omega);rw[← hm] at hh;refine .mk _ _ (.dat _ _ _ _ (by omega) (by omega) (by omega) (by omega) hh) hk2 ?_ ?_ (fun i hi=>?_) (fun i hi=>?_)
 ·unfold E7;rw[if_neg (by simp only;omega),if_pos (by simp only;omega)];rfl
 ·unfold nk;rw[if_neg (by simp only;omega)];rfl
 ·change i<ks.length at hi;rw[hkid i hi]
 ·change i<ks.length at hi;rw[hkid i hi];obtain⟨x,hx1,hx2,hx3,hx4⟩:=b2 _ (Bg hi);obtain⟨g1,g2⟩:=hkd _ (Bg hi);have hhd:hd ks[i]=x:=by unfold hd;rw[hx1];rfl
  have e:ks[i] = .mk 10 [x] []:=by rw[T.eta ks[i],g1,hx1,g2]
  show AA L _ ks[i];rw[hhd,e];exact .mk _ _ (.atom _ hx2 hx3) rfl (by simp[E7]) (by simp[nk]) (fun i hi=>by simp at hi) (fun i hi=>by simp at hi)
theorem kM {k:Int} {ks:List T} (h1:2≤k) (h2:k≤7) (b1:ks.length<536870912) (b2:∀ c,c ∈ ks→∃ x,c.words=[x]∧0≤x∧x<18446744073709551616∧JA (k-2) x=true) (hkd:∀ c,c ∈ ks→c.kind=10∧c.kids=[]):BM (.mk k [] ks):=by
 intro u S ok s a h hw hp;have hwd:∀ c,c ∈ ks→c.words=[hd c]:=fun c hc=>by
  obtain⟨x,hx,_⟩:=b2 c hc;simp[hx,hd]
 have hfit:∀ x,x ∈ ks.map hd→Bw x∧JA (k-2) x=true:=fun x hx=>by
  obtain⟨c,hc,rfl⟩:=List.mem_map.1 hx;obtain⟨x,hx,q1,q2,q3⟩:=b2 c hc;have:hd c=x:=by simp[hx,hd]
  rw[this];exact⟨⟨q1,q2⟩,q3⟩
 have hPu:=kN (c:=k-2) (by omega) (by omega) (ns:=ks.map hd) (by simp;omega) hfit;obtain⟨hZ,hZl⟩:=wo (c:=k-2) (by omega) (by omega) (ns:=ks.map hd) (by simp;omega) hfit;have hM:=fun (L:List (List Int)) (g t:Nat)=>zZ (L:=L) (g:=g) (t:=t) (wd:=0) h1 h2 (ks:=ks) (b1:=b1) (b2:=b2) (hkd:=hkd);generalize N9 (k-2) (ks.map hd)=Z at hPu hZ hZl hM;obtain⟨s1,a1,S1,ok1,g1,k1,p1,q1⟩:=XG h hw u ok Z.length;have hup:u64.wrap (u64.wrap (k-2)+u64.wrap (8*u64.wrap ks.length))=k-2+8*(ks.length:Int):=by
  rw[AG (n:=k-2) (by omega) (by omega)];exact Xy (by omega) (by omega) (by omega) (by omega)
 obtain⟨S2,ok2,g2,k2,q2,r2⟩:=JZ u g1.ok g1.wd ok1 s a s1 a1 1 (u64.wrap (u64.wrap (k-2)+u64.wrap (8*u64.wrap ks.length))) (.inr rfl) (EI _).1 (fun e=>by rw[hup];omega) (fun e=>by
  obtain⟨k,b,e1,e2,e3⟩:=hp (k1 e);have:=(G0 e3).2;have:=g1.wl k;exact⟨k,b,e1,e2,by omega⟩) (fun e=>by
  obtain⟨k,b,e1,e2,e3⟩:=p1 e;have:=e3.wl k;have:=e3.b;exact⟨k,b,e1,e2,by omega,e3.k⟩)
 obtain⟨S3,g3,q3,r3⟩:=QX u g2.ok g2.wd hZ (by omega) ok2 s1 a1 fun e=>by
  obtain⟨k,b,e1,e2,e3⟩:=p1 (k2 e);have h1:=e3.wl k;have:=e3.b;have:=g2.wl k;have:=Oy g2.ok k;rw[if_pos rfl] at h1;exact⟨k,b,e1,e2,by omega,by omega⟩
 refine⟨S3,ok2,(g1.trans g2).trans g3,fun e=>k1 (k2 e),BR Ce (by simp) Ng (BK A5) fun w0 I0 M0 m0=>?_,fun e kp bp x1 x2=>?_⟩
 ·unfold BI;have e1:i64.wrap (k-2)=k-2:=BJ;have n0:¬ k=0:=by omega
  have n1:¬ k=1:=by omega
  have n8:¬ k=8:=by omega
  have n9:¬ k=9:=by omega
  simp[n0,n1,n8,n9];refine Cm (Cd 18 [3] 1 (by simp)) ?_;refine Cm (Ao [(0,.pob [0] u 0),(1,iv s),(2,iv a),(7,.pob [2] 1 0),(8,nv ks.length),(18,.osl [3] 1 1 0 0)] (by simp[upd])) (CQ ?_);simp;refine vU (t:=.mk k [] ks) (F:=(RR u S ok).B 0 1) (G:=H6 1 S) (by simp;omega) hwd (fun q v H' g0 g1 g2 g3=>?_) ks.length 0 1 _ (by simp) (fun p=>?_) (fun p=>?_) (by simp[Aa]) (by simp[Aa]);rotate_left
  ·simp
  ·simp
  simp[g2];simp[e1];refine Kf [iv (k-2),Dz (ks.map hd)] hPu (by simp;exact⟨Ad rfl,Bx (f:=uv) (l:=ks.map hd) (by rw[g3];simp) (by simp) (fun x=>by simp)⟩) (by simp[e1]) ?_;simp;refine Bp 0 1 (by simp) q1 g0 g1 (by simp) (by simp) ?_;simp[g2,e1];refine Bp 0 1 (by simp) q2 (fun p=>by simp) (fun p=>by simp) (by simp[e1]) (by simp) ?_;simp;refine Bp 0 1 (by simp) q3 (fun p=>by simp) (fun p=>by simp) (by simp) (by simp) ?_;simp;exact Dc rfl rfl (fun p=>by simp) (fun p=>by simp)
 ·obtain⟨k',b',x3,x4,nw⟩:=p1 (k2 e);have hb:=nw.b;have hl:=nw.wl k';rw[if_pos rfl] at hl;have hbp:bp<wl S kp:=by
   obtain⟨k5,b5,y1,y2,y3⟩:=hp (k1 (k2 e));have y1:k5=kp:=by omega
   have y2:b5=bp:=by omega
   subst y1 y2;exact(G0 y3).2
  have h12:=g2.wl k';have h23:=g3.wl k';obtain⟨A1,A2⟩:=r2 e kp bp k' b' x1 x2 x3 x4;obtain⟨B1,B2,B3,B4⟩:=r3 e k' b' x3 x4;have hnw:=nw.kp g1;refine⟨(hnw.trans A1 (R:=bI kp bp) (fun _ _ _ e=>e.elim) (fun _ _ _ e=>e)).trans B1 (fun _ _ _ e=>e) (fun x y hy e=>?_),fun L hL=>?_⟩
  ·obtain⟨rfl,e2,e3⟩:=e;omega
  ·have hTo:=A2 L ((hL.snd (Q:=bI kp bp) g1 (fun _ _ _ e=>.inr e)).fst B1 (fun _ _ _ e=>.inr e) fun x y hy e=>by
    obtain⟨rfl,e2,e3⟩:=e;rintro(e | ⟨rfl,rfl⟩)<;>omega)
   rw[hup] at hTo;have hgl:k'<L.length:=by
    have:=nw.k;have:=A1.ln;have:=hL.ln;omega
   have hsz:=hL.wl k';obtain⟨m1,m2⟩:=hM L k' b' hgl (by omega) fun q hq=>hL.at (B4 q hq) (.inl (by omega));exact⟨_,_,uG hTo (by omega) (by omega) b1 m1 hgl (by omega),m2,rfl⟩
theorem oE:∀ t:T,(M7 t→(∃ d,Ef d t=true)→BH t→BM t)∧∀ d,d ∈ t.kids→M7 d→(∃ n,Ef n d=true)→BH d→BM d:=by
 refine T.ind fun k w ks ih=>⟨fun hL hr hw=>?_,fun d hd=>(ih d hd).1⟩;have hwd:=(wfT_iff.1 hw).w;have hwk:=(wfT_iff.1 hw).ks;obtain⟨d,hr⟩:=hr;have hkr:=Iz hr;have hw0:2≤k→k≤9→w=[]:=fun hk2 hk9=>by
  rw[DH,if_neg (by omega),if_neg (by omega)] at hr;split at hr
  ·cases hr
  ·rename_i hb;simp[FU] at hb;exact hb.2 (by omega)
 cases hL with
 |null w=>exact kq
 |str w ks b1 b2 hk=>exact ni (fun x hx=>hwd x hx) b1 b2 fun c hc=>(ih c hc).1 (hk c hc) ⟨_,(hkr c hc).1⟩ (hwk c hc)
 |ptrs w ks b1 hk=>
  obtain rfl:=hw0 (by omega) (by omega);exact jb b1 fun c hc=>(ih c hc).1 (hk c hc) ⟨_,(hkr c hc).1⟩ (hwk c hc)
 |comp w ks b1 b2 hk=>
  obtain rfl:=hw0 (by omega) (by omega);refine iE b1 (fun c hc=>xF (hkr c hc).2) fun c hc=>?_;have hwc:=hwk c hc;have hrc:=(hkr c hc).1;obtain⟨k2,w2,l2⟩:=c;have hx:=wfT_iff.1 hwc;exact⟨fun x hx'=>hx.w x hx',(b2 _ hc).1,(b2 _ hc).2,fun d hd=>(ih _ hc).2 d hd (hk _ hc d hd) ⟨_,(jc hrc d hd).1⟩ (hx.ks d hd)⟩
 |data k w ks h1 h2 b1 b2=>
  obtain rfl:=hw0 (by omega) (by omega);refine kM h1 h2 b1 b2 fun c hc=>?_;obtain⟨x,hx1,hx2,hx3,hx4⟩:=b2 c hc;obtain⟨g1,g2⟩:=hkr c hc;have hkd:c.kind=10:=by
   have hd:F0 k=true:=by simp[F0];omega
   unfold Ey at g2;rw[hd] at g2;simp at g2;first | exact g2.1.1 | exact of_decide_eq_true g2.1.1
  refine⟨hkd,?_⟩;rw[T.eta c,DH,hkd] at g1;simp at g1;exact g1.2
theorem za {t:T}:Sg []∧([]:List (List Int)).length≤16∧∃ v,AA [] (Oi [] 0 0).1 v∧(false=true→Ah v=Ah t)∧(false=false→v=T0):=
 ⟨⟨fun x hx=>by simp at hx,fun x hx=>by simp at hx⟩,by simp,T0,RM _,(fun e=>by cases e),fun _=>rfl⟩
theorem RT {t:T} (hw:BH t) (z m:Int) (hz:z<9223372036854775808):∃ (L:List (List Int)) (ok:Bool),(Sg L∧L.length≤16∧∃ v,AA L (Oi L 0 0).1 v∧(ok=true→Ah v=Ah t)∧(ok=false→v=T0))∧G.Spec Tryz.prog 26 [tX t,iv z,iv m] (.tup [vK L,bv ok]):=by
 by_cases hr:(!Ef 64 t || decide (t.kind=10))=true
 ·refine⟨[],false,za,Aj Ki (by simp) fun w0 I0=>?_⟩;unfold G5;simp;refine Ae (UZ t hw 64 (by omega)) (by simp) ?_;simp[hr];exact J1 (by simp;exact⟨Ak,Ad rfl⟩)
 ·have hr':=Bool.eq_false_iff.2 hr;have hr1:Ef 64 t=true:=by
   cases e:Ef 64 t with
   |true=>rfl
   |false=>simp[e] at hr
  have h10:t.kind ≠ 10:=fun e=>by simp[e] at hr
  have hok:=jA t 64 hr1 hw h10;have hwn:=GU t hw;have k0:(Lr z m).Ok:=qN hz;have kw:Wd (Lr z m):=fun e he=>by simp[Lr] at he
  obtain⟨s1,a1,S1,ok1,g1,k1,p1,q1⟩:=XG k0 kw 1 true 1;obtain⟨S2,ok2,g2,k2,q2,r2⟩:=(oE (Ah t)).1 hok ⟨64,jB t 64 hr1⟩ hwn 1 S1 ok1 s1 a1 g1.ok g1.wd fun e=>by
   obtain⟨k,b,e1,e2,nw⟩:=p1 e;exact⟨k,b,e1,e2,by rw[nw.wv,if_pos ⟨rfl,by omega,by omega⟩]⟩
  refine⟨if ok1=true then (if ok2=true then S2.w else []) else [],ok1&&ok2,?_,Aj Ki (by simp) fun w0 I0=>?_⟩
  ·cases ok1 with
   |false=>exact za
   |true=>
   cases ok2 with
   |false=>exact za
   |true=>
   simp only[if_true,Bool.and_self];obtain⟨hs1,hs2⟩:=Aff g2.ok g2.wd;refine⟨hs1,hs2,?_⟩;obtain⟨k,b,f1,f2,nw⟩:=p1 rfl;have hk0:k=0:=by
    have h1:=nw.ln2;have h2:=nw.k;have h3:(Lr z m).l.length=0:=rfl;omega
   have hb0:b=0:=by
    rw[nw.b];rfl
   subst hk0 hb0;obtain⟨r,v,v1,v2,v3⟩:=(r2 rfl 0 0 f1 f2).2 S2.w (Ag.self _ _ _);have v1:Oi S2.w 0 0=(r,0):=v1;rw[v1];exact⟨v,v2,fun _=>v3.trans (Ka t),fun e=>by cases e⟩
  unfold G5;simp;refine Ae (UZ t hw 64 (by omega)) (by simp) ?_;simp[hr1,h10];refine y8 2 rfl (o8 z m) (fun p=>rfl) rfl (fun _ _=>rfl) (fun _=>⟨trivial,trivial,trivial⟩) o5 (by simp) ?_;simp;refine Bp 1 2 (by decide) q1 (fun p=>by simp[Lr]) (fun p=>by simp) (by simp) (by simp) ?_;simp;cases ok1 with
  |false=>
   simp;exact Y3 (ok:=false) (S:=S1) (fun p=>by simp) (fun p=>by simp)
  |true=>
   simp;refine Ae (EN t hw) (by simp) ?_;simp;refine Bp 1 2 (by decide) q2 (fun p=>by simp) (fun p=>by simp) (by simp) (by simp) ?_;simp;exact Y3 (ok:=ok2) (S:=S2) (fun p=>by simp) (fun p=>by simp)
end Go.Proofs.YtbjmaoedheiigaaGreat
namespace Go.Proofs.YtbjmaoedheiigaaGreat
set_option maxRecDepth 20000
open Go Go.G Go.Proofs
@[simp] theorem AiF:DB Tryz.prog 29=some 1:=by kernel_rfl
@[simp] theorem Aic:DB Tryz.prog 30=some 1:=by kernel_rfl
@[simp] theorem AiD:DB Tryz.prog 31=some 1:=by kernel_rfl
@[simp] theorem AhX:DB Tryz.prog 33=some 11:=by kernel_rfl
@[simp] theorem AiJ:DB Tryz.prog 80=some 4:=by kernel_rfl
@[simp] theorem AiE:DB Tryz.prog 89=some 12:=by kernel_rfl
@[simp] theorem AiI:DB Tryz.prog 91=some 14:=by kernel_rfl
@[simp] theorem Ag8:DQ Tryz.prog 29=some false:=by kernel_rfl
@[simp] theorem AhL:DQ Tryz.prog 30=some false:=by kernel_rfl
@[simp] theorem Af6:DQ Tryz.prog 31=some false:=by kernel_rfl
@[simp] theorem AgM:DQ Tryz.prog 33=some true:=by kernel_rfl
@[simp] theorem Ag5:DQ Tryz.prog 80=some true:=by kernel_rfl
@[simp] theorem Af1:DQ Tryz.prog 89=some true:=by kernel_rfl
@[simp] theorem AgO:DQ Tryz.prog 91=some true:=by kernel_rfl
@[simp] theorem AdH:BU Tryz.prog 80=some (Value.agg #[Value.int i64 0,Value.int IntKind.u8 0,Value.int u64 0,Value.int u64 0]):=by kernel_rfl
@[simp] theorem AcV:BU Tryz.prog 89=some (Value.agg #[Value.int i64 0,Value.int i64 0,Value.int i64 0,Value.slice none 0 0,Value.slice none 0 0,Value.int i64 0,Value.slice none 0 0,Value.slice none 0 0,Value.slice none 0 0,Value.slice none 0 0,Value.int i64 0,Value.slice none 0 0]):=by kernel_rfl
@[simp] theorem AeQ:BU Tryz.prog 91=some (Value.agg #[Value.int i64 0,Value.int i64 0,Value.slice none 0 0,Value.int i64 0,Value.int i64 0,Value.slice none 0 0,Value.slice none 0 0,Value.int i64 0,Value.slice none 0 0,Value.slice none 0 0,Value.slice none 0 0,Value.slice none 0 0,Value.int i64 0,Value.slice none 0 0]):=by kernel_rfl
@[simp] theorem AcC:Co Tryz.prog 80=some 32:=by kernel_rfl
@[simp] theorem Acj:Co Tryz.prog 89=some 208:=by kernel_rfl
@[simp] theorem Abw:Co Tryz.prog 91=some 240:=by kernel_rfl
@[simp] theorem tz:An Tryz.prog 33 0=some 0:=by kernel_rfl
@[simp] theorem tn:An Tryz.prog 33 1=some 1:=by kernel_rfl
@[simp] theorem rF:An Tryz.prog 33 2=some 4:=by kernel_rfl
@[simp] theorem r7:An Tryz.prog 33 3=some 7:=by kernel_rfl
@[simp] theorem sS:An Tryz.prog 33 4=some 8:=by kernel_rfl
@[simp] theorem rb:An Tryz.prog 33 5=some 9:=by kernel_rfl
@[simp] theorem rO:An Tryz.prog 33 6=some 10:=by kernel_rfl
@[simp] theorem uh:An Tryz.prog 89 0=some 0:=by kernel_rfl
@[simp] theorem rp:An Tryz.prog 89 1=some 1:=by kernel_rfl
@[simp] theorem uD:An Tryz.prog 91 0=some 0:=by kernel_rfl
@[simp] theorem qP:An Tryz.prog 91 2=some 2:=by kernel_rfl
@[simp] theorem sd:An Tryz.prog 91 3=some 3:=by kernel_rfl
@[simp] theorem Abb (ps:List (Nat × A)):Cc Tryz.prog 33 ps=(CI (fun i=>([(0,1),(1,3),(4,3),(7,1),(8,1),(9,1),(10,1)]:List (Nat × Nat))[i]?) [iv 0,iv 0,A.sl true [],A.sl true [],iv 0,A.sl true [],A.sl true [],A.sl true [],A.sl true [],iv 0,A.sl true []] ps).map A.agg:=by kernel_rfl
def U2:CC:=sR [bX 2 25 0 [0],oO 4 (.assign (.const (.int .u64 0)))] [1,2] (sQ [mO 5 1,bQ .lss 6 3 5 0 3,mO 7 6,mG 8 1 7 false,fG 9 25 2 1 7 false,lG 10 22 9 7 false,oG 11 (bL 10 22) 7 false,oG 12 (bO .geq 3 8 11 3) 7 false,pT 13 7 12] [1,2,13] (cD 13 (sR [oO 4 (.assign (.const (.int .u64 0)))] [4] (.ret)) (.skip)) [1,2] (sR [fO 14 25 2 1,lO 15 22 14,mO 16 1,iO 17 22 15 16,lO 18 51 17,aO 4 18] [4] (.ret)))
theorem gE:Ba Tryz.prog 115 19 [(.tmp 4)] U2:=Ap Tryz.func115
def XZ:CC:=sR [bX 2 25 0 [0],aL 4 25 [1]] [1,2,4] (sQ [mO 5 1,bQ .lss 6 3 5 0 3,mO 7 6,mG 8 1 7 false,fG 9 25 2 2 7 false,lG 10 23 9 7 false,oG 11 (bL 10 23) 7 false,oG 12 (bO .geq 3 8 11 3) 7 false,pT 13 7 12] [1,2,4,13] (cD 13 (sR [oO 14 (.build 25 #[]),sT 25 4 14] [4] (.ret)) (.skip)) [1,2,4] (sR [fO 15 25 2 2,lO 16 23 15,mO 17 1,iO 18 23 16 17,lO 19 25 18,sT 25 4 19] [4] (.ret)))
theorem jM:Ba Tryz.prog 116 20 [(.cell 4 25)] XZ:=Ap Tryz.func116
def JY:CC:=sR [bQ .lss 6 3 5 8 3] [0,3,5,6] (.seq (cD 6 (.skip) (.exit 0)) (.keep [0,3,5] (.seq (.block 1 (sR [mO 7 5,aO 4 7] [0,3,4,5] (sR [mO 8 0,mO 9 4,bB .shr 10 5 8 9 3,oO 11 (.binOp .and 5 (xT 10) (.const (.int .u8 1)) 5),oO 12 (.binOp .eql 5 (xT 11) (.const (.int .u8 1)) 5)] [0,3,4,5,12] (cD 12 (.reg [mO 13 3,mO 14 4,oO 15 (.binOp .mul 3 (nI 8) (xT 14) 3),oO 16 (.binOp .shl 51 (.const (.int .u64 255)) (xT 15) 3),bB .or 17 51 13 16 51,aO 3 17] [0,3,5]) (.skip))))) (.keep [0,3,5] (.reg [bQ .add 18 3 5 1 3,mO 5 18] [0,3,5]))))) 
def UY:CC:=sR [oO 2 (.assign (.const (.int .u64 0)))] [0] (sR [oO 3 (.assign (.const (.int .u64 0)))] [0,3] (sQ [oO 5 (.move (nI 0))] [0,3,5] (.block 0 (.loop JY)) [3] (sR [mO 19 3,aO 2 19] [2] (.ret))))
theorem du:Ba Tryz.prog 218 20 [(.tmp 2)] UY:=Ap Tryz.func218
def X8:CC:=sR [oO 6 (.assign (.const (.int .u64 0)))] [0,1,2] (sR [mO 7 0,mO 8 2,cA 9 218 8 5,bB .andNot 10 51 7 9 51,mO 11 1,mO 12 2,cA 13 218 12 5,bB .and 14 51 11 13 51,bB .or 15 51 10 14 51,aO 6 15] [6] (.ret))
theorem kr:Ba Tryz.prog 174 16 [(.tmp 6)] X8:=Ap Tryz.func174
def GZ:CC:=sR [bB .lss 16 3 15 14 3] [1,2,4,14,15,16] (.seq (cD 16 (.skip) (.exit 0)) (.keep [1,2,4,14,15] (.seq (.block 1 (sR [mO 17 15,aO 5 17] [1,2,4,5,14,15] (.reg [fO 18 25 4 1,lS 19 22 18 1,lO 20 53 1,mO 21 5,⟨some 22,(cL 150 #[(xT 20),(xT 21)] #[53,3]),none,[],4,[1],false⟩,⟨some 23,(.buildSlice 22 1 #[(0,(xT 22))]),none,[],5,[1],false⟩,aP 24 19 23 22 22 [3],fO 25 25 4 1,sT 22 25 24] [1,2,4,14,15]))) (.reg [bQ .add 26 3 15 1 3,mO 15 26] [1,2,4,14,15]))))
def GQ:CC:=sR [bB .lss 30 3 29 28 3] [1,2,4,28,29,30] (.seq (cD 30 (.skip) (.exit 2)) (.keep [1,2,4,28,29] (.seq (.block 3 (sR [mO 31 29,aO 6 31] [1,2,4,6,28,29] (sR [lO 33 53 1,mO 34 6,cB 35 194 33 34 53 3,mO 32 35,xO 36 32 0,xO 37 32 1,aL 7 53 [4],sT 53 7 36,aO 8 37] [1,2,4,7,8,28,29] (sQ [mO 38 8,bQ .neq 39 47 38 0 47] [1,2,4,7,8,28,29,39] (cD 39 (sR [oO 40 (.build 25 #[]),mO 41 8,sT 25 2 40,aO 3 41] [2,3] (.ret)) (.skip)) [1,2,4,7,28,29] (sR [lO 43 53 7,cA 44 156 43 53,mO 42 44,xO 45 42 0,xO 46 42 1,aL 9 25 [5],sT 25 9 45,aO 8 46] [1,2,4,8,9,28,29] (sQ [mO 47 8,bQ .neq 48 47 47 0 47] [1,2,4,8,9,28,29,48] (cD 48 (sR [oO 49 (.build 25 #[]),mO 50 8,sT 25 2 49,aO 3 50] [2,3] (.ret)) (.skip)) [1,2,4,9,28,29] (.reg [fO 51 25 4 2,lO 52 23 51,lO 53 25 9,oO 54 (.buildSlice 23 1 #[(0,(xT 53))]),aP 55 52 54 23 23 [6],fO 56 25 4 2,sT 23 56 55] [1,2,4,28,29]))))))) (.keep [1,2,4,28,29] (.reg [bQ .add 57 3 29 1 3,mO 29 57] [1,2,4,28,29]))))) 
def Pc:CC:=sR [bX 1 53 0 [0],aL 2 25 [1],aI 3 0] [1,2] (sR [lO 10 53 1,cA 11 95 10 53,oO 12 (.build 25 #[(0,(xT 11))]),aL 4 25 [2],sT 25 4 12] [1,2,4] (.stop (sQ [lO 13 53 1,cA 14 192 13 53,oO 15 (.move (nI 0))] [1,2,4,14,15] (.block 0 (.loop GZ)) [1,2,4] (sQ [lO 27 53 1,cA 28 137 27 53,oO 29 (.move (nI 0))] [1,2,4,28,29] (.block 2 (.loop GQ)) [2,4] (sR [lO 58 25 4,sT 25 2 58,aI 3 0] [2,3] (.ret))))))
theorem XS:Ba Tryz.prog 156 59 [(.cell 2 25),(.tmp 3)] Pc:=Ap Tryz.func156
end Go.Proofs.YtbjmaoedheiigaaGreat
