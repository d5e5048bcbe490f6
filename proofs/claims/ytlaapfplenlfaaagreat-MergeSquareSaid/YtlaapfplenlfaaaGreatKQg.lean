/-
 Texts,merged,without what is not reached.
-/
import Derived.Test.YtlaapfplenlfaaaGreatKQf
set_option linter.unusedSimpArgs false
set_option linter.unusedVariables false
open Go.IntKind (i64 u64)
namespace Go.G
open Go
structure Aci where
 B:Nat->Nat->Nat->Nm->VOb
 C:Nat->Nat->Nat->Nm->VOb
 D:Nat->Nat->Nat->Nm->VOb
 ren:∀{g:Nm->Nm} {δ:Nm->Nat} {r r' q q' t t':Nat},(∀p,g (r::p)=r'::p)->(∀p,g (q::p)=q'::p)->(∀p,g (t::p)=t'::p)->(∀p,δ (r::p)=0)->(∀p,δ (q::p)=0)->(∀p,δ (t::p)=0)->∀p,(B r q t p).ren g δ 0=B r' q' t' p/\(C r q t p).ren g δ 0=C r' q' t' p/\(D r q t p).ren g δ 0=D r' q' t' p
 refs:∀{P:Nm->Prop} {r q t:Nat},(∀p,P (r::p))->(∀p,P (q::p))->(∀p,P (t::p))->∀p,(B r q t p).ob.refs P/\(C r q t p).ob.refs P/\(D r q t p).ob.refs P
section
variable {P:Program} {K:Sta->Prop} {rest:List CO} {s:Nat->A} {H:Hp} {dd:Option Nat} {nm:Nm} {ix:Nat} {un:List Nat} {l:Bool} {lg:Lg} {g:FuncId} {aa:Array Operand} {ts:Array TypeId}
theorem jE{as':Nat->Nat->Nat->List A}{F:Aci}{x:A}(r q t:Nat)(h1:r≠q)(h2:r≠t)(h3:q≠t)
  (hx1:∀g δ,x.ren g δ=x) (hx2:∀D,x.refs D)
  (fa1:∀{g:Nm->Nm} {δ:Nm->Nat} {r r' q q' t t':Nat},(∀p,g (r::p)=r'::p)->(∀p,g (q::p)=q'::p)->(∀p,g (t::p)=t'::p)->(∀p,δ (r::p)=0)->(∀p,δ (q::p)=0)->(∀p,δ (t::p)=0)->A.renL g δ (as' r q t)=as' r' q' t')
  (fa2:∀{P:Nm->Prop} {r q t:Nat},(∀p,P (r::p))->(∀p,P (q::p))->(∀p,P (t::p))->A.refsL P (as' r q t))
  (hS:SpecH P g 3 (as' 0 1 2) (ov 0 (F.B 0 1 2) (ov 1 (F.C 0 1 2) (ov 2 (F.D 0 1 2) (Gz [])))) x (ov 0 (F.B 0 1 2) (ov 1 (F.C 0 1 2) (ov 2 (F.D 0 1 2) (Gz [])))))
  (hB:∀p,H (r::p)=F.B r q t p) (hC:∀p,H (q::p)=F.C r q t p) (hD:∀p,H (t::p)=F.D r q t p) :
  ∃E,W8 P H g (as' r q t) x E [] ([r,q,t].map fun r=>([r],true))/\E.app H=H:=by
 have hd:∀p,Pk [r,q,t] 3 H (0::p)=0:=fun p=>rfl;have hd1:∀p,Pk [r,q,t] 3 H (1::p)=0:=fun p=>rfl;have hd2:∀p,Pk [r,q,t] 3 H (2::p)=0:=fun p=>rfl;have i0:[r,q,t].idxOf r=0:=iS
 have i1:[r,q,t].idxOf q=1:=by simp[List.idxOf_cons,beq_eq_false_iff_ne.2 h1]
 have i2:[r,q,t].idxOf t=2:=by simp[List.idxOf_cons,beq_eq_false_iff_ne.2 h2,beq_eq_false_iff_ne.2 h3]
 have d0:∀p,SA [r,q,t] (r::p)=0::p:=fun p=>by simp[SA]
 have d1:∀p,SA [r,q,t] (q::p)=1::p:=fun p=>by simp[SA,i1]
 have d2:∀p,SA [r,q,t] (t::p)=2::p:=fun p=>by simp[SA,i2]
 have u0:∀p,QK [r,q,t] (0::p)=r::p:=fun p=>by simp[QK]
 have u1:∀p,QK [r,q,t] (1::p)=q::p:=fun p=>by simp[QK]
 have u2:∀p,QK [r,q,t] (2::p)=t::p:=fun p=>by simp[QK]
 have jin:∀{j:Nat},[r,q,t].idxOf j<3->j=r\/j=q\/j=t:=fun {j} hj=>by
  have:=(idx_mem (rs:=[r,q,t])).1 (by simpa using hj);simpa using this
 have key:=lZ (H:=H) (L:=as' r q t) (H':=H) [r,q,t] 3 hS (by simp[h1,h2,h3]) iS (fa1 d0 d1 d2 (fun _=>rfl) (fun _=>rfl) (fun _=>rfl)) (fa2 (fun p=>by simp[QL]) (fun p=>by simp[QL,i1]) (fun p=>by simp[QL,i2])) ?_ ?_ (hx2 _) ?_ (fun i p h1 h2=>by simp at h2;omega) ?_
 ·rw[hx1]at key;exact key
 ·funext o;cases o with
  |nil=>rfl
  |cons i p=>
   by_cases hi:i<3
   ·simp only[Ng,if_pos hi];have h01:i=0\/i=1\/i=2:=oF
    rcases h01 with rfl|rfl|rfl
    ·show(H (r::p)).ren _ _ 0=_;rw[hB];simp only[Bg,if_true];exact(F.ren d0 d1 d2 (fun _=>rfl) (fun _=>rfl) (fun _=>rfl) p).1
    ·show(H (q::p)).ren _ _ 0=_;rw[hC];simp only[Bg,if_true];rw[if_neg oF];exact(F.ren d0 d1 d2 (fun _=>rfl) (fun _=>rfl) (fun _=>rfl) p).2.1
    ·show(H (t::p)).ren _ _ 0=_;rw[hD];simp only[Bg,if_true];rw[if_neg oF,if_neg oF];exact(F.ren d0 d1 d2 (fun _=>rfl) (fun _=>rfl) (fun _=>rfl) p).2.2
   ·simp only[Ng,if_neg hi,Bg];rw[if_neg oF,if_neg oF,if_neg oF];rfl
 ·intro j p hj;have R:=F.refs (P:=QL [r,q,t] 3) (r:=r) (q:=q) (t:=t) (fun p=>by simp[QL]) (fun p=>by simp[QL,i1]) (fun p=>by simp[QL,i2]) p;rcases jin hj with rfl|rfl|rfl
  ·rw[hB];exact R.1
  ·rw[hC];exact R.2.1
  ·rw[hD];exact R.2.2
 ·intro i p hi;have hi:i<3:=hi;have R:=F.refs (P:=Hm 3) (r:=0) (q:=1) (t:=2) (fun p=>by simp[Hm]) (fun p=>by simp[Hm]) (fun p=>by simp[Hm]) p;by_cases e0:i=0
  ·subst e0;simp only[Bg,if_true];exact R.1
  ·by_cases e1:i=1
   ·subst e1;simp only[Bg,if_true];rw[if_neg oF];exact R.2.1
   ·have:i=2:=oF
    subst this;simp only[Bg,if_true];rw[if_neg oF,if_neg oF];exact R.2.2
 ·funext o;cases o with
  |nil=>rfl
  |cons j p=>
   by_cases hj:j=r
   ·subst hj;simp only[Nt,Bg,if_true];rw[if_pos iS,i0,if_pos rfl,hd,hB];exact(F.ren u0 u1 u2 hd hd1 hd2 p).1
   ·by_cases hj2:j=q
    ·subst hj2;simp only[Nt,Bg,if_true];rw[if_pos iS,i1,if_neg oF,if_pos rfl,hd1,hC];exact(F.ren u0 u1 u2 hd hd1 hd2 p).2.1
    ·by_cases hj3:j=t
     ·subst hj3;simp only[Nt,Bg,if_true];rw[if_pos iS,i2,if_neg oF,if_neg oF,if_pos rfl,hd2,hD];exact(F.ren u0 u1 u2 hd hd1 hd2 p).2.2
     ·have:¬[r,q,t].contains j=true:=by simp[hj,hj2,hj3]
      simp only[Nt,if_neg this]
theorem Wc{as':Nat->Nat->Nat->List A}{F:Aci}{x:A}{fo:Operand}{fs caps:List A}(r q t:Nat)(h1:r≠q)(h2:r≠t)(h3:q≠t)(hv0:evs s fo=.fnc g fs caps)
  (hx1:∀g δ,x.ren g δ=x) (hx2:∀D,x.refs D)
  (fa1:∀{g:Nm->Nm} {δ:Nm->Nat} {r r' q q' t t':Nat},(∀p,g (r::p)=r'::p)->(∀p,g (q::p)=q'::p)->(∀p,g (t::p)=t'::p)->(∀p,δ (r::p)=0)->(∀p,δ (q::p)=0)->(∀p,δ (t::p)=0)->A.renL g δ (as' r q t)=as' r' q' t')
  (fa2:∀{P:Nm->Prop} {r q t:Nat},(∀p,P (r::p))->(∀p,P (q::p))->(∀p,P (t::p))->A.refsL P (as' r q t))
  (hS:SpecH P g 3 (as' 0 1 2) (ov 0 (F.B 0 1 2) (ov 1 (F.C 0 1 2) (ov 2 (F.D 0 1 2) (Gz [])))) x (ov 0 (F.B 0 1 2) (ov 1 (F.C 0 1 2) (ov 2 (F.D 0 1 2) (Gz [])))))
  (hB:∀p,H (r::p)=F.B r q t p) (hC:∀p,H (q::p)=F.C r q t p) (hD:∀p,H (t::p)=F.D r q t p) (ha:fs++(aa.toList.map (evs s)++caps)=as' r q t) (hck:Ck un lg ⟨[([r],true),([q],true),([t],true)],[]⟩)
  (h:AB P K rest (B9 l ix ⟨[([r],true),([q],true),([t],true)],[]⟩ lg) (Sta.put ⟨s,H⟩ dd x H)) :
  AB P K (⟨dd,.call { callee:=.value fo,args:=aa,argTypes:=ts },none,nm,ix,un,l⟩::rest) lg ⟨s,H⟩:=by
 refine X4 hv0 ha .nil [([r],true),([q],true),([t],true)] [] (fun H2 hag=>?_) (fun o H2 ho=>rfl) hck h;have e1:∀p,H2 (r::p)=F.B r q t p:=fun p=>by rw[hag (r::p) (by simp[VN,R6,List.isPrefixOf]),hB]
 have e2:∀p,H2 (q::p)=F.C r q t p:=fun p=>by rw[hag (q::p) (by simp[VN,R6,List.isPrefixOf]),hC]
 have e3:∀p,H2 (t::p)=F.D r q t p:=fun p=>by rw[hag (t::p) (by simp[VN,R6,List.isPrefixOf]),hD]
 obtain⟨E,hc,hE⟩:=jE r q t h1 h2 h3 hx1 hx2 fa1 fa2 hS e1 e2 e3;have hc3:Tk P H2 g (as' r q t) x E:=by
  rcases hc with ⟨_,_,_,_,h5⟩|⟨_,_,_,h4⟩|⟨h1,_⟩
  ·cases h5
  ·cases h4
  ·exact h1 H2 (fun o _=>rfl)
 refine⟨hc3.1,fun c w I μ vs a b d e=>?_⟩;have:=hc3.2 c w I μ vs a b d e;rw[hE]at this;exact this
end
end Go.G
namespace Go.Proofs.YtlaapfplenlfaaaGreat
open Go Go.G Go.Proofs Go.PL
abbrev Sm(x:Bool × List T):A:=.sl x.1 (x.2.map tA)
def Tg(v w:Nat)(C:List Cf)(at':Di)(o:T)(n vo:Nat)(out:List T)(m h:Bool × List T)(vs:Nat):Rd:=⟨fun r _=>(Ps v w C).F r,fun r q p=>if p=[]then ⟨vs,.cells [.pob [r] v 0,D3 at',iv o.kind,Fu o.words,B7 o.kids,iv n,.osl [q,0] vo 3 0 out.length,Sm m,Sm h]⟩else if p=[0]then ⟨vo,.arr 3 (out.map tA)⟩else ⟨0,.none⟩,fun {g δ r r' q q'} h1 h2 h3 h4 p=>by
  refine⟨(Ps v w C).ren h1 h2 p,?_⟩;by_cases hp:p=[]
  ·simp only[if_pos hp];exact Fam.cells_ren (by simp[A.renL,A.ren,h1,h2,h3,h4])
  ·by_cases hp2:p=[0]
   ·simp only[if_neg hp,if_pos hp2];refine Fam.arr_ren ?_;simp only[Cu,List.map_map];exact List.map_congr_left fun x _=>by simp[A.ren,A.renL]
   ·simp only[if_neg hp,if_neg hp2];rfl,fun {D r q} h1 h2 p=>by
  refine⟨(Ps v w C).refs h1 p,?_⟩;by_cases hp:p=[]
  ·simp only[if_pos hp];simp[Ob.refs,A.refsL,A.refs,h1,h2]
  ·by_cases hp2:p=[0]
   ·simp only[if_neg hp,if_pos hp2,Ob.refs,refsL_iff];intro y hy;obtain⟨x,_,rfl⟩:=List.mem_map.1 hy;simp[A.refs,A.refsL]
   ·simp only[if_neg hp,if_neg hp2];trivial⟩
@[simp]theorem Al5{v w:Nat}{C:List Cf}{at':Di}{o:T}{n vo:Nat}{out:List T}{m h:Bool × List T}{vs r q:Nat}{p:Nm}:(Tg v w C at' o n vo out m h vs).B r q p=(Ps v w C).F r p:=rfl
@[simp]theorem Al1{v w:Nat}{C:List Cf}{at':Di}{o:T}{n vo:Nat}{out:List T}{m h:Bool × List T}{vs r q:Nat}{p:Nm}:(Tg v w C at' o n vo out m h vs).C r q p=if p=[]then ⟨vs,.cells [.pob [r] v 0,D3 at',iv o.kind,Fu o.words,B7 o.kids,iv n,.osl [q,0] vo 3 0 out.length,Sm m,Sm h]⟩else if p=[0]then ⟨vo,.arr 3 (out.map tA)⟩else ⟨0,.none⟩:=rfl
def iC(S:Rd)(vs:Nat):Aci:=⟨fun r q t p=>if p=[]then ⟨1,.cells [.pob [q] vs 0]⟩else ⟨0,.none⟩,fun r q t p=>S.C t q p,fun r q t p=>S.B t q p,fun {g δ r r' q q' t t'} h1 h2 h3 d1 d2 d3 p=>by
  refine⟨?_,(S.ren h3 d3 h2 d2 p).2,(S.ren h3 d3 h2 d2 p).1⟩;by_cases hp:p=[]
  ·simp only[if_pos hp];exact Fam.cells_ren (by simp[A.renL,A.ren,h2,d2])
  ·simp only[if_neg hp];rfl,fun {D r q t} h1 h2 h3 p=>by
  refine⟨?_,(S.refs h3 h2 p).2,(S.refs h3 h2 p).1⟩;by_cases hp:p=[]
  ·simp only[if_pos hp];simp[Ob.refs,A.refsL,A.refs,h2]
  ·simp only[if_neg hp];trivial⟩
@[simp]theorem AlX{S:Rd}{vs r q t:Nat}{p:Nm}:(iC S vs).B r q t p=if p=[]then ⟨1,.cells [.pob [q] vs 0]⟩else ⟨0,.none⟩:=rfl
@[simp]theorem Al9{S:Rd}{vs r q t:Nat}{p:Nm}:(iC S vs).C r q t p=S.C t q p:=rfl
@[simp]theorem Ame{S:Rd}{vs r q t:Nat}{p:Nm}:(iC S vs).D r q t p=S.B t q p:=rfl
theorem Sv{v w:Nat}{C:List Cf}{at':Di}{o:T}{n vo:Nat}{out:List T}{m h:Bool × List T}{vs:Nat}(b:Bool)(l:List T) :
  SpecH Tryz.prog 134 3 [.sl b (l.map tA),.pob [0] 1 0] (ov 0 ((iC (Tg v w C at' o n vo out m h vs) vs).B 0 1 2) (ov 1 ((iC (Tg v w C at' o n vo out m h vs) vs).C 0 1 2) (ov 2 ((iC (Tg v w C at' o n vo out m h vs) vs).D 0 1 2) (Gz [])))) (tX (.mk o.kind [] l)) (ov 0 ((iC (Tg v w C at' o n vo out m h vs) vs).B 0 1 2) (ov 1 ((iC (Tg v w C at' o n vo out m h vs) vs).C 0 1 2) (ov 2 ((iC (Tg v w C at' o n vo out m h vs) vs).D 0 1 2) (Gz [])))):=by
 refine OI Pa iS fun w0 I0 M0 m0 hM=>?_;unfold Jz;simp;generalize hH:ov 0 ((iC (Tg v w C at' o n vo out m h vs) vs).B 0 1 2) (ov 1 ((iC (Tg v w C at' o n vo out m h vs) vs).C 0 1 2) (ov 2 ((iC (Tg v w C at' o n vo out m h vs) vs).D 0 1 2) (Gz [([3],⟨1,.cells [iv o.kind,.sl true [],.sl b (l.map tA)]⟩)])))=H;have h3:H [3]=⟨1,.cells [iv o.kind,.sl true [],.sl b (l.map tA)]⟩:=by rw[<-hH];simp
 obtain⟨H2,g1,g2⟩:=G7 (c:=DC Tryz.prog w0 I0 M0 11 m0) (s:=lk [(3,.pob [3] 1 0)]) (H:=H) (fun _=>False) (fun _ _ _ h=>h.elim) (r0:=3) (p0:=[]) iS h3 (cs':=Zx (.mk o.kind [] l)) (by simp[A.ones]) (fun H1 _=>⟨Ae rfl,Am,Am,trivial⟩);refine Gp g1 (WR (r0:=tX (.mk o.kind [] l)) (by simp[Et]) rfl fun i p hi=>?_);have e1:=g2 i p iS;dsimp only;rw[AI (by simp;omega),e1,<-hH];by_cases e0:i=0
 ·subst e0;simp
 ·by_cases e1:i=1
  ·subst e1;simp
  ·have:i=2:=oF
   subst this;simp
theorem Aca{l m:List T}:(decide (l.length=m.length)&&(l.zip m).all fun p=>J2 p.1 p.2)=true↔l.map Af=m.map Af:=by
 induction l generalizing m with
 |nil=>cases m<;>simp
 |cons x l ih=>
  cases m with
  |nil=>simp
  |cons y m=>
   have:=ih (m:=m);simp only[Bool.and_eq_true,decide_eq_true_eq]at this ⊢;rw[List.zip_cons_cons,List.all_cons,Bool.and_eq_true,List.map_cons,List.map_cons,List.cons.injEq,<-this,eqT_iff];simp only[List.length_cons,Nat.add_right_cancel_iff];constructor
   ·rintro⟨a,b,c⟩;exact⟨b,a,c⟩
   ·rintro⟨b,a,c⟩;exact⟨a,b,c⟩
noncomputable def Nx(l m:List T):Bool:=decide (l.length=m.length)&&(l.zip m).all fun p=>J2 p.1 p.2
theorem eqLs_iff{l m:List T}:Nx l m=true↔l.map Af=m.map Af:=Aca
theorem YX{l m:List T}(he:l.length=m.length):Nx l m=true↔∀k,k<l.length->J2 (l.getD k T0) (m.getD k T0)=true:=by
 rw[eqLs_iff];constructor
 ·intro h k hk;have:=congrArg (fun x=>x.getD k T0) h;simp only[Fv]at this;exact eqT_iff.2 this
 ·intro h;refine List.ext_getElem (by simp[he]) fun k h1 h2=>?_;have hk:k<l.length:=by simpa using h1
  have hk2:k<m.length:=oF
  have:=eqT_iff.1 (h k hk);simpa[hk,hk2]using this
variable {n0:Nat} {w0:World} {I0:Nat->Prop} {Q:Exit->Sta->Prop}
theorem Ac8{l m:List T}(hl:∀t,t∈l->AE t)(hm:∀t,t∈m->AE t)(he:l.length=m.length)(hb:l.length<=10000000000000)(hq:Nx l m=true->∀st H,Q (.exit 0) ⟨lk ([(1,B7 m),(2,.fnc 57 [] [])]++st),H⟩)(hf:Nx l m=false->∀H,Q .ret ⟨lk [(6,bv false)],H⟩):∀(j i:Nat)(H:Hp),i+j=l.length->(∀k,k<i->J2 (l.getD k T0) (m.getD k T0)=true) ->
  LoopC (cx Tryz.prog w0 I0 n0) Al Q ⟨lk [(1,B7 m),(2,.fnc 57 [] []),(15,B7 l),(16,iv l.length),(17,iv i)],H⟩:=by
 intro j;induction j with
 |zero=>
  intro i H hj hp;have:i=l.length:=oF
  subst this;refine Ad Ai Al.eq_1 ?_;simp;have:=hq ((YX he).2 hp) [(15,B7 l),(16,iv l.length),(17,iv l.length),(18,bv false)] H;simpa using this
 |succ j ih=>
  intro i H hj hp;have h1:i<l.length:=oF
  have h2:i<m.length:=oF
  have ew:=AR i;have E:=Jf (hl _ (De h1)) (hm _ (De h2));have eg:J2 (l.getD i T0) (m.getD i T0)=J2 l[i] m[i]:=by simp[h1,h2]
  refine Ad Ai Al.eq_1 ?_;cases hc:J2 l[i] m[i] with
  |true=>
   rw[hc]at E;simp[h1,h2,Aa];refine GJ rfl E iS ?_;simp[ew];refine ih (i+1) _ oF fun k hk=>?_;by_cases e:k=i
   ·subst e;rw[eg,hc]
   ·exact hp k oF
  |false=>
   rw[hc]at E;simp[h1,h2,Aa];refine GJ rfl E iS ?_;simp[ew];refine hf ?_ _;cases hx:Nx l m with
   |false=>rfl
   |true=>
    have:=(YX he).1 hx i h1;rw[eg,hc]at this;cases this
theorem Vf{l m:List T}(hl:∀t,t∈l->AE t)(hm:∀t,t∈m->AE t)(hb:l.length<=10000000000000):G.Spec Tryz.prog 126 [B7 l,B7 m,.fnc 57 [] []] (bv (Nx l m)):=by
 refine Ak BJ iS fun w0 I0=>?_;unfold A4;by_cases he:l.length=m.length
 ·simp[he];refine LoopC.le (Ar [(1,B7 m),(2,.fnc 57 [] []),(15,B7 l),(16,iv l.length),(17,iv (0:Nat))] (by simp[he])) ?_;refine Ac8 hl hm he hb (fun hx st H=>?_) (fun hx H=>?_) l.length 0 _ oF (fun k hk=>oF)
  ·rw[hx];simp;exact Ae rfl
  ·rw[hx];simp;exact Ae rfl
 ·have hx:Nx l m=false:=by
   cases hx:Nx l m with
   |false=>rfl
   |true=>exact absurd (by simpa using congrArg List.length (eqLs_iff.1 hx)) he
  have hi:¬((l.length:Int)=m.length):=oF
  rw[hx];simp[he,hi];exact Ae rfl
noncomputable def HV(mine hers:List T):Option (List T):=if mine=[]then some hers else if Nx mine hers=true then some hers else if hers=[]then some mine else none
noncomputable def VQ(mine hers:List T):Nat:=if (HV mine hers).isSome=true then 1 else 0
theorem kk(at':Di)(kind:Int)(n:Nat)(mine hers:List T):(∀l,HV mine hers=some l->Fx at' kind n mine hers=(l.map Af,[]))/\(HV mine hers=none->Fx at' kind n mine hers=([],[⟨at'++[(2,(n:Int))],Af (.mk kind [] []),Af (.mk kind [] mine),Af (.mk kind [] hers)⟩])):=by
 unfold HV Fx;by_cases h1:mine=[]
 ·simp[h1]
 ·by_cases h2:Nx mine hers=true
  ·simp[h1,h2,eqLs_iff.1 h2]
  ·have h2':¬mine.map Af=hers.map Af:=fun h=>h2 (eqLs_iff.2 h);by_cases h3:hers=[]
   ·subst h3;simp[h1,h2,h2']
   ·simp[h1,h2,h2',h3]
theorem Zj{v w:Nat}{C:List Cf}{at':Di}{o:T}{n vo:Nat}{out mine hers:List T}{vs:Nat}(hm:∀t,t∈mine->AE t)(hh:∀t,t∈hers->AE t)(wo:BD o.kind)(lm:mine.length<=1000000)(lh:hers.length<=1000000)(lo:out.length<=1000000000)(hat:at'.length<=900000)(hC:C.length<=100000000000) :
  Hv Tryz.prog 87 (fun r q=>[.pob [q] vs 0]) (Tg v w C at' o n vo out (false,mine) (false,hers) vs) (fun _ _=>.tup []) (Tg v w (C++(Fx at' o.kind n mine hers).2) at' o n (vo+VQ mine hers) (out++(HV mine hers).getD []) (true,[]) (true,[]) vs):=by
 have E:=Vf hm hh oF;have G:=kk at' o.kind n mine hers;have hml:(mine.length:Int)=0↔mine=[]:=by rw[<-List.length_eq_zero_iff];omega
 have hhl:(hers.length:Int)=0↔hers=[]:=by rw[<-List.length_eq_zero_iff];omega
 refine BZ QZ iS (Av (GR Aq) C5) (AL (Ay Ah)) fun w0 I0 M0 m0=>?_;unfold KG;by_cases h1:mine=[]
 ·have hR:HV mine hers=some hers:=if_pos h1;rw[G.1 _ hR,VQ,hR];subst h1;simp;refine BP rfl ?_;simp[Aa,splice];refine⟨oF,?_⟩;refine Bf rfl rfl (fun p=>?_) (fun p=>?_)
  ·simp[Aa]
  ·by_cases p1:p=[]
   ·subst p1;simp[Aa]
   ·by_cases p2:p=[0]
    ·subst p2;simp[Aa,AO]
    ·simp[Aa,p1,p2]
 ·have hml':¬(mine.length:Int)=0:=fun h=>h1 (hml.1 h);by_cases h2:Nx mine hers=true
  ·have hR:HV mine hers=some hers:=by rw[HV,if_neg h1,if_pos h2]
   rw[G.1 _ hR,VQ,hR];rw[h2]at E;simp[h1,hml'];rw[AW];simp[h1,hml'];refine Ag E iS ?_;simp[Aa,splice];refine⟨oF,?_⟩;refine Bf rfl rfl (fun p=>?_) (fun p=>?_)
   ·simp[Aa]
   ·by_cases p1:p=[]
    ·subst p1;simp[Aa]
    ·by_cases p2:p=[0]
     ·subst p2;simp[Aa,AO]
     ·simp[Aa,p1,p2]
  ·have h2f:Nx mine hers=false:=by
    cases h:Nx mine hers with
    |false=>rfl
    |true=>exact absurd h h2
   rw[h2f]at E;by_cases h3:hers=[]
   ·have hR:HV mine hers=some mine:=by rw[HV,if_neg h1,if_neg h2,if_pos h3]
    rw[G.1 _ hR,VQ,hR];subst h3;simp[h1,hml'];rw[AW];simp[h1,hml'];refine Ag E iS ?_;simp[Aa,splice];refine⟨oF,?_⟩;refine Bf rfl rfl (fun p=>?_) (fun p=>?_)
    ·simp[Aa]
    ·by_cases p1:p=[]
     ·subst p1;simp[Aa]
     ·by_cases p2:p=[0]
      ·subst p2;simp[Aa,AO]
      ·simp[Aa,p1,p2]
   ·have hR:HV mine hers=none:=by rw[HV,if_neg h1,if_neg h2,if_neg h3]
    have hhl':¬(hers.length:Int)=0:=fun h=>h3 (hhl.1 h);rw[G.2 hR,VQ,hR];have F:=JH at' 2 n oF;simp[h1,hml'];rw[AW];simp[h1,hml'];refine Ag E iS ?_;simp[Aa,h3,hhl'];refine Ag F iS ?_;simp;have B1:=Sv (v:=v) (w:=w) (C:=C) (at':=at') (o:=o) (n:=n) (vo:=vo) (out:=out) (m:=(false,mine)) (h:=(false,hers)) (vs:=vs) true [];have B2:=Sv (v:=v) (w:=w) (C:=C) (at':=at') (o:=o) (n:=n) (vo:=vo) (out:=out) (m:=(false,mine)) (h:=(false,hers)) (vs:=vs) false mine;have B3:=Sv (v:=v) (w:=w) (C:=C) (at':=at') (o:=o) (n:=n) (vo:=vo) (out:=out) (m:=(false,mine)) (h:=(false,hers)) (vs:=vs) false hers;have wf1:∀l:List T,(∀t,t∈l->AE t)->l.length<=1000000->AE (.mk o.kind [] l):=fun l h1 h2=>wfT_iff.2 ⟨wo,iS,iS,by show l.length*56<=_;omega,h1⟩;have CL:=Qs (l:=at'++[(2,(n:Int))]) (b:=.mk o.kind [] []) (o:=.mk o.kind [] mine) (t:=.mk o.kind [] hers) (by simp;omega) (wf1 [] (fun t ht=>nomatch ht) iS) (wf1 mine hm lm) (wf1 hers hh lh) v w hC;have hB:∀p,(ov 0 ((Tg v w C at' o n vo out (false,mine) (false,hers) vs).B 0 1) (ov 1 ((Tg v w C at' o n vo out (false,mine) (false,hers) vs).C 0 1) (Gz [([2],⟨1,.cells [.pob [1] vs 0]⟩)]))) (2::p)=(iC (Tg v w C at' o n vo out (false,mine) (false,hers) vs) vs).B 2 1 0 p:=fun p=>by
     by_cases hp:p=[]
     ·subst hp;simp
     ·simp[hp,Gz,Ne.symm hp]
    have fa1:∀(b:Bool)(l:List T){g:Nm->Nm}{δ:Nm->Nat}{r r' q q' t t':Nat},(∀p,g (r::p)=r'::p)->(∀p,g (q::p)=q'::p)->(∀p,g (t::p)=t'::p)->(∀p,δ (r::p)=0)->(∀p,δ (q::p)=0)->(∀p,δ (t::p)=0)->A.renL g δ [.sl b (l.map tA),.pob [r] 1 0]=[.sl b (l.map tA),.pob [r'] 1 0]:=fun b l _ _ _ _ _ _ _ _ h1 _ _ d1 _ _=>by simp[A.renL,A.ren,h1,d1]
    have fa2:∀(b:Bool)(l:List T){P:Nm->Prop}{r q t:Nat},(∀p,P (r::p))->(∀p,P (q::p))->(∀p,P (t::p))->A.refsL P [.sl b (l.map tA),.pob [r] 1 0]:=fun b l _ _ _ _ h1 _ _=>by simp[A.refsL,A.refs,h1]
    refine Wc (as':=fun r q t=>[.sl true [],.pob [r] 1 0]) (F:=iC (Tg v w C at' o n vo out (false,mine) (false,hers) vs) vs) (fs:=[]) (caps:=[.pob [2] 1 0]) 2 1 0 dO dO dO iS (fun g δ=>by simp[A.ren,A.renL]) (fun D=>by simp[A.refs,A.refsL]) (fa1 true []) (fa2 true []) B1 hB (fun p=>iS) (fun p=>iS) iS iS ?_;simp;refine Wc (as':=fun r q t=>[.sl false (mine.map tA),.pob [r] 1 0]) (F:=iC (Tg v w C at' o n vo out (false,mine) (false,hers) vs) vs) (fs:=[]) (caps:=[.pob [2] 1 0]) 2 1 0 dO dO dO iS (fun g δ=>by simp[A.ren,A.renL]) (fun D=>by simp[A.refs,A.refsL]) (fa1 false mine) (fa2 false mine) B2 hB (fun p=>iS) (fun p=>iS) iS iS ?_;simp;refine Wc (as':=fun r q t=>[.sl false (hers.map tA),.pob [r] 1 0]) (F:=iC (Tg v w C at' o n vo out (false,mine) (false,hers) vs) vs) (fs:=[]) (caps:=[.pob [2] 1 0]) 2 1 0 dO dO dO iS (fun g δ=>by simp[A.ren,A.renL]) (fun D=>by simp[A.refs,A.refsL]) (fa1 false hers) (fa2 false hers) B3 hB (fun p=>iS) (fun p=>iS) iS iS ?_;simp;refine Ap 0 CL (fun p=>iS) iS (by simp[List.isPrefixOf]) ?_;simp[Aa,splice];refine Bf rfl rfl (fun p=>?_) (fun p=>?_)
    ·simp[Aa]
    ·by_cases p1:p=[]
     ·subst p1;simp[Aa]
     ·by_cases p2:p=[0]
      ·subst p2;simp[Aa]
      ·simp[Aa,p1,p2]
def iG(e:E)(t:T):Prop:=G.Spec Tryz.prog 54 [eX e,tX t] (tX (JG e t))/\AE (JG e t)/\Af (JG e t)=JG e t
theorem Rm:Af T0=T0:=rfl
def UtS(f:Nat)(at':Di)(o:T)(n:Nat)(p q:OP)(us:List T)(cs:List Cf):Prop:=∀(v w:Nat)(C:List Cf)(vo:Nat)(out:List T)(vs:Nat),C.length+cs.length<=100000000000->out.length<=1000000000 ->
 Hv Tryz.prog 88 (fun r q'=>[.pob [q'] vs 0,oX p,oX q]) (Tg v w C at' o n vo out (true,[]) (true,[]) vs) (fun _ _=>.tup []) (Tg v w (C++cs) at' o (n+1) (vo+us.length) (out++us) (true,[]) (true,[]) vs)
theorem iI{f:Nat}{at':Di}(hat:at'.length<=900000){o:T}(wo:AE o){n:Nat}(hn:n<o.kids.length)(hn2:n<=1000000000){p q:OP}(hp:(p.kind=0/\p.e=E0)\/(p.kind=1/\p.e=E0)\/(p.kind=3/\iG p.e o.kids[n]))(hq:(q.kind=0/\q.e=E0)\/(q.kind=1/\q.e=E0)\/(q.kind=3/\iG q.e o.kids[n])){u:T}(hu:uI f (at'++[(0,(n:Int))]) o.kids[n] p.e q.e u) :
  ∃us,(∀t,t∈us->AE t)/\us.length<=1/\us.map Af=(B6 (mg f) (at'++[(0,(n:Int))]) o.kids[n] (Il p) (Il q)).1/\UtS f at' o n p q us (B6 (mg f) (at'++[(0,(n:Int))]) o.kids[n] (Il p) (Il q)).2:=by
 have wk:AE o.kids[n]:=(wfT_iff.1 wo).ks _ (De hn);have F:=JH at' 0 n oF;have ew:=AR n;by_cases a1:p.kind=1/\q.kind=3
 ·have e1:Il p=.del T0:=by unfold Il;rw[if_neg oF,if_pos a1.1]
  have e2:Il q=.desc q.e:=by unfold Il;rw[if_neg oF,if_neg oF]
  have D:iG q.e o.kids[n]:=by
   rcases hq with h|h|h
   ·omega
   ·omega
   ·exact h.2
  rw[e1,e2];refine⟨[o.kids[n]],fun t ht=>by rw[List.mem_singleton.1 ht];exact wk,iS,rfl,fun v w C vo out vs hC ho=>?_⟩;have CL:=Ny (l:=at'++[(0,(n:Int))]) (b:=o.kids[n]) (o:=T0) (t:=JG q.e o.kids[n]) true false (by simp;omega) wk mS D.2.1 v w (C:=C) (by simp[B6]at hC;omega);rw[Rm,D.2.2]at CL;have D1:=D.1;simp only[B6];refine BZ FB iS (Av (GR Aq) (Av (AL (F8 p)) (Av (AL (F8 q)) C5))) (AL (Ay Ah)) fun w0 I0 M0 m0=>?_;unfold Ec;simp[hn];refine Ag F iS ?_;simp[a1.1,a1.2,Aa];refine Ag D1 iS ?_;simp;refine Ap 0 CL (fun p=>iS) iS (by simp[List.isPrefixOf]) ?_;simp[Aa,splice];refine⟨oF,oF,?_⟩;refine Bf rfl rfl (fun p=>?_) (fun p=>?_)
  ·simp[Aa]
  ·by_cases p1:p=[]
   ·subst p1;simp[Aa,ew]
   ·by_cases p2:p=[0]
    ·subst p2;simp[Aa,AO]
    ·simp[Aa,p1,p2]
 by_cases a2:p.kind=3/\q.kind=1
 ·have e1:Il q=.del T0:=by unfold Il;rw[if_neg oF,if_pos a2.2]
  have e2:Il p=.desc p.e:=by unfold Il;rw[if_neg oF,if_neg oF]
  have D:iG p.e o.kids[n]:=by
   rcases hp with h|h|h
   ·omega
   ·omega
   ·exact h.2
  rw[e1,e2];refine⟨[o.kids[n]],fun t ht=>by rw[List.mem_singleton.1 ht];exact wk,iS,rfl,fun v w C vo out vs hC ho=>?_⟩;have CL:=Ny (l:=at'++[(0,(n:Int))]) (b:=o.kids[n]) (o:=JG p.e o.kids[n]) (t:=T0) false true (by simp;omega) wk D.2.1 mS v w (C:=C) (by simp[B6]at hC;omega);rw[Rm,D.2.2]at CL;have D1:=D.1;simp only[B6];refine BZ FB iS (Av (GR Aq) (Av (AL (F8 p)) (Av (AL (F8 q)) C5))) (AL (Ay Ah)) fun w0 I0 M0 m0=>?_;unfold Ec;simp[hn];refine Ag F iS ?_;simp[a2.1,a2.2,Aa];refine Ag D1 iS ?_;simp;refine Ap 0 CL (fun p=>iS) iS (by simp[List.isPrefixOf]) ?_;simp[Aa,splice];refine⟨oF,oF,?_⟩;refine Bf rfl rfl (fun p=>?_) (fun p=>?_)
  ·simp[Aa]
  ·by_cases p1:p=[]
   ·subst p1;simp[Aa,ew]
   ·by_cases p2:p=[0]
    ·subst p2;simp[Aa,AO]
    ·simp[Aa,p1,p2]
 by_cases a3:p.kind=1\/q.kind=1
 ·have hM:B6 (mg f) (at'++[(0,(n:Int))]) o.kids[n] (Il p) (Il q)=([],[]):=by
   rcases hp with h|h|h<;>rcases hq with g|g|g<;>(try omega)<;>simp[Il,h.1,g.1,B6]
  rw[hM];refine⟨[],(fun t ht=>by simp at ht),iS,rfl,fun v w C vo out vs hC ho=>?_⟩;refine BZ FB iS (Av (GR Aq) (Av (AL (F8 p)) (Av (AL (F8 q)) C5))) (AL (Ay Ah)) fun w0 I0 M0 m0=>?_;unfold Ec;simp[hn];refine Ag F iS ?_;by_cases b1:p.kind=1
  ·have b2:¬q.kind=3:=fun h=>a1 ⟨b1,h⟩;simp[b1,b2,Aa];refine Bf rfl rfl (fun p=>?_) (fun p=>?_)
   ·simp[Aa]
   ·by_cases p1:p=[]
    ·subst p1;simp[Aa,ew]
    ·simp[Aa,p1]
  ·have b2:q.kind=1:=oF
   have b3:¬p.kind=3:=fun h=>a2 ⟨h,b2⟩;simp[b1,b2,b3,Aa];refine Bf rfl rfl (fun p=>?_) (fun p=>?_)
   ·simp[Aa]
   ·by_cases p1:p=[]
    ·subst p1;simp[Aa,ew]
    ·simp[Aa,p1]
 ·have b1:¬p.kind=1:=fun h=>a3 (.inl h);have b2:¬q.kind=1:=fun h=>a3 (.inr h);have hM:B6 (mg f) (at'++[(0,(n:Int))]) o.kids[n] (Il p) (Il q)=([(mg f (at'++[(0,(n:Int))]) o.kids[n] p.e q.e).1],(mg f (at'++[(0,(n:Int))]) o.kids[n] p.e q.e).2):=by
   rcases hp with h|h|h<;>rcases hq with g|g|g<;>(try omega)
   ·rw[h.2,g.2];simp[Il,h.1,g.1,B6,eU]
   ·rw[h.2];simp[Il,h.1,g.1,B6,eU]
   ·rw[g.2];simp[Il,h.1,g.1,B6,eU]
   ·simp[Il,h.1,g.1,B6,eU]
  obtain⟨u1,u2,u3⟩:=hu;rw[hM];refine⟨[u],fun t ht=>by rw[List.mem_singleton.1 ht];exact u1,iS,by simp[u2],fun v w C vo out vs hC ho=>?_⟩;have S:=u3 v w C hC;refine BZ FB iS (Av (GR Aq) (Av (AL (F8 p)) (Av (AL (F8 q)) C5))) (AL (Ay Ah)) fun w0 I0 M0 m0=>?_;unfold Ec;simp[hn];refine Ag F iS ?_;simp[b1,b2,Aa];refine Ap 0 S (fun p=>iS) iS (by simp[List.isPrefixOf]) ?_;simp[Aa,splice];refine⟨oF,oF,?_⟩;refine Bf rfl rfl (fun p=>?_) (fun p=>?_)
  ·simp[Aa]
  ·by_cases p1:p=[]
   ·subst p1;simp[Aa,ew]
   ·by_cases p2:p=[0]
    ·subst p2;simp[Aa,AO]
    ·simp[Aa,p1,p2]
end Go.Proofs.YtlaapfplenlfaaaGreat
namespace Go.G
open Go
theorem WL{c:Cx}{s:Nat->A}{H:Hp}(R:Nat->Prop)[DecidablePred R](hM:∀r p b,R r->¬c.M0 (r::p) b){r0:Nat}{p0:Nm}(hr0:¬R r0){u:Nat}{cs cs':List A}(hd:H (r0::p0)=⟨u,.cells cs⟩)(h1:A.ones cs'=true)
  (hf:∀H1:Hp,(∀r p,R r->H1 (r::p)=H (r::p))->cs.length=cs'.length/\∀(k:Nat)(x y:A),cs[k]? = some x->cs'[k]? = some y->y=x\/Jl H1 x y) :
  ∃H2:Hp,Le c ⟨s,H⟩ ⟨s,AK H2 (r0::p0) ⟨u,.cells cs'⟩⟩/\∀r p,¬R r->H2 (r::p)=H (r::p):=by
 refine⟨fun o=>match o with|r::p=>if R r then ⟨(H (r::p)).u,.none⟩else H (r::p)|[]=>H [],fun a w I μ hs=>?_,fun r p h=>if_neg h⟩;have part1:Part H (fun o=>match o with|r::p=>if R r then H (r::p)else ⟨(H (r::p)).u,.none⟩|[]=>⟨(H []).u,.none⟩):=fun o=>by
  cases o with
  |nil=>exact .inr rfl
  |cons r p=>
   by_cases hr:R r
   ·exact .inl (by simp[hr])
   ·exact .inr (by simp[hr])
 have part2:Part H (fun o=>match o with|r::p=>if R r then ⟨(H (r::p)).u,.none⟩else H (r::p)|[]=>H []):=fun o=>by
  cases o with
  |nil=>exact .inl rfl
  |cons r p=>
   by_cases hr:R r
   ·exact .inr (by simp[hr])
   ·exact .inl (by simp[hr])
 have h3:=hs.sim.freezeAll part1 part2 (fun o=>by
  cases o with
  |nil=>exact .inl rfl
  |cons r p=>
   by_cases hr:R r
   ·exact .inr (by simp[hr])
   ·exact .inl (by simp[hr])) (fun o b h=>by
  cases o with
  |nil=>exact absurd rfl h
  |cons r p=>
   by_cases hr:R r
   ·exact hM r p b hr
   ·exact absurd (by simp[hr]) h)
 have hd2:(fun o=>match o with|r::p=>if R r then (⟨(H (r::p)).u,.none⟩:VOb)else H (r::p)|[]=>H []:Hp) (r0::p0)=⟨u,.cells cs⟩:=by
  show(if R r0 then _ else _)=_;rw[if_neg hr0,hd]
 have hob:=hs.sim.ob (r0::p0);have hob:OSim w I μ (μ (r0::p0)) (.cells cs):=by
  have e:(⟨s,H⟩:Sta).H (r0::p0)=⟨u,.cells cs⟩:=hd;rw[e]at hob;exact hob
 obtain⟨vs,k1,k2,k3⟩:=hob;obtain⟨hl,hg⟩:=(hf (fun o=>match o with|r::p=>if R r then H (r::p)else ⟨(H (r::p)).u,.none⟩|[]=>⟨(H []).u,.none⟩) fun r p h=>if_pos h);have hB:Es (μ (r0::p0)) ((fun o=>match o with|r::p=>if R r then (⟨(H (r::p)).u,.none⟩:VOb)else H (r::p)|[]=>H []:Hp) (r0::p0)).ob=true:=by rw[hd2];rfl
 obtain⟨hx2,hs2⟩:=h3.upd (EX w none) (r0::p0) (μ (r0::p0)) (.cells cs') (.inl rfl) (.inr rfl) (fun _=>.inr ⟨hB,rfl⟩) (fun _=>h3.tag _ hB) (fun hx2=>by
  refine⟨vs,k1,by rw[k2,hl],fun k y hk=>?_⟩;rw[D5];have hlt:k<cs.length:=by have:=(List.getElem?_eq_some_iff.1 hk).1;omega
  have hx:cs[k]? = some cs[k]:=List.getElem?_eq_getElem hlt;simp only[A.ones,List.all_eq_true]at h1;refine⟨h1 y (List.mem_of_getElem? hk),?_⟩;rcases hg k _ y hx hk with e|hfx
  ·rw[e];exact(k3 k _ hx).2.mono0 (fun b h=>.inl h) (fun _ _=>rfl)
  ·exact(hfx c w I μ _ (hs.sim.part part1) (k3 k _ hx).2).ofI)
 have hu:(μ (r0::p0)).u=u:=by exact(h3.ver (r0::p0)).trans (congrArg VOb.u hd2)
 rw[hu]at hs2;exact⟨_,_,hs2,hs.size,hs.defers,fun t=>hx2.rel ((hs.rel t).mono0 (fun b h=>.inl h) (fun _ _=>rfl))⟩
end Go.G
namespace Go.Proofs.YtlaapfplenlfaaaGreat
open Go Go.G Go.Proofs Go.PL
structure LsK(v w:Nat)(C:List Cf)(at':Di)(o:T)(n vo:Nat)(out:List T)(H:Hp):Prop where
 f:∀p,H (0::p)=(Tg v w C at' o n vo out (true,[]) (true,[]) 1).B 0 5 p
 s:∀p,H (5::p)=(Tg v w C at' o n vo out (true,[]) (true,[]) 1).C 0 5 p
 o:H [1]=⟨1,.cells (Zx o)⟩
 z:H [4]=⟨1,.cells [iv 0,.sl true [],.sl true []]⟩
def T5:Pc->OP × OP
 |.a o=>(o,O0)
 |.b o=>(O0,o)
 |.both o o'=>(o,o')
theorem vA{f:Nat}{at':Di}(hat:at'.length<=900000){o:T}(wo:AE o)(hko:o.kids.length<=1000000){o1 o2:OP}{l:List Pc}{k m:Nat}(hm:m<=10000000):∀(ks:List T)(i n:Nat),i+ks.length=m->ks=(o.kids.drop n).take ks.length->n+ks.length<=o.kids.length ->
  (∀(i:Nat)(h:i<o.kids.length),o.kids[i]∈ks->((o1.kind=0/\o1.e=E0)\/(o1.kind=1/\o1.e=E0)\/(o1.kind=3/\iG o1.e o.kids[i]))/\((o2.kind=0/\o2.e=E0)\/(o2.kind=1/\o2.e=E0)\/(o2.kind=3/\iG o2.e o.kids[i]))/\∃u,uI f (at'++[(0,(i:Int))]) o.kids[i] o1.e o2.e u) ->
  ∃us,(∀t,t∈us->AE t)/\us.length<=ks.length/\us.map Af=(EG (mg f) at' o1 o2 ks n).1/\∀{n0:Nat} {w0:World} {I0:Nat->Prop} {M0:Nm->Nat->Prop} {m0:Mu} {Q:Exit->Sta->Prop} (v w:Nat) (C:List Cf) (vo u6:Nat) (out:List T) (H:Hp),C.length+(EG (mg f) at' o1 o2 ks n).2.length<=100000000000->out.length+ks.length<=1000000000->LsK v w C at' o n vo out H->H [6]=⟨u6,.cells (iv 0::(SO o1++SO o2))⟩ ->
   (∀(H':Hp)(vo':Nat),LsK v w (C++(EG (mg f) at' o1 o2 ks n).2) at' o (n+ks.length) vo' (out++us) H'->Q (.exit 3) ⟨lk [(7,.pob [1] 1 0),(10,.pob [4] 1 0),(11,.pob [5] 1 0),(15,.pob [6] u6 0),(29,cR l),(30,iv l.length),(31,iv k),(47,iv m),(48,iv m),(49,bv false)],H'⟩) ->
   LoopC (DC Tryz.prog w0 I0 M0 n0 m0) DS Q ⟨lk [(7,.pob [1] 1 0),(10,.pob [4] 1 0),(11,.pob [5] 1 0),(15,.pob [6] u6 0),(29,cR l),(30,iv l.length),(31,iv k),(47,iv m),(48,iv i)],H⟩:=by
 intro ks;induction ks with
 |nil=>
  intro i n hi _ _ _;have:i=m:=by simpa using hi
  subst this;refine⟨[],(fun t ht=>by simp at ht),iS,rfl,fun {n0 w0 I0 M0 m0 Q} v w C vo u6 out H hC ho hH h6 hq=>?_⟩;refine Ad Ai DS.eq_1 ?_;simp;exact hq H vo (by simpa[EG]using hH)
 |cons t ks ih=>
  intro i n hi hks hn hU;rw[List.length_cons]at hi hks hn;have hlt:i<m:=oF
  have hnl:n<o.kids.length:=oF
  have hd:o.kids.drop n=o.kids[n]::o.kids.drop (n+1):=(List.getElem_cons_drop hnl).symm;rw[hd,List.take_succ_cons]at hks;obtain⟨e1,e2⟩:=List.cons.inj hks;obtain⟨d1,d2,u,hu⟩:=hU n hnl (by rw[<-e1];simp);obtain⟨us1,a1,a2,a3,a4⟩:=iI hat wo hnl oF d1 d2 hu;obtain⟨us2,b1,b2,b3,b4⟩:=ih (i+1) (n+1) oF e2 oF fun j hj hm=>hU j hj (List.mem_cons_of_mem _ hm);have ew:=AR i;have er:EG (mg f) at' o1 o2 (t::ks) n=((B6 (mg f) (at'++[(0,(n:Int))]) o.kids[n] (Il o1) (Il o2)).1++(EG (mg f) at' o1 o2 ks (n+1)).1,(B6 (mg f) (at'++[(0,(n:Int))]) o.kids[n] (Il o1) (Il o2)).2++(EG (mg f) at' o1 o2 ks (n+1)).2):=by
   rw[EG,e1]
  rw[er];refine⟨us1++us2,fun t ht=>?_,by simp;omega,by rw[List.map_append,a3,b3],fun {n0 w0 I0 M0 m0 Q} v w C vo u6 out H hC ho hH h6 hq=>?_⟩
  ·rcases List.mem_append.1 ht with ht|ht
   ·exact a1 t ht
   ·exact b1 t ht
  rw[List.length_append]at hC;rw[List.length_cons]at ho;have S:=a4 v w C vo out 1 oF oF;have next:=b4 (n0:=n0) (w0:=w0) (I0:=I0) (M0:=M0) (m0:=m0) (Q:=Q) v w (C++(B6 (mg f) (at'++[(0,(n:Int))]) o.kids[n] (Il o1) (Il o2)).2) (vo+us1.length) u6 (out++us1)
  generalize (B6 (mg f) (at'++[(0,(n:Int))]) o.kids[n] (Il o1) (Il o2)).2=c at *;refine Ad Ai DS.eq_1 ?_;simp[hlt,h6];refine Fa 0 5 dO S hH.f hH.s iS iS ?_;simp;rw[ew];refine next _ (by rw[List.length_append];omega) (by rw[List.length_append];omega) ⟨fun p=>iS,fun p=>iS,by simp[hH.o],by simp[hH.z]⟩ (by simp[h6]) fun H' vo' hH'=>?_
  refine hq H' vo' ?_;rw[List.length_cons];have e5:n+1+ks.length=n+(ks.length+1):=oF
  rw[e5,List.append_assoc,List.append_assoc]at hH';exact hH'
structure LsM(v w:Nat)(C:List Cf)(at':Di)(o:T)(n vo:Nat)(out:List T)(vm vh:Nat)(mine hers:List T)(H:Hp):Prop where
 f:∀p,H (0::p)=(Ps v w C).F 0 p
 s:H [5]=⟨1,.cells [.pob [0] v 0,D3 at',iv o.kind,Fu o.words,B7 o.kids,iv n,.osl [5,0] vo 3 0 out.length,.osl [7] vm 3 0 mine.length,.osl [8] vh 3 0 hers.length]⟩
 so:H [5,0]=⟨vo,.arr 3 (out.map tA)⟩
 s0:∀p,p≠[]->p≠[0]->H (5::p)=⟨0,.none⟩
 m:H [7]=⟨vm,.arr 3 (mine.map tA)⟩
 h:H [8]=⟨vh,.arr 3 (hers.map tA)⟩
 o:H [1]=⟨1,.cells (Zx o)⟩
 z:H [4]=⟨1,.cells [iv 0,.sl true [],.sl true []]⟩
theorem g9{c:Cx}{s:Nat->A}{v w:Nat}{C:List Cf}{at':Di}{o:T}{n vo:Nat}{out:List T}{H:Hp}(hH:LsK v w C at' o n vo out H):∃(H2:Hp)(vm vh:Nat),Le c ⟨s,H⟩ ⟨s,H2⟩/\LsM v w C at' o n vo out vm vh [] [] H2:=by
 have h5:H [5]=⟨1,.cells [.pob [0] v 0,D3 at',iv o.kind,Fu o.words,B7 o.kids,iv n,.osl [5,0] vo 3 0 out.length,Sm (true,[]),Sm (true,[])]⟩:=by rw[hH.s];simp
 have l1:=BO (c:=c) (s:=s) (H:=H) (d:=[5]) 7 [7] 3 h5 rfl iS;have l2:=BO (c:=c) (s:=s) (H:=AK (AK H [7] ⟨(H [7]).u+1,.arr 3 []⟩) [5] ⟨1,.cells [.pob [0] v 0,D3 at',iv o.kind,Fu o.words,B7 o.kids,iv n,.osl [5,0] vo 3 0 out.length,.osl [7] ((H [7]).u+1) 3 0 0,Sm (true,[])]⟩) (d:=[5]) (u:=1) (cs:=[.pob [0] v 0,D3 at',iv o.kind,Fu o.words,B7 o.kids,iv n,.osl [5,0] vo 3 0 out.length,.osl [7] ((H [7]).u+1) 3 0 0,Sm (true,[])]) 8 [8] 3 (by simp[Aa]) rfl iS;refine⟨_,(H [7]).u+1,(H [8]).u+1,l1.trans l2,⟨fun p=>?_,?_,?_,fun p p1 p2=>?_,?_,?_,?_,?_⟩⟩
 ·have:=hH.f p;simp[Aa]at this ⊢;exact this
 ·simp[Aa]
 ·have:=hH.s [0];simp[Aa]at this ⊢;exact this
 ·have:=hH.s p;simp[Aa,p1,p2]at this ⊢;exact this
 ·simp[Aa]
 ·simp[Aa]
 ·simp[Aa,hH.o]
 ·simp[Aa,hH.z]
theorem Ys{c:Cx}{s:Nat->A}{v w:Nat}{C:List Cf}{at':Di}{o:T}{n vo:Nat}{out mine hers:List T}{vm vh:Nat}{H:Hp}(hM:∀r p b,1<=r->¬c.M0 (r::p) b)(hH:LsM v w C at' o n vo out vm vh mine hers H):∃H2:Hp,Le c ⟨s,H⟩ ⟨s,H2⟩/\(∀p,H2 (0::p)=(Tg v w C at' o n vo out (false,mine) (false,hers) 1).B 0 5 p)/\(∀p,H2 (5::p)=(Tg v w C at' o n vo out (false,mine) (false,hers) 1).C 0 5 p)/\H2 [1]=H [1]/\H2 [4]=H [4]/\H2 [6]=H [6]:=by
 obtain⟨H2,g1,g2⟩:=WL (c:=c) (s:=s) (H:=H) (fun r=>r=7\/r=8) (fun r p b h=>hM r p b oF) (r0:=5) (p0:=[]) oF hH.s (cs':=[.pob [0] v 0,D3 at',iv o.kind,Fu o.words,B7 o.kids,iv n,.osl [5,0] vo 3 0 out.length,Sm (false,mine),Sm (false,hers)]) (by simp[A.ones]) (fun H1 h1=>by
  have f7:Jl H1 (.osl [7] vm 3 0 mine.length) (Sm (false,mine)):=CI (f:=tA) (by rw[h1 7 [] (.inl rfl),hH.m];simp) rfl (fun x=>iS);have f8:Jl H1 (.osl [8] vh 3 0 hers.length) (Sm (false,hers)):=CI (f:=tA) (by rw[h1 8 [] (.inr rfl),hH.h];simp) rfl (fun x=>iS);refine⟨rfl,fun k x y hx hy=>?_⟩
  match k with
  |0=>simp at hx hy;exact .inl (by rw[<-hx,<-hy])
  |1=>simp at hx hy;exact .inl (by rw[<-hx,<-hy])
  |2=>simp at hx hy;exact .inl (by rw[<-hx,<-hy])
  |3=>simp at hx hy;exact .inl (by rw[<-hx,<-hy])
  |4=>simp at hx hy;exact .inl (by rw[<-hx,<-hy])
  |5=>simp at hx hy;exact .inl (by rw[<-hx,<-hy])
  |6=>simp at hx hy;exact .inl (by rw[<-hx,<-hy])
  |7=>simp at hx hy;exact .inr (by rw[<-hx,<-hy];exact f7)
  |8=>simp at hx hy;exact .inr (by rw[<-hx,<-hy];exact f8)
  |k+9=>simp at hx)
 refine⟨_,g1,fun p=>?_,fun p=>?_,?_,?_,?_⟩
 ·have:=g2 0 p oF;simp[Aa]at this ⊢;rw[this,hH.f];simp
 ·by_cases p1:p=[]
  ·subst p1;simp[Aa]
  ·have:=g2 5 p oF;simp only[Aa];rw[if_neg (by simp[p1]),this];by_cases p2:p=[0]
   ·subst p2;simp[hH.so]
   ·simp[hH.s0 p p1 p2,p1,p2]
 ·have:=g2 1 [] oF;simpa[Aa]using this
 ·have:=g2 4 [] oF;simpa[Aa]using this
 ·have:=g2 6 [] oF;simpa[Aa]using this
def SH:List Pc->Nat
 |[]=>0
 |.a o::l=>o.l.length+SH l
 |.b o::l=>o.l.length+SH l
 |.both _ _::l=>SH l
theorem uZ{f:Nat}{at':Di}(hat:at'.length<=900000){o:T}(wo:AE o)(hko:o.kids.length<=1000000){R:E->T->T->Prop}{l:List Pc}(hl:l.length<=100000000)
  (hW:∀o,(.a o∈l\/.b o∈l)->∀t,t∈o.l->AE t)
  (hR:∀(i:Nat)(h:i<o.kids.length)(o1 o2:OP),.both o1 o2∈l->XI R o1 o.kids[i]->XI R o2 o.kids[i]->((o1.kind=0/\o1.e=E0)\/(o1.kind=1/\o1.e=E0)\/(o1.kind=3/\iG o1.e o.kids[i]))/\((o2.kind=0/\o2.e=E0)\/(o2.kind=1/\o2.e=E0)\/(o2.kind=3/\iG o2.e o.kids[i]))/\∃u,uI f (at'++[(0,(i:Int))]) o.kids[i] o1.e o2.e u) :
  ∀(j k:Nat)(mine hers:List T)(n:Nat),k+j=l.length->n<=o.kids.length->PM R (l.drop k) (o.kids.drop n)->(∀t,t∈mine->AE t)->(∀t,t∈hers->AE t)->mine.length+hers.length+SH (l.drop k)<=1000000 ->
  ∃(us mF hF:List T)(nF:Nat)(cs:List Cf),(∀t,t∈us->AE t)/\(∀t,t∈mF->AE t)/\(∀t,t∈hF->AE t)/\mF.length+hF.length<=1000000/\us.length+mF.length+hF.length<=mine.length+hers.length+SH (l.drop k)+(o.kids.length-n) /\
   (run (mg f) at' o.kind (l.drop k) mine hers (o.kids.drop n) n).1=us.map Af++(Fx at' o.kind nF mF hF).1/\(run (mg f) at' o.kind (l.drop k) mine hers (o.kids.drop n) n).2=cs++(Fx at' o.kind nF mF hF).2 /\
   ∀{n0:Nat} {w0:World} {I0:Nat->Prop} {M0:Nm->Nat->Prop} {m0:Mu} {Q:Exit->Sta->Prop} (hM:∀r p b,1<=r->¬M0 (r::p) b) (v w:Nat) (C:List Cf) (vo vm vh:Nat) (out:List T) (H:Hp),C.length+cs.length<=100000000000->out.length+mine.length+hers.length+SH (l.drop k)+(o.kids.length-n)<=1000000000->LsM v w C at' o n vo out vm vh mine hers H ->
    (∀(H':Hp)(vo' vm' vh':Nat),LsM v w (C++cs) at' o nF vo' (out++us) vm' vh' mF hF H'->Q (.exit 0) ⟨lk [(7,.pob [1] 1 0),(10,.pob [4] 1 0),(11,.pob [5] 1 0),(29,cR l),(30,iv l.length),(31,iv l.length),(32,bv false)],H'⟩) ->
    LoopC (DC Tryz.prog w0 I0 M0 n0 m0) Cg Q ⟨lk [(7,.pob [1] 1 0),(10,.pob [4] 1 0),(11,.pob [5] 1 0),(29,cR l),(30,iv l.length),(31,iv k)],H⟩:=by
 intro j;induction j with
 |zero=>
  intro k mine hers n hk hn hP wm wh hs;have:k=l.length:=oF
  subst this;rw[List.drop_length]at hP ⊢;refine⟨[],mine,hers,n,[],(fun t ht=>by simp at ht),wm,wh,oF,by simp;omega,by simp[run],by simp[run],fun {n0 w0 I0 M0 m0 Q} hM v w C vo vm vh out H hC ho hH hq=>?_⟩;refine Ad Ai Cg.eq_1 ?_;simp;exact hq H vo vm vh (by simpa using hH)
 |succ j ih=>
  intro k mine hers n hk hn hP wm wh hs;have hlt:k<l.length:=oF
  have hd:l.drop k=l[k]::l.drop (k+1):=(List.getElem_cons_drop hlt).symm;have hmem:l[k]∈l:=De hlt;have ew:=AR k;rw[hd]at hP hs ⊢;generalize hx:l[k]=x at *;generalize ha:o.kids.drop n=ks at hP;cases hP with
  |a oo _ _ hk2 g=>
   subst ha;simp only[SH]at hs;obtain⟨us,mF,hF,nF,cs,f1,f2,f3,f4,f5,f6,f7,f8⟩:=ih (k+1) (mine++oo.l) hers n oF hn g (fun t ht=>by
    rcases List.mem_append.1 ht with ht|ht
    ·exact wm t ht
    ·exact hW oo (.inl hmem) t ht) wh (by rw[List.length_append];omega)
   rw[List.length_append]at f5;refine⟨us,mF,hF,nF,cs,f1,f2,f3,f4,by simp only[SH];omega,f6,f7,fun {n0 w0 I0 M0 m0 Q} hM v w C vo vm vh out H hC ho hH hq=>?_⟩;simp only[SH]at ho;have h5:=hH.s;have h7:=hH.m;refine Ad Ai Cg.eq_1 ?_;simp[hlt,hx,xc,h5,h7,Aa];refine⟨oF,?_⟩;rw[ew];refine f8 hM v w C vo (vm+1) vh out _ hC (by rw[List.length_append];omega) ⟨fun p=>?_,by simp[Aa],by simp[Aa,hH.so],fun p p1 p2=>?_,by simp[Aa,AO],by simp[Aa,hH.h],by simp[Aa,hH.o],by simp[Aa,hH.z]⟩ hq
   ·simp[Aa,hH.f]
   ·simp[Aa,p1,hH.s0 p p1 p2]
  |b oo _ _ hk2 g=>
   subst ha;simp only[SH]at hs;obtain⟨us,mF,hF,nF,cs,f1,f2,f3,f4,f5,f6,f7,f8⟩:=ih (k+1) mine (hers++oo.l) n oF hn g wm (fun t ht=>by
    rcases List.mem_append.1 ht with ht|ht
    ·exact wh t ht
    ·exact hW oo (.inr hmem) t ht) (by rw[List.length_append];omega)
   rw[List.length_append]at f5;refine⟨us,mF,hF,nF,cs,f1,f2,f3,f4,by simp only[SH];omega,f6,f7,fun {n0 w0 I0 M0 m0 Q} hM v w C vo vm vh out H hC ho hH hq=>?_⟩;simp only[SH]at ho;have h5:=hH.s;have h8:=hH.h;refine Ad Ai Cg.eq_1 ?_;simp[hlt,hx,xc,h5,h8,Aa];refine⟨oF,?_⟩;rw[ew];refine f8 hM v w C vo vm (vh+1) out _ hC (by rw[List.length_append];omega) ⟨fun p=>?_,by simp[Aa],by simp[Aa,hH.so],fun p p1 p2=>?_,by simp[Aa,hH.m],by simp[Aa,AO],by simp[Aa,hH.o],by simp[Aa,hH.z]⟩ hq
   ·simp[Aa,hH.f]
   ·simp[Aa,p1,hH.s0 p p1 p2]
  |both o1 o2 _ a1 a2 hn1 hl1 h g=>
   simp only[SH]at hs;have hal:a1.length+a2.length=o.kids.length-n:=by rw[<-List.length_append,<-ha,List.length_drop]
   have ha1:(o.kids.drop n).take a1.length=a1:=by rw[ha,List.take_left]
   have ha2:o.kids.drop (n+a1.length)=a2:=by rw[<-List.drop_drop,ha,List.drop_left]
   obtain⟨us1,b1,b2,b3,b4⟩:=vA (f:=f) hat wo hko (o1:=o1) (o2:=o2) (l:=l) (k:=k) (m:=a1.length) oF a1 0 n oF ha1.symm oF fun i hi hm=>by
    obtain⟨h1,h2⟩:=h _ hm;exact hR i hi o1 o2 hmem h1 h2
   rw[<-ha2]at g;obtain⟨us,mF,hF,nF,cs,f1,f2,f3,f4,f5,f6,f7,f8⟩:=ih (k+1) [] [] (n+a1.length) oF oF g (fun t ht=>by simp at ht) (fun t ht=>by simp at ht) (by simp;omega);have hgap:=kk at' o.kind n mine hers;have hgl:((HV mine hers).getD []).length<=mine.length+hers.length:=by
    unfold HV;split
    ·simp
    ·split
     ·simp
     ·split<;>simp
   have hgw:∀t,t∈(HV mine hers).getD []->AE t:=by
    unfold HV;intro t ht;split at ht
    ·exact wh t ht
    ·split at ht
     ·exact wh t ht
     ·split at ht
      ·exact wm t ht
      ·simp at ht
   have hgn:((HV mine hers).getD []).map Af=(Fx at' o.kind n mine hers).1:=by
    cases e:HV mine hers with
    |none=>rw[hgap.2 e];rfl
    |some z=>rw[hgap.1 z e];rfl
   have er:run (mg f) at' o.kind (.both o1 o2::l.drop (k+1)) mine hers (a1++a2) n=((Fx at' o.kind n mine hers).1++((EG (mg f) at' o1 o2 a1 n).1++(run (mg f) at' o.kind (l.drop (k+1)) [] [] (o.kids.drop (n+a1.length)) (n+a1.length)).1),(Fx at' o.kind n mine hers).2++((EG (mg f) at' o1 o2 a1 n).2++(run (mg f) at' o.kind (l.drop (k+1)) [] [] (o.kids.drop (n+a1.length)) (n+a1.length)).2)):=by
    rw[run,<-hn1,List.take_left,List.drop_left,ha2]
   rw[er];refine⟨(HV mine hers).getD []++(us1++us),mF,hF,nF,(Fx at' o.kind n mine hers).2++((EG (mg f) at' o1 o2 a1 n).2++cs),fun t ht=>?_,f2,f3,f4,by simp only[SH,List.length_append];simp at f5;omega,?_,?_,fun {n0 w0 I0 M0 m0 Q} hM v w C vo vm vh out H hC ho hH hq=>?_⟩
   ·rcases List.mem_append.1 ht with ht|ht
    ·exact hgw t ht
    ·rcases List.mem_append.1 ht with ht|ht
     ·exact b1 t ht
     ·exact f1 t ht
   ·simp only[List.map_append,hgn,b3,f6,List.append_assoc]
   ·simp only[f7,List.append_assoc]
   simp only[SH]at ho;rw[List.length_append,List.length_append]at hC;have G:=Zj (v:=v) (w:=w) (C:=C) (at':=at') (o:=o) (n:=n) (vo:=vo) (out:=out) (mine:=mine) (hers:=hers) (vs:=1) wm wh (wfT_iff.1 wo).k oF oF oF hat oF;generalize (Fx at' o.kind n mine hers).2=cg at *;generalize (HV mine hers).getD []=gl at *;generalize (EG (mg f) at' o1 o2 a1 n).2=cr at *;have hn64:(0:Int)<=o1.n/\o1.n<=10000000:=by
    unfold Kt at hn1;omega
   have hl64:o1.l.length<=10000000:=by
    unfold Kt at hn1;omega
   have ea:i64.wrap (o1.n+o1.l.length)=o1.n+o1.l.length:=Ga;have em:max (o1.n+(o1.l.length:Int)) 1=((a1.length:Nat):Int):=by
    rw[hn1];unfold Kt;omega
   obtain⟨H2,g1,g2,g3,g4,g5,g6⟩:=Ys (c:=DC Tryz.prog w0 I0 M0 n0 m0) (s:=lk [(7,.pob [1] 1 0),(10,.pob [4] 1 0),(11,.pob [5] 1 0),(29,cR l),(30,iv l.length),(31,iv k)]) hM hH;rw[hH.o]at g4;rw[hH.z]at g5;refine LoopC.le g1 ?_;refine Ad Ai Cg.eq_1 ?_;simp[hlt,hx,xc,Aa];refine Fa 0 5 dO G (fun p=>by simp[Aa,g2]) (fun p=>by simp[Aa,g3]) iS iS ?_;simp[ea,em,Aa];refine LoopC.le (Ar [(7,.pob [1] 1 0),(10,.pob [4] 1 0),(11,.pob [5] 1 0),(15,.pob [6] ((H2 [6]).u+1) 0),(29,cR l),(30,iv l.length),(31,iv k),(47,iv a1.length),(48,iv (0:Nat))] iS) ?_;refine b4 v w (C++cg) (vo+VQ mine hers) ((H2 [6]).u+1) (out++gl) _ (by rw[List.length_append];omega) (by rw[List.length_append];omega) ⟨fun p=>iS,fun p=>iS,by simp[Aa,g4],by simp[Aa,g5]⟩ (by simp[Aa]) fun H' vo' hH'=>?_;simp;rw[ew];obtain⟨H3,vm',vh',y1,y2⟩:=g9 (c:=DC Tryz.prog w0 I0 M0 n0 m0) (s:=lk [(7,.pob [1] 1 0),(10,.pob [4] 1 0),(11,.pob [5] 1 0),(29,cR l),(30,iv l.length),(31,iv (k+1:Nat))]) hH';refine LoopC.le y1 ?_;refine f8 hM v w _ vo' vm' vh' _ H3 (by rw[List.length_append,List.length_append];omega) (by simp only[List.length_append,List.length_nil];simp at f5;omega) y2 fun H4 vo2 vm2 vh2 z=>?_;refine hq H4 vo2 vm2 vh2 ?_;simp only[List.append_assoc]at z;exact z
theorem xa{c:Cx}{x:CC}{Q:Exit->Sta->Prop}{s:Nat->A}{v w:Nat}{C:List Cf}{at':Di}{o:T}{H:Hp}(h0:∀p,H (0::p)=(Ps v w C).F 0 p)(h1:H [1]=⟨1,.cells (Zx o)⟩)(h4:H [4]=⟨1,.cells [iv 0,.sl true [],.sl true []]⟩)(h5:H [5]=⟨1,.cells [.pob [0] v 0,D3 at',iv o.kind,Fu o.words,B7 o.kids,iv 0,.sl true [],.sl true [],.sl true []]⟩)(h6:∀p,p≠[]->H (5::p)=⟨0,.none⟩)
  (k:∀(H2:Hp)(vm vh:Nat),LsM v w C at' o 0 1 [] vm vh [] [] H2->LoopC c x Q ⟨s,H2⟩):LoopC c x Q ⟨s,H⟩:=by
 have e5:=h6 [0] iS;refine LoopC.le (BO (d:=[5]) (u:=1) 6 [5,0] 3 h5 rfl iS) ?_;have hK:LsK v w C at' o 0 1 [] (AK (AK H [5,0] ⟨(H [5,0]).u+1,.arr 3 []⟩) [5] ⟨1,.cells ([.pob [0] v 0,D3 at',iv o.kind,Fu o.words,B7 o.kids,iv 0,.sl true [],.sl true [],.sl true []].set 6 (.osl [5,0] ((H [5,0]).u+1) 3 0 0))⟩):=by
  refine⟨fun p=>?_,fun p=>?_,?_,?_⟩
  ·simp[Aa,h0]
  ·by_cases p1:p=[]
   ·subst p1;simp[Aa,e5]
   ·by_cases p2:p=[0]
    ·subst p2;simp[Aa,e5]
    ·simp[Aa,p1,p2,h6]
  ·simp[Aa,h1]
  ·simp[Aa,h4]
 obtain⟨H3,vm',vh',y1,y2⟩:=g9 (c:=c) (s:=s) hK;exact LoopC.le y1 (k H3 vm' vh' y2)
theorem fR{f:Nat}{at':Di}(hat:at'.length<=900000){o:T}(wo:AE o)(hko:o.kids.length<=1000000){R:E->T->T->Prop}{p q:E}{l:List Pc}(hT:Xg p.ops q.ops l)(gp:∀o,o∈p.ops->Xe o)(gq:∀o,o∈q.ops->Xe o)(lp:p.ops.length<=1000000)(lq:q.ops.length<=1000000)(hl:l.length<=100000000)(hP:PM R l o.kids)(hI:SH l<=1000000)
  (hrun:run (mg f) at' o.kind l [] [] o.kids 0=N7 (mg f) at' o.kind o.kids (Mc p.ops) (Mc q.ops) 0)
  (hW:∀o,(.a o∈l\/.b o∈l)->∀t,t∈o.l->AE t)
  (hR:∀(i:Nat)(h:i<o.kids.length)(o1 o2:OP),.both o1 o2∈l->XI R o1 o.kids[i]->XI R o2 o.kids[i]->((o1.kind=0/\o1.e=E0)\/(o1.kind=1/\o1.e=E0)\/(o1.kind=3/\iG o1.e o.kids[i]))/\((o2.kind=0/\o2.e=E0)\/(o2.kind=1/\o2.e=E0)\/(o2.kind=3/\iG o2.e o.kids[i]))/\∃u,uI f (at'++[(0,(i:Int))]) o.kids[i] o1.e o2.e u) :
  ∃us:List T,(∀t,t∈us->AE t)/\us.length<=10000000/\us.map Af=(N7 (mg f) at' o.kind o.kids (Mc p.ops) (Mc q.ops) 0).1/\∀(v w:Nat)(C:List Cf),C.length+(N7 (mg f) at' o.kind o.kids (Mc p.ops) (Mc q.ops) 0).2.length<=100000000000 ->
   SpecF Tryz.prog 56 (fun r=>[.pob [r] v 0,D3 at',tX o,eX p,eX q]) (Ps v w C) (fun _=>tX (.mk o.kind [] us)) (Ps v w (C++(N7 (mg f) at' o.kind o.kids (Mc p.ops) (Mc q.ops) 0).2)):=by
 have TH:=PJ hT gp gq lp lq hl;obtain⟨us,mF,hF,nF,cs,f1,f2,f3,f4,f5,f6,f7,f8⟩:=uZ (f:=f) hat wo hko hl hW hR l.length 0 [] [] 0 oF oF (by simpa using hP) (fun t ht=>by simp at ht) (fun t ht=>by simp at ht) (by simpa using hI);rw[List.drop_zero,List.drop_zero,hrun]at f6 f7;rw[List.drop_zero]at f5;simp only[List.length_nil,Nat.zero_add,Nat.sub_zero]at f5;have hgap:=kk at' o.kind nF mF hF;have hgl:((HV mF hF).getD []).length<=mF.length+hF.length:=by
  unfold HV;split
  ·simp
  ·split
   ·simp
   ·split<;>simp
 have hgw:∀t,t∈(HV mF hF).getD []->AE t:=by
  unfold HV;intro t ht;split at ht
  ·exact f3 t ht
  ·split at ht
   ·exact f3 t ht
   ·split at ht
    ·exact f2 t ht
    ·simp at ht
 have hgn:((HV mF hF).getD []).map Af=(Fx at' o.kind nF mF hF).1:=by
  cases e:HV mF hF with
  |none=>rw[hgap.2 e];rfl
  |some z=>rw[hgap.1 z e];rfl
 refine⟨us++(HV mF hF).getD [],fun t ht=>?_,by rw[List.length_append];omega,by rw[f6,List.map_append,hgn],fun v w C hC=>?_⟩
 ·rcases List.mem_append.1 ht with ht|ht
  ·exact f1 t ht
  ·exact hgw t ht
 rw[f7]at hC ⊢;rw[List.length_append]at hC;refine Hh NR iS (Ab Aq (Ab Bc (Ab (Bz o) (Ab (AF p) (Ab (AF q) Ah))))) (Bz _) fun w0 I0 M0 m0 hM=>?_;unfold Jk;simp;refine Ag TH iS ?_;simp;refine LoopC.le (Ar [(7,.pob [1] 1 0),(10,.pob [4] 1 0),(11,.pob [5] 1 0),(29,cR l),(30,iv l.length),(31,iv (0:Nat))] iS) ?_;refine xa (v:=v) (w:=w) (C:=C) (at':=at') (o:=o) (fun p=>iS) iS iS iS (fun p hp=>by simp[hp,Gz,Ne.symm hp]) fun H2 vm vh hH2=>?_;refine f8 hM v w C 1 vm vh [] H2 oF (by simp;omega) hH2 fun H' vo' vm' vh' hH'=>?_;have G:=Zj (v:=v) (w:=w) (C:=C++cs) (at':=at') (o:=o) (n:=nF) (vo:=vo') (out:=us) (mine:=mF) (hers:=hF) (vs:=1) f2 f3 (wfT_iff.1 wo).k oF oF oF hat (by rw[List.length_append];omega);rw[List.nil_append]at hH';generalize (Fx at' o.kind nF mF hF).2=cg at *;generalize (HV mF hF).getD []=gl at *;obtain⟨H3,g1,g2,g3,g4,g5,g6⟩:=Ys (c:=DC Tryz.prog w0 I0 M0 93 m0) (s:=lk [(7,.pob [1] 1 0),(10,.pob [4] 1 0),(11,.pob [5] 1 0)]) hM hH';rw[hH'.o]at g4;rw[hH'.z]at g5;simp;refine GP g1 (Gk ?_);simp;refine Fa 0 5 dO G (fun p=>by simp[g2]) (fun p=>by simp[g3]) iS iS ?_;simp[g4,g5,Aa];have hlen:us.length+gl.length=(us++gl).length:=iS
 rw[hlen];generalize us++gl=L at *;generalize hHH:ov 0 ((Tg v w (C++(cs++cg)) at' o nF (vo'+VQ mF hF) L (true,[]) (true,[]) 1).B 0 5) (ov 5 ((Tg v w (C++(cs++cg)) at' o nF (vo'+VQ mF hF) L (true,[]) (true,[]) 1).C 0 5) (AK H3 [4] ⟨1,.cells [iv o.kind,.sl true [],.osl [5,0] (vo'+VQ mF hF) 3 0 L.length]⟩))=HH;have z0:∀p,HH (0::p)=(Ps v w (C++(cs++cg))).F 0 p:=fun p=>by rw[<-hHH];simp
 have z4:HH [4]=⟨1,.cells [iv o.kind,.sl true [],.osl [5,0] (vo'+VQ mF hF) 3 0 L.length]⟩:=by rw[<-hHH];simp[Aa]
 have z5:HH [5,0]=⟨vo'+VQ mF hF,.arr 3 (L.map tA)⟩:=by rw[<-hHH];simp[Aa]
 obtain⟨H4,y1,y2⟩:=G7 (c:=DC Tryz.prog w0 I0 M0 93 m0) (s:=lk [(10,.pob [4] 1 0)]) (H:=HH) (fun r=>r=5) (fun r p b h=>hM r p b oF) (r0:=4) (p0:=[]) oF z4 (cs':=Zx (.mk o.kind [] L)) (by simp[A.ones]) (fun H1 h1=>⟨Ae rfl,Am,CI (f:=tA) (l:=L) (by rw[h1 5 [0] rfl,z5];simp) rfl (fun x=>iS),trivial⟩);refine Gp y1 (An (r0:=tX (.mk o.kind [] L)) (by simp[Et]) rfl fun r=>?_);have e1:=y2 0 r oF;dsimp only;rw[AI iS,e1,z0]
theorem VD{R R':E->T->T->Prop}{os:List OP}{a b:List T}(h:LdO R os a b):(∀e x y,x∈a->y∈b->R e x y->R' e x y)->LdO R' os a b:=by
 induction h with
 |nil=>exact fun _=>.nil
 |keep l m hne hl _ ih=>exact fun hR=>.keep l m hne hl (ih fun e x y hx hy=>hR e x y (List.mem_append_right _ hx) (List.mem_append_right _ hy))
 |del l m hne hl _ ih=>exact fun hR=>.del l m hne hl (ih fun e x y hx hy=>hR e x y (List.mem_append_right _ hx) hy)
 |ins l m hne hl _ ih=>exact fun hR=>.ins l m hne hl (ih fun e x y hx hy=>hR e x y hx (List.mem_append_right _ hy))
 |desc e x y r _ ih=>exact fun hR=>.desc e x y (hR e x y iS iS r) (ih fun e x y hx hy=>hR e x y (List.mem_cons_of_mem _ hx) (List.mem_cons_of_mem _ hy))
def Cm:List OP->Nat
 |[]=>0
 |o::os=>(if o.kind=2 then o.l.length else 0)+Cm os
theorem Hi{R:E->T->T->Prop}{os:List OP}{a b:List T}(h:LdO R os a b):os.length<=a.length+b.length/\Cm os<=b.length/\(a.length<=1000000->b.length<=1000000->∀o,o∈os->Xe o):=by
 induction h with
 |nil=>exact⟨iS,by simp[Cm],fun _ _ o ho=>by simp at ho⟩
 |keep l m hne hl _ ih=>
  have h1:=List.length_pos_iff.2 hne;have h2:l.length=m.length:=by simpa using congrArg List.length hl
  refine⟨by simp;omega,by simp[Cm];omega,fun ha hb o ho=>?_⟩;rw[List.length_append]at ha hb;rcases List.mem_cons.1 ho with rfl|ho
  ·exact⟨.inl ⟨rfl,by simp;omega,by simp;omega,rfl⟩,fun h=>by simp at h,iS⟩
  ·exact ih.2.2 oF oF o ho
 |del l m hne hl _ ih=>
  have h1:=List.length_pos_iff.2 hne;have h2:l.length=m.length:=by simpa using congrArg List.length hl
  refine⟨by simp;omega,by simp[Cm];omega,fun ha hb o ho=>?_⟩;rw[List.length_append]at ha;rcases List.mem_cons.1 ho with rfl|ho
  ·exact⟨.inr (.inl ⟨rfl,rfl⟩),fun _=>hne,by simp;omega⟩
  ·exact ih.2.2 oF oF o ho
 |ins l m hne hl _ ih=>
  have h1:=List.length_pos_iff.2 hne;have h2:l.length=m.length:=by simpa using congrArg List.length hl
  refine⟨by simp;omega,by simp[Cm];omega,fun ha hb o ho=>?_⟩;rw[List.length_append]at hb;rcases List.mem_cons.1 ho with rfl|ho
  ·exact⟨.inr (.inr (.inl ⟨rfl,rfl⟩)),fun _=>hne,by simp;omega⟩
  ·exact ih.2.2 oF oF o ho
 |desc e x y r _ ih=>
  refine⟨by simp;omega,by simp[Cm];omega,fun ha hb o ho=>?_⟩;rw[List.length_cons]at ha hb;rcases List.mem_cons.1 ho with rfl|ho
  ·exact⟨.inr (.inr (.inr ⟨rfl,rfl,rfl⟩)),fun h=>by simp at h,iS⟩
  ·exact ih.2.2 oF oF o ho
theorem tN(o:OP)(n:Nat):(pj o n).kind=o.kind:=by unfold pj;split<;>rfl
theorem nY{p:OP}(hp:p.kind≠2)(n:Nat)(ps:List OP):Cm (Ko p n ps)=Cm ps:=by
 unfold Ko;split
 ·rfl
 ·rw[Cm,tN,if_neg hp,Nat.zero_add]
theorem lL{ps qs:List OP}{l:List Pc}(h:Xg ps qs l):SH l<=Cm ps+Cm qs:=by
 induction h with
 |nil=>simp[SH]
 |fst p ps qs l h g ih=>rw[SH,Cm,if_pos h];omega
 |snd ps q qs l hp h g ih=>rw[SH,Cm,if_pos h];omega
 |both p ps q qs n l hp hq hn g ih=>
  rw[nY hp,nY hq]at ih;rw[SH,Cm,if_neg hp,Cm,if_neg hq];omega
def vY(o:OP):Prop:=(∀t,t∈o.l->AE t)/\Nh o.e
theorem vH{o:OP}(h:vY o)(n:Nat):vY (Jm o n):=by
 unfold Jm;split
 ·exact h
 ·unfold frO;split
  ·exact h
  ·exact⟨fun t ht=>h.1 t (QD ht),h.2⟩
theorem tp{p:OP}{ps:List OP}(h:∀o,o∈p::ps->vY o)(n:Nat):∀o,o∈Ko p n ps->vY o:=by
 intro o ho;unfold Ko at ho;split at ho
 ·exact h o (List.mem_cons_of_mem _ ho)
 ·rcases List.mem_cons.1 ho with rfl|ho
  ·have:=h p iS;unfold pj;split
   ·exact this
   ·exact⟨fun t ht=>this.1 t (SF ht),this.2⟩
  ·exact h o (List.mem_cons_of_mem _ ho)
theorem vO{ps qs:List OP}{l:List Pc}(h:Xg ps qs l):(∀o,o∈ps->vY o)->(∀o,o∈qs->vY o)->∀c,c∈l->vY (T5 c).1/\vY (T5 c).2:=by
 have w0:vY O0:=⟨fun t ht=>by simp at ht,Dh⟩;induction h with
 |nil=>intro _ _ c hc;simp at hc
 |fst p ps qs l h g ih=>
  intro hp hq c hc;rcases List.mem_cons.1 hc with rfl|hc
  ·exact⟨hp p iS,w0⟩
  ·exact ih (fun o ho=>hp o (List.mem_cons_of_mem _ ho)) hq c hc
 |snd ps q qs l _ h g ih=>
  intro hp hq c hc;rcases List.mem_cons.1 hc with rfl|hc
  ·exact⟨w0,hq q iS⟩
  ·exact ih hp (fun o ho=>hq o (List.mem_cons_of_mem _ ho)) c hc
 |both p ps q qs n l hpk hqk hn g ih=>
  intro hp hq c hc;rcases List.mem_cons.1 hc with rfl|hc
  ·exact⟨vH (hp p iS) n,vH (hq q iS) n⟩
  ·exact ih (tp hp n) (tp hq n) c hc
def Sq:Nat->T->Prop
 |0,_=>True
 |f+1,t=>t.words.length<=100000/\t.kids.length<=100000/\∀k,k∈t.kids->Sq f k
theorem AfE:∀f,Sq f T0
 |0=>trivial
 |f+1=>⟨iS,iS,fun k hk=>by simp at hk⟩
theorem PG{f:Nat}{t:T}(h:Sq (f+1) t)(i:Nat):Sq f (t.kids.getD i T0):=by
 rw[List.getD_eq_getElem?_getD];cases e:t.kids[i]? with
 |none=>exact AfE f
 |some z=>exact h.2.2 z (List.mem_of_getElem? e)
theorem PE:∀(f:Nat)(t:T),Sq f t->Sz f t
 |0,_,_=>trivial
 |f+1,t,h=>⟨by have:=h.1;omega,by have:=h.2.1;omega,fun k hk=>PE f k (h.2.2 k hk)⟩
theorem Wn:∀(f:Nat)(t:T),Bk t<=100000->Sq f t
 |0,t,_=>trivial
 |f+1,t,h=>by
  obtain⟨k,w,l⟩:=t;rw[Ey]at h;have hl:=G0 l;exact⟨by show w.length<=100000;omega,by show l.length<=100000;omega,fun x hx=>Wn f x (by have:=Ms (show x∈l from hx);omega)⟩
theorem Wy{f:Nat}{e:E}{a b:T}(hw:Nh e)(ha:AE a)(hb:AE b)(sa:Sq f a)(sb:Sq f b)(h:Ld f e a b):iG e a/\JG e a=Af b:=by
 obtain⟨u,h1,h2⟩:=fF f e a b hw ha hb (PE f a sa) (PE f b sb) h;have e1:JG e a=Af u:=by rw[HS h,h2]
 refine⟨⟨?_,?_,?_⟩,HS h⟩
 ·rw[e1];exact qg (I9 h1)
 ·rw[e1];exact CY u h1.1
 ·rw[e1,B8]
theorem Yc{f:Nat}{at':Di}{o:T}{p q:E}(hp:iG p o)(hq:iG q o)(wo:AE o)(hat:at'.length<=900000)(h2:¬(p.kind=2/\q.kind=2))(h3:¬(p.kind=3/\q.kind=3))(hm:mg f at' o p q=S9 at' o p q):∃u,uI f at' o p q u:=by
 have D1:=hp.1;have D2:=hq.1;by_cases k0:p.kind=0
 ·have e:mg f at' o p q=(JG q o,[]):=by rw[hm,S9,if_pos k0]
  refine⟨JG q o,hq.2.1,by rw[e,hq.2.2],fun v w C hC=>?_⟩;rw[e];refine Ao CR iS (Ab Aq (Ab Bc (Ab (Bz o) (Ab (AF p) (Ab (AF q) Ah))))) (Bz _) fun w0 I0 M0 m0=>?_;unfold Ca;simp[k0];refine Ag D2 iS ?_;simp[Aa];exact An (r0:=tX (JG q o)) (by simp[Et]) rfl (fun p=>by simp[Aa])
 by_cases q0:q.kind=0
 ·have e:mg f at' o p q=(JG p o,[]):=by rw[hm,S9,if_neg k0,if_pos q0]
  refine⟨JG p o,hp.2.1,by rw[e,hp.2.2],fun v w C hC=>?_⟩;rw[e];refine Ao CR iS (Ab Aq (Ab Bc (Ab (Bz o) (Ab (AF p) (Ab (AF q) Ah))))) (Bz _) fun w0 I0 M0 m0=>?_;unfold Ca;simp[k0,q0];refine Ag D1 iS ?_;simp[Aa];exact An (r0:=tX (JG p o)) (by simp[Et]) rfl (fun p=>by simp[Aa])
 have E:=Jf hp.2.1 hq.2.1;by_cases c:JG p o=JG q o
 ·have e:mg f at' o p q=(JG p o,[]):=by rw[hm,S9,if_neg k0,if_neg q0,if_pos c]
  rw[eqT_iff.2 (by rw[c])]at E;refine⟨JG p o,hp.2.1,by rw[e,hp.2.2],fun v w C hC=>?_⟩;rw[e];refine Ao CR iS (Ab Aq (Ab Bc (Ab (Bz o) (Ab (AF p) (Ab (AF q) Ah))))) (Bz _) fun w0 I0 M0 m0=>?_;unfold Ca;by_cases p2:p.kind=2
  ·have q2:¬q.kind=2:=fun h=>h2 ⟨p2,h⟩;obtain⟨kp,op,np,wp,ksp,lp,osp⟩:=p;have p2:kp=2:=p2;subst p2;simp[q0,q2];refine Ag D1 iS ?_;simp[Aa];refine Ag D2 iS ?_;simp[Aa];refine Ag E iS ?_;simp[Aa];exact An (r0:=tX (JG (.mk 2 op np wp ksp lp osp) o)) (by simp[Et]) rfl (fun p=>by simp[Aa])
  ·by_cases p3:p.kind=3
   ·have q3:¬q.kind=3:=fun h=>h3 ⟨p3,h⟩;obtain⟨kp,op,np,wp,ksp,lp,osp⟩:=p;have p3:kp=3:=p3;subst p3;simp[q0,q3];refine Ag D1 iS ?_;simp[Aa];refine Ag D2 iS ?_;simp[Aa];refine Ag E iS ?_;simp[Aa];exact An (r0:=tX (JG (.mk 3 op np wp ksp lp osp) o)) (by simp[Et]) rfl (fun p=>by simp[Aa])
   ·simp[k0,p2,p3,q0];refine Ag D1 iS ?_;simp[Aa];refine Ag D2 iS ?_;simp[Aa];refine Ag E iS ?_;simp[Aa];exact An (r0:=tX (JG p o)) (by simp[Et]) rfl (fun p=>by simp[Aa])
 ·have e:mg f at' o p q=(Af o,[⟨at',Af o,JG p o,JG q o⟩]):=by rw[hm,S9,if_neg k0,if_neg q0,if_neg c]
  have ef:J2 (JG p o) (JG q o)=false:=by
   cases h:J2 (JG p o) (JG q o) with
   |false=>rfl
   |true=>
    have:=eqT_iff.1 h;rw[hp.2.2,hq.2.2]at this;exact absurd this c
  rw[ef]at E;refine⟨o,wo,by rw[e],fun v w C hC=>?_⟩;rw[e]at hC ⊢;have CL:=Qs (l:=at') (b:=o) (o:=JG p o) (t:=JG q o) oF wo hp.2.1 hq.2.1 v w (C:=C) (by simp at hC;omega);rw[hp.2.2,hq.2.2]at CL;refine Ao CR iS (Ab Aq (Ab Bc (Ab (Bz o) (Ab (AF p) (Ab (AF q) Ah))))) (Bz _) fun w0 I0 M0 m0=>?_;unfold Ca;by_cases p2:p.kind=2
  ·have q2:¬q.kind=2:=fun h=>h2 ⟨p2,h⟩;obtain⟨kp,op,np,wp,ksp,lp,osp⟩:=p;have p2:kp=2:=p2;subst p2;simp[q0,q2];refine Ag D1 iS ?_;simp[Aa];refine Ag D2 iS ?_;simp[Aa];refine Ag E iS ?_;simp[Aa];refine Ap 0 CL (fun p=>by simp[Aa]) iS iS ?_;simp[Aa];exact An (r0:=tX o) (by simp[Et]) rfl (fun p=>by simp[Aa])
  ·by_cases p3:p.kind=3
   ·have q3:¬q.kind=3:=fun h=>h3 ⟨p3,h⟩;obtain⟨kp,op,np,wp,ksp,lp,osp⟩:=p;have p3:kp=3:=p3;subst p3;simp[q0,q3];refine Ag D1 iS ?_;simp[Aa];refine Ag D2 iS ?_;simp[Aa];refine Ag E iS ?_;simp[Aa];refine Ap 0 CL (fun p=>by simp[Aa]) iS iS ?_;simp[Aa];exact An (r0:=tX o) (by simp[Et]) rfl (fun p=>by simp[Aa])
   ·simp[k0,p2,p3,q0];refine Ag D1 iS ?_;simp[Aa];refine Ag D2 iS ?_;simp[Aa];refine Ag E iS ?_;simp[Aa];refine Ap 0 CL (fun p=>by simp[Aa]) iS iS ?_;simp[Aa];exact An (r0:=tX o) (by simp[Et]) rfl (fun p=>by simp[Aa])
theorem vj{at':Di}{o:T}{p q:E}{u:T}(hp:p.kind=2)(hq:q.kind=2){v w:Nat}{C C':List Cf}(S:SpecF Tryz.prog 55 (fun r=>[.pob [r] v 0,D3 at',tX o,eX p,eX q]) (Ps v w C) (fun _=>tX u) (Ps v w C')) :
  SpecF Tryz.prog 34 (fun r=>[.pob [r] v 0,D3 at',tX o,eX p,eX q]) (Ps v w C) (fun _=>tX u) (Ps v w C'):=by
 refine Ao CR iS (Ab Aq (Ab Bc (Ab (Bz o) (Ab (AF p) (Ab (AF q) Ah))))) (Bz _) fun w0 I0 M0 m0=>?_;obtain⟨kp,op,np,wp,ksp,lp,osp⟩:=p;obtain⟨kq,oq,nq,wq,ksq,lq,osq⟩:=q;have hp:kp=2:=hp;have hq:kq=2:=hq;subst hp;subst hq;unfold Ca;simp;refine Ap 0 S (fun p=>by simp[Aa]) iS iS ?_;simp[Aa];exact An (r0:=tX u) (by simp[Et]) rfl (fun p=>by simp[Aa])
theorem pV{at':Di}{o:T}{p q:E}{u:T}(hp:p.kind=3)(hq:q.kind=3){v w:Nat}{C C':List Cf}(S:SpecF Tryz.prog 56 (fun r=>[.pob [r] v 0,D3 at',tX o,eX p,eX q]) (Ps v w C) (fun _=>tX u) (Ps v w C')) :
  SpecF Tryz.prog 34 (fun r=>[.pob [r] v 0,D3 at',tX o,eX p,eX q]) (Ps v w C) (fun _=>tX u) (Ps v w C'):=by
 refine Ao CR iS (Ab Aq (Ab Bc (Ab (Bz o) (Ab (AF p) (Ab (AF q) Ah))))) (Bz _) fun w0 I0 M0 m0=>?_;obtain⟨kp,op,np,wp,ksp,lp,osp⟩:=p;obtain⟨kq,oq,nq,wq,ksq,lq,osq⟩:=q;have hp:kp=3:=hp;have hq:kq=3:=hq;subst hp;subst hq;unfold Ca;simp;refine Ap 0 S (fun p=>by simp[Aa]) iS iS ?_;simp[Aa];exact An (r0:=tX u) (by simp[Et]) rfl (fun p=>by simp[Aa])
def m4(f:Nat)(e:E)(x y:T):Prop:=Ld f e x y/\Nh e/\AE x/\AE y/\Sq f x/\Sq f y
theorem a0{f:Nat}{k:T}(w:AE k)(s:Sq f k):m4 f E0 k k:=⟨QP (.inl ⟨rfl,rfl⟩),Dh,w,w,s,s⟩
def LdR(f:Nat)(e:E)(x y:T):Prop:=∃z,Ld f e x z/\AE z/\Sq f z
theorem KO{a b:List Int}{p:Nat}{ws:List WE}(h:Jn a b p ws):ws.length+p<=max p (max a.length b.length):=by
 induction h with
 |nil p h=>simp;omega
 |cons p i m o n ws hp h hi hm ho hn h1 h2 _ ih=>
  rw[List.length_cons];omega
theorem AaG:∀(f:Nat)(p q:E)(o x y:T),m4 f p o x->m4 f q o y->∀at':Di,at'.length+f<=800000->∃u,uI f at' o p q u:=by
 intro f;induction f with
 |zero=>
  intro p q o x y hp hq at' hat;have D1:=(Wy hp.2.1 hp.2.2.1 hp.2.2.2.1 hp.2.2.2.2.1 hp.2.2.2.2.2 hp.1).1;have D2:=(Wy hq.2.1 hq.2.2.1 hq.2.2.2.1 hq.2.2.2.2.1 hq.2.2.2.2.2 hq.1).1;have k1:p.kind=0\/p.kind=1:=by
   rcases hp.1 with ⟨rfl,_⟩|⟨_,_,rfl,_⟩
   ·exact .inl rfl
   ·exact .inr rfl
  exact Yc D1 D2 hp.2.2.1 oF (fun h=>oF) (fun h=>oF) rfl
 |succ f ih=>
  intro p q o x y hp hq at' hat;have D1:=(Wy hp.2.1 hp.2.2.1 hp.2.2.2.1 hp.2.2.2.2.1 hp.2.2.2.2.2 hp.1).1;have D2:=(Wy hq.2.1 hq.2.2.1 hq.2.2.2.1 hq.2.2.2.2.1 hq.2.2.2.2.2 hq.1).1;by_cases k2:p.kind=2/\q.kind=2
  ·obtain⟨hp1,hp2,hp3,hp4,hp5,hp6⟩:=hp;obtain⟨hq1,hq2,hq3,hq4,hq5,hq6⟩:=hq;rcases hp1 with h|⟨ws,ks,rfl,h1,h2,h3,h4⟩|⟨os,rfl,h1,h2,hv,h3⟩
   ·rcases h with ⟨rfl,_⟩|⟨_,_,rfl,_⟩<;>exact absurd k2.1 iS
   rotate_left
   ·exact absurd k2.1 iS
   rcases hq1 with g|⟨ws',ks',rfl,g1,g2,g3,g4⟩|⟨os',rfl,g1,g2,gv,g3⟩
   ·rcases g with ⟨rfl,_⟩|⟨_,_,rfl,_⟩<;>exact absurd k2.2 iS
   rotate_left
   ·exact absurd k2.2 iS
   have P:=wfE_iff.1 hp2;have Q:=wfE_iff.1 hq2;have pwl:ws.length*32<=140737488355328:=P.wl;have pkl:ks.length*208<=140737488355328:=P.kl;have qwl:ws'.length*32<=140737488355328:=Q.wl;have qkl:ks'.length*208<=140737488355328:=Q.kl;have lw:=KO h3;have lw':=KO g3;have s1:=hp5.1;have s2:=hp5.2.1;have s3:=hp6.1;have s4:=hp6.2.1;have s5:=hq6.1;have s6:=hq6.2.1;have hk:∀i:Nat,∃u,uI f (at'++[(0,(i:Int))]) (o.kids.getD i T0) (Ek ks i) (Ek ks' i) u:=fun i=>by
    have a1:Ld f (Ek ks i) (o.kids.getD i T0) (x.kids.getD i T0):=ai (fun x y h=>QP (.inl ⟨rfl,h⟩)) h4 i (Nat.zero_le _);have a2:Ld f (Ek ks' i) (o.kids.getD i T0) (y.kids.getD i T0):=ai (fun x y h=>QP (.inl ⟨rfl,h⟩)) g4 i (Nat.zero_le _);exact ih _ _ _ _ _ ⟨a1,gP Dh (fun x h=>(P.ks x h).2) i,IJ hp3 i,IJ hp4 i,PG hp5 i,PG hp6 i⟩ ⟨a2,gP Dh (fun x h=>(Q.ks x h).2) i,IJ hp3 i,IJ hq4 i,PG hp5 i,PG hq6 i⟩ _ (by rw[List.length_append];simp;omega)
   obtain⟨u,u1,u2,u3⟩:=o5 (f:=f) (at':=at') oF hp3 (p:=.mk 2 T0 T0 ws ks 0 []) (q:=.mk 2 T0 T0 ws' ks' 0 []) h3 g3 h4 g4 oF oF oF ⟨by show ws.length<=_;omega,by show ks.length<=_;omega⟩ ⟨by show ws'.length<=_;omega,by show ks'.length<=_;omega⟩ hk;have em:mg (f+1) at' o (.mk 2 T0 T0 ws ks 0 []) (.mk 2 T0 T0 ws' ks' 0 [])=nR (mg f) at' o (.mk 2 T0 T0 ws ks 0 []) (.mk 2 T0 T0 ws' ks' 0 []):=by rw[mg,if_pos ⟨rfl,rfl⟩]
   refine⟨u,u1,by rw[em];exact u2,fun v w C hC=>?_⟩;rw[em]at hC ⊢;exact vj rfl rfl (u3 v w C hC)
  ·by_cases k3:p.kind=3/\q.kind=3
   ·obtain⟨hp1,hp2,hp3,hp4,hp5,hp6⟩:=hp;obtain⟨hq1,hq2,hq3,hq4,hq5,hq6⟩:=hq;rcases hp1 with h|⟨ws,ks,rfl,h1,h2,h3,h4⟩|⟨os,rfl,h1,h2,hv,h3⟩
    ·rcases h with ⟨rfl,_⟩|⟨_,_,rfl,_⟩<;>exact absurd k3.1 iS
    ·exact absurd k3.1 iS
    rcases hq1 with g|⟨ws',ks',rfl,g1,g2,g3,g4⟩|⟨os',rfl,g1,g2,gv,g3⟩
    ·rcases g with ⟨rfl,_⟩|⟨_,_,rfl,_⟩<;>exact absurd k3.2 iS
    ·exact absurd k3.2 iS
    have P:=wfE_iff.1 hp2;have Q:=wfE_iff.1 hq2;have O:=wfT_iff.1 hp3;have X:=wfT_iff.1 hp4;have Y:=wfT_iff.1 hq4;have s2:=hp5.2.1;have s4:=hp6.2.1;have s6:=hq6.2.1;have h3':LdO (LdR f) os o.kids x.kids:=VD h3 fun e a b ha hb r=>⟨b,r,X.ks b hb,hp6.2.2 b hb⟩;have g3':LdO (LdR f) os' o.kids y.kids:=VD g3 fun e a b ha hb r=>⟨b,r,Y.ks b hb,hq6.2.2 b hb⟩;obtain⟨f1,f2,f3⟩:=Hi h3;obtain⟨e1,e2,e3⟩:=Hi g3;obtain⟨l,t1,t2,t3,t4⟩:=ji (os.length+os'.length+2*o.kids.length) os os' o.kids x.kids y.kids h3' g3' (f3 oF oF) (e3 oF oF) (CX _);have hW:=vO t1 (fun o ho=>⟨(P.os o ho).l,(P.os o ho).e⟩) (fun o ho=>⟨(Q.os o ho).l,(Q.os o ho).e⟩);have hI:=lL t1;have hR:∀(i:Nat)(h:i<o.kids.length)(o1 o2:OP),.both o1 o2∈l->XI (LdR f) o1 o.kids[i]->XI (LdR f) o2 o.kids[i]->((o1.kind=0/\o1.e=E0)\/(o1.kind=1/\o1.e=E0)\/(o1.kind=3/\iG o1.e o.kids[i]))/\((o2.kind=0/\o2.e=E0)\/(o2.kind=1/\o2.e=E0)\/(o2.kind=3/\iG o2.e o.kids[i]))/\∃u,uI f (at'++[(0,(i:Int))]) o.kids[i] o1.e o2.e u:=fun i hi o1 o2 hm a1 a2=>by
     have wk:AE o.kids[i]:=O.ks _ (De hi);have sk:Sq f o.kids[i]:=hp5.2.2 _ (De hi);have W:=hW _ hm;have one:∀oo:OP,vY oo->XI (LdR f) oo o.kids[i]->((oo.kind=0/\oo.e=E0)\/(oo.kind=1/\oo.e=E0)\/(oo.kind=3/\iG oo.e o.kids[i]))/\∃z,m4 f oo.e o.kids[i] z:=fun oo w a=>by
      rcases a with ⟨k0,e0⟩|⟨k0,e0⟩|⟨k0,x',z,hz1,hz2,hz3⟩
      ·exact⟨.inl ⟨k0,e0⟩,o.kids[i],by rw[e0];exact a0 wk sk⟩
      ·exact⟨.inr (.inl ⟨k0,e0⟩),o.kids[i],by rw[e0];exact a0 wk sk⟩
      ·exact⟨.inr (.inr ⟨k0,(Wy w.2 wk hz2 sk hz3 hz1).1⟩),z,hz1,w.2,wk,hz2,sk,hz3⟩
     obtain⟨r1,z1,q1⟩:=one o1 W.1 a1;obtain⟨r2,z2,q2⟩:=one o2 W.2 a2;exact⟨r1,r2,ih _ _ _ _ _ q1 q2 _ (by rw[List.length_append];simp;omega)⟩
    have t4':=t4 (mg f) at' o.kind [] [] 0;simp only[List.map_nil,List.nil_append]at t4';obtain⟨us,u1,u2,u3,u4⟩:=fR (f:=f) (at':=at') oF hp3 oF (R:=LdR f) (p:=.mk 3 T0 T0 [] [] o.kind os) (q:=.mk 3 T0 T0 [] [] o.kind os') t1 (f3 oF oF) (e3 oF oF) (by show os.length<=_;omega) (by show os'.length<=_;omega) oF t3 oF t4' (fun oo h=>by
     rcases h with h|h
     ·exact(hW _ h).1.1
     ·exact(hW _ h).2.1) hR
    have em:mg (f+1) at' o (.mk 3 T0 T0 [] [] o.kind os) (.mk 3 T0 T0 [] [] o.kind os')=(Af (.mk o.kind [] (N7 (mg f) at' o.kind o.kids (Mc os) (Mc os') 0).1),(N7 (mg f) at' o.kind o.kids (Mc os) (Mc os') 0).2):=by rw[mg,if_neg iS,if_pos ⟨rfl,rfl⟩];rfl
    refine⟨.mk o.kind [] us,wfT_iff.2 ⟨O.k,iS,iS,by show us.length*56<=_;omega,u1⟩,?_,fun v w C hC=>?_⟩
    ·rw[em];refine(LI oF oF).2 ⟨rfl,?_⟩;have u3':us.map Af=(N7 (mg f) at' o.kind o.kids (Mc os) (Mc os') 0).1:=u3;rw[<-u3',Ch]
    ·rw[em]at hC ⊢;exact pV rfl rfl (u4 v w C hC)
   ·have hm:mg (f+1) at' o p q=S9 at' o p q:=by rw[mg,if_neg k2,if_neg k3]
    exact Yc D1 D2 hp.2.2.1 oF k2 k3 hm
end Go.Proofs.YtlaapfplenlfaaaGreat
namespace Go.G
open Go
theorem SpecH.soft{P:Program}{f:FuncId}{k:Nat}{as' as2:List A}{Hc Hr:Hp}{r:A}(h:SpecH P f k as2 Hc r Hr)(e:A.softL as'=as2):SpecH P f k as' Hc r Hr:=by
 subst e;refine⟨h.1,fun w I M0 n μ vs hM hs hl ha=>h.2 w I M0 n μ vs hM hs (by simpa[BN]using hl) fun k y hk=>?_⟩;rw[BN,List.getElem?_map,Option.map_eq_some_iff]at hk;obtain⟨y',hy,rfl⟩:=hk;exact(ha k y' hy).soft
theorem SpecF.soft{P:Program}{f:FuncId}{as' as2:Nat->List A}{F F':Fam}{x:Nat->A}(h:SpecF P f as2 F x F')(fa:FamL as')(e:A.softL (as' 0)=as2 0):SpecF P f as' F x F':=
 ⟨fa,h.fx,h.h.soft e⟩
end Go.G
namespace Go.Proofs.YtlaapfplenlfaaaGreat
open Go Go.G Go.Proofs Go.PL
theorem yb{H:Hp}{o:Nm}{u n:Nat}{l:List Cf}(h:vr (H o) u=some (10,l.map xp))(hn:n=l.length):Jl H (.osl o u 10 0 n) (cfs l):=
 CI h hn fun x=>by simp[xp]
theorem ia{f:Nat}{p q:E}{o x y:T}(hp:m4 f p o x)(hq:m4 f q o y)(hf:f<=800000)(hc:(mg f [] o p q).2.length<=100000000000):G.Spec Tryz.prog 14 [tX o,eX p,eX q] (.tup [tX (mg f [] o p q).1,cfs (mg f [] o p q).2,bv true]):=by
 obtain⟨u,u1,u2,u3⟩:=AaG f p q o x y hp hq [] (by simpa using hf);obtain⟨x',x1,x2⟩:=fF f p o x hp.2.1 hp.2.2.1 hp.2.2.2.1 (PE f o hp.2.2.2.2.1) (PE f x hp.2.2.2.2.2) hp.1;obtain⟨y',y1,y2⟩:=fF f q o y hq.2.1 hq.2.2.1 hq.2.2.2.1 (PE f o hq.2.2.2.2.1) (PE f y hq.2.2.2.2.2) hq.1;have A1:=I9 x1;have A2:=I9 y1;have S:=u3 1 1 [] (by simpa using hc);have S':SpecF Tryz.prog 34 (fun r=>[.pob [r] 1 0,.sl true [],tX o,eX p,eX q]) (Ps 1 1 []) (fun _=>tX u) (Ps 1 1 (mg f [] o p q).2):=S.soft (Ab Aq (Ab Bc (Ab (Bz o) (Ab (AF p) (Ab (AF q) Ah))))) (by simp[A.softL,A.soft,JD,FZ,N9,Rc,QX]);have N:=DM u u1;rw[u2]at N;generalize mg f [] o p q=M at *;refine Ak XG iS fun w0 I0=>?_;unfold PR;simp;refine Ag A1 iS ?_;simp[Aa];refine Ag A2 iS ?_;simp[Aa];refine GP (BO (d:=[6]) (u:=1) (cs:=[.sl true []]) 0 [6,0] 10 iS rfl iS) (Gk ?_);simp[Aa];refine Ap 6 S' (fun p=>?_) iS iS ?_
 ·by_cases p1:p=[]
  ·subst p1;simp[Aa]
  ·by_cases p2:p=[0]
   ·subst p2;simp[Aa]
   ·simp[Aa,p1,p2,Gz,Ne.symm p1,Ne.symm p2]
 simp[Aa];refine Ag N iS ?_;simp[Aa];refine EZ ⟨Ae iS,yb ?_ rfl,Ae rfl,trivial⟩;simp[Aa]
noncomputable def Jt(most:Int)(o x y:T):T × List Cf:=mg 1000 [] (Af o) (JB most o x) (JB most o y)
theorem Og{t:T}(pt:Bk t<=1000):Bk (Af t)<=1000:=by
 have:=kL t;omega
theorem aj{a b:T}(ha:AE a)(hb:AE b)(pa:Bk a<=1000)(pb:Bk b<=1000){da db:Nat}(ra:C9 da a=true)(rb:C9 db b=true){most:Int}:m4 1000 (JB most a b) (Af a) (Af b):=
 ⟨AaO ha hb pa pb ra rb,AaH ha hb pa pb,CY a ha,CY b hb,Wn 1000 (Af a) (by have:=Og pa;omega),Wn 1000 (Af b) (by have:=Og pb;omega)⟩
mutual
def Gu:E->Nat
 |.mk _ _ _ ws ks _ os=>1+ws.length+qX ks+xk os
def qX:List KE->Nat
 |[]=>0
 |.mk _ e::l=>Gu e+qX l
def xk:List OP->Nat
 |[]=>0
 |.mk k _ t e::l=>(if k=0 then 0 else if k=1\/k=2 then t.length else Gu e)+xk l
end
theorem WG(k:Int)(o n:T)(ws:List WE)(ks:List KE)(l:Int)(os:List OP):Gu (.mk k o n ws ks l os)=1+ws.length+qX ks+xk os:=by rw[Gu]
@[simp]theorem AjU:qX []=0:=by rw[qX]
theorem gI(x:KE)(l:List KE):qX (x::l)=Gu x.e+qX l:=by cases x;rw[qX];rfl
@[simp]theorem AiU:xk []=0:=by rw[xk]
theorem NJ(x:OP)(l:List OP):xk (x::l)=(if x.kind=0 then 0 else if x.kind=1\/x.kind=2 then x.l.length else Gu x.e)+xk l:=by cases x;rw[xk];rfl
theorem rM(e:E):1<=Gu e:=by
 cases e;rw[WG];omega
theorem l9{α:Type}(at_:α->Int)(G:α->Nat)(k:α):∀m:Nat,((List.range m).map fun i:Nat=>if at_ k=(i:Int)then G k else 0).sum<=G k
 |0=>iS
 |m+1=>by
  have ih:=l9 at_ G k m;rw[List.range_succ,List.map_append,List.sum_append];by_cases h:at_ k=(m:Int)
  ·have z:((List.range m).map fun i:Nat=>if at_ k=(i:Int)then G k else 0).sum=0:=by
    refine List.sum_eq_zero_iff_forall_eq_nat.2 fun x hx=>?_;obtain⟨i,hi,rfl⟩:=List.mem_map.1 hx;have:=List.mem_range.1 hi;rw[if_neg oF]
   rw[z];simp[h]
  ·simp[h];exact ih
def gF{α:Type}(at_:α->Int)(G:α->Nat)(ks:List α)(i:Nat):Nat:=match ks.find? (fun k=>decide (at_ k=(i:Int))) with
 |some k=>G k
 |none=>0
theorem zP{α:Type}(at_:α->Int)(G:α->Nat)(k:α)(ks:List α)(i:Nat):gF at_ G (k::ks) i<=(if at_ k=(i:Int)then G k else 0)+gF at_ G ks i:=by
 by_cases c:at_ k=(i:Int)
 ·have:gF at_ G (k::ks) i=G k:=by unfold gF;rw[List.find?_cons,decide_eq_true c]
  rw[this,if_pos c];omega
 ·have:gF at_ G (k::ks) i=gF at_ G ks i:=by unfold gF;rw[List.find?_cons,decide_eq_false c]
  rw[this,if_neg c];omega
theorem Wi{α:Type}(at_:α->Int)(G:α->Nat)(m:Nat):∀ks:List α,((List.range m).map (gF at_ G ks)).sum<=(ks.map G).sum
 |[]=>by
  refine Nat.le_of_eq (List.sum_eq_zero_iff_forall_eq_nat.2 fun x hx=>?_);obtain⟨i,_,rfl⟩:=List.mem_map.1 hx;rfl
 |k::ks=>by
  have ih:=Wi at_ G m ks;have h1:=l9 at_ G k m;have key:∀l:List Nat,(l.map (gF at_ G (k::ks))).sum<=(l.map fun i:Nat=>if at_ k=(i:Int)then G k else 0).sum+(l.map (gF at_ G ks)).sum:=by
   intro l;induction l with
   |nil=>simp
   |cons i l ihl=>
    have:=zP at_ G k ks i;simp only[List.map_cons,List.sum_cons];omega
  have:=key (List.range m);rw[List.map_cons,List.sum_cons];omega
theorem Qf{α:Type}(L:Nat->List α)(g:Nat->Nat)(h:∀i,(L i).length<=g i):∀l:List Nat,(l.flatMap L).length<=(l.map g).sum
 |[]=>iS
 |i::l=>by
  have:=Qf L g h l;have:=h i;rw[List.flatMap_cons,List.length_append,List.map_cons,List.sum_cons];omega
theorem V0(k:Int):Db 0 k=0:=by
 show IntKind.u8.wrap ((BitVec.ofInt 8 0 &&& BitVec.ofInt 8 k).toNat:Nat)=0;simp;rfl
theorem Vy(at':Di)(i:Nat)(w:Int)(b:WE):Qb at' i w dW b=[]:=by
 unfold Qb;rw[if_neg];unfold FX;rw[V0,GL ⟨dO,dO⟩,GL ⟨dO,dO⟩];simp
theorem Ab3(at':Di)(i:Nat)(w:Int)(a b:WE):(Qb at' i w a b).length<=1:=by
 unfold Qb;split<;>simp
theorem ft(ws:List WE):(ws.map fun _=>1).sum=ws.length:=by induction ws<;>simp_all [Nat.add_comm]
theorem sN(at':Di)(o:List Int)(ps qs:List WE)(n:Nat):((List.range n).flatMap fun i:Nat=>Qb at' i (o.getD i 0) (CS ps i) (CS qs i)).length<=ps.length:=by
 have h1:=Qf (fun i:Nat=>Qb at' i (o.getD i 0) (CS ps i) (CS qs i)) (gF (fun k:WE=>k.at_) (fun _=>1) ps) (fun i=>by
  unfold gF;cases e:ps.find? (fun k=>decide (k.at_=(i:Int))) with
  |none=>
   have:CS ps i=dW:=by unfold CS;rw[e];rfl
   simp only[this,Vy];simp
  |some k=>exact Ab3 _ _ _ _ _) (List.range n)
 have h2:=Wi (fun k:WE=>k.at_) (fun _=>1) n ps;rw[ft]at h2;exact Nat.le_trans h1 h2
theorem mw:∀ks:List KE,(ks.map fun k=>Gu k.e).sum=qX ks
 |[]=>iS
 |k::ks=>by rw[List.map_cons,List.sum_cons,mw ks,gI]
theorem zB{M:Di->T->E->E->T × List Cf}(hM:∀at' o p q,(M at' o p q).2.length<=Gu p)(h0:∀at' o q,(M at' o E0 q).2=[])(at':Nat->Di)(o:Nat->T)(ps:List KE)(q:Nat->E)(n:Nat):((List.range n).flatMap fun i:Nat=>(M (at' i) (o i) (Ek ps i) (q i)).2).length<=qX ps:=by
 have h1:=Qf (fun i:Nat=>(M (at' i) (o i) (Ek ps i) (q i)).2) (gF (fun k:KE=>k.at_) (fun k=>Gu k.e) ps) (fun i=>by
  unfold gF;cases e:ps.find? (fun k=>decide (k.at_=(i:Int))) with
  |none=>
   have:Ek ps i=E0:=by unfold Ek;rw[e];rfl
   simp only[this,h0];simp
  |some k=>
   have:Ek ps i=k.e:=by unfold Ek;rw[e];rfl
   simp only[this];exact hM _ _ _ _) (List.range n)
 have h2:=Wi (fun k:KE=>k.at_) (fun k=>Gu k.e) n ps;rw[mw]at h2;exact Nat.le_trans h1 h2
def cU:U->Nat
 |.keep=>0
 |.del _=>1
 |.ins _=>1
 |.desc e=>Gu e
def Wj(us:List U):Nat:=(us.map cU).sum
theorem RL(u:U)(us:List U):Wj (u::us)=cU u+Wj us:=by simp[Wj]
theorem ca:∀us:List U,Wj us=(Ih us).length+Wj (FK us)
 |[]=>rfl
 |.ins t::us=>by rw[RL,Ih,FK,ca us,List.length_cons,cU];omega
 |.keep::us=>by simp[Ih,FK]
 |.del t::us=>by simp[Ih,FK]
 |.desc e::us=>by simp[Ih,FK]
theorem om(at':Di)(kind:Int)(n:Nat)(a b:List T):(Fx at' kind n a b).2.length<=a.length:=by
 unfold Fx;split
 ·simp
 ·rename_i h;have:0<a.length:=List.length_pos_iff.2 fun e=>h (.inl e);split<;>simp<;>omega
theorem tS{M:Di->T->E->E->T × List Cf}(hM:∀at' o p q,(M at' o p q).2.length<=Gu p)(h0:∀at' o q,(M at' o E0 q).2=[])(at':Di)(k:T)(u v:U):(B6 M at' k u v).2.length<=cU u:=by
 cases u<;>cases v<;>simp[B6,cU,eU,h0,hM,rM]
theorem AfY(us:List U):cU (de us)+Wj us.tail<=Wj us:=by
 cases us with
 |nil=>simp[de,cU,Wj]
 |cons u us=>rw[RL];simp[de]
theorem r9{M:Di->T->E->E->T × List Cf}(hM:∀at' o p q,(M at' o p q).2.length<=Gu p)(h0:∀at' o q,(M at' o E0 q).2=[])(at':Di)(kind:Int):∀(ks:List T)(us vs:List U)(n:Nat),(N7 M at' kind ks us vs n).2.length<=Wj us
 |[],us,vs,n=>by
  have:=om at' kind n (Ih us) (Ih vs);have:=ca us;rw[N7];omega
 |k::ks,us,vs,n=>by
  have h1:=om at' kind n (Ih us) (Ih vs);have h2:=ca us;have h3:=tS hM h0 (at'++[(0,(n:Int))]) k (de (FK us)) (de (FK vs));have h4:=r9 hM h0 at' kind ks (FK us).tail (FK vs).tail (n+1);have h5:=AfY (FK us);simp only[N7,List.length_append];omega
theorem x6(a b:List U):Wj (a++b)=Wj a+Wj b:=by simp[Wj]
theorem oI:∀os:List OP,Wj (Mc os)<=xk os
 |[]=>by simp[Mc,Wj]
 |o::os=>by
  have ih:=oI os;have rep:∀n,Wj (List.replicate n U.keep)=0:=fun n=>by simp[Wj,cU]
  have m1:∀l:List T,Wj (l.map .del)=l.length:=fun l=>by
   induction l with
   |nil=>simp[Wj]
   |cons x l ih=>rw[List.map_cons,RL,ih,cU,List.length_cons];omega
  have m2:∀l:List T,Wj (l.map .ins)=l.length:=fun l=>by
   induction l with
   |nil=>simp[Wj]
   |cons x l ih=>rw[List.map_cons,RL,ih,cU,List.length_cons];omega
  rw[DN,x6,NJ];unfold Qz;split
  ·rw[rep];omega
  ·split
   ·rename_i h;rw[m1,if_pos (.inl h)];omega
   ·split
    ·rename_i h;rw[m2,if_pos (.inr h)];omega
    ·rename_i h1 h2;have:Wj [.desc o.e]=Gu o.e:=by simp[Wj,cU]
     rw[this,if_neg oF];omega
theorem Afd:∀(f:Nat)(at':Di)(o:T)(p q:E),(mg f at' o p q).2.length<=Gu p:=by
 have base:∀(at':Di)(o:T)(p q:E),(S9 at' o p q).2.length<=Gu p:=fun at' o p q=>by
  have:=rM p;unfold S9;split
  ·simp
  ·split
   ·simp
   ·split
    ·simp
    ·simpa using this
 intro f;induction f with
 |zero=>exact base
 |succ f ih=>
  intro at' o p q;have h0:∀at' o q,(mg f at' o E0 q).2=[]:=fun at' o q=>by rw[aX rfl]
  obtain⟨k,oo,nn,ws,ks,l,os⟩:=p;rw[mg];split
  ·rw[WG];have h1:=sN at' o.words ws q.words (DK (DK o.words.length ws) q.words);have h2:=zB ih h0 (fun i=>at'++[(0,(i:Int))]) (fun i=>o.kids.getD i T0) ks (fun i=>Ek q.kids i) (CV (CV o.kids.length ks) q.kids);unfold nR;simp only[E.words_mk,E.kids_mk,List.length_append];omega
  ·split
   ·rw[WG];have h1:=r9 ih h0 at' o.kind o.kids (Mc os) (Mc q.ops) 0;have h2:=oI os;simp only[E.ops_mk];omega
   ·exact base _ _ _ _
theorem Gl:∀a b:List T,Cy (a++b)=Cy a+Cy b
 |[],b=>iS
 |x::a,b=>by rw[List.cons_append,Dl,Dl,Gl a b];omega
theorem EH:∀l:List T,(l.length:Int)<=Cy l:=fun l=>Qi fun t _=>Ij t
theorem TF(l:List T){p i:Nat}(h:p<=i):Cy (l.drop i)<=Cy (l.drop p):=by
 have e:l.drop p=(l.drop p).take (i-p)++l.drop i:=by
  rw[show l.drop i=(l.drop p).drop (i-p)from by rw[List.drop_drop];congr 1;omega,List.take_append_drop]
 rw[e,Gl];have:=EH ((l.drop p).take (i-p));omega
theorem Yu(l:List T)(i:Nat):(i<l.length/\Cy (l.drop i)=Bk (l.getD i T0)+Cy (l.drop (i+1)))\/(l.length<=i/\Cy (l.drop i)=0/\Bk (l.getD i T0)=1/\Cy (l.drop (i+1))=0):=by
 by_cases h:i<l.length
 ·refine .inl ⟨h,?_⟩;rw[(List.getElem_cons_drop h).symm,Dl,List.getD_eq_getElem?_getD,List.getElem?_eq_getElem h];simp
 ·refine .inr ⟨oF,?_,?_,?_⟩
  ·rw[List.drop_eq_nil_of_le oF];simp
  ·rw[List.getD_eq_getElem?_getD,List.getElem?_eq_none oF];simp
  ·rw[List.drop_eq_nil_of_le oF];simp
theorem Abd{R:E->T->T->Prop}(hR:∀e x y,R e x y->(Gu e:Int)<=1+2*(Bk x-1+(Bk y-1))){a b:List T}{p:Nat}{ks:List KE}(h:MA R a b p ks):(qX ks:Int)<=2*(Cy (a.drop p)+Cy (b.drop p)):=by
 induction h with
 |nil p h=>
  have:=EH (a.drop p);have:=EH (b.drop p);simp;omega
 |cons p i e ks hp h hi he hr _ ih=>
  have h1:=hR _ _ _ hr;have h2:=TF a hp;have h3:=TF b hp;have h4:=EH (a.drop (i+1));have h5:=EH (b.drop (i+1));rw[gI];show((Gu e+qX ks:Nat):Int)<=_;rcases Yu a i with ⟨a1,a2⟩|⟨a1,a2,a3,a4⟩<;>rcases Yu b i with ⟨b1,b2⟩|⟨b1,b2,b3,b4⟩<;>omega
theorem Ab7{R:E->T->T->Prop}(hR:∀e x y,R e x y->(Gu e:Int)<=1+2*(Bk x-1+(Bk y-1))){os:List OP}{a b:List T}(h:LdO R os a b):(xk os:Int)<=2*(Cy a+Cy b):=by
 induction h with
 |nil=>simp
 |keep l m hne hl _ ih=>
  have h1:=EH l;have h2:=EH m;rw[NJ,Gl,Gl];simp;omega
 |del l m hne hl _ ih=>
  have h2:=EH m;have h3:l.length=m.length:=by simpa using congrArg List.length hl
  rw[NJ,Gl];simp;omega
 |ins l m hne hl _ ih=>
  have h2:=EH m;have h3:l.length=m.length:=by simpa using congrArg List.length hl
  rw[NJ,Gl];simp;omega
 |desc e x y r _ ih=>
  have h1:=hR _ _ _ r;rw[NJ,Dl,Dl];simp;omega
theorem Aio:∀(f:Nat)(e:E)(a b:T),Ld f e a b->(Gu e:Int)<=1+2*(Bk a-1+(Bk b-1)):=by
 have base:∀(e:E)(a b:T),mH e a b->(Gu e:Int)<=1+2*(Bk a-1+(Bk b-1)):=fun e a b h=>by
  have h1:=Ij a;have h2:=Ij b;rcases h with ⟨rfl,_⟩|⟨o,n,rfl,_⟩
  ·rw[WG];simp;omega
  ·rw[WG];simp;omega
 intro f;induction f with
 |zero=>exact fun e a b h=>base e a b h
 |succ f ih=>
  intro e a b h;rcases h with h|⟨ws,ks,rfl,h1,h2,h3,h4⟩|⟨os,rfl,h1,h2,hv,h3⟩
  ·exact base e a b h
  ·have w:=KO h3;have k:=Abd ih h4;obtain⟨ka,wa,la⟩:=a;obtain⟨kb,wb,lb⟩:=b;simp only[List.drop_zero,T.kids_mk,T.words_mk]at k w;have n1:=EH la;have n2:=EH lb;rw[WG,Ey,Ey];simp;omega
  ·have k:=Ab7 ih h3;obtain⟨ka,wa,la⟩:=a;obtain⟨kb,wb,lb⟩:=b;simp only[T.kids_mk]at k;rw[WG,Ey,Ey];simp;omega
theorem lP{o x y:T}(ho:AE o)(hx:AE x)(po:Bk o<=1000)(px:Bk x<=1000){da db:Nat}(ra:C9 da o=true)(rb:C9 db x=true)(most:Int):(Jt most o x y).2.length<=100000:=by
 have h1:=Afd 1000 [] (Af o) (JB most o x) (JB most o y);have h2:=Aio 1000 _ _ _ (AaO ho hx po px ra rb (most:=most));have h3:=Og po;have h4:=Og px;unfold Jt;omega
theorem gO{o x y:T}(ho:AE o)(hx:AE x)(hy:AE y)(po:Bk o<=1000)(px:Bk x<=1000)(py:Bk y<=1000){d1 d2 d3:Nat}(r1:C9 d1 o=true)(r2:C9 d2 x=true)(r3:C9 d3 y=true){most:Int}(hm:BD most) :
  G.Spec Tryz.prog 19 [tX o,tX x,tX y,iv most] (.tup [tX (Jt most o x y).1,cfs (Jt most o x y).2]):=by
 have N:=DM o ho;have D1:=K8 ho hx po px hm;have D2:=K8 ho hy po py hm;have L:=lP (y:=y) ho hx po px r1 r2 most;have M:=ia (aj (most:=most) ho hx po px r1 r2) (aj (most:=most) ho hy po py r1 r3) oF (by unfold Jt at L;omega);rw[show mg 1000 [] (Af o) (JB most o x) (JB most o y)=Jt most o x y from rfl]at M;generalize Jt most o x y=R at *;refine Ak Xr iS fun w0 I0=>?_;unfold PI;simp;refine Ag N iS ?_;simp;refine Ag D1 iS ?_;simp;refine Ag D2 iS ?_;simp;refine Ag M iS ?_;simp[Aa];exact EZ ⟨Ae iS,Am,trivial⟩
end Go.Proofs.YtlaapfplenlfaaaGreat
namespace Go.Proofs.YtlaapfplenlfaaaGreat
set_option maxRecDepth 20000
open Go Go.G Go.Proofs
@[simp]theorem AiS:D6 Tryz.prog 51=some true:=by kernel_rfl
@[simp]theorem AiI:D6 Tryz.prog 65=some true:=by kernel_rfl
@[simp]theorem sB:Aj Tryz.prog 51 0=some 0:=by kernel_rfl
@[simp]theorem sY:Aj Tryz.prog 51 1=some 1:=by kernel_rfl
@[simp]theorem w9:Aj Tryz.prog 51 2=some 4:=by kernel_rfl
@[simp]theorem vn:Aj Tryz.prog 51 3=some 7:=by kernel_rfl
@[simp]theorem Alw(x0 y0:Int)(x1 y1:Int):Xq Tryz.prog 100 65 (.agg [A.v (.int .i64 x0),A.v (.int .i64 x1)]) (.agg [A.v (.int .i64 y0),A.v (.int .i64 y1)])=some (((x0 == y0)&&((x1 == y1)&&(true)))):=by kernel_rfl
def L4:CC:=sR [aL 2 25 [0]] [0,2] (sR [mO 3 0,oO 4 (.buildSlice 22 1 #[(0,(xT 3))]),oO 5 (.build 25 #[(0,(nI 1)),(1,(xT 4))]),sT 25 2 5] [2] (.ret))
theorem SL:BT Tryz.prog 33 6 [(.cell 2 25)] L4:=AA Tryz.func33
def Kg:CC:=sR [bX 3 25 0 [0],bX 4 25 1 [1],bX 5 25 2 [2],aB 6 false] [3,4,5] (sR [lO 7 25 3,cA 8 39 7 25,mO 9 8,lG 10 25 4 9 true,oG 11 (cL 39 #[(xT 10)] #[25]) 9 true,pF 12 9 11,mO 13 12,lG 14 25 5 13 true,oG 15 (cL 39 #[(xT 14)] #[25]) 13 true,pF 16 13 15,aO 6 16] [6] (.ret))
theorem P6:BT Tryz.prog 18 17 [(.tmp 6)] Kg:=AA Tryz.func18
def J5:CC:=sR [aB 0 false] [] (sR [oO 4 (cL 33 #[(.const (.int .u64 1))] #[61]),oO 5 (cL 33 #[(.const (.int .u64 2))] #[61]),oO 6 (cL 33 #[(.const (.int .u64 3))] #[61]),oO 7 (cL 19 #[(xT 4),(xT 5),(xT 6),(nI 9)] #[25,25,25,3]),mO 3 7,xO 8 3 0,xO 9 3 1,aL 1 25 [0],sT 25 1 8,aO 2 9] [1,2] (sR [lS 10 25 1 0,⟨some 11,(cL 33 #[(.const (.int .u64 1))] #[61]),none,[],1,[0],false⟩,cB 12 16 10 11 25 25,mO 13 12,mG 14 2 13 true,oG 15 (bL 14 35) 13 true,oG 16 (.binOp .eql 3 (xT 15) (nI 1) 3) 13 true,pF 17 13 16,mO 18 17,mG 19 2 18 true,oG 20 (.indexAddr 35 (xT 19) (nI 0)) 18 true,fG 21 51 20 0 18 true,lG 22 49 21 18 true,oG 23 (bL 22 49) 18 true,oG 24 (.binOp .eql 3 (xT 23) (nI 1) 3) 18 true,pF 25 18 24,mO 26 25,mG 27 2 26 true,oG 28 (.indexAddr 35 (xT 27) (nI 0)) 26 true,fG 29 51 28 0 26 true,lG 30 49 29 26 true,oG 31 (.indexAddr 49 (xT 30) (nI 0)) 26 true,lG 32 65 31 26 true,oG 33 (.build 65 #[(0,(nI 1))]) 26 true,oG 34 (bO .eql 65 32 33 65) 26 true,pF 35 26 34,mO 36 35,mG 37 2 36 true,oG 38 (.indexAddr 35 (xT 37) (nI 0)) 36 true,fG 39 51 38 2 36 true,⟨some 40,(lD 25 39),(some (36,true)),[],30,[],true⟩,⟨some 41,(cL 33 #[(.const (.int .u64 2))] #[61]),(some (36,true)),[],31,[30],false⟩,oG 42 (cL 16 #[(xT 40),(xT 41)] #[25,25]) 36 true,pF 43 36 42,mO 44 43,mG 45 2 44 true,oG 46 (.indexAddr 35 (xT 45) (nI 0)) 44 true,fG 47 51 46 3 44 true,⟨some 48,(lD 25 47),(some (44,true)),[],38,[],true⟩,⟨some 49,(cL 33 #[(.const (.int .u64 3))] #[61]),(some (44,true)),[],39,[38],false⟩,oG 50 (cL 16 #[(xT 48),(xT 49)] #[25,25]) 44 true,pF 51 44 50,mO 52 51,mG 53 2 52 true,oG 54 (.indexAddr 35 (xT 53) (nI 0)) 52 true,fG 55 51 54 1 52 true,⟨some 56,(lD 25 55),(some (52,true)),[],46,[],true⟩,⟨some 57,(cL 33 #[(.const (.int .u64 1))] #[61]),(some (52,true)),[],47,[46],false⟩,oG 58 (cL 16 #[(xT 56),(xT 57)] #[25,25]) 52 true,pF 59 52 58,aO 0 59] [0] (.ret)))
theorem Qy:BT Tryz.prog 13 60 [(.tmp 0)] J5:=AA Tryz.func13
end Go.Proofs.YtlaapfplenlfaaaGreat
namespace Go.Proofs.YtlaapfplenlfaaaGreat
open Go Go.G Go.Proofs Go.PL
def CfW(c:Cf):Prop:=AE c.base/\AE c.ours/\AE c.theirs
variable {n0:Nat} {w0:World} {I0:Nat->Prop} {Q:Exit->Sta->Prop}
def UW(u:U):Prop:=match u with
 |.ins t=>AE t
 |.desc e=>Nh e
 |_=>True
theorem Aat{os:List OP}(h:∀o,o∈os->vY o):∀u,u∈Mc os->UW u:=by
 intro u hu;obtain⟨o,ho,hu⟩:=List.mem_flatMap.1 hu;have:=h o ho;unfold Qz at hu;split at hu
 ·rw[List.eq_of_mem_replicate hu];trivial
 ·split at hu
  ·obtain⟨t,_,rfl⟩:=List.mem_map.1 hu;trivial
  ·split at hu
   ·obtain⟨t,ht,rfl⟩:=List.mem_map.1 hu;exact this.1 t ht
   ·rw[List.mem_singleton.1 hu];exact this.2
theorem Qv:∀{us:List U},(∀u,u∈us->UW u)->(∀t,t∈Ih us->AE t)/\∀u,u∈FK us->UW u
 |[],_=>⟨fun t ht=>by simp[Ih]at ht,fun u hu=>by simp[FK]at hu⟩
 |.ins t::us,h=>by
  obtain⟨h1,h2⟩:=Qv fun u hu=>h u (List.mem_cons_of_mem _ hu);refine⟨fun x hx=>?_,h2⟩;rcases List.mem_cons.1 hx with rfl|hx
  ·exact h (.ins x) iS
  ·exact h1 x hx
 |.keep::us,h=>⟨fun t ht=>by simp[Ih]at ht,h⟩
 |.del t::us,h=>⟨fun t ht=>by simp[Ih]at ht,h⟩
 |.desc e::us,h=>⟨fun t ht=>by simp[Ih]at ht,h⟩
theorem s8{at':Di}{kind:Int}(hk:BD kind){n:Nat}{a b:List T}(ha:∀t,t∈a->AE t)(hb:∀t,t∈b->AE t)(la:a.length<=1000000)(lb:b.length<=1000000):∀c,c∈(Fx at' kind n a b).2->CfW c:=by
 intro c hc;unfold Fx at hc;have w:∀l:List T,(∀t,t∈l->AE t)->l.length<=1000000->AE (Af (.mk kind [] l)):=fun l h1 h2=>CY _ (wfT_iff.2 ⟨hk,iS,iS,by show l.length*56<=_;omega,h1⟩);split at hc
 ·simp at hc
 ·split at hc
  ·simp at hc
  ·rw[List.mem_singleton.1 hc];exact⟨w [] (fun t ht=>by simp at ht) iS,w a ha la,w b hb lb⟩
def DnW(e:E)(x:T):Prop:=AE (JG e x)
theorem yJ{M:Di->T->E->E->T × List Cf}{R:E->T->T->Prop}{W:T->Prop}(hW:∀k,W k->AE k)(hM:∀at' k p q x y,W k->R p k x->R q k y->∀c,c∈(M at' k p q).2->CfW c)(h0:∀k,W k->R E0 k k)(hD:∀e k x,W k->R e k x->DnW e k){at':Di}{k:T}(wk:W k){u v:U}(hu:∃x,R (eU u) k x)(hv:∃x,R (eU v) k x):∀c,c∈(B6 M at' k u v).2->CfW c:=by
 obtain⟨x,hx⟩:=hu;obtain⟨y,hy⟩:=hv;intro c hc;cases u<;>cases v<;>simp only[B6]at hc<;>first|exact hM _ _ _ _ _ _ wk hx hy c hc|(rw[List.mem_singleton.1 hc];exact⟨CY k (hW k wk),mS,hD _ _ _ wk hy⟩)|(rw[List.mem_singleton.1 hc];exact⟨CY k (hW k wk),hD _ _ _ wk hx,mS⟩)|(simp at hc)
theorem bR{R:E->T->T->Prop}{us:List U}{k:T}{ks ys:List T}(h:LdU R us (k::ks) ys):∃y2,LdU R (FK us).tail ks y2/\(de (FK us)=.keep\/(∃t,de (FK us)=.del t)\/∃e x,de (FK us)=.desc e/\R e k x)/\y2.length<=ys.length/\(Ih us).length<=ys.length:=by
 obtain⟨y1,y2,rfl,h1,h2,h3⟩:=ZI h;have hl:(Ih us).length=y1.length:=by simpa using congrArg List.length h1
 cases e:FK us with
 |nil=>rw[e]at h2;cases h2
 |cons u vs=>
  rw[e]at h2;cases h2 with
  |keep x y hh g=>exact⟨_,g,.inl rfl,by simp;omega,by simp;omega⟩
  |del t x hh g=>exact⟨_,g,.inr (.inl ⟨t,rfl⟩),iS,by simp;omega⟩
  |ins t y hh g=>exact absurd e (h3 _ _)
  |desc ee x y hh g=>exact⟨_,g,.inr (.inr ⟨ee,y,rfl,hh⟩),by simp;omega,by simp;omega⟩
theorem Aai{M:Di->T->E->E->T × List Cf}{R:E->T->T->Prop}{W:T->Prop}(hW:∀k,W k->AE k)(hM:∀at' k p q x y,W k->R p k x->R q k y->∀c,c∈(M at' k p q).2->CfW c)(h0:∀k,W k->R E0 k k)(hD:∀e k x,W k->R e k x->DnW e k){at':Di}{kind:Int}(hk:BD kind):∀(ks:List T)(us vs:List U)(ys zs:List T)(n:Nat),(∀k,k∈ks->W k)->LdU R us ks ys->LdU R vs ks zs->(∀u,u∈us->UW u)->(∀u,u∈vs->UW u)->ys.length<=1000000->zs.length<=1000000->∀c,c∈(N7 M at' kind ks us vs n).2->CfW c
 |[],us,vs,ys,zs,n,_,hu,hv,wu,wv,ly,lz=>by
  obtain⟨y1,y2,rfl,h1,_,_⟩:=ZI hu;obtain⟨z1,z2,rfl,g1,_,_⟩:=ZI hv;have hl:(Ih us).length=y1.length:=by simpa using congrArg List.length h1
  have gl:(Ih vs).length=z1.length:=by simpa using congrArg List.length g1
  rw[List.length_append]at ly lz;rw[N7];exact s8 hk (Qv wu).1 (Qv wv).1 oF oF
 |k::ks,us,vs,ys,zs,n,wk,hu,hv,wu,wv,ly,lz=>by
  obtain⟨y2,a1,a2,a3,a4⟩:=bR hu;obtain⟨z2,b1,b2,b3,b4⟩:=bR hv;have ih:=Aai hW hM h0 hD (at':=at') hk ks (FK us).tail (FK vs).tail y2 z2 (n+1) (fun x hx=>wk x (List.mem_cons_of_mem _ hx)) a1 b1 (fun u hu=>(Qv wu).2 u (List.mem_of_mem_tail hu)) (fun u hu=>(Qv wv).2 u (List.mem_of_mem_tail hu)) oF oF;have wkk:=wk k iS;have ex:∀u:U,(u=.keep\/(∃t,u=.del t)\/∃e x,u=.desc e/\R e k x)->∃x,R (eU u) k x:=fun u h=>by
   rcases h with rfl|⟨t,rfl⟩|⟨e,x,rfl,h⟩
   ·exact⟨k,h0 k wkk⟩
   ·exact⟨k,h0 k wkk⟩
   ·exact⟨x,h⟩
  have hU:=yJ hW hM h0 hD (at':=at'++[(0,(n:Int))]) wkk (ex _ a2) (ex _ b2);intro c hc;simp only[N7,List.mem_append]at hc;rcases hc with hc|hc|hc
  ·exact s8 hk (Qv wu).1 (Qv wv).1 oF oF c hc
  ·exact hU c hc
  ·exact ih c hc
theorem nD{R R':E->T->T->Prop}{us:List U}{a b:List T}(h:LdU R us a b):(∀e,U.desc e∈us->Nh e)->(∀e x y,x∈a->y∈b->Nh e->R e x y->R' e x y)->LdU R' us a b:=by
 induction h with
 |nil=>exact fun _ _=>.nil
 |keep x y h g ih=>exact fun hw hR=>.keep x y h (ih (fun e he=>hw e (List.mem_cons_of_mem _ he)) fun e x y hx hy=>hR e x y (List.mem_cons_of_mem _ hx) (List.mem_cons_of_mem _ hy))
 |del t x h g ih=>exact fun hw hR=>.del t x h (ih (fun e he=>hw e (List.mem_cons_of_mem _ he)) fun e x y hx hy=>hR e x y (List.mem_cons_of_mem _ hx) hy)
 |ins t y h g ih=>exact fun hw hR=>.ins t y h (ih (fun e he=>hw e (List.mem_cons_of_mem _ he)) fun e x y hx hy=>hR e x y hx (List.mem_cons_of_mem _ hy))
 |desc e x y h g ih=>exact fun hw hR=>.desc e x y (hR e x y iS iS (hw e iS) h) (ih (fun e he=>hw e (List.mem_cons_of_mem _ he)) fun e x y hx hy=>hR e x y (List.mem_cons_of_mem _ hx) (List.mem_cons_of_mem _ hy))
theorem ti{R:E->T->T->Prop}{os:List OP}{a b:List T}(h:LdO R os a b)(hw:∀o,o∈os->Nh o.e):∀e,U.desc e∈Mc os->Nh e:=by
 intro e he;obtain⟨o,ho,he⟩:=List.mem_flatMap.1 he;unfold Qz at he;split at he
 ·exact absurd (List.eq_of_mem_replicate he) iS
 ·split at he
  ·obtain⟨t,_,h⟩:=List.mem_map.1 he;cases h
  ·split at he
   ·obtain⟨t,_,h⟩:=List.mem_map.1 he;cases h
   ·have:=List.mem_singleton.1 he;cases this;exact hw o ho
theorem AkK:∀(f:Nat)(at':Di)(o:T)(p q:E)(x y:T),m4 f p o x->m4 f q o y->∀c,c∈(mg f at' o p q).2->CfW c:=by
 have base:∀(f:Nat)(at':Di)(o:T)(p q:E)(x y:T),m4 f p o x->m4 f q o y->∀c,c∈(S9 at' o p q).2->CfW c:=fun f at' o p q x y hp hq c hc=>by
  unfold S9 at hc;split at hc
  ·simp at hc
  ·split at hc
   ·simp at hc
   ·split at hc
    ·simp at hc
    ·rw[List.mem_singleton.1 hc,HS hp.1,HS hq.1];exact⟨CY o hp.2.2.1,CY x hp.2.2.2.1,CY y hq.2.2.2.1⟩
 intro f;induction f with
 |zero=>exact base 0
 |succ f ih=>
  intro at' o p q x y hp hq c hc;rw[mg]at hc;split at hc
  ·rename_i k2;obtain⟨hp1,hp2,hp3,hp4,hp5,hp6⟩:=hp;obtain⟨hq1,hq2,hq3,hq4,hq5,hq6⟩:=hq;rcases hp1 with h|⟨ws,ks,rfl,h1,h2,h3,h4⟩|⟨os,rfl,h1,h2,hv,h3⟩
   ·rcases h with ⟨rfl,_⟩|⟨_,_,rfl,_⟩<;>exact absurd k2.1 iS
   rotate_left
   ·exact absurd k2.1 iS
   rcases hq1 with g|⟨ws',ks',rfl,g1,g2,g3,g4⟩|⟨os',rfl,g1,g2,gv,g3⟩
   ·rcases g with ⟨rfl,_⟩|⟨_,_,rfl,_⟩<;>exact absurd k2.2 iS
   rotate_left
   ·exact absurd k2.2 iS
   have P:=wfE_iff.1 hp2;have Q:=wfE_iff.1 hq2;unfold nR at hc;rcases List.mem_append.1 hc with hc|hc
   ·obtain⟨i,_,hc⟩:=List.mem_flatMap.1 hc;unfold Qb at hc;split at hc
    ·rw[List.mem_singleton.1 hc];exact⟨CY _ (J0 (Eb (wfT_iff.1 hp3).w i)),CY _ (J0 (BL _ _ _)),CY _ (J0 (BL _ _ _))⟩
    ·simp at hc
   ·obtain⟨i,_,hc⟩:=List.mem_flatMap.1 hc;have a1:Ld f (Ek ks i) (o.kids.getD i T0) (x.kids.getD i T0):=ai (fun x y h=>QP (.inl ⟨rfl,h⟩)) h4 i (Nat.zero_le _);have a2:Ld f (Ek ks' i) (o.kids.getD i T0) (y.kids.getD i T0):=ai (fun x y h=>QP (.inl ⟨rfl,h⟩)) g4 i (Nat.zero_le _);exact ih _ _ _ _ _ _ ⟨a1,gP Dh (fun x h=>(P.ks x h).2) i,IJ hp3 i,IJ hp4 i,PG hp5 i,PG hp6 i⟩ ⟨a2,gP Dh (fun x h=>(Q.ks x h).2) i,IJ hp3 i,IJ hq4 i,PG hp5 i,PG hq6 i⟩ c hc
  ·split at hc
   ·rename_i k2 k3;obtain⟨hp1,hp2,hp3,hp4,hp5,hp6⟩:=hp;obtain⟨hq1,hq2,hq3,hq4,hq5,hq6⟩:=hq;rcases hp1 with h|⟨ws,ks,rfl,h1,h2,h3,h4⟩|⟨os,rfl,h1,h2,hv,h3⟩
    ·rcases h with ⟨rfl,_⟩|⟨_,_,rfl,_⟩<;>exact absurd k3.1 iS
    ·exact absurd k3.1 iS
    rcases hq1 with g|⟨ws',ks',rfl,g1,g2,g3,g4⟩|⟨os',rfl,g1,g2,gv,g3⟩
    ·rcases g with ⟨rfl,_⟩|⟨_,_,rfl,_⟩<;>exact absurd k3.2 iS
    ·exact absurd k3.2 iS
    have P:=wfE_iff.1 hp2;have Q:=wfE_iff.1 hq2;have O:=wfT_iff.1 hp3;have X:=wfT_iff.1 hp4;have Y:=wfT_iff.1 hq4;have s4:=hp6.2.1;have s6:=hq6.2.1;have p1:=ti h3 (fun o ho=>(P.os o ho).e);have q1:=ti g3 (fun o ho=>(Q.os o ho).e);have u1:LdU (m4 f) (Mc os) o.kids x.kids:=nD (ZA h3) p1 fun e a b ha hb he r=>⟨r,he,O.ks a ha,X.ks b hb,hp5.2.2 a ha,hp6.2.2 b hb⟩;have u2:LdU (m4 f) (Mc os') o.kids y.kids:=nD (ZA g3) q1 fun e a b ha hb he r=>⟨r,he,O.ks a ha,Y.ks b hb,hp5.2.2 a ha,hq6.2.2 b hb⟩;exact Aai (W:=fun k=>AE k/\Sq f k) (fun k h=>h.1) (fun at' k p q x y _ h1 h2=>ih at' k p q x y h1 h2) (fun k h=>a0 h.1 h.2) (fun e k x _ h=>by
     unfold DnW;rw[HS h.1];exact CY x h.2.2.2.1) O.k o.kids (Mc os) (Mc os') x.kids y.kids 0 (fun k hk=>⟨O.ks k hk,hp5.2.2 k hk⟩) u1 u2 (Aat fun o ho=>⟨(P.os o ho).l,(P.os o ho).e⟩) (Aat fun o ho=>⟨(Q.os o ho).l,(Q.os o ho).e⟩) oF oF c hc
   ·exact base (f+1) at' o p q x y hp hq c hc
theorem xA:∀(f:Nat)(at':Di)(o:T)(p q:E),∀c,c∈(mg f at' o p q).2->c.path.length<=at'.length+f+1:=by
 have base:∀(at':Di)(o:T)(p q:E),∀c,c∈(S9 at' o p q).2->c.path.length<=at'.length:=fun at' o p q c hc=>by
  unfold S9 at hc;split at hc
  ·simp at hc
  ·split at hc
   ·simp at hc
   ·split at hc
    ·simp at hc
    ·rw[List.mem_singleton.1 hc];exact CX _
 have gap:∀(at':Di)(kind:Int)(n:Nat)(a b:List T),∀c,c∈(Fx at' kind n a b).2->c.path.length<=at'.length+1:=fun at' kind n a b c hc=>by
  unfold Fx at hc;split at hc
  ·simp at hc
  ·split at hc
   ·simp at hc
   ·rw[List.mem_singleton.1 hc];simp
 have lst:∀(f:Nat),(∀(at':Di)(o:T)(p q:E),∀c,c∈(mg f at' o p q).2->c.path.length<=at'.length+f+1)->∀(at':Di)(kind:Int)(ks:List T)(us vs:List U)(n:Nat),∀c,c∈(N7 (mg f) at' kind ks us vs n).2->c.path.length<=at'.length+f+2:=fun f ih at' kind ks=>by
  induction ks with
  |nil=>
   intro us vs n c hc;rw[N7]at hc;have:=gap _ _ _ _ _ c hc;omega
  |cons k ks ihk=>
   intro us vs n c hc;simp only[N7,List.mem_append]at hc;rcases hc with hc|hc|hc
   ·have:=gap _ _ _ _ _ c hc;omega
   ·generalize de (FK us)=u at hc;generalize de (FK vs)=v at hc;cases u<;>cases v<;>simp only[B6]at hc<;>first|(have:=ih _ _ _ _ c hc;simp at this;omega)|(rw[List.mem_singleton.1 hc];simp;omega)|(simp at hc)
   ·exact ihk _ _ _ c hc
 intro f;induction f with
 |zero=>
  intro at' o p q c hc;have:=base _ _ _ _ c hc;omega
 |succ f ih=>
  intro at' o p q c hc;rw[mg]at hc;split at hc
  ·unfold nR at hc;rcases List.mem_append.1 hc with hc|hc
   ·obtain⟨i,_,hc⟩:=List.mem_flatMap.1 hc;unfold Qb at hc;split at hc
    ·rw[List.mem_singleton.1 hc];simp
    ·simp at hc
   ·obtain⟨i,_,hc⟩:=List.mem_flatMap.1 hc;have:=ih _ _ _ _ c hc;simp at this;omega
  ·split at hc
   ·have:=lst f ih _ _ _ _ _ _ c hc;omega
   ·have:=base _ _ _ _ c hc;omega
section
variable {o x y:T} {most:Int}
structure Hz(t:T):Prop where
 w:AE t
 p:Bk t<=1000
 r:C9 64 t=true
theorem iP{t:T}(h:AE t)(g:Ie t=true):Hz t:=by
 have:=aJ g;exact⟨h,oF,this.2.1⟩
theorem AbN(ho:Hz o)(hx:Hz x)(hy:Hz y):(∀c,c∈(Jt most o x y).2->CfW c)/\(∀c,c∈(Jt most o x y).2->c.path.length<=10000000000000)/\(Jt most o x y).2.length<=10000000000000/\AE (Jt most o x y).1/\Af (Jt most o x y).1=(Jt most o x y).1:=by
 have l1:=aj (most:=most) ho.w hx.w ho.p hx.p ho.r hx.r;have l2:=aj (most:=most) ho.w hy.w ho.p hy.p ho.r hy.r;obtain⟨u,u1,u2,_⟩:=AaG 1000 _ _ _ _ _ l1 l2 [] iS;have L:=lP (y:=y) ho.w hx.w ho.p hx.p ho.r hx.r most;refine⟨AkK 1000 [] _ _ _ _ _ l1 l2,fun c hc=>?_,oF,?_,?_⟩
 ·have:=xA 1000 [] _ _ _ c hc;simp at this;omega
 ·show AE (mg 1000 [] (Af o) (JB most o x) (JB most o y)).1;rw[<-u2];exact CY u u1
 ·show Af (mg 1000 [] (Af o) (JB most o x) (JB most o y)).1=(mg 1000 [] (Af o) (JB most o x) (JB most o y)).1;rw[<-u2,B8]
theorem oE(ho:Hz o)(hx:Hz x)(hy:Hz y)(hm:BD most):G.Spec Tryz.prog 19 [tX o,tX x,tX y,iv most] (.tup [tX (Jt most o x y).1,cfs (Jt most o x y).2]):=gO ho.w hx.w hy.w ho.p hx.p hy.p ho.r hx.r hy.r hm
end
theorem kc{o x y:T}(ho:AE o)(hx:AE x)(hy:AE y):G.Spec Tryz.prog 18 [tX o,tX x,tX y] (bv (Ie o&&Ie x&&Ie y)):=by
 have G1:=NS ho;have G2:=NS hx;have G3:=NS hy;refine Ak P6 iS fun w0 I0=>?_;unfold Kg;simp;refine Ag G1 iS ?_;cases h1:Ie o with
 |false=>
  simp;refine BP rfl ?_;simp;refine BP rfl ?_;simp;exact Ae rfl
 |true=>
  simp;refine CD rfl (fun _=>G2) (fun _=>iS) iS ?_;cases h2:Ie x with
  |false=>
   simp;refine BP rfl ?_;simp;exact Ae rfl
  |true=>
   simp;refine CD rfl (fun _=>G3) (fun _=>iS) iS ?_;simp;exact Ae rfl
theorem Qk(w:Int):G.Spec Tryz.prog 33 [uv w] (tX (CT w)):=by
 refine Ak SL iS fun w0 I0=>?_;unfold L4;simp;exact CF ⟨Ae rfl,Am,Am,trivial⟩
theorem FP{w:Int}(h:w≠0):Af (CT w)=CT w:=by
 unfold CT;rw[Cw,if_neg dO,if_pos rfl];simp[EO,h]
theorem gM{a b:Int}(ha:a≠0)(hb:b≠0)(hne:a≠b)(hu:Eu a b≠0)(most:Int):JB most (CT a) (CT b)=.mk 2 T0 T0 [Z4 0 a b] [] 0 []:=by
 have he:J2 (CT a) (CT b)=false:=by
  rw[Bool.eq_false_iff];intro h;rw[eqT_iff,FP ha,FP hb]at h;exact hne (by simpa[CT]using h)
 unfold JB;rw[FP ha,FP hb,show(1000:Nat)=999+1 from rfl,El,he];rw[if_neg iS,if_pos (by simp[CT])];unfold eP;rw[EA];simp[HU,C7,CT,hu,List.range_succ]
theorem qp:Jt 9 (CT 1) (CT 2) (CT 3)=(CT 1,[⟨[(1,0)],CT 1,CT 2,CT 3⟩]):=by
 have u2:Eu 1 2=1:=dO
 have u3:Eu 1 3=1:=dO
 have d2:=gM (a:=1) (b:=2) dO dO dO (by rw[u2];decide) 9;have d3:=gM (a:=1) (b:=3) dO dO dO (by rw[u3];decide) 9;have c1:FX (Z4 0 1 2) (Z4 0 1 3)=true:=dO
 have m2:A5 1 (Z4 0 1 2).new (Z4 0 1 2).mask=2:=dO
 have m3:A5 1 (Z4 0 1 3).new (Z4 0 1 3).mask=3:=dO
 unfold Jt;rw[FP dO,d2,d3,show(1000:Nat)=999+1 from rfl,mg,if_pos ⟨rfl,rfl⟩];have t1:DK (DK (CT 1).words.length [Z4 0 1 2]) [Z4 0 1 3]=1:=dO
 have w2:CS [Z4 0 1 2] 0=Z4 0 1 2:=KR rfl;have w3:CS [Z4 0 1 3] 0=Z4 0 1 3:=KR rfl;unfold nR;simp only[E.words_mk,E.kids_mk,t1];have r1:List.range 1=[0]:=rfl;have k0:CV (CV (CT 1).kids.length []) []=0:=rfl;have r0:List.range 0=[]:=rfl;have o1:(CT 1).words.getD 0 0=1:=rfl;rw[k0,r0,r1];simp only[List.map_cons,List.map_nil,List.flatMap_cons,List.flatMap_nil,List.append_nil,w2,w3,o1,JE,Qb,c1,if_true,m2,m3,List.nil_append];rw[FP dO,FP dO,FP dO];rfl
theorem Mh{w:Int}(h0:0<=w)(h1:w<100):Hz (CT w):=by
 refine⟨J0 ⟨oF,oF⟩,by simp[CT],?_⟩;unfold CT;rw[Fj];simp[G6]
theorem ME:G.Spec Tryz.prog 13 [] (bv true):=by
 have T:=oE (o:=CT 1) (x:=CT 2) (y:=CT 3) (most:=9) (Mh dO dO) (Mh dO dO) (Mh dO dO) (by simp[BD]);rw[qp]at T;have O1:=Qk 1;have O2:=Qk 2;have O3:=Qk 3;have S:=fun w (h0:(0:Int)<=w) (h1:w<100)=>TD (CT w) (Mh h0 h1).w (CT w);have S1:=S 1 dO dO;have S2:=S 2 dO dO;have S3:=S 3 dO dO;rw[show GM (CT 1) (CT 1)=true from sameB_iff.2 rfl]at S1;rw[show GM (CT 2) (CT 2)=true from sameB_iff.2 rfl]at S2;rw[show GM (CT 3) (CT 3)=true from sameB_iff.2 rfl]at S3;refine Ak Qy iS fun w0 I0=>?_;unfold J5;simp;refine Ag O1 iS ?_;simp;refine Ag O2 iS ?_;simp;refine Ag O3 iS ?_;simp;refine Ag T iS ?_;simp[Aa];refine Ag O1 iS ?_;simp;refine Ag S1 iS ?_;simp;refine CD rfl (fun _=>O2) (fun _=>iS) iS ?_;simp;refine CD rfl (fun _=>S2) (fun _=>iS) iS ?_;simp;refine CD rfl (fun _=>O3) (fun _=>iS) iS ?_;simp;refine CD rfl (fun _=>S3) (fun _=>iS) iS ?_;simp;refine CD rfl (fun _=>O1) (fun _=>iS) iS ?_;simp;refine CD rfl (fun _=>S1) (fun _=>iS) iS ?_;simp;exact Ae rfl
theorem LZ{R R':E->T->T->Prop}{os:List OP}{a b:List T}(h:LdO R os a b):(∀o x y,o∈os->o.kind=3->x∈a->y∈b->R o.e x y->R' o.e x y)->LdO R' os a b:=by
 induction h with
 |nil=>exact fun _=>.nil
 |keep l m hne hl _ ih=>exact fun hR=>.keep l m hne hl (ih fun e x y ho hk hx hy=>hR e x y (List.mem_cons_of_mem _ ho) hk (List.mem_append_right _ hx) (List.mem_append_right _ hy))
 |del l m hne hl _ ih=>exact fun hR=>.del l m hne hl (ih fun e x y ho hk hx hy=>hR e x y (List.mem_cons_of_mem _ ho) hk (List.mem_append_right _ hx) hy)
 |ins l m hne hl _ ih=>exact fun hR=>.ins l m hne hl (ih fun e x y ho hk hx hy=>hR e x y (List.mem_cons_of_mem _ ho) hk hx (List.mem_append_right _ hy))
 |desc e x y r _ ih=>exact fun hR=>.desc e x y (hR (.mk 3 0 [] e) x y iS rfl iS iS r) (ih fun e x y ho hk hx hy=>hR e x y (List.mem_cons_of_mem _ ho) hk (List.mem_cons_of_mem _ hx) (List.mem_cons_of_mem _ hy))
theorem Acs{R R2:E->T->T->Prop}{list:Int}(hR:∀e x y,R e x y->(Hb list (Hn e)=true->Af x=Af y)/\(Hb list (Hn e)=false->R2 (Hn e) x y)){os:List OP}{a3 b3:List T}(h:LdO R os a3 b3):∀(out:List OP)(g d a1 b1 a2 b2:List T),LdO R2 out a1 b1->g.map Af=a2.map Af->d.map Af=b2.map Af->a1.length+a2.length+a3.length<=1000000000->LdO R2 (Dw list (os.map IY) out g d) (a1++(a2++a3)) (b1++(b2++b3)):=by
 induction h with
 |nil=>
  intro out g d a1 b1 a2 b2 h1 hg hd hb;rw[List.map_nil,Dw];simpa using NT h1 hg hd
 |keep l m hne hl _ ih=>
  intro out g d a1 b1 a2 b2 h1 hg hd hb;rw[List.length_append]at hb;rw[List.map_cons,Dw,if_pos (show(IY (.mk 0 ((l.length:Nat):Int) [] E0)).kind=0 from rfl)];have:=ih (Ni (Ji out g d) ((l.length:Nat):Int)) [] [] _ _ [] [] (Z5 (NT h1 hg hd) hne hl (by rw[List.length_append];omega)) rfl rfl (by simp only[List.length_append,List.length_nil];omega);simp at this ⊢;exact this
 |del l m hne hl _ ih=>
  intro out g d a1 b1 a2 b2 h1 hg hd hb;rw[List.length_append]at hb;rw[List.map_cons,Dw,if_neg (show ¬(IY (.mk 1 0 l E0)).kind=0 by show ¬(1:Int)=0;decide),if_pos (show(IY (.mk 1 0 l E0)).kind=1 from rfl)];have:=ih out (g++l.map Af) d a1 b1 (a2++m) b2 h1 (by rw[List.map_append,List.map_append,Ch,hg,hl]) hd (by rw[List.length_append];omega);simp at this ⊢;exact this
 |ins l m hne hl _ ih=>
  intro out g d a1 b1 a2 b2 h1 hg hd hb;rw[List.map_cons,Dw,if_neg (show ¬(IY (.mk 2 0 l E0)).kind=0 by show ¬(2:Int)=0;decide),if_neg (show ¬(IY (.mk 2 0 l E0)).kind=1 by show ¬(2:Int)=1;decide),if_pos (show(IY (.mk 2 0 l E0)).kind=2 from rfl)];have:=ih out g (d++l.map Af) a1 b1 a2 (b2++m) h1 hg (by rw[List.map_append,List.map_append,Ch,hd,hl]) oF;simp at this ⊢;exact this
 |desc e x y r _ ih=>
  intro out g d a1 b1 a2 b2 h1 hg hd hb;rw[List.length_cons]at hb;rw[List.map_cons,Dw,if_neg (show ¬(IY (.mk 3 0 [] e)).kind=0 by show ¬(3:Int)=0;decide),if_neg (show ¬(IY (.mk 3 0 [] e)).kind=1 by show ¬(3:Int)=1;decide),if_neg (show ¬(IY (.mk 3 0 [] e)).kind=2 by show ¬(3:Int)=2;decide)];obtain⟨r1,r2⟩:=hR e x y r;split
  ·rename_i hi;have hn:=r1 (show Hb list (Hn e)=true from hi);have:=ih (Ni (Ji out g d) (([x]:List T).length:Nat)) [] [] _ _ [] [] (Z5 (l:=[x]) (m:=[y]) (NT h1 hg hd) iS (by simp[hn]) (by rw[List.length_append];simp;omega)) rfl rfl (by simp only[List.length_append,List.length_nil,List.length_cons];omega);simp at this ⊢;exact this
  ·rename_i hi;have hi2:¬Hb list (Hn e)=true:=hi;have r':=r2 (by simpa using hi2);have:=ih (Ji out g d++[.mk 3 0 [] (Hn e)]) [] [] _ _ [] [] (Ex (NT h1 hg hd) (.desc (Hn e) x y r' .nil)) rfl rfl (by simp only[List.length_append,List.length_nil,List.length_cons];omega);simp at this ⊢;exact this
theorem sj:∀(f g:Nat)(t:T),SU g t->ah f t
 |0,g,t,_=>trivial
 |f+1,g,t,h=>⟨by have:=(Au h).2.2.2;omega,fun k hk=>sj f (g-1) k (BI h k hk)⟩
def Df(most:Int)(f:Nat)(p:E)(o x:T):Prop:=SU f o/\(∃g,SU g x)/\NW f o/\NW f x/\p=Hn (El most f o x)
section
variable {most:Int} {f:Nat} {p:E} {o x:T}
theorem s7(h:Df most f p o x):Ld f (El most f o x) o x:=by
 obtain⟨h1,⟨g,h2⟩,h3,h4,_⟩:=h;exact az most f g o x h1 h2 h3 h4
theorem Ct(h:Df most f p o x):Ld f p o x:=by
 have:=kO f _ _ _ (sj f f o h.1) (s7 h);rw[h.2.2.2.2];exact this
theorem Oq(h:Df most f p o x):p.kind=(El most f o x).kind:=by rw[h.2.2.2.2];exact dC (s7 h)
theorem SE(most:Int)(f:Nat)(o x:T):(El most f o x).kind=0↔Af o=Af x:=by
 rw[<-eqT_iff];cases f with
 |zero=>
  rw[El];by_cases h:J2 o x=true
  ·rw[if_pos h];exact⟨fun _=>h,fun _=>rfl⟩
  ·rw[if_neg h];exact⟨fun e=>absurd e (by show ¬(1:Int)=0;decide),fun e=>absurd e h⟩
 |succ f=>
  rw[El];by_cases h:J2 o x=true
  ·rw[if_pos h];exact⟨fun _=>h,fun _=>rfl⟩
  ·rw[if_neg h];refine⟨fun e=>?_,fun e=>absurd e h⟩;split at e
   ·exact absurd e (by show ¬(2:Int)=0;decide)
   ·split at e
    ·exact absurd e (by show ¬(3:Int)=0;decide)
    ·exact absurd e (by show ¬(1:Int)=0;decide)
theorem QQ(h:Df most f p o x):p.kind=0↔Af o=Af x:=by rw[Oq h,SE]
theorem Vh(most:Int)(f:Nat){o x:T}(h:Af o=Af x):El most f o x=E0:=by
 cases f<;>rw[El,if_pos (eqT_iff.2 h)]
theorem Ae5(h1:SU f o)(h3:NW f o):Df most f E0 o o:=⟨h1,⟨f,h1⟩,h3,h3,by rw[Vh most f rfl,Qx]⟩
def DfK(most:Int)(f:Nat)(e:E)(k y:T):Prop:=Df most f e k y/\e.kind≠0/\k.kind≠0/\y.kind≠0
theorem th(most:Int)(f:Nat)(y:T):El most f T0 y=(if J2 T0 y=true then E0 else .mk 1 T0 y [] [] 0 [])/\El most f y T0=(if J2 y T0=true then E0 else .mk 1 y T0 [] [] 0 []):=by
 cases f with
 |zero=>exact⟨by rw[El],by rw[El]⟩
 |succ f=>
  have n1:¬((T0:T).kind=1/\y.kind=1):=fun h=>absurd h.1 (by show ¬(0:Int)=1;decide);have n2:¬(y.kind=1/\(T0:T).kind=1):=fun h=>absurd h.2 (by show ¬(0:Int)=1;decide);have n3:¬((T0:T).kind=y.kind/\2<=(T0:T).kind/\(T0:T).kind<=9):=fun h=>absurd h.2.1 (by show ¬(2:Int)<=0;decide);have n4:¬(y.kind=(T0:T).kind/\2<=y.kind/\y.kind<=9):=fun h=>by have h1:y.kind=0:=h.1;omega
  exact⟨by rw[El,if_neg n1,if_neg n3],by rw[El,if_neg n2,if_neg n4]⟩
theorem n7{f:Nat}{t:T}(h:SU f t)(hk:t.kind=0):t=T0:=by
 have hn:=(Au h).2.1;obtain⟨k,w,l⟩:=t;have hk:k=0:=hk;subst hk;rw[Cw,if_pos rfl]at hn;exact hn.symm
theorem Ig(h:Df most (f+1) p o x)(hk:p.kind=2):o.kind=1/\x.kind=1/\p=.mk 2 T0 T0 (HU o x (max o.words.length x.words.length)) ((C7 (El most f) o x (max o.kids.length x.kids.length)).map Xf) 0 []:=by
 have e1:=Oq h;obtain⟨_,_,_,_,e⟩:=h;rw[hk,El]at e1;rw[El]at e;by_cases c:J2 o x=true
 ·rw[if_pos c]at e1;exact absurd e1 (by show ¬(2:Int)=0;decide)
 rw[if_neg c]at e e1;by_cases c2:o.kind=1/\x.kind=1
 ·rw[if_pos c2,eP,EA,if_neg dO,if_pos rfl]at e;exact⟨c2.1,c2.2,e⟩
 rw[if_neg c2]at e1;split at e1
 ·exact absurd e1 (by show ¬(2:Int)=3;decide)
 ·exact absurd e1 (by show ¬(2:Int)=1;decide)
theorem dv{ks:List KE}{i:Nat}(h:∀k,k∈ks->k.at_≠(i:Int)):Ek ks i=E0:=by
 unfold Ek;rw[List.find?_eq_none.2 fun k hk=>by simp[h k hk]];rfl
theorem vF{one:T->T->E}{a b:T}{i:Nat}:∀m:Nat,(i<m->one (a.kids.getD i T0) (b.kids.getD i T0)≠E0->(one (a.kids.getD i T0) (b.kids.getD i T0)).kind≠0)->Ek ((C7 one a b m).map Xf) i=if i<m then Hn (one (a.kids.getD i T0) (b.kids.getD i T0))else E0:=by
 intro m;induction m with
 |zero=>intro _;rw[if_neg oF];rfl
 |succ m ih=>
  intro h0;have hs:C7 one a b (m+1)=C7 one a b m++(if (one (a.kids.getD m T0) (b.kids.getD m T0)).kind=0 then []else [.mk m (one (a.kids.getD m T0) (b.kids.getD m T0))]):=by
   unfold C7;rw[List.range_succ,List.filterMap_append];congr 1;rw[List.filterMap_cons,List.filterMap_nil];split<;>split<;>simp_all
  rw[hs,List.map_append];have happ:∀(l m:List KE),Ek (l++m) i=if (∃k,k∈l/\k.at_=(i:Int))then Ek l i else Ek m i:=fun l m=>by
   unfold Ek;rw[List.find?_append];split
   ·rename_i hex;obtain⟨k,hk,hk2⟩:=hex;cases e:l.find? (fun k=>decide (k.at_=(i:Int))) with
    |none=>have:=List.find?_eq_none.1 e k hk;simp[hk2]at this
    |some z=>rfl
   ·rename_i hex;rw[List.find?_eq_none.2 fun k hk=>by simp;exact fun e=>hex ⟨k,hk,e⟩];rfl
  have hat:∀(n:Nat)(k:KE),k∈(C7 one a b n).map Xf->∃j:Nat,k.at_=j/\j<n/\(one (a.kids.getD j T0) (b.kids.getD j T0)).kind≠0:=fun n k hk=>by
   obtain⟨k2,hk2,rfl⟩:=List.mem_map.1 hk;unfold C7 at hk2;obtain⟨j,hj,hj2⟩:=List.mem_filterMap.1 hk2;rw[List.mem_range]at hj;split at hj2
   ·cases hj2
   ·rename_i hne;cases hj2;exact⟨j,rfl,hj,hne⟩
  rw[happ];by_cases him:i<m
  ·have ih':=ih fun _=>h0 oF;rw[if_pos him]at ih';rw[if_pos (show i<m+1 from oF)];by_cases c:(one (a.kids.getD i T0) (b.kids.getD i T0))=E0
   ·rw[if_neg]
    ·rw[dv fun k hk=>?_,c,Qx];split at hk
     ·simp at hk
     ·simp[Xf]at hk;rw[hk];show((m:Nat):Int)≠i;omega
    ·rintro⟨k,hk,hk2⟩;obtain⟨j,j1,j2,j3⟩:=hat m k hk;have:j=i:=oF
     subst this;rw[c]at j3;exact j3 rfl
   ·rw[if_pos,ih'];refine⟨Xf (.mk i (one (a.kids.getD i T0) (b.kids.getD i T0))),List.mem_map.2 ⟨_,?_,rfl⟩,rfl⟩;unfold C7;exact List.mem_filterMap.2 ⟨i,List.mem_range.2 him,by rw[if_neg (h0 oF c)]⟩
  ·rw[if_neg (by rintro⟨k,hk,hk2⟩;obtain⟨j,j1,j2,_⟩:=hat m k hk;omega)];by_cases e:i=m
   ·subst e;rw[if_pos (show i<i+1 from oF)];by_cases c:(one (a.kids.getD i T0) (b.kids.getD i T0))=E0
    ·rw[if_pos (by rw[c];rfl),c,Qx];rfl
    ·rw[if_neg (h0 oF c)];unfold Ek;simp[Xf,List.find?_cons]
   ·rw[if_neg (show ¬i<m+1 from oF)];refine dv fun k hk=>?_;split at hk
    ·simp at hk
    ·simp[Xf]at hk;rw[hk];show((m:Nat):Int)≠i;omega
theorem iY(h:Df most (f+1) p o x)(hk:p.kind=2)(i:Nat):Df most f (Ek p.kids i) (o.kids.getD i T0) (x.kids.getD i T0):=by
 obtain⟨_,_,e⟩:=Ig h hk;obtain⟨h1,⟨g,h2⟩,h3,h4,_⟩:=h;refine⟨Ll h1 i,⟨_,Ll h2 i⟩,fT h3 i,fT h4 i,?_⟩;rw[e];show Ek ((C7 (El most f) o x (max o.kids.length x.kids.length)).map Xf) i=_;rw[vF _ fun _ hne hz=>hne (Vh most f ((SE most f _ _).1 hz))];split
 ·rfl
 ·rename_i hi;have e1:o.kids.getD i T0=T0:=by rw[List.getD_eq_getElem?_getD,List.getElem?_eq_none oF];rfl
  have e2:x.kids.getD i T0=T0:=by rw[List.getD_eq_getElem?_getD,List.getElem?_eq_none oF];rfl
  rw[e1,e2,Vh most f rfl,Qx]
theorem KH(h:Df most (f+1) p o x)(hk:p.kind=3):o.kind=x.kind/\2<=o.kind/\o.kind<=9/\LdO (DfK most f) p.ops o.kids x.kids:=by
 have e1:=Oq h;obtain⟨h1,⟨g,h2⟩,h3,h4,e⟩:=h;rw[hk,El]at e1;rw[El]at e;by_cases c:J2 o x=true
 ·rw[if_pos c]at e1;exact absurd e1 (by show ¬(3:Int)=0;decide)
 rw[if_neg c]at e e1;by_cases c2:o.kind=1/\x.kind=1
 ·rw[if_pos c2]at e1;exact absurd e1 (by show ¬(3:Int)=2;decide)
 rw[if_neg c2]at e e1;by_cases c3:o.kind=x.kind/\2<=o.kind/\o.kind<=9;rotate_left
 ·rw[if_neg c3]at e1;exact absurd e1 (by show ¬(3:Int)=1;decide)
 rw[if_pos c3,RD,EA,if_neg dO,if_neg dO,if_pos rfl]at e;refine⟨c3.1,c3.2.1,c3.2.2,?_⟩;have o4:=(Au h1).2.2.2;have L1:LdO (fun e k y=>e=El most f k y) (QT (El most f) most o x) o.kids x.kids:=lY fun x hx y hy=>rfl;have L2:LdO (fun e k y=>e=El most f k y/\k∈o.kids/\y∈x.kids/\(e.kind≠0->k.kind≠0/\y.kind≠0)) (QT (El most f) most o x) o.kids x.kids:=LZ L1 fun oo k y ho hk3 hkm hym r=>by
  refine⟨r,hkm,hym,fun he=>?_⟩;obtain⟨k2,y2,m1,m2,sc,r2⟩:=yF _ _ _ _ oo ho hk3;have hkk:k2.kind=y2.kind/\k2.kind≠0:=by
   unfold G9 at sc;split at sc
   ·exact absurd rfl sc
   ·rename_i hc;simp only[not_or]at hc;exact⟨oF,hc.2.1⟩
  have nn:Af k2≠Af y2:=fun hn=>he (by rw[r2];exact(SE most f _ _).2 hn);have one1:∀z:T,oo.e≠.mk 1 T0 z [] [] 0 []/\oo.e≠.mk 1 z T0 [] [] 0 []:=fun z=>by
   have shape:oo.e=.mk 1 k2 y2 [] [] 0 []\/oo.e.kind≠1:=by
    rw[r2];cases f with
    |zero=>
     rw[El,if_neg (fun h=>nn (eqT_iff.1 h))];exact .inl rfl
    |succ f=>
     rw[El,if_neg (fun h=>nn (eqT_iff.1 h))];split
     ·exact .inr (by show ¬(2:Int)=1;decide)
     ·split
      ·exact .inr (by show ¬(3:Int)=1;decide)
      ·exact .inl rfl
   rcases shape with sh|sh
   ·rw[sh];refine⟨fun h=>?_,fun h=>?_⟩
    ·injection h with _ h;exact hkk.2 (by rw[h];rfl)
    ·injection h with _ _ h;exact hkk.2 (by rw[hkk.1,h];rfl)
   ·exact⟨fun h=>sh (by rw[h];rfl),fun h=>sh (by rw[h];rfl)⟩
  refine⟨fun hz=>?_,fun hz=>?_⟩
  ·have:=n7 (BI h1 k hkm) hz;subst this;rw[(th most f y).1]at r;split at r
   ·exact he (by rw[r];rfl)
   ·exact(one1 y).1 r
  ·have:=n7 (BI h2 y hym) hz;subst this;rw[(th most f k).2]at r;split at r
   ·exact he (by rw[r];rfl)
   ·exact(one1 k).2 r
 have L3:=Acs (R2:=DfK most f) (list:=o.kind) (fun e k y r=>by
  obtain⟨r1,r2,r3,r4⟩:=r;have D:Df most f (Hn e) k y:=⟨BI h1 k r2,⟨_,BI h2 y r3⟩,h3.2 k r2,h4.2 y r3,by rw[r1]⟩;refine⟨fun hi=>ou (Ct D) hi,fun hi=>?_⟩;have hne:(Hn e).kind≠0:=fun hz=>by unfold Hb at hi;simp[hz]at hi
  have he:e.kind≠0:=by
   have:=Oq D;rw[<-r1]at this;omega
  exact⟨D,hne,(r4 he).1,(r4 he).2⟩) L2 [] [] [] [] [] [] [] .nil rfl rfl (by simp;omega)
 rw[e];simpa using L3
end
inductive qk:T->Di->T->Prop
 |here (o:T):qk o [] (Af o)
 |kid (o:T) (i:Nat) (r:Di) (b:T) (hi:i<o.kids.length\/o.kind=1) (hb:i<65535) (g:qk (o.kids.getD i T0) r b):qk o ((0,(i:Int))::r) b
 |word (o:T) (i:Nat) (hk:o.kind=1) (hb:i<65535):qk o [(1,(i:Int))] (Af (CT (o.words.getD i 0)))
 |gap (o:T) (i:Nat) (hk:2<=o.kind/\o.kind<=9) (hi:i<=o.kids.length):qk o [(2,(i:Int))] (Af (.mk o.kind [] []))
def jP(at':Di)(o:T)(c:Cf):Prop:=∃r,c.path=at'++r/\qk o r c.base/\c.ours≠c.theirs/\c.ours≠c.base/\c.theirs≠c.base
theorem wM{a b:T}{m i:Nat}:CS (HU a b m) i=dW\/(Eu (a.words.getD i 0) (b.words.getD i 0)≠0/\i<m):=by
 unfold CS;cases e:(HU a b m).find? (fun w=>decide (w.at_=(i:Int))) with
 |none=>exact .inl rfl
 |some w=>
  refine .inr ?_;have hm:=List.mem_of_find?_eq_some e;have hf:=List.find?_some e;unfold HU at hm;obtain⟨j,hj,hj2⟩:=List.mem_filterMap.1 hm;rw[List.mem_range]at hj;split at hj2
  ·cases hj2
  ·rename_i hne;cases hj2;have:((j:Nat):Int)=i:=by simpa[Z4]using hf
   have:j=i:=oF
   subst this;exact⟨hne,hj⟩
theorem bb{u v:Int}(h:Af (CT u)=Af (CT v)):u=v:=by
 have:=(struct_eq.1 h).1 0;simpa using this
theorem AcL{at':Di}{i:Nat}{w u v:Int}{a b:WE}(ha:Lk a.mask)(hb:Lk b.mask)(hu:A5 w a.new a.mask=u)(hv:A5 w b.new b.mask=v)(da:a=dW\/w≠u)(db:b=dW\/w≠v):∀c,c∈Qb at' i w a b->c.path=at'++[(1,(i:Int))]/\c.base=Af (CT w)/\c.ours≠c.theirs/\c.ours≠c.base/\c.theirs≠c.base:=by
 intro c hc;have na:a≠dW:=fun e=>by subst e;rw[Vy]at hc;simp at hc
 have nb:b≠dW:=fun e=>by
  subst e;rw[uf (a:=dW) (b:=a) ⟨dO,dO⟩ ha,Vy]at hc;simp at hc
 have d1:=da.resolve_left na;have d2:=db.resolve_left nb;unfold Qb at hc;split at hc;rotate_left
 ·simp at hc
 rename_i hcf;rw[List.mem_singleton.1 hc,hu,hv];refine⟨rfl,rfl,fun h=>?_,fun h=>d1 (bb h).symm,fun h=>d2 (bb h).symm⟩;have e:=bb h;unfold FX at hcf;rw[decide_eq_true_iff]at hcf;refine hcf (HG (BL _ _ _) (BL _ _ _) fun k hk=>?_);rw[Bt _ _ _ hk,Bt _ _ _ hk,Mv ha hb];by_cases c1:AH a.mask k=true
 ·by_cases c2:AH b.mask k=true
  ·have e1:AP u k=AP a.new k:=by rw[<-hu,Bt _ _ _ hk,if_pos c1]
   have e2:AP v k=AP b.new k:=by rw[<-hv,Bt _ _ _ hk,if_pos c2]
   rw[c1,c2,<-e1,<-e2,e]
  ·rw[Bool.not_eq_true]at c2;rw[c2];simp
 ·rw[Bool.not_eq_true]at c1;rw[c1];simp
theorem lU{at':Di}{o:T}(hk:2<=o.kind/\o.kind<=9){n:Nat}(hn:n<=o.kids.length){a b:List T}:∀c,c∈(Fx at' o.kind n a b).2->jP at' o c:=by
 intro c hc;unfold Fx at hc;split at hc
 ·simp at hc
 rename_i h1;split at hc
 ·simp at hc
 rename_i h2;rw[List.mem_singleton.1 hc];simp only[not_or]at h1;have hl:∀{l m:List T},Af (.mk o.kind [] l)=Af (.mk o.kind [] m)->l.map Af=m.map Af:=fun h=>((LI oF oF).1 h).2;refine⟨[(2,(n:Int))],rfl,.gap o n hk hn,fun h=>h1.2 (hl h),fun h=>h1.1 ?_,fun h=>h2 ?_⟩
 ·have:=hl h;simpa using this
 ·have:=hl h;simpa using this
section
variable {most:Int} {f:Nat}
theorem Q3{k:T}(h:k.kind≠0):Af k≠T0:=fun e=>h (by have:=congrArg T.kind e;rw[EC]at this;exact this)
theorem mbL(hM:∀(at':Di)(p q:E)(o x y:T),Df most f p o x->Df most f q o y->∀c,c∈(mg f at' o p q).2->jP at' o c){at':Di}{o:T}(hk:2<=o.kind/\o.kind<=9)(hl:o.kids.length<=1000)(h0:∀k,k∈o.kids->SU f k/\NW f k):∀(ks:List T)(n:Nat)(us vs:List U)(xs ys:List T),o.kids.drop n=ks->n<=o.kids.length->LdU (DfK most f) us ks xs->LdU (DfK most f) vs ks ys->∀c,c∈(N7 (mg f) at' o.kind ks us vs n).2->jP at' o c
 |[],n,us,vs,xs,ys,hd,hn,hu,hv=>by
  rw[N7];exact lU hk hn
 |k::ks,n,us,vs,xs,ys,hd,hn,hu,hv=>by
  have hnlt:n<o.kids.length:=by
   apply Classical.byContradiction;intro h;rw[List.drop_eq_nil_of_le oF]at hd;cases hd
  have hk2:=List.getElem_cons_drop hnlt;rw[hd]at hk2;obtain⟨ek,ekd⟩:=List.cons.inj hk2;have hkm:k∈o.kids:=by rw[<-ek];exact De hnlt
  have hg:o.kids.getD n T0=k:=by rw[List.getD_eq_getElem?_getD,List.getElem?_eq_getElem hnlt];exact ek
  obtain⟨y2,a1,a2,a3,a4⟩:=bR hu;obtain⟨z2,b1,b2,b3,b4⟩:=bR hv;rw[N7];intro c hc;simp only at hc;have up:jP (at'++[(0,(n:Int))]) k c->jP at' o c:=fun h=>by
   obtain⟨r,r1,r2,r3⟩:=h;exact⟨(0,(n:Int))::r,by rw[r1];simp,.kid o n r _ (.inl hnlt) oF (by rw[hg];exact r2),r3⟩
  have D0:Df most f E0 k k:=Ae5 (h0 k hkm).1 (h0 k hkm).2;have ra:∃x,Df most f (eU (de (FK us))) k x:=by
   rcases a2 with h|⟨t,h⟩|⟨e,x,h,hx⟩
   ·rw[h];exact⟨k,D0⟩
   ·rw[h];exact⟨k,D0⟩
   ·rw[h];exact⟨x,hx.1⟩
  have rb:∃x,Df most f (eU (de (FK vs))) k x:=by
   rcases b2 with h|⟨t,h⟩|⟨e,x,h,hx⟩
   ·rw[h];exact⟨k,D0⟩
   ·rw[h];exact⟨k,D0⟩
   ·rw[h];exact⟨x,hx.1⟩
  obtain⟨x1,ra⟩:=ra;obtain⟨x2,rb⟩:=rb;have both:=hM (at'++[(0,(n:Int))]) _ _ _ _ _ ra rb;have tail:=mbL hM (at':=at') hk hl h0 ks (n+1) (FK us).tail (FK vs).tail y2 z2 ekd oF a1 b1;have one:∀e x,DfK most f e k x->JG e k=Af x/\Af x≠Af k/\Af x≠T0/\Af k≠T0:=fun e x h=>by
   refine⟨HS (Ct h.1),fun e=>h.2.1 ((QQ h.1).2 e.symm),Q3 h.2.2.2,Q3 h.2.2.1⟩
  rcases List.mem_append.1 hc with hc|hc
  ·exact lU hk hn c hc
  rcases List.mem_append.1 hc with hc|hc
  ·refine up ?_;generalize de (FK us)=ua at *;generalize de (FK vs)=ub at *;rcases a2 with rfl|⟨t,rfl⟩|⟨e,x,rfl,hx⟩
   ·rcases b2 with rfl|⟨t,rfl⟩|⟨e,x,rfl,hx⟩
    ·exact both c hc
    ·simp[B6]at hc
    ·exact both c hc
   ·rcases b2 with rfl|⟨t,rfl⟩|⟨e,x,rfl,hx⟩
    ·simp[B6]at hc
    ·simp[B6]at hc
    ·obtain⟨q1,q2,q3,q4⟩:=one e x hx;simp only[B6,List.mem_singleton]at hc;rw[hc,q1];exact⟨[],iS,.here k,fun h=>q3 h.symm,fun h=>q4 h.symm,q2⟩
   ·rcases b2 with rfl|⟨t,rfl⟩|⟨e2,z,rfl,hz⟩
    ·exact both c hc
    ·obtain⟨q1,q2,q3,q4⟩:=one e x hx;simp only[B6,List.mem_singleton]at hc;rw[hc,q1];exact⟨[],iS,.here k,q3,q2,fun h=>q4 h.symm⟩
    ·exact both c hc
  ·exact tail c hc
theorem mT{at':Di}{p q:E}{o x y:T}(hp:Df most f p o x)(hq:Df most f q o y):∀c,c∈(S9 at' o p q).2->jP at' o c:=by
 intro c hc;have e1:=HS (Ct hp);have e2:=HS (Ct hq);unfold S9 at hc;split at hc
 ·simp at hc
 rename_i p0;split at hc
 ·simp at hc
 rename_i q0;split at hc
 ·simp at hc
 rename_i hne;rw[List.mem_singleton.1 hc,e1,e2];rw[e1,e2]at hne;exact⟨[],iS,.here o,hne,fun h=>p0 ((QQ hp).2 h.symm),fun h=>q0 ((QQ hq).2 h.symm)⟩
end
theorem my{a b:List Int}{ws:List WE}(h:Jn a b 0 ws)(i:Nat):Lk (CS ws i).mask:=Ss (fun w hw=>by
 obtain⟨_,_,_,_,h1,h2⟩:=FQ h w hw;exact⟨Int.le_of_lt h1,h2⟩) i
theorem mb(most:Int):∀(f:Nat)(at':Di)(p q:E)(o x y:T),Df most f p o x->Df most f q o y->∀c,c∈(mg f at' o p q).2->jP at' o c:=by
 intro f;induction f with
 |zero=>exact fun at' p q o x y hp hq=>mT hp hq
 |succ f ih=>
  intro at' p q o x y hp hq;rw[mg];have o4:=(Au hp.1).2.2;by_cases k2:p.kind=2/\q.kind=2
  ·rw[if_pos k2];obtain⟨p1,p2,p3⟩:=Ig hp k2.1;obtain⟨q1,q2,q3⟩:=Ig hq k2.2;have kp:=fun i=>iY hp k2.1 i;have kq:=fun i=>iY hq k2.2 i;have wo:=(Au hp.1).1;obtain⟨gx,hx⟩:=hp.2.1;obtain⟨gy,hy⟩:=hq.2.1;have wx:=Au hx;have wy:=Au hy;have LP:Jn o.words x.words 0 p.words:=by
    rcases Ct hp with h|⟨ws,ks,rfl,_,_,h3,_⟩|⟨os,rfl,_⟩
    ·rcases h with ⟨rfl,_⟩|⟨_,_,rfl,_⟩<;>exact absurd k2.1 iS
    ·exact h3
    ·exact absurd k2.1 iS
   have LQ:Jn o.words y.words 0 q.words:=by
    rcases Ct hq with h|⟨ws,ks,rfl,_,_,h3,_⟩|⟨os,rfl,_⟩
    ·rcases h with ⟨rfl,_⟩|⟨_,_,rfl,_⟩<;>exact absurd k2.2 iS
    ·exact h3
    ·exact absurd k2.2 iS
   have KP:MA (Ld f) o.kids x.kids 0 p.kids:=by
    rcases Ct hp with h|⟨ws,ks,rfl,_,_,_,h4⟩|⟨os,rfl,_⟩
    ·rcases h with ⟨rfl,_⟩|⟨_,_,rfl,_⟩<;>exact absurd k2.1 iS
    ·exact h4
    ·exact absurd k2.1 iS
   have KQ:MA (Ld f) o.kids y.kids 0 q.kids:=by
    rcases Ct hq with h|⟨ws,ks,rfl,_,_,_,h4⟩|⟨os,rfl,_⟩
    ·rcases h with ⟨rfl,_⟩|⟨_,_,rfl,_⟩<;>exact absurd k2.2 iS
    ·exact h4
    ·exact absurd k2.2 iS
   have tw:DK (DK o.words.length p.words) q.words<=1000:=Rz (Rz o4.1 fun w hw=>by
    obtain⟨i,k1,k2,k3,_⟩:=FQ LP w hw;omega) fun w hw=>by
    obtain⟨i,k1,k2,k3,_⟩:=FQ LQ w hw;omega
   have tk:CV (CV o.kids.length p.kids) q.kids<=1000:=Ri (Ri o4.2 fun w hw=>by
    obtain⟨i,k1,k2,k3,_⟩:=Fz KP w hw;omega) fun w hw=>by
    obtain⟨i,k1,k2,k3,_⟩:=Fz KQ w hw;omega
   have pw:p.words=HU o x (max o.words.length x.words.length):=by rw[p3];rfl
   have qw:q.words=HU o y (max o.words.length y.words.length):=by rw[q3];rfl
   intro c hc;unfold nR at hc;simp only at hc;rcases List.mem_append.1 hc with hc|hc
   ·obtain⟨i,hi,hc⟩:=List.mem_flatMap.1 hc;rw[List.mem_range]at hi;have hwo:Bs (o.words.getD i 0):=Eb (wfT_iff.1 wo).w i;have hwx:Bs (x.words.getD i 0):=Eb (wfT_iff.1 wx.1).w i;have hwy:Bs (y.words.getD i 0):=Eb (wfT_iff.1 wy.1).w i;have m1:=ax (wfT_iff.1 wo).w LP i (Nat.zero_le _);have m2:=ax (wfT_iff.1 wo).w LQ i (Nat.zero_le _);have d1:CS p.words i=dW\/o.words.getD i 0≠x.words.getD i 0:=by
     rw[pw];rcases wM (a:=o) (b:=x) (m:=max o.words.length x.words.length) (i:=i)with h|h
     ·exact .inl h
     ·exact .inr fun e=>h.1 ((V5 hwo hwx).2 e)
    have d2:CS q.words i=dW\/o.words.getD i 0≠y.words.getD i 0:=by
     rw[qw];rcases wM (a:=o) (b:=y) (m:=max o.words.length y.words.length) (i:=i)with h|h
     ·exact .inl h
     ·exact .inr fun e=>h.1 ((V5 hwo hwy).2 e)
    obtain⟨c1,c2,c3⟩:=AcL (at':=at') (i:=i) (my LP i) (my LQ i) m1 m2 d1 d2 c hc;exact⟨[(1,(i:Int))],c1,by rw[c2];exact .word o i p1 oF,c3⟩
   ·obtain⟨i,hi,hc⟩:=List.mem_flatMap.1 hc;rw[List.mem_range]at hi;obtain⟨r,r1,r2,r3⟩:=ih _ _ _ _ _ _ (kp i) (kq i) c hc;exact⟨(0,(i:Int))::r,by rw[r1];simp,.kid o i r _ (.inr p1) oF r2,r3⟩
  ·rw[if_neg k2];by_cases k3:p.kind=3/\q.kind=3
   ·rw[if_pos k3];obtain⟨p1,p2,p3,p4⟩:=KH hp k3.1;obtain⟨q1,q2,q3,q4⟩:=KH hq k3.2;exact mbL ih ⟨p2,p3⟩ o4.2 (fun k hk=>⟨BI hp.1 k hk,hp.2.2.1.2 k hk⟩) o.kids 0 _ _ _ _ rfl (Nat.zero_le _) (ZA p4) (ZA q4)
   ·rw[if_neg k3];exact mT hp hq
theorem pe{k:Int}(h:0<=k/\k<256){i:Nat}(hi:i<8):AH (255-k) i=!AH k i:=by
 obtain⟨a,rfl⟩:=Int.eq_ofNat_of_zero_le h.1;have h1:a<2 ^ 8:=oF
 have e:(255:Int)-(a:Int)=((2 ^ 8-(a+1):Nat):Int):=oF
 rw[e,Fs,Fs,Nat.testBit_two_pow_sub_succ h1,decide_eq_true hi,Bool.true_and]
def LF(k m:Int):Int:=Db (255-k) m
theorem UJ{k m:Int}(hk:0<=k/\k<256)(hm:0<=m/\m<256):0<=LF k m/\LF k m<256:=Wu oF hm
theorem Y7{k m:Int}(hk:0<=k/\k<256)(hm:0<=m/\m<256){i:Nat}(hi:i<8):AH (LF k m) i=(!AH k i&&AH m i):=by
 rw[LF,Mv oF hm,pe hk hi]
theorem sL{m:Int}(h:0<=m/\m<256)(hn:m≠0):∃i,i<8/\AH m i=true:=by
 obtain⟨a,rfl⟩:=Int.eq_ofNat_of_zero_le h.1;apply Classical.byContradiction;intro hc;apply hn;have:a=0:=by
  refine Nat.eq_of_testBit_eq fun i=>?_;rw[Nat.zero_testBit];by_cases hi:i<8
  ·cases e:a.testBit i with
   |false=>rfl
   |true=>exact absurd ⟨i,hi,by rw[Fs];exact e⟩ hc
  ·exact Nat.testBit_lt_two_pow (Nat.lt_of_lt_of_le (show a<2 ^ 8 from oF) (Nat.pow_le_pow_right dO oF))
 rw[this];rfl
def Kp(w:WE)(k:Int):WE:=⟨w.at_,LF k w.mask,A5 0 w.old (LF k w.mask),A5 0 w.new (LF k w.mask)⟩
def TP(Q:List WE)(a:WE):WE:=match Q.find? (fun b=>decide (b.at_=a.at_)) with
 |some b=>Kp a b.mask
 |none=>a
def I3(ws:List WE):List WE:=ws.filter fun w=>!decide (w.mask=0)
def clW(P Q:List WE):Bool:=P.any fun a=>Q.any fun b=>decide (a.at_=b.at_)&&FX a b
theorem si{m:Int}(hm:0<=m/\m<256):LF 0 m=m:=by
 have h1:=UJ (k:=0) ⟨dO,dO⟩ hm;obtain⟨a,ha⟩:=Int.eq_ofNat_of_zero_le h1.1;obtain⟨b,rfl⟩:=Int.eq_ofNat_of_zero_le hm.1;rw[ha];congr 1;refine Nat.eq_of_testBit_eq fun i=>?_;by_cases hi:i<8
 ·have:=Y7 (k:=0) (m:=(b:Int)) ⟨dO,dO⟩ hm hi;rw[ha,Fs,Fs,show((0:Int))=((0:Nat):Int)from rfl,Fs,Nat.zero_testBit]at this;simpa using this
 ·have e:∀c:Nat,c<256->c.testBit i=false:=fun c hc=>Nat.testBit_lt_two_pow (Nat.lt_of_lt_of_le (show c<2 ^ 8 from oF) (Nat.pow_le_pow_right dO oF));rw[e a oF,e b oF]
theorem nG{o x m:Int}(h:A5 0 x m=o):A5 0 o m=o:=by rw[<-h,yZ]
theorem Abu{Q:List WE}{a:WE}{i:Nat}(hi:a.at_=i)(hm:0<=a.mask/\a.mask<256)(ho:A5 0 a.old a.mask=a.old)(hn:A5 0 a.new a.mask=a.new):TP Q a=Kp a (CS Q i).mask:=by
 unfold TP CS;rw[<-hi];cases Q.find? fun b=>decide (b.at_=a.at_) with
 |some b=>rfl
 |none=>
  show a=Kp a 0;unfold Kp;rw[si hm,ho,hn]
theorem uq{a b:List Int}{q s:Nat}{ws:List WE}(h:Jn a b q ws)(hs:s<=q)(e:∀j,s<=j->j<q->a.getD j 0=b.getD j 0):Jn a b s ws:=by
 cases h with
 |nil _ h=>exact .nil s fun i hi=>if c:i<q then e i hi c else h i oF
 |cons _ i m o n ws hp h hi hm ho hn h1 h2 g=>exact .cons s i m o n ws oF (fun j h3 h4=>if c:j<q then e j h3 c else h j oF h4) hi hm ho hn h1 h2 g
theorem tB{o x y t:List Int}{Q:List WE}(hQ:∀w,w∈Q->Lk w.mask)(uo:∀z,z∈o->Bs z)(uy:∀z,z∈y->Bs z)(ut:∀z,z∈t->Bs z)
  (hy:∀i:Nat,y.getD i 0=A5 (o.getD i 0) (CS Q i).new (CS Q i).mask) (ht:∀i:Nat,t.getD i 0=A5 (x.getD i 0) (CS Q i).new (CS Q i).mask) {s:Nat} {P:List WE} (h:Jn o x s P) :
  (∀w,w∈P->∀i:Nat,w.at_=i->∀j,j<8->AH w.mask j=true->AP (o.getD i 0) j≠AP (x.getD i 0) j)->Jn y t s (I3 (P.map (TP Q))):=by
 induction h with
 |nil s h=>exact fun _=>.nil s fun i hi=>by rw[hy,ht,h i hi]
 |cons s i m o' n ws hp h hi hm ho hn h1 h2 g ih=>
  intro hd;have ih':=ih fun w hw=>hd w (List.mem_cons_of_mem _ hw);have hk:=Ss hQ i;have hm':(0:Int)<=m/\m<256:=⟨oF,hm.2⟩;have e:TP Q ⟨i,m,o',n⟩=Kp ⟨i,m,o',n⟩ (CS Q i).mask:=Abu rfl hm' (nG ho) (nG hn);have bt:∀j,j<8->AP (y.getD i 0) j=if AH (CS Q i).mask j=true then AP (CS Q i).new j else AP (o.getD i 0) j:=fun j hj=>by rw[hy,Bt _ _ _ hj]
  have bx:∀j,j<8->AP (t.getD i 0) j=if AH (CS Q i).mask j=true then AP (CS Q i).new j else AP (x.getD i 0) j:=fun j hj=>by rw[ht,Bt _ _ _ hj]
  have bn:∀j,j<8->AP (x.getD i 0) j=if AH m j=true then AP n j else AP (o.getD i 0) j:=fun j hj=>by rw[<-h1,Bt _ _ _ hj]
  have bo:∀j,j<8->AP (o.getD i 0) j=if AH m j=true then AP o' j else AP (x.getD i 0) j:=fun j hj=>by rw[<-h2,Bt _ _ _ hj]
  have nb:∀j,j<8->AH (LF (CS Q i).mask m) j=(!AH (CS Q i).mask j&&AH m j):=fun j hj=>Y7 hk hm' hj;have gap:∀j,s<=j->j<i->y.getD j 0=t.getD j 0:=fun j h3 h4=>by rw[hy,ht,h j h3 h4]
  have uyi:=Eb uy i;have uti:=Eb ut i;unfold I3 at ih' ⊢;rw[List.map_cons,e];by_cases hz:LF (CS Q i).mask m=0
  ·rw[List.filter_cons_of_neg (by simp[Kp,hz])];refine uq ih' oF fun j h3 h4=>?_;by_cases c:j<i
   ·exact gap j h3 c
   ·have:j=i:=oF
    subst this;refine HG uyi uti fun k hk8=>?_;have z:=nb k hk8;rw[hz,show((0:Int))=((0:Nat):Int)from rfl,Fs,Nat.zero_testBit]at z;rw[bt k hk8,bx k hk8,bn k hk8];cases c1:AH (CS Q j).mask k<;>cases c2:AH m k<;>simp[c1,c2]at z ⊢
  ·rw[List.filter_cons_of_pos (by simp[Kp,hz])];have hin:=UJ hk hm';obtain⟨k,hk8,hnk⟩:=sL hin hz;have hkk:=(nb k hk8).symm.trans hnk;rw[Bool.and_eq_true,Bool.not_eq_true']at hkk;have ne:y.getD i 0≠t.getD i 0:=fun e=>by
    have:AP (y.getD i 0) k=AP (t.getD i 0) k:=by rw[e]
    rw[bt k hk8,bx k hk8,hkk.1]at this;exact hd ⟨i,m,o',n⟩ iS i rfl k hk8 hkk.2 (by simpa using this)
   have lt:i<max y.length t.length:=by
    apply Classical.byContradiction;intro c;apply ne;rw[List.getD_eq_getElem?_getD,List.getD_eq_getElem?_getD,List.getElem?_eq_none oF,List.getElem?_eq_none oF]
   refine .cons s i _ _ _ _ hp gap lt (show 0<LF (CS Q i).mask m/\LF (CS Q i).mask m<256 from⟨oF,hin.2⟩) ?_ ?_ ?_ ?_ ih'
   ·refine HG (BL _ _ _) (BL _ _ _) fun j hj=>?_;have nj:=nb j hj;have q1:=bo j hj;rw[Bt _ _ _ hj,Bt _ _ _ hj,bt j hj];show(if AH (LF (CS Q i).mask m) j=true then _ else _)=_;cases c1:AH (CS Q i).mask j<;>cases c2:AH m j<;>simp[nj,c1,c2]at q1 ⊢
    exact q1
   ·refine HG (BL _ _ _) (BL _ _ _) fun j hj=>?_;have nj:=nb j hj;have q1:=bn j hj;rw[Bt _ _ _ hj,Bt _ _ _ hj,bx j hj];show(if AH (LF (CS Q i).mask m) j=true then _ else _)=_;cases c1:AH (CS Q i).mask j<;>cases c2:AH m j<;>simp[nj,c1,c2]at q1 ⊢
    exact q1
   ·refine HG (BL _ _ _) uti fun j hj=>?_;have nj:=nb j hj;have q1:=bn j hj;rw[Bt _ _ _ hj,Bt _ _ _ hj,bx j hj,bt j hj];show(if AH (LF (CS Q i).mask m) j=true then (if AH (LF (CS Q i).mask m) j=true then _ else _)else _)=_;cases c1:AH (CS Q i).mask j<;>cases c2:AH m j<;>simp[nj,c1,c2]at q1 ⊢<;>exact q1.symm
   ·refine HG (BL _ _ _) uyi fun j hj=>?_;have nj:=nb j hj;have q1:=bn j hj;have q2:=bo j hj;rw[Bt _ _ _ hj,Bt _ _ _ hj,bx j hj,bt j hj];show(if AH (LF (CS Q i).mask m) j=true then (if AH (LF (CS Q i).mask m) j=true then _ else _)else _)=_;cases c1:AH (CS Q i).mask j<;>cases c2:AH m j<;>simp[nj,c1,c2]at q1 q2 ⊢<;>first|exact q2.symm|exact q1
def XJ(g:E->E->E)(Q:List KE)(k:KE):KE:=match Q.find? (fun l=>decide (l.at_=k.at_)) with
 |some l=>.mk k.at_ (g k.e l.e)
 |none=>k
def IW(ks:List KE):List KE:=ks.filter fun k=>!decide (k.e.kind=0)
theorem kW{g:E->E->E}(h0:∀e,g e E0=e)(Q:List KE)(i:Nat)(e:E):XJ g Q (.mk i e)=.mk i (g e (Ek Q i)):=by
 unfold XJ Ek;show(match Q.find? (fun l=>decide (l.at_=(i:Int))) with|some l=>_|none=>_)=_;cases Q.find? fun l=>decide (l.at_=(i:Int)) with
 |some l=>rfl
 |none=>show KE.mk i e=.mk i (g e E0);rw[h0]
theorem tf{R:E->T->T->Prop}{a b:List T}{q s:Nat}{ks:List KE}(h:MA R a b q ks)(hs:s<=q)(e:∀j,s<=j->j<q->Af (a.getD j T0)=Af (b.getD j T0)):MA R a b s ks:=by
 cases h with
 |nil _ h=>exact .nil s fun i hi=>if c:i<q then e i hi c else h i oF
 |cons _ i m ks hp h hi he hr g=>exact .cons s i m ks oF (fun j h3 h4=>if c:j<q then e j h3 c else h j oF h4) hi he hr g
theorem wU{R:E->T->T->Prop}{f:Nat}{g:E->E->E}(h0:∀e,g e E0=e){o x y t:List T}{Q:List KE}{s:Nat}{P:List KE}(h:MA R o x s P) :
  (∀(i:Nat)(e:E),.mk i e∈P->Ld f (g e (Ek Q i)) (y.getD i T0) (t.getD i T0)/\((g e (Ek Q i)).kind≠0->Af (y.getD i T0)≠T0\/Af (t.getD i T0)≠T0)) ->
  (∀i:Nat,s<=i->(∀e,KE.mk i e∉P)->Af (y.getD i T0)=Af (t.getD i T0))->MA (Ld f) y t s (IW (P.map (XJ g Q))):=by
 induction h with
 |nil s h=>exact fun _ hn=>.nil s fun i hi=>hn i hi fun e=>iS
 |cons s i e ks hp h hi he hr g' ih=>
  intro hk hn;have ge:∀w,w∈ks->∃j:Nat,w.at_=j/\i+1<=j:=fun w hw=>by
   obtain⟨j,j1,j2,_⟩:=Fz g' w hw;exact⟨j,j1,j2⟩
  have ih':=ih (fun j e' hm=>hk j e' (List.mem_cons_of_mem _ hm)) fun j hj hno=>hn j oF fun e' hm=>by
   rcases List.mem_cons.1 hm with hm|hm
   ·have:((j:Nat):Int)=(i:Nat):=congrArg KE.at_ hm;omega
   ·exact hno e' hm
  have gap:∀j,s<=j->j<i->Af (y.getD j T0)=Af (t.getD j T0):=fun j h3 h4=>hn j h3 fun e' hm=>by
   rcases List.mem_cons.1 hm with hm|hm
   ·have:((j:Nat):Int)=(i:Nat):=congrArg KE.at_ hm;omega
   ·obtain⟨j',j1,j2⟩:=ge _ hm;have:((j:Nat):Int)=(j':Nat):=j1;omega
  obtain⟨k1,k2⟩:=hk i e iS;unfold IW at ih' ⊢;rw[List.map_cons,kW h0];by_cases hz:(g e (Ek Q i)).kind=0
  ·rw[List.filter_cons_of_neg (by simp[hz])];refine tf ih' oF fun j h3 h4=>?_;by_cases c:j<i
   ·exact gap j h3 c
   ·have:j=i:=oF
    subst this;exact(IZ k1 hz).2
  ·rw[List.filter_cons_of_pos (by simp[hz])];refine .cons s i _ _ hp gap ?_ hz k1 ih';apply Classical.byContradiction;intro c;rcases k2 hz with h|h
   ·apply h;rw[List.getD_eq_getElem?_getD,List.getElem?_eq_none oF];rfl
   ·apply h;rw[List.getD_eq_getElem?_getD,List.getElem?_eq_none oF];rfl
theorem KL{R:E->T->T->Prop}{a b:List T}{p:Nat}{ks:List KE}(h:MA R a b p ks):∀(i:Nat)(e:E),KE.mk i e∈ks->Ek ks i=e:=by
 induction h with
 |nil p h=>intro i e hm;simp at hm
 |cons p j e ks hp h hi he hr g ih=>
  intro i e' hm;unfold Ek;rcases List.mem_cons.1 hm with hm|hm
  ·injection hm with h1 h2;rw[List.find?_cons,show decide ((KE.mk (j:Nat) e).at_=(i:Int))=true from decide_eq_true (show((j:Nat):Int)=i by omega)];exact h2.symm
  ·obtain⟨i',j1,j2,_⟩:=Fz g _ hm;have j1:((i:Nat):Int)=(i':Nat):=j1;rw[List.find?_cons,show decide ((KE.mk (j:Nat) e).at_=(i:Int))=false from decide_eq_false (show ¬((j:Nat):Int)=i by omega)];exact ih i e' hm
theorem nN{a b:List Int}{p:Nat}{ws:List WE}(h:Jn a b p ws):∀(w:WE),w∈ws->∀i:Nat,w.at_=i->CS ws i=w:=by
 induction h with
 |nil p h=>intro w hm;simp at hm
 |cons p j m o n ws hp h hi hm' ho hn h1 h2 g ih=>
  intro w hm i hwi;unfold CS;rcases List.mem_cons.1 hm with hm|hm
  ·subst hm;rw[List.find?_cons,show decide ((⟨j,m,o,n⟩:WE).at_=(i:Int))=true from decide_eq_true hwi];rfl
  ·obtain⟨i',j1,j2,_⟩:=FQ g w hm;rw[List.find?_cons,show decide ((⟨j,m,o,n⟩:WE).at_=(i:Int))=false from decide_eq_false (show ¬((j:Nat):Int)=i by omega)];exact ih w hm i hwi
theorem Th(ws:List WE)(i:Nat):(CS ws i=dW/\∀w,w∈ws->w.at_≠(i:Int))\/(CS ws i∈ws/\(CS ws i).at_=(i:Int)):=by
 unfold CS;cases e:ws.find? fun w=>decide (w.at_=(i:Int)) with
 |none=>
  refine .inl ⟨rfl,fun w hw hc=>?_⟩;have:=List.find?_eq_none.1 e w hw;simp[hc]at this
 |some w=>exact .inr ⟨List.mem_of_find?_eq_some e,by simpa using List.find?_some e⟩
theorem L9(ks:List KE)(i:Nat):(Ek ks i=E0/\∀k,k∈ks->k.at_≠(i:Int))\/∃k,k∈ks/\k.at_=(i:Int)/\Ek ks i=k.e:=by
 unfold Ek;cases e:ks.find? fun w=>decide (w.at_=(i:Int)) with
 |none=>
  refine .inl ⟨rfl,fun w hw hc=>?_⟩;have:=List.find?_eq_none.1 e w hw;simp[hc]at this
 |some w=>exact .inr ⟨w,List.mem_of_find?_eq_some e,by simpa using List.find?_some e,rfl⟩
theorem yK{a b c d:List Int}{p q:Nat}{P Q:List WE}(h:Jn a b p P)(g:Jn c d q Q):clW P Q=true↔∃i:Nat,FX (CS P i) (CS Q i)=true:=by
 unfold clW;rw[List.any_eq_true];constructor
 ·rintro⟨w,hw,h2⟩;rw[List.any_eq_true]at h2;obtain⟨v,hv,h3⟩:=h2;rw[Bool.and_eq_true,decide_eq_true_iff]at h3;obtain⟨i,hi,_⟩:=FQ h w hw;exact⟨i,by rw[nN h w hw i hi,nN g v hv i (h3.1.symm.trans hi)];exact h3.2⟩
 ·rintro⟨i,hi⟩;have z:∀b:WE,FX dW b=false:=fun b=>by unfold FX;rw[V0,GL ⟨dO,dO⟩,GL ⟨dO,dO⟩];simp
  rcases Th P i with ⟨e,_⟩|⟨m1,e1⟩
  ·rw[e,z]at hi;cases hi
  rcases Th Q i with ⟨e,_⟩|⟨m2,e2⟩
  ·obtain⟨_,_,_,_,k1,k2⟩:=FQ h _ m1;rw[e,OJ (a:=dW) ⟨dO,dO⟩ ⟨oF,k2⟩,z]at hi;cases hi
  ·exact⟨_,m1,List.any_eq_true.2 ⟨_,m2,by rw[Bool.and_eq_true,decide_eq_true_iff];exact⟨by rw[e1,e2],hi⟩⟩⟩
def clK(c:E->E->Bool)(P Q:List KE):Bool:=P.any fun a=>Q.any fun b=>decide (a.at_=b.at_)&&c a.e b.e
theorem yg{R R':E->T->T->Prop}{a b c d:List T}{p q:Nat}{P Q:List KE}(h:MA R a b p P)(g:MA R' c d q Q){cl:E->E->Bool}(z1:∀e,cl E0 e=false)(z2:∀e,cl e E0=false):clK cl P Q=true↔∃i:Nat,cl (Ek P i) (Ek Q i)=true:=by
 unfold clK;rw[List.any_eq_true];constructor
 ·rintro⟨⟨w,we⟩,hw,h2⟩;rw[List.any_eq_true]at h2;obtain⟨⟨v,ve⟩,hv,h3⟩:=h2;rw[Bool.and_eq_true,decide_eq_true_iff]at h3;obtain⟨i,hi,_⟩:=Fz h _ hw;have hi:w=i:=hi;have hv2:w=v:=h3.1;subst hv2;subst hi;exact⟨i,by rw[KL h i we hw,KL g i ve hv];exact h3.2⟩
 ·rintro⟨i,hi⟩;rcases L9 P i with ⟨e,_⟩|⟨k1,m1,e1,f1⟩
  ·rw[e,z1]at hi;cases hi
  rcases L9 Q i with ⟨e,_⟩|⟨k2,m2,e2,f2⟩
  ·rw[e,z2]at hi;cases hi
  ·rw[f1,f2]at hi;exact⟨_,m1,List.any_eq_true.2 ⟨_,m2,by rw[Bool.and_eq_true,decide_eq_true_iff];exact⟨by rw[e1,e2],hi⟩⟩⟩
def RR(n:Nat):List OP:=if n=0 then []else [.mk 0 n [] E0]
def Yj(l:List T):List OP:=if l=[]then []else [.mk 2 0 l E0]
abbrev RbO:=(List OP × List OP) × Bool
open Classical in
/-- A gap. -/
noncomputable def Dd(m h:List T):RbO:=
 if m≠[]/\h≠[]then ((RR h.length,RR m.length),!decide (m.map Af=h.map Af))else ((Yj m++RR h.length,RR m.length++Yj h),false)
def Q0(e:E):OP:=if e.kind=0 then .mk 0 1 [] E0 else .mk 3 0 [] e
def DL(g:E->E->(E × E) × Bool)(p q:OP):RbO:=
 if p.kind=0/\q.kind=1 then (([],[q]),false)
 else if p.kind=1/\q.kind=0 then (([p],[]),false)
 else if p.kind=0 then (([.mk 0 (max q.n 1) [] E0],[q]),false)
 else if q.kind=0 then (([p],[.mk 0 1 [] E0]),false)
 else if p.kind=1/\q.kind=1 then (([],[]),false)
 else if p.kind=1\/q.kind=1 then (([],[]),true)
 else (([Q0 (g p.e q.e).1.1],[Q0 (g p.e q.e).1.2]),(g p.e q.e).2)
noncomputable def Gd(g:E->E->(E × E) × Bool):List Pc->List T->List T->RbO
 |[],m,h=>Dd m h
 |.a o::l,m,h=>Gd g l (m++o.l) h
 |.b o::l,m,h=>Gd g l m (h++o.l)
 |.both o o'::l,m,h=>
  (((Dd m h).1.1++((DL g o o').1.1++(Gd g l [] []).1.1),(Dd m h).1.2++((DL g o o').1.2++(Gd g l [] []).1.2)),(Dd m h).2|| ((DL g o o').2|| (Gd g l [] []).2))
inductive v9(R:E->T->T->Prop):List Pc->List T->List T->List T->Prop
 |nil:v9 R [] [] [] []
 |a (L m:List T) (l:List Pc) (a x y:List T) (hl:L.map Af=m.map Af) (g:v9 R l a x y):v9 R (.a (.mk 2 0 L E0)::l) a (m++x) y
 |b (L m:List T) (l:List Pc) (a x y:List T) (hl:L.map Af=m.map Af) (g:v9 R l a x y):v9 R (.b (.mk 2 0 L E0)::l) a x (m++y)
 |both (o o':OP) (l:List Pc) (a1 a2 x1 x2 y1 y2:List T) (h:LdO R [o] a1 x1) (h':LdO R [o'] a1 y1) (ho:o.kind≠2) (ho':o'.kind≠2) (g:v9 R l a2 x2 y2):v9 R (.both o o'::l) (a1++a2) (x1++x2) (y1++y2)
theorem nM{R:E->T->T->Prop}{p:OP}{ps:List OP}{a x:List T}(h:LdO R (p::ps) a x)(hp:p.kind≠2){n:Nat}(h1:1<=n)(hn:(n:Int)<=PN p) :
  ∃a1 a2 x1 x2,a=a1++a2/\x=x1++x2/\a1.length=n/\LdO R [Jm p n] a1 x1/\LdO R (Ko p n ps) a2 x2/\(Jm p n).kind≠2:=by
 cases h with
 |@keep _ a b l m hne hl g=>
  have hs:PN (.mk 0 (l.length:Nat) [] E0)=(l.length:Int):=by simp[PN]
  rw[hs]at hn;have hll:l.length=m.length:=by simpa using congrArg List.length hl
  by_cases c:(l.length:Int)<=n
  ·have e:n=l.length:=oF
   have e1:Jm (.mk 0 (l.length:Nat) [] E0) n=.mk 0 (l.length:Nat) [] E0:=by unfold Jm;rw[if_pos (by rw[hs];exact c)]
   have e2:Ko (.mk 0 (l.length:Nat) [] E0) n ps=ps:=by unfold Ko;rw[if_pos (by rw[hs];exact c)]
   rw[e1,e2];refine⟨l,a,m,b,rfl,rfl,e.symm,?_,g,iS⟩;have:=LdO.keep (R:=R) l m hne hl .nil;simpa using this
  ·have e1:Jm (.mk 0 (l.length:Nat) [] E0) n=.mk 0 ((l.take n).length:Nat) [] E0:=by
    unfold Jm;rw[if_neg (by rw[hs];exact c)];simp[frO];omega
   have e2:Ko (.mk 0 (l.length:Nat) [] E0) n ps=.mk 0 ((l.drop n).length:Nat) [] E0::ps:=by
    unfold Ko;rw[if_neg (by rw[hs];exact c)];simp[pj];omega
   rw[e1,e2];refine⟨l.take n,l.drop n++a,m.take n,m.drop n++b,by rw[<-List.append_assoc,List.take_append_drop],by rw[<-List.append_assoc,List.take_append_drop],by simp;omega,?_,.keep _ _ (fun h=>by have:=congrArg List.length h;simp at this;omega) (by rw[List.map_drop,List.map_drop,hl]) g,iS⟩;have:=LdO.keep (R:=R) (l.take n) (m.take n) (List.ne_nil_of_length_pos (by rw[List.length_take];omega)) (by rw[List.map_take,List.map_take,hl]) .nil;simpa using this
 |@del _ a b l m hne hl g=>
  have hs:PN (.mk 1 0 l E0)=(l.length:Int):=by simp[PN]
  rw[hs]at hn;have hll:l.length=m.length:=by simpa using congrArg List.length hl
  by_cases c:(l.length:Int)<=n
  ·have e:n=l.length:=oF
   have e1:Jm (.mk 1 0 l E0) n=.mk 1 0 l E0:=by unfold Jm;rw[if_pos (by rw[hs];exact c)]
   have e2:Ko (.mk 1 0 l E0) n ps=ps:=by unfold Ko;rw[if_pos (by rw[hs];exact c)]
   rw[e1,e2];refine⟨m,a,[],x,rfl,rfl,oF,?_,g,iS⟩;have:=LdO.del (R:=R) l m hne hl .nil;simpa using this
  ·have e1:Jm (.mk 1 0 l E0) n=.mk 1 0 (l.take n) E0:=by unfold Jm;rw[if_neg (by rw[hs];exact c)];rfl
   have e2:Ko (.mk 1 0 l E0) n ps=.mk 1 0 (l.drop n) E0::ps:=by unfold Ko;rw[if_neg (by rw[hs];exact c)];rfl
   rw[e1,e2];refine⟨m.take n,m.drop n++a,[],x,by rw[<-List.append_assoc,List.take_append_drop],rfl,by simp;omega,?_,.del _ _ (fun h=>by have:=congrArg List.length h;simp at this;omega) (by rw[List.map_drop,List.map_drop,hl]) g,iS⟩;have:=LdO.del (R:=R) (l.take n) (m.take n) (List.ne_nil_of_length_pos (by rw[List.length_take];omega)) (by rw[List.map_take,List.map_take,hl]) .nil;simpa using this
 |ins l m hne hl g=>exact absurd rfl hp
 |@desc _ a b e x y r g=>
  have hs:PN (.mk 3 0 [] e)=1:=by simp[PN]
  rw[hs]at hn;have en:n=1:=oF
  subst en;have e1:Jm (.mk 3 0 [] e) 1=.mk 3 0 [] e:=by unfold Jm;rw[if_pos (by rw[hs];decide)]
  have e2:Ko (.mk 3 0 [] e) 1 ps=ps:=by unfold Ko;rw[if_pos (by rw[hs];decide)]
  rw[e1,e2];exact⟨[x],a,[y],b,rfl,rfl,rfl,.desc e x y r .nil,g,iS⟩
theorem mc{R:E->T->T->Prop}{ps qs:List OP}{l:List Pc}(h:Xg ps qs l):∀(a x y:List T),LdO R ps a x->LdO R qs a y->(∀o,o∈ps->Xe o)->(∀o,o∈qs->Xe o)->v9 R l a x y:=by
 induction h with
 |nil=>
  intro a x y h1 h2 _ _;cases h1;cases h2;exact .nil
 |fst p ps qs l h g ih=>
  intro a x y h1 h2 s1 s2;cases h1 with
  |keep l m hne hl g=>simp at h
  |del l m hne hl g=>simp at h
  |desc e x y r g=>simp at h
  |ins L m hne hl g=>exact .a L m _ _ _ _ hl (ih _ _ _ g h2 (fun o ho=>s1 o (List.mem_cons_of_mem _ ho)) s2)
 |snd ps q qs l hp h g ih=>
  intro a x y h1 h2 s1 s2;cases h2 with
  |keep l m hne hl g=>simp at h
  |del l m hne hl g=>simp at h
  |desc e x y r g=>simp at h
  |ins L m hne hl g=>exact .b L m _ _ _ _ hl (ih _ _ _ h1 g s1 fun o ho=>s2 o (List.mem_cons_of_mem _ ho))
 |both p ps q qs n l hp hq hn g ih=>
  intro a x y h1 h2 s1 s2;have z1:=Lo (s1 p iS);have z2:=Lo (s2 q iS);obtain⟨a1,a2,x1,x2,rfl,rfl,u1,u2,u3,u4⟩:=nM h1 hp (n:=n) oF oF;obtain⟨b1,b2,y1,y2,e,rfl,v1,v2,v3,v4⟩:=nM h2 hq (n:=n) oF oF;obtain⟨rfl,rfl⟩:=List.append_inj e oF;exact .both _ _ _ _ _ _ _ _ _ u2 v2 u4 v4 (ih _ _ _ u3 v3 (SS s1 n) (SS s2 n))
theorem zA{ps qs:List OP}{l:List Pc}(h:Xg ps qs l):∀m,Xg ps qs m->l=m:=by
 induction h with
 |nil=>intro m h;cases h;rfl
 |fst p ps qs l h g ih=>
  intro m hm;cases hm with
  |fst _ _ _ l' h' g'=>rw[ih _ g']
  |snd _ q qs l' hp' h' g'=>
   have:decide (p.kind=2)=false:=hp';exact absurd h (of_decide_eq_false this)
  |both _ _ q qs n l' hp' _ _ _=>exact absurd h hp'
 |snd ps q qs l hp h g ih=>
  intro m hm;cases hm with
  |fst p ps _ l' h' g'=>
   have:decide (p.kind=2)=false:=hp;exact absurd h' (of_decide_eq_false this)
  |snd _ _ _ l' hp' h' g'=>rw[ih _ g']
  |both p ps _ _ n l' _ hq' _ _=>exact absurd h hq'
 |both p ps q qs n l hp hq hn g ih=>
  intro m hm;cases hm with
  |fst _ _ _ l' h' g'=>exact absurd h' hp
  |snd _ _ _ l' hp' h' g'=>exact absurd h' hq
  |both _ _ _ _ n' l' _ _ hn' g'=>
   have:n=n':=oF
   subst this;rw[ih _ g']
theorem Ha{l:List T}(h:∀t,t∈l->Af t=t):l.map Af=l:=by
 rw[List.map_congr_left h,List.map_id']
theorem Ws{l m:List T}(hl:∀t,t∈l->Af t=t)(hm:∀t,t∈m->Af t=t)(h:l.map Af=m.map Af):l=m:=by
 rwa [Ha hl,Ha hm]at h
section
variable {S:E->T->T->Prop}
theorem Re{l m:List T}(h:l.map Af=m.map Af):LdO S (RR l.length) l m:=by
 unfold RR;by_cases c:l=[]
 ·subst c;have:m=[]:=by simpa using h.symm
  subst this;exact .nil
 ·rw[if_neg (fun e=>c (List.eq_nil_of_length_eq_zero e))];have:=LdO.keep (R:=S) l m c h .nil;simpa using this
theorem nA{l m:List T}(h:l.map Af=m.map Af):LdO S (Yj l) [] m:=by
 unfold Yj;by_cases c:l=[]
 ·subst c;have:m=[]:=by simpa using h.symm
  subst this;exact .nil
 ·rw[if_neg c];have:=LdO.ins (R:=S) l m c h .nil;simpa using this
theorem nn{l m:List T}(h:l.map Af=m.map Af):l.map Af=(m.map Af).map Af:=by rw[Ch,h]
theorem Ff{l m:List T}(h:l.map Af=m.map Af):l.length=m.length:=by simpa using congrArg List.length h
theorem cY{m h m' h':List T}(em:m.map Af=m'.map Af)(eh:h.map Af=h'.map Af)(at':Di)(kind:Int)(n:Nat) :
  ((Dd m h).2=true↔(Fx at' kind n m h).2≠[])/\((Dd m h).2=false->LdO S (Dd m h).1.1 h' (Fx at' kind n m h).1/\LdO S (Dd m h).1.2 m' (Fx at' kind n m h).1)/\(Fx at' kind n m h).1.length<=m.length+h.length:=by
 have l1:=Ff em;have l2:=Ff eh;unfold Dd Fx;by_cases c1:m=[]
 ·subst c1;have:m'=[]:=by simpa using em.symm
  subst this;rw[if_neg iS,if_pos (.inl rfl)];refine⟨iS,fun _=>⟨?_,?_⟩,iS⟩
  ·rw[l2];simpa[Yj]using Re (S:=S) (l:=h') (m:=h.map Af) (by rw[Ch,eh])
  ·simpa[RR]using nA (S:=S) (l:=h) (m:=h.map Af) (Ch h).symm
 ·by_cases c2:h=[]
  ·subst c2;have:h'=[]:=by simpa using eh.symm
   subst this;rw[if_neg iS,if_neg (by simp[c1]),if_pos rfl];refine⟨iS,fun _=>⟨?_,?_⟩,iS⟩
   ·simpa[RR]using nA (S:=S) (l:=m) (m:=m.map Af) (Ch m).symm
   ·rw[l1];simpa[Yj]using Re (S:=S) (l:=m') (m:=m.map Af) (by rw[Ch,em])
  ·rw[if_pos ⟨c1,c2⟩];by_cases c3:m.map Af=h.map Af
   ·rw[if_pos (.inr c3)];refine⟨by simp[c3],fun _=>⟨?_,?_⟩,iS⟩
    ·show LdO S (RR h.length) h' _;rw[l2];exact Re (by rw[Ch,eh])
    ·show LdO S (RR m.length) m' _;rw[l1];exact Re (by rw[Ch,<-em,c3])
   ·rw[if_neg (by simp[c1,c3]),if_neg c2];exact⟨by simp[c3],fun h=>by simp[c3]at h,iS⟩
end
theorem mz{R:E->T->T->Prop}{o:OP}{a x:List T}(h:LdO R [o] a x)(ho:o.kind≠2):Kt o=a.length:=by
 cases h with
 |@keep _ a b l m hne hl g=>
  cases g;have:=List.length_pos_iff.2 hne;simp[Kt];omega
 |@del _ a b l m hne hl g=>
  cases g;have:=List.length_pos_iff.2 hne;have:=Ff hl;simp[Kt];omega
 |ins l m hne hl g=>exact absurd rfl ho
 |@desc _ a b e x y r g=>cases g;simp[Kt]
section
variable {mg:Di->T->E->E->T × List Cf} {at':Di}
theorem Su(hE:∀at' k,mg at' k E0 E0=(Af k,[])){o o':OP}(h1:o.kind=0)(h2:o'.kind=0):∀(ks:List T)(n:Nat),EG mg at' o o' ks n=(ks.map Af,[])
 |[],n=>rfl
 |k::ks,n=>by
  rw[EG,Su hE h1 h2 ks (n+1)];simp[Il,h1,h2,B6,eU,hE]
theorem Ow{o o':OP}(h:(o.kind=1/\o'.kind≠3)\/(o'.kind=1/\o.kind≠3))(h2:o.kind≠2)(h3:o'.kind≠2)(k3:o.kind=0\/o.kind=1\/o.kind=3)(k4:o'.kind=0\/o'.kind=1\/o'.kind=3):∀(ks:List T)(n:Nat),EG mg at' o o' ks n=([],[])
 |[],n=>rfl
 |k::ks,n=>by
  rw[EG,Ow h h2 h3 k3 k4 ks (n+1)];rcases k3 with k|k|k<;>rcases k4 with g|g|g<;>simp[k,g]at h<;>simp[Il,k,g,B6]
end
theorem zd{R S:E->T->T->Prop}{M:Di->T->E->E->T × List Cf}{g:E->E->(E × E) × Bool}{at':Di}
  (hE:∀at' k,M at' k E0 E0=(Af k,[])) (hA:∀at' e k u,R e k u->M at' k E0 e=(Af u,[])/\M at' k e E0=(Af u,[])) (hS:∀e k u,R e k u->S e k (Af u)) (h0:∀e x y,S e x y->e.kind=0->Af x=Af y)
  (hG:∀(n:Nat) e e' k u v,R e k u->R e' k v->((g e e').2=true↔(M (at'++[(0,(n:Int))]) k e e').2≠[])/\((g e e').2=false->S (g e e').1.1 v (M (at'++[(0,(n:Int))]) k e e').1/\S (g e e').1.2 u (M (at'++[(0,(n:Int))]) k e e').1))
  {o o':OP} {a x y:List T} (h:LdO R [o] a x) (h':LdO R [o'] a y) (ho:o.kind≠2) (ho':o'.kind≠2) (na:∀t,t∈a->Af t=t) (nx:∀t,t∈x->Af t=t) (ny:∀t,t∈y->Af t=t) (n:Nat) :
  ((DL g o o').2=true↔(EG M at' o o' a n).2≠[])/\((DL g o o').2=false->LdO S (DL g o o').1.1 y (EG M at' o o' a n).1/\LdO S (DL g o o').1.2 x (EG M at' o o' a n).1)/\(EG M at' o o' a n).1.length<=a.length:=by
 have dl:∀{l m:List T},l≠[]->l.map Af=m.map Af->LdO S [.mk 1 0 l E0] m []:=fun hne hl=>by
  have:=LdO.del (R:=S) _ _ hne hl .nil;simpa using this
 have kp:∀{l m:List T} {n:Nat},l.length=n->n≠0->l.map Af=m.map Af->LdO S [.mk 0 n [] E0] l m:=fun hn hne hl=>by
  subst hn;have:=Re (S:=S) hl
  rwa [RR,if_neg hne]at this
 cases h with
 |@keep _ a1 b1 l m hne hl gg=>
  cases gg;rw[List.append_nil]at na h';rw[List.append_nil]at nx;simp only[List.append_nil];have lp:=List.length_pos_iff.2 hne;have exl:l=m:=Ws na nx hl;subst exl;generalize hal:l=al at h' na;cases h' with
  |@keep _ a2 b2 l2 m2 hne2 hl2 gg2=>
   cases gg2;rw[List.append_nil]at hal;subst hal;simp only[List.append_nil];rw[Su hE rfl rfl];refine⟨by simp[DL],fun _=>⟨?_,?_⟩,iS⟩
   ·show LdO S [.mk 0 (max ((l.length:Nat):Int) 1) [] E0] m2 _;rw[show max ((l.length:Nat):Int) 1=((l.length:Nat):Int)from oF];exact kp (Ff hl2).symm oF (by rw[Ch,hl2])
   ·exact kp rfl oF (Ch l).symm
  |@del _ a2 b2 l2 m2 hne2 hl2 gg2=>
   cases gg2;rw[List.append_nil]at hal;subst hal;rw[Ow (.inr ⟨rfl,iS⟩) iS iS (.inl rfl) (.inr (.inl rfl))];exact⟨by simp[DL],fun _=>⟨.nil,dl hne2 (by simpa using hl2)⟩,iS⟩
  |ins l2 m2 hne2 hl2 gg2=>exact absurd rfl ho'
  |@desc _ a2 b2 e2 x2 y2 r2 gg2=>
   cases gg2;subst hal;have nx2:Af x2=x2:=na x2 iS;have:=(hA (at'++[(0,(n:Int))]) e2 x2 y2 r2).1;have er:EG M at' (.mk 0 (([x2]:List T).length:Nat) [] E0) (.mk 3 0 [] e2) [x2] n=([Af y2],[]):=by
    simp[EG,Il,B6,eU,this]
   rw[er];refine⟨by simp[DL],fun _=>⟨?_,?_⟩,iS⟩
   ·show LdO S [.mk 0 (max 0 1) [] E0] [y2] [Af y2];exact kp (n:=1) rfl oF (by simp[B8])
   ·exact .desc e2 x2 (Af y2) (hS e2 x2 y2 r2) .nil
 |@del _ a1 b1 l m hne hl gg=>
  cases gg;rw[List.append_nil]at na h';simp only[List.append_nil];generalize hal:m=al at h' na;cases h' with
  |@keep _ a2 b2 l2 m2 hne2 hl2 gg2=>
   cases gg2;rw[List.append_nil]at hal;subst hal;simp only[List.append_nil];rw[Ow (.inl ⟨rfl,iS⟩) iS iS (.inr (.inl rfl)) (.inl rfl)];exact⟨by simp[DL],fun _=>⟨dl hne (hl.trans hl2),.nil⟩,iS⟩
  |@del _ a2 b2 l2 m2 hne2 hl2 gg2=>
   cases gg2;rw[List.append_nil]at hal;subst hal;rw[Ow (.inl ⟨rfl,iS⟩) iS iS (.inr (.inl rfl)) (.inr (.inl rfl))];exact⟨by simp[DL],fun _=>⟨.nil,.nil⟩,iS⟩
  |ins l2 m2 hne2 hl2 gg2=>exact absurd rfl ho'
  |@desc _ a2 b2 e2 x2 y2 r2 gg2=>
   cases gg2;subst hal;refine⟨by simp[DL,EG,Il,B6],fun h=>by simp[DL]at h,by simp[EG,Il,B6]⟩
 |ins l m hne hl gg=>exact absurd rfl ho
 |@desc _ a1 b1 e1 x1 y1 r1 gg=>
  cases gg;generalize hal:[x1]=al at h' na;cases h' with
  |@keep _ a2 b2 l2 m2 hne2 hl2 gg2=>
   cases gg2;rw[List.append_nil]at hal;subst hal;simp only[List.append_nil];have l2:=Ff hl2;have ny2:Af x1=x1:=na x1 iS;rw[List.append_nil]at ny;have em:m2=[x1]:=(Ws (by simpa using ny2) ny hl2).symm;subst em;have:=(hA (at'++[(0,(n:Int))]) e1 x1 y1 r1).2;have er:EG M at' (.mk 3 0 [] e1) (.mk 0 (([x1]:List T).length:Nat) [] E0) [x1] n=([Af y1],[]):=by
    simp[EG,Il,B6,eU,this]
   rw[er];refine⟨by simp[DL],fun _=>⟨?_,?_⟩,iS⟩
   ·exact .desc e1 x1 (Af y1) (hS e1 x1 y1 r1) .nil
   ·exact kp (n:=1) rfl oF (by simp[B8])
  |@del _ a2 b2 l2 m2 hne2 hl2 gg2=>
   cases gg2;rw[List.append_nil]at hal;subst hal;refine⟨by simp[DL,EG,Il,B6],fun h=>by simp[DL]at h,by simp[EG,Il,B6]⟩
  |ins l2 m2 hne2 hl2 gg2=>exact absurd rfl ho'
  |@desc _ a2 b2 e2 x2 y2 r2 gg2=>
   cases gg2;injection hal with hx _;subst hx;obtain⟨g1,g2⟩:=hG n e1 e2 x1 y1 y2 r1 r2;have er:EG M at' (.mk 3 0 [] e1) (.mk 3 0 [] e2) [x1] n=([(M (at'++[(0,(n:Int))]) x1 e1 e2).1],(M (at'++[(0,(n:Int))]) x1 e1 e2).2):=by
    simp[EG,Il,B6,eU]
   have ep:DL g (.mk 3 0 [] e1) (.mk 3 0 [] e2)=(([Q0 (g e1 e2).1.1],[Q0 (g e1 e2).1.2]),(g e1 e2).2):=by simp[DL]
   have st:∀e u v,S e u v->LdO S [Q0 e] [u] [v]:=fun e u v s=>by
    unfold Q0;by_cases c:e.kind=0
    ·rw[if_pos c];exact kp (n:=1) rfl oF (by simp[h0 e u v s c])
    ·rw[if_neg c];exact .desc e u v s .nil
   rw[er,ep];refine⟨g1,fun hc=>?_,iS⟩;obtain⟨s1,s2⟩:=g2 hc;exact⟨st _ _ _ s1,st _ _ _ s2⟩
theorem zo{R S:E->T->T->Prop}{M:Di->T->E->E->T × List Cf}{g:E->E->(E × E) × Bool}{at':Di}{kind:Int}
  (hE:∀at' k,M at' k E0 E0=(Af k,[])) (hA:∀at' e k u,R e k u->M at' k E0 e=(Af u,[])/\M at' k e E0=(Af u,[])) (hS:∀e k u,R e k u->S e k (Af u)) (h0:∀e x y,S e x y->e.kind=0->Af x=Af y)
  (hG:∀(n:Nat) e e' k u v,R e k u->R e' k v->((g e e').2=true↔(M (at'++[(0,(n:Int))]) k e e').2≠[])/\((g e e').2=false->S (g e e').1.1 v (M (at'++[(0,(n:Int))]) k e e').1/\S (g e e').1.2 u (M (at'++[(0,(n:Int))]) k e e').1))
  {l:List Pc} {a x y:List T} (h:v9 R l a x y):(∀t,t∈a->Af t=t)->(∀t,t∈x->Af t=t)->(∀t,t∈y->Af t=t)->∀(m h m' h':List T)(n:Nat),m.map Af=m'.map Af->h.map Af=h'.map Af ->
  ((Gd g l m h).2=true↔(run M at' kind l m h a n).2≠[])/\((Gd g l m h).2=false->LdO S (Gd g l m h).1.1 (h'++y) (run M at' kind l m h a n).1/\LdO S (Gd g l m h).1.2 (m'++x) (run M at' kind l m h a n).1)/\(run M at' kind l m h a n).1.length<=m.length+h.length+a.length+x.length+y.length:=by
 induction h with
 |nil=>
  intro _ _ _ m h m' h' n em eh;obtain⟨g1,g2,g3⟩:=cY (S:=S) em eh at' kind n;rw[Gd,run];simp only[List.append_nil];exact⟨g1,g2,by simpa using g3⟩
 |a L k l a x y hl gg ih=>
  intro na nx ny m h m' h' n em eh;obtain⟨i1,i2,i3⟩:=ih na (fun t ht=>nx t (List.mem_append_right _ ht)) ny (m++L) h (m'++k) h' n (by rw[List.map_append,List.map_append,em,hl]) eh;have:=Ff hl;rw[Gd,run];refine⟨i1,fun hc=>?_,by simp at i3 ⊢; omega⟩;obtain⟨j1,j2⟩:=i2 hc;exact⟨j1,by simpa using j2⟩
 |b L k l a x y hl gg ih=>
  intro na nx ny m h m' h' n em eh;obtain⟨i1,i2,i3⟩:=ih na nx (fun t ht=>ny t (List.mem_append_right _ ht)) m (h++L) m' (h'++k) n em (by rw[List.map_append,List.map_append,eh,hl]);have:=Ff hl;rw[Gd,run];refine⟨i1,fun hc=>?_,by simp at i3 ⊢; omega⟩;obtain⟨j1,j2⟩:=i2 hc;exact⟨by simpa using j1,j2⟩
 |both o o' l a1 a2 x1 x2 y1 y2 h h' ho ho' gg ih=>
  intro na nx ny m hh m' hh' n em eh;have cn:=mz h ho;obtain⟨i1,i2,i3⟩:=ih (fun t ht=>na t (List.mem_append_right _ ht)) (fun t ht=>nx t (List.mem_append_right _ ht)) (fun t ht=>ny t (List.mem_append_right _ ht)) [] [] [] [] (n+Kt o) rfl rfl;obtain⟨g1,g2,g3⟩:=cY (S:=S) em eh at' kind n;obtain⟨p1,p2,p3⟩:=zd (g:=g) (at':=at') hE hA hS h0 hG h h' ho ho' (fun t ht=>na t (List.mem_append_left _ ht)) (fun t ht=>nx t (List.mem_append_left _ ht)) (fun t ht=>ny t (List.mem_append_left _ ht)) n;rw[Gd,run,List.take_left' (by rw[cn]),List.drop_left' (by rw[cn])];refine⟨?_,fun hc=>?_,by simp at i3 g3 p3 ⊢; omega⟩
  ·simp only[Bool.or_eq_true,g1,p1,i1,ne_eq,List.append_eq_nil_iff,Classical.not_and_iff_not_or_not]
  ·simp only[Bool.or_eq_false_iff]at hc;obtain⟨j1,j2⟩:=g2 hc.1;obtain⟨k1,k2⟩:=p2 hc.2.1;obtain⟨r1,r2⟩:=i2 hc.2.2;exact⟨Ex j1 (Ex k1 (by simpa using r1)),Ex j2 (Ex k2 (by simpa using r2))⟩
theorem Ae3{Z:T->Prop}{R S:E->T->T->Prop}{M:Di->T->E->E->T × List Cf}{g:E->E->(E × E) × Bool}{at':Di}{kind:Int}
  (hE:∀at' k,M at' k E0 E0=(Af k,[])) (hA:∀at' e k u,R e k u->M at' k E0 e=(Af u,[])/\M at' k e E0=(Af u,[])) (hZ:∀e x y,S e x y->Z y)
  (hG:∀(n:Nat) e e' k u v,R e k u->R e' k v->(g e e').2=false->S (g e e').1.1 v (M (at'++[(0,(n:Int))]) k e e').1)
  {l:List Pc} {a x y:List T} (h:v9 R l a x y):(∀t,t∈a->Af t=t/\Z t)->(∀t,t∈x->Af t=t/\Z t)->(∀t,t∈y->Af t=t/\Z t)->∀(m h m' h':List T)(n:Nat),m.map Af=m'.map Af->h.map Af=h'.map Af->(∀t,t∈m'->Af t=t/\Z t)->(∀t,t∈h'->Af t=t/\Z t)->(Gd g l m h).2=false->∀z,z∈(run M at' kind l m h a n).1->Z z:=by
 have gp:∀(m h m' h':List T)(n:Nat),m.map Af=m'.map Af->h.map Af=h'.map Af->(∀t,t∈m'->Af t=t/\Z t)->(∀t,t∈h'->Af t=t/\Z t)->∀z,z∈(Fx at' kind n m h).1->Z z:=fun m h m' h' n em eh zm zh z hz=>by
  rw[Ha (fun t ht=>(zm t ht).1)]at em;rw[Ha (fun t ht=>(zh t ht).1)]at eh;unfold Fx at hz;split at hz
  ·rw[eh]at hz;exact(zh z hz).2
  ·split at hz
   ·rw[em]at hz;exact(zm z hz).2
   ·simp at hz
 induction h with
 |nil=>intro _ _ _ m h m' h' n em eh zm zh _;exact gp m h m' h' n em eh zm zh
 |a L k l a x y hl gg ih=>
  intro na nx ny m h m' h' n em eh zm zh hc;rw[run];exact ih na (fun t ht=>nx t (List.mem_append_right _ ht)) ny (m++L) h (m'++k) h' n (by rw[List.map_append,List.map_append,em,hl]) eh (fun t ht=>by
   rcases List.mem_append.1 ht with ht|ht
   ·exact zm t ht
   ·exact nx t (List.mem_append_left _ ht)) zh (by simpa[Gd]using hc)
 |b L k l a x y hl gg ih=>
  intro na nx ny m h m' h' n em eh zm zh hc;rw[run];exact ih na nx (fun t ht=>ny t (List.mem_append_right _ ht)) m (h++L) m' (h'++k) n em (by rw[List.map_append,List.map_append,eh,hl]) zm (fun t ht=>by
   rcases List.mem_append.1 ht with ht|ht
   ·exact zh t ht
   ·exact ny t (List.mem_append_left _ ht)) (by simpa[Gd]using hc)
 |both o o' l a1 a2 x1 x2 y1 y2 h h' ho ho' gg ih=>
  intro na nx ny m hh m' hh' n em eh zm zh hc;have cn:=mz h ho;rw[run,List.take_left' (by rw[cn]),List.drop_left' (by rw[cn])];rw[Gd]at hc;simp only[Bool.or_eq_false_iff]at hc;intro z hz;simp only[List.mem_append]at hz;rcases hz with hz|hz|hz
  ·exact gp m hh m' hh' n em eh zm zh z hz
  ·have na1:∀t,t∈a1->Af t=t/\Z t:=fun t ht=>na t (List.mem_append_left _ ht);have nx1:∀t,t∈x1->Af t=t/\Z t:=fun t ht=>nx t (List.mem_append_left _ ht);have ny1:∀t,t∈y1->Af t=t/\Z t:=fun t ht=>ny t (List.mem_append_left _ ht);have sh:∀{o:OP} {a x:List T},LdO R [o] a x->o.kind≠2->(o.kind=0\/o.kind=1)\/(∃e k u,o=.mk 3 0 [] e/\a=[k]/\x=[u]/\R e k u):=fun h ho=>by
    cases h with
    |keep l m hne hl g=>exact .inl (.inl rfl)
    |del l m hne hl g=>exact .inl (.inr rfl)
    |ins l m hne hl g=>exact absurd rfl ho
    |desc e x y r g=>cases g;exact .inr ⟨e,x,y,rfl,rfl,rfl,r⟩
   rcases sh h ho with k1|⟨e1,t1,u1,rfl,rfl,rfl,r1⟩
   ·rcases sh h' ho' with k2|⟨e2,t2,u2,rfl,rfl,rfl,r2⟩
    ·by_cases c:o.kind=0/\o'.kind=0
     ·rw[Su hE c.1 c.2,Ha fun t ht=>(na1 t ht).1]at hz;exact(na1 z hz).2
     ·rw[Ow oF ho ho' oF oF]at hz;simp at hz
    ·rcases k1 with k1|k1
     ·have:=(hA (at'++[(0,(n:Int))]) e2 t2 u2 r2).1;simp[EG,Il,k1,B6,eU,this]at hz;rw[hz,(ny1 u2 iS).1];exact(ny1 u2 iS).2
     ·simp[DL,k1]at hc
   ·rcases sh h' ho' with k2|⟨e2,t2,u2,rfl,e,rfl,r2⟩
    ·rcases k2 with k2|k2
     ·have:=(hA (at'++[(0,(n:Int))]) e1 t1 u1 r1).2;simp[EG,Il,k2,B6,eU,this]at hz;rw[hz,(nx1 u1 iS).1];exact(nx1 u1 iS).2
     ·simp[DL,k2]at hc
    ·injection e with e _;subst e;have hp:=hc.2.1;simp[DL]at hp;have:=hG n e1 e2 t1 u1 u2 r1 r2 hp;simp[EG,Il,B6,eU]at hz;rw[hz];exact hZ _ _ _ this
  ·exact ih (fun t ht=>na t (List.mem_append_right _ ht)) (fun t ht=>nx t (List.mem_append_right _ ht)) (fun t ht=>ny t (List.mem_append_right _ ht)) [] [] [] [] (n+Kt o) rfl rfl iS iS hc.2.2 z hz
end Go.Proofs.YtlaapfplenlfaaaGreat
namespace Go.Proofs.YtlaapfplenlfaaaGreat
open Go Go.G Go.Proofs Go.PL
open Classical in
noncomputable def sJ(ps qs:List OP):List Pc:=if h:∃l,Xg ps qs l then Classical.choose h else []
theorem nr{ps qs:List OP}{l:List Pc}(h:Xg ps qs l):sJ ps qs=l:=by
 have hx:∃l,Xg ps qs l:=⟨l,h⟩;unfold sJ;rw[dif_pos hx];exact zA (Classical.choose_spec hx) l h
def KM(list:Int)(ops:List OP):E:=if (ops.all fun o=>decide (o.kind=0))=true then E0 else .mk 3 T0 T0 [] [] list ops
def He(ws:List WE)(ks:List KE):E:=if ws.length+ks.length=0 then E0 else .mk 2 T0 T0 ws ks 0 []
noncomputable def XP(p q:E):(E × E) × Bool:=
 if p.kind=0\/q.kind=0 then ((p,q),false)else if p.kind=1 then ((E0,E0),!J2 (JG q p.old) p.new)else ((E0,E0),!J2 (JG p q.old) q.new)
def x9(g:E->E->(E × E) × Bool)(p q:E):(E × E) × Bool:=
 ((He (I3 (p.words.map (TP q.words))) (IW (p.kids.map (XJ (fun a b=>(g a b).1.1) q.kids))),He (I3 (q.words.map (TP p.words))) (IW (q.kids.map (XJ (fun b a=>(g a b).1.2) p.kids)))),
  clW p.words q.words|| clK (fun a b=>(g a b).2) p.kids q.kids)
noncomputable def rbL(g:E->E->(E × E) × Bool)(p q:E):(E × E) × Bool:=
 ((KM p.list (Gd g (sJ p.ops q.ops) [] []).1.1,KM p.list (Gd g (sJ p.ops q.ops) [] []).1.2),(Gd g (sJ p.ops q.ops) [] []).2)
noncomputable def rb:Nat->E->E->(E × E) × Bool
 |0,p,q=>XP p q
 |f+1,p,q=>if p.kind=2/\q.kind=2 then x9 (rb f) p q else if p.kind=3/\q.kind=3 then rbL (rb f) p q else XP p q
theorem ic(f:Nat)(e:E):rb f E0 e=((E0,e),false):=by
 have h:XP E0 e=((E0,e),false):=if_pos (.inl rfl);cases f with
 |zero=>exact h
 |succ f=>rw[rb,if_neg iS,if_neg iS];exact h
theorem mM(f:Nat)(e:E):rb f e E0=((e,E0),false):=by
 have h:XP e E0=((e,E0),false):=if_pos (.inr rfl);cases f with
 |zero=>exact h
 |succ f=>rw[rb,if_neg iS,if_neg iS];exact h
theorem ni:∀(f g:Nat)(t:T),SU g t->Sq f t
 |0,g,t,_=>trivial
 |f+1,g,t,h=>by
  have:=Au h;exact⟨oF,oF,fun k hk=>ni f (g-1) k (BI h k hk)⟩
def ie(f:Nat)(e:E)(a b:T):Prop:=m4 f e a b/\Af b=b
def NA(most:Int)(f:Nat)(p:E)(o x:T):Prop:=Df most f p o x/\Nh p
section
variable {most:Int} {f:Nat} {p q:E} {o x y:T}
theorem I7(h:NA most f p o x):(Af o=o/\AE o/\Sq f o)/\(Af x=x/\AE x/\Sq f x):=by
 obtain⟨⟨h1,⟨g,h2⟩,_⟩,_⟩:=h;have a:=Au h1;have b:=Au h2;exact⟨⟨a.2.1,a.1,ni f f o h1⟩,b.2.1,b.1,ni f g x h2⟩
theorem bG(h:NA most f p o x):ie f p o x:=by
 obtain⟨⟨a1,a2,a3⟩,b1,b2,b3⟩:=I7 h;exact⟨⟨Ct h.1,h.2,a2,b2,a3,b3⟩,b1⟩
theorem Zr{t:T}(h:Af t=t/\AE t/\Sq f t):ie f E0 t t:=⟨a0 h.2.1 h.2.2,h.1⟩
theorem bP(h:Df most f p o x)(hk:p.kind=1):p.old=Af o/\p.new=Af x:=by
 have e1:=Oq h;rw[hk]at e1;obtain⟨_,_,_,_,e⟩:=h;have:El most f o x=.mk 1 o x [] [] 0 []:=by
  cases f with
  |zero=>
   rw[El]at e1 ⊢;split at e1
   ·exact absurd e1 (by show ¬(1:Int)=0;decide)
   ·rename_i c;rw[if_neg c]
  |succ f=>
   rw[El]at e1 ⊢;split at e1
   ·exact absurd e1 (by show ¬(1:Int)=0;decide)
   ·rename_i c;rw[if_neg c];split at e1
    ·exact absurd e1 (by show ¬(1:Int)=2;decide)
    ·rename_i c2;rw[if_neg c2];split at e1
     ·exact absurd e1 (by show ¬(1:Int)=3;decide)
     ·rename_i c3;rw[if_neg c3]
 rw[this,EA,if_pos rfl]at e;rw[e];exact⟨rfl,rfl⟩
theorem wK(hp:NA most f p o x)(hq:NA most f q o y)(h2:¬(p.kind=2/\q.kind=2))(h3:¬(p.kind=3/\q.kind=3))(at':Di) :
  ((XP p q).2=true↔(S9 at' o p q).2≠[])/\((XP p q).2=false->ie f (XP p q).1.1 y (S9 at' o p q).1/\ie f (XP p q).1.2 x (S9 at' o p q).1):=by
 have Lp:=Ct hp.1;have Lq:=Ct hq.1;obtain⟨so,sx⟩:=I7 hp;obtain⟨_,sy⟩:=I7 hq;have ap:JG p o=x:=by rw[HS Lp,sx.1]
 have aq:JG q o=y:=by rw[HS Lq,sy.1]
 have Np:=bG hp;have Nq:=bG hq;by_cases p0:p.kind=0
 ·obtain⟨rfl,e⟩:=IZ Lp p0;rw[so.1,sx.1]at e;subst e;rw[XP,if_pos (.inl p0),S9,if_pos p0,aq];exact⟨iS,fun _=>⟨Zr sy,Nq⟩⟩
 by_cases q0:q.kind=0
 ·obtain⟨rfl,e⟩:=IZ Lq q0;rw[so.1,sy.1]at e;subst e;rw[XP,if_pos (.inr q0),S9,if_neg p0,if_pos q0,ap];exact⟨iS,fun _=>⟨Np,Zr sx⟩⟩
 have core:∀c:Bool,(c=true↔x≠y)->(c=true↔(S9 at' o p q).2≠[])/\(c=false->ie f E0 y (S9 at' o p q).1/\ie f E0 x (S9 at' o p q).1):=fun c hc=>by
  rw[S9,if_neg p0,if_neg q0,ap,aq];by_cases e:x=y
  ·rw[if_pos e];subst e;exact⟨by simpa using hc,fun _=>⟨Zr sx,Zr sx⟩⟩
  ·rw[if_neg e];exact⟨by simpa[e]using hc,fun h=>by simp[h,e]at hc⟩
 have eq:∀u v:T,Af u=u->Af v=v->((!J2 u v)=true↔u≠v):=fun u v hu hv=>by
  rw[Bool.not_eq_true',<-Bool.not_eq_true,eqT_iff,hu,hv]
 by_cases p1:p.kind=1
 ·obtain⟨e1,e2⟩:=bP hp.1 p1;rw[XP,if_neg oF,if_pos p1,e1,e2,so.1,sx.1,aq];exact core _ ((eq y x sy.1 sx.1).trans ⟨fun h e=>h e.symm,fun h e=>h e.symm⟩)
 ·have q1:q.kind=1:=by
   cases f with
   |zero=>
    rcases Lp with ⟨rfl,_⟩|⟨_,_,rfl,_⟩
    ·exact absurd rfl p0
    ·exact absurd rfl p1
   |succ f=>
    rcases Lp with h|⟨ws,ks,rfl,a1,_⟩|⟨os,rfl,_,a1,_⟩
    ·rcases h with ⟨rfl,_⟩|⟨_,_,rfl,_⟩
     ·exact absurd rfl p0
     ·exact absurd rfl p1
    ·rcases Lq with h|⟨ws',ks',rfl,b1,_⟩|⟨os',rfl,_,b1,_⟩
     ·rcases h with ⟨rfl,_⟩|⟨_,_,rfl,_⟩
      ·exact absurd rfl q0
      ·rfl
     ·exact absurd ⟨rfl,rfl⟩ h2
     ·omega
    ·rcases Lq with h|⟨ws',ks',rfl,b1,_⟩|⟨os',rfl,_,b1,_⟩
     ·rcases h with ⟨rfl,_⟩|⟨_,_,rfl,_⟩
      ·exact absurd rfl q0
      ·rfl
     ·omega
     ·exact absurd ⟨rfl,rfl⟩ h3
  obtain⟨e1,e2⟩:=bP hq.1 q1;rw[XP,if_neg oF,if_neg p1,e1,e2,so.1,sy.1,ap];exact core _ (eq x y sx.1 sy.1)
end
theorem wW{Q:List WE}(hQ:∀w,w∈Q->WE.wf w){a:WE}(ha:WE.wf a):WE.wf (TP Q a):=by
 unfold TP;cases e:Q.find? fun b=>decide (b.at_=a.at_) with
 |none=>exact ha
 |some b=>
  have hb:=hQ b (List.mem_of_find?_eq_some e);have hin:=UJ hb.2.1 ha.2.1;exact⟨ha.1,hin,BL _ _ _,BL _ _ _⟩
theorem bV(ws:List WE):(I3 ws).length<=ws.length:=List.length_filter_le _ _
theorem bA(ks:List KE):(IW ks).length<=ks.length:=List.length_filter_le _ _
theorem oK{f:Nat}{ws:List WE}{ks:List KE}{a b:T}(ha:a.kind=1)(hb:b.kind=1)(h1:Jn a.words b.words 0 ws)(h2:MA (Ld f) a.kids b.kids 0 ks):Ld (f+1) (He ws ks) a b:=by
 unfold He;split
 ·rename_i c;have e1:=List.eq_nil_of_length_eq_zero (show ws.length=0 from oF);have e2:=List.eq_nil_of_length_eq_zero (show ks.length=0 from oF);subst e1;subst e2;refine .inl (.inl ⟨rfl,?_⟩);obtain⟨ka,wa,la⟩:=a;obtain⟨kb,wb,lb⟩:=b;have ha:ka=1:=ha;have hb:kb=1:=hb;subst ha;subst hb;refine struct_eq.2 ⟨fun i=>?_,fun i=>?_⟩
  ·cases h1 with
   |nil _ h=>exact h i (Nat.zero_le _)
  ·cases h2 with
   |nil _ h=>exact h i (Nat.zero_le _)
 ·exact .inr (.inl ⟨ws,ks,rfl,ha,hb,h1,h2⟩)
theorem Afj{f:Nat}{most:Int}{p q:E}{o x y t:T}(hp:NA most f p o x)(hq:NA most f q o y):((rb f p q).1.1.kind≠0->y.kind≠0\/q.kind=0)/\((rb f p q).1.2.kind≠0->x.kind≠0\/p.kind=0):=by
 have base:((XP p q).1.1.kind≠0->y.kind≠0\/q.kind=0)/\((XP p q).1.2.kind≠0->x.kind≠0\/p.kind=0):=by
  unfold XP;by_cases c:p.kind=0\/q.kind=0
  ·rw[if_pos c];exact⟨fun h=>by
    rcases c with c|c
    ·exact absurd c h
    ·exact .inr c,fun h=>by
    rcases c with c|c
    ·exact .inr c
    ·exact absurd c h⟩
  ·rw[if_neg c];split<;>exact⟨fun h=>absurd rfl h,fun h=>absurd rfl h⟩
 cases f with
 |zero=>exact base
 |succ f=>
  rw[rb];split
  ·rename_i c;have a:=Ig hp.1 c.1;have b:=Ig hq.1 c.2;exact⟨fun _=>.inl (by rw[b.2.1];decide),fun _=>.inl (by rw[a.2.1];decide)⟩
  ·split
   ·rename_i c;have a:=KH hp.1 c.1;have b:=KH hq.1 c.2;exact⟨fun _=>.inl oF,fun _=>.inl oF⟩
   ·exact base
theorem WK{w:List Int}{l:List T}(i:Nat):(Af (.mk 1 w l)).words.getD i 0=w.getD i 0:=(MG (.mk 1 w l) rfl i).2.1
theorem Za{w:List Int}{l:List T}(i:Nat):(Af (.mk 1 w l)).kids.getD i T0=Af (l.getD i T0):=(MG (.mk 1 w l) rfl i).1
theorem gf{a b:T}{m:Nat}:∀w,w∈HU a b m->∀i:Nat,w.at_=i->∀j,j<8->AH w.mask j=true->AP (a.words.getD i 0) j≠AP (b.words.getD i 0) j:=by
 intro w hw i hi j hj hn;unfold HU at hw;obtain⟨k,hk,hk2⟩:=List.mem_filterMap.1 hw;split at hk2
 ·cases hk2
 ·cases hk2;have hi:((k:Nat):Int)=i:=hi;have hi:k=i:=oF
  subst hi;have hn:AH (Eu (a.words.getD k 0) (b.words.getD k 0)) j=true:=hn;rw[XZ _ _ hj]at hn;exact of_decide_eq_true hn
end Go.Proofs.YtlaapfplenlfaaaGreat
namespace Go.Proofs.YtlaapfplenlfaaaGreat
open Go Go.G Go.Proofs Go.PL
def um(f:Nat)(p q:E)(o x y:T):Prop:=∀at':Di,((rb f p q).2=true↔(mg f at' o p q).2≠[])/\((rb f p q).2=false->ie f (rb f p q).1.1 y (mg f at' o p q).1/\ie f (rb f p q).1.2 x (mg f at' o p q).1)
theorem zD{l:List T}{i:Nat}(h:l.length<=i):l.getD i T0=T0:=by rw[List.getD_eq_getElem?_getD,List.getElem?_eq_none h];rfl
theorem xY{l:List Int}{i:Nat}(h:l.length<=i):l.getD i 0=0:=by rw[List.getD_eq_getElem?_getD,List.getElem?_eq_none h];rfl
theorem nJ{n:Nat}{ws:List WE}{i:Nat}(h:DK n ws<=i):CS ws i=dW:=by
 rcases Th ws i with h' | ⟨m,e⟩
 ·exact h'.1
 ·have:=LN (n:=n) m;omega
theorem nX{n:Nat}{ks:List KE}{i:Nat}(h:CV n ks<=i):Ek ks i=E0:=by
 rcases L9 ks i with h' | ⟨k,m,e,_⟩
 ·exact h'.1
 ·have:=Vr (n:=n) m;omega
theorem Ti{n N:Nat}:∀{ws:List WE},n<=N->(∀w,w∈ws->w.at_<N)->DK n ws<=N
 |[],h,_=>h
 |w::ws,h,hw=>by
  show DK (max n (w.at_+1).toNat) ws<=N;have:=hw w iS;exact Ti oF fun v hv=>hw v (List.mem_cons_of_mem _ hv)
theorem SB{n N:Nat}:∀{ks:List KE},n<=N->(∀w,w∈ks->w.at_<N)->CV n ks<=N
 |[],h,_=>h
 |w::ks,h,hw=>by
  show CV (max n (w.at_+1).toNat) ks<=N;have:=hw w iS;exact SB oF fun v hv=>hw v (List.mem_cons_of_mem _ hv)
theorem lN{α:Type}{f:Nat->List α}{n:Nat}:(List.range n).flatMap f≠[]↔∃i,i<n/\f i≠[]:=by
 rw[Ne,List.flatMap_eq_nil_iff];constructor
 ·intro h;apply Classical.byContradiction;intro hc;exact h fun i hi=>Classical.byContradiction fun hn=>hc ⟨i,List.mem_range.1 hi,hn⟩
 ·rintro⟨i,hi,hn⟩ h;exact hn (h i (List.mem_range.2 hi))
theorem Abc{α:Type}{a b:List α}:a++b≠[]↔a≠[]\/b≠[]:=by rw[Ne,List.append_eq_nil_iff,Classical.not_and_iff_not_or_not]
theorem AcS{at':Di}{i:Nat}{w:Int}{a b:WE}:Qb at' i w a b≠[]↔FX a b=true:=by
 unfold Qb;split<;>simp_all
section
variable {most:Int} {f:Nat}
theorem wO{e:E}{k u:T}(h:NA most f e k u)(at':Di):mg f at' k E0 e=(u,[]):=by
 rw[aX rfl,HS (Ct h.1),(I7 h).2.1]
theorem uE{e:E}{k u:T}(h:NA most f e k u)(at':Di):mg f at' k e E0=(u,[]):=by
 have b:S9 at' k e E0=(u,[]):=by
  unfold S9;by_cases c:e.kind=0
  ·rw[if_pos c];obtain⟨_,hn⟩:=IZ (Ct h.1) c;rw[fj rfl,hn,(I7 h).2.1]
  ·rw[if_neg c,if_pos (show E0.kind=0 from rfl),HS (Ct h.1),(I7 h).2.1]
 cases f with
 |zero=>exact b
 |succ f=>rw[mg,if_neg iS,if_neg iS];exact b
theorem vp(at':Di)(k:T):mg f at' k E0 E0=(Af k,[]):=by rw[aX rfl,fj rfl]
theorem OE{p:E}{o x:T}(h:NA most (f+1) p o x)(hk:p.kind=2)(i:Nat):NA most f (Ek p.kids i) (o.kids.getD i T0) (x.kids.getD i T0):=
 ⟨iY h.1 hk i,gP Dh (fun k hm=>((wfE_iff.1 h.2).ks k hm).2) i⟩
theorem Ab2{p q:E}{o x y:T}(ih:∀(p q:E)(o x y:T),NA most f p o x->NA most f q o y->um f p q o x y)(hp:NA most (f+1) p o x)(hq:NA most (f+1) q o y)(kp:p.kind=2)(kq:q.kind=2):um (f+1) p q o x y:=by
 intro at';have IH:=fun i:Nat=>ih _ _ _ _ _ (OE hp kp i) (OE hq kq i) (at'++[(0,(i:Int))]);obtain⟨⟨no,wo,so⟩,nx,wx,sx⟩:=I7 hp;obtain⟨_,ny,wy,sy⟩:=I7 hq;obtain⟨o1,x1,ep⟩:=Ig hp.1 kp;obtain⟨_,y1,eq⟩:=Ig hq.1 kq;have kkp:=fun i:Nat=>(OE hp kp i);have kkq:=fun i:Nat=>(OE hq kq i);have KX:=fun i:Nat=>Afj (t:=T0) (kkp i) (kkq i);have Dp:=fun i:Nat=>QQ (kkp i).1;have Dq:=fun i:Nat=>QQ (kkq i).1;have NK:=fun i:Nat=>I7 (kkp i);have NQ:=fun i:Nat=>(I7 (kkq i)).2;have dp:∀w,w∈p.words->∀i:Nat,w.at_=i->∀j,j<8->AH w.mask j=true->AP (o.words.getD i 0) j≠AP (x.words.getD i 0) j:=by rw[ep];exact gf
 have dq:∀w,w∈q.words->∀i:Nat,w.at_=i->∀j,j<8->AH w.mask j=true->AP (o.words.getD i 0) j≠AP (y.words.getD i 0) j:=by rw[eq];exact gf
 have WP:=wfE_iff.1 hp.2;have WQ:=wfE_iff.1 hq.2;have okx:o.words.length<=1000/\o.kids.length<=1000/\x.words.length<=1000/\x.kids.length<=1000/\y.words.length<=1000/\y.kids.length<=1000:=by
  obtain⟨a,⟨g,b⟩,_⟩:=hp.1;obtain⟨_,⟨g',c⟩,_⟩:=hq.1;have:=Au a;have:=Au b;have:=Au c;omega
 have Lp:=Ct hp.1;have Lq:=Ct hq.1;obtain⟨ws,ks,rfl,_,_,hw,hk⟩:∃ws ks,p=.mk 2 T0 T0 ws ks 0 []/\o.kind=1/\x.kind=1/\Jn o.words x.words 0 ws/\MA (Ld f) o.kids x.kids 0 ks:=by
  rcases Lp with h|h|⟨os,rfl,_⟩
  ·rcases h with ⟨rfl,_⟩|⟨_,_,rfl,_⟩<;>exact absurd kp iS
  ·exact h
  ·exact absurd kp iS
 obtain⟨ws',ks',rfl,_,_,gw,gk⟩:∃ws ks,q=.mk 2 T0 T0 ws ks 0 []/\o.kind=1/\y.kind=1/\Jn o.words y.words 0 ws/\MA (Ld f) o.kids y.kids 0 ks:=by
  rcases Lq with h|h|⟨os,rfl,_⟩
  ·rcases h with ⟨rfl,_⟩|⟨_,_,rfl,_⟩<;>exact absurd kq iS
  ·exact h
  ·exact absurd kq iS
 have uo:=(wfT_iff.1 wo).w;have ux:=(wfT_iff.1 wx).w;have uy:=(wfT_iff.1 wy).w;simp only[E.kids_mk,E.words_mk]at IH kkp kkq KX Dp Dq NK NQ dp dq;have mp:∀w,w∈ws->Lk w.mask:=fun w h=>⟨(WP.w w h).2.1.1,(WP.w w h).2.1.2⟩;have mq:∀w,w∈ws'->Lk w.mask:=fun w h=>⟨(WQ.w w h).2.1.1,(WQ.w w h).2.1.2⟩;rw[rb,if_pos ⟨rfl,rfl⟩,mg,if_pos ⟨rfl,rfl⟩];unfold x9 nR;simp only[E.words_mk,E.kids_mk]
 -- how many
 generalize hW:DK (DK o.words.length ws) ws'=nw;generalize hK:CV (CV o.kids.length ks) ks'=nk;have lw:nw<=1000:=by
  rw[<-hW];refine Ti (Ti oF fun w hm=>?_) fun w hm=>?_
  ·obtain⟨i,e,_,h,_⟩:=FQ hw w hm;omega
  ·obtain⟨i,e,_,h,_⟩:=FQ gw w hm;omega
 have lk':nk<=1000:=by
  rw[<-hK];refine SB (SB oF fun w hm=>?_) fun w hm=>?_
  ·obtain⟨i,e,_,h,_⟩:=Fz hk w hm;omega
  ·obtain⟨i,e,_,h,_⟩:=Fz gk w hm;omega
 have wfar:∀i,nw<=i->o.words.getD i 0=0/\CS ws i=dW/\CS ws' i=dW:=fun i hi=>by
  rw[<-hW]at hi;have h2:DK o.words.length ws<=i:=by rw[EK ws']at hi;omega
  have h3:o.words.length<=i:=by rw[EK ws]at h2;omega
  exact⟨xY h3,nJ h2,nJ hi⟩
 have kfar:∀i,nk<=i->o.kids.getD i T0=T0/\Ek ks i=E0/\Ek ks' i=E0:=fun i hi=>by
  rw[<-hK]at hi;have h2:CV o.kids.length ks<=i:=by rw[HJ ks']at hi;omega
  have h3:o.kids.length<=i:=by rw[HJ ks]at h2;omega
  exact⟨zD h3,nX h2,nX hi⟩
 have cw:=yK hw gw;have ck:=yg hk gk (cl:=fun a b=>(rb f a b).2) (fun e=>by rw[ic]) (fun e=>by rw[mM]);refine⟨?_,fun hc=>?_⟩
 ·rw[Bool.or_eq_true,cw,ck,Abc,lN,lN];simp only[AcS];refine or_congr ⟨?_,fun ⟨i,_,h⟩=>⟨i,h⟩⟩ ⟨?_,fun ⟨i,_,h⟩=>⟨i,(IH i).1.2 h⟩⟩
  ·rintro⟨i,h⟩;refine⟨i,?_,h⟩;apply Classical.byContradiction;intro hi;obtain⟨_,e1,e2⟩:=wfar i oF;rw[e1,e2]at h;simp[FX]at h
  ·rintro⟨i,h⟩;refine⟨i,?_,(IH i).1.1 h⟩;apply Classical.byContradiction;intro hi;obtain⟨_,e1,_⟩:=kfar i oF;rw[e1,ic]at h;cases h
 ·simp only[Bool.or_eq_false_iff]at hc;have nc:∀i,FX (CS ws i) (CS ws' i)=false:=fun i=>by
   rw[<-Bool.not_eq_true];intro h;have:=cw.2 ⟨i,h⟩;rw[hc.1]at this;cases this
  have nk':∀i,(rb f (Ek ks i) (Ek ks' i)).2=false:=fun i=>by
   rw[<-Bool.not_eq_true];intro h;have:=ck.2 ⟨i,h⟩;rw[hc.2]at this;cases this
  have L:=fun i=>(IH i).2 (nk' i);generalize ht:(.mk 1 ((List.range nw).map fun i:Nat=>JE (o.words.getD i 0) (CS ws i) (CS ws' i)) ((List.range nk).map fun i:Nat=>(mg f (at'++[(0,(i:Int))]) (o.kids.getD i T0) (Ek ks i) (Ek ks' i)).1):T)=t;have tw:∀i,(Af t).words.getD i 0=JE (o.words.getD i 0) (CS ws i) (CS ws' i):=fun i=>by
   rw[<-ht,WK];refine Oi _ _ _ i fun hi=>?_;obtain⟨e0,e1,e2⟩:=wfar i hi;rw[e0,e1,e2];unfold JE;rw[if_neg (by simp[FX])];show A5 (A5 0 0 0) 0 0=0;rw[GL ⟨dO,dO⟩,GL ⟨dO,dO⟩]
  have tk:∀i,(Af t).kids.getD i T0=(mg f (at'++[(0,(i:Int))]) (o.kids.getD i T0) (Ek ks i) (Ek ks' i)).1:=fun i=>by
   rw[<-ht,Za,Oi _ T0 _ i fun hi=>?_]
   ·exact(L i).1.2
   ·obtain⟨e0,e1,e2⟩:=kfar i hi;rw[e0,e1,e2,vp];rfl
  have t1:(Af t).kind=1:=by rw[EC,<-ht];rfl
  have tl:(Af t).words.length<=1000/\(Af t).kids.length<=1000:=by
   have:=MG t (by rw[<-ht];rfl) 0;have e1:t.words.length=nw:=by rw[<-ht];simp
   have e2:t.kids.length=nk:=by rw[<-ht];simp
   omega
  have tkm:∀z,z∈(Af t).kids->AE z/\Sq f z:=fun z hz=>by
   obtain⟨i,hi,rfl⟩:=List.getElem_of_mem hz;have:=tk i;rw[List.getD_eq_getElem?_getD,List.getElem?_eq_getElem hi,Option.getD_some]at this;rw[this];obtain⟨⟨_,_,_,h,_,g⟩,_⟩:=(L i).1;exact⟨h,g⟩
  have mx:∀i,JE (o.words.getD i 0) (CS ws i) (CS ws' i)=A5 (A5 (o.words.getD i 0) (CS ws i).new (CS ws i).mask) (CS ws' i).new (CS ws' i).mask:=fun i=>by
   unfold JE;rw[if_neg (by rw[nc];decide)]
  have ex:∀i,A5 (o.words.getD i 0) (CS ws i).new (CS ws i).mask=x.words.getD i 0:=fun i=>ax uo hw i (Nat.zero_le _);have ey:∀i,A5 (o.words.getD i 0) (CS ws' i).new (CS ws' i).mask=y.words.getD i 0:=fun i=>ax uo gw i (Nat.zero_le _);have htx:∀i:Nat,(Af t).words.getD i 0=A5 (x.words.getD i 0) (CS ws' i).new (CS ws' i).mask:=fun i=>by rw[tw,mx,ex]
  have hty:∀i:Nat,(Af t).words.getD i 0=A5 (y.words.getD i 0) (CS ws i).new (CS ws i).mask:=fun i=>by
   rw[tw,<-qu (Ss mp i) (Ss mq i)];unfold JE;rw[OJ (Ss mp i) (Ss mq i),if_neg (by rw[nc];decide),ey]
  have ut:∀z,z∈(Af t).words->Bs z:=fun z hz=>by
   obtain⟨i,hi,rfl⟩:=List.getElem_of_mem hz;have:=htx i;rw[List.getD_eq_getElem?_getD,List.getElem?_eq_getElem hi,Option.getD_some]at this;rw[this];exact BL _ _ _
  have wt:AE (Af t):=wfT_iff.2 ⟨by rw[t1];simp[BD],ut,oF,oF,fun z hz=>(tkm z hz).1⟩;have st:Sq (f+1) (Af t):=⟨oF,oF,fun z hz=>(tkm z hz).2⟩;have LX:Ld (f+1) (He (I3 (ws.map (TP ws'))) (IW (ks.map (XJ (fun a b=>(rb f a b).1.1) ks')))) y (Af t):=by
   refine oK y1 t1 (tB mq uo uy ut (fun i=>(ey i).symm) htx hw dp) (wU (fun e=>by rw[mM]) hk (fun i e hm=>?_) fun i _ hno=>?_)
   ·have e1:=KL hk i e hm;rw[tk];have:=(L i).1.1.1;rw[e1]at this ⊢;refine⟨this,fun hne=>?_⟩;rw[<-e1]at hne;rcases (KX i).1 hne with h|h
    ·exact .inl (Q3 h)
    ·have qe:=(IZ (Ct (kkq i).1) h);rw[qe.1,mM]at hne;have hd:Af (o.kids.getD i T0)≠Af (x.kids.getD i T0):=fun hh=>hne ((Dp i).2 hh);have et:(mg f (at'++[(0,(i:Int))]) (o.kids.getD i T0) e (Ek ks' i)).1=x.kids.getD i T0:=by rw[<-e1,qe.1,uE (kkp i)]
     rw[et,<-qe.2];apply Classical.byContradiction;intro hno;simp only[not_or,ne_eq,Classical.not_not]at hno;exact hd (hno.1.trans hno.2.symm)
   ·have e1:Ek ks i=E0:=by
     rcases L9 ks i with h|⟨k,m,e,_⟩
     ·exact h.1
     ·obtain⟨ka,ke⟩:=k;have e:ka=(i:Int):=e;subst e;exact absurd m (hno ke)
    rw[tk,e1,wO (kkq i)]
  have LY:Ld (f+1) (He (I3 (ws'.map (TP ws))) (IW (ks'.map (XJ (fun b a=>(rb f a b).1.2) ks)))) x (Af t):=by
   refine oK x1 t1 (tB mp uo ux ut (fun i=>(ex i).symm) hty gw dq) (wU (fun e=>by rw[ic]) gk (fun i e hm=>?_) fun i _ hno=>?_)
   ·have e1:=KL gk i e hm;rw[tk];have:=(L i).2.1.1;rw[e1]at this ⊢;refine⟨this,fun hne=>?_⟩;rw[<-e1]at hne;rcases (KX i).2 hne with h|h
    ·exact .inl (Q3 h)
    ·have qe:=(IZ (Ct (kkp i).1) h);rw[qe.1,ic]at hne;have hd:Af (o.kids.getD i T0)≠Af (y.kids.getD i T0):=fun hh=>hne ((Dq i).2 hh);have et:(mg f (at'++[(0,(i:Int))]) (o.kids.getD i T0) (Ek ks i) e).1=y.kids.getD i T0:=by rw[<-e1,qe.1,wO (kkq i)]
     rw[et,<-qe.2];apply Classical.byContradiction;intro hno;simp only[not_or,ne_eq,Classical.not_not]at hno;exact hd (hno.1.trans hno.2.symm)
   ·have e1:Ek ks' i=E0:=by
     rcases L9 ks' i with h|⟨k,m,e,_⟩
     ·exact h.1
     ·obtain⟨ka,ke⟩:=k;have e:ka=(i:Int):=e;subst e;exact absurd m (hno ke)
    rw[tk,e1,uE (kkp i)]
  have wfS:∀(P:List WE)(K:List KE),(∀w,w∈P->WE.wf w)->(∀k,k∈K->BD k.at_/\Nh k.e)->P.length<=100000->K.length<=100000->Nh (He P K):=fun P K h1 h2 h3 h4=>by
   unfold He;split
   ·exact Dh
   ·exact wfE_iff.2 ⟨by simp[BD],by simp[BD],D8,D8,h1,by show P.length*32<=_;omega,by show K.length*208<=_;omega,iS,h2,iS⟩
  have wl1:=KO hw;have wl2:=KO gw;have kl:∀{R:E->T->T->Prop} {a b:List T} {p:Nat} {ks:List KE},MA R a b p ks->ks.length+p<=max p (max a.length b.length):=fun h=>by
   induction h with
   |nil p h=>simp;omega
   |cons p i e ks hp h hi he hr g ih=>rw[List.length_cons];omega
  have kl1:=kl hk;have kl2:=kl gk;have WX:Nh (He (I3 (ws.map (TP ws'))) (IW (ks.map (XJ (fun a b=>(rb f a b).1.1) ks')))):=by
   refine wfS _ _ (fun w hm=>?_) (fun k hm=>?_) (by have:=bV (ws.map (TP ws'));simp at this;omega) (by have:=bA (ks.map (XJ (fun a b=>(rb f a b).1.1) ks'));simp at this;omega)
   ·obtain⟨w',hm',rfl⟩:=List.mem_map.1 (List.mem_filter.1 hm).1;exact wW (fun w h=>WQ.w w h) (WP.w w' hm')
   ·obtain⟨⟨ka,ke⟩,hm',rfl⟩:=List.mem_map.1 (List.mem_filter.1 hm).1;obtain⟨i,hi,_⟩:=Fz hk _ hm';have hi:ka=i:=hi;subst hi;have e1:=KL hk i ke hm';rw[kW (fun e=>by rw[mM])];refine⟨(WP.ks _ hm').1,?_⟩;have:=(L i).1.1.2.1;rw[e1]at this;exact this
  have WY:Nh (He (I3 (ws'.map (TP ws))) (IW (ks'.map (XJ (fun b a=>(rb f a b).1.2) ks)))):=by
   refine wfS _ _ (fun w hm=>?_) (fun k hm=>?_) (by have:=bV (ws'.map (TP ws));simp at this;omega) (by have:=bA (ks'.map (XJ (fun b a=>(rb f a b).1.2) ks));simp at this;omega)
   ·obtain⟨w',hm',rfl⟩:=List.mem_map.1 (List.mem_filter.1 hm).1;exact wW (fun w h=>WP.w w h) (WQ.w w' hm')
   ·obtain⟨⟨ka,ke⟩,hm',rfl⟩:=List.mem_map.1 (List.mem_filter.1 hm).1;obtain⟨i,hi,_⟩:=Fz gk _ hm';have hi:ka=i:=hi;subst hi;have e1:=KL gk i ke hm';rw[kW (fun e=>by rw[ic])];refine⟨(WQ.ks _ hm').1,?_⟩;have:=(L i).2.1.2.1;rw[e1]at this;exact this
  exact⟨⟨⟨LX,WX,wy,wt,sy,st⟩,B8 t⟩,⟨⟨LY,WY,wx,wt,sx,st⟩,B8 t⟩⟩
end
theorem aD{S:E->T->T->Prop}{os:List OP}{a b:List T}(h:LdO S os a b):(∀o,o∈os->o.kind=0)->a.map Af=b.map Af:=by
 induction h with
 |nil=>intro _;rfl
 |keep l m hne hl g ih=>intro h;rw[List.map_append,List.map_append,hl,ih fun o ho=>h o (List.mem_cons_of_mem _ ho)]
 |del l m hne hl g ih=>intro h;exact absurd (h _ List.mem_cons_self) (by show ¬(1:Int)=0;decide)
 |ins l m hne hl g ih=>intro h;exact absurd (h _ List.mem_cons_self) (by show ¬(2:Int)=0;decide)
 |desc e x y r g ih=>intro h;exact absurd (h _ List.mem_cons_self) (by show ¬(3:Int)=0;decide)
theorem Abk{S:E->T->T->Prop}(hS:∀e x y,S e x y->Nh e){os:List OP}{a b:List T}(h:LdO S os a b):a.length<=1000000->b.length<=1000000->(∀o,o∈os->∀t,t∈o.l->AE t)->∀o,o∈os->xi o:=by
 induction h with
 |nil=>intro _ _ _ o ho;simp at ho
 |keep l m hne hl g ih=>
  intro ha hb hw o ho;rw[List.length_append]at ha hb;rcases List.mem_cons.1 ho with rfl|ho
  ·exact⟨by simp[BD],by simp[BD];omega,iS,iS,Dh⟩
  ·exact ih oF oF (fun o h=>hw o (List.mem_cons_of_mem _ h)) o ho
 |del l m hne hl g ih=>
  intro ha hb hw o ho;rw[List.length_append]at ha;have:=Ff hl;rcases List.mem_cons.1 ho with rfl|ho
  ·exact⟨by simp[BD],by simp[BD],hw _ iS,by simp;omega,Dh⟩
  ·exact ih oF hb (fun o h=>hw o (List.mem_cons_of_mem _ h)) o ho
 |ins l m hne hl g ih=>
  intro ha hb hw o ho;rw[List.length_append]at hb;have:=Ff hl;rcases List.mem_cons.1 ho with rfl|ho
  ·exact⟨by simp[BD],by simp[BD],hw _ iS,by simp;omega,Dh⟩
  ·exact ih ha oF (fun o h=>hw o (List.mem_cons_of_mem _ h)) o ho
 |desc e x y r g ih=>
  intro ha hb hw o ho;rw[List.length_cons]at ha hb;rcases List.mem_cons.1 ho with rfl|ho
  ·exact⟨by simp[BD],by simp[BD],iS,iS,hS _ _ _ r⟩
  ·exact ih oF oF (fun o h=>hw o (List.mem_cons_of_mem _ h)) o ho
theorem Adi(g:E->E->(E × E) × Bool):∀(l:List Pc)(m h:List T),(∀c,c∈l->(∀t,t∈(T5 c).1.l->AE t)/\(∀t,t∈(T5 c).2.l->AE t))->(∀t,t∈m->AE t)->(∀t,t∈h->AE t)->(∀o,o∈(Gd g l m h).1.1->∀t,t∈o.l->AE t)/\(∀o,o∈(Gd g l m h).1.2->∀t,t∈o.l->AE t):=by
 have kp:∀(n:Nat)(o:OP),o∈RR n->∀t,t∈o.l->AE t:=fun n o ho t ht=>by
  unfold RR at ho;split at ho
  ·simp at ho
  ·rw[List.mem_singleton.1 ho]at ht;simp at ht
 have il:∀(m:List T),(∀t,t∈m->AE t)->∀o,o∈Yj m->∀t,t∈o.l->AE t:=fun m hm o ho t ht=>by
  unfold Yj at ho;split at ho
  ·simp at ho
  ·rw[List.mem_singleton.1 ho]at ht;exact hm t ht
 have gp:∀(m h:List T),(∀t,t∈m->AE t)->(∀t,t∈h->AE t)->(∀o,o∈(Dd m h).1.1->∀t,t∈o.l->AE t)/\(∀o,o∈(Dd m h).1.2->∀t,t∈o.l->AE t):=fun m h hm hh=>by
  unfold Dd;split
  ·exact⟨kp _,kp _⟩
  ·refine⟨fun o ho=>?_,fun o ho=>?_⟩
   ·rcases List.mem_append.1 ho with ho|ho
    ·exact il m hm o ho
    ·exact kp _ o ho
   ·rcases List.mem_append.1 ho with ho|ho
    ·exact kp _ o ho
    ·exact il h hh o ho
 have st:∀e:E,∀t,t∈(Q0 e).l->AE t:=fun e t ht=>by
  unfold Q0 at ht;split at ht<;>simp at ht
 intro l;induction l with
 |nil=>intro m h _ hm hh;exact gp m h hm hh
 |cons c l ih=>
  intro m h hc hm hh;have hl:=fun c h=>hc c (List.mem_cons_of_mem _ h);have hc0:=hc c iS;cases c with
  |a o=>exact ih (m++o.l) h hl (fun t ht=>by
    rcases List.mem_append.1 ht with ht|ht
    ·exact hm t ht
    ·exact hc0.1 t ht) hh
  |b o=>exact ih m (h++o.l) hl hm (fun t ht=>by
    rcases List.mem_append.1 ht with ht|ht
    ·exact hh t ht
    ·exact hc0.2 t ht)
  |both o o'=>
   obtain⟨g1,g2⟩:=gp m h hm hh;obtain⟨r1,r2⟩:=ih [] [] hl iS iS;have h1:∀t,t∈o.l->AE t:=hc0.1;have h2:∀t,t∈o'.l->AE t:=hc0.2;have pp:(∀u,u∈(DL g o o').1.1->∀t,t∈u.l->AE t)/\(∀u,u∈(DL g o o').1.2->∀t,t∈u.l->AE t):=by
    unfold DL;refine⟨fun u hu t ht=>?_,fun u hu t ht=>?_⟩;all_goals repeat' split at hu
    all_goals first|(simp at hu;done)|(rw[List.mem_singleton.1 hu]at ht;first|exact h1 t ht|exact h2 t ht|exact st _ t ht|(simp at ht;done))
   rw[Gd];refine⟨fun u hu=>?_,fun u hu=>?_⟩
   ·simp only[List.mem_append]at hu;rcases hu with hu|hu|hu
    ·exact g1 u hu
    ·exact pp.1 u hu
    ·exact r1 u hu
   ·simp only[List.mem_append]at hu;rcases hu with hu|hu|hu
    ·exact g2 u hu
    ·exact pp.2 u hu
    ·exact r2 u hu
section
variable {most:Int} {f:Nat}
theorem Acr{p q:E}{o x y:T}(ih:∀(p q:E)(o x y:T),NA most f p o x->NA most f q o y->um f p q o x y)(hp:NA most (f+1) p o x)(hq:NA most (f+1) q o y)(kp:p.kind=3)(kq:q.kind=3):um (f+1) p q o x y:=by
 intro at';obtain⟨⟨no,wo,so⟩,nx,wx,sx⟩:=I7 hp;obtain⟨_,ny,wy,sy⟩:=I7 hq;obtain⟨ox,o2,o9,lp⟩:=KH hp.1 kp;obtain⟨oy,_,_,lq⟩:=KH hq.1 kq;have WP:=wfE_iff.1 hp.2;have WQ:=wfE_iff.1 hq.2;have oko:=hp.1.1;obtain⟨_,⟨gx,okx⟩,_⟩:=hp.1;obtain⟨_,⟨gy,oky⟩,_⟩:=hq.1;have fo:=Au oko;have fx:=Au okx;have fy:=Au oky;have Lp:=Ct hp.1;have Lq:=Ct hq.1;obtain⟨os,rfl,_,_,hv,_⟩:∃os,p=.mk 3 T0 T0 [] [] o.kind os/\x.kind=o.kind/\(2<=o.kind/\o.kind<=9)/\(o.words=[]/\x.words=[])/\LdO (Ld f) os o.kids x.kids:=by
  rcases Lp with h|⟨_,_,rfl,_⟩|h
  ·rcases h with ⟨rfl,_⟩|⟨_,_,rfl,_⟩<;>exact absurd kp iS
  ·exact absurd kp iS
  ·exact h
 obtain⟨os',rfl,_,_,hv',_⟩:∃os,q=.mk 3 T0 T0 [] [] o.kind os/\y.kind=o.kind/\(2<=o.kind/\o.kind<=9)/\(o.words=[]/\y.words=[])/\LdO (Ld f) os o.kids y.kids:=by
  rcases Lq with h|⟨_,_,rfl,_⟩|h
  ·rcases h with ⟨rfl,_⟩|⟨_,_,rfl,_⟩<;>exact absurd kq iS
  ·exact absurd kq iS
  ·exact h
 simp only[E.ops_mk]at lp lq;have L1:LdO (NA most f) os o.kids x.kids:=LZ lp fun oo e t ho _ _ _ r=>⟨r.1,(WP.os oo ho).e⟩;have L2:LdO (NA most f) os' o.kids y.kids:=LZ lq fun oo e t ho _ _ _ r=>⟨r.1,(WQ.os oo ho).e⟩;obtain⟨f1,_,f3⟩:=Hi L1;obtain⟨e1,_,e3⟩:=Hi L2;obtain⟨l,t1,t2,t3,t4⟩:=ji (os.length+os'.length+2*o.kids.length) os os' o.kids x.kids y.kids L1 L2 (f3 oF oF) (e3 oF oF) (CX _);have SQ:=mc t1 _ _ _ L1 L2 (f3 oF oF) (e3 oF oF);have hW:=vO t1 (fun o ho=>⟨(WP.os o ho).l,(WP.os o ho).e⟩) (fun o ho=>⟨(WQ.os o ho).l,(WQ.os o ho).e⟩);have kn:∀{t:T} {g:Nat},SU g t->∀k,k∈t.kids->Af k=k/\AE k/\Sq f k:=fun ok k hk=>by
  have a:=BI ok k hk;exact⟨(Au a).2.1,(Au a).1,ni f _ k a⟩
 have hG:∀(n:Nat) e e' k u v,NA most f e k u->NA most f e' k v->((rb f e e').2=true↔(mg f (at'++[(0,(n:Int))]) k e e').2≠[])/\((rb f e e').2=false->ie f (rb f e e').1.1 v (mg f (at'++[(0,(n:Int))]) k e e').1/\ie f (rb f e e').1.2 u (mg f (at'++[(0,(n:Int))]) k e e').1):=fun n e e' k u v h1 h2=>ih e e' k u v h1 h2 _;have hA:∀at' e k u,NA most f e k u->mg f at' k E0 e=(Af u,[])/\mg f at' k e E0=(Af u,[]):=fun at' e k u h=>by
  rw[(I7 h).2.1];exact⟨wO h at',uE h at'⟩
 have main:=zo (R:=NA most f) (S:=ie f) (M:=mg f) (g:=rb f) (at':=at') (kind:=o.kind) (fun a k=>vp a k) hA (fun e k u h=>by rw[(I7 h).2.1];exact bG h) (fun e a b h hk=>(IZ h.1.1 hk).2) hG SQ (fun t ht=>(kn oko t ht).1) (fun t ht=>(kn okx t ht).1) (fun t ht=>(kn oky t ht).1) [] [] [] [] 0 rfl rfl;have mainZ:=Ae3 (Z:=fun t=>Af t=t/\AE t/\Sq f t) (R:=NA most f) (S:=ie f) (M:=mg f) (g:=rb f) (at':=at') (kind:=o.kind) (fun a k=>vp a k) hA (fun e a b h=>⟨h.2,h.1.2.2.2.1,h.1.2.2.2.2.2⟩) (fun n e e' k u v h1 h2 hc=>((hG n e e' k u v h1 h2).2 hc).1) SQ (fun t ht=>⟨(kn oko t ht).1,kn oko t ht⟩) (fun t ht=>⟨(kn okx t ht).1,kn okx t ht⟩) (fun t ht=>⟨(kn oky t ht).1,kn oky t ht⟩) [] [] [] [] 0 rfl rfl iS iS;have rl:=Adi (rb f) l [] [] (fun c hc=>⟨(hW c hc).1.1,(hW c hc).2.1⟩) iS iS;have t4':=t4 (mg f) at' o.kind [] [] 0;simp only[List.map_nil,List.nil_append]at t4';rw[t4']at main mainZ;rw[rb,if_neg iS,if_pos ⟨rfl,rfl⟩,mg,if_neg iS,if_pos ⟨rfl,rfl⟩];unfold rbL;simp only[E.ops_mk,E.list_mk,nr t1];generalize hR:Gd (rb f) l [] []=r at main mainZ rl ⊢;generalize hM:N7 (mg f) at' o.kind o.kids (Mc os) (Mc os') 0=M at main mainZ ⊢;obtain⟨m1,m2,m3⟩:=main;simp only[List.length_nil,List.nil_append]at m2 m3;refine⟨m1,fun hc=>?_⟩;have Z:=mainZ hc;obtain⟨n1,n2⟩:=m2 hc;have k0:o.kind≠0:=oF
 have k1:o.kind≠1:=oF
 have et:Af (.mk o.kind [] M.1)=.mk o.kind [] M.1:=by
  rw[Cw,if_neg k0,if_neg k1,Ha fun t ht=>(Z t ht).1]
 rw[et];have O:=wfT_iff.1 wo;have wt:AE (.mk o.kind [] M.1):=wfT_iff.2 ⟨O.k,iS,iS,by show M.1.length*56<=_;omega,fun t ht=>(Z t ht).2.1⟩;have st:Sq (f+1) (.mk o.kind [] M.1):=⟨iS,by show M.1.length<=_;omega,fun t ht=>(Z t ht).2.2⟩;have one:∀(u:T)(ops:List OP),u.kind=o.kind->u.words=[]->AE u->Sq (f+1) u->u.kids.length<=1000->LdO (ie f) ops u.kids M.1->(∀o,o∈ops->∀t,t∈o.l->AE t)->ie (f+1) (KM o.kind ops) u (.mk o.kind [] M.1):=fun u ops hk hw wu su hl L hwf=>by
  refine⟨⟨?_,?_,wu,wt,su,st⟩,et⟩
  ·unfold KM;split
   ·rename_i ha;simp only[List.all_eq_true,decide_eq_true_eq]at ha;have:=aD L ha;refine .inl (.inl ⟨rfl,?_⟩);obtain⟨ku,wu',lu⟩:=u;have hk:ku=o.kind:=hk;have hw:wu'=[]:=hw;subst hk;subst hw;exact(LI oF oF).2 ⟨rfl,this⟩
   ·refine .inr (.inr ⟨ops,by rw[hk],by show o.kind=u.kind;rw[hk],oF,⟨hw,rfl⟩,VD L fun e a b _ _ h=>h.1.1⟩)
  ·unfold KM;split
   ·exact Dh
   ·have ff:=Hi L;exact wfE_iff.2 ⟨by simp[BD],O.k,D8,D8,iS,iS,iS,by show ops.length*240<=_;omega,iS,Abk (fun e a b h=>h.1.2.1) L oF oF hwf⟩
 exact⟨one y _ oy.symm hv'.2 wy sy oF n1 rl.1,one x _ ox.symm hv.2 wx sx oF n2 rl.2⟩
theorem Aaj:∀(f:Nat)(p q:E)(o x y:T),NA most f p o x->NA most f q o y->um f p q o x y:=by
 intro f;induction f with
 |zero=>
  intro p q o x y hp hq at';have k1:p.kind=0\/p.kind=1:=by
   rcases Ct hp.1 with ⟨rfl,_⟩|⟨_,_,rfl,_⟩
   ·exact .inl rfl
   ·exact .inr rfl
  exact wK hp hq (fun h=>oF) (fun h=>oF) at'
 |succ f ih=>
  intro p q o x y hp hq;by_cases k2:p.kind=2/\q.kind=2
  ·exact Ab2 ih hp hq k2.1 k2.2
  ·by_cases k3:p.kind=3/\q.kind=3
   ·exact Acr ih hp hq k3.1 k3.2
   ·intro at';rw[rb,if_neg k2,if_neg k3,mg,if_neg k2,if_neg k3];exact wK hp hq k2 k3 at'
end
end Go.Proofs.YtlaapfplenlfaaaGreat
