/-
 Texts,merged,without what is not reached.
-/
import Derived.Test.YtgkdikddjfgajaaGreatDoorKMd
set_option linter.unusedSimpArgs false
set_option linter.unusedVariables false
open Go.IntKind (i64 u64)
namespace Go.Proofs.YtgkdikddjfgajaaGreatDoor
open Go Go.G Go.Proofs Go.PL
inductive WI where
 |keep (n:Int)
 |del (k v:Nat) (l:List T)
 |ins (k v:Nat) (l:List T)
 |desc (e:E)
def WI.op:WI→OP
 |.keep n=>.mk 0 n [] E0
 |.del _ _ l=>.mk 1 0 l E0
 |.ins _ _ l=>.mk 2 0 l E0
 |.desc e=>.mk 3 0 [] e
def MW:List A:=[iv 0,iv 0,.sl true [],.sl true [],iv 0,.sl true [],.sl true [],.sl true [],.sl true [],iv 0,.sl true []]
def Rc (r:Nat):WI→List A
 |.keep n=>iv 0::iv n :: .sl true []::MW
 |.del k v l=>iv 1::iv 0 :: .osl (r::[k]) v 3 0 l.length::MW
 |.ins k v l=>iv 2::iv 0 :: .osl (r::[k]) v 3 0 l.length::MW
 |.desc e=>iv 3::iv 0 :: .sl true []::eL e
def Oa (r:Nat) (x:WI):A:=.agg (Rc r x)
@[simp] theorem rR {r:Nat} {x:WI}:(Oa r x).cells=Rc r x:=rfl
@[simp] theorem Abf {r:Nat} {x:WI}:(Rc r x).length=14:=by cases x<;>rfl
theorem k8 {g:Nm→Nm} {δ:Nm→Nat} {r r':Nat} (hg:∀ p,g (r::p)=r'::p) (hd:∀ p,δ (r::p)=0) (x:WI):A.renL g δ (Rc r x)=Rc r' x:=by
 cases x<;>simp[Rc,MW,A.renL,A.ren,hg,hd]
theorem gu {D:Nm→Prop} {r:Nat} (hD:∀ p,D (r::p)) (x:WI):A.refsL D (Rc r x):=by
 cases x<;>simp[Rc,MW,A.refsL,A.refs,hD]
def KC (r:Nat):Option (Nat × Nat × List T)→A
 |some (k,v,l)=>.osl (r::[k]) v 3 0 l.length
 |none=>.sl true []
abbrev Pk:=Nat→Option (Nat × List T)
def YM:Option (Nat × List T)→VOb
 |some (v,l)=>⟨v,.arr 3 (l.map tA)⟩
 |none=>⟨0,.none⟩
theorem kW {g:Nm→Nm} {δ:Nm→Nat} {r r':Nat} (hg:∀ p,g (r::p)=r'::p) (hd:∀ p,δ (r::p)=0) (o:Option (Nat × Nat × List T)):(KC r o).ren g δ=KC r' o:=by
 rcases o with _ | ⟨k,v,l⟩
 ·simp[KC,A.ren]
 ·simp[KC,A.ren,hg,hd]
def OI (R:Pk):Nm→VOb
 |[k]=>YM (R k)
 |_=>⟨0,.none⟩
@[simp] theorem tq {R:Pk} {k:Nat}:OI R [k]=YM (R k):=rfl
theorem lh {g:Nm→Nm} {δ:Nm→Nat} (o:Option (Nat × List T)):VOb.ren g δ 0 (YM o)=YM o:=by
 rcases o with _ | ⟨v,l⟩
 ·rfl
 ·refine Fam.arr_ren ?_;simp only[B1,List.map_map];refine List.map_congr_left fun x _=>?_;simp[A.ren,A.renL]
theorem ZF {g:Nm→Nm} {δ:Nm→Nat} (R:Pk):∀ p,VOb.ren g δ 0 (OI R p)=OI R p
 |[]=>rfl
 |[k]=>lh _
 |_::_::_=>rfl
theorem dR {D:Nm→Prop} (o:Option (Nat × List T)):(YM o).ob.refs D:=by
 rcases o with _ | ⟨v,l⟩
 ·trivial
 ·simp only[YM,Ob.refs,refsL_iff];intro y hy;obtain⟨x,_,rfl⟩:=List.mem_map.1 hy;simp[A.refs,A.refsL]
theorem Yq {D:Nm→Prop} (R:Pk):∀ p,(OI R p).ob.refs D
 |[]=>trivial
 |[k]=>dR _
 |_::_::_=>trivial
def PY (its:List WI) (vo:Nat) (g b:Option (Nat × Nat × List T)) (R:Pk):Fam:=⟨fun r p=>if p=[] then ⟨1,.cells [.osl (r::[0]) vo 14 0 its.length,KC r g,KC r b]⟩ else if p=[0] then ⟨vo,.arr 14 (its.map (Oa r))⟩ else OI R p,fun {γ δ r r'} hg hd p=>by
  by_cases h1:p=[]
  ·rw[if_pos h1,if_pos h1];refine Fam.cells_ren ?_;simp[A.renL,A.ren,hg,hd,kW hg hd]
  ·rw[if_neg h1,if_neg h1];by_cases h2:p=[0]
   ·rw[if_pos h2,if_pos h2];refine Fam.arr_ren ?_;simp only[B1,List.map_map];refine List.map_congr_left fun x _=>?_;simp[Oa,A.ren,k8 hg hd]
   ·rw[if_neg h2,if_neg h2];exact ZF R p,fun {D r} hD p=>by
  by_cases h1:p=[]
  ·rw[if_pos h1];rcases g with _ | ⟨k,v,l⟩<;>rcases b with _ | ⟨k',v',l'⟩<;>simp[Ob.refs,A.refsL,A.refs,hD,KC]
  ·rw[if_neg h1];by_cases h2:p=[0]
   ·rw[if_pos h2];simp only[Ob.refs,refsL_iff];intro y hy;obtain⟨x,_,rfl⟩:=List.mem_map.1 hy;simp only[A.refs,Oa];exact gu hD x
   ·rw[if_neg h2];exact Yq R p⟩
@[simp] theorem Zj {its:List WI} {vo:Nat} {g b:Option (Nat × Nat × List T)} {R:Pk} {r:Nat} {p:Nm}:(PY its vo g b R).F r p=if p=[] then ⟨1,.cells [.osl (r::[0]) vo 14 0 its.length,KC r g,KC r b]⟩ else if p=[0] then ⟨vo,.arr 14 (its.map (Oa r))⟩ else OI R p:=rfl
abbrev kM (r:Nat):A:=.pob [r] 1 0
theorem Ph {r:Nat} {l:List WI}:Ds 14 (l.map (Oa r))=true:=by rw[L2];simp
def DZ:Nat × Nat × List T→List WI
 |(k,v,l)=>if l=[] then [] else [.del k v l]
def Bl:Nat × Nat × List T→List WI
 |(k,v,l)=>if l=[] then [] else [.ins k v l]
theorem Gs (its:List WI) (vo:Nat) (g b:Nat × Nat × List T) (R:Pk) (hl:its.length≤1000000) (hg:R g.1=some (g.2.1,g.2.2)) (hb:R b.1=some (b.2.1,b.2.2)) (hg0:1≤g.1) (hb0:1≤b.1):SpecF Tryz.prog 191 (fun r=>[kM r]) (PY its vo (some g) (some b) R) (fun _=>.tup []) (PY (its++(DZ g++Bl b)) (vo+(DZ g++Bl b).length) none none R):=by
 obtain⟨gk,gv,gl⟩:=g;obtain⟨bk,bv',bl⟩:=b;refine Bk Ju (by simp) (Ag AJ Al) (Bu Al) fun w0 I0 M0 m0=>?_;unfold Fm;by_cases h1:gl=[]
 ·by_cases h2:bl=[]
  ·simp[h1,h2,KC];rw[BI.eq_1];simp[h1,h2,KC,Aa];refine Bn rfl rfl (fun p=>?_);by_cases p1:p=[]
   ·subst p1;simp[Aa,DZ,Bl,KC]
   ·by_cases p2:p=[0]
    ·subst p2;simp[Aa,DZ,Bl]
    ·simp[p1,p2,Aa]
  ·have h2':(0:Int)<bl.length:=by have:=List.length_pos_iff.2 h2;omega
   have h2n:=List.length_pos_iff.2 h2;simp[h1,h2,KC];rw[BI.eq_1];simp[h1,h2,h2',h2n,KC,Aa,Ph];refine⟨by omega,by omega,?_⟩;refine Bn rfl rfl (fun p=>?_);by_cases p1:p=[]
   ·subst p1;simp[Aa,DZ,Bl,KC,h1,h2]
   ·by_cases p2:p=[0]
    ·subst p2;simp[Aa,DZ,Bl,h1,h2,Oa,Rc,MW,DE]
    ·simp[p1,p2,Aa]
 ·have h1':(0:Int)<gl.length:=by have:=List.length_pos_iff.2 h1;omega
  have h1n:=List.length_pos_iff.2 h1;by_cases h2:bl=[]
  ·simp[h1,h1',h1n,h2,KC,Aa,Ph];refine⟨by omega,by omega,?_⟩;rw[BI.eq_1];simp[h1,h2,KC,Aa];refine Bn rfl rfl (fun p=>?_);by_cases p1:p=[]
   ·subst p1;simp[Aa,DZ,Bl,KC,h1,h2]
   ·by_cases p2:p=[0]
    ·subst p2;simp[Aa,DZ,Bl,h1,h2,Oa,Rc,MW,DE]
    ·simp[p1,p2,Aa]
  ·have h2':(0:Int)<bl.length:=by have:=List.length_pos_iff.2 h2;omega
   have h2n:=List.length_pos_iff.2 h2;simp[h1,h1',h1n,h2,KC,Aa,Ph];refine⟨by omega,by omega,?_⟩;rw[BI.eq_1];simp[h1,h2,h2',h2n,KC,Aa];refine⟨by omega,⟨by omega,by omega⟩,?_⟩;refine Bn rfl rfl (fun p=>?_);by_cases p1:p=[]
   ·subst p1;simp[Aa,DZ,Bl,KC,h1,h2]
   ·by_cases p2:p=[0]
    ·subst p2;simp[Aa,DZ,Bl,h1,h2,Oa,Rc,MW,DE]
    ·simp[p1,p2,Aa]
theorem vS (l:List T) (x:A):(l.map tA++[x])[l.length]? = some x:=by rw[List.getElem?_append_right (by simp)];simp
theorem kE (l:List T):List.take l.length (l.map tA)=l.map tA:=DE (by simp)
theorem Y6 {n0:Nat} {w0:World} {I0:Nat→Prop} {M0:Nm→Nat→Prop} {m0:Mu} {Q:Exit→Sta→Prop} {its:List WI} {vo off k:Nat} {g b:Option (Nat × Nat × List T)} {R:Pk} {ts l0:List T} {v0:Nat} (hts:∀ t,t ∈ ts→CG t) (hl:l0.length+ts.length≤1000000) (hk:1≤k)
  (F:Nat→List T→Fam) (hF0:∀ v l,(F v l).F 0 []=⟨1,.cells [.osl [0,0] vo 14 0 its.length,if off=1 then .osl [0,k] v 3 0 l.length else KC 0 g,if off=1 then KC 0 b else .osl [0,k] v 3 0 l.length]⟩) (hoff:off=1∨off=2) (hFk:∀ v l,(F v l).F 0 [k]=⟨v,.arr 3 (l.map tA)⟩) (hFo:∀ v l v' l' p,p ≠ []→p ≠ [k]→(F v l).F 0 p=(F v' l').F 0 p)
  (hq:∀ H st,(∀ p,H (0::p)=(F (v0+ts.length) (l0++ts.map Aq)).F 0 p)→Q (.exit 0) ⟨lk st,H⟩):∀ (m i:Nat) (H:Hp),i+m=ts.length→(∀ p,H (0::p)=(F (v0+i) (l0++(ts.take i).map Aq)).F 0 p) →
  LoopC (HI Tryz.prog w0 I0 M0 n0 m0) EU Q ⟨lk [(0,.pob [0] 1 off),(6,DY ts),(7,iv ts.length),(8,iv i)],H⟩:=by
 intro m;induction m with
 |zero=>
  intro i H hm hH;refine Ad mixed EU.eq_1 ?_;have:i=ts.length:=by omega
  subst this;rw[DE (CE _)] at hH;simp;exact hq H _ hH
 |succ m ih=>
  intro i H hm hH;have hi:i<ts.length:=by omega
  have ew:=B0 i;have h0:=hH [];rw[hF0] at h0;have h1:=hH [k];rw[hFk] at h1;have hN:=Hj ts[i] (hts _ (EI hi));have hLs:l0++(ts.take (i+1)).map Aq=l0++(ts.take i).map Aq++[Aq ts[i]]:=by rw[LW hi,List.map_append,← List.append_assoc];rfl
  have hLl:(l0++(ts.take i).map Aq).length≤1000000:=by simp;omega
  have next:=ih (i+1)
  rw[hLs,← Nat.add_assoc] at next
  generalize l0++(ts.take i).map Aq=L at *;generalize v0+i=v at *;have hH':∀ (p:Nm) (H2:Hp),p ≠ []→p ≠ [k]→H2 (0::p)=H (0::p)→H2 (0::p)=(F (v+1) (L++[Aq ts[i]])).F 0 p:=fun p H2 p1 p2 he=>by rw[he,hH,hFo _ _ _ _ p p1 p2]
  refine Ad mixed EU.eq_1 ?_;rcases hoff with rfl | rfl;all_goals
   simp at h0 h1;simp[hi,Aa,h0];refine Af hN (by simp[Aa]) ?_;simp[Aa,h0,h1,show ¬ k=0 by omega,show ¬ 0=k by omega,vS,kE,ew];refine⟨by omega,by omega,?_⟩;refine next _ (by omega) (fun p=>?_)
   by_cases p1:p=[]
   ·subst p1;rw[hF0];simp[Aa,show ¬ k=0 by omega,show ¬ 0=k by omega]
   ·by_cases p2:p=[k]
    ·subst p2;rw[hFk];simp[Aa,show ¬ k=0 by omega,show ¬ 0=k by omega]
    ·exact hH' p _ p1 p2 (by simp[Aa,p1,p2,Ne.symm p1,Ne.symm p2])
def Et (R:Pk) (k:Nat) (v:Nat) (l:List T):Pk:=fun q=>if q=k then some (v,l) else R q
theorem R8 {R:Pk} {k v:Nat} {l:List T} (h:R k=some (v,l)):Et R k v l=R:=by
 funext q;unfold Et;split
 ·rename_i e;rw[e,h]
 ·rfl
theorem Yy (its:List WI) (vo k v:Nat) (l:List T) (b:Option (Nat × Nat × List T)) (R:Pk) (hR:R k=some (v,l)) (hk:1≤k) (hb:∀ x,b=some x→x.1 ≠ k) {ts:List T} (hts:∀ t,t ∈ ts→CG t) (hl:l.length+ts.length≤1000000) :
  SpecF Tryz.prog 189 (fun r=>[.pob [r] 1 1,DY ts]) (PY its vo (some (k,v,l)) b R) (fun _=>.tup []) (PY its vo (some (k,v+ts.length,l++ts.map Aq)) b (Et R k (v+ts.length) (l++ts.map Aq))):=by
 refine Bk K7 (by simp) (Ag AJ (Ag Ew Al)) (Bu Al) fun w0 I0 M0 m0=>?_;unfold HJ;simp;refine LoopC.le (Be [(0,.pob [0] 1 1),(6,DY ts),(7,iv ts.length),(8,iv (0:Nat))] (by simp)) ?_;refine Y6 (its:=its) (vo:=vo) (off:=1) (k:=k) (g:=none) (b:=b) (R:=R) (ts:=ts) (l0:=l) (v0:=v) hts hl hk (fun v l=>PY its vo (some (k,v,l)) b (Et R k v l)) (fun v l=>by simp[KC]) (.inl rfl) (fun v l=>by simp[YM,Et,show ¬ k=0 by omega]) (fun v l v' l' p p1 p2=>?_) (fun H st hH=>?_) ts.length 0 _ (by omega) (fun p=>?_)
 ·rw[Zj,Zj,if_neg p1,if_neg p1];split
  ·rfl
  ·match p with
   |[]=>rfl
   |[q]=>simp[Et,show ¬ q=k from fun e=>p2 (by rw[e])]
   |_::_::_=>rfl
 ·simp;exact Bn rfl rfl hH
 ·simp only[List.take_zero,List.map_nil,List.append_nil,Nat.add_zero];rw[R8 hR];simp
theorem Yh (its:List WI) (vo k v:Nat) (l:List T) (g:Option (Nat × Nat × List T)) (R:Pk) (hR:R k=some (v,l)) (hk:1≤k) {ts:List T} (hts:∀ t,t ∈ ts→CG t) (hl:l.length+ts.length≤1000000) :
  SpecF Tryz.prog 189 (fun r=>[.pob [r] 1 2,DY ts]) (PY its vo g (some (k,v,l)) R) (fun _=>.tup []) (PY its vo g (some (k,v+ts.length,l++ts.map Aq)) (Et R k (v+ts.length) (l++ts.map Aq))):=by
 refine Bk K7 (by simp) (Ag AJ (Ag Ew Al)) (Bu Al) fun w0 I0 M0 m0=>?_;unfold HJ;simp;refine LoopC.le (Be [(0,.pob [0] 1 2),(6,DY ts),(7,iv ts.length),(8,iv (0:Nat))] (by simp)) ?_;refine Y6 (its:=its) (vo:=vo) (off:=2) (k:=k) (g:=g) (b:=none) (R:=R) (ts:=ts) (l0:=l) (v0:=v) hts hl hk (fun v l=>PY its vo g (some (k,v,l)) (Et R k v l)) (fun v l=>by simp[KC]) (.inr rfl) (fun v l=>by simp[YM,Et,show ¬ k=0 by omega]) (fun v l v' l' p p1 p2=>?_) (fun H st hH=>?_) ts.length 0 _ (by omega) (fun p=>?_)
 ·rw[Zj,Zj,if_neg p1,if_neg p1];split
  ·rfl
  ·match p with
   |[]=>rfl
   |[q]=>simp[Et,show ¬ q=k from fun e=>p2 (by rw[e])]
   |_::_::_=>rfl
 ·simp;exact Bn rfl rfl hH
 ·simp only[List.take_zero,List.map_nil,List.append_nil,Nat.add_zero];rw[R8 hR];simp
theorem Ur (l:List WI) (r:Nat) (x:A):(l.map (Oa r)++[x])[l.length]? = some x:=by rw[List.getElem?_append_right (by simp)];simp
theorem lN (l:List WI) (r:Nat):List.take l.length (l.map (Oa r))=l.map (Oa r):=DE (by simp)
theorem J4 (l:List WI) (r:Nat) (x:A):List.take (l.length+1) (l.map (Oa r)++[x])=l.map (Oa r)++[x]:=DE (by simp)
theorem Nb:∀ g,(DZ g).length≤1
 |(a,b,c)=>by
  by_cases h:c=[]<;>simp[DZ,h]
theorem Iu:∀ g,(Bl g).length≤1
 |(a,b,c)=>by
  by_cases h:c=[]<;>simp[Bl,h]
theorem Yb (its i0:List WI) (vo:Nat) (m n:Int) (g b:Nat × Nat × List T) (R:Pk) (hl:its.length≤1000000) (hg:R g.1=some (g.2.1,g.2.2)) (hb:R b.1=some (b.2.1,b.2.2)) (hg0:1≤g.1) (hb0:1≤b.1) (hi:its++(DZ g++Bl b)=i0++[.keep m]):SpecF Tryz.prog 188 (fun r=>[kM r,iv n]) (PY its vo (some g) (some b) R) (fun _=>.tup []) (PY (i0++[.keep (i64.wrap (m+n))]) (vo+(DZ g++Bl b).length) none none R):=by
 have F1:=Gs its vo g b R hl hg hb hg0 hb0;rw[hi] at F1;have hlen:i0.length≤1000002:=by
  have e:=congrArg List.length hi;have:=Nb g;have:=Iu b;simp at e;omega
 generalize vo+(DZ g++Bl b).length=v at *;have e1:i64.wrap (i0.length:Int)=i0.length:=Ih;refine Bk F5 (by simp) (Ag AJ (Ag AO Al)) (Bu Al) fun w0 I0 M0 m0=>?_;unfold D9;simp;refine Ai 0 F1 (fun p=>by simp) (by simp) (by simp) ?_;simp[e1,Ur,Oa,Rc];refine⟨by omega,rfl,?_⟩;refine AK rfl rfl (fun p=>?_);by_cases p1:p=[]
 ·subst p1;simp[Aa,KC]
 ·by_cases p2:p=[0]
  ·subst p2;simp[Aa,Oa,Rc,MW,A.remake,J4]
  ·simp[p1,p2,Aa]
theorem Xo (its:List WI) (vo:Nat) (n:Int) (g b:Nat × Nat × List T) (R:Pk) (hl:its.length≤1000000) (hg:R g.1=some (g.2.1,g.2.2)) (hb:R b.1=some (b.2.1,b.2.2)) (hg0:1≤g.1) (hb0:1≤b.1) (hi:its++(DZ g++Bl b)=[]∨∃ i0 x,its++(DZ g++Bl b)=i0++[x]∧x.op.kind ≠ 0):SpecF Tryz.prog 188 (fun r=>[kM r,iv n]) (PY its vo (some g) (some b) R) (fun _=>.tup []) (PY (its++(DZ g++Bl b)++[.keep n]) (vo+(DZ g++Bl b).length+1) none none R):=by
 have F1:=Gs its vo g b R hl hg hb hg0 hb0;have hlen:(its++(DZ g++Bl b)).length≤1000002:=by
  have:=Nb g;have:=Iu b;simp;omega
 generalize vo+(DZ g++Bl b).length=v at *;generalize its++(DZ g++Bl b)=J at *;refine Bk F5 (by simp) (Ag AJ (Ag AO Al)) (Bu Al) fun w0 I0 M0 m0=>?_;unfold D9;simp;refine Ai 0 F1 (fun p=>by simp) (by simp) (by simp) ?_;rcases hi with rfl | ⟨i0,x,rfl,hx⟩
 ·simp[Aa,show i64.wrap (-1) = -1 from rfl];refine Bn rfl rfl (fun p=>?_);by_cases p1:p=[]
  ·subst p1;simp[Aa,KC]
  ·by_cases p2:p=[0]
   ·subst p2;simp[Aa,Oa,Rc,MW,A.remake,J4]
   ·simp[p1,p2,Aa]
 ·simp at hlen;have e1:i64.wrap (i0.length:Int)=i0.length:=Ih;cases x with
  |keep m=>exact absurd rfl hx
  |del a b c=>
   simp[e1,Ur,Oa,Rc,Aa];refine⟨by omega,by omega,⟨by omega,by omega⟩,?_⟩;refine Bn rfl rfl (fun p=>?_);by_cases p1:p=[]
   ·subst p1;simp[Aa,KC]
   ·by_cases p2:p=[0]
    ·subst p2;simp[Aa,Oa,Rc,MW,A.remake,J4]
    ·simp[p1,p2,Aa]
  |ins a b c=>
   simp[e1,Ur,Oa,Rc,Aa];refine⟨by omega,by omega,⟨by omega,by omega⟩,?_⟩;refine Bn rfl rfl (fun p=>?_);by_cases p1:p=[]
   ·subst p1;simp[Aa,KC]
   ·by_cases p2:p=[0]
    ·subst p2;simp[Aa,Oa,Rc,MW,A.remake,J4]
    ·simp[p1,p2,Aa]
  |desc e=>
   simp[e1,Ur,Oa,Rc,Aa];refine⟨by omega,by omega,⟨by omega,by omega⟩,?_⟩;refine Bn rfl rfl (fun p=>?_);by_cases p1:p=[]
   ·subst p1;simp[Aa,KC]
   ·by_cases p2:p=[0]
    ·subst p2;simp[Aa,Oa,Rc,MW,A.remake,J4]
    ·simp[p1,p2,Aa]
end Go.Proofs.YtgkdikddjfgajaaGreatDoor
namespace Go.PL
open List
def tt (x:Int):List Int→Option (List Int)
 |[]=>none
 |y::b=>if x=y then some b else tt x b
structure Sp where
 k:Nat
 n:Nat
 deriving DecidableEq
def Sp.ok (s:Sp):Prop:=s.k≤2∧1≤s.n∧s.n≤1048576
def fl (k n:Nat):List Sp:=if n=0 then [] else [⟨k,n⟩]
@[simp] theorem Aa3 (k:Nat):fl k 0=[]:=rfl
end Go.PL
namespace Go.Proofs.YtgkdikddjfgajaaGreatDoor
open Go Go.G Go.Proofs Go.PL
variable {n0:Nat} {w0:World} {I0:Nat→Prop} {Q:Exit→Sta→Prop}
theorem Sl {α:Type} {f:α→A} (h:∀ x,(f x).cells=[f x]) (l:List α):(l.map f).flatMap A.cells=l.map f:=by
 induction l with
 |nil=>rfl
 |cons x l ih=>simp[ih,h]
def WI.row:WI→Option (Nat × Nat × List T)
 |.del k v l=>some (k,v,l)
 |.ins k v l=>some (k,v,l)
 |_=>none
def yu (R:Pk) (its:List WI):Prop:=∀ x,x ∈ its→∀ k v l,x.row=some (k,v,l)→R k=some (v,l)∧1≤k
theorem mY {c:Cx} {s:Nat→A} {H:Hp} {its:List WI} {v K:Nat} {R:Pk} (hH:∀ p,H (0::p)=(PY its v none none R).F 0 p) (hK:∀ q,K≤q→R q=none) (hK1:1≤K):∃ H',Le c ⟨s,H⟩ ⟨s,H'⟩∧(∀ p,H' (0::p)=(PY its v (some (K,1,[])) (some (K+1,1,[])) (Et (Et R K 1 []) (K+1) 1 [])).F 0 p):=by
 have h0:=hH [];simp[KC] at h0;have hK0:H [0,K]=⟨0,.none⟩:=by rw[hH];simp[show ¬ K=0 by omega,hK K (CE _),YM]
 have hK2:H [0,K+1]=⟨0,.none⟩:=by rw[hH];simp[hK (K+1) (by omega),YM]
 have l1:=CZ (c:=c) (s:=s) (H:=H) (d:=[0]) (u:=1) (cs:=[.osl [0,0] v 14 0 its.length,.sl true [],.sl true []]) 1 [0,K] 3 h0 rfl (by simp);refine⟨_,l1.trans (CZ (d:=[0]) (u:=1) (cs:=[.osl [0,0] v 14 0 its.length,.osl [0,K] 1 3 0 0,.sl true []]) 2 [0,K+1] 3 (by simp[Aa,hK0]) rfl (by simp)),fun p=>?_⟩;by_cases p1:p=[]
 ·subst p1;simp[Aa,KC,hK0,hK2]
 ·by_cases p2:p=[0]
  ·subst p2;simp[Aa,hH,show ¬ 0=K by omega]
  ·match p,p1,p2 with
   |[q],p1,p2=>
    have hq0:¬ q=0:=fun e=>p2 (by rw[e]);by_cases e1:q=K
    ·subst e1;simp[Aa,Et,YM,hK0,hq0]
    ·by_cases e2:q=K+1
     ·subst e2;simp[Aa,Et,YM,hK2]
     ·simp[Aa,Et,hH,e1,e2,hq0]
   |_::_::_,p1,p2=>simp[Aa,hH,OI]
theorem o6 {H:Hp} {R:Pk} {its:List WI} {v:Nat} {g b:Option (Nat × Nat × List T)} (hH:∀ p,H (0::p)=(PY its v g b R).F 0 p) (x:WI) (hx:∀ k v l,x.row=some (k,v,l)→R k=some (v,l)∧1≤k):FF H (Rc 0 x) (oA x.op).cells:=by
 have key:∀ k v' l,x.row=some (k,v',l)→Jw H (.osl [0,k] v' 3 0 l.length) (DY l):=fun k v' l h=>by
  obtain⟨h1,h2⟩:=hx k v' l h;have:=hH [k];simp[show ¬ k=0 by omega,h1,YM] at this;exact DT (f:=tA) (by rw[this];simp) rfl (by simp)
 have hraw:FF H MW (eL E0):=⟨Ab rfl,Ab rfl,Ae,Ae,Ab rfl,Ae,Ae,Ae,Ae,Ab rfl,Ae,trivial⟩;rw[oA_eq];cases x with
 |keep n=>exact⟨Ab rfl,Ab rfl,Ae,hraw⟩
 |del k v' l=>exact⟨Ab rfl,Ab rfl,key k v' l rfl,hraw⟩
 |ins k v' l=>exact⟨Ab rfl,Ab rfl,key k v' l rfl,hraw⟩
 |desc e=>exact⟨Ab rfl,Ab rfl,Ae,Ab rfl,Ab rfl,Ab rfl,Ab rfl,Ab rfl,Ab rfl,Ab rfl,Ab rfl,Ab rfl,Ab rfl,Ab rfl,trivial⟩
theorem Va {H:Hp}:∀ {a b a' b':List A},FF H a a'→FF H b b'→a.length=a'.length→FF H (a++b) (a'++b')
 |[],b,[],b',_,h,_=>h
 |x::a,b,y::a',b',h1,h,hl=>⟨h1.1,Va h1.2 h (by simpa using hl)⟩
 |[],b,y::a',b',_,_,hl=>by simp at hl
 |x::a,b,[],b',_,_,hl=>by simp at hl
theorem lZ {H:Hp} {R:Pk} {its:List WI} {v:Nat} {g b:Option (Nat × Nat × List T)} (hH:∀ p,H (0::p)=(PY its v g b R).F 0 p) (hx:yu R its):Jw H (.osl [0,0] v 14 0 its.length) (SX (its.map WI.op)):=by
 have h1:=hH [0];simp at h1;refine P7 (o:=[0,0]) (u:=v) (off:=0) (len:=its.length) (sz:=14) (xs:=its.map (Oa 0)) (ys:=(its.map WI.op).map oA) (by rw[MX,h1];simp) (by simp) (by simp) (fun y hy=>by
  obtain⟨x,_,rfl⟩:=List.mem_map.1 hy;simp) ?_ ?_
 ·have:∀ l:List OP,A.ones ((l.map oA).flatMap A.cells)=true:=fun l=>by
   induction l with
   |nil=>rfl
   |cons x l ih=>simp[A.ones] at ih ⊢
  exact this _
 ·rw[List.drop_zero,DE (by simp),List.map_map];have:∀ l:List WI,(∀ x,x ∈ l→x ∈ its)→FF H ((l.map (Oa 0)).flatMap A.cells) ((l.map (oA ∘ WI.op)).flatMap A.cells):=fun l hl=>by
   induction l with
   |nil=>trivial
   |cons x l ih=>
    simp only[List.map_cons,List.flatMap_cons];exact Va (o6 hH x fun k v l h=>hx x (hl x (by simp)) k v l h) (ih fun y hy=>hl y (by simp[hy])) (by simp)
  exact this its fun x h=>h
theorem bw (list:Int) (e:E) (h1:e.words.length≤100000000000000) (h2:e.kids.length≤100000000000000):G.Spec Tryz.prog 190 [iv list,eX e] (bv (Q4 list e)):=by
 have e1:i64.wrap ((e.words.length:Int)+e.kids.length)=((e.words.length+e.kids.length:Nat):Int):=H9;refine Ap RQ (by simp) fun w0 I0=>?_;unfold Li;by_cases k0:e.kind=0
 ·simp[k0,Q4];exact Ab rfl
 ·by_cases k9:list=9
  ·by_cases k2:e.kind=2
   ·simp[k0,k9,k2,Q4,e1];refine Ak ?_;rw[Bool.eq_iff_iff];simp only[decide_eq_true_eq,Bool.and_eq_true,List.isEmpty_iff];constructor
    ·intro h;exact⟨List.eq_nil_of_length_eq_zero (by omega),List.eq_nil_of_length_eq_zero (by omega)⟩
    ·rintro⟨h1,h2⟩;rw[h1,h2];rfl
   ·simp[k0,k9,k2,Q4];exact Ab rfl
  ·simp[k0,k9,Q4];exact Ab rfl
theorem Pn (its:List WI) (g b:Nat × Nat × List T):(its++(DZ g++Bl b)).map WI.op=mi (its.map WI.op) g.2.2 b.2.2:=by
 obtain⟨a,c,l⟩:=g;obtain⟨a',c',l'⟩:=b;by_cases h1:l=[]<;>by_cases h2:l'=[]<;>simp[DZ,Bl,mi,wC,ug,h1,h2,WI.op]
theorem kQ (J:List WI):(∃ i0 m,J=i0++[.keep m])∨(J=[]∨∃ i0 x,J=i0++[x]∧x.op.kind ≠ 0):=by
 rcases List.eq_nil_or_concat J with h | ⟨i0,x,h⟩
 ·exact .inr (.inl h)
 ·rw[List.concat_eq_append] at h;cases x with
  |keep m=>exact .inl ⟨i0,m,h⟩
  |del a b c=>exact .inr (.inr ⟨i0,.del a b c,h,by simp[WI.op]⟩)
  |ins a b c=>exact .inr (.inr ⟨i0,.ins a b c,h,by simp[WI.op]⟩)
  |desc e=>exact .inr (.inr ⟨i0,.desc e,h,by simp[WI.op]⟩)
theorem gD (l:List OP) (m n:Int) (t:List T) (e:E):mr (l++[.mk 0 m t e]) n=l++[.mk 0 (i64.wrap (m+n)) t e]:=by simp[mr]
theorem lu (n:Int):mr [] n=[.mk 0 n [] E0]:=rfl
theorem dW (l:List OP) (x:OP) (n:Int) (h:x.kind ≠ 0):mr (l++[x]) n=l++[x]++[.mk 0 n [] E0]:=by
 obtain⟨k,m,t,e⟩:=x;unfold mr;rw[List.getLast?_append];simp only[List.getLast?_singleton,Option.some_or];split
 ·rename_i h2;injection h2 with h2;injection h2 with h2;exact absurd h2 h
 ·rfl
structure WrI (its:List WI) (g b:Nat × Nat × List T) (R:Pk) (K:Nat):Prop where
 g1:1≤g.1
 b1:1≤b.1
 gb:g.1 ≠ b.1
 gK:g.1<K
 bK:b.1<K
 Rg:R g.1=some (g.2.1,g.2.2)
 Rb:R b.1=some (b.2.1,b.2.2)
 rK:∀ q,K≤q→R q=none
 it:yu R its
 ng:∀ x,x ∈ its→∀ k v l,x.row=some (k,v,l)→k ≠ g.1∧k ≠ b.1
theorem WrI.flushed {its:List WI} {g b:Nat × Nat × List T} {R:Pk} {K:Nat} (h:WrI its g b R K):yu R (its++(DZ g++Bl b)):=by
 intro x hx k v l hr;rcases List.mem_append.1 hx with hx | hx
 ·exact h.it x hx k v l hr
 ·rcases List.mem_append.1 hx with hx | hx
  ·obtain⟨a,c,d⟩:=g;by_cases e:d=[]<;>simp[DZ,e] at hx
   subst hx;simp[WI.row] at hr;obtain⟨rfl,rfl,rfl⟩:=hr;exact⟨h.Rg,h.g1⟩
  ·obtain⟨a,c,d⟩:=b;by_cases e:d=[]<;>simp[Bl,e] at hx
   subst hx;simp[WI.row] at hr;obtain⟨rfl,rfl,rfl⟩:=hr;exact⟨h.Rb,h.b1⟩
theorem VP {its:List WI} {g b:Nat × Nat × List T} {R:Pk} {K:Nat} (h:WrI its g b R K) (hl:its.length≤1000000) (vo:Nat) (n:Int):∃ its2 v2,SpecF Tryz.prog 188 (fun r=>[kM r,iv n]) (PY its vo (some g) (some b) R) (fun _=>.tup []) (PY its2 v2 none none R)∧its2.map WI.op=mr (mi (its.map WI.op) g.2.2 b.2.2) n∧its2.length≤its.length+3∧yu R its2:=by
 have hF:=h.flushed;have d1:=Nb g;have d2:=Iu b;rcases kQ (its++(DZ g++Bl b)) with ⟨i0,m,hi⟩ | hi
 ·have hlen:=congrArg List.length hi;simp at hlen;refine⟨_,_,Yb its i0 vo m n g b R hl h.Rg h.Rb h.g1 h.b1 hi,?_,?_,?_⟩
  ·rw[← Pn,hi];simp[WI.op,gD]
  ·simp;omega
  ·rw[hi] at hF;intro x hx k v l hr;rcases List.mem_append.1 hx with hx | hx
   ·exact hF x (by simp[hx]) k v l hr
   ·simp at hx;subst hx;simp[WI.row] at hr
 ·refine⟨_,_,Xo its vo n g b R hl h.Rg h.Rb h.g1 h.b1 hi,?_,?_,?_⟩
  ·rw[← Pn];rcases hi with hi | ⟨i0,x,hi,hx⟩
   ·rw[hi];simp[lu,WI.op]
   ·rw[hi];simp only[List.map_append,List.map_cons,List.map_nil];rw[dW _ _ _ hx];simp[WI.op]
  ·simp;omega
  ·intro x hx k v l hr;rcases List.mem_append.1 hx with hx | hx
   ·exact hF x hx k v l hr
   ·simp at hx;subst hx;simp[WI.row] at hr
structure OpG (o:OP):Prop where
 k:o.kind=0∨o.kind=1∨o.kind=2∨o.kind=3
 l:∀ t,t ∈ o.l→CG t
 e:o.kind=3→G.Spec Tryz.prog 94 [eX o.e] (eX (Km o.e))∧(Km o.e).words.length≤100000000000000∧(Km o.e).kids.length≤100000000000000
def XF (os:List OP):Nat:=(os.map fun o=>o.l.length).sum
theorem bR (o:OP) (os:List OP):XF (o::os)=o.l.length+XF os:=by simp[XF]
theorem pv {list:Int} {os:List OP} (hos:∀ o,o ∈ os→OpG o) (hol:os.length≤300000) {res:List OP}
  (hq:∀ (H:Hp) (its:List WI) (v:Nat) (g b:Nat × Nat × List T) (R:Pk) (K:Nat) st,(∀ p,H (0::p)=(PY its v (some g) (some b) R).F 0 p)→WrI its g b R K→mi (its.map WI.op) g.2.2 b.2.2=res→its.length≤1000000→Q (.exit 0) ⟨lk ([(0,iv list),(5,kM 0)]++st),H⟩):∀ (m i:Nat) (its:List WI) (v:Nat) (g b:Nat × Nat × List T) (R:Pk) (K:Nat) (H:Hp),i+m=os.length→its.length≤3*i→g.2.2.length+b.2.2.length+XF (os.drop i)≤1000000→WrI its g b R K→(∀ p,H (0::p)=(PY its v (some g) (some b) R).F 0 p)→NY list ((os.drop i).map jJ) (its.map WI.op) g.2.2 b.2.2=res →
  LoopC (cx Tryz.prog w0 I0 n0) Eu Q ⟨lk [(0,iv list),(5,kM 0),(11,SX os),(12,iv os.length),(13,iv i)],H⟩:=by
 intro m;induction m with
 |zero=>
  intro i its v g b R K H hm hil hsum hW hH hres;refine Ad mixed Eu.eq_1 ?_;have:i=os.length:=by omega
  subst this;rw[List.drop_length,List.map_nil,NY] at hres;simp;exact hq H its v g b R K [(11,SX os),(12,iv os.length),(13,iv os.length),(14,bv false)] hH hW hres (by omega)
 |succ m ih=>
  intro i its v g b R K H hm hil hsum hW hH hres;have hi:i<os.length:=by omega
  have ew:=B0 i;have hd:os.drop i=os[i]::os.drop (i+1):=(List.getElem_cons_drop hi).symm;have hO:=hos _ (EI hi);rw[hd,List.map_cons,NY] at hres;rw[hd,bR] at hsum;have hoi:(os.map oA)[i]? = some (oX os[i]):=by simp[hi]
  generalize ho:os[i]=o at *;have hnk:(jJ o).kind=o.kind:=rfl;have hnn:(jJ o).n=o.n:=rfl;have hnl:(jJ o).l=o.l:=rfl;have hne:(jJ o).e=Km o.e:=rfl;rw[hnk,hnn,hnl,hne] at hres
  -- what goes on when all is laid
  have next:∀ (its2:List WI) (v2:Nat) (H2:Hp),its2.length≤its.length+3→(∀ p,H2 (0::p)=(PY its2 v2 none none R).F 0 p)→yu R its2→NY list ((os.drop (i+1)).map jJ) (its2.map WI.op) [] []=res→LoopC (cx Tryz.prog w0 I0 n0) Eu Q ⟨lk [(0,iv list),(5,kM 0),(11,SX os),(12,iv os.length),(13,iv (i+1:Nat))],H2⟩:=fun its2 v2 H2 h1 h2 h3 h4=>by
   obtain⟨H3,hle,hF⟩:=mY (c:=cx Tryz.prog w0 I0 n0) (s:=lk [(0,iv list),(5,kM 0),(11,SX os),(12,iv os.length),(13,iv (i+1:Nat))]) h2 hW.rK (by have:=hW.gK;omega);refine LoopC.le hle ?_;refine ih (i+1) its2 v2 (K,1,[]) (K+1,1,[]) _ (K+2) H3 (by omega) (by omega) (by simp;omega) ?_ hF h4;have hg:=hW.g1;have hgK:=hW.gK;refine⟨by simp;omega,by simp,by simp,by simp,by simp,by simp[Et],by simp[Et],fun q hq=>?_,fun x hx k v' l hr=>?_,fun x hx k v' l hr=>?_⟩
   ·simp[Et,show ¬ q=K+1 by omega,show ¬ q=K by omega];exact hW.rK q (by omega)
   ·obtain⟨a1,a2⟩:=h3 x hx k v' l hr;have hkK:k<K:=by
     by_cases e:K≤k
     ·rw[hW.rK k e] at a1;cases a1
     ·omega
    exact⟨by simp[Et,show ¬ k=K+1 by omega,show ¬ k=K by omega,a1],a2⟩
   ·obtain⟨a1,a2⟩:=h3 x hx k v' l hr;have hkK:k<K:=by
     by_cases e:K≤k
     ·rw[hW.rK k e] at a1;cases a1
     ·omega
    exact⟨by simp;omega,by simp;omega⟩
  refine Ad mixed Eu.eq_1 ?_;rcases hO.k with h0 | h0 | h0 | h0
  ·rw[if_pos h0] at hres;obtain⟨its2,v2,S1,S2,S3,S4⟩:=VP hW (by omega) v o.n;rw[← S2] at hres;simp[hi,ho,h0,Aa];refine Ai 0 S1 (fun p=>by simp[Aa,hH]) (by simp) (by simp) ?_;simp[ew];exact next its2 v2 _ S3 (fun p=>by simp) S4 hres
  ·rw[if_neg (by omega),if_pos h0] at hres;have hF:=Yy its v g.1 g.2.1 g.2.2 (some b) R hW.Rg hW.g1 (fun x hx=>by cases hx;exact Ne.symm hW.gb) hO.l (by omega);simp[hi,ho,h0,Aa];refine Ai 0 hF (fun p=>by simp[Aa,hH]) (by simp) (by simp) ?_;simp[ew];refine ih (i+1) its v (g.1,g.2.1+o.l.length,g.2.2++o.l.map Aq) b (Et R g.1 (g.2.1+o.l.length) (g.2.2++o.l.map Aq)) K _ (by omega) (by omega) (by simp;omega) ?_ (fun p=>by simp) hres;have w1:=hW.g1;have w2:=hW.gK;refine⟨hW.g1,hW.b1,hW.gb,hW.gK,hW.bK,by simp[Et],?_,fun q hq=>?_,fun x hx k v' l hr=>?_,fun x hx k v' l hr=>hW.ng x hx k v' l hr⟩
   ·simp only[Et,if_neg (Ne.symm hW.gb)];exact hW.Rb
   ·simp only[Et,if_neg (show ¬ q=g.1 by omega)];exact hW.rK q hq
   ·obtain⟨a1,a2⟩:=hW.it x hx k v' l hr;exact⟨by simp only[Et,if_neg (hW.ng x hx k v' l hr).1];exact a1,a2⟩
  ·rw[if_neg (by omega),if_neg (by omega),if_pos h0] at hres;have hF:=Yh its v b.1 b.2.1 b.2.2 (some g) R hW.Rb hW.b1 hO.l (by omega);simp[hi,ho,h0,Aa];refine Ai 0 hF (fun p=>by simp[Aa,hH]) (by simp) (by simp) ?_;simp[ew];refine ih (i+1) its v g (b.1,b.2.1+o.l.length,b.2.2++o.l.map Aq) (Et R b.1 (b.2.1+o.l.length) (b.2.2++o.l.map Aq)) K _ (by omega) (by omega) (by simp;omega) ?_ (fun p=>by simp) hres;have w2:=hW.bK;refine⟨hW.g1,hW.b1,hW.gb,hW.gK,hW.bK,?_,by simp[Et],fun q hq=>?_,fun x hx k v' l hr=>?_,fun x hx k v' l hr=>hW.ng x hx k v' l hr⟩
   ·simp only[Et,if_neg hW.gb];exact hW.Rg
   ·simp only[Et,if_neg (show ¬ q=b.1 by omega)];exact hW.rK q hq
   ·obtain⟨a1,a2⟩:=hW.it x hx k v' l hr;exact⟨by simp only[Et,if_neg (hW.ng x hx k v' l hr).2];exact a1,a2⟩
  ·rw[if_neg (by omega),if_neg (by omega),if_neg (by omega)] at hres;obtain⟨E1,E2,E3⟩:=hO.e h0;have hI:=bw list (Km o.e) E2 E3;simp[hi,ho,h0,Aa];refine Af E1 (by simp) ?_;simp[Aa];refine Af hI (by simp) ?_;cases hid:Q4 list (Km o.e) with
   |true=>
    rw[if_pos hid] at hres;obtain⟨its2,v2,S1,S2,S3,S4⟩:=VP hW (by omega) v 1;rw[← S2] at hres;simp;refine Ai 0 S1 (fun p=>by simp[Aa,hH]) (by simp) (by simp) ?_;simp[ew];exact next its2 v2 _ S3 (fun p=>by simp) S4 hres
   |false=>
    rw[if_neg (by rw[hid];decide),← Pn] at hres;have F1:=Gs its v g b R (by omega) hW.Rg hW.Rb hW.g1 hW.b1;have d1:=Nb g;have d2:=Iu b;simp;refine Ai 0 F1 (fun p=>by simp[Aa,hH]) (by simp) (by simp) ?_;have hJl:(its++(DZ g++Bl b)).length≤its.length+2:=by simp;omega
    have hJr:=hW.flushed;have next':=next (its++(DZ g++Bl b)++[.desc (Km o.e)]) (v+(DZ g++Bl b).length+1)
    generalize its++(DZ g++Bl b)=J at *;generalize v+(DZ g++Bl b).length=v1 at *;simp[Aa,Ph,lN,Ur,ew];refine⟨by omega,by omega,?_⟩;refine next' _ (by simp;omega) (fun p=>?_) (fun x hx k v' l hr=>?_) ?_
    ·by_cases p1:p=[]
     ·subst p1;simp[Aa,KC]
     ·by_cases p2:p=[0]
      ·subst p2;simp[Aa,Oa,Rc]
      ·simp[p1,p2,Aa]
    ·rcases List.mem_append.1 hx with hx | hx
     ·exact hJr x hx k v' l hr
     ·simp at hx;subst hx;simp[WI.row] at hr
    ·simpa[WI.op] using hres
theorem VO {list:Int} {os:List OP} (hos:∀ o,o ∈ os→OpG o) (hol:os.length≤300000) (hsum:XF os≤1000000):G.Spec Tryz.prog 137 [iv list,SX os] (SX (NY list (os.map jJ) [] [] [])):=by
 refine Ap TV (by simp) fun w0 I0=>?_;unfold Mi;simp;refine LoopC.le (CZ (d:=[0]) (u:=1) (cs:=[.sl true [],.sl true [],.sl true []]) 0 [0,0] 14 rfl rfl (by simp)) ?_;obtain⟨H3,hle,hF⟩:=mY (c:=cx Tryz.prog w0 I0 72) (s:=lk [(0,iv list),(5,kM 0),(11,SX os),(12,iv os.length),(13,iv (0:Nat))]) (H:=Ar (Ar (Dj [([0],⟨1,.cells [.sl true [],.sl true [],.sl true []]⟩)]) [0,0] ⟨1,.arr 14 []⟩) [0] ⟨1,.cells [.osl [0,0] 1 14 0 0,.sl true [],.sl true []]⟩) (its:=[]) (v:=1) (K:=1) (R:=fun _=>none) (fun p=>by
  by_cases p1:p=[]
  ·subst p1;simp[Aa,KC]
  ·by_cases p2:p=[0]
   ·subst p2;simp[Aa]
   ·match p,p1,p2 with
    |[q],p1,p2=>
     have hq0:¬ q=0:=fun e=>p2 (by rw[e]);simp[Aa,YM,hq0,Ne.symm hq0]
    |_::_::_,p1,p2=>simp[Aa,OI]) (fun q _=>rfl) (by omega)
 refine LoopC.le hle ?_;refine pv hos hol (res:=NY list (os.map jJ) [] [] []) (fun H its v g b R K st hH hW hres hil=>?_) os.length 0 [] 1 (1,1,[]) (1+1,1,[]) _ 3 H3 (by omega) (by simp) (by simpa using hsum) ?_ hF (by simp)
 ·have F1:=Gs its v g b R hil hW.Rg hW.Rb hW.g1 hW.b1;have hJr:=hW.flushed;have hm:=Pn its g b;rw[hres] at hm;simp;refine Ai 0 F1 hH (by simp) (by simp) ?_;simp;rw[← hm];have:=lZ (H:=ov 0 ((PY (its++(DZ g++Bl b)) (v+(DZ g++Bl b).length) none none R).F 0) H) (its:=its++(DZ g++Bl b)) (v:=v+(DZ g++Bl b).length) (g:=none) (b:=none) (R:=R) (fun p=>by simp) hJr;simpa using this
 ·refine⟨by simp,by simp,by simp,by simp,by simp,by simp[Et],by simp[Et],fun q hq=>?_,fun x hx=>by simp at hx,fun x hx=>by simp at hx⟩;simp[Et,show ¬ q=1 by omega,show ¬ q=2 by omega]
mutual
def jq:E→Prop
 |.mk k o n ws ks l os=>(k=0∨k=1∨k=2∨k=3)∧(k ≠ 3→l=0)∧(k=1→CG o∧CG n)∧ws.length≤1000000∧ks.length≤1000000∧os.length≤300000∧XF os≤1000000∧(k=2→iE ks)∧(k=3→iQ os)
def iE:List KE→Prop
 |[]=>True
 |.mk a e::l=>jq e∧iE l
def iQ:List OP→Prop
 |[]=>True
 |.mk k n t e::l=>((k=0∨k=1∨k=2∨k=3)∧(∀ x,x ∈ t→CG x)∧(k=3→jq e))∧iQ l
end
theorem V6:∀ {l:List KE},iE l→∀ x,x ∈ l→jq x.e
 |[],_,x,hx=>by simp at hx
 |.mk a e::l,h,x,hx=>by
  rw[iE] at h;rcases List.mem_cons.1 hx with rfl | hx
  ·exact h.1
  ·exact V6 h.2 x hx
theorem VJ:∀ {l:List OP},iQ l→∀ x,x ∈ l→(x.kind=0∨x.kind=1∨x.kind=2∨x.kind=3)∧(∀ t,t ∈ x.l→CG t)∧(x.kind=3→jq x.e)
 |[],_,x,hx=>by simp at hx
 |.mk k n t e::l,h,x,hx=>by
  rw[iQ] at h;rcases List.mem_cons.1 hx with rfl | hx
  ·exact h.1
  ·exact VJ h.2 x hx
theorem fj (e:E) (h:jq e):(Km e).words.length≤100000000000000∧(Km e).kids.length≤100000000000000:=by
 obtain⟨k,o,n,ws,ks,l,os⟩:=e;rw[jq] at h;rw[gU];split
 ·simp
 ·split
  ·simp;omega
  ·split<;>simp
theorem dV {ks:List KE} (hl:ks.length≤1000000) (hk:∀ x,x ∈ ks→G.Spec Tryz.prog 94 [eX x.e] (eX (Km x.e))) {v1 v3:VOb} {W:A}
  (hq:∀ H u st,H [1]=v1→H [3]=v3→H [2]=⟨1,.cells [iv 2,iv 0,.sl true [],.sl true [],iv 0,.sl true [],.sl true [],W,.osl [5] u 12 0 ks.length,iv 0,.sl true []]⟩→H [5]=⟨u,.arr 12 (ks.map (kA ∘ jL))⟩→Q (.exit 1) ⟨lk ([(2,.pob [1] 1 0),(3,.pob [2] 1 0)]++st),H⟩):∀ (m i u:Nat) (H:Hp),i+m=ks.length→H [1]=v1→H [3]=v3→H [2]=⟨1,.cells [iv 2,iv 0,.sl true [],.sl true [],iv 0,.sl true [],.sl true [],W,.osl [5] u 12 0 i,iv 0,.sl true []]⟩→H [5]=⟨u,.arr 12 ((ks.take i).map (kA ∘ jL))⟩ →
  LoopC (cx Tryz.prog w0 I0 n0) E9 Q ⟨lk [(2,.pob [1] 1 0),(3,.pob [2] 1 0),(32,W4 ks),(33,iv ks.length),(34,iv i)],H⟩:=by
 intro m;induction m with
 |zero=>
  intro i u H hm h1 h3 h2 h5;refine Ad mixed E9.eq_1 ?_;have:i=ks.length:=by omega
  subst this;rw[DE (CE _)] at h5;simp;exact hq H u [(32,W4 ks),(33,iv ks.length),(34,iv ks.length),(35,bv false)] h1 h3 h2 h5
 |succ m ih=>
  intro i u H hm h1 h3 h2 h5;have hi:i<ks.length:=by omega
  have ew:=B0 i;have hE:=hk _ (EI hi);have htk:(ks.take (i+1)).map (kA ∘ jL)=(ks.take i).map (kA ∘ jL)++[kA (jL ks[i])]:=by rw[LW hi,List.map_append];rfl
  have next:=ih (i+1) (u+1)
  rw[htk] at next
  generalize hx:ks[i]=x at *;refine Ad mixed E9.eq_1 ?_;simp[hi,hx,Aa,h2];refine Af hE (by simp[Aa]) ?_;simp[Aa,h2,h5,ew];refine⟨⟨by omega,by omega⟩,?_⟩;refine next _ (by omega) (by simp[Aa,h1]) (by simp[Aa,h3]) (by simp[Aa]) ?_
  simp[Aa,List.take_take,jL]
theorem XK:∀ e:E,jq e→G.Spec Tryz.prog 94 [eX e] (eX (Km e)):=by
 refine E.ind fun k o n ws ks l os ihk iho h=>?_;rw[jq] at h;obtain⟨hk,hl,hon,hwl,hkl,hol,hsum,hks,hos⟩:=h;refine Ap Rv (by simp) fun w0 I0=>?_;unfold Lb;rw[gU];rcases hk with rfl | rfl | rfl | rfl
 ·simp[hl (by decide)];exact CK ⟨Ab rfl,Ab rfl,Ae,Ae,Ab rfl,Ae,Ae,Ae,Ae,Ab rfl,Ae,trivial⟩
 ·obtain⟨ho,hn⟩:=hon rfl;simp[hl (by decide)];refine Af (Hj o ho) (by simp) ?_;simp[Aa];refine Af (Hj n hn) (by simp) ?_;simp[Aa];exact CK ⟨Ab rfl,Mw (GQ o).symm,Ab rfl,Ab rfl,Mw (GQ n).symm,Ab rfl,Ab rfl,Ae,Ae,Ab rfl,Ae,trivial⟩
 ·simp[hl (by decide)];refine⟨by omega,?_⟩;refine LoopC.le (CZ (d:=[2]) (u:=1) (cs:=[iv 2,iv 0,.sl true [],.sl true [],iv 0,.sl true [],.sl true [],.osl [3] 1 4 0 ws.length,.sl true [],iv 0,.sl true []]) 8 [5] 12 rfl rfl (by simp)) ?_;refine LoopC.le (Be [(2,.pob [1] 1 0),(3,.pob [2] 1 0),(32,W4 ks),(33,iv ks.length),(34,iv (0:Nat))] (by simp)) ?_;refine dV hkl (fun x hx=>ihk x hx (V6 (hks rfl) x hx)) (W:=.osl [3] 1 4 0 ws.length) (fun H u st h1 h3 h2 h5=>?_) ks.length 0 1 _ (by omega) rfl rfl (by simp[Aa]) (by simp[Aa]);have h3':H [3]=⟨1,.arr 4 (ws.map wA)⟩:=by rw[h3];simp[Aa]
  simp[h2,h1,Aa];have fw:=DT (H:=Ar H [1] ⟨1,.cells [iv 2,iv 0,.sl true [],.sl true [],iv 0,.sl true [],.sl true [],.osl [3] 1 4 0 ws.length,.osl [5] u 12 0 ks.length,iv 0,.sl true []]⟩) (o:=[3]) (u:=1) (sz:=4) (l:=ws) (f:=wA) (n:=ws.length) (by simp[Aa,h3']) rfl (fun x=>rfl);have fk:=DT (H:=Ar H [1] ⟨1,.cells [iv 2,iv 0,.sl true [],.sl true [],iv 0,.sl true [],.sl true [],.osl [3] 1 4 0 ws.length,.osl [5] u 12 0 ks.length,iv 0,.sl true []]⟩) (o:=[5]) (u:=u) (sz:=12) (l:=ks) (f:=kA ∘ jL) (n:=ks.length) (by simp[Aa,h5]) rfl (fun x=>by simp);rw[← List.map_map] at fk;exact CK ⟨Ab rfl,Ab rfl,Ae,Ae,Ab rfl,Ae,Ae,fw,fk,Ab rfl,Ae,trivial⟩
 ·have hO:=VO (list:=l) (os:=os) (fun x hx=>by
   obtain⟨a,b,c⟩:=VJ (hos rfl) x hx;exact⟨a,b,fun h=>⟨iho x hx (c h),fj _ (c h)⟩⟩) hol hsum
  simp;refine Af hO (by simp[Aa]) ?_;simp[Aa];exact CK ⟨Ab rfl,Ab rfl,Ae,Ae,Ab rfl,Ae,Ae,Ae,Ae,Ab rfl,Ae,trivial⟩
end Go.Proofs.YtgkdikddjfgajaaGreatDoor
namespace Go.Proofs.YtgkdikddjfgajaaGreatDoor
set_option maxRecDepth 20000
open Go Go.G Go.Proofs Go.PL Go.RowKit
def MZ (u:T) (b:Bool):T × Int:=if b=false then (T0,13) else if Ay 64 u=false then (T0,3) else (u,0)
theorem Px {e:E} {t u:T} {b:Bool} (ha:G.Spec Tryz.prog 92 [eX e,tX t] (.tup [tX u,bv b])) (hu:b=true→CG u):G.Spec Tryz.prog 56 [eX e,tX t] (.tup [tX (MZ u b).1,iv (MZ u b).2]):=by
 refine Ap XS (by simp) fun w0 I0=>?_;unfold PZ;simp;refine Af ha (by simp) ?_;cases b with
 |false=>
  simp[Aa,MZ];exact BL (by simp;exact⟨CK ⟨Ab rfl,Ae,Ae,trivial⟩,Ab rfl⟩)
 |true=>
  have hw:=hu rfl;simp[Aa];refine Af (E8 hw) (by simp) ?_;cases hr:Ay 64 u with
  |false=>
   simp[Aa,MZ,hr];exact BL (by simp;exact⟨CK ⟨Ab rfl,Ae,Ae,trivial⟩,Ab rfl⟩)
  |true=>
   simp[Aa,MZ,hr];exact Ab rfl
theorem K8 {e:E} (hn:G.Spec Tryz.prog 94 [eX e] (eX (Km e))) (f:Bool):G.Spec Tryz.prog 58 [eX e,.sl f []] (.tup [eX (Km e),.sl false [],iv 0]):=by
 refine Ap Tm (by simp) fun w0 I0=>?_;unfold Mv;simp;refine Ad mixed KV.eq_1 ?_;simp;refine Af hn (by simp) ?_;simp[Aa];exact BL (by simp;exact⟨Ab rfl,Ae,Ab rfl⟩)
theorem cloneE_nil:G.Spec Tryz.prog 59 [.sl false []] (.sl false []):=by
 refine(SO (fun cap=>?_) (fun a cap=>?_)).spec
 ·refine J2 Bi (by simp) fun w0 I0=>?_;unfold AR;simp;exact UN
 ·refine J2 Bi (by simp) fun w0 I0=>?_;unfold AR;simp;exact PS (H:=Dj [([0],⟨1,.arr 11 []⟩)]) (o:=[0]) (u:=1) (off:=0) (len:=0) (sz:=11) (xs:=[]) (by simp) (by simp) (by simp)
theorem Wv (f:Bool):G.Spec Tryz.prog 59 [.sl f []] (.sl false []):=cloneE_nil.soft (by simp[A.softL,A.soft])
theorem Xn {t:T}:SpecK Tryz.prog 50 1 1 (fun ρ=>[.pob [ρ 0] 1 0,iv 0]) (Lm t []) (fun _=>.tup [.sl false [],iv 0]) (Lm t []):=by
 refine Bq Qj (by simp) (by omega) (A3 (B4 (i:=0) (by omega)) (A3 LI EH)) (DR (GR fun x hx=>?_)) (fun i h1 h2 p=>by omega) fun w0 I0 M0 m0 hM=>?_
 ·simp only[List.mem_cons,List.not_mem_nil,or_false] at hx;rcases hx with rfl | rfl<;>simp
 ·unfold JH;simp[Ip,LO];refine Af (Wv _) (by simp) ?_;simp;refine Bf (r0:=.tup [.sl false [],iv 0]) (by simp) rfl fun i hi p=>?_;have:i=0:=by omega
  subst this;by_cases p0:p=[]
  ·subst p0;simp[Ip,LO]
  ·simp[p0,Aa]
theorem ay {P:Program} {f:FuncId} {k:Nat} {x:Fo→A} {F':FamK k} (h1:SpecK P f 0 k (fun _=>[.v (.slice none 0 0)]) FamK.no x F') (h2:∀ a,SpecK P f 0 k (fun _=>[.v (.slice (some a) 0 0)]) FamK.no x F'):SpecK P f 0 k (fun _=>[.sl true []]) FamK.no x F':=by
 refine⟨h1.le,Hz fun y hy=>by simp at hy;subst hy;simp,h1.fx,h1.n,h1.h.1,fun w I M0 n μ vs hN hs hl har=>?_⟩;have h:=har 0 _ rfl;have go:∀ x,vs.getD 0 undef=x→∀ (k:Nat) (y:A),[A.v x][k]? = some y→Rel w I μ y (vs.getD k undef):=fun x hx k y hk=>by
  cases k with
  |zero=>cases hk;rw[hx];exact .v _ _
  |succ k=>simp at hk
 generalize hq:vs.getD 0 undef=v at h;cases h with
 |slN _ _ a cap hc=>
  have:cap=0:=hc rfl;subst this;cases a with
  |none=>exact h1.h.2 w I M0 n μ vs hN hs hl (go _ hq)
  |some a=>exact(h2 a).h.2 w I M0 n μ vs hN hs hl (go _ hq)
 |sl _ _ b off n' cap sz _ g k1 k2 k3 k4=>
  have e1:n'=0:=k2;have e2:cap=0:=k4 rfl;subst e1;subst e2;exact(h2 _).h.2 w I M0 n μ vs hN hs hl (go _ hq)
def row0:FamK 1:=⟨fun _ _ p=>if p=[] then ⟨1,.arr 11 []⟩ else ⟨0,.none⟩,fun t i hi p=>by
  split
  ·simp[VOb.ren,Ob.ren,A.renL]
  ·rfl,fun t i hi p=>by
  split
  ·simp[Ob.refs,A.refsL]
  ·trivial⟩
@[simp] theorem AbP {ρ:Fo} {i:Nat} {p:Nm}:row0.F ρ i p=if p=[] then ⟨1,.arr 11 []⟩ else ⟨0,.none⟩:=rfl
theorem X6:SpecK Tryz.prog 59 0 1 (fun _=>[.sl true []]) FamK.no (fun ρ=>.osl [ρ 0] 1 11 0 0) row0:=by
 have fin:∀ {st:Sta},st.H [0]=⟨1,.arr 11 []⟩→(∀ p,p ≠ []→st.H (0::p)=⟨0,.none⟩)→∀ i,i<1→∀ p,st.H (i::p)=row0.F id i p:=fun {st} h1 h2 i hi p=>by
  have:i=0:=by omega
  subst this;by_cases hp:p=[]
  ·subst hp;simp[h1]
  ·simp[hp,h2 p hp]
 refine ay (Bq Bi (by simp) (by omega) (Hz fun y hy=>by simp at hy;subst hy;simp) (jd (i:=0) (by omega)) (fun i _ _ p=>?_) fun w0 I0 M0 m0 hM=>?_) fun a=>Bq Bi (by simp) (by omega) (Hz fun y hy=>by simp at hy;subst hy;simp) (jd (i:=0) (by omega)) (fun i _ _ p=>?_) fun w0 I0 M0 m0 hM=>?_
 ·simp;split<;>simp
 ·unfold AR;simp;refine DQ (kO (t:=2) (o:=[0]) 11 (by simp) (by simp)) (Bf (r0:=.osl [0] 1 11 0 0) (by simp[upd]) rfl (fin (by simp) fun p hp=>by simp[Aa,hp]))
 ·simp;split<;>simp
 ·unfold AR;simp;exact Bf (r0:=.osl [0] 1 11 0 0) (by simp) rfl (fin (by simp) fun p hp=>by simp[Aa,hp])
theorem gP {w0:World} {I0:Nat→Prop} {M0:Nm→Nat→Prop} {m0:Mu} (hM:∀ (i:Nat) (p:List Nat) (b:Nat),1≤i→¬ M0 (i::p) b) {H:Hp} {s:Nat→A} {u:T} {x:E} (h0:H [0]=⟨1,.cells [iv u.kind,Gn u.words,DY u.kids,.osl [8] 2 11 0 1]⟩) (h8:H [8]=⟨2,.arr 11 [eX x]⟩) (hp:∀ p,p ≠ []→H (0::p)=⟨0,.none⟩) (h6:s 6=iv 1) (h7:s 7=iv 0) :
  HK (HI Tryz.prog w0 I0 M0 79 m0) [.tmp 6,.tmp 7] 1 (.tup [iv 1,iv 0]) (ov 0 ((Lm u [x]).F id 0) (Dj [])) .ret ⟨s,H⟩:=by
 obtain⟨H2,g1,g2⟩:=IE (c:=HI Tryz.prog w0 I0 M0 79 m0) (s:=s) (H:=H) (fun r=>r=8) (fun r p b h=>hM r p b (by omega)) (r0:=0) (p0:=[]) (by omega) h0 (cs':=Ip u [x]) (by simp[Ip,LO,A.ones,A.one,Value.oneCell']) (fun H1 hH1=>
  ⟨Ab rfl,Ab rfl,Ab rfl,DT (o:=[8]) (u:=2) (n:=1) (sz:=11) (l:=[x]) (f:=eX) (by rw[hH1 8 [] rfl,h8];simp) (by simp) (fun x=>by rfl),trivial⟩)
 refine DQ g1 (Bf (k:=1) (r0:=.tup [iv 1,iv 0]) (by simp[FW,h6,h7]) rfl fun i hi p=>?_);have:i=0:=by omega
 subst this;by_cases p0:p=[]
 ·subst p0;simp
 ·have:=g2 0 p (by omega);simp[p0,Aa,this,hp p p0]
set_option maxHeartbeats 4000000 in
theorem Xi {t u:T} {e:E} (hw:Nf e) (hr:Bp 64 e=true) (hn:G.Spec Tryz.prog 94 [eX e] (eX (Km e))) (ha:G.Spec Tryz.prog 92 [eX (Km e),tX t] (.tup [tX u,bv true])) (hu:CG u) (hru:Ay 64 u=true) :
  SpecK Tryz.prog 35 1 1 (fun ρ=>[.pob [ρ 0] 1 0,iv 0,eX e]) (Lm t []) (fun _=>.tup [iv 1,iv 0]) (Lm u [Km e]):=by
 have hd:=Px ha (fun _=>hu);have e1:MZ u true=(u,0):=by simp[MZ,hru]
 rw[e1] at hd;refine Bq Qw (by simp) (by omega) (A3 (B4 (i:=0) (by omega)) (A3 LI (A3 (DR (H8 fun x hx=>?_)) EH))) (DR (GR fun x hx=>?_)) (fun i h1 h2 p=>by omega) fun w0 I0 M0 m0 hM=>?_
 ·simp only[List.mem_cons,List.not_mem_nil,or_false] at hx;rcases hx with rfl | rfl | rfl | rfl | rfl | rfl | rfl | rfl | rfl | rfl | rfl<;>simp
 ·simp only[List.mem_cons,List.not_mem_nil,or_false] at hx;rcases hx with rfl | rfl<;>simp
 ·unfold J7;simp[Ip,LO];refine Bz rfl (fun _=>Gy hw) (fun _=>rfl) (by simp) ?_;simp[hr,Ip,LO];refine Af (K8 hn _) (by simp) ?_;simp[Aa,Ip,LO];refine Af hd (by simp) ?_;simp[Aa,Ip,LO];refine BD [8] X6 (by simp) (fun i hi=>by omega) (fun i _ h2 p=>?_) (by simp) (by simp[List.isPrefixOf]) ?_
  ·have:i=0:=by simp at h2;omega
   subst this;simp[Aa]
  simp[Aa,Ip,LO];refine⟨by simp[List.isPrefixOf],gP hM (by simp) (by simp) (fun p hp=>by simp[Aa,hp]) (by simp) (by simp)⟩
end Go.Proofs.YtgkdikddjfgajaaGreatDoor
namespace Go.Proofs.YtgkdikddjfgajaaGreatDoor
set_option maxRecDepth 20000
open Go Go.G Go.Proofs Go.PL Go.RowKit
set_option maxHeartbeats 4000000 in
theorem W2 {t d u:T} {e:E} (hw:Nf e) (hr:Bp 64 e=true) (hk:(Km e).kind ≠ 0) (hn:G.Spec Tryz.prog 94 [eX e] (eX (Km e))) (ha:G.Spec Tryz.prog 92 [eX (Km e),tX t] (.tup [tX u,bv true])) (hu:CG u) (hru:Ay 64 u=true) :
  SpecK Tryz.prog 39 2 2 (fun ρ=>[.pob [ρ 0] 1 0,.pob [ρ 1] 1 0]) ((K2 d 0 e).app (Lm t [])) (fun _=>iv 0) ((K2 d 1 E0).app (Lm u [Km e])):=by
 refine Bq O6 (by simp) (by omega) (A3 (B4 (i:=0) (by omega)) (A3 (B4 (i:=1) (by omega)) EH)) LI (fun i h1 h2 p=>by omega) fun w0 I0 M0 m0 hM=>?_
 ·unfold Jr;simp[Bg,A9,EM];refine BD [1] (Xn (t:=t)) (by simp) (fun i hi p=>?_) (fun i h1 h2=>by simp at h2;omega) (by simp) (by simp[List.isPrefixOf]) ?_
  ·have:i=0:=by omega
   subst this;simp[A9]
  simp[Bg,A9,EM];refine Af (K8 hn _) (by simp) ?_;simp[Aa,Bg,A9,EM];refine Ad mixed Ir.eq_1 ?_;simp[Aa,Bg,A9,EM,hk];refine BD [1] (Xi hw hr hn ha hu hru) (by simp) (fun i hi p=>?_) (fun i h1 h2=>by simp at h2;omega) (by simp) (by simp[List.isPrefixOf]) ?_
  ·have:i=0:=by omega
   subst this;simp[A9]
  simp[Aa,Bg,A9,EM];refine DQ (Uq (d:=[0]) (u:=1) (cs:=[iv d.kind,Gn d.words,DY d.kids,iv 1,iv 0,iv 0,.sl true [],.sl true [],iv 0,.sl true [],.sl true [],.sl true [],.sl true [],iv 0,.sl true []]) (by simp)) (Bf (k:=2) (r0:=iv 0) (by simp) rfl fun i hi p=>?_);have:i=0∨i=1:=by omega
  rcases this with rfl | rfl
  ·rw[Bg (by omega)];by_cases p0:p=[]
   ·subst p0;simp[EM,A.softL,A.soft,IU,JW]
   ·simp[p0,Aa,Bg]
  ·rw[A9 (by omega)];by_cases p0:p=[]
   ·subst p0;simp
   ·simp[p0,Aa]
end Go.Proofs.YtgkdikddjfgajaaGreatDoor
namespace Go.Proofs
open Go.Shelf
def Tryz.lays156_ren:Go.Shelf.Ren:=⟨fun | 156=>67 | 165=>104 | 166=>8 | 169=>10 | 240=>14 | 241=>143 | 276=>28 | 277=>198 | n=>n,fun | 31=>51 | 9=>9 | 3=>3 | 4=>4 | 0=>0 | 20=>20 | 72=>39 | 76=>45 | 70=>36 | 37=>37 | 75=>44 | 127=>61 | 164=>80 | 5=>5 | 80=>47 | n=>n,fun | n=>n⟩
theorem Tryz.lays156:Go.Proofs.Lays.n156 Tryz.prog Tryz.lays156_ren:={
 mixed:=by kernel_rfl
 f156:=Tryz.func67.trans (congrArg some (by kernel_rfl))
 f165:=Tryz.func104.trans (congrArg some (by kernel_rfl))
 f166:=Tryz.func8.trans (congrArg some (by kernel_rfl))
 f169:=Tryz.func10.trans (congrArg some (by kernel_rfl))
 f240:=Tryz.func14.trans (congrArg some (by kernel_rfl))
 f241:=Tryz.func143.trans (congrArg some (by kernel_rfl))
 f276:=Tryz.func28.trans (congrArg some (by kernel_rfl))
 f277:=Tryz.func198.trans (congrArg some (by kernel_rfl))
 t0:=Tryz.underlying0
 a0:=Tryz.isAgg0
 z0:=Tryz.sizeOf0
 v0:=Tryz.zeroValue0
 t3:=Tryz.underlying3
 a3:=Tryz.isAgg3
 z3:=Tryz.sizeOf3
 v3:=Tryz.zeroValue3
 t4:=Tryz.underlying4
 a4:=Tryz.isAgg4
 z4:=Tryz.sizeOf4
 v4:=Tryz.zeroValue4
 t9:=Tryz.underlying9
 a9:=Tryz.isAgg9
 z9:=Tryz.sizeOf9
 v9:=Tryz.zeroValue9
 t20:=Tryz.underlying20
 a20:=Tryz.isAgg20
 z20:=Tryz.sizeOf20
 v20:=Tryz.zeroValue20
 t31:=Tryz.underlying51
 a31:=Tryz.isAgg51
 z31:=Tryz.sizeOf51
 v31:=Tryz.zeroValue51
 t37:=Tryz.underlying37
 a37:=Tryz.isAgg37
 z37:=Tryz.sizeOf37
 v37:=Tryz.zeroValue37
 t70:=Tryz.underlying36
 a70:=Tryz.isAgg36
 z70:=Tryz.sizeOf36
 v70:=Tryz.zeroValue36
 t72:=Tryz.underlying39
 a72:=Tryz.isAgg39
 z72:=Tryz.sizeOf39
 v72:=Tryz.zeroValue39
 t75:=Tryz.underlying44
 a75:=Tryz.isAgg44
 z75:=Tryz.sizeOf44
 v75:=Tryz.zeroValue44
 t76:=Tryz.underlying45
 a76:=Tryz.isAgg45
 z76:=Tryz.sizeOf45
 v76:=Tryz.zeroValue45
 t127:=Tryz.underlying61
 a127:=Tryz.isAgg61
 z127:=Tryz.sizeOf61
 v127:=Tryz.zeroValue61
 t164:=Tryz.underlying80
 a164:=Tryz.isAgg80
 z164:=Tryz.sizeOf80
 v164:=Tryz.zeroValue80 }
theorem Tryz.Builder_Extra_156:Builder.Extra Tryz.prog Tryz.lays156_ren:={
 sizeBuilder:=by kernel_rfl
 liesBuilder:=by kernel_rfl
 t5:=Tryz.underlying5
 a5:=Tryz.isAgg5
 z5:=Tryz.sizeOf5
 v5:=Tryz.zeroValue5
 infoByte:=by kernel_rfl
 cellsByte:=by kernel_rfl
 sizeByte:=by kernel_rfl
 neB5:=by decide }
def Tryz.laysM171_ren:Go.Shelf.Ren:=⟨fun | 171=>31 | 243=>49 | 246=>81 | 283=>109 | 284=>110 | 285=>111 | 286=>112 | 129=>146 | 317=>145 | 318=>147 | 319=>148 | 320=>149 | 337=>199 | 338=>200 | n=>n,fun | 3=>3 | 9=>9 | 2=>2 | 4=>4 | 171=>184 | 0=>0 | 53=>101 | 37=>37 | 5=>5 | 173=>187 | 212=>229 | 51=>181 | 20=>20 | 213=>230 | 46=>137 | 232=>312 | 233=>313 | n=>n,fun | 17=>5 | 18=>6 | 19=>7 | n=>n⟩
theorem Tryz.laysM171:Go.Proofs.LaysM.n171 Tryz.prog Tryz.laysM171_ren:={
 mixed:=by kernel_rfl
 f129:=Tryz.func146.trans (congrArg some (by kernel_rfl))
 f171:=Tryz.func31.trans (congrArg some (by kernel_rfl))
 f243:=Tryz.func49.trans (congrArg some (by kernel_rfl))
 f246:=Tryz.func81.trans (congrArg some (by kernel_rfl))
 f283:=Tryz.func109.trans (congrArg some (by kernel_rfl))
 f284:=Tryz.func110.trans (congrArg some (by kernel_rfl))
 f285:=Tryz.func111.trans (congrArg some (by kernel_rfl))
 f286:=Tryz.func112.trans (congrArg some (by kernel_rfl))
 f317:=Tryz.func145.trans (congrArg some (by kernel_rfl))
 f318:=Tryz.func147.trans (congrArg some (by kernel_rfl))
 f319:=Tryz.func148.trans (congrArg some (by kernel_rfl))
 f320:=Tryz.func149.trans (congrArg some (by kernel_rfl))
 f337:=Tryz.func199.trans (congrArg some (by kernel_rfl))
 f338:=Tryz.func200.trans (congrArg some (by kernel_rfl))
 t0:=Tryz.underlying0
 a0:=Tryz.isAgg0
 z0:=Tryz.sizeOf0
 v0:=Tryz.zeroValue0
 t2:=Tryz.underlying2
 a2:=Tryz.isAgg2
 z2:=Tryz.sizeOf2
 v2:=Tryz.zeroValue2
 t3:=Tryz.underlying3
 a3:=Tryz.isAgg3
 z3:=Tryz.sizeOf3
 v3:=Tryz.zeroValue3
 t4:=Tryz.underlying4
 a4:=Tryz.isAgg4
 z4:=Tryz.sizeOf4
 v4:=Tryz.zeroValue4
 t5:=Tryz.underlying5
 a5:=Tryz.isAgg5
 z5:=Tryz.sizeOf5
 v5:=Tryz.zeroValue5
 t9:=Tryz.underlying9
 a9:=Tryz.isAgg9
 z9:=Tryz.sizeOf9
 v9:=Tryz.zeroValue9
 t20:=Tryz.underlying20
 a20:=Tryz.isAgg20
 z20:=Tryz.sizeOf20
 v20:=Tryz.zeroValue20
 t37:=Tryz.underlying37
 a37:=Tryz.isAgg37
 z37:=Tryz.sizeOf37
 v37:=Tryz.zeroValue37
 t46:=Tryz.underlying137
 a46:=Tryz.isAgg137
 z46:=Tryz.sizeOf137
 v46:=Tryz.zeroValue137
 t51:=Tryz.underlying181
 a51:=Tryz.isAgg181
 z51:=Tryz.sizeOf181
 v51:=Tryz.zeroValue181
 t53:=Tryz.underlying101
 a53:=Tryz.isAgg101
 z53:=Tryz.sizeOf101
 v53:=Tryz.zeroValue101
 t171:=Tryz.underlying184
 a171:=Tryz.isAgg184
 z171:=Tryz.sizeOf184
 v171:=Tryz.zeroValue184
 t173:=Tryz.underlying187
 a173:=Tryz.isAgg187
 z173:=Tryz.sizeOf187
 v173:=Tryz.zeroValue187
 t212:=Tryz.underlying229
 a212:=Tryz.isAgg229
 z212:=Tryz.sizeOf229
 v212:=Tryz.zeroValue229
 t213:=Tryz.underlying230
 a213:=Tryz.isAgg230
 z213:=Tryz.sizeOf230
 t232:=Tryz.underlying312
 a232:=Tryz.isAgg312
 z232:=Tryz.sizeOf312
 v232:=Tryz.zeroValue312
 t233:=Tryz.underlying313
 a233:=Tryz.isAgg313
 z233:=Tryz.sizeOf313
 v233:=Tryz.zeroValue313
 g17:=by kernel_rfl
 g18:=by kernel_rfl
 g19:=by kernel_rfl
 i0:=by kernel_rfl
 i2:=by kernel_rfl
 i3:=by kernel_rfl
 i4:=by kernel_rfl
 i5:=by kernel_rfl
 i9:=by kernel_rfl
 i20:=by kernel_rfl
 i37:=by kernel_rfl
 i46:=by kernel_rfl
 i51:=by kernel_rfl
 i53:=by kernel_rfl
 i171:=by kernel_rfl
 i173:=by kernel_rfl
 i212:=by kernel_rfl
 i232:=by kernel_rfl
 i233:=by kernel_rfl
 m17:=by kernel_rfl
 m18:=by kernel_rfl
 m19:=by kernel_rfl }
def Tryz.laysC172_ren:Go.Shelf.Ren:=⟨fun | 172=>37 | 244=>65 | 245=>66 | 247=>99 | 279=>100 | 280=>101 | 281=>102 | 282=>103 | 287=>140 | 316=>141 | 171=>31 | 205=>142 | 321=>196 | 322=>197 | 243=>49 | 246=>81 | 283=>109 | 284=>110 | 285=>111 | 286=>112 | 129=>146 | 317=>145 | 318=>147 | 319=>148 | 320=>149 | 337=>199 | 338=>200 | n=>n,fun | 9=>9 | 3=>3 | 75=>44 | 76=>45 | 4=>4 | 5=>5 | 167=>173 | 37=>37 | 0=>0 | 85=>174 | 2=>2 | 168=>176 | 53=>101 | 175=>222 | 46=>137 | 210=>225 | 127=>61 | 145=>277 | 143=>275 | 21=>21 | 171=>184 | 173=>187 | 212=>229 | 51=>181 | 20=>20 | 213=>230 | 232=>312 | 233=>313 | 80=>47 | n=>n,fun | 15=>3 | 16=>4 | 17=>5 | 18=>6 | 19=>7 | n=>n⟩
theorem Tryz.laysC172:Go.Proofs.LaysC.n172 Tryz.prog Tryz.laysC172_ren:={
 mixed:=by kernel_rfl
 f129:=Tryz.func146.trans (congrArg some (by kernel_rfl))
 f171:=Tryz.func31.trans (congrArg some (by kernel_rfl))
 f172:=Tryz.func37.trans (congrArg some (by kernel_rfl))
 f205:=Tryz.func142.trans (congrArg some (by kernel_rfl))
 f243:=Tryz.func49.trans (congrArg some (by kernel_rfl))
 f244:=Tryz.func65.trans (congrArg some (by kernel_rfl))
 f245:=Tryz.func66.trans (congrArg some (by kernel_rfl))
 f246:=Tryz.func81.trans (congrArg some (by kernel_rfl))
 f247:=Tryz.func99.trans (congrArg some (by kernel_rfl))
 f279:=Tryz.func100.trans (congrArg some (by kernel_rfl))
 f280:=Tryz.func101.trans (congrArg some (by kernel_rfl))
 f281:=Tryz.func102.trans (congrArg some (by kernel_rfl))
 f282:=Tryz.func103.trans (congrArg some (by kernel_rfl))
 f283:=Tryz.func109.trans (congrArg some (by kernel_rfl))
 f284:=Tryz.func110.trans (congrArg some (by kernel_rfl))
 f285:=Tryz.func111.trans (congrArg some (by kernel_rfl))
 f286:=Tryz.func112.trans (congrArg some (by kernel_rfl))
 f287:=Tryz.func140.trans (congrArg some (by kernel_rfl))
 f316:=Tryz.func141.trans (congrArg some (by kernel_rfl))
 f317:=Tryz.func145.trans (congrArg some (by kernel_rfl))
 f318:=Tryz.func147.trans (congrArg some (by kernel_rfl))
 f319:=Tryz.func148.trans (congrArg some (by kernel_rfl))
 f320:=Tryz.func149.trans (congrArg some (by kernel_rfl))
 f321:=Tryz.func196.trans (congrArg some (by kernel_rfl))
 f322:=Tryz.func197.trans (congrArg some (by kernel_rfl))
 f337:=Tryz.func199.trans (congrArg some (by kernel_rfl))
 f338:=Tryz.func200.trans (congrArg some (by kernel_rfl))
 t0:=Tryz.underlying0
 a0:=Tryz.isAgg0
 z0:=Tryz.sizeOf0
 v0:=Tryz.zeroValue0
 t2:=Tryz.underlying2
 a2:=Tryz.isAgg2
 z2:=Tryz.sizeOf2
 v2:=Tryz.zeroValue2
 t3:=Tryz.underlying3
 a3:=Tryz.isAgg3
 z3:=Tryz.sizeOf3
 v3:=Tryz.zeroValue3
 t4:=Tryz.underlying4
 a4:=Tryz.isAgg4
 z4:=Tryz.sizeOf4
 v4:=Tryz.zeroValue4
 t5:=Tryz.underlying5
 a5:=Tryz.isAgg5
 z5:=Tryz.sizeOf5
 v5:=Tryz.zeroValue5
 t9:=Tryz.underlying9
 a9:=Tryz.isAgg9
 z9:=Tryz.sizeOf9
 v9:=Tryz.zeroValue9
 t20:=Tryz.underlying20
 a20:=Tryz.isAgg20
 z20:=Tryz.sizeOf20
 v20:=Tryz.zeroValue20
 t21:=Tryz.underlying21
 a21:=Tryz.isAgg21
 z21:=Tryz.sizeOf21
 v21:=Tryz.zeroValue21
 t37:=Tryz.underlying37
 a37:=Tryz.isAgg37
 z37:=Tryz.sizeOf37
 v37:=Tryz.zeroValue37
 t46:=Tryz.underlying137
 a46:=Tryz.isAgg137
 z46:=Tryz.sizeOf137
 v46:=Tryz.zeroValue137
 t51:=Tryz.underlying181
 a51:=Tryz.isAgg181
 z51:=Tryz.sizeOf181
 v51:=Tryz.zeroValue181
 t53:=Tryz.underlying101
 a53:=Tryz.isAgg101
 z53:=Tryz.sizeOf101
 v53:=Tryz.zeroValue101
 t75:=Tryz.underlying44
 a75:=Tryz.isAgg44
 z75:=Tryz.sizeOf44
 v75:=Tryz.zeroValue44
 t76:=Tryz.underlying45
 a76:=Tryz.isAgg45
 z76:=Tryz.sizeOf45
 v76:=Tryz.zeroValue45
 t85:=Tryz.underlying174
 a85:=Tryz.isAgg174
 z85:=Tryz.sizeOf174
 v85:=Tryz.zeroValue174
 t127:=Tryz.underlying61
 a127:=Tryz.isAgg61
 z127:=Tryz.sizeOf61
 v127:=Tryz.zeroValue61
 t143:=Tryz.underlying275
 a143:=Tryz.isAgg275
 z143:=Tryz.sizeOf275
 v143:=Tryz.zeroValue275
 t145:=Tryz.underlying277
 a145:=Tryz.isAgg277
 z145:=Tryz.sizeOf277
 v145:=Tryz.zeroValue277
 t167:=Tryz.underlying173
 a167:=Tryz.isAgg173
 z167:=Tryz.sizeOf173
 v167:=Tryz.zeroValue173
 t168:=Tryz.underlying176
 a168:=Tryz.isAgg176
 z168:=Tryz.sizeOf176
 v168:=Tryz.zeroValue176
 t171:=Tryz.underlying184
 a171:=Tryz.isAgg184
 z171:=Tryz.sizeOf184
 v171:=Tryz.zeroValue184
 t173:=Tryz.underlying187
 a173:=Tryz.isAgg187
 z173:=Tryz.sizeOf187
 v173:=Tryz.zeroValue187
 t175:=Tryz.underlying222
 a175:=Tryz.isAgg222
 z175:=Tryz.sizeOf222
 v175:=Tryz.zeroValue222
 t210:=Tryz.underlying225
 a210:=Tryz.isAgg225
 z210:=Tryz.sizeOf225
 v210:=Tryz.zeroValue225
 t212:=Tryz.underlying229
 a212:=Tryz.isAgg229
 z212:=Tryz.sizeOf229
 v212:=Tryz.zeroValue229
 t213:=Tryz.underlying230
 a213:=Tryz.isAgg230
 z213:=Tryz.sizeOf230
 t232:=Tryz.underlying312
 a232:=Tryz.isAgg312
 z232:=Tryz.sizeOf312
 v232:=Tryz.zeroValue312
 t233:=Tryz.underlying313
 a233:=Tryz.isAgg313
 z233:=Tryz.sizeOf313
 v233:=Tryz.zeroValue313
 g15:=by kernel_rfl
 g16:=by kernel_rfl
 g17:=by kernel_rfl
 g18:=by kernel_rfl
 g19:=by kernel_rfl
 t80:=Tryz.underlying47
 a80:=Tryz.isAgg47
 z80:=Tryz.sizeOf47
 v80:=Tryz.zeroValue47
 i0:=by kernel_rfl
 i2:=by kernel_rfl
 i3:=by kernel_rfl
 i4:=by kernel_rfl
 i5:=by kernel_rfl
 i9:=by kernel_rfl
 i20:=by kernel_rfl
 i21:=by kernel_rfl
 i37:=by kernel_rfl
 i46:=by kernel_rfl
 i51:=by kernel_rfl
 i53:=by kernel_rfl
 i75:=by kernel_rfl
 i76:=by kernel_rfl
 i80:=by kernel_rfl
 i85:=by kernel_rfl
 i127:=by kernel_rfl
 i143:=by kernel_rfl
 i145:=by kernel_rfl
 i167:=by kernel_rfl
 i168:=by kernel_rfl
 i171:=by kernel_rfl
 i173:=by kernel_rfl
 i175:=by kernel_rfl
 i210:=by kernel_rfl
 i212:=by kernel_rfl
 i232:=by kernel_rfl
 i233:=by kernel_rfl
 m15:=by kernel_rfl
 m16:=by kernel_rfl
 m17:=by kernel_rfl
 m18:=by kernel_rfl
 m19:=by kernel_rfl
 c0:=by kernel_rfl
 c2:=by kernel_rfl
 c3:=by kernel_rfl
 c4:=by kernel_rfl
 c5:=by kernel_rfl
 c9:=by kernel_rfl
 c20:=by kernel_rfl
 c21:=by kernel_rfl
 c37:=by kernel_rfl
 c46:=by kernel_rfl
 c51:=by kernel_rfl
 c53:=by kernel_rfl
 c75:=by kernel_rfl
 c76:=by kernel_rfl
 c80:=by kernel_rfl
 c85:=by kernel_rfl
 c127:=by kernel_rfl
 c143:=by kernel_rfl
 c145:=by kernel_rfl
 c167:=by kernel_rfl
 c168:=by kernel_rfl
 c171:=by kernel_rfl
 c173:=by kernel_rfl
 c175:=by kernel_rfl
 c210:=by kernel_rfl
 c212:=by kernel_rfl
 c213:=by kernel_rfl
 c232:=by kernel_rfl
 c233:=by kernel_rfl }
def Tryz.lays143_ren:Go.Shelf.Ren:=⟨fun | 143=>27 | 219=>45 | 217=>72 | 225=>73 | 224=>74 | 267=>75 | 266=>106 | 314=>107 | n=>n,fun | 9=>9 | 3=>3 | 4=>4 | 5=>5 | 46=>137 | 146=>182 | 51=>181 | n=>n,fun | 1=>2 | n=>n⟩
theorem Tryz.lays143:Go.Proofs.Lays.n143 Tryz.prog Tryz.lays143_ren:={
 mixed:=by kernel_rfl
 f143:=Tryz.func27.trans (congrArg some (by kernel_rfl))
 f217:=Tryz.func72.trans (congrArg some (by kernel_rfl))
 f219:=Tryz.func45.trans (congrArg some (by kernel_rfl))
 f224:=Tryz.func74.trans (congrArg some (by kernel_rfl))
 f225:=Tryz.func73.trans (congrArg some (by kernel_rfl))
 f266:=Tryz.func106.trans (congrArg some (by kernel_rfl))
 f267:=Tryz.func75.trans (congrArg some (by kernel_rfl))
 f314:=Tryz.func107.trans (congrArg some (by kernel_rfl))
 t3:=Tryz.underlying3
 a3:=Tryz.isAgg3
 z3:=Tryz.sizeOf3
 v3:=Tryz.zeroValue3
 t4:=Tryz.underlying4
 a4:=Tryz.isAgg4
 z4:=Tryz.sizeOf4
 v4:=Tryz.zeroValue4
 t5:=Tryz.underlying5
 a5:=Tryz.isAgg5
 z5:=Tryz.sizeOf5
 v5:=Tryz.zeroValue5
 t9:=Tryz.underlying9
 a9:=Tryz.isAgg9
 z9:=Tryz.sizeOf9
 v9:=Tryz.zeroValue9
 t46:=Tryz.underlying137
 a46:=Tryz.isAgg137
 z46:=Tryz.sizeOf137
 v46:=Tryz.zeroValue137
 t51:=Tryz.underlying181
 a51:=Tryz.isAgg181
 z51:=Tryz.sizeOf181
 v51:=Tryz.zeroValue181
 t146:=Tryz.underlying182
 a146:=Tryz.isAgg182
 z146:=Tryz.sizeOf182
 v146:=Tryz.zeroValue182
 g1:=by kernel_rfl }
def Tryz.lays138_ren:Go.Shelf.Ren:=⟨fun | 138=>47 | 195=>76 | 218=>77 | 143=>27 | 219=>45 | 217=>72 | 225=>73 | 224=>74 | 267=>75 | 266=>106 | 314=>107 | n=>n,fun | 9=>9 | 3=>3 | 4=>4 | 5=>5 | 0=>0 | 46=>137 | 146=>182 | 51=>181 | n=>n,fun | 1=>2 | n=>n⟩
theorem Tryz.lays138:Go.Proofs.Lays.n138 Tryz.prog Tryz.lays138_ren:={
 mixed:=by kernel_rfl
 f138:=Tryz.func47.trans (congrArg some (by kernel_rfl))
 f143:=Tryz.func27.trans (congrArg some (by kernel_rfl))
 f195:=Tryz.func76.trans (congrArg some (by kernel_rfl))
 f217:=Tryz.func72.trans (congrArg some (by kernel_rfl))
 f218:=Tryz.func77.trans (congrArg some (by kernel_rfl))
 f219:=Tryz.func45.trans (congrArg some (by kernel_rfl))
 f224:=Tryz.func74.trans (congrArg some (by kernel_rfl))
 f225:=Tryz.func73.trans (congrArg some (by kernel_rfl))
 f266:=Tryz.func106.trans (congrArg some (by kernel_rfl))
 f267:=Tryz.func75.trans (congrArg some (by kernel_rfl))
 f314:=Tryz.func107.trans (congrArg some (by kernel_rfl))
 t0:=Tryz.underlying0
 a0:=Tryz.isAgg0
 z0:=Tryz.sizeOf0
 v0:=Tryz.zeroValue0
 t3:=Tryz.underlying3
 a3:=Tryz.isAgg3
 z3:=Tryz.sizeOf3
 v3:=Tryz.zeroValue3
 t4:=Tryz.underlying4
 a4:=Tryz.isAgg4
 z4:=Tryz.sizeOf4
 v4:=Tryz.zeroValue4
 t5:=Tryz.underlying5
 a5:=Tryz.isAgg5
 z5:=Tryz.sizeOf5
 v5:=Tryz.zeroValue5
 t9:=Tryz.underlying9
 a9:=Tryz.isAgg9
 z9:=Tryz.sizeOf9
 v9:=Tryz.zeroValue9
 t46:=Tryz.underlying137
 a46:=Tryz.isAgg137
 z46:=Tryz.sizeOf137
 v46:=Tryz.zeroValue137
 t51:=Tryz.underlying181
 a51:=Tryz.isAgg181
 z51:=Tryz.sizeOf181
 v51:=Tryz.zeroValue181
 t146:=Tryz.underlying182
 a146:=Tryz.isAgg182
 z146:=Tryz.sizeOf182
 v146:=Tryz.zeroValue182
 g1:=by kernel_rfl }
def Tryz.lays221_ren:Go.Shelf.Ren:=⟨fun | 221=>29 | 268=>46 | 138=>47 | 143=>27 | 195=>76 | 197=>26 | 218=>77 | 219=>45 | 260=>44 | 217=>72 | 225=>73 | 224=>74 | 267=>75 | 266=>106 | 314=>107 | n=>n,fun | 9=>9 | 3=>3 | 31=>51 | 4=>4 | 0=>0 | 105=>77 | 21=>21 | 5=>5 | 46=>137 | 119=>136 | 139=>140 | 138=>139 | 146=>182 | 51=>181 | n=>n,fun | 1=>2 | 3=>0 | 4=>1 | n=>n⟩
theorem Tryz.lays221:Go.Proofs.Lays.n221 Tryz.prog Tryz.lays221_ren:={
 mixed:=by kernel_rfl
 f138:=Tryz.func47.trans (congrArg some (by kernel_rfl))
 f143:=Tryz.func27.trans (congrArg some (by kernel_rfl))
 f195:=Tryz.func76.trans (congrArg some (by kernel_rfl))
 f197:=Tryz.func26.trans (congrArg some (by kernel_rfl))
 f217:=Tryz.func72.trans (congrArg some (by kernel_rfl))
 f218:=Tryz.func77.trans (congrArg some (by kernel_rfl))
 f219:=Tryz.func45.trans (congrArg some (by kernel_rfl))
 f221:=Tryz.func29.trans (congrArg some (by kernel_rfl))
 f224:=Tryz.func74.trans (congrArg some (by kernel_rfl))
 f225:=Tryz.func73.trans (congrArg some (by kernel_rfl))
 f260:=Tryz.func44.trans (congrArg some (by kernel_rfl))
 f266:=Tryz.func106.trans (congrArg some (by kernel_rfl))
 f267:=Tryz.func75.trans (congrArg some (by kernel_rfl))
 f268:=Tryz.func46.trans (congrArg some (by kernel_rfl))
 f314:=Tryz.func107.trans (congrArg some (by kernel_rfl))
 t0:=Tryz.underlying0
 a0:=Tryz.isAgg0
 z0:=Tryz.sizeOf0
 v0:=Tryz.zeroValue0
 t3:=Tryz.underlying3
 a3:=Tryz.isAgg3
 z3:=Tryz.sizeOf3
 v3:=Tryz.zeroValue3
 t4:=Tryz.underlying4
 a4:=Tryz.isAgg4
 z4:=Tryz.sizeOf4
 v4:=Tryz.zeroValue4
 t5:=Tryz.underlying5
 a5:=Tryz.isAgg5
 z5:=Tryz.sizeOf5
 v5:=Tryz.zeroValue5
 t9:=Tryz.underlying9
 a9:=Tryz.isAgg9
 z9:=Tryz.sizeOf9
 v9:=Tryz.zeroValue9
 t21:=Tryz.underlying21
 a21:=Tryz.isAgg21
 z21:=Tryz.sizeOf21
 v21:=Tryz.zeroValue21
 t31:=Tryz.underlying51
 a31:=Tryz.isAgg51
 z31:=Tryz.sizeOf51
 v31:=Tryz.zeroValue51
 t46:=Tryz.underlying137
 a46:=Tryz.isAgg137
 z46:=Tryz.sizeOf137
 v46:=Tryz.zeroValue137
 t51:=Tryz.underlying181
 a51:=Tryz.isAgg181
 z51:=Tryz.sizeOf181
 v51:=Tryz.zeroValue181
 t105:=Tryz.underlying77
 a105:=Tryz.isAgg77
 z105:=Tryz.sizeOf77
 v105:=Tryz.zeroValue77
 t119:=Tryz.underlying136
 a119:=Tryz.isAgg136
 z119:=Tryz.sizeOf136
 t138:=Tryz.underlying139
 a138:=Tryz.isAgg139
 z138:=Tryz.sizeOf139
 v138:=Tryz.zeroValue139
 t139:=Tryz.underlying140
 a139:=Tryz.isAgg140
 z139:=Tryz.sizeOf140
 v139:=Tryz.zeroValue140
 t146:=Tryz.underlying182
 a146:=Tryz.isAgg182
 z146:=Tryz.sizeOf182
 v146:=Tryz.zeroValue182
 g1:=by kernel_rfl
 g3:=by kernel_rfl
 g4:=by kernel_rfl }
def Tryz.laysC245_ren:Go.Shelf.Ren:=⟨fun | 245=>66 | 279=>100 | 280=>101 | 281=>102 | 282=>103 | 316=>141 | 171=>31 | 205=>142 | 243=>49 | 246=>81 | 283=>109 | 284=>110 | 285=>111 | 286=>112 | 129=>146 | 317=>145 | 318=>147 | 319=>148 | 320=>149 | 337=>199 | 338=>200 | n=>n,fun | 9=>9 | 3=>3 | 75=>44 | 167=>173 | 4=>4 | 168=>176 | 210=>225 | 37=>37 | 0=>0 | 127=>61 | 145=>277 | 143=>275 | 2=>2 | 171=>184 | 53=>101 | 5=>5 | 173=>187 | 212=>229 | 51=>181 | 20=>20 | 213=>230 | 46=>137 | 232=>312 | 233=>313 | 80=>47 | n=>n,fun | 15=>3 | 16=>4 | 17=>5 | 18=>6 | 19=>7 | n=>n⟩
theorem Tryz.laysC245:Go.Proofs.LaysC.n245 Tryz.prog Tryz.laysC245_ren:={
 mixed:=by kernel_rfl
 f129:=Tryz.func146.trans (congrArg some (by kernel_rfl))
 f171:=Tryz.func31.trans (congrArg some (by kernel_rfl))
 f205:=Tryz.func142.trans (congrArg some (by kernel_rfl))
 f243:=Tryz.func49.trans (congrArg some (by kernel_rfl))
 f245:=Tryz.func66.trans (congrArg some (by kernel_rfl))
 f246:=Tryz.func81.trans (congrArg some (by kernel_rfl))
 f279:=Tryz.func100.trans (congrArg some (by kernel_rfl))
 f280:=Tryz.func101.trans (congrArg some (by kernel_rfl))
 f281:=Tryz.func102.trans (congrArg some (by kernel_rfl))
 f282:=Tryz.func103.trans (congrArg some (by kernel_rfl))
 f283:=Tryz.func109.trans (congrArg some (by kernel_rfl))
 f284:=Tryz.func110.trans (congrArg some (by kernel_rfl))
 f285:=Tryz.func111.trans (congrArg some (by kernel_rfl))
 f286:=Tryz.func112.trans (congrArg some (by kernel_rfl))
 f316:=Tryz.func141.trans (congrArg some (by kernel_rfl))
 f317:=Tryz.func145.trans (congrArg some (by kernel_rfl))
 f318:=Tryz.func147.trans (congrArg some (by kernel_rfl))
 f319:=Tryz.func148.trans (congrArg some (by kernel_rfl))
 f320:=Tryz.func149.trans (congrArg some (by kernel_rfl))
 f337:=Tryz.func199.trans (congrArg some (by kernel_rfl))
 f338:=Tryz.func200.trans (congrArg some (by kernel_rfl))
 t0:=Tryz.underlying0
 a0:=Tryz.isAgg0
 z0:=Tryz.sizeOf0
 v0:=Tryz.zeroValue0
 t2:=Tryz.underlying2
 a2:=Tryz.isAgg2
 z2:=Tryz.sizeOf2
 v2:=Tryz.zeroValue2
 t3:=Tryz.underlying3
 a3:=Tryz.isAgg3
 z3:=Tryz.sizeOf3
 v3:=Tryz.zeroValue3
 t4:=Tryz.underlying4
 a4:=Tryz.isAgg4
 z4:=Tryz.sizeOf4
 v4:=Tryz.zeroValue4
 t5:=Tryz.underlying5
 a5:=Tryz.isAgg5
 z5:=Tryz.sizeOf5
 v5:=Tryz.zeroValue5
 t9:=Tryz.underlying9
 a9:=Tryz.isAgg9
 z9:=Tryz.sizeOf9
 v9:=Tryz.zeroValue9
 t20:=Tryz.underlying20
 a20:=Tryz.isAgg20
 z20:=Tryz.sizeOf20
 v20:=Tryz.zeroValue20
 t37:=Tryz.underlying37
 a37:=Tryz.isAgg37
 z37:=Tryz.sizeOf37
 v37:=Tryz.zeroValue37
 t46:=Tryz.underlying137
 a46:=Tryz.isAgg137
 z46:=Tryz.sizeOf137
 v46:=Tryz.zeroValue137
 t51:=Tryz.underlying181
 a51:=Tryz.isAgg181
 z51:=Tryz.sizeOf181
 v51:=Tryz.zeroValue181
 t53:=Tryz.underlying101
 a53:=Tryz.isAgg101
 z53:=Tryz.sizeOf101
 v53:=Tryz.zeroValue101
 t75:=Tryz.underlying44
 a75:=Tryz.isAgg44
 z75:=Tryz.sizeOf44
 v75:=Tryz.zeroValue44
 t127:=Tryz.underlying61
 a127:=Tryz.isAgg61
 z127:=Tryz.sizeOf61
 v127:=Tryz.zeroValue61
 t143:=Tryz.underlying275
 a143:=Tryz.isAgg275
 z143:=Tryz.sizeOf275
 v143:=Tryz.zeroValue275
 t145:=Tryz.underlying277
 a145:=Tryz.isAgg277
 z145:=Tryz.sizeOf277
 v145:=Tryz.zeroValue277
 t167:=Tryz.underlying173
 a167:=Tryz.isAgg173
 z167:=Tryz.sizeOf173
 v167:=Tryz.zeroValue173
 t168:=Tryz.underlying176
 a168:=Tryz.isAgg176
 z168:=Tryz.sizeOf176
 v168:=Tryz.zeroValue176
 t171:=Tryz.underlying184
 a171:=Tryz.isAgg184
 z171:=Tryz.sizeOf184
 v171:=Tryz.zeroValue184
 t173:=Tryz.underlying187
 a173:=Tryz.isAgg187
 z173:=Tryz.sizeOf187
 v173:=Tryz.zeroValue187
 t210:=Tryz.underlying225
 a210:=Tryz.isAgg225
 z210:=Tryz.sizeOf225
 v210:=Tryz.zeroValue225
 t212:=Tryz.underlying229
 a212:=Tryz.isAgg229
 z212:=Tryz.sizeOf229
 v212:=Tryz.zeroValue229
 t213:=Tryz.underlying230
 a213:=Tryz.isAgg230
 z213:=Tryz.sizeOf230
 t232:=Tryz.underlying312
 a232:=Tryz.isAgg312
 z232:=Tryz.sizeOf312
 v232:=Tryz.zeroValue312
 t233:=Tryz.underlying313
 a233:=Tryz.isAgg313
 z233:=Tryz.sizeOf313
 v233:=Tryz.zeroValue313
 g15:=by kernel_rfl
 g16:=by kernel_rfl
 g17:=by kernel_rfl
 g18:=by kernel_rfl
 g19:=by kernel_rfl
 t80:=Tryz.underlying47
 a80:=Tryz.isAgg47
 z80:=Tryz.sizeOf47
 v80:=Tryz.zeroValue47
 i0:=by kernel_rfl
 i2:=by kernel_rfl
 i3:=by kernel_rfl
 i4:=by kernel_rfl
 i5:=by kernel_rfl
 i9:=by kernel_rfl
 i20:=by kernel_rfl
 i37:=by kernel_rfl
 i46:=by kernel_rfl
 i51:=by kernel_rfl
 i53:=by kernel_rfl
 i75:=by kernel_rfl
 i80:=by kernel_rfl
 i127:=by kernel_rfl
 i143:=by kernel_rfl
 i145:=by kernel_rfl
 i167:=by kernel_rfl
 i168:=by kernel_rfl
 i171:=by kernel_rfl
 i173:=by kernel_rfl
 i210:=by kernel_rfl
 i212:=by kernel_rfl
 i232:=by kernel_rfl
 i233:=by kernel_rfl
 m15:=by kernel_rfl
 m16:=by kernel_rfl
 m17:=by kernel_rfl
 m18:=by kernel_rfl
 m19:=by kernel_rfl
 c0:=by kernel_rfl
 c2:=by kernel_rfl
 c3:=by kernel_rfl
 c4:=by kernel_rfl
 c5:=by kernel_rfl
 c9:=by kernel_rfl
 c20:=by kernel_rfl
 c37:=by kernel_rfl
 c46:=by kernel_rfl
 c51:=by kernel_rfl
 c53:=by kernel_rfl
 c75:=by kernel_rfl
 c80:=by kernel_rfl
 c127:=by kernel_rfl
 c143:=by kernel_rfl
 c145:=by kernel_rfl
 c167:=by kernel_rfl
 c168:=by kernel_rfl
 c171:=by kernel_rfl
 c173:=by kernel_rfl
 c210:=by kernel_rfl
 c212:=by kernel_rfl
 c213:=by kernel_rfl
 c232:=by kernel_rfl
 c233:=by kernel_rfl }
end Go.Proofs
namespace Go.G
open Go.RowKit Go.ChangeShapes Go.WideShapes
section
variable {H:Type} {enc:TypeId × Value→H} {P:Program}
def JO (P:Program) (ts:List TypeId):Bool:=ts.all fun t=>P.readableRec t&&decide (t<P.types.size)
theorem KM (hl:laidOutB P=true) {W W':World} (hb:Below W.heap.size W W') (sp:Nat→Bool):∀ {ts:List TypeId} {vs:List Value} {ds:List (DataW H)} {ps:List MemPlace},JO P ts=true →
  DataW.TrodAll enc P W 0 (fun _=>true) true ts vs ds ps→(∀ x ∈ ps,x.block<W.heap.size)→(∀ x ∈ ps,sp x.block=true)→DataW.TrodAll enc P W' 0 sp true ts vs ds ps
 |[],_,_,_,_,h,_,_=>by
  obtain⟨rfl,rfl,rfl⟩:=trodAll_nil h;exact trodAll_mk0
 |t::ts,_,_,_,hr,h,hlt,hsp=>by
  obtain⟨v,vs,d,ds,p,q,rfl,rfl,rfl,h1,h2⟩:=trodAll_cons h;simp only[JO,List.all_cons,Bool.and_eq_true,decide_eq_true_eq] at hr;exact⟨p,q,WideElems.Trod_stays hl hr.1.1 hr.1.2 h1 (fun x hx=>hb.same (hlt x (by simp[hx]))) (fun x hx=>hsp x (by simp[hx])),
   KM hl hb sp (by simpa[JO] using hr.2) h2 (fun x hx=>hlt x (by simp[hx])) (fun x hx=>hsp x (by simp[hx])),rfl⟩
theorem J0 {w:World} {base:Nat} {spare:Nat→Bool} {held:Bool}:∀ {ts:List TypeId} {vs:List Value} {ds:List (DataW H)} {ps:List MemPlace},DataW.TrodAll enc P w base spare held ts vs ds ps→ds.length=ts.length∧vs.length=ts.length
 |[],_,_,_,h=>by
  obtain⟨rfl,rfl,rfl⟩:=trodAll_nil h;exact⟨rfl,rfl⟩
 |t::ts,_,_,_,h=>by
  obtain⟨v,vs,d,ds,p,q,rfl,rfl,rfl,h1,h2⟩:=trodAll_cons h;have:=J0 h2;simp[this]
theorem gF {f:Func} {s:ChangeSpec} {apart fresh handsOn again:Bool} {W W':World} {args:Array Value} {ds gs:List (DataW H)} {before:List MemPlace} {t:TypeId}
  (hl:laidOutB P=true) (hp:JO P f.params.toList=true) (hsv:s.vars=[]) (hW:DataW.Whole enc P f.params.toList s.vars apart W args.toList ds gs before) (hB:Below W.heap.size W W')
  (hrt:f.resultTypes = #[t]) (ht:P.underlying t=some .bool) (hfn:∀ ds':List (DataW H),ds'.length=f.params.size→s.fn H ds'={ results:=[.lit (.bool true)],args:=ds' }) :
  s.post enc P f apart fresh handsOn again W args (.bool true) W':=by
 have hlt:=hW.lt;have hW':=hW;obtain⟨p,q,hA,hV,rfl,hz,hn⟩:=hW';rw[hsv] at hV;obtain⟨rfl,rfl⟩:=trodVars_none hV;have hfn:=hfn ds (by have:=(J0 hA).1;simpa using this);simp only[List.append_nil] at hlt hz hn;have hA':=fun sp=>KM hl hB sp hp hA hlt;have hr:∀ (b:Nat) (sp:Nat→Bool) (hd:Bool),DataW.TrodAll enc P W' b sp hd f.resultTypes.toList ((Value.bool true).resultList f.resultTypes.size) [.lit (.bool true)] []:=fun b sp hd=>by
  rw[hrt];exact trodAll_cons_mk (shut_bool ht _) trodAll_mk0
 refine⟨ds,[],p++[],[],p,[],hW,?_,?_,?_,Below.frame hB _,fun _=>?_⟩
 ·simp only[List.append_nil,hfn];exact hr _ _ _
 ·simp only[List.append_nil,hfn];exact hA' _ (fun x hx=>by simpa using hlt x hx)
 ·simp only[List.append_nil,hfn,hsv];exact rfl
 ·refine⟨ok_one hrt rfl (okWide_bool_mk ht _),_,[],([]++p)++[],⟨[]++p,[],trodAll_append (hA' (fun _=>true) (fun _ _=>rfl)) (hr _ _ _),by rw[hsv];rfl,rfl,?_,?_⟩,?_⟩
  ·intro b off hx;have hx:MemPlace.cell b off ∈ p:=by simpa using hx
   rw[Below.frozen hB (hlt _ hx)];exact hz b off hx
  ·intro ha;have:=hn ha;simpa using this
  ·intro x hx _;simpa using hx
theorem law_calls {f:Func} {fid:FuncId} {s:ChangeSpec} {apart fresh handsOn again:Bool} {W:World} {base:Nat} {args:Array Value} {ds gs:List (DataW H)} {before:List MemPlace} {t:TypeId} (S:List TypeId)
  (hl:laidOutB P=true) (hp:JO P f.params.toList=true) (hS:Kk P S=true) (hts:f.params.toList.all S.contains=true) (hsv:s.vars=[]) (hrt:f.resultTypes = #[t]) (ht:P.underlying t=some .bool)
  (hfn:∀ ds':List (DataW H),ds'.length=f.params.size→s.fn H ds'={ results:=[.lit (.bool true)],args:=ds' })
  (hspec:∀ as',ArgsHas P f.params.toList as'→Spec P fid as' (.v (.bool true))) (htb:Tabs P W (Old W))
  (hval:∀ (j:Nat) t v,f.params[j]? = some t→args[j]? = some v→Value.okWide P W .any base t v) (hW:DataW.Whole enc P f.params.toList s.vars apart W args.toList ds gs before)
  (hwt:(DataW.weightsEach P (f.params.toList++s.plain.varTypes P) (ds++gs)).all (·≤reachBytes)=true) :
  Calls P fid args W fun e W'=>∃ v,e = .returned v∧s.post enc P f apart fresh handsOn again W args v W':=by
 have hW':=hW;obtain⟨p,q,hA,hV,rfl,hz,hn⟩:=hW;have hV':=hV;rw[hsv] at hV';obtain⟨rfl,_⟩:=trodVars_none hV';have hwt':∀ m,m ∈ DataW.weightsEach P f.params.toList ds→m≤reachBytes:=by
  have e:s.plain.varTypes P=[]:=by simp[ChangeSpec.plain,DataSpec.varTypes,hsv]
  rw[e,List.append_nil,List.append_nil,List.all_eq_true] at hwt;exact fun m hm=>by simpa using hwt m hm
 obtain⟨as',h1,h2,h3⟩:=Mm hS (fun t ht=>by rw[List.all_eq_true] at hts;simpa using hts t ht) hwt' hA (fun j u v hj hv=>hval j u v (by simpa using hj) (by simpa using hv));refine((hspec as' h2).2 W (Old W) args (fun _ h=>h) htb (by simpa using h1.symm) (fun k y hk=>?_)).mono fun e W' ⟨v,he,hB,hr⟩=>?_
 ·have:=h3 k y hk;simpa[List.getD,Array.getD_eq_getD_getElem?] using this
 ·cases hr;exact⟨_,he,gF hl hp hsv hW' hB hrt ht hfn⟩
end
end Go.G
namespace Go.G
open Go
theorem OK {W:World} {p:Addr} {v:Value} (h:W.cell? p=some v):Old W p.block:=by
 unfold Old;unfold World.cell? at h;cases hb:W.heap[p.block]? with
 |none=>rw[hb] at h;cases h
 |some b=>exact(Array.getElem?_eq_some_iff.1 hb).1
theorem tabs_of {P:Program} {W:World} (l:List (String × Nat × IntKind × List Int)) (es:List (String × Nat))
  (h1:((List.range P.globals.size).all fun g=>match gtab P g with | none=>true | some q=>l.any fun x=>x.2.1 == g&&(x.2.2.1 == q.1&&x.2.2.2 == q.2))=true)
  (e1:((List.range P.globals.size).all fun g=>!nW P g || es.any fun x=>x.2 == g)=true)
  (h2:∀ x,x ∈ l→P.globalNamed x.1=some x.2.1∧0<x.2.2.2.length∧Lib.TabIs P W x.1 x.2.2.1 x.2.2.2)
  (e2:∀ x,x ∈ es→∃ te pe,W.cell? ⟨x.2,0,none⟩=some (.iface te pe)):Tabs P W (Old W) where
 row g q hq:=by
  have hg:g<P.globals.size:=by
   unfold gtab at hq;cases hx:P.globals[g]? with
   |none=>rw[hx] at hq;cases hq
   |some x=>exact(Array.getElem?_eq_some_iff.1 hx).1
  have:=List.all_eq_true.1 h1 g (List.mem_range.2 hg);rw[hq] at this;obtain⟨x,hx,hx2⟩:=List.any_eq_true.1 this;obtain⟨nm,g',k,zs⟩:=x;simp only[Bool.and_eq_true,beq_iff_eq] at hx2;obtain⟨rfl,rfl,rfl⟩:=hx2;obtain⟨g1,g2,g3⟩:=h2 _ hx;refine⟨OK (g3.cell g1 0 g2),?_⟩;unfold Lib.TabIs World.var? at g3;rw[g1] at g3;simp only[Option.bind_some] at g3;split at g3
  ·rename_i cs e z hh;cases g3;exact⟨e,z,hh⟩
  ·cases g3
 err g hg:=by
  have hlt:g<P.globals.size:=by
   unfold nW at hg;cases hx:P.globals[g]? with
   |none=>rw[hx] at hg;cases hg
   |some x=>exact(Array.getElem?_eq_some_iff.1 hx).1
  have:=List.all_eq_true.1 e1 g (List.mem_range.2 hlt);rw[hg] at this;simp only[Bool.not_true,Bool.false_or] at this;obtain⟨x,hx,hx2⟩:=List.any_eq_true.1 this;have hx2:x.2=g:=eq_of_beq hx2;obtain⟨te,pe,h⟩:=e2 x hx;rw[hx2] at h;exact⟨OK h,te,pe,h⟩
theorem qO {P:Program} {w:World} {I:Nat→Prop} (ht:Tabs P w I) {n:String} {g:Nat} {k:IntKind} {zs zs':List Int} (hg:P.globalNamed n=some g) (hq:gtab P g=some (k,zs)) (hz:zs=zs'):Lib.TabIs P w n k zs':=by
 obtain⟨_,e,z,h⟩:=ht.row g _ hq;subst hz;unfold Lib.TabIs World.var?;rw[hg];simp only[Option.bind_some,h]
theorem iface_of_var {P:Program} {W:World} {n:String} {g:Nat} {te:TypeId} {pe:Value} (hg:P.globalNamed n=some g) (h:W.var? P n=some #[.iface te pe]):∃ te pe,W.cell? ⟨g,0,none⟩=some (.iface te pe):=
 ⟨te,pe,by simpa using World.var?_cell hg h 0⟩
end Go.G
namespace Go.PL
open Go.Lib
def Br:List UInt8→List (List UInt8)
 |[]=>[[]]
 |c::l=>if c=32 then []::Br l else (c::(Br l).headD [])::(Br l).tail
theorem SQ:∀ (x:List UInt8),(∀ c,c ∈ x→c ≠ 32)→∀ (l:List UInt8),Br (x++32::l)=x::Br l
 |[],_,l=>by show Br (32::l)=_;rw[Br,if_pos rfl]
 |c::x,h,l=>by
  have ih:=SQ x (fun c hc=>h c (List.mem_cons_of_mem _ hc)) l;rw[List.cons_append,Br,if_neg (h c (List.mem_cons_self ..)),ih];rfl
theorem PW:∀ (x:List UInt8),(∀ c,c ∈ x→c ≠ 32)→Br x=[x]
 |[],_=>rfl
 |c::x,h=>by
  have ih:=PW x (fun c hc=>h c (List.mem_cons_of_mem _ hc));rw[Br,if_neg (h c (List.mem_cons_self ..)),ih];rfl
end Go.PL
namespace Go.Proofs.YtgkdikddjfgajaaGreatDoor
open Go Go.G Go.Proofs Go.RowKit Go.PL
theorem lA {P:Program} {w:World} {I:Nat→Prop} {vs:Array Value} (l:List Value) (hl:vs.size=(l.map A.v).length) (hr:∀ (k:Nat) (y:A),(l.map A.v)[k]? = some y→Rel w I Jq y (vs.getD k undef)):vs=l.toArray:=by
 apply Array.ext
 ·simpa using hl
 ·intro i h1 h2;have h3:i<l.length:=by simpa using h2
  have:=hr i (A.v l[i]) (by simp[h3]);generalize hq:vs.getD i undef=x at this;cases this;have:vs.getD i undef=vs[i]:=by simp[h1]
  rw[this] at hq;simpa using hq
theorem Pu {P:Program} {f:FuncId} {r:A} (hk:Ji P f=true) (l:List Value) (h:∀ (w:World) (I:Nat→Prop),(∀ b,I b→b<w.heap.size)→Tabs P w I→Calls P f l.toArray w fun e w'=>∃ v,e = .returned v∧Below w.heap.size w w'∧Rel w' (MA w I w') Jq r v):G.Spec P f (l.map A.v) r:=by
 refine⟨hk,fun w I vs hI ht hl hr=>?_⟩;rw[lA (P:=P) l hl hr];exact h w I hI ht
theorem kZ {w:World} {I:Nat→Prop} (ht:Tabs Tryz.prog w I):Lib.TabIs Tryz.prog w "internal/strconv.uint64pow10" .u64 Lib.pow10Tab:=qO ht (g:=5) (by kernel_rfl) (zs:=tab10) (by kernel_rfl) (by decide)
theorem Pp:∀ (xs:List (List UInt8)),(xs.map S).flatMap A.cells=xs.map S
 |[]=>rfl
 |a::l=>by rw[List.map_cons,List.flatMap_cons,Pp l];rfl
theorem nr {w:World} {I:Nat→Prop} {μ:Mu} (l:List UInt8):Rel w I μ (S l) (.string ⟨l.toArray⟩):=.v _ _
theorem jP {w:World} {I:Nat→Prop} {t:TypeId} (xs:List (List UInt8)):Rel (w.alloc (.cells ((xs.map fun l=>Value.string ⟨l.toArray⟩).toArray) t)) (MA w I (w.alloc (.cells ((xs.map fun l=>Value.string ⟨l.toArray⟩).toArray) t))) Jq (.sl true (xs.map S)) (.slice (some ⟨w.heap.size,0,none⟩) xs.length xs.length):=by
 refine Rel.sl _ _ _ _ _ _ 1 _ (fun k=>.string ⟨(xs.getD k []).toArray⟩) (Or.inr ⟨CE _,by simp⟩) (by simp) (by simp) (fun _=>by simp) ?_ ?_ ?_ ?_
 ·intro x hx;obtain⟨l,_,rfl⟩:=List.mem_map.1 hx;rfl
 ·intro k y hy;have e:=Pp xs;rw[e,List.getElem?_map] at hy;obtain⟨l,_,rfl⟩:=Option.map_eq_some_iff.1 hy;rfl
 ·intro k y hy;have e:=Pp xs;rw[e,List.getElem?_map] at hy;obtain⟨l,hl,rfl⟩:=Option.map_eq_some_iff.1 hy;have hh:∀ o:Obj,(w.alloc o).heap[w.heap.size]? = some o:=fun o=>by show(w.heap.push o)[w.heap.size]? = _;simp
  unfold World.cell?;simp only[hh,Nat.zero_add,List.getElem?_toArray,List.getElem?_map,hl,Option.map_some];rw[List.getD_eq_getElem?_getD,hl];rfl
 ·intro k y hy;have e:=Pp xs;rw[e,List.getElem?_map] at hy;obtain⟨l,hl,rfl⟩:=Option.map_eq_some_iff.1 hy;rw[List.getD_eq_getElem?_getD,hl];exact nr _
theorem NP (n:Int) (h0:-9223372036854775808≤n) (h1:n≤9223372036854775807):G.Spec Tryz.prog 31 [iv n] (S (Lib.itoa n)):=
 Pu (by kernel_rfl) [.int .i64 n] fun w I hI ht=>(Any.strconv_Itoa Tryz.laysM171 n h0 h1 w (kZ ht)).mono fun e w' ⟨h1,k,os,h2⟩=>⟨_,h1,by rw[h2];exact Lib.below_grow _ w (CE _) k os,nr _⟩
theorem WB (w:World) (e:TypeId) (s:ByteArray):Below w.heap.size w (Lib.bytesWorld w e s):=Lib.bytesWorld_below _ _ _
def Zx (T:TypeId) (l:List UInt8):A:=match Lib.atoiAll l with
 |.ok v=>.tup [iv v,.v .nilIface]
 |_=>.tup [.any,.ifc T .any]
theorem Z7 (l:List UInt8) (hl:l.length≤281474976710656):G.Spec Tryz.prog 37 [S l] (Zx 176 l):=
 Pu (by kernel_rfl) [.string ⟨l.toArray⟩] fun w I hI ht=>by
  have hs:(⟨l.toArray⟩:ByteArray).size≤281474976710656:=by show l.toArray.size≤_;simpa using hl
  have hd:(⟨l.toArray⟩:ByteArray).data.toList=l:=by simp
  unfold Zx;rcases h:Lib.atoiAll l with v | _ | _
  ·refine(Any.strconv_Atoi_ok Tryz.laysC172 ⟨l.toArray⟩ (by omega) v (by rw[hd];exact h) w).mono fun e w' ⟨h1,h2⟩=>⟨_,h1,?_,.tup _ _ _ (by simp) fun k y hy=>?_⟩
   ·rcases h2 with rfl | ⟨t,rfl⟩
    ·exact Below.refl _ _
    ·exact WB _ _ _
   ·match k,hy with
    |0,hy=>cases hy;exact .v _ _
    |1,hy=>cases hy;exact .v _ _
    |k+2,hy=>cases hy
  ·obtain⟨_,te,pe,hv⟩:=ht.err 3 (by kernel_rfl);refine(Any.strconv_Atoi_syntax Tryz.laysC172 ⟨l.toArray⟩ hs (by rw[hd];exact h) _ w hv (Or.inr ⟨te,pe,rfl⟩)).mono fun e w' ⟨N,h1,_,_,h2⟩=>⟨_,h1,h2,.tup _ _ _ (by simp) fun k y hy=>?_⟩
   match k,hy with
   |0,hy=>cases hy;exact .any _ _
   |1,hy=>cases hy;exact .ifc _ _ _ _ (.any _ _)
   |k+2,hy=>cases hy
  ·obtain⟨_,te,pe,hv⟩:=ht.err 4 (by kernel_rfl);refine(Any.strconv_Atoi_range Tryz.laysC172 ⟨l.toArray⟩ hs (by rw[hd];exact h) _ w hv (Or.inr ⟨te,pe,rfl⟩)).mono fun e w' ⟨N,h1,_,_,h2⟩=>⟨_,h1,h2,.tup _ _ _ (by simp) fun k y hy=>?_⟩
   match k,hy with
   |0,hy=>cases hy;exact .any _ _
   |1,hy=>cases hy;exact .ifc _ _ _ _ (.any _ _)
   |k+2,hy=>cases hy
theorem Zt:∀ (l:List UInt8),Lib.indexByte l 32 = -1→∀ c,c ∈ l→c ≠ 32
 |[],_,c,hc=>by cases hc
 |b::l,h,c,hc=>by
  unfold Lib.indexByte at h;split at h
  ·cases h
  ·rename_i hb;have hg:=Lib.indexByte_ge l 32;split at h
   ·rename_i h2;rcases List.mem_cons.1 hc with e | hc
    ·intro e2;subst e;subst e2;exact hb rfl
    ·exact Zt l (by simpa using h2) c hc
   ·rename_i h2;simp at h2;omega
theorem gH:∀ (l:List UInt8) (i:Nat),Lib.indexByte l 32=i→l=l.take i++32::l.drop (i+1)∧∀ c,c ∈ l.take i→c ≠ 32
 |[],i,h=>by cases h
 |b::l,i,h=>by
  unfold Lib.indexByte at h;split at h
  ·rename_i hb;have:i=0:=by omega
   subst this;have:b=32:=by simpa using hb
   subst this;exact⟨by simp,by simp⟩
  ·rename_i hb;split at h
   ·omega
   ·rename_i h2;cases i with
    |zero=>
     have hg:=Lib.indexByte_ge l 32;simp at h2;omega
    |succ i=>
     obtain⟨h3,h4⟩:=gH l i (by omega);refine⟨by simp only[List.take_succ_cons,List.drop_succ_cons,List.cons_append];rw[← h3],fun c hc=>?_⟩;rw[List.take_succ_cons] at hc;rcases List.mem_cons.1 hc with e | hc
     ·intro e2;subst e;subst e2;exact hb rfl
     ·exact h4 c hc
theorem Sk:∀ (k:Nat) (l:List UInt8),l.count 32=k→Lib.splitK [32] 0 k l=Br l
 |0,l,h=>by
  rw[List.count_eq_zero] at h;rw[PW l (fun c hc e=>h (e ▸ hc))];rfl
 |k+1,l,h=>by
  unfold Lib.splitK;have hi:=Lib.index_one l 32;have hg:=Lib.indexByte_ge l 32;rw[hi];by_cases h1:Lib.indexByte l 32 = -1
  ·exfalso;have:=Zt l h1;have h2:l.count 32=0:=List.count_eq_zero.2 fun hm=>this 32 hm rfl;omega
  ·rw[if_neg (by simpa using h1)];obtain⟨i,hi2⟩:∃ i:Nat,Lib.indexByte l 32=i:=⟨(Lib.indexByte l 32).toNat,by omega⟩;obtain⟨h3,h4⟩:=gH l i hi2;rw[hi2,Int.toNat_natCast];have hc:(l.drop (i+1)).count 32=k:=by
    rw[h3,List.count_append,List.count_cons_self,List.count_eq_zero.2 (fun hm=>h4 32 hm rfl)] at h;omega
   have e:Br l=l.take i::Br (l.drop (i+1)):=by
    conv=>lhs;rw[h3]
    exact SQ _ h4 _
   rw[e];show l.take (i+0)::Lib.splitK [32] 0 k (l.drop (i+1))=_;rw[Sk k _ hc];rfl
theorem ae (l:List UInt8):Lib.splitB ⟨#[32]⟩ 0 (Lib.countB ⟨l.toArray⟩ ⟨#[32]⟩) ⟨l.toArray⟩=(Br l).map fun x=>⟨x.toArray⟩:=by
 have h:=Lib.splitB_data ⟨#[32]⟩ 0 (Lib.countB ⟨l.toArray⟩ ⟨#[32]⟩) ⟨l.toArray⟩;have hc:Lib.countB ⟨l.toArray⟩ ⟨#[32]⟩=l.count 32:=by
  show Lib.count (⟨l.toArray⟩:ByteArray).data.toList (⟨#[32]⟩:ByteArray).data.toList=_;simp only;exact Lib.count_one 32 l
 rw[hc] at h ⊢;have h2:(⟨l.toArray⟩:ByteArray).data.toList=l:=by simp
 rw[h2,show(⟨#[32]⟩:ByteArray).data.toList=[32] from rfl,Sk _ l rfl] at h;rw[← h,List.map_map]
 conv=>lhs;rw[← List.map_id (Lib.splitB _ _ _ _)]
 apply List.map_congr_left;intro x _;cases x;simp
set_option maxHeartbeats 1000000 in
set_option maxRecDepth 100000 in
theorem ai (l:List UInt8) (hl:l.length<4294967281) (w:World):Calls Tryz.prog 15 #[.string ⟨l.toArray⟩,.string ⟨#[32]⟩] w fun e w'=>
  e = .returned (.slice (some ⟨w.heap.size,0,none⟩) (Br l).length (Br l).length)∧w'=w.alloc (.cells (((Br l).map fun l=>Value.string ⟨l.toArray⟩).toArray) 9):=by
 have hs:(⟨l.toArray⟩:ByteArray).size<4294967281:=by show l.toArray.size<_;simpa using hl
 have hle:=Lib.countB_le ⟨#[32]⟩ (by decide) (⟨l.toArray⟩:ByteArray).size ⟨l.toArray⟩ (CE _);have hlen:=Lib.splitB_all ⟨#[32]⟩ (by decide) 0 _ ⟨l.toArray⟩ rfl;have c:=Any.strings_genSplit_core Tryz.lays221 (by kernel_rfl) ⟨l.toArray⟩ ⟨#[32]⟩ 0 (-1) (Lib.countB ⟨l.toArray⟩ ⟨#[32]⟩+1) w hs (by decide) (Nat.zero_le _)
  (fun x c hx=>(Any.strings_Index_one Tryz.lays143 x 32 _).mono fun e w' ⟨h1,h2⟩=>⟨by rw[h1];exact congrArg _ (congrArg _ (Lib.index_one _ _).symm),h2⟩)
  ((Any.strings_Count_one Tryz.lays138 ⟨l.toArray⟩ 32 w).mono fun e w' ⟨h1,h2⟩=>⟨by rw[h1];exact congrArg _ (congrArg _ (by show((Lib.countByte _ _:Nat):Int)=((Lib.count _ _:Nat):Int);rw[show(⟨#[32]⟩:ByteArray).data.toList=[32] from rfl,Lib.count_one];rfl)),h2⟩)
  (by decide) (by decide) (by rw[if_pos (by decide)];omega)
 rw[Nat.add_sub_cancel,hlen] at c;have e2:Lib.cellsOf (Lib.splitB ⟨#[32]⟩ 0 (Lib.countB ⟨l.toArray⟩ ⟨#[32]⟩) ⟨l.toArray⟩) (Lib.countB ⟨l.toArray⟩ ⟨#[32]⟩+1)=((Lib.splitB ⟨#[32]⟩ 0 (Lib.countB ⟨l.toArray⟩ ⟨#[32]⟩) ⟨l.toArray⟩).map Value.string).toArray:=by rw[← hlen];exact Lib.cellsOf_full _
 rw[e2,← hlen,ae,List.map_map,List.length_map] at c;have c:Calls Tryz.prog 29 #[.string ⟨l.toArray⟩,.string ⟨#[32]⟩,.int .i64 0,.int .i64 (-1)] w fun e w'=>
  e = .returned (.slice (some ⟨w.heap.size,0,none⟩) (Br l).length (Br l).length)∧w'=w.alloc (.cells (((Br l).map fun l=>Value.string ⟨l.toArray⟩).toArray) 9):=c
 go_enter Tryz.func15,Tryz.ntmps15
 go_wp2_with (go_at_call 29;refine c.mono ?_;rintro e w' ⟨rfl,hw⟩;rw[hw])
 go_ret
 exact⟨rfl,rfl⟩
theorem G0 (l:List UInt8) (hl:l.length<4294967281):G.Spec Tryz.prog 15 [S l,S [32]] (.sl true ((Br l).map S)):=
 Pu (by kernel_rfl) [.string ⟨l.toArray⟩,.string ⟨#[32]⟩] fun w I hI ht=>(ai l hl w).mono fun e w' ⟨h1,h2⟩=>⟨_,h1,by rw[h2];exact(Below.refl _ w).alloc (CE _) _,by rw[h2];exact jP _⟩
def ND (a:Bool) (l:List UInt8) (v:Nat):Fam:=⟨fun r p=>if p=[777777,39] then ⟨1,.cells [if a=true then .pob (r::[777777,39]) 1 0 else .v (.pointer none),.osl (r::[777777,39,777777,5]) v 1 0 l.length]⟩
  else if p=[777777,39,777777,5] then ⟨v,.arr 1 (l.map IL)⟩ else ⟨0,.none⟩,fun {g δ r r'} hg hd p=>by
  by_cases h1:p=[777777,39]
  ·rw[if_pos h1,if_pos h1];refine Fam.cells_ren ?_;cases a<;>simp[A.renL,A.ren,hg,hd]
  ·rw[if_neg h1,if_neg h1];by_cases h2:p=[777777,39,777777,5]
   ·rw[if_pos h2];refine Fam.arr_ren ?_;simp[B1,A.ren,Function.comp_def]
   ·rw[if_neg h2];rfl,fun {D r} hD p=>by
  by_cases h1:p=[777777,39]
  ·rw[if_pos h1];cases a<;>simp[Ob.refs,A.refsL,A.refs,hD]
  ·rw[if_neg h1];by_cases h2:p=[777777,39,777777,5]
   ·rw[if_pos h2];simp[Ob.refs,refsL_iff,A.refs]
   ·rw[if_neg h2];trivial⟩
@[simp] theorem dS {a:Bool} {l:List UInt8} {v r:Nat} {p:Nm}:(ND a l v).F r p=if p=[777777,39] then ⟨1,.cells [if a=true then .pob (r::[777777,39]) 1 0 else .v (.pointer none),.osl (r::[777777,39,777777,5]) v 1 0 l.length]⟩
  else if p=[777777,39,777777,5] then ⟨v,.arr 1 (l.map IL)⟩ else ⟨0,.none⟩:=rfl
abbrev bp (r:Nat):A:=.pob (r::[777777,39]) 1 0
theorem JP (a:Bool) (l:List UInt8) (v:Nat):SpecF Tryz.prog 14 (fun r=>[bp r]) (ND a l v) (fun _=>.tup []) (ND true l v):=by
 refine⟨Ag AJ Al,Bu Al,by kernel_rfl,fun w I M0 n μ vs hM hs hl hr=>?_⟩;have hd:(ov 0 ((ND a l v).F 0) (Dj []):Hp) [0,777777,39]=⟨1,.cells [if a=true then .pob [0,777777,39] 1 0 else .v (.pointer none),.osl [0,777777,39,777777,5] v 1 0 l.length]⟩:=by simp
 have hob:=hs.ob [0,777777,39];have hver:=hs.ver [0,777777,39];have hB:BJ (μ [0,777777,39]) ((ov 0 ((ND a l v).F 0) (Dj []):Hp) [0,777777,39]).ob=true:=by rw[hd];rfl
 have htag:=hs.tag _ hB;rw[hd] at hob hver;obtain⟨cs,k1,k2,k3⟩:=hob;simp only[List.length_cons,List.length_nil] at k2;simp only[ZG,beq_iff_eq] at htag
 replace htag:=htag.symm
 generalize hμ:μ [0,777777,39]=L at k1 k2 k3 hver htag hB;have harg:=hr 0 _ rfl;obtain⟨b,hb⟩:∃ b,b=L.b:=⟨_,rfl⟩;have hv0:vs.getD 0 undef = .pointer (some ⟨b,0,none⟩):=by
  generalize vs.getD 0 undef=x at harg;cases harg with
  |pob _ _ _ _ b' k' g1 g2 g3=>
   have:=g3 (by rw[hμ,hver]);rw[hμ] at this;obtain⟨rfl,rfl⟩:=this;rw[hb]
 have hvs:vs = #[.pointer (some ⟨b,0,none⟩)]:=by
  apply Array.ext
  ·simpa using hl
  ·intro i h1 h2;have:i=0:=by simp at h2;omega
   subst this;have e:vs.getD 0 undef=vs[0]:=by simp[h1]
   rw[← e,hv0];rfl
 subst hvs;obtain⟨x0,x1,hcs⟩:∃ x0 x1,cs = #[x0,x1]:=⟨cs[0]'(by omega),cs[1]'(by omega),by
  apply Array.ext
  ·simpa using k2
  ·intro i h1 h2
   match i,h2 with
   |0,_=>rfl
   |1,_=>rfl⟩
 subst hcs;have hx0:=(k3 0 _ rfl).2;have hx1:=(k3 1 _ rfl).2;simp only[show(#[x0,x1]:Array Value).getD 0 undef=x0 from rfl] at hx0;simp only[show(#[x0,x1]:Array Value).getD 1 undef=x1 from rfl] at hx1;rw[← hb,htag] at k1;have c0:w.cell? ⟨b,0,none⟩=some x0:=by rw[cell_of_row w b 0 _ _ _ k1];rfl
 cases a with
 |true=>
  simp only[if_true] at hx0;have e0:x0 = .pointer (some ⟨b,0,none⟩):=by
   cases hx0 with
   |pob _ _ _ _ b' k' g1 g2 g3=>
    have:=g3 (by rw[hμ,hver]);rw[hμ] at this;obtain⟨rfl,rfl⟩:=this;rw[hb]
  rw[e0] at c0;refine(Qb b w c0).mono fun e w' ⟨h1,h2⟩=>⟨_,h1,_,I,μ,by rw[h2];exact hs,.tup _ _ _ rfl (fun k y hk=>by simp at hk),fun i p hi=>rfl⟩
 |false=>
  simp only[Bool.false_eq_true,if_false] at hx0;have e0:x0 = .pointer none:=by cases hx0;rfl
  rw[e0] at c0;refine(OY b w c0 (by simp[World.shape?,k1]) (by simp[World.frozen?,k1])).mono fun e w' ⟨h1,h2⟩=>?_;rw[setCell_eq_setRow w b 0 _ _ _ _ k1] at h2;subst h2;obtain⟨hx,hs'⟩:=hs.upd (C3 w b (#[x0,x1].setIfInBounds 0 (.pointer (some ⟨b,0,none⟩)))) [0,777777,39] (μ [0,777777,39]) (.cells [.pob [0,777777,39] 1 0,.osl [0,777777,39,777777,5] v 1 0 l.length])
   (.inr ⟨by rw[hμ,hb],by rw[hμ];exact hB⟩) (.inr rfl) (fun _=>.inr ⟨by rw[hμ];exact hB,rfl⟩) (fun _=>by rw[hμ];simp[htag]) (fun hx=>by
    rw[Ce] at hx ⊢;rw[hμ];refine⟨#[.pointer (some ⟨b,0,none⟩),x1],?_,rfl,fun k y hk=>?_⟩
    ·rw[← hb,htag];exact setRow_heap w b _ _ _ _ k1
    ·match k,hk with
     |0,hk=>
      cases hk;exact⟨rfl,.pob _ _ _ _ _ _ (CE _) (by rw[hμ,hver];exact CE _) (fun _=>by rw[hμ,hb];exact⟨rfl,rfl⟩)⟩
     |1,hk=>
      cases hk;exact⟨rfl,hx.rel hx1⟩)
  rw[Ce,hμ,hver] at hs';refine⟨_,h1,_,I,μ,hs',.tup _ _ _ rfl (fun k y hk=>by simp at hk),fun i p hi=>?_⟩;have:i=0:=by omega
  subst this;by_cases hp:p=[777777,39]
  ·subst hp;simp
  ·rw[Ao (by simpa using hp)];simp[hp]
def zA (v:Nat):Fam:=⟨fun r p=>if p=[777777,39] then ⟨1,.none⟩ else if p=[777777,39,777777,5] then ⟨v,.none⟩ else ⟨0,.none⟩,fun {g δ r r'} hg hd p=>by
  by_cases h1:p=[777777,39]
  ·rw[if_pos h1];rfl
  ·rw[if_neg h1];by_cases h2:p=[777777,39,777777,5]
   ·rw[if_pos h2];rfl
   ·rw[if_neg h2];rfl,fun {D r} hD p=>by
  by_cases h1:p=[777777,39]
  ·rw[if_pos h1];trivial
  ·rw[if_neg h1];by_cases h2:p=[777777,39,777777,5]
   ·rw[if_pos h2];trivial
   ·rw[if_neg h2];trivial⟩
theorem Qi (w:World) (g n:Nat):w.grownBy (w.drew.freeze ⟨g,0,none⟩ n) (some g):=by
 unfold World.freeze;split
 ·exact⟨rfl,rfl,rfl,CE _,fun _ _ _=>rfl⟩
 ·refine⟨rfl,rfl,rfl,?_,fun k _ hk=>?_⟩
  ·show w.heap.size≤(w.heap.modify g _).size;rw[Array.size_modify];exact CE _
  ·have:g ≠ k:=fun e=>hk (by rw[e]);show(w.heap.modify g _)[k]? = w.heap[k]?;rw[Array.getElem?_modify,if_neg this]
theorem M8 (l:List UInt8) (v:Nat) (h0:l ≠ []) (hl63:l.length≤9223372036854775807):SpecF Tryz.prog 10 (fun r=>[bp r]) (ND true l v) (fun _=>S l) (zA v):=by
 refine⟨Ag AJ Al,AO,by kernel_rfl,fun w I M0 n μ vs hM hs hl hr=>?_⟩;have hl0:l.length ≠ 0:=by simpa using h0
 have hd:(ov 0 ((ND true l v).F 0) (Dj []):Hp) [0,777777,39]=⟨1,.cells [.pob [0,777777,39] 1 0,.osl [0,777777,39,777777,5] v 1 0 l.length]⟩:=by simp
 have hd2:(ov 0 ((ND true l v).F 0) (Dj []):Hp) [0,777777,39,777777,5]=⟨v,.arr 1 (l.map IL)⟩:=by simp
 have hob:=hs.ob [0,777777,39];have hver:=hs.ver [0,777777,39];rw[hd] at hob hver;obtain⟨cs,k1,k2,k3⟩:=hob;have hob2:=hs.ob [0,777777,39,777777,5];have hver2:=hs.ver [0,777777,39,777777,5];rw[hd2] at hob2 hver2;obtain⟨q0,⟨_,q1⟩ | ⟨q1,cur,q3,q4,q5,q6,q7⟩⟩:=hob2
 ·exact(h0 (by simpa using q1)).elim
 have hB:BJ (μ [0,777777,39,777777,5]) ((ov 0 ((ND true l v).F 0) (Dj []):Hp) [0,777777,39,777777,5]).ob=true:=by rw[hd2];exact q1
 have htag:=hs.tag _ hB;simp only[XH,beq_iff_eq] at htag
 replace htag:=htag.symm
 simp only[List.length_cons,List.length_nil] at k2;have harg:=hr 0 _ rfl;have hv0:vs.getD 0 undef = .pointer (some ⟨(μ [0,777777,39]).b,0,none⟩):=by
  generalize vs.getD 0 undef=x at harg;cases harg with
  |pob _ _ _ _ b' k' g1 g2 g3=>
   obtain⟨rfl,rfl⟩:=g3 hver.symm;rfl
 generalize hb:(μ [0,777777,39]).b=b at k1 hv0;have hvs:vs = #[.pointer (some ⟨b,0,none⟩)]:=by
  apply Array.ext
  ·simpa using hl
  ·intro i h1 h2;have:i=0:=by simp at h2;omega
   subst this;have e:vs.getD 0 undef=vs[0]:=by simp[h1]
   rw[← e,hv0];rfl
 subst hvs;have hx1:=(k3 1 _ rfl).2;have hc1:w.cell? ⟨b,1,none⟩=some (cs.getD 1 undef):=by
  rw[cell_of_row w b 1 _ _ _ k1];have:1<cs.size:=by omega
  simp[this]
 generalize cs.getD 1 undef=x1 at hx1 hc1;cases hx1 with
 |osl _ _ _ _ _ _ a cap g1 g2 g4 g5 g3=>
  obtain⟨_,⟨e1,_⟩ | ⟨_,rfl,e3⟩⟩:=g3 hver2.symm
  ·exact(hl0 e1).elim
  ·simp only[Nat.zero_mul] at hc1;have hflat:(l.map IL).flatMap A.cells=l.map IL:=PN l;have hcell:∀ j x,l[j]? = some x→w.cell? ⟨(μ [0,777777,39,777777,5]).b,j,none⟩=some (.int .u8 x.toNat):=fun j x hx=>by
    have hlt:=(List.getElem?_eq_some_iff.1 hx).1;have h1:=(q7 j (IL x) (by rw[hflat];simp[hx])).2;rw[cell_of_row w _ j _ _ _ q3];have hj:j<cur.size:=by simp at q5;rw[q4];omega
    have e:cur.getD j undef=cur[j]:=by simp[hj]
    rw[e] at h1;generalize hq:cur[j]=y at h1;cases h1;simp[hj,hq]
   have hsh:w.shape? (μ [0,777777,39,777777,5]).b=some (5,cur.size):=by simp[World.shape?,q3,htag]
   simp only[List.length_map] at q5;refine(XB b (μ [0,777777,39,777777,5]).b l cap w h0 hc1 cur.size hsh (by omega) g4 hl63 hcell).mono fun e w' ⟨h1,h2⟩=>?_;subst h2;obtain⟨hx,hs'⟩:=hs.upd (Qi w (μ [0,777777,39,777777,5]).b l.length) [0,777777,39,777777,5] (μ [0,777777,39,777777,5]) .none (.inr ⟨rfl,hB⟩) (.inr rfl) (fun h=>nomatch h) (fun h=>nomatch h) (fun _=>trivial);rw[Ce,hver2] at hs';have hs2:=hs'.drop [0,777777,39];refine⟨_,h1,_,I,μ,hs2,.v _ _,fun i p hi=>?_⟩;have:i=0:=by omega
   subst this;by_cases hp:p=[777777,39]
   ·subst hp;simp[zA,Ar]
   ·rw[Ao (by simpa using hp)];by_cases hp2:p=[777777,39,777777,5]
    ·subst hp2;simp[zA]
    ·rw[Ao (by simpa using hp2)];simp[zA,hp,hp2]
theorem Mc {α β:Type} (l:List α) (f:α→β):(l.map f).take l.length=l.map f:=by rw[DE (by simp)]
theorem Zq {n:Nat} {c:Cx} {l:List UInt8} {v:Nat} {H:Hp} {p:Nm} (hp:H [0,777777,39]=⟨1,.cells [.pob [0,777777,39] 1 0,.osl [0,777777,39,777777,5] v 1 0 l.length]⟩) (h2:H [0,777777,39,777777,5]=⟨v,.arr 1 (l.map IL)⟩)
  (h3:∀ p,p ≠ [777777,39]→p ≠ [777777,39,777777,5]→H (0::p)=⟨0,.none⟩):H (0::p)=(ND true l v).F 0 p:=by
 rw[dS];by_cases h1:p=[777777,39]
 ·rw[if_pos h1,h1];exact hp
 ·rw[if_neg h1];by_cases hq:p=[777777,39,777777,5]
  ·rw[if_pos hq,hq];exact h2
  ·rw[if_neg hq];exact h3 p h1 hq
theorem CA (a:Bool) (l:List UInt8) (v:Nat) (c:UInt8) (hl:l.length+1≤140737488355328):SpecF Tryz.prog 79 (fun r=>[bp r,IL c]) (ND a l v) (fun _=>.v .nilIface) (ND true (l++[c]) (v+1)):=by
 refine Bk Gr (by simp) (Ag AJ (Ag AO Al)) AO fun w0 I0 M0 m0=>?_;unfold DU;simp;refine Ai 0 (JP a l v) (fun p=>by simp) (by simp) (by simp) ?_;simp[Aa,Mc,splice];refine⟨by omega,AK rfl rfl fun p=>Zq (n:=0) (c:=HI Tryz.prog w0 I0 M0 17 m0) (by simp[Aa]) (by simp[Aa]) (fun p h1 h2=>by simp[Aa,h1,h2])⟩
theorem Ij (a:Bool) (l:List UInt8) (v:Nat) (m:List UInt8) (hl:l.length+m.length≤140737488355328):SpecF Tryz.prog 8 (fun r=>[bp r,S m]) (ND a l v) (fun _=>.tup [.v (.int .i64 m.length),.v .nilIface]) (ND true (l++m) (v+1)):=by
 refine Bk F6 (by simp) (Ag AJ (Ag AO Al)) (Bu (Ag AO (Ag AO Al))) fun w0 I0 M0 m0=>?_;unfold C9;simp;refine Ai 0 (JP a l v) (fun p=>by simp) (by simp) (by simp) ?_;simp[Aa,Mc,splice];refine⟨by omega,AK rfl rfl fun p=>Zq (n:=0) (c:=HI Tryz.prog w0 I0 M0 19 m0) (by simp[Aa]) (by simp[Aa]) (fun p h1 h2=>by simp[Aa,h1,h2])⟩
end Go.Proofs.YtgkdikddjfgajaaGreatDoor
namespace Go.Proofs.YtgkdikddjfgajaaGreatDoor
open Go Go.G Go.Proofs Go.PL
theorem aW:G.Spec Tryz.prog 148 [iv 16] (bv true):=by
 refine Ap Fl (by simp) fun w0 I0=>?_;unfold CB;simp;exact Ak (by decide)
def ao (i:Nat) (ds:List UInt8):List A:=List.replicate i (.v (.int .u8 0))++ds.map IL
theorem YQ (i:Nat) (ds:List UInt8) (c:UInt8):splice (ao (i+1) ds) i [IL c]=ao i (c::ds):=by
 unfold splice ao;rw[List.take_append_of_le_length (by simp),List.take_replicate];have e:(List.replicate (i+1) (A.v (.int .u8 0))++ds.map IL).drop (i+[IL c].length)=ds.map IL:=by
  rw[List.drop_append_of_le_length (by simp)];simp
 rw[e];simp
theorem Ti (i:Nat) (ds:List UInt8):(ao i ds).length=i+ds.length:=by simp[ao]
theorem QC (n:Nat) (h:n<16):([48,49,50,51,52,53,54,55,56,57,97,98,99,100,101,102,103,104,105,106,107,108,109,110,111,112,113,114,115,116,117,118,119,120,121,122]:List UInt8)[n]? = some (Mo n):=by
 have:∀ n:Nat,n<16→([48,49,50,51,52,53,54,55,56,57,97,98,99,100,101,102,103,104,105,106,107,108,109,110,111,112,113,114,115,116,117,118,119,120,121,122]:List UInt8)[n]? = some (Mo n):=by decide
 exact this n h
theorem Z2 (n:Nat) (h:n<18446744073709551616):bits .and .u64 (n:Int) 15=((n % 16:Nat):Int):=by
 have:=fu 4 (by decide) (x:=(n:Int)) (by omega) (by omega);simpa using this
variable {n0:Nat} {w0:World} {I0:Nat→Prop} {Q:Exit→Sta→Prop}
theorem qw:∀ (n:Nat) (i:Nat) (ds:List UInt8) (H:Hp),n<18446744073709551616→i≤65→(Az n).length≤i→H [0]=⟨1,.cells (ao i ds)⟩ →
  (∀ (H':Hp) (m i':Nat) (ds':List UInt8),H' [0]=⟨1,.cells (ao i' ds')⟩→m<16→Mo m::ds'=Az n++ds→i'+ds'.length=i+ds.length→1≤i'→i'≤65→Q (.exit 0) ⟨lk [(0,.sl true []),(1,uv m),(3,bv false),(4,bv false),(10,.sl true []),(11,S []),(12,.pob [0] 1 0),(13,iv i'),(14,uv 4),(15,uv 16),(16,uv 15),(46,bv false)],H'⟩) →
  LoopC (cx Tryz.prog w0 I0 n0) BQ Q ⟨lk [(0,.sl true []),(1,uv n),(3,bv false),(4,bv false),(10,.sl true []),(11,S []),(12,.pob [0] 1 0),(13,iv i),(14,uv 4),(15,uv 16),(16,uv 15)],H⟩:=by
 intro n;induction n using Nat.strongRecOn with
 |_ n ih=>
  intro i ds H hn hi hl hH hq;refine Ad mixed BQ.eq_1 ?_;have hp:=Ea n;by_cases h16:n<16
  ·simp[hH,show ¬ (16:Int)≤n by omega];exact hq H n i ds hH h16 (by rw[FH h16];rfl) rfl (by omega) hi
  ·have hge:=Hw (n:=n) (by omega);have hp2:=Ea (n / 16);have hl2:(Az n).length=(Az (n / 16)).length+1:=by rw[hge];simp
   obtain⟨j,rfl⟩:∃ j,i=j+1:=⟨i-1,by omega⟩;have e1:i64.wrap (j:Int)=(j:Int):=Ih;obtain⟨q,hqd⟩:∃ q,q=n / 16:=⟨_,rfl⟩;have e2:(n:Int) / 2 ^ min 4 u64.bits=(q:Int):=by
    rw[show min 4 u64.bits=4 from rfl];omega
   have hm:n % 16<16:=Nat.mod_lt _ (by omega);have h0:0≤(n:Int) % 16:=by omega
   have hdg:=QC _ hm;rw[show n % 16=((n:Int) % 16).toNat by omega] at hdg;simp[hH,show(16:Int)≤n by omega,Z2 n hn,e1,e2,h0,hdg,YQ,Ti];refine⟨by omega,?_⟩;refine ih q (by omega) j (Mo ((n:Int) % 16).toNat::ds) _ (by omega) (by omega) (by rw[hqd];omega) (by simp) fun H' m i' ds' g1 g2 g3 g4 g5 g6=>?_;refine hq H' m i' ds' g1 g2 ?_ (by rw[g4];simp;omega) g5 g6;rw[g3,hge,← hqd,show((n:Int) % 16).toNat=n % 16 by omega];simp
theorem TD (n:Nat) (hn:n<18446744073709551616):G.Spec Tryz.prog 112 [.sl true [],uv n,iv 16,bv false,bv false] (.tup [.sl false [],S (Az n)]):=by
 refine Ap F4 (by simp) fun w0 I0=>?_;unfold Dg;simp;rw[CQ.eq_1];simp;rw[CR.eq_1];simp;refine Af aW rfl ?_;simp;refine Af kc rfl ?_;have w4:u64.wrap 4=4:=by decide
 have w16:u64.wrap 16=16:=by decide
 have w15:u64.wrap (16-1)=15:=by decide
 simp[w4,w16,w15];have hlen:=fN 16 n (by omega) (by omega);refine qw n 65 [] _ hn (by omega) (by omega) (by simp;rfl) fun H' m i' ds' g1 g2 g3 g4 g5 g6=>?_;obtain⟨j,rfl⟩:∃ j,i'=j+1:=⟨i'-1,by omega⟩;have e1:i64.wrap (j:Int)=(j:Int):=Ih;have hdg:=QC m g2;simp at g3;simp at g4;simp[g1,e1,hdg,YQ,Ti,show(j:Int)<65 by omega];rw[C4.eq_1];simp;rw[C6.eq_1];simp;refine L5 (Yu (d:=[0]) (fun _ h=>h) 12 (.pim (ao j (Az n))) fun H1 h1=>Zf (cs:=ao j (Az n)) (by simp[h1,g3]) (Nr (List.all_eq_true.2 fun x hx=>?_)) ?_) (Ax ?_)
 ·unfold ao at hx;rcases List.mem_append.1 hx with hx | hx
  ·rw[List.eq_of_mem_replicate hx];rfl
  ·obtain⟨b,_,rfl⟩:=List.mem_map.1 hx;rfl
 ·unfold A.ones ao;rw[List.all_append,List.all_map,List.all_replicate];simp
 ·have hd:((ao j (Az n)).drop j).take (65-j)=(Az n).map IL:=by
   unfold ao;rw[List.drop_append_of_le_length (by simp),List.drop_replicate,Nat.sub_self,List.replicate_zero,List.nil_append,DE (by rw[← g3];simp;omega)]
  simp[Ti,show(j:Int)≤65 by omega,hd];exact⟨by rw[← g3];simp;omega,BL ⟨Ae,Ab rfl,trivial⟩⟩
theorem IB (n:Nat) (hn:n<18446744073709551616):G.Spec Tryz.prog 78 [uv n,iv 16] (S (Az n)):=by
 have h1:G.Spec Tryz.prog 108 [uv n,iv 16] (S (Az n)):=by
  refine Ap FZ (by simp) fun w0 I0=>?_;unfold Db;simp;refine Af (TD n hn) rfl ?_;simp;exact Ab rfl
 refine Ap JK (by simp) fun w0 I0=>?_;unfold F8;simp;refine Af h1 rfl ?_;simp;exact Ab rfl
def Shw (t:T):Prop:=∀ (a:Bool) (l:List UInt8) (v:Nat),l.length+(Am t).length≤70368744177664→∃ v',SpecF Tryz.prog 48 (fun r=>[bp r,tX t]) (ND a l v) (fun _=>.tup []) (ND true (l++Am t) v')
theorem Ry (l:List (List UInt8)) (x:List UInt8):(Aj l).length≤(Aj (l++[x])).length:=by
 rw[LC];split
 ·rename_i h;subst h;simp
 ·simp
theorem Iy {α:Type} (f:α→List UInt8) (l:List α):∀ (m i:Nat),i+m=l.length→(Aj ((l.take i).map f)).length≤(Aj (l.map f)).length
 |0,i,h=>by rw[DE (by omega)];exact CE _
 |m+1,i,h=>by
  have:=Iy f l m (i+1) (by omega);refine Nat.le_trans ?_ this;rw[LW (by omega),List.map_append];exact Ry _ _
theorem SD {α:Type} (f:α→List UInt8) (l:List α) (i:Nat) (hi:i<l.length):Aj ((l.take (i+1)).map f)=if i=0 then f l[i] else Aj ((l.take i).map f)++44::f l[i]:=by
 rw[LW hi,List.map_append,List.map_singleton,LC];by_cases h:i=0
 ·subst h;simp
 ·rw[if_neg h,if_neg];intro e;have:=congrArg List.length e;simp at this;rcases this with h1 | h1
  ·exact h h1
  ·subst h1;simp at hi
theorem pO {ks:List T} (hks:ks.length*56≤140737488355328) (ih:∀ c,c ∈ ks→Shw c) {l:List UInt8} (hl:l.length+(Aj (ks.map Am)).length≤70368744177664):∀ (m i v:Nat),i+m=ks.length→∃ v',∀ {n0:Nat} {w0:World} {I0:Nat→Prop} {M0:Nm→Nat→Prop} {m0:Mu} {Q:Exit→Sta→Prop} (H:Hp),(∀ p,H (0::p)=(ND true (l++Aj ((ks.take i).map Am)) v).F 0 p) →
  (∀ (H':Hp),(∀ p,H' (0::p)=(ND true (l++Aj (ks.map Am)) v').F 0 p)→Q (.exit 0) ⟨lk [(0,bp 0),(6,DY ks),(7,iv ks.length),(8,iv ks.length),(9,bv false)],H'⟩) →
  LoopC (HI Tryz.prog w0 I0 M0 n0 m0) FQ Q ⟨lk [(0,bp 0),(6,DY ks),(7,iv ks.length),(8,iv i)],H⟩:=by
 intro m;induction m with
 |zero=>
  intro i v hi;have:i=ks.length:=by omega
  subst this;refine⟨v,fun {n0 w0 I0 M0 m0 Q} H hH hq=>?_⟩;refine Ad mixed FQ.eq_1 ?_;simp;rw[List.take_length] at hH;exact hq H hH
 |succ m ihm=>
  intro i v hi;have hlt:i<ks.length:=by omega
  have hw:=SD Am ks i hlt;have hle:=Iy Am ks m (i+1) (by omega);have e1:=B0 i;by_cases h0:i=0
  ·subst h0;rw[if_pos rfl] at hw;obtain⟨v1,hS⟩:=ih _ (EI hlt) true l v (by rw[hw] at hle;omega);obtain⟨v',hL⟩:=ihm 1 v1 (by omega);refine⟨v',fun {n0 w0 I0 M0 m0 Q} H hH hq=>?_⟩;simp only[List.take_zero,List.map_nil,NA,List.append_nil] at hH;refine Ad mixed FQ.eq_1 ?_;simp[hlt];refine Ai 0 hS (fun p=>by simp[Aa,hH]) (by simp) (by simp) ?_;simp at e1;simp[e1];refine hL _ (fun p=>?_) hq;rw[hw];simp
  ·rw[if_neg h0] at hw;have hb:=CA true (l++Aj ((ks.take i).map Am)) v 44 (by rw[hw] at hle;simp at hle ⊢; omega);obtain⟨v1,hS⟩:=ih _ (EI hlt) true (l++Aj ((ks.take i).map Am)++[44]) (v+1) (by rw[hw] at hle;simp at hle ⊢; omega);obtain⟨v',hL⟩:=ihm (i+1) v1 (by omega);refine⟨v',fun {n0 w0 I0 M0 m0 Q} H hH hq=>?_⟩;refine Ad mixed FQ.eq_1 ?_;simp[hlt,show 0<i by omega];refine Ai 0 hb (fun p=>by simp[Aa,hH]) (by simp) (by simp) ?_;simp[Aa];refine Ai 0 hS (fun p=>by simp[Aa]) (by simp) (by simp) ?_;simp[e1];refine hL _ (fun p=>?_) hq;rw[hw];simp
theorem PU {ks:List T} (hks:ks.length*56≤140737488355328) (ih:∀ c,c ∈ ks→Shw c) {l:List UInt8} (hl:l.length+(Aj (ks.map Am)).length≤70368744177664) (v:Nat) :
  ∃ v',SpecF Tryz.prog 80 (fun r=>[bp r,DY ks]) (ND true l v) (fun _=>.tup []) (ND true (l++Aj (ks.map Am)) v'):=by
 obtain⟨v',hL⟩:=pO hks ih hl ks.length 0 v (by omega);refine⟨v',Bk Xm (by simp) (Ag AJ (Ag Ew Al)) (Bu Al) fun w0 I0 M0 m0=>?_⟩;unfold PM;simp;refine hL _ (fun p=>by simp) fun H' hH'=>?_;simp;exact Bn rfl rfl hH'
theorem iq {ws:List Int} {t:T} (htw:t.words=ws) (hws:ws.length*8≤140737488355328) (hwf:∀ x,x ∈ ws→EP x) {l:List UInt8} (hl:l.length+(Aj (ws.map fun x=>Az x.toNat)).length≤70368744177664):∀ (m i v:Nat),i+m=ws.length→∃ v',∀ {n0:Nat} {w0:World} {I0:Nat→Prop} {M0:Nm→Nat→Prop} {m0:Mu} {Q:Exit→Sta→Prop} (H:Hp),(∀ p,H (0::p)=(ND true (l++Aj ((ws.take i).map fun x=>Az x.toNat)) v).F 0 p)→H [1]=⟨1,.cells [iv t.kind,Gn t.words,DY t.kids]⟩ →
  (∀ (H':Hp),(∀ p,H' (0::p)=(ND true (l++Aj (ws.map fun x=>Az x.toNat)) v').F 0 p)→H' [1]=⟨1,.cells [iv t.kind,Gn t.words,DY t.kids]⟩→Q (.exit 1) ⟨lk [(0,bp 0),(3,.pob [1] 1 0),(32,Gn ws),(33,iv ws.length),(34,iv ws.length),(35,bv false)],H'⟩) →
  LoopC (HI Tryz.prog w0 I0 M0 n0 m0) E6 Q ⟨lk [(0,bp 0),(3,.pob [1] 1 0),(32,Gn ws),(33,iv ws.length),(34,iv i)],H⟩:=by
 intro m;induction m with
 |zero=>
  intro i v hi;have:i=ws.length:=by omega
  subst this;refine⟨v,fun {n0 w0 I0 M0 m0 Q} H hH hH1 hq=>?_⟩;refine Ad mixed E6.eq_1 ?_;simp;rw[List.take_length] at hH;exact hq H hH hH1
 |succ m ihm=>
  intro i v hi;have hlt:i<ws.length:=by omega
  have hw:=SD (fun x:Int=>Az x.toNat) ws i hlt;have hle:=Iy (fun x:Int=>Az x.toNat) ws m (i+1) (by omega);have e1:=B0 i;have hx:=hwf _ (EI hlt);unfold EP at hx;have hfmt:=IB ws[i].toNat (by omega);rw[Int.toNat_of_nonneg hx.1] at hfmt;by_cases h0:i=0
  ·subst h0;rw[if_pos rfl] at hw;have hb:=Ij true l v (Az ws[0].toNat) (by rw[hw] at hle;omega);obtain⟨v',hL⟩:=ihm 1 (v+1) (by omega);refine⟨v',fun {n0 w0 I0 M0 m0 Q} H hH hH1 hq=>?_⟩;simp only[List.take_zero,List.map_nil,NA,List.append_nil] at hH;refine Ad mixed E6.eq_1 ?_;simp[hlt];refine Af hfmt rfl ?_;simp;refine Ai 0 hb (fun p=>by simp[Aa,hH]) (by simp) (by simp) ?_;simp at e1;simp[e1];refine hL _ (fun p=>?_) (by simp[hH1]) hq;rw[hw];simp
  ·rw[if_neg h0] at hw;have hb:=CA true (l++Aj ((ws.take i).map fun x=>Az x.toNat)) v 44 (by rw[hw] at hle;simp at hle ⊢; omega);have hb2:=Ij true (l++Aj ((ws.take i).map fun x=>Az x.toNat)++[44]) (v+1) (Az ws[i].toNat) (by rw[hw] at hle;simp at hle ⊢; omega);obtain⟨v',hL⟩:=ihm (i+1) (v+1+1) (by omega);refine⟨v',fun {n0 w0 I0 M0 m0 Q} H hH hH1 hq=>?_⟩;refine Ad mixed E6.eq_1 ?_;simp[hlt,show 0<i by omega];refine Ai 0 hb (fun p=>by simp[Aa,hH]) (by simp) (by simp) ?_;simp[Aa];refine Af hfmt rfl ?_;simp;refine Ai 0 hb2 (fun p=>by simp[Aa]) (by simp) (by simp) ?_;simp[e1];refine hL _ (fun p=>?_) (by simp[hH1]) hq;rw[hw];simp
theorem Wa (k:Int) (h1:2≤k) (h2:k≤9):([46,46,118,98,121,116,102,101,112,99]:List UInt8)[k.toNat]? = some (Cn k):=by
 have:∀ n:Nat,n<10→([46,46,118,98,121,116,102,101,112,99]:List UInt8)[n]? = some (([46,46,118,98,121,116,102,101,112,99]:List UInt8).getD n 0):=by decide
 exact this k.toNat (by omega)
theorem lq:∀ t:T,CG t→Shw t:=by
 refine T.ind fun k w ks ih hwf a l v hl=>?_;have hW:=wfT_iff.1 hwf;have hk:=hW.k;have hww:=hW.w;have hwl:=hW.wl;have hkl:=hW.kl;simp at hk hww hwl hkl;have ihk:∀ c,c ∈ ks→Shw c:=fun c hc=>ih c hc (hW.ks c hc);have fam:FamL (fun r=>[bp r,tX (.mk k w ks)]):=Ag AJ (Ag (GN (cs:=[iv k,Gn w,DY ks]) rfl fun x hx=>by simp at hx;rcases hx with rfl | rfl | rfl<;>rfl) Al);rw[AY] at hl ⊢;by_cases hA:k=10∧w.length=1
 ·rw[if_pos hA] at hl ⊢;obtain⟨rfl,hw1⟩:=hA;obtain⟨x,rfl⟩:∃ x,w=[x]:=List.length_eq_one_iff.1 hw1;have hx:=hww x (by simp);unfold EP at hx;have hfmt:=IB x.toNat (by omega);rw[Int.toNat_of_nonneg hx.1] at hfmt;simp only[List.headD_cons] at hl ⊢;refine⟨v+1,Bk Ga (by simp) fam (Bu Al) fun w0 I0 M0 m0=>?_⟩;unfold EK;simp;refine Af hfmt rfl ?_;simp;refine Ai 0 (Ij a l v (Az x.toNat) (by omega)) (fun p=>by simp[Aa]) (by simp) (by simp) ?_;simp;exact Bn rfl rfl (fun p=>by simp)
 ·rw[if_neg hA] at hl ⊢;have hd:(decide (k=10)&&decide (w.length=1))=false:=by simpa using hA
  by_cases h1:k=1
  ·rw[if_pos h1] at hl ⊢;subst h1;have hb0:=CA a l v 123 (by simp at hl;omega);obtain⟨v1,hL⟩:=iq (t:=.mk 1 w ks) (ws:=w) rfl hwl hww (l:=l++[123]) (by simp at hl ⊢; omega) w.length 0 (v+1) (by omega);by_cases hks:ks=[]
   ·subst hks;obtain⟨v2,hA⟩:=PU (ks:=[]) (by simp) (by simp) (l:=l++[123]++Aj (w.map fun x=>Az x.toNat)) (by simp at hl ⊢; omega) v1;have hb1:=CA true (l++[123]++Aj (w.map fun x=>Az x.toNat)++Aj (([]:List T).map Am)) v2 125 (by simp at hl ⊢; omega);refine⟨v2+1,Bk Ga (by simp) fam (Bu Al) fun w0 I0 M0 m0=>?_⟩;unfold EK;simp;refine Ai 0 hb0 (fun p=>by simp[Aa]) (by simp) (by simp) ?_;simp;refine hL _ (fun p=>by simp) (by simp) fun H' g1 g2=>?_;simp[g2];refine Ai 0 hA g1 (by simp) (by simp) ?_;simp;refine Ai 0 hb1 (fun p=>by simp) (by simp) (by simp) ?_;simp;refine Bn rfl rfl (fun p=>?_);simp
   ·have hb1:=CA true (l++[123]++Aj (w.map fun x=>Az x.toNat)) v1 124 (by simp[hks] at hl ⊢; omega);obtain⟨v2,hA⟩:=PU hkl ihk (l:=l++[123]++Aj (w.map fun x=>Az x.toNat)++[124]) (by simp[hks] at hl ⊢; omega) (v1+1);have hb2:=CA true (l++[123]++Aj (w.map fun x=>Az x.toNat)++[124]++Aj (ks.map Am)) v2 125 (by simp[hks] at hl ⊢; omega);have hpos:0<ks.length:=by
     cases ks with
     |nil=>exact(hks rfl).elim
     |cons x y=>simp
    refine⟨v2+1,Bk Ga (by simp) fam (Bu Al) fun w0 I0 M0 m0=>?_⟩;unfold EK;simp;refine Ai 0 hb0 (fun p=>by simp[Aa]) (by simp) (by simp) ?_;simp;refine hL _ (fun p=>by simp) (by simp) fun H' g1 g2=>?_;simp[g2,hpos];refine Ai 0 hb1 g1 (by simp) (by simp) ?_;simp[g2];refine Ai 0 hA (fun p=>by simp) (by simp) (by simp) ?_;simp;refine Ai 0 hb2 (fun p=>by simp) (by simp) (by simp) ?_;simp;refine Bn rfl rfl (fun p=>?_);simp[hks]
  ·rw[if_neg h1] at hl ⊢;by_cases h2:2≤k∧k≤9
   ·rw[if_pos h2] at hl ⊢;have hg:=Wa k h2.1 h2.2;have hb0:=CA a l v (Cn k) (by simp at hl;omega);have hb1:=CA true (l++[Cn k]) (v+1) 91 (by simp at hl ⊢; omega);obtain⟨v2,hA⟩:=PU hkl ihk (l:=l++[Cn k]++[91]) (by simp at hl ⊢; omega) (v+1+1);have hb2:=CA true (l++[Cn k]++[91]++Aj (ks.map Am)) v2 93 (by simp at hl ⊢; omega);have hL:=IH k;rw[show(decide (2≤k)&&decide (k≤9))=true by simp[h2.1,h2.2]] at hL;refine⟨v2+1,Bk Ga (by simp) fam (Bu Al) fun w0 I0 M0 m0=>?_⟩;unfold EK;simp[h1,show ¬ k=10 by omega];refine Af hL rfl ?_;simp[hg,show 0≤k by omega];refine Ai 0 hb0 (fun p=>by simp[Aa]) (by simp) (by simp) ?_;simp;refine Ai 0 hb1 (fun p=>by simp) (by simp) (by simp) ?_;simp;refine Ai 0 hA (fun p=>by simp) (by simp) (by simp) ?_;simp;refine Ai 0 hb2 (fun p=>by simp) (by simp) (by simp) ?_;simp;exact Bn rfl rfl (fun p=>by simp)
   ·rw[if_neg h2] at hl ⊢;have hb0:=CA a l v 95 (by simp at hl;omega);have hL:=IH k;rw[show(decide (2≤k)&&decide (k≤9))=false by simp;omega] at hL;refine⟨v+1,Bk Ga (by simp) fam (Bu Al) fun w0 I0 M0 m0=>?_⟩;unfold EK;have go:∀ {H:Hp},(∀ p,H (0::p)=(ND a l v).F 0 p)→∀ {K:Sta→Prop} {s:Nat→A},True:=fun _ _ _=>trivial;by_cases h10:k=10
    ·subst h10;have hw1:¬ w.length=1:=fun e=>hA ⟨rfl,e⟩;have hw2:¬ (w.length:Int)=1:=by omega
     simp[hw2];refine Af hL rfl ?_;simp;refine Ai 0 hb0 (fun p=>by simp[Aa]) (by simp) (by simp) ?_;simp;exact Bn rfl rfl (fun p=>by simp)
    ·simp[h1,h10];refine Af hL rfl ?_;simp;refine Ai 0 hb0 (fun p=>by simp[Aa]) (by simp) (by simp) ?_;simp;exact Bn rfl rfl (fun p=>by simp)
theorem KD (t:T):Am t ≠ []:=by
 obtain⟨k,w,l⟩:=t;rw[AY];split
 ·intro e;have:=Ea (w.headD 0).toNat;rw[e] at this;simp at this
 ·split
  ·simp
  ·split<;>simp
theorem Iw {t:T} (h:CG t) (hl:(Am t).length≤70368744177664):G.Spec Tryz.prog 30 [tX t] (S (Am t)):=by
 obtain⟨v',hS⟩:=lq t h false [] 1 (by simpa using hl);simp only[List.nil_append] at hS;refine Ap Ud (by simp) fun w0 I0=>?_;unfold ML;simp;refine L5 (CZ (d:=[1,777777,39]) 1 [1,777777,39,777777,5] 1 rfl rfl (by simp)) (Ax ?_);simp;refine Ai 1 hS (fun p=>?_) (by simp) (by simp) ?_
 ·rw[dS];by_cases h1:p=[777777,39]
  ·subst h1;simp[Aa,Dj]
  ·by_cases h2:p=[777777,39,777777,5]
   ·subst h2;simp[Aa,Dj]
   ·simp[Aa,Dj,h1,h2,Ne.symm h1,Ne.symm h2]
 ·simp;refine Ai 1 (M8 (Am t) v' (KD t) (by omega)) (fun p=>by simp) (by simp) (by simp) ?_;simp;exact Ab rfl
end Go.Proofs.YtgkdikddjfgajaaGreatDoor
namespace Go.PL
def gr (p:List UInt8→T × Bool × Nat) (Q:T→Prop):Prop:=∀ t rest,Q t→(∀ c,rest.head? = some c→BN c=none)→p (Am t++rest)=(t,true,(Am t).length)
def YB (Q:T→Prop) (e:UInt8):Prop:=∀ t,Q t→∃ c r,Am t=c::r∧c ≠ e
theorem eI:BN 44=none:=by decide
theorem gA:BN 93=none:=by decide
theorem Uf:BN 125=none:=by decide
theorem Y5:BN 124=none:=by decide
section
variable {num:List UInt8→Nat × Bool × Nat}
theorem Wh (h:P3 num):∀ (ws:List Int) (f:Nat) (c:UInt8) (rest:List UInt8),ws ≠ []→(∀ x,x ∈ ws→0≤x∧x<18446744073709551616)→ws.length≤f→BN c=none→c ≠ 44 →
  Co num f (Aj (ws.map fun x=>Az x.toNat)++c::rest)=(ws,true,(Aj (ws.map fun x=>Az x.toNat)).length)
 |[],f,c,rest,hne,_,_,_,_=>(hne rfl).elim
 |[x],f,c,rest,_,hx,hf,hc,hc4=>by
  obtain⟨f,rfl⟩:∃ g,f=g+1:=⟨f-1,by simp at hf;omega⟩;have hx:=hx x (by simp);have hn:=h.of x.toNat (c::rest) (by omega) (fun y hy=>by simp at hy;rw[← hy];exact hc);simp only[List.map_cons,List.map_nil,SF];unfold Co;rw[hn];simp[hc4];omega
 |x::y::ws,f,c,rest,_,hx,hf,hc,hc4=>by
  obtain⟨f,rfl⟩:∃ g,f=g+1:=⟨f-1,by simp at hf;omega⟩;have hx0:=hx x (by simp);have ih:=Wh h (y::ws) f c rest (by simp) (fun z hz=>hx z (by simp[hz])) (by simp at hf ⊢; omega) hc hc4;have e:Aj ((x::y::ws).map fun x=>Az x.toNat)=Az x.toNat++44::Aj ((y::ws).map fun x=>Az x.toNat):=by
   rw[List.map_cons,Ez (by simp)]
  rw[e];generalize Aj ((y::ws).map fun x=>Az x.toNat)=J at ih;have hn:=h.of x.toNat (44::(J++c::rest)) (by omega) (fun y hy=>by simp at hy;rw[← hy];exact eI);rw[List.append_assoc,List.cons_append];unfold Co;rw[hn];have hd:List.drop ((Az x.toNat).length+1) (Az x.toNat++44::(J++c::rest))=J++c::rest:=by rw[List.drop_length_add_append];rfl
  simp only[if_true,List.drop_left,FA,hd,ih];simp;omega
theorem kY (h:P3 num):gr (KJ num) HG:=fun t rest ht hr=>by
 obtain⟨n,h1,h2,h3⟩:=NF ht;rw[h3];unfold KJ;rw[h.of n rest h2 hr,h1]
theorem Sm {p:List UInt8→T × Bool × Nat} {Q:T→Prop} (h:gr p Q) {e:UInt8} (he:BN e=none) (he4:e ≠ 44):∀ (l:List T) (f:Nat) (rest:List UInt8),l ≠ []→(∀ x,x ∈ l→Q x)→l.length≤f →
  Ch p e f (Aj (l.map Am)++e::rest)=(l,true,(Aj (l.map Am)).length+1)
 |[],f,rest,hne,_,_=>(hne rfl).elim
 |[x],f,rest,_,hx,hf=>by
  obtain⟨f,rfl⟩:∃ g,f=g+1:=⟨f-1,by simp at hf;omega⟩;have hn:=h x (e::rest) (hx x (by simp)) (fun y hy=>by simp at hy;rw[← hy];exact he);simp only[List.map_cons,List.map_nil,SF];unfold Ch;rw[hn];simp
 |x::y::l,f,rest,_,hx,hf=>by
  obtain⟨f,rfl⟩:∃ g,f=g+1:=⟨f-1,by simp at hf;omega⟩;have ih:=Sm h he he4 (y::l) f rest (by simp) (fun z hz=>hx z (by simp[hz])) (by simp at hf ⊢; omega);have e1:Aj ((x::y::l).map Am)=Am x++44::Aj ((y::l).map Am):=by
   rw[List.map_cons,Ez (by simp)]
  rw[e1];generalize Aj ((y::l).map Am)=J at ih;have hn:=h x (44::(J++e::rest)) (hx x (by simp)) (fun y hy=>by simp at hy;rw[← hy];exact eI);rw[List.append_assoc,List.cons_append];unfold Ch;rw[hn];have hd:List.drop ((Am x).length+1) (Am x++44::(J++e::rest))=J++e::rest:=by rw[List.drop_length_add_append];rfl
  have h4:((44:UInt8) == e)=false:=by simp;exact fun h=>he4 h.symm
  simp only[if_true,List.drop_left,FA,hd,ih,h4];simp;omega
theorem Io {α:Type} (f:α→List UInt8):∀ (l:List α),(∀ x,x ∈ l→1≤(f x).length)→l.length≤(Aj (l.map f)).length
 |[],_=>by simp
 |[x],h=>by simpa using h x (by simp)
 |x::y::l,h=>by
  have:=Io f (y::l) (fun z hz=>h z (by simp[hz]));rw[List.map_cons,Ez (by simp)];simp at this ⊢;omega
theorem Nl {α:Type} (f:α→List UInt8) {P:UInt8→Prop} {l:List α} (hne:l ≠ []) (h:∀ x,x ∈ l→∃ c r,f x=c::r∧P c):∃ c r,Aj (l.map f)=c::r∧P c:=by
 cases l with
 |nil=>exact(hne rfl).elim
 |cons x l=>
  obtain⟨c,r,h1,h2⟩:=h x (by simp);cases l with
  |nil=>exact⟨c,r,by simpa using h1,h2⟩
  |cons y l=>
   refine⟨c,r++44::Aj ((y::l).map f),?_,h2⟩;rw[List.map_cons,Ez (by simp),h1];rfl
theorem SV {p:List UInt8→T × Bool × Nat} {Q:T→Prop} (h:gr p Q) {e:UInt8} (he:BN e=none) (he4:e ≠ 44) (hQ:YB Q e) (l:List T) (rest:List UInt8) (hl:∀ x,x ∈ l→Q x) :
  Bc p e (Aj (l.map Am)++e::rest)=(l,true,(Aj (l.map Am)).length+1):=by
 unfold Bc;by_cases hne:l=[]
 ·subst hne;simp
 ·obtain⟨c,r,h1,h2⟩:=Nl Am (P:=fun c=>c ≠ e) hne (fun x hx=>hQ x (hl x hx));have h3:Bt (Aj (l.map Am)++e::rest) e=false:=by rw[h1];simp[h2]
  rw[h3];simp only[Bool.false_eq_true,if_false];have:=Io Am l (fun x hx=>by obtain⟨c,r,h1,_⟩:=hQ x (hl x hx);rw[h1];simp);exact Sm h he he4 l _ rest hne hl (by simp;omega)
theorem Ys:YB HG 93:=fun t ht=>by
 obtain⟨n,_,_,h⟩:=NF ht;have:=Ea n;cases hq:Az n with
 |nil=>rw[hq] at this;simp at this
 |cons c r=>
  refine⟨c,r,by rw[h,hq],fun e=>?_⟩;obtain⟨d,hd⟩:=Kb n c (by rw[hq];simp);rw[e,gA] at hd;cases hd
theorem Lv:∀ (d:Nat) (e:UInt8),e=93∨e=125→YB (Cw d) e:=fun d e he t ht=>by
 have key:t=T0∨t.kind=1∨(2≤t.kind∧t.kind≤9):=by
  cases d with
  |zero=>exact .inl ht
  |succ d=>
   rcases ht with h | h | h
   ·exact .inl h
   ·exact .inr (.inl h.1)
   ·exact .inr (.inr ⟨h.1,h.2.1⟩)
 rcases key with rfl | h | ⟨h1,h2⟩
 ·refine⟨95,[],by rw[AY];simp,?_⟩;rcases he with rfl | rfl<;>decide
 ·obtain⟨k,w,l⟩:=t;simp at h;subst h;refine⟨123,_,by rw[AY,if_neg (by omega),if_pos rfl],?_⟩;rcases he with rfl | rfl<;>decide
 ·obtain⟨k,w,l⟩:=t;simp at h1 h2;have:=SI h1 h2;refine⟨Cn k,_,by rw[AY,if_neg (by omega),if_neg (by omega),if_pos ⟨h1,h2⟩],?_⟩;rcases he with rfl | rfl
  ·exact this.2.2.2.2
  ·exact this.2.2.2.1
theorem U0 (d:Nat) (rest:List UInt8):AU num d (Am T0++rest)=(T0,true,(Am T0).length):=by
 have e:Am T0=[95]:=by rw[AY];simp
 rw[e];cases d with
 |zero=>rw[Lq];simp
 |succ d=>rw[Fz];simp
theorem QM (h:P3 num):∀ d (t:T) (rest:List UInt8),Cw d t→AU num d (Am t++rest)=(t,true,(Am t).length)
 |0,t,rest,ht=>by
  have ht:t=T0:=ht;subst ht;exact U0 0 rest
 |d+1,t,rest,ht=>by
  have ih:gr (AU num d) (Cw d):=fun t rest ht _=>QM h d t rest ht;rcases ht with rfl | ⟨h1,h2,h3⟩ | ⟨h1,h2,h3,h4⟩
  ·exact U0 _ rest
  ·obtain⟨k,w,l⟩:=t;simp at h1 h2 h3;subst h1;have eS:Am (.mk 1 w l)=123::(Aj (w.map fun x:Int=>Az x.toNat)++((if l=[] then [] else 124::Aj (l.map Am))++[125])):=by rw[AY,if_neg (by omega),if_pos rfl]
   rw[eS,Fz];have tail:∀ (ws:List Int),Mq (Bc (AU num d) 125) ws ((if l=[] then [] else 124::Aj (l.map Am))++125::rest)=(.mk 1 ws l,true,((if l=[] then [] else 124::Aj (l.map Am))++[125]).length):=fun ws=>by
    unfold Mq;by_cases hl:l=[]
    ·subst hl;simp
    ·obtain⟨c,r,c1,c2⟩:=Nl Am (P:=fun c=>c ≠ 125) hl (fun x hx=>Lv d 125 (.inr rfl) x (h3 x hx));have hk:=SV ih Uf (by decide) (Lv d 125 (.inr rfl)) l rest h3;have h6:(Aj (l.map Am)++125::rest).headD 0 ≠ 125:=by rw[c1];simpa using c2
     have a1:((124:UInt8) == 125)=false:=by decide
     simp only[hl,if_false,List.cons_append,FA,a1,Bool.false_eq_true,List.drop_succ_cons,List.drop_zero,if_neg h6,hk];simp;omega
   have hst:CL num (Bc (AU num d) 125) (Aj (w.map fun x:Int=>Az x.toNat)++((if l=[] then [] else 124::Aj (l.map Am))++125::rest)) =
     (.mk 1 w l,true,(Aj (w.map fun x:Int=>Az x.toNat)++((if l=[] then [] else 124::Aj (l.map Am))++[125])).length):=by
    unfold CL;by_cases hw:w=[]
    ·subst hw;simp only[List.map_nil,NA,List.nil_append];by_cases hl:l=[]
     ·subst hl;simp
     ·have a1:((124:UInt8) == 125)=false:=by decide
      have b1:Bt ((if l=[] then [] else 124::Aj (l.map Am))++125::rest) 125=false:=by simp[hl]
      have b2:SP num ((if l=[] then [] else 124::Aj (l.map Am))++125::rest)=([],true,0):=by
       unfold SP;simp[hl]
      rw[b1,b2];simp only[Bool.false_eq_true,if_false,if_true,List.drop_zero,tail];simp
    ·obtain⟨c,r,c1,x,c2⟩:=Nl (fun x:Int=>Az x.toNat) (P:=fun c=>∃ d,BN c=some d) hw (fun x hx=>by
      have:=Ea x.toNat;cases hq:Az x.toNat with
      |nil=>rw[hq] at this;simp at this
      |cons c r=>exact⟨c,r,rfl,Kb x.toNat c (by rw[hq];simp)⟩)
     have n1:c ≠ 125:=fun e=>by rw[e,Uf] at c2;cases c2
     have n2:c ≠ 124:=fun e=>by rw[e,Y5] at c2;cases c2
     generalize hT:(if l=[] then [] else 124::Aj (l.map Am))=TL at tail;have hTL:∃ y r,TL++125::rest=y::r∧BN y=none∧y ≠ 44:=by
      by_cases hl:l=[]
      ·rw[if_pos hl] at hT;subst hT;exact⟨125,rest,rfl,Uf,by decide⟩
      ·rw[if_neg hl] at hT;subst hT;exact⟨124,_,rfl,Y5,by decide⟩
     obtain⟨y,r',d1,d2,d3⟩:=hTL;have b1:Bt (Aj (w.map fun x:Int=>Az x.toNat)++(TL++125::rest)) 125=false:=by rw[c1];simp[n1]
     have b2:SP num (Aj (w.map fun x:Int=>Az x.toNat)++(TL++125::rest))=(w,true,(Aj (w.map fun x:Int=>Az x.toNat)).length):=by
      unfold SP;rw[if_pos (by rw[c1];simpa using n2),d1];have hlen:=Io (fun x:Int=>Az x.toNat) w (fun x _=>Ea _);exact Wh h w _ y r' hw h2 (by simp;omega) d2 d3
     rw[b1,b2];simp only[Bool.false_eq_true,if_false,if_true,List.drop_left,tail];simp
   have a1:((123:UInt8) == 95)=false:=by decide
   have e2:(Aj (w.map fun x:Int=>Az x.toNat)++((if l=[] then [] else 124::Aj (l.map Am))++[125]))++rest=Aj (w.map fun x:Int=>Az x.toNat)++((if l=[] then [] else 124::Aj (l.map Am))++125::rest):=by simp
   simp only[List.cons_append,FA,a1,Bool.false_eq_true,if_false,beq_self_eq_true,if_true,List.drop_succ_cons,List.drop_zero,e2,hst];simp;omega
  ·obtain⟨k,w,l⟩:=t;simp at h1 h2 h3 h4;subst h3;obtain⟨l1,l2,l3,l4,l5⟩:=SI h1 h2;have eS:Am (.mk k [] l)=Cn k::91::(Aj (l.map Am)++[93]):=by rw[AY,if_neg (by omega),if_neg (by omega),if_pos ⟨h1,h2⟩]
   have of:gr (if E5 k=true then KJ num else AU num d) (fun c=>if E5 k=true then HG c else Cw d c):=by
    by_cases hD:E5 k=true
    ·simp only[hD,if_true];exact kY h
    ·simp only[hD,if_false];exact ih
   have hh:YB (fun c=>if E5 k=true then HG c else Cw d c) 93:=by
    by_cases hD:E5 k=true
    ·simp only[hD,if_true];exact Ys
    ·simp only[hD,if_false];exact Lv d 93 (.inl rfl)
   have hk:=SV of gA (by decide) hh l rest h4;have e2:(Aj (l.map Am)++[93])++rest=Aj (l.map Am)++93::rest:=by simp
   have a1:(Cn k == 95)=false:=by simpa using l2
   have a2:(Cn k == 123)=false:=by simpa using l3
   rw[eS,Fz];simp only[List.cons_append,FA,a1,a2,Bool.false_eq_true,if_false,List.headD_cons,l1,if_neg (show ¬ k<2 by omega),List.drop_succ_cons,List.drop_zero,beq_self_eq_true,if_true,e2,hk];simp;omega
theorem Ya {num num':List UInt8→Nat × Bool × Nat} (h:P3 num) (h':P3 num') {d:Nat} {s:List UInt8} {t:T} (q:AU num d s=(t,true,s.length)):AU num' d s=(t,true,s.length)∧Am t=s∧Cw d t:=by
 obtain⟨h1,h2,h3⟩:=LY h d s t s.length q;have h4:Am t=s:=by rw[← h1];simp
 have:=QM h' d t [] h3;rw[List.append_nil,h4] at this;exact⟨this,h4,h3⟩
end
end Go.PL
namespace Go.Proofs.YtgkdikddjfgajaaGreatDoor
open Go Go.G Go.Proofs Go.PL
def CF (s:List UInt8) (at':Nat):Fam:=⟨fun _ p=>if p=[] then ⟨1,.cells [S s,iv at']⟩ else ⟨0,.none⟩,fun {g δ r r'} hg hd p=>by
  by_cases hp:p=[]
  ·rw[if_pos hp];exact Fam.cells_ren (by simp[A.renL,A.ren])
  ·rw[if_neg hp];rfl,fun {D r} hD p=>by
  by_cases hp:p=[]
  ·rw[if_pos hp];simp[Ob.refs,A.refsL,A.refs]
  ·rw[if_neg hp];trivial⟩
@[simp] theorem Ady {s:List UInt8} {k r:Nat} {p:Nm}:(CF s k).F r p=if p=[] then ⟨1,.cells [S s,iv k]⟩ else ⟨0,.none⟩:=rfl
abbrev pp (r:Nat):A:=.pob [r] 1 0
theorem GX {s:List UInt8} {k:Nat} (h:k<s.length):s.drop k=s[k]::s.drop (k+1):=List.drop_eq_getElem_cons h
def Ej (r:List UInt8):UInt8:=r.headD 0
theorem QX {s:List UInt8} {k:Nat} (h:k<s.length):Ej (s.drop k)=s[k]:=by rw[GX h];rfl
theorem MP {s:List UInt8}:Ej (s.drop s.length)=0:=by rw[List.drop_length];rfl
theorem Kl (s:List UInt8) (k:Nat) (hk:k≤s.length):SpecF Tryz.prog 63 (fun r=>[pp r]) (CF s k) (fun _=>IL (Ej (s.drop k))) (CF s k):=by
 refine Bk Lx (by simp) (Ag AJ Al) AO fun w0 I0 M0 m0=>?_;unfold GV;by_cases h:k=s.length
 ·subst h;rw[MP];simp;exact AK rfl rfl (fun p=>by simp)
 ·have hlt:k<s.length:=by omega
  rw[QX hlt];simp[show ¬ (k:Int)=s.length by omega,hlt];exact AK rfl rfl (fun p=>by simp)
def one (b:Bool):Nat:=if b=true then 1 else 0
@[simp] theorem yH:one true=1:=rfl
@[simp] theorem rF:one false=0:=rfl
theorem Ed (s:List UInt8) (k:Nat) (c:UInt8) (hk:k≤s.length):(Bt (s.drop k) c=true∧k<s.length∧Ej (s.drop k)=c)∨(Bt (s.drop k) c=false∧(k=s.length∨Ej (s.drop k) ≠ c)):=by
 by_cases h:k=s.length
 ·right;subst h;rw[List.drop_length];exact⟨rfl,.inl rfl⟩
 ·have hlt:k<s.length:=by omega
  rw[GX hlt,FA];by_cases e:s[k]=c
  ·left;exact⟨by simpa using e,hlt,e⟩
  ·right;exact⟨by simpa using e,.inr e⟩
theorem u8_inj {a b:UInt8}:((a.toNat:Int)=b.toNat) ↔ a=b:=by
 rw[Int.natCast_inj];exact UInt8.toNat_inj
theorem D7 (s:List UInt8) (k:Nat) (c:UInt8) (hk:k≤s.length) (hs:s.length≤1000000000):SpecF Tryz.prog 60 (fun r=>[pp r,IL c]) (CF s k) (fun _=>bv (Bt (s.drop k) c)) (CF s (k+one (Bt (s.drop k) c))):=by
 refine Bk L6 (by simp) (Ag AJ (Ag AO Al)) AO fun w0 I0 M0 m0=>?_;unfold Ho;have hn:=Kl s k hk;rcases Ed s k c hk with ⟨h1,h2,h3⟩ | ⟨h1,h2⟩
 ·rw[h1];rw[h3] at hn;have e1:=B0 k;simp;refine Ai 0 hn (fun p=>by simp) (by simp) (by simp) ?_;simp[e1,show ¬ (k:Int)=s.length by omega];exact AK rfl rfl (fun p=>by by_cases hp:p=[]<;>simp[hp,Aa])
 ·rw[h1];by_cases h3:Ej (s.drop k)=c
  ·have h4:k=s.length:=by
    rcases h2 with h2 | h2
    ·exact h2
    ·exact(h2 h3).elim
   rw[h3] at hn;simp;refine Ai 0 hn (fun p=>by simp) (by simp) (by simp) ?_;simp[h4];exact AK rfl rfl (fun p=>by simp)
  ·have h4:¬ ((Ej (s.drop k)).toNat:Int)=c.toNat:=fun e=>h3 (u8_inj.1 e);generalize Ej (s.drop k)=x at hn h4;simp;refine Ai 0 hn (fun p=>by simp) (by simp) (by simp) ?_;simp[h4];exact AK rfl rfl (fun p=>by simp)
set_option maxRecDepth 100000 in
theorem Qd (c:UInt8):A6 [48,49,50,51,52,53,54,55,56,57,97,98,99,100,101,102] c=match BN c with | some d=>(d:Int) | none=>-1:=by
 have:∀ n:Fin 256,A6 [48,49,50,51,52,53,54,55,56,57,97,98,99,100,101,102] (UInt8.ofNat n.val)=match BN (UInt8.ofNat n.val) with | some d=>(d:Int) | none=>-1:=by decide +kernel
 have h:=this ⟨c.toNat,c.toNat_lt⟩;simpa using h
theorem fJ (c:UInt8):G.Spec Tryz.prog 139 [IL c] (.tup [uv ((BN c).getD 0:Nat),bv (BN c).isSome]):=by
 refine Ap Xr (by simp) fun w0 I0=>?_;unfold Qo;simp;refine Af (Jy _ c) rfl ?_;rw[Qd];cases h:BN c with
 |none=>simp;exact Ab rfl
 |some d=>
  have hd:=(Ki h).1;have e:u64.wrap (d:Int)=d:=Cr (by omega) (by omega);simp[e];exact Ab rfl
theorem Ac1 (n d:Nat) (hn:n<1152921504606846976) (hd:d<16):bits .or .u64 (u64.wrap ((n:Int)*2 ^ min (Int.toNat 4) u64.bits)) (d:Int)=((n*16+d:Nat):Int):=by
 have e:u64.wrap ((n:Int)*2 ^ min (Int.toNat 4) u64.bits)=((n*16:Nat):Int):=by
  rw[show min (Int.toNat 4) u64.bits=4 from rfl,Cr (by omega) (by omega)];omega
 rw[e,bits_or_u64_nat _ _ (by omega) (by omega)];have:=Nat.two_pow_add_eq_or_of_lt (i:=4) (b:=d) (by omega) n;rw[show(2:Nat) ^ 4*n=n*16 by omega] at this;rw[← this]
variable {n0:Nat} {w0:World} {I0:Nat→Prop} {M0:Nm→Nat→Prop} {m0:Mu} {Q:Exit→Sta→Prop}
theorem ph {s:List UInt8} (hs:s.length≤1000000000) {k0:Nat}:∀ (r:List UInt8) (k n:Nat) (H:Hp),s.drop k=r→k≤s.length→n<18446744073709551616→(∀ p,H (0::p)=(CF s k).F 0 p) →
  (∀ (H':Hp) (s6 s7 s22:A),(∀ p,H' (0::p)=(CF s (k+(AN n r).2)).F 0 p)→Q (.exit 0) ⟨lk [(0,pp 0),(4,iv k0),(5,uv (AN n r).1),(22,s22)],H'⟩) →
  (∀ (H':Hp) (s6 s7 s22:A),(∀ p,H' (0::p)=(CF s (k+(AN n r).2)).F 0 p)→Q (.exit 0) ⟨lk [(0,pp 0),(4,iv k0),(5,uv (AN n r).1),(6,s6),(42,s22)],H'⟩) →
  LoopC (HI Tryz.prog w0 I0 M0 n0 m0) Cm Q ⟨lk [(0,pp 0),(4,iv k0),(5,uv n)],H⟩:=by
 intro r;induction r with
 |nil=>
  intro k n H hr hk hn hH hq hq2;have hke:k=s.length:=by
   have:=congrArg List.length hr;simp at this;omega
  refine Ad mixed Cm.eq_1 ?_;simp[hH,hke];exact hq H .any .any _ (fun p=>by rw[hH];simp[AN,hke])
 |cons x r ih=>
  intro k n H hr hk hn hH hq hq2;have hlt:k<s.length:=by
   have:=congrArg List.length hr;simp at this;omega
  refine Ad mixed Cm.eq_1 ?_;have hx:s[k]=x:=by
   rw[GX hlt] at hr;exact(List.cons.inj hr).1
  have hr':s.drop (k+1)=r:=by
   rw[GX hlt] at hr;exact(List.cons.inj hr).2
  have hcall:=fJ x;have stop:AN n (x::r)=(n,0)→∀ (H:Hp) (s6 s42:A),(∀ p,H (0::p)=(CF s k).F 0 p)→Q (.exit 0) ⟨lk [(0,pp 0),(4,iv k0),(5,uv n),(6,s6),(42,s42)],H⟩:=fun e H s6 s42 hH=>by
   have:=hq2 H s6 .any s42 (fun p=>by rw[hH,e];rfl)
   rwa [e] at this
  simp[hH,hlt,hx];refine Af hcall rfl ?_;cases hv:BN x with
  |none=>
   simp;exact stop (by rw[AN,hv]) _ _ _ hH
  |some d=>
   have hd:=(Ki hv).1;by_cases hbig:n<1152921504606846976
   ·have hsh:(n:Int) / 2 ^ min 60 u64.bits=0:=by
     rw[show min 60 u64.bits=60 from rfl];omega
    have hor:=Ac1 n d hbig hd;have e1:=B0 k;have en:AN n (x::r)=((AN (n*16+d) r).1,(AN (n*16+d) r).2+1):=by rw[AN,hv];simp[hbig]
    rw[en] at hq hq2;obtain⟨q,hqq⟩:∃ q,q=n*16+d:=⟨_,rfl⟩;rw[← hqq] at hor hq hq2;rw[show min (Int.toNat 4) u64.bits=min 4 u64.bits from rfl] at hor;simp[hsh,hor,hH,e1];refine ih (k+1) q _ hr' (by omega) (by omega) (fun p=>?_) (fun H' s6 s7 s22 h=>hq H' s6 s7 s22 (fun p=>by rw[h,show k+1+(AN q r).2=k+((AN q r).2+1) by omega])) (fun H' s6 s7 s22 h=>hq2 H' s6 s7 s22 (fun p=>by rw[h,show k+1+(AN q r).2=k+((AN q r).2+1) by omega]));by_cases hp:p=[]<;>simp[hp,Aa,hH]
   ·have hsh:¬ (n:Int) / 2 ^ min 60 u64.bits=0:=by
     rw[show min 60 u64.bits=60 from rfl];omega
    simp[hsh];exact stop (by rw[AN,hv];simp[hbig]) _ _ _ hH
theorem Oh {s:List UInt8} (hs:s.length≤1000000000) (k:Nat) (hk:k≤s.length):SpecF Tryz.prog 98 (fun r=>[pp r]) (CF s k) (fun _=>.tup [uv ((AB (s.drop k)).1:Nat),bv (AB (s.drop k)).2.1]) (CF s (k+(AB (s.drop k)).2.2)):=by
 refine Bk JQ (by simp) (Ag AJ Al) (Bu (Ag AO (Ag AO Al))) fun w0 I0 M0 m0=>?_;unfold F2;simp;have hle:=(Ml (s.drop k) 0 (by omega)).2;rw[List.length_drop] at hle;have fin:∀ (H':Hp),(∀ p,H' (0::p)=(CF s (k+(AN 0 (s.drop k)).2)).F 0 p)→WPC (HI Tryz.prog w0 I0 M0 77 m0) DK (HK (HI Tryz.prog w0 I0 M0 77 m0) [.tmp 2,.tmp 3] 1 (.tup [uv ((AB (s.drop k)).1:Nat),bv (AB (s.drop k)).2.1]) (ov 0 ((CF s (k+(AB (s.drop k)).2.2)).F 0) (Dj []))) ⟨lk [(0,pp 0),(4,iv k),(5,uv ((AN 0 (s.drop k)).1:Nat))],H'⟩:=fun H' h=>by
  have e1:i64.wrap ((k:Int)+((AN 0 (s.drop k)).2:Int)-k)=((AN 0 (s.drop k)).2:Int):=H9;have en:AB (s.drop k)=((AN 0 (s.drop k)).1,decide (0<(AN 0 (s.drop k)).2)&&(decide ((AN 0 (s.drop k)).2=1) || decide (Ej (s.drop k) ≠ 48)),(AN 0 (s.drop k)).2):=rfl;rw[en];have hnx:0<(AN 0 (s.drop k)).2→Ej (s.drop k)=s.getD k 0:=fun h0=>by rw[QX (by omega)];simp[List.getD,show k<s.length by omega]
  generalize Ej (s.drop k)=nx at hnx;generalize (AN 0 (s.drop k)).1=n at *;generalize (AN 0 (s.drop k)).2=j at *;rw[DK.eq_1];by_cases h0:j=0
  ·subst h0;simp at e1;simp[h,e1];exact AK rfl rfl (fun p=>h p)
  ·by_cases h1:j=1
   ·subst h1;simp at e1;simp[h,e1];exact AK rfl rfl (fun p=>h p)
   ·have hlt:k<s.length:=by omega
    have hx:=hnx (by omega);have hg:s.getD k 0=s[k]:=by simp[List.getD,hlt]
    rw[hg] at hx;subst hx;simp[h,e1,show 0<j by omega,show ¬ (j:Int)=1 by omega,hlt];refine AK rfl ?_ (fun p=>h p);have h48:((s[k].toNat:Int)=48) ↔ s[k]=48:=u8_inj (b:=48);simp[h1,h48]
 refine ph hs (s.drop k) k 0 _ rfl hk (by omega) (fun p=>by simp) (fun H' s6 s7 s22 h=>?_) (fun H' s6 s7 s22 h=>?_)
 ·simp;exact fin H' h
 ·simp;exact fin H' h
theorem kR {l:List T}:∀ x,x ∈ l.map tA→DV (fun _=>x):=fun x hx=>by
 obtain⟨t,_,rfl⟩:=List.mem_map.1 hx;exact GN (tA_eq t) fun y hy=>by
  simp at hy;rcases hy with rfl | rfl | rfl<;>rfl
abbrev trM (u:Nat) (l:List T):Fam:=pE u 3 (l.map tA) kR
section
variable {n0:Nat} {w0:World} {I0:Nat→Prop} {Q:Exit→Sta→Prop} {H:Hp}
end
theorem QE {c:Cx} {s:Nat→A} {H:Hp} (t:Nat):Le c ⟨s,H⟩ ⟨upd s t (A.soft (s t)),H⟩:=fun a w I μ hs=>
 ⟨I,μ,hs.sim,hs.size,hs.defers,fun k=>by
  show Rel w I μ (upd s t (A.soft (s t)) k) _;unfold upd;split
  ·rename_i e;subst e;exact(hs.rel _).soft
  ·exact hs.rel k⟩
section
variable {n0:Nat} {w0:World} {I0:Nat→Prop} {Q:Exit→Sta→Prop}
end
theorem Us {α:Type} {H:Hp} {o:Nm} {u n sz:Nat} {l:List α} {f g:α→A} (h:vr (H o) u=some (sz,l.map f)) (hn:n=l.length)
  (hf:∀ x,x ∈ l→(f x).cells.all A.bare=true∧(f x).cells.map A.soft=(g x).cells∧(g x).cells.length=sz∧A.ones (g x).cells=true):Jw H (.osl o u sz 0 n) (.sl false (l.map g)):=by
 subst hn;refine P7 (xs:=l.map f) (by simpa using h) (by simp) (by simp) (fun y hy=>?_) ?_ ?_
 ·obtain⟨x,hx,rfl⟩:=List.mem_map.1 hy;exact(hf x hx).2.2.1
 ·simp only[A.ones,List.all_eq_true,List.mem_flatMap];rintro y ⟨z,hz,hy⟩;obtain⟨x,hx,rfl⟩:=List.mem_map.1 hz;have:=(hf x hx).2.2.2;simp only[A.ones,List.all_eq_true] at this;exact this y hy
 ·rw[List.drop_zero,DE (by simp)];have:∀ (m:List α),(∀ x,x ∈ m→x ∈ l)→FF H ((m.map f).flatMap A.cells) ((m.map g).flatMap A.cells):=by
   intro m;induction m with
   |nil=>intro _;simp
   |cons x m ih=>
    intro hm;obtain⟨h1,h2,_,_⟩:=hf x (hm x (by simp));simp only[List.map_cons,List.flatMap_cons];rw[← h2];have hr:=ih fun y hy=>hm y (by simp[hy]);have:∀ (c:List A) (p q:List A),c.all A.bare=true→FF H p q→FF H (c++p) (c.map A.soft++q):=by
     intro c;induction c with
     |nil=>intro p q _ hpq;exact hpq
     |cons y c ihc=>
      intro p q hc hpq;simp only[List.all_cons,Bool.and_eq_true] at hc;exact⟨fW hc.1,ihc p q hc.2 hpq⟩
    exact this _ _ _ h1 hr
  exact this l fun x h=>h
section
variable {n0:Nat} {w0:World} {I0:Nat→Prop}
end
theorem Pe (r:List UInt8):(AB r).2.2≤r.length:=(Ml r 0 (by omega)).2
theorem YS {n0:Nat} {w0:World} {I0:Nat→Prop} {M0:Nm→Nat→Prop} {m0:Mu} {Q:Exit→Sta→Prop} {s:List UInt8} (hs:s.length≤1000000000):∀ (f k:Nat) (acc:List Int) (v:Nat) (H:Hp),s.length-k<f→k≤s.length→acc.length≤k→(∀ p,H (0::p)=(CF s k).F 0 p)→H [1]=⟨v,.arr 1 (acc.map uv)⟩ →
  ((Co AB f (s.drop k)).2.1=false→∀ H':Hp,(∀ p,H' (0::p)=(CF s (k+(Co AB f (s.drop k)).2.2)).F 0 p)→Q .ret ⟨lk [(2,.sl true []),(3,bv false)],H'⟩) →
  ((Co AB f (s.drop k)).2.1=true→∀ (H':Hp) (v':Nat),(∀ p,H' (0::p)=(CF s (k+(Co AB f (s.drop k)).2.2)).F 0 p)→H' [1]=⟨v',.arr 1 ((acc++(Co AB f (s.drop k)).1).map uv)⟩→Q .ret ⟨lk [(2,.osl [1] v' 1 0 (acc++(Co AB f (s.drop k)).1).length),(3,bv true)],H'⟩) →
  LoopC (HI Tryz.prog w0 I0 M0 n0 m0) Dw Q ⟨lk [(0,pp 0),(4,.osl [1] v 1 0 acc.length)],H⟩:=by
 intro f;induction f with
 |zero=>intro k acc v H hf;omega
 |succ f ih=>
  intro k acc v H hf hk hacc hH hH1 hq0 hq1;have hn:=Oh hs k hk;have hle:=Pe (s.drop k);rw[List.length_drop] at hle;refine Ad mixed Dw.eq_1 ?_;simp;refine Ai 0 hn hH (by simp) (by simp) ?_;rw[Co] at hq0 hq1;by_cases ho:(AB (s.drop k)).2.1=true
  ·rw[if_pos ho] at hq0 hq1;have hpos:0<(AB (s.drop k)).2.2:=by
    have:(AB (s.drop k)).2.1=true:=ho;unfold AB at this;simp only[Bool.and_eq_true,decide_eq_true_eq] at this;exact this.1
   generalize hN:AB (s.drop k)=N at *;have hk1:k+N.2.2≤s.length:=by omega
   have he:=D7 s (k+N.2.2) 44 hk1 hs;rw[List.drop_drop] at hq0 hq1;simp[ho,hH1,Mc];refine⟨by omega,?_⟩;refine Ai 0 he (fun p=>by simp[Aa]) (by simp) (by simp) ?_;by_cases hc:Bt (s.drop (k+N.2.2)) 44=true
   ·rw[if_pos hc] at hq0 hq1;rw[List.drop_drop] at hq0 hq1;have hlt:k+N.2.2<s.length:=by
     rcases Ed s (k+N.2.2) 44 hk1 with h | h
     ·exact h.2.1
     ·rw[h.1] at hc;cases hc
    rw[hc];simp;refine LoopC.le (Be [(0,pp 0),(4,.osl [1] (v+1) 1 0 (acc++[(N.1:Int)]).length)] (by simp)) ?_;rw[show k+N.2.2+1=k+(N.2.2+1) by omega];refine ih (k+(N.2.2+1)) (acc++[(N.1:Int)]) (v+1) _ (by omega) (by omega) (by simp;omega) (fun p=>by simp) (by simp) (fun h H' h1=>?_) (fun h H' v' h1 h2=>?_)
    ·exact hq0 h H' (fun p=>(h1 p).trans (by rw[Nat.add_assoc]))
    ·have:=hq1 h H' v' (fun p=>(h1 p).trans (by rw[Nat.add_assoc])) (by simp[h];simpa using h2);simpa[h] using this
   ·rw[if_neg hc] at hq0 hq1;simp only[Bool.not_eq_true] at hc;rw[hc];simp;have:=hq1 rfl (ov 0 ((CF s (k+N.2.2)).F 0) (Ar H [1] ⟨v+1,.arr 1 (acc.map uv++[uv N.1])⟩)) (v+1) (fun p=>by simp) (by simp);simpa using this
  ·rw[if_neg ho] at hq0 hq1;simp only[Bool.not_eq_true] at ho;simp[ho];exact hq0 rfl _ (fun p=>by simp)
theorem ZJ {s:List UInt8} (hs:s.length≤1000000000) (k:Nat) (hk:k≤s.length) (f:Nat) (hf:s.length-k<f):∃ x,SpecF Tryz.prog 96 (fun r=>[pp r]) (CF s k) (fun _=>.tup [x,bv (Co AB f (s.drop k)).2.1]) (CF s (k+(Co AB f (s.drop k)).2.2)) ∧
  ((Co AB f (s.drop k)).2.1=true→x=Gn (Co AB f (s.drop k)).1)∧((Co AB f (s.drop k)).2.1=false→x = .sl false []):=by
 cases hb:(Co AB f (s.drop k)).2.1 with
 |false=>
  refine⟨.sl false [],Ef Fq (by simp) (Ag AJ Al) (Bu (Ag Ew (Ag AO Al))) fun w0 I0 M0 m0 hM=>?_,(fun h=>by cases h),fun _=>rfl⟩;unfold DJ;simp;refine LoopC.le (EV 4 [1] 1 (by simp)) ?_;refine LoopC.le (Be [(0,pp 0),(4,.osl [1] 1 1 0 ([]:List Int).length)] (by simp[upd])) ?_;refine YS hs f k [] 1 _ hf hk (by simp) (fun p=>by simp) (by simp) (fun h H' h1=>?_) (fun h=>by rw[hb] at h;cases h);simp;refine DQ (QE 2) (AK (r0:=.tup [.sl false [],bv false]) (by simp[upd,A.soft,A.softL]) rfl h1)
 |true=>
  refine⟨Gn (Co AB f (s.drop k)).1,Ef Fq (by simp) (Ag AJ Al) (Bu (Ag Ew (Ag AO Al))) fun w0 I0 M0 m0 hM=>?_,fun _=>rfl,(fun h=>by cases h)⟩;unfold DJ;simp;refine LoopC.le (EV 4 [1] 1 (by simp)) ?_;refine LoopC.le (Be [(0,pp 0),(4,.osl [1] 1 1 0 ([]:List Int).length)] (by simp[upd])) ?_;refine YS hs f k [] 1 _ hf hk (by simp) (fun p=>by simp) (by simp) (fun h=>by rw[hb] at h;cases h) (fun h H' v' h1 h2=>?_);simp at h2;simp;obtain⟨H2,g1,g2⟩:=PA (c:=HI Tryz.prog w0 I0 M0 22 m0) (s:=lk [(2,.osl [1] v' 1 0 (Co AB f (s.drop k)).1.length),(3,bv true)]) (H:=H') (fun r=>1≤r) (fun r p b hr=>hM r p b hr) 2 (Gn (Co AB f (s.drop k)).1) (fun H1 e1=>by
   have e2:H1 [1]=H' [1]:=e1 1 [] (CE _);simp;exact DT (l:=(Co AB f (s.drop k)).1) (f:=uv) (by rw[e2,h2];simp) rfl (fun x=>by simp))
  refine DQ g1 (AK (r0:=.tup [Gn (Co AB f (s.drop k)).1,bv true]) (by simp[upd]) rfl (fun p=>?_));exact(g2 0 p (by omega)).trans (h1 p)
def WW (D:Bool) (t:T):List A:=if D=true then [iv t.kind,.sl true (t.words.map uv),.sl true []] else [iv t.kind,Gn t.words,DY t.kids]
def el (D:Bool) (t:T):A:=.agg (WW D t)
@[simp] theorem wY {D:Bool} {t:T}:(el D t).cells=WW D t:=rfl
@[simp] theorem Abn {D:Bool} {t:T}:(WW D t).length=3:=by cases D<;>rfl
theorem gT {D:Bool} {t:T}:A.ones (WW D t)=true:=by cases D<;>rfl
@[simp] theorem wx {D:Bool} {t:T}:(WW D t).take 3=WW D t:=by cases D<;>rfl
theorem gw {D:Bool} {t:T}:∀ y,y ∈ WW D t→y.bare1=true:=by
 intro y hy;cases D<;>simp[WW] at hy<;>rcases hy with rfl | rfl | rfl<;>rfl
theorem jO {D:Bool} {l:List T}:Ds 3 (l.map (el D))=true:=by rw[L2];simp
theorem aA {n0:Nat} {w0:World} {I0:Nat→Prop} {M0:Nm→Nat→Prop} {m0:Mu} {Q':Exit→Sta→Prop} {s:List UInt8} (hs:s.length≤1000000000) {k:Nat} (hk:k≤s.length) {ki:Int} {e:UInt8} {d:Int} {D b:Bool} {x:T} {acc:List T} {u v:Nat} {H:Hp} (hacc:acc.length≤k)
  (hH:∀ p,H (0::p)=(CF s k).F 0 p) (h1:H [1]=⟨u,.cells (WW D x)⟩) (h2:H [2]=⟨v,.arr 3 (acc.map (el D))⟩)
  (hbad:(b=true→Bt (s.drop k) e=false∧Bt (s.drop k) 44=false)→∀ H':Hp,(∀ p,H' (0::p)=(CF s k).F 0 p)→Q' .ret ⟨lk [(8,.sl true []),(9,bv false)],H'⟩)
  (hend:b=true→Bt (s.drop k) e=true→∀ H':Hp,(∀ p,H' (0::p)=(CF s (k+1)).F 0 p)→H' [2]=⟨v+1,.arr 3 ((acc++[x]).map (el D))⟩→Q' .ret ⟨lk [(8,.osl [2] (v+1) 3 0 (acc.length+1)),(9,bv true)],H'⟩)
  (hgo:b=true→Bt (s.drop k) e=false→Bt (s.drop k) 44=true→∀ H':Hp,(∀ p,H' (0::p)=(CF s (k+1)).F 0 p)→H' [2]=⟨v+1,.arr 3 ((acc++[x]).map (el D))⟩→Q' .normal ⟨lk [(0,pp 0),(1,iv ki),(2,IL e),(3,iv d),(10,.osl [2] (v+1) 3 0 (acc.length+1)),(44,bv false)],H'⟩) :
  WPC (HI Tryz.prog w0 I0 M0 n0 m0) CM Q' ⟨lk [(0,pp 0),(1,iv ki),(2,IL e),(3,iv d),(10,.osl [2] v 3 0 acc.length),(11,.pob [1] u 0),(12,bv b)],H⟩:=by
 rw[CM.eq_1];cases b with
 |false=>
  simp;exact hbad (fun h=>by cases h) H hH
 |true=>
  have he:=D7 s k e hk hs;have hc:=D7 s k 44 hk hs;have hag:A.agg (WW D x)=el D x:=rfl;simp[h1,h2,jO,gT,Mc,hag];refine⟨gw,by omega,?_⟩;refine Ai 0 he (fun p=>by simp[Aa,hH]) (by simp) (by simp) ?_;cases hE:Bt (s.drop k) e with
  |true=>
   simp;exact hend rfl hE _ (fun p=>by simp) (by simp)
  |false=>
   simp;refine Ai 0 hc (fun p=>by simp) (by simp) (by simp) ?_;cases hC:Bt (s.drop k) 44 with
   |true=>
    simp;exact hgo rfl hE hC _ (fun p=>by simp) (by simp)
   |false=>
    simp;exact hbad (fun _=>⟨hE,hC⟩) _ (fun p=>by simp)
def K6 (D:Bool) (d:Nat):List UInt8→T × Bool × Nat:=if D=true then KJ AB else AU AB d
def YF (d:Nat):Prop:=∀ {s:List UInt8},s.length≤1000000000→∀ k,k≤s.length→(AU AB d (s.drop k)).2.2≤s.length-k∧((AU AB d (s.drop k)).2.1=true→0<(AU AB d (s.drop k)).2.2) ∧
 SpecF Tryz.prog 36 (fun r=>[pp r,iv d]) (CF s k) (fun _=>.tup [tX (AU AB d (s.drop k)).1,bv (AU AB d (s.drop k)).2.1]) (CF s (k+(AU AB d (s.drop k)).2.2))
theorem XX (k:Int):G.Spec Tryz.prog 97 [iv k] (bv (E5 k)):=by
 refine Ap Od (by simp) fun w0 I0=>?_;unfold JL;by_cases h:2≤k
 ·simp[h];exact Ak (by simp[E5,h])
 ·simp[h];exact Ak (by simp[E5,h])
theorem R9 {n0:Nat} {w0:World} {I0:Nat→Prop} {M0:Nm→Nat→Prop} {m0:Mu} {Q:Exit→Sta→Prop} {s:List UInt8} (hs:s.length≤1000000000) {ki:Int} {e:UInt8} {d:Nat} (hT:E5 ki=false→YF d):∀ (f k:Nat) (acc:List T) (v:Nat) (H:Hp),s.length-k<f→k≤s.length→acc.length≤k→(∀ p,H (0::p)=(CF s k).F 0 p)→H [2]=⟨v,.arr 3 (acc.map (el (E5 ki)))⟩ →
  ((Ch (K6 (E5 ki) d) e f (s.drop k)).2.1=false→∀ H':Hp,(∀ p,H' (0::p)=(CF s (k+(Ch (K6 (E5 ki) d) e f (s.drop k)).2.2)).F 0 p)→Q .ret ⟨lk [(8,.sl true []),(9,bv false)],H'⟩) →
  ((Ch (K6 (E5 ki) d) e f (s.drop k)).2.1=true→∀ (H':Hp) (v':Nat),(∀ p,H' (0::p)=(CF s (k+(Ch (K6 (E5 ki) d) e f (s.drop k)).2.2)).F 0 p)→H' [2]=⟨v',.arr 3 ((acc++(Ch (K6 (E5 ki) d) e f (s.drop k)).1).map (el (E5 ki)))⟩→Q .ret ⟨lk [(8,.osl [2] v' 3 0 (acc++(Ch (K6 (E5 ki) d) e f (s.drop k)).1).length),(9,bv true)],H'⟩) →
  LoopC (HI Tryz.prog w0 I0 M0 n0 m0) CN Q ⟨lk [(0,pp 0),(1,iv ki),(2,IL e),(3,iv d),(10,.osl [2] v 3 0 acc.length)],H⟩:=by
 intro f;induction f with
 |zero=>intro k acc v H hf;omega
 |succ f ih=>
  intro k acc v H hf hk hacc hH hH2 hq0 hq1;rw[Ch] at hq0 hq1;have hle:(K6 (E5 ki) d (s.drop k)).2.2≤s.length-k∧((K6 (E5 ki) d (s.drop k)).2.1=true→0<(K6 (E5 ki) d (s.drop k)).2.2):=by
   unfold K6;by_cases hD:E5 ki=true
   ·rw[if_pos hD];have:=Pe (s.drop k);rw[List.length_drop] at this;refine⟨this,fun h=>?_⟩;unfold KJ AB at h;simp only[Bool.and_eq_true,decide_eq_true_eq] at h;exact h.1
   ·rw[if_neg hD];have:=hT (by simpa using hD) hs k hk;exact⟨this.1,this.2.1⟩
  -- D2 a kid
  have tail:∀ (H':Hp) (u:Nat),(∀ p,H' (0::p)=(CF s (k+(K6 (E5 ki) d (s.drop k)).2.2)).F 0 p)→H' [1]=⟨u,.cells (WW (E5 ki) (K6 (E5 ki) d (s.drop k)).1)⟩→H' [2]=⟨v,.arr 3 (acc.map (el (E5 ki)))⟩ →
    WPC (HI Tryz.prog w0 I0 M0 n0 m0) CM (DN 1 (Hk (LoopC (HI Tryz.prog w0 I0 M0 n0 m0) CN Q) Q)) ⟨lk [(0,pp 0),(1,iv ki),(2,IL e),(3,iv d),(10,.osl [2] v 3 0 acc.length),(11,.pob [1] u 0),(12,bv (K6 (E5 ki) d (s.drop k)).2.1)],H'⟩:=fun H' u g0 g1 g2=>by
   generalize K6 (E5 ki) d (s.drop k)=N at *;obtain⟨hle1,hpos⟩:=hle;have hk1:k+N.2.2≤s.length:=by omega
   refine aA hs hk1 (by omega) g0 g1 g2 (fun hb H2 f0=>?_) (fun hb hE H2 f0 f2=>?_) (fun hb hE hC H2 f0 f2=>?_)
   ·rw[List.drop_drop] at hq0;by_cases hb':N.2.1=true
    ·obtain⟨b1,b2⟩:=hb hb';have b1':¬ Bt (s.drop (k+N.2.2)) e=true:=by rw[b1];simp
     have b2':¬ Bt (s.drop (k+N.2.2)) 44=true:=by rw[b2];simp
     rw[if_pos hb',if_neg b1',if_neg b2'] at hq0;exact hq0 rfl H2 f0
    ·rw[if_neg hb'] at hq0;exact hq0 rfl H2 f0
   ·rw[List.drop_drop] at hq1;rw[if_pos hb,if_pos hE] at hq1;have:=hq1 rfl H2 (v+1) f0 f2;simpa using this
   ·have hlt:k+N.2.2<s.length:=by
     rcases Ed s (k+N.2.2) 44 hk1 with h | h
     ·exact h.2.1
     ·rw[h.1] at hC;cases hC
    rw[List.drop_drop] at hq0 hq1;have hE':¬ Bt (s.drop (k+N.2.2)) e=true:=by rw[hE];simp
    rw[if_pos hb,if_neg hE',if_pos hC,List.drop_drop] at hq0 hq1;simp;refine LoopC.le (Be [(0,pp 0),(1,iv ki),(2,IL e),(3,iv d),(10,.osl [2] (v+1) 3 0 (acc++[N.1]).length)] (by simp)) ?_;rw[show k+N.2.2+1=k+(N.2.2+1) by omega] at f0;refine ih (k+(N.2.2+1)) (acc++[N.1]) (v+1) _ (by omega) (by omega) (by simp;omega) f0 f2 (fun h H' h1=>?_) (fun h H' v' h1 h2=>?_)
    ·exact hq0 h H' (fun p=>(h1 p).trans (by rw[Nat.add_assoc]))
    ·have:=hq1 h H' v' (fun p=>(h1 p).trans (by rw[Nat.add_assoc])) (by simp[h];simpa using h2);simpa[h] using this
  refine Ad mixed CN.eq_1 ?_;simp;refine Af (XX ki) rfl ?_;cases hD:E5 ki with
  |true=>
   simp;have hn:=Oh hs k hk;refine Ai 0 hn (fun p=>by simp[Aa,hH]) (by simp) (by simp) ?_;have eR:K6 true d (s.drop k)=(.mk 10 [((AB (s.drop k)).1:Int)] [],(AB (s.drop k)).2.1,(AB (s.drop k)).2.2):=rfl;rw[hD,eR] at tail;simp;refine tail _ _ (fun p=>?_) ?_ ?_
   ·simp[Aa]
   ·simp[WW]
   ·simp[Aa,hH2,hD]
  |false=>
   simp;obtain⟨_,_,ht⟩:=hT hD hs k hk;refine Ai 0 ht (fun p=>by simp[Aa,hH]) (by simp) (by simp) ?_;have eR:K6 false d (s.drop k)=AU AB d (s.drop k):=rfl;rw[hD,eR] at tail;simp;refine tail _ _ (fun p=>?_) ?_ ?_
   ·simp[Aa]
   ·simp[WW]
   ·simp[Aa,hH2,hD]
theorem qv {d:Nat} {D:Bool} (hT:D=false→YF d) {s:List UInt8} (hs:s.length≤1000000000) {k:Nat} (hk:k≤s.length):(K6 D d (s.drop k)).2.2≤s.length-k:=by
 unfold K6;by_cases hD:D=true
 ·rw[if_pos hD];have:=Pe (s.drop k)
  rwa [List.length_drop] at this
 ·rw[if_neg hD];exact(hT (by simpa using hD) hs k hk).1
theorem Sj {d:Nat} {D:Bool} (hT:D=false→YF d) {s:List UInt8} (hs:s.length≤1000000000) (e:UInt8):∀ (f k:Nat),k≤s.length→(Ch (K6 D d) e f (s.drop k)).2.2≤s.length-k
 |0,k,hk=>by simp[Ch]
 |f+1,k,hk=>by
  have h1:=qv hT hs hk;unfold Ch;split
  ·split
   ·rename_i hc;obtain⟨c1,_⟩:=BA hc;simp at c1 ⊢;omega
   ·split
    ·rename_i hc;obtain⟨c1,_⟩:=BA hc;rw[List.drop_drop];have:=Sj hT hs e f (k+((K6 D d (s.drop k)).2.2+1)) (by simp at c1;omega);simp at c1 ⊢;omega
    ·simpa using h1
  ·simpa using h1
theorem SC {d:Nat} {D:Bool} (hT:D=false→YF d) {s:List UInt8} (hs:s.length≤1000000000) (e:UInt8) {k:Nat} (hk:k≤s.length):(Bc (K6 D d) e (s.drop k)).2.2≤s.length-k:=by
 unfold Bc;split
 ·rename_i hc;rcases Ed s k e hk with h | h
  ·simp;omega
  ·rw[h.1] at hc;cases hc
 ·exact Sj hT hs e _ k hk
theorem OL {d:Nat} {ki:Int} (hT:E5 ki=false→YF d) {s:List UInt8} (hs:s.length≤1000000000) {e:UInt8} {k:Nat} (hk:k≤s.length):∃ x,SpecF Tryz.prog 64 (fun r=>[pp r,iv ki,IL e,iv d]) (CF s k) (fun _=>.tup [x,bv (Bc (K6 (E5 ki) d) e (s.drop k)).2.1]) (CF s (k+(Bc (K6 (E5 ki) d) e (s.drop k)).2.2)) ∧
  x=if (Bc (K6 (E5 ki) d) e (s.drop k)).2.1=true then DY (Bc (K6 (E5 ki) d) e (s.drop k)).1 else .sl false []:=by
 have he:=D7 s k e hk hs;have fa:FamL (fun r=>[pp r,iv ki,IL e,iv d]):=Ag AJ (Ag AO (Ag AO (Ag AO Al)));unfold Bc;by_cases hE:Bt (s.drop k) e=true
 ·rw[if_pos hE];rw[hE] at he;refine⟨.sl false [],Ef EC (by simp) fa (Bu (Ag Ew (Ag AO Al))) fun w0 I0 M0 m0 hM=>?_,rfl⟩;unfold Dn;simp;refine Ai 0 he (fun p=>by simp) (by simp) (by simp) ?_;simp;exact DQ (QE 8) (AK (r0:=.tup [.sl false [],bv true]) (by simp[upd,A.soft,A.softL]) rfl (fun p=>by simp))
 ·rw[if_neg hE];simp only[Bool.not_eq_true] at hE;rw[hE] at he;cases hb:(Ch (K6 (E5 ki) d) e ((s.drop k).length+1) (s.drop k)).2.1 with
  |false=>
   refine⟨.sl false [],Ef EC (by simp) fa (Bu (Ag Ew (Ag AO Al))) fun w0 I0 M0 m0 hM=>?_,rfl⟩;unfold Dn;simp;refine Ai 0 he (fun p=>by simp) (by simp) (by simp) ?_;simp;refine LoopC.le (EV 10 [2] 3 (by simp)) ?_;refine LoopC.le (Be [(0,pp 0),(1,iv ki),(2,IL e),(3,iv d),(10,.osl [2] 1 3 0 ([]:List T).length)] (by simp[upd])) ?_;refine R9 hs hT ((s.drop k).length+1) k [] 1 _ (by simp) hk (by simp) (fun p=>by simp) (by simp) (fun h H' h1=>?_) (fun h=>by rw[hb] at h;cases h);simp only[List.length_drop] at h1;simp;exact DQ (QE 8) (AK (r0:=.tup [.sl false [],bv false]) (by simp[upd,A.soft,A.softL]) rfl h1)
  |true=>
   obtain⟨G,hG⟩:∃ G,G=(Ch (K6 (E5 ki) d) e ((s.drop k).length+1) (s.drop k)).1:=⟨_,rfl⟩;have hat:E5 ki=true→∀ c,c ∈ G→c.kids=[]:=fun hD c hc=>by
    have eR:K6 (E5 ki) d=KJ AB:=by rw[hD];rfl
    rw[eR] at hb hG;have:=(Nj (Y0 JS) e _ _ _ _ (ES hb)).2.2.2 c (by rw[← hG];exact hc);exact this.2.1
   refine⟨DY G,Ef EC (by simp) fa (Bu (Ag Ew (Ag AO Al))) fun w0 I0 M0 m0 hM=>?_,by rw[hG];rfl⟩;unfold Dn;simp;refine Ai 0 he (fun p=>by simp) (by simp) (by simp) ?_;simp;refine LoopC.le (EV 10 [2] 3 (by simp)) ?_;refine LoopC.le (Be [(0,pp 0),(1,iv ki),(2,IL e),(3,iv d),(10,.osl [2] 1 3 0 ([]:List T).length)] (by simp[upd])) ?_;refine R9 hs hT ((s.drop k).length+1) k [] 1 _ (by simp) hk (by simp) (fun p=>by simp) (by simp) (fun h=>by rw[hb] at h;cases h) (fun h H' v' h1 h2=>?_);rw[← hG] at h2 ⊢;simp only[List.length_drop] at h1;simp only[List.nil_append] at h2 ⊢;simp;obtain⟨H2,g1,g2⟩:=PA (c:=HI Tryz.prog w0 I0 M0 48 m0) (s:=lk [(8,.osl [2] v' 3 0 G.length),(9,bv true)]) (H:=H') (fun r=>1≤r) (fun r p b hr=>hM r p b hr) 8 (DY G) (fun H1 e1=>by
    have e2:H1 [2]=H' [2]:=e1 2 [] (by omega);simp;refine Us (l:=G) (f:=el (E5 ki)) (g:=tA) (by rw[e2,h2];simp) rfl (fun x hx=>?_);cases hD:E5 ki with
    |true=>
     have hk0:=hat hD x hx;simp[WW,A.soft,A.softL,hk0,A.bare,A.ones,IU]
    |false=>simp[WW,A.soft,A.softL,A.bare,A.ones,IU,JW])
   refine DQ g1 (AK (r0:=.tup [DY G,bv true]) (by simp[upd]) rfl (fun p=>?_));exact(g2 0 p (by omega)).trans (h1 p)
theorem eo (t:T):DV (fun _=>tX t):=GN (cs:=[iv t.kind,Gn t.words,DY t.kids]) rfl fun x hx=>by simp at hx;rcases hx with rfl | rfl | rfl<;>rfl
theorem L1 (t:T) (b:Bool):DV (fun _=>.tup [tX t,bv b]):=Bu (Ag (eo t) (Ag AO Al))
theorem CS {n:Nat} {w0:World} {I0:Nat→Prop} {M0:Nm→Nat→Prop} {m0:Mu} {H:Hp} {u k':Nat} {s:List UInt8} {cs:List A} {t:T} {b:Bool} (h1:H [1]=⟨u,.cells cs⟩) (hf:∀ H1:Hp,FF H1 cs [iv t.kind,Gn t.words,DY t.kids]) (hH:∀ p,H (0::p)=(CF s k').F 0 p) :
  HK (HI Tryz.prog w0 I0 M0 n m0) [.cell 4 29,.tmp 5] 1 (.tup [tX t,bv b]) (ov 0 ((CF s k').F 0) (Dj [])) .ret ⟨lk [(4,.pob [1] u 0),(5,bv b)],H⟩:=by
 obtain⟨H2,g1,g2⟩:=IE (c:=HI Tryz.prog w0 I0 M0 n m0) (s:=lk [(4,.pob [1] u 0),(5,bv b)]) (H:=H) (fun _=>False) (fun _ _ _ h=>h.elim) (r0:=1) (p0:=[]) (by simp) h1 (cs':=[iv t.kind,Gn t.words,DY t.kids]) (by simp[A.ones]) (fun H1 _=>hf H1);refine DQ g1 (AK (r0:=.tup [tX t,bv b]) (by simp[FW,Ar]) rfl fun p=>?_);exact(Ao (f:=H2) (d:=[1]) (o:=0::p) (x:=(⟨u,.cells [iv t.kind,Gn t.words,DY t.kids]⟩:VOb)) (by simp)).trans ((g2 0 p (fun h=>h)).trans (hH p))
theorem Vx (p:List UInt8→T × Bool × Nat) (e:UInt8):∀ (f:Nat) (r:List UInt8),(Ch p e f r).2.1=false→(Ch p e f r).1=[]
 |0,r,_=>rfl
 |f+1,r,h=>by
  unfold Ch at h ⊢;split
  ·rename_i h1;rw[if_pos h1] at h;split
   ·rename_i h2;rw[if_pos h2] at h;cases h
   ·rename_i h2;rw[if_neg h2] at h;split
    ·rename_i h3;rw[if_pos h3] at h;simp only at h ⊢;rw[if_neg (by rw[h];simp)]
    ·rfl
  ·rfl
theorem Oy {p:List UInt8→T × Bool × Nat} {e:UInt8} {r:List UInt8} (h:(Bc p e r).2.1=false):(Bc p e r).1=[]:=by
 unfold Bc at h ⊢;split
 ·rfl
 ·rename_i h1;rw[if_neg h1] at h;exact Vx p e _ _ h
theorem UU {G:List T × Bool × Nat} (hG:G.2.1=false→G.1=[]) {x:A} (hx:x=if G.2.1=true then DY G.1 else .sl false []):∃ b l,x = .sl b l∧∀ H1:Hp,Jw H1 x (DY G.1):=by
 by_cases hg:G.2.1=true
 ·rw[if_pos hg] at hx;exact⟨_,_,hx,fun H1=>by rw[hx];exact Ae⟩
 ·rw[if_neg hg] at hx;exact⟨_,_,hx,fun H1=>by rw[hx,hG (by simpa using hg)];exact Ae⟩
theorem mP {n:Nat} {w0:World} {I0:Nat→Prop} {M0:Nm→Nat→Prop} {m0:Mu} {d:Nat} (hd:d≤1000) (hT:YF d) {s:List UInt8} (hs:s.length≤1000000000) {k:Nat} (hk:k≤s.length) {ws:List Int} {fX:Bool} {H:Hp} {cs:List A} (hcs:cs.length=3) (hH:∀ p,H (0::p)=(CF s k).F 0 p) (h1:H [1]=⟨1,.cells cs⟩) (h2:H [2]=⟨1,.cells [iv 1,.sl fX (ws.map uv),.sl true []]⟩)
  {M:T × Bool × Nat} (hM:Mq (Bc (AU AB d) 125) ws (s.drop k)=M) {k':Nat} (hk':k'=k+M.2.2) :
  WPC (HI Tryz.prog w0 I0 M0 n m0) Cv (HK (HI Tryz.prog w0 I0 M0 n m0) [.cell 4 29,.tmp 5] 1 (.tup [tX M.1,bv M.2.1]) (ov 0 ((CF s k').F 0) (Dj []))) ⟨lk [(0,pp 0),(1,iv (d+1:Nat)),(4,.pob [1] 1 0),(6,.pob [2] 1 0)],H⟩:=by
 have he:=D7 s k 125 hk hs;have hc:=D7 s k 124 hk hs;obtain⟨a,b,c,rfl⟩:∃ a b c,cs=[a,b,c]:=by
  match cs,hcs with
  |[a,b,c],_=>exact⟨a,b,c,rfl⟩
 have fz:∀ (H1:Hp),FF H1 [iv 1,.sl fX (ws.map uv),.sl true []] [iv (T.mk 1 ws []).kind,Gn (T.mk 1 ws []).words,DY (T.mk 1 ws []).kids]:=fun H1=>⟨Ab rfl,Ae,Ae,trivial⟩;rw[Cv.eq_1];simp;refine Ai 0 he hH (by simp) (by simp) ?_;unfold Mq at hM;cases hE:Bt (s.drop k) 125 with
 |true=>
  rw[if_pos hE] at hM;subst hM hk';simp[h1,h2,splice];exact CS (t:=.mk 1 ws []) (by simp) fz (fun p=>by simp[Aa])
 |false=>
  have hE':¬ Bt (s.drop k) 125=true:=by rw[hE];simp
  rw[if_neg hE'] at hM;simp;refine Ai 0 hc (fun p=>by simp) (by simp) (by simp) ?_;cases hC:Bt (s.drop k) 124 with
  |false=>
   have hC':¬ Bt (s.drop k) 124=true:=by rw[hC];simp
   rw[if_neg hC'] at hM;subst hM hk';simp;refine AA rfl ?_;simp[h1,h2,splice];exact CS (t:=.mk 1 ws []) (by simp) fz (fun p=>by simp[Aa])
  |true=>
   rw[if_pos hC] at hM;have hlt:k+1≤s.length:=by
    rcases Ed s k 124 hk with h | h
    ·exact h.2.1
    ·rw[h.1] at hC;cases hC
   have hn:=Kl s (k+1) hlt;rw[List.drop_drop] at hM;have hnx:(s.drop (k+1)).headD 0=Ej (s.drop (k+1)):=rfl;rw[hnx] at hM;simp;rw[Ci];simp;refine Ai 0 hn (fun p=>by simp) (by simp) (by simp) ?_;by_cases h5:Ej (s.drop (k+1))=125
   ·rw[if_pos h5] at hM;subst hM hk';rw[h5];simp[h1,h2,splice];exact CS (t:=.mk 1 ws []) (by simp) fz (fun p=>by simp[Aa])
   ·rw[if_neg h5] at hM;have h5':¬ ((Ej (s.drop (k+1))).toNat:Int)=125:=fun e=>h5 ((u8_inj (b:=125)).1 e);have hD:E5 1=false:=by decide
    obtain⟨x,hx1,hx2⟩:=OL (d:=d) (ki:=1) (fun _=>hT) hs (e:=125) hlt;have eR:K6 (E5 1) d=AU AB d:=rfl;rw[eR] at hx1 hx2;have e1:i64.wrap ((d:Int)+1-1)=(d:Int):=H9;simp only[Int.add_sub_cancel] at e1;obtain⟨xb,xl,rfl,hxf⟩:=UU (fun h=>Oy h) hx2;generalize Bc (AU AB d) 125 (s.drop (k+1))=G at hM hx1 hxf;subst hM hk';generalize Ej (s.drop (k+1))=nx at h5';simp[h5',e1];refine Ai 0 hx1 (fun p=>by simp) (by simp) (by simp) ?_;simp[h1,h2,splice,Aa];exact CS (t:=.mk 1 ws G.1) (cs:=[iv 1,.sl fX (ws.map uv),.sl xb xl]) (by simp[Aa]) (fun H1=>⟨Ab rfl,Ae,hxf H1,trivial⟩) (fun p=>by simp[Aa,Nat.add_assoc])
theorem Wo {d:Nat} (hd:d≤1000) (hT:YF d) {s:List UInt8} (hs:s.length≤1000000000) {k:Nat} (hk:k≤s.length):SpecF Tryz.prog 61 (fun r=>[pp r,iv (d+1:Nat)]) (CF s k) (fun _=>.tup [tX (CL AB (Bc (AU AB d) 125) (s.drop k)).1,bv (CL AB (Bc (AU AB d) 125) (s.drop k)).2.1]) (CF s (k+(CL AB (Bc (AU AB d) 125) (s.drop k)).2.2)):=by
 refine Ef HV (by simp) (Ag AJ (Ag AO Al)) (L1 _ _) fun w0 I0 M0 m0 hM=>?_;have he:=D7 s k 125 hk hs;have hn:=Kl s k hk;obtain⟨M,hMM⟩:∃ M,M=CL AB (Bc (AU AB d) 125) (s.drop k):=⟨_,rfl⟩;rw[← hMM];unfold CL at hMM;unfold EL;simp;refine Ai 0 he (fun p=>by simp[Aa]) (by simp) (by simp) ?_;cases hE:Bt (s.drop k) 125 with
 |true=>
  rw[if_pos hE] at hMM;subst hMM;simp[splice,Aa];exact CS (t:=.mk 1 [] []) (cs:=[iv 1,.sl true [],.sl true []]) (by simp[Aa]) (fun H1=>⟨Ab rfl,Ae,Ae,trivial⟩) (fun p=>by simp[Aa])
 |false=>
  have hE':¬ Bt (s.drop k) 125=true:=by rw[hE];simp
  rw[if_neg hE'] at hMM;simp;refine Ai 0 hn (fun p=>by simp[Aa]) (by simp) (by simp) ?_;unfold SP at hMM;have hnx:(s.drop k).headD 0=Ej (s.drop k):=rfl;rw[hnx] at hMM;by_cases h4:Ej (s.drop k)=124
  ·have h4n:¬ Ej (s.drop k) ≠ 124:=fun h=>h h4;rw[if_neg h4n] at hMM;rw[h4];simp only[if_true,List.drop_zero,Nat.zero_add] at hMM;simp;refine mP hd hT hs hk (cs:=[iv 0,.sl true [],.sl true []]) (ws:=[]) (fX:=true) rfl (fun p=>by simp[Aa]) (by simp[Aa]) (by simp[Aa]) (M:=M) hMM.symm rfl
  ·rw[if_pos h4] at hMM;have h4':¬ ((Ej (s.drop k)).toNat:Int)=124:=fun e=>h4 ((u8_inj (b:=124)).1 e);obtain⟨x,hx1,hx2,hx3⟩:=ZJ hs k hk ((s.drop k).length+1) (by simp);generalize Ej (s.drop k)=nx at h4';simp[h4'];refine Ai 0 hx1 (fun p=>by simp) (by simp) (by simp) ?_;generalize hW:Co AB ((s.drop k).length+1) (s.drop k)=W at hMM hx1 hx2 hx3;cases hb:W.2.1 with
   |false=>
    rw[hb,if_neg (by simp)] at hMM;subst hMM;rw[hx3 hb];simp[splice,Aa];exact CS (t:=.mk 1 [] []) (cs:=[iv 1,.sl false [],.sl true []]) (by simp[Aa]) (fun H1=>⟨Ab rfl,Ab rfl,Ae,trivial⟩) (fun p=>by simp[Aa])
   |true=>
    rw[if_pos hb] at hMM;have hle:=(Q6 JS _ _ _ _ (hW.trans (ES hb))).2.1;rw[List.length_drop] at hle;rw[hx2 hb];rw[List.drop_drop] at hMM;obtain⟨M',hM'⟩:∃ M',Mq (Bc (AU AB d) 125) W.1 (s.drop (k+W.2.2))=M':=⟨_,rfl⟩;rw[hM'] at hMM;subst hMM;simp[splice,Aa];exact mP hd hT hs (k:=k+W.2.2) (by omega) (cs:=[iv 0,.sl true [],.sl true []]) (ws:=W.1) (fX:=false) rfl (fun p=>by simp[Aa]) (by simp[Aa]) (by simp[Aa]) hM' (by omega)
theorem Vr:∀ (f k:Nat) {s:List UInt8},k≤s.length→(Co AB f (s.drop k)).2.2≤s.length-k
 |0,k,s,hk=>by simp[Co]
 |f+1,k,s,hk=>by
  have h1:=Pe (s.drop k);rw[List.length_drop] at h1;unfold Co;split
  ·split
   ·rename_i hc;obtain⟨c1,_⟩:=BA hc;rw[List.drop_drop];have:=Vr f (k+((AB (s.drop k)).2.2+1)) (s:=s) (by simp at c1;omega);simp at c1 ⊢;omega
   ·simpa using h1
  ·simpa using h1
theorem gN {d:Nat} (hT:YF d) {s:List UInt8} (hs:s.length≤1000000000) (ws:List Int) {k:Nat} (hk:k≤s.length):(Mq (Bc (AU AB d) 125) ws (s.drop k)).2.2≤s.length-k:=by
 unfold Mq;split
 ·rename_i hc;obtain⟨c1,_⟩:=BA (k:=0) (by simpa using hc);simp at c1 ⊢; omega
 ·split
  ·rename_i hc;obtain⟨c1,_⟩:=BA (k:=0) (by simpa using hc);split
   ·simp at c1 ⊢; omega
   ·have:=SC (d:=d) (D:=false) (fun _=>hT) hs 125 (k:=k+1) (by simp at c1;omega);rw[List.drop_drop];have eR:K6 false d=AU AB d:=rfl;rw[eR] at this;simp at c1 ⊢;omega
  ·simp
theorem X8 {d:Nat} (hT:YF d) {s:List UInt8} (hs:s.length≤1000000000) {k:Nat} (hk:k≤s.length):(CL AB (Bc (AU AB d) 125) (s.drop k)).2.2≤s.length-k:=by
 have hw:(SP AB (s.drop k)).2.2≤s.length-k:=by
  unfold SP;split
  ·exact Vr _ k hk
  ·simp
 unfold CL;split
 ·rename_i hc;obtain⟨c1,_⟩:=BA (k:=0) (by simpa using hc);simp at c1 ⊢; omega
 ·split
  ·rw[List.drop_drop];have:=gN hT hs (SP AB (s.drop k)).1 (k:=k+(SP AB (s.drop k)).2.2) (by omega);simp;omega
  ·exact hw
theorem gm {d:Nat} (hT:YF d) {s:List UInt8} (hs:s.length≤1000000000) {k:Nat} (hk:k≤s.length):(AU AB (d+1) (s.drop k)).2.2≤s.length-k:=by
 rw[Fz];split
 ·rename_i hc;obtain⟨c1,_⟩:=BA (k:=0) (by simpa using hc);simp at c1 ⊢; omega
 ·split
  ·rename_i hc;obtain⟨c1,_⟩:=BA (k:=0) (by simpa using hc);rw[List.drop_drop];have:=X8 hT hs (k:=k+1) (by simp at c1;omega);simp at c1 ⊢;omega
  ·split
   ·simp
   ·rename_i hl;have hlt:k<s.length:=by
     apply Nat.lt_of_not_le;intro h;rw[List.drop_of_length_le h] at hl;exact hl (by decide)
    split
    ·rename_i hc;obtain⟨c1,_⟩:=BA hc;have:=SC (d:=d) (D:=E5 (Hl ((s.drop k).headD 0))) (fun _=>hT) hs 93 (k:=k+2) (by simp at c1;omega);rw[List.drop_drop];unfold K6 at this;simp only[List.length_drop] at c1;show 2+_≤_;omega
    ·simp;omega
theorem bu {d:Nat} {r:List UInt8} (h:(AU AB d r).2.1=true):0<(AU AB d r).2.2:=by
 obtain⟨h1,h2,_⟩:=LY JS d _ _ _ (ES h);apply Nat.pos_of_ne_zero;intro e;rw[e] at h1;exact KD _ (by rw[← h1];simp)
theorem jj:YF 0:=fun {s} hs k hk=>by
 have he:=D7 s k 95 hk hs;rw[Lq];cases hE:Bt (s.drop k) 95 with
 |true=>
  have hlt:k<s.length:=by
   rcases Ed s k 95 hk with h | h
   ·exact h.2.1
   ·rw[h.1] at hE;cases hE
  rw[hE] at he;simp only[if_true];refine⟨by omega,fun _=>by omega,Ef EF (by simp) (Ag AJ (Ag AO Al)) (L1 _ _) fun w0 I0 M0 m0 hM=>?_⟩;unfold Dp;simp;refine Ai 0 he (fun p=>by simp[Aa]) (by simp) (by simp) ?_;simp[splice,Aa];exact CS (t:=T0) (cs:=[iv 0,.sl true [],.sl true []]) (by simp[Aa]) (fun H1=>⟨Ab rfl,Ae,Ae,trivial⟩) (fun p=>by simp[Aa])
 |false=>
  rw[hE] at he;simp only[Bool.false_eq_true,if_false];refine⟨by omega,(fun h=>by cases h),Ef EF (by simp) (Ag AJ (Ag AO Al)) (L1 _ _) fun w0 I0 M0 m0 hM=>?_⟩;unfold Dp;simp;refine Ai 0 he (fun p=>by simp[Aa]) (by simp) (by simp) ?_;simp[splice,Aa];exact CS (t:=T0) (cs:=[iv 0,.sl true [],.sl true []]) (by simp[Aa]) (fun H1=>⟨Ab rfl,Ae,Ae,trivial⟩) (fun p=>by simp[Aa])
theorem kI {K:Int} (h1:2≤K) (h2:K≤9):Cn K ≠ 46:=by
 have:∀ k:Nat,k<10→2≤k→Cn (k:Int) ≠ 46:=by decide
 have:=this K.toNat (by omega) (by omega)
 rwa [Int.toNat_of_nonneg (by omega)] at this
theorem ie {d:Nat} (hd:d≤1000) (hT:YF d):YF (d+1):=fun {s} hs k hk=>by
 refine⟨gm hT hs hk,bu,?_⟩;have he:=D7 s k 95 hk hs;have hst:=D7 s k 123 hk hs;have hn:=Kl s k hk;refine Ef EF (by simp) (Ag AJ (Ag AO Al)) (L1 _ _) fun w0 I0 M0 m0 hM=>?_;obtain⟨M,hMM⟩:∃ M,M=AU AB (d+1) (s.drop k):=⟨_,rfl⟩;rw[← hMM];rw[Fz] at hMM;unfold Dp;simp;refine Ai 0 he (fun p=>by simp[Aa]) (by simp) (by simp) ?_;cases hE:Bt (s.drop k) 95 with
 |true=>
  rw[if_pos hE] at hMM;subst hMM;simp[splice,Aa];exact CS (t:=T0) (cs:=[iv 0,.sl true [],.sl true []]) (by simp[Aa]) (fun H1=>⟨Ab rfl,Ae,Ae,trivial⟩) (fun p=>by simp[Aa])
 |false=>
  rw[if_neg (by rw[hE];simp)] at hMM;simp[show ¬ (d:Int)+1=0 by omega];refine Ai 0 hst (fun p=>by simp[Aa]) (by simp) (by simp) ?_;cases hS:Bt (s.drop k) 123 with
  |true=>
   rw[if_pos hS,List.drop_drop] at hMM;have hlt:k+1≤s.length:=by
    rcases Ed s k 123 hk with h | h
    ·exact h.2.1
    ·rw[h.1] at hS;cases hS
   have hstr:=Wo hd hT hs hlt;generalize CL AB (Bc (AU AB d) 125) (s.drop (k+1))=G at hMM hstr;subst hMM;simp;refine Ai 0 hstr (fun p=>by simp[Aa]) (by simp) (by simp) ?_;simp[splice,Aa];exact CS (t:=G.1) (cs:=[iv G.1.kind,Gn G.1.words,DY G.1.kids]) (by simp[Aa]) (fun H1=>⟨Ab rfl,Ab rfl,Ab rfl,trivial⟩) (fun p=>by simp[Aa,Nat.add_assoc])
  |false=>
   rw[if_neg (by rw[hS];simp)] at hMM;have hnx:(s.drop k).headD 0=Ej (s.drop k):=rfl;rw[hnx] at hMM;have hidx:=Jy letters (Ej (s.drop k));have hlV:A6 letters (Ej (s.drop k))=Hl (Ej (s.drop k)):=rfl;rw[hlV] at hidx;simp;refine Ai 0 hn (fun p=>by simp[Aa]) (by simp) (by simp) ?_;simp;refine Af hidx rfl ?_;by_cases hl:Hl (Ej (s.drop k))<2
   ·rw[if_pos hl] at hMM;subst hMM;generalize Hl (Ej (s.drop k))=K at hl;simp[hl];refine AA rfl ?_;simp[splice,Aa];exact CS (t:=T0) (cs:=[iv 0,.sl true [],.sl true []]) (by simp[Aa]) (fun H1=>⟨Ab rfl,Ae,Ae,trivial⟩) (fun p=>by simp[Aa])
   ·rw[if_neg hl] at hMM;obtain⟨l1,l2,l3⟩:=iC hl;have hlt:k+1≤s.length:=by
     apply Nat.lt_of_not_le;intro h;rw[List.drop_of_length_le h] at hl;exact hl (by decide)
    have h46:¬ ((Ej (s.drop k)).toNat:Int)=46:=fun e=>kI l1 l2 (by rw[l3];exact(u8_inj (b:=46)).1 e);have hb:=D7 s (k+1) 91 hlt hs;have e1:=B0 k;rw[List.drop_drop] at hMM;generalize hK:Hl (Ej (s.drop k))=K at hMM hl l1 l2 l3;simp[hl];rw[Ci];simp;refine Ai 0 hn (fun p=>by simp[Aa]) (by simp) (by simp) ?_;simp[h46,e1];refine Ai 0 hb (fun p=>by by_cases hp:p=[]<;>simp[Aa,hp]) (by simp) (by simp) ?_;cases hB:Bt (s.drop (k+1)) 91 with
    |false=>
     rw[if_neg (by rw[hB];simp)] at hMM;subst hMM;simp[splice,Aa];exact CS (t:=T0) (cs:=[iv 0,.sl true [],.sl true []]) (by simp[Aa]) (fun H1=>⟨Ab rfl,Ae,Ae,trivial⟩) (fun p=>by simp[Aa])
    |true=>
     rw[if_pos hB,List.drop_drop] at hMM;have hlt2:k+1+1≤s.length:=by
      rcases Ed s (k+1) 91 hlt with h | h
      ·exact h.2.1
      ·rw[h.1] at hB;cases hB
     obtain⟨x,hx1,hx2⟩:=OL (d:=d) (ki:=K) (fun _=>hT) hs (e:=93) hlt2;have eR:K6 (E5 K) d=if E5 K=true then KJ AB else AU AB d:=rfl
     rw[eR] at hx1 hx2;rw[show k+2=k+1+1 by omega] at hMM;obtain⟨xb,xl,rfl,hxf⟩:=UU (fun h=>Oy h) hx2;generalize Bc (if E5 K=true then KJ AB else AU AB d) 93 (s.drop (k+1+1))=G at hMM hx1 hxf;subst hMM;have e2:i64.wrap (d:Int)=(d:Int):=Ih;simp[e2];refine Ai 0 hx1 (fun p=>by simp[Aa]) (by simp) (by simp) ?_;simp[splice,Aa];exact CS (t:=.mk K [] G.1) (cs:=[iv K,.sl true [],.sl xb xl]) (by simp[Aa]) (fun H1=>⟨Ab rfl,Ae,hxf H1,trivial⟩) (fun p=>by rw[show k+(2+G.2.2)=k+1+1+G.2.2 by omega];simp[Aa])
theorem Zs:∀ d:Nat,d≤1000→YF d
 |0,_=>jj
 |d+1,h=>ie (by omega) (Zs d (by omega))
theorem J9 {α:Type} (f:α→List UInt8):∀ (l:List α) (x:α),x ∈ l→(f x).length≤(Aj (l.map f)).length
 |[],x,h=>by simp at h
 |[y],x,h=>by simp at h;rw[h];simp
 |y::z::l,x,h=>by
  rw[List.map_cons,Ez (by simp)];rcases List.mem_cons.1 h with rfl | h
  ·simp
  ·have:=J9 f (z::l) x h;simp at this ⊢;omega
theorem Ko:∀ (d:Nat) (t:T),Cw d t→(Am t).length≤1000000000→CG t
 |0,t,h,_=>by
  have h:t=T0:=h;subst h;rw[wfT_iff];exact⟨by simp[Bm],by simp,by simp,by simp,by simp⟩
 |d+1,t,h,hl=>by
  rcases h with rfl | ⟨h1,h2,h3⟩ | ⟨h1,h2,h3,h4⟩
  ·rw[wfT_iff];exact⟨by simp[Bm],by simp,by simp,by simp,by simp⟩
  ·obtain⟨k,w,l⟩:=t;simp at h1 h2 h3;subst h1;rw[AY,if_neg (by omega),if_pos rfl] at hl;have hw:=Io (fun x:Int=>Az x.toNat) w (fun x _=>Ea _);have hk:l.length≤1000000000∧∀ c,c ∈ l→(Am c).length≤1000000000:=by
    by_cases hne:l=[]
    ·subst hne;simp
    ·rw[if_neg hne] at hl;have:=Io Am l (fun x hx=>by have:=KD x;cases hq:Am x with | nil=>exact(this hq).elim | cons a b=>simp);simp at hl;refine⟨by omega,fun c hc=>?_⟩;have:=J9 Am l c hc;omega
   simp at hl;rw[wfT_iff];exact⟨by simp[Bm],fun x hx=>h2 x hx,by simp;omega,by simp;omega,fun c hc=>Ko d c (h3 c hc) (hk.2 c hc)⟩
  ·obtain⟨k,w,l⟩:=t;simp at h1 h2 h3 h4;subst h3;rw[AY,if_neg (by omega),if_neg (by omega),if_pos ⟨h1,h2⟩] at hl;simp at hl;have:=Io Am l (fun x hx=>by have:=KD x;cases hq:Am x with | nil=>exact(this hq).elim | cons a b=>simp);rw[wfT_iff];refine⟨by simp[Bm];omega,by simp,by simp,by simp;omega,fun c hc=>?_⟩;have hc':if E5 k=true then HG c else Cw d c:=h4 c hc
   have hcl:=J9 Am l c hc;by_cases hD:E5 k=true
   ·rw[if_pos hD] at hc';obtain⟨n,rfl,hn,_⟩:=NF hc';rw[wfT_iff];exact⟨by simp[Bm],by simp[EP];omega,by simp,by simp,by simp⟩
   ·rw[if_neg hD] at hc';exact Ko d c hc' (by omega)
theorem Eh:∀ (d:Nat) (t:T),CG t→Ay d t=true→t.kind ≠ 10→Cw d t
 |0,t,hw,h,hk=>by
  obtain⟨k,w,l⟩:=t;simp at hk;rw[EJ] at h;split at h
  ·rename_i h0;simp at h;rw[h0,h.1,h.2];rfl
  ·simp[hk,FD] at h
 |d+1,t,hw,h,hk=>by
  have hW:=wfT_iff.1 hw;obtain⟨k,w,l⟩:=t;simp at hk;have hs:=Rq h;rw[EJ] at h;split at h
  ·rename_i h0;simp at h;rw[h0,h.1,h.2];exact .inl rfl
  ·rename_i h0;split at h
   ·cases h
   ·rename_i hb;simp[FD] at hb;by_cases h1:k=1
    ·subst h1;refine .inr (.inl ⟨rfl,fun x hx=>hW.w x hx,fun c hc=>Eh d c (hW.ks c hc) (hs c hc).1 ?_⟩);have:=(hs c hc).2;simp[JJ,DM] at this;exact this
    ·refine .inr (.inr ⟨by simp;omega,by simp;omega,?_,fun c hc=>?_⟩)
     ·simp;rcases Nat.eq_zero_or_pos w.length with e | e
      ·exact List.eq_nil_of_length_eq_zero e
      ·have:=hb.2 (by omega);simp[this] at e
     ·have hc2:=hs c hc;have hD:DM k=E5 k:=rfl;by_cases hDk:E5 k=true
      ·simp only[T.kind_mk,hDk,if_true];have h10:c.kind=10:=by
        have:=hc2.2;simp[JJ,hD,hDk] at this;exact this.1.1
       have hcW:=wfT_iff.1 (hW.ks c hc);obtain⟨ck,cw,cl⟩:=c;simp at h10;subst h10;have:=hc2.1;rw[EJ] at this;simp at this;obtain⟨x,rfl⟩:∃ x,cw=[x]:=List.length_eq_one_iff.1 this.1;have hx:=hcW.w x (by simp);unfold EP at hx;exact⟨rfl,this.2,x.toNat,by simp;omega,by omega⟩
      ·show(if E5 k=true then HG c else Cw d c);rw[if_neg hDk];refine Eh d c (hW.ks c hc) hc2.1 ?_;have:=hc2.2;simp[JJ,hD,hDk] at this;exact this.1
def Un (num:List UInt8→Nat × Bool × Nat) (s:List UInt8):Bool:=(AU num 64 s).2.1&&decide ((AU num 64 s).2.2=s.length)&&Ay 64 (AU num 64 s).1
def BX (num:List UInt8→Nat × Bool × Nat) (s:List UInt8):T:=if Un num s=true then (AU num 64 s).1 else T0
theorem Lk {s:List UInt8} (hs:s.length≤1000000000):G.Spec Tryz.prog 18 [S s] (.tup [tX (BX AB s),iv (if Un AB s=true then 0 else 11)]):=by
 obtain⟨hle,_,hT⟩:=Zs 64 (by omega) hs 0 (by omega);rw[List.drop_zero,Nat.zero_add] at hT;rw[List.drop_zero] at hle;refine Ap TJ (by simp) fun w0 I0=>?_;have hwf:(AU AB 64 s).2.1=true→CG (AU AB 64 s).1:=fun h=>by
  obtain⟨h1,h2,h3⟩:=LY JS 64 s _ _ (ES h);refine Ko 64 _ h3 ?_;rw[← h1];simp;omega
 unfold BX Un;generalize AU AB 64 s=M at hT hle hwf;unfold L7;simp;refine Ai 1 hT (fun p=>?_) (by simp) (by simp) ?_
 ·by_cases hp:p=[]
  ·subst hp;simp[Dj]
  ·simp[Dj,hp,Ne.symm hp]
 cases hb:M.2.1 with
 |false=>
  simp;refine AA rfl ?_;simp[splice,Aa];exact BL ⟨Ui,Ab rfl,trivial⟩
 |true=>
  by_cases hl:M.2.2=s.length
  ·have hR:=E8 (hwf hb);simp[hl];rw[Ci];simp;refine Af hR rfl ?_;cases hr:Ay 64 M.1 with
   |true=>
    simp[splice,Aa];exact BL ⟨Ab rfl,Ab rfl,trivial⟩
   |false=>
    simp[splice,Aa];exact BL ⟨Ui,Ab rfl,trivial⟩
  ·have hl2:M.2.2<s.length:=by omega
   simp[hl,hl2];refine AA rfl ?_;simp[splice,Aa];exact BL ⟨Ui,Ab rfl,trivial⟩
theorem BE {l m:List UInt8} (h:l.length+m.length≤9223372036854775807):O8 .add ⟨l.toArray⟩ ⟨m.toArray⟩=some (S (l++m)):=by
 unfold O8;simp[h]
theorem kk {n:Int} (h0:0≤n) (h1:n<256):IntKind.u8.wrap n=n:=by rw[IntKind.wrap_u8];omega
end Go.Proofs.YtgkdikddjfgajaaGreatDoor
namespace Go.Proofs.YtgkdikddjfgajaaGreatDoor
set_option maxRecDepth 20000
open Go Go.G Go.Proofs Go.PL Go.RowKit
def Y7 (e:Int):List UInt8:=if e=0 then [111,107] else [101,114,114,111,114,32]++Lib.itoa e
theorem Sx (e:Int) (h0:0≤e) (h1:e≤1000) (hl:(Lib.itoa e).length≤1000):G.Spec Tryz.prog 19 [iv e] (S (Y7 e)):=by
 refine Ap UQ (by simp) fun w0 I0=>?_;unfold OB Y7;by_cases he:e=0
 ·subst he;simp;exact Ab rfl
 ·simp[he];refine Af (NP e (by omega) (by omega)) (by simp) ?_;simp[BE (l:=[101,114,114,111,114,32]) (m:=Lib.itoa e) (by simp;omega)];exact Ab rfl
theorem M3:G.Spec Tryz.prog 20 [S [48],iv 4] (.tup [iv 0,bv true]):=by
 have h1:=Z7 [48] (by simp);have e:Zx 176 [48] = .tup [iv 0,.v .nilIface]:=by
  unfold Zx;first
  |rfl
  |simp
 rw[e] at h1;have h2:=NP 0 (by omega) (by omega);have e2:Lib.itoa 0=[48]:=by decide +kernel
 rw[e2] at h2;refine Ap RC (by simp) fun w0 I0=>?_;unfold K5;simp;refine Af h1 (by simp) ?_;simp;refine BK rfl (fun _=>h2) (fun _=>rfl) (by simp) ?_;simp[Ct];exact Ab rfl
abbrev Dk:=T × Int × E
def J5 (f:T) (ρ:Fo):List A:=tL f++[.pob [ρ 1] 1 0,.pob [ρ 2] 1 0,.pob [ρ 3] 1 0,.pob [ρ 4] 1 0,.pob [ρ 5] 1 0]
def UY (d:Dk):List A:=EM d.1 d.2.1 d.2.2
theorem UB {d:Dk}:∀ x,x ∈ UY d→Eo x:=QG
theorem jZ {t:T}:∀ x,x ∈ tL t→Eo x:=fun x hx=>by
 simp only[List.mem_cons,List.not_mem_nil,or_false] at hx;rcases hx with rfl | rfl | rfl<;>simp
theorem tellC_kl {f:T}:KL 6 (J5 f):=ZM (l:=fun _=>tL f) (Hz jZ) (A3 (B4 (by omega)) (A3 (B4 (by omega)) (A3 (B4 (by omega)) (A3 (B4 (by omega)) (A3 (B4 (by omega)) EH)))))
def Me (f t:T) (l:List E) (d:Nat→Dk) (ρ:Fo) (i:Nat) (p:Nm):VOb:=if p=[] then (if i=0 then ⟨1,.cells (J5 f ρ)⟩ else if i=1 then ⟨1,.cells (Ip t l)⟩ else ⟨1,.cells (UY (d (i-2)))⟩) else ⟨0,.none⟩
def Cc (f t:T) (l:List E) (d:Nat→Dk):FamK 6:=⟨Me f t l d,fun t i hi p=>by
  unfold Me;split
  ·split
   ·simp[VOb.ren,Ob.ren,tellC_kl.ren t]
   ·split
    ·simp[VOb.ren,Ob.ren,(BO Nu).1]
    ·simp[VOb.ren,Ob.ren,(BO UB).1]
  ·rfl,fun t i hi p=>by
  unfold Me;split
  ·split
   ·exact tellC_kl.refs t
   ·split
    ·exact(BO Nu).2 _
    ·exact(BO UB).2 _
  ·trivial⟩
theorem MN {f t:T} {l:List E} {d:Nat→Dk} {ρ:Fo} {i:Nat} {p:Nm}:(Cc f t l d).F ρ i p=Me f t l d ρ i p:=rfl
@[simp] theorem Kq {f t:T} {l:List E} {d:Nat→Dk} {ρ:Fo} {p:Nm}:(Cc f t l d).F ρ 0 p=if p=[] then ⟨1,.cells (J5 f ρ)⟩ else ⟨0,.none⟩:=by simp[MN,Me]
@[simp] theorem tellM_1 {f t:T} {l:List E} {d:Nat→Dk} {ρ:Fo} {p:Nm}:(Cc f t l d).F ρ 1 p=if p=[] then ⟨1,.cells (Ip t l)⟩ else ⟨0,.none⟩:=by simp[MN,Me]
@[simp] theorem Dx {f t:T} {l:List E} {d:Nat→Dk} {ρ:Fo} {i:Nat} {p:Nm}:(Cc f t l d).F ρ (i+2) p=if p=[] then ⟨1,.cells (UY (d i))⟩ else ⟨0,.none⟩:=by simp[MN,Me]
theorem Mr {i:Nat} {p:Nm} {F:Nat→Nm→VOb} {H:Hp} (h:i<6):It (List.range 6) F H (i::p)=F i p:=by rw[AG,if_pos h]
set_option maxHeartbeats 4000000 in
theorem Yv {c:Cx} (hP:c.P=Tryz.prog) {t:T} (hw:CG t) (hr:Ay 64 t=true) (hk:t.kind ≠ 10) {H:Hp} {a0 a1 a2 a3 a4 a5 a6 a7:A} (h0:H [0]=⟨1,.cells [a0,a1,a2,a3,a4,a5,a6,a7]⟩) (hq:∀ m p,1≤m→(H (m::p)).u=0)
  {Q:Exit→Sta→Prop} (hQ:∀ st,st.H [0]=⟨1,.cells (tL t++[.pob [1] 1 0,.pob [2] 1 0,.pob [3] 1 0,.pob [4] 1 0,.pob [5] 1 0])⟩→(∀ p,st.H (1::p)=(Lm (Aq t) []).F id 0 p)→(∀ i p,i<4→st.H ((2+i)::p)=(K2 (Aq t) 0 E0).F id 0 p)→(∀ m p,m<1→m::p ≠ [0]→st.H (m::p)=H (m::p))→Q .normal st) :
  WPC c B6 Q ⟨Fk [.pob [0] 1 0,tX t],H⟩:=by
 have hm:c.P.follows .mixedOrders=true:=by rw[hP];exact mixed
 unfold B6;simp[hP,h0,Aa];refine BD [1] (NZ hw hr hk) (by simp) (fun i hi=>by omega) (fun i _ h2 p=>?_) (by simp) (by simp[List.isPrefixOf]) ?_
 ·have:i=0:=by simp at h2;omega
  subst this;simp[Aa,hq]
 simp[hP,h0,Aa];have w1:i64.wrap 1=1:=by decide
 have w2:i64.wrap 2=2:=by decide
 have w3:i64.wrap 3=3:=by decide
 have w4:i64.wrap 4=4:=by decide
 refine Ad hm AD.eq_1 ?_;simp[hP,Aa,Bg,A9];refine BD [1,2] (Cq (t:=Aq t) (l:=[])) (by simp) (fun i hi p=>?_) (fun i h1 h2 p=>?_) (by simp) (by simp[List.isPrefixOf]) ?_
 ·have:i=0:=by omega
  subst this;by_cases p0:p=[]
  ·subst p0;simp[Aa,Bg,A9]
  ·simp[p0,Aa,Bg,A9]
 ·have:i=1:=by simp at h2;omega
  subst this;simp[Aa,hq]
 simp[hP,Aa,Bg,A9,w1,w2,w3,w4];refine Ad hm AD.eq_1 ?_;simp[hP,Aa,Bg,A9];refine BD [1,3] (Cq (t:=Aq t) (l:=[])) (by simp) (fun i hi p=>?_) (fun i h1 h2 p=>?_) (by simp) (by simp[List.isPrefixOf]) ?_
 ·have:i=0:=by omega
  subst this;by_cases p0:p=[]
  ·subst p0;simp[Aa,Bg,A9]
  ·simp[p0,Aa,Bg,A9]
 ·have:i=1:=by simp at h2;omega
  subst this;simp[Aa,hq]
 simp[hP,Aa,Bg,A9,w1,w2,w3,w4];refine Ad hm AD.eq_1 ?_;simp[hP,Aa,Bg,A9];refine BD [1,4] (Cq (t:=Aq t) (l:=[])) (by simp) (fun i hi p=>?_) (fun i h1 h2 p=>?_) (by simp) (by simp[List.isPrefixOf]) ?_
 ·have:i=0:=by omega
  subst this;by_cases p0:p=[]
  ·subst p0;simp[Aa,Bg,A9]
  ·simp[p0,Aa,Bg,A9]
 ·have:i=1:=by simp at h2;omega
  subst this;simp[Aa,hq]
 simp[hP,Aa,Bg,A9,w1,w2,w3,w4];refine Ad hm AD.eq_1 ?_;simp[hP,Aa,Bg,A9];refine BD [1,5] (Cq (t:=Aq t) (l:=[])) (by simp) (fun i hi p=>?_) (fun i h1 h2 p=>?_) (by simp) (by simp[List.isPrefixOf]) ?_
 ·have:i=0:=by omega
  subst this;by_cases p0:p=[]
  ·subst p0;simp[Aa,Bg,A9]
  ·simp[p0,Aa,Bg,A9]
 ·have:i=1:=by simp at h2;omega
  subst this;simp[Aa,hq]
 simp[hP,Aa,Bg,A9,w1,w2,w3,w4];refine Ad hm AD.eq_1 ?_;simp[hP,Aa,Bg,A9];refine hQ _ (by simp[Aa,Bg,A9]) (fun p=>by simp[Aa,Bg,A9]) (fun i p hi=>?_) (fun m p hlt hne=>?_)
 ·have:i=0∨i=1∨i=2∨i=3:=by omega
  rcases this with rfl | rfl | rfl | rfl<;>simp[Aa,Bg,A9]
 ·have:m ≠ 1∧m ≠ 2∧m ≠ 3∧m ≠ 4∧m ≠ 5∧m ≠ 20:=by omega
  obtain⟨n1,n2,n3,n4,n5,n6⟩:=this;simp[Aa,Bo,n1,n2,n3,n4,n5,n6] at hne ⊢;exact fun h1 h2=>(hne h1 h2).elim
set_option maxHeartbeats 4000000 in
theorem Xy {c:Cx} (hP:c.P=Tryz.prog) {t:T} (hw:CG t) (hr:Ay 64 t=true) (hk:t.kind ≠ 10) {H:Hp} {a0 a1 a2 a3 a4 a5 a6 a7:A} (h0:H [0]=⟨1,.cells [a0,a1,a2,a3,a4,a5,a6,a7]⟩) (hq:∀ m p,6≤m→(H (m::p)).u=0)
  {Q:Exit→Sta→Prop} (hQ:∀ st,st.H [0]=⟨1,.cells (tL t++[.pob [6] 1 0,.pob [7] 1 0,.pob [8] 1 0,.pob [9] 1 0,.pob [10] 1 0])⟩→(∀ p,st.H (6::p)=(Lm (Aq t) []).F id 0 p)→(∀ i p,i<4→st.H ((7+i)::p)=(K2 (Aq t) 0 E0).F id 0 p)→(∀ m p,m<6→m::p ≠ [0]→st.H (m::p)=H (m::p))→Q .normal st) :
  WPC c B6 Q ⟨Fk [.pob [0] 1 0,tX t],H⟩:=by
 have hm:c.P.follows .mixedOrders=true:=by rw[hP];exact mixed
 unfold B6;simp[hP,h0,Aa];refine BD [6] (NZ hw hr hk) (by simp) (fun i hi=>by omega) (fun i _ h2 p=>?_) (by simp) (by simp[List.isPrefixOf]) ?_
 ·have:i=0:=by simp at h2;omega
  subst this;simp[Aa,hq]
 simp[hP,h0,Aa];have w1:i64.wrap 1=1:=by decide
 have w2:i64.wrap 2=2:=by decide
 have w3:i64.wrap 3=3:=by decide
 have w4:i64.wrap 4=4:=by decide
 refine Ad hm AD.eq_1 ?_;simp[hP,Aa,Bg,A9];refine BD [6,7] (Cq (t:=Aq t) (l:=[])) (by simp) (fun i hi p=>?_) (fun i h1 h2 p=>?_) (by simp) (by simp[List.isPrefixOf]) ?_
 ·have:i=0:=by omega
  subst this;by_cases p0:p=[]
  ·subst p0;simp[Aa,Bg,A9]
  ·simp[p0,Aa,Bg,A9]
 ·have:i=1:=by simp at h2;omega
  subst this;simp[Aa,hq]
 simp[hP,Aa,Bg,A9,w1,w2,w3,w4];refine Ad hm AD.eq_1 ?_;simp[hP,Aa,Bg,A9];refine BD [6,8] (Cq (t:=Aq t) (l:=[])) (by simp) (fun i hi p=>?_) (fun i h1 h2 p=>?_) (by simp) (by simp[List.isPrefixOf]) ?_
 ·have:i=0:=by omega
  subst this;by_cases p0:p=[]
  ·subst p0;simp[Aa,Bg,A9]
  ·simp[p0,Aa,Bg,A9]
 ·have:i=1:=by simp at h2;omega
  subst this;simp[Aa,hq]
 simp[hP,Aa,Bg,A9,w1,w2,w3,w4];refine Ad hm AD.eq_1 ?_;simp[hP,Aa,Bg,A9];refine BD [6,9] (Cq (t:=Aq t) (l:=[])) (by simp) (fun i hi p=>?_) (fun i h1 h2 p=>?_) (by simp) (by simp[List.isPrefixOf]) ?_
 ·have:i=0:=by omega
  subst this;by_cases p0:p=[]
  ·subst p0;simp[Aa,Bg,A9]
  ·simp[p0,Aa,Bg,A9]
 ·have:i=1:=by simp at h2;omega
  subst this;simp[Aa,hq]
 simp[hP,Aa,Bg,A9,w1,w2,w3,w4];refine Ad hm AD.eq_1 ?_;simp[hP,Aa,Bg,A9];refine BD [6,10] (Cq (t:=Aq t) (l:=[])) (by simp) (fun i hi p=>?_) (fun i h1 h2 p=>?_) (by simp) (by simp[List.isPrefixOf]) ?_
 ·have:i=0:=by omega
  subst this;by_cases p0:p=[]
  ·subst p0;simp[Aa,Bg,A9]
  ·simp[p0,Aa,Bg,A9]
 ·have:i=1:=by simp at h2;omega
  subst this;simp[Aa,hq]
 simp[hP,Aa,Bg,A9,w1,w2,w3,w4];refine Ad hm AD.eq_1 ?_;simp[hP,Aa,Bg,A9];refine hQ _ (by simp[Aa,Bg,A9]) (fun p=>by simp[Aa,Bg,A9]) (fun i p hi=>?_) (fun m p hlt hne=>?_)
 ·have:i=0∨i=1∨i=2∨i=3:=by omega
  rcases this with rfl | rfl | rfl | rfl<;>simp[Aa,Bg,A9]
 ·have:m ≠ 6∧m ≠ 7∧m ≠ 8∧m ≠ 9∧m ≠ 10∧m ≠ 20:=by omega
  obtain⟨n1,n2,n3,n4,n5,n6⟩:=this;simp[Aa,Bo,n1,n2,n3,n4,n5,n6] at hne ⊢;exact fun h1 h2=>(hne h1 h2).elim
theorem Vh {t:T} (hw:CG t) (hr:Ay 64 t=true) (hk:t.kind ≠ 10) {cs:List A} {hf:∀ x,x ∈ cs→Eo x} (hl:cs.length=8):SpecK Tryz.prog 6 1 6 (fun ρ=>[.pob [ρ 0] 1 0,tX t]) (kG cs hf) (fun _=>.tup []) (Cc t (Aq t) [] fun _=>(Aq t,0,E0)):=by
 match cs,hl with
 |[a0,a1,a2,a3,a4,a5,a6,a7],_=>
 refine Bq Gp (by simp) (by omega) (A3 (B4 (i:=0) (by omega)) (A3 (DR JI) EH)) (DR (GR fun x hx=>by simp at hx)) (fun i h1 h2 p=>?_) fun w0 I0 M0 m0 hM=>?_
 ·have:i=1∨i=2∨i=3∨i=4∨i=5:=by omega
  rcases this with rfl | rfl | rfl | rfl | rfl<;>simp[MN,Me]<;>split<;>simp
 ·refine Yv rfl hw hr hk (a0:=a0) (a1:=a1) (a2:=a2) (a3:=a3) (a4:=a4) (a5:=a5) (a6:=a6) (a7:=a7) (by simp) (fun m p hm=>by simp[Bo,show m ≠ 0 by omega]) fun st g0 g1 g2 g3=>?_;refine Qv (r0:=.tup []) (by simp[FW]) rfl fun i hi p=>?_;have:i=0∨i=1∨i=0+2∨i=1+2∨i=2+2∨i=3+2:=by omega
  rcases this with rfl | rfl | rfl | rfl | rfl | rfl
  ·by_cases p0:p=[]
   ·subst p0;rw[g0];simp[J5]
   ·rw[g3 0 p (by omega) (by simp[p0])];simp[p0]
  ·rw[g1 p];simp
  ·rw[g2 0 p (by omega),Dx];simp[UY]
  ·rw[show 1+2=2+1 from rfl,g2 1 p (by omega),show 2+1=1+2 from rfl,Dx];simp[UY]
  ·rw[show 2+2=2+2 from rfl,g2 2 p (by omega),Dx];simp[UY]
  ·rw[show 3+2=2+3 from rfl,g2 3 p (by omega),show 2+3=3+2 from rfl,Dx];simp[UY]
theorem Xg {t f t':T} {l:List E} {d:Nat→Dk} (hw:CG t) (hr:Ay 64 t=true) (hk:t.kind ≠ 10):SpecK Tryz.prog 6 6 11 (fun ρ=>[.pob [ρ 0] 1 0,tX t]) (Cc f t' l d) (fun _=>.tup []) (FamK.nw (k:=5) (Cc f t' l d) (Cc t (Aq t) [] fun _=>(Aq t,0,E0))):=by
 refine Bq Gp (by simp) (by omega) (A3 (B4 (i:=0) (by omega)) (A3 (DR JI) EH)) (DR (GR fun x hx=>by simp at hx)) (fun i h1 h2 p=>?_) fun w0 I0 M0 m0 hM=>?_
 ·rw[j7,if_neg (by omega),if_neg (by omega),MN];unfold Me;split
  ·split
   ·omega
   ·split<;>simp
  ·simp
 ·refine Xy rfl hw hr hk (a0:=iv f.kind) (a1:=Gn f.words) (a2:=DY f.kids) (a3:=.pob [1] 1 0) (a4:=.pob [2] 1 0) (a5:=.pob [3] 1 0) (a6:=.pob [4] 1 0) (a7:=.pob [5] 1 0) (by simp[AG,J5]) (fun m p hm=>by rw[AG,if_neg (by omega)];rfl) fun st g0 g1 g2 g3=>?_;refine Qv (r0:=.tup []) (by simp[FW]) rfl fun i hi p=>?_;rw[j7];by_cases i0:i=0
  ·subst i0;rw[if_pos rfl,Kq];by_cases p0:p=[]
   ·subst p0;rw[g0];simp[J5,Nc]
   ·rw[g3 0 p (by omega) (by simp[p0]),AG,if_pos (by omega)];simp[p0]
  ·rw[if_neg i0];by_cases i6:i<6
   ·rw[if_pos (by omega),g3 i p (by omega) (by simp[i0]),AG,if_pos (by omega)]
   ·rw[if_neg (by omega)];have:i=6∨i=7+0∨i=7+1∨i=7+2∨i=7+3:=by omega
    rcases this with rfl | rfl | rfl | rfl | rfl
    ·rw[g1 p];simp
    ·rw[g2 0 p (by omega),show 7+0-5=0+2 from rfl,Dx];simp[UY]
    ·rw[g2 1 p (by omega),show 7+1-5=1+2 from rfl,Dx];simp[UY]
    ·rw[g2 2 p (by omega),show 7+2-5=2+2 from rfl,Dx];simp[UY]
    ·rw[g2 3 p (by omega),show 7+3-5=3+2 from rfl,Dx];simp[UY]
def Se (F:FamK 6) (s o:List UInt8) (F':FamK 6):Prop:=SpecK Tryz.prog 9 6 6 (fun ρ=>[.pob [ρ 0] 1 0,S s]) F (fun _=>S o) F'
def gz (F:FamK 6) (s o:List UInt8) (F':FamK 6):Prop:=SpecK Tryz.prog 9 6 11 (fun ρ=>[.pob [ρ 0] 1 0,S s]) F (fun _=>S o) (FamK.nw (k:=5) F F')
def Jl (j:Nat):List Nat:=[0,5*j+1,5*j+2,5*j+3,5*j+4,5*j+5]
def ER (j:Nat):List Nat:=[0,5*j+1,5*j+2,5*j+3,5*j+4,5*j+5,5*j+6,5*j+7,5*j+8,5*j+9,5*j+10]
structure Tst where
 F:FamK 6
 j:Nat
 out:List UInt8
 n:Nat
 v:Nat
 a:Bool
 G:List UInt8→Hp
structure Tinv (t:Tst):Prop where
 bx:∀ r,Bx 5003 (t.G r) r
 up:∀ r r',Ar (t.G r) [5003,0] ⟨1,.cells [S r']⟩=t.G r'
 ro:∀ r i,i<6→∀ p,t.G r (DX (Jl t.j) i::p)=t.F.F (DX (Jl t.j)) i p
 fr:∀ r m p,5*t.j+5<m→m<5000→(t.G r (m::p)).u=0
 tv:∀ r,t.G r [5000]=⟨1,.cells [.pob [0] 1 0]⟩
 bd:∀ r p,t.G r (5001::p)=(ND t.a t.out t.v).F 5001 p
 nn:∀ r,t.G r [5002]=⟨1,.cells [iv t.n]⟩
 jn:t.j≤t.n
 nl:t.n≤201
 ol:t.out.length≤t.n*1000000000
def Tst.same (t:Tst) (o:List UInt8) (F':FamK 6):Tst:=⟨F',t.j,t.out++(o++[10]),t.n+1,t.v+1,true,fun r=>
 ov 5001 ((ND true (t.out++(o++[10])) (t.v+1)).F 5001) (It (Jl t.j) (F'.F (DX (Jl t.j))) (Ar (t.G r) [5002] ⟨1,.cells [iv (t.n+1:Nat)]⟩))⟩
def Tst.anew (t:Tst) (o:List UInt8) (F':FamK 6):Tst:=⟨F',t.j+1,t.out++(o++[10]),t.n+1,t.v+1,true,fun r=>
 ov 5001 ((ND true (t.out++(o++[10])) (t.v+1)).F 5001) (It (ER t.j) ((FamK.nw (k:=5) t.F F').F (DX (ER t.j))) (Ar (t.G r) [5002] ⟨1,.cells [iv (t.n+1:Nat)]⟩))⟩
def Tst.over (t:Tst):Tst:=⟨t.F,t.j,t.out,t.n+1,t.v,t.a,fun r=>Ar (t.G r) [5002] ⟨1,.cells [iv (t.n+1:Nat)]⟩⟩
theorem iG {r:Nat} {f:Nm→VOb} {H:Hp} {o:Nm} {x:VOb} (h:∀ p,o ≠ r::p):Ar (ov r f H) o x=ov r f (Ar H o x):=by
 funext q;cases q with
 |nil=>simp only[Ar,dB]
 |cons i p=>
  by_cases hi:i=r
  ·subst hi;have:i::p ≠ o:=fun e=>h p e.symm;simp[Ar,Bo,this]
  ·simp only[Ar,Bo,if_neg hi]
theorem YA {o:Nm} {x:VOb}:∀ {l:List Nat} {F:Nat→Nm→VOb} {H:Hp},(∀ r,r ∈ l→∀ p,o ≠ r::p)→Ar (It l F H) o x=It l F (Ar H o x)
 |[],F,H,_=>rfl
 |r::l,F,H,h=>by
  rw[MB,MB,iG (h r (by simp)),YA fun r hr=>h r (by simp[hr])]
theorem PG {j i:Nat} (hj:j≤201) (h:i ∈ Jl j):i<2000:=by
 simp[Jl] at h;omega
theorem Tn {j i:Nat} (hj:j≤201) (h:i ∈ ER j):i<2000:=by
 simp[ER] at h;omega
theorem ir (j:Nat):(Jl j).Nodup:=by simp[Jl]
theorem TR (j:Nat):(ER j).Nodup:=by simp[ER]
theorem dA {j i:Nat} (h:i<6):DX (ER j) i=DX (Jl j) i:=by
 have:i=0∨i=1∨i=2∨i=3∨i=4∨i=5:=by omega
 rcases this with rfl | rfl | rfl | rfl | rfl | rfl<;>rfl
theorem Yx {j i:Nat} (h:i<6):Nc 5 (DX (ER j)) i=DX (Jl (j+1)) i:=by
 have:i=0∨i=1∨i=2∨i=3∨i=4∨i=5:=by omega
 rcases this with rfl | rfl | rfl | rfl | rfl | rfl<;>simp[Nc,ER,Jl,DX]<;>omega
theorem Jj {l:List Nat} {i:Nat} (h:i<l.length):DX l i ∈ l:=by
 rw[D8];have:l.getD i 0=l[i]:=by simp[h]
 rw[this];exact EI h
theorem Yl {l:List Nat} (hn:l.Nodup) {F:Nat→Nm→VOb} {H:Hp} {i:Nat} (h:i<l.length) {p:Nm}:It l F H (DX l i::p)=F i p:=by
 rw[Gd,if_pos (Jj h),D8,D5 hn h]
theorem Tinv.same {t:Tst} (h:Tinv t) (hn:t.n<200) {o:List UInt8} {F':FamK 6} (ho:o.length<1000000000):Tinv (t.same o F'):=by
 have hj:t.j≤201:=by have:=h.jn;omega
 have h6:∀ i,i ∈ Jl t.j→i<2000:=fun i hi=>PG hj hi;have hx:∀ i p r,2000≤i→i ≠ 5001→i ≠ 5002→(t.same o F').G r (i::p)=t.G r (i::p):=fun i p r h1 h2 h3=>by
  show ov 5001 _ (It (Jl t.j) _ (Ar (t.G r) [5002] _)) (i::p)=_;rw[Bo,if_neg h2,Gd,if_neg (fun hm=>by have:=h6 i hm;omega),Ao (fun e=>h3 (by simp at e;exact e.1))]
 refine⟨fun r=>⟨?_,?_,?_⟩,fun r r'=>?_,fun r i hi p=>?_,fun r m p h1 h2=>?_,fun r=>?_,fun r p=>?_,fun r=>?_,?_,?_,?_⟩
 ·rw[hx 5003 _ _ (by omega) (by omega) (by omega)];exact(h.bx r).s
 ·rw[hx 5003 _ _ (by omega) (by omega) (by omega)];exact(h.bx r).p
 ·rw[hx 5003 _ _ (by omega) (by omega) (by omega)];exact(h.bx r).z
 ·show Ar (ov 5001 _ (It (Jl t.j) _ (Ar (t.G r) [5002] _))) [5003,0] _=ov 5001 _ (It (Jl t.j) _ (Ar (t.G r') [5002] _));rw[iG (by simp),YA (fun i hi p e=>by have:=h6 i hi;simp at e;omega),Nk (by simp),h.up r r']
 ·have hi2:i<(Jl t.j).length:=hi;have hm:=h6 _ (Jj hi2);show ov 5001 _ (It (Jl t.j) _ (Ar (t.G r) [5002] _)) (DX (Jl t.j) i::p)=F'.F (DX (Jl t.j)) i p;rw[Bo,if_neg (by omega),Yl (ir _) hi2]
 ·have hm:m ∉ Jl t.j:=fun hm=>by
   simp[Jl] at hm;have:5*t.j+5<m:=h1;omega
  show(ov 5001 _ (It (Jl t.j) _ (Ar (t.G r) [5002] _)) (m::p)).u=0;rw[Bo,if_neg (by omega),Gd,if_neg hm,Ao (by simp;omega)];exact h.fr r m p h1 h2
 ·rw[hx 5000 _ _ (by omega) (by omega) (by omega)];exact h.tv r
 ·simp only[Tst.same];rw[Bo,if_pos rfl]
 ·simp only[Tst.same];rw[Bo,if_neg (by omega),Gd,if_neg (fun hm=>by have:=h6 _ hm;omega),A5]
 ·show t.j≤t.n+1;have:=h.jn;omega
 ·show t.n+1≤201;omega
 ·show(t.out++(o++[10])).length≤(t.n+1)*1000000000;have:=h.ol;simp;omega
theorem Tinv.anew {t:Tst} (h:Tinv t) (hn:t.n<200) {o:List UInt8} {F':FamK 6} (ho:o.length<1000000000):Tinv (t.anew o F'):=by
 have hj:t.j≤201:=by have:=h.jn;omega
 have h6:∀ i,i ∈ ER t.j→i<2000:=fun i hi=>Tn hj hi;have hx:∀ i p r,2000≤i→i ≠ 5001→i ≠ 5002→(t.anew o F').G r (i::p)=t.G r (i::p):=fun i p r h1 h2 h3=>by
  show ov 5001 _ (It (ER t.j) _ (Ar (t.G r) [5002] _)) (i::p)=_;rw[Bo,if_neg h2,Gd,if_neg (fun hm=>by have:=h6 i hm;omega),Ao (fun e=>h3 (by simp at e;exact e.1))]
 refine⟨fun r=>⟨?_,?_,?_⟩,fun r r'=>?_,fun r i hi p=>?_,fun r m p h1 h2=>?_,fun r=>?_,fun r p=>?_,fun r=>?_,?_,?_,?_⟩
 ·rw[hx 5003 _ _ (by omega) (by omega) (by omega)];exact(h.bx r).s
 ·rw[hx 5003 _ _ (by omega) (by omega) (by omega)];exact(h.bx r).p
 ·rw[hx 5003 _ _ (by omega) (by omega) (by omega)];exact(h.bx r).z
 ·show Ar (ov 5001 _ (It (ER t.j) _ (Ar (t.G r) [5002] _))) [5003,0] _=ov 5001 _ (It (ER t.j) _ (Ar (t.G r') [5002] _));rw[iG (by simp),YA (fun i hi p e=>by have:=h6 i hi;simp at e;omega),Nk (by simp),h.up r r']
 ·have hi2:i<(Jl t.j).length:=hi;show ov 5001 _ (It (ER t.j) _ (Ar (t.G r) [5002] _)) (DX (Jl (t.j+1)) i::p)=F'.F (DX (Jl (t.j+1))) i p;by_cases h0:i=0
  ·subst h0;have e:=Yl (TR t.j) (F:=(FamK.nw (k:=5) t.F F').F (DX (ER t.j))) (H:=Ar (t.G r) [5002] ⟨1,.cells [iv (t.n+1:Nat)]⟩) (i:=0) (by simp[ER]) (p:=p);rw[Bo,if_neg (by simp[Jl])];refine Eq.trans e ?_;rw[j7,if_pos rfl];exact MJ F' (fun i hi=>Yx hi) (by omega)
  ·have e:=Yl (TR t.j) (F:=(FamK.nw (k:=5) t.F F').F (DX (ER t.j))) (H:=Ar (t.G r) [5002] ⟨1,.cells [iv (t.n+1:Nat)]⟩) (i:=i+5) (by simp[ER];omega) (p:=p);have e2:DX (Jl (t.j+1)) i=DX (ER t.j) (i+5):=by
    rw[← Yx (j:=t.j) (by omega)];simp[Nc,h0]
   have hm:DX (ER t.j) (i+5)<2000:=h6 _ (Jj (by simp[ER];omega));rw[Bo,if_neg (by rw[e2];omega),e2,e,j7,if_neg (by omega),if_neg (by omega)];have e3:i+5-5=i:=by omega
   rw[e3];exact MJ F' (fun i hi=>Yx hi) hi
 ·have hm:m ∉ ER t.j:=fun hm=>by
   simp[ER] at hm;have:5*(t.j+1)+5<m:=h1;omega
  have h1':5*(t.j+1)+5<m:=h1;show(ov 5001 _ (It (ER t.j) _ (Ar (t.G r) [5002] _)) (m::p)).u=0;rw[Bo,if_neg (by omega),Gd,if_neg hm,Ao (by simp;omega)];exact h.fr r m p (by omega) h2
 ·rw[hx 5000 _ _ (by omega) (by omega) (by omega)];exact h.tv r
 ·simp only[Tst.anew];rw[Bo,if_pos rfl]
 ·simp only[Tst.anew];rw[Bo,if_neg (by omega),Gd,if_neg (fun hm=>by have:=h6 _ hm;omega),A5]
 ·show t.j+1≤t.n+1;have:=h.jn;omega
 ·show t.n+1≤201;omega
 ·show(t.out++(o++[10])).length≤(t.n+1)*1000000000;have:=h.ol;simp;omega
theorem Tinv.over {t:Tst} (h:Tinv t) (hn:t.n≤200):Tinv t.over:=by
 have hj:t.j≤201:=by have:=h.jn;omega
 have hx:∀ i p r,i ≠ 5002→t.over.G r (i::p)=t.G r (i::p):=fun i p r h3=>by
  show Ar (t.G r) [5002] _ (i::p)=_;rw[Ao (fun e=>h3 (by simp at e;exact e.1))]
 refine⟨fun r=>⟨?_,?_,?_⟩,fun r r'=>?_,fun r i hi p=>?_,fun r m p h1 h2=>?_,fun r=>?_,fun r p=>?_,fun r=>?_,?_,?_,?_⟩
 ·rw[hx 5003 [0] r (by omega)];exact(h.bx r).s
 ·rw[hx 5003 [1] r (by omega)];exact(h.bx r).p
 ·rw[hx 5003 [2] r (by omega)];exact(h.bx r).z
 ·show Ar (Ar (t.G r) [5002] _) [5003,0] _=Ar (t.G r') [5002] _;rw[Nk (by simp),h.up r r']
 ·have hi2:i<(Jl t.j).length:=hi;have hm:=PG hj (Jj hi2);exact(hx (DX (Jl t.j) i) p r (by omega)).trans (h.ro r i hi p)
 ·rw[hx m p r (by omega)];exact h.fr r m p h1 h2
 ·rw[hx 5000 [] r (by omega)];exact h.tv r
 ·rw[hx 5001 p r (by omega)];exact h.bd r p
 ·show Ar (t.G r) [5002] _ [5002]=_;rw[A5];rfl
 ·show t.j≤t.n+1;have:=h.jn;omega
 ·show t.n+1≤201;omega
 ·show t.out.length≤(t.n+1)*1000000000;exact Nat.le_trans h.ol (Nat.mul_le_mul_right _ (by omega))
def O7:List UInt8:=[101,114,114,111,114,32,49,54]
theorem VS:G.Spec Tryz.prog 19 [iv 16] (S O7):=by
 have h:=Sx 16 (by omega) (by omega) (by decide +kernel);have e:Y7 16=O7:=by decide +kernel
 rwa [e] at h
theorem Lp:G.Spec Tryz.prog 19 [iv 0] (S [111,107]):=by
 have h:=Sx 0 (by omega) (by omega) (by decide +kernel);have e:Y7 0=[111,107]:=by decide +kernel
 rwa [e] at h
theorem IV {s:List UInt8}:KL 6 (fun ρ=>[.pob [ρ 0] 1 0,S s]):=A3 (B4 (i:=0) (by omega)) (A3 LI EH)
theorem yA {F:FamK 6}:SpecK Tryz.prog 16 6 6 (fun ρ=>[.pob [ρ 0] 1 0,S [120]]) F (fun _=>S O7) F:=by
 refine Bq Hy (by simp) (by omega) IV LI (fun i h1 h2 p=>by omega) fun w0 I0 M0 m0 hM=>?_;unfold EZ;simp[Ct];refine Af VS (by simp) ?_;simp;exact Bf (r0:=S O7) (by simp) rfl fun i hi p=>Mr hi
theorem lY:Br [120]=[[120]]:=by decide +kernel
theorem qh {F:FamK 6}:Se F [120] O7 F:=by
 have hs:=G0 [120] (by simp);rw[lY] at hs;refine Bq Cg (by simp) (by omega) IV LI (fun i h1 h2 p=>by omega) fun w0 I0 M0 m0 hM=>?_;unfold BR;simp;refine Af hs (by simp) ?_;simp;refine Kf yA (fun i hi p=>by rw[AG,if_pos hi]) (fun i h1 h2=>by omega) (by simp) (by simp) ?_;simp;exact Bf (r0:=S O7) (by simp) rfl fun i hi p=>Mr hi
end Go.Proofs.YtgkdikddjfgajaaGreatDoor
namespace Go.PL
structure Sc where
 i:Nat
 j:Nat
 n:Int
 deriving DecidableEq
def sc0:Sc:=⟨0,0,0⟩
end Go.PL
namespace Go.Proofs.YtgkdikddjfgajaaGreatDoor
open Go Go.G Go.Proofs Go.PL
instance:Inhabited Sc:=⟨sc0⟩
variable {n0:Nat} {w0:World} {I0:Nat→Prop} {M0:Nm→Nat→Prop} {m0:Mu} {Q:Exit→Sta→Prop} {v:Nat}
end Go.Proofs.YtgkdikddjfgajaaGreatDoor
