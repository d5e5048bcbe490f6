/-
 Texts,merged,without what is not reached.
-/
import Derived.Test.YtbjmaoedheiigaaGreatKBb
set_option linter.unusedSimpArgs false
set_option linter.unusedVariables false
open Go.IntKind (i64 u64)
namespace Go.G
open Go.RowKit
mutual
def A.ren (g:Nm→Nm) (δ:Nm→Nat):A→A
 |.pob o u off=>.pob (g o) (u+δ o) off
 |.osl o u sz off len=>.osl (g o) (u+δ o) sz off len
 |.pel o u i j=>.pel (g o) (u+δ o) i j
 |.agg cs=>.agg (A.renL g δ cs)
 |.tup cs=>.tup (A.renL g δ cs)
 |.fnc f fs cs=>.fnc f (A.renL g δ fs) (A.renL g δ cs)
 |.ifc t x=>.ifc t (A.ren g δ x)
 |.any=>.any
 |.v x=>.v x
 |.sl f xs=>.sl f xs
 |.pim cs=>.pim cs
def A.renL (g:Nm→Nm) (δ:Nm→Nat):List A→List A
 |[]=>[]
 |x::xs=>A.ren g δ x::A.renL g δ xs
end
mutual
def A.refs (S:Nm→Prop):A→Prop
 |.pob o u off=>S o
 |.osl o u sz off len=>S o
 |.pel o u i j=>S o
 |.agg cs=>A.refsL S cs
 |.tup cs=>A.refsL S cs
 |.fnc f fs cs=>A.refsL S fs∧A.refsL S cs
 |.ifc t x=>A.refs S x
 |.any=>True
 |.v x=>True
 |.sl f xs=>True
 |.pim cs=>True
def A.refsL (S:Nm→Prop):List A→Prop
 |[]=>True
 |x::xs=>A.refs S x∧A.refsL S xs
end
theorem Cv {g:Nm→Nm} {δ:Nm→Nat}:∀ l:List A,A.renL g δ l=l.map (A.ren g δ)
 |[]=>by simp[A.renL]
 |x::l=>by simp[A.renL,Cv l]
theorem refsL_iff {S:Nm→Prop}:∀ {l:List A},A.refsL S l ↔ ∀ x,x ∈ l→x.refs S
 |[]=>by simp[A.refsL]
 |x::l=>by simp[A.refsL,refsL_iff (l:=l)]
theorem ZY {g:Nm→Nm} {δ:Nm→Nat} (a:A):(a.ren g δ).cells=a.cells.map (A.ren g δ):=by cases a<;>simp[A.ren,A.cells,Cv]
theorem dE {g:Nm→Nm} {δ:Nm→Nat}:∀ l:List A,(l.map (A.ren g δ)).flatMap A.cells=(l.flatMap A.cells).map (A.ren g δ)
 |[]=>rfl
 |x::l=>by simp[ZY,dE l]
theorem lN {g:Nm→Nm} {δ:Nm→Nat} (a:A):(a.ren g δ).one=a.one:=by cases a<;>simp[A.ren,A.one]
theorem kn {S:Nm→Prop} {a y:A} (h:a.refs S) (hy:y ∈ a.cells):y.refs S:=by
 cases a<;>simp[A.cells] at hy<;>first | (subst hy;exact h) | exact refsL_iff.1 (by simpa[A.refs] using h) y hy
theorem Rel.ren {w:World} {I:Nat→Prop} {μ:Mu} {a:A} {v:Value} (h:Rel w I μ a v):∀ {μ':Mu} {S:Nm→Prop} {g:Nm→Nm} {δ:Nm→Nat},a.refs S→(∀ o,S o→1≤(μ o).u→μ' (g o)={ μ o with u:=(μ o).u+δ o })→Rel w I μ' (a.ren g δ) v:=by
 induction h with
 |any=>intro μ' S g δ _ _;simpa[A.ren] using Rel.any _ _
 |v=>intro μ' S g δ _ _;simpa[A.ren] using Rel.v _ _
 |slN _ _ _ _ h=>intro μ' S g δ _ _;simpa[A.ren] using Rel.slN _ _ _ _ h
 |sl μ f b off n cap sz xs g hb hn hc hf hs h1 hcell hr _=>intro μ' S g' δ _ _;simpa[A.ren] using Rel.sl _ f b off n cap sz xs g hb hn hc hf hs h1 hcell hr
 |pim μ b off cs g hb h1 hcell hr _=>intro μ' S g' δ _ _;simpa[A.ren] using Rel.pim _ b off cs g hb h1 hcell hr
 |agg μ cs vs hl _ ih=>
  intro μ' S g δ hS hμ;simp only[A.ren,Cv];refine .agg _ _ _ (by simpa using hl) fun k y hk=>?_;rw[List.getElem?_map,Option.map_eq_some_iff] at hk;obtain⟨y',hy,rfl⟩:=hk;exact ih k y' hy (refsL_iff.1 (by simpa[A.refs] using hS) y' (List.mem_of_getElem? hy)) hμ
 |tup μ cs vs hl _ ih=>
  intro μ' S g δ hS hμ;simp only[A.ren,Cv];refine .tup _ _ _ (by simpa using hl) fun k y hk=>?_;rw[List.getElem?_map,Option.map_eq_some_iff] at hk;obtain⟨y',hy,rfl⟩:=hk;exact ih k y' hy (refsL_iff.1 (by simpa[A.refs] using hS) y' (List.mem_of_getElem? hy)) hμ
 |fnc μ f fs caps us vs hl0 _ hl _ ih0 ih=>
  intro μ' S g δ hS hμ;simp only[A.refs] at hS;simp only[A.ren,Cv];refine .fnc _ _ _ _ _ _ (by simpa using hl0) (fun k y hk=>?_) (by simpa using hl) fun k y hk=>?_
  ·rw[List.getElem?_map,Option.map_eq_some_iff] at hk;obtain⟨y',hy,rfl⟩:=hk;exact ih0 k y' hy (refsL_iff.1 hS.1 y' (List.mem_of_getElem? hy)) hμ
  ·rw[List.getElem?_map,Option.map_eq_some_iff] at hk;obtain⟨y',hy,rfl⟩:=hk;exact ih k y' hy (refsL_iff.1 hS.2 y' (List.mem_of_getElem? hy)) hμ
 |ifc _ _ _ _ _ ih=>
  intro μ' S g δ hS hμ;simp only[A.ren];exact .ifc _ _ _ _ (ih (by simpa[A.refs] using hS) hμ)
 |pob μ o u off b k h1 h2 h3=>
  intro μ' S g δ hS hμ;have e:=hμ o (by simpa[A.refs] using hS) (by omega);simp only[A.ren];exact .pob _ _ _ _ _ _ (by omega) (by rw[e];simpa using h2) fun hu=>by rw[e] at hu ⊢; exact h3 (by simpa using hu)
 |osl μ o u sz off len a cap h1 h2 h4 h5 h3=>
  intro μ' S g δ hS hμ;have e:=hμ o (by simpa[A.refs] using hS) (by omega);simp only[A.ren];exact .osl _ _ _ _ _ _ _ _ (by omega) (by rw[e];simpa using h2) h4 h5 fun hu=>by rw[e] at hu ⊢; exact h3 (by simpa using hu)
 |pel μ o u i j b k h1 h2 h3=>
  intro μ' S g δ hS hμ;have e:=hμ o (by simpa[A.refs] using hS) (by omega);simp only[A.ren];exact .pel _ _ _ _ _ _ _ (by omega) (by rw[e];simpa using h2) fun hu=>by rw[e] at hu ⊢; exact h3 (by simpa using hu)
def Ob.ren (g:Nm→Nm) (δ:Nm→Nat):Ob→Ob
 |.none=>.none
 |.cells cs=>.cells (A.renL g δ cs)
 |.arr sz xs=>.arr sz (A.renL g δ xs)
def Ob.refs (S:Nm→Prop):Ob→Prop
 |.none=>True
 |.cells cs=>A.refsL S cs
 |.arr sz xs=>A.refsL S xs
theorem Yk {g:Nm→Nm} {δ:Nm→Nat} {L:yo} {ob:Ob}:EA L (ob.ren g δ)=EA L ob:=by cases ob<;>rfl
theorem OSim.ren {w:World} {I:Nat→Prop} {μ μ':Mu} {L L':yo} {ob:Ob} {S:Nm→Prop} {g:Nm→Nm} {δ:Nm→Nat} (h:OSim w I μ L ob) (hS:ob.refs S) (hμ:∀ o,S o→1≤(μ o).u→μ' (g o)={ μ o with u:=(μ o).u+δ o }) (hL:L'={ L with u:=L'.u }) :
  OSim w I μ' L' (ob.ren g δ):=by
 rw[hL];cases ob with
 |none=>trivial
 |cells cs=>
  obtain⟨vs,h1,h2,h3⟩:=h;simp only[Ob.ren,Cv];refine⟨vs,h1,by simpa using h2,fun k y hk=>?_⟩;rw[List.getElem?_map,Option.map_eq_some_iff] at hk;obtain⟨y',hy,rfl⟩:=hk;exact⟨by rw[lN];exact(h3 k y' hy).1,(h3 k y' hy).2.ren (refsL_iff.1 hS y' (List.mem_of_getElem? hy)) hμ⟩
 |arr sz xs=>
  simp only[Ob.ren,Cv];obtain⟨h0,⟨h1,h2⟩ | ⟨h1,vs,h3,h4,h5,h6,h7⟩⟩:=h
  ·exact⟨h0,.inl ⟨h1,by rw[h2];rfl⟩⟩
  ·refine⟨h0,.inr ⟨h1,vs,h3,h4,by simpa using h5,fun x hx=>?_,fun k y hk=>?_⟩⟩
   ·obtain⟨x',hx',rfl⟩:=List.mem_map.1 hx;simpa[ZY] using h6 x' hx'
   ·rw[dE,List.getElem?_map,Option.map_eq_some_iff] at hk;obtain⟨y',hy,rfl⟩:=hk;obtain⟨x,hx,hy'⟩:=List.mem_flatMap.1 (List.mem_of_getElem? hy);exact⟨by rw[lN];exact(h7 k y' hy).1,(h7 k y' hy).2.ren (kn (refsL_iff.1 hS x hx) hy') hμ⟩
def DG (P:Program) (w0:World) (I0:Nat→Prop) (M0:Nm→Nat→Prop) (n:Nat) (m0:Mu):Cx:=⟨P,w0,I0,M0,n,m0⟩
@[simp] theorem AiY {P:Program} {w0:World} {I0:Nat→Prop} {M0:Nm→Nat→Prop} {n:Nat} {m0:Mu}:(DG P w0 I0 M0 n m0).P=P:=rfl
def Jc (P:Program) (f:FuncId) (k:Nat) (args:List A) (Hc:Hp) (r:A) (Hr:Hp):Prop:=
 YO P f=true∧∀ (w:World) (I:Nat→Prop) (M0:Nm→Nat→Prop) (n:Nat) (μ:Mu) (vs:Array Value),(∀ (o:Nm) (b:Nat),(Hc o).ob = .none→¬ M0 o b)→Sim (DG P w I M0 n μ) w I μ Hc→vs.size=args.length→(∀ (k:Nat) (y:A),args[k]? = some y→Rel w I μ y (vs.getD k undef)) →
  Calls P f vs w fun e w'=>∃ v,e = .returned v∧∃ H' I' μ',Sim (DG P w I M0 n μ) w' I' μ' H'∧Rel w' I' μ' r v∧∀ (i:Nat) (p:Nm),i<k→H' (i::p)=Hr (i::p)
theorem Sim.of_n {P:Program} {w0 w:World} {I0 I:Nat→Prop} {M0:Nm→Nat→Prop} {n n':Nat} {m0 μ:Mu} {H:Hp} (h:Sim (DG P w0 I0 M0 n m0) w I μ H):Sim (DG P w0 I0 M0 n' m0) w I μ H:=
 ⟨h.kept,h.lt,h.old,h.new,h.ver,h.ob,h.apart,h.own,h.mle,h.tag,h.tab⟩
def Nt (c:Cx) (rs:List ResultVar) (k:Nat) (r:A) (Hr:Hp):Exit→Sta→Prop:=fun e st=>VA c (pJ c.P rs (fun r0 H=>r0=r∧∀ (i:Nat) (p:Nm),i<k→H (i::p)=Hr (i::p)) e) st
theorem PT {c:Cx} {rs:List ResultVar} {k:Nat} {r:A} {Hr:Hp} {e:Exit} {st st':Sta} (h:Le c st st') (k':Nt c rs k r Hr e st'):Nt c rs k r Hr e st:=Cm h k'
theorem FZ {c:Cx} {rs:List ResultVar} {k:Nat} {r r0:A} {Hr:Hp} {st:Sta} (h:O7 c.P st rs=some r0) (he:r0=r) (hh:∀ (i:Nat) (p:Nm),i<k→st.H (i::p)=Hr (i::p)):Nt c rs k r Hr .ret st:=CQ ⟨r0,h,he,hh⟩
theorem Pa {c:Cx} {rs:List ResultVar} {k:Nat} {r r0:A} {Hr:Hp} {st:Sta} (h:O7 c.P st rs=some r0) (he:r0=r) (hh:∀ (i:Nat) (p:Nm),i<k→st.H (i::p)=Hr (i::p)):Nt c rs k r Hr .normal st:=CQ ⟨r0,h,he,hh⟩
theorem Zc {P:Program} {f:FuncId} {n k:Nat} {rs:List ResultVar} {cc:CC} {args:List A} {Hc:Hp} {r:A} {Hr:Hp} (t:Ba P f n rs cc) (ha:args.length≤n)
  (h:∀ w0 I0 M0 m0,(∀ (o:Nm) (b:Nat),(Hc o).ob = .none→¬ M0 o b)→WPC (DG P w0 I0 M0 n m0) cc (Nt (DG P w0 I0 M0 n m0) rs k r Hr) ⟨Rz args,Hc⟩):Jc P f k args Hc r Hr:=by
 obtain⟨hm,hk,fn,code,hf,hb,hn,hrs,hc⟩:=t;refine⟨hk,fun w I M0 n' μ vs hN hs hl har=>?_⟩;refine(XV (Q:=fun r0 H=>r0=r∧∀ (i:Nat) (p:Nm),i<k→H (i::p)=Hr (i::p)) hf hb (c:=DG P w I M0 n μ) rfl hn.symm hl (by omega) (Sim.of_n hs) har (fun a w1 I1 μ1 hsr=>wp_mono (PH (c:=DG P w I M0 n μ) hm hc (h w I M0 μ hN) a w1 I1 μ1 hsr) fun e a' w' ⟨st',I',μ',g1,st2,g2,g3⟩=>by
   obtain⟨I2,μ2,g4⟩:=g2 a' w' I' μ' g1;exact⟨st2,I2,μ2,g4,by rw[hrs];exact g3⟩)).mono fun e w' ⟨v,r0,H',I',μ',he,h1,h2,h3,h4⟩=>?_
 subst h3;exact⟨v,he,H',I',μ',h1.of_n,h2,h4⟩
theorem Jf {P:Program} {f:FuncId} {n k:Nat} {rs:List ResultVar} {cc:CC} {args:List A} {Hc:Hp} {r:A} {Hr:Hp} (t:Ba P f n rs cc) (ha:args.length≤n)
  (h:∀ w0 I0 M0 m0,WPC (DG P w0 I0 M0 n m0) cc (Nt (DG P w0 I0 M0 n m0) rs k r Hr) ⟨Rz args,Hc⟩):Jc P f k args Hc r Hr:=Zc t ha fun w0 I0 M0 m0 _=>h w0 I0 M0 m0
def VI (rs:List Nat):Nm→Nm
 |i::p=>rs.getD i 0::p
 |[]=>[]
def YJ (rs:List Nat):Nm→Nm
 |j::p=>rs.idxOf j::p
 |[]=>[]
def Yv (rs:List Nat) (m:Nat):Nm→Prop
 |j::p=>rs.idxOf j<m
 |[]=>False
def Iu (k:Nat):Nm→Prop
 |i::p=>i<k
 |[]=>False
def OY (rs:List Nat) (m:Nat) (H:Hp):Nm→Nat
 |i::p=>if i<m then 0 else if i<rs.length then (H (rs.getD i 0::p)).u else 0
 |[]=>0
def VOb.ren (g:Nm→Nm) (δ:Nm→Nat) (d:Nat) (x:VOb):VOb:=⟨x.u+d,x.ob.ren g δ⟩
def Ii (rs:List Nat) (m:Nat) (H Hr:Hp):Hp
 |j::p=>(Hr (rs.idxOf j::p)).ren (VI rs) (OY rs m H) (OY rs m H (rs.idxOf j::p))
 |[]=>⟨0,.none⟩
theorem MQ {rs:List Nat} (hnd:rs.Nodup) {i:Nat} (h:i<rs.length):rs.idxOf (rs.getD i 0)=i:=by
 have e:rs.getD i 0=rs[i]:=by simp[List.getD,h]
 rw[e];exact hnd.idxOf_getElem i h
theorem Sk {rs:List Nat} {j:Nat} (h:j ∈ rs):rs.getD (rs.idxOf j) 0=j:=by
 have hl:=List.idxOf_lt_length_iff.2 h;simp[List.getD,hl]
theorem idx_mem {rs:List Nat} {j:Nat}:rs.idxOf j<rs.length ↔ j ∈ rs:=List.idxOf_lt_length_iff
theorem kI {g:Nm→Nm} {δ:Nm→Nat} {d:Nat} {x:VOb} (h:(x.ren g δ d).ob = .none):x.ob = .none:=by
 cases x with
 |mk u ob=>cases ob<;>first | rfl | cases h
theorem Uf {P:Program} {f:FuncId} {rs:List Nat} {m:Nat} {args:List A} {Hc Hr:Hp} {r:A} {H:Hp} (hnd:rs.Nodup) (hm:m≤rs.length)
  (hS:Jc P f rs.length (A.renL (YJ rs) (fun _=>0) args) Hc r Hr)
  (h1:∀ (i:Nat) (p:Nm),i<m→Hc (i::p)=(H (rs.getD i 0::p)).ren (YJ rs) (fun _=>0) 0) (h2:∀ (i:Nat) (p:Nm),m≤i→Hc (i::p)=⟨0,.none⟩) (h3:Hc []=⟨0,.none⟩)
  (ha:A.refsL (Yv rs m) args) (hc:∀ (i:Nat) (p:Nm),i<m→(H (rs.getD i 0::p)).ob.refs (Yv rs m))
  (hr:r.refs (Iu rs.length)) (ho:∀ (i:Nat) (p:Nm),i<rs.length→(Hr (i::p)).ob.refs (Iu rs.length))
  (hv:∀ (i:Nat) (p:Nm),m≤i→i<rs.length→(Hr (i::p)).ob = .none∨1≤(Hr (i::p)).u) :
  Yg P H f args (r.ren (VI rs) (OY rs m H)) (.fn rs (Ii rs m H Hr)):=by
 refine⟨hS.1,fun c w I μ vs hP hs hl har=>?_⟩
 let nm:Nat→Nm→Nm:=fun i p=>rs.getD i 0::p
 let μc:Mu:=fun o=>match o with
  |i::p=>if i<m then μ (nm i p) else YN (i::p)
  |[]=>YN []
 let M1:Nm→Nat→Prop:=fun o b=>∃ i p,o=i::p∧i<m∧EA (μ (nm i p)) (H (nm i p)).ob=true∧b=(μ (nm i p)).b
 have hμ:∀ o,Yv rs m o→1≤(μ o).u→μc (YJ rs o)={ μ o with u:=(μ o).u+(fun _=>0) o }:=fun o ho _=>by
  cases o with
  |nil=>exact ho.elim
  |cons j p=>
   have hj:rs.idxOf j<m:=ho;show(if rs.idxOf j<m then μ (nm (rs.idxOf j) p) else _)=_;rw[if_pos hj];have:nm (rs.idxOf j) p=j::p:=by show rs.getD (rs.idxOf j) 0::p=_;rw[Sk (idx_mem.1 (by omega))]
   rw[this];rfl
 have nm_ne:∀ {i i':Nat} {p p':Nm},i<rs.length→i'<rs.length→i::p ≠ i'::p'→nm i p ≠ nm i' p':=fun {i i' p p'} hi hi' hne e=>by
  have e1:rs.getD i 0=rs.getD i' 0:=by injection e
  have e2:p=p':=by injection e
  have:=MQ hnd hi;rw[e1,MQ hnd hi'] at this;exact hne (by rw[this,e2])
 have own1:∀ (i:Nat) (p:Nm),EA (μc (i::p)) (Hc (i::p)).ob=true→i<m∧EA (μ (nm i p)) (H (nm i p)).ob=true∧μc (i::p)=μ (nm i p):=fun i p h=>by
  by_cases hi:i<m
  ·have e:μc (i::p)=μ (nm i p):=if_pos hi;rw[e,h1 i p hi] at h;simp only[VOb.ren,Yk] at h;exact⟨hi,h,e⟩
  ·rw[h2 i p (by omega)] at h;cases h
 have start:Sim (DG P w I M1 0 μc) w I μc Hc:=by
  refine⟨⟨rfl,rfl,rfl,BZ _,fun _ _ _=>rfl⟩,hs.lt,fun _ h=>h,fun b hb=>.inl hb,fun o=>?_,fun o=>?_,fun o o' k k' hne=>?_,fun o k=>?_,MuLe.refl _,fun o k=>?_,by subst hP;exact hs.tab⟩
  ·cases o with
   |nil=>rw[h3];rfl
   |cons i p=>
    by_cases hi:i<m
    ·have e:μc (i::p)=μ (nm i p):=if_pos hi;rw[e,h1 i p hi,hs.ver];rfl
    ·have e:μc (i::p)=YN (i::p):=if_neg hi;rw[e,h2 i p (by omega)];rfl
  ·cases o with
   |nil=>rw[h3];trivial
   |cons i p=>
    by_cases hi:i<m
    ·have e:μc (i::p)=μ (nm i p):=if_pos hi;rw[e,h1 i p hi];exact(hs.ob (nm i p)).ren (hc i p hi) hμ rfl
    ·rw[h2 i p (by omega)];trivial
  ·cases o with
   |nil=>rw[h3] at k;cases k
   |cons i p=>
    cases o' with
    |nil=>rw[h3] at k';cases k'
    |cons i' p'=>
     obtain⟨q1,q2,q3⟩:=own1 i p k;obtain⟨r1,r2,r3⟩:=own1 i' p' k';rw[q3,r3];exact hs.apart _ _ q2 r2 (nm_ne (by omega) (by omega) hne)
  ·cases o with
   |nil=>rw[h3] at k;cases k
   |cons i p=>
    obtain⟨q1,q2,q3⟩:=own1 i p k;rw[q3];obtain⟨g1,g2,g3⟩:=hs.own _ q2;exact⟨g1,.inl ⟨i,p,rfl,q1,q2,rfl⟩,g3⟩
  ·cases o with
   |nil=>rw[h3] at k;cases k
   |cons i p=>
    obtain⟨q1,q2,q3⟩:=own1 i p k;rw[q3];exact hs.tag _ q2
 have harg:∀ (k:Nat) (y:A),(A.renL (YJ rs) (fun _=>0) args)[k]? = some y→Rel w I μc y (vs.getD k undef):=fun k y hk=>by
  rw[Cv,List.getElem?_map,Option.map_eq_some_iff] at hk;obtain⟨y',hy,rfl⟩:=hk;exact(har k y' hy).ren (refsL_iff.1 ha y' (List.mem_of_getElem? hy)) hμ
 refine(hS.2 w I M1 0 μc vs (fun o b h ⟨i,p,e,hi,hb,_⟩=>by
  subst e;rw[h1 i p hi] at h;rw[show(H (nm i p)).ob = .none from kI h] at hb;cases hb) start (by simpa[Cv] using hl) harg).mono fun e w' ⟨v,he,H',I',μ',hs',hrel,hH'⟩=>⟨v,he,I',?_⟩
 let δ:=OY rs m H
 let μ2:Mu:=fun n=>match n with
  |j::p=>if j ∈ rs then (if rs.idxOf j<m∨1≤(μ' (rs.idxOf j::p)).u then { μ' (rs.idxOf j::p) with u:=(μ' (rs.idxOf j::p)).u+δ (rs.idxOf j::p) } else μ (j::p)) else μ (j::p)
  |[]=>μ []
 have δ0:∀ {i:Nat} {p:Nm},i<m→δ (i::p)=0:=fun {i p} h=>if_pos h;have δ1:∀ {i:Nat} {p:Nm},¬ i<m→i<rs.length→δ (i::p)=(H (nm i p)).u:=fun {i p} h h'=>by
  show(if i<m then _ else _)=_;rw[if_neg h,if_pos h']
 have nmj:∀ {j:Nat} {p:Nm},j ∈ rs→nm (rs.idxOf j) p=j::p:=fun {j p} h=>by show rs.getD (rs.idxOf j) 0::p=_;rw[Sk h]
 have app_in:∀ {j:Nat} {p:Nm},j ∈ rs→(Eff.fn rs (Ii rs m H Hr)).app H (j::p)=Ii rs m H Hr (j::p):=fun {j p} h=>by simp[Eff.app,h]
 have app_out:∀ {j:Nat} {p:Nm},j ∉ rs→(Eff.fn rs (Ii rs m H Hr)).app H (j::p)=H (j::p):=fun {j p} h=>by simp[Eff.app,h]
 have app_nil':(Eff.fn rs (Ii rs m H Hr)).app H []=H []:=rfl;have mu_in:∀ {j:Nat} {p:Nm},j ∈ rs→(rs.idxOf j<m∨1≤(μ' (rs.idxOf j::p)).u)→μ2 (j::p)={ μ' (rs.idxOf j::p) with u:=(μ' (rs.idxOf j::p)).u+δ (rs.idxOf j::p) }:=fun {j p} h h'=>by
  show(if j ∈ rs then _ else _)=_;rw[if_pos h,if_pos h']
 have mu_old:∀ {j:Nat} {p:Nm},j ∈ rs→¬ (rs.idxOf j<m∨1≤(μ' (rs.idxOf j::p)).u)→μ2 (j::p)=μ (j::p):=fun {j p} h h'=>by
  show(if j ∈ rs then _ else _)=_;rw[if_pos h,if_neg h']
 have mu_out:∀ {j:Nat} {p:Nm},j ∉ rs→μ2 (j::p)=μ (j::p):=fun {j p} h=>by
  show(if j ∈ rs then _ else _)=_;rw[if_neg h]
 have hle:MuLe μ μ2:=fun o=>by
  cases o with
  |nil=>exact⟨BZ _,fun _=>rfl⟩
  |cons j p=>
   by_cases hj:j ∈ rs
   ·by_cases hi:rs.idxOf j<m
    ·rw[mu_in hj (.inl hi),δ0 hi];have e:μc (rs.idxOf j::p)=μ (j::p):=by
      show(if rs.idxOf j<m then _ else _)=_;rw[if_pos hi,nmj hj]
     have:=hs'.mle (rs.idxOf j::p);change (μc (rs.idxOf j::p)).u≤_∧(_=(μc (rs.idxOf j::p)).u→_=μc (rs.idxOf j::p)) at this;rw[e] at this;exact⟨this.1,fun q=>by rw[← this.2 q];rfl⟩
    ·by_cases hu:1≤(μ' (rs.idxOf j::p)).u
     ·rw[mu_in hj (.inr hu),δ1 hi (idx_mem.2 hj),nmj hj,← hs.ver];exact⟨by simp,fun q=>by simp at q;omega⟩
     ·rw[mu_old hj (by omega)];exact⟨BZ _,fun _=>rfl⟩
   ·rw[mu_out hj];exact⟨BZ _,fun _=>rfl⟩
 have notM1:∀ {n:Nm} {b:Nat},EA (μ n) (H n).ob=true→b=(μ n).b→(∀ j p,n=j::p→j ∉ rs)→¬ ∃ o,M1 o b:=fun {n b} hb e hn ⟨_,i,p,_,q1,q2,q3⟩=>by
  refine hs.apart n (nm i p) hb q2 (fun e'=>?_) (by rw[← e,q3]);refine hn _ _ e' ?_;have:i<rs.length:=by omega
  simp[List.getD,this]
 have hx:Ext I μ w I' μ2 w':=⟨fun b h=>hs'.old b h,fun b h=>hs'.kept.block b (hs.lt b h) (fun ⟨_,i,p,_,q1,q2,q3⟩=>(hs.own _ q2).1 (by rw[← q3];exact h)),hle⟩;have hμ2:∀ o,Iu rs.length o→1≤(μ' o).u→μ2 (VI rs o)={ μ' o with u:=(μ' o).u+δ o }:=fun o ho h1=>by
  cases o with
  |nil=>exact ho.elim
  |cons i p=>
   have hi:i<rs.length:=ho;have e:=MQ hnd hi;have hmem:rs.getD i 0 ∈ rs:=idx_mem.1 (by rw[e];exact hi);show μ2 (rs.getD i 0::p)=_;rw[mu_in hmem (.inr (by rw[e];exact h1)),e]
 have oH:∀ {j:Nat} {p:Nm},j ∈ rs→(H' (rs.idxOf j::p))=Hr (rs.idxOf j::p):=fun {j p} h=>hH' _ _ (idx_mem.2 h);have own2:∀ {j:Nat} {p:Nm},j ∈ rs→EA (μ2 (j::p)) (Ii rs m H Hr (j::p)).ob=true→EA (μ' (rs.idxOf j::p)) (H' (rs.idxOf j::p)).ob=true∧(μ2 (j::p)).b=(μ' (rs.idxOf j::p)).b:=fun {j p} hj h=>by
  simp only[Ii,VOb.ren,Yk] at h;by_cases hi:rs.idxOf j<m∨1≤(μ' (rs.idxOf j::p)).u
  ·rw[mu_in hj hi] at h ⊢;rw[oH hj];exact⟨by cases hq:(Hr (rs.idxOf j::p)).ob<;>rw[hq] at h<;>exact h,rfl⟩
  ·rcases hv (rs.idxOf j) p (by omega) (idx_mem.2 hj) with e | e
   ·rw[e] at h;cases h
   ·rw[← oH hj,← hs'.ver] at e;omega
 have own3:∀ {j:Nat} {p:Nm},j ∈ rs→EA (μ2 (j::p)) (Ii rs m H Hr (j::p)).ob=true→(μ2 (j::p)).e=(μ' (rs.idxOf j::p)).e:=fun {j p} hj h=>by
  simp only[Ii,VOb.ren,Yk] at h;by_cases hi:rs.idxOf j<m∨1≤(μ' (rs.idxOf j::p)).u
  ·rw[mu_in hj hi]
  ·rcases hv (rs.idxOf j) p (by omega) (idx_mem.2 hj) with e | e
   ·rw[e] at h;cases h
   ·rw[← oH hj,← hs'.ver] at e;omega
 have blk:∀ {i:Nat} {p:Nm},EA (μ' (i::p)) (H' (i::p)).ob=true→¬ I' (μ' (i::p)).b∧(M1 (i::p) (μ' (i::p)).b∨w.heap.size≤(μ' (i::p)).b)∧(μ' (i::p)).b<w'.heap.size:=fun {i p} h=>hs'.own _ h;refine⟨μ2,hx,⟨?_,hs'.lt,fun b h=>hs'.old b (hs.old b h),fun b h=>?_,fun o=>?_,fun o=>?_,fun o o' k k' hne=>?_,fun o k=>?_,hs.mle.trans hle,fun o k=>?_,by subst hP;exact hs'.tab⟩,hrel.ren hr hμ2⟩
 ·have k1:=hs.kept;have k2:=hs'.kept;refine⟨k2.os.trans k1.os,k2.tape.trans k1.tape,k2.output.trans k1.output,Nat.le_trans k1.size k2.size,fun b hb hM=>?_⟩;refine(k2.block b (Nat.lt_of_lt_of_le hb k1.size) (fun ⟨_,i,p,_,q1,q2,q3⟩=>?_)).trans (k1.block b hb hM);rcases (hs.own _ q2).2.1 with g | g
  ·rw[← q3] at g;exact hM ⟨_,g⟩
  ·rw[← q3] at g;omega
 ·rcases hs'.new b h with g | g
  ·exact hs.new b g
  ·exact .inr (Nat.le_trans hs.kept.size g)
 ·cases o with
  |nil=>exact hs.ver []
  |cons j p=>
   by_cases hj:j ∈ rs
   ·rw[app_in hj];show _=(Hr (rs.idxOf j::p)).u+δ (rs.idxOf j::p);rw[← oH hj,← hs'.ver];by_cases hi:rs.idxOf j<m∨1≤(μ' (rs.idxOf j::p)).u
    ·rw[mu_in hj hi]
    ·rw[mu_old hj hi,δ1 (by omega) (idx_mem.2 hj),nmj hj,hs.ver];omega
   ·rw[app_out hj,mu_out hj];exact hs.ver _
 ·cases o with
  |nil=>exact OSim.keep hx (fun hb=>hs'.kept.block _ (hs.own _ hb).2.2 (notM1 hb rfl (fun j p e=>nomatch e))) (hs.ob [])
  |cons j p=>
   by_cases hj:j ∈ rs
   ·rw[app_in hj];by_cases hi:rs.idxOf j<m∨1≤(μ' (rs.idxOf j::p)).u
    ·rw[mu_in hj hi];have:=hs'.ob (rs.idxOf j::p);rw[oH hj] at this;exact this.ren (ho _ _ (idx_mem.2 hj)) hμ2 rfl
    ·rcases hv (rs.idxOf j) p (by omega) (idx_mem.2 hj) with e | e
     ·simp only[Ii,VOb.ren,e];trivial
     ·rw[← oH hj,← hs'.ver] at e;omega
   ·rw[app_out hj,mu_out hj];exact OSim.keep hx (fun hb=>hs'.kept.block _ (hs.own _ hb).2.2 (notM1 hb rfl (fun j' p' e=>by cases e;exact hj))) (hs.ob _)
 ·have cross:∀ {j:Nat} {p:Nm} {n:Nm},j ∈ rs→EA (μ2 (j::p)) (Ii rs m H Hr (j::p)).ob=true→EA (μ n) (H n).ob=true→(∀ j p,n=j::p→j ∉ rs)→(μ2 (j::p)).b ≠ (μ n).b:=fun {j p n} hj h h' hn e=>by
   obtain⟨q1,q2⟩:=own2 hj h;obtain⟨_,g,_⟩:=blk q1;rw[q2] at e;rcases g with g | g
   ·exact notM1 h' e hn ⟨_,g⟩
   ·have:=(hs.own _ h').2.2;omega
  cases o with
  |nil=>
   cases o' with
   |nil=>exact(hne rfl).elim
   |cons j' p'=>
    by_cases hj':j' ∈ rs
    ·rw[app_in hj'] at k';exact Ne.symm (cross hj' k' k (fun j p e=>nomatch e))
    ·rw[app_out hj',mu_out hj'] at k';rw[mu_out hj'];exact hs.apart _ _ k k' hne
  |cons j p=>
   by_cases hj:j ∈ rs
   ·rw[app_in hj] at k;cases o' with
    |nil=>exact cross hj k k' (fun j p e=>nomatch e)
    |cons j' p'=>
     by_cases hj':j' ∈ rs
     ·rw[app_in hj'] at k';obtain⟨q1,q2⟩:=own2 hj k;obtain⟨r1,r2⟩:=own2 hj' k';rw[q2,r2];refine hs'.apart _ _ q1 r1 (fun e=>hne ?_);have e1:rs.idxOf j=rs.idxOf j':=by injection e
      have e2:p=p':=by injection e
      rw[← Sk hj,← Sk hj',e1,e2]
     ·rw[app_out hj',mu_out hj'] at k';rw[mu_out hj'];exact cross hj k k' (fun j'' p'' e=>by cases e;exact hj')
   ·rw[app_out hj,mu_out hj] at k;rw[mu_out hj];cases o' with
    |nil=>exact hs.apart _ _ k k' hne
    |cons j' p'=>
     by_cases hj':j' ∈ rs
     ·rw[app_in hj'] at k';exact Ne.symm (cross hj' k' k (fun j'' p'' e=>by cases e;exact hj))
     ·rw[app_out hj',mu_out hj'] at k';rw[mu_out hj'];exact hs.apart _ _ k k' hne
 ·have far:∀ {n:Nm},EA (μ n) (H n).ob=true→¬ I' (μ n).b∧(c.M0 n (μ n).b∨c.w0.heap.size≤(μ n).b)∧(μ n).b<w'.heap.size:=fun {n} h=>by
   obtain⟨g1,g2,g3⟩:=hs.own _ h;refine⟨fun h'=>?_,g2,Nat.lt_of_lt_of_le g3 hs'.kept.size⟩;rcases hs'.new _ h' with g | g
   ·exact g1 g
   ·exact absurd (show w.heap.size≤_ from g) (by omega)
  cases o with
  |nil=>exact far k
  |cons j p=>
   by_cases hj:j ∈ rs
   ·rw[app_in hj] at k;obtain⟨q1,q2⟩:=own2 hj k;rw[q2];obtain⟨g1,g2,g3⟩:=blk q1;refine⟨g1,?_,g3⟩;rcases g2 with ⟨i,p',r0,r1,r2,r3⟩ | g2
    ·have e1:rs.idxOf j=i:=by injection r0
     have e2:p=p':=by injection r0
     rw[← e1,← e2,nmj hj] at r2 r3;rw[r3];exact(hs.own _ r2).2.1
    ·exact .inr (Nat.le_trans hs.kept.size g2)
   ·rw[app_out hj,mu_out hj] at k;rw[mu_out hj];exact far k
 ·cases o with
  |nil=>exact hs.tag _ k
  |cons j p=>
   by_cases hj:j ∈ rs
   ·rw[app_in hj] at k;rw[own3 hj k];exact hs'.tag _ (own2 hj k).1
   ·rw[app_out hj,mu_out hj] at k;rw[mu_out hj];exact hs.tag _ k
def mk (P:Program) (t:TypeId) (as':List A):A:=match P.underlying t with
 |some (.struct _)=>.agg as'
 |_=>as'.headD .any
def uS (R:TypeId→List A→Prop):List Field→List A→Prop
 |[],as'=>as'=[]
 |f::fs,as'=>∃ a b,as'=a++b∧R f.type a∧uS R fs b
def Has (P:Program):Nat→TypeId→List A→Prop
 |0,_,_=>False
 |n+1,t,as'=>match P.underlying t with
  |some .bool=>∃ b,as'=[.v (.bool b)]
  |some (.int k)=>∃ m,(Lit.int k m).wf=true∧as'=[.v (.int k m)]
  |some .string=>∃ s,s.size≤maxLen∧s.size≤reachBytes∧as'=[.v (.string s)]
  |some (.slice e)=>∃ f xs,as'=[.sl f xs]∧xs.length≤maxLen∧xs.length*P.bytesOf e≤reachBytes∧(f=true→xs=[])∧∀ x,x ∈ xs→∃ b,Has P n e b∧x=mk P e b
  |some (.struct fs)=>uS (Has P n) fs.toList as'
  |_=>False
def zM (R:TypeId→List A→Prop):List TypeId→List A→Prop
 |[],as'=>as'=[]
 |t::ts,as'=>∃ a b,as'=a++b∧R t a∧zM R ts b
theorem Xv {R:TypeId→List A→Prop}:∀ {fs:List Field} {as':List A},uS R fs as' ↔ zM R (fs.map Field.type) as'
 |[],as'=>Iff.rfl
 |f::fs,as'=>by simp only[uS,zM,List.map_cons,Xv (fs:=fs)]
def mU (P:Program):Nat→List Field→Option Nat
 |off,[]=>some off
 |off,f::fs=>if f.offset=off then mU P (off+P.cellsOf f.type) fs else none
def Oo (P:Program) (S:List TypeId):Bool:=S.all fun t=>match P.underlying t with
 |some .bool | some (.int _) | some .string=>P.cellsOf t == 1
 |some (.slice e)=>P.cellsOf t == 1&&(decide (0<P.cellsOf e)&&S.contains e)
 |some (.struct fs)=>mU P 0 fs.toList == some (P.cellsOf t)&&fs.toList.all fun f=>S.contains f.type
 |_=>false
theorem mT {β:Type} {R:Nat→β→Prop}:∀ {n:Nat},(∀ i,i<n→∃ b,R i b)→∃ l:List β,l.length=n∧∀ (i:Nat) (b:β),l[i]? = some b→R i b
 |0,_=>⟨[],rfl,fun i b h=>by simp at h⟩
 |n+1,h=>by
  obtain⟨l,h1,h2⟩:=mT (n:=n) (fun i hi=>h i (by omega));obtain⟨b,hb⟩:=h n (by omega);refine⟨l++[b],by simp[h1],fun i c hc=>?_⟩;rw[List.getElem?_append] at hc;split at hc
  ·exact h2 i c hc
  ·rename_i hi;have:i=n:=by
    have:=(List.getElem?_eq_some_iff.1 hc).1;simp at this;omega
   subst this;simp[h1] at hc;subst hc;exact hb
theorem Xz {α β:Type} {f:α→Option β}:∀ {l:List α} {r:List β},l.mapM f=some r→r.length=l.length∧∀ (i:Nat) (a:α),l[i]? = some a→∃ b,f a=some b∧r[i]? = some b
 |[],r,h=>by
  simp at h;subst h;exact⟨rfl,fun i a h=>by simp at h⟩
 |a::l,r,h=>by
  rw[List.mapM_cons] at h;simp only[Option.bind_eq_bind,Option.bind_eq_some_iff] at h;obtain⟨b,hb,r',hr,h⟩:=h;cases h;obtain⟨h1,h2⟩:=Xz hr;refine⟨by simp[h1],fun i c hc=>?_⟩;cases i with
  |zero=>simp at hc;subst hc;exact⟨b,hb,rfl⟩
  |succ i=>simpa using h2 i c (by simpa using hc)
theorem cells?_get {w:World} {base:Nat} {a:Addr} {n:Nat} {cs:List Value} (h:w.cells? base a n=some cs):cs.length=n∧∀ i,i<n→w.cell? (a.add i)=some (cs.getD i undef):=by
 unfold World.cells? at h;split at h
 ·obtain⟨h1,h2⟩:=Xz h;refine⟨by simpa using h1,fun i hi=>?_⟩;obtain⟨b,hb,hr⟩:=h2 i i (by simp[hi]);rw[hb];simp[List.getD,hr]
 ·cases h
theorem Km {P:Program} {n:Nat} {t:TypeId} {as':List A} (h:Has P n t as'):(mk P t as').cells=as':=by
 cases n with
 |zero=>exact h.elim
 |succ n=>
  unfold Has at h;unfold mk;split at h
  ·rename_i hu;obtain⟨b,rfl⟩:=h;rw[hu];rfl
  ·rename_i hu;obtain⟨m,_,rfl⟩:=h;rw[hu];rfl
  ·rename_i hu;obtain⟨m,_,_,rfl⟩:=h;rw[hu];rfl
  ·rename_i hu;obtain⟨f,xs,rfl,_⟩:=h;rw[hu];rfl
  ·rename_i hu;rw[hu];rfl
  ·exact h.elim
theorem fc {sz:Nat} (hp:0<sz) {xs:List A} {k:Nat} {y:A} (h:∀ x,x ∈ xs→x.cells.length=sz) (hk:(xs.flatMap A.cells)[k]? = some y):∃ x,xs[k / sz]? = some x∧x.cells[k % sz]? = some y:=by
 have hl:=(List.getElem?_eq_some_iff.1 hk).1;rw[BT h] at hl;have hi:k / sz<xs.length:=by rw[Nat.div_lt_iff_lt_mul hp];exact hl
 have hj:k % sz<sz:=Nat.mod_lt _ hp;have hx:xs[k / sz]? = some xs[k / sz]:=List.getElem?_eq_getElem hi;have hcl:=h _ (List.mem_of_getElem? hx);have hz:xs[k / sz].cells[k % sz]? = some (xs[k / sz].cells[k % sz]'(by omega)):=List.getElem?_eq_getElem (by omega);have:=KP h hx hz;have e:k / sz*sz+k % sz=k:=by rw[Nat.mul_comm];exact Nat.div_add_mod k sz
 rw[e,hk] at this;exact⟨_,hx,by rw[hz];exact this.symm⟩
theorem pM {α:Type} {l l':List α} {k:Nat} {d:α} (h:k<l.length):(l++l').getD k d=l.getD k d:=by
 simp[List.getD,List.getElem?_append_left h]
theorem jv {α:Type} {l l':List α} {k:Nat} {d:α} (h:l.length≤k):(l++l').getD k d=l'.getD (k-l.length) d:=by
 simp[List.getD,List.getElem?_append_right h]
section
variable {H:Type} {enc:TypeId × Value→H} {P:Program} {w:World} {base:Nat} {sp:Nat→Bool} {held:Bool}
abbrev yh (w:World) (b:Nat):Prop:=b<w.heap.size
def Fits (w:World) (as':List A) (cs:List Value):Prop:=as'.length=cs.length∧∀ (k:Nat) (y:A),as'[k]? = some y→y.one=true∧Rel w (yh w) YN y (cs.getD k undef)
theorem Fits.one {x:A} {v:Value} (h:x.one=true) (hr:Rel w (yh w) YN x v):Fits w [x] [v]:=⟨rfl,fun k y hk=>by
 cases k with
 |zero=>cases hk;exact⟨h,hr⟩
 |succ k=>simp at hk⟩
theorem Fits.append {as' bs:List A} {cs ds:List Value} (h:Fits w as' cs) (h':Fits w bs ds):Fits w (as'++bs) (cs++ds):=⟨by simp[h.1,h'.1],fun k y hk=>by
 rw[List.getElem?_append] at hk;split at hk
 ·rename_i hl;have:=h.2 k y hk
  rwa [pM (by rw[← h.1];exact hl)]
 ·rename_i hl;have:=h'.2 _ y hk;rw[jv (by rw[← h.1];omega),← h.1];exact this⟩
theorem Yf {n:Nat} {cs:List Value} (ih:∀ (t:TypeId) (cs:List Value) x,DataW.trod enc P w base sp held n t cs=some x→P.cellsOf t=cs.length→(∀ m,m ∈ DataW.weights P t x.1→m≤reachBytes)→∀ S,Oo P S=true→t ∈ S→∃ as',Has P n t as'∧Fits w as' cs) {S:List TypeId} (hS:Oo P S=true) :
  ∀ (fs:List Field) (off tot:Nat) xs,(∀ m,m ∈ DataW.weightsEach P (fs.map Field.type) (xs.map (·.1))→m≤reachBytes)→(∀ f,f ∈ fs→f.type ∈ S)→mU P off fs=some tot→tot=cs.length→(fs.mapM fun f=>DataW.trod enc P w base sp held n f.type ((cs.drop f.offset).take (P.cellsOf f.type)))=some xs →
   ∃ as',uS (Has P n) fs as'∧Fits w as' (cs.drop off)∧off≤tot
 |[],off,tot,xs,_,_,ht,hn,_=>by
  cases ht;refine⟨[],rfl,⟨?_,fun k y hk=>by simp at hk⟩,BZ _⟩;simp[hn]
 |f::fs,off,tot,xs,hw,hf,ht,hn,hm=>by
  unfold mU at ht;split at ht
  ·rename_i ho;rw[List.mapM_cons] at hm;simp only[Option.bind_eq_bind,Option.bind_eq_some_iff] at hm;obtain⟨x,hx,xs',hxs,hq⟩:=hm;cases hq;simp only[List.map_cons,DataW.weightsEach,List.mem_append] at hw;obtain⟨bs,hb1,hb2,hb3⟩:=Yf ih hS fs (off+P.cellsOf f.type) tot xs' (fun m hm=>hw m (.inr hm)) (fun g hg=>hf g (by simp[hg])) ht hn hxs;rw[ho] at hx;obtain⟨as',ha1,ha2⟩:=ih f.type _ x hx (by simp;omega) (fun m hm=>hw m (.inl hm)) S hS (hf f (by simp));refine⟨as'++bs,⟨as',bs,rfl,ha1,hb1⟩,?_,by omega⟩;have e:cs.drop off=(cs.drop off).take (P.cellsOf f.type)++cs.drop (off+P.cellsOf f.type):=by
    rw[← List.drop_drop,List.take_append_drop]
   rw[e];exact ha2.append hb2
  ·cases ht
theorem Qs {e:TypeId} {d:DataW H} {m:Nat} (h:m ∈ DataW.weights P e d):∀ {l:List (DataW H)},d ∈ l→m ∈ DataW.weightsAll P e l
 |x::l,hd=>by
  simp only[DataW.weightsAll,List.mem_append];rcases List.mem_cons.1 hd with rfl | hd
  ·exact .inl h
  ·exact .inr (Qs h hd)
theorem F7:∀ (n:Nat) (t:TypeId) (cs:List Value) (x:DataW H × List MemPlace),DataW.trod enc P w base sp held n t cs=some x→P.cellsOf t=cs.length→(∀ m,m ∈ DataW.weights P t x.1→m≤reachBytes)→∀ S,Oo P S=true→t ∈ S→∃ as',Has P n t as'∧Fits w as' cs
 |0,t,cs,x,h,_,_,_,_,_=>by simp[DataW.trod] at h
 |n+1,t,cs,x,h,hlen,hwt,S,hS,ht=>by
  have hT:=hS;unfold Oo at hT;rw[List.all_eq_true] at hT;have hT:=hT t ht;have ih:=F7 n;unfold DataW.trod at h;split at h
  ·rename_i b hu;exact⟨[.v (.bool b)],by unfold Has;rw[hu];exact⟨b,rfl⟩,Fits.one rfl (.v _ _)⟩
  ·rename_i k k' m hu;split at h
   ·rename_i hk;obtain⟨rfl,hw⟩:=hk;exact⟨[.v (.int k' m)],by unfold Has;rw[hu];exact⟨m,hw,rfl⟩,Fits.one rfl (.v _ _)⟩
   ·cases h
  ·rename_i hu;rw[hu] at hT;cases hT
  ·rename_i s hu;split at h
   ·rename_i hs;cases h;have hz:s.size≤reachBytes:=by
     have:=hwt s.data.toList.length (by simp[DataW.weights]);simpa using this
    exact⟨[.v (.string s)],by unfold Has;rw[hu];exact⟨s,hs,hz,rfl⟩,Fits.one rfl (.v _ _)⟩
   ·cases h
  ·rename_i hu;rw[hu] at hT;cases hT
  ·rename_i hu;rw[hu] at hT;cases hT
  ·rename_i e hu;exact⟨[.sl true []],by unfold Has;rw[hu];exact⟨true,[],rfl,by simp,by simp,fun _=>rfl,fun x hx=>by simp at hx⟩,Fits.one rfl (.slN _ _ _ _ (fun _=>rfl))⟩
  ·rename_i e a len cap hu;rw[hu] at hT;simp only[Bool.and_eq_true,decide_eq_true_eq,beq_iff_eq] at hT;obtain⟨_,hpos,heS⟩:=hT;have heS:e ∈ S:=by simpa using heS
   split at h
   ·rename_i hb;obtain⟨hb0,hb1,hb2⟩:=hb;simp only[Option.bind_eq_some_iff] at h;obtain⟨elems,he,h⟩:=h;simp only[Option.map_eq_some_iff] at h;obtain⟨rest,_,rfl⟩:=h;simp only[DataW.weights,hu] at hwt;obtain⟨he1,he2⟩:=Xz he;have each:∀ i,i<len→∃ as':List A,Has P n e as'∧∃ cs,w.cells? base (a.add (i*P.cellsOf e)) (P.cellsOf e)=some cs∧Fits w as' cs:=fun i hi=>by
     obtain⟨y,hy,hg⟩:=he2 i i (by simp[hi]);simp only[Option.bind_eq_some_iff] at hy;obtain⟨cs,hc1,hc2⟩:=hy;obtain⟨as',h1,h2⟩:=ih e cs y hc2 (cells?_get hc1).1.symm (fun m hm=>hwt m (List.mem_cons_of_mem _ (List.mem_append_left _ (Qs hm (List.mem_map.2 ⟨y,List.mem_of_getElem? hg,rfl⟩))))) S hS heS;exact⟨as',h1,cs,hc1,h2⟩
    obtain⟨l,hl1,hl2⟩:=mT each;have hxs:(l.map (mk P e)).length=len:=by simpa using hl1
    refine⟨[.sl false (l.map (mk P e))],by
     unfold Has;rw[hu];refine⟨false,_,rfl,by rw[hxs];omega,by
      have:=hwt _ List.mem_cons_self;rw[hxs];refine Nat.le_trans (Nat.mul_le_mul_right _ ?_) this;simp at he1 ⊢;omega,(fun h=>nomatch h),fun x hx=>?_⟩
     obtain⟨b,hb,rfl⟩:=List.mem_map.1 hx;obtain⟨i,hi⟩:=List.getElem?_of_mem hb;exact⟨b,(hl2 i b hi).1,rfl⟩,Fits.one rfl ?_⟩
    by_cases h0:len=0
    ·subst h0;have:l=[]:=List.length_eq_zero_iff.1 hl1;subst this;exact .slN _ _ _ _ (fun h=>by cases h)
    ·have hlen2:∀ x,x ∈ l.map (mk P e)→x.cells.length=P.cellsOf e:=fun x hx=>by
      obtain⟨b,hb,rfl⟩:=List.mem_map.1 hx;obtain⟨i,hi⟩:=List.getElem?_of_mem hb;obtain⟨k1,cs,k2,k3⟩:=hl2 i b hi;rw[Km k1,k3.1,(cells?_get k2).1]
     have hspot:a.spot=none∧a.block<w.heap.size:=by
      obtain⟨b,hb⟩:∃ b,l[0]? = some b:=⟨_,List.getElem?_eq_getElem (by omega)⟩;obtain⟨_,cs,k2,_⟩:=hl2 0 b hb;have:=(cells?_get k2).2 0 hpos;simp only[Nat.zero_mul,Addr.add,if_true,World.cell?] at this;split at this
      ·rename_i hh;split at this
       ·cases this
       ·rename_i hsp;exact⟨by simpa using hsp,(Array.getElem?_eq_some_iff.1 hh).1⟩
      ·cases this
     obtain⟨b,off,sp'⟩:=a;obtain⟨hsp,hbl⟩:=hspot;simp only at hsp hbl;subst hsp;have main:∀ (k:Nat) (y:A),((l.map (mk P e)).flatMap A.cells)[k]? = some y→y.one=true∧w.cell? ⟨b,off+k,none⟩=some ((w.cell? ⟨b,off+k,none⟩).getD undef)∧Rel w (yh w) YN y ((w.cell? ⟨b,off+k,none⟩).getD undef):=fun k y hk=>by
      obtain⟨x,hx,hy⟩:=fc hpos hlen2 hk;rw[List.getElem?_map] at hx;simp only[Option.map_eq_some_iff] at hx;obtain⟨as',ha,rfl⟩:=hx;obtain⟨k1,cs,k2,k3⟩:=hl2 _ as' ha;rw[Km k1] at hy;have hj:k % P.cellsOf e<P.cellsOf e:=Nat.mod_lt _ hpos;have hc:=(cells?_get k2).2 _ hj;have ea:((⟨b,off,none⟩:Addr).add (k / P.cellsOf e*P.cellsOf e)).add (k % P.cellsOf e)=⟨b,off+k,none⟩:=by
       have:=Nat.div_add_mod k (P.cellsOf e);rw[Nat.mul_comm] at this;unfold Addr.add;split<;>split<;>simp<;>omega
      rw[ea] at hc;obtain⟨k4,k5⟩:=k3.2 _ y hy;exact⟨k4,by rw[hc];rfl,by rw[hc];exact k5⟩
     exact .sl _ false b off len cap (P.cellsOf e) _ (fun k=>(w.cell? ⟨b,off+k,none⟩).getD undef) hbl hxs.symm (by omega) (fun h=>by cases h) hlen2 (fun k y hk=>(main k y hk).1) (fun k y hk=>(main k y hk).2.1) (fun k y hk=>(main k y hk).2.2)
   ·cases h
  ·rename_i fs hu;rw[hu] at hT;simp only[Bool.and_eq_true,beq_iff_eq,List.all_eq_true] at hT;split at h
   ·simp only[Option.map_eq_some_iff] at h;obtain⟨xs,hx,rfl⟩:=h;simp only[DataW.weights,hu] at hwt;obtain⟨as',h1,h2,_⟩:=Yf (fun t cs x h hl hw S hS ht=>ih t cs x h hl hw S hS ht) hS fs.toList 0 _ xs hwt (fun f hf=>by simpa using hT.2 f hf) hT.1 hlen hx;exact⟨as',by unfold Has;rw[hu];exact h1,by simpa using h2⟩
   ·cases h
  all_goals first | (rename_i hu;rw[hu] at hT;cases hT;done) | cases h
end
def ArgsHas (P:Program):List TypeId→List A→Prop
 |[],[]=>True
 |t::ts,a::as'=>(∃ n b,Has P n t b∧a=mk P t b)∧ArgsHas P ts as'
 |_,_=>False
section
open Go.ChangeShapes Go.WideShapes
variable {H:Type} {enc:TypeId × Value→H} {P:Program} {w:World} {base:Nat} {sp:Nat→Bool} {held:Bool}
theorem dY {S:List TypeId} (hS:Oo P S=true) {t:TypeId} (ht:t ∈ S) {v:Value} {d:DataW H} {p:List MemPlace} {base':Nat} (hwt:∀ m,m ∈ DataW.weights P t d→m≤reachBytes) (h:DataW.Trod enc P w base sp held t v d p) (hv:Value.okWide P w .any base' t v) :
  ∃ n b,Has P n t b∧Rel w (yh w) YN (mk P t b) v:=by
 obtain⟨n,hn⟩:=h;have hT:=hS;unfold Oo at hT;rw[List.all_eq_true] at hT;have hT:=hT t ht;have one:∀ {b:List A},Has P n t b→(mk P t b).cells=[mk P t b]→v.cells.toList=[v]→Fits w b v.cells.toList→Rel w (yh w) YN (mk P t b) v:=fun {b} hb h1 h2 h3=>by
  have h4:=Km hb;rw[h1] at h4;have e:b[0]? = some (mk P t b):=by
   have:[mk P t b][0]? = some (mk P t b):=rfl
   rwa [h4] at this
  have:=(h3.2 0 (mk P t b) e).2;rw[h2] at this;exact this
 cases hu:P.underlying t with
 |none=>rw[hu] at hT;cases hT
 |some ty=>
  rw[hu] at hT;cases ty with
  |struct fs=>
   simp only[Bool.and_eq_true,beq_iff_eq] at hT;obtain⟨cs,rfl,hsz⟩:=okWide_struct hu hv;obtain⟨b,hb,hf⟩:=F7 n t _ _ hn (by show P.cellsOf t=cs.toList.length;simp[hsz]) hwt S hS ht;refine⟨n,b,hb,?_⟩;have:mk P t b = .agg b:=by unfold mk;rw[hu]
   rw[this];refine .agg _ _ _ ?_ fun k y hk=>?_
   ·have:=hf.1;simpa[Value.cells] using this.symm
   ·have:=(hf.2 k y hk).2;simpa[Value.cells,List.getD,Array.getD_eq_getD_getElem?] using this
  |bool=>
   obtain⟨q,rfl⟩:=okWide_bool hu hv;simp only[beq_iff_eq] at hT;obtain⟨b,hb,hf⟩:=F7 n t _ _ hn (by rw[hT];rfl) hwt S hS ht;refine⟨n,b,hb,one hb ?_ rfl hf⟩;obtain⟨y,rfl⟩:∃ y,b=[y]:=List.length_eq_one_iff.1 (by have:=hf.1;simpa[Value.cells] using this);unfold mk;rw[hu];have:=Km hb;unfold mk at this;rw[hu] at this;exact this
  |int k=>
   obtain⟨q,rfl⟩:=okWide_int hu hv;simp only[beq_iff_eq] at hT;obtain⟨b,hb,hf⟩:=F7 n t _ _ hn (by rw[hT];rfl) hwt S hS ht;refine⟨n,b,hb,one hb ?_ rfl hf⟩;obtain⟨y,rfl⟩:∃ y,b=[y]:=List.length_eq_one_iff.1 (by have:=hf.1;simpa[Value.cells] using this);unfold mk;rw[hu];have:=Km hb;unfold mk at this;rw[hu] at this;exact this
  |string=>
   obtain⟨q,rfl⟩:=okWide_string hu hv;simp only[beq_iff_eq] at hT;obtain⟨b,hb,hf⟩:=F7 n t _ _ hn (by rw[hT];rfl) hwt S hS ht;refine⟨n,b,hb,one hb ?_ rfl hf⟩;obtain⟨y,rfl⟩:∃ y,b=[y]:=List.length_eq_one_iff.1 (by have:=hf.1;simpa[Value.cells] using this);unfold mk;rw[hu];have:=Km hb;unfold mk at this;rw[hu] at this;exact this
  |slice e=>
   obtain⟨a,l,c,rfl⟩:=okWide_slice hu hv;simp only[Bool.and_eq_true,beq_iff_eq] at hT;obtain⟨b,hb,hf⟩:=F7 n t _ _ hn (by rw[hT.1];rfl) hwt S hS ht;refine⟨n,b,hb,one hb ?_ rfl hf⟩;obtain⟨y,rfl⟩:∃ y,b=[y]:=List.length_eq_one_iff.1 (by have:=hf.1;simpa[Value.cells] using this);unfold mk;rw[hu];have:=Km hb;unfold mk at this;rw[hu] at this;exact this
  |_=>simp at hT
theorem TF {S:List TypeId} (hS:Oo P S=true) {base':Nat}:∀ {ts:List TypeId} {vs:List Value} {ds:List (DataW H)} {ps:List MemPlace},(∀ t,t ∈ ts→t ∈ S)→(∀ m,m ∈ DataW.weightsEach P ts ds→m≤reachBytes)→DataW.TrodAll enc P w base sp held ts vs ds ps →
  (∀ (j:Nat) t v,ts[j]? = some t→vs[j]? = some v→Value.okWide P w .any base' t v)→∃ as',as'.length=vs.length∧ArgsHas P ts as'∧∀ (k:Nat) (y:A),as'[k]? = some y→Rel w (yh w) YN y (vs.getD k undef)
 |[],_,_,_,_,_,h,_=>by
  obtain⟨rfl,rfl,rfl⟩:=trodAll_nil h;exact⟨[],rfl,trivial,fun k y hk=>by simp at hk⟩
 |t::ts,_,_,_,hts,hwt,h,hv=>by
  obtain⟨v,vs,d,ds,p,q,rfl,rfl,rfl,h1,h2⟩:=trodAll_cons h;simp only[DataW.weightsEach,List.mem_append] at hwt;obtain⟨n,b,hb,hr⟩:=dY hS (hts t (by simp)) (fun m hm=>hwt m (.inl hm)) h1 (hv 0 t v rfl rfl);obtain⟨as',k1,k2,k3⟩:=TF hS (fun u hu=>hts u (by simp[hu])) (fun m hm=>hwt m (.inr hm)) h2 (fun j u x hj hx=>hv (j+1) u x (by simpa using hj) (by simpa using hx));refine⟨mk P t b::as',by simp[k1],⟨⟨n,b,hb,rfl⟩,k2⟩,fun k y hk=>?_⟩;cases k with
  |zero=>cases hk;exact hr
  |succ k=>exact k3 k y (by simpa using hk)
end
@[simp] theorem xZ {k k':IntKind} {x y:Int}:GW true [.v (.int k x),.v (.int k' y)]=some (.v (.int k (max x y))):=by
 simp only[GW,if_true];congr 3;split<;>omega
@[simp] theorem yF {k k':IntKind} {x y:Int}:GW false [.v (.int k x),.v (.int k' y)]=some (.v (.int k (min x y))):=by
 simp only[GW,Bool.false_eq_true,if_false];congr 3;split<;>omega
def ov (r:Nat) (F:Nm→VOb) (H:Hp):Hp
 |j::p=>if j=r then F p else H (j::p)
 |[]=>H []
@[simp] theorem AZ {r j:Nat} {p:Nm} {F:Nm→VOb} {H:Hp}:ov r F H (j::p)=if j=r then F p else H (j::p):=rfl
@[simp] theorem Aid {r:Nat} {F:Nm→VOb} {H:Hp}:ov r F H []=H []:=rfl
@[simp] theorem mo {r j:Nat} {p:Nm} {F:Nm→VOb} {H:Hp} {x:VOb}:Ay (ov r F H) (j::p) x=if j=r then ov r (Ay F p x) H else ov r F (Ay H (j::p) x):=by
 funext o;cases o with
 |nil=>
  by_cases h:j=r
  ·rw[if_pos h];simp[Ay]
  ·rw[if_neg h];simp[Ay]
 |cons k q=>
  by_cases h:j=r
  ·subst h;rw[if_pos rfl];by_cases hk:k=j
   ·subst hk;simp[Ay]
   ·have:¬ k::q=j::p:=fun e=>hk (by injection e);simp[Ay,hk,this]
  ·rw[if_neg h];by_cases hk:k=r
   ·subst hk;have:¬ k::q=j::p:=fun e=>h (by injection e with e _;exact e.symm);simp[Ay,this]
   ·simp[Ay,hk]
theorem Aa {α:Type} {F:Nm→α} {d o:Nm} {x:α}:Ay F d x o=if o=d then x else F o:=rfl
theorem Gf {α:Type} {F G:Nm→α} {d p:Nm} {x:α} (h:x=G d) (k:p ≠ d→F p=G p):Ay F d x p=G p:=by
 rw[Aa];split
 ·rename_i e;rw[e];exact h
 ·exact k (by assumption)
def Mg (rs:List Nat) (m:Nat) (H:Hp):Hp
 |i::p=>if i<m then (H (rs.getD i 0::p)).ren (YJ rs) (fun _=>0) 0 else ⟨0,.none⟩
 |[]=>⟨0,.none⟩
def Nx (rs:List Nat) (δ:Nm→Nat) (B Hr:Hp):Hp
 |j::p=>if rs.contains j=true then (Hr (rs.idxOf j::p)).ren (VI rs) δ (δ (rs.idxOf j::p)) else B (j::p)
 |[]=>B []
theorem Wx {rs:List Nat} {m:Nat} {H Hr:Hp}:(Eff.fn rs (Ii rs m H Hr)).app H=Nx rs (OY rs m H) H Hr:=by
 funext o;cases o<;>rfl
theorem pw {c:Cx} {s:Nat→A} {H:Hp} {d:Nm} {u:Nat} {xs:List A} (i:Nat) (d':Nm) (sz:Nat) (hd:H d=⟨u,.arr 1 xs⟩) (hi:xs[i]? = some (.sl true [])) (hne:d ≠ d') :
  Le c ⟨s,H⟩ ⟨s,Ay (Ay H d' ⟨(H d').u+1,.arr sz []⟩) d ⟨u,.arr 1 (xs.set i (.osl d' ((H d').u+1) sz 0 0))⟩⟩:=fun a w I μ hs=>by
 obtain⟨hx,hs'⟩:=hs.sim.upd (DR w none) d' ⟨(H d').u+1,false,0,0,sz,0⟩ (.arr sz []) (.inl rfl) (.inl (by rw[hs.sim.ver];exact Nat.lt_succ_self _)) (fun h=>nomatch h) (fun h=>nomatch h) (fun hx=>⟨rfl,.inl ⟨rfl,rfl⟩⟩);have hd1:(Ay H d' ⟨(H d').u+1,.arr sz []⟩:Hp) d=⟨u,.arr 1 xs⟩:=by rw[AH hne];exact hd
 have hob:=hs'.ob d;rw[hd1] at hob;obtain⟨k0,⟨_,k2⟩ | ⟨k1,vs,k2,k3,k4,k5,k6⟩⟩:=hob
 ·subst k2;simp at hi
 have hB:EA (Ay μ d' ⟨(H d').u+1,false,0,0,sz,0⟩ d) ((Ay H d' ⟨(H d').u+1,.arr sz []⟩:Hp) d).ob=true:=by rw[hd1];exact k1
 have hlt:i<xs.length:=(List.getElem?_eq_some_iff.1 hi).1;obtain⟨hx2,hs2⟩:=hs'.upd (DR w none) d (Ay μ d' ⟨(H d').u+1,false,0,0,sz,0⟩ d) (.arr 1 (xs.set i (.osl d' ((H d').u+1) sz 0 0))) (.inl rfl) (.inr rfl) (fun _=>.inr ⟨hB,rfl⟩) (fun _=>hs'.tag _ hB) (fun hx2=>by
  have hlen:∀ x,x ∈ xs.set i (.osl d' ((H d').u+1) sz 0 0)→x.cells.length=1:=fun x hx=>by
   rcases List.mem_or_eq_of_mem_set hx with h | rfl
   ·exact k5 x h
   ·rfl
  refine⟨k0,.inr ⟨k1,vs,k2,k3,by simpa using k4,hlen,fun k y hk=>?_⟩⟩;rw[Fi];obtain⟨x,hx,hy⟩:=fc (sz:=1) (by decide) hlen hk;simp only[Nat.div_one,Nat.mod_one] at hx hy;by_cases hki:k=i
  ·subst hki;rw[List.getElem?_set_self hlt] at hx;cases hx;simp[A.cells] at hy;subst hy;have:=k6 k (.sl true []) (by
    have:=KP (sz:=1) (i:=k) (j:=0) (x:=.sl true []) (y:=.sl true []) k5 hi rfl;simpa using this)
   exact⟨rfl,Zz this.2 (by simp) (by omega) (by simp)⟩
  ·rw[List.getElem?_set_ne (Ne.symm hki)] at hx;refine k6 k y ?_;have:=KP (sz:=1) (i:=k) (j:=0) k5 hx hy;simpa using this)
 have hu:(Ay μ d' ⟨(H d').u+1,false,0,0,sz,0⟩ d).u=u:=by rw[hs'.ver,hd1]
 rw[hu] at hs2;exact⟨I,_,hs2,hs.size,hs.defers,fun t=>hx2.rel (hx.rel (hs.rel t))⟩
theorem Spec.toB {P:Program} {f:FuncId} {args:List A} {r:A} (h:Spec P f args r) (hr:r.flat=true):SpecB P f args r:=
 ⟨h.1,fun w I J vs hI hJ ht hl ha=>(h.2 w (fun b=>I b∨J b) vs (fun b hb=>hb.elim (hI b) (hJ b)) (ht.mono (fun _ h=>.inl h) (fun _ _=>rfl)) hl ha).mono fun e w' ⟨v,he,hB,hr'⟩=>⟨v,he,hB,hr'.of_flat hr⟩⟩
theorem jK {P:Program} {K:Sta→Prop} {rest:List CO} {s:Nat→A} {H:Hp} {dd:Option Nat} {k:Nat} {f q:Bool} {nm:Nm} {ix:Nat} {un:List Nat} {l:Bool} {lg:Lg} {g:FuncId} {as':Array Operand} {ts:Array TypeId} {x:A} (as'':List A)
  (hq:FO (s k) f=some q) (hs:q=true→SpecB P g as'' x) (hf:q=true→G9 H (as'.toList.map (evs s)) as'') (hc:Ck un lg (fg q ⟨[([],true)],[]⟩))
  (h:AB P K rest (BV l ix (fg q ⟨[([],true)],[]⟩) lg) (Sta.put ⟨s,H⟩ dd (gd q x) H)) :
  AB P K (⟨dd,.call { callee:=.value (.func g),args:=as',argTypes:=ts },some (k,f),nm,ix,un,l⟩::rest) lg ⟨s,H⟩:=
 ⟨_,.nil,fg q ⟨[([],true)],[]⟩,⟨q,x,hq,fun e=>⟨g,[],[],rfl,.inr (.inl ⟨⟨as'',by simpa using hf e,hs e⟩,rfl,by rw[e];rfl,by rw[e];rfl⟩)⟩,rfl,fun e=>by rw[e];exact⟨rfl,rfl,rfl⟩⟩,hc,h⟩
theorem Vb {P:Program} {K:Sta→Prop} {rest:List CO} {s:Nat→A} {H:Hp} {dd:Option Nat} {k:Nat} {q:Bool} {nm:Nm} {ix:Nat} {un:List Nat} {l:Bool} {lg:Lg} {g:FuncId} {as':Array Operand} {ts:Array TypeId} {x:A} (as'':List A)
  (hq:s k = .v (.bool q)) (hs:q=false→SpecB P g as'' x) (hf:q=false→G9 H (as'.toList.map (evs s)) as'') (hc:Ck un lg (fg (ng q) ⟨[([],true)],[]⟩))
  (h:AB P K rest (BV l ix (fg (ng q) ⟨[([],true)],[]⟩) lg) (Sta.put ⟨s,H⟩ dd (gd (ng q) x) H)) :
  AB P K (⟨dd,.call { callee:=.value (.func g),args:=as',argTypes:=ts },some (k,false),nm,ix,un,l⟩::rest) lg ⟨s,H⟩:=
 jK as'' (q:=ng q) (by rw[hq];cases q<;>rfl) (fun e=>hs (by simpa using e)) (fun e=>hf (by simpa using e)) hc h
def Wi (rs:List Nat) (m:Nat) (H:Hp):Prop:=∀ (j:Nat) (p:Nm),rs.idxOf j<m→(H (j::p)).ob.refs (Yv rs m)
theorem Ol {P:Program} {K:Sta→Prop} {rest:List CO} {s:Nat→A} {H:Hp} {dd:Option Nat} {nm:Nm} {ix:Nat} {un:List Nat} {l:Bool} {lg:Lg} {g:FuncId} {as':Array Operand} {ts:Array TypeId}
  (rs:List Nat) (m:Nat) {args:List A} {Hc Hr H':Hp} {r x:A} (hS:Jc P g rs.length args Hc r Hr) (hnd:rs.Nodup) (hm:m≤rs.length)
  (ha:A.renL (YJ rs) (fun _=>0) (as'.toList.map (evs s))=args) (har:A.refsL (Yv rs m) (as'.toList.map (evs s))) (hH:Mg rs m H=Hc) (hcl:Wi rs m H)
  (hr:r.refs (Iu rs.length)) (ho:∀ (i:Nat) (p:Nm),i<rs.length→(Hr (i::p)).ob.refs (Iu rs.length)) (hv:∀ (i:Nat) (p:Nm),m≤i→i<rs.length→(Hr (i::p)).ob = .none∨1≤(Hr (i::p)).u)
  (hx:r.ren (VI rs) (OY rs m H)=x) (hH':Nx rs (OY rs m H) H Hr=H') (hck:Ck un lg ⟨[],rs.map fun r=>([r],true)⟩)
  (h:AB P K rest (BV l ix ⟨[],rs.map fun r=>([r],true)⟩ lg) (Sta.put ⟨s,H⟩ dd x H')) :
  AB P K (⟨dd,.call { callee:=.value (.func g),args:=as',argTypes:=ts },none,nm,ix,un,l⟩::rest) lg ⟨s,H⟩:=by
 have hit_in:∀ {j:Nat} {p:Nm},j ∈ rs→Y8 (rs.map fun r=>([r],true)) (j::p)=true:=fun {j p} hj=>by
  simp only[Y8,List.any_map,List.any_eq_true];exact⟨j,hj,by simp[W6,List.isPrefixOf]⟩
 have hnil:(Eff.fn rs (Ii rs m H Hr)).app H=H':=by rw[Wx];exact hH'
 subst hx;rw[← hnil] at h;refine dW (Eff.fn rs (Ii rs m H Hr)) [] (rs.map fun r=>([r],true)) (fun H2 hag=>?_) (fun o H2 ho'=>?_) hck h
 ·have ag:∀ {j:Nat} {p:Nm},j ∈ rs→H2 (j::p)=H (j::p):=fun {j p} hj=>hag _ (by simpa using hit_in hj);have agi:∀ {i:Nat} {p:Nm},i<rs.length→H2 (rs.getD i 0::p)=H (rs.getD i 0::p):=fun {i p} hi=>ag (by simp[List.getD,hi]);have hd:OY rs m H2=OY rs m H:=by
   funext o;cases o with
   |nil=>rfl
   |cons i p=>
    simp only[OY];by_cases hi:i<rs.length
    ·rw[agi hi]
    ·rw[if_neg hi,if_neg hi]
  have hoH:Ii rs m H2 Hr=Ii rs m H Hr:=by
   funext o;cases o with
   |nil=>rfl
   |cons j p=>simp only[Ii,hd]
  subst ha;have:=Uf (P:=P) (f:=g) (rs:=rs) (m:=m) (args:=as'.toList.map (evs s)) (Hc:=Hc) (Hr:=Hr) (r:=r) (H:=H2) hnd hm hS
   (fun i p hi=>by rw[← hH,agi (by omega)];simp only[Mg,if_pos hi]) (fun i p hi=>by rw[← hH];simp only[Mg];rw[if_neg (by omega)]) (by rw[← hH];rfl) har
   (fun i p hi=>by rw[agi (by omega)];exact hcl _ _ (by rw[MQ hnd (by omega)];exact hi)) hr ho hv
  rwa [hd,hoH] at this
 ·cases o with
  |nil=>rfl
  |cons j p=>
   have:¬ j ∈ rs:=fun hj=>by rw[hit_in hj] at ho';cases ho'
   simp[Eff.app,this]
end Go.G
namespace Go.Proofs.YtbjmaoedheiigaaGreat
open Go Go.G Go.Proofs
structure Ar where
 l:List (Nat × List Int)
 u:Nat
 ur:Nat
 size:Int
 most:Int
 used:Int
def Io (r:Nat) (l:List (Nat × List Int)):List A:=l.mapIdx fun i e=>.osl [r,0,i] e.1 1 0 e.2.length
def H6 (r:Nat) (S:Ar):Nm→VOb
 |[]=>⟨S.u,.cells [.osl [r,0] S.ur 1 0 S.l.length,iv S.size,iv S.most,iv S.used]⟩
 |[0]=>⟨S.ur,.arr 1 (Io r S.l)⟩
 |[0,i]=>match S.l[i]? with
  |some e=>⟨e.1,.arr 1 (e.2.map uv)⟩
  |none=>⟨0,.none⟩
 |_=>⟨0,.none⟩
@[simp] theorem Agk {r:Nat} {S:Ar}:H6 r S []=⟨S.u,.cells [.osl [r,0] S.ur 1 0 S.l.length,iv S.size,iv S.most,iv S.used]⟩:=rfl
@[simp] theorem AfS {r:Nat} {S:Ar}:H6 r S [0]=⟨S.ur,.arr 1 (Io r S.l)⟩:=rfl
@[simp] theorem lZ {r i:Nat} {S:Ar}:H6 r S [0,i]=match S.l[i]? with
  |some e=>⟨e.1,.arr 1 (e.2.map uv)⟩
  |none=>⟨0,.none⟩:=rfl
@[simp] theorem yg {r:Nat} {l:List (Nat × List Int)}:(Io r l).length=l.length:=by simp[Io]
@[simp] theorem rowS_get? {r i:Nat} {l:List (Nat × List Int)}:(Io r l)[i]? = (l[i]?).map fun e=>.osl [r,0,i] e.1 1 0 e.2.length:=by simp[Io]
@[simp] theorem dt {r i:Nat} {l:List (Nat × List Int)} (h:i<(Io r l).length):(Io r l)[i] = .osl [r,0,i] (l[i]'(by simpa using h)).1 1 0 (l[i]'(by simpa using h)).2.length:=by simp[Io]
theorem fJ {r k:Nat} {l:List (Nat × List Int)} {f:Nat × List Int→Nat × List Int} (h:k<l.length):Io r (l.modify k f)=(Io r l).set k (.osl [r,0,k] (f l[k]).1 1 0 (f l[k]).2.length):=by
 apply List.ext_getElem
 ·simp
 ·intro i h1 h2;simp only[dt,List.getElem_set,List.getElem_modify];by_cases e:k=i
  ·subst e;simp
  ·simp[e]
theorem bG {r:Nat} {S S':Ar} {p:Nm} (h1:p ≠ []) (h2:p ≠ [0]) (h:∀ j,p=[0,j]→S.l[j]? = S'.l[j]?):H6 r S p=H6 r S' p:=by
 match p,h1,h2,h with
 |[],h1,_,_=>exact absurd rfl h1
 |[0],_,h2,_=>exact absurd rfl h2
 |[0,j],_,_,h=>simp[h j rfl]
 |(a+1)::q,_,_,_=>rfl
 |0::a::b::q,_,_,_=>rfl
theorem MP:∀ {l:List A},(∀ x,x ∈ l→x.cells=[x])→l.flatMap A.cells=l
 |[],_=>rfl
 |x::l,h=>by rw[List.flatMap_cons,h x (by simp),MP fun y hy=>h y (by simp[hy])];rfl
theorem Rl {H:Hp}:∀ {l l':List A},l.length=l'.length→(∀ (k:Nat) (a a':A),l[k]? = some a→l'[k]? = some a'→J3 H a a')→G9 H l l'
 |[],[],_,_=>trivial
 |a::l,a'::l',h,k=>⟨k 0 a a' rfl rfl,Rl (by simpa using h) fun i x x' hx hx'=>k (i+1) x x' (by simpa using hx) (by simpa using hx')⟩
def Ar.w (S:Ar):List (List Int):=S.l.map Prod.snd
abbrev Ar.a (S:Ar):A:=x7 S.w S.size S.most S.used
theorem jC {r:Nat} {S:Ar} {H:Hp}:J3 (ov r (H6 r S) H) (.pob [r] S.u 0) S.a:=by
 refine V0 (cs:=[.osl [r,0] S.ur 1 0 S.l.length,iv S.size,iv S.most,iv S.used]) (by simp) ?_ (by simp);simp;refine⟨?_,Ad rfl,Ad rfl,Ad rfl⟩;have:=Jh (H:=ov r (H6 r S) H) (o:=[r,0]) (u:=S.ur) (off:=0) (len:=S.l.length) (sz:=1) (xs:=Io r S.l) (ys:=S.w.map ws) (by simp) (by simp) (by simp[Ar.w]) (by simp) (by simp[A.ones]) ?_
 ·exact this
 ·have e1:List.flatMap A.cells (List.take S.l.length (List.drop 0 (Io r S.l)))=Io r S.l:=by
   rw[List.drop_zero,AL (by simp)];exact MP fun x hx=>by
    obtain⟨i,hi,rfl⟩:=List.mem_mapIdx.1 hx;rfl
  have e2:List.flatMap A.cells (List.map ws S.w)=List.map ws S.w:=MP fun x hx=>by
   obtain⟨i,hi,rfl⟩:=List.mem_map.1 hx;rfl
  rw[e1,e2];refine Rl (by simp[Ar.w]) fun k a a' ha ha'=>?_;simp at ha ha';obtain⟨p,q,hk,rfl⟩:=ha;obtain⟨g,hg,rfl⟩:=ha';simp[Ar.w,hk] at hg;subst hg;have:=SG (H:=ov r (H6 r S) H) (o:=[r,0,k]) (u:=p) (off:=0) (len:=q.length) (sz:=1) (xs:=q.map uv) (by simp[hk]) (by simp) (by simp[AL]);simpa[AL] using this
theorem uM {g:Nm→Nm} {δ:Nm→Nat} {r r':Nat} (hg:∀ p,g (r::p)=r'::p) (hd:∀ p,δ (r::p)=0) (l:List (Nat × List Int)):A.renL g δ (Io r l)=Io r' l:=by
 rw[Cv];apply List.ext_getElem
 ·simp
 ·intro i h1 h2;simp[A.ren,hg,hd]
theorem V8 {g:Nm→Nm} {δ:Nm→Nat} {r r':Nat} (hg:∀ p,g (r::p)=r'::p) (hd:∀ p,δ (r::p)=0) (S:Ar) (p:Nm):(H6 r S p).ren g δ 0=H6 r' S p:=by
 match p with
 |[]=>simp[VOb.ren,Ob.ren,A.renL,A.ren,hg,hd]
 |[0]=>simp[VOb.ren,Ob.ren,uM hg hd]
 |[0,i]=>
  simp only[lZ];cases S.l[i]? with
  |none=>rfl
  |some e=>
   simp only[VOb.ren,Ob.ren,Cv,List.map_map,Nat.add_zero];rfl
 |(a+1)::q=>rfl
 |0::a::b::q=>rfl
theorem St {D:Nm→Prop} {r:Nat} (hD:∀ p,D (r::p)) (S:Ar) (p:Nm):(H6 r S p).ob.refs D:=by
 match p with
 |[]=>simp[Ob.refs,A.refsL,A.refs,hD]
 |[0]=>
  refine refsL_iff.2 fun x hx=>?_;obtain⟨i,hi,rfl⟩:=List.mem_mapIdx.1 hx;simp[A.refs,hD]
 |[0,i]=>
  simp only[lZ];cases S.l[i]? with
  |none=>trivial
  |some e=>
   refine refsL_iff.2 fun x hx=>?_;obtain⟨y,_,rfl⟩:=List.mem_map.1 hx;trivial
 |(a+1)::q=>trivial
 |0::a::b::q=>trivial
def uZ (r:Nat) (F:Nm→VOb) (H:Hp):Hp:=ov r F H
@[simp] theorem Ah0 {r r':Nat} {F F':Nm→VOb} {H:Hp}:uZ r F (ov r' F' H)=if r'=r then ov r F H else ov r' F' (uZ r F H):=by
 unfold uZ;funext o;cases o with
 |nil=>split<;>rfl
 |cons j p=>
  by_cases h:r'=r
  ·subst h;rw[if_pos rfl];by_cases hj:j=r'<;>simp[hj]
  ·rw[if_neg h];by_cases hj:j=r
   ·subst hj;simp[Ne.symm h]
   ·simp[hj]
@[simp] theorem Ags {r:Nat} {F:Nm→VOb} {l:List (Nm × VOb)}:uZ r F (EH l)=ov r F (EH l):=rfl
theorem ZK {P:Program} {K:Sta→Prop} {rest:List CO} {s:Nat→A} {H:Hp} {dd:Option Nat} {nm:Nm} {ix:Nat} {un:List Nat} {l:Bool} {lg:Lg} {g:FuncId} {aa:Array Operand} {ts:Array TypeId}
  {r:Nat} {S S':Ar} {as0:List A} {x:A} (hS:Jc P g 1 (.pob [0] S.u 0::as0) (ov 0 (H6 0 S) (EH [])) x (ov 0 (H6 0 S') (EH []))) (hF:∀ p,H (r::p)=H6 r S p)
  (ha:aa.toList.map (evs s) = .pob [r] S.u 0::as0) (h0:∀ g δ,A.renL g δ as0=as0) (h1:∀ D,A.refsL D as0) (hx:∀ g δ,x.ren g δ=x) (hx1:∀ D,x.refs D) (hck:Ck un lg ⟨[],[([r],true)]⟩)
  (h:AB P K rest (BV l ix ⟨[],[([r],true)]⟩ lg) (Sta.put ⟨s,H⟩ dd x (uZ r (H6 r S') H))) :
  AB P K (⟨dd,.call { callee:=.value (.func g),args:=aa,argTypes:=ts },none,nm,ix,un,l⟩::rest) lg ⟨s,H⟩:=by
 have hd:∀ p,OY [r] 1 H (0::p)=0:=fun p=>rfl;refine Ol [r] 1 hS (by simp) (by simp) ?_ ?_ ?_ ?_ (hx1 _) ?_ (fun i p h1 h2=>by simp at h2;omega) (hx _ _) ?_ hck h
 ·rw[ha];simp[A.renL,A.ren,YJ,h0]
 ·rw[ha];exact⟨by simp[A.refs,Yv],h1 _⟩
 ·funext o;cases o with
  |nil=>rfl
  |cons i p=>
   by_cases hi:i<1
   ·have:i=0:=by omega
    subst this;simp only[Mg,if_pos hi,AZ,if_true];show(H (r::p)).ren _ _ 0=_;rw[hF];exact V8 (fun q=>by simp[YJ]) (fun _=>rfl) S p
   ·simp only[Mg,if_neg hi,AZ];rw[if_neg (by omega)];rfl
 ·intro j p hj;have hjr:j=r:=by
   have:=(idx_mem (rs:=[r])).1 (by simpa using hj);simpa using this
  rw[hjr,hF];exact St (fun q=>by simp[Yv]) S p
 ·intro i p hi;have:i=0:=by simp at hi;omega
  subst this;simp only[AZ,if_true];exact St (fun q=>by simp[Iu]) S' p
 ·funext o;cases o with
  |nil=>rfl
  |cons j p=>
   by_cases hj:j=r
   ·subst hj;simp only[Nx,uZ,AZ,if_true];rw[if_pos (by simp)];have:[j].idxOf j=0:=by simp
    rw[this,if_pos rfl,hd];exact V8 (fun q=>by simp[VI]) hd S' p
   ·have:¬ [r].contains j=true:=by simpa using hj
    simp only[Nx,if_neg this,uZ,AZ,if_neg hj]
structure Ar.Ok (S:Ar):Prop where
 used0:0≤S.used
 used1:S.used≤S.most
 most1:S.most≤131072
 size0:1≤S.size
 size1:S.size<9223372036854775808
 len:S.l.length≤16
 seg:∀ e,e ∈ S.l→(e.2.length:Int)≤S.used
theorem Ar.Ok.szAt {S:Ar} (h:S.Ok) (s:Int):0≤(Go.Proofs.YtbjmaoedheiigaaGreat.szAt S.w s:Int)∧(Go.Proofs.YtbjmaoedheiigaaGreat.szAt S.w s:Int)≤S.used:=by
 refine⟨by omega,?_⟩;unfold Go.Proofs.YtbjmaoedheiigaaGreat.szAt;cases e:Go.Proofs.YtbjmaoedheiigaaGreat.seg S.w s with
 |none=>exact h.used0
 |some g=>
  obtain⟨_,_,h2,rfl⟩:=OC e;simp only[Option.map_some,Option.getD_some];simp only[Ar.w,List.getElem_map];exact h.seg _ (Bg _)
theorem OL {S:Ar} {k:Nat} (h:k<S.l.length):(Go.Proofs.YtbjmaoedheiigaaGreat.szAt S.w k:Int)=S.l[k].2.length:=by
 simp[Go.Proofs.YtbjmaoedheiigaaGreat.szAt,Go.Proofs.YtbjmaoedheiigaaGreat.seg,Ar.w,h]
def VO (S:Ar) (s n:Int):Bool:=decide (0≤s∧s<S.l.length∧0≤n∧n≤S.most-S.used∧n≤S.size-szAt S.w s)
def HV (S:Ar) (n:Int):Bool:=decide (S.l.length=0) || (!decide (n≤S.size-szAt S.w ((S.l.length:Int)-1))&&decide (S.l.length<16))
def EK (S:Ar):Ar:={ S with l:=S.l++[(1,[])],ur:=S.ur+1 }
def Dq (S:Ar) (n:Int):Bool:=decide (0≤n∧n≤S.most-S.used)
def JF (S:Ar) (n:Int):Ar:=if HV S n=true then EK S else S
theorem fK {r:Nat} {l:List (Nat × List Int)} {e:Nat × List Int}:Io r (l++[e])=Io r l++[.osl [r,0,l.length] e.1 1 0 e.2.length]:=by simp[Io,List.mapIdx_append]
theorem mB {c:Cx} {s:Nat→A} {S:Ar}:∃ G:Hp,Le c ⟨s,ov 0 (Ay (Ay (H6 0 S) [0] ⟨S.ur+1,.arr 1 (List.take S.l.length (Io 0 S.l)++[A.sl true []])⟩) [] ⟨S.u,.cells [A.osl [0,0] (S.ur+1) 1 0 (S.l.length+1),iv S.size,iv S.most,iv S.used]⟩) (EH [])⟩ ⟨s,G⟩ ∧
  ∀ o,G o=ov 0 (H6 0 (EK S)) (EH []) o:=by
 refine⟨_,pw (d:=[0,0]) (u:=S.ur+1) (xs:=List.take S.l.length (Io 0 S.l)++[A.sl true []]) S.l.length [0,0,S.l.length] 1 (by simp[Aa]) (by simp) (by simp),fun o=>?_⟩;rw[mo,if_pos rfl,mo,if_pos rfl];cases o with
 |nil=>rfl
 |cons j p=>
  by_cases hj:j=0
  ·subst hj;simp only[AZ,if_true];refine Gf ?_ (fun h1=>Gf ?_ (fun h2=>Gf ?_ (fun h3=>?_)))
   ·simp[EK,fK,AL,Aa]
   ·simp[EK,Aa]
   ·simp[EK]
   ·rw[AH h1];refine bG h3 h1 fun i hi=>?_;have:i ≠ S.l.length:=fun e=>h2 (by rw[hi,e]);simp only[EK,List.getElem?_append];split
    ·rfl
    ·rw[List.getElem?_eq_none (by omega),List.getElem?_eq_none (by simp;omega)]
  ·simp[hj]
def Lr (z m:Int):Ar:=⟨[],1,1,max z 1,min (max m 0) 131072,0⟩
theorem y8 {P:Program} {K:Sta→Prop} {rest:List CO} {s:Nat→A} {H:Hp} {dd:Option Nat} {nm:Nm} {ix:Nat} {un:List Nat} {l:Bool} {lg:Lg} {g:FuncId} {aa:Array Operand} {ts:Array TypeId}
  (r:Nat) {S':Ar} {as0:List A} (hu:S'.u=1) (hS:Jc P g 1 as0 (EH []) (.pob [0] 1 0) (ov 0 (H6 0 S') (EH []))) (hF:∀ p,(H (r::p)).u=0)
  (ha:aa.toList.map (evs s)=as0) (h0:∀ g δ,A.renL g δ as0=as0) (h1:∀ D,A.refsL D as0) (hv:∀ p,(H6 0 S' p).ob = .none∨1≤(H6 0 S' p).u) (hck:Ck un lg ⟨[],[([r],true)]⟩)
  (h:AB P K rest (BV l ix ⟨[],[([r],true)]⟩ lg) (Sta.put ⟨s,H⟩ dd (.pob [r] 1 0) (uZ r (H6 r S') H))) :
  AB P K (⟨dd,.call { callee:=.value (.func g),args:=aa,argTypes:=ts },none,nm,ix,un,l⟩::rest) lg ⟨s,H⟩:=by
 have hd:∀ p,OY [r] 0 H (0::p)=0:=fun p=>by
  simp only[OY];rw[if_neg (by omega),if_pos (by simp)];exact hF p
 refine Ol [r] 0 hS (by simp) (by simp) ?_ ?_ ?_ ?_ (by simp[A.refs,Iu]) ?_ ?_ ?_ ?_ hck h
 ·rw[ha];exact h0 _ _
 ·rw[ha];exact h1 _
 ·funext o;cases o with
  |nil=>rfl
  |cons i p=>simp[Mg]
 ·intro j p hj;omega
 ·intro i p hi;have:i=0:=by simp at hi;omega
  subst this;simp only[AZ,if_true];exact St (fun q=>by simp[Iu]) S' p
 ·intro i p _ hi;have:i=0:=by simp at hi;omega
  subst this;simp only[AZ,if_true];exact hv p
 ·simp[A.ren,VI,hd]
 ·funext o;cases o with
  |nil=>rfl
  |cons j p=>
   by_cases hj:j=r
   ·subst hj;simp only[Nx,uZ,AZ,if_true];rw[if_pos (by simp)];have:[j].idxOf j=0:=by simp
    rw[this,if_pos rfl,hd];exact V8 (fun q=>by simp[VI]) hd S' p
   ·have:¬ [r].contains j=true:=by simpa using hj
    simp only[Nx,if_neg this,uZ,AZ,if_neg hj]
theorem qN {z m:Int} (h:z<9223372036854775808):(Lr z m).Ok:=by
 refine⟨by simp[Lr],?_,?_,?_,?_,by simp[Lr],by simp[Lr]⟩;all_goals
  simp only[Lr];omega
theorem o5 {z m:Int} (p:Nm):(H6 0 (Lr z m) p).ob = .none∨1≤(H6 0 (Lr z m) p).u:=by
 match p with
 |[]=>exact .inr (BZ _)
 |[0]=>exact .inr (BZ _)
 |[0,i]=>exact .inl rfl
 |(a+1)::q=>exact .inl rfl
 |0::a::b::q=>exact .inl rfl
theorem qX {S:Ar} (h:S.Ok) (n:Int):(JF S n).Ok:=by
 unfold JF;split
 ·rename_i hn;refine⟨h.used0,h.used1,h.most1,h.size0,h.size1,?_,fun e he=>?_⟩
  ·simp only[EK,List.length_append,List.length_singleton];simp[HV] at hn;have:=h.len;rcases hn with e | e
   ·simp[e]
   ·omega
  ·simp only[EK,List.mem_append,List.mem_singleton] at he;rcases he with he | rfl
   ·exact h.seg e he
   ·exact h.used0
 ·exact h
end Go.Proofs.YtbjmaoedheiigaaGreat
namespace Go.PL
inductive T where
 |mk (kind:Int) (words:List Int) (kids:List T)
 deriving Inhabited
namespace T
def kind:T→Int | mk k _ _=>k
def words:T→List Int | mk _ w _=>w
def kids:T→List T | mk _ _ l=>l
@[simp] theorem kind_mk {k:Int} {w:List Int} {l:List T}:(mk k w l).kind=k:=rfl
@[simp] theorem words_mk {k:Int} {w:List Int} {l:List T}:(mk k w l).words=w:=rfl
@[simp] theorem kids_mk {k:Int} {w:List Int} {l:List T}:(mk k w l).kids=l:=rfl
end T
theorem aJ {α:Type} {P:List α→Prop} (h0:P []) (h1:∀ l x,P l→P (l++[x])) (l:List α):P l:=by
 have:∀ m:List α,P m.reverse:=by
  intro m;induction m with
  |nil=>exact h0
  |cons x m ih=>rw[List.reverse_cons];exact h1 _ _ ih
 have h:=this l.reverse
 rwa [List.reverse_reverse] at h
abbrev T0:T:=.mk 0 [] []
theorem T.eta (t:T):t = .mk t.kind t.words t.kids:=by cases t;rfl
mutual
theorem T.ind {P:T→Prop} (h:∀ k w l,(∀ t,t ∈ l→P t)→P (.mk k w l)):∀ t,P t
 |.mk k w l=>h k w l (T.indL h l)
theorem T.indL {P:T→Prop} (h:∀ k w l,(∀ t,t ∈ l→P t)→P (.mk k w l)):∀ (l:List T),∀ t,t ∈ l→P t
 |[],t,ht=>nomatch ht
 |x::l,t,ht=>by
  rcases List.mem_cons.1 ht with e | ht
  ·rw[e];exact T.ind h x
  ·exact T.indL h l t ht
end
def Cf (l:List Int):List Int:=(l.reverse.dropWhile (fun x=>x == 0)).reverse
def BO (l:List T):List T:=(l.reverse.dropWhile (fun x=>x.kind == 0)).reverse
mutual
def Ah:T→T
 |.mk k w l=>if k=0 then T0 else if k=1 then .mk 1 (Cf w) (BO (Z4 l)) else .mk k w (Z4 l)
def Z4:List T→List T
 |[]=>[]
 |t::l=>Ah t::Z4 l
end
@[simp] theorem oV:∀ l,Z4 l=l.map Ah
 |[]=>by simp[Z4]
 |t::l=>by simp[Z4,oV l]
theorem BS (k:Int) (w:List Int) (l:List T):Ah (.mk k w l)=if k=0 then T0 else if k=1 then .mk 1 (Cf w) (BO (l.map Ah)) else .mk k w (l.map Ah):=by simp[Ah]
@[simp] theorem CB (t:T):(Ah t).kind=t.kind:=by
 cases t;rw[BS];split
 ·rename_i h;rw[h];rfl
 ·split
  ·rename_i h;rw[h];rfl
  ·rfl
@[simp] theorem AcD:Cf []=[]:=rfl
@[simp] theorem Ack:BO []=[]:=rfl
theorem RG (l:List Int) (x:Int):Cf (l++[x])=if x=0 then Cf l else l++[x]:=by
 unfold Cf;simp[List.dropWhile_cons];split<;>simp
theorem KT (l:List T) (x:T):BO (l++[x])=if x.kind=0 then BO l else l++[x]:=by
 unfold BO;by_cases h:x.kind=0<;>simp[List.dropWhile_cons,h]
theorem KL (l:List Int):(Cf l).length≤l.length:=by
 unfold Cf;simp;have:=(List.dropWhile_sublist (fun x:Int=>x == 0) (l:=l.reverse)).length_le;simpa using this
theorem Ji (l:List T):(BO l).length≤l.length:=by
 unfold BO;simp;have:=(List.dropWhile_sublist (fun x:T=>x.kind == 0) (l:=l.reverse)).length_le;simpa using this
theorem Rs (l:List Int):Cf l=l.take (Cf l).length:=by
 induction l using aJ with
 |h0=>rfl
 |h1 l x ih=>
  rw[RG];split
  ·rw[List.take_append_of_le_length (KL l)];exact ih
  ·rw[AL (BZ _)]
theorem NQ (l:List T):BO l=l.take (BO l).length:=by
 induction l using aJ with
 |h0=>rfl
 |h1 l x ih=>
  rw[KT];split
  ·rw[List.take_append_of_le_length (Ji l)];exact ih
  ·rw[AL (BZ _)]
def c9 (c:Int):Int:=if c=1 then 1 else if c=2 then 8 else if c=3 then 16 else if c=4 then 32 else if c=5 then 64 else 0
def Ll (c n:Int):Int:=if n<0∨n > 1099511627776 then 0 else (n*c9 c+63) / 64
def Gx:List T→Nat
 |[]=>0
 |t::l=>max t.words.length (Gx l)
def Gw:List T→Nat
 |[]=>0
 |t::l=>max t.kids.length (Gw l)
def AD (c:Int):Int:=if c=0 then 0 else if c=1 then 1 else if c=2 then 8 else if c=3 then 16 else if c=4 then 32 else if c=5 then 64 else -1
def JA (c n:Int):Bool:=decide (0≤AD c)&&decide (n / 2 ^ (AD c).toNat=0)
def F0 (k:Int):Bool:=decide (2≤k)&&decide (k≤7)
def Ey (k:Int) (c:T):Bool:=!(F0 k != decide (c.kind=10) || decide (k=9)&&!decide (c.kind=1) || F0 k&&!JA (k-2) (c.words.headD 0))
def FU (k:Int) (d nw nl:Nat):Bool:=decide (k<0) || decide (k > 10) || decide (d=0) || decide (nw ≥ 65536) || decide (k=1)&&decide (nl ≥ 65536) || decide (nl ≥ 1048576) || decide (k > 1)&&decide (nw > 0)
mutual
def Ef:Nat→T→Bool
 |d,.mk k w l=>if k=0 then w.isEmpty&&l.isEmpty else if k=10 then decide (w.length=1)&&l.isEmpty
  else if FU k d w.length l.length=true then false else G7 (d-1) k l
def G7:Nat→Int→List T→Bool
 |_,_,[]=>true
 |d,k,t::l=>Ef d t&&Ey k t&&G7 d k l
end
theorem DH (d:Nat) (k:Int) (w:List Int) (l:List T):Ef d (.mk k w l)=if k=0 then w.isEmpty&&l.isEmpty else if k=10 then decide (w.length=1)&&l.isEmpty
  else if FU k d w.length l.length=true then false else G7 (d-1) k l:=by rw[Ef]
@[simp] theorem zt (d:Nat) (k:Int):G7 d k []=true:=by rw[G7]
@[simp] theorem cV (d:Nat) (k:Int) (t:T) (l:List T):G7 d k (t::l)=(Ef d t&&Ey k t&&G7 d k l):=by rw[G7]
theorem rightL_all {d:Nat} {k:Int}:∀ {l:List T},G7 d k l=true ↔ ∀ t,t ∈ l→Ef d t=true∧Ey k t=true
 |[]=>by simp
 |t::l=>by simp[rightL_all (l:=l),and_assoc]
mutual
def DJ:Nat→Int→T→Int
 |d,n,.mk _ w l=>if d=0∨n-1-w.length<0 then -1 else DW (d-1) (n-1-w.length) l
def DW:Nat→Int→List T→Int
 |_,n,[]=>n
 |d,n,t::l=>if n<0 then n else DW d (DJ d n t) l
end
theorem QQ (d:Nat) (n:Int) (k:Int) (w:List Int) (l:List T):DJ d n (.mk k w l)=if d=0∨n-1-w.length<0 then -1 else DW (d-1) (n-1-w.length) l:=by rw[DJ]
@[simp] theorem xU (d:Nat) (n:Int):DW d n []=n:=by rw[DW]
@[simp] theorem IH (d:Nat) (n:Int) (t:T) (l:List T):DW d n (t::l)=if n<0 then n else DW d (DJ d n t) l:=by rw[DW]
theorem xF {c:T} (h:Ey 9 c=true):c.kind=1:=by
 simp[Ey,F0] at h;exact h.2
theorem Iz {d:Nat} {k:Int} {w:List Int} {l:List T} (h:Ef d (.mk k w l)=true):∀ t,t ∈ l→Ef (d-1) t=true∧Ey k t=true:=by
 rw[DH] at h;split at h
 ·simp at h;intro t ht;rw[h.2] at ht;cases ht
 ·split at h
  ·simp at h;intro t ht;rw[h.2] at ht;cases ht
  ·split at h
   ·cases h
   ·exact rightL_all.1 h
theorem UK {t:T} (h:t.kind=1):Ah t = .mk 1 (Cf t.words) (BO (t.kids.map Ah)):=by
 cases t;simp at h;subst h;rw[BS];simp
end Go.PL
namespace Go.PL
structure WE where
 at_:Int
 mask:Int
 old:Int
 new:Int
mutual
inductive E where
 |mk (kind:Int) (old new:T) (words:List WE) (kids:List KE) (list:Int) (ops:List OP)
inductive KE where
 |mk (at_:Int) (e:E)
inductive OP where
 |mk (kind n:Int) (l:List T) (e:E)
end
namespace E
def kind:E→Int | mk k _ _ _ _ _ _=>k
def old:E→T | mk _ o _ _ _ _ _=>o
def new:E→T | mk _ _ n _ _ _ _=>n
def words:E→List WE | mk _ _ _ w _ _ _=>w
def kids:E→List KE | mk _ _ _ _ k _ _=>k
def list:E→Int | mk _ _ _ _ _ l _=>l
def ops:E→List OP | mk _ _ _ _ _ _ o=>o
variable {k l:Int} {o n:T} {w:List WE} {ks:List KE} {os:List OP}
@[simp] theorem kind_mk:(mk k o n w ks l os).kind=k:=rfl
@[simp] theorem old_mk:(mk k o n w ks l os).old=o:=rfl
@[simp] theorem new_mk:(mk k o n w ks l os).new=n:=rfl
@[simp] theorem words_mk:(mk k o n w ks l os).words=w:=rfl
@[simp] theorem kids_mk:(mk k o n w ks l os).kids=ks:=rfl
@[simp] theorem AgF:(mk k o n w ks l os).list=l:=rfl
@[simp] theorem AhW:(mk k o n w ks l os).ops=os:=rfl
end E
namespace KE
def at_:KE→Int | mk a _=>a
def e:KE→E | mk _ e=>e
@[simp] theorem AiU {a:Int} {e:E}:(mk a e).at_=a:=rfl
@[simp] theorem Aig {a:Int} {e:E}:(mk a e).e=e:=rfl
end KE
namespace OP
def kind:OP→Int | mk k _ _ _=>k
def n:OP→Int | mk _ n _ _=>n
def l:OP→List T | mk _ _ l _=>l
def e:OP→E | mk _ _ _ e=>e
variable {k m:Int} {t:List T} {x:E}
@[simp] theorem kind_mk:(mk k m t x).kind=k:=rfl
@[simp] theorem Ajv:(mk k m t x).n=m:=rfl
@[simp] theorem Ajs:(mk k m t x).l=t:=rfl
@[simp] theorem Aig:(mk k m t x).e=x:=rfl
end OP
abbrev E0:E:=.mk 0 T0 T0 [] [] 0 []
mutual
theorem E.ind {P:E→Prop} (h:∀ k o n w ks l os,(∀ x,x ∈ ks→P x.e)→(∀ x,x ∈ os→P x.e)→P (.mk k o n w ks l os)):∀ e,P e
 |.mk k o n w ks l os=>h k o n w ks l os (E.indK h ks) (E.indO h os)
theorem E.indK {P:E→Prop} (h:∀ k o n w ks l os,(∀ x,x ∈ ks→P x.e)→(∀ x,x ∈ os→P x.e)→P (.mk k o n w ks l os)):∀ (ks:List KE),∀ x,x ∈ ks→P x.e
 |[],_,hx=>nomatch hx
 |.mk a e::ks,x,hx=>by
  rcases List.mem_cons.1 hx with q | hx
  ·rw[q];exact E.ind h e
  ·exact E.indK h ks x hx
theorem E.indO {P:E→Prop} (h:∀ k o n w ks l os,(∀ x,x ∈ ks→P x.e)→(∀ x,x ∈ os→P x.e)→P (.mk k o n w ks l os)):∀ (os:List OP),∀ x,x ∈ os→P x.e
 |[],_,hx=>nomatch hx
 |.mk a n l e::os,x,hx=>by
  rcases List.mem_cons.1 hx with q | hx
  ·rw[q];exact E.ind h e
  ·exact E.indO h os x hx
end
end Go.PL
namespace Go.PL
theorem QH {w:List Int} {n:Nat} (h:n<w.length) (h0:w[n]=0):Cf (w.take (n+1))=Cf (w.take n):=by
 rw[Fm h,RG,if_pos h0]
theorem RB {w:List Int} {n:Nat} (h:n<w.length) (h0:w[n] ≠ 0):Cf (w.take (n+1))=w.take (n+1):=by
 rw[Fm h,RG,if_neg h0]
theorem Rj {w:List T} {n:Nat} (h:n<w.length) (h0:w[n].kind=0):BO (w.take (n+1))=BO (w.take n):=by
 rw[Fm h,KT,if_pos h0]
theorem Rp {w:List T} {n:Nat} (h:n<w.length) (h0:w[n].kind ≠ 0):BO (w.take (n+1))=w.take (n+1):=by
 rw[Fm h,KT,if_neg h0]
theorem QB (l:List T):(BO (l.map Ah)).length=(BO l).length:=by
 induction l using aJ with
 |h0=>rfl
 |h1 l x ih=>
  rw[List.map_append,List.map_cons,List.map_nil,KT,KT,CB];split
  ·exact ih
  ·simp
theorem PN (l:List T):BO (l.map Ah)=(l.map Ah).take (BO l).length:=by
 rw[← QB];exact NQ _
def nW (t:T):Nat:=if t.kind=1 then (Cf t.words).length else t.words.length
def nK (t:T):Nat:=if t.kind=1 then (BO t.kids).length else t.kids.length
theorem Zn (t:T):nW t≤t.words.length:=by unfold nW;split;exact KL _;exact BZ _
theorem eg (t:T):nK t≤t.kids.length:=by unfold nK;split;exact Ji _;exact BZ _
def kg (t:T):Prop:=t.kind=0→t.words=[]∧t.kids=[]
theorem KJ {t:T} (h:kg t):(Ah t).words=t.words.take (nW t):=by
 obtain⟨k,w,l⟩:=t;rw[BS];by_cases h0:k=0
 ·obtain⟨a,b⟩:=h h0;simp at a b;subst a b;rw[if_pos h0];simp
 ·rw[if_neg h0];by_cases h1:k=1
  ·subst h1;simp[nW,← Rs]
  ·simp[h1,nW]
theorem MU {t:T} (h:kg t):(Ah t).kids=(t.kids.take (nK t)).map Ah:=by
 obtain⟨k,w,l⟩:=t;rw[BS];by_cases h0:k=0
 ·obtain⟨a,b⟩:=h h0;simp at a b;subst a b;rw[if_pos h0];simp
 ·rw[if_neg h0];by_cases h1:k=1
  ·subst h1;simp[nK,PN,List.map_take]
  ·simp[h1,nK]
theorem T.ext' {t u:T} (h1:t.kind=u.kind) (h2:t.words=u.words) (h3:t.kids=u.kids):t=u:=by
 cases t;cases u;simp at h1 h2 h3;rw[h1,h2,h3]
theorem vg {t u:T} (ht:kg t) (hu:kg u):Ah t=Ah u ↔ t.kind=u.kind∧nW t=nW u∧nK t=nK u∧(∀ i:Nat,i<nW t→t.words[i]? = u.words[i]?)∧(∀ i:Nat,i<nK t→(t.kids[i]?).map Ah=(u.kids[i]?).map Ah):=by
 constructor
 ·intro h;have hk:t.kind=u.kind:=by rw[← CB t,h,CB]
  have hw:t.words.take (nW t)=u.words.take (nW u):=by rw[← KJ ht,h,KJ hu]
  have hl:(t.kids.take (nK t)).map Ah=(u.kids.take (nK u)).map Ah:=by rw[← MU ht,h,MU hu]
  have e1:nW t=nW u:=by have:=congrArg List.length hw;simp at this;have:=Zn t;have:=Zn u;omega
  have e2:nK t=nK u:=by have:=congrArg List.length hl;simp at this;have:=eg t;have:=eg u;omega
  refine⟨hk,e1,e2,fun i hi=>?_,fun i hi=>?_⟩
  ·have:=congrArg (fun l=>l[i]?) hw;simp only[List.getElem?_take] at this
   rwa [if_pos hi,if_pos (by omega)] at this
  ·have:=congrArg (fun l=>l[i]?) hl;simp only[List.getElem?_map,List.getElem?_take] at this
   rwa [if_pos hi,if_pos (by omega)] at this
 ·rintro⟨hk,e1,e2,hw,hl⟩;refine T.ext' (by rw[CB,CB,hk]) ?_ ?_
  ·rw[KJ ht,KJ hu,← e1];apply List.ext_getElem?;intro i;rw[List.getElem?_take,List.getElem?_take];split
   ·exact hw i (by assumption)
   ·rfl
  ·rw[MU ht,MU hu,← e2];apply List.ext_getElem?;intro i;rw[List.getElem?_map,List.getElem?_map,List.getElem?_take,List.getElem?_take];split
   ·exact hl i (by assumption)
   ·rfl
noncomputable def HA (t u:T):Bool:=by classical exact decide (t=u)
theorem sameB_iff {t u:T}:HA t u=true ↔ t=u:=by simp[HA]
noncomputable def LK (t u:T):Bool:=HA (Ah t) (Ah u)
theorem eqT_iff {t u:T}:LK t u=true ↔ Ah t=Ah u:=sameB_iff
end Go.PL
namespace Go.Proofs.YtbjmaoedheiigaaGreat
open Go Go.G Go.Proofs Go.PL
theorem AY {P:Program} {K:Sta→Prop} {rest:List CO} {s:Nat→A} {H:Hp} {dd:Option Nat} {k:Nat} {f:Bool} {nm:Nm} {ix:Nat} {un:List Nat} {l:Bool} {lg:Lg} {g:FuncId} {aa:Array Operand} {ts:Array TypeId}
  (hq:FO (s k) f=some false) (h:AB P K rest (BV l ix ⟨[],[]⟩ lg) (Sta.put ⟨s,H⟩ dd (.v undef) H)) :
  AB P K (⟨dd,.call { callee:=.value (.func g),args:=aa,argTypes:=ts },some (k,f),nm,ix,un,l⟩::rest) lg ⟨s,H⟩:=
 UA (q:=false) (x:=.any) hq (fun e=>by cases e) h
abbrev Dz (l:List Int):A:=.sl false (l.map uv)
abbrev Cq (l:List Int):A:=.sl false (l.map iv)
abbrev u8 (n:Int):A:=.v (.int .u8 n)
mutual
def tC:T→List A
 |.mk k w l=>[iv k,Dz w,.sl false (tCs l)]
def tCs:List T→List A
 |[]=>[]
 |t::l=>.agg (tC t)::tCs l
end
def tA (t:T):A:=.agg (tC t)
abbrev Bm (l:List T):A:=.sl false (l.map tA)
abbrev tX (t:T):A:=.agg [iv t.kind,Dz t.words,Bm t.kids]
theorem kS:∀ l,tCs l=l.map tA
 |[]=>by rw[tCs];rfl
 |t::l=>by rw[tCs,kS l];rfl
theorem Aeq (t:T):tC t=[iv t.kind,Dz t.words,Bm t.kids]:=by cases t;rw[tC,kS];rfl
@[simp] theorem tA_eq (t:T):tA t=tX t:=by rw[tA,Aeq]
def wA (w:WE):A:=.agg [iv w.at_,u8 w.mask,uv w.old,uv w.new]
abbrev wX (w:WE):A:=.agg [iv w.at_,u8 w.mask,uv w.old,uv w.new]
@[simp] theorem wA_eq (w:WE):wA w=wX w:=rfl
abbrev wKs (l:List WE):A:=.sl false (l.map wA)
mutual
def eC:E→List A
 |.mk k o n w ks l os=>[iv k,iv o.kind,Dz o.words,Bm o.kids,iv n.kind,Dz n.words,Bm n.kids,wKs w,.sl false (eKs ks),iv l,.sl false (eOs os)]
def eKs:List KE→List A
 |[]=>[]
 |.mk a e::l=>.agg (iv a::eC e)::eKs l
def eOs:List OP→List A
 |[]=>[]
 |.mk k n t e::l=>.agg (iv k::iv n::Bm t::eC e)::eOs l
end
def kA (x:KE):A:=.agg (iv x.at_::eC x.e)
def oA (x:OP):A:=.agg (iv x.kind::iv x.n::Bm x.l::eC x.e)
abbrev kKs (l:List KE):A:=.sl false (l.map kA)
abbrev MV (l:List OP):A:=.sl false (l.map oA)
abbrev eL (e:E):List A:=[iv e.kind,iv e.old.kind,Dz e.old.words,Bm e.old.kids,iv e.new.kind,Dz e.new.words,Bm e.new.kids,wKs e.words,kKs e.kids,iv e.list,MV e.ops]
abbrev eX (e:E):A:=.agg (eL e)
abbrev kX (x:KE):A:=.agg (iv x.at_::eL x.e)
abbrev oX (x:OP):A:=.agg (iv x.kind::iv x.n::Bm x.l::eL x.e)
theorem kO:∀ l,eKs l=l.map kA
 |[]=>by rw[eKs];rfl
 |.mk a e::l=>by rw[eKs,kO l];rfl
theorem mr:∀ l,eOs l=l.map oA
 |[]=>by rw[eOs];rfl
 |.mk k n t e::l=>by rw[eOs,mr l];rfl
theorem yx (e:E):eC e=eL e:=by cases e;rw[eC,kO,mr];rfl
@[simp] theorem kA_eq (x:KE):kA x=kX x:=by rw[kA,yx]
@[simp] theorem oA_eq (x:OP):oA x=oX x:=by rw[oA,yx]
@[simp] theorem Ahq (l:List Int):Gh 1 (l.map iv)=true:=by simp[Gh]
@[simp] theorem Ag2 (l:List T):Gh 3 (l.map tA)=true:=by simp[Gh]
@[simp] theorem AgD (l:List WE):Gh 4 (l.map wA)=true:=by simp[Gh]
@[simp] theorem Af7 (l:List OP):Gh 14 (l.map oA)=true:=by simp[Gh]
theorem I7 {n:Nat} {l:List A}:Gh n l=true ↔ ∀ x,x ∈ l→x.cells.length=n:=by simp[Gh]
@[simp] theorem AcJ {n k:Nat} {l:List A} (h:Gh n l=true):Gh n (l.take k)=true:=by
 rw[I7] at h ⊢;exact fun x hx=>h x (Oh hx)
theorem Bx {α:Type} {H:Hp} {o:Nm} {u n sz:Nat} {l:List α} {f:α→A} (h:vr (H o) u=some (sz,l.map f)) (hn:n=l.length) (hf:∀ x,((f x).cells.length == sz&&(f x).cells.all fun y=>A.bare1 y&&y.one)=true):J3 H (.osl o u sz 0 n) (.sl false (l.map f)):=by
 subst hn;have:=SG (H:=H) (o:=o) (u:=u) (off:=0) (len:=l.length) (sz:=sz) (xs:=l.map f) (by simpa using h) (by simp) (by
  simp only[List.drop_zero];rw[AL (by simp),List.all_map,List.all_eq_true];exact fun x _=>hf x)
 simp[AL] at this;exact this
theorem Yo {α:Type} {H:Hp} {o:Nm} {u n sz:Nat} {l:List α} {f:α→A} (h:vr (H o) u=some (sz,l.map f)) (hn:n≤l.length) (hf:∀ x,((f x).cells.length == sz&&(f x).cells.all fun y=>A.bare1 y&&y.one)=true):J3 H (.osl o u sz 0 n) (.sl false ((l.take n).map f)):=by
 have:=SG (H:=H) (o:=o) (u:=u) (off:=0) (len:=n) (sz:=sz) (xs:=l.map f) (by simpa using h) (by simpa using hn) (by
  simp only[List.drop_zero];rw[← List.map_take,List.all_map,List.all_eq_true];exact fun x _=>hf x)
 simpa using this
theorem gp {α:Type} {f:α→A} {l:List α} {i:Nat} (h:i<l.length) {x:A} (hx:f l[i]=x):List.take i (List.take i (l.map f))++[x]=(l.take (i+1)).map f:=by
 rw[List.take_take,Nat.min_self,Fm h,List.map_append,List.map_take,← hx];rfl
theorem sO {H:Hp}:J3 H (.agg [iv 0,.sl true [],.sl true []]) (tX T0):=Cn (by simp;exact⟨Ad rfl,Ak,Ak⟩)
def B9 (n:Int):Prop:=-9223372036854775808≤n∧n<9223372036854775808
def Bw (n:Int):Prop:=0≤n∧n<18446744073709551616
mutual
def BH:T→Prop
 |.mk k w l=>B9 k∧(∀ x,x ∈ w→Bw x)∧w.length*8≤140737488355328∧l.length*56≤140737488355328∧pG l
def pG:List T→Prop
 |[]=>True
 |t::l=>BH t∧pG l
end
theorem WA:∀ {l:List T},pG l ↔ ∀ t,t ∈ l→BH t
 |[]=>by simp[pG]
 |t::l=>by simp[pG,WA (l:=l)]
structure WfT (t:T):Prop where
 k:B9 t.kind
 w:∀ x,x ∈ t.words→Bw x
 wl:t.words.length*8≤140737488355328
 kl:t.kids.length*56≤140737488355328
 ks:∀ x,x ∈ t.kids→BH x
theorem wfT_iff {t:T}:BH t ↔ WfT t:=by
 cases t;rw[BH,WA];exact⟨fun ⟨a,b,c,d,e⟩=>⟨a,b,c,d,e⟩,fun ⟨a,b,c,d,e⟩=>⟨a,b,c,d,e⟩⟩
def WE.wf (w:WE):Prop:=B9 w.at_∧(0≤w.mask∧w.mask<256)∧Bw w.old∧Bw w.new
mutual
def Yt:E→Prop
 |.mk k o n w ks l os=>(B9 k∧B9 l∧BH o∧BH n∧(∀ x,x ∈ w→WE.wf x)∧w.length*32≤140737488355328∧ks.length*208≤140737488355328∧os.length*240≤140737488355328)∧tc ks∧te os
def tc:List KE→Prop
 |[]=>True
 |.mk a e::l=>(B9 a∧Yt e)∧tc l
def te:List OP→Prop
 |[]=>True
 |.mk k n t e::l=>(B9 k∧B9 n∧pG t∧t.length*56≤140737488355328∧Yt e)∧te l
end
structure xv (x:OP):Prop where
 k:B9 x.kind
 n:B9 x.n
 l:∀ t,t ∈ x.l→BH t
 ll:x.l.length*56≤140737488355328
 e:Yt x.e
theorem fh:∀ {l:List KE},tc l ↔ ∀ x,x ∈ l→B9 x.at_∧Yt x.e
 |[]=>by simp[tc]
 |.mk a e::l=>by simp[tc,fh (l:=l)]
theorem ib:∀ {l:List OP},te l ↔ ∀ x,x ∈ l→xv x
 |[]=>by simp[te]
 |.mk k n t e::l=>by
  simp only[te,ib (l:=l),WA,List.forall_mem_cons];exact⟨fun ⟨⟨a,b,c,d,e⟩,h⟩=>⟨⟨a,b,c,d,e⟩,h⟩,fun ⟨⟨a,b,c,d,e⟩,h⟩=>⟨⟨a,b,c,d,e⟩,h⟩⟩
structure WfE (e:E):Prop where
 k:B9 e.kind
 l:B9 e.list
 o:BH e.old
 n:BH e.new
 w:∀ x,x ∈ e.words→WE.wf x
 wl:e.words.length*32≤140737488355328
 kl:e.kids.length*208≤140737488355328
 ol:e.ops.length*240≤140737488355328
 ks:∀ x,x ∈ e.kids→B9 x.at_∧Yt x.e
 os:∀ x,x ∈ e.ops→xv x
theorem wfE_iff {e:E}:Yt e ↔ WfE e:=by
 cases e;rw[Yt,fh,ib];exact⟨fun ⟨⟨a,b,c,d,e,f,g,h⟩,i,j⟩=>⟨a,b,c,d,e,f,g,h,i,j⟩,fun ⟨a,b,c,d,e,f,g,h,i,j⟩=>⟨⟨a,b,c,d,e,f,g,h⟩,i,j⟩⟩
end Go.Proofs.YtbjmaoedheiigaaGreat
namespace Go.Proofs.YtbjmaoedheiigaaGreat
open Go Go.G Go.Proofs
def N8 (l:List (List Int)) (s:Int):Int:=if 0≤s∧s<l.length then (szAt l s:Int) else -1
theorem RF (l:List (List Int)) (z m u s:Int):G.Spec Tryz.prog 169 [x7 l z m u,iv s] (iv (N8 l s)):=by
 refine Aj MM (by simp) fun w0 I0=>?_;unfold Hm;by_cases h:0≤s∧s<l.length
 ·obtain⟨h2,e1⟩:=W9 h.1 h.2;have h3:¬ s<0:=by omega
  have h4:¬ (l.length:Int)≤s:=by omega
  simp[h.1,h.2,h2,h3,h4,N8];rw[szAt,e1];exact CE rfl
 ·have h3:s<0∨(l.length:Int)≤s:=by omega
  by_cases h5:s<0
  ·simp[h5,N8,h];exact Ad rfl
  ·have h6:(l.length:Int)≤s:=by omega
   simp[h5,h6,N8,h];exact Ad rfl
def HH (S:Ar) (k i:Nat):Ar:={ S with l:=S.l.modify k fun e=>(e.1+i,e.2++List.replicate i 0) }
def Mj (S:Ar) (k n:Nat):Ar:={ HH S k n with used:=S.used+n }
@[simp] theorem Aii {S:Ar} {k i:Nat}:(HH S k i).u=S.u:=rfl
@[simp] theorem Agq {S:Ar} {k i:Nat}:(HH S k i).ur=S.ur:=rfl
@[simp] theorem AcI {S:Ar} {k i:Nat}:(HH S k i).size=S.size:=rfl
@[simp] theorem Abl {S:Ar} {k i:Nat}:(HH S k i).most=S.most:=rfl
@[simp] theorem AbR {S:Ar} {k i:Nat}:(HH S k i).used=S.used:=rfl
@[simp] theorem AdJ {S:Ar} {k i:Nat}:(HH S k i).l.length=S.l.length:=by simp[HH]
theorem se {S:Ar} {k i:Nat} {e:Nat × List Int} (h:S.l[k]? = some e):(HH S k i).l[k]? = some (e.1+i,e.2++List.replicate i 0):=by simp[HH,List.getElem?_modify,h]
theorem oe {S:Ar} {k:Nat}:HH S k 0=S:=by
 cases S;simp only[HH,Ar.mk.injEq,and_true,true_and];apply List.ext_getElem
 ·simp
 ·intro j h1 h2;simp only[List.getElem_modify];by_cases e:k=j<;>simp[e]
theorem YK {S:Ar} {k j:Nat}:HH (HH S k 1) k j=HH S k (j+1):=by
 simp only[HH,Ar.mk.injEq,and_true,true_and];apply List.ext_getElem
 ·simp
 ·intro i h1 h2;simp only[List.getElem_modify];by_cases e:k=i
  ·simp[e,List.replicate_succ];omega
  ·simp[e]
theorem re {r:Nat} {S S':Ar} {p:Nm} (h1:p ≠ []) (hl:S.l=S'.l) (hu:S.ur=S'.ur):H6 r S p=H6 r S' p:=by
 by_cases h2:p=[0]
 ·subst h2;simp[hl,hu]
 ·exact bG h1 h2 fun j _=>by rw[hl]
theorem xI {S:Ar} {k:Nat} {e:Nat × List Int} (hk:S.l[k]? = some e) :
  Ay (Ay (H6 0 S) [0,k] ⟨e.1+1,.arr 1 (List.take e.2.length (e.2.map uv)++[uv 0])⟩) [0] ⟨S.ur,.arr 1 ((Io 0 S.l).set k (.osl [0,0,k] (e.1+1) 1 0 (e.2.length+1)))⟩=H6 0 (HH S k 1):=by
 have hlt:k<S.l.length:=(List.getElem?_eq_some_iff.1 hk).1;have he:S.l[k]=e:=(List.getElem?_eq_some_iff.1 hk).2;funext p;refine Gf ?_ (fun h1=>Gf ?_ (fun h2=>?_))
 ·simp[HH,fJ hlt,he]
 ·simp[HH,List.getElem?_modify,hk,AL]
 ·by_cases h0:p=[]
  ·subst h0;simp[HH]
  ·refine bG h0 h1 fun j hj=>?_;have:j ≠ k:=fun e=>h2 (by rw[hj,e]);simp[HH,List.getElem?_modify,Ne.symm this]
section
theorem xJ {n:Nat} {w0:World} {I0:Nat→Prop} {M0:Nm→Nat→Prop} {m0:Mu} {k m:Nat} {a:Int} {Q:Exit→Sta→Prop} (hm:m≤200000) :
  ∀ (j i:Nat) (S:Ar) (e:Nat × List Int),S.l[k]? = some e→i+j=m→(e.2.length+j)*8≤140737488355328 →
   Q (.exit 0) ⟨lk [(0,.pob [0] S.u 0),(1,iv k),(2,iv m),(7,iv a),(8,iv m),(19,bv false)],ov 0 (H6 0 (HH S k j)) (EH [])⟩ →
  LoopC (DG Tryz.prog w0 I0 M0 n m0) C8 Q ⟨lk [(0,.pob [0] S.u 0),(1,iv k),(2,iv m),(7,iv a),(8,iv i)],ov 0 (H6 0 S) (EH [])⟩:=by
 intro j;induction j with
 |zero=>
  intro i S e hk hi hn q;have:i=m:=by omega
  subst this;refine Ab Ai C8.eq_1 ?_;rw[oe] at q;simp;exact q
 |succ j ih=>
  intro i S e hk hi hn q;refine Ab Ai C8.eq_1 ?_;have hlt:k<S.l.length:=(List.getElem?_eq_some_iff.1 hk).1;have hge:S.l[k]=e:=(List.getElem?_eq_some_iff.1 hk).2;have hlt2:(i:Int)<m:=by omega
  have hn1:(e.2.length+1)*8≤140737488355328:=by omega
  have hn2:(e.2.length:Int)*8≤140737488355328:=by omega
  simp[hk,hlt,hge,hlt2,hn1,Aa];rw[Al (n:=(i:Int)+1) (by omega) (by omega),show A.v (Value.int u64 0)=uv 0 from rfl,xI hk];refine ih (i+1) (HH S k 1) (e.1+1,e.2++List.replicate 1 0) (se hk) (by omega) (by simp;omega) ?_;rw[YK];exact q
end
theorem Zl (S:Ar) (k n:Nat) (e:Nat × List Int) (hk:S.l[k]? = some e) (hn:(e.2.length+n)*8≤140737488355328) (hm:n≤200000) (h0:0≤S.used) (h1:S.used+n<9223372036854775808) :
  Jc Tryz.prog 170 1 [.pob [0] S.u 0,iv k,iv n] (ov 0 (H6 0 S) (EH [])) (iv e.2.length) (ov 0 (H6 0 (Mj S k n)) (EH [])):=by
 refine Jf NB (by simp) fun w0 I0 M0 m0=>?_;unfold HQ;have hlt:k<S.l.length:=(List.getElem?_eq_some_iff.1 hk).1;have he:S.l[k]=e:=(List.getElem?_eq_some_iff.1 hk).2;simp[hk,hlt,he];refine xJ (k:=k) (m:=n) hm n 0 S e hk (by omega) hn ?_;simp[Aa];refine FZ rfl rfl (fun i p hi=>?_);have hi0:i=0:=by omega
 subst hi0;simp only[AZ,if_true];refine Gf ?_ (fun h1=>?_)
 ·have e1:S.used=(HH S k n).used:=rfl;simp[Mj,Al (n:=S.used+n) (by omega) h1]
 ·exact re h1 rfl rfl
def K3 (S:Ar) (s n:Int):Ar:=if VO S s n=true then Mj S s.toNat n.toNat else S
theorem wI {S:Ar} (h:S.Ok) (s:Int):-1≤N8 S.w s∧N8 S.w s≤S.used:=by
 have:=h.szAt s;have:=h.used0;unfold N8;split<;>omega
theorem WT (S:Ar) (h:S.Ok) (s n:Int):Jc Tryz.prog 172 1 [.pob [0] S.u 0,iv s,iv n] (ov 0 (H6 0 S) (EH [])) (iv (if VO S s n=true then szAt S.w s else -1)) (ov 0 (H6 0 (K3 S s n)) (EH [])):=by
 refine Jf Oa (by simp) fun w0 I0 M0 m0=>?_;unfold Ic;simp;have o1:=h.used0;have o2:=h.used1;have o3:=h.most1;have oz0:=h.size0;have oz1:=h.size1;have oz:=wI h s;refine Kf [S.a,iv s] ((RF S.w S.size S.most S.used s).toB rfl) (by simp;exact⟨jC,Ad rfl⟩) (by simp) ?_;simp;have off:(decide (N8 S.w s<0) || decide (n<0))=true∨S.most-S.used<n→VO S s n=false:=fun hd=>by
  simp only[VO,decide_eq_false_iff_not];simp[N8,Ar.w] at hd ⊢;split at hd<;>omega
 by_cases hd:(decide (N8 S.w s<0) || decide (n<0))=true
 ·have hk:=off (.inl hd);have hc:0≤N8 S.w s→n<0:=fun h0=>by simp at hd;omega
  simp[hd];refine⟨hc,?_⟩;refine AY rfl ?_;simp;exact FZ rfl (by simp[hk]) (fun i p hi=>by simp[K3,hk])
 ·have hd:=Bool.eq_false_iff.2 hd;by_cases h2:S.most-S.used<n
  ·have hk:=off (.inr h2);simp[hd,h2,Al (n:=S.most-S.used) (by omega) (by omega)];refine AY rfl ?_;simp;exact FZ rfl (by simp[hk]) (fun i p hi=>by simp[K3,hk])
  ·simp[hd,h2,Al (n:=S.most-S.used) (by omega) (by omega)];refine Vb [S.a,iv s] rfl (fun _=>(RF S.w S.size S.most S.used s).toB rfl) (fun _=>by simp;exact⟨jC,Ad rfl⟩) (by simp) ?_;have hd':0≤N8 S.w s∧0≤n:=by simp at hd;exact hd
   have hin:0≤s∧s<S.w.length:=by
    refine Decidable.byContradiction fun e=>?_;have:=hd'.1;simp[N8,e] at this
   have hz:N8 S.w s=szAt S.w s:=by simp[N8,hin]
   simp[Al (n:=S.size-N8 S.w s) (by omega) (by omega)];refine⟨fun hc=>?_,fun hc=>?_⟩
   ·have hk:VO S s n=false:=by simp only[VO,decide_eq_false_iff_not];omega
    exact FZ rfl (by simp[hk]) (fun i p hi=>by simp[K3,hk])
   ·have hlt0:s<S.l.length:=by simpa[Ar.w] using hin.2
    have hk:VO S s n=true:=by simp only[VO,decide_eq_true_eq];exact⟨hin.1,hlt0,hd'.2,by omega,by omega⟩
    obtain⟨k,rfl⟩:=Int.eq_ofNat_of_zero_le hin.1;obtain⟨m,rfl⟩:=Int.eq_ofNat_of_zero_le hd'.2;have hlt:k<S.l.length:=by omega
    have hz2:(Go.Proofs.YtbjmaoedheiigaaGreat.szAt S.w k:Int)=S.l[k].2.length:=OL hlt;refine ZK (r:=0) (Zl S k m S.l[k] (List.getElem?_eq_getElem hlt) (by omega) (by omega) o1 (by omega)) (fun p=>rfl) rfl (fun _ _=>rfl) (fun _=>⟨trivial,trivial,trivial⟩) (fun _ _=>rfl) (fun _=>trivial) (by simp) ?_;simp;refine FZ rfl ?_ (fun i p hi=>?_)
    ·simp[hk,hz2]
    ·simp[K3,hk]
def Dk (S:Ar) (n:Int):Ar:=if Dq S n=true then Mj (JF S n) ((JF S n).l.length-1) n.toNat else S
theorem dw {n:Nat} {w0:World} {I0:Nat→Prop} {M0:Nm→Nat→Prop} {m0:Mu} {S:Ar} {k m:Nat} (hk:k<S.l.length) (h0:0≤S.used) (h1:S.used+m≤131072) (h2:(S.l[k].2.length:Int)≤S.used) (hl:S.l.length≤16) {r:A} {Hr:Hp} {z:Int} (hz:z=(k:Int)+1)
  {G:Hp} (hG:∀ o,G o=ov 0 (H6 0 S) (EH []) o) (hr:r = .tup [iv k,iv S.l[k].2.length]) (hH:Hr=ov 0 (H6 0 (Mj S k m)) (EH [])) :
  WPC (DG Tryz.prog w0 I0 M0 n m0) Cb (Nt (DG Tryz.prog w0 I0 M0 n m0) [.tmp 4,.tmp 5] 1 r Hr) ⟨lk [(0,.pob [0] S.u 0),(1,iv m),(6,iv z)],G⟩:=by
 have hG:=funext hG;subst hr hH hG;unfold Cb;have e1:i64.wrap (z-1)=(k:Int):=(Al (n:=z-1) (by omega) (by omega)).trans (by omega);simp[e1];refine ZK (r:=0) (Zl S k m S.l[k] (List.getElem?_eq_getElem hk) (by omega) (by omega) h0 (by omega)) (fun p=>rfl) rfl (fun _ _=>rfl) (fun _=>⟨trivial,trivial,trivial⟩) (fun _ _=>rfl) (fun _=>trivial) (by simp) ?_;simp[e1];exact FZ rfl rfl (fun i p hi=>rfl)
set_option pp.deepTerms true in
set_option pp.maxSteps 1000000 in
theorem ij (S:Ar) (h:S.Ok) (n:Int):Jc Tryz.prog 104 1 [.pob [0] S.u 0,iv n] (ov 0 (H6 0 S) (EH []))
  (.tup [iv (if Dq S n=true then ((JF S n).l.length:Int)-1 else -1),iv (if Dq S n=true then (szAt (JF S n).w (((JF S n).l.length:Int)-1):Int) else -1)]) (ov 0 (H6 0 (Dk S n)) (EH [])):=by
 refine Jf Mz (by simp) fun w0 I0 M0 m0=>?_;unfold Hj;have o1:=h.used0;have o2:=h.used1;have o3:=h.most1;have o4:=h.len;have oz0:=h.size0;have oz1:=h.size1;have oz:=h.szAt ((S.l.length:Int)-1);by_cases hn:n<0
 ·have hk:Dq S n=false:=by simp only[Dq,decide_eq_false_iff_not];omega
  simp[hn];exact FZ rfl (by simp[hk]) (fun i p hi=>by simp[Dk,hk])
 by_cases hu:S.most-S.used<n
 ·have hk:Dq S n=false:=by simp only[Dq,decide_eq_false_iff_not];omega
  simp[hn,hu,Al (n:=S.most-S.used) (by omega) (by omega)];exact FZ rfl (by simp[hk]) (fun i p hi=>by simp[Dk,hk])
 have hk:Dq S n=true:=by simp only[Dq,decide_eq_true_eq];omega
 obtain⟨m,rfl⟩:=Int.eq_ofNat_of_zero_le (show 0≤n by omega);have hmm:((m:Int)).toNat=m:=by omega
 have new:HV S m=true→∀ G:Hp,(∀ o,G o=ov 0 (H6 0 (EK S)) (EH []) o)→WPC (DG Tryz.prog w0 I0 M0 64 m0) Cb (Nt (DG Tryz.prog w0 I0 M0 64 m0) [.tmp 4,.tmp 5] 1 (A.tup
     [iv (if Dq S m=true then ((JF S m).l.length:Int)-1 else -1),iv (if Dq S m=true then (szAt (JF S m).w (((JF S m).l.length:Int)-1):Int) else -1)]) (ov 0 (H6 0 (Dk S m)) (EH []))) ⟨lk [(0,.pob [0] S.u 0),(1,iv m),(6,iv ((S.l.length:Int)+1))],G⟩:=fun hs G hG=>by
  have hat:JF S m=EK S:=by simp[JF,hs]
  have hl:(EK S).l.length=S.l.length+1:=by simp[EK]
  have hlt:S.l.length<(EK S).l.length:=by omega
  have hg:(EK S).l[S.l.length].2=[]:=by simp[EK]
  have hx:(EK S).l.length≤16:=by
   have:=(qX h m).len
   rwa [hat] at this
  refine dw (S:=EK S) (k:=S.l.length) (m:=m) hlt (by simpa[EK] using o1) (by simp only[EK];omega) (by rw[hg];simpa[EK] using o1) hx rfl hG ?_ ?_
  ·have hz:=OL hlt;rw[hat,hk,hl];simp only[if_true];rw[show((S.l.length+1:Nat):Int)-1=(S.l.length:Int) from by omega,hz]
  ·rw[Dk,hk,if_pos rfl,hat,hl,hmm];rfl
 have old:HV S m=false→WPC (DG Tryz.prog w0 I0 M0 64 m0) Cb (Nt (DG Tryz.prog w0 I0 M0 64 m0) [.tmp 4,.tmp 5] 1 (A.tup
     [iv (if Dq S m=true then ((JF S m).l.length:Int)-1 else -1),iv (if Dq S m=true then (szAt (JF S m).w (((JF S m).l.length:Int)-1):Int) else -1)]) (ov 0 (H6 0 (Dk S m)) (EH []))) ⟨lk [(0,.pob [0] S.u 0),(1,iv m),(6,iv (S.l.length:Int))],ov 0 (H6 0 S) (EH [])⟩:=fun hs=>by
  have hat:JF S m=S:=by simp[JF,hs]
  have h0:S.l.length ≠ 0:=fun e=>by simp[HV,e] at hs
  have ec:(S.l.length:Int)-1=((S.l.length-1:Nat):Int):=by omega
  have hlt:S.l.length-1<S.l.length:=by omega
  rw[hat,hk,ec];refine dw (S:=S) (k:=S.l.length-1) (m:=m) hlt o1 (by omega) (h.seg _ (Bg _)) o4 (by omega) (fun o=>rfl) ?_ ?_
  ·simp only[if_true];rw[OL hlt]
  ·rw[Dk,hk,if_pos rfl,hat,hmm]
 have e7:i64.wrap S.l.length=S.l.length:=BJ;have e8:i64.wrap ((S.l.length:Int)+1)=(S.l.length:Int)+1:=BJ;have e9:i64.wrap ((S.l.length:Int)-1)=(S.l.length:Int)-1:=BJ;have e10:i64.wrap (S.most-S.used)=S.most-S.used:=BJ;have hm0:decide ((m:Int)<0)=false:=by simp
 have hu':¬ S.most-S.used<(m:Int):=hu;by_cases h0:S.l.length=0
 ·have hs:HV S m=true:=by simp[HV,h0]
  simp[hm0,hu',e10,h0];refine AY rfl ?_;simp[Aa];refine⟨by omega,?_⟩;have e12:A.v (Value.int i64 (i64.wrap 1))=iv ((S.l.length:Int)+1):=by
   rw[h0];rfl
  rw[e12];obtain⟨G,g1,g2⟩:=mB (c:=DG Tryz.prog w0 I0 M0 64 m0) (s:=lk [(0,.pob [0] S.u 0),(1,iv m),(6,iv ((S.l.length:Int)+1))]) (S:=S);exact Cm g1 (CQ (new hs G g2))
 ·have hz:N8 S.w ((S.l.length:Int)-1)=szAt S.w ((S.l.length:Int)-1):=by simp[N8,Ar.w];omega
  simp[hm0,hu',e10,h0,e9];refine Vb [S.a,iv ((S.l.length:Int)-1)] rfl (fun _=>(RF S.w S.size S.most S.used _).toB rfl) (fun _=>by simp;exact⟨jC,Ad rfl⟩) (by simp) ?_;rw[hz];have e11:i64.wrap (S.size-szAt S.w ((S.l.length:Int)-1))=S.size-szAt S.w ((S.l.length:Int)-1):=BJ;by_cases hr:(m:Int)≤S.size-szAt S.w ((S.l.length:Int)-1)
  ·have hs:HV S m=false:=by simp[HV,h0,hr]
   have hr':¬ S.size-szAt S.w ((S.l.length:Int)-1)<(m:Int):=by omega
   simp[e11,hr'];exact CQ (old hs)
  ·have hr':S.size-szAt S.w ((S.l.length:Int)-1)<(m:Int):=by omega
   by_cases h16:S.l.length<16
   ·have hs:HV S m=true:=by simp[HV,h0,hr,h16]
    have h16':(S.l.length:Int)<16:=by omega
    simp[e11,hr',h16',Aa,e8];refine⟨by omega,?_⟩;obtain⟨G,g1,g2⟩:=mB (c:=DG Tryz.prog w0 I0 M0 64 m0) (s:=lk [(0,.pob [0] S.u 0),(1,iv m),(6,iv ((S.l.length:Int)+1))]) (S:=S);exact Cm g1 (CQ (new hs G g2))
   ·have hs:HV S m=false:=by simp[HV,h0,hr,h16]
    have h16':¬ (S.l.length:Int)<16:=by omega
    simp[e11,hr',h16'];exact CQ (old hs)
theorem o8 (z m:Int):Jc Tryz.prog 54 1 [iv z,iv m] (EH []) (.pob [0] 1 0) (ov 0 (H6 0 (Lr z m)) (EH [])):=by
 refine Jf Uy (by simp) fun w0 I0 M0 m0=>?_;unfold MW;have key:∀ a b:Int,a=max z 1→b=min (max m 0) 131072→Nt (DG Tryz.prog w0 I0 M0 15 m0) [.tmp 4] 1 (.pob [0] 1 0) (ov 0 (H6 0 (Lr z m)) (EH [])) .ret ⟨lk [(4,.pob [0] 1 0)],EH [([0],⟨1,.cells [.sl true [],iv a,iv b,iv 0]⟩)]⟩:=by
  rintro a b rfl rfl;refine PT (Bu (d:=[0]) 0 [0,0] 1 rfl rfl (by simp)) ?_;simp;refine FZ rfl rfl (fun i p hi=>?_);have hi0:i=0:=by omega
  subst hi0;simp only[Pk,lI,AZ,if_true]
  match p with
  |[]=>rfl
  |[0]=>rfl
  |[0,i]=>rfl
  |(a+1)::q=>rfl
  |0::a::b::q=>rfl
 by_cases h1:z<1
 ·simp[h1];rw[HY.eq_1];by_cases h2:m<0
  ·simp[h2];rw[DT.eq_1];simp;exact key 1 0 (by omega) (by omega)
  ·simp[h2];rw[DT.eq_1];by_cases h3:131072<m
   ·simp[h3];exact key 1 131072 (by omega) (by omega)
   ·simp[h3];exact key 1 m (by omega) (by omega)
 ·simp[h1];rw[HY.eq_1];by_cases h2:m<0
  ·simp[h2];rw[DT.eq_1];simp;exact key z 0 (by omega) (by omega)
  ·simp[h2];rw[DT.eq_1];by_cases h3:131072<m
   ·simp[h3];exact key z 131072 (by omega) (by omega)
   ·simp[h3];exact key z m (by omega) (by omega)
abbrev zs:List A:=[iv 0,iv 0,iv 0,iv 0,iv 0,iv 0,iv 0,bv false,iv 0,iv 0]
end Go.Proofs.YtbjmaoedheiigaaGreat
namespace Go.Proofs.YtbjmaoedheiigaaGreat
open Go Go.G Go.Proofs Go.PL
structure Rf where
 kind:Int
 s:Int
 at_:Int
 data:Int
 kids:Int
 count:Int
 n:Int
def Rf.zero:Rf:=⟨0,0,0,0,0,0,0⟩
def nk (r:Rf):Int:=if r.kind=1 then r.kids else r.count
def Xm (l:List (List Int)) (s a m:Int):Rf × Int:=
 if ((Dd l s a).getD 0 ≠ 0∧(Fz ((Dd l s a).getD 0)).kind ≠ 1)∨(Fz ((Dd l s a).getD 0)).off<0∨m<(Fz ((Dd l s a).getD 0)).off*((Fz ((Dd l s a).getD 0)).data+(Fz ((Dd l s a).getD 0)).ptrs) then (Rf.zero,8)
 else (⟨9,s,a+1,(Fz ((Dd l s a).getD 0)).data,(Fz ((Dd l s a).getD 0)).ptrs,(Fz ((Dd l s a).getD 0)).off,0⟩,0)
def cT (l:List (List Int)) (x:Lc):Rf × Int:=
 if x.p.kind=1 then (⟨1,x.s,x.at_,x.p.data,x.p.ptrs,0,0⟩,0)
 else if x.p.code<7 then (⟨2+x.p.code,x.s,x.at_,0,0,x.p.count,0⟩,0)
 else Xm l x.s x.at_ x.p.count
def Oi (l:List (List Int)) (s a:Int):Rf × Int:=
 if (C0 l s a).2 ≠ 0∨(C0 l s a).1.p.kind=0 then (Rf.zero,(C0 l s a).2) else cT l (C0 l s a).1
def Uo (g:List Int) (c i:Int):Int:=
 if AD c<1∨i<0∨1099511627776<i then 0 else ((g[(i*AD c / 64).toNat]?).getD 0) / 2 ^ (i*AD c % 64).toNat % 2 ^ (AD c).toNat
def U1 (l:List (List Int)) (r:Rf) (i:Int):Int:=Uo (((seg l r.s).getD []).drop r.at_.toNat) (r.kind-2) i
def CZ (l:List (List Int)) (r:Rf) (i:Int):Rf × Int:=
 if i<0∨nk r≤i then (Rf.zero,0)
 else if r.kind=1 then Oi l r.s (r.at_+r.data+i)
 else if r.kind=8 then Oi l r.s (r.at_+i)
 else if r.kind=9 then (⟨1,r.s,r.at_+i*(r.data+r.kids),r.data,r.kids,0,0⟩,0)
 else (⟨10,0,0,0,0,0,U1 l r i⟩,0)
def E7 (l:List (List Int)) (r:Rf):List Int:=if r.kind=10 then [r.n] else if r.kind ≠ 1 then [] else part l r.s r.at_ r.data
inductive J4 (l:List (List Int)):Rf→Prop
 |zero:J4 l Rf.zero
 |str (s a d k:Int):0≤d→d<65536→0≤k→k<65536→Im l s a (d+k)=true→J4 l ⟨1,s,a,d,k,0,0⟩
 |dat (c s a n:Int):0≤c→c<6→0≤n→n<536870912→Im l s a ((n*KH c+63) / 64)=true→J4 l ⟨2+c,s,a,0,0,n,0⟩
 |ptrs (s a n:Int):0≤n→n<536870912→Im l s a n=true→J4 l ⟨8,s,a,0,0,n,0⟩
 |comp (s a d k n:Int):0≤d→d<65536→0≤k→k<65536→0≤n→n<536870912→Im l s a (n*(d+k))=true→J4 l ⟨9,s,a,d,k,n,0⟩
 |atom (n:Int):0≤n→n<18446744073709551616→J4 l ⟨10,0,0,0,0,0,n⟩
structure Shp (p:Pt):Prop where
 k1:p.kind=1→0≤p.data∧p.data<65536∧0≤p.ptrs∧p.ptrs<65536
 k2:p.kind=2→0≤p.code∧p.code<8∧0≤p.count∧p.count<536870912
 k:p.kind=0∨p.kind=1∨p.kind=2∨p.kind=3∨p.kind=4
theorem Sy {w:Int} (h0:0≤w) (h1:w<18446744073709551616):Shp (Fz w):=by
 unfold Fz
 repeat' split
 all_goals refine⟨?_,?_,?_⟩
 all_goals simp
 all_goals omega
def qV (l:List (List Int)) (x:Lc × Int):Prop:=x.2=0→x.1.p.kind=0∨((x.1.p.kind=1∨x.1.p.kind=2)∧Shp x.1.p∧Im l x.1.s x.1.at_ ((EE x.1.p).getD 0)=true)
theorem UJ {l:List (List Int)} {x:Lc} (h:x.p.kind=1∨x.p.kind=2) (hs:Shp x.p):qV l (FE l x):=by
 unfold FE;split
 ·rename_i hh;intro _;exact .inr ⟨h,⟨hs.k1,hs.k2,hs.k⟩,hh⟩
 ·intro h;cases h
theorem Y2 {l:List (List Int)} {p:Pt} {s a:Int} (hs:Shp p):qV l (Kk l p s a):=by
 unfold Kk;split
 ·exact UJ (by assumption) hs
 ·split<;>(intro h;cases h)
theorem fy {l:List (List Int)} (hw:oZ l) (s a:Int):qV l (HD l s a):=by
 unfold HD;split
 ·rename_i v w h1 h2;obtain⟨a1,a2⟩:=HT hw h2;have hs:=Sy a1 a2
  repeat' split
  all_goals first
   |(intro h;cases h;done)
   |skip
  refine UJ ?_ hs;simp only;omega
 ·intro h;cases h
theorem Va {l:List (List Int)} (hw:oZ l) (s a:Int):qV l (C0 l s a):=by
 unfold C0;split
 ·intro h;cases h
 ·rename_i w h1;obtain⟨a1,a2⟩:=HT hw h1;split
  ·intro _;exact .inl rfl
  ·split
   ·exact Y2 (Sy a1 a2)
   ·split
    ·exact fy hw _ _
    ·split
     ·intro h;cases h
     ·rename_i v h2;obtain⟨b1,b2⟩:=HT hw h2;exact Y2 (Sy b1 b2)
theorem iX {p:Pt} (h:p.kind=1):EE p=some (p.data+p.ptrs):=by simp[EE,h]
theorem X9 {p:Pt} (h:p.kind=2) (hs:Shp p) (h6:p.code<7):EE p=some ((p.count*KH p.code+63) / 64):=by
 obtain⟨a,b,c,d⟩:=hs.k2 h;rw[EE,if_neg (by omega),if_neg (by omega),if_pos (by omega)]
theorem Vf {p:Pt} (h:p.kind=2) (h7:p.code=7):EE p=some (p.count+1):=by simp[EE,h,h7]
theorem ZN {a b c:Int} (h:a≤b) (hc:0≤c):a*c≤b*c:=Int.mul_le_mul_of_nonneg_right h hc
theorem Yh {l:List (List Int)} {s a n b m:Int} (h:Im l s a n=true) (h1:a≤b) (h2:0≤m) (h3:b+m≤a+n):Im l s b m=true:=by
 simp only[Im,decide_eq_true_eq] at h ⊢;omega
theorem qT {w:Int} (h0:0≤w) (h1:w<18446744073709551616):(Fz w).off<536870912:=by
 have:=(mf w).2.1;unfold Fz
 repeat' split
 all_goals simp
 all_goals omega
theorem wG {l:List (List Int)} (hw:oZ l) {s a m:Int} (h:Im l s a (m+1)=true):J4 l (Xm l s a m).1:=by
 unfold Xm;have h0:0≤(Dd l s a).getD 0∧(Dd l s a).getD 0<18446744073709551616:=by
  cases e:Dd l s a with
  |none=>simp
  |some x=>exact HT hw e
 generalize (Dd l s a).getD 0=w at h0;have hs:=Sy h0.1 h0.2;have ho:=Wj h0.1 h0.2;have ho':=qT h0.1 h0.2;split
 ·exact .zero
 ·rename_i hc;have hk:(Fz w).kind=1∨Fz w=Pt.zero:=by
   by_cases hw0:w=0
   ·subst hw0;exact .inr rfl
   ·left;omega
  have hd:0≤(Fz w).data∧(Fz w).data<65536∧0≤(Fz w).ptrs∧(Fz w).ptrs<65536:=by
   rcases hk with hk | hk
   ·exact hs.k1 hk
   ·rw[hk];decide
  refine .comp _ _ _ _ _ hd.1 hd.2.1 hd.2.2.1 hd.2.2.2 (by omega) (by omega) (Yh h (by omega) ?_ (by omega));exact Int.mul_nonneg (by omega) (by omega)
theorem zl {l:List (List Int)} (hw:oZ l) {x:Lc} (hk:x.p.kind=1∨x.p.kind=2) (hs:Shp x.p) (h:Im l x.s x.at_ ((EE x.p).getD 0)=true):J4 l (cT l x).1:=by
 unfold cT;split
 ·rename_i k1;obtain⟨a,b,c,d⟩:=hs.k1 k1;rw[iX k1] at h;exact .str _ _ _ _ a b c d h
 ·rename_i k1;have k2:x.p.kind=2:=by omega
  obtain⟨a,b,c,d⟩:=hs.k2 k2;split
  ·rename_i h7;rw[X9 k2 hs h7] at h;by_cases h6:x.p.code=6
   ·rw[h6] at h ⊢;refine .ptrs _ _ _ c d (Yh h (Int.le_refl _) c ?_);have e:KH 6=64:=by decide
    simp only[Option.getD_some,e];omega
   ·exact .dat _ _ _ _ a (by omega) c d h
  ·rw[Vf k2 (by omega)] at h;exact wG hw h
theorem rJ {l:List (List Int)} (hw:oZ l) (s a:Int):J4 l (Oi l s a).1:=by
 unfold Oi;split
 ·exact .zero
 ·rename_i h;rcases Va hw s a (by omega) with h0 | ⟨h1,h2,h3⟩
  ·omega
  ·exact zl hw h1 h2 h3
theorem i6 {g:List Int} {c i:Int} (hg:∀ x,x ∈ g→0≤x∧x<18446744073709551616):0≤Uo g c i∧Uo g c i<18446744073709551616:=by
 unfold Uo;split
 ·omega
 ·have h0:0≤(g[(i*AD c / 64).toNat]?).getD 0∧(g[(i*AD c / 64).toNat]?).getD 0<18446744073709551616:=by
   cases e:g[(i*AD c / 64).toNat]? with
   |none=>simp
   |some x=>exact hg x (List.mem_of_getElem? e)
  generalize (g[(i*AD c / 64).toNat]?).getD 0=x at h0;have p1:(0:Int)<2 ^ (i*AD c % 64).toNat:=Int.pow_pos (by omega);have p2:(0:Int)<2 ^ (AD c).toNat:=Int.pow_pos (by omega);have d0:0≤x / 2 ^ (i*AD c % 64).toNat:=Int.ediv_nonneg h0.1 (by omega);have d1:x / 2 ^ (i*AD c % 64).toNat≤x:=Int.ediv_le_self _ h0.1;have m0:=Int.emod_nonneg (x / 2 ^ (i*AD c % 64).toNat) (by omega:(2:Int) ^ (AD c).toNat ≠ 0);have m1:x / 2 ^ (i*AD c % 64).toNat % 2 ^ (AD c).toNat≤x / 2 ^ (i*AD c % 64).toNat:=by
   rw[Int.emod_def];have:=Int.mul_nonneg (a:=2 ^ (AD c).toNat) (b:=x / 2 ^ (i*AD c % 64).toNat / 2 ^ (AD c).toNat) (by omega) (Int.ediv_nonneg d0 (by omega));omega
  omega
theorem rn {l:List (List Int)} (hw:oZ l) {r:Rf} (hr:J4 l r) (i:Int):J4 l (CZ l r i).1:=by
 unfold CZ;split
 ·exact .zero
 ·rename_i hi;cases hr with
  |zero=>simp[nk,Rf.zero] at hi;omega
  |str s a d k a1 a2 a3 a4 h=>simp;exact rJ hw _ _
  |dat c s a n a1 a2 a3 a4 h=>
   simp;rw[if_neg (by omega),if_neg (by omega),if_neg (by omega)];have:=i6 (g:=((seg l s).getD []).drop a.toNat) (c:=2+c-2) (i:=i) (fun x hx=>by
    cases e:seg l s with
    |none=>rw[e] at hx;simp at hx
    |some g=>
     rw[e] at hx;obtain⟨_,_,k1,rfl⟩:=OC e;exact hw _ (Bg k1) _ (TK hx))
   exact .atom _ this.1 this.2
  |ptrs s a n a1 a2 h=>simp;exact rJ hw _ _
  |comp s a d k n a1 a2 a3 a4 a5 a6 h=>
   simp[nk] at hi ⊢;refine .str _ _ _ _ a1 a2 a3 a4 (Yh h ?_ (by omega) ?_)
   ·have:=Int.mul_nonneg (by omega:0≤i) (by omega:0≤d+k);omega
   ·have h1:(i+1)*(d+k)≤n*(d+k):=ZN (by omega) (by omega);rw[Int.add_mul] at h1;omega
  |atom n a1 a2=>simp[nk] at hi;omega
inductive AA (l:List (List Int)):Rf→T→Prop
 |mk (r:Rf) (t:T):J4 l r→r.kind=t.kind→E7 l r=t.words→nk r=t.kids.length→(∀ (i:Nat) (h:i<t.kids.length),(CZ l r i).2=0)→(∀ (i:Nat) (h:i<t.kids.length),AA l (CZ l r i).1 t.kids[i])→AA l r t
def MX (f:Nat→Int→T × Int × Int):Nat→Nat→List T→Int→List T × Int × Int
 |0,_,acc,left=>(acc,left,0)
 |m+1,i,acc,left=>if (f i left).2.2 ≠ 0 then (acc,(f i left).2.1,(f i left).2.2) else MX f m (i+1) (acc++[(f i left).1]) (f i left).2.1
def dG (r:Rf):Int:=if r.kind=1 then 1+r.data+r.kids else if r.kind=9 then 1+r.count*(1+r.data+r.kids) else 1+nk r
def Sr (l:List (List Int)) (rec:Rf→Int→T × Int × Int) (r:Rf) (i:Nat) (left:Int):T × Int × Int:=
 if (CZ l r i).2 ≠ 0 then (T0,left,(CZ l r i).2) else rec (CZ l r i).1 left
def mM (l:List (List Int)) (rec:Rf→Int→T × Int × Int) (r:Rf) (left:Int):T × Int × Int:=
 (.mk 1 (E7 l r) (MX (Sr l rec r) r.kids.toNat 0 [] left).1,(MX (Sr l rec r) r.kids.toNat 0 [] left).2.1,(MX (Sr l rec r) r.kids.toNat 0 [] left).2.2)
def QC (l:List (List Int)) (r:Rf) (left:Int):T × Int × Int:=(.mk r.kind (E7 l r) [],left,0)
def dK (l:List (List Int)) (r:Rf) (rec1 rec2:Rf→Int→T × Int × Int) (left:Int):T × Int × Int:=
 (.mk r.kind (E7 l r) (MX (Sr l (if r.kind=9 then mM l rec2 else if r.kind=1∨r.kind=8 then rec1 else QC l) r) (nk r).toNat 0 [] (left-dG r)).1,
  (MX (Sr l (if r.kind=9 then mM l rec2 else if r.kind=1∨r.kind=8 then rec1 else QC l) r) (nk r).toNat 0 [] (left-dG r)).2.1,
  (MX (Sr l (if r.kind=9 then mM l rec2 else if r.kind=1∨r.kind=8 then rec1 else QC l) r) (nk r).toNat 0 [] (left-dG r)).2.2)
def Tm (l:List (List Int)) (r:Rf) (left:Int):T × Int × Int:=(.mk r.kind (E7 l r) [],left,3)
def GV (l:List (List Int)):Nat→Rf→Int→T × Int × Int
 |0,r,left=>if r.kind=0 then QC l r left else Tm l r left
 |1,r,left=>if r.kind=0 then QC l r left else if r.kind=9∧0<r.count then Tm l r left else if left<dG r then Tm l r left
  else dK l r (GV l 0) (fun r left=>Tm l r left) left
 |d+2,r,left=>if r.kind=0 then QC l r left else if left<dG r then Tm l r left else dK l r (GV l (d+1)) (GV l d) left
theorem gO {f:Nat→Int→T × Int × Int}:∀ {m i:Nat} {acc:List T} {left:Int},(MX f m i acc left).2.2=0→∃ ks:List T,(MX f m i acc left).1=acc++ks∧ks.length=m∧∀ (j:Nat) (h:j<ks.length),∃ lf,(f (i+j) lf).2.2=0∧(f (i+j) lf).1=ks[j]
 |0,i,acc,left,h=>⟨[],by simp[MX],rfl,fun j h=>by simp at h⟩
 |m+1,i,acc,left,h=>by
  rw[MX] at h ⊢;by_cases h0:(f i left).2.2 ≠ 0
  ·rw[if_pos h0] at h;exact absurd h h0
  ·rw[if_neg h0] at h ⊢;obtain⟨ks,e1,e2,e3⟩:=gO h;refine⟨(f i left).1::ks,by rw[e1];simp,by simp[e2],fun j hj=>?_⟩;cases j with
   |zero=>exact⟨left,by simpa using h0,rfl⟩
   |succ j=>
    obtain⟨lf,g1,g2⟩:=e3 j (by simpa using hj);refine⟨lf,?_,?_⟩
    ·rw[show i+(j+1)=i+1+j by omega];exact g1
    ·rw[show i+(j+1)=i+1+j by omega];simpa using g2
theorem UF {l:List (List Int)} {r:Rf} (h:J4 l r):0≤nk r∧nk r<536870912:=by
 cases h<;>simp[nk,Rf.zero]<;>omega
theorem XD {l:List (List Int)} (hw:oZ l) {r:Rf} (hr:J4 l r) {rec:Rf→Int→T × Int × Int} (hrec:∀ (i:Nat) left,i<nk r→(rec (CZ l r i).1 left).2.2=0→AA l (CZ l r i).1 (rec (CZ l r i).1 left).1) {k:Int} {left:Int} (hk:r.kind=k)
  (h:(MX (Sr l rec r) (nk r).toNat 0 [] left).2.2=0):AA l r (.mk k (E7 l r) (MX (Sr l rec r) (nk r).toNat 0 [] left).1):=by
 obtain⟨ks,e1,e2,e3⟩:=gO h;rw[e1];simp only[List.nil_append];have hn:=UF hr;refine .mk _ _ hr (by simpa using hk) rfl (by simp[e2];omega) (fun i hi=>?_) (fun i hi=>?_);all_goals
  simp only[T.kids_mk] at hi ⊢;obtain⟨lf,g1,g2⟩:=e3 i hi;simp only[Nat.zero_add] at g1 g2;unfold Sr at g1 g2;by_cases h0:(CZ l r i).2 ≠ 0
  ·rw[if_pos h0] at g1;exact absurd g1 h0
  ·rw[if_neg h0] at g1 g2;first
    |(simpa using h0)
    |(rw[← g2];exact hrec i _ (by omega) g1)
theorem NA {l:List (List Int)} {r:Rf} (hr:J4 l r) (h:r.kind=0∨r.kind=10) {left:Int}:AA l r (QC l r left).1:=by
 refine .mk _ _ hr rfl rfl ?_ (fun i hi=>by simp[QC] at hi) (fun i hi=>by simp[QC] at hi);cases hr<;>simp[QC,nk,Rf.zero] at h ⊢<;>omega
theorem sn {l:List (List Int)} {r:Rf} (hr:J4 l r) (h0:r.kind ≠ 0) (h1:r.kind ≠ 1) (h8:r.kind ≠ 8) (h9:r.kind ≠ 9) (i:Int):(CZ l r i).1.kind=0∨(CZ l r i).1.kind=10:=by
 unfold CZ;split
 ·exact .inl rfl
 ·exact .inr rfl
theorem Xs {l:List (List Int)} (hw:oZ l) {r:Rf} (hr:J4 l r) {rec1 rec2:Rf→Int→T × Int × Int} (h1:∀ x left,J4 l x→(rec1 x left).2.2=0→AA l x (rec1 x left).1)
  (h2:r.kind=9→0<r.count→∀ x left,J4 l x→(rec2 x left).2.2=0→AA l x (rec2 x left).1) {left:Int} (h:(dK l r rec1 rec2 left).2.2=0):AA l r (dK l r rec1 rec2 left).1:=by
 unfold dK at h ⊢;refine XD hw hr (fun i lf hi hq=>?_) rfl h;have hok:=rn hw hr (i:Int);by_cases h9:r.kind=9
 ·simp only[if_pos h9] at hq ⊢;have hk:nk r=r.count:=by simp[nk,h9]
  have hkid:CZ l r i=(⟨1,r.s,r.at_+i*(r.data+r.kids),r.data,r.kids,0,0⟩,0):=by
   rw[CZ,if_neg (by omega),if_neg (by omega),if_neg (by omega),if_pos h9]
  rw[hkid] at hq hok ⊢;unfold mM at hq ⊢;exact XD hw hok (fun j lf' hj hq'=>h2 h9 (by omega) _ _ (rn hw hok _) hq') rfl hq
 ·by_cases h18:r.kind=1∨r.kind=8
  ·simp only[if_neg h9,if_pos h18] at hq ⊢;exact h1 _ _ hok hq
  ·simp only[if_neg h9,if_neg h18] at hq ⊢;refine NA hok ?_;by_cases h0:r.kind=0
   ·cases hr<;>simp[nk,Rf.zero] at hi h0<;>omega
   ·exact sn hr h0 (by omega) (by omega) h9 i
theorem IP {l:List (List Int)} (hw:oZ l):∀ (d:Nat) (r:Rf) (left:Int),J4 l r→(GV l d r left).2.2=0→AA l r (GV l d r left).1
 |0,r,left,hr,h=>by
  rw[GV] at h ⊢;split at h
  ·rename_i h0;rw[if_pos h0];exact NA hr (.inl h0)
  ·exact absurd h (by simp[Tm])
 |1,r,left,hr,h=>by
  rw[GV] at h ⊢;split at h
  ·rename_i h0;rw[if_pos h0];exact NA hr (.inl h0)
  ·rename_i h0;split at h
   ·exact absurd h (by simp[Tm])
   ·rename_i h9;split at h
    ·exact absurd h (by simp[Tm])
    ·rename_i hc;rw[if_neg h0,if_neg h9,if_neg hc];exact Xs hw hr (fun x lf hx hq=>IP hw 0 x lf hx hq) (fun k9 hk=>absurd ⟨k9,hk⟩ h9) h
 |d+2,r,left,hr,h=>by
  rw[GV] at h ⊢;split at h
  ·rename_i h0;rw[if_pos h0];exact NA hr (.inl h0)
  ·rename_i h0;split at h
   ·exact absurd h (by simp[Tm])
   ·rename_i hc;rw[if_neg h0,if_neg hc];exact Xs hw hr (fun x lf hx hq=>IP hw (d+1) x lf hx hq) (fun k9 hk x lf hx hq=>IP hw d x lf hx hq) h
theorem Lj (c:Int):G.Spec Tryz.prog 109 [iv c] (iv (AD c)):=by
 refine Aj Rc (by simp) fun w0 I0=>?_;unfold Kz;by_cases h0:c=0
 ·subst h0;simp;exact AN rfl rfl
 by_cases h1:c=1
 ·subst h1;simp;exact AN rfl rfl
 by_cases h2:c=2
 ·subst h2;simp;exact AN rfl rfl
 by_cases h3:c=3
 ·subst h3;simp;exact AN rfl rfl
 by_cases h4:c=4
 ·subst h4;simp;exact AN rfl rfl
 by_cases h5:c=5
 ·subst h5;simp;exact AN rfl rfl
 simp[h0,h1,h2,h3,h4,h5];exact AN rfl (by simp[AD,h0,h1,h2,h3,h4,h5])
theorem Nh (c:Int):AD c = -1∨AD c=0∨AD c=1∨AD c=8∨AD c=16∨AD c=32∨AD c=64:=by
 unfold AD;repeat' split
 all_goals simp
variable {n0:Nat} {w0:World} {I0:Nat→Prop} {Q:Exit→Sta→Prop} {H:Hp}
theorem ra {w:Int} (hw:w≤64):∀ (m:Nat) (x i:Int),0≤x→x<18446744073709551616→0≤i→i+m=w→(∀ b,Q (.exit 0) ⟨lk [(1,uv (x / 2 ^ m)),(5,iv w),(6,iv w),(13,bv b)],H⟩) →
  LoopC (cx Tryz.prog w0 I0 n0) Fb Q ⟨lk [(1,uv x),(5,iv w),(6,iv i)],H⟩:=by
 intro m;induction m with
 |zero=>
  intro x i h0 h1 h2 h3 hq;have:i=w:=by simpa using h3
  subst this;refine Ab Ai Fb.eq_1 ?_;simp;simpa using hq _
 |succ m ih=>
  intro x i h0 h1 h2 h3 hq;refine Ab Ai Fb.eq_1 ?_;have hi:i<w:=by omega
  simp[hi];rw[Al (by omega) (by omega),Int.tdiv_eq_ediv_of_nonneg h0,AG (by omega) (by omega)];exact ih _ _ (by omega) (by omega) (by omega) (by omega) (by rw[dc];exact hq)
theorem Xw {c n:Int} (h:Bw n):G.Spec Tryz.prog 57 [iv c,uv n] (bv (JA c n)):=by
 refine Aj Tv (by simp) fun w0 I0=>?_;unfold Ln;simp;refine Ae (Lj c) rfl ?_;simp;have hw:=Nh c;refine⟨fun h0=>?_,fun h0=>?_⟩
 ·refine Bc ?_;simp[JA];omega
 ·refine ra (w:=AD c) (by omega) (AD c).toNat n 0 h.1 h.2 (by omega) (by omega) (fun b=>?_);simp;refine Bc ?_;simp[JA,h0]
theorem eI (c:Int):c9 c=if AD c<1 then 0 else AD c:=by
 unfold c9 AD;by_cases h0:c=0
 ·subst h0;rfl
 by_cases h1:c=1
 ·subst h1;rfl
 by_cases h2:c=2
 ·subst h2;rfl
 by_cases h3:c=3
 ·subst h3;rfl
 by_cases h4:c=4
 ·subst h4;rfl
 by_cases h5:c=5
 ·subst h5;rfl
 simp[h0,h1,h2,h3,h4,h5]
theorem jl (c n:Int):G.Spec Tryz.prog 65 [iv c,iv n] (iv (Ll c n)):=by
 refine Aj SF (by simp) fun w0 I0=>?_;unfold LP;simp;refine Ae (Lj c) rfl ?_;simp;have hw:=Nh c;have hb:=eI c;refine⟨fun h0=>?_,fun a1 a2 a3=>?_⟩
 ·refine CE ?_;unfold Ll;split
  ·rfl
  ·rw[hb,if_pos (by omega)];simp
 ·refine Ae (Lj c) rfl ?_;rw[if_neg (by omega)] at hb;have hw:AD c=1∨AD c=8∨AD c=16∨AD c=32∨AD c=64:=by omega
  have e:Ll c n=(n*AD c+63) / 64:=by unfold Ll;rw[if_neg (by omega),hb]
  rw[e];generalize AD c=w at *;simp;have hq:(64:Int).tdiv w=64 / w:=Int.tdiv_eq_ediv_of_nonneg (by omega);rcases hw with rfl | rfl | rfl | rfl | rfl;all_goals
   simp[hq,Int.tdiv_eq_ediv_of_nonneg a2,Int.tmod_eq_emod_of_nonneg a2];simp (disch:=omega) only[Al];simp;first
    |exact⟨fun h=>CE (by omega),fun h=>CE (by omega)⟩
    |exact CE (by omega)
theorem rk {a b:List Int} (hl:a.length=b.length) (hb:a.length*8≤140737488355328):∀ (m i:Nat),i+m=a.length→a.take i=b.take i→(a=b→∀ i q,Q (.exit 0) ⟨lk [(0,Dz a),(1,Dz b),(5,iv i),(14,bv q)],H⟩)→(a ≠ b→Q .ret ⟨lk [(4,bv false)],H⟩) →
  LoopC (cx Tryz.prog w0 I0 n0) E4 Q ⟨lk [(0,Dz a),(1,Dz b),(5,iv i)],H⟩:=by
 intro m;induction m with
 |zero=>
  intro i hi ht h1 h2;have:i=a.length:=by omega
  subst this;refine Ab Ai E4.eq_1 ?_;simp;refine h1 ?_ _ _;rw[AL (BZ _),AL (by omega)] at ht;exact ht
 |succ m ih=>
  intro i hi ht h1 h2;have hlt:i<a.length:=by omega
  have hlt':i<b.length:=by omega
  refine Ab Ai E4.eq_1 ?_;simp[hlt,hlt'];refine⟨fun he=>?_,fun hne=>h2 fun e=>hne (by subst e;rfl)⟩;rw[Al (by omega) (by omega)];refine ih (i+1) (by omega) ?_ h1 h2;rw[Fm hlt,Fm hlt',ht,he]
theorem Q2 (a b:List Int) (hb:a.length*8≤140737488355328):G.Spec Tryz.prog 38 [Dz a,Dz b] (bv (decide (a=b))):=by
 refine Aj So (by simp) fun w0 I0=>?_;unfold LN;simp;refine⟨fun h=>?_,fun h=>?_⟩
 ·refine rk (by omega) hb a.length 0 (by omega) rfl (fun e i q=>?_) (fun e=>?_)
  ·simp;refine Bc ?_;simp[e]
  ·simp;refine Bc ?_;simp[e]
 ·refine Bc ?_;have:¬ a=b:=fun e=>h (by rw[e]);simp[this]
theorem Xk (c:Int):G.Spec Tryz.prog 185 [iv c] (.tup [iv (if AD c<0 then 0 else AD c),bv (decide (0≤AD c))]):=by
 refine Aj aq (by simp) fun w0 I0=>?_;unfold Tz;by_cases h0:c=0
 ·subst h0;simp;exact AN rfl rfl
 by_cases h1:c=1
 ·subst h1;simp;exact AN rfl rfl
 by_cases h2:c=2
 ·subst h2;simp;exact AN rfl rfl
 by_cases h3:c=3
 ·subst h3;simp;exact AN rfl rfl
 by_cases h4:c=4
 ·subst h4;simp;exact AN rfl rfl
 by_cases h5:c=5
 ·subst h5;simp;exact AN rfl rfl
 have hd:(decide (c<0) || decide (6≤c))=true:=by simp;omega
 simp[hd];exact AN rfl (by simp[AD,h0,h1,h2,h3,h4,h5])
theorem uo {w:List Int} (hb:w.length*8≤140737488355328) (hq:∀ q,Q (.exit 0) ⟨lk [(0,Dz w),(3,iv (Cf w).length),(16,bv q)],H⟩):∀ (n:Nat),n≤w.length→Cf (w.take n)=Cf w →
  LoopC (cx Tryz.prog w0 I0 n0) E8 Q ⟨lk [(0,Dz w),(3,iv n)],H⟩:=by
 intro n;induction n with
 |zero=>
  intro hn ht;refine Ab Ai E8.eq_1 ?_;simp;have e:(Cf w).length=0:=by rw[← ht];rfl
  have:=hq false;rw[e] at this;exact this
 |succ n ih=>
  intro hn ht;have hlt:n<w.length:=by omega
  have e:i64.wrap (n:Int)=n:=BJ;refine Ab Ai E8.eq_1 ?_;by_cases h0:w[n]=0
  ·simp[e,hlt,h0];exact ih (by omega) (by rw[← QH hlt h0];exact ht)
  ·have e2:(Cf w).length=n+1:=by rw[← ht,RB hlt h0];simp;omega
   have:=hq false;rw[e2] at this;simp[e,hlt,h0];simpa using this
theorem jf (w:List Int) (hb:w.length*8≤140737488355328):G.Spec Tryz.prog 64 [Dz w] (Dz (Cf w)):=by
 refine Aj RY (by simp) fun w0 I0=>?_;unfold LV;simp;refine uo hb (fun q=>?_) w.length (BZ _) (by rw[AL (BZ _)]);have hl:=KL w;have hb':(Cf w).length*8≤140737488355328:=by omega
 simp[hl];refine⟨hb',?_⟩;rw[← List.map_take,← Rs];exact Bx (by simp) rfl (by simp)
abbrev O8 (l:List Int):List A:=l.map u8
def Ed:Nat→Int→List Int
 |0,_=>[]
 |m+1,x=>x % 256::Ed m (x / 256)
@[simp] theorem Qt:∀ (m:Nat) (x:Int),(Ed m x).length=m
 |0,_=>rfl
 |m+1,x=>by simp[Ed,Qt m]
theorem X1 {l:List Int} {i:Nat} {v:Int} (h:i<l.length):splice (l.map u8) i [u8 v]=(l.set i v).map u8:=by
 apply List.ext_getElem?;intro j;simp only[splice,List.length_singleton];rw[List.append_assoc,List.map_set];by_cases h1:j<i
 ·rw[List.getElem?_append_left (by simp;omega),List.getElem?_take,if_pos h1,List.getElem?_set_ne (by omega)]
 ·rw[List.getElem?_append_right (by simp;omega)];have e:(List.take i (l.map u8)).length=i:=by simp;omega
  rw[e];by_cases h2:j=i
  ·subst h2;rw[List.getElem?_set_self (by simpa using h)];simp
  ·rw[List.getElem?_set_ne (by omega),List.getElem?_append_right (by simp;omega),List.getElem?_drop];congr 1;simp;omega
theorem o0 (a:List A) (x v:A) (b:List A):splice (a++x::b) a.length [v]=a++v::b:=by simp[splice]
section
variable {n0:Nat} {w0:World} {I0:Nat→Prop} {Q:Exit→Sta→Prop}
theorem oB:∀ (m:Nat) (i:Nat) (x:Int) (d:List Int) (H:Hp),0≤x→x<18446744073709551616→i+m=8→d.length=i→H [1]=⟨1,.cells (O8 (d++List.replicate m 0))⟩→H [0]=⟨1,.cells (O8 (List.replicate 8 0))⟩ →
  (∀ x' q H',H' [1]=⟨1,.cells (O8 (d++Ed m x))⟩→H' [0]=⟨1,.cells (O8 (List.replicate 8 0))⟩→Q (.exit 0) ⟨lk [(0,uv x'),(2,.pob [0] 1 0),(3,.pob [1] 1 0),(4,iv 8),(7,bv q)],H'⟩) →
  LoopC (cx Tryz.prog w0 I0 n0) Es Q ⟨lk [(0,uv x),(2,.pob [0] 1 0),(3,.pob [1] 1 0),(4,iv i)],H⟩:=by
 intro m;induction m with
 |zero=>
  intro i x d H h0 h1 hi hd hH hH0 hq;have:i=8:=by omega
  subst this;refine Ab Ai Es.eq_1 ?_;simp;exact hq _ _ _ (by simpa[Ed] using hH) hH0
 |succ m ih=>
  intro i x d H h0 h1 hi hd hH hH0 hq;refine Ab Ai Es.eq_1 ?_;have hlt:(i:Int)<8:=by omega
  simp[hlt,hH];refine⟨by omega,?_⟩;have ht:x.tmod 256=x % 256:=Int.tmod_eq_emod_of_nonneg h0;have e8:IntKind.u8.wrap (x % 256)=x % 256:=by rw[IntKind.wrap_u8];omega
  rw[Int.tdiv_eq_ediv_of_nonneg h0,ht,AG (by omega) (by omega),e8,Al (by omega) (by omega)];refine ih (i+1) (x / 256) (d++[x % 256]) _ (by omega) (by omega) (by omega) (by simp[hd]) ?_ (by simp[Aa,hH0]) (fun x' q H' k1 k0=>hq x' q H' (by rw[k1];simp[Ed]) k0);simp[Aa];rw[List.replicate_succ,← hd];simpa using o0 (List.map u8 d) (u8 0) (u8 (x % 256)) (List.replicate m (u8 0))
end
def Bo (x:Int):List Int:=Ed 8 x
theorem Za {H:Hp} {l:List Int}:J3 H (.agg (O8 l)) (.agg (O8 l)):=Ad (by simp)
theorem LO {x:Int} (h:Bw x):G.Spec Tryz.prog 208 [uv x] (.agg (O8 (Bo x))):=by
 refine Aj QW (by simp) fun w0 I0=>?_;unfold KS;simp;refine oB 8 0 x [] _ h.1 h.2 rfl rfl (by simp) (by simp) (fun x' q H' h1 h0=>?_);have e:List.take 8 (O8 (Ed 8 x))=O8 (Ed 8 x):=AL (by simp);simp[h1,h0,Aa,e];exact⟨by simp[A.ones],Za⟩
theorem pc {k:Int} (hk:k≤8):∀ (m:Nat) (x i:Int),0≤x→x<256→0≤i→i+m=k→(∀ q,Q (.exit 0) ⟨lk [(0,u8 (x / 2 ^ m)),(1,iv k),(5,iv k),(8,bv q)],H⟩) →
  LoopC (cx Tryz.prog w0 I0 n0) Ep Q ⟨lk [(0,u8 x),(1,iv k),(5,iv i)],H⟩:=by
 intro m;induction m with
 |zero=>
  intro x i h0 h1 h2 h3 hq;have:i=k:=by simpa using h3
  subst this;refine Ab Ai Ep.eq_1 ?_;simp;simpa using hq _
 |succ m ih=>
  intro x i h0 h1 h2 h3 hq;refine Ab Ai Ep.eq_1 ?_;have hi:i<k:=by omega
  simp[hi];have e8:IntKind.u8.wrap (x / 2)=x / 2:=by rw[IntKind.wrap_u8];omega
  rw[Al (by omega) (by omega),Int.tdiv_eq_ediv_of_nonneg h0,e8];exact ih _ _ (by omega) (by omega) (by omega) (by omega) (by rw[dc];exact hq)
def Ix (x:Int) (i:Nat):Bool:=decide (x / 2 ^ i % 2=1)
theorem gS {x:Int} (h0:0≤x) (h1:x<256) {i:Nat} (hi:i≤8):G.Spec Tryz.prog 209 [u8 x,iv i] (bv (Ix x i)):=by
 refine Aj RE (by simp) fun w0 I0=>?_;unfold Kq;simp;refine pc (by omega) i x 0 h0 h1 (by omega) (by omega) (fun q=>?_);simp;refine Bc ?_;have:0≤x / 2 ^ i:=Int.ediv_nonneg h0 (Int.le_of_lt (Int.pow_pos (by decide)));rw[Int.tmod_eq_emod_of_nonneg this];rfl
def ie:List Int→Int
 |[]=>0
 |b::l=>b+256*ie l
theorem Pv:∀ (l:List Int),(∀ b,b ∈ l→0≤b∧b<256)→0≤ie l∧ie l<256 ^ l.length
 |[],_=>by simp[ie]
 |b::l,h=>by
  have h1:=h b (by simp);have h2:=Pv l fun x hx=>h x (by simp[hx]);simp only[ie,List.length_cons,Int.pow_succ];omega
theorem y6 {f:Bool} {l:List Int} (hl:l.length=8) (hr:∀ b,b ∈ l→0≤b∧b<256):∀ (m:Nat) (x j:Int),m≤8→x=ie (l.drop m)→j=(m:Int)-1→(∀ q,Q (.exit 0) ⟨lk [(0,.sl f (O8 l)),(1,iv 0),(5,uv (ie l)),(6,iv (-1)),(8,bv q)],H⟩) →
  LoopC (cx Tryz.prog w0 I0 n0) Gg Q ⟨lk [(0,.sl f (O8 l)),(1,iv 0),(5,uv x),(6,iv j)],H⟩:=by
 intro m;induction m with
 |zero=>
  intro x j hm hx hj hq;subst hx hj;refine Ab Ai Gg.eq_1 ?_;simp;simpa using hq false
 |succ m ih=>
  intro x j hm hx hj hq;subst hx hj;have hlt:m<l.length:=by omega
  have hd:=Pv (l.drop m) fun b hb=>hr b (TK hb);have hp:(256:Int) ^ (l.drop m).length≤18446744073709551616:=by
   have h2:=Int.ofNat_le.2 (Nat.pow_le_pow_right (n:=256) (by decide) (by simp;omega:(l.drop m).length≤8));rw[Int.natCast_pow] at h2;exact h2
  have e1:l.drop m=l[m]::l.drop (m+1):=List.drop_eq_getElem_cons hlt;have hb:=hr l[m] (Bg hlt);have ez:ie (l.drop m)=l[m]+256*ie (l.drop (m+1)):=by rw[e1,ie]
  have hd1:=Pv (l.drop (m+1)) fun b hb=>hr b (TK hb);refine Ab Ai Gg.eq_1 ?_;have em:i64.wrap (m:Int)=m:=BJ;have hm0:(0:Int)≤m:=by omega
  have hm8:(m:Int)<8:=by omega
  simp[em,hl,hm8,List.getElem?_eq_getElem hlt];have e64:u64.wrap l[m]=l[m]:=AG (by omega) (by omega);rw[e64,AG (n:=ie (List.drop (m+1) l)*256) (by omega) (by omega),AG (by omega) (by omega),Al (by omega) (by omega)];exact ih _ _ (by omega) (by rw[ez];omega) rfl hq
theorem sv {f:Bool} {l:List Int} (hl:l.length=8) (hr:∀ b,b ∈ l→0≤b∧b<256):G.Spec Tryz.prog 210 [.sl f (O8 l),iv 0] (uv (ie l)):=by
 refine Aj VN (by simp) fun w0 I0=>?_;unfold N4;simp;refine y6 hl hr 8 0 7 (BZ _) ?_ rfl (fun q=>?_)
 ·rw[List.drop_of_length_le (by omega)];rfl
 ·simp;exact Ad rfl
theorem Nu:∀ (m:Nat) (x:Int),∀ b,b ∈ Ed m x→0≤b∧b<256
 |m+1,x,b,h=>by
  rcases List.mem_cons.1 h with rfl | h
  ·omega
  ·exact Nu m _ b h
def Oc (a b:List Int) (mask:Int) (k:Nat):List Int:=(List.range k).map (fun i=>if Ix mask i=true then b.getD i 0 else a.getD i 0)++a.drop k
theorem Ov {a b:List Int} {mask:Int} {k:Nat} (h:k≤a.length):(Oc a b mask k).length=a.length:=by simp[Oc];omega
theorem nE {a b:List Int} {mask:Int} {k:Nat} (h:k<a.length):Oc a b mask (k+1)=if Ix mask k=true then (Oc a b mask k).set k (b.getD k 0) else Oc a b mask k:=by
 unfold Oc;rw[List.range_succ];have e0:a.drop k=a[k]::a.drop (k+1):=List.drop_eq_getElem_cons h;have e:((List.range k).map (fun i=>if Ix mask i=true then b.getD i 0 else a.getD i 0)).length=k:=by simp
 split
 ·rename_i hn;rw[List.set_append_right _ _ (by omega),e,e0,Nat.sub_self,List.set_cons_zero];simp[hn]
 ·rename_i hn;rw[e0];simp[hn,List.getElem?_eq_getElem h]
section
variable {n0:Nat} {w0:World} {I0:Nat→Prop} {Q:Exit→Sta→Prop}
theorem vh {a b:List Int} {mask:Int} (ha:a.length=8) (hb:b.length=8) (h0:0≤mask) (h1:mask<256) (hq:∀ q H',H' [0]=⟨1,.cells (O8 (Oc a b mask 8))⟩→Q (.exit 0) ⟨lk [(2,u8 mask),(7,.pob [0] 1 0),(8,.pob [1] 1 0),(9,iv 8),(15,bv q)],H'⟩):∀ (m i:Nat) (H:Hp),i+m=8→H [0]=⟨1,.cells (O8 (Oc a b mask i))⟩→H [1]=⟨1,.cells (O8 b)⟩ →
  LoopC (cx Tryz.prog w0 I0 n0) Fs Q ⟨lk [(2,u8 mask),(7,.pob [0] 1 0),(8,.pob [1] 1 0),(9,iv i)],H⟩:=by
 intro m;induction m with
 |zero=>
  intro i H hi hA hB;have:i=8:=by omega
  subst this;refine Ab Ai Fs.eq_1 ?_;simp;exact hq _ _ hA
 |succ m ih=>
  intro i H hi hA hB;have hlt:(i:Int)<8:=by omega
  have hml:=Ov (a:=a) (b:=b) (mask:=mask) (k:=i) (by omega);have hia:i<(Oc a b mask i).length:=by omega
  have hib:i<b.length:=by omega
  refine Ab Ai Fs.eq_1 ?_;simp[hlt];refine Ae (gS h0 h1 (by omega)) rfl ?_;have hs:=nE (a:=a) (b:=b) (mask:=mask) (k:=i) (by omega);cases hn:Ix mask i with
  |false=>
   simp[hn] at hs;simp;rw[Al (by omega) (by omega)];exact ih (i+1) H (by omega) (by rw[hs];exact hA) hB
  |true=>
   simp[hn] at hs;simp[hlt,hA,hB,List.getElem?_eq_getElem hib];refine⟨by omega,?_⟩;rw[Al (by omega) (by omega)];refine ih (i+1) _ (by omega) ?_ (by simp[Aa,hB]);rw[hs];simp only[Aa,if_true];rw[X1 hia];simp[List.getElem?_eq_getElem hib]
end
def aM (a b mask:Int):Int:=ie (Oc (Bo a) (Bo b) mask 8)
theorem Ye {a b mask:Int} {k:Nat}:∀ x,x ∈ Oc (Bo a) (Bo b) mask k→0≤x∧x<256:=by
 have hg:∀ (y:Int) (i:Nat),0≤(Bo y).getD i 0∧(Bo y).getD i 0<256:=fun y i=>by
  rw[List.getD_eq_getElem?_getD];cases e:(Bo y)[i]? with
  |none=>simp
  |some z=>exact Nu 8 y z (List.mem_of_getElem? e)
 intro x hx;rcases List.mem_append.1 hx with hx | hx
 ·obtain⟨i,_,rfl⟩:=List.mem_map.1 hx;split
  ·exact hg b i
  ·exact hg a i
 ·exact Nu 8 a x (TK hx)
theorem IQ (x:Int):(Bo x).length=8:=Qt 8 x
theorem Zp {a b mask:Int} (ha:Bw a) (hb:Bw b) (h0:0≤mask) (h1:mask<256):G.Spec Tryz.prog 163 [uv a,uv b,u8 mask] (uv (aM a b mask)):=by
 refine Aj TN (by simp) fun w0 I0=>?_;unfold MI;simp;refine Ae (LO ha) rfl ?_;simp;refine Ae (LO hb) rfl ?_;have l8:=IQ a;have m8:=IQ b;have o1:∀ l:List Int,A.ones (O8 l)=true:=fun l=>by simp[A.ones]
 simp[l8,m8,o1];refine vh l8 m8 h0 h1 (fun q H' hH=>?_) 8 0 _ (by omega) (by simp[Oc]) (by simp);simp;have lm:(Oc (Bo a) (Bo b) mask 8).length=8:=by rw[Ov (by omega),l8]
 refine Cm (FW (d:=[0]) (fun _ h=>h) 7 (.pim (O8 (Oc (Bo a) (Bo b) mask 8))) (fun H1 h1=>?_)) (CQ ?_)
 ·rw[hH] at h1;exact V0 (by simp[X5,h1]) (M8 (by simp)) (o1 _)
 have e:List.take 8 (O8 (Oc (Bo a) (Bo b) mask 8))=O8 (Oc (Bo a) (Bo b) mask 8):=AL (by simp[lm]);simp[lm,e];refine Ae (sv lm Ye) rfl ?_;simp;exact Ad rfl
@[simp] theorem Abv {q:Bool} {n:Nat} {y:A} {K:A→Prop}:Mn q (A.shift n (gd q y)) K=Mn q (A.shift n y) K:=Hy fun h=>by rw[h];rfl
theorem vt (l:List Int):A.softL (l.map uv)=l.map uv:=by
 rw[C3,List.map_map];rfl
theorem w5:∀ t:T,(tA t).soft=tA t:=by
 refine T.ind fun k w l ih=>?_;rw[tA_eq];simp only[A.soft,A.softL,T.kind_mk,T.words_mk,T.kids_mk,vt];have e:l.map (A.soft ∘ tA)=l.map tA:=List.map_congr_left fun t ht=>ih t ht;rw[C3,List.map_map,e];rfl
theorem tx (l:List T):A.softL (l.map tA)=l.map tA:=by
 rw[C3,List.map_map];exact List.map_congr_left fun t _=>w5 t
structure Sg (l:List (List Int)):Prop where
 b:∀ x,x ∈ l→x.length*8≤140737488355328
 w:oZ l
def RP (l:List (List Int)) (r:Rf):A:=if r.kind=0 then .v (.pointer none) else ql l
@[simp] theorem Abz (l:List (List Int)) (r:Rf):(RP l r).cells=[RP l r]:=by unfold RP;split<;>rfl
@[simp] theorem AfZ (l:List (List Int)) (r:Rf):(RP l r).one=true:=by unfold RP;split<;>rfl
@[simp] theorem Ab6 (l:List (List Int)) (r:Rf):(RP l r).bare1=true:=by unfold RP;split<;>rfl
@[simp] theorem Acb (l:List (List Int)) (r:Rf):(RP l r).bare2=true:=by unfold RP;split<;>rfl
theorem AaI {l:List (List Int)} {r:Rf} (h:r.kind ≠ 0):RP l r=ql l:=if_neg h
abbrev Yw (l:List (List Int)) (r:Rf):List A:=[RP l r,iv r.kind,iv r.s,iv r.at_,iv r.data,iv r.kids,iv r.count,uv r.n]
abbrev Hi (l:List (List Int)) (r:Rf):A:=.agg (Yw l r)
def Xp (r:Rf):Int:=if r.kind=1 then r.data else if r.kind=10 then 1 else 0
def NC (l:List (List Int)) (r:Rf) (i:Int):Int:=if i<0∨Xp r≤i then 0 else if r.kind=10 then r.n else (Dd l r.s (r.at_+i)).getD 0
theorem w9 (x:Int) (k:Int) (h0:0≤k) (h1:k<64):x / 2 ^ (min k.toNat u64.bits)=x / 2 ^ k.toNat:=by
 have:min k.toNat u64.bits=k.toNat:=by
  have:u64.bits=64:=rfl;omega
 rw[this]
set_option maxRecDepth 8000 in
theorem m5 {g:List Int} (hg:∀ x,x ∈ g→0≤x∧x<18446744073709551616) (hl:g.length*8≤140737488355328) (c i:Int):G.Spec Tryz.prog 255 [Dz g,iv c,iv i] (uv (Uo g c i)):=by
 refine Aj iV (by simp) fun w0 I0=>?_;unfold Xu;simp;refine Ae (Xk c) rfl ?_;have hw:=Nh c;by_cases h0:AD c<1∨i<0∨1099511627776<i
 ·have e:Uo g c i=0:=by unfold Uo;rw[if_pos h0]
  rw[e];rcases hw with h | h | h | h | h | h | h
  ·simp[h];exact Ad rfl
  ·simp[h];exact Ad rfl
  all_goals
   by_cases hi:i<0
   ·simp[h,hi];exact Ad rfl
   ·have hb:1099511627776<i:=by omega
    simp[h,hi,hb];exact Ad rfl
 ·have hw1:AD c=1∨AD c=8∨AD c=16∨AD c=32∨AD c=64:=by omega
  have hi0:0≤i:=by omega
  have hi1:i≤1099511627776:=by omega
  have e:Uo g c i=((g[(i*AD c / 64).toNat]?).getD 0) / 2 ^ (i*AD c % 64).toNat % 2 ^ (AD c).toNat:=by unfold Uo;rw[if_neg h0]
  rw[e];clear e hw;generalize AD c=w at hw1 h0;have hn:¬ w<0:=by omega
  have hn0:¬ w=0:=by omega
  have hp:0≤w:=by omega
  have hneg:¬ i<0:=by omega
  have hbig:¬ 1099511627776<i:=by omega
  have hb:0≤i*w∧i*w≤70368744177664:=by rcases hw1 with rfl | rfl | rfl | rfl | rfl<;>omega
  have e1:i64.wrap (i*w)=i*w:=BJ;have e2:i64.wrap ((i*w).tdiv 64)=i*w / 64:=by rw[Int.tdiv_eq_ediv_of_nonneg hb.1,Al (by omega) (by omega)]
  have e3:(i*w).tmod 64=i*w % 64:=Int.tmod_eq_emod_of_nonneg hb.1;have hm:0≤i*w % 64:=by omega
  have hm1:i*w % 64<64:=by omega
  have hd0:0≤i*w / 64:=by omega
  by_cases hr:(g.length:Int)≤i*w / 64
  ·have en:g[(i*w / 64).toNat]? = none:=List.getElem?_eq_none (by omega);simp[hn,hn0,hp,hneg,hbig,e1,e2,hr,en];exact Ad rfl
  ·have hlt:(i*w / 64).toNat<g.length:=by omega
   have hlt':i*w / 64<g.length:=by omega
   have hx:=hg _ (Bg hlt);simp[hn,hn0,hp,hneg,hbig,e1,e2,e3,hr,hd0,hlt,hlt',hm,w9 _ _ hm hm1];have hx0:0≤g[(i*w / 64).toNat] / 2 ^ (i*w % 64).toNat:=Int.ediv_nonneg hx.1 (Int.le_of_lt (Int.pow_pos (by decide)));have hx1:g[(i*w / 64).toNat] / 2 ^ (i*w % 64).toNat<18446744073709551616:=Int.lt_of_le_of_lt (Int.ediv_le_self _ hx.1) hx.2;generalize g[(i*w / 64).toNat] / 2 ^ (i*w % 64).toNat=y at hx0 hx1;refine⟨fun h=>?_,fun h=>?_⟩
   ·refine CE ?_;rw[h];exact(Int.emod_eq_of_lt hx0 (by simpa using hx1)).symm
   ·refine CE ?_;have em:∀ k:Nat,k<64→u64.wrap (u64.wrap (2 ^ min k u64.bits)-1)=2 ^ k-1:=fun k hk=>by
     have h64:min k u64.bits=k:=by
      have:u64.bits=64:=rfl;omega
     have hp:(2:Int) ^ k≤9223372036854775808:=by
      have h2:=Int.ofNat_le.2 (Nat.pow_le_pow_right (n:=2) (by decide) (by omega:k≤63));rw[Int.natCast_pow] at h2;exact h2
     have hp0:(0:Int)<2 ^ k:=Int.pow_pos (by decide);rw[h64,AG (n:=2 ^ k) (by omega) (by omega),AG (by omega) (by omega)]
    rw[em w.toNat (by omega)];exact OI w.toNat (by omega) hx0 hx1
theorem gU (c:Int):G.Spec Tryz.prog 254 [iv c] (.tup [iv (if AD c<0 then 0 else AD c),bv (decide (0≤AD c))]):=by
 refine Aj cb (by simp) fun w0 I0=>?_;unfold Tr;simp;refine Ae (Xk c) rfl ?_;simp;exact Ad rfl
theorem EB {cs:List A} {x:Value} (h:cs.all A.bare2=true):(A.tup [.agg cs,.v x]).bare=true:=by
 simp only[A.bare,List.all_cons,List.all_nil,Bool.and_true];rw[h];rfl
theorem Ct (l:List (List Int)) (r:Rf):G.Spec Tryz.prog 95 [Hi l r] (iv r.kind):=by
 refine Aj Ty (by simp) fun w0 I0=>?_;unfold LF;simp;exact Ad rfl
theorem HX (l:List (List Int)) (r:Rf):G.Spec Tryz.prog 192 [Hi l r] (iv (Xp r)):=by
 refine Aj RJ (by simp) fun w0 I0=>?_;unfold KB;by_cases h1:r.kind=1
 ·simp[h1];exact AN rfl (by simp[Xp,h1])
 ·by_cases h10:r.kind=10
  ·simp[h10];exact AN rfl (by simp[Xp,h10])
  ·simp[h1,h10];exact AN rfl (by simp[Xp,h1,h10])
theorem Ea (l:List (List Int)) (r:Rf):G.Spec Tryz.prog 137 [Hi l r] (iv (nk r)):=by
 refine Aj Ta (by simp) fun w0 I0=>?_;unfold LR;by_cases h1:r.kind=1
 ·simp[h1];exact AN rfl (by simp[nk,h1])
 ·simp[h1];exact AN rfl (by simp[nk,h1])
theorem Ik {l:List (List Int)} (hs:Sg l) {s a n:Int} (h:Im l s a n=true):0≤a∧0≤n∧a+n≤17592186044416:=by
 obtain⟨h1,h2,h3,h4,h5,_,h6⟩:=V1 h;have:=hs.b _ (Bg h5);omega
theorem G3 {l:List (List Int)} (hs:Sg l) {r:Rf} (hr:J4 l r) (i:Int):G.Spec Tryz.prog 150 [Hi l r,iv i] (uv (NC l r i)):=by
 refine Aj R6 (by simp) fun w0 I0=>?_;unfold Lp;simp;refine B0 rfl (fun _=>HX l r) (fun e=>by simp[e]) (by simp) ?_;by_cases hi:i<0∨Xp r≤i
 ·have hd:(decide (i<0) || decide (Xp r≤i))=true:=by simpa using hi
  simp[hd];exact AN rfl (by simp[NC,hi])
 ·have hd:(decide (i<0) || decide (Xp r≤i))=false:=by simpa using hi
  simp[hd];have e:NC l r i=if r.kind=10 then r.n else (Dd l r.s (r.at_+i)).getD 0:=by rw[NC,if_neg hi]
  by_cases h10:r.kind=10
  ·simp[h10];exact AN rfl (by rw[e,if_pos h10])
  ·have h1:r.kind=1:=by
    cases hr<;>simp[Xp,Rf.zero] at hi h10 ⊢<;>omega
   simp[h10];rw[e,if_neg h10,AaI (by omega)];have hb:i64.wrap (r.at_+i)=r.at_+i:=by
    cases hr with
    |str s a d k a1 a2 a3 a4 h=>
     have:=Ik hs h;simp[Xp] at hi ⊢;exact Al (by omega) (by omega)
    |_=>simp[Rf.zero] at h1<;>omega
   rw[hb];refine Ae (O5 l hs.b r.s (r.at_+i)) rfl ?_;simp;exact Ad rfl
theorem oQ {l:List (List Int)} (hs:Sg l) (s a n:Int) (ha:0≤a) (ha1:a≤17592186044416):G.Spec Tryz.prog 158 [.agg [ql l,iv 0,iv s,iv a,iv 0,iv 0,iv 0,uv 0],iv n] (.tup [Hi l (Xm l s a n).1,iv (Xm l s a n).2]):=by
 have h0:0≤(Dd l s a).getD 0∧(Dd l s a).getD 0<18446744073709551616:=by
  cases e:Dd l s a with
  |none=>simp
  |some x=>exact HT hs.w e
 refine Aj Nz (by simp) fun w0 I0=>?_;unfold HP;simp;refine Ae (O5 l hs.b s a) rfl ?_;simp;unfold Xm;generalize (Dd l s a).getD 0=w at h0;refine Ae (I8 h0.1 h0.2) rfl ?_;have hsh:=Sy h0.1 h0.2;have ho:=Wj h0.1 h0.2;have hdp:0≤(Fz w).data∧(Fz w).data<65536∧0≤(Fz w).ptrs∧(Fz w).ptrs<65536:=by
  unfold Fz
  repeat' split
  all_goals simp
  all_goals omega
 generalize Fz w=p at hsh ho hdp;have hb:-70368744177664≤p.off*(p.data+p.ptrs)∧p.off*(p.data+p.ptrs)≤70368744177664:=by
  have b1:p.off*(p.data+p.ptrs)≤536870912*(p.data+p.ptrs):=Int.mul_le_mul_of_nonneg_right (by omega) (by omega);have b2:-536870912*(p.data+p.ptrs)≤p.off*(p.data+p.ptrs):=Int.mul_le_mul_of_nonneg_right (by omega) (by omega);omega
 have e1:i64.wrap (p.data+p.ptrs)=p.data+p.ptrs:=BJ;have e2:i64.wrap (p.off*(p.data+p.ptrs))=p.off*(p.data+p.ptrs):=BJ;have e3:i64.wrap (a+1)=a+1:=BJ;by_cases hc:(w ≠ 0∧p.kind ≠ 1)∨p.off<0∨n<p.off*(p.data+p.ptrs)
 ·have hd:(((!decide (w=0)&&!decide (p.kind=1)) || decide (p.off<0)) || decide (n<p.off*(p.data+p.ptrs)))=true:=by simp;omega
  rw[if_pos hc];simp[e1,e2,hd];exact AN (EB (by simp)) (by simp[Rf.zero,RP])
 ·have hd:(((!decide (w=0)&&!decide (p.kind=1)) || decide (p.off<0)) || decide (n<p.off*(p.data+p.ptrs)))=false:=by simp;omega
  rw[if_neg hc];simp[e1,e2,e3,hd];exact AN (EB (by simp)) (by simp[RP])
theorem cd {l:List (List Int)} (hs:Sg l) (s a:Int):G.Spec Tryz.prog 99 [ql l,iv s,iv a] (.tup [Hi l (Oi l s a).1,iv (Oi l s a).2]):=by
 have hf:=Va hs.w s a;refine Aj gD (by simp) fun w0 I0=>?_;unfold U5;simp;refine Ae (cR l hs.b hs.w s a) rfl ?_;unfold Oi;generalize C0 l s a=x at hf;obtain⟨x,e⟩:=x;unfold qV at hf;simp only at hf ⊢;by_cases hc:e ≠ 0∨x.p.kind=0
 ·have hd:(!decide (e=0) || decide (x.p.kind=0))=true:=by simp;omega
  simp[hd,hc];exact AN (EB (by simp)) (by simp[Rf.zero,RP])
 ·have hd:(!decide (e=0) || decide (x.p.kind=0))=false:=by simp;omega
  have he:e=0:=by omega
  obtain h0 | ⟨hk,hsh,hw⟩:=hf he
  ·omega
  have hbd:=Ik hs hw;rw[if_neg hc];simp[hd];unfold cT;by_cases k1:x.p.kind=1
  ·simp[k1];exact AN (EB (by simp)) (by simp[RP])
  ·have k2:x.p.kind=2:=by omega
   obtain⟨c0,c1,_,_⟩:=hsh.k2 k2;by_cases c6:x.p.code<6
   ·have e2:i64.wrap (2+x.p.code)=2+x.p.code:=BJ;have c7:x.p.code<7:=by omega
    have nz:¬ (2+x.p.code=0):=by omega
    simp[k1,c6,c7,e2];exact⟨AN (EB (by simp)) (by simp[RP,nz]),fun h=>absurd h (by omega)⟩
   ·by_cases c6':x.p.code=6
    ·simp[k1,c6'];exact AN (EB (by simp)) (by simp[RP])
    ·have c7:¬ x.p.code<7:=by omega
     simp[k1,c6,c6',c7];intro _;refine Ae (oQ hs x.s x.at_ x.p.count hbd.1 (by omega)) rfl ?_;simp;exact Ad (EB (by simp))
theorem nM {l:List (List Int)} (hs:Sg l):G.Spec Tryz.prog 49 [ql l] (.tup [Hi l (Oi l 0 0).1,iv (Oi l 0 0).2]):=by
 refine Aj YU (by simp) fun w0 I0=>?_;unfold QD;simp;refine Ae (cd hs 0 0) rfl ?_;simp;exact Ad (EB (by simp))
theorem ZS {l:List (List Int)} {s a:Int} (ha:0≤a) (k:Nat):((((seg l s).getD []).drop a.toNat)[k]?).getD 0=(Dd l s (a+k)).getD 0:=by
 unfold Dd;rw[if_pos (by omega)];cases seg l s with
 |none=>simp
 |some g=>
  simp only[Option.getD_some,Option.bind_some,List.getElem?_drop];have:a.toNat+k=(a+k).toNat:=by omega
  rw[this]
theorem m7 {l:List (List Int)} (hs:Sg l) {c s a n:Int} (c0:0≤c) (c6:c<6) (n0:0≤n) (n1:n<536870912) (h:Im l s a ((n*KH c+63) / 64)=true) {i:Int} (i0:0≤i) (i1:i<n) :
  G.Spec Tryz.prog 231 [Hi l ⟨2+c,s,a,0,0,n,0⟩,iv i] (uv (U1 l ⟨2+c,s,a,0,0,n,0⟩ i)):=by
 have hb:=Ik hs h;have e2:i64.wrap c=c:=BJ;have nz:¬ (2+c=0):=by omega
 have key:∀ w per:Int,AD c=w→w*per=64→(w=1∨w=8∨w=16∨w=32∨w=64)→Uo [(Dd l s (a+i / per)).getD 0] c (i % per)=U1 l ⟨2+c,s,a,0,0,n,0⟩ i:=fun w per hw hp hw'=>by
  unfold U1 Uo;simp only[show 2+c-2=c by omega,hw];have hk:(i % per*w / 64).toNat=0∧i % per*w % 64=i*w % 64∧i*w / 64=i / per∧¬ (i % per<0)∧¬ 1099511627776<i % per:=by
   rcases hw' with rfl | rfl | rfl | rfl | rfl
   ·have:per=64:=by omega
    subst this;omega
   ·have:per=8:=by omega
    subst this;omega
   ·have:per=4:=by omega
    subst this;omega
   ·have:per=2:=by omega
    subst this;omega
   ·have:per=1:=by omega
    subst this;omega
  obtain⟨k1,k2,k3,k4,k5⟩:=hk;rw[if_neg (by omega),if_neg (by omega),k1,k2,k3];have hd0:0≤i / per:=by rw[← k3];rcases hw' with rfl | rfl | rfl | rfl | rfl<;>omega
  have:=ZS (l:=l) (s:=s) (a:=a) hb.1 (i / per).toNat;rw[show((i / per).toNat:Int)=i / per by omega] at this;rw[this];simp
 have e2':i64.wrap (2+c-2)=c:=AP;have hw64:∀ x:Int,0≤(Dd l s x).getD 0∧(Dd l s x).getD 0<18446744073709551616:=fun x=>by
  cases e:Dd l s x with
  |none=>simp
  |some y=>exact HT hs.w e
 refine Aj Sf (by simp) fun w0 I0=>?_;unfold LL;simp[e2'];refine Ae (gU c) rfl ?_;by_cases hc0:c=0
 ·subst hc0;simp[AD];exact AN rfl (by simp[U1,Uo,AD])
 have hx:∃ w per:Int,AD c=w∧w*per=64∧(w=1∨w=8∨w=16∨w=32∨w=64)∧(per=64∨per=8∨per=4∨per=2∨per=1)∧i64.wrap ((64:Int).tdiv w)=per:=by
  have hc:c=1∨c=2∨c=3∨c=4∨c=5:=by omega
  rcases hc with rfl | rfl | rfl | rfl | rfl
  ·exact⟨1,64,rfl,rfl,by omega,by omega,by decide⟩
  ·exact⟨8,8,rfl,rfl,by omega,by omega,by decide⟩
  ·exact⟨16,4,rfl,rfl,by omega,by omega,by decide⟩
  ·exact⟨32,2,rfl,rfl,by omega,by omega,by decide⟩
  ·exact⟨64,1,rfl,rfl,by omega,by omega,by decide⟩
 obtain⟨w,per,hw,hp,hw',hper,ep⟩:=hx;have hk:=key w per hw hp hw';have wn:¬ w<0:=by omega
 have wz:¬ w=0:=by omega
 have pz:¬ per=0:=by omega
 have hq:0≤i / per∧i / per≤i:=by rcases hper with rfl | rfl | rfl | rfl | rfl<;>omega
 have hm:0≤i % per:=Int.emod_nonneg _ pz;have e3:i64.wrap (i.tdiv per)=i / per:=by rw[Int.tdiv_eq_ediv_of_nonneg i0,Al (by omega) (by omega)]
 have e4:i64.wrap (a+i / per)=a+i / per:=BJ;have e5:i.tmod per=i % per:=Int.tmod_eq_emod_of_nonneg i0;simp[hw,wn,wz,ep,pz,e3,e4,RP,nz];refine Ae (O5 l hs.b s (a+i / per)) rfl ?_;simp[pz,e5];have hx:=hw64 (a+i / per);refine Ae ((m5 (g:=[(Dd l s (a+i / per)).getD 0]) (fun x hx'=>by simp at hx';rw[hx'];exact hx) (by simp) c (i % per)).soft (by simp[A.softL,A.soft])) rfl ?_;simp;rw[hk];exact Ad rfl
theorem Kx {l:List (List Int)} (hs:Sg l) {r:Rf} (hr:J4 l r) (i:Int):G.Spec Tryz.prog 194 [Hi l r,iv i] (.tup [Hi l (CZ l r i).1,iv (CZ l r i).2]):=by
 refine Aj T9 (by simp) fun w0 I0=>?_;unfold Ms;simp;refine B0 rfl (fun _=>Ea l r) (fun e=>by simp[e]) (by simp) ?_;by_cases hi:i<0∨nk r≤i
 ·have hd:(decide (i<0) || decide (nk r≤i))=true:=by simpa using hi
  simp[hd];exact AN (EB (by simp)) (by simp[CZ,hi,Rf.zero,RP])
 ·have hd:(decide (i<0) || decide (nk r≤i))=false:=by simpa using hi
  have hi0:0≤i:=by omega
  have hi1:i<nk r:=by omega
  have hk:=UF hr;rw[CZ,if_neg hi];cases hr with
  |zero=>simp[nk,Rf.zero] at hi1;omega
  |str s a d k a1 a2 a3 a4 h=>
   have hb:=Ik hs h;have e1:i64.wrap (i64.wrap (a+d)+i)=a+d+i:=by
    rw[Al (n:=a+d) (by omega) (by omega),Al (by omega) (by omega)]
   simp[hd,RP,e1];refine Ae (cd hs s (a+d+i)) rfl ?_;simp;exact Ad (EB (by simp))
  |dat c s a n a1 a2 a3 a4 h=>
   have n0:¬ (2+c=0):=by omega
   have n1:¬ (2+c=1):=by omega
   have n8:¬ (2+c=8):=by omega
   have n9:¬ (2+c=9):=by omega
   have hn:i<n:=by simpa[nk,n1] using hi1
   have:=m7 hs a1 a2 a3 a4 h hi0 hn;simp[hd,n1,n8,n9];refine Ae this (by simp) ?_;simp;exact AN (EB (by simp)) (by simp[RP,n0])
  |ptrs s a n a1 a2 h=>
   have hb:=Ik hs h;have e1:i64.wrap (a+i)=a+i:=BJ;simp[hd,RP,e1];refine Ae (cd hs s (a+i)) rfl ?_;simp;exact Ad (EB (by simp))
  |comp s a d k n a1 a2 a3 a4 a5 a6 h=>
   have hb:=Ik hs h;have hn:i<n:=by simpa[nk] using hi1
   have m1:0≤i*(d+k):=Int.mul_nonneg hi0 (by omega);have m2:i*(d+k)≤n*(d+k):=ZN (by omega) (by omega);have e1:i64.wrap (d+k)=d+k:=BJ;have e2:i64.wrap (i*(d+k))=i*(d+k):=BJ;have e3:i64.wrap (a+i*(d+k))=a+i*(d+k):=BJ;simp[hd,RP,e1,e2,e3];exact AN (EB (by simp)) (by simp[RP])
  |atom n a1 a2=>simp[nk] at hi1;omega
theorem Db {l:List (List Int)} {r:Rf} {t:T} (h:AA l r t):Xp r=t.words.length∧∀ (i:Nat) (hi:i<t.words.length),NC l r i=t.words[i]:=by
 cases h with
 |mk _ _ hr hk hw hn he hm=>
  have hl:Xp r=(E7 l r).length:=by
   cases hr with
   |str s a d k a1 a2 a3 a4 h=>
    obtain⟨h1,h2,h3,h4,h5,e,h6⟩:=V1 h;simp[Xp,E7,part,e];omega
   |dat c s a n a1 a2 a3 a4 h=>
    have:¬ (2+c=10):=by omega
    have h1:¬ (2+c=1):=by omega
    simp[Xp,E7,this,h1]
   |_=>simp[Xp,E7,Rf.zero]
  rw[← hw];refine⟨hl,fun i hi=>?_⟩;have hi':(i:Int)<Xp r:=by rw[hl];omega
  rw[NC,if_neg (by omega)];cases hr with
  |str s a d k a1 a2 a3 a4 h=>
   obtain⟨h1,h2,h3,h4,h5,e,h6⟩:=V1 h;simp[E7,part,e];have:=ZS (l:=l) (s:=s) (a:=a) h3 i;rw[e] at this;simp at this;rw[← this,List.getElem?_eq_getElem (by simp[Xp] at hi';omega)];simp
  |atom n a1 a2=>
   simp[E7] at hi ⊢
  |dat c s a n a1 a2 a3 a4 h=>
   have:¬ (2+c=10):=by omega
   have h1:¬ (2+c=1):=by omega
   simp[Xp,this,h1] at hi';omega
  |_=>simp[Xp,Rf.zero] at hi'<;>omega
theorem Cy {l:List (List Int)} {r:Rf} {t:T} (h:AA l r t):J4 l r:=by cases h;assumption
theorem CK {l:List (List Int)} {r:Rf} {t:T} (h:AA l r t):r.kind=t.kind:=by cases h;assumption
theorem Ht {l:List (List Int)} {r:Rf} {t:T} (h:AA l r t):nk r=t.kids.length:=by cases h;assumption
theorem F9 {l:List (List Int)} {r:Rf} {t:T} (h:AA l r t) {i:Nat} (hi:i<t.kids.length):(CZ l r i).2=0∧AA l (CZ l r i).1 t.kids[i]:=by
 cases h with
 |mk _ _ hr hk hw hn he hm=>exact⟨he i hi,hm i hi⟩
theorem Ri {l:List (List Int)} {r:Rf} {t:T} (h:AA l r t):kg t:=fun h0=>by
 have hk:=CK h;have hw:=(Db h).1;have hn:=Ht h;have hr:=Cy h;rw[h0] at hk;have:Xp r=0∧nk r=0:=by
  cases hr<;>simp[Xp,nk,Rf.zero] at hk ⊢<;>omega
 exact⟨List.eq_nil_of_length_eq_zero (by omega),List.eq_nil_of_length_eq_zero (by omega)⟩
theorem DI {l:List (List Int)} {r:Rf} {t:T} (h:AA l r t):t.words.length≤65536∧t.kids.length<536870912:=by
 have hw:=(Db h).1;have hn:=Ht h;have hr:=Cy h;have:=UF hr;have:Xp r≤65536:=by
  cases hr<;>simp[Xp,Rf.zero]<;>(try split)<;>omega
 omega
theorem wk {l:List (List Int)} (hs:Sg l) {r:Rf} {t:T} (hm:AA l r t) (hH:H [0]=⟨1,.cells (Yw l r)⟩) (hq:∀ q,Q (.exit 0) ⟨lk [(1,.pob [0] 1 0),(3,iv (Cf t.words).length),(14,bv q)],H⟩):∀ (n:Nat),n≤t.words.length→Cf (t.words.take n)=Cf t.words →
  LoopC (cx Tryz.prog w0 I0 n0) J7 Q ⟨lk [(1,.pob [0] 1 0),(3,iv n)],H⟩:=by
 have hlen:=DI hm;intro n;induction n with
 |zero=>
  intro hn ht;refine Ab Ai J7.eq_1 ?_;simp;refine AY rfl ?_;have e:(Cf t.words).length=0:=by rw[← ht];rfl
  have:=hq false;rw[e] at this;simp;exact this
 |succ n ih=>
  intro hn ht;have hlt:n<t.words.length:=by omega
  have e:i64.wrap (n:Int)=n:=BJ;have hp:(0:Int)<(n:Int)+1:=by omega
  have hwd:=(Db hm).2 n hlt;refine Ab Ai J7.eq_1 ?_;simp[hp,hH,e];refine Ee rfl (fun _=>G3 hs (Cy hm) n) (fun _=>rfl) (by simp) ?_;rw[hwd];by_cases h0:t.words[n]=0
  ·simp[h0,e];exact ih (by omega) (by rw[← QH hlt h0];exact ht)
  ·have e2:(Cf t.words).length=n+1:=by rw[← ht,RB hlt h0];simp;omega
   have:=hq false;rw[e2] at this;simp[h0];exact this
theorem xe {l:List (List Int)} (hs:Sg l) {r:Rf} {t:T} (hm:AA l r t):∀ (n:Nat) (H:Hp),H [0]=⟨1,.cells (Yw l r)⟩→n≤t.kids.length→BO (t.kids.take n)=BO t.kids→((BO t.kids).length=0→∀ k q H',Q (.exit 0) ⟨lk [(1,.pob [0] 1 0),(4,iv k),(10,bv q)],H'⟩)→((BO t.kids).length ≠ 0→∀ H',Q .ret ⟨lk [(2,iv (BO t.kids).length),(3,iv 0)],H'⟩) →
  LoopC (cx Tryz.prog w0 I0 n0) J0 Q ⟨lk [(1,.pob [0] 1 0),(4,iv n)],H⟩:=by
 have hlen:=DI hm;intro n;induction n with
 |zero=>
  intro H hH hn ht h1 h2;refine Ab Ai J0.eq_1 ?_;simp;exact h1 (by rw[← ht];rfl) _ _ _
 |succ n ih=>
  intro H hH hn ht h1 h2;have hlt:n<t.kids.length:=by omega
  have e:i64.wrap (n:Int)=n:=BJ;have hp:(0:Int)<(n:Int)+1:=by omega
  obtain⟨k1,k2⟩:=F9 hm hlt;have kk:=CK k2;refine Ab Ai J0.eq_1 ?_;simp[hp,hH,e];refine Ae (Kx hs (Cy hm) n) (by simp) ?_;simp[k1,Aa];refine B0 rfl (fun _=>Ct l (CZ l r n).1) (fun _=>rfl) (by simp) ?_;rw[kk];by_cases h0:t.kids[n].kind=0
  ·simp[h0,e];exact ih _ (by simp[Aa,hH]) (by omega) (by rw[← Rj hlt h0];exact ht) h1 h2
  ·have e2:(BO t.kids).length=n+1:=by rw[← ht,Rp hlt h0];simp;omega
   simp[h0];have:=h2 (by omega) ;rw[e2] at this;exact this _
theorem Zi {l:List (List Int)} (hs:Sg l) {r:Rf} {t:T} (hm:AA l r t):G.Spec Tryz.prog 149 [Hi l r] (iv (Cf t.words).length):=by
 refine Aj dy (by simp) fun w0 I0=>?_;unfold Vr;simp;refine Ae (HX l r) (by simp) ?_;rw[(Db hm).1];simp;refine wk hs hm (by simp) (fun q=>?_) t.words.length (BZ _) (by rw[AL (BZ _)]);simp;exact Ad rfl
theorem Zh {l:List (List Int)} (hs:Sg l) {r:Rf} {t:T} (hm:AA l r t):G.Spec Tryz.prog 199 [Hi l r] (.tup [iv (BO t.kids).length,iv 0]):=by
 refine Aj gB (by simp) fun w0 I0=>?_;unfold UQ;simp;refine Ae (Ea l r) (by simp) ?_;rw[Ht hm];simp;refine xe hs hm t.kids.length _ (by simp) (BZ _) (by rw[AL (BZ _)]) (fun h k q H'=>?_) (fun h H'=>?_)
 ·simp;exact AN rfl (by simp[h])
 ·simp;exact Ad rfl
theorem QI {l:List (List Int)} (hs:Sg l) {r:Rf} {t:T} (hm:AA l r t):G.Spec Tryz.prog 233 [Hi l r] (.tup [iv (nK t),iv 0]):=by
 refine Aj cg (by simp) fun w0 I0=>?_;unfold R8;simp;refine Ae (Ct l r) (by simp) ?_;rw[CK hm];by_cases h1:t.kind=1
 ·simp[h1];refine Ae (Zh hs hm) (by simp) ?_;simp;exact AN rfl (by simp[nK,h1])
 ·simp[h1];refine Ae (Ea l r) (by simp) ?_;rw[Ht hm];simp;exact AN rfl (by simp[nK,h1])
theorem Jd {l:List (List Int)} (hs:Sg l) {r:Rf} {t:T} (hm:AA l r t):G.Spec Tryz.prog 232 [Hi l r] (iv (nW t)):=by
 refine Aj YM (by simp) fun w0 I0=>?_;unfold Qo;simp;refine Ae (Ct l r) (by simp) ?_;rw[CK hm];by_cases h1:t.kind=1
 ·simp[h1];refine Ae (Zi hs hm) (by simp) ?_;simp;exact AN rfl (by simp[nW,h1])
 ·simp[h1];refine Ae (HX l r) (by simp) ?_;rw[(Db hm).1];simp;exact AN rfl (by simp[nW,h1])
noncomputable def O0 (t u:T):Bool:=by classical exact decide (t.kind=u.kind∧nW t=nW u∧nK t=nK u∧∀ i:Nat,i<nW t→t.words[i]? = u.words[i]?)
theorem alikeB_iff {t u:T}:O0 t u=true ↔ t.kind=u.kind∧nW t=nW u∧nK t=nK u∧∀ i:Nat,i<nW t→t.words[i]? = u.words[i]?:=by simp[O0]
theorem tI {l m:List (List Int)} (hl:Sg l) (hm:Sg m) {r s:Rf} {t u:T} (ht:AA l r t) (hu:AA m s u) (hW:nW t=nW u) (hA:H [0]=⟨1,.cells (Yw l r)⟩) (hB:H [1]=⟨1,.cells (Yw m s)⟩) {k:Int}:∀ (j i:Nat),i+j=nW t→(∀ x:Nat,x<i→t.words[x]? = u.words[x]?) →
  ((∀ x:Nat,x<nW t→t.words[x]? = u.words[x]?)→∀ i' q,Q (.exit 0) ⟨lk [(2,.pob [0] 1 0),(3,.pob [1] 1 0),(7,iv k),(10,.fnc 150 [] []),(46,iv (nW t)),(47,iv i'),(48,bv q)],H⟩) →
  (¬ (∀ x:Nat,x<nW t→t.words[x]? = u.words[x]?)→Q .ret ⟨lk [(4,iv 0),(5,bv false),(6,iv 0)],H⟩) →
  LoopC (cx Tryz.prog w0 I0 n0) HE Q ⟨lk [(2,.pob [0] 1 0),(3,.pob [1] 1 0),(7,iv k),(10,.fnc 150 [] []),(46,iv (nW t)),(47,iv i)],H⟩:=by
 have h1:=DI ht;have h2:=DI hu;have w1:=Zn t;have w2:=Zn u;intro j;induction j with
 |zero=>
  intro i hi he hq hq2;have:i=nW t:=by omega
  subst this;refine Ab Ai HE.eq_1 ?_;simp;exact hq he _ _
 |succ j ih=>
  intro i hi he hq hq2;have hlt:i<nW t:=by omega
  have lt1:i<t.words.length:=by omega
  have lt2:i<u.words.length:=by omega
  have hlt':(i:Int)<nW t:=by omega
  have ei:=Av i;refine Ab Ai HE.eq_1 ?_;simp[hlt,hA,hB];refine MF rfl (G3 hl (Cy ht) i) (by simp) ?_;rw[(Db ht).2 i lt1];simp[hA,hB];refine MF rfl (G3 hm (Cy hu) i) (by simp) ?_;rw[(Db hu).2 i lt2];by_cases hx:t.words[i]=u.words[i]
  ·simp[hx,ei];refine ih (i+1) (by omega) (fun x hx'=>?_) hq hq2;by_cases e:x=i
   ·subst e;rw[List.getElem?_eq_getElem lt1,List.getElem?_eq_getElem lt2,hx]
   ·exact he x (by omega)
  ·simp[hx];refine hq2 fun hh=>hx ?_;have:=hh i hlt;rw[List.getElem?_eq_getElem lt1,List.getElem?_eq_getElem lt2] at this;exact Option.some.inj this
theorem jY {l m:List (List Int)} (hl:Sg l) (hm:Sg m) {r s:Rf} {t u:T} (ht:AA l r t) (hu:AA m s u):G.Spec Tryz.prog 197 [Hi l r,Hi m s] (.tup [iv (if O0 t u=true then nK t else 0),bv (O0 t u),iv 0]):=by
 refine Aj YI (by simp) fun w0 I0=>?_;unfold Qd;simp;refine Ae (Ct l r) (by simp) ?_;simp;refine Ae (Ct m s) (by simp) ?_;rw[CK ht,CK hu];have no:¬ (t.kind=u.kind∧nW t=nW u∧nK t=nK u∧∀ i:Nat,i<nW t→t.words[i]? = u.words[i]?)→O0 t u=false:=fun h=>by rw[Bool.eq_false_iff];exact fun e=>h (alikeB_iff.1 e)
 by_cases h1:t.kind=u.kind
 ·simp[h1];refine B0 rfl (fun _=>Jd hl ht) (fun _=>rfl) (by simp) ?_;simp;refine B0 rfl (fun _=>Jd hm hu) (fun _=>rfl) (by simp) ?_;by_cases h2:nW t=nW u
  ·simp[h2];refine Ae (QI hl ht) (by simp) ?_;simp;refine Ae (QI hm hu) (by simp) ?_;by_cases h3:nK t=nK u
   ·simp[h3];refine Ae (Jd hl ht) (by simp) ?_;simp;refine tI hl hm ht hu h2 (by simp) (by simp) (nW t) 0 (by omega) (fun x hx=>by omega) (fun hh i' q=>?_) (fun hh=>?_)
    ·have:O0 t u=true:=alikeB_iff.2 ⟨h1,h2,h3,hh⟩;simp;exact AN rfl (by simp[this,h3])
    ·have:=no fun ⟨_,_,_,h⟩=>hh h;simp;exact AN rfl (by simp[this])
   ·have:=no fun ⟨_,_,h,_⟩=>h3 h;simp[h3];refine⟨fun h=>absurd (by omega) h3,fun _=>?_⟩;exact AN rfl (by simp[this])
  ·have:=no fun ⟨_,h,_,_⟩=>h2 h;simp[h2];refine⟨fun h=>absurd (by omega) h2,fun _=>?_⟩;exact AN rfl (by simp[this])
 ·have:=no fun ⟨h,_,_,_⟩=>h1 h;simp[h1];refine AY rfl ?_;simp;refine AY rfl ?_;simp;exact AN rfl (by simp[this])
theorem og {t u:T} (ht:kg t) (hu:kg u):LK t u=true ↔ O0 t u=true∧∀ i:Nat,i<nK t→(t.kids[i]?).map Ah=(u.kids[i]?).map Ah:=by
 rw[eqT_iff,vg ht hu,alikeB_iff];constructor
 ·rintro⟨a,b,c,d,e⟩;exact⟨⟨a,b,c,d⟩,e⟩
 ·rintro⟨⟨a,b,c,d⟩,e⟩;exact⟨a,b,c,d,e⟩
section
variable {n0:Nat} {w0:World} {I0:Nat→Prop} {Q:Exit→Sta→Prop}
abbrev Aer (l m:List (List Int)) (t u:T):Prop:=∀ r s,AA l r t→AA m s u→G.Spec Tryz.prog 147 [Hi l r,Hi m s] (.tup [bv (LK t u),iv 0])
theorem n6 {l m:List (List Int)} (hl:Sg l) (hm:Sg m) {r s:Rf} {t u:T} (ht:AA l r t) (hu:AA m s u) (hK:nK t=nK u) (ih:∀ c,c ∈ t.kids→∀ d,Aer l m c d):∀ (j i:Nat) (H:Hp),i+j=nK t→H [0]=⟨1,.cells (Yw l r)⟩→H [1]=⟨1,.cells (Yw m s)⟩→(∀ x:Nat,x<i→(t.kids[x]?).map Ah=(u.kids[x]?).map Ah) →
  ((∀ x:Nat,x<nK t→(t.kids[x]?).map Ah=(u.kids[x]?).map Ah)→∀ i' q H',Q (.exit 0) ⟨lk [(2,.pob [0] 1 0),(3,.pob [1] 1 0),(29,iv (nK t)),(30,iv i'),(31,bv q)],H'⟩) →
  (¬ (∀ x:Nat,x<nK t→(t.kids[x]?).map Ah=(u.kids[x]?).map Ah)→∀ H',Q .ret ⟨lk [(4,bv false),(5,iv 0)],H'⟩) →
  LoopC (cx Tryz.prog w0 I0 n0) GX Q ⟨lk [(2,.pob [0] 1 0),(3,.pob [1] 1 0),(29,iv (nK t)),(30,iv i)],H⟩:=by
 have h1:=DI ht;have h2:=DI hu;have w1:=eg t;have w2:=eg u;intro j;induction j with
 |zero=>
  intro i H hi hA hB he hq hq2;have:i=nK t:=by omega
  subst this;refine Ab Ai GX.eq_1 ?_;simp;exact hq he _ _ _
 |succ j ihj=>
  intro i H hi hA hB he hq hq2;have hlt:i<nK t:=by omega
  have lt1:i<t.kids.length:=by omega
  have lt2:i<u.kids.length:=by omega
  have ei:=Av i;obtain⟨a1,a2⟩:=F9 ht lt1;obtain⟨b1,b2⟩:=F9 hu lt2;have ihc:=ih _ (Bg lt1) u.kids[i] _ _ a2 b2;refine Ab Ai GX.eq_1 ?_;simp[hlt,hA];refine Ae (Kx hl (Cy ht) i) (by simp) ?_;simp[a1,Aa,hB];refine Ae (Kx hm (Cy hu) i) (by simp) ?_;simp[b1,Aa];refine Ae ihc (by simp) ?_;cases hq':LK t.kids[i] u.kids[i] with
  |true=>
   simp[ei];refine ihj (i+1) _ (by omega) (by simp[Aa,hA]) (by simp[Aa,hB]) (fun x hx'=>?_) hq hq2;by_cases e:x=i
   ·subst e;rw[List.getElem?_eq_getElem lt1,List.getElem?_eq_getElem lt2];simp[eqT_iff.1 hq']
   ·exact he x (by omega)
  |false=>
   simp;refine hq2 (fun hh=>?_) _;have:=hh i hlt;rw[List.getElem?_eq_getElem lt1,List.getElem?_eq_getElem lt2] at this;have:=eqT_iff.2 (Option.some.inj this);rw[hq'] at this;cases this
end
theorem Vz {l m:List (List Int)} (hl:Sg l) (hm:Sg m):∀ t u,Aer l m t u:=by
 refine T.ind fun k w ks ih u r s ht hu=>?_;have hb:=og (Ri ht) (Ri hu);refine Aj XR (by simp) fun w0 I0=>?_;unfold Ox;simp;refine Ae (jY hl hm ht hu) (by simp) ?_;cases ha:O0 (.mk k w ks) u with
 |false=>
  have:LK (.mk k w ks) u=false:=by rw[Bool.eq_false_iff];intro e;have:=(hb.1 e).1;rw[ha] at this;cases this
  simp;exact AN rfl (by simp[this])
 |true=>
  obtain⟨_,_,hK,_⟩:=alikeB_iff.1 ha;simp;refine n6 hl hm ht hu hK (fun c hc d=>ih c hc d) (nK (.mk k w ks)) 0 _ (by omega) (by simp) (by simp) (fun x hx=>by omega) (fun hh i' q H'=>?_) (fun hh H'=>?_)
  ·have:=hb.2 ⟨ha,hh⟩;simp;exact AN rfl (by simp[this])
  ·have:LK (.mk k w ks) u=false:=by rw[Bool.eq_false_iff];intro e;exact hh (hb.1 e).2
   simp;exact AN rfl (by simp[this])
def NM (x m:Int):Int:=if x<0 then 0 else if m<x then m else x
def sh (l:List (List Int)) (a b:Int):T × Int × Int:=
 if (Oi l 0 0).2 ≠ 0 then (T0,0,(Oi l 0 0).2)
 else if (GV l (NM a 64).toNat (Oi l 0 0).1 (NM b 65536)).2.2 ≠ 0 then (T0,0,(GV l (NM a 64).toNat (Oi l 0 0).1 (NM b 65536)).2.2)
 else ((GV l (NM a 64).toNat (Oi l 0 0).1 (NM b 65536)).1,NM b 65536-(GV l (NM a 64).toNat (Oi l 0 0).1 (NM b 65536)).2.1,0)
theorem Tt {l:List (List Int)} (hs:Sg l) {a b:Int} (h:(sh l a b).2.2=0):AA l (Oi l 0 0).1 (sh l a b).1:=by
 unfold sh at h ⊢;split at h
 ·rename_i h0;exact absurd h h0
 ·rename_i h0;rw[if_neg h0];split at h
  ·rename_i h1;exact absurd h h1
  ·rename_i h1;rw[if_neg h1];exact IP hs.w _ _ _ (rJ hs.w 0 0) (by omega)
end Go.Proofs.YtbjmaoedheiigaaGreat
namespace Go.PL
def Uq (at_ to kind upper:Int):Int:=4*(if to-at_-1<0 then to-at_-1+1073741824 else to-at_-1)+kind+upper*4294967296
def L3 (w:Nat):List Int→Nat→List Int→List Int
 |[],_,out=>out
 |n::ns,i,out=>L3 w ns (i+1) (if w=0 then out else out.set (i*w / 64) (out.getD (i*w / 64) 0+n*2 ^ (i*w % 64)))
def N9 (c:Int) (ns:List Int):List Int:=L3 (AD c).toNat ns 0 (List.replicate (Ll c ns.length).toNat 0)
def hd (t:T):Int:=t.words.headD 0
theorem Pj:∀ (w:Nat) (ns:List Int) (i:Nat) (out:List Int),(L3 w ns i out).length=out.length
 |w,[],i,out=>rfl
 |w,n::ns,i,out=>by
  rw[L3,Pj];split<;>simp
@[simp] theorem Vo (c:Int) (ns:List Int):(N9 c ns).length=(Ll c ns.length).toNat:=by simp[N9,Pj]
structure PutI (w i:Nat) (out:List Int):Prop where
 rng:∀ (j:Nat) (h:j<out.length),0≤out[j]∧out[j]<18446744073709551616
 here:∀ (h:i*w / 64<out.length),out[i*w / 64]<2 ^ (i*w % 64)
 zero:∀ (j:Nat) (h:j<out.length),i*w / 64<j→out[j]=0
theorem PutI.start (w m:Nat):PutI w 0 (List.replicate m 0):=⟨fun j h=>by simp,fun h=>by simp,fun j h _=>by simp⟩
theorem Uz {w i:Nat} {out:List Int} (h:PutI w i out) (hw:w=1∨w=8∨w=16∨w=32∨w=64) {n:Int} (h0:0≤n) (h1:n<2 ^ w) (hl:i*w / 64<out.length):PutI w (i+1) (out.set (i*w / 64) (out.getD (i*w / 64) 0+n*2 ^ (i*w % 64))) ∧
  0≤out.getD (i*w / 64) 0∧out.getD (i*w / 64) 0<2 ^ (i*w % 64)∧n*2 ^ (i*w % 64)<18446744073709551616∧out.getD (i*w / 64) 0+n*2 ^ (i*w % 64)<18446744073709551616:=by
 have hg:out.getD (i*w / 64) 0=out[i*w / 64]:=by simp[hl]
 rw[hg];obtain⟨r0,r1⟩:=h.rng _ hl;have hh:=h.here hl;have hs:i*w % 64+w≤64:=by
  rcases hw with rfl | rfl | rfl | rfl | rfl<;>omega
 have hp:(0:Int)<2 ^ (i*w % 64):=Int.pow_pos (by decide);have hsum:out[i*w / 64]+n*2 ^ (i*w % 64)<2 ^ (i*w % 64+w):=by
  have e1:n*2 ^ (i*w % 64)≤(2 ^ w-1)*2 ^ (i*w % 64):=Int.mul_le_mul_of_nonneg_right (by omega) (by omega);have e2:(2 ^ w-1)*2 ^ (i*w % 64)=(2:Int) ^ (i*w % 64+w)-2 ^ (i*w % 64):=by
   rw[Int.sub_mul,Int.one_mul,Int.pow_add,Int.mul_comm]
  omega
 have hle:(2:Int) ^ (i*w % 64+w)≤2 ^ 64:=by
  have e:∀ k:Nat,(2:Int) ^ k=((2 ^ k:Nat):Int):=fun k=>by simp
  rw[e,e];exact Int.ofNat_le.2 (Nat.pow_le_pow_right (by decide) hs)
 have hnn:0≤n*2 ^ (i*w % 64):=Int.mul_nonneg h0 (by omega);have h64:(2:Int) ^ 64=18446744073709551616:=by decide
 refine⟨⟨fun j hj=>?_,fun hj=>?_,fun j hj hlt=>?_⟩,r0,hh,by omega,by omega⟩
 ·rw[List.getElem_set];split
  ·omega
  ·exact h.rng j (by simpa using hj)
 ·rw[List.getElem_set];split
  ·rename_i e;have e3:(i+1)*w % 64=i*w % 64+w:=by
    rw[Nat.add_mul,Nat.one_mul] at e ⊢;rcases hw with rfl | rfl | rfl | rfl | rfl<;>omega
   rw[e3];exact hsum
  ·rename_i e;have e4:i*w / 64<(i+1)*w / 64:=by
    have:i*w / 64≤(i+1)*w / 64:=Nat.div_le_div_right (by rw[Nat.add_mul];omega);omega
   rw[h.zero _ (by simpa using hj) e4];exact Int.pow_pos (by decide)
 ·have e5:i*w / 64≤(i+1)*w / 64:=Nat.div_le_div_right (by rw[Nat.add_mul];omega);rw[List.getElem_set];split
  ·omega
  ·exact h.zero j (by simpa using hj) (by omega)
theorem j8 {w n i:Nat} (hw:w=1∨w=8∨w=16∨w=32∨w=64) (h:i<n):i*w / 64<(n*w+63) / 64:=by
 have:(i+1)*w≤n*w:=Nat.mul_le_mul_right _ h;rw[Nat.add_mul] at this;rcases hw with rfl | rfl | rfl | rfl | rfl<;>omega
inductive M7:T→Prop
 |null (w:List Int):M7 (.mk 0 w [])
 |str (w:List Int) (ks:List T):w.length<65536→ks.length<65536→(∀ t,t ∈ ks→M7 t)→M7 (.mk 1 w ks)
 |ptrs (w:List Int) (ks:List T):ks.length<536870912→(∀ t,t ∈ ks→M7 t)→M7 (.mk 8 w ks)
 |comp (w:List Int) (ks:List T):ks.length<536870912→(∀ t,t ∈ ks→t.words.length<65536∧t.kids.length<65536)→(∀ t,t ∈ ks→∀ u,u ∈ t.kids→M7 u)→M7 (.mk 9 w ks)
 |data (k:Int) (w:List Int) (ks:List T):2≤k→k≤7→ks.length<536870912→(∀ c,c ∈ ks→∃ x,c.words=[x]∧0≤x∧x<18446744073709551616∧JA (k-2) x=true)→M7 (.mk k w ks)
theorem ZH:∀ {ts:List T} {t:T},t ∈ ts→t.words.length≤Gx ts
 |u::ts,t,h=>by
  rcases List.mem_cons.1 h with rfl | h
  ·simp only[Gx];omega
  ·have:=ZH h;simp only[Gx];omega
theorem ZU:∀ {ts:List T} {t:T},t ∈ ts→t.kids.length≤Gw ts
 |u::ts,t,h=>by
  rcases List.mem_cons.1 h with rfl | h
  ·simp only[Gw];omega
  ·have:=ZU h;simp only[Gw];omega
end Go.PL
namespace Go.Proofs.YtbjmaoedheiigaaGreat
open Go Go.G Go.Proofs Go.PL
abbrev s1:List (List Int):=[[4294967296,7]]
abbrev s2:List (List Int):=[[8589934592,7,0]]
abbrev s3:List (List Int):=[[4294967296,8]]
theorem sg1:Sg s1:=⟨fun x hx=>by simp at hx;subst hx;simp,fun x hx y hy=>by simp at hx;subst hx;simp at hy;omega⟩
theorem sg3:Sg s3:=⟨fun x hx=>by simp at hx;subst hx;simp,fun x hx y hy=>by simp at hx;subst hx;simp at hy;omega⟩
theorem AdT:sh s1 64 3000=(.mk 1 [7] [],2,0):=by kernel_rfl
theorem Adl:sh s3 64 3000=(.mk 1 [8] [],2,0):=by kernel_rfl
end Go.Proofs.YtbjmaoedheiigaaGreat
namespace Go.G
open Go.RowKit
theorem oI {P:Program} {K:Sta→Prop} {rest:List CO} {s:Nat→A} {H:Hp} {dd:Option Nat} {nm:Nm} {ix:Nat} {un:List Nat} {l:Bool} {lg:Lg} {g:FuncId} {fo:Operand} {fs caps L:List A} {as':Array Operand} {ts:Array TypeId} {x:A} (hv0:evs s fo = .fnc g fs caps) (hL:fs++(as'.toList.map (evs s)++caps)=L) (E:Eff) (R W:Fp) (hs:∀ H2,Agree (R++W) H H2→Yg P H2 g L x E) (hw:Us E W) (hc:Ck un lg ⟨R,W⟩) (h:AB P K rest (BV l ix ⟨R,W⟩ lg) (Sta.put ⟨s,H⟩ dd x (E.app H))) :
  AB P K (⟨dd,.call { callee:=.value fo,args:=as',argTypes:=ts },none,nm,ix,un,l⟩::rest) lg ⟨s,H⟩:=by
 subst hL;exact⟨x,E,⟨R,W⟩,⟨g,fs,caps,hv0,.inr (.inr ⟨hs,hw⟩)⟩,hc,h⟩
theorem ZB {P:Program} {K:Sta→Prop} {rest:List CO} {s:Nat→A} {H:Hp} {dd:Option Nat} {nm:Nm} {ix:Nat} {un:List Nat} {l:Bool} {lg:Lg} {g:FuncId} {fo:Operand} {fs caps L:List A} {as':Array Operand} {ts:Array TypeId}
  (hv0:evs s fo = .fnc g fs caps) (hL:fs++(as'.toList.map (evs s)++caps)=L) (rs:List Nat) (m:Nat) {args:List A} {Hc Hr H':Hp} {r x:A} (hS:Jc P g rs.length args Hc r Hr) (hnd:rs.Nodup) (hm:m≤rs.length)
  (ha:A.renL (YJ rs) (fun _=>0) L=args) (har:A.refsL (Yv rs m) L) (hH:Mg rs m H=Hc) (hcl:Wi rs m H)
  (hr:r.refs (Iu rs.length)) (ho:∀ (i:Nat) (p:Nm),i<rs.length→(Hr (i::p)).ob.refs (Iu rs.length)) (hv:∀ (i:Nat) (p:Nm),m≤i→i<rs.length→(Hr (i::p)).ob = .none∨1≤(Hr (i::p)).u)
  (hx:r.ren (VI rs) (OY rs m H)=x) (hH':Nx rs (OY rs m H) H Hr=H') (hck:Ck un lg ⟨[],rs.map fun r=>([r],true)⟩)
  (h:AB P K rest (BV l ix ⟨[],rs.map fun r=>([r],true)⟩ lg) (Sta.put ⟨s,H⟩ dd x H')) :
  AB P K (⟨dd,.call { callee:=.value fo,args:=as',argTypes:=ts },none,nm,ix,un,l⟩::rest) lg ⟨s,H⟩:=by
 have hit_in:∀ {j:Nat} {p:Nm},j ∈ rs→Y8 (rs.map fun r=>([r],true)) (j::p)=true:=fun {j p} hj=>by
  simp only[Y8,List.any_map,List.any_eq_true];exact⟨j,hj,by simp[W6,List.isPrefixOf]⟩
 have hnil:(Eff.fn rs (Ii rs m H Hr)).app H=H':=by rw[Wx];exact hH'
 subst hx;rw[← hnil] at h;refine oI hv0 hL (Eff.fn rs (Ii rs m H Hr)) [] (rs.map fun r=>([r],true)) (fun H2 hag=>?_) (fun o H2 ho'=>?_) hck h
 ·have ag:∀ {j:Nat} {p:Nm},j ∈ rs→H2 (j::p)=H (j::p):=fun {j p} hj=>hag _ (by simpa using hit_in hj);have agi:∀ {i:Nat} {p:Nm},i<rs.length→H2 (rs.getD i 0::p)=H (rs.getD i 0::p):=fun {i p} hi=>ag (by simp[List.getD,hi]);have hd:OY rs m H2=OY rs m H:=by
   funext o;cases o with
   |nil=>rfl
   |cons i p=>
    simp only[OY];by_cases hi:i<rs.length
    ·rw[agi hi]
    ·rw[if_neg hi,if_neg hi]
  have hoH:Ii rs m H2 Hr=Ii rs m H Hr:=by
   funext o;cases o with
   |nil=>rfl
   |cons j p=>simp only[Ii,hd]
  subst ha;have:=Uf (P:=P) (f:=g) (rs:=rs) (m:=m) (args:=L) (Hc:=Hc) (Hr:=Hr) (r:=r) (H:=H2) hnd hm hS
   (fun i p hi=>by rw[← hH,agi (by omega)];simp only[Mg,if_pos hi]) (fun i p hi=>by rw[← hH];simp only[Mg];rw[if_neg (by omega)]) (by rw[← hH];rfl) har
   (fun i p hi=>by rw[agi (by omega)];exact hcl _ _ (by rw[MQ hnd (by omega)];exact hi)) hr ho hv
  rwa [hd,hoH] at this
 ·cases o with
  |nil=>rfl
  |cons j p=>
   have:¬ j ∈ rs:=fun hj=>by rw[hit_in hj] at ho';cases ho'
   simp[Eff.app,this]
theorem xb {P:Program} {H:Hp} {g:FuncId} {L:List A} (rs:List Nat) (m:Nat) {args:List A} {Hc Hr H':Hp} {r:A} (hS:Jc P g rs.length args Hc r Hr) (hnd:rs.Nodup) (hm:m≤rs.length)
  (ha:A.renL (YJ rs) (fun _=>0) L=args) (har:A.refsL (Yv rs m) L) (hH:Mg rs m H=Hc) (hcl:Wi rs m H)
  (hr:r.refs (Iu rs.length)) (ho:∀ (i:Nat) (p:Nm),i<rs.length→(Hr (i::p)).ob.refs (Iu rs.length)) (hv:∀ (i:Nat) (p:Nm),m≤i→i<rs.length→(Hr (i::p)).ob = .none∨1≤(Hr (i::p)).u)
  (hH':Nx rs (OY rs m H) H Hr=H'):∃ E,Y4 P H g L (r.ren (VI rs) (OY rs m H)) E [] (rs.map fun r=>([r],true))∧E.app H=H':=by
 have hit_in:∀ {j:Nat} {p:Nm},j ∈ rs→Y8 (rs.map fun r=>([r],true)) (j::p)=true:=fun {j p} hj=>by
  simp only[Y8,List.any_map,List.any_eq_true];exact⟨j,hj,by simp[W6,List.isPrefixOf]⟩
 have hnil:(Eff.fn rs (Ii rs m H Hr)).app H=H':=by rw[Wx];exact hH'
 refine⟨Eff.fn rs (Ii rs m H Hr),.inr (.inr ⟨fun H2 hag=>?_,fun o H2 ho'=>?_⟩),hnil⟩
 ·have ag:∀ {j:Nat} {p:Nm},j ∈ rs→H2 (j::p)=H (j::p):=fun {j p} hj=>hag _ (by simpa using hit_in hj);have agi:∀ {i:Nat} {p:Nm},i<rs.length→H2 (rs.getD i 0::p)=H (rs.getD i 0::p):=fun {i p} hi=>ag (by simp[List.getD,hi]);have hd:OY rs m H2=OY rs m H:=by
   funext o;cases o with
   |nil=>rfl
   |cons i p=>
    simp only[OY];by_cases hi:i<rs.length
    ·rw[agi hi]
    ·rw[if_neg hi,if_neg hi]
  have hoH:Ii rs m H2 Hr=Ii rs m H Hr:=by
   funext o;cases o with
   |nil=>rfl
   |cons j p=>simp only[Ii,hd]
  subst ha;have:=Uf (P:=P) (f:=g) (rs:=rs) (m:=m) (args:=L) (Hc:=Hc) (Hr:=Hr) (r:=r) (H:=H2) hnd hm hS
   (fun i p hi=>by rw[← hH,agi (by omega)];simp only[Mg,if_pos hi]) (fun i p hi=>by rw[← hH];simp only[Mg];rw[if_neg (by omega)]) (by rw[← hH];rfl) har
   (fun i p hi=>by rw[agi (by omega)];exact hcl _ _ (by rw[MQ hnd (by omega)];exact hi)) hr ho hv
  rwa [hd,hoH] at this
 ·cases o with
  |nil=>rfl
  |cons j p=>
   have:¬ j ∈ rs:=fun hj=>by rw[hit_in hj] at ho';cases ho'
   simp[Eff.app,this]
theorem Aa0 {P:Program} {K:Sta→Prop} {rest:List CO} {s:Nat→A} {H H':Hp} {dd:Option Nat} {nm:Nm} {ix:Nat} {un:List Nat} {l:Bool} {lg:Lg} {ro:Operand} {name:String} {t:TypeId} {a a':A} {g:FuncId} {d:Option TypeId} {L:List A} {as':Array Operand} {ts:Array TypeId} {x:A} {R W:Fp}
  (hr:evs s ro = .ifc t a) (hm:QE P t name=some (g,d)) (ha:Zg P H d a=some a') (hL:a'::as'.toList.map (evs s)=L) (hc:∃ E,Y4 P H g L x E R W∧E.app H=H') (hck:Ck un lg ⟨refs a++R,W⟩)
  (h:AB P K rest (BV l ix ⟨refs a++R,W⟩ lg) (Sta.put ⟨s,H⟩ dd x H')) :
  AB P K (⟨dd,.call { callee:=.invoke ro name,args:=as',argTypes:=ts },none,nm,ix,un,l⟩::rest) lg ⟨s,H⟩:=by
 obtain⟨E,h1,rfl⟩:=hc;subst hL;exact⟨x,E,⟨refs a++R,W⟩,⟨t,a,g,d,a',R,hr,hm,ha,h1,rfl⟩,hck,h⟩
end Go.G
namespace Go.Proofs.YtbjmaoedheiigaaGreat
open Go Go.G Go.Proofs Go.PL
def Adx (h x:Int):Int:=u64.wrap (bits .xor .u64 h x*1099511628211)
def Q3 (h x:Int):Int:=bits .xor .u64 (Adx h x) (Adx h x / 2 ^ min 29 u64.bits)
mutual
def Ev:T→Int
 |.mk k w l=>Tn (w.foldl Q3 (Q3 (Q3 14695981039346656037 (u64.wrap k)) (u64.wrap w.length))) l
def Tn:Int→List T→Int
 |h,[]=>h
 |h,t::l=>Tn (Q3 h (Ev t)) l
end
def mg (u:Nat) (h:Int):Nm→VOb
 |[]=>⟨u,.cells [uv h]⟩
 |_=>⟨0,.none⟩
@[simp] theorem Ag9 {u:Nat} {h:Int}:mg u h []=⟨u,.cells [uv h]⟩:=rfl
theorem ND (u:Nat) (h x:Int):Jc Tryz.prog 269 1 [.pob [0] u 0,uv x] (ov 0 (mg u h) (EH [])) (.tup []) (ov 0 (mg u (Q3 h x)) (EH [])):=by
 refine Jf Th (by simp) fun w0 I0 M0 m0=>?_;unfold LQ;simp[Aa];refine Pa rfl rfl (fun i p hi=>?_);have hi0:i=0:=by omega
 subst hi0;simp only[AZ,if_true];refine Gf rfl (fun h1=>?_);cases p with
 |nil=>exact absurd rfl h1
 |cons a p=>rfl
theorem bM {P:Program} {K:Sta→Prop} {rest:List CO} {s:Nat→A} {H:Hp} {dd:Option Nat} {nm:Nm} {ix:Nat} {un:List Nat} {l:Bool} {lg:Lg} {g:FuncId} {fo:Operand} {aa:Array Operand} {ts:Array TypeId}
  {r u:Nat} {h x:Int} (ho:evs s fo = .fnc g [.pob [r] u 0] []) (hS:Jc P g 1 [.pob [0] u 0,uv x] (ov 0 (mg u h) (EH [])) (.tup []) (ov 0 (mg u (Q3 h x)) (EH []))) (hF:∀ p,H (r::p)=mg u h p)
  (ha:aa.toList.map (evs s)=[uv x]) (hck:Ck un lg ⟨[],[([r],true)]⟩)
  (h:AB P K rest (BV l ix ⟨[],[([r],true)]⟩ lg) (Sta.put ⟨s,H⟩ dd (.tup []) (ov r (mg u (Q3 h x)) H))) :
  AB P K (⟨dd,.call { callee:=.value fo,args:=aa,argTypes:=ts },none,nm,ix,un,l⟩::rest) lg ⟨s,H⟩:=by
 have hd:∀ p,OY [r] 1 H (0::p)=0:=fun p=>rfl;refine ZB (L:=[.pob [r] u 0,uv x]) ho (by rw[ha];rfl) [r] 1 hS (by simp) (by simp) ?_ ?_ ?_ ?_ (by simp[A.refs,A.refsL]) ?_ (fun i p h1 h2=>by simp at h2;omega) rfl ?_ hck h
 ·simp[A.renL,A.ren,YJ]
 ·simp[A.refs,A.refsL,Yv]
 ·funext o;cases o with
  |nil=>rfl
  |cons i p=>
   by_cases hi:i<1
   ·have:i=0:=by omega
    subst this;simp only[Mg,if_pos hi,AZ,if_true];show(H (r::p)).ren _ _ 0=_;rw[hF];cases p<;>rfl
   ·simp only[Mg,if_neg hi,AZ];rw[if_neg (by omega)];rfl
 ·intro j p hj;have hjr:j=r:=by
   have:=(idx_mem (rs:=[r])).1 (by simpa using hj);simpa using this
  rw[hjr,hF];cases p with
  |nil=>simp[mg,Ob.refs,A.refsL,A.refs]
  |cons a p=>trivial
 ·intro i p hi;have:i=0:=by simp at hi;omega
  subst this;simp only[AZ,if_true];cases p with
  |nil=>simp[mg,Ob.refs,A.refsL,A.refs]
  |cons a p=>trivial
 ·funext o;cases o with
  |nil=>rfl
  |cons j p=>
   by_cases hj:j=r
   ·subst hj;simp only[Nx,AZ,if_true];rw[if_pos (by simp)];have:[j].idxOf j=0:=by simp
    rw[this,if_pos rfl,hd];cases p<;>rfl
   ·have:¬ [r].contains j=true:=by simpa using hj
    simp only[Nx,if_neg this,AZ,if_neg hj]
abbrev mxV:A:=.fnc 269 [.pob [1] 1 0] []
abbrev yj (l:List (List Int)) (t:T):Prop:=∀ r,AA l r t→G.Spec Tryz.prog 258 [Hi l r] (.tup [uv (Ev (Ah t)),iv 0])
variable {n0:Nat} {w0:World} {I0:Nat→Prop} {Q:Exit→Sta→Prop}
theorem wP {l:List (List Int)} (hl:Sg l) {r:Rf} {t:T} (ht:AA l r t):∀ (m i:Nat) (h:Int) (H:Hp),i+m=nW t→H [0]=⟨1,.cells (Yw l r)⟩→(∀ p,H (1::p)=mg 1 h p) →
  (∀ i' q H',H' [0]=⟨1,.cells (Yw l r)⟩→(∀ p,H' (1::p)=mg 1 (((t.words.take (nW t)).drop i).foldl Q3 h) p)→Q (.exit 0) ⟨lk [(1,.pob [0] 1 0),(4,.pob [1] 1 0),(5,mxV),(6,iv (nK t)),(36,iv (nW t)),(37,iv i'),(38,bv q)],H'⟩) →
  LoopC (cx Tryz.prog w0 I0 n0) IE Q ⟨lk [(1,.pob [0] 1 0),(4,.pob [1] 1 0),(5,mxV),(6,iv (nK t)),(36,iv (nW t)),(37,iv i)],H⟩:=by
 have h1:=DI ht;have w1:=Zn t;intro m;induction m with
 |zero=>
  intro i h H hi hA hM hq;have:i=nW t:=by omega
  subst this;refine Ab Ai IE.eq_1 ?_;simp;exact hq _ _ H hA (fun p=>by rw[hM,List.drop_of_length_le (by simp;omega)];rfl)
 |succ m ihm=>
  intro i h H hi hA hM hq;have hlt:i<nW t:=by omega
  have lt1:i<t.words.length:=by omega
  have ei:=Av i;have hw:=(Db ht).2 i lt1;refine Ab Ai IE.eq_1 ?_;simp[hlt,hA];refine Ae (G3 hl (Cy ht) i) (by simp) ?_;rw[hw];simp;refine bM (x:=t.words[i]) rfl (ND 1 h _) hM (by simp) (by simp) ?_;simp[ei];refine ihm (i+1) (Q3 h t.words[i]) _ (by omega) (by simp[hA]) (fun p=>by simp) fun i' q H' a0 a1=>hq i' q H' a0 fun p=>?_;rw[a1];have:(t.words.take (nW t)).drop i=t.words[i]::(t.words.take (nW t)).drop (i+1):=by
   rw[List.drop_eq_getElem_cons (by simp;omega)];simp
  rw[this];rfl
theorem vZ {l:List (List Int)} (hl:Sg l) {r:Rf} {t:T} (ht:AA l r t) (ih:∀ c,c ∈ t.kids→yj l c):∀ (m i:Nat) (h:Int) (H:Hp),i+m=nK t→H [0]=⟨1,.cells (Yw l r)⟩→(∀ p,H (1::p)=mg 1 h p) →
  (∀ i' q H',(∀ p,H' (1::p)=mg 1 (Tn h (((t.kids.take (nK t)).map Ah).drop i)) p)→Q (.exit 2) ⟨lk [(1,.pob [0] 1 0),(4,.pob [1] 1 0),(5,mxV),(46,iv (nK t)),(47,iv i'),(48,bv q)],H'⟩) →
  LoopC (cx Tryz.prog w0 I0 n0) IJ Q ⟨lk [(1,.pob [0] 1 0),(4,.pob [1] 1 0),(5,mxV),(46,iv (nK t)),(47,iv i)],H⟩:=by
 have h1:=DI ht;have w1:=eg t;intro m;induction m with
 |zero=>
  intro i h H hi hA hM hq;have:i=nK t:=by omega
  subst this;refine Ab Ai IJ.eq_1 ?_;simp;exact hq _ _ H (fun p=>by rw[hM,List.drop_of_length_le (by simp;omega),Tn])
 |succ m ihm=>
  intro i h H hi hA hM hq;have hlt:i<nK t:=by omega
  have lt1:i<t.kids.length:=by omega
  have ei:=Av i;obtain⟨a1,a2⟩:=F9 ht lt1;have ihc:=ih _ (Bg lt1) _ a2;refine Ab Ai IJ.eq_1 ?_;simp[hlt,hA];refine Ae (Kx hl (Cy ht) i) (by simp) ?_;simp[a1,Aa,hA];refine Ae ihc (by simp) ?_;simp;refine bM (x:=Ev (Ah t.kids[i])) rfl (ND 1 h _) (fun p=>by simp[Aa,hM]) (by simp) (by simp) ?_;simp[ei];refine ihm (i+1) (Q3 h (Ev (Ah t.kids[i]))) _ (by omega) (by simp[Aa,hA]) (fun p=>by simp) fun i' q H' a3=>hq i' q H' fun p=>?_;rw[a3];have:((t.kids.take (nK t)).map Ah).drop i=Ah t.kids[i]::((t.kids.take (nK t)).map Ah).drop (i+1):=by
   rw[List.drop_eq_getElem_cons (by simp;omega)];simp
  rw[this,Tn]
theorem ow {l:List (List Int)} (hl:Sg l):∀ t,yj l t:=by
 refine T.ind fun k w ks ih r ht=>?_;have hln:=DI ht;have w1:=Zn (.mk k w ks);have k1:=CK ht;refine Aj ca (by simp) fun w0 I0=>?_;unfold Tx;simp;refine Ae (Ct l r) (by simp) ?_;simp;refine bM (x:=u64.wrap r.kind) rfl (ND 1 14695981039346656037 _) (fun p=>by cases p<;>simp[mg]) (by simp) (by simp) ?_;simp;refine Ae (QI hl ht) (by simp) ?_;simp;refine Ae (Jd hl ht) (by simp) ?_;simp;refine bM (x:=u64.wrap (nW (.mk k w ks))) rfl (ND 1 _ _) (fun p=>by simp;rfl) (by simp) (by simp) ?_;simp;refine Ae (Jd hl ht) (by simp) ?_;simp;refine wP hl ht (nW (.mk k w ks)) 0 _ _ (by omega) (by simp) (fun p=>by simp;rfl) fun i' q H' hA hM=>?_;simp;refine vZ hl ht ih (nK (.mk k w ks)) 0 _ H' (by omega) hA hM fun i' q H2 hM2=>?_;have h0:=hM2 [];simp at h0;simp[h0];refine AN rfl ?_;have hb:=Ri ht;have hw:=KJ hb;have hk:=MU hb;have key:Ev (Ah (.mk k w ks))=Tn (((T.mk k w ks).words.take (nW (.mk k w ks))).foldl Q3 (Q3 (Q3 14695981039346656037 (u64.wrap k)) (u64.wrap (nW (.mk k w ks))))) (((T.mk k w ks).kids.take (nK (.mk k w ks))).map Ah):=by
  rw[T.eta (Ah (.mk k w ks)),Ev,CB,hw,hk];have:((T.mk k w ks).words.take (nW (.mk k w ks))).length=nW (.mk k w ks):=by simp at w1 ⊢; omega
  rw[this,T.kind_mk]
 rw[key,k1,T.kind_mk];simp[List.map_take]
mutual
theorem Qh:∀ (t:T) (d:Nat) (n:Int),-1≤DJ d n t∧(-1≤n→DJ d n t≤n)
 |.mk k w l,d,n=>by
  rw[QQ];split
  ·omega
  ·have:=Oz l (d-1) (n-1-w.length) (by omega);omega
theorem Oz:∀ (l:List T) (d:Nat) (n:Int),-1≤n→-1≤DW d n l∧DW d n l≤n
 |[],d,n,h=>by simp;omega
 |t::l,d,n,h=>by
  rw[IH];split
  ·omega
  ·have h1:=Qh t d n;have h2:=Oz l d (DJ d n t) h1.1;omega
end
theorem bF (l:List T) (d:Nat) {n:Int} (h:n<0):DW d n l=n:=by
 cases l with
 |nil=>simp
 |cons t l=>simp[h]
theorem kL {t:T} {d:Nat} (hd:1≤d) (hd1:d≤1000) (hl:t.kids.length*56≤140737488355328) (ih:∀ c,c ∈ t.kids→∀ (d:Nat) (n:Int),d≤1000→0≤n→n≤1000000→G.Spec Tryz.prog 27 [tX c,iv d,iv n] (iv (DJ d n c)))
  {H:Hp} (hH:H [0]=⟨1,.cells [iv t.kind,Dz t.words,Bm t.kids]⟩):∀ (m i:Nat) (n:Int),i+m=t.kids.length→-1≤n→n≤1000000 →
  (∀ i' q,Q (.exit 0) ⟨lk [(1,iv d),(2,iv (DW (d-1) n (t.kids.drop i))),(3,.pob [0] 1 0),(7,iv i'),(28,bv q)],H⟩) →
  LoopC (cx Tryz.prog w0 I0 n0) DA Q ⟨lk [(1,iv d),(2,iv n),(3,.pob [0] 1 0),(7,iv i)],H⟩:=by
 intro m;induction m with
 |zero=>
  intro i n hi h1 h2 hq;have:i=t.kids.length:=by omega
  subst this;refine Ab Ai DA.eq_1 ?_;simp[hH];simpa using hq _ false
 |succ m ihm=>
  intro i n hi h1 h2 hq;have hlt:i<t.kids.length:=by omega
  refine Ab Ai DA.eq_1 ?_;have e:t.kids.drop i=t.kids[i]::t.kids.drop (i+1):=List.drop_eq_getElem_cons hlt;by_cases hn:n<0
  ·simp[hH,hlt,show ¬ (0:Int)≤n by omega];have:=hq i false
   rwa [bF _ _ hn] at this
  ·have hn':0≤n:=by omega
   simp[hH,hlt,hn'];have ed:i64.wrap ((d:Int)-1)=((d-1:Nat):Int):=AP;rw[ed];refine Ae (ih _ (Bg hlt) (d-1) n (by omega) hn' h2) rfl ?_;simp;have hr:=Qh t.kids[i] (d-1) n;rw[Al (by omega) (by omega)];refine ihm (i+1) _ (by omega) hr.1 (by omega) fun i' q=>?_;have:=hq i' q;rw[e,IH,if_neg (by omega)] at this;exact this
theorem cC:∀ (t:T),BH t→∀ (d:Nat) (n:Int),d≤1000→0≤n→n≤1000000→G.Spec Tryz.prog 27 [tX t,iv d,iv n] (iv (DJ d n t)):=by
 refine T.ind fun k w l ih hw d n hd hn hn1=>?_;have hw':=wfT_iff.1 hw;have hwl:=hw'.wl;have hkl:=hw'.kl;simp at hwl hkl;have ihc:∀ c,c ∈ (T.mk k w l).kids→∀ (d:Nat) (n:Int),d≤1000→0≤n→n≤1000000→G.Spec Tryz.prog 27 [tX c,iv d,iv n] (iv (DJ d n c)):=fun c hc=>ih c hc (hw'.ks c hc);refine Aj O1 (by simp) fun w0 I0=>?_;unfold Je;have e1:i64.wrap (i64.wrap (n-1)-(w.length:Int))=n-1-w.length:=by rw[Al (n:=n-1) (by omega) (by omega),Al (by omega) (by omega)]
 rw[QQ];by_cases hc:d=0∨n-1-(w.length:Int)<0
 ·have hd:(decide (d=0) || decide (n-1-(w.length:Int)<0))=true:=by simp;omega
  simp[e1,hd,hc];exact Ad rfl
 ·have hd:(decide (d=0) || decide (n-1-(w.length:Int)<0))=false:=by simp;omega
  simp[e1,hd,hc];refine kL (t:=.mk k w l) (by omega) (by omega) hkl ihc (by simp) l.length 0 _ (by simp) (by omega) (by omega) fun i' q=>?_;simp;exact Ad rfl
abbrev tL (t:T):List A:=[iv t.kind,Dz t.words,Bm t.kids]
theorem sy {t:T} (hl:t.kids.length*56≤140737488355328) {H:Hp} (hH:H [0]=⟨1,.cells (tL t)⟩):∀ (m i a b:Nat),i+m=t.kids.length →
  (∀ i' q (x y:Nat),x=max a (Gx (t.kids.drop i))→y=max b (Gw (t.kids.drop i))→Q (.exit 0) ⟨lk [(1,.pob [0] 1 0),(4,iv x),(5,iv y),(6,iv i'),(11,bv q)],H⟩) →
  LoopC (cx Tryz.prog w0 I0 n0) El Q ⟨lk [(1,.pob [0] 1 0),(4,iv a),(5,iv b),(6,iv i)],H⟩:=by
 intro m;induction m with
 |zero=>
  intro i a b hi hq;have:i=t.kids.length:=by omega
  subst this;refine Ab Ai El.eq_1 ?_;simp[hH];exact hq _ false _ _ (by simp[Gx]) (by simp[Gw])
 |succ m ih=>
  intro i a b hi hq;have hlt:i<t.kids.length:=by omega
  have e:t.kids.drop i=t.kids[i]::t.kids.drop (i+1):=List.drop_eq_getElem_cons hlt;have ei:=Av i;refine Ab Ai El.eq_1 ?_;simp[hH,hlt];refine⟨fun h1=>?_,fun h1=>?_⟩;all_goals
   rw[Jz.eq_1];simp[hH,hlt,ei];refine⟨fun h2=>?_,fun h2=>?_⟩
  ·exact ih (i+1) _ _ (by omega) fun i' q x y hx hy=>hq i' q x y (by rw[hx,e,Gx];omega) (by rw[hy,e,Gw];omega)
  ·exact ih (i+1) _ _ (by omega) fun i' q x y hx hy=>hq i' q x y (by rw[hx,e,Gx];omega) (by rw[hy,e,Gw];omega)
  ·exact ih (i+1) _ _ (by omega) fun i' q x y hx hy=>hq i' q x y (by rw[hx,e,Gx];omega) (by rw[hy,e,Gw];omega)
  ·exact ih (i+1) _ _ (by omega) fun i' q x y hx hy=>hq i' q x y (by rw[hx,e,Gx];omega) (by rw[hy,e,Gw];omega)
theorem di (t:T) (hl:t.kids.length*56≤140737488355328):G.Spec Tryz.prog 66 [tX t] (.tup [iv (Gx t.kids),iv (Gw t.kids)]):=by
 refine Aj RA (by simp) fun w0 I0=>?_;unfold KU;simp;refine sy (t:=t) hl (by simp) t.kids.length 0 0 0 (by omega) fun i' q x y hx hy=>?_;simp;refine AN rfl ?_;simp[hx,hy]
theorem xn {a b:T} (hl:a.kids.length*56≤140737488355328) (hn:a.kids.length=b.kids.length) (ih:∀ c,c ∈ a.kids→∀ u,G.Spec Tryz.prog 50 [tX c,tX u] (bv (HA c u)))
  {H:Hp} (hA:H [0]=⟨1,.cells (tL a)⟩) (hB:H [1]=⟨1,.cells (tL b)⟩):∀ (m i:Nat),i+m=a.kids.length→a.kids.take i=b.kids.take i→(a.kids=b.kids→∀ i' q,Q (.exit 0) ⟨lk [(2,.pob [0] 1 0),(3,.pob [1] 1 0),(5,iv i'),(32,bv q)],H⟩)→(a.kids ≠ b.kids→Q .ret ⟨lk [(4,bv false)],H⟩) →
  LoopC (cx Tryz.prog w0 I0 n0) EP Q ⟨lk [(2,.pob [0] 1 0),(3,.pob [1] 1 0),(5,iv i)],H⟩:=by
 intro m;induction m with
 |zero=>
  intro i hi ht h1 h2;have:i=a.kids.length:=by omega
  subst this;refine Ab Ai EP.eq_1 ?_;simp[hA,hB];refine h1 ?_ _ _;rw[AL (BZ _),AL (by omega)] at ht;exact ht
 |succ m ihm=>
  intro i hi ht h1 h2;have hlt:i<a.kids.length:=by omega
  have hlt':i<b.kids.length:=by omega
  refine Ab Ai EP.eq_1 ?_;simp[hA,hB,hlt,hlt'];refine Ae (ih _ (Bg hlt) b.kids[i]) rfl ?_;simp;cases hs:HA a.kids[i] b.kids[i] with
  |false=>
   simp;refine h2 fun e=>?_;have:a.kids[i]=b.kids[i]:=by simp[e]
   rw[← sameB_iff,hs] at this;cases this
  |true=>
   simp;rw[Al (by omega) (by omega)];refine ihm (i+1) (by omega) ?_ h1 h2;rw[Fm hlt,Fm hlt',ht,sameB_iff.1 hs]
set_option maxRecDepth 8000 in
theorem Oq:∀ (a:T),BH a→∀ b:T,G.Spec Tryz.prog 50 [tX a,tX b] (bv (HA a b)):=by
 refine T.ind fun k w l ih hw b=>?_;have hw':=wfT_iff.1 hw;have hwl:=hw'.wl;have hkl:=hw'.kl;simp at hwl hkl;refine Aj TJ (by simp) fun w0 I0=>?_;unfold LB;have no:(k ≠ b.kind∨w ≠ b.words∨l ≠ b.kids)→HA (.mk k w l) b=false:=fun h=>by
  rw[Bool.eq_false_iff];intro e;have:=sameB_iff.1 e;subst this;simp at h
 by_cases h1:k=b.kind
 ·by_cases h2:w=b.words
  ·by_cases h3:l.length=b.kids.length
   ·simp[h1];refine B0 rfl (fun _=>Q2 w b.words hwl) (fun _=>rfl) rfl ?_;simp[h2,h3];refine xn (a:=.mk k w l) (b:=b) hkl h3 (fun c hc u=>ih c hc (hw'.ks c hc) u) (by simp[h1,h2]) (by simp) l.length 0 (by simp) rfl (fun e i' q=>?_) (fun e=>?_)
    ·simp;have:HA (.mk k w l) b=true:=sameB_iff.2 (T.ext' h1 h2 e);rw[← h1,← h2,this];exact Ad rfl
    ·simp;rw[← h1,← h2,no (.inr (.inr e))];exact Ad rfl
   ·simp[h1];refine B0 rfl (fun _=>Q2 w b.words hwl) (fun _=>rfl) rfl ?_;simp[h2,h3];refine⟨fun h=>absurd (by omega) h3,fun _=>?_⟩;rw[← h1,← h2,no (.inr (.inr fun e=>h3 (by rw[e])))];exact Ad rfl
  ·simp[h1];refine B0 rfl (fun _=>Q2 w b.words hwl) (fun _=>rfl) rfl ?_;simp[h2];rw[← h1,no (.inr (.inl h2))];exact Ad rfl
 ·simp[h1];refine AY rfl ?_;simp;rw[no (.inl h1)];exact Ad rfl
theorem vv {t:T} (hl:t.kids.length*56≤140737488355328) (ih:∀ c,c ∈ t.kids→G.Spec Tryz.prog 32 [tX c] (tX (Ah c))) {v:VOb}:∀ (m i:Nat) (u:Nat) (H:Hp),i+m=t.kids.length→H [0]=⟨1,.cells (tL t)⟩→H [1]=v→H [3]=⟨u,.arr 3 (((t.kids.take i).map Ah).map tA)⟩ →
  (∀ i' q (u':Nat) (H':Hp),H' [0]=⟨1,.cells (tL t)⟩→H' [1]=v→H' [3]=⟨u',.arr 3 ((t.kids.map Ah).map tA)⟩→Q (.exit 0) ⟨lk [(1,.pob [0] 1 0),(2,.pob [1] 1 0),(3,.osl [3] u' 3 0 t.kids.length),(4,iv (BO t.kids).length),(5,iv i'),(16,bv q)],H'⟩) →
  LoopC (cx Tryz.prog w0 I0 n0) EW Q ⟨lk [(1,.pob [0] 1 0),(2,.pob [1] 1 0),(3,.osl [3] u 3 0 i),(4,iv (BO (t.kids.take i)).length),(5,iv i)],H⟩:=by
 intro m;induction m with
 |zero=>
  intro i u H hi hA hR hB hq;have:i=t.kids.length:=by omega
  subst this;refine Ab Ai EW.eq_1 ?_;simp[hA];have:=hq t.kids.length false u H hA hR (by rw[hB];simp);simpa using this
 |succ m ihm=>
  intro i u H hi hA hR hB hq;have hlt:i<t.kids.length:=by omega
  refine Ab Ai EW.eq_1 ?_;simp[hA,hlt];refine Ae (ih _ (Bg hlt)) rfl ?_;simp[Aa,hB];have ei:=Av i;have hrow:=gp (f:=tA ∘ Ah) hlt (x:=A.agg [iv t.kids[i].kind,Dz (Ah t.kids[i]).words,Bm (Ah t.kids[i]).kids]) (by simp);rw[hrow];refine⟨⟨by omega,by omega⟩,fun h=>?_,fun h=>?_⟩
  ·rw[ei,← Rj hlt h];exact ihm (i+1) (u+1) _ (by omega) (by simp[Aa,hA]) (by simp[Aa,hR]) (by simp[Aa]) hq
  ·have ek:(BO (t.kids.take (i+1))).length=i+1:=by rw[Rp hlt h];simp;omega
   rw[ei];have:=fun H h1 h2 h3=>ihm (i+1) (u+1) H (by omega) h1 h2 h3 hq;rw[ek] at this;exact this _ (by simp[Aa,hA]) (by simp[Aa,hR]) (by simp[Aa])
theorem EN:∀ (t:T),BH t→G.Spec Tryz.prog 32 [tX t] (tX (Ah t)):=by
 refine T.ind fun k w l ih hw=>?_;have hw':=wfT_iff.1 hw;have hwl:=hw'.wl;have hkl:=hw'.kl;simp at hwl hkl;refine Aj TG (by simp) fun w0 I0=>?_;unfold LJ;rw[BS];by_cases h0:k=0
 ·simp[h0];exact sO
 ·simp[h0];refine LoopC.le (Cd 3 [3] 3 (by simp)) ?_;simp;refine LoopC.le (Ao [(1,.pob [0] 1 0),(2,.pob [1] 1 0),(3,.osl [3] 1 3 0 0),(4,iv 0),(5,iv 0)] (by simp[upd])) ?_;refine vv (t:=.mk k w l) (by simpa using hkl) (fun c hc=>ih c hc (hw'.ks c hc)) l.length 0 1 _ (by simp) (by simp) rfl (by simp) fun i' q u' H' hA hR hB=>?_;have hle:=Ji l;by_cases h1:k=1
  ·subst h1;simp at hA hR hB;simp[hA,hR,hB,hle,Aa];refine Ae (jf w hwl) rfl ?_;simp[hA,hR,hB,hle,Aa];refine Cn ?_;simp;rw[PN];refine⟨Ad rfl,Ad rfl,?_⟩;have:=Yo (H:=Ay H' [1] ⟨1,.cells [iv 1,A.sl false (List.map uv (Cf w)),A.osl [3] u' 3 0 (BO l).length]⟩) (o:=[3]) (u:=u') (sz:=3) (l:=l) (f:=tA ∘ Ah) (by simp[Aa,hB]) hle (by simp);rw[← List.map_take];show J3 _ _ (A.sl false (((l.take (BO l).length).map Ah).map tA));rw[List.map_map];exact this
  ·simp at hA hR hB;simp[hA,hR,hB,h1,Aa];refine⟨hwl,Cn ?_⟩;simp;refine⟨Ad rfl,Bx (by simp[Aa]) rfl (by simp),?_⟩;have:=Bx (H:=Ay (Ay H' [4] { u:=(H' [4]).u+1,ob:=Ob.arr 1 (List.map uv w) }) [1] ⟨1,.cells [A.v (Value.int i64 k),A.osl [4] ((H' [4]).u+1) 1 0 w.length,A.osl [3] u' 3 0 l.length]⟩) (o:=[3]) (u:=u') (sz:=3) (l:=l) (f:=tA ∘ Ah) (by simp[Aa,hB]) rfl (by simp);show J3 _ _ (A.sl false ((l.map Ah).map tA));rw[List.map_map];exact this
theorem Vu {a b:T} (ha:BH a) (hb:BH b) (hn:BH (Ah a)):G.Spec Tryz.prog 101 [tX a,tX b] (bv (LK a b)):=by
 refine Aj QT (by simp) fun w0 I0=>?_;unfold KA;simp;refine Ae (EN a ha) rfl ?_;simp;refine Ae (EN b hb) rfl ?_;simp;refine Ae (Oq (Ah a) hn (Ah b)) rfl ?_;simp;exact Ad rfl
theorem GU:∀ (t:T),BH t→BH (Ah t):=by
 refine T.ind fun k w l ih hw=>?_;have hw':=wfT_iff.1 hw;rw[BS];have h2:∀ (l:List T),(∀ t,t ∈ l→∃ u,u ∈ l∧t=u)→True:=fun _ _=>trivial;have hm:∀ t,t ∈ l.map Ah→BH t:=fun t ht=>by
  obtain⟨u,hu,rfl⟩:=List.mem_map.1 ht;exact ih u hu (hw'.ks u hu)
 split
 ·exact wfT_iff.2 ⟨by simp[B9],by simp,by simp,by simp,by simp⟩
 ·split
  ·refine wfT_iff.2 ⟨by simp[B9],fun x hx=>?_,?_,?_,fun t ht=>?_⟩
   ·simp only[T.words_mk] at hx;rw[Rs] at hx;exact hw'.w x (Oh hx)
   ·have:=KL w;have:=hw'.wl;simp at this ⊢;omega
   ·have:=Ji (l.map Ah);have:=hw'.kl;simp at this ⊢;simp at *;omega
   ·simp only[T.kids_mk] at ht;rw[NQ] at ht;exact hm t (Oh ht)
  ·exact wfT_iff.2 ⟨hw'.k,hw'.w,hw'.wl,by simpa using hw'.kl,by simpa using hm⟩
theorem pA {c:T} (h:BH c) (hl:c.words.length=1):∃ x,c.words=[x]∧Bw x:=by
 have:=(wfT_iff.1 h).w
 match hc:c.words,hl with
 |[x],_=>exact⟨x,rfl,this x (by simp[hc])⟩
theorem aY {d:Nat} {c:T} (h:Ef d c=true) (h10:c.kind=10):c.words.length=1:=by
 obtain⟨k,w,l⟩:=c;simp at h10;subst h10;rw[DH] at h;simp at h;exact h.1
theorem rl {t:T} (hl:t.kids.length*56≤140737488355328) (hk0:0≤t.kind) (hk1:t.kind≤10) {d:Nat} (hd:1≤d) (hd1:d≤1000) (hw:∀ c,c ∈ t.kids→BH c) (ih:∀ c,c ∈ t.kids→∀ d:Nat,d≤1000→G.Spec Tryz.prog 28 [tX c,iv d] (bv (Ef d c))):∀ (m i:Nat) (H:Hp),i+m=t.kids.length→H [0]=⟨1,.cells (tL t)⟩ →
  (G7 (d-1) t.kind (t.kids.drop i)=true→∀ i' q H',Q (.exit 0) ⟨lk [(1,iv d),(2,.pob [0] 1 0),(5,iv i'),(82,bv q)],H'⟩)→(G7 (d-1) t.kind (t.kids.drop i)=false→∀ H',Q .ret ⟨lk [(4,bv false)],H'⟩) →
  LoopC (cx Tryz.prog w0 I0 n0) CA Q ⟨lk [(1,iv d),(2,.pob [0] 1 0),(5,iv i)],H⟩:=by
 intro m;induction m with
 |zero=>
  intro i H hi hA h1 h2;have:i=t.kids.length:=by omega
  subst this;refine Ab Ai CA.eq_1 ?_;simp[hA];exact h1 (by simp) _ _ _
 |succ m ihm=>
  intro i H hi hA h1 h2;have hlt:i<t.kids.length:=by omega
  have e:t.kids.drop i=t.kids[i]::t.kids.drop (i+1):=List.drop_eq_getElem_cons hlt;have ei:=Av i;have ed:i64.wrap ((d:Int)-1)=((d-1:Nat):Int):=AP;rw[e,cV] at h1 h2;have hwc:=hw _ (Bg hlt);have ihc:=ih _ (Bg hlt) (d-1) (by omega);generalize hc:t.kids[i]=c at *;refine Ab Ai CA.eq_1 ?_;simp[hA,hlt,hc,Aa,ed];refine Ae ihc rfl ?_;cases hr:Ef (d-1) c with
  |false=>
   simp;exact h2 (by simp[hr]) _
  |true=>
   rw[hr] at h1 h2;have good:Ey t.kind c=true→∀ H',H' [0]=⟨1,.cells (tL t)⟩→LoopC (cx Tryz.prog w0 I0 n0) CA Q ⟨lk [(1,iv d),(2,.pob [0] 1 0),(5,iv ((i:Int)+1))],H'⟩:=fun hg H' hA'=>
    ihm (i+1) H' (by omega) hA' (fun hh=>h1 (by simp[hg,hh])) (fun hh=>h2 (by simp[hh]))
   have bad:Ey t.kind c=false→∀ H',Q .ret ⟨lk [(4,bv false)],H'⟩:=fun hg=>h2 (by simp[hg]);rw[show((i+1:Nat):Int)=(i:Int)+1 from rfl] at ei;by_cases hD:2≤t.kind∧t.kind≤7
   ·obtain⟨d2,d7⟩:=hD;have d9:¬ t.kind=9:=by omega
    by_cases h10:c.kind=10
    ·obtain⟨x,hx,hx64⟩:=pA hwc (aY hr h10);have hk:Ey t.kind c=JA (t.kind-2) x:=by simp[Ey,F0,d2,d7,d9,h10,hx]
     have e2:i64.wrap (t.kind-2)=t.kind-2:=BJ;simp[Aa,hA,d2,d7,d9,h10,hx,e2];refine Ee rfl (fun _=>Xw hx64) (fun _=>rfl) rfl ?_;cases hf:JA (t.kind-2) x with
     |false=>simp;exact bad (by rw[hk,hf]) _
     |true=>simp[ei];exact good (by rw[hk,hf]) _ (by simp[Aa,hA])
    ·have hk:Ey t.kind c=false:=by simp[Ey,F0,d2,d7,d9,h10]
     simp[Aa,hA,d2,d7,d9,h10];refine AY rfl ?_;simp;exact bad hk _
   ·have hD':(decide (2≤t.kind)&&decide (t.kind≤7))=false:=by simp;omega
    by_cases h10:c.kind=10
    ·have hk:Ey t.kind c=false:=by simp[Ey,F0,hD',h10]
     simp[Aa,hA,hD',h10];refine AY rfl ?_;simp;exact bad hk _
    ·by_cases h9:t.kind=9
     ·by_cases h1':c.kind=1
      ·have hk:Ey t.kind c=true:=by simp[Ey,F0,hD',h9,h1']
       rw[h9] at hD';simp[Aa,hA,hD',h10,h9,h1'];refine AY rfl ?_;simp[ei];exact good hk _ (by simp[Aa,hA])
      ·have hk:Ey t.kind c=false:=by simp[Ey,F0,hD',h9,h1',h10]
       rw[h9] at hD';simp[Aa,hA,hD',h10,h9,h1'];refine AY rfl ?_;simp;exact bad hk _
     ·have hk:Ey t.kind c=true:=by simp[Ey,F0,hD',h9,h10]
      simp[Aa,hA,hD',h10,h9];refine AY rfl ?_;simp[ei];exact good hk _ (by simp[Aa,hA])
theorem UZ:∀ (t:T),BH t→∀ d:Nat,d≤1000→G.Spec Tryz.prog 28 [tX t,iv d] (bv (Ef d t)):=by
 refine T.ind fun k w l ih hw d hd=>?_;have hw':=wfT_iff.1 hw;have hwl:=hw'.wl;have hkl:=hw'.kl;simp at hwl hkl;refine Aj Rh (by simp) fun w0 I0=>?_;unfold KV;rw[DH];by_cases h0:k=0
 ·simp[h0];exact Bc (by cases w<;>cases l<;>simp<;>(rw[← List.length_eq_zero_iff];omega))
 by_cases h10:k=10
 ·simp[h10];exact Bc (by cases w<;>cases l<;>simp<;>(rw[← List.length_eq_zero_iff];omega))
 rw[if_neg h0,if_neg h10];have bad:FU k d w.length l.length=true→∀ H,J3 H (bv false) (bv (if FU k d w.length l.length=true then false else G7 (d-1) k l)):=fun hb H=>Bc (by simp[hb]);by_cases ha:k<0∨10<k∨d=0∨65536≤w.length
 ·have ha':(decide (k<0) || decide (10<k) || decide (d=0) || decide (65536≤(w.length:Int)))=true:=by simp;omega
  simp[h0,h10,ha'];have:=bad (by simp[FU];omega) (EH [([0],{ u:=1,ob:=Ob.cells [iv k,Dz w,Bm l] })]);simpa using this
 have ha':(decide (k<0) || decide (10<k) || decide (d=0) || decide (65536≤(w.length:Int)))=false:=by simp;omega
 by_cases h1:k=1∧65536≤l.length
 ·have hl:(65536:Int)≤l.length:=by omega
  simp[h0,h10,ha',h1.1,hl];have:=bad (by simp[FU];omega) (EH [([0],{ u:=1,ob:=Ob.cells [iv k,Dz w,Bm l] })]);simpa[h1.1] using this
 by_cases h2:1048576≤l.length
 ·have hl:(1048576:Int)≤l.length:=by omega
  have hk1:¬ k=1:=by omega
  simp[h0,h10,ha',hk1,hl];have:=bad (by simp[FU];omega) (EH [([0],{ u:=1,ob:=Ob.cells [iv k,Dz w,Bm l] })]);simpa using this
 have hl2:¬ (1048576:Int)≤l.length:=by omega
 by_cases h3:1<k∧0<w.length
 ·have hk1:¬ k=1:=by omega
  have hw0:w ≠ []:=fun e=>by simp[e] at h3
  simp[h0,h10,ha',hk1,hl2,h3.1,h3.2,hw0];have:=bad (by simp[FU];omega) (EH [([0],{ u:=1,ob:=Ob.cells [iv k,Dz w,Bm l] })]);simpa using this
 have hb:FU k d w.length l.length=false:=by
  rw[Bool.eq_false_iff];unfold FU;simp only[Bool.or_eq_true,Bool.and_eq_true,decide_eq_true_eq,ne_eq];omega
 have hw0:(1<k→w=[]):=fun h=>List.eq_nil_of_length_eq_zero (by omega);have fin:LoopC (cx Tryz.prog w0 I0 132) CA (BD 0 (D4 (WPC (cx Tryz.prog w0 I0 132) (.keep [] (.seq (.reg [co (some 4) (.assign (.const (.bool true))) none] [4]) .ret)) (TS Tryz.prog [.tmp 4] (bv (G7 (d-1) k l)))) (TS Tryz.prog [.tmp 4] (bv (G7 (d-1) k l))))) ⟨lk [(1,iv d),(2,.pob [0] 1 0),(5,iv 0)],EH [([0],⟨1,.cells [iv k,Dz w,Bm l]⟩)]⟩:=by
  refine rl (t:=.mk k w l) (by simpa using hkl) (by simp;omega) (by simp;omega) (by omega) hd (fun c hc=>hw'.ks c hc) (fun c hc=>ih c hc (hw'.ks c hc)) l.length 0 _ (by simp) (by simp) (fun hr i' q H'=>?_) (fun hr H'=>?_)
  ·simp;exact Bc (by simpa using hr.symm)
  ·simp;exact Bc (by simpa using hr.symm)
 rw[if_neg (by simp[hb])];by_cases k1:k=1
 ·have hl3:¬ (65536:Int)≤l.length:=by omega
  have ha1:(decide (d=0) || decide (65536≤(w.length:Int)))=false:=by simp;omega
  simp[ha1,k1,hl2,hl3];simpa[k1] using fin
 ·simp[h0,h10,ha',k1,hl2];refine⟨fun a b=>absurd ⟨a,by omega⟩ h3,fun _=>?_⟩;exact fin
theorem KI {l:List (List Int)} (hs:Sg l):∀ (t:T) (r:Rf),AA l r t→BH t:=by
 refine T.ind fun k w ks ih r ht=>?_;have hln:=DI ht;have hk:=CK ht;have hok:=Cy ht;simp at hln hk;refine wfT_iff.2 ⟨?_,?_,?_,?_,?_⟩
 ·simp only[T.kind_mk];rw[← hk];unfold B9;cases hok<;>simp[Rf.zero]<;>omega
 ·intro x hx;obtain⟨i,hi,rfl⟩:=List.mem_iff_getElem.1 hx;have:=(Db ht).2 i hi;rw[← this];unfold Bw NC;split
  ·omega
  ·split
   ·cases hok with
    |atom n a1 a2=>exact⟨a1,a2⟩
    |dat c s a n a1 a2 a3 a4 h=>simp
    |_=>simp[Rf.zero]
   ·cases e:Dd l r.s (r.at_+i) with
    |none=>simp
    |some x=>exact HT hs.w e
 ·simp;omega
 ·simp;omega
 ·intro c hc;obtain⟨i,hi,rfl⟩:=List.mem_iff_getElem.1 hc;exact ih _ (Bg hi) _ (F9 ht hi).2
end Go.Proofs.YtbjmaoedheiigaaGreat
