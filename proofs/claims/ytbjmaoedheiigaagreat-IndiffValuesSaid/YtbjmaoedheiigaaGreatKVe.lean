/-
 Texts,merged,without what is not reached.
-/
import Derived.Test.YtbjmaoedheiigaaGreatKVd
set_option linter.unusedSimpArgs false
set_option linter.unusedVariables false
namespace Go.G
open Go.RowKit
theorem jV {P:Program} {K:Sta→Prop} {rest:List CO} {s:Nat→A} {H:Hp} {dd:Option Nat} {nm:Nm} {ix:Nat} {un:List Nat} {l:Bool} {lg:Lg} {g:FuncId} {fo:Operand} {fs caps L:List A} {as':Array Operand} {ts:Array TypeId} {x:A} (hv0:evs s fo = .fnc g fs caps) (hL:fs++(as'.toList.map (evs s)++caps)=L) (E:Eff) (R W:Fp) (hs:∀ H2,Agree (R++W) H H2→Xl P H2 g L x E) (hw:SV E W) (hc:Ck un lg ⟨R,W⟩) (h:Ar P K rest (A9 l ix ⟨R,W⟩ lg) (Sta.put ⟨s,H⟩ dd x (E.app H))) :
  Ar P K (⟨dd,.call { callee:=.value fo,args:=as',argTypes:=ts },none,nm,ix,un,l⟩::rest) lg ⟨s,H⟩:=by
 subst hL
 exact⟨x,E,⟨R,W⟩,⟨g,fs,caps,hv0,.inr (.inr ⟨hs,hw⟩)⟩,hc,h⟩
theorem Yi {P:Program} {K:Sta→Prop} {rest:List CO} {s:Nat→A} {H:Hp} {dd:Option Nat} {nm:Nm} {ix:Nat} {un:List Nat} {l:Bool} {lg:Lg} {g:FuncId} {fo:Operand} {fs caps L:List A} {as':Array Operand} {ts:Array TypeId}
  (hv0:evs s fo = .fnc g fs caps) (hL:fs++(as'.toList.map (evs s)++caps)=L) (rs:List Nat) (m:Nat) {args:List A} {Hc Hr H':Hp} {r x:A} (hS:NV P g rs.length args Hc r Hr) (hnd:rs.Nodup) (hm:m≤rs.length)
  (ha:A.renL (ZU rs) (fun _=>0) L=args) (har:A.refsL (YX rs m) L) (hH:Nt rs m H=Hc) (hcl:Vo rs m H)
  (hr:r.refs (Jk rs.length)) (ho:∀ (i:Nat) (p:Nm),i<rs.length→(Hr (i::p)).ob.refs (Jk rs.length)) (hv:∀ (i:Nat) (p:Nm),m≤i→i<rs.length→(Hr (i::p)).ob = .none∨1≤(Hr (i::p)).u)
  (hx:r.ren (Xo rs) (PT rs m H)=x) (hH':P5 rs (PT rs m H) H Hr=H') (hck:Ck un lg ⟨[],rs.map fun r=>([r],true)⟩)
  (h:Ar P K rest (A9 l ix ⟨[],rs.map fun r=>([r],true)⟩ lg) (Sta.put ⟨s,H⟩ dd x H')) :
  Ar P K (⟨dd,.call { callee:=.value fo,args:=as',argTypes:=ts },none,nm,ix,un,l⟩::rest) lg ⟨s,H⟩:=by
 have hit_in:∀ {j:Nat} {p:Nm},j ∈ rs→Yw (rs.map fun r=>([r],true)) (j::p)=true:=fun {j p} hj=>by
  simp only[Yw,List.any_map,List.any_eq_true]
  exact⟨j,hj,by simp[W6,List.isPrefixOf]⟩
 have hnil:(Eff.fn rs (Hz rs m H Hr)).app H=H':=by rw[WZ];exact hH'
 subst hx
 rw[← hnil] at h
 refine jV hv0 hL (Eff.fn rs (Hz rs m H Hr)) [] (rs.map fun r=>([r],true)) (fun H2 hag=>?_) (fun o H2 ho'=>?_) hck h
 ·have ag:∀ {j:Nat} {p:Nm},j ∈ rs→H2 (j::p)=H (j::p):=fun {j p} hj=>hag _ (by simpa using hit_in hj)
  have agi:∀ {i:Nat} {p:Nm},i<rs.length→H2 (rs.getD i 0::p)=H (rs.getD i 0::p):=fun {i p} hi=>ag (by simp[List.getD,hi])
  have hd:PT rs m H2=PT rs m H:=by
   funext o
   cases o with
   |nil=>rfl
   |cons i p=>
    simp only[PT]
    by_cases hi:i<rs.length
    ·rw[agi hi]
    ·rw[if_neg hi,if_neg hi]
  have hoH:Hz rs m H2 Hr=Hz rs m H Hr:=by
   funext o
   cases o with
   |nil=>rfl
   |cons j p=>simp only[Hz,hd]
  subst ha
  have:=Tc (P:=P) (f:=g) (rs:=rs) (m:=m) (args:=L) (Hc:=Hc) (Hr:=Hr) (r:=r) (H:=H2) hnd hm hS
   (fun i p hi=>by rw[← hH,agi (by omega)];simp only[Nt,if_pos hi]) (fun i p hi=>by rw[← hH];simp only[Nt];rw[if_neg (by omega)]) (by rw[← hH];rfl) har
   (fun i p hi=>by rw[agi (by omega)];exact hcl _ _ (by rw[Mi hnd (by omega)];exact hi)) hr ho hv
  rwa [hd,hoH] at this
 ·cases o with
  |nil=>rfl
  |cons j p=>
   have:¬ j ∈ rs:=fun hj=>by rw[hit_in hj] at ho';cases ho'
   simp[Eff.app,this]
theorem sS {P:Program} {H:Hp} {g:FuncId} {L:List A} (rs:List Nat) (m:Nat) {args:List A} {Hc Hr H':Hp} {r:A} (hS:NV P g rs.length args Hc r Hr) (hnd:rs.Nodup) (hm:m≤rs.length)
  (ha:A.renL (ZU rs) (fun _=>0) L=args) (har:A.refsL (YX rs m) L) (hH:Nt rs m H=Hc) (hcl:Vo rs m H)
  (hr:r.refs (Jk rs.length)) (ho:∀ (i:Nat) (p:Nm),i<rs.length→(Hr (i::p)).ob.refs (Jk rs.length)) (hv:∀ (i:Nat) (p:Nm),m≤i→i<rs.length→(Hr (i::p)).ob = .none∨1≤(Hr (i::p)).u)
  (hH':P5 rs (PT rs m H) H Hr=H'):∃ E,X6 P H g L (r.ren (Xo rs) (PT rs m H)) E [] (rs.map fun r=>([r],true))∧E.app H=H':=by
 have hit_in:∀ {j:Nat} {p:Nm},j ∈ rs→Yw (rs.map fun r=>([r],true)) (j::p)=true:=fun {j p} hj=>by
  simp only[Yw,List.any_map,List.any_eq_true]
  exact⟨j,hj,by simp[W6,List.isPrefixOf]⟩
 have hnil:(Eff.fn rs (Hz rs m H Hr)).app H=H':=by rw[WZ];exact hH'
 refine⟨Eff.fn rs (Hz rs m H Hr),.inr (.inr ⟨fun H2 hag=>?_,fun o H2 ho'=>?_⟩),hnil⟩
 ·have ag:∀ {j:Nat} {p:Nm},j ∈ rs→H2 (j::p)=H (j::p):=fun {j p} hj=>hag _ (by simpa using hit_in hj)
  have agi:∀ {i:Nat} {p:Nm},i<rs.length→H2 (rs.getD i 0::p)=H (rs.getD i 0::p):=fun {i p} hi=>ag (by simp[List.getD,hi])
  have hd:PT rs m H2=PT rs m H:=by
   funext o
   cases o with
   |nil=>rfl
   |cons i p=>
    simp only[PT]
    by_cases hi:i<rs.length
    ·rw[agi hi]
    ·rw[if_neg hi,if_neg hi]
  have hoH:Hz rs m H2 Hr=Hz rs m H Hr:=by
   funext o
   cases o with
   |nil=>rfl
   |cons j p=>simp only[Hz,hd]
  subst ha
  have:=Tc (P:=P) (f:=g) (rs:=rs) (m:=m) (args:=L) (Hc:=Hc) (Hr:=Hr) (r:=r) (H:=H2) hnd hm hS
   (fun i p hi=>by rw[← hH,agi (by omega)];simp only[Nt,if_pos hi]) (fun i p hi=>by rw[← hH];simp only[Nt];rw[if_neg (by omega)]) (by rw[← hH];rfl) har
   (fun i p hi=>by rw[agi (by omega)];exact hcl _ _ (by rw[Mi hnd (by omega)];exact hi)) hr ho hv
  rwa [hd,hoH] at this
 ·cases o with
  |nil=>rfl
  |cons j p=>
   have:¬ j ∈ rs:=fun hj=>by rw[hit_in hj] at ho';cases ho'
   simp[Eff.app,this]
theorem x8 {P:Program} {K:Sta→Prop} {rest:List CO} {s:Nat→A} {H H':Hp} {dd:Option Nat} {nm:Nm} {ix:Nat} {un:List Nat} {l:Bool} {lg:Lg} {ro:Operand} {name:String} {t:TypeId} {a a':A} {g:FuncId} {d:Option TypeId} {L:List A} {as':Array Operand} {ts:Array TypeId} {x:A} {R W:Fp}
  (hr:evs s ro = .ifc t a) (hm:Pq P t name=some (g,d)) (ha:Yv P H d a=some a') (hL:a'::as'.toList.map (evs s)=L) (hc:∃ E,X6 P H g L x E R W∧E.app H=H') (hck:Ck un lg ⟨refs a++R,W⟩)
  (h:Ar P K rest (A9 l ix ⟨refs a++R,W⟩ lg) (Sta.put ⟨s,H⟩ dd x H')) :
  Ar P K (⟨dd,.call { callee:=.invoke ro name,args:=as',argTypes:=ts },none,nm,ix,un,l⟩::rest) lg ⟨s,H⟩:=by
 obtain⟨E,h1,rfl⟩:=hc
 subst hL
 exact⟨x,E,⟨refs a++R,W⟩,⟨t,a,g,d,a',R,hr,hm,ha,h1,rfl⟩,hck,h⟩
end Go.G
namespace Go.Proofs.YtbjmaoedheiigaaGreat
open Go Go.G Go.Proofs Go.PL
def Abu (h x:Int):Int:=IntKind.u64.wrap (bits .xor .u64 h x*1099511628211)
def QY (h x:Int):Int:=bits .xor .u64 (Abu h x) (Abu h x / 2 ^ min 29 IntKind.u64.bits)
mutual
def Ee:T→Int
 |.mk k w l=>Q8 (w.foldl QY (QY (QY 14695981039346656037 (IntKind.u64.wrap k)) (IntKind.u64.wrap w.length))) l
def Q8:Int→List T→Int
 |h,[]=>h
 |h,t::l=>Q8 (QY h (Ee t)) l
end
def iK (u:Nat) (h:Int):Nm→VOb
 |[]=>⟨u,.cells [uv h]⟩
 |_=>⟨0,.none⟩
@[simp] theorem Afc {u:Nat} {h:Int}:iK u h []=⟨u,.cells [uv h]⟩:=rfl
theorem Mv (u:Nat) (h x:Int):NV Tryz.prog 269 1 [.pob [0] u 0,uv x] (ov 0 (iK u h) (HM [])) (.tup []) (ov 0 (iK u (QY h x)) (HM [])):=by
 refine SE Re (by simp) fun w0 I0 M0 m0=>?_
 unfold KH
 simp[Aa]
 refine Ux rfl rfl (fun i p hi=>?_)
 have hi0:i=0:=by omega
 subst hi0
 simp only[Bx,if_true]
 refine OO rfl (fun h1=>?_)
 cases p with
 |nil=>exact absurd rfl h1
 |cons a p=>rfl
theorem ZN {P:Program} {K:Sta→Prop} {rest:List CO} {s:Nat→A} {H:Hp} {dd:Option Nat} {nm:Nm} {ix:Nat} {un:List Nat} {l:Bool} {lg:Lg} {g:FuncId} {fo:Operand} {aa:Array Operand} {ts:Array TypeId}
  {r u:Nat} {h x:Int} (ho:evs s fo = .fnc g [.pob [r] u 0] []) (hS:NV P g 1 [.pob [0] u 0,uv x] (ov 0 (iK u h) (HM [])) (.tup []) (ov 0 (iK u (QY h x)) (HM []))) (hF:∀ p,H (r::p)=iK u h p)
  (ha:aa.toList.map (evs s)=[uv x]) (hck:Ck un lg ⟨[],[([r],true)]⟩)
  (h:Ar P K rest (A9 l ix ⟨[],[([r],true)]⟩ lg) (Sta.put ⟨s,H⟩ dd (.tup []) (ov r (iK u (QY h x)) H))) :
  Ar P K (⟨dd,.call { callee:=.value fo,args:=aa,argTypes:=ts },none,nm,ix,un,l⟩::rest) lg ⟨s,H⟩:=by
 have hd:∀ p,PT [r] 1 H (0::p)=0:=fun p=>rfl
 refine Yi (L:=[.pob [r] u 0,uv x]) ho (by rw[ha];rfl) [r] 1 hS (by simp) (by simp) ?_ ?_ ?_ ?_ (by simp[A.refs,A.refsL]) ?_ (fun i p h1 h2=>by simp at h2;omega) rfl ?_ hck h
 ·simp[A.renL,A.ren,ZU]
 ·simp[A.refs,A.refsL,YX]
 ·funext o
  cases o with
  |nil=>rfl
  |cons i p=>
   by_cases hi:i<1
   ·have:i=0:=by omega
    subst this
    simp only[Nt,if_pos hi,Bx,if_true]
    show(H (r::p)).ren _ _ 0=_
    rw[hF]
    cases p<;>rfl
   ·simp only[Nt,if_neg hi,Bx]
    rw[if_neg (by omega)]
    rfl
 ·intro j p hj
  have hjr:j=r:=by
   have:=(idx_mem (rs:=[r])).1 (by simpa using hj)
   simpa using this
  rw[hjr,hF]
  cases p with
  |nil=>simp[iK,Ob.refs,A.refsL,A.refs]
  |cons a p=>trivial
 ·intro i p hi
  have:i=0:=by simp at hi;omega
  subst this
  simp only[Bx,if_true]
  cases p with
  |nil=>simp[iK,Ob.refs,A.refsL,A.refs]
  |cons a p=>trivial
 ·funext o
  cases o with
  |nil=>rfl
  |cons j p=>
   by_cases hj:j=r
   ·subst hj
    simp only[P5,Bx,if_true]
    rw[if_pos (by simp)]
    have:[j].idxOf j=0:=by simp
    rw[this,if_pos rfl,hd]
    cases p<;>rfl
   ·have:¬ [r].contains j=true:=by simpa using hj
    simp only[P5,if_neg this,Bx,if_neg hj]
abbrev mxV:A:=.fnc 269 [.pob [1] 1 0] []
abbrev vm (l:List (List Int)) (t:T):Prop:=∀ r,AG l r t→G.Spec Tryz.prog 258 [GH l r] (.tup [uv (Ee (Ai t)),iv 0])
variable {n0:Nat} {w0:World} {I0:Nat→Prop} {Q:Exit→Sta→Prop}
theorem sZ {l:List (List Int)} (hl:Sg l) {r:Rf} {t:T} (ht:AG l r t):∀ (m i:Nat) (h:Int) (H:Hp),i+m=nW t→H [0]=⟨1,.cells (Xr l r)⟩→(∀ p,H (1::p)=iK 1 h p) →
  (∀ i' q H',H' [0]=⟨1,.cells (Xr l r)⟩→(∀ p,H' (1::p)=iK 1 (((t.words.take (nW t)).drop i).foldl QY h) p)→Q (.exit 0) ⟨lk [(1,.pob [0] 1 0),(4,.pob [1] 1 0),(5,mxV),(6,iv (nK t)),(36,iv (nW t)),(37,iv i'),(38,bv q)],H'⟩) →
  LoopC (cx Tryz.prog w0 I0 n0) HU Q ⟨lk [(1,.pob [0] 1 0),(4,.pob [1] 1 0),(5,mxV),(6,iv (nK t)),(36,iv (nW t)),(37,iv i)],H⟩:=by
 have h1:=Dm ht
 have w1:=YR t
 intro m
 induction m with
 |zero=>
  intro i h H hi hA hM hq
  have:i=nW t:=by omega
  subst this
  refine Ad Ah HU.eq_1 ?_
  simp
  exact hq _ _ H hA (fun p=>by rw[hM,List.drop_of_length_le (by simp;omega)];rfl)
 |succ m ihm=>
  intro i h H hi hA hM hq
  have hlt:i<nW t:=by omega
  have lt1:i<t.words.length:=by omega
  have ei:IntKind.i64.wrap ((i:Int)+1)=((i+1:Nat):Int):=Af (by omega) (by omega)
  have hw:=(CM ht).2 i lt1
  refine Ad Ah HU.eq_1 ?_
  simp[hlt,hA]
  refine Ae (Gv hl (Ca ht) i) (by simp) ?_
  rw[hw]
  simp
  refine ZN (x:=t.words[i]) rfl (Mv 1 h _) hM (by simp) (by simp) ?_
  simp[ei]
  refine ihm (i+1) (QY h t.words[i]) _ (by omega) (by simp[hA]) (fun p=>by simp) fun i' q H' a0 a1=>hq i' q H' a0 fun p=>?_
  rw[a1]
  have:(t.words.take (nW t)).drop i=t.words[i]::(t.words.take (nW t)).drop (i+1):=by
   rw[List.drop_eq_getElem_cons (by simp;omega)]
   simp
  rw[this]
  rfl
theorem sV {l:List (List Int)} (hl:Sg l) {r:Rf} {t:T} (ht:AG l r t) (ih:∀ c,c ∈ t.kids→vm l c):∀ (m i:Nat) (h:Int) (H:Hp),i+m=nK t→H [0]=⟨1,.cells (Xr l r)⟩→(∀ p,H (1::p)=iK 1 h p) →
  (∀ i' q H',(∀ p,H' (1::p)=iK 1 (Q8 h (((t.kids.take (nK t)).map Ai).drop i)) p)→Q (.exit 2) ⟨lk [(1,.pob [0] 1 0),(4,.pob [1] 1 0),(5,mxV),(46,iv (nK t)),(47,iv i'),(48,bv q)],H'⟩) →
  LoopC (cx Tryz.prog w0 I0 n0) H5 Q ⟨lk [(1,.pob [0] 1 0),(4,.pob [1] 1 0),(5,mxV),(46,iv (nK t)),(47,iv i)],H⟩:=by
 have h1:=Dm ht
 have w1:=dQ t
 intro m
 induction m with
 |zero=>
  intro i h H hi hA hM hq
  have:i=nK t:=by omega
  subst this
  refine Ad Ah H5.eq_1 ?_
  simp
  exact hq _ _ H (fun p=>by rw[hM,List.drop_of_length_le (by simp;omega),Q8])
 |succ m ihm=>
  intro i h H hi hA hM hq
  have hlt:i<nK t:=by omega
  have lt1:i<t.kids.length:=by omega
  have ei:IntKind.i64.wrap ((i:Int)+1)=((i+1:Nat):Int):=Af (by omega) (by omega)
  obtain⟨a1,a2⟩:=FV ht lt1
  have ihc:=ih _ (Bq lt1) _ a2
  refine Ad Ah H5.eq_1 ?_
  simp[hlt,hA]
  refine Ae (Kh hl (Ca ht) i) (by simp) ?_
  simp[a1,Aa,hA]
  refine Ae ihc (by simp) ?_
  simp
  refine ZN (x:=Ee (Ai t.kids[i])) rfl (Mv 1 h _) (fun p=>by simp[Aa,hM]) (by simp) (by simp) ?_
  simp[ei]
  refine ihm (i+1) (QY h (Ee (Ai t.kids[i]))) _ (by omega) (by simp[Aa,hA]) (fun p=>by simp) fun i' q H' a3=>hq i' q H' fun p=>?_
  rw[a3]
  have:((t.kids.take (nK t)).map Ai).drop i=Ai t.kids[i]::((t.kids.take (nK t)).map Ai).drop (i+1):=by
   rw[List.drop_eq_getElem_cons (by simp;omega)]
   simp
  rw[this,Q8]
theorem j8 {l:List (List Int)} (hl:Sg l):∀ t,vm l t:=by
 refine T.ind fun k w ks ih r ht=>?_
 have hln:=Dm ht
 have w1:=YR (.mk k w ks)
 have k1:=Cp ht
 refine Aj Zz (by simp) fun w0 I0=>?_
 unfold R1
 simp
 refine Ae (Cb l r) (by simp) ?_
 simp
 refine ZN (x:=IntKind.u64.wrap r.kind) rfl (Mv 1 14695981039346656037 _) (fun p=>by cases p<;>simp[iK]) (by simp) (by simp) ?_
 simp
 refine Ae (P0 hl ht) (by simp) ?_
 simp
 refine Ae (Ic hl ht) (by simp) ?_
 simp
 refine ZN (x:=IntKind.u64.wrap (nW (.mk k w ks))) rfl (Mv 1 _ _) (fun p=>by simp;rfl) (by simp) (by simp) ?_
 simp
 refine Ae (Ic hl ht) (by simp) ?_
 simp
 refine sZ hl ht (nW (.mk k w ks)) 0 _ _ (by omega) (by simp) (fun p=>by simp;rfl) fun i' q H' hA hM=>?_
 simp
 refine sV hl ht ih (nK (.mk k w ks)) 0 _ H' (by omega) hA hM fun i' q H2 hM2=>?_
 have h0:=hM2 []
 simp at h0
 simp[h0]
 refine Ap rfl ?_
 have hb:=P8 ht
 have hw:=JP hb
 have hk:=Md hb
 have key:Ee (Ai (.mk k w ks))=Q8 (((T.mk k w ks).words.take (nW (.mk k w ks))).foldl QY (QY (QY 14695981039346656037 (IntKind.u64.wrap k)) (IntKind.u64.wrap (nW (.mk k w ks))))) (((T.mk k w ks).kids.take (nK (.mk k w ks))).map Ai):=by
  rw[T.eta (Ai (.mk k w ks)),Ee,CL,hw,hk]
  have:((T.mk k w ks).words.take (nW (.mk k w ks))).length=nW (.mk k w ks):=by simp at w1 ⊢; omega
  rw[this,T.kind_mk]
 rw[key,k1,T.kind_mk]
 simp[List.map_take]
mutual
theorem PQ:∀ (t:T) (d:Nat) (n:Int),-1≤Dv d n t∧(-1≤n→Dv d n t≤n)
 |.mk k w l,d,n=>by
  rw[Qb]
  split
  ·omega
  ·have:=NI l (d-1) (n-1-w.length) (by omega)
   omega
theorem NI:∀ (l:List T) (d:Nat) (n:Int),-1≤n→-1≤DD d n l∧DD d n l≤n
 |[],d,n,h=>by simp;omega
 |t::l,d,n,h=>by
  rw[HW]
  split
  ·omega
  ·have h1:=PQ t d n
   have h2:=NI l d (Dv d n t) h1.1
   omega
end
theorem ZA (l:List T) (d:Nat) {n:Int} (h:n<0):DD d n l=n:=by
 cases l with
 |nil=>simp
 |cons t l=>simp[h]
theorem fy {t:T} {d:Nat} (hd:1≤d) (hd1:d≤1000) (hl:t.kids.length*56≤140737488355328) (ih:∀ c,c ∈ t.kids→∀ (d:Nat) (n:Int),d≤1000→0≤n→n≤1000000→G.Spec Tryz.prog 27 [tX c,iv d,iv n] (iv (Dv d n c)))
  {H:Hp} (hH:H [0]=⟨1,.cells [iv t.kind,C5 t.words,Ba t.kids]⟩):∀ (m i:Nat) (n:Int),i+m=t.kids.length→-1≤n→n≤1000000 →
  (∀ i' q,Q (.exit 0) ⟨lk [(1,iv d),(2,iv (DD (d-1) n (t.kids.drop i))),(3,.pob [0] 1 0),(7,iv i'),(28,bv q)],H⟩) →
  LoopC (cx Tryz.prog w0 I0 n0) Dh Q ⟨lk [(1,iv d),(2,iv n),(3,.pob [0] 1 0),(7,iv i)],H⟩:=by
 intro m
 induction m with
 |zero=>
  intro i n hi h1 h2 hq
  have:i=t.kids.length:=by omega
  subst this
  refine Ad Ah Dh.eq_1 ?_
  simp[hH]
  simpa using hq _ false
 |succ m ihm=>
  intro i n hi h1 h2 hq
  have hlt:i<t.kids.length:=by omega
  refine Ad Ah Dh.eq_1 ?_
  have e:t.kids.drop i=t.kids[i]::t.kids.drop (i+1):=List.drop_eq_getElem_cons hlt
  by_cases hn:n<0
  ·simp[hH,hlt,show ¬ (0:Int)≤n by omega]
   have:=hq i false
   rwa [ZA _ _ hn] at this
  ·have hn':0≤n:=by omega
   simp[hH,hlt,hn']
   have ed:IntKind.i64.wrap ((d:Int)-1)=((d-1:Nat):Int):=An
   rw[ed]
   refine Ae (ih _ (Bq hlt) (d-1) n (by omega) hn' h2) rfl ?_
   simp
   have hr:=PQ t.kids[i] (d-1) n
   rw[Af (by omega) (by omega)]
   refine ihm (i+1) _ (by omega) hr.1 (by omega) fun i' q=>?_
   have:=hq i' q
   rw[e,HW,if_neg (by omega)] at this
   exact this
theorem aw:∀ (t:T),BB t→∀ (d:Nat) (n:Int),d≤1000→0≤n→n≤1000000→G.Spec Tryz.prog 27 [tX t,iv d,iv n] (iv (Dv d n t)):=by
 refine T.ind fun k w l ih hw d n hd hn hn1=>?_
 have hw':=wfT_iff.1 hw
 have hwl:=hw'.wl
 have hkl:=hw'.kl
 simp at hwl hkl
 have ihc:∀ c,c ∈ (T.mk k w l).kids→∀ (d:Nat) (n:Int),d≤1000→0≤n→n≤1000000→G.Spec Tryz.prog 27 [tX c,iv d,iv n] (iv (Dv d n c)):=fun c hc=>ih c hc (hw'.ks c hc)
 refine Aj N1 (by simp) fun w0 I0=>?_
 unfold Ih
 have e1:IntKind.i64.wrap (IntKind.i64.wrap (n-1)-(w.length:Int))=n-1-w.length:=by rw[Af (n:=n-1) (by omega) (by omega),Af (by omega) (by omega)]
 rw[Qb]
 by_cases hc:d=0∨n-1-(w.length:Int)<0
 ·have hd:(decide (d=0) || decide (n-1-(w.length:Int)<0))=true:=by simp;omega
  simp[e1,hd,hc]
  exact Ab rfl
 ·have hd:(decide (d=0) || decide (n-1-(w.length:Int)<0))=false:=by simp;omega
  simp[e1,hd,hc]
  refine fy (t:=.mk k w l) (by omega) (by omega) hkl ihc (by simp) l.length 0 _ (by simp) (by omega) (by omega) fun i' q=>?_
  simp
  exact Ab rfl
abbrev tL (t:T):List A:=[iv t.kind,C5 t.words,Ba t.kids]
theorem sx {a b:T} (hl:a.kids.length*56≤140737488355328) (hn:a.kids.length=b.kids.length) (ih:∀ c,c ∈ a.kids→∀ u,G.Spec Tryz.prog 50 [tX c,tX u] (bv (GR c u)))
  {H:Hp} (hA:H [0]=⟨1,.cells (tL a)⟩) (hB:H [1]=⟨1,.cells (tL b)⟩):∀ (m i:Nat),i+m=a.kids.length→a.kids.take i=b.kids.take i→(a.kids=b.kids→∀ i' q,Q (.exit 0) ⟨lk [(2,.pob [0] 1 0),(3,.pob [1] 1 0),(5,iv i'),(32,bv q)],H⟩)→(a.kids ≠ b.kids→Q .ret ⟨lk [(4,bv false)],H⟩) →
  LoopC (cx Tryz.prog w0 I0 n0) En Q ⟨lk [(2,.pob [0] 1 0),(3,.pob [1] 1 0),(5,iv i)],H⟩:=by
 intro m
 induction m with
 |zero=>
  intro i hi ht h1 h2
  have:i=a.kids.length:=by omega
  subst this
  refine Ad Ah En.eq_1 ?_
  simp[hA,hB]
  refine h1 ?_ _ _
  rw[AI (BW _),AI (by omega)] at ht
  exact ht
 |succ m ihm=>
  intro i hi ht h1 h2
  have hlt:i<a.kids.length:=by omega
  have hlt':i<b.kids.length:=by omega
  refine Ad Ah En.eq_1 ?_
  simp[hA,hB,hlt,hlt']
  refine Ae (ih _ (Bq hlt) b.kids[i]) rfl ?_
  simp
  cases hs:GR a.kids[i] b.kids[i] with
  |false=>
   simp
   refine h2 fun e=>?_
   have:a.kids[i]=b.kids[i]:=by simp[e]
   rw[← sameB_iff,hs] at this
   cases this
  |true=>
   simp
   rw[Af (by omega) (by omega)]
   refine ihm (i+1) (by omega) ?_ h1 h2
   rw[Fj hlt,Fj hlt',ht,sameB_iff.1 hs]
set_option maxRecDepth 8000 in
theorem Ot:∀ (a:T),BB a→∀ b:T,G.Spec Tryz.prog 50 [tX a,tX b] (bv (GR a b)):=by
 refine T.ind fun k w l ih hw b=>?_
 have hw':=wfT_iff.1 hw
 have hwl:=hw'.wl
 have hkl:=hw'.kl
 simp at hwl hkl
 refine Aj R2 (by simp) fun w0 I0=>?_
 unfold KD
 have no:(k ≠ b.kind∨w ≠ b.words∨l ≠ b.kids)→GR (.mk k w l) b=false:=fun h=>by
  rw[Bool.eq_false_iff]
  intro e
  have:=sameB_iff.1 e
  subst this
  simp at h
 by_cases h1:k=b.kind
 ·by_cases h2:w=b.words
  ·by_cases h3:l.length=b.kids.length
   ·simp[h1]
    refine Bj rfl (fun _=>Qp w b.words hwl) (fun _=>rfl) rfl ?_
    simp[h2,h3]
    refine sx (a:=.mk k w l) (b:=b) hkl h3 (fun c hc u=>ih c hc (hw'.ks c hc) u) (by simp[h1,h2]) (by simp) l.length 0 (by simp) rfl (fun e i' q=>?_) (fun e=>?_)
    ·simp
     have:GR (.mk k w l) b=true:=sameB_iff.2 (T.ext' h1 h2 e)
     rw[← h1,← h2,this]
     exact Ab rfl
    ·simp
     rw[← h1,← h2,no (.inr (.inr e))]
     exact Ab rfl
   ·simp[h1]
    refine Bj rfl (fun _=>Qp w b.words hwl) (fun _=>rfl) rfl ?_
    simp[h2,h3]
    refine⟨fun h=>absurd (by omega) h3,fun _=>?_⟩
    rw[← h1,← h2,no (.inr (.inr fun e=>h3 (by rw[e])))]
    exact Ab rfl
  ·simp[h1]
   refine Bj rfl (fun _=>Qp w b.words hwl) (fun _=>rfl) rfl ?_
   simp[h2]
   rw[← h1,no (.inr (.inl h2))]
   exact Ab rfl
 ·simp[h1]
  refine A8 rfl ?_
  simp
  rw[no (.inl h1)]
  exact Ab rfl
theorem uF {t:T} (hl:t.kids.length*56≤140737488355328) (ih:∀ c,c ∈ t.kids→G.Spec Tryz.prog 32 [tX c] (tX (Ai c))) {v:VOb}:∀ (m i:Nat) (u:Nat) (H:Hp),i+m=t.kids.length→H [0]=⟨1,.cells (tL t)⟩→H [1]=v→H [3]=⟨u,.arr 3 (((t.kids.take i).map Ai).map tA)⟩ →
  (∀ i' q (u':Nat) (H':Hp),H' [0]=⟨1,.cells (tL t)⟩→H' [1]=v→H' [3]=⟨u',.arr 3 ((t.kids.map Ai).map tA)⟩→Q (.exit 0) ⟨lk [(1,.pob [0] 1 0),(2,.pob [1] 1 0),(3,.osl [3] u' 3 0 t.kids.length),(4,iv (BC t.kids).length),(5,iv i'),(16,bv q)],H'⟩) →
  LoopC (cx Tryz.prog w0 I0 n0) Ev Q ⟨lk [(1,.pob [0] 1 0),(2,.pob [1] 1 0),(3,.osl [3] u 3 0 i),(4,iv (BC (t.kids.take i)).length),(5,iv i)],H⟩:=by
 intro m
 induction m with
 |zero=>
  intro i u H hi hA hR hB hq
  have:i=t.kids.length:=by omega
  subst this
  refine Ad Ah Ev.eq_1 ?_
  simp[hA]
  have:=hq t.kids.length false u H hA hR (by rw[hB];simp)
  simpa using this
 |succ m ihm=>
  intro i u H hi hA hR hB hq
  have hlt:i<t.kids.length:=by omega
  refine Ad Ah Ev.eq_1 ?_
  simp[hA,hlt]
  refine Ae (ih _ (Bq hlt)) rfl ?_
  simp[Aa,hB]
  have ei:IntKind.i64.wrap ((i:Int)+1)=((i+1:Nat):Int):=Af (by omega) (by omega)
  have hrow:=aW (f:=tA ∘ Ai) hlt (x:=A.agg [iv t.kids[i].kind,C5 (Ai t.kids[i]).words,Ba (Ai t.kids[i]).kids]) (by simp)
  rw[hrow]
  refine⟨⟨by omega,by omega⟩,fun h=>?_,fun h=>?_⟩
  ·rw[ei,← QB hlt h]
   exact ihm (i+1) (u+1) _ (by omega) (by simp[Aa,hA]) (by simp[Aa,hR]) (by simp[Aa]) hq
  ·have ek:(BC (t.kids.take (i+1))).length=i+1:=by rw[QO hlt h];simp;omega
   rw[ei]
   have:=fun H h1 h2 h3=>ihm (i+1) (u+1) H (by omega) h1 h2 h3 hq
   rw[ek] at this
   exact this _ (by simp[Aa,hA]) (by simp[Aa,hR]) (by simp[Aa])
theorem Fl:∀ (t:T),BB t→G.Spec Tryz.prog 32 [tX t] (tX (Ai t)):=by
 refine T.ind fun k w l ih hw=>?_
 have hw':=wfT_iff.1 hw
 have hwl:=hw'.wl
 have hkl:=hw'.kl
 simp at hwl hkl
 refine Aj Rq (by simp) fun w0 I0=>?_
 unfold KK
 rw[B2]
 by_cases h0:k=0
 ·simp[h0]
  exact ZE
 ·simp[h0]
  refine LoopC.le (BX 3 [3] 3 (by simp)) ?_
  simp
  refine LoopC.le (Ao [(1,.pob [0] 1 0),(2,.pob [1] 1 0),(3,.osl [3] 1 3 0 0),(4,iv 0),(5,iv 0)] (by simp[upd])) ?_
  refine uF (t:=.mk k w l) (by simpa using hkl) (fun c hc=>ih c hc (hw'.ks c hc)) l.length 0 1 _ (by simp) (by simp) rfl (by simp) fun i' q u' H' hA hR hB=>?_
  have hle:=Mf l
  by_cases h1:k=1
  ·subst h1
   simp at hA hR hB
   simp[hA,hR,hB,hle,Aa]
   refine Ae (fJ w hwl) rfl ?_
   simp[hA,hR,hB,hle,Aa]
   refine BG ?_
   simp
   rw[SU]
   refine⟨Ab rfl,Ab rfl,?_⟩
   have:=VQ (H:=Ay H' [1] ⟨1,.cells [iv 1,A.sl false (List.map uv (BT w)),A.osl [3] u' 3 0 (BC l).length]⟩) (o:=[3]) (u:=u') (sz:=3) (l:=l) (f:=tA ∘ Ai) (by simp[Aa,hB]) hle (by simp)
   rw[← List.map_take]
   show Jd _ _ (A.sl false (((l.take (BC l).length).map Ai).map tA))
   rw[List.map_map]
   exact this
  ·simp at hA hR hB
   simp[hA,hR,hB,h1,Aa]
   refine⟨hwl,BG ?_⟩
   simp
   refine⟨Ab rfl,Bb (by simp[Aa]) rfl (by simp),?_⟩
   have:=Bb (H:=Ay (Ay H' [4] { u:=(H' [4]).u+1,ob:=Ob.arr 1 (List.map uv w) }) [1] ⟨1,.cells [A.v (Value.int IntKind.i64 k),A.osl [4] ((H' [4]).u+1) 1 0 w.length,A.osl [3] u' 3 0 l.length]⟩) (o:=[3]) (u:=u') (sz:=3) (l:=l) (f:=tA ∘ Ai) (by simp[Aa,hB]) rfl (by simp)
   show Jd _ _ (A.sl false ((l.map Ai).map tA))
   rw[List.map_map]
   exact this
theorem UH {a b:T} (ha:BB a) (hb:BB b) (hn:BB (Ai a)):G.Spec Tryz.prog 101 [tX a,tX b] (bv (KJ a b)):=by
 refine Aj QC (by simp) fun w0 I0=>?_
 unfold JX
 simp
 refine Ae (Fl a ha) rfl ?_
 simp
 refine Ae (Fl b hb) rfl ?_
 simp
 refine Ae (Ot (Ai a) hn (Ai b)) rfl ?_
 simp
 exact Ab rfl
theorem GM:∀ (t:T),BB t→BB (Ai t):=by
 refine T.ind fun k w l ih hw=>?_
 have hw':=wfT_iff.1 hw
 rw[B2]
 have h2:∀ (l:List T),(∀ t,t ∈ l→∃ u,u ∈ l∧t=u)→True:=fun _ _=>trivial
 have hm:∀ t,t ∈ l.map Ai→BB t:=fun t ht=>by
  obtain⟨u,hu,rfl⟩:=List.mem_map.1 ht
  exact ih u hu (hw'.ks u hu)
 split
 ·exact wfT_iff.2 ⟨by simp[BQ],by simp,by simp,by simp,by simp⟩
 ·split
  ·refine wfT_iff.2 ⟨by simp[BQ],fun x hx=>?_,?_,?_,fun t ht=>?_⟩
   ·simp only[T.words_mk] at hx
    rw[Qh] at hx
    exact hw'.w x (O5 hx)
   ·have:=Oc w
    have:=hw'.wl
    simp at this ⊢
    omega
   ·have:=Mf (l.map Ai)
    have:=hw'.kl
    simp at this ⊢
    simp at *
    omega
   ·simp only[T.kids_mk] at ht
    rw[QW] at ht
    exact hm t (O5 ht)
  ·exact wfT_iff.2 ⟨hw'.k,hw'.w,hw'.wl,by simpa using hw'.kl,by simpa using hm⟩
theorem GX {l:List (List Int)} (hs:Sg l):∀ (t:T) (r:Rf),AG l r t→BB t:=by
 refine T.ind fun k w ks ih r ht=>?_
 have hln:=Dm ht
 have hk:=Cp ht
 have hok:=Ca ht
 simp at hln hk
 refine wfT_iff.2 ⟨?_,?_,?_,?_,?_⟩
 ·simp only[T.kind_mk]
  rw[← hk]
  unfold BQ
  cases hok<;>simp[Rf.zero]<;>omega
 ·intro x hx
  obtain⟨i,hi,rfl⟩:=List.mem_iff_getElem.1 hx
  have:=(CM ht).2 i hi
  rw[← this]
  unfold Ci ML
  split
  ·omega
  ·split
   ·cases hok with
    |atom n a1 a2=>exact⟨a1,a2⟩
    |dat c s a n a1 a2 a3 a4 h=>simp
    |_=>simp[Rf.zero]
   ·cases e:B0 l r.s (r.at_+i) with
    |none=>simp
    |some x=>exact DY hs.w e
 ·simp;omega
 ·simp;omega
 ·intro c hc
  obtain⟨i,hi,rfl⟩:=List.mem_iff_getElem.1 hc
  exact ih _ (Bq hi) _ (FV ht hi).2
end Go.Proofs.YtbjmaoedheiigaaGreat
namespace Go.G
open Go.RowKit
structure Fam where
 F:Nat→Nm→VOb
 ren:∀ {g:Nm→Nm} {δ:Nm→Nat} {r r':Nat},(∀ p,g (r::p)=r'::p)→(∀ p,δ (r::p)=0)→∀ p,(F r p).ren g δ 0=F r' p
 refs:∀ {D:Nm→Prop} {r:Nat},(∀ p,D (r::p))→∀ p,(F r p).ob.refs D
def Fam.no:Fam:=⟨fun _ _=>⟨0,.none⟩,fun _ _ _=>rfl,fun _ _=>trivial⟩
@[simp] theorem Fam.no_F {r:Nat} {p:Nm}:Fam.no.F r p=⟨0,.none⟩:=rfl
structure Ez (a:Nat→A):Prop where
 ren:∀ {g:Nm→Nm} {δ:Nm→Nat} {r r':Nat},(∀ p,g (r::p)=r'::p)→(∀ p,δ (r::p)=0)→(a r).ren g δ=a r'
 refs:∀ {D:Nm→Prop} {r:Nat},(∀ p,D (r::p))→(a r).refs D
structure FamL (a:Nat→List A):Prop where
 ren:∀ {g:Nm→Nm} {δ:Nm→Nat} {r r':Nat},(∀ p,g (r::p)=r'::p)→(∀ p,δ (r::p)=0)→A.renL g δ (a r)=a r'
 refs:∀ {D:Nm→Prop} {r:Nat},(∀ p,D (r::p))→A.refsL D (a r)
@[simp] theorem Am:FamL (fun _=>[]):=⟨fun _ _=>by simp[A.renL],fun _=>by simp[A.refsL]⟩
theorem Ag {a:Nat→A} {l:Nat→List A} (h:Ez a) (k:FamL l):FamL (fun r=>a r::l r):=⟨fun h1 h2=>by simp[A.renL,h.ren h1 h2,k.ren h1 h2],fun h1=>by simp only[A.refsL];exact⟨h.refs h1,k.refs h1⟩⟩
@[simp] theorem rS {a:Nat→A} {l:Nat→List A} (h:Ez a):FamL (fun r=>a r::l r)=FamL l:=by
 refine propext ⟨fun k=>⟨fun h1 h2=>?_,fun h1=>?_⟩,Ag h⟩
 ·have:=k.ren h1 h2
  simp only[A.renL,List.cons.injEq] at this
  exact this.2
 ·have:=k.refs h1
  simp only[A.refsL] at this
  exact this.2
theorem FamL.all {l:List A} (h:∀ x,x ∈ l→Ez (fun _=>x)):FamL (fun _=>l):=by
 induction l with
 |nil=>simp
 |cons x l ih=>exact Ag (h x (by simp)) (ih fun y hy=>h y (by simp[hy]))
@[simp] theorem AcI:Ez (fun _=>.any):=⟨fun _ _=>by simp[A.ren],fun _=>by simp[A.refs]⟩
@[simp] theorem AE {x:Value}:Ez (fun _=>.v x):=⟨fun _ _=>by simp[A.ren],fun _=>by simp[A.refs]⟩
@[simp] theorem De {f:Bool} {xs:List A}:Ez (fun _=>.sl f xs):=⟨fun _ _=>by simp[A.ren],fun _=>by simp[A.refs]⟩
@[simp] theorem AeE {xs:List A}:Ez (fun _=>.pim xs):=⟨fun _ _=>by simp[A.ren],fun _=>by simp[A.refs]⟩
@[simp] theorem AN {u off:Nat} {q:Nm}:Ez (fun r=>.pob (r::q) u off):=⟨fun h1 h2=>by simp[A.ren,h1,h2],fun h=>by simp[A.refs,h]⟩
@[simp] theorem B8 {u sz off len:Nat} {q:Nm}:Ez (fun r=>.osl (r::q) u sz off len):=⟨fun h1 h2=>by simp[A.ren,h1,h2],fun h=>by simp[A.refs,h]⟩
@[simp] theorem Ab1 {u i j:Nat} {q:Nm}:Ez (fun r=>.pel (r::q) u i j):=⟨fun h1 h2=>by simp[A.ren,h1,h2],fun h=>by simp[A.refs,h]⟩
@[simp] theorem pr {l:Nat→List A} (h:FamL l):Ez (fun r=>.agg (l r)):=⟨fun h1 h2=>by simp[A.ren,h.ren h1 h2],fun h1=>by simp only[A.refs];exact h.refs h1⟩
@[simp] theorem Bn {l:Nat→List A} (h:FamL l):Ez (fun r=>.tup (l r)):=⟨fun h1 h2=>by simp[A.ren,h.ren h1 h2],fun h1=>by simp only[A.refs];exact h.refs h1⟩
@[simp] theorem aK {f:FuncId} {l m:Nat→List A} (h:FamL l) (k:FamL m):Ez (fun r=>.fnc f (l r) (m r)):=⟨fun h1 h2=>by simp[A.ren,h.ren h1 h2,k.ren h1 h2],fun h1=>by simp only[A.refs];exact⟨h.refs h1,k.refs h1⟩⟩
@[simp] theorem ND {t:TypeId} {a:Nat→A} (h:Ez a):Ez (fun r=>.ifc t (a r)):=⟨fun h1 h2=>by simp[A.ren,h.ren h1 h2],fun h1=>by simp only[A.refs];exact h.refs h1⟩
theorem gS {a:A} (h:a.bare1=true):Ez (fun _=>a):=by cases a<;>simp[A.bare1] at h ⊢
theorem EN {a:A} {cs:List A} (ha:a = .agg cs) (h:∀ x,x ∈ cs→x.bare1=true):Ez (fun _=>a):=by
 subst ha
 exact pr (l:=fun _=>cs) (FamL.all fun x hx=>gS (h x hx))
theorem Fam.cells_ren {g:Nm→Nm} {δ:Nm→Nat} {u:Nat} {l l':List A} (h:A.renL g δ l=l'):VOb.ren g δ 0 ⟨u,.cells l⟩=⟨u,.cells l'⟩:=by simp[VOb.ren,Ob.ren,h]
theorem Fam.arr_ren {g:Nm→Nm} {δ:Nm→Nat} {u sz:Nat} {l l':List A} (h:A.renL g δ l=l'):VOb.ren g δ 0 ⟨u,.arr sz l⟩=⟨u,.arr sz l'⟩:=by simp[VOb.ren,Ob.ren,h]
structure A4 (P:Program) (f:FuncId) (as':Nat→List A) (F:Fam) (x:Nat→A) (F':Fam):Prop where
 fa:FamL as'
 fx:Ez x
 h:NV P f 1 (as' 0) (ov 0 (F.F 0) (HM [])) (x 0) (ov 0 (F'.F 0) (HM []))
section
variable {P:Program} {K:Sta→Prop} {rest:List CO} {s:Nat→A} {H:Hp} {dd:Option Nat} {nm:Nm} {ix:Nat} {un:List Nat} {l:Bool} {lg:Lg} {g:FuncId} {aa:Array Operand} {ts:Array TypeId}
theorem fq {r:Nat} {F:Fam} (hF:∀ p,H (r::p)=F.F r p):Nt [r] 1 H=ov 0 (F.F 0) (HM []):=by
 funext o
 cases o with
 |nil=>rfl
 |cons i p=>
  by_cases hi:i<1
  ·have:i=0:=by omega
   subst this
   simp only[Nt,if_pos hi,Bx,if_true]
   show(H (r::p)).ren _ _ 0=_
   rw[hF]
   exact F.ren (fun q=>by simp[ZU]) (fun _=>rfl) p
  ·simp only[Nt,if_neg hi,Bx]
   rw[if_neg (by omega)]
   rfl
theorem az {r:Nat} {F':Fam}:P5 [r] (PT [r] 1 H) H (ov 0 (F'.F 0) (HM []))=ov r (F'.F r) H:=by
 have hd:∀ p,PT [r] 1 H (0::p)=0:=fun p=>rfl
 funext o
 cases o with
 |nil=>rfl
 |cons j p=>
  by_cases hj:j=r
  ·subst hj
   simp only[P5,Bx,if_true]
   rw[if_pos (by simp)]
   have:[j].idxOf j=0:=by simp
   rw[this,if_pos rfl,hd]
   exact F'.ren (fun q=>by simp[Xo]) hd p
  ·have:¬ [r].contains j=true:=by simpa using hj
   simp only[P5,if_neg this,Bx,if_neg hj]
theorem P4 {r:Nat} {F:Fam} (hF:∀ p,H (r::p)=F.F r p):Vo [r] 1 H:=by
 intro j p hj
 have hjr:j=r:=by
  have:=(idx_mem (rs:=[r])).1 (by simpa using hj)
  simpa using this
 rw[hjr,hF]
 exact F.refs (fun q=>by simp[YX]) p
theorem VT {F':Fam} (i:Nat) (p:Nm) (hi:i<1):((ov 0 (F'.F 0) (HM [])) (i::p)).ob.refs (Jk 1):=by
 have:i=0:=by omega
 subst this
 simp only[Bx,if_true]
 exact F'.refs (fun q=>by simp[Jk]) p
theorem Au {as':Nat→List A} {F F':Fam} {x:Nat→A} (r:Nat) (hS:A4 P g as' F x F') (hF:∀ p,H (r::p)=F.F r p) (ha:aa.toList.map (evs s)=as' r) (hck:Ck un lg ⟨[],[([r],true)]⟩)
  (h:Ar P K rest (A9 l ix ⟨[],[([r],true)]⟩ lg) (Sta.put ⟨s,H⟩ dd (x r) (ov r (F'.F r) H))) :
  Ar P K (⟨dd,.call { callee:=.value (.func g),args:=aa,argTypes:=ts },none,nm,ix,un,l⟩::rest) lg ⟨s,H⟩:=by
 have hd:∀ p,PT [r] 1 H (0::p)=0:=fun p=>rfl
 refine VE [r] 1 hS.h (by simp) (by simp) ?_ ?_ (fq hF) (P4 hF) (hS.fx.refs (fun p=>by simp[Jk])) (fun i p hi=>VT i p hi) (fun i p h1 h2=>by simp at h2;omega) (hS.fx.ren (fun q=>by simp[Xo]) hd) az hck h
 ·rw[ha];exact hS.fa.ren (fun q=>by simp[ZU]) (fun _=>rfl)
 ·rw[ha];exact hS.fa.refs (fun q=>by simp[YX])
theorem U5 {as':Nat→List A} {F F':Fam} {x:Nat→A} {fo:Operand} {fs caps:List A} (r:Nat) (hv0:evs s fo = .fnc g fs caps) (hS:A4 P g as' F x F') (hF:∀ p,H (r::p)=F.F r p) (ha:fs++(aa.toList.map (evs s)++caps)=as' r) (hck:Ck un lg ⟨[],[([r],true)]⟩)
  (h:Ar P K rest (A9 l ix ⟨[],[([r],true)]⟩ lg) (Sta.put ⟨s,H⟩ dd (x r) (ov r (F'.F r) H))) :
  Ar P K (⟨dd,.call { callee:=.value fo,args:=aa,argTypes:=ts },none,nm,ix,un,l⟩::rest) lg ⟨s,H⟩:=by
 have hd:∀ p,PT [r] 1 H (0::p)=0:=fun p=>rfl
 refine Yi hv0 ha [r] 1 hS.h (by simp) (by simp) (hS.fa.ren (fun q=>by simp[ZU]) (fun _=>rfl)) (hS.fa.refs (fun q=>by simp[YX])) (fq hF) (P4 hF) (hS.fx.refs (fun p=>by simp[Jk])) (fun i p hi=>VT i p hi) (fun i p h1 h2=>by simp at h2;omega) (hS.fx.ren (fun q=>by simp[Xo]) hd) az hck h
end
section
variable {P:Program} {K:Sta→Prop} {rest:List CO} {s:Nat→A} {H:Hp} {dd:Option Nat} {nm:Nm} {ix:Nat} {un:List Nat} {l:Bool} {lg:Lg} {g:FuncId} {aa:Array Operand} {ts:Array TypeId}
theorem XU {as':Nat→List A} {F F':Fam} {x:Nat→A} (r:Nat) (hS:A4 P g as' F x F') (hF:∀ p,H (r::p)=F.F r p):∃ E,X6 P H g (as' r) (x r) E [] [([r],true)]∧E.app H=ov r (F'.F r) H:=by
 have hd:∀ p,PT [r] 1 H (0::p)=0:=fun p=>rfl
 have:=sS (H:=H) (L:=as' r) [r] 1 hS.h (by simp) (by simp) (hS.fa.ren (fun q=>by simp[ZU]) (fun _=>rfl)) (hS.fa.refs (fun q=>by simp[YX])) (fq hF) (P4 hF) (hS.fx.refs (fun p=>by simp[Jk])) (fun i p hi=>VT i p hi) (fun i p h1 h2=>by simp at h2;omega) az
 have e:A.ren (Xo [r]) (PT [r] 1 H) (x 0)=x r:=hS.fx.ren (fun q=>by simp[Xo]) hd
 rw[e] at this
 exact this
theorem H6 {as':Nat→List A} {F F':Fam} {x:Nat→A} {ro:Operand} {name:String} {t:TypeId} {a a':A} {d:Option TypeId} (r:Nat) (hS:A4 P g as' F x F') (hF:∀ p,H (r::p)=F.F r p) (hr:evs s ro = .ifc t a) (hm:Pq P t name=some (g,d)) (ha:Yv P H d a=some a') (hL:a'::aa.toList.map (evs s)=as' r)
  (hck:Ck un lg ⟨refs a++[],[([r],true)]⟩) (h:Ar P K rest (A9 l ix ⟨refs a++[],[([r],true)]⟩ lg) (Sta.put ⟨s,H⟩ dd (x r) (ov r (F'.F r) H))) :
  Ar P K (⟨dd,.call { callee:=.invoke ro name,args:=aa,argTypes:=ts },none,nm,ix,un,l⟩::rest) lg ⟨s,H⟩:=
 x8 hr hm ha hL (XU r hS hF) hck h
end
theorem Adu {r:Nat} {F F':Nm→VOb} {H:Hp}:ov r F (ov r F' H)=ov r F H:=by
 funext o
 cases o with
 |nil=>rfl
 |cons j p=>by_cases hj:j=r<;>simp[hj]
@[simp] theorem Af0 {r:Nat} {F F':Nm→VOb} {H:Hp}:ov r F (ov r F' H)=ov r F H:=Adu
theorem Ax {P:Program} {f:FuncId} {n:Nat} {rs:List ResultVar} {cc:CC} {as':Nat→List A} {F F':Fam} {x:Nat→A} (t:AX P f n rs cc) (ha:(as' 0).length≤n) (h0:FamL as') (h1:Ez x)
  (h:∀ w0 I0 M0 m0,WPC (EP P w0 I0 M0 n m0) cc (SN (EP P w0 I0 M0 n m0) rs 1 (x 0) (ov 0 (F'.F 0) (HM []))) ⟨QP (as' 0),ov 0 (F.F 0) (HM [])⟩):A4 P f as' F x F':=
 ⟨h0,h1,SE t ha h⟩
theorem AH {c:Cx} {rs:List ResultVar} {x:A} {F':Nm→VOb} {r0:A} {st:Sta} (h:Ms c.P st rs=some r0) (he:r0=x) (hh:∀ p,st.H (0::p)=F' p):SN c rs 1 x (ov 0 F' (HM [])) .ret st:=
 ba h he fun i p hi=>by
  have:i=0:=by omega
  subst this
  rw[hh]
  simp
theorem AQ {c:Cx} {rs:List ResultVar} {x:A} {F':Nm→VOb} {r0:A} {st:Sta} (h:Ms c.P st rs=some r0) (he:r0=x) (hh:∀ p,st.H (0::p)=F' p):SN c rs 1 x (ov 0 F' (HM [])) .normal st:=
 Ux h he fun i p hi=>by
  have:i=0:=by omega
  subst this
  rw[hh]
  simp
structure Uy (a:Nat→Nat→A):Prop where
 ren:∀ {g:Nm→Nm} {δ:Nm→Nat} {r r' q q':Nat},(∀ p,g (r::p)=r'::p)→(∀ p,δ (r::p)=0)→(∀ p,g (q::p)=q'::p)→(∀ p,δ (q::p)=0)→(a r q).ren g δ=a r' q'
 refs:∀ {D:Nm→Prop} {r q:Nat},(∀ p,D (r::p))→(∀ p,D (q::p))→(a r q).refs D
structure XY (a:Nat→Nat→List A):Prop where
 ren:∀ {g:Nm→Nm} {δ:Nm→Nat} {r r' q q':Nat},(∀ p,g (r::p)=r'::p)→(∀ p,δ (r::p)=0)→(∀ p,g (q::p)=q'::p)→(∀ p,δ (q::p)=0)→A.renL g δ (a r q)=a r' q'
 refs:∀ {D:Nm→Prop} {r q:Nat},(∀ p,D (r::p))→(∀ p,D (q::p))→A.refsL D (a r q)
@[simp] theorem LG:XY (fun _ _=>[]):=⟨fun _ _ _ _=>by simp[A.renL],fun _ _=>by simp[A.refsL]⟩
theorem BD {a:Nat→Nat→A} {l:Nat→Nat→List A} (h:Uy a) (k:XY l):XY (fun r q=>a r q::l r q):=⟨fun h1 h2 h3 h4=>by simp[A.renL,h.ren h1 h2 h3 h4,k.ren h1 h2 h3 h4],fun h1 h2=>by simp only[A.refsL];exact⟨h.refs h1 h2,k.refs h1 h2⟩⟩
theorem E6 {a:Nat→A} (h:Ez a):Uy (fun r _=>a r):=⟨fun h1 h2 _ _=>h.ren h1 h2,fun h1 _=>h.refs h1⟩
theorem RG {a:Nat→A} (h:Ez a):Uy (fun _ q=>a q):=⟨fun _ _ h1 h2=>h.ren h1 h2,fun _ h1=>h.refs h1⟩
theorem TJ {l:Nat→Nat→List A} (h:XY l):Uy (fun r q=>.tup (l r q)):=⟨fun h1 h2 h3 h4=>by simp[A.ren,h.ren h1 h2 h3 h4],fun h1 h2=>by simp only[A.refs];exact h.refs h1 h2⟩
structure bE (P:Program) (f:FuncId) (as':Nat→List A) (F:Fam) (x:Nat→Nat→A) (F' N:Fam):Prop where
 fa:FamL as'
 fx:Uy x
 n:∀ p,(N.F 1 p).ob = .none∨1≤(N.F 1 p).u
 h:NV P f 2 (as' 0) (ov 0 (F.F 0) (HM [])) (x 0 1) (ov 0 (F'.F 0) (ov 1 (N.F 1) (HM [])))
section
variable {P:Program} {K:Sta→Prop} {rest:List CO} {s:Nat→A} {H:Hp} {dd:Option Nat} {nm:Nm} {ix:Nat} {un:List Nat} {l:Bool} {lg:Lg} {g:FuncId} {aa:Array Operand} {ts:Array TypeId}
theorem Sx {as':Nat→List A} {F F' N:Fam} {x:Nat→Nat→A} (r q:Nat) (hrq:r ≠ q) (hS:bE P g as' F x F' N) (hF:∀ p,H (r::p)=F.F r p) (hq:∀ p,(H (q::p)).u=0) (ha:aa.toList.map (evs s)=as' r) (hck:Ck un lg ⟨[],[([r],true),([q],true)]⟩)
  (h:Ar P K rest (A9 l ix ⟨[],[([r],true),([q],true)]⟩ lg) (Sta.put ⟨s,H⟩ dd (x r q) (ov r (F'.F r) (ov q (N.F q) H)))) :
  Ar P K (⟨dd,.call { callee:=.value (.func g),args:=aa,argTypes:=ts },none,nm,ix,un,l⟩::rest) lg ⟨s,H⟩:=by
 have hd:∀ p,PT [r,q] 1 H (0::p)=0:=fun p=>rfl
 have hd1:∀ p,PT [r,q] 1 H (1::p)=0:=fun p=>by
  simp only[PT]
  rw[if_neg (by omega),if_pos (by simp)]
  exact hq p
 have i0:[r,q].idxOf r=0:=by simp
 have i1:[r,q].idxOf q=1:=by simp[List.idxOf_cons,beq_eq_false_iff_ne.2 hrq]
 refine VE [r,q] 1 hS.h (by simp[hrq]) (by simp) ?_ ?_ ?_ ?_ (hS.fx.refs (fun p=>by simp[Jk]) (fun p=>by simp[Jk])) ?_ ?_ (hS.fx.ren (fun p=>by simp[Xo]) hd (fun p=>by simp[Xo]) hd1) ?_ hck h
 ·rw[ha];exact hS.fa.ren (fun p=>by simp[ZU]) (fun _=>rfl)
 ·rw[ha];exact hS.fa.refs (fun p=>by simp[YX])
 ·funext o
  cases o with
  |nil=>rfl
  |cons i p=>
   by_cases hi:i<1
   ·have:i=0:=by omega
    subst this
    simp only[Nt,if_pos hi,Bx,if_true]
    show(H (r::p)).ren _ _ 0=_
    rw[hF]
    exact F.ren (fun q=>by simp[ZU]) (fun _=>rfl) p
   ·simp only[Nt,if_neg hi,Bx]
    rw[if_neg (by omega)]
    rfl
 ·intro j p hj
  have hjr:j=r:=by
   by_cases e:r=j
   ·exact e.symm
   ·simp only[List.idxOf_cons,beq_eq_false_iff_ne.2 e] at hj
    simp at hj
  rw[hjr,hF]
  exact F.refs (fun q=>by simp[YX]) p
 ·intro i p hi
  have hi:i<2:=hi
  by_cases h0:i=0
  ·subst h0
   simp only[Bx,if_true]
   exact F'.refs (fun q=>by simp[Jk]) p
  ·have:i=1:=by omega
   subst this
   simp only[Bx,if_true]
   rw[if_neg (by omega)]
   exact N.refs (fun q=>by simp[Jk]) p
 ·intro i p hi hi2
  have:i=1:=by simp at hi2;omega
  subst this
  simp only[Bx,if_true]
  rw[if_neg (by omega)]
  exact hS.n p
 ·funext o
  cases o with
  |nil=>rfl
  |cons j p=>
   by_cases hj:j=r
   ·subst hj
    simp only[P5,Bx,if_true]
    rw[if_pos (by simp),i0,if_pos rfl,hd]
    exact F'.ren (fun q=>by simp[Xo]) hd p
   ·by_cases hj2:j=q
    ·subst hj2
     simp only[P5,Bx,if_true,if_neg hj]
     rw[if_pos (by simp),i1,if_neg (by omega),if_pos rfl,hd1]
     exact N.ren (fun q=>by simp[Xo]) hd1 p
    ·have:¬ [r,q].contains j=true:=by simp[hj,hj2]
     simp only[P5,if_neg this,Bx,if_neg hj,if_neg hj2]
end
theorem W0 {P:Program} {f:FuncId} {n:Nat} {rs:List ResultVar} {cc:CC} {as':Nat→List A} {F F' N:Fam} {x:Nat→Nat→A} (t:AX P f n rs cc) (ha:(as' 0).length≤n) (h0:FamL as') (h1:Uy x) (hn:∀ p,(N.F 1 p).ob = .none∨1≤(N.F 1 p).u)
  (h:∀ w0 I0 M0 m0,WPC (EP P w0 I0 M0 n m0) cc (SN (EP P w0 I0 M0 n m0) rs 2 (x 0 1) (ov 0 (F'.F 0) (ov 1 (N.F 1) (HM [])))) ⟨QP (as' 0),ov 0 (F.F 0) (HM [])⟩):bE P f as' F x F' N:=
 ⟨h0,h1,hn,SE t ha h⟩
theorem JA {c:Cx} {rs:List ResultVar} {x:A} {F' N:Nm→VOb} {r0:A} {st:Sta} (h:Ms c.P st rs=some r0) (he:r0=x) (hh:∀ p,st.H (0::p)=F' p) (hn:∀ p,st.H (1::p)=N p):SN c rs 2 x (ov 0 F' (ov 1 N (HM []))) .ret st:=
 ba h he fun i p hi=>by
  by_cases h0:i=0
  ·subst h0
   rw[hh]
   simp
  ·have:i=1:=by omega
   subst this
   rw[hn]
   simp
def qU (u sz:Nat) (xs:List A) (h:∀ x,x ∈ xs→Ez (fun _=>x)):Fam:=⟨fun _ p=>if p=[] then ⟨u,.arr sz xs⟩ else ⟨0,.none⟩,fun {g δ r r'} hg hd p=>by
  by_cases hp:p=[]
  ·rw[if_pos hp]
   exact Fam.arr_ren ((FamL.all h).ren hg hd)
  ·rw[if_neg hp];rfl,fun {D r} hD p=>by
  by_cases hp:p=[]
  ·rw[if_pos hp]
   exact(FamL.all h).refs hD
  ·rw[if_neg hp];trivial⟩
@[simp] theorem Ahn {u sz:Nat} {xs:List A} {h:∀ x,x ∈ xs→Ez (fun _=>x)} {r:Nat} {p:Nm}:(qU u sz xs h).F r p=if p=[] then ⟨u,.arr sz xs⟩ else ⟨0,.none⟩:=rfl
structure nY where
 B:Nat→Nat→Nm→VOb
 C:Nat→Nat→Nm→VOb
 ren:∀ {g:Nm→Nm} {δ:Nm→Nat} {r r' q q':Nat},(∀ p,g (r::p)=r'::p)→(∀ p,δ (r::p)=0)→(∀ p,g (q::p)=q'::p)→(∀ p,δ (q::p)=0)→∀ p,(B r q p).ren g δ 0=B r' q' p∧(C r q p).ren g δ 0=C r' q' p
 refs:∀ {D:Nm→Prop} {r q:Nat},(∀ p,D (r::p))→(∀ p,D (q::p))→∀ p,(B r q p).ob.refs D∧(C r q p).ob.refs D
def Fam.two (F G:Fam):nY:=⟨fun r _=>F.F r,fun _ q=>G.F q,fun h1 h2 h3 h4 p=>⟨F.ren h1 h2 p,G.ren h3 h4 p⟩,fun h1 h2 p=>⟨F.refs h1 p,G.refs h2 p⟩⟩
@[simp] theorem Ajb {F G:Fam} {r q:Nat}:(F.two G).B r q=F.F r:=rfl
@[simp] theorem Abv {F G:Fam} {r q:Nat}:(F.two G).C r q=G.F q:=rfl
structure ZQ (P:Program) (f:FuncId) (as':Nat→Nat→List A) (F:nY) (x:Nat→Nat→A) (F':nY):Prop where
 fa:XY as'
 fx:Uy x
 h:NV P f 2 (as' 0 1) (ov 0 (F.B 0 1) (ov 1 (F.C 0 1) (HM []))) (x 0 1) (ov 0 (F'.B 0 1) (ov 1 (F'.C 0 1) (HM [])))
section
variable {P:Program} {K:Sta→Prop} {rest:List CO} {s:Nat→A} {H:Hp} {dd:Option Nat} {nm:Nm} {ix:Nat} {un:List Nat} {l:Bool} {lg:Lg} {g:FuncId} {aa:Array Operand} {ts:Array TypeId}
theorem Vp {as':Nat→Nat→List A} {F F':nY} {x:Nat→Nat→A} (r q:Nat) (hrq:r ≠ q) (hS:ZQ P g as' F x F') (hF:∀ p,H (r::p)=F.B r q p) (hG:∀ p,H (q::p)=F.C r q p) (ha:aa.toList.map (evs s)=as' r q) (hck:Ck un lg ⟨[],[([r],true),([q],true)]⟩)
  (h:Ar P K rest (A9 l ix ⟨[],[([r],true),([q],true)]⟩ lg) (Sta.put ⟨s,H⟩ dd (x r q) (ov r (F'.B r q) (ov q (F'.C r q) H)))) :
  Ar P K (⟨dd,.call { callee:=.value (.func g),args:=aa,argTypes:=ts },none,nm,ix,un,l⟩::rest) lg ⟨s,H⟩:=by
 have hd:∀ p,PT [r,q] 2 H (0::p)=0:=fun p=>rfl
 have hd1:∀ p,PT [r,q] 2 H (1::p)=0:=fun p=>rfl
 have i0:[r,q].idxOf r=0:=by simp
 have i1:[r,q].idxOf q=1:=by simp[List.idxOf_cons,beq_eq_false_iff_ne.2 hrq]
 have d0:∀ p,ZU [r,q] (r::p)=0::p:=fun p=>by simp[ZU]
 have d1:∀ p,ZU [r,q] (q::p)=1::p:=fun p=>by simp[ZU,i1]
 have jin:∀ {j:Nat},[r,q].idxOf j<2→j=r∨j=q:=fun {j} hj=>by
  have:=(idx_mem (rs:=[r,q])).1 (by simpa using hj)
  simpa using this
 refine VE [r,q] 2 hS.h (by simp[hrq]) (by simp) ?_ ?_ ?_ ?_ (hS.fx.refs (fun p=>by simp[Jk]) (fun p=>by simp[Jk])) ?_ (fun i p h1 h2=>by simp at h2;omega) (hS.fx.ren (fun p=>by simp[Xo]) hd (fun p=>by simp[Xo]) hd1) ?_ hck h
 ·rw[ha];exact hS.fa.ren d0 (fun _=>rfl) d1 (fun _=>rfl)
 ·rw[ha];exact hS.fa.refs (fun p=>by simp[YX]) (fun p=>by simp[YX,i1])
 ·funext o
  cases o with
  |nil=>rfl
  |cons i p=>
   by_cases hi:i<2
   ·simp only[Nt,if_pos hi]
    have h01:i=0∨i=1:=by omega
    rcases h01 with rfl | rfl
    ·show(H (r::p)).ren _ _ 0=_
     rw[hF]
     simp only[Bx,if_true]
     exact(F.ren d0 (fun _=>rfl) d1 (fun _=>rfl) p).1
    ·show(H (q::p)).ren _ _ 0=_
     rw[hG]
     simp only[Bx,if_true]
     rw[if_neg (by omega)]
     exact(F.ren d0 (fun _=>rfl) d1 (fun _=>rfl) p).2
   ·simp only[Nt,if_neg hi,Bx]
    rw[if_neg (by omega),if_neg (by omega)]
    rfl
 ·intro j p hj
  rcases jin hj with rfl | rfl
  ·rw[hF]
   exact(F.refs (fun p=>by simp[YX]) (fun p=>by simp[YX,i1]) p).1
  ·rw[hG]
   exact(F.refs (fun p=>by simp[YX]) (fun p=>by simp[YX,i1]) p).2
 ·intro i p hi
  have hi:i<2:=hi
  by_cases h0:i=0
  ·subst h0
   simp only[Bx,if_true]
   exact(F'.refs (fun q=>by simp[Jk]) (fun q=>by simp[Jk]) p).1
  ·have:i=1:=by omega
   subst this
   simp only[Bx,if_true]
   rw[if_neg (by omega)]
   exact(F'.refs (fun q=>by simp[Jk]) (fun q=>by simp[Jk]) p).2
 ·have u0:∀ p,Xo [r,q] (0::p)=r::p:=fun p=>by simp[Xo]
  have u1:∀ p,Xo [r,q] (1::p)=q::p:=fun p=>by simp[Xo]
  funext o
  cases o with
  |nil=>rfl
  |cons j p=>
   by_cases hj:j=r
   ·subst hj
    simp only[P5,Bx,if_true]
    rw[if_pos (by simp),i0,if_pos rfl,hd]
    exact(F'.ren u0 hd u1 hd1 p).1
   ·by_cases hj2:j=q
    ·subst hj2
     simp only[P5,Bx,if_true,if_neg hj]
     rw[if_pos (by simp),i1,if_neg (by omega),if_pos rfl,hd1]
     exact(F'.ren u0 hd u1 hd1 p).2
    ·have:¬ [r,q].contains j=true:=by simp[hj,hj2]
     simp only[P5,if_neg this,Bx,if_neg hj,if_neg hj2]
end
theorem YU {P:Program} {f:FuncId} {n:Nat} {rs:List ResultVar} {cc:CC} {as':Nat→Nat→List A} {F F':nY} {x:Nat→Nat→A} (t:AX P f n rs cc) (ha:(as' 0 1).length≤n) (h0:XY as') (h1:Uy x)
  (h:∀ w0 I0 M0 m0,WPC (EP P w0 I0 M0 n m0) cc (SN (EP P w0 I0 M0 n m0) rs 2 (x 0 1) (ov 0 (F'.B 0 1) (ov 1 (F'.C 0 1) (HM [])))) ⟨QP (as' 0 1),ov 0 (F.B 0 1) (ov 1 (F.C 0 1) (HM []))⟩):ZQ P f as' F x F':=
 ⟨h0,h1,SE t ha h⟩
end Go.G
namespace Go.PL
def Hq (stop:Nat→Bool) (pl:List Nat):Nat→Nat→Nat
 |0,a=>a
 |f+1,a=>if pl.getD a 0=0 then a else if stop (pl.getD a 0)=true then a else Hq stop pl f ((a+1) % pl.length)
theorem NJ (a d m:Nat):((a+1) % m+d) % m=(a+(d+1)) % m:=by
 rw[Nat.mod_add_mod]
 congr 1
 omega
theorem Yz {stop:Nat→Bool} {pl:List Nat}:∀ (f a d:Nat),a<pl.length→d<f→pl.getD ((a+d) % pl.length) 0=0 →
  Hq stop pl f a<pl.length∧(pl.getD (Hq stop pl f a) 0=0∨stop (pl.getD (Hq stop pl f a) 0)=true) ∧
   ∃ k,Hq stop pl f a=(a+k) % pl.length∧∀ e,e<k→pl.getD ((a+e) % pl.length) 0 ≠ 0∧stop (pl.getD ((a+e) % pl.length) 0)=false:=by
 intro f
 induction f with
 |zero=>intro a d _ h;omega
 |succ f ih=>
  intro a d ha hd hz
  unfold Hq
  have hself:∃ k,a=(a+k) % pl.length∧∀ e,e<k→pl.getD ((a+e) % pl.length) 0 ≠ 0∧stop (pl.getD ((a+e) % pl.length) 0)=false:=⟨0,by rw[Nat.add_zero,Nat.mod_eq_of_lt ha],fun e he=>by omega⟩
  split
  ·rename_i h0
   exact⟨ha,.inl h0,hself⟩
  ·rename_i h0
   split
   ·rename_i h1
    exact⟨ha,.inr h1,hself⟩
   ·rename_i h1
    cases d with
    |zero=>rw[Nat.add_zero,Nat.mod_eq_of_lt ha] at hz;exact absurd hz h0
    |succ d=>
     obtain⟨p1,p2,k,p3,p4⟩:=ih ((a+1) % pl.length) d (Nat.mod_lt _ (by omega)) (by omega) (by rw[NJ];exact hz)
     refine⟨p1,p2,k+1,by rw[p3,NJ],fun e he=>?_⟩
     cases e with
     |zero=>rw[Nat.add_zero,Nat.mod_eq_of_lt ha];exact⟨h0,by simpa using h1⟩
     |succ e=>
      have:=p4 e (by omega)
      rwa [NJ] at this
structure Pl (hs:List Nat) (pl:List Nat):Prop where
 cnt:pl.countP (fun v=>v != 0)=hs.length
 vals:∀ v,v ∈ pl→v≤hs.length
 reach:∀ (c:Nat) (hc:c<hs.length),∃ d,pl[(hs[c]+d) % pl.length]? = some (c+1)∧∀ e,e<d→pl.getD ((hs[c]+e) % pl.length) 0 ≠ 0
theorem Pl.free {hs pl:List Nat} (h:Pl hs pl) (hl:hs.length<pl.length) (a:Nat):∃ d,d<pl.length∧pl.getD ((a+d) % pl.length) 0=0:=by
 have hm:∃ v,v ∈ pl∧v=0:=by
  apply Classical.byContradiction
  intro hn
  have:pl.countP (fun v=>v != 0)=pl.length:=List.countP_eq_length.2 fun v hv=>by
   simp only[bne_iff_ne,ne_eq]
   exact fun e=>hn ⟨v,hv,e⟩
  have:=h.cnt
  omega
 obtain⟨v,hv,rfl⟩:=hm
 obtain⟨i,hi,e⟩:=List.mem_iff_getElem.1 hv
 refine⟨(i+(pl.length-a % pl.length)) % pl.length,Nat.mod_lt _ (by omega),?_⟩
 have:(a+(i+(pl.length-a % pl.length)) % pl.length) % pl.length=i:=by
  rw[Nat.add_mod_mod]
  have h1:=Nat.mod_lt a (show 0<pl.length by omega)
  have h2:=Nat.div_add_mod a pl.length
  have h3:a+(i+(pl.length-a % pl.length))=i+pl.length*(a / pl.length+1):=by
   rw[Nat.mul_add,Nat.mul_one]
   omega
  rw[h3,Nat.add_mul_mod_self_left,Nat.mod_eq_of_lt hi]
 rw[this]
 simp[hi,e]
theorem fD {pl:List Nat} {a v:Nat} (ha:a<pl.length) (h0:pl.getD a 0=0) (hv:v ≠ 0):(pl.set a v).countP (fun v=>v != 0)=pl.countP (fun v=>v != 0)+1:=by
 induction pl generalizing a with
 |nil=>simp at ha
 |cons x l ih=>
  cases a with
  |zero=>
   simp at h0
   subst h0
   simp[hv]
  |succ a=>
   simp only[List.set_cons_succ,List.countP_cons]
   rw[ih (by simpa using ha) (by simpa using h0)]
   omega
theorem Pl.ins {hs pl:List Nat} (h:Pl hs pl) {x a k:Nat} (ha:a<pl.length) (h0:pl.getD a 0=0) (he:a=(x+k) % pl.length) (hk:∀ e,e<k→pl.getD ((x+e) % pl.length) 0 ≠ 0):Pl (hs++[x]) (pl.set a (hs.length+1)):=by
 have hmod:∀ y,y % pl.length<pl.length:=fun y=>Nat.mod_lt _ (by omega)
 have nz:∀ y,pl.getD (y % pl.length) 0 ≠ 0→(pl.set a (hs.length+1)).getD (y % pl.length) 0 ≠ 0:=fun y hy=>by
  have hne:a ≠ y % pl.length:=fun e=>hy (by rw[← e];exact h0)
  simpa[List.getD_eq_getElem?_getD,List.getElem?_set_ne hne] using hy
 refine⟨?_,fun v hv=>?_,fun c hc=>?_⟩
 ·rw[fD ha h0 (by omega),h.cnt];simp
 ·rw[List.length_append,List.length_singleton]
  rcases List.mem_or_eq_of_mem_set hv with hv | rfl
  ·have:=h.vals v hv;omega
  ·omega
 ·simp only[List.length_set]
  by_cases hcl:c<hs.length
  ·obtain⟨d,h1,h2⟩:=h.reach c hcl
   rw[List.getElem_append_left hcl]
   refine⟨d,?_,fun e he=>nz _ (h2 e he)⟩
   have hne:a ≠ (hs[c]+d) % pl.length:=fun e=>by
    rw[← e] at h1
    rw[List.getD_eq_getElem?_getD,h1] at h0
    simp at h0
   rw[List.getElem?_set_ne hne,h1]
  ·have:c=hs.length:=by simp at hc;omega
   subst this
   rw[List.getElem_append_right (BW _)]
   simp only[Nat.sub_self,List.getElem_cons_zero]
   refine⟨k,?_,fun e he=>nz _ (hk e he)⟩
   rw[← he,List.getElem?_set_self ha]
def insP (pl:List Nat) (x v:Nat):List Nat:=pl.set (Hq (fun _=>false) pl pl.length (x % pl.length)) v
def Na:List Nat→Nat→List Nat→List Nat
 |pl,_,[]=>pl
 |pl,i,x::hs=>Na (insP pl x (i+1)) (i+1) hs
@[simp] theorem cM {pl:List Nat} {x v:Nat}:(insP pl x v).length=pl.length:=by simp[insP]
theorem Sk:∀ {hs pl:List Nat} {i:Nat},(Na pl i hs).length=pl.length
 |[],_,_=>rfl
 |x::hs,pl,i=>by rw[Na,Sk,cM]
theorem Pl.nil (m:Nat):Pl [] (List.replicate m 0):=by
 refine⟨?_,fun v hv=>?_,fun c hc=>?_⟩
 ·simp[List.countP_replicate]
 ·simp at hv;omega
 ·simp at hc
theorem bJ {stop:Nat→Bool} {pl:List Nat} {x:Nat} {hs:List Nat} (h:Pl hs pl) (hl:hs.length<pl.length) :
  Hq stop pl pl.length (x % pl.length)<pl.length∧(pl.getD (Hq stop pl pl.length (x % pl.length)) 0=0∨stop (pl.getD (Hq stop pl pl.length (x % pl.length)) 0)=true) ∧
   ∃ k,Hq stop pl pl.length (x % pl.length)=(x+k) % pl.length∧∀ e,e<k→pl.getD ((x+e) % pl.length) 0 ≠ 0∧stop (pl.getD ((x+e) % pl.length) 0)=false:=by
 obtain⟨d,h1,h2⟩:=h.free hl (x % pl.length)
 have:=Yz (stop:=stop) pl.length (x % pl.length) d (Nat.mod_lt _ (by omega)) h1 h2
 simpa using this
theorem Pl.insP {hs pl:List Nat} (h:Pl hs pl) (hl:hs.length<pl.length) (x:Nat):Pl (hs++[x]) (insP pl x (hs.length+1)):=by
 obtain⟨h1,h2,k,h3,h4⟩:=bJ (stop:=fun _=>false) (x:=x) h hl
 refine h.ins h1 (h2.resolve_right (by simp)) h3 fun e he=>(h4 e he).1
theorem Pl.grow:∀ {hs2 hs pl:List Nat},Pl hs pl→hs.length+hs2.length≤pl.length→Pl (hs++hs2) (Na pl hs.length hs2)
 |[],hs,pl,h,_=>by simpa[Na] using h
 |x::hs2,hs,pl,h,hl=>by
  simp only[List.length_cons] at hl
  have h1:=h.insP (by omega) x
  have:=Pl.grow (hs2:=hs2) h1 (by simp;omega)
  rw[List.append_assoc] at this
  simpa[Na] using this
noncomputable def Fs (ks:List T) (n:T):Nat:=ks.findIdx (fun k=>GR k n)
noncomputable def Ji (ks:List T) (n:T):List T:=if Fs ks n<ks.length then ks else ks++[n]
theorem sU {ks:List T} {n:T} {i:Nat} (h:i<ks.length) (e:ks[i]=n) (hd:ks.Nodup):Fs ks n=i:=by
 have h1:Fs ks n≤i:=by
  apply Classical.byContradiction
  intro hn
  have:=List.not_of_lt_findIdx (p:=fun k=>GR k n) (xs:=ks) (i:=i) (by unfold Fs at hn;omega)
  simp[sameB_iff.2 e] at this
 have h2:Fs ks n<ks.length:=by omega
 have h3:ks[Fs ks n]=n:=sameB_iff.1 (List.findIdx_getElem (p:=fun k=>GR k n) (w:=h2))
 apply Classical.byContradiction
 intro hn
 have h4:Fs ks n<i:=by omega
 have:=List.pairwise_iff_getElem.1 hd _ _ h2 h h4
 exact this (by rw[h3,e])
theorem TU {ks:List T} {n:T} (h:n ∉ ks):Fs ks n=ks.length:=by
 unfold Fs
 rw[List.findIdx_eq_length]
 intro x hx
 rw[Bool.eq_false_iff]
 intro e
 rw[sameB_iff] at e
 subst e
 exact h hx
theorem iJ (ks:List T) (n:T):Fs ks n≤ks.length:=List.findIdx_le_length
theorem clsI_lt {ks:List T} {n:T}:Fs ks n<ks.length ↔ n ∈ ks:=by
 constructor
 ·intro h
  have h3:ks[Fs ks n]=n:=sameB_iff.1 (List.findIdx_getElem (p:=fun k=>GR k n) (w:=h))
  rw[← h3]
  exact Bq _
 ·intro h
  have:=iJ ks n
  apply Classical.byContradiction
  intro hn
  have e:Fs ks n=ks.length:=by omega
  have:=(List.findIdx_eq_length (p:=fun k=>GR k n) (xs:=ks)).1 e n h
  rw[Bool.eq_false_iff] at this
  exact this (sameB_iff.2 rfl)
noncomputable def Bf:List T→List T→List T × List Nat
 |ks,[]=>(ks,[])
 |ks,t::l=>((Bf (Ji ks (Ai t)) l).1,Fs ks (Ai t)::(Bf (Ji ks (Ai t)) l).2)
end Go.PL
namespace Go.Proofs.YtbjmaoedheiigaaGreat
open Go Go.G Go.Proofs Go.PL
structure Cl where
 l:List (List Int)
 r:Rf
 t:T
noncomputable def Cl.h (c:Cl):Int:=Ee (Ai c.t)
noncomputable def Cl.hn (c:Cl):Nat:=c.h.toNat
abbrev clL (h:Int) (l:List (List Int)) (r:Rf):List A:=uv h::Xr l r
noncomputable def Cl.a (c:Cl):A:=.agg (clL c.h c.l c.r)
abbrev nv (n:Nat):A:=iv (n:Int)
structure Tb where
 u:Nat
 uc:Nat
 up:Nat
 cl:List Cl
 pl:List Nat
noncomputable def aG (r:Nat) (S:Tb):Nm→VOb
 |[]=>⟨S.u,.cells [.osl [r,0] S.uc 9 0 S.cl.length,.osl [r,1] S.up 1 0 S.pl.length]⟩
 |[0]=>⟨S.uc,.arr 9 (S.cl.map Cl.a)⟩
 |[1]=>⟨S.up,.arr 1 (S.pl.map nv)⟩
 |_=>⟨0,.none⟩
@[simp] theorem AfA {r:Nat} {S:Tb}:aG r S []=⟨S.u,.cells [.osl [r,0] S.uc 9 0 S.cl.length,.osl [r,1] S.up 1 0 S.pl.length]⟩:=rfl
@[simp] theorem AiS {r:Nat} {S:Tb}:aG r S [0]=⟨S.uc,.arr 9 (S.cl.map Cl.a)⟩:=rfl
@[simp] theorem AiL {r:Nat} {S:Tb}:aG r S [1]=⟨S.up,.arr 1 (S.pl.map nv)⟩:=rfl
theorem tv {g:Nm→Nm} {δ:Nm→Nat} (l:List Nat):A.renL g δ (l.map nv)=l.map nv:=by
 rw[CD,List.map_map]
 rfl
theorem xg {g:Nm→Nm} {δ:Nm→Nat} (c:Cl):c.a.ren g δ=c.a:=by
 have:(PA c.l c.r).ren g δ=PA c.l c.r:=by unfold PA;split<;>simp[A.ren,mL]
 simp[Cl.a,A.ren,A.renL,this]
theorem tb {D:Nm→Prop} (c:Cl):c.a.refs D:=by
 have:(PA c.l c.r).refs D:=by unfold PA;split<;>simp[A.refs,mL]
 simp[Cl.a,A.refs,A.refsL,this]
noncomputable def vl (S:Tb):Fam:=⟨fun r=>aG r S,fun {g δ r r'} hg hd p=>by
  match p with
  |[]=>simp[VOb.ren,Ob.ren,A.renL,A.ren,hg,hd]
  |[0]=>
   refine Fam.arr_ren ?_
   rw[CD,List.map_map]
   exact List.map_congr_left fun c _=>xg c
  |[1]=>exact Fam.arr_ren (tv _)
  |0::a::q=>rfl
  |1::a::q=>rfl
  |(a+2)::q=>rfl,fun {D r} hD p=>by
  match p with
  |[]=>simp[Ob.refs,A.refsL,A.refs,hD]
  |[0]=>
   refine refsL_iff.2 fun x hx=>?_
   obtain⟨c,_,rfl⟩:=List.mem_map.1 hx
   exact tb c
  |[1]=>
   refine refsL_iff.2 fun x hx=>?_
   obtain⟨c,_,rfl⟩:=List.mem_map.1 hx
   trivial
  |0::a::q=>trivial
  |1::a::q=>trivial
  |(a+2)::q=>trivial⟩
@[simp] theorem Ai9 {S:Tb} {r:Nat}:(vl S).F r=aG r S:=rfl
theorem al {r:Nat} {S S':Tb} {p:Nm} (h0:p ≠ []) (h1:p ≠ [0]) (h2:p ≠ [1]):aG r S p=aG r S' p:=by
 match p,h0,h1,h2 with
 |[],h,_,_=>exact absurd rfl h
 |[0],_,h,_=>exact absurd rfl h
 |[1],_,_,h=>exact absurd rfl h
 |0::a::q,_,_,_=>rfl
 |1::a::q,_,_,_=>rfl
 |(a+2)::q,_,_,_=>rfl
theorem yV {r u uc up:Nat} {cl:List Cl} {pl pl':List Nat} {p:Nm} (h:p ≠ [1]) (hl:pl.length=pl'.length):aG r ⟨u,uc,up,cl,pl⟩ p=aG r ⟨u,uc,up,cl,pl'⟩ p:=by
 by_cases h0:p=[]
 ·subst h0;simp[hl]
 ·by_cases h1:p=[0]
  ·subst h1;rfl
  ·exact al h0 h1 h
noncomputable abbrev uU (S:Tb):A:=.pim [.sl false (S.cl.map Cl.a),.sl false (S.pl.map nv)]
theorem qc {r:Nat} {S:Tb} {H:Hp} (hF:∀ p,H (r::p)=aG r S p):Jd H (.pob [r] S.u 0) (uU S):=by
 refine Zo (cs:=[.osl [r,0] S.uc 9 0 S.cl.length,.osl [r,1] S.up 1 0 S.pl.length]) (by simp[hF]) ?_ (by simp)
 simp
 refine⟨Bb (l:=S.cl) (f:=Cl.a) (by simp[hF]) rfl fun x=>?_,Bb (l:=S.pl) (f:=nv) (by simp[hF]) rfl fun x=>by simp⟩
 simp[Cl.a]
structure Tb.Ok (S:Tb):Prop where
 p8:8≤S.pl.length
 half:2*S.cl.length≤S.pl.length
 most:S.pl.length≤8+4*S.cl.length
 pl:Pl (S.cl.map Cl.hn) S.pl
 means:∀ c,c ∈ S.cl→Sg c.l∧AG c.l c.r c.t
 nd:(S.cl.map fun c=>Ai c.t).Nodup
noncomputable def Tb.ks (S:Tb):List T:=S.cl.map fun c=>Ai c.t
@[simp] theorem Tb.ks_length (S:Tb):S.ks.length=S.cl.length:=by simp[Tb.ks]
def newTb:Tb:=⟨1,1,1,[],List.replicate 8 0⟩
theorem lL:A4 Tryz.prog 200 (fun _=>[]) Fam.no (fun r=>.pob [r] 1 0) (vl newTb):=by
 refine Ax aA (by simp) (by simp) AN fun w0 I0 M0 m0=>?_
 unfold Sd
 simp
 refine Rx (Bd (d:=[0]) 0 [0,0] 9 rfl rfl (by simp)) ?_
 simp
 refine AH rfl rfl fun p=>?_
 match p with
 |[]=>rfl
 |[0]=>rfl
 |[1]=>rfl
 |0::a::q=>rfl
 |1::a::q=>rfl
 |(a+2)::q=>rfl
theorem VM (a m:Nat):((a:Int) % (m:Int))=((a % m:Nat):Int):=by omega
theorem Wd (S:Tb) (h:S.pl.length<4611686018427387904) (a:Nat) (ha:a<S.pl.length):G.Spec Tryz.prog 270 [uU S,nv a] (nv ((a+1) % S.pl.length)):=by
 refine Aj O2 (by simp) fun w0 I0=>?_
 unfold IY
 have e:IntKind.i64.wrap ((a:Int)+1)=((a+1:Nat):Int):=Af (by omega) (by omega)
 have hne:¬ S.pl=[]:=fun e=>by rw[e] at ha;simp at ha
 simp[e,hne]
 refine Ap rfl ?_
 have h1:((a:Int)+1).tmod (S.pl.length:Int)=(((a+1) % S.pl.length:Nat):Int):=by
  rw[Int.tmod_eq_emod_of_nonneg (by omega)]
  have:=VM (a+1) S.pl.length
  rw[Int.natCast_add] at this
  exact this
 rw[h1]
noncomputable def L9 (S:Tb) (t:T) (v:Nat):Bool:=match S.cl[v-1]? with
 |some c=>KJ c.t t
 |none=>false
noncomputable def Tb.fnd (S:Tb) (t:T):Nat:=Hq (L9 S t) S.pl S.pl.length ((Ee (Ai t)).toNat % S.pl.length)
theorem Tb.Ok.lt {S:Tb} (h:S.Ok):S.cl.length<S.pl.length:=by have:=h.p8;have:=h.half;omega
theorem Yr {S:Tb} (h:S.Ok) (t:T):S.fnd t<S.pl.length∧((∃ v,S.pl[S.fnd t]? = some (v+1)∧Fs S.ks (Ai t)=v∧v<S.cl.length)∨(S.pl.getD (S.fnd t) 0=0∧Fs S.ks (Ai t)=S.cl.length)) ∧
  ∃ k,S.fnd t=((Ee (Ai t)).toNat+k) % S.pl.length∧∀ e,e<k→S.pl.getD (((Ee (Ai t)).toNat+e) % S.pl.length) 0 ≠ 0:=by
 have hlt:=h.lt
 obtain⟨h1,h2,k,h3,h4⟩:=bJ (stop:=L9 S t) (x:=(Ee (Ai t)).toNat) h.pl (by simpa using hlt)
 refine⟨h1,?_,k,h3,fun e he=>(h4 e he).1⟩
 change S.fnd t<_ at h1
 change S.pl.getD (S.fnd t) 0=0∨L9 S t (S.pl.getD (S.fnd t) 0)=true at h2
 change S.fnd t=_ at h3
 by_cases h0:S.pl.getD (S.fnd t) 0=0
 ·refine .inr ⟨h0,?_⟩
  rw[← Tb.ks_length]
  refine TU fun hn=>?_
  simp only[Tb.ks,List.mem_map] at hn
  obtain⟨c,hc,e⟩:=hn
  obtain⟨i,hi,rfl⟩:=List.mem_iff_getElem.1 hc
  obtain⟨d,g1,g2⟩:=h.pl.reach i (by simpa using hi)
  have eh:(S.cl.map Cl.hn)[i]'(by simpa using hi)=(Ee (Ai t)).toNat:=by simp[Cl.hn,Cl.h,e]
  rw[eh] at g1
  have g2':∀ e,e<d→S.pl.getD (((Ee (Ai t)).toNat+e) % S.pl.length) 0 ≠ 0:=fun e' he'=>by have:=g2 e' he';rwa [eh] at this
  rcases Nat.lt_trichotomy d k with hd | hd | hd
  ·have:=(h4 d hd).2
   rw[List.getD_eq_getElem?_getD,g1] at this
   simp[L9,hi] at this
   rw[eqT_iff.2 e] at this
   cases this
  ·subst hd
   rw[h3,List.getD_eq_getElem?_getD,g1] at h0
   simp at h0
  ·exact g2' k hd (by rw[← h3];exact h0)
 ·have h2:=h2.resolve_left h0
  rw[List.getD_eq_getElem?_getD,List.getElem?_eq_getElem h1] at h0 h2
  simp only[Option.getD_some] at h0 h2
  have hv:=h.pl.vals _ (Bq h1)
  rw[List.length_map] at hv
  have hvl:S.pl[S.fnd t]-1<S.cl.length:=by omega
  simp[L9,hvl] at h2
  refine .inl ⟨S.pl[S.fnd t]-1,by rw[List.getElem?_eq_getElem h1];congr 1;omega,?_,hvl⟩
  exact sU (ks:=S.ks) (by simpa using hvl) (by simp[Tb.ks,eqT_iff.1 h2]) h.nd
noncomputable def Nd (S:Tb):Tb:={ S with up:=S.up+1,pl:=Na (List.replicate (2*S.pl.length) 0) 0 (S.cl.map Cl.hn) }
noncomputable def IG (S:Tb) (l:List (List Int)) (r:Rf) (t:T):Tb:={ S with uc:=S.uc+1,cl:=S.cl++[⟨l,r,t⟩],pl:=S.pl.set (S.fnd t) (S.cl.length+1) }
noncomputable def LR (S:Tb) (l:List (List Int)) (r:Rf) (t:T):Tb:=
 if Fs S.ks (Ai t)<S.cl.length then S else if S.pl.length<2*(S.cl.length+1) then Nd (IG S l r t) else IG S l r t
structure Tb.Ok1 (S:Tb):Prop where
 p8:8≤S.pl.length
 half:2*S.cl.length≤S.pl.length+2
 most:S.pl.length≤8+4*S.cl.length
 pl:Pl (S.cl.map Cl.hn) S.pl
 means:∀ c,c ∈ S.cl→Sg c.l∧AG c.l c.r c.t
 nd:(S.cl.map fun c=>Ai c.t).Nodup
theorem iG {S:Tb} (h:S.Ok) {l:List (List Int)} {r:Rf} {t:T} (hs:Sg l) (hm:AG l r t) (hn:Fs S.ks (Ai t)=S.cl.length):(IG S l r t).Ok1:=by
 obtain⟨h1,h2,k,h3,h4⟩:=Yr h t
 have h0:S.pl.getD (S.fnd t) 0=0:=by
  rcases h2 with ⟨v,_,e,hv⟩ | ⟨h0,_⟩
  ·omega
  ·exact h0
 have p8:=h.p8
 have half:=h.half
 have most:=h.most
 refine⟨by simpa[IG] using p8,by simp[IG];omega,by simp[IG];omega,?_,fun c hc=>?_,?_⟩
 ·have:=h.pl.ins h1 h0 h3 h4
  simpa[IG,Cl.hn,Cl.h] using this
 ·simp only[IG,List.mem_append,List.mem_singleton] at hc
  rcases hc with hc | rfl
  ·exact h.means c hc
  ·exact⟨hs,hm⟩
 ·simp only[IG,List.map_append,List.map_cons,List.map_nil]
  rw[List.nodup_append]
  refine⟨h.nd,by simp,fun a ha b hb=>?_⟩
  simp at hb
  subst hb
  rintro rfl
  have:Fs S.ks (Ai t)<S.ks.length:=clsI_lt.2 ha
  simp at this
  omega
theorem qu {S:Tb} (h:S.Ok1) (hf:S.pl.length<2*S.cl.length):(Nd S).Ok:=by
 have p8:=h.p8
 have half:=h.half
 have most:=h.most
 have hl:(Nd S).pl.length=2*S.pl.length:=by simp[Nd,Sk]
 refine⟨by rw[hl];omega,by rw[hl];show 2*S.cl.length≤_;omega,by rw[hl];show _≤8+4*S.cl.length;omega,?_,h.means,h.nd⟩
 have:=Pl.grow (hs2:=S.cl.map Cl.hn) (Pl.nil (2*S.pl.length)) (by simp;omega)
 simpa[Nd] using this
theorem Tb.Ok1.ok {S:Tb} (h:S.Ok1) (hf:¬ S.pl.length<2*S.cl.length):S.Ok:=⟨h.p8,by omega,h.most,h.pl,h.means,h.nd⟩
theorem Vl {S:Tb} {l:List (List Int)} {r:Rf} {t:T}:(IG S l r t).cl.length=S.cl.length+1:=by simp[IG]
theorem Vc {S:Tb} {l:List (List Int)} {r:Rf} {t:T}:(IG S l r t).pl.length=S.pl.length:=by simp[IG]
theorem jA {S:Tb} (h:S.Ok) {l:List (List Int)} {r:Rf} {t:T} (hs:Sg l) (hm:AG l r t):(LR S l r t).Ok:=by
 unfold LR
 split
 ·exact h
 ·rename_i hn
  have hle:=iJ S.ks (Ai t)
  have he:Fs S.ks (Ai t)=S.cl.length:=by simp at hle;omega
  have h1:=iG h hs hm he
  split
  ·exact qu h1 (by rw[Vl,Vc];assumption)
  ·exact h1.ok (by rw[Vl,Vc];assumption)
theorem uZ {S:Tb} {l:List (List Int)} {r:Rf} {t:T}:(LR S l r t).ks=Ji S.ks (Ai t):=by
 unfold LR Ji
 rw[Tb.ks_length]
 split
 ·rfl
 ·split<;>simp[Tb.ks,Nd,IG]
theorem yD {S:Tb} {l:List (List Int)} {r:Rf} {t:T}:(LR S l r t).u=S.u:=by
 unfold LR
 split
 ·rfl
 ·split<;>rfl
variable {n0:Nat} {w0:World} {I0:Nat→Prop} {Q:Exit→Sta→Prop}
noncomputable abbrev oP (S:Tb):A:=.fnc 270 [uU S] []
set_option pp.deepTerms true in
set_option pp.maxSteps 1000000 in
theorem th {S:Tb} (hS:S.Ok) (hb:S.cl.length≤1000000) {l:List (List Int)} (hs:Sg l) {r:Rf} {t:T} (hm:AG l r t):∀ (f a d:Nat) (H:Hp),a<S.pl.length→d<f→S.pl.getD ((a+d) % S.pl.length) 0=0→H [0]=⟨1,.cells (Xr l r)⟩ →
  (∀ H',S.pl.getD (Hq (L9 S t) S.pl f a) 0=0→Q (.exit 0) ⟨lk [(0,uU S),(1,uv (Ee (Ai t))),(5,.pob [0] 1 0),(8,oP S),(9,nv (Hq (L9 S t) S.pl f a)),(31,bv false)],H'⟩) →
  (∀ H',Q .ret ⟨lk [(6,nv (Hq (L9 S t) S.pl f a)),(7,iv 0)],H'⟩) →
  LoopC (cx Tryz.prog w0 I0 n0) Dy Q ⟨lk [(0,uU S),(1,uv (Ee (Ai t))),(5,.pob [0] 1 0),(8,oP S),(9,nv a)],H⟩:=by
 have hp8:=hS.p8
 have hmost:=hS.most
 intro f
 induction f with
 |zero=>intro a d H _ h;omega
 |succ f ih=>
  intro a d H ha hd hz hA hq hq2
  have ha':(a:Int)<S.pl.length:=by omega
  refine Ad Ah Dy.eq_1 ?_
  have hg:S.pl.getD a 0=S.pl[a]:=by simp[ha]
  by_cases h0:S.pl[a]=0
  ·simp[ha,h0]
   have e:Hq (L9 S t) S.pl (f+1) a=a:=by rw[Hq,if_pos (by rw[hg];exact h0)]
   rw[e] at hq
   exact hq H (by rw[hg];exact h0)
  ·have hd0:d ≠ 0:=fun e=>by
    subst e
    rw[Nat.add_zero,Nat.mod_eq_of_lt ha,hg] at hz
    exact h0 hz
   obtain⟨d,rfl⟩:∃ d',d=d'+1:=⟨d-1,by omega⟩
   have hv:=hS.pl.vals _ (Bq ha)
   rw[List.length_map] at hv
   obtain⟨v,hv1⟩:∃ v,S.pl[a]=v+1:=⟨S.pl[a]-1,by omega⟩
   have hvl:v<S.cl.length:=by omega
   have hvl':(v:Int)<S.cl.length:=by omega
   have hpos:(0:Int)<(v:Int)+1:=by omega
   have e1:IntKind.i64.wrap ((v:Int)+1-1)=v:=(Af (by omega) (by omega)).trans (by omega)
   have e2:IntKind.i64.wrap (v:Int)=v:=Af (by omega) (by omega)
   have hst:L9 S t (S.pl.getD a 0)=KJ S.cl[v].t t:=by rw[hg,hv1];simp[L9,hvl]
   have ef:Hq (L9 S t) S.pl (f+1) a=if KJ S.cl[v].t t=true then a else Hq (L9 S t) S.pl f ((a+1) % S.pl.length):=by
    rw[Hq,if_neg (by rw[hg];exact h0),hst]
   have ihn:=ih ((a+1) % S.pl.length) d
   rw[NJ] at ihn
   obtain⟨hcs,hcm⟩:=hS.means _ (Bq hvl)
   have hnx:=Wd S (by omega) a ha
   simp[ha,hv1,hpos,e1,e2,hvl,Cl.a]
   have go:KJ S.cl[v].t t=false→∀ H2:Hp,H2 [0]=⟨1,.cells (Xr l r)⟩→LoopC (cx Tryz.prog w0 I0 n0) Dy Q ⟨lk [(0,uU S),(1,uv (Ee (Ai t))),(5,.pob [0] 1 0),(8,oP S),(9,nv ((a+1) % S.pl.length))],H2⟩:=fun he H2 h2=>by
    rw[ef,he] at hq hq2
    exact ihn H2 (Nat.mod_lt _ (by omega)) (by omega) hz h2 hq hq2
   refine⟨fun hh=>?_,fun hh=>?_⟩
   ·simp[Aa,hA]
    refine Ae (UA hcs hs _ _ _ _ hcm hm) (by simp) ?_
    cases hq':KJ S.cl[v].t t with
    |true=>
     rw[ef,hq',if_pos rfl] at hq2
     simp
     exact hq2 _
    |false=>
     simp
     refine LV rfl hnx (by simp) ?_
     simp
     exact go hq' _ (by simp[Aa,hA])
   ·refine LV rfl hnx (by simp) ?_
    have he:KJ S.cl[v].t t=false:=by
     rw[Bool.eq_false_iff]
     intro e
     exact hh (by simp[Cl.h,eqT_iff.1 e])
    simp
    exact go he _ (by simp[Aa,hA])
theorem fh {S:Tb} (hS:S.Ok) (hb:S.cl.length≤1000000) {l:List (List Int)} (hs:Sg l) {r:Rf} {t:T} (hm:AG l r t) (hh:Ci (Ee (Ai t))):G.Spec Tryz.prog 259 [uU S,uv (Ee (Ai t)),GH l r] (.tup [nv (S.fnd t),iv 0]):=by
 have hp8:=hS.p8
 have hmost:=hS.most
 refine Aj Pn (by simp) fun w0 I0=>?_
 unfold I8
 obtain⟨d,h1,h2⟩:=hS.pl.free (by simpa using hS.lt) ((Ee (Ai t)).toNat % S.pl.length)
 have eu:IntKind.u64.wrap (S.pl.length:Int)=S.pl.length:=BI (by omega) (by omega)
 have hne:¬ S.pl=[]:=fun e=>by rw[e] at hp8;simp at hp8
 have et:IntKind.i64.wrap ((Ee (Ai t)).tmod (S.pl.length:Int))=(((Ee (Ai t)).toNat % S.pl.length:Nat):Int):=by
  rw[Int.tmod_eq_emod_of_nonneg hh.1]
  obtain⟨n,hn⟩:=Int.eq_ofNat_of_zero_le hh.1
  rw[hn,VM]
  have:=Nat.mod_lt n (show 0<S.pl.length by omega)
  exact Af (by omega) (by omega)
 have hlt:(Ee (Ai t)).toNat % S.pl.length<S.pl.length:=Nat.mod_lt _ (by omega)
 unfold Tb.fnd
 generalize (Ee (Ai t)).toNat % S.pl.length=a at et hlt h2
 simp[eu,hne,et]
 refine th hS hb hs hm S.pl.length a d _ hlt h1 h2 (by simp) (fun H' _=>?_) fun H'=>?_
 ·simp
  exact Ab rfl
 ·simp
  exact Ab rfl
theorem pK {h:Int} (h0:Ci h) {m:Nat} (hm:0<m) (hm2:m<4611686018427387904):IntKind.i64.wrap (h.tmod (m:Int))=((h.toNat % m:Nat):Int):=by
 rw[Int.tmod_eq_emod_of_nonneg h0.1]
 obtain⟨n,hn⟩:=Int.eq_ofNat_of_zero_le h0.1
 rw[hn,VM]
 have:=Nat.mod_lt n hm
 exact Af (by omega) (by omega)
section
variable {n0:Nat} {w0:World} {I0:Nat→Prop} {M0:Nm→Nat→Prop} {m0:Mu} {Q:Exit→Sta→Prop}
theorem uK {S:Tb} (hb:S.pl.length<4611686018427387904) {i n uc:Nat} {k:Int}:∀ (f a d:Nat) (H:Hp),(∀ p,H (0::p)=aG 0 S p)→a<S.pl.length→d<f→S.pl.getD ((a+d) % S.pl.length) 0=0 →
  Q (.exit 2) ⟨lk [(0,.pob [0] S.u 0),(2,iv k),(4,nv (Hq (fun _=>false) S.pl f a)),(18,.osl [0,0] uc 9 0 n),(19,nv n),(20,nv i),(42,bv false)],H⟩ →
  LoopC (EP Tryz.prog w0 I0 M0 n0 m0) FI Q ⟨lk [(0,.pob [0] S.u 0),(2,iv k),(4,nv a),(18,.osl [0,0] uc 9 0 n),(19,nv n),(20,nv i)],H⟩:=by
 intro f
 induction f with
 |zero=>intro a d H _ _ h;omega
 |succ f ih=>
  intro a d H hH ha hd hz hq
  have ha':(a:Int)<S.pl.length:=by omega
  refine Ad Ah FI.eq_1 ?_
  have hg:S.pl.getD a 0=S.pl[a]:=by simp[ha]
  by_cases h0:S.pl[a]=0
  ·simp[ha,h0,hH]
   have e:Hq (fun _=>false) S.pl (f+1) a=a:=by rw[Hq,if_pos (by rw[hg];exact h0)]
   rw[e] at hq
   exact hq
  ·have hd0:d ≠ 0:=fun e=>by
    subst e
    rw[Nat.add_zero,Nat.mod_eq_of_lt ha,hg] at hz
    exact h0 hz
   obtain⟨d,rfl⟩:∃ d',d=d'+1:=⟨d-1,by omega⟩
   have hpos:(0:Int)<S.pl[a]:=by omega
   have hpos':0<S.pl[a]:=by omega
   have ef:Hq (fun _=>false) S.pl (f+1) a=Hq (fun _=>false) S.pl f ((a+1) % S.pl.length):=by
    rw[Hq,if_neg (by rw[hg];exact h0)]
    simp
   rw[ef] at hq
   simp[ha,hpos',hH]
   refine N5 [uU S,nv a] ((Wd S hb a ha).toB rfl) (by simp;exact⟨qc hH,Ab rfl⟩) (by simp) ?_
   simp
   exact ih ((a+1) % S.pl.length) d H hH (Nat.mod_lt _ (by omega)) (by omega) (by rw[NJ];exact hz) hq
theorem uO {cl:List Cl} {u uc up m:Nat} (hc:cl.length≤1000000) (hb:m<4611686018427387904) (hm:cl.length<m) (hh:∀ c,c ∈ cl→Ci c.h):∀ (j i:Nat) (pl:List Nat) (H:Hp),i+j=cl.length→pl.length=m→Pl ((cl.take i).map Cl.hn) pl→(∀ p,H (0::p)=aG 0 ⟨u,uc,up,cl,pl⟩ p) →
  (∀ (q:Bool) (H':Hp),(∀ p,H' (0::p)=aG 0 ⟨u,uc,up,cl,Na pl i ((cl.drop i).map Cl.hn)⟩ p)→Q (.exit 0) ⟨lk [(0,.pob [0] u 0),(18,.osl [0,0] uc 9 0 cl.length),(19,nv cl.length),(20,nv cl.length),(21,bv q)],H'⟩) →
  LoopC (EP Tryz.prog w0 I0 M0 n0 m0) Du Q ⟨lk [(0,.pob [0] u 0),(18,.osl [0,0] uc 9 0 cl.length),(19,nv cl.length),(20,nv i)],H⟩:=by
 intro j
 induction j with
 |zero=>
  intro i pl H hi hl hpl hH hq
  have:i=cl.length:=by omega
  subst this
  refine Ad Ah Du.eq_1 ?_
  simp
  exact hq _ H (by simpa[Na] using hH)
 |succ j ih=>
  intro i pl H hi hl hpl hH hq
  have hlt:i<cl.length:=by omega
  have hlt':(i:Int)<cl.length:=by omega
  have hpos:0<pl.length:=by omega
  have hne:¬ pl=[]:=fun e=>by rw[e] at hpos;simp at hpos
  have eu:IntKind.u64.wrap (pl.length:Int)=pl.length:=BI (by omega) (by omega)
  have hck:=hh _ (Bq hlt)
  have et:=pK hck hpos (by omega)
  have ei:IntKind.i64.wrap ((i:Int)+1)=((i+1:Nat):Int):=Af (by omega) (by omega)
  refine Ad Ah Du.eq_1 ?_
  obtain⟨d,f1,f2⟩:=hpl.free (by simp;omega) (cl[i].h.toNat % pl.length)
  have ha:cl[i].h.toNat % pl.length<pl.length:=Nat.mod_lt _ hpos
  have hins:insP pl cl[i].hn (i+1)=pl.set (Hq (fun _=>false) pl pl.length (cl[i].h.toNat % pl.length)) (i+1):=rfl
  have hpl2:=hpl.insP (by simp;omega) cl[i].hn
  have htk:(cl.take (i+1)).map Cl.hn=(cl.take i).map Cl.hn++[cl[i].hn]:=by rw[Fj hlt,List.map_append];rfl
  have hlen:((cl.take i).map Cl.hn).length+1=i+1:=by simp;omega
  rw[hlen,← htk] at hpl2
  have hgr:Na pl i ((cl.drop i).map Cl.hn)=Na (insP pl cl[i].hn (i+1)) (i+1) ((cl.drop (i+1)).map Cl.hn):=by rw[List.drop_eq_getElem_cons hlt,List.map_cons,Na]
  rw[hgr] at hq
  have f3:=(Yz (stop:=fun _=>false) pl.length (cl[i].h.toNat % pl.length) d ha f1 f2).1
  rw[hins] at hpl2 hq
  generalize cl[i].h.toNat % pl.length=a at et ha f2 f3 hpl2 hq
  simp[hlt,hH,Aa,Cl.a,eu,hne,et]
  refine uK (S:=⟨u,uc,up,cl,pl⟩) (by simpa using (by omega)) pl.length a d _ (fun p=>by simp[Aa,hH]) ha f1 f2 ?_
  generalize Hq (fun _=>false) pl pl.length a=b at f3 hpl2 hq
  have f3':(b:Int)<pl.length:=by omega
  simp[f3,hH,Aa,ei]
  refine ih (i+1) (pl.set b (i+1)) _ (by omega) (by simpa using hl) hpl2 (fun p=>?_) hq
  by_cases hp:p=[1]
  ·subst hp
   simp[Aa,List.map_set]
   rfl
  ·simp[Aa,hp,hH]
   exact yV hp (by simp)
end
theorem gV {S:Tb} (hc:S.cl.length≤1000000) (hb:S.pl.length≤8000000) (hm:S.cl.length<2*S.pl.length) (hh:∀ c,c ∈ S.cl→Ci c.h):A4 Tryz.prog 260 (fun r=>[.pob [r] S.u 0]) (vl S) (fun _=>.tup []) (vl (Nd S)):=by
 refine Ax Pe (by simp) (by simp) (by simp) fun w0 I0 M0 m0=>?_
 unfold IV
 have e2:IntKind.i64.wrap (2*(S.pl.length:Int))=((2*S.pl.length:Nat):Int):=(Af (by omega) (by omega)).trans (by simp)
 have e3:(2*(S.pl.length:Int)).toNat=2*S.pl.length:=by omega
 simp[e2,e3,Aa]
 refine⟨⟨by omega,by omega⟩,?_⟩
 refine uO (cl:=S.cl) (u:=S.u) (uc:=S.uc) (up:=S.up+1) (m:=2*S.pl.length) hc (by omega) hm hh S.cl.length 0 (List.replicate (2*S.pl.length) 0) _ (by omega) (by simp) (by simpa using Pl.nil _) (fun p=>?_) (fun q H' hH'=>?_)
 ·simp only[Bx,if_true]
  refine OO ?_ (fun h1=>OO ?_ (fun h2=>?_))
  ·simp
  ·simp
  ·by_cases h3:p=[0]
   ·subst h3;rfl
   ·exact al h1 h3 h2
 ·simp
  exact AQ rfl rfl fun p=>hH' p
theorem b6 (x:Int):Ci (IntKind.u64.wrap x):=by
 rw[IntKind.wrap_u64]
 unfold Ci
 omega
theorem ah (h x:Int):Ci (QY h x):=b6 _
theorem bj:∀ (w:List Int) (h:Int),Ci h→Ci (w.foldl QY h)
 |[],_,h=>h
 |x::w,_,_=>bj w _ (ah _ _)
mutual
theorem rm:∀ t:T,Ci (Ee t)
 |.mk k w l=>by rw[Ee];exact cg l _ (bj _ _ (ah _ _))
theorem cg:∀ (l:List T) (h:Int),Ci h→Ci (Q8 h l)
 |[],_,h=>by rw[Q8];exact h
 |t::l,_,_=>by rw[Q8];exact cg l _ (ah _ _)
end
theorem Vu (l:List (List Int)) (r:Rf):Ez (fun _=>GH l r):=EN rfl fun x hx=>by
 simp at hx
 rcases hx with rfl | rfl | rfl | rfl | rfl | rfl | rfl | rfl<;>simp
theorem cf {S:Tb} (hS:S.Ok) (hb:S.cl.length≤400000) {l:List (List Int)} (hs:Sg l) {r:Rf} {t:T} (hm:AG l r t) :
  A4 Tryz.prog 235 (fun q=>[.pob [q] S.u 0,GH l r]) (vl S) (fun _=>.tup [nv (Fs S.ks (Ai t)),iv 0]) (vl (LR S l r t)):=by
 refine Ax NA (by simp) (Ag AN (Ag (Vu l r) Am)) (Bn (Ag AE (Ag AE Am))) fun w0 I0 M0 m0=>?_
 unfold Ix
 have hp8:=hS.p8
 have hmost:=hS.most
 have hhalf:=hS.half
 have hr:=rm
 obtain⟨f1,f2,_⟩:=Yr hS t
 simp
 refine Ae (j8 hs _ _ hm) (by simp) ?_
 simp
 refine N5 [uU S,uv (Ee (Ai t)),GH l r] ((fh hS (by omega) hs hm (hr _)).toB rfl) (by simp;exact⟨qc (fun p=>by simp),Ab rfl,Ab (by simp)⟩) (by simp) ?_
 have f1':(S.fnd t:Int)<S.pl.length:=by omega
 rcases f2 with ⟨v,g1,g2,g3⟩ | ⟨g1,g2⟩
 ·have e1:IntKind.i64.wrap ((v:Int)+1-1)=v:=(Af (by omega) (by omega)).trans (by omega)
  have hpos:(0:Int)<(v:Int)+1:=by omega
  have e1b:IntKind.i64.wrap (v:Int)=v:=Af (by omega) (by omega)
  have hcs:LR S l r t=S:=by simp[LR,g2,g3]
  have g1':S.pl[S.fnd t]=v+1:=by rw[List.getElem?_eq_getElem f1] at g1;exact Option.some.inj g1
  simp[f1,g1',hpos,e1,e1b,hcs,g2]
  exact AH rfl rfl fun p=>rfl
 ·have g1':S.pl[S.fnd t]=0:=by
   rw[List.getD_eq_getElem?_getD,List.getElem?_eq_getElem f1] at g1
   simpa using g1
  have e8:IntKind.i64.wrap ((S.cl.length:Int)+1-1)=S.cl.length:=(Af (by omega) (by omega)).trans (by omega)
  have e9:IntKind.i64.wrap (S.cl.length:Int)=S.cl.length:=Af (by omega) (by omega)
  have hfam:∀ p,(Ay (Ay (Ay (aG 0 S) [0] ⟨S.uc+1,.arr 9 (S.cl.map Cl.a++[.agg [uv (Ee (Ai t)),PA l r,iv r.kind,iv r.s,iv r.at_,iv r.data,iv r.kids,iv r.count,uv r.n]])⟩) [] ⟨S.u,.cells [.osl [0,0] (S.uc+1) 9 0 (S.cl.length+1),.osl [0,1] S.up 1 0 S.pl.length]⟩) [1] ⟨S.up,.arr 1 ((S.pl.map nv).set (S.fnd t) (iv ((S.cl.length:Int)+1)))⟩:Nm→VOb) p=aG 0 (IG S l r t) p:=fun p=>by
   refine OO ?_ (fun h1=>OO ?_ (fun h2=>OO ?_ (fun h3=>?_)))
   ·simp[IG,List.map_set]
    rfl
   ·simp[IG]
   ·simp[IG,Cl.a,Cl.h]
   ·exact al h2 h3 h1
  have ew:IntKind.i64.wrap ((S.cl.length:Int)+1)=(S.cl.length:Int)+1:=Af (by omega) (by omega)
  have ew2:IntKind.i64.wrap (2*((S.cl.length:Int)+1))=2*((S.cl.length:Int)+1):=Af (by omega) (by omega)
  have hle:(S.cl.length+1)*72≤140737488355328:=by omega
  simp[f1,g1',Aa,AI,hle,ew,ew2]
  refine⟨fun hf=>?_,fun hf=>?_⟩
  ·have hok:=iG hS hs hm g2
   have hcs:LR S l r t=Nd (IG S l r t):=by
    unfold LR
    rw[if_neg (by omega),if_pos (by omega)]
   have hcl:(Nd (IG S l r t)).cl.length=S.cl.length+1:=by simp[Nd,IG]
   have hu:(Nd (IG S l r t)).u=S.u:=rfl
   refine Au 0 (gV (S:=IG S l r t) (by rw[Vl];omega) (by rw[Vc];omega) (by rw[Vl,Vc];omega) (fun c _=>hr _)) (fun p=>hfam p) rfl (by simp) ?_
   rw[hcs]
   simp
   unfold ET
   simp[hu,hcl,e8,e9]
   exact AH rfl (by simp[g2]) fun p=>rfl
  ·have hcs:LR S l r t=IG S l r t:=by
    unfold LR
    rw[if_neg (by omega),if_neg (by omega)]
   rw[hcs]
   unfold ET
   simp[Aa,e8,e9]
   exact AH rfl (by simp[g2]) fun p=>hfam p
end Go.Proofs.YtbjmaoedheiigaaGreat
namespace Go.G
open Go.RowKit
theorem Sim.move {c:Cx} {w:World} {I:Nat→Prop} {μ:Mu} {H:Hp} (hs:Sim c w I μ H) {d d':Nm} (hne:d ≠ d') (h0:(H d').u=0) (h1:1≤(H d).u) (hM:∀ b,¬ c.M0 d b) (htg:∀ e,CQ d' e=true) :
  Ext I μ w I (Ay μ d' (μ d)) w∧Sim c w I (Ay μ d' (μ d)) (Ay (Ay H d' (H d)) d ⟨(H d).u,.none⟩):=by
 have hu0:(μ d').u=0:=by rw[hs.ver,h0]
 have hu1:1≤(μ d).u:=by rw[hs.ver];exact h1
 have hm:MuLe μ (Ay μ d' (μ d)):=fun o=>by
  by_cases e:o=d'
  ·subst e
   rw[Cn]
   exact⟨by omega,fun e=>by omega⟩
  ·rw[AK e]
   exact⟨BW _,fun _=>rfl⟩
 have hx:Ext I μ w I (Ay μ d' (μ d)) w:=⟨fun b h=>h,fun b h=>rfl,hm⟩
 have hd:(Ay (Ay H d' (H d)) d ⟨(H d).u,.none⟩:Hp) d=⟨(H d).u,.none⟩:=Cn
 have hd':(Ay (Ay H d' (H d)) d ⟨(H d).u,.none⟩:Hp) d'=H d:=by rw[AK (Ne.symm hne),Cn]
 have hoth:∀ o,o ≠ d→o ≠ d'→(Ay (Ay H d' (H d)) d ⟨(H d).u,.none⟩:Hp) o=H o:=fun o e1 e2=>by rw[AK e1,AK e2]
 -- who has a block has it in the old state,under an old name
 have old:∀ o,Eg (Ay μ d' (μ d) o) ((Ay (Ay H d' (H d)) d ⟨(H d).u,.none⟩:Hp) o).ob=true→∃ p,Eg (μ p) (H p).ob=true∧(Ay μ d' (μ d) o)=μ p∧(o=d'∧p=d∨o ≠ d'∧o ≠ d∧p=o):=fun o h=>by
  by_cases e1:o=d
  ·subst e1
   rw[hd] at h
   cases h
  ·by_cases e2:o=d'
   ·subst e2
    rw[hd',Cn] at h
    exact⟨d,h,Cn,.inl ⟨rfl,rfl⟩⟩
   ·rw[hoth o e1 e2,AK e2] at h
    exact⟨o,h,AK e2,.inr ⟨e2,e1,rfl⟩⟩
 refine⟨hx,hs.kept,hs.lt,hs.old,hs.new,fun o=>?_,fun o=>?_,fun o o' k k' hoo=>?_,fun o k=>?_,hs.mle.trans hm,fun o k=>?_,hs.tab⟩
 ·by_cases e1:o=d
  ·subst e1
   rw[hd,AK hne]
   exact hs.ver o
  ·by_cases e2:o=d'
   ·subst e2
    rw[hd',Cn]
    exact hs.ver d
   ·rw[hoth o e1 e2,AK e2]
    exact hs.ver o
 ·by_cases e1:o=d
  ·subst e1
   rw[hd]
   trivial
  ·by_cases e2:o=d'
   ·subst e2
    rw[hd',Cn]
    exact OSim.keep hx (fun _=>rfl) (hs.ob d)
   ·rw[hoth o e1 e2,AK e2]
    exact OSim.keep hx (fun _=>rfl) (hs.ob o)
 ·obtain⟨p,k1,k2,k3⟩:=old o k
  obtain⟨p',g1,g2,g3⟩:=old o' k'
  rw[k2,g2]
  refine hs.apart p p' k1 g1 fun e=>hoo ?_
  rcases k3 with ⟨a1,a2⟩ | ⟨a1,a2,a3⟩<;>rcases g3 with ⟨b1,b2⟩ | ⟨b1,b2,b3⟩
  ·rw[a1,b1]
  ·exact absurd (by rw[← b3,← e,a2]) b2
  ·exact absurd (by rw[← a3,e,b2]) a2
  ·rw[← a3,← b3,e]
 ·obtain⟨p,k1,k2,k3⟩:=old o k
  rw[k2]
  obtain⟨q1,q2,q3⟩:=hs.own p k1
  refine⟨q1,?_,q3⟩
  rcases k3 with ⟨a1,a2⟩ | ⟨a1,a2,a3⟩
  ·subst a2
   rcases q2 with h | h
   ·exact(hM _ h).elim
   ·exact .inr h
  ·subst a3
   exact q2
 ·obtain⟨p,k1,k2,k3⟩:=old o k
  rw[k2]
  rcases k3 with ⟨a1,a2⟩ | ⟨a1,a2,a3⟩
  ·rw[a1];exact htg _
  ·rw[← a3];exact hs.tag p k1
theorem n5 {w:World} {I:Nat→Prop} {μ:Mu} {d d':Nm} {u sz off len:Nat} {v:Value} (h:Rel w I μ (.osl d u sz off len) v) (e:μ d'=μ d):Rel w I μ (.osl d' u sz off len) v:=by
 cases h with
 |osl _ _ _ _ _ _ a cap g1 g2 g4 g5 g3=>exact .osl _ _ _ _ _ _ _ _ g1 (by rw[e];exact g2) g4 g5 (by rw[e];exact g3)
theorem cG {c:Cx} {s:Nat→A} {H:Hp} {d d' e:Nm} {u ue sz z off len:Nat} {xs:List A} (hM:∀ b,¬ c.M0 d b) (hne:d ≠ d') (he:e ≠ d) (he':e ≠ d') (h0:(H d').u=0) (h1:1≤(H d).u) (hz:sz=1) (hr:H e=⟨ue,.arr sz (xs++[.osl d u z off len])⟩) (htg:∀ e,CQ d' e=true:=by intro e;simp) :
  Le c ⟨s,H⟩ ⟨s,Ay (Ay (Ay H d' (H d)) d ⟨(H d).u,.none⟩) e ⟨ue,.arr sz (xs++[.osl d' u z off len])⟩⟩:=fun a w I μ hs=>by
 obtain⟨hx,hs'⟩:=hs.sim.move hne h0 h1 hM htg
 have hH:(Ay (Ay H d' (H d)) d ⟨(H d).u,.none⟩:Hp) e=⟨ue,.arr sz (xs++[.osl d u z off len])⟩:=by rw[AK he,AK he',hr]
 have hob:=hs'.ob e
 rw[hH] at hob
 obtain⟨g0,hob⟩:=hob
 rcases hob with ⟨_,hn⟩ | ⟨k1,vs,k2,k3,k4,k5,k6⟩
 ·simp at hn
 have hB:Eg (Ay μ d' (μ d) e) ((Ay (Ay H d' (H d)) d ⟨(H d).u,.none⟩:Hp) e).ob=true:=by rw[hH];exact k1
 have hmm:Ay μ d' (μ d) d'=Ay μ d' (μ d) d:=by rw[Cn,AK hne]
 obtain⟨hx2,hs2⟩:=hs'.upd (FM w none) e (Ay μ d' (μ d) e) (.arr sz (xs++[.osl d' u z off len])) (.inl rfl) (.inr rfl) (fun _=>.inr ⟨hB,rfl⟩) (fun _=>hs'.tag _ hB) (fun hx2=>by
  refine⟨g0,.inr ⟨k1,vs,k2,k3,by simpa using k4,fun x hx=>?_,fun k y hk=>?_⟩⟩
  ·rcases List.mem_append.1 hx with h | h
   ·exact k5 x (List.mem_append_left _ h)
   ·rw[List.mem_singleton.1 h,hz];rfl
  ·rw[FQ]
   rw[List.flatMap_append] at hk
   by_cases hlt:k<(xs.flatMap A.cells).length
   ·rw[List.getElem?_append_left hlt] at hk
    exact k6 k y (by rw[List.flatMap_append,List.getElem?_append_left hlt];exact hk)
   ·rw[List.getElem?_append_right (by omega)] at hk
    have hc1:([A.osl d' u z off len].flatMap A.cells)=[.osl d' u z off len]:=rfl
    rw[hc1] at hk
    have hk0:k-(xs.flatMap A.cells).length=0:=by
     have:=(List.getElem?_eq_some_iff.1 hk).1
     rw[List.length_singleton] at this
     omega
    rw[hk0] at hk
    have hy:y = .osl d' u z off len:=(Option.some.inj hk).symm
    subst hy
    obtain⟨q1,q2⟩:=k6 k (.osl d u z off len) (by rw[List.flatMap_append,List.getElem?_append_right (by omega),hk0];rfl)
    exact⟨rfl,n5 q2 hmm⟩)
 have hu:(Ay μ d' (μ d) e).u=ue:=by rw[hs'.ver,hH]
 rw[hu] at hs2
 exact⟨I,_,hs2,hs.size,hs.defers,fun t=>hx2.rel (hx.rel (hs.rel t))⟩
theorem Qf {c:Cx} {s:Nat→A} {H:Hp} (R:Nat→Prop) [DecidablePred R] (hM:∀ r p b,R r→¬ c.M0 (r::p) b) (t:Nat) (a:A) (hf:∀ H1:Hp,(∀ r p,R r→H1 (r::p)=H (r::p))→Jd H1 (s t) a) :
  ∃ H2:Hp,Le c ⟨s,H⟩ ⟨upd s t a,H2⟩∧∀ r p,¬ R r→H2 (r::p)=H (r::p):=by
 refine⟨fun o=>match o with | r::p=>if R r then ⟨(H (r::p)).u,.none⟩ else H (r::p) | []=>H [],YE (H1:=fun o=>match o with | r::p=>if R r then H (r::p) else ⟨(H (r::p)).u,.none⟩ | []=>⟨(H []).u,.none⟩) (fun o b h=>?_) t a (fun o=>?_) (fun o=>?_) (fun o=>?_) (hf _ fun r p h=>if_pos h),fun r p h=>if_neg h⟩
 ·cases o with
  |nil=>exact absurd rfl h
  |cons r p=>
   by_cases hr:R r
   ·exact hM r p b hr
   ·exact absurd (by simp[hr]) h
 ·cases o with
  |nil=>exact .inr rfl
  |cons r p=>
   by_cases hr:R r
   ·exact .inl (by simp[hr])
   ·exact .inr (by simp[hr])
 ·cases o with
  |nil=>exact .inl rfl
  |cons r p=>
   by_cases hr:R r
   ·exact .inr (by simp[hr])
   ·exact .inl (by simp[hr])
 ·cases o with
  |nil=>exact .inl rfl
  |cons r p=>
   by_cases hr:R r
   ·exact .inr (by simp[hr])
   ·exact .inl (by simp[hr])
theorem QD {c:Cx} {s:Nat→A} {H:Hp} (R:Nat→Prop) [DecidablePred R] (hM:∀ r p b,R r→¬ c.M0 (r::p) b) {r0:Nat} {p0:Nm} (hr0:¬ R r0) {u:Nat} {cs cs':List A} (hd:H (r0::p0)=⟨u,.cells cs⟩) (h1:A.ones cs'=true)
  (hf:∀ H1:Hp,(∀ r p,R r→H1 (r::p)=H (r::p))→Hd H1 cs cs') :
  ∃ H2:Hp,Le c ⟨s,H⟩ ⟨s,Ay H2 (r0::p0) ⟨u,.cells cs'⟩⟩∧∀ r p,¬ R r→H2 (r::p)=H (r::p):=by
 refine⟨fun o=>match o with | r::p=>if R r then ⟨(H (r::p)).u,.none⟩ else H (r::p) | []=>H [],fun a w I μ hs=>?_,fun r p h=>if_neg h⟩
 have part1:Part H (fun o=>match o with | r::p=>if R r then H (r::p) else ⟨(H (r::p)).u,.none⟩ | []=>⟨(H []).u,.none⟩):=fun o=>by
  cases o with
  |nil=>exact .inr rfl
  |cons r p=>
   by_cases hr:R r
   ·exact .inl (by simp[hr])
   ·exact .inr (by simp[hr])
 have part2:Part H (fun o=>match o with | r::p=>if R r then ⟨(H (r::p)).u,.none⟩ else H (r::p) | []=>H []):=fun o=>by
  cases o with
  |nil=>exact .inl rfl
  |cons r p=>
   by_cases hr:R r
   ·exact .inr (by simp[hr])
   ·exact .inl (by simp[hr])
 have h3:=hs.sim.freezeAll part1 part2 (fun o=>by
  cases o with
  |nil=>exact .inl rfl
  |cons r p=>
   by_cases hr:R r
   ·exact .inr (by simp[hr])
   ·exact .inl (by simp[hr])) (fun o b h=>by
  cases o with
  |nil=>exact absurd rfl h
  |cons r p=>
   by_cases hr:R r
   ·exact hM r p b hr
   ·exact absurd (by simp[hr]) h)
 have hd2:(fun o=>match o with | r::p=>if R r then (⟨(H (r::p)).u,.none⟩:VOb) else H (r::p) | []=>H []:Hp) (r0::p0)=⟨u,.cells cs⟩:=by
  show(if R r0 then _ else _)=_
  rw[if_neg hr0,hd]
 have hob:=hs.sim.ob (r0::p0)
 have hob:OSim w I μ (μ (r0::p0)) (.cells cs):=by
  have e:(⟨s,H⟩:Sta).H (r0::p0)=⟨u,.cells cs⟩:=hd
  rw[e] at hob
  exact hob
 obtain⟨vs,k1,k2,k3⟩:=hob
 obtain⟨hl,hg⟩:=J9 (hf (fun o=>match o with | r::p=>if R r then H (r::p) else ⟨(H (r::p)).u,.none⟩ | []=>⟨(H []).u,.none⟩) fun r p h=>if_pos h)
 have hB:Eg (μ (r0::p0)) ((fun o=>match o with | r::p=>if R r then (⟨(H (r::p)).u,.none⟩:VOb) else H (r::p) | []=>H []:Hp) (r0::p0)).ob=true:=by rw[hd2];rfl
 obtain⟨hx2,hs2⟩:=h3.upd (FM w none) (r0::p0) (μ (r0::p0)) (.cells cs') (.inl rfl) (.inr rfl) (fun _=>.inr ⟨hB,rfl⟩) (fun _=>h3.tag _ hB) (fun hx2=>by
  refine⟨vs,k1,by rw[k2,hl],fun k y hk=>?_⟩
  rw[FQ]
  obtain⟨x,hx,hfx⟩:=hg k y hk
  simp only[A.ones,List.all_eq_true] at h1
  exact⟨h1 y (List.mem_of_getElem? hk),(hfx c w I μ _ (hs.sim.part part1) (k3 k x hx).2).ofI⟩)
 have hu:(μ (r0::p0)).u=u:=by exact(h3.ver (r0::p0)).trans (congrArg VOb.u hd2)
 rw[hu] at hs2
 exact⟨_,_,hs2,hs.size,hs.defers,fun t=>hx2.rel ((hs.rel t).mono0 (fun b h=>.inl h) (fun _ _=>rfl))⟩
theorem Mc {P:Program} {f:FuncId} {n:Nat} {rs:List ResultVar} {cc:CC} {as':Nat→List A} {F F':Fam} {x:Nat→A} (t:AX P f n rs cc) (ha:(as' 0).length≤n) (h0:FamL as') (h1:Ez x)
  (h:∀ w0 I0 M0 m0,(∀ r p b,1≤r→¬ M0 (r::p) b)→WPC (EP P w0 I0 M0 n m0) cc (SN (EP P w0 I0 M0 n m0) rs 1 (x 0) (ov 0 (F'.F 0) (HM []))) ⟨QP (as' 0),ov 0 (F.F 0) (HM [])⟩):A4 P f as' F x F':=
 ⟨h0,h1,YQ t ha fun w0 I0 M0 m0 hM=>h w0 I0 M0 m0 fun r p b hr=>hM (r::p) b (by
  simp only[Bx]
  rw[if_neg (by omega)]
  rfl)⟩
end Go.G
namespace Go.PL
def EI {α:Type} (p:α→Bool) (l:List α):List α:=(l.reverse.dropWhile p).reverse
theorem Wv {α:Type} {p:α→Bool} (l:List α) (x:α):EI p (l++[x])=if p x=true then EI p l else l++[x]:=by
 unfold EI
 rw[List.reverse_append,List.reverse_singleton,List.singleton_append,List.dropWhile_cons]
 split<;>simp
theorem iH {α:Type} {P:List α→Prop} (h0:P []) (h1:∀ l x,P l→P (l++[x])) (l:List α):P l:=by
 have:∀ m:List α,P m.reverse:=by
  intro m
  induction m with
  |nil=>exact h0
  |cons x m ih=>rw[List.reverse_cons];exact h1 _ _ ih
 have:=this l.reverse
 rwa [List.reverse_reverse] at this
theorem FF {α:Type} {p:α→Bool} {z:α} (l:List α):(∀ x,x ∈ l→p x=true→x=z)→∀ i,(EI p l).getD i z=l.getD i z:=by
 refine iH (P:=fun l=>(∀ x,x ∈ l→p x=true→x=z)→∀ i,(EI p l).getD i z=l.getD i z) (fun _ i=>rfl) (fun l x ih h i=>?_) l
 rw[Wv]
 split
 ·rename_i hx
  rw[ih (fun y hy=>h y (by simp[hy])) i]
  have:=h x (by simp) hx
  subst this
  simp only[List.getD_eq_getElem?_getD,List.getElem?_append]
  split
  ·rfl
  ·rw[List.getElem?_eq_none (by omega)]
   by_cases e:i-l.length=0
   ·simp[e]
   ·rw[List.getElem?_eq_none (by simp;omega)]
 ·rfl
theorem ij {α:Type} {p:α→Bool} {z:α} (l:List α):EI p l ≠ []→p ((EI p l).getD ((EI p l).length-1) z)=false:=by
 refine iH (P:=fun l=>EI p l ≠ []→p ((EI p l).getD ((EI p l).length-1) z)=false) (fun h=>absurd rfl h) (fun l x ih h=>?_) l
 rw[Wv] at h ⊢
 split
 ·rename_i hx
  rw[if_pos hx] at h
  exact ih h
 ·rename_i hx
  simp at hx ⊢
  exact hx
theorem dW {α:Type} {p:α→Bool} {z:α} (hz:p z=true) {a b:List α} (ha:∀ x,x ∈ a→p x=true→x=z) (hb:∀ x,x ∈ b→p x=true→x=z):EI p a=EI p b ↔ ∀ i,a.getD i z=b.getD i z:=by
 constructor
 ·intro h i
  rw[← FF a ha,h,FF b hb]
 ·intro h
  have h':∀ i,(EI p a).getD i z=(EI p b).getD i z:=fun i=>by rw[FF a ha,FF b hb,h]
  have one:∀ c d:List α,(∀ i,(EI p c).getD i z=(EI p d).getD i z)→(EI p c).length≤(EI p d).length:=fun c d hcd=>by
   by_cases e:EI p c=[]
   ·simp[e]
   ·have hl:=ij (z:=z) c e
    have hpos:0<(EI p c).length:=List.length_pos_iff.2 e
    rw[hcd] at hl
    refine Nat.le_of_not_lt fun hlt=>?_
    rw[List.getD_eq_getElem?_getD,List.getElem?_eq_none (by omega)] at hl
    simp[hz] at hl
  have hlen:(EI p a).length=(EI p b).length:=Nat.le_antisymm (one a b h') (one b a fun i=>(h' i).symm)
  apply List.ext_getElem hlen
  intro i h1 h2
  have:=h' i
  simpa[List.getD_eq_getElem?_getD,h1,h2] using this
theorem Vm (l:List Int):BT l=EI (fun x=>x == 0) l:=rfl
theorem U6 (l:List T):BC l=EI (fun x=>x.kind == 0) l:=rfl
theorem n6 {a b:List Int}:BT a=BT b ↔ ∀ i,a.getD i 0=b.getD i 0:=by
 rw[Vm,Vm]
 exact dW rfl (fun x _ h=>by simpa using h) (fun x _ h=>by simpa using h)
theorem HA {t:T} (h:t.kind=0):Ai t=T0:=by cases t;simp at h;rw[B2,if_pos h]
theorem jx:Ai T0=T0:=HA rfl
theorem FL (l:List T) (i:Nat):(l.map Ai).getD i T0=Ai (l.getD i T0):=by
 simp only[List.getD_eq_getElem?_getD,List.getElem?_map]
 cases l[i]? with
 |none=>simp[jx]
 |some x=>rfl
theorem rA {a b:List T}:BC (a.map Ai)=BC (b.map Ai) ↔ ∀ i,Ai (a.getD i T0)=Ai (b.getD i T0):=by
 have hz:∀ c:List T,∀ x,x ∈ c.map Ai→(x.kind == 0)=true→x=T0:=fun c x hx h0=>by
  obtain⟨y,_,rfl⟩:=List.mem_map.1 hx
  simp at h0
  exact HA h0
 rw[U6,U6,dW (z:=T0) rfl (hz a) (hz b)]
 constructor
 ·intro h i;rw[← FL,← FL];exact h i
 ·intro h i;rw[FL,FL];exact h i
theorem YF {w w':List Int} {a b:List T}:Ai (.mk 1 w a)=Ai (.mk 1 w' b) ↔ (∀ i,w.getD i 0=w'.getD i 0)∧∀ i,Ai (a.getD i T0)=Ai (b.getD i T0):=by
 rw[B2,B2]
 simp only[if_neg (show ¬ (1:Int)=0 by decide),if_true,T.mk.injEq,true_and]
 rw[n6,rA]
theorem o0 {k:Int} {w w':List Int} {a b:List T} (h0:k ≠ 0) (h1:k ≠ 1):Ai (.mk k w a)=Ai (.mk k w' b) ↔ w=w'∧a.map Ai=b.map Ai:=by
 rw[B2,B2]
 simp[h0,h1]
theorem LA:∀ t,Ai (Ai t)=Ai t:=by
 refine T.ind fun k w ks ih=>?_
 have hm:(ks.map Ai).map Ai=ks.map Ai:=by
  rw[List.map_map]
  exact List.map_congr_left fun x hx=>ih x hx
 rw[B2]
 split
 ·exact jx
 ·rename_i h0
  split
  ·rename_i h1
   subst h1
   rw[YF (w':=w) (b:=ks) |>.2 ⟨fun i=>?_,fun i=>?_⟩,B2]
   ·simp
   ·rw[Vm]
    exact FF w (fun x _ h=>by simpa using h) i
   ·have hz:∀ x,x ∈ ks.map Ai→(x.kind == 0)=true→x=T0:=fun x hx h0=>by
     obtain⟨y,_,rfl⟩:=List.mem_map.1 hx
     simp at h0
     exact HA h0
    rw[U6,FF _ hz i,← FL,hm,FL]
  ·rename_i h1
   rw[B2,if_neg h0,if_neg h1,hm]
end Go.PL
namespace Go.Proofs.YtbjmaoedheiigaaGreat
open Go Go.G Go.Proofs Go.PL
theorem Yh {a b:List T} (hl:a.length=b.length):a.map Ai=b.map Ai ↔ ∀ i,Ai (a.getD i T0)=Ai (b.getD i T0):=by
 constructor
 ·intro h i;rw[← FL,h,FL]
 ·intro h
  apply List.ext_getElem (by simpa using hl)
  intro i h1 h2
  have:=h i
  simp at h1 h2
  simpa[List.getD_eq_getElem?_getD,h1,h2] using this
theorem rf (l:List (List Int)):AG l Rf.zero T0:=.mk _ _ .zero rfl (by simp[Ce,Rf.zero]) (by simp[nk,Rf.zero]) (fun i h=>by simp at h) (fun i h=>by simp at h)
theorem JL {l:List (List Int)} {r:Rf} {t:T} (h:AG l r t) (i:Nat):(Cj l r i).2=0∧AG l (Cj l r i).1 (t.kids.getD i T0):=by
 by_cases hi:i<t.kids.length
 ·have:=FV h hi
  rw[List.getD_eq_getElem?_getD,List.getElem?_eq_getElem hi]
  exact this
 ·have hn:=Ha h
  have:Cj l r i=(Rf.zero,0):=by
   unfold Cj
   rw[if_pos (by omega)]
  rw[this,List.getD_eq_getElem?_getD,List.getElem?_eq_none (by omega)]
  exact⟨rfl,rf l⟩
theorem TY {l:List (List Int)} {r:Rf} {t:T} (h:AG l r t) (i:Nat):ML l r i=t.words.getD i 0:=by
 obtain⟨h1,h2⟩:=CM h
 by_cases hi:i<t.words.length
 ·rw[h2 i hi,List.getD_eq_getElem?_getD,List.getElem?_eq_getElem hi];rfl
 ·rw[List.getD_eq_getElem?_getD,List.getElem?_eq_none (by omega)]
  unfold ML
  rw[if_pos (by omega)]
  rfl
variable {n0:Nat} {w0:World} {I0:Nat→Prop} {Q:Exit→Sta→Prop}
noncomputable def DV (l:List (List Int)) (r:Rf):Tb→Nat→List T→Tb
 |S,_,[]=>S
 |S,i,t::ts=>DV l r (LR S l (Cj l r i).1 t) (i+1) ts
theorem sW {l:List Nat}:∀ x,x ∈ l.map nv→Ez (fun _=>x):=fun x hx=>by
 obtain⟨n,_,rfl⟩:=List.mem_map.1 hx
 exact AE
abbrev nvM (u:Nat) (l:List Nat):Fam:=qU u 1 (l.map nv) sW
theorem Ky:∀ (l:List T) (ks:List T) (t:T),Bf ks (l++[t])=(Ji (Bf ks l).1 (Ai t),(Bf ks l).2++[Fs (Bf ks l).1 (Ai t)])
 |[],ks,t=>by simp[Bf]
 |a::l,ks,t=>by simp[Bf,Ky l]
theorem Bl:∀ (l:List T) (ks:List T),(Bf ks l).2.length=l.length
 |[],ks=>rfl
 |a::l,ks=>by simp[Bf,Bl l]
theorem Xf {l:List (List Int)} {r:Rf}:∀ (ts:List T) (S:Tb) (i:Nat) (t:T),DV l r S i (ts++[t])=LR (DV l r S i ts) l (Cj l r ((i+ts.length:Nat):Int)).1 t
 |[],S,i,t=>by simp[DV]
 |a::ts,S,i,t=>by
  simp only[List.cons_append,DV,Xf ts,List.length_cons]
  rw[show i+1+ts.length=i+(ts.length+1) from by omega]
theorem VN {l:List (List Int)} {r:Rf}:∀ (ts:List T) (S:Tb) (i:Nat),(DV l r S i ts).ks=(Bf S.ks ts).1
 |[],S,i=>rfl
 |a::ts,S,i=>by simp[DV,Bf,VN ts,uZ]
theorem Zp {l:List (List Int)} {r:Rf}:∀ (ts:List T) (S:Tb) (i:Nat),(DV l r S i ts).u=S.u
 |[],S,i=>rfl
 |a::ts,S,i=>by simp[DV,Zp ts,yD]
theorem rn (S:Tb) (l:List (List Int)) (r:Rf) (t:T):(LR S l r t).cl.length≤S.cl.length+1:=by
 unfold LR
 split
 ·omega
 ·split<;>simp[Nd,IG]
theorem Tp {l:List (List Int)} {r:Rf}:∀ (ts:List T) (S:Tb) (i:Nat),(DV l r S i ts).cl.length≤S.cl.length+ts.length
 |[],S,i=>by simp[DV]
 |a::ts,S,i=>by
  have:=Tp (l:=l) (r:=r) ts (LR S l (Cj l r i).1 a) (i+1)
  have:=rn S l (Cj l r i).1 a
  simp only[DV,List.length_cons]
  omega
section
variable {n0:Nat} {w0:World} {I0:Nat→Prop} {M0:Nm→Nat→Prop} {m0:Mu} {Q:Exit→Sta→Prop}
theorem pV {l:List (List Int)} (hs:Sg l) {r:Rf} {t:T} (hm:AG l r t) {S0:Tb} {u:Nat} (hu:S0.u=u) (hb:S0.cl.length+t.kids.length≤400000):∀ (j i:Nat) (v:VOb) (H:Hp),i+j=t.kids.length →
  (DV l r S0 0 (t.kids.take i)).Ok→(∀ p,H (0::p)=aG 0 (DV l r S0 0 (t.kids.take i)) p)→(∀ p,H (1::p)=(nvM (i+1) (Bf S0.ks (t.kids.take i)).2).F 1 p)→H [2]=⟨1,.cells (Xr l r)⟩ →
  (∀ (q:Bool) (H':Hp),(DV l r S0 0 t.kids).Ok→(∀ p,H' (0::p)=aG 0 (DV l r S0 0 t.kids) p)→(∀ p,H' (1::p)=(nvM (t.kids.length+1) (Bf S0.ks t.kids).2).F 1 p)→Q (.exit 0) ⟨lk [(0,.pob [0] u 0),(3,.pob [2] 1 0),(6,.osl [1] (t.kids.length+1) 1 0 t.kids.length),(12,nv t.kids.length),(13,nv t.kids.length),(14,bv q)],H'⟩) →
  LoopC (EP Tryz.prog w0 I0 M0 n0 m0) DF Q ⟨lk [(0,.pob [0] u 0),(3,.pob [2] 1 0),(6,.osl [1] (i+1) 1 0 i),(12,nv t.kids.length),(13,nv i)],H⟩:=by
 intro j
 induction j with
 |zero=>
  intro i v H hi hok hH hN hA hq
  have:i=t.kids.length:=by omega
  subst this
  rw[AI (BW _)] at hok hH hN
  refine Ad Ah DF.eq_1 ?_
  simp
  exact hq _ H hok hH hN
 |succ j ih=>
  intro i v H hi hok hH hN hA hq
  have hlt:i<t.kids.length:=by omega
  have hlt':(i:Int)<t.kids.length:=by omega
  obtain⟨k1,k2⟩:=FV hm hlt
  have ei:IntKind.i64.wrap ((i:Int)+1)=((i+1:Nat):Int):=Af (by omega) (by omega)
  have htk:t.kids.take (i+1)=t.kids.take i++[t.kids[i]]:=Fj hlt
  have hlen:=Tp (l:=l) (r:=r) (t.kids.take i) S0 0
  rw[List.length_take,Nat.min_eq_left (by omega)] at hlen
  have hku:=Zp (l:=l) (r:=r) (t.kids.take i) S0 0
  rw[hu] at hku
  have hC:=cf hok (by omega) hs k2
  rw[hku] at hC
  have hok2:=jA hok hs k2
  have hks:(DV l r S0 0 (t.kids.take i)).ks=(Bf S0.ks (t.kids.take i)).1:=VN _ _ _
  have hS2:DV l r S0 0 (t.kids.take (i+1))=LR (DV l r S0 0 (t.kids.take i)) l (Cj l r i).1 t.kids[i]:=by
   rw[htk,Xf,List.length_take,Nat.min_eq_left (by omega),Nat.zero_add]
  have hL2:(Bf S0.ks (t.kids.take (i+1))).2=(Bf S0.ks (t.kids.take i)).2++[Fs (DV l r S0 0 (t.kids.take i)).ks (Ai t.kids[i])]:=by
   rw[htk,Ky,hks]
  have hlL:(Bf S0.ks (t.kids.take i)).2.length=i:=by rw[Bl,List.length_take,Nat.min_eq_left (by omega)]
  have ihn:=ih (i+1)
  rw[hS2,hL2] at ihn
  generalize Fs (DV l r S0 0 (t.kids.take i)).ks (Ai t.kids[i])=c at hC ihn
  generalize (Bf S0.ks (t.kids.take i)).2=L at hN ihn hlL
  generalize LR (DV l r S0 0 (t.kids.take i)) l (Cj l r i).1 t.kids[i]=S2 at hC ihn hok2
  have hN0:=hN []
  simp at hN0
  refine Ad Ah DF.eq_1 ?_
  simp[hlt,hA]
  refine Ae (Kh hs (Ca hm) i) (by simp) ?_
  simp[k1,Aa]
  refine Au 0 hC (fun p=>by simp[Aa,hH]) rfl (by simp) ?_
  simp[Aa,hN0,ei]
  refine⟨⟨by omega,by omega⟩,?_⟩
  refine ihn v _ (by omega) hok2 (fun p=>by simp) (fun p=>?_) (by simp[Aa,hA]) hq
  by_cases hp:p=[]
  ·subst hp
   simp[Aa,AI,hlL]
  ·simp[Aa,hp,hN]
end
theorem Ws {S:Tb} (hS:S.Ok) {l:List (List Int)} (hs:Sg l) {r:Rf} {t:T} (hm:AG l r t) (hb:S.cl.length+t.kids.length≤400000) :
  bE Tryz.prog 201 (fun q=>[.pob [q] S.u 0,GH l r]) (vl S) (fun _ q=>.tup [.osl [q] (t.kids.length+1) 1 0 t.kids.length,iv 0]) (vl (DV l r S 0 t.kids)) (nvM (t.kids.length+1) (Bf S.ks t.kids).2):=by
 refine W0 Pf (by simp) (Ag AN (Ag (Vu l r) Am)) (TJ (BD (RG B8) (BD (E6 AE) LG))) (fun p=>?_) fun w0 I0 M0 m0=>?_
 ·by_cases hp:p=[]
  ·subst hp;exact .inr (by simp)
  ·exact .inl (by simp[hp])
 unfold IX
 simp
 refine Ae (DR l r) (by simp) ?_
 rw[Ha hm]
 simp
 refine LoopC.le (BX 6 [1] 1 (by simp)) ?_
 simp
 refine LoopC.le (Ao [(0,.pob [0] S.u 0),(3,.pob [2] 1 0),(6,.osl [1] 1 1 0 0),(12,nv t.kids.length),(13,nv 0)] (by simp[upd])) ?_
 refine pV hs hm (S0:=S) rfl hb t.kids.length 0 ⟨0,.none⟩ _ (by omega) (by simpa[DV] using hS) (fun p=>by simp[DV]) (fun p=>?_) (by simp) (fun q H' h1 h2 h3=>?_)
 ·by_cases hp:p=[]
  ·subst hp
   simp[Bf]
  ·simp[hp,Ne.symm hp]
 ·simp
  exact JA rfl rfl h2 h3
end Go.Proofs.YtbjmaoedheiigaaGreat
namespace Go.G
open Go.RowKit
abbrev S (l:List UInt8):A:=.v (.string ⟨l.toArray⟩)
abbrev u8v (b:UInt8):A:=.v (.int .u8 b.toNat)
@[simp] theorem AbF (l:List UInt8):(ByteArray.mk l.toArray).size=l.length:=by simp[ByteArray.size]
@[simp] theorem Agb (l:List UInt8) (i:Nat):(ByteArray.mk l.toArray)[i]? = l[i]?:=by
 by_cases h:i<l.length
 ·have h':i<(ByteArray.mk l.toArray).size:=by simpa using h
  rw[getElem?_pos (ByteArray.mk l.toArray) i h',List.getElem?_eq_getElem h]
  rfl
 ·have h':¬ i<(ByteArray.mk l.toArray).size:=by simpa using h
  rw[getElem?_neg (ByteArray.mk l.toArray) i h',List.getElem?_eq_none (by omega)]
@[simp] theorem AbJ (l:List UInt8) (i:Nat) (h:i<(ByteArray.mk l.toArray).size):(ByteArray.mk l.toArray)[i]'h=l[i]'(by simpa using h):=rfl
@[simp] theorem vz (l:List UInt8) (a b:Nat):(ByteArray.mk l.toArray).extract a b=ByteArray.mk ((l.drop a).take (b-a)).toArray:=by
 have h:((ByteArray.mk l.toArray).extract a b).data=((l.drop a).take (b-a)).toArray:=by
  rw[ByteArray.data_extract]
  simp
 cases hq:(ByteArray.mk l.toArray).extract a b with
 |mk d=>rw[hq] at h;simpa using h
@[simp] theorem xy (l m:List UInt8):ByteArray.mk l.toArray++ByteArray.mk m.toArray=ByteArray.mk (l++m).toArray:=Go.ByteArray.mk_append_mk l m
@[simp] theorem yg (l:List UInt8):(ByteArray.mk l.toArray).toList=l:=Go.ByteArray.toList_eq _
@[simp] theorem yc (l:List UInt8):QS (l.map u8v)=some l:=by
 induction l with
 |nil=>rfl
 |cons b l ih=>
  have h:dm (u8v b)=some b:=by
   have:=b.toNat_lt
   simp[dm]
   omega
  simp[QS,h,ih]
@[simp] theorem AcO {P:Program} {t u:TypeId} {f:Bool} {xs:List A}:Kc P t u (.sl f xs)=match P.underlying t,P.underlying u with
  |some (.slice e),some .string=>(match P.underlying e,QS xs with | some (.int .u8),some l=>some (S l) | _,_=>none)
  |_,_=>none:=by
 unfold Kc
 cases P.underlying t with
 |none=>rfl
 |some d=>
  cases P.underlying u with
  |none=>cases d<;>rfl
  |some d'=>cases d<;>cases d'<;>rfl
end Go.G
namespace Go.PL
structure Sc where
 i:Nat
 j:Nat
 n:Int
 deriving DecidableEq
def sc0:Sc:=⟨0,0,0⟩
def Bh (a b:Sc):Bool:=decide (b.n<a.n) || (decide (a.n=b.n)&&(decide (a.i<b.i) || (decide (a.i=b.i)&&decide (a.j<b.j))))
def Xv (l:List Sc) (i j:Nat):List Sc:=(l.set i (l.getD j sc0)).set j (l.getD i sc0)
@[simp] theorem Y8 {l:List Sc} {i j:Nat}:(Xv l i j).length=l.length:=by simp[Xv]
def kZ:Nat→List Sc→Nat→List Sc
 |0,l,_=>l
 |f+1,l,j=>if (j-1) / 2=j∨Bh (l.getD j sc0) (l.getD ((j-1) / 2) sc0)=false then l else kZ f (Xv l ((j-1) / 2) j) ((j-1) / 2)
def LD (l:List Sc) (i n:Nat):Nat:=if 2*i+2<n∧Bh (l.getD (2*i+2) sc0) (l.getD (2*i+1) sc0)=true then 2*i+2 else 2*i+1
def Hu:Nat→List Sc→Nat→Nat→List Sc × Nat
 |0,l,i,_=>(l,i)
 |f+1,l,i,n=>if n≤2*i+1 then (l,i) else if Bh (l.getD (LD l i n) sc0) (l.getD i sc0)=true then Hu f (Xv l i (LD l i n)) (LD l i n) n else (l,i)
theorem ZR:∀ (f:Nat) (l:List Sc) (j:Nat),(kZ f l j).length=l.length
 |0,l,j=>rfl
 |f+1,l,j=>by
  unfold kZ
  split
  ·rfl
  ·rw[ZR f];simp
theorem YT:∀ (f:Nat) (l:List Sc) (i n:Nat),(Hu f l i n).1.length=l.length
 |0,l,i,n=>rfl
 |f+1,l,i,n=>by
  unfold Hu
  split
  ·rfl
  ·split
   ·rw[YT f];simp
   ·rfl
end Go.PL
namespace Go.PL
open List
theorem Ya {a b:Sc}:Bh a b=true ↔ b.n<a.n∨(a.n=b.n∧(a.i<b.i∨(a.i=b.i∧a.j<b.j))):=by
 unfold Bh
 simp
theorem OZ {a b:Sc}:Bh a b=false ↔ a.n<b.n∨(a.n=b.n∧(b.i<a.i∨(a.i=b.i∧b.j≤a.j))):=by
 rw[Bool.eq_false_iff,ne_eq,Ya]
 omega
theorem LL (a:Sc):Bh a a=false:=by rw[OZ];omega
theorem Mw {a b:Sc} (h:Bh a b=true):Bh b a=false:=by
 rw[Ya] at h;rw[OZ];omega
theorem Ro {a b c:Sc} (h1:Bh b a=false) (h2:Bh c b=false):Bh c a=false:=by
 rw[OZ] at h1 h2 ⊢; omega
theorem lZ {a b:Sc} (h1:Bh a b=false) (h2:Bh b a=false):a=b:=by
 rw[OZ] at h1 h2
 obtain⟨i,j,n⟩:=a
 obtain⟨i',j',n'⟩:=b
 simp at h1 h2 ⊢
 omega
abbrev gt (l:List Sc) (k:Nat):Sc:=l.getD k sc0
theorem FR {l:List Sc} {i j:Nat} (hi:i<l.length) (hj:j<l.length) (k:Nat):gt (Xv l i j) k=if k=j then gt l i else if k=i then gt l j else gt l k:=by
 unfold gt Xv
 simp only[List.getD_eq_getElem?_getD,List.getElem?_set,List.length_set]
 by_cases h1:k=j
 ·subst h1;simp[hj]
 ·rw[if_neg (fun e=>h1 e.symm)]
  by_cases h2:k=i
  ·subst h2;simp[h1,hi]
  ·rw[if_neg (fun e=>h2 e.symm)];simp[h1,h2]
theorem VJ {l:List Sc} {i j:Nat} (hi:i<l.length) (hj:j<l.length):Xv l i j ~ l:=by
 unfold Xv
 rw[List.getD_eq_getElem?_getD,List.getD_eq_getElem?_getD,List.getElem?_eq_getElem hi,List.getElem?_eq_getElem hj]
 exact List.set_set_perm hi hj
def M8 (l:List Sc) (n:Nat):Prop:=∀ k,0<k→k<n→Bh (gt l k) (gt l ((k-1) / 2))=false
theorem pX {l:List Sc} {n:Nat} (h:M8 l n):∀ k,k<n→Bh (gt l k) (gt l 0)=false:=by
 intro k
 induction k using Nat.strongRecOn with
 |_ k ih=>
  intro hk
  by_cases h0:k=0
  ·subst h0;exact LL _
  ·exact Ro (ih ((k-1) / 2) (by omega) (by omega)) (h k (by omega) hk)
def Acr (l:List Sc) (n j:Nat):Prop:=(∀ k,0<k→k<n→k ≠ j→Bh (gt l k) (gt l ((k-1) / 2))=false)∧(∀ k,0<k→k<n→(k-1) / 2=j→0<j→Bh (gt l k) (gt l ((j-1) / 2))=false)
theorem vE:∀ (f:Nat) (l:List Sc) (j:Nat),j<f→j<l.length→Acr l l.length j→M8 (kZ f l j) l.length∧kZ f l j ~ l
 |0,l,j,hf,_,_=>by omega
 |f+1,l,j,hf,hj,⟨h1,h2⟩=>by
  unfold kZ
  split
  ·rename_i hc
   refine⟨fun k hk hk2=>?_,Perm.refl _⟩
   by_cases e:k=j
   ·subst e
    rcases hc with hc | hc
    ·omega
    ·exact hc
   ·exact h1 k hk hk2 e
  ·rename_i hc
   have hij:¬ (j-1) / 2=j:=fun e=>hc (.inl e)
   have hA:Bh (gt l j) (gt l ((j-1) / 2))=true:=by
    cases hq:Bh (gt l j) (gt l ((j-1) / 2)) with
    |true=>rfl
    |false=>exact(hc (.inr hq)).elim
   obtain⟨i,hi⟩:∃ i,i=(j-1) / 2:=⟨_,rfl⟩
   rw[← hi] at hij hA h2 ⊢
   have hil:i<l.length:=by omega
   have hlt:i<j:=by omega
   have ih:=vE f (Xv l i j) i (by omega) (by simp;omega) ⟨fun k hk hk2 hne=>?_,fun k hk hk2 hp h0=>?_⟩
   ·simp only[Y8] at ih
    exact⟨ih.1,ih.2.trans (VJ hil hj)⟩
   ·simp only[Y8] at hk2
    rw[FR hil hj,FR hil hj]
    by_cases e1:k=j
    ·subst e1
     rw[if_pos rfl,← hi,if_neg (by omega),if_pos rfl]
     exact Mw hA
    ·rw[if_neg e1,if_neg hne]
     by_cases e2:(k-1) / 2=j
     ·rw[if_pos e2]
      exact h2 k hk hk2 e2 (by omega)
     ·rw[if_neg e2]
      by_cases e3:(k-1) / 2=i
      ·rw[if_pos e3]
       have:=h1 k hk hk2 e1
       rw[e3] at this
       exact Ro (Mw hA) this
      ·rw[if_neg e3]
       exact h1 k hk hk2 e1
   ·simp only[Y8] at hk2
    rw[FR hil hj,FR hil hj]
    have hpi:=h1 i h0 hil (by omega)
    rw[if_neg (by omega:¬ (i-1) / 2=j),if_neg (by omega:¬ (i-1) / 2=i)]
    by_cases e1:k=j
    ·rw[if_pos e1];exact hpi
    ·rw[if_neg e1,if_neg (by omega:¬ k=i)]
     have:=h1 k hk hk2 e1
     rw[hp] at this
     exact Ro hpi this
theorem jv {l:List Sc} (h:M8 l l.length) (x:Sc):M8 (kZ (l.length+1) (l++[x]) l.length) (l.length+1)∧kZ (l.length+1) (l++[x]) l.length ~ x::l:=by
 have hg:∀ k,k<l.length→gt (l++[x]) k=gt l k:=fun k hk=>by
  unfold gt
  rw[List.getD_eq_getElem?_getD,List.getD_eq_getElem?_getD,List.getElem?_append_left hk]
 have:=vE (l.length+1) (l++[x]) l.length (by omega) (by simp) ⟨fun k hk hk2 hne=>?_,fun k hk hk2 hp h0=>?_⟩
 ·simp only[List.length_append,List.length_singleton] at this
  exact⟨this.1,this.2.trans (List.perm_append_singleton x l)⟩
 ·simp at hk2
  rw[hg k (by omega),hg _ (by omega)]
  exact h k hk (by omega)
 ·simp at hk2;omega
def sI (l:List Sc) (n i:Nat):Prop:=(∀ k,0<k→k<n→(k-1) / 2 ≠ i→Bh (gt l k) (gt l ((k-1) / 2))=false)∧(∀ k,0<k→k<n→(k-1) / 2=i→0<i→Bh (gt l k) (gt l ((i-1) / 2))=false)
theorem kT {l:List Sc} {i n:Nat} (h:2*i+1<n):LD l i n<n∧(LD l i n-1) / 2=i∧i<LD l i n∧∀ k,0<k→k<n→(k-1) / 2=i→Bh (gt l k) (gt l (LD l i n))=false:=by
 unfold LD
 split
 ·rename_i hc
  refine⟨hc.1,by omega,by omega,fun k hk hk2 hp=>?_⟩
  have:k=2*i+1∨k=2*i+2:=by omega
  rcases this with rfl | rfl
  ·exact Mw hc.2
  ·exact LL _
 ·rename_i hc
  refine⟨h,by omega,by omega,fun k hk hk2 hp=>?_⟩
  have:k=2*i+1∨k=2*i+2:=by omega
  rcases this with rfl | rfl
  ·exact LL _
  ·cases hq:Bh (gt l (2*i+2)) (gt l (2*i+1)) with
   |false=>rfl
   |true=>exact(hc ⟨hk2,hq⟩).elim
theorem jz:∀ (f:Nat) (l:List Sc) (i n:Nat),n≤l.length→i<l.length→n<i+f→sI l n i→M8 (Hu f l i n).1 n∧(Hu f l i n).1 ~ l∧∀ k,n≤k→gt (Hu f l i n).1 k=if k=i then gt (Hu f l i n).1 i else gt l k
 |0,l,i,n,hn,hil,hf,⟨h1,h2⟩=>by
  refine⟨fun k hk hk2=>h1 k hk hk2 (by omega),Perm.refl _,fun k hk=>?_⟩
  show gt l k=if k=i then gt l i else gt l k
  split
  ·rename_i e;rw[e]
  ·rfl
 |f+1,l,i,n,hn,hil,hf,⟨h1,h2⟩=>by
  have same:∀ k:Nat,gt l k=if k=i then gt l i else gt l k:=fun k=>by
   split
   ·rename_i e;rw[e]
   ·rfl
  unfold Hu
  split
  ·refine⟨fun k hk hk2=>h1 k hk hk2 (by omega),Perm.refl _,fun k _=>same k⟩
  ·rename_i hlt
   obtain⟨c1,c2,c3,c4⟩:=kT (l:=l) (i:=i) (n:=n) (by omega)
   split
   ·rename_i hA
    generalize LD l i n=c at *
    have hcl:c<l.length:=by omega
    have ih:=jz f (Xv l i c) c n (by simp;omega) (by simp;omega) (by omega) ⟨fun k hk hk2 hne=>?_,fun k hk hk2 hp h0=>?_⟩
    ·refine⟨ih.1,ih.2.1.trans (VJ hil hcl),fun k hk=>?_⟩
     rw[ih.2.2 k hk,if_neg (by omega:¬ k=c),FR hil hcl,if_neg (by omega:¬ k=c)]
     by_cases e:k=i
     ·subst e
      omega
     ·rw[if_neg e,if_neg e]
    ·rw[FR hil hcl,FR hil hcl]
     by_cases e1:k=c
     ·subst e1
      rw[if_pos rfl,c2,if_neg (by omega),if_pos rfl]
      exact Mw hA
     ·rw[if_neg e1]
      by_cases e2:k=i
      ·subst e2
       rw[if_pos rfl,if_neg hne,if_neg (by omega:¬ (k-1) / 2=k)]
       exact h2 c (by omega) c1 c2 hk
      ·rw[if_neg e2,if_neg hne]
       by_cases e3:(k-1) / 2=i
       ·rw[if_pos e3]
        exact c4 k hk hk2 e3
       ·rw[if_neg e3]
        exact h1 k hk hk2 e3
    ·rw[FR hil hcl,FR hil hcl,c2,if_neg (by omega:¬ i=c),if_pos rfl,if_neg (by omega:¬ k=c),if_neg (by omega:¬ k=i)]
     have:=h1 k hk hk2 (by omega)
     rwa [hp] at this
   ·rename_i hA
    have hA':Bh (gt l (LD l i n)) (gt l i)=false:=by
     cases hq:Bh (gt l (LD l i n)) (gt l i) with
     |false=>rfl
     |true=>exact(hA hq).elim
    refine⟨fun k hk hk2=>?_,Perm.refl _,fun k _=>same k⟩
    by_cases e:(k-1) / 2=i
    ·rw[e]
     exact Ro hA' (c4 k hk hk2 e)
    ·exact h1 k hk hk2 e
def Kf (l:List Sc):List Sc:=(Hu (l.length-1+1) (Xv l 0 (l.length-1)) 0 (l.length-1)).1
theorem VS (l:List Sc):(Kf l).length=l.length:=by unfold Kf;rw[YT];simp
theorem vx {l:List Sc} {i:Nat} (h:i<l.length):gt l i=l[i]:=by unfold gt;rw[List.getD_eq_getElem?_getD,List.getElem?_eq_getElem h];rfl
theorem iQ {l:List Sc} {n k:Nat} (h:k<n):gt (l.take n) k=gt l k:=by
 unfold gt
 rw[List.getD_eq_getElem?_getD,List.getD_eq_getElem?_getD,List.getElem?_take,if_pos h]
theorem xG {l:List Sc} (h0:0<l.length) (h:M8 l l.length):gt (Kf l) (l.length-1)=gt l 0∧M8 ((Kf l).take (l.length-1)) (l.length-1)∧(gt l 0::(Kf l).take (l.length-1)) ~ l:=by
 have hlen:=VS l
 obtain⟨n,hn⟩:∃ n,n=l.length-1:=⟨_,rfl⟩
 unfold Kf at hlen ⊢
 rw[← hn] at hlen ⊢
 have hnl:n<l.length:=by omega
 have hd:=jz (n+1) (Xv l 0 n) 0 n (by simp;omega) (by simp;omega) (by omega) ⟨fun k hk hk2 hne=>?_,fun k _ _ _ h0=>by omega⟩
 ·generalize hl2:(Hu (n+1) (Xv l 0 n) 0 n).1=l2 at hd hlen
  have hg:gt l2 n=gt l 0:=by
   by_cases e:n=0
   ·subst e
    have:l2=Xv l 0 0:=by rw[← hl2,Hu,if_pos (by omega)]
    rw[this,FR h0 h0,if_pos rfl]
   ·rw[hd.2.2 n (BW _),if_neg e,FR h0 hnl,if_pos rfl]
  refine⟨hg,fun k hk hk2=>?_,?_⟩
  ·rw[iQ hk2,iQ (by omega)]
   exact hd.1 k hk hk2
  ·have hsplit:l2=l2.take n++[gt l2 n]:=by
    rw[vx (by omega),List.take_append_getElem,AI (by omega)]
   refine Perm.trans ?_ (hd.2.1.trans (VJ h0 hnl))
   conv=>rhs;rw[hsplit]
   rw[hg]
   exact(List.perm_append_singleton _ _).symm
 ·rw[FR h0 hnl,FR h0 hnl,if_neg (by omega:¬ k=n),if_neg (by omega:¬ k=0),if_neg (by omega:¬ (k-1) / 2=n),if_neg hne]
  exact h k hk (by omega)
def Vr (p q:Sc):Bool:=(decide (p.i<q.i)&&decide (p.j<q.j)) || (decide (q.i<p.i)&&decide (q.j<p.j))
theorem bz {p q:Sc}:Vr p q=Vr q p:=by unfold Vr;rw[Bool.or_comm]
theorem tc (p:Sc):Vr p p=false:=by simp[Vr]
def B4 (o:List Sc) (x:Sc):Bool:=o.all fun p=>Vr p x
theorem YA {o:List Sc} {x y:Sc}:B4 (o++[x]) y=(B4 o y&&Vr x y):=by simp[B4]
def gN (all o:List Sc) (x:Sc):Prop:=x ∈ all∧B4 o x=true∧∀ y,y ∈ all→B4 o y=true→Bh y x=false
inductive Kg (all:List Sc):List Sc→List Sc→Prop
 |done {o}:(∀ y,y ∈ all→B4 o y=false)→Kg all o o
 |step {o x o'}:gN all o x→Kg all (o++[x]) o'→Kg all o o'
theorem cP {all o:List Sc} {x y:Sc} (h:gN all o x) (k:gN all o y):x=y:=lZ (k.2.2 x h.1 h.2.1) (h.2.2 y k.1 k.2.1)
theorem kJ {all o a b:List Sc} (h:Kg all o a):Kg all o b→a=b:=by
 induction h with
 |done h=>
  intro k
  cases k with
  |done=>rfl
  |step hb _=>
   have:=hb.2.1
   rw[h _ hb.1] at this
   cases this
 |step hb _ ih=>
  intro k
  cases k with
  |done k=>
   have:=hb.2.1
   rw[k _ hb.1] at this
   cases this
  |step hb' k=>
   have:=cP hb hb'
   subst this
   exact ih k
def DZ (o:List Sc):Prop:=o.Pairwise fun p q=>Vr p q=true
theorem Xe {o:List Sc} {x:Sc} (h:DZ o) (hx:B4 o x=true):DZ (o++[x]):=by
 unfold DZ at h ⊢
 rw[List.pairwise_append]
 refine⟨h,by simp,fun p hp q hq=>?_⟩
 simp at hq
 subst hq
 simp[B4] at hx
 exact hx p hp
theorem cY {all o o':List Sc} (h:Kg all o o'):DZ o→(∀ x,x ∈ o→x ∈ all)→DZ o'∧∀ x,x ∈ o'→x ∈ all:=by
 induction h with
 |done=>exact fun h k=>⟨h,k⟩
 |step hb _ ih=>
  intro h k
  refine ih (Xe h hb.2.1) fun x hx=>?_
  rcases List.mem_append.1 hx with hx | hx
  ·exact k x hx
  ·simp at hx;subst hx;exact hb.1
theorem o9 {all o:List Sc} {x:Sc} {l rest:List Sc} (hl:x::rest ~ l) (hmin:∀ y,y ∈ l→Bh y x=false) (hall:∀ y,y ∈ all→y ∈ l∨B4 o y=false) (hsub:∀ y,y ∈ l→y ∈ all) :
  (B4 o x=true→gN all o x∧(∀ y,y ∈ all→y ∈ rest∨B4 (o++[x]) y=false))∧(B4 o x=false→∀ y,y ∈ all→y ∈ rest∨B4 o y=false):=by
 refine⟨fun hx=>⟨⟨hsub x (hl.subset (by simp)),hx,fun y hy hf=>?_⟩,fun y hy=>?_⟩,fun hx y hy=>?_⟩
 ·rcases hall y hy with h | h
  ·exact hmin y h
  ·rw[h] at hf;cases hf
 ·rcases hall y hy with h | h
  ·rcases List.mem_cons.1 (hl.symm.subset h) with rfl | h
   ·right;rw[YA,tc];simp
   ·exact .inl h
  ·right;rw[YA,h];rfl
 ·rcases hall y hy with h | h
  ·rcases List.mem_cons.1 (hl.symm.subset h) with rfl | h
   ·exact .inr hx
   ·exact .inl h
  ·exact .inr h
def RU (x:Sc):List Sc→List Sc
 |[]=>[x]
 |y::l=>if y.i<x.i then y::RU x l else x::y::l
def Kk (l:List Sc):Prop:=l.Pairwise fun p q=>p.i<q.i
theorem TH (x:Sc):∀ l,RU x l ~ x::l
 |[]=>Perm.refl _
 |y::l=>by
  unfold RU
  split
  ·exact((TH x l).cons y).trans (Perm.swap x y l)
  ·exact Perm.refl _
theorem Wx {x:Sc}:∀ {l:List Sc},Kk l→(∀ y,y ∈ l→y.i ≠ x.i)→Kk (RU x l)
 |[],_,_=>by simp[RU,Kk]
 |y::l,h,hne=>by
  unfold RU
  unfold Kk at h ⊢
  rw[List.pairwise_cons] at h
  split
  ·rename_i hlt
   rw[List.pairwise_cons]
   refine⟨fun z hz=>?_,Wx h.2 fun z hz=>hne z (by simp[hz])⟩
   rcases List.mem_cons.1 ((TH x l).subset hz) with rfl | hz
   ·exact hlt
   ·exact h.1 z hz
  ·rename_i hlt
   have:=hne y (by simp)
   rw[List.pairwise_cons,List.pairwise_cons]
   refine⟨fun z hz=>?_,h⟩
   rcases List.mem_cons.1 hz with rfl | hz
   ·omega
   ·have:=h.1 z hz;omega
theorem X7:∀ {l m:List Sc},Kk l→Kk m→l ~ m→l=m
 |[],m,_,_,h=>(List.nil_perm.1 h).symm
 |x::l,[],_,_,h=>by have:=h.length_eq;simp at this
 |x::l,y::m,hl,hm,h=>by
  unfold Kk at hl hm
  rw[List.pairwise_cons] at hl hm
  have e:x=y:=by
   rcases List.mem_cons.1 (h.subset (by simp:x ∈ x::l)) with e | e
   ·exact e
   ·rcases List.mem_cons.1 (h.symm.subset (by simp:y ∈ y::m)) with e2 | e2
    ·exact e2.symm
    ·have h1:=hm.1 x e
     have h2:=hl.1 y e2
     omega
  subst e
  rw[X7 hl.2 hm.2 ((List.perm_cons x).1 h)]
def Ct (o:List Sc):List Sc:=o.foldl (fun l x=>RU x l) []
theorem J1 {o:List Sc} (h:DZ o):Kk (Ct o)∧Ct o ~ o:=by
 have main:∀ (o l p:List Sc),Kk l→l ~ p→(p++o).Pairwise (fun a b=>Vr a b=true)→Kk (o.foldl (fun l x=>RU x l) l)∧o.foldl (fun l x=>RU x l) l ~ p++o:=by
  intro o
  induction o with
  |nil=>intro l p h1 h2 _;simpa using ⟨h1,h2⟩
  |cons x o ih=>
   intro l p h1 h2 h3
   have hx:∀ y,y ∈ p→Vr y x=true:=fun y hy=>by
    rw[List.pairwise_append] at h3
    exact h3.2.2 y hy x (by simp)
   have:=ih (RU x l) (p++[x]) (Wx h1 fun y hy e=>by
    have:=hx y (h2.subset hy)
    simp[Vr] at this
    omega) ((TH x l).trans ((h2.cons x).trans (List.perm_append_singleton x p).symm)) (by simpa using h3)
   simpa using this
 have:=main o [] [] (by simp[Kk]) (Perm.refl _) (by show DZ ([]++o);exact h)
 simpa[Ct] using this
theorem Yt:∀ (l:List Sc) (a b:Nat),Kk l→(∀ x,x ∈ l→a≤x.i∧x.i<b)→l.length≤b-a
 |[],a,b,_,_=>by simp
 |x::l,a,b,h,hb=>by
  unfold Kk at h
  rw[List.pairwise_cons] at h
  have h1:=hb x (by simp)
  have:=Yt l (x.i+1) b h.2 fun y hy=>⟨h.1 y hy,(hb y (by simp[hy])).2⟩
  simp
  omega
end Go.PL
namespace Go.Proofs.YtbjmaoedheiigaaGreat
open Go Go.G Go.Proofs Go.PL
def aD (x:Sc):List A:=[iv x.i,iv x.j,iv x.n]
def OU (x:Sc):A:=.agg (aD x)
@[simp] theorem zv {x:Sc}:(OU x).cells=aD x:=rfl
@[simp] theorem Af9 {x:Sc}:(aD x).length=3:=rfl
@[simp] theorem AcS {a:A}:a8 Tryz.prog 277 a=some (.ifc 277 a):=by
 unfold a8
 rw[show Tryz.prog.underlying 277=some (.pointer 279) by kernel_rfl]
@[simp] theorem Aig {a:A}:a8 Tryz.prog 282 a=some (.ifc 282 a):=by
 unfold a8
 rw[show Tryz.prog.underlying 282=some (.struct (Tryz.prog.fieldsOf 282)) by kernel_rfl]
@[simp] theorem zn {a:A}:Mp Tryz.prog 282 false (.ifc 282 a)=some a:=by
 simp only[Mp,if_true]
 rw[show Tryz.prog.underlying 282=some (.struct (Tryz.prog.fieldsOf 282)) by kernel_rfl]
 rfl
def Lx (l junk:List Sc) (v:Nat):Fam:=⟨fun r p=>if p=[] then ⟨1,.cells [.osl (r::[0]) v 3 0 l.length]⟩ else if p=[0] then ⟨v,.arr 3 ((l++junk).map OU)⟩ else ⟨0,.none⟩,fun {g δ r r'} hg hd p=>by
  by_cases h1:p=[]
  ·rw[if_pos h1,if_pos h1]
   refine Fam.cells_ren ?_
   simp[A.renL,A.ren,hg,hd]
  ·rw[if_neg h1,if_neg h1]
   by_cases h2:p=[0]
   ·rw[if_pos h2]
    refine Fam.arr_ren ?_
    have e:∀ x:Sc,(OU x).ren g δ=OU x:=fun x=>by simp[OU,aD,A.ren,A.renL]
    simp only[CD,List.map_map]
    refine List.map_congr_left fun x _=>?_
    exact e x
   ·rw[if_neg h2];rfl,fun {D r} hD p=>by
  by_cases h1:p=[]
  ·rw[if_pos h1]
   simp[Ob.refs,A.refsL,A.refs,hD]
  ·rw[if_neg h1]
   by_cases h2:p=[0]
   ·rw[if_pos h2]
    simp only[Ob.refs,refsL_iff]
    intro y hy
    obtain⟨x,_,rfl⟩:=List.mem_map.1 hy
    simp[A.refs,A.refsL,OU,aD]
   ·rw[if_neg h2];trivial⟩
@[simp] theorem vG {l junk:List Sc} {v r:Nat} {p:Nm}:(Lx l junk v).F r p=if p=[] then ⟨1,.cells [.osl (r::[0]) v 3 0 l.length]⟩ else if p=[0] then ⟨v,.arr 3 ((l++junk).map OU)⟩ else ⟨0,.none⟩:=rfl
abbrev dX (r:Nat):A:=.pob [r] 1 0
abbrev ib (r:Nat):A:=.ifc 277 (dX r)
abbrev scI (x:Sc):A:=.ifc 282 (OU x)
theorem sr {x:Sc}:∀ y,y ∈ aD x→y.bare1=true:=fun y hy=>by simp[aD] at hy;rcases hy with rfl | rfl | rfl<;>rfl
@[simp] theorem Agv {x:Sc}:A.ones (aD x)=true:=rfl
@[simp] theorem AfW {x:Sc}:(aD x).take 3=aD x:=rfl
theorem qp {x:Sc}:A.agg (aD x)=OU x:=rfl
theorem tt {l:List Sc}:Dq 3 (l.map OU)=true:=by rw[Hg];simp
theorem RZ (x:Sc):Ez (fun _=>scI x):=ND (EN (cs:=aD x) rfl fun y hy=>by simp[aD] at hy;rcases hy with rfl | rfl | rfl<;>rfl)
theorem O1 (l junk:List Sc) (v:Nat) (hl:l.length≤1000):A4 Tryz.prog 237 (fun r=>[.osl (r::[0]) v 3 0 l.length]) (Lx l junk v) (fun _=>iv l.length) (Lx l junk v):=by
 refine Ax VF (by simp) (Ag B8 Am) AE fun w0 I0 M0 m0=>?_
 unfold Ny
 simp
 exact AH rfl rfl (fun p=>by simp)
theorem gP (l junk:List Sc) (v:Nat) (hl:l.length≤1000) (x:Sc):A4 Tryz.prog 307 (fun r=>[dX r,scI x]) (Lx l junk v) (fun _=>.tup []) (Lx (l++[x]) [] (v+1)):=by
 refine Ax UQ (by simp) (Ag AN (Ag (RZ x) Am)) (Bn Am) fun w0 I0 M0 m0=>?_
 unfold M5
 simp[tt,Aa]
 refine⟨sr,by omega,?_⟩
 exact AQ rfl rfl (fun p=>by by_cases h1:p=[]<;>by_cases h2:p=[0]<;>simp[h1,h2,Aa])
theorem lG (l junk:List Sc) (v:Nat) (hl:l.length≤1000) (x:Sc):A4 Tryz.prog 306 (fun r=>[dX r]) (Lx (l++[x]) junk v) (fun _=>scI x) (Lx l (x::junk) v):=by
 refine Ax VO (by simp) (Ag AN Am) (RZ x) fun w0 I0 M0 m0=>?_
 have e1:IntKind.i64.wrap (l.length:Int)=(l.length:Int):=Af (by omega) (by omega)
 have he:(l.map OU++OU x::junk.map OU)[l.length]? = some (OU x):=by
  rw[List.getElem?_append_right (by simp)];simp
 unfold NS
 simp[e1,he,Aa,show(l.length:Int)<l.length+1 by omega,show(l.length:Int)≤l.length+1 by omega]
 exact AQ rfl rfl (fun p=>by by_cases h1:p=[]<;>by_cases h2:p=[0]<;>simp[h1,h2,Aa])
theorem VW (n:Int):G.Spec Tryz.prog 266 [iv n] (bv false):=by
 refine Aj UO (by simp) fun w0 I0=>?_
 unfold Ng
 simp
 exact Ab rfl
def EV (a b:Int):Int:=if a<b then -1 else if b<a then 1 else 0
theorem RN (a b:Int):G.Spec Tryz.prog 243 [iv a,iv b] (iv (EV a b)):=by
 refine Aj Sm (by simp) fun w0 I0=>?_
 unfold Kx EV
 simp
 refine Ae (VW a) rfl ?_
 simp
 refine Ae (VW b) rfl ?_
 by_cases h:a<b
 ·simp[h]
  exact Ab rfl
 ·by_cases h2:b<a
  ·simp[h,h2]
   exact Ab rfl
  ·simp[h,h2]
   exact Ab rfl
theorem sn (a b c:Int):G.Spec Tryz.prog 310 [.sl true [iv a,iv b,iv c]] (iv (if a ≠ 0 then a else if b ≠ 0 then b else c)):=by
 refine Aj Z3 (by simp) fun w0 I0=>?_
 have w1:IntKind.i64.wrap 1=1:=rfl
 have w2:IntKind.i64.wrap 2=2:=rfl
 have w3:IntKind.i64.wrap 3=3:=rfl
 unfold Rs
 simp
 refine Ad Ah Gc.eq_1 ?_
 by_cases h1:a=0
 ·simp[h1,w1]
  refine Ad Ah Gc.eq_1 ?_
  by_cases h2:b=0
  ·simp[h2,w2]
   refine Ad Ah Gc.eq_1 ?_
   by_cases h3:c=0
   ·simp[h3,w3]
    refine Ad Ah Gc.eq_1 ?_
    simp
    exact Ab rfl
   ·simp[h3]
    exact Ab rfl
  ·simp[h2]
   exact Ab rfl
 ·simp[h1]
  exact Ab rfl
theorem kW (a b:Sc):decide ((if EV b.n a.n ≠ 0 then EV b.n a.n else if EV a.i b.i ≠ 0 then EV a.i b.i else EV a.j b.j)<0)=Bh a b:=by
 have h3:∀ x y:Int,(x<y∧EV x y = -1)∨(x=y∧EV x y=0)∨(y<x∧EV x y=1):=fun x y=>by
  unfold EV
  rcases Int.lt_trichotomy x y with h | h | h
  ·exact .inl ⟨h,if_pos h⟩
  ·exact .inr (.inl ⟨h,by rw[if_neg (by omega),if_neg (by omega)]⟩)
  ·exact .inr (.inr ⟨h,by rw[if_neg (by omega),if_pos h]⟩)
 unfold Bh
 rcases h3 b.n a.n with ⟨h,e⟩ | ⟨h,e⟩ | ⟨h,e⟩
 ·rw[e];simp[h]
 ·rw[e]
  rcases h3 a.i b.i with ⟨h2,e2⟩ | ⟨h2,e2⟩ | ⟨h2,e2⟩
  ·rw[e2]
   have:a.i<b.i:=by omega
   simp[h,this]
  ·rw[e2]
   have h2':a.i=b.i:=by omega
   rcases h3 a.j b.j with ⟨h4,e4⟩ | ⟨h4,e4⟩ | ⟨h4,e4⟩
   ·rw[e4]
    have:a.j<b.j:=by omega
    simp[h,h2',this]
   ·rw[e4]
    have:¬ a.j<b.j:=by omega
    simp[h,h2',this]
   ·rw[e4]
    have:¬ a.j<b.j:=by omega
    simp[h,h2',this]
  ·rw[e2]
   have h5:¬ a.i<b.i:=by omega
   have h6:¬ a.i=b.i:=by omega
   simp[h,h5,h6]
 ·rw[e]
  have h5:¬ b.n<a.n:=by omega
  have h6:¬ a.n=b.n:=by omega
  simp[h5,h6]
theorem fu (a b:Sc):G.Spec Tryz.prog 309 [OU a,OU b] (bv (Bh a b)):=by
 refine Aj Pa (by simp) fun w0 I0=>?_
 have hO:=sn (EV b.n a.n) (EV a.i b.i) (EV a.j b.j)
 unfold Jb
 simp[OU,aD]
 refine Ae (RN b.n a.n) rfl ?_
 simp
 refine Ae (RN a.i b.i) rfl ?_
 simp
 refine Ae (RN a.j b.j) rfl ?_
 simp
 refine Ae hO rfl ?_
 simp
 refine Bm ?_
 rw[← kW]
 simp
theorem QM (l junk:List Sc) (v:Nat) (hl:l.length≤1000) (i j:Nat) (hi:i<l.length) (hj:j<l.length):A4 Tryz.prog 305 (fun r=>[.osl (r::[0]) v 3 0 l.length,iv i,iv j]) (Lx l junk v) (fun _=>bv (Bh l[i] l[j])) (Lx l junk v):=by
 refine Ax UX (by simp) (Ag B8 (Ag AE (Ag AE Am))) AE fun w0 I0 M0 m0=>?_
 have hA:=fu l[i] l[j]
 have gi:(l.map OU++junk.map OU)[i]? = some (OU l[i]):=by rw[List.getElem?_append_left (by simpa using hi)];simp[hi]
 have gj:(l.map OU++junk.map OU)[j]? = some (OU l[j]):=by rw[List.getElem?_append_left (by simpa using hj)];simp[hj]
 unfold M7
 simp[gi,gj,hi,hj,show(i:Int)<l.length by omega,show(j:Int)<l.length by omega,qp]
 refine Ae hA rfl ?_
 simp
 exact AH rfl rfl (fun p=>by simp)
theorem QZ (l junk:List Sc) (v:Nat) (hl:l.length≤1000) (i j:Nat) (hi:i<l.length) (hj:j<l.length):A4 Tryz.prog 308 (fun r=>[.osl (r::[0]) v 3 0 l.length,iv i,iv j]) (Lx l junk v) (fun _=>.tup []) (Lx ((l.set i l[j]).set j l[i]) junk v):=by
 refine Ax UM (by simp) (Ag B8 (Ag AE (Ag AE Am))) (Bn Am) fun w0 I0 M0 m0=>?_
 have gi:(l.map OU++junk.map OU)[i]? = some (OU l[i]):=by rw[List.getElem?_append_left (by simpa using hi)];simp[hi]
 have gj:(l.map OU++junk.map OU)[j]? = some (OU l[j]):=by rw[List.getElem?_append_left (by simpa using hj)];simp[hj]
 unfold M4
 simp[gi,gj,hi,hj,show(i:Int)<l.length by omega,show(j:Int)<l.length by omega,qp]
 have gk:((l.map OU).set i (OU l[j])++junk.map OU)[j]? = some (OU l[j]):=by
  rw[List.getElem?_append_left (by simpa using hj)]
  by_cases e:i=j
  ·subst e;simp[hi]
  ·rw[List.getElem?_set_ne e];simp[hj]
 rw[gk]
 simp[hj]
 exact AQ rfl rfl (fun p=>by by_cases h1:p=[]<;>by_cases h2:p=[0]<;>simp[h1,h2,Aa,List.map_set])
theorem Tu:Pq Tryz.prog 277 "Less" = some (305,some 279):=by kernel_rfl
theorem Tw:Pq Tryz.prog 277 "Swap" = some (308,some 279):=by kernel_rfl
theorem de:Pq Tryz.prog 277 "Len" = some (237,some 279):=by kernel_rfl
theorem jS:Pq Tryz.prog 277 "Push" = some (307,none):=by kernel_rfl
theorem nG:Pq Tryz.prog 277 "Pop" = some (306,none):=by kernel_rfl
theorem GN {l:List Sc} {i:Nat} (h:i<l.length):l.getD i sc0=l[i]:=by rw[List.getD_eq_getElem?_getD,List.getElem?_eq_getElem h];rfl
theorem eF {l:List Sc} {i j:Nat} (hi:i<l.length) (hj:j<l.length):Xv l i j=(l.set i l[j]).set j l[i]:=by unfold Xv;rw[GN hi,GN hj]
theorem Ik {H:Hp} {l junk:List Sc} {v:Nat} (hH:∀ p,H (0::p)=(Lx l junk v).F 0 p):Yv Tryz.prog H (some 279) (dX 0)=some (.osl [0,0] v 3 0 l.length):=by
 have:=hH []
 unfold Yv
 simp[this]
theorem Adi {n0:Nat} {w0:World} {I0:Nat→Prop} {M0:Nm→Nat→Prop} {m0:Mu} {Q:Exit→Sta→Prop} {junk:List Sc} {v:Nat}:∀ (f:Nat) (l:List Sc) (j:Nat) (H:Hp),l.length≤1000→j<l.length→j<f→(∀ p,H (0::p)=(Lx l junk v).F 0 p) →
  (∀ (H':Hp) (st:List (Nat × A)),(∀ p,H' (0::p)=(Lx (kZ f l j) junk v).F 0 p)→Q (.exit 0) ⟨lk st,H'⟩) →
  LoopC (EP Tryz.prog w0 I0 M0 n0 m0) Fw Q ⟨lk [(0,ib 0),(1,iv j)],H⟩:=by
 intro f
 induction f with
 |zero=>intro l j H _ _ hf;omega
 |succ f ih=>
  intro l j H hl hj hf hH hq
  obtain⟨i,hi⟩:∃ i,i=(j-1) / 2:=⟨_,rfl⟩
  have hil:i<l.length:=by omega
  have e1:IntKind.i64.wrap ((j:Int)-1)=(j:Int)-1:=Af (by omega) (by omega)
  have e2:IntKind.i64.wrap (((j:Int)-1).tdiv 2)=(i:Int):=by
   by_cases h0:j=0
   ·subst h0
    have:i=0:=by omega
    subst this;rfl
   ·rw[Int.tdiv_eq_ediv_of_nonneg (by omega),Af (by omega) (by omega)];omega
  have hL:=QM l junk v hl j i hj hil
  have hS:=QZ l junk v hl i j hil hj
  rw[kZ,← hi,GN hj,GN hil,eF hil hj] at hq
  refine Ad Ah Fw.eq_1 ?_
  by_cases hij:i=j
  ·rw[if_pos (.inl hij)] at hq
   simp[e1,e2,hij]
   rw[Az]
   simp
   exact hq H [(0,ib 0),(1,iv j),(4,iv j),(17,bv true)] hH
  ·have hij':¬ (i:Int)=j:=by omega
   simp[e1,e2,hij,hij']
   rw[Az]
   simp
   refine H6 0 hL hH rfl Tu (Ik hH) rfl (by simp) ?_
   cases hA:Bh l[j] l[i] with
   |false=>
    rw[hA,if_pos (.inr rfl)] at hq
    simp
    exact hq _ [(0,ib 0),(1,iv j),(4,iv i),(17,bv true)] (fun p=>by simp)
   |true=>
    rw[hA,if_neg (by simp[hij])] at hq
    simp
    have hH2:∀ p,(ov 0 ((Lx l junk v).F 0) H) (0::p)=(Lx l junk v).F 0 p:=fun p=>by simp
    refine H6 0 hS hH2 rfl Tw (Ik hH2) rfl (by simp) ?_
    simp
    refine ih _ i _ (by simp;omega) (by simp;omega) (by omega) (fun p=>by simp) hq
theorem ti (l junk:List Sc) (v:Nat) (hl:l.length≤1000) (j:Nat) (hj:j<l.length):A4 Tryz.prog 261 (fun r=>[ib r,iv j]) (Lx l junk v) (fun _=>.tup []) (Lx (kZ (j+1) l j) junk v):=by
 refine Ax Pm (by simp) (Ag (ND AN) (Ag AE Am)) (Bn Am) fun w0 I0 M0 m0=>?_
 unfold I9
 simp
 refine LoopC.le (Ao [(0,ib 0),(1,iv j)] (by simp)) ?_
 refine Adi (junk:=junk) (v:=v) (j+1) l j _ hl hj (by omega) (fun p=>by simp) fun H' st hH=>?_
 simp
 exact AQ rfl rfl hH
theorem sm {l:List Sc} {i n:Nat} (h:2*i+1<n):LD l i n<n∧i<LD l i n:=by
 unfold LD
 split
 ·rename_i h2;omega
 ·omega
theorem tg {n0:Nat} {w0:World} {I0:Nat→Prop} {M0:Nm→Nat→Prop} {m0:Mu} {Q':Exit→Sta→Prop} {junk l:List Sc} {v i k:Nat} {i0 n:Int} {H:Hp} (hl:l.length≤1000) (hi:i<l.length) (hk:k<l.length) (hH:∀ p,H (0::p)=(Lx l junk v).F 0 p)
  (h0:Bh l[k] l[i]=false→∀ (H':Hp),(∀ p,H' (0::p)=(Lx l junk v).F 0 p)→Q' (.exit 0) ⟨lk [(0,ib 0),(1,iv i0),(2,iv n),(7,iv i),(9,iv k),(39,bv true)],H'⟩)
  (h1:Bh l[k] l[i]=true→∀ (H':Hp),(∀ p,H' (0::p)=(Lx (Xv l i k) junk v).F 0 p)→Q' .normal ⟨lk [(0,ib 0),(1,iv i0),(2,iv n),(7,iv k)],H'⟩) :
  WPC (EP Tryz.prog w0 I0 M0 n0 m0) CW Q' ⟨lk [(0,ib 0),(1,iv i0),(2,iv n),(7,iv i),(9,iv k)],H⟩:=by
 have hL:=QM l junk v hl k i hk hi
 have hS:=QZ l junk v hl i k hi hk
 rw[← eF hi hk] at hS
 rw[CW.eq_1]
 simp
 refine H6 0 hL hH rfl Tu (Ik hH) rfl (by simp) ?_
 cases hA:Bh l[k] l[i] with
 |false=>
  simp
  exact h0 hA _ (fun p=>by simp)
 |true=>
  simp
  have hH2:∀ p,(ov 0 ((Lx l junk v).F 0) H) (0::p)=(Lx l junk v).F 0 p:=fun p=>by simp
  refine H6 0 hS hH2 rfl Tw (Ik hH2) rfl (by simp) ?_
  simp
  exact h1 hA _ (fun p=>by simp)
theorem r9 {n0:Nat} {w0:World} {I0:Nat→Prop} {M0:Nm→Nat→Prop} {m0:Mu} {Q:Exit→Sta→Prop} {junk:List Sc} {v n:Nat} {i0:Int}:∀ (f:Nat) (l:List Sc) (i:Nat) (H:Hp),l.length≤1000→n≤l.length→(i<n∨(n=0∧i=0))→n<i+f→i<l.length→(∀ p,H (0::p)=(Lx l junk v).F 0 p) →
  (∀ (H':Hp) (st:List (Nat × A)),(∀ p,H' (0::p)=(Lx (Hu f l i n).1 junk v).F 0 p)→(lk st) 1=iv i0→(lk st) 7=iv (Hu f l i n).2→Q (.exit 0) ⟨lk st,H'⟩) →
  LoopC (EP Tryz.prog w0 I0 M0 n0 m0) CV Q ⟨lk [(0,ib 0),(1,iv i0),(2,iv n),(7,iv i)],H⟩:=by
 intro f
 induction f with
 |zero=>intro l i H hl hn hi hf hil hH hq;omega
 |succ f ih=>
  intro l i H hl hn hi hf hil hH hq
  have e1:IntKind.i64.wrap (2*(i:Int))=2*(i:Int):=Af (by omega) (by omega)
  have e2:IntKind.i64.wrap (2*(i:Int)+1)=((2*i+1:Nat):Int):=An
  rw[Hu] at hq
  refine Ad Ah CV.eq_1 ?_
  by_cases h1:n≤2*i+1
  ·rw[if_pos h1] at hq
   simp[e1,e2,show(n:Int)≤2*i+1 by omega]
   exact hq H [(0,ib 0),(1,iv i0),(2,iv n),(7,iv i),(8,iv (2*i+1:Nat)),(21,bv true)] hH rfl rfl
  ·rw[if_neg h1] at hq
   have e3:IntKind.i64.wrap (2*(i:Int)+1+1)=((2*i+2:Nat):Int):=An
   have hkl:=sm (l:=l) (i:=i) (n:=n) (by omega)
   have fin:∀ (H':Hp),(∀ p,H' (0::p)=(Lx l junk v).F 0 p)→WPC (EP Tryz.prog w0 I0 M0 n0 m0) CW (Bu 1 (DB (LoopC (EP Tryz.prog w0 I0 M0 n0 m0) CV Q) Q)) ⟨lk [(0,ib 0),(1,iv i0),(2,iv n),(7,iv i),(9,iv (LD l i n))],H'⟩:=fun H' hH'=>by
    refine tg hl hil (k:=LD l i n) (by omega) hH' (fun hA H2 h2=>?_) (fun hA H2 h2=>?_)
    ·rw[← GN (by omega),← GN hil] at hA
     rw[if_neg (by rw[hA];simp)] at hq
     exact hq H2 _ h2 rfl rfl
    ·rw[← GN (by omega),← GN hil] at hA
     rw[if_pos hA] at hq
     simp
     exact ih _ _ H2 (by simp;omega) (by simp;omega) (.inl hkl.1) (by omega) (by simp;omega) h2 hq
   clear hq ih
   simp[e1,e2,show ¬ (n:Int)≤2*i+1 by omega,show ¬ 2*(i:Int)+1<0 by omega,e3]
   by_cases h2:2*i+2<n
   ·have hL:=QM l junk v hl (2*i+2) (2*i+1) (by omega) (by omega)
    simp[show 2*(i:Int)+2<n by omega]
    rw[Az]
    simp
    refine H6 0 hL hH rfl Tu (Ik hH) rfl (by simp) ?_
    have hk:LD l i n=if Bh l[2*i+2] l[2*i+1]=true then 2*i+2 else 2*i+1:=by
     unfold LD
     rw[GN (by omega),GN (by omega)]
     simp[h2]
    rw[hk] at fin
    cases hA:Bh l[2*i+2] l[2*i+1] with
    |false=>
     rw[hA] at fin
     simp
     exact fin _ (fun p=>by simp)
    |true=>
     rw[hA] at fin
     simp
     exact fin _ (fun p=>by simp)
   ·have hk:LD l i n=2*i+1:=by
     unfold LD
     rw[if_neg (fun e=>h2 e.1)]
    rw[hk] at fin
    simp[show ¬ 2*(i:Int)+2<n by omega]
    rw[Az]
    simp
    exact fin _ hH
theorem kn (l junk:List Sc) (v:Nat) (hl:l.length≤1000) (n:Nat) (hn:n≤l.length) (h0:0<l.length):A4 Tryz.prog 262 (fun r=>[ib r,iv 0,iv n]) (Lx l junk v) (fun _=>bv (decide (0<(Hu (n+1) l 0 n).2))) (Lx (Hu (n+1) l 0 n).1 junk v):=by
 refine Ax Nq (by simp) (Ag (ND AN) (Ag AE (Ag AE Am))) AE fun w0 I0 M0 m0=>?_
 unfold Hx
 simp
 refine LoopC.le (Ao [(0,ib 0),(1,iv 0),(2,iv n),(7,iv (0:Nat))] (by simp)) ?_
 refine r9 (junk:=junk) (v:=v) (n+1) l 0 _ hl hn (by omega) (by omega) h0 (fun p=>by simp) fun H' st hH h1 h7=>?_
 simp[h1,h7]
 exact AH rfl rfl hH
theorem cz (l junk:List Sc) (v:Nat) (hl:l.length≤900) (x:Sc):A4 Tryz.prog 236 (fun r=>[ib r,scI x]) (Lx l junk v) (fun _=>.tup []) (Lx (kZ (l.length+1) (l++[x]) l.length) [] (v+1)):=by
 refine Ax Nl (by simp) (Ag (ND AN) (Ag (RZ x) Am)) (Bn Am) fun w0 I0 M0 m0=>?_
 have hP:=gP l junk v (by omega) x
 have hL:=O1 (l++[x]) [] (v+1) (by simp;omega)
 have hU:=ti (l++[x]) [] (v+1) (by simp;omega) l.length (by simp)
 have e1:IntKind.i64.wrap (l.length:Int)=(l.length:Int):=Af (by omega) (by omega)
 unfold Ht
 simp
 refine H6 0 hP (fun p=>by simp) rfl jS rfl rfl (by simp) ?_
 simp
 have hH2:∀ p,(ov 0 ((Lx (l++[x]) [] (v+1)).F 0) (HM []):Hp) (0::p)=(Lx (l++[x]) [] (v+1)).F 0 p:=fun p=>by simp
 refine H6 0 hL hH2 rfl de (Ik hH2) rfl (by simp) ?_
 simp[e1]
 refine Au 0 hU (fun p=>by simp) (by simp) (by simp) ?_
 simp
 exact AQ rfl rfl (fun p=>by simp)
theorem gy (l junk:List Sc) (v:Nat) (hl:l.length≤900) (h0:0<l.length):A4 Tryz.prog 238 (fun r=>[ib r]) (Lx l junk v) (fun _=>scI ((Kf l).getD (l.length-1) sc0)) (Lx ((Kf l).take (l.length-1)) ((Kf l).getD (l.length-1) sc0::junk) v):=by
 refine Ax N9 (by simp) (Ag (ND AN) Am) (RZ _) fun w0 I0 M0 m0=>?_
 obtain⟨n,hn⟩:∃ n,n=l.length-1:=⟨_,rfl⟩
 have hlen:=VS l
 rw[← hn]
 have hL:=O1 l junk v (by omega)
 have hS:=QZ l junk v (by omega) 0 n h0 (by omega)
 rw[← eF h0 (by omega)] at hS
 have hD:=kn (Xv l 0 n) junk v (by simp;omega) n (by simp;omega) (by simp;omega)
 have hpd:(Hu (n+1) (Xv l 0 n) 0 n).1=Kf l:=by unfold Kf;rw[← hn]
 rw[hpd] at hD
 have hsplit:Kf l=(Kf l).take n++[(Kf l).getD n sc0]:=by
  rw[GN (by omega),List.take_append_getElem,AI (by omega)]
 have hP:=lG ((Kf l).take n) junk v (by simp;omega) ((Kf l).getD n sc0)
 rw[← hsplit] at hP
 have e1:IntKind.i64.wrap ((l.length:Int)-1)=(n:Int):=An
 have hH1:∀ p,(ov 0 ((Lx l junk v).F 0) (HM []):Hp) (0::p)=(Lx l junk v).F 0 p:=fun p=>by simp
 have hH3:∀ l2:List Sc,∀ p,(ov 0 ((Lx l2 junk v).F 0) (HM []):Hp) (0::p)=(Lx l2 junk v).F 0 p:=fun l2 p=>by simp
 generalize (Kf l).getD n sc0=z at hP ⊢
 generalize (Kf l).take n=l3 at hP ⊢
 generalize Kf l=l2 at hD hP
 generalize (Hu (n+1) (Xv l 0 n) 0 n).2=dd at hD
 generalize Xv l 0 n=l1 at hS hD
 unfold Ib
 simp
 refine H6 0 hL hH1 rfl de (Ik hH1) rfl (by simp) ?_
 simp[e1]
 refine H6 0 hS hH1 rfl Tw (Ik hH1) rfl (by simp) ?_
 simp
 refine Au 0 hD (fun p=>by simp) (by simp) (by simp) ?_
 simp
 refine H6 0 hP (fun p=>by simp) rfl nG rfl rfl (by simp) ?_
 simp
 exact AH rfl rfl (fun p=>by simp)
def OG (x:Sc):List A:=[iv x.i,iv x.j]
def Ho (x:Sc):A:=.agg (OG x)
@[simp] theorem zL {x:Sc}:(Ho x).cells=OG x:=rfl
@[simp] theorem AeZ {x:Sc}:(OG x).length=2:=rfl
@[simp] theorem Af8 {x:Sc}:A.ones (OG x)=true:=rfl
@[simp] theorem Afd {x:Sc}:(OG x).take 2=OG x:=rfl
theorem CU {x:Sc}:A.agg (OG x)=Ho x:=rfl
theorem jy {x:Sc}:∀ y,y ∈ OG x→y.bare1=true:=fun y hy=>by simp[OG] at hy;rcases hy with rfl | rfl<;>rfl
theorem iq {l:List Sc}:Dq 2 (l.map Ho)=true:=by rw[Hg];simp
theorem tH (x:Sc):Ez (fun _=>Ho x):=EN (cs:=OG x) rfl jy
def dZ (l:List Sc) (v:Nat):Fam:=⟨fun r p=>if p=[] then ⟨v,.arr 2 (l.map Ho)⟩ else ⟨0,.none⟩,fun {g δ r r'} hg hd p=>by
  by_cases h1:p=[]
  ·rw[if_pos h1]
   refine Fam.arr_ren ?_
   have e:∀ x:Sc,(Ho x).ren g δ=Ho x:=fun x=>by simp[Ho,OG,A.ren,A.renL]
   simp only[CD,List.map_map]
   refine List.map_congr_left fun x _=>?_
   exact e x
  ·rw[if_neg h1];rfl,fun {D r} hD p=>by
  by_cases h1:p=[]
  ·rw[if_pos h1]
   simp only[Ob.refs,refsL_iff]
   intro y hy
   obtain⟨x,_,rfl⟩:=List.mem_map.1 hy
   simp[A.refs,A.refsL,Ho,OG]
  ·rw[if_neg h1];trivial⟩
@[simp] theorem K5 {l:List Sc} {v r:Nat} {p:Nm}:(dZ l v).F r p=if p=[] then ⟨v,.arr 2 (l.map Ho)⟩ else ⟨0,.none⟩:=rfl
abbrev r7 (l:List Sc) (v r:Nat):A:=.osl [r] v 2 0 l.length
theorem Zu (p q:Sc):G.Spec Tryz.prog 240 [Ho p,Ho q] (bv (!Vr p q)):=by
 refine Aj Pc (by simp) fun w0 I0=>?_
 unfold Ja Vr
 by_cases h1:p.i<q.i<;>by_cases h2:p.j<q.j<;>by_cases h3:q.i<p.i<;>by_cases h4:q.j<p.j<;>simp[Ho,OG,h1,h2,h3,h4,Aa]<;>exact Bm rfl
abbrev crF (x:Sc):A:=.fnc 240 [Ho x] []
theorem dx (x:Sc):Ez (fun _=>crF x):=aK (Ag (tH x) Am) Am
def PI (x:Sc):List Sc→Nat→Int
 |[],_=>-1
 |q::l,i=>if Vr x q=true then PI x l (i+1) else i
theorem Xa (x:Sc):∀ (l:List Sc) (i:Nat),decide (0≤PI x l i) = !(l.all fun q=>Vr x q)
 |[],i=>rfl
 |q::l,i=>by
  unfold PI
  cases h:Vr x q with
  |true=>simp[h,Xa x l (i+1)]
  |false=>simp[h]
theorem yA {n0:Nat} {w0:World} {I0:Nat→Prop} {M0:Nm→Nat→Prop} {m0:Mu} {Q:Exit→Sta→Prop} {x:Sc} {l:List Sc} {v:Nat} {H:Hp} (hl:l.length≤1000) (hH:∀ p,H (0::p)=(dZ l v).F 0 p)
  (hq:∀ y:Int,y=PI x l 0→y ≠ -1→Q .ret ⟨lk [(4,iv y)],H⟩) (hq2:PI x l 0 = -1→Q (.exit 0) ⟨lk [(0,r7 l v 0),(1,crF x),(7,iv l.length),(8,iv l.length),(9,bv false)],H⟩):∀ (m i:Nat),i+m=l.length→PI x (l.drop i) i=PI x l 0 →
  LoopC (EP Tryz.prog w0 I0 M0 n0 m0) A6 Q ⟨lk [(0,r7 l v 0),(1,crF x),(7,iv l.length),(8,iv i)],H⟩:=by
 intro m
 induction m with
 |zero=>
  intro i hi he
  have:i=l.length:=by omega
  subst this
  rw[List.drop_length] at he
  refine Ad Ah A6.eq_1 ?_
  simp
  exact hq2 (he.symm.trans rfl)
 |succ m ih=>
  intro i hi he
  have hlt:i<l.length:=by omega
  have h0:=hH []
  have hg:(l.map Ho)[i]? = some (Ho l[i]):=by simp[hlt]
  have e1:IntKind.i64.wrap ((i:Int)+1)=((i+1:Nat):Int):=An
  rw[List.drop_eq_getElem_cons hlt,PI] at he
  refine Ad Ah A6.eq_1 ?_
  simp[h0,hg,hlt,CU,show(i:Int)<l.length by omega]
  refine LV (fs:=[Ho x]) (caps:=[]) rfl (Zu x l[i]) rfl ?_
  cases hp:Vr x l[i] with
  |true=>
   rw[hp,if_pos rfl] at he
   simp[e1]
   exact ih (i+1) (by omega) he
  |false=>
   rw[hp,if_neg (by simp)] at he
   simp
   exact hq _ he (by omega)
theorem kq (x:Sc) (l:List Sc) (v:Nat) (hl:l.length≤1000):A4 Tryz.prog 263 (fun r=>[r7 l v r,crF x]) (dZ l v) (fun _=>iv (PI x l 0)) (dZ l v):=by
 refine Ax Fy (by simp) (Ag B8 (Ag (dx x) Am)) AE fun w0 I0 M0 m0=>?_
 unfold CA
 simp
 refine yA (v:=v) (x:=x) hl (fun p=>by simp) (fun y hy hn=>?_) (fun h=>?_) l.length 0 (by omega) rfl
 ·simp
  exact AH (by rw[hy];rfl) rfl (fun p=>by simp)
 ·simp
  exact AH (by rw[h];rfl) rfl (fun p=>by simp)
theorem Ys (x:Sc) (l:List Sc) (v:Nat) (hl:l.length≤1000):A4 Tryz.prog 239 (fun r=>[r7 l v r,crF x]) (dZ l v) (fun _=>bv (!B4 l x)) (dZ l v):=by
 have hI:=kq x l v hl
 have e:decide (0≤PI x l 0) = !B4 l x:=by
  rw[Xa]
  unfold B4
  congr 2
  funext q
  exact bz
 refine Ax EK (by simp) (Ag B8 (Ag (dx x) Am)) AE fun w0 I0 M0 m0=>?_
 unfold Cd
 simp
 refine Au 0 hI (fun p=>by simp) (by simp) (by simp) ?_
 simp
 rw[← e]
 exact AH rfl rfl (fun p=>by simp)
theorem EO {P:Program} {K:Sta→Prop} {rest:List CO} {s:Nat→A} {H:Hp} {dd:Option Nat} {nm:Nm} {ix:Nat} {un:List Nat} {l:Bool} {lg:Lg} {o:Operand} {g:FuncId} {aa:Array Operand} {ts:Array TypeId} {L:List A} {x:A} (ho:evs s o = .fnc g [] []) (hs:G.Spec P g L x) (hL:aa.toList.map (evs s)=L) (hb:L.all A.bare=true) (h:Ar P K rest (A9 l ix ⟨[],[]⟩ lg) (Sta.put ⟨s,H⟩ dd x H)) :
  Ar P K (⟨dd,.call { callee:=.value o,args:=aa,argTypes:=ts },none,nm,ix,un,l⟩::rest) lg ⟨s,H⟩:=by
 subst hL
 exact LV ho (by simpa using hs) (by simpa using hb) h
instance:Inhabited Sc:=⟨sc0⟩
def Bz (a b:Sc):Bool:=decide (a.i<b.i)
theorem XC (a b:Sc):decide (EV a.i b.i<0)=Bz a b:=by
 unfold EV Bz
 by_cases h:a.i<b.i
 ·rw[if_pos (by omega)];simp[h]
 ·rw[if_neg (by omega)]
  by_cases h2:b.i<a.i
  ·rw[if_pos (by omega)];simp[h]
  ·rw[if_neg (by omega)];simp[h]
abbrev CT:A:=.fnc 242 [] []
theorem Ea:Ez (fun _=>CT):=aK Am Am
theorem DS (a b:Sc):G.Spec Tryz.prog 242 [Ho a,Ho b] (iv (EV a.i b.i)):=by
 refine Aj XJ (by simp) fun w0 I0=>?_
 unfold Pz
 simp[Ho,OG]
 refine Ae (RN a.i b.i) rfl ?_
 simp
 exact Ab rfl
abbrev A7 (d:Array Sc) (v:Nat):Fam:=dZ d.toList v
theorem Br {d:Array Sc} {i:Nat} (h:i<d.size):(d.toList.map Ho)[i]? = some (Ho d[i]!):=by
 rw[List.getElem?_map,Array.getElem?_toList,getElem!_pos d i h,Array.getElem?_eq_getElem h]
 rfl
theorem Ln {d:Array Sc} {i j:Nat}:(Sort.swp d i j).toList.map Ho=((d.toList.map Ho).set i (Ho d[j]!)).set j (Ho d[i]!):=by
 unfold Sort.swp
 simp[List.map_set]
theorem FE {d:Array Sc} {i j:Nat}:(Sort.swp d i j).size=d.size:=by simp[Sort.swp]
theorem HV {d:Array Sc} {i j:Nat} (hi:i<d.size) (hj:j<d.size):((d.toList.map Ho).set i (Ho d[j]!))[j]? = some (Ho d[j]!):=by
 by_cases e:i=j
 ·subst e
  rw[List.getElem?_set_self (by simpa using hi)]
 ·rw[List.getElem?_set_ne e,Br hj]
variable {n0:Nat} {w0:World} {I0:Nat→Prop} {M0:Nm→Nat→Prop} {m0:Mu} {Q:Exit→Sta→Prop} {v:Nat}
abbrev Hy (n v r:Nat):A:=.osl [r] v 2 0 n
theorem yR {a n:Nat} {b i:Int} (hn:n≤1000) (ha:a≤1000):∀ (j:Nat) (d:Array Sc) (H:Hp),d.size=n→j<n→(∀ p,H (0::p)=(A7 d v).F 0 p) →
  (∀ (H':Hp) (st:List (Nat × A)),(∀ p,H' (0::p)=(A7 (Sort.insInner Bz a j d) v).F 0 p)→Q (.exit 2) ⟨lk ([(0,Hy n v 0),(1,iv a),(2,iv b),(3,CT),(8,iv i)]++st),H'⟩) →
  LoopC (EP Tryz.prog w0 I0 M0 n0 m0) A0 Q ⟨lk [(0,Hy n v 0),(1,iv a),(2,iv b),(3,CT),(8,iv i),(9,iv j)],H⟩:=by
 intro j
 induction j with
 |zero=>
  intro d H hd hj hH hq
  refine Ad Ah A0.eq_1 ?_
  simp[show ¬ (a:Int)<0 by omega]
  rw[Az]
  simp
  exact hq H [(9,iv 0),(34,bv false)] hH
 |succ j ih=>
  intro d H hd hj hH hq
  have h0:=hH []
  have g1:=Br (d:=d) (i:=j+1) (by omega)
  have g0:=Br (d:=d) (i:=j) (by omega)
  rw[Sort.insInner] at hq
  have e1:IntKind.i64.wrap ((j:Int)+1-1)=(j:Int):=An
  simp only[Int.add_sub_cancel] at e1
  refine Ad Ah A0.eq_1 ?_
  by_cases h1:a<j+1
  ·have hc:=XC d[j+1]! d[j]!
   simp only[K5] at h0
   generalize hx:d[j+1]! = x at *
   generalize hy:d[j]! = y at *
   simp[show(a:Int)<j+1 by omega,h0,e1,g1,g0,hj,show j<n by omega,show(j:Int)+1<n by omega,show(j:Int)<n by omega,show(0:Int)≤(j:Int)+1 by omega,CU]
   rw[Az]
   simp
   refine EO rfl (DS x y) (by simp) rfl ?_
   cases hL:Bz x y with
   |false=>
    rw[hL] at hc hq
    rw[if_neg (by simp)] at hq
    have hc':¬ EV x.i y.i<0:=by simpa using hc
    simp[hc']
    exact hq H [(9,iv (j+1:Nat)),(34,bv false)] (fun p=>by simp[hH])
   |true=>
    rw[hL] at hc hq
    rw[if_pos (by simp;omega)] at hq
    have hc':EV x.i y.i<0:=by simpa using hc
    have g2:=HV (d:=d) (i:=j+1) (j:=j) (by omega) (by omega)
    have hs:=Ln (d:=d) (i:=j+1) (j:=j)
    rw[hx,hy] at hs
    rw[hy] at g2
    simp[hc',h0,e1,g1,g0,g2,hj,show j<n by omega,show(j:Int)+1<n by omega,show(j:Int)<n by omega,show(0:Int)≤(j:Int)+1 by omega,CU]
    exact ih (Sort.swp d (j+1) j) _ (by rw[FE];exact hd) (by omega) (fun p=>by by_cases hp:p=[]<;>simp[hp,hs,Aa,hH]) hq
  ·rw[if_neg (by simp;omega)] at hq
   simp[show ¬ (a:Int)<j+1 by omega]
   rw[Az]
   simp
   exact hq H [(9,iv (j+1:Nat)),(34,bv false)] hH
theorem Lh (lt:Sc→Sc→Bool) (a:Nat):∀ (j:Nat) (d:Array Sc),(Sort.insInner lt a j d).size=d.size
 |0,d=>rfl
 |j+1,d=>by
  unfold Sort.insInner
  split
  ·rw[Lh lt a j,FE]
  ·rfl
theorem xw {a b n:Nat} (hn:n≤1000) (ha:a≤1000) (hb:b≤n):∀ (m i:Nat) (d:Array Sc) (H:Hp),(i+m=b∨(b≤i∧m=0∧i≤1001))→d.size=n→(∀ p,H (0::p)=(A7 d v).F 0 p) →
  (∀ (H':Hp) (st:List (Nat × A)),(∀ p,H' (0::p)=(A7 (Sort.insOuter Bz a b i d) v).F 0 p)→Q (.exit 0) ⟨lk st,H'⟩) →
  LoopC (EP Tryz.prog w0 I0 M0 n0 m0) AZ Q ⟨lk [(0,Hy n v 0),(1,iv a),(2,iv b),(3,CT),(8,iv i)],H⟩:=by
 intro m
 induction m with
 |zero=>
  intro i d H hi hd hH hq
  rw[Sort.insOuter,if_neg (by omega)] at hq
  refine Ad Ah AZ.eq_1 ?_
  simp[show ¬ (i:Int)<b by omega,show ¬ i<b by omega]
  exact hq H [(0,Hy n v 0),(1,iv a),(2,iv b),(3,CT),(8,iv i),(14,bv false)] hH
 |succ m ih=>
  intro i d H hi hd hH hq
  have hib:i<b:=by omega
  have e1:IntKind.i64.wrap ((i:Int)+1)=((i+1:Nat):Int):=An
  rw[Sort.insOuter,if_pos hib] at hq
  refine Ad Ah AZ.eq_1 ?_
  simp[show(i:Int)<b by omega,hib]
  refine yR (n:=n) (v:=v) hn ha i d H hd (by omega) hH fun H' st h'=>?_
  simp[e1]
  exact ih (i+1) _ H' (by omega) (by rw[Lh];exact hd) h' hq
theorem PF (lt:Sc→Sc→Bool) (a b:Nat):∀ (m i:Nat) (d:Array Sc),b-i≤m→(Sort.insOuter lt a b i d).size=d.size
 |0,i,d,h=>by rw[Sort.insOuter,if_neg (by omega)]
 |m+1,i,d,h=>by
  rw[Sort.insOuter]
  split
  ·rw[PF lt a b m _ _ (by omega),Lh]
  ·rfl
theorem PK (n v:Nat):Ez (fun r=>Hy n v r):=B8
theorem ZT (d:Array Sc) (v a b:Nat) (hn:d.size≤900) (ha:a≤900) (hb:b≤d.size):A4 Tryz.prog 271 (fun r=>[Hy d.size v r,iv a,iv b,CT]) (A7 d v) (fun _=>.tup []) (A7 (Sort.insertionSort Bz d a b) v):=by
 refine Ax Fk (by simp) (Ag (PK _ _) (Ag AE (Ag AE (Ag Ea Am)))) (Bn Am) fun w0 I0 M0 m0=>?_
 have e1:IntKind.i64.wrap ((a:Int)+1)=((a+1:Nat):Int):=An
 unfold Cr
 simp[e1]
 refine LoopC.le (Ao [(0,Hy d.size v 0),(1,iv a),(2,iv b),(3,CT),(8,iv (a+1:Nat))] (by simp)) ?_
 refine xw (n:=d.size) (v:=v) (by omega) (by omega) hb (b-(a+1)) (a+1) d _ (by omega) rfl (fun p=>by simp) fun H' st h'=>?_
 simp
 exact AQ rfl rfl (fun p=>h' p)
theorem yI {n:Nat} (hn:n≤1000):∀ (m i j:Nat) (d:Array Sc) (H:Hp),j-i≤m→i≤n→j<n→d.size=n→(∀ p,H (0::p)=(A7 d v).F 0 p) →
  (∀ (H':Hp) (st:List (Nat × A)),(∀ p,H' (0::p)=(A7 (Sort.reverseLoop i j d) v).F 0 p)→Q (.exit 0) ⟨lk st,H'⟩) →
  LoopC (EP Tryz.prog w0 I0 M0 n0 m0) AO Q ⟨lk [(0,Hy n v 0),(8,iv i),(9,iv j)],H⟩:=by
 intro m
 induction m with
 |zero=>
  intro i j d H hm hi hj hd hH hq
  rw[Sort.reverseLoop,if_neg (by omega)] at hq
  refine Ad Ah AO.eq_1 ?_
  simp[show ¬ (i:Int)<j by omega,show ¬ i<j by omega]
  exact hq H [(0,Hy n v 0),(8,iv i),(9,iv j),(15,bv false)] hH
 |succ m ih=>
  intro i j d H hm hi hj hd hH hq
  by_cases hij:i<j
  ·rw[Sort.reverseLoop,if_pos hij] at hq
   have h0:=hH []
   simp only[K5] at h0
   have e1:IntKind.i64.wrap ((i:Int)+1)=((i+1:Nat):Int):=An
   have e2:IntKind.i64.wrap ((j:Int)-1)=((j-1:Nat):Int):=An
   have g1:=Br (d:=d) (i:=i) (by omega)
   have g0:=Br (d:=d) (i:=j) (by omega)
   have g2:=HV (d:=d) (i:=i) (j:=j) (by omega) (by omega)
   have hs:=Ln (d:=d) (i:=i) (j:=j)
   generalize d[i]! = x at g1 g2 hs
   generalize d[j]! = y at g0 g2 hs
   refine Ad Ah AO.eq_1 ?_
   simp[hij,show(i:Int)<j by omega,h0,g0,g1,g2,e1,e2,show(i:Int)<n by omega,show(j:Int)<n by omega,show i<n by omega,hj,CU]
   refine LoopC.le (Ao [(0,Hy n v 0),(8,iv (i+1:Nat)),(9,iv (j-1:Nat))] (by simp)) ?_
   exact ih (i+1) (j-1) (Sort.swp d i j) _ (by omega) (by omega) (by omega) (by rw[FE];exact hd) (fun p=>by by_cases hp:p=[]<;>simp[hp,hs,Aa,hH]) hq
  ·rw[Sort.reverseLoop,if_neg hij] at hq
   refine Ad Ah AO.eq_1 ?_
   simp[show ¬ (i:Int)<j by omega,hij]
   exact hq H [(0,Hy n v 0),(8,iv i),(9,iv j),(15,bv false)] hH
theorem Zg (d:Array Sc) (v a b:Nat) (hn:d.size≤900) (ha:a≤d.size) (hb:1≤b) (hb2:b≤d.size):A4 Tryz.prog 275 (fun r=>[Hy d.size v r,iv a,iv b,CT]) (A7 d v) (fun _=>.tup []) (A7 (Sort.reverseRange d a b) v):=by
 refine Ax Fo (by simp) (Ag (PK _ _) (Ag AE (Ag AE (Ag Ea Am)))) (Bn Am) fun w0 I0 M0 m0=>?_
 have e1:IntKind.i64.wrap ((b:Int)-1)=((b-1:Nat):Int):=An
 unfold CB
 simp[e1]
 refine yI (n:=d.size) (v:=v) (by omega) (b-1-a) a (b-1) d _ (BW _) ha (by omega) rfl (fun p=>by simp) fun H' st h'=>?_
 simp
 exact AQ rfl rfl (fun p=>h' p)
def ceF (s:Nat):Fam:=⟨fun r p=>if p=[] then ⟨1,.cells [iv s]⟩ else ⟨0,.none⟩,fun {g δ r r'} hg hd p=>by
  by_cases h1:p=[]
  ·rw[if_pos h1]
   exact Fam.cells_ren (by simp[A.renL,A.ren])
  ·rw[if_neg h1];rfl,fun {D r} hD p=>by
  by_cases h1:p=[]
  ·rw[if_pos h1];simp[Ob.refs,A.refsL,A.refs]
  ·rw[if_neg h1];trivial⟩
@[simp] theorem Ai1 {s r:Nat} {p:Nm}:(ceF s).F r p=if p=[] then ⟨1,.cells [iv s]⟩ else ⟨0,.none⟩:=rfl
abbrev zw (q:Nat):A:=.pob [q] 1 0
theorem Oz (d:Array Sc) (v a b s:Nat) (hn:d.size≤900) (ha:a<d.size) (hb:b<d.size) (hs:s≤900):ZQ Tryz.prog 286 (fun r q=>[Hy d.size v r,iv a,iv b,zw q,CT]) ((A7 d v).two (ceF s)) (fun _ _=>.tup [iv (Sort.order2 Bz d a b s).1,iv (Sort.order2 Bz d a b s).2.1]) ((A7 d v).two (ceF (Sort.order2 Bz d a b s).2.2)):=by
 refine YU G9 (by simp) (BD (E6 (PK _ _)) (BD (E6 AE) (BD (E6 AE) (BD (RG AN) (BD (E6 Ea) LG))))) (TJ (BD (E6 AE) (BD (E6 AE) LG))) fun w0 I0 M0 m0=>?_
 have ga:=Br (d:=d) (i:=a) (by omega)
 have gb:=Br (d:=d) (i:=b) (by omega)
 have hc:=XC d[b]! d[a]!
 have e1:IntKind.i64.wrap ((s:Int)+1)=((s+1:Nat):Int):=An
 unfold Sort.order2
 generalize d[a]! = x at *
 generalize d[b]! = y at *
 generalize d.size=n at hn ha hb ⊢
 unfold Dx
 simp[ga,gb,ha,hb,show(a:Int)<n by omega,show(b:Int)<n by omega,CU]
 refine EO rfl (DS y x) (by simp) rfl ?_
 cases hL:Bz y x with
 |true=>
  rw[hL] at hc
  have hc':EV y.i x.i<0:=by simpa using hc
  simp[hc',e1,Aa]
  exact JA rfl rfl (fun p=>by simp) (fun p=>by by_cases hp:p=[]<;>simp[hp,Aa])
 |false=>
  rw[hL] at hc
  have hc':¬ EV y.i x.i<0:=by simpa using hc
  simp[hc']
  exact JA rfl rfl (fun p=>by simp) (fun p=>by simp)
theorem Qm (lt:Sc→Sc→Bool) (d:Array Sc) (a b s n:Nat) (ha:a<n) (hb:b<n) (hs:s≤100):(Sort.order2 lt d a b s).1<n∧(Sort.order2 lt d a b s).2.1<n∧(Sort.order2 lt d a b s).2.2≤s+1:=by
 unfold Sort.order2
 split
 ·exact⟨hb,ha,by simp⟩
 ·exact⟨ha,hb,by simp⟩
theorem cm (d:Array Sc) (v a b c s:Nat) (hn:d.size≤900) (ha:a<d.size) (hb:b<d.size) (hcc:c<d.size) (hs:s≤90):ZQ Tryz.prog 285 (fun r q=>[Hy d.size v r,iv a,iv b,iv c,zw q,CT]) ((A7 d v).two (ceF s)) (fun _ _=>iv (Sort.median Bz d a b c s).1) ((A7 d v).two (ceF (Sort.median Bz d a b c s).2)):=by
 refine YU G7 (by simp) (BD (E6 (PK _ _)) (BD (E6 AE) (BD (E6 AE) (BD (E6 AE) (BD (RG AN) (BD (E6 Ea) LG)))))) (E6 AE) fun w0 I0 M0 m0=>?_
 obtain⟨q1,q2,q3⟩:=Qm Bz d a b s d.size ha hb (by omega)
 have h1:=Oz d v a b s hn ha hb (by omega)
 unfold Sort.median
 simp only
 generalize Sort.order2 Bz d a b s=R at h1 q1 q2 q3 ⊢
 obtain⟨p1,p2,p3⟩:=Qm Bz d R.2.1 c R.2.2 d.size q2 hcc (by omega)
 have h2:=Oz d v R.2.1 c R.2.2 hn q2 hcc (by omega)
 generalize Sort.order2 Bz d R.2.1 c R.2.2=S2 at h2 p1 p2 p3 ⊢
 obtain⟨z1,z2,z3⟩:=Qm Bz d R.1 S2.1 S2.2.2 d.size q1 p1 (by omega)
 have h3:=Oz d v R.1 S2.1 S2.2.2 hn q1 p1 (by omega)
 generalize Sort.order2 Bz d R.1 S2.1 S2.2.2=T3 at h3 z1 z2 z3 ⊢
 unfold DG
 simp
 refine Vp 0 1 (by omega) h1 (fun p=>by simp) (fun p=>by simp) (by simp) (by simp) ?_
 simp
 refine Vp 0 1 (by omega) h2 (fun p=>by simp) (fun p=>by simp) (by simp) (by simp) ?_
 simp
 refine Vp 0 1 (by omega) h3 (fun p=>by simp) (fun p=>by simp) (by simp) (by simp) ?_
 simp
 exact JA rfl rfl (fun p=>by simp) (fun p=>by simp)
def Ol:Sort.Hint→Int
 |.unknown=>0
 |.increasing=>1
 |.decreasing=>2
theorem choose_spec (d:Array Sc) (v a b:Nat) (hn:d.size≤900) (hab:a+13≤b) (hb:b≤d.size) (hl:b-a<50):A4 Tryz.prog 274 (fun r=>[Hy d.size v r,iv a,iv b,CT]) (A7 d v) (fun _=>.tup [iv (Sort.choosePivot Bz d a b).1,iv (Ol (Sort.choosePivot Bz d a b).2)]) (A7 d v):=by
 refine Ax FT (by simp) (Ag (PK _ _) (Ag AE (Ag AE (Ag Ea Am)))) (Bn (Ag AE (Ag AE Am))) fun w0 I0 M0 m0=>?_
 obtain⟨l,hll⟩:∃ l,l=b-a:=⟨_,rfl⟩
 have e1:IntKind.i64.wrap ((b:Int)-a)=(l:Int):=An
 obtain⟨q,hq⟩:∃ q,q=l / 4:=⟨_,rfl⟩
 have e2:IntKind.i64.wrap ((l:Int).tdiv 4)=(q:Int):=by rw[Int.tdiv_eq_ediv_of_nonneg (by omega),Af (by omega) (by omega)];omega
 have e3:IntKind.i64.wrap ((q:Int)*1)=(q:Int):=An
 have e4:IntKind.i64.wrap ((q:Int)*2)=((q*2:Nat):Int):=An
 have e5:IntKind.i64.wrap ((q:Int)*3)=((q*3:Nat):Int):=An
 have e6:IntKind.i64.wrap ((a:Int)+q)=((a+q:Nat):Int):=An
 have e7:IntKind.i64.wrap ((a:Int)+(q:Int)*2)=((a+q*2:Nat):Int):=An
 have e8:IntKind.i64.wrap ((a:Int)+(q:Int)*3)=((a+q*3:Nat):Int):=An
 have e9:IntKind.i64.wrap ((l:Int) / 4)=(q:Int):=An
 have e10:IntKind.i64.wrap (q:Int)=(q:Int):=Af (by omega) (by omega)
 have hm:=cm d v (a+q) (a+q*2) (a+q*3) 0 hn (by omega) (by omega) (by omega) (by omega)
 unfold Sort.choosePivot
 simp only[← hll,← hq,Nat.mul_one,ge_iff_le,if_pos (show 8≤l by omega),if_neg (show ¬ 50≤l by omega)]
 generalize Sort.median Bz d (a+q) (a+q*2) (a+q*3) 0=R at hm ⊢
 unfold CG
 simp[e1,e2,e3,e4,e5,e6,e7,e8,e9,e10,show(8:Int)≤l by omega,show ¬ (50:Int)≤l by omega,Aa]
 refine Vp 0 1 (by omega) hm (fun p=>by simp) (fun p=>?_) (by simp) (by simp) ?_
 ·by_cases hp:p=[]
  ·subst hp;simp[HM]
  ·simp[HM,hp,Ne.symm hp]
 rw[Abv]
 simp
 rw[Cu.eq_1]
 by_cases h0:R.2=0
 ·simp[h0,Ol]
  exact AH rfl rfl (fun p=>by simp)
 ·by_cases h12:R.2=12
  ·simp[h12,Ol]
   exact AH rfl rfl (fun p=>by simp)
  ·have h0':¬ (R.2:Int)=0:=by omega
   have h12':¬ (R.2:Int)=12:=by omega
   simp[h0,h12,h0',h12',Ol]
   exact AH rfl rfl (fun p=>by simp)
theorem jC (lt:Sc→Sc→Bool) (d:Array Sc) (b:Nat):∀ (m i:Nat),b-i≤m→i≤b→i≤Sort.scanSorted lt d b i∧Sort.scanSorted lt d b i≤b
 |0,i,h,hi=>by rw[Sort.scanSorted,if_neg (by simp;omega)];omega
 |m+1,i,h,hi=>by
  rw[Sort.scanSorted]
  split
  ·rename_i hc
   simp at hc
   have:=jC lt d b m (i+1) (by omega) (by omega)
   omega
  ·omega
theorem uL {n a b:Nat} {k:Int} {d:Array Sc} {H:Hp} (hn:n≤900) (hb:b≤n) (hd:d.size=n) (hH:∀ p,H (0::p)=(A7 d v).F 0 p):∀ (m i:Nat),b-i≤m→1≤i→i≤b →
  (∀ (st:List (Nat × A)),Q (.exit 2) ⟨lk ([(0,Hy n v 0),(1,iv a),(2,iv b),(3,CT),(9,iv (Sort.scanSorted Bz d b i)),(10,iv k)]++st),H⟩) →
  LoopC (EP Tryz.prog w0 I0 M0 n0 m0) AA Q ⟨lk [(0,Hy n v 0),(1,iv a),(2,iv b),(3,CT),(9,iv i),(10,iv k)],H⟩:=by
 intro m
 induction m with
 |zero=>
  intro i hm h1 hi hq
  rw[Sort.scanSorted,if_neg (by simp;omega)] at hq
  refine Ad Ah AA.eq_1 ?_
  simp[show ¬ (i:Int)<b by omega,show ¬ i<b by omega]
  rw[Az]
  simp
  exact hq [(36,bv false)]
 |succ m ih=>
  intro i hm h1 hi hq
  by_cases hib:i<b
  ·have h0:=hH []
   simp only[K5] at h0
   have g1:=Br (d:=d) (i:=i) (by omega)
   have g0:=Br (d:=d) (i:=i-1) (by omega)
   have e1:IntKind.i64.wrap ((i:Int)+1)=((i+1:Nat):Int):=An
   have e2:IntKind.i64.wrap ((i:Int)-1)=((i-1:Nat):Int):=An
   have hc:=XC d[i]! d[i-1]!
   rw[Sort.scanSorted] at hq
   generalize d[i]! = x at g1 hc hq
   generalize d[i-1]! = y at g0 hc hq
   refine Ad Ah AA.eq_1 ?_
   simp[hib,show(i:Int)<b by omega,h0,g1,g0,e2,show(i:Int)<n by omega,show i<n by omega,show i-1<n by omega,show((i-1:Nat):Int)<n by omega,CU]
   rw[Az]
   simp
   refine EO rfl (DS x y) (by simp) rfl ?_
   cases hL:Bz x y with
   |true=>
    rw[hL] at hc hq
    rw[if_neg (by simp)] at hq
    have hc':EV x.i y.i<0:=by simpa using hc
    simp[hc']
    exact hq [(36,bv false)]
   |false=>
    rw[hL] at hc hq
    rw[if_pos (by simp[hib])] at hq
    have hc':¬ EV x.i y.i<0:=by simpa using hc
    simp[hc',e1]
    exact ih (i+1) (by omega) (by omega) (by omega) hq
  ·rw[Sort.scanSorted,if_neg (by simp;omega)] at hq
   refine Ad Ah AA.eq_1 ?_
   simp[show ¬ (i:Int)<b by omega,hib]
   rw[Az]
   simp
   exact hq [(36,bv false)]
theorem Xb (d:Array Sc) (a b:Nat) (hl:b-a<50):Sort.partialInsertionSort Bz d a b=(d,decide (Sort.scanSorted Bz d b (a+1)=b)):=by
 unfold Sort.partialInsertionSort
 rw[Sort.partialIns]
 simp only
 split
 ·rename_i h;simp[h]
 ·rename_i h;simp[h,hl]
theorem Ze (d:Array Sc) (v a b:Nat) (hn:d.size≤900) (hab:a<b) (hb:b≤d.size) (hl:b-a<50):A4 Tryz.prog 276 (fun r=>[Hy d.size v r,iv a,iv b,CT]) (A7 d v) (fun _=>bv (Sort.partialInsertionSort Bz d a b).2) (A7 (Sort.partialInsertionSort Bz d a b).1 v):=by
 rw[Xb d a b hl]
 refine Ax DP (by simp) (Ag (PK _ _) (Ag AE (Ag AE (Ag Ea Am)))) AE fun w0 I0 M0 m0=>?_
 have e1:IntKind.i64.wrap ((a:Int)+1)=((a+1:Nat):Int):=An
 have e2:IntKind.i64.wrap ((b:Int)-a)=((b-a:Nat):Int):=An
 have hsc:=jC Bz d b (b-(a+1)) (a+1) (by omega) (by omega)
 have l1:=fun (Q:Exit→Sta→Prop) (H:Hp) (k:Int) (hH:∀ p,H (0::p)=(A7 d v).F 0 p)=>uL (n0:=141) (w0:=w0) (I0:=I0) (M0:=M0) (m0:=m0) (Q:=Q) (v:=v) (k:=k) (a:=a) hn hb rfl hH (b-(a+1)) (a+1) (BW _) (by omega) (by omega)
 generalize Sort.scanSorted Bz d b (a+1)=z at hsc l1 ⊢
 unfold BO
 simp[e1]
 refine Ad Ah BL.eq_1 ?_
 simp
 refine LoopC.le (Ao [(0,Hy d.size v 0),(1,iv a),(2,iv b),(3,CT),(9,iv (a+1:Nat)),(10,iv 0)] (by simp)) ?_
 refine l1 _ _ 0 (fun p=>by simp) fun st=>?_
 by_cases hz:z=b
 ·simp[hz]
  exact AH rfl rfl (fun p=>by simp)
 ·have hz':¬ (z:Int)=b:=by omega
  simp[hz,hz',e2,show((b-a:Nat):Int)<50 by omega]
  exact AH rfl rfl (fun p=>by simp)
theorem Abh {n a j:Nat} {z:Sc} {d:Array Sc} {H:Hp} (hn:n≤900) (ha:a<n) (hj:j<n) (hd:d.size=n) (hz:d[a]! = z) (hH:∀ p,H (0::p)=(A7 d v).F 0 p):∀ (m i:Nat),j+1-i≤m→i≤n →
  (∀ (st:List (Nat × A)),Q (.exit 0) ⟨lk ([(0,Hy n v 0),(1,iv a),(4,CT),(12,iv (Sort.scanUp (fun x=>Bz x z) d j i)),(13,iv j)]++st),H⟩) →
  LoopC (EP Tryz.prog w0 I0 M0 n0 m0) AU Q ⟨lk [(0,Hy n v 0),(1,iv a),(4,CT),(12,iv i),(13,iv j)],H⟩:=by
 intro m
 induction m with
 |zero=>
  intro i hm hi hq
  rw[Sort.scanUp,if_neg (by simp;omega)] at hq
  refine Ad Ah AU.eq_1 ?_
  simp[show ¬ (i:Int)≤j by omega,show ¬ i≤j by omega]
  rw[Az]
  simp
  exact hq [(47,bv false)]
 |succ m ih=>
  intro i hm hi hq
  by_cases hij:i≤j
  ·have h0:=hH []
   simp only[K5] at h0
   have gi:=Br (d:=d) (i:=i) (by omega)
   have ga:=Br (d:=d) (i:=a) (by omega)
   rw[hz] at ga
   have e1:IntKind.i64.wrap ((i:Int)+1)=((i+1:Nat):Int):=An
   rw[Sort.scanUp] at hq
   generalize d[i]! = x at gi hq
   have hc:=XC x z
   refine Ad Ah AU.eq_1 ?_
   simp[hij,show(i:Int)≤j by omega,h0,gi,ga,show(i:Int)<n by omega,show i<n by omega,ha,show(a:Int)<n by omega,CU]
   rw[Az]
   simp
   refine EO rfl (DS x z) (by simp) rfl ?_
   cases hL:Bz x z with
   |true=>
    rw[hL] at hc hq
    have hc':EV x.i z.i<0:=by simpa using hc
    rw[if_pos (by simp[hij])] at hq
    simp[hc',e1]
    exact ih (i+1) (by omega) (by omega) hq
   |false=>
    rw[hL] at hc hq
    have hc':¬ EV x.i z.i<0:=by simpa using hc
    rw[if_neg (by simp)] at hq
    simp[hc']
    exact hq [(47,bv false)]
  ·rw[Sort.scanUp,if_neg (by simp;omega)] at hq
   refine Ad Ah AU.eq_1 ?_
   simp[show ¬ (i:Int)≤j by omega,hij]
   rw[Az]
   simp
   exact hq [(47,bv false)]
theorem Acw {n a j:Nat} {z:Sc} {d:Array Sc} {H:Hp} (hn:n≤900) (ha:a<n) (hj:j<n) (hd:d.size=n) (hz:d[a]! = z) (hH:∀ p,H (0::p)=(A7 d v).F 0 p):∀ (m i:Nat),j+1-i≤m→i≤n →
  (∀ (st:List (Nat × A)),Q (.exit 6) ⟨lk ([(0,Hy n v 0),(1,iv a),(4,CT),(12,iv (Sort.scanUp (fun x=>Bz x z) d j i)),(13,iv j)]++st),H⟩) →
  LoopC (EP Tryz.prog w0 I0 M0 n0 m0) AW Q ⟨lk [(0,Hy n v 0),(1,iv a),(4,CT),(12,iv i),(13,iv j)],H⟩:=by
 intro m
 induction m with
 |zero=>
  intro i hm hi hq
  rw[Sort.scanUp,if_neg (by simp;omega)] at hq
  refine Ad Ah AW.eq_1 ?_
  simp[show ¬ (i:Int)≤j by omega,show ¬ i≤j by omega]
  rw[Az]
  simp
  exact hq [(120,bv false)]
 |succ m ih=>
  intro i hm hi hq
  by_cases hij:i≤j
  ·have h0:=hH []
   simp only[K5] at h0
   have gi:=Br (d:=d) (i:=i) (by omega)
   have ga:=Br (d:=d) (i:=a) (by omega)
   rw[hz] at ga
   have e1:IntKind.i64.wrap ((i:Int)+1)=((i+1:Nat):Int):=An
   rw[Sort.scanUp] at hq
   generalize d[i]! = x at gi hq
   have hc:=XC x z
   refine Ad Ah AW.eq_1 ?_
   simp[hij,show(i:Int)≤j by omega,h0,gi,ga,show(i:Int)<n by omega,show i<n by omega,ha,show(a:Int)<n by omega,CU]
   rw[Az]
   simp
   refine EO rfl (DS x z) (by simp) rfl ?_
   cases hL:Bz x z with
   |true=>
    rw[hL] at hc hq
    have hc':EV x.i z.i<0:=by simpa using hc
    rw[if_pos (by simp[hij])] at hq
    simp[hc',e1]
    exact ih (i+1) (by omega) (by omega) hq
   |false=>
    rw[hL] at hc hq
    have hc':¬ EV x.i z.i<0:=by simpa using hc
    rw[if_neg (by simp)] at hq
    simp[hc']
    exact hq [(120,bv false)]
  ·rw[Sort.scanUp,if_neg (by simp;omega)] at hq
   refine Ad Ah AW.eq_1 ?_
   simp[show ¬ (i:Int)≤j by omega,hij]
   rw[Az]
   simp
   exact hq [(120,bv false)]
theorem Ac2 {n a i:Nat} {z:Sc} {d:Array Sc} {H:Hp} (hn:n≤900) (ha:a<n) (hi:i≤n) (hi1:1≤i) (hd:d.size=n) (hz:d[a]! = z) (hH:∀ p,H (0::p)=(A7 d v).F 0 p):∀ (j:Nat),j<n →
  (∀ (st:List (Nat × A)),Q (.exit 2) ⟨lk ([(0,Hy n v 0),(1,iv a),(4,CT),(12,iv i),(13,iv (Sort.scanDown (fun x=>!Bz x z) d i j))]++st),H⟩) →
  LoopC (EP Tryz.prog w0 I0 M0 n0 m0) AV Q ⟨lk [(0,Hy n v 0),(1,iv a),(4,CT),(12,iv i),(13,iv j)],H⟩:=by
 intro j
 induction j with
 |zero=>
  intro hj hq
  rw[Sort.scanDown] at hq
  refine Ad Ah AV.eq_1 ?_
  simp[show ¬ (i:Int)≤0 by omega,show ¬ i=0 by omega]
  rw[Az]
  simp
  exact hq [(66,bv false)]
 |succ j ih=>
  intro hj hq
  rw[Sort.scanDown] at hq
  by_cases hij:i≤j+1
  ·have h0:=hH []
   simp only[K5] at h0
   have gi:=Br (d:=d) (i:=j+1) (by omega)
   have ga:=Br (d:=d) (i:=a) (by omega)
   rw[hz] at ga
   have e1:IntKind.i64.wrap (((j+1:Nat):Int)-1)=(j:Int):=An
   have e2:IntKind.i64.wrap (j:Int)=(j:Int):=Af (by omega) (by omega)
   generalize d[j+1]! = x at gi hq
   have hc:=XC x z
   have hij':(i:Int)≤((j+1:Nat):Int):=by omega
   have hj':((j+1:Nat):Int)<n:=by omega
   generalize hjj:j+1=jj at gi hij hij' hj hj' e1 hq ⊢
   refine Ad Ah AV.eq_1 ?_
   simp[hij,hij',h0,gi,ga,hj,hj',ha,show(a:Int)<n by omega,CU]
   rw[Az]
   simp
   refine EO rfl (DS x z) (by simp) rfl ?_
   cases hL:Bz x z with
   |true=>
    rw[hL] at hc hq
    have hc':EV x.i z.i<0:=by simpa using hc
    rw[if_neg (by simp)] at hq
    simp[hc']
    exact hq [(66,bv false)]
   |false=>
    rw[hL] at hc hq
    have hc':¬ EV x.i z.i<0:=by simpa using hc
    rw[if_pos (by simp[hij])] at hq
    simp[hc',e1]
    exact ih (by omega) hq
  ·rw[if_neg (by simp;omega)] at hq
   refine Ad Ah AV.eq_1 ?_
   have hij':¬ (i:Int)≤((j+1:Nat):Int):=by omega
   generalize hjj:j+1=jj at hij hij' hq ⊢
   simp[hij,hij']
   rw[Az]
   simp
   exact hq [(66,bv false)]
theorem Adp {n a i:Nat} {z:Sc} {d:Array Sc} {H:Hp} (hn:n≤900) (ha:a<n) (hi:i≤n) (hi1:1≤i) (hd:d.size=n) (hz:d[a]! = z) (hH:∀ p,H (0::p)=(A7 d v).F 0 p):∀ (j:Nat),j<n →
  (∀ (st:List (Nat × A)),Q (.exit 8) ⟨lk ([(0,Hy n v 0),(1,iv a),(4,CT),(12,iv i),(13,iv (Sort.scanDown (fun x=>!Bz x z) d i j))]++st),H⟩) →
  LoopC (EP Tryz.prog w0 I0 M0 n0 m0) AR Q ⟨lk [(0,Hy n v 0),(1,iv a),(4,CT),(12,iv i),(13,iv j)],H⟩:=by
 intro j
 induction j with
 |zero=>
  intro hj hq
  rw[Sort.scanDown] at hq
  refine Ad Ah AR.eq_1 ?_
  simp[show ¬ (i:Int)≤0 by omega,show ¬ i=0 by omega]
  rw[Az]
  simp
  exact hq [(139,bv false)]
 |succ j ih=>
  intro hj hq
  rw[Sort.scanDown] at hq
  by_cases hij:i≤j+1
  ·have h0:=hH []
   simp only[K5] at h0
   have gi:=Br (d:=d) (i:=j+1) (by omega)
   have ga:=Br (d:=d) (i:=a) (by omega)
   rw[hz] at ga
   have e1:IntKind.i64.wrap (((j+1:Nat):Int)-1)=(j:Int):=An
   have e2:IntKind.i64.wrap (j:Int)=(j:Int):=Af (by omega) (by omega)
   generalize d[j+1]! = x at gi hq
   have hc:=XC x z
   have hij':(i:Int)≤((j+1:Nat):Int):=by omega
   have hj':((j+1:Nat):Int)<n:=by omega
   generalize hjj:j+1=jj at gi hij hij' hj hj' e1 hq ⊢
   refine Ad Ah AR.eq_1 ?_
   simp[hij,hij',h0,gi,ga,hj,hj',ha,show(a:Int)<n by omega,CU]
   rw[Az]
   simp
   refine EO rfl (DS x z) (by simp) rfl ?_
   cases hL:Bz x z with
   |true=>
    rw[hL] at hc hq
    have hc':EV x.i z.i<0:=by simpa using hc
    rw[if_neg (by simp)] at hq
    simp[hc']
    exact hq [(139,bv false)]
   |false=>
    rw[hL] at hc hq
    have hc':¬ EV x.i z.i<0:=by simpa using hc
    rw[if_pos (by simp[hij])] at hq
    simp[hc',e1]
    exact ih (by omega) hq
  ·rw[if_neg (by simp;omega)] at hq
   refine Ad Ah AR.eq_1 ?_
   have hij':¬ (i:Int)≤((j+1:Nat):Int):=by omega
   generalize hjj:j+1=jj at hij hij' hq ⊢
   simp[hij,hij']
   rw[Az]
   simp
   exact hq [(139,bv false)]
theorem AeA {n a j:Nat} {z:Sc} {d:Array Sc} {H:Hp} (hn:n≤900) (ha:a<n) (hj:j<n) (hd:d.size=n) (hz:d[a]! = z) (hH:∀ p,H (0::p)=(A7 d v).F 0 p):∀ (m i:Nat),j+1-i≤m→i≤n →
  (∀ (st:List (Nat × A)),Q (.exit 2) ⟨lk ([(0,Hy n v 0),(1,iv a),(4,CT),(11,iv (Sort.scanUp (fun x=>!Bz z x) d j i)),(12,iv j)]++st),H⟩) →
  LoopC (EP Tryz.prog w0 I0 M0 n0 m0) AL Q ⟨lk [(0,Hy n v 0),(1,iv a),(4,CT),(11,iv i),(12,iv j)],H⟩:=by
 intro m
 induction m with
 |zero=>
  intro i hm hi hq
  rw[Sort.scanUp,if_neg (by simp;omega)] at hq
  refine Ad Ah AL.eq_1 ?_
  simp[show ¬ (i:Int)≤j by omega,show ¬ i≤j by omega]
  rw[Az]
  simp
  exact hq [(47,bv false)]
 |succ m ih=>
  intro i hm hi hq
  by_cases hij:i≤j
  ·have h0:=hH []
   simp only[K5] at h0
   have gi:=Br (d:=d) (i:=i) (by omega)
   have ga:=Br (d:=d) (i:=a) (by omega)
   rw[hz] at ga
   have e1:IntKind.i64.wrap ((i:Int)+1)=((i+1:Nat):Int):=An
   rw[Sort.scanUp] at hq
   generalize d[i]! = x at gi hq
   have hc:=XC z x
   refine Ad Ah AL.eq_1 ?_
   simp[hij,show(i:Int)≤j by omega,h0,gi,ga,show(i:Int)<n by omega,show i<n by omega,ha,show(a:Int)<n by omega,CU]
   rw[Az]
   simp
   refine EO rfl (DS z x) (by simp) rfl ?_
   cases hL:Bz z x with
   |true=>
    rw[hL] at hc hq
    have hc':EV z.i x.i<0:=by simpa using hc
    rw[if_neg (by simp)] at hq
    simp[hc']
    exact hq [(47,bv false)]
   |false=>
    rw[hL] at hc hq
    have hc':¬ EV z.i x.i<0:=by simpa using hc
    rw[if_pos (by simp[hij])] at hq
    simp[hc',e1]
    exact ih (i+1) (by omega) (by omega) hq
  ·rw[Sort.scanUp,if_neg (by simp;omega)] at hq
   refine Ad Ah AL.eq_1 ?_
   simp[show ¬ (i:Int)≤j by omega,hij]
   rw[Az]
   simp
   exact hq [(47,bv false)]
theorem AbX {n a i:Nat} {z:Sc} {d:Array Sc} {H:Hp} (hn:n≤900) (ha:a<n) (hi:i≤n) (hi1:1≤i) (hd:d.size=n) (hz:d[a]! = z) (hH:∀ p,H (0::p)=(A7 d v).F 0 p):∀ (j:Nat),j<n →
  (∀ (st:List (Nat × A)),Q (.exit 4) ⟨lk ([(0,Hy n v 0),(1,iv a),(4,CT),(11,iv i),(12,iv (Sort.scanDown (fun x=>Bz z x) d i j))]++st),H⟩) →
  LoopC (EP Tryz.prog w0 I0 M0 n0 m0) AM Q ⟨lk [(0,Hy n v 0),(1,iv a),(4,CT),(11,iv i),(12,iv j)],H⟩:=by
 intro j
 induction j with
 |zero=>
  intro hj hq
  rw[Sort.scanDown] at hq
  refine Ad Ah AM.eq_1 ?_
  simp[show ¬ (i:Int)≤0 by omega,show ¬ i=0 by omega]
  rw[Az]
  simp
  exact hq [(65,bv false)]
 |succ j ih=>
  intro hj hq
  rw[Sort.scanDown] at hq
  by_cases hij:i≤j+1
  ·have h0:=hH []
   simp only[K5] at h0
   have gi:=Br (d:=d) (i:=j+1) (by omega)
   have ga:=Br (d:=d) (i:=a) (by omega)
   rw[hz] at ga
   have e1:IntKind.i64.wrap (((j+1:Nat):Int)-1)=(j:Int):=An
   have e2:IntKind.i64.wrap (j:Int)=(j:Int):=Af (by omega) (by omega)
   generalize d[j+1]! = x at gi hq
   have hc:=XC z x
   have hij':(i:Int)≤((j+1:Nat):Int):=by omega
   have hj':((j+1:Nat):Int)<n:=by omega
   generalize hjj:j+1=jj at gi hij hij' hj hj' e1 hq ⊢
   refine Ad Ah AM.eq_1 ?_
   simp[hij,hij',h0,gi,ga,hj,hj',ha,show(a:Int)<n by omega,CU]
   rw[Az]
   simp
   refine EO rfl (DS z x) (by simp) rfl ?_
   cases hL:Bz z x with
   |true=>
    rw[hL] at hc hq
    have hc':EV z.i x.i<0:=by simpa using hc
    rw[if_pos (by simp[hij])] at hq
    simp[hc',e1]
    exact ih (by omega) hq
   |false=>
    rw[hL] at hc hq
    have hc':¬ EV z.i x.i<0:=by simpa using hc
    rw[if_neg (by simp)] at hq
    simp[hc']
    exact hq [(65,bv false)]
  ·rw[if_neg (by simp;omega)] at hq
   refine Ad Ah AM.eq_1 ?_
   have hij':¬ (i:Int)≤((j+1:Nat):Int):=by omega
   generalize hjj:j+1=jj at hij hij' hq ⊢
   simp[hij,hij']
   rw[Az]
   simp
   exact hq [(65,bv false)]
theorem L3 (p:Sc→Bool) (d:Array Sc) (j:Nat):∀ (m i:Nat),j+1-i≤m→i≤Sort.scanUp p d j i∧(Sort.scanUp p d j i≤j+1∨Sort.scanUp p d j i=i)
 |0,i,h=>by rw[Sort.scanUp,if_neg (by simp;omega)];exact⟨BW _,.inr rfl⟩
 |m+1,i,h=>by
  rw[Sort.scanUp]
  split
  ·rename_i hc
   simp at hc
   have:=L3 p d j m (i+1) (by omega)
   refine⟨by omega,.inl ?_⟩
   rcases this.2 with h | h<;>omega
  ·exact⟨BW _,.inr rfl⟩
theorem Ij (p:Sc→Bool) (d:Array Sc) (i:Nat) (hi:1≤i):∀ j:Nat,Sort.scanDown p d i j≤j∧(i-1≤Sort.scanDown p d i j∨Sort.scanDown p d i j=j)
 |0=>by rw[Sort.scanDown];exact⟨BW _,.inr rfl⟩
 |j+1=>by
  rw[Sort.scanDown]
  split
  ·rename_i hc
   simp at hc
   have:=Ij p d i hi j
   refine⟨by omega,?_⟩
   rcases this.2 with h | h
   ·exact .inl h
   ·left;omega
  ·exact⟨BW _,.inr rfl⟩
theorem Adz {n a:Nat} (hn:n≤900) (ha:a<n):∀ (m i j:Nat) (d:Array Sc) (H:Hp),j+1-i≤m→a+1≤i→i≤n→j<n→a≤j→i≤j+2→d.size=n→(∀ p,H (0::p)=(A7 d v).F 0 p) →
  (∀ (H':Hp) (x:A) (st:List (Nat × A)),(∀ p,H' (0::p)=(A7 (Sort.partLoop Bz a i j d).2 v).F 0 p)→a≤(Sort.partLoop Bz a i j d).1→(Sort.partLoop Bz a i j d).1<n→(Sort.partLoop Bz a i j d).2.size=n →
   Q (.exit 4) ⟨lk ([(0,Hy n v 0),(1,iv a),(4,CT),(12,x),(13,iv (Sort.partLoop Bz a i j d).1)]++st),H'⟩) →
  LoopC (EP Tryz.prog w0 I0 M0 n0 m0) BJ Q ⟨lk [(0,Hy n v 0),(1,iv a),(4,CT),(12,iv i),(13,iv j)],H⟩:=by
 intro m
 induction m using Nat.strongRecOn with
 |_ m ih=>
  intro i j d H hm h1 hi hj haj hij hd hH hq
  rw[Sort.partLoop] at hq
  have hu:=L3 (fun x=>Bz x d[a]!) d j (j+1-i) i (BW _)
  have lu:=fun (Q:Exit→Sta→Prop)=>Acw (n0:=n0) (w0:=w0) (I0:=I0) (M0:=M0) (m0:=m0) (Q:=Q) (v:=v) (a:=a) (j:=j) (H:=H) hn ha hj hd rfl hH (j+1-i) i (BW _) hi
  generalize Sort.scanUp (fun x=>Bz x d[a]!) d j i=i2 at hq hu lu
  have hi2:i2≤n:=by rcases hu.2 with h | h<;>omega
  have hdn:=Ij (fun x=>!Bz x d[a]!) d i2 (by omega) j
  have ld:=fun (Q:Exit→Sta→Prop)=>Adp (n0:=n0) (w0:=w0) (I0:=I0) (M0:=M0) (m0:=m0) (Q:=Q) (v:=v) (a:=a) (i:=i2) (H:=H) hn ha hi2 (by omega) hd rfl hH j hj
  generalize Sort.scanDown (fun x=>!Bz x d[a]!) d i2 j=j2 at hq hdn ld
  refine Ad Ah BJ.eq_1 ?_
  simp
  refine lu _ fun st=>?_
  simp
  refine ld _ fun st2=>?_
  by_cases hc:j2<i2
  ·rw[if_pos hc] at hq
   simp[hc,show(j2:Int)<i2 by omega]
   exact hq H (iv i2) [(144,bv true)] hH (by rcases hdn.2 with h | h<;>omega) (by omega) hd
  ·rw[if_neg hc] at hq
   have hg:j2-1+1-(i2+1)<j+1-i:=by omega
   rw[dif_pos hg] at hq
   have h0:=hH []
   simp only[K5] at h0
   have e1:IntKind.i64.wrap ((i2:Int)+1)=((i2+1:Nat):Int):=An
   have e2:IntKind.i64.wrap ((j2:Int)-1)=((j2-1:Nat):Int):=An
   have g1:=Br (d:=d) (i:=i2) (by omega)
   have g0:=Br (d:=d) (i:=j2) (by omega)
   have g2:=HV (d:=d) (i:=i2) (j:=j2) (by omega) (by omega)
   have hs:=Ln (d:=d) (i:=i2) (j:=j2)
   generalize d[i2]! = x at g1 g2 hs
   generalize d[j2]! = y at g0 g2 hs
   simp[hc,show ¬ (j2:Int)<i2 by omega,h0,g0,g1,g2,e1,e2,show(i2:Int)<n by omega,show(j2:Int)<n by omega,show i2<n by omega,show j2<n by omega,CU]
   refine LoopC.le (Ao [(0,Hy n v 0),(1,iv a),(4,CT),(12,iv (i2+1:Nat)),(13,iv (j2-1:Nat))] (by simp)) ?_
   exact ih (j2-1+1-(i2+1)) (by omega) (i2+1) (j2-1) (Sort.swp d i2 j2) _ (BW _) (by omega) (by omega) (by omega) (by omega) (by omega) (by rw[FE];exact hd) (fun p=>by by_cases hp:p=[]<;>simp[hp,hs,Aa,hH]) hq
theorem Aeo {n a:Nat} (hn:n≤900) (ha:a<n):∀ (m i j:Nat) (d:Array Sc) (H:Hp),j+1-i≤m→a+1≤i→i≤n→j<n→a≤j→i≤j+2→d.size=n→(∀ p,H (0::p)=(A7 d v).F 0 p) →
  (∀ (H':Hp) (x:A) (st:List (Nat × A)),(∀ p,H' (0::p)=(A7 (Sort.partEqLoop Bz a i j d).2 v).F 0 p)→a<(Sort.partEqLoop Bz a i j d).1→(Sort.partEqLoop Bz a i j d).1≤n→(Sort.partEqLoop Bz a i j d).2.size=n →
   Q (.exit 0) ⟨lk ([(0,Hy n v 0),(1,iv a),(4,CT),(11,iv (Sort.partEqLoop Bz a i j d).1),(12,x)]++st),H'⟩) →
  LoopC (EP Tryz.prog w0 I0 M0 n0 m0) Bs Q ⟨lk [(0,Hy n v 0),(1,iv a),(4,CT),(11,iv i),(12,iv j)],H⟩:=by
 intro m
 induction m using Nat.strongRecOn with
 |_ m ih=>
  intro i j d H hm h1 hi hj haj hij hd hH hq
  rw[Sort.partEqLoop] at hq
  have hu:=L3 (fun x=>!Bz d[a]! x) d j (j+1-i) i (BW _)
  have lu:=fun (Q:Exit→Sta→Prop)=>AeA (n0:=n0) (w0:=w0) (I0:=I0) (M0:=M0) (m0:=m0) (Q:=Q) (v:=v) (a:=a) (j:=j) (H:=H) hn ha hj hd rfl hH (j+1-i) i (BW _) hi
  generalize Sort.scanUp (fun x=>!Bz d[a]! x) d j i=i2 at hq hu lu
  have hi2:i2≤n:=by rcases hu.2 with h | h<;>omega
  have hdn:=Ij (fun x=>Bz d[a]! x) d i2 (by omega) j
  have ld:=fun (Q:Exit→Sta→Prop)=>AbX (n0:=n0) (w0:=w0) (I0:=I0) (M0:=M0) (m0:=m0) (Q:=Q) (v:=v) (a:=a) (i:=i2) (H:=H) hn ha hi2 (by omega) hd rfl hH j hj
  generalize Sort.scanDown (fun x=>Bz d[a]! x) d i2 j=j2 at hq hdn ld
  refine Ad Ah Bs.eq_1 ?_
  simp
  refine lu _ fun st=>?_
  simp
  refine ld _ fun st2=>?_
  by_cases hc:j2<i2
  ·rw[if_pos hc] at hq
   simp[hc,show(j2:Int)<i2 by omega]
   exact hq H (iv j2) [(70,bv true)] hH (by omega) hi2 hd
  ·rw[if_neg hc] at hq
   have hg:j2-1+1-(i2+1)<j+1-i:=by omega
   rw[dif_pos hg] at hq
   have h0:=hH []
   simp only[K5] at h0
   have e1:IntKind.i64.wrap ((i2:Int)+1)=((i2+1:Nat):Int):=An
   have e2:IntKind.i64.wrap ((j2:Int)-1)=((j2-1:Nat):Int):=An
   have g1:=Br (d:=d) (i:=i2) (by omega)
   have g0:=Br (d:=d) (i:=j2) (by omega)
   have g2:=HV (d:=d) (i:=i2) (j:=j2) (by omega) (by omega)
   have hs:=Ln (d:=d) (i:=i2) (j:=j2)
   generalize d[i2]! = x at g1 g2 hs
   generalize d[j2]! = y at g0 g2 hs
   simp[hc,show ¬ (j2:Int)<i2 by omega,h0,g0,g1,g2,e1,e2,show(i2:Int)<n by omega,show(j2:Int)<n by omega,show i2<n by omega,show j2<n by omega,CU]
   refine LoopC.le (Ao [(0,Hy n v 0),(1,iv a),(4,CT),(11,iv (i2+1:Nat)),(12,iv (j2-1:Nat))] (by simp)) ?_
   exact ih (j2-1+1-(i2+1)) (by omega) (i2+1) (j2-1) (Sort.swp d i2 j2) _ (BW _) (by omega) (by omega) (by omega) (by omega) (by omega) (by rw[FE];exact hd) (fun p=>by by_cases hp:p=[]<;>simp[hp,hs,Aa,hH]) hq
theorem Xd (d:Array Sc) (v a b q:Nat) (hn:d.size≤900) (hab:a+2≤b) (hb:b≤d.size) (hq:q<d.size):A4 Tryz.prog 278 (fun r=>[Hy d.size v r,iv a,iv b,iv q,CT]) (A7 d v) (fun _=>.tup [iv (Sort.partition Bz d a b q).1,bv (Sort.partition Bz d a b q).2.1]) (A7 (Sort.partition Bz d a b q).2.2 v):=by
 refine Ax Gi (by simp) (Ag (PK _ _) (Ag AE (Ag AE (Ag AE (Ag Ea Am))))) (Bn (Ag AE (Ag AE Am))) fun w0 I0 M0 m0=>?_
 obtain⟨n,hnn⟩:∃ n,d.size=n:=⟨_,rfl⟩
 rw[hnn] at hn hb hq ⊢
 have e1:IntKind.i64.wrap ((a:Int)+1)=((a+1:Nat):Int):=An
 have e2:IntKind.i64.wrap ((b:Int)-1)=((b-1:Nat):Int):=An
 have g1:=Br (d:=d) (i:=a) (by omega)
 have g0:=Br (d:=d) (i:=q) (by omega)
 have g2:=HV (d:=d) (i:=a) (j:=q) (by omega) (by omega)
 have hs:=Ln (d:=d) (i:=a) (j:=q)
 have hsz:(Sort.swp d a q).size=n:=by rw[FE];exact hnn
 obtain⟨R,hR⟩:∃ R,R=Sort.partition Bz d a b q:=⟨_,rfl⟩
 rw[← hR]
 unfold Sort.partition at hR
 generalize d[a]! = x at g1 g2 hs
 generalize d[q]! = y at g0 g2 hs
 generalize hd1:Sort.swp d a q=d1 at hs hsz hR
 have hu:=L3 (fun x=>Bz x d1[a]!) d1 (b-1) (b-1+1-(a+1)) (a+1) (BW _)
 have lu:=fun (Q:Exit→Sta→Prop) (H:Hp) (hH:∀ p,H (0::p)=(A7 d1 v).F 0 p)=>Abh (n0:=178) (w0:=w0) (I0:=I0) (M0:=M0) (m0:=m0) (Q:=Q) (v:=v) (a:=a) (j:=b-1) (H:=H) hn (by omega) (by omega) hsz rfl hH (b-1+1-(a+1)) (a+1) (BW _) (by omega)
 simp only at hR
 generalize Sort.scanUp (fun x=>Bz x d1[a]!) d1 (b-1) (a+1)=i2 at hR hu lu
 have hi2:i2≤n:=by rcases hu.2 with h | h<;>omega
 have hdn:=Ij (fun x=>!Bz x d1[a]!) d1 i2 (by omega) (b-1)
 have ld:=fun (Q:Exit→Sta→Prop) (H:Hp) (hH:∀ p,H (0::p)=(A7 d1 v).F 0 p)=>Ac2 (n0:=178) (w0:=w0) (I0:=I0) (M0:=M0) (m0:=m0) (Q:=Q) (v:=v) (a:=a) (i:=i2) (H:=H) hn (by omega) hi2 (by omega) hsz rfl hH (b-1) (by omega)
 generalize Sort.scanDown (fun x=>!Bz x d1[a]!) d1 i2 (b-1)=j2 at hR hdn ld
 have hj2:a≤j2:=by rcases hdn.2 with h | h<;>omega
 have hj2n:j2<n:=by omega
 unfold CX
 simp[g0,g1,g2,e1,e2,show(a:Int)<n by omega,show(q:Int)<n by omega,show a<n by omega,hq,CU,Aa]
 refine LoopC.le (Ao [(0,Hy n v 0),(1,iv a),(4,CT),(12,iv (a+1:Nat)),(13,iv (b-1:Nat))] (by simp)) ?_
 have hH1:∀ p,(ov 0 (Ay ((A7 d v).F 0) [] ⟨v,.arr 2 (((d.toList.map Ho).set a (Ho y)).set q (Ho x))⟩) (HM []):Hp) (0::p)=(A7 d1 v).F 0 p:=fun p=>by by_cases hp:p=[]<;>simp[hp,hs,Aa]
 refine lu _ _ hH1 fun st=>?_
 simp
 refine ld _ _ hH1 fun st2=>?_
 have m1:=Br (d:=d1) (i:=a) (by omega)
 have m2:=Br (d:=d1) (i:=j2) (by omega)
 by_cases hc:j2<i2
 ·rw[if_pos hc] at hR
  subst hR
  have m3:=HV (d:=d1) (i:=j2) (j:=a) (by omega) (by omega)
  have ms:=Ln (d:=d1) (i:=j2) (j:=a)
  rw[hs] at m1 m2 m3 ms
  simp only
  generalize d1[a]! = z at m1 m3 ms
  generalize d1[j2]! = u at m2 m3 ms
  generalize hL:(((d.toList.map Ho).set a (Ho y)).set q (Ho x))=L at *
  simp[hc,show(j2:Int)<i2 by omega,m1,m2,m3,Aa,show(a:Int)<n by omega,show(j2:Int)<n by omega,show a<n by omega,hj2n,CU]
  exact AH rfl rfl (fun p=>by by_cases hp:p=[]<;>simp[hp,ms,Aa])
 ·rw[if_neg hc] at hR
  have e3:IntKind.i64.wrap ((i2:Int)+1)=((i2+1:Nat):Int):=An
  have e4:IntKind.i64.wrap ((j2:Int)-1)=((j2-1:Nat):Int):=An
  have m1:=Br (d:=d1) (i:=i2) (by omega)
  have m3:=HV (d:=d1) (i:=i2) (j:=j2) (by omega) (by omega)
  have ms:=Ln (d:=d1) (i:=i2) (j:=j2)
  have hsz2:(Sort.swp d1 i2 j2).size=n:=by rw[FE];exact hsz
  rw[hs] at m1 m2 m3 ms
  generalize d1[i2]! = z at m1 m3 ms
  generalize d1[j2]! = u at m2 m3 ms
  generalize hd2:Sort.swp d1 i2 j2=d2 at ms hsz2 hR
  have l5:=fun (Q:Exit→Sta→Prop) (H:Hp) (hH:∀ p,H (0::p)=(A7 d2 v).F 0 p)=>Adz (n0:=178) (w0:=w0) (I0:=I0) (M0:=M0) (m0:=m0) (Q:=Q) (v:=v) hn (show a<n by omega) (j2-1+1-(i2+1)) (i2+1) (j2-1) d2 H (BW _) (by omega) (by omega) (by omega) (by omega) (by omega) hsz2 hH
  generalize Sort.partLoop Bz a (i2+1) (j2-1) d2=T at hR l5
  generalize hL:(((d.toList.map Ho).set a (Ho y)).set q (Ho x))=L at *
  simp[hc,show ¬ (j2:Int)<i2 by omega,m1,m2,m3,e3,e4,Aa,show(i2:Int)<n by omega,show(j2:Int)<n by omega,show i2<n by omega,hj2n,CU]
  refine LoopC.le (Ao [(0,Hy n v 0),(1,iv a),(4,CT),(12,iv (i2+1:Nat)),(13,iv (j2-1:Nat))] (by simp)) ?_
  refine l5 _ _ (fun p=>by by_cases hp:p=[]<;>simp[hp,ms,Aa]) fun H' xx st3 hT t1 t2 t3=>?_
  have h0:=hT []
  simp only[K5] at h0
  have k1:=Br (d:=T.2) (i:=a) (by omega)
  have k2:=Br (d:=T.2) (i:=T.1) (by omega)
  have k3:=HV (d:=T.2) (i:=T.1) (j:=a) (by omega) (by omega)
  have ks:=Ln (d:=T.2) (i:=T.1) (j:=a)
  subst hR
  simp only
  generalize T.2[a]! = z' at k1 k3 ks
  generalize T.2[T.1]! = u' at k2 k3 ks
  simp[h0,k1,k2,k3,show(a:Int)<n by omega,show(T.1:Int)<n by omega,show a<n by omega,t2,CU]
  exact AH rfl rfl (fun p=>by by_cases hp:p=[]<;>simp[hp,ks,hT,Aa])
theorem cr (d:Array Sc) (v a b q:Nat) (hn:d.size≤900) (hab:a+2≤b) (hb:b≤d.size) (hq:q<d.size):A4 Tryz.prog 277 (fun r=>[Hy d.size v r,iv a,iv b,iv q,CT]) (A7 d v) (fun _=>iv (Sort.partitionEqual Bz d a b q).1) (A7 (Sort.partitionEqual Bz d a b q).2 v):=by
 refine Ax ES (by simp) (Ag (PK _ _) (Ag AE (Ag AE (Ag AE (Ag Ea Am))))) AE fun w0 I0 M0 m0=>?_
 obtain⟨n,hnn⟩:∃ n,d.size=n:=⟨_,rfl⟩
 rw[hnn] at hn hb hq ⊢
 have e1:IntKind.i64.wrap ((a:Int)+1)=((a+1:Nat):Int):=An
 have e2:IntKind.i64.wrap ((b:Int)-1)=((b-1:Nat):Int):=An
 have g1:=Br (d:=d) (i:=a) (by omega)
 have g0:=Br (d:=d) (i:=q) (by omega)
 have g2:=HV (d:=d) (i:=a) (j:=q) (by omega) (by omega)
 have hs:=Ln (d:=d) (i:=a) (j:=q)
 have hsz:(Sort.swp d a q).size=n:=by rw[FE];exact hnn
 unfold Sort.partitionEqual
 generalize d[a]! = x at g1 g2 hs
 generalize d[q]! = y at g0 g2 hs
 generalize Sort.swp d a q=d1 at hs hsz ⊢
 have l3:=fun (Q:Exit→Sta→Prop) (H:Hp) (hH:∀ p,H (0::p)=(A7 d1 v).F 0 p)=>Aeo (n0:=90) (w0:=w0) (I0:=I0) (M0:=M0) (m0:=m0) (Q:=Q) (v:=v) hn (show a<n by omega) (b-1+1-(a+1)) (a+1) (b-1) d1 H (BW _) (by omega) (by omega) (by omega) (by omega) (by omega) hsz hH
 generalize Sort.partEqLoop Bz a (a+1) (b-1) d1=T at l3 ⊢
 unfold Cg
 simp[g0,g1,g2,e1,e2,show(a:Int)<n by omega,show(q:Int)<n by omega,show a<n by omega,hq,CU,Aa]
 refine LoopC.le (Ao [(0,Hy n v 0),(1,iv a),(4,CT),(11,iv (a+1:Nat)),(12,iv (b-1:Nat))] (by simp)) ?_
 refine l3 _ _ (fun p=>by by_cases hp:p=[]<;>simp[hp,hs,Aa]) fun H' xx st hT t1 t2 t3=>?_
 simp
 exact AH rfl rfl hT
abbrev AcQ:List UInt8:=[0,1,2,2,3,3,3,3,4,4,4,4,4,4,4,4,5,5,5,5,5,5,5,5,5,5,5,5,5,5,5,5,6,6,6,6,6,6,6,6,6,6,6,6,6,6,6,6,6,6,6,6,6,6,6,6,6,6,6,6,6,6,6,6,7,7,7,7,7,7,7,7,7,7,7,7,7,7,7,7,7,7,7,7,7,7,7,7,7,7,7,7,7,7,7,7,7,7,7,7,7,7,7,7,7,7,7,7,7,7,7,7,7,7,7,7,7,7,7,7,7,7,7,7,7,7,7,7,8,8,8,8,8,8,8,8,8,8,8,8,8,8,8,8,8,8,8,8,8,8,8,8,8,8,8,8,8,8,8,8,8,8,8,8,8,8,8,8,8,8,8,8,8,8,8,8,8,8,8,8,8,8,8,8,8,8,8,8,8,8,8,8,8,8,8,8,8,8,8,8,8,8,8,8,8,8,8,8,8,8,8,8,8,8,8,8,8,8,8,8,8,8,8,8,8,8,8,8,8,8,8,8,8,8,8,8,8,8,8,8,8,8,8,8,8,8,8,8,8,8,8,8,8,8,8,8]
set_option maxRecDepth 100000 in
theorem Wr (n:Nat) (h:n<256):AcQ[n]? = some (UInt8.ofNat (Sort.bitsLen n))∧Sort.bitsLen n≤8:=by
 have:∀ n:Fin 256,AcQ[n.val]? = some (UInt8.ofNat (Sort.bitsLen n.val))∧Sort.bitsLen n.val≤8:=by decide +kernel
 exact this ⟨n,h⟩
set_option maxRecDepth 100000 in
theorem fY (n:Nat) (hn:n<256):G.Spec Tryz.prog 280 [uv n] (iv (Sort.bitsLen n)):=by
 refine Aj Sf (by simp) fun w0 I0=>?_
 unfold KY
 simp[show ¬ (4294967296:Int)≤n by omega]
 rw[J5.eq_1]
 simp[show ¬ (65536:Int)≤n by omega]
 rw[JT.eq_1]
 obtain⟨ht,hb⟩:=Wr n hn
 have hx:(UInt8.ofNat (Sort.bitsLen n)).toNat=Sort.bitsLen n:=by rw[UInt8.toNat_ofNat'];exact Nat.mod_eq_of_lt (by omega)
 generalize UInt8.ofNat (Sort.bitsLen n)=y at ht hx
 have e1:IntKind.i64.wrap (Sort.bitsLen n:Int)=(Sort.bitsLen n:Int):=Af (by omega) (by omega)
 have e2:IntKind.u8.wrap (n:Int)=(n:Int):=by rw[IntKind.wrap_u8];omega
 simp[show ¬ (256:Int)≤n by omega,ht,e2]
 rw[hx,e1,e1]
 exact Ab rfl
theorem RF (n:Nat) (hn:n<256):G.Spec Tryz.prog 265 [uv n] (iv (Sort.bitsLen n)):=by
 refine Aj UY (by simp) fun w0 I0=>?_
 unfold MY
 simp
 refine Ae (fY n hn) rfl ?_
 simp
 exact Ab rfl
theorem ZJ (n:Nat) (hn:n<256):G.Spec Tryz.prog 282 [iv n] (uv (1 <<< Sort.bitsLen n:Nat)):=by
 refine Aj L8 (by simp) fun w0 I0=>?_
 obtain⟨_,hb⟩:=Wr n hn
 have e1:IntKind.u64.wrap (n:Int)=(n:Int):=BI (by omega) (by omega)
 have h2:(2:Nat) ^ Sort.bitsLen n≤2 ^ 8:=Nat.pow_le_pow_right (by omega) hb
 have h3:((2 ^ Sort.bitsLen n:Nat):Int)<18446744073709551616:=Int.ofNat_lt.2 (Nat.lt_of_le_of_lt h2 (by decide))
 have e2:IntKind.u64.wrap (2 ^ min (Sort.bitsLen n) IntKind.u64.bits:Int)=((1 <<< Sort.bitsLen n:Nat):Int):=by
  rw[show min (Sort.bitsLen n) IntKind.u64.bits=Sort.bitsLen n from Nat.min_eq_left (Nat.le_trans hb (by decide)),Nat.one_shiftLeft]
  rw[show((2:Int) ^ Sort.bitsLen n)=((2 ^ Sort.bitsLen n:Nat):Int) by simp]
  exact BI (Int.natCast_nonneg _) h3
 generalize hz:((1 <<< Sort.bitsLen n:Nat):Int)=z at e2 ⊢
 unfold Gy
 simp[e1]
 refine Ae (RF n hn) rfl ?_
 simp[e2]
 exact Ab rfl
theorem AcM (s:UInt64) (k:UInt64) (hk:k.toNat<64):bits .xor .u64 (s.toNat:Int) (IntKind.u64.wrap ((s.toNat:Int)*2 ^ k.toNat))=((s ^^^ (s <<< k)).toNat:Int):=by
 have h:=s.toNat_lt
 have e:IntKind.u64.wrap ((s.toNat:Int)*2 ^ k.toNat)=((s <<< k).toNat:Int):=by
  rw[IntKind.wrap_u64,UInt64.toNat_shiftLeft,Nat.mod_eq_of_lt hk,Nat.shiftLeft_eq]
  rw[show((s.toNat:Int)*2 ^ k.toNat)=((s.toNat*2 ^ k.toNat:Nat):Int) by simp]
  omega
 rw[e,bits_xor_u64_nat _ _ h (s <<< k).toNat_lt,UInt64.toNat_xor]
theorem AhU (s:UInt64) (k:UInt64) (hk:k.toNat<64):bits .xor .u64 (s.toNat:Int) ((s.toNat:Int) / 2 ^ k.toNat)=((s ^^^ (s >>> k)).toNat:Int):=by
 have h:=s.toNat_lt
 have e:(s.toNat:Int) / 2 ^ k.toNat=((s >>> k).toNat:Int):=by
  rw[UInt64.toNat_shiftRight,Nat.mod_eq_of_lt hk,Nat.shiftRight_eq_div_pow]
  simp
 rw[e,bits_xor_u64_nat _ _ h (s >>> k).toNat_lt,UInt64.toNat_xor]
def ceU (s:UInt64):Fam:=⟨fun r p=>if p=[] then ⟨1,.cells [uv s.toNat]⟩ else ⟨0,.none⟩,fun {g δ r r'} hg hd p=>by
  by_cases h1:p=[]
  ·rw[if_pos h1]
   exact Fam.cells_ren (by simp[A.renL,A.ren])
  ·rw[if_neg h1];rfl,fun {D r} hD p=>by
  by_cases h1:p=[]
  ·rw[if_pos h1];simp[Ob.refs,A.refsL,A.refs]
  ·rw[if_neg h1];trivial⟩
@[simp] theorem AiO {s:UInt64} {r:Nat} {p:Nm}:(ceU s).F r p=if p=[] then ⟨1,.cells [uv s.toNat]⟩ else ⟨0,.none⟩:=rfl
theorem bI (s:UInt64):A4 Tryz.prog 283 (fun r=>[zw r]) (ceU s) (fun _=>uv (Sort.xorNext s).toNat) (ceU (Sort.xorNext s)):=by
 refine Ax Mq (by simp) (Ag AN Am) AE fun w0 I0 M0 m0=>?_
 unfold Hm
 simp[Aa]
 have x1:bits .xor .u64 (s.toNat:Int) (IntKind.u64.wrap ((s.toNat:Int)*2 ^ min 13 IntKind.u64.bits))=((s ^^^ (s <<< 13)).toNat:Int):=AcM s 13 (by decide)
 rw[x1]
 have x2:=fun r:UInt64=>AhU r 7 (by decide)
 have x2':∀ r:UInt64,bits .xor .u64 (r.toNat:Int) ((r.toNat:Int) / 2 ^ min 7 IntKind.u64.bits)=((r ^^^ (r >>> 7)).toNat:Int):=fun r=>x2 r
 rw[x2']
 have x3:∀ r:UInt64,bits .xor .u64 (r.toNat:Int) (IntKind.u64.wrap ((r.toNat:Int)*2 ^ min 17 IntKind.u64.bits))=((r ^^^ (r <<< 17)).toNat:Int):=fun r=>AcM r 17 (by decide)
 rw[x3]
 exact AH rfl rfl (fun p=>by by_cases hp:p=[]<;>simp[hp,Aa,Sort.xorNext])
theorem NP (a l m:Nat) (st:UInt64 × Array Sc) (i:Nat):(Sort.breakStep a l m st i).2.size=st.2.size:=by
 unfold Sort.breakStep
 exact FE
theorem se {n a l k:Nat} (hn:n≤900) (hal:a+l≤n) (h13:13≤l) (h16:l≤49) (hk:k=Sort.bitsLen l) {i:Nat} (hi:i<n) (hib:i≤a+l / 4*2+1) {r:UInt64} {d:Array Sc} {H:Hp} (hd:d.size=n) (hH:∀ p,H (0::p)=(A7 d v).F 0 p) (hG:∀ p,H (1::p)=(ceU r).F 1 p)
  (hq:∀ H':Hp,(∀ p,H' (0::p)=(A7 (Sort.breakStep a l (1 <<< k) (r,d) i).2 v).F 0 p)→(∀ p,H' (1::p)=(ceU (Sort.breakStep a l (1 <<< k) (r,d) i).1).F 1 p)→LoopC (EP Tryz.prog w0 I0 M0 n0 m0) Av Q ⟨lk [(0,Hy n v 0),(1,iv a),(8,iv l),(9,zw 1),(10,uv (1 <<< k:Nat)),(11,iv (i+1:Nat))],H'⟩) :
  LoopC (EP Tryz.prog w0 I0 M0 n0 m0) Av Q ⟨lk [(0,Hy n v 0),(1,iv a),(8,iv l),(9,zw 1),(10,uv (1 <<< k:Nat)),(11,iv i)],H⟩:=by
 have hN:=bI r
 obtain⟨m,hm⟩:∃ m,m=(1 <<< k:Nat):=⟨_,rfl⟩
 obtain⟨q4,hq4⟩:∃ q4,q4=l / 4:=⟨_,rfl⟩
 have e1:IntKind.i64.wrap ((l:Int).tdiv 4)=(q4:Int):=by rw[Int.tdiv_eq_ediv_of_nonneg (by omega),Af (by omega) (by omega)];omega
 have e1':IntKind.i64.wrap ((l:Int) / 4)=(q4:Int):=An
 have e2:IntKind.i64.wrap ((q4:Int)*2)=(q4:Int)*2:=Af (by omega) (by omega)
 have e3:IntKind.i64.wrap ((a:Int)+(q4:Int)*2)=(a:Int)+(q4:Int)*2:=Af (by omega) (by omega)
 have e4:IntKind.i64.wrap ((a:Int)+(q4:Int)*2+1)=(a:Int)+(q4:Int)*2+1:=Af (by omega) (by omega)
 rw[← hm] at hq ⊢
 refine Ad Ah Av.eq_1 ?_
 simp[e1,e1',e2,e3,e4,show(i:Int)≤(a:Int)+(q4:Int)*2+1 by omega]
 refine Au 1 hN hG (by simp) (by simp) ?_
 simp
 have hX:=(Sort.xorNext r).toNat_lt
 have hml:m≤2*l:=by
  rw[hm,hk,Nat.one_shiftLeft]
  exact Sort.two_pow_bitsLen_le (by omega)
 have hm1:1≤m:=by
  rw[hm,Nat.one_shiftLeft]
  exact Nat.one_le_two_pow
 obtain⟨o,ho⟩:∃ o,o=(Sort.xorNext r).toNat &&& (m-1):=⟨_,rfl⟩
 have hol:o≤m-1:=by rw[ho];exact Nat.and_le_right
 have eA:bits .and .u64 ((Sort.xorNext r).toNat:Int) (IntKind.u64.wrap ((m:Int)-1))=(o:Int):=by
  rw[show IntKind.u64.wrap ((m:Int)-1)=((m-1:Nat):Int) by rw[BI (by omega) (by omega)];omega,bits_and_u64_nat _ _ hX (by omega),← ho]
 have eB:IntKind.i64.wrap (o:Int)=(o:Int):=Af (by omega) (by omega)
 have e5:IntKind.i64.wrap ((i:Int)+1)=((i+1:Nat):Int):=An
 have fin:∀ o2:Nat,o2<l→Sort.breakStep a l m (r,d) i=(Sort.xorNext r,Sort.swp d i (a+o2))→WPC (EP Tryz.prog w0 I0 M0 n0 m0) Bw
   (Bu 1 (DB (WPC (EP Tryz.prog w0 I0 M0 n0 m0) (.keep [0,1,8,9,10,11] (.reg [co (some 36) (.move (.tmp 11)) none,co (some 37) (.binOp .add 3 (.tmp 36) (.const (.int .i64 1)) 3) none,co (some 11) (.assign (.tmp 37)) none] [0,1,8,9,10,11]))
    (DB (LoopC (EP Tryz.prog w0 I0 M0 n0 m0) Av Q) Q)) (DB (LoopC (EP Tryz.prog w0 I0 M0 n0 m0) Av Q) Q)))
   ⟨lk [(0,Hy n v 0),(1,iv a),(8,iv l),(9,zw 1),(10,uv m),(11,iv i),(12,iv o2)],ov 1 ((ceU (Sort.xorNext r)).F 1) H⟩:=fun o2 ho2 hst=>by
  have h0:=hH []
  simp only[K5] at h0
  have e6:IntKind.i64.wrap ((a:Int)+(o2:Int))=((a+o2:Nat):Int):=An
  have g1:=Br (d:=d) (i:=i) (by omega)
  have g0:=Br (d:=d) (i:=a+o2) (by omega)
  have g2:=HV (d:=d) (i:=i) (j:=a+o2) (by omega) (by omega)
  have hs:=Ln (d:=d) (i:=i) (j:=a+o2)
  rw[hst] at hq
  generalize d[i]! = x at g1 g2 hs
  generalize d[a+o2]! = y at g0 g2 hs
  have hj:((a+o2:Nat):Int)<n:=by omega
  have hj':a+o2<n:=by omega
  generalize Sort.swp d i (a+o2)=d2 at hs hq
  generalize a+o2=jj at e6 g0 g2 hs hj hj'
  rw[Bw.eq_1]
  simp[e6,h0,g0,g1,g2,e5,show(i:Int)<n by omega,hi,hj,hj',CU]
  exact hq _ (fun p=>by by_cases hp:p=[]<;>simp[hp,hs,Aa,hH]) (fun p=>by simp[Aa])
 simp only[eA,eB]
 have hbs:Sort.breakStep a l m (r,d) i=(Sort.xorNext r,Sort.swp d i (a+(if o ≥ l then o-l else o))):=by
  unfold Sort.breakStep
  simp only[← ho]
 by_cases hc:l≤o
 ·rw[if_pos (show o ≥ l from hc)] at hbs
  refine⟨fun _=>?_,fun h=>by omega⟩
  have e7:IntKind.i64.wrap ((o:Int)-l)=((o-l:Nat):Int):=An
  rw[e7]
  exact fin (o-l) (by omega) hbs
 ·rw[if_neg hc] at hbs
  refine⟨fun h=>by omega,fun _=>?_⟩
  exact fin o (by omega) hbs
theorem fU (d:Array Sc) (v a b:Nat) (hn:d.size≤900) (hab:a+13≤b) (hb:b≤d.size) (hl:b-a<50):A4 Tryz.prog 273 (fun r=>[Hy d.size v r,iv a,iv b,CT]) (A7 d v) (fun _=>.tup []) (A7 (Sort.breakPatterns d a b) v):=by
 refine Ax Fh (by simp) (Ag (PK _ _) (Ag AE (Ag AE (Ag Ea Am)))) (Bn Am) fun w0 I0 M0 m0=>?_
 obtain⟨n,hnn⟩:∃ n,d.size=n:=⟨_,rfl⟩
 rw[hnn] at hn hb ⊢
 obtain⟨l,hll⟩:∃ l,l=b-a:=⟨_,rfl⟩
 obtain⟨q4,hq4⟩:∃ q4,q4=l / 4:=⟨_,rfl⟩
 have e0:IntKind.i64.wrap ((b:Int)-a)=(l:Int):=An
 have e1:IntKind.i64.wrap ((l:Int).tdiv 4)=(q4:Int):=by rw[Int.tdiv_eq_ediv_of_nonneg (by omega),Af (by omega) (by omega)];omega
 have e1':IntKind.i64.wrap ((l:Int) / 4)=(q4:Int):=An
 have e2:IntKind.i64.wrap ((q4:Int)*2)=(q4:Int)*2:=Af (by omega) (by omega)
 have e3:IntKind.i64.wrap ((a:Int)+(q4:Int)*2)=(a:Int)+(q4:Int)*2:=Af (by omega) (by omega)
 have e4:IntKind.i64.wrap ((a:Int)+(q4:Int)*2-1)=((a+q4*2-1:Nat):Int):=An
 have e5:IntKind.i64.wrap ((a:Int)+(q4:Int)*2+1)=(a:Int)+(q4:Int)*2+1:=Af (by omega) (by omega)
 have eu:IntKind.u64.wrap (l:Int)=(l:Int):=BI (by omega) (by omega)
 have hNx:=ZJ l (by omega)
 have ho:(UInt64.ofNat l).toNat=l:=by rw[UInt64.toNat_ofNat'];exact Nat.mod_eq_of_lt (by omega)
 unfold Sort.breakPatterns
 simp only[← hll,ge_iff_le,if_pos (show 8≤l by omega),← hq4]
 have st:=@se (n0:=67) w0 I0 M0 m0
 generalize hid:a+q4*2-1=id0 at e4 ⊢
 unfold Cs
 generalize hmm:(1 <<< Sort.bitsLen l:Nat)=mm at hNx ⊢
 simp[e0,eu,show(8:Int)≤l by omega,Aa]
 refine Ae hNx rfl ?_
 simp[e1,e1',e2,e3,e4]
 rw[← hmm]
 refine st hn (by omega) (by omega) (by omega) rfl (i:=id0) (r:=UInt64.ofNat l) (d:=d) (by omega) (by omega) hnn (fun p=>by simp) (fun p=>?_) fun H1 f1 g1=>?_
 ·by_cases hp:p=[]
  ·subst hp;simp[HM,ho]
  ·simp[HM,hp,Ne.symm hp]
 have s1:=NP a l (1 <<< Sort.bitsLen l) (UInt64.ofNat l,d) id0
 simp only[hnn] at s1
 generalize Sort.breakStep a l (1 <<< Sort.bitsLen l) (UInt64.ofNat l,d) id0=S1 at f1 g1 s1 ⊢
 refine st hn (by omega) (by omega) (by omega) rfl (i:=id0+1) (r:=S1.1) (d:=S1.2) (by omega) (by omega) s1 f1 g1 fun H2 f2 g2=>?_
 have s2:=NP a l (1 <<< Sort.bitsLen l) (S1.1,S1.2) (id0+1)
 simp only[s1] at s2
 have eS:(S1.1,S1.2)=S1:=rfl
 rw[eS] at f2 g2 s2
 generalize Sort.breakStep a l (1 <<< Sort.bitsLen l) S1 (id0+1)=S2 at f2 g2 s2 ⊢
 refine st hn (by omega) (by omega) (by omega) rfl (i:=id0+1+1) (r:=S2.1) (d:=S2.2) (by omega) (by omega) s2 f2 g2 fun H3 f3 g3=>?_
 refine Ad Ah Av.eq_1 ?_
 have big:¬ ((id0+1+1+1:Nat):Int)≤(a:Int)+(q4:Int)*2+1:=by omega
 generalize id0+1+1+1=id3 at big ⊢
 simp[e1,e1',e2,e3,e5,big]
 exact AQ rfl rfl (fun p=>f3 p)
end Go.Proofs.YtbjmaoedheiigaaGreat
