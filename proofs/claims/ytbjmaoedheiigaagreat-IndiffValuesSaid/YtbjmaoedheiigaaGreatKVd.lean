/-
 Texts,merged,without what is not reached.
-/
import Derived.Test.YtbjmaoedheiigaaGreatKVc
set_option linter.unusedSimpArgs false
set_option linter.unusedVariables false
namespace Go.Proofs.YtbjmaoedheiigaaGreat
open Go Go.G Go.Proofs
abbrev ws (l:List Int):A:=.sl false (l.map uv)
abbrev TI (l:List (List Int)):A:=.sl false (l.map ws)
@[simp] theorem AfU (l:List Int):Dq 1 (l.map uv)=true:=by simp[Dq]
@[simp] theorem Agf (l:List (List Int)):Dq 1 (l.map ws)=true:=by simp[Dq]
theorem PY (f:Bool) (l:List Int) (h:l.length*8≤140737488355328):SpecB Tryz.prog 63 [.sl f (l.map uv)] (ws l):=by
 cases l with
 |nil=>
  refine lh (fun cap=>?_) (fun a cap=>?_)
  ·refine NT CN (by simp) fun w0 I0=>?_
   unfold BR
   simp
   exact qz
  ·refine NT CN (by simp) fun w0 I0=>?_
   unfold BR
   simp
   exact W9 (sz:=1) (xs:=[]) (by simp) (by simp) (by simp)
 |cons x l=>
  refine NT CN (by simp) fun w0 I0=>?_
  unfold BR
  simp at h ⊢
  refine⟨h,?_⟩
  have:=W9 (H:=HM [([0],{ u:=1,ob:=Ob.arr 1 (uv x::l.map uv) })]) (o:=[0]) (u:=1) (off:=0) (len:=l.length+1) (sz:=1) (xs:=uv x::l.map uv) (by simp) (by simp) (by simp[A.flat1,AI])
  simp[AI] at this
  exact this
theorem tW {n:Nat} {w0:World} {I0:Nat→Prop} {Q:Exit→Sta→Prop} {l:List (List Int)} (hl:l.length*24≤140737488355328) (hb:∀ x,x ∈ l→x.length*8≤140737488355328):∀ (k i u:Nat),i+k=l.length →
  (∀ u',Q (.exit 0) ⟨lk [(3,.pob [0] 1 0),(8,TI l),(9,iv l.length),(10,iv l.length),(11,bv false)],HM [([0],⟨1,.cells [.osl [1] u' 1 0 l.length,iv 0,iv 0,iv 0]⟩),([1],⟨u',.arr 1 (l.map ws)⟩)]⟩) →
  LoopC (cx Tryz.prog w0 I0 n) Ks Q ⟨lk [(3,.pob [0] 1 0),(8,TI l),(9,iv l.length),(10,iv i)],HM [([0],⟨1,.cells [.osl [1] u 1 0 i,iv 0,iv 0,iv 0]⟩),([1],⟨u,.arr 1 ((l.map ws).take i)⟩)]⟩:=by
 intro k
 induction k with
 |zero=>
  intro i u hi hq
  have:i=l.length:=by omega
  subst this
  refine Ad Ah Ks.eq_1 ?_
  simp
  simpa[AI] using hq u
 |succ k ih=>
  intro i u hi hq
  have hlt:i<l.length:=by omega
  refine Ad Ah Ks.eq_1 ?_
  simp[hlt]
  refine Ae (PY false _ (hb _ (Bq _))).spec rfl ?_
  simp
  have h24:(i+1)*24≤140737488355328:=by omega
  refine⟨⟨by omega,h24⟩,?_⟩
  rw[Af (by omega) (by omega)]
  have:=ih (i+1) (u+1) (by omega) hq
  rw[Fj (by simpa using hlt)] at this
  simpa[List.take_take] using this
abbrev zC (l:List (List Int)) (z m u:Int):A:=.pim [TI l,iv z,iv m,iv u]
abbrev mL (l:List (List Int)):A:=zC l 0 0 0
theorem ux {H:Hp} {o:Nm} {u n:Nat} {l:List (List Int)} (h:vr (H o) u=some (1,l.map ws)) (hn:n=l.length):Jd H (.osl o u 1 0 n) (TI l):=by
 subst hn
 have:=Y3 (H:=H) (o:=o) (u:=u) (off:=0) (len:=l.length) (sz:=1) (xs:=l.map ws) (by simpa using h) (by simp) (by simp[AI])
 simp[AI] at this
 exact this
theorem uX (l:List (List Int)) (hl:l.length*24≤140737488355328) (hb:∀ x,x ∈ l→x.length*8≤140737488355328):G.Spec Tryz.prog 43 [TI l] (mL l):=by
 refine Aj gT (by simp) fun w0 I0=>?_
 unfold Wu
 simp
 refine LoopC.le (Bd (d:=[0]) 0 [1] 1 rfl rfl (by simp)) ?_
 simp
 refine tW hl hb l.length 0 1 (by omega) (fun u'=>?_)
 simp
 refine Zo (by simp;rfl) ?_ (by simp)
 simp
 exact⟨ux (by simp) rfl,Ab rfl⟩
theorem cO {z m u:Int} (l:List (List Int)):G.Spec Tryz.prog 257 [zC l z m u] (iv l.length):=by
 refine Aj SQ (by simp) fun w0 I0=>?_
 unfold KQ
 simp
 exact Ab rfl
def seg (l:List (List Int)) (s:Int):Option (List Int):=if 0≤s then l[s.toNat]? else none
def Xz (l:List (List Int)) (s:Int):Nat:=((seg l s).map List.length).getD 0
theorem Ty {l:List (List Int)} {s:Int} (h0:0≤s) (h1:s<l.length):∃ h:s.toNat<l.length,seg l s=some l[s.toNat]:=by
 have:s.toNat<l.length:=by omega
 exact⟨this,by simp[seg,h0,this]⟩
theorem sD {l:List (List Int)} {s:Int} (h:s<0∨l.length≤s):seg l s=none:=by
 unfold seg
 split
 ·rw[List.getElem?_eq_none_iff];omega
 ·rfl
theorem R7 {l:List (List Int)} {s:Int} {g:List Int} (h:seg l s=some g):0≤s∧s<l.length∧∃ h:s.toNat<l.length,g=l[s.toNat]:=by
 unfold seg at h
 split at h
 ·obtain⟨h1,h2⟩:=List.getElem?_eq_some_iff.1 h
  exact⟨by assumption,by omega,h1,h2.symm⟩
 ·cases h
theorem kh {z m u:Int} (l:List (List Int)) (s:Int):G.Spec Tryz.prog 256 [zC l z m u,iv s] (iv (Xz l s)):=by
 refine Aj Qd (by simp) fun w0 I0=>?_
 unfold Kb
 simp
 refine Bj rfl (fun _=>cO (z:=z) (m:=m) (u:=u) l) (fun e=>by simp[e]) rfl ?_
 simp
 refine⟨fun h=>?_,fun h0 h1=>?_⟩
 ·rw[Xz,sD h]
  exact Ab rfl
 ·obtain⟨h2,e1⟩:=Ty h0 h1
  simp[h0,h1,h2]
  rw[Xz,e1]
  exact BS rfl
def Hn (l:List (List Int)) (s a n:Int):Bool:=decide (0≤s∧s<l.length∧0≤a∧0≤n∧a+n≤Xz l s)
theorem V0 {z m u:Int} (l:List (List Int)) (hb:∀ x,x ∈ l→x.length*8≤140737488355328) (s a n:Int):G.Spec Tryz.prog 234 [zC l z m u,iv s,iv a,iv n] (bv (Hn l s a n)):=by
 have hz:Xz l s*8≤140737488355328:=by
  unfold Xz
  cases h:seg l s with
  |none=>simp
  |some g=>
   obtain⟨_,_,h2,rfl⟩:=R7 h
   simpa using hb _ (Bq h2)
 refine Aj Si (by simp) fun w0 I0=>?_
 unfold KT
 simp
 refine Ae (kh l s) rfl ?_
 simp
 refine Em rfl (fun _=>cO (z:=z) (m:=m) (u:=u) l) (fun e=>by simp[e]) rfl ?_
 simp
 refine Bm ?_
 rw[Bool.eq_iff_iff]
 simp only[Bool.and_eq_true,decide_eq_true_eq,Hn]
 constructor
 ·rintro⟨⟨⟨⟨⟨h1,h2⟩,h3⟩,h4⟩,h5⟩,h6⟩
  rw[Af (by omega) (by omega)] at h6
  omega
 ·rintro⟨h1,h2,h3,h4,h5⟩
  rw[Af (by omega) (by omega)]
  omega
def B0 (l:List (List Int)) (s a:Int):Option Int:=if 0≤a then (seg l s).bind fun g=>g[a.toNat]? else none
theorem Wh {l:List (List Int)} {s a:Int}:Hn l s a 1=(B0 l s a).isSome:=by
 rw[Bool.eq_iff_iff]
 simp only[Hn,decide_eq_true_eq]
 simp only[B0,Xz]
 constructor
 ·rintro⟨h1,h2,h3,h4,h5⟩
  obtain⟨h6,e1⟩:=Ty h1 h2
  rw[e1] at h5
  simp at h5
  simp[h3,e1]
  omega
 ·intro h
  split at h
  ·rename_i h3
   cases e:seg l s with
   |none=>simp[e] at h
   |some g=>
    obtain⟨k1,k2,_⟩:=R7 e
    simp[e] at h
    simp
    omega
  ·simp at h
theorem EM {l:List (List Int)} {s a x:Int} (h:B0 l s a=some x):0≤s∧s<l.length∧0≤a∧∃ (h1:s.toNat<l.length) (h2:a.toNat<l[s.toNat].length),x=l[s.toNat][a.toNat]:=by
 unfold B0 at h
 split at h
 ·rename_i h3
  cases e:seg l s with
  |none=>simp[e] at h
  |some g=>
   obtain⟨k1,k2,k3,rfl⟩:=R7 e
   simp only[e,Option.bind_some] at h
   obtain⟨h1,h2⟩:=List.getElem?_eq_some_iff.1 h
   exact⟨k1,k2,h3,k3,h1,h2.symm⟩
 ·cases h
theorem Oi {z m u:Int} (l:List (List Int)) (hb:∀ x,x ∈ l→x.length*8≤140737488355328) (s a:Int):G.Spec Tryz.prog 198 [zC l z m u,iv s,iv a] (.tup [uv ((B0 l s a).getD 0),bv (B0 l s a).isSome]):=by
 refine Aj Sj (by simp) fun w0 I0=>?_
 unfold KB
 simp
 refine Ae (V0 l hb s a 1) rfl ?_
 simp[Wh]
 cases h:B0 l s a with
 |none=>
  simp
  exact Ab rfl
 |some x=>
  obtain⟨k1,k2,k3,k4,k5,rfl⟩:=EM h
  have k6:a<l[s.toNat].length:=by omega
  simp[k1,k2,k3,k4,k5,k6]
  exact Ab rfl
def part (l:List (List Int)) (s a n:Int):List Int:=(((seg l s).getD []).drop a.toNat).take n.toNat
theorem MH {l:List (List Int)} {s a n:Int} (h:Hn l s a n=true):0≤s∧s<l.length∧0≤a∧0≤n∧∃ h:s.toNat<l.length,seg l s=some l[s.toNat]∧a+n≤l[s.toNat].length:=by
 simp only[Hn,decide_eq_true_eq] at h
 obtain⟨h1,h2,h3,h4,h5⟩:=h
 obtain⟨h6,e1⟩:=Ty h1 h2
 rw[Xz,e1] at h5
 exact⟨h1,h2,h3,h4,h6,e1,h5⟩
theorem kf {z m u:Int} (l:List (List Int)) (hb:∀ x,x ∈ l→x.length*8≤140737488355328) (s a n:Int):G.Spec Tryz.prog 245 [zC l z m u,iv s,iv a,iv n] (if Hn l s a n=true then .tup [ws (part l s a n),bv true] else .tup [ws [],bv false]):=by
 refine Aj Qk (by simp) fun w0 I0=>?_
 unfold Kd
 simp
 refine Ae (V0 l hb s a n) rfl ?_
 cases h:Hn l s a n with
 |false=>
  simp
  refine G4 ?_
  simp
  exact⟨Al,Ab rfl⟩
 |true=>
  obtain⟨h1,h2,h3,h4,h5,e1,h6⟩:=MH h
  have hg:=hb _ (Bq h5)
  simp[h1,h2,h5]
  rw[Af (by omega) (by omega)]
  have h7:0≤a+n:=by omega
  have h8:a≤max (a+n) 0:=by omega
  simp[h3,h6,h7,h4,h8]
  have e:List.take ((a+n).toNat-a.toNat) (List.drop a.toNat (List.map uv l[s.toNat]))=(part l s a n).map uv:=by
   rw[part,e1,show(a+n).toNat-a.toNat=n.toNat from by omega]
   simp
  rw[e]
  have hl:(part l s a n).length*8≤140737488355328:=by
   rw[part,e1]
   simp
   omega
  refine Ae (PY _ _ hl).spec rfl ?_
  simp
  exact Ab rfl
def Gx (c:Int):Int:=if c=0 then 0 else if c=1 then 1 else if c=2 then 8 else if c=3 then 16 else if c=4 then 32 else 64
def BK (p:Pt):Option Int:=
 if p.kind=1 then some (p.data+p.ptrs)
 else if p.kind=2∧p.code=7 then some (p.count+1)
 else if p.kind=2∧0≤p.code∧p.code≤6∧0≤p.count∧p.count≤536870911 then some ((p.count*Gx p.code+63) / 64)
 else none
def Zn (p:Pt):Prop:=-9223372036854775808≤p.data+p.ptrs∧p.data+p.ptrs<9223372036854775808∧-9223372036854775808≤p.count+1∧p.count+1<9223372036854775808
set_option maxRecDepth 8000 in
theorem gD (p:Pt) (hs:Zn p):G.Spec Tryz.prog 267 [p.a] (.tup [iv ((BK p).getD 0),bv (BK p).isSome]):=by
 obtain⟨s1,s2,s3,s4⟩:=hs
 refine Aj UT (by simp) fun w0 I0=>?_
 unfold M6
 simp
 refine⟨fun h=>?_,fun h=>⟨fun h2 h3=>?_,fun h2=>?_⟩⟩
 ·rw[Af s1 s2]
  refine Ap rfl ?_
  simp[BK,h]
 ·rw[Af s3 s4]
  refine Ap rfl ?_
  simp[BK,h,h2,h3]
 ·refine Em rfl (fun _=>Uw p.code 6) (fun e=>by simp[e]) rfl ?_
  simp
  refine Em rfl (fun _=>Uw p.count 536870911) (fun e=>by simp[e]) rfl ?_
  simp
  refine⟨fun a1 a2 a3 a4 a5=>?_,fun hn=>?_⟩
  ·obtain⟨k,o,d,q,co,n,sg,b⟩:=p
   simp only at *
   have hc:co=0∨co=1∨co=2∨co=3∨co=4∨co=5∨co=6:=by omega
   rcases hc with rfl | rfl | rfl | rfl | rfl | rfl | rfl
   all_goals
    simp
    simp (disch:=omega) only[Af,Int.tdiv_eq_ediv_of_nonneg]
    refine Ap rfl ?_
    simp[BK,a1,a4,a5,Gx]
  ·refine Ap rfl ?_
   have e:BK p=none:=by
    rw[BK,if_neg h,if_neg (fun ⟨h3,h4⟩=>h2 h3 h4),if_neg (fun ⟨b1,b2,b3,b4,b5⟩=>by have:=hn b1 b2 b3 b4;omega)]
   simp[e]
structure Lc where
 p:Pt
 s:Int
 at_:Int
deriving DecidableEq
def Pt.l (p:Pt):List A:=[iv p.kind,iv p.off,iv p.data,iv p.ptrs,iv p.code,iv p.count,iv p.seg,bv p.dbl]
@[simp] theorem Pt.l_eq (p:Pt):p.l=[iv p.kind,iv p.off,iv p.data,iv p.ptrs,iv p.code,iv p.count,iv p.seg,bv p.dbl]:=rfl
def Pt.zero:Pt:=⟨0,0,0,0,0,0,0,false⟩
def Lc.zero:Lc:=⟨Pt.zero,0,0⟩
abbrev Lc.a (x:Lc):A:=.agg [iv x.p.kind,iv x.p.off,iv x.p.data,iv x.p.ptrs,iv x.p.code,iv x.p.count,iv x.p.seg,bv x.p.dbl,iv x.s,iv x.at_]
def Dr (l:List (List Int)) (x:Lc):Lc × Int:=if Hn l x.s x.at_ ((BK x.p).getD 0)=true then (⟨{ x.p with off:=0 },x.s,x.at_⟩,0) else (Lc.zero,7)
theorem NY (l:List (List Int)) (hb:∀ x,x ∈ l→x.length*8≤140737488355328) (x:Lc) (hs:Zn x.p):G.Spec Tryz.prog 244 [mL l,x.a] (.tup [(Dr l x).1.a,iv (Dr l x).2]):=by
 refine Aj Zl (by simp) fun w0 I0=>?_
 unfold Se
 simp
 refine Ae (gD x.p hs) rfl ?_
 simp
 refine Ae (V0 l hb _ _ _) rfl ?_
 simp
 refine⟨fun h=>?_,fun h=>?_⟩
 ·refine Ap rfl ?_
  simp[Dr,h]
 ·refine Ap rfl ?_
  simp[Dr,h,Lc.zero,Pt.zero]
def He (l:List (List Int)) (p:Pt) (s a:Int):Lc × Int:=
 if p.kind=1∨p.kind=2 then Dr l ⟨p,s,a+1+p.off⟩ else if p.kind=4 then (Lc.zero,9) else (Lc.zero,8)
theorem Po (l:List (List Int)) (hb:∀ x,x ∈ l→x.length*8≤140737488355328) (p:Pt) (s a:Int) (hs:Zn p) (h1:-1000000000000000000≤a) (h2:a≤1000000000000000000) (h3:-1000000000000000000≤p.off) (h4:p.off≤1000000000000000000) :
  G.Spec Tryz.prog 205 [mL l,p.a,iv s,iv a] (.tup [(He l p s a).1.a,iv (He l p s a).2]):=by
 refine Aj gn (by simp) fun w0 I0=>?_
 unfold Wq
 simp
 have go:p.kind=1∨p.kind=2→He l p s a=Dr l ⟨p,s,a+1+p.off⟩:=fun h=>by rw[He,if_pos h]
 refine⟨fun h=>?_,fun h=>?_⟩
 ·have hd:decide (p.kind=1)=true:=by simp[h]
  rw[N4.eq_1]
  simp[hd]
  simp (disch:=omega) only[Af]
  refine Ae (NY l hb ⟨p,s,a+1+p.off⟩ hs) rfl ?_
  simp
  rw[go (.inl h)]
  exact Ab rfl
 ·rw[N4.eq_1]
  simp
  refine⟨fun h2=>?_,fun h2=>⟨fun h4=>?_,fun h4=>?_⟩⟩
  ·simp (disch:=omega) only[Af]
   refine Ae (NY l hb ⟨p,s,a+1+p.off⟩ hs) rfl ?_
   simp
   rw[go (.inr h2)]
   exact Ab rfl
  ·refine Ap rfl ?_
   simp[He,h4,Lc.zero,Pt.zero]
  ·refine Ap rfl ?_
   simp[He,h,h2,h4,Lc.zero,Pt.zero]
def aB (l:List (List Int)):Prop:=∀ x,x ∈ l→∀ y,y ∈ x→0≤y∧y<18446744073709551616
theorem LW {w:Int} (h0:0≤w) (h1:w<18446744073709551616):Zn (DT w):=by
 unfold Zn DT
 repeat' split
 all_goals simp only
 all_goals omega
theorem MA {w:Int} (h0:0≤w) (h1:w<18446744073709551616):-536870912≤(DT w).off∧(DT w).off≤536870912∧0≤(DT w).seg∧(DT w).seg<4294967296:=by
 obtain⟨o1,o2,_⟩:=jk w
 unfold DT
 repeat' split
 all_goals simp only
 all_goals omega
theorem DY {l:List (List Int)} (hw:aB l) {s a x:Int} (h:B0 l s a=some x):0≤x∧x<18446744073709551616:=by
 obtain⟨_,_,_,h1,h2,rfl⟩:=EM h
 exact hw _ (Bq h1) _ (Bq h2)
def Ey (l:List (List Int)) (s a:Int):Lc × Int:=
 match B0 l s a,B0 l s (a+1) with
 |some v,some w=>
  if (DT v).kind ≠ 3∨(DT v).dbl=true then (Lc.zero,8)
  else if (DT w).kind=4 then (Lc.zero,9)
  else if ((DT w).kind ≠ 1∧(DT w).kind ≠ 2)∨(DT w).off ≠ 0 then (Lc.zero,8)
  else Dr l ⟨DT w,(DT v).seg,(DT v).off⟩
 |_,_=>(Lc.zero,7)
theorem ns {l:List (List Int)} {s a:Int}:Hn l s a 2=((B0 l s a).isSome&&(B0 l s (a+1)).isSome):=by
 rw[← Wh,← Wh,Bool.eq_iff_iff]
 simp only[Hn,Bool.and_eq_true,decide_eq_true_eq]
 omega
theorem pY {l:List (List Int)} {s a v w:Int} (h1:B0 l s a=some v) (h2:B0 l s (a+1)=some w):part l s a 2=[v,w]:=by
 obtain⟨k1,k2,k3,k4,k5,rfl⟩:=EM h1
 obtain⟨_,_,k6,_,k7,rfl⟩:=EM h2
 obtain⟨_,e⟩:=Ty k1 k2
 have e1:(a+1).toNat=a.toNat+1:=by omega
 simp only[e1] at k7
 rw[part,e]
 simp only[Option.getD_some,e1]
 rw[List.drop_eq_getElem_cons k5,List.drop_eq_getElem_cons k7]
 rfl
theorem bf (l:List (List Int)) (hb:∀ x,x ∈ l→x.length*8≤140737488355328) (hw:aB l) (s a:Int) :
  G.Spec Tryz.prog 206 [mL l,iv s,iv a] (.tup [(Ey l s a).1.a,iv (Ey l s a).2]):=by
 refine Aj Y2 (by simp) fun w0 I0=>?_
 unfold Su
 simp
 refine Ae (kf l hb s a 2) rfl ?_
 rw[ns]
 cases h1:B0 l s a with
 |none=>
  simp
  refine Ap rfl ?_
  simp[Ey,h1,Lc.zero,Pt.zero]
 |some v=>
  cases h2:B0 l s (a+1) with
  |none=>
   simp
   refine Ap rfl ?_
   simp[Ey,h1,h2,Lc.zero,Pt.zero]
  |some w=>
   obtain⟨v0,v1⟩:=DY hw h1
   obtain⟨w0',w1⟩:=DY hw h2
   rw[pY h1 h2]
   simp
   refine Ae (Iw v0 v1) rfl ?_
   simp
   refine Ae (Iw w0' w1) rfl ?_
   simp
   have hs:=LW w0' w1
   generalize hv:DT v=p
   generalize hq:DT w=q at hs
   have e:Ey l s a=if p.kind ≠ 3∨p.dbl=true then (Lc.zero,8) else if q.kind=4 then (Lc.zero,9) else if (q.kind ≠ 1∧q.kind ≠ 2)∨q.off ≠ 0 then (Lc.zero,8) else Dr l ⟨q,p.seg,p.off⟩:=by
    simp only[Ey,h1,h2,hv,hq]
   refine⟨fun h=>?_,fun a1 a2=>⟨fun h3=>?_,fun h3=>⟨fun h4=>?_,fun h4 h5=>?_⟩⟩⟩
   ·rw[e,if_pos h]
    exact Ab rfl
   ·rw[e,if_neg (by simp[a1,a2]),if_pos h3]
    exact Ab rfl
   ·rw[e,if_neg (by simp[a1,a2]),if_neg h3,if_pos (by simpa using h4)]
    exact Ab rfl
   ·refine Ae (NY l hb ⟨q,p.seg,p.off⟩ hs) rfl ?_
    simp
    rw[e,if_neg (by simp[a1,a2]),if_neg h3,if_neg (by simp[h5];omega)]
    exact Ab rfl
def C9 (l:List (List Int)) (s a:Int):Lc × Int:=
 match B0 l s a with
 |none=>(Lc.zero,7)
 |some w=>
  if (DT w).kind=0 then (Lc.zero,0)
  else if (DT w).kind ≠ 3 then He l (DT w) s a
  else if (DT w).dbl=true then Ey l (DT w).seg (DT w).off
  else match B0 l (DT w).seg (DT w).off with
   |none=>(Lc.zero,7)
   |some v=>He l (DT v) (DT w).seg (DT w).off
theorem cK (l:List (List Int)) (hb:∀ x,x ∈ l→x.length*8≤140737488355328) (hw:aB l) (s a:Int) :
  G.Spec Tryz.prog 157 [mL l,iv s,iv a] (.tup [(C9 l s a).1.a,iv (C9 l s a).2]):=by
 refine Aj Z0 (by simp) fun w0 I0=>?_
 unfold RC
 simp
 refine Ae (Oi l hb s a) rfl ?_
 simp
 cases h1:B0 l s a with
 |none=>
  simp
  refine Ap rfl ?_
  simp[C9,h1,Lc.zero,Pt.zero]
 |some w=>
  obtain⟨k1,k2,k3,k4,k5,_⟩:=EM h1
  have hla:=hb _ (Bq k4)
  obtain⟨v0,v1⟩:=DY hw h1
  simp
  refine Ae (Iw v0 v1) rfl ?_
  simp
  have hs:=LW v0 v1
  obtain⟨o1,o2,o3,o4⟩:=MA v0 v1
  generalize hv:DT w=p at *
  have e:C9 l s a=if p.kind=0 then (Lc.zero,0) else if p.kind ≠ 3 then He l p s a else if p.dbl=true then Ey l p.seg p.off else match B0 l p.seg p.off with | none=>(Lc.zero,7) | some v=>He l (DT v) p.seg p.off:=by
   simp only[C9,h1,hv]
  refine⟨fun h0=>?_,fun h0=>⟨fun h3=>⟨fun hd=>?_,fun hd=>?_⟩,fun h3=>?_⟩⟩
  ·rw[e,if_pos h0]
   exact Ab rfl
  ·refine Ae (bf l hb hw p.seg p.off) rfl ?_
   simp
   rw[e,if_neg h0,if_neg (by simp[h3]),if_pos hd]
   exact Ab rfl
  ·rw[if_neg h0,if_neg (by simp[h3]),if_neg (by simp[hd])] at e
   refine Ae (Oi l hb p.seg p.off) rfl ?_
   simp
   cases h2:B0 l p.seg p.off with
   |none=>
    simp[h2] at e
    simp
    rw[e]
    exact Ab rfl
   |some v=>
    simp[h2] at e
    simp
    obtain⟨j0,j1⟩:=DY hw h2
    obtain⟨q1,q2,q3,q4⟩:=MA j0 j1
    refine Ae (Iw j0 j1) rfl ?_
    simp
    refine Ae (Po l hb (DT v) p.seg p.off (LW j0 j1) (by omega) (by omega) (by omega) (by omega)) rfl ?_
    simp
    rw[e]
    exact Ab rfl
  ·refine Ae (Po l hb p s a hs (by omega) (by omega) (by omega) (by omega)) rfl ?_
   simp
   rw[e,if_neg h0,if_pos (by simpa using h3)]
   exact Ab rfl
theorem IB {n:Nat} {w0:World} {I0:Nat→Prop} {p:Pt} {m r:Int} (m0:0<m) (m1:m≤64) (n0:0≤p.count) (n1:p.count<536870912) (hr:r=if 0<p.count % m then p.count / m+1 else p.count / m) :
  WPC (cx Tryz.prog w0 I0 n) Ga (RY Tryz.prog [.tmp 2] (iv r)) ⟨lk [(1,.pob [0] 1 0),(3,iv m)],HM [([0],⟨1,.cells [iv p.kind,iv p.off,iv p.data,iv p.ptrs,iv p.code,iv p.count,iv p.seg,bv p.dbl]⟩)]⟩:=by
 have hm:¬ m=0:=by omega
 have d1:0≤p.count / m:=Int.ediv_nonneg n0 (by omega)
 have d2:p.count / m≤p.count:=Int.ediv_le_self _ n0
 unfold Ga
 simp[hm,Int.tmod_eq_emod_of_nonneg n0,Int.tdiv_eq_ediv_of_nonneg n0]
 simp (disch:=omega) only[Af]
 refine⟨fun h=>?_,fun h=>?_⟩
 ·rw[hr,if_pos h]
  exact Ab rfl
 ·rw[hr,if_neg (by omega)]
  exact Ab rfl
theorem XI (p:Pt) (hs:Zn p):G.Spec Tryz.prog 195 [p.a] (iv ((BK p).getD (-1))):=by
 obtain⟨s1,s2,s3,s4⟩:=hs
 refine Aj QJ (by simp) fun w0 I0=>?_
 unfold JJ
 simp
 have go:p.kind=2→0≤p.code→p.code≤6→0≤p.count→p.count<536870912→(BK p).getD (-1)=(p.count*Gx p.code+63) / 64:=fun h2 b1 b2 b3 b4=>by
  rw[BK,if_neg (by omega),if_neg (by omega),if_pos ⟨h2,b1,b2,b3,by omega⟩]
  rfl
 refine⟨fun h=>?_,fun h=>⟨fun h2=>⟨fun h7=>?_,fun h7=>⟨fun hx=>?_,fun b1 b2 b3 b4=>⟨fun c0=>?_,fun c0=>⟨fun c1=>?_,fun c1=>⟨fun c2=>?_,fun c2=>⟨fun c3=>?_,fun c3=>⟨fun c4=>?_,fun c4=>?_⟩⟩⟩⟩⟩⟩⟩,fun h2=>?_⟩⟩
 ·rw[Af s1 s2]
  exact BS (by simp[BK,h])
 ·rw[Af s3 s4]
  exact BS (by simp[BK,h2,h7])
 ·refine BS ?_
  rw[BK,if_neg h,if_neg (by omega),if_neg (by omega)]
  rfl
 ·refine BS ?_
  rw[go h2 b1 b2 b3 b4,c0]
  simp[Gx]
 ·refine IB (m:=64) (by omega) (by omega) b3 b4 ?_
  rw[go h2 b1 b2 b3 b4,c1,show Gx 1=1 from rfl]
  split<;>omega
 ·refine IB (m:=8) (by omega) (by omega) b3 b4 ?_
  rw[go h2 b1 b2 b3 b4,c2,show Gx 2=8 from rfl]
  split<;>omega
 ·refine IB (m:=4) (by omega) (by omega) b3 b4 ?_
  rw[go h2 b1 b2 b3 b4,c3,show Gx 3=16 from rfl]
  split<;>omega
 ·refine IB (m:=2) (by omega) (by omega) b3 b4 ?_
  rw[go h2 b1 b2 b3 b4,c4,show Gx 4=32 from rfl]
  split<;>omega
 ·refine IB (m:=1) (by omega) (by omega) b3 b4 ?_
  have h56:p.code=5∨p.code=6:=by omega
  rw[go h2 b1 b2 b3 b4]
  have hb:Gx p.code=64:=by rcases h56 with h | h<;>rw[h]<;>rfl
  rw[hb];split<;>omega
 ·refine BS ?_
  rw[BK,if_neg h,if_neg (by omega),if_neg (by omega)]
  rfl
theorem IC (l:List (List Int)) (s a:Int):G.Spec Tryz.prog 142 [TI l,iv s,iv a] (bv (B0 l s a).isSome):=by
 refine Aj Tx (by simp) fun w0 I0=>?_
 unfold LP
 simp
 by_cases h:0≤s∧s<l.length∧0≤a
 ·obtain⟨h0,h1,h2⟩:=h
  obtain⟨h3,e1⟩:=Ty h0 h1
  simp[h0,h1,h2,h3]
  refine Bm ?_
  rw[Bool.eq_iff_iff]
  simp[B0,h2,e1]
 ·have hd:(decide (0≤s)&&decide (s<l.length)&&decide (0≤a))=false:=by
   rw[Bool.eq_false_iff]
   intro h'
   simp at h'
   exact h ⟨h'.1.1,h'.1.2,h'.2⟩
  simp[hd]
  refine⟨fun h0 h1 h2=>absurd ⟨h0,h1,h2⟩ h,?_⟩
  refine Bm ?_
  cases e:B0 l s a with
  |none=>rfl
  |some x=>
   obtain⟨k1,k2,k3,_⟩:=EM e
   exact absurd ⟨k1,k2,k3⟩ h
set_option maxRecDepth 8000 in
theorem VH (l:List (List Int)) (hb:∀ x,x ∈ l→x.length*8≤140737488355328) (x:Lc) (hs:Zn x.p) (h0:∀ n,BK x.p=some n→0≤n):G.Spec Tryz.prog 144 [TI l,x.a] (.tup [(Dr l x).1.a,iv (Dr l x).2]):=by
 refine Aj QF (by simp) fun w0 I0=>?_
 unfold JR
 simp
 refine Ae (XI x.p hs) rfl ?_
 by_cases h:x.s<0∨l.length≤x.s∨x.at_<0
 ·have hd:(decide (x.s<0) || decide ((l.length:Int)≤x.s) || decide (x.at_<0))=true:=by
   simp
   omega
  have hh:Hn l x.s x.at_ ((BK x.p).getD 0)=false:=by
   simp only[Hn,decide_eq_false_iff_not]
   omega
  simp[hd]
  refine Ap rfl ?_
  simp[Dr,hh,Lc.zero,Pt.zero]
 ·have k1:0≤x.s:=by omega
  have k2:x.s<l.length:=by omega
  have k3:0≤x.at_:=by omega
  have k4:¬ (x.s<0):=by omega
  have k5:¬ ((l.length:Int)≤x.s):=by omega
  have k6:¬ (x.at_<0):=by omega
  obtain⟨k7,e1⟩:=Ty k1 k2
  have hg:=hb _ (Bq k7)
  have hsz:Xz l x.s=l[x.s.toNat].length:=by simp[Xz,e1]
  simp[k1,k2,k3,k4,k5,k6,k7]
  have hg2:x.at_≤l[x.s.toNat].length→IntKind.i64.wrap (l[x.s.toNat].length-x.at_)=l[x.s.toNat].length-x.at_:=fun h=>Af (by omega) (by omega)
  have hw:Hn l x.s x.at_ ((BK x.p).getD 0)=true ↔ x.at_≤l[x.s.toNat].length∧(BK x.p).getD (-1)≤l[x.s.toNat].length-x.at_:=by
   simp only[Hn,decide_eq_true_eq,hsz]
   cases e:BK x.p with
   |none=>simp only[Option.getD_none];omega
   |some n=>
    have:=h0 n e
    simp only[Option.getD_some];omega
  refine⟨fun q=>?_,fun q1 q2=>?_⟩
  ·refine Ap rfl ?_
   have hn:¬ Hn l x.s x.at_ ((BK x.p).getD 0)=true:=by
    rw[hw]
    rintro⟨q1,q2⟩
    rw[hg2 q1] at q
    omega
   simp[Dr,hn,Lc.zero,Pt.zero]
  ·refine Ap rfl ?_
   rw[hg2 q1] at q2
   have hn:=hw.2 ⟨q1,q2⟩
   simp[Dr,hn]
def II (p:Pt):Int:=if p.kind=4 then 9 else if p.kind ≠ 1∧p.kind ≠ 2 then 8 else 0
theorem Wn (p:Pt):G.Spec Tryz.prog 143 [p.a] (iv (II p)):=by
 refine Aj Qa (by simp) fun w0 I0=>?_
 unfold JI
 simp
 refine⟨fun h=>?_,fun h=>⟨fun h1 h2=>?_,fun h1=>?_⟩⟩
 ·exact BS (by simp[II,h])
 ·exact BS (by simp[II,h,h1,h2])
 ·refine BS ?_
  rw[II,if_neg h,if_neg (by omega)]
theorem Tj {w:Int} (h0:0≤w) (h1:w<18446744073709551616):∀ n,BK (DT w)=some n→0≤n:=by
 unfold DT
 repeat' split
 all_goals intro n
 all_goals simp only[BK,Gx]
 all_goals repeat' split
 all_goals intro h
 all_goals first | cases h | skip
 all_goals first | omega | skip
abbrev zs:List A:=[iv 0,iv 0,iv 0,iv 0,iv 0,iv 0,iv 0,bv false,iv 0,iv 0]
theorem Ye {p:Pt}:(II p=9∧p.kind=4)∨(II p=8∧p.kind ≠ 4∧p.kind ≠ 1∧p.kind ≠ 2)∨(II p=0∧(p.kind=1∨p.kind=2)):=by
 unfold II
 repeat' split
 all_goals omega
set_option maxRecDepth 8000 in
theorem R6 {n:Nat} {w0:World} {I0:Nat→Prop} {l:List (List Int)} (hb:∀ x,x ∈ l→x.length*8≤140737488355328) {p:Pt} {s a:Int} (hs:Zn p) (h0:∀ n,BK p=some n→0≤n) (h1:-1000000000000000000≤a) (h2:a≤1000000000000000000) (h3:-1000000000000000000≤p.off) (h4:p.off≤1000000000000000000) :
  WPC (cx Tryz.prog w0 I0 n) FK (RY Tryz.prog [.cell 6 137,.tmp 7] (.tup [(He l p s a).1.a,iv (He l p s a).2])) ⟨lk [(0,TI l),(1,iv s),(2,iv a),(6,.pob [0] 1 0),(8,.pob [1] 1 0)],HM [([0],⟨1,.cells zs⟩),([1],⟨1,.cells [iv p.kind,iv p.off,iv p.data,iv p.ptrs,iv p.code,iv p.count,iv p.seg,bv p.dbl]⟩)]⟩:=by
 unfold FK
 simp
 refine Ae (Wn p) rfl ?_
 simp
 rcases Ye (p:=p) with ⟨e,k⟩ | ⟨e,k⟩ | ⟨e,k⟩
 ·simp[e]
  refine Ap rfl ?_
  simp[He,k,Lc.zero,Pt.zero]
 ·simp[e]
  refine Ap rfl ?_
  simp[He,k,Lc.zero,Pt.zero]
 ·simp[e]
  rw[Af (n:=a+1) (by omega) (by omega),Af (by omega) (by omega)]
  refine Ae (VH l hb ⟨p,s,a+1+p.off⟩ hs h0) rfl ?_
  simp
  refine Ap rfl ?_
  simp[He,k]
set_option maxRecDepth 8000 in
theorem SM {n:Nat} {w0:World} {I0:Nat→Prop} {l:List (List Int)} (hb:∀ x,x ∈ l→x.length*8≤140737488355328) {p q:Pt} (hs:Zn q) (h0:∀ n,BK q=some n→0≤n) {e:Int} {x:Lc × Int} (hx:x=if e=0 then Dr l ⟨q,p.seg,p.off⟩ else (Lc.zero,e)) {X:Sta→Prop} {v:VOb} :
  WPC (cx Tryz.prog w0 I0 n) FC (DB X (RY Tryz.prog [.cell 6 137,.tmp 7] (.tup [x.1.a,iv x.2]))) ⟨lk [(0,TI l),(6,.pob [0] 1 0),(9,.pob [2] 1 0),(10,.pob [3] 1 0),(11,iv e)],HM [([0],⟨1,.cells zs⟩),([1],v),([2],⟨1,.cells [iv p.kind,iv p.off,iv p.data,iv p.ptrs,iv p.code,iv p.count,iv p.seg,bv p.dbl]⟩),([3],⟨1,.cells [iv q.kind,iv q.off,iv q.data,iv q.ptrs,iv q.code,iv q.count,iv q.seg,bv q.dbl]⟩)]⟩:=by
 unfold FC
 simp
 refine⟨fun he=>?_,fun he=>?_⟩
 rotate_left
 ·refine Ap rfl ?_
  simp[hx,he,Lc.zero,Pt.zero]
 ·refine Ae (VH l hb ⟨q,p.seg,p.off⟩ hs h0) rfl ?_
  simp
  refine Ap rfl ?_
  simp[hx,he]
set_option maxRecDepth 8000 in
theorem Wz (l:List (List Int)) (hb:∀ x,x ∈ l→x.length*8≤140737488355328) (hw:aB l) (s a:Int) :
  G.Spec Tryz.prog 88 [TI l,iv s,iv a] (.tup [(C9 l s a).1.a,iv (C9 l s a).2]):=by
 refine Aj O7 (by simp) fun w0 I0=>?_
 unfold IZ
 simp
 refine Ae (IC l s a) rfl ?_
 cases e1:B0 l s a with
 |none=>
  simp
  refine Ap rfl ?_
  simp[C9,e1,Lc.zero,Pt.zero]
 |some w=>
  obtain⟨k1,k2,k3,k4,k5,rfl⟩:=EM e1
  obtain⟨v0,v1⟩:=DY hw e1
  have hla:=hb _ (Bq k4)
  simp[k1,k2,k3,k4,k5]
  refine⟨by omega,?_⟩
  refine Ae (Fm v0 v1) rfl ?_
  have hs:=LW v0 v1
  have hn:=Tj v0 v1
  obtain⟨o1,o2,o3,o4⟩:=MA v0 v1
  generalize hv:DT l[s.toNat][a.toNat]=p at *
  have e:C9 l s a=if p.kind=0 then (Lc.zero,0) else if p.kind ≠ 3 then He l p s a else if p.dbl=true then Ey l p.seg p.off else match B0 l p.seg p.off with | none=>(Lc.zero,7) | some v=>He l (DT v) p.seg p.off:=by
   simp only[C9,e1,hv]<;>rfl
  by_cases h0:p.kind=0
  ·simp[h0]
   refine Ap rfl ?_
   simp[e,h0,Lc.zero,Pt.zero]
  by_cases h3:p.kind=3
  ·cases hd:p.dbl with
   |true=>
    simp[h3,hd]
    rw[if_neg h0,if_neg (by simp[h3]),if_pos hd] at e
    refine Ae (IC l p.seg p.off) rfl ?_
    cases e2:B0 l p.seg p.off with
    |none=>
     simp
     refine Bj rfl (fun _=>IC l p.seg (p.off+1)) (fun e=>by simp at e) rfl ?_
     simp
     refine Ap rfl ?_
     simp[e,Ey,e2,Lc.zero,Pt.zero]
    |some v=>
     simp
     rw[Af (by omega) (by omega)]
     refine Bj rfl (fun _=>IC l p.seg (p.off+1)) (fun e=>by simp[e]) rfl ?_
     cases e3:B0 l p.seg (p.off+1) with
     |none=>
      simp
      refine Ap rfl ?_
      simp[e,Ey,e2,e3,Lc.zero,Pt.zero]
     |some w=>
      obtain⟨k1,k2,k3,k4,k5,rfl⟩:=EM e2
      obtain⟨_,_,k6,_,k7,rfl⟩:=EM e3
      obtain⟨v0,v1⟩:=DY hw e2
      obtain⟨w0',w1⟩:=DY hw e3
      have dd:Ey l p.seg p.off=if (DT l[p.seg.toNat][p.off.toNat]).kind ≠ 3∨(DT l[p.seg.toNat][p.off.toNat]).dbl=true then (Lc.zero,8) else if II (DT l[p.seg.toNat][(p.off+1).toNat])=0∧(DT l[p.seg.toNat][(p.off+1).toNat]).off=0 then Dr l ⟨DT l[p.seg.toNat][(p.off+1).toNat],(DT l[p.seg.toNat][p.off.toNat]).seg,(DT l[p.seg.toNat][p.off.toNat]).off⟩ else (Lc.zero,if II (DT l[p.seg.toNat][(p.off+1).toNat])=0 then 8 else II (DT l[p.seg.toNat][(p.off+1).toNat])):=by
       simp only[Ey,e2,e3]
       generalize DT l[p.seg.toNat][p.off.toNat]=x
       generalize DT l[p.seg.toNat][(p.off+1).toNat]=y
       split
       ·rfl
       ·rcases Ye (p:=y) with ⟨e,k⟩ | ⟨e,k⟩ | ⟨e,k⟩
        ·simp[e,k]
        ·simp[e,k]
        ·rw[if_neg (by omega)]
         simp[e]
         by_cases ho:y.off=0
         ·rw[if_neg (by omega),if_pos ho]
         ·rw[if_pos (by omega),if_neg ho]
      rw[e,dd]
      simp[k1,k2,k3,k4,k5,k6,k7]
      have hs:=LW w0' w1
      have hn:=Tj w0' w1
      refine⟨by omega,?_⟩
      refine Ae (Fm v0 v1) rfl ?_
      simp[k1,k2,k3,k4,k5,k6,k7]
      rw[Af (by omega) (by omega)]
      simp[k6,k7]
      refine⟨by omega,?_⟩
      refine Ae (Fm w0' w1) rfl ?_
      generalize DT l[p.seg.toNat][p.off.toNat]=x
      generalize DT l[p.seg.toNat][(p.off+1).toNat]=y at *
      simp
      refine⟨fun h=>?_,fun a1 a2=>?_⟩
      ·refine Ap rfl ?_
       rw[if_pos h]
       rfl
      ·rw[if_neg (by simp[a1,a2])]
       refine Ae (Wn y) rfl ?_
       simp
       refine⟨fun h1 h2=>?_,fun h=>?_⟩
       ·exact SM hb hs hn (by simp[h1,h2])
       ·refine SM hb hs hn ?_
        by_cases h1:II y=0
        ·simp[h1,h h1]
        ·simp[h1]
   |false=>
    simp[h3,hd]
    rw[if_neg h0,if_neg (by simp[h3]),if_neg (by simp[hd])] at e
    refine Ae (IC l p.seg p.off) rfl ?_
    cases e2:B0 l p.seg p.off with
    |none=>
     simp
     refine Ap rfl ?_
     simp[e,e2,Lc.zero,Pt.zero]
    |some w=>
     obtain⟨k1,k2,k3,k4,k5,rfl⟩:=EM e2
     obtain⟨v0,v1⟩:=DY hw e2
     have hla:=hb _ (Bq k4)
     simp[k1,k2,k3,k4,k5]
     refine⟨by omega,?_⟩
     refine Ae (Fm v0 v1) rfl ?_
     have hs:=LW v0 v1
     have hn:=Tj v0 v1
     obtain⟨q1,q2,q3,q4⟩:=MA v0 v1
     rw[e2] at e
     simp only at e
     rw[e]
     simp
     exact R6 hb hs hn (by omega) (by omega) (by omega) (by omega)
  ·simp[h0,h3]
   rw[e,if_neg h0,if_pos h3]
   exact R6 hb hs hn (by omega) (by omega) (by omega) (by omega)
end Go.Proofs.YtbjmaoedheiigaaGreat
namespace Go.PL
inductive T where
 |mk (kind:Int) (words:List Int) (kids:List T)
 deriving Inhabited
namespace T
def kind:T→Int | mk k _ _=>k
def words:T→List Int | mk _ w _=>w
def kids:T→List T | mk _ _ l=>l
@[simp] theorem kind_mk {k:Int} {w:List Int} {l:List T}:(mk k w l).kind=k:=rfl
@[simp] theorem words_mk {k:Int} {w:List Int} {l:List T}:(mk k w l).words=w:=rfl
@[simp] theorem kids_mk {k:Int} {w:List Int} {l:List T}:(mk k w l).kids=l:=rfl
end T
theorem Y1 {α:Type} {P:List α→Prop} (h0:P []) (h1:∀ l x,P l→P (l++[x])) (l:List α):P l:=by
 have:∀ m:List α,P m.reverse:=by
  intro m
  induction m with
  |nil=>exact h0
  |cons x m ih=>rw[List.reverse_cons];exact h1 _ _ ih
 have h:=this l.reverse
 rwa [List.reverse_reverse] at h
abbrev T0:T:=.mk 0 [] []
theorem T.eta (t:T):t = .mk t.kind t.words t.kids:=by cases t;rfl
mutual
theorem T.ind {P:T→Prop} (h:∀ k w l,(∀ t,t ∈ l→P t)→P (.mk k w l)):∀ t,P t
 |.mk k w l=>h k w l (T.indL h l)
theorem T.indL {P:T→Prop} (h:∀ k w l,(∀ t,t ∈ l→P t)→P (.mk k w l)):∀ (l:List T),∀ t,t ∈ l→P t
 |[],t,ht=>nomatch ht
 |x::l,t,ht=>by
  rcases List.mem_cons.1 ht with e | ht
  ·rw[e];exact T.ind h x
  ·exact T.indL h l t ht
end
def BT (l:List Int):List Int:=(l.reverse.dropWhile (fun x=>x == 0)).reverse
def BC (l:List T):List T:=(l.reverse.dropWhile (fun x=>x.kind == 0)).reverse
mutual
def Ai:T→T
 |.mk k w l=>if k=0 then T0 else if k=1 then .mk 1 (BT w) (BC (Yo l)) else .mk k w (Yo l)
def Yo:List T→List T
 |[]=>[]
 |t::l=>Ai t::Yo l
end
@[simp] theorem lV:∀ l,Yo l=l.map Ai
 |[]=>by simp[Yo]
 |t::l=>by simp[Yo,lV l]
theorem B2 (k:Int) (w:List Int) (l:List T):Ai (.mk k w l)=if k=0 then T0 else if k=1 then .mk 1 (BT w) (BC (l.map Ai)) else .mk k w (l.map Ai):=by simp[Ai]
@[simp] theorem CL (t:T):(Ai t).kind=t.kind:=by
 cases t;rw[B2];split
 ·rename_i h;rw[h];rfl
 ·split
  ·rename_i h;rw[h];rfl
  ·rfl
@[simp] theorem zj:BT []=[]:=rfl
@[simp] theorem Aau:BC []=[]:=rfl
theorem PW (l:List Int) (x:Int):BT (l++[x])=if x=0 then BT l else l++[x]:=by
 unfold BT;simp[List.dropWhile_cons];split<;>simp
theorem J6 (l:List T) (x:T):BC (l++[x])=if x.kind=0 then BC l else l++[x]:=by
 unfold BC
 by_cases h:x.kind=0<;>simp[List.dropWhile_cons,h]
theorem Oc (l:List Int):(BT l).length≤l.length:=by
 unfold BT;simp;have:=(List.dropWhile_sublist (fun x:Int=>x == 0) (l:=l.reverse)).length_le;simpa using this
theorem Mf (l:List T):(BC l).length≤l.length:=by
 unfold BC;simp;have:=(List.dropWhile_sublist (fun x:T=>x.kind == 0) (l:=l.reverse)).length_le;simpa using this
theorem Qh (l:List Int):BT l=l.take (BT l).length:=by
 induction l using Y1 with
 |h0=>rfl
 |h1 l x ih=>
  rw[PW]
  split
  ·rw[List.take_append_of_le_length (Oc l)];exact ih
  ·rw[AI (BW _)]
theorem QW (l:List T):BC l=l.take (BC l).length:=by
 induction l using Y1 with
 |h0=>rfl
 |h1 l x ih=>
  rw[J6]
  split
  ·rw[List.take_append_of_le_length (Mf l)];exact ih
  ·rw[AI (BW _)]
def AD (c:Int):Int:=if c=0 then 0 else if c=1 then 1 else if c=2 then 8 else if c=3 then 16 else if c=4 then 32 else if c=5 then 64 else -1
mutual
def Dv:Nat→Int→T→Int
 |d,n,.mk _ w l=>if d=0∨n-1-w.length<0 then -1 else DD (d-1) (n-1-w.length) l
def DD:Nat→Int→List T→Int
 |_,n,[]=>n
 |d,n,t::l=>if n<0 then n else DD d (Dv d n t) l
end
theorem Qb (d:Nat) (n:Int) (k:Int) (w:List Int) (l:List T):Dv d n (.mk k w l)=if d=0∨n-1-w.length<0 then -1 else DD (d-1) (n-1-w.length) l:=by rw[Dv]
@[simp] theorem uH (d:Nat) (n:Int):DD d n []=n:=by rw[DD]
@[simp] theorem HW (d:Nat) (n:Int) (t:T) (l:List T):DD d n (t::l)=if n<0 then n else DD d (Dv d n t) l:=by rw[DD]
theorem Ul {t:T} (h:t.kind=1):Ai t = .mk 1 (BT t.words) (BC (t.kids.map Ai)):=by
 cases t;simp at h;subst h;rw[B2];simp
end Go.PL
namespace Go.Proofs.YtbjmaoedheiigaaGreat
open Go Go.G Go.Proofs Go.PL
structure Rf where
 kind:Int
 s:Int
 at_:Int
 data:Int
 kids:Int
 count:Int
 n:Int
def Rf.zero:Rf:=⟨0,0,0,0,0,0,0⟩
def nk (r:Rf):Int:=if r.kind=1 then r.kids else r.count
def Wl (l:List (List Int)) (s a m:Int):Rf × Int:=
 if ((B0 l s a).getD 0 ≠ 0∧(DT ((B0 l s a).getD 0)).kind ≠ 1)∨(DT ((B0 l s a).getD 0)).off<0∨m<(DT ((B0 l s a).getD 0)).off*((DT ((B0 l s a).getD 0)).data+(DT ((B0 l s a).getD 0)).ptrs) then (Rf.zero,8)
 else (⟨9,s,a+1,(DT ((B0 l s a).getD 0)).data,(DT ((B0 l s a).getD 0)).ptrs,(DT ((B0 l s a).getD 0)).off,0⟩,0)
def qf (l:List (List Int)) (x:Lc):Rf × Int:=
 if x.p.kind=1 then (⟨1,x.s,x.at_,x.p.data,x.p.ptrs,0,0⟩,0)
 else if x.p.code<7 then (⟨2+x.p.code,x.s,x.at_,0,0,x.p.count,0⟩,0)
 else Wl l x.s x.at_ x.p.count
def XH (l:List (List Int)) (s a:Int):Rf × Int:=
 if (C9 l s a).2 ≠ 0∨(C9 l s a).1.p.kind=0 then (Rf.zero,(C9 l s a).2) else qf l (C9 l s a).1
def Ov (g:List Int) (c i:Int):Int:=
 if AD c<1∨i<0∨1099511627776<i then 0 else ((g[(i*AD c / 64).toNat]?).getD 0) / 2 ^ (i*AD c % 64).toNat % 2 ^ (AD c).toNat
def XV (l:List (List Int)) (r:Rf) (i:Int):Int:=Ov (((seg l r.s).getD []).drop r.at_.toNat) (r.kind-2) i
def Cj (l:List (List Int)) (r:Rf) (i:Int):Rf × Int:=
 if i<0∨nk r≤i then (Rf.zero,0)
 else if r.kind=1 then XH l r.s (r.at_+r.data+i)
 else if r.kind=8 then XH l r.s (r.at_+i)
 else if r.kind=9 then (⟨1,r.s,r.at_+i*(r.data+r.kids),r.data,r.kids,0,0⟩,0)
 else (⟨10,0,0,0,0,0,XV l r i⟩,0)
def Ce (l:List (List Int)) (r:Rf):List Int:=if r.kind=10 then [r.n] else if r.kind ≠ 1 then [] else part l r.s r.at_ r.data
inductive Fx (l:List (List Int)):Rf→Prop
 |zero:Fx l Rf.zero
 |str (s a d k:Int):0≤d→d<65536→0≤k→k<65536→Hn l s a (d+k)=true→Fx l ⟨1,s,a,d,k,0,0⟩
 |dat (c s a n:Int):0≤c→c<6→0≤n→n<536870912→Hn l s a ((n*Gx c+63) / 64)=true→Fx l ⟨2+c,s,a,0,0,n,0⟩
 |ptrs (s a n:Int):0≤n→n<536870912→Hn l s a n=true→Fx l ⟨8,s,a,0,0,n,0⟩
 |comp (s a d k n:Int):0≤d→d<65536→0≤k→k<65536→0≤n→n<536870912→Hn l s a (n*(d+k))=true→Fx l ⟨9,s,a,d,k,n,0⟩
 |atom (n:Int):0≤n→n<18446744073709551616→Fx l ⟨10,0,0,0,0,0,n⟩
structure zI (p:Pt):Prop where
 k1:p.kind=1→0≤p.data∧p.data<65536∧0≤p.ptrs∧p.ptrs<65536
 k2:p.kind=2→0≤p.code∧p.code<8∧0≤p.count∧p.count<536870912
 k:p.kind=0∨p.kind=1∨p.kind=2∨p.kind=3∨p.kind=4
theorem O0 {w:Int} (h0:0≤w) (h1:w<18446744073709551616):zI (DT w):=by
 unfold DT
 repeat' split
 all_goals refine⟨?_,?_,?_⟩
 all_goals simp
 all_goals omega
def kB (l:List (List Int)) (x:Lc × Int):Prop:=x.2=0→x.1.p.kind=0∨((x.1.p.kind=1∨x.1.p.kind=2)∧zI x.1.p∧Hn l x.1.s x.1.at_ ((BK x.1.p).getD 0)=true)
theorem Ui {l:List (List Int)} {x:Lc} (h:x.p.kind=1∨x.p.kind=2) (hs:zI x.p):kB l (Dr l x):=by
 unfold Dr
 split
 ·rename_i hh
  intro _
  exact .inr ⟨h,⟨hs.k1,hs.k2,hs.k⟩,hh⟩
 ·intro h;cases h
theorem XW {l:List (List Int)} {p:Pt} {s a:Int} (hs:zI p):kB l (He l p s a):=by
 unfold He
 split
 ·exact Ui (by assumption) hs
 ·split<;>(intro h;cases h)
theorem aN {l:List (List Int)} (hw:aB l) (s a:Int):kB l (Ey l s a):=by
 unfold Ey
 split
 ·rename_i v w h1 h2
  obtain⟨a1,a2⟩:=DY hw h2
  have hs:=O0 a1 a2
  repeat' split
  all_goals first
   |(intro h;cases h;done)
   |skip
  refine Ui ?_ hs
  simp only
  omega
 ·intro h;cases h
theorem Om {l:List (List Int)} (hw:aB l) (s a:Int):kB l (C9 l s a):=by
 unfold C9
 split
 ·intro h;cases h
 ·rename_i w h1
  obtain⟨a1,a2⟩:=DY hw h1
  split
  ·intro _;exact .inl rfl
  ·split
   ·exact XW (O0 a1 a2)
   ·split
    ·exact aN hw _ _
    ·split
     ·intro h;cases h
     ·rename_i v h2
      obtain⟨b1,b2⟩:=DY hw h2
      exact XW (O0 b1 b2)
theorem fP {p:Pt} (h:p.kind=1):BK p=some (p.data+p.ptrs):=by simp[BK,h]
theorem gU {p:Pt} (h:p.kind=2) (hs:zI p) (h6:p.code<7):BK p=some ((p.count*Gx p.code+63) / 64):=by
 obtain⟨a,b,c,d⟩:=hs.k2 h
 rw[BK,if_neg (by omega),if_neg (by omega),if_pos (by omega)]
theorem UD {p:Pt} (h:p.kind=2) (h7:p.code=7):BK p=some (p.count+1):=by simp[BK,h,h7]
theorem OL {a b c:Int} (h:a≤b) (hc:0≤c):a*c≤b*c:=Int.mul_le_mul_of_nonneg_right h hc
theorem W8 {l:List (List Int)} {s a n b m:Int} (h:Hn l s a n=true) (h1:a≤b) (h2:0≤m) (h3:b+m≤a+n):Hn l s b m=true:=by
 simp only[Hn,decide_eq_true_eq] at h ⊢
 omega
theorem qb {w:Int} (h0:0≤w) (h1:w<18446744073709551616):(DT w).off<536870912:=by
 have:=(jk w).2.1
 unfold DT
 repeat' split
 all_goals simp
 all_goals omega
theorem s5 {l:List (List Int)} (hw:aB l) {s a m:Int} (h:Hn l s a (m+1)=true):Fx l (Wl l s a m).1:=by
 unfold Wl
 have h0:0≤(B0 l s a).getD 0∧(B0 l s a).getD 0<18446744073709551616:=by
  cases e:B0 l s a with
  |none=>simp
  |some x=>exact DY hw e
 generalize (B0 l s a).getD 0=w at h0
 have hs:=O0 h0.1 h0.2
 have ho:=MA h0.1 h0.2
 have ho':=qb h0.1 h0.2
 split
 ·exact .zero
 ·rename_i hc
  have hk:(DT w).kind=1∨DT w=Pt.zero:=by
   by_cases hw0:w=0
   ·subst hw0;exact .inr rfl
   ·left;omega
  have hd:0≤(DT w).data∧(DT w).data<65536∧0≤(DT w).ptrs∧(DT w).ptrs<65536:=by
   rcases hk with hk | hk
   ·exact hs.k1 hk
   ·rw[hk];decide
  refine .comp _ _ _ _ _ hd.1 hd.2.1 hd.2.2.1 hd.2.2.2 (by omega) (by omega) (W8 h (by omega) ?_ (by omega))
  exact Int.mul_nonneg (by omega) (by omega)
theorem wv {l:List (List Int)} (hw:aB l) {x:Lc} (hk:x.p.kind=1∨x.p.kind=2) (hs:zI x.p) (h:Hn l x.s x.at_ ((BK x.p).getD 0)=true):Fx l (qf l x).1:=by
 unfold qf
 split
 ·rename_i k1
  obtain⟨a,b,c,d⟩:=hs.k1 k1
  rw[fP k1] at h
  exact .str _ _ _ _ a b c d h
 ·rename_i k1
  have k2:x.p.kind=2:=by omega
  obtain⟨a,b,c,d⟩:=hs.k2 k2
  split
  ·rename_i h7
   rw[gU k2 hs h7] at h
   by_cases h6:x.p.code=6
   ·rw[h6] at h ⊢
    refine .ptrs _ _ _ c d (W8 h (Int.le_refl _) c ?_)
    have e:Gx 6=64:=by decide
    simp only[Option.getD_some,e]
    omega
   ·exact .dat _ _ _ _ a (by omega) c d h
  ·rw[UD k2 (by omega)] at h
   exact s5 hw h
theorem jf {l:List (List Int)} (hw:aB l) (s a:Int):Fx l (XH l s a).1:=by
 unfold XH
 split
 ·exact .zero
 ·rename_i h
  rcases Om hw s a (by omega) with h0 | ⟨h1,h2,h3⟩
  ·omega
  ·exact wv hw h1 h2 h3
theorem gp {g:List Int} {c i:Int} (hg:∀ x,x ∈ g→0≤x∧x<18446744073709551616):0≤Ov g c i∧Ov g c i<18446744073709551616:=by
 unfold Ov
 split
 ·omega
 ·have h0:0≤(g[(i*AD c / 64).toNat]?).getD 0∧(g[(i*AD c / 64).toNat]?).getD 0<18446744073709551616:=by
   cases e:g[(i*AD c / 64).toNat]? with
   |none=>simp
   |some x=>exact hg x (List.mem_of_getElem? e)
  generalize (g[(i*AD c / 64).toNat]?).getD 0=x at h0
  have p1:(0:Int)<2 ^ (i*AD c % 64).toNat:=Int.pow_pos (by omega)
  have p2:(0:Int)<2 ^ (AD c).toNat:=Int.pow_pos (by omega)
  have d0:0≤x / 2 ^ (i*AD c % 64).toNat:=Int.ediv_nonneg h0.1 (by omega)
  have d1:x / 2 ^ (i*AD c % 64).toNat≤x:=Int.ediv_le_self _ h0.1
  have m0:=Int.emod_nonneg (x / 2 ^ (i*AD c % 64).toNat) (by omega:(2:Int) ^ (AD c).toNat ≠ 0)
  have m1:x / 2 ^ (i*AD c % 64).toNat % 2 ^ (AD c).toNat≤x / 2 ^ (i*AD c % 64).toNat:=by
   rw[Int.emod_def]
   have:=Int.mul_nonneg (a:=2 ^ (AD c).toNat) (b:=x / 2 ^ (i*AD c % 64).toNat / 2 ^ (AD c).toNat) (by omega) (Int.ediv_nonneg d0 (by omega))
   omega
  omega
theorem SY {l:List (List Int)} (hw:aB l) {r:Rf} (hr:Fx l r) (i:Int):Fx l (Cj l r i).1:=by
 unfold Cj
 split
 ·exact .zero
 ·rename_i hi
  cases hr with
  |zero=>simp[nk,Rf.zero] at hi;omega
  |str s a d k a1 a2 a3 a4 h=>simp;exact jf hw _ _
  |dat c s a n a1 a2 a3 a4 h=>
   simp
   rw[if_neg (by omega),if_neg (by omega),if_neg (by omega)]
   have:=gp (g:=((seg l s).getD []).drop a.toNat) (c:=2+c-2) (i:=i) (fun x hx=>by
    cases e:seg l s with
    |none=>rw[e] at hx;simp at hx
    |some g=>
     rw[e] at hx
     obtain⟨_,_,k1,rfl⟩:=R7 e
     exact hw _ (Bq k1) _ (Q3 hx))
   exact .atom _ this.1 this.2
  |ptrs s a n a1 a2 h=>simp;exact jf hw _ _
  |comp s a d k n a1 a2 a3 a4 a5 a6 h=>
   simp[nk] at hi ⊢
   refine .str _ _ _ _ a1 a2 a3 a4 (W8 h ?_ (by omega) ?_)
   ·have:=Int.mul_nonneg (by omega:0≤i) (by omega:0≤d+k)
    omega
   ·have h1:(i+1)*(d+k)≤n*(d+k):=OL (by omega) (by omega)
    rw[Int.add_mul] at h1
    omega
  |atom n a1 a2=>simp[nk] at hi;omega
inductive AG (l:List (List Int)):Rf→T→Prop
 |mk (r:Rf) (t:T):Fx l r→r.kind=t.kind→Ce l r=t.words→nk r=t.kids.length→(∀ (i:Nat) (h:i<t.kids.length),(Cj l r i).2=0)→(∀ (i:Nat) (h:i<t.kids.length),AG l (Cj l r i).1 t.kids[i])→AG l r t
def DC (f:Nat→Int→T × Int × Int):Nat→Nat→List T→Int→List T × Int × Int
 |0,_,acc,left=>(acc,left,0)
 |m+1,i,acc,left=>if (f i left).2.2 ≠ 0 then (acc,(f i left).2.1,(f i left).2.2) else DC f m (i+1) (acc++[(f i left).1]) (f i left).2.1
def CR (r:Rf):Int:=if r.kind=1 then 1+r.data+r.kids else if r.kind=9 then 1+r.count*(1+r.data+r.kids) else 1+nk r
def Di (l:List (List Int)) (rec:Rf→Int→T × Int × Int) (r:Rf) (i:Nat) (left:Int):T × Int × Int:=
 if (Cj l r i).2 ≠ 0 then (T0,left,(Cj l r i).2) else rec (Cj l r i).1 left
def Ka (l:List (List Int)) (rec:Rf→Int→T × Int × Int) (r:Rf) (left:Int):T × Int × Int:=
 (.mk 1 (Ce l r) (DC (Di l rec r) r.kids.toNat 0 [] left).1,(DC (Di l rec r) r.kids.toNat 0 [] left).2.1,(DC (Di l rec r) r.kids.toNat 0 [] left).2.2)
def Hs (l:List (List Int)) (r:Rf) (left:Int):T × Int × Int:=(.mk r.kind (Ce l r) [],left,0)
def PG (l:List (List Int)) (r:Rf) (rec1 rec2:Rf→Int→T × Int × Int) (left:Int):T × Int × Int:=
 (.mk r.kind (Ce l r) (DC (Di l (if r.kind=9 then Ka l rec2 else if r.kind=1∨r.kind=8 then rec1 else Hs l) r) (nk r).toNat 0 [] (left-CR r)).1,
  (DC (Di l (if r.kind=9 then Ka l rec2 else if r.kind=1∨r.kind=8 then rec1 else Hs l) r) (nk r).toNat 0 [] (left-CR r)).2.1,
  (DC (Di l (if r.kind=9 then Ka l rec2 else if r.kind=1∨r.kind=8 then rec1 else Hs l) r) (nk r).toNat 0 [] (left-CR r)).2.2)
def KI (l:List (List Int)) (r:Rf) (left:Int):T × Int × Int:=(.mk r.kind (Ce l r) [],left,3)
def B1 (l:List (List Int)):Nat→Rf→Int→T × Int × Int
 |0,r,left=>if r.kind=0 then Hs l r left else KI l r left
 |1,r,left=>if r.kind=0 then Hs l r left else if r.kind=9∧0<r.count then KI l r left else if left<CR r then KI l r left
  else PG l r (B1 l 0) (fun r left=>KI l r left) left
 |d+2,r,left=>if r.kind=0 then Hs l r left else if left<CR r then KI l r left else PG l r (B1 l (d+1)) (B1 l d) left
theorem bg {f:Nat→Int→T × Int × Int}:∀ {m i:Nat} {acc:List T} {left:Int},(DC f m i acc left).2.2=0→∃ ks:List T,(DC f m i acc left).1=acc++ks∧ks.length=m∧∀ (j:Nat) (h:j<ks.length),∃ lf,(f (i+j) lf).2.2=0∧(f (i+j) lf).1=ks[j]
 |0,i,acc,left,h=>⟨[],by simp[DC],rfl,fun j h=>by simp at h⟩
 |m+1,i,acc,left,h=>by
  rw[DC] at h ⊢
  by_cases h0:(f i left).2.2 ≠ 0
  ·rw[if_pos h0] at h;exact absurd h h0
  ·rw[if_neg h0] at h ⊢
   obtain⟨ks,e1,e2,e3⟩:=bg h
   refine⟨(f i left).1::ks,by rw[e1];simp,by simp[e2],fun j hj=>?_⟩
   cases j with
   |zero=>exact⟨left,by simpa using h0,rfl⟩
   |succ j=>
    obtain⟨lf,g1,g2⟩:=e3 j (by simpa using hj)
    refine⟨lf,?_,?_⟩
    ·rw[show i+(j+1)=i+1+j by omega];exact g1
    ·rw[show i+(j+1)=i+1+j by omega];simpa using g2
theorem JD {l:List (List Int)} {r:Rf} (h:Fx l r):0≤nk r∧nk r<536870912:=by
 cases h<;>simp[nk,Rf.zero]<;>omega
theorem Vv {l:List (List Int)} (hw:aB l) {r:Rf} (hr:Fx l r) {rec:Rf→Int→T × Int × Int} (hrec:∀ (i:Nat) left,i<nk r→(rec (Cj l r i).1 left).2.2=0→AG l (Cj l r i).1 (rec (Cj l r i).1 left).1) {k:Int} {left:Int} (hk:r.kind=k)
  (h:(DC (Di l rec r) (nk r).toNat 0 [] left).2.2=0):AG l r (.mk k (Ce l r) (DC (Di l rec r) (nk r).toNat 0 [] left).1):=by
 obtain⟨ks,e1,e2,e3⟩:=bg h
 rw[e1]
 simp only[List.nil_append]
 have hn:=JD hr
 refine .mk _ _ hr (by simpa using hk) rfl (by simp[e2];omega) (fun i hi=>?_) (fun i hi=>?_)
 all_goals
  simp only[T.kids_mk] at hi ⊢
  obtain⟨lf,g1,g2⟩:=e3 i hi
  simp only[Nat.zero_add] at g1 g2
  unfold Di at g1 g2
  by_cases h0:(Cj l r i).2 ≠ 0
  ·rw[if_pos h0] at g1;exact absurd g1 h0
  ·rw[if_neg h0] at g1 g2
   first
    |(simpa using h0)
    |(rw[← g2];exact hrec i _ (by omega) g1)
theorem MB {l:List (List Int)} {r:Rf} (hr:Fx l r) (h:r.kind=0∨r.kind=10) {left:Int}:AG l r (Hs l r left).1:=by
 refine .mk _ _ hr rfl rfl ?_ (fun i hi=>by simp[Hs] at hi) (fun i hi=>by simp[Hs] at hi)
 cases hr<;>simp[Hs,nk,Rf.zero] at h ⊢<;>omega
theorem qt {l:List (List Int)} {r:Rf} (hr:Fx l r) (h0:r.kind ≠ 0) (h1:r.kind ≠ 1) (h8:r.kind ≠ 8) (h9:r.kind ≠ 9) (i:Int):(Cj l r i).1.kind=0∨(Cj l r i).1.kind=10:=by
 unfold Cj
 split
 ·exact .inl rfl
 ·exact .inr rfl
theorem WV {l:List (List Int)} (hw:aB l) {r:Rf} (hr:Fx l r) {rec1 rec2:Rf→Int→T × Int × Int} (h1:∀ x left,Fx l x→(rec1 x left).2.2=0→AG l x (rec1 x left).1)
  (h2:r.kind=9→0<r.count→∀ x left,Fx l x→(rec2 x left).2.2=0→AG l x (rec2 x left).1) {left:Int} (h:(PG l r rec1 rec2 left).2.2=0):AG l r (PG l r rec1 rec2 left).1:=by
 unfold PG at h ⊢
 refine Vv hw hr (fun i lf hi hq=>?_) rfl h
 have hok:=SY hw hr (i:Int)
 by_cases h9:r.kind=9
 ·simp only[if_pos h9] at hq ⊢
  have hk:nk r=r.count:=by simp[nk,h9]
  have hkid:Cj l r i=(⟨1,r.s,r.at_+i*(r.data+r.kids),r.data,r.kids,0,0⟩,0):=by
   rw[Cj,if_neg (by omega),if_neg (by omega),if_neg (by omega),if_pos h9]
  rw[hkid] at hq hok ⊢
  unfold Ka at hq ⊢
  exact Vv hw hok (fun j lf' hj hq'=>h2 h9 (by omega) _ _ (SY hw hok _) hq') rfl hq
 ·by_cases h18:r.kind=1∨r.kind=8
  ·simp only[if_neg h9,if_pos h18] at hq ⊢
   exact h1 _ _ hok hq
  ·simp only[if_neg h9,if_neg h18] at hq ⊢
   refine MB hok ?_
   by_cases h0:r.kind=0
   ·cases hr<;>simp[nk,Rf.zero] at hi h0<;>omega
   ·exact qt hr h0 (by omega) (by omega) h9 i
theorem H7 {l:List (List Int)} (hw:aB l):∀ (d:Nat) (r:Rf) (left:Int),Fx l r→(B1 l d r left).2.2=0→AG l r (B1 l d r left).1
 |0,r,left,hr,h=>by
  rw[B1] at h ⊢
  split at h
  ·rename_i h0;rw[if_pos h0];exact MB hr (.inl h0)
  ·exact absurd h (by simp[KI])
 |1,r,left,hr,h=>by
  rw[B1] at h ⊢
  split at h
  ·rename_i h0;rw[if_pos h0];exact MB hr (.inl h0)
  ·rename_i h0
   split at h
   ·exact absurd h (by simp[KI])
   ·rename_i h9
    split at h
    ·exact absurd h (by simp[KI])
    ·rename_i hc
     rw[if_neg h0,if_neg h9,if_neg hc]
     exact WV hw hr (fun x lf hx hq=>H7 hw 0 x lf hx hq) (fun k9 hk=>absurd ⟨k9,hk⟩ h9) h
 |d+2,r,left,hr,h=>by
  rw[B1] at h ⊢
  split at h
  ·rename_i h0;rw[if_pos h0];exact MB hr (.inl h0)
  ·rename_i h0
   split at h
   ·exact absurd h (by simp[KI])
   ·rename_i hc
    rw[if_neg h0,if_neg hc]
    exact WV hw hr (fun x lf hx hq=>H7 hw (d+1) x lf hx hq) (fun k9 hk x lf hx hq=>H7 hw d x lf hx hq) h
end Go.Proofs.YtbjmaoedheiigaaGreat
namespace Go.PL
structure WE where
 at_:Int
 mask:Int
 old:Int
 new:Int
mutual
inductive E where
 |mk (kind:Int) (old new:T) (words:List WE) (kids:List KE) (list:Int) (ops:List OP)
inductive KE where
 |mk (at_:Int) (e:E)
inductive OP where
 |mk (kind n:Int) (l:List T) (e:E)
end
namespace E
def kind:E→Int | mk k _ _ _ _ _ _=>k
def old:E→T | mk _ o _ _ _ _ _=>o
def new:E→T | mk _ _ n _ _ _ _=>n
def words:E→List WE | mk _ _ _ w _ _ _=>w
def kids:E→List KE | mk _ _ _ _ k _ _=>k
def list:E→Int | mk _ _ _ _ _ l _=>l
def ops:E→List OP | mk _ _ _ _ _ _ o=>o
variable {k l:Int} {o n:T} {w:List WE} {ks:List KE} {os:List OP}
@[simp] theorem kind_mk:(mk k o n w ks l os).kind=k:=rfl
@[simp] theorem old_mk:(mk k o n w ks l os).old=o:=rfl
@[simp] theorem new_mk:(mk k o n w ks l os).new=n:=rfl
@[simp] theorem words_mk:(mk k o n w ks l os).words=w:=rfl
@[simp] theorem kids_mk:(mk k o n w ks l os).kids=ks:=rfl
@[simp] theorem AeV:(mk k o n w ks l os).list=l:=rfl
@[simp] theorem Aiu:(mk k o n w ks l os).ops=os:=rfl
end E
namespace KE
def at_:KE→Int | mk a _=>a
def e:KE→E | mk _ e=>e
@[simp] theorem Ai6 {a:Int} {e:E}:(mk a e).at_=a:=rfl
@[simp] theorem Ahr {a:Int} {e:E}:(mk a e).e=e:=rfl
end KE
namespace OP
def kind:OP→Int | mk k _ _ _=>k
def n:OP→Int | mk _ n _ _=>n
def l:OP→List T | mk _ _ l _=>l
def e:OP→E | mk _ _ _ e=>e
variable {k m:Int} {t:List T} {x:E}
@[simp] theorem kind_mk:(mk k m t x).kind=k:=rfl
@[simp] theorem Ajk:(mk k m t x).n=m:=rfl
@[simp] theorem Ajh:(mk k m t x).l=t:=rfl
@[simp] theorem Ahr:(mk k m t x).e=x:=rfl
end OP
abbrev E0:E:=.mk 0 T0 T0 [] [] 0 []
mutual
theorem E.ind {P:E→Prop} (h:∀ k o n w ks l os,(∀ x,x ∈ ks→P x.e)→(∀ x,x ∈ os→P x.e)→P (.mk k o n w ks l os)):∀ e,P e
 |.mk k o n w ks l os=>h k o n w ks l os (E.indK h ks) (E.indO h os)
theorem E.indK {P:E→Prop} (h:∀ k o n w ks l os,(∀ x,x ∈ ks→P x.e)→(∀ x,x ∈ os→P x.e)→P (.mk k o n w ks l os)):∀ (ks:List KE),∀ x,x ∈ ks→P x.e
 |[],_,hx=>nomatch hx
 |.mk a e::ks,x,hx=>by
  rcases List.mem_cons.1 hx with q | hx
  ·rw[q];exact E.ind h e
  ·exact E.indK h ks x hx
theorem E.indO {P:E→Prop} (h:∀ k o n w ks l os,(∀ x,x ∈ ks→P x.e)→(∀ x,x ∈ os→P x.e)→P (.mk k o n w ks l os)):∀ (os:List OP),∀ x,x ∈ os→P x.e
 |[],_,hx=>nomatch hx
 |.mk a n l e::os,x,hx=>by
  rcases List.mem_cons.1 hx with q | hx
  ·rw[q];exact E.ind h e
  ·exact E.indO h os x hx
end
end Go.PL
namespace Go.G
open Go.RowKit
mutual
def A.soft:A→A
 |.sl _ xs=>.sl false (A.softL xs)
 |.agg cs=>.agg (A.softL cs)
 |.tup cs=>.tup (A.softL cs)
 |.pim cs=>.pim (A.softL cs)
 |.ifc t x=>.ifc t (A.soft x)
 |.any=>.any
 |.v x=>.v x
 |.pob o u off=>.pob o u off
 |.osl o u sz off len=>.osl o u sz off len
 |.pel o u i j=>.pel o u i j
 |.fnc f fs cs=>.fnc f fs cs
def A.softL:List A→List A
 |[]=>[]
 |x::xs=>A.soft x::A.softL xs
end
theorem Cm:∀ l:List A,A.softL l=l.map A.soft
 |[]=>by simp[A.softL]
 |x::l=>by simp[A.softL,Cm l]
theorem VK (a:A):a.soft.cells=a.cells.map A.soft:=by cases a<;>simp[A.soft,A.cells,Cm]
theorem YI:∀ l:List A,(l.map A.soft).flatMap A.cells=(l.flatMap A.cells).map A.soft
 |[]=>rfl
 |x::l=>by simp[VK,YI l]
theorem aR (a:A):a.soft.one=a.one:=by cases a<;>simp[A.soft,A.one]
theorem Rel.soft {w:World} {I:Nat→Prop} {μ:Mu} {a:A} {x:Value} (h:Rel w I μ a x):Rel w I μ a.soft x:=by
 induction h with
 |any=>simpa[A.soft] using Rel.any _ _
 |v=>simpa[A.soft] using Rel.v _ _
 |slN μ f a cap h=>
  simp only[A.soft,A.softL]
  exact .slN _ _ _ _ (fun h=>nomatch h)
 |sl μ f b off n cap sz xs g hb hn hc hf hs h1 hcell hr ih=>
  simp only[A.soft,Cm]
  refine .sl _ _ b off n cap sz _ g hb (by simpa using hn) (by simpa using hc) (fun h=>nomatch h) (fun x hx=>?_) (fun k y hk=>?_) (fun k y hk=>?_) (fun k y hk=>?_)
  ·obtain⟨x',hx',rfl⟩:=List.mem_map.1 hx
   simpa[VK] using hs x' hx'
  all_goals
   rw[YI,List.getElem?_map,Option.map_eq_some_iff] at hk
   obtain⟨y',hy,rfl⟩:=hk
  ·rw[aR];exact h1 k y' hy
  ·exact hcell k y' hy
  ·exact ih k y' hy
 |agg μ cs vs hl _ ih=>
  simp only[A.soft,Cm]
  refine .agg _ _ _ (by simpa using hl) fun k y hk=>?_
  rw[List.getElem?_map,Option.map_eq_some_iff] at hk
  obtain⟨y',hy,rfl⟩:=hk
  exact ih k y' hy
 |tup μ cs vs hl _ ih=>
  simp only[A.soft,Cm]
  refine .tup _ _ _ (by simpa using hl) fun k y hk=>?_
  rw[List.getElem?_map,Option.map_eq_some_iff] at hk
  obtain⟨y',hy,rfl⟩:=hk
  exact ih k y' hy
 |pim μ b off cs g hb h1 hcell hr ih=>
  simp only[A.soft,Cm]
  refine .pim _ b off _ g hb (fun k y hk=>?_) (fun k y hk=>?_) (fun k y hk=>?_)
  all_goals
   rw[List.getElem?_map,Option.map_eq_some_iff] at hk
   obtain⟨y',hy,rfl⟩:=hk
  ·rw[aR];exact h1 k y' hy
  ·exact hcell k y' hy
  ·exact ih k y' hy
 |pob _ _ _ _ _ _ h1 h2 h3=>simpa[A.soft] using Rel.pob _ _ _ _ _ _ h1 h2 h3
 |osl _ _ _ _ _ _ _ _ h1 h2 h4 h5 h3=>simpa[A.soft] using Rel.osl _ _ _ _ _ _ _ _ h1 h2 h4 h5 h3
 |pel _ _ _ _ _ _ _ h1 h2 h3=>simpa[A.soft] using Rel.pel _ _ _ _ _ _ _ h1 h2 h3
 |fnc _ _ _ _ _ _ hl0 h0 hl h _ _=>simpa[A.soft] using Rel.fnc _ _ _ _ _ _ hl0 h0 hl h
 |ifc _ _ _ _ _ ih=>simpa[A.soft] using Rel.ifc _ _ _ _ ih
theorem Spec.soft {P:Program} {f:FuncId} {as' as'':List A} {r:A} (h:Spec P f as'' r) (e:A.softL as'=as''):Spec P f as' r:=by
 subst e
 refine⟨h.1,fun w I vs hI ht hn ha=>h.2 w I vs hI ht (by simpa[Cm] using hn) fun k y hk=>?_⟩
 rw[Cm,List.getElem?_map,Option.map_eq_some_iff] at hk
 obtain⟨y',hy,rfl⟩:=hk
 exact(ha k y' hy).soft
theorem SpecB.soft {P:Program} {f:FuncId} {as' as'':List A} {r:A} (h:SpecB P f as'' r) (e:A.softL as'=as''):SpecB P f as' r:=by
 subst e
 refine⟨h.1,fun w I J vs hI hJ ht hn ha=>h.2 w I J vs hI hJ ht (by simpa[Cm] using hn) fun k y hk=>?_⟩
 rw[Cm,List.getElem?_map,Option.map_eq_some_iff] at hk
 obtain⟨y',hy,rfl⟩:=hk
 exact(ha k y' hy).soft
theorem nJ {H:Hp} {a:A} (h:a.bare=true):Jd H a a.soft:=fun c w I μ v hs hr=>(Ab h c w I μ v hs hr).soft
mutual
def A.ren (g:Nm→Nm) (δ:Nm→Nat):A→A
 |.pob o u off=>.pob (g o) (u+δ o) off
 |.osl o u sz off len=>.osl (g o) (u+δ o) sz off len
 |.pel o u i j=>.pel (g o) (u+δ o) i j
 |.agg cs=>.agg (A.renL g δ cs)
 |.tup cs=>.tup (A.renL g δ cs)
 |.fnc f fs cs=>.fnc f (A.renL g δ fs) (A.renL g δ cs)
 |.ifc t x=>.ifc t (A.ren g δ x)
 |.any=>.any
 |.v x=>.v x
 |.sl f xs=>.sl f xs
 |.pim cs=>.pim cs
def A.renL (g:Nm→Nm) (δ:Nm→Nat):List A→List A
 |[]=>[]
 |x::xs=>A.ren g δ x::A.renL g δ xs
end
mutual
def A.refs (S:Nm→Prop):A→Prop
 |.pob o u off=>S o
 |.osl o u sz off len=>S o
 |.pel o u i j=>S o
 |.agg cs=>A.refsL S cs
 |.tup cs=>A.refsL S cs
 |.fnc f fs cs=>A.refsL S fs∧A.refsL S cs
 |.ifc t x=>A.refs S x
 |.any=>True
 |.v x=>True
 |.sl f xs=>True
 |.pim cs=>True
def A.refsL (S:Nm→Prop):List A→Prop
 |[]=>True
 |x::xs=>A.refs S x∧A.refsL S xs
end
theorem CD {g:Nm→Nm} {δ:Nm→Nat}:∀ l:List A,A.renL g δ l=l.map (A.ren g δ)
 |[]=>by simp[A.renL]
 |x::l=>by simp[A.renL,CD l]
theorem refsL_iff {S:Nm→Prop}:∀ {l:List A},A.refsL S l ↔ ∀ x,x ∈ l→x.refs S
 |[]=>by simp[A.refsL]
 |x::l=>by simp[A.refsL,refsL_iff (l:=l)]
theorem YV {g:Nm→Nm} {δ:Nm→Nat} (a:A):(a.ren g δ).cells=a.cells.map (A.ren g δ):=by cases a<;>simp[A.ren,A.cells,CD]
theorem ca {g:Nm→Nm} {δ:Nm→Nat}:∀ l:List A,(l.map (A.ren g δ)).flatMap A.cells=(l.flatMap A.cells).map (A.ren g δ)
 |[]=>rfl
 |x::l=>by simp[YV,ca l]
theorem js {g:Nm→Nm} {δ:Nm→Nat} (a:A):(a.ren g δ).one=a.one:=by cases a<;>simp[A.ren,A.one]
theorem gY {S:Nm→Prop} {a y:A} (h:a.refs S) (hy:y ∈ a.cells):y.refs S:=by
 cases a<;>simp[A.cells] at hy<;>first | (subst hy;exact h) | exact refsL_iff.1 (by simpa[A.refs] using h) y hy
theorem Rel.ren {w:World} {I:Nat→Prop} {μ:Mu} {a:A} {v:Value} (h:Rel w I μ a v):∀ {μ':Mu} {S:Nm→Prop} {g:Nm→Nm} {δ:Nm→Nat},a.refs S→(∀ o,S o→1≤(μ o).u→μ' (g o)={ μ o with u:=(μ o).u+δ o })→Rel w I μ' (a.ren g δ) v:=by
 induction h with
 |any=>intro μ' S g δ _ _;simpa[A.ren] using Rel.any _ _
 |v=>intro μ' S g δ _ _;simpa[A.ren] using Rel.v _ _
 |slN _ _ _ _ h=>intro μ' S g δ _ _;simpa[A.ren] using Rel.slN _ _ _ _ h
 |sl μ f b off n cap sz xs g hb hn hc hf hs h1 hcell hr _=>intro μ' S g' δ _ _;simpa[A.ren] using Rel.sl _ f b off n cap sz xs g hb hn hc hf hs h1 hcell hr
 |pim μ b off cs g hb h1 hcell hr _=>intro μ' S g' δ _ _;simpa[A.ren] using Rel.pim _ b off cs g hb h1 hcell hr
 |agg μ cs vs hl _ ih=>
  intro μ' S g δ hS hμ
  simp only[A.ren,CD]
  refine .agg _ _ _ (by simpa using hl) fun k y hk=>?_
  rw[List.getElem?_map,Option.map_eq_some_iff] at hk
  obtain⟨y',hy,rfl⟩:=hk
  exact ih k y' hy (refsL_iff.1 (by simpa[A.refs] using hS) y' (List.mem_of_getElem? hy)) hμ
 |tup μ cs vs hl _ ih=>
  intro μ' S g δ hS hμ
  simp only[A.ren,CD]
  refine .tup _ _ _ (by simpa using hl) fun k y hk=>?_
  rw[List.getElem?_map,Option.map_eq_some_iff] at hk
  obtain⟨y',hy,rfl⟩:=hk
  exact ih k y' hy (refsL_iff.1 (by simpa[A.refs] using hS) y' (List.mem_of_getElem? hy)) hμ
 |fnc μ f fs caps us vs hl0 _ hl _ ih0 ih=>
  intro μ' S g δ hS hμ
  simp only[A.refs] at hS
  simp only[A.ren,CD]
  refine .fnc _ _ _ _ _ _ (by simpa using hl0) (fun k y hk=>?_) (by simpa using hl) fun k y hk=>?_
  ·rw[List.getElem?_map,Option.map_eq_some_iff] at hk
   obtain⟨y',hy,rfl⟩:=hk
   exact ih0 k y' hy (refsL_iff.1 hS.1 y' (List.mem_of_getElem? hy)) hμ
  ·rw[List.getElem?_map,Option.map_eq_some_iff] at hk
   obtain⟨y',hy,rfl⟩:=hk
   exact ih k y' hy (refsL_iff.1 hS.2 y' (List.mem_of_getElem? hy)) hμ
 |ifc _ _ _ _ _ ih=>
  intro μ' S g δ hS hμ
  simp only[A.ren]
  exact .ifc _ _ _ _ (ih (by simpa[A.refs] using hS) hμ)
 |pob μ o u off b k h1 h2 h3=>
  intro μ' S g δ hS hμ
  have e:=hμ o (by simpa[A.refs] using hS) (by omega)
  simp only[A.ren]
  exact .pob _ _ _ _ _ _ (by omega) (by rw[e];simpa using h2) fun hu=>by rw[e] at hu ⊢; exact h3 (by simpa using hu)
 |osl μ o u sz off len a cap h1 h2 h4 h5 h3=>
  intro μ' S g δ hS hμ
  have e:=hμ o (by simpa[A.refs] using hS) (by omega)
  simp only[A.ren]
  exact .osl _ _ _ _ _ _ _ _ (by omega) (by rw[e];simpa using h2) h4 h5 fun hu=>by rw[e] at hu ⊢; exact h3 (by simpa using hu)
 |pel μ o u i j b k h1 h2 h3=>
  intro μ' S g δ hS hμ
  have e:=hμ o (by simpa[A.refs] using hS) (by omega)
  simp only[A.ren]
  exact .pel _ _ _ _ _ _ _ (by omega) (by rw[e];simpa using h2) fun hu=>by rw[e] at hu ⊢; exact h3 (by simpa using hu)
def Ob.ren (g:Nm→Nm) (δ:Nm→Nat):Ob→Ob
 |.none=>.none
 |.cells cs=>.cells (A.renL g δ cs)
 |.arr sz xs=>.arr sz (A.renL g δ xs)
def Ob.refs (S:Nm→Prop):Ob→Prop
 |.none=>True
 |.cells cs=>A.refsL S cs
 |.arr sz xs=>A.refsL S xs
theorem WY {g:Nm→Nm} {δ:Nm→Nat} {L:vi} {ob:Ob}:Eg L (ob.ren g δ)=Eg L ob:=by cases ob<;>rfl
theorem OSim.ren {w:World} {I:Nat→Prop} {μ μ':Mu} {L L':vi} {ob:Ob} {S:Nm→Prop} {g:Nm→Nm} {δ:Nm→Nat} (h:OSim w I μ L ob) (hS:ob.refs S) (hμ:∀ o,S o→1≤(μ o).u→μ' (g o)={ μ o with u:=(μ o).u+δ o }) (hL:L'={ L with u:=L'.u }) :
  OSim w I μ' L' (ob.ren g δ):=by
 rw[hL]
 cases ob with
 |none=>trivial
 |cells cs=>
  obtain⟨vs,h1,h2,h3⟩:=h
  simp only[Ob.ren,CD]
  refine⟨vs,h1,by simpa using h2,fun k y hk=>?_⟩
  rw[List.getElem?_map,Option.map_eq_some_iff] at hk
  obtain⟨y',hy,rfl⟩:=hk
  exact⟨by rw[js];exact(h3 k y' hy).1,(h3 k y' hy).2.ren (refsL_iff.1 hS y' (List.mem_of_getElem? hy)) hμ⟩
 |arr sz xs=>
  simp only[Ob.ren,CD]
  obtain⟨h0,⟨h1,h2⟩ | ⟨h1,vs,h3,h4,h5,h6,h7⟩⟩:=h
  ·exact⟨h0,.inl ⟨h1,by rw[h2];rfl⟩⟩
  ·refine⟨h0,.inr ⟨h1,vs,h3,h4,by simpa using h5,fun x hx=>?_,fun k y hk=>?_⟩⟩
   ·obtain⟨x',hx',rfl⟩:=List.mem_map.1 hx
    simpa[YV] using h6 x' hx'
   ·rw[ca,List.getElem?_map,Option.map_eq_some_iff] at hk
    obtain⟨y',hy,rfl⟩:=hk
    obtain⟨x,hx,hy'⟩:=List.mem_flatMap.1 (List.mem_of_getElem? hy)
    exact⟨by rw[js];exact(h7 k y' hy).1,(h7 k y' hy).2.ren (gY (refsL_iff.1 hS x hx) hy') hμ⟩
def EP (P:Program) (w0:World) (I0:Nat→Prop) (M0:Nm→Nat→Prop) (n:Nat) (m0:Mu):Cx:=⟨P,w0,I0,M0,n,m0⟩
@[simp] theorem Ajf {P:Program} {w0:World} {I0:Nat→Prop} {M0:Nm→Nat→Prop} {n:Nat} {m0:Mu}:(EP P w0 I0 M0 n m0).P=P:=rfl
def NV (P:Program) (f:FuncId) (k:Nat) (args:List A) (Hc:Hp) (r:A) (Hr:Hp):Prop:=
 XK P f=true∧∀ (w:World) (I:Nat→Prop) (M0:Nm→Nat→Prop) (n:Nat) (μ:Mu) (vs:Array Value),(∀ (o:Nm) (b:Nat),(Hc o).ob = .none→¬ M0 o b)→Sim (EP P w I M0 n μ) w I μ Hc→vs.size=args.length→(∀ (k:Nat) (y:A),args[k]? = some y→Rel w I μ y (vs.getD k undef)) →
  Calls P f vs w fun e w'=>∃ v,e = .returned v∧∃ H' I' μ',Sim (EP P w I M0 n μ) w' I' μ' H'∧Rel w' I' μ' r v∧∀ (i:Nat) (p:Nm),i<k→H' (i::p)=Hr (i::p)
theorem Sim.of_n {P:Program} {w0 w:World} {I0 I:Nat→Prop} {M0:Nm→Nat→Prop} {n n':Nat} {m0 μ:Mu} {H:Hp} (h:Sim (EP P w0 I0 M0 n m0) w I μ H):Sim (EP P w0 I0 M0 n' m0) w I μ H:=
 ⟨h.kept,h.lt,h.old,h.new,h.ver,h.ob,h.apart,h.own,h.mle,h.tag,h.tab⟩
def SN (c:Cx) (rs:List ResultVar) (k:Nat) (r:A) (Hr:Hp):Exit→Sta→Prop:=fun e st=>Us c (lQ c.P rs (fun r0 H=>r0=r∧∀ (i:Nat) (p:Nm),i<k→H (i::p)=Hr (i::p)) e) st
theorem Rx {c:Cx} {rs:List ResultVar} {k:Nat} {r:A} {Hr:Hp} {e:Exit} {st st':Sta} (h:Le c st st') (k':SN c rs k r Hr e st'):SN c rs k r Hr e st:=CJ h k'
theorem ba {c:Cx} {rs:List ResultVar} {k:Nat} {r r0:A} {Hr:Hp} {st:Sta} (h:Ms c.P st rs=some r0) (he:r0=r) (hh:∀ (i:Nat) (p:Nm),i<k→st.H (i::p)=Hr (i::p)):SN c rs k r Hr .ret st:=Ep ⟨r0,h,he,hh⟩
theorem Ux {c:Cx} {rs:List ResultVar} {k:Nat} {r r0:A} {Hr:Hp} {st:Sta} (h:Ms c.P st rs=some r0) (he:r0=r) (hh:∀ (i:Nat) (p:Nm),i<k→st.H (i::p)=Hr (i::p)):SN c rs k r Hr .normal st:=Ep ⟨r0,h,he,hh⟩
theorem YQ {P:Program} {f:FuncId} {n k:Nat} {rs:List ResultVar} {cc:CC} {args:List A} {Hc:Hp} {r:A} {Hr:Hp} (t:AX P f n rs cc) (ha:args.length≤n)
  (h:∀ w0 I0 M0 m0,(∀ (o:Nm) (b:Nat),(Hc o).ob = .none→¬ M0 o b)→WPC (EP P w0 I0 M0 n m0) cc (SN (EP P w0 I0 M0 n m0) rs k r Hr) ⟨QP args,Hc⟩):NV P f k args Hc r Hr:=by
 obtain⟨hm,hk,fn,code,hf,hb,hn,hrs,hc⟩:=t
 refine⟨hk,fun w I M0 n' μ vs hN hs hl har=>?_⟩
 refine(Xh (Q:=fun r0 H=>r0=r∧∀ (i:Nat) (p:Nm),i<k→H (i::p)=Hr (i::p)) hf hb (c:=EP P w I M0 n μ) rfl hn.symm hl (by omega) (Sim.of_n hs) har (fun a w1 I1 μ1 hsr=>wp_mono (OQ (c:=EP P w I M0 n μ) hm hc (h w I M0 μ hN) a w1 I1 μ1 hsr) fun e a' w' ⟨st',I',μ',g1,st2,g2,g3⟩=>by
   obtain⟨I2,μ2,g4⟩:=g2 a' w' I' μ' g1
   exact⟨st2,I2,μ2,g4,by rw[hrs];exact g3⟩)).mono fun e w' ⟨v,r0,H',I',μ',he,h1,h2,h3,h4⟩=>?_
 subst h3
 exact⟨v,he,H',I',μ',h1.of_n,h2,h4⟩
theorem SE {P:Program} {f:FuncId} {n k:Nat} {rs:List ResultVar} {cc:CC} {args:List A} {Hc:Hp} {r:A} {Hr:Hp} (t:AX P f n rs cc) (ha:args.length≤n)
  (h:∀ w0 I0 M0 m0,WPC (EP P w0 I0 M0 n m0) cc (SN (EP P w0 I0 M0 n m0) rs k r Hr) ⟨QP args,Hc⟩):NV P f k args Hc r Hr:=YQ t ha fun w0 I0 M0 m0 _=>h w0 I0 M0 m0
def Xo (rs:List Nat):Nm→Nm
 |i::p=>rs.getD i 0::p
 |[]=>[]
def ZU (rs:List Nat):Nm→Nm
 |j::p=>rs.idxOf j::p
 |[]=>[]
def YX (rs:List Nat) (m:Nat):Nm→Prop
 |j::p=>rs.idxOf j<m
 |[]=>False
def Jk (k:Nat):Nm→Prop
 |i::p=>i<k
 |[]=>False
def PT (rs:List Nat) (m:Nat) (H:Hp):Nm→Nat
 |i::p=>if i<m then 0 else if i<rs.length then (H (rs.getD i 0::p)).u else 0
 |[]=>0
def VOb.ren (g:Nm→Nm) (δ:Nm→Nat) (d:Nat) (x:VOb):VOb:=⟨x.u+d,x.ob.ren g δ⟩
def Hz (rs:List Nat) (m:Nat) (H Hr:Hp):Hp
 |j::p=>(Hr (rs.idxOf j::p)).ren (Xo rs) (PT rs m H) (PT rs m H (rs.idxOf j::p))
 |[]=>⟨0,.none⟩
theorem Mi {rs:List Nat} (hnd:rs.Nodup) {i:Nat} (h:i<rs.length):rs.idxOf (rs.getD i 0)=i:=by
 have e:rs.getD i 0=rs[i]:=by simp[List.getD,h]
 rw[e]
 exact hnd.idxOf_getElem i h
theorem RK {rs:List Nat} {j:Nat} (h:j ∈ rs):rs.getD (rs.idxOf j) 0=j:=by
 have hl:=List.idxOf_lt_length_iff.2 h
 simp[List.getD,hl]
theorem idx_mem {rs:List Nat} {j:Nat}:rs.idxOf j<rs.length ↔ j ∈ rs:=List.idxOf_lt_length_iff
theorem fX {g:Nm→Nm} {δ:Nm→Nat} {d:Nat} {x:VOb} (h:(x.ren g δ d).ob = .none):x.ob = .none:=by
 cases x with
 |mk u ob=>cases ob<;>first | rfl | cases h
theorem Tc {P:Program} {f:FuncId} {rs:List Nat} {m:Nat} {args:List A} {Hc Hr:Hp} {r:A} {H:Hp} (hnd:rs.Nodup) (hm:m≤rs.length)
  (hS:NV P f rs.length (A.renL (ZU rs) (fun _=>0) args) Hc r Hr)
  (h1:∀ (i:Nat) (p:Nm),i<m→Hc (i::p)=(H (rs.getD i 0::p)).ren (ZU rs) (fun _=>0) 0) (h2:∀ (i:Nat) (p:Nm),m≤i→Hc (i::p)=⟨0,.none⟩) (h3:Hc []=⟨0,.none⟩)
  (ha:A.refsL (YX rs m) args) (hc:∀ (i:Nat) (p:Nm),i<m→(H (rs.getD i 0::p)).ob.refs (YX rs m))
  (hr:r.refs (Jk rs.length)) (ho:∀ (i:Nat) (p:Nm),i<rs.length→(Hr (i::p)).ob.refs (Jk rs.length))
  (hv:∀ (i:Nat) (p:Nm),m≤i→i<rs.length→(Hr (i::p)).ob = .none∨1≤(Hr (i::p)).u) :
  Xl P H f args (r.ren (Xo rs) (PT rs m H)) (.fn rs (Hz rs m H Hr)):=by
 refine⟨hS.1,fun c w I μ vs hP hs hl har=>?_⟩
 let nm:Nat→Nm→Nm:=fun i p=>rs.getD i 0::p
 let μc:Mu:=fun o=>match o with
  |i::p=>if i<m then μ (nm i p) else Xu (i::p)
  |[]=>Xu []
 let M1:Nm→Nat→Prop:=fun o b=>∃ i p,o=i::p∧i<m∧Eg (μ (nm i p)) (H (nm i p)).ob=true∧b=(μ (nm i p)).b
 have hμ:∀ o,YX rs m o→1≤(μ o).u→μc (ZU rs o)={ μ o with u:=(μ o).u+(fun _=>0) o }:=fun o ho _=>by
  cases o with
  |nil=>exact ho.elim
  |cons j p=>
   have hj:rs.idxOf j<m:=ho
   show(if rs.idxOf j<m then μ (nm (rs.idxOf j) p) else _)=_
   rw[if_pos hj]
   have:nm (rs.idxOf j) p=j::p:=by show rs.getD (rs.idxOf j) 0::p=_;rw[RK (idx_mem.1 (by omega))]
   rw[this]
   rfl
 have nm_ne:∀ {i i':Nat} {p p':Nm},i<rs.length→i'<rs.length→i::p ≠ i'::p'→nm i p ≠ nm i' p':=fun {i i' p p'} hi hi' hne e=>by
  have e1:rs.getD i 0=rs.getD i' 0:=by injection e
  have e2:p=p':=by injection e
  have:=Mi hnd hi
  rw[e1,Mi hnd hi'] at this
  exact hne (by rw[this,e2])
 have own1:∀ (i:Nat) (p:Nm),Eg (μc (i::p)) (Hc (i::p)).ob=true→i<m∧Eg (μ (nm i p)) (H (nm i p)).ob=true∧μc (i::p)=μ (nm i p):=fun i p h=>by
  by_cases hi:i<m
  ·have e:μc (i::p)=μ (nm i p):=if_pos hi
   rw[e,h1 i p hi] at h
   simp only[VOb.ren,WY] at h
   exact⟨hi,h,e⟩
  ·rw[h2 i p (by omega)] at h;cases h
 have start:Sim (EP P w I M1 0 μc) w I μc Hc:=by
  refine⟨⟨rfl,rfl,rfl,BW _,fun _ _ _=>rfl⟩,hs.lt,fun _ h=>h,fun b hb=>.inl hb,fun o=>?_,fun o=>?_,fun o o' k k' hne=>?_,fun o k=>?_,MuLe.refl _,fun o k=>?_,by subst hP;exact hs.tab⟩
  ·cases o with
   |nil=>rw[h3];rfl
   |cons i p=>
    by_cases hi:i<m
    ·have e:μc (i::p)=μ (nm i p):=if_pos hi
     rw[e,h1 i p hi,hs.ver];rfl
    ·have e:μc (i::p)=Xu (i::p):=if_neg hi
     rw[e,h2 i p (by omega)];rfl
  ·cases o with
   |nil=>rw[h3];trivial
   |cons i p=>
    by_cases hi:i<m
    ·have e:μc (i::p)=μ (nm i p):=if_pos hi
     rw[e,h1 i p hi]
     exact(hs.ob (nm i p)).ren (hc i p hi) hμ rfl
    ·rw[h2 i p (by omega)];trivial
  ·cases o with
   |nil=>rw[h3] at k;cases k
   |cons i p=>
    cases o' with
    |nil=>rw[h3] at k';cases k'
    |cons i' p'=>
     obtain⟨q1,q2,q3⟩:=own1 i p k
     obtain⟨r1,r2,r3⟩:=own1 i' p' k'
     rw[q3,r3]
     exact hs.apart _ _ q2 r2 (nm_ne (by omega) (by omega) hne)
  ·cases o with
   |nil=>rw[h3] at k;cases k
   |cons i p=>
    obtain⟨q1,q2,q3⟩:=own1 i p k
    rw[q3]
    obtain⟨g1,g2,g3⟩:=hs.own _ q2
    exact⟨g1,.inl ⟨i,p,rfl,q1,q2,rfl⟩,g3⟩
  ·cases o with
   |nil=>rw[h3] at k;cases k
   |cons i p=>
    obtain⟨q1,q2,q3⟩:=own1 i p k
    rw[q3]
    exact hs.tag _ q2
 have harg:∀ (k:Nat) (y:A),(A.renL (ZU rs) (fun _=>0) args)[k]? = some y→Rel w I μc y (vs.getD k undef):=fun k y hk=>by
  rw[CD,List.getElem?_map,Option.map_eq_some_iff] at hk
  obtain⟨y',hy,rfl⟩:=hk
  exact(har k y' hy).ren (refsL_iff.1 ha y' (List.mem_of_getElem? hy)) hμ
 refine(hS.2 w I M1 0 μc vs (fun o b h ⟨i,p,e,hi,hb,_⟩=>by
  subst e
  rw[h1 i p hi] at h
  rw[show(H (nm i p)).ob = .none from fX h] at hb
  cases hb) start (by simpa[CD] using hl) harg).mono fun e w' ⟨v,he,H',I',μ',hs',hrel,hH'⟩=>⟨v,he,I',?_⟩
 let δ:=PT rs m H
 let μ2:Mu:=fun n=>match n with
  |j::p=>if j ∈ rs then (if rs.idxOf j<m∨1≤(μ' (rs.idxOf j::p)).u then { μ' (rs.idxOf j::p) with u:=(μ' (rs.idxOf j::p)).u+δ (rs.idxOf j::p) } else μ (j::p)) else μ (j::p)
  |[]=>μ []
 have δ0:∀ {i:Nat} {p:Nm},i<m→δ (i::p)=0:=fun {i p} h=>if_pos h
 have δ1:∀ {i:Nat} {p:Nm},¬ i<m→i<rs.length→δ (i::p)=(H (nm i p)).u:=fun {i p} h h'=>by
  show(if i<m then _ else _)=_
  rw[if_neg h,if_pos h']
 have nmj:∀ {j:Nat} {p:Nm},j ∈ rs→nm (rs.idxOf j) p=j::p:=fun {j p} h=>by show rs.getD (rs.idxOf j) 0::p=_;rw[RK h]
 have app_in:∀ {j:Nat} {p:Nm},j ∈ rs→(Eff.fn rs (Hz rs m H Hr)).app H (j::p)=Hz rs m H Hr (j::p):=fun {j p} h=>by simp[Eff.app,h]
 have app_out:∀ {j:Nat} {p:Nm},j ∉ rs→(Eff.fn rs (Hz rs m H Hr)).app H (j::p)=H (j::p):=fun {j p} h=>by simp[Eff.app,h]
 have app_nil':(Eff.fn rs (Hz rs m H Hr)).app H []=H []:=rfl
 have mu_in:∀ {j:Nat} {p:Nm},j ∈ rs→(rs.idxOf j<m∨1≤(μ' (rs.idxOf j::p)).u)→μ2 (j::p)={ μ' (rs.idxOf j::p) with u:=(μ' (rs.idxOf j::p)).u+δ (rs.idxOf j::p) }:=fun {j p} h h'=>by
  show(if j ∈ rs then _ else _)=_
  rw[if_pos h,if_pos h']
 have mu_old:∀ {j:Nat} {p:Nm},j ∈ rs→¬ (rs.idxOf j<m∨1≤(μ' (rs.idxOf j::p)).u)→μ2 (j::p)=μ (j::p):=fun {j p} h h'=>by
  show(if j ∈ rs then _ else _)=_
  rw[if_pos h,if_neg h']
 have mu_out:∀ {j:Nat} {p:Nm},j ∉ rs→μ2 (j::p)=μ (j::p):=fun {j p} h=>by
  show(if j ∈ rs then _ else _)=_
  rw[if_neg h]
 have hle:MuLe μ μ2:=fun o=>by
  cases o with
  |nil=>exact⟨BW _,fun _=>rfl⟩
  |cons j p=>
   by_cases hj:j ∈ rs
   ·by_cases hi:rs.idxOf j<m
    ·rw[mu_in hj (.inl hi),δ0 hi]
     have e:μc (rs.idxOf j::p)=μ (j::p):=by
      show(if rs.idxOf j<m then _ else _)=_
      rw[if_pos hi,nmj hj]
     have:=hs'.mle (rs.idxOf j::p)
     change (μc (rs.idxOf j::p)).u≤_∧(_=(μc (rs.idxOf j::p)).u→_=μc (rs.idxOf j::p)) at this
     rw[e] at this
     exact⟨this.1,fun q=>by rw[← this.2 q];rfl⟩
    ·by_cases hu:1≤(μ' (rs.idxOf j::p)).u
     ·rw[mu_in hj (.inr hu),δ1 hi (idx_mem.2 hj),nmj hj,← hs.ver]
      exact⟨by simp,fun q=>by simp at q;omega⟩
     ·rw[mu_old hj (by omega)];exact⟨BW _,fun _=>rfl⟩
   ·rw[mu_out hj];exact⟨BW _,fun _=>rfl⟩
 have notM1:∀ {n:Nm} {b:Nat},Eg (μ n) (H n).ob=true→b=(μ n).b→(∀ j p,n=j::p→j ∉ rs)→¬ ∃ o,M1 o b:=fun {n b} hb e hn ⟨_,i,p,_,q1,q2,q3⟩=>by
  refine hs.apart n (nm i p) hb q2 (fun e'=>?_) (by rw[← e,q3])
  refine hn _ _ e' ?_
  have:i<rs.length:=by omega
  simp[List.getD,this]
 have hx:Ext I μ w I' μ2 w':=⟨fun b h=>hs'.old b h,fun b h=>hs'.kept.block b (hs.lt b h) (fun ⟨_,i,p,_,q1,q2,q3⟩=>(hs.own _ q2).1 (by rw[← q3];exact h)),hle⟩
 have hμ2:∀ o,Jk rs.length o→1≤(μ' o).u→μ2 (Xo rs o)={ μ' o with u:=(μ' o).u+δ o }:=fun o ho h1=>by
  cases o with
  |nil=>exact ho.elim
  |cons i p=>
   have hi:i<rs.length:=ho
   have e:=Mi hnd hi
   have hmem:rs.getD i 0 ∈ rs:=idx_mem.1 (by rw[e];exact hi)
   show μ2 (rs.getD i 0::p)=_
   rw[mu_in hmem (.inr (by rw[e];exact h1)),e]
 have oH:∀ {j:Nat} {p:Nm},j ∈ rs→(H' (rs.idxOf j::p))=Hr (rs.idxOf j::p):=fun {j p} h=>hH' _ _ (idx_mem.2 h)
 have own2:∀ {j:Nat} {p:Nm},j ∈ rs→Eg (μ2 (j::p)) (Hz rs m H Hr (j::p)).ob=true→Eg (μ' (rs.idxOf j::p)) (H' (rs.idxOf j::p)).ob=true∧(μ2 (j::p)).b=(μ' (rs.idxOf j::p)).b:=fun {j p} hj h=>by
  simp only[Hz,VOb.ren,WY] at h
  by_cases hi:rs.idxOf j<m∨1≤(μ' (rs.idxOf j::p)).u
  ·rw[mu_in hj hi] at h ⊢
   rw[oH hj]
   exact⟨by cases hq:(Hr (rs.idxOf j::p)).ob<;>rw[hq] at h<;>exact h,rfl⟩
  ·rcases hv (rs.idxOf j) p (by omega) (idx_mem.2 hj) with e | e
   ·rw[e] at h;cases h
   ·rw[← oH hj,← hs'.ver] at e;omega
 have own3:∀ {j:Nat} {p:Nm},j ∈ rs→Eg (μ2 (j::p)) (Hz rs m H Hr (j::p)).ob=true→(μ2 (j::p)).e=(μ' (rs.idxOf j::p)).e:=fun {j p} hj h=>by
  simp only[Hz,VOb.ren,WY] at h
  by_cases hi:rs.idxOf j<m∨1≤(μ' (rs.idxOf j::p)).u
  ·rw[mu_in hj hi]
  ·rcases hv (rs.idxOf j) p (by omega) (idx_mem.2 hj) with e | e
   ·rw[e] at h;cases h
   ·rw[← oH hj,← hs'.ver] at e;omega
 have blk:∀ {i:Nat} {p:Nm},Eg (μ' (i::p)) (H' (i::p)).ob=true→¬ I' (μ' (i::p)).b∧(M1 (i::p) (μ' (i::p)).b∨w.heap.size≤(μ' (i::p)).b)∧(μ' (i::p)).b<w'.heap.size:=fun {i p} h=>hs'.own _ h
 refine⟨μ2,hx,⟨?_,hs'.lt,fun b h=>hs'.old b (hs.old b h),fun b h=>?_,fun o=>?_,fun o=>?_,fun o o' k k' hne=>?_,fun o k=>?_,hs.mle.trans hle,fun o k=>?_,by subst hP;exact hs'.tab⟩,hrel.ren hr hμ2⟩
 ·have k1:=hs.kept
  have k2:=hs'.kept
  refine⟨k2.os.trans k1.os,k2.tape.trans k1.tape,k2.output.trans k1.output,Nat.le_trans k1.size k2.size,fun b hb hM=>?_⟩
  refine(k2.block b (Nat.lt_of_lt_of_le hb k1.size) (fun ⟨_,i,p,_,q1,q2,q3⟩=>?_)).trans (k1.block b hb hM)
  rcases (hs.own _ q2).2.1 with g | g
  ·rw[← q3] at g;exact hM ⟨_,g⟩
  ·rw[← q3] at g;omega
 ·rcases hs'.new b h with g | g
  ·exact hs.new b g
  ·exact .inr (Nat.le_trans hs.kept.size g)
 ·cases o with
  |nil=>exact hs.ver []
  |cons j p=>
   by_cases hj:j ∈ rs
   ·rw[app_in hj]
    show _=(Hr (rs.idxOf j::p)).u+δ (rs.idxOf j::p)
    rw[← oH hj,← hs'.ver]
    by_cases hi:rs.idxOf j<m∨1≤(μ' (rs.idxOf j::p)).u
    ·rw[mu_in hj hi]
    ·rw[mu_old hj hi,δ1 (by omega) (idx_mem.2 hj),nmj hj,hs.ver];omega
   ·rw[app_out hj,mu_out hj];exact hs.ver _
 ·cases o with
  |nil=>exact OSim.keep hx (fun hb=>hs'.kept.block _ (hs.own _ hb).2.2 (notM1 hb rfl (fun j p e=>nomatch e))) (hs.ob [])
  |cons j p=>
   by_cases hj:j ∈ rs
   ·rw[app_in hj]
    by_cases hi:rs.idxOf j<m∨1≤(μ' (rs.idxOf j::p)).u
    ·rw[mu_in hj hi]
     have:=hs'.ob (rs.idxOf j::p)
     rw[oH hj] at this
     exact this.ren (ho _ _ (idx_mem.2 hj)) hμ2 rfl
    ·rcases hv (rs.idxOf j) p (by omega) (idx_mem.2 hj) with e | e
     ·simp only[Hz,VOb.ren,e];trivial
     ·rw[← oH hj,← hs'.ver] at e;omega
   ·rw[app_out hj,mu_out hj]
    exact OSim.keep hx (fun hb=>hs'.kept.block _ (hs.own _ hb).2.2 (notM1 hb rfl (fun j' p' e=>by cases e;exact hj))) (hs.ob _)
 ·have cross:∀ {j:Nat} {p:Nm} {n:Nm},j ∈ rs→Eg (μ2 (j::p)) (Hz rs m H Hr (j::p)).ob=true→Eg (μ n) (H n).ob=true→(∀ j p,n=j::p→j ∉ rs)→(μ2 (j::p)).b ≠ (μ n).b:=fun {j p n} hj h h' hn e=>by
   obtain⟨q1,q2⟩:=own2 hj h
   obtain⟨_,g,_⟩:=blk q1
   rw[q2] at e
   rcases g with g | g
   ·exact notM1 h' e hn ⟨_,g⟩
   ·have:=(hs.own _ h').2.2;omega
  cases o with
  |nil=>
   cases o' with
   |nil=>exact(hne rfl).elim
   |cons j' p'=>
    by_cases hj':j' ∈ rs
    ·rw[app_in hj'] at k'
     exact Ne.symm (cross hj' k' k (fun j p e=>nomatch e))
    ·rw[app_out hj',mu_out hj'] at k'
     rw[mu_out hj']
     exact hs.apart _ _ k k' hne
  |cons j p=>
   by_cases hj:j ∈ rs
   ·rw[app_in hj] at k
    cases o' with
    |nil=>exact cross hj k k' (fun j p e=>nomatch e)
    |cons j' p'=>
     by_cases hj':j' ∈ rs
     ·rw[app_in hj'] at k'
      obtain⟨q1,q2⟩:=own2 hj k
      obtain⟨r1,r2⟩:=own2 hj' k'
      rw[q2,r2]
      refine hs'.apart _ _ q1 r1 (fun e=>hne ?_)
      have e1:rs.idxOf j=rs.idxOf j':=by injection e
      have e2:p=p':=by injection e
      rw[← RK hj,← RK hj',e1,e2]
     ·rw[app_out hj',mu_out hj'] at k'
      rw[mu_out hj']
      exact cross hj k k' (fun j'' p'' e=>by cases e;exact hj')
   ·rw[app_out hj,mu_out hj] at k
    rw[mu_out hj]
    cases o' with
    |nil=>exact hs.apart _ _ k k' hne
    |cons j' p'=>
     by_cases hj':j' ∈ rs
     ·rw[app_in hj'] at k'
      exact Ne.symm (cross hj' k' k (fun j'' p'' e=>by cases e;exact hj))
     ·rw[app_out hj',mu_out hj'] at k'
      rw[mu_out hj']
      exact hs.apart _ _ k k' hne
 ·have far:∀ {n:Nm},Eg (μ n) (H n).ob=true→¬ I' (μ n).b∧(c.M0 n (μ n).b∨c.w0.heap.size≤(μ n).b)∧(μ n).b<w'.heap.size:=fun {n} h=>by
   obtain⟨g1,g2,g3⟩:=hs.own _ h
   refine⟨fun h'=>?_,g2,Nat.lt_of_lt_of_le g3 hs'.kept.size⟩
   rcases hs'.new _ h' with g | g
   ·exact g1 g
   ·exact absurd (show w.heap.size≤_ from g) (by omega)
  cases o with
  |nil=>exact far k
  |cons j p=>
   by_cases hj:j ∈ rs
   ·rw[app_in hj] at k
    obtain⟨q1,q2⟩:=own2 hj k
    rw[q2]
    obtain⟨g1,g2,g3⟩:=blk q1
    refine⟨g1,?_,g3⟩
    rcases g2 with ⟨i,p',r0,r1,r2,r3⟩ | g2
    ·have e1:rs.idxOf j=i:=by injection r0
     have e2:p=p':=by injection r0
     rw[← e1,← e2,nmj hj] at r2 r3
     rw[r3]
     exact(hs.own _ r2).2.1
    ·exact .inr (Nat.le_trans hs.kept.size g2)
   ·rw[app_out hj,mu_out hj] at k
    rw[mu_out hj]
    exact far k
 ·cases o with
  |nil=>exact hs.tag _ k
  |cons j p=>
   by_cases hj:j ∈ rs
   ·rw[app_in hj] at k
    rw[own3 hj k]
    exact hs'.tag _ (own2 hj k).1
   ·rw[app_out hj,mu_out hj] at k
    rw[mu_out hj]
    exact hs.tag _ k
def mk (P:Program) (t:TypeId) (as':List A):A:=match P.underlying t with
 |some (.struct _)=>.agg as'
 |_=>as'.headD .any
def pc (R:TypeId→List A→Prop):List Field→List A→Prop
 |[],as'=>as'=[]
 |f::fs,as'=>∃ a b,as'=a++b∧R f.type a∧pc R fs b
def Has (P:Program):Nat→TypeId→List A→Prop
 |0,_,_=>False
 |n+1,t,as'=>match P.underlying t with
  |some .bool=>∃ b,as'=[.v (.bool b)]
  |some (.int k)=>∃ m,(Lit.int k m).wf=true∧as'=[.v (.int k m)]
  |some .string=>∃ s,s.size≤maxLen∧s.size≤reachBytes∧as'=[.v (.string s)]
  |some (.slice e)=>∃ f xs,as'=[.sl f xs]∧xs.length≤maxLen∧xs.length*P.bytesOf e≤reachBytes∧(f=true→xs=[])∧∀ x,x ∈ xs→∃ b,Has P n e b∧x=mk P e b
  |some (.struct fs)=>pc (Has P n) fs.toList as'
  |_=>False
def tN (R:TypeId→List A→Prop):List TypeId→List A→Prop
 |[],as'=>as'=[]
 |t::ts,as'=>∃ a b,as'=a++b∧R t a∧tN R ts b
theorem WN {R:TypeId→List A→Prop}:∀ {fs:List Field} {as':List A},pc R fs as' ↔ tN R (fs.map Field.type) as'
 |[],as'=>Iff.rfl
 |f::fs,as'=>by simp only[pc,tN,List.map_cons,WN (fs:=fs)]
def je (P:Program):Nat→List Field→Option Nat
 |off,[]=>some off
 |off,f::fs=>if f.offset=off then je P (off+P.cellsOf f.type) fs else none
def NF (P:Program) (S:List TypeId):Bool:=S.all fun t=>match P.underlying t with
 |some .bool | some (.int _) | some .string=>P.cellsOf t == 1
 |some (.slice e)=>P.cellsOf t == 1&&(decide (0<P.cellsOf e)&&S.contains e)
 |some (.struct fs)=>je P 0 fs.toList == some (P.cellsOf t)&&fs.toList.all fun f=>S.contains f.type
 |_=>false
theorem jr {β:Type} {R:Nat→β→Prop}:∀ {n:Nat},(∀ i,i<n→∃ b,R i b)→∃ l:List β,l.length=n∧∀ (i:Nat) (b:β),l[i]? = some b→R i b
 |0,_=>⟨[],rfl,fun i b h=>by simp at h⟩
 |n+1,h=>by
  obtain⟨l,h1,h2⟩:=jr (n:=n) (fun i hi=>h i (by omega))
  obtain⟨b,hb⟩:=h n (by omega)
  refine⟨l++[b],by simp[h1],fun i c hc=>?_⟩
  rw[List.getElem?_append] at hc
  split at hc
  ·exact h2 i c hc
  ·rename_i hi
   have:i=n:=by
    have:=(List.getElem?_eq_some_iff.1 hc).1
    simp at this
    omega
   subst this
   simp[h1] at hc
   subst hc
   exact hb
theorem WR {α β:Type} {f:α→Option β}:∀ {l:List α} {r:List β},l.mapM f=some r→r.length=l.length∧∀ (i:Nat) (a:α),l[i]? = some a→∃ b,f a=some b∧r[i]? = some b
 |[],r,h=>by
  simp at h
  subst h
  exact⟨rfl,fun i a h=>by simp at h⟩
 |a::l,r,h=>by
  rw[List.mapM_cons] at h
  simp only[Option.bind_eq_bind,Option.bind_eq_some_iff] at h
  obtain⟨b,hb,r',hr,h⟩:=h
  cases h
  obtain⟨h1,h2⟩:=WR hr
  refine⟨by simp[h1],fun i c hc=>?_⟩
  cases i with
  |zero=>simp at hc;subst hc;exact⟨b,hb,rfl⟩
  |succ i=>simpa using h2 i c (by simpa using hc)
theorem cells?_get {w:World} {base:Nat} {a:Addr} {n:Nat} {cs:List Value} (h:w.cells? base a n=some cs):cs.length=n∧∀ i,i<n→w.cell? (a.add i)=some (cs.getD i undef):=by
 unfold World.cells? at h
 split at h
 ·obtain⟨h1,h2⟩:=WR h
  refine⟨by simpa using h1,fun i hi=>?_⟩
  obtain⟨b,hb,hr⟩:=h2 i i (by simp[hi])
  rw[hb]
  simp[List.getD,hr]
 ·cases h
theorem J3 {P:Program} {n:Nat} {t:TypeId} {as':List A} (h:Has P n t as'):(mk P t as').cells=as':=by
 cases n with
 |zero=>exact h.elim
 |succ n=>
  unfold Has at h
  unfold mk
  split at h
  ·rename_i hu;obtain⟨b,rfl⟩:=h;rw[hu];rfl
  ·rename_i hu;obtain⟨m,_,rfl⟩:=h;rw[hu];rfl
  ·rename_i hu;obtain⟨m,_,_,rfl⟩:=h;rw[hu];rfl
  ·rename_i hu;obtain⟨f,xs,rfl,_⟩:=h;rw[hu];rfl
  ·rename_i hu;rw[hu];rfl
  ·exact h.elim
theorem pR {sz:Nat} (hp:0<sz) {xs:List A} {k:Nat} {y:A} (h:∀ x,x ∈ xs→x.cells.length=sz) (hk:(xs.flatMap A.cells)[k]? = some y):∃ x,xs[k / sz]? = some x∧x.cells[k % sz]? = some y:=by
 have hl:=(List.getElem?_eq_some_iff.1 hk).1
 rw[BE h] at hl
 have hi:k / sz<xs.length:=by rw[Nat.div_lt_iff_lt_mul hp];exact hl
 have hj:k % sz<sz:=Nat.mod_lt _ hp
 have hx:xs[k / sz]? = some xs[k / sz]:=List.getElem?_eq_getElem hi
 have hcl:=h _ (List.mem_of_getElem? hx)
 have hz:xs[k / sz].cells[k % sz]? = some (xs[k / sz].cells[k % sz]'(by omega)):=List.getElem?_eq_getElem (by omega)
 have:=Ow h hx hz
 have e:k / sz*sz+k % sz=k:=by rw[Nat.mul_comm];exact Nat.div_add_mod k sz
 rw[e,hk] at this
 exact⟨_,hx,by rw[hz];exact this.symm⟩
theorem lq {α:Type} {l l':List α} {k:Nat} {d:α} (h:k<l.length):(l++l').getD k d=l.getD k d:=by
 simp[List.getD,List.getElem?_append_left h]
theorem ey {α:Type} {l l':List α} {k:Nat} {d:α} (h:l.length≤k):(l++l').getD k d=l'.getD (k-l.length) d:=by
 simp[List.getD,List.getElem?_append_right h]
section
variable {H:Type} {enc:TypeId × Value→H} {P:Program} {w:World} {base:Nat} {sp:Nat→Bool} {held:Bool}
abbrev vR (w:World) (b:Nat):Prop:=b<w.heap.size
def Fits (w:World) (as':List A) (cs:List Value):Prop:=as'.length=cs.length∧∀ (k:Nat) (y:A),as'[k]? = some y→y.one=true∧Rel w (vR w) Xu y (cs.getD k undef)
theorem Fits.one {x:A} {v:Value} (h:x.one=true) (hr:Rel w (vR w) Xu x v):Fits w [x] [v]:=⟨rfl,fun k y hk=>by
 cases k with
 |zero=>cases hk;exact⟨h,hr⟩
 |succ k=>simp at hk⟩
theorem Fits.append {as' bs:List A} {cs ds:List Value} (h:Fits w as' cs) (h':Fits w bs ds):Fits w (as'++bs) (cs++ds):=⟨by simp[h.1,h'.1],fun k y hk=>by
 rw[List.getElem?_append] at hk
 split at hk
 ·rename_i hl
  have:=h.2 k y hk
  rwa [lq (by rw[← h.1];exact hl)]
 ·rename_i hl
  have:=h'.2 _ y hk
  rw[ey (by rw[← h.1];omega),← h.1]
  exact this⟩
theorem Wt {n:Nat} {cs:List Value} (ih:∀ (t:TypeId) (cs:List Value) x,DataW.trod enc P w base sp held n t cs=some x→P.cellsOf t=cs.length→(∀ m,m ∈ DataW.weights P t x.1→m≤reachBytes)→∀ S,NF P S=true→t ∈ S→∃ as',Has P n t as'∧Fits w as' cs) {S:List TypeId} (hS:NF P S=true) :
  ∀ (fs:List Field) (off tot:Nat) xs,(∀ m,m ∈ DataW.weightsEach P (fs.map Field.type) (xs.map (·.1))→m≤reachBytes)→(∀ f,f ∈ fs→f.type ∈ S)→je P off fs=some tot→tot=cs.length→(fs.mapM fun f=>DataW.trod enc P w base sp held n f.type ((cs.drop f.offset).take (P.cellsOf f.type)))=some xs →
   ∃ as',pc (Has P n) fs as'∧Fits w as' (cs.drop off)∧off≤tot
 |[],off,tot,xs,_,_,ht,hn,_=>by
  cases ht
  refine⟨[],rfl,⟨?_,fun k y hk=>by simp at hk⟩,BW _⟩
  simp[hn]
 |f::fs,off,tot,xs,hw,hf,ht,hn,hm=>by
  unfold je at ht
  split at ht
  ·rename_i ho
   rw[List.mapM_cons] at hm
   simp only[Option.bind_eq_bind,Option.bind_eq_some_iff] at hm
   obtain⟨x,hx,xs',hxs,hq⟩:=hm
   cases hq
   simp only[List.map_cons,DataW.weightsEach,List.mem_append] at hw
   obtain⟨bs,hb1,hb2,hb3⟩:=Wt ih hS fs (off+P.cellsOf f.type) tot xs' (fun m hm=>hw m (.inr hm)) (fun g hg=>hf g (by simp[hg])) ht hn hxs
   rw[ho] at hx
   obtain⟨as',ha1,ha2⟩:=ih f.type _ x hx (by simp;omega) (fun m hm=>hw m (.inl hm)) S hS (hf f (by simp))
   refine⟨as'++bs,⟨as',bs,rfl,ha1,hb1⟩,?_,by omega⟩
   have e:cs.drop off=(cs.drop off).take (P.cellsOf f.type)++cs.drop (off+P.cellsOf f.type):=by
    rw[← List.drop_drop,List.take_append_drop]
   rw[e]
   exact ha2.append hb2
  ·cases ht
theorem PO {e:TypeId} {d:DataW H} {m:Nat} (h:m ∈ DataW.weights P e d):∀ {l:List (DataW H)},d ∈ l→m ∈ DataW.weightsAll P e l
 |x::l,hd=>by
  simp only[DataW.weightsAll,List.mem_append]
  rcases List.mem_cons.1 hd with rfl | hd
  ·exact .inl h
  ·exact .inr (PO h hd)
theorem F3:∀ (n:Nat) (t:TypeId) (cs:List Value) (x:DataW H × List MemPlace),DataW.trod enc P w base sp held n t cs=some x→P.cellsOf t=cs.length→(∀ m,m ∈ DataW.weights P t x.1→m≤reachBytes)→∀ S,NF P S=true→t ∈ S→∃ as',Has P n t as'∧Fits w as' cs
 |0,t,cs,x,h,_,_,_,_,_=>by simp[DataW.trod] at h
 |n+1,t,cs,x,h,hlen,hwt,S,hS,ht=>by
  have hT:=hS
  unfold NF at hT
  rw[List.all_eq_true] at hT
  have hT:=hT t ht
  have ih:=F3 n
  unfold DataW.trod at h
  split at h
  ·rename_i b hu
   exact⟨[.v (.bool b)],by unfold Has;rw[hu];exact⟨b,rfl⟩,Fits.one rfl (.v _ _)⟩
  ·rename_i k k' m hu
   split at h
   ·rename_i hk
    obtain⟨rfl,hw⟩:=hk
    exact⟨[.v (.int k' m)],by unfold Has;rw[hu];exact⟨m,hw,rfl⟩,Fits.one rfl (.v _ _)⟩
   ·cases h
  ·rename_i hu;rw[hu] at hT;cases hT
  ·rename_i s hu
   split at h
   ·rename_i hs
    cases h
    have hz:s.size≤reachBytes:=by
     have:=hwt s.data.toList.length (by simp[DataW.weights])
     simpa using this
    exact⟨[.v (.string s)],by unfold Has;rw[hu];exact⟨s,hs,hz,rfl⟩,Fits.one rfl (.v _ _)⟩
   ·cases h
  ·rename_i hu;rw[hu] at hT;cases hT
  ·rename_i hu;rw[hu] at hT;cases hT
  ·rename_i e hu
   exact⟨[.sl true []],by unfold Has;rw[hu];exact⟨true,[],rfl,by simp,by simp,fun _=>rfl,fun x hx=>by simp at hx⟩,Fits.one rfl (.slN _ _ _ _ (fun _=>rfl))⟩
  ·rename_i e a len cap hu
   rw[hu] at hT
   simp only[Bool.and_eq_true,decide_eq_true_eq,beq_iff_eq] at hT
   obtain⟨_,hpos,heS⟩:=hT
   have heS:e ∈ S:=by simpa using heS
   split at h
   ·rename_i hb
    obtain⟨hb0,hb1,hb2⟩:=hb
    simp only[Option.bind_eq_some_iff] at h
    obtain⟨elems,he,h⟩:=h
    simp only[Option.map_eq_some_iff] at h
    obtain⟨rest,_,rfl⟩:=h
    simp only[DataW.weights,hu] at hwt
    obtain⟨he1,he2⟩:=WR he
    have each:∀ i,i<len→∃ as':List A,Has P n e as'∧∃ cs,w.cells? base (a.add (i*P.cellsOf e)) (P.cellsOf e)=some cs∧Fits w as' cs:=fun i hi=>by
     obtain⟨y,hy,hg⟩:=he2 i i (by simp[hi])
     simp only[Option.bind_eq_some_iff] at hy
     obtain⟨cs,hc1,hc2⟩:=hy
     obtain⟨as',h1,h2⟩:=ih e cs y hc2 (cells?_get hc1).1.symm (fun m hm=>hwt m (List.mem_cons_of_mem _ (List.mem_append_left _ (PO hm (List.mem_map.2 ⟨y,List.mem_of_getElem? hg,rfl⟩))))) S hS heS
     exact⟨as',h1,cs,hc1,h2⟩
    obtain⟨l,hl1,hl2⟩:=jr each
    have hxs:(l.map (mk P e)).length=len:=by simpa using hl1
    refine⟨[.sl false (l.map (mk P e))],by
     unfold Has;rw[hu]
     refine⟨false,_,rfl,by rw[hxs];omega,by
      have:=hwt _ List.mem_cons_self
      rw[hxs]
      refine Nat.le_trans (Nat.mul_le_mul_right _ ?_) this
      simp at he1 ⊢
      omega,(fun h=>nomatch h),fun x hx=>?_⟩
     obtain⟨b,hb,rfl⟩:=List.mem_map.1 hx
     obtain⟨i,hi⟩:=List.getElem?_of_mem hb
     exact⟨b,(hl2 i b hi).1,rfl⟩,Fits.one rfl ?_⟩
    by_cases h0:len=0
    ·subst h0
     have:l=[]:=List.length_eq_zero_iff.1 hl1
     subst this
     exact .slN _ _ _ _ (fun h=>by cases h)
    ·have hlen2:∀ x,x ∈ l.map (mk P e)→x.cells.length=P.cellsOf e:=fun x hx=>by
      obtain⟨b,hb,rfl⟩:=List.mem_map.1 hx
      obtain⟨i,hi⟩:=List.getElem?_of_mem hb
      obtain⟨k1,cs,k2,k3⟩:=hl2 i b hi
      rw[J3 k1,k3.1,(cells?_get k2).1]
     have hspot:a.spot=none∧a.block<w.heap.size:=by
      obtain⟨b,hb⟩:∃ b,l[0]? = some b:=⟨_,List.getElem?_eq_getElem (by omega)⟩
      obtain⟨_,cs,k2,_⟩:=hl2 0 b hb
      have:=(cells?_get k2).2 0 hpos
      simp only[Nat.zero_mul,Addr.add,if_true,World.cell?] at this
      split at this
      ·rename_i hh
       split at this
       ·cases this
       ·rename_i hsp
        exact⟨by simpa using hsp,(Array.getElem?_eq_some_iff.1 hh).1⟩
      ·cases this
     obtain⟨b,off,sp'⟩:=a
     obtain⟨hsp,hbl⟩:=hspot
     simp only at hsp hbl
     subst hsp
     have main:∀ (k:Nat) (y:A),((l.map (mk P e)).flatMap A.cells)[k]? = some y→y.one=true∧w.cell? ⟨b,off+k,none⟩=some ((w.cell? ⟨b,off+k,none⟩).getD undef)∧Rel w (vR w) Xu y ((w.cell? ⟨b,off+k,none⟩).getD undef):=fun k y hk=>by
      obtain⟨x,hx,hy⟩:=pR hpos hlen2 hk
      rw[List.getElem?_map] at hx
      simp only[Option.map_eq_some_iff] at hx
      obtain⟨as',ha,rfl⟩:=hx
      obtain⟨k1,cs,k2,k3⟩:=hl2 _ as' ha
      rw[J3 k1] at hy
      have hj:k % P.cellsOf e<P.cellsOf e:=Nat.mod_lt _ hpos
      have hc:=(cells?_get k2).2 _ hj
      have ea:((⟨b,off,none⟩:Addr).add (k / P.cellsOf e*P.cellsOf e)).add (k % P.cellsOf e)=⟨b,off+k,none⟩:=by
       have:=Nat.div_add_mod k (P.cellsOf e)
       rw[Nat.mul_comm] at this
       unfold Addr.add
       split<;>split<;>simp<;>omega
      rw[ea] at hc
      obtain⟨k4,k5⟩:=k3.2 _ y hy
      exact⟨k4,by rw[hc];rfl,by rw[hc];exact k5⟩
     exact .sl _ false b off len cap (P.cellsOf e) _ (fun k=>(w.cell? ⟨b,off+k,none⟩).getD undef) hbl hxs.symm (by omega) (fun h=>by cases h) hlen2 (fun k y hk=>(main k y hk).1) (fun k y hk=>(main k y hk).2.1) (fun k y hk=>(main k y hk).2.2)
   ·cases h
  ·rename_i fs hu
   rw[hu] at hT
   simp only[Bool.and_eq_true,beq_iff_eq,List.all_eq_true] at hT
   split at h
   ·simp only[Option.map_eq_some_iff] at h
    obtain⟨xs,hx,rfl⟩:=h
    simp only[DataW.weights,hu] at hwt
    obtain⟨as',h1,h2,_⟩:=Wt (fun t cs x h hl hw S hS ht=>ih t cs x h hl hw S hS ht) hS fs.toList 0 _ xs hwt (fun f hf=>by simpa using hT.2 f hf) hT.1 hlen hx
    exact⟨as',by unfold Has;rw[hu];exact h1,by simpa using h2⟩
   ·cases h
  all_goals first | (rename_i hu;rw[hu] at hT;cases hT;done) | cases h
end
def ArgsHas (P:Program):List TypeId→List A→Prop
 |[],[]=>True
 |t::ts,a::as'=>(∃ n b,Has P n t b∧a=mk P t b)∧ArgsHas P ts as'
 |_,_=>False
section
open Go.ChangeShapes Go.WideShapes
variable {H:Type} {enc:TypeId × Value→H} {P:Program} {w:World} {base:Nat} {sp:Nat→Bool} {held:Bool}
theorem dg {S:List TypeId} (hS:NF P S=true) {t:TypeId} (ht:t ∈ S) {v:Value} {d:DataW H} {p:List MemPlace} {base':Nat} (hwt:∀ m,m ∈ DataW.weights P t d→m≤reachBytes) (h:DataW.Trod enc P w base sp held t v d p) (hv:Value.okWide P w .any base' t v) :
  ∃ n b,Has P n t b∧Rel w (vR w) Xu (mk P t b) v:=by
 obtain⟨n,hn⟩:=h
 have hT:=hS
 unfold NF at hT
 rw[List.all_eq_true] at hT
 have hT:=hT t ht
 have one:∀ {b:List A},Has P n t b→(mk P t b).cells=[mk P t b]→v.cells.toList=[v]→Fits w b v.cells.toList→Rel w (vR w) Xu (mk P t b) v:=fun {b} hb h1 h2 h3=>by
  have h4:=J3 hb
  rw[h1] at h4
  have e:b[0]? = some (mk P t b):=by
   have:[mk P t b][0]? = some (mk P t b):=rfl
   rwa [h4] at this
  have:=(h3.2 0 (mk P t b) e).2
  rw[h2] at this
  exact this
 cases hu:P.underlying t with
 |none=>rw[hu] at hT;cases hT
 |some ty=>
  rw[hu] at hT
  cases ty with
  |struct fs=>
   simp only[Bool.and_eq_true,beq_iff_eq] at hT
   obtain⟨cs,rfl,hsz⟩:=okWide_struct hu hv
   obtain⟨b,hb,hf⟩:=F3 n t _ _ hn (by show P.cellsOf t=cs.toList.length;simp[hsz]) hwt S hS ht
   refine⟨n,b,hb,?_⟩
   have:mk P t b = .agg b:=by unfold mk;rw[hu]
   rw[this]
   refine .agg _ _ _ ?_ fun k y hk=>?_
   ·have:=hf.1;simpa[Value.cells] using this.symm
   ·have:=(hf.2 k y hk).2
    simpa[Value.cells,List.getD,Array.getD_eq_getD_getElem?] using this
  |bool=>
   obtain⟨q,rfl⟩:=okWide_bool hu hv
   simp only[beq_iff_eq] at hT
   obtain⟨b,hb,hf⟩:=F3 n t _ _ hn (by rw[hT];rfl) hwt S hS ht
   refine⟨n,b,hb,one hb ?_ rfl hf⟩
   obtain⟨y,rfl⟩:∃ y,b=[y]:=List.length_eq_one_iff.1 (by have:=hf.1;simpa[Value.cells] using this)
   unfold mk;rw[hu]
   have:=J3 hb
   unfold mk at this;rw[hu] at this
   exact this
  |int k=>
   obtain⟨q,rfl⟩:=okWide_int hu hv
   simp only[beq_iff_eq] at hT
   obtain⟨b,hb,hf⟩:=F3 n t _ _ hn (by rw[hT];rfl) hwt S hS ht
   refine⟨n,b,hb,one hb ?_ rfl hf⟩
   obtain⟨y,rfl⟩:∃ y,b=[y]:=List.length_eq_one_iff.1 (by have:=hf.1;simpa[Value.cells] using this)
   unfold mk;rw[hu]
   have:=J3 hb
   unfold mk at this;rw[hu] at this
   exact this
  |string=>
   obtain⟨q,rfl⟩:=okWide_string hu hv
   simp only[beq_iff_eq] at hT
   obtain⟨b,hb,hf⟩:=F3 n t _ _ hn (by rw[hT];rfl) hwt S hS ht
   refine⟨n,b,hb,one hb ?_ rfl hf⟩
   obtain⟨y,rfl⟩:∃ y,b=[y]:=List.length_eq_one_iff.1 (by have:=hf.1;simpa[Value.cells] using this)
   unfold mk;rw[hu]
   have:=J3 hb
   unfold mk at this;rw[hu] at this
   exact this
  |slice e=>
   obtain⟨a,l,c,rfl⟩:=okWide_slice hu hv
   simp only[Bool.and_eq_true,beq_iff_eq] at hT
   obtain⟨b,hb,hf⟩:=F3 n t _ _ hn (by rw[hT.1];rfl) hwt S hS ht
   refine⟨n,b,hb,one hb ?_ rfl hf⟩
   obtain⟨y,rfl⟩:∃ y,b=[y]:=List.length_eq_one_iff.1 (by have:=hf.1;simpa[Value.cells] using this)
   unfold mk;rw[hu]
   have:=J3 hb
   unfold mk at this;rw[hu] at this
   exact this
  |_=>simp at hT
theorem Q7 {S:List TypeId} (hS:NF P S=true) {base':Nat}:∀ {ts:List TypeId} {vs:List Value} {ds:List (DataW H)} {ps:List MemPlace},(∀ t,t ∈ ts→t ∈ S)→(∀ m,m ∈ DataW.weightsEach P ts ds→m≤reachBytes)→DataW.TrodAll enc P w base sp held ts vs ds ps →
  (∀ (j:Nat) t v,ts[j]? = some t→vs[j]? = some v→Value.okWide P w .any base' t v)→∃ as',as'.length=vs.length∧ArgsHas P ts as'∧∀ (k:Nat) (y:A),as'[k]? = some y→Rel w (vR w) Xu y (vs.getD k undef)
 |[],_,_,_,_,_,h,_=>by
  obtain⟨rfl,rfl,rfl⟩:=trodAll_nil h
  exact⟨[],rfl,trivial,fun k y hk=>by simp at hk⟩
 |t::ts,_,_,_,hts,hwt,h,hv=>by
  obtain⟨v,vs,d,ds,p,q,rfl,rfl,rfl,h1,h2⟩:=trodAll_cons h
  simp only[DataW.weightsEach,List.mem_append] at hwt
  obtain⟨n,b,hb,hr⟩:=dg hS (hts t (by simp)) (fun m hm=>hwt m (.inl hm)) h1 (hv 0 t v rfl rfl)
  obtain⟨as',k1,k2,k3⟩:=Q7 hS (fun u hu=>hts u (by simp[hu])) (fun m hm=>hwt m (.inr hm)) h2 (fun j u x hj hx=>hv (j+1) u x (by simpa using hj) (by simpa using hx))
  refine⟨mk P t b::as',by simp[k1],⟨⟨n,b,hb,rfl⟩,k2⟩,fun k y hk=>?_⟩
  cases k with
  |zero=>cases hk;exact hr
  |succ k=>exact k3 k y (by simpa using hk)
end
@[simp] theorem vS {k k':IntKind} {x y:Int}:EW true [.v (.int k x),.v (.int k' y)]=some (.v (.int k (max x y))):=by
 simp only[EW,if_true]
 congr 3
 split<;>omega
@[simp] theorem vu {k k':IntKind} {x y:Int}:EW false [.v (.int k x),.v (.int k' y)]=some (.v (.int k (min x y))):=by
 simp only[EW,Bool.false_eq_true,if_false]
 congr 3
 split<;>omega
def ov (r:Nat) (F:Nm→VOb) (H:Hp):Hp
 |j::p=>if j=r then F p else H (j::p)
 |[]=>H []
@[simp] theorem Bx {r j:Nat} {p:Nm} {F:Nm→VOb} {H:Hp}:ov r F H (j::p)=if j=r then F p else H (j::p):=rfl
@[simp] theorem Ah0 {r:Nat} {F:Nm→VOb} {H:Hp}:ov r F H []=H []:=rfl
@[simp] theorem AeP {r j:Nat} {p:Nm} {F:Nm→VOb} {H:Hp} {x:VOb}:Ay (ov r F H) (j::p) x=if j=r then ov r (Ay F p x) H else ov r F (Ay H (j::p) x):=by
 funext o
 cases o with
 |nil=>
  by_cases h:j=r
  ·rw[if_pos h];simp[Ay]
  ·rw[if_neg h];simp[Ay]
 |cons k q=>
  by_cases h:j=r
  ·subst h
   rw[if_pos rfl]
   by_cases hk:k=j
   ·subst hk;simp[Ay]
   ·have:¬ k::q=j::p:=fun e=>hk (by injection e)
    simp[Ay,hk,this]
  ·rw[if_neg h]
   by_cases hk:k=r
   ·subst hk
    have:¬ k::q=j::p:=fun e=>h (by injection e with e _;exact e.symm)
    simp[Ay,this]
   ·simp[Ay,hk]
theorem Aa {α:Type} {F:Nm→α} {d o:Nm} {x:α}:Ay F d x o=if o=d then x else F o:=rfl
theorem OO {α:Type} {F G:Nm→α} {d p:Nm} {x:α} (h:x=G d) (k:p ≠ d→F p=G p):Ay F d x p=G p:=by
 rw[Aa]
 split
 ·rename_i e;rw[e];exact h
 ·exact k (by assumption)
def Nt (rs:List Nat) (m:Nat) (H:Hp):Hp
 |i::p=>if i<m then (H (rs.getD i 0::p)).ren (ZU rs) (fun _=>0) 0 else ⟨0,.none⟩
 |[]=>⟨0,.none⟩
def P5 (rs:List Nat) (δ:Nm→Nat) (B Hr:Hp):Hp
 |j::p=>if rs.contains j=true then (Hr (rs.idxOf j::p)).ren (Xo rs) δ (δ (rs.idxOf j::p)) else B (j::p)
 |[]=>B []
theorem WZ {rs:List Nat} {m:Nat} {H Hr:Hp}:(Eff.fn rs (Hz rs m H Hr)).app H=P5 rs (PT rs m H) H Hr:=by
 funext o
 cases o<;>rfl
theorem Spec.toB {P:Program} {f:FuncId} {args:List A} {r:A} (h:Spec P f args r) (hr:r.flat=true):SpecB P f args r:=
 ⟨h.1,fun w I J vs hI hJ ht hl ha=>(h.2 w (fun b=>I b∨J b) vs (fun b hb=>hb.elim (hI b) (hJ b)) (ht.mono (fun _ h=>.inl h) (fun _ _=>rfl)) hl ha).mono fun e w' ⟨v,he,hB,hr'⟩=>⟨v,he,hB,hr'.of_flat hr⟩⟩
def Vo (rs:List Nat) (m:Nat) (H:Hp):Prop:=∀ (j:Nat) (p:Nm),rs.idxOf j<m→(H (j::p)).ob.refs (YX rs m)
theorem VE {P:Program} {K:Sta→Prop} {rest:List CO} {s:Nat→A} {H:Hp} {dd:Option Nat} {nm:Nm} {ix:Nat} {un:List Nat} {l:Bool} {lg:Lg} {g:FuncId} {as':Array Operand} {ts:Array TypeId}
  (rs:List Nat) (m:Nat) {args:List A} {Hc Hr H':Hp} {r x:A} (hS:NV P g rs.length args Hc r Hr) (hnd:rs.Nodup) (hm:m≤rs.length)
  (ha:A.renL (ZU rs) (fun _=>0) (as'.toList.map (evs s))=args) (har:A.refsL (YX rs m) (as'.toList.map (evs s))) (hH:Nt rs m H=Hc) (hcl:Vo rs m H)
  (hr:r.refs (Jk rs.length)) (ho:∀ (i:Nat) (p:Nm),i<rs.length→(Hr (i::p)).ob.refs (Jk rs.length)) (hv:∀ (i:Nat) (p:Nm),m≤i→i<rs.length→(Hr (i::p)).ob = .none∨1≤(Hr (i::p)).u)
  (hx:r.ren (Xo rs) (PT rs m H)=x) (hH':P5 rs (PT rs m H) H Hr=H') (hck:Ck un lg ⟨[],rs.map fun r=>([r],true)⟩)
  (h:Ar P K rest (A9 l ix ⟨[],rs.map fun r=>([r],true)⟩ lg) (Sta.put ⟨s,H⟩ dd x H')) :
  Ar P K (⟨dd,.call { callee:=.value (.func g),args:=as',argTypes:=ts },none,nm,ix,un,l⟩::rest) lg ⟨s,H⟩:=by
 have hit_in:∀ {j:Nat} {p:Nm},j ∈ rs→Yw (rs.map fun r=>([r],true)) (j::p)=true:=fun {j p} hj=>by
  simp only[Yw,List.any_map,List.any_eq_true]
  exact⟨j,hj,by simp[W6,List.isPrefixOf]⟩
 have hnil:(Eff.fn rs (Hz rs m H Hr)).app H=H':=by rw[WZ];exact hH'
 subst hx
 rw[← hnil] at h
 refine bU (Eff.fn rs (Hz rs m H Hr)) [] (rs.map fun r=>([r],true)) (fun H2 hag=>?_) (fun o H2 ho'=>?_) hck h
 ·have ag:∀ {j:Nat} {p:Nm},j ∈ rs→H2 (j::p)=H (j::p):=fun {j p} hj=>hag _ (by simpa using hit_in hj)
  have agi:∀ {i:Nat} {p:Nm},i<rs.length→H2 (rs.getD i 0::p)=H (rs.getD i 0::p):=fun {i p} hi=>ag (by simp[List.getD,hi])
  have hd:PT rs m H2=PT rs m H:=by
   funext o
   cases o with
   |nil=>rfl
   |cons i p=>
    simp only[PT]
    by_cases hi:i<rs.length
    ·rw[agi hi]
    ·rw[if_neg hi,if_neg hi]
  have hoH:Hz rs m H2 Hr=Hz rs m H Hr:=by
   funext o
   cases o with
   |nil=>rfl
   |cons j p=>simp only[Hz,hd]
  subst ha
  have:=Tc (P:=P) (f:=g) (rs:=rs) (m:=m) (args:=as'.toList.map (evs s)) (Hc:=Hc) (Hr:=Hr) (r:=r) (H:=H2) hnd hm hS
   (fun i p hi=>by rw[← hH,agi (by omega)];simp only[Nt,if_pos hi]) (fun i p hi=>by rw[← hH];simp only[Nt];rw[if_neg (by omega)]) (by rw[← hH];rfl) har
   (fun i p hi=>by rw[agi (by omega)];exact hcl _ _ (by rw[Mi hnd (by omega)];exact hi)) hr ho hv
  rwa [hd,hoH] at this
 ·cases o with
  |nil=>rfl
  |cons j p=>
   have:¬ j ∈ rs:=fun hj=>by rw[hit_in hj] at ho';cases ho'
   simp[Eff.app,this]
end Go.G
namespace Go.PL
theorem Q0 {w:List Int} {n:Nat} (h:n<w.length) (h0:w[n]=0):BT (w.take (n+1))=BT (w.take n):=by
 rw[Fj h,PW,if_pos h0]
theorem Qt {w:List Int} {n:Nat} (h:n<w.length) (h0:w[n] ≠ 0):BT (w.take (n+1))=w.take (n+1):=by
 rw[Fj h,PW,if_neg h0]
theorem QB {w:List T} {n:Nat} (h:n<w.length) (h0:w[n].kind=0):BC (w.take (n+1))=BC (w.take n):=by
 rw[Fj h,J6,if_pos h0]
theorem QO {w:List T} {n:Nat} (h:n<w.length) (h0:w[n].kind ≠ 0):BC (w.take (n+1))=w.take (n+1):=by
 rw[Fj h,J6,if_neg h0]
theorem PD (l:List T):(BC (l.map Ai)).length=(BC l).length:=by
 induction l using Y1 with
 |h0=>rfl
 |h1 l x ih=>
  rw[List.map_append,List.map_cons,List.map_nil,J6,J6,CL]
  split
  ·exact ih
  ·simp
theorem SU (l:List T):BC (l.map Ai)=(l.map Ai).take (BC l).length:=by
 rw[← PD];exact QW _
def nW (t:T):Nat:=if t.kind=1 then (BT t.words).length else t.words.length
def nK (t:T):Nat:=if t.kind=1 then (BC t.kids).length else t.kids.length
theorem YR (t:T):nW t≤t.words.length:=by unfold nW;split;exact Oc _;exact BW _
theorem dQ (t:T):nK t≤t.kids.length:=by unfold nK;split;exact Mf _;exact BW _
def eW (t:T):Prop:=t.kind=0→t.words=[]∧t.kids=[]
theorem JP {t:T} (h:eW t):(Ai t).words=t.words.take (nW t):=by
 obtain⟨k,w,l⟩:=t
 rw[B2]
 by_cases h0:k=0
 ·obtain⟨a,b⟩:=h h0;simp at a b;subst a b;rw[if_pos h0];simp
 ·rw[if_neg h0]
  by_cases h1:k=1
  ·subst h1;simp[nW,← Qh]
  ·simp[h1,nW]
theorem Md {t:T} (h:eW t):(Ai t).kids=(t.kids.take (nK t)).map Ai:=by
 obtain⟨k,w,l⟩:=t
 rw[B2]
 by_cases h0:k=0
 ·obtain⟨a,b⟩:=h h0;simp at a b;subst a b;rw[if_pos h0];simp
 ·rw[if_neg h0]
  by_cases h1:k=1
  ·subst h1;simp[nK,SU,List.map_take]
  ·simp[h1,nK]
theorem T.ext' {t u:T} (h1:t.kind=u.kind) (h2:t.words=u.words) (h3:t.kids=u.kids):t=u:=by
 cases t;cases u;simp at h1 h2 h3;rw[h1,h2,h3]
theorem r8 {t u:T} (ht:eW t) (hu:eW u):Ai t=Ai u ↔ t.kind=u.kind∧nW t=nW u∧nK t=nK u∧(∀ i:Nat,i<nW t→t.words[i]? = u.words[i]?)∧(∀ i:Nat,i<nK t→(t.kids[i]?).map Ai=(u.kids[i]?).map Ai):=by
 constructor
 ·intro h
  have hk:t.kind=u.kind:=by rw[← CL t,h,CL]
  have hw:t.words.take (nW t)=u.words.take (nW u):=by rw[← JP ht,h,JP hu]
  have hl:(t.kids.take (nK t)).map Ai=(u.kids.take (nK u)).map Ai:=by rw[← Md ht,h,Md hu]
  have e1:nW t=nW u:=by have:=congrArg List.length hw;simp at this;have:=YR t;have:=YR u;omega
  have e2:nK t=nK u:=by have:=congrArg List.length hl;simp at this;have:=dQ t;have:=dQ u;omega
  refine⟨hk,e1,e2,fun i hi=>?_,fun i hi=>?_⟩
  ·have:=congrArg (fun l=>l[i]?) hw
   simp only[List.getElem?_take] at this
   rwa [if_pos hi,if_pos (by omega)] at this
  ·have:=congrArg (fun l=>l[i]?) hl
   simp only[List.getElem?_map,List.getElem?_take] at this
   rwa [if_pos hi,if_pos (by omega)] at this
 ·rintro⟨hk,e1,e2,hw,hl⟩
  refine T.ext' (by rw[CL,CL,hk]) ?_ ?_
  ·rw[JP ht,JP hu,← e1]
   apply List.ext_getElem?
   intro i
   rw[List.getElem?_take,List.getElem?_take]
   split
   ·exact hw i (by assumption)
   ·rfl
  ·rw[Md ht,Md hu,← e2]
   apply List.ext_getElem?
   intro i
   rw[List.getElem?_map,List.getElem?_map,List.getElem?_take,List.getElem?_take]
   split
   ·exact hl i (by assumption)
   ·rfl
noncomputable def GR (t u:T):Bool:=by classical exact decide (t=u)
theorem sameB_iff {t u:T}:GR t u=true ↔ t=u:=by simp[GR]
noncomputable def KJ (t u:T):Bool:=GR (Ai t) (Ai u)
theorem eqT_iff {t u:T}:KJ t u=true ↔ Ai t=Ai u:=sameB_iff
end Go.PL
namespace Go.Proofs.YtbjmaoedheiigaaGreat
open Go Go.G Go.Proofs Go.PL
theorem A8 {P:Program} {K:Sta→Prop} {rest:List CO} {s:Nat→A} {H:Hp} {dd:Option Nat} {k:Nat} {f:Bool} {nm:Nm} {ix:Nat} {un:List Nat} {l:Bool} {lg:Lg} {g:FuncId} {aa:Array Operand} {ts:Array TypeId}
  (hq:B3 (s k) f=some false) (h:Ar P K rest (A9 l ix ⟨[],[]⟩ lg) (Sta.put ⟨s,H⟩ dd (.v undef) H)) :
  Ar P K (⟨dd,.call { callee:=.value (.func g),args:=aa,argTypes:=ts },some (k,f),nm,ix,un,l⟩::rest) lg ⟨s,H⟩:=
 Tz (q:=false) (x:=.any) hq (fun e=>by cases e) h
abbrev C5 (l:List Int):A:=.sl false (l.map uv)
abbrev B5 (l:List Int):A:=.sl false (l.map iv)
abbrev u8 (n:Int):A:=.v (.int .u8 n)
mutual
def tC:T→List A
 |.mk k w l=>[iv k,C5 w,.sl false (tCs l)]
def tCs:List T→List A
 |[]=>[]
 |t::l=>.agg (tC t)::tCs l
end
def tA (t:T):A:=.agg (tC t)
abbrev Ba (l:List T):A:=.sl false (l.map tA)
abbrev tX (t:T):A:=.agg [iv t.kind,C5 t.words,Ba t.kids]
theorem iZ:∀ l,tCs l=l.map tA
 |[]=>by rw[tCs];rfl
 |t::l=>by rw[tCs,iZ l];rfl
theorem Acx (t:T):tC t=[iv t.kind,C5 t.words,Ba t.kids]:=by cases t;rw[tC,iZ];rfl
@[simp] theorem tA_eq (t:T):tA t=tX t:=by rw[tA,Acx]
def wA (w:WE):A:=.agg [iv w.at_,u8 w.mask,uv w.old,uv w.new]
abbrev wX (w:WE):A:=.agg [iv w.at_,u8 w.mask,uv w.old,uv w.new]
@[simp] theorem wA_eq (w:WE):wA w=wX w:=rfl
abbrev wKs (l:List WE):A:=.sl false (l.map wA)
mutual
def eC:E→List A
 |.mk k o n w ks l os=>[iv k,iv o.kind,C5 o.words,Ba o.kids,iv n.kind,C5 n.words,Ba n.kids,wKs w,.sl false (eKs ks),iv l,.sl false (eOs os)]
def eKs:List KE→List A
 |[]=>[]
 |.mk a e::l=>.agg (iv a::eC e)::eKs l
def eOs:List OP→List A
 |[]=>[]
 |.mk k n t e::l=>.agg (iv k::iv n::Ba t::eC e)::eOs l
end
def kA (x:KE):A:=.agg (iv x.at_::eC x.e)
def oA (x:OP):A:=.agg (iv x.kind::iv x.n::Ba x.l::eC x.e)
abbrev kKs (l:List KE):A:=.sl false (l.map kA)
abbrev Lz (l:List OP):A:=.sl false (l.map oA)
abbrev eL (e:E):List A:=[iv e.kind,iv e.old.kind,C5 e.old.words,Ba e.old.kids,iv e.new.kind,C5 e.new.words,Ba e.new.kids,wKs e.words,kKs e.kids,iv e.list,Lz e.ops]
abbrev eX (e:E):A:=.agg (eL e)
abbrev kX (x:KE):A:=.agg (iv x.at_::eL x.e)
abbrev oX (x:OP):A:=.agg (iv x.kind::iv x.n::Ba x.l::eL x.e)
theorem iX:∀ l,eKs l=l.map kA
 |[]=>by rw[eKs];rfl
 |.mk a e::l=>by rw[eKs,iX l];rfl
theorem iz:∀ l,eOs l=l.map oA
 |[]=>by rw[eOs];rfl
 |.mk k n t e::l=>by rw[eOs,iz l];rfl
theorem vk (e:E):eC e=eL e:=by cases e;rw[eC,iX,iz];rfl
@[simp] theorem kA_eq (x:KE):kA x=kX x:=by rw[kA,vk]
@[simp] theorem oA_eq (x:OP):oA x=oX x:=by rw[oA,vk]
@[simp] theorem Agt (l:List Int):Dq 1 (l.map iv)=true:=by simp[Dq]
@[simp] theorem Agr (l:List T):Dq 3 (l.map tA)=true:=by simp[Dq]
@[simp] theorem Afq (l:List WE):Dq 4 (l.map wA)=true:=by simp[Dq]
@[simp] theorem AfQ (l:List KE):Dq 12 (l.map kA)=true:=by simp[Dq]
@[simp] theorem Ahc (l:List OP):Dq 14 (l.map oA)=true:=by simp[Dq]
theorem Hg {n:Nat} {l:List A}:Dq n l=true ↔ ∀ x,x ∈ l→x.cells.length=n:=by simp[Dq]
@[simp] theorem zR {n k:Nat} {l:List A} (h:Dq n l=true):Dq n (l.take k)=true:=by
 rw[Hg] at h ⊢
 exact fun x hx=>h x (O5 hx)
@[simp] theorem Aam {n k:Nat} {l:List A} (h:Dq n l=true):Dq n (l.drop k)=true:=by
 rw[Hg] at h ⊢
 exact fun x hx=>h x (Q3 hx)
theorem Bb {α:Type} {H:Hp} {o:Nm} {u n sz:Nat} {l:List α} {f:α→A} (h:vr (H o) u=some (sz,l.map f)) (hn:n=l.length) (hf:∀ x,((f x).cells.length == sz&&(f x).cells.all fun y=>A.bare1 y&&y.one)=true):Jd H (.osl o u sz 0 n) (.sl false (l.map f)):=by
 subst hn
 have:=Y3 (H:=H) (o:=o) (u:=u) (off:=0) (len:=l.length) (sz:=sz) (xs:=l.map f) (by simpa using h) (by simp) (by
  simp only[List.drop_zero]
  rw[AI (by simp),List.all_map,List.all_eq_true]
  exact fun x _=>hf x)
 simp[AI] at this
 exact this
theorem VQ {α:Type} {H:Hp} {o:Nm} {u n sz:Nat} {l:List α} {f:α→A} (h:vr (H o) u=some (sz,l.map f)) (hn:n≤l.length) (hf:∀ x,((f x).cells.length == sz&&(f x).cells.all fun y=>A.bare1 y&&y.one)=true):Jd H (.osl o u sz 0 n) (.sl false ((l.take n).map f)):=by
 have:=Y3 (H:=H) (o:=o) (u:=u) (off:=0) (len:=n) (sz:=sz) (xs:=l.map f) (by simpa using h) (by simpa using hn) (by
  simp only[List.drop_zero]
  rw[← List.map_take,List.all_map,List.all_eq_true]
  exact fun x _=>hf x)
 simpa using this
theorem aW {α:Type} {f:α→A} {l:List α} {i:Nat} (h:i<l.length) {x:A} (hx:f l[i]=x):List.take i (List.take i (l.map f))++[x]=(l.take (i+1)).map f:=by
 rw[List.take_take,Nat.min_self,Fj h,List.map_append,List.map_take,← hx];rfl
theorem ZE {H:Hp}:Jd H (.agg [iv 0,.sl true [],.sl true []]) (tX T0):=BG (by simp;exact⟨Ab rfl,Al,Al⟩)
def BQ (n:Int):Prop:=-9223372036854775808≤n∧n<9223372036854775808
def Ci (n:Int):Prop:=0≤n∧n<18446744073709551616
mutual
def BB:T→Prop
 |.mk k w l=>BQ k∧(∀ x,x ∈ w→Ci x)∧w.length*8≤140737488355328∧l.length*56≤140737488355328∧kI l
def kI:List T→Prop
 |[]=>True
 |t::l=>BB t∧kI l
end
theorem WC:∀ {l:List T},kI l ↔ ∀ t,t ∈ l→BB t
 |[]=>by simp[kI]
 |t::l=>by simp[kI,WC (l:=l)]
structure WfT (t:T):Prop where
 k:BQ t.kind
 w:∀ x,x ∈ t.words→Ci x
 wl:t.words.length*8≤140737488355328
 kl:t.kids.length*56≤140737488355328
 ks:∀ x,x ∈ t.kids→BB x
theorem wfT_iff {t:T}:BB t ↔ WfT t:=by
 cases t;rw[BB,WC]
 exact⟨fun ⟨a,b,c,d,e⟩=>⟨a,b,c,d,e⟩,fun ⟨a,b,c,d,e⟩=>⟨a,b,c,d,e⟩⟩
def WE.wf (w:WE):Prop:=BQ w.at_∧(0≤w.mask∧w.mask<256)∧Ci w.old∧Ci w.new
mutual
def Xp:E→Prop
 |.mk k o n w ks l os=>(BQ k∧BQ l∧BB o∧BB n∧(∀ x,x ∈ w→WE.wf x)∧w.length*32≤140737488355328∧ks.length*208≤140737488355328∧os.length*240≤140737488355328)∧qd ks∧nH os
def qd:List KE→Prop
 |[]=>True
 |.mk a e::l=>(BQ a∧Xp e)∧qd l
def nH:List OP→Prop
 |[]=>True
 |.mk k n t e::l=>(BQ k∧BQ n∧kI t∧t.length*56≤140737488355328∧Xp e)∧nH l
end
structure sy (x:OP):Prop where
 k:BQ x.kind
 n:BQ x.n
 l:∀ t,t ∈ x.l→BB t
 ll:x.l.length*56≤140737488355328
 e:Xp x.e
theorem dM:∀ {l:List KE},qd l ↔ ∀ x,x ∈ l→BQ x.at_∧Xp x.e
 |[]=>by simp[qd]
 |.mk a e::l=>by simp[qd,dM (l:=l)]
theorem c8:∀ {l:List OP},nH l ↔ ∀ x,x ∈ l→sy x
 |[]=>by simp[nH]
 |.mk k n t e::l=>by
  simp only[nH,c8 (l:=l),WC,List.forall_mem_cons]
  exact⟨fun ⟨⟨a,b,c,d,e⟩,h⟩=>⟨⟨a,b,c,d,e⟩,h⟩,fun ⟨⟨a,b,c,d,e⟩,h⟩=>⟨⟨a,b,c,d,e⟩,h⟩⟩
structure WfE (e:E):Prop where
 k:BQ e.kind
 l:BQ e.list
 o:BB e.old
 n:BB e.new
 w:∀ x,x ∈ e.words→WE.wf x
 wl:e.words.length*32≤140737488355328
 kl:e.kids.length*208≤140737488355328
 ol:e.ops.length*240≤140737488355328
 ks:∀ x,x ∈ e.kids→BQ x.at_∧Xp x.e
 os:∀ x,x ∈ e.ops→sy x
theorem wfE_iff {e:E}:Xp e ↔ WfE e:=by
 cases e;rw[Xp,dM,c8]
 exact⟨fun ⟨⟨a,b,c,d,e,f,g,h⟩,i,j⟩=>⟨a,b,c,d,e,f,g,h,i,j⟩,fun ⟨a,b,c,d,e,f,g,h,i,j⟩=>⟨⟨a,b,c,d,e,f,g,h⟩,i,j⟩⟩
theorem cI (c:Int):G.Spec Tryz.prog 109 [iv c] (iv (AD c)):=by
 refine Aj Qi (by simp) fun w0 I0=>?_
 unfold Kl
 by_cases h0:c=0
 ·subst h0;simp;exact Ap rfl rfl
 by_cases h1:c=1
 ·subst h1;simp;exact Ap rfl rfl
 by_cases h2:c=2
 ·subst h2;simp;exact Ap rfl rfl
 by_cases h3:c=3
 ·subst h3;simp;exact Ap rfl rfl
 by_cases h4:c=4
 ·subst h4;simp;exact Ap rfl rfl
 by_cases h5:c=5
 ·subst h5;simp;exact Ap rfl rfl
 simp[h0,h1,h2,h3,h4,h5]
 exact Ap rfl (by simp[AD,h0,h1,h2,h3,h4,h5])
theorem SF (c:Int):AD c = -1∨AD c=0∨AD c=1∨AD c=8∨AD c=16∨AD c=32∨AD c=64:=by
 unfold AD;repeat' split
 all_goals simp
variable {n0:Nat} {w0:World} {I0:Nat→Prop} {Q:Exit→Sta→Prop} {H:Hp}
theorem oW {a b:List Int} (hl:a.length=b.length) (hb:a.length*8≤140737488355328):∀ (m i:Nat),i+m=a.length→a.take i=b.take i→(a=b→∀ i q,Q (.exit 0) ⟨lk [(0,C5 a),(1,C5 b),(5,iv i),(14,bv q)],H⟩)→(a ≠ b→Q .ret ⟨lk [(4,bv false)],H⟩) →
  LoopC (cx Tryz.prog w0 I0 n0) ED Q ⟨lk [(0,C5 a),(1,C5 b),(5,iv i)],H⟩:=by
 intro m
 induction m with
 |zero=>
  intro i hi ht h1 h2
  have:i=a.length:=by omega
  subst this
  refine Ad Ah ED.eq_1 ?_
  simp
  refine h1 ?_ _ _
  rw[AI (BW _),AI (by omega)] at ht
  exact ht
 |succ m ih=>
  intro i hi ht h1 h2
  have hlt:i<a.length:=by omega
  have hlt':i<b.length:=by omega
  refine Ad Ah ED.eq_1 ?_
  simp[hlt,hlt']
  refine⟨fun he=>?_,fun hne=>h2 fun e=>hne (by subst e;rfl)⟩
  rw[Af (by omega) (by omega)]
  refine ih (i+1) (by omega) ?_ h1 h2
  rw[Fj hlt,Fj hlt',ht,he]
theorem Qp (a b:List Int) (hb:a.length*8≤140737488355328):G.Spec Tryz.prog 38 [C5 a,C5 b] (bv (decide (a=b))):=by
 refine Aj St (by simp) fun w0 I0=>?_
 unfold Ku
 simp
 refine⟨fun h=>?_,fun h=>?_⟩
 ·refine oW (by omega) hb a.length 0 (by omega) rfl (fun e i q=>?_) (fun e=>?_)
  ·simp
   refine Bm ?_
   simp[e]
  ·simp
   refine Bm ?_
   simp[e]
 ·refine Bm ?_
  have:¬ a=b:=fun e=>h (by rw[e])
  simp[this]
theorem VY (c:Int):G.Spec Tryz.prog 185 [iv c] (.tup [iv (if AD c<0 then 0 else AD c),bv (decide (0≤AD c))]):=by
 refine Aj ao (by simp) fun w0 I0=>?_
 unfold Ri
 by_cases h0:c=0
 ·subst h0;simp;exact Ap rfl rfl
 by_cases h1:c=1
 ·subst h1;simp;exact Ap rfl rfl
 by_cases h2:c=2
 ·subst h2;simp;exact Ap rfl rfl
 by_cases h3:c=3
 ·subst h3;simp;exact Ap rfl rfl
 by_cases h4:c=4
 ·subst h4;simp;exact Ap rfl rfl
 by_cases h5:c=5
 ·subst h5;simp;exact Ap rfl rfl
 have hd:(decide (c<0) || decide (6≤c))=true:=by simp;omega
 simp[hd]
 exact Ap rfl (by simp[AD,h0,h1,h2,h3,h4,h5])
theorem qZ {w:List Int} (hb:w.length*8≤140737488355328) (hq:∀ q,Q (.exit 0) ⟨lk [(0,C5 w),(3,iv (BT w).length),(16,bv q)],H⟩):∀ (n:Nat),n≤w.length→BT (w.take n)=BT w →
  LoopC (cx Tryz.prog w0 I0 n0) Er Q ⟨lk [(0,C5 w),(3,iv n)],H⟩:=by
 intro n
 induction n with
 |zero=>
  intro hn ht
  refine Ad Ah Er.eq_1 ?_
  simp
  have e:(BT w).length=0:=by rw[← ht];rfl
  have:=hq false
  rw[e] at this
  exact this
 |succ n ih=>
  intro hn ht
  have hlt:n<w.length:=by omega
  have e:IntKind.i64.wrap (n:Int)=n:=Af (by omega) (by omega)
  refine Ad Ah Er.eq_1 ?_
  by_cases h0:w[n]=0
  ·simp[e,hlt,h0]
   exact ih (by omega) (by rw[← Q0 hlt h0];exact ht)
  ·have e2:(BT w).length=n+1:=by rw[← ht,Qt hlt h0];simp;omega
   have:=hq false
   rw[e2] at this
   simp[e,hlt,h0]
   simpa using this
theorem fJ (w:List Int) (hb:w.length*8≤140737488355328):G.Spec Tryz.prog 64 [C5 w] (C5 (BT w)):=by
 refine Aj Rj (by simp) fun w0 I0=>?_
 unfold K3
 simp
 refine qZ hb (fun q=>?_) w.length (BW _) (by rw[AI (BW _)])
 have hl:=Oc w
 have hb':(BT w).length*8≤140737488355328:=by omega
 simp[hl]
 refine⟨hb',?_⟩
 rw[← List.map_take,← Qh]
 exact Bb (by simp) rfl (by simp)
abbrev Oq (l:List Int):List A:=l.map u8
def DQ:Nat→Int→List Int
 |0,_=>[]
 |m+1,x=>x % 256::DQ m (x / 256)
@[simp] theorem PB:∀ (m:Nat) (x:Int),(DQ m x).length=m
 |0,_=>rfl
 |m+1,x=>by simp[DQ,PB m]
theorem VU {l:List Int} {i:Nat} {v:Int} (h:i<l.length):splice (l.map u8) i [u8 v]=(l.set i v).map u8:=by
 apply List.ext_getElem?
 intro j
 simp only[splice,List.length_singleton]
 rw[List.append_assoc,List.map_set]
 by_cases h1:j<i
 ·rw[List.getElem?_append_left (by simp;omega),List.getElem?_take,if_pos h1,List.getElem?_set_ne (by omega)]
 ·rw[List.getElem?_append_right (by simp;omega)]
  have e:(List.take i (l.map u8)).length=i:=by simp;omega
  rw[e]
  by_cases h2:j=i
  ·subst h2
   rw[List.getElem?_set_self (by simpa using h)]
   simp
  ·rw[List.getElem?_set_ne (by omega),List.getElem?_append_right (by simp;omega),List.getElem?_drop]
   congr 1
   simp;omega
theorem lS (a:List A) (x v:A) (b:List A):splice (a++x::b) a.length [v]=a++v::b:=by simp[splice]
section
variable {n0:Nat} {w0:World} {I0:Nat→Prop} {Q:Exit→Sta→Prop}
theorem kx:∀ (m:Nat) (i:Nat) (x:Int) (d:List Int) (H:Hp),0≤x→x<18446744073709551616→i+m=8→d.length=i→H [1]=⟨1,.cells (Oq (d++List.replicate m 0))⟩→H [0]=⟨1,.cells (Oq (List.replicate 8 0))⟩ →
  (∀ x' q H',H' [1]=⟨1,.cells (Oq (d++DQ m x))⟩→H' [0]=⟨1,.cells (Oq (List.replicate 8 0))⟩→Q (.exit 0) ⟨lk [(0,uv x'),(2,.pob [0] 1 0),(3,.pob [1] 1 0),(4,iv 8),(7,bv q)],H'⟩) →
  LoopC (cx Tryz.prog w0 I0 n0) DW Q ⟨lk [(0,uv x),(2,.pob [0] 1 0),(3,.pob [1] 1 0),(4,iv i)],H⟩:=by
 intro m
 induction m with
 |zero=>
  intro i x d H h0 h1 hi hd hH hH0 hq
  have:i=8:=by omega
  subst this
  refine Ad Ah DW.eq_1 ?_
  simp
  exact hq _ _ _ (by simpa[DQ] using hH) hH0
 |succ m ih=>
  intro i x d H h0 h1 hi hd hH hH0 hq
  refine Ad Ah DW.eq_1 ?_
  have hlt:(i:Int)<8:=by omega
  simp[hlt,hH]
  refine⟨by omega,?_⟩
  have ht:x.tmod 256=x % 256:=Int.tmod_eq_emod_of_nonneg h0
  have e8:IntKind.u8.wrap (x % 256)=x % 256:=by rw[IntKind.wrap_u8];omega
  rw[Int.tdiv_eq_ediv_of_nonneg h0,ht,BI (by omega) (by omega),e8,Af (by omega) (by omega)]
  refine ih (i+1) (x / 256) (d++[x % 256]) _ (by omega) (by omega) (by omega) (by simp[hd]) ?_ (by simp[Aa,hH0]) (fun x' q H' k1 k0=>hq x' q H' (by rw[k1];simp[DQ]) k0)
  simp[Aa]
  rw[List.replicate_succ,← hd]
  simpa using lS (List.map u8 d) (u8 0) (u8 (x % 256)) (List.replicate m (u8 0))
end
def Be (x:Int):List Int:=DQ 8 x
theorem X4 {H:Hp} {l:List Int}:Jd H (.agg (Oq l)) (.agg (Oq l)):=Ab (by simp)
theorem Kv {x:Int} (h:Ci x):G.Spec Tryz.prog 208 [uv x] (.agg (Oq (Be x))):=by
 refine Aj Qv (by simp) fun w0 I0=>?_
 unfold JF
 simp
 refine kx 8 0 x [] _ h.1 h.2 rfl rfl (by simp) (by simp) (fun x' q H' h1 h0=>?_)
 have e:List.take 8 (Oq (DQ 8 x))=Oq (DQ 8 x):=AI (by simp)
 simp[h1,h0,Aa,e]
 exact⟨by simp[A.ones],X4⟩
theorem kV {k:Int} (hk:k≤8):∀ (m:Nat) (x i:Int),0≤x→x<256→0≤i→i+m=k→(∀ q,Q (.exit 0) ⟨lk [(0,u8 (x / 2 ^ m)),(1,iv k),(5,iv k),(8,bv q)],H⟩) →
  LoopC (cx Tryz.prog w0 I0 n0) DX Q ⟨lk [(0,u8 x),(1,iv k),(5,iv i)],H⟩:=by
 intro m
 induction m with
 |zero=>
  intro x i h0 h1 h2 h3 hq
  have:i=k:=by simpa using h3
  subst this
  refine Ad Ah DX.eq_1 ?_
  simp
  simpa using hq _
 |succ m ih=>
  intro x i h0 h1 h2 h3 hq
  refine Ad Ah DX.eq_1 ?_
  have hi:i<k:=by omega
  simp[hi]
  have e8:IntKind.u8.wrap (x / 2)=x / 2:=by rw[IntKind.wrap_u8];omega
  rw[Af (by omega) (by omega),Int.tdiv_eq_ediv_of_nonneg h0,e8]
  exact ih _ _ (by omega) (by omega) (by omega) (by omega) (by rw[SH];exact hq)
def HE (x:Int) (i:Nat):Bool:=decide (x / 2 ^ i % 2=1)
theorem cZ {x:Int} (h0:0≤x) (h1:x<256) {i:Nat} (hi:i≤8):G.Spec Tryz.prog 209 [u8 x,iv i] (bv (HE x i)):=by
 refine Aj QA (by simp) fun w0 I0=>?_
 unfold JQ
 simp
 refine kV (by omega) i x 0 h0 h1 (by omega) (by omega) (fun q=>?_)
 simp
 refine Bm ?_
 have:0≤x / 2 ^ i:=Int.ediv_nonneg h0 (Int.le_of_lt (Int.pow_pos (by decide)))
 rw[Int.tmod_eq_emod_of_nonneg this]
 rfl
def dY:List Int→Int
 |[]=>0
 |b::l=>b+256*dY l
theorem OJ:∀ (l:List Int),(∀ b,b ∈ l→0≤b∧b<256)→0≤dY l∧dY l<256 ^ l.length
 |[],_=>by simp[dY]
 |b::l,h=>by
  have h1:=h b (by simp)
  have h2:=OJ l fun x hx=>h x (by simp[hx])
  simp only[dY,List.length_cons,Int.pow_succ]
  omega
theorem yf {f:Bool} {l:List Int} (hl:l.length=8) (hr:∀ b,b ∈ l→0≤b∧b<256):∀ (m:Nat) (x j:Int),m≤8→x=dY (l.drop m)→j=(m:Int)-1→(∀ q,Q (.exit 0) ⟨lk [(0,.sl f (Oq l)),(1,iv 0),(5,uv (dY l)),(6,iv (-1)),(8,bv q)],H⟩) →
  LoopC (cx Tryz.prog w0 I0 n0) F0 Q ⟨lk [(0,.sl f (Oq l)),(1,iv 0),(5,uv x),(6,iv j)],H⟩:=by
 intro m
 induction m with
 |zero=>
  intro x j hm hx hj hq
  subst hx hj
  refine Ad Ah F0.eq_1 ?_
  simp
  simpa using hq false
 |succ m ih=>
  intro x j hm hx hj hq
  subst hx hj
  have hlt:m<l.length:=by omega
  have hd:=OJ (l.drop m) fun b hb=>hr b (Q3 hb)
  have hp:(256:Int) ^ (l.drop m).length≤18446744073709551616:=by
   have h2:=Int.ofNat_le.2 (Nat.pow_le_pow_right (n:=256) (by decide) (by simp;omega:(l.drop m).length≤8))
   rw[Int.natCast_pow] at h2
   exact h2
  have e1:l.drop m=l[m]::l.drop (m+1):=List.drop_eq_getElem_cons hlt
  have hb:=hr l[m] (Bq hlt)
  have ez:dY (l.drop m)=l[m]+256*dY (l.drop (m+1)):=by rw[e1,dY]
  have hd1:=OJ (l.drop (m+1)) fun b hb=>hr b (Q3 hb)
  refine Ad Ah F0.eq_1 ?_
  have em:IntKind.i64.wrap (m:Int)=m:=Af (by omega) (by omega)
  have hm0:(0:Int)≤m:=by omega
  have hm8:(m:Int)<8:=by omega
  simp[em,hl,hm8,List.getElem?_eq_getElem hlt]
  have e64:IntKind.u64.wrap l[m]=l[m]:=BI (by omega) (by omega)
  rw[e64,BI (n:=dY (List.drop (m+1) l)*256) (by omega) (by omega),BI (by omega) (by omega),Af (by omega) (by omega)]
  exact ih _ _ (by omega) (by rw[ez];omega) rfl hq
theorem pW {f:Bool} {l:List Int} (hl:l.length=8) (hr:∀ b,b ∈ l→0≤b∧b<256):G.Spec Tryz.prog 210 [.sl f (Oq l),iv 0] (uv (dY l)):=by
 refine Aj UL (by simp) fun w0 I0=>?_
 unfold Nc
 simp
 refine yf hl hr 8 0 7 (BW _) ?_ rfl (fun q=>?_)
 ·rw[List.drop_of_length_le (by omega)];rfl
 ·simp
  exact Ab rfl
theorem MP:∀ (m:Nat) (x:Int),∀ b,b ∈ DQ m x→0≤b∧b<256
 |m+1,x,b,h=>by
  rcases List.mem_cons.1 h with rfl | h
  ·omega
  ·exact MP m _ b h
def Nk (a b:List Int) (mask:Int) (k:Nat):List Int:=(List.range k).map (fun i=>if HE mask i=true then b.getD i 0 else a.getD i 0)++a.drop k
theorem Og {a b:List Int} {mask:Int} {k:Nat} (h:k≤a.length):(Nk a b mask k).length=a.length:=by simp[Nk];omega
theorem ko {a b:List Int} {mask:Int} {k:Nat} (h:k<a.length):Nk a b mask (k+1)=if HE mask k=true then (Nk a b mask k).set k (b.getD k 0) else Nk a b mask k:=by
 unfold Nk
 rw[List.range_succ]
 have e0:a.drop k=a[k]::a.drop (k+1):=List.drop_eq_getElem_cons h
 have e:((List.range k).map (fun i=>if HE mask i=true then b.getD i 0 else a.getD i 0)).length=k:=by simp
 split
 ·rename_i hn
  rw[List.set_append_right _ _ (by omega),e,e0,Nat.sub_self,List.set_cons_zero]
  simp[hn]
 ·rename_i hn
  rw[e0]
  simp[hn,List.getElem?_eq_getElem h]
section
variable {n0:Nat} {w0:World} {I0:Nat→Prop} {Q:Exit→Sta→Prop}
theorem s0 {a b:List Int} {mask:Int} (ha:a.length=8) (hb:b.length=8) (h0:0≤mask) (h1:mask<256) (hq:∀ q H',H' [0]=⟨1,.cells (Oq (Nk a b mask 8))⟩→Q (.exit 0) ⟨lk [(2,u8 mask),(7,.pob [0] 1 0),(8,.pob [1] 1 0),(9,iv 8),(15,bv q)],H'⟩):∀ (m i:Nat) (H:Hp),i+m=8→H [0]=⟨1,.cells (Oq (Nk a b mask i))⟩→H [1]=⟨1,.cells (Oq b)⟩ →
  LoopC (cx Tryz.prog w0 I0 n0) E9 Q ⟨lk [(2,u8 mask),(7,.pob [0] 1 0),(8,.pob [1] 1 0),(9,iv i)],H⟩:=by
 intro m
 induction m with
 |zero=>
  intro i H hi hA hB
  have:i=8:=by omega
  subst this
  refine Ad Ah E9.eq_1 ?_
  simp
  exact hq _ _ hA
 |succ m ih=>
  intro i H hi hA hB
  have hlt:(i:Int)<8:=by omega
  have hml:=Og (a:=a) (b:=b) (mask:=mask) (k:=i) (by omega)
  have hia:i<(Nk a b mask i).length:=by omega
  have hib:i<b.length:=by omega
  refine Ad Ah E9.eq_1 ?_
  simp[hlt]
  refine Ae (cZ h0 h1 (by omega)) rfl ?_
  have hs:=ko (a:=a) (b:=b) (mask:=mask) (k:=i) (by omega)
  cases hn:HE mask i with
  |false=>
   simp[hn] at hs
   simp
   rw[Af (by omega) (by omega)]
   exact ih (i+1) H (by omega) (by rw[hs];exact hA) hB
  |true=>
   simp[hn] at hs
   simp[hlt,hA,hB,List.getElem?_eq_getElem hib]
   refine⟨by omega,?_⟩
   rw[Af (by omega) (by omega)]
   refine ih (i+1) _ (by omega) ?_ (by simp[Aa,hB])
   rw[hs]
   simp only[Aa,if_true]
   rw[VU hia]
   simp[List.getElem?_eq_getElem hib]
end
def Zm (a b mask:Int):Int:=dY (Nk (Be a) (Be b) mask 8)
theorem WK {a b mask:Int} {k:Nat}:∀ x,x ∈ Nk (Be a) (Be b) mask k→0≤x∧x<256:=by
 have hg:∀ (y:Int) (i:Nat),0≤(Be y).getD i 0∧(Be y).getD i 0<256:=fun y i=>by
  rw[List.getD_eq_getElem?_getD]
  cases e:(Be y)[i]? with
  |none=>simp
  |some z=>exact MP 8 y z (List.mem_of_getElem? e)
 intro x hx
 rcases List.mem_append.1 hx with hx | hx
 ·obtain⟨i,_,rfl⟩:=List.mem_map.1 hx
  split
  ·exact hg b i
  ·exact hg a i
 ·exact MP 8 a x (Q3 hx)
theorem HQ (x:Int):(Be x).length=8:=PB 8 x
theorem YY {a b mask:Int} (ha:Ci a) (hb:Ci b) (h0:0≤mask) (h1:mask<256):G.Spec Tryz.prog 163 [uv a,uv b,u8 mask] (uv (Zm a b mask)):=by
 refine Aj TE (by simp) fun w0 I0=>?_
 unfold Mg
 simp
 refine Ae (Kv ha) rfl ?_
 simp
 refine Ae (Kv hb) rfl ?_
 have l8:=HQ a
 have m8:=HQ b
 have o1:∀ l:List Int,A.ones (Oq l)=true:=fun l=>by simp[A.ones]
 simp[l8,m8,o1]
 refine s0 l8 m8 h0 h1 (fun q H' hH=>?_) 8 0 _ (by omega) (by simp[Nk]) (by simp)
 simp
 have lm:(Nk (Be a) (Be b) mask 8).length=8:=by rw[Og (by omega),l8]
 refine CJ (Fz (d:=[0]) (fun _ h=>h) 7 (.pim (Oq (Nk (Be a) (Be b) mask 8))) (fun H1 h1=>?_)) (Ep ?_)
 ·rw[hH] at h1
  exact Zo (by simp[Wf,h1]) (LY (by simp)) (o1 _)
 have e:List.take 8 (Oq (Nk (Be a) (Be b) mask 8))=Oq (Nk (Be a) (Be b) mask 8):=AI (by simp[lm])
 simp[lm,e]
 refine Ae (pW lm WK) rfl ?_
 simp
 exact Ab rfl
@[simp] theorem Aae {q:Bool} {n:Nat} {y:A} {K:A→Prop}:G0 q (A.shift n (gd q y)) K=G0 q (A.shift n y) K:=D9 fun h=>by rw[h];rfl
theorem su (l:List Int):A.softL (l.map uv)=l.map uv:=by
 rw[Cm,List.map_map];rfl
theorem sG:∀ t:T,(tA t).soft=tA t:=by
 refine T.ind fun k w l ih=>?_
 rw[tA_eq]
 simp only[A.soft,A.softL,T.kind_mk,T.words_mk,T.kids_mk,su]
 have e:l.map (A.soft ∘ tA)=l.map tA:=List.map_congr_left fun t ht=>ih t ht
 rw[Cm,List.map_map,e]
 rfl
theorem qv (l:List T):A.softL (l.map tA)=l.map tA:=by
 rw[Cm,List.map_map]
 exact List.map_congr_left fun t _=>sG t
structure Sg (l:List (List Int)):Prop where
 b:∀ x,x ∈ l→x.length*8≤140737488355328
 w:aB l
def PA (l:List (List Int)) (r:Rf):A:=if r.kind=0 then .v (.pointer none) else mL l
@[simp] theorem Aal (l:List (List Int)) (r:Rf):(PA l r).cells=[PA l r]:=by unfold PA;split<;>rfl
@[simp] theorem Ahi (l:List (List Int)) (r:Rf):(PA l r).one=true:=by unfold PA;split<;>rfl
@[simp] theorem AdA (l:List (List Int)) (r:Rf):(PA l r).bare=true:=by unfold PA;split<;>rfl
@[simp] theorem AaM (l:List (List Int)) (r:Rf):(PA l r).bare1=true:=by unfold PA;split<;>rfl
@[simp] theorem AaY (l:List (List Int)) (r:Rf):(PA l r).bare2=true:=by unfold PA;split<;>rfl
theorem yH {l:List (List Int)} {r:Rf} (h:r.kind ≠ 0):PA l r=mL l:=if_neg h
abbrev Xr (l:List (List Int)) (r:Rf):List A:=[PA l r,iv r.kind,iv r.s,iv r.at_,iv r.data,iv r.kids,iv r.count,uv r.n]
abbrev GH (l:List (List Int)) (r:Rf):A:=.agg (Xr l r)
def WX (r:Rf):Int:=if r.kind=1 then r.data else if r.kind=10 then 1 else 0
def ML (l:List (List Int)) (r:Rf) (i:Int):Int:=if i<0∨WX r≤i then 0 else if r.kind=10 then r.n else (B0 l r.s (r.at_+i)).getD 0
theorem uk (x:Int) (k:Int) (h0:0≤k) (h1:k<64):x / 2 ^ (min k.toNat IntKind.u64.bits)=x / 2 ^ k.toNat:=by
 have:min k.toNat IntKind.u64.bits=k.toNat:=by
  have:IntKind.u64.bits=64:=rfl
  omega
 rw[this]
set_option maxRecDepth 8000 in
theorem kg {g:List Int} (hg:∀ x,x ∈ g→0≤x∧x<18446744073709551616) (hl:g.length*8≤140737488355328) (c i:Int):G.Spec Tryz.prog 255 [C5 g,iv c,iv i] (uv (Ov g c i)):=by
 refine Aj eY (by simp) fun w0 I0=>?_
 unfold Xc
 simp
 refine Ae (VY c) rfl ?_
 have hw:=SF c
 by_cases h0:AD c<1∨i<0∨1099511627776<i
 ·have e:Ov g c i=0:=by unfold Ov;rw[if_pos h0]
  rw[e]
  rcases hw with h | h | h | h | h | h | h
  ·simp[h];exact Ab rfl
  ·simp[h];exact Ab rfl
  all_goals
   by_cases hi:i<0
   ·simp[h,hi];exact Ab rfl
   ·have hb:1099511627776<i:=by omega
    simp[h,hi,hb];exact Ab rfl
 ·have hw1:AD c=1∨AD c=8∨AD c=16∨AD c=32∨AD c=64:=by omega
  have hi0:0≤i:=by omega
  have hi1:i≤1099511627776:=by omega
  have e:Ov g c i=((g[(i*AD c / 64).toNat]?).getD 0) / 2 ^ (i*AD c % 64).toNat % 2 ^ (AD c).toNat:=by unfold Ov;rw[if_neg h0]
  rw[e]
  clear e hw
  generalize AD c=w at hw1 h0
  have hn:¬ w<0:=by omega
  have hn0:¬ w=0:=by omega
  have hp:0≤w:=by omega
  have hneg:¬ i<0:=by omega
  have hbig:¬ 1099511627776<i:=by omega
  have hb:0≤i*w∧i*w≤70368744177664:=by rcases hw1 with rfl | rfl | rfl | rfl | rfl<;>omega
  have e1:IntKind.i64.wrap (i*w)=i*w:=Af (by omega) (by omega)
  have e2:IntKind.i64.wrap ((i*w).tdiv 64)=i*w / 64:=by rw[Int.tdiv_eq_ediv_of_nonneg hb.1,Af (by omega) (by omega)]
  have e3:(i*w).tmod 64=i*w % 64:=Int.tmod_eq_emod_of_nonneg hb.1
  have hm:0≤i*w % 64:=by omega
  have hm1:i*w % 64<64:=by omega
  have hd0:0≤i*w / 64:=by omega
  by_cases hr:(g.length:Int)≤i*w / 64
  ·have en:g[(i*w / 64).toNat]? = none:=List.getElem?_eq_none (by omega)
   simp[hn,hn0,hp,hneg,hbig,e1,e2,hr,en]
   exact Ab rfl
  ·have hlt:(i*w / 64).toNat<g.length:=by omega
   have hlt':i*w / 64<g.length:=by omega
   have hx:=hg _ (Bq hlt)
   simp[hn,hn0,hp,hneg,hbig,e1,e2,e3,hr,hd0,hlt,hlt',hm,uk _ _ hm hm1]
   have hx0:0≤g[(i*w / 64).toNat] / 2 ^ (i*w % 64).toNat:=Int.ediv_nonneg hx.1 (Int.le_of_lt (Int.pow_pos (by decide)))
   have hx1:g[(i*w / 64).toNat] / 2 ^ (i*w % 64).toNat<18446744073709551616:=Int.lt_of_le_of_lt (Int.ediv_le_self _ hx.1) hx.2
   generalize g[(i*w / 64).toNat] / 2 ^ (i*w % 64).toNat=y at hx0 hx1
   refine⟨fun h=>?_,fun h=>?_⟩
   ·refine BS ?_
    rw[h]
    exact(Int.emod_eq_of_lt hx0 (by simpa using hx1)).symm
   ·refine BS ?_
    have em:∀ k:Nat,k<64→IntKind.u64.wrap (IntKind.u64.wrap (2 ^ min k IntKind.u64.bits)-1)=2 ^ k-1:=fun k hk=>by
     have h64:min k IntKind.u64.bits=k:=by
      have:IntKind.u64.bits=64:=rfl
      omega
     have hp:(2:Int) ^ k≤9223372036854775808:=by
      have h2:=Int.ofNat_le.2 (Nat.pow_le_pow_right (n:=2) (by decide) (by omega:k≤63))
      rw[Int.natCast_pow] at h2
      exact h2
     have hp0:(0:Int)<2 ^ k:=Int.pow_pos (by decide)
     rw[h64,BI (n:=2 ^ k) (by omega) (by omega),BI (by omega) (by omega)]
    rw[em w.toNat (by omega)]
    exact NZ w.toNat (by omega) hx0 hx1
theorem cF (c:Int):G.Spec Tryz.prog 254 [iv c] (.tup [iv (if AD c<0 then 0 else AD c),bv (decide (0≤AD c))]):=by
 refine Aj Za (by simp) fun w0 I0=>?_
 unfold SJ
 simp
 refine Ae (VY c) rfl ?_
 simp
 exact Ab rfl
theorem DA {cs:List A} {x:Value} (h:cs.all A.bare2=true):(A.tup [.agg cs,.v x]).bare=true:=by
 simp only[A.bare,List.all_cons,List.all_nil,Bool.and_true]
 rw[h];rfl
theorem Cb (l:List (List Int)) (r:Rf):G.Spec Tryz.prog 95 [GH l r] (iv r.kind):=by
 refine Aj RT (by simp) fun w0 I0=>?_
 unfold KP
 simp
 exact Ab rfl
theorem Hk (l:List (List Int)) (r:Rf):G.Spec Tryz.prog 192 [GH l r] (iv (WX r)):=by
 refine Aj QX (by simp) fun w0 I0=>?_
 unfold J4
 by_cases h1:r.kind=1
 ·simp[h1];exact Ap rfl (by simp[WX,h1])
 ·by_cases h10:r.kind=10
  ·simp[h10];exact Ap rfl (by simp[WX,h10])
  ·simp[h1,h10];exact Ap rfl (by simp[WX,h1,h10])
theorem DR (l:List (List Int)) (r:Rf):G.Spec Tryz.prog 137 [GH l r] (iv (nk r)):=by
 refine Aj RQ (by simp) fun w0 I0=>?_
 unfold K6
 by_cases h1:r.kind=1
 ·simp[h1];exact Ap rfl (by simp[nk,h1])
 ·simp[h1];exact Ap rfl (by simp[nk,h1])
theorem C4 {l:List (List Int)} (hs:Sg l) {s a n:Int} (h:Hn l s a n=true):0≤a∧0≤n∧a+n≤17592186044416:=by
 obtain⟨h1,h2,h3,h4,h5,_,h6⟩:=MH h
 have:=hs.b _ (Bq h5)
 omega
theorem Gv {l:List (List Int)} (hs:Sg l) {r:Rf} (hr:Fx l r) (i:Int):G.Spec Tryz.prog 150 [GH l r,iv i] (uv (ML l r i)):=by
 refine Aj Ss (by simp) fun w0 I0=>?_
 unfold KW
 simp
 refine Bj rfl (fun _=>Hk l r) (fun e=>by simp[e]) (by simp) ?_
 by_cases hi:i<0∨WX r≤i
 ·have hd:(decide (i<0) || decide (WX r≤i))=true:=by simpa using hi
  simp[hd]
  exact Ap rfl (by simp[ML,hi])
 ·have hd:(decide (i<0) || decide (WX r≤i))=false:=by simpa using hi
  simp[hd]
  have e:ML l r i=if r.kind=10 then r.n else (B0 l r.s (r.at_+i)).getD 0:=by rw[ML,if_neg hi]
  by_cases h10:r.kind=10
  ·simp[h10]
   exact Ap rfl (by rw[e,if_pos h10])
  ·have h1:r.kind=1:=by
    cases hr<;>simp[WX,Rf.zero] at hi h10 ⊢<;>omega
   simp[h10]
   rw[e,if_neg h10,yH (by omega)]
   have hb:IntKind.i64.wrap (r.at_+i)=r.at_+i:=by
    cases hr with
    |str s a d k a1 a2 a3 a4 h=>
     have:=C4 hs h
     simp[WX] at hi ⊢
     exact Af (by omega) (by omega)
    |_=>simp[Rf.zero] at h1<;>omega
   rw[hb]
   refine Ae (Oi l hs.b r.s (r.at_+i)) rfl ?_
   simp
   exact Ab rfl
theorem lF {l:List (List Int)} (hs:Sg l) (s a n:Int) (ha:0≤a) (ha1:a≤17592186044416):G.Spec Tryz.prog 158 [.agg [mL l,iv 0,iv s,iv a,iv 0,iv 0,iv 0,uv 0],iv n] (.tup [GH l (Wl l s a n).1,iv (Wl l s a n).2]):=by
 have h0:0≤(B0 l s a).getD 0∧(B0 l s a).getD 0<18446744073709551616:=by
  cases e:B0 l s a with
  |none=>simp
  |some x=>exact DY hs.w e
 refine Aj MJ (by simp) fun w0 I0=>?_
 unfold Hb
 simp
 refine Ae (Oi l hs.b s a) rfl ?_
 simp
 unfold Wl
 generalize (B0 l s a).getD 0=w at h0
 refine Ae (Iw h0.1 h0.2) rfl ?_
 have hsh:=O0 h0.1 h0.2
 have ho:=MA h0.1 h0.2
 have hdp:0≤(DT w).data∧(DT w).data<65536∧0≤(DT w).ptrs∧(DT w).ptrs<65536:=by
  unfold DT
  repeat' split
  all_goals simp
  all_goals omega
 generalize DT w=p at hsh ho hdp
 have hb:-70368744177664≤p.off*(p.data+p.ptrs)∧p.off*(p.data+p.ptrs)≤70368744177664:=by
  have b1:p.off*(p.data+p.ptrs)≤536870912*(p.data+p.ptrs):=Int.mul_le_mul_of_nonneg_right (by omega) (by omega)
  have b2:-536870912*(p.data+p.ptrs)≤p.off*(p.data+p.ptrs):=Int.mul_le_mul_of_nonneg_right (by omega) (by omega)
  omega
 have e1:IntKind.i64.wrap (p.data+p.ptrs)=p.data+p.ptrs:=Af (by omega) (by omega)
 have e2:IntKind.i64.wrap (p.off*(p.data+p.ptrs))=p.off*(p.data+p.ptrs):=Af (by omega) (by omega)
 have e3:IntKind.i64.wrap (a+1)=a+1:=Af (by omega) (by omega)
 by_cases hc:(w ≠ 0∧p.kind ≠ 1)∨p.off<0∨n<p.off*(p.data+p.ptrs)
 ·have hd:(((!decide (w=0)&&!decide (p.kind=1)) || decide (p.off<0)) || decide (n<p.off*(p.data+p.ptrs)))=true:=by simp;omega
  rw[if_pos hc]
  simp[e1,e2,hd]
  exact Ap (DA (by simp)) (by simp[Rf.zero,PA])
 ·have hd:(((!decide (w=0)&&!decide (p.kind=1)) || decide (p.off<0)) || decide (n<p.off*(p.data+p.ptrs)))=false:=by simp;omega
  rw[if_neg hc]
  simp[e1,e2,e3,hd]
  exact Ap (DA (by simp)) (by simp[PA])
theorem ZW {l:List (List Int)} (hs:Sg l) (s a:Int):G.Spec Tryz.prog 99 [mL l,iv s,iv a] (.tup [GH l (XH l s a).1,iv (XH l s a).2]):=by
 have hf:=Om hs.w s a
 refine Aj aV (by simp) fun w0 I0=>?_
 unfold Uf
 simp
 refine Ae (cK l hs.b hs.w s a) rfl ?_
 unfold XH
 generalize C9 l s a=x at hf
 obtain⟨x,e⟩:=x
 unfold kB at hf
 simp only at hf ⊢
 by_cases hc:e ≠ 0∨x.p.kind=0
 ·have hd:(!decide (e=0) || decide (x.p.kind=0))=true:=by simp;omega
  simp[hd,hc]
  exact Ap (DA (by simp)) (by simp[Rf.zero,PA])
 ·have hd:(!decide (e=0) || decide (x.p.kind=0))=false:=by simp;omega
  have he:e=0:=by omega
  obtain h0 | ⟨hk,hsh,hw⟩:=hf he
  ·omega
  have hbd:=C4 hs hw
  rw[if_neg hc]
  simp[hd]
  unfold qf
  by_cases k1:x.p.kind=1
  ·simp[k1]
   exact Ap (DA (by simp)) (by simp[PA])
  ·have k2:x.p.kind=2:=by omega
   obtain⟨c0,c1,_,_⟩:=hsh.k2 k2
   by_cases c6:x.p.code<6
   ·have e2:IntKind.i64.wrap (2+x.p.code)=2+x.p.code:=Af (by omega) (by omega)
    have c7:x.p.code<7:=by omega
    have nz:¬ (2+x.p.code=0):=by omega
    simp[k1,c6,c7,e2]
    exact⟨Ap (DA (by simp)) (by simp[PA,nz]),fun h=>absurd h (by omega)⟩
   ·by_cases c6':x.p.code=6
    ·simp[k1,c6']
     exact Ap (DA (by simp)) (by simp[PA])
    ·have c7:¬ x.p.code<7:=by omega
     simp[k1,c6,c6',c7]
     intro _
     refine Ae (lF hs x.s x.at_ x.p.count hbd.1 (by omega)) rfl ?_
     simp
     exact Ab (DA (by simp))
theorem j7 {l:List (List Int)} (hs:Sg l):G.Spec Tryz.prog 49 [mL l] (.tup [GH l (XH l 0 0).1,iv (XH l 0 0).2]):=by
 refine Aj XE (by simp) fun w0 I0=>?_
 unfold Pu
 simp
 refine Ae (ZW hs 0 0) rfl ?_
 simp
 exact Ab (DA (by simp))
theorem YO {l:List (List Int)} {s a:Int} (ha:0≤a) (k:Nat):((((seg l s).getD []).drop a.toNat)[k]?).getD 0=(B0 l s (a+k)).getD 0:=by
 unfold B0
 rw[if_pos (by omega)]
 cases seg l s with
 |none=>simp
 |some g=>
  simp only[Option.getD_some,Option.bind_some,List.getElem?_drop]
  have:a.toNat+k=(a+k).toNat:=by omega
  rw[this]
theorem jZ {l:List (List Int)} (hs:Sg l) {c s a n:Int} (c0:0≤c) (c6:c<6) (n0:0≤n) (n1:n<536870912) (h:Hn l s a ((n*Gx c+63) / 64)=true) {i:Int} (i0:0≤i) (i1:i<n) :
  G.Spec Tryz.prog 231 [GH l ⟨2+c,s,a,0,0,n,0⟩,iv i] (uv (XV l ⟨2+c,s,a,0,0,n,0⟩ i)):=by
 have hb:=C4 hs h
 have e2:IntKind.i64.wrap c=c:=Af (by omega) (by omega)
 have nz:¬ (2+c=0):=by omega
 have key:∀ w per:Int,AD c=w→w*per=64→(w=1∨w=8∨w=16∨w=32∨w=64)→Ov [(B0 l s (a+i / per)).getD 0] c (i % per)=XV l ⟨2+c,s,a,0,0,n,0⟩ i:=fun w per hw hp hw'=>by
  unfold XV Ov
  simp only[show 2+c-2=c by omega,hw]
  have hk:(i % per*w / 64).toNat=0∧i % per*w % 64=i*w % 64∧i*w / 64=i / per∧¬ (i % per<0)∧¬ 1099511627776<i % per:=by
   rcases hw' with rfl | rfl | rfl | rfl | rfl
   ·have:per=64:=by omega
    subst this;omega
   ·have:per=8:=by omega
    subst this;omega
   ·have:per=4:=by omega
    subst this;omega
   ·have:per=2:=by omega
    subst this;omega
   ·have:per=1:=by omega
    subst this;omega
  obtain⟨k1,k2,k3,k4,k5⟩:=hk
  rw[if_neg (by omega),if_neg (by omega),k1,k2,k3]
  have hd0:0≤i / per:=by rw[← k3];rcases hw' with rfl | rfl | rfl | rfl | rfl<;>omega
  have:=YO (l:=l) (s:=s) (a:=a) hb.1 (i / per).toNat
  rw[show((i / per).toNat:Int)=i / per by omega] at this
  rw[this]
  simp
 have e2':IntKind.i64.wrap (2+c-2)=c:=An
 have hw64:∀ x:Int,0≤(B0 l s x).getD 0∧(B0 l s x).getD 0<18446744073709551616:=fun x=>by
  cases e:B0 l s x with
  |none=>simp
  |some y=>exact DY hs.w e
 refine Aj RH (by simp) fun w0 I0=>?_
 unfold K9
 simp[e2']
 refine Ae (cF c) rfl ?_
 by_cases hc0:c=0
 ·subst hc0
  simp[AD]
  exact Ap rfl (by simp[XV,Ov,AD])
 have hx:∃ w per:Int,AD c=w∧w*per=64∧(w=1∨w=8∨w=16∨w=32∨w=64)∧(per=64∨per=8∨per=4∨per=2∨per=1)∧IntKind.i64.wrap ((64:Int).tdiv w)=per:=by
  have hc:c=1∨c=2∨c=3∨c=4∨c=5:=by omega
  rcases hc with rfl | rfl | rfl | rfl | rfl
  ·exact⟨1,64,rfl,rfl,by omega,by omega,by decide⟩
  ·exact⟨8,8,rfl,rfl,by omega,by omega,by decide⟩
  ·exact⟨16,4,rfl,rfl,by omega,by omega,by decide⟩
  ·exact⟨32,2,rfl,rfl,by omega,by omega,by decide⟩
  ·exact⟨64,1,rfl,rfl,by omega,by omega,by decide⟩
 obtain⟨w,per,hw,hp,hw',hper,ep⟩:=hx
 have hk:=key w per hw hp hw'
 have wn:¬ w<0:=by omega
 have wz:¬ w=0:=by omega
 have pz:¬ per=0:=by omega
 have hq:0≤i / per∧i / per≤i:=by rcases hper with rfl | rfl | rfl | rfl | rfl<;>omega
 have hm:0≤i % per:=Int.emod_nonneg _ pz
 have e3:IntKind.i64.wrap (i.tdiv per)=i / per:=by rw[Int.tdiv_eq_ediv_of_nonneg i0,Af (by omega) (by omega)]
 have e4:IntKind.i64.wrap (a+i / per)=a+i / per:=Af (by omega) (by omega)
 have e5:i.tmod per=i % per:=Int.tmod_eq_emod_of_nonneg i0
 simp[hw,wn,wz,ep,pz,e3,e4,PA,nz]
 refine Ae (Oi l hs.b s (a+i / per)) rfl ?_
 simp[pz,e5]
 have hx:=hw64 (a+i / per)
 refine Ae ((kg (g:=[(B0 l s (a+i / per)).getD 0]) (fun x hx'=>by simp at hx';rw[hx'];exact hx) (by simp) c (i % per)).soft (by simp[A.softL,A.soft])) rfl ?_
 simp
 rw[hk]
 exact Ab rfl
theorem Kh {l:List (List Int)} (hs:Sg l) {r:Rf} (hr:Fx l r) (i:Int):G.Spec Tryz.prog 194 [GH l r,iv i] (.tup [GH l (Cj l r i).1,iv (Cj l r i).2]):=by
 refine Aj Tg (by simp) fun w0 I0=>?_
 unfold LH
 simp
 refine Bj rfl (fun _=>DR l r) (fun e=>by simp[e]) (by simp) ?_
 by_cases hi:i<0∨nk r≤i
 ·have hd:(decide (i<0) || decide (nk r≤i))=true:=by simpa using hi
  simp[hd]
  exact Ap (DA (by simp)) (by simp[Cj,hi,Rf.zero,PA])
 ·have hd:(decide (i<0) || decide (nk r≤i))=false:=by simpa using hi
  have hi0:0≤i:=by omega
  have hi1:i<nk r:=by omega
  have hk:=JD hr
  rw[Cj,if_neg hi]
  cases hr with
  |zero=>simp[nk,Rf.zero] at hi1;omega
  |str s a d k a1 a2 a3 a4 h=>
   have hb:=C4 hs h
   have e1:IntKind.i64.wrap (IntKind.i64.wrap (a+d)+i)=a+d+i:=by
    rw[Af (n:=a+d) (by omega) (by omega),Af (by omega) (by omega)]
   simp[hd,PA,e1]
   refine Ae (ZW hs s (a+d+i)) rfl ?_
   simp
   exact Ab (DA (by simp))
  |dat c s a n a1 a2 a3 a4 h=>
   have n0:¬ (2+c=0):=by omega
   have n1:¬ (2+c=1):=by omega
   have n8:¬ (2+c=8):=by omega
   have n9:¬ (2+c=9):=by omega
   have hn:i<n:=by simpa[nk,n1] using hi1
   have:=jZ hs a1 a2 a3 a4 h hi0 hn
   simp[hd,n1,n8,n9]
   refine Ae this (by simp) ?_
   simp
   exact Ap (DA (by simp)) (by simp[PA,n0])
  |ptrs s a n a1 a2 h=>
   have hb:=C4 hs h
   have e1:IntKind.i64.wrap (a+i)=a+i:=Af (by omega) (by omega)
   simp[hd,PA,e1]
   refine Ae (ZW hs s (a+i)) rfl ?_
   simp
   exact Ab (DA (by simp))
  |comp s a d k n a1 a2 a3 a4 a5 a6 h=>
   have hb:=C4 hs h
   have hn:i<n:=by simpa[nk] using hi1
   have m1:0≤i*(d+k):=Int.mul_nonneg hi0 (by omega)
   have m2:i*(d+k)≤n*(d+k):=OL (by omega) (by omega)
   have e1:IntKind.i64.wrap (d+k)=d+k:=Af (by omega) (by omega)
   have e2:IntKind.i64.wrap (i*(d+k))=i*(d+k):=Af (by omega) (by omega)
   have e3:IntKind.i64.wrap (a+i*(d+k))=a+i*(d+k):=Af (by omega) (by omega)
   simp[hd,PA,e1,e2,e3]
   exact Ap (DA (by simp)) (by simp[PA])
  |atom n a1 a2=>simp[nk] at hi1;omega
theorem CM {l:List (List Int)} {r:Rf} {t:T} (h:AG l r t):WX r=t.words.length∧∀ (i:Nat) (hi:i<t.words.length),ML l r i=t.words[i]:=by
 cases h with
 |mk _ _ hr hk hw hn he hm=>
  have hl:WX r=(Ce l r).length:=by
   cases hr with
   |str s a d k a1 a2 a3 a4 h=>
    obtain⟨h1,h2,h3,h4,h5,e,h6⟩:=MH h
    simp[WX,Ce,part,e]
    omega
   |dat c s a n a1 a2 a3 a4 h=>
    have:¬ (2+c=10):=by omega
    have h1:¬ (2+c=1):=by omega
    simp[WX,Ce,this,h1]
   |_=>simp[WX,Ce,Rf.zero]
  rw[← hw]
  refine⟨hl,fun i hi=>?_⟩
  have hi':(i:Int)<WX r:=by rw[hl];omega
  rw[ML,if_neg (by omega)]
  cases hr with
  |str s a d k a1 a2 a3 a4 h=>
   obtain⟨h1,h2,h3,h4,h5,e,h6⟩:=MH h
   simp[Ce,part,e]
   have:=YO (l:=l) (s:=s) (a:=a) h3 i
   rw[e] at this
   simp at this
   rw[← this,List.getElem?_eq_getElem (by simp[WX] at hi';omega)]
   simp
  |atom n a1 a2=>
   simp[Ce] at hi ⊢
  |dat c s a n a1 a2 a3 a4 h=>
   have:¬ (2+c=10):=by omega
   have h1:¬ (2+c=1):=by omega
   simp[WX,this,h1] at hi'
   omega
  |_=>simp[WX,Rf.zero] at hi'<;>omega
theorem Ca {l:List (List Int)} {r:Rf} {t:T} (h:AG l r t):Fx l r:=by cases h;assumption
theorem Cp {l:List (List Int)} {r:Rf} {t:T} (h:AG l r t):r.kind=t.kind:=by cases h;assumption
theorem Ha {l:List (List Int)} {r:Rf} {t:T} (h:AG l r t):nk r=t.kids.length:=by cases h;assumption
theorem FV {l:List (List Int)} {r:Rf} {t:T} (h:AG l r t) {i:Nat} (hi:i<t.kids.length):(Cj l r i).2=0∧AG l (Cj l r i).1 t.kids[i]:=by
 cases h with
 |mk _ _ hr hk hw hn he hm=>exact⟨he i hi,hm i hi⟩
theorem P8 {l:List (List Int)} {r:Rf} {t:T} (h:AG l r t):eW t:=fun h0=>by
 have hk:=Cp h
 have hw:=(CM h).1
 have hn:=Ha h
 have hr:=Ca h
 rw[h0] at hk
 have:WX r=0∧nk r=0:=by
  cases hr<;>simp[WX,nk,Rf.zero] at hk ⊢<;>omega
 exact⟨List.eq_nil_of_length_eq_zero (by omega),List.eq_nil_of_length_eq_zero (by omega)⟩
theorem Dm {l:List (List Int)} {r:Rf} {t:T} (h:AG l r t):t.words.length≤65536∧t.kids.length<536870912:=by
 have hw:=(CM h).1
 have hn:=Ha h
 have hr:=Ca h
 have:=JD hr
 have:WX r≤65536:=by
  cases hr<;>simp[WX,Rf.zero]<;>(try split)<;>omega
 omega
theorem uJ {l:List (List Int)} (hs:Sg l) {r:Rf} {t:T} (hm:AG l r t) (hH:H [0]=⟨1,.cells (Xr l r)⟩) (hq:∀ q,Q (.exit 0) ⟨lk [(1,.pob [0] 1 0),(3,iv (BT t.words).length),(14,bv q)],H⟩):∀ (n:Nat),n≤t.words.length→BT (t.words.take n)=BT t.words →
  LoopC (cx Tryz.prog w0 I0 n0) Jt Q ⟨lk [(1,.pob [0] 1 0),(3,iv n)],H⟩:=by
 have hlen:=Dm hm
 intro n
 induction n with
 |zero=>
  intro hn ht
  refine Ad Ah Jt.eq_1 ?_
  simp
  refine A8 rfl ?_
  have e:(BT t.words).length=0:=by rw[← ht];rfl
  have:=hq false
  rw[e] at this
  simp
  exact this
 |succ n ih=>
  intro hn ht
  have hlt:n<t.words.length:=by omega
  have e:IntKind.i64.wrap (n:Int)=n:=Af (by omega) (by omega)
  have hp:(0:Int)<(n:Int)+1:=by omega
  have hwd:=(CM hm).2 n hlt
  refine Ad Ah Jt.eq_1 ?_
  simp[hp,hH,e]
  refine Em rfl (fun _=>Gv hs (Ca hm) n) (fun _=>rfl) (by simp) ?_
  rw[hwd]
  by_cases h0:t.words[n]=0
  ·simp[h0,e]
   exact ih (by omega) (by rw[← Q0 hlt h0];exact ht)
  ·have e2:(BT t.words).length=n+1:=by rw[← ht,Qt hlt h0];simp;omega
   have:=hq false
   rw[e2] at this
   simp[h0]
   exact this
theorem uI {l:List (List Int)} (hs:Sg l) {r:Rf} {t:T} (hm:AG l r t):∀ (n:Nat) (H:Hp),H [0]=⟨1,.cells (Xr l r)⟩→n≤t.kids.length→BC (t.kids.take n)=BC t.kids→((BC t.kids).length=0→∀ k q H',Q (.exit 0) ⟨lk [(1,.pob [0] 1 0),(4,iv k),(10,bv q)],H'⟩)→((BC t.kids).length ≠ 0→∀ H',Q .ret ⟨lk [(2,iv (BC t.kids).length),(3,iv 0)],H'⟩) →
  LoopC (cx Tryz.prog w0 I0 n0) Jj Q ⟨lk [(1,.pob [0] 1 0),(4,iv n)],H⟩:=by
 have hlen:=Dm hm
 intro n
 induction n with
 |zero=>
  intro H hH hn ht h1 h2
  refine Ad Ah Jj.eq_1 ?_
  simp
  exact h1 (by rw[← ht];rfl) _ _ _
 |succ n ih=>
  intro H hH hn ht h1 h2
  have hlt:n<t.kids.length:=by omega
  have e:IntKind.i64.wrap (n:Int)=n:=Af (by omega) (by omega)
  have hp:(0:Int)<(n:Int)+1:=by omega
  obtain⟨k1,k2⟩:=FV hm hlt
  have kk:=Cp k2
  refine Ad Ah Jj.eq_1 ?_
  simp[hp,hH,e]
  refine Ae (Kh hs (Ca hm) n) (by simp) ?_
  simp[k1,Aa]
  refine Bj rfl (fun _=>Cb l (Cj l r n).1) (fun _=>rfl) (by simp) ?_
  rw[kk]
  by_cases h0:t.kids[n].kind=0
  ·simp[h0,e]
   exact ih _ (by simp[Aa,hH]) (by omega) (by rw[← QB hlt h0];exact ht) h1 h2
  ·have e2:(BC t.kids).length=n+1:=by rw[← ht,QO hlt h0];simp;omega
   simp[h0]
   have:=h2 (by omega) 
   rw[e2] at this
   exact this _
theorem Yn {l:List (List Int)} (hs:Sg l) {r:Rf} {t:T} (hm:AG l r t):G.Spec Tryz.prog 149 [GH l r] (iv (BT t.words).length):=by
 refine Aj cJ (by simp) fun w0 I0=>?_
 unfold Ub
 simp
 refine Ae (Hk l r) (by simp) ?_
 rw[(CM hm).1]
 simp
 refine uJ hs hm (by simp) (fun q=>?_) t.words.length (BW _) (by rw[AI (BW _)])
 simp
 exact Ab rfl
theorem Y0 {l:List (List Int)} (hs:Sg l) {r:Rf} {t:T} (hm:AG l r t):G.Spec Tryz.prog 199 [GH l r] (.tup [iv (BC t.kids).length,iv 0]):=by
 refine Aj dv (by simp) fun w0 I0=>?_
 unfold Uh
 simp
 refine Ae (DR l r) (by simp) ?_
 rw[Ha hm]
 simp
 refine uI hs hm t.kids.length _ (by simp) (BW _) (by rw[AI (BW _)]) (fun h k q H'=>?_) (fun h H'=>?_)
 ·simp
  exact Ap rfl (by simp[h])
 ·simp
  exact Ab rfl
theorem P0 {l:List (List Int)} (hs:Sg l) {r:Rf} {t:T} (hm:AG l r t):G.Spec Tryz.prog 233 [GH l r] (.tup [iv (nK t),iv 0]):=by
 refine Aj ZV (by simp) fun w0 I0=>?_
 unfold RB
 simp
 refine Ae (Cb l r) (by simp) ?_
 rw[Cp hm]
 by_cases h1:t.kind=1
 ·simp[h1]
  refine Ae (Y0 hs hm) (by simp) ?_
  simp
  exact Ap rfl (by simp[nK,h1])
 ·simp[h1]
  refine Ae (DR l r) (by simp) ?_
  rw[Ha hm]
  simp
  exact Ap rfl (by simp[nK,h1])
theorem Ic {l:List (List Int)} (hs:Sg l) {r:Rf} {t:T} (hm:AG l r t):G.Spec Tryz.prog 232 [GH l r] (iv (nW t)):=by
 refine Aj XR (by simp) fun w0 I0=>?_
 unfold PH
 simp
 refine Ae (Cb l r) (by simp) ?_
 rw[Cp hm]
 by_cases h1:t.kind=1
 ·simp[h1]
  refine Ae (Yn hs hm) (by simp) ?_
  simp
  exact Ap rfl (by simp[nW,h1])
 ·simp[h1]
  refine Ae (Hk l r) (by simp) ?_
  rw[(CM hm).1]
  simp
  exact Ap rfl (by simp[nW,h1])
noncomputable def Nz (t u:T):Bool:=by classical exact decide (t.kind=u.kind∧nW t=nW u∧nK t=nK u∧∀ i:Nat,i<nW t→t.words[i]? = u.words[i]?)
theorem alikeB_iff {t u:T}:Nz t u=true ↔ t.kind=u.kind∧nW t=nW u∧nK t=nK u∧∀ i:Nat,i<nW t→t.words[i]? = u.words[i]?:=by simp[Nz]
theorem pO {l m:List (List Int)} (hl:Sg l) (hm:Sg m) {r s:Rf} {t u:T} (ht:AG l r t) (hu:AG m s u) (hW:nW t=nW u) (hA:H [0]=⟨1,.cells (Xr l r)⟩) (hB:H [1]=⟨1,.cells (Xr m s)⟩) {k:Int}:∀ (j i:Nat),i+j=nW t→(∀ x:Nat,x<i→t.words[x]? = u.words[x]?) →
  ((∀ x:Nat,x<nW t→t.words[x]? = u.words[x]?)→∀ i' q,Q (.exit 0) ⟨lk [(2,.pob [0] 1 0),(3,.pob [1] 1 0),(7,iv k),(10,.fnc 150 [] []),(46,iv (nW t)),(47,iv i'),(48,bv q)],H⟩) →
  (¬ (∀ x:Nat,x<nW t→t.words[x]? = u.words[x]?)→Q .ret ⟨lk [(4,iv 0),(5,bv false),(6,iv 0)],H⟩) →
  LoopC (cx Tryz.prog w0 I0 n0) G5 Q ⟨lk [(2,.pob [0] 1 0),(3,.pob [1] 1 0),(7,iv k),(10,.fnc 150 [] []),(46,iv (nW t)),(47,iv i)],H⟩:=by
 have h1:=Dm ht
 have h2:=Dm hu
 have w1:=YR t
 have w2:=YR u
 intro j
 induction j with
 |zero=>
  intro i hi he hq hq2
  have:i=nW t:=by omega
  subst this
  refine Ad Ah G5.eq_1 ?_
  simp
  exact hq he _ _
 |succ j ih=>
  intro i hi he hq hq2
  have hlt:i<nW t:=by omega
  have lt1:i<t.words.length:=by omega
  have lt2:i<u.words.length:=by omega
  have hlt':(i:Int)<nW t:=by omega
  have ei:IntKind.i64.wrap ((i:Int)+1)=((i+1:Nat):Int):=Af (by omega) (by omega)
  refine Ad Ah G5.eq_1 ?_
  simp[hlt,hA,hB]
  refine LV rfl (Gv hl (Ca ht) i) (by simp) ?_
  rw[(CM ht).2 i lt1]
  simp[hA,hB]
  refine LV rfl (Gv hm (Ca hu) i) (by simp) ?_
  rw[(CM hu).2 i lt2]
  by_cases hx:t.words[i]=u.words[i]
  ·simp[hx,ei]
   refine ih (i+1) (by omega) (fun x hx'=>?_) hq hq2
   by_cases e:x=i
   ·subst e;rw[List.getElem?_eq_getElem lt1,List.getElem?_eq_getElem lt2,hx]
   ·exact he x (by omega)
  ·simp[hx]
   refine hq2 fun hh=>hx ?_
   have:=hh i hlt
   rw[List.getElem?_eq_getElem lt1,List.getElem?_eq_getElem lt2] at this
   exact Option.some.inj this
theorem hZ {l m:List (List Int)} (hl:Sg l) (hm:Sg m) {r s:Rf} {t u:T} (ht:AG l r t) (hu:AG m s u):G.Spec Tryz.prog 197 [GH l r,GH m s] (.tup [iv (if Nz t u=true then nK t else 0),bv (Nz t u),iv 0]):=by
 refine Aj XQ (by simp) fun w0 I0=>?_
 unfold Ps
 simp
 refine Ae (Cb l r) (by simp) ?_
 simp
 refine Ae (Cb m s) (by simp) ?_
 rw[Cp ht,Cp hu]
 have no:¬ (t.kind=u.kind∧nW t=nW u∧nK t=nK u∧∀ i:Nat,i<nW t→t.words[i]? = u.words[i]?)→Nz t u=false:=fun h=>by rw[Bool.eq_false_iff];exact fun e=>h (alikeB_iff.1 e)
 by_cases h1:t.kind=u.kind
 ·simp[h1]
  refine Bj rfl (fun _=>Ic hl ht) (fun _=>rfl) (by simp) ?_
  simp
  refine Bj rfl (fun _=>Ic hm hu) (fun _=>rfl) (by simp) ?_
  by_cases h2:nW t=nW u
  ·simp[h2]
   refine Ae (P0 hl ht) (by simp) ?_
   simp
   refine Ae (P0 hm hu) (by simp) ?_
   by_cases h3:nK t=nK u
   ·simp[h3]
    refine Ae (Ic hl ht) (by simp) ?_
    simp
    refine pO hl hm ht hu h2 (by simp) (by simp) (nW t) 0 (by omega) (fun x hx=>by omega) (fun hh i' q=>?_) (fun hh=>?_)
    ·have:Nz t u=true:=alikeB_iff.2 ⟨h1,h2,h3,hh⟩
     simp
     exact Ap rfl (by simp[this,h3])
    ·have:=no fun ⟨_,_,_,h⟩=>hh h
     simp
     exact Ap rfl (by simp[this])
   ·have:=no fun ⟨_,_,h,_⟩=>h3 h
    simp[h3]
    refine⟨fun h=>absurd (by omega) h3,fun _=>?_⟩
    exact Ap rfl (by simp[this])
  ·have:=no fun ⟨_,h,_,_⟩=>h2 h
   simp[h2]
   refine⟨fun h=>absurd (by omega) h2,fun _=>?_⟩
   exact Ap rfl (by simp[this])
 ·have:=no fun ⟨h,_,_,_⟩=>h1 h
  simp[h1]
  refine A8 rfl ?_
  simp
  refine A8 rfl ?_
  simp
  exact Ap rfl (by simp[this])
theorem ly {t u:T} (ht:eW t) (hu:eW u):KJ t u=true ↔ Nz t u=true∧∀ i:Nat,i<nK t→(t.kids[i]?).map Ai=(u.kids[i]?).map Ai:=by
 rw[eqT_iff,r8 ht hu,alikeB_iff]
 constructor
 ·rintro⟨a,b,c,d,e⟩;exact⟨⟨a,b,c,d⟩,e⟩
 ·rintro⟨⟨a,b,c,d⟩,e⟩;exact⟨a,b,c,d,e⟩
section
variable {n0:Nat} {w0:World} {I0:Nat→Prop} {Q:Exit→Sta→Prop}
abbrev AbH (l m:List (List Int)) (t u:T):Prop:=∀ r s,AG l r t→AG m s u→G.Spec Tryz.prog 147 [GH l r,GH m s] (.tup [bv (KJ t u),iv 0])
theorem ki {l m:List (List Int)} (hl:Sg l) (hm:Sg m) {r s:Rf} {t u:T} (ht:AG l r t) (hu:AG m s u) (hK:nK t=nK u) (ih:∀ c,c ∈ t.kids→∀ d,AbH l m c d):∀ (j i:Nat) (H:Hp),i+j=nK t→H [0]=⟨1,.cells (Xr l r)⟩→H [1]=⟨1,.cells (Xr m s)⟩→(∀ x:Nat,x<i→(t.kids[x]?).map Ai=(u.kids[x]?).map Ai) →
  ((∀ x:Nat,x<nK t→(t.kids[x]?).map Ai=(u.kids[x]?).map Ai)→∀ i' q H',Q (.exit 0) ⟨lk [(2,.pob [0] 1 0),(3,.pob [1] 1 0),(29,iv (nK t)),(30,iv i'),(31,bv q)],H'⟩) →
  (¬ (∀ x:Nat,x<nK t→(t.kids[x]?).map Ai=(u.kids[x]?).map Ai)→∀ H',Q .ret ⟨lk [(4,bv false),(5,iv 0)],H'⟩) →
  LoopC (cx Tryz.prog w0 I0 n0) Gn Q ⟨lk [(2,.pob [0] 1 0),(3,.pob [1] 1 0),(29,iv (nK t)),(30,iv i)],H⟩:=by
 have h1:=Dm ht
 have h2:=Dm hu
 have w1:=dQ t
 have w2:=dQ u
 intro j
 induction j with
 |zero=>
  intro i H hi hA hB he hq hq2
  have:i=nK t:=by omega
  subst this
  refine Ad Ah Gn.eq_1 ?_
  simp
  exact hq he _ _ _
 |succ j ihj=>
  intro i H hi hA hB he hq hq2
  have hlt:i<nK t:=by omega
  have lt1:i<t.kids.length:=by omega
  have lt2:i<u.kids.length:=by omega
  have ei:IntKind.i64.wrap ((i:Int)+1)=((i+1:Nat):Int):=Af (by omega) (by omega)
  obtain⟨a1,a2⟩:=FV ht lt1
  obtain⟨b1,b2⟩:=FV hu lt2
  have ihc:=ih _ (Bq lt1) u.kids[i] _ _ a2 b2
  refine Ad Ah Gn.eq_1 ?_
  simp[hlt,hA]
  refine Ae (Kh hl (Ca ht) i) (by simp) ?_
  simp[a1,Aa,hB]
  refine Ae (Kh hm (Ca hu) i) (by simp) ?_
  simp[b1,Aa]
  refine Ae ihc (by simp) ?_
  cases hq':KJ t.kids[i] u.kids[i] with
  |true=>
   simp[ei]
   refine ihj (i+1) _ (by omega) (by simp[Aa,hA]) (by simp[Aa,hB]) (fun x hx'=>?_) hq hq2
   by_cases e:x=i
   ·subst e;rw[List.getElem?_eq_getElem lt1,List.getElem?_eq_getElem lt2];simp[eqT_iff.1 hq']
   ·exact he x (by omega)
  |false=>
   simp
   refine hq2 (fun hh=>?_) _
   have:=hh i hlt
   rw[List.getElem?_eq_getElem lt1,List.getElem?_eq_getElem lt2] at this
   have:=eqT_iff.2 (Option.some.inj this)
   rw[hq'] at this
   cases this
end
theorem UA {l m:List (List Int)} (hl:Sg l) (hm:Sg m):∀ t u,AbH l m t u:=by
 refine T.ind fun k w ks ih u r s ht hu=>?_
 have hb:=ly (P8 ht) (P8 hu)
 refine Aj Xm (by simp) fun w0 I0=>?_
 unfold Nx
 simp
 refine Ae (hZ hl hm ht hu) (by simp) ?_
 cases ha:Nz (.mk k w ks) u with
 |false=>
  have:KJ (.mk k w ks) u=false:=by rw[Bool.eq_false_iff];intro e;have:=(hb.1 e).1;rw[ha] at this;cases this
  simp
  exact Ap rfl (by simp[this])
 |true=>
  obtain⟨_,_,hK,_⟩:=alikeB_iff.1 ha
  simp
  refine ki hl hm ht hu hK (fun c hc d=>ih c hc d) (nK (.mk k w ks)) 0 _ (by omega) (by simp) (by simp) (fun x hx=>by omega) (fun hh i' q H'=>?_) (fun hh H'=>?_)
  ·have:=hb.2 ⟨ha,hh⟩
   simp
   exact Ap rfl (by simp[this])
  ·have:KJ (.mk k w ks) u=false:=by rw[Bool.eq_false_iff];intro e;exact hh (hb.1 e).2
   simp
   exact Ap rfl (by simp[this])
theorem HP (t:T) (i:Nat):G.Spec Tryz.prog 115 [tX t,iv i] (uv (t.words.getD i 0)):=by
 refine Aj aM (by simp) fun w0 I0=>?_
 unfold Uz
 have hn:¬ (i:Int)<0:=by omega
 by_cases h:i<t.words.length
 ·have h2:¬ t.words.length≤i:=by omega
  simp[h,hn,h2]
  exact Ap rfl (by simp[h])
 ·have h2:t.words.length≤i:=by omega
  simp[h,hn,h2]
  exact Ap rfl (by simp[List.getElem?_eq_none (Nat.le_of_not_lt h)])
theorem Ju (t:T) (i:Nat):G.Spec Tryz.prog 116 [tX t,iv i] (tX (t.kids.getD i T0)):=by
 refine Aj eP (by simp) fun w0 I0=>?_
 unfold WS
 have hn:¬ (i:Int)<0:=by omega
 by_cases h:i<t.kids.length
 ·have h2:¬ t.kids.length≤i:=by omega
  simp[h,hn,h2]
  exact Ab (by simp)
 ·have h2:t.kids.length≤i:=by omega
  simp[h,hn,h2]
  exact BG (by simp;exact⟨Ab rfl,Al,Al⟩)
section
variable {n0:Nat} {w0:World} {I0:Nat→Prop} {Q:Exit→Sta→Prop}
theorem pj {l:List (List Int)} (hs:Sg l) {r:Rf} {t:T} (hm:AG l r t) {k:Int}
  (hq:∀ (q:Bool) (H:Hp),H [0]=⟨1,.cells (Xr l r)⟩→H [2]=⟨1,.cells [iv k,.osl [3] (t.words.length+1) 1 0 t.words.length,.osl [6] 1 3 0 0]⟩→H [3]=⟨t.words.length+1,.arr 1 (t.words.map uv)⟩→H [6]=⟨1,.arr 3 []⟩→H [1]=⟨1,.cells [iv 0,.sl true [],.sl true []]⟩ →
   Q (.exit 0) ⟨lk [(1,.pob [0] 1 0),(2,.pob [1] 1 0),(4,.pob [2] 1 0),(14,iv t.words.length),(15,iv t.words.length),(16,bv q)],H⟩) :
  ∀ (j i:Nat) (H:Hp),i+j=t.words.length→H [0]=⟨1,.cells (Xr l r)⟩→H [2]=⟨1,.cells [iv k,.osl [3] (i+1) 1 0 i,.osl [6] 1 3 0 0]⟩→H [3]=⟨i+1,.arr 1 ((t.words.take i).map uv)⟩→H [6]=⟨1,.arr 3 []⟩→H [1]=⟨1,.cells [iv 0,.sl true [],.sl true []]⟩ →
  LoopC (cx Tryz.prog w0 I0 n0) Gp Q ⟨lk [(1,.pob [0] 1 0),(2,.pob [1] 1 0),(4,.pob [2] 1 0),(14,iv t.words.length),(15,iv i)],H⟩:=by
 obtain⟨hw1,hw2⟩:=CM hm
 have hln:=Dm hm
 intro j
 induction j with
 |zero=>
  intro i H hi h0 h2 h3 h6 h1
  have:i=t.words.length:=by omega
  subst this
  rw[AI (BW _)] at h3
  refine Ad Ah Gp.eq_1 ?_
  simp
  exact hq _ H h0 h2 h3 h6 h1
 |succ j ih=>
  intro i H hi h0 h2 h3 h6 h1
  have hlt:i<t.words.length:=by omega
  have ei:IntKind.i64.wrap ((i:Int)+1)=((i+1:Nat):Int):=Af (by omega) (by omega)
  have htk:(t.words.take (i+1)).map uv=(t.words.take i).map uv++[uv t.words[i]]:=by rw[Fj hlt,List.map_append];rfl
  refine Ad Ah Gp.eq_1 ?_
  simp[hlt,h0,h2]
  refine Ae (Gv hs (Ca hm) i) (by simp) ?_
  rw[hw2 i hlt]
  simp[h2,h3,ei,Aa]
  refine⟨⟨by omega,by omega⟩,?_⟩
  refine ih (i+1) _ (by omega) (by simp[Aa,h0]) (by simp[Aa]) ?_ (by simp[Aa,h6]) (by simp[Aa,h1])
  rw[htk]
  simp[Aa,List.take_take]
theorem ot {l:List (List Int)} (hs:Sg l) {r:Rf} {t:T} (hm:AG l r t) {k:Int} {c1:A} {X:VOb} (ih0:∀ c,c ∈ t.kids→∀ x,AG l x c→G.Spec Tryz.prog 156 [GH l x] (.tup [tX c,iv 0]))
  (hq:∀ (q:Bool) (H:Hp),H [2]=⟨1,.cells [iv k,c1,.osl [6] (t.kids.length+1) 3 0 t.kids.length]⟩→H [6]=⟨t.kids.length+1,.arr 3 (t.kids.map tA)⟩→H [3]=X→H [1]=⟨1,.cells [iv 0,.sl true [],.sl true []]⟩ →
   Q (.exit 2) ⟨lk [(1,.pob [0] 1 0),(2,.pob [1] 1 0),(4,.pob [2] 1 0),(28,iv t.kids.length),(29,iv t.kids.length),(30,bv q)],H⟩) :
  ∀ (j i:Nat) (H:Hp),i+j=t.kids.length→H [0]=⟨1,.cells (Xr l r)⟩→H [2]=⟨1,.cells [iv k,c1,.osl [6] (i+1) 3 0 i]⟩→H [6]=⟨i+1,.arr 3 ((t.kids.take i).map tA)⟩→H [3]=X→H [1]=⟨1,.cells [iv 0,.sl true [],.sl true []]⟩ →
  LoopC (cx Tryz.prog w0 I0 n0) Gm Q ⟨lk [(1,.pob [0] 1 0),(2,.pob [1] 1 0),(4,.pob [2] 1 0),(28,iv t.kids.length),(29,iv i)],H⟩:=by
 have hln:=Dm hm
 intro j
 induction j with
 |zero=>
  intro i H hi h0 h2 h6 h3 h1
  have:i=t.kids.length:=by omega
  subst this
  rw[AI (BW _)] at h6
  refine Ad Ah Gm.eq_1 ?_
  simp
  exact hq _ H h2 h6 h3 h1
 |succ j ih=>
  intro i H hi h0 h2 h6 h3 h1
  have hlt:i<t.kids.length:=by omega
  obtain⟨k1,k2⟩:=FV hm hlt
  have ei:IntKind.i64.wrap ((i:Int)+1)=((i+1:Nat):Int):=Af (by omega) (by omega)
  have htk:(t.kids.take (i+1)).map tA=(t.kids.take i).map tA++[tA t.kids[i]]:=by rw[Fj hlt,List.map_append];rfl
  refine Ad Ah Gm.eq_1 ?_
  simp[hlt,h0]
  refine Ae (Kh hs (Ca hm) i) (by simp) ?_
  rw[k1]
  simp[Aa,h0]
  refine Ae (ih0 _ (Bq hlt) _ k2) (by simp) ?_
  simp[Aa,h2,h6,ei]
  refine⟨⟨by omega,by omega⟩,?_⟩
  refine ih (i+1) _ (by omega) (by simp[Aa,h0]) (by simp[Aa]) ?_ (by simp[Aa,h3]) (by simp[Aa,h1])
  rw[htk]
  simp[Aa,List.take_take]
end
theorem gw {l:List (List Int)} (hs:Sg l):∀ (t:T) (r:Rf),AG l r t→G.Spec Tryz.prog 156 [GH l r] (.tup [tX t,iv 0]):=by
 refine T.ind fun k w ks ih r hm=>?_
 refine Aj Xi (by simp) fun w0 I0=>?_
 unfold Oj
 simp
 refine Ae (Cb l r) (by simp) ?_
 simp
 refine CJ (Bd (d:=[2]) (u:=1) (cs:=[iv r.kind,.sl true [],.sl true []]) 1 [3] 1 (by simp) rfl (by simp)) ?_
 refine CJ (Bd (d:=[2]) (u:=1) (cs:=[iv r.kind,.osl [3] 1 1 0 0,.sl true []]) 2 [6] 3 (by simp[Aa]) rfl (by simp)) (Ep ?_)
 simp[Aa]
 refine Ae (Hk l r) (by simp) ?_
 rw[(CM hm).1]
 simp[Aa]
 refine pj hs hm (k:=r.kind) (fun q H h0 h2 h3 h6 h1=>?_) w.length 0 _ (by simp) (by simp[Aa]) (by simp[Aa]) (by simp[Aa]) (by simp[Aa]) (by simp[Aa])
 simp[h0]
 refine Ae (DR l r) (by simp) ?_
 rw[Ha hm]
 simp
 refine ot hs hm (k:=r.kind) (c1:=.osl [3] (w.length+1) 1 0 w.length) (X:=⟨w.length+1,.arr 1 (w.map uv)⟩) ih (fun q H' h2' h6' h3' h1'=>?_) ks.length 0 H (by simp) h0 h2 (by simpa using h6) h3 h1
 simp[h2',h1',Aa]
 rw[Cp hm]
 exact G4 ⟨BG ⟨Ab rfl,Bb (f:=uv) (l:=w) (by simp[Aa,h3']) rfl (fun x=>by simp),Bb (f:=tA) (l:=ks) (by simp[Aa,h6']) rfl (fun x=>by simp),trivial⟩,Ab rfl,trivial⟩
abbrev yd (r:Rf):A:=.agg [iv r.kind,iv r.s,iv r.at_,iv r.data,iv r.kids,iv r.count,uv r.n]
def ou (g:List Int) (i:Int):Int:=if i<0 then 0 else ((g[(i / 64).toNat]?).getD 0) / 2 ^ (i % 64).toNat % 2
theorem ug {i:Int} (hi:0≤i):∀ (m:Nat) (x j:Int),0≤x→x<18446744073709551616→0≤j→j+m=i % 64→(∀ j' b,Q (.exit 0) ⟨lk [(1,iv i),(5,uv (x / 2 ^ m)),(6,iv j'),(24,bv b)],H⟩) →
  LoopC (cx Tryz.prog w0 I0 n0) EZ Q ⟨lk [(1,iv i),(5,uv x),(6,iv j)],H⟩:=by
 have e:i.tmod 64=i % 64:=Int.tmod_eq_emod_of_nonneg hi
 intro m
 induction m with
 |zero=>
  intro x j h0 h1 h2 h3 hq
  have:j=i % 64:=by simpa using h3
  subst this
  refine Ad Ah EZ.eq_1 ?_
  simp[e]
  simpa using hq _ _
 |succ m ih=>
  intro x j h0 h1 h2 h3 hq
  refine Ad Ah EZ.eq_1 ?_
  have hj:j<i % 64:=by omega
  simp[e,hj]
  rw[Af (by omega) (by omega),Int.tdiv_eq_ediv_of_nonneg h0,BI (by omega) (by omega)]
  exact ih _ _ (by omega) (by omega) (by omega) (by omega) (by rw[SH];exact hq)
theorem kc {g:List Int} (hg:∀ x,x ∈ g→0≤x∧x<18446744073709551616) {i:Int} (hi1:i<1000000000000000000) (hi:0≤i):G.Spec Tryz.prog 196 [C5 g,iv i] (uv (ou g i)):=by
 refine Aj TQ (by simp) fun w0 I0=>?_
 unfold LF
 have e2:IntKind.i64.wrap (i.tdiv 64)=i / 64:=by rw[Int.tdiv_eq_ediv_of_nonneg hi,Af (by omega) (by omega)]
 have hn:¬ i<0:=by omega
 have hd0:0≤i / 64:=by omega
 by_cases hr:(g.length:Int)≤i / 64
 ·have en:g[(i / 64).toNat]? = none:=List.getElem?_eq_none (by omega)
  simp[hn,e2,hr,hi]
  exact Ap rfl (by simp[ou,en])
 ·have hlt:(i / 64).toNat<g.length:=by omega
  have hlt':i / 64<g.length:=by omega
  have hx:=hg _ (Bq hlt)
  simp[hn,e2,hr,hi,hd0,hlt,hlt']
  have hx0:0≤g[(i / 64).toNat] / 2 ^ (i % 64).toNat:=Int.ediv_nonneg hx.1 (Int.le_of_lt (Int.pow_pos (by decide)))
  have hx1:g[(i / 64).toNat] / 2 ^ (i % 64).toNat<18446744073709551616:=Int.lt_of_le_of_lt (Int.ediv_le_self _ hx.1) hx.2
  refine ug hi (i % 64).toNat _ 0 hx.1 hx.2 (by omega) (by omega) fun j' b=>?_
  simp[Int.tmod_eq_emod_of_nonneg hx0]
  exact Ap rfl (by simp[ou,hn,hlt])
theorem uG (y:Int) (m k:Nat):y / 2 ^ (m+1) % 2 ^ k*2+y / 2 ^ m % 2=y / 2 ^ m % 2 ^ (k+1):=by
 have e:y / 2 ^ (m+1)=y / 2 ^ m / 2:=by
  rw[Int.pow_succ,Int.ediv_ediv_of_nonneg (Int.le_of_lt (Int.pow_pos (by decide)))]
 rw[e]
 generalize y / 2 ^ m=z
 have e2:z % 2 ^ (k+1)=z-2 ^ (k+1)*(z / 2 ^ (k+1)):=Int.emod_def ..
 have e3:z / 2 ^ (k+1)=z / 2 / 2 ^ k:=by rw[Int.pow_succ,Int.mul_comm,Int.ediv_ediv_of_nonneg (by decide)]
 have e4:z / 2 % 2 ^ k=z / 2-2 ^ k*(z / 2 / 2 ^ k):=Int.emod_def ..
 rw[e2,e3,e4,Int.pow_succ,Int.mul_comm (2 ^ k) 2,Int.mul_assoc]
 generalize 2 ^ k*(z / 2 / 2 ^ k)=q
 omega
theorem xX {g:List Int} {i w:Int} (hi:0≤i) (hw:w=1∨w=8∨w=16∨w=32∨w=64) (m:Nat) (hm:(m:Int)<w):ou g (i*w+m)=((g[(i*w / 64).toNat]?).getD 0) / 2 ^ (i*w % 64).toNat / 2 ^ m % 2:=by
 have hp:0≤i*w:=by rcases hw with rfl | rfl | rfl | rfl | rfl<;>omega
 have h1:(i*w+m) / 64=i*w / 64∧(i*w+m) % 64=i*w % 64+m:=by
  rcases hw with rfl | rfl | rfl | rfl | rfl<;>omega
 unfold ou
 rw[if_neg (by omega),h1.1,h1.2,Int.ediv_ediv_of_nonneg (Int.le_of_lt (Int.pow_pos (by decide))),← Int.pow_add]
 have:(i*w % 64+(m:Int)).toNat=(i*w % 64).toNat+m:=by omega
 rw[this]
theorem uy {g:List Int} (hg:∀ x,x ∈ g→0≤x∧x<18446744073709551616) {i w y:Int} (hi:0≤i) (hi1:i≤1099511627776) (hw:w=1∨w=8∨w=16∨w=32∨w=64) (hy:y=((g[(i*w / 64).toNat]?).getD 0) / 2 ^ (i*w % 64).toNat) (y0:0≤y) (y1:y<18446744073709551616):∀ (m:Nat) (k:Nat) (x j:Int),k+m=w→j=(m:Int)-1→x=y / 2 ^ m % 2 ^ k →
  (∀ j' b,Q (.exit 0) ⟨lk [(0,C5 g),(2,iv i),(7,iv w),(8,uv (y % 2 ^ w.toNat)),(9,iv j'),(25,bv b)],H⟩) →
  LoopC (cx Tryz.prog w0 I0 n0) EY Q ⟨lk [(0,C5 g),(2,iv i),(7,iv w),(8,uv x),(9,iv j)],H⟩:=by
 intro m
 induction m with
 |zero=>
  intro k x j hk hj hx hq
  subst hj
  refine Ad Ah EY.eq_1 ?_
  simp
  have:w.toNat=k:=by omega
  rw[this] at hq
  rw[hx]
  simpa using hq _ _
 |succ m ih=>
  intro k x j hk hj hx hq
  have hj':j=m:=by omega
  subst hj'
  have hm:(m:Int)<w:=by omega
  have hb:0≤i*w∧i*w≤70368744177664:=by rcases hw with rfl | rfl | rfl | rfl | rfl<;>omega
  have e1:IntKind.i64.wrap (i*w)=i*w:=Af (by omega) (by omega)
  have e2:IntKind.i64.wrap (i*w+m)=i*w+m:=Af (by omega) (by omega)
  have e3:IntKind.i64.wrap ((m:Int)-1)=m-1:=Af (by omega) (by omega)
  refine Ad Ah EY.eq_1 ?_
  simp[e1,e2]
  refine Ae (kc hg (i:=i*w+m) (by omega) (by omega)) rfl ?_
  simp[e3]
  rw[xX hi hw m hm,← hy]
  have hu:=uG y m k
  have hz0:0≤y / 2 ^ m:=Int.ediv_nonneg y0 (Int.le_of_lt (Int.pow_pos (by decide)))
  have hz1:y / 2 ^ m≤y:=Int.ediv_le_self _ y0
  have p2:(0:Int)<2 ^ (k+1):=Int.pow_pos (by omega)
  have m0:=Int.emod_nonneg (y / 2 ^ m) (by omega:(2:Int) ^ (k+1) ≠ 0)
  have m1:y / 2 ^ m % 2 ^ (k+1)≤y / 2 ^ m:=by
   rw[Int.emod_def]
   have:=Int.mul_nonneg (a:=2 ^ (k+1)) (b:=y / 2 ^ m / 2 ^ (k+1)) (by omega) (Int.ediv_nonneg hz0 (by omega))
   omega
  have p3:(0:Int)<2 ^ k:=Int.pow_pos (by omega)
  have n0:=Int.emod_nonneg (y / 2 ^ (m+1)) (by omega:(2:Int) ^ k ≠ 0)
  rw[← hx] at hu n0
  rw[BI (n:=x*2) (by omega) (by omega),BI (by omega) (by omega)]
  exact ih (k+1) _ _ (by omega) rfl hu hq
theorem lr {g:List Int} (hg:∀ x,x ∈ g→0≤x∧x<18446744073709551616) (c i:Int):G.Spec Tryz.prog 146 [C5 g,iv c,iv i] (uv (Ov g c i)):=by
 refine Aj Ta (by simp) fun w0 I0=>?_
 unfold L4
 simp
 refine Ae (cI c) rfl ?_
 have hw:=SF c
 by_cases h0:AD c<1∨i<0∨1099511627776<i
 ·have e:Ov g c i=0:=by unfold Ov;rw[if_pos h0]
  rw[e]
  have hd:(decide (AD c<1) || decide (i<0) || decide (1099511627776<i))=true:=by simp;omega
  simp[hd]
  exact Ab rfl
 ·have hw1:AD c=1∨AD c=8∨AD c=16∨AD c=32∨AD c=64:=by omega
  have hd:(decide (AD c<1) || decide (i<0) || decide (1099511627776<i))=false:=by simp;omega
  have hi0:0≤i:=by omega
  have e:Ov g c i=((g[(i*AD c / 64).toNat]?).getD 0) / 2 ^ (i*AD c % 64).toNat % 2 ^ (AD c).toNat:=by unfold Ov;rw[if_neg h0]
  rw[e]
  simp[hd]
  clear e hw
  generalize AD c=w at hw1 h0
  rw[Af (by omega) (by omega)]
  have hx:0≤(g[(i*w / 64).toNat]?).getD 0∧(g[(i*w / 64).toNat]?).getD 0<18446744073709551616:=by
   cases e:g[(i*w / 64).toNat]? with
   |none=>simp
   |some x=>exact hg x (List.mem_of_getElem? e)
  have y0:0≤(g[(i*w / 64).toNat]?).getD 0 / 2 ^ (i*w % 64).toNat:=Int.ediv_nonneg hx.1 (Int.le_of_lt (Int.pow_pos (by decide)))
  have y1:(g[(i*w / 64).toNat]?).getD 0 / 2 ^ (i*w % 64).toNat<18446744073709551616:=Int.lt_of_le_of_lt (Int.ediv_le_self _ hx.1) hx.2
  refine uy hg hi0 (by omega) hw1 rfl y0 y1 w.toNat 0 0 _ (by omega) (by omega) (by simp) fun j' b=>?_
  simp
  exact Ap rfl rfl
theorem Kz (r:Rf):G.Spec Tryz.prog 91 [yd r] (iv (nk r)):=by
 refine Aj Nh (by simp) fun w0 I0=>?_
 unfold Hw
 by_cases h1:r.kind=1
 ·simp[h1];exact Ap rfl (by simp[nk,h1])
 ·simp[h1];exact Ap rfl (by simp[nk,h1])
theorem Tl {l:List (List Int)} (hs:Sg l) (s a:Int):G.Spec Tryz.prog 46 [TI l,iv s,iv a] (.tup [yd (XH l s a).1,iv (XH l s a).2]):=by
 have hf:=Om hs.w s a
 refine Aj U1 (by simp) fun w0 I0=>?_
 unfold Nb
 simp
 refine Ae (Wz l hs.b hs.w s a) rfl ?_
 unfold XH
 generalize C9 l s a=x at hf
 obtain⟨x,e⟩:=x
 unfold kB at hf
 simp only at hf ⊢
 by_cases hc:e ≠ 0∨x.p.kind=0
 ·have hd:(!decide (e=0) || decide (x.p.kind=0))=true:=by simp;omega
  simp[hd,hc]
  exact Ap rfl (by simp[Rf.zero])
 ·have hd:(!decide (e=0) || decide (x.p.kind=0))=false:=by simp;omega
  have he:e=0:=by omega
  obtain h0 | ⟨hk,hsh,hw⟩:=hf he
  ·omega
  have hbd:=C4 hs hw
  rw[if_neg hc]
  simp[hd]
  unfold qf
  by_cases k1:x.p.kind=1
  ·simp[k1,he]
   exact Ap rfl rfl
  ·have k2:x.p.kind=2:=by omega
   obtain⟨c0,c1,_,_⟩:=hsh.k2 k2
   by_cases c7:x.p.code<7
   ·have e2:IntKind.i64.wrap (2+x.p.code)=2+x.p.code:=Af (by omega) (by omega)
    simp[k1,c7,e2]
    exact⟨Ap rfl rfl,fun h=>absurd h (by omega)⟩
   ·rw[UD k2 (by omega)] at hw
    have hcnt:=(hsh.k2 k2).2.2
    obtain⟨q1,q2,q3,q4,q5,q6,q7⟩:=MH hw
    simp only[Option.getD_some] at q7
    have q8:x.at_.toNat<l[x.s.toNat].length:=by omega
    have q9:x.at_<l[x.s.toNat].length:=by omega
    have e0:(B0 l x.s x.at_).getD 0=l[x.s.toNat][x.at_.toNat]:=by
     unfold B0
     rw[if_pos q3,q6]
     simp[q8]
    have h0:0≤(B0 l x.s x.at_).getD 0∧(B0 l x.s x.at_).getD 0<18446744073709551616:=by
     cases e:B0 l x.s x.at_ with
     |none=>simp
     |some x=>exact DY hs.w e
    simp[k1,c7,q1,q2,q3,q5,q8,q9,ws]
    unfold Wl
    rw[← e0]
    generalize (B0 l x.s x.at_).getD 0=w at h0
    intro _
    refine Ae (Fm h0.1 h0.2) rfl ?_
    have hsh:=O0 h0.1 h0.2
    have ho:=MA h0.1 h0.2
    have hdp:0≤(DT w).data∧(DT w).data<65536∧0≤(DT w).ptrs∧(DT w).ptrs<65536:=by
     unfold DT
     repeat' split
     all_goals simp
     all_goals omega
    generalize DT w=p at hsh ho hdp
    have hb:-70368744177664≤p.off*(p.data+p.ptrs)∧p.off*(p.data+p.ptrs)≤70368744177664:=by
     have b1:p.off*(p.data+p.ptrs)≤536870912*(p.data+p.ptrs):=Int.mul_le_mul_of_nonneg_right (by omega) (by omega)
     have b2:-536870912*(p.data+p.ptrs)≤p.off*(p.data+p.ptrs):=Int.mul_le_mul_of_nonneg_right (by omega) (by omega)
     omega
    have e1:IntKind.i64.wrap (p.data+p.ptrs)=p.data+p.ptrs:=Af (by omega) (by omega)
    have e2:IntKind.i64.wrap (p.off*(p.data+p.ptrs))=p.off*(p.data+p.ptrs):=Af (by omega) (by omega)
    have e3:IntKind.i64.wrap (x.at_+1)=x.at_+1:=Af (by omega) (by omega)
    by_cases hc:(w ≠ 0∧p.kind ≠ 1)∨p.off<0∨x.p.count<p.off*(p.data+p.ptrs)
    ·have hd:(((!decide (w=0)&&!decide (p.kind=1)) || decide (p.off<0)) || decide (x.p.count<p.off*(p.data+p.ptrs)))=true:=by simp;omega
     rw[if_pos hc]
     simp[e1,e2,hd]
     exact Ap rfl (by simp[Rf.zero])
    ·have hd:(((!decide (w=0)&&!decide (p.kind=1)) || decide (p.off<0)) || decide (x.p.count<p.off*(p.data+p.ptrs)))=false:=by simp;omega
     rw[if_neg hc]
     simp[e1,e2,e3,hd]
     exact Ap rfl rfl
theorem V7 {l:List (List Int)} (hs:Sg l) {r:Rf} (hr:Fx l r) (i:Int):G.Spec Tryz.prog 92 [yd r,TI l,iv i] (.tup [yd (Cj l r i).1,iv (Cj l r i).2]):=by
 refine Aj NK (by simp) fun w0 I0=>?_
 unfold Ie
 simp
 refine Bj rfl (fun _=>Kz r) (fun e=>by simp[e]) (by simp) ?_
 by_cases hi:i<0∨nk r≤i
 ·have hd:(decide (i<0) || decide (nk r≤i))=true:=by simpa using hi
  simp[hd]
  exact Ap rfl (by simp[Cj,hi,Rf.zero])
 ·have hd:(decide (i<0) || decide (nk r≤i))=false:=by simpa using hi
  have hi0:0≤i:=by omega
  have hi1:i<nk r:=by omega
  have hk:=JD hr
  rw[Cj,if_neg hi]
  cases hr with
  |zero=>simp[nk,Rf.zero] at hi1;omega
  |str s a d k a1 a2 a3 a4 h=>
   have hb:=C4 hs h
   have e1:IntKind.i64.wrap (IntKind.i64.wrap (a+d)+i)=a+d+i:=by
    rw[Af (n:=a+d) (by omega) (by omega),Af (by omega) (by omega)]
   simp[hd,e1]
   refine Ae (Tl hs s (a+d+i)) rfl ?_
   simp
   exact Ap rfl rfl
  |dat c s a n a1 a2 a3 a4 h=>
   have n1:¬ (2+c=1):=by omega
   have n8:¬ (2+c=8):=by omega
   have n9:¬ (2+c=9):=by omega
   obtain⟨q1,q2,q3,q4,q5,q6,q7⟩:=MH h
   have hz:0≤(n*Gx c+63) / 64:=q4
   have q8:a≤l[s.toNat].length:=by omega
   have e2:IntKind.i64.wrap (2+c-2)=2+c-2:=Af (by omega) (by omega)
   have et:List.take (l[s.toNat].length-a.toNat) (List.drop a.toNat (List.map uv l[s.toNat]))=(l[s.toNat].drop a.toNat).map uv:=by
    rw[AI (by simp),List.map_drop]
   simp[hd,n1,n8,n9,q1,q2,q3,q5,q8,e2,et]
   refine rG (L:=[C5 (l[s.toNat].drop a.toNat),iv (2+c-2),iv i]) (by simp) (lr (fun x hx=>hs.w _ (Bq q5) x (Q3 hx)) (2+c-2) i) rfl ?_
   simp
   exact Ap rfl (by simp[XV,q6])
  |ptrs s a n a1 a2 h=>
   have hb:=C4 hs h
   have e1:IntKind.i64.wrap (a+i)=a+i:=Af (by omega) (by omega)
   simp[hd,e1]
   refine Ae (Tl hs s (a+i)) rfl ?_
   simp
   exact Ap rfl rfl
  |comp s a d k n a1 a2 a3 a4 a5 a6 h=>
   have hb:=C4 hs h
   have hn:i<n:=by simpa[nk] using hi1
   have m1:0≤i*(d+k):=Int.mul_nonneg hi0 (by omega)
   have m2:i*(d+k)≤n*(d+k):=OL (by omega) (by omega)
   have e1:IntKind.i64.wrap (d+k)=d+k:=Af (by omega) (by omega)
   have e2:IntKind.i64.wrap (i*(d+k))=i*(d+k):=Af (by omega) (by omega)
   have e3:IntKind.i64.wrap (a+i*(d+k))=a+i*(d+k):=Af (by omega) (by omega)
   simp[hd,e1,e2,e3]
   exact Ap rfl rfl
  |atom n a1 a2=>simp[nk] at hi1;omega
theorem MO {l:List (List Int)} (hs:Sg l) {r:Rf} (hr:Fx l r):G.Spec Tryz.prog 90 [yd r,TI l] (C5 (Ce l r)):=by
 refine Aj MX (by simp) fun w0 I0=>?_
 unfold Hf
 by_cases h10:r.kind=10
 ·simp[h10]
  have:Ce l r=[r.n]:=by simp[Ce,h10]
  rw[this]
  exact Al
 by_cases h1:r.kind=1
 ·cases hr with
  |str s a d k a1 a2 a3 a4 h=>
   obtain⟨q1,q2,q3,q4,q5,q6,q7⟩:=MH h
   have hbd:=C4 hs h
   have e1:IntKind.i64.wrap (a+d)=a+d:=Af (by omega) (by omega)
   have g1:a≤a+d:=by omega
   have g2:a+d≤l[s.toNat].length:=by omega
   have g3:=hs.b _ (Bq q5)
   have g4:0≤a+d:=by omega
   have g5:a.toNat≤(a+d).toNat:=by omega
   have g6:(a+d).toNat≤l[s.toNat].length:=by omega
   have g7:max (a+d) 0=a+d:=by omega
   simp[e1,q1,q2,q3,q5,g1,g2,g4,g5,g6,g7]
   have gl:(List.take ((a+d).toNat-a.toNat) (List.drop a.toNat (List.map uv l[s.toNat])))=(part l s a d).map uv:=by
    simp only[part,q6,Option.getD_some,List.map_take,List.map_drop]
    congr 1
    omega
   refine⟨by omega,?_⟩
   rw[gl]
   have:Ce l ⟨1,s,a,d,k,0,0⟩=part l s a d:=by simp[Ce]
   rw[this]
   exact Bb (sz:=1) (by simp) (by simp[part,q6];omega) (by simp)
  |dat c s a n a1 a2 a3 a4 h=>simp at h1;omega
  |_=>simp[Rf.zero] at h1
 ·have:Ce l r=[]:=by simp[Ce,h1,h10]
  rw[this]
  simp[h1,h10]
  exact Al
abbrev LB (l:List (List Int)) (B:Int) (rec:Rf→Int→T × Int × Int):Prop:=∀ r,Fx l r→∀ left:Int,0≤left→left≤B→0≤(rec r left).2.1∧(rec r left).2.1≤B
theorem Xn {B:Int} {f:Nat→Int→T × Int × Int} (hf:∀ i left,0≤left→left≤B→0≤(f i left).2.1∧(f i left).2.1≤B):∀ (m i:Nat) (acc:List T) (left:Int),0≤left→left≤B→0≤(DC f m i acc left).2.1∧(DC f m i acc left).2.1≤B
 |0,i,acc,left,h0,h1=>⟨h0,h1⟩
 |m+1,i,acc,left,h0,h1=>by
  rw[DC]
  have:=hf i left h0 h1
  split
  ·exact this
  ·exact Xn hf m _ _ _ this.1 this.2
theorem cq {l:List (List Int)} (hw:aB l) {B:Int} {rec:Rf→Int→T × Int × Int} (h:LB l B rec) {r:Rf} (hr:Fx l r) (i:Nat) (left:Int) (h0:0≤left) (h1:left≤B):0≤(Di l rec r i left).2.1∧(Di l rec r i left).2.1≤B:=by
 unfold Di
 split
 ·exact⟨h0,h1⟩
 ·exact h _ (SY hw hr i) _ h0 h1
theorem bG {l:List (List Int)} (hw:aB l) {B:Int} {rec:Rf→Int→T × Int × Int} (h:LB l B rec):LB l B (Ka l rec):=fun r hr left h0 h1=>
 Xn (cq hw h hr) _ _ _ _ h0 h1
theorem rD {l:List (List Int)} {B:Int}:LB l B (Hs l):=fun r hr left h0 h1=>⟨h0,h1⟩
theorem XZ {l:List (List Int)} {r:Rf} (hr:Fx l r):1≤CR r∧CR r≤100000000000000:=by
 cases hr with
 |zero=>simp[CR,nk,Rf.zero]
 |str s a d k a1 a2 a3 a4 h=>simp[CR];omega
 |dat c s a n a1 a2 a3 a4 h=>simp[CR,nk];rw[if_neg (by omega),if_neg (by omega),if_neg (by omega)];omega
 |ptrs s a n a1 a2 h=>simp[CR,nk];omega
 |comp s a d k n a1 a2 a3 a4 a5 a6 h=>
  simp[CR]
  have m1:0≤n*(1+d+k):=Int.mul_nonneg (by omega) (by omega)
  have m2:n*(1+d+k)≤536870912*(1+d+k):=OL (by omega) (by omega)
  omega
 |atom n a1 a2=>simp[CR,nk]
theorem dq {l:List (List Int)} (hw:aB l) {B:Int} {r:Rf} (hr:Fx l r) {rec1 rec2:Rf→Int→T × Int × Int} (h1:LB l B rec1) (h2:LB l B rec2) {left:Int} (h3:¬ left<CR r) (h4:left≤B):0≤(PG l r rec1 rec2 left).2.1∧(PG l r rec1 rec2 left).2.1≤B:=by
 have:=XZ hr
 unfold PG
 refine Xn (cq hw ?_ hr) _ _ _ _ (by omega) (by omega)
 split
 ·exact bG hw h2
 ·split
  ·exact h1
  ·exact rD
theorem FD {l:List (List Int)} (hw:aB l) {B:Int}:∀ d:Nat,LB l B (B1 l d)
 |0,r,hr,left,h0,h1=>by
  rw[B1];split<;>exact⟨h0,h1⟩
 |1,r,hr,left,h0,h1=>by
  rw[B1]
  split
  ·exact⟨h0,h1⟩
  ·split
   ·exact⟨h0,h1⟩
   ·split
    ·exact⟨h0,h1⟩
    ·rename_i hc
     exact dq hw hr (FD hw 0) (fun r hr left h0 h1=>⟨h0,h1⟩) hc h1
 |d+2,r,hr,left,h0,h1=>by
  rw[B1]
  split
  ·exact⟨h0,h1⟩
  ·split
   ·exact⟨h0,h1⟩
   ·rename_i hc
    exact dq hw hr (FD hw (d+1)) (FD hw d) hc h1
abbrev M3 (x:T × Int × Int):A:=.tup [tX x.1,iv x.2.1,iv x.2.2]
abbrev raL (r:Rf):List A:=[iv r.kind,iv r.s,iv r.at_,iv r.data,iv r.kids,iv r.count,uv r.n]
abbrev dE (l:List (List Int)) (g:FuncId) (d:Nat) (B:Int) (rec:Rf→Int→T × Int × Int):Prop:=∀ r,Fx l r→∀ left:Int,0≤left→left≤B→G.Spec Tryz.prog g [TI l,yd r,iv d,iv left] (M3 (rec r left))
abbrev zT:List A:=[iv 0,.sl true [],.sl true []]
theorem jh {l:List (List Int)} {r:Rf} (hr:Fx l r):0≤r.kids∧r.kids<65536:=by
 cases hr<;>simp[Rf.zero]<;>omega
section
variable {n0:Nat} {w0:World} {I0:Nat→Prop} {Q:Exit→Sta→Prop}
theorem nR {l:List (List Int)} (hs:Sg l) {r:Rf} (hr:Fx l r) {rec:Rf→Int→T × Int × Int} {d:Nat} {B:Int} (hrec:dE l 47 d B rec) (hlb:LB l B rec) {W:List Int} {ks:List T} {lf e:Int}:∀ (m i u:Nat) (acc:List T) (left:Int) (H:Hp),(i:Int)+m=r.kids→acc.length=i→0≤left→left≤B→H [0]=⟨1,.cells (raL r)⟩→H [1]=⟨1,.cells zT⟩→H [2]=⟨1,.cells [iv 1,C5 W,.osl [5] u 3 0 i]⟩→H [5]=⟨u,.arr 3 (acc.map tA)⟩→DC (Di l rec r) m i acc left=(ks,lf,e) →
  (e=0→∀ i' q u' H',H' [1]=⟨1,.cells zT⟩→H' [2]=⟨1,.cells [iv 1,C5 W,.osl [5] u' 3 0 ks.length]⟩→H' [5]=⟨u',.arr 3 (ks.map tA)⟩→Q (.exit 0) ⟨lk [(0,TI l),(2,iv d),(3,iv lf),(5,.pob [0] 1 0),(8,.pob [1] 1 0),(11,.pob [2] 1 0),(12,iv i'),(25,bv q)],H'⟩) →
  (e ≠ 0→∀ u' H',H' [1]=⟨1,.cells [iv 1,C5 W,.osl [5] u' 3 0 ks.length]⟩→H' [5]=⟨u',.arr 3 (ks.map tA)⟩→Q .ret ⟨lk [(8,.pob [1] 1 0),(9,iv lf),(10,iv e)],H'⟩) →
  LoopC (cx Tryz.prog w0 I0 n0) Ei Q ⟨lk [(0,TI l),(2,iv d),(3,iv left),(5,.pob [0] 1 0),(8,.pob [1] 1 0),(11,.pob [2] 1 0),(12,iv i)],H⟩:=by
 have hb:=jh hr
 intro m
 induction m with
 |zero=>
  intro i u acc left H hi ha h0 h1 hA hR hO hK hX hq hq2
  have:(i:Int)=r.kids:=by omega
  rw[DC] at hX
  cases hX
  refine Ad Ah Ei.eq_1 ?_
  simp[hA,this]
  refine hq rfl _ _ u H hR (by rw[hO,ha]) hK
 |succ m ihm=>
  intro i u acc left H hi ha h0 h1 hA hR hO hK hX hq hq2
  have hlt:(i:Int)<r.kids:=by omega
  have ei:IntKind.i64.wrap ((i:Int)+1)=((i+1:Nat):Int):=Af (by omega) (by omega)
  rw[DC] at hX
  refine Ad Ah Ei.eq_1 ?_
  simp[hA,hlt]
  refine Ae (V7 hs hr i) (by simp) ?_
  by_cases he:(Cj l r i).2=0
  ·have hst:Di l rec r i left=rec (Cj l r i).1 left:=by rw[Di,if_neg (by omega)]
   rw[hst] at hX
   have hlb':=hlb _ (SY hs.w hr i) left h0 h1
   simp[he,hA,hR,hO,hK,Aa]
   refine Ae (hrec _ (SY hs.w hr i) left h0 h1) (by simp) ?_
   generalize hy:rec (Cj l r i).1 left=y at hX hlb'
   obtain⟨y,yl,ye⟩:=y
   simp only at hX hlb'
   by_cases hye:ye=0
   ·rw[if_neg (by simp[hye])] at hX
    simp[hye,hA,hR,hO,hK,Aa]
    have hrow:List.take i (acc.map tA)++[tX y]=(acc++[y]).map tA:=by rw[AI (by simp;omega)];simp
    have hrow':List.take i (acc.map tA)=acc.map tA:=AI (by simp;omega)
    rw[ei]
    refine⟨⟨by omega,by omega⟩,?_⟩
    exact ihm (i+1) (u+1) (acc++[y]) yl _ (by omega) (by simp[ha]) hlb'.1 hlb'.2 (by simp[Aa,hA]) (by simp[Aa,hR]) (by simp[Aa]) (by simp[Aa,hrow']) hX hq hq2
   ·rw[if_pos hye] at hX
    simp only[Prod.mk.injEq] at hX
    obtain⟨rfl,rfl,rfl⟩:=hX
    simp[hye,hA,hR,hO,hK,Aa]
    refine hq2 hye u _ ?_ ?_
    ·simp[Aa,hR,ha]
    ·simp[Aa,hK]
  ·have hst:Di l rec r i left=(T0,left,(Cj l r i).2):=by rw[Di,if_pos he]
   rw[hst,if_pos he] at hX
   simp only[Prod.mk.injEq] at hX
   obtain⟨rfl,rfl,rfl⟩:=hX
   simp[he,hA,hR,hO,hK,Aa]
   refine hq2 he u _ ?_ ?_
   ·simp[Aa,hR,ha]
   ·simp[Aa,hK]
end
theorem gz {l:List (List Int)} (hs:Sg l) {rec:Rf→Int→T × Int × Int} {d:Nat} {B:Int} (hrec:dE l 47 d B rec) (hlb:LB l B rec):dE l 93 d B (Ka l rec):=fun r hr left h0 h1=>by
 have hb:=jh hr
 refine Aj RV (by simp) fun w0 I0=>?_
 unfold KL
 simp
 refine Ae (MO hs hr) (by simp) ?_
 simp
 refine LoopC.le (Bd (d:=[2]) 2 [5] 3 rfl rfl (by simp)) ?_
 simp
 generalize hX:DC (Di l rec r) r.kids.toNat 0 [] left=X
 obtain⟨ks,lf,e⟩:=X
 have fin:∀ (H:Hp) (u:Nat),H [5]=⟨u,.arr 3 (ks.map tA)⟩→Jd H (.tup [.agg [iv 1,C5 (Ce l r),.osl [5] u 3 0 ks.length],iv lf,iv e]) (M3 (Ka l rec r left)):=fun H u hH=>by
  unfold Ka
  rw[hX]
  refine G4 ?_
  simp
  refine⟨BG ?_,Ab rfl,Ab rfl⟩
  simp
  exact⟨Ab rfl,Ab rfl,Bb (by simp[hH]) rfl (by simp)⟩
 refine nR (W:=Ce l r) hs hr hrec hlb r.kids.toNat 0 1 [] left _ (by omega) rfl h0 h1 (by simp) (by simp) (by simp) (by simp) hX (fun he i' q u' H' hR hO hK=>?_) (fun he u' H' hR hK=>?_)
 ·simp[hR,hO,hK,Aa]
  rw[← he]
  exact fin _ u' (by simp[Aa,hK])
 ·simp[hR,hK,Aa]
  exact fin _ u' hK
def NR (b:Bool) (t:T):A:=if b=true then .agg [iv t.kind,C5 t.words,.sl true []] else tA t
theorem uT {H:Hp} {o:Nm} {u n:Nat} {b:Bool} {l:List T} (h:vr (H o) u=some (3,l.map (NR b))) (hn:n=l.length) (hb:b=true→∀ t,t ∈ l→t.kids=[]):Jd H (.osl o u 3 0 n) (Ba l):=by
 subst hn
 cases b with
 |false=>
  have e:NR false=tA:=by funext t;simp[NR]
  rw[e] at h
  exact Bb (by simpa using h) rfl (by simp)
 |true=>
  refine JG (xs:=l.map (NR true)) (by simpa using h) (by simp) (by simp) (fun y hy=>?_) ?_ ?_
  ·obtain⟨x,hx,rfl⟩:=List.mem_map.1 hy
   simp
  ·simp only[A.ones,List.all_eq_true,List.mem_flatMap]
   rintro y ⟨z,hz,hy⟩
   obtain⟨x,hx,rfl⟩:=List.mem_map.1 hz
   simp at hy
   rcases hy with rfl | rfl | rfl<;>rfl
  ·rw[List.drop_zero,AI (by simp)]
   have:∀ (m:List T),(∀ x,x ∈ m→x ∈ l)→Hd H ((m.map (NR true)).flatMap A.cells) ((m.map tA).flatMap A.cells):=by
    intro m
    induction m with
    |nil=>intro _;simp
    |cons x m ih=>
     intro hm
     have:=hb rfl x (hm x (by simp))
     have:=ih fun y hy=>hm y (by simp[hy])
     simp[NR] at this ⊢
     exact⟨Ab rfl,Ab rfl,by rw[hb rfl x (hm x (by simp))];exact Al,this⟩
   exact this l fun x hx=>hx
def Nr (l:List (List Int)) (r:Rf) (rec1 rec2:Rf→Int→T × Int × Int):Rf→Int→T × Int × Int:=if r.kind=9 then Ka l rec2 else if r.kind=1∨r.kind=8 then rec1 else Hs l
def IU (r:Rf):Bool:=!(decide (r.kind=9) || decide (r.kind=1) || decide (r.kind=8))
theorem Yj {l:List (List Int)} {r:Rf} {rec1 rec2:Rf→Int→T × Int × Int} (hb:IU r=true):∀ (m i:Nat) (acc:List T) (left:Int),(∀ t,t ∈ acc→t.kids=[])→∀ t,t ∈ (DC (Di l (Nr l r rec1 rec2) r) m i acc left).1→t.kids=[]
 |0,i,acc,left,ha,t,ht=>ha t ht
 |m+1,i,acc,left,ha,t,ht=>by
  have e:Nr l r rec1 rec2=Hs l:=by
   simp[IU] at hb
   rw[Nr,if_neg hb.1.1,if_neg (by omega)]
  rw[DC] at ht
  split at ht
  ·exact ha t ht
  ·refine Yj hb m _ _ _ (fun t ht=>?_) t ht
   rcases List.mem_append.1 ht with h | h
   ·exact ha t h
   ·simp only[List.mem_singleton] at h
    subst h
    rw[e]
    unfold Di
    split
    ·rfl
    ·rfl
section
variable {n0:Nat} {w0:World} {I0:Nat→Prop} {Q:Exit→Sta→Prop}
theorem gG {l:List (List Int)} (hs:Sg l) {r:Rf} (hr:Fx l r) {rec1 rec2:Rf→Int→T × Int × Int} {d:Nat} (hd:d≤1000) {B:Int}
  (h1:r.kind=1∨r.kind=8→∃ d1:Nat,d=d1+1∧dE l 47 d1 B rec1∧LB l B rec1)
  (h2:r.kind=9→0<r.count→∃ d2:Nat,d=d2+2∧dE l 93 d2 B (Ka l rec2)∧LB l B (Ka l rec2))
  {W:List Int} {ks:List T} {lf e:Int}:∀ (m i u:Nat) (acc:List T) (left:Int) (H:Hp),(i:Int)+m=nk r→acc.length=i→0≤left→left≤B→H [0]=⟨1,.cells (raL r)⟩→H [1]=⟨1,.cells zT⟩→H [2]=⟨1,.cells [iv r.kind,C5 W,.osl [5] u 3 0 i]⟩→H [5]=⟨u,.arr 3 (acc.map (NR (IU r)))⟩→DC (Di l (Nr l r rec1 rec2) r) m i acc left=(ks,lf,e) →
  (e=0→∀ i' q u' H',H' [1]=⟨1,.cells zT⟩→H' [2]=⟨1,.cells [iv r.kind,C5 W,.osl [5] u' 3 0 ks.length]⟩→H' [5]=⟨u',.arr 3 (ks.map (NR (IU r)))⟩→Q (.exit 0) ⟨lk [(0,TI l),(2,iv d),(3,iv lf),(5,.pob [0] 1 0),(8,.pob [1] 1 0),(11,.pob [2] 1 0),(13,iv i'),(82,bv q)],H'⟩) →
  (e ≠ 0→∀ u' H',H' [1]=⟨1,.cells [iv r.kind,C5 W,.osl [5] u' 3 0 ks.length]⟩→H' [5]=⟨u',.arr 3 (ks.map (NR (IU r)))⟩→Q .ret ⟨lk [(8,.pob [1] 1 0),(9,iv lf),(10,iv e)],H'⟩) →
  LoopC (cx Tryz.prog w0 I0 n0) Ch Q ⟨lk [(0,TI l),(2,iv d),(3,iv left),(5,.pob [0] 1 0),(8,.pob [1] 1 0),(11,.pob [2] 1 0),(13,iv i)],H⟩:=by
 have hb:=JD hr
 intro m
 induction m with
 |zero=>
  intro i u acc left H hi ha h0 hl hA hR hO hK hX hq hq2
  have:(i:Int)=nk r:=by omega
  rw[DC] at hX
  cases hX
  refine Ad Ah Ch.eq_1 ?_
  simp[hA]
  refine Ae (Kz r) (by simp) ?_
  simp[this]
  refine hq rfl _ _ u H hR (by rw[hO,ha]) hK
 |succ m ihm=>
  intro i u acc left H hi ha h0 hl hA hR hO hK hX hq hq2
  have hlt:(i:Int)<nk r:=by omega
  have ei:IntKind.i64.wrap ((i:Int)+1)=((i+1:Nat):Int):=Af (by omega) (by omega)
  have hrow:List.take i (acc.map (NR (IU r)))=acc.map (NR (IU r)):=AI (by simp;omega)
  rw[DC] at hX
  refine Ad Ah Ch.eq_1 ?_
  simp[hA]
  refine Ae (Kz r) (by simp) ?_
  simp[hA,hlt]
  refine Ae (V7 hs hr i) (by simp) ?_
  have hok:=SY hs.w hr i
  have next:∀ (y:T) (yl ye:Int),Di l (Nr l r rec1 rec2) r i left=(y,yl,ye)→ye=0→0≤yl→yl≤B→∀ (x:A) (H':Hp),NR (IU r) y=x→H' [0]=⟨1,.cells (raL r)⟩→H' [1]=⟨1,.cells zT⟩→H' [2]=⟨1,.cells [iv r.kind,C5 W,.osl [5] (u+1) 3 0 (i+1)]⟩→H' [5]=⟨u+1,.arr 3 (acc.map (NR (IU r))++[x])⟩ →
    LoopC (cx Tryz.prog w0 I0 n0) Ch Q ⟨lk [(0,TI l),(2,iv d),(3,iv yl),(5,.pob [0] 1 0),(8,.pob [1] 1 0),(11,.pob [2] 1 0),(13,iv ((i+1:Nat):Int))],H'⟩:=fun y yl ye hy he y0 y1 x H' hx a0 a1 a2 a5=>by
   rw[hy,if_neg (by simp[he])] at hX
   exact ihm (i+1) (u+1) (acc++[y]) yl H' (by omega) (by simp[ha]) y0 y1 a0 a1 a2 (by rw[a5,← hx];simp) hX hq hq2
  by_cases he:(Cj l r i).2=0
  ·have hst:Di l (Nr l r rec1 rec2) r i left=Nr l r rec1 rec2 (Cj l r i).1 left:=by rw[Di,if_neg (by omega)]
   rw[hst] at hX next
   simp[he,hA,hR,hO,hK,Aa]
   refine Ae (MO hs hok) (by simp) ?_
   simp[he,hA,hR,hO,hK,Aa]
   by_cases h9:r.kind=9
   ·have hrec:Nr l r rec1 rec2=Ka l rec2:=by rw[Nr,if_pos h9]
    have hlf:IU r=false:=by simp[IU,h9]
    rw[hrec] at hX next
    obtain⟨d2,ed,hsp,hlb⟩:=h2 h9 (by unfold nk at hlt;rw[if_neg (by omega)] at hlt;omega)
    have e2:IntKind.i64.wrap ((d:Int)-2)=(d2:Int):=An
    have hlb':=hlb _ hok left h0 hl
    simp[h9,e2,hA,Aa]
    refine Ae (hsp _ hok left h0 hl) (by simp) ?_
    generalize hy:Ka l rec2 (Cj l r i).1 left=y at hX hlb' next
    obtain⟨y,yl,ye⟩:=y
    simp only at hX hlb'
    rw[Dc.eq_1]
    by_cases hye:ye=0
    ·simp[hye,hA,hR,hO,hK,Aa,hrow]
     rw[ei]
     refine⟨⟨by omega,by omega⟩,?_⟩
     refine next y yl ye rfl hye hlb'.1 hlb'.2 _ _ rfl ?_ ?_ ?_ ?_
     ·simp[Aa,hA]
     ·simp[Aa,hR]
     ·simp[Aa,h9]
     ·simp[Aa,hlf,NR]
    ·rw[if_pos hye] at hX
     simp only[Prod.mk.injEq] at hX
     obtain⟨rfl,rfl,rfl⟩:=hX
     simp[hye,hA,hR,hO,hK,Aa]
     refine hq2 hye u _ ?_ ?_
     ·simp[Aa,hR,ha,h9]
     ·simp[Aa,hK]
   ·by_cases h18:r.kind=1∨r.kind=8
    ·have hrec:Nr l r rec1 rec2=rec1:=by rw[Nr,if_neg h9,if_pos h18]
     have hlf:IU r=false:=by rcases h18 with h | h<;>simp[IU,h]
     have hdc:(decide (r.kind=1) || decide (r.kind=8))=true:=by simpa using h18
     rw[hrec] at hX next
     obtain⟨d1,ed,hsp,hlb⟩:=h1 h18
     have e2:IntKind.i64.wrap ((d:Int)-1)=(d1:Int):=An
     have hlb':=hlb _ hok left h0 hl
     simp[h9,hdc,e2,hA,Aa]
     refine⟨fun _=>?_,fun a b=>by omega⟩
     refine Ae (hsp _ hok left h0 hl) (by simp) ?_
     generalize hy:rec1 (Cj l r i).1 left=y at hX hlb' next
     obtain⟨y,yl,ye⟩:=y
     simp only at hX hlb'
     rw[Dc.eq_1]
     by_cases hye:ye=0
     ·simp[hye,hA,hR,hO,hK,Aa,hrow]
      rw[ei]
      refine⟨⟨by omega,by omega⟩,?_⟩
      refine next y yl ye rfl hye hlb'.1 hlb'.2 _ _ rfl ?_ ?_ ?_ ?_
      ·simp[Aa,hA]
      ·simp[Aa,hR]
      ·simp[Aa]
      ·simp[Aa,hlf,NR]
     ·rw[if_pos hye] at hX
      simp only[Prod.mk.injEq] at hX
      obtain⟨rfl,rfl,rfl⟩:=hX
      simp[hye,hA,hR,hO,hK,Aa]
      refine hq2 hye u _ ?_ ?_
      ·simp[Aa,hR,ha]
      ·simp[Aa,hK]
    ·have hrec:Nr l r rec1 rec2=Hs l:=by rw[Nr,if_neg h9,if_neg h18]
     have hlf:IU r=true:=by simp[IU];omega
     have hdc:(decide (r.kind=1) || decide (r.kind=8))=false:=by simpa using h18
     rw[hrec] at next
     simp[h9,hdc,hA,Aa]
     rw[Dc.eq_1]
     simp[he,hA,hR,hO,hK,Aa,hrow]
     rw[ei]
     refine⟨fun h=>absurd h h18,fun _ _=>⟨⟨by omega,by omega⟩,?_⟩⟩
     refine next _ _ _ rfl rfl h0 hl _ _ rfl ?_ ?_ ?_ ?_
     ·simp[Aa,hA]
     ·simp[Aa,hR]
     ·simp[Aa]
     ·simp[Aa,hlf,NR]
  ·have hst:Di l (Nr l r rec1 rec2) r i left=(T0,left,(Cj l r i).2):=by rw[Di,if_pos he]
   rw[hst,if_pos he] at hX
   simp only[Prod.mk.injEq] at hX
   obtain⟨rfl,rfl,rfl⟩:=hX
   simp[he,hA,hR,hO,hK,Aa]
   refine hq2 he u _ ?_ ?_
   ·simp[Aa,hR,ha]
   ·simp[Aa,hK]
end
theorem My {l:List (List Int)} (hs:Sg l) {r:Rf} (hr:Fx l r) {rec1 rec2:Rf→Int→T × Int × Int} {d:Nat} (hd:d≤1000) {B:Int} (hB:B≤1000000)
  (h1:r.kind=1∨r.kind=8→0<d→∃ d1:Nat,d=d1+1∧dE l 47 d1 B rec1∧LB l B rec1)
  (h2:r.kind=9→0<r.count→1<d→∃ d2:Nat,d=d2+2∧dE l 93 d2 B (Ka l rec2)∧LB l B (Ka l rec2))
  {left:Int} (h0:0≤left) (hl:left≤B) {X:T × Int × Int} (hX:X=if r.kind=0 then Hs l r left else if d<1∨(r.kind=9∧0<r.count∧d<2) then KI l r left else if left<CR r then KI l r left else PG l r rec1 rec2 left):G.Spec Tryz.prog 47 [TI l,yd r,iv d,iv left] (M3 X):=by
 have hb:=JD hr
 have hc:=XZ hr
 refine Aj NU (by simp) fun w0 I0=>?_
 unfold Iy
 simp
 refine Ae (MO hs hr) (by simp) ?_
 have leaf:∀ (H:Hp) (k lf e:Int) (X:T × Int × Int),X=(.mk k (Ce l r) [],lf,e)→Jd H (.tup [.agg [iv k,C5 (Ce l r),.sl true []],iv lf,iv e]) (M3 X):=fun H k lf e X hX=>by
  rw[hX]
  exact G4 (by simp;exact⟨BG (by simp;exact⟨Ab rfl,Ab rfl,Al⟩),Ab rfl,Ab rfl⟩)
 by_cases k0:r.kind=0
 ·rw[if_pos k0,Hs,k0] at hX
  simp[k0]
  exact leaf _ _ _ _ _ hX
 rw[if_neg k0] at hX
 by_cases hst:d<1∨(r.kind=9∧0<r.count∧d<2)
 ·have hd:(decide ((d:Int)<1) || ((decide (r.kind=9)&&decide (0<r.count))&&decide ((d:Int)<2)))=true:=by simp;omega
  rw[if_pos hst,KI] at hX
  by_cases d0:(d:Int)<1
  ·simp[k0,d0]
   exact leaf _ _ _ _ _ hX
  ·have h9:r.kind=9:=by omega
   have hcn:0<r.count:=by omega
   have d2:(d:Int)<2:=by omega
   simp[k0,d0,h9,hcn,d2]
   rw[h9] at hX
   exact leaf _ _ _ _ _ hX
 rw[if_neg hst] at hX
 have d0:¬ (d:Int)<1:=by omega
 have fin:∀ (H:Hp),H [0]=⟨1,.cells (raL r)⟩→H [1]=⟨1,.cells zT⟩→H [2]=⟨1,.cells [iv r.kind,C5 (Ce l r),.sl true []]⟩→H [5]=⟨0,.none⟩→WPC (cx Tryz.prog w0 I0 149) EU (RY Tryz.prog [.cell 8 25,.tmp 9,.tmp 10] (M3 X)) ⟨lk [(0,TI l),(2,iv d),(3,iv left),(5,.pob [0] 1 0),(8,.pob [1] 1 0),(11,.pob [2] 1 0),(12,iv (CR r))],H⟩:=fun H hA hR hO hN=>by
  rw[EU.eq_1]
  by_cases hlc:left<CR r
  ·rw[if_pos hlc,KI] at hX
   simp[hlc,hA,hR,hO,Aa]
   exact leaf _ _ _ _ _ hX
  ·rw[if_neg hlc,PG] at hX
   have ew:IntKind.i64.wrap (left-CR r)=left-CR r:=Af (by omega) (by omega)
   simp[hlc,hA,hR,hO,Aa,ew]
   have hX':X=(.mk r.kind (Ce l r) (DC (Di l (Nr l r rec1 rec2) r) (nk r).toNat 0 [] (left-CR r)).1,(DC (Di l (Nr l r rec1 rec2) r) (nk r).toNat 0 [] (left-CR r)).2.1,(DC (Di l (Nr l r rec1 rec2) r) (nk r).toNat 0 [] (left-CR r)).2.2):=hX
   have hleaf:=fun hb=>Yj (rec1:=rec1) (rec2:=rec2) (l:=l) (r:=r) hb (nk r).toNat 0 [] (left-CR r) (by simp)
   generalize hY:DC (Di l (Nr l r rec1 rec2) r) (nk r).toNat 0 [] (left-CR r)=Y at hX' hleaf
   obtain⟨ks,lf,e⟩:=Y
   have done:∀ (H:Hp) (u:Nat),H [5]=⟨u,.arr 3 (ks.map (NR (IU r)))⟩→Jd H (.tup [.agg [iv r.kind,C5 (Ce l r),.osl [5] u 3 0 ks.length],iv lf,iv e]) (M3 X):=fun H u hH=>by
    rw[hX']
    exact G4 (by simp;exact⟨BG (by simp;exact⟨Ab rfl,Ab rfl,uT (by simp[hH]) rfl hleaf⟩),Ab rfl,Ab rfl⟩)
   refine LoopC.le (Bd (d:=[2]) 2 [5] 3 hO rfl (by simp)) ?_
   refine gG (W:=Ce l r) hs hr hd (fun k=>h1 k (by omega)) (fun k k'=>h2 k k' (by omega)) (nk r).toNat 0 1 [] (left-CR r) _ (by omega) rfl (by omega) (by omega) (by simp[Aa,hA]) (by simp[Aa,hR]) (by simp[Aa,hN]) (by simp[Aa,hN]) hY (fun he i' q u' H' hR hO hK=>?_) (fun he u' H' hR hK=>?_)
   ·simp[hR,hO,hK,Aa]
    rw[← he]
    exact done _ u' (by simp[Aa,hK])
   ·simp[hR,hK,Aa]
    exact done _ u' hK
 have b0:decide (r.kind=0)=false:=by simpa using k0
 have hst':((decide (r.kind=9)&&decide (0<r.count))&&decide ((d:Int)<2))=false:=by
  simp only[Bool.and_eq_false_iff,decide_eq_false_iff_not]
  omega
 simp[b0,d0,hst']
 refine Ae (Kz r) (by simp) ?_
 have ek:IntKind.i64.wrap (1+nk r)=1+nk r:=Af (by omega) (by omega)
 by_cases k1:r.kind=1
 ·have b1:decide (r.kind=1)=true:=by simpa using k1
  have b9:decide (r.kind=9)=false:=by simp[k1]
  have ec:IntKind.i64.wrap (IntKind.i64.wrap (1+r.data)+r.kids)=CR r:=by
   cases hr with
   |str s a d k a1 a2 a3 a4 h=>
    rw[Af (n:=1+_) (by simp;omega) (by simp;omega),Af (by simp;omega) (by simp;omega)]
    simp[CR]
   |dat c s a n a1 a2 a3 a4 h=>simp at k1;omega
   |_=>simp[Rf.zero] at k1
  simp[b1]
  rw[Db.eq_1]
  simp[b9,ec]
  exact fin _ (by simp) (by simp) (by simp) (by simp)
 ·have b1:decide (r.kind=1)=false:=by simpa using k1
  by_cases k9:r.kind=9
  ·have b9:decide (r.kind=9)=true:=by simpa using k9
   have ec:IntKind.i64.wrap (1+IntKind.i64.wrap (r.count*IntKind.i64.wrap (IntKind.i64.wrap (1+r.data)+r.kids)))=CR r:=by
    have e:CR r=1+r.count*(1+r.data+r.kids):=by simp[CR,k9]
    have hd:0≤r.data∧r.data<65536∧0≤r.kids∧r.kids<65536:=by
     cases hr with
     |comp s a d k n a1 a2 a3 a4 a5 a6 h=>exact⟨a1,a2,a3,a4⟩
     |dat c s a n a1 a2 a3 a4 h=>simp at k9;omega
     |_=>simp[Rf.zero] at k9
    rw[Af (n:=1+r.data) (by omega) (by omega),Af (n:=1+r.data+r.kids) (by omega) (by omega),Af (n:=r.count*_) (by omega) (by omega),Af (by omega) (by omega),e]
   simp[b1,ek]
   rw[Db.eq_1]
   simp[b9,ec]
   exact fin _ (by simp) (by simp) (by simp) (by simp)
  ·have b9:decide (r.kind=9)=false:=by simpa using k9
   have ec:1+nk r=CR r:=by simp[CR,k1,k9]
   have ek':IntKind.i64.wrap (1+nk r)=CR r:=by rw[ek,ec]
   simp[b1,ek']
   rw[Db.eq_1]
   simp[b9]
   refine fin _ ?_ ?_ ?_ ?_<;>simp
theorem Jg {l:List (List Int)} (hs:Sg l) {B:Int} (hB:B≤1000000):∀ d:Nat,d≤1000→dE l 47 d B (B1 l d)
 |0,hd,r,hr,left,h0,hl=>by
  refine My hs hr hd hB (rec1:=Hs l) (rec2:=Hs l) (fun _ h=>absurd h (by omega)) (fun _ _ h=>absurd h (by omega)) h0 hl ?_
  rw[B1]
  simp
 |1,hd,r,hr,left,h0,hl=>by
  refine My hs hr hd hB (rec1:=B1 l 0) (rec2:=fun r left=>KI l r left) (fun _ _=>⟨0,rfl,Jg hs hB 0 (by omega),FD hs.w 0⟩) (fun _ _ h=>absurd h (by omega)) h0 hl ?_
  rw[B1]
  simp
 |d+2,hd,r,hr,left,h0,hl=>by
  refine My hs hr hd hB (rec1:=B1 l (d+1)) (rec2:=B1 l d) (fun _ _=>⟨d+1,rfl,Jg hs hB (d+1) (by omega),FD hs.w (d+1)⟩) (fun _ _ _=>⟨d,rfl,gz hs (Jg hs hB d (by omega)) (FD hs.w d),bG hs.w (FD hs.w d)⟩) h0 hl ?_
  have n1:¬ (d+2<1∨r.kind=9∧0<r.count∧d+2<2):=by omega
  rw[B1,if_neg n1]
def Cq (x m:Int):Int:=if x<0 then 0 else if m<x then m else x
theorem HT (x m:Int):G.Spec Tryz.prog 87 [iv x,iv m] (iv (Cq x m)):=by
 refine Aj Pk (by simp) fun w0 I0=>?_
 unfold IL
 by_cases h:x<0
 ·simp[h]
  exact Ap rfl (by simp[Cq,h])
 ·by_cases h2:m<x
  ·simp[h,h2]
   exact Ap rfl (by simp[Cq,h,h2])
  ·simp[h,h2]
   exact Ap rfl (by simp[Cq,h,h2])
abbrev v8 (a b c d:Int):A:=.agg [iv a,iv b,iv c,iv d]
set_option maxRecDepth 100000 in
theorem dT (a b c d:Int):G.Spec Tryz.prog 45 [v8 a b c d] (v8 (Cq a 64) (Cq b 65536) (Cq c 4096) (Cq d 131072)):=by
 refine Aj Pd (by simp) fun w0 I0=>?_
 unfold IK
 simp
 refine Ae (HT a 64) rfl ?_
 simp
 refine Ae (HT b 65536) rfl ?_
 simp
 refine Ae (HT c 4096) rfl ?_
 simp
 refine Ae (HT d 131072) rfl ?_
 simp
 exact Ab rfl
def MT (b:Int):Int:=if 3000<b then 3000 else b
theorem gF (a b c d:Int):G.Spec Tryz.prog 18 [v8 a b c d] (v8 a (MT b) c d):=by
 refine Aj QU (by simp) fun w0 I0=>?_
 unfold Kj
 by_cases h:3000<b
 ·simp[h]
  exact Ap rfl (by simp[MT,h])
 ·simp[h]
  exact Ap rfl (by simp[MT,h])
def Zi (l:List (List Int)) (a b:Int):T × Int × Int:=
 if (XH l 0 0).2 ≠ 0 then (T0,0,(XH l 0 0).2)
 else if (B1 l (Cq a 64).toNat (XH l 0 0).1 (Cq b 65536)).2.2 ≠ 0 then (T0,0,(B1 l (Cq a 64).toNat (XH l 0 0).1 (Cq b 65536)).2.2)
 else ((B1 l (Cq a 64).toNat (XH l 0 0).1 (Cq b 65536)).1,Cq b 65536-(B1 l (Cq a 64).toNat (XH l 0 0).1 (Cq b 65536)).2.1,0)
theorem cT (x m:Int) (h:0≤m):0≤Cq x m∧Cq x m≤m:=by
 unfold Cq;split
 ·omega
 ·split<;>omega
theorem UE {l:List (List Int)} (hs:Sg l) (a b c d:Int):G.Spec Tryz.prog 19 [TI l,v8 a b c d] (M3 (Zi l a b)):=by
 have ha:=cT a 64 (by decide)
 have hb:=cT b 65536 (by decide)
 refine Aj Pj (by simp) fun w0 I0=>?_
 unfold I7
 simp
 refine Ae (dT a b c d) rfl ?_
 simp
 refine Ae (Tl hs 0 0) rfl ?_
 simp
 unfold Zi
 have hok:=jf hs.w 0 0
 generalize hx:XH l 0 0=x at hok
 obtain⟨r,e⟩:=x
 simp only
 by_cases he:e=0
 ·rw[if_neg (by simp[he])]
  obtain⟨D,hD⟩:∃ D:Nat,Cq a 64=(D:Int):=⟨(Cq a 64).toNat,by omega⟩
  have hm:=Jg hs (B:=65536) (by omega) D (by omega) r hok (Cq b 65536) hb.1 hb.2
  have hlb:=FD hs.w (B:=65536) D r hok (Cq b 65536) hb.1 hb.2
  simp[he,hD]
  refine Ae hm (by simp) ?_
  generalize B1 l D r (Cq b 65536)=y at hlb
  obtain⟨t,lf,e2⟩:=y
  simp only at hlb ⊢
  by_cases he2:e2=0
  ·have ew:IntKind.i64.wrap (Cq b 65536-lf)=Cq b 65536-lf:=Af (by omega) (by omega)
   simp[he2,ew]
   exact Ab (DA (by simp))
  ·simp[he2]
   exact G4 (by simp;exact⟨ZE,Ab rfl,Ab rfl⟩)
 ·rw[if_pos he]
  simp[he]
  exact G4 (by simp;exact⟨ZE,Ab rfl,Ab rfl⟩)
theorem Jf {l:List (List Int)} (hs:Sg l) {a b:Int} (h:(Zi l a b).2.2=0):AG l (XH l 0 0).1 (Zi l a b).1:=by
 unfold Zi at h ⊢
 split at h
 ·rename_i h0;exact absurd h h0
 ·rename_i h0
  rw[if_neg h0]
  split at h
  ·rename_i h1;exact absurd h h1
  ·rename_i h1
   rw[if_neg h1]
   exact H7 hs.w _ _ _ (jf hs.w 0 0) (by omega)
abbrev s1:List (List Int):=[[4294967296,7]]
abbrev s2:List (List Int):=[[8589934592,7,0]]
abbrev s3:List (List Int):=[[4294967296,8]]
theorem sg1:Sg s1:=⟨fun x hx=>by simp at hx;subst hx;simp,fun x hx y hy=>by simp at hx;subst hx;simp at hy;omega⟩
theorem sg3:Sg s3:=⟨fun x hx=>by simp at hx;subst hx;simp,fun x hx y hy=>by simp at hx;subst hx;simp at hy;omega⟩
theorem Ady:Zi s1 64 3000=(.mk 1 [7] [],2,0):=by kernel_rfl
theorem Aei:Zi s3 64 3000=(.mk 1 [8] [],2,0):=by kernel_rfl
end Go.Proofs.YtbjmaoedheiigaaGreat
