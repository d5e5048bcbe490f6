/-
 Texts,merged,without what is not reached.
-/
import Derived.Test.YtbjmaoedheiigaaGreatKIf
set_option linter.unusedSimpArgs false
set_option linter.unusedVariables false
namespace Go.Proofs.YtbjmaoedheiigaaGreat
open Go Go.G Go.Proofs Go.PL
def KZ (f:Nat→Int) (n:Nat):List A:=(List.range n).map fun q=>iv (f q)
@[simp] theorem Afo {f:Nat→Int} {n:Nat}:(KZ f n).length=n:=by simp[KZ]
@[simp] theorem Ji {f:Nat→Int} {n k:Nat} (h:k<n):(KZ f n)[k]? = some (iv (f k)):=by simp[KZ,h]
@[simp] theorem AgX {f:Nat→Int} {n k:Nat} (h:k<(KZ f n).length):(KZ f n)[k]=iv (f k):=by simp[KZ]
@[simp] theorem AeG {f:Nat→Int} {n k:Nat} {z:Int}:(KZ f n).set k (iv z)=KZ (fun q=>if q=k then z else f q) n:=by
 apply List.ext_getElem?
 intro i
 rw[List.getElem?_set]
 by_cases hi:i<n
 ·rw[Ji hi]
  by_cases e:k=i
  ·subst e;simp[hi,Ji hi]
  ·rw[if_neg e,Ji hi,if_neg (Ne.symm e)]
 ·rw[List.getElem?_eq_none (l:=KZ _ n) (by simp;omega)]
  split
  ·rename_i e;rw[if_neg (by simp;omega),List.getElem?_eq_none (by simp;omega)]
  ·rw[List.getElem?_eq_none (by simp;omega)]
theorem UQ {n:Nat}:List.replicate n (iv 0)=KZ (fun _=>0) n:=by
 apply List.ext_getElem?
 intro i
 by_cases hi:i<n
 ·rw[Ji hi];simp[hi]
 ·rw[List.getElem?_eq_none (by simp;omega),List.getElem?_eq_none (by simp;omega)]
theorem R3 {f g:Nat→Int} {n:Nat} (h:∀ q,q<n→f q=g q):KZ f n=KZ g n:=by
 unfold KZ
 exact List.map_congr_left fun q hq=>by rw[h q (by simpa using hq)]
theorem nP (l:List Int):l.map iv=KZ (fun q=>l.getD q 0) l.length:=by
 apply List.ext_getElem?
 intro i
 by_cases hi:i<l.length
 ·rw[Ji hi];simp[hi]
 ·rw[List.getElem?_eq_none (by simp;omega),List.getElem?_eq_none (by simp;omega)]
theorem YE {H:Hp} {o:Nm} {u n:Nat} {f:Nat→Int} (h:H o=⟨u,.arr 1 (KZ f n)⟩):Jw H (.osl o u 1 0 n) (.sl false (KZ f n)):=by
 have:=BQ (H:=H) (o:=o) (u:=u) (sz:=1) (l:=List.range n) (f:=fun q=>iv (f q)) (n:=n) (by rw[h];simp[KZ]) (by simp) (fun x=>rfl)
 exact this
theorem Oq (l:List Int):A.softL (l.map iv)=l.map iv:=by rw[Cu,List.map_map];rfl
theorem Ys (l:List Int) (n:Nat):A.softL ((l.map iv).take n)=(l.map iv).take n:=by rw[← List.map_take,Oq]
theorem Za (l:List Int) (n:Nat):A.softL ((l.map iv).drop n)=(l.map iv).drop n:=by rw[← List.map_drop,Oq]
theorem dD {f:Nat→Int} {n k:Nat} {lo hi:Bool} (hk:1≤k) (hk2:k+1<n) (hn:n≤100000000) (hf:∀ q,-1000000000≤f q∧f q≤1000000000):G.Spec Tryz.prog 219 [.sl false (KZ f n),iv k,bv lo,bv hi] (iv (if lo=true∧hi=true then 0 else if lo=true∨(hi=false∧f (k-1)<f (k+1)) then f (k+1) else f (k-1)+1)):=by
 have e1:IntKind.i64.wrap ((k:Int)-1)=((k-1:Nat):Int):=Av
 have e2:IntKind.i64.wrap ((k:Int)+1)=((k+1:Nat):Int):=Av
 have h1:=hf (k-1)
 have e3:IntKind.i64.wrap (f (k-1)+1)=f (k-1)+1:=Af (by omega) (by omega)
 have g1:(KZ f n)[k-1]? = some (iv (f (k-1))):=Ji (by omega)
 have g2:(KZ f n)[k+1]? = some (iv (f (k+1))):=Ji hk2
 have b1:k-1<n:=by omega
 have b2:(0:Int)≤(k:Int)+1:=by omega
 have b3:(k:Int)+1<n:=by omega
 refine Al av (by simp) fun w0 I0=>?_
 unfold SI
 cases lo<;>cases hi
 ·by_cases h:f (k-1)<f (k+1)
  ·simp[e1,e2,e3,g1,g2,h,b1,b2,b3,hk2]
   exact Ab rfl
  ·simp[e1,e2,e3,g1,g2,h,b1,b2,b3,hk2]
   exact Ca rfl
 ·simp[e1,e2,e3,g1,g2,b1,b2,b3,hk2]
  exact Ab rfl
 ·simp[e1,e2,e3,g1,g2,b1,b2,b3,hk2]
  exact Ab rfl
 ·simp
  exact Ab rfl
variable {n0:Nat} {w0:World} {I0:Nat→Prop} {Q:Exit→Sta→Prop}
theorem wG {a b:List Int} {i u:Nat} {x:Int} (hi:i<a.length) (hx:a[i]=x) (hb:b.length≤1000000):∀ (m j:Nat) (f:Nat→Int) (H:Hp),j+m=b.length→(∀ q,q≤b.length→f q=if q≤j then (AJ (a.take (i+1)) (b.take q):Nat) else (AJ (a.take i) (b.take q):Nat))→H [0]=⟨u,.arr 1 (KZ f (b.length+1))⟩ →
  (∀ (f':Nat→Int) (z:Int) (H':Hp) (st:List (Nat × A)),(∀ q,q≤b.length→f' q=(AJ (a.take (i+1)) (b.take q):Nat))→H' [0]=⟨u,.arr 1 (KZ f' (b.length+1))⟩→Q (.exit 2) ⟨lk ([(1,Fo b),(5,.osl [0] u 1 0 (b.length+1)),(7,iv x),(8,iv z),(16,Fo a),(17,iv a.length),(18,iv i)]++st),H'⟩) →
  LoopC (cx Tryz.prog w0 I0 n0) JI Q ⟨lk [(1,Fo b),(5,.osl [0] u 1 0 (b.length+1)),(7,iv x),(8,iv (AJ (a.take i) (b.take j):Nat)),(16,Fo a),(17,iv a.length),(18,iv i),(22,Fo b),(23,iv b.length),(24,iv j)],H⟩:=by
 intro m
 induction m with
 |zero=>
  intro j f H hm hf hH hq
  refine Ad Ak JI.eq_1 ?_
  have:j=b.length:=by omega
  subst this
  simp
  exact hq f _ H [(22,Fo b),(23,iv b.length),(24,iv b.length),(25,bv false)] (fun q hq=>by rw[hf q hq,if_pos hq]) hH
 |succ m ih=>
  intro j f H hm hf hH hq
  have hj:j<b.length:=by omega
  have e1:IntKind.i64.wrap ((j:Int)+1)=((j+1:Nat):Int):=Av
  have g1:(KZ f (b.length+1))[j]? = some (iv (f j)):=Ji (by omega)
  have g2:(KZ f (b.length+1))[j+1]? = some (iv (f (j+1))):=Ji (by omega)
  have f1:=hf j (by omega)
  have f2:=hf (j+1) (by omega)
  rw[if_pos (Cc _)] at f1
  rw[if_neg (by omega)] at f2
  have m0:(0:Int)≤(j:Int)+1:=by omega
  have m1:(j:Int)<(b.length:Int)+1:=by omega
  have ll:=Jk (a.take i) (b.take j)
  simp at ll
  have e2:IntKind.i64.wrap ((AJ (a.take i) (b.take j):Nat)+1)=((AJ (a.take i) (b.take j)+1:Nat):Int):=Av
  have tk:a.take (i+1)=a.take i++[x]:=by rw[Hj hi,hx]
  have tj:b.take (j+1)=b.take j++[b[j]]:=Hj hj
  have next:∀ (z:Int) (f':Nat→Int),z=(AJ (a.take (i+1)) (b.take (j+1)):Nat)→(∀ q,q ≠ j+1→f' q=f q)→f' (j+1)=z→LoopC (cx Tryz.prog w0 I0 n0) JI Q ⟨lk [(1,Fo b),(5,.osl [0] u 1 0 (b.length+1)),(7,iv x),(8,iv (AJ (a.take i) (b.take (j+1)):Nat)),(16,Fo a),(17,iv a.length),(18,iv i),(22,Fo b),(23,iv b.length),(24,iv (j+1:Nat))],AQ H [0] ⟨u,.arr 1 (KZ f' (b.length+1))⟩⟩:=fun z f' hz h1 h2=>by
   refine ih (j+1) f' _ (by omega) (fun q hq=>?_) (by simp[Aa]) hq
   by_cases e:q=j+1
   ·subst e;rw[if_pos (Cc _),h2,hz]
   ·rw[h1 q e,hf q hq]
    by_cases h3:q≤j
    ·rw[if_pos h3,if_pos (by omega)]
    ·rw[if_neg h3,if_neg (by omega)]
  refine Ad Ak JI.eq_1 ?_
  by_cases h:x=b[j]
  ·simp[hj,h,e1,g2,hH,m0,m1]
   rw[P9.eq_1]
   have hjb:j<b.length+1:=by omega
   simp[hj,h,e1,hjb,hH,m0,m1,Aa,e2]
   rw[f2,← h]
   have e:=Pp x (a.take i) (b.take j)
   have e':=aX x (a.take i) (b.take j)
   rw[← tk] at e e'
   rw[h,← tj] at e
   refine next _ _ rfl (fun q hq=>by simp[hq]) ?_
   simp
   rw[f1,e]
   omega
  ·simp[hj,h,e1,g2,hH,m0,m1]
   rw[P9.eq_1]
   have hjb:j<b.length+1:=by omega
   simp[hj,h,e1,hjb,hH,m0,m1]
   rw[f2]
   have e:=O8 h (a.take i) (b.take j)
   rw[← tj,← tk] at e
   refine next _ _ rfl (fun q hq=>by simp[hq]) ?_
   simp
   rw[f1,e]
   omega
theorem wh {a b:List Int} {u:Nat} (ha:a.length≤1000000) (hb:b.length≤1000000) (hq:∀ (f':Nat→Int) (H':Hp) (st:List (Nat × A)),(∀ q,q≤b.length→f' q=(AJ a (b.take q):Nat))→H' [0]=⟨u,.arr 1 (KZ f' (b.length+1))⟩→Q (.exit 0) ⟨lk ([(1,Fo b),(5,.osl [0] u 1 0 (b.length+1))]++st),H'⟩):∀ (m i:Nat) (f:Nat→Int) (H:Hp),i+m=a.length→(∀ q,q≤b.length→f q=(AJ (a.take i) (b.take q):Nat))→H [0]=⟨u,.arr 1 (KZ f (b.length+1))⟩ →
  LoopC (cx Tryz.prog w0 I0 n0) Mh Q ⟨lk [(1,Fo b),(5,.osl [0] u 1 0 (b.length+1)),(16,Fo a),(17,iv a.length),(18,iv i)],H⟩:=by
 intro m
 induction m with
 |zero=>
  intro i f H hm hf hH
  refine Ad Ak Mh.eq_1 ?_
  have:i=a.length:=by omega
  subst this
  simp
  exact hq f H [(16,Fo a),(17,iv a.length),(18,iv a.length),(19,bv false)] (fun q hq=>by rw[hf q hq,Bb (Cc _)]) hH
 |succ m ih=>
  intro i f H hm hf hH
  have hi:i<a.length:=by omega
  have e1:IntKind.i64.wrap ((i:Int)+1)=((i+1:Nat):Int):=Av
  refine Ad Ak Mh.eq_1 ?_
  simp[hi]
  refine LoopC.le (AA [(1,Fo b),(5,.osl [0] u 1 0 (b.length+1)),(7,iv a[i]),(8,iv (AJ (a.take i) (b.take 0):Nat)),(16,Fo a),(17,iv a.length),(18,iv i),(22,Fo b),(23,iv b.length),(24,iv (0:Nat))] (by simp)) ?_
  refine wG hi rfl hb b.length 0 f H (by omega) (fun q hq=>?_) hH fun f' z H' st h1 h2=>?_
  ·rw[hf q hq]
   by_cases h0:q≤0
   ·have:q=0:=by omega
    subst this;simp
   ·rw[if_neg h0]
  ·simp[e1]
   exact ih (i+1) f' H' (by omega) h1 h2
theorem kF {l:List Int} {u:Nat} (hl:l.length≤1000000) (hq:∀ (f':Nat→Int) (H':Hp) (st:List (Nat × A)),(∀ q,q<l.length→f' q=l.getD (l.length-1-q) 0)→H' [0]=⟨u,.arr 1 (KZ f' l.length)⟩→Q (.exit 0) ⟨lk ([(0,Fo l),(3,.osl [0] u 1 0 l.length)]++st),H'⟩):∀ (m i:Nat) (f:Nat→Int) (H:Hp),i+m=l.length→(∀ q,q<l.length→l.length≤q+i→f q=l.getD (l.length-1-q) 0)→H [0]=⟨u,.arr 1 (KZ f l.length)⟩ →
  LoopC (cx Tryz.prog w0 I0 n0) HR Q ⟨lk [(0,Fo l),(3,.osl [0] u 1 0 l.length),(9,Fo l),(10,iv l.length),(11,iv i)],H⟩:=by
 intro m
 induction m with
 |zero=>
  intro i f H hm hf hH
  refine Ad Ak HR.eq_1 ?_
  have:i=l.length:=by omega
  subst this
  simp
  exact hq f H [(9,Fo l),(10,iv l.length),(11,iv l.length),(12,bv false)] (fun q hq=>hf q hq (by omega)) hH
 |succ m ih=>
  intro i f H hm hf hH
  have hi:i<l.length:=by omega
  have e1:IntKind.i64.wrap ((i:Int)+1)=((i+1:Nat):Int):=Av
  have e2:IntKind.i64.wrap (IntKind.i64.wrap ((l.length:Int)-1)-i)=((l.length-1-i:Nat):Int):=by rw[Af (n:=(l.length:Int)-1) (by omega) (by omega),Af (by omega) (by omega)];omega
  have b1:l.length-1-i<l.length:=by omega
  refine Ad Ak HR.eq_1 ?_
  simp[hi,e1,e2,hH,b1]
  refine ih (i+1) _ _ (by omega) (fun q hq1 hq2=>?_) (by simp[Aa];rfl)
  by_cases e:q=l.length-1-i
  ·rw[if_pos e]
   have:l.length-1-q=i:=by omega
   rw[this]
   simp[List.getD_eq_getElem?_getD,hi]
  ·rw[if_neg e]
   exact hf q hq1 (by omega)
theorem UU {a b:List Int} (ha:a.length≤1000000) (hb:b.length≤1000000):G.Spec Tryz.prog 251 [Fo a,Fo b] (.sl false (KZ (fun q=>(AJ a (b.take q):Nat)) (b.length+1))):=by
 have e1:IntKind.i64.wrap ((b.length:Int)+1)=((b.length+1:Nat):Int):=Av
 refine Al kT (by simp) fun w0 I0=>?_
 unfold XA
 simp[e1]
 refine⟨by omega,?_⟩
 refine LoopC.le (AA [(1,Fo b),(5,.osl [0] 1 1 0 (b.length+1)),(16,Fo a),(17,iv a.length),(18,iv (0:Nat))] (by simp)) ?_
 refine wh ha hb (fun f' H' st h1 h2=>?_) a.length 0 (fun _=>0) _ (by omega) (fun q hq=>by simp) (by simp[UQ])
 simp
 rw[← R3 fun q hq=>h1 q (by omega)]
 exact YE h2
theorem Tx {l:List Int} (hl:l.length≤1000000):G.Spec Tryz.prog 252 [Fo l] (Fo l.reverse):=by
 refine Al Ye (by simp) fun w0 I0=>?_
 unfold Q9
 simp
 refine⟨by omega,?_⟩
 refine LoopC.le (AA [(0,Fo l),(3,.osl [0] 1 1 0 l.length),(9,Fo l),(10,iv l.length),(11,iv (0:Nat))] (by simp)) ?_
 refine kF hl (fun f' H' st h1 h2=>?_) l.length 0 (fun _=>0) _ (by omega) (fun q hq=>by omega) (by simp[UQ])
 simp
 have e:l.reverse.map iv=KZ f' l.length:=by
  rw[nP,List.length_reverse]
  refine R3 fun q hq=>?_
  rw[h1 q hq]
  simp[List.getD_eq_getElem?_getD,List.getElem?_reverse hq]
 have e':Fo l.reverse = .sl false (KZ f' l.length):=by rw[← e]
 rw[e']
 exact YE h2
theorem qI {n0:Nat} {w0:World} {I0:Nat→Prop} {Q:Exit→Sta→Prop} {a b:List Int} {half:Nat} (hh:half≤a.length) (hb:b.length≤1000000) {H:Hp} {f g:Nat→Int} (hf:∀ q,q≤b.length→f q=(Hi a b 0 half 0 q:Nat)) (hg:∀ q,q≤b.length→g (b.length-q)=(Hi a b half a.length q b.length:Nat))
  (hq:∀ st,Q (.exit 0) ⟨lk ([(1,Fo b),(7,.sl false (KZ f (b.length+1))),(8,.sl false (KZ g (b.length+1))),(9,iv (Cy a b half))]++st),H⟩):∀ (m i best:Nat),i+m=b.length+1→best≤b.length→(∀ q,q<best→Hi a b 0 half 0 q+Hi a b half a.length q b.length<Hi a b 0 half 0 best+Hi a b half a.length best b.length)→(∀ q,q<i→Hi a b 0 half 0 q+Hi a b half a.length q b.length≤Hi a b 0 half 0 best+Hi a b half a.length best b.length) →
  LoopC (cx Tryz.prog w0 I0 n0) Jq Q ⟨lk [(1,Fo b),(7,.sl false (KZ f (b.length+1))),(8,.sl false (KZ g (b.length+1))),(9,iv best),(24,iv (b.length+1:Nat)),(25,iv i)],H⟩:=by
 intro m
 induction m with
 |zero=>
  intro i best hm hbl h1 h2
  refine Ad Ak Jq.eq_1 ?_
  have:i=b.length+1:=by omega
  subst this
  have hw:Cy a b half=best:=by
   obtain⟨g1,g2,g3⟩:=IB (a:=a) (b:=b) hh
   have hle:=NX (a:=a) (b:=b) (i:=half) (j:=best) hh hbl
   have h3:=h2 (Cy a b half) (by omega)
   unfold RE at g1
   simp only[decide_eq_true_eq] at g1
   refine RV hh hbl (by unfold RE;simp only[decide_eq_true_eq];omega) fun j hj=>?_
   have:=h1 j hj
   unfold RE
   simp only[decide_eq_false_iff_not]
   omega
  simp
  rw[← hw]
  exact hq [(24,iv (b.length+1:Nat)),(25,iv (b.length+1:Nat)),(26,bv false)]
 |succ m ih=>
  intro i best hm hbl h1 h2
  have hi:i<b.length+1:=by omega
  have e1:IntKind.i64.wrap ((i:Int)+1)=((i+1:Nat):Int):=Av
  have e2:IntKind.i64.wrap ((b.length:Int)-i)=((b.length-i:Nat):Int):=Av
  have e3:IntKind.i64.wrap ((b.length:Int)-best)=((b.length-best:Nat):Int):=Av
  have fi:=hf i (by omega)
  have gi:=hg i (by omega)
  have fb:=hf best hbl
  have gb:=hg best hbl
  have l1:=Jk (sg a 0 half) (sg b 0 i)
  have l2:=Jk (sg a half a.length) (sg b i b.length)
  have l3:=Jk (sg a 0 half) (sg b 0 best)
  have l4:=Jk (sg a half a.length) (sg b best b.length)
  rw[KW _ _ _ hh,KW _ _ _ (by omega)] at l1
  rw[KW _ _ _ (by omega),KW _ _ _ (by omega)] at l2
  rw[KW _ _ _ hh,KW _ _ _ hbl] at l3
  rw[KW _ _ _ (by omega),KW _ _ _ (by omega)] at l4
  have e4:IntKind.i64.wrap (f i+g (b.length-i))=((Hi a b 0 half 0 i+Hi a b half a.length i b.length:Nat):Int):=by rw[fi,gi,Af (by unfold Hi;omega) (by unfold Hi;omega)];omega
  have e5:IntKind.i64.wrap (f best+g (b.length-best))=((Hi a b 0 half 0 best+Hi a b half a.length best b.length:Nat):Int):=by rw[fb,gb,Af (by unfold Hi;omega) (by unfold Hi;omega)];omega
  have b1:b.length-i<b.length+1:=by omega
  have b2:b.length-best<b.length+1:=by omega
  have b3:best<b.length+1:=by omega
  refine Ad Ak Jq.eq_1 ?_
  have c1:(i:Int)<(b.length:Int)+1:=by omega
  have c2:((b.length-i:Nat):Int)<(b.length:Int)+1:=by omega
  have c3:(best:Int)<(b.length:Int)+1:=by omega
  have c4:((b.length-best:Nat):Int)<(b.length:Int)+1:=by omega
  by_cases h:(Hi a b 0 half 0 best:Int)+(Hi a b half a.length best b.length:Int)<(Hi a b 0 half 0 i:Int)+(Hi a b half a.length i b.length:Int)
  ·simp[hi,e1,e2,e3,e4,e5,b1,b2,b3,h,c1,c2,c3,c4]
   refine ih (i+1) i (by omega) (by omega) (fun q hq=>?_) (fun q hq=>?_)
   ·have:=h2 q hq;omega
   ·by_cases e:q=i
    ·subst e;omega
    ·have:=h2 q (by omega);omega
  ·simp[hi,e1,e2,e3,e4,e5,b1,b2,b3,h,c1,c2,c3,c4]
   refine ih (i+1) best (by omega) hbl h1 (fun q hq=>?_)
   by_cases e:q=i
   ·subst e;omega
   ·exact h2 q (by omega)
theorem dw {a b:List Int} {half:Nat} (hh:half≤a.length) (ha:a.length≤1000000) (hb:b.length≤1000000):G.Spec Tryz.prog 222 [Fo a,Fo b,iv half] (iv (Cy a b half)):=by
 refine Al bg (by simp) fun w0 I0=>?_
 have s1:=UU (a:=a.take half) (b:=b) (by simp;omega) hb
 have s2:=Tx (l:=a.drop half) (by simp;omega)
 have s3:=Tx (l:=b) hb
 have s4:=UU (a:=(a.drop half).reverse) (b:=b.reverse) (by simp;omega) (by simpa using hb)
 rw[List.length_reverse] at s4
 unfold SZ
 simp[hh]
 refine Ae (s1.soft (by simp[A.softL,A.soft,Oq,Ys])) (by simp) ?_
 simp[hh]
 refine Ae (s2.soft (by simp[A.softL,A.soft,Oq,Za,Bb])) (by simp) ?_
 simp[hh]
 refine Ae s3 (by simp) ?_
 simp[hh]
 refine Ae s4 (by simp) ?_
 simp[hh]
 refine LoopC.le (AA [(1,Fo b),(7,.sl false (KZ (fun q=>(AJ (a.take half) (b.take q):Nat)) (b.length+1))),(8,.sl false (KZ (fun q=>(AJ (a.drop half).reverse (b.reverse.take q):Nat)) (b.length+1))),(9,iv (0:Nat)),(24,iv (b.length+1:Nat)),(25,iv (0:Nat))] (by simp)) ?_
 refine qI hh hb (fun q hq=>by simp[Hi,Yo]) (fun q hq=>?_) (fun st=>?_) (b.length+1) 0 0 (by omega) (by omega) (fun q hq=>by omega) (fun q hq=>by omega)
 ·have e:b.reverse.take (b.length-q)=(b.drop q).reverse:=by
   rw[List.take_reverse]
   congr 2
   omega
  show((AJ (a.drop half).reverse (b.reverse.take (b.length-q)):Nat):Int)=_
  rw[e,Kq]
  simp[Hi,mS]
 ·simp
  exact Ab rfl
theorem Ux {a b:List Int} {c d p x y:Nat} (h:Yy a b c d p x) (hy:x+c=y+p):x≤d+a.length∧y≤d+b.length:=by
 have h1:=h.may
 rw[show x+c-p=y by omega] at h1
 have h2:=Jk (a.take x) (b.take y)
 have h3:=Jx a b x y
 unfold Dq at h1
 simp at h2
 omega
theorem xN {a b:List Int} {M d p t:Nat} {f:Nat→Nat} (hd:d≤M) (ht:t≤d) (hp:p+d=M+1+2*t) (hold:∀ p s,s<d→p+d=M+1+1+2*s→Qe a b (M+1) (d-1) p (f p)):∃ x:Nat,(if decide (t=0)=true∧decide (t=d)=true then (0:Int) else if decide (t=0)=true∨(decide (t=d)=false∧((f (p-1):Nat):Int)<(f (p+1):Nat)) then ((f (p+1):Nat):Int) else ((f (p-1):Nat):Int)+1)=(x:Int)∧Yy a b (M+1) d p x:=by
 cases d with
 |zero=>
  have:t=0:=by omega
  subst this
  have:p=M+1:=by omega
  subst this
  exact⟨0,by simp,qu a b (M+1)⟩
 |succ d=>
  have hy:p+(d+1) ≠ M+1→Qe a b (M+1) d (p-1) (f (p-1)):=fun h=>hold (p-1) (t-1) (by omega) (by omega)
  have hz:p ≠ M+1+(d+1)→Qe a b (M+1) d (p+1) (f (p+1)):=fun h=>hold (p+1) t (by omega) (by omega)
  by_cases h0:t=0
  ·exact⟨f (p+1),by simp[h0],QQ (by omega) (by omega) (by omega) (by omega) hy hz (.inr ⟨by omega,rfl⟩) (fun h=>by omega) (fun h=>Cc _)⟩
  ·by_cases h1:t=d+1
   ·exact⟨f (p-1)+1,by simp[h1],QQ (by omega) (by omega) (by omega) (by omega) hy hz (.inl ⟨by omega,rfl⟩) (fun h=>Cc _) (fun h=>by omega)⟩
   ·by_cases h2:f (p-1)<f (p+1)
    ·exact⟨f (p+1),by simp[h0,h1,h2],QQ (by omega) (by omega) (by omega) (by omega) hy hz (.inr ⟨by omega,rfl⟩) (fun h=>by omega) (fun h=>Cc _)⟩
    ·exact⟨f (p-1)+1,by simp[h0,h1,h2],QQ (by omega) (by omega) (by omega) (by omega) hy hz (.inl ⟨by omega,rfl⟩) (fun h=>Cc _) (fun h=>by omega)⟩
theorem ta {a b:List Int} (ha:a.length≤1000000) (hb:b.length≤1000000) {c d p:Nat} {X:A} {M k:Int} {H:Hp}
  (hq:∀ (x y:Nat) st,Yy a b c d p x→Qe a b c d p x→x+c=y+p→Q (.exit 4) ⟨lk ([(0,Fo a),(1,Fo b),(2,iv M),(8,iv a.length),(9,iv b.length),(10,X),(11,iv d),(12,iv k),(13,iv x),(14,iv y)]++st),H⟩):∀ (m x y:Nat),a.length≤x+m→Yy a b c d p x→x+c=y+p →
  LoopC (cx Tryz.prog w0 I0 n0) F7 Q ⟨lk [(0,Fo a),(1,Fo b),(2,iv M),(8,iv a.length),(9,iv b.length),(10,X),(11,iv d),(12,iv k),(13,iv x),(14,iv y)],H⟩:=by
 intro m
 induction m with
 |zero=>
  intro x y hm hS hy
  refine Ad Ak F7.eq_1 ?_
  simp[show ¬ x<a.length by omega]
  exact hq x y [(99,bv false)] hS (T7 hS hy fun ⟨h1,_,_⟩=>by omega) hy
 |succ m ih=>
  intro x y hm hS hy
  refine Ad Ak F7.eq_1 ?_
  by_cases h1:x<a.length
  ·by_cases h2:y<b.length
   ·have e1:IntKind.i64.wrap ((x:Int)+1)=((x+1:Nat):Int):=Av
    have e2:IntKind.i64.wrap ((y:Int)+1)=((y+1:Nat):Int):=Av
    by_cases h3:a[x]=b[y]
    ·simp[h1,h2,h3,e1,e2]
     exact ih (x+1) (y+1) (by omega) (vV hS hy h1 h2 h3) (by omega)
    ·simp[h1,h2,h3]
     exact hq x y [(99,bv false)] hS (T7 hS hy fun ⟨_,_,h⟩=>h3 h) hy
   ·simp[h1,h2]
    exact hq x y [(99,bv false)] hS (T7 hS hy fun ⟨_,h,_⟩=>h2 h) hy
  ·simp[h1]
   exact hq x y [(99,bv false)] hS (T7 hS hy fun ⟨h,_,_⟩=>h1 h) hy
theorem tv {a b:List Int} (ha:a.length≤1000000) (hb:b.length≤1000000) {M d u:Nat} (hM:M≤a.length+b.length) (hd:d≤M) (hdd:d≤CB a b)
  (hq:∀ (f:Nat→Nat) (H:Hp) st,(∀ q,f q≤10000000)→(∀ p s,s≤d→p+d=M+1+2*s→Qe a b (M+1) d p (f p))→d<CB a b→H [0]=⟨u,.arr 1 (KZ (fun q=>(f q:Nat)) (2*M+3))⟩→Q (.exit 2) ⟨lk ([(0,Fo a),(1,Fo b),(2,iv M),(8,iv a.length),(9,iv b.length),(10,.osl [0] u 1 0 (2*M+3)),(11,iv d)]++st),H⟩)
  (hq2:∀ H,d=CB a b→Q .ret ⟨lk [(6,iv d),(7,bv true)],H⟩):∀ (m t:Nat) (f:Nat→Nat) (H:Hp),t+m=d+1→(∀ q,f q≤10000000) →
  (∀ p s,s<d→p+d=M+1+1+2*s→Qe a b (M+1) (d-1) p (f p))→(∀ p s,s<t→p+d=M+1+2*s→Qe a b (M+1) d p (f p)∧¬ (a.length≤f p∧b.length+p≤f p+(M+1)))→H [0]=⟨u,.arr 1 (KZ (fun q=>(f q:Nat)) (2*M+3))⟩ →
  LoopC (cx Tryz.prog w0 I0 n0) F9 Q ⟨lk [(0,Fo a),(1,Fo b),(2,iv M),(8,iv a.length),(9,iv b.length),(10,.osl [0] u 1 0 (2*M+3)),(11,iv d),(12,iv (2*(t:Int)-d))],H⟩:=by
 intro m
 induction m with
 |zero=>
  intro t f H hm hb0 hold hnew hH
  have:t=d+1:=by omega
  subst this
  refine Ad Ak F9.eq_1 ?_
  have hk:¬ (2*((d+1:Nat):Int)-d≤d):=by omega
  simp only[Int.natCast_add,Int.cast_ofNat_Int] at hk
  simp[hk]
  refine hq f H _ hb0 (fun p s hs hp=>(hnew p s (by omega) hp).1) ?_ hH
  by_cases h:d<CB a b
  ·exact h
  ·exfalso
   have hdg:=XC a b
   have he:CB a b=d:=by omega
   rw[he] at hdg
   obtain⟨p,hp⟩:∃ p,a.length+(M+1)=b.length+p:=⟨a.length+(M+1)-b.length,by omega⟩
   obtain⟨s,hs⟩:∃ s,a.length+d=b.length+2*s:=⟨(a.length+d-b.length) / 2,by omega⟩
   obtain⟨g1,g2⟩:=hnew p s (by omega) (by omega)
   have g3:=g1.on
   have:=jE (y:=f p+(M+1)-p) g1 (by omega) hp (by omega)
   exact g2 ⟨this.1,by omega⟩
 |succ m ih=>
  intro t f H hm hb0 hold hnew hH
  have ht:t≤d:=by omega
  obtain⟨p,hp⟩:∃ p,p+d=M+1+2*t:=⟨M+1+2*t-d,by omega⟩
  have hk:(2*(t:Int)-d≤d):=by omega
  have e0:IntKind.i64.wrap ((M:Int)+1)=(M:Int)+1:=Af (by omega) (by omega)
  have e1:IntKind.i64.wrap ((M:Int)+1+(2*(t:Int)-d))=(p:Int):=Av
  have e2:IntKind.i64.wrap (2*(t:Int)-d+2)=2*((t+1:Nat):Int)-d:=Av
  have e3:IntKind.i64.wrap (-(d:Int)) = -(d:Int):=Af (by omega) (by omega)
  have lo:decide (2*(t:Int)-d = -(d:Int))=decide (t=0):=by by_cases h:t=0<;>simp[h]<;>omega
  have hi:decide (2*(t:Int)-d=(d:Int))=decide (t=d):=by by_cases h:t=d<;>simp[h]<;>omega
  have hR:=dD (f:=fun q=>(f q:Nat)) (n:=2*M+3) (k:=p) (lo:=decide (t=0)) (hi:=decide (t=d)) (by omega) (by omega) (by omega) (fun q=>by have:=hb0 q;omega)
  -- the step's place
  obtain⟨x,hx,hS⟩:=xN hd ht hp hold
  rw[hx] at hR
  have hon:=hS.on
  obtain⟨y,hy⟩:∃ y,x+(M+1)=y+p:=⟨x+(M+1)-p,by omega⟩
  have hbd:=Ux hS hy
  have e4:IntKind.i64.wrap ((x:Int)-(2*(t:Int)-d))=(y:Int):=Av
  refine Ad Ak F9.eq_1 ?_
  simp[hk,e0,e1,e3,lo,hi]
  refine LG [.sl false (KZ (fun q=>(f q:Nat)) (2*M+3)),iv p,bv (decide (t=0)),bv (decide (t=d))] (hR.toB rfl) (by simp;exact⟨YE hH,Ab rfl,Ab rfl,Ab rfl⟩) (by simp) ?_
  simp[e4]
  refine LoopC.le (AA [(0,Fo a),(1,Fo b),(2,iv M),(8,iv a.length),(9,iv b.length),(10,.osl [0] u 1 0 (2*M+3)),(11,iv d),(12,iv (2*(t:Int)-d)),(13,iv x),(14,iv y)] (by simp)) ?_
  refine ta ha hb (c:=M+1) (p:=p) (fun x y st hS hG hy=>?_) a.length x y (by omega) hS hy
  have hbd:=Ux hS hy
  have hpl:p<2*M+3:=by omega
  have hpl':(p:Int)<2*(M:Int)+3:=by omega
  by_cases hdone:a.length≤x∧b.length≤y
  ·have he:=pf hG hy hdone.1 hdone.2
   simp[hk,e0,e1,e3,lo,hi,hH,hpl,hpl',hdone.1,hdone.2]
   exact hq2 _ (by omega)
  ·simp[hk,e0,e1,e2,hH,hpl,hpl']
   refine⟨fun h1 h2=>absurd ⟨h1,h2⟩ hdone,fun _=>?_⟩
   refine ih (t+1) (fun q=>if q=p then x else f q) _ (by omega) (fun q=>?_) (fun p' s hs hp'=>?_) (fun p' s hs hp'=>?_) ?_
   ·show(if q=p then x else f q)≤_
    split
    ·omega
    ·exact hb0 q
   ·show Qe a b (M+1) (d-1) p' (if p'=p then x else f p')
    rw[if_neg (by omega)]
    exact hold p' s hs hp'
   ·show Qe a b (M+1) d p' (if p'=p then x else f p')∧¬ (a.length≤(if p'=p then x else f p')∧b.length+p'≤(if p'=p then x else f p')+(M+1))
    by_cases e:s=t
    ·have:p'=p:=by omega
     subst this
     rw[if_pos rfl]
     exact⟨hG,fun h=>hdone ⟨h.1,by omega⟩⟩
    ·rw[if_neg (by omega)]
     exact hnew p' s (by omega) hp'
   ·simp only[Aa,if_true]
    congr 2
    refine R3 fun q _=>?_
    split<;>rfl
theorem sE {a b:List Int} (ha:a.length≤1000000) (hb:b.length≤1000000) {M u:Nat} (hM:M≤a.length+b.length)
  (hq:∀ H st,M<CB a b→Q (.exit 0) ⟨lk st,H⟩) (hq2:∀ H,CB a b≤M→Q .ret ⟨lk [(6,iv (CB a b)),(7,bv true)],H⟩):∀ (m d:Nat) (f:Nat→Nat) (H:Hp),d+m=M+1→(∀ q,f q≤10000000)→d≤CB a b →
  (∀ p s,s<d→p+d=M+1+1+2*s→Qe a b (M+1) (d-1) p (f p))→H [0]=⟨u,.arr 1 (KZ (fun q=>(f q:Nat)) (2*M+3))⟩ →
  LoopC (cx Tryz.prog w0 I0 n0) Gb Q ⟨lk [(0,Fo a),(1,Fo b),(2,iv M),(8,iv a.length),(9,iv b.length),(10,.osl [0] u 1 0 (2*M+3)),(11,iv d)],H⟩:=by
 intro m
 induction m with
 |zero=>
  intro d f H hm hb0 hdd hold hH
  have:d=M+1:=by omega
  subst this
  refine Ad Ak Gb.eq_1 ?_
  have hk:¬ (((M+1:Nat):Int)≤M):=by omega
  simp only[Int.natCast_add,Int.cast_ofNat_Int] at hk
  simp[hk]
  exact hq H _ (by omega)
 |succ m ih=>
  intro d f H hm hb0 hdd hold hH
  have e1:IntKind.i64.wrap ((d:Int)+1)=((d+1:Nat):Int):=Av
  have e3:IntKind.i64.wrap (-(d:Int)) = -(d:Int):=Af (by omega) (by omega)
  have hd:d≤M:=by omega
  refine Ad Ak Gb.eq_1 ?_
  simp[hd,e3]
  refine LoopC.le (AA [(0,Fo a),(1,Fo b),(2,iv M),(8,iv a.length),(9,iv b.length),(10,.osl [0] u 1 0 (2*M+3)),(11,iv d),(12,iv (2*((0:Nat):Int)-d))] (by simp)) ?_
  refine tv ha hb hM hd hdd (fun f' H' st g1 g2 g3 g4=>?_) (fun H' he=>?_) (d+1) 0 f H (by omega) hb0 hold (fun p s hs=>by omega) hH
  ·simp[e1]
   refine ih (d+1) f' H' (by omega) g1 (by omega) (fun p s hs hp=>?_) g4
   exact g2 p s (by omega) (by omega)
  ·simp
   have:=hq2 H' (by omega)
   rw[← he] at this
   exact this
theorem kS {a b:List Int} (ha:a.length≤1000000) (hb:b.length≤1000000) {M0:Int} (hM0:Lm M0):∃ d:Int,G.Spec Tryz.prog 175 [Fo a,Fo b,iv M0] (.tup [iv d,bv (decide ((CB a b:Int)≤M0))]):=by
 refine⟨if (CB a b:Int)≤M0 then CB a b else 0,?_⟩
 refine Al Vg (by simp) fun w0 I0=>?_
 have hdg:=XC a b
 have hdl:CB a b≤a.length+b.length:=by unfold CB;omega
 have e1:IntKind.i64.wrap ((a.length:Int)+b.length)=((a.length+b.length:Nat):Int):=Av
 have e2:IntKind.i64.wrap ((a.length:Int)-b.length)=(a.length:Int)-b.length:=Af (by omega) (by omega)
 have e3:IntKind.i64.wrap ((b.length:Int)-a.length)=(b.length:Int)-a.length:=Af (by omega) (by omega)
 obtain⟨M1,hM1⟩:∃ M1:Int,min (max M0 (-1)) ((a.length:Int)+b.length)=M1:=⟨_,rfl⟩
 have hle:((CB a b:Int)≤M0) ↔ ((CB a b:Int)≤M1):=by omega
 have hMb:M1≤(a.length:Int)+b.length:=by omega
 unfold Ng
 simp[e1,e2,e3,hM1]
 refine⟨fun h=>?_,fun h1 h2 h3=>?_⟩
 ·have hno:¬ (CB a b:Int)≤M0:=by omega
  simp[hno]
  exact Ab rfl
 ·obtain⟨M,rfl⟩:∃ M:Nat,M1=M:=⟨M1.toNat,by omega⟩
  have e4:IntKind.i64.wrap (2*(M:Int))=2*(M:Int):=Af (by omega) (by omega)
  have e5:IntKind.i64.wrap (2*(M:Int)+3)=((2*M+3:Nat):Int):=Av
  have e6:(2*(M:Int)+3).toNat=2*M+3:=by omega
  rw[e4,e5]
  refine⟨by omega,?_⟩
  refine LoopC.le (AA [(0,Fo a),(1,Fo b),(2,iv M),(8,iv a.length),(9,iv b.length),(10,.osl [0] 1 1 0 (2*M+3)),(11,iv (0:Nat))] (by simp[e6])) ?_
  refine sE ha hb (by omega) (fun H st h=>?_) (fun H h=>?_) (M+1) 0 (fun _=>0) _ (by omega) (fun q=>by omega) (by omega) (fun p s hs=>by omega) (by simp[UQ,e6])
  ·have hno:¬ (CB a b:Int)≤M0:=by omega
   simp[hno]
   exact Ab rfl
  ·have hyes:(CB a b:Int)≤M0:=by omega
   simp[hyes]
   exact Ab rfl
def RC (s:Sp):List A:=[iv s.k,iv s.n]
def Jz (s:Sp):A:=.agg (RC s)
@[simp] theorem z7 {s:Sp}:(Jz s).cells=RC s:=rfl
@[simp] theorem AgM {s:Sp}:(RC s).length=2:=rfl
theorem ib {l:List Sp}:DS 2 (l.map Jz)=true:=by rw[Ip];simp
def uj (l:List Sp) (v:Nat):Fam:=⟨fun r p=>if p=[] then ⟨1,.cells [.osl (r::[0]) v 2 0 l.length]⟩ else if p=[0] then ⟨v,.arr 2 (l.map Jz)⟩ else ⟨0,.none⟩,fun {g δ r r'} hg hd p=>by
  by_cases h1:p=[]
  ·rw[if_pos h1,if_pos h1]
   refine Fam.cells_ren ?_
   simp[A.renL,A.ren,hg,hd]
  ·rw[if_neg h1,if_neg h1]
   by_cases h2:p=[0]
   ·rw[if_pos h2]
    refine Fam.arr_ren ?_
    have e:∀ x:Sp,(Jz x).ren g δ=Jz x:=fun x=>by simp[Jz,RC,A.ren,A.renL]
    simp only[Cm,List.map_map]
    refine List.map_congr_left fun x _=>?_
    exact e x
   ·rw[if_neg h2];rfl,fun {D r} hD p=>by
  by_cases h1:p=[]
  ·rw[if_pos h1]
   simp[Ob.refs,A.refsL,A.refs,hD]
  ·rw[if_neg h1]
   by_cases h2:p=[0]
   ·rw[if_pos h2]
    simp only[Ob.refs,refsL_iff]
    intro y hy
    obtain⟨x,_,rfl⟩:=List.mem_map.1 hy
    simp[A.refs,A.refsL,Jz,RC]
   ·rw[if_neg h2];trivial⟩
@[simp] theorem Ain {l:List Sp} {v r:Nat} {p:Nm}:(uj l v).F r p=if p=[] then ⟨1,.cells [.osl (r::[0]) v 2 0 l.length]⟩ else if p=[0] then ⟨v,.arr 2 (l.map Jz)⟩ else ⟨0,.none⟩:=rfl
abbrev fdP (r:Nat):A:=.pob [r] 1 0
theorem G8 (l:List Sp) (v:Nat) (hl:l.length≤100000000) (k n:Nat):Bg Tryz.prog 220 (fun r=>[fdP r,iv k,iv n]) (uj l v) (fun _=>.tup []) (uj (l++fl k n) (v+(fl k n).length)):=by
 refine AH Sb (by simp) (Ah AG (Ah Ax (Ah Ax Am))) (Bu Am) fun w0 I0 M0 m0=>?_
 unfold LA
 by_cases h:0<n
 ·rw[Vm h]
  simp[h,ib,Aa]
  refine⟨by omega,?_⟩
  refine AO rfl rfl (fun p=>?_)
  by_cases h1:p=[]<;>by_cases h2:p=[0]<;>simp[h1,h2,Aa,Jz,RC]
  rw[Bb (by simp)]
 ·have h0:n=0:=by omega
  subst h0
  simp
  refine AO rfl rfl (fun p=>by simp)
def PJ (x:Int) (b:List Int):List Sp:=if Fm x b<b.length then fl 2 (Fm x b)++(fl 0 1++fl 2 (b.length-Fm x b-1)) else fl 1 1++fl 2 b.length
theorem db (x:Int) (b:List Int):A6 (PJ x b)=Hk [x] b:=by
 rw[pP]
 unfold PJ
 split<;>simp
theorem IC (k n:Nat):(fl k n).length≤1:=by unfold fl;split<;>simp
theorem p9 (x:Int) (b:List Int):(PJ x b).length≤3:=by
 unfold PJ
 have:=IC 2 (Fm x b)
 have:=IC 0 1
 have:=IC 1 1
 have:=IC 2 (b.length-Fm x b-1)
 have:=IC 2 b.length
 split<;>simp<;>omega
theorem sC {x:Int} {b:List Int} (hb:b.length≤1000000):∀ s,s ∈ PJ x b→s.ok:=by
 intro s hs
 have:=TS x b
 unfold PJ at hs
 split at hs<;>simp only[List.mem_append] at hs
 ·rcases hs with hs | hs | hs
  ·exact Uh (by omega) (by omega) s hs
  ·exact Uh (by omega) (by omega) s hs
  ·exact Uh (by omega) (by omega) s hs
 ·rcases hs with hs | hs
  ·exact Uh (by omega) (by omega) s hs
  ·exact Uh (by omega) (by omega) s hs
theorem au {x:Int}:∀ {b:List Int} {j:Nat},j≤Fm x b→(h:j<b.length)→(b[j]=x ↔ Fm x b=j)
 |[],j,_,h=>by simp at h
 |y::b,0,_,h=>by
  unfold Fm
  by_cases e:x=y
  ·simp[e]
  ·simp[e];exact fun h=>e h.symm
 |y::b,j+1,hj,h=>by
  unfold Fm at hj ⊢
  by_cases e:x=y
  ·rw[if_pos e] at hj;omega
  ·rw[if_neg e] at hj ⊢
   have:=au (x:=x) (b:=b) (j:=j) (by omega) (by simpa using h)
   simp only[List.getElem_cons_succ]
   omega
section
variable {n0:Nat} {w0:World} {I0:Nat→Prop} {M0:Nm→Nat→Prop} {m0:Mu} {Q:Exit→Sta→Prop}
theorem yh {l:List Sp} {v:Nat} {x:Int} {b:List Int} {H:Hp} (hl:l.length≤10000000) (hb:b.length≤1000000) (hH:∀ p,H (0::p)=(uj l v).F 0 p)
  (hq:Fm x b=b.length→∀ st,Q (.exit 0) ⟨lk ([(0,fdP 0),(1,iv x),(2,Fo b)]++st),H⟩)
  (hq2:∀ H',Fm x b<b.length→(∀ p,H' (0::p)=(uj (l++PJ x b) (v+(PJ x b).length)).F 0 p)→∀ st,Q .ret ⟨lk st,H'⟩):∀ (m j:Nat),j+m=b.length→j≤Fm x b →
  LoopC (Ds Tryz.prog w0 I0 M0 n0 m0) EN Q ⟨lk [(0,fdP 0),(1,iv x),(2,Fo b),(8,Fo b),(9,iv b.length),(10,iv j)],H⟩:=by
 have hle:=TS x b
 intro m
 induction m with
 |zero=>
  intro j hm hj
  refine Ad Ak EN.eq_1 ?_
  have:j=b.length:=by omega
  subst this
  simp
  exact hq (by omega) [(8,Fo b),(9,iv b.length),(10,iv b.length),(11,bv false)]
 |succ m ih=>
  intro j hm hj
  have hlt:j<b.length:=by omega
  have e1:IntKind.i64.wrap ((j:Int)+1)=((j+1:Nat):Int):=Av
  have hd:=au hj hlt
  refine Ad Ak EN.eq_1 ?_
  by_cases h:x=b[j]
  ·have hf:=hd.1 h.symm
   have e2:IntKind.i64.wrap (IntKind.i64.wrap ((b.length:Int)-j)-1)=((b.length-j-1:Nat):Int):=by rw[Af (n:=(b.length:Int)-j) (by omega) (by omega),Af (by omega) (by omega)];omega
   have A1:=G8 l v (by omega) 2 j
   have l1:=IC 2 j
   have l2:=IC 0 1
   have A2:=G8 (l++fl 2 j) (v+(fl 2 j).length) (by simp;omega) 0 1
   have A3:=G8 (l++fl 2 j++fl 0 1) (v+(fl 2 j).length+(fl 0 1).length) (by simp;omega) 2 (b.length-j-1)
   simp[hlt,h]
   refine AB 0 A1 hH (by simp) (by simp) ?_
   simp
   refine AB 0 A2 (fun p=>by simp) (by simp) (by simp) ?_
   simp[e2]
   refine AB 0 A3 (fun p=>by simp) (by simp) (by simp) ?_
   simp
   refine hq2 _ (by omega) (fun p=>?_) _
   have eo:PJ x b=fl 2 j++(fl 0 1++fl 2 (b.length-j-1)):=by unfold PJ;rw[if_pos (by omega),hf]
   rw[eo]
   simp[Nat.add_assoc]
  ·have hne:¬ Fm x b=j:=fun e=>h (hd.2 e).symm
   simp[hlt,h,e1]
   exact ih (j+1) (by omega) (by omega)
end
theorem nT (l:List Sp) (v:Nat) (hl:l.length≤10000000) (x:Int) (b:List Int) (hb:b.length≤1000000):Bg Tryz.prog 221 (fun r=>[fdP r,iv x,Fo b]) (uj l v) (fun _=>.tup []) (uj (l++PJ x b) (v+(PJ x b).length)):=by
 refine AH R1 (by simp) (Ah AG (Ah Ax (Ah Dw Am))) (Bu Am) fun w0 I0 M0 m0=>?_
 unfold Lj
 simp
 refine LoopC.le (AA [(0,fdP 0),(1,iv x),(2,Fo b),(8,Fo b),(9,iv b.length),(10,iv (0:Nat))] (by simp)) ?_
 refine yh (l:=l) (v:=v) hl hb (fun p=>by simp) (fun hn st=>?_) (fun H' hf hH st=>?_) b.length 0 (by omega) (by omega)
 ·have A1:=G8 l v (by omega) 1 1
  have l1:=IC 1 1
  have A2:=G8 (l++fl 1 1) (v+(fl 1 1).length) (by simp;omega) 2 b.length
  simp
  refine AB 0 A1 (fun p=>by simp) (by simp) (by simp) ?_
  simp
  refine AB 0 A2 (fun p=>by simp) (by simp) (by simp) ?_
  simp
  have eo:PJ x b=fl 1 1++fl 2 b.length:=by unfold PJ;rw[if_neg (by omega)]
  rw[eo]
  refine AO rfl rfl (fun p=>by simp[Nat.add_assoc])
 ·simp
  exact AZ rfl rfl hH
theorem ju {P:Sp→Prop} {l m:List Sp} (h1:∀ s,s ∈ l→P s) (h2:∀ s,s ∈ m→P s):∀ s,s ∈ l++m→P s:=fun s hs=>(List.mem_append.1 hs).elim (h1 s) (h2 s)
theorem qw:∀ (n:Nat) (a b:List Int),a.length≤n→a.length≤1000000→b.length≤1000000→∃ sts:List Sp,A6 sts=Hk a b∧(∀ s,s ∈ sts→s.ok)∧sts.length≤max 1 (3*a.length) ∧
  ∀ (l:List Sp) (v:Nat),l.length+3*a.length≤9000000→Bg Tryz.prog 176 (fun r=>[fdP r,Fo a,Fo b]) (uj l v) (fun _=>.tup []) (uj (l++sts) (v+sts.length)):=by
 intro n
 induction n with
 |zero=>
  intro a b hn ha hb
  have:=List.eq_nil_of_length_eq_zero (by omega:a.length=0)
  subst this
  refine⟨fl 2 b.length,by rw[pj];simp,Uh (by omega) (by omega),by have:=IC 2 b.length;simp;omega,fun l v hl=>?_⟩
  have A1:=G8 l v (by simp at hl;omega) 1 0
  have A2:=G8 (l++fl 1 0) (v+(fl 1 0).length) (by simp at hl;simp;omega) 2 b.length
  refine AH EI (by simp) (Ah AG (Ah Dw (Ah Dw Am))) (Bu Am) fun w0 I0 M0 m0=>?_
  unfold Dz
  simp
  refine AB 0 A1 (fun p=>by simp) (by simp) (by simp) ?_
  simp
  refine AB 0 A2 (fun p=>by simp) (by simp) (by simp) ?_
  simp
  refine AO rfl rfl (fun p=>by simp)
 |succ n ih=>
  intro a b hn ha hb
  by_cases hb0:b=[]
  ·subst hb0
   refine⟨fl 1 a.length,by rw[kM];simp,Uh (by omega) (by omega),by have:=IC 1 a.length;omega,fun l v hl=>?_⟩
   have:=IC 1 a.length
   have A1:=G8 l v (by omega) 1 a.length
   have A2:=G8 (l++fl 1 a.length) (v+(fl 1 a.length).length) (by simp;omega) 2 0
   refine AH EI (by simp) (Ah AG (Ah Dw (Ah Dw Am))) (Bu Am) fun w0 I0 M0 m0=>?_
   unfold Dz
   simp
   refine AB 0 A1 (fun p=>by simp) (by simp) (by simp) ?_
   simp
   refine AB 0 A2 (fun p=>by simp) (by simp) (by simp) ?_
   simp
   refine AO rfl rfl (fun p=>by simp)
  have hbl:0<b.length:=List.length_pos_iff.2 hb0
  match a,hn,ha with
  |[],hn,ha=>
   obtain⟨sts,h⟩:=ih [] b (by simp) ha hb
   exact⟨sts,h⟩
  |[x],hn,ha=>
   refine⟨PJ x b,db x b,sC hb,by have:=p9 x b;simp;omega,fun l v hl=>?_⟩
   have A1:=nT l v (by simp at hl;omega) x b hb
   refine AH EI (by simp) (Ah AG (Ah Dw (Ah Dw Am))) (Bu Am) fun w0 I0 M0 m0=>?_
   unfold Dz
   simp[hb0]
   refine AB 0 A1 (fun p=>by simp) (by simp) (by simp) ?_
   simp
   refine AO rfl rfl (fun p=>by simp)
  |x::y::a',hn,ha=>
   have e0:∃ a:List Int,a=x::y::a':=⟨_,rfl⟩
   obtain⟨a,ea⟩:=e0
   rw[← ea] at hn ha ⊢
   have hal:2≤a.length:=by rw[ea];simp
   clear ea
   obtain⟨h,eh⟩:∃ h,a.length / 2=h:=⟨_,rfl⟩
   have hh:h≤a.length:=by omega
   obtain⟨w1,w2,w3⟩:=IB (a:=a) (b:=b) hh
   obtain⟨s1,u1,o1,n1,F1⟩:=ih (a.take h) (b.take (Cy a b h)) (by simp;omega) (by simp;omega) (by simp;omega)
   obtain⟨s2,u2,o2,n2,F2⟩:=ih (a.drop h) (b.drop (Cy a b h)) (by simp;omega) (by simp;omega) (by simp;omega)
   simp at n1 n2
   refine⟨s1++s2,by rw[RL,u1,u2,← j5 a b hh],ju o1 o2,by simp;omega,fun l v hl=>?_⟩
   have G1:=F1 l v (by simp;omega)
   have G2:=F2 (l++s1) (v+s1.length) (by simp;omega)
   have hS:=dw (a:=a) (b:=b) hh ha hb
   refine AH EI (by simp) (Ah AG (Ah Dw (Ah Dw Am))) (Bu Am) fun w0 I0 M0 m0=>?_
   have c1:¬ a=[]:=fun e=>by rw[e] at hal;simp at hal
   have c2:¬ a.length=1:=by omega
   have c3:¬ (a.length:Int)=1:=by omega
   have c4:((a.length:Int)).tdiv 2=(h:Int):=by rw[Int.tdiv_eq_ediv_of_nonneg (by omega)];omega
   have c5:IntKind.i64.wrap (h:Int)=(h:Int):=Af (by omega) (by omega)
   unfold Dz
   simp[hb0,c1,c2,c3,c4,c5]
   refine Ae hS (by simp) ?_
   simp[hh,w2]
   refine AB 0 G1 (fun p=>by simp) (by simp) (by simp) ?_
   simp[hh,w2]
   refine AB 0 G2 (fun p=>by simp) (by simp[Bb]) (by simp) ?_
   simp
   refine AO rfl rfl (fun p=>by simp[Nat.add_assoc])
def fm (g:Nat→Nat):List A:=[iv (g 0),iv (g 1),iv (g 2)]
def vz (l:List Sp) (v:Nat) (g:Nat→Nat):Fam:=⟨fun r p=>if p=[] then ⟨1,.cells [.osl (r::[0]) v 2 0 l.length]⟩ else if p=[0] then ⟨v,.arr 2 (l.map Jz)⟩ else if p=[1] then ⟨1,.cells (fm g)⟩ else ⟨0,.none⟩,fun {γ δ r r'} hg hd p=>by
  by_cases h1:p=[]
  ·rw[if_pos h1,if_pos h1]
   refine Fam.cells_ren ?_
   simp[A.renL,A.ren,hg,hd]
  ·rw[if_neg h1,if_neg h1]
   by_cases h2:p=[0]
   ·rw[if_pos h2]
    refine Fam.arr_ren ?_
    have e:∀ x:Sp,(Jz x).ren γ δ=Jz x:=fun x=>by simp[Jz,RC,A.ren,A.renL]
    simp only[Cm,List.map_map]
    refine List.map_congr_left fun x _=>?_
    exact e x
   ·rw[if_neg h2]
    by_cases h3:p=[1]
    ·rw[if_pos h3]
     refine Fam.cells_ren ?_
     simp[A.renL,A.ren,fm]
    ·rw[if_neg h3];rfl,fun {D r} hD p=>by
  by_cases h1:p=[]
  ·rw[if_pos h1]
   simp[Ob.refs,A.refsL,A.refs,hD]
  ·rw[if_neg h1]
   by_cases h2:p=[0]
   ·rw[if_pos h2]
    simp only[Ob.refs,refsL_iff]
    intro y hy
    obtain⟨x,_,rfl⟩:=List.mem_map.1 hy
    simp[A.refs,A.refsL,Jz,RC]
   ·rw[if_neg h2]
    by_cases h3:p=[1]
    ·rw[if_pos h3]
     simp[Ob.refs,A.refsL,A.refs,fm]
    ·rw[if_neg h3];trivial⟩
@[simp] theorem Aio {l:List Sp} {v r:Nat} {g:Nat→Nat} {p:Nm}:(vz l v g).F r p=if p=[] then ⟨1,.cells [.osl (r::[0]) v 2 0 l.length]⟩ else if p=[0] then ⟨v,.arr 2 (l.map Jz)⟩ else if p=[1] then ⟨1,.cells (fm g)⟩ else ⟨0,.none⟩:=rfl
def Tu:List Nat→(Nat→Nat)→List Sp
 |[],_=>[]
 |k::ks,g=>fl k (g k)++Tu ks (fun q=>if q=k then 0 else g q)
def Q6:List Nat→(Nat→Nat)→Nat→Nat
 |[],g=>g
 |k::ks,g=>Q6 ks (fun q=>if q=k then 0 else g q)
abbrev nvs (ks:List Nat):A:=.sl true (ks.map fun k:Nat=>iv (k:Int))
theorem eV (s:Sp):G.Spec Tryz.prog 178 [Jz s] (bv (decide (s.k≤2∧1≤s.n∧s.n≤1048576))):=by
 refine Al OJ (by simp) fun w0 I0=>?_
 unfold I6
 have m0:(0:Int)≤(s.k:Int):=by omega
 by_cases h1:s.k≤2
 ·by_cases h2:1≤s.n
  ·by_cases h3:s.n≤1048576
   ·simp[Jz,RC,m0,h1,h2,h3,show(s.k:Int)≤2 by omega,show(1:Int)≤s.n by omega,show(s.n:Int)≤1048576 by omega]
    exact Ab rfl
   ·simp[Jz,RC,m0,h1,h2,h3,show(s.k:Int)≤2 by omega,show(1:Int)≤s.n by omega,show ¬ (s.n:Int)≤1048576 by omega]
    exact Ab rfl
  ·simp[Jz,RC,m0,h1,h2,show(s.k:Int)≤2 by omega,show ¬ (1:Int)≤s.n by omega]
   exact Bl (by simp)
 ·simp[Jz,RC,m0,h1,show ¬ (s.k:Int)≤2 by omega]
  exact Ab rfl
section
variable {n0:Nat} {w0:World} {I0:Nat→Prop} {M0:Nm→Nat→Prop} {m0:Mu} {Q:Exit→Sta→Prop}
theorem qG {ks:List Nat} (hks:∀ k,k ∈ ks→k≤2) (hkl:ks.length≤1000) {l0:List Sp} {v0:Nat} {g0:Nat→Nat} (hq:∀ H' st,(∀ p,H' (0::p)=(vz (l0++Tu ks g0) (v0+(Tu ks g0).length) (Q6 ks g0)).F 0 p)→Q (.exit 0) ⟨lk st,H'⟩):∀ (m j:Nat) (l:List Sp) (v:Nat) (g:Nat→Nat) (H:Hp),j+m=ks.length→l.length+m≤100000000→(∀ p,H (0::p)=(vz l v g).F 0 p)→l0++Tu ks g0=l++Tu (ks.drop j) g→v0+(Tu ks g0).length=v+(Tu (ks.drop j) g).length→Q6 ks g0=Q6 (ks.drop j) g →
  LoopC (Ds Tryz.prog w0 I0 M0 n0 m0) Ej Q ⟨lk [(1,.pob [0,1] 1 0),(2,.pob [0] 1 0),(6,nvs ks),(7,iv ks.length),(8,iv j)],H⟩:=by
 intro m
 induction m with
 |zero=>
  intro j l v g H hm hl hH e1 e2 e3
  refine Ad Ak Ej.eq_1 ?_
  have:j=ks.length:=by omega
  subst this
  rw[List.drop_length] at e1 e2 e3
  simp
  refine hq H _ fun p=>?_
  rw[e1,e2,e3,hH]
  simp[Tu,Q6]
 |succ m ih=>
  intro j l v g H hm hl hH e1 e2 e3
  have hlt:j<ks.length:=by omega
  have ew:IntKind.i64.wrap ((j:Int)+1)=((j+1:Nat):Int):=Av
  have hd:ks.drop j=ks[j]::ks.drop (j+1):=(List.getElem_cons_drop hlt).symm
  rw[hd] at e1 e2 e3
  have hk:=hks _ (BI hlt)
  generalize hkk:ks[j]=k at *
  simp only[Tu,Q6] at e1 e2 e3
  have hH0:=hH []
  have hH1:=hH [0]
  have hH2:=hH [1]
  simp at hH0 hH1 hH2
  refine Ad Ak Ej.eq_1 ?_
  have hk3:k=0∨k=1∨k=2:=by omega
  by_cases h:0<g k
  ·rw[Vm h] at e1 e2
   have next:=fun (H':Hp) hF=>ih (j+1) (l++[⟨k,g k⟩]) (v+1) (fun q=>if q=k then 0 else g q) H' (by omega) (by simp;omega) hF (by rw[e1];simp) (by rw[e2];simp;omega) e3
   rcases hk3 with rfl | rfl | rfl
   all_goals
    simp[hlt,hkk,hH0,hH1,hH2,fm,h,ew,Aa,ib]
    refine⟨by omega,?_⟩
    refine next _ (fun p=>?_)
    by_cases h1:p=[]
    ·subst h1;simp[Aa]
    ·by_cases h2:p=[0]
     ·subst h2;simp[Aa,Jz,RC,Bb]
     ·by_cases h3:p=[1]
      ·subst h3;simp[Aa,fm]
      ·simp[h1,h2,h3,Aa,hH]
  ·have h0:g k=0:=by omega
   rw[h0] at e1 e2
   rcases hk3 with rfl | rfl | rfl
   all_goals
    simp[hlt,hkk,hH0,hH1,hH2,fm,h0,ew,Aa]
    refine ih (j+1) l v _ _ (by omega) (by omega) (fun p=>?_) (by rw[e1];simp) (by rw[e2];simp) e3
    by_cases h1:p=[]
    ·subst h1;simp[Aa,hH0]
    ·by_cases h2:p=[0]
     ·subst h2;simp[Aa,hH1]
     ·by_cases h3:p=[1]
      ·subst h3;simp[Aa,fm]
      ·simp[h1,h2,h3,Aa,hH]
end
theorem Mq {ks:List Nat} (hks:∀ k,k ∈ ks→k≤2) (hkl:ks.length≤1000) (l:List Sp) (v:Nat) (g:Nat→Nat) (hl:l.length≤10000000):Bg Tryz.prog 177 (fun r=>[nvs ks,.pob (r::[1]) 1 0,.pob [r] 1 0]) (vz l v g) (fun _=>.tup []) (vz (l++Tu ks g) (v+(Tu ks g).length) (Q6 ks g)):=by
 refine AH Rr (by simp) (Ah Dw (Ah AG (Ah AG Am))) (Bu Am) fun w0 I0 M0 m0=>?_
 unfold Ks
 simp
 refine LoopC.le (AA [(1,.pob [0,1] 1 0),(2,.pob [0] 1 0),(6,nvs ks),(7,iv ks.length),(8,iv (0:Nat))] (by simp)) ?_
 refine qG hks hkl (l0:=l) (v0:=v) (g0:=g) (fun H' st hH=>?_) ks.length 0 l v g _ (by omega) (by omega) (fun p=>by simp) (by simp) (by simp) (by simp)
 simp
 exact AO rfl rfl hH
abbrev sF:A:=.fnc 177 [] [.pob [0,1] 1 0,.pob [0] 1 0]
abbrev Um (l:List Sp):A:=.sl false (l.map Jz)
theorem uz (g:Nat→Nat):RD [] (g 0) (g 1) (g 2)=Tu [0,1,2] g:=by simp[RD,Tu]
theorem Ub (ks:List Nat) (g:Nat→Nat):(Tu ks g).length≤ks.length:=by
 induction ks generalizing g with
 |nil=>simp[Tu]
 |cons k ks ih=>
  have:=ih (fun q=>if q=k then 0 else g q)
  have:=IC k (g k)
  simp[Tu]
  omega
theorem Zo:∀ (ks:List Nat) (g:Nat→Nat) (B q:Nat),(∀ q,g q≤B)→Q6 ks g q≤B
 |[],g,B,q,h=>h q
 |k::ks,g,B,q,h=>Zo ks _ B q fun q=>by
  show(if q=k then 0 else g q)≤B
  split
  ·omega
  ·exact h q
theorem tG {n0:Nat} {w0:World} {I0:Nat→Prop} {Q:Exit→Sta→Prop} {all:List Sp} (hok:∀ s,s ∈ all→s.may) (hal:all.length≤1000000) {R:List Sp}
  (hq:∀ (H':Hp) (out:List Sp) (v:Nat) (g:Nat→Nat) st,(∀ p,H' (0::p)=(vz out v g).F 0 p)→out++Tu [0,1,2] g=R→out.length≤2000000→Q (.exit 0) ⟨lk ([(3,.pob [0] 1 0),(4,.pob [0,1] 1 0),(5,sF)]++st),H'⟩):∀ (m i:Nat) (out:List Sp) (v:Nat) (g:Nat→Nat) (H:Hp),i+m=all.length→out.length≤2*i→(∀ q,g q≤i*1048576)→(g 0=0∨(g 1=0∧g 2=0))→(∀ p,H (0::p)=(vz out v g).F 0 p)→out++RD (A6 (all.drop i)) (g 0) (g 1) (g 2)=R →
  LoopC (cx Tryz.prog w0 I0 n0) D9 Q ⟨lk [(3,.pob [0] 1 0),(4,.pob [0,1] 1 0),(5,sF),(9,Um all),(10,iv all.length),(11,iv i)],H⟩:=by
 intro m
 induction m with
 |zero=>
  intro i out v g H hm hl hg h01 hH hR
  refine Ad Ak D9.eq_1 ?_
  have:i=all.length:=by omega
  subst this
  rw[List.drop_length,Gp,uz] at hR
  simp
  exact hq H out v g [(9,Um all),(10,iv all.length),(11,iv all.length),(12,bv false)] hH hR (by omega)
 |succ m ih=>
  intro i out v g H hm hl hg h01 hH hR
  have hlt:i<all.length:=by omega
  have ew:IntKind.i64.wrap ((i:Int)+1)=((i+1:Nat):Int):=Av
  have hd:all.drop i=all[i]::all.drop (i+1):=(List.getElem_cons_drop hlt).symm
  have hs:=hok _ (BI hlt)
  rw[hd,AP] at hR
  generalize hss:all[i]=s at *
  have hsr:=eV s
  have hg0:=hg 0
  have hg1:=hg 1
  have hg2:=hg 2
  refine Ad Ak D9.eq_1 ?_
  have hspC:RC s=[iv s.k,iv s.n]:=rfl
  simp[hlt,hss,hspC]
  refine Ae hsr (by simp[Jz,RC,Aa]) ?_
  by_cases hn:1≤s.n
  ·have hdec:decide (s.k≤2∧1≤s.n∧s.n≤1048576)=true:=by have:=hs.1;have:=hs.2;simp;omega
   simp[hdec,Aa]
   have next:∀ (o2:List Sp) (v2:Nat) (g2:Nat→Nat) (H2:Hp),o2.length≤out.length+2→(∀ q,g2 q≤(i+1)*1048576)→(g2 0=0∨(g2 1=0∧g2 2=0))→(∀ p,H2 (0::p)=(vz o2 v2 g2).F 0 p)→o2++RD (A6 (all.drop (i+1))) (g2 0) (g2 1) (g2 2)=R→LoopC (cx Tryz.prog w0 I0 n0) D9 Q ⟨lk [(3,.pob [0] 1 0),(4,.pob [0,1] 1 0),(5,sF),(9,Um all),(10,iv all.length),(11,iv (i+1:Nat))],H2⟩:=fun o2 v2 g2 H2 h1 h2 h3 h4 h5=>ih (i+1) o2 v2 g2 H2 (by omega) (by omega) h2 h3 h4 h5
   have hk3:s.k=0∨s.k=1∨s.k=2:=by have:=hs.1;omega
   rcases hk3 with hk | hk | hk
   ·have F1:=Mq (ks:=[1,2]) (by simp) (by simp) out v g (by omega)
    have hlen:=Ub [1,2] g
    rw[hk,cu s.n _ _ _ _ (by omega) (by omega)] at hR
    have ev:IntKind.i64.wrap ((g 0:Int)+s.n)=((g 0+s.n:Nat):Int):=by have:=hs.2;rw[Af (by omega) (by omega)];omega
    simp[hk]
    refine T5 0 rfl F1 (fun p=>by simp[Aa,hH]) (by simp) (by simp) ?_
    simp
    rw[Fx.eq_1]
    simp[Aa,fm,Q6,ew,ev,hk]
    refine next (out++Tu [1,2] g) (v+(Tu [1,2] g).length) (fun q=>if q=0 then g 0+s.n else Q6 [1,2] g q) _ (by simp at hlen;simp;omega) (fun q=>?_) ?_ (fun p=>?_) ?_
    ·have hb:∀ (ks:List Nat) (g:Nat→Nat) (B q:Nat),(∀ q,g q≤B)→Q6 ks g q≤B:=Zo
     show(if q=0 then g 0+s.n else Q6 [1,2] g q)≤_
     have h3:=hs.2
     split
     ·omega
     ·exact Nat.le_trans (hb _ g _ q hg) (Nat.mul_le_mul_right _ (by omega))
    ·simp[Q6]
    ·by_cases h1:p=[]
     ·subst h1;simp[Aa]
     ·by_cases h2:p=[0]
      ·subst h2;simp[Aa]
      ·by_cases h3:p=[1]
       ·subst h3;simp[Aa,fm,Q6]
       ·simp[h1,h2,h3,Aa]
    ·simp only[Q6,Tu] at hR ⊢
     simpa using hR
   ·have F1:=Mq (ks:=[0]) (by simp) (by simp) out v g (by omega)
    have hlen:=Ub [0] g
    rw[hk,XT s.n _ _ _ _ (by omega)] at hR
    have ev:IntKind.i64.wrap ((g 1:Int)+s.n)=((g 1+s.n:Nat):Int):=by have:=hs.2;rw[Af (by omega) (by omega)];omega
    simp[hk]
    refine T5 0 rfl F1 (fun p=>by simp[Aa,hH]) (by simp) (by simp) ?_
    simp
    rw[Fx.eq_1]
    simp[Aa,fm,Q6,ew,ev,hk]
    refine next (out++Tu [0] g) (v+(Tu [0] g).length) (fun q=>if q=1 then g 1+s.n else Q6 [0] g q) _ (by simp at hlen;simp;omega) (fun q=>?_) ?_ (fun p=>?_) ?_
    ·have hb:∀ (ks:List Nat) (g:Nat→Nat) (B q:Nat),(∀ q,g q≤B)→Q6 ks g q≤B:=Zo
     show(if q=1 then g 1+s.n else Q6 [0] g q)≤_
     have h3:=hs.2
     split
     ·omega
     ·exact Nat.le_trans (hb _ g _ q hg) (Nat.mul_le_mul_right _ (by omega))
    ·simp[Q6]
    ·by_cases h1:p=[]
     ·subst h1;simp[Aa]
     ·by_cases h2:p=[0]
      ·subst h2;simp[Aa]
      ·by_cases h3:p=[1]
       ·subst h3;simp[Aa,fm,Q6]
       ·simp[h1,h2,h3,Aa]
    ·simp only[Q6,Tu] at hR ⊢
     simpa using hR
   ·have F1:=Mq (ks:=[0]) (by simp) (by simp) out v g (by omega)
    have hlen:=Ub [0] g
    rw[hk,TP s.n _ _ _ _ (by omega)] at hR
    have ev:IntKind.i64.wrap ((g 2:Int)+s.n)=((g 2+s.n:Nat):Int):=by have:=hs.2;rw[Af (by omega) (by omega)];omega
    simp[hk]
    refine T5 0 rfl F1 (fun p=>by simp[Aa,hH]) (by simp) (by simp) ?_
    simp
    rw[Fx.eq_1]
    simp[Aa,fm,Q6,ew,ev,hk]
    refine next (out++Tu [0] g) (v+(Tu [0] g).length) (fun q=>if q=2 then g 2+s.n else Q6 [0] g q) _ (by simp at hlen;simp;omega) (fun q=>?_) ?_ (fun p=>?_) ?_
    ·have hb:∀ (ks:List Nat) (g:Nat→Nat) (B q:Nat),(∀ q,g q≤B)→Q6 ks g q≤B:=Zo
     show(if q=2 then g 2+s.n else Q6 [0] g q)≤_
     have h3:=hs.2
     split
     ·omega
     ·exact Nat.le_trans (hb _ g _ q hg) (Nat.mul_le_mul_right _ (by omega))
    ·simp[Q6]
    ·by_cases h1:p=[]
     ·subst h1;simp[Aa]
     ·by_cases h2:p=[0]
      ·subst h2;simp[Aa]
      ·by_cases h3:p=[1]
       ·subst h3;simp[Aa,fm,Q6]
       ·simp[h1,h2,h3,Aa]
    ·simp only[Q6,Tu] at hR ⊢
     simpa using hR
  ·have hdec:decide (s.k≤2∧1≤s.n∧s.n≤1048576)=false:=by simp;omega
   have h0:s.n=0:=by omega
   simp[hdec,ew,Aa,Cf]
   refine ih (i+1) out v g _ (by omega) (by omega) (fun q=>Nat.le_trans (hg q) (Nat.mul_le_mul_right _ (by omega))) h01 (fun p=>?_) ?_
   ·simp[Aa,hH]
   ·rw[h0] at hR;simpa using hR
theorem mW {H:Hp} {o:Nm} {u n:Nat} {l:List Sp} (h:H o=⟨u,.arr 2 (l.map Jz)⟩) (hn:n=l.length):RU H (.osl o u 2 0 n) (Um l):=by
 subst hn
 have:=Qy (H:=H) (o:=o) (u:=u) (off:=0) (len:=l.length) (sz:=2) (xs:=l.map Jz) (by simp[h]) (by simp) (by
  simp only[List.drop_zero,List.all_eq_true]
  intro x hx
  obtain⟨s,_,rfl⟩:=List.mem_map.1 (Qo hx)
  rfl)
 rw[List.drop_zero,Bb (by simp)] at this
 exact this
theorem VO {all:List Sp} (hok:∀ s,s ∈ all→s.may) (hal:all.length≤1000000):SpecB Tryz.prog 120 [Um all] (Um (Kf (A6 all))):=by
 refine Nb TL (by simp) fun w0 I0=>?_
 unfold MB
 simp
 refine LoopC.le (Bv (d:=[0]) (u:=1) (cs:=[.sl true []]) 0 [0,0] 2 rfl rfl (by simp)) ?_
 refine LoopC.le (AA [(3,.pob [0] 1 0),(4,.pob [0,1] 1 0),(5,sF),(9,Um all),(10,iv all.length),(11,iv (0:Nat))] (by simp)) ?_
 refine tG hok hal (R:=Kf (A6 all)) (fun H' out v g st hH hR hl=>?_) all.length 0 [] 1 (fun _=>0) _ (by omega) (by simp) (fun q=>by omega) (.inl rfl) (fun p=>?_) (by simp[Kf])
 ·have F1:=Mq (ks:=[0,1,2]) (by simp) (by simp) out v g (by omega)
  have hlen:=Ub [0,1,2] g
  simp
  refine T5 0 rfl F1 hH (by simp) (by simp) ?_
  simp
  rw[← hR]
  exact mW (by simp) (by simp)
 ·by_cases h1:p=[]
  ·subst h1;simp[Aa]
  ·by_cases h2:p=[0]
   ·subst h2;simp[Aa]
   ·by_cases h3:p=[1]
    ·subst h3;simp[Aa,fm]
    ·simp[h1,h2,h3,Ne.symm h1,Ne.symm h2,Ne.symm h3,Aa]
theorem XF {all:List Sp} (hok:∀ s,s ∈ all→s.may) (hal:all.length≤1000000):G.Spec Tryz.prog 120 [Um all] (Um (Kf (A6 all))):=(VO hok hal).spec
theorem vH {s:Sp} (h:s.ok):s.may:=⟨h.1,h.2.2⟩
theorem U8 {a b:List Int} (ha:a.length≤300000) (hb:b.length≤1000000) {M0:Int} (hM0:Lm M0):G.Spec Tryz.prog 119 [Fo a,Fo b,iv M0] (if (CB a b:Int)≤M0 then .tup [Um (Kf (Hk a b)),bv true] else .tup [.sl false [],bv false]):=by
 obtain⟨d,hD⟩:=kS (a:=a) (b:=b) (by omega) hb hM0
 obtain⟨sts,h1,h2,h3,h4⟩:=qw a.length a b (Cc _) (by omega) hb
 have hN:=VO (all:=sts) (fun s hs=>vH (h2 s hs)) (by omega)
 rw[h1] at hN
 refine Al cX (by simp) fun w0 I0=>?_
 unfold VR
 simp
 refine Ae hD (by simp) ?_
 by_cases h:(CB a b:Int)≤M0
 ·have hF:=h4 [] 1 (by simp;omega)
  simp[h]
  refine Dv (Bv (d:=[0]) (u:=1) (cs:=[.sl true []]) 0 [0,0] 2 rfl rfl (by simp)) (Dn ?_)
  simp
  refine AB 0 hF (fun p=>?_) (by simp) (by simp) ?_
  ·by_cases h1:p=[]
   ·subst h1;simp[Aa]
   ·by_cases h2:p=[0]
    ·subst h2;simp[Aa]
    ·simp[h1,h2,Ne.symm h1,Ne.symm h2,Aa]
  ·simp
   refine LG [Um sts] hN (by simp;exact BQ (l:=sts) (f:=Jz) (by simp) rfl (fun x=>rfl)) (by simp) ?_
   simp
   exact Ab rfl
 ·simp[h]
  exact F5 (by simp;exact⟨An,Ab rfl⟩)
theorem Xb {α:Type} {f:α→A} (h:∀ x,(f x).cells=[f x]) (l:List α):(l.map f).flatMap A.cells=l.map f:=by
 induction l with
 |nil=>rfl
 |cons x l ih=>simp[ih,h]
end Go.Proofs.YtbjmaoedheiigaaGreat
namespace Go.PL
open Go
def Ra (list:Int) (e:E):Bool:=decide (e.kind=0) || (decide (list=9)&&decide (e.kind=2)&&e.words.isEmpty&&e.kids.isEmpty)
def En (g:List T):List OP:=if g=[] then [] else [.mk 1 0 g E0]
def Ed (b:List T):List OP:=if b=[] then [] else [.mk 2 0 b E0]
def rh (out:List OP) (g b:List T):List OP:=out++(En g++Ed b)
def rm (out:List OP) (n:Int):List OP:=match out.getLast? with
 |some (.mk 0 m l e)=>out.dropLast++[.mk 0 (IntKind.i64.wrap (m+n)) l e]
 |_=>out++[.mk 0 n [] E0]
def Qi (list:Int):List OP→List OP→List T→List T→List OP
 |[],out,g,b=>rh out g b
 |o::os,out,g,b=>
  if o.kind=0 then Qi list os (rm (rh out g b) o.n) [] []
  else if o.kind=1 then Qi list os out (g++o.l.map Ai) b
  else if o.kind=2 then Qi list os out g (b++o.l.map Ai)
  else if Ra list o.e=true then Qi list os (rm (rh out g b) 1) [] []
  else Qi list os (rh out g b++[.mk 3 0 [] o.e]) [] []
mutual
def Zt:E→E
 |.mk k o n ws ks l os=>if k=1 then .mk 1 (Ai o) (Ai n) [] [] 0 [] else if k=2 then .mk 2 T0 T0 ws (pE ks) 0 [] else if k=3 then .mk 3 T0 T0 [] [] l (Qi l (qp os) [] [] []) else E0
def pE:List KE→List KE
 |[]=>[]
 |.mk a e::l=>.mk a (Zt e)::pE l
def qp:List OP→List OP
 |[]=>[]
 |.mk k n t e::l=>.mk k n t (Zt e)::qp l
end
def m9 (x:KE):KE:=.mk x.at_ (Zt x.e)
def lJ (x:OP):OP:=.mk x.kind x.n x.l (Zt x.e)
theorem bW:∀ l,pE l=l.map m9
 |[]=>by simp[pE]
 |.mk a e::l=>by rw[pE,bW l];rfl
theorem ZZ:∀ l,qp l=l.map lJ
 |[]=>by simp[qp]
 |.mk k n t e::l=>by rw[qp,ZZ l];rfl
theorem Y7 (k:Int) (o n:T) (ws:List WE) (ks:List KE) (l:Int) (os:List OP):Zt (.mk k o n ws ks l os)=if k=1 then .mk 1 (Ai o) (Ai n) [] [] 0 [] else if k=2 then .mk 2 T0 T0 ws (ks.map m9) 0 [] else if k=3 then .mk 3 T0 T0 [] [] l (Qi l (os.map lJ) [] [] []) else E0:=by
 rw[Zt,bW,ZZ]
end Go.PL
namespace Go.Proofs.YtbjmaoedheiigaaGreat
open Go Go.G Go.Proofs Go.PL
def XX:Nat→Nat→Nat→Nat→Nat
 |0,_,_,_=>0
 |k+1,a,b,m=>(if m % 2=1 then b % 256 else a % 256)+256*XX k (a / 256) (b / 256) (m / 2)
def DU:Nat→Nat→Nat
 |0,_=>0
 |k+1,m=>(if m % 2=1 then 255 else 0)+256*DU k (m / 2)
theorem VC:∀ k m,DU k m<256 ^ k
 |0,m=>by simp[DU]
 |k+1,m=>by
  have:=VC k (m / 2)
  simp only[DU,Nat.pow_succ]
  split<;>omega
theorem WW:∀ k a b m,a<256 ^ k→b<256 ^ k→(a &&& (256 ^ k-1-DU k m)) ||| (b &&& DU k m)=XX k a b m
 |0,a,b,m,ha,hb=>by
  simp at ha hb
  subst ha hb
  simp[XX,DU]
 |k+1,a,b,m,ha,hb=>by
  have hw:=VC k (m / 2)
  rw[Nat.pow_succ] at ha hb
  have ih:=WW k (a / 256) (b / 256) (m / 2) (by omega) (by omega)
  have p0:0<256 ^ k:=Nat.pow_pos (by decide)
  generalize hx:(a &&& (256 ^ (k+1)-1-DU (k+1) m)) ||| (b &&& DU (k+1) m)=x
  have d1:DU (k+1) m / 256=DU k (m / 2):=by simp only[DU];split<;>omega
  have d2:(256 ^ (k+1)-1-DU (k+1) m) / 256=256 ^ k-1-DU k (m / 2):=by simp only[DU,Nat.pow_succ];split<;>omega
  have m1:DU (k+1) m % 256=if m % 2=1 then 255 else 0:=by simp only[DU];split<;>omega
  have m2:(256 ^ (k+1)-1-DU (k+1) m) % 256=if m % 2=1 then 0 else 255:=by simp only[DU,Nat.pow_succ];split<;>omega
  have e1:x / 256=XX k (a / 256) (b / 256) (m / 2):=by
   have q1:=@Nat.or_div_two_pow (a &&& (256 ^ (k+1)-1-DU (k+1) m)) (b &&& DU (k+1) m) 8
   have q2:=@Nat.and_div_two_pow a (256 ^ (k+1)-1-DU (k+1) m) 8
   have q3:=@Nat.and_div_two_pow b (DU (k+1) m) 8
   have c:(2:Nat) ^ 8=256:=rfl
   rw[q2,q3,c,d1,d2,hx] at q1
   rw[q1,ih]
  have e2:x % 256=if m % 2=1 then b % 256 else a % 256:=by
   have h:x % 2 ^ 8=(a % 2 ^ 8 &&& (256 ^ (k+1)-1-DU (k+1) m) % 2 ^ 8) ||| (b % 2 ^ 8 &&& DU (k+1) m % 2 ^ 8):=by
    rw[← hx,Nat.or_mod_two_pow,Nat.and_mod_two_pow,Nat.and_mod_two_pow]
   have c:(2:Nat) ^ 8=256:=rfl
   rw[c,m1,m2] at h
   rw[h]
   have h255:(255:Nat)=2 ^ 8-1:=rfl
   split
   ·rw[h255,Nat.and_two_pow_sub_one_eq_mod];simp
   ·rw[h255,Nat.and_two_pow_sub_one_eq_mod];simp
  simp only[XX]
  omega
theorem aE:∀ (k:Nat) (a b mask:Int),0≤a→0≤b→0≤mask→ofZ ((List.range k).map fun i=>if L8 mask i=true then (Gd k b).getD i 0 else (Gd k a).getD i 0)=(XX k a.toNat b.toNat mask.toNat:Nat)
 |0,a,b,mask,_,_,_=>by simp[ofZ,XX]
 |k+1,a,b,mask,ha,hb,hm=>by
  have ih:=aE k (a / 256) (b / 256) (mask / 2) (by omega) (by omega) (by omega)
  have e1:(a / 256).toNat=a.toNat / 256:=by omega
  have e2:(b / 256).toNat=b.toNat / 256:=by omega
  have e3:(mask / 2).toNat=mask.toNat / 2:=by omega
  rw[e1,e2,e3] at ih
  rw[List.range_succ_eq_map,List.map_cons,List.map_map,ofZ]
  have h:(List.range k).map ((fun i=>if L8 mask i=true then (Gd (k+1) b).getD i 0 else (Gd (k+1) a).getD i 0) ∘ Nat.succ)=(List.range k).map fun i=>if L8 (mask / 2) i=true then (Gd k (b / 256)).getD i 0 else (Gd k (a / 256)).getD i 0:=by
   refine List.map_congr_left fun i _=>?_
   have hn:L8 mask (i+1)=L8 (mask / 2) i:=by
    unfold L8
    have:mask / 2 ^ (i+1)=mask / 2 / 2 ^ i:=by
     rw[Int.ediv_ediv_of_nonneg (by decide),Int.pow_succ,Int.mul_comm]
    rw[this]
   simp[Gd,hn]
  rw[h,ih]
  have h0:(L8 mask 0=true)=(mask.toNat % 2=1):=by
   simp[L8]
   omega
  simp only[h0,XX,Gd,List.getD_cons_zero]
  split<;>omega
theorem o8 {a b mask:Int} (ha:BN a) (hb:BN b) (h0:0≤mask):eO a b mask=(XX 8 a.toNat b.toNat mask.toNat:Nat):=by
 rw[← aE 8 a b mask ha.1 hb.1 h0]
 unfold eO Abf Fl
 rw[List.drop_eq_nil_of_le (by simp),List.append_nil]
def wS (mask:Int):Nat→Int
 |0=>0
 |i+1=>if bits .and .u8 (mask / 2 ^ min i 8) 1=1 then bits .or .u64 (wS mask i) (IntKind.u64.wrap (255*2 ^ min (8*i) 64)) else wS mask i
theorem vC:∀ m:Nat,m<256→wS m 8=(DU 8 m:Nat):=by decide +kernel
variable {n0:Nat} {w0:World} {I0:Nat→Prop} {Q:Exit→Sta→Prop}
theorem jI {mask:Int} (hq:∀ q,Q (.exit 0) ⟨lk [(0,u8 mask),(3,uv (wS mask 8)),(5,iv 8),(6,bv q)],DH []⟩) :
  ∀ (j i:Nat),i+j=8→LoopC (cx Tryz.prog w0 I0 n0) Jj Q ⟨lk [(0,u8 mask),(3,uv (wS mask i)),(5,iv i)],DH []⟩:=by
 intro j
 induction j with
 |zero=>
  intro i hi
  have:i=8:=by omega
  subst this
  refine Ad Ak Jj.eq_1 ?_
  simp
  exact hq _
 |succ j ih=>
  intro i hi
  refine Ad Ak Jj.eq_1 ?_
  have hlt:i<8:=by omega
  have hlt2:(i:Int)<8:=by omega
  have e8:IntKind.i64.wrap (8*(i:Int))=((8*i:Nat):Int):=(Af (by omega) (by omega)).trans (by omega)
  have ei:IntKind.i64.wrap ((i:Int)+1)=((i+1:Nat):Int):=Af (by omega) (by omega)
  have b8:IntKind.u8.bits=8:=rfl
  have b64:IntKind.u64.bits=64:=rfl
  have hs:=ih (i+1) (by omega)
  rw[wS] at hs
  have e9:(8*(i:Int)).toNat=8*i:=by omega
  simp[hlt,hlt2,e8,ei,b8,b64,e9]
  refine⟨fun hc=>⟨by omega,?_⟩,fun hc=>?_⟩
  ·rw[if_pos hc] at hs
   exact hs
  ·rw[if_neg hc] at hs
   exact hs
theorem UZ {mask:Int} (h0:0≤mask) (h1:mask<256):G.Spec Tryz.prog 218 [u8 mask] (uv (DU 8 mask.toNat:Nat)):=by
 refine Al a7 (by simp) fun w0 I0=>?_
 unfold Tg
 simp
 obtain⟨m,rfl⟩:=Int.eq_ofNat_of_zero_le h0
 refine jI (fun q=>?_) 8 0 rfl
 simp
 rw[vC m (by omega)]
 exact Ab rfl
theorem Sz {x:Nat} (h:x<2 ^ 64):(BitVec.ofInt 64 (x:Int)).toNat=x:=by
 rw[BitVec.toNat_ofInt]
 omega
theorem xh {x y:Nat} (hx:x<2 ^ 64) (hy:y<2 ^ 64):bits .and .u64 x y=(x &&& y:Nat):=by
 have h:=Nat.lt_of_le_of_lt (Nat.and_le_left (n:=x) (m:=y)) hx
 show IntKind.u64.wrap ((BitVec.ofInt 64 x &&& BitVec.ofInt 64 y).toNat:Nat)=_
 rw[BitVec.toNat_and,Sz hx,Sz hy]
 exact AE (by omega) (by omega)
theorem Adq {x y:Nat} (hx:x<2 ^ 64) (hy:y<2 ^ 64):bits .or .u64 x y=(x ||| y:Nat):=by
 have h:=Nat.or_lt_two_pow hx hy
 show IntKind.u64.wrap ((BitVec.ofInt 64 x ||| BitVec.ofInt 64 y).toNat:Nat)=_
 rw[BitVec.toNat_or,Sz hx,Sz hy]
 exact AE (by omega) (by omega)
theorem sX {x y:Nat} (hx:x<2 ^ 64) (hy:y<2 ^ 64):bits .andNot .u64 x y=(x &&& (256 ^ 8-1-y):Nat):=by
 have h:=Nat.lt_of_le_of_lt (Nat.and_le_left (n:=x) (m:=256 ^ 8-1-y)) hx
 show IntKind.u64.wrap ((BitVec.ofInt 64 x &&& ~~~ BitVec.ofInt 64 y).toNat:Nat)=_
 rw[BitVec.toNat_and,BitVec.toNat_not,Sz hx,Sz hy]
 have e:(2:Nat) ^ 64-1-y=256 ^ 8-1-y:=rfl
 rw[e]
 exact AE (by omega) (by omega)
theorem Xi {a b mask:Int} (ha:BN a) (hb:BN b) (h0:0≤mask) (h1:mask<256):G.Spec Tryz.prog 174 [uv a,uv b,u8 mask] (uv (eO a b mask)):=by
 refine Al dp (by simp) fun w0 I0=>?_
 unfold Vh
 simp
 refine Ae (UZ h0 h1) (by simp) ?_
 simp
 refine Ae (UZ h0 h1) (by simp) ?_
 simp
 refine Ca ?_
 rw[o8 ha hb h0]
 obtain⟨x,rfl⟩:=Int.eq_ofNat_of_zero_le ha.1
 obtain⟨y,rfl⟩:=Int.eq_ofNat_of_zero_le hb.1
 have hx:x<2 ^ 64:=by have:=ha.2;omega
 have hy:y<2 ^ 64:=by have:=hb.2;omega
 have hw:DU 8 mask.toNat<2 ^ 64:=VC 8 _
 rw[sX hx hw,xh hy hw,Adq (Nat.lt_of_le_of_lt Nat.and_le_left hx) (Nat.lt_of_le_of_lt Nat.and_le_left hy)]
 have:=WW 8 x y mask.toNat hx hy
 simp only[Int.toNat_natCast]
 rw[← this]
theorem oJ:∀ i:Fin 8,∀ m:Fin 256,m.val<2 ^ i.val→bits .or .u8 (m.val:Int) ((2 ^ i.val:Nat):Int)=(m.val:Int)+((2 ^ i.val:Nat):Int):=by decide +kernel
def Ik (x:Int) (i:Nat):Int:=x / 256 ^ i % 256
def PQ (a b:Int):Nat→Nat
 |0=>0
 |k+1=>PQ a b k+(if Ik a k ≠ Ik b k then 2 ^ k else 0)
def NI (a b:Int):Int:=(PQ a b 8:Nat)
theorem Yg (a b:Int):∀ k,PQ a b k<2 ^ k
 |0=>by simp[PQ]
 |k+1=>by
  have:=Yg a b k
  unfold PQ
  rw[Nat.pow_succ]
  split<;>omega
theorem rN (a b:Int):0≤NI a b∧NI a b<256:=by
 have:=Yg a b 8
 unfold NI
 omega
theorem P5:∀ (n:Nat) (x:Int) (i:Nat),i<n→(Gd n x)[i]? = some (Ik x i)
 |n+1,x,0,_=>by simp[Gd,Ik]
 |n+1,x,i+1,h=>by
  have:=P5 n (x / 256) i (by omega)
  simp only[Gd,List.getElem?_cons_succ]
  rw[this]
  unfold Ik
  rw[Int.ediv_ediv_of_nonneg (by omega),Int.pow_succ,Int.mul_comm]
theorem nf {a b:Int} (ha:BN a) (hb:BN b) (i:Nat):Ik (bits .xor .u64 a b) i=0 ↔ Ik a i=Ik b i:=by
 obtain⟨x,rfl⟩:∃ x:Nat,a=x:=⟨a.toNat,by unfold BN at ha;omega⟩
 obtain⟨y,rfl⟩:∃ y:Nat,b=y:=⟨b.toNat,by unfold BN at hb;omega⟩
 unfold BN at ha hb
 rw[bits_xor_u64_nat x y (by omega) (by omega)]
 unfold Ik
 have h:∀ z:Nat,((z:Int) / 256 ^ i % 256)=(((z / 2 ^ (8*i)) % 2 ^ 8:Nat):Int):=fun z=>by
  have h1:((256:Int) ^ i)=((2 ^ (8*i):Nat):Int):=by
   rw[Nat.pow_mul,Int.natCast_pow];rfl
  rw[h1,Int.natCast_emod,Int.natCast_ediv]
  rfl
 rw[h,h,h]
 have e:((x ^^^ y) / 2 ^ (8*i)) % 2 ^ 8=((x / 2 ^ (8*i)) % 2 ^ 8) ^^^ ((y / 2 ^ (8*i)) % 2 ^ 8):=by
  rw[← Nat.shiftRight_eq_div_pow,← Nat.shiftRight_eq_div_pow,← Nat.shiftRight_eq_div_pow,Nat.shiftRight_xor_distrib,Nat.xor_mod_two_pow]
 rw[e]
 constructor
 ·intro h
  have h:((x / 2 ^ (8*i)) % 2 ^ 8) ^^^ ((y / 2 ^ (8*i)) % 2 ^ 8)=0:=by omega
  generalize (x / 2 ^ (8*i)) % 2 ^ 8=p at h ⊢
  generalize (y / 2 ^ (8*i)) % 2 ^ 8=q at h ⊢
  have h2:p ^^^ q ^^^ q=q:=by rw[h,Nat.zero_xor]
  rw[Nat.xor_assoc,Nat.xor_self,Nat.xor_zero] at h2
  rw[h2]
 ·intro h
  have h:(x / 2 ^ (8*i)) % 2 ^ 8=(y / 2 ^ (8*i)) % 2 ^ 8:=by omega
  rw[h,Nat.xor_self]
  rfl
theorem xV {a b:Int} (ha:BN a) (hb:BN b) {H:Hp} (hq:∀ st,Q (.exit 0) ⟨lk ([(5,u8 (NI a b))]++st),H⟩):∀ (m i:Nat),i+m=8 →
  LoopC (cx Tryz.prog w0 I0 n0) G7 Q ⟨lk [(5,u8 (PQ a b i:Nat)),(11,.agg (cE (Fl (bits .xor .u64 a b)))),(12,iv i)],H⟩:=by
 intro m
 induction m with
 |zero=>
  intro i hm
  refine Ad Ak G7.eq_1 ?_
  have:i=8:=by omega
  subst this
  simp
  exact hq [(11,.agg (cE (Fl (bits .xor .u64 a b)))),(12,iv 8),(13,bv false)]
 |succ m ih=>
  intro i hm
  have hi:i<8:=by omega
  have hi':(i:Int)<8:=by omega
  have ew:IntKind.i64.wrap ((i:Int)+1)=((i+1:Nat):Int):=Av
  have hb1:(Fl (bits .xor .u64 a b))[i]? = some (Ik (bits .xor .u64 a b) i):=P5 8 _ i hi
  have hx:=nf ha hb i
  have hlt:=Yg a b i
  have next:=ih (i+1) (by omega)
  refine Ad Ak G7.eq_1 ?_
  by_cases h:Ik a i=Ik b i
  ·have h0:=hx.2 h
   have e:PQ a b (i+1)=PQ a b i:=by simp[PQ,h]
   rw[e] at next
   simp[hi',hi,ew,cE,hb1,h0]
   simpa[cE] using next
  ·have h0:¬ Ik (bits .xor .u64 a b) i=0:=fun e=>h (hx.1 e)
   have e:PQ a b (i+1)=PQ a b i+2 ^ i:=by simp[PQ,h]
   rw[e] at next
   have p8:2 ^ i<256:=by
    have:2 ^ i≤2 ^ 7:=Nat.pow_le_pow_right (by omega) (by omega)
    omega
   have eb:IntKind.u8.wrap (2 ^ min i IntKind.u8.bits)=((2 ^ i:Nat):Int):=by
    have:min i IntKind.u8.bits=i:=Nat.min_eq_left (by show i≤8;omega)
    rw[this,IntKind.wrap_u8,Int.natCast_pow]
    have:((2:Int) ^ i)=((2 ^ i:Nat):Int):=by rw[Int.natCast_pow];rfl
    omega
   have eo:=oJ ⟨i,hi⟩ ⟨PQ a b i,by omega⟩ hlt
   simp only at eo
   simp[hi',hi,ew,cE,hb1,h0]
   rw[eb,eo,← Int.natCast_add]
   simpa[cE] using next
def Uc (x:Int) (i:Nat):List Int:=(List.range 8).map fun j=>if j<i then Ik x j else 0
theorem K3 (x:Int) (i:Nat):(Uc x i).length=8:=by simp[Uc]
theorem jt (x:Int):Uc x 0=List.replicate 8 0:=by simp[Uc];rfl
theorem qA (x:Int):Uc x 8=Fl x:=by
 apply List.ext_getElem?
 intro j
 by_cases h:j<8
 ·rw[show(Fl x)[j]? = _ from P5 8 x j h]
  simp[Uc,h]
 ·rw[List.getElem?_eq_none (by rw[K3];omega),List.getElem?_eq_none (by simp[Fl];omega)]
theorem nj (x:Int) {i:Nat} (h:i<8):(Uc x i).set i (Ik x i)=Uc x (i+1):=by
 apply List.ext_getElem?
 intro j
 by_cases hj:j<8
 ·by_cases e:j=i
  ·subst e
   rw[List.getElem?_set_self (by rw[K3];omega)]
   simp[Uc,hj]
  ·rw[List.getElem?_set_ne (by omega)]
   simp[Uc,hj]
   have:(j<i+1)=(j<i):=by simp;omega
   simp[this]
 ·rw[List.getElem?_eq_none (by simp[K3];omega),List.getElem?_eq_none (by rw[K3];omega)]
theorem s5 {x:Int} (hx:BN x) (hq:∀ (st:List (Nat × A)) (H:Hp),H [0]=⟨1,.cells (cE (List.replicate 8 0))⟩→H [1]=⟨1,.cells (cE (Fl x))⟩→Q (.exit 0) ⟨lk ([(0,uv x),(2,.pob [0] 1 0),(3,.pob [1] 1 0)]++st),H⟩):∀ (m i:Nat) (H:Hp),i+m=8→H [0]=⟨1,.cells (cE (List.replicate 8 0))⟩→H [1]=⟨1,.cells (cE (Uc x i))⟩ →
  LoopC (cx Tryz.prog w0 I0 n0) HG Q ⟨lk [(0,uv x),(2,.pob [0] 1 0),(3,.pob [1] 1 0),(5,iv i)],H⟩:=by
 intro m
 induction m with
 |zero=>
  intro i H hm h0 h1
  refine Ad Ak HG.eq_1 ?_
  have:i=8:=by omega
  subst this
  rw[qA] at h1
  simp
  exact hq [(5,iv 8),(6,bv false)] H h0 h1
 |succ m ih=>
  intro i H hm h0 h1
  have hi:i<8:=by omega
  have hi':(i:Int)<8:=by omega
  have ew:IntKind.i64.wrap ((i:Int)+1)=((i+1:Nat):Int):=Av
  have e8:IntKind.i64.wrap (8*(i:Int))=((8*i:Nat):Int):=(Af (by omega) (by omega)).trans (by omega)
  have b64:IntKind.u64.bits=64:=rfl
  have e9:(8*(i:Int)).toNat=8*i:=by omega
  have ev:IntKind.u8.wrap (x / 2 ^ min (8*i) 64)=Ik x i:=by
   rw[IntKind.wrap_u8,Nat.min_eq_left (by omega)]
   unfold Ik
   have h1:((256:Int) ^ i)=((2:Int) ^ (8*i)):=by rw[Int.pow_mul];rfl
   rw[h1]
   try rfl
  refine Ad Ak HG.eq_1 ?_
  simp[hi',hi,ew,e8,e9,b64,ev,h1,K3]
  refine⟨by omega,by omega,?_⟩
  rw[cS (by rw[K3];omega),nj x hi]
  simpa using ih (i+1) _ (by omega) (by simp[Aa,h0]) (by simp[Aa])
theorem bR {x:Int} (h:BN x):G.Spec Tryz.prog 217 [uv x] (.agg (cE (Fl x))):=by
 refine Al YH (by simp) fun w0 I0=>?_
 unfold QM
 simp
 refine LoopC.le (AA [(0,uv x),(2,.pob [0] 1 0),(3,.pob [1] 1 0),(5,iv (0:Nat))] (by simp)) ?_
 refine s5 h (fun st H h0 h1=>?_) 8 0 _ rfl (by simp[Aa]) (by simp[Aa,jt])
 have e:List.take 8 (cE (Fl x))=cE (Fl x):=Bb (by simp[Fl])
 have el:(Fl x).length=8:=by simp[Fl]
 simp[h1,h0,Aa,e,el]
 exact⟨by simp[A.ones],jD⟩
theorem Y2 {a b:Int} (ha:BN a) (hb:BN b):G.Spec Tryz.prog 173 [uv a,uv b] (u8 (NI a b)):=by
 have hu:BN (bits .xor .u64 a b):=by
  obtain⟨x,rfl⟩:∃ x:Nat,a=x:=⟨a.toNat,by unfold BN at ha;omega⟩
  obtain⟨y,rfl⟩:∃ y:Nat,b=y:=⟨b.toNat,by unfold BN at hb;omega⟩
  unfold BN at ha hb
  rw[bits_xor_u64_nat x y (by omega) (by omega)]
  have:=@Nat.xor_lt_two_pow x y 64 (by omega) (by omega)
  unfold BN
  omega
 refine Al WG (by simp) fun w0 I0=>?_
 unfold Pd
 simp
 refine Ae (bR hu) (by simp) ?_
 simp
 refine LoopC.le (AA [(5,u8 (PQ a b 0:Nat)),(11,.agg (cE (Fl (bits .xor .u64 a b)))),(12,iv (0:Nat))] (by simp[PQ])) ?_
 refine xV ha hb (fun st=>?_) 8 0 rfl
 simp
 exact Ab rfl
def wdE (at_:Int) (a b:Int):WE:=⟨at_,NI a b,eO 0 a (NI a b),eO 0 b (NI a b)⟩
def WE0:WE:=⟨0,0,0,0⟩
theorem VL {i a b:Int} (ha:BN a) (hb:BN b):G.Spec Tryz.prog 117 [iv i,uv a,uv b] (.tup [wX (if NI a b=0 then WE0 else wdE i a b),bv (!decide (NI a b=0))]):=by
 have hin:=rN a b
 have z:BN 0:=by unfold BN;omega
 refine Al b7 (by simp) fun w0 I0=>?_
 unfold Tf
 simp
 refine Ae (Y2 ha hb) (by simp) ?_
 by_cases h:NI a b=0
 ·simp[h]
  exact Ab rfl
 ·simp[h]
  refine Ae (Xi z ha hin.1 hin.2) (by simp) ?_
  simp
  refine Ae (Xi z hb hin.1 hin.2) (by simp) ?_
  simp
  exact Ab rfl
theorem VI (k:Int):G.Spec Tryz.prog 61 [iv k] (bv (decide (2≤k)&&decide (k≤9))):=by
 refine Al bD (by simp) fun w0 I0=>?_
 unfold SL
 simp
 exact Ab rfl
theorem vM {a b:List Int} (hl:a.length=b.length) (hb:a.length*8≤140737488355328) {H:Hp}:∀ (m i:Nat),i+m=a.length→a.take i=b.take i→(a=b→∀ q,Q (.exit 0) ⟨lk [(0,DP a),(1,DP b),(12,iv a.length),(13,iv a.length),(14,bv q)],H⟩)→(a ≠ b→Q .ret ⟨lk [(4,bv false)],H⟩) →
  LoopC (cx Tryz.prog w0 I0 n0) BR Q ⟨lk [(0,DP a),(1,DP b),(12,iv a.length),(13,iv i)],H⟩:=by
 intro m
 induction m with
 |zero=>
  intro i hi ht h1 h2
  have:i=a.length:=by omega
  subst this
  rw[Bb (Cc _),Bb (by omega)] at ht
  refine Ad Ak BR.eq_1 ?_
  simp
  exact h1 ht _
 |succ m ih=>
  intro i hi ht h1 h2
  have hlt:i<a.length:=by omega
  have hlt':i<b.length:=by omega
  have ei:IntKind.i64.wrap ((i:Int)+1)=((i+1:Nat):Int):=Af (by omega) (by omega)
  refine Ad Ak BR.eq_1 ?_
  by_cases e:a[i]=b[i]
  ·simp[hlt,hlt',e,ei]
   refine ih (i+1) (by omega) ?_ h1 h2
   rw[Hj hlt,Hj hlt',ht,e]
  ·simp[hlt,hlt',e]
   exact h2 fun q=>e (by simp[q])
theorem bd (a b:List Int) (hb:a.length*8≤140737488355328):G.Spec Tryz.prog 114 [DP a,DP b] (bv (decide (a=b))):=by
 refine Al II (by simp) fun w0 I0=>?_
 unfold Ev
 by_cases hl:a.length=b.length
 ·simp[hl]
  have:=vM (n0:=26) (w0:=w0) (I0:=I0) (a:=a) (b:=b) (H:=DH []) (Q:=Cf 0 (Gv (WPC (cx Tryz.prog w0 I0 26) (.keep [] (.seq (.reg [co (some 4) (.assign (.const (.bool true))) none] [4]) .ret)) (PO Tryz.prog [.tmp 4] (bv (decide (a=b))))) (PO Tryz.prog [.tmp 4] (bv (decide (a=b)))))) hl hb a.length 0 (by simp) rfl (fun e q=>?_) (fun e=>?_)
  ·rw[hl] at this
   simpa using this
  ·simp
   exact Bl (by simp[e])
  ·simp
   exact Bl (by simp[e])
 ·have hl':¬ (a.length:Int)=b.length:=by omega
  simp[hl,hl']
  exact Bl (by simp;intro e;exact absurd (by rw[e]) hl)
theorem qP {t u:T} (h:t.kind ≠ u.kind∨t.kind=0):Lz t u=decide (t.kind=u.kind):=by
 rw[Bool.eq_iff_iff,eqT_iff,decide_eq_true_eq]
 constructor
 ·intro e;rw[← CM t,e,CM]
 ·intro e
  rcases h with h | h
  ·exact absurd e h
  ·rw[Ge h,Ge (by omega)]
theorem SE {t u:T} (h:t.kind ≠ u.kind∨t.kind=0):G.Spec Tryz.prog 59 [tX t,tX u] (bv (Lz t u)):=by
 refine Al QC (by simp) fun w0 I0=>?_
 unfold L4
 rw[qP h]
 by_cases e:t.kind=u.kind
 ·have h0:u.kind=0:=by omega
  simp[e,h0]
  exact Ab rfl
 ·simp[e]
  exact Bl (by simp[e])
theorem jA {t u:T} {n:Nat} (hN:n≤100000000000000) {H:Hp} (h0:H [0]=⟨1,.cells (tL t)⟩) (h1:H [1]=⟨1,.cells (tL u)⟩)
  (hq:(∀ i,i<n→t.words.getD i 0=u.words.getD i 0)→∀ (q:Bool),Q (.exit 0) ⟨lk [(2,.pob [0] 1 0),(3,.pob [1] 1 0),(48,iv n),(49,iv n),(50,bv q)],H⟩)
  (hf:(∃ i,t.words.getD i 0 ≠ u.words.getD i 0)→Q .ret ⟨lk [(4,bv false)],H⟩) :
  ∀ (j i:Nat),i+j=n→(∀ i',i'<i→t.words.getD i' 0=u.words.getD i' 0) →
  LoopC (cx Tryz.prog w0 I0 n0) HH Q ⟨lk [(2,.pob [0] 1 0),(3,.pob [1] 1 0),(48,iv n),(49,iv i)],H⟩:=by
 intro j
 induction j with
 |zero=>
  intro i hi he
  have:i=n:=by omega
  subst this
  refine Ad Ak HH.eq_1 ?_
  simp
  exact hq he _
 |succ j ih=>
  intro i hi he
  have hlt:i<n:=by omega
  have ei:IntKind.i64.wrap ((i:Int)+1)=((i+1:Nat):Int):=Af (by omega) (by omega)
  refine Ad Ak HH.eq_1 ?_
  simp[hlt,h0,h1]
  refine Ae (HU t i) (by simp) ?_
  simp[h0,h1]
  refine Ae (HU u i) (by simp) ?_
  by_cases hw:t.words.getD i 0=u.words.getD i 0
  ·have hw':=hw
   simp only[List.getD_eq_getElem?_getD] at hw'
   simp[hw',ei]
   refine ih (i+1) (by omega) (fun i' hi'=>?_)
   by_cases e:i'=i
   ·rw[e];exact hw
   ·exact he i' (by omega)
  ·have hw':=hw
   simp only[List.getD_eq_getElem?_getD] at hw'
   simp[hw']
   exact hf ⟨i,hw⟩
theorem getD_none {α:Type} {l:List α} {i:Nat} {z:α} (h:l.length≤i):l.getD i z=z:=by rw[List.getD_eq_getElem?_getD,List.getElem?_eq_none h];rfl
theorem bz {u:T} (hw:DI u) (i:Nat):DI (u.kids.getD i T0):=by
 by_cases hi':i<u.kids.length
 ·have e:u.kids.getD i T0=u.kids[i]:=by simp[List.getD_eq_getElem?_getD,hi']
  rw[e]
  exact(wfT_iff.1 hw).ks _ (BI hi')
 ·have e:u.kids.getD i T0=T0:=by rw[List.getD_eq_getElem?_getD,List.getElem?_eq_none (by simpa using hi')];rfl
  rw[e]
  exact wfT_iff.2 ⟨by simp[Lm],by simp,by simp,by simp,by simp⟩
def EqG (t:T):Prop:=∀ u:T,DI t→DI u→G.Spec Tryz.prog 59 [tX t,tX u] (bv (Lz t u))
theorem ia {k:Int} {w:List Int} {a:List T} {u:T} (h0:k ≠ 0):Lz (.mk k w a) u=true ↔ k=u.kind∧(k=1∨(a.length=u.kids.length∧w=u.words))∧(∀ i,w.getD i 0=u.words.getD i 0)∧∀ i,Ai (a.getD i T0)=Ai (u.kids.getD i T0):=by
 rw[eqT_iff]
 obtain⟨k',w',b⟩:=u
 by_cases hk:k=k'
 rotate_left
 ·constructor
  ·intro h
   have:=congrArg T.kind h
   simp at this
   exact absurd this hk
  ·intro h;exact absurd h.1 hk
 subst hk
 by_cases h1:k=1
 ·subst h1
  rw[struct_eq]
  simp
 rw[VF h0 h1]
 constructor
 ·rintro⟨rfl,h⟩
  have hl:a.length=b.length:=by simpa using congrArg List.length h
  exact⟨rfl,.inr ⟨hl,rfl⟩,fun i=>rfl,(Xy hl).1 h⟩
 ·rintro⟨_,h,_,h3⟩
  rcases h with h | ⟨hl,rfl⟩
  ·exact absurd h h1
  ·exact⟨rfl,(Xy hl).2 h3⟩
theorem wQ {t u:T} {n:Nat} (hn:n≤100000000000000) (hw:DI t) (hwu:DI u) (hk:∀ i,i<n→EqG (t.kids.getD i T0)) {H:Hp} (h0:H [0]=⟨1,.cells (tL t)⟩) (h1:H [1]=⟨1,.cells (tL u)⟩)
  (hq:(∀ i,i<n→Ai (t.kids.getD i T0)=Ai (u.kids.getD i T0))→∀ (q:Bool),Q (.exit 2) ⟨lk [(2,.pob [0] 1 0),(3,.pob [1] 1 0),(66,iv n),(67,iv n),(68,bv q)],H⟩)
  (hf:(∃ i,Ai (t.kids.getD i T0) ≠ Ai (u.kids.getD i T0))→Q .ret ⟨lk [(4,bv false)],H⟩) :
  ∀ (j i:Nat),i+j=n→(∀ i',i'<i→Ai (t.kids.getD i' T0)=Ai (u.kids.getD i' T0)) →
  LoopC (cx Tryz.prog w0 I0 n0) HM Q ⟨lk [(2,.pob [0] 1 0),(3,.pob [1] 1 0),(66,iv n),(67,iv i)],H⟩:=by
 intro j
 induction j with
 |zero=>
  intro i hi he
  have:i=n:=by omega
  subst this
  refine Ad Ak HM.eq_1 ?_
  simp
  exact hq he _
 |succ j ih=>
  intro i hi he
  have hlt:i<n:=by omega
  have ei:IntKind.i64.wrap ((i:Int)+1)=((i+1:Nat):Int):=Af (by omega) (by omega)
  have hrec:=hk i hlt (u.kids.getD i T0) (bz hw i) (bz hwu i)
  refine Ad Ak HM.eq_1 ?_
  simp[hlt,h0,h1]
  refine Ae (Jf t i) (by simp) ?_
  simp[h0,h1]
  refine Ae (Jf u i) (by simp) ?_
  simp[h0,h1]
  refine Ae hrec (by simp) ?_
  cases hb:Lz (t.kids.getD i T0) (u.kids.getD i T0) with
  |true=>
   simp[ei]
   refine ih (i+1) (by omega) (fun i' hi'=>?_)
   by_cases e:i'=i
   ·rw[e];exact eqT_iff.1 hb
   ·exact he i' (by omega)
  |false=>
   simp
   exact hf ⟨i,fun e=>by rw[eqT_iff.2 e] at hb;cases hb⟩
set_option maxRecDepth 8000 in
theorem tJ:∀ t:T,EqG t:=by
 refine T.ind fun k w ks ih u hw hwu=>?_
 have hw':=wfT_iff.1 hw
 have hu':=wfT_iff.1 hwu
 have hwl:=hw'.wl
 have hkl:=hw'.kl
 have hul:=hu'.wl
 have huk:=hu'.kl
 simp only[T.words_mk,T.kids_mk] at hwl hkl
 have hk0:∀ i,EqG ((T.mk k w ks).kids.getD i T0):=fun i=>by
  by_cases hi:i<ks.length
  ·have e:(T.mk k w ks).kids.getD i T0=ks[i]:=by simp[List.getD_eq_getElem?_getD,hi]
   rw[e];exact ih _ (BI hi)
  ·have e:(T.mk k w ks).kids.getD i T0=T0:=getD_none (by simpa using hi)
   rw[e]
   intro u _ _
   exact SE (.inr rfl)
 by_cases hkk:k ≠ u.kind∨k=0
 ·exact SE hkk
 have h1:k=u.kind:=by omega
 have h0:¬ u.kind=0:=by omega
 simp only[T.kids_mk] at hk0
 have yes:(k=1∨(ks.length=u.kids.length∧w=u.words))→(∀ i,w.getD i 0=u.words.getD i 0)→(∀ i,Ai (ks.getD i T0)=Ai (u.kids.getD i T0))→Lz (.mk k w ks) u=true:=fun a b c=>(ia (by omega)).2 ⟨h1,a,b,c⟩
 have no:¬ ((k=1∨(ks.length=u.kids.length∧w=u.words))∧(∀ i,w.getD i 0=u.words.getD i 0)∧(∀ i,Ai (ks.getD i T0)=Ai (u.kids.getD i T0)))→Lz (.mk k w ks) u=false:=fun h=>by
  rw[Bool.eq_false_iff]
  intro e
  exact h ((ia (by omega)).1 e).2
 obtain⟨N,hN⟩:∃ N:Nat,N=max w.length u.words.length:=⟨_,rfl⟩
 obtain⟨M,hM⟩:∃ M:Nat,M=max ks.length u.kids.length:=⟨_,rfl⟩
 have eN:max (w.length:Int) (u.words.length:Int)=(N:Int):=by omega
 have eM:max (ks.length:Int) (u.kids.length:Int)=(M:Int):=by omega
 refine Al QC (by simp) fun w0 I0=>?_
 have main:(k=1∨(ks.length=u.kids.length∧w=u.words))→WPC (cx Tryz.prog w0 I0 79) KV (PO Tryz.prog [.tmp 4] (bv (Lz (.mk k w ks) u))) ⟨lk [(2,.pob [0] 1 0),(3,.pob [1] 1 0)],DH [([0],⟨1,.cells [iv k,DP w,Co ks]⟩),([1],⟨1,.cells [iv u.kind,DP u.words,Co u.kids]⟩)]⟩:=fun hc=>by
  rw[KV.eq_1]
  simp[eN]
  refine jA (t:=.mk k w ks) (u:=u) (by omega) (by simp) (by simp) (fun he q=>?_) (fun hf=>?_) N 0 (by omega) (fun i hi=>by omega)
  ·have heq:∀ i,w.getD i 0=u.words.getD i 0:=fun i=>by
    by_cases hi:i<N
    ·exact he i hi
    ·rw[getD_none (by omega),getD_none (by omega)]
   simp[eM]
   refine wQ (t:=.mk k w ks) (u:=u) (by omega) hw hwu (fun i _=>hk0 i) (by simp) (by simp) (fun he2 q=>?_) (fun hf=>?_) M 0 (by omega) (fun i hi=>by omega)
   ·simp
    refine Bl (yes hc heq fun i=>?_).symm
    by_cases hi:i<M
    ·exact he2 i hi
    ·rw[getD_none (by omega),getD_none (by omega)]
   ·simp
    refine Bl (no fun h=>?_).symm
    obtain⟨i,hi⟩:=hf
    exact hi (h.2.2 i)
  ·simp
   refine Bl (no fun h=>?_).symm
   obtain⟨i,hi⟩:=hf
   exact hi (h.2.1 i)
 unfold L4
 by_cases k1:k=1
 ·have u1:u.kind=1:=by omega
  have hm:=main (.inl k1)
  rw[u1] at hm
  subst k1
  simp[u1]
  refine A5 rfl ?_
  simp
  exact Dn hm
 ·have u1:¬ u.kind=1:=by omega
  by_cases hl:ks.length=u.kids.length
  ·have hl':(ks.length:Int)=u.kids.length:=by omega
   simp[h1,h0,u1,hl']
   refine C6 rfl (fun _=>bd w u.words (by omega)) (fun _=>rfl) rfl ?_
   by_cases hww:w=u.words
   ·simp[hww]
    have:=main (.inr ⟨hl,hww⟩)
    rw[h1,hww] at this
    exact Dn this
   ·simp[hww]
    refine Bl ?_
    rw[← h1]
    refine(no fun h=>?_).symm
    rcases h.1 with h | h
    ·exact k1 h
    ·exact hww h.2
  ·have hl':¬ (ks.length:Int)=u.kids.length:=by omega
   simp[h1,h0,u1,hl,hl']
   refine A5 rfl ?_
   simp
   refine Bl ?_
   rw[← h1]
   exact(no fun h=>by
    rcases h.1 with h | h
    ·exact k1 h
    ·exact hl h.1).symm
theorem U3 {t u:T} (hw:DI t) (hwu:DI u):G.Spec Tryz.prog 59 [tX t,tX u] (bv (Lz t u)):=tJ t u hw hwu
def u4 (v:Nat) (l:List T):Fam:=⟨fun r p=>if p=[] then ⟨1,.cells [.osl (r::[0]) v 3 0 l.length]⟩ else if p=[0] then ⟨v,.arr 3 (l.map tA)⟩ else ⟨0,.none⟩,fun {γ δ r r'} hg hd p=>by
  by_cases h1:p=[]
  ·rw[if_pos h1,if_pos h1]
   refine Fam.cells_ren ?_
   simp[A.renL,A.ren,hg,hd]
  ·rw[if_neg h1,if_neg h1]
   by_cases h2:p=[0]
   ·rw[if_pos h2]
    exact Fam.arr_ren ((FamL.all iq).ren hg hd)
   ·rw[if_neg h2];rfl,fun {D r} hD p=>by
  by_cases h1:p=[]
  ·rw[if_pos h1]
   simp[Ob.refs,A.refsL,A.refs,hD]
  ·rw[if_neg h1]
   by_cases h2:p=[0]
   ·rw[if_pos h2]
    exact(FamL.all iq).refs hD
   ·rw[if_neg h2];trivial⟩
@[simp] theorem Air {v:Nat} {l:List T} {r:Nat} {p:Nm}:(u4 v l).F r p=if p=[] then ⟨1,.cells [.osl (r::[0]) v 3 0 l.length]⟩ else if p=[0] then ⟨v,.arr 3 (l.map tA)⟩ else ⟨0,.none⟩:=rfl
noncomputable def ofU (v:Nat) (ks:List T) (t:T):Nat:=if GC ks t<ks.length then v else v+1
noncomputable def VE:Nat→List T→List T→Nat
 |v,_,[]=>v
 |v,ks,t::l=>VE (ofU v ks (Ai t)) (NB ks (Ai t)) l
theorem Te:∀ (l:List T) (u:Nat) (ks:List T) (t:T),VE u ks (l++[t])=ofU (VE u ks l) (Cd ks l).1 (Ai t)
 |[],u,ks,t=>by simp[VE,Cd]
 |a::l,u,ks,t=>by simp[VE,Cd,Te l]
theorem pI {ks:List T} {n:T} (h:∀ k,k ∈ ks→Ai k=k) (hn:Ai n=n):∀ k,k ∈ NB ks n→Ai k=k:=by
 unfold NB
 split
 ·exact h
 ·intro k hk
  rcases List.mem_append.1 hk with hk | hk
  ·exact h k hk
  ·simp at hk;subst hk;exact hn
theorem Ui:∀ {l ks:List T},(∀ k,k ∈ ks→Ai k=k)→∀ k,k ∈ (Cd ks l).1→Ai k=k
 |[],ks,h=>h
 |t::l,ks,h=>Ui (l:=l) (pI h (JA t))
section
variable {n0:Nat} {w0:World} {I0:Nat→Prop} {M0:Nm→Nat→Prop} {m0:Mu} {Q:Exit→Sta→Prop}
theorem AcW {ks:List T} (hw:∀ k,k ∈ ks→DI k) (hn:∀ k,k ∈ ks→Ai k=k) (hl:ks.length≤1000000) {t:T} (wt:DI t) (nt:Ai t=t) {v w i N y:Nat} {na:Nat} {acc:List Nat} (hna:na=acc.length) (hacc:acc.length≤1000000) {X:A}
  (hq:GC ks t=ks.length→∀ (st:List (Nat × A)) (H':Hp),(∀ p,H' (0::p)=(u4 v ks).F 0 p)→H' [1]=⟨y,.cells (tL t)⟩→H' [3]=⟨w,.arr 1 (acc.map nv)⟩→Q (.exit 2) ⟨lk ([(0,.pob [0] 1 0),(5,.osl [3] w 1 0 na),(7,.pob [1] y 0),(10,X),(11,iv N),(12,iv i)]++st),H'⟩)
  (hq2:GC ks t<ks.length→∀ (H':Hp),(∀ p,H' (0::p)=(u4 v ks).F 0 p)→H' [3]=⟨w+1,.arr 1 ((acc++[GC ks t]).map nv)⟩→Q (.exit 1) ⟨lk [(0,.pob [0] 1 0),(5,.osl [3] (w+1) 1 0 (na+1)),(10,X),(11,iv N),(12,iv i)],H'⟩) :
  ∀ (m j:Nat) (H:Hp),j+m=ks.length→(∀ (x:Nat) (hx:x<j) (h:x<ks.length),ks[x] ≠ t)→(∀ p,H (0::p)=(u4 v ks).F 0 p)→H [1]=⟨y,.cells (tL t)⟩→H [3]=⟨w,.arr 1 (acc.map nv)⟩ →
  LoopC (Ds Tryz.prog w0 I0 M0 n0 m0) Ei Q ⟨lk [(0,.pob [0] 1 0),(5,.osl [3] w 1 0 na),(7,.pob [1] y 0),(10,X),(11,iv N),(12,iv i),(19,.osl [0,0] v 3 0 ks.length),(20,iv ks.length),(21,iv j)],H⟩:=by
 subst hna
 intro m
 induction m with
 |zero=>
  intro j H hj hb hF h1 h3
  have:j=ks.length:=by omega
  subst this
  refine Ad Ak Ei.eq_1 ?_
  simp
  exact hq (XH fun hm=>by
   obtain⟨x,hx,e⟩:=List.mem_iff_getElem.1 hm
   exact hb x hx hx e) [(19,.osl [0,0] v 3 0 ks.length),(20,iv ks.length),(21,iv ks.length),(22,bv false)] H hF h1 h3
 |succ m ih=>
  intro j H hj hb hF h1 h3
  have hlt:j<ks.length:=by omega
  have ew:IntKind.i64.wrap ((j:Int)+1)=((j+1:Nat):Int):=Av
  have hF1:=hF [0]
  simp at hF1
  have hk:=BI hlt
  refine Ad Ak Ei.eq_1 ?_
  simp[hlt,hF1,h1,Aa]
  refine Ae (U3 (hw _ hk) wt) (by simp) ?_
  have hE:Lz ks[j] t=NM ks[j] t:=by unfold Lz;rw[hn _ hk,nt]
  rw[hE]
  by_cases he:ks[j]=t
  ·have hc:=dm hlt he fun x hx=>hb x hx (by omega)
   have hs:NM ks[j] t=true:=sameB_iff.2 he
   rw[hc] at hq2
   simp[hs,Aa,h3]
   refine⟨by omega,?_⟩
   simp[Cf]
   exact hq2 hlt _ (fun p=>by simp[Aa,hF]) (by simp[Aa,Bb])
  ·have hs:NM ks[j] t=false:=by rw[Bool.eq_false_iff];exact fun h=>he (sameB_iff.1 h)
   simp[hs,ew]
   refine ih (j+1) _ (by omega) (fun x hx h=>?_) (fun p=>by simp[Aa,hF]) (by simp[Aa,h1]) (by simp[Aa,h3])
   by_cases e:x=j
   ·subst e;exact he
   ·exact hb x (by omega) h
theorem AbR {ks0 ts:List T} (hw:∀ k,k ∈ ks0→DI k) (hn:∀ k,k ∈ ks0→Ai k=k) (ht:∀ k,k ∈ ts→DI k) (htn:∀ k,k ∈ ts→Ai k=k) (hl:ks0.length+ts.length≤1000000) {v0:Nat}
  (hq:∀ (st:List (Nat × A)) (H':Hp),(∀ p,H' (0::p)=(u4 (VE v0 ks0 ts) (Cd ks0 ts).1).F 0 p)→H' [3]=⟨ts.length+1,.arr 1 ((Cd ks0 ts).2.map nv)⟩→Q (.exit 0) ⟨lk ([(0,.pob [0] 1 0),(5,.osl [3] (ts.length+1) 1 0 ts.length)]++st),H'⟩) :
  ∀ (m i:Nat) (H:Hp),i+m=ts.length→(∀ p,H (0::p)=(u4 (VE v0 ks0 (ts.take i)) (Cd ks0 (ts.take i)).1).F 0 p)→H [3]=⟨i+1,.arr 1 ((Cd ks0 (ts.take i)).2.map nv)⟩ →
  LoopC (Ds Tryz.prog w0 I0 M0 n0 m0) Em Q ⟨lk [(0,.pob [0] 1 0),(5,.osl [3] (i+1) 1 0 i),(10,Co ts),(11,iv ts.length),(12,iv i)],H⟩:=by
 intro m
 induction m with
 |zero=>
  intro i H hi hF h3
  have:i=ts.length:=by omega
  subst this
  rw[Bb (Cc _)] at hF h3
  refine Ad Ak Em.eq_1 ?_
  simp
  exact hq [(10,Co ts),(11,iv ts.length),(12,iv ts.length),(13,bv false)] H hF h3
 |succ m ih=>
  intro i H hi hF h3
  have hlt:i<ts.length:=by omega
  have ew:IntKind.i64.wrap ((i:Int)+1)=((i+1:Nat):Int):=Av
  have htk:ts.take (i+1)=ts.take i++[ts[i]]:=Hj hlt
  have hti:=BI hlt
  have nt:=htn _ hti
  have hlen:=UD (ts.take i) ks0
  rw[List.length_take,Nat.min_eq_left (by omega)] at hlen
  have hkw:=X9 hw (l:=ts.take i) fun k hk=>ht k (Qo hk)
  have hkn:=Ui hn (l:=ts.take i) 
  have hlL:(Cd ks0 (ts.take i)).2.length=i:=by rw[Cq,List.length_take,Nat.min_eq_left (by omega)]
  have ihn:=ih (i+1)
  rw[htk,Te,NJ,nt] at ihn
  simp only at ihn
  have hF0:=hF []
  have hF1:=hF [0]
  simp at hF0 hF1
  generalize hv:VE v0 ks0 (ts.take i)=v at *
  generalize hL:(Cd ks0 (ts.take i)).2=L at *
  generalize hK:(Cd ks0 (ts.take i)).1=K at *
  refine Ad Ak Em.eq_1 ?_
  simp[hlt,hF0,Aa]
  refine LoopC.le (AA [(0,.pob [0] 1 0),(5,.osl [3] (i+1) 1 0 i),(7,.pob [1] ((H [1]).u+1) 0),(10,Co ts),(11,iv ts.length),(12,iv i),(19,.osl [0,0] v 3 0 K.length),(20,iv K.length),(21,iv (0:Nat))] (by simp)) ?_
  refine AcW hkw hkn (by omega) (ht _ hti) nt (v:=v) (w:=i+1) (i:=i) (N:=ts.length) (acc:=L) hlL.symm (by omega) (X:=Co ts) (y:=(H [1]).u+1) (fun hc st H' g0 g1 g3=>?_) (fun hc H' g0 g3=>?_) K.length 0 _ (by omega) (fun x hx=>by omega) (fun p=>by simp[hF,Aa]) (by simp[Aa]) (by simp[Aa,h3])
  ·have g00:=g0 []
   have g01:=g0 [0]
   simp at g00 g01
   rw[hc] at ihn
   have hcK:NB K ts[i]=K++[ts[i]]:=by unfold NB;rw[if_neg (by omega)]
   have hcU:ofU v K ts[i]=v+1:=by unfold ofU;rw[if_neg (by omega)]
   rw[hcK,hcU] at ihn
   simp[Cf,g00,g01,g1,g3,hlL,Aa]
   refine⟨by omega,by omega,by omega,?_⟩
   rw[ew]
   refine ihn _ (by omega) (fun p=>?_) (by simp[Aa,hlL,Bb])
   by_cases h1:p=[]
   ·subst h1;simp[Aa]
   ·by_cases h2:p=[0]
    ·subst h2;simp[Aa,Bb]
    ·simp[h1,h2,Aa,g0]
  ·have hcK:NB K ts[i]=K:=by unfold NB;rw[if_pos hc]
   have hcU:ofU v K ts[i]=v:=by unfold ofU;rw[if_pos hc]
   rw[hcK,hcU] at ihn
   simp[Cf,ew]
   exact ihn _ (by omega) g0 g3
end
theorem VV {ks ts:List T} (hw:∀ k,k ∈ ks→DI k) (hn:∀ k,k ∈ ks→Ai k=k) (ht:∀ k,k ∈ ts→DI k) (htn:∀ k,k ∈ ts→Ai k=k) (hl:ks.length+ts.length≤1000000) (v:Nat) :
  Bg Tryz.prog 118 (fun r=>[.pob [r] 1 0,Co ts]) (u4 v ks) (fun r=>.sl false ((Cd ks ts).2.map nv)) (u4 (VE v ks ts) (Cd ks ts).1):=by
 refine Lw QF (by simp) (Ah AG (Ah Dw Am)) Dw fun w0 I0 M0 m0 hM=>?_
 unfold Km
 simp
 refine LoopC.le (FP 5 [3] 1 (by simp)) ?_
 refine LoopC.le (AA [(0,.pob [0] 1 0),(5,.osl [3] (0+1) 1 0 0),(10,Co ts),(11,iv ts.length),(12,iv (0:Nat))] (by simp[upd])) ?_
 refine AbR hw hn ht htn hl (v0:=v) (fun st H' g0 g3=>?_) ts.length 0 _ (by omega) (fun p=>?_) ?_
 ·simp
  obtain⟨H2,k1,k2⟩:=Vp (c:=Ds Tryz.prog w0 I0 M0 55 m0) (s:=lk [(5,.osl [3] (ts.length+1) 1 0 ts.length)]) (H:=H') (fun r=>1≤r) (fun r p b hr=>hM r p b hr) 5 (.sl false ((Cd ks ts).2.map nv)) (fun H1 e1=>by
   have e2:H1 [3]=H' [3]:=e1 3 [] (by omega)
   simp
   exact BQ (o:=[3]) (u:=ts.length+1) (n:=ts.length) (sz:=1) (l:=(Cd ks ts).2) (f:=nv) (by rw[e2,g3];simp) (Cq ts ks).symm (fun x=>rfl))
  refine Dv k1 (Dn ?_)
  simp[upd]
  exact AZ rfl rfl fun p=>(k2 0 p (by omega)).trans (g0 p)
 ·simp[Cd,VE]
 ·simp[Cd]
end Go.Proofs.YtbjmaoedheiigaaGreat
namespace Go.PL
def QZ:List Int→List Int→Nat
 |a::l,b::m=>(if a=b then 1 else 0)+QZ l m
 |_,_=>0
noncomputable def X8:List T→List T→Nat
 |a::l,b::m=>(if Lz a b=true then 1 else 0)+X8 l m
 |_,_=>0
noncomputable def JH (a b:T):Nat:=if a.kind ≠ b.kind∨a.kind=0∨a.kind=10 then 0 else 1+QZ a.words b.words+X8 a.kids b.kids
theorem sq {l m:List Int} {i:Nat} (h1:i<l.length) (h2:i<m.length):QZ (l.drop i) (m.drop i)=(if l[i]=m[i] then 1 else 0)+QZ (l.drop (i+1)) (m.drop (i+1)):=by
 rw[(List.getElem_cons_drop h1).symm,(List.getElem_cons_drop h2).symm,QZ]
theorem sc {l m:List T} {i:Nat} (h1:i<l.length) (h2:i<m.length):X8 (l.drop i) (m.drop i)=(if Lz l[i] m[i]=true then 1 else 0)+X8 (l.drop (i+1)) (m.drop (i+1)):=by
 rw[(List.getElem_cons_drop h1).symm,(List.getElem_cons_drop h2).symm,X8]
theorem pd {l m:List Int} {i:Nat} (h:i=min l.length m.length):QZ (l.drop i) (m.drop i)=0:=by
 by_cases h1:i=l.length
 ·rw[List.drop_eq_nil_of_le (by omega:l.length≤i)];cases m.drop i<;>rfl
 ·rw[List.drop_eq_nil_of_le (by omega:m.length≤i)];cases l.drop i<;>rfl
theorem nb {l m:List T} {i:Nat} (h:i=min l.length m.length):X8 (l.drop i) (m.drop i)=0:=by
 by_cases h1:i=l.length
 ·rw[List.drop_eq_nil_of_le (by omega:l.length≤i)];cases m.drop i<;>rfl
 ·rw[List.drop_eq_nil_of_le (by omega:m.length≤i)];cases l.drop i<;>rfl
theorem cA:∀ l m,QZ l m≤l.length
 |[],_=>by simp[QZ]
 |_::_,[]=>by simp[QZ]
 |a::l,b::m=>by
  have:=cA l m
  unfold QZ
  simp
  split<;>omega
end Go.PL
namespace Go.PL
open List
theorem Sa:∀ {rs:List (List Int)} {i:Nat} {x:Sc},x ∈ Hl i rs→i≤x.i∧x.i<16∧x.j<16∧0<x.n∧∃ r,rs[x.i-i]? = some r∧r[x.j]? = some x.n
 |[],i,x,h=>by simp[Hl] at h
 |r::rs,i,x,h=>by
  unfold Hl at h
  rcases List.mem_append.1 h with h | h
  ·obtain⟨h1,h2,h3,h4,h5,h6,h7⟩:=aB h
   exact⟨by omega,by omega,h3,h7,r,by rw[h1];simp,by simpa using h6⟩
  ·obtain⟨h1,h2,h3,h4,r',h5,h6⟩:=Sa h
   refine⟨by omega,h2,h3,h4,r',?_,h6⟩
   rw[show x.i-i=(x.i-(i+1))+1 by omega]
   simpa using h5
end Go.PL
namespace Go.Proofs.YtbjmaoedheiigaaGreat
open Go Go.G Go.Proofs Go.PL
theorem Tt (rs:List (List Int)):∃ o',MC (Hl 0 rs) [] o'∧o'.length≤16:=by
 obtain⟨o',h⟩:=kB (all:=Hl 0 rs) (by have:=RR (rs:=rs) (i:=0);omega)
 obtain⟨h1,h2⟩:=Iq h
 refine⟨o',h,?_⟩
 have hs:=R6 h1
 rw[← hs.2.length_eq]
 have:=Xv (Ss o') 0 16 hs.1 fun x hx=>⟨by omega,(Sa (h2 x (hs.2.subset hx))).2.1⟩
 omega
noncomputable def O3 (a b:List T):List (List Int):=a.map fun x=>b.map fun y=>(JH x y:Int)
noncomputable def pkO (rs:List (List Int)):List Sc:=(Tt rs).choose
noncomputable def cG (rs:List (List Int)):List Sc:=Ss (pkO rs)
theorem eH (rs:List (List Int)):MC (Hl 0 rs) [] (pkO rs)∧(pkO rs).length≤16:=(Tt rs).choose_spec
def NP (one:T→T→E) (a b:List T):List Sc→Nat→Nat→List OP→List OP
 |[],i,j,out=>out++En (a.drop i)++Ed (b.drop j)
 |x::xs,i,j,out=>NP one a b xs (x.i+1) (x.j+1) (out++En ((a.take x.i).drop i)++Ed ((b.take x.j).drop j)++[.mk 3 0 [] (one (a.getD x.i T0) (b.getD x.j T0))])
noncomputable def FK (one:T→T→E) (a b:List T):List OP:=NP one a b (cG (O3 a b)) 0 0 []
def Dg (gap:List T→List T→List OP):List Sp→List T→List T→List OP→List OP
 |[],_,_,out=>out
 |[s],a,b,out=>if s.k=0 then out++[.mk 0 s.n [] E0] else if s.k=2 then out++Ed (b.take s.n) else out++En (a.take s.n)
 |s::s2::ss,a,b,out=>
  if s.k=0 then Dg gap (s2::ss) (a.drop s.n) (b.drop s.n) (out++[.mk 0 s.n [] E0])
  else if s.k=2 then Dg gap (s2::ss) a (b.drop s.n) (out++Ed (b.take s.n))
  else if s2.k=2 then Dg gap ss (a.drop s.n) (b.drop s2.n) (out++gap (a.take s.n) (b.take s2.n))
  else Dg gap (s2::ss) (a.drop s.n) b (out++En (a.take s.n))
abbrev rE (l:List Nat):List Int:=l.map fun n:Nat=>(n:Int)
noncomputable def Ox (a:T):List Int:=rE (Cd [] a.kids).2
noncomputable def Oz (a b:T):List Int:=rE (Cd (Cd [] a.kids).1 b.kids).2
noncomputable def Mw (one:T→T→E) (most:Int) (a b:T):E:=
 .mk 3 T0 T0 [] [] a.kind (if (CB (Ox a) (Oz a b):Int)≤most then Dg (FK one) (Kf (Hk (Ox a) (Oz a b))) a.kids b.kids [] else FK one a.kids b.kids)
def GD (a b:T) (m:Nat):List WE:=(List.range m).filterMap fun i=>if NI (a.words.getD i 0) (b.words.getD i 0)=0 then none else some (wdE i (a.words.getD i 0) (b.words.getD i 0))
def CS (one:T→T→E) (a b:T) (m:Nat):List KE:=(List.range m).filterMap fun i=>if (one (a.kids.getD i T0) (b.kids.getD i T0)).kind=0 then none else some (.mk i (one (a.kids.getD i T0) (b.kids.getD i T0)))
def Wl (one:T→T→E) (a b:T):E:=.mk 2 T0 T0 (GD a b (max a.words.length b.words.length)) (CS one a b (max a.kids.length b.kids.length)) 0 []
noncomputable def NY (most:Int):Nat→T→T→E
 |0,a,b=>if Lz a b=true then E0 else .mk 1 a b [] [] 0 []
 |f+1,a,b=>if Lz a b=true then E0 else if a.kind=1∧b.kind=1 then Wl (NY most f) a b else if a.kind=b.kind∧2≤a.kind∧a.kind≤9 then Mw (NY most f) most a b else .mk 1 a b [] [] 0 []
def dA (us:List Nat):Nat:=us.countP fun x=>x != 2
def dB (us:List Nat):Nat:=us.countP fun x=>x != 1
theorem EX (n k:Nat):dA (List.replicate n k)=if k=2 then 0 else n:=by unfold dA;rw[List.countP_replicate];by_cases h:k=2<;>simp[h]
theorem E5 (n k:Nat):dB (List.replicate n k)=if k=1 then 0 else n:=by unfold dB;rw[List.countP_replicate];by_cases h:k=1<;>simp[h]
theorem Ez (a b:List Nat):dA (a++b)=dA a+dA b:=List.countP_append
theorem Ey (a b:List Nat):dB (a++b)=dB a+dB b:=List.countP_append
theorem YU:∀ (us:List Nat) (k d i:Nat),(∀ x,x ∈ us→x≤2)→dA (A6 (RD us k d i))=k+d+dA us∧dB (A6 (RD us k d i))=k+i+dB us
 |[],k,d,i,_=>by
  simp only[RD,RL,ZC,Ez,Ey,EX,E5]
  simp[dA,dB]
 |x::us,k,d,i,h=>by
  have hx:=h x (by simp)
  have hu:∀ y,y ∈ us→y≤2:=fun y hy=>h y (by simp[hy])
  have e1:dA (x::us)=(if x=2 then 0 else 1)+dA us:=by
   have:=Ez [x] us
   rw[show [x]=List.replicate 1 x from rfl,EX] at this
   simpa using this
  have e2:dB (x::us)=(if x=1 then 0 else 1)+dB us:=by
   have:=Ey [x] us
   rw[show [x]=List.replicate 1 x from rfl,E5] at this
   simpa using this
  rw[e1,e2,RD]
  have hx3:x=0∨x=1∨x=2:=by omega
  rcases hx3 with rfl | rfl | rfl
  ·obtain⟨h1,h2⟩:=YU us (k+1) 0 0 hu
   simp only[if_true,RL,ZC,Ez,Ey,EX,E5,h1,h2]
   simp
   omega
  ·obtain⟨h1,h2⟩:=YU us 0 (d+1) i hu
   simp[Ez,Ey,EX,E5,h1,h2]
   omega
  ·obtain⟨h1,h2⟩:=YU us 0 d (i+1) hu
   simp[Ez,Ey,EX,E5,h1,h2]
   omega
theorem RS (us:List Nat) (h:∀ x,x ∈ us→x≤2):dA (A6 (Kf us))=dA us∧dB (A6 (Kf us))=dB us:=by
 have:=YU us 0 0 0 h
 unfold Kf
 omega
theorem Zf:∀ (us:List Nat) (k d i:Nat),(∀ x,x ∈ us→x≤2)→∀ s,s ∈ RD us k d i→s.k≤2∧1≤s.n
 |[],k,d,i,_,s,hs=>by
  simp only[RD,List.mem_append] at hs
  rcases hs with hs | hs | hs<;>(unfold fl at hs;split at hs<;>simp at hs;subst hs;simp;omega)
 |x::us,k,d,i,h,s,hs=>by
  have hu:∀ y,y ∈ us→y≤2:=fun y hy=>h y (by simp[hy])
  rw[RD] at hs
  have fin:∀ q n,q≤2→s ∈ fl q n→s.k≤2∧1≤s.n:=fun q n hq hs=>by
   unfold fl at hs;split at hs<;>simp at hs;subst hs;simp;omega
  split at hs
  ·simp only[List.mem_append] at hs
   rcases hs with hs | hs | hs
   ·exact fin 1 _ (by omega) hs
   ·exact fin 2 _ (by omega) hs
   ·exact Zf us _ _ _ hu s hs
  ·rw[List.mem_append] at hs
   rcases hs with hs | hs
   ·exact fin 0 _ (by omega) hs
   ·split at hs
    ·exact Zf us _ _ _ hu s hs
    ·exact Zf us _ _ _ hu s hs
theorem tB (p q:Nat):∀ x,x ∈ OK p q→x≤2:=by
 intro x hx
 unfold OK at hx
 split at hx
 ·rcases List.mem_append.1 hx with h | h
  ·have:=List.eq_of_mem_replicate h;omega
  ·simp at h;omega
 ·simp at hx;omega
theorem wo {p q:Nat} (h:p≤q):dA (OK p q)=1∧dB (OK p q)=q-p:=by
 unfold OK
 split
 ·rw[Ez,Ey,EX,E5]
  simp[dA,dB]
  omega
 ·simp[dA,dB]
  omega
theorem TZ (a b:List Int):∀ x,x ∈ Hk a b→x≤2:=by
 intro x hx
 unfold Hk at hx
 rcases List.mem_append.1 hx with h | h
 ·obtain⟨i,_,hi⟩:=List.mem_flatMap.1 h
  exact tB _ _ x hi
 ·have:=List.eq_of_mem_replicate h;omega
theorem iT (a b:List Int):∀ n,n≤a.length→dA ((List.range n).flatMap (fun i=>OK (Cy a b i) (Cy a b (i+1))))=n∧dB ((List.range n).flatMap (fun i=>OK (Cy a b i) (Cy a b (i+1))))=Cy a b n
 |0,_=>by simp[dA,dB,Vy]
 |n+1,h=>by
  obtain⟨h1,h2⟩:=iT a b n (by omega)
  have hm:=VT (a:=a) (b:=b) (i:=n) (h:=n+1) (by omega) h
  obtain⟨g1,g2⟩:=wo hm
  rw[List.range_succ,List.flatMap_append,Ez,Ey,h1,h2]
  simp[g1,g2]
  omega
theorem Yl (a b:List Int):dA (Hk a b)=a.length∧dB (Hk a b)=b.length:=by
 obtain⟨h1,h2⟩:=iT a b a.length (Cc _)
 have hl:=(IB (a:=a) (b:=b) (i:=a.length) (Cc _)).2.1
 unfold Hk
 rw[Ez,Ey,h1,h2,EX,E5]
 simp
 omega
abbrev prs (l:List Sc):A:=.sl false (l.map Kz)
variable {n0:Nat} {w0:World} {I0:Nat→Prop} {Q:Exit→Sta→Prop}
theorem xk {a b:T} {H:Hp} (ha:DI a) (hb:DI b) (h0:H [0]=⟨1,.cells (tL a)⟩) (h1:H [1]=⟨1,.cells (tL b)⟩):∀ (m i n:Nat),i+m=min a.words.length b.words.length→n≤1+i →
  (∀ st,Q (.exit 0) ⟨lk ([(2,.pob [0] 1 0),(3,.pob [1] 1 0),(5,nv (n+QZ (a.words.drop i) (b.words.drop i)))]++st),H⟩) →
  LoopC (cx Tryz.prog w0 I0 n0) HN Q ⟨lk [(2,.pob [0] 1 0),(3,.pob [1] 1 0),(5,nv n),(29,iv (min a.words.length b.words.length:Nat)),(30,iv i)],H⟩:=by
 have hal:=(wfT_iff.1 ha).wl
 intro m
 induction m with
 |zero=>
  intro i n hm hn hq
  refine Ad Ak HN.eq_1 ?_
  rw[pd (by omega)] at hq
  generalize min a.words.length b.words.length=N at *
  simp[show ¬ i<N by omega]
  exact hq [(29,iv N),(30,iv i),(31,bv false)]
 |succ m ih=>
  intro i n hm hn hq
  have hi:i<a.words.length:=by omega
  have hj:i<b.words.length:=by omega
  have e1:IntKind.i64.wrap ((i:Int)+1)=((i+1:Nat):Int):=Av
  have e2:IntKind.i64.wrap ((n:Int)+1)=((n+1:Nat):Int):=Av
  rw[sq hi hj] at hq
  generalize min a.words.length b.words.length=N at *
  have hN:i<N:=by omega
  refine Ad Ak HN.eq_1 ?_
  by_cases h:a.words[i]=b.words[i]
  ·simp[h0,h1,hi,hj,hN,h,e1,e2]
   refine ih (i+1) (n+1) (by omega) (by omega) fun st=>?_
   have:=hq st
   rw[if_pos h] at this
   rw[show n+1+QZ (a.words.drop (i+1)) (b.words.drop (i+1))=n+(1+QZ (a.words.drop (i+1)) (b.words.drop (i+1))) by omega]
   exact this
  ·simp[h0,h1,hi,hj,hN,h,e1]
   refine ih (i+1) n (by omega) (by omega) fun st=>?_
   have:=hq st
   rw[if_neg h,Nat.zero_add] at this
   exact this
theorem xt {a b:T} {H:Hp} (ha:DI a) (hb:DI b) (h0:H [0]=⟨1,.cells (tL a)⟩) (h1:H [1]=⟨1,.cells (tL b)⟩):∀ (m i n:Nat),i+m=min a.kids.length b.kids.length→n≤100000000000000+i →
  (∀ st,Q (.exit 2) ⟨lk ([(2,.pob [0] 1 0),(3,.pob [1] 1 0),(5,nv (n+X8 (a.kids.drop i) (b.kids.drop i)))]++st),H⟩) →
  LoopC (cx Tryz.prog w0 I0 n0) HS Q ⟨lk [(2,.pob [0] 1 0),(3,.pob [1] 1 0),(5,nv n),(53,iv (min a.kids.length b.kids.length:Nat)),(54,iv i)],H⟩:=by
 have hal:=(wfT_iff.1 ha).kl
 intro m
 induction m with
 |zero=>
  intro i n hm hn hq
  refine Ad Ak HS.eq_1 ?_
  rw[nb (by omega)] at hq
  generalize min a.kids.length b.kids.length=N at *
  simp[show ¬ i<N by omega]
  exact hq [(53,iv N),(54,iv i),(55,bv false)]
 |succ m ih=>
  intro i n hm hn hq
  have hi:i<a.kids.length:=by omega
  have hj:i<b.kids.length:=by omega
  have e1:IntKind.i64.wrap ((i:Int)+1)=((i+1:Nat):Int):=Av
  have e2:IntKind.i64.wrap ((n:Int)+1)=((n+1:Nat):Int):=Av
  have hE:=U3 ((wfT_iff.1 ha).ks _ (BI hi)) ((wfT_iff.1 hb).ks _ (BI hj))
  rw[sc hi hj] at hq
  generalize min a.kids.length b.kids.length=N at *
  have hN:i<N:=by omega
  refine Ad Ak HS.eq_1 ?_
  simp[h0,h1,hi,hj,hN]
  refine Ae hE (by simp) ?_
  cases h:Lz a.kids[i] b.kids[i] with
  |true=>
   simp[e1,e2]
   refine ih (i+1) (n+1) (by omega) (by omega) fun st=>?_
   have:=hq st
   rw[if_pos h] at this
   rw[show n+1+X8 (a.kids.drop (i+1)) (b.kids.drop (i+1))=n+(1+X8 (a.kids.drop (i+1)) (b.kids.drop (i+1))) by omega]
   exact this
  |false=>
   simp[e1]
   refine ih (i+1) n (by omega) (by omega) fun st=>?_
   have:=hq st
   rw[if_neg (by rw[h];decide),Nat.zero_add] at this
   exact this
theorem ZF {a b:T} (ha:DI a) (hb:DI b):G.Spec Tryz.prog 202 [tX a,tX b] (nv (JH a b)):=by
 have hal:=(wfT_iff.1 ha).wl
 refine Al Zm (by simp) fun w0 I0=>?_
 unfold QU
 by_cases hk:a.kind=b.kind
 ·by_cases h0:b.kind=0
  ·simp[hk,h0]
   exact Ca (by simp[JH,hk,h0])
  ·by_cases h10:b.kind=10
   ·simp[hk,h0,h10]
    exact Ca (by simp[JH,hk,h10])
   ·simp[hk,h0,h10]
    refine LoopC.le (AA [(2,.pob [0] 1 0),(3,.pob [1] 1 0),(5,nv 1),(29,iv (min a.words.length b.words.length:Nat)),(30,iv (0:Nat))] (by simp;omega)) ?_
    refine xk ha hb (by simp[Aa,hk]) (by simp[Aa]) _ 0 1 (Nat.zero_add _) (by omega) fun st=>?_
    simp
    refine LoopC.le (AA [(2,.pob [0] 1 0),(3,.pob [1] 1 0),(5,nv (1+QZ a.words b.words)),(53,iv (min a.kids.length b.kids.length:Nat)),(54,iv (0:Nat))] (by simp;omega)) ?_
    have:=cA a.words b.words
    refine xt ha hb (by simp[Aa,hk]) (by simp[Aa]) _ 0 _ (Nat.zero_add _) (by omega) fun st=>?_
    simp
    refine Ca ?_
    simp[JH,hk,h0,h10]
 ·simp[hk]
  exact Ca (by simp[JH,hk])
theorem ow {t:T} (hl:t.kids.length*56≤140737488355328) (ih:∀ c,c ∈ t.kids→G.Spec Tryz.prog 31 [tX c] (tX (Ai c))) {v v0:VOb} {k w:A}:∀ (m i:Nat) (u:Nat) (H:Hp),i+m=t.kids.length→H [0]=v0→H [1]=v→H [2]=⟨1,.cells [k,w,.osl [4] u 3 0 i]⟩→H [4]=⟨u,.arr 3 ((t.kids.take i).map (tA ∘ Ai))⟩ →
  (∀ i' q (u':Nat) (H':Hp),H' [0]=v0→H' [1]=v→H' [2]=⟨1,.cells [k,w,.osl [4] u' 3 0 t.kids.length]⟩→H' [4]=⟨u',.arr 3 (t.kids.map (tA ∘ Ai))⟩→Q (.exit 0) ⟨lk [(1,.pob [0] 1 0),(2,.pob [1] 1 0),(3,.pob [2] 1 0),(17,Co t.kids),(18,iv t.kids.length),(19,iv i'),(20,bv q)],H'⟩) →
  LoopC (cx Tryz.prog w0 I0 n0) Js Q ⟨lk [(1,.pob [0] 1 0),(2,.pob [1] 1 0),(3,.pob [2] 1 0),(17,Co t.kids),(18,iv t.kids.length),(19,iv i)],H⟩:=by
 intro m
 induction m with
 |zero=>
  intro i u H hi hA hR hO hB hq
  have:i=t.kids.length:=by omega
  subst this
  refine Ad Ak Js.eq_1 ?_
  simp
  exact hq _ _ u H hA hR hO (by rw[hB];simp)
 |succ m ihm=>
  intro i u H hi hA hR hO hB hq
  have hlt:i<t.kids.length:=by omega
  have ei:IntKind.i64.wrap ((i:Int)+1)=((i+1:Nat):Int):=Af (by omega) (by omega)
  refine Ad Ak Js.eq_1 ?_
  simp[hlt,Aa,hO]
  refine Ae (ih _ (BI hlt)) rfl ?_
  simp[Aa,hO,hB]
  have hrow:=aq (f:=tA ∘ Ai) hlt (x:=tX (Ai t.kids[i])) (by simp)
  rw[hrow,ei]
  refine⟨⟨by omega,by omega⟩,?_⟩
  exact ihm (i+1) (u+1) _ (by omega) (by simp[Aa,hA]) (by simp[Aa,hR]) (by simp[Aa]) (by simp[Aa]) hq
theorem ni {w:List Int} (hl:w.length*8≤140737488355328) {v v4:VOb} {K:A}:∀ (n:Nat) (H:Hp),n≤w.length→BX (w.take n)=BX w→H [1]=v→H [2]=⟨1,.cells [iv 1,DP (w.take n),K]⟩→H [4]=v4 →
  (∀ q (H':Hp),H' [1]=v→H' [2]=⟨1,.cells [iv 1,DP (BX w),K]⟩→H' [4]=v4→Q (.exit 2) ⟨lk [(2,.pob [1] 1 0),(3,.pob [2] 1 0),(48,bv q)],H'⟩) →
  LoopC (cx Tryz.prog w0 I0 n0) Jm Q ⟨lk [(2,.pob [1] 1 0),(3,.pob [2] 1 0)],H⟩:=by
 intro n
 induction n with
 |zero=>
  intro H hn ht hR hO hB hq
  refine Ad Ak Jm.eq_1 ?_
  simp[hO]
  refine hq _ H hR ?_ hB
  rw[← ht]
  simpa using hO
 |succ n ihn=>
  intro H hn ht hR hO hB hq
  have hlt:n<w.length:=by omega
  have en:IntKind.i64.wrap (n:Int)=n:=Af (by omega) (by omega)
  have emin:min (n+1) w.length=n+1:=by omega
  refine Ad Ak Jm.eq_1 ?_
  by_cases h0:w[n]=0
  ·have hnn:(n:Int)<n+1:=by omega
   have hnn':(n:Int)≤n+1:=by omega
   have hs:List.take n (List.take (n+1) (List.map uv w))=(w.take n).map uv:=by rw[List.take_take,Nat.min_eq_left (by omega),List.map_take]
   simp[hO,emin,en,hlt,h0,hnn,hnn',hs]
   exact ihn _ (by omega) (by rw[← PV hlt h0];exact ht) (by simp[Aa,hR]) (by simp[Aa]) (by simp[Aa,hB]) hq
  ·have hnn:(n:Int)<n+1:=by omega
   simp[hO,emin,en,hlt,h0,hnn]
   refine hq _ H hR ?_ hB
   rw[hO,← ht,PT hlt h0]
theorem pG {l:List T} (hl:l.length*56≤140737488355328) {v:VOb} {W:A} {u:Nat}:∀ (n:Nat) (H:Hp),n≤l.length→BA (l.take n)=BA l→H [1]=v→H [2]=⟨1,.cells [iv 1,W,.osl [4] u 3 0 n]⟩→H [4]=⟨u,.arr 3 (l.map (tA ∘ Ai))⟩ →
  (∀ q (H':Hp),H' [1]=v→H' [2]=⟨1,.cells [iv 1,W,.osl [4] u 3 0 (BA l).length]⟩→H' [4]=⟨u,.arr 3 (l.map (tA ∘ Ai))⟩→Q (.exit 4) ⟨lk [(2,.pob [1] 1 0),(3,.pob [2] 1 0),(72,bv q)],H'⟩) →
  LoopC (cx Tryz.prog w0 I0 n0) Jo Q ⟨lk [(2,.pob [1] 1 0),(3,.pob [2] 1 0)],H⟩:=by
 intro n
 induction n with
 |zero=>
  intro H hn ht hR hO hB hq
  refine Ad Ak Jo.eq_1 ?_
  simp[hO]
  refine hq _ H hR ?_ hB
  rw[← ht]
  simpa using hO
 |succ n ihn=>
  intro H hn ht hR hO hB hq
  have hlt:n<l.length:=by omega
  have en:IntKind.i64.wrap (n:Int)=n:=Af (by omega) (by omega)
  have hnn:(n:Int)<n+1:=by omega
  have hnn':(n:Int)≤n+1:=by omega
  refine Ad Ak Jo.eq_1 ?_
  by_cases h0:l[n].kind=0
  ·simp[hO,hB,en,hlt,h0,hnn,hnn']
   exact ihn _ (by omega) (by rw[← PZ hlt h0];exact ht) (by simp[Aa,hR]) (by simp[Aa]) (by simp[Aa,hB]) hq
  ·simp[hO,hB,en,hlt,h0,hnn]
   refine hq _ H hR ?_ hB
   rw[hO,← ht,P2 hlt h0]
   simp;omega
theorem L5:∀ (t:T),DI t→G.Spec Tryz.prog 31 [tX t] (tX (Ai t)):=by
 refine T.ind fun k w l ih hw=>?_
 have hw':=wfT_iff.1 hw
 have hwl:=hw'.wl
 have hkl:=hw'.kl
 simp at hwl hkl
 refine Al Z0 (by simp) fun w0 I0=>?_
 unfold Td
 rw[BG]
 by_cases h0:k=0
 ·simp[h0]
  exact XV
 ·simp[h0]
  refine Ae (PR false w hwl).spec rfl ?_
  simp
  refine LoopC.le (Bv (d:=[2]) 2 [4] 3 rfl rfl (by simp)) ?_
  simp
  refine ow (t:=.mk k w l) (k:=iv k) (w:=DP w) (by simpa using hkl) (fun c hc=>ih c hc (hw'.ks c hc)) l.length 0 1 _ (by simp) rfl rfl (by simp) (by simp) fun i' q u' H' hA hR hO hB=>?_
  by_cases h1:k=1
  ·subst h1
   simp at hA hR hO hB
   simp[hA,hR,hO,hB]
   refine LoopC.le (AA [(2,.pob [1] 1 0),(3,.pob [2] 1 0)] (by simp)) ?_
   refine ni hwl w.length _ (Cc _) (by rw[Bb (Cc _)]) hR (by rw[hO,Bb (Cc _)]) hB fun q H2 hR2 hO2 hB2=>?_
   simp
   refine pG hkl l.length _ (Cc _) (by rw[Bb (Cc _)]) hR2 hO2 hB2 fun q H3 hR3 hO3 hB3=>?_
   simp[hO3,hR3,Aa]
   refine Dd ?_
   simp
   rw[N6]
   refine⟨Ab rfl,Ab rfl,?_⟩
   have:=UW (H:=AQ H3 [1] ⟨1,.cells [iv 1,DP (BX w),A.osl [4] u' 3 0 (BA l).length]⟩) (o:=[4]) (u:=u') (sz:=3) (l:=l) (f:=tA ∘ Ai) (by simp[Aa,hB3]) (Iu l) (by simp)
   rw[← List.map_take]
   show Jw _ _ (A.sl false (((l.take (BA l).length).map Ai).map tA))
   rw[List.map_map]
   exact this
  ·simp at hA hR hO hB
   simp[hA,hR,hO,hB,h1,Aa]
   refine Dd ?_
   simp
   refine⟨Ab rfl,Ab rfl,?_⟩
   have:=BQ (H:=AQ H' [1] ⟨1,.cells [iv k,DP w,A.osl [4] u' 3 0 l.length]⟩) (o:=[4]) (u:=u') (sz:=3) (l:=l) (f:=tA ∘ Ai) (by simp[Aa,hB]) rfl (by simp)
   show Jw _ _ (A.sl false ((l.map Ai).map tA))
   rw[List.map_map]
   exact this
end Go.Proofs.YtbjmaoedheiigaaGreat
namespace Go.PL
def bN (ws:List WE):Prop:=∀ w,w ∈ ws→0≤w.mask∧w.mask<256
end Go.PL
namespace Go.Proofs.YtbjmaoedheiigaaGreat
open Go Go.G Go.Proofs Go.PL
theorem iX {t:T} (h:DI t) (i:Nat):BN (wdT t i):=by
 unfold wdT
 rw[List.getD_eq_getElem?_getD]
 cases e:t.words[i]? with
 |none=>exact⟨by simp,by simp⟩
 |some x=>exact(wfT_iff.1 h).w x (List.mem_of_getElem? e)
variable {n0:Nat} {w0:World} {I0:Nat→Prop} {Q:Exit→Sta→Prop}
inductive WI where
 |keep (n:Int)
 |del (k v:Nat) (l:List T)
 |ins (k v:Nat) (l:List T)
 |desc (e:E)
def WI.op:WI→OP
 |.keep n=>.mk 0 n [] E0
 |.del _ _ l=>.mk 1 0 l E0
 |.ins _ _ l=>.mk 2 0 l E0
 |.desc e=>.mk 3 0 [] e
def DG:List A:=[iv 0,iv 0,.sl true [],.sl true [],iv 0,.sl true [],.sl true [],.sl true [],.sl true [],iv 0,.sl true []]
def V8 (r:Nat):WI→List A
 |.keep n=>iv 0::iv n :: .sl true []::DG
 |.del k v l=>iv 1::iv 0 :: .osl (r::[k]) v 3 0 l.length::DG
 |.ins k v l=>iv 2::iv 0 :: .osl (r::[k]) v 3 0 l.length::DG
 |.desc e=>iv 3::iv 0 :: .sl true []::eL e
def S5 (r:Nat) (x:WI):A:=.agg (V8 r x)
@[simp] theorem Aap {r:Nat} {x:WI}:(S5 r x).cells=V8 r x:=rfl
@[simp] theorem Agm {r:Nat} {x:WI}:(V8 r x).length=14:=by cases x<;>rfl
theorem tM {g:Nm→Nm} {δ:Nm→Nat} {r r':Nat} (hg:∀ p,g (r::p)=r'::p) (hd:∀ p,δ (r::p)=0) (x:WI):A.renL g δ (V8 r x)=V8 r' x:=by
 cases x<;>simp[V8,DG,A.renL,A.ren,hg,hd]
theorem ql {D:Nm→Prop} {r:Nat} (hD:∀ p,D (r::p)) (x:WI):A.refsL D (V8 r x):=by
 cases x<;>simp[V8,DG,A.refsL,A.refs,hD]
def Oa (r:Nat):Option (Nat × Nat × List T)→A
 |some (k,v,l)=>.osl (r::[k]) v 3 0 l.length
 |none=>.sl true []
abbrev TV:=Nat→Option (Nat × List T)
def iZ:Option (Nat × List T)→VOb
 |some (v,l)=>⟨v,.arr 3 (l.map tA)⟩
 |none=>⟨0,.none⟩
theorem tc {g:Nm→Nm} {δ:Nm→Nat} {r r':Nat} (hg:∀ p,g (r::p)=r'::p) (hd:∀ p,δ (r::p)=0) (o:Option (Nat × Nat × List T)):(Oa r o).ren g δ=Oa r' o:=by
 rcases o with _ | ⟨k,v,l⟩
 ·simp[Oa,A.ren]
 ·simp[Oa,A.ren,hg,hd]
def S8 (R:TV):Nm→VOb
 |[k]=>iZ (R k)
 |_=>⟨0,.none⟩
@[simp] theorem Aaf {R:TV} {k:Nat}:S8 R [k]=iZ (R k):=rfl
theorem r6 {g:Nm→Nm} {δ:Nm→Nat} (o:Option (Nat × List T)):VOb.ren g δ 0 (iZ o)=iZ o:=by
 rcases o with _ | ⟨v,l⟩
 ·rfl
 ·refine Fam.arr_ren ?_
  simp only[Cm,List.map_map]
  refine List.map_congr_left fun x _=>?_
  simp[A.ren,A.renL]
theorem kL {g:Nm→Nm} {δ:Nm→Nat} (R:TV):∀ p,VOb.ren g δ 0 (S8 R p)=S8 R p
 |[]=>rfl
 |[k]=>r6 _
 |_::_::_=>rfl
theorem n5 {D:Nm→Prop} (o:Option (Nat × List T)):(iZ o).ob.refs D:=by
 rcases o with _ | ⟨v,l⟩
 ·trivial
 ·simp only[iZ,Ob.refs,refsL_iff]
  intro y hy
  obtain⟨x,_,rfl⟩:=List.mem_map.1 hy
  simp[A.refs,A.refsL]
theorem fT {D:Nm→Prop} (R:TV):∀ p,(S8 R p).ob.refs D
 |[]=>trivial
 |[k]=>n5 _
 |_::_::_=>trivial
def VN (its:List WI) (vo:Nat) (g b:Option (Nat × Nat × List T)) (R:TV):Fam:=⟨fun r p=>if p=[] then ⟨1,.cells [.osl (r::[0]) vo 14 0 its.length,Oa r g,Oa r b]⟩ else if p=[0] then ⟨vo,.arr 14 (its.map (S5 r))⟩ else S8 R p,fun {γ δ r r'} hg hd p=>by
  by_cases h1:p=[]
  ·rw[if_pos h1,if_pos h1]
   refine Fam.cells_ren ?_
   simp[A.renL,A.ren,hg,hd,tc hg hd]
  ·rw[if_neg h1,if_neg h1]
   by_cases h2:p=[0]
   ·rw[if_pos h2,if_pos h2]
    refine Fam.arr_ren ?_
    simp only[Cm,List.map_map]
    refine List.map_congr_left fun x _=>?_
    simp[S5,A.ren,tM hg hd]
   ·rw[if_neg h2,if_neg h2]
    exact kL R p,fun {D r} hD p=>by
  by_cases h1:p=[]
  ·rw[if_pos h1]
   rcases g with _ | ⟨k,v,l⟩<;>rcases b with _ | ⟨k',v',l'⟩<;>simp[Ob.refs,A.refsL,A.refs,hD,Oa]
  ·rw[if_neg h1]
   by_cases h2:p=[0]
   ·rw[if_pos h2]
    simp only[Ob.refs,refsL_iff]
    intro y hy
    obtain⟨x,_,rfl⟩:=List.mem_map.1 hy
    simp only[A.refs,S5]
    exact ql hD x
   ·rw[if_neg h2]
    exact fT R p⟩
@[simp] theorem gI {its:List WI} {vo:Nat} {g b:Option (Nat × Nat × List T)} {R:TV} {r:Nat} {p:Nm}:(VN its vo g b R).F r p=if p=[] then ⟨1,.cells [.osl (r::[0]) vo 14 0 its.length,Oa r g,Oa r b]⟩ else if p=[0] then ⟨vo,.arr 14 (its.map (S5 r))⟩ else S8 R p:=rfl
abbrev tZ (r:Nat):A:=.pob [r] 1 0
theorem TW {r:Nat} {l:List WI}:DS 14 (l.map (S5 r))=true:=by rw[Ip];simp
def EP:Nat × Nat × List T→List WI
 |(k,v,l)=>if l=[] then [] else [.del k v l]
def BD:Nat × Nat × List T→List WI
 |(k,v,l)=>if l=[] then [] else [.ins k v l]
theorem Jr (its:List WI) (vo:Nat) (g b:Nat × Nat × List T) (R:TV) (hl:its.length≤1000000) (hg:R g.1=some (g.2.1,g.2.2)) (hb:R b.1=some (b.2.1,b.2.2)) (hg0:1≤g.1) (hb0:1≤b.1):Bg Tryz.prog 113 (fun r=>[tZ r]) (VN its vo (some g) (some b) R) (fun _=>.tup []) (VN (its++(EP g++BD b)) (vo+(EP g++BD b).length) none none R):=by
 obtain⟨gk,gv,gl⟩:=g
 obtain⟨bk,bv',bl⟩:=b
 refine AH MN (by simp) (Ah AG Am) (Bu Am) fun w0 I0 M0 m0=>?_
 unfold Hm
 by_cases h1:gl=[]
 ·by_cases h2:bl=[]
  ·simp[h1,h2,Oa]
   rw[Cj.eq_1]
   simp[h1,h2,Oa,Aa]
   refine AO rfl rfl (fun p=>?_)
   by_cases p1:p=[]
   ·subst p1;simp[Aa,EP,BD,Oa]
   ·by_cases p2:p=[0]
    ·subst p2;simp[Aa,EP,BD]
    ·simp[p1,p2,Aa]
  ·have h2':(0:Int)<bl.length:=by have:=List.length_pos_iff.2 h2;omega
   have h2n:=List.length_pos_iff.2 h2
   simp[h1,h2,Oa]
   rw[Cj.eq_1]
   simp[h1,h2,h2',h2n,Oa,Aa,TW]
   refine⟨by omega,by omega,?_⟩
   refine AO rfl rfl (fun p=>?_)
   by_cases p1:p=[]
   ·subst p1;simp[Aa,EP,BD,Oa,h1,h2]
   ·by_cases p2:p=[0]
    ·subst p2;simp[Aa,EP,BD,h1,h2,S5,V8,DG,Bb]
    ·simp[p1,p2,Aa]
 ·have h1':(0:Int)<gl.length:=by have:=List.length_pos_iff.2 h1;omega
  have h1n:=List.length_pos_iff.2 h1
  by_cases h2:bl=[]
  ·simp[h1,h1',h1n,h2,Oa,Aa,TW]
   refine⟨by omega,by omega,?_⟩
   rw[Cj.eq_1]
   simp[h1,h2,Oa,Aa]
   refine AO rfl rfl (fun p=>?_)
   by_cases p1:p=[]
   ·subst p1;simp[Aa,EP,BD,Oa,h1,h2]
   ·by_cases p2:p=[0]
    ·subst p2;simp[Aa,EP,BD,h1,h2,S5,V8,DG,Bb]
    ·simp[p1,p2,Aa]
  ·have h2':(0:Int)<bl.length:=by have:=List.length_pos_iff.2 h2;omega
   have h2n:=List.length_pos_iff.2 h2
   simp[h1,h1',h1n,h2,Oa,Aa,TW]
   refine⟨by omega,by omega,?_⟩
   rw[Cj.eq_1]
   simp[h1,h2,h2',h2n,Oa,Aa]
   refine⟨by omega,⟨by omega,by omega⟩,?_⟩
   refine AO rfl rfl (fun p=>?_)
   by_cases p1:p=[]
   ·subst p1;simp[Aa,EP,BD,Oa,h1,h2]
   ·by_cases p2:p=[0]
    ·subst p2;simp[Aa,EP,BD,h1,h2,S5,V8,DG,Bb]
    ·simp[p1,p2,Aa]
theorem Aa8 (l:List T) (x:A):(l.map tA++[x])[l.length]? = some x:=by rw[List.getElem?_append_right (by simp)];simp
theorem tF (l:List T):List.take l.length (l.map tA)=l.map tA:=Bb (by simp)
theorem gG {n0:Nat} {w0:World} {I0:Nat→Prop} {M0:Nm→Nat→Prop} {m0:Mu} {Q:Exit→Sta→Prop} {its:List WI} {vo off k:Nat} {g b:Option (Nat × Nat × List T)} {R:TV} {ts l0:List T} {v0:Nat} (hts:∀ t,t ∈ ts→DI t) (hl:l0.length+ts.length≤1000000) (hk:1≤k)
  (F:Nat→List T→Fam) (hF0:∀ v l,(F v l).F 0 []=⟨1,.cells [.osl [0,0] vo 14 0 its.length,if off=1 then .osl [0,k] v 3 0 l.length else Oa 0 g,if off=1 then Oa 0 b else .osl [0,k] v 3 0 l.length]⟩) (hoff:off=1∨off=2) (hFk:∀ v l,(F v l).F 0 [k]=⟨v,.arr 3 (l.map tA)⟩) (hFo:∀ v l v' l' p,p ≠ []→p ≠ [k]→(F v l).F 0 p=(F v' l').F 0 p)
  (hq:∀ H st,(∀ p,H (0::p)=(F (v0+ts.length) (l0++ts.map Ai)).F 0 p)→Q (.exit 0) ⟨lk st,H⟩):∀ (m i:Nat) (H:Hp),i+m=ts.length→(∀ p,H (0::p)=(F (v0+i) (l0++(ts.take i).map Ai)).F 0 p) →
  LoopC (Ds Tryz.prog w0 I0 M0 n0 m0) Hb Q ⟨lk [(0,.pob [0] 1 off),(6,Co ts),(7,iv ts.length),(8,iv i)],H⟩:=by
 intro m
 induction m with
 |zero=>
  intro i H hm hH
  refine Ad Ak Hb.eq_1 ?_
  have:i=ts.length:=by omega
  subst this
  rw[Bb (Cc _)] at hH
  simp
  exact hq H _ hH
 |succ m ih=>
  intro i H hm hH
  have hi:i<ts.length:=by omega
  have ew:IntKind.i64.wrap ((i:Int)+1)=((i+1:Nat):Int):=Av
  have h0:=hH []
  rw[hF0] at h0
  have h1:=hH [k]
  rw[hFk] at h1
  have hN:=L5 ts[i] (hts _ (BI hi))
  have hLs:l0++(ts.take (i+1)).map Ai=l0++(ts.take i).map Ai++[Ai ts[i]]:=by rw[Hj hi,List.map_append,← List.append_assoc];rfl
  have hLl:(l0++(ts.take i).map Ai).length≤1000000:=by simp;omega
  have next:=ih (i+1)
  rw[hLs,← Nat.add_assoc] at next
  generalize l0++(ts.take i).map Ai=L at *
  generalize v0+i=v at *
  have hH':∀ (p:Nm) (H2:Hp),p ≠ []→p ≠ [k]→H2 (0::p)=H (0::p)→H2 (0::p)=(F (v+1) (L++[Ai ts[i]])).F 0 p:=fun p H2 p1 p2 he=>by rw[he,hH,hFo _ _ _ _ p p1 p2]
  refine Ad Ak Hb.eq_1 ?_
  rcases hoff with rfl | rfl
  all_goals
   simp at h0 h1
   simp[hi,Aa,h0]
   refine Ae hN (by simp[Aa]) ?_
   simp[Aa,h0,h1,show ¬ k=0 by omega,show ¬ 0=k by omega,Aa8,tF,ew]
   refine⟨by omega,by omega,?_⟩
   refine next _ (by omega) (fun p=>?_)
   by_cases p1:p=[]
   ·subst p1;rw[hF0];simp[Aa,show ¬ k=0 by omega,show ¬ 0=k by omega]
   ·by_cases p2:p=[k]
    ·subst p2;rw[hFk];simp[Aa,show ¬ k=0 by omega,show ¬ 0=k by omega]
    ·exact hH' p _ p1 p2 (by simp[Aa,p1,p2,Ne.symm p1,Ne.symm p2])
def FQ (R:TV) (k:Nat) (v:Nat) (l:List T):TV:=fun q=>if q=k then some (v,l) else R q
theorem Xx {R:TV} {k v:Nat} {l:List T} (h:R k=some (v,l)):FQ R k v l=R:=by
 funext q
 unfold FQ
 split
 ·rename_i e;rw[e,h]
 ·rfl
theorem fY (its:List WI) (vo k v:Nat) (l:List T) (b:Option (Nat × Nat × List T)) (R:TV) (hR:R k=some (v,l)) (hk:1≤k) (hb:∀ x,b=some x→x.1 ≠ k) {ts:List T} (hts:∀ t,t ∈ ts→DI t) (hl:l.length+ts.length≤1000000) :
  Bg Tryz.prog 111 (fun r=>[.pob [r] 1 1,Co ts]) (VN its vo (some (k,v,l)) b R) (fun _=>.tup []) (VN its vo (some (k,v+ts.length,l++ts.map Ai)) b (FQ R k (v+ts.length) (l++ts.map Ai))):=by
 refine AH OV (by simp) (Ah AG (Ah Dw Am)) (Bu Am) fun w0 I0 M0 m0=>?_
 unfold KX
 simp
 refine LoopC.le (AA [(0,.pob [0] 1 1),(6,Co ts),(7,iv ts.length),(8,iv (0:Nat))] (by simp)) ?_
 refine gG (its:=its) (vo:=vo) (off:=1) (k:=k) (g:=none) (b:=b) (R:=R) (ts:=ts) (l0:=l) (v0:=v) hts hl hk (fun v l=>VN its vo (some (k,v,l)) b (FQ R k v l)) (fun v l=>by simp[Oa]) (.inl rfl) (fun v l=>by simp[iZ,FQ,show ¬ k=0 by omega]) (fun v l v' l' p p1 p2=>?_) (fun H st hH=>?_) ts.length 0 _ (by omega) (fun p=>?_)
 ·rw[gI,gI,if_neg p1,if_neg p1]
  split
  ·rfl
  ·match p with
   |[]=>rfl
   |[q]=>simp[FQ,show ¬ q=k from fun e=>p2 (by rw[e])]
   |_::_::_=>rfl
 ·simp
  exact AO rfl rfl hH
 ·simp only[List.take_zero,List.map_nil,List.append_nil,Nat.add_zero]
  rw[Xx hR]
  simp
theorem dE (its:List WI) (vo k v:Nat) (l:List T) (g:Option (Nat × Nat × List T)) (R:TV) (hR:R k=some (v,l)) (hk:1≤k) {ts:List T} (hts:∀ t,t ∈ ts→DI t) (hl:l.length+ts.length≤1000000) :
  Bg Tryz.prog 111 (fun r=>[.pob [r] 1 2,Co ts]) (VN its vo g (some (k,v,l)) R) (fun _=>.tup []) (VN its vo g (some (k,v+ts.length,l++ts.map Ai)) (FQ R k (v+ts.length) (l++ts.map Ai))):=by
 refine AH OV (by simp) (Ah AG (Ah Dw Am)) (Bu Am) fun w0 I0 M0 m0=>?_
 unfold KX
 simp
 refine LoopC.le (AA [(0,.pob [0] 1 2),(6,Co ts),(7,iv ts.length),(8,iv (0:Nat))] (by simp)) ?_
 refine gG (its:=its) (vo:=vo) (off:=2) (k:=k) (g:=g) (b:=none) (R:=R) (ts:=ts) (l0:=l) (v0:=v) hts hl hk (fun v l=>VN its vo g (some (k,v,l)) (FQ R k v l)) (fun v l=>by simp[Oa]) (.inr rfl) (fun v l=>by simp[iZ,FQ,show ¬ k=0 by omega]) (fun v l v' l' p p1 p2=>?_) (fun H st hH=>?_) ts.length 0 _ (by omega) (fun p=>?_)
 ·rw[gI,gI,if_neg p1,if_neg p1]
  split
  ·rfl
  ·match p with
   |[]=>rfl
   |[q]=>simp[FQ,show ¬ q=k from fun e=>p2 (by rw[e])]
   |_::_::_=>rfl
 ·simp
  exact AO rfl rfl hH
 ·simp only[List.take_zero,List.map_nil,List.append_nil,Nat.add_zero]
  rw[Xx hR]
  simp
theorem ah (l:List WI) (r:Nat) (x:A):(l.map (S5 r)++[x])[l.length]? = some x:=by rw[List.getElem?_append_right (by simp)];simp
theorem s7 (l:List WI) (r:Nat):List.take l.length (l.map (S5 r))=l.map (S5 r):=Bb (by simp)
theorem Ny (l:List WI) (r:Nat) (x:A):List.take (l.length+1) (l.map (S5 r)++[x])=l.map (S5 r)++[x]:=Bb (by simp)
theorem Qw:∀ g,(EP g).length≤1
 |(a,b,c)=>by
  by_cases h:c=[]<;>simp[EP,h]
theorem Mm:∀ g,(BD g).length≤1
 |(a,b,c)=>by
  by_cases h:c=[]<;>simp[BD,h]
theorem fp (its i0:List WI) (vo:Nat) (m n:Int) (g b:Nat × Nat × List T) (R:TV) (hl:its.length≤1000000) (hg:R g.1=some (g.2.1,g.2.2)) (hb:R b.1=some (b.2.1,b.2.2)) (hg0:1≤g.1) (hb0:1≤b.1) (hi:its++(EP g++BD b)=i0++[.keep m]):Bg Tryz.prog 110 (fun r=>[tZ r,iv n]) (VN its vo (some g) (some b) R) (fun _=>.tup []) (VN (i0++[.keep (IntKind.i64.wrap (m+n))]) (vo+(EP g++BD b).length) none none R):=by
 have F1:=Jr its vo g b R hl hg hb hg0 hb0
 rw[hi] at F1
 have hlen:i0.length≤1000002:=by
  have e:=congrArg List.length hi
  have:=Qw g
  have:=Mm b
  simp at e
  omega
 generalize vo+(EP g++BD b).length=v at *
 have e1:IntKind.i64.wrap (i0.length:Int)=i0.length:=Af (by omega) (by omega)
 refine AH Ig (by simp) (Ah AG (Ah Ax Am)) (Bu Am) fun w0 I0 M0 m0=>?_
 unfold Fb
 simp
 refine AB 0 F1 (fun p=>by simp) (by simp) (by simp) ?_
 simp[e1,ah,S5,V8]
 refine⟨by omega,rfl,?_⟩
 refine AZ rfl rfl (fun p=>?_)
 by_cases p1:p=[]
 ·subst p1;simp[Aa,Oa]
 ·by_cases p2:p=[0]
  ·subst p2;simp[Aa,S5,V8,DG,A.remake,Ny]
  ·simp[p1,p2,Aa]
theorem fj (its:List WI) (vo:Nat) (n:Int) (g b:Nat × Nat × List T) (R:TV) (hl:its.length≤1000000) (hg:R g.1=some (g.2.1,g.2.2)) (hb:R b.1=some (b.2.1,b.2.2)) (hg0:1≤g.1) (hb0:1≤b.1) (hi:its++(EP g++BD b)=[]∨∃ i0 x,its++(EP g++BD b)=i0++[x]∧x.op.kind ≠ 0):Bg Tryz.prog 110 (fun r=>[tZ r,iv n]) (VN its vo (some g) (some b) R) (fun _=>.tup []) (VN (its++(EP g++BD b)++[.keep n]) (vo+(EP g++BD b).length+1) none none R):=by
 have F1:=Jr its vo g b R hl hg hb hg0 hb0
 have hlen:(its++(EP g++BD b)).length≤1000002:=by
  have:=Qw g
  have:=Mm b
  simp
  omega
 generalize vo+(EP g++BD b).length=v at *
 generalize its++(EP g++BD b)=J at *
 refine AH Ig (by simp) (Ah AG (Ah Ax Am)) (Bu Am) fun w0 I0 M0 m0=>?_
 unfold Fb
 simp
 refine AB 0 F1 (fun p=>by simp) (by simp) (by simp) ?_
 rcases hi with rfl | ⟨i0,x,rfl,hx⟩
 ·simp[Aa,show IntKind.i64.wrap (-1) = -1 from rfl]
  refine AO rfl rfl (fun p=>?_)
  by_cases p1:p=[]
  ·subst p1;simp[Aa,Oa]
  ·by_cases p2:p=[0]
   ·subst p2;simp[Aa,S5,V8,DG,A.remake,Ny]
   ·simp[p1,p2,Aa]
 ·simp at hlen
  have e1:IntKind.i64.wrap (i0.length:Int)=i0.length:=Af (by omega) (by omega)
  cases x with
  |keep m=>exact absurd rfl hx
  |del a b c=>
   simp[e1,ah,S5,V8,Aa]
   refine⟨by omega,by omega,⟨by omega,by omega⟩,?_⟩
   refine AO rfl rfl (fun p=>?_)
   by_cases p1:p=[]
   ·subst p1;simp[Aa,Oa]
   ·by_cases p2:p=[0]
    ·subst p2;simp[Aa,S5,V8,DG,A.remake,Ny]
    ·simp[p1,p2,Aa]
  |ins a b c=>
   simp[e1,ah,S5,V8,Aa]
   refine⟨by omega,by omega,⟨by omega,by omega⟩,?_⟩
   refine AO rfl rfl (fun p=>?_)
   by_cases p1:p=[]
   ·subst p1;simp[Aa,Oa]
   ·by_cases p2:p=[0]
    ·subst p2;simp[Aa,S5,V8,DG,A.remake,Ny]
    ·simp[p1,p2,Aa]
  |desc e=>
   simp[e1,ah,S5,V8,Aa]
   refine⟨by omega,by omega,⟨by omega,by omega⟩,?_⟩
   refine AO rfl rfl (fun p=>?_)
   by_cases p1:p=[]
   ·subst p1;simp[Aa,Oa]
   ·by_cases p2:p=[0]
    ·subst p2;simp[Aa,S5,V8,DG,A.remake,Ny]
    ·simp[p1,p2,Aa]
def WI.row:WI→Option (Nat × Nat × List T)
 |.del k v l=>some (k,v,l)
 |.ins k v l=>some (k,v,l)
 |_=>none
def ItR (R:TV) (its:List WI):Prop:=∀ x,x ∈ its→∀ k v l,x.row=some (k,v,l)→R k=some (v,l)∧1≤k
theorem uR {c:Cx} {s:Nat→A} {H:Hp} {its:List WI} {v K:Nat} {R:TV} (hH:∀ p,H (0::p)=(VN its v none none R).F 0 p) (hK:∀ q,K≤q→R q=none) (hK1:1≤K):∃ H',Le c ⟨s,H⟩ ⟨s,H'⟩∧(∀ p,H' (0::p)=(VN its v (some (K,1,[])) (some (K+1,1,[])) (FQ (FQ R K 1 []) (K+1) 1 [])).F 0 p):=by
 have h0:=hH []
 simp[Oa] at h0
 have hK0:H [0,K]=⟨0,.none⟩:=by rw[hH];simp[show ¬ K=0 by omega,hK K (Cc _),iZ]
 have hK2:H [0,K+1]=⟨0,.none⟩:=by rw[hH];simp[hK (K+1) (by omega),iZ]
 have l1:=Bv (c:=c) (s:=s) (H:=H) (d:=[0]) (u:=1) (cs:=[.osl [0,0] v 14 0 its.length,.sl true [],.sl true []]) 1 [0,K] 3 h0 rfl (by simp)
 refine⟨_,l1.trans (Bv (d:=[0]) (u:=1) (cs:=[.osl [0,0] v 14 0 its.length,.osl [0,K] 1 3 0 0,.sl true []]) 2 [0,K+1] 3 (by simp[Aa,hK0]) rfl (by simp)),fun p=>?_⟩
 by_cases p1:p=[]
 ·subst p1;simp[Aa,Oa,hK0,hK2]
 ·by_cases p2:p=[0]
  ·subst p2;simp[Aa,hH,show ¬ 0=K by omega]
  ·match p,p1,p2 with
   |[q],p1,p2=>
    have hq0:¬ q=0:=fun e=>p2 (by rw[e])
    by_cases e1:q=K
    ·subst e1;simp[Aa,FQ,iZ,hK0,hq0]
    ·by_cases e2:q=K+1
     ·subst e2;simp[Aa,FQ,iZ,hK2]
     ·simp[Aa,FQ,hH,e1,e2,hq0]
   |_::_::_,p1,p2=>simp[Aa,hH,S8]
theorem wx {H:Hp} {R:TV} {its:List WI} {v:Nat} {g b:Option (Nat × Nat × List T)} (hH:∀ p,H (0::p)=(VN its v g b R).F 0 p) (x:WI) (hx:∀ k v l,x.row=some (k,v,l)→R k=some (v,l)∧1≤k):GG H (V8 0 x) (oA x.op).cells:=by
 have key:∀ k v' l,x.row=some (k,v',l)→Jw H (.osl [0,k] v' 3 0 l.length) (Co l):=fun k v' l h=>by
  obtain⟨h1,h2⟩:=hx k v' l h
  have:=hH [k]
  simp[show ¬ k=0 by omega,h1,iZ] at this
  exact BQ (f:=tA) (by rw[this];simp) rfl (by simp)
 have hraw:GG H DG (eL E0):=⟨Ab rfl,Ab rfl,An,An,Ab rfl,An,An,An,An,Ab rfl,An,trivial⟩
 rw[oA_eq]
 cases x with
 |keep n=>exact⟨Ab rfl,Ab rfl,An,hraw⟩
 |del k v' l=>exact⟨Ab rfl,Ab rfl,key k v' l rfl,hraw⟩
 |ins k v' l=>exact⟨Ab rfl,Ab rfl,key k v' l rfl,hraw⟩
 |desc e=>exact⟨Ab rfl,Ab rfl,An,Ab rfl,Ab rfl,Ab rfl,Ab rfl,Ab rfl,Ab rfl,Ab rfl,Ab rfl,Ab rfl,Ab rfl,Ab rfl,trivial⟩
theorem Un {H:Hp}:∀ {a b a' b':List A},GG H a a'→GG H b b'→a.length=a'.length→GG H (a++b) (a'++b')
 |[],b,[],b',_,h,_=>h
 |x::a,b,y::a',b',h1,h,hl=>⟨h1.1,Un h1.2 h (by simpa using hl)⟩
 |[],b,y::a',b',_,_,hl=>by simp at hl
 |x::a,b,[],b',_,_,hl=>by simp at hl
theorem sK {H:Hp} {R:TV} {its:List WI} {v:Nat} {g b:Option (Nat × Nat × List T)} (hH:∀ p,H (0::p)=(VN its v g b R).F 0 p) (hx:ItR R its):Jw H (.osl [0,0] v 14 0 its.length) (V7 (its.map WI.op)):=by
 have h1:=hH [0]
 simp at h1
 refine K5 (o:=[0,0]) (u:=v) (off:=0) (len:=its.length) (sz:=14) (xs:=its.map (S5 0)) (ys:=(its.map WI.op).map oA) (by rw[N8,h1];simp) (by simp) (by simp) (fun y hy=>by
  obtain⟨x,_,rfl⟩:=List.mem_map.1 hy
  simp) ?_ ?_
 ·have:∀ l:List OP,A.ones ((l.map oA).flatMap A.cells)=true:=fun l=>by
   induction l with
   |nil=>rfl
   |cons x l ih=>simp[A.ones] at ih ⊢
  exact this _
 ·rw[List.drop_zero,Bb (by simp),List.map_map]
  have:∀ l:List WI,(∀ x,x ∈ l→x ∈ its)→GG H ((l.map (S5 0)).flatMap A.cells) ((l.map (oA ∘ WI.op)).flatMap A.cells):=fun l hl=>by
   induction l with
   |nil=>trivial
   |cons x l ih=>
    simp only[List.map_cons,List.flatMap_cons]
    exact Un (wx hH x fun k v l h=>hx x (hl x (by simp)) k v l h) (ih fun y hy=>hl y (by simp[hy])) (by simp)
  exact this its fun x h=>h
theorem kG (list:Int) (e:E) (h1:e.words.length≤100000000000000) (h2:e.kids.length≤100000000000000):G.Spec Tryz.prog 112 [iv list,eX e] (bv (Ra list e)):=by
 have e1:IntKind.i64.wrap ((e.words.length:Int)+e.kids.length)=((e.words.length+e.kids.length:Nat):Int):=Av
 refine Al Wc (by simp) fun w0 I0=>?_
 unfold O5
 by_cases k0:e.kind=0
 ·simp[k0,Ra]
  exact Ab rfl
 ·by_cases k9:list=9
  ·by_cases k2:e.kind=2
   ·simp[k0,k9,k2,Ra,e1]
    refine Bl ?_
    rw[Bool.eq_iff_iff]
    simp only[decide_eq_true_eq,Bool.and_eq_true,List.isEmpty_iff]
    constructor
    ·intro h
     exact⟨List.eq_nil_of_length_eq_zero (by omega),List.eq_nil_of_length_eq_zero (by omega)⟩
    ·rintro⟨h1,h2⟩
     rw[h1,h2];rfl
   ·simp[k0,k9,k2,Ra]
    exact Ab rfl
  ·simp[k0,k9,Ra]
   exact Ab rfl
theorem TN (its:List WI) (g b:Nat × Nat × List T):(its++(EP g++BD b)).map WI.op=rh (its.map WI.op) g.2.2 b.2.2:=by
 obtain⟨a,c,l⟩:=g
 obtain⟨a',c',l'⟩:=b
 by_cases h1:l=[]<;>by_cases h2:l'=[]<;>simp[EP,BD,rh,En,Ed,h1,h2,WI.op]
theorem uy (J:List WI):(∃ i0 m,J=i0++[.keep m])∨(J=[]∨∃ i0 x,J=i0++[x]∧x.op.kind ≠ 0):=by
 rcases List.eq_nil_or_concat J with h | ⟨i0,x,h⟩
 ·exact .inr (.inl h)
 ·rw[List.concat_eq_append] at h
  cases x with
  |keep m=>exact .inl ⟨i0,m,h⟩
  |del a b c=>exact .inr (.inr ⟨i0,.del a b c,h,by simp[WI.op]⟩)
  |ins a b c=>exact .inr (.inr ⟨i0,.ins a b c,h,by simp[WI.op]⟩)
  |desc e=>exact .inr (.inr ⟨i0,.desc e,h,by simp[WI.op]⟩)
theorem qH (l:List OP) (m n:Int) (t:List T) (e:E):rm (l++[.mk 0 m t e]) n=l++[.mk 0 (IntKind.i64.wrap (m+n)) t e]:=by simp[rm]
theorem uq (n:Int):rm [] n=[.mk 0 n [] E0]:=rfl
theorem pB (l:List OP) (x:OP) (n:Int) (h:x.kind ≠ 0):rm (l++[x]) n=l++[x]++[.mk 0 n [] E0]:=by
 obtain⟨k,m,t,e⟩:=x
 unfold rm
 rw[List.getLast?_append]
 simp only[List.getLast?_singleton,Option.some_or]
 split
 ·rename_i h2;injection h2 with h2;injection h2 with h2;exact absurd h2 h
 ·rfl
structure WrI (its:List WI) (g b:Nat × Nat × List T) (R:TV) (K:Nat):Prop where
 g1:1≤g.1
 b1:1≤b.1
 gb:g.1 ≠ b.1
 gK:g.1<K
 bK:b.1<K
 Rg:R g.1=some (g.2.1,g.2.2)
 Rb:R b.1=some (b.2.1,b.2.2)
 rK:∀ q,K≤q→R q=none
 it:ItR R its
 ng:∀ x,x ∈ its→∀ k v l,x.row=some (k,v,l)→k ≠ g.1∧k ≠ b.1
theorem WrI.flushed {its:List WI} {g b:Nat × Nat × List T} {R:TV} {K:Nat} (h:WrI its g b R K):ItR R (its++(EP g++BD b)):=by
 intro x hx k v l hr
 rcases List.mem_append.1 hx with hx | hx
 ·exact h.it x hx k v l hr
 ·rcases List.mem_append.1 hx with hx | hx
  ·obtain⟨a,c,d⟩:=g
   by_cases e:d=[]<;>simp[EP,e] at hx
   subst hx
   simp[WI.row] at hr
   obtain⟨rfl,rfl,rfl⟩:=hr
   exact⟨h.Rg,h.g1⟩
  ·obtain⟨a,c,d⟩:=b
   by_cases e:d=[]<;>simp[BD,e] at hx
   subst hx
   simp[WI.row] at hr
   obtain⟨rfl,rfl,rfl⟩:=hr
   exact⟨h.Rb,h.b1⟩
theorem bx {its:List WI} {g b:Nat × Nat × List T} {R:TV} {K:Nat} (h:WrI its g b R K) (hl:its.length≤1000000) (vo:Nat) (n:Int):∃ its2 v2,Bg Tryz.prog 110 (fun r=>[tZ r,iv n]) (VN its vo (some g) (some b) R) (fun _=>.tup []) (VN its2 v2 none none R)∧its2.map WI.op=rm (rh (its.map WI.op) g.2.2 b.2.2) n∧its2.length≤its.length+3∧ItR R its2:=by
 have hF:=h.flushed
 have d1:=Qw g
 have d2:=Mm b
 rcases uy (its++(EP g++BD b)) with ⟨i0,m,hi⟩ | hi
 ·have hlen:=congrArg List.length hi
  simp at hlen
  refine⟨_,_,fp its i0 vo m n g b R hl h.Rg h.Rb h.g1 h.b1 hi,?_,?_,?_⟩
  ·rw[← TN,hi]
   simp[WI.op,qH]
  ·simp;omega
  ·rw[hi] at hF
   intro x hx k v l hr
   rcases List.mem_append.1 hx with hx | hx
   ·exact hF x (by simp[hx]) k v l hr
   ·simp at hx;subst hx;simp[WI.row] at hr
 ·refine⟨_,_,fj its vo n g b R hl h.Rg h.Rb h.g1 h.b1 hi,?_,?_,?_⟩
  ·rw[← TN]
   rcases hi with hi | ⟨i0,x,hi,hx⟩
   ·rw[hi];simp[uq,WI.op]
   ·rw[hi]
    simp only[List.map_append,List.map_cons,List.map_nil]
    rw[pB _ _ _ hx]
    simp[WI.op]
  ·simp;omega
  ·intro x hx k v l hr
   rcases List.mem_append.1 hx with hx | hx
   ·exact hF x hx k v l hr
   ·simp at hx;subst hx;simp[WI.row] at hr
structure OpG (o:OP):Prop where
 k:o.kind=0∨o.kind=1∨o.kind=2∨o.kind=3
 l:∀ t,t ∈ o.l→DI t
 e:o.kind=3→G.Spec Tryz.prog 29 [eX o.e] (eX (Zt o.e))∧(Zt o.e).words.length≤100000000000000∧(Zt o.e).kids.length≤100000000000000
def Hh (os:List OP):Nat:=(os.map fun o=>o.l.length).sum
theorem ja (o:OP) (os:List OP):Hh (o::os)=o.l.length+Hh os:=by simp[Hh]
theorem xw {list:Int} {os:List OP} (hos:∀ o,o ∈ os→OpG o) (hol:os.length≤300000) {res:List OP}
  (hq:∀ (H:Hp) (its:List WI) (v:Nat) (g b:Nat × Nat × List T) (R:TV) (K:Nat) st,(∀ p,H (0::p)=(VN its v (some g) (some b) R).F 0 p)→WrI its g b R K→rh (its.map WI.op) g.2.2 b.2.2=res→its.length≤1000000→Q (.exit 0) ⟨lk ([(0,iv list),(5,tZ 0)]++st),H⟩):∀ (m i:Nat) (its:List WI) (v:Nat) (g b:Nat × Nat × List T) (R:TV) (K:Nat) (H:Hp),i+m=os.length→its.length≤3*i→g.2.2.length+b.2.2.length+Hh (os.drop i)≤1000000→WrI its g b R K→(∀ p,H (0::p)=(VN its v (some g) (some b) R).F 0 p)→Qi list ((os.drop i).map lJ) (its.map WI.op) g.2.2 b.2.2=res →
  LoopC (cx Tryz.prog w0 I0 n0) FR Q ⟨lk [(0,iv list),(5,tZ 0),(11,V7 os),(12,iv os.length),(13,iv i)],H⟩:=by
 intro m
 induction m with
 |zero=>
  intro i its v g b R K H hm hil hsum hW hH hres
  refine Ad Ak FR.eq_1 ?_
  have:i=os.length:=by omega
  subst this
  rw[List.drop_length,List.map_nil,Qi] at hres
  simp
  exact hq H its v g b R K [(11,V7 os),(12,iv os.length),(13,iv os.length),(14,bv false)] hH hW hres (by omega)
 |succ m ih=>
  intro i its v g b R K H hm hil hsum hW hH hres
  have hi:i<os.length:=by omega
  have ew:IntKind.i64.wrap ((i:Int)+1)=((i+1:Nat):Int):=Av
  have hd:os.drop i=os[i]::os.drop (i+1):=(List.getElem_cons_drop hi).symm
  have hO:=hos _ (BI hi)
  rw[hd,List.map_cons,Qi] at hres
  rw[hd,ja] at hsum
  have hoi:(os.map oA)[i]? = some (oX os[i]):=by simp[hi]
  generalize ho:os[i]=o at *
  have hnk:(lJ o).kind=o.kind:=rfl
  have hnn:(lJ o).n=o.n:=rfl
  have hnl:(lJ o).l=o.l:=rfl
  have hne:(lJ o).e=Zt o.e:=rfl
  rw[hnk,hnn,hnl,hne] at hres
  -- what goes on when all is laid
  have next:∀ (its2:List WI) (v2:Nat) (H2:Hp),its2.length≤its.length+3→(∀ p,H2 (0::p)=(VN its2 v2 none none R).F 0 p)→ItR R its2→Qi list ((os.drop (i+1)).map lJ) (its2.map WI.op) [] []=res→LoopC (cx Tryz.prog w0 I0 n0) FR Q ⟨lk [(0,iv list),(5,tZ 0),(11,V7 os),(12,iv os.length),(13,iv (i+1:Nat))],H2⟩:=fun its2 v2 H2 h1 h2 h3 h4=>by
   obtain⟨H3,hle,hF⟩:=uR (c:=cx Tryz.prog w0 I0 n0) (s:=lk [(0,iv list),(5,tZ 0),(11,V7 os),(12,iv os.length),(13,iv (i+1:Nat))]) h2 hW.rK (by have:=hW.gK;omega)
   refine LoopC.le hle ?_
   refine ih (i+1) its2 v2 (K,1,[]) (K+1,1,[]) _ (K+2) H3 (by omega) (by omega) (by simp;omega) ?_ hF h4
   have hg:=hW.g1
   have hgK:=hW.gK
   refine⟨by simp;omega,by simp,by simp,by simp,by simp,by simp[FQ],by simp[FQ],fun q hq=>?_,fun x hx k v' l hr=>?_,fun x hx k v' l hr=>?_⟩
   ·simp[FQ,show ¬ q=K+1 by omega,show ¬ q=K by omega]
    exact hW.rK q (by omega)
   ·obtain⟨a1,a2⟩:=h3 x hx k v' l hr
    have hkK:k<K:=by
     by_cases e:K≤k
     ·rw[hW.rK k e] at a1;cases a1
     ·omega
    exact⟨by simp[FQ,show ¬ k=K+1 by omega,show ¬ k=K by omega,a1],a2⟩
   ·obtain⟨a1,a2⟩:=h3 x hx k v' l hr
    have hkK:k<K:=by
     by_cases e:K≤k
     ·rw[hW.rK k e] at a1;cases a1
     ·omega
    exact⟨by simp;omega,by simp;omega⟩
  refine Ad Ak FR.eq_1 ?_
  rcases hO.k with h0 | h0 | h0 | h0
  ·rw[if_pos h0] at hres
   obtain⟨its2,v2,S1,S2,S3,S4⟩:=bx hW (by omega) v o.n
   rw[← S2] at hres
   simp[hi,ho,h0,Aa]
   refine AB 0 S1 (fun p=>by simp[Aa,hH]) (by simp) (by simp) ?_
   simp[ew]
   exact next its2 v2 _ S3 (fun p=>by simp) S4 hres
  ·rw[if_neg (by omega),if_pos h0] at hres
   have hF:=fY its v g.1 g.2.1 g.2.2 (some b) R hW.Rg hW.g1 (fun x hx=>by cases hx;exact Ne.symm hW.gb) hO.l (by omega)
   simp[hi,ho,h0,Aa]
   refine AB 0 hF (fun p=>by simp[Aa,hH]) (by simp) (by simp) ?_
   simp[ew]
   refine ih (i+1) its v (g.1,g.2.1+o.l.length,g.2.2++o.l.map Ai) b (FQ R g.1 (g.2.1+o.l.length) (g.2.2++o.l.map Ai)) K _ (by omega) (by omega) (by simp;omega) ?_ (fun p=>by simp) hres
   have w1:=hW.g1
   have w2:=hW.gK
   refine⟨hW.g1,hW.b1,hW.gb,hW.gK,hW.bK,by simp[FQ],?_,fun q hq=>?_,fun x hx k v' l hr=>?_,fun x hx k v' l hr=>hW.ng x hx k v' l hr⟩
   ·simp only[FQ,if_neg (Ne.symm hW.gb)];exact hW.Rb
   ·simp only[FQ,if_neg (show ¬ q=g.1 by omega)];exact hW.rK q hq
   ·obtain⟨a1,a2⟩:=hW.it x hx k v' l hr
    exact⟨by simp only[FQ,if_neg (hW.ng x hx k v' l hr).1];exact a1,a2⟩
  ·rw[if_neg (by omega),if_neg (by omega),if_pos h0] at hres
   have hF:=dE its v b.1 b.2.1 b.2.2 (some g) R hW.Rb hW.b1 hO.l (by omega)
   simp[hi,ho,h0,Aa]
   refine AB 0 hF (fun p=>by simp[Aa,hH]) (by simp) (by simp) ?_
   simp[ew]
   refine ih (i+1) its v g (b.1,b.2.1+o.l.length,b.2.2++o.l.map Ai) (FQ R b.1 (b.2.1+o.l.length) (b.2.2++o.l.map Ai)) K _ (by omega) (by omega) (by simp;omega) ?_ (fun p=>by simp) hres
   have w2:=hW.bK
   refine⟨hW.g1,hW.b1,hW.gb,hW.gK,hW.bK,?_,by simp[FQ],fun q hq=>?_,fun x hx k v' l hr=>?_,fun x hx k v' l hr=>hW.ng x hx k v' l hr⟩
   ·simp only[FQ,if_neg hW.gb];exact hW.Rg
   ·simp only[FQ,if_neg (show ¬ q=b.1 by omega)];exact hW.rK q hq
   ·obtain⟨a1,a2⟩:=hW.it x hx k v' l hr
    exact⟨by simp only[FQ,if_neg (hW.ng x hx k v' l hr).2];exact a1,a2⟩
  ·rw[if_neg (by omega),if_neg (by omega),if_neg (by omega)] at hres
   obtain⟨E1,E2,E3⟩:=hO.e h0
   have hI:=kG list (Zt o.e) E2 E3
   simp[hi,ho,h0,Aa]
   refine Ae E1 (by simp) ?_
   simp[Aa]
   refine Ae hI (by simp) ?_
   cases hid:Ra list (Zt o.e) with
   |true=>
    rw[if_pos hid] at hres
    obtain⟨its2,v2,S1,S2,S3,S4⟩:=bx hW (by omega) v 1
    rw[← S2] at hres
    simp
    refine AB 0 S1 (fun p=>by simp[Aa,hH]) (by simp) (by simp) ?_
    simp[ew]
    exact next its2 v2 _ S3 (fun p=>by simp) S4 hres
   |false=>
    rw[if_neg (by rw[hid];decide),← TN] at hres
    have F1:=Jr its v g b R (by omega) hW.Rg hW.Rb hW.g1 hW.b1
    have d1:=Qw g
    have d2:=Mm b
    simp
    refine AB 0 F1 (fun p=>by simp[Aa,hH]) (by simp) (by simp) ?_
    have hJl:(its++(EP g++BD b)).length≤its.length+2:=by simp;omega
    have hJr:=hW.flushed
    have next':=next (its++(EP g++BD b)++[.desc (Zt o.e)]) (v+(EP g++BD b).length+1)
    generalize its++(EP g++BD b)=J at *
    generalize v+(EP g++BD b).length=v1 at *
    simp[Aa,TW,s7,ah,ew]
    refine⟨by omega,by omega,?_⟩
    refine next' _ (by simp;omega) (fun p=>?_) (fun x hx k v' l hr=>?_) ?_
    ·by_cases p1:p=[]
     ·subst p1;simp[Aa,Oa]
     ·by_cases p2:p=[0]
      ·subst p2;simp[Aa,S5,V8]
      ·simp[p1,p2,Aa]
    ·rcases List.mem_append.1 hx with hx | hx
     ·exact hJr x hx k v' l hr
     ·simp at hx;subst hx;simp[WI.row] at hr
    ·simpa[WI.op] using hres
theorem ZD {list:Int} {os:List OP} (hos:∀ o,o ∈ os→OpG o) (hol:os.length≤300000) (hsum:Hh os≤1000000):G.Spec Tryz.prog 58 [iv list,V7 os] (V7 (Qi list (os.map lJ) [] [] [])):=by
 refine Al Zg (by simp) fun w0 I0=>?_
 unfold QL
 simp
 refine LoopC.le (Bv (d:=[0]) (u:=1) (cs:=[.sl true [],.sl true [],.sl true []]) 0 [0,0] 14 rfl rfl (by simp)) ?_
 obtain⟨H3,hle,hF⟩:=uR (c:=cx Tryz.prog w0 I0 72) (s:=lk [(0,iv list),(5,tZ 0),(11,V7 os),(12,iv os.length),(13,iv (0:Nat))]) (H:=AQ (AQ (DH [([0],⟨1,.cells [.sl true [],.sl true [],.sl true []]⟩)]) [0,0] ⟨1,.arr 14 []⟩) [0] ⟨1,.cells [.osl [0,0] 1 14 0 0,.sl true [],.sl true []]⟩) (its:=[]) (v:=1) (K:=1) (R:=fun _=>none) (fun p=>by
  by_cases p1:p=[]
  ·subst p1;simp[Aa,Oa]
  ·by_cases p2:p=[0]
   ·subst p2;simp[Aa]
   ·match p,p1,p2 with
    |[q],p1,p2=>
     have hq0:¬ q=0:=fun e=>p2 (by rw[e])
     simp[Aa,iZ,hq0,Ne.symm hq0]
    |_::_::_,p1,p2=>simp[Aa,S8]) (fun q _=>rfl) (by omega)
 refine LoopC.le hle ?_
 refine xw hos hol (res:=Qi list (os.map lJ) [] [] []) (fun H its v g b R K st hH hW hres hil=>?_) os.length 0 [] 1 (1,1,[]) (1+1,1,[]) _ 3 H3 (by omega) (by simp) (by simpa using hsum) ?_ hF (by simp)
 ·have F1:=Jr its v g b R hil hW.Rg hW.Rb hW.g1 hW.b1
  have hJr:=hW.flushed
  have hm:=TN its g b
  rw[hres] at hm
  simp
  refine AB 0 F1 hH (by simp) (by simp) ?_
  simp
  rw[← hm]
  have:=sK (H:=ov 0 ((VN (its++(EP g++BD b)) (v+(EP g++BD b).length) none none R).F 0) H) (its:=its++(EP g++BD b)) (v:=v+(EP g++BD b).length) (g:=none) (b:=none) (R:=R) (fun p=>by simp) hJr
  simpa using this
 ·refine⟨by simp,by simp,by simp,by simp,by simp,by simp[FQ],by simp[FQ],fun q hq=>?_,fun x hx=>by simp at hx,fun x hx=>by simp at hx⟩
  simp[FQ,show ¬ q=1 by omega,show ¬ q=2 by omega]
mutual
def WH:E→Prop
 |.mk k o n ws ks l os=>(k=0∨k=1∨k=2∨k=3)∧(k ≠ 3→l=0)∧(k=1→DI o∧DI n)∧ws.length≤1000000∧ks.length≤1000000∧os.length≤300000∧Hh os≤1000000∧(k=2→cN ks)∧(k=3→eD os)
def cN:List KE→Prop
 |[]=>True
 |.mk a e::l=>WH e∧cN l
def eD:List OP→Prop
 |[]=>True
 |.mk k n t e::l=>((k=0∨k=1∨k=2∨k=3)∧(∀ x,x ∈ t→DI x)∧(k=3→WH e))∧eD l
end
theorem aD:∀ {l:List KE},cN l→∀ x,x ∈ l→WH x.e
 |[],_,x,hx=>by simp at hx
 |.mk a e::l,h,x,hx=>by
  rw[cN] at h
  rcases List.mem_cons.1 hx with rfl | hx
  ·exact h.1
  ·exact aD h.2 x hx
theorem cq:∀ {l:List OP},eD l→∀ x,x ∈ l→(x.kind=0∨x.kind=1∨x.kind=2∨x.kind=3)∧(∀ t,t ∈ x.l→DI t)∧(x.kind=3→WH x.e)
 |[],_,x,hx=>by simp at hx
 |.mk k n t e::l,h,x,hx=>by
  rw[eD] at h
  rcases List.mem_cons.1 hx with rfl | hx
  ·exact h.1
  ·exact cq h.2 x hx
theorem ph (e:E) (h:WH e):(Zt e).words.length≤100000000000000∧(Zt e).kids.length≤100000000000000:=by
 obtain⟨k,o,n,ws,ks,l,os⟩:=e
 rw[WH] at h
 rw[Y7]
 split
 ·simp
 ·split
  ·simp;omega
  ·split<;>simp
theorem n6 {ks:List KE} (hl:ks.length≤1000000) (hk:∀ x,x ∈ ks→G.Spec Tryz.prog 29 [eX x.e] (eX (Zt x.e))) {v1 v3:VOb} {W:A}
  (hq:∀ H u st,H [1]=v1→H [3]=v3→H [2]=⟨1,.cells [iv 2,iv 0,.sl true [],.sl true [],iv 0,.sl true [],.sl true [],W,.osl [5] u 12 0 ks.length,iv 0,.sl true []]⟩→H [5]=⟨u,.arr 12 (ks.map (kA ∘ m9))⟩→Q (.exit 1) ⟨lk ([(2,.pob [1] 1 0),(3,.pob [2] 1 0)]++st),H⟩):∀ (m i u:Nat) (H:Hp),i+m=ks.length→H [1]=v1→H [3]=v3→H [2]=⟨1,.cells [iv 2,iv 0,.sl true [],.sl true [],iv 0,.sl true [],.sl true [],W,.osl [5] u 12 0 i,iv 0,.sl true []]⟩→H [5]=⟨u,.arr 12 ((ks.take i).map (kA ∘ m9))⟩ →
  LoopC (cx Tryz.prog w0 I0 n0) GR Q ⟨lk [(2,.pob [1] 1 0),(3,.pob [2] 1 0),(32,kKs ks),(33,iv ks.length),(34,iv i)],H⟩:=by
 intro m
 induction m with
 |zero=>
  intro i u H hm h1 h3 h2 h5
  refine Ad Ak GR.eq_1 ?_
  have:i=ks.length:=by omega
  subst this
  rw[Bb (Cc _)] at h5
  simp
  exact hq H u [(32,kKs ks),(33,iv ks.length),(34,iv ks.length),(35,bv false)] h1 h3 h2 h5
 |succ m ih=>
  intro i u H hm h1 h3 h2 h5
  have hi:i<ks.length:=by omega
  have ew:IntKind.i64.wrap ((i:Int)+1)=((i+1:Nat):Int):=Av
  have hE:=hk _ (BI hi)
  have htk:(ks.take (i+1)).map (kA ∘ m9)=(ks.take i).map (kA ∘ m9)++[kA (m9 ks[i])]:=by rw[Hj hi,List.map_append];rfl
  have next:=ih (i+1) (u+1)
  rw[htk] at next
  generalize hx:ks[i]=x at *
  refine Ad Ak GR.eq_1 ?_
  simp[hi,hx,Aa,h2]
  refine Ae hE (by simp[Aa]) ?_
  simp[Aa,h2,h5,ew]
  refine⟨⟨by omega,by omega⟩,?_⟩
  refine next _ (by omega) (by simp[Aa,h1]) (by simp[Aa,h3]) (by simp[Aa]) ?_
  simp[Aa,List.take_take,m9]
theorem dj:∀ e:E,WH e→G.Spec Tryz.prog 29 [eX e] (eX (Zt e)):=by
 refine E.ind fun k o n ws ks l os ihk iho h=>?_
 rw[WH] at h
 obtain⟨hk,hl,hon,hwl,hkl,hol,hsum,hks,hos⟩:=h
 refine Al Wo (by simp) fun w0 I0=>?_
 unfold OY
 rw[Y7]
 rcases hk with rfl | rfl | rfl | rfl
 ·simp[hl (by decide)]
  exact Dd ⟨Ab rfl,Ab rfl,An,An,Ab rfl,An,An,An,An,Ab rfl,An,trivial⟩
 ·obtain⟨ho,hn⟩:=hon rfl
  simp[hl (by decide)]
  refine Ae (L5 o ho) (by simp) ?_
  simp[Aa]
  refine Ae (L5 n hn) (by simp) ?_
  simp[Aa]
  exact Dd ⟨Ab rfl,Ca (CM o).symm,Ab rfl,Ab rfl,Ca (CM n).symm,Ab rfl,Ab rfl,An,An,Ab rfl,An,trivial⟩
 ·simp[hl (by decide)]
  refine⟨by omega,?_⟩
  refine LoopC.le (Bv (d:=[2]) (u:=1) (cs:=[iv 2,iv 0,.sl true [],.sl true [],iv 0,.sl true [],.sl true [],.osl [3] 1 4 0 ws.length,.sl true [],iv 0,.sl true []]) 8 [5] 12 rfl rfl (by simp)) ?_
  refine LoopC.le (AA [(2,.pob [1] 1 0),(3,.pob [2] 1 0),(32,kKs ks),(33,iv ks.length),(34,iv (0:Nat))] (by simp)) ?_
  refine n6 hkl (fun x hx=>ihk x hx (aD (hks rfl) x hx)) (W:=.osl [3] 1 4 0 ws.length) (fun H u st h1 h3 h2 h5=>?_) ks.length 0 1 _ (by omega) rfl rfl (by simp[Aa]) (by simp[Aa])
  have h3':H [3]=⟨1,.arr 4 (ws.map wA)⟩:=by rw[h3];simp[Aa]
  simp[h2,h1,Aa]
  have fw:=BQ (H:=AQ H [1] ⟨1,.cells [iv 2,iv 0,.sl true [],.sl true [],iv 0,.sl true [],.sl true [],.osl [3] 1 4 0 ws.length,.osl [5] u 12 0 ks.length,iv 0,.sl true []]⟩) (o:=[3]) (u:=1) (sz:=4) (l:=ws) (f:=wA) (n:=ws.length) (by simp[Aa,h3']) rfl (fun x=>rfl)
  have fk:=BQ (H:=AQ H [1] ⟨1,.cells [iv 2,iv 0,.sl true [],.sl true [],iv 0,.sl true [],.sl true [],.osl [3] 1 4 0 ws.length,.osl [5] u 12 0 ks.length,iv 0,.sl true []]⟩) (o:=[5]) (u:=u) (sz:=12) (l:=ks) (f:=kA ∘ m9) (n:=ks.length) (by simp[Aa,h5]) rfl (fun x=>by simp)
  rw[← List.map_map] at fk
  exact Dd ⟨Ab rfl,Ab rfl,An,An,Ab rfl,An,An,fw,fk,Ab rfl,An,trivial⟩
 ·have hO:=ZD (list:=l) (os:=os) (fun x hx=>by
   obtain⟨a,b,c⟩:=cq (hos rfl) x hx
   exact⟨a,b,fun h=>⟨iho x hx (c h),ph _ (c h)⟩⟩) hol hsum
  simp
  refine Ae hO (by simp[Aa]) ?_
  simp[Aa]
  exact Dd ⟨Ab rfl,Ab rfl,An,An,Ab rfl,An,An,An,An,Ab rfl,An,trivial⟩
inductive RI where
 |keep (n:Int)
 |del (l:List T)
 |ins (l:List T)
 |desc (e:E)
def RI.op:RI→OP
 |.keep n=>.mk 0 n [] E0
 |.del l=>.mk 1 0 l E0
 |.ins l=>.mk 2 0 l E0
 |.desc e=>.mk 3 0 [] e
def riC:RI→List A
 |.keep n=>iv 0::iv n :: .sl true []::DG
 |.del l=>iv 1::iv 0::Co l::DG
 |.ins l=>iv 2::iv 0::Co l::DG
 |.desc e=>iv 3::iv 0 :: .sl true []::eL e
@[simp] theorem AgO {x:RI}:(riC x).length=14:=by cases x<;>rfl
theorem vY {H:Hp} (x:RI):GG H (riC x) (oA x.op).cells:=by
 have hraw:GG H DG (eL E0):=⟨Ab rfl,Ab rfl,An,An,Ab rfl,An,An,An,An,Ab rfl,An,trivial⟩
 rw[oA_eq]
 cases x with
 |keep n=>exact⟨Ab rfl,Ab rfl,An,hraw⟩
 |del l=>exact⟨Ab rfl,Ab rfl,Ab rfl,hraw⟩
 |ins l=>exact⟨Ab rfl,Ab rfl,Ab rfl,hraw⟩
 |desc e=>exact⟨Ab rfl,Ab rfl,An,Ab rfl,Ab rfl,Ab rfl,Ab rfl,Ab rfl,Ab rfl,Ab rfl,Ab rfl,Ab rfl,Ab rfl,Ab rfl,trivial⟩
inductive IT where
 |r (x:RI)
 |got (o:OP)
def IT.op:IT→OP
 |.r x=>x.op
 |.got o=>o
def l7:IT→List A
 |.r x=>riC x
 |.got o=>(oA o).cells
def Pw (x:IT):A:=.agg (l7 x)
@[simp] theorem AaA {x:IT}:(Pw x).cells=l7 x:=rfl
@[simp] theorem AeE {x:IT}:(l7 x).length=14:=by
 cases x with
 |r x=>simp[l7]
 |got o=>simp[l7]
theorem DW {l:List IT}:DS 14 (l.map Pw)=true:=by rw[Ip];simp
theorem xA {H:Hp} (x:IT):GG H (l7 x) (oA x.op).cells:=by
 cases x with
 |r x=>exact vY x
 |got o=>exact Oe (by simp[l7])
theorem XU {H:Hp} {o:Nm} {u n:Nat} {its:List IT} (h1:H o=⟨u,.arr 14 (its.map Pw)⟩) (hn:n=its.length):Jw H (.osl o u 14 0 n) (V7 (its.map IT.op)):=by
 subst hn
 refine K5 (o:=o) (u:=u) (off:=0) (len:=its.length) (sz:=14) (xs:=its.map Pw) (ys:=(its.map IT.op).map oA) (by rw[N8,h1];simp) (by simp) (by simp) (fun y hy=>by
  obtain⟨x,_,rfl⟩:=List.mem_map.1 hy
  simp) ?_ ?_
 ·have:∀ l:List OP,A.ones ((l.map oA).flatMap A.cells)=true:=fun l=>by
   induction l with
   |nil=>rfl
   |cons x l ih=>simp[A.ones] at ih ⊢
  exact this _
 ·rw[List.drop_zero,Bb (by simp),List.map_map]
  have:∀ l:List IT,GG H ((l.map Pw).flatMap A.cells) ((l.map (oA ∘ IT.op)).flatMap A.cells):=fun l=>by
   induction l with
   |nil=>trivial
   |cons x l ih=>
    simp only[List.map_cons,List.flatMap_cons]
    exact Un (xA x) ih (by simp)
  exact this its
theorem mX {H:Hp} (k:Int) (l:List T):Jw H (.sl true [.agg (iv k::iv 0::Co l::DG)]) (V7 [OP.mk k 0 l E0]):=by
 have h:=qT (H:=H) (a:=.sl true [.agg (iv k::iv 0::Co l::DG)]) (by simp[DG])
 have e:(A.sl true [.agg (iv k::iv 0::Co l::DG)]).soft=V7 [OP.mk k 0 l E0]:=by simp[A.soft,A.softL,DG,qJ]
 rw[e] at h
 exact h
theorem Uf (k:Int) (l:List T):G.Spec Tryz.prog 223 [iv k,Co l] (V7 (if l=[] then [] else [.mk k 0 l E0])):=by
 refine Al aW (by simp) fun w0 I0=>?_
 unfold SY
 by_cases h:l=[]
 ·simp[h]
  exact An
 ·have:¬ l.length=0:=by simpa using h
  simp[h,this]
  exact mX k l
theorem LP (l:List T):G.Spec Tryz.prog 180 [Co l] (V7 (En l)):=by
 refine Al Wh (by simp) fun w0 I0=>?_
 unfold OZ
 simp
 refine Ae (Uf 1 l) (by simp) ?_
 simp
 exact Ab (by simp)
theorem LQ (l:List T):G.Spec Tryz.prog 179 [Co l] (V7 (Ed l)):=by
 refine Al Ww (by simp) fun w0 I0=>?_
 unfold Pf
 simp
 refine Ae (Uf 2 l) (by simp) ?_
 simp
 exact Ab (by simp)
theorem AbM {a b:List T} (hb:∀ t,t ∈ b→DI t) (hbl:b.length≤1000000) {most:Int} {x:T} (hx:DI x) {R:A} {N i w:Nat} {H0:Hp}
  (hq:∀ (H':Hp) (v:Nat),H' [2]=⟨v,.arr 1 ((b.map fun y=>(JH x y:Int)).map iv)⟩→(∀ o,o ≠ [1]→o ≠ [2]→H' o=H0 o)→Q (.exit 2) ⟨lk [(1,Co a),(2,Co b),(3,iv most),(9,R),(11,.pob [0] w 0),(12,.osl [2] v 1 0 b.length),(20,Co a),(21,iv N),(22,iv i),(26,Co b),(27,iv b.length),(28,iv b.length),(29,bv false)],H'⟩) :
  ∀ (m j:Nat) (v:Nat) (H:Hp),j+m=b.length→H [0]=⟨w,.cells (tL x)⟩→H [2]=⟨v,.arr 1 (((b.take j).map fun y=>(JH x y:Int)).map iv)⟩→(∀ o,o ≠ [1]→o ≠ [2]→H o=H0 o) →
  LoopC (cx Tryz.prog w0 I0 n0) Kv Q ⟨lk [(1,Co a),(2,Co b),(3,iv most),(9,R),(11,.pob [0] w 0),(12,.osl [2] v 1 0 j),(20,Co a),(21,iv N),(22,iv i),(26,Co b),(27,iv b.length),(28,iv j)],H⟩:=by
 intro m
 induction m with
 |zero=>
  intro j v H hm h0 h2 hH
  have:j=b.length:=by omega
  subst this
  rw[Bb (Cc _)] at h2
  refine Ad Ak Kv.eq_1 ?_
  simp
  exact hq H v h2 hH
 |succ m ih=>
  intro j v H hm h0 h2 hH
  have hlt:j<b.length:=by omega
  have ew:IntKind.i64.wrap ((j:Int)+1)=((j+1:Nat):Int):=Av
  have htk:b.take (j+1)=b.take j++[b[j]]:=Hj hlt
  have next:=ih (j+1)
  rw[htk] at next
  refine Ad Ak Kv.eq_1 ?_
  simp[hlt,h0,Aa]
  refine Ae (ZF hx (hb _ (BI hlt))) (by simp) ?_
  simp[h2,Aa,Nat.min_eq_left (Nat.le_of_lt hlt)]
  refine⟨by omega,?_⟩
  rw[ew]
  refine next (v+1) _ (by omega) (by simp[Aa,h0]) ?_ (fun o h1 h2'=>by simp[Aa,h1,h2',hH])
  simp[Aa]
  rw[Hj (by simpa using hlt)]
  simp[List.take_take]
abbrev fM (r:List Int):A:=.sl false (r.map iv)
theorem Ace {a b:List T} (ha:∀ t,t ∈ a→DI t) (hb:∀ t,t ∈ b→DI t) (hal:a.length≤1000000) (hbl:b.length≤1000000) {most:Int}
  (hq:∀ (H':Hp),H' [3]=⟨a.length+1,.arr 1 ((O3 a b).map fM)⟩→H' [5]=⟨0,.none⟩→Q (.exit 0) ⟨lk [(1,Co a),(2,Co b),(3,iv most),(9,.osl [3] (a.length+1) 1 0 a.length),(20,Co a),(21,iv a.length),(22,iv a.length),(23,bv false)],H'⟩) :
  ∀ (m i:Nat) (H:Hp),i+m=a.length→H [3]=⟨i+1,.arr 1 ((O3 (a.take i) b).map fM)⟩→H [5]=⟨0,.none⟩ →
  LoopC (cx Tryz.prog w0 I0 n0) Kw Q ⟨lk [(1,Co a),(2,Co b),(3,iv most),(9,.osl [3] (i+1) 1 0 i),(20,Co a),(21,iv a.length),(22,iv i)],H⟩:=by
 intro m
 induction m with
 |zero=>
  intro i H hm h3 h5
  have:i=a.length:=by omega
  subst this
  rw[Bb (Cc _)] at h3
  refine Ad Ak Kw.eq_1 ?_
  simp
  exact hq H h3 h5
 |succ m ih=>
  intro i H hm h3 h5
  have hlt:i<a.length:=by omega
  have ew:IntKind.i64.wrap ((i:Int)+1)=((i+1:Nat):Int):=Av
  have htk:a.take (i+1)=a.take i++[a[i]]:=Hj hlt
  have next:=ih (i+1)
  rw[htk] at next
  have hrl:(O3 (a.take i) b).length=i:=by simp[O3];omega
  refine Ad Ak Kw.eq_1 ?_
  simp[hlt]
  refine LoopC.le (FP 12 [2] 1 (by simp)) ?_
  refine LoopC.le (AA [(1,Co a),(2,Co b),(3,iv most),(9,.osl [3] (i+1) 1 0 i),(11,.pob [0] ((H [0]).u+1) 0),(12,.osl [2] ((H [2]).u+1) 1 0 0),(20,Co a),(21,iv a.length),(22,iv i),(26,Co b),(27,iv b.length),(28,iv (0:Nat))] (by simp[upd,Aa])) ?_
  refine AbM (a:=a) hb hbl (ha _ (BI hlt)) (H0:=AQ H [0] ⟨(H [0]).u+1,.cells (tL a[i])⟩) (fun H' v g2 gH=>?_) b.length 0 ((H [2]).u+1) _ (by omega) (by simp[Aa]) (by simp[Aa]) (fun o h1 h2=>by simp[Aa,h1,h2])
  simp
  refine Dv (LV (d:=[2]) (fun _ h=>h) 12 (fM (b.map fun y=>(JH a[i] y:Int))) fun H1 e1=>?_) ?_
  ·simp
   exact BQ (f:=iv) (l:=b.map fun y=>(JH a[i] y:Int)) (by rw[e1,g2];simp) (by simp) (fun x=>by simp)
  ·refine Dv (AA [(1,Co a),(2,Co b),(3,iv most),(9,.osl [3] (i+1) 1 0 i),(12,fM (b.map fun y=>(JH a[i] y:Int))),(20,Co a),(21,iv a.length),(22,iv i)] (by simp[upd])) (Dn ?_)
   have g3:H' [3]=H [3]:=by rw[gH _ (by simp) (by simp)];simp[Aa]
   have g5:H' [5]=H [5]:=by rw[gH _ (by simp) (by simp)];simp[Aa]
   simp[Aa,g3,h3,hrl]
   refine⟨by omega,?_⟩
   rw[ew]
   refine next _ (by omega) ?_ (by simp[Aa,g5,h5])
   have e1:List.take i (List.map fM (O3 (List.take i a) b))=List.map fM (O3 (List.take i a) b):=Bb (by simp[O3];omega)
   simp[Aa,e1,O3]
   rw[Hj (by simpa using hlt)]
   simp[List.take_take]
def j6 (la lb:Nat):Nat→Nat→List Sc→Prop
 |i,j,[]=>i≤la∧j≤lb
 |i,j,x::P=>i≤x.i∧j≤x.j∧x.i<la∧x.j<lb∧j6 la lb (x.i+1) (x.j+1) P
theorem bT {la lb:Nat}:∀ (P:List Sc) (i j:Nat),i≤la→j≤lb→(∀ x,x ∈ P→i≤x.i∧j≤x.j∧x.i<la∧x.j<lb)→(P.Pairwise fun p q=>p.i<q.i∧p.j<q.j)→j6 la lb i j P
 |[],i,j,h1,h2,_,_=>⟨h1,h2⟩
 |x::P,i,j,h1,h2,h3,h4=>by
  obtain⟨g1,g2,g3,g4⟩:=h3 x (by simp)
  rw[List.pairwise_cons] at h4
  refine⟨g1,g2,g3,g4,bT P _ _ (by omega) (by omega) (fun y hy=>?_) h4.2⟩
  have:=h4.1 y hy
  obtain⟨k1,k2,k3,k4⟩:=h3 y (by simp[hy])
  omega
theorem Zq (a b:List T):j6 a.length b.length 0 0 (cG (O3 a b)):=by
 obtain⟨h,_⟩:=eH (O3 a b)
 obtain⟨h1,h2⟩:=Iq h
 obtain⟨g1,g2⟩:=R6 h1
 refine bT _ 0 0 (by omega) (by omega) (fun x hx=>?_) ?_
 ·obtain⟨_,_,_,_,r,k1,k2⟩:=Sa (h2 x (g2.subset hx))
  have l1:=(List.getElem?_eq_some_iff.1 k1).1
  have e1:=(List.getElem?_eq_some_iff.1 k1).2
  have l2:=(List.getElem?_eq_some_iff.1 k2).1
  rw[← e1] at l2
  simp[O3] at l1 l2
  omega
 ·have hp:(cG (O3 a b)).Pairwise fun p q=>Wu p q=true:=by
   refine(List.Perm.pairwise_iff (fun {p q} h=>?_) g2).2 h1
   unfold Wu at h ⊢
   simp at h ⊢
   omega
  have hr:(cG (O3 a b)).Pairwise fun p q=>p.i<q.i:=g1
  refine(hp.and hr).imp fun {p q} h=>?_
  obtain⟨h1,h2⟩:=h
  unfold Wu at h1
  simp at h1
  omega
theorem Acw {one:T→T→E} {a b:List T} (hal:a.length≤1000000) (hbl:b.length≤1000000) {most:Int} (hone:∀ x,x ∈ a→∀ y,y ∈ b→G.Spec Tryz.prog 30 [tX x,tX y,iv most] (eX (one x y))) {P:List Sc} (hP:P.length≤1000) {R:List OP}
  (hq:∀ (H':Hp) (its:List IT) (v i j:Nat),i≤a.length→j≤b.length→its.length≤3*P.length→R=NP one a b [] i j (its.map IT.op)→H' [5]=⟨v,.arr 14 (its.map Pw)⟩→Q (.exit 4) ⟨lk [(1,Co a),(2,Co b),(3,iv most),(15,.osl [5] v 14 0 its.length),(16,iv i),(17,iv j),(45,prs P),(46,iv P.length),(47,iv P.length),(48,bv false)],H'⟩) :
  ∀ (m k i j v:Nat) (its:List IT) (H:Hp),k+m=P.length→j6 a.length b.length i j (P.drop k)→its.length≤3*k→R=NP one a b (P.drop k) i j (its.map IT.op)→H [5]=⟨v,.arr 14 (its.map Pw)⟩ →
  LoopC (cx Tryz.prog w0 I0 n0) KJ Q ⟨lk [(1,Co a),(2,Co b),(3,iv most),(15,.osl [5] v 14 0 its.length),(16,iv i),(17,iv j),(45,prs P),(46,iv P.length),(47,iv k)],H⟩:=by
 intro m
 induction m with
 |zero=>
  intro k i j v its H hm hk hl hR h5
  have:k=P.length:=by omega
  subst this
  rw[List.drop_length] at hk hR
  refine Ad Ak KJ.eq_1 ?_
  simp
  exact hq H its v i j hk.1 hk.2 hl hR h5
 |succ m ih=>
  intro k i j v its H hm hk hl hR h5
  have hlt:k<P.length:=by omega
  have ew:IntKind.i64.wrap ((k:Int)+1)=((k+1:Nat):Int):=Av
  have hd:P.drop k=P[k]::P.drop (k+1):=(List.getElem_cons_drop hlt).symm
  rw[hd] at hk hR
  have next:=ih (k+1)
  generalize hx:P[k]=x at *
  obtain⟨k1,k2,k3,k4,k5⟩:=hk
  rw[NP] at hR
  have ei:IntKind.i64.wrap ((x.i:Int)+1)=((x.i+1:Nat):Int):=Av
  have ej:IntKind.i64.wrap ((x.j:Int)+1)=((x.j+1:Nat):Int):=Av
  have hO:=hone _ (BI k3) _ (BI k4)
  have D1:=LP ((a.take x.i).drop i)
  have D2:=LQ ((b.take x.j).drop j)
  refine Ad Ak KJ.eq_1 ?_
  have f1:x.i≤a.length:=by omega
  have f2:x.j≤b.length:=by omega
  have dl:∀ l,(En l).length≤1:=fun l=>by unfold En;split<;>simp
  have il:∀ l,(Ed l).length≤1:=fun l=>by unfold Ed;split<;>simp
  have d1:=dl ((a.take x.i).drop i)
  have d2:=il ((b.take x.j).drop j)
  simp[hlt,hx,Kz,cI,Aa,k1,k2,f1,f2,h5]
  simp only[← List.map_drop,← List.map_take]
  simp only[List.drop_take] at D1 D2 hR d1 d2
  refine Ae D1 (by simp) ?_
  generalize En ((a.drop i).take (x.i-i))=D at *
  generalize hI:Ed ((b.drop j).take (x.j-j))=I at *
  simp[k1,k2,f1,f2,h5,Aa,DW]
  have hgot:∀ D:List OP,D.map oA=(D.map IT.got).map Pw:=fun D=>by
   rw[List.map_map]
   refine List.map_congr_left fun o _=>?_
   simp[Pw,l7]
  refine⟨by omega,?_⟩
  simp only[← List.map_drop,← List.map_take]
  refine Ae D2 (by simp) ?_
  simp[k3,k4,Aa,DW]
  refine⟨by omega,?_⟩
  refine Ae hO (by simp) ?_
  simp[ei,ej,ew,Aa,DW]
  refine⟨by omega,?_⟩
  have e1:a.getD x.i T0=a[x.i]:=by simp[k3]
  have e2:b.getD x.j T0=b[x.j]:=by simp[k4]
  rw[e1,e2] at hR
  have hop:∀ D:List OP,(D.map IT.got).map IT.op=D:=fun D=>by
   rw[List.map_map]
   exact List.map_id' _
  have hrow:List.take (its.length+D.length+I.length) (List.take (its.length+D.length) (List.map Pw its++List.map oA D)++List.map oA I)++[A.agg (A.v (Value.int IntKind.i64 3)::A.v (Value.int IntKind.i64 0)::A.sl true []::eL (one a[x.i] b[x.j]))]=(its++D.map IT.got++I.map IT.got++[IT.r (.desc (one a[x.i] b[x.j]))]).map Pw:=by
   rw[Bb (by simp),Bb (by simp),hgot D,hgot I]
   simp[Pw,l7,riC]
  rw[hrow]
  have nx:=next (x.i+1) (x.j+1) (v+1+1+1) (its++D.map IT.got++I.map IT.got++[IT.r (.desc (one a[x.i] b[x.j]))]) (AQ (AQ H [4] ⟨(H [4]).u+1,.cells [iv x.i,iv x.j]⟩) [5] ⟨v+1+1+1,.arr 14 ((its++D.map IT.got++I.map IT.got++[IT.r (.desc (one a[x.i] b[x.j]))]).map Pw)⟩) (by omega) k5 (by simp;omega) (by rw[hR];congr 1;simp[hop,IT.op,RI.op]) (by simp[Aa])
  have hlen:(its++D.map IT.got++I.map IT.got++[IT.r (.desc (one a[x.i] b[x.j]))]).length=its.length+D.length+I.length+1:=by simp;omega
  rw[hlen] at nx
  simpa using nx
theorem XO {one:T→T→E} {a b:List T} (ha:∀ t,t ∈ a→DI t) (hb:∀ t,t ∈ b→DI t) (hal:a.length≤1000000) (hbl:b.length≤1000000) {most q:Int} (hone:∀ x,x ∈ a→∀ y,y ∈ b→G.Spec Tryz.prog 30 [tX x,tX y,iv most] (eX (one x y))) :
  G.Spec Tryz.prog 154 [iv q,Co a,Co b,iv most] (V7 (FK one a b)):=by
 obtain⟨hpk,hp16⟩:=eH (O3 a b)
 have hPl:(cG (O3 a b)).length≤16:=by
  have:=(R6 (Iq hpk).1).2.length_eq
  unfold cG
  omega
 have hPick:=jP (O3 a b) (by simp[O3];omega) (fun r hr=>by
  obtain⟨x,_,rfl⟩:=List.mem_map.1 hr
  simp;omega) hpk hp16
 refine Al di (by simp) fun w0 I0=>?_
 unfold Vr
 simp
 refine LoopC.le (FP 9 [3] 1 (by simp)) ?_
 refine LoopC.le (AA [(1,Co a),(2,Co b),(3,iv most),(9,.osl [3] (0+1) 1 0 0),(20,Co a),(21,iv a.length),(22,iv (0:Nat))] (by simp[upd])) ?_
 refine Ace ha hb hal hbl (fun H' h3 h5=>?_) a.length 0 _ (by omega) (by simp[O3]) (by simp[Aa])
 simp
 refine Dv (LV (d:=[3]) (fun _ h=>h) 9 (dx (O3 a b)) fun H1 e1=>?_) ?_
 ·simp
  exact BQ (f:=fM) (l:=O3 a b) (by rw[e1,h3];simp) (by simp[O3]) (fun x=>by simp)
 ·refine Dv (AA [(1,Co a),(2,Co b),(3,iv most),(9,dx (O3 a b)),(15,.sl true []),(16,iv 0),(17,iv 0)] (by simp[upd])) (Dn ?_)
  simp
  refine Ae hPick (by simp) ?_
  simp
  refine LoopC.le (FP 15 [5] 14 (by simp)) ?_
  refine LoopC.le (AA [(1,Co a),(2,Co b),(3,iv most),(15,.osl [5] 1 14 0 ([]:List IT).length),(16,iv (0:Nat)),(17,iv (0:Nat)),(45,prs (cG (O3 a b))),(46,iv (cG (O3 a b)).length),(47,iv (0:Nat))] (by simp[upd,Aa,h5,cG])) ?_
  refine Acw (one:=one) (a:=a) (b:=b) hal hbl hone (P:=cG (O3 a b)) (by omega) (R:=FK one a b) (fun H2 its v i j hi hj hl hR k5=>?_) _ 0 0 0 1 [] _ (Nat.zero_add _) (Zq a b) (by simp) rfl (by simp[Aa,h5])
  have D1:=LP ((a.drop i).take (a.length-i))
  have D2:=LQ ((b.drop j).take (b.length-j))
  have dl:∀ l,(En l).length≤1:=fun l=>by unfold En;split<;>simp
  have il:∀ l,(Ed l).length≤1:=fun l=>by unfold Ed;split<;>simp
  have d1:=dl ((a.drop i).take (a.length-i))
  have d2:=il ((b.drop j).take (b.length-j))
  have ea:(a.drop i).take (a.length-i)=a.drop i:=Bb (by simp)
  have eb:(b.drop j).take (b.length-j)=b.drop j:=Bb (by simp)
  have hR2:FK one a b=its.map IT.op++En ((a.drop i).take (a.length-i))++Ed ((b.drop j).take (b.length-j)):=by rw[ea,eb,hR,NP]
  clear ea eb
  rw[hR2]
  have hgot:∀ D:List OP,D.map oA=(D.map IT.got).map Pw:=fun D=>by
   rw[List.map_map]
   refine List.map_congr_left fun o _=>?_
   simp[Pw,l7]
  have hop:∀ D:List OP,(D.map IT.got).map IT.op=D:=fun D=>by
   rw[List.map_map]
   exact List.map_id' _
  clear hR2
  generalize En ((a.drop i).take (a.length-i))=D at *
  generalize Ed ((b.drop j).take (b.length-j))=I at *
  simp[hi,hj]
  simp only[← List.map_drop,← List.map_take]
  refine Ae D1 (by simp) ?_
  simp[hj,k5,Aa,DW]
  refine⟨by omega,?_⟩
  simp only[← List.map_drop,← List.map_take]
  refine Ae D2 (by simp) ?_
  simp[Aa,DW]
  refine⟨by omega,?_⟩
  have hf:∀ H:Hp,H [5]=⟨v+1+1,.arr 14 ((its++D.map IT.got++I.map IT.got).map Pw)⟩→Jw H (.osl [5] (v+1+1) 14 0 (its.length+D.length+I.length)) (V7 (its.map IT.op++(D++I))):=fun H hH=>by
   have:=XU hH (n:=its.length+D.length+I.length) (by simp;omega)
   simpa[hop] using this
  refine hf _ ?_
  rw[hgot D,hgot I,Bb (by simp)]
  simp[Aa]
theorem XB {gap:List T→List T→List OP} {s:Sp} (h:s.k=0) (ss:List Sp) (a b:List T) (out:List OP):Dg gap (s::ss) a b out=Dg gap ss (a.drop s.n) (b.drop s.n) (out++[.mk 0 s.n [] E0]):=by
 cases ss with
 |nil=>simp[Dg,h]
 |cons s2 ss=>simp[Dg,h]
theorem bI {gap:List T→List T→List OP} {s:Sp} (h:s.k=2) (ss:List Sp) (a b:List T) (out:List OP):Dg gap (s::ss) a b out=Dg gap ss a (b.drop s.n) (out++Ed (b.take s.n)):=by
 cases ss with
 |nil=>simp[Dg,h]
 |cons s2 ss=>simp[Dg,h]
theorem ZS {gap:List T→List T→List OP} {s s2:Sp} (h:s.k=1) (h2:s2.k=2) (ss:List Sp) (a b:List T) (out:List OP):Dg gap (s::s2::ss) a b out=Dg gap ss (a.drop s.n) (b.drop s2.n) (out++gap (a.take s.n) (b.take s2.n)):=by
 simp[Dg,h,h2]
theorem cB {gap:List T→List T→List OP} {s:Sp} (h:s.k=1) {ss:List Sp} (h2:∀ s2 r,ss=s2::r→s2.k ≠ 2) (a b:List T) (out:List OP):Dg gap (s::ss) a b out=Dg gap ss (a.drop s.n) b (out++En (a.take s.n)):=by
 cases ss with
 |nil=>simp[Dg,h]
 |cons s2 ss=>simp[Dg,h,h2 s2 ss rfl]
theorem bH (one:T→T→E) (a b:List T):∀ (P:List Sc) (i j:Nat) (out:List OP),(NP one a b P i j out).length≤out.length+3*P.length+2
 |[],i,j,out=>by
  have d1:(En (a.drop i)).length≤1:=by unfold En;split<;>simp
  have d2:(Ed (b.drop j)).length≤1:=by unfold Ed;split<;>simp
  simp[NP]
  omega
 |x::P,i,j,out=>by
  have d1:(En ((a.take x.i).drop i)).length≤1:=by unfold En;split<;>simp
  have d2:(Ed ((b.take x.j).drop j)).length≤1:=by unfold Ed;split<;>simp
  have:=bH one a b P (x.i+1) (x.j+1) (out++En ((a.take x.i).drop i)++Ed ((b.take x.j).drop j)++[.mk 3 0 [] (one (a.getD x.i T0) (b.getD x.j T0))])
  rw[NP]
  simp only[List.length_append,List.length_singleton] at this
  simp only[List.length_cons]
  omega
theorem QR (one:T→T→E) (a b:List T):(FK one a b).length≤50:=by
 obtain⟨hpk,hp16⟩:=eH (O3 a b)
 have hPl:(cG (O3 a b)).length≤16:=by
  have:=(R6 (Iq hpk).1).2.length_eq
  unfold cG
  omega
 have:=bH one a b (cG (O3 a b)) 0 0 []
 simp at this
 unfold FK
 omega
theorem VY (D:List OP):D.map oA=(D.map IT.got).map Pw:=by
 rw[List.map_map]
 refine List.map_congr_left fun o _=>?_
 simp[Pw,l7]
theorem Vo (D:List OP):(D.map IT.got).map IT.op=D:=by
 rw[List.map_map]
 exact List.map_id' _
theorem tE {one:T→T→E} {a b:T} (ha:∀ t,t ∈ a.kids→DI t) (hb:∀ t,t ∈ b.kids→DI t) (hal:a.kids.length≤1000000) (hbl:b.kids.length≤1000000) {most:Int} (hone:∀ x,x ∈ a.kids→∀ y,y ∈ b.kids→G.Spec Tryz.prog 30 [tX x,tX y,iv most] (eX (one x y))) {S:List Sp} (hS:S.length≤10000000) (hS2:∀ s,s ∈ S→s.k≤2) {R:List OP}
  (hq:∀ (H':Hp) (its:List IT) (v:Nat) (st:List (Nat × A)),its.map IT.op=R→H' [2]=⟨v,.arr 14 (its.map Pw)⟩→Q (.exit 0) ⟨lk ([(0,Um S),(3,iv most),(5,.pob [0] 1 0),(9,.osl [2] v 14 0 its.length)]++st),H'⟩) :
  ∀ (m k v:Nat) (x y:List T) (its:List IT) (H:Hp),k+m=S.length→(∀ t,t ∈ x→t ∈ a.kids)→(∀ t,t ∈ y→t ∈ b.kids)→x.length≤1000000→y.length≤1000000→dA (A6 (S.drop k))≤x.length→dB (A6 (S.drop k))≤y.length→its.length≤50*k→R=Dg (FK one) (S.drop k) x y (its.map IT.op)→H [0]=⟨1,.cells (tL a)⟩→H [2]=⟨v,.arr 14 (its.map Pw)⟩ →
  LoopC (cx Tryz.prog w0 I0 n0) Fa Q ⟨lk [(0,Um S),(3,iv most),(5,.pob [0] 1 0),(9,.osl [2] v 14 0 its.length),(10,Co x),(11,Co y),(12,iv k)],H⟩:=by
 have tk:∀ (l:List T) (n:Nat),(l.drop n).take (l.length-n)=l.drop n:=fun l n=>Bb (by simp)
 intro m
 induction m using Nat.strongRecOn with
 |_ m ih=>
 intro k v x y its H hm hx hy hxl hyl hA hB hl hR h0 h2
 cases m with
 |zero=>
  have:k=S.length:=by omega
  subst this
  rw[List.drop_length] at hR
  refine Ad Ak Fa.eq_1 ?_
  simp
  exact hq H its v [(10,Co x),(11,Co y),(12,iv S.length),(22,bv false)] hR.symm h2
 |succ m=>
  have hlt:k<S.length:=by omega
  have ew:IntKind.i64.wrap ((k:Int)+1)=((k+1:Nat):Int):=Av
  have hd:S.drop k=S[k]::S.drop (k+1):=(List.getElem_cons_drop hlt).symm
  have hk:=hS2 _ (BI hlt)
  rw[hd] at hR hA hB
  rw[AP,Ez,EX] at hA
  rw[AP,Ey,E5] at hB
  have hg:(S.map Jz)[k]? = some (Jz S[k]):=by simp[hlt]
  generalize hs:S[k]=s at *
  have hk3:s.k=0∨s.k=1∨s.k=2:=by omega
  rcases hk3 with h | h | h
  ·rw[XB h] at hR
   rw[if_neg (by omega)] at hA hB
   have f1:s.n≤x.length:=by omega
   have f2:s.n≤y.length:=by omega
   refine Ad Ak Fa.eq_1 ?_
   simp[hlt,hs,Jz,RC,h,f1,f2,h2,DW,ew]
   refine⟨by omega,?_⟩
   simp only[← List.map_drop,← List.map_take,tk]
   have nx:=ih m (by omega) (k+1) (v+1) (x.drop s.n) (y.drop s.n) (its++[IT.r (RI.keep (s.n:Int))]) (AQ H [2] ⟨v+1,.arr 14 ((its++[IT.r (RI.keep (s.n:Int))]).map Pw)⟩) (by omega) (fun t ht=>hx t (V4 ht)) (fun t ht=>hy t (V4 ht)) (by simp;omega) (by simp;omega) (by simp;omega) (by simp;omega) (by simp;omega) (by rw[hR];simp[IT.op,RI.op]) (by simp[Aa,h0]) (by simp[Aa])
   rw[Bb (by simp)]
   rw[Int.natCast_add] at nx
   simp only[List.length_append,List.length_map,List.length_singleton,List.length_cons,List.length_nil,List.map_append,List.map_cons,List.map_nil] at nx ⊢
   exact nx
  ·rw[h] at hA hB
   simp at hA hB
   have f1:s.n≤x.length:=by omega
   by_cases hg2:∃ h3:k+1<S.length,S[k+1].k=2
   ·obtain⟨h3,h4⟩:=hg2
    have hd2:S.drop (k+1)=S[k+1]::S.drop (k+1+1):=(List.getElem_cons_drop h3).symm
    rw[hd2] at hR hA hB
    rw[AP,Ez,EX] at hA
    rw[AP,Ey,E5] at hB
    generalize hs2:S[k+1]=s2 at *
    rw[ZS h h4] at hR
    rw[h4] at hA hB
    simp at hA hB
    have f2:s2.n≤y.length:=by omega
    have ew2:IntKind.i64.wrap ((k:Int)+1+1)=((k+1+1:Nat):Int):=Av
    have G:=XO (one:=one) (a:=x.take s.n) (b:=y.take s2.n) (q:=a.kind) (fun t ht=>ha t (hx t (Qo ht))) (fun t ht=>hb t (hy t (Qo ht))) (by simp;omega) (by simp;omega) (most:=most) (fun p hp q hq=>hone p (hx p (Qo hp)) q (hy q (Qo hq)))
    have gl:=QR one (x.take s.n) (y.take s2.n)
    have i1:(k:Int)+1<S.length:=by omega
    have i2:(0:Int)≤(k:Int)+1:=by omega
    have i3:((k:Int)+1).toNat=k+1:=by omega
    have i4:IntKind.i64.wrap ((k:Int)+1)=(k:Int)+1:=by rw[ew];omega
    refine Ad Ak Fa.eq_1 ?_
    generalize FK one (x.take s.n) (y.take s2.n)=I at *
    simp[hlt,hs,Jz,RC,h,f1,f2,h2,DW,i4,h3,hs2,h4,h0,i1,i2,i3]
    simp only[← List.map_drop,← List.map_take,tk]
    refine Ae G (by simp) ?_
    simp[f1,f2,h2,DW,i4,h0,ew2]
    refine⟨by omega,?_⟩
    simp only[← List.map_drop,← List.map_take,tk]
    cases m with
    |zero=>omega
    |succ m=>
     have nx:=ih m (by omega) (k+1+1) (v+1) (x.drop s.n) (y.drop s2.n) (its++I.map IT.got) (AQ H [2] ⟨v+1,.arr 14 ((its++I.map IT.got).map Pw)⟩) (by omega) (fun t ht=>hx t (V4 ht)) (fun t ht=>hy t (V4 ht)) (by simp;omega) (by simp;omega) (by simp;omega) (by simp;omega) (by simp;omega) (by rw[hR,List.map_append,Vo]) (by simp[Aa,h0]) (by simp[Aa])
     rw[Bb (by simp),VY,← List.map_append]
     rw[Int.natCast_add,Int.natCast_add] at nx
     simp only[List.length_append,List.length_map,List.length_singleton,List.length_cons,List.length_nil,List.map_append,List.map_cons,List.map_nil] at nx ⊢
     exact nx
   ·have hnd:∀ s2 r,S.drop (k+1)=s2::r→s2.k ≠ 2:=fun s2 r e h4=>by
     have h3:k+1<S.length:=by
      have:=congrArg List.length e
      simp at this
      omega
     have hd2:S.drop (k+1)=S[k+1]::S.drop (k+1+1):=(List.getElem_cons_drop h3).symm
     rw[hd2] at e
     injection e with e1 _
     exact hg2 ⟨h3,by rw[e1];exact h4⟩
    rw[cB h hnd] at hR
    have D:=LP (x.take s.n)
    have dl:(En (x.take s.n)).length≤1:=by unfold En;split<;>simp
    generalize En (x.take s.n)=I at *
    refine Ad Ak Fa.eq_1 ?_
    by_cases h3:k+1<S.length
    ·have h4:¬ (S[k+1].k:Int)=2:=fun e=>hg2 ⟨h3,by omega⟩
     have h4':¬ S[k+1].k=2:=fun e=>hg2 ⟨h3,e⟩
     have i1:(k:Int)+1<S.length:=by omega
     have i2:(0:Int)≤(k:Int)+1:=by omega
     have i3:((k:Int)+1).toNat=k+1:=by omega
     have i4:IntKind.i64.wrap ((k:Int)+1)=(k:Int)+1:=by rw[ew];omega
     simp[hlt,hs,Jz,RC,h,f1,h2,DW,i4,h3,h4,h4',i1,i2,i3]
     simp only[← List.map_drop,← List.map_take,tk]
     refine Ae D (by simp) ?_
     simp[f1,h2,DW,i4]
     refine⟨by omega,?_⟩
     simp only[← List.map_drop,← List.map_take,tk]
     have nx:=ih m (by omega) (k+1) (v+1) (x.drop s.n) y (its++I.map IT.got) (AQ H [2] ⟨v+1,.arr 14 ((its++I.map IT.got).map Pw)⟩) (by omega) (fun t ht=>hx t (V4 ht)) hy (by simp;omega) (by omega) (by simp;omega) (by omega) (by simp;omega) (by rw[hR,List.map_append,Vo]) (by simp[Aa,h0]) (by simp[Aa])
     rw[Bb (by simp),VY,← List.map_append]
     rw[Int.natCast_add] at nx
     simp only[List.length_append,List.length_map,List.length_singleton,List.length_cons,List.length_nil,List.map_append,List.map_cons,List.map_nil] at nx ⊢
     exact nx
    ·have i1:¬ (k:Int)+1<S.length:=by omega
     have i4:IntKind.i64.wrap ((k:Int)+1)=(k:Int)+1:=by rw[ew];omega
     simp[hlt,hs,Jz,RC,h,f1,h2,DW,i4,i1]
     simp only[← List.map_drop,← List.map_take,tk]
     refine Ae D (by simp) ?_
     simp[f1,h2,DW,i4]
     refine⟨by omega,?_⟩
     simp only[← List.map_drop,← List.map_take,tk]
     have nx:=ih m (by omega) (k+1) (v+1) (x.drop s.n) y (its++I.map IT.got) (AQ H [2] ⟨v+1,.arr 14 ((its++I.map IT.got).map Pw)⟩) (by omega) (fun t ht=>hx t (V4 ht)) hy (by simp;omega) (by omega) (by simp;omega) (by omega) (by simp;omega) (by rw[hR,List.map_append,Vo]) (by simp[Aa,h0]) (by simp[Aa])
     rw[Bb (by simp),VY,← List.map_append]
     rw[Int.natCast_add] at nx
     simp only[List.length_append,List.length_map,List.length_singleton,List.length_cons,List.length_nil,List.map_append,List.map_cons,List.map_nil] at nx ⊢
     exact nx
  ·rw[bI h] at hR
   rw[h] at hA hB
   simp at hA hB
   have f2:s.n≤y.length:=by omega
   have D:=LQ (y.take s.n)
   have dl:(Ed (y.take s.n)).length≤1:=by unfold Ed;split<;>simp
   generalize Ed (y.take s.n)=I at *
   refine Ad Ak Fa.eq_1 ?_
   simp[hlt,hs,Jz,RC,h,f2,h2,DW,ew]
   simp only[← List.map_drop,← List.map_take,tk]
   refine Ae D (by simp) ?_
   simp[f2,h2,DW,ew]
   refine⟨by omega,?_⟩
   simp only[← List.map_drop,← List.map_take,tk]
   have nx:=ih m (by omega) (k+1) (v+1) x (y.drop s.n) (its++I.map IT.got) (AQ H [2] ⟨v+1,.arr 14 ((its++I.map IT.got).map Pw)⟩) (by omega) hx (fun t ht=>hy t (V4 ht)) (by omega) (by simp;omega) (by omega) (by simp;omega) (by simp;omega) (by rw[hR,List.map_append,Vo]) (by simp[Aa,h0]) (by simp[Aa])
   rw[Bb (by simp),VY,← List.map_append]
   rw[Int.natCast_add] at nx
   simp only[List.length_append,List.length_map,List.length_singleton,List.length_cons,List.length_nil,List.map_append,List.map_cons,List.map_nil] at nx ⊢
   exact nx
theorem aI {one:T→T→E} {a b:T} (ha:∀ t,t ∈ a.kids→DI t) (hb:∀ t,t ∈ b.kids→DI t) (hal:a.kids.length≤1000000) (hbl:b.kids.length≤1000000) {most:Int} (hone:∀ x,x ∈ a.kids→∀ y,y ∈ b.kids→G.Spec Tryz.prog 30 [tX x,tX y,iv most] (eX (one x y))) {S:List Sp} (hS:S.length≤10000000) (hS2:∀ s,s ∈ S→s.k≤2) (hA:dA (A6 S)≤a.kids.length) (hB:dB (A6 S)≤b.kids.length) :
  G.Spec Tryz.prog 121 [Um S,tX a,tX b,iv most] (V7 (Dg (FK one) S a.kids b.kids [])):=by
 refine Al dM (by simp) fun w0 I0=>?_
 unfold UK
 simp
 refine LoopC.le (FP 9 [2] 14 (by simp)) ?_
 refine LoopC.le (AA [(0,Um S),(3,iv most),(5,.pob [0] 1 0),(9,.osl [2] 1 14 0 ([]:List IT).length),(10,Co a.kids),(11,Co b.kids),(12,iv (0:Nat))] (by simp[upd])) ?_
 refine tE (a:=a) (b:=b) ha hb hal hbl hone hS hS2 (R:=Dg (FK one) S a.kids b.kids []) (fun H' its v st hR k2=>?_) S.length 0 1 a.kids b.kids [] _ (Nat.zero_add _) (fun t h=>h) (fun t h=>h) hal hbl (by simpa using hA) (by simpa using hB) (by simp) (by simp) (by simp[Aa]) (by simp[Aa])
 simp
 rw[← hR]
 exact XU k2 rfl
theorem Yb (l:List Nat):(rE l).map iv=l.map nv:=by
 simp[rE]
theorem Rd {us:List Nat} (h:∀ x,x ∈ us→x≤2):∀ s,s ∈ Kf us→s.k≤2∧1≤s.n:=Zf us 0 0 0 h
theorem JB:∀ (l:List Sp),(∀ s,s ∈ l→s.k≤2∧1≤s.n)→l.length≤dA (A6 l)+dB (A6 l)
 |[],_=>by simp
 |s::l,h=>by
  have ih:=JB l fun x hx=>h x (by simp[hx])
  have hs:=h s (by simp)
  rw[AP,Ez,Ey,EX,E5,List.length_cons]
  split<;>split<;>omega
theorem gW (a b:List T) (h:a=[]∨b=[]):cG (O3 a b)=[]:=by
 have hP:=Zq a b
 cases hp:cG (O3 a b) with
 |nil=>rfl
 |cons x P=>
  rw[hp] at hP
  have h1:=hP.2.2.1
  have h2:=hP.2.2.2.1
  rcases h with rfl | rfl<;>simp at h1 h2
theorem Vb (one:T→T→E) (b:List T):FK one [] b=Ed b:=by
 unfold FK
 rw[gW _ _ (.inl rfl),NP]
 simp[En]
theorem WZ (one:T→T→E) (a:List T):FK one a []=En a:=by
 unfold FK
 rw[gW _ _ (.inr rfl),NP]
 simp[Ed]
theorem aH (one:T→T→E) (a b:List T):Dg (FK one) (Kf (A6 [⟨1,a.length⟩,⟨2,b.length⟩])) a b []=FK one a b:=by
 have e:Kf (A6 [⟨1,a.length⟩,⟨2,b.length⟩])=fl 1 a.length++fl 2 b.length:=by
  unfold Kf
  rw[AP,AP,Gp]
  by_cases h1:a.length=0
  ·by_cases h2:b.length=0
   ·simp[h1,h2,RD]
   ·rw[h1]
    simp only[List.replicate_zero,List.nil_append]
    rw[TP b.length [] 0 0 0 (by omega)]
    simp[RD]
  ·rw[XT a.length _ 0 0 0 (by omega)]
   by_cases h2:b.length=0
   ·simp[h2,RD]
   ·rw[TP b.length [] 0 _ 0 (by omega)]
    simp[RD]
 rw[e]
 by_cases h1:a.length=0
 ·have h1':a=[]:=by simpa using h1
  subst h1'
  by_cases h2:b.length=0
  ·have h2':b=[]:=by simpa using h2
   subst h2'
   simp[Dg,Vb,Ed]
  ·rw[Vm (k:=2) (n:=b.length) (by omega)]
   simp[Dg,Vb]
 ·rw[Vm (k:=1) (n:=a.length) (by omega)]
  by_cases h2:b.length=0
  ·have h2':b=[]:=by simpa using h2
   subst h2'
   simp[Dg,WZ]
  ·rw[Vm (k:=2) (n:=b.length) (by omega)]
   simp[Dg]
theorem YZ {one:T→T→E} {a b:T} (ha:DI a) (hb:DI b) (hna:∀ t,t ∈ a.kids→Ai t=t) (hnb:∀ t,t ∈ b.kids→Ai t=t) (hal:a.kids.length≤30000) (hbl:b.kids.length≤30000) {most:Int} (hm:Lm most) (hone:∀ x,x ∈ a.kids→∀ y,y ∈ b.kids→G.Spec Tryz.prog 30 [tX x,tX y,iv most] (eX (one x y))) :
  G.Spec Tryz.prog 62 [tX a,tX b,iv most] (eX (Mw one most a b)):=by
 have hka:=(wfT_iff.1 ha).ks
 have hkb:=(wfT_iff.1 hb).ks
 have C1:=VV (ks:=[]) (ts:=a.kids) (by simp) (by simp) hka hna (by simp;omega) 1
 have hl1:=UD a.kids []
 simp at hl1
 have C2:=VV (ks:=(Cd [] a.kids).1) (ts:=b.kids) (X9 (l:=a.kids) (by simp) hka) (Ui (l:=a.kids) (by simp)) hkb hnb (by omega) (VE 1 [] a.kids)
 have e1:(Ox a).length=a.kids.length:=by simp[Ox,rE,Cq]
 have e2:(Oz a b).length=b.kids.length:=by simp[Oz,rE,Cq]
 have hD:=U8 (a:=Ox a) (b:=Oz a b) (by omega) (by omega) hm
 have z1:(Ox a).map iv=(Cd [] a.kids).2.map nv:=Yb _
 have z2:(Oz a b).map iv=(Cd (Cd [] a.kids).1 b.kids).2.map nv:=Yb _
 simp only[Fo,z1,z2] at hD
 have key:∀ (w0:World) (I0:Nat→Prop) (S:List Sp) (H:Hp),S.length≤10000000→(∀ s,s ∈ S→s.k≤2)→dA (A6 S)≤a.kids.length→dB (A6 S)≤b.kids.length→H [0]=⟨1,.cells (tL a)⟩→H [1]=⟨1,.cells (tL b)⟩→H [2]=⟨1,.cells DG⟩ →
   WPC (cx Tryz.prog w0 I0 47) LY (PO Tryz.prog [ResultVar.cell 6 33] (eX (.mk 3 T0 T0 [] [] a.kind (Dg (FK one) S a.kids b.kids [])))) ⟨lk [(2,iv most),(3,.pob [0] 1 0),(4,.pob [1] 1 0),(6,.pob [2] 1 0),(9,Um S)],H⟩:=by
  intro w0 I0 S H s1 s2 s3 s4 h0 h1 h2
  have O:=aI hka hkb (by omega) (by omega) hone s1 s2 s3 s4
  rw[LY.eq_1]
  simp[h0,h1]
  refine Ae O (by simp) ?_
  simp[h0,h2,Aa,DG]
  exact Dd ⟨Ab rfl,Ab rfl,An,An,Ab rfl,An,An,An,An,Ab rfl,An,trivial⟩
 have wd:=Yl (Ox a) (Oz a b)
 have wi:=TZ (Ox a) (Oz a b)
 have wn:=RS _ wi
 refine Al ZI (by simp) fun w0 I0=>?_
 unfold Tq
 simp
 refine Dv (Bv (d:=[3]) (u:=1) (cs:=[.sl true []]) 0 [3,0] 3 (by simp[Aa]) rfl (by simp)) (Dn ?_)
 simp
 refine AB 3 C1 (fun p=>?_) (by simp) (by simp) ?_
 ·by_cases h1:p=[]
  ·subst h1;simp[Aa]
  ·by_cases h2:p=[0]
   ·subst h2;simp[Aa]
   ·simp[h1,h2,Ne.symm h1,Ne.symm h2,Aa]
 ·simp
  refine AB 3 C2 (fun p=>by simp) (by simp) (by simp) ?_
  simp
  refine Ae hD (by simp) ?_
  by_cases hd:(CB (Ox a) (Oz a b):Int)≤most
  ·have hL:Mw one most a b = .mk 3 T0 T0 [] [] a.kind (Dg (FK one) (Kf (Hk (Ox a) (Oz a b))) a.kids b.kids []):=by unfold Mw;rw[if_pos hd]
   rw[hL]
   simp[hd]
   refine key _ _ _ _ ?_ (fun s hs=>(Rd wi s hs).1) (by omega) (by omega) (by simp) (by simp) (by simp[DG])
   have:=JB _ (Rd wi)
   omega
  ·have hL:Mw one most a b = .mk 3 T0 T0 [] [] a.kind (Dg (FK one) (Kf (A6 [⟨1,a.kids.length⟩,⟨2,b.kids.length⟩])) a.kids b.kids []):=by unfold Mw;rw[if_neg hd,aH]
   have N:=XF (all:=[⟨1,a.kids.length⟩,⟨2,b.kids.length⟩]) (fun s hs=>by
    simp at hs
    rcases hs with rfl | rfl
    ·exact⟨by simp,by simp;omega⟩
    ·exact⟨by simp,by simp;omega⟩) (by simp)
   have ui:∀ x,x ∈ A6 [⟨1,a.kids.length⟩,⟨2,b.kids.length⟩]→x≤2:=fun x hx=>by
    rw[AP,AP,Gp,List.append_nil] at hx
    rcases List.mem_append.1 hx with h | h<;>(have h':=List.eq_of_mem_replicate h;simp at h';omega)
   have ud:=RS _ ui
   have ua:dA (A6 [⟨1,a.kids.length⟩,⟨2,b.kids.length⟩])=a.kids.length:=by
    rw[AP,AP,Gp,Ez,Ez,EX,EX];simp[dA]
   have ub:dB (A6 [⟨1,a.kids.length⟩,⟨2,b.kids.length⟩])=b.kids.length:=by
    rw[AP,AP,Gp,Ey,Ey,E5,E5];simp[dB]
   have ul:=JB _ (Rd ui)
   have N2:G.Spec Tryz.prog 120 [.sl true [.agg [iv 1,iv a.kids.length],.agg [iv 2,iv b.kids.length]]] (Um (Kf (A6 [⟨1,a.kids.length⟩,⟨2,b.kids.length⟩]))):=N.soft (by simp[A.softL,A.soft,Jz,RC])
   clear N
   rw[hL]
   clear hL
   generalize A6 [⟨1,a.kids.length⟩,⟨2,b.kids.length⟩]=us at *
   simp[hd]
   refine Ae N2 (by simp) ?_
   simp
   refine key _ _ _ _ (by omega) (fun s hs=>(Rd ui s hs).1) (by omega) (by omega) (by simp) (by simp) (by simp[DG])
theorem Oi (a b:T) (i:Nat):GD a b (i+1)=GD a b i++(if NI (a.words.getD i 0) (b.words.getD i 0)=0 then [] else [wdE i (a.words.getD i 0) (b.words.getD i 0)]):=by
 unfold GD
 rw[List.range_succ,List.filterMap_append]
 congr 1
 by_cases h:NI (a.words.getD i 0) (b.words.getD i 0)=0
 ·simp only[List.filterMap_cons,List.filterMap_nil,h,if_true]
 ·simp only[List.filterMap_cons,List.filterMap_nil,h,if_false]
theorem Q2 (a b:T):∀ i,(GD a b i).length≤i
 |0=>by simp[GD]
 |i+1=>by
  have:=Q2 a b i
  rw[Oi]
  split<;>simp<;>omega
theorem MV (one:T→T→E) (a b:T) (i:Nat):CS one a b (i+1)=CS one a b i++(if (one (a.kids.getD i T0) (b.kids.getD i T0)).kind=0 then [] else [.mk i (one (a.kids.getD i T0) (b.kids.getD i T0))]):=by
 unfold CS
 rw[List.range_succ,List.filterMap_append]
 congr 1
 by_cases h:(one (a.kids.getD i T0) (b.kids.getD i T0)).kind=0
 ·simp only[List.filterMap_cons,List.filterMap_nil,h,if_true]
 ·simp only[List.filterMap_cons,List.filterMap_nil,h,if_false]
theorem LR (one:T→T→E) (a b:T):∀ i,(CS one a b i).length≤i
 |0=>by simp[CS]
 |i+1=>by
  have:=LR one a b i
  rw[MV]
  split<;>simp<;>omega
def l6 (u n:Nat) (k:A):List A:=[iv 2,iv 0,.sl true [],.sl true [],iv 0,.sl true [],.sl true [],.osl [5] u 4 0 n,k,iv 0,.sl true []]
theorem AaQ {a b:T} (ha:DI a) (hb:DI b) {most:A} {N:Nat} (hN:N≤1000000)
  (hq:∀ (H':Hp) (u:Nat),H' [0]=⟨1,.cells (tL a)⟩→H' [1]=⟨1,.cells (tL b)⟩→H' [2]=⟨1,.cells DG⟩→H' [3]=⟨1,.cells (l6 u (GD a b N).length (.sl true []))⟩→H' [5]=⟨u,.arr 4 ((GD a b N).map wA)⟩→H' [6]=⟨0,.none⟩→H' [7]=⟨0,.none⟩ →
   Q (.exit 0) ⟨lk [(2,most),(3,.pob [0] 1 0),(4,.pob [1] 1 0),(6,.pob [2] 1 0),(7,.pob [3] 1 0),(20,iv N),(21,iv N),(22,bv false)],H'⟩) :
  ∀ (m i:Nat) (u:Nat) (H:Hp),i+m=N→H [0]=⟨1,.cells (tL a)⟩→H [1]=⟨1,.cells (tL b)⟩→H [2]=⟨1,.cells DG⟩→H [3]=⟨1,.cells (l6 u (GD a b i).length (.sl true []))⟩→H [5]=⟨u,.arr 4 ((GD a b i).map wA)⟩→H [6]=⟨0,.none⟩→H [7]=⟨0,.none⟩ →
  LoopC (cx Tryz.prog w0 I0 n0) EH Q ⟨lk [(2,most),(3,.pob [0] 1 0),(4,.pob [1] 1 0),(6,.pob [2] 1 0),(7,.pob [3] 1 0),(20,iv N),(21,iv i)],H⟩:=by
 intro m
 induction m with
 |zero=>
  intro i u H hm h0 h1 h2 h3 h5 h6 h7
  have:i=N:=by omega
  subst this
  refine Ad Ak EH.eq_1 ?_
  simp
  exact hq H u h0 h1 h2 h3 h5 h6 h7
 |succ m ih=>
  intro i u H hm h0 h1 h2 h3 h5 h6 h7
  have hlt:i<N:=by omega
  have ew:IntKind.i64.wrap ((i:Int)+1)=((i+1:Nat):Int):=Av
  have hwa:BN (a.words.getD i 0):=iX ha i
  have hwb:BN (b.words.getD i 0):=iX hb i
  have hW:=VL (i:=i) hwa hwb
  have hwl:=Q2 a b i
  have next:=ih (i+1)
  rw[Oi] at next
  refine Ad Ak EH.eq_1 ?_
  simp[hlt,h0,h1]
  refine Ae (HU a i) (by simp) ?_
  simp[h0,h1]
  refine Ae (HU b i) (by simp) ?_
  simp
  refine Ae hW (by simp) ?_
  generalize a.words.getD i 0=x at *
  generalize b.words.getD i 0=y at *
  by_cases hz:NI x y=0
  ·rw[if_pos hz] at next
   simp[hz,Aa]
   rw[ew]
   refine next u _ (by omega) (by simp[Aa,h0]) (by simp[Aa,h1]) (by simp[Aa,h2]) (by simp[Aa,h3]) (by simp[Aa,h5]) (by simp[Aa,h6]) (by simp[Aa,h7])
  ·rw[if_neg hz] at next
   simp[hz,Aa,h3,h5,l6]
   refine⟨by omega,?_⟩
   rw[ew]
   refine next (u+1) _ (by omega) (by simp[Aa,h0]) (by simp[Aa,h1]) (by simp[Aa,h2]) (by simp[Aa,l6]) (by simp[Aa,Bb]) (by simp[Aa,h6]) (by simp[Aa,h7])
theorem AbU {one:T→T→E} {a b:T} {most:Int} {N:Nat} (hN:N≤1000000) (hone:∀ i:Nat,G.Spec Tryz.prog 30 [tX (a.kids.getD i T0),tX (b.kids.getD i T0),iv most] (eX (one (a.kids.getD i T0) (b.kids.getD i T0)))) {u n:Nat} {ws:List WE}
  (hq:∀ (H':Hp) (v:Nat),H' [3]=⟨1,.cells (l6 u n (.osl [7] v 12 0 (CS one a b N).length))⟩→H' [5]=⟨u,.arr 4 (ws.map wA)⟩→H' [7]=⟨v,.arr 12 ((CS one a b N).map kA)⟩→H' [2]=⟨1,.cells DG⟩ →
   Q (.exit 2) ⟨lk [(2,iv most),(3,.pob [0] 1 0),(4,.pob [1] 1 0),(6,.pob [2] 1 0),(7,.pob [3] 1 0),(49,iv N),(50,iv N),(51,bv false)],H'⟩) :
  ∀ (m i:Nat) (v:Nat) (H:Hp),i+m=N→H [0]=⟨1,.cells (tL a)⟩→H [1]=⟨1,.cells (tL b)⟩→H [2]=⟨1,.cells DG⟩→H [3]=⟨1,.cells (l6 u n (.osl [7] v 12 0 (CS one a b i).length))⟩→H [5]=⟨u,.arr 4 (ws.map wA)⟩→H [7]=⟨v,.arr 12 ((CS one a b i).map kA)⟩ →
  LoopC (cx Tryz.prog w0 I0 n0) EE Q ⟨lk [(2,iv most),(3,.pob [0] 1 0),(4,.pob [1] 1 0),(6,.pob [2] 1 0),(7,.pob [3] 1 0),(49,iv N),(50,iv i)],H⟩:=by
 intro m
 induction m with
 |zero=>
  intro i v H hm h0 h1 h2 h3 h5 h7
  have:i=N:=by omega
  subst this
  refine Ad Ak EE.eq_1 ?_
  simp
  exact hq H v h3 h5 h7 h2
 |succ m ih=>
  intro i v H hm h0 h1 h2 h3 h5 h7
  have hlt:i<N:=by omega
  have ew:IntKind.i64.wrap ((i:Int)+1)=((i+1:Nat):Int):=Av
  have hO:=hone i
  have hkl:=LR one a b i
  have next:=ih (i+1)
  rw[MV] at next
  have K1:=Jf a i
  have K2:=Jf b i
  generalize a.kids.getD i T0=x at *
  generalize b.kids.getD i T0=y at *
  generalize one x y=e at *
  refine Ad Ak EE.eq_1 ?_
  simp[hlt,h0,h1]
  refine Ae K1 (by simp) ?_
  simp[h0,h1]
  refine Ae K2 (by simp) ?_
  simp
  refine Ae hO (by simp) ?_
  by_cases hz:e.kind=0
  ·rw[if_pos hz] at next
   simp[hz,Aa]
   rw[ew]
   refine next v _ (by omega) (by simp[Aa,h0]) (by simp[Aa,h1]) (by simp[Aa,h2]) (by simp[Aa,h3]) (by simp[Aa,h5]) (by simp[Aa,h7])
  ·rw[if_neg hz] at next
   simp[hz,Aa,h3,h7,l6]
   refine⟨by omega,?_⟩
   rw[ew]
   refine next (v+1) _ (by omega) (by simp[Aa,h0]) (by simp[Aa,h1]) (by simp[Aa,h2]) (by simp[Aa,l6]) (by simp[Aa,h5]) (by simp[Aa,Bb])
theorem VU {one:T→T→E} {a b:T} (ha:DI a) (hb:DI b) (h1:a.words.length≤1000000) (h2:b.words.length≤1000000) (h3:a.kids.length≤1000000) (h4:b.kids.length≤1000000) {most:Int} (hone:∀ i:Nat,G.Spec Tryz.prog 30 [tX (a.kids.getD i T0),tX (b.kids.getD i T0),iv most] (eX (one (a.kids.getD i T0) (b.kids.getD i T0)))) :
  G.Spec Tryz.prog 60 [tX a,tX b,iv most] (eX (Wl one a b)):=by
 refine Al Se (by simp) fun w0 I0=>?_
 unfold Ld
 simp
 refine LoopC.le (Bv (d:=[3]) (u:=1) (cs:=[iv 2,iv 0,.sl true [],.sl true [],iv 0,.sl true [],.sl true [],.sl true [],.sl true [],iv 0,.sl true []]) 7 [5] 4 (by simp[Aa]) rfl (by simp)) ?_
 refine LoopC.le (AA [(2,iv most),(3,.pob [0] 1 0),(4,.pob [1] 1 0),(6,.pob [2] 1 0),(7,.pob [3] 1 0),(20,iv (max a.words.length b.words.length:Nat)),(21,iv (0:Nat))] (by simp;omega)) ?_
 refine AaQ ha hb (N:=max a.words.length b.words.length) (by omega) (fun H' u g0 g1 g2 g3 g5 g6 g7=>?_) (max a.words.length b.words.length) 0 1 _ (by omega) (by simp[Aa]) (by simp[Aa]) (by simp[Aa,DG]) (by simp[Aa,l6,GD]) (by simp[Aa,GD]) (by simp[Aa]) (by simp[Aa])
 simp[g0,g1]
 refine LoopC.le (Bv (d:=[3]) (u:=1) (cs:=l6 u (GD a b (max a.words.length b.words.length)).length (.sl true [])) 8 [7] 12 g3 rfl (by simp)) ?_
 refine LoopC.le (AA [(2,iv most),(3,.pob [0] 1 0),(4,.pob [1] 1 0),(6,.pob [2] 1 0),(7,.pob [3] 1 0),(49,iv (max a.kids.length b.kids.length:Nat)),(50,iv (0:Nat))] (by simp;omega)) ?_
 refine AbU (one:=one) (a:=a) (b:=b) (N:=max a.kids.length b.kids.length) (by omega) hone (ws:=GD a b (max a.words.length b.words.length)) (u:=u) (n:=(GD a b (max a.words.length b.words.length)).length) (fun H2 v k3 k5 k7 k2=>?_) (max a.kids.length b.kids.length) 0 1 _ (by omega) (by simp[Aa,g0]) (by simp[Aa,g1]) (by simp[Aa,g2]) (by simp[Aa,l6,CS,g7]) (by simp[Aa,g5]) (by simp[Aa,CS,g7])
 simp[k3,k2,Aa,l6]
 refine⟨by simp[DG],?_⟩
 refine Dd ⟨Ab rfl,Ab rfl,An,An,Ab rfl,An,An,?_,?_,Ab rfl,An,trivial⟩
 ·exact BQ (f:=wA) (l:=GD a b (max a.words.length b.words.length)) (by rw[AM (by simp),k5];simp) rfl (fun x=>by simp)
 ·exact BQ (f:=kA) (l:=CS one a b (max a.kids.length b.kids.length)) (by rw[AM (by simp),k7];simp) rfl (fun x=>by simp)
theorem ZP {a b:T} (ha:DI a) (hb:DI b) {X Y:E} {most:Int} (hs:a.kind=1→b.kind=1→G.Spec Tryz.prog 60 [tX a,tX b,iv most] (eX X)) (hl:a.kind=b.kind→2≤a.kind→a.kind≤9→G.Spec Tryz.prog 62 [tX a,tX b,iv most] (eX Y)) :
  G.Spec Tryz.prog 30 [tX a,tX b,iv most] (eX (if Lz a b=true then E0 else if a.kind=1∧b.kind=1 then X else if a.kind=b.kind∧2≤a.kind∧a.kind≤9 then Y else .mk 1 a b [] [] 0 [])):=by
 have hE:=U3 ha hb
 have hraw:∀ H:Hp,Jw H (.agg DG) (eX E0):=fun H=>Dd ⟨Ab rfl,Ab rfl,An,An,Ab rfl,An,An,An,An,Ab rfl,An,trivial⟩
 have hfr:∀ (H:Hp) (k:Int),k=a.kind→Jw H (.agg [iv 1,iv k,DP a.words,Co a.kids,iv b.kind,DP b.words,Co b.kids,.sl true [],.sl true [],iv 0,.sl true []]) (eX (.mk 1 a b [] [] 0 [])):=fun H k hk=>by
  subst hk
  exact Dd ⟨Ab rfl,Ab rfl,Ab rfl,Ab rfl,Ab rfl,Ab rfl,Ab rfl,An,An,Ab rfl,An,trivial⟩
 refine Al dk (by simp) fun w0 I0=>?_
 unfold VZ
 simp
 refine Ae hE (by simp) ?_
 cases he:Lz a b with
 |true=>
  simp
  exact hraw _
 |false=>
  by_cases h1:a.kind=1
  ·by_cases h2:b.kind=1
   ·have S:=hs h1 h2
    have S':G.Spec Tryz.prog 60 [.agg [iv 1,DP a.words,Co a.kids],.agg [iv 1,DP b.words,Co b.kids],iv most] (eX X):=by
     rw[← h1]
     have e:([A.agg [iv a.kind,DP a.words,Co a.kids],.agg [iv a.kind,DP b.words,Co b.kids],iv most]:List A)=[tX a,tX b,iv most]:=by
      show [A.agg [iv a.kind,DP a.words,Co a.kids],.agg [iv a.kind,DP b.words,Co b.kids],iv most]=[A.agg [iv a.kind,DP a.words,Co a.kids],.agg [iv b.kind,DP b.words,Co b.kids],iv most]
      rw[h1,h2]
     rw[e]
     exact S
    simp[h1,h2]
    refine Ae S' (by simp) ?_
    simp
    exact Ab (by simp)
   ·have hne:¬ (1:Int)=b.kind:=fun e=>h2 e.symm
    simp[h1,h2,hne]
    refine A5 rfl ?_
    simp
    exact hfr _ 1 h1.symm
  ·by_cases h3:a.kind=b.kind
   ·have h2:¬ b.kind=1:=fun e=>h1 (h3.trans e)
    simp[h1,h3,h2]
    rw[AF]
    simp
    refine Ae (VI b.kind) (by simp) ?_
    by_cases h5:2≤b.kind∧b.kind≤9
    ·have S:=hl h3 (by omega) (by omega)
     have S':G.Spec Tryz.prog 62 [.agg [iv b.kind,DP a.words,Co a.kids],.agg [iv b.kind,DP b.words,Co b.kids],iv most] (eX Y):=by
      rw[← h3]
      have e:([A.agg [iv a.kind,DP a.words,Co a.kids],.agg [iv a.kind,DP b.words,Co b.kids],iv most]:List A)=[tX a,tX b,iv most]:=by
       show [A.agg [iv a.kind,DP a.words,Co a.kids],.agg [iv a.kind,DP b.words,Co b.kids],iv most]=[A.agg [iv a.kind,DP a.words,Co a.kids],.agg [iv b.kind,DP b.words,Co b.kids],iv most]
       rw[h3]
      rw[e]
      exact S
     simp[h5.1,h5.2]
     refine Ae S' (by simp) ?_
     simp
     exact Ab (by simp)
    ·have h6:(decide (2≤b.kind)&&decide (b.kind≤9))=false:=by
      rw[Bool.eq_false_iff];simpa using h5
     rw[h6]
     simp[h5]
     exact hfr _ _ h3.symm
   ·simp[h1,h3]
    refine A5 rfl ?_
    simp
    exact hfr _ _ rfl
def V6:Nat→T→Prop
 |0,t=>t=T0
 |f+1,t=>t=T0∨(DI t∧Ai t=t∧t.words.length≤1000∧t.kids.length≤1000∧∀ k,k ∈ t.kids→V6 f k)
theorem xJ (f:Nat):V6 f T0:=by cases f with
 |zero=>rfl
 |succ f=>exact .inl rfl
theorem iu:DI T0:=wfT_iff.2 ⟨by simp[Lm],by simp,by simp,by simp,by simp⟩
theorem jx:Ai T0=T0:=by simp[Ai,T0,BX,BA]
theorem CK {f:Nat} {t:T} (h:V6 f t):DI t∧Ai t=t∧t.words.length≤1000∧t.kids.length≤1000:=by
 have z:DI T0∧Ai T0=T0∧T0.words.length≤1000∧T0.kids.length≤1000:=⟨iu,jx,by decide,by decide⟩
 cases f with
 |zero=>cases h;exact z
 |succ f=>
  rcases h with rfl | h
  ·exact z
  ·exact⟨h.1,h.2.1,h.2.2.1,h.2.2.2.1⟩
theorem E4 {f:Nat} {t:T} (h:V6 f t):∀ k,k ∈ t.kids→V6 (f-1) k:=by
 cases f with
 |zero=>cases h;intro k hk;simp[T0] at hk
 |succ f=>
  rcases h with rfl | h
  ·intro k hk;simp[T0] at hk
  ·exact h.2.2.2.2
theorem St {f:Nat} {t:T} (h:V6 f t) (i:Nat):V6 (f-1) (t.kids.getD i T0):=by
 by_cases hi:i<t.kids.length
 ·have e:t.kids.getD i T0=t.kids[i]:=by simp[hi]
  rw[e]
  exact E4 h _ (BI hi)
 ·have e:t.kids.getD i T0=T0:=by simp[List.getElem?_eq_none (Nat.le_of_not_lt hi)]
  rw[e]
  exact xJ _
theorem R2 {most:Int} (hm:Lm most):∀ (f g:Nat) (a b:T),V6 f a→V6 g b→G.Spec Tryz.prog 30 [tX a,tX b,iv most] (eX (NY most f a b))
 |0,g,a,b,ha,hb=>by
  obtain⟨a1,a2,a3,a4⟩:=CK ha
  obtain⟨b1,b2,b3,b4⟩:=CK hb
  have hk:a.kind=0:=by cases ha;rfl
  have:=ZP a1 b1 (X:=E0) (Y:=E0) (most:=most) (fun h=>by omega) (fun _ h=>by omega)
  rw[if_neg (show ¬ (a.kind=1∧b.kind=1) by omega),if_neg (show ¬ (a.kind=b.kind∧2≤a.kind∧a.kind≤9) by omega)] at this
  exact this
 |f+1,g,a,b,ha,hb=>by
  obtain⟨a1,a2,a3,a4⟩:=CK ha
  obtain⟨b1,b2,b3,b4⟩:=CK hb
  refine ZP a1 b1 (fun h1 h2=>?_) (fun h1 h2 h3=>?_)
  ·exact VU a1 b1 (by omega) (by omega) (by omega) (by omega) fun i=>R2 hm f (g-1) _ _ (St ha i) (St hb i)
  ·exact YZ a1 b1 (fun t ht=>(CK (E4 ha t ht)).2.1) (fun t ht=>(CK (E4 hb t ht)).2.1) (by omega) (by omega) hm fun x hx y hy=>R2 hm f (g-1) _ _ (E4 ha x hx) (E4 hb y hy)
end Go.Proofs.YtbjmaoedheiigaaGreat
namespace Go.PL
mutual
def IG:T→Int
 |.mk _ w l=>1+w.length+IA l
def IA:List T→Int
 |[]=>0
 |t::l=>IG t+IA l
end
@[simp] theorem kv (k:Int) (w:List Int) (l:List T):IG (.mk k w l)=1+w.length+IA l:=by rw[IG]
@[simp] theorem xp:IA []=0:=by rw[IA]
@[simp] theorem ZU (t:T) (l:List T):IA (t::l)=IG t+IA l:=by rw[IA]
theorem Ur {l:List T} (h:∀ t,t ∈ l→1≤IG t):(l.length:Int)≤IA l:=by
 induction l with
 |nil=>simp
 |cons t l ih=>
  have:=h t (by simp)
  have:=ih fun u hu=>h u (by simp[hu])
  simp
  omega
theorem Uz:∀ t:T,1≤IG t:=by
 refine T.ind fun k w l ih=>?_
 have:=Ur ih
 simp
 omega
theorem Ut (l:List T):(l.length:Int)≤IA l:=Ur fun t _=>Uz t
theorem WD:∀ (t:T) (d:Nat) (n:Int),0≤DX d n t→IG t≤n-DX d n t:=by
 refine T.ind fun k w l ih d n h=>?_
 have hl:∀ (m:List T) (d:Nat) (n:Int),(∀ t,t ∈ m→t ∈ l)→0≤DE d n m→IA m≤n-DE d n m:=by
  intro m
  induction m with
  |nil=>intro d n _ _;simp
  |cons t m ihm=>
   intro d n hin h
   rw[HQ] at h ⊢
   split at h
   ·omega
   ·rename_i hc
    rw[if_neg hc]
    have h1:=ihm d (DX d n t) (fun u hu=>hin u (by simp[hu])) h
    have h3:0≤DX d n t:=by
     cases m with
     |nil=>simpa using h
     |cons u m=>
      rw[HQ] at h
      split at h<;>omega
    have:=ih t (hin t (by simp)) d n h3
    simp
    omega
 rw[Qg] at h ⊢
 split at h
 ·omega
 rename_i hc
 rw[if_neg hc]
 have:=hl l (d-1) _ (fun t ht=>ht) h
 simp
 omega
end Go.PL
