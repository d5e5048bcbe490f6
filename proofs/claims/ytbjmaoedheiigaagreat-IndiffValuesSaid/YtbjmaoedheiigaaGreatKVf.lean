/-
 Texts,merged,without what is not reached.
-/
import Derived.Test.YtbjmaoedheiigaaGreatKVe
set_option linter.unusedSimpArgs false
set_option linter.unusedVariables false
namespace Go.Proofs.YtbjmaoedheiigaaGreat
open Go Go.G Go.Proofs Go.PL
def vp (d:Array Sc) (a b lim q:Nat) (wb wp:Bool):Array Sc:=
 if (decide (a > 0)&&!Bz d[a-1]! d[q]!)=true then
  if a<(Sort.partitionEqual Bz d a b q).1∧(Sort.partitionEqual Bz d a b q).1≤b then Sort.pdq Bz (Sort.partitionEqual Bz d a b q).2 (Sort.partitionEqual Bz d a b q).1 b lim wb wp else (Sort.partitionEqual Bz d a b q).2
 else
  if a≤(Sort.partition Bz d a b q).1∧(Sort.partition Bz d a b q).1<b then
   if (Sort.partition Bz d a b q).1-a<b-(Sort.partition Bz d a b q).1 then
    Sort.pdq Bz (Sort.pdq Bz (Sort.partition Bz d a b q).2.2 a (Sort.partition Bz d a b q).1 lim true true) ((Sort.partition Bz d a b q).1+1) b lim (decide ((Sort.partition Bz d a b q).1-a ≥ (b-a) / 8)) (Sort.partition Bz d a b q).2.1
   else
    Sort.pdq Bz (Sort.pdq Bz (Sort.partition Bz d a b q).2.2 ((Sort.partition Bz d a b q).1+1) b lim true true) a (Sort.partition Bz d a b q).1 lim (decide (b-(Sort.partition Bz d a b q).1 ≥ (b-a) / 8)) (Sort.partition Bz d a b q).2.1
  else (Sort.partition Bz d a b q).2.2
def pq2 (d:Array Sc) (a b lim q:Nat) (hint:Sort.Hint) (wb wp:Bool):Array Sc:=
 if (wb&&wp&&decide (hint = .increasing))=true then
  if (Sort.partialInsertionSort Bz d a b).2=true then (Sort.partialInsertionSort Bz d a b).1 else vp (Sort.partialInsertionSort Bz d a b).1 a b lim q wb wp
 else vp d a b lim q wb wp
def sc (d:Array Sc) (a b lim:Nat) (wb wp:Bool):Array Sc:=
 if (Sort.choosePivot Bz d a b).2 = .decreasing then pq2 (Sort.reverseRange d a b) a b lim ((b-1)-((Sort.choosePivot Bz d a b).1-a)) .increasing wb wp
 else pq2 d a b lim (Sort.choosePivot Bz d a b).1 (Sort.choosePivot Bz d a b).2 wb wp
theorem qA (d:Array Sc) (a b lim:Nat) (wb wp:Bool):Sort.pdq Bz d a b lim wb wp=if b-a≤12 then Sort.insertionSort Bz d a b else if lim=0 then Sort.heapSort Bz d a b else
  if wb=true then sc d a b lim wb wp else sc (Sort.breakPatterns d a b) a b (lim-1) wb wp:=by
 rw[Sort.pdq]
 split
 ·rfl
 ·split
  ·rfl
  ·have main:∀ (d:Array Sc) (lim:Nat),(let c:=Sort.choosePivot Bz d a b
    let d2:=if c.2 = .decreasing then Sort.reverseRange d a b else d
    let pivot:=if c.2 = .decreasing then (b-1)-(c.1-a) else c.1
    let hint:=if c.2 = .decreasing then Sort.Hint.increasing else c.2
    let pi:=if (wb&&wp&&hint = .increasing)=true then Sort.partialInsertionSort Bz d2 a b else (d2,false)
    if pi.2=true then pi.1 else vp pi.1 a b lim pivot wb wp)=sc d a b lim wb wp:=fun d lim=>by
    simp only
    unfold sc pq2
    by_cases hd:(Sort.choosePivot Bz d a b).2 = .decreasing
    ·simp only[hd,if_true]
     cases wb<;>cases wp<;>simp
    ·simp only[hd,if_false]
     by_cases hw:(wb&&wp&&decide ((Sort.choosePivot Bz d a b).2 = .increasing))=true
     ·rw[if_pos hw,if_pos hw]
     ·rw[if_neg hw,if_neg hw]
      simp
   cases wb with
   |true=>
    rw[if_pos rfl,← main]
    simp only[Bool.not_true,Bool.false_eq_true,if_false]
    unfold vp
    rfl
   |false=>
    have e2:(if (false:Bool)=true then sc d a b lim false wp else sc (Sort.breakPatterns d a b) a b (lim-1) false wp)=sc (Sort.breakPatterns d a b) a b (lim-1) false wp:=if_neg (by simp)
    rw[e2,← main]
    simp only[Bool.not_false,if_true]
    unfold vp
    rfl
def ZG (l lim:Nat) (wb:Bool):Prop:=l≤12∨(l-12)+(if wb=true then 0 else 1)≤lim
section
variable {v n:Nat}
theorem NN {l l' lim:Nat} (wb:Bool) (h:l'<l) (h2:l-12≤lim):ZG l' lim wb:=by
 unfold ZG
 by_cases h3:l'≤12
 ·exact .inl h3
 ·right
  split<;>omega
def zY (v n a b lim:Nat) (wb wp:Bool) (d:Array Sc):Prop:=∀ {n0:Nat} {w0:World} {I0:Nat→Prop} {M0:Nm→Nat→Prop} {m0:Mu} {Q:Exit→Sta→Prop} (H:Hp),(∀ p,H (0::p)=(A7 d v).F 0 p) →
  (∀ (H':Hp) (st:List (Nat × A)),(∀ p,H' (0::p)=(A7 (Sort.pdq Bz d a b lim wb wp) v).F 0 p)→Q .ret ⟨lk st,H'⟩) →
  LoopC (EP Tryz.prog w0 I0 M0 n0 m0) AF Q ⟨lk [(0,Hy n v 0),(1,iv a),(2,iv b),(3,iv lim),(4,CT),(10,bv wb),(11,bv wp)],H⟩
def wC (v n a b lim:Nat) (d:Array Sc):Prop:=A4 Tryz.prog 264 (fun r=>[Hy n v r,iv a,iv b,iv lim,CT]) (A7 d v) (fun _=>.tup []) (A7 (Sort.pdq Bz d a b lim true true) v)
theorem dD {a b lim:Nat} {d:Array Sc} (h:zY v n a b lim true true d):wC v n a b lim d:=by
 refine Ax GJ (by simp) (Ag (PK _ _) (Ag AE (Ag AE (Ag AE (Ag Ea Am))))) (Bn Am) fun w0 I0 M0 m0=>?_
 unfold Dj
 simp
 refine LoopC.le (Ao [(0,Hy n v 0),(1,iv a),(2,iv b),(3,iv lim),(4,CT),(10,bv true),(11,bv true)] (by simp)) ?_
 refine h _ (fun p=>by simp) fun H' st h'=>?_
 simp
 exact AQ rfl rfl (fun p=>h' p)
end
theorem eE (a:Nat):∀ (m i j J:Nat) (d:Array Sc),j+1-i≤m→1≤i→i≤J+1→j≤J→i≤(Sort.partEqLoop Bz a i j d).1∧(Sort.partEqLoop Bz a i j d).1≤J+1∧(Sort.partEqLoop Bz a i j d).2.size=d.size:=by
 intro m
 induction m using Nat.strongRecOn with
 |_ m ih=>
  intro i j J d hm h1 hi hj
  rw[Sort.partEqLoop]
  have hu:=L3 (fun x=>!Bz d[a]! x) d j (j+1-i) i (BW _)
  generalize Sort.scanUp (fun x=>!Bz d[a]! x) d j i=i2 at hu ⊢
  have hdn:=Ij (fun x=>Bz d[a]! x) d i2 (by omega) j
  generalize Sort.scanDown (fun x=>Bz d[a]! x) d i2 j=j2 at hdn ⊢
  by_cases hc:i2 > j2
  ·simp only[hc,if_true]
   refine⟨hu.1,?_,trivial⟩
   rcases hu.2 with h | h<;>omega
  ·have hg:j2-1+1-(i2+1)<j+1-i:=by omega
   simp only[hc,if_false,dif_pos hg]
   have:=ih (j2-1+1-(i2+1)) (by omega) (i2+1) (j2-1) J (Sort.swp d i2 j2) (BW _) (by omega) (by omega) (by omega)
   rw[FE] at this
   omega
theorem kb (d:Array Sc) (a b q:Nat) (hab:a+2≤b):a<(Sort.partitionEqual Bz d a b q).1∧(Sort.partitionEqual Bz d a b q).1≤b∧(Sort.partitionEqual Bz d a b q).2.size=d.size:=by
 unfold Sort.partitionEqual
 have:=eE a (b-1+1-(a+1)) (a+1) (b-1) (b-1) (Sort.swp d a q) (BW _) (by omega) (by omega) (BW _)
 rw[FE] at this
 omega
theorem AbY:Sort.SWO Bz where
 irrefl x:=by simp[Bz]
 trans x y z h1 h2:=by simp[Bz] at *; omega
 ntrans x y z h1 h2:=by simp[Bz] at *; omega
theorem uS (d:Array Sc) (a b q:Nat) (h1:a≤q) (h2:q<b) (hb:b≤d.size):a≤(Sort.partition Bz d a b q).1∧(Sort.partition Bz d a b q).1<b∧(Sort.partition Bz d a b q).2.2.size=d.size:=by
 obtain⟨k1,k2,k3,_⟩:=Sort.partition_holds Bz AbY d a b q h1 h2 hb
 exact⟨k1,k2,k3.1⟩
theorem Mo (d:Array Sc) (a b lim:Nat) (h:b-a≤12):(Sort.pdq Bz d a b lim true true).size=d.size:=by
 rw[qA,if_pos h]
 exact PF Bz a b (b-(a+1)) (a+1) d (BW _)
variable {n0:Nat} {w0:World} {I0:Nat→Prop} {M0:Nm→Nat→Prop} {m0:Mu} {Q:Exit→Sta→Prop} {v n:Nat}
theorem Adk {a b lim q l:Nat} {wb wp:Bool} {d:Array Sc} (hn:n≤900) (hd:d.size=n) (hab:a+13≤b) (hb:b≤n) (hl:l=b-a) (hl24:l≤24) (hq1:a≤q) (hq2:q<b) (hlim:l-12≤lim) (hlm:lim≤900)
  (ihL:∀ (a' b' lim':Nat) (wb' wp':Bool) (d':Array Sc),d'.size=n→a'≤b'→b'≤n→b'-a'<l→lim'≤900→ZG (b'-a') lim' wb'→zY v n a' b' lim' wb' wp' d')
  {H:Hp} (hH:∀ p,H (0::p)=(A7 d v).F 0 p) (hq:∀ (H':Hp) (st:List (Nat × A)),(∀ p,H' (0::p)=(A7 (vp d a b lim q wb wp) v).F 0 p)→Q .ret ⟨lk st,H'⟩) :
  WPC (EP Tryz.prog w0 I0 M0 n0 m0) Bp (Bu 1 (DB (LoopC (EP Tryz.prog w0 I0 M0 n0 m0) AF Q) Q)) ⟨lk [(0,Hy n v 0),(1,iv a),(2,iv b),(3,iv lim),(4,CT),(10,bv wb),(11,bv wp),(12,iv l),(13,iv q)],H⟩:=by
 have hP:=Xd d v a b q (by omega) (by omega) (by omega) (by omega)
 have hE:=cr d v a b q (by omega) (by omega) (by omega) (by omega)
 obtain⟨p1,p2,p3⟩:=uS d a b q hq1 hq2 (by omega)
 obtain⟨c1,c2,c3⟩:=kb d a b q (by omega)
 unfold vp at hq
 rw[if_pos (show a<(Sort.partitionEqual Bz d a b q).1∧(Sort.partitionEqual Bz d a b q).1≤b from⟨c1,c2⟩),if_pos (show a≤(Sort.partition Bz d a b q).1∧(Sort.partition Bz d a b q).1<b from⟨p1,p2⟩)] at hq
 generalize Sort.partitionEqual Bz d a b q=E at hE c1 c2 c3 hq
 generalize Sort.partition Bz d a b q=R at hP p1 p2 p3 hq
 obtain⟨mid,ap,d4⟩:=R
 simp only at hP p1 p2 p3 hq
 rw[hd] at hP hE p3 c3
 have f1:IntKind.i64.wrap ((mid:Int)-a)=((mid-a:Nat):Int):=An
 have f2:IntKind.i64.wrap ((b:Int)-mid)=((b-mid:Nat):Int):=An
 have f3:IntKind.i64.wrap ((l:Int).tdiv 8)=((l / 8:Nat):Int):=by rw[Int.tdiv_eq_ediv_of_nonneg (by omega),Af (by omega) (by omega)];omega
 have f4:IntKind.i64.wrap ((l:Int) / 8)=((l / 8:Nat):Int):=An
 have f5:IntKind.i64.wrap ((mid:Int)+1)=((mid+1:Nat):Int):=An
 rw[Bp.eq_1]
 by_cases ha0:0<a
 ·have h0:=hH []
  simp only[K5] at h0
  have g1:=Br (d:=d) (i:=a-1) (by omega)
  have g0:=Br (d:=d) (i:=q) (by omega)
  have hc:=XC d[a-1]! d[q]!
  have f6:IntKind.i64.wrap ((a:Int)-1)=((a-1:Nat):Int):=An
  generalize d[a-1]! = x at g1 hc hq
  generalize d[q]! = y at g0 hc hq
  simp[show(0:Int)<a by omega,ha0,h0,f6,g1,g0,show(q:Int)<n by omega,show q<n by omega,show a-1<n by omega,show((a-1:Nat):Int)<n by omega,CU]
  rw[Az]
  simp
  refine EO rfl (DS x y) (by simp) rfl ?_
  cases hL:Bz x y with
  |false=>
   rw[hL] at hc hq
   rw[if_pos (by simp;omega)] at hq
   have hc':¬ EV x.i y.i<0:=by simpa using hc
   simp[hc']
   refine Au 0 hE hH (by simp) (by simp) ?_
   simp
   exact ihL E.1 b lim wb wp E.2 c3 (by omega) hb (by omega) hlm (NN _ (by omega) hlim) _ (fun p=>by simp) hq
  |true=>
   rw[hL] at hc hq
   rw[if_neg (by simp)] at hq
   have hc':EV x.i y.i<0:=by simpa using hc
   simp[hc']
   refine Au 0 hP hH (by simp) (by simp) ?_
   simp[f1,f2,f3,f4,f5]
   refine⟨fun hs=>?_,fun hs=>?_⟩
   ·rw[if_pos hs] at hq
    have hS:wC v n a mid lim d4:=dD (ihL a mid lim true true d4 p3 (by omega) (by omega) (by omega) hlm (.inl (by omega)))
    have hsz:=Mo d4 a mid lim (by omega)
    have hdec:decide ((l:Int) / 8≤((mid-a:Nat):Int))=decide (mid-a ≥ (b-a) / 8):=by rw[decide_eq_decide];omega
    refine Au 0 hS (fun p=>by simp) (by simp) (by simp) ?_
    simp[f5]
    rw[hdec]
    refine LoopC.le (Ao [(0,Hy n v 0),(1,iv (mid+1:Nat)),(2,iv b),(3,iv lim),(4,CT),(10,bv (decide (mid-a ≥ (b-a) / 8))),(11,bv ap)] (by simp)) ?_
    exact ihL (mid+1) b lim _ ap _ (by rw[hsz];exact p3) (by omega) hb (by omega) hlm (NN _ (by omega) hlim) _ (fun p=>by simp) hq
   ·have hs':¬ mid-a<b-mid:=by omega
    rw[if_neg hs'] at hq
    have hS:wC v n (mid+1) b lim d4:=dD (ihL (mid+1) b lim true true d4 p3 (by omega) (by omega) (by omega) hlm (.inl (by omega)))
    have hsz:=Mo d4 (mid+1) b lim (by omega)
    have hdec:decide ((l:Int) / 8≤((b-mid:Nat):Int))=decide (b-mid ≥ (b-a) / 8):=by rw[decide_eq_decide];omega
    refine Au 0 hS (fun p=>by simp) (by simp) (by simp) ?_
    simp
    rw[hdec]
    exact ihL a mid lim _ ap _ (by rw[hsz];exact p3) (by omega) (by omega) (by omega) hlm (NN _ (by omega) hlim) _ (fun p=>by simp) hq
 ·rw[if_neg (by simp;omega)] at hq
  have ha00:a=0:=by omega
  simp[show ¬ (0:Int)<a by omega,ha0]
  rw[Az]
  simp
  refine Au 0 hP hH (by simp) (by simp) ?_
  simp[f1,f2,f3,f4,f5]
  refine⟨fun hs=>?_,fun hs=>?_⟩
  ·rw[if_pos hs] at hq
   have hS:wC v n a mid lim d4:=dD (ihL a mid lim true true d4 p3 (by omega) (by omega) (by omega) hlm (.inl (by omega)))
   have hsz:=Mo d4 a mid lim (by omega)
   have hdec:decide ((l:Int) / 8≤((mid-a:Nat):Int))=decide (mid-a ≥ (b-a) / 8):=by rw[decide_eq_decide];omega
   refine Au 0 hS (fun p=>by simp) (by simp) (by simp) ?_
   simp[f5]
   rw[hdec]
   refine LoopC.le (Ao [(0,Hy n v 0),(1,iv (mid+1:Nat)),(2,iv b),(3,iv lim),(4,CT),(10,bv (decide (mid-a ≥ (b-a) / 8))),(11,bv ap)] (by simp)) ?_
   exact ihL (mid+1) b lim _ ap _ (by rw[hsz];exact p3) (by omega) hb (by omega) hlm (NN _ (by omega) hlim) _ (fun p=>by simp) hq
  ·have hs':¬ mid-a<b-mid:=by omega
   rw[if_neg hs'] at hq
   have hS:wC v n (mid+1) b lim d4:=dD (ihL (mid+1) b lim true true d4 p3 (by omega) (by omega) (by omega) hlm (.inl (by omega)))
   have hsz:=Mo d4 (mid+1) b lim (by omega)
   have hdec:decide ((l:Int) / 8≤((b-mid:Nat):Int))=decide (b-mid ≥ (b-a) / 8):=by rw[decide_eq_decide];omega
   refine Au 0 hS (fun p=>by simp) (by simp) (by simp) ?_
   simp
   rw[hdec]
   exact ihL a mid lim _ ap _ (by rw[hsz];exact p3) (by omega) (by omega) (by omega) hlm (NN _ (by omega) hlim) _ (fun p=>by simp) hq
theorem vn {a b lim q l:Nat} {wb wp:Bool} {h:Sort.Hint} {d:Array Sc} (hn:n≤900) (hd:d.size=n) (hab:a+13≤b) (hb:b≤n) (hl:l=b-a) (hl24:l≤24) (hq1:a≤q) (hq2:q<b) (hlim:l-12≤lim) (hlm:lim≤900)
  (ihL:∀ (a' b' lim':Nat) (wb' wp':Bool) (d':Array Sc),d'.size=n→a'≤b'→b'≤n→b'-a'<l→lim'≤900→ZG (b'-a') lim' wb'→zY v n a' b' lim' wb' wp' d')
  {H:Hp} (hH:∀ p,H (0::p)=(A7 d v).F 0 p) (hq:∀ (H':Hp) (st:List (Nat × A)),(∀ p,H' (0::p)=(A7 (pq2 d a b lim q h wb wp) v).F 0 p)→Q .ret ⟨lk st,H'⟩) :
  WPC (EP Tryz.prog w0 I0 M0 n0 m0) BV (Bu 1 (DB (LoopC (EP Tryz.prog w0 I0 M0 n0 m0) AF Q) Q)) ⟨lk [(0,Hy n v 0),(1,iv a),(2,iv b),(3,iv lim),(4,CT),(10,bv wb),(11,bv wp),(12,iv l),(13,iv q),(14,iv (Ol h))],H⟩:=by
 have hP:=Ze d v a b (by omega) (by omega) (by omega) (by omega)
 have hpe:=Xb d a b (by omega)
 have h1:(Sort.partialInsertionSort Bz d a b).1=d:=by rw[hpe]
 have hk:∀ {H:Hp},(∀ p,H (0::p)=(A7 d v).F 0 p)→(∀ (H':Hp) (st:List (Nat × A)),(∀ p,H' (0::p)=(A7 (vp d a b lim q wb wp) v).F 0 p)→Q .ret ⟨lk st,H'⟩)→WPC (EP Tryz.prog w0 I0 M0 n0 m0) Bp (Bu 1 (DB (LoopC (EP Tryz.prog w0 I0 M0 n0 m0) AF Q) Q)) ⟨lk [(0,Hy n v 0),(1,iv a),(2,iv b),(3,iv lim),(4,CT),(10,bv wb),(11,bv wp),(12,iv l),(13,iv q)],H⟩:=fun hH hq=>Adk hn hd hab hb hl hl24 hq1 hq2 hlim hlm ihL hH hq
 unfold pq2 at hq
 rw[h1] at hP hq
 rw[hd] at hP
 rw[BV.eq_1]
 by_cases hw:(wb&&wp&&decide (h = .increasing))=true
 ·rw[if_pos hw] at hq
  simp at hw
  obtain⟨⟨rfl,rfl⟩,rfl⟩:=hw
  simp[Ol]
  refine Au 0 hP hH (by simp) (by simp) ?_
  cases hp:(Sort.partialInsertionSort Bz d a b).2 with
  |true=>
   rw[if_pos hp] at hq
   simp
   exact hq _ [(0,Hy n v 0),(1,iv a),(2,iv b),(3,iv lim),(4,CT),(10,bv true),(11,bv true),(12,iv l),(13,iv q),(80,bv true)] (fun p=>by simp)
  |false=>
   rw[if_neg (by rw[hp];simp)] at hq
   simp
   exact hk (fun p=>by simp) hq
 ·rw[if_neg hw] at hq
  cases wb with
  |false=>
   simp
   exact hk hH hq
  |true=>cases wp with
   |false=>
    simp
    exact hk hH hq
   |true=>
    cases h with
    |increasing=>simp at hw
    |unknown=>
     simp[Ol]
     exact hk hH hq
    |decreasing=>
     simp[Ol]
     exact hk hH hq
theorem vh {a b lim l:Nat} {wb wp:Bool} {d:Array Sc} (hn:n≤900) (hd:d.size=n) (hab:a+13≤b) (hb:b≤n) (hl:l=b-a) (hl24:l≤24) (hlim:l-12≤lim) (hlm:lim≤900)
  (ihL:∀ (a' b' lim':Nat) (wb' wp':Bool) (d':Array Sc),d'.size=n→a'≤b'→b'≤n→b'-a'<l→lim'≤900→ZG (b'-a') lim' wb'→zY v n a' b' lim' wb' wp' d')
  {H:Hp} (hH:∀ p,H (0::p)=(A7 d v).F 0 p) (hq:∀ (H':Hp) (st:List (Nat × A)),(∀ p,H' (0::p)=(A7 (sc d a b lim wb wp) v).F 0 p)→Q .ret ⟨lk st,H'⟩) :
  WPC (EP Tryz.prog w0 I0 M0 n0 m0) BU (Bu 1 (DB (LoopC (EP Tryz.prog w0 I0 M0 n0 m0) AF Q) Q)) ⟨lk [(0,Hy n v 0),(1,iv a),(2,iv b),(3,iv lim),(4,CT),(10,bv wb),(11,bv wp),(12,iv l)],H⟩:=by
 have hC:=choose_spec d v a b (by omega) hab (by omega) (by omega)
 have hR:=Zg d v a b (by omega) (by omega) (by omega) (by omega)
 obtain⟨c1,c2⟩:=Sort.choosePivot_holds Bz d a b (by omega)
 have hrs:(Sort.reverseRange d a b).size=n:=by
  have:=(Sort.reverseRange_holds d a b (by omega) (by omega)).1
  rw[this];exact hd
 unfold sc at hq
 rw[hd] at hC hR
 rcases hqq:Sort.choosePivot Bz d a b with ⟨q,h⟩
 rw[hqq] at hC c1 c2 hq
 simp only at hC c1 c2 hq
 rw[BU.eq_1]
 simp
 refine Au 0 hC hH (by simp) (by simp) ?_
 by_cases hdec:h = .decreasing
 ·subst hdec
  rw[if_pos rfl] at hq
  have e1:IntKind.i64.wrap ((b:Int)-1)=(b:Int)-1:=Af (by omega) (by omega)
  have e2:IntKind.i64.wrap ((q:Int)-a)=(q:Int)-a:=Af (by omega) (by omega)
  have e3:IntKind.i64.wrap ((b:Int)-1-((q:Int)-a))=((b-1-(q-a):Nat):Int):=An
  simp[Ol]
  refine Au 0 hR (fun p=>by simp) (by simp) (by simp) ?_
  simp[e1,e2,e3]
  exact vn (h:=.increasing) hn hrs hab hb hl hl24 (by omega) (by omega) hlim hlm ihL (fun p=>by simp) hq
 ·rw[if_neg hdec] at hq
  have h2:¬ Ol h=2:=by cases h<;>simp[Ol] at hdec ⊢
  simp[h2]
  exact vn hn hd hab hb hl hl24 (by omega) (by omega) hlim hlm ihL (fun p=>by simp) hq
theorem wc (hn:n≤900):∀ (l:Nat),l≤24→∀ (a b lim:Nat) (wb wp:Bool) (d:Array Sc),d.size=n→a≤b→b≤n→b-a=l→lim≤900→ZG l lim wb→zY v n a b lim wb wp d:=by
 intro l
 induction l using Nat.strongRecOn with
 |_ l ih=>
  intro hl24 a b lim wb wp d hd hab hb hl hlm hfar n0 w0 I0 M0 m0 Q H hH hq
  have e0:IntKind.i64.wrap ((b:Int)-a)=(l:Int):=An
  refine Ad Ah AF.eq_1 ?_
  rw[qA] at hq
  by_cases h12:l≤12
  ·rw[if_pos (by omega)] at hq
   have hI:=ZT d v a b (by omega) (by omega) (by omega)
   rw[hd] at hI
   simp[e0,show(l:Int)≤12 by omega,h12]
   refine Au 0 hI hH (by simp) (by simp) ?_
   simp
   exact hq _ [] (fun p=>by simp)
  ·rw[if_neg (by omega)] at hq
   have hlim:(l-12)+(if wb=true then 0 else 1)≤lim:=by
    rcases hfar with h | h
    ·omega
    ·exact h
   have hlim0:¬ lim=0:=by split at hlim<;>omega
   rw[if_neg hlim0] at hq
   have ihL:∀ (a' b' lim':Nat) (wb' wp':Bool) (d':Array Sc),d'.size=n→a'≤b'→b'≤n→b'-a'<l→lim'≤900→ZG (b'-a') lim' wb'→zY v n a' b' lim' wb' wp' d':=fun a' b' lim' wb' wp' d' k1 k2 k3 k4 k5 k6=>ih (b'-a') k4 (by omega) a' b' lim' wb' wp' d' k1 k2 k3 rfl k5 k6
   cases wb with
   |true=>
    rw[if_pos rfl] at hq
    simp at hlim
    simp[e0,show ¬ (l:Int)≤12 by omega,h12,hlim0]
    exact vh hn hd (by omega) hb hl.symm hl24 (by omega) hlm ihL hH hq
   |false=>
    rw[if_neg (by simp)] at hq
    simp at hlim
    have hB:=fU d v a b (by omega) (by omega) (by omega) (by omega)
    rw[hd] at hB
    have hbs:(Sort.breakPatterns d a b).size=n:=by
     have:=(Sort.breakPatterns_holds d a b hab (by omega)).1
     rw[this];exact hd
    have e1:IntKind.i64.wrap ((lim:Int)-1)=((lim-1:Nat):Int):=An
    simp[e0,show ¬ (l:Int)≤12 by omega,h12,hlim0]
    refine Au 0 hB hH (by simp) (by simp) ?_
    simp[e1]
    exact vh hn hbs (by omega) hb hl.symm hl24 (by omega) (by omega) ihL (fun p=>by simp) hq
theorem Y6 {o:List Sc} (ho:DZ o) {d:Array Sc} (hp:d.toList.Perm o) (hs:Sort.SortedIn Bz 0 d.size d):d.toList=Ct o:=by
 have ha:DZ d.toList:=by
  unfold DZ at ho ⊢
  exact(hp.pairwise_iff (fun {x y} h=>by rw[bz];exact h)).2 ho
 have hr:Kk d.toList:=by
  unfold Kk DZ at *
  rw[List.pairwise_iff_getElem] at ha ⊢
  intro i j hi hj hij
  have h1:=ha i j hi hj hij
  have h2:=hs i j (Nat.zero_le _) hij (by simpa using hj)
  have e1:d[i]! = d.toList[i]:=by rw[getElem!_pos d i (by simpa using hi)];simp
  have e2:d[j]! = d.toList[j]:=by rw[getElem!_pos d j (by simpa using hj)];simp
  rw[e1,e2] at h2
  simp[Bz] at h2
  simp[Vr] at h1
  simp at h1 h2 ⊢
  omega
 obtain⟨k1,k2⟩:=J1 ho
 exact X7 hr k1 (hp.trans k2.symm)
theorem gm {o:List Sc} (ho:DZ o) (hl:o.length≤16) (v:Nat):A4 Tryz.prog 241 (fun r=>[r7 o v r,CT]) (dZ o v) (fun _=>.tup []) (dZ (Ct o) v):=by
 obtain⟨d,hd⟩:∃ d:Array Sc,d=o.toArray:=⟨_,rfl⟩
 have hdl:d.toList=o:=by rw[hd]
 have hds:d.size=o.length:=by rw[hd];simp
 have hb:Sort.bitsLen o.length≤8:=(Wr o.length (by omega)).2
 have hfar:ZG o.length (Sort.bitsLen o.length) true:=by
  have:∀ n:Fin 17,n.val≤12∨(n.val-12)+0≤Sort.bitsLen n.val:=by decide +kernel
  unfold ZG
  simpa using this ⟨o.length,by omega⟩
 have hP:wC v o.length 0 o.length (Sort.bitsLen o.length) d:=dD (wc (by omega) o.length (by omega) 0 o.length _ true true d hds (by omega) (BW _) (by omega) (by omega) hfar)
 have hS:=Sort.pdq_sorts Bz AbY d 0 d.size (Sort.bitsLen o.length) true true (Nat.zero_le _) (BW _) (.inl rfl)
 have hres:(Sort.pdq Bz d 0 o.length (Sort.bitsLen o.length) true true).toList=Ct o:=by
  rw[hds] at hS
  obtain⟨⟨s1,_,s3⟩,s4⟩:=hS
  refine Y6 ho ?_ (by rw[s1,hds];exact s4)
  have e1:∀ x:Array Sc,x.size=o.length→x.extract 0 o.length=x:=fun x hx=>by rw[← hx];simp
  rw[e1 _ (by rw[s1,hds]),e1 _ hds,hdl] at s3
  exact s3
 unfold wC at hP
 rw[show(A7 d v)=dZ o v by unfold A7;rw[hdl],show A7 (Sort.pdq Bz d 0 o.length (Sort.bitsLen o.length) true true) v=dZ (Ct o) v by unfold A7;rw[hres]] at hP
 refine Ax FZ (by simp) (Ag B8 (Ag Ea Am)) (Bn Am) fun w0 I0 M0 m0=>?_
 have e1:IntKind.u64.wrap (o.length:Int)=(o.length:Int):=BI (by omega) (by omega)
 have hL:=RF o.length (by omega)
 unfold CH
 simp[e1]
 refine Ae hL rfl ?_
 simp
 refine Au 0 hP (fun p=>by simp) (by simp) (by simp) ?_
 simp
 exact AQ rfl rfl (fun p=>by simp)
@[simp] theorem Aem {x:Sc}:(aD x).take 2=OG x:=rfl
theorem iE {all:List Sc}:∀ (m:Nat) (l junk o:List Sc) (v:Nat),l.length=m→l.length≤300→o.length+l.length≤300→M8 l l.length→(∀ y,y ∈ all→y ∈ l∨B4 o y=false)→(∀ y,y ∈ l→y ∈ all) →
  ∃ o',Kg all o o'∧∀ {n0:Nat} {w0:World} {I0:Nat→Prop} {Q:Exit→Sta→Prop} (u:Nat) (H:Hp),(∀ p,H (0::p)=(Lx l junk v).F 0 p)→(∀ p,H (2::p)=(dZ o u).F 2 p) →
   (∀ (H':Hp) (u':Nat) (st:List (Nat × A)),(∀ p,H' (2::p)=(dZ o' u').F 2 p)→Q (.exit 4) ⟨lk ([(3,dX 0),(8,r7 o' u' 2)]++st),H'⟩) →
   LoopC (cx Tryz.prog w0 I0 n0) GP Q ⟨lk [(3,dX 0),(8,r7 o u 2)],H⟩:=by
 intro m
 induction m with
 |zero=>
  intro l junk o v hm hl hol hh hall hsub
  have:l=[]:=List.eq_nil_of_length_eq_zero hm
  subst this
  have hdone:∀ y,y ∈ all→B4 o y=false:=fun y hy=>by
   rcases hall y hy with h | h
   ·simp at h
   ·exact h
  refine⟨o,.done hdone,fun {n0 w0 I0 Q} u H hH hG hq=>?_⟩
  have hL:=O1 [] junk v (by simp)
  have h0:=hH []
  refine Ad Ah GP.eq_1 ?_
  simp[h0]
  refine Au 0 hL hH (by simp) (by simp) ?_
  simp
  exact hq _ u [(51,bv false)] (fun p=>by simp[hG])
 |succ m ih=>
  intro l junk o v hm hl hol hh hall hsub
  obtain⟨q1,q2,q3⟩:=xG (l:=l) (by omega) hh
  have hmin:∀ y,y ∈ l→Bh y (gt l 0)=false:=fun y hy=>by
   obtain⟨k,hk,rfl⟩:=List.getElem_of_mem hy
   rw[← vx hk]
   exact pX hh k hk
  obtain⟨g1,g2⟩:=o9 q3 hmin hall hsub
  have hP:=gy l junk v (by omega) (by omega)
  have hL:=O1 l junk v (by omega)
  have hlen:=VS l
  have hrl:((Kf l).take (l.length-1)).length=m:=by simp;omega
  have q1':(Kf l).getD (l.length-1) sc0=gt l 0:=q1
  rw[q1'] at hP
  have q2':M8 ((Kf l).take (l.length-1)) m:=fun k h1 h2=>q2 k h1 (by omega)
  clear q2
  generalize gt l 0=x at hP g1 g2 q3 hmin
  generalize (Kf l).take (l.length-1)=rest at hP hrl q2' q3 g1 g2
  have q2:M8 rest rest.length:=fun k h1 h2=>q2' k h1 (by omega)
  have hsub':∀ y,y ∈ rest→y ∈ all:=fun y hy=>hsub y (q3.subset (by simp[hy]))
  cases hf:B4 o x with
  |true=>
   obtain⟨b1,b2⟩:=g1 hf
   obtain⟨o',p1,p2⟩:=ih rest (x::junk) (o++[x]) v hrl (by omega) (by simp;omega) q2 b2 hsub'
   refine⟨o',.step b1 p1,fun {n0 w0 I0 Q} u H hH hG hq=>?_⟩
   have hC:=Ys x o u (by omega)
   rw[hf] at hC
   have h0:=hH []
   simp only[vG] at h0
   refine Ad Ah GP.eq_1 ?_
   simp[h0]
   refine Au 0 hL hH (by simp) (by simp) ?_
   simp[show 0<l.length by omega]
   refine Au 0 hP (fun p=>by simp) (by simp) (by simp) ?_
   simp[Aa,CU]
   have hG2:∀ p,(ov 0 ((Lx rest (x::junk) v).F 0) (Ay H [1] ⟨(H [1]).u+1,.cells (aD x)⟩):Hp) (2::p)=(dZ o u).F 2 p:=fun p=>by simp[Aa,hG]
   refine Au 2 hC hG2 (by simp) (by simp) ?_
   have ht:(o.map Ho).take o.length=o.map Ho:=AI (by simp)
   simp[Aa,iq,ht,CU]
   refine⟨jy,by omega,?_⟩
   refine LoopC.le (Ao [(3,dX 0),(8,r7 (o++[x]) (u+1) 2)] (by simp)) ?_
   exact p2 (u+1) _ (fun p=>by simp[Aa]) (fun p=>by by_cases hp:p=[]<;>simp[hp,Aa]) hq
  |false=>
   obtain⟨o',p1,p2⟩:=ih rest (x::junk) o v hrl (by omega) (by omega) q2 (g2 hf) hsub'
   refine⟨o',p1,fun {n0 w0 I0 Q} u H hH hG hq=>?_⟩
   have hC:=Ys x o u (by omega)
   rw[hf] at hC
   have h0:=hH []
   simp only[vG] at h0
   refine Ad Ah GP.eq_1 ?_
   simp[h0]
   refine Au 0 hL hH (by simp) (by simp) ?_
   simp[show 0<l.length by omega]
   refine Au 0 hP (fun p=>by simp) (by simp) (by simp) ?_
   simp[Aa,CU]
   have hG2:∀ p,(ov 0 ((Lx rest (x::junk) v).F 0) (Ay H [1] ⟨(H [1]).u+1,.cells (aD x)⟩):Hp) (2::p)=(dZ o u).F 2 p:=fun p=>by simp[Aa,hG]
   refine Au 2 hC hG2 (by simp) (by simp) ?_
   simp
   refine LoopC.le (Ao [(3,dX 0),(8,r7 o u 2)] (by simp)) ?_
   exact p2 u _ (fun p=>by simp[Aa]) (fun p=>by simp) hq
end Go.Proofs.YtbjmaoedheiigaaGreat
namespace Go.PL
open List
def C6 (i:Nat):Nat→List Int→List Sc
 |_,[]=>[]
 |j,n::r=>if 0<n∧i<16∧j<16 then ⟨i,j,n⟩::C6 i (j+1) r else C6 i (j+1) r
def CE:Nat→List (List Int)→List Sc
 |_,[]=>[]
 |i,r::rs=>C6 i 0 r++CE (i+1) rs
theorem SW {i:Nat}:∀ {r:List Int} {j:Nat},(C6 i j r).length≤16-j
 |[],j=>by simp[C6]
 |n::r,j=>by
  have:=SW (i:=i) (r:=r) (j:=j+1)
  unfold C6
  split
  ·simp;omega
  ·omega
theorem YK {i:Nat} (h:16≤i):∀ {r:List Int} {j:Nat},C6 i j r=[]
 |[],j=>rfl
 |n::r,j=>by
  unfold C6
  rw[if_neg (by omega),YK h]
theorem OM:∀ {rs:List (List Int)} {i:Nat},(CE i rs).length≤(16-i)*16
 |[],i=>by simp[CE]
 |r::rs,i=>by
  have h1:=OM (rs:=rs) (i:=i+1)
  have h2:=SW (i:=i) (r:=r) (j:=0)
  unfold CE
  rw[List.length_append]
  by_cases h:16≤i
  ·rw[YK h];simp;omega
  ·omega
theorem Rh {i:Nat}:∀ {r:List Int} {j:Nat} {x:Sc},x ∈ C6 i j r→x.i=i∧i<16∧x.j<16∧j≤x.j∧x.j<j+r.length∧r[x.j-j]? = some x.n∧0<x.n
 |[],j,x,h=>by simp[C6] at h
 |n::r,j,x,h=>by
  have ih:x ∈ C6 i (j+1) r→x.i=i∧i<16∧x.j<16∧j≤x.j∧x.j<j+(n::r).length∧(n::r)[x.j-j]? = some x.n∧0<x.n:=fun h=>by
   obtain⟨h1,h2,h3,h4,h5,h6,h7⟩:=Rh h
   refine⟨h1,h2,h3,by omega,by simp;omega,?_,h7⟩
   rw[show x.j-j=(x.j-(j+1))+1 by omega]
   simpa using h6
  unfold C6 at h
  split at h
  ·rename_i hc
   rcases List.mem_cons.1 h with rfl | h
   ·exact⟨rfl,hc.2.1,hc.2.2,BW _,by simp,by simp,hc.1⟩
   ·exact ih h
  ·exact ih h
end Go.PL
namespace Go.Proofs.YtbjmaoedheiigaaGreat
open Go Go.G Go.Proofs Go.PL
abbrev Lr (l:List (List Int)):A:=.sl false (l.map B5)
def HpI (H:Hp) (all:List Sc):Prop:=∃ (l junk:List Sc) (v:Nat),(∀ p,H (0::p)=(Lx l junk v).F 0 p)∧M8 l l.length∧List.Perm l all∧∀ p,H (2::p)=⟨0,.none⟩
theorem uq {n0:Nat} {w0:World} {I0:Nat→Prop} {Q:Exit→Sta→Prop} {X:A} {N:Nat} {r:List Int} {i:Nat} (hr:r.length≤1000000):∀ (m j:Nat) (all:List Sc) (H:Hp),r.length=j+m→all.length+(C6 i j (r.drop j)).length≤256→HpI H all →
  (∀ (H':Hp) (st:List (Nat × A)),HpI H' (all++C6 i j (r.drop j))→Q (.exit 2) ⟨lk ([(3,dX 0),(4,iv i),(12,X),(13,iv N),(14,iv i)]++st),H'⟩) →
  LoopC (cx Tryz.prog w0 I0 n0) G8 Q ⟨lk [(3,dX 0),(4,iv i),(12,X),(13,iv N),(14,iv i),(19,B5 r),(20,iv r.length),(21,iv j)],H⟩:=by
 intro m
 induction m with
 |zero=>
  intro j all H hm hl hI hq
  refine Ad Ah G8.eq_1 ?_
  have:¬ (j:Int)<r.length:=by omega
  simp[this]
  have hd:r.drop j=[]:=List.drop_eq_nil_of_le (by omega)
  rw[hd] at hq
  exact hq H [(19,B5 r),(20,iv r.length),(21,iv j),(22,bv false)] (by simpa[C6] using hI)
 |succ m ih=>
  intro j all H hm hl hI hq
  have hj:j<r.length:=by omega
  have hd:r.drop j=r[j]::r.drop (j+1):=(List.getElem_cons_drop hj).symm
  have e1:IntKind.i64.wrap ((j:Int)+1)=((j+1:Nat):Int):=An
  rw[hd] at hl hq
  unfold C6 at hl hq
  refine Ad Ah G8.eq_1 ?_
  simp[hj,show(j:Int)<r.length by omega]
  have next:∀ (all':List Sc) (H':Hp),all'.length+(C6 i (j+1) (r.drop (j+1))).length≤256→HpI H' all'→all'++C6 i (j+1) (r.drop (j+1))=all++(if 0<r[j]∧i<16∧j<16 then ⟨i,j,r[j]⟩::C6 i (j+1) (r.drop (j+1)) else C6 i (j+1) (r.drop (j+1)))→LoopC (cx Tryz.prog w0 I0 n0) G8 Q ⟨lk [(3,dX 0),(4,iv i),(12,X),(13,iv N),(14,iv i),(19,B5 r),(20,iv r.length),(21,iv (j+1:Nat))],H'⟩:=fun all' H' hl' hI' he=>ih (j+1) all' H' (by omega) hl' hI' (by rw[he];exact hq)
  by_cases h1:0<r[j]
  ·by_cases h2:i<16
   ·by_cases h3:j<16
    ·rw[if_pos ⟨h1,h2,h3⟩] at hl
     obtain⟨l,junk,v,q1,q2,q3,q4⟩:=hI
     have hll:=q3.length_eq
     simp at hl
     have hP:=cz l junk v (by omega) ⟨i,j,r[j]⟩
     obtain⟨g1,g2⟩:=jv q2 ⟨i,j,r[j]⟩
     simp[h1,show(i:Int)<16 by omega,show(j:Int)<16 by omega]
     refine⟨?_,fun h=>by omega⟩
     refine Au 0 hP q1 (by simp[OU,aD]) (by simp) ?_
     simp[e1]
     refine next (all++[⟨i,j,r[j]⟩]) _ (by simp;omega) ⟨kZ (l.length+1) (l++[⟨i,j,r[j]⟩]) l.length,[],v+1,fun p=>by simp,?_,?_,fun p=>by simp[q4]⟩ (by rw[if_pos ⟨h1,h2,h3⟩];simp)
     ·rw[ZR];simpa using g1
     ·exact g2.trans ((q3.cons _).trans (List.perm_append_singleton _ _).symm)
    ·have:¬ (j:Int)<16:=by omega
     simp[h1,show(i:Int)<16 by omega,this,e1]
     intro _
     refine next all H (by rw[if_neg (by omega)] at hl;exact hl) hI (by rw[if_neg (by omega)])
   ·have:¬ (i:Int)<16:=by omega
    simp[h1,this,e1]
    refine next all H (by rw[if_neg (by omega)] at hl;exact hl) hI (by rw[if_neg (by omega)])
  ·simp[h1,e1]
   refine next all H (by rw[if_neg (by omega)] at hl;exact hl) hI (by rw[if_neg (by omega)])
theorem si {n0:Nat} {w0:World} {I0:Nat→Prop} {Q:Exit→Sta→Prop} {rs:List (List Int)} (hrs:rs.length≤1000000) (hr:∀ r,r ∈ rs→r.length≤1000000):∀ (m i:Nat) (all:List Sc) (H:Hp),rs.length=i+m→all.length+(CE i (rs.drop i)).length≤256→HpI H all →
  (∀ (H':Hp) (st:List (Nat × A)),HpI H' (all++CE i (rs.drop i))→Q (.exit 0) ⟨lk ([(3,dX 0)]++st),H'⟩) →
  LoopC (cx Tryz.prog w0 I0 n0) Jl Q ⟨lk [(3,dX 0),(12,Lr rs),(13,iv rs.length),(14,iv i)],H⟩:=by
 intro m
 induction m with
 |zero=>
  intro i all H hm hl hI hq
  refine Ad Ah Jl.eq_1 ?_
  have:¬ (i:Int)<rs.length:=by omega
  simp[this]
  have hd:rs.drop i=[]:=List.drop_eq_nil_of_le (by omega)
  rw[hd] at hq
  exact hq H [(12,Lr rs),(13,iv rs.length),(14,iv i),(15,bv false)] (by simpa[CE] using hI)
 |succ m ih=>
  intro i all H hm hl hI hq
  have hj:i<rs.length:=by omega
  have hd:rs.drop i=rs[i]::rs.drop (i+1):=(List.getElem_cons_drop hj).symm
  have e1:IntKind.i64.wrap ((i:Int)+1)=((i+1:Nat):Int):=An
  have hri:=hr rs[i] (Bq hj)
  rw[hd] at hl hq
  unfold CE at hl hq
  rw[List.length_append] at hl
  refine Ad Ah Jl.eq_1 ?_
  simp[hj,show(i:Int)<rs.length by omega]
  refine LoopC.le (Ao [(3,dX 0),(4,iv i),(12,Lr rs),(13,iv rs.length),(14,iv i),(19,B5 rs[i]),(20,iv rs[i].length),(21,iv (0:Nat))] (by simp)) ?_
  refine uq hri rs[i].length 0 all H (by omega) (by simp;omega) hI fun H' st hI'=>?_
  simp[e1]
  refine ih (i+1) _ H' (by omega) ?_ (by simpa using hI') fun H2 st2 hI2=>?_
  ·simp;omega
  ·refine hq H2 st2 (by simpa using hI2)
theorem aY:∀ all:List Sc,∃ l,M8 l l.length∧List.Perm l all
 |[]=>⟨[],fun k _ h=>by simp at h,List.Perm.refl _⟩
 |x::all=>by
  obtain⟨l,h1,h2⟩:=aY all
  obtain⟨g1,g2⟩:=jv h1 x
  exact⟨_,by rw[ZR];simpa using g1,g2.trans (h2.cons x)⟩
theorem kt {all:List Sc} (h:all.length≤300):∃ o',Kg all [] o':=by
 obtain⟨l,h1,h2⟩:=aY all
 have:=h2.length_eq
 obtain⟨o',h3,_⟩:=iE (all:=all) l.length l [] [] 0 rfl (by omega) (by simp;omega) h1 (fun y hy=>.inl (h2.symm.subset hy)) (fun y hy=>h2.subset hy)
 exact⟨o',h3⟩
theorem GF {rs:List (List Int)} {o':List Sc} (h:Kg (CE 0 rs) [] o'):DZ o'∧(∀ x,x ∈ o'→x ∈ CE 0 rs):=cY h (by simp[DZ]) (by simp)
theorem jY (rs:List (List Int)) (hrs:rs.length≤1000000) (hr:∀ r,r ∈ rs→r.length≤1000000) {o':List Sc} (ho:Kg (CE 0 rs) [] o') (hl16:o'.length≤16):G.Spec Tryz.prog 203 [Lr rs] (.sl false ((Ct o').map Ho)):=by
 obtain⟨hap,_⟩:=GF ho
 have hcl:=OM (rs:=rs) (i:=0)
 refine Aj bX (by simp) fun w0 I0=>?_
 unfold Ug
 simp
 refine LoopC.le (Bd (d:=[0]) (u:=1) (cs:=[.sl true []]) 0 [0,0] 3 rfl rfl (by simp)) ?_
 simp
 refine LoopC.le (Ao [(3,dX 0),(12,Lr rs),(13,iv rs.length),(14,iv (0:Nat))] (by simp)) ?_
 refine si hrs hr rs.length 0 [] _ (by omega) (by simpa using hcl) ⟨[],[],1,fun p=>?_,fun k _ h=>by simp at h,List.Perm.refl _,fun p=>by simp⟩ fun H' st hI=>?_
 ·by_cases h1:p=[]
  ·subst h1;simp
  ·by_cases h2:p=[0]
   ·subst h2;simp
   ·simp[h1,h2,Ne.symm h1,Ne.symm h2]
 ·obtain⟨l,junk,v,q1,q2,q3,q4⟩:=hI
  simp only[List.nil_append,List.drop_zero] at q3
  have hll:=q3.length_eq
  simp
  refine LoopC.le (BX 8 [2] 2 (by simp)) ?_
  obtain⟨o2,p1,p2⟩:=iE (all:=CE 0 rs) l.length l junk [] v rfl (by omega) (by simp;omega) q2 (fun y hy=>.inl (q3.symm.subset hy)) (fun y hy=>q3.subset hy)
  have:=kJ p1 ho
  subst this
  refine LoopC.le (Ao [(3,dX 0),(8,r7 [] ((H' [2]).u+1) 2)] (by simp)) ?_
  refine p2 _ _ (fun p=>by simp[Aa,q1]) (fun p=>?_) fun H2 u2 st2 hG=>?_
  ·by_cases h1:p=[]<;>simp[h1,Aa,q4]
  ·have hS:=gm hap hl16 u2
   simp
   refine Au 2 hS hG (by simp) (by simp) ?_
   simp
   have hsl:(Ct o2).length=o2.length:=(J1 hap).2.length_eq
   have:=VQ (H:=ov 2 ((dZ (Ct o2) u2).F 2) H2) (o:=[2]) (u:=u2) (sz:=2) (l:=Ct o2) (f:=Ho) (n:=o2.length) (by simp) (by omega) (by intro x;rfl)
   rw[AI (by omega)] at this
   exact this
end Go.Proofs.YtbjmaoedheiigaaGreat
namespace Go.PL
open List
def aE (x:Int):List Int→Option (List Int)
 |[]=>none
 |y::b=>if x=y then some b else aE x b
def AB:List Int→List Int→Nat
 |[],_=>0
 |x::a,b=>max (AB a b) (match aE x b with | some b'=>AB a b'+1 | none=>0)
theorem iI {x:Int} {s:List Int}:∀ {b:List Int},x::s <+ b→∃ b',aE x b=some b'∧s <+ b'
 |[],h=>by cases h
 |y::b,h=>by
  unfold aE
  by_cases e:x=y
  ·subst e
   refine⟨b,by simp,?_⟩
   cases h with
   |cons _ h=>exact(List.sublist_cons_self x s).trans h
   |cons_cons _ h=>exact h
  ·rw[if_neg e]
   cases h with
   |cons _ h=>exact iI h
   |cons_cons _ h=>exact absurd rfl e
theorem OI {x:Int}:∀ {b b':List Int},aE x b=some b'→∃ b0,b=b0++x::b'∧x ∉ b0
 |[],b',h=>by cases h
 |y::b,b',h=>by
  unfold aE at h
  by_cases e:x=y
  ·rw[if_pos e] at h
   cases h
   exact⟨[],by simp[e],by simp⟩
  ·rw[if_neg e] at h
   obtain⟨b0,h1,h2⟩:=OI h
   exact⟨y::b0,by simp[h1],by simp[e,h2]⟩
theorem dL {x:Int}:∀ {b:List Int},aE x b=none→x ∉ b
 |[],_=>by simp
 |y::b,h=>by
  unfold aE at h
  by_cases e:x=y
  ·rw[if_pos e] at h;cases h
  ·rw[if_neg e] at h
   simp[e,dL h]
theorem Zk {x:Int}:∀ {b0 b':List Int},x ∉ b0→aE x (b0++x::b')=some b'
 |[],b',_=>by simp[aE]
 |y::b0,b',h=>by
  simp at h
  simp[aE,h.1,Zk h.2]
theorem HO:∀ a b:List Int,∃ s,s <+ a∧s <+ b∧s.length=AB a b
 |[],b=>⟨[],by simp,by simp,rfl⟩
 |x::a,b=>by
  obtain⟨s,h1,h2,h3⟩:=HO a b
  unfold AB
  cases e:aE x b with
  |none=>exact⟨s,h1.cons x,h2,by simp[h3]⟩
  |some b'=>
   obtain⟨t,g1,g2,g3⟩:=HO a b'
   simp only
   by_cases hle:AB a b≤AB a b'+1
   ·obtain⟨b0,rfl,_⟩:=OI e
    exact⟨x::t,g1.cons_cons x,(g2.cons_cons x).trans (List.sublist_append_right _ _),by simp;omega⟩
   ·exact⟨s,h1.cons x,h2,by omega⟩
theorem HN:∀ {a b s:List Int},s <+ a→s <+ b→s.length≤AB a b
 |[],b,s,h1,h2=>by
  have:=List.sublist_nil.1 h1
  subst this
  simp
 |x::a,b,s,h1,h2=>by
  unfold AB
  cases h1 with
  |cons _ h=>have:=HN h h2;omega
  |@cons_cons s' _ _ h=>
   obtain⟨b',e,h3⟩:=iI h2
   have:=HN h h3
   rw[e]
   simp
   omega
theorem yu {a b:List Int} {n:Nat} (h1:∃ s,s <+ a∧s <+ b∧s.length=n) (h2:∀ s,s <+ a→s <+ b→s.length≤n):AB a b=n:=by
 obtain⟨s,g1,g2,g3⟩:=h1
 obtain⟨t,k1,k2,k3⟩:=HO a b
 have:=HN g1 g2
 have:=h2 t k1 k2
 omega
theorem Jy (a b:List Int):AB a.reverse b.reverse=AB a b:=by
 obtain⟨s,h1,h2,h3⟩:=HO a b
 refine yu ⟨s.reverse,h1.reverse,h2.reverse,by simpa using h3⟩ fun t g1 g2=>?_
 have:=HN (a:=a) (b:=b) (s:=t.reverse) (by simpa using g1.reverse) (by simpa using g2.reverse)
 simpa using this
theorem OX {a b a' b':List Int} (h1:a <+ a') (h2:b <+ b'):AB a b≤AB a' b':=by
 obtain⟨s,g1,g2,g3⟩:=HO a b
 have:=HN (g1.trans h1) (g2.trans h2)
 omega
theorem ju (a b a' b':List Int):AB a b+AB a' b'≤AB (a++a') (b++b'):=by
 obtain⟨s,g1,g2,g3⟩:=HO a b
 obtain⟨t,k1,k2,k3⟩:=HO a' b'
 have:=HN (g1.append k1) (g2.append k2)
 simp at this
 omega
theorem j6 (a a' b:List Int):∃ b1 b2,b=b1++b2∧AB (a++a') b=AB a b1+AB a' b2:=by
 obtain⟨s,g1,g2,g3⟩:=HO (a++a') b
 obtain⟨s1,s2,rfl,k1,k2⟩:=List.sublist_append_iff.1 g1
 obtain⟨b1,b2,rfl,m1,m2⟩:=List.append_sublist_iff.1 g2
 refine⟨b1,b2,rfl,?_⟩
 have h1:=HN k1 m1
 have h2:=HN k2 m2
 have h3:=ju a b1 a' b2
 simp at g3
 omega
theorem FU (a b:List Int):AB a b≤a.length∧AB a b≤b.length:=by
 obtain⟨s,g1,g2,g3⟩:=HO a b
 have:=g1.length_le
 have:=g2.length_le
 omega
theorem Ls (x:Int) (a b:List Int):AB (x::a) (x::b)=AB a b+1:=by
 have h:AB a (x::b)≤AB a b+1:=by
  obtain⟨s,g1,g2,g3⟩:=HO a (x::b)
  cases g2 with
  |cons _ h=>have:=HN g1 h;omega
  |@cons_cons s' _ _ h=>
   have:=HN ((List.sublist_cons_self x s').trans g1) h
   simp at g3
   omega
 rw[AB]
 simp[aE]
 omega
theorem XF {x y:Int} (h:x ≠ y) (a b:List Int):AB (x::a) (y::b)=max (AB a (y::b)) (AB (x::a) b):=by
 have h1:AB a b≤AB a (y::b):=OX (List.Sublist.refl _) (List.sublist_cons_self _ _)
 rw[AB,AB]
 simp only[aE,if_neg h]
 omega
theorem Lq (x:Int) (a b:List Int):AB (a++[x]) (b++[x])=AB a b+1:=by
 rw[← Jy]
 simp[Ls,Jy]
theorem Ll {x y:Int} (h:x ≠ y) (a b:List Int):AB (a++[x]) (b++[y])=max (AB a (b++[y])) (AB (a++[x]) b):=by
 rw[← Jy,← Jy a (b++[y]),← Jy (a++[x]) b]
 simp[XF h]
theorem cQ (x:Int) (a b:List Int):AB (x::a) b≤AB a b+1:=by
 rw[AB]
 cases e:aE x b with
 |none=>simp
 |some b'=>
  obtain⟨b0,rfl,_⟩:=OI e
  have:AB a b'≤AB a (b0++x::b'):=OX (List.Sublist.refl _) ((List.sublist_cons_self x b').trans (List.sublist_append_right _ _))
  simp only
  omega
theorem b7 (x:Int) (a b:List Int):AB (a++[x]) b≤AB a b+1:=by
 rw[← Jy,← Jy a b]
 simpa using cQ x a.reverse b.reverse
@[simp] theorem Afa (a:List Int):AB a []=0:=by have:=(FU a []).2;simpa using this
@[simp] theorem AdC (b:List Int):AB [] b=0:=rfl
theorem LN:∀ (a u v w:List Int),AB a (u++(v++w))+AB a v≤AB a (u++v)+AB a (v++w)
 |[],u,v,w=>by simp
 |x::a,u,v,w=>by
  have m1:∀ p q:List Int,AB a q≤AB a (p++q):=fun p q=>OX (List.Sublist.refl _) (List.sublist_append_right _ _)
  have up:∀ q:List Int,AB a q≤AB (x::a) q:=fun q=>by rw[AB];omega
  have tk:∀ q0 q':List Int,x ∉ q0→AB a q'+1≤AB (x::a) (q0++x::q'):=fun q0 q' h=>by rw[AB,Zk h];simp;omega
  have tk':∀ q0 q':List Int,AB a q'+1≤AB (x::a) (q0++x::q'):=fun q0 q'=>by
   have:=Ls x a q'
   have h2:AB (x::a) (x::q')≤AB (x::a) (q0++x::q'):=OX (List.Sublist.refl _) (List.sublist_append_right _ _)
   omega
  -- what the two of the left take
  have c1:AB (x::a) (u++(v++w))=AB a (u++(v++w))∨∃ q0 q',u++(v++w)=q0++x::q'∧x ∉ q0∧AB (x::a) (u++(v++w))=AB a q'+1:=by
   rw[AB]
   cases e:aE x (u++(v++w)) with
   |none=>left;simp
   |some q'=>
    obtain⟨q0,h1,h2⟩:=OI e
    simp only
    by_cases hle:AB a (u++(v++w))≤AB a q'+1
    ·right;exact⟨q0,q',h1,h2,by omega⟩
    ·left;omega
  have c2:AB (x::a) v=AB a v∨∃ v0 v',v=v0++x::v'∧x ∉ v0∧AB (x::a) v=AB a v'+1:=by
   rw[AB]
   cases e:aE x v with
   |none=>left;simp
   |some q'=>
    obtain⟨q0,h1,h2⟩:=OI e
    simp only
    by_cases hle:AB a v≤AB a q'+1
    ·right;exact⟨q0,q',h1,h2,by omega⟩
    ·left;omega
  rcases c1 with e1 | ⟨q0,q',h1,hn,e1⟩
  ·rcases c2 with e2 | ⟨v0,v',rfl,hv,e2⟩
   ·have:=LN a u v w
    have:=up (u++v)
    have:=up (v++w)
    omega
   ·have h:=LN a (u++(v0++[x])) v' w
    have g1:=up (u++(v0++x::v'))
    have g2:=tk v0 (v'++w) hv
    simp at h g1 g2 e1 e2 ⊢
    omega
  ·-- where the first x stands
   rcases List.append_eq_append_iff.1 h1 with ⟨t,ht1,ht2⟩ | ⟨t,ht1,ht2⟩
   ·-- q0=u++t,v++w=t++x::q'
    subst ht1
    have hnu:x ∉ u:=fun h=>hn (by simp[h])
    have hnt:x ∉ t:=fun h=>hn (by simp[h])
    rcases List.append_eq_append_iff.1 ht2 with ⟨t2,hs1,hs2⟩ | ⟨t2,hs1,hs2⟩
    ·-- t=v++t2: x stands in w
     subst hs1
     have hnv:x ∉ v:=fun h=>hnt (by simp[h])
     have e2:AB (x::a) v=AB a v:=by
      rcases c2 with e2 | ⟨v0,v',rfl,_,_⟩
      ·exact e2
      ·exact absurd (by simp) hnv
     have g1:=tk (v++t2) q' hnt
     have g2:=up (u++v)
     have g3:=m1 u v
     rw[ht2] at e1 ⊢
     omega
    ·-- v=t++t2,x::q'=t2++w
     subst hs1
     cases t2 with
     |nil=>
      simp at hs2
      subst hs2
      have e2:AB (x::a) t=AB a t:=by
       rcases c2 with e2 | ⟨v0,v',hv,_,_⟩
       ·simpa using e2
       ·exact absurd (by simp at hv;simp[hv]) hnt
      have g1:=tk t q' hnt
      have g2:=up (u++t)
      have g3:=m1 u t
      simp at e1 e2 g1 g2 g3 ⊢
      omega
     |cons y v'=>
      simp at hs2
      obtain⟨rfl,rfl⟩:=hs2
      have g1:=tk t (v'++w) hnt
      have e2:AB (x::a) (t++x::v')≤max (AB a (t++x::v')) (AB a v'+1):=by rw[AB,Zk hnt];simp
      have g2:=up (u++(t++x::v'))
      have g3:=m1 u (t++x::v')
      have g4:=tk' (u++t) v'
      simp at e1 e2 g1 g2 g3 g4 ⊢
      omega
   ·-- u=q0++t,x::q'=t++(v++w)
    cases t with
    |nil=>
     simp at ht2 ht1
     subst ht1
     -- x heads v++w
     cases v with
     |nil=>
      simp at ht2
      have g1:=tk [] q' (by simp)
      have g0:=up u
      simp at g1 e1 ⊢
      rw[← ht2] at e1 ⊢
      rw[e1]
      omega
     |cons y v'=>
      simp at ht2
      obtain⟨rfl,rfl⟩:=ht2
      have g1:=tk [] (v'++w) (by simp)
      have e2:=Ls x a v'
      have g4:=tk' u v'
      simp at e1 g1 g4 ⊢
      omega
    |cons y u'=>
     simp at ht2
     obtain⟨rfl,rfl⟩:=ht2
     subst ht1
     rcases c2 with e2 | ⟨v0,v',rfl,hv,e2⟩
     ·have h:=LN a u' v w
      have g1:=tk q0 (u'++v) hn
      have g2:=up (v++w)
      simp at e1 e2 g1 g2 h ⊢
      omega
     ·have h:=LN a (u'++(v0++[x])) v' w
      have g1:=tk q0 (u'++(v0++x::v')) hn
      have g2:=tk v0 (v'++w) hv
      simp at e1 e2 g1 g2 h ⊢
      omega
def sg (l:List Int) (p q:Nat):List Int:=(l.take q).drop p
def EJ (a b:List Int) (i h j k:Nat):Nat:=AB (sg a i h) (sg b j k)
theorem Lo (l:List Int) (p q:Nat) (h:q≤l.length):(sg l p q).length=q-p:=by simp[sg];omega
theorem Qy {l:List Int} {p k q:Nat} (h1:p≤k) (h2:k≤q):sg l p q=sg l p k++sg l k q:=by
 unfold sg
 have e:(l.take q).drop p=((l.take q).drop p).take (k-p)++((l.take q).drop p).drop (k-p):=(List.take_append_drop _ _).symm
 rw[e,List.drop_drop,List.take_drop,List.take_take]
 congr 3<;>first | omega | skip
theorem Vf (l:List Int) (q:Nat):sg l 0 q=l.take q:=by simp[sg]
theorem fL (l:List Int) (p:Nat):sg l p l.length=l.drop p:=by simp[sg]
theorem yK (l:List Int) (p:Nat):sg l p p=[]:=by simp[sg]
theorem Vh {l:List Int} {n p q:Nat} (h:q≤n):sg (l.take n) p q=sg l p q:=by
 unfold sg;rw[List.take_take];congr 2;omega
theorem U8 {l:List Int} {n p q:Nat}:sg (l.drop n) p q=sg l (n+p) (n+q):=by
 unfold sg;rw[List.take_drop,List.drop_drop]
theorem Gr {a b:List Int} {i h t j k q:Nat} (h1:i≤h) (h2:h≤t) (h3:j≤k) (h4:k≤q):EJ a b i h j k+EJ a b h t k q≤EJ a b i t j q:=by
 unfold EJ
 rw[Qy h1 h2,Qy h3 h4]
 exact ju _ _ _ _
theorem JC (a b:List Int) {i h t j q:Nat} (h1:i≤h) (h2:h≤t) (h3:j≤q) (h4:q≤b.length):∃ k,j≤k∧k≤q∧EJ a b i h j k+EJ a b h t k q=EJ a b i t j q:=by
 unfold EJ
 rw[Qy h1 h2]
 obtain⟨b1,b2,e,hs⟩:=j6 (sg a i h) (sg a h t) (sg b j q)
 have hl:=Lo b j q h4
 rw[e] at hl
 simp at hl
 refine⟨j+b1.length,by omega,by omega,?_⟩
 have e2:=Qy (l:=b) (p:=j) (k:=j+b1.length) (q:=q) (by omega) (by omega)
 rw[e] at e2
 obtain⟨g1,g2⟩:=List.append_inj e2 (by rw[Lo _ _ _ (by omega)];omega)
 rw[← g1,← g2,← hs]
theorem YS (a b:List Int) (i h:Nat) {p p' q q':Nat} (h1:p≤p') (h2:p'≤q) (h3:q≤q'):EJ a b i h p q'+EJ a b i h p' q≤EJ a b i h p q+EJ a b i h p' q':=by
 unfold EJ
 rw[Qy (l:=b) h1 (by omega:p'≤q'),Qy (l:=b) h2 h3,Qy (l:=b) h1 h2]
 exact LN _ _ _ _
def du (p:Nat→Bool):Nat→Nat→Nat
 |0,j=>j
 |f+1,j=>if p j=true then j else du p f (j+1)
theorem Z7 {p:Nat→Bool}:∀ {f j k:Nat},j≤k→k≤j+f→p k=true→p (du p f j)=true∧j≤du p f j∧du p f j≤k
 |0,j,k,h1,h2,h=>by
  have:k=j:=by omega
  subst this
  exact⟨h,by simp[du],by simp[du]⟩
 |f+1,j,k,h1,h2,h=>by
  unfold du
  by_cases e:p j=true
  ·simp[e,h1]
  ·rw[if_neg e]
   have hne:j ≠ k:=fun h'=>by rw[h'] at e;exact e h
   have:=Z7 (f:=f) (j:=j+1) (k:=k) (by omega) (by omega) h
   exact⟨this.1,by omega,this.2.2⟩
def Q4 (a b:List Int) (i j:Nat):Bool:=decide (EJ a b 0 i 0 j+EJ a b i a.length j b.length=AB a b)
def AP (a b:List Int) (i:Nat):Nat:=du (Q4 a b i) b.length 0
theorem iC (a b:List Int):EJ a b 0 a.length 0 b.length=AB a b:=by simp[EJ,sg]
theorem MM {a b:List Int} {i j:Nat} (hi:i≤a.length) (hj:j≤b.length):EJ a b 0 i 0 j+EJ a b i a.length j b.length≤AB a b:=by
 rw[← iC]
 exact Gr (by omega) hi (by omega) hj
theorem Fv {a b:List Int} {i:Nat} (hi:i≤a.length):Q4 a b i (AP a b i)=true∧AP a b i≤b.length∧∀ j,j≤b.length→Q4 a b i j=true→AP a b i≤j:=by
 obtain⟨k,h1,h2,h3⟩:=JC a b (i:=0) (h:=i) (t:=a.length) (j:=0) (q:=b.length) (by omega) hi (by omega) (by omega)
 rw[iC] at h3
 have:=Z7 (p:=Q4 a b i) (f:=b.length) (j:=0) (k:=k) (by omega) (by omega) (by simpa[Q4] using h3)
 refine⟨this.1,by unfold AP;omega,fun j hj h=>?_⟩
 exact(Z7 (p:=Q4 a b i) (f:=b.length) (j:=0) (k:=j) (by omega) (by omega) h).2.2
theorem TN {a b:List Int} {i k:Nat} (hi:i≤a.length) (hk:k≤b.length) (h1:Q4 a b i k=true) (h2:∀ j,j<k→Q4 a b i j=false):AP a b i=k:=by
 obtain⟨g1,g2,g3⟩:=Fv (a:=a) (b:=b) hi
 have:=g3 k hk h1
 by_cases e:AP a b i<k
 ·have:=h2 _ e;rw[g1] at this;cases this
 ·omega
theorem Sq (a b:List Int):AP a b 0=0:=TN (by omega) (by omega) (by simp[Q4,EJ,sg]) (by omega)
theorem Rc {a b:List Int} {i h:Nat} (hih:i≤h) (hh:h≤a.length):AP a b i≤AP a b h:=by
 obtain⟨g1,g2,g3⟩:=Fv (a:=a) (b:=b) hh
 obtain⟨k,h1,h2,h3⟩:=JC a b (i:=0) (h:=i) (t:=h) (j:=0) (q:=AP a b h) (by omega) hih (by omega) g2
 have h4:=Gr (a:=a) (b:=b) (i:=i) (h:=h) (t:=a.length) (j:=k) (k:=AP a b h) (q:=b.length) hih hh h2 g2
 have h5:=MM (a:=a) (b:=b) (i:=i) (j:=k) (by omega) (by omega)
 have hg:=g1
 unfold Q4 at hg
 simp only[decide_eq_true_eq] at hg
 have:=(Fv (a:=a) (b:=b) (i:=i) (by omega)).2.2 k (by omega) (by unfold Q4;simp only[decide_eq_true_eq];omega)
 omega
theorem Zt {a b:List Int} {i h:Nat} (hih:i≤h) (hh:h≤a.length):AP (a.take h) (b.take (AP a b h)) i=AP a b i:=by
 obtain⟨g1,g2,g3⟩:=Fv (a:=a) (b:=b) hh
 obtain⟨f1,f2,f3⟩:=Fv (a:=a) (b:=b) (i:=i) (by omega)
 have hm:=Rc (a:=a) (b:=b) hih hh
 generalize hJ:AP a b h=J at *
 generalize hj:AP a b i=j at *
 have la:(a.take h).length=h:=by simp;omega
 have lb:(b.take J).length=J:=by simp;omega
 have e0:AB (a.take h) (b.take J)=EJ a b 0 h 0 J:=by simp[EJ,Vf]
 have e1:∀ k,k≤J→Q4 (a.take h) (b.take J) i k=decide (EJ a b 0 i 0 k+EJ a b i h k J=EJ a b 0 h 0 J):=fun k hk=>by
  unfold Q4
  rw[e0,la,lb]
  unfold EJ
  rw[Vh hih,Vh hk,Vh (BW _),Vh (BW _)]
 unfold Q4 at g1 f1
 simp only[decide_eq_true_eq] at g1 f1
 refine TN (by omega) (by omega) ?_ fun k hk=>?_
 ·rw[e1 j hm,decide_eq_true_eq]
  -- the way through (i,j) comes to row h at k
  obtain⟨k,h1,h2,h3⟩:=JC a b (i:=i) (h:=h) (t:=a.length) (j:=j) (q:=b.length) hih hh f2 (by omega)
  have h4:=Gr (a:=a) (b:=b) (i:=0) (h:=i) (t:=h) (j:=0) (k:=j) (q:=k) (by omega) hih (by omega) h1
  have h5:=MM (a:=a) (b:=b) (i:=h) (j:=k) hh h2
  have hJk:J≤k:=g3 k h2 (by unfold Q4;simp only[decide_eq_true_eq];omega)
  obtain⟨k2,i1,i2,i3⟩:=JC a b (i:=0) (h:=i) (t:=h) (j:=0) (q:=J) (by omega) hih (by omega) g2
  have i4:=Gr (a:=a) (b:=b) (i:=i) (h:=h) (t:=a.length) (j:=k2) (k:=J) (q:=b.length) hih hh i2 g2
  have i5:=MM (a:=a) (b:=b) (i:=i) (j:=k2) (by omega) (by omega)
  have hjk2:j≤k2:=f3 k2 (by omega) (by unfold Q4;simp only[decide_eq_true_eq];omega)
  have m:=YS a b i h (p:=j) (p':=k2) (q:=J) (q':=k) hjk2 i2 hJk
  have t1:=Gr (a:=a) (b:=b) (i:=0) (h:=i) (t:=h) (j:=0) (k:=j) (q:=J) (by omega) hih (by omega) hm
  have t2:=Gr (a:=a) (b:=b) (i:=i) (h:=h) (t:=a.length) (j:=k2) (k:=k) (q:=b.length) hih hh (by omega) h2
  omega
 ·rw[e1 k (by omega),decide_eq_false_iff_not]
  intro e
  have h4:=Gr (a:=a) (b:=b) (i:=i) (h:=h) (t:=a.length) (j:=k) (k:=J) (q:=b.length) hih hh (by omega) g2
  have h5:=MM (a:=a) (b:=b) (i:=i) (j:=k) (by omega) (by omega)
  have:=f3 k (by omega) (by unfold Q4;simp only[decide_eq_true_eq];omega)
  omega
theorem Zc {a b:List Int} {i h:Nat} (hh:h+i≤a.length):AP (a.drop h) (b.drop (AP a b h)) i+AP a b h=AP a b (h+i):=by
 obtain⟨g1,g2,g3⟩:=Fv (a:=a) (b:=b) (i:=h) (by omega)
 obtain⟨f1,f2,f3⟩:=Fv (a:=a) (b:=b) (i:=h+i) hh
 have hm:=Rc (a:=a) (b:=b) (i:=h) (h:=h+i) (by omega) hh
 generalize hJ:AP a b h=J at *
 generalize hj:AP a b (h+i)=j at *
 have la:h+(a.drop h).length=a.length:=by simp;omega
 have lb:J+(b.drop J).length=b.length:=by simp;omega
 have e0:AB (a.drop h) (b.drop J)=EJ a b h a.length J b.length:=by simp[EJ,fL]
 have e1:∀ k,Q4 (a.drop h) (b.drop J) i k=decide (EJ a b h (h+i) J (J+k)+EJ a b (h+i) a.length (J+k) b.length=EJ a b h a.length J b.length):=fun k=>by
  unfold Q4
  rw[e0]
  unfold EJ
  rw[U8,U8,U8,U8,la,lb,Nat.add_zero,Nat.add_zero]
 unfold Q4 at g1 f1
 simp only[decide_eq_true_eq] at g1 f1
 suffices hw:AP (a.drop h) (b.drop J) i=j-J by omega
 refine TN (by omega) (by omega) ?_ fun k hk=>?_
 ·rw[e1,decide_eq_true_eq,show J+(j-J)=j by omega]
  -- the way through (h+i,j) comes from row h at k
  obtain⟨k,h1,h2,h3⟩:=JC a b (i:=0) (h:=h) (t:=h+i) (j:=0) (q:=j) (by omega) (by omega) (by omega) f2
  have h4:=Gr (a:=a) (b:=b) (i:=h) (h:=h+i) (t:=a.length) (j:=k) (k:=j) (q:=b.length) (by omega) hh h2 f2
  have h5:=MM (a:=a) (b:=b) (i:=h) (j:=k) (by omega) (by omega)
  have hJk:J≤k:=g3 k (by omega) (by unfold Q4;simp only[decide_eq_true_eq];omega)
  obtain⟨k2,i1,i2,i3⟩:=JC a b (i:=h) (h:=h+i) (t:=a.length) (j:=J) (q:=b.length) (by omega) hh g2 (by omega)
  have i4:=Gr (a:=a) (b:=b) (i:=0) (h:=h) (t:=h+i) (j:=0) (k:=J) (q:=k2) (by omega) (by omega) (by omega) i1
  have i5:=MM (a:=a) (b:=b) (i:=h+i) (j:=k2) hh i2
  have hjk2:j≤k2:=f3 k2 (by omega) (by unfold Q4;simp only[decide_eq_true_eq];omega)
  have m:=YS a b h (h+i) (p:=J) (p':=k) (q:=j) (q':=k2) hJk h2 hjk2
  have t1:=Gr (a:=a) (b:=b) (i:=h) (h:=h+i) (t:=a.length) (j:=J) (k:=j) (q:=b.length) (by omega) hh hm f2
  have t2:=Gr (a:=a) (b:=b) (i:=0) (h:=h) (t:=h+i) (j:=0) (k:=k) (q:=k2) (by omega) (by omega) (by omega) (by omega)
  omega
 ·rw[e1,decide_eq_false_iff_not]
  intro e
  have h4:=Gr (a:=a) (b:=b) (i:=0) (h:=h) (t:=h+i) (j:=0) (k:=J) (q:=J+k) (by omega) (by omega) (by omega) (by omega)
  have h5:=MM (a:=a) (b:=b) (i:=h+i) (j:=J+k) hh (by omega)
  have:=f3 (J+k) (by omega) (by unfold Q4;simp only[decide_eq_true_eq];omega)
  omega
structure Sp where
 k:Nat
 n:Nat
 deriving DecidableEq
def Sp.ok (s:Sp):Prop:=s.k≤2∧1≤s.n∧s.n≤1048576
def Sp.may (s:Sp):Prop:=s.k≤2∧s.n≤1048576
def AJ (l:List Sp):List Nat:=l.flatMap fun s=>replicate s.n s.k
@[simp] theorem Ed:AJ []=[]:=rfl
@[simp] theorem Aw (s:Sp) (l:List Sp):AJ (s::l)=replicate s.n s.k++AJ l:=rfl
@[simp] theorem OS (l m:List Sp):AJ (l++m)=AJ l++AJ m:=by simp[AJ]
def fl (k n:Nat):List Sp:=if n=0 then [] else [⟨k,n⟩]
@[simp] theorem AfX (k:Nat):fl k 0=[]:=rfl
theorem Ld {k n:Nat} (h:0<n):fl k n=[⟨k,n⟩]:=by unfold fl;rw[if_neg (by omega)]
@[simp] theorem dn (k n:Nat):AJ (fl k n)=replicate n k:=by
 unfold fl
 split
 ·rename_i h;simp[h]
 ·simp[AJ]
theorem Wp {k n:Nat} (hk:k≤2) (hn:n≤1048576):∀ s,s ∈ fl k n→s.ok:=by
 intro s hs
 unfold fl at hs
 split at hs
 ·simp at hs
 ·simp at hs;subst hs;exact⟨hk,by simp;omega,hn⟩
def Q2:List Nat→Nat→Nat→Nat→List Sp
 |[],k,d,i=>fl 0 k++(fl 1 d++fl 2 i)
 |x::us,k,d,i=>if x=0 then fl 1 d++(fl 2 i++Q2 us (k+1) 0 0) else fl 0 k++(if x=1 then Q2 us 0 (d+1) i else Q2 us 0 d (i+1))
def HK (us:List Nat):List Sp:=Q2 us 0 0 0
theorem V8:∀ (n:Nat) (us:List Nat) (k d i:Nat),0<n→(d=0∧i=0∨k=0)→Q2 (replicate n 0++us) k d i=fl 1 d++(fl 2 i++Q2 us (k+n) 0 0)
 |n+1,us,k,d,i,_,h=>by
  rw[List.replicate_succ,List.cons_append,Q2,if_pos rfl]
  cases n with
  |zero=>simp
  |succ n=>
   rw[V8 (n+1) us (k+1) 0 0 (by omega) (.inl ⟨rfl,rfl⟩)]
   simp
   rw[show k+1+(n+1)=k+(n+1+1) by omega]
theorem Vn:∀ (n:Nat) (us:List Nat) (k d i:Nat),0<n→Q2 (replicate n 1++us) k d i=fl 0 k++Q2 us 0 (d+n) i
 |n+1,us,k,d,i,_=>by
  rw[List.replicate_succ,List.cons_append,Q2,if_neg (by decide),if_pos rfl]
  cases n with
  |zero=>simp
  |succ n=>
   rw[Vn (n+1) us 0 (d+1) i (by omega)]
   simp
   rw[show d+1+(n+1)=d+(n+1+1) by omega]
theorem RM:∀ (n:Nat) (us:List Nat) (k d i:Nat),0<n→Q2 (replicate n 2++us) k d i=fl 0 k++Q2 us 0 d (i+n)
 |n+1,us,k,d,i,_=>by
  rw[List.replicate_succ,List.cons_append,Q2,if_neg (by decide),if_neg (by decide)]
  cases n with
  |zero=>simp
  |succ n=>
   rw[RM (n+1) us 0 d (i+1) (by omega)]
   simp
   rw[show i+1+(n+1)=i+(n+1+1) by omega]
def MV (p q:Nat):List Nat:=if p<q then replicate (q-p-1) 2++[0] else [1]
def Gg (a b:List Int):List Nat:=(List.range a.length).flatMap (fun i=>MV (AP a b i) (AP a b (i+1)))++replicate (b.length-AP a b a.length) 2
theorem SL {α:Type} (f:Nat→List α) (m n:Nat):(List.range (m+n)).flatMap f=(List.range m).flatMap f++(List.range n).flatMap (fun i=>f (m+i)):=by
 rw[List.range_add,List.flatMap_append,List.flatMap_map]
theorem F6 {α:Type} {f g:Nat→List α} {n:Nat} (h:∀ i,i<n→f i=g i):(List.range n).flatMap f=(List.range n).flatMap g:=by
 induction n with
 |zero=>rfl
 |succ n ih=>
  rw[List.range_succ,List.flatMap_append,List.flatMap_append,ih fun i hi=>h i (by omega)]
  simp[h n (by omega)]
theorem nA (p q t:Nat):MV (p+t) (q+t)=MV p q:=by
 unfold MV
 by_cases h:p<q
 ·rw[if_pos h,if_pos (by omega),show q+t-(p+t)-1=q-p-1 by omega]
 ·rw[if_neg h,if_neg (by omega)]
theorem lp (a b:List Int) {h:Nat} (hh:h≤a.length):Gg a b=Gg (a.take h) (b.take (AP a b h))++Gg (a.drop h) (b.drop (AP a b h)):=by
 obtain⟨g1,g2,g3⟩:=Fv (a:=a) (b:=b) hh
 have la:(a.take h).length=h:=by simp;omega
 have lb:(b.take (AP a b h)).length=AP a b h:=by simp;omega
 have ld:(a.drop h).length=a.length-h:=by simp
 have le:(b.drop (AP a b h)).length=b.length-AP a b h:=by simp
 have e1:Gg (a.take h) (b.take (AP a b h))=(List.range h).flatMap fun i=>MV (AP a b i) (AP a b (i+1)):=by
  unfold Gg
  rw[la,lb,Zt (BW _) hh,Nat.sub_self,List.replicate_zero,List.append_nil]
  exact F6 fun i hi=>by rw[Zt (by omega) hh,Zt (by omega) hh]
 have e2:Gg (a.drop h) (b.drop (AP a b h))=(List.range (a.length-h)).flatMap (fun i=>MV (AP a b (h+i)) (AP a b (h+i+1)))++replicate (b.length-AP a b a.length) 2:=by
  unfold Gg
  rw[ld,le]
  have hw:=Zc (a:=a) (b:=b) (h:=h) (i:=a.length-h) (by omega)
  rw[show h+(a.length-h)=a.length by omega] at hw
  congr 1
  ·refine F6 fun i hi=>?_
   have w1:=Zc (a:=a) (b:=b) (h:=h) (i:=i) (by omega)
   have w2:=Zc (a:=a) (b:=b) (h:=h) (i:=i+1) (by omega)
   rw[← nA _ _ (AP a b h),w1,w2]
   rfl
  ·congr 1;omega
 rw[e1,e2,← List.append_assoc]
 unfold Gg
 congr 1
 have:=SL (fun i=>MV (AP a b i) (AP a b (i+1))) h (a.length-h)
 rw[show h+(a.length-h)=a.length by omega] at this
 exact this
theorem oK (b:List Int):Gg [] b=replicate b.length 2:=by
 unfold Gg
 simp[Sq]
theorem kG (a:List Int):Gg a []=replicate a.length 1:=by
 have h:∀ i,i≤a.length→AP a [] i=0:=fun i hi=>by have:=(Fv (a:=a) (b:=[]) hi).2.1;simpa using this
 unfold Gg
 rw[h _ (BW _)]
 simp
 rw[F6 (g:=fun _=>[1]) fun i hi=>by rw[h i (by omega),h (i+1) (by omega)];rfl]
 generalize a.length=n
 induction n with
 |zero=>rfl
 |succ n ih=>rw[List.range_succ,List.flatMap_append,ih,List.replicate_succ'];simp
def FJ (x:Int):List Int→Nat
 |[]=>0
 |y::b=>if x=y then 0 else FJ x b+1
theorem U9 (x:Int):∀ b,FJ x b≤b.length
 |[]=>by simp[FJ]
 |y::b=>by
  have:=U9 x b
  unfold FJ
  split<;>simp<;>omega
theorem ZX (x:Int):∀ {b},(h:FJ x b<b.length)→b[FJ x b]=x
 |[],h=>by simp[FJ] at h
 |y::b,h=>by
  unfold FJ at h
  by_cases e:x=y
  ·simp[FJ,e]
  ·rw[if_neg e] at h
   simp only[FJ,if_neg e,List.getElem_cons_succ]
   exact ZX x (by simpa using h)
theorem Wm (x:Int):∀ {b:List Int} {j:Nat},j≤FJ x b→x ∉ b.take j
 |[],j,h=>by simp
 |y::b,0,h=>by simp
 |y::b,j+1,h=>by
  unfold FJ at h
  by_cases e:x=y
  ·rw[if_pos e] at h;omega
  ·rw[if_neg e] at h
   simp[e,Wm x (b:=b) (j:=j) (by omega)]
theorem jl (x:Int) (b:List Int):AB [x] b=if x ∈ b then 1 else 0:=by
 unfold AB
 cases e:aE x b with
 |none=>simp[dL e]
 |some b'=>
  obtain⟨b0,rfl,_⟩:=OI e
  simp
theorem ja (x:Int) (b:List Int):AP [x] b 1=if FJ x b<b.length then FJ x b+1 else 0:=by
 have on:∀ j,Q4 [x] b 1 j=decide ((if x ∈ b.take j then 1 else 0)=if x ∈ b then 1 else 0):=fun j=>by
  unfold Q4 EJ
  rw[jl]
  simp[Vf,yK,jl,sg]
 have hle:=U9 x b
 by_cases h:FJ x b<b.length
 ·rw[if_pos h]
  have hx:x ∈ b:=by rw[← ZX x h];exact Bq h
  refine TN (by simp) (by omega) ?_ fun j hj=>?_
  ·rw[on,if_pos hx,if_pos ?_]
   ·rfl
   ·rw[Fj h,ZX x h];simp
  ·rw[on,if_pos hx,if_neg (Wm x (by omega))]
   rfl
 ·rw[if_neg h]
  refine TN (by simp) (by omega) ?_ fun j hj=>by omega
  rw[on,if_neg (by simp),if_neg ?_]
  ·rfl
  ·have:=Wm x (b:=b) (j:=b.length) (by omega)
   rwa [AI (BW _)] at this
theorem nT (x:Int) (b:List Int):Gg [x] b=if FJ x b<b.length then replicate (FJ x b) 2++(0::replicate (b.length-FJ x b-1) 2) else 1::replicate b.length 2:=by
 unfold Gg
 have:(List.range [x].length)=[0]:=rfl
 rw[this,show [x].length=1 from rfl,ja]
 simp only[List.flatMap_cons,List.flatMap_nil,List.append_nil,Sq,Nat.zero_add]
 rw[ja]
 split
 ·unfold MV
  rw[if_pos (by omega),show FJ x b+1-0-1=FJ x b by omega,show b.length-(FJ x b+1)=b.length-FJ x b-1 by omega]
  simp
 ·simp[MV]
def Dn (a b:List Int) (i j:Nat):Nat:=i+j-2*AB (a.take i) (b.take j)
theorem Jz (a b:List Int) (i j:Nat):AB (a.take i) (b.take j)≤i∧AB (a.take i) (b.take j)≤j:=by
 have h:=FU (a.take i) (b.take j)
 simp at h
 omega
theorem Wa (a b:List Int) (i j:Nat):i≤j+Dn a b i j∧j≤i+Dn a b i j:=by
 have h:=Jz a b i j
 unfold Dn
 omega
theorem Pp {l:List Int} {i:Nat} (h:l.length≤i):l.take (i+1)=l.take i:=by
 rw[AI (by omega),AI h]
theorem VI {a b:List Int} {i j:Nat} (h:¬ ∃ (h1:i<a.length) (h2:j<b.length),a[i]=b[j]):Dn a b (i+1) (j+1)=Dn a b i (j+1)+1∨Dn a b (i+1) (j+1)=Dn a b (i+1) j+1:=by
 have g1:=Jz a b i (j+1)
 have g2:=Jz a b (i+1) j
 have g3:=Jz a b (i+1) (j+1)
 unfold Dn
 by_cases h1:i<a.length
 ·by_cases h2:j<b.length
  ·have hne:a[i] ≠ b[j]:=fun e=>h ⟨h1,h2,e⟩
   have e:=Ll hne (a.take i) (b.take j)
   rw[← Fj h1,← Fj h2] at e
   omega
  ·rw[Pp (l:=b) (by omega)] at *
   omega
 ·rw[Pp (l:=a) (by omega)] at *
  omega
theorem Qn {a b:List Int} {i j:Nat} (h1:i<a.length) (h2:j<b.length) (h:a[i]=b[j]):Dn a b (i+1) (j+1)=Dn a b i j:=by
 have g:=Jz a b i j
 unfold Dn
 rw[Fj h1,Fj h2,h,Lq]
 omega
theorem jU (a b:List Int) (i j:Nat):Dn a b (i+1) j≤Dn a b i j+1:=by
 have:AB (a.take i) (b.take j)≤AB (a.take (i+1)) (b.take j):=OX (List.take_sublist_take_left (by omega)) (List.Sublist.refl _)
 unfold Dn
 omega
theorem jT (a b:List Int) (i j:Nat):Dn a b i (j+1)≤Dn a b i j+1:=by
 have:AB (a.take i) (b.take j)≤AB (a.take i) (b.take (j+1)):=OX (List.Sublist.refl _) (List.take_sublist_take_left (by omega))
 unfold Dn
 omega
def BN (a b:List Int):Nat:=a.length+b.length-2*AB a b
theorem sB (a b:List Int):Dn a b a.length b.length=BN a b:=by simp[Dn,BN]
theorem sJ {a b:List Int} {i j:Nat} (h1:a.length≤i) (h2:b.length≤j):BN a b≤Dn a b i j:=by
 unfold Dn BN
 rw[AI h1,AI h2]
 omega
structure Qo (a b:List Int) (c d p x:Nat):Prop where
 on:p≤x+c
 may:Dn a b x (x+c-p)≤d
 most:∀ i j,i+c=j+p→Dn a b i j≤d→i≤x
structure ZC (a b:List Int) (c d p x:Nat):Prop where
 on:p≤x+c
 may:Dn a b x (x+c-p)≤d
 most:∀ i j,i+c=j+p→Dn a b i j≤d→i≤x∨∃ i' j',i=i'+1∧j=j'+1∧(∃ (h1:i'<a.length) (h2:j'<b.length),a[i']=b[j'])∧Dn a b i' j'≤d
theorem rC (a b:List Int) (c:Nat):ZC a b c 0 c 0:=by
 refine⟨by omega,by simp[Dn],fun i j h hm=>?_⟩
 have:i=j:=by omega
 subst this
 cases i with
 |zero=>exact .inl (by omega)
 |succ i=>
  right
  refine⟨i,i,rfl,rfl,?_⟩
  by_cases hs:∃ (h1:i<a.length) (h2:i<b.length),a[i]=b[i]
  ·obtain⟨h1,h2,e⟩:=hs
   rw[Qn h1 h2 e] at hm
   exact⟨⟨h1,h2,e⟩,hm⟩
  ·have:=VI hs
   omega
theorem RL {a b:List Int} {c d p x:Nat} (hc:d+1≤c) (hp1:c≤p+(d+1)) (hp2:p≤c+(d+1)) (hp0:1≤p) {y z:Nat} (hy:p+(d+1) ≠ c→Qo a b c d (p-1) y) (hz:p ≠ c+(d+1)→Qo a b c d (p+1) z)
  (hx:(p+(d+1) ≠ c∧x=y+1)∨(p ≠ c+(d+1)∧x=z)) (hxy:p+(d+1) ≠ c→y+1≤x) (hxz:p ≠ c+(d+1)→z≤x):ZC a b c (d+1) p x:=by
 have on:p≤x+c∧Dn a b x (x+c-p)≤d+1:=by
  rcases hx with ⟨h,rfl⟩ | ⟨h,rfl⟩
  ·have g:=hy h
   have g1:=g.on
   have g2:=g.may
   have:=jU a b y (y+c-(p-1))
   refine⟨by omega,?_⟩
   rw[show y+1+c-p=y+c-(p-1) by omega]
   omega
  ·have g:=hz h
   have g1:=g.on
   have g2:=g.may
   have:=jT a b x (x+c-(p+1))
   refine⟨by omega,?_⟩
   rw[show x+c-p=x+c-(p+1)+1 by omega]
   omega
 refine⟨on.1,on.2,fun i j h hm=>?_⟩
 cases i with
 |zero=>exact .inl (by omega)
 |succ i=>
  cases j with
  |zero=>exact .inl (by omega)
  |succ j=>
   by_cases hs:∃ (h1:i<a.length) (h2:j<b.length),a[i]=b[j]
   ·obtain⟨h1,h2,e⟩:=hs
    rw[Qn h1 h2 e] at hm
    exact .inr ⟨i,j,rfl,rfl,⟨h1,h2,e⟩,hm⟩
   ·left
    rcases VI hs with e | e
    ·have hd:=Wa a b i (j+1)
     have hne:p+(d+1) ≠ c:=fun h'=>by omega
     have:=(hy hne).most i (j+1) (by omega) (by omega)
     have:=hxy hne
     omega
    ·have hd:=Wa a b (i+1) j
     have hne:p ≠ c+(d+1):=fun h'=>by omega
     have:=(hz hne).most (i+1) j (by omega) (by omega)
     have:=hxz hne
     omega
theorem yN {a b:List Int} {c d p x:Nat} (h:ZC a b c d p x) {y:Nat} (hy:x+c=y+p) (h1:x<a.length) (h2:y<b.length) (e:a[x]=b[y]):ZC a b c d p (x+1):=by
 have hm:=h.may
 rw[show x+c-p=y by omega] at hm
 refine⟨by omega,?_,fun i j hij hc=>?_⟩
 ·rw[show x+1+c-p=y+1 by omega,Qn h1 h2 e]
  exact hm
 ·rcases h.most i j hij hc with k | k
  ·exact .inl (by omega)
  ·exact .inr k
theorem Vd {a b:List Int} {c d p x:Nat} (h:ZC a b c d p x) {y:Nat} (hy:x+c=y+p) (hs:¬ ∃ (h1:x<a.length) (h2:y<b.length),a[x]=b[y]):Qo a b c d p x:=by
 refine⟨h.on,h.may,fun i=>?_⟩
 induction i with
 |zero=>intro j _ _;omega
 |succ i ih=>
  intro j hij hc
  rcases h.most _ _ hij hc with k | ⟨i',j',e1,e2,k,km⟩
  ·exact k
  ·have e1:i=i':=by omega
   subst e1
   have:=ih j' (by omega) km
   by_cases e:i=x
   ·subst e
    have:j'=y:=by omega
    subst this
    exact absurd k hs
   ·omega
theorem qG {a b:List Int} {c d p x y:Nat} (h:Qo a b c d p x) (hy:x+c=y+p) (h1:a.length≤x) (h2:b.length≤y):BN a b≤d:=by
 have:=h.may
 rw[show x+c-p=y by omega] at this
 have:=sJ (a:=a) (b:=b) h1 h2
 omega
theorem lJ {a b:List Int} {c d p x y:Nat} (h:Qo a b c d p x) (hy:x+c=y+p) (hp:a.length+c=b.length+p) (hd:BN a b≤d):a.length≤x∧b.length≤y:=by
 have:=h.most a.length b.length hp (by rw[sB];exact hd)
 omega
theorem Yg (a b:List Int):a.length≤b.length+BN a b∧b.length≤a.length+BN a b∧(a.length+b.length+BN a b) % 2=0:=by
 have h:=FU a b
 unfold BN
 omega
end Go.PL
namespace Go.Proofs.YtbjmaoedheiigaaGreat
open Go Go.G Go.Proofs Go.PL
def Fu (f:Nat→Int) (n:Nat):List A:=(List.range n).map fun q=>iv (f q)
@[simp] theorem AgG {f:Nat→Int} {n:Nat}:(Fu f n).length=n:=by simp[Fu]
@[simp] theorem Jw {f:Nat→Int} {n k:Nat} (h:k<n):(Fu f n)[k]? = some (iv (f k)):=by simp[Fu,h]
@[simp] theorem Ah2 {f:Nat→Int} {n k:Nat} (h:k<(Fu f n).length):(Fu f n)[k]=iv (f k):=by simp[Fu]
@[simp] theorem Ago {f:Nat→Int} {n k:Nat} {z:Int}:(Fu f n).set k (iv z)=Fu (fun q=>if q=k then z else f q) n:=by
 apply List.ext_getElem?
 intro i
 rw[List.getElem?_set]
 by_cases hi:i<n
 ·rw[Jw hi]
  by_cases e:k=i
  ·subst e;simp[hi,Jw hi]
  ·rw[if_neg e,Jw hi,if_neg (Ne.symm e)]
 ·rw[List.getElem?_eq_none (l:=Fu _ n) (by simp;omega)]
  split
  ·rename_i e;rw[if_neg (by simp;omega),List.getElem?_eq_none (by simp;omega)]
  ·rw[List.getElem?_eq_none (by simp;omega)]
theorem Od {n:Nat}:List.replicate n (iv 0)=Fu (fun _=>0) n:=by
 apply List.ext_getElem?
 intro i
 by_cases hi:i<n
 ·rw[Jw hi];simp[hi]
 ·rw[List.getElem?_eq_none (by simp;omega),List.getElem?_eq_none (by simp;omega)]
theorem HL {f g:Nat→Int} {n:Nat} (h:∀ q,q<n→f q=g q):Fu f n=Fu g n:=by
 unfold Fu
 exact List.map_congr_left fun q hq=>by rw[h q (by simpa using hq)]
theorem dP (l:List Int):l.map iv=Fu (fun q=>l.getD q 0) l.length:=by
 apply List.ext_getElem?
 intro i
 by_cases hi:i<l.length
 ·rw[Jw hi];simp[hi]
 ·rw[List.getElem?_eq_none (by simp;omega),List.getElem?_eq_none (by simp;omega)]
theorem OH {H:Hp} {o:Nm} {u n:Nat} {f:Nat→Int} (h:H o=⟨u,.arr 1 (Fu f n)⟩):Jd H (.osl o u 1 0 n) (.sl false (Fu f n)):=by
 have:=Bb (H:=H) (o:=o) (u:=u) (sz:=1) (l:=List.range n) (f:=fun q=>iv (f q)) (n:=n) (by rw[h];simp[Fu]) (by simp) (fun x=>rfl)
 exact this
theorem OW (l:List Int):A.softL (l.map iv)=l.map iv:=by rw[Cm,List.map_map];rfl
theorem aj (l:List Int) (n:Nat):A.softL ((l.map iv).take n)=(l.map iv).take n:=by rw[← List.map_take,OW]
theorem ay (l:List Int) (n:Nat):A.softL ((l.map iv).drop n)=(l.map iv).drop n:=by rw[← List.map_drop,OW]
theorem gZ {f:Nat→Int} {n k:Nat} {lo hi:Bool} (hk:1≤k) (hk2:k+1<n) (hn:n≤100000000) (hf:∀ q,-1000000000≤f q∧f q≤1000000000):G.Spec Tryz.prog 219 [.sl false (Fu f n),iv k,bv lo,bv hi] (iv (if lo=true∧hi=true then 0 else if lo=true∨(hi=false∧f (k-1)<f (k+1)) then f (k+1) else f (k-1)+1)):=by
 have e1:IntKind.i64.wrap ((k:Int)-1)=((k-1:Nat):Int):=An
 have e2:IntKind.i64.wrap ((k:Int)+1)=((k+1:Nat):Int):=An
 have h1:=hf (k-1)
 have e3:IntKind.i64.wrap (f (k-1)+1)=f (k-1)+1:=Af (by omega) (by omega)
 have g1:(Fu f n)[k-1]? = some (iv (f (k-1))):=Jw (by omega)
 have g2:(Fu f n)[k+1]? = some (iv (f (k+1))):=Jw hk2
 have b1:k-1<n:=by omega
 have b2:(0:Int)≤(k:Int)+1:=by omega
 have b3:(k:Int)+1<n:=by omega
 refine Aj aJ (by simp) fun w0 I0=>?_
 unfold Ue
 cases lo<;>cases hi
 ·by_cases h:f (k-1)<f (k+1)
  ·simp[e1,e2,e3,g1,g2,h,b1,b2,b3,hk2]
   exact Ab rfl
  ·simp[e1,e2,e3,g1,g2,h,b1,b2,b3,hk2]
   exact BS rfl
 ·simp[e1,e2,e3,g1,g2,b1,b2,b3,hk2]
  exact Ab rfl
 ·simp[e1,e2,e3,g1,g2,b1,b2,b3,hk2]
  exact Ab rfl
 ·simp
  exact Ab rfl
variable {n0:Nat} {w0:World} {I0:Nat→Prop} {Q:Exit→Sta→Prop}
theorem wR {a b:List Int} {i u:Nat} {x:Int} (hi:i<a.length) (hx:a[i]=x) (hb:b.length≤1000000):∀ (m j:Nat) (f:Nat→Int) (H:Hp),j+m=b.length→(∀ q,q≤b.length→f q=if q≤j then (AB (a.take (i+1)) (b.take q):Nat) else (AB (a.take i) (b.take q):Nat))→H [0]=⟨u,.arr 1 (Fu f (b.length+1))⟩ →
  (∀ (f':Nat→Int) (z:Int) (H':Hp) (st:List (Nat × A)),(∀ q,q≤b.length→f' q=(AB (a.take (i+1)) (b.take q):Nat))→H' [0]=⟨u,.arr 1 (Fu f' (b.length+1))⟩→Q (.exit 2) ⟨lk ([(1,B5 b),(5,.osl [0] u 1 0 (b.length+1)),(7,iv x),(8,iv z),(16,B5 a),(17,iv a.length),(18,iv i)]++st),H'⟩) →
  LoopC (cx Tryz.prog w0 I0 n0) JS Q ⟨lk [(1,B5 b),(5,.osl [0] u 1 0 (b.length+1)),(7,iv x),(8,iv (AB (a.take i) (b.take j):Nat)),(16,B5 a),(17,iv a.length),(18,iv i),(22,B5 b),(23,iv b.length),(24,iv j)],H⟩:=by
 intro m
 induction m with
 |zero=>
  intro j f H hm hf hH hq
  refine Ad Ah JS.eq_1 ?_
  have:j=b.length:=by omega
  subst this
  simp
  exact hq f _ H [(22,B5 b),(23,iv b.length),(24,iv b.length),(25,bv false)] (fun q hq=>by rw[hf q hq,if_pos hq]) hH
 |succ m ih=>
  intro j f H hm hf hH hq
  have hj:j<b.length:=by omega
  have e1:IntKind.i64.wrap ((j:Int)+1)=((j+1:Nat):Int):=An
  have g1:(Fu f (b.length+1))[j]? = some (iv (f j)):=Jw (by omega)
  have g2:(Fu f (b.length+1))[j+1]? = some (iv (f (j+1))):=Jw (by omega)
  have f1:=hf j (by omega)
  have f2:=hf (j+1) (by omega)
  rw[if_pos (BW _)] at f1
  rw[if_neg (by omega)] at f2
  have m0:(0:Int)≤(j:Int)+1:=by omega
  have m1:(j:Int)<(b.length:Int)+1:=by omega
  have ll:=FU (a.take i) (b.take j)
  simp at ll
  have e2:IntKind.i64.wrap ((AB (a.take i) (b.take j):Nat)+1)=((AB (a.take i) (b.take j)+1:Nat):Int):=An
  have tk:a.take (i+1)=a.take i++[x]:=by rw[Fj hi,hx]
  have tj:b.take (j+1)=b.take j++[b[j]]:=Fj hj
  have next:∀ (z:Int) (f':Nat→Int),z=(AB (a.take (i+1)) (b.take (j+1)):Nat)→(∀ q,q ≠ j+1→f' q=f q)→f' (j+1)=z→LoopC (cx Tryz.prog w0 I0 n0) JS Q ⟨lk [(1,B5 b),(5,.osl [0] u 1 0 (b.length+1)),(7,iv x),(8,iv (AB (a.take i) (b.take (j+1)):Nat)),(16,B5 a),(17,iv a.length),(18,iv i),(22,B5 b),(23,iv b.length),(24,iv (j+1:Nat))],Ay H [0] ⟨u,.arr 1 (Fu f' (b.length+1))⟩⟩:=fun z f' hz h1 h2=>by
   refine ih (j+1) f' _ (by omega) (fun q hq=>?_) (by simp[Aa]) hq
   by_cases e:q=j+1
   ·subst e;rw[if_pos (BW _),h2,hz]
   ·rw[h1 q e,hf q hq]
    by_cases h3:q≤j
    ·rw[if_pos h3,if_pos (by omega)]
    ·rw[if_neg h3,if_neg (by omega)]
  refine Ad Ah JS.eq_1 ?_
  by_cases h:x=b[j]
  ·simp[hj,h,e1,g2,hH,m0,m1]
   rw[QQ.eq_1]
   have hjb:j<b.length+1:=by omega
   simp[hj,h,e1,hjb,hH,m0,m1,Aa,e2]
   rw[f2,← h]
   have e:=Lq x (a.take i) (b.take j)
   have e':=b7 x (a.take i) (b.take j)
   rw[← tk] at e e'
   rw[h,← tj] at e
   refine next _ _ rfl (fun q hq=>by simp[hq]) ?_
   simp
   rw[f1,e]
   omega
  ·simp[hj,h,e1,g2,hH,m0,m1]
   rw[QQ.eq_1]
   have hjb:j<b.length+1:=by omega
   simp[hj,h,e1,hjb,hH,m0,m1]
   rw[f2]
   have e:=Ll h (a.take i) (b.take j)
   rw[← tj,← tk] at e
   refine next _ _ rfl (fun q hq=>by simp[hq]) ?_
   simp
   rw[f1,e]
   omega
theorem yx {a b:List Int} {u:Nat} (ha:a.length≤1000000) (hb:b.length≤1000000) (hq:∀ (f':Nat→Int) (H':Hp) (st:List (Nat × A)),(∀ q,q≤b.length→f' q=(AB a (b.take q):Nat))→H' [0]=⟨u,.arr 1 (Fu f' (b.length+1))⟩→Q (.exit 0) ⟨lk ([(1,B5 b),(5,.osl [0] u 1 0 (b.length+1))]++st),H'⟩):∀ (m i:Nat) (f:Nat→Int) (H:Hp),i+m=a.length→(∀ q,q≤b.length→f q=(AB (a.take i) (b.take q):Nat))→H [0]=⟨u,.arr 1 (Fu f (b.length+1))⟩ →
  LoopC (cx Tryz.prog w0 I0 n0) MR Q ⟨lk [(1,B5 b),(5,.osl [0] u 1 0 (b.length+1)),(16,B5 a),(17,iv a.length),(18,iv i)],H⟩:=by
 intro m
 induction m with
 |zero=>
  intro i f H hm hf hH
  refine Ad Ah MR.eq_1 ?_
  have:i=a.length:=by omega
  subst this
  simp
  exact hq f H [(16,B5 a),(17,iv a.length),(18,iv a.length),(19,bv false)] (fun q hq=>by rw[hf q hq,AI (BW _)]) hH
 |succ m ih=>
  intro i f H hm hf hH
  have hi:i<a.length:=by omega
  have e1:IntKind.i64.wrap ((i:Int)+1)=((i+1:Nat):Int):=An
  refine Ad Ah MR.eq_1 ?_
  simp[hi]
  refine LoopC.le (Ao [(1,B5 b),(5,.osl [0] u 1 0 (b.length+1)),(7,iv a[i]),(8,iv (AB (a.take i) (b.take 0):Nat)),(16,B5 a),(17,iv a.length),(18,iv i),(22,B5 b),(23,iv b.length),(24,iv (0:Nat))] (by simp)) ?_
  refine wR hi rfl hb b.length 0 f H (by omega) (fun q hq=>?_) hH fun f' z H' st h1 h2=>?_
  ·rw[hf q hq]
   by_cases h0:q≤0
   ·have:q=0:=by omega
    subst this;simp
   ·rw[if_neg h0]
  ·simp[e1]
   exact ih (i+1) f' H' (by omega) h1 h2
theorem ln {l:List Int} {u:Nat} (hl:l.length≤1000000) (hq:∀ (f':Nat→Int) (H':Hp) (st:List (Nat × A)),(∀ q,q<l.length→f' q=l.getD (l.length-1-q) 0)→H' [0]=⟨u,.arr 1 (Fu f' l.length)⟩→Q (.exit 0) ⟨lk ([(0,B5 l),(3,.osl [0] u 1 0 l.length)]++st),H'⟩):∀ (m i:Nat) (f:Nat→Int) (H:Hp),i+m=l.length→(∀ q,q<l.length→l.length≤q+i→f q=l.getD (l.length-1-q) 0)→H [0]=⟨u,.arr 1 (Fu f l.length)⟩ →
  LoopC (cx Tryz.prog w0 I0 n0) H8 Q ⟨lk [(0,B5 l),(3,.osl [0] u 1 0 l.length),(9,B5 l),(10,iv l.length),(11,iv i)],H⟩:=by
 intro m
 induction m with
 |zero=>
  intro i f H hm hf hH
  refine Ad Ah H8.eq_1 ?_
  have:i=l.length:=by omega
  subst this
  simp
  exact hq f H [(9,B5 l),(10,iv l.length),(11,iv l.length),(12,bv false)] (fun q hq=>hf q hq (by omega)) hH
 |succ m ih=>
  intro i f H hm hf hH
  have hi:i<l.length:=by omega
  have e1:IntKind.i64.wrap ((i:Int)+1)=((i+1:Nat):Int):=An
  have e2:IntKind.i64.wrap (IntKind.i64.wrap ((l.length:Int)-1)-i)=((l.length-1-i:Nat):Int):=by rw[Af (n:=(l.length:Int)-1) (by omega) (by omega),Af (by omega) (by omega)];omega
  have b1:l.length-1-i<l.length:=by omega
  refine Ad Ah H8.eq_1 ?_
  simp[hi,e1,e2,hH,b1]
  refine ih (i+1) _ _ (by omega) (fun q hq1 hq2=>?_) (by simp[Aa];rfl)
  by_cases e:q=l.length-1-i
  ·rw[if_pos e]
   have:l.length-1-q=i:=by omega
   rw[this]
   simp[List.getD_eq_getElem?_getD,hi]
  ·rw[if_neg e]
   exact hf q hq1 (by omega)
theorem VL {a b:List Int} (ha:a.length≤1000000) (hb:b.length≤1000000):G.Spec Tryz.prog 251 [B5 a,B5 b] (.sl false (Fu (fun q=>(AB a (b.take q):Nat)) (b.length+1))):=by
 have e1:IntKind.i64.wrap ((b.length:Int)+1)=((b.length+1:Nat):Int):=An
 refine Aj kO (by simp) fun w0 I0=>?_
 unfold YH
 simp[e1]
 refine⟨by omega,?_⟩
 refine LoopC.le (Ao [(1,B5 b),(5,.osl [0] 1 1 0 (b.length+1)),(16,B5 a),(17,iv a.length),(18,iv (0:Nat))] (by simp)) ?_
 refine yx ha hb (fun f' H' st h1 h2=>?_) a.length 0 (fun _=>0) _ (by omega) (fun q hq=>by simp) (by simp[Od])
 simp
 rw[← HL fun q hq=>h1 q (by omega)]
 exact OH h2
theorem UI {l:List Int} (hl:l.length≤1000000):G.Spec Tryz.prog 252 [B5 l] (B5 l.reverse):=by
 refine Aj Zy (by simp) fun w0 I0=>?_
 unfold Sn
 simp
 refine⟨by omega,?_⟩
 refine LoopC.le (Ao [(0,B5 l),(3,.osl [0] 1 1 0 l.length),(9,B5 l),(10,iv l.length),(11,iv (0:Nat))] (by simp)) ?_
 refine ln hl (fun f' H' st h1 h2=>?_) l.length 0 (fun _=>0) _ (by omega) (fun q hq=>by omega) (by simp[Od])
 simp
 have e:l.reverse.map iv=Fu f' l.length:=by
  rw[dP,List.length_reverse]
  refine HL fun q hq=>?_
  rw[h1 q hq]
  simp[List.getD_eq_getElem?_getD,List.getElem?_reverse hq]
 have e':B5 l.reverse = .sl false (Fu f' l.length):=by rw[← e]
 rw[e']
 exact OH h2
theorem pZ {n0:Nat} {w0:World} {I0:Nat→Prop} {Q:Exit→Sta→Prop} {a b:List Int} {half:Nat} (hh:half≤a.length) (hb:b.length≤1000000) {H:Hp} {f g:Nat→Int} (hf:∀ q,q≤b.length→f q=(EJ a b 0 half 0 q:Nat)) (hg:∀ q,q≤b.length→g (b.length-q)=(EJ a b half a.length q b.length:Nat))
  (hq:∀ st,Q (.exit 0) ⟨lk ([(1,B5 b),(7,.sl false (Fu f (b.length+1))),(8,.sl false (Fu g (b.length+1))),(9,iv (AP a b half))]++st),H⟩):∀ (m i best:Nat),i+m=b.length+1→best≤b.length→(∀ q,q<best→EJ a b 0 half 0 q+EJ a b half a.length q b.length<EJ a b 0 half 0 best+EJ a b half a.length best b.length)→(∀ q,q<i→EJ a b 0 half 0 q+EJ a b half a.length q b.length≤EJ a b 0 half 0 best+EJ a b half a.length best b.length) →
  LoopC (cx Tryz.prog w0 I0 n0) Jo Q ⟨lk [(1,B5 b),(7,.sl false (Fu f (b.length+1))),(8,.sl false (Fu g (b.length+1))),(9,iv best),(24,iv (b.length+1:Nat)),(25,iv i)],H⟩:=by
 intro m
 induction m with
 |zero=>
  intro i best hm hbl h1 h2
  refine Ad Ah Jo.eq_1 ?_
  have:i=b.length+1:=by omega
  subst this
  have hw:AP a b half=best:=by
   obtain⟨g1,g2,g3⟩:=Fv (a:=a) (b:=b) hh
   have hle:=MM (a:=a) (b:=b) (i:=half) (j:=best) hh hbl
   have h3:=h2 (AP a b half) (by omega)
   unfold Q4 at g1
   simp only[decide_eq_true_eq] at g1
   refine TN hh hbl (by unfold Q4;simp only[decide_eq_true_eq];omega) fun j hj=>?_
   have:=h1 j hj
   unfold Q4
   simp only[decide_eq_false_iff_not]
   omega
  simp
  rw[← hw]
  exact hq [(24,iv (b.length+1:Nat)),(25,iv (b.length+1:Nat)),(26,bv false)]
 |succ m ih=>
  intro i best hm hbl h1 h2
  have hi:i<b.length+1:=by omega
  have e1:IntKind.i64.wrap ((i:Int)+1)=((i+1:Nat):Int):=An
  have e2:IntKind.i64.wrap ((b.length:Int)-i)=((b.length-i:Nat):Int):=An
  have e3:IntKind.i64.wrap ((b.length:Int)-best)=((b.length-best:Nat):Int):=An
  have fi:=hf i (by omega)
  have gi:=hg i (by omega)
  have fb:=hf best hbl
  have gb:=hg best hbl
  have l1:=FU (sg a 0 half) (sg b 0 i)
  have l2:=FU (sg a half a.length) (sg b i b.length)
  have l3:=FU (sg a 0 half) (sg b 0 best)
  have l4:=FU (sg a half a.length) (sg b best b.length)
  rw[Lo _ _ _ hh,Lo _ _ _ (by omega)] at l1
  rw[Lo _ _ _ (by omega),Lo _ _ _ (by omega)] at l2
  rw[Lo _ _ _ hh,Lo _ _ _ hbl] at l3
  rw[Lo _ _ _ (by omega),Lo _ _ _ (by omega)] at l4
  have e4:IntKind.i64.wrap (f i+g (b.length-i))=((EJ a b 0 half 0 i+EJ a b half a.length i b.length:Nat):Int):=by rw[fi,gi,Af (by unfold EJ;omega) (by unfold EJ;omega)];omega
  have e5:IntKind.i64.wrap (f best+g (b.length-best))=((EJ a b 0 half 0 best+EJ a b half a.length best b.length:Nat):Int):=by rw[fb,gb,Af (by unfold EJ;omega) (by unfold EJ;omega)];omega
  have b1:b.length-i<b.length+1:=by omega
  have b2:b.length-best<b.length+1:=by omega
  have b3:best<b.length+1:=by omega
  refine Ad Ah Jo.eq_1 ?_
  have c1:(i:Int)<(b.length:Int)+1:=by omega
  have c2:((b.length-i:Nat):Int)<(b.length:Int)+1:=by omega
  have c3:(best:Int)<(b.length:Int)+1:=by omega
  have c4:((b.length-best:Nat):Int)<(b.length:Int)+1:=by omega
  by_cases h:(EJ a b 0 half 0 best:Int)+(EJ a b half a.length best b.length:Int)<(EJ a b 0 half 0 i:Int)+(EJ a b half a.length i b.length:Int)
  ·simp[hi,e1,e2,e3,e4,e5,b1,b2,b3,h,c1,c2,c3,c4]
   refine ih (i+1) i (by omega) (by omega) (fun q hq=>?_) (fun q hq=>?_)
   ·have:=h2 q hq;omega
   ·by_cases e:q=i
    ·subst e;omega
    ·have:=h2 q (by omega);omega
  ·simp[hi,e1,e2,e3,e4,e5,b1,b2,b3,h,c1,c2,c3,c4]
   refine ih (i+1) best (by omega) hbl h1 (fun q hq=>?_)
   by_cases e:q=i
   ·subst e;omega
   ·exact h2 q (by omega)
theorem gR {a b:List Int} {half:Nat} (hh:half≤a.length) (ha:a.length≤1000000) (hb:b.length≤1000000):G.Spec Tryz.prog 222 [B5 a,B5 b,iv half] (iv (AP a b half)):=by
 refine Aj aU (by simp) fun w0 I0=>?_
 have s1:=VL (a:=a.take half) (b:=b) (by simp;omega) hb
 have s2:=UI (l:=a.drop half) (by simp;omega)
 have s3:=UI (l:=b) hb
 have s4:=VL (a:=(a.drop half).reverse) (b:=b.reverse) (by simp;omega) (by simpa using hb)
 rw[List.length_reverse] at s4
 unfold Uu
 simp[hh]
 refine Ae (s1.soft (by simp[A.softL,A.soft,OW,aj])) (by simp) ?_
 simp[hh]
 refine Ae (s2.soft (by simp[A.softL,A.soft,OW,ay,AI])) (by simp) ?_
 simp[hh]
 refine Ae s3 (by simp) ?_
 simp[hh]
 refine Ae s4 (by simp) ?_
 simp[hh]
 refine LoopC.le (Ao [(1,B5 b),(7,.sl false (Fu (fun q=>(AB (a.take half) (b.take q):Nat)) (b.length+1))),(8,.sl false (Fu (fun q=>(AB (a.drop half).reverse (b.reverse.take q):Nat)) (b.length+1))),(9,iv (0:Nat)),(24,iv (b.length+1:Nat)),(25,iv (0:Nat))] (by simp)) ?_
 refine pZ hh hb (fun q hq=>by simp[EJ,Vf]) (fun q hq=>?_) (fun st=>?_) (b.length+1) 0 0 (by omega) (by omega) (fun q hq=>by omega) (fun q hq=>by omega)
 ·have e:b.reverse.take (b.length-q)=(b.drop q).reverse:=by
   rw[List.take_reverse]
   congr 2
   omega
  show((AB (a.drop half).reverse (b.reverse.take (b.length-q)):Nat):Int)=_
  rw[e,Jy]
  simp[EJ,fL]
 ·simp
  exact Ab rfl
theorem WJ {a b:List Int} {c d p x y:Nat} (h:ZC a b c d p x) (hy:x+c=y+p):x≤d+a.length∧y≤d+b.length:=by
 have h1:=h.may
 rw[show x+c-p=y by omega] at h1
 have h2:=FU (a.take x) (b.take y)
 have h3:=Jz a b x y
 unfold Dn at h1
 simp at h2
 omega
theorem wT {a b:List Int} {M d p t:Nat} {f:Nat→Nat} (hd:d≤M) (ht:t≤d) (hp:p+d=M+1+2*t) (hold:∀ p s,s<d→p+d=M+1+1+2*s→Qo a b (M+1) (d-1) p (f p)):∃ x:Nat,(if decide (t=0)=true∧decide (t=d)=true then (0:Int) else if decide (t=0)=true∨(decide (t=d)=false∧((f (p-1):Nat):Int)<(f (p+1):Nat)) then ((f (p+1):Nat):Int) else ((f (p-1):Nat):Int)+1)=(x:Int)∧ZC a b (M+1) d p x:=by
 cases d with
 |zero=>
  have:t=0:=by omega
  subst this
  have:p=M+1:=by omega
  subst this
  exact⟨0,by simp,rC a b (M+1)⟩
 |succ d=>
  have hy:p+(d+1) ≠ M+1→Qo a b (M+1) d (p-1) (f (p-1)):=fun h=>hold (p-1) (t-1) (by omega) (by omega)
  have hz:p ≠ M+1+(d+1)→Qo a b (M+1) d (p+1) (f (p+1)):=fun h=>hold (p+1) t (by omega) (by omega)
  by_cases h0:t=0
  ·exact⟨f (p+1),by simp[h0],RL (by omega) (by omega) (by omega) (by omega) hy hz (.inr ⟨by omega,rfl⟩) (fun h=>by omega) (fun h=>BW _)⟩
  ·by_cases h1:t=d+1
   ·exact⟨f (p-1)+1,by simp[h1],RL (by omega) (by omega) (by omega) (by omega) hy hz (.inl ⟨by omega,rfl⟩) (fun h=>BW _) (fun h=>by omega)⟩
   ·by_cases h2:f (p-1)<f (p+1)
    ·exact⟨f (p+1),by simp[h0,h1,h2],RL (by omega) (by omega) (by omega) (by omega) hy hz (.inr ⟨by omega,rfl⟩) (fun h=>by omega) (fun h=>BW _)⟩
    ·exact⟨f (p-1)+1,by simp[h0,h1,h2],RL (by omega) (by omega) (by omega) (by omega) hy hz (.inl ⟨by omega,rfl⟩) (fun h=>BW _) (fun h=>by omega)⟩
theorem tG {a b:List Int} (ha:a.length≤1000000) (hb:b.length≤1000000) {c d p:Nat} {X:A} {M k:Int} {H:Hp}
  (hq:∀ (x y:Nat) st,ZC a b c d p x→Qo a b c d p x→x+c=y+p→Q (.exit 4) ⟨lk ([(0,B5 a),(1,B5 b),(2,iv M),(8,iv a.length),(9,iv b.length),(10,X),(11,iv d),(12,iv k),(13,iv x),(14,iv y)]++st),H⟩):∀ (m x y:Nat),a.length≤x+m→ZC a b c d p x→x+c=y+p →
  LoopC (cx Tryz.prog w0 I0 n0) Gq Q ⟨lk [(0,B5 a),(1,B5 b),(2,iv M),(8,iv a.length),(9,iv b.length),(10,X),(11,iv d),(12,iv k),(13,iv x),(14,iv y)],H⟩:=by
 intro m
 induction m with
 |zero=>
  intro x y hm hS hy
  refine Ad Ah Gq.eq_1 ?_
  simp[show ¬ x<a.length by omega]
  exact hq x y [(99,bv false)] hS (Vd hS hy fun ⟨h1,_,_⟩=>by omega) hy
 |succ m ih=>
  intro x y hm hS hy
  refine Ad Ah Gq.eq_1 ?_
  by_cases h1:x<a.length
  ·by_cases h2:y<b.length
   ·have e1:IntKind.i64.wrap ((x:Int)+1)=((x+1:Nat):Int):=An
    have e2:IntKind.i64.wrap ((y:Int)+1)=((y+1:Nat):Int):=An
    by_cases h3:a[x]=b[y]
    ·simp[h1,h2,h3,e1,e2]
     exact ih (x+1) (y+1) (by omega) (yN hS hy h1 h2 h3) (by omega)
    ·simp[h1,h2,h3]
     exact hq x y [(99,bv false)] hS (Vd hS hy fun ⟨_,_,h⟩=>h3 h) hy
   ·simp[h1,h2]
    exact hq x y [(99,bv false)] hS (Vd hS hy fun ⟨_,h,_⟩=>h2 h) hy
  ·simp[h1]
   exact hq x y [(99,bv false)] hS (Vd hS hy fun ⟨h,_,_⟩=>h1 h) hy
theorem tV {a b:List Int} (ha:a.length≤1000000) (hb:b.length≤1000000) {M d u:Nat} (hM:M≤a.length+b.length) (hd:d≤M) (hdd:d≤BN a b)
  (hq:∀ (f:Nat→Nat) (H:Hp) st,(∀ q,f q≤10000000)→(∀ p s,s≤d→p+d=M+1+2*s→Qo a b (M+1) d p (f p))→d<BN a b→H [0]=⟨u,.arr 1 (Fu (fun q=>(f q:Nat)) (2*M+3))⟩→Q (.exit 2) ⟨lk ([(0,B5 a),(1,B5 b),(2,iv M),(8,iv a.length),(9,iv b.length),(10,.osl [0] u 1 0 (2*M+3)),(11,iv d)]++st),H⟩)
  (hq2:∀ H,d=BN a b→Q .ret ⟨lk [(6,iv d),(7,bv true)],H⟩):∀ (m t:Nat) (f:Nat→Nat) (H:Hp),t+m=d+1→(∀ q,f q≤10000000) →
  (∀ p s,s<d→p+d=M+1+1+2*s→Qo a b (M+1) (d-1) p (f p))→(∀ p s,s<t→p+d=M+1+2*s→Qo a b (M+1) d p (f p)∧¬ (a.length≤f p∧b.length+p≤f p+(M+1)))→H [0]=⟨u,.arr 1 (Fu (fun q=>(f q:Nat)) (2*M+3))⟩ →
  LoopC (cx Tryz.prog w0 I0 n0) Gl Q ⟨lk [(0,B5 a),(1,B5 b),(2,iv M),(8,iv a.length),(9,iv b.length),(10,.osl [0] u 1 0 (2*M+3)),(11,iv d),(12,iv (2*(t:Int)-d))],H⟩:=by
 intro m
 induction m with
 |zero=>
  intro t f H hm hb0 hold hnew hH
  have:t=d+1:=by omega
  subst this
  refine Ad Ah Gl.eq_1 ?_
  have hk:¬ (2*((d+1:Nat):Int)-d≤d):=by omega
  simp only[Int.natCast_add,Int.cast_ofNat_Int] at hk
  simp[hk]
  refine hq f H _ hb0 (fun p s hs hp=>(hnew p s (by omega) hp).1) ?_ hH
  by_cases h:d<BN a b
  ·exact h
  ·exfalso
   have hdg:=Yg a b
   have he:BN a b=d:=by omega
   rw[he] at hdg
   obtain⟨p,hp⟩:∃ p,a.length+(M+1)=b.length+p:=⟨a.length+(M+1)-b.length,by omega⟩
   obtain⟨s,hs⟩:∃ s,a.length+d=b.length+2*s:=⟨(a.length+d-b.length) / 2,by omega⟩
   obtain⟨g1,g2⟩:=hnew p s (by omega) (by omega)
   have g3:=g1.on
   have:=lJ (y:=f p+(M+1)-p) g1 (by omega) hp (by omega)
   exact g2 ⟨this.1,by omega⟩
 |succ m ih=>
  intro t f H hm hb0 hold hnew hH
  have ht:t≤d:=by omega
  obtain⟨p,hp⟩:∃ p,p+d=M+1+2*t:=⟨M+1+2*t-d,by omega⟩
  have hk:(2*(t:Int)-d≤d):=by omega
  have e0:IntKind.i64.wrap ((M:Int)+1)=(M:Int)+1:=Af (by omega) (by omega)
  have e1:IntKind.i64.wrap ((M:Int)+1+(2*(t:Int)-d))=(p:Int):=An
  have e2:IntKind.i64.wrap (2*(t:Int)-d+2)=2*((t+1:Nat):Int)-d:=An
  have e3:IntKind.i64.wrap (-(d:Int)) = -(d:Int):=Af (by omega) (by omega)
  have lo:decide (2*(t:Int)-d = -(d:Int))=decide (t=0):=by by_cases h:t=0<;>simp[h]<;>omega
  have hi:decide (2*(t:Int)-d=(d:Int))=decide (t=d):=by by_cases h:t=d<;>simp[h]<;>omega
  have hR:=gZ (f:=fun q=>(f q:Nat)) (n:=2*M+3) (k:=p) (lo:=decide (t=0)) (hi:=decide (t=d)) (by omega) (by omega) (by omega) (fun q=>by have:=hb0 q;omega)
  -- the step's place
  obtain⟨x,hx,hS⟩:=wT hd ht hp hold
  rw[hx] at hR
  have hon:=hS.on
  obtain⟨y,hy⟩:∃ y,x+(M+1)=y+p:=⟨x+(M+1)-p,by omega⟩
  have hbd:=WJ hS hy
  have e4:IntKind.i64.wrap ((x:Int)-(2*(t:Int)-d))=(y:Int):=An
  refine Ad Ah Gl.eq_1 ?_
  simp[hk,e0,e1,e3,lo,hi]
  refine N5 [.sl false (Fu (fun q=>(f q:Nat)) (2*M+3)),iv p,bv (decide (t=0)),bv (decide (t=d))] (hR.toB rfl) (by simp;exact⟨OH hH,Ab rfl,Ab rfl,Ab rfl⟩) (by simp) ?_
  simp[e4]
  refine LoopC.le (Ao [(0,B5 a),(1,B5 b),(2,iv M),(8,iv a.length),(9,iv b.length),(10,.osl [0] u 1 0 (2*M+3)),(11,iv d),(12,iv (2*(t:Int)-d)),(13,iv x),(14,iv y)] (by simp)) ?_
  refine tG ha hb (c:=M+1) (p:=p) (fun x y st hS hG hy=>?_) a.length x y (by omega) hS hy
  have hbd:=WJ hS hy
  have hpl:p<2*M+3:=by omega
  have hpl':(p:Int)<2*(M:Int)+3:=by omega
  by_cases hdone:a.length≤x∧b.length≤y
  ·have he:=qG hG hy hdone.1 hdone.2
   simp[hk,e0,e1,e3,lo,hi,hH,hpl,hpl',hdone.1,hdone.2]
   exact hq2 _ (by omega)
  ·simp[hk,e0,e1,e2,hH,hpl,hpl']
   refine⟨fun h1 h2=>absurd ⟨h1,h2⟩ hdone,fun _=>?_⟩
   refine ih (t+1) (fun q=>if q=p then x else f q) _ (by omega) (fun q=>?_) (fun p' s hs hp'=>?_) (fun p' s hs hp'=>?_) ?_
   ·show(if q=p then x else f q)≤_
    split
    ·omega
    ·exact hb0 q
   ·show Qo a b (M+1) (d-1) p' (if p'=p then x else f p')
    rw[if_neg (by omega)]
    exact hold p' s hs hp'
   ·show Qo a b (M+1) d p' (if p'=p then x else f p')∧¬ (a.length≤(if p'=p then x else f p')∧b.length+p'≤(if p'=p then x else f p')+(M+1))
    by_cases e:s=t
    ·have:p'=p:=by omega
     subst this
     rw[if_pos rfl]
     exact⟨hG,fun h=>hdone ⟨h.1,by omega⟩⟩
    ·rw[if_neg (by omega)]
     exact hnew p' s (by omega) hp'
   ·simp only[Aa,if_true]
    congr 2
    refine HL fun q _=>?_
    split<;>rfl
theorem tS {a b:List Int} (ha:a.length≤1000000) (hb:b.length≤1000000) {M u:Nat} (hM:M≤a.length+b.length)
  (hq:∀ H st,M<BN a b→Q (.exit 0) ⟨lk st,H⟩) (hq2:∀ H,BN a b≤M→Q .ret ⟨lk [(6,iv (BN a b)),(7,bv true)],H⟩):∀ (m d:Nat) (f:Nat→Nat) (H:Hp),d+m=M+1→(∀ q,f q≤10000000)→d≤BN a b →
  (∀ p s,s<d→p+d=M+1+1+2*s→Qo a b (M+1) (d-1) p (f p))→H [0]=⟨u,.arr 1 (Fu (fun q=>(f q:Nat)) (2*M+3))⟩ →
  LoopC (cx Tryz.prog w0 I0 n0) Gs Q ⟨lk [(0,B5 a),(1,B5 b),(2,iv M),(8,iv a.length),(9,iv b.length),(10,.osl [0] u 1 0 (2*M+3)),(11,iv d)],H⟩:=by
 intro m
 induction m with
 |zero=>
  intro d f H hm hb0 hdd hold hH
  have:d=M+1:=by omega
  subst this
  refine Ad Ah Gs.eq_1 ?_
  have hk:¬ (((M+1:Nat):Int)≤M):=by omega
  simp only[Int.natCast_add,Int.cast_ofNat_Int] at hk
  simp[hk]
  exact hq H _ (by omega)
 |succ m ih=>
  intro d f H hm hb0 hdd hold hH
  have e1:IntKind.i64.wrap ((d:Int)+1)=((d+1:Nat):Int):=An
  have e3:IntKind.i64.wrap (-(d:Int)) = -(d:Int):=Af (by omega) (by omega)
  have hd:d≤M:=by omega
  refine Ad Ah Gs.eq_1 ?_
  simp[hd,e3]
  refine LoopC.le (Ao [(0,B5 a),(1,B5 b),(2,iv M),(8,iv a.length),(9,iv b.length),(10,.osl [0] u 1 0 (2*M+3)),(11,iv d),(12,iv (2*((0:Nat):Int)-d))] (by simp)) ?_
  refine tV ha hb hM hd hdd (fun f' H' st g1 g2 g3 g4=>?_) (fun H' he=>?_) (d+1) 0 f H (by omega) hb0 hold (fun p s hs=>by omega) hH
  ·simp[e1]
   refine ih (d+1) f' H' (by omega) g1 (by omega) (fun p s hs hp=>?_) g4
   exact g2 p s (by omega) (by omega)
  ·simp
   have:=hq2 H' (by omega)
   rw[← he] at this
   exact this
theorem j3 {a b:List Int} (ha:a.length≤1000000) (hb:b.length≤1000000) {M0:Int} (hM0:BQ M0):∃ d:Int,G.Spec Tryz.prog 175 [B5 a,B5 b,iv M0] (.tup [iv d,bv (decide ((BN a b:Int)≤M0))]):=by
 refine⟨if (BN a b:Int)≤M0 then BN a b else 0,?_⟩
 refine Aj Vw (by simp) fun w0 I0=>?_
 have hdg:=Yg a b
 have hdl:BN a b≤a.length+b.length:=by unfold BN;omega
 have e1:IntKind.i64.wrap ((a.length:Int)+b.length)=((a.length+b.length:Nat):Int):=An
 have e2:IntKind.i64.wrap ((a.length:Int)-b.length)=(a.length:Int)-b.length:=Af (by omega) (by omega)
 have e3:IntKind.i64.wrap ((b.length:Int)-a.length)=(b.length:Int)-a.length:=Af (by omega) (by omega)
 obtain⟨M1,hM1⟩:∃ M1:Int,min (max M0 (-1)) ((a.length:Int)+b.length)=M1:=⟨_,rfl⟩
 have hle:((BN a b:Int)≤M0) ↔ ((BN a b:Int)≤M1):=by omega
 have hMb:M1≤(a.length:Int)+b.length:=by omega
 unfold Nv
 simp[e1,e2,e3,hM1]
 refine⟨fun h=>?_,fun h1 h2 h3=>?_⟩
 ·have hno:¬ (BN a b:Int)≤M0:=by omega
  simp[hno]
  exact Ab rfl
 ·obtain⟨M,rfl⟩:∃ M:Nat,M1=M:=⟨M1.toNat,by omega⟩
  have e4:IntKind.i64.wrap (2*(M:Int))=2*(M:Int):=Af (by omega) (by omega)
  have e5:IntKind.i64.wrap (2*(M:Int)+3)=((2*M+3:Nat):Int):=An
  have e6:(2*(M:Int)+3).toNat=2*M+3:=by omega
  rw[e4,e5]
  refine⟨by omega,?_⟩
  refine LoopC.le (Ao [(0,B5 a),(1,B5 b),(2,iv M),(8,iv a.length),(9,iv b.length),(10,.osl [0] 1 1 0 (2*M+3)),(11,iv (0:Nat))] (by simp[e6])) ?_
  refine tS ha hb (by omega) (fun H st h=>?_) (fun H h=>?_) (M+1) 0 (fun _=>0) _ (by omega) (fun q=>by omega) (by omega) (fun p s hs=>by omega) (by simp[Od,e6])
  ·have hno:¬ (BN a b:Int)≤M0:=by omega
   simp[hno]
   exact Ab rfl
  ·have hyes:(BN a b:Int)≤M0:=by omega
   simp[hyes]
   exact Ab rfl
def GA (s:Sp):List A:=[iv s.k,iv s.n]
def C0 (s:Sp):A:=.agg (GA s)
@[simp] theorem ze {s:Sp}:(C0 s).cells=GA s:=rfl
@[simp] theorem Agm {s:Sp}:(GA s).length=2:=rfl
theorem jI {l:List Sp}:Dq 2 (l.map C0)=true:=by rw[Hg];simp
def uV (l:List Sp) (v:Nat):Fam:=⟨fun r p=>if p=[] then ⟨1,.cells [.osl (r::[0]) v 2 0 l.length]⟩ else if p=[0] then ⟨v,.arr 2 (l.map C0)⟩ else ⟨0,.none⟩,fun {g δ r r'} hg hd p=>by
  by_cases h1:p=[]
  ·rw[if_pos h1,if_pos h1]
   refine Fam.cells_ren ?_
   simp[A.renL,A.ren,hg,hd]
  ·rw[if_neg h1,if_neg h1]
   by_cases h2:p=[0]
   ·rw[if_pos h2]
    refine Fam.arr_ren ?_
    have e:∀ x:Sp,(C0 x).ren g δ=C0 x:=fun x=>by simp[C0,GA,A.ren,A.renL]
    simp only[CD,List.map_map]
    refine List.map_congr_left fun x _=>?_
    exact e x
   ·rw[if_neg h2];rfl,fun {D r} hD p=>by
  by_cases h1:p=[]
  ·rw[if_pos h1]
   simp[Ob.refs,A.refsL,A.refs,hD]
  ·rw[if_neg h1]
   by_cases h2:p=[0]
   ·rw[if_pos h2]
    simp only[Ob.refs,refsL_iff]
    intro y hy
    obtain⟨x,_,rfl⟩:=List.mem_map.1 hy
    simp[A.refs,A.refsL,C0,GA]
   ·rw[if_neg h2];trivial⟩
@[simp] theorem Ai0 {l:List Sp} {v r:Nat} {p:Nm}:(uV l v).F r p=if p=[] then ⟨1,.cells [.osl (r::[0]) v 2 0 l.length]⟩ else if p=[0] then ⟨v,.arr 2 (l.map C0)⟩ else ⟨0,.none⟩:=rfl
abbrev zc (r:Nat):A:=.pob [r] 1 0
theorem GV (l:List Sp) (v:Nat) (hl:l.length≤100000000) (k n:Nat):A4 Tryz.prog 220 (fun r=>[zc r,iv k,iv n]) (uV l v) (fun _=>.tup []) (uV (l++fl k n) (v+(fl k n).length)):=by
 refine Ax Tn (by simp) (Ag AN (Ag AE (Ag AE Am))) (Bn Am) fun w0 I0 M0 m0=>?_
 unfold LS
 by_cases h:0<n
 ·rw[Ld h]
  simp[h,jI,Aa]
  refine⟨by omega,?_⟩
  refine AQ rfl rfl (fun p=>?_)
  by_cases h1:p=[]<;>by_cases h2:p=[0]<;>simp[h1,h2,Aa,C0,GA]
  rw[AI (by simp)]
 ·have h0:n=0:=by omega
  subst h0
  simp
  refine AQ rfl rfl (fun p=>by simp)
def QN (x:Int) (b:List Int):List Sp:=if FJ x b<b.length then fl 2 (FJ x b)++(fl 0 1++fl 2 (b.length-FJ x b-1)) else fl 1 1++fl 2 b.length
theorem gx (x:Int) (b:List Int):AJ (QN x b)=Gg [x] b:=by
 rw[nT]
 unfold QN
 split<;>simp
theorem Et (k n:Nat):(fl k n).length≤1:=by unfold fl;split<;>simp
theorem oq (x:Int) (b:List Int):(QN x b).length≤3:=by
 unfold QN
 have:=Et 2 (FJ x b)
 have:=Et 0 1
 have:=Et 1 1
 have:=Et 2 (b.length-FJ x b-1)
 have:=Et 2 b.length
 split<;>simp<;>omega
theorem tR {x:Int} {b:List Int} (hb:b.length≤1000000):∀ s,s ∈ QN x b→s.ok:=by
 intro s hs
 have:=U9 x b
 unfold QN at hs
 split at hs<;>simp only[List.mem_append] at hs
 ·rcases hs with hs | hs | hs
  ·exact Wp (by omega) (by omega) s hs
  ·exact Wp (by omega) (by omega) s hs
  ·exact Wp (by omega) (by omega) s hs
 ·rcases hs with hs | hs
  ·exact Wp (by omega) (by omega) s hs
  ·exact Wp (by omega) (by omega) s hs
theorem bN {x:Int}:∀ {b:List Int} {j:Nat},j≤FJ x b→(h:j<b.length)→(b[j]=x ↔ FJ x b=j)
 |[],j,_,h=>by simp at h
 |y::b,0,_,h=>by
  unfold FJ
  by_cases e:x=y
  ·simp[e]
  ·simp[e];exact fun h=>e h.symm
 |y::b,j+1,hj,h=>by
  unfold FJ at hj ⊢
  by_cases e:x=y
  ·rw[if_pos e] at hj;omega
  ·rw[if_neg e] at hj ⊢
   have:=bN (x:=x) (b:=b) (j:=j) (by omega) (by simpa using h)
   simp only[List.getElem_cons_succ]
   omega
section
variable {n0:Nat} {w0:World} {I0:Nat→Prop} {M0:Nm→Nat→Prop} {m0:Mu} {Q:Exit→Sta→Prop}
theorem xS {l:List Sp} {v:Nat} {x:Int} {b:List Int} {H:Hp} (hl:l.length≤10000000) (hb:b.length≤1000000) (hH:∀ p,H (0::p)=(uV l v).F 0 p)
  (hq:FJ x b=b.length→∀ st,Q (.exit 0) ⟨lk ([(0,zc 0),(1,iv x),(2,B5 b)]++st),H⟩)
  (hq2:∀ H',FJ x b<b.length→(∀ p,H' (0::p)=(uV (l++QN x b) (v+(QN x b).length)).F 0 p)→∀ st,Q .ret ⟨lk st,H'⟩):∀ (m j:Nat),j+m=b.length→j≤FJ x b →
  LoopC (EP Tryz.prog w0 I0 M0 n0 m0) EX Q ⟨lk [(0,zc 0),(1,iv x),(2,B5 b),(8,B5 b),(9,iv b.length),(10,iv j)],H⟩:=by
 have hle:=U9 x b
 intro m
 induction m with
 |zero=>
  intro j hm hj
  refine Ad Ah EX.eq_1 ?_
  have:j=b.length:=by omega
  subst this
  simp
  exact hq (by omega) [(8,B5 b),(9,iv b.length),(10,iv b.length),(11,bv false)]
 |succ m ih=>
  intro j hm hj
  have hlt:j<b.length:=by omega
  have e1:IntKind.i64.wrap ((j:Int)+1)=((j+1:Nat):Int):=An
  have hd:=bN hj hlt
  refine Ad Ah EX.eq_1 ?_
  by_cases h:x=b[j]
  ·have hf:=hd.1 h.symm
   have e2:IntKind.i64.wrap (IntKind.i64.wrap ((b.length:Int)-j)-1)=((b.length-j-1:Nat):Int):=by rw[Af (n:=(b.length:Int)-j) (by omega) (by omega),Af (by omega) (by omega)];omega
   have A1:=GV l v (by omega) 2 j
   have l1:=Et 2 j
   have l2:=Et 0 1
   have A2:=GV (l++fl 2 j) (v+(fl 2 j).length) (by simp;omega) 0 1
   have A3:=GV (l++fl 2 j++fl 0 1) (v+(fl 2 j).length+(fl 0 1).length) (by simp;omega) 2 (b.length-j-1)
   simp[hlt,h]
   refine Au 0 A1 hH (by simp) (by simp) ?_
   simp
   refine Au 0 A2 (fun p=>by simp) (by simp) (by simp) ?_
   simp[e2]
   refine Au 0 A3 (fun p=>by simp) (by simp) (by simp) ?_
   simp
   refine hq2 _ (by omega) (fun p=>?_) _
   have eo:QN x b=fl 2 j++(fl 0 1++fl 2 (b.length-j-1)):=by unfold QN;rw[if_pos (by omega),hf]
   rw[eo]
   simp[Nat.add_assoc]
  ·have hne:¬ FJ x b=j:=fun e=>h (hd.2 e).symm
   simp[hlt,h,e1]
   exact ih (j+1) (by omega) (by omega)
end
theorem rI (l:List Sp) (v:Nat) (hl:l.length≤10000000) (x:Int) (b:List Int) (hb:b.length≤1000000):A4 Tryz.prog 221 (fun r=>[zc r,iv x,B5 b]) (uV l v) (fun _=>.tup []) (uV (l++QN x b) (v+(QN x b).length)):=by
 refine Ax TC (by simp) (Ag AN (Ag AE (Ag De Am))) (Bn Am) fun w0 I0 M0 m0=>?_
 unfold L7
 simp
 refine LoopC.le (Ao [(0,zc 0),(1,iv x),(2,B5 b),(8,B5 b),(9,iv b.length),(10,iv (0:Nat))] (by simp)) ?_
 refine xS (l:=l) (v:=v) hl hb (fun p=>by simp) (fun hn st=>?_) (fun H' hf hH st=>?_) b.length 0 (by omega) (by omega)
 ·have A1:=GV l v (by omega) 1 1
  have l1:=Et 1 1
  have A2:=GV (l++fl 1 1) (v+(fl 1 1).length) (by simp;omega) 2 b.length
  simp
  refine Au 0 A1 (fun p=>by simp) (by simp) (by simp) ?_
  simp
  refine Au 0 A2 (fun p=>by simp) (by simp) (by simp) ?_
  simp
  have eo:QN x b=fl 1 1++fl 2 b.length:=by unfold QN;rw[if_neg (by omega)]
  rw[eo]
  refine AQ rfl rfl (fun p=>by simp[Nat.add_assoc])
 ·simp
  exact AH rfl rfl hH
theorem Yd {P:Sp→Prop} {l m:List Sp} (h1:∀ s,s ∈ l→P s) (h2:∀ s,s ∈ m→P s):∀ s,s ∈ l++m→P s:=fun s hs=>(List.mem_append.1 hs).elim (h1 s) (h2 s)
theorem pg:∀ (n:Nat) (a b:List Int),a.length≤n→a.length≤1000000→b.length≤1000000→∃ sts:List Sp,AJ sts=Gg a b∧(∀ s,s ∈ sts→s.ok)∧sts.length≤max 1 (3*a.length) ∧
  ∀ (l:List Sp) (v:Nat),l.length+3*a.length≤9000000→A4 Tryz.prog 176 (fun r=>[zc r,B5 a,B5 b]) (uV l v) (fun _=>.tup []) (uV (l++sts) (v+sts.length)):=by
 intro n
 induction n with
 |zero=>
  intro a b hn ha hb
  have:=List.eq_nil_of_length_eq_zero (by omega:a.length=0)
  subst this
  refine⟨fl 2 b.length,by rw[oK];simp,Wp (by omega) (by omega),by have:=Et 2 b.length;simp;omega,fun l v hl=>?_⟩
  have A1:=GV l v (by simp at hl;omega) 1 0
  have A2:=GV (l++fl 1 0) (v+(fl 1 0).length) (by simp at hl;simp;omega) 2 b.length
  refine Ax Fc (by simp) (Ag AN (Ag De (Ag De Am))) (Bn Am) fun w0 I0 M0 m0=>?_
  unfold DH
  simp
  refine Au 0 A1 (fun p=>by simp) (by simp) (by simp) ?_
  simp
  refine Au 0 A2 (fun p=>by simp) (by simp) (by simp) ?_
  simp
  refine AQ rfl rfl (fun p=>by simp)
 |succ n ih=>
  intro a b hn ha hb
  by_cases hb0:b=[]
  ·subst hb0
   refine⟨fl 1 a.length,by rw[kG];simp,Wp (by omega) (by omega),by have:=Et 1 a.length;omega,fun l v hl=>?_⟩
   have:=Et 1 a.length
   have A1:=GV l v (by omega) 1 a.length
   have A2:=GV (l++fl 1 a.length) (v+(fl 1 a.length).length) (by simp;omega) 2 0
   refine Ax Fc (by simp) (Ag AN (Ag De (Ag De Am))) (Bn Am) fun w0 I0 M0 m0=>?_
   unfold DH
   simp
   refine Au 0 A1 (fun p=>by simp) (by simp) (by simp) ?_
   simp
   refine Au 0 A2 (fun p=>by simp) (by simp) (by simp) ?_
   simp
   refine AQ rfl rfl (fun p=>by simp)
  have hbl:0<b.length:=List.length_pos_iff.2 hb0
  match a,hn,ha with
  |[],hn,ha=>
   obtain⟨sts,h⟩:=ih [] b (by simp) ha hb
   exact⟨sts,h⟩
  |[x],hn,ha=>
   refine⟨QN x b,gx x b,tR hb,by have:=oq x b;simp;omega,fun l v hl=>?_⟩
   have A1:=rI l v (by simp at hl;omega) x b hb
   refine Ax Fc (by simp) (Ag AN (Ag De (Ag De Am))) (Bn Am) fun w0 I0 M0 m0=>?_
   unfold DH
   simp[hb0]
   refine Au 0 A1 (fun p=>by simp) (by simp) (by simp) ?_
   simp
   refine AQ rfl rfl (fun p=>by simp)
  |x::y::a',hn,ha=>
   have e0:∃ a:List Int,a=x::y::a':=⟨_,rfl⟩
   obtain⟨a,ea⟩:=e0
   rw[← ea] at hn ha ⊢
   have hal:2≤a.length:=by rw[ea];simp
   clear ea
   obtain⟨h,eh⟩:∃ h,a.length / 2=h:=⟨_,rfl⟩
   have hh:h≤a.length:=by omega
   obtain⟨w1,w2,w3⟩:=Fv (a:=a) (b:=b) hh
   obtain⟨s1,u1,o1,n1,F1⟩:=ih (a.take h) (b.take (AP a b h)) (by simp;omega) (by simp;omega) (by simp;omega)
   obtain⟨s2,u2,o2,n2,F2⟩:=ih (a.drop h) (b.drop (AP a b h)) (by simp;omega) (by simp;omega) (by simp;omega)
   simp at n1 n2
   refine⟨s1++s2,by rw[OS,u1,u2,← lp a b hh],Yd o1 o2,by simp;omega,fun l v hl=>?_⟩
   have G1:=F1 l v (by simp;omega)
   have G2:=F2 (l++s1) (v+s1.length) (by simp;omega)
   have hS:=gR (a:=a) (b:=b) hh ha hb
   refine Ax Fc (by simp) (Ag AN (Ag De (Ag De Am))) (Bn Am) fun w0 I0 M0 m0=>?_
   have c1:¬ a=[]:=fun e=>by rw[e] at hal;simp at hal
   have c2:¬ a.length=1:=by omega
   have c3:¬ (a.length:Int)=1:=by omega
   have c4:((a.length:Int)).tdiv 2=(h:Int):=by rw[Int.tdiv_eq_ediv_of_nonneg (by omega)];omega
   have c5:IntKind.i64.wrap (h:Int)=(h:Int):=Af (by omega) (by omega)
   unfold DH
   simp[hb0,c1,c2,c3,c4,c5]
   refine Ae hS (by simp) ?_
   simp[hh,w2]
   refine Au 0 G1 (fun p=>by simp) (by simp) (by simp) ?_
   simp[hh,w2]
   refine Au 0 G2 (fun p=>by simp) (by simp[AI]) (by simp) ?_
   simp
   refine AQ rfl rfl (fun p=>by simp[Nat.add_assoc])
def gM (g:Nat→Nat):List A:=[iv (g 0),iv (g 1),iv (g 2)]
def vd (l:List Sp) (v:Nat) (g:Nat→Nat):Fam:=⟨fun r p=>if p=[] then ⟨1,.cells [.osl (r::[0]) v 2 0 l.length]⟩ else if p=[0] then ⟨v,.arr 2 (l.map C0)⟩ else if p=[1] then ⟨1,.cells (gM g)⟩ else ⟨0,.none⟩,fun {γ δ r r'} hg hd p=>by
  by_cases h1:p=[]
  ·rw[if_pos h1,if_pos h1]
   refine Fam.cells_ren ?_
   simp[A.renL,A.ren,hg,hd]
  ·rw[if_neg h1,if_neg h1]
   by_cases h2:p=[0]
   ·rw[if_pos h2]
    refine Fam.arr_ren ?_
    have e:∀ x:Sp,(C0 x).ren γ δ=C0 x:=fun x=>by simp[C0,GA,A.ren,A.renL]
    simp only[CD,List.map_map]
    refine List.map_congr_left fun x _=>?_
    exact e x
   ·rw[if_neg h2]
    by_cases h3:p=[1]
    ·rw[if_pos h3]
     refine Fam.cells_ren ?_
     simp[A.renL,A.ren,gM]
    ·rw[if_neg h3];rfl,fun {D r} hD p=>by
  by_cases h1:p=[]
  ·rw[if_pos h1]
   simp[Ob.refs,A.refsL,A.refs,hD]
  ·rw[if_neg h1]
   by_cases h2:p=[0]
   ·rw[if_pos h2]
    simp only[Ob.refs,refsL_iff]
    intro y hy
    obtain⟨x,_,rfl⟩:=List.mem_map.1 hy
    simp[A.refs,A.refsL,C0,GA]
   ·rw[if_neg h2]
    by_cases h3:p=[1]
    ·rw[if_pos h3]
     simp[Ob.refs,A.refsL,A.refs,gM]
    ·rw[if_neg h3];trivial⟩
@[simp] theorem AiF {l:List Sp} {v r:Nat} {g:Nat→Nat} {p:Nm}:(vd l v g).F r p=if p=[] then ⟨1,.cells [.osl (r::[0]) v 2 0 l.length]⟩ else if p=[0] then ⟨v,.arr 2 (l.map C0)⟩ else if p=[1] then ⟨1,.cells (gM g)⟩ else ⟨0,.none⟩:=rfl
def TX:List Nat→(Nat→Nat)→List Sp
 |[],_=>[]
 |k::ks,g=>fl k (g k)++TX ks (fun q=>if q=k then 0 else g q)
def So:List Nat→(Nat→Nat)→Nat→Nat
 |[],g=>g
 |k::ks,g=>So ks (fun q=>if q=k then 0 else g q)
abbrev nvs (ks:List Nat):A:=.sl true (ks.map fun k:Nat=>iv (k:Int))
theorem fI (s:Sp):G.Spec Tryz.prog 178 [C0 s] (bv (decide (s.k≤2∧1≤s.n∧s.n≤1048576))):=by
 refine Aj O8 (by simp) fun w0 I0=>?_
 unfold IM
 have m0:(0:Int)≤(s.k:Int):=by omega
 by_cases h1:s.k≤2
 ·by_cases h2:1≤s.n
  ·by_cases h3:s.n≤1048576
   ·simp[C0,GA,m0,h1,h2,h3,show(s.k:Int)≤2 by omega,show(1:Int)≤s.n by omega,show(s.n:Int)≤1048576 by omega]
    exact Ab rfl
   ·simp[C0,GA,m0,h1,h2,h3,show(s.k:Int)≤2 by omega,show(1:Int)≤s.n by omega,show ¬ (s.n:Int)≤1048576 by omega]
    exact Ab rfl
  ·simp[C0,GA,m0,h1,h2,show(s.k:Int)≤2 by omega,show ¬ (1:Int)≤s.n by omega]
   exact Bm (by simp)
 ·simp[C0,GA,m0,h1,show ¬ (s.k:Int)≤2 by omega]
  exact Ab rfl
section
variable {n0:Nat} {w0:World} {I0:Nat→Prop} {M0:Nm→Nat→Prop} {m0:Mu} {Q:Exit→Sta→Prop}
theorem qH {ks:List Nat} (hks:∀ k,k ∈ ks→k≤2) (hkl:ks.length≤1000) {l0:List Sp} {v0:Nat} {g0:Nat→Nat} (hq:∀ H' st,(∀ p,H' (0::p)=(vd (l0++TX ks g0) (v0+(TX ks g0).length) (So ks g0)).F 0 p)→Q (.exit 0) ⟨lk st,H'⟩):∀ (m j:Nat) (l:List Sp) (v:Nat) (g:Nat→Nat) (H:Hp),j+m=ks.length→l.length+m≤100000000→(∀ p,H (0::p)=(vd l v g).F 0 p)→l0++TX ks g0=l++TX (ks.drop j) g→v0+(TX ks g0).length=v+(TX (ks.drop j) g).length→So ks g0=So (ks.drop j) g →
  LoopC (EP Tryz.prog w0 I0 M0 n0 m0) Ek Q ⟨lk [(1,.pob [0,1] 1 0),(2,.pob [0] 1 0),(6,nvs ks),(7,iv ks.length),(8,iv j)],H⟩:=by
 intro m
 induction m with
 |zero=>
  intro j l v g H hm hl hH e1 e2 e3
  refine Ad Ah Ek.eq_1 ?_
  have:j=ks.length:=by omega
  subst this
  rw[List.drop_length] at e1 e2 e3
  simp
  refine hq H _ fun p=>?_
  rw[e1,e2,e3,hH]
  simp[TX,So]
 |succ m ih=>
  intro j l v g H hm hl hH e1 e2 e3
  have hlt:j<ks.length:=by omega
  have ew:IntKind.i64.wrap ((j:Int)+1)=((j+1:Nat):Int):=An
  have hd:ks.drop j=ks[j]::ks.drop (j+1):=(List.getElem_cons_drop hlt).symm
  rw[hd] at e1 e2 e3
  have hk:=hks _ (Bq hlt)
  generalize hkk:ks[j]=k at *
  simp only[TX,So] at e1 e2 e3
  have hH0:=hH []
  have hH1:=hH [0]
  have hH2:=hH [1]
  simp at hH0 hH1 hH2
  refine Ad Ah Ek.eq_1 ?_
  have hk3:k=0∨k=1∨k=2:=by omega
  by_cases h:0<g k
  ·rw[Ld h] at e1 e2
   have next:=fun (H':Hp) hF=>ih (j+1) (l++[⟨k,g k⟩]) (v+1) (fun q=>if q=k then 0 else g q) H' (by omega) (by simp;omega) hF (by rw[e1];simp) (by rw[e2];simp;omega) e3
   rcases hk3 with rfl | rfl | rfl
   all_goals
    simp[hlt,hkk,hH0,hH1,hH2,gM,h,ew,Aa,jI]
    refine⟨by omega,?_⟩
    refine next _ (fun p=>?_)
    by_cases h1:p=[]
    ·subst h1;simp[Aa]
    ·by_cases h2:p=[0]
     ·subst h2;simp[Aa,C0,GA,AI]
     ·by_cases h3:p=[1]
      ·subst h3;simp[Aa,gM]
      ·simp[h1,h2,h3,Aa,hH]
  ·have h0:g k=0:=by omega
   rw[h0] at e1 e2
   rcases hk3 with rfl | rfl | rfl
   all_goals
    simp[hlt,hkk,hH0,hH1,hH2,gM,h0,ew,Aa]
    refine ih (j+1) l v _ _ (by omega) (by omega) (fun p=>?_) (by rw[e1];simp) (by rw[e2];simp) e3
    by_cases h1:p=[]
    ·subst h1;simp[Aa,hH0]
    ·by_cases h2:p=[0]
     ·subst h2;simp[Aa,hH1]
     ·by_cases h3:p=[1]
      ·subst h3;simp[Aa,gM]
      ·simp[h1,h2,h3,Aa,hH]
end
theorem MQ {ks:List Nat} (hks:∀ k,k ∈ ks→k≤2) (hkl:ks.length≤1000) (l:List Sp) (v:Nat) (g:Nat→Nat) (hl:l.length≤10000000):A4 Tryz.prog 177 (fun r=>[nvs ks,.pob (r::[1]) 1 0,.pob [r] 1 0]) (vd l v g) (fun _=>.tup []) (vd (l++TX ks g) (v+(TX ks g).length) (So ks g)):=by
 refine Ax RJ (by simp) (Ag De (Ag AN (Ag AN Am))) (Bn Am) fun w0 I0 M0 m0=>?_
 unfold KU
 simp
 refine LoopC.le (Ao [(1,.pob [0,1] 1 0),(2,.pob [0] 1 0),(6,nvs ks),(7,iv ks.length),(8,iv (0:Nat))] (by simp)) ?_
 refine qH hks hkl (l0:=l) (v0:=v) (g0:=g) (fun H' st hH=>?_) ks.length 0 l v g _ (by omega) (by omega) (fun p=>by simp) (by simp) (by simp) (by simp)
 simp
 exact AQ rfl rfl hH
abbrev uW:A:=.fnc 177 [] [.pob [0,1] 1 0,.pob [0] 1 0]
abbrev Nj (l:List Sp):A:=.sl false (l.map C0)
theorem sY (g:Nat→Nat):Q2 [] (g 0) (g 1) (g 2)=TX [0,1,2] g:=by simp[Q2,TX]
theorem Vq (ks:List Nat) (g:Nat→Nat):(TX ks g).length≤ks.length:=by
 induction ks generalizing g with
 |nil=>simp[TX]
 |cons k ks ih=>
  have:=ih (fun q=>if q=k then 0 else g q)
  have:=Et k (g k)
  simp[TX]
  omega
theorem av:∀ (ks:List Nat) (g:Nat→Nat) (B q:Nat),(∀ q,g q≤B)→So ks g q≤B
 |[],g,B,q,h=>h q
 |k::ks,g,B,q,h=>av ks _ B q fun q=>by
  show(if q=k then 0 else g q)≤B
  split
  ·omega
  ·exact h q
theorem uB {n0:Nat} {w0:World} {I0:Nat→Prop} {Q:Exit→Sta→Prop} {all:List Sp} (hok:∀ s,s ∈ all→s.may) (hal:all.length≤1000000) {R:List Sp}
  (hq:∀ (H':Hp) (out:List Sp) (v:Nat) (g:Nat→Nat) st,(∀ p,H' (0::p)=(vd out v g).F 0 p)→out++TX [0,1,2] g=R→out.length≤2000000→Q (.exit 0) ⟨lk ([(3,.pob [0] 1 0),(4,.pob [0,1] 1 0),(5,uW)]++st),H'⟩):∀ (m i:Nat) (out:List Sp) (v:Nat) (g:Nat→Nat) (H:Hp),i+m=all.length→out.length≤2*i→(∀ q,g q≤i*1048576)→(g 0=0∨(g 1=0∧g 2=0))→(∀ p,H (0::p)=(vd out v g).F 0 p)→out++Q2 (AJ (all.drop i)) (g 0) (g 1) (g 2)=R →
  LoopC (cx Tryz.prog w0 I0 n0) Ec Q ⟨lk [(3,.pob [0] 1 0),(4,.pob [0,1] 1 0),(5,uW),(9,Nj all),(10,iv all.length),(11,iv i)],H⟩:=by
 intro m
 induction m with
 |zero=>
  intro i out v g H hm hl hg h01 hH hR
  refine Ad Ah Ec.eq_1 ?_
  have:i=all.length:=by omega
  subst this
  rw[List.drop_length,Ed,sY] at hR
  simp
  exact hq H out v g [(9,Nj all),(10,iv all.length),(11,iv all.length),(12,bv false)] hH hR (by omega)
 |succ m ih=>
  intro i out v g H hm hl hg h01 hH hR
  have hlt:i<all.length:=by omega
  have ew:IntKind.i64.wrap ((i:Int)+1)=((i+1:Nat):Int):=An
  have hd:all.drop i=all[i]::all.drop (i+1):=(List.getElem_cons_drop hlt).symm
  have hs:=hok _ (Bq hlt)
  rw[hd,Aw] at hR
  generalize hss:all[i]=s at *
  have hsr:=fI s
  have hg0:=hg 0
  have hg1:=hg 1
  have hg2:=hg 2
  refine Ad Ah Ec.eq_1 ?_
  have hspC:GA s=[iv s.k,iv s.n]:=rfl
  simp[hlt,hss,hspC]
  refine Ae hsr (by simp[C0,GA,Aa]) ?_
  by_cases hn:1≤s.n
  ·have hdec:decide (s.k≤2∧1≤s.n∧s.n≤1048576)=true:=by have:=hs.1;have:=hs.2;simp;omega
   simp[hdec,Aa]
   have next:∀ (o2:List Sp) (v2:Nat) (g2:Nat→Nat) (H2:Hp),o2.length≤out.length+2→(∀ q,g2 q≤(i+1)*1048576)→(g2 0=0∨(g2 1=0∧g2 2=0))→(∀ p,H2 (0::p)=(vd o2 v2 g2).F 0 p)→o2++Q2 (AJ (all.drop (i+1))) (g2 0) (g2 1) (g2 2)=R→LoopC (cx Tryz.prog w0 I0 n0) Ec Q ⟨lk [(3,.pob [0] 1 0),(4,.pob [0,1] 1 0),(5,uW),(9,Nj all),(10,iv all.length),(11,iv (i+1:Nat))],H2⟩:=fun o2 v2 g2 H2 h1 h2 h3 h4 h5=>ih (i+1) o2 v2 g2 H2 (by omega) (by omega) h2 h3 h4 h5
   have hk3:s.k=0∨s.k=1∨s.k=2:=by have:=hs.1;omega
   rcases hk3 with hk | hk | hk
   ·have F1:=MQ (ks:=[1,2]) (by simp) (by simp) out v g (by omega)
    have hlen:=Vq [1,2] g
    rw[hk,V8 s.n _ _ _ _ (by omega) (by omega)] at hR
    have ev:IntKind.i64.wrap ((g 0:Int)+s.n)=((g 0+s.n:Nat):Int):=by have:=hs.2;rw[Af (by omega) (by omega)];omega
    simp[hk]
    refine U5 0 rfl F1 (fun p=>by simp[Aa,hH]) (by simp) (by simp) ?_
    simp
    rw[FP.eq_1]
    simp[Aa,gM,So,ew,ev,hk]
    refine next (out++TX [1,2] g) (v+(TX [1,2] g).length) (fun q=>if q=0 then g 0+s.n else So [1,2] g q) _ (by simp at hlen;simp;omega) (fun q=>?_) ?_ (fun p=>?_) ?_
    ·have hb:∀ (ks:List Nat) (g:Nat→Nat) (B q:Nat),(∀ q,g q≤B)→So ks g q≤B:=av
     show(if q=0 then g 0+s.n else So [1,2] g q)≤_
     have h3:=hs.2
     split
     ·omega
     ·exact Nat.le_trans (hb _ g _ q hg) (Nat.mul_le_mul_right _ (by omega))
    ·simp[So]
    ·by_cases h1:p=[]
     ·subst h1;simp[Aa]
     ·by_cases h2:p=[0]
      ·subst h2;simp[Aa]
      ·by_cases h3:p=[1]
       ·subst h3;simp[Aa,gM,So]
       ·simp[h1,h2,h3,Aa]
    ·simp only[So,TX] at hR ⊢
     simpa using hR
   ·have F1:=MQ (ks:=[0]) (by simp) (by simp) out v g (by omega)
    have hlen:=Vq [0] g
    rw[hk,Vn s.n _ _ _ _ (by omega)] at hR
    have ev:IntKind.i64.wrap ((g 1:Int)+s.n)=((g 1+s.n:Nat):Int):=by have:=hs.2;rw[Af (by omega) (by omega)];omega
    simp[hk]
    refine U5 0 rfl F1 (fun p=>by simp[Aa,hH]) (by simp) (by simp) ?_
    simp
    rw[FP.eq_1]
    simp[Aa,gM,So,ew,ev,hk]
    refine next (out++TX [0] g) (v+(TX [0] g).length) (fun q=>if q=1 then g 1+s.n else So [0] g q) _ (by simp at hlen;simp;omega) (fun q=>?_) ?_ (fun p=>?_) ?_
    ·have hb:∀ (ks:List Nat) (g:Nat→Nat) (B q:Nat),(∀ q,g q≤B)→So ks g q≤B:=av
     show(if q=1 then g 1+s.n else So [0] g q)≤_
     have h3:=hs.2
     split
     ·omega
     ·exact Nat.le_trans (hb _ g _ q hg) (Nat.mul_le_mul_right _ (by omega))
    ·simp[So]
    ·by_cases h1:p=[]
     ·subst h1;simp[Aa]
     ·by_cases h2:p=[0]
      ·subst h2;simp[Aa]
      ·by_cases h3:p=[1]
       ·subst h3;simp[Aa,gM,So]
       ·simp[h1,h2,h3,Aa]
    ·simp only[So,TX] at hR ⊢
     simpa using hR
   ·have F1:=MQ (ks:=[0]) (by simp) (by simp) out v g (by omega)
    have hlen:=Vq [0] g
    rw[hk,RM s.n _ _ _ _ (by omega)] at hR
    have ev:IntKind.i64.wrap ((g 2:Int)+s.n)=((g 2+s.n:Nat):Int):=by have:=hs.2;rw[Af (by omega) (by omega)];omega
    simp[hk]
    refine U5 0 rfl F1 (fun p=>by simp[Aa,hH]) (by simp) (by simp) ?_
    simp
    rw[FP.eq_1]
    simp[Aa,gM,So,ew,ev,hk]
    refine next (out++TX [0] g) (v+(TX [0] g).length) (fun q=>if q=2 then g 2+s.n else So [0] g q) _ (by simp at hlen;simp;omega) (fun q=>?_) ?_ (fun p=>?_) ?_
    ·have hb:∀ (ks:List Nat) (g:Nat→Nat) (B q:Nat),(∀ q,g q≤B)→So ks g q≤B:=av
     show(if q=2 then g 2+s.n else So [0] g q)≤_
     have h3:=hs.2
     split
     ·omega
     ·exact Nat.le_trans (hb _ g _ q hg) (Nat.mul_le_mul_right _ (by omega))
    ·simp[So]
    ·by_cases h1:p=[]
     ·subst h1;simp[Aa]
     ·by_cases h2:p=[0]
      ·subst h2;simp[Aa]
      ·by_cases h3:p=[1]
       ·subst h3;simp[Aa,gM,So]
       ·simp[h1,h2,h3,Aa]
    ·simp only[So,TX] at hR ⊢
     simpa using hR
  ·have hdec:decide (s.k≤2∧1≤s.n∧s.n≤1048576)=false:=by simp;omega
   have h0:s.n=0:=by omega
   simp[hdec,ew,Aa,Bu]
   refine ih (i+1) out v g _ (by omega) (by omega) (fun q=>Nat.le_trans (hg q) (Nat.mul_le_mul_right _ (by omega))) h01 (fun p=>?_) ?_
   ·simp[Aa,hH]
   ·rw[h0] at hR;simpa using hR
theorem bZ {H:Hp} {o:Nm} {u n:Nat} {l:List Sp} (h:H o=⟨u,.arr 2 (l.map C0)⟩) (hn:n=l.length):eV H (.osl o u 2 0 n) (Nj l):=by
 subst hn
 have:=W9 (H:=H) (o:=o) (u:=u) (off:=0) (len:=l.length) (sz:=2) (xs:=l.map C0) (by simp[h]) (by simp) (by
  simp only[List.drop_zero,List.all_eq_true]
  intro x hx
  obtain⟨s,_,rfl⟩:=List.mem_map.1 (O5 hx)
  rfl)
 rw[List.drop_zero,AI (by simp)] at this
 exact this
theorem VX {all:List Sp} (hok:∀ s,s ∈ all→s.may) (hal:all.length≤1000000):SpecB Tryz.prog 120 [Nj all] (Nj (HK (AJ all))):=by
 refine NT UZ (by simp) fun w0 I0=>?_
 unfold Nf
 simp
 refine LoopC.le (Bd (d:=[0]) (u:=1) (cs:=[.sl true []]) 0 [0,0] 2 rfl rfl (by simp)) ?_
 refine LoopC.le (Ao [(3,.pob [0] 1 0),(4,.pob [0,1] 1 0),(5,uW),(9,Nj all),(10,iv all.length),(11,iv (0:Nat))] (by simp)) ?_
 refine uB hok hal (R:=HK (AJ all)) (fun H' out v g st hH hR hl=>?_) all.length 0 [] 1 (fun _=>0) _ (by omega) (by simp) (fun q=>by omega) (.inl rfl) (fun p=>?_) (by simp[HK])
 ·have F1:=MQ (ks:=[0,1,2]) (by simp) (by simp) out v g (by omega)
  have hlen:=Vq [0,1,2] g
  simp
  refine U5 0 rfl F1 hH (by simp) (by simp) ?_
  simp
  rw[← hR]
  exact bZ (by simp) (by simp)
 ·by_cases h1:p=[]
  ·subst h1;simp[Aa]
  ·by_cases h2:p=[0]
   ·subst h2;simp[Aa]
   ·by_cases h3:p=[1]
    ·subst h3;simp[Aa,gM]
    ·simp[h1,h2,h3,Ne.symm h1,Ne.symm h2,Ne.symm h3,Aa]
theorem X9 {all:List Sp} (hok:∀ s,s ∈ all→s.may) (hal:all.length≤1000000):G.Spec Tryz.prog 120 [Nj all] (Nj (HK (AJ all))):=(VX hok hal).spec
theorem xF {s:Sp} (h:s.ok):s.may:=⟨h.1,h.2.2⟩
theorem W7 {a b:List Int} (ha:a.length≤300000) (hb:b.length≤1000000) {M0:Int} (hM0:BQ M0):G.Spec Tryz.prog 119 [B5 a,B5 b,iv M0] (if (BN a b:Int)≤M0 then .tup [Nj (HK (Gg a b)),bv true] else .tup [.sl false [],bv false]):=by
 obtain⟨d,hD⟩:=j3 (a:=a) (b:=b) (by omega) hb hM0
 obtain⟨sts,h1,h2,h3,h4⟩:=pg a.length a b (BW _) (by omega) hb
 have hN:=VX (all:=sts) (fun s hs=>xF (h2 s hs)) (by omega)
 rw[h1] at hN
 refine Aj eg (by simp) fun w0 I0=>?_
 unfold WH
 simp
 refine Ae hD (by simp) ?_
 by_cases h:(BN a b:Int)≤M0
 ·have hF:=h4 [] 1 (by simp;omega)
  simp[h]
  refine CJ (Bd (d:=[0]) (u:=1) (cs:=[.sl true []]) 0 [0,0] 2 rfl rfl (by simp)) (Ep ?_)
  simp
  refine Au 0 hF (fun p=>?_) (by simp) (by simp) ?_
  ·by_cases h1:p=[]
   ·subst h1;simp[Aa]
   ·by_cases h2:p=[0]
    ·subst h2;simp[Aa]
    ·simp[h1,h2,Ne.symm h1,Ne.symm h2,Aa]
  ·simp
   refine N5 [Nj sts] hN (by simp;exact Bb (l:=sts) (f:=C0) (by simp) rfl (fun x=>rfl)) (by simp) ?_
   simp
   exact Ab rfl
 ·simp[h]
  exact G4 (by simp;exact⟨Al,Ab rfl⟩)
theorem xD {l:List Sp}:∀ x,x ∈ l.map C0→Ez (fun _=>x):=fun x hx=>by
 obtain⟨s,_,rfl⟩:=List.mem_map.1 hx
 exact EN (cs:=GA s) rfl fun y hy=>by
  simp[GA] at hy
  rcases hy with rfl | rfl<;>rfl
theorem jg (s:Sp):Ez (fun _=>C0 s):=EN (cs:=GA s) rfl fun y hy=>by
 simp[GA] at hy
 rcases hy with rfl | rfl<;>rfl
abbrev pG (u:Nat) (l:List Sp):Fam:=qU u 2 (l.map C0) xD
theorem ZZ (s:Sp):G.Spec Tryz.prog 248 [C0 s] (bv (decide (s.k≤2∧1≤s.n∧s.n≤1048576))):=by
 refine Aj Qr (by simp) fun w0 I0=>?_
 unfold JO
 have m0:(0:Int)≤(s.k:Int):=by omega
 by_cases h1:s.k≤2
 ·by_cases h2:1≤s.n
  ·by_cases h3:s.n≤1048576
   ·simp[C0,GA,m0,h1,h2,h3,show(s.k:Int)≤2 by omega,show(1:Int)≤s.n by omega,show(s.n:Int)≤1048576 by omega]
    exact Ab rfl
   ·simp[C0,GA,m0,h1,h2,h3,show(s.k:Int)≤2 by omega,show(1:Int)≤s.n by omega,show ¬ (s.n:Int)≤1048576 by omega]
    exact Ab rfl
  ·simp[C0,GA,m0,h1,h2,show(s.k:Int)≤2 by omega,show ¬ (1:Int)≤s.n by omega]
   exact Bm (by simp)
 ·simp[C0,GA,m0,h1,show ¬ (s.k:Int)≤2 by omega]
  exact Ab rfl
theorem iW (l:List Sp) (x:A):(l.map C0++[x])[l.length]? = some x:=by rw[List.getElem?_append_right (by simp)];simp
theorem YM (l:List Sp) (x:A):List.take (l.length+1) (l.map C0++[x])=l.map C0++[x]:=AI (by simp)
theorem Mh (l:List Sp) (v:Nat) (hl:l.length≤1000000) (k n:Nat) (h:n=0∨l=[]∨∃ l0 s,l=l0++[s]∧s.k ≠ k):A4 Tryz.prog 249 (fun r=>[.osl [r] v 2 0 l.length,C0 ⟨k,n⟩]) (pG v l) (fun r=>.osl [r] (v+(fl k n).length) 2 0 (l++fl k n).length) (pG (v+(fl k n).length) (l++fl k n)):=by
 refine Ax LQ (by simp) (Ag B8 (Ag (jg _) Am)) B8 fun w0 I0 M0 m0=>?_
 unfold HD
 by_cases h0:n=0
 ·subst h0
  simp[C0,GA]
  exact AH rfl rfl (fun p=>by simp)
 ·rw[Ld (by omega)]
  rcases h with h | h | ⟨l0,s,h,hne⟩
  ·exact absurd h h0
  ·subst h
   simp[C0,GA,h0,Aa]
   refine AH rfl rfl (fun p=>?_)
   by_cases h1:p=[]
   ·subst h1;simp[Aa,C0,GA]
   ·simp[h1,Aa]
  ·subst h
   have e1:IntKind.i64.wrap (l0.length:Int)=(l0.length:Int):=by simp at hl;rw[Af (by omega) (by omega)]
   have hne':¬ (s.k:Int)=k:=by omega
   simp at hl
   simp[C0,GA,h0,Aa,e1,hne',iW,YM]
   refine⟨by omega,by omega,?_⟩
   refine AH rfl rfl (fun p=>?_)
   by_cases h1:p=[]
   ·subst h1;simp[Aa,C0,GA]
   ·simp[h1,Aa]
theorem lz (l0:List Sp) (v:Nat) (hl:l0.length≤1000000) (k m n:Nat) (hn:0<n) (hm:m+n≤100000000000000):bE Tryz.prog 249 (fun r=>[.osl [r] v 2 0 (l0++[(⟨k,m⟩:Sp)]).length,C0 ⟨k,n⟩]) (pG v (l0++[(⟨k,m⟩:Sp)])) (fun r q=>.osl [q] 1 2 0 (l0++[(⟨k,m+n⟩:Sp)]).length) (pG v (l0++[(⟨k,m⟩:Sp)])) (pG 1 (l0++[(⟨k,m+n⟩:Sp)])):=by
 refine W0 LQ (by simp) (Ag B8 (Ag (jg _) Am)) (RG B8) ?_ fun w0 I0 M0 m0=>?_
 ·intro p
  by_cases h1:p=[]
  ·subst h1;simp
  ·simp[h1]
 ·unfold HD
  have h0:¬ n=0:=by omega
  have e1:IntKind.i64.wrap (l0.length:Int)=(l0.length:Int):=by rw[Af (by omega) (by omega)]
  have e2:IntKind.i64.wrap ((m:Int)+n)=((m+n:Nat):Int):=An
  simp[C0,GA,h0,Aa,e1,e2,iW,YM]
  refine⟨by omega,by omega,by omega,rfl,?_⟩
  refine JA rfl rfl (fun p=>?_) (fun p=>?_)
  ·simp
  ·by_cases h1:p=[]
   ·subst h1;simp[Aa,C0,GA,A.remake]
   ·simp[h1,Ne.symm h1,Aa]
def Qc (l:List Sp) (k:Nat):Prop:=l=[]∨∃ l0 s,l=l0++[s]∧s.k ≠ k
theorem ER {l:List Sp} {a n k:Nat} (hn:0<n) (h:a ≠ k):Qc (l++fl a n) k:=by
 rw[Ld hn]
 exact .inr ⟨l,⟨a,n⟩,rfl,h⟩
theorem Cz {l:List Sp} {a k:Nat} (h:Qc l k):Qc (l++fl a 0) k:=by simpa using h
structure Acm (o:List Sp) (k d i:Nat):Prop where
 kd:0<k→d=0∧i=0
 st:k=0→d=0→i=0→o=[]
 l0:0<k→Qc o 0
 l1:k=0→Qc o 1
 l2:k=0→Qc o 2
def rN (n:Nat):Nat:=n*1048576
theorem nw (n:Nat):rN (n+1)=rN n+1048576:=by unfold rN;omega
theorem yY {n:Nat} (h:n≤100000):rN n≤104857600000:=Nat.le_trans (Nat.mul_le_mul_right _ h) (by decide)
theorem od {all:List Sp} (hok:∀ s,s ∈ all→s.may) (hal:all.length≤100000) {R:List Sp}
  (hq:∀ (H':Hp) (ρ v:Nat) st,H' [ρ]=⟨v,.arr 2 (R.map C0)⟩→Q (.exit 0) ⟨lk ([(0,Nj all),(3,.osl [ρ] v 2 0 R.length)]++st),H'⟩):∀ (m idx:Nat) (o:List Sp) (k d i ρ v:Nat) (H:Hp),idx+m=all.length→o.length≤3*idx→k≤rN idx→d≤rN idx→i≤rN idx→Acm o k d i→(∀ p,H (ρ::p)=(pG v (o++fl 0 k)).F ρ p)→(∀ q p,ρ<q→H (q::p)=⟨0,.none⟩)→o++Q2 (AJ (all.drop idx)) k d i=R →
  LoopC (cx Tryz.prog w0 I0 n0) Cy Q ⟨lk [(0,Nj all),(3,.osl [ρ] v 2 0 (o++fl 0 k).length),(4,iv d),(5,iv i),(6,iv idx)],H⟩:=by
 intro m
 induction m with
 |zero=>
  intro idx o k d i ρ v H hm hol hk hd hi hW hH hf hR
  have:idx=all.length:=by omega
  subst this
  have ew:IntKind.i64.wrap ((all.length:Int)+1)=((all.length+1:Nat):Int):=An
  rw[List.drop_length,Ed,Q2] at hR
  have f0:=Et 0 k
  have f1:=Et 1 d
  have P1:=Mh (o++fl 0 k) v (by simp;omega) 1 d (by
   by_cases h:0<k
   ·exact .inl (hW.kd h).1
   ·have:k=0:=by omega
    subst this
    rcases hW.l1 rfl with h | h
    ·exact .inr (.inl (by simp[h]))
    ·exact .inr (.inr (by simpa using h)))
  have P2:=Mh (o++fl 0 k++fl 1 d) (v+(fl 1 d).length) (by simp;omega) 2 i (by
   by_cases h:0<k
   ·exact .inl (hW.kd h).2
   ·have:k=0:=by omega
    subst this
    right
    by_cases hd0:0<d
    ·exact ER hd0 (by decide)
    ·have:d=0:=by omega
     subst this
     exact Cz (Cz (hW.l2 rfl)))
  have hle:¬ ((all.length:Int)+1≤all.length):=by omega
  refine Ad Ah Cy.eq_1 ?_
  simp
  refine A8 rfl ?_
  simp
  refine Au ρ P1 hH (by simp[C0,GA]) (by simp) ?_
  simp
  refine Au ρ P2 (fun p=>by simp) (by simp[C0,GA]) (by simp) ?_
  simp[ew]
  refine Ad Ah Cy.eq_1 ?_
  simp[hle]
  have hl:R.length=o.length+((fl 0 k).length+((fl 1 d).length+(fl 2 i).length)):=by rw[← hR];simp
  have:=hq (ov ρ ((pG (v+(fl 1 d).length+(fl 2 i).length) R).F ρ) H) ρ (v+(fl 1 d).length+(fl 2 i).length) [(4,iv 0),(5,iv 0),(6,iv ((all.length:Int)+1)),(10,bv false)] (by simp)
  rw[hl] at this
  rw[hR]
  exact this
 |succ m ih=>
  intro idx o k d i ρ v H hm hol hk hd hi hW hH hf hR
  have hlt:idx<all.length:=by omega
  have ew:IntKind.i64.wrap ((idx:Int)+1)=((idx+1:Nat):Int):=An
  have hdr:all.drop idx=all[idx]::all.drop (idx+1):=(List.getElem_cons_drop hlt).symm
  have hs:=hok _ (Bq hlt)
  have hmul:=nw idx
  have hmul2:=yY (n:=idx) (by omega)
  rw[hdr,Aw] at hR
  generalize hss:all[idx]=s at *
  have hsr:=ZZ s
  have hle:idx≤all.length:=by omega
  refine Ad Ah Cy.eq_1 ?_
  have hspA:C0 s = .agg [iv s.k,iv s.n]:=rfl
  have hspC:GA s=[iv s.k,iv s.n]:=rfl
  simp[hlt,hss,hle]
  by_cases hn:1≤s.n
  ·have hdec:decide (s.k≤2∧1≤s.n∧s.n≤1048576)=true:=by have:=hs.1;have:=hs.2;simp;omega
   rw[hdec] at hsr
   refine Em rfl (fun _=>hsr) (fun _=>by simp[hspA,hspC]) (by simp[C0,GA]) ?_
   have h1:=hs.1
   have h2:=hs.2
   rcases (by omega:s.k=0∨s.k=1∨s.k=2) with h0 | h0 | h0
   ·rw[h0,V8 s.n _ _ _ _ (by omega) (by
     by_cases h:0<k
     ·exact .inl (hW.kd h)
     ·exact .inr (by omega))] at hR
    have f0:=Et 0 k
    have f1:=Et 1 d
    have f2:=Et 2 i
    have P1:=Mh (o++fl 0 k) v (by simp;omega) 1 d (by
     by_cases h:0<k
     ·exact .inl (hW.kd h).1
     ·have:k=0:=by omega
      subst this
      exact .inr (Cz (hW.l1 rfl)))
    have P2:=Mh (o++fl 0 k++fl 1 d) (v+(fl 1 d).length) (by simp;omega) 2 i (by
     by_cases h:0<k
     ·exact .inl (hW.kd h).2
     ·have:k=0:=by omega
      subst this
      right
      by_cases hd0:0<d
      ·exact ER hd0 (by decide)
      ·have:d=0:=by omega
       subst this
       exact Cz (Cz (hW.l2 rfl)))
    simp[hlt,hss,hle,hspA,h0]
    refine Au ρ P1 hH (by simp[C0,GA]) (by simp) ?_
    simp
    refine Au ρ P2 (fun p=>by simp) (by simp[C0,GA]) (by simp) ?_
    simp[hlt,hss,hspA,hspC,h0]
    by_cases hk0:0<k
    ·obtain⟨d0,i0⟩:=hW.kd hk0
     subst d0 i0
     have P3:=lz o v (by omega) 0 k s.n (by omega) (by omega)
     simp[Ld hk0]
     refine Sx ρ (ρ+1) (by omega) P3 (fun p=>by simp) (fun p=>?_) (by simp[C0,GA]) (by simp) ?_
     ·simp[hf]
     ·simp[ew]
      have:=ih (idx+1) o (k+s.n) 0 0 (ρ+1) 1 (ov ρ ((pG v (o++[(⟨0,k⟩:Sp)])).F ρ) (ov (ρ+1) ((pG 1 (o++[(⟨0,k+s.n⟩:Sp)])).F (ρ+1)) (ov ρ ((pG v (o++[(⟨0,k⟩:Sp)])).F ρ) H))) (by omega) (by omega) (by omega) (by omega) (by omega) ⟨fun _=>⟨rfl,rfl⟩,fun h=>by omega,fun _=>hW.l0 hk0,fun h=>by omega,fun h=>by omega⟩ (fun p=>by rw[Ld (by omega)];simp) (fun q p hq=>by simp[show ¬ q=ρ+1 by omega,show ¬ q=ρ by omega,hf q p (by omega)]) (by simpa using hR)
      rw[Ld (by omega)] at this
      simpa using this
    ·have k0:k=0:=by omega
     subst k0
     have P3:=Mh (o++fl 1 d++fl 2 i) (v+(fl 1 d).length+(fl 2 i).length) (by simp;omega) 0 s.n (by
      right
      by_cases hi0:0<i
      ·exact ER hi0 (by decide)
      ·have:i=0:=by omega
       subst this
       by_cases hd0:0<d
       ·exact Cz (ER hd0 (by decide))
       ·have:d=0:=by omega
        subst this
        exact .inl (by simp[hW.st rfl rfl rfl]))
     simp
     refine Au ρ P3 (fun p=>by simp) (by simp[C0,GA]) (by simp) ?_
     simp[ew]
     have hl0:Qc (o++fl 1 d++fl 2 i) 0:=by
      by_cases hi0:0<i
      ·exact ER hi0 (by decide)
      ·have:i=0:=by omega
       subst this
       by_cases hd0:0<d
       ·exact Cz (ER hd0 (by decide))
       ·have:d=0:=by omega
        subst this
        exact .inl (by simp[hW.st rfl rfl rfl])
     have:=ih (idx+1) (o++fl 1 d++fl 2 i) (0+s.n) 0 0 ρ (v+(fl 1 d).length+(fl 2 i).length+(fl 0 s.n).length) (ov ρ ((pG (v+(fl 1 d).length+(fl 2 i).length+(fl 0 s.n).length) (o++fl 1 d++fl 2 i++fl 0 s.n)).F ρ) H) (by omega) (by simp;omega) (by omega) (by omega) (by omega) ⟨fun _=>⟨rfl,rfl⟩,fun h=>by omega,fun _=>hl0,fun h=>by omega,fun h=>by omega⟩ (fun p=>by simp) (fun q p hq=>by simp[show ¬ q=ρ by omega,hf q p (by omega)]) (by simpa using hR)
     simpa using this
   ·rw[h0,Vn s.n _ _ _ _ (by omega)] at hR
    have ev:IntKind.i64.wrap ((d:Int)+s.n)=((d+s.n:Nat):Int):=An
    simp[hlt,hss,hle,hspA,h0,ev,ew,Bu]
    have:=ih (idx+1) (o++fl 0 k) 0 (d+s.n) i ρ v H (by omega) (by have:=Et 0 k;simp;omega) (by omega) (by omega) (by omega) ⟨fun h=>by omega,fun _ h=>by omega,fun h=>by omega,fun _=>?_,fun _=>?_⟩ (by simpa using hH) hf (by simpa using hR)
    ·simpa using this
    ·by_cases hk0:0<k
     ·exact ER hk0 (by decide)
     ·have:k=0:=by omega
      subst this
      exact Cz (hW.l1 rfl)
    ·by_cases hk0:0<k
     ·exact ER hk0 (by decide)
     ·have:k=0:=by omega
      subst this
      exact Cz (hW.l2 rfl)
   ·rw[h0,RM s.n _ _ _ _ (by omega)] at hR
    have ev:IntKind.i64.wrap ((i:Int)+s.n)=((i+s.n:Nat):Int):=An
    simp[hlt,hss,hle,hspA,h0,ev,ew,Bu]
    have:=ih (idx+1) (o++fl 0 k) 0 d (i+s.n) ρ v H (by omega) (by have:=Et 0 k;simp;omega) (by omega) (by omega) (by omega) ⟨fun h=>by omega,fun _ _ h=>by omega,fun h=>by omega,fun _=>?_,fun _=>?_⟩ (by simpa using hH) hf (by simpa using hR)
    ·simpa using this
    ·by_cases hk0:0<k
     ·exact ER hk0 (by decide)
     ·have:k=0:=by omega
      subst this
      exact Cz (hW.l1 rfl)
    ·by_cases hk0:0<k
     ·exact ER hk0 (by decide)
     ·have:k=0:=by omega
      subst this
      exact Cz (hW.l2 rfl)
  ·have hdec:decide (s.k≤2∧1≤s.n∧s.n≤1048576)=false:=by simp;omega
   rw[hdec] at hsr
   refine Em rfl (fun _=>hsr) (fun _=>by simp[hspA,hspC]) (by simp[C0,GA]) ?_
   have h0:s.n=0:=by omega
   simp[ew,Bu]
   have:=ih (idx+1) o k d i ρ v H (by omega) (by omega) (by omega) (by omega) (by omega) hW hH hf (by rw[h0] at hR;simpa using hR)
   simpa using this
theorem dS {all:List Sp} (hok:∀ s,s ∈ all→s.may) (hal:all.length≤100000):SpecB Tryz.prog 214 [Nj all] (Nj (HK (AJ all))):=by
 refine NT O9 (by simp) fun w0 I0=>?_
 unfold I3
 simp
 refine LoopC.le (BX 3 [0] 2 (by simp)) ?_
 refine LoopC.le (Ao [(0,Nj all),(3,.osl [0] 1 2 0 (([]:List Sp)++fl 0 0).length),(4,iv (0:Nat)),(5,iv (0:Nat)),(6,iv (0:Nat))] (by simp)) ?_
 refine od hok hal (R:=HK (AJ all)) (fun H' ρ v st hH=>?_) all.length 0 [] 0 0 0 0 1 _ (by omega) (by simp) (by simp[rN]) (by simp[rN]) (by simp[rN]) ⟨fun h=>by omega,fun _ _ _=>rfl,fun h=>by omega,fun _=>.inl rfl,fun _=>.inl rfl⟩ (fun p=>?_) (fun q p hq=>?_) (by simp[HK])
 ·simp
  exact bZ hH rfl
 ·by_cases h1:p=[]
  ·subst h1;simp[Aa]
  ·simp[h1,Aa]
 ·simp[Aa,show ¬ q=0 by omega]
def Mr (m n:Nat):List A:=(List.range n).map fun j=>.osl [5+j] (j+1) 1 0 (m+1)
@[simp] theorem AbC {m n:Nat}:(Mr m n).length=n:=by simp[Mr]
@[simp] theorem Aee {m n k:Nat} (h:k<n):(Mr m n)[k]? = some (.osl [5+k] (k+1) 1 0 (m+1)):=by simp[Mr,h]
@[simp] theorem AeT {m n k:Nat} (h:k<(Mr m n).length):(Mr m n)[k] = .osl [5+k] (k+1) 1 0 (m+1):=by simp[Mr]
theorem kz (m n:Nat):Mr m (n+1)=Mr m n++[.osl [5+n] (n+1) 1 0 (m+1)]:=by simp[Mr,List.range_succ]
def FN (a b:List Int) (i q:Nat):Int:=(AB (a.take i) (b.take q):Nat)
theorem kY {a b:List Int} {i j:Nat} (hi:i<a.length) (hj:j<b.length):FN a b (i+1) (j+1)=if a[i]=b[j] then FN a b i j+1 else max (FN a b i (j+1)) (FN a b (i+1) j):=by
 unfold FN
 have tk:a.take (i+1)=a.take i++[a[i]]:=Fj hi
 have tj:b.take (j+1)=b.take j++[b[j]]:=Fj hj
 by_cases h:a[i]=b[j]
 ·rw[if_pos h,tk,tj,h,Lq]
  omega
 ·rw[if_neg h]
  have:=Ll h (a.take i) (b.take j)
  rw[← tk,← tj] at this
  rw[this]
  omega
theorem tK (a b:List Int) (i j:Nat):0≤FN a b i j∧FN a b i j≤a.length:=by
 have:=FU (a.take i) (b.take j)
 unfold FN
 simp at this
 omega
theorem n4 {a b:List Int} {i:Nat} (hi:i<a.length) (hal:a.length≤1000000) (hb:b.length≤1000000) {H0:Hp} (h1:H0 [1]=⟨i+3,.arr 1 (Mr b.length (i+2))⟩) (h2:H0 [5+i]=⟨i+1,.arr 1 (Fu (FN a b i) (b.length+1))⟩) (hq:∀ (f':Nat→Int) (H':Hp) (st:List (Nat × A)),(∀ q,q≤b.length→f' q=FN a b (i+1) q)→H' [5+(i+1)]=⟨i+2,.arr 1 (Fu f' (b.length+1))⟩→(∀ o,o ≠ [5+(i+1)]→H' o=H0 o)→Q (.exit 2) ⟨lk ([(0,B5 a),(1,B5 b),(5,.osl [1] (i+3) 1 0 (i+2)),(6,iv (i+1:Nat))]++st),H'⟩):∀ (m j:Nat) (f:Nat→Int) (H:Hp),j+m=b.length→(∀ q,q≤j→f q=FN a b (i+1) q)→(∀ o,o ≠ [5+(i+1)]→H o=H0 o)→H [5+(i+1)]=⟨i+2,.arr 1 (Fu f (b.length+1))⟩ →
  LoopC (cx Tryz.prog w0 I0 n0) Bv Q ⟨lk [(0,B5 a),(1,B5 b),(5,.osl [1] (i+3) 1 0 (i+2)),(6,iv (i+1:Nat)),(7,iv (j+1:Nat))],H⟩:=by
 intro m
 induction m with
 |zero=>
  intro j f H hm hf hp h3
  refine Ad Ah Bv.eq_1 ?_
  have:j=b.length:=by omega
  subst this
  have hle:¬ ((b.length:Int)+1≤b.length):=by omega
  simp[hle]
  have:=hq f H [(7,iv (b.length+1:Nat)),(29,bv false)] hf h3 hp
  simpa using this
 |succ m ih=>
  intro j f H hm hf hp h3
  have g1:=hp [1] (by simp;omega)
  have g2:=hp [5+i] (by simp)
  rw[h1] at g1
  rw[h2] at g2
  have hj:j<b.length:=by omega
  have hj1:j+1<b.length+1:=by omega
  have hj2:j<b.length+1:=by omega
  have c1:(j:Int)+1≤b.length:=by omega
  have c2:(0:Int)<(i:Int)+1:=by omega
  have c3:(i:Int)<(i:Int)+2:=by omega
  have c4:(0:Int)≤(j:Int)+1:=by omega
  have c5:(0:Int)≤(i:Int)+1:=by omega
  have c6:(j:Int)<(b.length:Int)+1:=by omega
  have e1:IntKind.i64.wrap (i:Int)=i:=Af (by omega) (by omega)
  have e2:IntKind.i64.wrap (j:Int)=j:=Af (by omega) (by omega)
  have e3:IntKind.i64.wrap ((j:Int)+1+1)=((j+1+1:Nat):Int):=An
  have hb2:=tK a b i j
  have e4:IntKind.i64.wrap (FN a b i j+1)=FN a b i j+1:=Af (by omega) (by omega)
  have fj:=hf j (BW _)
  have hst:=kY hi hj
  have next:∀ z:Int,z=FN a b (i+1) (j+1)→LoopC (cx Tryz.prog w0 I0 n0) Bv Q ⟨lk [(0,B5 a),(1,B5 b),(5,.osl [1] (i+3) 1 0 (i+2)),(6,iv (i+1:Nat)),(7,iv (j+1+1:Nat))],Ay H [5+(i+1)] ⟨i+2,.arr 1 (Fu (fun q=>if q=j+1 then z else f q) (b.length+1))⟩⟩:=fun z hz=>by
   refine ih (j+1) _ _ (by omega) (fun q hq=>?_) (fun o ho=>by rw[AK ho];exact hp o ho) (by simp[Aa];rfl)
   by_cases e:q=j+1
   ·subst e;rw[if_pos rfl,hz]
   ·rw[if_neg e];exact hf q (by omega)
  have key:∀ z:Int,z=max (FN a b i (j+1)) (f j)→WPC (cx Tryz.prog w0 I0 n0) F7
          (Bu 3
           (DB
            (WPC (cx Tryz.prog w0 I0 n0)
             (CC.keep [0,1,5,6,7]
              (CC.reg
               [co (some 30) (Op.move (Operand.tmp 7)) none,
                co (some 31)
                 (Op.binOp BinOp.add 3 (Operand.tmp 30) (Operand.const (Value.int IntKind.i64 1)) 3)
                 none,
                co (some 7) (Op.assign (Operand.tmp 31)) none]
               [0,1,5,6,7]))
             (DB (LoopC (cx Tryz.prog w0 I0 n0) Bv Q) Q))
            (DB (LoopC (cx Tryz.prog w0 I0 n0) Bv Q) Q)))
          ⟨lk [(0,B5 a),(1,B5 b),(5,.osl [1] (i+3) 1 0 (i+2)),(6,iv (i+1:Nat)),(7,iv (j+1:Nat)),(8,iv z)],H⟩:=fun z hz=>by
   rw[F7.eq_1]
   by_cases h:a[i]=b[j]
   ·rw[if_pos h] at hst
    simp[c1,c2,c3,c4,c5,c6,e1,e2,g1,g2,h3,hj1,hj2,hi,hj,h,e3,e4]
    have:=next _ hst.symm
    simpa using this
   ·rw[if_neg h,← fj] at hst
    simp[c1,c2,c3,c4,c5,c6,e1,e2,g1,g2,h3,hj1,hj2,hi,hj,h,e3,e4]
    have:=next z (by rw[hz,hst])
    simpa using this
  refine Ad Ah Bv.eq_1 ?_
  simp[c1,c2,c3,c4,c5,c6,e1,e2,g1,g2,h3,hj1,hj2,hj]
  refine⟨fun h=>?_,fun h=>?_⟩
  ·have:=key (f j) (by omega)
   simpa using this
  ·have:=key (FN a b i (j+1)) (by omega)
   simpa using this
theorem qy {a b:List Int} (hal:a.length≤1000000) (hb:b.length≤1000000) (hq:∀ (H:Hp) st,H [1]=⟨a.length+2,.arr 1 (Mr b.length (a.length+1))⟩→(∀ k,k<a.length+1→∃ f,(∀ q,q<b.length+1→f q=FN a b k q)∧H [5+k]=⟨k+1,.arr 1 (Fu f (b.length+1))⟩)→Q (.exit 0) ⟨lk ([(0,B5 a),(1,B5 b),(5,.osl [1] (a.length+2) 1 0 (a.length+1))]++st),H⟩):∀ (m i:Nat) (H:Hp),i+m=a.length+1→H [0]=⟨i,.none⟩→H [1]=⟨i+1,.arr 1 (Mr b.length i)⟩→(∀ k,k<i→∃ f,(∀ q,q<b.length+1→f q=FN a b k q)∧H [5+k]=⟨k+1,.arr 1 (Fu f (b.length+1))⟩)→(∀ k,i≤k→H [5+k]=⟨0,.none⟩) →
  LoopC (cx Tryz.prog w0 I0 n0) CP Q ⟨lk [(0,B5 a),(1,B5 b),(5,.osl [1] (i+1) 1 0 i),(6,iv i)],H⟩:=by
 intro m
 induction m with
 |zero=>
  intro i H hm h0 h1 hk hf
  refine Ad Ah CP.eq_1 ?_
  have:i=a.length+1:=by omega
  subst this
  have hle:¬ ((a.length:Int)+1≤a.length):=by omega
  simp[hle]
  have:=hq H [(6,iv (a.length+1:Nat)),(12,bv false)] h1 hk
  simpa using this
 |succ m ih=>
  intro i H hm h0 h1 hk hf
  have hi:i≤a.length:=by omega
  have e1:IntKind.i64.wrap ((b.length:Int)+1)=((b.length+1:Nat):Int):=An
  have e2:IntKind.i64.wrap ((i:Int)+1)=((i+1:Nat):Int):=An
  refine Ad Ah CP.eq_1 ?_
  simp[hi,e1,h0,h1,Aa]
  refine⟨⟨by omega,by omega⟩,by omega,?_⟩
  have hfi:=hf i (BW _)
  refine LoopC.le (cG (d:=[0]) (d':=[5+i]) (e:=[1]) (u:=i+1) (ue:=i+1+1) (sz:=1) (z:=1) (off:=0) (len:=b.length+1) (xs:=List.take i (Mr b.length i)) (fun _ h=>h) (by simp;omega) (by simp) (by simp;omega) (by simp[Aa,hfi,show ¬ 5+i=1 by omega,show ¬ 5+i=2 by omega,show ¬ 5+i=0 by omega]) (by simp[Aa]) rfl (by simp[Aa])) ?_
  rw[AI (by simp),← kz]
  generalize hG:(Ay (Ay (Ay (Ay (Ay (Ay H [0] ⟨i+1,.arr 1 (List.replicate (b.length+1) (iv 0))⟩) [2] ⟨(H [2]).u+1,.arr 1 [.osl [0] (i+1) 1 0 (b.length+1)]⟩) [1] ⟨i+1+1,.arr 1 (Mr b.length i++[.osl [0] (i+1) 1 0 (b.length+1)])⟩) [5+i] _) [0] _) [1] _:Hp)=G
  have f0:G [0]=⟨i+1,.none⟩:=by rw[← hG];simp[Aa]
  have f1:G [1]=⟨i+1+1,.arr 1 (Mr b.length (i+1))⟩:=by rw[← hG];simp[Aa]
  have f5:G [5+i]=⟨i+1,.arr 1 (Fu (fun _=>0) (b.length+1))⟩:=by
   rw[← hG,← Od]
   simp[Aa,show ¬ 5+i=1 by omega,show ¬ 5+i=0 by omega]
  have fo:∀ k,k ≠ i→G [5+k]=H [5+k]:=fun k hne=>by
   rw[← hG]
   simp[Aa,show ¬ 5+k=1 by omega,show ¬ 5+k=2 by omega,show ¬ 5+k=0 by omega,hne]
  clear hG
  have next:∀ (f:Nat→Int) (G':Hp),(∀ q,q<b.length+1→f q=FN a b i q)→G' [5+i]=⟨i+1,.arr 1 (Fu f (b.length+1))⟩→(∀ o,o ≠ [5+i]→G' o=G o)→LoopC (cx Tryz.prog w0 I0 n0) CP Q ⟨lk [(0,B5 a),(1,B5 b),(5,.osl [1] (i+1+1) 1 0 (i+1)),(6,iv (i+1:Nat))],G'⟩:=fun f G' g1 g2 g3=>by
   refine ih (i+1) G' (by omega) (by rw[g3 _ (by simp;omega),f0]) (by rw[g3 _ (by simp;omega),f1]) (fun k hki=>?_) (fun k hki=>?_)
   ·by_cases e:k=i
    ·subst e;exact⟨f,g1,g2⟩
    ·obtain⟨f',k1,k2⟩:=hk k (by omega)
     exact⟨f',k1,by rw[g3 _ (by simp;omega),fo k e,k2]⟩
   ·rw[g3 _ (by simp;omega),fo k (by omega),hf k (by omega)]
  cases i with
  |zero=>
   refine Ad Ah Bv.eq_1 ?_
   by_cases hb0:(1:Int)≤b.length
   ·simp[hb0,show IntKind.i64.wrap 1=1 from rfl]
    have:=next (fun _=>0) G (fun q hq=>by simp[FN]) f5 (fun o _=>rfl)
    simpa using this
   ·simp[hb0,show IntKind.i64.wrap 1=1 from rfl]
    have:=next (fun _=>0) G (fun q hq=>by simp[FN]) f5 (fun o _=>rfl)
    simpa using this
  |succ i=>
   obtain⟨f',k1,k2⟩:=hk i (by omega)
   refine LoopC.le (Ao [(0,B5 a),(1,B5 b),(5,.osl [1] (i+3) 1 0 (i+2)),(6,iv (i+1:Nat)),(7,iv (0+1:Nat))] (by simp)) ?_
   refine n4 (by omega) hal hb (H0:=G) f1 (by rw[fo i (by omega),k2,HL k1]) (fun f2 G' st g1 g2 g3=>?_) b.length 0 (fun _=>0) G (by omega) (fun q hq=>?_) (fun o _=>rfl) f5
   ·have e3:IntKind.i64.wrap ((i:Int)+1+1)=(i:Int)+1+1:=Af (by omega) (by omega)
    simp[e3]
    have:=next f2 G' (fun q hq=>g1 q (by omega)) g2 g3
    simpa using this
   ·have:q=0:=by omega
    subst this
    simp[FN]
theorem Tt {α:Type} {H:Hp} {f g:α→A}:∀ (l:List α),(∀ x,x ∈ l→Jd H (f x) (g x))→Hd H (l.map f) (l.map g)
 |[],_=>by simp
 |x::l,h=>by
  simp only[List.map_cons,kp]
  exact⟨h x (by simp),Tt l fun y hy=>h y (by simp[hy])⟩
theorem Gz {α:Type} {f:α→A} (h:∀ x,(f x).cells=[f x]) (l:List α):(l.map f).flatMap A.cells=l.map f:=by
 induction l with
 |nil=>rfl
 |cons x l ih=>simp[ih,h]
def Ni (a b:List Int):A:=.sl false ((List.range (a.length+1)).map fun i=>.sl false (Fu (FN a b i) (b.length+1)))
theorem QT {a b:List Int} (hal:a.length≤1000000) (hb:b.length≤1000000):G.Spec Tryz.prog 246 [B5 a,B5 b] (Ni a b):=by
 refine Aj QI (by simp) fun w0 I0=>?_
 unfold JH
 simp
 refine LoopC.le (BX 5 [1] 1 (by simp)) ?_
 refine LoopC.le (Ao [(0,B5 a),(1,B5 b),(5,.osl [1] (0+1) 1 0 0),(6,iv (0:Nat))] (by simp)) ?_
 refine qy hal hb (fun H st h1 hk=>?_) (a.length+1) 0 _ (by omega) (by simp[Aa]) (by simp[Aa,Mr]) (fun k h=>by omega) (fun k _=>by simp[Aa,show ¬ 5+k=1 by omega])
 simp
 refine JG (o:=[1]) (u:=a.length+2) (off:=0) (len:=a.length+1) (sz:=1) (xs:=Mr b.length (a.length+1)) (ys:=(List.range (a.length+1)).map fun i=>.sl false (Fu (FN a b i) (b.length+1))) (by simp[h1]) (by simp) (by simp) (by simp) ?_ ?_
 ·rw[Gz (fun x=>rfl)]
  simp[A.ones]
 ·rw[List.drop_zero,AI (by simp)]
  unfold Mr
  rw[Gz (fun x=>rfl),Gz (fun x=>rfl)]
  refine Tt _ fun k hk0=>?_
  obtain⟨f,g1,g2⟩:=hk k (by simpa using hk0)
  rw[← HL g1]
  exact OH g2
theorem bB {a b:List Int} (hal:a.length≤1000000) (hb:b.length≤1000000):G.Spec Tryz.prog 212 [B5 a,B5 b] (iv (AB a b:Nat)):=by
 refine Aj O3 (by simp) fun w0 I0=>?_
 unfold IJ
 simp
 refine Ae (QT hal hb) rfl ?_
 have h1:FN a b a.length b.length=AB a b:=by simp[FN]
 simp[Ni,h1]
 exact⟨by omega,by omega,Ab rfl⟩
theorem gB {l:List Int} (hl:l.length≤1000000) (hq:∀ (H:Hp) (u:Nat) st,H [0]=⟨u,.arr 1 (l.reverse.map iv)⟩→Q (.exit 0) ⟨lk ([(0,B5 l),(3,.osl [0] u 1 0 l.length)]++st),H⟩):∀ (t:Nat) (u:Nat) (H:Hp),t≤l.length→H [0]=⟨u,.arr 1 ((l.drop t).reverse.map iv)⟩ →
  LoopC (cx Tryz.prog w0 I0 n0) DE Q ⟨lk [(0,B5 l),(3,.osl [0] u 1 0 (l.length-t)),(4,iv ((t:Int)-1))],H⟩:=by
 intro t
 induction t with
 |zero=>
  intro u H ht hH
  refine Ad Ah DE.eq_1 ?_
  simp
  exact hq H u [(4,iv (-1)),(9,bv false)] (by simpa using hH)
 |succ t ih=>
  intro u H ht hH
  have hlt:t<l.length:=by omega
  have e1:IntKind.i64.wrap ((t:Int)-1)=(t:Int)-1:=Af (by omega) (by omega)
  have hd:l.drop t=l[t]::l.drop (t+1):=(List.getElem_cons_drop hlt).symm
  refine Ad Ah DE.eq_1 ?_
  simp[hlt,e1,hH]
  refine⟨by omega,?_⟩
  have:=ih (u+1) (Ay H [0] ⟨u+1,.arr 1 ((l.drop t).reverse.map iv)⟩) (by omega) (by simp[Aa])
  rw[show l.length-(t+1)+1=l.length-t by omega]
  have e2:List.take (l.length-(t+1)) (List.drop (t+1) (List.map iv l)).reverse++[iv l[t]]=(l.drop t).reverse.map iv:=by
   have hd2:(l.map iv).drop t=iv l[t]::(l.map iv).drop (t+1):=by rw[List.drop_eq_getElem_cons (by simpa using hlt)];simp
   rw[AI (by simp)]
   simp[hd2]
  rw[e2]
  exact this
theorem RD {l:List Int} (hl:l.length≤1000000):G.Spec Tryz.prog 247 [B5 l] (B5 l.reverse):=by
 have e1:IntKind.i64.wrap ((l.length:Int)-1)=(l.length:Int)-1:=Af (by omega) (by omega)
 refine Aj O4 (by simp) fun w0 I0=>?_
 unfold I4
 simp[e1]
 refine LoopC.le (BX 3 [0] 1 (by simp)) ?_
 refine LoopC.le (Ao [(0,B5 l),(3,.osl [0] 1 1 0 (l.length-l.length)),(4,iv ((l.length:Int)-1))] (by simp)) ?_
 refine gB hl (fun H u st h=>?_) l.length 1 _ (BW _) (by simp[Aa])
 simp
 exact Bb (f:=iv) (l:=l.reverse) (by rw[h];simp) (by simp) (fun x=>rfl)
theorem jH {a b:List Int} {i j:Nat}:FN a b i j=(EJ a b 0 i 0 j:Nat):=by simp[FN,EJ,Vf]
theorem dz {a b:List Int} {i j:Nat} (hi:i≤a.length) (hj:j≤b.length):FN a.reverse b.reverse (a.length-i) (b.length-j)=(EJ a b i a.length j b.length:Nat):=by
 unfold FN
 have e1:a.reverse.take (a.length-i)=(a.drop i).reverse:=by rw[List.take_reverse];congr 2;omega
 have e2:b.reverse.take (b.length-j)=(b.drop j).reverse:=by rw[List.take_reverse];congr 2;omega
 rw[e1,e2,Jy]
 simp[EJ,fL]
theorem xE {a b:List Int} {i:Nat} (hi:i≤a.length) (hal:a.length≤1000000) (hb:b.length≤1000000) {X:A} {H:Hp} (hq:∀ st,Q (.exit 2) ⟨lk ([(0,B5 a),(1,B5 b),(5,Ni a b),(6,Ni a.reverse b.reverse),(7,X),(8,iv i),(9,iv (AP a b i))]++st),H⟩):∀ (m j:Nat),j+m=AP a b i →
  LoopC (cx Tryz.prog w0 I0 n0) Dt Q ⟨lk [(0,B5 a),(1,B5 b),(5,Ni a b),(6,Ni a.reverse b.reverse),(7,X),(8,iv i),(9,iv j)],H⟩:=by
 obtain⟨g1,g2,g3⟩:=Fv (a:=a) (b:=b) hi
 unfold Q4 at g1
 simp only[decide_eq_true_eq] at g1
 intro m
 induction m with
 |zero=>
  intro j hm
  have:j=AP a b i:=by omega
  subst this
  generalize hjj:AP a b i=j at *
  by_cases hj:j<b.length
  ·have e1:IntKind.i64.wrap ((j:Int)+1)=((j+1:Nat):Int):=An
   have e2:IntKind.i64.wrap ((a.length:Int)-i)=((a.length-i:Nat):Int):=An
   have e3:IntKind.i64.wrap ((b.length:Int)-j)=((b.length-j:Nat):Int):=An
   have t1:=jH (a:=a) (b:=b) (i:=i) (j:=j)
   have t2:=dz (a:=a) (b:=b) (i:=i) (j:=j) hi (by omega)
   have t3:FN a b a.length b.length=AB a b:=by simp[FN]
   have ll:=FU a b
   have e4:IntKind.i64.wrap ((EJ a b 0 i 0 j:Int)+(EJ a b i a.length j b.length:Int))=(EJ a b 0 i 0 j:Int)+(EJ a b i a.length j b.length:Int):=Af (by omega) (by omega)
   have c1:(i:Int)<(a.length:Int)+1:=by omega
   have c2:(j:Int)<(b.length:Int)+1:=by omega
   have c3:((a.length-i:Nat):Int)<(a.length:Int)+1:=by omega
   have c4:((b.length-j:Nat):Int)<(b.length:Int)+1:=by omega
   have c5:(a.length:Int)<(a.length:Int)+1:=by omega
   have c6:(b.length:Int)<(b.length:Int)+1:=by omega
   have d1:i<a.length+1:=by omega
   have d2:j<b.length+1:=by omega
   have d3:a.length-i<a.length+1:=by omega
   have d4:b.length-j<b.length+1:=by omega
   have hne':¬ (EJ a b 0 i 0 j:Int)+(EJ a b i a.length j b.length:Int)<(AB a b:Int):=by omega
   refine Ad Ah Dt.eq_1 ?_
   simp[hj,Ni,e1,e2,e3,t1,t2,t3,e4,c1,c2,c3,c4,c5,c6,d1,d2,d3,d4,hne']
   have:=hq [(60,bv false)]
   simpa[Ni] using this
  ·refine Ad Ah Dt.eq_1 ?_
   simp[hj]
   have:=hq [(60,bv false)]
   simpa using this
 |succ m ih=>
  intro j hm
  have hj:j<b.length:=by omega
  have hle:=MM (a:=a) (b:=b) (i:=i) (j:=j) hi (by omega)
  have hne:EJ a b 0 i 0 j+EJ a b i a.length j b.length<AB a b:=by
   by_cases e:EJ a b 0 i 0 j+EJ a b i a.length j b.length=AB a b
   ·have:=g3 j (by omega) (by unfold Q4;simpa using e)
    omega
   ·omega
  have e1:IntKind.i64.wrap ((j:Int)+1)=((j+1:Nat):Int):=An
  have e2:IntKind.i64.wrap ((a.length:Int)-i)=((a.length-i:Nat):Int):=An
  have e3:IntKind.i64.wrap ((b.length:Int)-j)=((b.length-j:Nat):Int):=An
  have t1:=jH (a:=a) (b:=b) (i:=i) (j:=j)
  have t2:=dz (a:=a) (b:=b) (i:=i) (j:=j) hi (by omega)
  have t3:FN a b a.length b.length=AB a b:=by simp[FN]
  have ll:=FU a b
  have e4:IntKind.i64.wrap ((EJ a b 0 i 0 j:Int)+(EJ a b i a.length j b.length:Int))=(EJ a b 0 i 0 j:Int)+(EJ a b i a.length j b.length:Int):=Af (by omega) (by omega)
  have c1:(i:Int)<(a.length:Int)+1:=by omega
  have c2:(j:Int)<(b.length:Int)+1:=by omega
  have c3:((a.length-i:Nat):Int)<(a.length:Int)+1:=by omega
  have c4:((b.length-j:Nat):Int)<(b.length:Int)+1:=by omega
  have c5:(a.length:Int)<(a.length:Int)+1:=by omega
  have c6:(b.length:Int)<(b.length:Int)+1:=by omega
  have d1:i<a.length+1:=by omega
  have d2:j<b.length+1:=by omega
  have d3:a.length-i<a.length+1:=by omega
  have d4:b.length-j<b.length+1:=by omega
  have hne':(EJ a b 0 i 0 j:Int)+(EJ a b i a.length j b.length:Int)<(AB a b:Int):=by omega
  refine Ad Ah Dt.eq_1 ?_
  simp[hj,Ni,e1,e2,e3,t1,t2,t3,e4,c1,c2,c3,c4,c5,c6,d1,d2,d3,d4,hne']
  have:=ih (j+1) (by omega)
  simpa[Ni] using this
theorem v7 {a b:List Int} (hal:a.length≤1000000) (hb:b.length≤1000000) (hq:∀ (H:Hp) (u:Nat) st,H [0]=⟨u,.arr 1 (Fu (fun i=>(AP a b i:Nat)) (a.length+1))⟩→Q (.exit 0) ⟨lk ([(0,B5 a),(1,B5 b),(5,Ni a b),(6,Ni a.reverse b.reverse),(7,.osl [0] u 1 0 (a.length+1))]++st),H⟩):∀ (m i u:Nat) (H:Hp),i+m=a.length+1→H [0]=⟨u,.arr 1 (Fu (fun i=>(AP a b i:Nat)) i)⟩ →
  LoopC (cx Tryz.prog w0 I0 n0) Fa Q ⟨lk [(0,B5 a),(1,B5 b),(5,Ni a b),(6,Ni a.reverse b.reverse),(7,.osl [0] u 1 0 i),(8,iv i)],H⟩:=by
 intro m
 induction m with
 |zero=>
  intro i u H hm hH
  refine Ad Ah Fa.eq_1 ?_
  have:i=a.length+1:=by omega
  subst this
  have hle:¬ ((a.length:Int)+1≤a.length):=by omega
  simp[hle]
  have:=hq H u [(8,iv (a.length+1:Nat)),(21,bv false)] hH
  simpa using this
 |succ m ih=>
  intro i u H hm hH
  have hi:i≤a.length:=by omega
  have e1:IntKind.i64.wrap ((i:Int)+1)=((i+1:Nat):Int):=An
  refine Ad Ah Fa.eq_1 ?_
  simp[hi]
  refine LoopC.le (Ao [(0,B5 a),(1,B5 b),(5,Ni a b),(6,Ni a.reverse b.reverse),(7,.osl [0] u 1 0 i),(8,iv i),(9,iv (0:Nat))] (by simp)) ?_
  refine xE hi hal hb (fun st=>?_) (AP a b i) 0 (by omega)
  simp[e1,hH]
  refine⟨by omega,?_⟩
  have:=ih (i+1) (u+1) (Ay H [0] ⟨u+1,.arr 1 (Fu (fun i=>(AP a b i:Nat)) (i+1))⟩) (by omega) (by simp[Aa])
  have e2:List.take i (Fu (fun i=>(AP a b i:Nat)) i)++[iv (AP a b i:Nat)]=Fu (fun i=>(AP a b i:Nat)) (i+1):=by
   rw[AI (by simp)]
   simp[Fu,List.range_succ]
  rw[e2]
  simpa using this
theorem qP {a b:List Int} (hal:a.length≤1000000) (hb:b.length≤1000000):G.Spec Tryz.prog 213 [B5 a,B5 b] (.sl false (Fu (fun i=>(AP a b i:Nat)) (a.length+1))):=by
 have s4:=QT (a:=a.reverse) (b:=b.reverse) (by simpa using hal) (by simpa using hb)
 refine Aj TK (by simp) fun w0 I0=>?_
 unfold LI
 simp
 refine Ae (QT hal hb) (by simp) ?_
 simp
 refine Ae (RD hal) (by simp) ?_
 simp
 refine Ae (RD hb) (by simp) ?_
 simp
 refine Ae s4 (by simp) ?_
 simp
 refine LoopC.le (BX 7 [0] 1 (by simp)) ?_
 refine LoopC.le (Ao [(0,B5 a),(1,B5 b),(5,Ni a b),(6,Ni a.reverse b.reverse),(7,.osl [0] 1 1 0 0),(8,iv (0:Nat))] (by simp)) ?_
 refine v7 hal hb (fun H u st h=>?_) (a.length+1) 0 1 _ (by omega) (by simp[Aa,Fu])
 simp
 exact OH h
def US (p q:Nat):List Sp:=if p<q then [⟨2,q-p-1⟩,⟨0,1⟩] else [⟨1,1⟩]
theorem fW (p q:Nat):AJ (US p q)=MV p q:=by
 unfold US MV
 split<;>simp
def Jm (a b:List Int) (i:Nat):List Sp:=(⟨2,0⟩:Sp)::(List.range i).flatMap (fun i=>US (AP a b i) (AP a b (i+1)))
theorem TL (a b:List Int) (i:Nat):Jm a b (i+1)=Jm a b i++US (AP a b i) (AP a b (i+1)):=by simp[Jm,List.range_succ]
theorem dy (a b:List Int) (i:Nat):(Jm a b i).length≤2*i+1:=by
 induction i with
 |zero=>simp[Jm]
 |succ i ih=>
  rw[TL,List.length_append]
  have:(US (AP a b i) (AP a b (i+1))).length≤2:=by unfold US;split<;>simp
  omega
theorem fS (a b:List Int):AJ (Jm a b a.length++[⟨2,b.length-AP a b a.length⟩])=Gg a b:=by
 have:∀ l:List Nat,AJ (l.flatMap fun i=>US (AP a b i) (AP a b (i+1)))=l.flatMap fun i=>MV (AP a b i) (AP a b (i+1)):=by
  intro l
  induction l with
  |nil=>rfl
  |cons x l ih=>simp[fW,ih]
 rw[OS]
 unfold Jm Gg
 rw[Aw,this]
 simp
theorem pL {a b:List Int} (hb:b.length≤1000000):∀ i,i≤a.length→∀ s,s ∈ Jm a b i→s.may:=by
 intro i
 induction i with
 |zero=>intro _ s hs;simp[Jm] at hs;subst hs;exact⟨by simp,by simp⟩
 |succ i ih=>
  intro hi s hs
  rw[TL] at hs
  rcases List.mem_append.1 hs with hs | hs
  ·exact ih (by omega) s hs
  ·have h1:=(Fv (a:=a) (b:=b) (i:=i+1) hi).2.1
   unfold US at hs
   split at hs
   ·simp at hs
    rcases hs with rfl | rfl
    ·exact⟨by simp,by simp;omega⟩
    ·exact⟨by simp,by simp⟩
   ·simp at hs
    subst hs
    exact⟨by simp,by simp⟩
theorem qw {a b:List Int} (hal:a.length≤100000) (hb:b.length≤1000000) (hq:∀ (H:Hp) (u:Nat) st,H [0]=⟨u,.arr 2 ((Jm a b a.length).map C0)⟩→Q (.exit 0) ⟨lk ([(0,B5 a),(1,B5 b),(8,.sl false (Fu (fun i=>(AP a b i:Nat)) (a.length+1))),(9,.osl [0] u 2 0 (Jm a b a.length).length)]++st),H⟩):∀ (m i u:Nat) (H:Hp),i+m=a.length→H [0]=⟨u,.arr 2 ((Jm a b i).map C0)⟩ →
  LoopC (cx Tryz.prog w0 I0 n0) EC Q ⟨lk [(0,B5 a),(1,B5 b),(8,.sl false (Fu (fun i=>(AP a b i:Nat)) (a.length+1))),(9,.osl [0] u 2 0 (Jm a b i).length),(10,iv i)],H⟩:=by
 intro m
 induction m with
 |zero=>
  intro i u H hm hH
  refine Ad Ah EC.eq_1 ?_
  have:i=a.length:=by omega
  subst this
  simp
  exact hq H u [(10,iv a.length),(35,bv false)] hH
 |succ m ih=>
  intro i u H hm hH
  have hi:i<a.length:=by omega
  have hlen:=dy a b i
  have e1:IntKind.i64.wrap ((i:Int)+1)=((i+1:Nat):Int):=An
  have w1:=(Fv (a:=a) (b:=b) (i:=i) (by omega)).2.1
  have w2:=(Fv (a:=a) (b:=b) (i:=i+1) (by omega)).2.1
  have wm:=Rc (a:=a) (b:=b) (i:=i) (h:=i+1) (by omega) (by omega)
  have e2:IntKind.i64.wrap ((AP a b (i+1):Int)-(AP a b i:Int))=((AP a b (i+1)-AP a b i:Nat):Int):=An
  have c1:(i:Int)<(a.length:Int)+1:=by omega
  have c2:(i:Int)+1<(a.length:Int)+1:=by omega
  have c3:(0:Int)≤(i:Int)+1:=by omega
  have d1:i<a.length+1:=by omega
  have d2:i+1<a.length+1:=by omega
  have next:=ih (i+1)
  rw[TL] at next
  refine Ad Ah EC.eq_1 ?_
  by_cases h:AP a b i<AP a b (i+1)
  ·have hs:US (AP a b i) (AP a b (i+1))=[⟨2,AP a b (i+1)-AP a b i-1⟩,⟨0,1⟩]:=by rw[US,if_pos h]
   have hgt:(0:Int)<((AP a b (i+1)-AP a b i:Nat):Int):=by omega
   have e3:IntKind.i64.wrap (((AP a b (i+1)-AP a b i:Nat):Int)-1)=((AP a b (i+1)-AP a b i-1:Nat):Int):=An
   rw[hs] at next
   simp[hi,e1,e2,c1,c2,c3,d1,d2,hgt,e3,hH]
   refine⟨fun _=>⟨by omega,?_⟩,fun _=>by omega⟩
   rw[AI (by simp)]
   have:=next (u+1) (Ay H [0] ⟨u+1,.arr 2 ((Jm a b i++[(⟨2,AP a b (i+1)-AP a b i-1⟩:Sp),⟨0,1⟩]).map C0)⟩) (by omega) (by simp[Aa])
   simpa[C0,GA] using this
  ·have hs:US (AP a b i) (AP a b (i+1))=[⟨1,1⟩]:=by rw[US,if_neg h]
   have h0:AP a b (i+1)-AP a b i=0:=by omega
   rw[hs] at next
   simp[hi,e1,e2,c1,c2,c3,d1,d2,h0,hH]
   refine⟨by omega,?_⟩
   rw[AI (by simp)]
   have:=next (u+1) (Ay H [0] ⟨u+1,.arr 2 ((Jm a b i++[(⟨1,1⟩:Sp)]).map C0)⟩) (by omega) (by simp[Aa])
   simpa[C0,GA] using this
theorem ie {a b:List Int} (hal:a.length≤30000) (hb:b.length≤1000000) {M0:Int} (hM0:BQ M0):G.Spec Tryz.prog 166 [B5 a,B5 b,iv M0] (if (BN a b:Int)≤M0 then .tup [Nj (HK (Gg a b)),bv true] else .tup [.sl false [],bv false]):=by
 have hc:=bB (a:=a) (b:=b) (by omega) hb
 have hw:=qP (a:=a) (b:=b) (by omega) hb
 have ll:=FU a b
 have e0:IntKind.i64.wrap ((a.length:Int)+b.length)=(a.length:Int)+b.length:=Af (by omega) (by omega)
 have e1:IntKind.i64.wrap (2*(AB a b:Int))=2*(AB a b:Int):=Af (by omega) (by omega)
 have e2:IntKind.i64.wrap ((a.length:Int)+b.length-2*(AB a b:Int))=(BN a b:Int):=by unfold BN;rw[Af (by omega) (by omega)];omega
 have hlen:=dy a b a.length
 have wl:=(Fv (a:=a) (b:=b) (BW a.length)).2.1
 have hN:=dS (all:=Jm a b a.length++[⟨2,b.length-AP a b a.length⟩]) (Yd (pL hb a.length (BW _)) (by simp;exact⟨by simp,by simp;omega⟩)) (by simp;omega)
 rw[fS] at hN
 refine Aj Q6 (by simp) fun w0 I0=>?_
 unfold KZ
 simp
 refine Ae hc (by simp) ?_
 by_cases h:(BN a b:Int)≤M0
 ·have h':¬ M0<(BN a b:Int):=by omega
  simp[e0,e1,e2,h,h']
  refine Ae hw (by simp) ?_
  simp[Sq]
  refine LoopC.le (Ao [(0,B5 a),(1,B5 b),(8,.sl false (Fu (fun i=>(AP a b i:Nat)) (a.length+1))),(9,.osl [0] 1 2 0 (Jm a b 0).length),(10,iv (0:Nat))] (by simp[Jm])) ?_
  refine qw (by omega) hb (fun H u st hH=>?_) a.length 0 1 _ (by omega) (by simp[Jm,C0,GA])
  have e3:IntKind.i64.wrap ((b.length:Int)-(AP a b a.length:Int))=((b.length-AP a b a.length:Nat):Int):=An
  have c1:(a.length:Int)<(a.length:Int)+1:=by omega
  simp[hH,e3,c1]
  refine⟨by omega,?_⟩
  refine N5 [Nj (Jm a b a.length++[⟨2,b.length-AP a b a.length⟩])] hN (by
   simp[Aa]
   rw[AI (by simp)]
   have:=Bb (H:=Ay H [0] ⟨u+1,.arr 2 ((Jm a b a.length++[(⟨2,b.length-AP a b a.length⟩:Sp)]).map C0)⟩) (o:=[0]) (u:=u+1) (sz:=2) (l:=Jm a b a.length++[(⟨2,b.length-AP a b a.length⟩:Sp)]) (f:=C0) (n:=(Jm a b a.length).length+1) (by simp[Aa]) (by simp) (fun x=>rfl)
   show Jd _ _ (.sl false (List.map C0 (Jm a b a.length++[(⟨2,b.length-AP a b a.length⟩:Sp)])))
   simpa[C0,GA] using this) (by simp) ?_
  simp
  exact Ab rfl
 ·have h':M0<(BN a b:Int):=by omega
  simp[e0,e1,e2,h,h']
  exact G4 (by simp;exact⟨Al,Ab rfl⟩)
end Go.Proofs.YtbjmaoedheiigaaGreat
namespace Go.PL
open Go
def Iq (list:Int) (e:E):Bool:=decide (e.kind=0) || (decide (list=9)&&decide (e.kind=2)&&e.words.isEmpty&&e.kids.isEmpty)
def CS (g:List T):List OP:=if g=[] then [] else [.mk 1 0 g E0]
def CY (b:List T):List OP:=if b=[] then [] else [.mk 2 0 b E0]
def XP (out:List OP) (g b:List T):List OP:=out++(CS g++CY b)
def ZH (out:List OP) (n:Int):List OP:=match out.getLast? with
 |some (.mk 0 m l e)=>out.dropLast++[.mk 0 (IntKind.i64.wrap (m+n)) l e]
 |_=>out++[.mk 0 n [] E0]
def Gd (list:Int):List OP→List OP→List T→List T→List OP
 |[],out,g,b=>XP out g b
 |o::os,out,g,b=>
  if o.kind=0 then Gd list os (ZH (XP out g b) o.n) [] []
  else if o.kind=1 then Gd list os out (g++o.l.map Ai) b
  else if o.kind=2 then Gd list os out g (b++o.l.map Ai)
  else if Iq list o.e=true then Gd list os (ZH (XP out g b) 1) [] []
  else Gd list os (XP out g b++[.mk 3 0 [] o.e]) [] []
mutual
def Q5:E→E
 |.mk k o n ws ks l os=>if k=1 then .mk 1 (Ai o) (Ai n) [] [] 0 [] else if k=2 then .mk 2 T0 T0 ws (rH ks) 0 [] else if k=3 then .mk 3 T0 T0 [] [] l (Gd l (ri os) [] [] []) else E0
def rH:List KE→List KE
 |[]=>[]
 |.mk a e::l=>.mk a (Q5 e)::rH l
def ri:List OP→List OP
 |[]=>[]
 |.mk k n t e::l=>.mk k n t (Q5 e)::ri l
end
def ak (x:KE):KE:=.mk x.at_ (Q5 x.e)
def UN (x:OP):OP:=.mk x.kind x.n x.l (Q5 x.e)
theorem dU:∀ l,rH l=l.map ak
 |[]=>by simp[rH]
 |.mk a e::l=>by rw[rH,dU l];rfl
theorem dj:∀ l,ri l=l.map UN
 |[]=>by simp[ri]
 |.mk k n t e::l=>by rw[ri,dj l];rfl
theorem Vy (k:Int) (o n:T) (ws:List WE) (ks:List KE) (l:Int) (os:List OP):Q5 (.mk k o n ws ks l os)=if k=1 then .mk 1 (Ai o) (Ai n) [] [] 0 [] else if k=2 then .mk 2 T0 T0 ws (ks.map ak) 0 [] else if k=3 then .mk 3 T0 T0 [] [] l (Gd l (os.map UN) [] [] []) else E0:=by
 rw[Q5,dU,dj]
end Go.PL
namespace Go.Proofs.YtbjmaoedheiigaaGreat
open Go Go.G Go.Proofs Go.PL
def Z2:Nat→Nat→Nat→Nat→Nat
 |0,_,_,_=>0
 |k+1,a,b,m=>(if m % 2=1 then b % 256 else a % 256)+256*Z2 k (a / 256) (b / 256) (m / 2)
def DU:Nat→Nat→Nat
 |0,_=>0
 |k+1,m=>(if m % 2=1 then 255 else 0)+256*DU k (m / 2)
theorem Ww:∀ k m,DU k m<256 ^ k
 |0,m=>by simp[DU]
 |k+1,m=>by
  have:=Ww k (m / 2)
  simp only[DU,Nat.pow_succ]
  split<;>omega
theorem Yc:∀ k a b m,a<256 ^ k→b<256 ^ k→(a &&& (256 ^ k-1-DU k m)) ||| (b &&& DU k m)=Z2 k a b m
 |0,a,b,m,ha,hb=>by
  simp at ha hb
  subst ha hb
  simp[Z2,DU]
 |k+1,a,b,m,ha,hb=>by
  have hw:=Ww k (m / 2)
  rw[Nat.pow_succ] at ha hb
  have ih:=Yc k (a / 256) (b / 256) (m / 2) (by omega) (by omega)
  have p0:0<256 ^ k:=Nat.pow_pos (by decide)
  generalize hx:(a &&& (256 ^ (k+1)-1-DU (k+1) m)) ||| (b &&& DU (k+1) m)=x
  have d1:DU (k+1) m / 256=DU k (m / 2):=by simp only[DU];split<;>omega
  have d2:(256 ^ (k+1)-1-DU (k+1) m) / 256=256 ^ k-1-DU k (m / 2):=by simp only[DU,Nat.pow_succ];split<;>omega
  have m1:DU (k+1) m % 256=if m % 2=1 then 255 else 0:=by simp only[DU];split<;>omega
  have m2:(256 ^ (k+1)-1-DU (k+1) m) % 256=if m % 2=1 then 0 else 255:=by simp only[DU,Nat.pow_succ];split<;>omega
  have e1:x / 256=Z2 k (a / 256) (b / 256) (m / 2):=by
   have q1:=@Nat.or_div_two_pow (a &&& (256 ^ (k+1)-1-DU (k+1) m)) (b &&& DU (k+1) m) 8
   have q2:=@Nat.and_div_two_pow a (256 ^ (k+1)-1-DU (k+1) m) 8
   have q3:=@Nat.and_div_two_pow b (DU (k+1) m) 8
   have c:(2:Nat) ^ 8=256:=rfl
   rw[q2,q3,c,d1,d2,hx] at q1
   rw[q1,ih]
  have e2:x % 256=if m % 2=1 then b % 256 else a % 256:=by
   have h:x % 2 ^ 8=(a % 2 ^ 8 &&& (256 ^ (k+1)-1-DU (k+1) m) % 2 ^ 8) ||| (b % 2 ^ 8 &&& DU (k+1) m % 2 ^ 8):=by
    rw[← hx,Nat.or_mod_two_pow,Nat.and_mod_two_pow,Nat.and_mod_two_pow]
   have c:(2:Nat) ^ 8=256:=rfl
   rw[c,m1,m2] at h
   rw[h]
   have h255:(255:Nat)=2 ^ 8-1:=rfl
   split
   ·rw[h255,Nat.and_two_pow_sub_one_eq_mod];simp
   ·rw[h255,Nat.and_two_pow_sub_one_eq_mod];simp
  simp only[Z2]
  omega
theorem bH:∀ (k:Nat) (a b mask:Int),0≤a→0≤b→0≤mask→dY ((List.range k).map fun i=>if HE mask i=true then (DQ k b).getD i 0 else (DQ k a).getD i 0)=(Z2 k a.toNat b.toNat mask.toNat:Nat)
 |0,a,b,mask,_,_,_=>by simp[dY,Z2]
 |k+1,a,b,mask,ha,hb,hm=>by
  have ih:=bH k (a / 256) (b / 256) (mask / 2) (by omega) (by omega) (by omega)
  have e1:(a / 256).toNat=a.toNat / 256:=by omega
  have e2:(b / 256).toNat=b.toNat / 256:=by omega
  have e3:(mask / 2).toNat=mask.toNat / 2:=by omega
  rw[e1,e2,e3] at ih
  rw[List.range_succ_eq_map,List.map_cons,List.map_map,dY]
  have h:(List.range k).map ((fun i=>if HE mask i=true then (DQ (k+1) b).getD i 0 else (DQ (k+1) a).getD i 0) ∘ Nat.succ)=(List.range k).map fun i=>if HE (mask / 2) i=true then (DQ k (b / 256)).getD i 0 else (DQ k (a / 256)).getD i 0:=by
   refine List.map_congr_left fun i _=>?_
   have hn:HE mask (i+1)=HE (mask / 2) i:=by
    unfold HE
    have:mask / 2 ^ (i+1)=mask / 2 / 2 ^ i:=by
     rw[Int.ediv_ediv_of_nonneg (by decide),Int.pow_succ,Int.mul_comm]
    rw[this]
   simp[DQ,hn]
  rw[h,ih]
  have h0:(HE mask 0=true)=(mask.toNat % 2=1):=by
   simp[HE]
   omega
  simp only[h0,Z2,DQ,List.getD_cons_zero]
  split<;>omega
theorem pq {a b mask:Int} (ha:Ci a) (hb:Ci b) (h0:0≤mask):Zm a b mask=(Z2 8 a.toNat b.toNat mask.toNat:Nat):=by
 rw[← bH 8 a b mask ha.1 hb.1 h0]
 unfold Zm Nk Be
 rw[List.drop_eq_nil_of_le (by simp),List.append_nil]
def wS (mask:Int):Nat→Int
 |0=>0
 |i+1=>if bits .and .u8 (mask / 2 ^ min i 8) 1=1 then bits .or .u64 (wS mask i) (IntKind.u64.wrap (255*2 ^ min (8*i) 64)) else wS mask i
theorem xl:∀ m:Nat,m<256→wS m 8=(DU 8 m:Nat):=by decide +kernel
variable {n0:Nat} {w0:World} {I0:Nat→Prop} {Q:Exit→Sta→Prop}
theorem lN {mask:Int} (hq:∀ q,Q (.exit 0) ⟨lk [(0,u8 mask),(3,uv (wS mask 8)),(5,iv 8),(6,bv q)],HM []⟩) :
  ∀ (j i:Nat),i+j=8→LoopC (cx Tryz.prog w0 I0 n0) Jv Q ⟨lk [(0,u8 mask),(3,uv (wS mask i)),(5,iv i)],HM []⟩:=by
 intro j
 induction j with
 |zero=>
  intro i hi
  have:i=8:=by omega
  subst this
  refine Ad Ah Jv.eq_1 ?_
  simp
  exact hq _
 |succ j ih=>
  intro i hi
  refine Ad Ah Jv.eq_1 ?_
  have hlt:i<8:=by omega
  have hlt2:(i:Int)<8:=by omega
  have e8:IntKind.i64.wrap (8*(i:Int))=((8*i:Nat):Int):=(Af (by omega) (by omega)).trans (by omega)
  have ei:IntKind.i64.wrap ((i:Int)+1)=((i+1:Nat):Int):=Af (by omega) (by omega)
  have b8:IntKind.u8.bits=8:=rfl
  have b64:IntKind.u64.bits=64:=rfl
  have hs:=ih (i+1) (by omega)
  rw[wS] at hs
  have e9:(8*(i:Int)).toNat=8*i:=by omega
  simp[hlt,hlt2,e8,ei,b8,b64,e9]
  refine⟨fun hc=>⟨by omega,?_⟩,fun hc=>?_⟩
  ·rw[if_pos hc] at hs
   exact hs
  ·rw[if_neg hc] at hs
   exact hs
theorem Vt {mask:Int} (h0:0≤mask) (h1:mask<256):G.Spec Tryz.prog 218 [u8 mask] (uv (DU 8 mask.toNat:Nat)):=by
 refine Aj aX (by simp) fun w0 I0=>?_
 unfold TV
 simp
 obtain⟨m,rfl⟩:=Int.eq_ofNat_of_zero_le h0
 refine lN (fun q=>?_) 8 0 rfl
 simp
 rw[xl m (by omega)]
 exact Ab rfl
theorem S6 {x:Nat} (h:x<2 ^ 64):(BitVec.ofInt 64 (x:Int)).toNat=x:=by
 rw[BitVec.toNat_ofInt]
 omega
theorem xf {x y:Nat} (hx:x<2 ^ 64) (hy:y<2 ^ 64):bits .and .u64 x y=(x &&& y:Nat):=by
 have h:=Nat.lt_of_le_of_lt (Nat.and_le_left (n:=x) (m:=y)) hx
 show IntKind.u64.wrap ((BitVec.ofInt 64 x &&& BitVec.ofInt 64 y).toNat:Nat)=_
 rw[BitVec.toNat_and,S6 hx,S6 hy]
 exact BI (by omega) (by omega)
theorem Abj {x y:Nat} (hx:x<2 ^ 64) (hy:y<2 ^ 64):bits .or .u64 x y=(x ||| y:Nat):=by
 have h:=Nat.or_lt_two_pow hx hy
 show IntKind.u64.wrap ((BitVec.ofInt 64 x ||| BitVec.ofInt 64 y).toNat:Nat)=_
 rw[BitVec.toNat_or,S6 hx,S6 hy]
 exact BI (by omega) (by omega)
theorem sa {x y:Nat} (hx:x<2 ^ 64) (hy:y<2 ^ 64):bits .andNot .u64 x y=(x &&& (256 ^ 8-1-y):Nat):=by
 have h:=Nat.lt_of_le_of_lt (Nat.and_le_left (n:=x) (m:=256 ^ 8-1-y)) hx
 show IntKind.u64.wrap ((BitVec.ofInt 64 x &&& ~~~ BitVec.ofInt 64 y).toNat:Nat)=_
 rw[BitVec.toNat_and,BitVec.toNat_not,S6 hx,S6 hy]
 have e:(2:Nat) ^ 64-1-y=256 ^ 8-1-y:=rfl
 rw[e]
 exact BI (by omega) (by omega)
theorem Yq {a b mask:Int} (ha:Ci a) (hb:Ci b) (h0:0≤mask) (h1:mask<256):G.Spec Tryz.prog 174 [uv a,uv b,u8 mask] (uv (Zm a b mask)):=by
 refine Aj g9 (by simp) fun w0 I0=>?_
 unfold Wg
 simp
 refine Ae (Vt h0 h1) (by simp) ?_
 simp
 refine Ae (Vt h0 h1) (by simp) ?_
 simp
 refine BS ?_
 rw[pq ha hb h0]
 obtain⟨x,rfl⟩:=Int.eq_ofNat_of_zero_le ha.1
 obtain⟨y,rfl⟩:=Int.eq_ofNat_of_zero_le hb.1
 have hx:x<2 ^ 64:=by have:=ha.2;omega
 have hy:y<2 ^ 64:=by have:=hb.2;omega
 have hw:DU 8 mask.toNat<2 ^ 64:=Ww 8 _
 rw[sa hx hw,xf hy hw,Abj (Nat.lt_of_le_of_lt Nat.and_le_left hx) (Nat.lt_of_le_of_lt Nat.and_le_left hy)]
 have:=Yc 8 x y mask.toNat hx hy
 simp only[Int.toNat_natCast]
 rw[← this]
theorem qg:∀ i:Fin 8,∀ m:Fin 256,m.val<2 ^ i.val→bits .or .u8 (m.val:Int) ((2 ^ i.val:Nat):Int)=(m.val:Int)+((2 ^ i.val:Nat):Int):=by decide +kernel
def GD (x:Int) (i:Nat):Int:=x / 256 ^ i % 256
def Il (a b:Int):Nat→Nat
 |0=>0
 |k+1=>Il a b k+(if GD a k ≠ GD b k then 2 ^ k else 0)
def Kr (a b:Int):Int:=(Il a b 8:Nat)
theorem Vb (a b:Int):∀ k,Il a b k<2 ^ k
 |0=>by simp[Il]
 |k+1=>by
  have:=Vb a b k
  unfold Il
  rw[Nat.pow_succ]
  split<;>omega
theorem Vj (a b:Int):0≤Kr a b∧Kr a b<256:=by
 have:=Vb a b 8
 unfold Kr
 omega
theorem Ml:∀ (n:Nat) (x:Int) (i:Nat),i<n→(DQ n x)[i]? = some (GD x i)
 |n+1,x,0,_=>by simp[DQ,GD]
 |n+1,x,i+1,h=>by
  have:=Ml n (x / 256) i (by omega)
  simp only[DQ,List.getElem?_cons_succ]
  rw[this]
  unfold GD
  rw[Int.ediv_ediv_of_nonneg (by omega),Int.pow_succ,Int.mul_comm]
theorem pn {a b:Int} (ha:Ci a) (hb:Ci b) (i:Nat):GD (bits .xor .u64 a b) i=0 ↔ GD a i=GD b i:=by
 obtain⟨x,rfl⟩:∃ x:Nat,a=x:=⟨a.toNat,by unfold Ci at ha;omega⟩
 obtain⟨y,rfl⟩:∃ y:Nat,b=y:=⟨b.toNat,by unfold Ci at hb;omega⟩
 unfold Ci at ha hb
 rw[bits_xor_u64_nat x y (by omega) (by omega)]
 unfold GD
 have h:∀ z:Nat,((z:Int) / 256 ^ i % 256)=(((z / 2 ^ (8*i)) % 2 ^ 8:Nat):Int):=fun z=>by
  have h1:((256:Int) ^ i)=((2 ^ (8*i):Nat):Int):=by
   rw[Nat.pow_mul,Int.natCast_pow];rfl
  rw[h1,Int.natCast_emod,Int.natCast_ediv]
  rfl
 rw[h,h,h]
 have e:((x ^^^ y) / 2 ^ (8*i)) % 2 ^ 8=((x / 2 ^ (8*i)) % 2 ^ 8) ^^^ ((y / 2 ^ (8*i)) % 2 ^ 8):=by
  rw[← Nat.shiftRight_eq_div_pow,← Nat.shiftRight_eq_div_pow,← Nat.shiftRight_eq_div_pow,Nat.shiftRight_xor_distrib,Nat.xor_mod_two_pow]
 rw[e]
 constructor
 ·intro h
  have h:((x / 2 ^ (8*i)) % 2 ^ 8) ^^^ ((y / 2 ^ (8*i)) % 2 ^ 8)=0:=by omega
  generalize (x / 2 ^ (8*i)) % 2 ^ 8=p at h ⊢
  generalize (y / 2 ^ (8*i)) % 2 ^ 8=q at h ⊢
  have h2:p ^^^ q ^^^ q=q:=by rw[h,Nat.zero_xor]
  rw[Nat.xor_assoc,Nat.xor_self,Nat.xor_zero] at h2
  rw[h2]
 ·intro h
  have h:(x / 2 ^ (8*i)) % 2 ^ 8=(y / 2 ^ (8*i)) % 2 ^ 8:=by omega
  rw[h,Nat.xor_self]
  rfl
theorem xn {a b:Int} (ha:Ci a) (hb:Ci b) {H:Hp} (hq:∀ st,Q (.exit 0) ⟨lk ([(5,u8 (Kr a b))]++st),H⟩):∀ (m i:Nat),i+m=8 →
  LoopC (cx Tryz.prog w0 I0 n0) GZ Q ⟨lk [(5,u8 (Il a b i:Nat)),(11,.agg (Oq (Be (bits .xor .u64 a b)))),(12,iv i)],H⟩:=by
 intro m
 induction m with
 |zero=>
  intro i hm
  refine Ad Ah GZ.eq_1 ?_
  have:i=8:=by omega
  subst this
  simp
  exact hq [(11,.agg (Oq (Be (bits .xor .u64 a b)))),(12,iv 8),(13,bv false)]
 |succ m ih=>
  intro i hm
  have hi:i<8:=by omega
  have hi':(i:Int)<8:=by omega
  have ew:IntKind.i64.wrap ((i:Int)+1)=((i+1:Nat):Int):=An
  have hb1:(Be (bits .xor .u64 a b))[i]? = some (GD (bits .xor .u64 a b) i):=Ml 8 _ i hi
  have hx:=pn ha hb i
  have hlt:=Vb a b i
  have next:=ih (i+1) (by omega)
  refine Ad Ah GZ.eq_1 ?_
  by_cases h:GD a i=GD b i
  ·have h0:=hx.2 h
   have e:Il a b (i+1)=Il a b i:=by simp[Il,h]
   rw[e] at next
   simp[hi',hi,ew,Oq,hb1,h0]
   simpa[Oq] using next
  ·have h0:¬ GD (bits .xor .u64 a b) i=0:=fun e=>h (hx.1 e)
   have e:Il a b (i+1)=Il a b i+2 ^ i:=by simp[Il,h]
   rw[e] at next
   have p8:2 ^ i<256:=by
    have:2 ^ i≤2 ^ 7:=Nat.pow_le_pow_right (by omega) (by omega)
    omega
   have eb:IntKind.u8.wrap (2 ^ min i IntKind.u8.bits)=((2 ^ i:Nat):Int):=by
    have:min i IntKind.u8.bits=i:=Nat.min_eq_left (by show i≤8;omega)
    rw[this,IntKind.wrap_u8,Int.natCast_pow]
    have:((2:Int) ^ i)=((2 ^ i:Nat):Int):=by rw[Int.natCast_pow];rfl
    omega
   have eo:=qg ⟨i,hi⟩ ⟨Il a b i,by omega⟩ hlt
   simp only at eo
   simp[hi',hi,ew,Oq,hb1,h0]
   rw[eb,eo,← Int.natCast_add]
   simpa[Oq] using next
def WT (x:Int) (i:Nat):List Int:=(List.range 8).map fun j=>if j<i then GD x j else 0
theorem LX (x:Int) (i:Nat):(WT x i).length=8:=by simp[WT]
theorem kQ (x:Int):WT x 0=List.replicate 8 0:=by simp[WT];rfl
theorem oV (x:Int):WT x 8=Be x:=by
 apply List.ext_getElem?
 intro j
 by_cases h:j<8
 ·rw[show(Be x)[j]? = _ from Ml 8 x j h]
  simp[WT,h]
 ·rw[List.getElem?_eq_none (by rw[LX];omega),List.getElem?_eq_none (by simp[Be];omega)]
theorem om (x:Int) {i:Nat} (h:i<8):(WT x i).set i (GD x i)=WT x (i+1):=by
 apply List.ext_getElem?
 intro j
 by_cases hj:j<8
 ·by_cases e:j=i
  ·subst e
   rw[List.getElem?_set_self (by rw[LX];omega)]
   simp[WT,hj]
  ·rw[List.getElem?_set_ne (by omega)]
   simp[WT,hj]
   have:(j<i+1)=(j<i):=by simp;omega
   simp[this]
 ·rw[List.getElem?_eq_none (by simp[LX];omega),List.getElem?_eq_none (by rw[LX];omega)]
theorem tx {x:Int} (hx:Ci x) (hq:∀ (st:List (Nat × A)) (H:Hp),H [0]=⟨1,.cells (Oq (List.replicate 8 0))⟩→H [1]=⟨1,.cells (Oq (Be x))⟩→Q (.exit 0) ⟨lk ([(0,uv x),(2,.pob [0] 1 0),(3,.pob [1] 1 0)]++st),H⟩):∀ (m i:Nat) (H:Hp),i+m=8→H [0]=⟨1,.cells (Oq (List.replicate 8 0))⟩→H [1]=⟨1,.cells (Oq (WT x i))⟩ →
  LoopC (cx Tryz.prog w0 I0 n0) H9 Q ⟨lk [(0,uv x),(2,.pob [0] 1 0),(3,.pob [1] 1 0),(5,iv i)],H⟩:=by
 intro m
 induction m with
 |zero=>
  intro i H hm h0 h1
  refine Ad Ah H9.eq_1 ?_
  have:i=8:=by omega
  subst this
  rw[oV] at h1
  simp
  exact hq [(5,iv 8),(6,bv false)] H h0 h1
 |succ m ih=>
  intro i H hm h0 h1
  have hi:i<8:=by omega
  have hi':(i:Int)<8:=by omega
  have ew:IntKind.i64.wrap ((i:Int)+1)=((i+1:Nat):Int):=An
  have e8:IntKind.i64.wrap (8*(i:Int))=((8*i:Nat):Int):=(Af (by omega) (by omega)).trans (by omega)
  have b64:IntKind.u64.bits=64:=rfl
  have e9:(8*(i:Int)).toNat=8*i:=by omega
  have ev:IntKind.u8.wrap (x / 2 ^ min (8*i) 64)=GD x i:=by
   rw[IntKind.wrap_u8,Nat.min_eq_left (by omega)]
   unfold GD
   have h1:((256:Int) ^ i)=((2:Int) ^ (8*i)):=by rw[Int.pow_mul];rfl
   rw[h1]
   try rfl
  refine Ad Ah H9.eq_1 ?_
  simp[hi',hi,ew,e8,e9,b64,ev,h1,LX]
  refine⟨by omega,by omega,?_⟩
  rw[VU (by rw[LX];omega),om x hi]
  simpa using ih (i+1) _ (by omega) (by simp[Aa,h0]) (by simp[Aa])
theorem cH {x:Int} (h:Ci x):G.Spec Tryz.prog 217 [uv x] (.agg (Oq (Be x))):=by
 refine Aj aq (by simp) fun w0 I0=>?_
 unfold Rp
 simp
 refine LoopC.le (Ao [(0,uv x),(2,.pob [0] 1 0),(3,.pob [1] 1 0),(5,iv (0:Nat))] (by simp)) ?_
 refine tx h (fun st H h0 h1=>?_) 8 0 _ rfl (by simp[Aa]) (by simp[Aa,kQ])
 have e:List.take 8 (Oq (Be x))=Oq (Be x):=AI (by simp[Be])
 have el:(Be x).length=8:=by simp[Be]
 simp[h1,h0,Aa,e,el]
 exact⟨by simp[A.ones],X4⟩
theorem af {a b:Int} (ha:Ci a) (hb:Ci b):G.Spec Tryz.prog 173 [uv a,uv b] (u8 (Kr a b)):=by
 have hu:Ci (bits .xor .u64 a b):=by
  obtain⟨x,rfl⟩:∃ x:Nat,a=x:=⟨a.toNat,by unfold Ci at ha;omega⟩
  obtain⟨y,rfl⟩:∃ y:Nat,b=y:=⟨b.toNat,by unfold Ci at hb;omega⟩
  unfold Ci at ha hb
  rw[bits_xor_u64_nat x y (by omega) (by omega)]
  have:=@Nat.xor_lt_two_pow x y 64 (by omega) (by omega)
  unfold Ci
  omega
 refine Aj Xw (by simp) fun w0 I0=>?_
 unfold Pv
 simp
 refine Ae (cH hu) (by simp) ?_
 simp
 refine LoopC.le (Ao [(5,u8 (Il a b 0:Nat)),(11,.agg (Oq (Be (bits .xor .u64 a b)))),(12,iv (0:Nat))] (by simp[Il])) ?_
 refine xn ha hb (fun st=>?_) 8 0 rfl
 simp
 exact Ab rfl
theorem yr {a b:Int} {H:Hp} (h0:H [0]=⟨1,.cells (Oq (Be a))⟩) (h1:H [1]=⟨1,.cells (Oq (Be b))⟩) (hq:Q (.exit 0) ⟨lk [(5,.pob [0] 1 0),(6,.pob [1] 1 0),(7,iv (Kr a b)),(8,iv 256),(9,iv 8),(15,bv false)],H⟩):∀ (m i:Nat),i+m=8 →
  LoopC (cx Tryz.prog w0 I0 n0) Dw Q ⟨lk [(5,.pob [0] 1 0),(6,.pob [1] 1 0),(7,iv (Il a b i:Nat)),(8,iv (2 ^ i:Nat)),(9,iv i)],H⟩:=by
 intro m
 induction m with
 |zero=>
  intro i hm
  refine Ad Ah Dw.eq_1 ?_
  have:i=8:=by omega
  subst this
  simp
  exact hq
 |succ m ih=>
  intro i hm
  have hi:i<8:=by omega
  have hi':(i:Int)<8:=by omega
  have ew:IntKind.i64.wrap ((i:Int)+1)=((i+1:Nat):Int):=An
  have hg:∀ (x:Int) (g:i<(Be x).length),(Be x)[i]=GD x i:=fun x g=>by
   have:=Ml 8 x i hi
   exact(List.getElem_eq_iff g).2 this
  have hlt:=Vb a b i
  have p8:2 ^ i<256:=by
   have:2 ^ i≤2 ^ 7:=Nat.pow_le_pow_right (by omega) (by omega)
   omega
  have e2:IntKind.i64.wrap (2*((2 ^ i:Nat):Int))=((2 ^ (i+1):Nat):Int):=by rw[Af (by omega) (by omega),Nat.pow_succ];omega
  have e1:IntKind.i64.wrap ((Il a b i:Int)+((2 ^ i:Nat):Int))=((Il a b i+2 ^ i:Nat):Int):=An
  have next:=ih (i+1) (by omega)
  refine Ad Ah Dw.eq_1 ?_
  generalize hp:2 ^ i=p at *
  have hlb:∀ x:Int,(Be x).length=8:=fun x=>by simp[Be]
  by_cases h:GD a i=GD b i
  ·have e:Il a b (i+1)=Il a b i:=by simp[Il,h]
   rw[e] at next
   simp[hi',hi,ew,hg,h0,h1,h,hlb,e2,hp]
   simpa using next
  ·have e:Il a b (i+1)=Il a b i+p:=by simp[Il,h,hp]
   rw[e] at next
   simp[hi',hi,ew,hg,h0,h1,h,hlb,e2,hp]
   rw[e1]
   simpa using next
theorem ae {a b:Int} (ha:Ci a) (hb:Ci b):G.Spec Tryz.prog 161 [uv a,uv b] (u8 (Kr a b)):=by
 have hin:=Vj a b
 have e8:IntKind.u8.wrap (Kr a b)=Kr a b:=by rw[IntKind.wrap_u8];omega
 refine Aj Pg (by simp) fun w0 I0=>?_
 unfold IW
 simp
 refine Ae (Kv ha) (by simp) ?_
 simp
 refine Ae (Kv hb) (by simp) ?_
 simp
 have el:∀ x:Int,(Be x).length=8:=fun x=>by simp[Be]
 refine⟨⟨el a,by simp[A.ones]⟩,⟨el b,by simp[A.ones]⟩,?_⟩
 refine LoopC.le (Ao [(5,.pob [0] 1 0),(6,.pob [1] 1 0),(7,iv (Il a b 0:Nat)),(8,iv (2 ^ 0:Nat)),(9,iv (0:Nat))] (by simp[Il])) ?_
 refine yr (a:=a) (b:=b) (by simp[Aa,el]) (by simp[Aa,el]) ?_ 8 0 rfl
 simp[e8]
 exact Ab rfl
def wdE (at_:Int) (a b:Int):WE:=⟨at_,Kr a b,Zm 0 a (Kr a b),Zm 0 b (Kr a b)⟩
def WE0:WE:=⟨0,0,0,0⟩
theorem W5 {i a b:Int} (ha:Ci a) (hb:Ci b):G.Spec Tryz.prog 117 [iv i,uv a,uv b] (.tup [wX (if Kr a b=0 then WE0 else wdE i a b),bv (!decide (Kr a b=0))]):=by
 have hin:=Vj a b
 have z:Ci 0:=by unfold Ci;omega
 refine Aj cN (by simp) fun w0 I0=>?_
 unfold Uv
 simp
 refine Ae (af ha hb) (by simp) ?_
 by_cases h:Kr a b=0
 ·simp[h]
  exact Ab rfl
 ·simp[h]
  refine Ae (Yq z ha hin.1 hin.2) (by simp) ?_
  simp
  refine Ae (Yq z hb hin.1 hin.2) (by simp) ?_
  simp
  exact Ab rfl
theorem ai {l:List T}:∀ x,x ∈ l.map tA→Ez (fun _=>x):=fun x hx=>by
 obtain⟨t,_,rfl⟩:=List.mem_map.1 hx
 exact EN (tA_eq t) fun y hy=>by
  simp at hy
  rcases hy with rfl | rfl | rfl<;>rfl
abbrev trM (u:Nat) (l:List T):Fam:=qU u 3 (l.map tA) ai
theorem sb (t:T):Ez (fun _=>tX t):=EN rfl fun y hy=>by
 simp at hy
 rcases hy with rfl | rfl | rfl<;>rfl
theorem Wi {ks:List T} {n:T} {i:Nat} (h:i<ks.length) (e:ks[i]=n) (hb:∀ (x:Nat) (hx:x<i),ks[x]'(by omega) ≠ n):Fs ks n=i:=by
 unfold Fs
 rw[List.findIdx_eq h]
 refine⟨sameB_iff.2 e,fun j hj=>?_⟩
 rw[Bool.eq_false_iff]
 exact fun h2=>hb j hj (sameB_iff.1 h2)
noncomputable def dw (u:Nat) (ks:List T) (n:T):Nat:=if Fs ks n<ks.length then u else u+1
section
variable {n0:Nat} {w0:World} {I0:Nat→Prop} {M0:Nm→Nat→Prop} {m0:Mu} {Q:Exit→Sta→Prop}
theorem sT {ks:List T} (hw:∀ k,k ∈ ks→BB k) (hl:ks.length≤1000000) {n:T} {u:Nat} {H:Hp} (hN:H [2]=⟨1,.cells (tL n)⟩) (hK:H [0]=⟨u,.arr 3 (ks.map tA)⟩)
  (hq:Fs ks n=ks.length→∀ i q,Q (.exit 0) ⟨lk [(0,.osl [0] u 3 0 ks.length),(6,.pob [2] 1 0),(7,i),(13,bv q)],H⟩) (hq2:Fs ks n<ks.length→Q .ret ⟨lk [(4,.osl [0] u 3 0 ks.length),(5,nv (Fs ks n))],H⟩):∀ (j i:Nat),i+j=ks.length→(∀ (x:Nat) (hx:x<i) (h:x<ks.length),ks[x] ≠ n) →
  LoopC (EP Tryz.prog w0 I0 M0 n0 m0) D5 Q ⟨lk [(0,.osl [0] u 3 0 ks.length),(6,.pob [2] 1 0),(7,nv i)],H⟩:=by
 intro j
 induction j with
 |zero=>
  intro i hi hb
  have:i=ks.length:=by omega
  subst this
  refine Ad Ah D5.eq_1 ?_
  simp
  exact hq (TU fun hm=>by
   obtain⟨x,hx,e⟩:=List.mem_iff_getElem.1 hm
   exact hb x hx hx e) _ _
 |succ j ih=>
  intro i hi hb
  have hlt:i<ks.length:=by omega
  have ei:IntKind.i64.wrap ((i:Int)+1)=((i+1:Nat):Int):=Af (by omega) (by omega)
  refine Ad Ah D5.eq_1 ?_
  simp[hlt,hN,hK]
  refine Ae (Ot _ (hw _ (Bq hlt)) n) (by simp) ?_
  by_cases he:ks[i]=n
  ·have hc:=Wi hlt he fun x hx=>hb x hx (by omega)
   rw[hc] at hq2
   have:GR ks[i] n=true:=sameB_iff.2 he
   simp[this]
   exact hq2 hlt
  ·have:GR ks[i] n=false:=by rw[Bool.eq_false_iff];exact fun h=>he (sameB_iff.1 h)
   simp[this,ei]
   refine ih (i+1) (by omega) fun x hx h=>?_
   by_cases e:x=i
   ·subst e;exact he
   ·exact hb x (by omega) h
end
theorem bW {ks:List T} (hw:∀ k,k ∈ ks→BB k) (hl:ks.length≤1000000) {t:T} (ht:BB t) (u:Nat) :
  A4 Tryz.prog 211 (fun r=>[.osl [r] u 3 0 ks.length,tX t]) (trM u ks) (fun r=>.tup [.osl [r] (dw u ks (Ai t)) 3 0 (Ji ks (Ai t)).length,nv (Fs ks (Ai t))]) (trM (dw u ks (Ai t)) (Ji ks (Ai t))):=by
 refine Ax PX (by simp) (Ag B8 (Ag (sb t) Am)) (Bn (Ag B8 (Ag AE Am))) fun w0 I0 M0 m0=>?_
 unfold Ki
 simp
 refine Ae (Fl t ht) (by simp) ?_
 simp
 refine sT hw hl (n:=Ai t) (u:=u) (by simp) (by simp) (fun hc i q=>?_) (fun hc=>?_) ks.length 0 (by omega) (fun x hx=>by omega)
 ·have h1:dw u ks (Ai t)=u+1:=by simp[dw,hc]
  have h2:Ji ks (Ai t)=ks++[Ai t]:=by simp[Ji,hc]
  have h3:(ks.length+1)*56≤140737488355328:=by omega
  simp[h3]
  refine AH rfl ?_ fun p=>?_
  ·simp[h1,h2,hc]
  ·rw[h1,h2]
   by_cases hp:p=[]
   ·subst hp;simp[Aa,AI]
   ·simp[Aa,hp]
 ·have h1:dw u ks (Ai t)=u:=by simp[dw,hc]
  have h2:Ji ks (Ai t)=ks:=by simp[Ji,hc]
  simp[h1,h2]
  exact AH rfl rfl fun p=>rfl
noncomputable def KC:Nat→List T→List T→Nat
 |u,_,[]=>u
 |u,ks,t::l=>KC (dw u ks (Ai t)) (Ji ks (Ai t)) l
theorem Rn:∀ (l:List T) (u:Nat) (ks:List T) (t:T),KC u ks (l++[t])=dw (KC u ks l) (Bf ks l).1 (Ai t)
 |[],u,ks,t=>by simp[KC,Bf]
 |a::l,u,ks,t=>by simp[KC,Bf,Rn l]
theorem pM (ks:List T) (n:T):(Ji ks n).length≤ks.length+1:=by
 unfold Ji
 split<;>simp
theorem NX:∀ (l ks:List T),(Bf ks l).1.length≤ks.length+l.length
 |[],ks=>by simp[Bf]
 |t::l,ks=>by
  have:=NX l (Ji ks (Ai t))
  have:=pM ks (Ai t)
  simp only[Bf,List.length_cons]
  omega
theorem uf {ks:List T} {n:T} (h:∀ k,k ∈ ks→BB k) (hn:BB n):∀ k,k ∈ Ji ks n→BB k:=by
 unfold Ji
 split
 ·exact h
 ·intro k hk
  rcases List.mem_append.1 hk with hk | hk
  ·exact h k hk
  ·simp at hk;subst hk;exact hn
theorem RR:∀ {l ks:List T},(∀ k,k ∈ ks→BB k)→(∀ k,k ∈ l→BB k)→∀ k,k ∈ (Bf ks l).1→BB k
 |[],ks,h,_=>h
 |t::l,ks,h,hl=>RR (l:=l) (uf h (GM _ (hl t (by simp)))) fun k hk=>hl k (by simp[hk])
section
variable {n0:Nat} {w0:World} {I0:Nat→Prop} {M0:Nm→Nat→Prop} {m0:Mu} {Q:Exit→Sta→Prop}
theorem oY {ks0 ts:List T} (hw:∀ k,k ∈ ks0→BB k) (ht:∀ k,k ∈ ts→BB k) (hl:ks0.length+ts.length≤1000000) {u0:Nat} (hq:∀ (q:Bool) (H:Hp),(∀ p,H (0::p)=(trM (KC u0 ks0 ts) (Bf ks0 ts).1).F 0 p)→(∀ p,H (1::p)=(nvM (ts.length+1) (Bf ks0 ts).2).F 1 p) →
   Q (.exit 0) ⟨lk [(0,.osl [0] (KC u0 ks0 ts) 3 0 (Bf ks0 ts).1.length),(1,Ba ts),(6,.osl [1] (ts.length+1) 1 0 ts.length),(7,nv ts.length),(13,bv q)],H⟩) :
  ∀ (j i:Nat) (H:Hp),i+j=ts.length→(∀ p,H (0::p)=(trM (KC u0 ks0 (ts.take i)) (Bf ks0 (ts.take i)).1).F 0 p)→(∀ p,H (1::p)=(nvM (i+1) (Bf ks0 (ts.take i)).2).F 1 p) →
  LoopC (EP Tryz.prog w0 I0 M0 n0 m0) C7 Q ⟨lk [(0,.osl [0] (KC u0 ks0 (ts.take i)) 3 0 (Bf ks0 (ts.take i)).1.length),(1,Ba ts),(6,.osl [1] (i+1) 1 0 i),(7,nv i)],H⟩:=by
 intro j
 induction j with
 |zero=>
  intro i H hi hH hN
  have:i=ts.length:=by omega
  subst this
  rw[AI (BW _)] at hH hN ⊢
  refine Ad Ah C7.eq_1 ?_
  simp
  exact hq _ H hH hN
 |succ j ih=>
  intro i H hi hH hN
  have hlt:i<ts.length:=by omega
  have ei:IntKind.i64.wrap ((i:Int)+1)=((i+1:Nat):Int):=Af (by omega) (by omega)
  have htk:ts.take (i+1)=ts.take i++[ts[i]]:=Fj hlt
  have hlen:=NX (ts.take i) ks0
  rw[List.length_take,Nat.min_eq_left (by omega)] at hlen
  have hwt:=ht _ (Bq hlt)
  have hC:=bW (RR hw (l:=ts.take i) fun k hk=>ht k (O5 hk)) (by omega) hwt (KC u0 ks0 (ts.take i))
  have hlL:(Bf ks0 (ts.take i)).2.length=i:=by rw[Bl,List.length_take,Nat.min_eq_left (by omega)]
  have ihn:=ih (i+1)
  rw[htk,Rn,Ky] at ihn
  simp only at ihn
  have hN0:=hN []
  simp at hN0
  refine Ad Ah C7.eq_1 ?_
  simp[hlt]
  refine Au 0 hC hH (by simp) (by simp) ?_
  generalize (Bf ks0 (ts.take i)).2=L at hN hN0 ihn hlL
  simp[hN0,ei]
  refine⟨⟨by omega,by omega⟩,?_⟩
  refine ihn _ (by omega) (fun p=>by simp) (fun p=>?_)
  by_cases hp:p=[]
  ·subst hp
   simp[Aa,AI,hlL]
  ·simp[Aa,hp,hN]
end
theorem PR {ks ts:List T} (hw:∀ k,k ∈ ks→BB k) (ht:∀ k,k ∈ ts→BB k) (hl:ks.length+ts.length≤1000000) (u:Nat) :
  bE Tryz.prog 165 (fun r=>[.osl [r] u 3 0 ks.length,Ba ts]) (trM u ks) (fun r q=>.tup [.osl [r] (KC u ks ts) 3 0 (Bf ks ts).1.length,.osl [q] (ts.length+1) 1 0 ts.length]) (trM (KC u ks ts) (Bf ks ts).1) (nvM (ts.length+1) (Bf ks ts).2):=by
 refine W0 Oh (by simp) (Ag B8 (Ag De Am)) (TJ (BD (E6 B8) (BD (RG B8) LG))) (fun p=>?_) fun w0 I0 M0 m0=>?_
 ·by_cases hp:p=[]
  ·subst hp;exact .inr (by simp)
  ·exact .inl (by simp[hp])
 unfold Ip
 simp
 refine LoopC.le (BX 6 [1] 1 (by simp)) ?_
 simp
 refine LoopC.le (Ao [(0,.osl [0] u 3 0 ks.length),(1,Ba ts),(6,.osl [1] 1 1 0 0),(7,nv 0)] (by simp[upd])) ?_
 refine oY hw ht hl (u0:=u) (fun q H h1 h2=>?_) ts.length 0 _ (by omega) (fun p=>by simp[KC,Bf]) (fun p=>?_)
 ·simp
  exact JA rfl rfl h1 h2
 ·by_cases hp:p=[]
  ·subst hp
   simp[Bf]
  ·simp[hp,Ne.symm hp]
section
variable {n0:Nat} {w0:World} {I0:Nat→Prop} {Q:Exit→Sta→Prop} {H:Hp}
end
end Go.Proofs.YtbjmaoedheiigaaGreat
namespace Go.PL
def hd (t:T):Int:=t.words.headD 0
structure PutI (w i:Nat) (out:List Int):Prop where
 rng:∀ (j:Nat) (h:j<out.length),0≤out[j]∧out[j]<18446744073709551616
 here:∀ (h:i*w / 64<out.length),out[i*w / 64]<2 ^ (i*w % 64)
 zero:∀ (j:Nat) (h:j<out.length),i*w / 64<j→out[j]=0
theorem PutI.start (w m:Nat):PutI w 0 (List.replicate m 0):=⟨fun j h=>by simp,fun h=>by simp,fun j h _=>by simp⟩
def wdT (t:T) (i:Nat):Int:=t.words.getD i 0
def kdT (t:T) (i:Nat):T:=t.kids.getD i T0
inductive SmT:T→Prop
 |mk (k:Int) (w:List Int) (l:List T):l.length≤1048576→(∀ t,t ∈ l→SmT t)→SmT (.mk k w l)
theorem SmT.len {t:T} (h:SmT t):t.kids.length≤1048576:=by cases h;assumption
theorem SmT.kid {t:T} (h:SmT t):∀ c,c ∈ t.kids→SmT c:=by cases h;assumption
theorem Aey:SmT T0:=.mk _ _ _ (Nat.zero_le _) (fun t h=>by cases h)
theorem SmT.kd {t:T} (h:SmT t) (i:Nat):SmT (kdT t i):=by
 unfold kdT
 rw[List.getD_eq_getElem?_getD]
 cases e:t.kids[i]? with
 |none=>exact Aey
 |some x=>exact h.kid x (List.mem_of_getElem? e)
end Go.PL
namespace Go.Proofs.YtbjmaoedheiigaaGreat
open Go Go.G Go.Proofs Go.PL
theorem WB (k:Int):G.Spec Tryz.prog 61 [iv k] (bv (decide (2≤k)&&decide (k≤9))):=by
 refine Aj bw (by simp) fun w0 I0=>?_
 unfold TW
 simp
 exact Ab rfl
variable {n0:Nat} {w0:World} {I0:Nat→Prop} {Q:Exit→Sta→Prop}
theorem wo {a b:List Int} (hl:a.length=b.length) (hb:a.length*8≤140737488355328) {H:Hp}:∀ (m i:Nat),i+m=a.length→a.take i=b.take i→(a=b→∀ q,Q (.exit 0) ⟨lk [(0,C5 a),(1,C5 b),(12,iv a.length),(13,iv a.length),(14,bv q)],H⟩)→(a ≠ b→Q .ret ⟨lk [(4,bv false)],H⟩) →
  LoopC (cx Tryz.prog w0 I0 n0) BM Q ⟨lk [(0,C5 a),(1,C5 b),(12,iv a.length),(13,iv i)],H⟩:=by
 intro m
 induction m with
 |zero=>
  intro i hi ht h1 h2
  have:i=a.length:=by omega
  subst this
  rw[AI (BW _),AI (by omega)] at ht
  refine Ad Ah BM.eq_1 ?_
  simp
  exact h1 ht _
 |succ m ih=>
  intro i hi ht h1 h2
  have hlt:i<a.length:=by omega
  have hlt':i<b.length:=by omega
  have ei:IntKind.i64.wrap ((i:Int)+1)=((i+1:Nat):Int):=Af (by omega) (by omega)
  refine Ad Ah BM.eq_1 ?_
  by_cases e:a[i]=b[i]
  ·simp[hlt,hlt',e,ei]
   refine ih (i+1) (by omega) ?_ h1 h2
   rw[Fj hlt,Fj hlt',ht,e]
  ·simp[hlt,hlt',e]
   exact h2 fun q=>e (by simp[q])
theorem aQ (a b:List Int) (hb:a.length*8≤140737488355328):G.Spec Tryz.prog 114 [C5 a,C5 b] (bv (decide (a=b))):=by
 refine Aj IH (by simp) fun w0 I0=>?_
 unfold EL
 by_cases hl:a.length=b.length
 ·simp[hl]
  have:=wo (n0:=26) (w0:=w0) (I0:=I0) (a:=a) (b:=b) (H:=HM []) (Q:=Bu 0 (DB (WPC (cx Tryz.prog w0 I0 26) (.keep [] (.seq (.reg [co (some 4) (.assign (.const (.bool true))) none] [4]) .ret)) (RY Tryz.prog [.tmp 4] (bv (decide (a=b))))) (RY Tryz.prog [.tmp 4] (bv (decide (a=b)))))) hl hb a.length 0 (by simp) rfl (fun e q=>?_) (fun e=>?_)
  ·rw[hl] at this
   simpa using this
  ·simp
   exact Bm (by simp[e])
  ·simp
   exact Bm (by simp[e])
 ·have hl':¬ (a.length:Int)=b.length:=by omega
  simp[hl,hl']
  exact Bm (by simp;intro e;exact absurd (by rw[e]) hl)
theorem px {t u:T} (h:t.kind ≠ u.kind∨t.kind=0):KJ t u=decide (t.kind=u.kind):=by
 rw[Bool.eq_iff_iff,eqT_iff,decide_eq_true_eq]
 constructor
 ·intro e;rw[← CL t,e,CL]
 ·intro e
  rcases h with h | h
  ·exact absurd e h
  ·rw[HA h,HA (by omega)]
theorem T7 {t u:T} (h:t.kind ≠ u.kind∨t.kind=0):G.Spec Tryz.prog 59 [tX t,tX u] (bv (KJ t u)):=by
 refine Aj Sl (by simp) fun w0 I0=>?_
 unfold MG
 rw[px h]
 by_cases e:t.kind=u.kind
 ·have h0:u.kind=0:=by omega
  simp[e,h0]
  exact Ab rfl
 ·simp[e]
  exact Bm (by simp[e])
theorem lW {t u:T} {n:Nat} (hN:n≤100000000000000) {H:Hp} (h0:H [0]=⟨1,.cells (tL t)⟩) (h1:H [1]=⟨1,.cells (tL u)⟩)
  (hq:(∀ i,i<n→t.words.getD i 0=u.words.getD i 0)→∀ (q:Bool),Q (.exit 0) ⟨lk [(2,.pob [0] 1 0),(3,.pob [1] 1 0),(48,iv n),(49,iv n),(50,bv q)],H⟩)
  (hf:(∃ i,t.words.getD i 0 ≠ u.words.getD i 0)→Q .ret ⟨lk [(4,bv false)],H⟩) :
  ∀ (j i:Nat),i+j=n→(∀ i',i'<i→t.words.getD i' 0=u.words.getD i' 0) →
  LoopC (cx Tryz.prog w0 I0 n0) HS Q ⟨lk [(2,.pob [0] 1 0),(3,.pob [1] 1 0),(48,iv n),(49,iv i)],H⟩:=by
 intro j
 induction j with
 |zero=>
  intro i hi he
  have:i=n:=by omega
  subst this
  refine Ad Ah HS.eq_1 ?_
  simp
  exact hq he _
 |succ j ih=>
  intro i hi he
  have hlt:i<n:=by omega
  have ei:IntKind.i64.wrap ((i:Int)+1)=((i+1:Nat):Int):=Af (by omega) (by omega)
  refine Ad Ah HS.eq_1 ?_
  simp[hlt,h0,h1]
  refine Ae (HP t i) (by simp) ?_
  simp[h0,h1]
  refine Ae (HP u i) (by simp) ?_
  by_cases hw:t.words.getD i 0=u.words.getD i 0
  ·have hw':=hw
   simp only[List.getD_eq_getElem?_getD] at hw'
   simp[hw',ei]
   refine ih (i+1) (by omega) (fun i' hi'=>?_)
   by_cases e:i'=i
   ·rw[e];exact hw
   ·exact he i' (by omega)
  ·have hw':=hw
   simp only[List.getD_eq_getElem?_getD] at hw'
   simp[hw']
   exact hf ⟨i,hw⟩
theorem getD_none {α:Type} {l:List α} {i:Nat} {z:α} (h:l.length≤i):l.getD i z=z:=by rw[List.getD_eq_getElem?_getD,List.getElem?_eq_none h];rfl
theorem bV {u:T} (hw:BB u) (i:Nat):BB (u.kids.getD i T0):=by
 by_cases hi':i<u.kids.length
 ·have e:u.kids.getD i T0=u.kids[i]:=by simp[List.getD_eq_getElem?_getD,hi']
  rw[e]
  exact(wfT_iff.1 hw).ks _ (Bq hi')
 ·have e:u.kids.getD i T0=T0:=by rw[List.getD_eq_getElem?_getD,List.getElem?_eq_none (by simpa using hi')];rfl
  rw[e]
  exact wfT_iff.2 ⟨by simp[BQ],by simp,by simp,by simp,by simp⟩
def EqG (t:T):Prop:=∀ u:T,BB t→BB u→G.Spec Tryz.prog 59 [tX t,tX u] (bv (KJ t u))
theorem iP {k:Int} {w:List Int} {a:List T} {u:T} (h0:k ≠ 0):KJ (.mk k w a) u=true ↔ k=u.kind∧(k=1∨(a.length=u.kids.length∧w=u.words))∧(∀ i,w.getD i 0=u.words.getD i 0)∧∀ i,Ai (a.getD i T0)=Ai (u.kids.getD i T0):=by
 rw[eqT_iff]
 obtain⟨k',w',b⟩:=u
 by_cases hk:k=k'
 rotate_left
 ·constructor
  ·intro h
   have:=congrArg T.kind h
   simp at this
   exact absurd this hk
  ·intro h;exact absurd h.1 hk
 subst hk
 by_cases h1:k=1
 ·subst h1
  rw[YF]
  simp
 rw[o0 h0 h1]
 constructor
 ·rintro⟨rfl,h⟩
  have hl:a.length=b.length:=by simpa using congrArg List.length h
  exact⟨rfl,.inr ⟨hl,rfl⟩,fun i=>rfl,(Yh hl).1 h⟩
 ·rintro⟨_,h,_,h3⟩
  rcases h with h | ⟨hl,rfl⟩
  ·exact absurd h h1
  ·exact⟨rfl,(Yh hl).2 h3⟩
theorem yG {t u:T} {n:Nat} (hn:n≤100000000000000) (hw:BB t) (hwu:BB u) (hk:∀ i,i<n→EqG (t.kids.getD i T0)) {H:Hp} (h0:H [0]=⟨1,.cells (tL t)⟩) (h1:H [1]=⟨1,.cells (tL u)⟩)
  (hq:(∀ i,i<n→Ai (t.kids.getD i T0)=Ai (u.kids.getD i T0))→∀ (q:Bool),Q (.exit 2) ⟨lk [(2,.pob [0] 1 0),(3,.pob [1] 1 0),(66,iv n),(67,iv n),(68,bv q)],H⟩)
  (hf:(∃ i,Ai (t.kids.getD i T0) ≠ Ai (u.kids.getD i T0))→Q .ret ⟨lk [(4,bv false)],H⟩) :
  ∀ (j i:Nat),i+j=n→(∀ i',i'<i→Ai (t.kids.getD i' T0)=Ai (u.kids.getD i' T0)) →
  LoopC (cx Tryz.prog w0 I0 n0) HY Q ⟨lk [(2,.pob [0] 1 0),(3,.pob [1] 1 0),(66,iv n),(67,iv i)],H⟩:=by
 intro j
 induction j with
 |zero=>
  intro i hi he
  have:i=n:=by omega
  subst this
  refine Ad Ah HY.eq_1 ?_
  simp
  exact hq he _
 |succ j ih=>
  intro i hi he
  have hlt:i<n:=by omega
  have ei:IntKind.i64.wrap ((i:Int)+1)=((i+1:Nat):Int):=Af (by omega) (by omega)
  have hrec:=hk i hlt (u.kids.getD i T0) (bV hw i) (bV hwu i)
  refine Ad Ah HY.eq_1 ?_
  simp[hlt,h0,h1]
  refine Ae (Ju t i) (by simp) ?_
  simp[h0,h1]
  refine Ae (Ju u i) (by simp) ?_
  simp[h0,h1]
  refine Ae hrec (by simp) ?_
  cases hb:KJ (t.kids.getD i T0) (u.kids.getD i T0) with
  |true=>
   simp[ei]
   refine ih (i+1) (by omega) (fun i' hi'=>?_)
   by_cases e:i'=i
   ·rw[e];exact eqT_iff.1 hb
   ·exact he i' (by omega)
  |false=>
   simp
   exact hf ⟨i,fun e=>by rw[eqT_iff.2 e] at hb;cases hb⟩
set_option maxRecDepth 8000 in
theorem tP:∀ t:T,EqG t:=by
 refine T.ind fun k w ks ih u hw hwu=>?_
 have hw':=wfT_iff.1 hw
 have hu':=wfT_iff.1 hwu
 have hwl:=hw'.wl
 have hkl:=hw'.kl
 have hul:=hu'.wl
 have huk:=hu'.kl
 simp only[T.words_mk,T.kids_mk] at hwl hkl
 have hk0:∀ i,EqG ((T.mk k w ks).kids.getD i T0):=fun i=>by
  by_cases hi:i<ks.length
  ·have e:(T.mk k w ks).kids.getD i T0=ks[i]:=by simp[List.getD_eq_getElem?_getD,hi]
   rw[e];exact ih _ (Bq hi)
  ·have e:(T.mk k w ks).kids.getD i T0=T0:=getD_none (by simpa using hi)
   rw[e]
   intro u _ _
   exact T7 (.inr rfl)
 by_cases hkk:k ≠ u.kind∨k=0
 ·exact T7 hkk
 have h1:k=u.kind:=by omega
 have h0:¬ u.kind=0:=by omega
 simp only[T.kids_mk] at hk0
 have yes:(k=1∨(ks.length=u.kids.length∧w=u.words))→(∀ i,w.getD i 0=u.words.getD i 0)→(∀ i,Ai (ks.getD i T0)=Ai (u.kids.getD i T0))→KJ (.mk k w ks) u=true:=fun a b c=>(iP (by omega)).2 ⟨h1,a,b,c⟩
 have no:¬ ((k=1∨(ks.length=u.kids.length∧w=u.words))∧(∀ i,w.getD i 0=u.words.getD i 0)∧(∀ i,Ai (ks.getD i T0)=Ai (u.kids.getD i T0)))→KJ (.mk k w ks) u=false:=fun h=>by
  rw[Bool.eq_false_iff]
  intro e
  exact h ((iP (by omega)).1 e).2
 obtain⟨N,hN⟩:∃ N:Nat,N=max w.length u.words.length:=⟨_,rfl⟩
 obtain⟨M,hM⟩:∃ M:Nat,M=max ks.length u.kids.length:=⟨_,rfl⟩
 have eN:max (w.length:Int) (u.words.length:Int)=(N:Int):=by omega
 have eM:max (ks.length:Int) (u.kids.length:Int)=(M:Int):=by omega
 refine Aj Sl (by simp) fun w0 I0=>?_
 have main:(k=1∨(ks.length=u.kids.length∧w=u.words))→WPC (cx Tryz.prog w0 I0 79) Lj (RY Tryz.prog [.tmp 4] (bv (KJ (.mk k w ks) u))) ⟨lk [(2,.pob [0] 1 0),(3,.pob [1] 1 0)],HM [([0],⟨1,.cells [iv k,C5 w,Ba ks]⟩),([1],⟨1,.cells [iv u.kind,C5 u.words,Ba u.kids]⟩)]⟩:=fun hc=>by
  rw[Lj.eq_1]
  simp[eN]
  refine lW (t:=.mk k w ks) (u:=u) (by omega) (by simp) (by simp) (fun he q=>?_) (fun hf=>?_) N 0 (by omega) (fun i hi=>by omega)
  ·have heq:∀ i,w.getD i 0=u.words.getD i 0:=fun i=>by
    by_cases hi:i<N
    ·exact he i hi
    ·rw[getD_none (by omega),getD_none (by omega)]
   simp[eM]
   refine yG (t:=.mk k w ks) (u:=u) (by omega) hw hwu (fun i _=>hk0 i) (by simp) (by simp) (fun he2 q=>?_) (fun hf=>?_) M 0 (by omega) (fun i hi=>by omega)
   ·simp
    refine Bm (yes hc heq fun i=>?_).symm
    by_cases hi:i<M
    ·exact he2 i hi
    ·rw[getD_none (by omega),getD_none (by omega)]
   ·simp
    refine Bm (no fun h=>?_).symm
    obtain⟨i,hi⟩:=hf
    exact hi (h.2.2 i)
  ·simp
   refine Bm (no fun h=>?_).symm
   obtain⟨i,hi⟩:=hf
   exact hi (h.2.1 i)
 unfold MG
 by_cases k1:k=1
 ·have u1:u.kind=1:=by omega
  have hm:=main (.inl k1)
  rw[u1] at hm
  subst k1
  simp[u1]
  refine A8 rfl ?_
  simp
  exact Ep hm
 ·have u1:¬ u.kind=1:=by omega
  by_cases hl:ks.length=u.kids.length
  ·have hl':(ks.length:Int)=u.kids.length:=by omega
   simp[h1,h0,u1,hl']
   refine Bj rfl (fun _=>aQ w u.words (by omega)) (fun _=>rfl) rfl ?_
   by_cases hww:w=u.words
   ·simp[hww]
    have:=main (.inr ⟨hl,hww⟩)
    rw[h1,hww] at this
    exact Ep this
   ·simp[hww]
    refine Bm ?_
    rw[← h1]
    refine(no fun h=>?_).symm
    rcases h.1 with h | h
    ·exact k1 h
    ·exact hww h.2
  ·have hl':¬ (ks.length:Int)=u.kids.length:=by omega
   simp[h1,h0,u1,hl,hl']
   refine A8 rfl ?_
   simp
   refine Bm ?_
   rw[← h1]
   exact(no fun h=>by
    rcases h.1 with h | h
    ·exact k1 h
    ·exact hl h.1).symm
theorem Xk {t u:T} (hw:BB t) (hwu:BB u):G.Spec Tryz.prog 59 [tX t,tX u] (bv (KJ t u)):=tP t u hw hwu
def vJ (v:Nat) (l:List T):Fam:=⟨fun r p=>if p=[] then ⟨1,.cells [.osl (r::[0]) v 3 0 l.length]⟩ else if p=[0] then ⟨v,.arr 3 (l.map tA)⟩ else ⟨0,.none⟩,fun {γ δ r r'} hg hd p=>by
  by_cases h1:p=[]
  ·rw[if_pos h1,if_pos h1]
   refine Fam.cells_ren ?_
   simp[A.renL,A.ren,hg,hd]
  ·rw[if_neg h1,if_neg h1]
   by_cases h2:p=[0]
   ·rw[if_pos h2]
    exact Fam.arr_ren ((FamL.all ai).ren hg hd)
   ·rw[if_neg h2];rfl,fun {D r} hD p=>by
  by_cases h1:p=[]
  ·rw[if_pos h1]
   simp[Ob.refs,A.refsL,A.refs,hD]
  ·rw[if_neg h1]
   by_cases h2:p=[0]
   ·rw[if_pos h2]
    exact(FamL.all ai).refs hD
   ·rw[if_neg h2];trivial⟩
@[simp] theorem AiN {v:Nat} {l:List T} {r:Nat} {p:Nm}:(vJ v l).F r p=if p=[] then ⟨1,.cells [.osl (r::[0]) v 3 0 l.length]⟩ else if p=[0] then ⟨v,.arr 3 (l.map tA)⟩ else ⟨0,.none⟩:=rfl
noncomputable def ofU (v:Nat) (ks:List T) (t:T):Nat:=if Fs ks t<ks.length then v else v+1
noncomputable def WQ:Nat→List T→List T→Nat
 |v,_,[]=>v
 |v,ks,t::l=>WQ (ofU v ks (Ai t)) (Ji ks (Ai t)) l
theorem Ut:∀ (l:List T) (u:Nat) (ks:List T) (t:T),WQ u ks (l++[t])=ofU (WQ u ks l) (Bf ks l).1 (Ai t)
 |[],u,ks,t=>by simp[WQ,Bf]
 |a::l,u,ks,t=>by simp[WQ,Bf,Ut l]
theorem rp {ks:List T} {n:T} (h:∀ k,k ∈ ks→Ai k=k) (hn:Ai n=n):∀ k,k ∈ Ji ks n→Ai k=k:=by
 unfold Ji
 split
 ·exact h
 ·intro k hk
  rcases List.mem_append.1 hk with hk | hk
  ·exact h k hk
  ·simp at hk;subst hk;exact hn
theorem V5:∀ {l ks:List T},(∀ k,k ∈ ks→Ai k=k)→∀ k,k ∈ (Bf ks l).1→Ai k=k
 |[],ks,h=>h
 |t::l,ks,h=>V5 (l:=l) (rp h (LA t))
section
variable {n0:Nat} {w0:World} {I0:Nat→Prop} {M0:Nm→Nat→Prop} {m0:Mu} {Q:Exit→Sta→Prop}
theorem AdO {ks:List T} (hw:∀ k,k ∈ ks→BB k) (hn:∀ k,k ∈ ks→Ai k=k) (hl:ks.length≤1000000) {t:T} (wt:BB t) (nt:Ai t=t) {v w i N y:Nat} {na:Nat} {acc:List Nat} (hna:na=acc.length) (hacc:acc.length≤1000000) {X:A}
  (hq:Fs ks t=ks.length→∀ (st:List (Nat × A)) (H':Hp),(∀ p,H' (0::p)=(vJ v ks).F 0 p)→H' [1]=⟨y,.cells (tL t)⟩→H' [3]=⟨w,.arr 1 (acc.map nv)⟩→Q (.exit 2) ⟨lk ([(0,.pob [0] 1 0),(5,.osl [3] w 1 0 na),(7,.pob [1] y 0),(10,X),(11,iv N),(12,iv i)]++st),H'⟩)
  (hq2:Fs ks t<ks.length→∀ (H':Hp),(∀ p,H' (0::p)=(vJ v ks).F 0 p)→H' [3]=⟨w+1,.arr 1 ((acc++[Fs ks t]).map nv)⟩→Q (.exit 1) ⟨lk [(0,.pob [0] 1 0),(5,.osl [3] (w+1) 1 0 (na+1)),(10,X),(11,iv N),(12,iv i)],H'⟩) :
  ∀ (m j:Nat) (H:Hp),j+m=ks.length→(∀ (x:Nat) (hx:x<j) (h:x<ks.length),ks[x] ≠ t)→(∀ p,H (0::p)=(vJ v ks).F 0 p)→H [1]=⟨y,.cells (tL t)⟩→H [3]=⟨w,.arr 1 (acc.map nv)⟩ →
  LoopC (EP Tryz.prog w0 I0 M0 n0 m0) Ew Q ⟨lk [(0,.pob [0] 1 0),(5,.osl [3] w 1 0 na),(7,.pob [1] y 0),(10,X),(11,iv N),(12,iv i),(19,.osl [0,0] v 3 0 ks.length),(20,iv ks.length),(21,iv j)],H⟩:=by
 subst hna
 intro m
 induction m with
 |zero=>
  intro j H hj hb hF h1 h3
  have:j=ks.length:=by omega
  subst this
  refine Ad Ah Ew.eq_1 ?_
  simp
  exact hq (TU fun hm=>by
   obtain⟨x,hx,e⟩:=List.mem_iff_getElem.1 hm
   exact hb x hx hx e) [(19,.osl [0,0] v 3 0 ks.length),(20,iv ks.length),(21,iv ks.length),(22,bv false)] H hF h1 h3
 |succ m ih=>
  intro j H hj hb hF h1 h3
  have hlt:j<ks.length:=by omega
  have ew:IntKind.i64.wrap ((j:Int)+1)=((j+1:Nat):Int):=An
  have hF1:=hF [0]
  simp at hF1
  have hk:=Bq hlt
  refine Ad Ah Ew.eq_1 ?_
  simp[hlt,hF1,h1,Aa]
  refine Ae (Xk (hw _ hk) wt) (by simp) ?_
  have hE:KJ ks[j] t=GR ks[j] t:=by unfold KJ;rw[hn _ hk,nt]
  rw[hE]
  by_cases he:ks[j]=t
  ·have hc:=Wi hlt he fun x hx=>hb x hx (by omega)
   have hs:GR ks[j] t=true:=sameB_iff.2 he
   rw[hc] at hq2
   simp[hs,Aa,h3]
   refine⟨by omega,?_⟩
   simp[Bu]
   exact hq2 hlt _ (fun p=>by simp[Aa,hF]) (by simp[Aa,AI])
  ·have hs:GR ks[j] t=false:=by rw[Bool.eq_false_iff];exact fun h=>he (sameB_iff.1 h)
   simp[hs,ew]
   refine ih (j+1) _ (by omega) (fun x hx h=>?_) (fun p=>by simp[Aa,hF]) (by simp[Aa,h1]) (by simp[Aa,h3])
   by_cases e:x=j
   ·subst e;exact he
   ·exact hb x (by omega) h
theorem AcB {ks0 ts:List T} (hw:∀ k,k ∈ ks0→BB k) (hn:∀ k,k ∈ ks0→Ai k=k) (ht:∀ k,k ∈ ts→BB k) (htn:∀ k,k ∈ ts→Ai k=k) (hl:ks0.length+ts.length≤1000000) {v0:Nat}
  (hq:∀ (st:List (Nat × A)) (H':Hp),(∀ p,H' (0::p)=(vJ (WQ v0 ks0 ts) (Bf ks0 ts).1).F 0 p)→H' [3]=⟨ts.length+1,.arr 1 ((Bf ks0 ts).2.map nv)⟩→Q (.exit 0) ⟨lk ([(0,.pob [0] 1 0),(5,.osl [3] (ts.length+1) 1 0 ts.length)]++st),H'⟩) :
  ∀ (m i:Nat) (H:Hp),i+m=ts.length→(∀ p,H (0::p)=(vJ (WQ v0 ks0 (ts.take i)) (Bf ks0 (ts.take i)).1).F 0 p)→H [3]=⟨i+1,.arr 1 ((Bf ks0 (ts.take i)).2.map nv)⟩ →
  LoopC (EP Tryz.prog w0 I0 M0 n0 m0) EA Q ⟨lk [(0,.pob [0] 1 0),(5,.osl [3] (i+1) 1 0 i),(10,Ba ts),(11,iv ts.length),(12,iv i)],H⟩:=by
 intro m
 induction m with
 |zero=>
  intro i H hi hF h3
  have:i=ts.length:=by omega
  subst this
  rw[AI (BW _)] at hF h3
  refine Ad Ah EA.eq_1 ?_
  simp
  exact hq [(10,Ba ts),(11,iv ts.length),(12,iv ts.length),(13,bv false)] H hF h3
 |succ m ih=>
  intro i H hi hF h3
  have hlt:i<ts.length:=by omega
  have ew:IntKind.i64.wrap ((i:Int)+1)=((i+1:Nat):Int):=An
  have htk:ts.take (i+1)=ts.take i++[ts[i]]:=Fj hlt
  have hti:=Bq hlt
  have nt:=htn _ hti
  have hlen:=NX (ts.take i) ks0
  rw[List.length_take,Nat.min_eq_left (by omega)] at hlen
  have hkw:=RR hw (l:=ts.take i) fun k hk=>ht k (O5 hk)
  have hkn:=V5 hn (l:=ts.take i) 
  have hlL:(Bf ks0 (ts.take i)).2.length=i:=by rw[Bl,List.length_take,Nat.min_eq_left (by omega)]
  have ihn:=ih (i+1)
  rw[htk,Ut,Ky,nt] at ihn
  simp only at ihn
  have hF0:=hF []
  have hF1:=hF [0]
  simp at hF0 hF1
  generalize hv:WQ v0 ks0 (ts.take i)=v at *
  generalize hL:(Bf ks0 (ts.take i)).2=L at *
  generalize hK:(Bf ks0 (ts.take i)).1=K at *
  refine Ad Ah EA.eq_1 ?_
  simp[hlt,hF0,Aa]
  refine LoopC.le (Ao [(0,.pob [0] 1 0),(5,.osl [3] (i+1) 1 0 i),(7,.pob [1] ((H [1]).u+1) 0),(10,Ba ts),(11,iv ts.length),(12,iv i),(19,.osl [0,0] v 3 0 K.length),(20,iv K.length),(21,iv (0:Nat))] (by simp)) ?_
  refine AdO hkw hkn (by omega) (ht _ hti) nt (v:=v) (w:=i+1) (i:=i) (N:=ts.length) (acc:=L) hlL.symm (by omega) (X:=Ba ts) (y:=(H [1]).u+1) (fun hc st H' g0 g1 g3=>?_) (fun hc H' g0 g3=>?_) K.length 0 _ (by omega) (fun x hx=>by omega) (fun p=>by simp[hF,Aa]) (by simp[Aa]) (by simp[Aa,h3])
  ·have g00:=g0 []
   have g01:=g0 [0]
   simp at g00 g01
   rw[hc] at ihn
   have hcK:Ji K ts[i]=K++[ts[i]]:=by unfold Ji;rw[if_neg (by omega)]
   have hcU:ofU v K ts[i]=v+1:=by unfold ofU;rw[if_neg (by omega)]
   rw[hcK,hcU] at ihn
   simp[Bu,g00,g01,g1,g3,hlL,Aa]
   refine⟨by omega,by omega,by omega,?_⟩
   rw[ew]
   refine ihn _ (by omega) (fun p=>?_) (by simp[Aa,hlL,AI])
   by_cases h1:p=[]
   ·subst h1;simp[Aa]
   ·by_cases h2:p=[0]
    ·subst h2;simp[Aa,AI]
    ·simp[h1,h2,Aa,g0]
  ·have hcK:Ji K ts[i]=K:=by unfold Ji;rw[if_pos hc]
   have hcU:ofU v K ts[i]=v:=by unfold ofU;rw[if_pos hc]
   rw[hcK,hcU] at ihn
   simp[Bu,ew]
   exact ihn _ (by omega) g0 g3
end
theorem V2 {ks ts:List T} (hw:∀ k,k ∈ ks→BB k) (hn:∀ k,k ∈ ks→Ai k=k) (ht:∀ k,k ∈ ts→BB k) (htn:∀ k,k ∈ ts→Ai k=k) (hl:ks.length+ts.length≤1000000) (v:Nat) :
  A4 Tryz.prog 118 (fun r=>[.pob [r] 1 0,Ba ts]) (vJ v ks) (fun r=>.sl false ((Bf ks ts).2.map nv)) (vJ (WQ v ks ts) (Bf ks ts).1):=by
 refine Mc Sz (by simp) (Ag AN (Ag De Am)) De fun w0 I0 M0 m0 hM=>?_
 unfold K7
 simp
 refine LoopC.le (BX 5 [3] 1 (by simp)) ?_
 refine LoopC.le (Ao [(0,.pob [0] 1 0),(5,.osl [3] (0+1) 1 0 0),(10,Ba ts),(11,iv ts.length),(12,iv (0:Nat))] (by simp[upd])) ?_
 refine AcB hw hn ht htn hl (v0:=v) (fun st H' g0 g3=>?_) ts.length 0 _ (by omega) (fun p=>?_) ?_
 ·simp
  obtain⟨H2,k1,k2⟩:=Qf (c:=EP Tryz.prog w0 I0 M0 55 m0) (s:=lk [(5,.osl [3] (ts.length+1) 1 0 ts.length)]) (H:=H') (fun r=>1≤r) (fun r p b hr=>hM r p b hr) 5 (.sl false ((Bf ks ts).2.map nv)) (fun H1 e1=>by
   have e2:H1 [3]=H' [3]:=e1 3 [] (by omega)
   simp
   exact Bb (o:=[3]) (u:=ts.length+1) (n:=ts.length) (sz:=1) (l:=(Bf ks ts).2) (f:=nv) (by rw[e2,g3];simp) (Bl ts ks).symm (fun x=>rfl))
  refine CJ k1 (Ep ?_)
  simp[upd]
  exact AH rfl rfl fun p=>(k2 0 p (by omega)).trans (g0 p)
 ·simp[Bf,WQ]
 ·simp[Bf]
end Go.Proofs.YtbjmaoedheiigaaGreat
