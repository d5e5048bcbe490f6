/-
 Texts,merged,without what is not reached.
-/
import Derived.Test.YtbjmaoedheiigaaGreatKBe
set_option linter.unusedSimpArgs false
set_option linter.unusedVariables false
open Go.IntKind (i64 u64)
namespace Go.Proofs.YtbjmaoedheiigaaGreat
open Go Go.G Go.Proofs Go.PL
theorem Fj {P:Program} {K:Sta→Prop} {rest:List CO} {s:Nat→A} {H:Hp} {dd:Option Nat} {nm:Nm} {ix:Nat} {un:List Nat} {l:Bool} {lg:Lg} {o:Operand} {g:FuncId} {aa:Array Operand} {ts:Array TypeId} {L:List A} {x:A} (ho:evs s o = .fnc g [] []) (hs:G.Spec P g L x) (hL:aa.toList.map (evs s)=L) (hb:L.all A.bare=true) (h:AB P K rest (BV l ix ⟨[],[]⟩ lg) (Sta.put ⟨s,H⟩ dd x H)) :
  AB P K (⟨dd,.call { callee:=.value o,args:=aa,argTypes:=ts },none,nm,ix,un,l⟩::rest) lg ⟨s,H⟩:=by
 subst hL;exact MF ho (by simpa using hs) (by simpa using hb) h
instance:Inhabited Sc:=⟨sc0⟩
def BP (a b:Sc):Bool:=decide (a.i<b.i)
theorem YT (a b:Sc):decide (Fk a.i b.i<0)=BP a b:=by
 unfold Fk BP;by_cases h:a.i<b.i
 ·rw[if_pos (by omega)];simp[h]
 ·rw[if_neg (by omega)];by_cases h2:b.i<a.i
  ·rw[if_pos (by omega)];simp[h]
  ·rw[if_neg (by omega)];simp[h]
abbrev Df:A:=.fnc 242 [] []
theorem Ex:EU (fun _=>Df):=dx Am Am
theorem Eb (a b:Sc):G.Spec Tryz.prog 242 [H7 a,H7 b] (iv (Fk a.i b.i)):=by
 refine Aj YH (by simp) fun w0 I0=>?_;unfold QA;simp[H7,Pz];refine Ae (Sw a.i b.i) rfl ?_;simp;exact Ad rfl
abbrev Bl (d:Array Sc) (v:Nat):Fam:=ig d.toList v
theorem BF {d:Array Sc} {i:Nat} (h:i<d.size):(d.toList.map H7)[i]? = some (H7 d[i]!):=by
 rw[List.getElem?_map,Array.getElem?_toList,getElem!_pos d i h,Array.getElem?_eq_getElem h];rfl
theorem Me {d:Array Sc} {i j:Nat}:(Sort.swp d i j).toList.map H7=((d.toList.map H7).set i (H7 d[j]!)).set j (H7 d[i]!):=by
 unfold Sort.swp;simp[List.map_set]
theorem FR {d:Array Sc} {i j:Nat}:(Sort.swp d i j).size=d.size:=by simp[Sort.swp]
theorem IC {d:Array Sc} {i j:Nat} (hi:i<d.size) (hj:j<d.size):((d.toList.map H7).set i (H7 d[j]!))[j]? = some (H7 d[j]!):=by
 by_cases e:i=j
 ·subst e;rw[List.getElem?_set_self (by simpa using hi)]
 ·rw[List.getElem?_set_ne e,BF hj]
variable {n0:Nat} {w0:World} {I0:Nat→Prop} {M0:Nm→Nat→Prop} {m0:Mu} {Q:Exit→Sta→Prop} {v:Nat}
abbrev Ig (n v r:Nat):A:=.osl [r] v 2 0 n
theorem yX {a n:Nat} {b i:Int} (hn:n≤1000) (ha:a≤1000):∀ (j:Nat) (d:Array Sc) (H:Hp),d.size=n→j<n→(∀ p,H (0::p)=(Bl d v).F 0 p) →
  (∀ (H':Hp) (st:List (Nat × A)),(∀ p,H' (0::p)=(Bl (Sort.insInner BP a j d) v).F 0 p)→Q (.exit 2) ⟨lk ([(0,Ig n v 0),(1,iv a),(2,iv b),(3,Df),(8,iv i)]++st),H'⟩) →
  LoopC (DG Tryz.prog w0 I0 M0 n0 m0) Bf Q ⟨lk [(0,Ig n v 0),(1,iv a),(2,iv b),(3,Df),(8,iv i),(9,iv j)],H⟩:=by
 intro j;induction j with
 |zero=>
  intro d H hd hj hH hq;refine Ab Ai Bf.eq_1 ?_;simp[show ¬ (a:Int)<0 by omega];rw[AU];simp;exact hq H [(9,iv 0),(34,bv false)] hH
 |succ j ih=>
  intro d H hd hj hH hq;have h0:=hH [];have g1:=BF (d:=d) (i:=j+1) (by omega);have g0:=BF (d:=d) (i:=j) (by omega);rw[Sort.insInner] at hq;have e1:i64.wrap ((j:Int)+1-1)=(j:Int):=AP;simp only[Int.add_sub_cancel] at e1;refine Ab Ai Bf.eq_1 ?_;by_cases h1:a<j+1
  ·have hc:=YT d[j+1]! d[j]!;simp only[LU] at h0;generalize hx:d[j+1]! = x at *;generalize hy:d[j]! = y at *;simp[show(a:Int)<j+1 by omega,h0,e1,g1,g0,hj,show j<n by omega,show(j:Int)+1<n by omega,show(j:Int)<n by omega,show(0:Int)≤(j:Int)+1 by omega,Di];rw[AU];simp;refine Fj rfl (Eb x y) (by simp) rfl ?_;cases hL:BP x y with
   |false=>
    rw[hL] at hc hq;rw[if_neg (by simp)] at hq;have hc':¬ Fk x.i y.i<0:=by simpa using hc
    simp[hc'];exact hq H [(9,iv (j+1:Nat)),(34,bv false)] (fun p=>by simp[hH])
   |true=>
    rw[hL] at hc hq;rw[if_pos (by simp;omega)] at hq;have hc':Fk x.i y.i<0:=by simpa using hc
    have g2:=IC (d:=d) (i:=j+1) (j:=j) (by omega) (by omega);have hs:=Me (d:=d) (i:=j+1) (j:=j);rw[hx,hy] at hs;rw[hy] at g2;simp[hc',h0,e1,g1,g0,g2,hj,show j<n by omega,show(j:Int)+1<n by omega,show(j:Int)<n by omega,show(0:Int)≤(j:Int)+1 by omega,Di];exact ih (Sort.swp d (j+1) j) _ (by rw[FR];exact hd) (by omega) (fun p=>by by_cases hp:p=[]<;>simp[hp,hs,Aa,hH]) hq
  ·rw[if_neg (by simp;omega)] at hq;simp[show ¬ (a:Int)<j+1 by omega];rw[AU];simp;exact hq H [(9,iv (j+1:Nat)),(34,bv false)] hH
theorem Mh (lt:Sc→Sc→Bool) (a:Nat):∀ (j:Nat) (d:Array Sc),(Sort.insInner lt a j d).size=d.size
 |0,d=>rfl
 |j+1,d=>by
  unfold Sort.insInner;split
  ·rw[Mh lt a j,FR]
  ·rfl
theorem AaY {a b n:Nat} (hn:n≤1000) (ha:a≤1000) (hb:b≤n):∀ (m i:Nat) (d:Array Sc) (H:Hp),(i+m=b∨(b≤i∧m=0∧i≤1001))→d.size=n→(∀ p,H (0::p)=(Bl d v).F 0 p) →
  (∀ (H':Hp) (st:List (Nat × A)),(∀ p,H' (0::p)=(Bl (Sort.insOuter BP a b i d) v).F 0 p)→Q (.exit 0) ⟨lk st,H'⟩) →
  LoopC (DG Tryz.prog w0 I0 M0 n0 m0) Bd Q ⟨lk [(0,Ig n v 0),(1,iv a),(2,iv b),(3,Df),(8,iv i)],H⟩:=by
 intro m;induction m with
 |zero=>
  intro i d H hi hd hH hq;rw[Sort.insOuter,if_neg (by omega)] at hq;refine Ab Ai Bd.eq_1 ?_;simp[show ¬ (i:Int)<b by omega,show ¬ i<b by omega];exact hq H [(0,Ig n v 0),(1,iv a),(2,iv b),(3,Df),(8,iv i),(14,bv false)] hH
 |succ m ih=>
  intro i d H hi hd hH hq;have hib:i<b:=by omega
  have e1:=Av i;rw[Sort.insOuter,if_pos hib] at hq;refine Ab Ai Bd.eq_1 ?_;simp[show(i:Int)<b by omega,hib];refine yX (n:=n) (v:=v) hn ha i d H hd (by omega) hH fun H' st h'=>?_;simp[e1];exact ih (i+1) _ H' (by omega) (by rw[Mh];exact hd) h' hq
theorem Qw (lt:Sc→Sc→Bool) (a b:Nat):∀ (m i:Nat) (d:Array Sc),b-i≤m→(Sort.insOuter lt a b i d).size=d.size
 |0,i,d,h=>by rw[Sort.insOuter,if_neg (by omega)]
 |m+1,i,d,h=>by
  rw[Sort.insOuter];split
  ·rw[Qw lt a b m _ _ (by omega),Mh]
  ·rfl
theorem Qx (n v:Nat):EU (fun r=>Ig n v r):=Cu
theorem ai (d:Array Sc) (v a b:Nat) (hn:d.size≤900) (ha:a≤900) (hb:b≤d.size):Bh Tryz.prog 271 (fun r=>[Ig d.size v r,iv a,iv b,Df]) (Bl d v) (fun _=>.tup []) (Bl (Sort.insertionSort BP d a b) v):=by
 refine AE FJ (by simp) (Af (Qx _ _) (Af Au (Af Au (Af Ex Am)))) (Bz Am) fun w0 I0 M0 m0=>?_;have e1:=Av a;unfold CM;simp[e1];refine LoopC.le (Ao [(0,Ig d.size v 0),(1,iv a),(2,iv b),(3,Df),(8,iv (a+1:Nat))] (by simp)) ?_;refine AaY (n:=d.size) (v:=v) (by omega) (by omega) hb (b-(a+1)) (a+1) d _ (by omega) rfl (fun p=>by simp) fun H' st h'=>?_;simp;exact AX rfl rfl (fun p=>h' p)
theorem yZ {n:Nat} (hn:n≤1000):∀ (m i j:Nat) (d:Array Sc) (H:Hp),j-i≤m→i≤n→j<n→d.size=n→(∀ p,H (0::p)=(Bl d v).F 0 p) →
  (∀ (H':Hp) (st:List (Nat × A)),(∀ p,H' (0::p)=(Bl (Sort.reverseLoop i j d) v).F 0 p)→Q (.exit 0) ⟨lk st,H'⟩) →
  LoopC (DG Tryz.prog w0 I0 M0 n0 m0) AV Q ⟨lk [(0,Ig n v 0),(8,iv i),(9,iv j)],H⟩:=by
 intro m;induction m with
 |zero=>
  intro i j d H hm hi hj hd hH hq;rw[Sort.reverseLoop,if_neg (by omega)] at hq;refine Ab Ai AV.eq_1 ?_;simp[show ¬ (i:Int)<j by omega,show ¬ i<j by omega];exact hq H [(0,Ig n v 0),(8,iv i),(9,iv j),(15,bv false)] hH
 |succ m ih=>
  intro i j d H hm hi hj hd hH hq;by_cases hij:i<j
  ·rw[Sort.reverseLoop,if_pos hij] at hq;have h0:=hH [];simp only[LU] at h0;have e1:=Av i;have e2:i64.wrap ((j:Int)-1)=((j-1:Nat):Int):=AP;have g1:=BF (d:=d) (i:=i) (by omega);have g0:=BF (d:=d) (i:=j) (by omega);have g2:=IC (d:=d) (i:=i) (j:=j) (by omega) (by omega);have hs:=Me (d:=d) (i:=i) (j:=j);generalize d[i]! = x at g1 g2 hs;generalize d[j]! = y at g0 g2 hs;refine Ab Ai AV.eq_1 ?_;simp[hij,show(i:Int)<j by omega,h0,g0,g1,g2,e1,e2,show(i:Int)<n by omega,show(j:Int)<n by omega,show i<n by omega,hj,Di];refine LoopC.le (Ao [(0,Ig n v 0),(8,iv (i+1:Nat)),(9,iv (j-1:Nat))] (by simp)) ?_;exact ih (i+1) (j-1) (Sort.swp d i j) _ (by omega) (by omega) (by omega) (by rw[FR];exact hd) (fun p=>by by_cases hp:p=[]<;>simp[hp,hs,Aa,hH]) hq
  ·rw[Sort.reverseLoop,if_neg hij] at hq;refine Ab Ai AV.eq_1 ?_;simp[show ¬ (i:Int)<j by omega,hij];exact hq H [(0,Ig n v 0),(8,iv i),(9,iv j),(15,bv false)] hH
theorem bD (d:Array Sc) (v a b:Nat) (hn:d.size≤900) (ha:a≤d.size) (hb:1≤b) (hb2:b≤d.size):Bh Tryz.prog 275 (fun r=>[Ig d.size v r,iv a,iv b,Df]) (Bl d v) (fun _=>.tup []) (Bl (Sort.reverseRange d a b) v):=by
 refine AE FN (by simp) (Af (Qx _ _) (Af Au (Af Au (Af Ex Am)))) (Bz Am) fun w0 I0 M0 m0=>?_;have e1:i64.wrap ((b:Int)-1)=((b-1:Nat):Int):=AP;unfold CV;simp[e1];refine yZ (n:=d.size) (v:=v) (by omega) (b-1-a) a (b-1) d _ (BZ _) ha (by omega) rfl (fun p=>by simp) fun H' st h'=>?_;simp;exact AX rfl rfl (fun p=>h' p)
def ceF (s:Nat):Fam:=⟨fun r p=>if p=[] then ⟨1,.cells [iv s]⟩ else ⟨0,.none⟩,fun {g δ r r'} hg hd p=>by
  by_cases h1:p=[]
  ·rw[if_pos h1];exact Fam.cells_ren (by simp[A.renL,A.ren])
  ·rw[if_neg h1];rfl,fun {D r} hD p=>by
  by_cases h1:p=[]
  ·rw[if_pos h1];simp[Ob.refs,A.refsL,A.refs]
  ·rw[if_neg h1];trivial⟩
@[simp] theorem Ai4 {s r:Nat} {p:Nm}:(ceF s).F r p=if p=[] then ⟨1,.cells [iv s]⟩ else ⟨0,.none⟩:=rfl
abbrev ceP (q:Nat):A:=.pob [q] 1 0
theorem Po (d:Array Sc) (v a b s:Nat) (hn:d.size≤900) (ha:a<d.size) (hb:b<d.size) (hs:s≤900):Iq Tryz.prog 286 (fun r q=>[Ig d.size v r,iv a,iv b,ceP q,Df]) ((Bl d v).two (ceF s)) (fun _ _=>.tup [iv (Sort.order2 BP d a b s).1,iv (Sort.order2 BP d a b s).2.1]) ((Bl d v).two (ceF (Sort.order2 BP d a b s).2.2)):=by
 refine BR HN (by simp) (Aq (A0 (Qx _ _)) (Aq (A0 Au) (Aq (A0 Au) (Aq (Tu AJ) (Aq (A0 Ex) A5))))) (BK (Aq (A0 Au) (Aq (A0 Au) A5))) fun w0 I0 M0 m0=>?_;have ga:=BF (d:=d) (i:=a) (by omega);have gb:=BF (d:=d) (i:=b) (by omega);have hc:=YT d[b]! d[a]!;have e1:=Av s;unfold Sort.order2;generalize d[a]! = x at *;generalize d[b]! = y at *;generalize d.size=n at hn ha hb ⊢;unfold DX;simp[ga,gb,ha,hb,show(a:Int)<n by omega,show(b:Int)<n by omega,Di];refine Fj rfl (Eb y x) (by simp) rfl ?_;cases hL:BP y x with
 |true=>
  rw[hL] at hc;have hc':Fk y.i x.i<0:=by simpa using hc
  simp[hc',e1,Aa];exact C7 rfl rfl (fun p=>by simp) (fun p=>by by_cases hp:p=[]<;>simp[hp,Aa])
 |false=>
  rw[hL] at hc;have hc':¬ Fk y.i x.i<0:=by simpa using hc
  simp[hc'];exact C7 rfl rfl (fun p=>by simp) (fun p=>by simp)
theorem RD (lt:Sc→Sc→Bool) (d:Array Sc) (a b s n:Nat) (ha:a<n) (hb:b<n) (hs:s≤100):(Sort.order2 lt d a b s).1<n∧(Sort.order2 lt d a b s).2.1<n∧(Sort.order2 lt d a b s).2.2≤s+1:=by
 unfold Sort.order2;split
 ·exact⟨hb,ha,by simp⟩
 ·exact⟨ha,hb,by simp⟩
theorem cP (d:Array Sc) (v a b c s:Nat) (hn:d.size≤900) (ha:a<d.size) (hb:b<d.size) (hcc:c<d.size) (hs:s≤90):Iq Tryz.prog 285 (fun r q=>[Ig d.size v r,iv a,iv b,iv c,ceP q,Df]) ((Bl d v).two (ceF s)) (fun _ _=>iv (Sort.median BP d a b c s).1) ((Bl d v).two (ceF (Sort.median BP d a b c s).2)):=by
 refine BR HO (by simp) (Aq (A0 (Qx _ _)) (Aq (A0 Au) (Aq (A0 Au) (Aq (A0 Au) (Aq (Tu AJ) (Aq (A0 Ex) A5)))))) (A0 Au) fun w0 I0 M0 m0=>?_;obtain⟨q1,q2,q3⟩:=RD BP d a b s d.size ha hb (by omega);have h1:=Po d v a b s hn ha hb (by omega);unfold Sort.median;simp only;generalize Sort.order2 BP d a b s=R at h1 q1 q2 q3 ⊢;obtain⟨p1,p2,p3⟩:=RD BP d R.2.1 c R.2.2 d.size q2 hcc (by omega);have h2:=Po d v R.2.1 c R.2.2 hn q2 hcc (by omega);generalize Sort.order2 BP d R.2.1 c R.2.2=S2 at h2 p1 p2 p3 ⊢;obtain⟨z1,z2,z3⟩:=RD BP d R.1 S2.1 S2.2.2 d.size q1 p1 (by omega);have h3:=Po d v R.1 S2.1 S2.2.2 hn q1 p1 (by omega);generalize Sort.order2 BP d R.1 S2.1 S2.2.2=T3 at h3 z1 z2 z3 ⊢;unfold DZ;simp;refine Bp 0 1 (by omega) h1 (fun p=>by simp) (fun p=>by simp) (by simp) (by simp) ?_;simp;refine Bp 0 1 (by omega) h2 (fun p=>by simp) (fun p=>by simp) (by simp) (by simp) ?_;simp;refine Bp 0 1 (by omega) h3 (fun p=>by simp) (fun p=>by simp) (by simp) (by simp) ?_;simp;exact C7 rfl rfl (fun p=>by simp) (fun p=>by simp)
def OZ:Sort.Hint→Int
 |.unknown=>0
 |.increasing=>1
 |.decreasing=>2
theorem choose_spec (d:Array Sc) (v a b:Nat) (hn:d.size≤900) (hab:a+13≤b) (hb:b≤d.size) (hl:b-a<50):Bh Tryz.prog 274 (fun r=>[Ig d.size v r,iv a,iv b,Df]) (Bl d v) (fun _=>.tup [iv (Sort.choosePivot BP d a b).1,iv (OZ (Sort.choosePivot BP d a b).2)]) (Bl d v):=by
 refine AE Gd (by simp) (Af (Qx _ _) (Af Au (Af Au (Af Ex Am)))) (Bz (Af Au (Af Au Am))) fun w0 I0 M0 m0=>?_;obtain⟨l,hll⟩:∃ l,l=b-a:=⟨_,rfl⟩;have e1:i64.wrap ((b:Int)-a)=(l:Int):=AP;obtain⟨q,hq⟩:∃ q,q=l / 4:=⟨_,rfl⟩;have e2:i64.wrap ((l:Int).tdiv 4)=(q:Int):=by rw[Int.tdiv_eq_ediv_of_nonneg (by omega),Al (by omega) (by omega)];omega
 have e3:i64.wrap ((q:Int)*1)=(q:Int):=AP;have e4:i64.wrap ((q:Int)*2)=((q*2:Nat):Int):=AP;have e5:i64.wrap ((q:Int)*3)=((q*3:Nat):Int):=AP;have e6:i64.wrap ((a:Int)+q)=((a+q:Nat):Int):=AP;have e7:i64.wrap ((a:Int)+(q:Int)*2)=((a+q*2:Nat):Int):=AP;have e8:i64.wrap ((a:Int)+(q:Int)*3)=((a+q*3:Nat):Int):=AP;have e9:i64.wrap ((l:Int) / 4)=(q:Int):=AP;have e10:i64.wrap (q:Int)=(q:Int):=BJ;have hm:=cP d v (a+q) (a+q*2) (a+q*3) 0 hn (by omega) (by omega) (by omega) (by omega);unfold Sort.choosePivot;simp only[← hll,← hq,Nat.mul_one,ge_iff_le,if_pos (show 8≤l by omega),if_neg (show ¬ 50≤l by omega)];generalize Sort.median BP d (a+q) (a+q*2) (a+q*3) 0=R at hm ⊢;unfold C4;simp[e1,e2,e3,e4,e5,e6,e7,e8,e9,e10,show(8:Int)≤l by omega,show ¬ (50:Int)≤l by omega,Aa];refine Bp 0 1 (by omega) hm (fun p=>by simp) (fun p=>?_) (by simp) (by simp) ?_
 ·by_cases hp:p=[]
  ·subst hp;simp[EH]
  ·simp[EH,hp,Ne.symm hp]
 rw[Aeb];simp;rw[CS.eq_1];by_cases h0:R.2=0
 ·simp[h0,OZ];exact AM rfl rfl (fun p=>by simp)
 ·by_cases h12:R.2=12
  ·simp[h12,OZ];exact AM rfl rfl (fun p=>by simp)
  ·have h0':¬ (R.2:Int)=0:=by omega
   have h12':¬ (R.2:Int)=12:=by omega
   simp[h0,h12,h0',h12',OZ];exact AM rfl rfl (fun p=>by simp)
theorem kU (lt:Sc→Sc→Bool) (d:Array Sc) (b:Nat):∀ (m i:Nat),b-i≤m→i≤b→i≤Sort.scanSorted lt d b i∧Sort.scanSorted lt d b i≤b
 |0,i,h,hi=>by rw[Sort.scanSorted,if_neg (by simp;omega)];omega
 |m+1,i,h,hi=>by
  rw[Sort.scanSorted];split
  ·rename_i hc;simp at hc;have:=kU lt d b m (i+1) (by omega) (by omega);omega
  ·omega
theorem vl {n a b:Nat} {k:Int} {d:Array Sc} {H:Hp} (hn:n≤900) (hb:b≤n) (hd:d.size=n) (hH:∀ p,H (0::p)=(Bl d v).F 0 p):∀ (m i:Nat),b-i≤m→1≤i→i≤b →
  (∀ (st:List (Nat × A)),Q (.exit 2) ⟨lk ([(0,Ig n v 0),(1,iv a),(2,iv b),(3,Df),(9,iv (Sort.scanSorted BP d b i)),(10,iv k)]++st),H⟩) →
  LoopC (DG Tryz.prog w0 I0 M0 n0 m0) AF Q ⟨lk [(0,Ig n v 0),(1,iv a),(2,iv b),(3,Df),(9,iv i),(10,iv k)],H⟩:=by
 intro m;induction m with
 |zero=>
  intro i hm h1 hi hq;rw[Sort.scanSorted,if_neg (by simp;omega)] at hq;refine Ab Ai AF.eq_1 ?_;simp[show ¬ (i:Int)<b by omega,show ¬ i<b by omega];rw[AU];simp;exact hq [(36,bv false)]
 |succ m ih=>
  intro i hm h1 hi hq;by_cases hib:i<b
  ·have h0:=hH [];simp only[LU] at h0;have g1:=BF (d:=d) (i:=i) (by omega);have g0:=BF (d:=d) (i:=i-1) (by omega);have e1:=Av i;have e2:i64.wrap ((i:Int)-1)=((i-1:Nat):Int):=AP;have hc:=YT d[i]! d[i-1]!;rw[Sort.scanSorted] at hq;generalize d[i]! = x at g1 hc hq;generalize d[i-1]! = y at g0 hc hq;refine Ab Ai AF.eq_1 ?_;simp[hib,show(i:Int)<b by omega,h0,g1,g0,e2,show(i:Int)<n by omega,show i<n by omega,show i-1<n by omega,show((i-1:Nat):Int)<n by omega,Di];rw[AU];simp;refine Fj rfl (Eb x y) (by simp) rfl ?_;cases hL:BP x y with
   |true=>
    rw[hL] at hc hq;rw[if_neg (by simp)] at hq;have hc':Fk x.i y.i<0:=by simpa using hc
    simp[hc'];exact hq [(36,bv false)]
   |false=>
    rw[hL] at hc hq;rw[if_pos (by simp[hib])] at hq;have hc':¬ Fk x.i y.i<0:=by simpa using hc
    simp[hc',e1];exact ih (i+1) (by omega) (by omega) (by omega) hq
  ·rw[Sort.scanSorted,if_neg (by simp;omega)] at hq;refine Ab Ai AF.eq_1 ?_;simp[show ¬ (i:Int)<b by omega,hib];rw[AU];simp;exact hq [(36,bv false)]
theorem Yj (d:Array Sc) (a b:Nat) (hl:b-a<50):Sort.partialInsertionSort BP d a b=(d,decide (Sort.scanSorted BP d b (a+1)=b)):=by
 unfold Sort.partialInsertionSort;rw[Sort.partialIns];simp only;split
 ·rename_i h;simp[h]
 ·rename_i h;simp[h,hl]
theorem cw (d:Array Sc) (v a b:Nat) (hn:d.size≤900) (hab:a<b) (hb:b≤d.size) (hl:b-a<50):Bh Tryz.prog 276 (fun r=>[Ig d.size v r,iv a,iv b,Df]) (Bl d v) (fun _=>bv (Sort.partialInsertionSort BP d a b).2) (Bl (Sort.partialInsertionSort BP d a b).1 v):=by
 rw[Yj d a b hl];refine AE Eh (by simp) (Af (Qx _ _) (Af Au (Af Au (Af Ex Am)))) Au fun w0 I0 M0 m0=>?_;have e1:=Av a;have e2:i64.wrap ((b:Int)-a)=((b-a:Nat):Int):=AP;have hsc:=kU BP d b (b-(a+1)) (a+1) (by omega) (by omega);have l1:=fun (Q:Exit→Sta→Prop) (H:Hp) (k:Int) (hH:∀ p,H (0::p)=(Bl d v).F 0 p)=>vl (n0:=141) (w0:=w0) (I0:=I0) (M0:=M0) (m0:=m0) (Q:=Q) (v:=v) (k:=k) (a:=a) hn hb rfl hH (b-(a+1)) (a+1) (BZ _) (by omega) (by omega);generalize Sort.scanSorted BP d b (a+1)=z at hsc l1 ⊢;unfold Ca;simp[e1];refine Ab Ai B6.eq_1 ?_;simp;refine LoopC.le (Ao [(0,Ig d.size v 0),(1,iv a),(2,iv b),(3,Df),(9,iv (a+1:Nat)),(10,iv 0)] (by simp)) ?_;refine l1 _ _ 0 (fun p=>by simp) fun st=>?_;by_cases hz:z=b
 ·simp[hz];exact AM rfl rfl (fun p=>by simp)
 ·have hz':¬ (z:Int)=b:=by omega
  simp[hz,hz',e2,show((b-a:Nat):Int)<50 by omega];exact AM rfl rfl (fun p=>by simp)
theorem Afp {n a j:Nat} {z:Sc} {d:Array Sc} {H:Hp} (hn:n≤900) (ha:a<n) (hj:j<n) (hd:d.size=n) (hz:d[a]! = z) (hH:∀ p,H (0::p)=(Bl d v).F 0 p):∀ (m i:Nat),j+1-i≤m→i≤n →
  (∀ (st:List (Nat × A)),Q (.exit 0) ⟨lk ([(0,Ig n v 0),(1,iv a),(4,Df),(12,iv (Sort.scanUp (fun x=>BP x z) d j i)),(13,iv j)]++st),H⟩) →
  LoopC (DG Tryz.prog w0 I0 M0 n0 m0) A8 Q ⟨lk [(0,Ig n v 0),(1,iv a),(4,Df),(12,iv i),(13,iv j)],H⟩:=by
 intro m;induction m with
 |zero=>
  intro i hm hi hq;rw[Sort.scanUp,if_neg (by simp;omega)] at hq;refine Ab Ai A8.eq_1 ?_;simp[show ¬ (i:Int)≤j by omega,show ¬ i≤j by omega];rw[AU];simp;exact hq [(47,bv false)]
 |succ m ih=>
  intro i hm hi hq;by_cases hij:i≤j
  ·have h0:=hH [];simp only[LU] at h0;have gi:=BF (d:=d) (i:=i) (by omega);have ga:=BF (d:=d) (i:=a) (by omega);rw[hz] at ga;have e1:=Av i;rw[Sort.scanUp] at hq;generalize d[i]! = x at gi hq;have hc:=YT x z;refine Ab Ai A8.eq_1 ?_;simp[hij,show(i:Int)≤j by omega,h0,gi,ga,show(i:Int)<n by omega,show i<n by omega,ha,show(a:Int)<n by omega,Di];rw[AU];simp;refine Fj rfl (Eb x z) (by simp) rfl ?_;cases hL:BP x z with
   |true=>
    rw[hL] at hc hq;have hc':Fk x.i z.i<0:=by simpa using hc
    rw[if_pos (by simp[hij])] at hq;simp[hc',e1];exact ih (i+1) (by omega) (by omega) hq
   |false=>
    rw[hL] at hc hq;have hc':¬ Fk x.i z.i<0:=by simpa using hc
    rw[if_neg (by simp)] at hq;simp[hc'];exact hq [(47,bv false)]
  ·rw[Sort.scanUp,if_neg (by simp;omega)] at hq;refine Ab Ai A8.eq_1 ?_;simp[show ¬ (i:Int)≤j by omega,hij];rw[AU];simp;exact hq [(47,bv false)]
theorem Ad0 {n a j:Nat} {z:Sc} {d:Array Sc} {H:Hp} (hn:n≤900) (ha:a<n) (hj:j<n) (hd:d.size=n) (hz:d[a]! = z) (hH:∀ p,H (0::p)=(Bl d v).F 0 p):∀ (m i:Nat),j+1-i≤m→i≤n →
  (∀ (st:List (Nat × A)),Q (.exit 6) ⟨lk ([(0,Ig n v 0),(1,iv a),(4,Df),(12,iv (Sort.scanUp (fun x=>BP x z) d j i)),(13,iv j)]++st),H⟩) →
  LoopC (DG Tryz.prog w0 I0 M0 n0 m0) A7 Q ⟨lk [(0,Ig n v 0),(1,iv a),(4,Df),(12,iv i),(13,iv j)],H⟩:=by
 intro m;induction m with
 |zero=>
  intro i hm hi hq;rw[Sort.scanUp,if_neg (by simp;omega)] at hq;refine Ab Ai A7.eq_1 ?_;simp[show ¬ (i:Int)≤j by omega,show ¬ i≤j by omega];rw[AU];simp;exact hq [(120,bv false)]
 |succ m ih=>
  intro i hm hi hq;by_cases hij:i≤j
  ·have h0:=hH [];simp only[LU] at h0;have gi:=BF (d:=d) (i:=i) (by omega);have ga:=BF (d:=d) (i:=a) (by omega);rw[hz] at ga;have e1:=Av i;rw[Sort.scanUp] at hq;generalize d[i]! = x at gi hq;have hc:=YT x z;refine Ab Ai A7.eq_1 ?_;simp[hij,show(i:Int)≤j by omega,h0,gi,ga,show(i:Int)<n by omega,show i<n by omega,ha,show(a:Int)<n by omega,Di];rw[AU];simp;refine Fj rfl (Eb x z) (by simp) rfl ?_;cases hL:BP x z with
   |true=>
    rw[hL] at hc hq;have hc':Fk x.i z.i<0:=by simpa using hc
    rw[if_pos (by simp[hij])] at hq;simp[hc',e1];exact ih (i+1) (by omega) (by omega) hq
   |false=>
    rw[hL] at hc hq;have hc':¬ Fk x.i z.i<0:=by simpa using hc
    rw[if_neg (by simp)] at hq;simp[hc'];exact hq [(120,bv false)]
  ·rw[Sort.scanUp,if_neg (by simp;omega)] at hq;refine Ab Ai A7.eq_1 ?_;simp[show ¬ (i:Int)≤j by omega,hij];rw[AU];simp;exact hq [(120,bv false)]
theorem Ady {n a i:Nat} {z:Sc} {d:Array Sc} {H:Hp} (hn:n≤900) (ha:a<n) (hi:i≤n) (hi1:1≤i) (hd:d.size=n) (hz:d[a]! = z) (hH:∀ p,H (0::p)=(Bl d v).F 0 p):∀ (j:Nat),j<n →
  (∀ (st:List (Nat × A)),Q (.exit 2) ⟨lk ([(0,Ig n v 0),(1,iv a),(4,Df),(12,iv i),(13,iv (Sort.scanDown (fun x=>!BP x z) d i j))]++st),H⟩) →
  LoopC (DG Tryz.prog w0 I0 M0 n0 m0) A6 Q ⟨lk [(0,Ig n v 0),(1,iv a),(4,Df),(12,iv i),(13,iv j)],H⟩:=by
 intro j;induction j with
 |zero=>
  intro hj hq;rw[Sort.scanDown] at hq;refine Ab Ai A6.eq_1 ?_;simp[show ¬ (i:Int)≤0 by omega,show ¬ i=0 by omega];rw[AU];simp;exact hq [(66,bv false)]
 |succ j ih=>
  intro hj hq;rw[Sort.scanDown] at hq;by_cases hij:i≤j+1
  ·have h0:=hH [];simp only[LU] at h0;have gi:=BF (d:=d) (i:=j+1) (by omega);have ga:=BF (d:=d) (i:=a) (by omega);rw[hz] at ga;have e1:i64.wrap (((j+1:Nat):Int)-1)=(j:Int):=AP;have e2:i64.wrap (j:Int)=(j:Int):=BJ;generalize d[j+1]! = x at gi hq;have hc:=YT x z;have hij':(i:Int)≤((j+1:Nat):Int):=by omega
   have hj':((j+1:Nat):Int)<n:=by omega
   generalize hjj:j+1=jj at gi hij hij' hj hj' e1 hq ⊢;refine Ab Ai A6.eq_1 ?_;simp[hij,hij',h0,gi,ga,hj,hj',ha,show(a:Int)<n by omega,Di];rw[AU];simp;refine Fj rfl (Eb x z) (by simp) rfl ?_;cases hL:BP x z with
   |true=>
    rw[hL] at hc hq;have hc':Fk x.i z.i<0:=by simpa using hc
    rw[if_neg (by simp)] at hq;simp[hc'];exact hq [(66,bv false)]
   |false=>
    rw[hL] at hc hq;have hc':¬ Fk x.i z.i<0:=by simpa using hc
    rw[if_pos (by simp[hij])] at hq;simp[hc',e1];exact ih (by omega) hq
  ·rw[if_neg (by simp;omega)] at hq;refine Ab Ai A6.eq_1 ?_;have hij':¬ (i:Int)≤((j+1:Nat):Int):=by omega
   generalize hjj:j+1=jj at hij hij' hq ⊢;simp[hij,hij'];rw[AU];simp;exact hq [(66,bv false)]
theorem AfO {n a i:Nat} {z:Sc} {d:Array Sc} {H:Hp} (hn:n≤900) (ha:a<n) (hi:i≤n) (hi1:1≤i) (hd:d.size=n) (hz:d[a]! = z) (hH:∀ p,H (0::p)=(Bl d v).F 0 p):∀ (j:Nat),j<n →
  (∀ (st:List (Nat × A)),Q (.exit 8) ⟨lk ([(0,Ig n v 0),(1,iv a),(4,Df),(12,iv i),(13,iv (Sort.scanDown (fun x=>!BP x z) d i j))]++st),H⟩) →
  LoopC (DG Tryz.prog w0 I0 M0 n0 m0) A9 Q ⟨lk [(0,Ig n v 0),(1,iv a),(4,Df),(12,iv i),(13,iv j)],H⟩:=by
 intro j;induction j with
 |zero=>
  intro hj hq;rw[Sort.scanDown] at hq;refine Ab Ai A9.eq_1 ?_;simp[show ¬ (i:Int)≤0 by omega,show ¬ i=0 by omega];rw[AU];simp;exact hq [(139,bv false)]
 |succ j ih=>
  intro hj hq;rw[Sort.scanDown] at hq;by_cases hij:i≤j+1
  ·have h0:=hH [];simp only[LU] at h0;have gi:=BF (d:=d) (i:=j+1) (by omega);have ga:=BF (d:=d) (i:=a) (by omega);rw[hz] at ga;have e1:i64.wrap (((j+1:Nat):Int)-1)=(j:Int):=AP;have e2:i64.wrap (j:Int)=(j:Int):=BJ;generalize d[j+1]! = x at gi hq;have hc:=YT x z;have hij':(i:Int)≤((j+1:Nat):Int):=by omega
   have hj':((j+1:Nat):Int)<n:=by omega
   generalize hjj:j+1=jj at gi hij hij' hj hj' e1 hq ⊢;refine Ab Ai A9.eq_1 ?_;simp[hij,hij',h0,gi,ga,hj,hj',ha,show(a:Int)<n by omega,Di];rw[AU];simp;refine Fj rfl (Eb x z) (by simp) rfl ?_;cases hL:BP x z with
   |true=>
    rw[hL] at hc hq;have hc':Fk x.i z.i<0:=by simpa using hc
    rw[if_neg (by simp)] at hq;simp[hc'];exact hq [(139,bv false)]
   |false=>
    rw[hL] at hc hq;have hc':¬ Fk x.i z.i<0:=by simpa using hc
    rw[if_pos (by simp[hij])] at hq;simp[hc',e1];exact ih (by omega) hq
  ·rw[if_neg (by simp;omega)] at hq;refine Ab Ai A9.eq_1 ?_;have hij':¬ (i:Int)≤((j+1:Nat):Int):=by omega
   generalize hjj:j+1=jj at hij hij' hq ⊢;simp[hij,hij'];rw[AU];simp;exact hq [(139,bv false)]
theorem Afs {n a j:Nat} {z:Sc} {d:Array Sc} {H:Hp} (hn:n≤900) (ha:a<n) (hj:j<n) (hd:d.size=n) (hz:d[a]! = z) (hH:∀ p,H (0::p)=(Bl d v).F 0 p):∀ (m i:Nat),j+1-i≤m→i≤n →
  (∀ (st:List (Nat × A)),Q (.exit 2) ⟨lk ([(0,Ig n v 0),(1,iv a),(4,Df),(11,iv (Sort.scanUp (fun x=>!BP z x) d j i)),(12,iv j)]++st),H⟩) →
  LoopC (DG Tryz.prog w0 I0 M0 n0 m0) AR Q ⟨lk [(0,Ig n v 0),(1,iv a),(4,Df),(11,iv i),(12,iv j)],H⟩:=by
 intro m;induction m with
 |zero=>
  intro i hm hi hq;rw[Sort.scanUp,if_neg (by simp;omega)] at hq;refine Ab Ai AR.eq_1 ?_;simp[show ¬ (i:Int)≤j by omega,show ¬ i≤j by omega];rw[AU];simp;exact hq [(47,bv false)]
 |succ m ih=>
  intro i hm hi hq;by_cases hij:i≤j
  ·have h0:=hH [];simp only[LU] at h0;have gi:=BF (d:=d) (i:=i) (by omega);have ga:=BF (d:=d) (i:=a) (by omega);rw[hz] at ga;have e1:=Av i;rw[Sort.scanUp] at hq;generalize d[i]! = x at gi hq;have hc:=YT z x;refine Ab Ai AR.eq_1 ?_;simp[hij,show(i:Int)≤j by omega,h0,gi,ga,show(i:Int)<n by omega,show i<n by omega,ha,show(a:Int)<n by omega,Di];rw[AU];simp;refine Fj rfl (Eb z x) (by simp) rfl ?_;cases hL:BP z x with
   |true=>
    rw[hL] at hc hq;have hc':Fk z.i x.i<0:=by simpa using hc
    rw[if_neg (by simp)] at hq;simp[hc'];exact hq [(47,bv false)]
   |false=>
    rw[hL] at hc hq;have hc':¬ Fk z.i x.i<0:=by simpa using hc
    rw[if_pos (by simp[hij])] at hq;simp[hc',e1];exact ih (i+1) (by omega) (by omega) hq
  ·rw[Sort.scanUp,if_neg (by simp;omega)] at hq;refine Ab Ai AR.eq_1 ?_;simp[show ¬ (i:Int)≤j by omega,hij];rw[AU];simp;exact hq [(47,bv false)]
theorem Afh {n a i:Nat} {z:Sc} {d:Array Sc} {H:Hp} (hn:n≤900) (ha:a<n) (hi:i≤n) (hi1:1≤i) (hd:d.size=n) (hz:d[a]! = z) (hH:∀ p,H (0::p)=(Bl d v).F 0 p):∀ (j:Nat),j<n →
  (∀ (st:List (Nat × A)),Q (.exit 4) ⟨lk ([(0,Ig n v 0),(1,iv a),(4,Df),(11,iv i),(12,iv (Sort.scanDown (fun x=>BP z x) d i j))]++st),H⟩) →
  LoopC (DG Tryz.prog w0 I0 M0 n0 m0) AQ Q ⟨lk [(0,Ig n v 0),(1,iv a),(4,Df),(11,iv i),(12,iv j)],H⟩:=by
 intro j;induction j with
 |zero=>
  intro hj hq;rw[Sort.scanDown] at hq;refine Ab Ai AQ.eq_1 ?_;simp[show ¬ (i:Int)≤0 by omega,show ¬ i=0 by omega];rw[AU];simp;exact hq [(65,bv false)]
 |succ j ih=>
  intro hj hq;rw[Sort.scanDown] at hq;by_cases hij:i≤j+1
  ·have h0:=hH [];simp only[LU] at h0;have gi:=BF (d:=d) (i:=j+1) (by omega);have ga:=BF (d:=d) (i:=a) (by omega);rw[hz] at ga;have e1:i64.wrap (((j+1:Nat):Int)-1)=(j:Int):=AP;have e2:i64.wrap (j:Int)=(j:Int):=BJ;generalize d[j+1]! = x at gi hq;have hc:=YT z x;have hij':(i:Int)≤((j+1:Nat):Int):=by omega
   have hj':((j+1:Nat):Int)<n:=by omega
   generalize hjj:j+1=jj at gi hij hij' hj hj' e1 hq ⊢;refine Ab Ai AQ.eq_1 ?_;simp[hij,hij',h0,gi,ga,hj,hj',ha,show(a:Int)<n by omega,Di];rw[AU];simp;refine Fj rfl (Eb z x) (by simp) rfl ?_;cases hL:BP z x with
   |true=>
    rw[hL] at hc hq;have hc':Fk z.i x.i<0:=by simpa using hc
    rw[if_pos (by simp[hij])] at hq;simp[hc',e1];exact ih (by omega) hq
   |false=>
    rw[hL] at hc hq;have hc':¬ Fk z.i x.i<0:=by simpa using hc
    rw[if_neg (by simp)] at hq;simp[hc'];exact hq [(65,bv false)]
  ·rw[if_neg (by simp;omega)] at hq;refine Ab Ai AQ.eq_1 ?_;have hij':¬ (i:Int)≤((j+1:Nat):Int):=by omega
   generalize hjj:j+1=jj at hij hij' hq ⊢;simp[hij,hij'];rw[AU];simp;exact hq [(65,bv false)]
theorem Mx (p:Sc→Bool) (d:Array Sc) (j:Nat):∀ (m i:Nat),j+1-i≤m→i≤Sort.scanUp p d j i∧(Sort.scanUp p d j i≤j+1∨Sort.scanUp p d j i=i)
 |0,i,h=>by rw[Sort.scanUp,if_neg (by simp;omega)];exact⟨BZ _,.inr rfl⟩
 |m+1,i,h=>by
  rw[Sort.scanUp];split
  ·rename_i hc;simp at hc;have:=Mx p d j m (i+1) (by omega);refine⟨by omega,.inl ?_⟩;rcases this.2 with h | h<;>omega
  ·exact⟨BZ _,.inr rfl⟩
theorem I3 (p:Sc→Bool) (d:Array Sc) (i:Nat) (hi:1≤i):∀ j:Nat,Sort.scanDown p d i j≤j∧(i-1≤Sort.scanDown p d i j∨Sort.scanDown p d i j=j)
 |0=>by rw[Sort.scanDown];exact⟨BZ _,.inr rfl⟩
 |j+1=>by
  rw[Sort.scanDown];split
  ·rename_i hc;simp at hc;have:=I3 p d i hi j;refine⟨by omega,?_⟩;rcases this.2 with h | h
   ·exact .inl h
   ·left;omega
  ·exact⟨BZ _,.inr rfl⟩
theorem Adp {n a:Nat} (hn:n≤900) (ha:a<n):∀ (m i j:Nat) (d:Array Sc) (H:Hp),j+1-i≤m→a+1≤i→i≤n→j<n→a≤j→i≤j+2→d.size=n→(∀ p,H (0::p)=(Bl d v).F 0 p) →
  (∀ (H':Hp) (x:A) (st:List (Nat × A)),(∀ p,H' (0::p)=(Bl (Sort.partLoop BP a i j d).2 v).F 0 p)→a≤(Sort.partLoop BP a i j d).1→(Sort.partLoop BP a i j d).1<n→(Sort.partLoop BP a i j d).2.size=n →
   Q (.exit 4) ⟨lk ([(0,Ig n v 0),(1,iv a),(4,Df),(12,x),(13,iv (Sort.partLoop BP a i j d).1)]++st),H'⟩) →
  LoopC (DG Tryz.prog w0 I0 M0 n0 m0) B5 Q ⟨lk [(0,Ig n v 0),(1,iv a),(4,Df),(12,iv i),(13,iv j)],H⟩:=by
 intro m;induction m using Nat.strongRecOn with
 |_ m ih=>
  intro i j d H hm h1 hi hj haj hij hd hH hq;rw[Sort.partLoop] at hq;have hu:=Mx (fun x=>BP x d[a]!) d j (j+1-i) i (BZ _);have lu:=fun (Q:Exit→Sta→Prop)=>Ad0 (n0:=n0) (w0:=w0) (I0:=I0) (M0:=M0) (m0:=m0) (Q:=Q) (v:=v) (a:=a) (j:=j) (H:=H) hn ha hj hd rfl hH (j+1-i) i (BZ _) hi;generalize Sort.scanUp (fun x=>BP x d[a]!) d j i=i2 at hq hu lu;have hi2:i2≤n:=by rcases hu.2 with h | h<;>omega
  have hdn:=I3 (fun x=>!BP x d[a]!) d i2 (by omega) j;have ld:=fun (Q:Exit→Sta→Prop)=>AfO (n0:=n0) (w0:=w0) (I0:=I0) (M0:=M0) (m0:=m0) (Q:=Q) (v:=v) (a:=a) (i:=i2) (H:=H) hn ha hi2 (by omega) hd rfl hH j hj;generalize Sort.scanDown (fun x=>!BP x d[a]!) d i2 j=j2 at hq hdn ld;refine Ab Ai B5.eq_1 ?_;simp;refine lu _ fun st=>?_;simp;refine ld _ fun st2=>?_;by_cases hc:j2<i2
  ·rw[if_pos hc] at hq;simp[hc,show(j2:Int)<i2 by omega];exact hq H (iv i2) [(144,bv true)] hH (by rcases hdn.2 with h | h<;>omega) (by omega) hd
  ·rw[if_neg hc] at hq;have hg:j2-1+1-(i2+1)<j+1-i:=by omega
   rw[dif_pos hg] at hq;have h0:=hH [];simp only[LU] at h0;have e1:=Av i2;have e2:i64.wrap ((j2:Int)-1)=((j2-1:Nat):Int):=AP;have g1:=BF (d:=d) (i:=i2) (by omega);have g0:=BF (d:=d) (i:=j2) (by omega);have g2:=IC (d:=d) (i:=i2) (j:=j2) (by omega) (by omega);have hs:=Me (d:=d) (i:=i2) (j:=j2);generalize d[i2]! = x at g1 g2 hs;generalize d[j2]! = y at g0 g2 hs;simp[hc,show ¬ (j2:Int)<i2 by omega,h0,g0,g1,g2,e1,e2,show(i2:Int)<n by omega,show(j2:Int)<n by omega,show i2<n by omega,show j2<n by omega,Di];refine LoopC.le (Ao [(0,Ig n v 0),(1,iv a),(4,Df),(12,iv (i2+1:Nat)),(13,iv (j2-1:Nat))] (by simp)) ?_;exact ih (j2-1+1-(i2+1)) (by omega) (i2+1) (j2-1) (Sort.swp d i2 j2) _ (BZ _) (by omega) (by omega) (by omega) (by omega) (by omega) (by rw[FR];exact hd) (fun p=>by by_cases hp:p=[]<;>simp[hp,hs,Aa,hH]) hq
theorem AcZ {n a:Nat} (hn:n≤900) (ha:a<n):∀ (m i j:Nat) (d:Array Sc) (H:Hp),j+1-i≤m→a+1≤i→i≤n→j<n→a≤j→i≤j+2→d.size=n→(∀ p,H (0::p)=(Bl d v).F 0 p) →
  (∀ (H':Hp) (x:A) (st:List (Nat × A)),(∀ p,H' (0::p)=(Bl (Sort.partEqLoop BP a i j d).2 v).F 0 p)→a<(Sort.partEqLoop BP a i j d).1→(Sort.partEqLoop BP a i j d).1≤n→(Sort.partEqLoop BP a i j d).2.size=n →
   Q (.exit 0) ⟨lk ([(0,Ig n v 0),(1,iv a),(4,Df),(11,iv (Sort.partEqLoop BP a i j d).1),(12,x)]++st),H'⟩) →
  LoopC (DG Tryz.prog w0 I0 M0 n0 m0) BG Q ⟨lk [(0,Ig n v 0),(1,iv a),(4,Df),(11,iv i),(12,iv j)],H⟩:=by
 intro m;induction m using Nat.strongRecOn with
 |_ m ih=>
  intro i j d H hm h1 hi hj haj hij hd hH hq;rw[Sort.partEqLoop] at hq;have hu:=Mx (fun x=>!BP d[a]! x) d j (j+1-i) i (BZ _);have lu:=fun (Q:Exit→Sta→Prop)=>Afs (n0:=n0) (w0:=w0) (I0:=I0) (M0:=M0) (m0:=m0) (Q:=Q) (v:=v) (a:=a) (j:=j) (H:=H) hn ha hj hd rfl hH (j+1-i) i (BZ _) hi;generalize Sort.scanUp (fun x=>!BP d[a]! x) d j i=i2 at hq hu lu;have hi2:i2≤n:=by rcases hu.2 with h | h<;>omega
  have hdn:=I3 (fun x=>BP d[a]! x) d i2 (by omega) j;have ld:=fun (Q:Exit→Sta→Prop)=>Afh (n0:=n0) (w0:=w0) (I0:=I0) (M0:=M0) (m0:=m0) (Q:=Q) (v:=v) (a:=a) (i:=i2) (H:=H) hn ha hi2 (by omega) hd rfl hH j hj;generalize Sort.scanDown (fun x=>BP d[a]! x) d i2 j=j2 at hq hdn ld;refine Ab Ai BG.eq_1 ?_;simp;refine lu _ fun st=>?_;simp;refine ld _ fun st2=>?_;by_cases hc:j2<i2
  ·rw[if_pos hc] at hq;simp[hc,show(j2:Int)<i2 by omega];exact hq H (iv j2) [(70,bv true)] hH (by omega) hi2 hd
  ·rw[if_neg hc] at hq;have hg:j2-1+1-(i2+1)<j+1-i:=by omega
   rw[dif_pos hg] at hq;have h0:=hH [];simp only[LU] at h0;have e1:=Av i2;have e2:i64.wrap ((j2:Int)-1)=((j2-1:Nat):Int):=AP;have g1:=BF (d:=d) (i:=i2) (by omega);have g0:=BF (d:=d) (i:=j2) (by omega);have g2:=IC (d:=d) (i:=i2) (j:=j2) (by omega) (by omega);have hs:=Me (d:=d) (i:=i2) (j:=j2);generalize d[i2]! = x at g1 g2 hs;generalize d[j2]! = y at g0 g2 hs;simp[hc,show ¬ (j2:Int)<i2 by omega,h0,g0,g1,g2,e1,e2,show(i2:Int)<n by omega,show(j2:Int)<n by omega,show i2<n by omega,show j2<n by omega,Di];refine LoopC.le (Ao [(0,Ig n v 0),(1,iv a),(4,Df),(11,iv (i2+1:Nat)),(12,iv (j2-1:Nat))] (by simp)) ?_;exact ih (j2-1+1-(i2+1)) (by omega) (i2+1) (j2-1) (Sort.swp d i2 j2) _ (BZ _) (by omega) (by omega) (by omega) (by omega) (by omega) (by rw[FR];exact hd) (fun p=>by by_cases hp:p=[]<;>simp[hp,hs,Aa,hH]) hq
theorem Yd (d:Array Sc) (v a b q:Nat) (hn:d.size≤900) (hab:a+2≤b) (hb:b≤d.size) (hq:q<d.size):Bh Tryz.prog 278 (fun r=>[Ig d.size v r,iv a,iv b,iv q,Df]) (Bl d v) (fun _=>.tup [iv (Sort.partition BP d a b q).1,bv (Sort.partition BP d a b q).2.1]) (Bl (Sort.partition BP d a b q).2.2 v):=by
 refine AE GH (by simp) (Af (Qx _ _) (Af Au (Af Au (Af Au (Af Ex Am))))) (Bz (Af Au (Af Au Am))) fun w0 I0 M0 m0=>?_;obtain⟨n,hnn⟩:∃ n,d.size=n:=⟨_,rfl⟩;rw[hnn] at hn hb hq ⊢;have e1:=Av a;have e2:i64.wrap ((b:Int)-1)=((b-1:Nat):Int):=AP;have g1:=BF (d:=d) (i:=a) (by omega);have g0:=BF (d:=d) (i:=q) (by omega);have g2:=IC (d:=d) (i:=a) (j:=q) (by omega) (by omega);have hs:=Me (d:=d) (i:=a) (j:=q);have hsz:(Sort.swp d a q).size=n:=by rw[FR];exact hnn
 obtain⟨R,hR⟩:∃ R,R=Sort.partition BP d a b q:=⟨_,rfl⟩;rw[← hR];unfold Sort.partition at hR;generalize d[a]! = x at g1 g2 hs;generalize d[q]! = y at g0 g2 hs;generalize hd1:Sort.swp d a q=d1 at hs hsz hR;have hu:=Mx (fun x=>BP x d1[a]!) d1 (b-1) (b-1+1-(a+1)) (a+1) (BZ _);have lu:=fun (Q:Exit→Sta→Prop) (H:Hp) (hH:∀ p,H (0::p)=(Bl d1 v).F 0 p)=>Afp (n0:=178) (w0:=w0) (I0:=I0) (M0:=M0) (m0:=m0) (Q:=Q) (v:=v) (a:=a) (j:=b-1) (H:=H) hn (by omega) (by omega) hsz rfl hH (b-1+1-(a+1)) (a+1) (BZ _) (by omega);simp only at hR;generalize Sort.scanUp (fun x=>BP x d1[a]!) d1 (b-1) (a+1)=i2 at hR hu lu;have hi2:i2≤n:=by rcases hu.2 with h | h<;>omega
 have hdn:=I3 (fun x=>!BP x d1[a]!) d1 i2 (by omega) (b-1);have ld:=fun (Q:Exit→Sta→Prop) (H:Hp) (hH:∀ p,H (0::p)=(Bl d1 v).F 0 p)=>Ady (n0:=178) (w0:=w0) (I0:=I0) (M0:=M0) (m0:=m0) (Q:=Q) (v:=v) (a:=a) (i:=i2) (H:=H) hn (by omega) hi2 (by omega) hsz rfl hH (b-1) (by omega);generalize Sort.scanDown (fun x=>!BP x d1[a]!) d1 i2 (b-1)=j2 at hR hdn ld;have hj2:a≤j2:=by rcases hdn.2 with h | h<;>omega
 have hj2n:j2<n:=by omega
 unfold Dm;simp[g0,g1,g2,e1,e2,show(a:Int)<n by omega,show(q:Int)<n by omega,show a<n by omega,hq,Di,Aa];refine LoopC.le (Ao [(0,Ig n v 0),(1,iv a),(4,Df),(12,iv (a+1:Nat)),(13,iv (b-1:Nat))] (by simp)) ?_;have hH1:∀ p,(ov 0 (Ay ((Bl d v).F 0) [] ⟨v,.arr 2 (((d.toList.map H7).set a (H7 y)).set q (H7 x))⟩) (EH []):Hp) (0::p)=(Bl d1 v).F 0 p:=fun p=>by by_cases hp:p=[]<;>simp[hp,hs,Aa]
 refine lu _ _ hH1 fun st=>?_;simp;refine ld _ _ hH1 fun st2=>?_;have m1:=BF (d:=d1) (i:=a) (by omega);have m2:=BF (d:=d1) (i:=j2) (by omega);by_cases hc:j2<i2
 ·rw[if_pos hc] at hR;subst hR;have m3:=IC (d:=d1) (i:=j2) (j:=a) (by omega) (by omega);have ms:=Me (d:=d1) (i:=j2) (j:=a);rw[hs] at m1 m2 m3 ms;simp only;generalize d1[a]! = z at m1 m3 ms;generalize d1[j2]! = u at m2 m3 ms;generalize hL:(((d.toList.map H7).set a (H7 y)).set q (H7 x))=L at *;simp[hc,show(j2:Int)<i2 by omega,m1,m2,m3,Aa,show(a:Int)<n by omega,show(j2:Int)<n by omega,show a<n by omega,hj2n,Di];exact AM rfl rfl (fun p=>by by_cases hp:p=[]<;>simp[hp,ms,Aa])
 ·rw[if_neg hc] at hR;have e3:=Av i2;have e4:i64.wrap ((j2:Int)-1)=((j2-1:Nat):Int):=AP;have m1:=BF (d:=d1) (i:=i2) (by omega);have m3:=IC (d:=d1) (i:=i2) (j:=j2) (by omega) (by omega);have ms:=Me (d:=d1) (i:=i2) (j:=j2);have hsz2:(Sort.swp d1 i2 j2).size=n:=by rw[FR];exact hsz
  rw[hs] at m1 m2 m3 ms;generalize d1[i2]! = z at m1 m3 ms;generalize d1[j2]! = u at m2 m3 ms;generalize hd2:Sort.swp d1 i2 j2=d2 at ms hsz2 hR;have l5:=fun (Q:Exit→Sta→Prop) (H:Hp) (hH:∀ p,H (0::p)=(Bl d2 v).F 0 p)=>Adp (n0:=178) (w0:=w0) (I0:=I0) (M0:=M0) (m0:=m0) (Q:=Q) (v:=v) hn (show a<n by omega) (j2-1+1-(i2+1)) (i2+1) (j2-1) d2 H (BZ _) (by omega) (by omega) (by omega) (by omega) (by omega) hsz2 hH;generalize Sort.partLoop BP a (i2+1) (j2-1) d2=T at hR l5;generalize hL:(((d.toList.map H7).set a (H7 y)).set q (H7 x))=L at *;simp[hc,show ¬ (j2:Int)<i2 by omega,m1,m2,m3,e3,e4,Aa,show(i2:Int)<n by omega,show(j2:Int)<n by omega,show i2<n by omega,hj2n,Di];refine LoopC.le (Ao [(0,Ig n v 0),(1,iv a),(4,Df),(12,iv (i2+1:Nat)),(13,iv (j2-1:Nat))] (by simp)) ?_;refine l5 _ _ (fun p=>by by_cases hp:p=[]<;>simp[hp,ms,Aa]) fun H' xx st3 hT t1 t2 t3=>?_;have h0:=hT [];simp only[LU] at h0;have k1:=BF (d:=T.2) (i:=a) (by omega);have k2:=BF (d:=T.2) (i:=T.1) (by omega);have k3:=IC (d:=T.2) (i:=T.1) (j:=a) (by omega) (by omega);have ks:=Me (d:=T.2) (i:=T.1) (j:=a);subst hR;simp only;generalize T.2[a]! = z' at k1 k3 ks;generalize T.2[T.1]! = u' at k2 k3 ks;simp[h0,k1,k2,k3,show(a:Int)<n by omega,show(T.1:Int)<n by omega,show a<n by omega,t2,Di];exact AM rfl rfl (fun p=>by by_cases hp:p=[]<;>simp[hp,ks,hT,Aa])
theorem dm (d:Array Sc) (v a b q:Nat) (hn:d.size≤900) (hab:a+2≤b) (hb:b≤d.size) (hq:q<d.size):Bh Tryz.prog 277 (fun r=>[Ig d.size v r,iv a,iv b,iv q,Df]) (Bl d v) (fun _=>iv (Sort.partitionEqual BP d a b q).1) (Bl (Sort.partitionEqual BP d a b q).2 v):=by
 refine AE Fl (by simp) (Af (Qx _ _) (Af Au (Af Au (Af Au (Af Ex Am))))) Au fun w0 I0 M0 m0=>?_;obtain⟨n,hnn⟩:∃ n,d.size=n:=⟨_,rfl⟩;rw[hnn] at hn hb hq ⊢;have e1:=Av a;have e2:i64.wrap ((b:Int)-1)=((b-1:Nat):Int):=AP;have g1:=BF (d:=d) (i:=a) (by omega);have g0:=BF (d:=d) (i:=q) (by omega);have g2:=IC (d:=d) (i:=a) (j:=q) (by omega) (by omega);have hs:=Me (d:=d) (i:=a) (j:=q);have hsz:(Sort.swp d a q).size=n:=by rw[FR];exact hnn
 unfold Sort.partitionEqual;generalize d[a]! = x at g1 g2 hs;generalize d[q]! = y at g0 g2 hs;generalize Sort.swp d a q=d1 at hs hsz ⊢;have l3:=fun (Q:Exit→Sta→Prop) (H:Hp) (hH:∀ p,H (0::p)=(Bl d1 v).F 0 p)=>AcZ (n0:=90) (w0:=w0) (I0:=I0) (M0:=M0) (m0:=m0) (Q:=Q) (v:=v) hn (show a<n by omega) (b-1+1-(a+1)) (a+1) (b-1) d1 H (BZ _) (by omega) (by omega) (by omega) (by omega) (by omega) hsz hH;generalize Sort.partEqLoop BP a (a+1) (b-1) d1=T at l3 ⊢;unfold CH;simp[g0,g1,g2,e1,e2,show(a:Int)<n by omega,show(q:Int)<n by omega,show a<n by omega,hq,Di,Aa];refine LoopC.le (Ao [(0,Ig n v 0),(1,iv a),(4,Df),(11,iv (a+1:Nat)),(12,iv (b-1:Nat))] (by simp)) ?_;refine l3 _ _ (fun p=>by by_cases hp:p=[]<;>simp[hp,hs,Aa]) fun H' xx st hT t1 t2 t3=>?_;simp;exact AM rfl rfl hT
abbrev AdC:List UInt8:=[0,1,2,2,3,3,3,3,4,4,4,4,4,4,4,4,5,5,5,5,5,5,5,5,5,5,5,5,5,5,5,5,6,6,6,6,6,6,6,6,6,6,6,6,6,6,6,6,6,6,6,6,6,6,6,6,6,6,6,6,6,6,6,6,7,7,7,7,7,7,7,7,7,7,7,7,7,7,7,7,7,7,7,7,7,7,7,7,7,7,7,7,7,7,7,7,7,7,7,7,7,7,7,7,7,7,7,7,7,7,7,7,7,7,7,7,7,7,7,7,7,7,7,7,7,7,7,7,8,8,8,8,8,8,8,8,8,8,8,8,8,8,8,8,8,8,8,8,8,8,8,8,8,8,8,8,8,8,8,8,8,8,8,8,8,8,8,8,8,8,8,8,8,8,8,8,8,8,8,8,8,8,8,8,8,8,8,8,8,8,8,8,8,8,8,8,8,8,8,8,8,8,8,8,8,8,8,8,8,8,8,8,8,8,8,8,8,8,8,8,8,8,8,8,8,8,8,8,8,8,8,8,8,8,8,8,8,8,8,8,8,8,8,8,8,8,8,8,8,8,8,8,8,8,8,8]
set_option maxRecDepth 100000 in
theorem Xc (n:Nat) (h:n<256):AdC[n]? = some (UInt8.ofNat (Sort.bitsLen n))∧Sort.bitsLen n≤8:=by
 have:∀ n:Fin 256,AdC[n.val]? = some (UInt8.ofNat (Sort.bitsLen n.val))∧Sort.bitsLen n.val≤8:=by decide +kernel
 exact this ⟨n,h⟩
set_option maxRecDepth 100000 in
theorem jR (n:Nat) (hn:n<256):G.Spec Tryz.prog 280 [uv n] (iv (Sort.bitsLen n)):=by
 refine Aj SB (by simp) fun w0 I0=>?_;unfold Lm;simp[show ¬ (4294967296:Int)≤n by omega];rw[KM.eq_1];simp[show ¬ (65536:Int)≤n by omega];rw[Kv.eq_1];obtain⟨ht,hb⟩:=Xc n hn;have hx:(UInt8.ofNat (Sort.bitsLen n)).toNat=Sort.bitsLen n:=by rw[UInt8.toNat_ofNat'];exact Nat.mod_eq_of_lt (by omega)
 generalize UInt8.ofNat (Sort.bitsLen n)=y at ht hx;have e1:i64.wrap (Sort.bitsLen n:Int)=(Sort.bitsLen n:Int):=BJ;have e2:IntKind.u8.wrap (n:Int)=(n:Int):=by rw[IntKind.wrap_u8];omega
 simp[show ¬ (256:Int)≤n by omega,ht,e2];rw[hx,e1,e1];exact Ad rfl
theorem RZ (n:Nat) (hn:n<256):G.Spec Tryz.prog 265 [uv n] (iv (Sort.bitsLen n)):=by
 refine Aj VD (by simp) fun w0 I0=>?_;unfold NZ;simp;refine Ae (jR n hn) rfl ?_;simp;exact Ad rfl
theorem Z7 (n:Nat) (hn:n<256):G.Spec Tryz.prog 282 [iv n] (uv (1 <<< Sort.bitsLen n:Nat)):=by
 refine Aj MJ (by simp) fun w0 I0=>?_;obtain⟨_,hb⟩:=Xc n hn;have e1:u64.wrap (n:Int)=(n:Int):=AG (by omega) (by omega);have h2:(2:Nat) ^ Sort.bitsLen n≤2 ^ 8:=Nat.pow_le_pow_right (by omega) hb;have h3:((2 ^ Sort.bitsLen n:Nat):Int)<18446744073709551616:=Int.ofNat_lt.2 (Nat.lt_of_le_of_lt h2 (by decide));have e2:u64.wrap (2 ^ min (Sort.bitsLen n) u64.bits:Int)=((1 <<< Sort.bitsLen n:Nat):Int):=by
  rw[show min (Sort.bitsLen n) u64.bits=Sort.bitsLen n from Nat.min_eq_left (Nat.le_trans hb (by decide)),Nat.one_shiftLeft];rw[show((2:Int) ^ Sort.bitsLen n)=((2 ^ Sort.bitsLen n:Nat):Int) by simp];exact AG (Int.natCast_nonneg _) h3
 generalize hz:((1 <<< Sort.bitsLen n:Nat):Int)=z at e2 ⊢;unfold Hf;simp[e1];refine Ae (RZ n hn) rfl ?_;simp[e2];exact Ad rfl
theorem Afl (s:UInt64) (k:UInt64) (hk:k.toNat<64):bits .xor .u64 (s.toNat:Int) (u64.wrap ((s.toNat:Int)*2 ^ k.toNat))=((s ^^^ (s <<< k)).toNat:Int):=by
 have h:=s.toNat_lt;have e:u64.wrap ((s.toNat:Int)*2 ^ k.toNat)=((s <<< k).toNat:Int):=by
  rw[IntKind.wrap_u64,UInt64.toNat_shiftLeft,Nat.mod_eq_of_lt hk,Nat.shiftLeft_eq];rw[show((s.toNat:Int)*2 ^ k.toNat)=((s.toNat*2 ^ k.toNat:Nat):Int) by simp];omega
 rw[e,bits_xor_u64_nat _ _ h (s <<< k).toNat_lt,UInt64.toNat_xor]
theorem AiO (s:UInt64) (k:UInt64) (hk:k.toNat<64):bits .xor .u64 (s.toNat:Int) ((s.toNat:Int) / 2 ^ k.toNat)=((s ^^^ (s >>> k)).toNat:Int):=by
 have h:=s.toNat_lt;have e:(s.toNat:Int) / 2 ^ k.toNat=((s >>> k).toNat:Int):=by
  rw[UInt64.toNat_shiftRight,Nat.mod_eq_of_lt hk,Nat.shiftRight_eq_div_pow];simp
 rw[e,bits_xor_u64_nat _ _ h (s >>> k).toNat_lt,UInt64.toNat_xor]
def ceU (s:UInt64):Fam:=⟨fun r p=>if p=[] then ⟨1,.cells [uv s.toNat]⟩ else ⟨0,.none⟩,fun {g δ r r'} hg hd p=>by
  by_cases h1:p=[]
  ·rw[if_pos h1];exact Fam.cells_ren (by simp[A.renL,A.ren])
  ·rw[if_neg h1];rfl,fun {D r} hD p=>by
  by_cases h1:p=[]
  ·rw[if_pos h1];simp[Ob.refs,A.refsL,A.refs]
  ·rw[if_neg h1];trivial⟩
@[simp] theorem AiX {s:UInt64} {r:Nat} {p:Nm}:(ceU s).F r p=if p=[] then ⟨1,.cells [uv s.toNat]⟩ else ⟨0,.none⟩:=rfl
theorem dg (s:UInt64):Bh Tryz.prog 283 (fun r=>[ceP r]) (ceU s) (fun _=>uv (Sort.xorNext s).toNat) (ceU (Sort.xorNext s)):=by
 refine AE Ni (by simp) (Af AJ Am) Au fun w0 I0 M0 m0=>?_;unfold H5;simp[Aa];have x1:bits .xor .u64 (s.toNat:Int) (u64.wrap ((s.toNat:Int)*2 ^ min 13 u64.bits))=((s ^^^ (s <<< 13)).toNat:Int):=Afl s 13 (by decide);rw[x1];have x2:=fun r:UInt64=>AiO r 7 (by decide);have x2':∀ r:UInt64,bits .xor .u64 (r.toNat:Int) ((r.toNat:Int) / 2 ^ min 7 u64.bits)=((r ^^^ (r >>> 7)).toNat:Int):=fun r=>x2 r;rw[x2'];have x3:∀ r:UInt64,bits .xor .u64 (r.toNat:Int) (u64.wrap ((r.toNat:Int)*2 ^ min 17 u64.bits))=((r ^^^ (r <<< 17)).toNat:Int):=fun r=>Afl r 17 (by decide);rw[x3];exact AM rfl rfl (fun p=>by by_cases hp:p=[]<;>simp[hp,Aa,Sort.xorNext])
theorem OU (a l m:Nat) (st:UInt64 × Array Sc) (i:Nat):(Sort.breakStep a l m st i).2.size=st.2.size:=by
 unfold Sort.breakStep;exact FR
theorem wM {n a l k:Nat} (hn:n≤900) (hal:a+l≤n) (h13:13≤l) (h16:l≤49) (hk:k=Sort.bitsLen l) {i:Nat} (hi:i<n) (hib:i≤a+l / 4*2+1) {r:UInt64} {d:Array Sc} {H:Hp} (hd:d.size=n) (hH:∀ p,H (0::p)=(Bl d v).F 0 p) (hG:∀ p,H (1::p)=(ceU r).F 1 p)
  (hq:∀ H':Hp,(∀ p,H' (0::p)=(Bl (Sort.breakStep a l (1 <<< k) (r,d) i).2 v).F 0 p)→(∀ p,H' (1::p)=(ceU (Sort.breakStep a l (1 <<< k) (r,d) i).1).F 1 p)→LoopC (DG Tryz.prog w0 I0 M0 n0 m0) Ax Q ⟨lk [(0,Ig n v 0),(1,iv a),(8,iv l),(9,ceP 1),(10,uv (1 <<< k:Nat)),(11,iv (i+1:Nat))],H'⟩) :
  LoopC (DG Tryz.prog w0 I0 M0 n0 m0) Ax Q ⟨lk [(0,Ig n v 0),(1,iv a),(8,iv l),(9,ceP 1),(10,uv (1 <<< k:Nat)),(11,iv i)],H⟩:=by
 have hN:=dg r;obtain⟨m,hm⟩:∃ m,m=(1 <<< k:Nat):=⟨_,rfl⟩;obtain⟨q4,hq4⟩:∃ q4,q4=l / 4:=⟨_,rfl⟩;have e1:i64.wrap ((l:Int).tdiv 4)=(q4:Int):=by rw[Int.tdiv_eq_ediv_of_nonneg (by omega),Al (by omega) (by omega)];omega
 have e1':i64.wrap ((l:Int) / 4)=(q4:Int):=AP;have e2:i64.wrap ((q4:Int)*2)=(q4:Int)*2:=BJ;have e3:i64.wrap ((a:Int)+(q4:Int)*2)=(a:Int)+(q4:Int)*2:=BJ;have e4:i64.wrap ((a:Int)+(q4:Int)*2+1)=(a:Int)+(q4:Int)*2+1:=BJ;rw[← hm] at hq ⊢;refine Ab Ai Ax.eq_1 ?_;simp[e1,e1',e2,e3,e4,show(i:Int)≤(a:Int)+(q4:Int)*2+1 by omega];refine Aw 1 hN hG (by simp) (by simp) ?_;simp;have hX:=(Sort.xorNext r).toNat_lt;have hml:m≤2*l:=by
  rw[hm,hk,Nat.one_shiftLeft];exact Sort.two_pow_bitsLen_le (by omega)
 have hm1:1≤m:=by
  rw[hm,Nat.one_shiftLeft];exact Nat.one_le_two_pow
 obtain⟨o,ho⟩:∃ o,o=(Sort.xorNext r).toNat &&& (m-1):=⟨_,rfl⟩;have hol:o≤m-1:=by rw[ho];exact Nat.and_le_right
 have eA:bits .and .u64 ((Sort.xorNext r).toNat:Int) (u64.wrap ((m:Int)-1))=(o:Int):=by
  rw[show u64.wrap ((m:Int)-1)=((m-1:Nat):Int) by rw[AG (by omega) (by omega)];omega,bits_and_u64_nat _ _ hX (by omega),← ho]
 have eB:i64.wrap (o:Int)=(o:Int):=BJ;have e5:=Av i;have fin:∀ o2:Nat,o2<l→Sort.breakStep a l m (r,d) i=(Sort.xorNext r,Sort.swp d i (a+o2))→WPC (DG Tryz.prog w0 I0 M0 n0 m0) BN
   (BD 1 (D4 (WPC (DG Tryz.prog w0 I0 M0 n0 m0) (.keep [0,1,8,9,10,11] (.reg [co (some 36) (.move (.tmp 11)) none,co (some 37) (.binOp .add 3 (.tmp 36) (.const (.int .i64 1)) 3) none,co (some 11) (.assign (.tmp 37)) none] [0,1,8,9,10,11]))
    (D4 (LoopC (DG Tryz.prog w0 I0 M0 n0 m0) Ax Q) Q)) (D4 (LoopC (DG Tryz.prog w0 I0 M0 n0 m0) Ax Q) Q)))
   ⟨lk [(0,Ig n v 0),(1,iv a),(8,iv l),(9,ceP 1),(10,uv m),(11,iv i),(12,iv o2)],ov 1 ((ceU (Sort.xorNext r)).F 1) H⟩:=fun o2 ho2 hst=>by
  have h0:=hH [];simp only[LU] at h0;have e6:i64.wrap ((a:Int)+(o2:Int))=((a+o2:Nat):Int):=AP;have g1:=BF (d:=d) (i:=i) (by omega);have g0:=BF (d:=d) (i:=a+o2) (by omega);have g2:=IC (d:=d) (i:=i) (j:=a+o2) (by omega) (by omega);have hs:=Me (d:=d) (i:=i) (j:=a+o2);rw[hst] at hq;generalize d[i]! = x at g1 g2 hs;generalize d[a+o2]! = y at g0 g2 hs;have hj:((a+o2:Nat):Int)<n:=by omega
  have hj':a+o2<n:=by omega
  generalize Sort.swp d i (a+o2)=d2 at hs hq;generalize a+o2=jj at e6 g0 g2 hs hj hj';rw[BN.eq_1];simp[e6,h0,g0,g1,g2,e5,show(i:Int)<n by omega,hi,hj,hj',Di];exact hq _ (fun p=>by by_cases hp:p=[]<;>simp[hp,hs,Aa,hH]) (fun p=>by simp[Aa])
 simp only[eA,eB];have hbs:Sort.breakStep a l m (r,d) i=(Sort.xorNext r,Sort.swp d i (a+(if o ≥ l then o-l else o))):=by
  unfold Sort.breakStep;simp only[← ho]
 by_cases hc:l≤o
 ·rw[if_pos (show o ≥ l from hc)] at hbs;refine⟨fun _=>?_,fun h=>by omega⟩;have e7:i64.wrap ((o:Int)-l)=((o-l:Nat):Int):=AP;rw[e7];exact fin (o-l) (by omega) hbs
 ·rw[if_neg hc] at hbs;refine⟨fun h=>by omega,fun _=>?_⟩;exact fin o (by omega) hbs
theorem iT (d:Array Sc) (v a b:Nat) (hn:d.size≤900) (hab:a+13≤b) (hb:b≤d.size) (hl:b-a<50):Bh Tryz.prog 273 (fun r=>[Ig d.size v r,iv a,iv b,Df]) (Bl d v) (fun _=>.tup []) (Bl (Sort.breakPatterns d a b) v):=by
 refine AE FI (by simp) (Af (Qx _ _) (Af Au (Af Au (Af Ex Am)))) (Bz Am) fun w0 I0 M0 m0=>?_;obtain⟨n,hnn⟩:∃ n,d.size=n:=⟨_,rfl⟩;rw[hnn] at hn hb ⊢;obtain⟨l,hll⟩:∃ l,l=b-a:=⟨_,rfl⟩;obtain⟨q4,hq4⟩:∃ q4,q4=l / 4:=⟨_,rfl⟩;have e0:i64.wrap ((b:Int)-a)=(l:Int):=AP;have e1:i64.wrap ((l:Int).tdiv 4)=(q4:Int):=by rw[Int.tdiv_eq_ediv_of_nonneg (by omega),Al (by omega) (by omega)];omega
 have e1':i64.wrap ((l:Int) / 4)=(q4:Int):=AP;have e2:i64.wrap ((q4:Int)*2)=(q4:Int)*2:=BJ;have e3:i64.wrap ((a:Int)+(q4:Int)*2)=(a:Int)+(q4:Int)*2:=BJ;have e4:i64.wrap ((a:Int)+(q4:Int)*2-1)=((a+q4*2-1:Nat):Int):=AP;have e5:i64.wrap ((a:Int)+(q4:Int)*2+1)=(a:Int)+(q4:Int)*2+1:=BJ;have eu:u64.wrap (l:Int)=(l:Int):=AG (by omega) (by omega);have hNx:=Z7 l (by omega);have ho:(UInt64.ofNat l).toNat=l:=by rw[UInt64.toNat_ofNat'];exact Nat.mod_eq_of_lt (by omega)
 unfold Sort.breakPatterns;simp only[← hll,ge_iff_le,if_pos (show 8≤l by omega),← hq4];have st:=@wM (n0:=67) w0 I0 M0 m0;generalize hid:a+q4*2-1=id0 at e4 ⊢;unfold CN;generalize hmm:(1 <<< Sort.bitsLen l:Nat)=mm at hNx ⊢;simp[e0,eu,show(8:Int)≤l by omega,Aa];refine Ae hNx rfl ?_;simp[e1,e1',e2,e3,e4];rw[← hmm];refine st hn (by omega) (by omega) (by omega) rfl (i:=id0) (r:=UInt64.ofNat l) (d:=d) (by omega) (by omega) hnn (fun p=>by simp) (fun p=>?_) fun H1 f1 g1=>?_
 ·by_cases hp:p=[]
  ·subst hp;simp[EH,ho]
  ·simp[EH,hp,Ne.symm hp]
 have s1:=OU a l (1 <<< Sort.bitsLen l) (UInt64.ofNat l,d) id0;simp only[hnn] at s1;generalize Sort.breakStep a l (1 <<< Sort.bitsLen l) (UInt64.ofNat l,d) id0=S1 at f1 g1 s1 ⊢;refine st hn (by omega) (by omega) (by omega) rfl (i:=id0+1) (r:=S1.1) (d:=S1.2) (by omega) (by omega) s1 f1 g1 fun H2 f2 g2=>?_;have s2:=OU a l (1 <<< Sort.bitsLen l) (S1.1,S1.2) (id0+1);simp only[s1] at s2;have eS:(S1.1,S1.2)=S1:=rfl;rw[eS] at f2 g2 s2;generalize Sort.breakStep a l (1 <<< Sort.bitsLen l) S1 (id0+1)=S2 at f2 g2 s2 ⊢;refine st hn (by omega) (by omega) (by omega) rfl (i:=id0+1+1) (r:=S2.1) (d:=S2.2) (by omega) (by omega) s2 f2 g2 fun H3 f3 g3=>?_;refine Ab Ai Ax.eq_1 ?_;have big:¬ ((id0+1+1+1:Nat):Int)≤(a:Int)+(q4:Int)*2+1:=by omega
 generalize id0+1+1+1=id3 at big ⊢;simp[e1,e1',e2,e3,e5,big];exact AX rfl rfl (fun p=>f3 p)
def yf (d:Array Sc) (a b lim q:Nat) (wb wp:Bool):Array Sc:=
 if (decide (a > 0)&&!BP d[a-1]! d[q]!)=true then
  if a<(Sort.partitionEqual BP d a b q).1∧(Sort.partitionEqual BP d a b q).1≤b then Sort.pdq BP (Sort.partitionEqual BP d a b q).2 (Sort.partitionEqual BP d a b q).1 b lim wb wp else (Sort.partitionEqual BP d a b q).2
 else
  if a≤(Sort.partition BP d a b q).1∧(Sort.partition BP d a b q).1<b then
   if (Sort.partition BP d a b q).1-a<b-(Sort.partition BP d a b q).1 then
    Sort.pdq BP (Sort.pdq BP (Sort.partition BP d a b q).2.2 a (Sort.partition BP d a b q).1 lim true true) ((Sort.partition BP d a b q).1+1) b lim (decide ((Sort.partition BP d a b q).1-a ≥ (b-a) / 8)) (Sort.partition BP d a b q).2.1
   else
    Sort.pdq BP (Sort.pdq BP (Sort.partition BP d a b q).2.2 ((Sort.partition BP d a b q).1+1) b lim true true) a (Sort.partition BP d a b q).1 lim (decide (b-(Sort.partition BP d a b q).1 ≥ (b-a) / 8)) (Sort.partition BP d a b q).2.1
  else (Sort.partition BP d a b q).2.2
def pq2 (d:Array Sc) (a b lim q:Nat) (hint:Sort.Hint) (wb wp:Bool):Array Sc:=
 if (wb&&wp&&decide (hint = .increasing))=true then
  if (Sort.partialInsertionSort BP d a b).2=true then (Sort.partialInsertionSort BP d a b).1 else yf (Sort.partialInsertionSort BP d a b).1 a b lim q wb wp
 else yf d a b lim q wb wp
def vG (d:Array Sc) (a b lim:Nat) (wb wp:Bool):Array Sc:=
 if (Sort.choosePivot BP d a b).2 = .decreasing then pq2 (Sort.reverseRange d a b) a b lim ((b-1)-((Sort.choosePivot BP d a b).1-a)) .increasing wb wp
 else pq2 d a b lim (Sort.choosePivot BP d a b).1 (Sort.choosePivot BP d a b).2 wb wp
theorem sG (d:Array Sc) (a b lim:Nat) (wb wp:Bool):Sort.pdq BP d a b lim wb wp=if b-a≤12 then Sort.insertionSort BP d a b else if lim=0 then Sort.heapSort BP d a b else
  if wb=true then vG d a b lim wb wp else vG (Sort.breakPatterns d a b) a b (lim-1) wb wp:=by
 rw[Sort.pdq];split
 ·rfl
 ·split
  ·rfl
  ·have main:∀ (d:Array Sc) (lim:Nat),(let c:=Sort.choosePivot BP d a b
    let d2:=if c.2 = .decreasing then Sort.reverseRange d a b else d
    let pivot:=if c.2 = .decreasing then (b-1)-(c.1-a) else c.1
    let hint:=if c.2 = .decreasing then Sort.Hint.increasing else c.2
    let pi:=if (wb&&wp&&hint = .increasing)=true then Sort.partialInsertionSort BP d2 a b else (d2,false)
    if pi.2=true then pi.1 else yf pi.1 a b lim pivot wb wp)=vG d a b lim wb wp:=fun d lim=>by
    simp only;unfold vG pq2;by_cases hd:(Sort.choosePivot BP d a b).2 = .decreasing
    ·simp only[hd,if_true];cases wb<;>cases wp<;>simp
    ·simp only[hd,if_false];by_cases hw:(wb&&wp&&decide ((Sort.choosePivot BP d a b).2 = .increasing))=true
     ·rw[if_pos hw,if_pos hw]
     ·rw[if_neg hw,if_neg hw];simp
   cases wb with
   |true=>
    rw[if_pos rfl,← main];simp only[Bool.not_true,Bool.false_eq_true,if_false];unfold yf;rfl
   |false=>
    have e2:(if (false:Bool)=true then vG d a b lim false wp else vG (Sort.breakPatterns d a b) a b (lim-1) false wp)=vG (Sort.breakPatterns d a b) a b (lim-1) false wp:=if_neg (by simp);rw[e2,← main];simp only[Bool.not_false,if_true];unfold yf;rfl
def aH (l lim:Nat) (wb:Bool):Prop:=l≤12∨(l-12)+(if wb=true then 0 else 1)≤lim
section
variable {v n:Nat}
theorem OH {l l' lim:Nat} (wb:Bool) (h:l'<l) (h2:l-12≤lim):aH l' lim wb:=by
 unfold aH;by_cases h3:l'≤12
 ·exact .inl h3
 ·right;split<;>omega
def LPs (v n a b lim:Nat) (wb wp:Bool) (d:Array Sc):Prop:=∀ {n0:Nat} {w0:World} {I0:Nat→Prop} {M0:Nm→Nat→Prop} {m0:Mu} {Q:Exit→Sta→Prop} (H:Hp),(∀ p,H (0::p)=(Bl d v).F 0 p) →
  (∀ (H':Hp) (st:List (Nat × A)),(∀ p,H' (0::p)=(Bl (Sort.pdq BP d a b lim wb wp) v).F 0 p)→Q .ret ⟨lk st,H'⟩) →
  LoopC (DG Tryz.prog w0 I0 M0 n0 m0) AK Q ⟨lk [(0,Ig n v 0),(1,iv a),(2,iv b),(3,iv lim),(4,Df),(10,bv wb),(11,bv wp)],H⟩
def y5 (v n a b lim:Nat) (d:Array Sc):Prop:=Bh Tryz.prog 264 (fun r=>[Ig n v r,iv a,iv b,iv lim,Df]) (Bl d v) (fun _=>.tup []) (Bl (Sort.pdq BP d a b lim true true) v)
theorem eH {a b lim:Nat} {d:Array Sc} (h:LPs v n a b lim true true d):y5 v n a b lim d:=by
 refine AE Hn (by simp) (Af (Qx _ _) (Af Au (Af Au (Af Au (Af Ex Am))))) (Bz Am) fun w0 I0 M0 m0=>?_;unfold DC;simp;refine LoopC.le (Ao [(0,Ig n v 0),(1,iv a),(2,iv b),(3,iv lim),(4,Df),(10,bv true),(11,bv true)] (by simp)) ?_;refine h _ (fun p=>by simp) fun H' st h'=>?_;simp;exact AX rfl rfl (fun p=>h' p)
end
theorem jI (a:Nat):∀ (m i j J:Nat) (d:Array Sc),j+1-i≤m→1≤i→i≤J+1→j≤J→i≤(Sort.partEqLoop BP a i j d).1∧(Sort.partEqLoop BP a i j d).1≤J+1∧(Sort.partEqLoop BP a i j d).2.size=d.size:=by
 intro m;induction m using Nat.strongRecOn with
 |_ m ih=>
  intro i j J d hm h1 hi hj;rw[Sort.partEqLoop];have hu:=Mx (fun x=>!BP d[a]! x) d j (j+1-i) i (BZ _);generalize Sort.scanUp (fun x=>!BP d[a]! x) d j i=i2 at hu ⊢;have hdn:=I3 (fun x=>BP d[a]! x) d i2 (by omega) j;generalize Sort.scanDown (fun x=>BP d[a]! x) d i2 j=j2 at hdn ⊢;by_cases hc:i2 > j2
  ·simp only[hc,if_true];refine⟨hu.1,?_,trivial⟩;rcases hu.2 with h | h<;>omega
  ·have hg:j2-1+1-(i2+1)<j+1-i:=by omega
   simp only[hc,if_false,dif_pos hg];have:=ih (j2-1+1-(i2+1)) (by omega) (i2+1) (j2-1) J (Sort.swp d i2 j2) (BZ _) (by omega) (by omega) (by omega);rw[FR] at this;omega
theorem px (d:Array Sc) (a b q:Nat) (hab:a+2≤b):a<(Sort.partitionEqual BP d a b q).1∧(Sort.partitionEqual BP d a b q).1≤b∧(Sort.partitionEqual BP d a b q).2.size=d.size:=by
 unfold Sort.partitionEqual;have:=jI a (b-1+1-(a+1)) (a+1) (b-1) (b-1) (Sort.swp d a q) (BZ _) (by omega) (by omega) (BZ _);rw[FR] at this;omega
theorem AeV:Sort.SWO BP where
 irrefl x:=by simp[BP]
 trans x y z h1 h2:=by simp[BP] at *; omega
 ntrans x y z h1 h2:=by simp[BP] at *; omega
theorem wx (d:Array Sc) (a b q:Nat) (h1:a≤q) (h2:q<b) (hb:b≤d.size):a≤(Sort.partition BP d a b q).1∧(Sort.partition BP d a b q).1<b∧(Sort.partition BP d a b q).2.2.size=d.size:=by
 obtain⟨k1,k2,k3,_⟩:=Sort.partition_holds BP AeV d a b q h1 h2 hb;exact⟨k1,k2,k3.1⟩
theorem Nq (d:Array Sc) (a b lim:Nat) (h:b-a≤12):(Sort.pdq BP d a b lim true true).size=d.size:=by
 rw[sG,if_pos h];exact Qw BP a b (b-(a+1)) (a+1) d (BZ _)
section
variable {n0:Nat} {w0:World} {I0:Nat→Prop} {M0:Nm→Nat→Prop} {m0:Mu} {Q:Exit→Sta→Prop} {v n:Nat}
theorem Aed {a b lim q l:Nat} {wb wp:Bool} {d:Array Sc} (hn:n≤900) (hd:d.size=n) (hab:a+13≤b) (hb:b≤n) (hl:l=b-a) (hl24:l≤24) (hq1:a≤q) (hq2:q<b) (hlim:l-12≤lim) (hlm:lim≤900)
  (ihL:∀ (a' b' lim':Nat) (wb' wp':Bool) (d':Array Sc),d'.size=n→a'≤b'→b'≤n→b'-a'<l→lim'≤900→aH (b'-a') lim' wb'→LPs v n a' b' lim' wb' wp' d')
  {H:Hp} (hH:∀ p,H (0::p)=(Bl d v).F 0 p) (hq:∀ (H':Hp) (st:List (Nat × A)),(∀ p,H' (0::p)=(Bl (yf d a b lim q wb wp) v).F 0 p)→Q .ret ⟨lk st,H'⟩) :
  WPC (DG Tryz.prog w0 I0 M0 n0 m0) BE (BD 1 (D4 (LoopC (DG Tryz.prog w0 I0 M0 n0 m0) AK Q) Q)) ⟨lk [(0,Ig n v 0),(1,iv a),(2,iv b),(3,iv lim),(4,Df),(10,bv wb),(11,bv wp),(12,iv l),(13,iv q)],H⟩:=by
 have hP:=Yd d v a b q (by omega) (by omega) (by omega) (by omega);have hE:=dm d v a b q (by omega) (by omega) (by omega) (by omega);obtain⟨p1,p2,p3⟩:=wx d a b q hq1 hq2 (by omega);obtain⟨c1,c2,c3⟩:=px d a b q (by omega);unfold yf at hq;rw[if_pos (show a<(Sort.partitionEqual BP d a b q).1∧(Sort.partitionEqual BP d a b q).1≤b from⟨c1,c2⟩),if_pos (show a≤(Sort.partition BP d a b q).1∧(Sort.partition BP d a b q).1<b from⟨p1,p2⟩)] at hq;generalize Sort.partitionEqual BP d a b q=E at hE c1 c2 c3 hq;generalize Sort.partition BP d a b q=R at hP p1 p2 p3 hq;obtain⟨mid,ap,d4⟩:=R;simp only at hP p1 p2 p3 hq;rw[hd] at hP hE p3 c3;have f1:i64.wrap ((mid:Int)-a)=((mid-a:Nat):Int):=AP;have f2:i64.wrap ((b:Int)-mid)=((b-mid:Nat):Int):=AP;have f3:i64.wrap ((l:Int).tdiv 8)=((l / 8:Nat):Int):=by rw[Int.tdiv_eq_ediv_of_nonneg (by omega),Al (by omega) (by omega)];omega
 have f4:i64.wrap ((l:Int) / 8)=((l / 8:Nat):Int):=AP;have f5:=Av mid;rw[BE.eq_1];by_cases ha0:0<a
 ·have h0:=hH [];simp only[LU] at h0;have g1:=BF (d:=d) (i:=a-1) (by omega);have g0:=BF (d:=d) (i:=q) (by omega);have hc:=YT d[a-1]! d[q]!;have f6:i64.wrap ((a:Int)-1)=((a-1:Nat):Int):=AP;generalize d[a-1]! = x at g1 hc hq;generalize d[q]! = y at g0 hc hq;simp[show(0:Int)<a by omega,ha0,h0,f6,g1,g0,show(q:Int)<n by omega,show q<n by omega,show a-1<n by omega,show((a-1:Nat):Int)<n by omega,Di];rw[AU];simp;refine Fj rfl (Eb x y) (by simp) rfl ?_;cases hL:BP x y with
  |false=>
   rw[hL] at hc hq;rw[if_pos (by simp;omega)] at hq;have hc':¬ Fk x.i y.i<0:=by simpa using hc
   simp[hc'];refine Aw 0 hE hH (by simp) (by simp) ?_;simp;exact ihL E.1 b lim wb wp E.2 c3 (by omega) hb (by omega) hlm (OH _ (by omega) hlim) _ (fun p=>by simp) hq
  |true=>
   rw[hL] at hc hq;rw[if_neg (by simp)] at hq;have hc':Fk x.i y.i<0:=by simpa using hc
   simp[hc'];refine Aw 0 hP hH (by simp) (by simp) ?_;simp[f1,f2,f3,f4,f5];refine⟨fun hs=>?_,fun hs=>?_⟩
   ·rw[if_pos hs] at hq;have hS:y5 v n a mid lim d4:=eH (ihL a mid lim true true d4 p3 (by omega) (by omega) (by omega) hlm (.inl (by omega)));have hsz:=Nq d4 a mid lim (by omega);have hdec:decide ((l:Int) / 8≤((mid-a:Nat):Int))=decide (mid-a ≥ (b-a) / 8):=by rw[decide_eq_decide];omega
    refine Aw 0 hS (fun p=>by simp) (by simp) (by simp) ?_;simp[f5];rw[hdec];refine LoopC.le (Ao [(0,Ig n v 0),(1,iv (mid+1:Nat)),(2,iv b),(3,iv lim),(4,Df),(10,bv (decide (mid-a ≥ (b-a) / 8))),(11,bv ap)] (by simp)) ?_;exact ihL (mid+1) b lim _ ap _ (by rw[hsz];exact p3) (by omega) hb (by omega) hlm (OH _ (by omega) hlim) _ (fun p=>by simp) hq
   ·have hs':¬ mid-a<b-mid:=by omega
    rw[if_neg hs'] at hq;have hS:y5 v n (mid+1) b lim d4:=eH (ihL (mid+1) b lim true true d4 p3 (by omega) (by omega) (by omega) hlm (.inl (by omega)));have hsz:=Nq d4 (mid+1) b lim (by omega);have hdec:decide ((l:Int) / 8≤((b-mid:Nat):Int))=decide (b-mid ≥ (b-a) / 8):=by rw[decide_eq_decide];omega
    refine Aw 0 hS (fun p=>by simp) (by simp) (by simp) ?_;simp;rw[hdec];exact ihL a mid lim _ ap _ (by rw[hsz];exact p3) (by omega) (by omega) (by omega) hlm (OH _ (by omega) hlim) _ (fun p=>by simp) hq
 ·rw[if_neg (by simp;omega)] at hq;have ha00:a=0:=by omega
  simp[show ¬ (0:Int)<a by omega,ha0];rw[AU];simp;refine Aw 0 hP hH (by simp) (by simp) ?_;simp[f1,f2,f3,f4,f5];refine⟨fun hs=>?_,fun hs=>?_⟩
  ·rw[if_pos hs] at hq;have hS:y5 v n a mid lim d4:=eH (ihL a mid lim true true d4 p3 (by omega) (by omega) (by omega) hlm (.inl (by omega)));have hsz:=Nq d4 a mid lim (by omega);have hdec:decide ((l:Int) / 8≤((mid-a:Nat):Int))=decide (mid-a ≥ (b-a) / 8):=by rw[decide_eq_decide];omega
   refine Aw 0 hS (fun p=>by simp) (by simp) (by simp) ?_;simp[f5];rw[hdec];refine LoopC.le (Ao [(0,Ig n v 0),(1,iv (mid+1:Nat)),(2,iv b),(3,iv lim),(4,Df),(10,bv (decide (mid-a ≥ (b-a) / 8))),(11,bv ap)] (by simp)) ?_;exact ihL (mid+1) b lim _ ap _ (by rw[hsz];exact p3) (by omega) hb (by omega) hlm (OH _ (by omega) hlim) _ (fun p=>by simp) hq
  ·have hs':¬ mid-a<b-mid:=by omega
   rw[if_neg hs'] at hq;have hS:y5 v n (mid+1) b lim d4:=eH (ihL (mid+1) b lim true true d4 p3 (by omega) (by omega) (by omega) hlm (.inl (by omega)));have hsz:=Nq d4 (mid+1) b lim (by omega);have hdec:decide ((l:Int) / 8≤((b-mid:Nat):Int))=decide (b-mid ≥ (b-a) / 8):=by rw[decide_eq_decide];omega
   refine Aw 0 hS (fun p=>by simp) (by simp) (by simp) ?_;simp;rw[hdec];exact ihL a mid lim _ ap _ (by rw[hsz];exact p3) (by omega) (by omega) (by omega) hlm (OH _ (by omega) hlim) _ (fun p=>by simp) hq
theorem yJ {a b lim q l:Nat} {wb wp:Bool} {h:Sort.Hint} {d:Array Sc} (hn:n≤900) (hd:d.size=n) (hab:a+13≤b) (hb:b≤n) (hl:l=b-a) (hl24:l≤24) (hq1:a≤q) (hq2:q<b) (hlim:l-12≤lim) (hlm:lim≤900)
  (ihL:∀ (a' b' lim':Nat) (wb' wp':Bool) (d':Array Sc),d'.size=n→a'≤b'→b'≤n→b'-a'<l→lim'≤900→aH (b'-a') lim' wb'→LPs v n a' b' lim' wb' wp' d')
  {H:Hp} (hH:∀ p,H (0::p)=(Bl d v).F 0 p) (hq:∀ (H':Hp) (st:List (Nat × A)),(∀ p,H' (0::p)=(Bl (pq2 d a b lim q h wb wp) v).F 0 p)→Q .ret ⟨lk st,H'⟩) :
  WPC (DG Tryz.prog w0 I0 M0 n0 m0) Cj (BD 1 (D4 (LoopC (DG Tryz.prog w0 I0 M0 n0 m0) AK Q) Q)) ⟨lk [(0,Ig n v 0),(1,iv a),(2,iv b),(3,iv lim),(4,Df),(10,bv wb),(11,bv wp),(12,iv l),(13,iv q),(14,iv (OZ h))],H⟩:=by
 have hP:=cw d v a b (by omega) (by omega) (by omega) (by omega);have hpe:=Yj d a b (by omega);have h1:(Sort.partialInsertionSort BP d a b).1=d:=by rw[hpe]
 have hk:∀ {H:Hp},(∀ p,H (0::p)=(Bl d v).F 0 p)→(∀ (H':Hp) (st:List (Nat × A)),(∀ p,H' (0::p)=(Bl (yf d a b lim q wb wp) v).F 0 p)→Q .ret ⟨lk st,H'⟩)→WPC (DG Tryz.prog w0 I0 M0 n0 m0) BE (BD 1 (D4 (LoopC (DG Tryz.prog w0 I0 M0 n0 m0) AK Q) Q)) ⟨lk [(0,Ig n v 0),(1,iv a),(2,iv b),(3,iv lim),(4,Df),(10,bv wb),(11,bv wp),(12,iv l),(13,iv q)],H⟩:=fun hH hq=>Aed hn hd hab hb hl hl24 hq1 hq2 hlim hlm ihL hH hq;unfold pq2 at hq;rw[h1] at hP hq;rw[hd] at hP;rw[Cj.eq_1];by_cases hw:(wb&&wp&&decide (h = .increasing))=true
 ·rw[if_pos hw] at hq;simp at hw;obtain⟨⟨rfl,rfl⟩,rfl⟩:=hw;simp[OZ];refine Aw 0 hP hH (by simp) (by simp) ?_;cases hp:(Sort.partialInsertionSort BP d a b).2 with
  |true=>
   rw[if_pos hp] at hq;simp;exact hq _ [(0,Ig n v 0),(1,iv a),(2,iv b),(3,iv lim),(4,Df),(10,bv true),(11,bv true),(12,iv l),(13,iv q),(80,bv true)] (fun p=>by simp)
  |false=>
   rw[if_neg (by rw[hp];simp)] at hq;simp;exact hk (fun p=>by simp) hq
 ·rw[if_neg hw] at hq;cases wb with
  |false=>
   simp;exact hk hH hq
  |true=>cases wp with
   |false=>
    simp;exact hk hH hq
   |true=>
    cases h with
    |increasing=>simp at hw
    |unknown=>
     simp[OZ];exact hk hH hq
    |decreasing=>
     simp[OZ];exact hk hH hq
theorem yc {a b lim l:Nat} {wb wp:Bool} {d:Array Sc} (hn:n≤900) (hd:d.size=n) (hab:a+13≤b) (hb:b≤n) (hl:l=b-a) (hl24:l≤24) (hlim:l-12≤lim) (hlm:lim≤900)
  (ihL:∀ (a' b' lim':Nat) (wb' wp':Bool) (d':Array Sc),d'.size=n→a'≤b'→b'≤n→b'-a'<l→lim'≤900→aH (b'-a') lim' wb'→LPs v n a' b' lim' wb' wp' d')
  {H:Hp} (hH:∀ p,H (0::p)=(Bl d v).F 0 p) (hq:∀ (H':Hp) (st:List (Nat × A)),(∀ p,H' (0::p)=(Bl (vG d a b lim wb wp) v).F 0 p)→Q .ret ⟨lk st,H'⟩) :
  WPC (DG Tryz.prog w0 I0 M0 n0 m0) Ci (BD 1 (D4 (LoopC (DG Tryz.prog w0 I0 M0 n0 m0) AK Q) Q)) ⟨lk [(0,Ig n v 0),(1,iv a),(2,iv b),(3,iv lim),(4,Df),(10,bv wb),(11,bv wp),(12,iv l)],H⟩:=by
 have hC:=choose_spec d v a b (by omega) hab (by omega) (by omega);have hR:=bD d v a b (by omega) (by omega) (by omega) (by omega);obtain⟨c1,c2⟩:=Sort.choosePivot_holds BP d a b (by omega);have hrs:(Sort.reverseRange d a b).size=n:=by
  have:=(Sort.reverseRange_holds d a b (by omega) (by omega)).1;rw[this];exact hd
 unfold vG at hq;rw[hd] at hC hR;rcases hqq:Sort.choosePivot BP d a b with ⟨q,h⟩;rw[hqq] at hC c1 c2 hq;simp only at hC c1 c2 hq;rw[Ci.eq_1];simp;refine Aw 0 hC hH (by simp) (by simp) ?_;by_cases hdec:h = .decreasing
 ·subst hdec;rw[if_pos rfl] at hq;have e1:i64.wrap ((b:Int)-1)=(b:Int)-1:=BJ;have e2:i64.wrap ((q:Int)-a)=(q:Int)-a:=BJ;have e3:i64.wrap ((b:Int)-1-((q:Int)-a))=((b-1-(q-a):Nat):Int):=AP;simp[OZ];refine Aw 0 hR (fun p=>by simp) (by simp) (by simp) ?_;simp[e1,e2,e3];exact yJ (h:=.increasing) hn hrs hab hb hl hl24 (by omega) (by omega) hlim hlm ihL (fun p=>by simp) hq
 ·rw[if_neg hdec] at hq;have h2:¬ OZ h=2:=by cases h<;>simp[OZ] at hdec ⊢
  simp[h2];exact yJ hn hd hab hb hl hl24 (by omega) (by omega) hlim hlm ihL (fun p=>by simp) hq
theorem Aar (hn:n≤900):∀ (l:Nat),l≤24→∀ (a b lim:Nat) (wb wp:Bool) (d:Array Sc),d.size=n→a≤b→b≤n→b-a=l→lim≤900→aH l lim wb→LPs v n a b lim wb wp d:=by
 intro l;induction l using Nat.strongRecOn with
 |_ l ih=>
  intro hl24 a b lim wb wp d hd hab hb hl hlm hfar n0 w0 I0 M0 m0 Q H hH hq;have e0:i64.wrap ((b:Int)-a)=(l:Int):=AP;refine Ab Ai AK.eq_1 ?_;rw[sG] at hq;by_cases h12:l≤12
  ·rw[if_pos (by omega)] at hq;have hI:=ai d v a b (by omega) (by omega) (by omega);rw[hd] at hI;simp[e0,show(l:Int)≤12 by omega,h12];refine Aw 0 hI hH (by simp) (by simp) ?_;simp;exact hq _ [] (fun p=>by simp)
  ·rw[if_neg (by omega)] at hq;have hlim:(l-12)+(if wb=true then 0 else 1)≤lim:=by
    rcases hfar with h | h
    ·omega
    ·exact h
   have hlim0:¬ lim=0:=by split at hlim<;>omega
   rw[if_neg hlim0] at hq;have ihL:∀ (a' b' lim':Nat) (wb' wp':Bool) (d':Array Sc),d'.size=n→a'≤b'→b'≤n→b'-a'<l→lim'≤900→aH (b'-a') lim' wb'→LPs v n a' b' lim' wb' wp' d':=fun a' b' lim' wb' wp' d' k1 k2 k3 k4 k5 k6=>ih (b'-a') k4 (by omega) a' b' lim' wb' wp' d' k1 k2 k3 rfl k5 k6;cases wb with
   |true=>
    rw[if_pos rfl] at hq;simp at hlim;simp[e0,show ¬ (l:Int)≤12 by omega,h12,hlim0];exact yc hn hd (by omega) hb hl.symm hl24 (by omega) hlm ihL hH hq
   |false=>
    rw[if_neg (by simp)] at hq;simp at hlim;have hB:=iT d v a b (by omega) (by omega) (by omega) (by omega);rw[hd] at hB;have hbs:(Sort.breakPatterns d a b).size=n:=by
     have:=(Sort.breakPatterns_holds d a b hab (by omega)).1;rw[this];exact hd
    have e1:i64.wrap ((lim:Int)-1)=((lim-1:Nat):Int):=AP;simp[e0,show ¬ (l:Int)≤12 by omega,h12,hlim0];refine Aw 0 hB hH (by simp) (by simp) ?_;simp[e1];exact yc hn hbs (by omega) hb hl.symm hl24 (by omega) (by omega) ihL (fun p=>by simp) hq
end
theorem bz {o:List Sc} (ho:En o) {d:Array Sc} (hp:d.toList.Perm o) (hs:Sort.SortedIn BP 0 d.size d):d.toList=CP o:=by
 have ha:En d.toList:=by
  unfold En at ho ⊢;exact(hp.pairwise_iff (fun {x y} h=>by rw[eK];exact h)).2 ho
 have hr:Kn d.toList:=by
  unfold Kn En at *;rw[List.pairwise_iff_getElem] at ha ⊢;intro i j hi hj hij;have h1:=ha i j hi hj hij;have h2:=hs i j (Nat.zero_le _) hij (by simpa using hj);have e1:d[i]! = d.toList[i]:=by rw[getElem!_pos d i (by simpa using hi)];simp
  have e2:d[j]! = d.toList[j]:=by rw[getElem!_pos d j (by simpa using hj)];simp
  rw[e1,e2] at h2;simp[BP] at h2;simp[V5] at h1;simp at h1 h2 ⊢;omega
 obtain⟨k1,k2⟩:=Kt ho;exact Zv hr k1 (hp.trans k2.symm)
theorem kC {o:List Sc} (ho:En o) (hl:o.length≤16) (v:Nat):Bh Tryz.prog 241 (fun r=>[uY o v r,Df]) (ig o v) (fun _=>.tup []) (ig (CP o) v):=by
 obtain⟨d,hd⟩:∃ d:Array Sc,d=o.toArray:=⟨_,rfl⟩;have hdl:d.toList=o:=by rw[hd]
 have hds:d.size=o.length:=by rw[hd];simp
 have hb:Sort.bitsLen o.length≤8:=(Xc o.length (by omega)).2;have hfar:aH o.length (Sort.bitsLen o.length) true:=by
  have:∀ n:Fin 17,n.val≤12∨(n.val-12)+0≤Sort.bitsLen n.val:=by decide +kernel
  unfold aH;simpa using this ⟨o.length,by omega⟩
 have hP:y5 v o.length 0 o.length (Sort.bitsLen o.length) d:=eH (Aar (by omega) o.length (by omega) 0 o.length _ true true d hds (by omega) (BZ _) (by omega) (by omega) hfar);have hS:=Sort.pdq_sorts BP AeV d 0 d.size (Sort.bitsLen o.length) true true (Nat.zero_le _) (BZ _) (.inl rfl);have hres:(Sort.pdq BP d 0 o.length (Sort.bitsLen o.length) true true).toList=CP o:=by
  rw[hds] at hS;obtain⟨⟨s1,_,s3⟩,s4⟩:=hS;refine bz ho ?_ (by rw[s1,hds];exact s4);have e1:∀ x:Array Sc,x.size=o.length→x.extract 0 o.length=x:=fun x hx=>by rw[← hx];simp
  rw[e1 _ (by rw[s1,hds]),e1 _ hds,hdl] at s3;exact s3
 unfold y5 at hP;rw[show(Bl d v)=ig o v by unfold Bl;rw[hdl],show Bl (Sort.pdq BP d 0 o.length (Sort.bitsLen o.length) true true) v=ig (CP o) v by unfold Bl;rw[hres]] at hP;refine AE Gk (by simp) (Af Cu (Af Ex Am)) (Bz Am) fun w0 I0 M0 m0=>?_;have e1:u64.wrap (o.length:Int)=(o.length:Int):=AG (by omega) (by omega);have hL:=RZ o.length (by omega);unfold C5;simp[e1];refine Ae hL rfl ?_;simp;refine Aw 0 hP (fun p=>by simp) (by simp) (by simp) ?_;simp;exact AX rfl rfl (fun p=>by simp)
@[simp] theorem AdM {x:Sc}:(cK x).take 2=Pz x:=rfl
theorem l9 {all:List Sc}:∀ (m:Nat) (l junk o:List Sc) (v:Nat),l.length=m→l.length≤300→o.length+l.length≤300→NS l l.length→(∀ y,y ∈ all→y ∈ l∨Cp o y=false)→(∀ y,y ∈ l→y ∈ all) →
  ∃ o',Ks all o o'∧∀ {n0:Nat} {w0:World} {I0:Nat→Prop} {Q:Exit→Sta→Prop} (u:Nat) (H:Hp),(∀ p,H (0::p)=(Mm l junk v).F 0 p)→(∀ p,H (2::p)=(ig o u).F 2 p) →
   (∀ (H':Hp) (u':Nat) (st:List (Nat × A)),(∀ p,H' (2::p)=(ig o' u').F 2 p)→Q (.exit 4) ⟨lk ([(3,ic 0),(8,uY o' u' 2)]++st),H'⟩) →
   LoopC (cx Tryz.prog w0 I0 n0) Hz Q ⟨lk [(3,ic 0),(8,uY o u 2)],H⟩:=by
 intro m;induction m with
 |zero=>
  intro l junk o v hm hl hol hh hall hsub;have:l=[]:=List.eq_nil_of_length_eq_zero hm;subst this;have hdone:∀ y,y ∈ all→Cp o y=false:=fun y hy=>by
   rcases hall y hy with h | h
   ·simp at h
   ·exact h
  refine⟨o,.done hdone,fun {n0 w0 I0 Q} u H hH hG hq=>?_⟩;have hL:=Ps [] junk v (by simp);have h0:=hH [];refine Ab Ai Hz.eq_1 ?_;simp[h0];refine Aw 0 hL hH (by simp) (by simp) ?_;simp;exact hq _ u [(51,bv false)] (fun p=>by simp[hG])
 |succ m ih=>
  intro l junk o v hm hl hol hh hall hsub;obtain⟨q1,q2,q3⟩:=zA (l:=l) (by omega) hh;have hmin:∀ y,y ∈ l→Bs y (gt l 0)=false:=fun y hy=>by
   obtain⟨k,hk,rfl⟩:=List.getElem_of_mem hy;rw[← yD hk];exact sb hh k hk
  obtain⟨g1,g2⟩:=uf q3 hmin hall hsub;have hP:=kh l junk v (by omega) (by omega);have hL:=Ps l junk v (by omega);have hlen:=WW l;have hrl:((KW l).take (l.length-1)).length=m:=by simp;omega
  have q1':(KW l).getD (l.length-1) sc0=gt l 0:=q1;rw[q1'] at hP;have q2':NS ((KW l).take (l.length-1)) m:=fun k h1 h2=>q2 k h1 (by omega);clear q2;generalize gt l 0=x at hP g1 g2 q3 hmin;generalize (KW l).take (l.length-1)=rest at hP hrl q2' q3 g1 g2;have q2:NS rest rest.length:=fun k h1 h2=>q2' k h1 (by omega);have hsub':∀ y,y ∈ rest→y ∈ all:=fun y hy=>hsub y (q3.subset (by simp[hy]));cases hf:Cp o x with
  |true=>
   obtain⟨b1,b2⟩:=g1 hf;obtain⟨o',p1,p2⟩:=ih rest (x::junk) (o++[x]) v hrl (by omega) (by simp;omega) q2 b2 hsub';refine⟨o',.step b1 p1,fun {n0 w0 I0 Q} u H hH hG hq=>?_⟩;have hC:=YW x o u (by omega);rw[hf] at hC;have h0:=hH [];simp only[xY] at h0;refine Ab Ai Hz.eq_1 ?_;simp[h0];refine Aw 0 hL hH (by simp) (by simp) ?_;simp[show 0<l.length by omega];refine Aw 0 hP (fun p=>by simp) (by simp) (by simp) ?_;simp[Aa,Di];have hG2:∀ p,(ov 0 ((Mm rest (x::junk) v).F 0) (Ay H [1] ⟨(H [1]).u+1,.cells (cK x)⟩):Hp) (2::p)=(ig o u).F 2 p:=fun p=>by simp[Aa,hG]
   refine Aw 2 hC hG2 (by simp) (by simp) ?_;have ht:(o.map H7).take o.length=o.map H7:=AL (by simp);simp[Aa,mq,ht,Di];refine⟨lq,by omega,?_⟩;refine LoopC.le (Ao [(3,ic 0),(8,uY (o++[x]) (u+1) 2)] (by simp)) ?_;exact p2 (u+1) _ (fun p=>by simp[Aa]) (fun p=>by by_cases hp:p=[]<;>simp[hp,Aa]) hq
  |false=>
   obtain⟨o',p1,p2⟩:=ih rest (x::junk) o v hrl (by omega) (by omega) q2 (g2 hf) hsub';refine⟨o',p1,fun {n0 w0 I0 Q} u H hH hG hq=>?_⟩;have hC:=YW x o u (by omega);rw[hf] at hC;have h0:=hH [];simp only[xY] at h0;refine Ab Ai Hz.eq_1 ?_;simp[h0];refine Aw 0 hL hH (by simp) (by simp) ?_;simp[show 0<l.length by omega];refine Aw 0 hP (fun p=>by simp) (by simp) (by simp) ?_;simp[Aa,Di];have hG2:∀ p,(ov 0 ((Mm rest (x::junk) v).F 0) (Ay H [1] ⟨(H [1]).u+1,.cells (cK x)⟩):Hp) (2::p)=(ig o u).F 2 p:=fun p=>by simp[Aa,hG]
   refine Aw 2 hC hG2 (by simp) (by simp) ?_;simp;refine LoopC.le (Ao [(3,ic 0),(8,uY o u 2)] (by simp)) ?_;exact p2 u _ (fun p=>by simp[Aa]) (fun p=>by simp) hq
end Go.Proofs.YtbjmaoedheiigaaGreat
namespace Go.PL
open List
def Dr (i:Nat):Nat→List Int→List Sc
 |_,[]=>[]
 |j,n::r=>if 0<n∧i<16∧j<16 then ⟨i,j,n⟩::Dr i (j+1) r else Dr i (j+1) r
def CT:Nat→List (List Int)→List Sc
 |_,[]=>[]
 |i,r::rs=>Dr i 0 r++CT (i+1) rs
theorem UE {i:Nat}:∀ {r:List Int} {j:Nat},(Dr i j r).length≤16-j
 |[],j=>by simp[Dr]
 |n::r,j=>by
  have:=UE (i:=i) (r:=r) (j:=j+1);unfold Dr;split
  ·simp;omega
  ·omega
theorem Z2 {i:Nat} (h:16≤i):∀ {r:List Int} {j:Nat},Dr i j r=[]
 |[],j=>rfl
 |n::r,j=>by
  unfold Dr;rw[if_neg (by omega),Z2 h]
theorem Pw:∀ {rs:List (List Int)} {i:Nat},(CT i rs).length≤(16-i)*16
 |[],i=>by simp[CT]
 |r::rs,i=>by
  have h1:=Pw (rs:=rs) (i:=i+1);have h2:=UE (i:=i) (r:=r) (j:=0);unfold CT;rw[List.length_append];by_cases h:16≤i
  ·rw[Z2 h];simp;omega
  ·omega
theorem TB {i:Nat}:∀ {r:List Int} {j:Nat} {x:Sc},x ∈ Dr i j r→x.i=i∧i<16∧x.j<16∧j≤x.j∧x.j<j+r.length∧r[x.j-j]? = some x.n∧0<x.n
 |[],j,x,h=>by simp[Dr] at h
 |n::r,j,x,h=>by
  have ih:x ∈ Dr i (j+1) r→x.i=i∧i<16∧x.j<16∧j≤x.j∧x.j<j+(n::r).length∧(n::r)[x.j-j]? = some x.n∧0<x.n:=fun h=>by
   obtain⟨h1,h2,h3,h4,h5,h6,h7⟩:=TB h;refine⟨h1,h2,h3,by omega,by simp;omega,?_,h7⟩;rw[show x.j-j=(x.j-(j+1))+1 by omega];simpa using h6
  unfold Dr at h;split at h
  ·rename_i hc;rcases List.mem_cons.1 h with rfl | h
   ·exact⟨rfl,hc.2.1,hc.2.2,BZ _,by simp,by simp,hc.1⟩
   ·exact ih h
  ·exact ih h
end Go.PL
namespace Go.Proofs.YtbjmaoedheiigaaGreat
open Go Go.G Go.Proofs Go.PL
abbrev L8 (l:List (List Int)):A:=.sl false (l.map Cq)
def HpI (H:Hp) (all:List Sc):Prop:=∃ (l junk:List Sc) (v:Nat),(∀ p,H (0::p)=(Mm l junk v).F 0 p)∧NS l l.length∧List.Perm l all∧∀ p,H (2::p)=⟨0,.none⟩
theorem xC {n0:Nat} {w0:World} {I0:Nat→Prop} {Q:Exit→Sta→Prop} {X:A} {N:Nat} {r:List Int} {i:Nat} (hr:r.length≤1000000):∀ (m j:Nat) (all:List Sc) (H:Hp),r.length=j+m→all.length+(Dr i j (r.drop j)).length≤256→HpI H all →
  (∀ (H':Hp) (st:List (Nat × A)),HpI H' (all++Dr i j (r.drop j))→Q (.exit 2) ⟨lk ([(3,ic 0),(4,iv i),(12,X),(13,iv N),(14,iv i)]++st),H'⟩) →
  LoopC (cx Tryz.prog w0 I0 n0) Ho Q ⟨lk [(3,ic 0),(4,iv i),(12,X),(13,iv N),(14,iv i),(19,Cq r),(20,iv r.length),(21,iv j)],H⟩:=by
 intro m;induction m with
 |zero=>
  intro j all H hm hl hI hq;refine Ab Ai Ho.eq_1 ?_;have:¬ (j:Int)<r.length:=by omega
  simp[this];have hd:r.drop j=[]:=List.drop_eq_nil_of_le (by omega);rw[hd] at hq;exact hq H [(19,Cq r),(20,iv r.length),(21,iv j),(22,bv false)] (by simpa[Dr] using hI)
 |succ m ih=>
  intro j all H hm hl hI hq;have hj:j<r.length:=by omega
  have hd:r.drop j=r[j]::r.drop (j+1):=(List.getElem_cons_drop hj).symm;have e1:=Av j;rw[hd] at hl hq;unfold Dr at hl hq;refine Ab Ai Ho.eq_1 ?_;simp[hj,show(j:Int)<r.length by omega];have next:∀ (all':List Sc) (H':Hp),all'.length+(Dr i (j+1) (r.drop (j+1))).length≤256→HpI H' all'→all'++Dr i (j+1) (r.drop (j+1))=all++(if 0<r[j]∧i<16∧j<16 then ⟨i,j,r[j]⟩::Dr i (j+1) (r.drop (j+1)) else Dr i (j+1) (r.drop (j+1)))→LoopC (cx Tryz.prog w0 I0 n0) Ho Q ⟨lk [(3,ic 0),(4,iv i),(12,X),(13,iv N),(14,iv i),(19,Cq r),(20,iv r.length),(21,iv (j+1:Nat))],H'⟩:=fun all' H' hl' hI' he=>ih (j+1) all' H' (by omega) hl' hI' (by rw[he];exact hq)
  by_cases h1:0<r[j]
  ·by_cases h2:i<16
   ·by_cases h3:j<16
    ·rw[if_pos ⟨h1,h2,h3⟩] at hl;obtain⟨l,junk,v,q1,q2,q3,q4⟩:=hI;have hll:=q3.length_eq;simp at hl;have hP:=fH l junk v (by omega) ⟨i,j,r[j]⟩;obtain⟨g1,g2⟩:=lz q2 ⟨i,j,r[j]⟩;simp[h1,show(i:Int)<16 by omega,show(j:Int)<16 by omega];refine⟨?_,fun h=>by omega⟩;refine Aw 0 hP q1 (by simp[PK,cK]) (by simp) ?_;simp[e1];refine next (all++[⟨i,j,r[j]⟩]) _ (by simp;omega) ⟨oP (l.length+1) (l++[⟨i,j,r[j]⟩]) l.length,[],v+1,fun p=>by simp,?_,?_,fun p=>by simp[q4]⟩ (by rw[if_pos ⟨h1,h2,h3⟩];simp)
     ·rw[bo];simpa using g1
     ·exact g2.trans ((q3.cons _).trans (List.perm_append_singleton _ _).symm)
    ·have:¬ (j:Int)<16:=by omega
     simp[h1,show(i:Int)<16 by omega,this,e1];intro _;refine next all H (by rw[if_neg (by omega)] at hl;exact hl) hI (by rw[if_neg (by omega)])
   ·have:¬ (i:Int)<16:=by omega
    simp[h1,this,e1];refine next all H (by rw[if_neg (by omega)] at hl;exact hl) hI (by rw[if_neg (by omega)])
  ·simp[h1,e1];refine next all H (by rw[if_neg (by omega)] at hl;exact hl) hI (by rw[if_neg (by omega)])
theorem xW {n0:Nat} {w0:World} {I0:Nat→Prop} {Q:Exit→Sta→Prop} {rs:List (List Int)} (hrs:rs.length≤1000000) (hr:∀ r,r ∈ rs→r.length≤1000000):∀ (m i:Nat) (all:List Sc) (H:Hp),rs.length=i+m→all.length+(CT i (rs.drop i)).length≤256→HpI H all →
  (∀ (H':Hp) (st:List (Nat × A)),HpI H' (all++CT i (rs.drop i))→Q (.exit 0) ⟨lk ([(3,ic 0)]++st),H'⟩) →
  LoopC (cx Tryz.prog w0 I0 n0) JQ Q ⟨lk [(3,ic 0),(12,L8 rs),(13,iv rs.length),(14,iv i)],H⟩:=by
 intro m;induction m with
 |zero=>
  intro i all H hm hl hI hq;refine Ab Ai JQ.eq_1 ?_;have:¬ (i:Int)<rs.length:=by omega
  simp[this];have hd:rs.drop i=[]:=List.drop_eq_nil_of_le (by omega);rw[hd] at hq;exact hq H [(12,L8 rs),(13,iv rs.length),(14,iv i),(15,bv false)] (by simpa[CT] using hI)
 |succ m ih=>
  intro i all H hm hl hI hq;have hj:i<rs.length:=by omega
  have hd:rs.drop i=rs[i]::rs.drop (i+1):=(List.getElem_cons_drop hj).symm;have e1:=Av i;have hri:=hr rs[i] (Bg hj);rw[hd] at hl hq;unfold CT at hl hq;rw[List.length_append] at hl;refine Ab Ai JQ.eq_1 ?_;simp[hj,show(i:Int)<rs.length by omega];refine LoopC.le (Ao [(3,ic 0),(4,iv i),(12,L8 rs),(13,iv rs.length),(14,iv i),(19,Cq rs[i]),(20,iv rs[i].length),(21,iv (0:Nat))] (by simp)) ?_;refine xC hri rs[i].length 0 all H (by omega) (by simp;omega) hI fun H' st hI'=>?_;simp[e1];refine ih (i+1) _ H' (by omega) ?_ (by simpa using hI') fun H2 st2 hI2=>?_
  ·simp;omega
  ·refine hq H2 st2 (by simpa using hI2)
theorem gz:∀ all:List Sc,∃ l,NS l l.length∧List.Perm l all
 |[]=>⟨[],fun k _ h=>by simp at h,List.Perm.refl _⟩
 |x::all=>by
  obtain⟨l,h1,h2⟩:=gz all;obtain⟨g1,g2⟩:=lz h1 x;exact⟨_,by rw[bo];simpa using g1,g2.trans (h2.cons x)⟩
theorem pD {all:List Sc} (h:all.length≤300):∃ o',Ks all [] o':=by
 obtain⟨l,h1,h2⟩:=gz all;have:=h2.length_eq;obtain⟨o',h3,_⟩:=l9 (all:=all) l.length l [] [] 0 rfl (by omega) (by simp;omega) h1 (fun y hy=>.inl (h2.symm.subset hy)) (fun y hy=>h2.subset hy);exact⟨o',h3⟩
theorem Hb {rs:List (List Int)} {o':List Sc} (h:Ks (CT 0 rs) [] o'):En o'∧(∀ x,x ∈ o'→x ∈ CT 0 rs):=gL h (by simp[En]) (by simp)
theorem o9 (rs:List (List Int)) (hrs:rs.length≤1000000) (hr:∀ r,r ∈ rs→r.length≤1000000) {o':List Sc} (ho:Ks (CT 0 rs) [] o') (hl16:o'.length≤16):G.Spec Tryz.prog 203 [L8 rs] (.sl false ((CP o').map H7)):=by
 obtain⟨hap,_⟩:=Hb ho;have hcl:=Pw (rs:=rs) (i:=0);refine Aj dR (by simp) fun w0 I0=>?_;unfold Vh;simp;refine LoopC.le (Bu (d:=[0]) (u:=1) (cs:=[.sl true []]) 0 [0,0] 3 rfl rfl (by simp)) ?_;simp;refine LoopC.le (Ao [(3,ic 0),(12,L8 rs),(13,iv rs.length),(14,iv (0:Nat))] (by simp)) ?_;refine xW hrs hr rs.length 0 [] _ (by omega) (by simpa using hcl) ⟨[],[],1,fun p=>?_,fun k _ h=>by simp at h,List.Perm.refl _,fun p=>by simp⟩ fun H' st hI=>?_
 ·by_cases h1:p=[]
  ·subst h1;simp
  ·by_cases h2:p=[0]
   ·subst h2;simp
   ·simp[h1,h2,Ne.symm h1,Ne.symm h2]
 ·obtain⟨l,junk,v,q1,q2,q3,q4⟩:=hI;simp only[List.nil_append,List.drop_zero] at q3;have hll:=q3.length_eq;simp;refine LoopC.le (Cd 8 [2] 2 (by simp)) ?_;obtain⟨o2,p1,p2⟩:=l9 (all:=CT 0 rs) l.length l junk [] v rfl (by omega) (by simp;omega) q2 (fun y hy=>.inl (q3.symm.subset hy)) (fun y hy=>q3.subset hy);have:=np p1 ho;subst this;refine LoopC.le (Ao [(3,ic 0),(8,uY [] ((H' [2]).u+1) 2)] (by simp)) ?_;refine p2 _ _ (fun p=>by simp[Aa,q1]) (fun p=>?_) fun H2 u2 st2 hG=>?_
  ·by_cases h1:p=[]<;>simp[h1,Aa,q4]
  ·have hS:=kC hap hl16 u2;simp;refine Aw 2 hS hG (by simp) (by simp) ?_;simp;have hsl:(CP o2).length=o2.length:=(Kt hap).2.length_eq;have:=Yo (H:=ov 2 ((ig (CP o2) u2).F 2) H2) (o:=[2]) (u:=u2) (sz:=2) (l:=CP o2) (f:=H7) (n:=o2.length) (by simp) (by omega) (by intro x;rfl);rw[AL (by omega)] at this;exact this
end Go.Proofs.YtbjmaoedheiigaaGreat
namespace Go.PL
open List
def cJ (x:Int):List Int→Option (List Int)
 |[]=>none
 |y::b=>if x=y then some b else cJ x b
def AI:List Int→List Int→Nat
 |[],_=>0
 |x::a,b=>max (AI a b) (match cJ x b with | some b'=>AI a b'+1 | none=>0)
theorem kZ {x:Int} {s:List Int}:∀ {b:List Int},x::s <+ b→∃ b',cJ x b=some b'∧s <+ b'
 |[],h=>by cases h
 |y::b,h=>by
  unfold cJ;by_cases e:x=y
  ·subst e;refine⟨b,by simp,?_⟩;cases h with
   |cons _ h=>exact(List.sublist_cons_self x s).trans h
   |cons_cons _ h=>exact h
  ·rw[if_neg e];cases h with
   |cons _ h=>exact kZ h
   |cons_cons _ h=>exact absurd rfl e
theorem Py {x:Int}:∀ {b b':List Int},cJ x b=some b'→∃ b0,b=b0++x::b'∧x ∉ b0
 |[],b',h=>by cases h
 |y::b,b',h=>by
  unfold cJ at h;by_cases e:x=y
  ·rw[if_pos e] at h;cases h;exact⟨[],by simp[e],by simp⟩
  ·rw[if_neg e] at h;obtain⟨b0,h1,h2⟩:=Py h;exact⟨y::b0,by simp[h1],by simp[e,h2]⟩
theorem df {x:Int}:∀ {b:List Int},cJ x b=none→x ∉ b
 |[],_=>by simp
 |y::b,h=>by
  unfold cJ at h;by_cases e:x=y
  ·rw[if_pos e] at h;cases h
  ·rw[if_neg e] at h;simp[e,df h]
theorem cz {x:Int}:∀ {b0 b':List Int},x ∉ b0→cJ x (b0++x::b')=some b'
 |[],b',_=>by simp[cJ]
 |y::b0,b',h=>by
  simp at h;simp[cJ,h.1,cz h.2]
theorem IB:∀ a b:List Int,∃ s,s <+ a∧s <+ b∧s.length=AI a b
 |[],b=>⟨[],by simp,by simp,rfl⟩
 |x::a,b=>by
  obtain⟨s,h1,h2,h3⟩:=IB a b;unfold AI;cases e:cJ x b with
  |none=>exact⟨s,h1.cons x,h2,by simp[h3]⟩
  |some b'=>
   obtain⟨t,g1,g2,g3⟩:=IB a b';simp only;by_cases hle:AI a b≤AI a b'+1
   ·obtain⟨b0,rfl,_⟩:=Py e;exact⟨x::t,g1.cons_cons x,(g2.cons_cons x).trans (List.sublist_append_right _ _),by simp;omega⟩
   ·exact⟨s,h1.cons x,h2,by omega⟩
theorem II:∀ {a b s:List Int},s <+ a→s <+ b→s.length≤AI a b
 |[],b,s,h1,h2=>by
  have:=List.sublist_nil.1 h1;subst this;simp
 |x::a,b,s,h1,h2=>by
  unfold AI;cases h1 with
  |cons _ h=>have:=II h h2;omega
  |@cons_cons s' _ _ h=>
   obtain⟨b',e,h3⟩:=kZ h2;have:=II h h3;rw[e];simp;omega
theorem Aax {a b:List Int} {n:Nat} (h1:∃ s,s <+ a∧s <+ b∧s.length=n) (h2:∀ s,s <+ a→s <+ b→s.length≤n):AI a b=n:=by
 obtain⟨s,g1,g2,g3⟩:=h1;obtain⟨t,k1,k2,k3⟩:=IB a b;have:=II g1 g2;have:=h2 t k1 k2;omega
theorem JM (a b:List Int):AI a.reverse b.reverse=AI a b:=by
 obtain⟨s,h1,h2,h3⟩:=IB a b;refine Aax ⟨s.reverse,h1.reverse,h2.reverse,by simpa using h3⟩ fun t g1 g2=>?_;have:=II (a:=a) (b:=b) (s:=t.reverse) (by simpa using g1.reverse) (by simpa using g2.reverse);simpa using this
theorem PJ {a b a' b':List Int} (h1:a <+ a') (h2:b <+ b'):AI a b≤AI a' b':=by
 obtain⟨s,g1,g2,g3⟩:=IB a b;have:=II (g1.trans h1) (g2.trans h2);omega
theorem l7 (a b a' b':List Int):AI a b+AI a' b'≤AI (a++a') (b++b'):=by
 obtain⟨s,g1,g2,g3⟩:=IB a b;obtain⟨t,k1,k2,k3⟩:=IB a' b';have:=II (g1.append k1) (g2.append k2);simp at this;omega
theorem pk (a a' b:List Int):∃ b1 b2,b=b1++b2∧AI (a++a') b=AI a b1+AI a' b2:=by
 obtain⟨s,g1,g2,g3⟩:=IB (a++a') b;obtain⟨s1,s2,rfl,k1,k2⟩:=List.sublist_append_iff.1 g1;obtain⟨b1,b2,rfl,m1,m2⟩:=List.append_sublist_iff.1 g2;refine⟨b1,b2,rfl,?_⟩;have h1:=II k1 m1;have h2:=II k2 m2;have h3:=l7 a b1 a' b2;simp at g3;omega
theorem Gm (a b:List Int):AI a b≤a.length∧AI a b≤b.length:=by
 obtain⟨s,g1,g2,g3⟩:=IB a b;have:=g1.length_le;have:=g2.length_le;omega
theorem L6 (x:Int) (a b:List Int):AI (x::a) (x::b)=AI a b+1:=by
 have h:AI a (x::b)≤AI a b+1:=by
  obtain⟨s,g1,g2,g3⟩:=IB a (x::b);cases g2 with
  |cons _ h=>have:=II g1 h;omega
  |@cons_cons s' _ _ h=>
   have:=II ((List.sublist_cons_self x s').trans g1) h;simp at g3;omega
 rw[AI];simp[cJ];omega
theorem YV {x y:Int} (h:x ≠ y) (a b:List Int):AI (x::a) (y::b)=max (AI a (y::b)) (AI (x::a) b):=by
 have h1:AI a b≤AI a (y::b):=PJ (List.Sublist.refl _) (List.sublist_cons_self _ _);rw[AI,AI];simp only[cJ,if_neg h];omega
theorem Ml (x:Int) (a b:List Int):AI (a++[x]) (b++[x])=AI a b+1:=by
 rw[← JM];simp[L6,JM]
theorem Md {x y:Int} (h:x ≠ y) (a b:List Int):AI (a++[x]) (b++[y])=max (AI a (b++[y])) (AI (a++[x]) b):=by
 rw[← JM,← JM a (b++[y]),← JM (a++[x]) b];simp[YV h]
theorem gT (x:Int) (a b:List Int):AI (x::a) b≤AI a b+1:=by
 rw[AI];cases e:cJ x b with
 |none=>simp
 |some b'=>
  obtain⟨b0,rfl,_⟩:=Py e;have:AI a b'≤AI a (b0++x::b'):=PJ (List.Sublist.refl _) ((List.sublist_cons_self x b').trans (List.sublist_append_right _ _));simp only;omega
theorem dS (x:Int) (a b:List Int):AI (a++[x]) b≤AI a b+1:=by
 rw[← JM,← JM a b];simpa using gT x a.reverse b.reverse
@[simp] theorem AgW (a:List Int):AI a []=0:=by have:=(Gm a []).2;simpa using this
@[simp] theorem Adm (b:List Int):AI [] b=0:=rfl
theorem M3:∀ (a u v w:List Int),AI a (u++(v++w))+AI a v≤AI a (u++v)+AI a (v++w)
 |[],u,v,w=>by simp
 |x::a,u,v,w=>by
  have m1:∀ p q:List Int,AI a q≤AI a (p++q):=fun p q=>PJ (List.Sublist.refl _) (List.sublist_append_right _ _);have up:∀ q:List Int,AI a q≤AI (x::a) q:=fun q=>by rw[AI];omega
  have tk:∀ q0 q':List Int,x ∉ q0→AI a q'+1≤AI (x::a) (q0++x::q'):=fun q0 q' h=>by rw[AI,cz h];simp;omega
  have tk':∀ q0 q':List Int,AI a q'+1≤AI (x::a) (q0++x::q'):=fun q0 q'=>by
   have:=L6 x a q';have h2:AI (x::a) (x::q')≤AI (x::a) (q0++x::q'):=PJ (List.Sublist.refl _) (List.sublist_append_right _ _);omega
  -- what the two of the left take
  have c1:AI (x::a) (u++(v++w))=AI a (u++(v++w))∨∃ q0 q',u++(v++w)=q0++x::q'∧x ∉ q0∧AI (x::a) (u++(v++w))=AI a q'+1:=by
   rw[AI];cases e:cJ x (u++(v++w)) with
   |none=>left;simp
   |some q'=>
    obtain⟨q0,h1,h2⟩:=Py e;simp only;by_cases hle:AI a (u++(v++w))≤AI a q'+1
    ·right;exact⟨q0,q',h1,h2,by omega⟩
    ·left;omega
  have c2:AI (x::a) v=AI a v∨∃ v0 v',v=v0++x::v'∧x ∉ v0∧AI (x::a) v=AI a v'+1:=by
   rw[AI];cases e:cJ x v with
   |none=>left;simp
   |some q'=>
    obtain⟨q0,h1,h2⟩:=Py e;simp only;by_cases hle:AI a v≤AI a q'+1
    ·right;exact⟨q0,q',h1,h2,by omega⟩
    ·left;omega
  rcases c1 with e1 | ⟨q0,q',h1,hn,e1⟩
  ·rcases c2 with e2 | ⟨v0,v',rfl,hv,e2⟩
   ·have:=M3 a u v w;have:=up (u++v);have:=up (v++w);omega
   ·have h:=M3 a (u++(v0++[x])) v' w;have g1:=up (u++(v0++x::v'));have g2:=tk v0 (v'++w) hv;simp at h g1 g2 e1 e2 ⊢;omega
  ·-- where the first x stands
   rcases List.append_eq_append_iff.1 h1 with ⟨t,ht1,ht2⟩ | ⟨t,ht1,ht2⟩
   ·-- q0=u++t,v++w=t++x::q'
    subst ht1;have hnu:x ∉ u:=fun h=>hn (by simp[h]);have hnt:x ∉ t:=fun h=>hn (by simp[h]);rcases List.append_eq_append_iff.1 ht2 with ⟨t2,hs1,hs2⟩ | ⟨t2,hs1,hs2⟩
    ·-- t=v++t2: x stands in w
     subst hs1;have hnv:x ∉ v:=fun h=>hnt (by simp[h]);have e2:AI (x::a) v=AI a v:=by
      rcases c2 with e2 | ⟨v0,v',rfl,_,_⟩
      ·exact e2
      ·exact absurd (by simp) hnv
     have g1:=tk (v++t2) q' hnt;have g2:=up (u++v);have g3:=m1 u v;rw[ht2] at e1 ⊢;omega
    ·-- v=t++t2,x::q'=t2++w
     subst hs1;cases t2 with
     |nil=>
      simp at hs2;subst hs2;have e2:AI (x::a) t=AI a t:=by
       rcases c2 with e2 | ⟨v0,v',hv,_,_⟩
       ·simpa using e2
       ·exact absurd (by simp at hv;simp[hv]) hnt
      have g1:=tk t q' hnt;have g2:=up (u++t);have g3:=m1 u t;simp at e1 e2 g1 g2 g3 ⊢;omega
     |cons y v'=>
      simp at hs2;obtain⟨rfl,rfl⟩:=hs2;have g1:=tk t (v'++w) hnt;have e2:AI (x::a) (t++x::v')≤max (AI a (t++x::v')) (AI a v'+1):=by rw[AI,cz hnt];simp
      have g2:=up (u++(t++x::v'));have g3:=m1 u (t++x::v');have g4:=tk' (u++t) v';simp at e1 e2 g1 g2 g3 g4 ⊢;omega
   ·-- u=q0++t,x::q'=t++(v++w)
    cases t with
    |nil=>
     simp at ht2 ht1;subst ht1
     -- x heads v++w
     cases v with
     |nil=>
      simp at ht2;have g1:=tk [] q' (by simp);have g0:=up u;simp at g1 e1 ⊢;rw[← ht2] at e1 ⊢;rw[e1];omega
     |cons y v'=>
      simp at ht2;obtain⟨rfl,rfl⟩:=ht2;have g1:=tk [] (v'++w) (by simp);have e2:=L6 x a v';have g4:=tk' u v';simp at e1 g1 g4 ⊢;omega
    |cons y u'=>
     simp at ht2;obtain⟨rfl,rfl⟩:=ht2;subst ht1;rcases c2 with e2 | ⟨v0,v',rfl,hv,e2⟩
     ·have h:=M3 a u' v w;have g1:=tk q0 (u'++v) hn;have g2:=up (v++w);simp at e1 e2 g1 g2 h ⊢;omega
     ·have h:=M3 a (u'++(v0++[x])) v' w;have g1:=tk q0 (u'++(v0++x::v')) hn;have g2:=tk v0 (v'++w) hv;simp at e1 e2 g1 g2 h ⊢;omega
def sg (l:List Int) (p q:Nat):List Int:=(l.take q).drop p
def Ff (a b:List Int) (i h j k:Nat):Nat:=AI (sg a i h) (sg b j k)
theorem Mi (l:List Int) (p q:Nat) (h:q≤l.length):(sg l p q).length=q-p:=by simp[sg];omega
theorem QZ {l:List Int} {p k q:Nat} (h1:p≤k) (h2:k≤q):sg l p q=sg l p k++sg l k q:=by
 unfold sg;have e:(l.take q).drop p=((l.take q).drop p).take (k-p)++((l.take q).drop p).drop (k-p):=(List.take_append_drop _ _).symm;rw[e,List.drop_drop,List.take_drop,List.take_take];congr 3<;>first | omega | skip
theorem Wq (l:List Int) (q:Nat):sg l 0 q=l.take q:=by simp[sg]
theorem j5 (l:List Int) (p:Nat):sg l p l.length=l.drop p:=by simp[sg]
theorem zK (l:List Int) (p:Nat):sg l p p=[]:=by simp[sg]
theorem Wp {l:List Int} {n p q:Nat} (h:q≤n):sg (l.take n) p q=sg l p q:=by
 unfold sg;rw[List.take_take];congr 2;omega
theorem V3 {l:List Int} {n p q:Nat}:sg (l.drop n) p q=sg l (n+p) (n+q):=by
 unfold sg;rw[List.take_drop,List.drop_drop]
theorem GS {a b:List Int} {i h t j k q:Nat} (h1:i≤h) (h2:h≤t) (h3:j≤k) (h4:k≤q):Ff a b i h j k+Ff a b h t k q≤Ff a b i t j q:=by
 unfold Ff;rw[QZ h1 h2,QZ h3 h4];exact l7 _ _ _ _
theorem J9 (a b:List Int) {i h t j q:Nat} (h1:i≤h) (h2:h≤t) (h3:j≤q) (h4:q≤b.length):∃ k,j≤k∧k≤q∧Ff a b i h j k+Ff a b h t k q=Ff a b i t j q:=by
 unfold Ff;rw[QZ h1 h2];obtain⟨b1,b2,e,hs⟩:=pk (sg a i h) (sg a h t) (sg b j q);have hl:=Mi b j q h4;rw[e] at hl;simp at hl;refine⟨j+b1.length,by omega,by omega,?_⟩;have e2:=QZ (l:=b) (p:=j) (k:=j+b1.length) (q:=q) (by omega) (by omega);rw[e] at e2;obtain⟨g1,g2⟩:=List.append_inj e2 (by rw[Mi _ _ _ (by omega)];omega);rw[← g1,← g2,← hs]
theorem Y1 (a b:List Int) (i h:Nat) {p p' q q':Nat} (h1:p≤p') (h2:p'≤q) (h3:q≤q'):Ff a b i h p q'+Ff a b i h p' q≤Ff a b i h p q+Ff a b i h p' q':=by
 unfold Ff;rw[QZ (l:=b) h1 (by omega:p'≤q'),QZ (l:=b) h2 h3,QZ (l:=b) h1 h2];exact M3 _ _ _ _
def gC (p:Nat→Bool):Nat→Nat→Nat
 |0,j=>j
 |f+1,j=>if p j=true then j else gC p f (j+1)
theorem bR {p:Nat→Bool}:∀ {f j k:Nat},j≤k→k≤j+f→p k=true→p (gC p f j)=true∧j≤gC p f j∧gC p f j≤k
 |0,j,k,h1,h2,h=>by
  have:k=j:=by omega
  subst this;exact⟨h,by simp[gC],by simp[gC]⟩
 |f+1,j,k,h1,h2,h=>by
  unfold gC;by_cases e:p j=true
  ·simp[e,h1]
  ·rw[if_neg e];have hne:j ≠ k:=fun h'=>by rw[h'] at e;exact e h
   have:=bR (f:=f) (j:=j+1) (k:=k) (by omega) (by omega) h;exact⟨this.1,by omega,this.2.2⟩
def RS (a b:List Int) (i j:Nat):Bool:=decide (Ff a b 0 i 0 j+Ff a b i a.length j b.length=AI a b)
def AW (a b:List Int) (i:Nat):Nat:=gC (RS a b i) b.length 0
theorem lx (a b:List Int):Ff a b 0 a.length 0 b.length=AI a b:=by simp[Ff,sg]
theorem Nn {a b:List Int} {i j:Nat} (hi:i≤a.length) (hj:j≤b.length):Ff a b 0 i 0 j+Ff a b i a.length j b.length≤AI a b:=by
 rw[← lx];exact GS (by omega) hi (by omega) hj
theorem FY {a b:List Int} {i:Nat} (hi:i≤a.length):RS a b i (AW a b i)=true∧AW a b i≤b.length∧∀ j,j≤b.length→RS a b i j=true→AW a b i≤j:=by
 obtain⟨k,h1,h2,h3⟩:=J9 a b (i:=0) (h:=i) (t:=a.length) (j:=0) (q:=b.length) (by omega) hi (by omega) (by omega);rw[lx] at h3;have:=bR (p:=RS a b i) (f:=b.length) (j:=0) (k:=k) (by omega) (by omega) (by simpa[RS] using h3);refine⟨this.1,by unfold AW;omega,fun j hj h=>?_⟩;exact(bR (p:=RS a b i) (f:=b.length) (j:=0) (k:=j) (by omega) (by omega) h).2.2
theorem Ui {a b:List Int} {i k:Nat} (hi:i≤a.length) (hk:k≤b.length) (h1:RS a b i k=true) (h2:∀ j,j<k→RS a b i j=false):AW a b i=k:=by
 obtain⟨g1,g2,g3⟩:=FY (a:=a) (b:=b) hi;have:=g3 k hk h1;by_cases e:AW a b i<k
 ·have:=h2 _ e;rw[g1] at this;cases this
 ·omega
theorem Tg (a b:List Int):AW a b 0=0:=Ui (by omega) (by omega) (by simp[RS,Ff,sg]) (by omega)
theorem R1 {a b:List Int} {i h:Nat} (hih:i≤h) (hh:h≤a.length):AW a b i≤AW a b h:=by
 obtain⟨g1,g2,g3⟩:=FY (a:=a) (b:=b) hh;obtain⟨k,h1,h2,h3⟩:=J9 a b (i:=0) (h:=i) (t:=h) (j:=0) (q:=AW a b h) (by omega) hih (by omega) g2;have h4:=GS (a:=a) (b:=b) (i:=i) (h:=h) (t:=a.length) (j:=k) (k:=AW a b h) (q:=b.length) hih hh h2 g2;have h5:=Nn (a:=a) (b:=b) (i:=i) (j:=k) (by omega) (by omega);have hg:=g1;unfold RS at hg;simp only[decide_eq_true_eq] at hg;have:=(FY (a:=a) (b:=b) (i:=i) (by omega)).2.2 k (by omega) (by unfold RS;simp only[decide_eq_true_eq];omega);omega
theorem ak {a b:List Int} {i h:Nat} (hih:i≤h) (hh:h≤a.length):AW (a.take h) (b.take (AW a b h)) i=AW a b i:=by
 obtain⟨g1,g2,g3⟩:=FY (a:=a) (b:=b) hh;obtain⟨f1,f2,f3⟩:=FY (a:=a) (b:=b) (i:=i) (by omega);have hm:=R1 (a:=a) (b:=b) hih hh;generalize hJ:AW a b h=J at *;generalize hj:AW a b i=j at *;have la:(a.take h).length=h:=by simp;omega
 have lb:(b.take J).length=J:=by simp;omega
 have e0:AI (a.take h) (b.take J)=Ff a b 0 h 0 J:=by simp[Ff,Wq]
 have e1:∀ k,k≤J→RS (a.take h) (b.take J) i k=decide (Ff a b 0 i 0 k+Ff a b i h k J=Ff a b 0 h 0 J):=fun k hk=>by
  unfold RS;rw[e0,la,lb];unfold Ff;rw[Wp hih,Wp hk,Wp (BZ _),Wp (BZ _)]
 unfold RS at g1 f1;simp only[decide_eq_true_eq] at g1 f1;refine Ui (by omega) (by omega) ?_ fun k hk=>?_
 ·rw[e1 j hm,decide_eq_true_eq]
  -- the way through (i,j) comes to row h at k
  obtain⟨k,h1,h2,h3⟩:=J9 a b (i:=i) (h:=h) (t:=a.length) (j:=j) (q:=b.length) hih hh f2 (by omega);have h4:=GS (a:=a) (b:=b) (i:=0) (h:=i) (t:=h) (j:=0) (k:=j) (q:=k) (by omega) hih (by omega) h1;have h5:=Nn (a:=a) (b:=b) (i:=h) (j:=k) hh h2;have hJk:J≤k:=g3 k h2 (by unfold RS;simp only[decide_eq_true_eq];omega);obtain⟨k2,i1,i2,i3⟩:=J9 a b (i:=0) (h:=i) (t:=h) (j:=0) (q:=J) (by omega) hih (by omega) g2;have i4:=GS (a:=a) (b:=b) (i:=i) (h:=h) (t:=a.length) (j:=k2) (k:=J) (q:=b.length) hih hh i2 g2;have i5:=Nn (a:=a) (b:=b) (i:=i) (j:=k2) (by omega) (by omega);have hjk2:j≤k2:=f3 k2 (by omega) (by unfold RS;simp only[decide_eq_true_eq];omega);have m:=Y1 a b i h (p:=j) (p':=k2) (q:=J) (q':=k) hjk2 i2 hJk;have t1:=GS (a:=a) (b:=b) (i:=0) (h:=i) (t:=h) (j:=0) (k:=j) (q:=J) (by omega) hih (by omega) hm;have t2:=GS (a:=a) (b:=b) (i:=i) (h:=h) (t:=a.length) (j:=k2) (k:=k) (q:=b.length) hih hh (by omega) h2;omega
 ·rw[e1 k (by omega),decide_eq_false_iff_not];intro e;have h4:=GS (a:=a) (b:=b) (i:=i) (h:=h) (t:=a.length) (j:=k) (k:=J) (q:=b.length) hih hh (by omega) g2;have h5:=Nn (a:=a) (b:=b) (i:=i) (j:=k) (by omega) (by omega);have:=f3 k (by omega) (by unfold RS;simp only[decide_eq_true_eq];omega);omega
theorem bS {a b:List Int} {i h:Nat} (hh:h+i≤a.length):AW (a.drop h) (b.drop (AW a b h)) i+AW a b h=AW a b (h+i):=by
 obtain⟨g1,g2,g3⟩:=FY (a:=a) (b:=b) (i:=h) (by omega);obtain⟨f1,f2,f3⟩:=FY (a:=a) (b:=b) (i:=h+i) hh;have hm:=R1 (a:=a) (b:=b) (i:=h) (h:=h+i) (by omega) hh;generalize hJ:AW a b h=J at *;generalize hj:AW a b (h+i)=j at *;have la:h+(a.drop h).length=a.length:=by simp;omega
 have lb:J+(b.drop J).length=b.length:=by simp;omega
 have e0:AI (a.drop h) (b.drop J)=Ff a b h a.length J b.length:=by simp[Ff,j5]
 have e1:∀ k,RS (a.drop h) (b.drop J) i k=decide (Ff a b h (h+i) J (J+k)+Ff a b (h+i) a.length (J+k) b.length=Ff a b h a.length J b.length):=fun k=>by
  unfold RS;rw[e0];unfold Ff;rw[V3,V3,V3,V3,la,lb,Nat.add_zero,Nat.add_zero]
 unfold RS at g1 f1;simp only[decide_eq_true_eq] at g1 f1
 suffices hw:AW (a.drop h) (b.drop J) i=j-J by omega
 refine Ui (by omega) (by omega) ?_ fun k hk=>?_
 ·rw[e1,decide_eq_true_eq,show J+(j-J)=j by omega]
  -- the way through (h+i,j) comes from row h at k
  obtain⟨k,h1,h2,h3⟩:=J9 a b (i:=0) (h:=h) (t:=h+i) (j:=0) (q:=j) (by omega) (by omega) (by omega) f2;have h4:=GS (a:=a) (b:=b) (i:=h) (h:=h+i) (t:=a.length) (j:=k) (k:=j) (q:=b.length) (by omega) hh h2 f2;have h5:=Nn (a:=a) (b:=b) (i:=h) (j:=k) (by omega) (by omega);have hJk:J≤k:=g3 k (by omega) (by unfold RS;simp only[decide_eq_true_eq];omega);obtain⟨k2,i1,i2,i3⟩:=J9 a b (i:=h) (h:=h+i) (t:=a.length) (j:=J) (q:=b.length) (by omega) hh g2 (by omega);have i4:=GS (a:=a) (b:=b) (i:=0) (h:=h) (t:=h+i) (j:=0) (k:=J) (q:=k2) (by omega) (by omega) (by omega) i1;have i5:=Nn (a:=a) (b:=b) (i:=h+i) (j:=k2) hh i2;have hjk2:j≤k2:=f3 k2 (by omega) (by unfold RS;simp only[decide_eq_true_eq];omega);have m:=Y1 a b h (h+i) (p:=J) (p':=k) (q:=j) (q':=k2) hJk h2 hjk2;have t1:=GS (a:=a) (b:=b) (i:=h) (h:=h+i) (t:=a.length) (j:=J) (k:=j) (q:=b.length) (by omega) hh hm f2;have t2:=GS (a:=a) (b:=b) (i:=0) (h:=h) (t:=h+i) (j:=0) (k:=k) (q:=k2) (by omega) (by omega) (by omega) (by omega);omega
 ·rw[e1,decide_eq_false_iff_not];intro e;have h4:=GS (a:=a) (b:=b) (i:=0) (h:=h) (t:=h+i) (j:=0) (k:=J) (q:=J+k) (by omega) (by omega) (by omega) (by omega);have h5:=Nn (a:=a) (b:=b) (i:=h+i) (j:=J+k) hh (by omega);have:=f3 (J+k) (by omega) (by unfold RS;simp only[decide_eq_true_eq];omega);omega
structure Sp where
 k:Nat
 n:Nat
 deriving DecidableEq
def Sp.ok (s:Sp):Prop:=s.k≤2∧1≤s.n∧s.n≤1048576
def Sp.may (s:Sp):Prop:=s.k≤2∧s.n≤1048576
def AO (l:List Sp):List Nat:=l.flatMap fun s=>replicate s.n s.k
@[simp] theorem ED:AO []=[]:=rfl
@[simp] theorem Az (s:Sp) (l:List Sp):AO (s::l)=replicate s.n s.k++AO l:=rfl
@[simp] theorem PE (l m:List Sp):AO (l++m)=AO l++AO m:=by simp[AO]
def fl (k n:Nat):List Sp:=if n=0 then [] else [⟨k,n⟩]
@[simp] theorem AfY (k:Nat):fl k 0=[]:=rfl
theorem L0 {k n:Nat} (h:0<n):fl k n=[⟨k,n⟩]:=by unfold fl;rw[if_neg (by omega)]
@[simp] theorem fQ (k n:Nat):AO (fl k n)=replicate n k:=by
 unfold fl;split
 ·rename_i h;simp[h]
 ·simp[AO]
theorem XO {k n:Nat} (hk:k≤2) (hn:n≤1048576):∀ s,s ∈ fl k n→s.ok:=by
 intro s hs;unfold fl at hs;split at hs
 ·simp at hs
 ·simp at hs;subst hs;exact⟨hk,by simp;omega,hn⟩
def RQ:List Nat→Nat→Nat→Nat→List Sp
 |[],k,d,i=>fl 0 k++(fl 1 d++fl 2 i)
 |x::us,k,d,i=>if x=0 then fl 1 d++(fl 2 i++RQ us (k+1) 0 0) else fl 0 k++(if x=1 then RQ us 0 (d+1) i else RQ us 0 d (i+1))
def Il (us:List Nat):List Sp:=RQ us 0 0 0
theorem Ya:∀ (n:Nat) (us:List Nat) (k d i:Nat),0<n→(d=0∧i=0∨k=0)→RQ (replicate n 0++us) k d i=fl 1 d++(fl 2 i++RQ us (k+n) 0 0)
 |n+1,us,k,d,i,_,h=>by
  rw[List.replicate_succ,List.cons_append,RQ,if_pos rfl];cases n with
  |zero=>simp
  |succ n=>
   rw[Ya (n+1) us (k+1) 0 0 (by omega) (.inl ⟨rfl,rfl⟩)];simp;rw[show k+1+(n+1)=k+(n+1+1) by omega]
theorem V2:∀ (n:Nat) (us:List Nat) (k d i:Nat),0<n→RQ (replicate n 1++us) k d i=fl 0 k++RQ us 0 (d+n) i
 |n+1,us,k,d,i,_=>by
  rw[List.replicate_succ,List.cons_append,RQ,if_neg (by decide),if_pos rfl];cases n with
  |zero=>simp
  |succ n=>
   rw[V2 (n+1) us 0 (d+1) i (by omega)];simp;rw[show d+1+(n+1)=d+(n+1+1) by omega]
theorem Tl:∀ (n:Nat) (us:List Nat) (k d i:Nat),0<n→RQ (replicate n 2++us) k d i=fl 0 k++RQ us 0 d (i+n)
 |n+1,us,k,d,i,_=>by
  rw[List.replicate_succ,List.cons_append,RQ,if_neg (by decide),if_neg (by decide)];cases n with
  |zero=>simp
  |succ n=>
   rw[Tl (n+1) us 0 d (i+1) (by omega)];simp;rw[show i+1+(n+1)=i+(n+1+1) by omega]
def Nv (p q:Nat):List Nat:=if p<q then replicate (q-p-1) 2++[0] else [1]
def GG (a b:List Int):List Nat:=(List.range a.length).flatMap (fun i=>Nv (AW a b i) (AW a b (i+1)))++replicate (b.length-AW a b a.length) 2
theorem TE {α:Type} (f:Nat→List α) (m n:Nat):(List.range (m+n)).flatMap f=(List.range m).flatMap f++(List.range n).flatMap (fun i=>f (m+i)):=by
 rw[List.range_add,List.flatMap_append,List.flatMap_map]
theorem Gy {α:Type} {f g:Nat→List α} {n:Nat} (h:∀ i,i<n→f i=g i):(List.range n).flatMap f=(List.range n).flatMap g:=by
 induction n with
 |zero=>rfl
 |succ n ih=>
  rw[List.range_succ,List.flatMap_append,List.flatMap_append,ih fun i hi=>h i (by omega)];simp[h n (by omega)]
theorem sM (p q t:Nat):Nv (p+t) (q+t)=Nv p q:=by
 unfold Nv;by_cases h:p<q
 ·rw[if_pos h,if_pos (by omega),show q+t-(p+t)-1=q-p-1 by omega]
 ·rw[if_neg h,if_neg (by omega)]
theorem pE (a b:List Int) {h:Nat} (hh:h≤a.length):GG a b=GG (a.take h) (b.take (AW a b h))++GG (a.drop h) (b.drop (AW a b h)):=by
 obtain⟨g1,g2,g3⟩:=FY (a:=a) (b:=b) hh;have la:(a.take h).length=h:=by simp;omega
 have lb:(b.take (AW a b h)).length=AW a b h:=by simp;omega
 have ld:(a.drop h).length=a.length-h:=by simp
 have le:(b.drop (AW a b h)).length=b.length-AW a b h:=by simp
 have e1:GG (a.take h) (b.take (AW a b h))=(List.range h).flatMap fun i=>Nv (AW a b i) (AW a b (i+1)):=by
  unfold GG;rw[la,lb,ak (BZ _) hh,Nat.sub_self,List.replicate_zero,List.append_nil];exact Gy fun i hi=>by rw[ak (by omega) hh,ak (by omega) hh]
 have e2:GG (a.drop h) (b.drop (AW a b h))=(List.range (a.length-h)).flatMap (fun i=>Nv (AW a b (h+i)) (AW a b (h+i+1)))++replicate (b.length-AW a b a.length) 2:=by
  unfold GG;rw[ld,le];have hw:=bS (a:=a) (b:=b) (h:=h) (i:=a.length-h) (by omega);rw[show h+(a.length-h)=a.length by omega] at hw;congr 1
  ·refine Gy fun i hi=>?_;have w1:=bS (a:=a) (b:=b) (h:=h) (i:=i) (by omega);have w2:=bS (a:=a) (b:=b) (h:=h) (i:=i+1) (by omega);rw[← sM _ _ (AW a b h),w1,w2];rfl
  ·congr 1;omega
 rw[e1,e2,← List.append_assoc];unfold GG;congr 1;have:=TE (fun i=>Nv (AW a b i) (AW a b (i+1))) h (a.length-h);rw[show h+(a.length-h)=a.length by omega] at this;exact this
theorem uy (b:List Int):GG [] b=replicate b.length 2:=by
 unfold GG;simp[Tg]
theorem oL (a:List Int):GG a []=replicate a.length 1:=by
 have h:∀ i,i≤a.length→AW a [] i=0:=fun i hi=>by have:=(FY (a:=a) (b:=[]) hi).2.1;simpa using this
 unfold GG;rw[h _ (BZ _)];simp;rw[Gy (g:=fun _=>[1]) fun i hi=>by rw[h i (by omega),h (i+1) (by omega)];rfl];generalize a.length=n;induction n with
 |zero=>rfl
 |succ n ih=>rw[List.range_succ,List.flatMap_append,ih,List.replicate_succ'];simp
def FV (x:Int):List Int→Nat
 |[]=>0
 |y::b=>if x=y then 0 else FV x b+1
theorem V4 (x:Int):∀ b,FV x b≤b.length
 |[]=>by simp[FV]
 |y::b=>by
  have:=V4 x b;unfold FV;split<;>simp<;>omega
theorem cy (x:Int):∀ {b},(h:FV x b<b.length)→b[FV x b]=x
 |[],h=>by simp[FV] at h
 |y::b,h=>by
  unfold FV at h;by_cases e:x=y
  ·simp[FV,e]
  ·rw[if_neg e] at h;simp only[FV,if_neg e,List.getElem_cons_succ];exact cy x (by simpa using h)
theorem X0 (x:Int):∀ {b:List Int} {j:Nat},j≤FV x b→x ∉ b.take j
 |[],j,h=>by simp
 |y::b,0,h=>by simp
 |y::b,j+1,h=>by
  unfold FV at h;by_cases e:x=y
  ·rw[if_pos e] at h;omega
  ·rw[if_neg e] at h;simp[e,X0 x (b:=b) (j:=j) (by omega)]
theorem kQ (x:Int) (b:List Int):AI [x] b=if x ∈ b then 1 else 0:=by
 unfold AI;cases e:cJ x b with
 |none=>simp[df e]
 |some b'=>
  obtain⟨b0,rfl,_⟩:=Py e;simp
theorem mP (x:Int) (b:List Int):AW [x] b 1=if FV x b<b.length then FV x b+1 else 0:=by
 have on:∀ j,RS [x] b 1 j=decide ((if x ∈ b.take j then 1 else 0)=if x ∈ b then 1 else 0):=fun j=>by
  unfold RS Ff;rw[kQ];simp[Wq,zK,kQ,sg]
 have hle:=V4 x b;by_cases h:FV x b<b.length
 ·rw[if_pos h];have hx:x ∈ b:=by rw[← cy x h];exact Bg h
  refine Ui (by simp) (by omega) ?_ fun j hj=>?_
  ·rw[on,if_pos hx,if_pos ?_]
   ·rfl
   ·rw[Fm h,cy x h];simp
  ·rw[on,if_pos hx,if_neg (X0 x (by omega))];rfl
 ·rw[if_neg h];refine Ui (by simp) (by omega) ?_ fun j hj=>by omega
  rw[on,if_neg (by simp),if_neg ?_]
  ·rfl
  ·have:=X0 x (b:=b) (j:=b.length) (by omega)
   rwa [AL (BZ _)] at this
theorem tN (x:Int) (b:List Int):GG [x] b=if FV x b<b.length then replicate (FV x b) 2++(0::replicate (b.length-FV x b-1) 2) else 1::replicate b.length 2:=by
 unfold GG;have:(List.range [x].length)=[0]:=rfl;rw[this,show [x].length=1 from rfl,mP];simp only[List.flatMap_cons,List.flatMap_nil,List.append_nil,Tg,Nat.zero_add];rw[mP];split
 ·unfold Nv;rw[if_pos (by omega),show FV x b+1-0-1=FV x b by omega,show b.length-(FV x b+1)=b.length-FV x b-1 by omega];simp
 ·simp[Nv]
def D0 (a b:List Int) (i j:Nat):Nat:=i+j-2*AI (a.take i) (b.take j)
theorem Kc (a b:List Int) (i j:Nat):AI (a.take i) (b.take j)≤i∧AI (a.take i) (b.take j)≤j:=by
 have h:=Gm (a.take i) (b.take j);simp at h;omega
theorem XN (a b:List Int) (i j:Nat):i≤j+D0 a b i j∧j≤i+D0 a b i j:=by
 have h:=Kc a b i j;unfold D0;omega
theorem Qk {l:List Int} {i:Nat} (h:l.length≤i):l.take (i+1)=l.take i:=by
 rw[AL (by omega),AL h]
theorem Wz {a b:List Int} {i j:Nat} (h:¬ ∃ (h1:i<a.length) (h2:j<b.length),a[i]=b[j]):D0 a b (i+1) (j+1)=D0 a b i (j+1)+1∨D0 a b (i+1) (j+1)=D0 a b (i+1) j+1:=by
 have g1:=Kc a b i (j+1);have g2:=Kc a b (i+1) j;have g3:=Kc a b (i+1) (j+1);unfold D0;by_cases h1:i<a.length
 ·by_cases h2:j<b.length
  ·have hne:a[i] ≠ b[j]:=fun e=>h ⟨h1,h2,e⟩;have e:=Md hne (a.take i) (b.take j);rw[← Fm h1,← Fm h2] at e;omega
  ·rw[Qk (l:=b) (by omega)] at *;omega
 ·rw[Qk (l:=a) (by omega)] at *;omega
theorem QR {a b:List Int} {i j:Nat} (h1:i<a.length) (h2:j<b.length) (h:a[i]=b[j]):D0 a b (i+1) (j+1)=D0 a b i j:=by
 have g:=Kc a b i j;unfold D0;rw[Fm h1,Fm h2,h,Ml];omega
theorem nX (a b:List Int) (i j:Nat):D0 a b (i+1) j≤D0 a b i j+1:=by
 have:AI (a.take i) (b.take j)≤AI (a.take (i+1)) (b.take j):=PJ (List.take_sublist_take_left (by omega)) (List.Sublist.refl _);unfold D0;omega
theorem ot (a b:List Int) (i j:Nat):D0 a b i (j+1)≤D0 a b i j+1:=by
 have:AI (a.take i) (b.take j)≤AI (a.take i) (b.take (j+1)):=PJ (List.Sublist.refl _) (List.take_sublist_take_left (by omega));unfold D0;omega
def B7 (a b:List Int):Nat:=a.length+b.length-2*AI a b
theorem wT (a b:List Int):D0 a b a.length b.length=B7 a b:=by simp[D0,B7]
theorem vD {a b:List Int} {i j:Nat} (h1:a.length≤i) (h2:b.length≤j):B7 a b≤D0 a b i j:=by
 unfold D0 B7;rw[AL h1,AL h2];omega
structure Q5 (a b:List Int) (c d p x:Nat):Prop where
 on:p≤x+c
 may:D0 a b x (x+c-p)≤d
 most:∀ i j,i+c=j+p→D0 a b i j≤d→i≤x
structure cF (a b:List Int) (c d p x:Nat):Prop where
 on:p≤x+c
 may:D0 a b x (x+c-p)≤d
 most:∀ i j,i+c=j+p→D0 a b i j≤d→i≤x∨∃ i' j',i=i'+1∧j=j'+1∧(∃ (h1:i'<a.length) (h2:j'<b.length),a[i']=b[j'])∧D0 a b i' j'≤d
theorem ry (a b:List Int) (c:Nat):cF a b c 0 c 0:=by
 refine⟨by omega,by simp[D0],fun i j h hm=>?_⟩;have:i=j:=by omega
 subst this;cases i with
 |zero=>exact .inl (by omega)
 |succ i=>
  right;refine⟨i,i,rfl,rfl,?_⟩;by_cases hs:∃ (h1:i<a.length) (h2:i<b.length),a[i]=b[i]
  ·obtain⟨h1,h2,e⟩:=hs;rw[QR h1 h2 e] at hm;exact⟨⟨h1,h2,e⟩,hm⟩
  ·have:=Wz hs;omega
theorem Sj {a b:List Int} {c d p x:Nat} (hc:d+1≤c) (hp1:c≤p+(d+1)) (hp2:p≤c+(d+1)) (hp0:1≤p) {y z:Nat} (hy:p+(d+1) ≠ c→Q5 a b c d (p-1) y) (hz:p ≠ c+(d+1)→Q5 a b c d (p+1) z)
  (hx:(p+(d+1) ≠ c∧x=y+1)∨(p ≠ c+(d+1)∧x=z)) (hxy:p+(d+1) ≠ c→y+1≤x) (hxz:p ≠ c+(d+1)→z≤x):cF a b c (d+1) p x:=by
 have on:p≤x+c∧D0 a b x (x+c-p)≤d+1:=by
  rcases hx with ⟨h,rfl⟩ | ⟨h,rfl⟩
  ·have g:=hy h;have g1:=g.on;have g2:=g.may;have:=nX a b y (y+c-(p-1));refine⟨by omega,?_⟩;rw[show y+1+c-p=y+c-(p-1) by omega];omega
  ·have g:=hz h;have g1:=g.on;have g2:=g.may;have:=ot a b x (x+c-(p+1));refine⟨by omega,?_⟩;rw[show x+c-p=x+c-(p+1)+1 by omega];omega
 refine⟨on.1,on.2,fun i j h hm=>?_⟩;cases i with
 |zero=>exact .inl (by omega)
 |succ i=>
  cases j with
  |zero=>exact .inl (by omega)
  |succ j=>
   by_cases hs:∃ (h1:i<a.length) (h2:j<b.length),a[i]=b[j]
   ·obtain⟨h1,h2,e⟩:=hs;rw[QR h1 h2 e] at hm;exact .inr ⟨i,j,rfl,rfl,⟨h1,h2,e⟩,hm⟩
   ·left;rcases Wz hs with e | e
    ·have hd:=XN a b i (j+1);have hne:p+(d+1) ≠ c:=fun h'=>by omega
     have:=(hy hne).most i (j+1) (by omega) (by omega);have:=hxy hne;omega
    ·have hd:=XN a b (i+1) j;have hne:p ≠ c+(d+1):=fun h'=>by omega
     have:=(hz hne).most (i+1) j (by omega) (by omega);have:=hxz hne;omega
theorem Aa1 {a b:List Int} {c d p x:Nat} (h:cF a b c d p x) {y:Nat} (hy:x+c=y+p) (h1:x<a.length) (h2:y<b.length) (e:a[x]=b[y]):cF a b c d p (x+1):=by
 have hm:=h.may;rw[show x+c-p=y by omega] at hm;refine⟨by omega,?_,fun i j hij hc=>?_⟩
 ·rw[show x+1+c-p=y+1 by omega,QR h1 h2 e];exact hm
 ·rcases h.most i j hij hc with k | k
  ·exact .inl (by omega)
  ·exact .inr k
theorem Wh {a b:List Int} {c d p x:Nat} (h:cF a b c d p x) {y:Nat} (hy:x+c=y+p) (hs:¬ ∃ (h1:x<a.length) (h2:y<b.length),a[x]=b[y]):Q5 a b c d p x:=by
 refine⟨h.on,h.may,fun i=>?_⟩;induction i with
 |zero=>intro j _ _;omega
 |succ i ih=>
  intro j hij hc;rcases h.most _ _ hij hc with k | ⟨i',j',e1,e2,k,km⟩
  ·exact k
  ·have e1:i=i':=by omega
   subst e1;have:=ih j' (by omega) km;by_cases e:i=x
   ·subst e;have:j'=y:=by omega
    subst this;exact absurd k hs
   ·omega
theorem rN {a b:List Int} {c d p x y:Nat} (h:Q5 a b c d p x) (hy:x+c=y+p) (h1:a.length≤x) (h2:b.length≤y):B7 a b≤d:=by
 have:=h.may;rw[show x+c-p=y by omega] at this;have:=vD (a:=a) (b:=b) h1 h2;omega
theorem oC {a b:List Int} {c d p x y:Nat} (h:Q5 a b c d p x) (hy:x+c=y+p) (hp:a.length+c=b.length+p) (hd:B7 a b≤d):a.length≤x∧b.length≤y:=by
 have:=h.most a.length b.length hp (by rw[wT];exact hd);omega
theorem Zx (a b:List Int):a.length≤b.length+B7 a b∧b.length≤a.length+B7 a b∧(a.length+b.length+B7 a b) % 2=0:=by
 have h:=Gm a b;unfold B7;omega
end Go.PL
namespace Go.Proofs.YtbjmaoedheiigaaGreat
open Go Go.G Go.Proofs Go.PL
def FL (f:Nat→Int) (n:Nat):List A:=(List.range n).map fun q=>iv (f q)
@[simp] theorem Ahn {f:Nat→Int} {n:Nat}:(FL f n).length=n:=by simp[FL]
@[simp] theorem J6 {f:Nat→Int} {n k:Nat} (h:k<n):(FL f n)[k]? = some (iv (f k)):=by simp[FL,h]
@[simp] theorem AhY {f:Nat→Int} {n k:Nat} (h:k<(FL f n).length):(FL f n)[k]=iv (f k):=by simp[FL]
@[simp] theorem AhD {f:Nat→Int} {n k:Nat} {z:Int}:(FL f n).set k (iv z)=FL (fun q=>if q=k then z else f q) n:=by
 apply List.ext_getElem?;intro i;rw[List.getElem?_set];by_cases hi:i<n
 ·rw[J6 hi];by_cases e:k=i
  ·subst e;simp[hi,J6 hi]
  ·rw[if_neg e,J6 hi,if_neg (Ne.symm e)]
 ·rw[List.getElem?_eq_none (l:=FL _ n) (by simp;omega)];split
  ·rename_i e;rw[if_neg (by simp;omega),List.getElem?_eq_none (by simp;omega)]
  ·rw[List.getElem?_eq_none (by simp;omega)]
theorem OB {n:Nat}:List.replicate n (iv 0)=FL (fun _=>0) n:=by
 apply List.ext_getElem?;intro i;by_cases hi:i<n
 ·rw[J6 hi];simp[hi]
 ·rw[List.getElem?_eq_none (by simp;omega),List.getElem?_eq_none (by simp;omega)]
theorem Ir {f g:Nat→Int} {n:Nat} (h:∀ q,q<n→f q=g q):FL f n=FL g n:=by
 unfold FL;exact List.map_congr_left fun q hq=>by rw[h q (by simpa using hq)]
theorem dP (l:List Int):l.map iv=FL (fun q=>l.getD q 0) l.length:=by
 apply List.ext_getElem?;intro i;by_cases hi:i<l.length
 ·rw[J6 hi];simp[hi]
 ·rw[List.getElem?_eq_none (by simp;omega),List.getElem?_eq_none (by simp;omega)]
theorem PD {H:Hp} {o:Nm} {u n:Nat} {f:Nat→Int} (h:H o=⟨u,.arr 1 (FL f n)⟩):J3 H (.osl o u 1 0 n) (.sl false (FL f n)):=by
 have:=Bx (H:=H) (o:=o) (u:=u) (sz:=1) (l:=List.range n) (f:=fun q=>iv (f q)) (n:=n) (by rw[h];simp[FL]) (by simp) (fun x=>rfl);exact this
theorem PO (l:List Int):A.softL (l.map iv)=l.map iv:=by rw[C3,List.map_map];rfl
theorem cm (l:List Int) (n:Nat):A.softL ((l.map iv).take n)=(l.map iv).take n:=by rw[← List.map_take,PO]
theorem bZ (l:List Int) (n:Nat):A.softL ((l.map iv).drop n)=(l.map iv).drop n:=by rw[← List.map_drop,PO]
theorem iL {f:Nat→Int} {n k:Nat} {lo hi:Bool} (hk:1≤k) (hk2:k+1<n) (hn:n≤100000000) (hf:∀ q,-1000000000≤f q∧f q≤1000000000):G.Spec Tryz.prog 219 [.sl false (FL f n),iv k,bv lo,bv hi] (iv (if lo=true∧hi=true then 0 else if lo=true∨(hi=false∧f (k-1)<f (k+1)) then f (k+1) else f (k-1)+1)):=by
 have e1:i64.wrap ((k:Int)-1)=((k-1:Nat):Int):=AP;have e2:=Av k;have h1:=hf (k-1);have e3:i64.wrap (f (k-1)+1)=f (k-1)+1:=BJ;have g1:(FL f n)[k-1]? = some (iv (f (k-1))):=J6 (by omega);have g2:(FL f n)[k+1]? = some (iv (f (k+1))):=J6 hk2;have b1:k-1<n:=by omega
 have b2:(0:Int)≤(k:Int)+1:=by omega
 have b3:(k:Int)+1<n:=by omega
 refine Aj dU (by simp) fun w0 I0=>?_;unfold UM;cases lo<;>cases hi
 ·by_cases h:f (k-1)<f (k+1)
  ·simp[e1,e2,e3,g1,g2,h,b1,b2,b3,hk2];exact Ad rfl
  ·simp[e1,e2,e3,g1,g2,h,b1,b2,b3,hk2];exact CE rfl
 ·simp[e1,e2,e3,g1,g2,b1,b2,b3,hk2];exact Ad rfl
 ·simp[e1,e2,e3,g1,g2,b1,b2,b3,hk2];exact Ad rfl
 ·simp;exact Ad rfl
variable {n0:Nat} {w0:World} {I0:Nat→Prop} {Q:Exit→Sta→Prop}
theorem zD {a b:List Int} {i u:Nat} {x:Int} (hi:i<a.length) (hx:a[i]=x) (hb:b.length≤1000000):∀ (m j:Nat) (f:Nat→Int) (H:Hp),j+m=b.length→(∀ q,q≤b.length→f q=if q≤j then (AI (a.take (i+1)) (b.take q):Nat) else (AI (a.take i) (b.take q):Nat))→H [0]=⟨u,.arr 1 (FL f (b.length+1))⟩ →
  (∀ (f':Nat→Int) (z:Int) (H':Hp) (st:List (Nat × A)),(∀ q,q≤b.length→f' q=(AI (a.take (i+1)) (b.take q):Nat))→H' [0]=⟨u,.arr 1 (FL f' (b.length+1))⟩→Q (.exit 2) ⟨lk ([(1,Cq b),(5,.osl [0] u 1 0 (b.length+1)),(7,iv x),(8,iv z),(16,Cq a),(17,iv a.length),(18,iv i)]++st),H'⟩) →
  LoopC (cx Tryz.prog w0 I0 n0) KN Q ⟨lk [(1,Cq b),(5,.osl [0] u 1 0 (b.length+1)),(7,iv x),(8,iv (AI (a.take i) (b.take j):Nat)),(16,Cq a),(17,iv a.length),(18,iv i),(22,Cq b),(23,iv b.length),(24,iv j)],H⟩:=by
 intro m;induction m with
 |zero=>
  intro j f H hm hf hH hq;refine Ab Ai KN.eq_1 ?_;have:j=b.length:=by omega
  subst this;simp;exact hq f _ H [(22,Cq b),(23,iv b.length),(24,iv b.length),(25,bv false)] (fun q hq=>by rw[hf q hq,if_pos hq]) hH
 |succ m ih=>
  intro j f H hm hf hH hq;have hj:j<b.length:=by omega
  have e1:=Av j;have g1:(FL f (b.length+1))[j]? = some (iv (f j)):=J6 (by omega);have g2:(FL f (b.length+1))[j+1]? = some (iv (f (j+1))):=J6 (by omega);have f1:=hf j (by omega);have f2:=hf (j+1) (by omega);rw[if_pos (BZ _)] at f1;rw[if_neg (by omega)] at f2;have m0:(0:Int)≤(j:Int)+1:=by omega
  have m1:(j:Int)<(b.length:Int)+1:=by omega
  have ll:=Gm (a.take i) (b.take j);simp at ll;have e2:i64.wrap ((AI (a.take i) (b.take j):Nat)+1)=((AI (a.take i) (b.take j)+1:Nat):Int):=AP;have tk:a.take (i+1)=a.take i++[x]:=by rw[Fm hi,hx]
  have tj:b.take (j+1)=b.take j++[b[j]]:=Fm hj;have next:∀ (z:Int) (f':Nat→Int),z=(AI (a.take (i+1)) (b.take (j+1)):Nat)→(∀ q,q ≠ j+1→f' q=f q)→f' (j+1)=z→LoopC (cx Tryz.prog w0 I0 n0) KN Q ⟨lk [(1,Cq b),(5,.osl [0] u 1 0 (b.length+1)),(7,iv x),(8,iv (AI (a.take i) (b.take (j+1)):Nat)),(16,Cq a),(17,iv a.length),(18,iv i),(22,Cq b),(23,iv b.length),(24,iv (j+1:Nat))],Ay H [0] ⟨u,.arr 1 (FL f' (b.length+1))⟩⟩:=fun z f' hz h1 h2=>by
   refine ih (j+1) f' _ (by omega) (fun q hq=>?_) (by simp[Aa]) hq;by_cases e:q=j+1
   ·subst e;rw[if_pos (BZ _),h2,hz]
   ·rw[h1 q e,hf q hq];by_cases h3:q≤j
    ·rw[if_pos h3,if_pos (by omega)]
    ·rw[if_neg h3,if_neg (by omega)]
  refine Ab Ai KN.eq_1 ?_;by_cases h:x=b[j]
  ·simp[hj,h,e1,g2,hH,m0,m1];rw[Q0.eq_1];have hjb:j<b.length+1:=by omega
   simp[hj,h,e1,hjb,hH,m0,m1,Aa,e2];rw[f2,← h];have e:=Ml x (a.take i) (b.take j);have e':=dS x (a.take i) (b.take j);rw[← tk] at e e';rw[h,← tj] at e;refine next _ _ rfl (fun q hq=>by simp[hq]) ?_
   simp;rw[f1,e];omega
  ·simp[hj,h,e1,g2,hH,m0,m1];rw[Q0.eq_1];have hjb:j<b.length+1:=by omega
   simp[hj,h,e1,hjb,hH,m0,m1];rw[f2];have e:=Md h (a.take i) (b.take j);rw[← tj,← tk] at e;refine next _ _ rfl (fun q hq=>by simp[hq]) ?_
   simp;rw[f1,e];omega
theorem zI {a b:List Int} {u:Nat} (ha:a.length≤1000000) (hb:b.length≤1000000) (hq:∀ (f':Nat→Int) (H':Hp) (st:List (Nat × A)),(∀ q,q≤b.length→f' q=(AI a (b.take q):Nat))→H' [0]=⟨u,.arr 1 (FL f' (b.length+1))⟩→Q (.exit 0) ⟨lk ([(1,Cq b),(5,.osl [0] u 1 0 (b.length+1))]++st),H'⟩):∀ (m i:Nat) (f:Nat→Int) (H:Hp),i+m=a.length→(∀ q,q≤b.length→f q=(AI (a.take i) (b.take q):Nat))→H [0]=⟨u,.arr 1 (FL f (b.length+1))⟩ →
  LoopC (cx Tryz.prog w0 I0 n0) Nj Q ⟨lk [(1,Cq b),(5,.osl [0] u 1 0 (b.length+1)),(16,Cq a),(17,iv a.length),(18,iv i)],H⟩:=by
 intro m;induction m with
 |zero=>
  intro i f H hm hf hH;refine Ab Ai Nj.eq_1 ?_;have:i=a.length:=by omega
  subst this;simp;exact hq f H [(16,Cq a),(17,iv a.length),(18,iv a.length),(19,bv false)] (fun q hq=>by rw[hf q hq,AL (BZ _)]) hH
 |succ m ih=>
  intro i f H hm hf hH;have hi:i<a.length:=by omega
  have e1:=Av i;refine Ab Ai Nj.eq_1 ?_;simp[hi];refine LoopC.le (Ao [(1,Cq b),(5,.osl [0] u 1 0 (b.length+1)),(7,iv a[i]),(8,iv (AI (a.take i) (b.take 0):Nat)),(16,Cq a),(17,iv a.length),(18,iv i),(22,Cq b),(23,iv b.length),(24,iv (0:Nat))] (by simp)) ?_;refine zD hi rfl hb b.length 0 f H (by omega) (fun q hq=>?_) hH fun f' z H' st h1 h2=>?_
  ·rw[hf q hq];by_cases h0:q≤0
   ·have:q=0:=by omega
    subst this;simp
   ·rw[if_neg h0]
  ·simp[e1];exact ih (i+1) f' H' (by omega) h1 h2
theorem oW {l:List Int} {u:Nat} (hl:l.length≤1000000) (hq:∀ (f':Nat→Int) (H':Hp) (st:List (Nat × A)),(∀ q,q<l.length→f' q=l.getD (l.length-1-q) 0)→H' [0]=⟨u,.arr 1 (FL f' l.length)⟩→Q (.exit 0) ⟨lk ([(0,Cq l),(3,.osl [0] u 1 0 l.length)]++st),H'⟩):∀ (m i:Nat) (f:Nat→Int) (H:Hp),i+m=l.length→(∀ q,q<l.length→l.length≤q+i→f q=l.getD (l.length-1-q) 0)→H [0]=⟨u,.arr 1 (FL f l.length)⟩ →
  LoopC (cx Tryz.prog w0 I0 n0) IV Q ⟨lk [(0,Cq l),(3,.osl [0] u 1 0 l.length),(9,Cq l),(10,iv l.length),(11,iv i)],H⟩:=by
 intro m;induction m with
 |zero=>
  intro i f H hm hf hH;refine Ab Ai IV.eq_1 ?_;have:i=l.length:=by omega
  subst this;simp;exact hq f H [(9,Cq l),(10,iv l.length),(11,iv l.length),(12,bv false)] (fun q hq=>hf q hq (by omega)) hH
 |succ m ih=>
  intro i f H hm hf hH;have hi:i<l.length:=by omega
  have e1:=Av i;have e2:i64.wrap (i64.wrap ((l.length:Int)-1)-i)=((l.length-1-i:Nat):Int):=by rw[Al (n:=(l.length:Int)-1) (by omega) (by omega),Al (by omega) (by omega)];omega
  have b1:l.length-1-i<l.length:=by omega
  refine Ab Ai IV.eq_1 ?_;simp[hi,e1,e2,hH,b1];refine ih (i+1) _ _ (by omega) (fun q hq1 hq2=>?_) (by simp[Aa];rfl);by_cases e:q=l.length-1-i
  ·rw[if_pos e];have:l.length-1-q=i:=by omega
   rw[this];simp[List.getD_eq_getElem?_getD,hi]
  ·rw[if_neg e];exact hf q hq1 (by omega)
theorem WJ {a b:List Int} (ha:a.length≤1000000) (hb:b.length≤1000000):G.Spec Tryz.prog 251 [Cq a,Cq b] (.sl false (FL (fun q=>(AI a (b.take q):Nat)) (b.length+1))):=by
 have e1:i64.wrap ((b.length:Int)+1)=((b.length+1:Nat):Int):=AP;refine Aj nQ (by simp) fun w0 I0=>?_;unfold Zd;simp[e1];refine⟨by omega,?_⟩;refine LoopC.le (Ao [(1,Cq b),(5,.osl [0] 1 1 0 (b.length+1)),(16,Cq a),(17,iv a.length),(18,iv (0:Nat))] (by simp)) ?_;refine zI ha hb (fun f' H' st h1 h2=>?_) a.length 0 (fun _=>0) _ (by omega) (fun q hq=>by simp) (by simp[OB]);simp;rw[← Ir fun q hq=>h1 q (by omega)];exact PD h2
theorem Vg {l:List Int} (hl:l.length≤1000000):G.Spec Tryz.prog 252 [Cq l] (Cq l.reverse):=by
 refine Aj bJ (by simp) fun w0 I0=>?_;unfold Sa;simp;refine⟨by omega,?_⟩;refine LoopC.le (Ao [(0,Cq l),(3,.osl [0] 1 1 0 l.length),(9,Cq l),(10,iv l.length),(11,iv (0:Nat))] (by simp)) ?_;refine oW hl (fun f' H' st h1 h2=>?_) l.length 0 (fun _=>0) _ (by omega) (fun q hq=>by omega) (by simp[OB]);simp;have e:l.reverse.map iv=FL f' l.length:=by
  rw[dP,List.length_reverse];refine Ir fun q hq=>?_;rw[h1 q hq];simp[List.getD_eq_getElem?_getD,List.getElem?_reverse hq]
 have e':Cq l.reverse = .sl false (FL f' l.length):=by rw[← e]
 rw[e'];exact PD h2
theorem sA {n0:Nat} {w0:World} {I0:Nat→Prop} {Q:Exit→Sta→Prop} {a b:List Int} {half:Nat} (hh:half≤a.length) (hb:b.length≤1000000) {H:Hp} {f g:Nat→Int} (hf:∀ q,q≤b.length→f q=(Ff a b 0 half 0 q:Nat)) (hg:∀ q,q≤b.length→g (b.length-q)=(Ff a b half a.length q b.length:Nat))
  (hq:∀ st,Q (.exit 0) ⟨lk ([(1,Cq b),(7,.sl false (FL f (b.length+1))),(8,.sl false (FL g (b.length+1))),(9,iv (AW a b half))]++st),H⟩):∀ (m i best:Nat),i+m=b.length+1→best≤b.length→(∀ q,q<best→Ff a b 0 half 0 q+Ff a b half a.length q b.length<Ff a b 0 half 0 best+Ff a b half a.length best b.length)→(∀ q,q<i→Ff a b 0 half 0 q+Ff a b half a.length q b.length≤Ff a b 0 half 0 best+Ff a b half a.length best b.length) →
  LoopC (cx Tryz.prog w0 I0 n0) JU Q ⟨lk [(1,Cq b),(7,.sl false (FL f (b.length+1))),(8,.sl false (FL g (b.length+1))),(9,iv best),(24,iv (b.length+1:Nat)),(25,iv i)],H⟩:=by
 intro m;induction m with
 |zero=>
  intro i best hm hbl h1 h2;refine Ab Ai JU.eq_1 ?_;have:i=b.length+1:=by omega
  subst this;have hw:AW a b half=best:=by
   obtain⟨g1,g2,g3⟩:=FY (a:=a) (b:=b) hh;have hle:=Nn (a:=a) (b:=b) (i:=half) (j:=best) hh hbl;have h3:=h2 (AW a b half) (by omega);unfold RS at g1;simp only[decide_eq_true_eq] at g1;refine Ui hh hbl (by unfold RS;simp only[decide_eq_true_eq];omega) fun j hj=>?_;have:=h1 j hj;unfold RS;simp only[decide_eq_false_iff_not];omega
  simp;rw[← hw];exact hq [(24,iv (b.length+1:Nat)),(25,iv (b.length+1:Nat)),(26,bv false)]
 |succ m ih=>
  intro i best hm hbl h1 h2;have hi:i<b.length+1:=by omega
  have e1:=Av i;have e2:i64.wrap ((b.length:Int)-i)=((b.length-i:Nat):Int):=AP;have e3:i64.wrap ((b.length:Int)-best)=((b.length-best:Nat):Int):=AP;have fi:=hf i (by omega);have gi:=hg i (by omega);have fb:=hf best hbl;have gb:=hg best hbl;have l1:=Gm (sg a 0 half) (sg b 0 i);have l2:=Gm (sg a half a.length) (sg b i b.length);have l3:=Gm (sg a 0 half) (sg b 0 best);have l4:=Gm (sg a half a.length) (sg b best b.length);rw[Mi _ _ _ hh,Mi _ _ _ (by omega)] at l1;rw[Mi _ _ _ (by omega),Mi _ _ _ (by omega)] at l2;rw[Mi _ _ _ hh,Mi _ _ _ hbl] at l3;rw[Mi _ _ _ (by omega),Mi _ _ _ (by omega)] at l4;have e4:i64.wrap (f i+g (b.length-i))=((Ff a b 0 half 0 i+Ff a b half a.length i b.length:Nat):Int):=by rw[fi,gi,Al (by unfold Ff;omega) (by unfold Ff;omega)];omega
  have e5:i64.wrap (f best+g (b.length-best))=((Ff a b 0 half 0 best+Ff a b half a.length best b.length:Nat):Int):=by rw[fb,gb,Al (by unfold Ff;omega) (by unfold Ff;omega)];omega
  have b1:b.length-i<b.length+1:=by omega
  have b2:b.length-best<b.length+1:=by omega
  have b3:best<b.length+1:=by omega
  refine Ab Ai JU.eq_1 ?_;have c1:(i:Int)<(b.length:Int)+1:=by omega
  have c2:((b.length-i:Nat):Int)<(b.length:Int)+1:=by omega
  have c3:(best:Int)<(b.length:Int)+1:=by omega
  have c4:((b.length-best:Nat):Int)<(b.length:Int)+1:=by omega
  by_cases h:(Ff a b 0 half 0 best:Int)+(Ff a b half a.length best b.length:Int)<(Ff a b 0 half 0 i:Int)+(Ff a b half a.length i b.length:Int)
  ·simp[hi,e1,e2,e3,e4,e5,b1,b2,b3,h,c1,c2,c3,c4];refine ih (i+1) i (by omega) (by omega) (fun q hq=>?_) (fun q hq=>?_)
   ·have:=h2 q hq;omega
   ·by_cases e:q=i
    ·subst e;omega
    ·have:=h2 q (by omega);omega
  ·simp[hi,e1,e2,e3,e4,e5,b1,b2,b3,h,c1,c2,c3,c4];refine ih (i+1) best (by omega) hbl h1 (fun q hq=>?_);by_cases e:q=i
   ·subst e;omega
   ·exact h2 q (by omega)
theorem jk {a b:List Int} {half:Nat} (hh:half≤a.length) (ha:a.length≤1000000) (hb:b.length≤1000000):G.Spec Tryz.prog 222 [Cq a,Cq b,iv half] (iv (AW a b half)):=by
 refine Aj gP (by simp) fun w0 I0=>?_;have s1:=WJ (a:=a.take half) (b:=b) (by simp;omega) hb;have s2:=Vg (l:=a.drop half) (by simp;omega);have s3:=Vg (l:=b) hb;have s4:=WJ (a:=(a.drop half).reverse) (b:=b.reverse) (by simp;omega) (by simpa using hb);rw[List.length_reverse] at s4;unfold Vw;simp[hh];refine Ae (s1.soft (by simp[A.softL,A.soft,PO,cm])) (by simp) ?_;simp[hh];refine Ae (s2.soft (by simp[A.softL,A.soft,PO,bZ,AL])) (by simp) ?_;simp[hh];refine Ae s3 (by simp) ?_;simp[hh];refine Ae s4 (by simp) ?_;simp[hh];refine LoopC.le (Ao [(1,Cq b),(7,.sl false (FL (fun q=>(AI (a.take half) (b.take q):Nat)) (b.length+1))),(8,.sl false (FL (fun q=>(AI (a.drop half).reverse (b.reverse.take q):Nat)) (b.length+1))),(9,iv (0:Nat)),(24,iv (b.length+1:Nat)),(25,iv (0:Nat))] (by simp)) ?_;refine sA hh hb (fun q hq=>by simp[Ff,Wq]) (fun q hq=>?_) (fun st=>?_) (b.length+1) 0 0 (by omega) (by omega) (fun q hq=>by omega) (fun q hq=>by omega)
 ·have e:b.reverse.take (b.length-q)=(b.drop q).reverse:=by
   rw[List.take_reverse];congr 2;omega
  show((AI (a.drop half).reverse (b.reverse.take (b.length-q)):Nat):Int)=_;rw[e,JM];simp[Ff,j5]
 ·simp;exact Ad rfl
theorem WO {a b:List Int} {c d p x y:Nat} (h:cF a b c d p x) (hy:x+c=y+p):x≤d+a.length∧y≤d+b.length:=by
 have h1:=h.may;rw[show x+c-p=y by omega] at h1;have h2:=Gm (a.take x) (b.take y);have h3:=Kc a b x y;unfold D0 at h1;simp at h2;omega
theorem zS {a b:List Int} {M d p t:Nat} {f:Nat→Nat} (hd:d≤M) (ht:t≤d) (hp:p+d=M+1+2*t) (hold:∀ p s,s<d→p+d=M+1+1+2*s→Q5 a b (M+1) (d-1) p (f p)):∃ x:Nat,(if decide (t=0)=true∧decide (t=d)=true then (0:Int) else if decide (t=0)=true∨(decide (t=d)=false∧((f (p-1):Nat):Int)<(f (p+1):Nat)) then ((f (p+1):Nat):Int) else ((f (p-1):Nat):Int)+1)=(x:Int)∧cF a b (M+1) d p x:=by
 cases d with
 |zero=>
  have:t=0:=by omega
  subst this;have:p=M+1:=by omega
  subst this;exact⟨0,by simp,ry a b (M+1)⟩
 |succ d=>
  have hy:p+(d+1) ≠ M+1→Q5 a b (M+1) d (p-1) (f (p-1)):=fun h=>hold (p-1) (t-1) (by omega) (by omega);have hz:p ≠ M+1+(d+1)→Q5 a b (M+1) d (p+1) (f (p+1)):=fun h=>hold (p+1) t (by omega) (by omega);by_cases h0:t=0
  ·exact⟨f (p+1),by simp[h0],Sj (by omega) (by omega) (by omega) (by omega) hy hz (.inr ⟨by omega,rfl⟩) (fun h=>by omega) (fun h=>BZ _)⟩
  ·by_cases h1:t=d+1
   ·exact⟨f (p-1)+1,by simp[h1],Sj (by omega) (by omega) (by omega) (by omega) hy hz (.inl ⟨by omega,rfl⟩) (fun h=>BZ _) (fun h=>by omega)⟩
   ·by_cases h2:f (p-1)<f (p+1)
    ·exact⟨f (p+1),by simp[h0,h1,h2],Sj (by omega) (by omega) (by omega) (by omega) hy hz (.inr ⟨by omega,rfl⟩) (fun h=>by omega) (fun h=>BZ _)⟩
    ·exact⟨f (p-1)+1,by simp[h0,h1,h2],Sj (by omega) (by omega) (by omega) (by omega) hy hz (.inl ⟨by omega,rfl⟩) (fun h=>BZ _) (fun h=>by omega)⟩
theorem wN {a b:List Int} (ha:a.length≤1000000) (hb:b.length≤1000000) {c d p:Nat} {X:A} {M k:Int} {H:Hp}
  (hq:∀ (x y:Nat) st,cF a b c d p x→Q5 a b c d p x→x+c=y+p→Q (.exit 4) ⟨lk ([(0,Cq a),(1,Cq b),(2,iv M),(8,iv a.length),(9,iv b.length),(10,X),(11,iv d),(12,iv k),(13,iv x),(14,iv y)]++st),H⟩):∀ (m x y:Nat),a.length≤x+m→cF a b c d p x→x+c=y+p →
  LoopC (cx Tryz.prog w0 I0 n0) GR Q ⟨lk [(0,Cq a),(1,Cq b),(2,iv M),(8,iv a.length),(9,iv b.length),(10,X),(11,iv d),(12,iv k),(13,iv x),(14,iv y)],H⟩:=by
 intro m;induction m with
 |zero=>
  intro x y hm hS hy;refine Ab Ai GR.eq_1 ?_;simp[show ¬ x<a.length by omega];exact hq x y [(99,bv false)] hS (Wh hS hy fun ⟨h1,_,_⟩=>by omega) hy
 |succ m ih=>
  intro x y hm hS hy;refine Ab Ai GR.eq_1 ?_;by_cases h1:x<a.length
  ·by_cases h2:y<b.length
   ·have e1:=Av x;have e2:=Av y;by_cases h3:a[x]=b[y]
    ·simp[h1,h2,h3,e1,e2];exact ih (x+1) (y+1) (by omega) (Aa1 hS hy h1 h2 h3) (by omega)
    ·simp[h1,h2,h3];exact hq x y [(99,bv false)] hS (Wh hS hy fun ⟨_,_,h⟩=>h3 h) hy
   ·simp[h1,h2];exact hq x y [(99,bv false)] hS (Wh hS hy fun ⟨_,h,_⟩=>h2 h) hy
  ·simp[h1];exact hq x y [(99,bv false)] hS (Wh hS hy fun ⟨h,_,_⟩=>h1 h) hy
theorem xz {a b:List Int} (ha:a.length≤1000000) (hb:b.length≤1000000) {M d u:Nat} (hM:M≤a.length+b.length) (hd:d≤M) (hdd:d≤B7 a b)
  (hq:∀ (f:Nat→Nat) (H:Hp) st,(∀ q,f q≤10000000)→(∀ p s,s≤d→p+d=M+1+2*s→Q5 a b (M+1) d p (f p))→d<B7 a b→H [0]=⟨u,.arr 1 (FL (fun q=>(f q:Nat)) (2*M+3))⟩→Q (.exit 2) ⟨lk ([(0,Cq a),(1,Cq b),(2,iv M),(8,iv a.length),(9,iv b.length),(10,.osl [0] u 1 0 (2*M+3)),(11,iv d)]++st),H⟩)
  (hq2:∀ H,d=B7 a b→Q .ret ⟨lk [(6,iv d),(7,bv true)],H⟩):∀ (m t:Nat) (f:Nat→Nat) (H:Hp),t+m=d+1→(∀ q,f q≤10000000) →
  (∀ p s,s<d→p+d=M+1+1+2*s→Q5 a b (M+1) (d-1) p (f p))→(∀ p s,s<t→p+d=M+1+2*s→Q5 a b (M+1) d p (f p)∧¬ (a.length≤f p∧b.length+p≤f p+(M+1)))→H [0]=⟨u,.arr 1 (FL (fun q=>(f q:Nat)) (2*M+3))⟩ →
  LoopC (cx Tryz.prog w0 I0 n0) GY Q ⟨lk [(0,Cq a),(1,Cq b),(2,iv M),(8,iv a.length),(9,iv b.length),(10,.osl [0] u 1 0 (2*M+3)),(11,iv d),(12,iv (2*(t:Int)-d))],H⟩:=by
 intro m;induction m with
 |zero=>
  intro t f H hm hb0 hold hnew hH;have:t=d+1:=by omega
  subst this;refine Ab Ai GY.eq_1 ?_;have hk:¬ (2*((d+1:Nat):Int)-d≤d):=by omega
  simp only[Int.natCast_add,Int.cast_ofNat_Int] at hk;simp[hk];refine hq f H _ hb0 (fun p s hs hp=>(hnew p s (by omega) hp).1) ?_ hH;by_cases h:d<B7 a b
  ·exact h
  ·exfalso;have hdg:=Zx a b;have he:B7 a b=d:=by omega
   rw[he] at hdg;obtain⟨p,hp⟩:∃ p,a.length+(M+1)=b.length+p:=⟨a.length+(M+1)-b.length,by omega⟩;obtain⟨s,hs⟩:∃ s,a.length+d=b.length+2*s:=⟨(a.length+d-b.length) / 2,by omega⟩;obtain⟨g1,g2⟩:=hnew p s (by omega) (by omega);have g3:=g1.on;have:=oC (y:=f p+(M+1)-p) g1 (by omega) hp (by omega);exact g2 ⟨this.1,by omega⟩
 |succ m ih=>
  intro t f H hm hb0 hold hnew hH;have ht:t≤d:=by omega
  obtain⟨p,hp⟩:∃ p,p+d=M+1+2*t:=⟨M+1+2*t-d,by omega⟩;have hk:(2*(t:Int)-d≤d):=by omega
  have e0:i64.wrap ((M:Int)+1)=(M:Int)+1:=BJ;have e1:i64.wrap ((M:Int)+1+(2*(t:Int)-d))=(p:Int):=AP;have e2:i64.wrap (2*(t:Int)-d+2)=2*((t+1:Nat):Int)-d:=AP;have e3:i64.wrap (-(d:Int)) = -(d:Int):=BJ;have lo:decide (2*(t:Int)-d = -(d:Int))=decide (t=0):=by by_cases h:t=0<;>simp[h]<;>omega
  have hi:decide (2*(t:Int)-d=(d:Int))=decide (t=d):=by by_cases h:t=d<;>simp[h]<;>omega
  have hR:=iL (f:=fun q=>(f q:Nat)) (n:=2*M+3) (k:=p) (lo:=decide (t=0)) (hi:=decide (t=d)) (by omega) (by omega) (by omega) (fun q=>by have:=hb0 q;omega)
  -- the step's place
  obtain⟨x,hx,hS⟩:=zS hd ht hp hold;rw[hx] at hR;have hon:=hS.on;obtain⟨y,hy⟩:∃ y,x+(M+1)=y+p:=⟨x+(M+1)-p,by omega⟩;have hbd:=WO hS hy;have e4:i64.wrap ((x:Int)-(2*(t:Int)-d))=(y:Int):=AP;refine Ab Ai GY.eq_1 ?_;simp[hk,e0,e1,e3,lo,hi];refine Kf [.sl false (FL (fun q=>(f q:Nat)) (2*M+3)),iv p,bv (decide (t=0)),bv (decide (t=d))] (hR.toB rfl) (by simp;exact⟨PD hH,Ad rfl,Ad rfl,Ad rfl⟩) (by simp) ?_;simp[e4];refine LoopC.le (Ao [(0,Cq a),(1,Cq b),(2,iv M),(8,iv a.length),(9,iv b.length),(10,.osl [0] u 1 0 (2*M+3)),(11,iv d),(12,iv (2*(t:Int)-d)),(13,iv x),(14,iv y)] (by simp)) ?_;refine wN ha hb (c:=M+1) (p:=p) (fun x y st hS hG hy=>?_) a.length x y (by omega) hS hy;have hbd:=WO hS hy;have hpl:p<2*M+3:=by omega
  have hpl':(p:Int)<2*(M:Int)+3:=by omega
  by_cases hdone:a.length≤x∧b.length≤y
  ·have he:=rN hG hy hdone.1 hdone.2;simp[hk,e0,e1,e3,lo,hi,hH,hpl,hpl',hdone.1,hdone.2];exact hq2 _ (by omega)
  ·simp[hk,e0,e1,e2,hH,hpl,hpl'];refine⟨fun h1 h2=>absurd ⟨h1,h2⟩ hdone,fun _=>?_⟩;refine ih (t+1) (fun q=>if q=p then x else f q) _ (by omega) (fun q=>?_) (fun p' s hs hp'=>?_) (fun p' s hs hp'=>?_) ?_
   ·show(if q=p then x else f q)≤_;split
    ·omega
    ·exact hb0 q
   ·show Q5 a b (M+1) (d-1) p' (if p'=p then x else f p');rw[if_neg (by omega)];exact hold p' s hs hp'
   ·show Q5 a b (M+1) d p' (if p'=p then x else f p')∧¬ (a.length≤(if p'=p then x else f p')∧b.length+p'≤(if p'=p then x else f p')+(M+1));by_cases e:s=t
    ·have:p'=p:=by omega
     subst this;rw[if_pos rfl];exact⟨hG,fun h=>hdone ⟨h.1,by omega⟩⟩
    ·rw[if_neg (by omega)];exact hnew p' s (by omega) hp'
   ·simp only[Aa,if_true];congr 2;refine Ir fun q _=>?_;split<;>rfl
theorem xK {a b:List Int} (ha:a.length≤1000000) (hb:b.length≤1000000) {M u:Nat} (hM:M≤a.length+b.length)
  (hq:∀ H st,M<B7 a b→Q (.exit 0) ⟨lk st,H⟩) (hq2:∀ H,B7 a b≤M→Q .ret ⟨lk [(6,iv (B7 a b)),(7,bv true)],H⟩):∀ (m d:Nat) (f:Nat→Nat) (H:Hp),d+m=M+1→(∀ q,f q≤10000000)→d≤B7 a b →
  (∀ p s,s<d→p+d=M+1+1+2*s→Q5 a b (M+1) (d-1) p (f p))→H [0]=⟨u,.arr 1 (FL (fun q=>(f q:Nat)) (2*M+3))⟩ →
  LoopC (cx Tryz.prog w0 I0 n0) GP Q ⟨lk [(0,Cq a),(1,Cq b),(2,iv M),(8,iv a.length),(9,iv b.length),(10,.osl [0] u 1 0 (2*M+3)),(11,iv d)],H⟩:=by
 intro m;induction m with
 |zero=>
  intro d f H hm hb0 hdd hold hH;have:d=M+1:=by omega
  subst this;refine Ab Ai GP.eq_1 ?_;have hk:¬ (((M+1:Nat):Int)≤M):=by omega
  simp only[Int.natCast_add,Int.cast_ofNat_Int] at hk;simp[hk];exact hq H _ (by omega)
 |succ m ih=>
  intro d f H hm hb0 hdd hold hH;have e1:=Av d;have e3:i64.wrap (-(d:Int)) = -(d:Int):=BJ;have hd:d≤M:=by omega
  refine Ab Ai GP.eq_1 ?_;simp[hd,e3];refine LoopC.le (Ao [(0,Cq a),(1,Cq b),(2,iv M),(8,iv a.length),(9,iv b.length),(10,.osl [0] u 1 0 (2*M+3)),(11,iv d),(12,iv (2*((0:Nat):Int)-d))] (by simp)) ?_;refine xz ha hb hM hd hdd (fun f' H' st g1 g2 g3 g4=>?_) (fun H' he=>?_) (d+1) 0 f H (by omega) hb0 hold (fun p s hs=>by omega) hH
  ·simp[e1];refine ih (d+1) f' H' (by omega) g1 (by omega) (fun p s hs hp=>?_) g4;exact g2 p s (by omega) (by omega)
  ·simp;have:=hq2 H' (by omega);rw[← he] at this;exact this
theorem pj {a b:List Int} (ha:a.length≤1000000) (hb:b.length≤1000000) {M0:Int} (hM0:B9 M0):∃ d:Int,G.Spec Tryz.prog 175 [Cq a,Cq b,iv M0] (.tup [iv d,bv (decide ((B7 a b:Int)≤M0))]):=by
 refine⟨if (B7 a b:Int)≤M0 then B7 a b else 0,?_⟩;refine Aj X7 (by simp) fun w0 I0=>?_;have hdg:=Zx a b;have hdl:B7 a b≤a.length+b.length:=by unfold B7;omega
 have e1:i64.wrap ((a.length:Int)+b.length)=((a.length+b.length:Nat):Int):=AP;have e2:i64.wrap ((a.length:Int)-b.length)=(a.length:Int)-b.length:=BJ;have e3:i64.wrap ((b.length:Int)-a.length)=(b.length:Int)-a.length:=BJ;obtain⟨M1,hM1⟩:∃ M1:Int,min (max M0 (-1)) ((a.length:Int)+b.length)=M1:=⟨_,rfl⟩;have hle:((B7 a b:Int)≤M0) ↔ ((B7 a b:Int)≤M1):=by omega
 have hMb:M1≤(a.length:Int)+b.length:=by omega
 unfold Pf;simp[e1,e2,e3,hM1];refine⟨fun h=>?_,fun h1 h2 h3=>?_⟩
 ·have hno:¬ (B7 a b:Int)≤M0:=by omega
  simp[hno];exact Ad rfl
 ·obtain⟨M,rfl⟩:∃ M:Nat,M1=M:=⟨M1.toNat,by omega⟩;have e4:i64.wrap (2*(M:Int))=2*(M:Int):=BJ;have e5:i64.wrap (2*(M:Int)+3)=((2*M+3:Nat):Int):=AP;have e6:(2*(M:Int)+3).toNat=2*M+3:=by omega
  rw[e4,e5];refine⟨by omega,?_⟩;refine LoopC.le (Ao [(0,Cq a),(1,Cq b),(2,iv M),(8,iv a.length),(9,iv b.length),(10,.osl [0] 1 1 0 (2*M+3)),(11,iv (0:Nat))] (by simp[e6])) ?_;refine xK ha hb (by omega) (fun H st h=>?_) (fun H h=>?_) (M+1) 0 (fun _=>0) _ (by omega) (fun q=>by omega) (by omega) (fun p s hs=>by omega) (by simp[OB,e6])
  ·have hno:¬ (B7 a b:Int)≤M0:=by omega
   simp[hno];exact Ad rfl
  ·have hyes:(B7 a b:Int)≤M0:=by omega
   simp[hyes];exact Ad rfl
def He (s:Sp):List A:=[iv s.k,iv s.n]
def Dp (s:Sp):A:=.agg (He s)
@[simp] theorem AbI {s:Sp}:(Dp s).cells=He s:=rfl
@[simp] theorem AfR {s:Sp}:(He s).length=2:=rfl
theorem kW {l:List Sp}:Gh 2 (l.map Dp)=true:=by rw[I7];simp
def xo (l:List Sp) (v:Nat):Fam:=⟨fun r p=>if p=[] then ⟨1,.cells [.osl (r::[0]) v 2 0 l.length]⟩ else if p=[0] then ⟨v,.arr 2 (l.map Dp)⟩ else ⟨0,.none⟩,fun {g δ r r'} hg hd p=>by
  by_cases h1:p=[]
  ·rw[if_pos h1,if_pos h1];refine Fam.cells_ren ?_;simp[A.renL,A.ren,hg,hd]
  ·rw[if_neg h1,if_neg h1];by_cases h2:p=[0]
   ·rw[if_pos h2];refine Fam.arr_ren ?_;have e:∀ x:Sp,(Dp x).ren g δ=Dp x:=fun x=>by simp[Dp,He,A.ren,A.renL]
    simp only[Cv,List.map_map];refine List.map_congr_left fun x _=>?_;exact e x
   ·rw[if_neg h2];rfl,fun {D r} hD p=>by
  by_cases h1:p=[]
  ·rw[if_pos h1];simp[Ob.refs,A.refsL,A.refs,hD]
  ·rw[if_neg h1];by_cases h2:p=[0]
   ·rw[if_pos h2];simp only[Ob.refs,refsL_iff];intro y hy;obtain⟨x,_,rfl⟩:=List.mem_map.1 hy;simp[A.refs,A.refsL,Dp,He]
   ·rw[if_neg h2];trivial⟩
@[simp] theorem Ajc {l:List Sp} {v r:Nat} {p:Nm}:(xo l v).F r p=if p=[] then ⟨1,.cells [.osl (r::[0]) v 2 0 l.length]⟩ else if p=[0] then ⟨v,.arr 2 (l.map Dp)⟩ else ⟨0,.none⟩:=rfl
abbrev fdP (r:Nat):A:=.pob [r] 1 0
theorem HL (l:List Sp) (v:Nat) (hl:l.length≤100000000) (k n:Nat):Bh Tryz.prog 220 (fun r=>[fdP r,iv k,iv n]) (xo l v) (fun _=>.tup []) (xo (l++fl k n) (v+(fl k n).length)):=by
 refine AE TT (by simp) (Af AJ (Af Au (Af Au Am))) (Bz Am) fun w0 I0 M0 m0=>?_;unfold Mw;by_cases h:0<n
 ·rw[L0 h];simp[h,kW,Aa];refine⟨by omega,?_⟩;refine AX rfl rfl (fun p=>?_);by_cases h1:p=[]<;>by_cases h2:p=[0]<;>simp[h1,h2,Aa,Dp,He]
  rw[AL (by simp)]
 ·have h0:n=0:=by omega
  subst h0;simp;refine AX rfl rfl (fun p=>by simp)
def Q4 (x:Int) (b:List Int):List Sp:=if FV x b<b.length then fl 2 (FV x b)++(fl 0 1++fl 2 (b.length-FV x b-1)) else fl 1 1++fl 2 b.length
theorem jm (x:Int) (b:List Int):AO (Q4 x b)=GG [x] b:=by
 rw[tN];unfold Q4;split<;>simp
theorem ER (k n:Nat):(fl k n).length≤1:=by unfold fl;split<;>simp
theorem rq (x:Int) (b:List Int):(Q4 x b).length≤3:=by
 unfold Q4;have:=ER 2 (FV x b);have:=ER 0 1;have:=ER 1 1;have:=ER 2 (b.length-FV x b-1);have:=ER 2 b.length;split<;>simp<;>omega
theorem vW {x:Int} {b:List Int} (hb:b.length≤1000000):∀ s,s ∈ Q4 x b→s.ok:=by
 intro s hs;have:=V4 x b;unfold Q4 at hs;split at hs<;>simp only[List.mem_append] at hs
 ·rcases hs with hs | hs | hs
  ·exact XO (by omega) (by omega) s hs
  ·exact XO (by omega) (by omega) s hs
  ·exact XO (by omega) (by omega) s hs
 ·rcases hs with hs | hs
  ·exact XO (by omega) (by omega) s hs
  ·exact XO (by omega) (by omega) s hs
theorem cM {x:Int}:∀ {b:List Int} {j:Nat},j≤FV x b→(h:j<b.length)→(b[j]=x ↔ FV x b=j)
 |[],j,_,h=>by simp at h
 |y::b,0,_,h=>by
  unfold FV;by_cases e:x=y
  ·simp[e]
  ·simp[e];exact fun h=>e h.symm
 |y::b,j+1,hj,h=>by
  unfold FV at hj ⊢;by_cases e:x=y
  ·rw[if_pos e] at hj;omega
  ·rw[if_neg e] at hj ⊢;have:=cM (x:=x) (b:=b) (j:=j) (by omega) (by simpa using h);simp only[List.getElem_cons_succ];omega
section
variable {n0:Nat} {w0:World} {I0:Nat→Prop} {M0:Nm→Nat→Prop} {m0:Mu} {Q:Exit→Sta→Prop}
theorem zG {l:List Sp} {v:Nat} {x:Int} {b:List Int} {H:Hp} (hl:l.length≤10000000) (hb:b.length≤1000000) (hH:∀ p,H (0::p)=(xo l v).F 0 p)
  (hq:FV x b=b.length→∀ st,Q (.exit 0) ⟨lk ([(0,fdP 0),(1,iv x),(2,Cq b)]++st),H⟩)
  (hq2:∀ H',FV x b<b.length→(∀ p,H' (0::p)=(xo (l++Q4 x b) (v+(Q4 x b).length)).F 0 p)→∀ st,Q .ret ⟨lk st,H'⟩):∀ (m j:Nat),j+m=b.length→j≤FV x b →
  LoopC (DG Tryz.prog w0 I0 M0 n0 m0) Fw Q ⟨lk [(0,fdP 0),(1,iv x),(2,Cq b),(8,Cq b),(9,iv b.length),(10,iv j)],H⟩:=by
 have hle:=V4 x b;intro m;induction m with
 |zero=>
  intro j hm hj;refine Ab Ai Fw.eq_1 ?_;have:j=b.length:=by omega
  subst this;simp;exact hq (by omega) [(8,Cq b),(9,iv b.length),(10,iv b.length),(11,bv false)]
 |succ m ih=>
  intro j hm hj;have hlt:j<b.length:=by omega
  have e1:=Av j;have hd:=cM hj hlt;refine Ab Ai Fw.eq_1 ?_;by_cases h:x=b[j]
  ·have hf:=hd.1 h.symm;have e2:i64.wrap (i64.wrap ((b.length:Int)-j)-1)=((b.length-j-1:Nat):Int):=by rw[Al (n:=(b.length:Int)-j) (by omega) (by omega),Al (by omega) (by omega)];omega
   have A1:=HL l v (by omega) 2 j;have l1:=ER 2 j;have l2:=ER 0 1;have A2:=HL (l++fl 2 j) (v+(fl 2 j).length) (by simp;omega) 0 1;have A3:=HL (l++fl 2 j++fl 0 1) (v+(fl 2 j).length+(fl 0 1).length) (by simp;omega) 2 (b.length-j-1);simp[hlt,h];refine Aw 0 A1 hH (by simp) (by simp) ?_;simp;refine Aw 0 A2 (fun p=>by simp) (by simp) (by simp) ?_;simp[e2];refine Aw 0 A3 (fun p=>by simp) (by simp) (by simp) ?_;simp;refine hq2 _ (by omega) (fun p=>?_) _;have eo:Q4 x b=fl 2 j++(fl 0 1++fl 2 (b.length-j-1)):=by unfold Q4;rw[if_pos (by omega),hf]
   rw[eo];simp[Nat.add_assoc]
  ·have hne:¬ FV x b=j:=fun e=>h (hd.2 e).symm;simp[hlt,h,e1];exact ih (j+1) (by omega) (by omega)
end
theorem sf (l:List Sp) (v:Nat) (hl:l.length≤10000000) (x:Int) (b:List Int) (hb:b.length≤1000000):Bh Tryz.prog 221 (fun r=>[fdP r,iv x,Cq b]) (xo l v) (fun _=>.tup []) (xo (l++Q4 x b) (v+(Q4 x b).length)):=by
 refine AE Uc (by simp) (Af AJ (Af Au (Af Dl Am))) (Bz Am) fun w0 I0 M0 m0=>?_;unfold Mt;simp;refine LoopC.le (Ao [(0,fdP 0),(1,iv x),(2,Cq b),(8,Cq b),(9,iv b.length),(10,iv (0:Nat))] (by simp)) ?_;refine zG (l:=l) (v:=v) hl hb (fun p=>by simp) (fun hn st=>?_) (fun H' hf hH st=>?_) b.length 0 (by omega) (by omega)
 ·have A1:=HL l v (by omega) 1 1;have l1:=ER 1 1;have A2:=HL (l++fl 1 1) (v+(fl 1 1).length) (by simp;omega) 2 b.length;simp;refine Aw 0 A1 (fun p=>by simp) (by simp) (by simp) ?_;simp;refine Aw 0 A2 (fun p=>by simp) (by simp) (by simp) ?_;simp;have eo:Q4 x b=fl 1 1++fl 2 b.length:=by unfold Q4;rw[if_neg (by omega)]
  rw[eo];refine AX rfl rfl (fun p=>by simp[Nat.add_assoc])
 ·simp;exact AM rfl rfl hH
theorem Zt {P:Sp→Prop} {l m:List Sp} (h1:∀ s,s ∈ l→P s) (h2:∀ s,s ∈ m→P s):∀ s,s ∈ l++m→P s:=fun s hs=>(List.mem_append.1 hs).elim (h1 s) (h2 s)
theorem rA:∀ (n:Nat) (a b:List Int),a.length≤n→a.length≤1000000→b.length≤1000000→∃ sts:List Sp,AO sts=GG a b∧(∀ s,s ∈ sts→s.ok)∧sts.length≤max 1 (3*a.length) ∧
  ∀ (l:List Sp) (v:Nat),l.length+3*a.length≤9000000→Bh Tryz.prog 176 (fun r=>[fdP r,Cq a,Cq b]) (xo l v) (fun _=>.tup []) (xo (l++sts) (v+sts.length)):=by
 intro n;induction n with
 |zero=>
  intro a b hn ha hb;have:=List.eq_nil_of_length_eq_zero (by omega:a.length=0);subst this;refine⟨fl 2 b.length,by rw[uy];simp,XO (by omega) (by omega),by have:=ER 2 b.length;simp;omega,fun l v hl=>?_⟩;have A1:=HL l v (by simp at hl;omega) 1 0;have A2:=HL (l++fl 1 0) (v+(fl 1 0).length) (by simp at hl;simp;omega) 2 b.length;refine AE Fy (by simp) (Af AJ (Af Dl (Af Dl Am))) (Bz Am) fun w0 I0 M0 m0=>?_;unfold D3;simp;refine Aw 0 A1 (fun p=>by simp) (by simp) (by simp) ?_;simp;refine Aw 0 A2 (fun p=>by simp) (by simp) (by simp) ?_;simp;refine AX rfl rfl (fun p=>by simp)
 |succ n ih=>
  intro a b hn ha hb;by_cases hb0:b=[]
  ·subst hb0;refine⟨fl 1 a.length,by rw[oL];simp,XO (by omega) (by omega),by have:=ER 1 a.length;omega,fun l v hl=>?_⟩;have:=ER 1 a.length;have A1:=HL l v (by omega) 1 a.length;have A2:=HL (l++fl 1 a.length) (v+(fl 1 a.length).length) (by simp;omega) 2 0;refine AE Fy (by simp) (Af AJ (Af Dl (Af Dl Am))) (Bz Am) fun w0 I0 M0 m0=>?_;unfold D3;simp;refine Aw 0 A1 (fun p=>by simp) (by simp) (by simp) ?_;simp;refine Aw 0 A2 (fun p=>by simp) (by simp) (by simp) ?_;simp;refine AX rfl rfl (fun p=>by simp)
  have hbl:0<b.length:=List.length_pos_iff.2 hb0
  match a,hn,ha with
  |[],hn,ha=>
   obtain⟨sts,h⟩:=ih [] b (by simp) ha hb;exact⟨sts,h⟩
  |[x],hn,ha=>
   refine⟨Q4 x b,jm x b,vW hb,by have:=rq x b;simp;omega,fun l v hl=>?_⟩;have A1:=sf l v (by simp at hl;omega) x b hb;refine AE Fy (by simp) (Af AJ (Af Dl (Af Dl Am))) (Bz Am) fun w0 I0 M0 m0=>?_;unfold D3;simp[hb0];refine Aw 0 A1 (fun p=>by simp) (by simp) (by simp) ?_;simp;refine AX rfl rfl (fun p=>by simp)
  |x::y::a',hn,ha=>
   have e0:∃ a:List Int,a=x::y::a':=⟨_,rfl⟩;obtain⟨a,ea⟩:=e0;rw[← ea] at hn ha ⊢;have hal:2≤a.length:=by rw[ea];simp
   clear ea;obtain⟨h,eh⟩:∃ h,a.length / 2=h:=⟨_,rfl⟩;have hh:h≤a.length:=by omega
   obtain⟨w1,w2,w3⟩:=FY (a:=a) (b:=b) hh;obtain⟨s1,u1,o1,n1,F1⟩:=ih (a.take h) (b.take (AW a b h)) (by simp;omega) (by simp;omega) (by simp;omega);obtain⟨s2,u2,o2,n2,F2⟩:=ih (a.drop h) (b.drop (AW a b h)) (by simp;omega) (by simp;omega) (by simp;omega);simp at n1 n2;refine⟨s1++s2,by rw[PE,u1,u2,← pE a b hh],Zt o1 o2,by simp;omega,fun l v hl=>?_⟩;have G1:=F1 l v (by simp;omega);have G2:=F2 (l++s1) (v+s1.length) (by simp;omega);have hS:=jk (a:=a) (b:=b) hh ha hb;refine AE Fy (by simp) (Af AJ (Af Dl (Af Dl Am))) (Bz Am) fun w0 I0 M0 m0=>?_;have c1:¬ a=[]:=fun e=>by rw[e] at hal;simp at hal
   have c2:¬ a.length=1:=by omega
   have c3:¬ (a.length:Int)=1:=by omega
   have c4:((a.length:Int)).tdiv 2=(h:Int):=by rw[Int.tdiv_eq_ediv_of_nonneg (by omega)];omega
   have c5:i64.wrap (h:Int)=(h:Int):=BJ;unfold D3;simp[hb0,c1,c2,c3,c4,c5];refine Ae hS (by simp) ?_;simp[hh,w2];refine Aw 0 G1 (fun p=>by simp) (by simp) (by simp) ?_;simp[hh,w2];refine Aw 0 G2 (fun p=>by simp) (by simp[AL]) (by simp) ?_;simp;refine AX rfl rfl (fun p=>by simp[Nat.add_assoc])
def jy (g:Nat→Nat):List A:=[iv (g 0),iv (g 1),iv (g 2)]
def yn (l:List Sp) (v:Nat) (g:Nat→Nat):Fam:=⟨fun r p=>if p=[] then ⟨1,.cells [.osl (r::[0]) v 2 0 l.length]⟩ else if p=[0] then ⟨v,.arr 2 (l.map Dp)⟩ else if p=[1] then ⟨1,.cells (jy g)⟩ else ⟨0,.none⟩,fun {γ δ r r'} hg hd p=>by
  by_cases h1:p=[]
  ·rw[if_pos h1,if_pos h1];refine Fam.cells_ren ?_;simp[A.renL,A.ren,hg,hd]
  ·rw[if_neg h1,if_neg h1];by_cases h2:p=[0]
   ·rw[if_pos h2];refine Fam.arr_ren ?_;have e:∀ x:Sp,(Dp x).ren γ δ=Dp x:=fun x=>by simp[Dp,He,A.ren,A.renL]
    simp only[Cv,List.map_map];refine List.map_congr_left fun x _=>?_;exact e x
   ·rw[if_neg h2];by_cases h3:p=[1]
    ·rw[if_pos h3];refine Fam.cells_ren ?_;simp[A.renL,A.ren,jy]
    ·rw[if_neg h3];rfl,fun {D r} hD p=>by
  by_cases h1:p=[]
  ·rw[if_pos h1];simp[Ob.refs,A.refsL,A.refs,hD]
  ·rw[if_neg h1];by_cases h2:p=[0]
   ·rw[if_pos h2];simp only[Ob.refs,refsL_iff];intro y hy;obtain⟨x,_,rfl⟩:=List.mem_map.1 hy;simp[A.refs,A.refsL,Dp,He]
   ·rw[if_neg h2];by_cases h3:p=[1]
    ·rw[if_pos h3];simp[Ob.refs,A.refsL,A.refs,jy]
    ·rw[if_neg h3];trivial⟩
@[simp] theorem Ai8 {l:List Sp} {v r:Nat} {g:Nat→Nat} {p:Nm}:(yn l v g).F r p=if p=[] then ⟨1,.cells [.osl (r::[0]) v 2 0 l.length]⟩ else if p=[0] then ⟨v,.arr 2 (l.map Dp)⟩ else if p=[1] then ⟨1,.cells (jy g)⟩ else ⟨0,.none⟩:=rfl
def Vc:List Nat→(Nat→Nat)→List Sp
 |[],_=>[]
 |k::ks,g=>fl k (g k)++Vc ks (fun q=>if q=k then 0 else g q)
def Sm:List Nat→(Nat→Nat)→Nat→Nat
 |[],g=>g
 |k::ks,g=>Sm ks (fun q=>if q=k then 0 else g q)
abbrev nvs (ks:List Nat):A:=.sl true (ks.map fun k:Nat=>iv (k:Int))
theorem iR (s:Sp):G.Spec Tryz.prog 178 [Dp s] (bv (decide (s.k≤2∧1≤s.n∧s.n≤1048576))):=by
 refine Aj PX (by simp) fun w0 I0=>?_;unfold JJ;have m0:(0:Int)≤(s.k:Int):=by omega
 by_cases h1:s.k≤2
 ·by_cases h2:1≤s.n
  ·by_cases h3:s.n≤1048576
   ·simp[Dp,He,m0,h1,h2,h3,show(s.k:Int)≤2 by omega,show(1:Int)≤s.n by omega,show(s.n:Int)≤1048576 by omega];exact Ad rfl
   ·simp[Dp,He,m0,h1,h2,h3,show(s.k:Int)≤2 by omega,show(1:Int)≤s.n by omega,show ¬ (s.n:Int)≤1048576 by omega];exact Ad rfl
  ·simp[Dp,He,m0,h1,h2,show(s.k:Int)≤2 by omega,show ¬ (1:Int)≤s.n by omega];exact Bc (by simp)
 ·simp[Dp,He,m0,h1,show ¬ (s.k:Int)≤2 by omega];exact Ad rfl
section
variable {n0:Nat} {w0:World} {I0:Nat→Prop} {M0:Nm→Nat→Prop} {m0:Mu} {Q:Exit→Sta→Prop}
theorem so {ks:List Nat} (hks:∀ k,k ∈ ks→k≤2) (hkl:ks.length≤1000) {l0:List Sp} {v0:Nat} {g0:Nat→Nat} (hq:∀ H' st,(∀ p,H' (0::p)=(yn (l0++Vc ks g0) (v0+(Vc ks g0).length) (Sm ks g0)).F 0 p)→Q (.exit 0) ⟨lk st,H'⟩):∀ (m j:Nat) (l:List Sp) (v:Nat) (g:Nat→Nat) (H:Hp),j+m=ks.length→l.length+m≤100000000→(∀ p,H (0::p)=(yn l v g).F 0 p)→l0++Vc ks g0=l++Vc (ks.drop j) g→v0+(Vc ks g0).length=v+(Vc (ks.drop j) g).length→Sm ks g0=Sm (ks.drop j) g →
  LoopC (DG Tryz.prog w0 I0 M0 n0 m0) EX Q ⟨lk [(1,.pob [0,1] 1 0),(2,.pob [0] 1 0),(6,nvs ks),(7,iv ks.length),(8,iv j)],H⟩:=by
 intro m;induction m with
 |zero=>
  intro j l v g H hm hl hH e1 e2 e3;refine Ab Ai EX.eq_1 ?_;have:j=ks.length:=by omega
  subst this;rw[List.drop_length] at e1 e2 e3;simp;refine hq H _ fun p=>?_;rw[e1,e2,e3,hH];simp[Vc,Sm]
 |succ m ih=>
  intro j l v g H hm hl hH e1 e2 e3;have hlt:j<ks.length:=by omega
  have ew:=Av j;have hd:ks.drop j=ks[j]::ks.drop (j+1):=(List.getElem_cons_drop hlt).symm;rw[hd] at e1 e2 e3;have hk:=hks _ (Bg hlt);generalize hkk:ks[j]=k at *;simp only[Vc,Sm] at e1 e2 e3;have hH0:=hH [];have hH1:=hH [0];have hH2:=hH [1];simp at hH0 hH1 hH2;refine Ab Ai EX.eq_1 ?_;have hk3:k=0∨k=1∨k=2:=by omega
  by_cases h:0<g k
  ·rw[L0 h] at e1 e2;have next:=fun (H':Hp) hF=>ih (j+1) (l++[⟨k,g k⟩]) (v+1) (fun q=>if q=k then 0 else g q) H' (by omega) (by simp;omega) hF (by rw[e1];simp) (by rw[e2];simp;omega) e3
   rcases hk3 with rfl | rfl | rfl;all_goals
    simp[hlt,hkk,hH0,hH1,hH2,jy,h,ew,Aa,kW];refine⟨by omega,?_⟩;refine next _ (fun p=>?_)
    by_cases h1:p=[]
    ·subst h1;simp[Aa]
    ·by_cases h2:p=[0]
     ·subst h2;simp[Aa,Dp,He,AL]
     ·by_cases h3:p=[1]
      ·subst h3;simp[Aa,jy]
      ·simp[h1,h2,h3,Aa,hH]
  ·have h0:g k=0:=by omega
   rw[h0] at e1 e2;rcases hk3 with rfl | rfl | rfl;all_goals
    simp[hlt,hkk,hH0,hH1,hH2,jy,h0,ew,Aa];refine ih (j+1) l v _ _ (by omega) (by omega) (fun p=>?_) (by rw[e1];simp) (by rw[e2];simp) e3;by_cases h1:p=[]
    ·subst h1;simp[Aa,hH0]
    ·by_cases h2:p=[0]
     ·subst h2;simp[Aa,hH1]
     ·by_cases h3:p=[1]
      ·subst h3;simp[Aa,jy]
      ·simp[h1,h2,h3,Aa,hH]
end
theorem NP {ks:List Nat} (hks:∀ k,k ∈ ks→k≤2) (hkl:ks.length≤1000) (l:List Sp) (v:Nat) (g:Nat→Nat) (hl:l.length≤10000000):Bh Tryz.prog 177 (fun r=>[nvs ks,.pob (r::[1]) 1 0,.pob [r] 1 0]) (yn l v g) (fun _=>.tup []) (yn (l++Vc ks g) (v+(Vc ks g).length) (Sm ks g)):=by
 refine AE SQ (by simp) (Af Dl (Af AJ (Af AJ Am))) (Bz Am) fun w0 I0 M0 m0=>?_;unfold LC;simp;refine LoopC.le (Ao [(1,.pob [0,1] 1 0),(2,.pob [0] 1 0),(6,nvs ks),(7,iv ks.length),(8,iv (0:Nat))] (by simp)) ?_;refine so hks hkl (l0:=l) (v0:=v) (g0:=g) (fun H' st hH=>?_) ks.length 0 l v g _ (by omega) (by omega) (fun p=>by simp) (by simp) (by simp) (by simp);simp;exact AX rfl rfl hH
abbrev vF:A:=.fnc 177 [] [.pob [0,1] 1 0,.pob [0] 1 0]
abbrev Od (l:List Sp):A:=.sl false (l.map Dp)
theorem vI (g:Nat→Nat):RQ [] (g 0) (g 1) (g 2)=Vc [0,1,2] g:=by simp[RQ,Vc]
theorem Wa (ks:List Nat) (g:Nat→Nat):(Vc ks g).length≤ks.length:=by
 induction ks generalizing g with
 |nil=>simp[Vc]
 |cons k ks ih=>
  have:=ih (fun q=>if q=k then 0 else g q);have:=ER k (g k);simp[Vc];omega
theorem ar:∀ (ks:List Nat) (g:Nat→Nat) (B q:Nat),(∀ q,g q≤B)→Sm ks g q≤B
 |[],g,B,q,h=>h q
 |k::ks,g,B,q,h=>ar ks _ B q fun q=>by
  show(if q=k then 0 else g q)≤B;split
  ·omega
  ·exact h q
theorem xt {n0:Nat} {w0:World} {I0:Nat→Prop} {Q:Exit→Sta→Prop} {all:List Sp} (hok:∀ s,s ∈ all→s.may) (hal:all.length≤1000000) {R:List Sp}
  (hq:∀ (H':Hp) (out:List Sp) (v:Nat) (g:Nat→Nat) st,(∀ p,H' (0::p)=(yn out v g).F 0 p)→out++Vc [0,1,2] g=R→out.length≤2000000→Q (.exit 0) ⟨lk ([(3,.pob [0] 1 0),(4,.pob [0,1] 1 0),(5,vF)]++st),H'⟩):∀ (m i:Nat) (out:List Sp) (v:Nat) (g:Nat→Nat) (H:Hp),i+m=all.length→out.length≤2*i→(∀ q,g q≤i*1048576)→(g 0=0∨(g 1=0∧g 2=0))→(∀ p,H (0::p)=(yn out v g).F 0 p)→out++RQ (AO (all.drop i)) (g 0) (g 1) (g 2)=R →
  LoopC (cx Tryz.prog w0 I0 n0) Ew Q ⟨lk [(3,.pob [0] 1 0),(4,.pob [0,1] 1 0),(5,vF),(9,Od all),(10,iv all.length),(11,iv i)],H⟩:=by
 intro m;induction m with
 |zero=>
  intro i out v g H hm hl hg h01 hH hR;refine Ab Ai Ew.eq_1 ?_;have:i=all.length:=by omega
  subst this;rw[List.drop_length,ED,vI] at hR;simp;exact hq H out v g [(9,Od all),(10,iv all.length),(11,iv all.length),(12,bv false)] hH hR (by omega)
 |succ m ih=>
  intro i out v g H hm hl hg h01 hH hR;have hlt:i<all.length:=by omega
  have ew:=Av i;have hd:all.drop i=all[i]::all.drop (i+1):=(List.getElem_cons_drop hlt).symm;have hs:=hok _ (Bg hlt);rw[hd,Az] at hR;generalize hss:all[i]=s at *;have hsr:=iR s;have hg0:=hg 0;have hg1:=hg 1;have hg2:=hg 2;refine Ab Ai Ew.eq_1 ?_;have hspC:He s=[iv s.k,iv s.n]:=rfl;simp[hlt,hss,hspC];refine Ae hsr (by simp[Dp,He,Aa]) ?_;by_cases hn:1≤s.n
  ·have hdec:decide (s.k≤2∧1≤s.n∧s.n≤1048576)=true:=by have:=hs.1;have:=hs.2;simp;omega
   simp[hdec,Aa];have next:∀ (o2:List Sp) (v2:Nat) (g2:Nat→Nat) (H2:Hp),o2.length≤out.length+2→(∀ q,g2 q≤(i+1)*1048576)→(g2 0=0∨(g2 1=0∧g2 2=0))→(∀ p,H2 (0::p)=(yn o2 v2 g2).F 0 p)→o2++RQ (AO (all.drop (i+1))) (g2 0) (g2 1) (g2 2)=R→LoopC (cx Tryz.prog w0 I0 n0) Ew Q ⟨lk [(3,.pob [0] 1 0),(4,.pob [0,1] 1 0),(5,vF),(9,Od all),(10,iv all.length),(11,iv (i+1:Nat))],H2⟩:=fun o2 v2 g2 H2 h1 h2 h3 h4 h5=>ih (i+1) o2 v2 g2 H2 (by omega) (by omega) h2 h3 h4 h5
   have hk3:s.k=0∨s.k=1∨s.k=2:=by have:=hs.1;omega
   rcases hk3 with hk | hk | hk
   ·have F1:=NP (ks:=[1,2]) (by simp) (by simp) out v g (by omega);have hlen:=Wa [1,2] g;rw[hk,Ya s.n _ _ _ _ (by omega) (by omega)] at hR;have ev:i64.wrap ((g 0:Int)+s.n)=((g 0+s.n:Nat):Int):=by have:=hs.2;rw[Al (by omega) (by omega)];omega
    simp[hk];refine Wc 0 rfl F1 (fun p=>by simp[Aa,hH]) (by simp) (by simp) ?_;simp;rw[Gb.eq_1];simp[Aa,jy,Sm,ew,ev,hk];refine next (out++Vc [1,2] g) (v+(Vc [1,2] g).length) (fun q=>if q=0 then g 0+s.n else Sm [1,2] g q) _ (by simp at hlen;simp;omega) (fun q=>?_) ?_ (fun p=>?_) ?_
    ·have hb:∀ (ks:List Nat) (g:Nat→Nat) (B q:Nat),(∀ q,g q≤B)→Sm ks g q≤B:=ar;show(if q=0 then g 0+s.n else Sm [1,2] g q)≤_;have h3:=hs.2;split
     ·omega
     ·exact Nat.le_trans (hb _ g _ q hg) (Nat.mul_le_mul_right _ (by omega))
    ·simp[Sm]
    ·by_cases h1:p=[]
     ·subst h1;simp[Aa]
     ·by_cases h2:p=[0]
      ·subst h2;simp[Aa]
      ·by_cases h3:p=[1]
       ·subst h3;simp[Aa,jy,Sm]
       ·simp[h1,h2,h3,Aa]
    ·simp only[Sm,Vc] at hR ⊢;simpa using hR
   ·have F1:=NP (ks:=[0]) (by simp) (by simp) out v g (by omega);have hlen:=Wa [0] g;rw[hk,V2 s.n _ _ _ _ (by omega)] at hR;have ev:i64.wrap ((g 1:Int)+s.n)=((g 1+s.n:Nat):Int):=by have:=hs.2;rw[Al (by omega) (by omega)];omega
    simp[hk];refine Wc 0 rfl F1 (fun p=>by simp[Aa,hH]) (by simp) (by simp) ?_;simp;rw[Gb.eq_1];simp[Aa,jy,Sm,ew,ev,hk];refine next (out++Vc [0] g) (v+(Vc [0] g).length) (fun q=>if q=1 then g 1+s.n else Sm [0] g q) _ (by simp at hlen;simp;omega) (fun q=>?_) ?_ (fun p=>?_) ?_
    ·have hb:∀ (ks:List Nat) (g:Nat→Nat) (B q:Nat),(∀ q,g q≤B)→Sm ks g q≤B:=ar;show(if q=1 then g 1+s.n else Sm [0] g q)≤_;have h3:=hs.2;split
     ·omega
     ·exact Nat.le_trans (hb _ g _ q hg) (Nat.mul_le_mul_right _ (by omega))
    ·simp[Sm]
    ·by_cases h1:p=[]
     ·subst h1;simp[Aa]
     ·by_cases h2:p=[0]
      ·subst h2;simp[Aa]
      ·by_cases h3:p=[1]
       ·subst h3;simp[Aa,jy,Sm]
       ·simp[h1,h2,h3,Aa]
    ·simp only[Sm,Vc] at hR ⊢;simpa using hR
   ·have F1:=NP (ks:=[0]) (by simp) (by simp) out v g (by omega);have hlen:=Wa [0] g;rw[hk,Tl s.n _ _ _ _ (by omega)] at hR;have ev:i64.wrap ((g 2:Int)+s.n)=((g 2+s.n:Nat):Int):=by have:=hs.2;rw[Al (by omega) (by omega)];omega
    simp[hk];refine Wc 0 rfl F1 (fun p=>by simp[Aa,hH]) (by simp) (by simp) ?_;simp;rw[Gb.eq_1];simp[Aa,jy,Sm,ew,ev,hk];refine next (out++Vc [0] g) (v+(Vc [0] g).length) (fun q=>if q=2 then g 2+s.n else Sm [0] g q) _ (by simp at hlen;simp;omega) (fun q=>?_) ?_ (fun p=>?_) ?_
    ·have hb:∀ (ks:List Nat) (g:Nat→Nat) (B q:Nat),(∀ q,g q≤B)→Sm ks g q≤B:=ar;show(if q=2 then g 2+s.n else Sm [0] g q)≤_;have h3:=hs.2;split
     ·omega
     ·exact Nat.le_trans (hb _ g _ q hg) (Nat.mul_le_mul_right _ (by omega))
    ·simp[Sm]
    ·by_cases h1:p=[]
     ·subst h1;simp[Aa]
     ·by_cases h2:p=[0]
      ·subst h2;simp[Aa]
      ·by_cases h3:p=[1]
       ·subst h3;simp[Aa,jy,Sm]
       ·simp[h1,h2,h3,Aa]
    ·simp only[Sm,Vc] at hR ⊢;simpa using hR
  ·have hdec:decide (s.k≤2∧1≤s.n∧s.n≤1048576)=false:=by simp;omega
   have h0:s.n=0:=by omega
   simp[hdec,ew,Aa,BD];refine ih (i+1) out v g _ (by omega) (by omega) (fun q=>Nat.le_trans (hg q) (Nat.mul_le_mul_right _ (by omega))) h01 (fun p=>?_) ?_
   ·simp[Aa,hH]
   ·rw[h0] at hR;simpa using hR
theorem eJ {H:Hp} {o:Nm} {u n:Nat} {l:List Sp} (h:H o=⟨u,.arr 2 (l.map Dp)⟩) (hn:n=l.length):VH H (.osl o u 2 0 n) (Od l):=by
 subst hn;have:=SE (H:=H) (o:=o) (u:=u) (off:=0) (len:=l.length) (sz:=2) (xs:=l.map Dp) (by simp[h]) (by simp) (by
  simp only[List.drop_zero,List.all_eq_true];intro x hx;obtain⟨s,_,rfl⟩:=List.mem_map.1 (Oh hx);rfl)
 rw[List.drop_zero,AL (by simp)] at this;exact this
theorem W0 {all:List Sp} (hok:∀ s,s ∈ all→s.may) (hal:all.length≤1000000):SpecB Tryz.prog 120 [Od all] (Od (Il (AO all))):=by
 refine MZ VQ (by simp) fun w0 I0=>?_;unfold NU;simp;refine LoopC.le (Bu (d:=[0]) (u:=1) (cs:=[.sl true []]) 0 [0,0] 2 rfl rfl (by simp)) ?_;refine LoopC.le (Ao [(3,.pob [0] 1 0),(4,.pob [0,1] 1 0),(5,vF),(9,Od all),(10,iv all.length),(11,iv (0:Nat))] (by simp)) ?_;refine xt hok hal (R:=Il (AO all)) (fun H' out v g st hH hR hl=>?_) all.length 0 [] 1 (fun _=>0) _ (by omega) (by simp) (fun q=>by omega) (.inl rfl) (fun p=>?_) (by simp[Il])
 ·have F1:=NP (ks:=[0,1,2]) (by simp) (by simp) out v g (by omega);have hlen:=Wa [0,1,2] g;simp;refine Wc 0 rfl F1 hH (by simp) (by simp) ?_;simp;rw[← hR];exact eJ (by simp) (by simp)
 ·by_cases h1:p=[]
  ·subst h1;simp[Aa]
  ·by_cases h2:p=[0]
   ·subst h2;simp[Aa]
   ·by_cases h3:p=[1]
    ·subst h3;simp[Aa,jy]
    ·simp[h1,h2,h3,Ne.symm h1,Ne.symm h2,Ne.symm h3,Aa]
theorem Z3 {all:List Sp} (hok:∀ s,s ∈ all→s.may) (hal:all.length≤1000000):G.Spec Tryz.prog 120 [Od all] (Od (Il (AO all))):=(W0 hok hal).spec
theorem zv {s:Sp} (h:s.ok):s.may:=⟨h.1,h.2.2⟩
theorem W8 {a b:List Int} (ha:a.length≤300000) (hb:b.length≤1000000) {M0:Int} (hM0:B9 M0):G.Spec Tryz.prog 119 [Cq a,Cq b,iv M0] (if (B7 a b:Int)≤M0 then .tup [Od (Il (GG a b)),bv true] else .tup [.sl false [],bv false]):=by
 obtain⟨d,hD⟩:=pj (a:=a) (b:=b) (by omega) hb hM0;obtain⟨sts,h1,h2,h3,h4⟩:=rA a.length a b (BZ _) (by omega) hb;have hN:=W0 (all:=sts) (fun s hs=>zv (h2 s hs)) (by omega);rw[h1] at hN;refine Aj js (by simp) fun w0 I0=>?_;unfold WX;simp;refine Ae hD (by simp) ?_;by_cases h:(B7 a b:Int)≤M0
 ·have hF:=h4 [] 1 (by simp;omega);simp[h];refine Cm (Bu (d:=[0]) (u:=1) (cs:=[.sl true []]) 0 [0,0] 2 rfl rfl (by simp)) (CQ ?_);simp;refine Aw 0 hF (fun p=>?_) (by simp) (by simp) ?_
  ·by_cases h1:p=[]
   ·subst h1;simp[Aa]
   ·by_cases h2:p=[0]
    ·subst h2;simp[Aa]
    ·simp[h1,h2,Ne.symm h1,Ne.symm h2,Aa]
  ·simp;refine Kf [Od sts] hN (by simp;exact Bx (l:=sts) (f:=Dp) (by simp) rfl (fun x=>rfl)) (by simp) ?_;simp;exact Ad rfl
 ·simp[h];exact J1 (by simp;exact⟨Ak,Ad rfl⟩)
theorem zF {l:List Sp}:∀ x,x ∈ l.map Dp→EU (fun _=>x):=fun x hx=>by
 obtain⟨s,_,rfl⟩:=List.mem_map.1 hx;exact Ez (cs:=He s) rfl fun y hy=>by
  simp[He] at hy;rcases hy with rfl | rfl<;>rfl
theorem mb (s:Sp):EU (fun _=>Dp s):=Ez (cs:=He s) rfl fun y hy=>by
 simp[He] at hy;rcases hy with rfl | rfl<;>rfl
abbrev q8 (u:Nat) (l:List Sp):Fam:=ta u 2 (l.map Dp) zF
theorem bc (s:Sp):G.Spec Tryz.prog 248 [Dp s] (bv (decide (s.k≤2∧1≤s.n∧s.n≤1048576))):=by
 refine Aj QL (by simp) fun w0 I0=>?_;unfold Kp;have m0:(0:Int)≤(s.k:Int):=by omega
 by_cases h1:s.k≤2
 ·by_cases h2:1≤s.n
  ·by_cases h3:s.n≤1048576
   ·simp[Dp,He,m0,h1,h2,h3,show(s.k:Int)≤2 by omega,show(1:Int)≤s.n by omega,show(s.n:Int)≤1048576 by omega];exact Ad rfl
   ·simp[Dp,He,m0,h1,h2,h3,show(s.k:Int)≤2 by omega,show(1:Int)≤s.n by omega,show ¬ (s.n:Int)≤1048576 by omega];exact Ad rfl
  ·simp[Dp,He,m0,h1,h2,show(s.k:Int)≤2 by omega,show ¬ (1:Int)≤s.n by omega];exact Bc (by simp)
 ·simp[Dp,He,m0,h1,show ¬ (s.k:Int)≤2 by omega];exact Ad rfl
theorem mI (l:List Sp) (x:A):(l.map Dp++[x])[l.length]? = some x:=by rw[List.getElem?_append_right (by simp)];simp
theorem Zs (l:List Sp) (x:A):List.take (l.length+1) (l.map Dp++[x])=l.map Dp++[x]:=AL (by simp)
theorem Mv (l:List Sp) (v:Nat) (hl:l.length≤1000000) (k n:Nat) (h:n=0∨l=[]∨∃ l0 s,l=l0++[s]∧s.k ≠ k):Bh Tryz.prog 249 (fun r=>[.osl [r] v 2 0 l.length,Dp ⟨k,n⟩]) (q8 v l) (fun r=>.osl [r] (v+(fl k n).length) 2 0 (l++fl k n).length) (q8 (v+(fl k n).length) (l++fl k n)):=by
 refine AE Nb (by simp) (Af Cu (Af (mb _) Am)) Cu fun w0 I0 M0 m0=>?_;unfold Iw;by_cases h0:n=0
 ·subst h0;simp[Dp,He];exact AM rfl rfl (fun p=>by simp)
 ·rw[L0 (by omega)];rcases h with h | h | ⟨l0,s,h,hne⟩
  ·exact absurd h h0
  ·subst h;simp[Dp,He,h0,Aa];refine AM rfl rfl (fun p=>?_);by_cases h1:p=[]
   ·subst h1;simp[Aa,Dp,He]
   ·simp[h1,Aa]
  ·subst h;have e1:i64.wrap (l0.length:Int)=(l0.length:Int):=by simp at hl;rw[Al (by omega) (by omega)]
   have hne':¬ (s.k:Int)=k:=by omega
   simp at hl;simp[Dp,He,h0,Aa,e1,hne',mI,Zs];refine⟨by omega,by omega,?_⟩;refine AM rfl rfl (fun p=>?_);by_cases h1:p=[]
   ·subst h1;simp[Aa,Dp,He]
   ·simp[h1,Aa]
theorem oD (l0:List Sp) (v:Nat) (hl:l0.length≤1000000) (k m n:Nat) (hn:0<n) (hm:m+n≤100000000000000):fX Tryz.prog 249 (fun r=>[.osl [r] v 2 0 (l0++[(⟨k,m⟩:Sp)]).length,Dp ⟨k,n⟩]) (q8 v (l0++[(⟨k,m⟩:Sp)])) (fun r q=>.osl [q] 1 2 0 (l0++[(⟨k,m+n⟩:Sp)]).length) (q8 v (l0++[(⟨k,m⟩:Sp)])) (q8 1 (l0++[(⟨k,m+n⟩:Sp)])):=by
 refine Yp Nb (by simp) (Af Cu (Af (mb _) Am)) (Tu Cu) ?_ fun w0 I0 M0 m0=>?_
 ·intro p;by_cases h1:p=[]
  ·subst h1;simp
  ·simp[h1]
 ·unfold Iw;have h0:¬ n=0:=by omega
  have e1:i64.wrap (l0.length:Int)=(l0.length:Int):=by rw[Al (by omega) (by omega)]
  have e2:i64.wrap ((m:Int)+n)=((m+n:Nat):Int):=AP;simp[Dp,He,h0,Aa,e1,e2,mI,Zs];refine⟨by omega,by omega,by omega,rfl,?_⟩;refine C7 rfl rfl (fun p=>?_) (fun p=>?_)
  ·simp
  ·by_cases h1:p=[]
   ·subst h1;simp[Aa,Dp,He,A.remake]
   ·simp[h1,Ne.symm h1,Aa]
def Rd (l:List Sp) (k:Nat):Prop:=l=[]∨∃ l0 s,l=l0++[s]∧s.k ≠ k
theorem Fh {l:List Sp} {a n k:Nat} (hn:0<n) (h:a ≠ k):Rd (l++fl a n) k:=by
 rw[L0 hn];exact .inr ⟨l,⟨a,n⟩,rfl,h⟩
theorem CU {l:List Sp} {a k:Nat} (h:Rd l k):Rd (l++fl a 0) k:=by simpa using h
structure AeY (o:List Sp) (k d i:Nat):Prop where
 kd:0<k→d=0∧i=0
 st:k=0→d=0→i=0→o=[]
 l0:0<k→Rd o 0
 l1:k=0→Rd o 1
 l2:k=0→Rd o 2
def ve (n:Nat):Nat:=n*1048576
theorem tQ (n:Nat):ve (n+1)=ve n+1048576:=by unfold ve;omega
theorem Aaa {n:Nat} (h:n≤100000):ve n≤104857600000:=Nat.le_trans (Nat.mul_le_mul_right _ h) (by decide)
theorem qU {all:List Sp} (hok:∀ s,s ∈ all→s.may) (hal:all.length≤100000) {R:List Sp}
  (hq:∀ (H':Hp) (ρ v:Nat) st,H' [ρ]=⟨v,.arr 2 (R.map Dp)⟩→Q (.exit 0) ⟨lk ([(0,Od all),(3,.osl [ρ] v 2 0 R.length)]++st),H'⟩):∀ (m idx:Nat) (o:List Sp) (k d i ρ v:Nat) (H:Hp),idx+m=all.length→o.length≤3*idx→k≤ve idx→d≤ve idx→i≤ve idx→AeY o k d i→(∀ p,H (ρ::p)=(q8 v (o++fl 0 k)).F ρ p)→(∀ q p,ρ<q→H (q::p)=⟨0,.none⟩)→o++RQ (AO (all.drop idx)) k d i=R →
  LoopC (cx Tryz.prog w0 I0 n0) CY Q ⟨lk [(0,Od all),(3,.osl [ρ] v 2 0 (o++fl 0 k).length),(4,iv d),(5,iv i),(6,iv idx)],H⟩:=by
 intro m;induction m with
 |zero=>
  intro idx o k d i ρ v H hm hol hk hd hi hW hH hf hR;have:idx=all.length:=by omega
  subst this;have ew:i64.wrap ((all.length:Int)+1)=((all.length+1:Nat):Int):=AP;rw[List.drop_length,ED,RQ] at hR;have f0:=ER 0 k;have f1:=ER 1 d;have P1:=Mv (o++fl 0 k) v (by simp;omega) 1 d (by
   by_cases h:0<k
   ·exact .inl (hW.kd h).1
   ·have:k=0:=by omega
    subst this;rcases hW.l1 rfl with h | h
    ·exact .inr (.inl (by simp[h]))
    ·exact .inr (.inr (by simpa using h)))
  have P2:=Mv (o++fl 0 k++fl 1 d) (v+(fl 1 d).length) (by simp;omega) 2 i (by
   by_cases h:0<k
   ·exact .inl (hW.kd h).2
   ·have:k=0:=by omega
    subst this;right;by_cases hd0:0<d
    ·exact Fh hd0 (by decide)
    ·have:d=0:=by omega
     subst this;exact CU (CU (hW.l2 rfl)))
  have hle:¬ ((all.length:Int)+1≤all.length):=by omega
  refine Ab Ai CY.eq_1 ?_;simp;refine AY rfl ?_;simp;refine Aw ρ P1 hH (by simp[Dp,He]) (by simp) ?_;simp;refine Aw ρ P2 (fun p=>by simp) (by simp[Dp,He]) (by simp) ?_;simp[ew];refine Ab Ai CY.eq_1 ?_;simp[hle];have hl:R.length=o.length+((fl 0 k).length+((fl 1 d).length+(fl 2 i).length)):=by rw[← hR];simp
  have:=hq (ov ρ ((q8 (v+(fl 1 d).length+(fl 2 i).length) R).F ρ) H) ρ (v+(fl 1 d).length+(fl 2 i).length) [(4,iv 0),(5,iv 0),(6,iv ((all.length:Int)+1)),(10,bv false)] (by simp);rw[hl] at this;rw[hR];exact this
 |succ m ih=>
  intro idx o k d i ρ v H hm hol hk hd hi hW hH hf hR;have hlt:idx<all.length:=by omega
  have ew:=Av idx;have hdr:all.drop idx=all[idx]::all.drop (idx+1):=(List.getElem_cons_drop hlt).symm;have hs:=hok _ (Bg hlt);have hmul:=tQ idx;have hmul2:=Aaa (n:=idx) (by omega);rw[hdr,Az] at hR;generalize hss:all[idx]=s at *;have hsr:=bc s;have hle:idx≤all.length:=by omega
  refine Ab Ai CY.eq_1 ?_;have hspA:Dp s = .agg [iv s.k,iv s.n]:=rfl;have hspC:He s=[iv s.k,iv s.n]:=rfl;simp[hlt,hss,hle];by_cases hn:1≤s.n
  ·have hdec:decide (s.k≤2∧1≤s.n∧s.n≤1048576)=true:=by have:=hs.1;have:=hs.2;simp;omega
   rw[hdec] at hsr;refine Ee rfl (fun _=>hsr) (fun _=>by simp[hspA,hspC]) (by simp[Dp,He]) ?_;have h1:=hs.1;have h2:=hs.2;rcases (by omega:s.k=0∨s.k=1∨s.k=2) with h0 | h0 | h0
   ·rw[h0,Ya s.n _ _ _ _ (by omega) (by
     by_cases h:0<k
     ·exact .inl (hW.kd h)
     ·exact .inr (by omega))] at hR
    have f0:=ER 0 k;have f1:=ER 1 d;have f2:=ER 2 i;have P1:=Mv (o++fl 0 k) v (by simp;omega) 1 d (by
     by_cases h:0<k
     ·exact .inl (hW.kd h).1
     ·have:k=0:=by omega
      subst this;exact .inr (CU (hW.l1 rfl)))
    have P2:=Mv (o++fl 0 k++fl 1 d) (v+(fl 1 d).length) (by simp;omega) 2 i (by
     by_cases h:0<k
     ·exact .inl (hW.kd h).2
     ·have:k=0:=by omega
      subst this;right;by_cases hd0:0<d
      ·exact Fh hd0 (by decide)
      ·have:d=0:=by omega
       subst this;exact CU (CU (hW.l2 rfl)))
    simp[hlt,hss,hle,hspA,h0];refine Aw ρ P1 hH (by simp[Dp,He]) (by simp) ?_;simp;refine Aw ρ P2 (fun p=>by simp) (by simp[Dp,He]) (by simp) ?_;simp[hlt,hss,hspA,hspC,h0];by_cases hk0:0<k
    ·obtain⟨d0,i0⟩:=hW.kd hk0;subst d0 i0;have P3:=oD o v (by omega) 0 k s.n (by omega) (by omega);simp[L0 hk0];refine Se ρ (ρ+1) (by omega) P3 (fun p=>by simp) (fun p=>?_) (by simp[Dp,He]) (by simp) ?_
     ·simp[hf]
     ·simp[ew];have:=ih (idx+1) o (k+s.n) 0 0 (ρ+1) 1 (ov ρ ((q8 v (o++[(⟨0,k⟩:Sp)])).F ρ) (ov (ρ+1) ((q8 1 (o++[(⟨0,k+s.n⟩:Sp)])).F (ρ+1)) (ov ρ ((q8 v (o++[(⟨0,k⟩:Sp)])).F ρ) H))) (by omega) (by omega) (by omega) (by omega) (by omega) ⟨fun _=>⟨rfl,rfl⟩,fun h=>by omega,fun _=>hW.l0 hk0,fun h=>by omega,fun h=>by omega⟩ (fun p=>by rw[L0 (by omega)];simp) (fun q p hq=>by simp[show ¬ q=ρ+1 by omega,show ¬ q=ρ by omega,hf q p (by omega)]) (by simpa using hR);rw[L0 (by omega)] at this;simpa using this
    ·have k0:k=0:=by omega
     subst k0;have P3:=Mv (o++fl 1 d++fl 2 i) (v+(fl 1 d).length+(fl 2 i).length) (by simp;omega) 0 s.n (by
      right;by_cases hi0:0<i
      ·exact Fh hi0 (by decide)
      ·have:i=0:=by omega
       subst this;by_cases hd0:0<d
       ·exact CU (Fh hd0 (by decide))
       ·have:d=0:=by omega
        subst this;exact .inl (by simp[hW.st rfl rfl rfl]))
     simp;refine Aw ρ P3 (fun p=>by simp) (by simp[Dp,He]) (by simp) ?_;simp[ew];have hl0:Rd (o++fl 1 d++fl 2 i) 0:=by
      by_cases hi0:0<i
      ·exact Fh hi0 (by decide)
      ·have:i=0:=by omega
       subst this;by_cases hd0:0<d
       ·exact CU (Fh hd0 (by decide))
       ·have:d=0:=by omega
        subst this;exact .inl (by simp[hW.st rfl rfl rfl])
     have:=ih (idx+1) (o++fl 1 d++fl 2 i) (0+s.n) 0 0 ρ (v+(fl 1 d).length+(fl 2 i).length+(fl 0 s.n).length) (ov ρ ((q8 (v+(fl 1 d).length+(fl 2 i).length+(fl 0 s.n).length) (o++fl 1 d++fl 2 i++fl 0 s.n)).F ρ) H) (by omega) (by simp;omega) (by omega) (by omega) (by omega) ⟨fun _=>⟨rfl,rfl⟩,fun h=>by omega,fun _=>hl0,fun h=>by omega,fun h=>by omega⟩ (fun p=>by simp) (fun q p hq=>by simp[show ¬ q=ρ by omega,hf q p (by omega)]) (by simpa using hR);simpa using this
   ·rw[h0,V2 s.n _ _ _ _ (by omega)] at hR;have ev:i64.wrap ((d:Int)+s.n)=((d+s.n:Nat):Int):=AP;simp[hlt,hss,hle,hspA,h0,ev,ew,BD];have:=ih (idx+1) (o++fl 0 k) 0 (d+s.n) i ρ v H (by omega) (by have:=ER 0 k;simp;omega) (by omega) (by omega) (by omega) ⟨fun h=>by omega,fun _ h=>by omega,fun h=>by omega,fun _=>?_,fun _=>?_⟩ (by simpa using hH) hf (by simpa using hR)
    ·simpa using this
    ·by_cases hk0:0<k
     ·exact Fh hk0 (by decide)
     ·have:k=0:=by omega
      subst this;exact CU (hW.l1 rfl)
    ·by_cases hk0:0<k
     ·exact Fh hk0 (by decide)
     ·have:k=0:=by omega
      subst this;exact CU (hW.l2 rfl)
   ·rw[h0,Tl s.n _ _ _ _ (by omega)] at hR;have ev:i64.wrap ((i:Int)+s.n)=((i+s.n:Nat):Int):=AP;simp[hlt,hss,hle,hspA,h0,ev,ew,BD];have:=ih (idx+1) (o++fl 0 k) 0 d (i+s.n) ρ v H (by omega) (by have:=ER 0 k;simp;omega) (by omega) (by omega) (by omega) ⟨fun h=>by omega,fun _ _ h=>by omega,fun h=>by omega,fun _=>?_,fun _=>?_⟩ (by simpa using hH) hf (by simpa using hR)
    ·simpa using this
    ·by_cases hk0:0<k
     ·exact Fh hk0 (by decide)
     ·have:k=0:=by omega
      subst this;exact CU (hW.l1 rfl)
    ·by_cases hk0:0<k
     ·exact Fh hk0 (by decide)
     ·have:k=0:=by omega
      subst this;exact CU (hW.l2 rfl)
  ·have hdec:decide (s.k≤2∧1≤s.n∧s.n≤1048576)=false:=by simp;omega
   rw[hdec] at hsr;refine Ee rfl (fun _=>hsr) (fun _=>by simp[hspA,hspC]) (by simp[Dp,He]) ?_;have h0:s.n=0:=by omega
   simp[ew,BD];have:=ih (idx+1) o k d i ρ v H (by omega) (by omega) (by omega) (by omega) (by omega) hW hH hf (by rw[h0] at hR;simpa using hR);simpa using this
theorem gh {all:List Sp} (hok:∀ s,s ∈ all→s.may) (hal:all.length≤100000):SpecB Tryz.prog 214 [Od all] (Od (Il (AO all))):=by
 refine MZ Qc (by simp) fun w0 I0=>?_;unfold Jx;simp;refine LoopC.le (Cd 3 [0] 2 (by simp)) ?_;refine LoopC.le (Ao [(0,Od all),(3,.osl [0] 1 2 0 (([]:List Sp)++fl 0 0).length),(4,iv (0:Nat)),(5,iv (0:Nat)),(6,iv (0:Nat))] (by simp)) ?_;refine qU hok hal (R:=Il (AO all)) (fun H' ρ v st hH=>?_) all.length 0 [] 0 0 0 0 1 _ (by omega) (by simp) (by simp[ve]) (by simp[ve]) (by simp[ve]) ⟨fun h=>by omega,fun _ _ _=>rfl,fun h=>by omega,fun _=>.inl rfl,fun _=>.inl rfl⟩ (fun p=>?_) (fun q p hq=>?_) (by simp[Il])
 ·simp;exact eJ hH rfl
 ·by_cases h1:p=[]
  ·subst h1;simp[Aa]
  ·simp[h1,Aa]
 ·simp[Aa,show ¬ q=0 by omega]
def OG (m n:Nat):List A:=(List.range n).map fun j=>.osl [5+j] (j+1) 1 0 (m+1)
@[simp] theorem Aet {m n:Nat}:(OG m n).length=n:=by simp[OG]
@[simp] theorem Aga {m n k:Nat} (h:k<(OG m n).length):(OG m n)[k] = .osl [5+k] (k+1) 1 0 (m+1):=by simp[OG]
theorem nN (m n:Nat):OG m (n+1)=OG m n++[.osl [5+n] (n+1) 1 0 (m+1)]:=by simp[OG,List.range_succ]
def F6 (a b:List Int) (i q:Nat):Int:=(AI (a.take i) (b.take q):Nat)
theorem oM {a b:List Int} {i j:Nat} (hi:i<a.length) (hj:j<b.length):F6 a b (i+1) (j+1)=if a[i]=b[j] then F6 a b i j+1 else max (F6 a b i (j+1)) (F6 a b (i+1) j):=by
 unfold F6;have tk:a.take (i+1)=a.take i++[a[i]]:=Fm hi;have tj:b.take (j+1)=b.take j++[b[j]]:=Fm hj;by_cases h:a[i]=b[j]
 ·rw[if_pos h,tk,tj,h,Ml];omega
 ·rw[if_neg h];have:=Md h (a.take i) (b.take j);rw[← tk,← tj] at this;rw[this];omega
theorem xB (a b:List Int) (i j:Nat):0≤F6 a b i j∧F6 a b i j≤a.length:=by
 have:=Gm (a.take i) (b.take j);unfold F6;simp at this;omega
theorem uF {a b:List Int} {i:Nat} (hi:i<a.length) (hal:a.length≤1000000) (hb:b.length≤1000000) {H0:Hp} (h1:H0 [1]=⟨i+3,.arr 1 (OG b.length (i+2))⟩) (h2:H0 [5+i]=⟨i+1,.arr 1 (FL (F6 a b i) (b.length+1))⟩) (hq:∀ (f':Nat→Int) (H':Hp) (st:List (Nat × A)),(∀ q,q≤b.length→f' q=F6 a b (i+1) q)→H' [5+(i+1)]=⟨i+2,.arr 1 (FL f' (b.length+1))⟩→(∀ o,o ≠ [5+(i+1)]→H' o=H0 o)→Q (.exit 2) ⟨lk ([(0,Cq a),(1,Cq b),(5,.osl [1] (i+3) 1 0 (i+2)),(6,iv (i+1:Nat))]++st),H'⟩):∀ (m j:Nat) (f:Nat→Int) (H:Hp),j+m=b.length→(∀ q,q≤j→f q=F6 a b (i+1) q)→(∀ o,o ≠ [5+(i+1)]→H o=H0 o)→H [5+(i+1)]=⟨i+2,.arr 1 (FL f (b.length+1))⟩ →
  LoopC (cx Tryz.prog w0 I0 n0) BL Q ⟨lk [(0,Cq a),(1,Cq b),(5,.osl [1] (i+3) 1 0 (i+2)),(6,iv (i+1:Nat)),(7,iv (j+1:Nat))],H⟩:=by
 intro m;induction m with
 |zero=>
  intro j f H hm hf hp h3;refine Ab Ai BL.eq_1 ?_;have:j=b.length:=by omega
  subst this;have hle:¬ ((b.length:Int)+1≤b.length):=by omega
  simp[hle];have:=hq f H [(7,iv (b.length+1:Nat)),(29,bv false)] hf h3 hp;simpa using this
 |succ m ih=>
  intro j f H hm hf hp h3;have g1:=hp [1] (by simp;omega);have g2:=hp [5+i] (by simp);rw[h1] at g1;rw[h2] at g2;have hj:j<b.length:=by omega
  have hj1:j+1<b.length+1:=by omega
  have hj2:j<b.length+1:=by omega
  have c1:(j:Int)+1≤b.length:=by omega
  have c2:(0:Int)<(i:Int)+1:=by omega
  have c3:(i:Int)<(i:Int)+2:=by omega
  have c4:(0:Int)≤(j:Int)+1:=by omega
  have c5:(0:Int)≤(i:Int)+1:=by omega
  have c6:(j:Int)<(b.length:Int)+1:=by omega
  have e1:i64.wrap (i:Int)=i:=BJ;have e2:i64.wrap (j:Int)=j:=BJ;have e3:i64.wrap ((j:Int)+1+1)=((j+1+1:Nat):Int):=AP;have hb2:=xB a b i j;have e4:i64.wrap (F6 a b i j+1)=F6 a b i j+1:=BJ;have fj:=hf j (BZ _);have hst:=oM hi hj;have next:∀ z:Int,z=F6 a b (i+1) (j+1)→LoopC (cx Tryz.prog w0 I0 n0) BL Q ⟨lk [(0,Cq a),(1,Cq b),(5,.osl [1] (i+3) 1 0 (i+2)),(6,iv (i+1:Nat)),(7,iv (j+1+1:Nat))],Ay H [5+(i+1)] ⟨i+2,.arr 1 (FL (fun q=>if q=j+1 then z else f q) (b.length+1))⟩⟩:=fun z hz=>by
   refine ih (j+1) _ _ (by omega) (fun q hq=>?_) (fun o ho=>by rw[AH ho];exact hp o ho) (by simp[Aa];rfl);by_cases e:q=j+1
   ·subst e;rw[if_pos rfl,hz]
   ·rw[if_neg e];exact hf q (by omega)
  have key:∀ z:Int,z=max (F6 a b i (j+1)) (f j)→WPC (cx Tryz.prog w0 I0 n0) Gs
          (BD 3
           (D4
            (WPC (cx Tryz.prog w0 I0 n0)
             (CC.keep [0,1,5,6,7]
              (CC.reg
               [co (some 30) (Op.move (Operand.tmp 7)) none,
                co (some 31)
                 (Op.binOp BinOp.add 3 (Operand.tmp 30) (Operand.const (Value.int i64 1)) 3)
                 none,
                co (some 7) (Op.assign (Operand.tmp 31)) none]
               [0,1,5,6,7]))
             (D4 (LoopC (cx Tryz.prog w0 I0 n0) BL Q) Q))
            (D4 (LoopC (cx Tryz.prog w0 I0 n0) BL Q) Q)))
          ⟨lk [(0,Cq a),(1,Cq b),(5,.osl [1] (i+3) 1 0 (i+2)),(6,iv (i+1:Nat)),(7,iv (j+1:Nat)),(8,iv z)],H⟩:=fun z hz=>by
   rw[Gs.eq_1];by_cases h:a[i]=b[j]
   ·rw[if_pos h] at hst;simp[c1,c2,c3,c4,c5,c6,e1,e2,g1,g2,h3,hj1,hj2,hi,hj,h,e3,e4];have:=next _ hst.symm
    simpa using this
   ·rw[if_neg h,← fj] at hst;simp[c1,c2,c3,c4,c5,c6,e1,e2,g1,g2,h3,hj1,hj2,hi,hj,h,e3,e4];have:=next z (by rw[hz,hst])
    simpa using this
  refine Ab Ai BL.eq_1 ?_;simp[c1,c2,c3,c4,c5,c6,e1,e2,g1,g2,h3,hj1,hj2,hj];refine⟨fun h=>?_,fun h=>?_⟩
  ·have:=key (f j) (by omega);simpa using this
  ·have:=key (F6 a b i (j+1)) (by omega);simpa using this
theorem tl {a b:List Int} (hal:a.length≤1000000) (hb:b.length≤1000000) (hq:∀ (H:Hp) st,H [1]=⟨a.length+2,.arr 1 (OG b.length (a.length+1))⟩→(∀ k,k<a.length+1→∃ f,(∀ q,q<b.length+1→f q=F6 a b k q)∧H [5+k]=⟨k+1,.arr 1 (FL f (b.length+1))⟩)→Q (.exit 0) ⟨lk ([(0,Cq a),(1,Cq b),(5,.osl [1] (a.length+2) 1 0 (a.length+1))]++st),H⟩):∀ (m i:Nat) (H:Hp),i+m=a.length+1→H [0]=⟨i,.none⟩→H [1]=⟨i+1,.arr 1 (OG b.length i)⟩→(∀ k,k<i→∃ f,(∀ q,q<b.length+1→f q=F6 a b k q)∧H [5+k]=⟨k+1,.arr 1 (FL f (b.length+1))⟩)→(∀ k,i≤k→H [5+k]=⟨0,.none⟩) →
  LoopC (cx Tryz.prog w0 I0 n0) Dg Q ⟨lk [(0,Cq a),(1,Cq b),(5,.osl [1] (i+1) 1 0 i),(6,iv i)],H⟩:=by
 intro m;induction m with
 |zero=>
  intro i H hm h0 h1 hk hf;refine Ab Ai Dg.eq_1 ?_;have:i=a.length+1:=by omega
  subst this;have hle:¬ ((a.length:Int)+1≤a.length):=by omega
  simp[hle];have:=hq H [(6,iv (a.length+1:Nat)),(12,bv false)] h1 hk;simpa using this
 |succ m ih=>
  intro i H hm h0 h1 hk hf;have hi:i≤a.length:=by omega
  have e1:i64.wrap ((b.length:Int)+1)=((b.length+1:Nat):Int):=AP;have e2:=Av i;refine Ab Ai Dg.eq_1 ?_;simp[hi,e1,h0,h1,Aa];refine⟨⟨by omega,by omega⟩,by omega,?_⟩;have hfi:=hf i (BZ _);refine LoopC.le (eY (d:=[0]) (d':=[5+i]) (e:=[1]) (u:=i+1) (ue:=i+1+1) (sz:=1) (z:=1) (off:=0) (len:=b.length+1) (xs:=List.take i (OG b.length i)) (fun _ h=>h) (by simp;omega) (by simp) (by simp;omega) (by simp[Aa,hfi,show ¬ 5+i=1 by omega,show ¬ 5+i=2 by omega,show ¬ 5+i=0 by omega]) (by simp[Aa]) rfl (by simp[Aa])) ?_;rw[AL (by simp),← nN];generalize hG:(Ay (Ay (Ay (Ay (Ay (Ay H [0] ⟨i+1,.arr 1 (List.replicate (b.length+1) (iv 0))⟩) [2] ⟨(H [2]).u+1,.arr 1 [.osl [0] (i+1) 1 0 (b.length+1)]⟩) [1] ⟨i+1+1,.arr 1 (OG b.length i++[.osl [0] (i+1) 1 0 (b.length+1)])⟩) [5+i] _) [0] _) [1] _:Hp)=G;have f0:G [0]=⟨i+1,.none⟩:=by rw[← hG];simp[Aa]
  have f1:G [1]=⟨i+1+1,.arr 1 (OG b.length (i+1))⟩:=by rw[← hG];simp[Aa]
  have f5:G [5+i]=⟨i+1,.arr 1 (FL (fun _=>0) (b.length+1))⟩:=by
   rw[← hG,← OB];simp[Aa,show ¬ 5+i=1 by omega,show ¬ 5+i=0 by omega]
  have fo:∀ k,k ≠ i→G [5+k]=H [5+k]:=fun k hne=>by
   rw[← hG];simp[Aa,show ¬ 5+k=1 by omega,show ¬ 5+k=2 by omega,show ¬ 5+k=0 by omega,hne]
  clear hG;have next:∀ (f:Nat→Int) (G':Hp),(∀ q,q<b.length+1→f q=F6 a b i q)→G' [5+i]=⟨i+1,.arr 1 (FL f (b.length+1))⟩→(∀ o,o ≠ [5+i]→G' o=G o)→LoopC (cx Tryz.prog w0 I0 n0) Dg Q ⟨lk [(0,Cq a),(1,Cq b),(5,.osl [1] (i+1+1) 1 0 (i+1)),(6,iv (i+1:Nat))],G'⟩:=fun f G' g1 g2 g3=>by
   refine ih (i+1) G' (by omega) (by rw[g3 _ (by simp;omega),f0]) (by rw[g3 _ (by simp;omega),f1]) (fun k hki=>?_) (fun k hki=>?_)
   ·by_cases e:k=i
    ·subst e;exact⟨f,g1,g2⟩
    ·obtain⟨f',k1,k2⟩:=hk k (by omega);exact⟨f',k1,by rw[g3 _ (by simp;omega),fo k e,k2]⟩
   ·rw[g3 _ (by simp;omega),fo k (by omega),hf k (by omega)]
  cases i with
  |zero=>
   refine Ab Ai BL.eq_1 ?_;by_cases hb0:(1:Int)≤b.length
   ·simp[hb0,show i64.wrap 1=1 from rfl];have:=next (fun _=>0) G (fun q hq=>by simp[F6]) f5 (fun o _=>rfl)
    simpa using this
   ·simp[hb0,show i64.wrap 1=1 from rfl];have:=next (fun _=>0) G (fun q hq=>by simp[F6]) f5 (fun o _=>rfl)
    simpa using this
  |succ i=>
   obtain⟨f',k1,k2⟩:=hk i (by omega);refine LoopC.le (Ao [(0,Cq a),(1,Cq b),(5,.osl [1] (i+3) 1 0 (i+2)),(6,iv (i+1:Nat)),(7,iv (0+1:Nat))] (by simp)) ?_;refine uF (by omega) hal hb (H0:=G) f1 (by rw[fo i (by omega),k2,Ir k1]) (fun f2 G' st g1 g2 g3=>?_) b.length 0 (fun _=>0) G (by omega) (fun q hq=>?_) (fun o _=>rfl) f5
   ·have e3:i64.wrap ((i:Int)+1+1)=(i:Int)+1+1:=BJ;simp[e3];have:=next f2 G' (fun q hq=>g1 q (by omega)) g2 g3
    simpa using this
   ·have:q=0:=by omega
    subst this;simp[F6]
theorem Ud {α:Type} {H:Hp} {f g:α→A}:∀ (l:List α),(∀ x,x ∈ l→J3 H (f x) (g x))→G9 H (l.map f) (l.map g)
 |[],_=>by simp
 |x::l,h=>by
  simp only[List.map_cons,nL];exact⟨h x (by simp),Ud l fun y hy=>h y (by simp[hy])⟩
theorem Hd {α:Type} {f:α→A} (h:∀ x,(f x).cells=[f x]) (l:List α):(l.map f).flatMap A.cells=l.map f:=by
 induction l with
 |nil=>rfl
 |cons x l ih=>simp[ih,h]
def Oe (a b:List Int):A:=.sl false ((List.range (a.length+1)).map fun i=>.sl false (FL (F6 a b i) (b.length+1)))
theorem Q9 {a b:List Int} (hal:a.length≤1000000) (hb:b.length≤1000000):G.Spec Tryz.prog 246 [Cq a,Cq b] (Oe a b):=by
 refine Aj Rk (by simp) fun w0 I0=>?_;unfold KF;simp;refine LoopC.le (Cd 5 [1] 1 (by simp)) ?_;refine LoopC.le (Ao [(0,Cq a),(1,Cq b),(5,.osl [1] (0+1) 1 0 0),(6,iv (0:Nat))] (by simp)) ?_;refine tl hal hb (fun H st h1 hk=>?_) (a.length+1) 0 _ (by omega) (by simp[Aa]) (by simp[Aa,OG]) (fun k h=>by omega) (fun k _=>by simp[Aa,show ¬ 5+k=1 by omega]);simp;refine Jh (o:=[1]) (u:=a.length+2) (off:=0) (len:=a.length+1) (sz:=1) (xs:=OG b.length (a.length+1)) (ys:=(List.range (a.length+1)).map fun i=>.sl false (FL (F6 a b i) (b.length+1))) (by simp[h1]) (by simp) (by simp) (by simp) ?_ ?_
 ·rw[Hd (fun x=>rfl)];simp[A.ones]
 ·rw[List.drop_zero,AL (by simp)];unfold OG;rw[Hd (fun x=>rfl),Hd (fun x=>rfl)];refine Ud _ fun k hk0=>?_;obtain⟨f,g1,g2⟩:=hk k (by simpa using hk0);rw[← Ir g1];exact PD g2
end Go.Proofs.YtbjmaoedheiigaaGreat
