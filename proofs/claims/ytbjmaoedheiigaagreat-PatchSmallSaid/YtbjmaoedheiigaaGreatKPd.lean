/-
 Texts,merged,without what is not reached.
-/
import Derived.Test.YtbjmaoedheiigaaGreatKPc
set_option linter.unusedSimpArgs false
set_option linter.unusedVariables false
open Go.IntKind (i64 u64)
namespace Go.Proofs.YtbjmaoedheiigaaGreat
open Go Go.G Go.Proofs Go.PL
theorem EW {P:Program} {K:Sta→Prop} {rest:List CO} {s:Nat→A} {H:Hp} {dd:Option Nat} {nm:Nm} {ix:Nat} {un:List Nat} {l:Bool} {lg:Lg} {o:Operand} {g:FuncId} {aa:Array Operand} {ts:Array TypeId} {L:List A} {x:A} (ho:evs s o = .fnc g [] []) (hs:G.Spec P g L x) (hL:aa.toList.map (evs s)=L) (hb:L.all A.bare=true) (h:AH P K rest (B0 l ix ⟨[],[]⟩ lg) (Sta.put ⟨s,H⟩ dd x H)) :
  AH P K (⟨dd,.call { callee:=.value o,args:=aa,argTypes:=ts },none,nm,ix,un,l⟩::rest) lg ⟨s,H⟩:=by
 subst hL;exact Om ho (by simpa using hs) (by simpa using hb) h
instance:Inhabited Sc:=⟨ij⟩
def BL (a b:Sc):Bool:=decide (a.i<b.i)
theorem ZE (a b:Sc):decide (E6 a.i b.i<0)=BL a b:=by
 unfold E6 BL;by_cases h:a.i<b.i
 ·rw[if_pos (by omega)];simp[h]
 ·rw[if_neg (by omega)];by_cases h2:b.i<a.i
  ·rw[if_pos (by omega)];simp[h]
  ·rw[if_neg (by omega)];simp[h]
abbrev Dg:A:=.fnc 242 [] []
theorem Ej:Hm (fun _=>Dg):=ie Ap Ap
theorem D3 (a b:Sc):G.Spec Tryz.prog 242 [KH a,KH b] (iv (E6 a.i b.i)):=by
 refine Ah Zi (by simp) fun w0 I0=>?_;unfold P1;simp[KH,kE];refine Ae (Rc a.i b.i) rfl ?_;simp;exact Ab rfl
abbrev Bk (d:Array Sc) (v:Nat):Fam:=kC d.toList v
theorem BF {d:Array Sc} {i:Nat} (h:i<d.size):(d.toList.map KH)[i]? = some (KH d[i]!):=by
 rw[List.getElem?_map,Array.getElem?_toList,getElem!_pos d i h,Array.getElem?_eq_getElem h];rfl
theorem Lv {d:Array Sc} {i j:Nat}:(Sort.swp d i j).toList.map KH=((d.toList.map KH).set i (KH d[j]!)).set j (KH d[i]!):=by
 unfold Sort.swp;simp[List.map_set]
theorem FT {d:Array Sc} {i j:Nat}:(Sort.swp d i j).size=d.size:=by simp[Sort.swp]
theorem Iv {d:Array Sc} {i j:Nat} (hi:i<d.size) (hj:j<d.size):((d.toList.map KH).set i (KH d[j]!))[j]? = some (KH d[j]!):=by
 by_cases e:i=j
 ·subst e;rw[List.getElem?_set_self (by simpa using hi)]
 ·rw[List.getElem?_set_ne e,BF hj]
variable {n0:Nat} {w0:World} {I0:Nat→Prop} {M0:Nm→Nat→Prop} {m0:Mu} {Q:Exit→Sta→Prop} {v:Nat}
abbrev HV (n v r:Nat):A:=.osl [r] v 2 0 n
theorem Ach {a n:Nat} {b i:Int} (hn:n≤1000) (ha:a≤1000):∀ (j:Nat) (d:Array Sc) (H:Hp),d.size=n→j<n→(∀ p,H (0::p)=(Bk d v).F 0 p) →
  (∀ (H':Hp) (st:List (Nat × A)),(∀ p,H' (0::p)=(Bk (Sort.insInner BL a j d) v).F 0 p)→Q (.exit 2) ⟨lk ([(0,HV n v 0),(1,iv a),(2,iv b),(3,Dg),(8,iv i)]++st),H'⟩) →
  LoopC (FW Tryz.prog w0 I0 M0 n0 m0) Bg Q ⟨lk [(0,HV n v 0),(1,iv a),(2,iv b),(3,Dg),(8,iv i),(9,iv j)],H⟩:=by
 intro j;induction j with
 |zero=>
  intro d H hd hj hH hq;refine Ad Ai Bg.eq_1 ?_;simp[show ¬ (a:Int)<0 by omega];rw[AB];simp;exact hq H [(9,iv 0),(34,bv false)] hH
 |succ j ih=>
  intro d H hd hj hH hq;have h0:=hH [];have g1:=BF (d:=d) (i:=j+1) (by omega);have g0:=BF (d:=d) (i:=j) (by omega);rw[Sort.insInner] at hq;have e1:i64.wrap ((j:Int)+1-1)=(j:Int):=Bl;simp only[Int.add_sub_cancel] at e1;refine Ad Ai Bg.eq_1 ?_;by_cases h1:a<j+1
  ·have hc:=ZE d[j+1]! d[j]!;simp only[Lo] at h0;generalize hx:d[j+1]! = x at *;generalize hy:d[j]! = y at *;simp[show(a:Int)<j+1 by omega,h0,e1,g1,g0,hj,show j<n by omega,show(j:Int)+1<n by omega,show(j:Int)<n by omega,show(0:Int)≤(j:Int)+1 by omega,Dk];rw[AB];simp;refine EW rfl (D3 x y) (by simp) rfl ?_;cases hL:BL x y with
   |false=>
    rw[hL] at hc hq;rw[if_neg (by simp)] at hq;have hc':¬ E6 x.i y.i<0:=by simpa using hc
    simp[hc'];exact hq H [(9,iv (j+1:Nat)),(34,bv false)] (fun p=>by simp[hH])
   |true=>
    rw[hL] at hc hq;rw[if_pos (by simp;omega)] at hq;have hc':E6 x.i y.i<0:=by simpa using hc
    have g2:=Iv (d:=d) (i:=j+1) (j:=j) (by omega) (by omega);have hs:=Lv (d:=d) (i:=j+1) (j:=j);rw[hx,hy] at hs;rw[hy] at g2;simp[hc',h0,e1,g1,g0,g2,hj,show j<n by omega,show(j:Int)+1<n by omega,show(j:Int)<n by omega,show(0:Int)≤(j:Int)+1 by omega,Dk];exact ih (Sort.swp d (j+1) j) _ (by rw[FT];exact hd) (by omega) (fun p=>by by_cases hp:p=[]<;>simp[hp,hs,Aa,hH]) hq
  ·rw[if_neg (by simp;omega)] at hq;simp[show ¬ (a:Int)<j+1 by omega];rw[AB];simp;exact hq H [(9,iv (j+1:Nat)),(34,bv false)] hH
theorem LJ (lt:Sc→Sc→Bool) (a:Nat):∀ (j:Nat) (d:Array Sc),(Sort.insInner lt a j d).size=d.size
 |0,d=>rfl
 |j+1,d=>by
  unfold Sort.insInner;split
  ·rw[LJ lt a j,FT]
  ·rfl
theorem AdK {a b n:Nat} (hn:n≤1000) (ha:a≤1000) (hb:b≤n):∀ (m i:Nat) (d:Array Sc) (H:Hp),(i+m=b∨(b≤i∧m=0∧i≤1001))→d.size=n→(∀ p,H (0::p)=(Bk d v).F 0 p) →
  (∀ (H':Hp) (st:List (Nat × A)),(∀ p,H' (0::p)=(Bk (Sort.insOuter BL a b i d) v).F 0 p)→Q (.exit 0) ⟨lk st,H'⟩) →
  LoopC (FW Tryz.prog w0 I0 M0 n0 m0) Bf Q ⟨lk [(0,HV n v 0),(1,iv a),(2,iv b),(3,Dg),(8,iv i)],H⟩:=by
 intro m;induction m with
 |zero=>
  intro i d H hi hd hH hq;rw[Sort.insOuter,if_neg (by omega)] at hq;refine Ad Ai Bf.eq_1 ?_;simp[show ¬ (i:Int)<b by omega,show ¬ i<b by omega];exact hq H [(0,HV n v 0),(1,iv a),(2,iv b),(3,Dg),(8,iv i),(14,bv false)] hH
 |succ m ih=>
  intro i d H hi hd hH hq;have hib:i<b:=by omega
  have e1:=AM i;rw[Sort.insOuter,if_pos hib] at hq;refine Ad Ai Bf.eq_1 ?_;simp[show(i:Int)<b by omega,hib];refine Ach (n:=n) (v:=v) hn ha i d H hd (by omega) hH fun H' st h'=>?_;simp[e1];exact ih (i+1) _ H' (by omega) (by rw[LJ];exact hd) h' hq
theorem PX (lt:Sc→Sc→Bool) (a b:Nat):∀ (m i:Nat) (d:Array Sc),b-i≤m→(Sort.insOuter lt a b i d).size=d.size
 |0,i,d,h=>by rw[Sort.insOuter,if_neg (by omega)]
 |m+1,i,d,h=>by
  rw[Sort.insOuter];split
  ·rw[PX lt a b m _ _ (by omega),LJ]
  ·rfl
theorem P4 (n v:Nat):Hm (fun r=>HV n v r):=J3
theorem fm (d:Array Sc) (v a b:Nat) (hn:d.size≤900) (ha:a≤900) (hb:b≤d.size):BR Tryz.prog 271 (fun r=>[HV d.size v r,iv a,iv b,Dg]) (Bk d v) (fun _=>.tup []) (Bk (Sort.insertionSort BL d a b) v):=by
 refine Ay Fz (by simp) (Ag (P4 _ _) (Ag Ax (Ag Ax (Ag Ej Ap)))) (BP Ap) fun w0 I0 M0 m0=>?_;have e1:=AM a;unfold CK;simp[e1];refine LoopC.le (AE [(0,HV d.size v 0),(1,iv a),(2,iv b),(3,Dg),(8,iv (a+1:Nat))] (by simp)) ?_;refine AdK (n:=d.size) (v:=v) (by omega) (by omega) hb (b-(a+1)) (a+1) d _ (by omega) rfl (fun p=>by simp) fun H' st h'=>?_;simp;exact A0 rfl rfl (fun p=>h' p)
theorem Ade {n:Nat} (hn:n≤1000):∀ (m i j:Nat) (d:Array Sc) (H:Hp),j-i≤m→i≤n→j<n→d.size=n→(∀ p,H (0::p)=(Bk d v).F 0 p) →
  (∀ (H':Hp) (st:List (Nat × A)),(∀ p,H' (0::p)=(Bk (Sort.reverseLoop i j d) v).F 0 p)→Q (.exit 0) ⟨lk st,H'⟩) →
  LoopC (FW Tryz.prog w0 I0 M0 n0 m0) AY Q ⟨lk [(0,HV n v 0),(8,iv i),(9,iv j)],H⟩:=by
 intro m;induction m with
 |zero=>
  intro i j d H hm hi hj hd hH hq;rw[Sort.reverseLoop,if_neg (by omega)] at hq;refine Ad Ai AY.eq_1 ?_;simp[show ¬ (i:Int)<j by omega,show ¬ i<j by omega];exact hq H [(0,HV n v 0),(8,iv i),(9,iv j),(15,bv false)] hH
 |succ m ih=>
  intro i j d H hm hi hj hd hH hq;by_cases hij:i<j
  ·rw[Sort.reverseLoop,if_pos hij] at hq;have h0:=hH [];simp only[Lo] at h0;have e1:=AM i;have e2:i64.wrap ((j:Int)-1)=((j-1:Nat):Int):=Bl;have g1:=BF (d:=d) (i:=i) (by omega);have g0:=BF (d:=d) (i:=j) (by omega);have g2:=Iv (d:=d) (i:=i) (j:=j) (by omega) (by omega);have hs:=Lv (d:=d) (i:=i) (j:=j);generalize d[i]! = x at g1 g2 hs;generalize d[j]! = y at g0 g2 hs;refine Ad Ai AY.eq_1 ?_;simp[hij,show(i:Int)<j by omega,h0,g0,g1,g2,e1,e2,show(i:Int)<n by omega,show(j:Int)<n by omega,show i<n by omega,hj,Dk];refine LoopC.le (AE [(0,HV n v 0),(8,iv (i+1:Nat)),(9,iv (j-1:Nat))] (by simp)) ?_;exact ih (i+1) (j-1) (Sort.swp d i j) _ (by omega) (by omega) (by omega) (by rw[FT];exact hd) (fun p=>by by_cases hp:p=[]<;>simp[hp,hs,Aa,hH]) hq
  ·rw[Sort.reverseLoop,if_neg hij] at hq;refine Ad Ai AY.eq_1 ?_;simp[show ¬ (i:Int)<j by omega,hij];exact hq H [(0,HV n v 0),(8,iv i),(9,iv j),(15,bv false)] hH
theorem cm (d:Array Sc) (v a b:Nat) (hn:d.size≤900) (ha:a≤d.size) (hb:1≤b) (hb2:b≤d.size):BR Tryz.prog 275 (fun r=>[HV d.size v r,iv a,iv b,Dg]) (Bk d v) (fun _=>.tup []) (Bk (Sort.reverseRange d a b) v):=by
 refine Ay FD (by simp) (Ag (P4 _ _) (Ag Ax (Ag Ax (Ag Ej Ap)))) (BP Ap) fun w0 I0 M0 m0=>?_;have e1:i64.wrap ((b:Int)-1)=((b-1:Nat):Int):=Bl;unfold CR;simp[e1];refine Ade (n:=d.size) (v:=v) (by omega) (b-1-a) a (b-1) d _ (Cb _) ha (by omega) rfl (fun p=>by simp) fun H' st h'=>?_;simp;exact A0 rfl rfl (fun p=>h' p)
def ceF (s:Nat):Fam:=⟨fun r p=>if p=[] then ⟨1,.cells [iv s]⟩ else ⟨0,.none⟩,fun {g δ r r'} hg hd p=>by
  by_cases h1:p=[]
  ·rw[if_pos h1];exact Fam.cells_ren (by simp[A.renL,A.ren])
  ·rw[if_neg h1];rfl,fun {D r} hD p=>by
  by_cases h1:p=[]
  ·rw[if_pos h1];simp[Ob.refs,A.refsL,A.refs]
  ·rw[if_neg h1];trivial⟩
@[simp] theorem Ak6 {s r:Nat} {p:Nm}:(ceF s).F r p=if p=[] then ⟨1,.cells [iv s]⟩ else ⟨0,.none⟩:=rfl
abbrev ceP (q:Nat):A:=.pob [q] 1 0
theorem NS (d:Array Sc) (v a b s:Nat) (hn:d.size≤900) (ha:a<d.size) (hb:b<d.size) (hs:s≤900):cY Tryz.prog 286 (fun r q=>[HV d.size v r,iv a,iv b,ceP q,Dg]) ((Bk d v).two (ceF s)) (fun _ _=>.tup [iv (Sort.order2 BL d a b s).1,iv (Sort.order2 BL d a b s).2.1]) ((Bk d v).two (ceF (Sort.order2 BL d a b s).2.2)):=by
 refine bx HB (by simp) (CG (GK (P4 _ _)) (CG (GK Ax) (CG (GK Ax) (CG (pk Bi) (CG (GK Ej) Uv))))) (sf (CG (GK Ax) (CG (GK Ax) Uv))) fun w0 I0 M0 m0=>?_;have ga:=BF (d:=d) (i:=a) (by omega);have gb:=BF (d:=d) (i:=b) (by omega);have hc:=ZE d[b]! d[a]!;have e1:=AM s;unfold Sort.order2;generalize d[a]! = x at *;generalize d[b]! = y at *;generalize d.size=n at hn ha hb ⊢;unfold DJ;simp[ga,gb,ha,hb,show(a:Int)<n by omega,show(b:Int)<n by omega,Dk];refine EW rfl (D3 y x) (by simp) rfl ?_;cases hL:BL y x with
 |true=>
  rw[hL] at hc;have hc':E6 y.i x.i<0:=by simpa using hc
  simp[hc',e1,Aa];exact TF rfl rfl (fun p=>by simp) (fun p=>by by_cases hp:p=[]<;>simp[hp,Aa])
 |false=>
  rw[hL] at hc;have hc':¬ E6 y.i x.i<0:=by simpa using hc
  simp[hc'];exact TF rfl rfl (fun p=>by simp) (fun p=>by simp)
theorem QR (lt:Sc→Sc→Bool) (d:Array Sc) (a b s n:Nat) (ha:a<n) (hb:b<n) (hs:s≤100):(Sort.order2 lt d a b s).1<n∧(Sort.order2 lt d a b s).2.1<n∧(Sort.order2 lt d a b s).2.2≤s+1:=by
 unfold Sort.order2;split
 ·exact⟨hb,ha,by simp⟩
 ·exact⟨ha,hb,by simp⟩
theorem fJ (d:Array Sc) (v a b c s:Nat) (hn:d.size≤900) (ha:a<d.size) (hb:b<d.size) (hcc:c<d.size) (hs:s≤90):cY Tryz.prog 285 (fun r q=>[HV d.size v r,iv a,iv b,iv c,ceP q,Dg]) ((Bk d v).two (ceF s)) (fun _ _=>iv (Sort.median BL d a b c s).1) ((Bk d v).two (ceF (Sort.median BL d a b c s).2)):=by
 refine bx Hk (by simp) (CG (GK (P4 _ _)) (CG (GK Ax) (CG (GK Ax) (CG (GK Ax) (CG (pk Bi) (CG (GK Ej) Uv)))))) (GK Ax) fun w0 I0 M0 m0=>?_;obtain⟨q1,q2,q3⟩:=QR BL d a b s d.size ha hb (by omega);have h1:=NS d v a b s hn ha hb (by omega);unfold Sort.median;simp only;generalize Sort.order2 BL d a b s=R at h1 q1 q2 q3 ⊢;obtain⟨p1,p2,p3⟩:=QR BL d R.2.1 c R.2.2 d.size q2 hcc (by omega);have h2:=NS d v R.2.1 c R.2.2 hn q2 hcc (by omega);generalize Sort.order2 BL d R.2.1 c R.2.2=S2 at h2 p1 p2 p3 ⊢;obtain⟨z1,z2,z3⟩:=QR BL d R.1 S2.1 S2.2.2 d.size q1 p1 (by omega);have h3:=NS d v R.1 S2.1 S2.2.2 hn q1 p1 (by omega);generalize Sort.order2 BL d R.1 S2.1 S2.2.2=T3 at h3 z1 z2 z3 ⊢;unfold DK;simp;refine VV 0 1 (by omega) h1 (fun p=>by simp) (fun p=>by simp) (by simp) (by simp) ?_;simp;refine VV 0 1 (by omega) h2 (fun p=>by simp) (fun p=>by simp) (by simp) (by simp) ?_;simp;refine VV 0 1 (by omega) h3 (fun p=>by simp) (fun p=>by simp) (by simp) (by simp) ?_;simp;exact TF rfl rfl (fun p=>by simp) (fun p=>by simp)
def NC:Sort.Hint→Int
 |.unknown=>0
 |.increasing=>1
 |.decreasing=>2
theorem choose_spec (d:Array Sc) (v a b:Nat) (hn:d.size≤900) (hab:a+13≤b) (hb:b≤d.size) (hl:b-a<50):BR Tryz.prog 274 (fun r=>[HV d.size v r,iv a,iv b,Dg]) (Bk d v) (fun _=>.tup [iv (Sort.choosePivot BL d a b).1,iv (NC (Sort.choosePivot BL d a b).2)]) (Bk d v):=by
 refine Ay F6 (by simp) (Ag (P4 _ _) (Ag Ax (Ag Ax (Ag Ej Ap)))) (BP (Ag Ax (Ag Ax Ap))) fun w0 I0 M0 m0=>?_;obtain⟨l,hll⟩:∃ l,l=b-a:=⟨_,rfl⟩;have e1:i64.wrap ((b:Int)-a)=(l:Int):=Bl;obtain⟨q,hq⟩:∃ q,q=l / 4:=⟨_,rfl⟩;have e2:i64.wrap ((l:Int).tdiv 4)=(q:Int):=by rw[Int.tdiv_eq_ediv_of_nonneg (by omega),Av (by omega) (by omega)];omega
 have e3:i64.wrap ((q:Int)*1)=(q:Int):=Bl;have e4:i64.wrap ((q:Int)*2)=((q*2:Nat):Int):=Bl;have e5:i64.wrap ((q:Int)*3)=((q*3:Nat):Int):=Bl;have e6:i64.wrap ((a:Int)+q)=((a+q:Nat):Int):=Bl;have e7:i64.wrap ((a:Int)+(q:Int)*2)=((a+q*2:Nat):Int):=Bl;have e8:i64.wrap ((a:Int)+(q:Int)*3)=((a+q*3:Nat):Int):=Bl;have e9:i64.wrap ((l:Int) / 4)=(q:Int):=Bl;have e10:i64.wrap (q:Int)=(q:Int):=Bv;have hm:=fJ d v (a+q) (a+q*2) (a+q*3) 0 hn (by omega) (by omega) (by omega) (by omega);unfold Sort.choosePivot;simp only[← hll,← hq,Nat.mul_one,ge_iff_le,if_pos (show 8≤l by omega),if_neg (show ¬ 50≤l by omega)];generalize Sort.median BL d (a+q) (a+q*2) (a+q*3) 0=R at hm ⊢;unfold C6;simp[e1,e2,e3,e4,e5,e6,e7,e8,e9,e10,show(8:Int)≤l by omega,show ¬ (50:Int)≤l by omega,Aa];refine VV 0 1 (by omega) hm (fun p=>by simp) (fun p=>?_) (by simp) (by simp) ?_
 ·by_cases hp:p=[]
  ·subst hp;simp[FA]
  ·simp[FA,hp,Ne.symm hp]
 rw[AfG];simp;rw[CX.eq_1];by_cases h0:R.2=0
 ·simp[h0,NC];exact AJ rfl rfl (fun p=>by simp)
 ·by_cases h12:R.2=12
  ·simp[h12,NC];exact AJ rfl rfl (fun p=>by simp)
  ·have h0':¬ (R.2:Int)=0:=by omega
   have h12':¬ (R.2:Int)=12:=by omega
   simp[h0,h12,h0',h12',NC];exact AJ rfl rfl (fun p=>by simp)
theorem qa (lt:Sc→Sc→Bool) (d:Array Sc) (b:Nat):∀ (m i:Nat),b-i≤m→i≤b→i≤Sort.scanSorted lt d b i∧Sort.scanSorted lt d b i≤b
 |0,i,h,hi=>by rw[Sort.scanSorted,if_neg (by simp;omega)];omega
 |m+1,i,h,hi=>by
  rw[Sort.scanSorted];split
  ·rename_i hc;simp at hc;have:=qa lt d b m (i+1) (by omega) (by omega);omega
  ·omega
theorem zb {n a b:Nat} {k:Int} {d:Array Sc} {H:Hp} (hn:n≤900) (hb:b≤n) (hd:d.size=n) (hH:∀ p,H (0::p)=(Bk d v).F 0 p):∀ (m i:Nat),b-i≤m→1≤i→i≤b →
  (∀ (st:List (Nat × A)),Q (.exit 2) ⟨lk ([(0,HV n v 0),(1,iv a),(2,iv b),(3,Dg),(9,iv (Sort.scanSorted BL d b i)),(10,iv k)]++st),H⟩) →
  LoopC (FW Tryz.prog w0 I0 M0 n0 m0) AG Q ⟨lk [(0,HV n v 0),(1,iv a),(2,iv b),(3,Dg),(9,iv i),(10,iv k)],H⟩:=by
 intro m;induction m with
 |zero=>
  intro i hm h1 hi hq;rw[Sort.scanSorted,if_neg (by simp;omega)] at hq;refine Ad Ai AG.eq_1 ?_;simp[show ¬ (i:Int)<b by omega,show ¬ i<b by omega];rw[AB];simp;exact hq [(36,bv false)]
 |succ m ih=>
  intro i hm h1 hi hq;by_cases hib:i<b
  ·have h0:=hH [];simp only[Lo] at h0;have g1:=BF (d:=d) (i:=i) (by omega);have g0:=BF (d:=d) (i:=i-1) (by omega);have e1:=AM i;have e2:i64.wrap ((i:Int)-1)=((i-1:Nat):Int):=Bl;have hc:=ZE d[i]! d[i-1]!;rw[Sort.scanSorted] at hq;generalize d[i]! = x at g1 hc hq;generalize d[i-1]! = y at g0 hc hq;refine Ad Ai AG.eq_1 ?_;simp[hib,show(i:Int)<b by omega,h0,g1,g0,e2,show(i:Int)<n by omega,show i<n by omega,show i-1<n by omega,show((i-1:Nat):Int)<n by omega,Dk];rw[AB];simp;refine EW rfl (D3 x y) (by simp) rfl ?_;cases hL:BL x y with
   |true=>
    rw[hL] at hc hq;rw[if_neg (by simp)] at hq;have hc':E6 x.i y.i<0:=by simpa using hc
    simp[hc'];exact hq [(36,bv false)]
   |false=>
    rw[hL] at hc hq;rw[if_pos (by simp[hib])] at hq;have hc':¬ E6 x.i y.i<0:=by simpa using hc
    simp[hc',e1];exact ih (i+1) (by omega) (by omega) (by omega) hq
  ·rw[Sort.scanSorted,if_neg (by simp;omega)] at hq;refine Ad Ai AG.eq_1 ?_;simp[show ¬ (i:Int)<b by omega,hib];rw[AB];simp;exact hq [(36,bv false)]
theorem YI (d:Array Sc) (a b:Nat) (hl:b-a<50):Sort.partialInsertionSort BL d a b=(d,decide (Sort.scanSorted BL d b (a+1)=b)):=by
 unfold Sort.partialInsertionSort;rw[Sort.partialIns];simp only;split
 ·rename_i h;simp[h]
 ·rename_i h;simp[h,hl]
theorem bR (d:Array Sc) (v a b:Nat) (hn:d.size≤900) (hab:a<b) (hb:b≤d.size) (hl:b-a<50):BR Tryz.prog 276 (fun r=>[HV d.size v r,iv a,iv b,Dg]) (Bk d v) (fun _=>bv (Sort.partialInsertionSort BL d a b).2) (Bk (Sort.partialInsertionSort BL d a b).1 v):=by
 rw[YI d a b hl];refine Ay D0 (by simp) (Ag (P4 _ _) (Ag Ax (Ag Ax (Ag Ej Ap)))) Ax fun w0 I0 M0 m0=>?_;have e1:=AM a;have e2:i64.wrap ((b:Int)-a)=((b-a:Nat):Int):=Bl;have hsc:=qa BL d b (b-(a+1)) (a+1) (by omega) (by omega);have l1:=fun (Q:Exit→Sta→Prop) (H:Hp) (k:Int) (hH:∀ p,H (0::p)=(Bk d v).F 0 p)=>zb (n0:=141) (w0:=w0) (I0:=I0) (M0:=M0) (m0:=m0) (Q:=Q) (v:=v) (k:=k) (a:=a) hn hb rfl hH (b-(a+1)) (a+1) (Cb _) (by omega) (by omega);generalize Sort.scanSorted BL d b (a+1)=z at hsc l1 ⊢;unfold Ca;simp[e1];refine Ad Ai B7.eq_1 ?_;simp;refine LoopC.le (AE [(0,HV d.size v 0),(1,iv a),(2,iv b),(3,Dg),(9,iv (a+1:Nat)),(10,iv 0)] (by simp)) ?_;refine l1 _ _ 0 (fun p=>by simp) fun st=>?_;by_cases hz:z=b
 ·simp[hz];exact AJ rfl rfl (fun p=>by simp)
 ·have hz':¬ (z:Int)=b:=by omega
  simp[hz,hz',e2,show((b-a:Nat):Int)<50 by omega];exact AJ rfl rfl (fun p=>by simp)
theorem Ag0 {n a j:Nat} {z:Sc} {d:Array Sc} {H:Hp} (hn:n≤900) (ha:a<n) (hj:j<n) (hd:d.size=n) (hz:d[a]! = z) (hH:∀ p,H (0::p)=(Bk d v).F 0 p):∀ (m i:Nat),j+1-i≤m→i≤n →
  (∀ (st:List (Nat × A)),Q (.exit 0) ⟨lk ([(0,HV n v 0),(1,iv a),(4,Dg),(12,iv (Sort.scanUp (fun x=>BL x z) d j i)),(13,iv j)]++st),H⟩) →
  LoopC (FW Tryz.prog w0 I0 M0 n0 m0) A8 Q ⟨lk [(0,HV n v 0),(1,iv a),(4,Dg),(12,iv i),(13,iv j)],H⟩:=by
 intro m;induction m with
 |zero=>
  intro i hm hi hq;rw[Sort.scanUp,if_neg (by simp;omega)] at hq;refine Ad Ai A8.eq_1 ?_;simp[show ¬ (i:Int)≤j by omega,show ¬ i≤j by omega];rw[AB];simp;exact hq [(47,bv false)]
 |succ m ih=>
  intro i hm hi hq;by_cases hij:i≤j
  ·have h0:=hH [];simp only[Lo] at h0;have gi:=BF (d:=d) (i:=i) (by omega);have ga:=BF (d:=d) (i:=a) (by omega);rw[hz] at ga;have e1:=AM i;rw[Sort.scanUp] at hq;generalize d[i]! = x at gi hq;have hc:=ZE x z;refine Ad Ai A8.eq_1 ?_;simp[hij,show(i:Int)≤j by omega,h0,gi,ga,show(i:Int)<n by omega,show i<n by omega,ha,show(a:Int)<n by omega,Dk];rw[AB];simp;refine EW rfl (D3 x z) (by simp) rfl ?_;cases hL:BL x z with
   |true=>
    rw[hL] at hc hq;have hc':E6 x.i z.i<0:=by simpa using hc
    rw[if_pos (by simp[hij])] at hq;simp[hc',e1];exact ih (i+1) (by omega) (by omega) hq
   |false=>
    rw[hL] at hc hq;have hc':¬ E6 x.i z.i<0:=by simpa using hc
    rw[if_neg (by simp)] at hq;simp[hc'];exact hq [(47,bv false)]
  ·rw[Sort.scanUp,if_neg (by simp;omega)] at hq;refine Ad Ai A8.eq_1 ?_;simp[show ¬ (i:Int)≤j by omega,hij];rw[AB];simp;exact hq [(47,bv false)]
theorem Ag7 {n a j:Nat} {z:Sc} {d:Array Sc} {H:Hp} (hn:n≤900) (ha:a<n) (hj:j<n) (hd:d.size=n) (hz:d[a]! = z) (hH:∀ p,H (0::p)=(Bk d v).F 0 p):∀ (m i:Nat),j+1-i≤m→i≤n →
  (∀ (st:List (Nat × A)),Q (.exit 6) ⟨lk ([(0,HV n v 0),(1,iv a),(4,Dg),(12,iv (Sort.scanUp (fun x=>BL x z) d j i)),(13,iv j)]++st),H⟩) →
  LoopC (FW Tryz.prog w0 I0 M0 n0 m0) A6 Q ⟨lk [(0,HV n v 0),(1,iv a),(4,Dg),(12,iv i),(13,iv j)],H⟩:=by
 intro m;induction m with
 |zero=>
  intro i hm hi hq;rw[Sort.scanUp,if_neg (by simp;omega)] at hq;refine Ad Ai A6.eq_1 ?_;simp[show ¬ (i:Int)≤j by omega,show ¬ i≤j by omega];rw[AB];simp;exact hq [(120,bv false)]
 |succ m ih=>
  intro i hm hi hq;by_cases hij:i≤j
  ·have h0:=hH [];simp only[Lo] at h0;have gi:=BF (d:=d) (i:=i) (by omega);have ga:=BF (d:=d) (i:=a) (by omega);rw[hz] at ga;have e1:=AM i;rw[Sort.scanUp] at hq;generalize d[i]! = x at gi hq;have hc:=ZE x z;refine Ad Ai A6.eq_1 ?_;simp[hij,show(i:Int)≤j by omega,h0,gi,ga,show(i:Int)<n by omega,show i<n by omega,ha,show(a:Int)<n by omega,Dk];rw[AB];simp;refine EW rfl (D3 x z) (by simp) rfl ?_;cases hL:BL x z with
   |true=>
    rw[hL] at hc hq;have hc':E6 x.i z.i<0:=by simpa using hc
    rw[if_pos (by simp[hij])] at hq;simp[hc',e1];exact ih (i+1) (by omega) (by omega) hq
   |false=>
    rw[hL] at hc hq;have hc':¬ E6 x.i z.i<0:=by simpa using hc
    rw[if_neg (by simp)] at hq;simp[hc'];exact hq [(120,bv false)]
  ·rw[Sort.scanUp,if_neg (by simp;omega)] at hq;refine Ad Ai A6.eq_1 ?_;simp[show ¬ (i:Int)≤j by omega,hij];rw[AB];simp;exact hq [(120,bv false)]
theorem AfH {n a i:Nat} {z:Sc} {d:Array Sc} {H:Hp} (hn:n≤900) (ha:a<n) (hi:i≤n) (hi1:1≤i) (hd:d.size=n) (hz:d[a]! = z) (hH:∀ p,H (0::p)=(Bk d v).F 0 p):∀ (j:Nat),j<n →
  (∀ (st:List (Nat × A)),Q (.exit 2) ⟨lk ([(0,HV n v 0),(1,iv a),(4,Dg),(12,iv i),(13,iv (Sort.scanDown (fun x=>!BL x z) d i j))]++st),H⟩) →
  LoopC (FW Tryz.prog w0 I0 M0 n0 m0) Ba Q ⟨lk [(0,HV n v 0),(1,iv a),(4,Dg),(12,iv i),(13,iv j)],H⟩:=by
 intro j;induction j with
 |zero=>
  intro hj hq;rw[Sort.scanDown] at hq;refine Ad Ai Ba.eq_1 ?_;simp[show ¬ (i:Int)≤0 by omega,show ¬ i=0 by omega];rw[AB];simp;exact hq [(66,bv false)]
 |succ j ih=>
  intro hj hq;rw[Sort.scanDown] at hq;by_cases hij:i≤j+1
  ·have h0:=hH [];simp only[Lo] at h0;have gi:=BF (d:=d) (i:=j+1) (by omega);have ga:=BF (d:=d) (i:=a) (by omega);rw[hz] at ga;have e1:i64.wrap (((j+1:Nat):Int)-1)=(j:Int):=Bl;have e2:i64.wrap (j:Int)=(j:Int):=Bv;generalize d[j+1]! = x at gi hq;have hc:=ZE x z;have hij':(i:Int)≤((j+1:Nat):Int):=by omega
   have hj':((j+1:Nat):Int)<n:=by omega
   generalize hjj:j+1=jj at gi hij hij' hj hj' e1 hq ⊢;refine Ad Ai Ba.eq_1 ?_;simp[hij,hij',h0,gi,ga,hj,hj',ha,show(a:Int)<n by omega,Dk];rw[AB];simp;refine EW rfl (D3 x z) (by simp) rfl ?_;cases hL:BL x z with
   |true=>
    rw[hL] at hc hq;have hc':E6 x.i z.i<0:=by simpa using hc
    rw[if_neg (by simp)] at hq;simp[hc'];exact hq [(66,bv false)]
   |false=>
    rw[hL] at hc hq;have hc':¬ E6 x.i z.i<0:=by simpa using hc
    rw[if_pos (by simp[hij])] at hq;simp[hc',e1];exact ih (by omega) hq
  ·rw[if_neg (by simp;omega)] at hq;refine Ad Ai Ba.eq_1 ?_;have hij':¬ (i:Int)≤((j+1:Nat):Int):=by omega
   generalize hjj:j+1=jj at hij hij' hq ⊢;simp[hij,hij'];rw[AB];simp;exact hq [(66,bv false)]
theorem Aft {n a i:Nat} {z:Sc} {d:Array Sc} {H:Hp} (hn:n≤900) (ha:a<n) (hi:i≤n) (hi1:1≤i) (hd:d.size=n) (hz:d[a]! = z) (hH:∀ p,H (0::p)=(Bk d v).F 0 p):∀ (j:Nat),j<n →
  (∀ (st:List (Nat × A)),Q (.exit 8) ⟨lk ([(0,HV n v 0),(1,iv a),(4,Dg),(12,iv i),(13,iv (Sort.scanDown (fun x=>!BL x z) d i j))]++st),H⟩) →
  LoopC (FW Tryz.prog w0 I0 M0 n0 m0) A9 Q ⟨lk [(0,HV n v 0),(1,iv a),(4,Dg),(12,iv i),(13,iv j)],H⟩:=by
 intro j;induction j with
 |zero=>
  intro hj hq;rw[Sort.scanDown] at hq;refine Ad Ai A9.eq_1 ?_;simp[show ¬ (i:Int)≤0 by omega,show ¬ i=0 by omega];rw[AB];simp;exact hq [(139,bv false)]
 |succ j ih=>
  intro hj hq;rw[Sort.scanDown] at hq;by_cases hij:i≤j+1
  ·have h0:=hH [];simp only[Lo] at h0;have gi:=BF (d:=d) (i:=j+1) (by omega);have ga:=BF (d:=d) (i:=a) (by omega);rw[hz] at ga;have e1:i64.wrap (((j+1:Nat):Int)-1)=(j:Int):=Bl;have e2:i64.wrap (j:Int)=(j:Int):=Bv;generalize d[j+1]! = x at gi hq;have hc:=ZE x z;have hij':(i:Int)≤((j+1:Nat):Int):=by omega
   have hj':((j+1:Nat):Int)<n:=by omega
   generalize hjj:j+1=jj at gi hij hij' hj hj' e1 hq ⊢;refine Ad Ai A9.eq_1 ?_;simp[hij,hij',h0,gi,ga,hj,hj',ha,show(a:Int)<n by omega,Dk];rw[AB];simp;refine EW rfl (D3 x z) (by simp) rfl ?_;cases hL:BL x z with
   |true=>
    rw[hL] at hc hq;have hc':E6 x.i z.i<0:=by simpa using hc
    rw[if_neg (by simp)] at hq;simp[hc'];exact hq [(139,bv false)]
   |false=>
    rw[hL] at hc hq;have hc':¬ E6 x.i z.i<0:=by simpa using hc
    rw[if_pos (by simp[hij])] at hq;simp[hc',e1];exact ih (by omega) hq
  ·rw[if_neg (by simp;omega)] at hq;refine Ad Ai A9.eq_1 ?_;have hij':¬ (i:Int)≤((j+1:Nat):Int):=by omega
   generalize hjj:j+1=jj at hij hij' hq ⊢;simp[hij,hij'];rw[AB];simp;exact hq [(139,bv false)]
theorem Ah9 {n a j:Nat} {z:Sc} {d:Array Sc} {H:Hp} (hn:n≤900) (ha:a<n) (hj:j<n) (hd:d.size=n) (hz:d[a]! = z) (hH:∀ p,H (0::p)=(Bk d v).F 0 p):∀ (m i:Nat),j+1-i≤m→i≤n →
  (∀ (st:List (Nat × A)),Q (.exit 2) ⟨lk ([(0,HV n v 0),(1,iv a),(4,Dg),(11,iv (Sort.scanUp (fun x=>!BL z x) d j i)),(12,iv j)]++st),H⟩) →
  LoopC (FW Tryz.prog w0 I0 M0 n0 m0) AQ Q ⟨lk [(0,HV n v 0),(1,iv a),(4,Dg),(11,iv i),(12,iv j)],H⟩:=by
 intro m;induction m with
 |zero=>
  intro i hm hi hq;rw[Sort.scanUp,if_neg (by simp;omega)] at hq;refine Ad Ai AQ.eq_1 ?_;simp[show ¬ (i:Int)≤j by omega,show ¬ i≤j by omega];rw[AB];simp;exact hq [(47,bv false)]
 |succ m ih=>
  intro i hm hi hq;by_cases hij:i≤j
  ·have h0:=hH [];simp only[Lo] at h0;have gi:=BF (d:=d) (i:=i) (by omega);have ga:=BF (d:=d) (i:=a) (by omega);rw[hz] at ga;have e1:=AM i;rw[Sort.scanUp] at hq;generalize d[i]! = x at gi hq;have hc:=ZE z x;refine Ad Ai AQ.eq_1 ?_;simp[hij,show(i:Int)≤j by omega,h0,gi,ga,show(i:Int)<n by omega,show i<n by omega,ha,show(a:Int)<n by omega,Dk];rw[AB];simp;refine EW rfl (D3 z x) (by simp) rfl ?_;cases hL:BL z x with
   |true=>
    rw[hL] at hc hq;have hc':E6 z.i x.i<0:=by simpa using hc
    rw[if_neg (by simp)] at hq;simp[hc'];exact hq [(47,bv false)]
   |false=>
    rw[hL] at hc hq;have hc':¬ E6 z.i x.i<0:=by simpa using hc
    rw[if_pos (by simp[hij])] at hq;simp[hc',e1];exact ih (i+1) (by omega) (by omega) hq
  ·rw[Sort.scanUp,if_neg (by simp;omega)] at hq;refine Ad Ai AQ.eq_1 ?_;simp[show ¬ (i:Int)≤j by omega,hij];rw[AB];simp;exact hq [(47,bv false)]
theorem Af1 {n a i:Nat} {z:Sc} {d:Array Sc} {H:Hp} (hn:n≤900) (ha:a<n) (hi:i≤n) (hi1:1≤i) (hd:d.size=n) (hz:d[a]! = z) (hH:∀ p,H (0::p)=(Bk d v).F 0 p):∀ (j:Nat),j<n →
  (∀ (st:List (Nat × A)),Q (.exit 4) ⟨lk ([(0,HV n v 0),(1,iv a),(4,Dg),(11,iv i),(12,iv (Sort.scanDown (fun x=>BL z x) d i j))]++st),H⟩) →
  LoopC (FW Tryz.prog w0 I0 M0 n0 m0) AR Q ⟨lk [(0,HV n v 0),(1,iv a),(4,Dg),(11,iv i),(12,iv j)],H⟩:=by
 intro j;induction j with
 |zero=>
  intro hj hq;rw[Sort.scanDown] at hq;refine Ad Ai AR.eq_1 ?_;simp[show ¬ (i:Int)≤0 by omega,show ¬ i=0 by omega];rw[AB];simp;exact hq [(65,bv false)]
 |succ j ih=>
  intro hj hq;rw[Sort.scanDown] at hq;by_cases hij:i≤j+1
  ·have h0:=hH [];simp only[Lo] at h0;have gi:=BF (d:=d) (i:=j+1) (by omega);have ga:=BF (d:=d) (i:=a) (by omega);rw[hz] at ga;have e1:i64.wrap (((j+1:Nat):Int)-1)=(j:Int):=Bl;have e2:i64.wrap (j:Int)=(j:Int):=Bv;generalize d[j+1]! = x at gi hq;have hc:=ZE z x;have hij':(i:Int)≤((j+1:Nat):Int):=by omega
   have hj':((j+1:Nat):Int)<n:=by omega
   generalize hjj:j+1=jj at gi hij hij' hj hj' e1 hq ⊢;refine Ad Ai AR.eq_1 ?_;simp[hij,hij',h0,gi,ga,hj,hj',ha,show(a:Int)<n by omega,Dk];rw[AB];simp;refine EW rfl (D3 z x) (by simp) rfl ?_;cases hL:BL z x with
   |true=>
    rw[hL] at hc hq;have hc':E6 z.i x.i<0:=by simpa using hc
    rw[if_pos (by simp[hij])] at hq;simp[hc',e1];exact ih (by omega) hq
   |false=>
    rw[hL] at hc hq;have hc':¬ E6 z.i x.i<0:=by simpa using hc
    rw[if_neg (by simp)] at hq;simp[hc'];exact hq [(65,bv false)]
  ·rw[if_neg (by simp;omega)] at hq;refine Ad Ai AR.eq_1 ?_;have hij':¬ (i:Int)≤((j+1:Nat):Int):=by omega
   generalize hjj:j+1=jj at hij hij' hq ⊢;simp[hij,hij'];rw[AB];simp;exact hq [(65,bv false)]
theorem Mh (p:Sc→Bool) (d:Array Sc) (j:Nat):∀ (m i:Nat),j+1-i≤m→i≤Sort.scanUp p d j i∧(Sort.scanUp p d j i≤j+1∨Sort.scanUp p d j i=i)
 |0,i,h=>by rw[Sort.scanUp,if_neg (by simp;omega)];exact⟨Cb _,.inr rfl⟩
 |m+1,i,h=>by
  rw[Sort.scanUp];split
  ·rename_i hc;simp at hc;have:=Mh p d j m (i+1) (by omega);refine⟨by omega,.inl ?_⟩;rcases this.2 with h | h<;>omega
  ·exact⟨Cb _,.inr rfl⟩
theorem IY (p:Sc→Bool) (d:Array Sc) (i:Nat) (hi:1≤i):∀ j:Nat,Sort.scanDown p d i j≤j∧(i-1≤Sort.scanDown p d i j∨Sort.scanDown p d i j=j)
 |0=>by rw[Sort.scanDown];exact⟨Cb _,.inr rfl⟩
 |j+1=>by
  rw[Sort.scanDown];split
  ·rename_i hc;simp at hc;have:=IY p d i hi j;refine⟨by omega,?_⟩;rcases this.2 with h | h
   ·exact .inl h
   ·left;omega
  ·exact⟨Cb _,.inr rfl⟩
theorem Agz {n a:Nat} (hn:n≤900) (ha:a<n):∀ (m i j:Nat) (d:Array Sc) (H:Hp),j+1-i≤m→a+1≤i→i≤n→j<n→a≤j→i≤j+2→d.size=n→(∀ p,H (0::p)=(Bk d v).F 0 p) →
  (∀ (H':Hp) (x:A) (st:List (Nat × A)),(∀ p,H' (0::p)=(Bk (Sort.partLoop BL a i j d).2 v).F 0 p)→a≤(Sort.partLoop BL a i j d).1→(Sort.partLoop BL a i j d).1<n→(Sort.partLoop BL a i j d).2.size=n →
   Q (.exit 4) ⟨lk ([(0,HV n v 0),(1,iv a),(4,Dg),(12,x),(13,iv (Sort.partLoop BL a i j d).1)]++st),H'⟩) →
  LoopC (FW Tryz.prog w0 I0 M0 n0 m0) B3 Q ⟨lk [(0,HV n v 0),(1,iv a),(4,Dg),(12,iv i),(13,iv j)],H⟩:=by
 intro m;induction m using Nat.strongRecOn with
 |_ m ih=>
  intro i j d H hm h1 hi hj haj hij hd hH hq;rw[Sort.partLoop] at hq;have hu:=Mh (fun x=>BL x d[a]!) d j (j+1-i) i (Cb _);have lu:=fun (Q:Exit→Sta→Prop)=>Ag7 (n0:=n0) (w0:=w0) (I0:=I0) (M0:=M0) (m0:=m0) (Q:=Q) (v:=v) (a:=a) (j:=j) (H:=H) hn ha hj hd rfl hH (j+1-i) i (Cb _) hi;generalize Sort.scanUp (fun x=>BL x d[a]!) d j i=i2 at hq hu lu;have hi2:i2≤n:=by rcases hu.2 with h | h<;>omega
  have hdn:=IY (fun x=>!BL x d[a]!) d i2 (by omega) j;have ld:=fun (Q:Exit→Sta→Prop)=>Aft (n0:=n0) (w0:=w0) (I0:=I0) (M0:=M0) (m0:=m0) (Q:=Q) (v:=v) (a:=a) (i:=i2) (H:=H) hn ha hi2 (by omega) hd rfl hH j hj;generalize Sort.scanDown (fun x=>!BL x d[a]!) d i2 j=j2 at hq hdn ld;refine Ad Ai B3.eq_1 ?_;simp;refine lu _ fun st=>?_;simp;refine ld _ fun st2=>?_;by_cases hc:j2<i2
  ·rw[if_pos hc] at hq;simp[hc,show(j2:Int)<i2 by omega];exact hq H (iv i2) [(144,bv true)] hH (by rcases hdn.2 with h | h<;>omega) (by omega) hd
  ·rw[if_neg hc] at hq;have hg:j2-1+1-(i2+1)<j+1-i:=by omega
   rw[dif_pos hg] at hq;have h0:=hH [];simp only[Lo] at h0;have e1:=AM i2;have e2:i64.wrap ((j2:Int)-1)=((j2-1:Nat):Int):=Bl;have g1:=BF (d:=d) (i:=i2) (by omega);have g0:=BF (d:=d) (i:=j2) (by omega);have g2:=Iv (d:=d) (i:=i2) (j:=j2) (by omega) (by omega);have hs:=Lv (d:=d) (i:=i2) (j:=j2);generalize d[i2]! = x at g1 g2 hs;generalize d[j2]! = y at g0 g2 hs;simp[hc,show ¬ (j2:Int)<i2 by omega,h0,g0,g1,g2,e1,e2,show(i2:Int)<n by omega,show(j2:Int)<n by omega,show i2<n by omega,show j2<n by omega,Dk];refine LoopC.le (AE [(0,HV n v 0),(1,iv a),(4,Dg),(12,iv (i2+1:Nat)),(13,iv (j2-1:Nat))] (by simp)) ?_;exact ih (j2-1+1-(i2+1)) (by omega) (i2+1) (j2-1) (Sort.swp d i2 j2) _ (Cb _) (by omega) (by omega) (by omega) (by omega) (by omega) (by rw[FT];exact hd) (fun p=>by by_cases hp:p=[]<;>simp[hp,hs,Aa,hH]) hq
theorem AfN {n a:Nat} (hn:n≤900) (ha:a<n):∀ (m i j:Nat) (d:Array Sc) (H:Hp),j+1-i≤m→a+1≤i→i≤n→j<n→a≤j→i≤j+2→d.size=n→(∀ p,H (0::p)=(Bk d v).F 0 p) →
  (∀ (H':Hp) (x:A) (st:List (Nat × A)),(∀ p,H' (0::p)=(Bk (Sort.partEqLoop BL a i j d).2 v).F 0 p)→a<(Sort.partEqLoop BL a i j d).1→(Sort.partEqLoop BL a i j d).1≤n→(Sort.partEqLoop BL a i j d).2.size=n →
   Q (.exit 0) ⟨lk ([(0,HV n v 0),(1,iv a),(4,Dg),(11,iv (Sort.partEqLoop BL a i j d).1),(12,x)]++st),H'⟩) →
  LoopC (FW Tryz.prog w0 I0 M0 n0 m0) BG Q ⟨lk [(0,HV n v 0),(1,iv a),(4,Dg),(11,iv i),(12,iv j)],H⟩:=by
 intro m;induction m using Nat.strongRecOn with
 |_ m ih=>
  intro i j d H hm h1 hi hj haj hij hd hH hq;rw[Sort.partEqLoop] at hq;have hu:=Mh (fun x=>!BL d[a]! x) d j (j+1-i) i (Cb _);have lu:=fun (Q:Exit→Sta→Prop)=>Ah9 (n0:=n0) (w0:=w0) (I0:=I0) (M0:=M0) (m0:=m0) (Q:=Q) (v:=v) (a:=a) (j:=j) (H:=H) hn ha hj hd rfl hH (j+1-i) i (Cb _) hi;generalize Sort.scanUp (fun x=>!BL d[a]! x) d j i=i2 at hq hu lu;have hi2:i2≤n:=by rcases hu.2 with h | h<;>omega
  have hdn:=IY (fun x=>BL d[a]! x) d i2 (by omega) j;have ld:=fun (Q:Exit→Sta→Prop)=>Af1 (n0:=n0) (w0:=w0) (I0:=I0) (M0:=M0) (m0:=m0) (Q:=Q) (v:=v) (a:=a) (i:=i2) (H:=H) hn ha hi2 (by omega) hd rfl hH j hj;generalize Sort.scanDown (fun x=>BL d[a]! x) d i2 j=j2 at hq hdn ld;refine Ad Ai BG.eq_1 ?_;simp;refine lu _ fun st=>?_;simp;refine ld _ fun st2=>?_;by_cases hc:j2<i2
  ·rw[if_pos hc] at hq;simp[hc,show(j2:Int)<i2 by omega];exact hq H (iv j2) [(70,bv true)] hH (by omega) hi2 hd
  ·rw[if_neg hc] at hq;have hg:j2-1+1-(i2+1)<j+1-i:=by omega
   rw[dif_pos hg] at hq;have h0:=hH [];simp only[Lo] at h0;have e1:=AM i2;have e2:i64.wrap ((j2:Int)-1)=((j2-1:Nat):Int):=Bl;have g1:=BF (d:=d) (i:=i2) (by omega);have g0:=BF (d:=d) (i:=j2) (by omega);have g2:=Iv (d:=d) (i:=i2) (j:=j2) (by omega) (by omega);have hs:=Lv (d:=d) (i:=i2) (j:=j2);generalize d[i2]! = x at g1 g2 hs;generalize d[j2]! = y at g0 g2 hs;simp[hc,show ¬ (j2:Int)<i2 by omega,h0,g0,g1,g2,e1,e2,show(i2:Int)<n by omega,show(j2:Int)<n by omega,show i2<n by omega,show j2<n by omega,Dk];refine LoopC.le (AE [(0,HV n v 0),(1,iv a),(4,Dg),(11,iv (i2+1:Nat)),(12,iv (j2-1:Nat))] (by simp)) ?_;exact ih (j2-1+1-(i2+1)) (by omega) (i2+1) (j2-1) (Sort.swp d i2 j2) _ (Cb _) (by omega) (by omega) (by omega) (by omega) (by omega) (by rw[FT];exact hd) (fun p=>by by_cases hp:p=[]<;>simp[hp,hs,Aa,hH]) hq
theorem Y1 (d:Array Sc) (v a b q:Nat) (hn:d.size≤900) (hab:a+2≤b) (hb:b≤d.size) (hq:q<d.size):BR Tryz.prog 278 (fun r=>[HV d.size v r,iv a,iv b,iv q,Dg]) (Bk d v) (fun _=>.tup [iv (Sort.partition BL d a b q).1,bv (Sort.partition BL d a b q).2.1]) (Bk (Sort.partition BL d a b q).2.2 v):=by
 refine Ay Gx (by simp) (Ag (P4 _ _) (Ag Ax (Ag Ax (Ag Ax (Ag Ej Ap))))) (BP (Ag Ax (Ag Ax Ap))) fun w0 I0 M0 m0=>?_;obtain⟨n,hnn⟩:∃ n,d.size=n:=⟨_,rfl⟩;rw[hnn] at hn hb hq ⊢;have e1:=AM a;have e2:i64.wrap ((b:Int)-1)=((b-1:Nat):Int):=Bl;have g1:=BF (d:=d) (i:=a) (by omega);have g0:=BF (d:=d) (i:=q) (by omega);have g2:=Iv (d:=d) (i:=a) (j:=q) (by omega) (by omega);have hs:=Lv (d:=d) (i:=a) (j:=q);have hsz:(Sort.swp d a q).size=n:=by rw[FT];exact hnn
 obtain⟨R,hR⟩:∃ R,R=Sort.partition BL d a b q:=⟨_,rfl⟩;rw[← hR];unfold Sort.partition at hR;generalize d[a]! = x at g1 g2 hs;generalize d[q]! = y at g0 g2 hs;generalize hd1:Sort.swp d a q=d1 at hs hsz hR;have hu:=Mh (fun x=>BL x d1[a]!) d1 (b-1) (b-1+1-(a+1)) (a+1) (Cb _);have lu:=fun (Q:Exit→Sta→Prop) (H:Hp) (hH:∀ p,H (0::p)=(Bk d1 v).F 0 p)=>Ag0 (n0:=178) (w0:=w0) (I0:=I0) (M0:=M0) (m0:=m0) (Q:=Q) (v:=v) (a:=a) (j:=b-1) (H:=H) hn (by omega) (by omega) hsz rfl hH (b-1+1-(a+1)) (a+1) (Cb _) (by omega);simp only at hR;generalize Sort.scanUp (fun x=>BL x d1[a]!) d1 (b-1) (a+1)=i2 at hR hu lu;have hi2:i2≤n:=by rcases hu.2 with h | h<;>omega
 have hdn:=IY (fun x=>!BL x d1[a]!) d1 i2 (by omega) (b-1);have ld:=fun (Q:Exit→Sta→Prop) (H:Hp) (hH:∀ p,H (0::p)=(Bk d1 v).F 0 p)=>AfH (n0:=178) (w0:=w0) (I0:=I0) (M0:=M0) (m0:=m0) (Q:=Q) (v:=v) (a:=a) (i:=i2) (H:=H) hn (by omega) hi2 (by omega) hsz rfl hH (b-1) (by omega);generalize Sort.scanDown (fun x=>!BL x d1[a]!) d1 i2 (b-1)=j2 at hR hdn ld;have hj2:a≤j2:=by rcases hdn.2 with h | h<;>omega
 have hj2n:j2<n:=by omega
 unfold Dn;simp[g0,g1,g2,e1,e2,show(a:Int)<n by omega,show(q:Int)<n by omega,show a<n by omega,hq,Dk,Aa];refine LoopC.le (AE [(0,HV n v 0),(1,iv a),(4,Dg),(12,iv (a+1:Nat)),(13,iv (b-1:Nat))] (by simp)) ?_;have hH1:∀ p,(ov 0 (Bh ((Bk d v).F 0) [] ⟨v,.arr 2 (((d.toList.map KH).set a (KH y)).set q (KH x))⟩) (FA []):Hp) (0::p)=(Bk d1 v).F 0 p:=fun p=>by by_cases hp:p=[]<;>simp[hp,hs,Aa]
 refine lu _ _ hH1 fun st=>?_;simp;refine ld _ _ hH1 fun st2=>?_;have m1:=BF (d:=d1) (i:=a) (by omega);have m2:=BF (d:=d1) (i:=j2) (by omega);by_cases hc:j2<i2
 ·rw[if_pos hc] at hR;subst hR;have m3:=Iv (d:=d1) (i:=j2) (j:=a) (by omega) (by omega);have ms:=Lv (d:=d1) (i:=j2) (j:=a);rw[hs] at m1 m2 m3 ms;simp only;generalize d1[a]! = z at m1 m3 ms;generalize d1[j2]! = u at m2 m3 ms;generalize hL:(((d.toList.map KH).set a (KH y)).set q (KH x))=L at *;simp[hc,show(j2:Int)<i2 by omega,m1,m2,m3,Aa,show(a:Int)<n by omega,show(j2:Int)<n by omega,show a<n by omega,hj2n,Dk];exact AJ rfl rfl (fun p=>by by_cases hp:p=[]<;>simp[hp,ms,Aa])
 ·rw[if_neg hc] at hR;have e3:=AM i2;have e4:i64.wrap ((j2:Int)-1)=((j2-1:Nat):Int):=Bl;have m1:=BF (d:=d1) (i:=i2) (by omega);have m3:=Iv (d:=d1) (i:=i2) (j:=j2) (by omega) (by omega);have ms:=Lv (d:=d1) (i:=i2) (j:=j2);have hsz2:(Sort.swp d1 i2 j2).size=n:=by rw[FT];exact hsz
  rw[hs] at m1 m2 m3 ms;generalize d1[i2]! = z at m1 m3 ms;generalize d1[j2]! = u at m2 m3 ms;generalize hd2:Sort.swp d1 i2 j2=d2 at ms hsz2 hR;have l5:=fun (Q:Exit→Sta→Prop) (H:Hp) (hH:∀ p,H (0::p)=(Bk d2 v).F 0 p)=>Agz (n0:=178) (w0:=w0) (I0:=I0) (M0:=M0) (m0:=m0) (Q:=Q) (v:=v) hn (show a<n by omega) (j2-1+1-(i2+1)) (i2+1) (j2-1) d2 H (Cb _) (by omega) (by omega) (by omega) (by omega) (by omega) hsz2 hH;generalize Sort.partLoop BL a (i2+1) (j2-1) d2=T at hR l5;generalize hL:(((d.toList.map KH).set a (KH y)).set q (KH x))=L at *;simp[hc,show ¬ (j2:Int)<i2 by omega,m1,m2,m3,e3,e4,Aa,show(i2:Int)<n by omega,show(j2:Int)<n by omega,show i2<n by omega,hj2n,Dk];refine LoopC.le (AE [(0,HV n v 0),(1,iv a),(4,Dg),(12,iv (i2+1:Nat)),(13,iv (j2-1:Nat))] (by simp)) ?_;refine l5 _ _ (fun p=>by by_cases hp:p=[]<;>simp[hp,ms,Aa]) fun H' xx st3 hT t1 t2 t3=>?_;have h0:=hT [];simp only[Lo] at h0;have k1:=BF (d:=T.2) (i:=a) (by omega);have k2:=BF (d:=T.2) (i:=T.1) (by omega);have k3:=Iv (d:=T.2) (i:=T.1) (j:=a) (by omega) (by omega);have ks:=Lv (d:=T.2) (i:=T.1) (j:=a);subst hR;simp only;generalize T.2[a]! = z' at k1 k3 ks;generalize T.2[T.1]! = u' at k2 k3 ks;simp[h0,k1,k2,k3,show(a:Int)<n by omega,show(T.1:Int)<n by omega,show a<n by omega,t2,Dk];exact AJ rfl rfl (fun p=>by by_cases hp:p=[]<;>simp[hp,ks,hT,Aa])
theorem fM (d:Array Sc) (v a b q:Nat) (hn:d.size≤900) (hab:a+2≤b) (hb:b≤d.size) (hq:q<d.size):BR Tryz.prog 277 (fun r=>[HV d.size v r,iv a,iv b,iv q,Dg]) (Bk d v) (fun _=>iv (Sort.partitionEqual BL d a b q).1) (Bk (Sort.partitionEqual BL d a b q).2 v):=by
 refine Ay E5 (by simp) (Ag (P4 _ _) (Ag Ax (Ag Ax (Ag Ax (Ag Ej Ap))))) Ax fun w0 I0 M0 m0=>?_;obtain⟨n,hnn⟩:∃ n,d.size=n:=⟨_,rfl⟩;rw[hnn] at hn hb hq ⊢;have e1:=AM a;have e2:i64.wrap ((b:Int)-1)=((b-1:Nat):Int):=Bl;have g1:=BF (d:=d) (i:=a) (by omega);have g0:=BF (d:=d) (i:=q) (by omega);have g2:=Iv (d:=d) (i:=a) (j:=q) (by omega) (by omega);have hs:=Lv (d:=d) (i:=a) (j:=q);have hsz:(Sort.swp d a q).size=n:=by rw[FT];exact hnn
 unfold Sort.partitionEqual;generalize d[a]! = x at g1 g2 hs;generalize d[q]! = y at g0 g2 hs;generalize Sort.swp d a q=d1 at hs hsz ⊢;have l3:=fun (Q:Exit→Sta→Prop) (H:Hp) (hH:∀ p,H (0::p)=(Bk d1 v).F 0 p)=>AfN (n0:=90) (w0:=w0) (I0:=I0) (M0:=M0) (m0:=m0) (Q:=Q) (v:=v) hn (show a<n by omega) (b-1+1-(a+1)) (a+1) (b-1) d1 H (Cb _) (by omega) (by omega) (by omega) (by omega) (by omega) hsz hH;generalize Sort.partEqLoop BL a (a+1) (b-1) d1=T at l3 ⊢;unfold CE;simp[g0,g1,g2,e1,e2,show(a:Int)<n by omega,show(q:Int)<n by omega,show a<n by omega,hq,Dk,Aa];refine LoopC.le (AE [(0,HV n v 0),(1,iv a),(4,Dg),(11,iv (a+1:Nat)),(12,iv (b-1:Nat))] (by simp)) ?_;refine l3 _ _ (fun p=>by by_cases hp:p=[]<;>simp[hp,hs,Aa]) fun H' xx st hT t1 t2 t3=>?_;simp;exact AJ rfl rfl hT
abbrev AhN:List UInt8:=[0,1,2,2,3,3,3,3,4,4,4,4,4,4,4,4,5,5,5,5,5,5,5,5,5,5,5,5,5,5,5,5,6,6,6,6,6,6,6,6,6,6,6,6,6,6,6,6,6,6,6,6,6,6,6,6,6,6,6,6,6,6,6,6,7,7,7,7,7,7,7,7,7,7,7,7,7,7,7,7,7,7,7,7,7,7,7,7,7,7,7,7,7,7,7,7,7,7,7,7,7,7,7,7,7,7,7,7,7,7,7,7,7,7,7,7,7,7,7,7,7,7,7,7,7,7,7,7,8,8,8,8,8,8,8,8,8,8,8,8,8,8,8,8,8,8,8,8,8,8,8,8,8,8,8,8,8,8,8,8,8,8,8,8,8,8,8,8,8,8,8,8,8,8,8,8,8,8,8,8,8,8,8,8,8,8,8,8,8,8,8,8,8,8,8,8,8,8,8,8,8,8,8,8,8,8,8,8,8,8,8,8,8,8,8,8,8,8,8,8,8,8,8,8,8,8,8,8,8,8,8,8,8,8,8,8,8,8,8,8,8,8,8,8,8,8,8,8,8,8,8,8,8,8,8,8]
set_option maxRecDepth 100000 in
theorem Wv (n:Nat) (h:n<256):AhN[n]? = some (UInt8.ofNat (Sort.bitsLen n))∧Sort.bitsLen n≤8:=by
 have:∀ n:Fin 256,AhN[n.val]? = some (UInt8.ofNat (Sort.bitsLen n.val))∧Sort.bitsLen n.val≤8:=by decide +kernel
 exact this ⟨n,h⟩
set_option maxRecDepth 100000 in
theorem mC (n:Nat) (hn:n<256):G.Spec Tryz.prog 280 [uv n] (iv (Sort.bitsLen n)):=by
 refine Ah Re (by simp) fun w0 I0=>?_;unfold KX;simp[show ¬ (4294967296:Int)≤n by omega];rw[Kt.eq_1];simp[show ¬ (65536:Int)≤n by omega];rw[Ko.eq_1];obtain⟨ht,hb⟩:=Wv n hn;have hx:(UInt8.ofNat (Sort.bitsLen n)).toNat=Sort.bitsLen n:=by rw[UInt8.toNat_ofNat'];exact Nat.mod_eq_of_lt (by omega)
 generalize UInt8.ofNat (Sort.bitsLen n)=y at ht hx;have e1:i64.wrap (Sort.bitsLen n:Int)=(Sort.bitsLen n:Int):=Bv;have e2:IntKind.u8.wrap (n:Int)=(n:Int):=by rw[IntKind.wrap_u8];omega
 simp[show ¬ (256:Int)≤n by omega,ht,e2];rw[hx,e1,e1];exact Ab rfl
theorem Su (n:Nat) (hn:n<256):G.Spec Tryz.prog 265 [uv n] (iv (Sort.bitsLen n)):=by
 refine Ah VO (by simp) fun w0 I0=>?_;unfold Nj;simp;refine Ae (mC n hn) rfl ?_;simp;exact Ab rfl
theorem dU (n:Nat) (hn:n<256):G.Spec Tryz.prog 282 [iv n] (uv (1 <<< Sort.bitsLen n:Nat)):=by
 refine Ah Ma (by simp) fun w0 I0=>?_;obtain⟨_,hb⟩:=Wv n hn;have e1:u64.wrap (n:Int)=(n:Int):=Bw (by omega) (by omega);have h2:(2:Nat) ^ Sort.bitsLen n≤2 ^ 8:=Nat.pow_le_pow_right (by omega) hb;have h3:((2 ^ Sort.bitsLen n:Nat):Int)<18446744073709551616:=Int.ofNat_lt.2 (Nat.lt_of_le_of_lt h2 (by decide));have e2:u64.wrap (2 ^ min (Sort.bitsLen n) u64.bits:Int)=((1 <<< Sort.bitsLen n:Nat):Int):=by
  rw[show min (Sort.bitsLen n) u64.bits=Sort.bitsLen n from Nat.min_eq_left (Nat.le_trans hb (by decide)),Nat.one_shiftLeft];rw[show((2:Int) ^ Sort.bitsLen n)=((2 ^ Sort.bitsLen n:Nat):Int) by simp];exact Bw (Int.natCast_nonneg _) h3
 generalize hz:((1 <<< Sort.bitsLen n:Nat):Int)=z at e2 ⊢;unfold G6;simp[e1];refine Ae (Su n hn) rfl ?_;simp[e2];exact Ab rfl
theorem Ag8 (s:UInt64) (k:UInt64) (hk:k.toNat<64):bits .xor .u64 (s.toNat:Int) (u64.wrap ((s.toNat:Int)*2 ^ k.toNat))=((s ^^^ (s <<< k)).toNat:Int):=by
 have h:=s.toNat_lt;have e:u64.wrap ((s.toNat:Int)*2 ^ k.toNat)=((s <<< k).toNat:Int):=by
  rw[IntKind.wrap_u64,UInt64.toNat_shiftLeft,Nat.mod_eq_of_lt hk,Nat.shiftLeft_eq];rw[show((s.toNat:Int)*2 ^ k.toNat)=((s.toNat*2 ^ k.toNat:Nat):Int) by simp];omega
 rw[e,bits_xor_u64_nat _ _ h (s <<< k).toNat_lt,UInt64.toNat_xor]
theorem AkM (s:UInt64) (k:UInt64) (hk:k.toNat<64):bits .xor .u64 (s.toNat:Int) ((s.toNat:Int) / 2 ^ k.toNat)=((s ^^^ (s >>> k)).toNat:Int):=by
 have h:=s.toNat_lt;have e:(s.toNat:Int) / 2 ^ k.toNat=((s >>> k).toNat:Int):=by
  rw[UInt64.toNat_shiftRight,Nat.mod_eq_of_lt hk,Nat.shiftRight_eq_div_pow];simp
 rw[e,bits_xor_u64_nat _ _ h (s >>> k).toNat_lt,UInt64.toNat_xor]
def ceU (s:UInt64):Fam:=⟨fun r p=>if p=[] then ⟨1,.cells [uv s.toNat]⟩ else ⟨0,.none⟩,fun {g δ r r'} hg hd p=>by
  by_cases h1:p=[]
  ·rw[if_pos h1];exact Fam.cells_ren (by simp[A.renL,A.ren])
  ·rw[if_neg h1];rfl,fun {D r} hD p=>by
  by_cases h1:p=[]
  ·rw[if_pos h1];simp[Ob.refs,A.refsL,A.refs]
  ·rw[if_neg h1];trivial⟩
@[simp] theorem Alc {s:UInt64} {r:Nat} {p:Nm}:(ceU s).F r p=if p=[] then ⟨1,.cells [uv s.toNat]⟩ else ⟨0,.none⟩:=rfl
theorem ib (s:UInt64):BR Tryz.prog 283 (fun r=>[ceP r]) (ceU s) (fun _=>uv (Sort.xorNext s).toNat) (ceU (Sort.xorNext s)):=by
 refine Ay MF (by simp) (Ag Bi Ap) Ax fun w0 I0 M0 m0=>?_;unfold HI;simp[Aa];have x1:bits .xor .u64 (s.toNat:Int) (u64.wrap ((s.toNat:Int)*2 ^ min 13 u64.bits))=((s ^^^ (s <<< 13)).toNat:Int):=Ag8 s 13 (by decide);rw[x1];have x2:=fun r:UInt64=>AkM r 7 (by decide);have x2':∀ r:UInt64,bits .xor .u64 (r.toNat:Int) ((r.toNat:Int) / 2 ^ min 7 u64.bits)=((r ^^^ (r >>> 7)).toNat:Int):=fun r=>x2 r;rw[x2'];have x3:∀ r:UInt64,bits .xor .u64 (r.toNat:Int) (u64.wrap ((r.toNat:Int)*2 ^ min 17 u64.bits))=((r ^^^ (r <<< 17)).toNat:Int):=fun r=>Ag8 r 17 (by decide);rw[x3];exact AJ rfl rfl (fun p=>by by_cases hp:p=[]<;>simp[hp,Aa,Sort.xorNext])
theorem OI (a l m:Nat) (st:UInt64 × Array Sc) (i:Nat):(Sort.breakStep a l m st i).2.size=st.2.size:=by
 unfold Sort.breakStep;exact FT
theorem Aam {n a l k:Nat} (hn:n≤900) (hal:a+l≤n) (h13:13≤l) (h16:l≤49) (hk:k=Sort.bitsLen l) {i:Nat} (hi:i<n) (hib:i≤a+l / 4*2+1) {r:UInt64} {d:Array Sc} {H:Hp} (hd:d.size=n) (hH:∀ p,H (0::p)=(Bk d v).F 0 p) (hG:∀ p,H (1::p)=(ceU r).F 1 p)
  (hq:∀ H':Hp,(∀ p,H' (0::p)=(Bk (Sort.breakStep a l (1 <<< k) (r,d) i).2 v).F 0 p)→(∀ p,H' (1::p)=(ceU (Sort.breakStep a l (1 <<< k) (r,d) i).1).F 1 p)→LoopC (FW Tryz.prog w0 I0 M0 n0 m0) Az Q ⟨lk [(0,HV n v 0),(1,iv a),(8,iv l),(9,ceP 1),(10,uv (1 <<< k:Nat)),(11,iv (i+1:Nat))],H'⟩) :
  LoopC (FW Tryz.prog w0 I0 M0 n0 m0) Az Q ⟨lk [(0,HV n v 0),(1,iv a),(8,iv l),(9,ceP 1),(10,uv (1 <<< k:Nat)),(11,iv i)],H⟩:=by
 have hN:=ib r;obtain⟨m,hm⟩:∃ m,m=(1 <<< k:Nat):=⟨_,rfl⟩;obtain⟨q4,hq4⟩:∃ q4,q4=l / 4:=⟨_,rfl⟩;have e1:i64.wrap ((l:Int).tdiv 4)=(q4:Int):=by rw[Int.tdiv_eq_ediv_of_nonneg (by omega),Av (by omega) (by omega)];omega
 have e1':i64.wrap ((l:Int) / 4)=(q4:Int):=Bl;have e2:i64.wrap ((q4:Int)*2)=(q4:Int)*2:=Bv;have e3:i64.wrap ((a:Int)+(q4:Int)*2)=(a:Int)+(q4:Int)*2:=Bv;have e4:i64.wrap ((a:Int)+(q4:Int)*2+1)=(a:Int)+(q4:Int)*2+1:=Bv;rw[← hm] at hq ⊢;refine Ad Ai Az.eq_1 ?_;simp[e1,e1',e2,e3,e4,show(i:Int)≤(a:Int)+(q4:Int)*2+1 by omega];refine AA 1 hN hG (by simp) (by simp) ?_;simp;have hX:=(Sort.xorNext r).toNat_lt;have hml:m≤2*l:=by
  rw[hm,hk,Nat.one_shiftLeft];exact Sort.two_pow_bitsLen_le (by omega)
 have hm1:1≤m:=by
  rw[hm,Nat.one_shiftLeft];exact Nat.one_le_two_pow
 obtain⟨o,ho⟩:∃ o,o=(Sort.xorNext r).toNat &&& (m-1):=⟨_,rfl⟩;have hol:o≤m-1:=by rw[ho];exact Nat.and_le_right
 have eA:bits .and .u64 ((Sort.xorNext r).toNat:Int) (u64.wrap ((m:Int)-1))=(o:Int):=by
  rw[show u64.wrap ((m:Int)-1)=((m-1:Nat):Int) by rw[Bw (by omega) (by omega)];omega,bits_and_u64_nat _ _ hX (by omega),← ho]
 have eB:i64.wrap (o:Int)=(o:Int):=Bv;have e5:=AM i;have fin:∀ o2:Nat,o2<l→Sort.breakStep a l m (r,d) i=(Sort.xorNext r,Sort.swp d i (a+o2))→WPC (FW Tryz.prog w0 I0 M0 n0 m0) BK
   (Cq 1 (Ht (WPC (FW Tryz.prog w0 I0 M0 n0 m0) (.keep [0,1,8,9,10,11] (.reg [co (some 36) (.move (.tmp 11)) none,co (some 37) (.binOp .add 3 (.tmp 36) (.const (.int .i64 1)) 3) none,co (some 11) (.assign (.tmp 37)) none] [0,1,8,9,10,11]))
    (Ht (LoopC (FW Tryz.prog w0 I0 M0 n0 m0) Az Q) Q)) (Ht (LoopC (FW Tryz.prog w0 I0 M0 n0 m0) Az Q) Q)))
   ⟨lk [(0,HV n v 0),(1,iv a),(8,iv l),(9,ceP 1),(10,uv m),(11,iv i),(12,iv o2)],ov 1 ((ceU (Sort.xorNext r)).F 1) H⟩:=fun o2 ho2 hst=>by
  have h0:=hH [];simp only[Lo] at h0;have e6:i64.wrap ((a:Int)+(o2:Int))=((a+o2:Nat):Int):=Bl;have g1:=BF (d:=d) (i:=i) (by omega);have g0:=BF (d:=d) (i:=a+o2) (by omega);have g2:=Iv (d:=d) (i:=i) (j:=a+o2) (by omega) (by omega);have hs:=Lv (d:=d) (i:=i) (j:=a+o2);rw[hst] at hq;generalize d[i]! = x at g1 g2 hs;generalize d[a+o2]! = y at g0 g2 hs;have hj:((a+o2:Nat):Int)<n:=by omega
  have hj':a+o2<n:=by omega
  generalize Sort.swp d i (a+o2)=d2 at hs hq;generalize a+o2=jj at e6 g0 g2 hs hj hj';rw[BK.eq_1];simp[e6,h0,g0,g1,g2,e5,show(i:Int)<n by omega,hi,hj,hj',Dk];exact hq _ (fun p=>by by_cases hp:p=[]<;>simp[hp,hs,Aa,hH]) (fun p=>by simp[Aa])
 simp only[eA,eB];have hbs:Sort.breakStep a l m (r,d) i=(Sort.xorNext r,Sort.swp d i (a+(if o ≥ l then o-l else o))):=by
  unfold Sort.breakStep;simp only[← ho]
 by_cases hc:l≤o
 ·rw[if_pos (show o ≥ l from hc)] at hbs;refine⟨fun _=>?_,fun h=>by omega⟩;have e7:i64.wrap ((o:Int)-l)=((o-l:Nat):Int):=Bl;rw[e7];exact fin (o-l) (by omega) hbs
 ·rw[if_neg hc] at hbs;refine⟨fun h=>by omega,fun _=>?_⟩;exact fin o (by omega) hbs
theorem kI (d:Array Sc) (v a b:Nat) (hn:d.size≤900) (hab:a+13≤b) (hb:b≤d.size) (hl:b-a<50):BR Tryz.prog 273 (fun r=>[HV d.size v r,iv a,iv b,Dg]) (Bk d v) (fun _=>.tup []) (Bk (Sort.breakPatterns d a b) v):=by
 refine Ay Fw (by simp) (Ag (P4 _ _) (Ag Ax (Ag Ax (Ag Ej Ap)))) (BP Ap) fun w0 I0 M0 m0=>?_;obtain⟨n,hnn⟩:∃ n,d.size=n:=⟨_,rfl⟩;rw[hnn] at hn hb ⊢;obtain⟨l,hll⟩:∃ l,l=b-a:=⟨_,rfl⟩;obtain⟨q4,hq4⟩:∃ q4,q4=l / 4:=⟨_,rfl⟩;have e0:i64.wrap ((b:Int)-a)=(l:Int):=Bl;have e1:i64.wrap ((l:Int).tdiv 4)=(q4:Int):=by rw[Int.tdiv_eq_ediv_of_nonneg (by omega),Av (by omega) (by omega)];omega
 have e1':i64.wrap ((l:Int) / 4)=(q4:Int):=Bl;have e2:i64.wrap ((q4:Int)*2)=(q4:Int)*2:=Bv;have e3:i64.wrap ((a:Int)+(q4:Int)*2)=(a:Int)+(q4:Int)*2:=Bv;have e4:i64.wrap ((a:Int)+(q4:Int)*2-1)=((a+q4*2-1:Nat):Int):=Bl;have e5:i64.wrap ((a:Int)+(q4:Int)*2+1)=(a:Int)+(q4:Int)*2+1:=Bv;have eu:u64.wrap (l:Int)=(l:Int):=Bw (by omega) (by omega);have hNx:=dU l (by omega);have ho:(UInt64.ofNat l).toNat=l:=by rw[UInt64.toNat_ofNat'];exact Nat.mod_eq_of_lt (by omega)
 unfold Sort.breakPatterns;simp only[← hll,ge_iff_le,if_pos (show 8≤l by omega),← hq4];have st:=@Aam (n0:=67) w0 I0 M0 m0;generalize hid:a+q4*2-1=id0 at e4 ⊢;unfold CN;generalize hmm:(1 <<< Sort.bitsLen l:Nat)=mm at hNx ⊢;simp[e0,eu,show(8:Int)≤l by omega,Aa];refine Ae hNx rfl ?_;simp[e1,e1',e2,e3,e4];rw[← hmm];refine st hn (by omega) (by omega) (by omega) rfl (i:=id0) (r:=UInt64.ofNat l) (d:=d) (by omega) (by omega) hnn (fun p=>by simp) (fun p=>?_) fun H1 f1 g1=>?_
 ·by_cases hp:p=[]
  ·subst hp;simp[FA,ho]
  ·simp[FA,hp,Ne.symm hp]
 have s1:=OI a l (1 <<< Sort.bitsLen l) (UInt64.ofNat l,d) id0;simp only[hnn] at s1;generalize Sort.breakStep a l (1 <<< Sort.bitsLen l) (UInt64.ofNat l,d) id0=S1 at f1 g1 s1 ⊢;refine st hn (by omega) (by omega) (by omega) rfl (i:=id0+1) (r:=S1.1) (d:=S1.2) (by omega) (by omega) s1 f1 g1 fun H2 f2 g2=>?_;have s2:=OI a l (1 <<< Sort.bitsLen l) (S1.1,S1.2) (id0+1);simp only[s1] at s2;have eS:(S1.1,S1.2)=S1:=rfl;rw[eS] at f2 g2 s2;generalize Sort.breakStep a l (1 <<< Sort.bitsLen l) S1 (id0+1)=S2 at f2 g2 s2 ⊢;refine st hn (by omega) (by omega) (by omega) rfl (i:=id0+1+1) (r:=S2.1) (d:=S2.2) (by omega) (by omega) s2 f2 g2 fun H3 f3 g3=>?_;refine Ad Ai Az.eq_1 ?_;have big:¬ ((id0+1+1+1:Nat):Int)≤(a:Int)+(q4:Int)*2+1:=by omega
 generalize id0+1+1+1=id3 at big ⊢;simp[e1,e1',e2,e3,e5,big];exact A0 rfl rfl (fun p=>f3 p)
def pq1 (d:Array Sc) (a b lim q:Nat) (wb wp:Bool):Array Sc:=
 if (decide (a > 0)&&!BL d[a-1]! d[q]!)=true then
  if a<(Sort.partitionEqual BL d a b q).1∧(Sort.partitionEqual BL d a b q).1≤b then Sort.pdq BL (Sort.partitionEqual BL d a b q).2 (Sort.partitionEqual BL d a b q).1 b lim wb wp else (Sort.partitionEqual BL d a b q).2
 else
  if a≤(Sort.partition BL d a b q).1∧(Sort.partition BL d a b q).1<b then
   if (Sort.partition BL d a b q).1-a<b-(Sort.partition BL d a b q).1 then
    Sort.pdq BL (Sort.pdq BL (Sort.partition BL d a b q).2.2 a (Sort.partition BL d a b q).1 lim true true) ((Sort.partition BL d a b q).1+1) b lim (decide ((Sort.partition BL d a b q).1-a ≥ (b-a) / 8)) (Sort.partition BL d a b q).2.1
   else
    Sort.pdq BL (Sort.pdq BL (Sort.partition BL d a b q).2.2 ((Sort.partition BL d a b q).1+1) b lim true true) a (Sort.partition BL d a b q).1 lim (decide (b-(Sort.partition BL d a b q).1 ≥ (b-a) / 8)) (Sort.partition BL d a b q).2.1
  else (Sort.partition BL d a b q).2.2
def pq2 (d:Array Sc) (a b lim q:Nat) (hint:Sort.Hint) (wb wp:Bool):Array Sc:=
 if (wb&&wp&&decide (hint = .increasing))=true then
  if (Sort.partialInsertionSort BL d a b).2=true then (Sort.partialInsertionSort BL d a b).1 else pq1 (Sort.partialInsertionSort BL d a b).1 a b lim q wb wp
 else pq1 d a b lim q wb wp
def zZ (d:Array Sc) (a b lim:Nat) (wb wp:Bool):Array Sc:=
 if (Sort.choosePivot BL d a b).2 = .decreasing then pq2 (Sort.reverseRange d a b) a b lim ((b-1)-((Sort.choosePivot BL d a b).1-a)) .increasing wb wp
 else pq2 d a b lim (Sort.choosePivot BL d a b).1 (Sort.choosePivot BL d a b).2 wb wp
theorem ya (d:Array Sc) (a b lim:Nat) (wb wp:Bool):Sort.pdq BL d a b lim wb wp=if b-a≤12 then Sort.insertionSort BL d a b else if lim=0 then Sort.heapSort BL d a b else
  if wb=true then zZ d a b lim wb wp else zZ (Sort.breakPatterns d a b) a b (lim-1) wb wp:=by
 rw[Sort.pdq];split
 ·rfl
 ·split
  ·rfl
  ·have main:∀ (d:Array Sc) (lim:Nat),(let c:=Sort.choosePivot BL d a b
    let d2:=if c.2 = .decreasing then Sort.reverseRange d a b else d
    let pivot:=if c.2 = .decreasing then (b-1)-(c.1-a) else c.1
    let hint:=if c.2 = .decreasing then Sort.Hint.increasing else c.2
    let pi:=if (wb&&wp&&hint = .increasing)=true then Sort.partialInsertionSort BL d2 a b else (d2,false)
    if pi.2=true then pi.1 else pq1 pi.1 a b lim pivot wb wp)=zZ d a b lim wb wp:=fun d lim=>by
    simp only;unfold zZ pq2;by_cases hd:(Sort.choosePivot BL d a b).2 = .decreasing
    ·simp only[hd,if_true];cases wb<;>cases wp<;>simp
    ·simp only[hd,if_false];by_cases hw:(wb&&wp&&decide ((Sort.choosePivot BL d a b).2 = .increasing))=true
     ·rw[if_pos hw,if_pos hw]
     ·rw[if_neg hw,if_neg hw];simp
   cases wb with
   |true=>
    rw[if_pos rfl,← main];simp only[Bool.not_true,Bool.false_eq_true,if_false];unfold pq1;rfl
   |false=>
    have e2:(if (false:Bool)=true then zZ d a b lim false wp else zZ (Sort.breakPatterns d a b) a b (lim-1) false wp)=zZ (Sort.breakPatterns d a b) a b (lim-1) false wp:=if_neg (by simp);rw[e2,← main];simp only[Bool.not_false,if_true];unfold pq1;rfl
def cd (l lim:Nat) (wb:Bool):Prop:=l≤12∨(l-12)+(if wb=true then 0 else 1)≤lim
section
variable {v n:Nat}
theorem NA {l l' lim:Nat} (wb:Bool) (h:l'<l) (h2:l-12≤lim):cd l' lim wb:=by
 unfold cd;by_cases h3:l'≤12
 ·exact .inl h3
 ·right;split<;>omega
def LPs (v n a b lim:Nat) (wb wp:Bool) (d:Array Sc):Prop:=∀ {n0:Nat} {w0:World} {I0:Nat→Prop} {M0:Nm→Nat→Prop} {m0:Mu} {Q:Exit→Sta→Prop} (H:Hp),(∀ p,H (0::p)=(Bk d v).F 0 p) →
  (∀ (H':Hp) (st:List (Nat × A)),(∀ p,H' (0::p)=(Bk (Sort.pdq BL d a b lim wb wp) v).F 0 p)→Q .ret ⟨lk st,H'⟩) →
  LoopC (FW Tryz.prog w0 I0 M0 n0 m0) AK Q ⟨lk [(0,HV n v 0),(1,iv a),(2,iv b),(3,iv lim),(4,Dg),(10,bv wb),(11,bv wp)],H⟩
def PQs (v n a b lim:Nat) (d:Array Sc):Prop:=BR Tryz.prog 264 (fun r=>[HV n v r,iv a,iv b,iv lim,Dg]) (Bk d v) (fun _=>.tup []) (Bk (Sort.pdq BL d a b lim true true) v)
theorem jw {a b lim:Nat} {d:Array Sc} (h:LPs v n a b lim true true d):PQs v n a b lim d:=by
 refine Ay Hd (by simp) (Ag (P4 _ _) (Ag Ax (Ag Ax (Ag Ax (Ag Ej Ap))))) (BP Ap) fun w0 I0 M0 m0=>?_;unfold DD;simp;refine LoopC.le (AE [(0,HV n v 0),(1,iv a),(2,iv b),(3,iv lim),(4,Dg),(10,bv true),(11,bv true)] (by simp)) ?_;refine h _ (fun p=>by simp) fun H' st h'=>?_;simp;exact A0 rfl rfl (fun p=>h' p)
end
theorem m8 (a:Nat):∀ (m i j J:Nat) (d:Array Sc),j+1-i≤m→1≤i→i≤J+1→j≤J→i≤(Sort.partEqLoop BL a i j d).1∧(Sort.partEqLoop BL a i j d).1≤J+1∧(Sort.partEqLoop BL a i j d).2.size=d.size:=by
 intro m;induction m using Nat.strongRecOn with
 |_ m ih=>
  intro i j J d hm h1 hi hj;rw[Sort.partEqLoop];have hu:=Mh (fun x=>!BL d[a]! x) d j (j+1-i) i (Cb _);generalize Sort.scanUp (fun x=>!BL d[a]! x) d j i=i2 at hu ⊢;have hdn:=IY (fun x=>BL d[a]! x) d i2 (by omega) j;generalize Sort.scanDown (fun x=>BL d[a]! x) d i2 j=j2 at hdn ⊢;by_cases hc:i2 > j2
  ·simp only[hc,if_true];refine⟨hu.1,?_,trivial⟩;rcases hu.2 with h | h<;>omega
  ·have hg:j2-1+1-(i2+1)<j+1-i:=by omega
   simp only[hc,if_false,dif_pos hg];have:=ih (j2-1+1-(i2+1)) (by omega) (i2+1) (j2-1) J (Sort.swp d i2 j2) (Cb _) (by omega) (by omega) (by omega);rw[FT] at this;omega
theorem qV (d:Array Sc) (a b q:Nat) (hab:a+2≤b):a<(Sort.partitionEqual BL d a b q).1∧(Sort.partitionEqual BL d a b q).1≤b∧(Sort.partitionEqual BL d a b q).2.size=d.size:=by
 unfold Sort.partitionEqual;have:=m8 a (b-1+1-(a+1)) (a+1) (b-1) (b-1) (Sort.swp d a q) (Cb _) (by omega) (by omega) (Cb _);rw[FT] at this;omega
theorem Agv:Sort.SWO BL where
 irrefl x:=by simp[BL]
 trans x y z h1 h2:=by simp[BL] at *; omega
 ntrans x y z h1 h2:=by simp[BL] at *; omega
theorem yO (d:Array Sc) (a b q:Nat) (h1:a≤q) (h2:q<b) (hb:b≤d.size):a≤(Sort.partition BL d a b q).1∧(Sort.partition BL d a b q).1<b∧(Sort.partition BL d a b q).2.2.size=d.size:=by
 obtain⟨k1,k2,k3,_⟩:=Sort.partition_holds BL Agv d a b q h1 h2 hb;exact⟨k1,k2,k3.1⟩
theorem ME (d:Array Sc) (a b lim:Nat) (h:b-a≤12):(Sort.pdq BL d a b lim true true).size=d.size:=by
 rw[ya,if_pos h];exact PX BL a b (b-(a+1)) (a+1) d (Cb _)
section
variable {n0:Nat} {w0:World} {I0:Nat→Prop} {M0:Nm→Nat→Prop} {m0:Mu} {Q:Exit→Sta→Prop} {v n:Nat}
theorem Ago {a b lim q l:Nat} {wb wp:Bool} {d:Array Sc} (hn:n≤900) (hd:d.size=n) (hab:a+13≤b) (hb:b≤n) (hl:l=b-a) (hl24:l≤24) (hq1:a≤q) (hq2:q<b) (hlim:l-12≤lim) (hlm:lim≤900)
  (ihL:∀ (a' b' lim':Nat) (wb' wp':Bool) (d':Array Sc),d'.size=n→a'≤b'→b'≤n→b'-a'<l→lim'≤900→cd (b'-a') lim' wb'→LPs v n a' b' lim' wb' wp' d')
  {H:Hp} (hH:∀ p,H (0::p)=(Bk d v).F 0 p) (hq:∀ (H':Hp) (st:List (Nat × A)),(∀ p,H' (0::p)=(Bk (pq1 d a b lim q wb wp) v).F 0 p)→Q .ret ⟨lk st,H'⟩) :
  WPC (FW Tryz.prog w0 I0 M0 n0 m0) BB (Cq 1 (Ht (LoopC (FW Tryz.prog w0 I0 M0 n0 m0) AK Q) Q)) ⟨lk [(0,HV n v 0),(1,iv a),(2,iv b),(3,iv lim),(4,Dg),(10,bv wb),(11,bv wp),(12,iv l),(13,iv q)],H⟩:=by
 have hP:=Y1 d v a b q (by omega) (by omega) (by omega) (by omega);have hE:=fM d v a b q (by omega) (by omega) (by omega) (by omega);obtain⟨p1,p2,p3⟩:=yO d a b q hq1 hq2 (by omega);obtain⟨c1,c2,c3⟩:=qV d a b q (by omega);unfold pq1 at hq;rw[if_pos (show a<(Sort.partitionEqual BL d a b q).1∧(Sort.partitionEqual BL d a b q).1≤b from⟨c1,c2⟩),if_pos (show a≤(Sort.partition BL d a b q).1∧(Sort.partition BL d a b q).1<b from⟨p1,p2⟩)] at hq;generalize Sort.partitionEqual BL d a b q=E at hE c1 c2 c3 hq;generalize Sort.partition BL d a b q=R at hP p1 p2 p3 hq;obtain⟨mid,ap,d4⟩:=R;simp only at hP p1 p2 p3 hq;rw[hd] at hP hE p3 c3;have f1:i64.wrap ((mid:Int)-a)=((mid-a:Nat):Int):=Bl;have f2:i64.wrap ((b:Int)-mid)=((b-mid:Nat):Int):=Bl;have f3:i64.wrap ((l:Int).tdiv 8)=((l / 8:Nat):Int):=by rw[Int.tdiv_eq_ediv_of_nonneg (by omega),Av (by omega) (by omega)];omega
 have f4:i64.wrap ((l:Int) / 8)=((l / 8:Nat):Int):=Bl;have f5:=AM mid;rw[BB.eq_1];by_cases ha0:0<a
 ·have h0:=hH [];simp only[Lo] at h0;have g1:=BF (d:=d) (i:=a-1) (by omega);have g0:=BF (d:=d) (i:=q) (by omega);have hc:=ZE d[a-1]! d[q]!;have f6:i64.wrap ((a:Int)-1)=((a-1:Nat):Int):=Bl;generalize d[a-1]! = x at g1 hc hq;generalize d[q]! = y at g0 hc hq;simp[show(0:Int)<a by omega,ha0,h0,f6,g1,g0,show(q:Int)<n by omega,show q<n by omega,show a-1<n by omega,show((a-1:Nat):Int)<n by omega,Dk];rw[AB];simp;refine EW rfl (D3 x y) (by simp) rfl ?_;cases hL:BL x y with
  |false=>
   rw[hL] at hc hq;rw[if_pos (by simp;omega)] at hq;have hc':¬ E6 x.i y.i<0:=by simpa using hc
   simp[hc'];refine AA 0 hE hH (by simp) (by simp) ?_;simp;exact ihL E.1 b lim wb wp E.2 c3 (by omega) hb (by omega) hlm (NA _ (by omega) hlim) _ (fun p=>by simp) hq
  |true=>
   rw[hL] at hc hq;rw[if_neg (by simp)] at hq;have hc':E6 x.i y.i<0:=by simpa using hc
   simp[hc'];refine AA 0 hP hH (by simp) (by simp) ?_;simp[f1,f2,f3,f4,f5];refine⟨fun hs=>?_,fun hs=>?_⟩
   ·rw[if_pos hs] at hq;have hS:PQs v n a mid lim d4:=jw (ihL a mid lim true true d4 p3 (by omega) (by omega) (by omega) hlm (.inl (by omega)));have hsz:=ME d4 a mid lim (by omega);have hdec:decide ((l:Int) / 8≤((mid-a:Nat):Int))=decide (mid-a ≥ (b-a) / 8):=by rw[decide_eq_decide];omega
    refine AA 0 hS (fun p=>by simp) (by simp) (by simp) ?_;simp[f5];rw[hdec];refine LoopC.le (AE [(0,HV n v 0),(1,iv (mid+1:Nat)),(2,iv b),(3,iv lim),(4,Dg),(10,bv (decide (mid-a ≥ (b-a) / 8))),(11,bv ap)] (by simp)) ?_;exact ihL (mid+1) b lim _ ap _ (by rw[hsz];exact p3) (by omega) hb (by omega) hlm (NA _ (by omega) hlim) _ (fun p=>by simp) hq
   ·have hs':¬ mid-a<b-mid:=by omega
    rw[if_neg hs'] at hq;have hS:PQs v n (mid+1) b lim d4:=jw (ihL (mid+1) b lim true true d4 p3 (by omega) (by omega) (by omega) hlm (.inl (by omega)));have hsz:=ME d4 (mid+1) b lim (by omega);have hdec:decide ((l:Int) / 8≤((b-mid:Nat):Int))=decide (b-mid ≥ (b-a) / 8):=by rw[decide_eq_decide];omega
    refine AA 0 hS (fun p=>by simp) (by simp) (by simp) ?_;simp;rw[hdec];exact ihL a mid lim _ ap _ (by rw[hsz];exact p3) (by omega) (by omega) (by omega) hlm (NA _ (by omega) hlim) _ (fun p=>by simp) hq
 ·rw[if_neg (by simp;omega)] at hq;have ha00:a=0:=by omega
  simp[show ¬ (0:Int)<a by omega,ha0];rw[AB];simp;refine AA 0 hP hH (by simp) (by simp) ?_;simp[f1,f2,f3,f4,f5];refine⟨fun hs=>?_,fun hs=>?_⟩
  ·rw[if_pos hs] at hq;have hS:PQs v n a mid lim d4:=jw (ihL a mid lim true true d4 p3 (by omega) (by omega) (by omega) hlm (.inl (by omega)));have hsz:=ME d4 a mid lim (by omega);have hdec:decide ((l:Int) / 8≤((mid-a:Nat):Int))=decide (mid-a ≥ (b-a) / 8):=by rw[decide_eq_decide];omega
   refine AA 0 hS (fun p=>by simp) (by simp) (by simp) ?_;simp[f5];rw[hdec];refine LoopC.le (AE [(0,HV n v 0),(1,iv (mid+1:Nat)),(2,iv b),(3,iv lim),(4,Dg),(10,bv (decide (mid-a ≥ (b-a) / 8))),(11,bv ap)] (by simp)) ?_;exact ihL (mid+1) b lim _ ap _ (by rw[hsz];exact p3) (by omega) hb (by omega) hlm (NA _ (by omega) hlim) _ (fun p=>by simp) hq
  ·have hs':¬ mid-a<b-mid:=by omega
   rw[if_neg hs'] at hq;have hS:PQs v n (mid+1) b lim d4:=jw (ihL (mid+1) b lim true true d4 p3 (by omega) (by omega) (by omega) hlm (.inl (by omega)));have hsz:=ME d4 (mid+1) b lim (by omega);have hdec:decide ((l:Int) / 8≤((b-mid:Nat):Int))=decide (b-mid ≥ (b-a) / 8):=by rw[decide_eq_decide];omega
   refine AA 0 hS (fun p=>by simp) (by simp) (by simp) ?_;simp;rw[hdec];exact ihL a mid lim _ ap _ (by rw[hsz];exact p3) (by omega) (by omega) (by omega) hlm (NA _ (by omega) hlim) _ (fun p=>by simp) hq
theorem Abp {a b lim q l:Nat} {wb wp:Bool} {h:Sort.Hint} {d:Array Sc} (hn:n≤900) (hd:d.size=n) (hab:a+13≤b) (hb:b≤n) (hl:l=b-a) (hl24:l≤24) (hq1:a≤q) (hq2:q<b) (hlim:l-12≤lim) (hlm:lim≤900)
  (ihL:∀ (a' b' lim':Nat) (wb' wp':Bool) (d':Array Sc),d'.size=n→a'≤b'→b'≤n→b'-a'<l→lim'≤900→cd (b'-a') lim' wb'→LPs v n a' b' lim' wb' wp' d')
  {H:Hp} (hH:∀ p,H (0::p)=(Bk d v).F 0 p) (hq:∀ (H':Hp) (st:List (Nat × A)),(∀ p,H' (0::p)=(Bk (pq2 d a b lim q h wb wp) v).F 0 p)→Q .ret ⟨lk st,H'⟩) :
  WPC (FW Tryz.prog w0 I0 M0 n0 m0) Ci (Cq 1 (Ht (LoopC (FW Tryz.prog w0 I0 M0 n0 m0) AK Q) Q)) ⟨lk [(0,HV n v 0),(1,iv a),(2,iv b),(3,iv lim),(4,Dg),(10,bv wb),(11,bv wp),(12,iv l),(13,iv q),(14,iv (NC h))],H⟩:=by
 have hP:=bR d v a b (by omega) (by omega) (by omega) (by omega);have hpe:=YI d a b (by omega);have h1:(Sort.partialInsertionSort BL d a b).1=d:=by rw[hpe]
 have hk:∀ {H:Hp},(∀ p,H (0::p)=(Bk d v).F 0 p)→(∀ (H':Hp) (st:List (Nat × A)),(∀ p,H' (0::p)=(Bk (pq1 d a b lim q wb wp) v).F 0 p)→Q .ret ⟨lk st,H'⟩)→WPC (FW Tryz.prog w0 I0 M0 n0 m0) BB (Cq 1 (Ht (LoopC (FW Tryz.prog w0 I0 M0 n0 m0) AK Q) Q)) ⟨lk [(0,HV n v 0),(1,iv a),(2,iv b),(3,iv lim),(4,Dg),(10,bv wb),(11,bv wp),(12,iv l),(13,iv q)],H⟩:=fun hH hq=>Ago hn hd hab hb hl hl24 hq1 hq2 hlim hlm ihL hH hq;unfold pq2 at hq;rw[h1] at hP hq;rw[hd] at hP;rw[Ci.eq_1];by_cases hw:(wb&&wp&&decide (h = .increasing))=true
 ·rw[if_pos hw] at hq;simp at hw;obtain⟨⟨rfl,rfl⟩,rfl⟩:=hw;simp[NC];refine AA 0 hP hH (by simp) (by simp) ?_;cases hp:(Sort.partialInsertionSort BL d a b).2 with
  |true=>
   rw[if_pos hp] at hq;simp;exact hq _ [(0,HV n v 0),(1,iv a),(2,iv b),(3,iv lim),(4,Dg),(10,bv true),(11,bv true),(12,iv l),(13,iv q),(80,bv true)] (fun p=>by simp)
  |false=>
   rw[if_neg (by rw[hp];simp)] at hq;simp;exact hk (fun p=>by simp) hq
 ·rw[if_neg hw] at hq;cases wb with
  |false=>
   simp;exact hk hH hq
  |true=>cases wp with
   |false=>
    simp;exact hk hH hq
   |true=>
    cases h with
    |increasing=>simp at hw
    |unknown=>
     simp[NC];exact hk hH hq
    |decreasing=>
     simp[NC];exact hk hH hq
theorem Abd {a b lim l:Nat} {wb wp:Bool} {d:Array Sc} (hn:n≤900) (hd:d.size=n) (hab:a+13≤b) (hb:b≤n) (hl:l=b-a) (hl24:l≤24) (hlim:l-12≤lim) (hlm:lim≤900)
  (ihL:∀ (a' b' lim':Nat) (wb' wp':Bool) (d':Array Sc),d'.size=n→a'≤b'→b'≤n→b'-a'<l→lim'≤900→cd (b'-a') lim' wb'→LPs v n a' b' lim' wb' wp' d')
  {H:Hp} (hH:∀ p,H (0::p)=(Bk d v).F 0 p) (hq:∀ (H':Hp) (st:List (Nat × A)),(∀ p,H' (0::p)=(Bk (zZ d a b lim wb wp) v).F 0 p)→Q .ret ⟨lk st,H'⟩) :
  WPC (FW Tryz.prog w0 I0 M0 n0 m0) Ce (Cq 1 (Ht (LoopC (FW Tryz.prog w0 I0 M0 n0 m0) AK Q) Q)) ⟨lk [(0,HV n v 0),(1,iv a),(2,iv b),(3,iv lim),(4,Dg),(10,bv wb),(11,bv wp),(12,iv l)],H⟩:=by
 have hC:=choose_spec d v a b (by omega) hab (by omega) (by omega);have hR:=cm d v a b (by omega) (by omega) (by omega) (by omega);obtain⟨c1,c2⟩:=Sort.choosePivot_holds BL d a b (by omega);have hrs:(Sort.reverseRange d a b).size=n:=by
  have:=(Sort.reverseRange_holds d a b (by omega) (by omega)).1;rw[this];exact hd
 unfold zZ at hq;rw[hd] at hC hR;rcases hqq:Sort.choosePivot BL d a b with ⟨q,h⟩;rw[hqq] at hC c1 c2 hq;simp only at hC c1 c2 hq;rw[Ce.eq_1];simp;refine AA 0 hC hH (by simp) (by simp) ?_;by_cases hdec:h = .decreasing
 ·subst hdec;rw[if_pos rfl] at hq;have e1:i64.wrap ((b:Int)-1)=(b:Int)-1:=Bv;have e2:i64.wrap ((q:Int)-a)=(q:Int)-a:=Bv;have e3:i64.wrap ((b:Int)-1-((q:Int)-a))=((b-1-(q-a):Nat):Int):=Bl;simp[NC];refine AA 0 hR (fun p=>by simp) (by simp) (by simp) ?_;simp[e1,e2,e3];exact Abp (h:=.increasing) hn hrs hab hb hl hl24 (by omega) (by omega) hlim hlm ihL (fun p=>by simp) hq
 ·rw[if_neg hdec] at hq;have h2:¬ NC h=2:=by cases h<;>simp[NC] at hdec ⊢
  simp[h2];exact Abp hn hd hab hb hl hl24 (by omega) (by omega) hlim hlm ihL (fun p=>by simp) hq
theorem AcO (hn:n≤900):∀ (l:Nat),l≤24→∀ (a b lim:Nat) (wb wp:Bool) (d:Array Sc),d.size=n→a≤b→b≤n→b-a=l→lim≤900→cd l lim wb→LPs v n a b lim wb wp d:=by
 intro l;induction l using Nat.strongRecOn with
 |_ l ih=>
  intro hl24 a b lim wb wp d hd hab hb hl hlm hfar n0 w0 I0 M0 m0 Q H hH hq;have e0:i64.wrap ((b:Int)-a)=(l:Int):=Bl;refine Ad Ai AK.eq_1 ?_;rw[ya] at hq;by_cases h12:l≤12
  ·rw[if_pos (by omega)] at hq;have hI:=fm d v a b (by omega) (by omega) (by omega);rw[hd] at hI;simp[e0,show(l:Int)≤12 by omega,h12];refine AA 0 hI hH (by simp) (by simp) ?_;simp;exact hq _ [] (fun p=>by simp)
  ·rw[if_neg (by omega)] at hq;have hlim:(l-12)+(if wb=true then 0 else 1)≤lim:=by
    rcases hfar with h | h
    ·omega
    ·exact h
   have hlim0:¬ lim=0:=by split at hlim<;>omega
   rw[if_neg hlim0] at hq;have ihL:∀ (a' b' lim':Nat) (wb' wp':Bool) (d':Array Sc),d'.size=n→a'≤b'→b'≤n→b'-a'<l→lim'≤900→cd (b'-a') lim' wb'→LPs v n a' b' lim' wb' wp' d':=fun a' b' lim' wb' wp' d' k1 k2 k3 k4 k5 k6=>ih (b'-a') k4 (by omega) a' b' lim' wb' wp' d' k1 k2 k3 rfl k5 k6;cases wb with
   |true=>
    rw[if_pos rfl] at hq;simp at hlim;simp[e0,show ¬ (l:Int)≤12 by omega,h12,hlim0];exact Abd hn hd (by omega) hb hl.symm hl24 (by omega) hlm ihL hH hq
   |false=>
    rw[if_neg (by simp)] at hq;simp at hlim;have hB:=kI d v a b (by omega) (by omega) (by omega) (by omega);rw[hd] at hB;have hbs:(Sort.breakPatterns d a b).size=n:=by
     have:=(Sort.breakPatterns_holds d a b hab (by omega)).1;rw[this];exact hd
    have e1:i64.wrap ((lim:Int)-1)=((lim-1:Nat):Int):=Bl;simp[e0,show ¬ (l:Int)≤12 by omega,h12,hlim0];refine AA 0 hB hH (by simp) (by simp) ?_;simp[e1];exact Abd hn hbs (by omega) hb hl.symm hl24 (by omega) (by omega) ihL (fun p=>by simp) hq
end
theorem bT {o:List Sc} (ho:Fb o) {d:Array Sc} (hp:d.toList.Perm o) (hs:Sort.SortedIn BL 0 d.size d):d.toList=TD o:=by
 have ha:Fb d.toList:=by
  unfold Fb at ho ⊢;exact(hp.pairwise_iff (fun {x y} h=>by rw[fW];exact h)).2 ho
 have hr:Kr d.toList:=by
  unfold Kr Fb at *;rw[List.pairwise_iff_getElem] at ha ⊢;intro i j hi hj hij;have h1:=ha i j hi hj hij;have h2:=hs i j (Nat.zero_le _) hij (by simpa using hj);have e1:d[i]! = d.toList[i]:=by rw[getElem!_pos d i (by simpa using hi)];simp
  have e2:d[j]! = d.toList[j]:=by rw[getElem!_pos d j (by simpa using hj)];simp
  rw[e1,e2] at h2;simp[BL] at h2;simp[Zh] at h1;simp at h1 h2 ⊢;omega
 obtain⟨k1,k2⟩:=Q1 ho;exact Z4 hr k1 (hp.trans k2.symm)
theorem mY {o:List Sc} (ho:Fb o) (hl:o.length≤16) (v:Nat):BR Tryz.prog 241 (fun r=>[yF o v r,Dg]) (kC o v) (fun _=>.tup []) (kC (TD o) v):=by
 obtain⟨d,hd⟩:∃ d:Array Sc,d=o.toArray:=⟨_,rfl⟩;have hdl:d.toList=o:=by rw[hd]
 have hds:d.size=o.length:=by rw[hd];simp
 have hb:Sort.bitsLen o.length≤8:=(Wv o.length (by omega)).2;have hfar:cd o.length (Sort.bitsLen o.length) true:=by
  have:∀ n:Fin 17,n.val≤12∨(n.val-12)+0≤Sort.bitsLen n.val:=by decide +kernel
  unfold cd;simpa using this ⟨o.length,by omega⟩
 have hP:PQs v o.length 0 o.length (Sort.bitsLen o.length) d:=jw (AcO (by omega) o.length (by omega) 0 o.length _ true true d hds (by omega) (Cb _) (by omega) (by omega) hfar);have hS:=Sort.pdq_sorts BL Agv d 0 d.size (Sort.bitsLen o.length) true true (Nat.zero_le _) (Cb _) (.inl rfl);have hres:(Sort.pdq BL d 0 o.length (Sort.bitsLen o.length) true true).toList=TD o:=by
  rw[hds] at hS;obtain⟨⟨s1,_,s3⟩,s4⟩:=hS;refine bT ho ?_ (by rw[s1,hds];exact s4);have e1:∀ x:Array Sc,x.size=o.length→x.extract 0 o.length=x:=fun x hx=>by rw[← hx];simp
  rw[e1 _ (by rw[s1,hds]),e1 _ hds,hdl] at s3;exact s3
 unfold PQs at hP;rw[show(Bk d v)=kC o v by unfold Bk;rw[hdl],show Bk (Sort.pdq BL d 0 o.length (Sort.bitsLen o.length) true true) v=kC (TD o) v by unfold Bk;rw[hres]] at hP;refine Ay F5 (by simp) (Ag J3 (Ag Ej Ap)) (BP Ap) fun w0 I0 M0 m0=>?_;have e1:u64.wrap (o.length:Int)=(o.length:Int):=Bw (by omega) (by omega);have hL:=Su o.length (by omega);unfold C3;simp[e1];refine Ae hL rfl ?_;simp;refine AA 0 hP (fun p=>by simp) (by simp) (by simp) ?_;simp;exact A0 rfl rfl (fun p=>by simp)
@[simp] theorem AfJ {x:Sc}:(fE x).take 2=kE x:=rfl
theorem qn {all:List Sc}:∀ (m:Nat) (l junk o:List Sc) (v:Nat),l.length=m→l.length≤300→o.length+l.length≤300→Nv l l.length→(∀ y,y ∈ all→y ∈ l∨Hs o y=false)→(∀ y,y ∈ l→y ∈ all) →
  ∃ o',Nr all o o'∧∀ {n0:Nat} {w0:World} {I0:Nat→Prop} {Q:Exit→Sta→Prop} (u:Nat) (H:Hp),(∀ p,H (0::p)=(LR l junk v).F 0 p)→(∀ p,H (2::p)=(kC o u).F 2 p) →
   (∀ (H':Hp) (u':Nat) (st:List (Nat × A)),(∀ p,H' (2::p)=(kC o' u').F 2 p)→Q (.exit 4) ⟨lk ([(3,kB 0),(8,yF o' u' 2)]++st),H'⟩) →
   LoopC (cx Tryz.prog w0 I0 n0) HA Q ⟨lk [(3,kB 0),(8,yF o u 2)],H⟩:=by
 intro m;induction m with
 |zero=>
  intro l junk o v hm hl hol hh hall hsub;have:l=[]:=List.eq_nil_of_length_eq_zero hm;subst this;have hdone:∀ y,y ∈ all→Hs o y=false:=fun y hy=>by
   rcases hall y hy with h | h
   ·simp at h
   ·exact h
  refine⟨o,.done hdone,fun {n0 w0 I0 Q} u H hH hG hq=>?_⟩;have hL:=O8 [] junk v (by simp);have h0:=hH [];refine Ad Ai HA.eq_1 ?_;simp[h0];refine AA 0 hL hH (by simp) (by simp) ?_;simp;exact hq _ u [(51,bv false)] (fun p=>by simp[hG])
 |succ m ih=>
  intro l junk o v hm hl hol hh hall hsub;obtain⟨q1,q2,q3⟩:=Adp (l:=l) (by omega) hh;have hmin:∀ y,y ∈ l→BC y (gt l 0)=false:=fun y hy=>by
   obtain⟨k,hk,rfl⟩:=List.getElem_of_mem hy;rw[← Aa7 hk];exact vW hh k hk
  obtain⟨g1,g2⟩:=vy q3 hmin hall hsub;have hP:=lz l junk v (by omega) (by omega);have hL:=O8 l junk v (by omega);have hlen:=X6 l;have hrl:((J9 l).take (l.length-1)).length=m:=by simp;omega
  have q1':(J9 l).getD (l.length-1) ij=gt l 0:=q1;rw[q1'] at hP;have q2':Nv ((J9 l).take (l.length-1)) m:=fun k h1 h2=>q2 k h1 (by omega);clear q2;generalize gt l 0=x at hP g1 g2 q3 hmin;generalize (J9 l).take (l.length-1)=rest at hP hrl q2' q3 g1 g2;have q2:Nv rest rest.length:=fun k h1 h2=>q2' k h1 (by omega);have hsub':∀ y,y ∈ rest→y ∈ all:=fun y hy=>hsub y (q3.subset (by simp[hy]));cases hf:Hs o x with
  |true=>
   obtain⟨b1,b2⟩:=g1 hf;obtain⟨o',p1,p2⟩:=ih rest (x::junk) (o++[x]) v hrl (by omega) (by simp;omega) q2 b2 hsub';refine⟨o',.step b1 p1,fun {n0 w0 I0 Q} u H hH hG hq=>?_⟩;have hC:=ar x o u (by omega);rw[hf] at hC;have h0:=hH [];simp only[AbQ] at h0;refine Ad Ai HA.eq_1 ?_;simp[h0];refine AA 0 hL hH (by simp) (by simp) ?_;simp[show 0<l.length by omega];refine AA 0 hP (fun p=>by simp) (by simp) (by simp) ?_;simp[Aa,Dk];have hG2:∀ p,(ov 0 ((LR rest (x::junk) v).F 0) (Bh H [1] ⟨(H [1]).u+1,.cells (fE x)⟩):Hp) (2::p)=(kC o u).F 2 p:=fun p=>by simp[Aa,hG]
   refine AA 2 hC hG2 (by simp) (by simp) ?_;have ht:(o.map KH).take o.length=o.map KH:=BO (by simp);simp[Aa,Aah,ht,Dk];refine⟨px,by omega,?_⟩;refine LoopC.le (AE [(3,kB 0),(8,yF (o++[x]) (u+1) 2)] (by simp)) ?_;exact p2 (u+1) _ (fun p=>by simp[Aa]) (fun p=>by by_cases hp:p=[]<;>simp[hp,Aa]) hq
  |false=>
   obtain⟨o',p1,p2⟩:=ih rest (x::junk) o v hrl (by omega) (by omega) q2 (g2 hf) hsub';refine⟨o',p1,fun {n0 w0 I0 Q} u H hH hG hq=>?_⟩;have hC:=ar x o u (by omega);rw[hf] at hC;have h0:=hH [];simp only[AbQ] at h0;refine Ad Ai HA.eq_1 ?_;simp[h0];refine AA 0 hL hH (by simp) (by simp) ?_;simp[show 0<l.length by omega];refine AA 0 hP (fun p=>by simp) (by simp) (by simp) ?_;simp[Aa,Dk];have hG2:∀ p,(ov 0 ((LR rest (x::junk) v).F 0) (Bh H [1] ⟨(H [1]).u+1,.cells (fE x)⟩):Hp) (2::p)=(kC o u).F 2 p:=fun p=>by simp[Aa,hG]
   refine AA 2 hC hG2 (by simp) (by simp) ?_;simp;refine LoopC.le (AE [(3,kB 0),(8,yF o u 2)] (by simp)) ?_;exact p2 u _ (fun p=>by simp[Aa]) (fun p=>by simp) hq
end Go.Proofs.YtbjmaoedheiigaaGreat
namespace Go.PL
open List
def G4 (i:Nat):Nat→List Int→List Sc
 |_,[]=>[]
 |j,n::r=>if 0<n∧i<16∧j<16 then ⟨i,j,n⟩::G4 i (j+1) r else G4 i (j+1) r
def HW:Nat→List (List Int)→List Sc
 |_,[]=>[]
 |i,r::rs=>G4 i 0 r++HW (i+1) rs
theorem Z9 {i:Nat}:∀ {r:List Int} {j:Nat},(G4 i j r).length≤16-j
 |[],j=>by simp[G4]
 |n::r,j=>by
  have:=Z9 (i:=i) (r:=r) (j:=j+1);unfold G4;split
  ·simp;omega
  ·omega
theorem ZZ {i:Nat} (h:16≤i):∀ {r:List Int} {j:Nat},G4 i j r=[]
 |[],j=>rfl
 |n::r,j=>by
  unfold G4;rw[if_neg (by omega),ZZ h]
theorem Uq:∀ {rs:List (List Int)} {i:Nat},(HW i rs).length≤(16-i)*16
 |[],i=>by simp[HW]
 |r::rs,i=>by
  have h1:=Uq (rs:=rs) (i:=i+1);have h2:=Z9 (i:=i) (r:=r) (j:=0);unfold HW;rw[List.length_append];by_cases h:16≤i
  ·rw[ZZ h];simp;omega
  ·omega
theorem gf {i:Nat}:∀ {r:List Int} {j:Nat} {x:Sc},x ∈ G4 i j r→x.i=i∧i<16∧x.j<16∧j≤x.j∧x.j<j+r.length∧r[x.j-j]? = some x.n∧0<x.n
 |[],j,x,h=>by simp[G4] at h
 |n::r,j,x,h=>by
  have ih:x ∈ G4 i (j+1) r→x.i=i∧i<16∧x.j<16∧j≤x.j∧x.j<j+(n::r).length∧(n::r)[x.j-j]? = some x.n∧0<x.n:=fun h=>by
   obtain⟨h1,h2,h3,h4,h5,h6,h7⟩:=gf h;refine⟨h1,h2,h3,by omega,by simp;omega,?_,h7⟩;rw[show x.j-j=(x.j-(j+1))+1 by omega];simpa using h6
  unfold G4 at h;split at h
  ·rename_i hc;rcases List.mem_cons.1 h with rfl | h
   ·exact⟨rfl,hc.2.1,hc.2.2,Cb _,by simp,by simp,hc.1⟩
   ·exact ih h
  ·exact ih h
end Go.PL
namespace Go.Proofs.YtbjmaoedheiigaaGreat
open Go Go.G Go.Proofs Go.PL
abbrev mU (l:List (List Int)):A:=.sl false (l.map Gc)
def HpI (H:Hp) (all:List Sc):Prop:=∃ (l junk:List Sc) (v:Nat),(∀ p,H (0::p)=(LR l junk v).F 0 p)∧Nv l l.length∧List.Perm l all∧∀ p,H (2::p)=⟨0,.none⟩
theorem zf {n0:Nat} {w0:World} {I0:Nat→Prop} {Q:Exit→Sta→Prop} {X:A} {N:Nat} {r:List Int} {i:Nat} (hr:r.length≤1000000):∀ (m j:Nat) (all:List Sc) (H:Hp),r.length=j+m→all.length+(G4 i j (r.drop j)).length≤256→HpI H all →
  (∀ (H':Hp) (st:List (Nat × A)),HpI H' (all++G4 i j (r.drop j))→Q (.exit 2) ⟨lk ([(3,kB 0),(4,iv i),(12,X),(13,iv N),(14,iv i)]++st),H'⟩) →
  LoopC (cx Tryz.prog w0 I0 n0) Hl Q ⟨lk [(3,kB 0),(4,iv i),(12,X),(13,iv N),(14,iv i),(19,Gc r),(20,iv r.length),(21,iv j)],H⟩:=by
 intro m;induction m with
 |zero=>
  intro j all H hm hl hI hq;refine Ad Ai Hl.eq_1 ?_;have:¬ (j:Int)<r.length:=by omega
  simp[this];have hd:r.drop j=[]:=List.drop_eq_nil_of_le (by omega);rw[hd] at hq;exact hq H [(19,Gc r),(20,iv r.length),(21,iv j),(22,bv false)] (by simpa[G4] using hI)
 |succ m ih=>
  intro j all H hm hl hI hq;have hj:j<r.length:=by omega
  have hd:r.drop j=r[j]::r.drop (j+1):=(List.getElem_cons_drop hj).symm;have e1:=AM j;rw[hd] at hl hq;unfold G4 at hl hq;refine Ad Ai Hl.eq_1 ?_;simp[hj,show(j:Int)<r.length by omega];have next:∀ (all':List Sc) (H':Hp),all'.length+(G4 i (j+1) (r.drop (j+1))).length≤256→HpI H' all'→all'++G4 i (j+1) (r.drop (j+1))=all++(if 0<r[j]∧i<16∧j<16 then ⟨i,j,r[j]⟩::G4 i (j+1) (r.drop (j+1)) else G4 i (j+1) (r.drop (j+1)))→LoopC (cx Tryz.prog w0 I0 n0) Hl Q ⟨lk [(3,kB 0),(4,iv i),(12,X),(13,iv N),(14,iv i),(19,Gc r),(20,iv r.length),(21,iv (j+1:Nat))],H'⟩:=fun all' H' hl' hI' he=>ih (j+1) all' H' (by omega) hl' hI' (by rw[he];exact hq)
  by_cases h1:0<r[j]
  ·by_cases h2:i<16
   ·by_cases h3:j<16
    ·rw[if_pos ⟨h1,h2,h3⟩] at hl;obtain⟨l,junk,v,q1,q2,q3,q4⟩:=hI;have hll:=q3.length_eq;simp at hl;have hP:=j7 l junk v (by omega) ⟨i,j,r[j]⟩;obtain⟨g1,g2⟩:=pE q2 ⟨i,j,r[j]⟩;simp[h1,show(i:Int)<16 by omega,show(j:Int)<16 by omega];refine⟨?_,fun h=>by omega⟩;refine AA 0 hP q1 (by simp[Pv,fE]) (by simp) ?_;simp[e1];refine next (all++[⟨i,j,r[j]⟩]) _ (by simp;omega) ⟨qC (l.length+1) (l++[⟨i,j,r[j]⟩]) l.length,[],v+1,fun p=>by simp,?_,?_,fun p=>by simp[q4]⟩ (by rw[if_pos ⟨h1,h2,h3⟩];simp)
     ·rw[ck];simpa using g1
     ·exact g2.trans ((q3.cons _).trans (List.perm_append_singleton _ _).symm)
    ·have:¬ (j:Int)<16:=by omega
     simp[h1,show(i:Int)<16 by omega,this,e1];intro _;refine next all H (by rw[if_neg (by omega)] at hl;exact hl) hI (by rw[if_neg (by omega)])
   ·have:¬ (i:Int)<16:=by omega
    simp[h1,this,e1];refine next all H (by rw[if_neg (by omega)] at hl;exact hl) hI (by rw[if_neg (by omega)])
  ·simp[h1,e1];refine next all H (by rw[if_neg (by omega)] at hl;exact hl) hI (by rw[if_neg (by omega)])
theorem yY {n0:Nat} {w0:World} {I0:Nat→Prop} {Q:Exit→Sta→Prop} {rs:List (List Int)} (hrs:rs.length≤1000000) (hr:∀ r,r ∈ rs→r.length≤1000000):∀ (m i:Nat) (all:List Sc) (H:Hp),rs.length=i+m→all.length+(HW i (rs.drop i)).length≤256→HpI H all →
  (∀ (H':Hp) (st:List (Nat × A)),HpI H' (all++HW i (rs.drop i))→Q (.exit 0) ⟨lk ([(3,kB 0)]++st),H'⟩) →
  LoopC (cx Tryz.prog w0 I0 n0) JU Q ⟨lk [(3,kB 0),(12,mU rs),(13,iv rs.length),(14,iv i)],H⟩:=by
 intro m;induction m with
 |zero=>
  intro i all H hm hl hI hq;refine Ad Ai JU.eq_1 ?_;have:¬ (i:Int)<rs.length:=by omega
  simp[this];have hd:rs.drop i=[]:=List.drop_eq_nil_of_le (by omega);rw[hd] at hq;exact hq H [(12,mU rs),(13,iv rs.length),(14,iv i),(15,bv false)] (by simpa[HW] using hI)
 |succ m ih=>
  intro i all H hm hl hI hq;have hj:i<rs.length:=by omega
  have hd:rs.drop i=rs[i]::rs.drop (i+1):=(List.getElem_cons_drop hj).symm;have e1:=AM i;have hri:=hr rs[i] (A5 hj);rw[hd] at hl hq;unfold HW at hl hq;rw[List.length_append] at hl;refine Ad Ai JU.eq_1 ?_;simp[hj,show(i:Int)<rs.length by omega];refine LoopC.le (AE [(3,kB 0),(4,iv i),(12,mU rs),(13,iv rs.length),(14,iv i),(19,Gc rs[i]),(20,iv rs[i].length),(21,iv (0:Nat))] (by simp)) ?_;refine zf hri rs[i].length 0 all H (by omega) (by simp;omega) hI fun H' st hI'=>?_;simp[e1];refine ih (i+1) _ H' (by omega) ?_ (by simpa using hI') fun H2 st2 hI2=>?_
  ·simp;omega
  ·refine hq H2 st2 (by simpa using hI2)
theorem ko:∀ all:List Sc,∃ l,Nv l l.length∧List.Perm l all
 |[]=>⟨[],fun k _ h=>by simp at h,List.Perm.refl _⟩
 |x::all=>by
  obtain⟨l,h1,h2⟩:=ko all;obtain⟨g1,g2⟩:=pE h1 x;exact⟨_,by rw[ck];simpa using g1,g2.trans (h2.cons x)⟩
theorem rJ {all:List Sc} (h:all.length≤300):∃ o',Nr all [] o':=by
 obtain⟨l,h1,h2⟩:=ko all;have:=h2.length_eq;obtain⟨o',h3,_⟩:=qn (all:=all) l.length l [] [] 0 rfl (by omega) (by simp;omega) h1 (fun y hy=>.inl (h2.symm.subset hy)) (fun y hy=>h2.subset hy);exact⟨o',h3⟩
theorem G9 {rs:List (List Int)} {o':List Sc} (h:Nr (HW 0 rs) [] o'):Fb o'∧(∀ x,x ∈ o'→x ∈ HW 0 rs):=jh h (by simp[Fb]) (by simp)
theorem rD (rs:List (List Int)) (hrs:rs.length≤1000000) (hr:∀ r,r ∈ rs→r.length≤1000000) {o':List Sc} (ho:Nr (HW 0 rs) [] o') (hl16:o'.length≤16):G.Spec Tryz.prog 203 [mU rs] (.sl false ((TD o').map KH)):=by
 obtain⟨hap,_⟩:=G9 ho;have hcl:=Uq (rs:=rs) (i:=0);refine Ah j4 (by simp) fun w0 I0=>?_;unfold Vn;simp;refine LoopC.le (B9 (d:=[0]) (u:=1) (cs:=[.sl true []]) 0 [0,0] 3 rfl rfl (by simp)) ?_;simp;refine LoopC.le (AE [(3,kB 0),(12,mU rs),(13,iv rs.length),(14,iv (0:Nat))] (by simp)) ?_;refine yY hrs hr rs.length 0 [] _ (by omega) (by simpa using hcl) ⟨[],[],1,fun p=>?_,fun k _ h=>by simp at h,List.Perm.refl _,fun p=>by simp⟩ fun H' st hI=>?_
 ·by_cases h1:p=[]
  ·subst h1;simp
  ·by_cases h2:p=[0]
   ·subst h2;simp
   ·simp[h1,h2,Ne.symm h1,Ne.symm h2]
 ·obtain⟨l,junk,v,q1,q2,q3,q4⟩:=hI;simp only[List.nil_append,List.drop_zero] at q3;have hll:=q3.length_eq;simp;refine LoopC.le (FC 8 [2] 2 (by simp)) ?_;obtain⟨o2,p1,p2⟩:=qn (all:=HW 0 rs) l.length l junk [] v rfl (by omega) (by simp;omega) q2 (fun y hy=>.inl (q3.symm.subset hy)) (fun y hy=>q3.subset hy);have:=rZ p1 ho;subst this;refine LoopC.le (AE [(3,kB 0),(8,yF [] ((H' [2]).u+1) 2)] (by simp)) ?_;refine p2 _ _ (fun p=>by simp[Aa,q1]) (fun p=>?_) fun H2 u2 st2 hG=>?_
  ·by_cases h1:p=[]<;>simp[h1,Aa,q4]
  ·have hS:=mY hap hl16 u2;simp;refine AA 2 hS hG (by simp) (by simp) ?_;simp;have hsl:(TD o2).length=o2.length:=(Q1 hap).2.length_eq;have:=YS (H:=ov 2 ((kC (TD o2) u2).F 2) H2) (o:=[2]) (u:=u2) (sz:=2) (l:=TD o2) (f:=KH) (n:=o2.length) (by simp) (by omega) (by intro x;rfl);rw[BO (by omega)] at this;exact this
end Go.Proofs.YtbjmaoedheiigaaGreat
namespace Go.Proofs.YtbjmaoedheiigaaGreat
set_option maxRecDepth 20000
open Go Go.G Go.Proofs
@[simp] theorem AjV:D9 Tryz.prog 166=some 1:=by kernel_rfl
@[simp] theorem Aj1:D9 Tryz.prog 171=some 2:=by kernel_rfl
@[simp] theorem AhO:Ey Tryz.prog 166=some false:=by kernel_rfl
@[simp] theorem Ahp:Ey Tryz.prog 171=some true:=by kernel_rfl
@[simp] theorem AeR:BW Tryz.prog 166=some (Value.slice none 0 0):=by kernel_rfl
@[simp] theorem Ad2:BW Tryz.prog 171=some (Value.agg #[Value.int i64 0,Value.int i64 0]):=by kernel_rfl
@[simp] theorem Aff:BW Tryz.prog 221=some (Value.agg #[Value.int i64 0,Value.int i64 0,Value.int i64 0]):=by kernel_rfl
@[simp] theorem AdD:Cv Tryz.prog 171=some 16:=by kernel_rfl
@[simp] theorem sU:Al Tryz.prog 171 0=some 0:=by kernel_rfl
@[simp] theorem tn:Al Tryz.prog 171 1=some 1:=by kernel_rfl
@[simp] theorem th:Al Tryz.prog 219 0=some 0:=by kernel_rfl
@[simp] theorem Aco (ps:List (Nat × A)):CS Tryz.prog 171 ps=(Dy (fun i=>([(0,1),(1,1)]:List (Nat × Nat))[i]?) [iv 0,iv 0] ps).map A.agg:=by kernel_rfl
@[simp] theorem AcU (ps:List (Nat × A)):CS Tryz.prog 219 ps=(Dy (fun i=>([(0,1)]:List (Nat × Nat))[i]?) [A.sl true []] ps).map A.agg:=by kernel_rfl
def UU:CC:=sR [aI 8 0] [0,1,2,3] (.seq (.block 0 (sR [mO 10 2,mO 11 10,mG 12 3 11 true,pF 13 11 12,aO 9 13] [0,1,2,3,9] (cD 9 (sR [aI 8 0] [8] (.ret)) (sR [mO 15 2,mO 16 15,mG 17 3 16 false,oG 18 (.unOp .not 4 (xT 17)) 16 false,mG 19 18 16 false,mG 20 0 19 true,mG 21 1 19 true,oG 22 (.binOp .sub 3 (xT 21) (nI 1) 3) 19 true,oG 23 (iA 164 20 22) 19 true,lG 24 3 23 19 true,mG 25 0 19 true,mG 26 1 19 true,oG 27 (.binOp .add 3 (xT 26) (nI 1) 3) 19 true,oG 28 (iA 164 25 27) 19 true,lG 29 3 28 19 true,oG 30 (bO .lss 3 24 29 3) 19 true,oG 31 (.pick (xT 19) (xT 30) (nB false)) 16 false,pT 32 16 31,aO 14 32] [0,1,14] (cD 14 (sR [mO 33 0,mO 34 1,bQ .add 35 3 34 1 3,iO 36 164 33 35,lO 37 3 36,aO 8 37] [8] (.ret)) (.skip)))))) (.keep [0,1] (sR [mO 38 0,mO 39 1,bQ .sub 40 3 39 1 3,iO 41 164 38 40,lO 42 3 41,bQ .add 43 3 42 1 3,aO 8 43] [8] (.ret))))
theorem fX:Bm Tryz.prog 219 44 [(.tmp 8)] UU:=Aw Tryz.func219
def GO:CC:=sQ [mO 73 13,mO 74 8,bB .lss 75 3 73 74 3,mO 76 75,mG 77 14 76 true,mG 78 9 76 true,oG 79 (bO .lss 3 77 78 3) 76 true,pF 80 76 79,mO 81 80,mG 82 13 81 true,oG 83 (.binOp .geq 3 (xT 82) (nI 0) 3) 81 true,pF 84 81 83,mO 85 84,mG 86 14 85 true,oG 87 (.binOp .geq 3 (xT 86) (nI 0) 3) 85 true,pF 88 85 87,mO 89 88,mG 90 0 89 true,mG 91 13 89 true,oG 92 (iA 164 90 91) 89 true,lG 93 3 92 89 true,mG 94 1 89 true,mG 95 14 89 true,oG 96 (iA 164 94 95) 89 true,lG 97 3 96 89 true,oG 98 (bO .eql 3 93 97 3) 89 true,pF 99 89 98] [0,1,2,8,9,10,11,12,13,14,99] (cD 99 (.skip) (.exit 4)) [0,1,2,8,9,10,11,12,13,14] (.block 5 (.reg [mO 100 13,bQ .add 101 3 100 1 3,mO 102 14,bQ .add 103 3 102 1 3,aO 13 101,aO 14 103] [0,1,2,8,9,10,11,12,13,14]))
def GR:CC:=sQ [mO 52 12,mO 53 11,bB .leq 54 3 52 53 3] [0,1,2,8,9,10,11,12,54] (cD 54 (.skip) (.exit 2)) [0,1,2,8,9,10,11,12] (.seq (.block 3 (sR [mO 57 10,mO 58 2,bQ .add 59 3 58 1 3,mO 60 12,bB .add 61 3 59 60 3,mO 62 12,mO 63 11,oO 64 (.unOp .neg 3 (xT 63)),bB .eql 65 3 62 64 3,mO 66 12,mO 67 11,bB .eql 68 3 66 67 3,oO 69 (cL 219 #[(xT 57),(xT 61),(xT 65),(xT 68)] #[164,3,4,4]),aO 13 69] [0,1,2,8,9,10,11,12,13] (sR [mO 70 13,mO 71 12,bB .sub 72 3 70 71 3,aO 14 72] [0,1,2,8,9,10,11,12,13,14] (.seq (.block 4 (.loop GO)) (.keep [0,1,2,8,9,10,11,12,13,14] (sR [mO 104 10,mO 105 2,bQ .add 106 3 105 1 3,mO 107 12,bB .add 108 3 106 107 3,mO 109 13,iO 110 164 104 108,sT 3 110 109] [0,1,2,8,9,10,11,12,13,14] (sR [mO 111 13,mO 112 8,bB .geq 113 3 111 112 3,mO 114 113,mG 115 14 114 true,mG 116 9 114 true,oG 117 (bO .geq 3 115 116 3) 114 true,pF 118 114 117] [0,1,2,8,9,10,11,12,118] (cD 118 (sR [mO 119 11,aO 6 119,aB 7 true] [6,7] (.ret)) (.skip))))))))) (.keep [0,1,2,8,9,10,11,12] (.reg [mO 55 12,bQ .add 56 3 55 2 3,aO 12 56] [0,1,2,8,9,10,11,12])))
def GL:CC:=sQ [mO 45 11,mO 46 2,bB .leq 47 3 45 46 3] [0,1,2,8,9,10,11,47] (cD 47 (.skip) (.exit 0)) [0,1,2,8,9,10,11] (.seq (.block 1 (sR [mO 50 11,oO 51 (.unOp .neg 3 (xT 50)),aO 12 51] [0,1,2,8,9,10,11,12] (.block 2 (.loop GR)))) (.keep [0,1,2,8,9,10,11] (.reg [mO 48 11,bQ .add 49 3 48 1 3,aO 11 49] [0,1,2,8,9,10,11]))) 
def NB:CC:=sR [aI 6 0,aB 7 false] [0,1,2] (sR [mO 15 0,bN 16 15 164,mO 17 1,bN 18 17 164,aO 8 16,aO 9 18] [0,1,2,8,9] (sR [mO 19 2,oO 20 (bC .max #[(xT 19),(.const (.int .i64 (-1)))] #[3,3]),mO 21 8,mO 22 9,bB .add 23 3 21 22 3,oO 24 (bC .min #[(xT 20),(xT 23)] #[3,3]),aO 2 24] [0,1,2,8,9] (sQ [mO 25 2,bQ .lss 26 3 25 0 3,mO 27 26,mG 28 8 27 false,mG 29 9 27 false,oG 30 (bO .sub 3 28 29 3) 27 false,mG 31 2 27 false,oG 32 (bO .gtr 3 30 31 3) 27 false,pT 33 27 32,mO 34 33,mG 35 9 34 false,mG 36 8 34 false,oG 37 (bO .sub 3 35 36 3) 34 false,mG 38 2 34 false,oG 39 (bO .gtr 3 37 38 3) 34 false,pT 40 34 39] [0,1,2,8,9,40] (cD 40 (sR [aI 6 0,aB 7 false] [6,7] (.ret)) (.skip)) [0,1,2,8,9] (sR [mO 41 2,oO 42 (.binOp .mul 3 (nI 2) (xT 41) 3),bQ .add 43 3 42 3 3,oN 44 (.makeSlice 164 (xT 43) (xT 43)) [0],aO 10 44] [0,1,2,8,9,10] (sQ [aI 11 0] [0,1,2,8,9,10,11] (.block 0 (.loop GL)) [] (sR [aI 6 0,aB 7 false] [6,7] (.ret)))))))
theorem YJ:Bm Tryz.prog 175 120 [(.tmp 6),(.tmp 7)] NB:=Aw Tryz.func175
def QN:CC:=.reg [mO 43 5,mO 44 9,bQ .add 45 3 44 1 3,mO 46 5,mO 47 9,bQ .add 48 3 47 1 3,iO 49 164 46 48,lO 50 3 49,mO 51 5,mO 52 9,iO 53 164 51 52,lO 54 3 53,oO 55 (bC .max #[(xT 50),(xT 54)] #[3,3]),mO 56 11,iO 57 164 43 45,sT 3 57 55,aO 8 56] [1,5,7,8,16,17,18,22,23,24]
def J7:CC:=sR [bB .lss 25 3 24 23 3] [1,5,7,8,16,17,18,22,23,24,25] (.seq (cD 25 (.skip) (.exit 2)) (.keep [1,5,7,8,16,17,18,22,23,24] (.seq (.block 3 (sR [mO 26 24,iO 27 164 22 24,lO 28 3 27,aO 9 26,aO 10 28] [1,5,7,8,9,10,16,17,18,22,23,24] (sR [mO 29 5,mO 30 9,bQ .add 31 3 30 1 3,iO 32 164 29 31,lO 33 3 32,aO 11 33] [1,5,7,8,9,10,11,16,17,18,22,23,24] (sQ [mO 34 7,mO 35 10,bB .eql 36 3 34 35 3] [1,5,7,8,9,11,16,17,18,22,23,24,36] (cD 36 (.reg [mO 37 5,mO 38 9,bQ .add 39 3 38 1 3,mO 40 8,bQ .add 41 3 40 1 3,iO 42 164 37 39,sT 3 42 41] [1,5,7,9,11,16,17,18,22,23,24]) (.skip)) [1,5,7,9,11,16,17,18,22,23,24] QN)))) (.keep [1,5,7,8,16,17,18,22,23,24] (.reg [bQ .add 58 3 24 1 3,mO 24 58] [1,5,7,8,16,17,18,22,23,24])))))
def MG:CC:=sR [bB .lss 19 3 18 17 3] [1,5,16,17,18,19] (.seq (cD 19 (.skip) (.exit 0)) (.keep [1,5,16,17,18] (.seq (.block 1 (sR [iO 20 164 16 18,lO 21 3 20,aO 7 21] [1,5,7,16,17,18] (sR [aI 8 0] [1,5,7,8,16,17,18] (sR [mO 22 1,bN 23 22 164,oO 24 (.move (nI 0))] [1,5,7,8,16,17,18,22,23,24] (.block 2 (.loop J7)))))) (.keep [1,5,16,17,18] (.reg [bQ .add 59 3 18 1 3,mO 18 59] [1,5,16,17,18]))))) 
def aU:CC:=sR [aN 4] [0,1] (sR [mO 12 1,bN 13 12 164,bQ .add 14 3 13 1 3,oN 15 (.makeSlice 164 (xT 14) (xT 14)) [0],aO 5 15] [0,1,5] (sQ [mO 16 0,bN 17 16 164,oO 18 (.move (nI 0))] [1,5,16,17,18] (.block 0 (.loop MG)) [5] (sR [mO 60 5,aO 4 60] [4] (.ret))))
theorem rE:Bm Tryz.prog 251 61 [(.tmp 4)] aU:=Aw Tryz.func251
def It:CC:=sR [bB .lss 12 3 11 10 3] [0,3,9,10,11,12] (.seq (cD 12 (.skip) (.exit 0)) (.keep [0,3,9,10,11] (.seq (.block 1 (sR [mO 13 11,iO 14 164 9 11,lO 15 3 14,aO 4 13,aO 5 15] [0,3,4,5,9,10,11] (.reg [mO 16 3,mO 17 0,bN 18 17 164,bQ .sub 19 3 18 1 3,mO 20 4,bB .sub 21 3 19 20 3,mO 22 5,iO 23 164 16 21,sT 3 23 22] [0,3,9,10,11]))) (.reg [bQ .add 24 3 11 1 3,mO 11 24] [0,3,9,10,11])))) 
def RA:CC:=sR [aN 2] [0] (sR [mO 6 0,bN 7 6 164,oN 8 (.makeSlice 164 (xT 7) (xT 7)) [0],aO 3 8] [0,3] (sQ [mO 9 0,bN 10 9 164,oO 11 (.move (nI 0))] [0,3,9,10,11] (.block 0 (.loop It)) [3] (sR [mO 25 3,aO 2 25] [2] (.ret))))
theorem ey:Bm Tryz.prog 252 26 [(.tmp 2)] RA:=Aw Tryz.func252
def JM:CC:=sR [bB .lss 26 3 25 24 3] [1,7,8,9,24,25,26] (.seq (cD 26 (.skip) (.exit 0)) (.keep [1,7,8,9,24,25] (.seq (.block 1 (sR [mO 27 25,aO 10 27] [1,7,8,9,10,24,25] (sR [mO 28 7,mO 29 10,iO 30 164 28 29,lO 31 3 30,mO 32 8,mO 33 1,bN 34 33 164,mO 35 10,bB .sub 36 3 34 35 3,iO 37 164 32 36,lO 38 3 37,bB .add 39 3 31 38 3,mO 40 7,mO 41 9,iO 42 164 40 41,lO 43 3 42,mO 44 8,mO 45 1,bN 46 45 164,mO 47 9,bB .sub 48 3 46 47 3,iO 49 164 44 48,lO 50 3 49,bB .add 51 3 43 50 3,bB .gtr 52 3 39 51 3] [1,7,8,9,10,24,25,52] (cD 52 (.reg [mO 53 10,aO 9 53] [1,7,8,9,24,25]) (.skip))))) (.keep [1,7,8,9,24,25] (.reg [bQ .add 54 3 25 1 3,mO 25 54] [1,7,8,9,24,25]))))) 
def Vu:CC:=sR [aI 6 0] [0,1,2] (sR [mO 11 0,mO 12 2,oO 13 (.slice 164 (xT 11) none (some (xT 12)) none),mO 14 1,cB 15 251 13 14 164 164,mO 16 0,mO 17 2,oO 18 (.slice 164 (xT 16) (some (xT 17)) none none),cA 19 252 18 164,mO 20 1,cA 21 252 20 164,cB 22 251 19 21 164 164,aO 7 15,aO 8 22] [1,7,8] (sR [aI 9 0] [1,7,8,9] (sQ [mO 23 7,bN 24 23 164,oO 25 (.move (nI 0))] [1,7,8,9,24,25] (.block 0 (.loop JM)) [9] (sR [mO 55 9,aO 6 55] [6] (.ret)))))
theorem ja:Bm Tryz.prog 222 56 [(.tmp 6)] Vu:=Aw Tryz.func222
def L7:CC:=sR [mO 6 2,bQ .gtr 7 3 6 0 3] [0,1,2,7] (cD 7 (.reg [mO 8 0,mO 9 0,nC 10 9,fO 11 219 10 0,lO 12 166 11,mO 13 1,mO 14 2,oO 15 (.build 171 #[(0,(xT 13)),(1,(xT 14))]),oO 16 (.buildSlice 166 1 #[(0,(xT 15))]),aP 17 12 16 166 166 [1],nC 18 8,fO 19 219 18 0,sT 166 19 17] []) (.skip))
theorem TZ:Bm Tryz.prog 220 20 [] L7:=Aw Tryz.func220
def Fq:CC:=sR [bB .lss 11 3 10 9 3] [0,1,2,8,9,10,11] (.seq (cD 11 (.skip) (.exit 0)) (.keep [0,1,2,8,9,10] (.seq (.block 1 (sR [mO 12 10,iO 13 164 8 10,lO 14 3 13,aO 6 12,aO 7 14] [0,1,2,6,7,8,9,10] (sR [mO 15 1,mO 16 7,bB .eql 17 3 15 16 3] [0,1,2,6,8,9,10,17] (cD 17 (sR [mO 18 0,mO 19 6,oO 20 (cL 220 #[(xT 18),(nI 2),(xT 19)] #[217,3,3])] [0,2,6] (sR [mO 21 0,oO 22 (cL 220 #[(xT 21),(nI 0),(nI 1)] #[217,3,3])] [0,2,6] (sR [mO 23 0,mO 24 2,bN 25 24 164,mO 26 6,bB .sub 27 3 25 26 3,bQ .sub 28 3 27 1 3,oO 29 (cL 220 #[(xT 23),(nI 2),(xT 28)] #[217,3,3])] [] (.ret)))) (.skip))))) (.keep [0,1,2,8,9,10] (.reg [bQ .add 30 3 10 1 3,mO 10 30] [0,1,2,8,9,10]))))) 
def MA:CC:=sQ [mO 8 2,bN 9 8 164,oO 10 (.move (nI 0))] [0,1,2,8,9,10] (.block 0 (.loop Fq)) [0,2] (sR [mO 31 0,oO 32 (cL 220 #[(xT 31),(nI 1),(nI 1)] #[217,3,3])] [0,2] (.reg [mO 33 0,mO 34 2,bN 35 34 164,oO 36 (cL 220 #[(xT 33),(nI 2),(xT 35)] #[217,3,3])] []))
theorem Uu:Bm Tryz.prog 221 37 [] MA:=Aw Tryz.func221
def DQ:CC:=.block 0 (sR [mO 32 1,bN 33 32 164,bQ .eql 34 3 33 0 3,mO 35 34,mG 36 2 35 false,oG 37 (bL 36 164) 35 false,oG 38 (.binOp .eql 3 (xT 37) (nI 0) 3) 35 false,pT 39 35 38,aO 31 39] [0,1,2,31] (cD 31 (sR [mO 40 0,mO 41 1,bN 42 41 164,oO 43 (cL 220 #[(xT 40),(nI 1),(xT 42)] #[217,3,3])] [0,2] (.reg [mO 44 0,mO 45 2,bN 46 45 164,oO 47 (cL 220 #[(xT 44),(nI 2),(xT 46)] #[217,3,3])] [])) (sR [mO 49 1,bN 50 49 164,bQ .eql 51 3 50 1 3,aO 48 51] [0,1,2,48] (cD 48 (.reg [mO 52 0,mO 53 1,oO 54 (.indexAddr 164 (xT 53) (nI 0)),lO 55 3 54,mO 56 2,cE 57 221 52 55 56 217 3 164] []) (sR [mO 8 1,bN 9 8 164,bQ .quo 10 3 9 2 3,aO 6 10] [0,1,2,6] (sR [mO 11 1,mO 12 2,mO 13 6,cE 14 222 11 12 13 164 164 3,aO 7 14] [0,1,2,6,7] (sR [mO 15 0,mO 16 1,mO 17 6,oO 18 (.slice 164 (xT 16) none (some (xT 17)) none),mO 19 2,mO 20 7,oO 21 (.slice 164 (xT 19) none (some (xT 20)) none),cE 22 176 15 18 21 217 164 164] [0,1,2,6,7] (.reg [mO 23 0,mO 24 1,mO 25 6,oO 26 (.slice 164 (xT 24) (some (xT 25)) none none),mO 27 2,mO 28 7,oO 29 (.slice 164 (xT 27) (some (xT 28)) none none),cE 30 176 23 26 29 217 164 164] []))))))))
theorem Fo:Bm Tryz.prog 176 58 [] DQ:=Aw Tryz.func176
def Jm:CC:=sR [bX 1 171 0 [0],aB 2 false] [1] (sR [fO 3 171 1 0,lO 4 3 3,bQ .geq 5 3 4 0 3,mO 6 5,fG 7 171 1 0 6 true,lG 8 3 7 6 true,oG 9 (.binOp .leq 3 (xT 8) (nI 2) 3) 6 true,pF 10 6 9,mO 11 10,fG 12 171 1 1 11 true,lG 13 3 12 11 true,oG 14 (.binOp .geq 3 (xT 13) (nI 1) 3) 11 true,pF 15 11 14,mO 16 15,fG 17 171 1 1 16 true,lG 18 3 17 16 true,oG 19 (.binOp .leq 3 (xT 18) (nI 1048576) 3) 16 true,pF 20 16 19,aO 2 20] [2] (.ret))
theorem PE:Bm Tryz.prog 178 21 [(.tmp 2)] Jm:=Aw Tryz.func178
def Ez:CC:=sR [bB .lss 9 3 8 7 3] [1,2,6,7,8,9] (.seq (cD 9 (.skip) (.exit 0)) (.keep [1,2,6,7,8] (.seq (.block 1 (sR [iO 10 164 6 8,lO 11 3 10,aO 5 11] [1,2,5,6,7,8] (sQ [mO 12 5,iO 13 221 1 12,lO 14 3 13,bQ .gtr 15 3 14 0 3] [1,2,5,6,7,8,15] (cD 15 (.reg [lS 16 166 2 0,mO 17 5,mO 18 5,iO 19 221 1 18,lO 20 3 19,oO 21 (.build 171 #[(0,(xT 17)),(1,(xT 20))]),⟨some 22,(.buildSlice 166 1 #[(0,(xT 21))]),none,[],6,[0],false⟩,aP 23 16 22 166 166 [1],sT 166 2 23] [1,2,5,6,7,8]) (.skip)) [1,2,5,6,7,8] (.reg [mO 24 5,iO 25 221 1 24,oS (.store 3 (xT 25) (nI 0))] [1,2,6,7,8])))) (.keep [1,2,6,7,8] (.reg [bQ .add 26 3 8 1 3,mO 8 26] [1,2,6,7,8]))))) 
def Lh:CC:=sR [mO 6 0,bN 7 6 164,oO 8 (.move (nI 0))] [1,2,6,7,8] (.block 0 (.loop Ez))
theorem RH:Bm Tryz.prog 177 27 [] Lh:=Aw Tryz.func177
def Ga:CC:=.reg [fO 29 171 7 0,lO 30 3 29,iO 31 221 4 30,lO 32 3 31,fO 33 171 7 1,lO 34 3 33,bB .add 35 3 32 34 3,iO 36 221 4 30,sT 3 36 35] [3,4,5,9,10,11]
def El:CC:=sR [bB .lss 12 3 11 10 3] [3,4,5,9,10,11,12] (.seq (cD 12 (.skip) (.exit 0)) (.keep [3,4,5,9,10,11] (.seq (.block 1 (sR [iO 13 166 9 11,lO 14 171 13,aL 7 171 [2],sT 171 7 14] [3,4,5,7,9,10,11] (.seq (.block 2 (sR [lO 19 171 7,cA 20 178 19 171,oO 21 (.unOp .not 4 (xT 20)),aO 18 21] [3,4,5,7,9,10,11,18] (cD 18 (.exit 1) (sR [fO 23 171 7 0,lO 24 3 23,bQ .eql 25 3 24 0 3,aO 22 25] [3,4,5,7,9,10,11,22] (cD 22 (.reg [mO 26 5,oO 27 (.buildSlice 164 2 #[(0,(nI 1)),(1,(nI 2))]),oO 28 (.call { callee:=(.value (xT 26)),args:=#[(xT 27)],argTypes:=#[164] })] [3,4,5,7,9,10,11]) (.reg [mO 15 5,oO 16 (.buildSlice 164 1 #[(0,(nI 0))]),oO 17 (.call { callee:=(.value (xT 15)),args:=#[(xT 16)],argTypes:=#[164] })] [3,4,5,7,9,10,11])))))) (.keep [3,4,5,7,9,10,11] Ga)))) (.keep [3,4,5,9,10,11] (.reg [bQ .add 37 3 11 1 3,mO 11 37] [3,4,5,9,10,11]))))) 
def Nn:CC:=sR [aN 2] [0] (sR [aL 3 166 [0]] [0,3] (sR [aL 4 221 [0,1]] [0,3,4] (sR [oO 8 (.makeFunc (.func 177) #[] #[(xT 4),(xT 3)]),aO 5 8] [0,3,4,5] (sQ [mO 9 0,bN 10 9 166,oO 11 (.move (nI 0))] [3,4,5,9,10,11] (.block 0 (.loop El)) [3,5] (sR [mO 38 5,oO 39 (.buildSlice 164 3 #[(0,(nI 0)),(1,(nI 1)),(2,(nI 2))]),oO 40 (.call { callee:=(.value (xT 38)),args:=#[(xT 39)],argTypes:=#[164] })] [3] (sR [lO 41 166 3,aO 2 41] [2] (.ret)))))))
theorem VJ:Bm Tryz.prog 120 42 [(.tmp 2)] Nn:=Aw Tryz.func120
def Y0:CC:=sR [aN 6,aB 7 false] [0,1,2] (sQ [mO 12 0,mO 13 1,mO 14 2,cE 15 175 12 13 14 164 164 3,mO 11 15,xO 16 11 0,xO 17 11 1,aO 8 16,aO 9 17] [0,1,9] (sR [mO 18 9,oO 19 (.unOp .not 4 (xT 18))] [0,1,19] (cD 19 (sR [aN 6,aB 7 false] [6,7] (.ret)) (.skip))) [0,1] (sR [oO 20 (.build 219 #[]),bX 21 219 20 [0],aO 10 21] [0,1,10] (.stop (sR [mO 22 10,mO 23 0,mO 24 1,cE 25 176 22 23 24 217 164 164] [10] (sR [mO 26 10,nC 27 26,fO 28 219 27 0,lO 29 166 28,cA 30 120 29 166,aO 6 30,aB 7 true] [6,7] (.ret))))))
theorem lK:Bm Tryz.prog 119 31 [(.tmp 6),(.tmp 7)] Y0:=Aw Tryz.func119
end Go.Proofs.YtbjmaoedheiigaaGreat
namespace Go.PL
open List
def fC (x:Int):List Int→Option (List Int)
 |[]=>none
 |y::b=>if x=y then some b else fC x b
def AO:List Int→List Int→Nat
 |[],_=>0
 |x::a,b=>max (AO a b) (match fC x b with | some b'=>AO a b'+1 | none=>0)
theorem oK {x:Int} {s:List Int}:∀ {b:List Int},x::s <+ b→∃ b',fC x b=some b'∧s <+ b'
 |[],h=>by cases h
 |y::b,h=>by
  unfold fC;by_cases e:x=y
  ·subst e;refine⟨b,by simp,?_⟩;cases h with
   |cons _ h=>exact(List.sublist_cons_self x s).trans h
   |cons_cons _ h=>exact h
  ·rw[if_neg e];cases h with
   |cons _ h=>exact oK h
   |cons_cons _ h=>exact absurd rfl e
theorem OU {x:Int}:∀ {b b':List Int},fC x b=some b'→∃ b0,b=b0++x::b'∧x ∉ b0
 |[],b',h=>by cases h
 |y::b,b',h=>by
  unfold fC at h;by_cases e:x=y
  ·rw[if_pos e] at h;cases h;exact⟨[],by simp[e],by simp⟩
  ·rw[if_neg e] at h;obtain⟨b0,h1,h2⟩:=OU h;exact⟨y::b0,by simp[h1],by simp[e,h2]⟩
theorem jz {x:Int}:∀ {b:List Int},fC x b=none→x ∉ b
 |[],_=>by simp
 |y::b,h=>by
  unfold fC at h;by_cases e:x=y
  ·rw[if_pos e] at h;cases h
  ·rw[if_neg e] at h;simp[e,jz h]
theorem bI {x:Int}:∀ {b0 b':List Int},x ∉ b0→fC x (b0++x::b')=some b'
 |[],b',_=>by simp[fC]
 |y::b0,b',h=>by
  simp at h;simp[fC,h.1,bI h.2]
theorem IB:∀ a b:List Int,∃ s,s <+ a∧s <+ b∧s.length=AO a b
 |[],b=>⟨[],by simp,by simp,rfl⟩
 |x::a,b=>by
  obtain⟨s,h1,h2,h3⟩:=IB a b;unfold AO;cases e:fC x b with
  |none=>exact⟨s,h1.cons x,h2,by simp[h3]⟩
  |some b'=>
   obtain⟨t,g1,g2,g3⟩:=IB a b';simp only;by_cases hle:AO a b≤AO a b'+1
   ·obtain⟨b0,rfl,_⟩:=OU e;exact⟨x::t,g1.cons_cons x,(g2.cons_cons x).trans (List.sublist_append_right _ _),by simp;omega⟩
   ·exact⟨s,h1.cons x,h2,by omega⟩
theorem IJ:∀ {a b s:List Int},s <+ a→s <+ b→s.length≤AO a b
 |[],b,s,h1,h2=>by
  have:=List.sublist_nil.1 h1;subst this;simp
 |x::a,b,s,h1,h2=>by
  unfold AO;cases h1 with
  |cons _ h=>have:=IJ h h2;omega
  |@cons_cons s' _ _ h=>
   obtain⟨b',e,h3⟩:=oK h2;have:=IJ h h3;rw[e];simp;omega
theorem Acz {a b:List Int} {n:Nat} (h1:∃ s,s <+ a∧s <+ b∧s.length=n) (h2:∀ s,s <+ a→s <+ b→s.length≤n):AO a b=n:=by
 obtain⟨s,g1,g2,g3⟩:=h1;obtain⟨t,k1,k2,k3⟩:=IB a b;have:=IJ g1 g2;have:=h2 t k1 k2;omega
theorem Lb (a b:List Int):AO a.reverse b.reverse=AO a b:=by
 obtain⟨s,h1,h2,h3⟩:=IB a b;refine Acz ⟨s.reverse,h1.reverse,h2.reverse,by simpa using h3⟩ fun t g1 g2=>?_;have:=IJ (a:=a) (b:=b) (s:=t.reverse) (by simpa using g1.reverse) (by simpa using g2.reverse);simpa using this
theorem OW {a b a' b':List Int} (h1:a <+ a') (h2:b <+ b'):AO a b≤AO a' b':=by
 obtain⟨s,g1,g2,g3⟩:=IB a b;have:=IJ (g1.trans h1) (g2.trans h2);omega
theorem ql (a b a' b':List Int):AO a b+AO a' b'≤AO (a++a') (b++b'):=by
 obtain⟨s,g1,g2,g3⟩:=IB a b;obtain⟨t,k1,k2,k3⟩:=IB a' b';have:=IJ (g1.append k1) (g2.append k2);simp at this;omega
theorem rk (a a' b:List Int):∃ b1 b2,b=b1++b2∧AO (a++a') b=AO a b1+AO a' b2:=by
 obtain⟨s,g1,g2,g3⟩:=IB (a++a') b;obtain⟨s1,s2,rfl,k1,k2⟩:=List.sublist_append_iff.1 g1;obtain⟨b1,b2,rfl,m1,m2⟩:=List.append_sublist_iff.1 g2;refine⟨b1,b2,rfl,?_⟩;have h1:=IJ k1 m1;have h2:=IJ k2 m2;have h3:=ql a b1 a' b2;simp at g3;omega
theorem JJ (a b:List Int):AO a b≤a.length∧AO a b≤b.length:=by
 obtain⟨s,g1,g2,g3⟩:=IB a b;have:=g1.length_le;have:=g2.length_le;omega
theorem LD (x:Int) (a b:List Int):AO (x::a) (x::b)=AO a b+1:=by
 have h:AO a (x::b)≤AO a b+1:=by
  obtain⟨s,g1,g2,g3⟩:=IB a (x::b);cases g2 with
  |cons _ h=>have:=IJ g1 h;omega
  |@cons_cons s' _ _ h=>
   have:=IJ ((List.sublist_cons_self x s').trans g1) h;simp at g3;omega
 rw[AO];simp[fC];omega
theorem Zv {x y:Int} (h:x ≠ y) (a b:List Int):AO (x::a) (y::b)=max (AO a (y::b)) (AO (x::a) b):=by
 have h1:AO a b≤AO a (y::b):=OW (List.Sublist.refl _) (List.sublist_cons_self _ _);rw[AO,AO];simp only[fC,if_neg h];omega
theorem P6 (x:Int) (a b:List Int):AO (a++[x]) (b++[x])=AO a b+1:=by
 rw[← Lb];simp[LD,Lb]
theorem Qe {x y:Int} (h:x ≠ y) (a b:List Int):AO (a++[x]) (b++[y])=max (AO a (b++[y])) (AO (a++[x]) b):=by
 rw[← Lb,← Lb a (b++[y]),← Lb (a++[x]) b];simp[Zv h]
theorem fH (x:Int) (a b:List Int):AO (x::a) b≤AO a b+1:=by
 rw[AO];cases e:fC x b with
 |none=>simp
 |some b'=>
  obtain⟨b0,rfl,_⟩:=OU e;have:AO a b'≤AO a (b0++x::b'):=OW (List.Sublist.refl _) ((List.sublist_cons_self x b').trans (List.sublist_append_right _ _));simp only;omega
theorem jW (x:Int) (a b:List Int):AO (a++[x]) b≤AO a b+1:=by
 rw[← Lb,← Lb a b];simpa using fH x a.reverse b.reverse
@[simp] theorem AiL (a:List Int):AO a []=0:=by have:=(JJ a []).2;simpa using this
@[simp] theorem AhC (b:List Int):AO [] b=0:=rfl
theorem L8:∀ (a u v w:List Int),AO a (u++(v++w))+AO a v≤AO a (u++v)+AO a (v++w)
 |[],u,v,w=>by simp
 |x::a,u,v,w=>by
  have m1:∀ p q:List Int,AO a q≤AO a (p++q):=fun p q=>OW (List.Sublist.refl _) (List.sublist_append_right _ _);have up:∀ q:List Int,AO a q≤AO (x::a) q:=fun q=>by rw[AO];omega
  have tk:∀ q0 q':List Int,x ∉ q0→AO a q'+1≤AO (x::a) (q0++x::q'):=fun q0 q' h=>by rw[AO,bI h];simp;omega
  have tk':∀ q0 q':List Int,AO a q'+1≤AO (x::a) (q0++x::q'):=fun q0 q'=>by
   have:=LD x a q';have h2:AO (x::a) (x::q')≤AO (x::a) (q0++x::q'):=OW (List.Sublist.refl _) (List.sublist_append_right _ _);omega
  -- what the two of the left take
  have c1:AO (x::a) (u++(v++w))=AO a (u++(v++w))∨∃ q0 q',u++(v++w)=q0++x::q'∧x ∉ q0∧AO (x::a) (u++(v++w))=AO a q'+1:=by
   rw[AO];cases e:fC x (u++(v++w)) with
   |none=>left;simp
   |some q'=>
    obtain⟨q0,h1,h2⟩:=OU e;simp only;by_cases hle:AO a (u++(v++w))≤AO a q'+1
    ·right;exact⟨q0,q',h1,h2,by omega⟩
    ·left;omega
  have c2:AO (x::a) v=AO a v∨∃ v0 v',v=v0++x::v'∧x ∉ v0∧AO (x::a) v=AO a v'+1:=by
   rw[AO];cases e:fC x v with
   |none=>left;simp
   |some q'=>
    obtain⟨q0,h1,h2⟩:=OU e;simp only;by_cases hle:AO a v≤AO a q'+1
    ·right;exact⟨q0,q',h1,h2,by omega⟩
    ·left;omega
  rcases c1 with e1 | ⟨q0,q',h1,hn,e1⟩
  ·rcases c2 with e2 | ⟨v0,v',rfl,hv,e2⟩
   ·have:=L8 a u v w;have:=up (u++v);have:=up (v++w);omega
   ·have h:=L8 a (u++(v0++[x])) v' w;have g1:=up (u++(v0++x::v'));have g2:=tk v0 (v'++w) hv;simp at h g1 g2 e1 e2 ⊢;omega
  ·-- where the first x stands
   rcases List.append_eq_append_iff.1 h1 with ⟨t,ht1,ht2⟩ | ⟨t,ht1,ht2⟩
   ·-- q0=u++t,v++w=t++x::q'
    subst ht1;have hnu:x ∉ u:=fun h=>hn (by simp[h]);have hnt:x ∉ t:=fun h=>hn (by simp[h]);rcases List.append_eq_append_iff.1 ht2 with ⟨t2,hs1,hs2⟩ | ⟨t2,hs1,hs2⟩
    ·-- t=v++t2: x stands in w
     subst hs1;have hnv:x ∉ v:=fun h=>hnt (by simp[h]);have e2:AO (x::a) v=AO a v:=by
      rcases c2 with e2 | ⟨v0,v',rfl,_,_⟩
      ·exact e2
      ·exact absurd (by simp) hnv
     have g1:=tk (v++t2) q' hnt;have g2:=up (u++v);have g3:=m1 u v;rw[ht2] at e1 ⊢;omega
    ·-- v=t++t2,x::q'=t2++w
     subst hs1;cases t2 with
     |nil=>
      simp at hs2;subst hs2;have e2:AO (x::a) t=AO a t:=by
       rcases c2 with e2 | ⟨v0,v',hv,_,_⟩
       ·simpa using e2
       ·exact absurd (by simp at hv;simp[hv]) hnt
      have g1:=tk t q' hnt;have g2:=up (u++t);have g3:=m1 u t;simp at e1 e2 g1 g2 g3 ⊢;omega
     |cons y v'=>
      simp at hs2;obtain⟨rfl,rfl⟩:=hs2;have g1:=tk t (v'++w) hnt;have e2:AO (x::a) (t++x::v')≤max (AO a (t++x::v')) (AO a v'+1):=by rw[AO,bI hnt];simp
      have g2:=up (u++(t++x::v'));have g3:=m1 u (t++x::v');have g4:=tk' (u++t) v';simp at e1 e2 g1 g2 g3 g4 ⊢;omega
   ·-- u=q0++t,x::q'=t++(v++w)
    cases t with
    |nil=>
     simp at ht2 ht1;subst ht1
     -- x heads v++w
     cases v with
     |nil=>
      simp at ht2;have g1:=tk [] q' (by simp);have g0:=up u;simp at g1 e1 ⊢;rw[← ht2] at e1 ⊢;rw[e1];omega
     |cons y v'=>
      simp at ht2;obtain⟨rfl,rfl⟩:=ht2;have g1:=tk [] (v'++w) (by simp);have e2:=LD x a v';have g4:=tk' u v';simp at e1 g1 g4 ⊢;omega
    |cons y u'=>
     simp at ht2;obtain⟨rfl,rfl⟩:=ht2;subst ht1;rcases c2 with e2 | ⟨v0,v',rfl,hv,e2⟩
     ·have h:=L8 a u' v w;have g1:=tk q0 (u'++v) hn;have g2:=up (v++w);simp at e1 e2 g1 g2 h ⊢;omega
     ·have h:=L8 a (u'++(v0++[x])) v' w;have g1:=tk q0 (u'++(v0++x::v')) hn;have g2:=tk v0 (v'++w) hv;simp at e1 e2 g1 g2 h ⊢;omega
def sg (l:List Int) (p q:Nat):List Int:=(l.take q).drop p
def HM (a b:List Int) (i h j k:Nat):Nat:=AO (sg a i h) (sg b j k)
theorem LK (l:List Int) (p q:Nat) (h:q≤l.length):(sg l p q).length=q-p:=by simp[sg];omega
theorem QC {l:List Int} {p k q:Nat} (h1:p≤k) (h2:k≤q):sg l p q=sg l p k++sg l k q:=by
 unfold sg;have e:(l.take q).drop p=((l.take q).drop p).take (k-p)++((l.take q).drop p).drop (k-p):=(List.take_append_drop _ _).symm;rw[e,List.drop_drop,List.take_drop,List.take_take];congr 3<;>first | omega | skip
theorem SJ (l:List Int) (q:Nat):sg l 0 q=l.take q:=by simp[sg]
theorem cV (l:List Int) (p:Nat):sg l p l.length=l.drop p:=by simp[sg]
theorem Aci (l:List Int) (p:Nat):sg l p p=[]:=by simp[sg]
theorem Wn {l:List Int} {n p q:Nat} (h:q≤n):sg (l.take n) p q=sg l p q:=by
 unfold sg;rw[List.take_take];congr 2;omega
theorem Wj {l:List Int} {n p q:Nat}:sg (l.drop n) p q=sg l (n+p) (n+q):=by
 unfold sg;rw[List.take_drop,List.drop_drop]
theorem GN {a b:List Int} {i h t j k q:Nat} (h1:i≤h) (h2:h≤t) (h3:j≤k) (h4:k≤q):HM a b i h j k+HM a b h t k q≤HM a b i t j q:=by
 unfold HM;rw[QC h1 h2,QC h3 h4];exact ql _ _ _ _
theorem J1 (a b:List Int) {i h t j q:Nat} (h1:i≤h) (h2:h≤t) (h3:j≤q) (h4:q≤b.length):∃ k,j≤k∧k≤q∧HM a b i h j k+HM a b h t k q=HM a b i t j q:=by
 unfold HM;rw[QC h1 h2];obtain⟨b1,b2,e,hs⟩:=rk (sg a i h) (sg a h t) (sg b j q);have hl:=LK b j q h4;rw[e] at hl;simp at hl;refine⟨j+b1.length,by omega,by omega,?_⟩;have e2:=QC (l:=b) (p:=j) (k:=j+b1.length) (q:=q) (by omega) (by omega);rw[e] at e2;obtain⟨g1,g2⟩:=List.append_inj e2 (by rw[LK _ _ _ (by omega)];omega);rw[← g1,← g2,← hs]
theorem aY (a b:List Int) (i h:Nat) {p p' q q':Nat} (h1:p≤p') (h2:p'≤q) (h3:q≤q'):HM a b i h p q'+HM a b i h p' q≤HM a b i h p q+HM a b i h p' q':=by
 unfold HM;rw[QC (l:=b) h1 (by omega:p'≤q'),QC (l:=b) h2 h3,QC (l:=b) h1 h2];exact L8 _ _ _ _
def gB (p:Nat→Bool):Nat→Nat→Nat
 |0,j=>j
 |f+1,j=>if p j=true then j else gB p f (j+1)
theorem cF {p:Nat→Bool}:∀ {f j k:Nat},j≤k→k≤j+f→p k=true→p (gB p f j)=true∧j≤gB p f j∧gB p f j≤k
 |0,j,k,h1,h2,h=>by
  have:k=j:=by omega
  subst this;exact⟨h,by simp[gB],by simp[gB]⟩
 |f+1,j,k,h1,h2,h=>by
  unfold gB;by_cases e:p j=true
  ·simp[e,h1]
  ·rw[if_neg e];have hne:j ≠ k:=fun h'=>by rw[h'] at e;exact e h
   have:=cF (f:=f) (j:=j+1) (k:=k) (by omega) (by omega) h;exact⟨this.1,by omega,this.2.2⟩
def Rt (a b:List Int) (i j:Nat):Bool:=decide (HM a b 0 i 0 j+HM a b i a.length j b.length=AO a b)
def CF (a b:List Int) (i:Nat):Nat:=gB (Rt a b i) b.length 0
theorem pZ (a b:List Int):HM a b 0 a.length 0 b.length=AO a b:=by simp[HM,sg]
theorem OO {a b:List Int} {i j:Nat} (hi:i≤a.length) (hj:j≤b.length):HM a b 0 i 0 j+HM a b i a.length j b.length≤AO a b:=by
 rw[← pZ];exact GN (by omega) hi (by omega) hj
theorem H8 {a b:List Int} {i:Nat} (hi:i≤a.length):Rt a b i (CF a b i)=true∧CF a b i≤b.length∧∀ j,j≤b.length→Rt a b i j=true→CF a b i≤j:=by
 obtain⟨k,h1,h2,h3⟩:=J1 a b (i:=0) (h:=i) (t:=a.length) (j:=0) (q:=b.length) (by omega) hi (by omega) (by omega);rw[pZ] at h3;have:=cF (p:=Rt a b i) (f:=b.length) (j:=0) (k:=k) (by omega) (by omega) (by simpa[Rt] using h3);refine⟨this.1,by unfold CF;omega,fun j hj h=>?_⟩;exact(cF (p:=Rt a b i) (f:=b.length) (j:=0) (k:=j) (by omega) (by omega) h).2.2
theorem Tn {a b:List Int} {i k:Nat} (hi:i≤a.length) (hk:k≤b.length) (h1:Rt a b i k=true) (h2:∀ j,j<k→Rt a b i j=false):CF a b i=k:=by
 obtain⟨g1,g2,g3⟩:=H8 (a:=a) (b:=b) hi;have:=g3 k hk h1;by_cases e:CF a b i<k
 ·have:=h2 _ e;rw[g1] at this;cases this
 ·omega
theorem Y9 (a b:List Int):CF a b 0=0:=Tn (by omega) (by omega) (by simp[Rt,HM,sg]) (by omega)
theorem Xp {a b:List Int} {i h:Nat} (hih:i≤h) (hh:h≤a.length):CF a b i≤CF a b h:=by
 obtain⟨g1,g2,g3⟩:=H8 (a:=a) (b:=b) hh;obtain⟨k,h1,h2,h3⟩:=J1 a b (i:=0) (h:=i) (t:=h) (j:=0) (q:=CF a b h) (by omega) hih (by omega) g2;have h4:=GN (a:=a) (b:=b) (i:=i) (h:=h) (t:=a.length) (j:=k) (k:=CF a b h) (q:=b.length) hih hh h2 g2;have h5:=OO (a:=a) (b:=b) (i:=i) (j:=k) (by omega) (by omega);have hg:=g1;unfold Rt at hg;simp only[decide_eq_true_eq] at hg;have:=(H8 (a:=a) (b:=b) (i:=i) (by omega)).2.2 k (by omega) (by unfold Rt;simp only[decide_eq_true_eq];omega);omega
theorem dR {a b:List Int} {i h:Nat} (hih:i≤h) (hh:h≤a.length):CF (a.take h) (b.take (CF a b h)) i=CF a b i:=by
 obtain⟨g1,g2,g3⟩:=H8 (a:=a) (b:=b) hh;obtain⟨f1,f2,f3⟩:=H8 (a:=a) (b:=b) (i:=i) (by omega);have hm:=Xp (a:=a) (b:=b) hih hh;generalize hJ:CF a b h=J at *;generalize hj:CF a b i=j at *;have la:(a.take h).length=h:=by simp;omega
 have lb:(b.take J).length=J:=by simp;omega
 have e0:AO (a.take h) (b.take J)=HM a b 0 h 0 J:=by simp[HM,SJ]
 have e1:∀ k,k≤J→Rt (a.take h) (b.take J) i k=decide (HM a b 0 i 0 k+HM a b i h k J=HM a b 0 h 0 J):=fun k hk=>by
  unfold Rt;rw[e0,la,lb];unfold HM;rw[Wn hih,Wn hk,Wn (Cb _),Wn (Cb _)]
 unfold Rt at g1 f1;simp only[decide_eq_true_eq] at g1 f1;refine Tn (by omega) (by omega) ?_ fun k hk=>?_
 ·rw[e1 j hm,decide_eq_true_eq]
  -- the way through (i,j) comes to row h at k
  obtain⟨k,h1,h2,h3⟩:=J1 a b (i:=i) (h:=h) (t:=a.length) (j:=j) (q:=b.length) hih hh f2 (by omega);have h4:=GN (a:=a) (b:=b) (i:=0) (h:=i) (t:=h) (j:=0) (k:=j) (q:=k) (by omega) hih (by omega) h1;have h5:=OO (a:=a) (b:=b) (i:=h) (j:=k) hh h2;have hJk:J≤k:=g3 k h2 (by unfold Rt;simp only[decide_eq_true_eq];omega);obtain⟨k2,i1,i2,i3⟩:=J1 a b (i:=0) (h:=i) (t:=h) (j:=0) (q:=J) (by omega) hih (by omega) g2;have i4:=GN (a:=a) (b:=b) (i:=i) (h:=h) (t:=a.length) (j:=k2) (k:=J) (q:=b.length) hih hh i2 g2;have i5:=OO (a:=a) (b:=b) (i:=i) (j:=k2) (by omega) (by omega);have hjk2:j≤k2:=f3 k2 (by omega) (by unfold Rt;simp only[decide_eq_true_eq];omega);have m:=aY a b i h (p:=j) (p':=k2) (q:=J) (q':=k) hjk2 i2 hJk;have t1:=GN (a:=a) (b:=b) (i:=0) (h:=i) (t:=h) (j:=0) (k:=j) (q:=J) (by omega) hih (by omega) hm;have t2:=GN (a:=a) (b:=b) (i:=i) (h:=h) (t:=a.length) (j:=k2) (k:=k) (q:=b.length) hih hh (by omega) h2;omega
 ·rw[e1 k (by omega),decide_eq_false_iff_not];intro e;have h4:=GN (a:=a) (b:=b) (i:=i) (h:=h) (t:=a.length) (j:=k) (k:=J) (q:=b.length) hih hh (by omega) g2;have h5:=OO (a:=a) (b:=b) (i:=i) (j:=k) (by omega) (by omega);have:=f3 k (by omega) (by unfold Rt;simp only[decide_eq_true_eq];omega);omega
theorem dX {a b:List Int} {i h:Nat} (hh:h+i≤a.length):CF (a.drop h) (b.drop (CF a b h)) i+CF a b h=CF a b (h+i):=by
 obtain⟨g1,g2,g3⟩:=H8 (a:=a) (b:=b) (i:=h) (by omega);obtain⟨f1,f2,f3⟩:=H8 (a:=a) (b:=b) (i:=h+i) hh;have hm:=Xp (a:=a) (b:=b) (i:=h) (h:=h+i) (by omega) hh;generalize hJ:CF a b h=J at *;generalize hj:CF a b (h+i)=j at *;have la:h+(a.drop h).length=a.length:=by simp;omega
 have lb:J+(b.drop J).length=b.length:=by simp;omega
 have e0:AO (a.drop h) (b.drop J)=HM a b h a.length J b.length:=by simp[HM,cV]
 have e1:∀ k,Rt (a.drop h) (b.drop J) i k=decide (HM a b h (h+i) J (J+k)+HM a b (h+i) a.length (J+k) b.length=HM a b h a.length J b.length):=fun k=>by
  unfold Rt;rw[e0];unfold HM;rw[Wj,Wj,Wj,Wj,la,lb,Nat.add_zero,Nat.add_zero]
 unfold Rt at g1 f1;simp only[decide_eq_true_eq] at g1 f1
 suffices hw:CF (a.drop h) (b.drop J) i=j-J by omega
 refine Tn (by omega) (by omega) ?_ fun k hk=>?_
 ·rw[e1,decide_eq_true_eq,show J+(j-J)=j by omega]
  -- the way through (h+i,j) comes from row h at k
  obtain⟨k,h1,h2,h3⟩:=J1 a b (i:=0) (h:=h) (t:=h+i) (j:=0) (q:=j) (by omega) (by omega) (by omega) f2;have h4:=GN (a:=a) (b:=b) (i:=h) (h:=h+i) (t:=a.length) (j:=k) (k:=j) (q:=b.length) (by omega) hh h2 f2;have h5:=OO (a:=a) (b:=b) (i:=h) (j:=k) (by omega) (by omega);have hJk:J≤k:=g3 k (by omega) (by unfold Rt;simp only[decide_eq_true_eq];omega);obtain⟨k2,i1,i2,i3⟩:=J1 a b (i:=h) (h:=h+i) (t:=a.length) (j:=J) (q:=b.length) (by omega) hh g2 (by omega);have i4:=GN (a:=a) (b:=b) (i:=0) (h:=h) (t:=h+i) (j:=0) (k:=J) (q:=k2) (by omega) (by omega) (by omega) i1;have i5:=OO (a:=a) (b:=b) (i:=h+i) (j:=k2) hh i2;have hjk2:j≤k2:=f3 k2 (by omega) (by unfold Rt;simp only[decide_eq_true_eq];omega);have m:=aY a b h (h+i) (p:=J) (p':=k) (q:=j) (q':=k2) hJk h2 hjk2;have t1:=GN (a:=a) (b:=b) (i:=h) (h:=h+i) (t:=a.length) (j:=J) (k:=j) (q:=b.length) (by omega) hh hm f2;have t2:=GN (a:=a) (b:=b) (i:=0) (h:=h) (t:=h+i) (j:=0) (k:=k) (q:=k2) (by omega) (by omega) (by omega) (by omega);omega
 ·rw[e1,decide_eq_false_iff_not];intro e;have h4:=GN (a:=a) (b:=b) (i:=0) (h:=h) (t:=h+i) (j:=0) (k:=J) (q:=J+k) (by omega) (by omega) (by omega) (by omega);have h5:=OO (a:=a) (b:=b) (i:=h+i) (j:=J+k) hh (by omega);have:=f3 (J+k) (by omega) (by unfold Rt;simp only[decide_eq_true_eq];omega);omega
structure Sp where
 k:Nat
 n:Nat
 deriving DecidableEq
def Sp.ok (s:Sp):Prop:=s.k≤2∧1≤s.n∧s.n≤1048576
def Sp.may (s:Sp):Prop:=s.k≤2∧s.n≤1048576
def Bs (l:List Sp):List Nat:=l.flatMap fun s=>replicate s.n s.k
@[simp] theorem JZ:Bs []=[]:=rfl
@[simp] theorem BE (s:Sp) (l:List Sp):Bs (s::l)=replicate s.n s.k++Bs l:=rfl
@[simp] theorem J2 (l m:List Sp):Bs (l++m)=Bs l++Bs m:=by simp[Bs]
def fl (k n:Nat):List Sp:=if n=0 then [] else [⟨k,n⟩]
@[simp] theorem AjP (k:Nat):fl k 0=[]:=rfl
theorem YT {k n:Nat} (h:0<n):fl k n=[⟨k,n⟩]:=by unfold fl;rw[if_neg (by omega)]
@[simp] theorem Oc (k n:Nat):Bs (fl k n)=replicate n k:=by
 unfold fl;split
 ·rename_i h;simp[h]
 ·simp[Bs]
theorem WV {k n:Nat} (hk:k≤2) (hn:n≤1048576):∀ s,s ∈ fl k n→s.ok:=by
 intro s hs;unfold fl at hs;split at hs
 ·simp at hs
 ·simp at hs;subst hs;exact⟨hk,by simp;omega,hn⟩
def Qu:List Nat→Nat→Nat→Nat→List Sp
 |[],k,d,i=>fl 0 k++(fl 1 d++fl 2 i)
 |x::us,k,d,i=>if x=0 then fl 1 d++(fl 2 i++Qu us (k+1) 0 0) else fl 0 k++(if x=1 then Qu us 0 (d+1) i else Qu us 0 d (i+1))
def Lu (us:List Nat):List Sp:=Qu us 0 0 0
theorem j9:∀ (n:Nat) (us:List Nat) (k d i:Nat),0<n→(d=0∧i=0∨k=0)→Qu (replicate n 0++us) k d i=fl 1 d++(fl 2 i++Qu us (k+n) 0 0)
 |n+1,us,k,d,i,_,h=>by
  rw[List.replicate_succ,List.cons_append,Qu,if_pos rfl];cases n with
  |zero=>simp
  |succ n=>
   rw[j9 (n+1) us (k+1) 0 0 (by omega) (.inl ⟨rfl,rfl⟩)];simp;rw[show k+1+(n+1)=k+(n+1+1) by omega]
theorem bP:∀ (n:Nat) (us:List Nat) (k d i:Nat),0<n→Qu (replicate n 1++us) k d i=fl 0 k++Qu us 0 (d+n) i
 |n+1,us,k,d,i,_=>by
  rw[List.replicate_succ,List.cons_append,Qu,if_neg (by decide),if_pos rfl];cases n with
  |zero=>simp
  |succ n=>
   rw[bP (n+1) us 0 (d+1) i (by omega)];simp;rw[show d+1+(n+1)=d+(n+1+1) by omega]
theorem Wm:∀ (n:Nat) (us:List Nat) (k d i:Nat),0<n→Qu (replicate n 2++us) k d i=fl 0 k++Qu us 0 d (i+n)
 |n+1,us,k,d,i,_=>by
  rw[List.replicate_succ,List.cons_append,Qu,if_neg (by decide),if_neg (by decide)];cases n with
  |zero=>simp
  |succ n=>
   rw[Wm (n+1) us 0 d (i+1) (by omega)];simp;rw[show i+1+(n+1)=i+(n+1+1) by omega]
def Pz (p q:Nat):List Nat:=if p<q then replicate (q-p-1) 2++[0] else [1]
def Gj (a b:List Int):List Nat:=(List.range a.length).flatMap (fun i=>Pz (CF a b i) (CF a b (i+1)))++replicate (b.length-CF a b a.length) 2
theorem Si {α:Type} (f:Nat→List α) (m n:Nat):(List.range (m+n)).flatMap f=(List.range m).flatMap f++(List.range n).flatMap (fun i=>f (m+i)):=by
 rw[List.range_add,List.flatMap_append,List.flatMap_map]
theorem Gh {α:Type} {f g:Nat→List α} {n:Nat} (h:∀ i,i<n→f i=g i):(List.range n).flatMap f=(List.range n).flatMap g:=by
 induction n with
 |zero=>rfl
 |succ n ih=>
  rw[List.range_succ,List.flatMap_append,List.flatMap_append,ih fun i hi=>h i (by omega)];simp[h n (by omega)]
theorem wU (p q t:Nat):Pz (p+t) (q+t)=Pz p q:=by
 unfold Pz;by_cases h:p<q
 ·rw[if_pos h,if_pos (by omega),show q+t-(p+t)-1=q-p-1 by omega]
 ·rw[if_neg h,if_neg (by omega)]
theorem aJ (a b:List Int) {h:Nat} (hh:h≤a.length):Gj a b=Gj (a.take h) (b.take (CF a b h))++Gj (a.drop h) (b.drop (CF a b h)):=by
 obtain⟨g1,g2,g3⟩:=H8 (a:=a) (b:=b) hh;have la:(a.take h).length=h:=by simp;omega
 have lb:(b.take (CF a b h)).length=CF a b h:=by simp;omega
 have ld:(a.drop h).length=a.length-h:=by simp
 have le:(b.drop (CF a b h)).length=b.length-CF a b h:=by simp
 have e1:Gj (a.take h) (b.take (CF a b h))=(List.range h).flatMap fun i=>Pz (CF a b i) (CF a b (i+1)):=by
  unfold Gj;rw[la,lb,dR (Cb _) hh,Nat.sub_self,List.replicate_zero,List.append_nil];exact Gh fun i hi=>by rw[dR (by omega) hh,dR (by omega) hh]
 have e2:Gj (a.drop h) (b.drop (CF a b h))=(List.range (a.length-h)).flatMap (fun i=>Pz (CF a b (h+i)) (CF a b (h+i+1)))++replicate (b.length-CF a b a.length) 2:=by
  unfold Gj;rw[ld,le];have hw:=dX (a:=a) (b:=b) (h:=h) (i:=a.length-h) (by omega);rw[show h+(a.length-h)=a.length by omega] at hw;congr 1
  ·refine Gh fun i hi=>?_;have w1:=dX (a:=a) (b:=b) (h:=h) (i:=i) (by omega);have w2:=dX (a:=a) (b:=b) (h:=h) (i:=i+1) (by omega);rw[← wU _ _ (CF a b h),w1,w2];rfl
  ·congr 1;omega
 rw[e1,e2,← List.append_assoc];unfold Gj;congr 1;have:=Si (fun i=>Pz (CF a b i) (CF a b (i+1))) h (a.length-h);rw[show h+(a.length-h)=a.length by omega] at this;exact this
theorem iu (b:List Int):Gj [] b=replicate b.length 2:=by
 unfold Gj;simp[Y9]
theorem qP (a:List Int):Gj a []=replicate a.length 1:=by
 have h:∀ i,i≤a.length→CF a [] i=0:=fun i hi=>by have:=(H8 (a:=a) (b:=[]) hi).2.1;simpa using this
 unfold Gj;rw[h _ (Cb _)];simp;rw[Gh (g:=fun _=>[1]) fun i hi=>by rw[h i (by omega),h (i+1) (by omega)];rfl];generalize a.length=n;induction n with
 |zero=>rfl
 |succ n ih=>rw[List.range_succ,List.flatMap_append,ih,List.replicate_succ'];simp
def DC (x:Int):List Int→Nat
 |[]=>0
 |y::b=>if x=y then 0 else DC x b+1
theorem S5 (x:Int):∀ b,DC x b≤b.length
 |[]=>by simp[DC]
 |y::b=>by
  have:=S5 x b;unfold DC;split<;>simp<;>omega
theorem SO (x:Int):∀ {b},(h:DC x b<b.length)→b[DC x b]=x
 |[],h=>by simp[DC] at h
 |y::b,h=>by
  unfold DC at h;by_cases e:x=y
  ·simp[DC,e]
  ·rw[if_neg e] at h;simp only[DC,if_neg e,List.getElem_cons_succ];exact SO x (by simpa using h)
theorem R8 (x:Int):∀ {b:List Int} {j:Nat},j≤DC x b→x ∉ b.take j
 |[],j,h=>by simp
 |y::b,0,h=>by simp
 |y::b,j+1,h=>by
  unfold DC at h;by_cases e:x=y
  ·rw[if_pos e] at h;omega
  ·rw[if_neg e] at h;simp[e,R8 x (b:=b) (j:=j) (by omega)]
theorem cq (x:Int) (b:List Int):AO [x] b=if x ∈ b then 1 else 0:=by
 unfold AO;cases e:fC x b with
 |none=>simp[jz e]
 |some b'=>
  obtain⟨b0,rfl,_⟩:=OU e;simp
theorem pG (x:Int) (b:List Int):CF [x] b 1=if DC x b<b.length then DC x b+1 else 0:=by
 have on:∀ j,Rt [x] b 1 j=decide ((if x ∈ b.take j then 1 else 0)=if x ∈ b then 1 else 0):=fun j=>by
  unfold Rt HM;rw[cq];simp[SJ,Aci,cq,sg]
 have hle:=S5 x b;by_cases h:DC x b<b.length
 ·rw[if_pos h];have hx:x ∈ b:=by rw[← SO x h];exact A5 h
  refine Tn (by simp) (by omega) ?_ fun j hj=>?_
  ·rw[on,if_pos hx,if_pos ?_]
   ·rfl
   ·rw[Ij h,SO x h];simp
  ·rw[on,if_pos hx,if_neg (R8 x (by omega))];rfl
 ·rw[if_neg h];refine Tn (by simp) (by omega) ?_ fun j hj=>by omega
  rw[on,if_neg (by simp),if_neg ?_]
  ·rfl
  ·have:=R8 x (b:=b) (j:=b.length) (by omega)
   rwa [BO (Cb _)] at this
theorem XP (x:Int) (b:List Int):Gj [x] b=if DC x b<b.length then replicate (DC x b) 2++(0::replicate (b.length-DC x b-1) 2) else 1::replicate b.length 2:=by
 unfold Gj;have:(List.range [x].length)=[0]:=rfl;rw[this,show [x].length=1 from rfl,pG];simp only[List.flatMap_cons,List.flatMap_nil,List.append_nil,Y9,Nat.zero_add];rw[pG];split
 ·unfold Pz;rw[if_pos (by omega),show DC x b+1-0-1=DC x b by omega,show b.length-(DC x b+1)=b.length-DC x b-1 by omega];simp
 ·simp[Pz]
def DU (a b:List Int) (i j:Nat):Nat:=i+j-2*AO (a.take i) (b.take j)
theorem JX (a b:List Int) (i j:Nat):AO (a.take i) (b.take j)≤i∧AO (a.take i) (b.take j)≤j:=by
 have h:=JJ (a.take i) (b.take j);simp at h;omega
theorem Xr (a b:List Int) (i j:Nat):i≤j+DU a b i j∧j≤i+DU a b i j:=by
 have h:=JX a b i j;unfold DU;omega
theorem P3 {l:List Int} {i:Nat} (h:l.length≤i):l.take (i+1)=l.take i:=by
 rw[BO (by omega),BO h]
theorem WM {a b:List Int} {i j:Nat} (h:¬ ∃ (h1:i<a.length) (h2:j<b.length),a[i]=b[j]):DU a b (i+1) (j+1)=DU a b i (j+1)+1∨DU a b (i+1) (j+1)=DU a b (i+1) j+1:=by
 have g1:=JX a b i (j+1);have g2:=JX a b (i+1) j;have g3:=JX a b (i+1) (j+1);unfold DU;by_cases h1:i<a.length
 ·by_cases h2:j<b.length
  ·have hne:a[i] ≠ b[j]:=fun e=>h ⟨h1,h2,e⟩;have e:=Qe hne (a.take i) (b.take j);rw[← Ij h1,← Ij h2] at e;omega
  ·rw[P3 (l:=b) (by omega)] at *;omega
 ·rw[P3 (l:=a) (by omega)] at *;omega
theorem QA {a b:List Int} {i j:Nat} (h1:i<a.length) (h2:j<b.length) (h:a[i]=b[j]):DU a b (i+1) (j+1)=DU a b i j:=by
 have g:=JX a b i j;unfold DU;rw[Ij h1,Ij h2,h,P6];omega
theorem sc (a b:List Int) (i j:Nat):DU a b (i+1) j≤DU a b i j+1:=by
 have:AO (a.take i) (b.take j)≤AO (a.take (i+1)) (b.take j):=OW (List.take_sublist_take_left (by omega)) (List.Sublist.refl _);unfold DU;omega
theorem rz (a b:List Int) (i j:Nat):DU a b i (j+1)≤DU a b i j+1:=by
 have:AO (a.take i) (b.take j)≤AO (a.take i) (b.take (j+1)):=OW (List.Sublist.refl _) (List.take_sublist_take_left (by omega));unfold DU;omega
def C5 (a b:List Int):Nat:=a.length+b.length-2*AO a b
theorem zm (a b:List Int):DU a b a.length b.length=C5 a b:=by simp[DU,C5]
theorem yV {a b:List Int} {i j:Nat} (h1:a.length≤i) (h2:b.length≤j):C5 a b≤DU a b i j:=by
 unfold DU C5;rw[BO h1,BO h2];omega
structure Q0 (a b:List Int) (c d p x:Nat):Prop where
 on:p≤x+c
 may:DU a b x (x+c-p)≤d
 most:∀ i j,i+c=j+p→DU a b i j≤d→i≤x
structure fe (a b:List Int) (c d p x:Nat):Prop where
 on:p≤x+c
 may:DU a b x (x+c-p)≤d
 most:∀ i j,i+c=j+p→DU a b i j≤d→i≤x∨∃ i' j',i=i'+1∧j=j'+1∧(∃ (h1:i'<a.length) (h2:j'<b.length),a[i']=b[j'])∧DU a b i' j'≤d
theorem wc (a b:List Int) (c:Nat):fe a b c 0 c 0:=by
 refine⟨by omega,by simp[DU],fun i j h hm=>?_⟩;have:i=j:=by omega
 subst this;cases i with
 |zero=>exact .inl (by omega)
 |succ i=>
  right;refine⟨i,i,rfl,rfl,?_⟩;by_cases hs:∃ (h1:i<a.length) (h2:i<b.length),a[i]=b[i]
  ·obtain⟨h1,h2,e⟩:=hs;rw[QA h1 h2 e] at hm;exact⟨⟨h1,h2,e⟩,hm⟩
  ·have:=WM hs;omega
theorem SH {a b:List Int} {c d p x:Nat} (hc:d+1≤c) (hp1:c≤p+(d+1)) (hp2:p≤c+(d+1)) (hp0:1≤p) {y z:Nat} (hy:p+(d+1) ≠ c→Q0 a b c d (p-1) y) (hz:p ≠ c+(d+1)→Q0 a b c d (p+1) z)
  (hx:(p+(d+1) ≠ c∧x=y+1)∨(p ≠ c+(d+1)∧x=z)) (hxy:p+(d+1) ≠ c→y+1≤x) (hxz:p ≠ c+(d+1)→z≤x):fe a b c (d+1) p x:=by
 have on:p≤x+c∧DU a b x (x+c-p)≤d+1:=by
  rcases hx with ⟨h,rfl⟩ | ⟨h,rfl⟩
  ·have g:=hy h;have g1:=g.on;have g2:=g.may;have:=sc a b y (y+c-(p-1));refine⟨by omega,?_⟩;rw[show y+1+c-p=y+c-(p-1) by omega];omega
  ·have g:=hz h;have g1:=g.on;have g2:=g.may;have:=rz a b x (x+c-(p+1));refine⟨by omega,?_⟩;rw[show x+c-p=x+c-(p+1)+1 by omega];omega
 refine⟨on.1,on.2,fun i j h hm=>?_⟩;cases i with
 |zero=>exact .inl (by omega)
 |succ i=>
  cases j with
  |zero=>exact .inl (by omega)
  |succ j=>
   by_cases hs:∃ (h1:i<a.length) (h2:j<b.length),a[i]=b[j]
   ·obtain⟨h1,h2,e⟩:=hs;rw[QA h1 h2 e] at hm;exact .inr ⟨i,j,rfl,rfl,⟨h1,h2,e⟩,hm⟩
   ·left;rcases WM hs with e | e
    ·have hd:=Xr a b i (j+1);have hne:p+(d+1) ≠ c:=fun h'=>by omega
     have:=(hy hne).most i (j+1) (by omega) (by omega);have:=hxy hne;omega
    ·have hd:=Xr a b (i+1) j;have hne:p ≠ c+(d+1):=fun h'=>by omega
     have:=(hz hne).most (i+1) j (by omega) (by omega);have:=hxz hne;omega
theorem AdB {a b:List Int} {c d p x:Nat} (h:fe a b c d p x) {y:Nat} (hy:x+c=y+p) (h1:x<a.length) (h2:y<b.length) (e:a[x]=b[y]):fe a b c d p (x+1):=by
 have hm:=h.may;rw[show x+c-p=y by omega] at hm;refine⟨by omega,?_,fun i j hij hc=>?_⟩
 ·rw[show x+1+c-p=y+1 by omega,QA h1 h2 e];exact hm
 ·rcases h.most i j hij hc with k | k
  ·exact .inl (by omega)
  ·exact .inr k
theorem Wi {a b:List Int} {c d p x:Nat} (h:fe a b c d p x) {y:Nat} (hy:x+c=y+p) (hs:¬ ∃ (h1:x<a.length) (h2:y<b.length),a[x]=b[y]):Q0 a b c d p x:=by
 refine⟨h.on,h.may,fun i=>?_⟩;induction i with
 |zero=>intro j _ _;omega
 |succ i ih=>
  intro j hij hc;rcases h.most _ _ hij hc with k | ⟨i',j',e1,e2,k,km⟩
  ·exact k
  ·have e1:i=i':=by omega
   subst e1;have:=ih j' (by omega) km;by_cases e:i=x
   ·subst e;have:j'=y:=by omega
    subst this;exact absurd k hs
   ·omega
theorem va {a b:List Int} {c d p x y:Nat} (h:Q0 a b c d p x) (hy:x+c=y+p) (h1:a.length≤x) (h2:b.length≤y):C5 a b≤d:=by
 have:=h.may;rw[show x+c-p=y by omega] at this;have:=yV (a:=a) (b:=b) h1 h2;omega
theorem qv {a b:List Int} {c d p x y:Nat} (h:Q0 a b c d p x) (hy:x+c=y+p) (hp:a.length+c=b.length+p) (hd:C5 a b≤d):a.length≤x∧b.length≤y:=by
 have:=h.most a.length b.length hp (by rw[zm];exact hd);omega
theorem ZQ (a b:List Int):a.length≤b.length+C5 a b∧b.length≤a.length+C5 a b∧(a.length+b.length+C5 a b) % 2=0:=by
 have h:=JJ a b;unfold C5;omega
end Go.PL
namespace Go.Proofs.YtbjmaoedheiigaaGreat
open Go Go.G Go.Proofs Go.PL
def Lq (f:Nat→Int) (n:Nat):List A:=(List.range n).map fun q=>iv (f q)
@[simp] theorem AiU {f:Nat→Int} {n:Nat}:(Lq f n).length=n:=by simp[Lq]
@[simp] theorem JN {f:Nat→Int} {n k:Nat} (h:k<n):(Lq f n)[k]? = some (iv (f k)):=by simp[Lq,h]
@[simp] theorem Aj7 {f:Nat→Int} {n k:Nat} (h:k<(Lq f n).length):(Lq f n)[k]=iv (f k):=by simp[Lq]
@[simp] theorem Ajb {f:Nat→Int} {n k:Nat} {z:Int}:(Lq f n).set k (iv z)=Lq (fun q=>if q=k then z else f q) n:=by
 apply List.ext_getElem?;intro i;rw[List.getElem?_set];by_cases hi:i<n
 ·rw[JN hi];by_cases e:k=i
  ·subst e;simp[hi,JN hi]
  ·rw[if_neg e,JN hi,if_neg (Ne.symm e)]
 ·rw[List.getElem?_eq_none (l:=Lq _ n) (by simp;omega)];split
  ·rename_i e;rw[if_neg (by simp;omega),List.getElem?_eq_none (by simp;omega)]
  ·rw[List.getElem?_eq_none (by simp;omega)]
theorem WK {n:Nat}:List.replicate n (iv 0)=Lq (fun _=>0) n:=by
 apply List.ext_getElem?;intro i;by_cases hi:i<n
 ·rw[JN hi];simp[hi]
 ·rw[List.getElem?_eq_none (by simp;omega),List.getElem?_eq_none (by simp;omega)]
theorem T6 {f g:Nat→Int} {n:Nat} (h:∀ q,q<n→f q=g q):Lq f n=Lq g n:=by
 unfold Lq;exact List.map_congr_left fun q hq=>by rw[h q (by simpa using hq)]
theorem xC (l:List Int):l.map iv=Lq (fun q=>l.getD q 0) l.length:=by
 apply List.ext_getElem?;intro i;by_cases hi:i<l.length
 ·rw[JN hi];simp[hi]
 ·rw[List.getElem?_eq_none (by simp;omega),List.getElem?_eq_none (by simp;omega)]
theorem dw {H:Hp} {o:Nm} {u n:Nat} {f:Nat→Int} (h:H o=⟨u,.arr 1 (Lq f n)⟩):K6 H (.osl o u 1 0 n) (.sl false (Lq f n)):=by
 have:=Cu (H:=H) (o:=o) (u:=u) (sz:=1) (l:=List.range n) (f:=fun q=>iv (f q)) (n:=n) (by rw[h];simp[Lq]) (by simp) (fun x=>rfl);exact this
theorem Pk (l:List Int):A.softL (l.map iv)=l.map iv:=by rw[C0,List.map_map];rfl
theorem eK (l:List Int) (n:Nat):A.softL ((l.map iv).take n)=(l.map iv).take n:=by rw[← List.map_take,Pk]
theorem bS (l:List Int) (n:Nat):A.softL ((l.map iv).drop n)=(l.map iv).drop n:=by rw[← List.map_drop,Pk]
theorem kM {f:Nat→Int} {n k:Nat} {lo hi:Bool} (hk:1≤k) (hk2:k+1<n) (hn:n≤100000000) (hf:∀ q,-1000000000≤f q∧f q≤1000000000):G.Spec Tryz.prog 219 [.sl false (Lq f n),iv k,bv lo,bv hi] (iv (if lo=true∧hi=true then 0 else if lo=true∨(hi=false∧f (k-1)<f (k+1)) then f (k+1) else f (k-1)+1)):=by
 have e1:i64.wrap ((k:Int)-1)=((k-1:Nat):Int):=Bl;have e2:=AM k;have h1:=hf (k-1);have e3:i64.wrap (f (k-1)+1)=f (k-1)+1:=Bv;have g1:(Lq f n)[k-1]? = some (iv (f (k-1))):=JN (by omega);have g2:(Lq f n)[k+1]? = some (iv (f (k+1))):=JN hk2;have b1:k-1<n:=by omega
 have b2:(0:Int)≤(k:Int)+1:=by omega
 have b3:(k:Int)+1<n:=by omega
 refine Ah fX (by simp) fun w0 I0=>?_;unfold UU;cases lo<;>cases hi
 ·by_cases h:f (k-1)<f (k+1)
  ·simp[e1,e2,e3,g1,g2,h,b1,b2,b3,hk2];exact Ab rfl
  ·simp[e1,e2,e3,g1,g2,h,b1,b2,b3,hk2];exact DY rfl
 ·simp[e1,e2,e3,g1,g2,b1,b2,b3,hk2];exact Ab rfl
 ·simp[e1,e2,e3,g1,g2,b1,b2,b3,hk2];exact Ab rfl
 ·simp;exact Ab rfl
variable {n0:Nat} {w0:World} {I0:Nat→Prop} {Q:Exit→Sta→Prop}
theorem Adb {a b:List Int} {i u:Nat} {x:Int} (hi:i<a.length) (hx:a[i]=x) (hb:b.length≤1000000):∀ (m j:Nat) (f:Nat→Int) (H:Hp),j+m=b.length→(∀ q,q≤b.length→f q=if q≤j then (AO (a.take (i+1)) (b.take q):Nat) else (AO (a.take i) (b.take q):Nat))→H [0]=⟨u,.arr 1 (Lq f (b.length+1))⟩ →
  (∀ (f':Nat→Int) (z:Int) (H':Hp) (st:List (Nat × A)),(∀ q,q≤b.length→f' q=(AO (a.take (i+1)) (b.take q):Nat))→H' [0]=⟨u,.arr 1 (Lq f' (b.length+1))⟩→Q (.exit 2) ⟨lk ([(1,Gc b),(5,.osl [0] u 1 0 (b.length+1)),(7,iv x),(8,iv z),(16,Gc a),(17,iv a.length),(18,iv i)]++st),H'⟩) →
  LoopC (cx Tryz.prog w0 I0 n0) J7 Q ⟨lk [(1,Gc b),(5,.osl [0] u 1 0 (b.length+1)),(7,iv x),(8,iv (AO (a.take i) (b.take j):Nat)),(16,Gc a),(17,iv a.length),(18,iv i),(22,Gc b),(23,iv b.length),(24,iv j)],H⟩:=by
 intro m;induction m with
 |zero=>
  intro j f H hm hf hH hq;refine Ad Ai J7.eq_1 ?_;have:j=b.length:=by omega
  subst this;simp;exact hq f _ H [(22,Gc b),(23,iv b.length),(24,iv b.length),(25,bv false)] (fun q hq=>by rw[hf q hq,if_pos hq]) hH
 |succ m ih=>
  intro j f H hm hf hH hq;have hj:j<b.length:=by omega
  have e1:=AM j;have g1:(Lq f (b.length+1))[j]? = some (iv (f j)):=JN (by omega);have g2:(Lq f (b.length+1))[j+1]? = some (iv (f (j+1))):=JN (by omega);have f1:=hf j (by omega);have f2:=hf (j+1) (by omega);rw[if_pos (Cb _)] at f1;rw[if_neg (by omega)] at f2;have m0:(0:Int)≤(j:Int)+1:=by omega
  have m1:(j:Int)<(b.length:Int)+1:=by omega
  have ll:=JJ (a.take i) (b.take j);simp at ll;have e2:i64.wrap ((AO (a.take i) (b.take j):Nat)+1)=((AO (a.take i) (b.take j)+1:Nat):Int):=Bl;have tk:a.take (i+1)=a.take i++[x]:=by rw[Ij hi,hx]
  have tj:b.take (j+1)=b.take j++[b[j]]:=Ij hj;have next:∀ (z:Int) (f':Nat→Int),z=(AO (a.take (i+1)) (b.take (j+1)):Nat)→(∀ q,q ≠ j+1→f' q=f q)→f' (j+1)=z→LoopC (cx Tryz.prog w0 I0 n0) J7 Q ⟨lk [(1,Gc b),(5,.osl [0] u 1 0 (b.length+1)),(7,iv x),(8,iv (AO (a.take i) (b.take (j+1)):Nat)),(16,Gc a),(17,iv a.length),(18,iv i),(22,Gc b),(23,iv b.length),(24,iv (j+1:Nat))],Bh H [0] ⟨u,.arr 1 (Lq f' (b.length+1))⟩⟩:=fun z f' hz h1 h2=>by
   refine ih (j+1) f' _ (by omega) (fun q hq=>?_) (by simp[Aa]) hq;by_cases e:q=j+1
   ·subst e;rw[if_pos (Cb _),h2,hz]
   ·rw[h1 q e,hf q hq];by_cases h3:q≤j
    ·rw[if_pos h3,if_pos (by omega)]
    ·rw[if_neg h3,if_neg (by omega)]
  refine Ad Ai J7.eq_1 ?_;by_cases h:x=b[j]
  ·simp[hj,h,e1,g2,hH,m0,m1];rw[QN.eq_1];have hjb:j<b.length+1:=by omega
   simp[hj,h,e1,hjb,hH,m0,m1,Aa,e2];rw[f2,← h];have e:=P6 x (a.take i) (b.take j);have e':=jW x (a.take i) (b.take j);rw[← tk] at e e';rw[h,← tj] at e;refine next _ _ rfl (fun q hq=>by simp[hq]) ?_
   simp;rw[f1,e];omega
  ·simp[hj,h,e1,g2,hH,m0,m1];rw[QN.eq_1];have hjb:j<b.length+1:=by omega
   simp[hj,h,e1,hjb,hH,m0,m1];rw[f2];have e:=Qe h (a.take i) (b.take j);rw[← tj,← tk] at e;refine next _ _ rfl (fun q hq=>by simp[hq]) ?_
   simp;rw[f1,e];omega
theorem Acs {a b:List Int} {u:Nat} (ha:a.length≤1000000) (hb:b.length≤1000000) (hq:∀ (f':Nat→Int) (H':Hp) (st:List (Nat × A)),(∀ q,q≤b.length→f' q=(AO a (b.take q):Nat))→H' [0]=⟨u,.arr 1 (Lq f' (b.length+1))⟩→Q (.exit 0) ⟨lk ([(1,Gc b),(5,.osl [0] u 1 0 (b.length+1))]++st),H'⟩):∀ (m i:Nat) (f:Nat→Int) (H:Hp),i+m=a.length→(∀ q,q≤b.length→f q=(AO (a.take i) (b.take q):Nat))→H [0]=⟨u,.arr 1 (Lq f (b.length+1))⟩ →
  LoopC (cx Tryz.prog w0 I0 n0) MG Q ⟨lk [(1,Gc b),(5,.osl [0] u 1 0 (b.length+1)),(16,Gc a),(17,iv a.length),(18,iv i)],H⟩:=by
 intro m;induction m with
 |zero=>
  intro i f H hm hf hH;refine Ad Ai MG.eq_1 ?_;have:i=a.length:=by omega
  subst this;simp;exact hq f H [(16,Gc a),(17,iv a.length),(18,iv a.length),(19,bv false)] (fun q hq=>by rw[hf q hq,BO (Cb _)]) hH
 |succ m ih=>
  intro i f H hm hf hH;have hi:i<a.length:=by omega
  have e1:=AM i;refine Ad Ai MG.eq_1 ?_;simp[hi];refine LoopC.le (AE [(1,Gc b),(5,.osl [0] u 1 0 (b.length+1)),(7,iv a[i]),(8,iv (AO (a.take i) (b.take 0):Nat)),(16,Gc a),(17,iv a.length),(18,iv i),(22,Gc b),(23,iv b.length),(24,iv (0:Nat))] (by simp)) ?_;refine Adb hi rfl hb b.length 0 f H (by omega) (fun q hq=>?_) hH fun f' z H' st h1 h2=>?_
  ·rw[hf q hq];by_cases h0:q≤0
   ·have:q=0:=by omega
    subst this;simp
   ·rw[if_neg h0]
  ·simp[e1];exact ih (i+1) f' H' (by omega) h1 h2
theorem qu {l:List Int} {u:Nat} (hl:l.length≤1000000) (hq:∀ (f':Nat→Int) (H':Hp) (st:List (Nat × A)),(∀ q,q<l.length→f' q=l.getD (l.length-1-q) 0)→H' [0]=⟨u,.arr 1 (Lq f' l.length)⟩→Q (.exit 0) ⟨lk ([(0,Gc l),(3,.osl [0] u 1 0 l.length)]++st),H'⟩):∀ (m i:Nat) (f:Nat→Int) (H:Hp),i+m=l.length→(∀ q,q<l.length→l.length≤q+i→f q=l.getD (l.length-1-q) 0)→H [0]=⟨u,.arr 1 (Lq f l.length)⟩ →
  LoopC (cx Tryz.prog w0 I0 n0) It Q ⟨lk [(0,Gc l),(3,.osl [0] u 1 0 l.length),(9,Gc l),(10,iv l.length),(11,iv i)],H⟩:=by
 intro m;induction m with
 |zero=>
  intro i f H hm hf hH;refine Ad Ai It.eq_1 ?_;have:i=l.length:=by omega
  subst this;simp;exact hq f H [(9,Gc l),(10,iv l.length),(11,iv l.length),(12,bv false)] (fun q hq=>hf q hq (by omega)) hH
 |succ m ih=>
  intro i f H hm hf hH;have hi:i<l.length:=by omega
  have e1:=AM i;have e2:i64.wrap (i64.wrap ((l.length:Int)-1)-i)=((l.length-1-i:Nat):Int):=by rw[Av (n:=(l.length:Int)-1) (by omega) (by omega),Av (by omega) (by omega)];omega
  have b1:l.length-1-i<l.length:=by omega
  refine Ad Ai It.eq_1 ?_;simp[hi,e1,e2,hH,b1];refine ih (i+1) _ _ (by omega) (fun q hq1 hq2=>?_) (by simp[Aa];rfl);by_cases e:q=l.length-1-i
  ·rw[if_pos e];have:l.length-1-q=i:=by omega
   rw[this];simp[List.getD_eq_getElem?_getD,hi]
  ·rw[if_neg e];exact hf q hq1 (by omega)
theorem Xm {a b:List Int} (ha:a.length≤1000000) (hb:b.length≤1000000):G.Spec Tryz.prog 251 [Gc a,Gc b] (.sl false (Lq (fun q=>(AO a (b.take q):Nat)) (b.length+1))):=by
 have e1:i64.wrap ((b.length:Int)+1)=((b.length+1:Nat):Int):=Bl;refine Ah rE (by simp) fun w0 I0=>?_;unfold aU;simp[e1];refine⟨by omega,?_⟩;refine LoopC.le (AE [(1,Gc b),(5,.osl [0] 1 1 0 (b.length+1)),(16,Gc a),(17,iv a.length),(18,iv (0:Nat))] (by simp)) ?_;refine Acs ha hb (fun f' H' st h1 h2=>?_) a.length 0 (fun _=>0) _ (by omega) (fun q hq=>by simp) (by simp[WK]);simp;rw[← T6 fun q hq=>h1 q (by omega)];exact dw h2
theorem UG {l:List Int} (hl:l.length≤1000000):G.Spec Tryz.prog 252 [Gc l] (Gc l.reverse):=by
 refine Ah ey (by simp) fun w0 I0=>?_;unfold RA;simp;refine⟨by omega,?_⟩;refine LoopC.le (AE [(0,Gc l),(3,.osl [0] 1 1 0 l.length),(9,Gc l),(10,iv l.length),(11,iv (0:Nat))] (by simp)) ?_;refine qu hl (fun f' H' st h1 h2=>?_) l.length 0 (fun _=>0) _ (by omega) (fun q hq=>by omega) (by simp[WK]);simp;have e:l.reverse.map iv=Lq f' l.length:=by
  rw[xC,List.length_reverse];refine T6 fun q hq=>?_;rw[h1 q hq];simp[List.getD_eq_getElem?_getD,List.getElem?_reverse hq]
 have e':Gc l.reverse = .sl false (Lq f' l.length):=by rw[← e]
 rw[e'];exact dw h2
theorem wk {n0:Nat} {w0:World} {I0:Nat→Prop} {Q:Exit→Sta→Prop} {a b:List Int} {half:Nat} (hh:half≤a.length) (hb:b.length≤1000000) {H:Hp} {f g:Nat→Int} (hf:∀ q,q≤b.length→f q=(HM a b 0 half 0 q:Nat)) (hg:∀ q,q≤b.length→g (b.length-q)=(HM a b half a.length q b.length:Nat))
  (hq:∀ st,Q (.exit 0) ⟨lk ([(1,Gc b),(7,.sl false (Lq f (b.length+1))),(8,.sl false (Lq g (b.length+1))),(9,iv (CF a b half))]++st),H⟩):∀ (m i best:Nat),i+m=b.length+1→best≤b.length→(∀ q,q<best→HM a b 0 half 0 q+HM a b half a.length q b.length<HM a b 0 half 0 best+HM a b half a.length best b.length)→(∀ q,q<i→HM a b 0 half 0 q+HM a b half a.length q b.length≤HM a b 0 half 0 best+HM a b half a.length best b.length) →
  LoopC (cx Tryz.prog w0 I0 n0) JM Q ⟨lk [(1,Gc b),(7,.sl false (Lq f (b.length+1))),(8,.sl false (Lq g (b.length+1))),(9,iv best),(24,iv (b.length+1:Nat)),(25,iv i)],H⟩:=by
 intro m;induction m with
 |zero=>
  intro i best hm hbl h1 h2;refine Ad Ai JM.eq_1 ?_;have:i=b.length+1:=by omega
  subst this;have hw:CF a b half=best:=by
   obtain⟨g1,g2,g3⟩:=H8 (a:=a) (b:=b) hh;have hle:=OO (a:=a) (b:=b) (i:=half) (j:=best) hh hbl;have h3:=h2 (CF a b half) (by omega);unfold Rt at g1;simp only[decide_eq_true_eq] at g1;refine Tn hh hbl (by unfold Rt;simp only[decide_eq_true_eq];omega) fun j hj=>?_;have:=h1 j hj;unfold Rt;simp only[decide_eq_false_iff_not];omega
  simp;rw[← hw];exact hq [(24,iv (b.length+1:Nat)),(25,iv (b.length+1:Nat)),(26,bv false)]
 |succ m ih=>
  intro i best hm hbl h1 h2;have hi:i<b.length+1:=by omega
  have e1:=AM i;have e2:i64.wrap ((b.length:Int)-i)=((b.length-i:Nat):Int):=Bl;have e3:i64.wrap ((b.length:Int)-best)=((b.length-best:Nat):Int):=Bl;have fi:=hf i (by omega);have gi:=hg i (by omega);have fb:=hf best hbl;have gb:=hg best hbl;have l1:=JJ (sg a 0 half) (sg b 0 i);have l2:=JJ (sg a half a.length) (sg b i b.length);have l3:=JJ (sg a 0 half) (sg b 0 best);have l4:=JJ (sg a half a.length) (sg b best b.length);rw[LK _ _ _ hh,LK _ _ _ (by omega)] at l1;rw[LK _ _ _ (by omega),LK _ _ _ (by omega)] at l2;rw[LK _ _ _ hh,LK _ _ _ hbl] at l3;rw[LK _ _ _ (by omega),LK _ _ _ (by omega)] at l4;have e4:i64.wrap (f i+g (b.length-i))=((HM a b 0 half 0 i+HM a b half a.length i b.length:Nat):Int):=by rw[fi,gi,Av (by unfold HM;omega) (by unfold HM;omega)];omega
  have e5:i64.wrap (f best+g (b.length-best))=((HM a b 0 half 0 best+HM a b half a.length best b.length:Nat):Int):=by rw[fb,gb,Av (by unfold HM;omega) (by unfold HM;omega)];omega
  have b1:b.length-i<b.length+1:=by omega
  have b2:b.length-best<b.length+1:=by omega
  have b3:best<b.length+1:=by omega
  refine Ad Ai JM.eq_1 ?_;have c1:(i:Int)<(b.length:Int)+1:=by omega
  have c2:((b.length-i:Nat):Int)<(b.length:Int)+1:=by omega
  have c3:(best:Int)<(b.length:Int)+1:=by omega
  have c4:((b.length-best:Nat):Int)<(b.length:Int)+1:=by omega
  by_cases h:(HM a b 0 half 0 best:Int)+(HM a b half a.length best b.length:Int)<(HM a b 0 half 0 i:Int)+(HM a b half a.length i b.length:Int)
  ·simp[hi,e1,e2,e3,e4,e5,b1,b2,b3,h,c1,c2,c3,c4];refine ih (i+1) i (by omega) (by omega) (fun q hq=>?_) (fun q hq=>?_)
   ·have:=h2 q hq;omega
   ·by_cases e:q=i
    ·subst e;omega
    ·have:=h2 q (by omega);omega
  ·simp[hi,e1,e2,e3,e4,e5,b1,b2,b3,h,c1,c2,c3,c4];refine ih (i+1) best (by omega) hbl h1 (fun q hq=>?_);by_cases e:q=i
   ·subst e;omega
   ·exact h2 q (by omega)
theorem nQ {a b:List Int} {half:Nat} (hh:half≤a.length) (ha:a.length≤1000000) (hb:b.length≤1000000):G.Spec Tryz.prog 222 [Gc a,Gc b,iv half] (iv (CF a b half)):=by
 refine Ah ja (by simp) fun w0 I0=>?_;have s1:=Xm (a:=a.take half) (b:=b) (by simp;omega) hb;have s2:=UG (l:=a.drop half) (by simp;omega);have s3:=UG (l:=b) hb;have s4:=Xm (a:=(a.drop half).reverse) (b:=b.reverse) (by simp;omega) (by simpa using hb);rw[List.length_reverse] at s4;unfold Vu;simp[hh];refine Ae (s1.soft (by simp[A.softL,A.soft,Pk,eK])) (by simp) ?_;simp[hh];refine Ae (s2.soft (by simp[A.softL,A.soft,Pk,bS,BO])) (by simp) ?_;simp[hh];refine Ae s3 (by simp) ?_;simp[hh];refine Ae s4 (by simp) ?_;simp[hh];refine LoopC.le (AE [(1,Gc b),(7,.sl false (Lq (fun q=>(AO (a.take half) (b.take q):Nat)) (b.length+1))),(8,.sl false (Lq (fun q=>(AO (a.drop half).reverse (b.reverse.take q):Nat)) (b.length+1))),(9,iv (0:Nat)),(24,iv (b.length+1:Nat)),(25,iv (0:Nat))] (by simp)) ?_;refine wk hh hb (fun q hq=>by simp[HM,SJ]) (fun q hq=>?_) (fun st=>?_) (b.length+1) 0 0 (by omega) (by omega) (fun q hq=>by omega) (fun q hq=>by omega)
 ·have e:b.reverse.take (b.length-q)=(b.drop q).reverse:=by
   rw[List.take_reverse];congr 2;omega
  show((AO (a.drop half).reverse (b.reverse.take (b.length-q)):Nat):Int)=_;rw[e,Lb];simp[HM,cV]
 ·simp;exact Ab rfl
theorem Yr {a b:List Int} {c d p x y:Nat} (h:fe a b c d p x) (hy:x+c=y+p):x≤d+a.length∧y≤d+b.length:=by
 have h1:=h.may;rw[show x+c-p=y by omega] at h1;have h2:=JJ (a.take x) (b.take y);have h3:=JX a b x y;unfold DU at h1;simp at h2;omega
theorem AcW {a b:List Int} {M d p t:Nat} {f:Nat→Nat} (hd:d≤M) (ht:t≤d) (hp:p+d=M+1+2*t) (hold:∀ p s,s<d→p+d=M+1+1+2*s→Q0 a b (M+1) (d-1) p (f p)):∃ x:Nat,(if decide (t=0)=true∧decide (t=d)=true then (0:Int) else if decide (t=0)=true∨(decide (t=d)=false∧((f (p-1):Nat):Int)<(f (p+1):Nat)) then ((f (p+1):Nat):Int) else ((f (p-1):Nat):Int)+1)=(x:Int)∧fe a b (M+1) d p x:=by
 cases d with
 |zero=>
  have:t=0:=by omega
  subst this;have:p=M+1:=by omega
  subst this;exact⟨0,by simp,wc a b (M+1)⟩
 |succ d=>
  have hy:p+(d+1) ≠ M+1→Q0 a b (M+1) d (p-1) (f (p-1)):=fun h=>hold (p-1) (t-1) (by omega) (by omega);have hz:p ≠ M+1+(d+1)→Q0 a b (M+1) d (p+1) (f (p+1)):=fun h=>hold (p+1) t (by omega) (by omega);by_cases h0:t=0
  ·exact⟨f (p+1),by simp[h0],SH (by omega) (by omega) (by omega) (by omega) hy hz (.inr ⟨by omega,rfl⟩) (fun h=>by omega) (fun h=>Cb _)⟩
  ·by_cases h1:t=d+1
   ·exact⟨f (p-1)+1,by simp[h1],SH (by omega) (by omega) (by omega) (by omega) hy hz (.inl ⟨by omega,rfl⟩) (fun h=>Cb _) (fun h=>by omega)⟩
   ·by_cases h2:f (p-1)<f (p+1)
    ·exact⟨f (p+1),by simp[h0,h1,h2],SH (by omega) (by omega) (by omega) (by omega) hy hz (.inr ⟨by omega,rfl⟩) (fun h=>by omega) (fun h=>Cb _)⟩
    ·exact⟨f (p-1)+1,by simp[h0,h1,h2],SH (by omega) (by omega) (by omega) (by omega) hy hz (.inl ⟨by omega,rfl⟩) (fun h=>Cb _) (fun h=>by omega)⟩
theorem Aaz {a b:List Int} (ha:a.length≤1000000) (hb:b.length≤1000000) {c d p:Nat} {X:A} {M k:Int} {H:Hp}
  (hq:∀ (x y:Nat) st,fe a b c d p x→Q0 a b c d p x→x+c=y+p→Q (.exit 4) ⟨lk ([(0,Gc a),(1,Gc b),(2,iv M),(8,iv a.length),(9,iv b.length),(10,X),(11,iv d),(12,iv k),(13,iv x),(14,iv y)]++st),H⟩):∀ (m x y:Nat),a.length≤x+m→fe a b c d p x→x+c=y+p →
  LoopC (cx Tryz.prog w0 I0 n0) GO Q ⟨lk [(0,Gc a),(1,Gc b),(2,iv M),(8,iv a.length),(9,iv b.length),(10,X),(11,iv d),(12,iv k),(13,iv x),(14,iv y)],H⟩:=by
 intro m;induction m with
 |zero=>
  intro x y hm hS hy;refine Ad Ai GO.eq_1 ?_;simp[show ¬ x<a.length by omega];exact hq x y [(99,bv false)] hS (Wi hS hy fun ⟨h1,_,_⟩=>by omega) hy
 |succ m ih=>
  intro x y hm hS hy;refine Ad Ai GO.eq_1 ?_;by_cases h1:x<a.length
  ·by_cases h2:y<b.length
   ·have e1:=AM x;have e2:=AM y;by_cases h3:a[x]=b[y]
    ·simp[h1,h2,h3,e1,e2];exact ih (x+1) (y+1) (by omega) (AdB hS hy h1 h2 h3) (by omega)
    ·simp[h1,h2,h3];exact hq x y [(99,bv false)] hS (Wi hS hy fun ⟨_,_,h⟩=>h3 h) hy
   ·simp[h1,h2];exact hq x y [(99,bv false)] hS (Wi hS hy fun ⟨_,h,_⟩=>h2 h) hy
  ·simp[h1];exact hq x y [(99,bv false)] hS (Wi hS hy fun ⟨h,_,_⟩=>h1 h) hy
theorem zM {a b:List Int} (ha:a.length≤1000000) (hb:b.length≤1000000) {M d u:Nat} (hM:M≤a.length+b.length) (hd:d≤M) (hdd:d≤C5 a b)
  (hq:∀ (f:Nat→Nat) (H:Hp) st,(∀ q,f q≤10000000)→(∀ p s,s≤d→p+d=M+1+2*s→Q0 a b (M+1) d p (f p))→d<C5 a b→H [0]=⟨u,.arr 1 (Lq (fun q=>(f q:Nat)) (2*M+3))⟩→Q (.exit 2) ⟨lk ([(0,Gc a),(1,Gc b),(2,iv M),(8,iv a.length),(9,iv b.length),(10,.osl [0] u 1 0 (2*M+3)),(11,iv d)]++st),H⟩)
  (hq2:∀ H,d=C5 a b→Q .ret ⟨lk [(6,iv d),(7,bv true)],H⟩):∀ (m t:Nat) (f:Nat→Nat) (H:Hp),t+m=d+1→(∀ q,f q≤10000000) →
  (∀ p s,s<d→p+d=M+1+1+2*s→Q0 a b (M+1) (d-1) p (f p))→(∀ p s,s<t→p+d=M+1+2*s→Q0 a b (M+1) d p (f p)∧¬ (a.length≤f p∧b.length+p≤f p+(M+1)))→H [0]=⟨u,.arr 1 (Lq (fun q=>(f q:Nat)) (2*M+3))⟩ →
  LoopC (cx Tryz.prog w0 I0 n0) GR Q ⟨lk [(0,Gc a),(1,Gc b),(2,iv M),(8,iv a.length),(9,iv b.length),(10,.osl [0] u 1 0 (2*M+3)),(11,iv d),(12,iv (2*(t:Int)-d))],H⟩:=by
 intro m;induction m with
 |zero=>
  intro t f H hm hb0 hold hnew hH;have:t=d+1:=by omega
  subst this;refine Ad Ai GR.eq_1 ?_;have hk:¬ (2*((d+1:Nat):Int)-d≤d):=by omega
  simp only[Int.natCast_add,Int.cast_ofNat_Int] at hk;simp[hk];refine hq f H _ hb0 (fun p s hs hp=>(hnew p s (by omega) hp).1) ?_ hH;by_cases h:d<C5 a b
  ·exact h
  ·exfalso;have hdg:=ZQ a b;have he:C5 a b=d:=by omega
   rw[he] at hdg;obtain⟨p,hp⟩:∃ p,a.length+(M+1)=b.length+p:=⟨a.length+(M+1)-b.length,by omega⟩;obtain⟨s,hs⟩:∃ s,a.length+d=b.length+2*s:=⟨(a.length+d-b.length) / 2,by omega⟩;obtain⟨g1,g2⟩:=hnew p s (by omega) (by omega);have g3:=g1.on;have:=qv (y:=f p+(M+1)-p) g1 (by omega) hp (by omega);exact g2 ⟨this.1,by omega⟩
 |succ m ih=>
  intro t f H hm hb0 hold hnew hH;have ht:t≤d:=by omega
  obtain⟨p,hp⟩:∃ p,p+d=M+1+2*t:=⟨M+1+2*t-d,by omega⟩;have hk:(2*(t:Int)-d≤d):=by omega
  have e0:i64.wrap ((M:Int)+1)=(M:Int)+1:=Bv;have e1:i64.wrap ((M:Int)+1+(2*(t:Int)-d))=(p:Int):=Bl;have e2:i64.wrap (2*(t:Int)-d+2)=2*((t+1:Nat):Int)-d:=Bl;have e3:i64.wrap (-(d:Int)) = -(d:Int):=Bv;have lo:decide (2*(t:Int)-d = -(d:Int))=decide (t=0):=by by_cases h:t=0<;>simp[h]<;>omega
  have hi:decide (2*(t:Int)-d=(d:Int))=decide (t=d):=by by_cases h:t=d<;>simp[h]<;>omega
  have hR:=kM (f:=fun q=>(f q:Nat)) (n:=2*M+3) (k:=p) (lo:=decide (t=0)) (hi:=decide (t=d)) (by omega) (by omega) (by omega) (fun q=>by have:=hb0 q;omega)
  -- the step's place
  obtain⟨x,hx,hS⟩:=AcW hd ht hp hold;rw[hx] at hR;have hon:=hS.on;obtain⟨y,hy⟩:∃ y,x+(M+1)=y+p:=⟨x+(M+1)-p,by omega⟩;have hbd:=Yr hS hy;have e4:i64.wrap ((x:Int)-(2*(t:Int)-d))=(y:Int):=Bl;refine Ad Ai GR.eq_1 ?_;simp[hk,e0,e1,e3,lo,hi];refine kn [.sl false (Lq (fun q=>(f q:Nat)) (2*M+3)),iv p,bv (decide (t=0)),bv (decide (t=d))] (hR.toB rfl) (by simp;exact⟨dw hH,Ab rfl,Ab rfl,Ab rfl⟩) (by simp) ?_;simp[e4];refine LoopC.le (AE [(0,Gc a),(1,Gc b),(2,iv M),(8,iv a.length),(9,iv b.length),(10,.osl [0] u 1 0 (2*M+3)),(11,iv d),(12,iv (2*(t:Int)-d)),(13,iv x),(14,iv y)] (by simp)) ?_;refine Aaz ha hb (c:=M+1) (p:=p) (fun x y st hS hG hy=>?_) a.length x y (by omega) hS hy;have hbd:=Yr hS hy;have hpl:p<2*M+3:=by omega
  have hpl':(p:Int)<2*(M:Int)+3:=by omega
  by_cases hdone:a.length≤x∧b.length≤y
  ·have he:=va hG hy hdone.1 hdone.2;simp[hk,e0,e1,e3,lo,hi,hH,hpl,hpl',hdone.1,hdone.2];exact hq2 _ (by omega)
  ·simp[hk,e0,e1,e2,hH,hpl,hpl'];refine⟨fun h1 h2=>absurd ⟨h1,h2⟩ hdone,fun _=>?_⟩;refine ih (t+1) (fun q=>if q=p then x else f q) _ (by omega) (fun q=>?_) (fun p' s hs hp'=>?_) (fun p' s hs hp'=>?_) ?_
   ·show(if q=p then x else f q)≤_;split
    ·omega
    ·exact hb0 q
   ·show Q0 a b (M+1) (d-1) p' (if p'=p then x else f p');rw[if_neg (by omega)];exact hold p' s hs hp'
   ·show Q0 a b (M+1) d p' (if p'=p then x else f p')∧¬ (a.length≤(if p'=p then x else f p')∧b.length+p'≤(if p'=p then x else f p')+(M+1));by_cases e:s=t
    ·have:p'=p:=by omega
     subst this;rw[if_pos rfl];exact⟨hG,fun h=>hdone ⟨h.1,by omega⟩⟩
    ·rw[if_neg (by omega)];exact hnew p' s (by omega) hp'
   ·simp only[Aa,if_true];congr 2;refine T6 fun q _=>?_;split<;>rfl
theorem AaM {a b:List Int} (ha:a.length≤1000000) (hb:b.length≤1000000) {M u:Nat} (hM:M≤a.length+b.length)
  (hq:∀ H st,M<C5 a b→Q (.exit 0) ⟨lk st,H⟩) (hq2:∀ H,C5 a b≤M→Q .ret ⟨lk [(6,iv (C5 a b)),(7,bv true)],H⟩):∀ (m d:Nat) (f:Nat→Nat) (H:Hp),d+m=M+1→(∀ q,f q≤10000000)→d≤C5 a b →
  (∀ p s,s<d→p+d=M+1+1+2*s→Q0 a b (M+1) (d-1) p (f p))→H [0]=⟨u,.arr 1 (Lq (fun q=>(f q:Nat)) (2*M+3))⟩ →
  LoopC (cx Tryz.prog w0 I0 n0) GL Q ⟨lk [(0,Gc a),(1,Gc b),(2,iv M),(8,iv a.length),(9,iv b.length),(10,.osl [0] u 1 0 (2*M+3)),(11,iv d)],H⟩:=by
 intro m;induction m with
 |zero=>
  intro d f H hm hb0 hdd hold hH;have:d=M+1:=by omega
  subst this;refine Ad Ai GL.eq_1 ?_;have hk:¬ (((M+1:Nat):Int)≤M):=by omega
  simp only[Int.natCast_add,Int.cast_ofNat_Int] at hk;simp[hk];exact hq H _ (by omega)
 |succ m ih=>
  intro d f H hm hb0 hdd hold hH;have e1:=AM d;have e3:i64.wrap (-(d:Int)) = -(d:Int):=Bv;have hd:d≤M:=by omega
  refine Ad Ai GL.eq_1 ?_;simp[hd,e3];refine LoopC.le (AE [(0,Gc a),(1,Gc b),(2,iv M),(8,iv a.length),(9,iv b.length),(10,.osl [0] u 1 0 (2*M+3)),(11,iv d),(12,iv (2*((0:Nat):Int)-d))] (by simp)) ?_;refine zM ha hb hM hd hdd (fun f' H' st g1 g2 g3 g4=>?_) (fun H' he=>?_) (d+1) 0 f H (by omega) hb0 hold (fun p s hs=>by omega) hH
  ·simp[e1];refine ih (d+1) f' H' (by omega) g1 (by omega) (fun p s hs hp=>?_) g4;exact g2 p s (by omega) (by omega)
  ·simp;have:=hq2 H' (by omega);rw[← he] at this;exact this
theorem rU {a b:List Int} (ha:a.length≤1000000) (hb:b.length≤1000000) {M0:Int} (hM0:Bn M0):∃ d:Int,G.Spec Tryz.prog 175 [Gc a,Gc b,iv M0] (.tup [iv d,bv (decide ((C5 a b:Int)≤M0))]):=by
 refine⟨if (C5 a b:Int)≤M0 then C5 a b else 0,?_⟩;refine Ah YJ (by simp) fun w0 I0=>?_;have hdg:=ZQ a b;have hdl:C5 a b≤a.length+b.length:=by unfold C5;omega
 have e1:i64.wrap ((a.length:Int)+b.length)=((a.length+b.length:Nat):Int):=Bl;have e2:i64.wrap ((a.length:Int)-b.length)=(a.length:Int)-b.length:=Bv;have e3:i64.wrap ((b.length:Int)-a.length)=(b.length:Int)-a.length:=Bv;obtain⟨M1,hM1⟩:∃ M1:Int,min (max M0 (-1)) ((a.length:Int)+b.length)=M1:=⟨_,rfl⟩;have hle:((C5 a b:Int)≤M0) ↔ ((C5 a b:Int)≤M1):=by omega
 have hMb:M1≤(a.length:Int)+b.length:=by omega
 unfold NB;simp[e1,e2,e3,hM1];refine⟨fun h=>?_,fun h1 h2 h3=>?_⟩
 ·have hno:¬ (C5 a b:Int)≤M0:=by omega
  simp[hno];exact Ab rfl
 ·obtain⟨M,rfl⟩:∃ M:Nat,M1=M:=⟨M1.toNat,by omega⟩;have e4:i64.wrap (2*(M:Int))=2*(M:Int):=Bv;have e5:i64.wrap (2*(M:Int)+3)=((2*M+3:Nat):Int):=Bl;have e6:(2*(M:Int)+3).toNat=2*M+3:=by omega
  rw[e4,e5];refine⟨by omega,?_⟩;refine LoopC.le (AE [(0,Gc a),(1,Gc b),(2,iv M),(8,iv a.length),(9,iv b.length),(10,.osl [0] 1 1 0 (2*M+3)),(11,iv (0:Nat))] (by simp[e6])) ?_;refine AaM ha hb (by omega) (fun H st h=>?_) (fun H h=>?_) (M+1) 0 (fun _=>0) _ (by omega) (fun q=>by omega) (by omega) (fun p s hs=>by omega) (by simp[WK,e6])
  ·have hno:¬ (C5 a b:Int)≤M0:=by omega
   simp[hno];exact Ab rfl
  ·have hyes:(C5 a b:Int)≤M0:=by omega
   simp[hyes];exact Ab rfl
def Zr (s:Sp):List A:=[iv s.k,iv s.n]
def Pe (s:Sp):A:=.agg (Zr s)
@[simp] theorem Ad9 {s:Sp}:(Pe s).cells=Zr s:=rfl
@[simp] theorem AiX {s:Sp}:(Zr s).length=2:=rfl
theorem oZ {l:List Sp}:Ge 2 (l.map Pe)=true:=by rw[Ml];simp
def zG (l:List Sp) (v:Nat):Fam:=⟨fun r p=>if p=[] then ⟨1,.cells [.osl (r::[0]) v 2 0 l.length]⟩ else if p=[0] then ⟨v,.arr 2 (l.map Pe)⟩ else ⟨0,.none⟩,fun {g δ r r'} hg hd p=>by
  by_cases h1:p=[]
  ·rw[if_pos h1,if_pos h1];refine Fam.cells_ren ?_;simp[A.renL,A.ren,hg,hd]
  ·rw[if_neg h1,if_neg h1];by_cases h2:p=[0]
   ·rw[if_pos h2];refine Fam.arr_ren ?_;have e:∀ x:Sp,(Pe x).ren g δ=Pe x:=fun x=>by simp[Pe,Zr,A.ren,A.renL]
    simp only[Dd,List.map_map];refine List.map_congr_left fun x _=>?_;exact e x
   ·rw[if_neg h2];rfl,fun {D r} hD p=>by
  by_cases h1:p=[]
  ·rw[if_pos h1];simp[Ob.refs,A.refsL,A.refs,hD]
  ·rw[if_neg h1];by_cases h2:p=[0]
   ·rw[if_pos h2];simp only[Ob.refs,refsL_iff];intro y hy;obtain⟨x,_,rfl⟩:=List.mem_map.1 hy;simp[A.refs,A.refsL,Pe,Zr]
   ·rw[if_neg h2];trivial⟩
@[simp] theorem Alx {l:List Sp} {v r:Nat} {p:Nm}:(zG l v).F r p=if p=[] then ⟨1,.cells [.osl (r::[0]) v 2 0 l.length]⟩ else if p=[0] then ⟨v,.arr 2 (l.map Pe)⟩ else ⟨0,.none⟩:=rfl
abbrev fdP (r:Nat):A:=.pob [r] 1 0
theorem HJ (l:List Sp) (v:Nat) (hl:l.length≤100000000) (k n:Nat):BR Tryz.prog 220 (fun r=>[fdP r,iv k,iv n]) (zG l v) (fun _=>.tup []) (zG (l++fl k n) (v+(fl k n).length)):=by
 refine Ay TZ (by simp) (Ag Bi (Ag Ax (Ag Ax Ap))) (BP Ap) fun w0 I0 M0 m0=>?_;unfold L7;by_cases h:0<n
 ·rw[YT h];simp[h,oZ,Aa];refine⟨by omega,?_⟩;refine A0 rfl rfl (fun p=>?_);by_cases h1:p=[]<;>by_cases h2:p=[0]<;>simp[h1,h2,Aa,Pe,Zr]
  rw[BO (by simp)]
 ·have h0:n=0:=by omega
  subst h0;simp;refine A0 rfl rfl (fun p=>by simp)
def Q3 (x:Int) (b:List Int):List Sp:=if DC x b<b.length then fl 2 (DC x b)++(fl 0 1++fl 2 (b.length-DC x b-1)) else fl 1 1++fl 2 b.length
theorem nf (x:Int) (b:List Int):Bs (Q3 x b)=Gj [x] b:=by
 rw[XP];unfold Q3;split<;>simp
theorem Ji (k n:Nat):(fl k n).length≤1:=by unfold fl;split<;>simp
theorem yp (x:Int) (b:List Int):(Q3 x b).length≤3:=by
 unfold Q3;have:=Ji 2 (DC x b);have:=Ji 0 1;have:=Ji 1 1;have:=Ji 2 (b.length-DC x b-1);have:=Ji 2 b.length;split<;>simp<;>omega
theorem zP {x:Int} {b:List Int} (hb:b.length≤1000000):∀ s,s ∈ Q3 x b→s.ok:=by
 intro s hs;have:=S5 x b;unfold Q3 at hs;split at hs<;>simp only[List.mem_append] at hs
 ·rcases hs with hs | hs | hs
  ·exact WV (by omega) (by omega) s hs
  ·exact WV (by omega) (by omega) s hs
  ·exact WV (by omega) (by omega) s hs
 ·rcases hs with hs | hs
  ·exact WV (by omega) (by omega) s hs
  ·exact WV (by omega) (by omega) s hs
theorem gr {x:Int}:∀ {b:List Int} {j:Nat},j≤DC x b→(h:j<b.length)→(b[j]=x ↔ DC x b=j)
 |[],j,_,h=>by simp at h
 |y::b,0,_,h=>by
  unfold DC;by_cases e:x=y
  ·simp[e]
  ·simp[e];exact fun h=>e h.symm
 |y::b,j+1,hj,h=>by
  unfold DC at hj ⊢;by_cases e:x=y
  ·rw[if_pos e] at hj;omega
  ·rw[if_neg e] at hj ⊢;have:=gr (x:=x) (b:=b) (j:=j) (by omega) (by simpa using h);simp only[List.getElem_cons_succ];omega
section
variable {n0:Nat} {w0:World} {I0:Nat→Prop} {M0:Nm→Nat→Prop} {m0:Mu} {Q:Exit→Sta→Prop}
theorem Adl {l:List Sp} {v:Nat} {x:Int} {b:List Int} {H:Hp} (hl:l.length≤10000000) (hb:b.length≤1000000) (hH:∀ p,H (0::p)=(zG l v).F 0 p)
  (hq:DC x b=b.length→∀ st,Q (.exit 0) ⟨lk ([(0,fdP 0),(1,iv x),(2,Gc b)]++st),H⟩)
  (hq2:∀ H',DC x b<b.length→(∀ p,H' (0::p)=(zG (l++Q3 x b) (v+(Q3 x b).length)).F 0 p)→∀ st,Q .ret ⟨lk st,H'⟩):∀ (m j:Nat),j+m=b.length→j≤DC x b →
  LoopC (FW Tryz.prog w0 I0 M0 n0 m0) Fq Q ⟨lk [(0,fdP 0),(1,iv x),(2,Gc b),(8,Gc b),(9,iv b.length),(10,iv j)],H⟩:=by
 have hle:=S5 x b;intro m;induction m with
 |zero=>
  intro j hm hj;refine Ad Ai Fq.eq_1 ?_;have:j=b.length:=by omega
  subst this;simp;exact hq (by omega) [(8,Gc b),(9,iv b.length),(10,iv b.length),(11,bv false)]
 |succ m ih=>
  intro j hm hj;have hlt:j<b.length:=by omega
  have e1:=AM j;have hd:=gr hj hlt;refine Ad Ai Fq.eq_1 ?_;by_cases h:x=b[j]
  ·have hf:=hd.1 h.symm;have e2:i64.wrap (i64.wrap ((b.length:Int)-j)-1)=((b.length-j-1:Nat):Int):=by rw[Av (n:=(b.length:Int)-j) (by omega) (by omega),Av (by omega) (by omega)];omega
   have A1:=HJ l v (by omega) 2 j;have l1:=Ji 2 j;have l2:=Ji 0 1;have A2:=HJ (l++fl 2 j) (v+(fl 2 j).length) (by simp;omega) 0 1;have A3:=HJ (l++fl 2 j++fl 0 1) (v+(fl 2 j).length+(fl 0 1).length) (by simp;omega) 2 (b.length-j-1);simp[hlt,h];refine AA 0 A1 hH (by simp) (by simp) ?_;simp;refine AA 0 A2 (fun p=>by simp) (by simp) (by simp) ?_;simp[e2];refine AA 0 A3 (fun p=>by simp) (by simp) (by simp) ?_;simp;refine hq2 _ (by omega) (fun p=>?_) _;have eo:Q3 x b=fl 2 j++(fl 0 1++fl 2 (b.length-j-1)):=by unfold Q3;rw[if_pos (by omega),hf]
   rw[eo];simp[Nat.add_assoc]
  ·have hne:¬ DC x b=j:=fun e=>h (hd.2 e).symm;simp[hlt,h,e1];exact ih (j+1) (by omega) (by omega)
end
theorem yi (l:List Sp) (v:Nat) (hl:l.length≤10000000) (x:Int) (b:List Int) (hb:b.length≤1000000):BR Tryz.prog 221 (fun r=>[fdP r,iv x,Gc b]) (zG l v) (fun _=>.tup []) (zG (l++Q3 x b) (v+(Q3 x b).length)):=by
 refine Ay Uu (by simp) (Ag Bi (Ag Ax (Ag Fu Ap))) (BP Ap) fun w0 I0 M0 m0=>?_;unfold MA;simp;refine LoopC.le (AE [(0,fdP 0),(1,iv x),(2,Gc b),(8,Gc b),(9,iv b.length),(10,iv (0:Nat))] (by simp)) ?_;refine Adl (l:=l) (v:=v) hl hb (fun p=>by simp) (fun hn st=>?_) (fun H' hf hH st=>?_) b.length 0 (by omega) (by omega)
 ·have A1:=HJ l v (by omega) 1 1;have l1:=Ji 1 1;have A2:=HJ (l++fl 1 1) (v+(fl 1 1).length) (by simp;omega) 2 b.length;simp;refine AA 0 A1 (fun p=>by simp) (by simp) (by simp) ?_;simp;refine AA 0 A2 (fun p=>by simp) (by simp) (by simp) ?_;simp;have eo:Q3 x b=fl 1 1++fl 2 b.length:=by unfold Q3;rw[if_neg (by omega)]
  rw[eo];refine A0 rfl rfl (fun p=>by simp[Nat.add_assoc])
 ·simp;exact AJ rfl rfl hH
theorem si {P:Sp→Prop} {l m:List Sp} (h1:∀ s,s ∈ l→P s) (h2:∀ s,s ∈ m→P s):∀ s,s ∈ l++m→P s:=fun s hs=>(List.mem_append.1 hs).elim (h1 s) (h2 s)
theorem vm:∀ (n:Nat) (a b:List Int),a.length≤n→a.length≤1000000→b.length≤1000000→∃ sts:List Sp,Bs sts=Gj a b∧(∀ s,s ∈ sts→s.ok)∧sts.length≤max 1 (3*a.length) ∧
  ∀ (l:List Sp) (v:Nat),l.length+3*a.length≤9000000→BR Tryz.prog 176 (fun r=>[fdP r,Gc a,Gc b]) (zG l v) (fun _=>.tup []) (zG (l++sts) (v+sts.length)):=by
 intro n;induction n with
 |zero=>
  intro a b hn ha hb;have:=List.eq_nil_of_length_eq_zero (by omega:a.length=0);subst this;refine⟨fl 2 b.length,by rw[iu];simp,WV (by omega) (by omega),by have:=Ji 2 b.length;simp;omega,fun l v hl=>?_⟩;have A1:=HJ l v (by simp at hl;omega) 1 0;have A2:=HJ (l++fl 1 0) (v+(fl 1 0).length) (by simp at hl;simp;omega) 2 b.length;refine Ay Fo (by simp) (Ag Bi (Ag Fu (Ag Fu Ap))) (BP Ap) fun w0 I0 M0 m0=>?_;unfold DQ;simp;refine AA 0 A1 (fun p=>by simp) (by simp) (by simp) ?_;simp;refine AA 0 A2 (fun p=>by simp) (by simp) (by simp) ?_;simp;refine A0 rfl rfl (fun p=>by simp)
 |succ n ih=>
  intro a b hn ha hb;by_cases hb0:b=[]
  ·subst hb0;refine⟨fl 1 a.length,by rw[qP];simp,WV (by omega) (by omega),by have:=Ji 1 a.length;omega,fun l v hl=>?_⟩;have:=Ji 1 a.length;have A1:=HJ l v (by omega) 1 a.length;have A2:=HJ (l++fl 1 a.length) (v+(fl 1 a.length).length) (by simp;omega) 2 0;refine Ay Fo (by simp) (Ag Bi (Ag Fu (Ag Fu Ap))) (BP Ap) fun w0 I0 M0 m0=>?_;unfold DQ;simp;refine AA 0 A1 (fun p=>by simp) (by simp) (by simp) ?_;simp;refine AA 0 A2 (fun p=>by simp) (by simp) (by simp) ?_;simp;refine A0 rfl rfl (fun p=>by simp)
  have hbl:0<b.length:=List.length_pos_iff.2 hb0
  match a,hn,ha with
  |[],hn,ha=>
   obtain⟨sts,h⟩:=ih [] b (by simp) ha hb;exact⟨sts,h⟩
  |[x],hn,ha=>
   refine⟨Q3 x b,nf x b,zP hb,by have:=yp x b;simp;omega,fun l v hl=>?_⟩;have A1:=yi l v (by simp at hl;omega) x b hb;refine Ay Fo (by simp) (Ag Bi (Ag Fu (Ag Fu Ap))) (BP Ap) fun w0 I0 M0 m0=>?_;unfold DQ;simp[hb0];refine AA 0 A1 (fun p=>by simp) (by simp) (by simp) ?_;simp;refine A0 rfl rfl (fun p=>by simp)
  |x::y::a',hn,ha=>
   have e0:∃ a:List Int,a=x::y::a':=⟨_,rfl⟩;obtain⟨a,ea⟩:=e0;rw[← ea] at hn ha ⊢;have hal:2≤a.length:=by rw[ea];simp
   clear ea;obtain⟨h,eh⟩:∃ h,a.length / 2=h:=⟨_,rfl⟩;have hh:h≤a.length:=by omega
   obtain⟨w1,w2,w3⟩:=H8 (a:=a) (b:=b) hh;obtain⟨s1,u1,o1,n1,F1⟩:=ih (a.take h) (b.take (CF a b h)) (by simp;omega) (by simp;omega) (by simp;omega);obtain⟨s2,u2,o2,n2,F2⟩:=ih (a.drop h) (b.drop (CF a b h)) (by simp;omega) (by simp;omega) (by simp;omega);simp at n1 n2;refine⟨s1++s2,by rw[J2,u1,u2,← aJ a b hh],si o1 o2,by simp;omega,fun l v hl=>?_⟩;have G1:=F1 l v (by simp;omega);have G2:=F2 (l++s1) (v+s1.length) (by simp;omega);have hS:=nQ (a:=a) (b:=b) hh ha hb;refine Ay Fo (by simp) (Ag Bi (Ag Fu (Ag Fu Ap))) (BP Ap) fun w0 I0 M0 m0=>?_;have c1:¬ a=[]:=fun e=>by rw[e] at hal;simp at hal
   have c2:¬ a.length=1:=by omega
   have c3:¬ (a.length:Int)=1:=by omega
   have c4:((a.length:Int)).tdiv 2=(h:Int):=by rw[Int.tdiv_eq_ediv_of_nonneg (by omega)];omega
   have c5:i64.wrap (h:Int)=(h:Int):=Bv;unfold DQ;simp[hb0,c1,c2,c3,c4,c5];refine Ae hS (by simp) ?_;simp[hh,w2];refine AA 0 G1 (fun p=>by simp) (by simp) (by simp) ?_;simp[hh,w2];refine AA 0 G2 (fun p=>by simp) (by simp[BO]) (by simp) ?_;simp;refine A0 rfl rfl (fun p=>by simp[Nat.add_assoc])
def nX (g:Nat→Nat):List A:=[iv (g 0),iv (g 1),iv (g 2)]
def gpF (l:List Sp) (v:Nat) (g:Nat→Nat):Fam:=⟨fun r p=>if p=[] then ⟨1,.cells [.osl (r::[0]) v 2 0 l.length]⟩ else if p=[0] then ⟨v,.arr 2 (l.map Pe)⟩ else if p=[1] then ⟨1,.cells (nX g)⟩ else ⟨0,.none⟩,fun {γ δ r r'} hg hd p=>by
  by_cases h1:p=[]
  ·rw[if_pos h1,if_pos h1];refine Fam.cells_ren ?_;simp[A.renL,A.ren,hg,hd]
  ·rw[if_neg h1,if_neg h1];by_cases h2:p=[0]
   ·rw[if_pos h2];refine Fam.arr_ren ?_;have e:∀ x:Sp,(Pe x).ren γ δ=Pe x:=fun x=>by simp[Pe,Zr,A.ren,A.renL]
    simp only[Dd,List.map_map];refine List.map_congr_left fun x _=>?_;exact e x
   ·rw[if_neg h2];by_cases h3:p=[1]
    ·rw[if_pos h3];refine Fam.cells_ren ?_;simp[A.renL,A.ren,nX]
    ·rw[if_neg h3];rfl,fun {D r} hD p=>by
  by_cases h1:p=[]
  ·rw[if_pos h1];simp[Ob.refs,A.refsL,A.refs,hD]
  ·rw[if_neg h1];by_cases h2:p=[0]
   ·rw[if_pos h2];simp only[Ob.refs,refsL_iff];intro y hy;obtain⟨x,_,rfl⟩:=List.mem_map.1 hy;simp[A.refs,A.refsL,Pe,Zr]
   ·rw[if_neg h2];by_cases h3:p=[1]
    ·rw[if_pos h3];simp[Ob.refs,A.refsL,A.refs,nX]
    ·rw[if_neg h3];trivial⟩
@[simp] theorem Alk {l:List Sp} {v r:Nat} {g:Nat→Nat} {p:Nm}:(gpF l v g).F r p=if p=[] then ⟨1,.cells [.osl (r::[0]) v 2 0 l.length]⟩ else if p=[0] then ⟨v,.arr 2 (l.map Pe)⟩ else if p=[1] then ⟨1,.cells (nX g)⟩ else ⟨0,.none⟩:=rfl
def UZ:List Nat→(Nat→Nat)→List Sp
 |[],_=>[]
 |k::ks,g=>fl k (g k)++UZ ks (fun q=>if q=k then 0 else g q)
def Sd:List Nat→(Nat→Nat)→Nat→Nat
 |[],g=>g
 |k::ks,g=>Sd ks (fun q=>if q=k then 0 else g q)
abbrev nvs (ks:List Nat):A:=.sl true (ks.map fun k:Nat=>iv (k:Int))
theorem mM (s:Sp):G.Spec Tryz.prog 178 [Pe s] (bv (decide (s.k≤2∧1≤s.n∧s.n≤1048576))):=by
 refine Ah PE (by simp) fun w0 I0=>?_;unfold Jm;have m0:(0:Int)≤(s.k:Int):=by omega
 by_cases h1:s.k≤2
 ·by_cases h2:1≤s.n
  ·by_cases h3:s.n≤1048576
   ·simp[Pe,Zr,m0,h1,h2,h3,show(s.k:Int)≤2 by omega,show(1:Int)≤s.n by omega,show(s.n:Int)≤1048576 by omega];exact Ab rfl
   ·simp[Pe,Zr,m0,h1,h2,h3,show(s.k:Int)≤2 by omega,show(1:Int)≤s.n by omega,show ¬ (s.n:Int)≤1048576 by omega];exact Ab rfl
  ·simp[Pe,Zr,m0,h1,h2,show(s.k:Int)≤2 by omega,show ¬ (1:Int)≤s.n by omega];exact Ak (by simp)
 ·simp[Pe,Zr,m0,h1,show ¬ (s.k:Int)≤2 by omega];exact Ab rfl
section
variable {n0:Nat} {w0:World} {I0:Nat→Prop} {M0:Nm→Nat→Prop} {m0:Mu} {Q:Exit→Sta→Prop}
theorem ve {ks:List Nat} (hks:∀ k,k ∈ ks→k≤2) (hkl:ks.length≤1000) {l0:List Sp} {v0:Nat} {g0:Nat→Nat} (hq:∀ H' st,(∀ p,H' (0::p)=(gpF (l0++UZ ks g0) (v0+(UZ ks g0).length) (Sd ks g0)).F 0 p)→Q (.exit 0) ⟨lk st,H'⟩):∀ (m j:Nat) (l:List Sp) (v:Nat) (g:Nat→Nat) (H:Hp),j+m=ks.length→l.length+m≤100000000→(∀ p,H (0::p)=(gpF l v g).F 0 p)→l0++UZ ks g0=l++UZ (ks.drop j) g→v0+(UZ ks g0).length=v+(UZ (ks.drop j) g).length→Sd ks g0=Sd (ks.drop j) g →
  LoopC (FW Tryz.prog w0 I0 M0 n0 m0) Ez Q ⟨lk [(1,.pob [0,1] 1 0),(2,.pob [0] 1 0),(6,nvs ks),(7,iv ks.length),(8,iv j)],H⟩:=by
 intro m;induction m with
 |zero=>
  intro j l v g H hm hl hH e1 e2 e3;refine Ad Ai Ez.eq_1 ?_;have:j=ks.length:=by omega
  subst this;rw[List.drop_length] at e1 e2 e3;simp;refine hq H _ fun p=>?_;rw[e1,e2,e3,hH];simp[UZ,Sd]
 |succ m ih=>
  intro j l v g H hm hl hH e1 e2 e3;have hlt:j<ks.length:=by omega
  have ew:=AM j;have hd:ks.drop j=ks[j]::ks.drop (j+1):=(List.getElem_cons_drop hlt).symm;rw[hd] at e1 e2 e3;have hk:=hks _ (A5 hlt);generalize hkk:ks[j]=k at *;simp only[UZ,Sd] at e1 e2 e3;have hH0:=hH [];have hH1:=hH [0];have hH2:=hH [1];simp at hH0 hH1 hH2;refine Ad Ai Ez.eq_1 ?_;have hk3:k=0∨k=1∨k=2:=by omega
  by_cases h:0<g k
  ·rw[YT h] at e1 e2;have next:=fun (H':Hp) hF=>ih (j+1) (l++[⟨k,g k⟩]) (v+1) (fun q=>if q=k then 0 else g q) H' (by omega) (by simp;omega) hF (by rw[e1];simp) (by rw[e2];simp;omega) e3
   rcases hk3 with rfl | rfl | rfl;all_goals
    simp[hlt,hkk,hH0,hH1,hH2,nX,h,ew,Aa,oZ];refine⟨by omega,?_⟩;refine next _ (fun p=>?_)
    by_cases h1:p=[]
    ·subst h1;simp[Aa]
    ·by_cases h2:p=[0]
     ·subst h2;simp[Aa,Pe,Zr,BO]
     ·by_cases h3:p=[1]
      ·subst h3;simp[Aa,nX]
      ·simp[h1,h2,h3,Aa,hH]
  ·have h0:g k=0:=by omega
   rw[h0] at e1 e2;rcases hk3 with rfl | rfl | rfl;all_goals
    simp[hlt,hkk,hH0,hH1,hH2,nX,h0,ew,Aa];refine ih (j+1) l v _ _ (by omega) (by omega) (fun p=>?_) (by rw[e1];simp) (by rw[e2];simp) e3;by_cases h1:p=[]
    ·subst h1;simp[Aa,hH0]
    ·by_cases h2:p=[0]
     ·subst h2;simp[Aa,hH1]
     ·by_cases h3:p=[1]
      ·subst h3;simp[Aa,nX]
      ·simp[h1,h2,h3,Aa,hH]
end
theorem MW {ks:List Nat} (hks:∀ k,k ∈ ks→k≤2) (hkl:ks.length≤1000) (l:List Sp) (v:Nat) (g:Nat→Nat) (hl:l.length≤10000000):BR Tryz.prog 177 (fun r=>[nvs ks,.pob (r::[1]) 1 0,.pob [r] 1 0]) (gpF l v g) (fun _=>.tup []) (gpF (l++UZ ks g) (v+(UZ ks g).length) (Sd ks g)):=by
 refine Ay RH (by simp) (Ag Fu (Ag Bi (Ag Bi Ap))) (BP Ap) fun w0 I0 M0 m0=>?_;unfold Lh;simp;refine LoopC.le (AE [(1,.pob [0,1] 1 0),(2,.pob [0] 1 0),(6,nvs ks),(7,iv ks.length),(8,iv (0:Nat))] (by simp)) ?_;refine ve hks hkl (l0:=l) (v0:=v) (g0:=g) (fun H' st hH=>?_) ks.length 0 l v g _ (by omega) (by omega) (fun p=>by simp) (by simp) (by simp) (by simp);simp;exact A0 rfl rfl hH
abbrev zv:A:=.fnc 177 [] [.pob [0,1] 1 0,.pob [0] 1 0]
abbrev fQ (l:List Sp):A:=.sl false (l.map Pe)
theorem yT (g:Nat→Nat):Qu [] (g 0) (g 1) (g 2)=UZ [0,1,2] g:=by simp[Qu,UZ]
theorem VU (ks:List Nat) (g:Nat→Nat):(UZ ks g).length≤ks.length:=by
 induction ks generalizing g with
 |nil=>simp[UZ]
 |cons k ks ih=>
  have:=ih (fun q=>if q=k then 0 else g q);have:=Ji k (g k);simp[UZ];omega
theorem dc:∀ (ks:List Nat) (g:Nat→Nat) (B q:Nat),(∀ q,g q≤B)→Sd ks g q≤B
 |[],g,B,q,h=>h q
 |k::ks,g,B,q,h=>dc ks _ B q fun q=>by
  show(if q=k then 0 else g q)≤B;split
  ·omega
  ·exact h q
theorem AaV {n0:Nat} {w0:World} {I0:Nat→Prop} {Q:Exit→Sta→Prop} {all:List Sp} (hok:∀ s,s ∈ all→s.may) (hal:all.length≤1000000) {R:List Sp}
  (hq:∀ (H':Hp) (out:List Sp) (v:Nat) (g:Nat→Nat) st,(∀ p,H' (0::p)=(gpF out v g).F 0 p)→out++UZ [0,1,2] g=R→out.length≤2000000→Q (.exit 0) ⟨lk ([(3,.pob [0] 1 0),(4,.pob [0,1] 1 0),(5,zv)]++st),H'⟩):∀ (m i:Nat) (out:List Sp) (v:Nat) (g:Nat→Nat) (H:Hp),i+m=all.length→out.length≤2*i→(∀ q,g q≤i*1048576)→(g 0=0∨(g 1=0∧g 2=0))→(∀ p,H (0::p)=(gpF out v g).F 0 p)→out++Qu (Bs (all.drop i)) (g 0) (g 1) (g 2)=R →
  LoopC (cx Tryz.prog w0 I0 n0) El Q ⟨lk [(3,.pob [0] 1 0),(4,.pob [0,1] 1 0),(5,zv),(9,fQ all),(10,iv all.length),(11,iv i)],H⟩:=by
 intro m;induction m with
 |zero=>
  intro i out v g H hm hl hg h01 hH hR;refine Ad Ai El.eq_1 ?_;have:i=all.length:=by omega
  subst this;rw[List.drop_length,JZ,yT] at hR;simp;exact hq H out v g [(9,fQ all),(10,iv all.length),(11,iv all.length),(12,bv false)] hH hR (by omega)
 |succ m ih=>
  intro i out v g H hm hl hg h01 hH hR;have hlt:i<all.length:=by omega
  have ew:=AM i;have hd:all.drop i=all[i]::all.drop (i+1):=(List.getElem_cons_drop hlt).symm;have hs:=hok _ (A5 hlt);rw[hd,BE] at hR;generalize hss:all[i]=s at *;have hsr:=mM s;have hg0:=hg 0;have hg1:=hg 1;have hg2:=hg 2;refine Ad Ai El.eq_1 ?_;have hspC:Zr s=[iv s.k,iv s.n]:=rfl;simp[hlt,hss,hspC];refine Ae hsr (by simp[Pe,Zr,Aa]) ?_;by_cases hn:1≤s.n
  ·have hdec:decide (s.k≤2∧1≤s.n∧s.n≤1048576)=true:=by have:=hs.1;have:=hs.2;simp;omega
   simp[hdec,Aa];have next:∀ (o2:List Sp) (v2:Nat) (g2:Nat→Nat) (H2:Hp),o2.length≤out.length+2→(∀ q,g2 q≤(i+1)*1048576)→(g2 0=0∨(g2 1=0∧g2 2=0))→(∀ p,H2 (0::p)=(gpF o2 v2 g2).F 0 p)→o2++Qu (Bs (all.drop (i+1))) (g2 0) (g2 1) (g2 2)=R→LoopC (cx Tryz.prog w0 I0 n0) El Q ⟨lk [(3,.pob [0] 1 0),(4,.pob [0,1] 1 0),(5,zv),(9,fQ all),(10,iv all.length),(11,iv (i+1:Nat))],H2⟩:=fun o2 v2 g2 H2 h1 h2 h3 h4 h5=>ih (i+1) o2 v2 g2 H2 (by omega) (by omega) h2 h3 h4 h5
   have hk3:s.k=0∨s.k=1∨s.k=2:=by have:=hs.1;omega
   rcases hk3 with hk | hk | hk
   ·have F1:=MW (ks:=[1,2]) (by simp) (by simp) out v g (by omega);have hlen:=VU [1,2] g;rw[hk,j9 s.n _ _ _ _ (by omega) (by omega)] at hR;have ev:i64.wrap ((g 0:Int)+s.n)=((g 0+s.n:Nat):Int):=by have:=hs.2;rw[Av (by omega) (by omega)];omega
    simp[hk];refine VR 0 rfl F1 (fun p=>by simp[Aa,hH]) (by simp) (by simp) ?_;simp;rw[Ga.eq_1];simp[Aa,nX,Sd,ew,ev,hk];refine next (out++UZ [1,2] g) (v+(UZ [1,2] g).length) (fun q=>if q=0 then g 0+s.n else Sd [1,2] g q) _ (by simp at hlen;simp;omega) (fun q=>?_) ?_ (fun p=>?_) ?_
    ·have hb:∀ (ks:List Nat) (g:Nat→Nat) (B q:Nat),(∀ q,g q≤B)→Sd ks g q≤B:=dc;show(if q=0 then g 0+s.n else Sd [1,2] g q)≤_;have h3:=hs.2;split
     ·omega
     ·exact Nat.le_trans (hb _ g _ q hg) (Nat.mul_le_mul_right _ (by omega))
    ·simp[Sd]
    ·by_cases h1:p=[]
     ·subst h1;simp[Aa]
     ·by_cases h2:p=[0]
      ·subst h2;simp[Aa]
      ·by_cases h3:p=[1]
       ·subst h3;simp[Aa,nX,Sd]
       ·simp[h1,h2,h3,Aa]
    ·simp only[Sd,UZ] at hR ⊢;simpa using hR
   ·have F1:=MW (ks:=[0]) (by simp) (by simp) out v g (by omega);have hlen:=VU [0] g;rw[hk,bP s.n _ _ _ _ (by omega)] at hR;have ev:i64.wrap ((g 1:Int)+s.n)=((g 1+s.n:Nat):Int):=by have:=hs.2;rw[Av (by omega) (by omega)];omega
    simp[hk];refine VR 0 rfl F1 (fun p=>by simp[Aa,hH]) (by simp) (by simp) ?_;simp;rw[Ga.eq_1];simp[Aa,nX,Sd,ew,ev,hk];refine next (out++UZ [0] g) (v+(UZ [0] g).length) (fun q=>if q=1 then g 1+s.n else Sd [0] g q) _ (by simp at hlen;simp;omega) (fun q=>?_) ?_ (fun p=>?_) ?_
    ·have hb:∀ (ks:List Nat) (g:Nat→Nat) (B q:Nat),(∀ q,g q≤B)→Sd ks g q≤B:=dc;show(if q=1 then g 1+s.n else Sd [0] g q)≤_;have h3:=hs.2;split
     ·omega
     ·exact Nat.le_trans (hb _ g _ q hg) (Nat.mul_le_mul_right _ (by omega))
    ·simp[Sd]
    ·by_cases h1:p=[]
     ·subst h1;simp[Aa]
     ·by_cases h2:p=[0]
      ·subst h2;simp[Aa]
      ·by_cases h3:p=[1]
       ·subst h3;simp[Aa,nX,Sd]
       ·simp[h1,h2,h3,Aa]
    ·simp only[Sd,UZ] at hR ⊢;simpa using hR
   ·have F1:=MW (ks:=[0]) (by simp) (by simp) out v g (by omega);have hlen:=VU [0] g;rw[hk,Wm s.n _ _ _ _ (by omega)] at hR;have ev:i64.wrap ((g 2:Int)+s.n)=((g 2+s.n:Nat):Int):=by have:=hs.2;rw[Av (by omega) (by omega)];omega
    simp[hk];refine VR 0 rfl F1 (fun p=>by simp[Aa,hH]) (by simp) (by simp) ?_;simp;rw[Ga.eq_1];simp[Aa,nX,Sd,ew,ev,hk];refine next (out++UZ [0] g) (v+(UZ [0] g).length) (fun q=>if q=2 then g 2+s.n else Sd [0] g q) _ (by simp at hlen;simp;omega) (fun q=>?_) ?_ (fun p=>?_) ?_
    ·have hb:∀ (ks:List Nat) (g:Nat→Nat) (B q:Nat),(∀ q,g q≤B)→Sd ks g q≤B:=dc;show(if q=2 then g 2+s.n else Sd [0] g q)≤_;have h3:=hs.2;split
     ·omega
     ·exact Nat.le_trans (hb _ g _ q hg) (Nat.mul_le_mul_right _ (by omega))
    ·simp[Sd]
    ·by_cases h1:p=[]
     ·subst h1;simp[Aa]
     ·by_cases h2:p=[0]
      ·subst h2;simp[Aa]
      ·by_cases h3:p=[1]
       ·subst h3;simp[Aa,nX,Sd]
       ·simp[h1,h2,h3,Aa]
    ·simp only[Sd,UZ] at hR ⊢;simpa using hR
  ·have hdec:decide (s.k≤2∧1≤s.n∧s.n≤1048576)=false:=by simp;omega
   have h0:s.n=0:=by omega
   simp[hdec,ew,Aa,Cq];refine ih (i+1) out v g _ (by omega) (by omega) (fun q=>Nat.le_trans (hg q) (Nat.mul_le_mul_right _ (by omega))) h01 (fun p=>?_) ?_
   ·simp[Aa,hH]
   ·rw[h0] at hR;simpa using hR
theorem vH {H:Hp} {o:Nm} {u n:Nat} {l:List Sp} (h:H o=⟨u,.arr 2 (l.map Pe)⟩) (hn:n=l.length):rC H (.osl o u 2 0 n) (fQ l):=by
 subst hn;have:=W5 (H:=H) (o:=o) (u:=u) (off:=0) (len:=l.length) (sz:=2) (xs:=l.map Pe) (by simp[h]) (by simp) (by
  simp only[List.drop_zero,List.all_eq_true];intro x hx;obtain⟨s,_,rfl⟩:=List.mem_map.1 (PD hx);rfl)
 rw[List.drop_zero,BO (by simp)] at this;exact this
theorem Yw {all:List Sp} (hok:∀ s,s ∈ all→s.may) (hal:all.length≤1000000):SpecB Tryz.prog 120 [fQ all] (fQ (Lu (Bs all))):=by
 refine R5 VJ (by simp) fun w0 I0=>?_;unfold Nn;simp;refine LoopC.le (B9 (d:=[0]) (u:=1) (cs:=[.sl true []]) 0 [0,0] 2 rfl rfl (by simp)) ?_;refine LoopC.le (AE [(3,.pob [0] 1 0),(4,.pob [0,1] 1 0),(5,zv),(9,fQ all),(10,iv all.length),(11,iv (0:Nat))] (by simp)) ?_;refine AaV hok hal (R:=Lu (Bs all)) (fun H' out v g st hH hR hl=>?_) all.length 0 [] 1 (fun _=>0) _ (by omega) (by simp) (fun q=>by omega) (.inl rfl) (fun p=>?_) (by simp[Lu])
 ·have F1:=MW (ks:=[0,1,2]) (by simp) (by simp) out v g (by omega);have hlen:=VU [0,1,2] g;simp;refine VR 0 rfl F1 hH (by simp) (by simp) ?_;simp;rw[← hR];exact vH (by simp) (by simp)
 ·by_cases h1:p=[]
  ·subst h1;simp[Aa]
  ·by_cases h2:p=[0]
   ·subst h2;simp[Aa]
   ·by_cases h3:p=[1]
    ·subst h3;simp[Aa,nX]
    ·simp[h1,h2,h3,Ne.symm h1,Ne.symm h2,Ne.symm h3,Aa]
theorem rG {all:List Sp} (hok:∀ s,s ∈ all→s.may) (hal:all.length≤1000000):G.Spec Tryz.prog 120 [fQ all] (fQ (Lu (Bs all))):=(Yw hok hal).spec
theorem AdI {s:Sp} (h:s.ok):s.may:=⟨h.1,h.2.2⟩
theorem kR {a b:List Int} (ha:a.length≤300000) (hb:b.length≤1000000) {M0:Int} (hM0:Bn M0):G.Spec Tryz.prog 119 [Gc a,Gc b,iv M0] (if (C5 a b:Int)≤M0 then .tup [fQ (Lu (Gj a b)),bv true] else .tup [.sl false [],bv false]):=by
 obtain⟨d,hD⟩:=rU (a:=a) (b:=b) (by omega) hb hM0;obtain⟨sts,h1,h2,h3,h4⟩:=vm a.length a b (Cb _) (by omega) hb;have hN:=Yw (all:=sts) (fun s hs=>AdI (h2 s hs)) (by omega);rw[h1] at hN;refine Ah lK (by simp) fun w0 I0=>?_;unfold Y0;simp;refine Ae hD (by simp) ?_;by_cases h:(C5 a b:Int)≤M0
 ·have hF:=h4 [] 1 (by simp;omega);simp[h];refine Ef (B9 (d:=[0]) (u:=1) (cs:=[.sl true []]) 0 [0,0] 2 rfl rfl (by simp)) (Di ?_);simp;refine AA 0 hF (fun p=>?_) (by simp) (by simp) ?_
  ·by_cases h1:p=[]
   ·subst h1;simp[Aa]
   ·by_cases h2:p=[0]
    ·subst h2;simp[Aa]
    ·simp[h1,h2,Ne.symm h1,Ne.symm h2,Aa]
  ·simp;refine kn [fQ sts] hN (by simp;exact Cu (l:=sts) (f:=Pe) (by simp) rfl (fun x=>rfl)) (by simp) ?_;simp;exact Ab rfl
 ·simp[h];exact CY (by simp;exact⟨Au,Ab rfl⟩)
theorem aH {α:Type} {f:α→A} (h:∀ x,(f x).cells=[f x]) (l:List α):(l.map f).flatMap A.cells=l.map f:=by
 induction l with
 |nil=>rfl
 |cons x l ih=>simp[ih,h]
end Go.Proofs.YtbjmaoedheiigaaGreat
namespace Go.PL
open Go
def Ju (list:Int) (e:E):Bool:=decide (e.kind=0) || (decide (list=9)&&decide (e.kind=2)&&e.words.isEmpty&&e.kids.isEmpty)
def DE (g:List T):List OP:=if g=[] then [] else [.mk 1 0 g E0]
def Dx (b:List T):List OP:=if b=[] then [] else [.mk 2 0 b E0]
def Nc (out:List OP) (g b:List T):List OP:=out++(DE g++Dx b)
def RG (out:List OP) (n:Int):List OP:=match out.getLast? with
 |some (.mk 0 m l e)=>out.dropLast++[.mk 0 (i64.wrap (m+n)) l e]
 |_=>out++[.mk 0 n [] E0]
def ED (list:Int):List OP→List OP→List T→List T→List OP
 |[],out,g,b=>Nc out g b
 |o::os,out,g,b=>
  if o.kind=0 then ED list os (RG (Nc out g b) o.n) [] []
  else if o.kind=1 then ED list os out (g++o.l.map Af) b
  else if o.kind=2 then ED list os out g (b++o.l.map Af)
  else if Ju list o.e=true then ED list os (RG (Nc out g b) 1) [] []
  else ED list os (Nc out g b++[.mk 3 0 [] o.e]) [] []
mutual
def Jl:E→E
 |.mk k o n ws ks l os=>if k=1 then .mk 1 (Af o) (Af n) [] [] 0 [] else if k=2 then .mk 2 T0 T0 ws (vT ks) 0 [] else if k=3 then .mk 3 T0 T0 [] [] l (ED l (w6 os) [] [] []) else E0
def vT:List KE→List KE
 |[]=>[]
 |.mk a e::l=>.mk a (Jl e)::vT l
def w6:List OP→List OP
 |[]=>[]
 |.mk k n t e::l=>.mk k n t (Jl e)::w6 l
end
def iR (x:KE):KE:=.mk x.at_ (Jl x.e)
def LP (x:OP):OP:=.mk x.kind x.n x.l (Jl x.e)
theorem ig:∀ l,vT l=l.map iR
 |[]=>by simp[vT]
 |.mk a e::l=>by rw[vT,ig l];rfl
theorem jr:∀ l,w6 l=l.map LP
 |[]=>by simp[w6]
 |.mk k n t e::l=>by rw[w6,jr l];rfl
theorem FP (k:Int) (o n:T) (ws:List WE) (ks:List KE) (l:Int) (os:List OP):Jl (.mk k o n ws ks l os)=if k=1 then .mk 1 (Af o) (Af n) [] [] 0 [] else if k=2 then .mk 2 T0 T0 ws (ks.map iR) 0 [] else if k=3 then .mk 3 T0 T0 [] [] l (ED l (os.map LP) [] [] []) else E0:=by
 rw[Jl,ig,jr]
end Go.PL
