/-
 Texts,merged,without what is not reached.
-/
import Derived.Test.YtlaapfplenlfaaaGreatKQc
set_option linter.unusedSimpArgs false
set_option linter.unusedVariables false
open Go.IntKind (i64 u64)
namespace Go.Proofs.YtlaapfplenlfaaaGreat
open Go Go.G Go.Proofs Go.PL
variable {n0:Nat} {w0:World} {I0:Nat->Prop} {M0:Nm->Nat->Prop} {m0:Mu} {Q:Exit->Sta->Prop} {v:Nat}
theorem Agm{n a j:Nat}{z:Sc}{d:Array Sc}{H:Hp}(hn:n<=900)(ha:a<n)(hj:j<n)(hd:d.size=n)(hz:d[a]! = z)(hH:∀p,H (0::p)=(Bm d v).F 0 p):∀(m i:Nat),j+1-i<=m->i<=n ->
  (∀(st:List (Nat × A)),Q (.exit 0) ⟨lk ([(0,H7 n v 0),(1,iv a),(4,Dy),(12,iv (Sort.scanUp (fun x=>BU x z) d j i)),(13,iv j)]++st),H⟩) ->
  LoopC (DC Tryz.prog w0 I0 M0 n0 m0) A8 Q ⟨lk [(0,H7 n v 0),(1,iv a),(4,Dy),(12,iv i),(13,iv j)],H⟩:=by
 intro m;induction m with
 |zero=>
  intro i hm hi hq;rw[Sort.scanUp,if_neg (by simp;omega)]at hq;refine Ad Ai A8.eq_1 ?_;simp[show ¬(i:Int)<=j by omega,show ¬i<=j from oF];rw[AW];simp;exact hq [(47,bv false)]
 |succ m ih=>
  intro i hm hi hq;by_cases hij:i<=j
  ·have h0:=hH [];simp only[Kv]at h0;have gi:=BG (d:=d) (i:=i) oF;have ga:=BG (d:=d) (i:=a) oF;rw[hz]at ga;have e1:=AR i;rw[Sort.scanUp]at hq;generalize d[i]! = x at gi hq;have hc:=XT x z;refine Ad Ai A8.eq_1 ?_;simp[hij,show(i:Int)<=j by omega,h0,gi,ga,show(i:Int)<n by omega,show i<n from oF,ha,show(a:Int)<n by omega,DE];rw[AW];simp;refine Fq rfl (Em x z) iS rfl ?_;cases hL:BU x z with
   |true=>
    rw[hL]at hc hq;have hc':Fw x.i z.i<0:=by simpa using hc
    rw[if_pos (by simp[hij])]at hq;simp[hc',e1];exact ih (i+1) oF oF hq
   |false=>
    rw[hL]at hc hq;have hc':¬Fw x.i z.i<0:=by simpa using hc
    rw[if_neg iS]at hq;simp[hc'];exact hq [(47,bv false)]
  ·rw[Sort.scanUp,if_neg (by simp;omega)]at hq;refine Ad Ai A8.eq_1 ?_;simp[show ¬(i:Int)<=j by omega,hij];rw[AW];simp;exact hq [(47,bv false)]
theorem Ag1{n a j:Nat}{z:Sc}{d:Array Sc}{H:Hp}(hn:n<=900)(ha:a<n)(hj:j<n)(hd:d.size=n)(hz:d[a]! = z)(hH:∀p,H (0::p)=(Bm d v).F 0 p):∀(m i:Nat),j+1-i<=m->i<=n ->
  (∀(st:List (Nat × A)),Q (.exit 6) ⟨lk ([(0,H7 n v 0),(1,iv a),(4,Dy),(12,iv (Sort.scanUp (fun x=>BU x z) d j i)),(13,iv j)]++st),H⟩) ->
  LoopC (DC Tryz.prog w0 I0 M0 n0 m0) A9 Q ⟨lk [(0,H7 n v 0),(1,iv a),(4,Dy),(12,iv i),(13,iv j)],H⟩:=by
 intro m;induction m with
 |zero=>
  intro i hm hi hq;rw[Sort.scanUp,if_neg (by simp;omega)]at hq;refine Ad Ai A9.eq_1 ?_;simp[show ¬(i:Int)<=j by omega,show ¬i<=j from oF];rw[AW];simp;exact hq [(120,bv false)]
 |succ m ih=>
  intro i hm hi hq;by_cases hij:i<=j
  ·have h0:=hH [];simp only[Kv]at h0;have gi:=BG (d:=d) (i:=i) oF;have ga:=BG (d:=d) (i:=a) oF;rw[hz]at ga;have e1:=AR i;rw[Sort.scanUp]at hq;generalize d[i]! = x at gi hq;have hc:=XT x z;refine Ad Ai A9.eq_1 ?_;simp[hij,show(i:Int)<=j by omega,h0,gi,ga,show(i:Int)<n by omega,show i<n from oF,ha,show(a:Int)<n by omega,DE];rw[AW];simp;refine Fq rfl (Em x z) iS rfl ?_;cases hL:BU x z with
   |true=>
    rw[hL]at hc hq;have hc':Fw x.i z.i<0:=by simpa using hc
    rw[if_pos (by simp[hij])]at hq;simp[hc',e1];exact ih (i+1) oF oF hq
   |false=>
    rw[hL]at hc hq;have hc':¬Fw x.i z.i<0:=by simpa using hc
    rw[if_neg iS]at hq;simp[hc'];exact hq [(120,bv false)]
  ·rw[Sort.scanUp,if_neg (by simp;omega)]at hq;refine Ad Ai A9.eq_1 ?_;simp[show ¬(i:Int)<=j by omega,hij];rw[AW];simp;exact hq [(120,bv false)]
theorem Agc{n a i:Nat}{z:Sc}{d:Array Sc}{H:Hp}(hn:n<=900)(ha:a<n)(hi:i<=n)(hi1:1<=i)(hd:d.size=n)(hz:d[a]! = z)(hH:∀p,H (0::p)=(Bm d v).F 0 p):∀(j:Nat),j<n ->
  (∀(st:List (Nat × A)),Q (.exit 2) ⟨lk ([(0,H7 n v 0),(1,iv a),(4,Dy),(12,iv i),(13,iv (Sort.scanDown (fun x=>!BU x z) d i j))]++st),H⟩) ->
  LoopC (DC Tryz.prog w0 I0 M0 n0 m0) A7 Q ⟨lk [(0,H7 n v 0),(1,iv a),(4,Dy),(12,iv i),(13,iv j)],H⟩:=by
 intro j;induction j with
 |zero=>
  intro hj hq;rw[Sort.scanDown]at hq;refine Ad Ai A7.eq_1 ?_;simp[show ¬(i:Int)<=0 by omega,show ¬i=0 from oF];rw[AW];simp;exact hq [(66,bv false)]
 |succ j ih=>
  intro hj hq;rw[Sort.scanDown]at hq;by_cases hij:i<=j+1
  ·have h0:=hH [];simp only[Kv]at h0;have gi:=BG (d:=d) (i:=j+1) oF;have ga:=BG (d:=d) (i:=a) oF;rw[hz]at ga;have e1:i64.wrap (((j+1:Nat):Int)-1)=(j:Int):=Bv;have e2:i64.wrap (j:Int)=(j:Int):=Ga;generalize d[j+1]! = x at gi hq;have hc:=XT x z;have hij':(i:Int)<=((j+1:Nat):Int):=oF
   have hj':((j+1:Nat):Int)<n:=oF
   generalize hjj:j+1=jj at gi hij hij' hj hj' e1 hq ⊢;refine Ad Ai A7.eq_1 ?_;simp[hij,hij',h0,gi,ga,hj,hj',ha,show(a:Int)<n by omega,DE];rw[AW];simp;refine Fq rfl (Em x z) iS rfl ?_;cases hL:BU x z with
   |true=>
    rw[hL]at hc hq;have hc':Fw x.i z.i<0:=by simpa using hc
    rw[if_neg iS]at hq;simp[hc'];exact hq [(66,bv false)]
   |false=>
    rw[hL]at hc hq;have hc':¬Fw x.i z.i<0:=by simpa using hc
    rw[if_pos (by simp[hij])]at hq;simp[hc',e1];exact ih oF hq
  ·rw[if_neg (by simp;omega)]at hq;refine Ad Ai A7.eq_1 ?_;have hij':¬(i:Int)<=((j+1:Nat):Int):=oF
   generalize hjj:j+1=jj at hij hij' hq ⊢;simp[hij,hij'];rw[AW];simp;exact hq [(66,bv false)]
theorem Af7{n a i:Nat}{z:Sc}{d:Array Sc}{H:Hp}(hn:n<=900)(ha:a<n)(hi:i<=n)(hi1:1<=i)(hd:d.size=n)(hz:d[a]! = z)(hH:∀p,H (0::p)=(Bm d v).F 0 p):∀(j:Nat),j<n ->
  (∀(st:List (Nat × A)),Q (.exit 8) ⟨lk ([(0,H7 n v 0),(1,iv a),(4,Dy),(12,iv i),(13,iv (Sort.scanDown (fun x=>!BU x z) d i j))]++st),H⟩) ->
  LoopC (DC Tryz.prog w0 I0 M0 n0 m0) Ba Q ⟨lk [(0,H7 n v 0),(1,iv a),(4,Dy),(12,iv i),(13,iv j)],H⟩:=by
 intro j;induction j with
 |zero=>
  intro hj hq;rw[Sort.scanDown]at hq;refine Ad Ai Ba.eq_1 ?_;simp[show ¬(i:Int)<=0 by omega,show ¬i=0 from oF];rw[AW];simp;exact hq [(139,bv false)]
 |succ j ih=>
  intro hj hq;rw[Sort.scanDown]at hq;by_cases hij:i<=j+1
  ·have h0:=hH [];simp only[Kv]at h0;have gi:=BG (d:=d) (i:=j+1) oF;have ga:=BG (d:=d) (i:=a) oF;rw[hz]at ga;have e1:i64.wrap (((j+1:Nat):Int)-1)=(j:Int):=Bv;have e2:i64.wrap (j:Int)=(j:Int):=Ga;generalize d[j+1]! = x at gi hq;have hc:=XT x z;have hij':(i:Int)<=((j+1:Nat):Int):=oF
   have hj':((j+1:Nat):Int)<n:=oF
   generalize hjj:j+1=jj at gi hij hij' hj hj' e1 hq ⊢;refine Ad Ai Ba.eq_1 ?_;simp[hij,hij',h0,gi,ga,hj,hj',ha,show(a:Int)<n by omega,DE];rw[AW];simp;refine Fq rfl (Em x z) iS rfl ?_;cases hL:BU x z with
   |true=>
    rw[hL]at hc hq;have hc':Fw x.i z.i<0:=by simpa using hc
    rw[if_neg iS]at hq;simp[hc'];exact hq [(139,bv false)]
   |false=>
    rw[hL]at hc hq;have hc':¬Fw x.i z.i<0:=by simpa using hc
    rw[if_pos (by simp[hij])]at hq;simp[hc',e1];exact ih oF hq
  ·rw[if_neg (by simp;omega)]at hq;refine Ad Ai Ba.eq_1 ?_;have hij':¬(i:Int)<=((j+1:Nat):Int):=oF
   generalize hjj:j+1=jj at hij hij' hq ⊢;simp[hij,hij'];rw[AW];simp;exact hq [(139,bv false)]
theorem AgA{n a j:Nat}{z:Sc}{d:Array Sc}{H:Hp}(hn:n<=900)(ha:a<n)(hj:j<n)(hd:d.size=n)(hz:d[a]! = z)(hH:∀p,H (0::p)=(Bm d v).F 0 p):∀(m i:Nat),j+1-i<=m->i<=n ->
  (∀(st:List (Nat × A)),Q (.exit 2) ⟨lk ([(0,H7 n v 0),(1,iv a),(4,Dy),(11,iv (Sort.scanUp (fun x=>!BU z x) d j i)),(12,iv j)]++st),H⟩) ->
  LoopC (DC Tryz.prog w0 I0 M0 n0 m0) AN Q ⟨lk [(0,H7 n v 0),(1,iv a),(4,Dy),(11,iv i),(12,iv j)],H⟩:=by
 intro m;induction m with
 |zero=>
  intro i hm hi hq;rw[Sort.scanUp,if_neg (by simp;omega)]at hq;refine Ad Ai AN.eq_1 ?_;simp[show ¬(i:Int)<=j by omega,show ¬i<=j from oF];rw[AW];simp;exact hq [(47,bv false)]
 |succ m ih=>
  intro i hm hi hq;by_cases hij:i<=j
  ·have h0:=hH [];simp only[Kv]at h0;have gi:=BG (d:=d) (i:=i) oF;have ga:=BG (d:=d) (i:=a) oF;rw[hz]at ga;have e1:=AR i;rw[Sort.scanUp]at hq;generalize d[i]! = x at gi hq;have hc:=XT z x;refine Ad Ai AN.eq_1 ?_;simp[hij,show(i:Int)<=j by omega,h0,gi,ga,show(i:Int)<n by omega,show i<n from oF,ha,show(a:Int)<n by omega,DE];rw[AW];simp;refine Fq rfl (Em z x) iS rfl ?_;cases hL:BU z x with
   |true=>
    rw[hL]at hc hq;have hc':Fw z.i x.i<0:=by simpa using hc
    rw[if_neg iS]at hq;simp[hc'];exact hq [(47,bv false)]
   |false=>
    rw[hL]at hc hq;have hc':¬Fw z.i x.i<0:=by simpa using hc
    rw[if_pos (by simp[hij])]at hq;simp[hc',e1];exact ih (i+1) oF oF hq
  ·rw[Sort.scanUp,if_neg (by simp;omega)]at hq;refine Ad Ai AN.eq_1 ?_;simp[show ¬(i:Int)<=j by omega,hij];rw[AW];simp;exact hq [(47,bv false)]
theorem Agn{n a i:Nat}{z:Sc}{d:Array Sc}{H:Hp}(hn:n<=900)(ha:a<n)(hi:i<=n)(hi1:1<=i)(hd:d.size=n)(hz:d[a]! = z)(hH:∀p,H (0::p)=(Bm d v).F 0 p):∀(j:Nat),j<n ->
  (∀(st:List (Nat × A)),Q (.exit 4) ⟨lk ([(0,H7 n v 0),(1,iv a),(4,Dy),(11,iv i),(12,iv (Sort.scanDown (fun x=>BU z x) d i j))]++st),H⟩) ->
  LoopC (DC Tryz.prog w0 I0 M0 n0 m0) AM Q ⟨lk [(0,H7 n v 0),(1,iv a),(4,Dy),(11,iv i),(12,iv j)],H⟩:=by
 intro j;induction j with
 |zero=>
  intro hj hq;rw[Sort.scanDown]at hq;refine Ad Ai AM.eq_1 ?_;simp[show ¬(i:Int)<=0 by omega,show ¬i=0 from oF];rw[AW];simp;exact hq [(65,bv false)]
 |succ j ih=>
  intro hj hq;rw[Sort.scanDown]at hq;by_cases hij:i<=j+1
  ·have h0:=hH [];simp only[Kv]at h0;have gi:=BG (d:=d) (i:=j+1) oF;have ga:=BG (d:=d) (i:=a) oF;rw[hz]at ga;have e1:i64.wrap (((j+1:Nat):Int)-1)=(j:Int):=Bv;have e2:i64.wrap (j:Int)=(j:Int):=Ga;generalize d[j+1]! = x at gi hq;have hc:=XT z x;have hij':(i:Int)<=((j+1:Nat):Int):=oF
   have hj':((j+1:Nat):Int)<n:=oF
   generalize hjj:j+1=jj at gi hij hij' hj hj' e1 hq ⊢;refine Ad Ai AM.eq_1 ?_;simp[hij,hij',h0,gi,ga,hj,hj',ha,show(a:Int)<n by omega,DE];rw[AW];simp;refine Fq rfl (Em z x) iS rfl ?_;cases hL:BU z x with
   |true=>
    rw[hL]at hc hq;have hc':Fw z.i x.i<0:=by simpa using hc
    rw[if_pos (by simp[hij])]at hq;simp[hc',e1];exact ih oF hq
   |false=>
    rw[hL]at hc hq;have hc':¬Fw z.i x.i<0:=by simpa using hc
    rw[if_neg iS]at hq;simp[hc'];exact hq [(65,bv false)]
  ·rw[if_neg (by simp;omega)]at hq;refine Ad Ai AM.eq_1 ?_;have hij':¬(i:Int)<=((j+1:Nat):Int):=oF
   generalize hjj:j+1=jj at hij hij' hq ⊢;simp[hij,hij'];rw[AW];simp;exact hq [(65,bv false)]
theorem LR(p:Sc->Bool)(d:Array Sc)(j:Nat):∀(m i:Nat),j+1-i<=m->i<=Sort.scanUp p d j i/\(Sort.scanUp p d j i<=j+1\/Sort.scanUp p d j i=i)
 |0,i,h=>by rw[Sort.scanUp,if_neg (by simp;omega)];exact⟨CX _,.inr rfl⟩
 |m+1,i,h=>by
  rw[Sort.scanUp];split
  ·rename_i hc;simp at hc;have:=LR p d j m (i+1) oF;refine⟨oF,.inl ?_⟩;rcases this.2 with h|h<;>omega
  ·exact⟨CX _,.inr rfl⟩
theorem I6(p:Sc->Bool)(d:Array Sc)(i:Nat)(hi:1<=i):∀j:Nat,Sort.scanDown p d i j<=j/\(i-1<=Sort.scanDown p d i j\/Sort.scanDown p d i j=j)
 |0=>by rw[Sort.scanDown];exact⟨CX _,.inr rfl⟩
 |j+1=>by
  rw[Sort.scanDown];split
  ·rename_i hc;simp at hc;have:=I6 p d i hi j;refine⟨oF,?_⟩;rcases this.2 with h|h
   ·exact .inl h
   ·left;omega
  ·exact⟨CX _,.inr rfl⟩
theorem Agf{n a:Nat}(hn:n<=900)(ha:a<n):∀(m i j:Nat)(d:Array Sc)(H:Hp),j+1-i<=m->a+1<=i->i<=n->j<n->a<=j->i<=j+2->d.size=n->(∀p,H (0::p)=(Bm d v).F 0 p) ->
  (∀(H':Hp)(x:A)(st:List (Nat × A)),(∀p,H' (0::p)=(Bm (Sort.partLoop BU a i j d).2 v).F 0 p)->a<=(Sort.partLoop BU a i j d).1->(Sort.partLoop BU a i j d).1<n->(Sort.partLoop BU a i j d).2.size=n ->
   Q (.exit 4) ⟨lk ([(0,H7 n v 0),(1,iv a),(4,Dy),(12,x),(13,iv (Sort.partLoop BU a i j d).1)]++st),H'⟩) ->
  LoopC (DC Tryz.prog w0 I0 M0 n0 m0) Cb Q ⟨lk [(0,H7 n v 0),(1,iv a),(4,Dy),(12,iv i),(13,iv j)],H⟩:=by
 intro m;induction m using Nat.strongRecOn with
 |_ m ih=>
  intro i j d H hm h1 hi hj haj hij hd hH hq;rw[Sort.partLoop]at hq;have hu:=LR (fun x=>BU x d[a]!) d j (j+1-i) i (CX _);have lu:=fun (Q:Exit->Sta->Prop)=>Ag1 (n0:=n0) (w0:=w0) (I0:=I0) (M0:=M0) (m0:=m0) (Q:=Q) (v:=v) (a:=a) (j:=j) (H:=H) hn ha hj hd rfl hH (j+1-i) i (CX _) hi;generalize Sort.scanUp (fun x=>BU x d[a]!) d j i=i2 at hq hu lu;have hi2:i2<=n:=by rcases hu.2 with h|h<;>omega
  have hdn:=I6 (fun x=>!BU x d[a]!) d i2 oF j;have ld:=fun (Q:Exit->Sta->Prop)=>Af7 (n0:=n0) (w0:=w0) (I0:=I0) (M0:=M0) (m0:=m0) (Q:=Q) (v:=v) (a:=a) (i:=i2) (H:=H) hn ha hi2 oF hd rfl hH j hj;generalize Sort.scanDown (fun x=>!BU x d[a]!) d i2 j=j2 at hq hdn ld;refine Ad Ai Cb.eq_1 ?_;simp;refine lu _ fun st=>?_;simp;refine ld _ fun st2=>?_;by_cases hc:j2<i2
  ·rw[if_pos hc]at hq;simp[hc,show(j2:Int)<i2 by omega];exact hq H (iv i2) [(144,bv true)] hH (by rcases hdn.2 with h|h<;>omega) oF hd
  ·rw[if_neg hc]at hq;have hg:j2-1+1-(i2+1)<j+1-i:=oF
   rw[dif_pos hg]at hq;have h0:=hH [];simp only[Kv]at h0;have e1:=AR i2;have e2:i64.wrap ((j2:Int)-1)=((j2-1:Nat):Int):=Bv;have g1:=BG (d:=d) (i:=i2) oF;have g0:=BG (d:=d) (i:=j2) oF;have g2:=IC (d:=d) (i:=i2) (j:=j2) oF oF;have hs:=La (d:=d) (i:=i2) (j:=j2);generalize d[i2]! = x at g1 g2 hs;generalize d[j2]! = y at g0 g2 hs;simp[hc,show ¬(j2:Int)<i2 by omega,h0,g0,g1,g2,e1,e2,show(i2:Int)<n by omega,show(j2:Int)<n by omega,show i2<n by omega,show j2<n from oF,DE];refine LoopC.le (Ar [(0,H7 n v 0),(1,iv a),(4,Dy),(12,iv (i2+1:Nat)),(13,iv (j2-1:Nat))] iS) ?_;exact ih (j2-1+1-(i2+1)) oF (i2+1) (j2-1) (Sort.swp d i2 j2) _ (CX _) oF oF oF oF oF (by rw[F3];exact hd) (fun p=>by by_cases hp:p=[]<;>simp[hp,hs,Aa,hH]) hq
theorem Ah9{n a:Nat}(hn:n<=900)(ha:a<n):∀(m i j:Nat)(d:Array Sc)(H:Hp),j+1-i<=m->a+1<=i->i<=n->j<n->a<=j->i<=j+2->d.size=n->(∀p,H (0::p)=(Bm d v).F 0 p) ->
  (∀(H':Hp)(x:A)(st:List (Nat × A)),(∀p,H' (0::p)=(Bm (Sort.partEqLoop BU a i j d).2 v).F 0 p)->a<(Sort.partEqLoop BU a i j d).1->(Sort.partEqLoop BU a i j d).1<=n->(Sort.partEqLoop BU a i j d).2.size=n ->
   Q (.exit 0) ⟨lk ([(0,H7 n v 0),(1,iv a),(4,Dy),(11,iv (Sort.partEqLoop BU a i j d).1),(12,x)]++st),H'⟩) ->
  LoopC (DC Tryz.prog w0 I0 M0 n0 m0) BK Q ⟨lk [(0,H7 n v 0),(1,iv a),(4,Dy),(11,iv i),(12,iv j)],H⟩:=by
 intro m;induction m using Nat.strongRecOn with
 |_ m ih=>
  intro i j d H hm h1 hi hj haj hij hd hH hq;rw[Sort.partEqLoop]at hq;have hu:=LR (fun x=>!BU d[a]! x) d j (j+1-i) i (CX _);have lu:=fun (Q:Exit->Sta->Prop)=>AgA (n0:=n0) (w0:=w0) (I0:=I0) (M0:=M0) (m0:=m0) (Q:=Q) (v:=v) (a:=a) (j:=j) (H:=H) hn ha hj hd rfl hH (j+1-i) i (CX _) hi;generalize Sort.scanUp (fun x=>!BU d[a]! x) d j i=i2 at hq hu lu;have hi2:i2<=n:=by rcases hu.2 with h|h<;>omega
  have hdn:=I6 (fun x=>BU d[a]! x) d i2 oF j;have ld:=fun (Q:Exit->Sta->Prop)=>Agn (n0:=n0) (w0:=w0) (I0:=I0) (M0:=M0) (m0:=m0) (Q:=Q) (v:=v) (a:=a) (i:=i2) (H:=H) hn ha hi2 oF hd rfl hH j hj;generalize Sort.scanDown (fun x=>BU d[a]! x) d i2 j=j2 at hq hdn ld;refine Ad Ai BK.eq_1 ?_;simp;refine lu _ fun st=>?_;simp;refine ld _ fun st2=>?_;by_cases hc:j2<i2
  ·rw[if_pos hc]at hq;simp[hc,show(j2:Int)<i2 by omega];exact hq H (iv j2) [(70,bv true)] hH oF hi2 hd
  ·rw[if_neg hc]at hq;have hg:j2-1+1-(i2+1)<j+1-i:=oF
   rw[dif_pos hg]at hq;have h0:=hH [];simp only[Kv]at h0;have e1:=AR i2;have e2:i64.wrap ((j2:Int)-1)=((j2-1:Nat):Int):=Bv;have g1:=BG (d:=d) (i:=i2) oF;have g0:=BG (d:=d) (i:=j2) oF;have g2:=IC (d:=d) (i:=i2) (j:=j2) oF oF;have hs:=La (d:=d) (i:=i2) (j:=j2);generalize d[i2]! = x at g1 g2 hs;generalize d[j2]! = y at g0 g2 hs;simp[hc,show ¬(j2:Int)<i2 by omega,h0,g0,g1,g2,e1,e2,show(i2:Int)<n by omega,show(j2:Int)<n by omega,show i2<n by omega,show j2<n from oF,DE];refine LoopC.le (Ar [(0,H7 n v 0),(1,iv a),(4,Dy),(11,iv (i2+1:Nat)),(12,iv (j2-1:Nat))] iS) ?_;exact ih (j2-1+1-(i2+1)) oF (i2+1) (j2-1) (Sort.swp d i2 j2) _ (CX _) oF oF oF oF oF (by rw[F3];exact hd) (fun p=>by by_cases hp:p=[]<;>simp[hp,hs,Aa,hH]) hq
theorem Wm(d:Array Sc)(v a b q:Nat)(hn:d.size<=900)(hab:a+2<=b)(hb:b<=d.size)(hq:q<d.size):SpecF Tryz.prog 215 (fun r=>[H7 d.size v r,iv a,iv b,iv q,Dy]) (Bm d v) (fun _=>.tup [iv (Sort.partition BU d a b q).1,bv (Sort.partition BU d a b q).2.1]) (Bm (Sort.partition BU d a b q).2.2 v):=by
 refine Ao GF iS (Ab (Pw _ _) (Ab Az (Ab Az (Ab Az (Ab EI Ah))))) (Ay (Ab Az (Ab Az Ah))) fun w0 I0 M0 m0=>?_;obtain⟨n,hnn⟩:∃n,d.size=n:=⟨_,rfl⟩;rw[hnn]at hn hb hq ⊢;have e1:=AR a;have e2:i64.wrap ((b:Int)-1)=((b-1:Nat):Int):=Bv;have g1:=BG (d:=d) (i:=a) oF;have g0:=BG (d:=d) (i:=q) oF;have g2:=IC (d:=d) (i:=a) (j:=q) oF oF;have hs:=La (d:=d) (i:=a) (j:=q);have hsz:(Sort.swp d a q).size=n:=by rw[F3];exact hnn
 obtain⟨R,hR⟩:∃R,R=Sort.partition BU d a b q:=⟨_,rfl⟩;rw[<-hR];unfold Sort.partition at hR;generalize d[a]! = x at g1 g2 hs;generalize d[q]! = y at g0 g2 hs;generalize hd1:Sort.swp d a q=d1 at hs hsz hR;have hu:=LR (fun x=>BU x d1[a]!) d1 (b-1) (b-1+1-(a+1)) (a+1) (CX _);have lu:=fun (Q:Exit->Sta->Prop) (H:Hp) (hH:∀p,H (0::p)=(Bm d1 v).F 0 p)=>Agm (n0:=178) (w0:=w0) (I0:=I0) (M0:=M0) (m0:=m0) (Q:=Q) (v:=v) (a:=a) (j:=b-1) (H:=H) hn oF oF hsz rfl hH (b-1+1-(a+1)) (a+1) (CX _) oF;simp only at hR;generalize Sort.scanUp (fun x=>BU x d1[a]!) d1 (b-1) (a+1)=i2 at hR hu lu;have hi2:i2<=n:=by rcases hu.2 with h|h<;>omega
 have hdn:=I6 (fun x=>!BU x d1[a]!) d1 i2 oF (b-1);have ld:=fun (Q:Exit->Sta->Prop) (H:Hp) (hH:∀p,H (0::p)=(Bm d1 v).F 0 p)=>Agc (n0:=178) (w0:=w0) (I0:=I0) (M0:=M0) (m0:=m0) (Q:=Q) (v:=v) (a:=a) (i:=i2) (H:=H) hn oF hi2 oF hsz rfl hH (b-1) oF;generalize Sort.scanDown (fun x=>!BU x d1[a]!) d1 i2 (b-1)=j2 at hR hdn ld;have hj2:a<=j2:=by rcases hdn.2 with h|h<;>omega
 have hj2n:j2<n:=oF
 unfold DH;simp[g0,g1,g2,e1,e2,show(a:Int)<n by omega,show(q:Int)<n by omega,show a<n from oF,hq,DE,Aa];refine LoopC.le (Ar [(0,H7 n v 0),(1,iv a),(4,Dy),(12,iv (a+1:Nat)),(13,iv (b-1:Nat))] iS) ?_;have hH1:∀p,(ov 0 (AK ((Bm d v).F 0) [] ⟨v,.arr 2 (((d.toList.map K3).set a (K3 y)).set q (K3 x))⟩) (Gz []):Hp) (0::p)=(Bm d1 v).F 0 p:=fun p=>by by_cases hp:p=[]<;>simp[hp,hs,Aa]
 refine lu _ _ hH1 fun st=>?_;simp;refine ld _ _ hH1 fun st2=>?_;have m1:=BG (d:=d1) (i:=a) oF;have m2:=BG (d:=d1) (i:=j2) oF;by_cases hc:j2<i2
 ·rw[if_pos hc]at hR;subst hR;have m3:=IC (d:=d1) (i:=j2) (j:=a) oF oF;have ms:=La (d:=d1) (i:=j2) (j:=a);rw[hs]at m1 m2 m3 ms;simp only;generalize d1[a]! = z at m1 m3 ms;generalize d1[j2]! = u at m2 m3 ms;generalize hL:(((d.toList.map K3).set a (K3 y)).set q (K3 x))=L at *;simp[hc,show(j2:Int)<i2 by omega,m1,m2,m3,Aa,show(a:Int)<n by omega,show(j2:Int)<n by omega,show a<n from oF,hj2n,DE];exact An rfl rfl (fun p=>by by_cases hp:p=[]<;>simp[hp,ms,Aa])
 ·rw[if_neg hc]at hR;have e3:=AR i2;have e4:i64.wrap ((j2:Int)-1)=((j2-1:Nat):Int):=Bv;have m1:=BG (d:=d1) (i:=i2) oF;have m3:=IC (d:=d1) (i:=i2) (j:=j2) oF oF;have ms:=La (d:=d1) (i:=i2) (j:=j2);have hsz2:(Sort.swp d1 i2 j2).size=n:=by rw[F3];exact hsz
  rw[hs]at m1 m2 m3 ms;generalize d1[i2]! = z at m1 m3 ms;generalize d1[j2]! = u at m2 m3 ms;generalize hd2:Sort.swp d1 i2 j2=d2 at ms hsz2 hR;have l5:=fun (Q:Exit->Sta->Prop) (H:Hp) (hH:∀p,H (0::p)=(Bm d2 v).F 0 p)=>Agf (n0:=178) (w0:=w0) (I0:=I0) (M0:=M0) (m0:=m0) (Q:=Q) (v:=v) hn (show a<n from oF) (j2-1+1-(i2+1)) (i2+1) (j2-1) d2 H (CX _) oF oF oF oF oF hsz2 hH;generalize Sort.partLoop BU a (i2+1) (j2-1) d2=T at hR l5;generalize hL:(((d.toList.map K3).set a (K3 y)).set q (K3 x))=L at *;simp[hc,show ¬(j2:Int)<i2 by omega,m1,m2,m3,e3,e4,Aa,show(i2:Int)<n by omega,show(j2:Int)<n by omega,show i2<n from oF,hj2n,DE];refine LoopC.le (Ar [(0,H7 n v 0),(1,iv a),(4,Dy),(12,iv (i2+1:Nat)),(13,iv (j2-1:Nat))] iS) ?_;refine l5 _ _ (fun p=>by by_cases hp:p=[]<;>simp[hp,ms,Aa]) fun H' xx st3 hT t1 t2 t3=>?_;have h0:=hT [];simp only[Kv]at h0;have k1:=BG (d:=T.2) (i:=a) oF;have k2:=BG (d:=T.2) (i:=T.1) oF;have k3:=IC (d:=T.2) (i:=T.1) (j:=a) oF oF;have ks:=La (d:=T.2) (i:=T.1) (j:=a);subst hR;simp only;generalize T.2[a]! = z' at k1 k3 ks;generalize T.2[T.1]! = u' at k2 k3 ks;simp[h0,k1,k2,k3,show(a:Int)<n by omega,show(T.1:Int)<n by omega,show a<n from oF,t2,DE];exact An rfl rfl (fun p=>by by_cases hp:p=[]<;>simp[hp,ks,hT,Aa])
theorem du(d:Array Sc)(v a b q:Nat)(hn:d.size<=900)(hab:a+2<=b)(hb:b<=d.size)(hq:q<d.size):SpecF Tryz.prog 214 (fun r=>[H7 d.size v r,iv a,iv b,iv q,Dy]) (Bm d v) (fun _=>iv (Sort.partitionEqual BU d a b q).1) (Bm (Sort.partitionEqual BU d a b q).2 v):=by
 refine Ao Fy iS (Ab (Pw _ _) (Ab Az (Ab Az (Ab Az (Ab EI Ah))))) Az fun w0 I0 M0 m0=>?_;obtain⟨n,hnn⟩:∃n,d.size=n:=⟨_,rfl⟩;rw[hnn]at hn hb hq ⊢;have e1:=AR a;have e2:i64.wrap ((b:Int)-1)=((b-1:Nat):Int):=Bv;have g1:=BG (d:=d) (i:=a) oF;have g0:=BG (d:=d) (i:=q) oF;have g2:=IC (d:=d) (i:=a) (j:=q) oF oF;have hs:=La (d:=d) (i:=a) (j:=q);have hsz:(Sort.swp d a q).size=n:=by rw[F3];exact hnn
 unfold Sort.partitionEqual;generalize d[a]! = x at g1 g2 hs;generalize d[q]! = y at g0 g2 hs;generalize Sort.swp d a q=d1 at hs hsz ⊢;have l3:=fun (Q:Exit->Sta->Prop) (H:Hp) (hH:∀p,H (0::p)=(Bm d1 v).F 0 p)=>Ah9 (n0:=90) (w0:=w0) (I0:=I0) (M0:=M0) (m0:=m0) (Q:=Q) (v:=v) hn (show a<n from oF) (b-1+1-(a+1)) (a+1) (b-1) d1 H (CX _) oF oF oF oF oF hsz hH;generalize Sort.partEqLoop BU a (a+1) (b-1) d1=T at l3 ⊢;unfold CZ;simp[g0,g1,g2,e1,e2,show(a:Int)<n by omega,show(q:Int)<n by omega,show a<n from oF,hq,DE,Aa];refine LoopC.le (Ar [(0,H7 n v 0),(1,iv a),(4,Dy),(11,iv (a+1:Nat)),(12,iv (b-1:Nat))] iS) ?_;refine l3 _ _ (fun p=>by by_cases hp:p=[]<;>simp[hp,hs,Aa]) fun H' xx st hT t1 t2 t3=>?_;simp;exact An rfl rfl hT
abbrev AfS:List UInt8:=[0,1,2,2,3,3,3,3,4,4,4,4,4,4,4,4,5,5,5,5,5,5,5,5,5,5,5,5,5,5,5,5,6,6,6,6,6,6,6,6,6,6,6,6,6,6,6,6,6,6,6,6,6,6,6,6,6,6,6,6,6,6,6,6,7,7,7,7,7,7,7,7,7,7,7,7,7,7,7,7,7,7,7,7,7,7,7,7,7,7,7,7,7,7,7,7,7,7,7,7,7,7,7,7,7,7,7,7,7,7,7,7,7,7,7,7,7,7,7,7,7,7,7,7,7,7,7,7,8,8,8,8,8,8,8,8,8,8,8,8,8,8,8,8,8,8,8,8,8,8,8,8,8,8,8,8,8,8,8,8,8,8,8,8,8,8,8,8,8,8,8,8,8,8,8,8,8,8,8,8,8,8,8,8,8,8,8,8,8,8,8,8,8,8,8,8,8,8,8,8,8,8,8,8,8,8,8,8,8,8,8,8,8,8,8,8,8,8,8,8,8,8,8,8,8,8,8,8,8,8,8,8,8,8,8,8,8,8,8,8,8,8,8,8,8,8,8,8,8,8,8,8,8,8,8,8]
set_option maxRecDepth 100000 in
theorem VZ(n:Nat)(h:n<256):AfS[n]? = some (UInt8.ofNat (Sort.bitsLen n))/\Sort.bitsLen n<=8:=by
 have:∀n:Fin 256,AfS[n.val]? = some (UInt8.ofNat (Sort.bitsLen n.val))/\Sort.bitsLen n.val<=8:=by decide +kernel
 exact this ⟨n,h⟩
set_option maxRecDepth 100000 in
theorem jJ(n:Nat)(hn:n<256):G.Spec Tryz.prog 217 [uv n] (iv (Sort.bitsLen n)):=by
 refine Ak Ru iS fun w0 I0=>?_;unfold K6;simp[show ¬(4294967296:Int)<=n by omega];rw[Kh.eq_1];simp[show ¬(65536:Int)<=n by omega];rw[J7.eq_1];obtain⟨ht,hb⟩:=VZ n hn;have hx:(UInt8.ofNat (Sort.bitsLen n)).toNat=Sort.bitsLen n:=by rw[UInt8.toNat_ofNat'];exact Nat.mod_eq_of_lt oF
 generalize UInt8.ofNat (Sort.bitsLen n)=y at ht hx;have e1:i64.wrap (Sort.bitsLen n:Int)=(Sort.bitsLen n:Int):=Ga;have e2:IntKind.u8.wrap (n:Int)=(n:Int):=by rw[IntKind.wrap_u8];omega
 simp[show ¬(256:Int)<=n by omega,ht,e2];rw[hx,e1,e1];exact Ae rfl
theorem RH(n:Nat)(hn:n<256):G.Spec Tryz.prog 206 [uv n] (iv (Sort.bitsLen n)):=by
 refine Ak Uj iS fun w0 I0=>?_;unfold Na;simp;refine Ag (jJ n hn) rfl ?_;simp;exact Ae rfl
theorem aW(n:Nat)(hn:n<256):G.Spec Tryz.prog 219 [iv n] (uv (1 <<< Sort.bitsLen n:Nat)):=by
 refine Ak LJ iS fun w0 I0=>?_;obtain⟨_,hb⟩:=VZ n hn;have e1:u64.wrap (n:Int)=(n:Int):=HB oF oF;have h2:(2:Nat) ^ Sort.bitsLen n<=2 ^ 8:=Nat.pow_le_pow_right oF hb;have h3:((2 ^ Sort.bitsLen n:Nat):Int)<18446744073709551616:=Int.ofNat_lt.2 (Nat.lt_of_le_of_lt h2 dO);have e2:u64.wrap (2 ^ min (Sort.bitsLen n) u64.bits:Int)=((1 <<< Sort.bitsLen n:Nat):Int):=by
  rw[show min (Sort.bitsLen n) u64.bits=Sort.bitsLen n from Nat.min_eq_left (Nat.le_trans hb dO),Nat.one_shiftLeft];rw[show((2:Int) ^ Sort.bitsLen n)=((2 ^ Sort.bitsLen n:Nat):Int) by simp];exact HB (Int.natCast_nonneg _) h3
 generalize hz:((1 <<< Sort.bitsLen n:Nat):Int)=z at e2 ⊢;unfold Hg;simp[e1];refine Ag (RH n hn) rfl ?_;simp[e2];exact Ae rfl
theorem Afu(s:UInt64)(k:UInt64)(hk:k.toNat<64):bits .xor .u64 (s.toNat:Int) (u64.wrap ((s.toNat:Int)*2 ^ k.toNat))=((s ^^^ (s <<< k)).toNat:Int):=by
 have h:=s.toNat_lt;have e:u64.wrap ((s.toNat:Int)*2 ^ k.toNat)=((s <<< k).toNat:Int):=by
  rw[IntKind.wrap_u64,UInt64.toNat_shiftLeft,Nat.mod_eq_of_lt hk,Nat.shiftLeft_eq];rw[show((s.toNat:Int)*2 ^ k.toNat)=((s.toNat*2 ^ k.toNat:Nat):Int) by simp];omega
 rw[e,bits_xor_u64_nat _ _ h (s <<< k).toNat_lt,UInt64.toNat_xor]
theorem Alp(s:UInt64)(k:UInt64)(hk:k.toNat<64):bits .xor .u64 (s.toNat:Int) ((s.toNat:Int) / 2 ^ k.toNat)=((s ^^^ (s >>> k)).toNat:Int):=by
 have h:=s.toNat_lt;have e:(s.toNat:Int) / 2 ^ k.toNat=((s >>> k).toNat:Int):=by
  rw[UInt64.toNat_shiftRight,Nat.mod_eq_of_lt hk,Nat.shiftRight_eq_div_pow];simp
 rw[e,bits_xor_u64_nat _ _ h (s >>> k).toNat_lt,UInt64.toNat_xor]
def ceU(s:UInt64):Fam:=⟨fun r p=>if p=[]then ⟨1,.cells [uv s.toNat]⟩else ⟨0,.none⟩,fun {g δ r r'} hg hd p=>by
  by_cases h1:p=[]
  ·rw[if_pos h1];exact Fam.cells_ren (by simp[A.renL,A.ren])
  ·rw[if_neg h1];rfl,fun {D r} hD p=>by
  by_cases h1:p=[]
  ·rw[if_pos h1];simp[Ob.refs,A.refsL,A.refs]
  ·rw[if_neg h1];trivial⟩
@[simp]theorem AlM{s:UInt64}{r:Nat}{p:Nm}:(ceU s).F r p=if p=[]then ⟨1,.cells [uv s.toNat]⟩else ⟨0,.none⟩:=rfl
theorem df(s:UInt64):SpecF Tryz.prog 220 (fun r=>[ceP r]) (ceU s) (fun _=>uv (Sort.xorNext s).toNat) (ceU (Sort.xorNext s)):=by
 refine Ao My iS (Ab Aq Ah) Az fun w0 I0 M0 m0=>?_;unfold Hq;simp[Aa];have x1:bits .xor .u64 (s.toNat:Int) (u64.wrap ((s.toNat:Int)*2 ^ min 13 u64.bits))=((s ^^^ (s <<< 13)).toNat:Int):=Afu s 13 dO;rw[x1];have x2:=fun r:UInt64=>Alp r 7 dO;have x2':∀r:UInt64,bits .xor .u64 (r.toNat:Int) ((r.toNat:Int) / 2 ^ min 7 u64.bits)=((r ^^^ (r >>> 7)).toNat:Int):=fun r=>x2 r;rw[x2'];have x3:∀r:UInt64,bits .xor .u64 (r.toNat:Int) (u64.wrap ((r.toNat:Int)*2 ^ min 17 u64.bits))=((r ^^^ (r <<< 17)).toNat:Int):=fun r=>Afu r 17 dO;rw[x3];exact An rfl rfl (fun p=>by by_cases hp:p=[]<;>simp[hp,Aa,Sort.xorNext])
theorem Nn(a l m:Nat)(st:UInt64 × Array Sc)(i:Nat):(Sort.breakStep a l m st i).2.size=st.2.size:=by
 unfold Sort.breakStep;exact F3
theorem zG{n a l k:Nat}(hn:n<=900)(hal:a+l<=n)(h13:13<=l)(h16:l<=49)(hk:k=Sort.bitsLen l){i:Nat}(hi:i<n)(hib:i<=a+l / 4*2+1){r:UInt64}{d:Array Sc}{H:Hp}(hd:d.size=n)(hH:∀p,H (0::p)=(Bm d v).F 0 p)(hG:∀p,H (1::p)=(ceU r).F 1 p)
  (hq:∀H':Hp,(∀p,H' (0::p)=(Bm (Sort.breakStep a l (1 <<< k) (r,d) i).2 v).F 0 p)->(∀p,H' (1::p)=(ceU (Sort.breakStep a l (1 <<< k) (r,d) i).1).F 1 p)->LoopC (DC Tryz.prog w0 I0 M0 n0 m0) Ax Q ⟨lk [(0,H7 n v 0),(1,iv a),(8,iv l),(9,ceP 1),(10,uv (1 <<< k:Nat)),(11,iv (i+1:Nat))],H'⟩) :
  LoopC (DC Tryz.prog w0 I0 M0 n0 m0) Ax Q ⟨lk [(0,H7 n v 0),(1,iv a),(8,iv l),(9,ceP 1),(10,uv (1 <<< k:Nat)),(11,iv i)],H⟩:=by
 have hN:=df r;obtain⟨m,hm⟩:∃m,m=(1 <<< k:Nat):=⟨_,rfl⟩;obtain⟨q4,hq4⟩:∃q4,q4=l / 4:=⟨_,rfl⟩;have e1:i64.wrap ((l:Int).tdiv 4)=(q4:Int):=by rw[Int.tdiv_eq_ediv_of_nonneg oF,Bq oF oF];omega
 have e1':i64.wrap ((l:Int) / 4)=(q4:Int):=Bv;have e2:i64.wrap ((q4:Int)*2)=(q4:Int)*2:=Ga;have e3:i64.wrap ((a:Int)+(q4:Int)*2)=(a:Int)+(q4:Int)*2:=Ga;have e4:i64.wrap ((a:Int)+(q4:Int)*2+1)=(a:Int)+(q4:Int)*2+1:=Ga;rw[<-hm]at hq ⊢;refine Ad Ai Ax.eq_1 ?_;simp[e1,e1',e2,e3,e4,show(i:Int)<=(a:Int)+(q4:Int)*2+1 by omega];refine Ap 1 hN hG iS iS ?_;simp;have hX:=(Sort.xorNext r).toNat_lt;have hml:m<=2*l:=by
  rw[hm,hk,Nat.one_shiftLeft];exact Sort.two_pow_bitsLen_le oF
 have hm1:1<=m:=by
  rw[hm,Nat.one_shiftLeft];exact Nat.one_le_two_pow
 obtain⟨o,ho⟩:∃o,o=(Sort.xorNext r).toNat &&& (m-1):=⟨_,rfl⟩;have hol:o<=m-1:=by rw[ho];exact Nat.and_le_right
 have eA:bits .and .u64 ((Sort.xorNext r).toNat:Int) (u64.wrap ((m:Int)-1))=(o:Int):=by
  rw[show u64.wrap ((m:Int)-1)=((m-1:Nat):Int) by rw[HB oF oF];omega,bits_and_u64_nat _ _ hX oF,<-ho]
 have eB:i64.wrap (o:Int)=(o:Int):=Ga;have e5:=AR i;have fin:∀o2:Nat,o2<l->Sort.breakStep a l m (r,d) i=(Sort.xorNext r,Sort.swp d i (a+o2))->WPC (DC Tryz.prog w0 I0 M0 n0 m0) BR
   (Co 1 (Hk (WPC (DC Tryz.prog w0 I0 M0 n0 m0) (.keep [0,1,8,9,10,11] (.reg [co (some 36) (.move (.tmp 11)) none,co (some 37) (.binOp .add 3 (.tmp 36) (.const (.int .i64 1)) 3) none,co (some 11) (.assign (.tmp 37)) none] [0,1,8,9,10,11]))
    (Hk (LoopC (DC Tryz.prog w0 I0 M0 n0 m0) Ax Q) Q)) (Hk (LoopC (DC Tryz.prog w0 I0 M0 n0 m0) Ax Q) Q)))
   ⟨lk [(0,H7 n v 0),(1,iv a),(8,iv l),(9,ceP 1),(10,uv m),(11,iv i),(12,iv o2)],ov 1 ((ceU (Sort.xorNext r)).F 1) H⟩:=fun o2 ho2 hst=>by
  have h0:=hH [];simp only[Kv]at h0;have e6:i64.wrap ((a:Int)+(o2:Int))=((a+o2:Nat):Int):=Bv;have g1:=BG (d:=d) (i:=i) oF;have g0:=BG (d:=d) (i:=a+o2) oF;have g2:=IC (d:=d) (i:=i) (j:=a+o2) oF oF;have hs:=La (d:=d) (i:=i) (j:=a+o2);rw[hst]at hq;generalize d[i]! = x at g1 g2 hs;generalize d[a+o2]! = y at g0 g2 hs;have hj:((a+o2:Nat):Int)<n:=oF
  have hj':a+o2<n:=oF
  generalize Sort.swp d i (a+o2)=d2 at hs hq;generalize a+o2=jj at e6 g0 g2 hs hj hj';rw[BR.eq_1];simp[e6,h0,g0,g1,g2,e5,show(i:Int)<n by omega,hi,hj,hj',DE];exact hq _ (fun p=>by by_cases hp:p=[]<;>simp[hp,hs,Aa,hH]) (fun p=>by simp[Aa])
 simp only[eA,eB];have hbs:Sort.breakStep a l m (r,d) i=(Sort.xorNext r,Sort.swp d i (a+(if o≥l then o-l else o))):=by
  unfold Sort.breakStep;simp only[<-ho]
 by_cases hc:l<=o
 ·rw[if_pos (show o≥l from hc)]at hbs;refine⟨fun _=>?_,fun h=>oF⟩;have e7:i64.wrap ((o:Int)-l)=((o-l:Nat):Int):=Bv;rw[e7];exact fin (o-l) oF hbs
 ·rw[if_neg hc]at hbs;refine⟨fun h=>oF,fun _=>?_⟩;exact fin o oF hbs
theorem jd(d:Array Sc)(v a b:Nat)(hn:d.size<=900)(hab:a+13<=b)(hb:b<=d.size)(hl:b-a<50):SpecF Tryz.prog 210 (fun r=>[H7 d.size v r,iv a,iv b,Dy]) (Bm d v) (fun _=>.tup []) (Bm (Sort.breakPatterns d a b) v):=by
 refine Ao FM iS (Ab (Pw _ _) (Ab Az (Ab Az (Ab EI Ah)))) (Ay Ah) fun w0 I0 M0 m0=>?_;obtain⟨n,hnn⟩:∃n,d.size=n:=⟨_,rfl⟩;rw[hnn]at hn hb ⊢;obtain⟨l,hll⟩:∃l,l=b-a:=⟨_,rfl⟩;obtain⟨q4,hq4⟩:∃q4,q4=l / 4:=⟨_,rfl⟩;have e0:i64.wrap ((b:Int)-a)=(l:Int):=Bv;have e1:i64.wrap ((l:Int).tdiv 4)=(q4:Int):=by rw[Int.tdiv_eq_ediv_of_nonneg oF,Bq oF oF];omega
 have e1':i64.wrap ((l:Int) / 4)=(q4:Int):=Bv;have e2:i64.wrap ((q4:Int)*2)=(q4:Int)*2:=Ga;have e3:i64.wrap ((a:Int)+(q4:Int)*2)=(a:Int)+(q4:Int)*2:=Ga;have e4:i64.wrap ((a:Int)+(q4:Int)*2-1)=((a+q4*2-1:Nat):Int):=Bv;have e5:i64.wrap ((a:Int)+(q4:Int)*2+1)=(a:Int)+(q4:Int)*2+1:=Ga;have eu:u64.wrap (l:Int)=(l:Int):=HB oF oF;have hNx:=aW l oF;have ho:(UInt64.ofNat l).toNat=l:=by rw[UInt64.toNat_ofNat'];exact Nat.mod_eq_of_lt oF
 unfold Sort.breakPatterns;simp only[<-hll,ge_iff_le,if_pos (show 8<=l from oF),<-hq4];have st:=@zG (n0:=67) w0 I0 M0 m0;generalize hid:a+q4*2-1=id0 at e4 ⊢;unfold Dc;generalize hmm:(1 <<< Sort.bitsLen l:Nat)=mm at hNx ⊢;simp[e0,eu,show(8:Int)<=l by omega,Aa];refine Ag hNx rfl ?_;simp[e1,e1',e2,e3,e4];rw[<-hmm];refine st hn oF oF oF rfl (i:=id0) (r:=UInt64.ofNat l) (d:=d) oF oF hnn (fun p=>iS) (fun p=>?_) fun H1 f1 g1=>?_
 ·by_cases hp:p=[]
  ·subst hp;simp[Gz,ho]
  ·simp[Gz,hp,Ne.symm hp]
 have s1:=Nn a l (1 <<< Sort.bitsLen l) (UInt64.ofNat l,d) id0;simp only[hnn]at s1;generalize Sort.breakStep a l (1 <<< Sort.bitsLen l) (UInt64.ofNat l,d) id0=S1 at f1 g1 s1 ⊢;refine st hn oF oF oF rfl (i:=id0+1) (r:=S1.1) (d:=S1.2) oF oF s1 f1 g1 fun H2 f2 g2=>?_;have s2:=Nn a l (1 <<< Sort.bitsLen l) (S1.1,S1.2) (id0+1);simp only[s1]at s2;have eS:(S1.1,S1.2)=S1:=rfl;rw[eS]at f2 g2 s2;generalize Sort.breakStep a l (1 <<< Sort.bitsLen l) S1 (id0+1)=S2 at f2 g2 s2 ⊢;refine st hn oF oF oF rfl (i:=id0+1+1) (r:=S2.1) (d:=S2.2) oF oF s2 f2 g2 fun H3 f3 g3=>?_;refine Ad Ai Ax.eq_1 ?_;have big:¬((id0+1+1+1:Nat):Int)<=(a:Int)+(q4:Int)*2+1:=oF
 generalize id0+1+1+1=id3 at big ⊢;simp[e1,e1',e2,e3,e5,big];exact AQ rfl rfl (fun p=>f3 p)
def pq1(d:Array Sc)(a b lim q:Nat)(wb wp:Bool):Array Sc:=
 if (decide (a > 0)&&!BU d[a-1]! d[q]!)=true then
  if a<(Sort.partitionEqual BU d a b q).1/\(Sort.partitionEqual BU d a b q).1<=b then Sort.pdq BU (Sort.partitionEqual BU d a b q).2 (Sort.partitionEqual BU d a b q).1 b lim wb wp else (Sort.partitionEqual BU d a b q).2
 else
  if a<=(Sort.partition BU d a b q).1/\(Sort.partition BU d a b q).1<b then
   if (Sort.partition BU d a b q).1-a<b-(Sort.partition BU d a b q).1 then
    Sort.pdq BU (Sort.pdq BU (Sort.partition BU d a b q).2.2 a (Sort.partition BU d a b q).1 lim true true) ((Sort.partition BU d a b q).1+1) b lim (decide ((Sort.partition BU d a b q).1-a≥(b-a) / 8)) (Sort.partition BU d a b q).2.1
   else
    Sort.pdq BU (Sort.pdq BU (Sort.partition BU d a b q).2.2 ((Sort.partition BU d a b q).1+1) b lim true true) a (Sort.partition BU d a b q).1 lim (decide (b-(Sort.partition BU d a b q).1≥(b-a) / 8)) (Sort.partition BU d a b q).2.1
  else (Sort.partition BU d a b q).2.2
def pq2(d:Array Sc)(a b lim q:Nat)(hint:Sort.Hint)(wb wp:Bool):Array Sc:=
 if (wb&&wp&&decide (hint=.increasing))=true then
  if (Sort.partialInsertionSort BU d a b).2=true then (Sort.partialInsertionSort BU d a b).1 else pq1 (Sort.partialInsertionSort BU d a b).1 a b lim q wb wp
 else pq1 d a b lim q wb wp
def y9(d:Array Sc)(a b lim:Nat)(wb wp:Bool):Array Sc:=
 if (Sort.choosePivot BU d a b).2=.decreasing then pq2 (Sort.reverseRange d a b) a b lim ((b-1)-((Sort.choosePivot BU d a b).1-a)) .increasing wb wp
 else pq2 d a b lim (Sort.choosePivot BU d a b).1 (Sort.choosePivot BU d a b).2 wb wp
theorem rS(d:Array Sc)(a b lim:Nat)(wb wp:Bool):Sort.pdq BU d a b lim wb wp=if b-a<=12 then Sort.insertionSort BU d a b else if lim=0 then Sort.heapSort BU d a b else
  if wb=true then y9 d a b lim wb wp else y9 (Sort.breakPatterns d a b) a b (lim-1) wb wp:=by
 rw[Sort.pdq];split
 ·rfl
 ·split
  ·rfl
  ·have main:∀(d:Array Sc)(lim:Nat),(let c:=Sort.choosePivot BU d a b
    let d2:=if c.2=.decreasing then Sort.reverseRange d a b else d
    let pivot:=if c.2=.decreasing then (b-1)-(c.1-a)else c.1
    let hint:=if c.2=.decreasing then Sort.Hint.increasing else c.2
    let pi:=if (wb&&wp&&hint=.increasing)=true then Sort.partialInsertionSort BU d2 a b else (d2,false)
    if pi.2=true then pi.1 else pq1 pi.1 a b lim pivot wb wp)=y9 d a b lim wb wp:=fun d lim=>by
    simp only;unfold y9 pq2;by_cases hd:(Sort.choosePivot BU d a b).2=.decreasing
    ·simp only[hd,if_true];cases wb<;>cases wp<;>simp
    ·simp only[hd,if_false];by_cases hw:(wb&&wp&&decide ((Sort.choosePivot BU d a b).2=.increasing))=true
     ·rw[if_pos hw,if_pos hw]
     ·rw[if_neg hw,if_neg hw];simp
   cases wb with
   |true=>
    rw[if_pos rfl,<-main];simp only[Bool.not_true,Bool.false_eq_true,if_false];unfold pq1;rfl
   |false=>
    have e2:(if (false:Bool)=true then y9 d a b lim false wp else y9 (Sort.breakPatterns d a b) a b (lim-1) false wp)=y9 (Sort.breakPatterns d a b) a b (lim-1) false wp:=if_neg iS;rw[e2,<-main];simp only[Bool.not_false,if_true];unfold pq1;rfl
def bh(l lim:Nat)(wb:Bool):Prop:=l<=12\/(l-12)+(if wb=true then 0 else 1)<=lim
section
variable {v n:Nat}
theorem NL{l l' lim:Nat}(wb:Bool)(h:l'<l)(h2:l-12<=lim):bh l' lim wb:=by
 unfold bh;by_cases h3:l'<=12
 ·exact .inl h3
 ·right;split<;>omega
def LPs(v n a b lim:Nat)(wb wp:Bool)(d:Array Sc):Prop:=∀{n0:Nat} {w0:World} {I0:Nat->Prop} {M0:Nm->Nat->Prop} {m0:Mu} {Q:Exit->Sta->Prop} (H:Hp),(∀p,H (0::p)=(Bm d v).F 0 p) ->
  (∀(H':Hp)(st:List (Nat × A)),(∀p,H' (0::p)=(Bm (Sort.pdq BU d a b lim wb wp) v).F 0 p)->Q .ret ⟨lk st,H'⟩) ->
  LoopC (DC Tryz.prog w0 I0 M0 n0 m0) AG Q ⟨lk [(0,H7 n v 0),(1,iv a),(2,iv b),(3,iv lim),(4,Dy),(10,bv wb),(11,bv wp)],H⟩
def PQs(v n a b lim:Nat)(d:Array Sc):Prop:=SpecF Tryz.prog 205 (fun r=>[H7 n v r,iv a,iv b,iv lim,Dy]) (Bm d v) (fun _=>.tup []) (Bm (Sort.pdq BU d a b lim true true) v)
theorem gm{a b lim:Nat}{d:Array Sc}(h:LPs v n a b lim true true d):PQs v n a b lim d:=by
 refine Ao Hl iS (Ab (Pw _ _) (Ab Az (Ab Az (Ab Az (Ab EI Ah))))) (Ay Ah) fun w0 I0 M0 m0=>?_;unfold DY;simp;refine LoopC.le (Ar [(0,H7 n v 0),(1,iv a),(2,iv b),(3,iv lim),(4,Dy),(10,bv true),(11,bv true)] iS) ?_;refine h _ (fun p=>iS) fun H' st h'=>?_;simp;exact AQ rfl rfl (fun p=>h' p)
end
theorem jn(a:Nat):∀(m i j J:Nat)(d:Array Sc),j+1-i<=m->1<=i->i<=J+1->j<=J->i<=(Sort.partEqLoop BU a i j d).1/\(Sort.partEqLoop BU a i j d).1<=J+1/\(Sort.partEqLoop BU a i j d).2.size=d.size:=by
 intro m;induction m using Nat.strongRecOn with
 |_ m ih=>
  intro i j J d hm h1 hi hj;rw[Sort.partEqLoop];have hu:=LR (fun x=>!BU d[a]! x) d j (j+1-i) i (CX _);generalize Sort.scanUp (fun x=>!BU d[a]! x) d j i=i2 at hu ⊢;have hdn:=I6 (fun x=>BU d[a]! x) d i2 oF j;generalize Sort.scanDown (fun x=>BU d[a]! x) d i2 j=j2 at hdn ⊢;by_cases hc:i2 > j2
  ·simp only[hc,if_true];refine⟨hu.1,?_,trivial⟩;rcases hu.2 with h|h<;>omega
  ·have hg:j2-1+1-(i2+1)<j+1-i:=oF
   simp only[hc,if_false,dif_pos hg];have:=ih (j2-1+1-(i2+1)) oF (i2+1) (j2-1) J (Sort.swp d i2 j2) (CX _) oF oF oF;rw[F3]at this;omega
theorem pP(d:Array Sc)(a b q:Nat)(hab:a+2<=b):a<(Sort.partitionEqual BU d a b q).1/\(Sort.partitionEqual BU d a b q).1<=b/\(Sort.partitionEqual BU d a b q).2.size=d.size:=by
 unfold Sort.partitionEqual;have:=jn a (b-1+1-(a+1)) (a+1) (b-1) (b-1) (Sort.swp d a q) (CX _) oF oF (CX _);rw[F3]at this;omega
theorem AhE:Sort.SWO BU where
 irrefl x:=by simp[BU]
 trans x y z h1 h2:=by simp[BU]at *; omega
 ntrans x y z h1 h2:=by simp[BU]at *; omega
theorem yl(d:Array Sc)(a b q:Nat)(h1:a<=q)(h2:q<b)(hb:b<=d.size):a<=(Sort.partition BU d a b q).1/\(Sort.partition BU d a b q).1<b/\(Sort.partition BU d a b q).2.2.size=d.size:=by
 obtain⟨k1,k2,k3,_⟩:=Sort.partition_holds BU AhE d a b q h1 h2 hb;exact⟨k1,k2,k3.1⟩
theorem Mr(d:Array Sc)(a b lim:Nat)(h:b-a<=12):(Sort.pdq BU d a b lim true true).size=d.size:=by
 rw[rS,if_pos h];exact PF BU a b (b-(a+1)) (a+1) d (CX _)
section
variable {n0:Nat} {w0:World} {I0:Nat->Prop} {M0:Nm->Nat->Prop} {m0:Mu} {Q:Exit->Sta->Prop} {v n:Nat}
theorem Afr{a b lim q l:Nat}{wb wp:Bool}{d:Array Sc}(hn:n<=900)(hd:d.size=n)(hab:a+13<=b)(hb:b<=n)(hl:l=b-a)(hl24:l<=24)(hq1:a<=q)(hq2:q<b)(hlim:l-12<=lim)(hlm:lim<=900)
  (ihL:∀(a' b' lim':Nat)(wb' wp':Bool)(d':Array Sc),d'.size=n->a'<=b'->b'<=n->b'-a'<l->lim'<=900->bh (b'-a') lim' wb'->LPs v n a' b' lim' wb' wp' d')
  {H:Hp} (hH:∀p,H (0::p)=(Bm d v).F 0 p) (hq:∀(H':Hp)(st:List (Nat × A)),(∀p,H' (0::p)=(Bm (pq1 d a b lim q wb wp) v).F 0 p)->Q .ret ⟨lk st,H'⟩) :
  WPC (DC Tryz.prog w0 I0 M0 n0 m0) BC (Co 1 (Hk (LoopC (DC Tryz.prog w0 I0 M0 n0 m0) AG Q) Q)) ⟨lk [(0,H7 n v 0),(1,iv a),(2,iv b),(3,iv lim),(4,Dy),(10,bv wb),(11,bv wp),(12,iv l),(13,iv q)],H⟩:=by
 have hP:=Wm d v a b q oF oF oF oF;have hE:=du d v a b q oF oF oF oF;obtain⟨p1,p2,p3⟩:=yl d a b q hq1 hq2 oF;obtain⟨c1,c2,c3⟩:=pP d a b q oF;unfold pq1 at hq;rw[if_pos (show a<(Sort.partitionEqual BU d a b q).1/\(Sort.partitionEqual BU d a b q).1<=b from⟨c1,c2⟩),if_pos (show a<=(Sort.partition BU d a b q).1/\(Sort.partition BU d a b q).1<b from⟨p1,p2⟩)]at hq;generalize Sort.partitionEqual BU d a b q=E at hE c1 c2 c3 hq;generalize Sort.partition BU d a b q=R at hP p1 p2 p3 hq;obtain⟨mid,ap,d4⟩:=R;simp only at hP p1 p2 p3 hq;rw[hd]at hP hE p3 c3;have f1:i64.wrap ((mid:Int)-a)=((mid-a:Nat):Int):=Bv;have f2:i64.wrap ((b:Int)-mid)=((b-mid:Nat):Int):=Bv;have f3:i64.wrap ((l:Int).tdiv 8)=((l / 8:Nat):Int):=by rw[Int.tdiv_eq_ediv_of_nonneg oF,Bq oF oF];omega
 have f4:i64.wrap ((l:Int) / 8)=((l / 8:Nat):Int):=Bv;have f5:=AR mid;rw[BC.eq_1];by_cases ha0:0<a
 ·have h0:=hH [];simp only[Kv]at h0;have g1:=BG (d:=d) (i:=a-1) oF;have g0:=BG (d:=d) (i:=q) oF;have hc:=XT d[a-1]! d[q]!;have f6:i64.wrap ((a:Int)-1)=((a-1:Nat):Int):=Bv;generalize d[a-1]! = x at g1 hc hq;generalize d[q]! = y at g0 hc hq;simp[show(0:Int)<a by omega,ha0,h0,f6,g1,g0,show(q:Int)<n by omega,show q<n by omega,show a-1<n from oF,show((a-1:Nat):Int)<n by omega,DE];rw[AW];simp;refine Fq rfl (Em x y) iS rfl ?_;cases hL:BU x y with
  |false=>
   rw[hL]at hc hq;rw[if_pos (by simp;omega)]at hq;have hc':¬Fw x.i y.i<0:=by simpa using hc
   simp[hc'];refine Ap 0 hE hH iS iS ?_;simp;exact ihL E.1 b lim wb wp E.2 c3 oF hb oF hlm (NL _ oF hlim) _ (fun p=>iS) hq
  |true=>
   rw[hL]at hc hq;rw[if_neg iS]at hq;have hc':Fw x.i y.i<0:=by simpa using hc
   simp[hc'];refine Ap 0 hP hH iS iS ?_;simp[f1,f2,f3,f4,f5];refine⟨fun hs=>?_,fun hs=>?_⟩
   ·rw[if_pos hs]at hq;have hS:PQs v n a mid lim d4:=gm (ihL a mid lim true true d4 p3 oF oF oF hlm (.inl oF));have hsz:=Mr d4 a mid lim oF;have hdec:decide ((l:Int) / 8<=((mid-a:Nat):Int))=decide (mid-a≥(b-a) / 8):=by rw[decide_eq_decide];omega
    refine Ap 0 hS (fun p=>iS) iS iS ?_;simp[f5];rw[hdec];refine LoopC.le (Ar [(0,H7 n v 0),(1,iv (mid+1:Nat)),(2,iv b),(3,iv lim),(4,Dy),(10,bv (decide (mid-a≥(b-a) / 8))),(11,bv ap)] iS) ?_;exact ihL (mid+1) b lim _ ap _ (by rw[hsz];exact p3) oF hb oF hlm (NL _ oF hlim) _ (fun p=>iS) hq
   ·have hs':¬mid-a<b-mid:=oF
    rw[if_neg hs']at hq;have hS:PQs v n (mid+1) b lim d4:=gm (ihL (mid+1) b lim true true d4 p3 oF oF oF hlm (.inl oF));have hsz:=Mr d4 (mid+1) b lim oF;have hdec:decide ((l:Int) / 8<=((b-mid:Nat):Int))=decide (b-mid≥(b-a) / 8):=by rw[decide_eq_decide];omega
    refine Ap 0 hS (fun p=>iS) iS iS ?_;simp;rw[hdec];exact ihL a mid lim _ ap _ (by rw[hsz];exact p3) oF oF oF hlm (NL _ oF hlim) _ (fun p=>iS) hq
 ·rw[if_neg (by simp;omega)]at hq;have ha00:a=0:=oF
  simp[show ¬(0:Int)<a by omega,ha0];rw[AW];simp;refine Ap 0 hP hH iS iS ?_;simp[f1,f2,f3,f4,f5];refine⟨fun hs=>?_,fun hs=>?_⟩
  ·rw[if_pos hs]at hq;have hS:PQs v n a mid lim d4:=gm (ihL a mid lim true true d4 p3 oF oF oF hlm (.inl oF));have hsz:=Mr d4 a mid lim oF;have hdec:decide ((l:Int) / 8<=((mid-a:Nat):Int))=decide (mid-a≥(b-a) / 8):=by rw[decide_eq_decide];omega
   refine Ap 0 hS (fun p=>iS) iS iS ?_;simp[f5];rw[hdec];refine LoopC.le (Ar [(0,H7 n v 0),(1,iv (mid+1:Nat)),(2,iv b),(3,iv lim),(4,Dy),(10,bv (decide (mid-a≥(b-a) / 8))),(11,bv ap)] iS) ?_;exact ihL (mid+1) b lim _ ap _ (by rw[hsz];exact p3) oF hb oF hlm (NL _ oF hlim) _ (fun p=>iS) hq
  ·have hs':¬mid-a<b-mid:=oF
   rw[if_neg hs']at hq;have hS:PQs v n (mid+1) b lim d4:=gm (ihL (mid+1) b lim true true d4 p3 oF oF oF hlm (.inl oF));have hsz:=Mr d4 (mid+1) b lim oF;have hdec:decide ((l:Int) / 8<=((b-mid:Nat):Int))=decide (b-mid≥(b-a) / 8):=by rw[decide_eq_decide];omega
   refine Ap 0 hS (fun p=>iS) iS iS ?_;simp;rw[hdec];exact ihL a mid lim _ ap _ (by rw[hsz];exact p3) oF oF oF hlm (NL _ oF hlim) _ (fun p=>iS) hq
theorem Aa1{a b lim q l:Nat}{wb wp:Bool}{h:Sort.Hint}{d:Array Sc}(hn:n<=900)(hd:d.size=n)(hab:a+13<=b)(hb:b<=n)(hl:l=b-a)(hl24:l<=24)(hq1:a<=q)(hq2:q<b)(hlim:l-12<=lim)(hlm:lim<=900)
  (ihL:∀(a' b' lim':Nat)(wb' wp':Bool)(d':Array Sc),d'.size=n->a'<=b'->b'<=n->b'-a'<l->lim'<=900->bh (b'-a') lim' wb'->LPs v n a' b' lim' wb' wp' d')
  {H:Hp} (hH:∀p,H (0::p)=(Bm d v).F 0 p) (hq:∀(H':Hp)(st:List (Nat × A)),(∀p,H' (0::p)=(Bm (pq2 d a b lim q h wb wp) v).F 0 p)->Q .ret ⟨lk st,H'⟩) :
  WPC (DC Tryz.prog w0 I0 M0 n0 m0) Cr (Co 1 (Hk (LoopC (DC Tryz.prog w0 I0 M0 n0 m0) AG Q) Q)) ⟨lk [(0,H7 n v 0),(1,iv a),(2,iv b),(3,iv lim),(4,Dy),(10,bv wb),(11,bv wp),(12,iv l),(13,iv q),(14,iv (N6 h))],H⟩:=by
 have hP:=a9 d v a b oF oF oF oF;have hpe:=V9 d a b oF;have h1:(Sort.partialInsertionSort BU d a b).1=d:=by rw[hpe]
 have hk:∀{H:Hp},(∀p,H (0::p)=(Bm d v).F 0 p)->(∀(H':Hp)(st:List (Nat × A)),(∀p,H' (0::p)=(Bm (pq1 d a b lim q wb wp) v).F 0 p)->Q .ret ⟨lk st,H'⟩)->WPC (DC Tryz.prog w0 I0 M0 n0 m0) BC (Co 1 (Hk (LoopC (DC Tryz.prog w0 I0 M0 n0 m0) AG Q) Q)) ⟨lk [(0,H7 n v 0),(1,iv a),(2,iv b),(3,iv lim),(4,Dy),(10,bv wb),(11,bv wp),(12,iv l),(13,iv q)],H⟩:=fun hH hq=>Afr hn hd hab hb hl hl24 hq1 hq2 hlim hlm ihL hH hq;unfold pq2 at hq;rw[h1]at hP hq;rw[hd]at hP;rw[Cr.eq_1];by_cases hw:(wb&&wp&&decide (h=.increasing))=true
 ·rw[if_pos hw]at hq;simp at hw;obtain⟨⟨rfl,rfl⟩,rfl⟩:=hw;simp[N6];refine Ap 0 hP hH iS iS ?_;cases hp:(Sort.partialInsertionSort BU d a b).2 with
  |true=>
   rw[if_pos hp]at hq;simp;exact hq _ [(0,H7 n v 0),(1,iv a),(2,iv b),(3,iv lim),(4,Dy),(10,bv true),(11,bv true),(12,iv l),(13,iv q),(80,bv true)] (fun p=>iS)
  |false=>
   rw[if_neg (by rw[hp];simp)]at hq;simp;exact hk (fun p=>iS) hq
 ·rw[if_neg hw]at hq;cases wb with
  |false=>
   simp;exact hk hH hq
  |true=>cases wp with
   |false=>
    simp;exact hk hH hq
   |true=>
    cases h with
    |increasing=>simp at hw
    |unknown=>
     simp[N6];exact hk hH hq
    |decreasing=>
     simp[N6];exact hk hH hq
theorem Aan{a b lim l:Nat}{wb wp:Bool}{d:Array Sc}(hn:n<=900)(hd:d.size=n)(hab:a+13<=b)(hb:b<=n)(hl:l=b-a)(hl24:l<=24)(hlim:l-12<=lim)(hlm:lim<=900)
  (ihL:∀(a' b' lim':Nat)(wb' wp':Bool)(d':Array Sc),d'.size=n->a'<=b'->b'<=n->b'-a'<l->lim'<=900->bh (b'-a') lim' wb'->LPs v n a' b' lim' wb' wp' d')
  {H:Hp} (hH:∀p,H (0::p)=(Bm d v).F 0 p) (hq:∀(H':Hp)(st:List (Nat × A)),(∀p,H' (0::p)=(Bm (y9 d a b lim wb wp) v).F 0 p)->Q .ret ⟨lk st,H'⟩) :
  WPC (DC Tryz.prog w0 I0 M0 n0 m0) Cs (Co 1 (Hk (LoopC (DC Tryz.prog w0 I0 M0 n0 m0) AG Q) Q)) ⟨lk [(0,H7 n v 0),(1,iv a),(2,iv b),(3,iv lim),(4,Dy),(10,bv wb),(11,bv wp),(12,iv l)],H⟩:=by
 have hC:=choose_spec d v a b oF hab oF oF;have hR:=ab d v a b oF oF oF oF;obtain⟨c1,c2⟩:=Sort.choosePivot_holds BU d a b oF;have hrs:(Sort.reverseRange d a b).size=n:=by
  have:=(Sort.reverseRange_holds d a b oF oF).1;rw[this];exact hd
 unfold y9 at hq;rw[hd]at hC hR;rcases hqq:Sort.choosePivot BU d a b with ⟨q,h⟩;rw[hqq]at hC c1 c2 hq;simp only at hC c1 c2 hq;rw[Cs.eq_1];simp;refine Ap 0 hC hH iS iS ?_;by_cases hdec:h=.decreasing
 ·subst hdec;rw[if_pos rfl]at hq;have e1:i64.wrap ((b:Int)-1)=(b:Int)-1:=Ga;have e2:i64.wrap ((q:Int)-a)=(q:Int)-a:=Ga;have e3:i64.wrap ((b:Int)-1-((q:Int)-a))=((b-1-(q-a):Nat):Int):=Bv;simp[N6];refine Ap 0 hR (fun p=>iS) iS iS ?_;simp[e1,e2,e3];exact Aa1 (h:=.increasing) hn hrs hab hb hl hl24 oF oF hlim hlm ihL (fun p=>iS) hq
 ·rw[if_neg hdec]at hq;have h2:¬N6 h=2:=by cases h<;>simp[N6]at hdec ⊢
  simp[h2];exact Aa1 hn hd hab hb hl hl24 oF oF hlim hlm ihL (fun p=>iS) hq
theorem Abm(hn:n<=900):∀(l:Nat),l<=24->∀(a b lim:Nat)(wb wp:Bool)(d:Array Sc),d.size=n->a<=b->b<=n->b-a=l->lim<=900->bh l lim wb->LPs v n a b lim wb wp d:=by
 intro l;induction l using Nat.strongRecOn with
 |_ l ih=>
  intro hl24 a b lim wb wp d hd hab hb hl hlm hfar n0 w0 I0 M0 m0 Q H hH hq;have e0:i64.wrap ((b:Int)-a)=(l:Int):=Bv;refine Ad Ai AG.eq_1 ?_;rw[rS]at hq;by_cases h12:l<=12
  ·rw[if_pos oF]at hq;have hI:=ba d v a b oF oF oF;rw[hd]at hI;simp[e0,show(l:Int)<=12 by omega,h12];refine Ap 0 hI hH iS iS ?_;simp;exact hq _ [] (fun p=>iS)
  ·rw[if_neg oF]at hq;have hlim:(l-12)+(if wb=true then 0 else 1)<=lim:=by
    rcases hfar with h|h
    ·omega
    ·exact h
   have hlim0:¬lim=0:=by split at hlim<;>omega
   rw[if_neg hlim0]at hq;have ihL:∀(a' b' lim':Nat)(wb' wp':Bool)(d':Array Sc),d'.size=n->a'<=b'->b'<=n->b'-a'<l->lim'<=900->bh (b'-a') lim' wb'->LPs v n a' b' lim' wb' wp' d':=fun a' b' lim' wb' wp' d' k1 k2 k3 k4 k5 k6=>ih (b'-a') k4 oF a' b' lim' wb' wp' d' k1 k2 k3 rfl k5 k6;cases wb with
   |true=>
    rw[if_pos rfl]at hq;simp at hlim;simp[e0,show ¬(l:Int)<=12 by omega,h12,hlim0];exact Aan hn hd oF hb hl.symm hl24 oF hlm ihL hH hq
   |false=>
    rw[if_neg iS]at hq;simp at hlim;have hB:=jd d v a b oF oF oF oF;rw[hd]at hB;have hbs:(Sort.breakPatterns d a b).size=n:=by
     have:=(Sort.breakPatterns_holds d a b hab oF).1;rw[this];exact hd
    have e1:i64.wrap ((lim:Int)-1)=((lim-1:Nat):Int):=Bv;simp[e0,show ¬(l:Int)<=12 by omega,h12,hlim0];refine Ap 0 hB hH iS iS ?_;simp[e1];exact Aan hn hbs oF hb hl.symm hl24 oF oF ihL (fun p=>iS) hq
end
theorem ZN{o:List Sc}(ho:FC o){d:Array Sc}(hp:d.toList.Perm o)(hs:Sort.SortedIn BU 0 d.size d):d.toList=Sx o:=by
 have ha:FC d.toList:=by
  unfold FC at ho ⊢;exact(hp.pairwise_iff (fun {x y} h=>by rw[cy];exact h)).2 ho
 have hr:Km d.toList:=by
  unfold Km FC at *;rw[List.pairwise_iff_getElem]at ha ⊢;intro i j hi hj hij;have h1:=ha i j hi hj hij;have h2:=hs i j (Nat.zero_le _) hij (by simpa using hj);have e1:d[i]! = d.toList[i]:=by rw[getElem!_pos d i (by simpa using hi)];simp
  have e2:d[j]! = d.toList[j]:=by rw[getElem!_pos d j (by simpa using hj)];simp
  rw[e1,e2]at h2;simp[BU]at h2;simp[XC]at h1;simp at h1 h2 ⊢;omega
 obtain⟨k1,k2⟩:=QJ ho;exact Zh hr k1 (hp.trans k2.symm)
theorem i6{o:List Sc}(ho:FC o)(hl:o.length<=16)(v:Nat):SpecF Tryz.prog 198 (fun r=>[xv o v r,Dy]) (iE o v) (fun _=>.tup []) (iE (Sx o) v):=by
 obtain⟨d,hd⟩:∃d:Array Sc,d=o.toArray:=⟨_,rfl⟩;have hdl:d.toList=o:=by rw[hd]
 have hds:d.size=o.length:=by rw[hd];simp
 have hb:Sort.bitsLen o.length<=8:=(VZ o.length oF).2;have hfar:bh o.length (Sort.bitsLen o.length) true:=by
  have:∀n:Fin 17,n.val<=12\/(n.val-12)+0<=Sort.bitsLen n.val:=by decide +kernel
  unfold bh;simpa using this ⟨o.length,oF⟩
 have hP:PQs v o.length 0 o.length (Sort.bitsLen o.length) d:=gm (Abm oF o.length oF 0 o.length _ true true d hds oF (CX _) oF oF hfar);have hS:=Sort.pdq_sorts BU AhE d 0 d.size (Sort.bitsLen o.length) true true (Nat.zero_le _) (CX _) (.inl rfl);have hres:(Sort.pdq BU d 0 o.length (Sort.bitsLen o.length) true true).toList=Sx o:=by
  rw[hds]at hS;obtain⟨⟨s1,_,s3⟩,s4⟩:=hS;refine ZN ho ?_ (by rw[s1,hds];exact s4);have e1:∀x:Array Sc,x.size=o.length->x.extract 0 o.length=x:=fun x hx=>by rw[<-hx];simp
  rw[e1 _ (by rw[s1,hds]),e1 _ hds,hdl]at s3;exact s3
 unfold PQs at hP;rw[show(Bm d v)=iE o v by unfold Bm;rw[hdl],show Bm (Sort.pdq BU d 0 o.length (Sort.bitsLen o.length) true true) v=iE (Sx o) v by unfold Bm;rw[hres]]at hP;refine Ao Gg iS (Ab Bo (Ab EI Ah)) (Ay Ah) fun w0 I0 M0 m0=>?_;have e1:u64.wrap (o.length:Int)=(o.length:Int):=HB oF oF;have hL:=RH o.length oF;unfold Dt;simp[e1];refine Ag hL rfl ?_;simp;refine Ap 0 hP (fun p=>iS) iS iS ?_;simp;exact AQ rfl rfl (fun p=>iS)
@[simp]theorem Ae7{x:Sc}:(ct x).take 2=iz x:=rfl
theorem mL{all:List Sc}:∀(m:Nat)(l junk o:List Sc)(v:Nat),l.length=m->l.length<=300->o.length+l.length<=300->M9 l l.length->(∀y,y∈all->y∈l\/Ho o y=false)->(∀y,y∈l->y∈all) ->
  ∃o',MY all o o'/\∀{n0:Nat} {w0:World} {I0:Nat->Prop} {Q:Exit->Sta->Prop} (u:Nat) (H:Hp),(∀p,H (0::p)=(Ly l junk v).F 0 p)->(∀p,H (2::p)=(iE o u).F 2 p) ->
   (∀(H':Hp)(u':Nat)(st:List (Nat × A)),(∀p,H' (2::p)=(iE o' u').F 2 p)->Q (.exit 4) ⟨lk ([(3,iB 0),(8,xv o' u' 2)]++st),H'⟩) ->
   LoopC (cx Tryz.prog w0 I0 n0) Hw Q ⟨lk [(3,iB 0),(8,xv o u 2)],H⟩:=by
 intro m;induction m with
 |zero=>
  intro l junk o v hm hl hol hh hall hsub;have:l=[]:=List.eq_nil_of_length_eq_zero hm;subst this;have hdone:∀y,y∈all->Ho o y=false:=fun y hy=>by
   rcases hall y hy with h|h
   ·simp at h
   ·exact h
  refine⟨o,.done hdone,fun {n0 w0 I0 Q} u H hH hG hq=>?_⟩;have hL:=OW [] junk v iS;have h0:=hH [];refine Ad Ai Hw.eq_1 ?_;simp[h0];refine Ap 0 hL hH iS iS ?_;simp;exact hq _ u [(51,bv false)] (fun p=>by simp[hG])
 |succ m ih=>
  intro l junk o v hm hl hol hh hall hsub;obtain⟨q1,q2,q3⟩:=AbJ (l:=l) oF hh;have hmin:∀y,y∈l->BE y (gt l 0)=false:=fun y hy=>by
   obtain⟨k,hk,rfl⟩:=List.getElem_of_mem hy;rw[<-AaL hk];exact vX hh k hk
  obtain⟨g1,g2⟩:=w6 q3 hmin hall hsub;have hP:=jY l junk v oF oF;have hL:=OW l junk v oF;have hlen:=Vn l;have hrl:((Ka l).take (l.length-1)).length=m:=by simp;omega
  have q1':(Ka l).getD (l.length-1) iy=gt l 0:=q1;rw[q1']at hP;have q2':M9 ((Ka l).take (l.length-1)) m:=fun k h1 h2=>q2 k h1 oF;clear q2;generalize gt l 0=x at hP g1 g2 q3 hmin;generalize (Ka l).take (l.length-1)=rest at hP hrl q2' q3 g1 g2;have q2:M9 rest rest.length:=fun k h1 h2=>q2' k h1 oF;have hsub':∀y,y∈rest->y∈all:=fun y hy=>hsub y (q3.subset (by simp[hy]));cases hf:Ho o x with
  |true=>
   obtain⟨b1,b2⟩:=g1 hf;obtain⟨o',p1,p2⟩:=ih rest (x::junk) (o++[x]) v hrl oF (by simp;omega) q2 b2 hsub';refine⟨o',.step b1 p1,fun {n0 w0 I0 Q} u H hH hG hq=>?_⟩;have hC:=Zo x o u oF;rw[hf]at hC;have h0:=hH [];simp only[AaV]at h0;refine Ad Ai Hw.eq_1 ?_;simp[h0];refine Ap 0 hL hH iS iS ?_;simp[show 0<l.length from oF];refine Ap 0 hP (fun p=>iS) iS iS ?_;simp[Aa,DE];have hG2:∀p,(ov 0 ((Ly rest (x::junk) v).F 0) (AK H [1] ⟨(H [1]).u+1,.cells (ct x)⟩):Hp) (2::p)=(iE o u).F 2 p:=fun p=>by simp[Aa,hG]
   refine Ap 2 hC hG2 iS iS ?_;have ht:(o.map K3).take o.length=o.map K3:=AO iS;simp[Aa,xP,ht,DE];refine⟨nZ,oF,?_⟩;refine LoopC.le (Ar [(3,iB 0),(8,xv (o++[x]) (u+1) 2)] iS) ?_;exact p2 (u+1) _ (fun p=>by simp[Aa]) (fun p=>by by_cases hp:p=[]<;>simp[hp,Aa]) hq
  |false=>
   obtain⟨o',p1,p2⟩:=ih rest (x::junk) o v hrl oF oF q2 (g2 hf) hsub';refine⟨o',p1,fun {n0 w0 I0 Q} u H hH hG hq=>?_⟩;have hC:=Zo x o u oF;rw[hf]at hC;have h0:=hH [];simp only[AaV]at h0;refine Ad Ai Hw.eq_1 ?_;simp[h0];refine Ap 0 hL hH iS iS ?_;simp[show 0<l.length from oF];refine Ap 0 hP (fun p=>iS) iS iS ?_;simp[Aa,DE];have hG2:∀p,(ov 0 ((Ly rest (x::junk) v).F 0) (AK H [1] ⟨(H [1]).u+1,.cells (ct x)⟩):Hp) (2::p)=(iE o u).F 2 p:=fun p=>by simp[Aa,hG]
   refine Ap 2 hC hG2 iS iS ?_;simp;refine LoopC.le (Ar [(3,iB 0),(8,xv o u 2)] iS) ?_;exact p2 u _ (fun p=>by simp[Aa]) (fun p=>iS) hq
end Go.Proofs.YtlaapfplenlfaaaGreat
namespace Go.PL
open List
def Hj(i:Nat):Nat->List Int->List Sc
 |_,[]=>[]
 |j,n::r=>if 0<n/\i<16/\j<16 then ⟨i,j,n⟩::Hj i (j+1) r else Hj i (j+1) r
def H8:Nat->List (List Int)->List Sc
 |_,[]=>[]
 |i,r::rs=>Hj i 0 r++H8 (i+1) rs
theorem Yh{i:Nat}:∀{r:List Int} {j:Nat},(Hj i j r).length<=16-j
 |[],j=>by simp[Hj]
 |n::r,j=>by
  have:=Yh (i:=i) (r:=r) (j:=j+1);unfold Hj;split
  ·simp;omega
  ·omega
theorem X7{i:Nat}(h:16<=i):∀{r:List Int} {j:Nat},Hj i j r=[]
 |[],j=>rfl
 |n::r,j=>by
  unfold Hj;rw[if_neg oF,X7 h]
theorem Sr:∀{rs:List (List Int)} {i:Nat},(H8 i rs).length<=(16-i)*16
 |[],i=>by simp[H8]
 |r::rs,i=>by
  have h1:=Sr (rs:=rs) (i:=i+1);have h2:=Yh (i:=i) (r:=r) (j:=0);unfold H8;rw[List.length_append];by_cases h:16<=i
  ·rw[X7 h];simp;omega
  ·omega
theorem fq{i:Nat}:∀{r:List Int} {j:Nat} {x:Sc},x∈Hj i j r->x.i=i/\i<16/\x.j<16/\j<=x.j/\x.j<j+r.length/\r[x.j-j]? = some x.n/\0<x.n
 |[],j,x,h=>by simp[Hj]at h
 |n::r,j,x,h=>by
  have ih:x∈Hj i (j+1) r->x.i=i/\i<16/\x.j<16/\j<=x.j/\x.j<j+(n::r).length/\(n::r)[x.j-j]? = some x.n/\0<x.n:=fun h=>by
   obtain⟨h1,h2,h3,h4,h5,h6,h7⟩:=fq h;refine⟨h1,h2,h3,oF,by simp;omega,?_,h7⟩;rw[show x.j-j=(x.j-(j+1))+1 by omega];simpa using h6
  unfold Hj at h;split at h
  ·rename_i hc;rcases List.mem_cons.1 h with rfl|h
   ·exact⟨rfl,hc.2.1,hc.2.2,CX _,iS,iS,hc.1⟩
   ·exact ih h
  ·exact ih h
end Go.PL
namespace Go.Proofs.YtlaapfplenlfaaaGreat
open Go Go.G Go.Proofs Go.PL
abbrev jT(l:List (List Int)):A:=.sl false (l.map Ge)
def HpI(H:Hp)(all:List Sc):Prop:=∃(l junk:List Sc)(v:Nat),(∀p,H (0::p)=(Ly l junk v).F 0 p)/\M9 l l.length/\List.Perm l all/\∀p,H (2::p)=⟨0,.none⟩
theorem zW{n0:Nat}{w0:World}{I0:Nat->Prop}{Q:Exit->Sta->Prop}{X:A}{N:Nat}{r:List Int}{i:Nat}(hr:r.length<=1000000):∀(m j:Nat)(all:List Sc)(H:Hp),r.length=j+m->all.length+(Hj i j (r.drop j)).length<=256->HpI H all ->
  (∀(H':Hp)(st:List (Nat × A)),HpI H' (all++Hj i j (r.drop j))->Q (.exit 2) ⟨lk ([(3,iB 0),(4,iv i),(12,X),(13,iv N),(14,iv i)]++st),H'⟩) ->
  LoopC (cx Tryz.prog w0 I0 n0) HQ Q ⟨lk [(3,iB 0),(4,iv i),(12,X),(13,iv N),(14,iv i),(19,Ge r),(20,iv r.length),(21,iv j)],H⟩:=by
 intro m;induction m with
 |zero=>
  intro j all H hm hl hI hq;refine Ad Ai HQ.eq_1 ?_;have:¬(j:Int)<r.length:=oF
  simp[this];have hd:r.drop j=[]:=List.drop_eq_nil_of_le oF;rw[hd]at hq;exact hq H [(19,Ge r),(20,iv r.length),(21,iv j),(22,bv false)] (by simpa[Hj]using hI)
 |succ m ih=>
  intro j all H hm hl hI hq;have hj:j<r.length:=oF
  have hd:r.drop j=r[j]::r.drop (j+1):=(List.getElem_cons_drop hj).symm;have e1:=AR j;rw[hd]at hl hq;unfold Hj at hl hq;refine Ad Ai HQ.eq_1 ?_;simp[hj,show(j:Int)<r.length by omega];have next:∀(all':List Sc)(H':Hp),all'.length+(Hj i (j+1) (r.drop (j+1))).length<=256->HpI H' all'->all'++Hj i (j+1) (r.drop (j+1))=all++(if 0<r[j]/\i<16/\j<16 then ⟨i,j,r[j]⟩::Hj i (j+1) (r.drop (j+1))else Hj i (j+1) (r.drop (j+1)))->LoopC (cx Tryz.prog w0 I0 n0) HQ Q ⟨lk [(3,iB 0),(4,iv i),(12,X),(13,iv N),(14,iv i),(19,Ge r),(20,iv r.length),(21,iv (j+1:Nat))],H'⟩:=fun all' H' hl' hI' he=>ih (j+1) all' H' oF hl' hI' (by rw[he];exact hq)
  by_cases h1:0<r[j]
  ·by_cases h2:i<16
   ·by_cases h3:j<16
    ·rw[if_pos ⟨h1,h2,h3⟩]at hl;obtain⟨l,junk,v,q1,q2,q3,q4⟩:=hI;have hll:=q3.length_eq;simp at hl;have hP:=cQ l junk v oF ⟨i,j,r[j]⟩;obtain⟨g1,g2⟩:=nQ q2 ⟨i,j,r[j]⟩;simp[h1,show(i:Int)<16 by omega,show(j:Int)<16 by omega];refine⟨?_,fun h=>oF⟩;refine Ap 0 hP q1 (by simp[OZ,ct]) iS ?_;simp[e1];refine next (all++[⟨i,j,r[j]⟩]) _ (by simp;omega) ⟨qm (l.length+1) (l++[⟨i,j,r[j]⟩]) l.length,[],v+1,fun p=>iS,?_,?_,fun p=>by simp[q4]⟩ (by rw[if_pos ⟨h1,h2,h3⟩];simp)
     ·rw[aV];simpa using g1
     ·exact g2.trans ((q3.cons _).trans (List.perm_append_singleton _ _).symm)
    ·have:¬(j:Int)<16:=oF
     simp[h1,show(i:Int)<16 by omega,this,e1];intro _;refine next all H (by rw[if_neg oF]at hl;exact hl) hI (by rw[if_neg oF])
   ·have:¬(i:Int)<16:=oF
    simp[h1,this,e1];refine next all H (by rw[if_neg oF]at hl;exact hl) hI (by rw[if_neg oF])
  ·simp[h1,e1];refine next all H (by rw[if_neg oF]at hl;exact hl) hI (by rw[if_neg oF])
theorem yX{n0:Nat}{w0:World}{I0:Nat->Prop}{Q:Exit->Sta->Prop}{rs:List (List Int)}(hrs:rs.length<=1000000)(hr:∀r,r∈rs->r.length<=1000000):∀(m i:Nat)(all:List Sc)(H:Hp),rs.length=i+m->all.length+(H8 i (rs.drop i)).length<=256->HpI H all ->
  (∀(H':Hp)(st:List (Nat × A)),HpI H' (all++H8 i (rs.drop i))->Q (.exit 0) ⟨lk ([(3,iB 0)]++st),H'⟩) ->
  LoopC (cx Tryz.prog w0 I0 n0) JP Q ⟨lk [(3,iB 0),(12,jT rs),(13,iv rs.length),(14,iv i)],H⟩:=by
 intro m;induction m with
 |zero=>
  intro i all H hm hl hI hq;refine Ad Ai JP.eq_1 ?_;have:¬(i:Int)<rs.length:=oF
  simp[this];have hd:rs.drop i=[]:=List.drop_eq_nil_of_le oF;rw[hd]at hq;exact hq H [(12,jT rs),(13,iv rs.length),(14,iv i),(15,bv false)] (by simpa[H8]using hI)
 |succ m ih=>
  intro i all H hm hl hI hq;have hj:i<rs.length:=oF
  have hd:rs.drop i=rs[i]::rs.drop (i+1):=(List.getElem_cons_drop hj).symm;have e1:=AR i;have hri:=hr rs[i] (De hj);rw[hd]at hl hq;unfold H8 at hl hq;rw[List.length_append]at hl;refine Ad Ai JP.eq_1 ?_;simp[hj,show(i:Int)<rs.length by omega];refine LoopC.le (Ar [(3,iB 0),(4,iv i),(12,jT rs),(13,iv rs.length),(14,iv i),(19,Ge rs[i]),(20,iv rs[i].length),(21,iv (0:Nat))] iS) ?_;refine zW hri rs[i].length 0 all H oF (by simp;omega) hI fun H' st hI'=>?_;simp[e1];refine ih (i+1) _ H' oF ?_ (by simpa using hI') fun H2 st2 hI2=>?_
  ·simp;omega
  ·refine hq H2 st2 (by simpa using hI2)
theorem fJ:∀all:List Sc,∃l,M9 l l.length/\List.Perm l all
 |[]=>⟨[],fun k _ h=>by simp at h,List.Perm.refl _⟩
 |x::all=>by
  obtain⟨l,h1,h2⟩:=fJ all;obtain⟨g1,g2⟩:=nQ h1 x;exact⟨_,by rw[aV];simpa using g1,g2.trans (h2.cons x)⟩
theorem qB{all:List Sc}(h:all.length<=300):∃o',MY all [] o':=by
 obtain⟨l,h1,h2⟩:=fJ all;have:=h2.length_eq;obtain⟨o',h3,_⟩:=mL (all:=all) l.length l [] [] 0 rfl oF (by simp;omega) h1 (fun y hy=>.inl (h2.symm.subset hy)) (fun y hy=>h2.subset hy);exact⟨o',h3⟩
theorem Hf{rs:List (List Int)}{o':List Sc}(h:MY (H8 0 rs) [] o'):FC o'/\(∀x,x∈o'->x∈H8 0 rs):=iu h (by simp[FC]) iS
theorem pR(rs:List (List Int))(hrs:rs.length<=1000000)(hr:∀r,r∈rs->r.length<=1000000){o':List Sc}(ho:MY (H8 0 rs) [] o')(hl16:o'.length<=16):G.Spec Tryz.prog 185 [jT rs] (.sl false ((Sx o').map K3)):=by
 obtain⟨hap,_⟩:=Hf ho;have hcl:=Sr (rs:=rs) (i:=0);refine Ak gZ iS fun w0 I0=>?_;unfold Ue;simp;refine LoopC.le (BO (d:=[0]) (u:=1) (cs:=[.sl true []]) 0 [0,0] 3 rfl rfl iS) ?_;simp;refine LoopC.le (Ar [(3,iB 0),(12,jT rs),(13,iv rs.length),(14,iv (0:Nat))] iS) ?_;refine yX hrs hr rs.length 0 [] _ oF (by simpa using hcl) ⟨[],[],1,fun p=>?_,fun k _ h=>by simp at h,List.Perm.refl _,fun p=>iS⟩ fun H' st hI=>?_
 ·by_cases h1:p=[]
  ·subst h1;simp
  ·by_cases h2:p=[0]
   ·subst h2;simp
   ·simp[h1,h2,Ne.symm h1,Ne.symm h2]
 ·obtain⟨l,junk,v,q1,q2,q3,q4⟩:=hI;simp only[List.nil_append,List.drop_zero]at q3;have hll:=q3.length_eq;simp;refine LoopC.le (F0 8 [2] 2 iS) ?_;obtain⟨o2,p1,p2⟩:=mL (all:=H8 0 rs) l.length l junk [] v rfl oF (by simp;omega) q2 (fun y hy=>.inl (q3.symm.subset hy)) (fun y hy=>q3.subset hy);have:=pX p1 ho;subst this;refine LoopC.le (Ar [(3,iB 0),(8,xv [] ((H' [2]).u+1) 2)] iS) ?_;refine p2 _ _ (fun p=>by simp[Aa,q1]) (fun p=>?_) fun H2 u2 st2 hG=>?_
  ·by_cases h1:p=[]<;>simp[h1,Aa,q4]
  ·have hS:=i6 hap hl16 u2;simp;refine Ap 2 hS hG iS iS ?_;simp;have hsl:(Sx o2).length=o2.length:=(QJ hap).2.length_eq;have:=cJ (H:=ov 2 ((iE (Sx o2) u2).F 2) H2) (o:=[2]) (u:=u2) (sz:=2) (l:=Sx o2) (f:=K3) (n:=o2.length) iS oF (by intro x;rfl);rw[AO oF]at this;exact this
end Go.Proofs.YtlaapfplenlfaaaGreat
namespace Go.Proofs.YtlaapfplenlfaaaGreat
set_option maxRecDepth 20000
open Go Go.G Go.Proofs
@[simp]theorem AjX:DT Tryz.prog 159=some 1:=by kernel_rfl
@[simp]theorem Ajl:DT Tryz.prog 164=some 2:=by kernel_rfl
@[simp]theorem AiP:DT Tryz.prog 190=some 2:=by kernel_rfl
@[simp]theorem AhX:D6 Tryz.prog 159=some false:=by kernel_rfl
@[simp]theorem Ahp:D6 Tryz.prog 164=some true:=by kernel_rfl
@[simp]theorem Ae9:D6 Tryz.prog 190=some true:=by kernel_rfl
@[simp]theorem AdN:BQ Tryz.prog 159=some (Value.slice none 0 0):=by kernel_rfl
@[simp]theorem Aed:BQ Tryz.prog 164=some (Value.agg #[Value.int i64 0,Value.int i64 0]):=by kernel_rfl
@[simp]theorem Adq:BQ Tryz.prog 190=some (Value.agg #[Value.int i64 0,Value.int i64 0]):=by kernel_rfl
@[simp]theorem Ad5:BQ Tryz.prog 209=some (Value.agg #[Value.int i64 0,Value.int i64 0,Value.int i64 0]):=by kernel_rfl
@[simp]theorem AbQ:Cc Tryz.prog 164=some 16:=by kernel_rfl
@[simp]theorem Acd:Cc Tryz.prog 190=some 16:=by kernel_rfl
@[simp]theorem q8:Aj Tryz.prog 164 0=some 0:=by kernel_rfl
@[simp]theorem qY:Aj Tryz.prog 164 1=some 1:=by kernel_rfl
@[simp]theorem ru:Aj Tryz.prog 190 0=some 0:=by kernel_rfl
@[simp]theorem rh:Aj Tryz.prog 190 1=some 1:=by kernel_rfl
@[simp]theorem qZ:Aj Tryz.prog 207 0=some 0:=by kernel_rfl
@[simp]theorem AbK(ps:List (Nat × A)):Cz Tryz.prog 164 ps=(Dm (fun i=>([(0,1),(1,1)]:List (Nat × Nat))[i]?) [iv 0,iv 0] ps).map A.agg:=by kernel_rfl
@[simp]theorem AcG(ps:List (Nat × A)):Cz Tryz.prog 190 ps=(Dm (fun i=>([(0,1),(1,1)]:List (Nat × Nat))[i]?) [iv 0,iv 0] ps).map A.agg:=by kernel_rfl
@[simp]theorem Ab9(ps:List (Nat × A)):Cz Tryz.prog 207 ps=(Dm (fun i=>([(0,1)]:List (Nat × Nat))[i]?) [A.sl true []] ps).map A.agg:=by kernel_rfl
def Tp:CC:=sR [aI 8 0] [0,1,2,3] (.seq (.block 0 (sR [mO 10 2,mO 11 10,mG 12 3 11 true,pF 13 11 12,aO 9 13] [0,1,2,3,9] (cD 9 (sR [aI 8 0] [8] (.ret)) (sR [mO 15 2,mO 16 15,mG 17 3 16 false,oG 18 (.unOp .not 4 (xT 17)) 16 false,mG 19 18 16 false,mG 20 0 19 true,mG 21 1 19 true,oG 22 (.binOp .sub 3 (xT 21) (nI 1) 3) 19 true,oG 23 (iA 157 20 22) 19 true,lG 24 3 23 19 true,mG 25 0 19 true,mG 26 1 19 true,oG 27 (.binOp .add 3 (xT 26) (nI 1) 3) 19 true,oG 28 (iA 157 25 27) 19 true,lG 29 3 28 19 true,oG 30 (bO .lss 3 24 29 3) 19 true,oG 31 (.pick (xT 19) (xT 30) (nB false)) 16 false,pT 32 16 31,aO 14 32] [0,1,14] (cD 14 (sR [mO 33 0,mO 34 1,bQ .add 35 3 34 1 3,iO 36 157 33 35,lO 37 3 36,aO 8 37] [8] (.ret)) (.skip)))))) (.keep [0,1] (sR [mO 38 0,mO 39 1,bQ .sub 40 3 39 1 3,iO 41 157 38 40,lO 42 3 41,bQ .add 43 3 42 1 3,aO 8 43] [8] (.ret))))
theorem eE:BT Tryz.prog 179 44 [(.tmp 8)] Tp:=AA Tryz.func179
def GV:CC:=sQ [mO 73 13,mO 74 8,bB .lss 75 3 73 74 3,mO 76 75,mG 77 14 76 true,mG 78 9 76 true,oG 79 (bO .lss 3 77 78 3) 76 true,pF 80 76 79,mO 81 80,mG 82 13 81 true,oG 83 (.binOp .geq 3 (xT 82) (nI 0) 3) 81 true,pF 84 81 83,mO 85 84,mG 86 14 85 true,oG 87 (.binOp .geq 3 (xT 86) (nI 0) 3) 85 true,pF 88 85 87,mO 89 88,mG 90 0 89 true,mG 91 13 89 true,oG 92 (iA 157 90 91) 89 true,lG 93 3 92 89 true,mG 94 1 89 true,mG 95 14 89 true,oG 96 (iA 157 94 95) 89 true,lG 97 3 96 89 true,oG 98 (bO .eql 3 93 97 3) 89 true,pF 99 89 98] [0,1,2,8,9,10,11,12,13,14,99] (cD 99 (.skip) (.exit 4)) [0,1,2,8,9,10,11,12,13,14] (.block 5 (.reg [mO 100 13,bQ .add 101 3 100 1 3,mO 102 14,bQ .add 103 3 102 1 3,aO 13 101,aO 14 103] [0,1,2,8,9,10,11,12,13,14]))
def GU:CC:=sQ [mO 52 12,mO 53 11,bB .leq 54 3 52 53 3] [0,1,2,8,9,10,11,12,54] (cD 54 (.skip) (.exit 2)) [0,1,2,8,9,10,11,12] (.seq (.block 3 (sR [mO 57 10,mO 58 2,bQ .add 59 3 58 1 3,mO 60 12,bB .add 61 3 59 60 3,mO 62 12,mO 63 11,oO 64 (.unOp .neg 3 (xT 63)),bB .eql 65 3 62 64 3,mO 66 12,mO 67 11,bB .eql 68 3 66 67 3,oO 69 (cL 179 #[(xT 57),(xT 61),(xT 65),(xT 68)] #[157,3,4,4]),aO 13 69] [0,1,2,8,9,10,11,12,13] (sR [mO 70 13,mO 71 12,bB .sub 72 3 70 71 3,aO 14 72] [0,1,2,8,9,10,11,12,13,14] (.seq (.block 4 (.loop GV)) (.keep [0,1,2,8,9,10,11,12,13,14] (sR [mO 104 10,mO 105 2,bQ .add 106 3 105 1 3,mO 107 12,bB .add 108 3 106 107 3,mO 109 13,iO 110 157 104 108,sT 3 110 109] [0,1,2,8,9,10,11,12,13,14] (sR [mO 111 13,mO 112 8,bB .geq 113 3 111 112 3,mO 114 113,mG 115 14 114 true,mG 116 9 114 true,oG 117 (bO .geq 3 115 116 3) 114 true,pF 118 114 117] [0,1,2,8,9,10,11,12,118] (cD 118 (sR [mO 119 11,aO 6 119,aB 7 true] [6,7] (.ret)) (.skip))))))))) (.keep [0,1,2,8,9,10,11,12] (.reg [mO 55 12,bQ .add 56 3 55 2 3,aO 12 56] [0,1,2,8,9,10,11,12])))
def GQ:CC:=sQ [mO 45 11,mO 46 2,bB .leq 47 3 45 46 3] [0,1,2,8,9,10,11,47] (cD 47 (.skip) (.exit 0)) [0,1,2,8,9,10,11] (.seq (.block 1 (sR [mO 50 11,oO 51 (.unOp .neg 3 (xT 50)),aO 12 51] [0,1,2,8,9,10,11,12] (.block 2 (.loop GU)))) (.keep [0,1,2,8,9,10,11] (.reg [mO 48 11,bQ .add 49 3 48 1 3,aO 11 49] [0,1,2,8,9,10,11]))) 
def NN:CC:=sR [aI 6 0,aB 7 false] [0,1,2] (sR [mO 15 0,bN 16 15 157,mO 17 1,bN 18 17 157,aO 8 16,aO 9 18] [0,1,2,8,9] (sR [mO 19 2,oO 20 (bC .max #[(xT 19),(.const (.int .i64 (-1)))] #[3,3]),mO 21 8,mO 22 9,bB .add 23 3 21 22 3,oO 24 (bC .min #[(xT 20),(xT 23)] #[3,3]),aO 2 24] [0,1,2,8,9] (sQ [mO 25 2,bQ .lss 26 3 25 0 3,mO 27 26,mG 28 8 27 false,mG 29 9 27 false,oG 30 (bO .sub 3 28 29 3) 27 false,mG 31 2 27 false,oG 32 (bO .gtr 3 30 31 3) 27 false,pT 33 27 32,mO 34 33,mG 35 9 34 false,mG 36 8 34 false,oG 37 (bO .sub 3 35 36 3) 34 false,mG 38 2 34 false,oG 39 (bO .gtr 3 37 38 3) 34 false,pT 40 34 39] [0,1,2,8,9,40] (cD 40 (sR [aI 6 0,aB 7 false] [6,7] (.ret)) (.skip)) [0,1,2,8,9] (sR [mO 41 2,oO 42 (.binOp .mul 3 (nI 2) (xT 41) 3),bQ .add 43 3 42 3 3,oN 44 (.makeSlice 157 (xT 43) (xT 43)) [0],aO 10 44] [0,1,2,8,9,10] (sQ [aI 11 0] [0,1,2,8,9,10,11] (.block 0 (.loop GQ)) [] (sR [aI 6 0,aB 7 false] [6,7] (.ret)))))))
theorem VU:BT Tryz.prog 156 120 [(.tmp 6),(.tmp 7)] NN:=AA Tryz.func156
def Qq:CC:=.reg [mO 43 5,mO 44 9,bQ .add 45 3 44 1 3,mO 46 5,mO 47 9,bQ .add 48 3 47 1 3,iO 49 157 46 48,lO 50 3 49,mO 51 5,mO 52 9,iO 53 157 51 52,lO 54 3 53,oO 55 (bC .max #[(xT 50),(xT 54)] #[3,3]),mO 56 11,iO 57 157 43 45,sT 3 57 55,aO 8 56] [1,5,7,8,16,17,18,22,23,24]
def Kb:CC:=sR [bB .lss 25 3 24 23 3] [1,5,7,8,16,17,18,22,23,24,25] (.seq (cD 25 (.skip) (.exit 2)) (.keep [1,5,7,8,16,17,18,22,23,24] (.seq (.block 3 (sR [mO 26 24,iO 27 157 22 24,lO 28 3 27,aO 9 26,aO 10 28] [1,5,7,8,9,10,16,17,18,22,23,24] (sR [mO 29 5,mO 30 9,bQ .add 31 3 30 1 3,iO 32 157 29 31,lO 33 3 32,aO 11 33] [1,5,7,8,9,10,11,16,17,18,22,23,24] (sQ [mO 34 7,mO 35 10,bB .eql 36 3 34 35 3] [1,5,7,8,9,11,16,17,18,22,23,24,36] (cD 36 (.reg [mO 37 5,mO 38 9,bQ .add 39 3 38 1 3,mO 40 8,bQ .add 41 3 40 1 3,iO 42 157 37 39,sT 3 42 41] [1,5,7,9,11,16,17,18,22,23,24]) (.skip)) [1,5,7,9,11,16,17,18,22,23,24] Qq)))) (.keep [1,5,7,8,16,17,18,22,23,24] (.reg [bQ .add 58 3 24 1 3,mO 24 58] [1,5,7,8,16,17,18,22,23,24])))))
def MO:CC:=sR [bB .lss 19 3 18 17 3] [1,5,16,17,18,19] (.seq (cD 19 (.skip) (.exit 0)) (.keep [1,5,16,17,18] (.seq (.block 1 (sR [iO 20 157 16 18,lO 21 3 20,aO 7 21] [1,5,7,16,17,18] (sR [aI 8 0] [1,5,7,8,16,17,18] (sR [mO 22 1,bN 23 22 157,oO 24 (.move (nI 0))] [1,5,7,8,16,17,18,22,23,24] (.block 2 (.loop Kb)))))) (.keep [1,5,16,17,18] (.reg [bQ .add 59 3 18 1 3,mO 18 59] [1,5,16,17,18]))))) 
def Yr:CC:=sR [aN 4] [0,1] (sR [mO 12 1,bN 13 12 157,bQ .add 14 3 13 1 3,oN 15 (.makeSlice 157 (xT 14) (xT 14)) [0],aO 5 15] [0,1,5] (sQ [mO 16 0,bN 17 16 157,oO 18 (.move (nI 0))] [1,5,16,17,18] (.block 0 (.loop MO)) [5] (sR [mO 60 5,aO 4 60] [4] (.ret))))
theorem pA:BT Tryz.prog 191 61 [(.tmp 4)] Yr:=AA Tryz.func191
def Iz:CC:=sR [bB .lss 12 3 11 10 3] [0,3,9,10,11,12] (.seq (cD 12 (.skip) (.exit 0)) (.keep [0,3,9,10,11] (.seq (.block 1 (sR [mO 13 11,iO 14 157 9 11,lO 15 3 14,aO 4 13,aO 5 15] [0,3,4,5,9,10,11] (.reg [mO 16 3,mO 17 0,bN 18 17 157,bQ .sub 19 3 18 1 3,mO 20 4,bB .sub 21 3 19 20 3,mO 22 5,iO 23 157 16 21,sT 3 23 22] [0,3,9,10,11]))) (.reg [bQ .add 24 3 11 1 3,mO 11 24] [0,3,9,10,11])))) 
def RN:CC:=sR [aN 2] [0] (sR [mO 6 0,bN 7 6 157,oN 8 (.makeSlice 157 (xT 7) (xT 7)) [0],aO 3 8] [0,3] (sQ [mO 9 0,bN 10 9 157,oO 11 (.move (nI 0))] [0,3,9,10,11] (.block 0 (.loop Iz)) [3] (sR [mO 25 3,aO 2 25] [2] (.ret))))
theorem af:BT Tryz.prog 192 26 [(.tmp 2)] RN:=AA Tryz.func192
def JO:CC:=sR [bB .lss 26 3 25 24 3] [1,7,8,9,24,25,26] (.seq (cD 26 (.skip) (.exit 0)) (.keep [1,7,8,9,24,25] (.seq (.block 1 (sR [mO 27 25,aO 10 27] [1,7,8,9,10,24,25] (sR [mO 28 7,mO 29 10,iO 30 157 28 29,lO 31 3 30,mO 32 8,mO 33 1,bN 34 33 157,mO 35 10,bB .sub 36 3 34 35 3,iO 37 157 32 36,lO 38 3 37,bB .add 39 3 31 38 3,mO 40 7,mO 41 9,iO 42 157 40 41,lO 43 3 42,mO 44 8,mO 45 1,bN 46 45 157,mO 47 9,bB .sub 48 3 46 47 3,iO 49 157 44 48,lO 50 3 49,bB .add 51 3 43 50 3,bB .gtr 52 3 39 51 3] [1,7,8,9,10,24,25,52] (cD 52 (.reg [mO 53 10,aO 9 53] [1,7,8,9,24,25]) (.skip))))) (.keep [1,7,8,9,24,25] (.reg [bQ .add 54 3 25 1 3,mO 25 54] [1,7,8,9,24,25]))))) 
def TS:CC:=sR [aI 6 0] [0,1,2] (sR [mO 11 0,mO 12 2,oO 13 (.slice 157 (xT 11) none (some (xT 12)) none),mO 14 1,cB 15 191 13 14 157 157,mO 16 0,mO 17 2,oO 18 (.slice 157 (xT 16) (some (xT 17)) none none),cA 19 192 18 157,mO 20 1,cA 21 192 20 157,cB 22 191 19 21 157 157,aO 7 15,aO 8 22] [1,7,8] (sR [aI 9 0] [1,7,8,9] (sQ [mO 23 7,bN 24 23 157,oO 25 (.move (nI 0))] [1,7,8,9,24,25] (.block 0 (.loop JO)) [9] (sR [mO 55 9,aO 6 55] [6] (.ret)))))
theorem fD:BT Tryz.prog 182 56 [(.tmp 6)] TS:=AA Tryz.func182
def L7:CC:=sR [mO 6 2,bQ .gtr 7 3 6 0 3] [0,1,2,7] (cD 7 (.reg [mO 8 0,mO 9 0,nC 10 9,fO 11 207 10 0,lO 12 159 11,mO 13 1,mO 14 2,oO 15 (.build 164 #[(0,(xT 13)),(1,(xT 14))]),oO 16 (.buildSlice 159 1 #[(0,(xT 15))]),aP 17 12 16 159 159 [1],nC 18 8,fO 19 207 18 0,sT 159 19 17] []) (.skip))
theorem SW:BT Tryz.prog 180 20 [] L7:=AA Tryz.func180
def FI:CC:=sR [bB .lss 11 3 10 9 3] [0,1,2,8,9,10,11] (.seq (cD 11 (.skip) (.exit 0)) (.keep [0,1,2,8,9,10] (.seq (.block 1 (sR [mO 12 10,iO 13 157 8 10,lO 14 3 13,aO 6 12,aO 7 14] [0,1,2,6,7,8,9,10] (sR [mO 15 1,mO 16 7,bB .eql 17 3 15 16 3] [0,1,2,6,8,9,10,17] (cD 17 (sR [mO 18 0,mO 19 6,oO 20 (cL 180 #[(xT 18),(nI 2),(xT 19)] #[205,3,3])] [0,2,6] (sR [mO 21 0,oO 22 (cL 180 #[(xT 21),(nI 0),(nI 1)] #[205,3,3])] [0,2,6] (sR [mO 23 0,mO 24 2,bN 25 24 157,mO 26 6,bB .sub 27 3 25 26 3,bQ .sub 28 3 27 1 3,oO 29 (cL 180 #[(xT 23),(nI 2),(xT 28)] #[205,3,3])] [] (.ret)))) (.skip))))) (.keep [0,1,2,8,9,10] (.reg [bQ .add 30 3 10 1 3,mO 10 30] [0,1,2,8,9,10]))))) 
def L5:CC:=sQ [mO 8 2,bN 9 8 157,oO 10 (.move (nI 0))] [0,1,2,8,9,10] (.block 0 (.loop FI)) [0,2] (sR [mO 31 0,oO 32 (cL 180 #[(xT 31),(nI 1),(nI 1)] #[205,3,3])] [0,2] (.reg [mO 33 0,mO 34 2,bN 35 34 157,oO 36 (cL 180 #[(xT 33),(nI 2),(xT 35)] #[205,3,3])] []))
theorem SY:BT Tryz.prog 181 37 [] L5:=AA Tryz.func181
def Eg:CC:=.block 0 (sR [mO 32 1,bN 33 32 157,bQ .eql 34 3 33 0 3,mO 35 34,mG 36 2 35 false,oG 37 (bL 36 157) 35 false,oG 38 (.binOp .eql 3 (xT 37) (nI 0) 3) 35 false,pT 39 35 38,aO 31 39] [0,1,2,31] (cD 31 (sR [mO 40 0,mO 41 1,bN 42 41 157,oO 43 (cL 180 #[(xT 40),(nI 1),(xT 42)] #[205,3,3])] [0,2] (.reg [mO 44 0,mO 45 2,bN 46 45 157,oO 47 (cL 180 #[(xT 44),(nI 2),(xT 46)] #[205,3,3])] [])) (sR [mO 49 1,bN 50 49 157,bQ .eql 51 3 50 1 3,aO 48 51] [0,1,2,48] (cD 48 (.reg [mO 52 0,mO 53 1,oO 54 (.indexAddr 157 (xT 53) (nI 0)),lO 55 3 54,mO 56 2,cE 57 181 52 55 56 205 3 157] []) (sR [mO 8 1,bN 9 8 157,bQ .quo 10 3 9 2 3,aO 6 10] [0,1,2,6] (sR [mO 11 1,mO 12 2,mO 13 6,cE 14 182 11 12 13 157 157 3,aO 7 14] [0,1,2,6,7] (sR [mO 15 0,mO 16 1,mO 17 6,oO 18 (.slice 157 (xT 16) none (some (xT 17)) none),mO 19 2,mO 20 7,oO 21 (.slice 157 (xT 19) none (some (xT 20)) none),cE 22 157 15 18 21 205 157 157] [0,1,2,6,7] (.reg [mO 23 0,mO 24 1,mO 25 6,oO 26 (.slice 157 (xT 24) (some (xT 25)) none none),mO 27 2,mO 28 7,oO 29 (.slice 157 (xT 27) (some (xT 28)) none none),cE 30 157 23 26 29 205 157 157] []))))))))
theorem FF:BT Tryz.prog 157 58 [] Eg:=AA Tryz.func157
def Jx:CC:=sR [bX 1 164 0 [0],aB 2 false] [1] (sR [fO 3 164 1 0,lO 4 3 3,bQ .geq 5 3 4 0 3,mO 6 5,fG 7 164 1 0 6 true,lG 8 3 7 6 true,oG 9 (.binOp .leq 3 (xT 8) (nI 2) 3) 6 true,pF 10 6 9,mO 11 10,fG 12 164 1 1 11 true,lG 13 3 12 11 true,oG 14 (.binOp .geq 3 (xT 13) (nI 1) 3) 11 true,pF 15 11 14,mO 16 15,fG 17 164 1 1 16 true,lG 18 3 17 16 true,oG 19 (.binOp .leq 3 (xT 18) (nI 1048576) 3) 16 true,pF 20 16 19,aO 2 20] [2] (.ret))
theorem Pd:BT Tryz.prog 159 21 [(.tmp 2)] Jx:=AA Tryz.func159
def E9:CC:=sR [bB .lss 9 3 8 7 3] [1,2,6,7,8,9] (.seq (cD 9 (.skip) (.exit 0)) (.keep [1,2,6,7,8] (.seq (.block 1 (sR [iO 10 157 6 8,lO 11 3 10,aO 5 11] [1,2,5,6,7,8] (sQ [mO 12 5,iO 13 209 1 12,lO 14 3 13,bQ .gtr 15 3 14 0 3] [1,2,5,6,7,8,15] (cD 15 (.reg [lS 16 159 2 0,mO 17 5,mO 18 5,iO 19 209 1 18,lO 20 3 19,oO 21 (.build 164 #[(0,(xT 17)),(1,(xT 20))]),⟨some 22,(.buildSlice 159 1 #[(0,(xT 21))]),none,[],6,[0],false⟩,aP 23 16 22 159 159 [1],sT 159 2 23] [1,2,5,6,7,8]) (.skip)) [1,2,5,6,7,8] (.reg [mO 24 5,iO 25 209 1 24,oS (.store 3 (xT 25) (nI 0))] [1,2,6,7,8])))) (.keep [1,2,6,7,8] (.reg [bQ .add 26 3 8 1 3,mO 8 26] [1,2,6,7,8]))))) 
def Kx:CC:=sR [mO 6 0,bN 7 6 157,oO 8 (.move (nI 0))] [1,2,6,7,8] (.block 0 (.loop E9))
theorem RA:BT Tryz.prog 158 27 [] Kx:=AA Tryz.func158
def Gm:CC:=.reg [fO 29 164 7 0,lO 30 3 29,iO 31 209 4 30,lO 32 3 31,fO 33 164 7 1,lO 34 3 33,bB .add 35 3 32 34 3,iO 36 209 4 30,sT 3 36 35] [3,4,5,9,10,11]
def ED:CC:=sR [bB .lss 12 3 11 10 3] [3,4,5,9,10,11,12] (.seq (cD 12 (.skip) (.exit 0)) (.keep [3,4,5,9,10,11] (.seq (.block 1 (sR [iO 13 159 9 11,lO 14 164 13,aL 7 164 [2],sT 164 7 14] [3,4,5,7,9,10,11] (.seq (.block 2 (sR [lO 19 164 7,cA 20 159 19 164,oO 21 (.unOp .not 4 (xT 20)),aO 18 21] [3,4,5,7,9,10,11,18] (cD 18 (.exit 1) (sR [fO 23 164 7 0,lO 24 3 23,bQ .eql 25 3 24 0 3,aO 22 25] [3,4,5,7,9,10,11,22] (cD 22 (.reg [mO 26 5,oO 27 (.buildSlice 157 2 #[(0,(nI 1)),(1,(nI 2))]),oO 28 (.call { callee:=(.value (xT 26)),args:=#[(xT 27)],argTypes:=#[157] })] [3,4,5,7,9,10,11]) (.reg [mO 15 5,oO 16 (.buildSlice 157 1 #[(0,(nI 0))]),oO 17 (.call { callee:=(.value (xT 15)),args:=#[(xT 16)],argTypes:=#[157] })] [3,4,5,7,9,10,11])))))) (.keep [3,4,5,7,9,10,11] Gm)))) (.keep [3,4,5,9,10,11] (.reg [bQ .add 37 3 11 1 3,mO 11 37] [3,4,5,9,10,11]))))) 
def MV:CC:=sR [aN 2] [0] (sR [aL 3 159 [0]] [0,3] (sR [aL 4 209 [0,1]] [0,3,4] (sR [oO 8 (.makeFunc (.func 158) #[] #[(xT 4),(xT 3)]),aO 5 8] [0,3,4,5] (sQ [mO 9 0,bN 10 9 159,oO 11 (.move (nI 0))] [3,4,5,9,10,11] (.block 0 (.loop ED)) [3,5] (sR [mO 38 5,oO 39 (.buildSlice 157 3 #[(0,(nI 0)),(1,(nI 1)),(2,(nI 2))]),oO 40 (.call { callee:=(.value (xT 38)),args:=#[(xT 39)],argTypes:=#[157] })] [3] (sR [lO 41 159 3,aO 2 41] [2] (.ret)))))))
theorem Uq:BT Tryz.prog 122 42 [(.tmp 2)] MV:=AA Tryz.func122
def Wp:CC:=sR [aN 6,aB 7 false] [0,1,2] (sQ [mO 12 0,mO 13 1,mO 14 2,cE 15 156 12 13 14 157 157 3,mO 11 15,xO 16 11 0,xO 17 11 1,aO 8 16,aO 9 17] [0,1,9] (sR [mO 18 9,oO 19 (.unOp .not 4 (xT 18))] [0,1,19] (cD 19 (sR [aN 6,aB 7 false] [6,7] (.ret)) (.skip))) [0,1] (sR [oO 20 (.build 207 #[]),bX 21 207 20 [0],aO 10 21] [0,1,10] (.stop (sR [mO 22 10,mO 23 0,mO 24 1,cE 25 157 22 23 24 205 157 157] [10] (sR [mO 26 10,nC 27 26,fO 28 207 27 0,lO 29 159 28,cA 30 122 29 159,aO 6 30,aB 7 true] [6,7] (.ret))))))
theorem kK:BT Tryz.prog 121 31 [(.tmp 6),(.tmp 7)] Wp:=AA Tryz.func121
end Go.Proofs.YtlaapfplenlfaaaGreat
namespace Go.PL
open List
def cq(x:Int):List Int->Option (List Int)
 |[]=>none
 |y::b=>if x=y then some b else cq x b
def AJ:List Int->List Int->Nat
 |[],_=>0
 |x::a,b=>max (AJ a b) (match cq x b with|some b'=>AJ a b'+1|none=>0)
theorem l7{x:Int}{s:List Int}:∀{b:List Int},x::s <+ b->∃b',cq x b=some b'/\s <+ b'
 |[],h=>by cases h
 |y::b,h=>by
  unfold cq;by_cases e:x=y
  ·subst e;refine⟨b,iS,?_⟩;cases h with
   |cons _ h=>exact(List.sublist_cons_self x s).trans h
   |cons_cons _ h=>exact h
  ·rw[if_neg e];cases h with
   |cons _ h=>exact l7 h
   |cons_cons _ h=>exact absurd rfl e
theorem OG{x:Int}:∀{b b':List Int},cq x b=some b'->∃b0,b=b0++x::b'/\x∉b0
 |[],b',h=>by cases h
 |y::b,b',h=>by
  unfold cq at h;by_cases e:x=y
  ·rw[if_pos e]at h;cases h;exact⟨[],by simp[e],iS⟩
  ·rw[if_neg e]at h;obtain⟨b0,h1,h2⟩:=OG h;exact⟨y::b0,by simp[h1],by simp[e,h2]⟩
theorem fZ{x:Int}:∀{b:List Int},cq x b=none->x∉b
 |[],_=>iS
 |y::b,h=>by
  unfold cq at h;by_cases e:x=y
  ·rw[if_pos e]at h;cases h
  ·rw[if_neg e]at h;simp[e,fZ h]
theorem a8{x:Int}:∀{b0 b':List Int},x∉b0->cq x (b0++x::b')=some b'
 |[],b',_=>by simp[cq]
 |y::b0,b',h=>by
  simp at h;simp[cq,h.1,a8 h.2]
theorem IM:∀a b:List Int,∃s,s <+ a/\s <+ b/\s.length=AJ a b
 |[],b=>⟨[],iS,iS,rfl⟩
 |x::a,b=>by
  obtain⟨s,h1,h2,h3⟩:=IM a b;unfold AJ;cases e:cq x b with
  |none=>exact⟨s,h1.cons x,h2,by simp[h3]⟩
  |some b'=>
   obtain⟨t,g1,g2,g3⟩:=IM a b';simp only;by_cases hle:AJ a b<=AJ a b'+1
   ·obtain⟨b0,rfl,_⟩:=OG e;exact⟨x::t,g1.cons_cons x,(g2.cons_cons x).trans (List.sublist_append_right _ _),by simp;omega⟩
   ·exact⟨s,h1.cons x,h2,oF⟩
theorem Iy:∀{a b s:List Int},s <+ a->s <+ b->s.length<=AJ a b
 |[],b,s,h1,h2=>by
  have:=List.sublist_nil.1 h1;subst this;simp
 |x::a,b,s,h1,h2=>by
  unfold AJ;cases h1 with
  |cons _ h=>have:=Iy h h2;omega
  |@cons_cons s' _ _ h=>
   obtain⟨b',e,h3⟩:=l7 h2;have:=Iy h h3;rw[e];simp;omega
theorem AcF{a b:List Int}{n:Nat}(h1:∃s,s <+ a/\s <+ b/\s.length=n)(h2:∀s,s <+ a->s <+ b->s.length<=n):AJ a b=n:=by
 obtain⟨s,g1,g2,g3⟩:=h1;obtain⟨t,k1,k2,k3⟩:=IM a b;have:=Iy g1 g2;have:=h2 t k1 k2;omega
theorem Ky(a b:List Int):AJ a.reverse b.reverse=AJ a b:=by
 obtain⟨s,h1,h2,h3⟩:=IM a b;refine AcF ⟨s.reverse,h1.reverse,h2.reverse,by simpa using h3⟩ fun t g1 g2=>?_;have:=Iy (a:=a) (b:=b) (s:=t.reverse) (by simpa using g1.reverse) (by simpa using g2.reverse);simpa using this
theorem OH{a b a' b':List Int}(h1:a <+ a')(h2:b <+ b'):AJ a b<=AJ a' b':=by
 obtain⟨s,g1,g2,g3⟩:=IM a b;have:=Iy (g1.trans h1) (g2.trans h2);omega
theorem mX(a b a' b':List Int):AJ a b+AJ a' b'<=AJ (a++a') (b++b'):=by
 obtain⟨s,g1,g2,g3⟩:=IM a b;obtain⟨t,k1,k2,k3⟩:=IM a' b';have:=Iy (g1.append k1) (g2.append k2);simp at this;omega
theorem o8(a a' b:List Int):∃b1 b2,b=b1++b2/\AJ (a++a') b=AJ a b1+AJ a' b2:=by
 obtain⟨s,g1,g2,g3⟩:=IM (a++a') b;obtain⟨s1,s2,rfl,k1,k2⟩:=List.sublist_append_iff.1 g1;obtain⟨b1,b2,rfl,m1,m2⟩:=List.append_sublist_iff.1 g2;refine⟨b1,b2,rfl,?_⟩;have h1:=Iy k1 m1;have h2:=Iy k2 m2;have h3:=mX a b1 a' b2;simp at g3;omega
theorem JN(a b:List Int):AJ a b<=a.length/\AJ a b<=b.length:=by
 obtain⟨s,g1,g2,g3⟩:=IM a b;have:=g1.length_le;have:=g2.length_le;omega
theorem Ls(x:Int)(a b:List Int):AJ (x::a) (x::b)=AJ a b+1:=by
 have h:AJ a (x::b)<=AJ a b+1:=by
  obtain⟨s,g1,g2,g3⟩:=IM a (x::b);cases g2 with
  |cons _ h=>have:=Iy g1 h;omega
  |@cons_cons s' _ _ h=>
   have:=Iy ((List.sublist_cons_self x s').trans g1) h;simp at g3;omega
 rw[AJ];simp[cq];omega
theorem XD{x y:Int}(h:x≠y)(a b:List Int):AJ (x::a) (y::b)=max (AJ a (y::b)) (AJ (x::a) b):=by
 have h1:AJ a b<=AJ a (y::b):=OH (List.Sublist.refl _) (List.sublist_cons_self _ _);rw[AJ,AJ];simp only[cq,if_neg h];omega
theorem Pu(x:Int)(a b:List Int):AJ (a++[x]) (b++[x])=AJ a b+1:=by
 rw[<-Ky];simp[Ls,Ky]
theorem Py{x y:Int}(h:x≠y)(a b:List Int):AJ (a++[x]) (b++[y])=max (AJ a (b++[y])) (AJ (a++[x]) b):=by
 rw[<-Ky,<-Ky a (b++[y]),<-Ky (a++[x]) b];simp[XD h]
theorem dj(x:Int)(a b:List Int):AJ (x::a) b<=AJ a b+1:=by
 rw[AJ];cases e:cq x b with
 |none=>simp
 |some b'=>
  obtain⟨b0,rfl,_⟩:=OG e;have:AJ a b'<=AJ a (b0++x::b'):=OH (List.Sublist.refl _) ((List.sublist_cons_self x b').trans (List.sublist_append_right _ _));simp only;omega
theorem dk(x:Int)(a b:List Int):AJ (a++[x]) b<=AJ a b+1:=by
 rw[<-Ky,<-Ky a b];simpa using dj x a.reverse b.reverse
@[simp]theorem Aki(a:List Int):AJ a []=0:=by have:=(JN a []).2;simpa using this
@[simp]theorem AhD(b:List Int):AJ [] b=0:=rfl
theorem LH:∀(a u v w:List Int),AJ a (u++(v++w))+AJ a v<=AJ a (u++v)+AJ a (v++w)
 |[],u,v,w=>iS
 |x::a,u,v,w=>by
  have m1:∀p q:List Int,AJ a q<=AJ a (p++q):=fun p q=>OH (List.Sublist.refl _) (List.sublist_append_right _ _);have up:∀q:List Int,AJ a q<=AJ (x::a) q:=fun q=>by rw[AJ];omega
  have tk:∀q0 q':List Int,x∉q0->AJ a q'+1<=AJ (x::a) (q0++x::q'):=fun q0 q' h=>by rw[AJ,a8 h];simp;omega
  have tk':∀q0 q':List Int,AJ a q'+1<=AJ (x::a) (q0++x::q'):=fun q0 q'=>by
   have:=Ls x a q';have h2:AJ (x::a) (x::q')<=AJ (x::a) (q0++x::q'):=OH (List.Sublist.refl _) (List.sublist_append_right _ _);omega
  -- what the two of the left take
  have c1:AJ (x::a) (u++(v++w))=AJ a (u++(v++w))\/∃q0 q',u++(v++w)=q0++x::q'/\x∉q0/\AJ (x::a) (u++(v++w))=AJ a q'+1:=by
   rw[AJ];cases e:cq x (u++(v++w)) with
   |none=>left;simp
   |some q'=>
    obtain⟨q0,h1,h2⟩:=OG e;simp only;by_cases hle:AJ a (u++(v++w))<=AJ a q'+1
    ·right;exact⟨q0,q',h1,h2,oF⟩
    ·left;omega
  have c2:AJ (x::a) v=AJ a v\/∃v0 v',v=v0++x::v'/\x∉v0/\AJ (x::a) v=AJ a v'+1:=by
   rw[AJ];cases e:cq x v with
   |none=>left;simp
   |some q'=>
    obtain⟨q0,h1,h2⟩:=OG e;simp only;by_cases hle:AJ a v<=AJ a q'+1
    ·right;exact⟨q0,q',h1,h2,oF⟩
    ·left;omega
  rcases c1 with e1|⟨q0,q',h1,hn,e1⟩
  ·rcases c2 with e2|⟨v0,v',rfl,hv,e2⟩
   ·have:=LH a u v w;have:=up (u++v);have:=up (v++w);omega
   ·have h:=LH a (u++(v0++[x])) v' w;have g1:=up (u++(v0++x::v'));have g2:=tk v0 (v'++w) hv;simp at h g1 g2 e1 e2 ⊢;omega
  ·-- where the first x stands
   rcases List.append_eq_append_iff.1 h1 with ⟨t,ht1,ht2⟩|⟨t,ht1,ht2⟩
   ·-- q0=u++t,v++w=t++x::q'
    subst ht1;have hnu:x∉u:=fun h=>hn (by simp[h]);have hnt:x∉t:=fun h=>hn (by simp[h]);rcases List.append_eq_append_iff.1 ht2 with ⟨t2,hs1,hs2⟩|⟨t2,hs1,hs2⟩
    ·-- t=v++t2: x stands in w
     subst hs1;have hnv:x∉v:=fun h=>hnt (by simp[h]);have e2:AJ (x::a) v=AJ a v:=by
      rcases c2 with e2|⟨v0,v',rfl,_,_⟩
      ·exact e2
      ·exact absurd iS hnv
     have g1:=tk (v++t2) q' hnt;have g2:=up (u++v);have g3:=m1 u v;rw[ht2]at e1 ⊢;omega
    ·-- v=t++t2,x::q'=t2++w
     subst hs1;cases t2 with
     |nil=>
      simp at hs2;subst hs2;have e2:AJ (x::a) t=AJ a t:=by
       rcases c2 with e2|⟨v0,v',hv,_,_⟩
       ·simpa using e2
       ·exact absurd (by simp at hv;simp[hv]) hnt
      have g1:=tk t q' hnt;have g2:=up (u++t);have g3:=m1 u t;simp at e1 e2 g1 g2 g3 ⊢;omega
     |cons y v'=>
      simp at hs2;obtain⟨rfl,rfl⟩:=hs2;have g1:=tk t (v'++w) hnt;have e2:AJ (x::a) (t++x::v')<=max (AJ a (t++x::v')) (AJ a v'+1):=by rw[AJ,a8 hnt];simp
      have g2:=up (u++(t++x::v'));have g3:=m1 u (t++x::v');have g4:=tk' (u++t) v';simp at e1 e2 g1 g2 g3 g4 ⊢;omega
   ·-- u=q0++t,x::q'=t++(v++w)
    cases t with
    |nil=>
     simp at ht2 ht1;subst ht1
     -- x heads v++w
     cases v with
     |nil=>
      simp at ht2;have g1:=tk [] q' iS;have g0:=up u;simp at g1 e1 ⊢;rw[<-ht2]at e1 ⊢;rw[e1];omega
     |cons y v'=>
      simp at ht2;obtain⟨rfl,rfl⟩:=ht2;have g1:=tk [] (v'++w) iS;have e2:=Ls x a v';have g4:=tk' u v';simp at e1 g1 g4 ⊢;omega
    |cons y u'=>
     simp at ht2;obtain⟨rfl,rfl⟩:=ht2;subst ht1;rcases c2 with e2|⟨v0,v',rfl,hv,e2⟩
     ·have h:=LH a u' v w;have g1:=tk q0 (u'++v) hn;have g2:=up (v++w);simp at e1 e2 g1 g2 h ⊢;omega
     ·have h:=LH a (u'++(v0++[x])) v' w;have g1:=tk q0 (u'++(v0++x::v')) hn;have g2:=tk v0 (v'++w) hv;simp at e1 e2 g1 g2 h ⊢;omega
def sg(l:List Int)(p q:Nat):List Int:=(l.take q).drop p
def HT(a b:List Int)(i h j k:Nat):Nat:=AJ (sg a i h) (sg b j k)
theorem Lu(l:List Int)(p q:Nat)(h:q<=l.length):(sg l p q).length=q-p:=by simp[sg];omega
theorem Qg{l:List Int}{p k q:Nat}(h1:p<=k)(h2:k<=q):sg l p q=sg l p k++sg l k q:=by
 unfold sg;have e:(l.take q).drop p=((l.take q).drop p).take (k-p)++((l.take q).drop p).drop (k-p):=(List.take_append_drop _ _).symm;rw[e,List.drop_drop,List.take_drop,List.take_take];congr 3<;>first|omega|skip
theorem RX(l:List Int)(q:Nat):sg l 0 q=l.take q:=by simp[sg]
theorem ae(l:List Int)(p:Nat):sg l p l.length=l.drop p:=by simp[sg]
theorem Ac1(l:List Int)(p:Nat):sg l p p=[]:=by simp[sg]
theorem Uz{l:List Int}{n p q:Nat}(h:q<=n):sg (l.take n) p q=sg l p q:=by
 unfold sg;rw[List.take_take];congr 2;omega
theorem UI{l:List Int}{n p q:Nat}:sg (l.drop n) p q=sg l (n+p) (n+q):=by
 unfold sg;rw[List.take_drop,List.drop_drop]
theorem GW{a b:List Int}{i h t j k q:Nat}(h1:i<=h)(h2:h<=t)(h3:j<=k)(h4:k<=q):HT a b i h j k+HT a b h t k q<=HT a b i t j q:=by
 unfold HT;rw[Qg h1 h2,Qg h3 h4];exact mX _ _ _ _
theorem JW(a b:List Int){i h t j q:Nat}(h1:i<=h)(h2:h<=t)(h3:j<=q)(h4:q<=b.length):∃k,j<=k/\k<=q/\HT a b i h j k+HT a b h t k q=HT a b i t j q:=by
 unfold HT;rw[Qg h1 h2];obtain⟨b1,b2,e,hs⟩:=o8 (sg a i h) (sg a h t) (sg b j q);have hl:=Lu b j q h4;rw[e]at hl;simp at hl;refine⟨j+b1.length,oF,oF,?_⟩;have e2:=Qg (l:=b) (p:=j) (k:=j+b1.length) (q:=q) oF oF;rw[e]at e2;obtain⟨g1,g2⟩:=List.append_inj e2 (by rw[Lu _ _ _ oF];omega);rw[<-g1,<-g2,<-hs]
theorem YW(a b:List Int)(i h:Nat){p p' q q':Nat}(h1:p<=p')(h2:p'<=q)(h3:q<=q'):HT a b i h p q'+HT a b i h p' q<=HT a b i h p q+HT a b i h p' q':=by
 unfold HT;rw[Qg (l:=b) h1 (by omega:p'<=q'),Qg (l:=b) h2 h3,Qg (l:=b) h1 h2];exact LH _ _ _ _
def eO(p:Nat->Bool):Nat->Nat->Nat
 |0,j=>j
 |f+1,j=>if p j=true then j else eO p f (j+1)
theorem ak{p:Nat->Bool}:∀{f j k:Nat},j<=k->k<=j+f->p k=true->p (eO p f j)=true/\j<=eO p f j/\eO p f j<=k
 |0,j,k,h1,h2,h=>by
  have:k=j:=oF
  subst this;exact⟨h,by simp[eO],by simp[eO]⟩
 |f+1,j,k,h1,h2,h=>by
  unfold eO;by_cases e:p j=true
  ·simp[e,h1]
  ·rw[if_neg e];have hne:j≠k:=fun h'=>by rw[h']at e;exact e h
   have:=ak (f:=f) (j:=j+1) (k:=k) oF oF h;exact⟨this.1,oF,this.2.2⟩
def QU(a b:List Int)(i j:Nat):Bool:=decide (HT a b 0 i 0 j+HT a b i a.length j b.length=AJ a b)
def C0(a b:List Int)(i:Nat):Nat:=eO (QU a b i) b.length 0
theorem lI(a b:List Int):HT a b 0 a.length 0 b.length=AJ a b:=by simp[HT,sg]
theorem NB{a b:List Int}{i j:Nat}(hi:i<=a.length)(hj:j<=b.length):HT a b 0 i 0 j+HT a b i a.length j b.length<=AJ a b:=by
 rw[<-lI];exact GW oF hi oF hj
theorem Iq{a b:List Int}{i:Nat}(hi:i<=a.length):QU a b i (C0 a b i)=true/\C0 a b i<=b.length/\∀j,j<=b.length->QU a b i j=true->C0 a b i<=j:=by
 obtain⟨k,h1,h2,h3⟩:=JW a b (i:=0) (h:=i) (t:=a.length) (j:=0) (q:=b.length) oF hi oF oF;rw[lI]at h3;have:=ak (p:=QU a b i) (f:=b.length) (j:=0) (k:=k) oF oF (by simpa[QU]using h3);refine⟨this.1,by unfold C0;omega,fun j hj h=>?_⟩;exact(ak (p:=QU a b i) (f:=b.length) (j:=0) (k:=j) oF oF h).2.2
theorem SP{a b:List Int}{i k:Nat}(hi:i<=a.length)(hk:k<=b.length)(h1:QU a b i k=true)(h2:∀j,j<k->QU a b i j=false):C0 a b i=k:=by
 obtain⟨g1,g2,g3⟩:=Iq (a:=a) (b:=b) hi;have:=g3 k hk h1;by_cases e:C0 a b i<k
 ·have:=h2 _ e;rw[g1]at this;cases this
 ·omega
theorem Vm(a b:List Int):C0 a b 0=0:=SP oF oF (by simp[QU,HT,sg]) oF
theorem VW{a b:List Int}{i h:Nat}(hih:i<=h)(hh:h<=a.length):C0 a b i<=C0 a b h:=by
 obtain⟨g1,g2,g3⟩:=Iq (a:=a) (b:=b) hh;obtain⟨k,h1,h2,h3⟩:=JW a b (i:=0) (h:=i) (t:=h) (j:=0) (q:=C0 a b h) oF hih oF g2;have h4:=GW (a:=a) (b:=b) (i:=i) (h:=h) (t:=a.length) (j:=k) (k:=C0 a b h) (q:=b.length) hih hh h2 g2;have h5:=NB (a:=a) (b:=b) (i:=i) (j:=k) oF oF;have hg:=g1;unfold QU at hg;simp only[decide_eq_true_eq]at hg;have:=(Iq (a:=a) (b:=b) (i:=i) oF).2.2 k oF (by unfold QU;simp only[decide_eq_true_eq];omega);omega
theorem bd{a b:List Int}{i h:Nat}(hih:i<=h)(hh:h<=a.length):C0 (a.take h) (b.take (C0 a b h)) i=C0 a b i:=by
 obtain⟨g1,g2,g3⟩:=Iq (a:=a) (b:=b) hh;obtain⟨f1,f2,f3⟩:=Iq (a:=a) (b:=b) (i:=i) oF;have hm:=VW (a:=a) (b:=b) hih hh;generalize hJ:C0 a b h=J at *;generalize hj:C0 a b i=j at *;have la:(a.take h).length=h:=by simp;omega
 have lb:(b.take J).length=J:=by simp;omega
 have e0:AJ (a.take h) (b.take J)=HT a b 0 h 0 J:=by simp[HT,RX]
 have e1:∀k,k<=J->QU (a.take h) (b.take J) i k=decide (HT a b 0 i 0 k+HT a b i h k J=HT a b 0 h 0 J):=fun k hk=>by
  unfold QU;rw[e0,la,lb];unfold HT;rw[Uz hih,Uz hk,Uz (CX _),Uz (CX _)]
 unfold QU at g1 f1;simp only[decide_eq_true_eq]at g1 f1;refine SP oF oF ?_ fun k hk=>?_
 ·rw[e1 j hm,decide_eq_true_eq]
  -- the way through (i,j) comes to row h at k
  obtain⟨k,h1,h2,h3⟩:=JW a b (i:=i) (h:=h) (t:=a.length) (j:=j) (q:=b.length) hih hh f2 oF;have h4:=GW (a:=a) (b:=b) (i:=0) (h:=i) (t:=h) (j:=0) (k:=j) (q:=k) oF hih oF h1;have h5:=NB (a:=a) (b:=b) (i:=h) (j:=k) hh h2;have hJk:J<=k:=g3 k h2 (by unfold QU;simp only[decide_eq_true_eq];omega);obtain⟨k2,i1,i2,i3⟩:=JW a b (i:=0) (h:=i) (t:=h) (j:=0) (q:=J) oF hih oF g2;have i4:=GW (a:=a) (b:=b) (i:=i) (h:=h) (t:=a.length) (j:=k2) (k:=J) (q:=b.length) hih hh i2 g2;have i5:=NB (a:=a) (b:=b) (i:=i) (j:=k2) oF oF;have hjk2:j<=k2:=f3 k2 oF (by unfold QU;simp only[decide_eq_true_eq];omega);have m:=YW a b i h (p:=j) (p':=k2) (q:=J) (q':=k) hjk2 i2 hJk;have t1:=GW (a:=a) (b:=b) (i:=0) (h:=i) (t:=h) (j:=0) (k:=j) (q:=J) oF hih oF hm;have t2:=GW (a:=a) (b:=b) (i:=i) (h:=h) (t:=a.length) (j:=k2) (k:=k) (q:=b.length) hih hh oF h2;omega
 ·rw[e1 k oF,decide_eq_false_iff_not];intro e;have h4:=GW (a:=a) (b:=b) (i:=i) (h:=h) (t:=a.length) (j:=k) (k:=J) (q:=b.length) hih hh oF g2;have h5:=NB (a:=a) (b:=b) (i:=i) (j:=k) oF oF;have:=f3 k oF (by unfold QU;simp only[decide_eq_true_eq];omega);omega
theorem ZJ{a b:List Int}{i h:Nat}(hh:h+i<=a.length):C0 (a.drop h) (b.drop (C0 a b h)) i+C0 a b h=C0 a b (h+i):=by
 obtain⟨g1,g2,g3⟩:=Iq (a:=a) (b:=b) (i:=h) oF;obtain⟨f1,f2,f3⟩:=Iq (a:=a) (b:=b) (i:=h+i) hh;have hm:=VW (a:=a) (b:=b) (i:=h) (h:=h+i) oF hh;generalize hJ:C0 a b h=J at *;generalize hj:C0 a b (h+i)=j at *;have la:h+(a.drop h).length=a.length:=by simp;omega
 have lb:J+(b.drop J).length=b.length:=by simp;omega
 have e0:AJ (a.drop h) (b.drop J)=HT a b h a.length J b.length:=by simp[HT,ae]
 have e1:∀k,QU (a.drop h) (b.drop J) i k=decide (HT a b h (h+i) J (J+k)+HT a b (h+i) a.length (J+k) b.length=HT a b h a.length J b.length):=fun k=>by
  unfold QU;rw[e0];unfold HT;rw[UI,UI,UI,UI,la,lb,Nat.add_zero,Nat.add_zero]
 unfold QU at g1 f1;simp only[decide_eq_true_eq]at g1 f1
 suffices hw:C0 (a.drop h) (b.drop J) i=j-J by omega
 refine SP oF oF ?_ fun k hk=>?_
 ·rw[e1,decide_eq_true_eq,show J+(j-J)=j by omega]
  -- the way through (h+i,j) comes from row h at k
  obtain⟨k,h1,h2,h3⟩:=JW a b (i:=0) (h:=h) (t:=h+i) (j:=0) (q:=j) oF oF oF f2;have h4:=GW (a:=a) (b:=b) (i:=h) (h:=h+i) (t:=a.length) (j:=k) (k:=j) (q:=b.length) oF hh h2 f2;have h5:=NB (a:=a) (b:=b) (i:=h) (j:=k) oF oF;have hJk:J<=k:=g3 k oF (by unfold QU;simp only[decide_eq_true_eq];omega);obtain⟨k2,i1,i2,i3⟩:=JW a b (i:=h) (h:=h+i) (t:=a.length) (j:=J) (q:=b.length) oF hh g2 oF;have i4:=GW (a:=a) (b:=b) (i:=0) (h:=h) (t:=h+i) (j:=0) (k:=J) (q:=k2) oF oF oF i1;have i5:=NB (a:=a) (b:=b) (i:=h+i) (j:=k2) hh i2;have hjk2:j<=k2:=f3 k2 oF (by unfold QU;simp only[decide_eq_true_eq];omega);have m:=YW a b h (h+i) (p:=J) (p':=k) (q:=j) (q':=k2) hJk h2 hjk2;have t1:=GW (a:=a) (b:=b) (i:=h) (h:=h+i) (t:=a.length) (j:=J) (k:=j) (q:=b.length) oF hh hm f2;have t2:=GW (a:=a) (b:=b) (i:=0) (h:=h) (t:=h+i) (j:=0) (k:=k) (q:=k2) oF oF oF oF;omega
 ·rw[e1,decide_eq_false_iff_not];intro e;have h4:=GW (a:=a) (b:=b) (i:=0) (h:=h) (t:=h+i) (j:=0) (k:=J) (q:=J+k) oF oF oF oF;have h5:=NB (a:=a) (b:=b) (i:=h+i) (j:=J+k) hh oF;have:=f3 (J+k) oF (by unfold QU;simp only[decide_eq_true_eq];omega);omega
structure Sp where
 k:Nat
 n:Nat
 deriving DecidableEq
def Sp.ok(s:Sp):Prop:=s.k<=2/\1<=s.n/\s.n<=1048576
def Sp.may(s:Sp):Prop:=s.k<=2/\s.n<=1048576
def Bu(l:List Sp):List Nat:=l.flatMap fun s=>replicate s.n s.k
@[simp]theorem JY:Bu []=[]:=rfl
@[simp]theorem BF(s:Sp)(l:List Sp):Bu (s::l)=replicate s.n s.k++Bu l:=rfl
@[simp]theorem JX(l m:List Sp):Bu (l++m)=Bu l++Bu m:=by simp[Bu]
def fl(k n:Nat):List Sp:=if n=0 then []else [⟨k,n⟩]
@[simp]theorem Ajv(k:Nat):fl k 0=[]:=rfl
theorem Vp{k n:Nat}(h:0<n):fl k n=[⟨k,n⟩]:=by unfold fl;rw[if_neg oF]
@[simp]theorem ND(k n:Nat):Bu (fl k n)=replicate n k:=by
 unfold fl;split
 ·rename_i h;simp[h]
 ·simp[Bu]
theorem V6{k n:Nat}(hk:k<=2)(hn:n<=1048576):∀s,s∈fl k n->s.ok:=by
 intro s hs;unfold fl at hs;split at hs
 ·simp at hs
 ·simp at hs;subst hs;exact⟨hk,by simp;omega,hn⟩
def QA:List Nat->Nat->Nat->Nat->List Sp
 |[],k,d,i=>fl 0 k++(fl 1 d++fl 2 i)
 |x::us,k,d,i=>if x=0 then fl 1 d++(fl 2 i++QA us (k+1) 0 0)else fl 0 k++(if x=1 then QA us 0 (d+1) i else QA us 0 d (i+1))
def Lb(us:List Nat):List Sp:=QA us 0 0 0
theorem gL:∀(n:Nat)(us:List Nat)(k d i:Nat),0<n->(d=0/\i=0\/k=0)->QA (replicate n 0++us) k d i=fl 1 d++(fl 2 i++QA us (k+n) 0 0)
 |n+1,us,k,d,i,_,h=>by
  rw[List.replicate_succ,List.cons_append,QA,if_pos rfl];cases n with
  |zero=>simp
  |succ n=>
   rw[gL (n+1) us (k+1) 0 0 oF (.inl ⟨rfl,rfl⟩)];simp;rw[show k+1+(n+1)=k+(n+1+1) by omega]
theorem aR:∀(n:Nat)(us:List Nat)(k d i:Nat),0<n->QA (replicate n 1++us) k d i=fl 0 k++QA us 0 (d+n) i
 |n+1,us,k,d,i,_=>by
  rw[List.replicate_succ,List.cons_append,QA,if_neg dO,if_pos rfl];cases n with
  |zero=>simp
  |succ n=>
   rw[aR (n+1) us 0 (d+1) i oF];simp;rw[show d+1+(n+1)=d+(n+1+1) by omega]
theorem UF:∀(n:Nat)(us:List Nat)(k d i:Nat),0<n->QA (replicate n 2++us) k d i=fl 0 k++QA us 0 d (i+n)
 |n+1,us,k,d,i,_=>by
  rw[List.replicate_succ,List.cons_append,QA,if_neg dO,if_neg dO];cases n with
  |zero=>simp
  |succ n=>
   rw[UF (n+1) us 0 d (i+1) oF];simp;rw[show i+1+(n+1)=i+(n+1+1) by omega]
def Pg(p q:Nat):List Nat:=if p<q then replicate (q-p-1) 2++[0]else [1]
def GO(a b:List Int):List Nat:=(List.range a.length).flatMap (fun i=>Pg (C0 a b i) (C0 a b (i+1)))++replicate (b.length-C0 a b a.length) 2
theorem Rp{α:Type}(f:Nat->List α)(m n:Nat):(List.range (m+n)).flatMap f=(List.range m).flatMap f++(List.range n).flatMap (fun i=>f (m+i)):=by
 rw[List.range_add,List.flatMap_append,List.flatMap_map]
theorem Gx{α:Type}{f g:Nat->List α}{n:Nat}(h:∀i,i<n->f i=g i):(List.range n).flatMap f=(List.range n).flatMap g:=by
 induction n with
 |zero=>rfl
 |succ n ih=>
  rw[List.range_succ,List.flatMap_append,List.flatMap_append,ih fun i hi=>h i oF];simp[h n oF]
theorem tn(p q t:Nat):Pg (p+t) (q+t)=Pg p q:=by
 unfold Pg;by_cases h:p<q
 ·rw[if_pos h,if_pos oF,show q+t-(p+t)-1=q-p-1 by omega]
 ·rw[if_neg h,if_neg oF]
theorem YO(a b:List Int){h:Nat}(hh:h<=a.length):GO a b=GO (a.take h) (b.take (C0 a b h))++GO (a.drop h) (b.drop (C0 a b h)):=by
 obtain⟨g1,g2,g3⟩:=Iq (a:=a) (b:=b) hh;have la:(a.take h).length=h:=by simp;omega
 have lb:(b.take (C0 a b h)).length=C0 a b h:=by simp;omega
 have ld:(a.drop h).length=a.length-h:=iS
 have le:(b.drop (C0 a b h)).length=b.length-C0 a b h:=iS
 have e1:GO (a.take h) (b.take (C0 a b h))=(List.range h).flatMap fun i=>Pg (C0 a b i) (C0 a b (i+1)):=by
  unfold GO;rw[la,lb,bd (CX _) hh,Nat.sub_self,List.replicate_zero,List.append_nil];exact Gx fun i hi=>by rw[bd oF hh,bd oF hh]
 have e2:GO (a.drop h) (b.drop (C0 a b h))=(List.range (a.length-h)).flatMap (fun i=>Pg (C0 a b (h+i)) (C0 a b (h+i+1)))++replicate (b.length-C0 a b a.length) 2:=by
  unfold GO;rw[ld,le];have hw:=ZJ (a:=a) (b:=b) (h:=h) (i:=a.length-h) oF;rw[show h+(a.length-h)=a.length by omega]at hw;congr 1
  ·refine Gx fun i hi=>?_;have w1:=ZJ (a:=a) (b:=b) (h:=h) (i:=i) oF;have w2:=ZJ (a:=a) (b:=b) (h:=h) (i:=i+1) oF;rw[<-tn _ _ (C0 a b h),w1,w2];rfl
  ·congr 1;omega
 rw[e1,e2,<-List.append_assoc];unfold GO;congr 1;have:=Rp (fun i=>Pg (C0 a b i) (C0 a b (i+1))) h (a.length-h);rw[show h+(a.length-h)=a.length by omega]at this;exact this
theorem eJ(b:List Int):GO [] b=replicate b.length 2:=by
 unfold GO;simp[Vm]
theorem pI(a:List Int):GO a []=replicate a.length 1:=by
 have h:∀i,i<=a.length->C0 a [] i=0:=fun i hi=>by have:=(Iq (a:=a) (b:=[]) hi).2.1;simpa using this
 unfold GO;rw[h _ (CX _)];simp;rw[Gx (g:=fun _=>[1]) fun i hi=>by rw[h i oF,h (i+1) oF];rfl];generalize a.length=n;induction n with
 |zero=>rfl
 |succ n ih=>rw[List.range_succ,List.flatMap_append,ih,List.replicate_succ'];simp
def DW(x:Int):List Int->Nat
 |[]=>0
 |y::b=>if x=y then 0 else DW x b+1
theorem QY(x:Int):∀b,DW x b<=b.length
 |[]=>by simp[DW]
 |y::b=>by
  have:=QY x b;unfold DW;split<;>simp<;>omega
theorem Rh(x:Int):∀{b},(h:DW x b<b.length)->b[DW x b]=x
 |[],h=>by simp[DW]at h
 |y::b,h=>by
  unfold DW at h;by_cases e:x=y
  ·simp[DW,e]
  ·rw[if_neg e]at h;simp only[DW,if_neg e,List.getElem_cons_succ];exact Rh x (by simpa using h)
theorem Q8(x:Int):∀{b:List Int} {j:Nat},j<=DW x b->x∉b.take j
 |[],j,h=>iS
 |y::b,0,h=>iS
 |y::b,j+1,h=>by
  unfold DW at h;by_cases e:x=y
  ·rw[if_pos e]at h;omega
  ·rw[if_neg e]at h;simp[e,Q8 x (b:=b) (j:=j) oF]
theorem ZK(x:Int)(b:List Int):AJ [x] b=if x∈b then 1 else 0:=by
 unfold AJ;cases e:cq x b with
 |none=>simp[fZ e]
 |some b'=>
  obtain⟨b0,rfl,_⟩:=OG e;simp
theorem mr(x:Int)(b:List Int):C0 [x] b 1=if DW x b<b.length then DW x b+1 else 0:=by
 have on:∀j,QU [x] b 1 j=decide ((if x∈b.take j then 1 else 0)=if x∈b then 1 else 0):=fun j=>by
  unfold QU HT;rw[ZK];simp[RX,Ac1,ZK,sg]
 have hle:=QY x b;by_cases h:DW x b<b.length
 ·rw[if_pos h];have hx:x∈b:=by rw[<-Rh x h];exact De h
  refine SP iS oF ?_ fun j hj=>?_
  ·rw[on,if_pos hx,if_pos ?_]
   ·rfl
   ·rw[F5 h,Rh x h];simp
  ·rw[on,if_pos hx,if_neg (Q8 x oF)];rfl
 ·rw[if_neg h];refine SP iS oF ?_ fun j hj=>oF
  rw[on,if_neg iS,if_neg ?_]
  ·rfl
  ·have:=Q8 x (b:=b) (j:=b.length) oF
   rwa [AO (CX _)]at this
theorem Vw(x:Int)(b:List Int):GO [x] b=if DW x b<b.length then replicate (DW x b) 2++(0::replicate (b.length-DW x b-1) 2)else 1::replicate b.length 2:=by
 unfold GO;have:(List.range [x].length)=[0]:=rfl;rw[this,show [x].length=1 from rfl,mr];simp only[List.flatMap_cons,List.flatMap_nil,List.append_nil,Vm,Nat.zero_add];rw[mr];split
 ·unfold Pg;rw[if_pos oF,show DW x b+1-0-1=DW x b from oF,show b.length-(DW x b+1)=b.length-DW x b-1 by omega];simp
 ·simp[Pg]
def Ee(a b:List Int)(i j:Nat):Nat:=i+j-2*AJ (a.take i) (b.take j)
theorem JV(a b:List Int)(i j:Nat):AJ (a.take i) (b.take j)<=i/\AJ (a.take i) (b.take j)<=j:=by
 have h:=JN (a.take i) (b.take j);simp at h;omega
theorem Vl(a b:List Int)(i j:Nat):i<=j+Ee a b i j/\j<=i+Ee a b i j:=by
 have h:=JV a b i j;unfold Ee;omega
theorem PD{l:List Int}{i:Nat}(h:l.length<=i):l.take (i+1)=l.take i:=by
 rw[AO oF,AO h]
theorem Wq{a b:List Int}{i j:Nat}(h:¬∃(h1:i<a.length)(h2:j<b.length),a[i]=b[j]):Ee a b (i+1) (j+1)=Ee a b i (j+1)+1\/Ee a b (i+1) (j+1)=Ee a b (i+1) j+1:=by
 have g1:=JV a b i (j+1);have g2:=JV a b (i+1) j;have g3:=JV a b (i+1) (j+1);unfold Ee;by_cases h1:i<a.length
 ·by_cases h2:j<b.length
  ·have hne:a[i]≠b[j]:=fun e=>h ⟨h1,h2,e⟩;have e:=Py hne (a.take i) (b.take j);rw[<-F5 h1,<-F5 h2]at e;omega
  ·rw[PD (l:=b) oF]at *;omega
 ·rw[PD (l:=a) oF]at *;omega
theorem Qc{a b:List Int}{i j:Nat}(h1:i<a.length)(h2:j<b.length)(h:a[i]=b[j]):Ee a b (i+1) (j+1)=Ee a b i j:=by
 have g:=JV a b i j;unfold Ee;rw[F5 h1,F5 h2,h,Pu];omega
theorem qj(a b:List Int)(i j:Nat):Ee a b (i+1) j<=Ee a b i j+1:=by
 have:AJ (a.take i) (b.take j)<=AJ (a.take (i+1)) (b.take j):=OH (List.take_sublist_take_left oF) (List.Sublist.refl _);unfold Ee;omega
theorem qc(a b:List Int)(i j:Nat):Ee a b i (j+1)<=Ee a b i j+1:=by
 have:AJ (a.take i) (b.take j)<=AJ (a.take i) (b.take (j+1)):=OH (List.Sublist.refl _) (List.take_sublist_take_left oF);unfold Ee;omega
def Dr(a b:List Int):Nat:=a.length+b.length-2*AJ a b
theorem xZ(a b:List Int):Ee a b a.length b.length=Dr a b:=by simp[Ee,Dr]
theorem zx{a b:List Int}{i j:Nat}(h1:a.length<=i)(h2:b.length<=j):Dr a b<=Ee a b i j:=by
 unfold Ee Dr;rw[AO h1,AO h2];omega
structure Qu(a b:List Int)(c d p x:Nat):Prop where
 on:p<=x+c
 may:Ee a b x (x+c-p)<=d
 most:∀i j,i+c=j+p->Ee a b i j<=d->i<=x
structure Zw(a b:List Int)(c d p x:Nat):Prop where
 on:p<=x+c
 may:Ee a b x (x+c-p)<=d
 most:∀i j,i+c=j+p->Ee a b i j<=d->i<=x\/∃i' j',i=i'+1/\j=j'+1/\(∃(h1:i'<a.length)(h2:j'<b.length),a[i']=b[j'])/\Ee a b i' j'<=d
theorem tU(a b:List Int)(c:Nat):Zw a b c 0 c 0:=by
 refine⟨oF,by simp[Ee],fun i j h hm=>?_⟩;have:i=j:=oF
 subst this;cases i with
 |zero=>exact .inl oF
 |succ i=>
  right;refine⟨i,i,rfl,rfl,?_⟩;by_cases hs:∃(h1:i<a.length)(h2:i<b.length),a[i]=b[i]
  ·obtain⟨h1,h2,e⟩:=hs;rw[Qc h1 h2 e]at hm;exact⟨⟨h1,h2,e⟩,hm⟩
  ·have:=Wq hs;omega
theorem Se{a b:List Int}{c d p x:Nat}(hc:d+1<=c)(hp1:c<=p+(d+1))(hp2:p<=c+(d+1))(hp0:1<=p){y z:Nat}(hy:p+(d+1)≠c->Qu a b c d (p-1) y)(hz:p≠c+(d+1)->Qu a b c d (p+1) z)
  (hx:(p+(d+1)≠c/\x=y+1)\/(p≠c+(d+1)/\x=z)) (hxy:p+(d+1)≠c->y+1<=x) (hxz:p≠c+(d+1)->z<=x):Zw a b c (d+1) p x:=by
 have on:p<=x+c/\Ee a b x (x+c-p)<=d+1:=by
  rcases hx with ⟨h,rfl⟩|⟨h,rfl⟩
  ·have g:=hy h;have g1:=g.on;have g2:=g.may;have:=qj a b y (y+c-(p-1));refine⟨oF,?_⟩;rw[show y+1+c-p=y+c-(p-1) by omega];omega
  ·have g:=hz h;have g1:=g.on;have g2:=g.may;have:=qc a b x (x+c-(p+1));refine⟨oF,?_⟩;rw[show x+c-p=x+c-(p+1)+1 by omega];omega
 refine⟨on.1,on.2,fun i j h hm=>?_⟩;cases i with
 |zero=>exact .inl oF
 |succ i=>
  cases j with
  |zero=>exact .inl oF
  |succ j=>
   by_cases hs:∃(h1:i<a.length)(h2:j<b.length),a[i]=b[j]
   ·obtain⟨h1,h2,e⟩:=hs;rw[Qc h1 h2 e]at hm;exact .inr ⟨i,j,rfl,rfl,⟨h1,h2,e⟩,hm⟩
   ·left;rcases Wq hs with e|e
    ·have hd:=Vl a b i (j+1);have hne:p+(d+1)≠c:=fun h'=>oF
     have:=(hy hne).most i (j+1) oF oF;have:=hxy hne;omega
    ·have hd:=Vl a b (i+1) j;have hne:p≠c+(d+1):=fun h'=>oF
     have:=(hz hne).most (i+1) j oF oF;have:=hxz hne;omega
theorem Acq{a b:List Int}{c d p x:Nat}(h:Zw a b c d p x){y:Nat}(hy:x+c=y+p)(h1:x<a.length)(h2:y<b.length)(e:a[x]=b[y]):Zw a b c d p (x+1):=by
 have hm:=h.may;rw[show x+c-p=y from oF]at hm;refine⟨oF,?_,fun i j hij hc=>?_⟩
 ·rw[show x+1+c-p=y+1 from oF,Qc h1 h2 e];exact hm
 ·rcases h.most i j hij hc with k|k
  ·exact .inl oF
  ·exact .inr k
theorem U6{a b:List Int}{c d p x:Nat}(h:Zw a b c d p x){y:Nat}(hy:x+c=y+p)(hs:¬∃(h1:x<a.length)(h2:y<b.length),a[x]=b[y]):Qu a b c d p x:=by
 refine⟨h.on,h.may,fun i=>?_⟩;induction i with
 |zero=>intro j _ _;omega
 |succ i ih=>
  intro j hij hc;rcases h.most _ _ hij hc with k|⟨i',j',e1,e2,k,km⟩
  ·exact k
  ·have e1:i=i':=oF
   subst e1;have:=ih j' oF km;by_cases e:i=x
   ·subst e;have:j'=y:=oF
    subst this;exact absurd k hs
   ·omega
theorem vL{a b:List Int}{c d p x y:Nat}(h:Qu a b c d p x)(hy:x+c=y+p)(h1:a.length<=x)(h2:b.length<=y):Dr a b<=d:=by
 have:=h.may;rw[show x+c-p=y from oF]at this;have:=zx (a:=a) (b:=b) h1 h2;omega
theorem pd{a b:List Int}{c d p x y:Nat}(h:Qu a b c d p x)(hy:x+c=y+p)(hp:a.length+c=b.length+p)(hd:Dr a b<=d):a.length<=x/\b.length<=y:=by
 have:=h.most a.length b.length hp (by rw[xZ];exact hd);omega
theorem X5(a b:List Int):a.length<=b.length+Dr a b/\b.length<=a.length+Dr a b/\(a.length+b.length+Dr a b) % 2=0:=by
 have h:=JN a b;unfold Dr;omega
end Go.PL
namespace Go.Proofs.YtlaapfplenlfaaaGreat
open Go Go.G Go.Proofs Go.PL
def Lr(f:Nat->Int)(n:Nat):List A:=(List.range n).map fun q=>iv (f q)
@[simp]theorem AiB{f:Nat->Int}{n:Nat}:(Lr f n).length=n:=by simp[Lr]
@[simp]theorem JI{f:Nat->Int}{n k:Nat}(h:k<n):(Lr f n)[k]? = some (iv (f k)):=by simp[Lr,h]
@[simp]theorem AkQ{f:Nat->Int}{n k:Nat}(h:k<(Lr f n).length):(Lr f n)[k]=iv (f k):=by simp[Lr]
@[simp]theorem AjQ{f:Nat->Int}{n k:Nat}{z:Int}:(Lr f n).set k (iv z)=Lr (fun q=>if q=k then z else f q) n:=by
 apply List.ext_getElem?;intro i;rw[List.getElem?_set];by_cases hi:i<n
 ·rw[JI hi];by_cases e:k=i
  ·subst e;simp[hi,JI hi]
  ·rw[if_neg e,JI hi,if_neg (Ne.symm e)]
 ·rw[List.getElem?_eq_none (l:=Lr _ n) (by simp;omega)];split
  ·rename_i e;rw[if_neg (by simp;omega),List.getElem?_eq_none (by simp;omega)]
  ·rw[List.getElem?_eq_none (by simp;omega)]
theorem WB{n:Nat}:List.replicate n (iv 0)=Lr (fun _=>0) n:=by
 apply List.ext_getElem?;intro i;by_cases hi:i<n
 ·rw[JI hi];simp[hi]
 ·rw[List.getElem?_eq_none (by simp;omega),List.getElem?_eq_none (by simp;omega)]
theorem Sy{f g:Nat->Int}{n:Nat}(h:∀q,q<n->f q=g q):Lr f n=Lr g n:=by
 unfold Lr;exact List.map_congr_left fun q hq=>by rw[h q (by simpa using hq)]
theorem wZ(l:List Int):l.map iv=Lr (fun q=>l.getD q 0) l.length:=by
 apply List.ext_getElem?;intro i;by_cases hi:i<l.length
 ·rw[JI hi];simp[hi]
 ·rw[List.getElem?_eq_none (by simp;omega),List.getElem?_eq_none (by simp;omega)]
theorem ZO{H:Hp}{o:Nm}{u n:Nat}{f:Nat->Int}(h:H o=⟨u,.arr 1 (Lr f n)⟩):Jl H (.osl o u 1 0 n) (.sl false (Lr f n)):=by
 have:=CI (H:=H) (o:=o) (u:=u) (sz:=1) (l:=List.range n) (f:=fun q=>iv (f q)) (n:=n) (by rw[h];simp[Lr]) iS (fun x=>rfl);exact this
theorem OO(l:List Int):A.softL (l.map iv)=l.map iv:=by rw[BN,List.map_map];rfl
theorem bu(l:List Int)(n:Nat):A.softL ((l.map iv).take n)=(l.map iv).take n:=by rw[<-List.map_take,OO]
theorem ZM(l:List Int)(n:Nat):A.softL ((l.map iv).drop n)=(l.map iv).drop n:=by rw[<-List.map_drop,OO]
theorem jN{f:Nat->Int}{n k:Nat}{lo hi:Bool}(hk:1<=k)(hk2:k+1<n)(hn:n<=100000000)(hf:∀q,-1000000000<=f q/\f q<=1000000000):G.Spec Tryz.prog 179 [.sl false (Lr f n),iv k,bv lo,bv hi] (iv (if lo=true/\hi=true then 0 else if lo=true\/(hi=false/\f (k-1)<f (k+1))then f (k+1)else f (k-1)+1)):=by
 have e1:i64.wrap ((k:Int)-1)=((k-1:Nat):Int):=Bv;have e2:=AR k;have h1:=hf (k-1);have e3:i64.wrap (f (k-1)+1)=f (k-1)+1:=Ga;have g1:(Lr f n)[k-1]? = some (iv (f (k-1))):=JI oF;have g2:(Lr f n)[k+1]? = some (iv (f (k+1))):=JI hk2;have b1:k-1<n:=oF
 have b2:(0:Int)<=(k:Int)+1:=oF
 have b3:(k:Int)+1<n:=oF
 refine Ak eE iS fun w0 I0=>?_;unfold Tp;cases lo<;>cases hi
 ·by_cases h:f (k-1)<f (k+1)
  ·simp[e1,e2,e3,g1,g2,h,b1,b2,b3,hk2];exact Ae rfl
  ·simp[e1,e2,e3,g1,g2,h,b1,b2,b3,hk2];exact K5 rfl
 ·simp[e1,e2,e3,g1,g2,b1,b2,b3,hk2];exact Ae rfl
 ·simp[e1,e2,e3,g1,g2,b1,b2,b3,hk2];exact Ae rfl
 ·simp;exact Ae rfl
variable {n0:Nat} {w0:World} {I0:Nat->Prop} {Q:Exit->Sta->Prop}
theorem AcI{a b:List Int}{i u:Nat}{x:Int}(hi:i<a.length)(hx:a[i]=x)(hb:b.length<=1000000):∀(m j:Nat)(f:Nat->Int)(H:Hp),j+m=b.length->(∀q,q<=b.length->f q=if q<=j then (AJ (a.take (i+1)) (b.take q):Nat)else (AJ (a.take i) (b.take q):Nat))->H [0]=⟨u,.arr 1 (Lr f (b.length+1))⟩ ->
  (∀(f':Nat->Int)(z:Int)(H':Hp)(st:List (Nat × A)),(∀q,q<=b.length->f' q=(AJ (a.take (i+1)) (b.take q):Nat))->H' [0]=⟨u,.arr 1 (Lr f' (b.length+1))⟩->Q (.exit 2) ⟨lk ([(1,Ge b),(5,.osl [0] u 1 0 (b.length+1)),(7,iv x),(8,iv z),(16,Ge a),(17,iv a.length),(18,iv i)]++st),H'⟩) ->
  LoopC (cx Tryz.prog w0 I0 n0) Kb Q ⟨lk [(1,Ge b),(5,.osl [0] u 1 0 (b.length+1)),(7,iv x),(8,iv (AJ (a.take i) (b.take j):Nat)),(16,Ge a),(17,iv a.length),(18,iv i),(22,Ge b),(23,iv b.length),(24,iv j)],H⟩:=by
 intro m;induction m with
 |zero=>
  intro j f H hm hf hH hq;refine Ad Ai Kb.eq_1 ?_;have:j=b.length:=oF
  subst this;simp;exact hq f _ H [(22,Ge b),(23,iv b.length),(24,iv b.length),(25,bv false)] (fun q hq=>by rw[hf q hq,if_pos hq]) hH
 |succ m ih=>
  intro j f H hm hf hH hq;have hj:j<b.length:=oF
  have e1:=AR j;have g1:(Lr f (b.length+1))[j]? = some (iv (f j)):=JI oF;have g2:(Lr f (b.length+1))[j+1]? = some (iv (f (j+1))):=JI oF;have f1:=hf j oF;have f2:=hf (j+1) oF;rw[if_pos (CX _)]at f1;rw[if_neg oF]at f2;have m0:(0:Int)<=(j:Int)+1:=oF
  have m1:(j:Int)<(b.length:Int)+1:=oF
  have ll:=JN (a.take i) (b.take j);simp at ll;have e2:i64.wrap ((AJ (a.take i) (b.take j):Nat)+1)=((AJ (a.take i) (b.take j)+1:Nat):Int):=Bv;have tk:a.take (i+1)=a.take i++[x]:=by rw[F5 hi,hx]
  have tj:b.take (j+1)=b.take j++[b[j]]:=F5 hj;have next:∀(z:Int)(f':Nat->Int),z=(AJ (a.take (i+1)) (b.take (j+1)):Nat)->(∀q,q≠j+1->f' q=f q)->f' (j+1)=z->LoopC (cx Tryz.prog w0 I0 n0) Kb Q ⟨lk [(1,Ge b),(5,.osl [0] u 1 0 (b.length+1)),(7,iv x),(8,iv (AJ (a.take i) (b.take (j+1)):Nat)),(16,Ge a),(17,iv a.length),(18,iv i),(22,Ge b),(23,iv b.length),(24,iv (j+1:Nat))],AK H [0] ⟨u,.arr 1 (Lr f' (b.length+1))⟩⟩:=fun z f' hz h1 h2=>by
   refine ih (j+1) f' _ oF (fun q hq=>?_) (by simp[Aa]) hq;by_cases e:q=j+1
   ·subst e;rw[if_pos (CX _),h2,hz]
   ·rw[h1 q e,hf q hq];by_cases h3:q<=j
    ·rw[if_pos h3,if_pos oF]
    ·rw[if_neg h3,if_neg oF]
  refine Ad Ai Kb.eq_1 ?_;by_cases h:x=b[j]
  ·simp[hj,h,e1,g2,hH,m0,m1];rw[Qq.eq_1];have hjb:j<b.length+1:=oF
   simp[hj,h,e1,hjb,hH,m0,m1,Aa,e2];rw[f2,<-h];have e:=Pu x (a.take i) (b.take j);have e':=dk x (a.take i) (b.take j);rw[<-tk]at e e';rw[h,<-tj]at e;refine next _ _ rfl (fun q hq=>by simp[hq]) ?_
   simp;rw[f1,e];omega
  ·simp[hj,h,e1,g2,hH,m0,m1];rw[Qq.eq_1];have hjb:j<b.length+1:=oF
   simp[hj,h,e1,hjb,hH,m0,m1];rw[f2];have e:=Py h (a.take i) (b.take j);rw[<-tj,<-tk]at e;refine next _ _ rfl (fun q hq=>by simp[hq]) ?_
   simp;rw[f1,e];omega
theorem Ab1{a b:List Int}{u:Nat}(ha:a.length<=1000000)(hb:b.length<=1000000)(hq:∀(f':Nat->Int)(H':Hp)(st:List (Nat × A)),(∀q,q<=b.length->f' q=(AJ a (b.take q):Nat))->H' [0]=⟨u,.arr 1 (Lr f' (b.length+1))⟩->Q (.exit 0) ⟨lk ([(1,Ge b),(5,.osl [0] u 1 0 (b.length+1))]++st),H'⟩):∀(m i:Nat)(f:Nat->Int)(H:Hp),i+m=a.length->(∀q,q<=b.length->f q=(AJ (a.take i) (b.take q):Nat))->H [0]=⟨u,.arr 1 (Lr f (b.length+1))⟩ ->
  LoopC (cx Tryz.prog w0 I0 n0) MO Q ⟨lk [(1,Ge b),(5,.osl [0] u 1 0 (b.length+1)),(16,Ge a),(17,iv a.length),(18,iv i)],H⟩:=by
 intro m;induction m with
 |zero=>
  intro i f H hm hf hH;refine Ad Ai MO.eq_1 ?_;have:i=a.length:=oF
  subst this;simp;exact hq f H [(16,Ge a),(17,iv a.length),(18,iv a.length),(19,bv false)] (fun q hq=>by rw[hf q hq,AO (CX _)]) hH
 |succ m ih=>
  intro i f H hm hf hH;have hi:i<a.length:=oF
  have e1:=AR i;refine Ad Ai MO.eq_1 ?_;simp[hi];refine LoopC.le (Ar [(1,Ge b),(5,.osl [0] u 1 0 (b.length+1)),(7,iv a[i]),(8,iv (AJ (a.take i) (b.take 0):Nat)),(16,Ge a),(17,iv a.length),(18,iv i),(22,Ge b),(23,iv b.length),(24,iv (0:Nat))] iS) ?_;refine AcI hi rfl hb b.length 0 f H oF (fun q hq=>?_) hH fun f' z H' st h1 h2=>?_
  ·rw[hf q hq];by_cases h0:q<=0
   ·have:q=0:=oF
    subst this;simp
   ·rw[if_neg h0]
  ·simp[e1];exact ih (i+1) f' H' oF h1 h2
theorem qE{l:List Int}{u:Nat}(hl:l.length<=1000000)(hq:∀(f':Nat->Int)(H':Hp)(st:List (Nat × A)),(∀q,q<l.length->f' q=l.getD (l.length-1-q) 0)->H' [0]=⟨u,.arr 1 (Lr f' l.length)⟩->Q (.exit 0) ⟨lk ([(0,Ge l),(3,.osl [0] u 1 0 l.length)]++st),H'⟩):∀(m i:Nat)(f:Nat->Int)(H:Hp),i+m=l.length->(∀q,q<l.length->l.length<=q+i->f q=l.getD (l.length-1-q) 0)->H [0]=⟨u,.arr 1 (Lr f l.length)⟩ ->
  LoopC (cx Tryz.prog w0 I0 n0) Iz Q ⟨lk [(0,Ge l),(3,.osl [0] u 1 0 l.length),(9,Ge l),(10,iv l.length),(11,iv i)],H⟩:=by
 intro m;induction m with
 |zero=>
  intro i f H hm hf hH;refine Ad Ai Iz.eq_1 ?_;have:i=l.length:=oF
  subst this;simp;exact hq f H [(9,Ge l),(10,iv l.length),(11,iv l.length),(12,bv false)] (fun q hq=>hf q hq oF) hH
 |succ m ih=>
  intro i f H hm hf hH;have hi:i<l.length:=oF
  have e1:=AR i;have e2:i64.wrap (i64.wrap ((l.length:Int)-1)-i)=((l.length-1-i:Nat):Int):=by rw[Bq (n:=(l.length:Int)-1) oF oF,Bq oF oF];omega
  have b1:l.length-1-i<l.length:=oF
  refine Ad Ai Iz.eq_1 ?_;simp[hi,e1,e2,hH,b1];refine ih (i+1) _ _ oF (fun q hq1 hq2=>?_) (by simp[Aa];rfl);by_cases e:q=l.length-1-i
  ·rw[if_pos e];have:l.length-1-q=i:=oF
   rw[this];simp[List.getD_eq_getElem?_getD,hi]
  ·rw[if_neg e];exact hf q hq1 oF
theorem U9{a b:List Int}(ha:a.length<=1000000)(hb:b.length<=1000000):G.Spec Tryz.prog 191 [Ge a,Ge b] (.sl false (Lr (fun q=>(AJ a (b.take q):Nat)) (b.length+1))):=by
 have e1:i64.wrap ((b.length:Int)+1)=((b.length+1:Nat):Int):=Bv;refine Ak pA iS fun w0 I0=>?_;unfold Yr;simp[e1];refine⟨oF,?_⟩;refine LoopC.le (Ar [(1,Ge b),(5,.osl [0] 1 1 0 (b.length+1)),(16,Ge a),(17,iv a.length),(18,iv (0:Nat))] iS) ?_;refine Ab1 ha hb (fun f' H' st h1 h2=>?_) a.length 0 (fun _=>0) _ oF (fun q hq=>iS) (by simp[WB]);simp;rw[<-Sy fun q hq=>h1 q oF];exact ZO h2
theorem Ty{l:List Int}(hl:l.length<=1000000):G.Spec Tryz.prog 192 [Ge l] (Ge l.reverse):=by
 refine Ak af iS fun w0 I0=>?_;unfold RN;simp;refine⟨oF,?_⟩;refine LoopC.le (Ar [(0,Ge l),(3,.osl [0] 1 1 0 l.length),(9,Ge l),(10,iv l.length),(11,iv (0:Nat))] iS) ?_;refine qE hl (fun f' H' st h1 h2=>?_) l.length 0 (fun _=>0) _ oF (fun q hq=>oF) (by simp[WB]);simp;have e:l.reverse.map iv=Lr f' l.length:=by
  rw[wZ,List.length_reverse];refine Sy fun q hq=>?_;rw[h1 q hq];simp[List.getD_eq_getElem?_getD,List.getElem?_reverse hq]
 have e':Ge l.reverse=.sl false (Lr f' l.length):=by rw[<-e]
 rw[e'];exact ZO h2
theorem w8{n0:Nat}{w0:World}{I0:Nat->Prop}{Q:Exit->Sta->Prop}{a b:List Int}{half:Nat}(hh:half<=a.length)(hb:b.length<=1000000){H:Hp}{f g:Nat->Int}(hf:∀q,q<=b.length->f q=(HT a b 0 half 0 q:Nat))(hg:∀q,q<=b.length->g (b.length-q)=(HT a b half a.length q b.length:Nat))
  (hq:∀st,Q (.exit 0) ⟨lk ([(1,Ge b),(7,.sl false (Lr f (b.length+1))),(8,.sl false (Lr g (b.length+1))),(9,iv (C0 a b half))]++st),H⟩):∀(m i best:Nat),i+m=b.length+1->best<=b.length->(∀q,q<best->HT a b 0 half 0 q+HT a b half a.length q b.length<HT a b 0 half 0 best+HT a b half a.length best b.length)->(∀q,q<i->HT a b 0 half 0 q+HT a b half a.length q b.length<=HT a b 0 half 0 best+HT a b half a.length best b.length) ->
  LoopC (cx Tryz.prog w0 I0 n0) JO Q ⟨lk [(1,Ge b),(7,.sl false (Lr f (b.length+1))),(8,.sl false (Lr g (b.length+1))),(9,iv best),(24,iv (b.length+1:Nat)),(25,iv i)],H⟩:=by
 intro m;induction m with
 |zero=>
  intro i best hm hbl h1 h2;refine Ad Ai JO.eq_1 ?_;have:i=b.length+1:=oF
  subst this;have hw:C0 a b half=best:=by
   obtain⟨g1,g2,g3⟩:=Iq (a:=a) (b:=b) hh;have hle:=NB (a:=a) (b:=b) (i:=half) (j:=best) hh hbl;have h3:=h2 (C0 a b half) oF;unfold QU at g1;simp only[decide_eq_true_eq]at g1;refine SP hh hbl (by unfold QU;simp only[decide_eq_true_eq];omega) fun j hj=>?_;have:=h1 j hj;unfold QU;simp only[decide_eq_false_iff_not];omega
  simp;rw[<-hw];exact hq [(24,iv (b.length+1:Nat)),(25,iv (b.length+1:Nat)),(26,bv false)]
 |succ m ih=>
  intro i best hm hbl h1 h2;have hi:i<b.length+1:=oF
  have e1:=AR i;have e2:i64.wrap ((b.length:Int)-i)=((b.length-i:Nat):Int):=Bv;have e3:i64.wrap ((b.length:Int)-best)=((b.length-best:Nat):Int):=Bv;have fi:=hf i oF;have gi:=hg i oF;have fb:=hf best hbl;have gb:=hg best hbl;have l1:=JN (sg a 0 half) (sg b 0 i);have l2:=JN (sg a half a.length) (sg b i b.length);have l3:=JN (sg a 0 half) (sg b 0 best);have l4:=JN (sg a half a.length) (sg b best b.length);rw[Lu _ _ _ hh,Lu _ _ _ oF]at l1;rw[Lu _ _ _ oF,Lu _ _ _ oF]at l2;rw[Lu _ _ _ hh,Lu _ _ _ hbl]at l3;rw[Lu _ _ _ oF,Lu _ _ _ oF]at l4;have e4:i64.wrap (f i+g (b.length-i))=((HT a b 0 half 0 i+HT a b half a.length i b.length:Nat):Int):=by rw[fi,gi,Bq (by unfold HT;omega) (by unfold HT;omega)];omega
  have e5:i64.wrap (f best+g (b.length-best))=((HT a b 0 half 0 best+HT a b half a.length best b.length:Nat):Int):=by rw[fb,gb,Bq (by unfold HT;omega) (by unfold HT;omega)];omega
  have b1:b.length-i<b.length+1:=oF
  have b2:b.length-best<b.length+1:=oF
  have b3:best<b.length+1:=oF
  refine Ad Ai JO.eq_1 ?_;have c1:(i:Int)<(b.length:Int)+1:=oF
  have c2:((b.length-i:Nat):Int)<(b.length:Int)+1:=oF
  have c3:(best:Int)<(b.length:Int)+1:=oF
  have c4:((b.length-best:Nat):Int)<(b.length:Int)+1:=oF
  by_cases h:(HT a b 0 half 0 best:Int)+(HT a b half a.length best b.length:Int)<(HT a b 0 half 0 i:Int)+(HT a b half a.length i b.length:Int)
  ·simp[hi,e1,e2,e3,e4,e5,b1,b2,b3,h,c1,c2,c3,c4];refine ih (i+1) i oF oF (fun q hq=>?_) (fun q hq=>?_)
   ·have:=h2 q hq;omega
   ·by_cases e:q=i
    ·subst e;omega
    ·have:=h2 q oF;omega
  ·simp[hi,e1,e2,e3,e4,e5,b1,b2,b3,h,c1,c2,c3,c4];refine ih (i+1) best oF hbl h1 (fun q hq=>?_);by_cases e:q=i
   ·subst e;omega
   ·exact h2 q oF
theorem ju{a b:List Int}{half:Nat}(hh:half<=a.length)(ha:a.length<=1000000)(hb:b.length<=1000000):G.Spec Tryz.prog 182 [Ge a,Ge b,iv half] (iv (C0 a b half)):=by
 refine Ak fD iS fun w0 I0=>?_;have s1:=U9 (a:=a.take half) (b:=b) (by simp;omega) hb;have s2:=Ty (l:=a.drop half) (by simp;omega);have s3:=Ty (l:=b) hb;have s4:=U9 (a:=(a.drop half).reverse) (b:=b.reverse) (by simp;omega) (by simpa using hb);rw[List.length_reverse]at s4;unfold TS;simp[hh];refine Ag (s1.soft (by simp[A.softL,A.soft,OO,bu])) iS ?_;simp[hh];refine Ag (s2.soft (by simp[A.softL,A.soft,OO,ZM,AO])) iS ?_;simp[hh];refine Ag s3 iS ?_;simp[hh];refine Ag s4 iS ?_;simp[hh];refine LoopC.le (Ar [(1,Ge b),(7,.sl false (Lr (fun q=>(AJ (a.take half) (b.take q):Nat)) (b.length+1))),(8,.sl false (Lr (fun q=>(AJ (a.drop half).reverse (b.reverse.take q):Nat)) (b.length+1))),(9,iv (0:Nat)),(24,iv (b.length+1:Nat)),(25,iv (0:Nat))] iS) ?_;refine w8 hh hb (fun q hq=>by simp[HT,RX]) (fun q hq=>?_) (fun st=>?_) (b.length+1) 0 0 oF oF (fun q hq=>oF) (fun q hq=>oF)
 ·have e:b.reverse.take (b.length-q)=(b.drop q).reverse:=by
   rw[List.take_reverse];congr 2;omega
  show((AJ (a.drop half).reverse (b.reverse.take (b.length-q)):Nat):Int)=_;rw[e,Ky];simp[HT,ae]
 ·simp;exact Ae rfl
theorem Vg{a b:List Int}{c d p x y:Nat}(h:Zw a b c d p x)(hy:x+c=y+p):x<=d+a.length/\y<=d+b.length:=by
 have h1:=h.may;rw[show x+c-p=y from oF]at h1;have h2:=JN (a.take x) (b.take y);have h3:=JV a b x y;unfold Ee at h1;simp at h2;omega
theorem Ab8{a b:List Int}{M d p t:Nat}{f:Nat->Nat}(hd:d<=M)(ht:t<=d)(hp:p+d=M+1+2*t)(hold:∀p s,s<d->p+d=M+1+1+2*s->Qu a b (M+1) (d-1) p (f p)):∃x:Nat,(if decide (t=0)=true/\decide (t=d)=true then (0:Int)else if decide (t=0)=true\/(decide (t=d)=false/\((f (p-1):Nat):Int)<(f (p+1):Nat))then ((f (p+1):Nat):Int)else ((f (p-1):Nat):Int)+1)=(x:Int)/\Zw a b (M+1) d p x:=by
 cases d with
 |zero=>
  have:t=0:=oF
  subst this;have:p=M+1:=oF
  subst this;exact⟨0,iS,tU a b (M+1)⟩
 |succ d=>
  have hy:p+(d+1)≠M+1->Qu a b (M+1) d (p-1) (f (p-1)):=fun h=>hold (p-1) (t-1) oF oF;have hz:p≠M+1+(d+1)->Qu a b (M+1) d (p+1) (f (p+1)):=fun h=>hold (p+1) t oF oF;by_cases h0:t=0
  ·exact⟨f (p+1),by simp[h0],Se oF oF oF oF hy hz (.inr ⟨oF,rfl⟩) (fun h=>oF) (fun h=>CX _)⟩
  ·by_cases h1:t=d+1
   ·exact⟨f (p-1)+1,by simp[h1],Se oF oF oF oF hy hz (.inl ⟨oF,rfl⟩) (fun h=>CX _) (fun h=>oF)⟩
   ·by_cases h2:f (p-1)<f (p+1)
    ·exact⟨f (p+1),by simp[h0,h1,h2],Se oF oF oF oF hy hz (.inr ⟨oF,rfl⟩) (fun h=>oF) (fun h=>CX _)⟩
    ·exact⟨f (p-1)+1,by simp[h0,h1,h2],Se oF oF oF oF hy hz (.inl ⟨oF,rfl⟩) (fun h=>CX _) (fun h=>oF)⟩
theorem yh{a b:List Int}(ha:a.length<=1000000)(hb:b.length<=1000000){c d p:Nat}{X:A}{M k:Int}{H:Hp}
  (hq:∀(x y:Nat) st,Zw a b c d p x->Qu a b c d p x->x+c=y+p->Q (.exit 4) ⟨lk ([(0,Ge a),(1,Ge b),(2,iv M),(8,iv a.length),(9,iv b.length),(10,X),(11,iv d),(12,iv k),(13,iv x),(14,iv y)]++st),H⟩):∀(m x y:Nat),a.length<=x+m->Zw a b c d p x->x+c=y+p ->
  LoopC (cx Tryz.prog w0 I0 n0) GV Q ⟨lk [(0,Ge a),(1,Ge b),(2,iv M),(8,iv a.length),(9,iv b.length),(10,X),(11,iv d),(12,iv k),(13,iv x),(14,iv y)],H⟩:=by
 intro m;induction m with
 |zero=>
  intro x y hm hS hy;refine Ad Ai GV.eq_1 ?_;simp[show ¬x<a.length from oF];exact hq x y [(99,bv false)] hS (U6 hS hy fun ⟨h1,_,_⟩=>oF) hy
 |succ m ih=>
  intro x y hm hS hy;refine Ad Ai GV.eq_1 ?_;by_cases h1:x<a.length
  ·by_cases h2:y<b.length
   ·have e1:=AR x;have e2:=AR y;by_cases h3:a[x]=b[y]
    ·simp[h1,h2,h3,e1,e2];exact ih (x+1) (y+1) oF (Acq hS hy h1 h2 h3) oF
    ·simp[h1,h2,h3];exact hq x y [(99,bv false)] hS (U6 hS hy fun ⟨_,_,h⟩=>h3 h) hy
   ·simp[h1,h2];exact hq x y [(99,bv false)] hS (U6 hS hy fun ⟨_,h,_⟩=>h2 h) hy
  ·simp[h1];exact hq x y [(99,bv false)] hS (U6 hS hy fun ⟨h,_,_⟩=>h1 h) hy
theorem yv{a b:List Int}(ha:a.length<=1000000)(hb:b.length<=1000000){M d u:Nat}(hM:M<=a.length+b.length)(hd:d<=M)(hdd:d<=Dr a b)
  (hq:∀(f:Nat->Nat)(H:Hp) st,(∀q,f q<=10000000)->(∀p s,s<=d->p+d=M+1+2*s->Qu a b (M+1) d p (f p))->d<Dr a b->H [0]=⟨u,.arr 1 (Lr (fun q=>(f q:Nat)) (2*M+3))⟩->Q (.exit 2) ⟨lk ([(0,Ge a),(1,Ge b),(2,iv M),(8,iv a.length),(9,iv b.length),(10,.osl [0] u 1 0 (2*M+3)),(11,iv d)]++st),H⟩)
  (hq2:∀H,d=Dr a b->Q .ret ⟨lk [(6,iv d),(7,bv true)],H⟩):∀(m t:Nat)(f:Nat->Nat)(H:Hp),t+m=d+1->(∀q,f q<=10000000) ->
  (∀p s,s<d->p+d=M+1+1+2*s->Qu a b (M+1) (d-1) p (f p))->(∀p s,s<t->p+d=M+1+2*s->Qu a b (M+1) d p (f p)/\¬(a.length<=f p/\b.length+p<=f p+(M+1)))->H [0]=⟨u,.arr 1 (Lr (fun q=>(f q:Nat)) (2*M+3))⟩ ->
  LoopC (cx Tryz.prog w0 I0 n0) GU Q ⟨lk [(0,Ge a),(1,Ge b),(2,iv M),(8,iv a.length),(9,iv b.length),(10,.osl [0] u 1 0 (2*M+3)),(11,iv d),(12,iv (2*(t:Int)-d))],H⟩:=by
 intro m;induction m with
 |zero=>
  intro t f H hm hb0 hold hnew hH;have:t=d+1:=oF
  subst this;refine Ad Ai GU.eq_1 ?_;have hk:¬(2*((d+1:Nat):Int)-d<=d):=oF
  simp only[Int.natCast_add,Int.cast_ofNat_Int]at hk;simp[hk];refine hq f H _ hb0 (fun p s hs hp=>(hnew p s oF hp).1) ?_ hH;by_cases h:d<Dr a b
  ·exact h
  ·exfalso;have hdg:=X5 a b;have he:Dr a b=d:=oF
   rw[he]at hdg;obtain⟨p,hp⟩:∃p,a.length+(M+1)=b.length+p:=⟨a.length+(M+1)-b.length,oF⟩;obtain⟨s,hs⟩:∃s,a.length+d=b.length+2*s:=⟨(a.length+d-b.length) / 2,oF⟩;obtain⟨g1,g2⟩:=hnew p s oF oF;have g3:=g1.on;have:=pd (y:=f p+(M+1)-p) g1 oF hp oF;exact g2 ⟨this.1,oF⟩
 |succ m ih=>
  intro t f H hm hb0 hold hnew hH;have ht:t<=d:=oF
  obtain⟨p,hp⟩:∃p,p+d=M+1+2*t:=⟨M+1+2*t-d,oF⟩;have hk:(2*(t:Int)-d<=d):=oF
  have e0:i64.wrap ((M:Int)+1)=(M:Int)+1:=Ga;have e1:i64.wrap ((M:Int)+1+(2*(t:Int)-d))=(p:Int):=Bv;have e2:i64.wrap (2*(t:Int)-d+2)=2*((t+1:Nat):Int)-d:=Bv;have e3:i64.wrap (-(d:Int))=-(d:Int):=Ga;have lo:decide (2*(t:Int)-d=-(d:Int))=decide (t=0):=by by_cases h:t=0<;>simp[h]<;>omega
  have hi:decide (2*(t:Int)-d=(d:Int))=decide (t=d):=by by_cases h:t=d<;>simp[h]<;>omega
  have hR:=jN (f:=fun q=>(f q:Nat)) (n:=2*M+3) (k:=p) (lo:=decide (t=0)) (hi:=decide (t=d)) oF oF oF (fun q=>by have:=hb0 q;omega)
  -- the step's place
  obtain⟨x,hx,hS⟩:=Ab8 hd ht hp hold;rw[hx]at hR;have hon:=hS.on;obtain⟨y,hy⟩:∃y,x+(M+1)=y+p:=⟨x+(M+1)-p,oF⟩;have hbd:=Vg hS hy;have e4:i64.wrap ((x:Int)-(2*(t:Int)-d))=(y:Int):=Bv;refine Ad Ai GU.eq_1 ?_;simp[hk,e0,e1,e3,lo,hi];refine im [.sl false (Lr (fun q=>(f q:Nat)) (2*M+3)),iv p,bv (decide (t=0)),bv (decide (t=d))] (hR.toB rfl) (by simp;exact⟨ZO hH,Ae rfl,Ae rfl,Ae rfl⟩) iS ?_;simp[e4];refine LoopC.le (Ar [(0,Ge a),(1,Ge b),(2,iv M),(8,iv a.length),(9,iv b.length),(10,.osl [0] u 1 0 (2*M+3)),(11,iv d),(12,iv (2*(t:Int)-d)),(13,iv x),(14,iv y)] iS) ?_;refine yh ha hb (c:=M+1) (p:=p) (fun x y st hS hG hy=>?_) a.length x y oF hS hy;have hbd:=Vg hS hy;have hpl:p<2*M+3:=oF
  have hpl':(p:Int)<2*(M:Int)+3:=oF
  by_cases hdone:a.length<=x/\b.length<=y
  ·have he:=vL hG hy hdone.1 hdone.2;simp[hk,e0,e1,e3,lo,hi,hH,hpl,hpl',hdone.1,hdone.2];exact hq2 _ oF
  ·simp[hk,e0,e1,e2,hH,hpl,hpl'];refine⟨fun h1 h2=>absurd ⟨h1,h2⟩ hdone,fun _=>?_⟩;refine ih (t+1) (fun q=>if q=p then x else f q) _ oF (fun q=>?_) (fun p' s hs hp'=>?_) (fun p' s hs hp'=>?_) ?_
   ·show(if q=p then x else f q)<=_;split
    ·omega
    ·exact hb0 q
   ·show Qu a b (M+1) (d-1) p' (if p'=p then x else f p');rw[if_neg oF];exact hold p' s hs hp'
   ·show Qu a b (M+1) d p' (if p'=p then x else f p')/\¬(a.length<=(if p'=p then x else f p')/\b.length+p'<=(if p'=p then x else f p')+(M+1));by_cases e:s=t
    ·have:p'=p:=oF
     subst this;rw[if_pos rfl];exact⟨hG,fun h=>hdone ⟨h.1,oF⟩⟩
    ·rw[if_neg oF];exact hnew p' s oF hp'
   ·simp only[Aa,if_true];congr 2;refine Sy fun q _=>?_;split<;>rfl
theorem zv{a b:List Int}(ha:a.length<=1000000)(hb:b.length<=1000000){M u:Nat}(hM:M<=a.length+b.length)
  (hq:∀H st,M<Dr a b->Q (.exit 0) ⟨lk st,H⟩) (hq2:∀H,Dr a b<=M->Q .ret ⟨lk [(6,iv (Dr a b)),(7,bv true)],H⟩):∀(m d:Nat)(f:Nat->Nat)(H:Hp),d+m=M+1->(∀q,f q<=10000000)->d<=Dr a b ->
  (∀p s,s<d->p+d=M+1+1+2*s->Qu a b (M+1) (d-1) p (f p))->H [0]=⟨u,.arr 1 (Lr (fun q=>(f q:Nat)) (2*M+3))⟩ ->
  LoopC (cx Tryz.prog w0 I0 n0) GQ Q ⟨lk [(0,Ge a),(1,Ge b),(2,iv M),(8,iv a.length),(9,iv b.length),(10,.osl [0] u 1 0 (2*M+3)),(11,iv d)],H⟩:=by
 intro m;induction m with
 |zero=>
  intro d f H hm hb0 hdd hold hH;have:d=M+1:=oF
  subst this;refine Ad Ai GQ.eq_1 ?_;have hk:¬(((M+1:Nat):Int)<=M):=oF
  simp only[Int.natCast_add,Int.cast_ofNat_Int]at hk;simp[hk];exact hq H _ oF
 |succ m ih=>
  intro d f H hm hb0 hdd hold hH;have e1:=AR d;have e3:i64.wrap (-(d:Int))=-(d:Int):=Ga;have hd:d<=M:=oF
  refine Ad Ai GQ.eq_1 ?_;simp[hd,e3];refine LoopC.le (Ar [(0,Ge a),(1,Ge b),(2,iv M),(8,iv a.length),(9,iv b.length),(10,.osl [0] u 1 0 (2*M+3)),(11,iv d),(12,iv (2*((0:Nat):Int)-d))] iS) ?_;refine yv ha hb hM hd hdd (fun f' H' st g1 g2 g3 g4=>?_) (fun H' he=>?_) (d+1) 0 f H oF hb0 hold (fun p s hs=>oF) hH
  ·simp[e1];refine ih (d+1) f' H' oF g1 oF (fun p s hs hp=>?_) g4;exact g2 p s oF oF
  ·simp;have:=hq2 H' oF;rw[<-he]at this;exact this
theorem qI{a b:List Int}(ha:a.length<=1000000)(hb:b.length<=1000000){M0:Int}(hM0:BD M0):∃d:Int,G.Spec Tryz.prog 156 [Ge a,Ge b,iv M0] (.tup [iv d,bv (decide ((Dr a b:Int)<=M0))]):=by
 refine⟨if (Dr a b:Int)<=M0 then Dr a b else 0,?_⟩;refine Ak VU iS fun w0 I0=>?_;have hdg:=X5 a b;have hdl:Dr a b<=a.length+b.length:=by unfold Dr;omega
 have e1:i64.wrap ((a.length:Int)+b.length)=((a.length+b.length:Nat):Int):=Bv;have e2:i64.wrap ((a.length:Int)-b.length)=(a.length:Int)-b.length:=Ga;have e3:i64.wrap ((b.length:Int)-a.length)=(b.length:Int)-a.length:=Ga;obtain⟨M1,hM1⟩:∃M1:Int,min (max M0 (-1)) ((a.length:Int)+b.length)=M1:=⟨_,rfl⟩;have hle:((Dr a b:Int)<=M0)↔((Dr a b:Int)<=M1):=oF
 have hMb:M1<=(a.length:Int)+b.length:=oF
 unfold NN;simp[e1,e2,e3,hM1];refine⟨fun h=>?_,fun h1 h2 h3=>?_⟩
 ·have hno:¬(Dr a b:Int)<=M0:=oF
  simp[hno];exact Ae rfl
 ·obtain⟨M,rfl⟩:∃M:Nat,M1=M:=⟨M1.toNat,oF⟩;have e4:i64.wrap (2*(M:Int))=2*(M:Int):=Ga;have e5:i64.wrap (2*(M:Int)+3)=((2*M+3:Nat):Int):=Bv;have e6:(2*(M:Int)+3).toNat=2*M+3:=oF
  rw[e4,e5];refine⟨oF,?_⟩;refine LoopC.le (Ar [(0,Ge a),(1,Ge b),(2,iv M),(8,iv a.length),(9,iv b.length),(10,.osl [0] 1 1 0 (2*M+3)),(11,iv (0:Nat))] (by simp[e6])) ?_;refine zv ha hb oF (fun H st h=>?_) (fun H h=>?_) (M+1) 0 (fun _=>0) _ oF (fun q=>oF) oF (fun p s hs=>oF) (by simp[WB,e6])
  ·have hno:¬(Dr a b:Int)<=M0:=oF
   simp[hno];exact Ae rfl
  ·have hyes:(Dr a b:Int)<=M0:=oF
   simp[hyes];exact Ae rfl
def Xs(s:Sp):List A:=[iv s.k,iv s.n]
def OY(s:Sp):A:=.agg (Xs s)
@[simp]theorem Aez{s:Sp}:(OY s).cells=Xs s:=rfl
@[simp]theorem AjJ{s:Sp}:(Xs s).length=2:=rfl
theorem m8{l:List Sp}:EN 2 (l.map OY)=true:=by rw[Jj];simp
def zg(l:List Sp)(v:Nat):Fam:=⟨fun r p=>if p=[]then ⟨1,.cells [.osl (r::[0]) v 2 0 l.length]⟩else if p=[0]then ⟨v,.arr 2 (l.map OY)⟩else ⟨0,.none⟩,fun {g δ r r'} hg hd p=>by
  by_cases h1:p=[]
  ·rw[if_pos h1,if_pos h1];refine Fam.cells_ren ?_;simp[A.renL,A.ren,hg,hd]
  ·rw[if_neg h1,if_neg h1];by_cases h2:p=[0]
   ·rw[if_pos h2];refine Fam.arr_ren ?_;have e:∀x:Sp,(OY x).ren g δ=OY x:=fun x=>by simp[OY,Xs,A.ren,A.renL]
    simp only[Cu,List.map_map];refine List.map_congr_left fun x _=>?_;exact e x
   ·rw[if_neg h2];rfl,fun {D r} hD p=>by
  by_cases h1:p=[]
  ·rw[if_pos h1];simp[Ob.refs,A.refsL,A.refs,hD]
  ·rw[if_neg h1];by_cases h2:p=[0]
   ·rw[if_pos h2];simp only[Ob.refs,refsL_iff];intro y hy;obtain⟨x,_,rfl⟩:=List.mem_map.1 hy;simp[A.refs,A.refsL,OY,Xs]
   ·rw[if_neg h2];trivial⟩
@[simp]theorem AlT{l:List Sp}{v r:Nat}{p:Nm}:(zg l v).F r p=if p=[]then ⟨1,.cells [.osl (r::[0]) v 2 0 l.length]⟩else if p=[0]then ⟨v,.arr 2 (l.map OY)⟩else ⟨0,.none⟩:=rfl
abbrev fdP(r:Nat):A:=.pob [r] 1 0
theorem HR(l:List Sp)(v:Nat)(hl:l.length<=100000000)(k n:Nat):SpecF Tryz.prog 180 (fun r=>[fdP r,iv k,iv n]) (zg l v) (fun _=>.tup []) (zg (l++fl k n) (v+(fl k n).length)):=by
 refine Ao SW iS (Ab Aq (Ab Az (Ab Az Ah))) (Ay Ah) fun w0 I0 M0 m0=>?_;unfold L7;by_cases h:0<n
 ·rw[Vp h];simp[h,m8,Aa];refine⟨oF,?_⟩;refine AQ rfl rfl (fun p=>?_);by_cases h1:p=[]<;>by_cases h2:p=[0]<;>simp[h1,h2,Aa,OY,Xs]
  rw[AO iS]
 ·have h0:n=0:=oF
  subst h0;simp;refine AQ rfl rfl (fun p=>iS)
def QB(x:Int)(b:List Int):List Sp:=if DW x b<b.length then fl 2 (DW x b)++(fl 0 1++fl 2 (b.length-DW x b-1))else fl 1 1++fl 2 b.length
theorem jM(x:Int)(b:List Int):Bu (QB x b)=GO [x] b:=by
 rw[Vw];unfold QB;split<;>simp
theorem Js(k n:Nat):(fl k n).length<=1:=by unfold fl;split<;>simp
theorem rX(x:Int)(b:List Int):(QB x b).length<=3:=by
 unfold QB;have:=Js 2 (DW x b);have:=Js 0 1;have:=Js 1 1;have:=Js 2 (b.length-DW x b-1);have:=Js 2 b.length;split<;>simp<;>omega
theorem yI{x:Int}{b:List Int}(hb:b.length<=1000000):∀s,s∈QB x b->s.ok:=by
 intro s hs;have:=QY x b;unfold QB at hs;split at hs<;>simp only[List.mem_append]at hs
 ·rcases hs with hs|hs|hs
  ·exact V6 oF oF s hs
  ·exact V6 oF oF s hs
  ·exact V6 oF oF s hs
 ·rcases hs with hs|hs
  ·exact V6 oF oF s hs
  ·exact V6 oF oF s hs
theorem gQ{x:Int}:∀{b:List Int} {j:Nat},j<=DW x b->(h:j<b.length)->(b[j]=x↔DW x b=j)
 |[],j,_,h=>by simp at h
 |y::b,0,_,h=>by
  unfold DW;by_cases e:x=y
  ·simp[e]
  ·simp[e];exact fun h=>e h.symm
 |y::b,j+1,hj,h=>by
  unfold DW at hj ⊢;by_cases e:x=y
  ·rw[if_pos e]at hj;omega
  ·rw[if_neg e]at hj ⊢;have:=gQ (x:=x) (b:=b) (j:=j) oF (by simpa using h);simp only[List.getElem_cons_succ];omega
section
variable {n0:Nat} {w0:World} {I0:Nat->Prop} {M0:Nm->Nat->Prop} {m0:Mu} {Q:Exit->Sta->Prop}
theorem AcK{l:List Sp}{v:Nat}{x:Int}{b:List Int}{H:Hp}(hl:l.length<=10000000)(hb:b.length<=1000000)(hH:∀p,H (0::p)=(zg l v).F 0 p)
  (hq:DW x b=b.length->∀st,Q (.exit 0) ⟨lk ([(0,fdP 0),(1,iv x),(2,Ge b)]++st),H⟩)
  (hq2:∀H',DW x b<b.length->(∀p,H' (0::p)=(zg (l++QB x b) (v+(QB x b).length)).F 0 p)->∀st,Q .ret ⟨lk st,H'⟩):∀(m j:Nat),j+m=b.length->j<=DW x b ->
  LoopC (DC Tryz.prog w0 I0 M0 n0 m0) FI Q ⟨lk [(0,fdP 0),(1,iv x),(2,Ge b),(8,Ge b),(9,iv b.length),(10,iv j)],H⟩:=by
 have hle:=QY x b;intro m;induction m with
 |zero=>
  intro j hm hj;refine Ad Ai FI.eq_1 ?_;have:j=b.length:=oF
  subst this;simp;exact hq oF [(8,Ge b),(9,iv b.length),(10,iv b.length),(11,bv false)]
 |succ m ih=>
  intro j hm hj;have hlt:j<b.length:=oF
  have e1:=AR j;have hd:=gQ hj hlt;refine Ad Ai FI.eq_1 ?_;by_cases h:x=b[j]
  ·have hf:=hd.1 h.symm;have e2:i64.wrap (i64.wrap ((b.length:Int)-j)-1)=((b.length-j-1:Nat):Int):=by rw[Bq (n:=(b.length:Int)-j) oF oF,Bq oF oF];omega
   have A1:=HR l v oF 2 j;have l1:=Js 2 j;have l2:=Js 0 1;have A2:=HR (l++fl 2 j) (v+(fl 2 j).length) (by simp;omega) 0 1;have A3:=HR (l++fl 2 j++fl 0 1) (v+(fl 2 j).length+(fl 0 1).length) (by simp;omega) 2 (b.length-j-1);simp[hlt,h];refine Ap 0 A1 hH iS iS ?_;simp;refine Ap 0 A2 (fun p=>iS) iS iS ?_;simp[e2];refine Ap 0 A3 (fun p=>iS) iS iS ?_;simp;refine hq2 _ oF (fun p=>?_) _;have eo:QB x b=fl 2 j++(fl 0 1++fl 2 (b.length-j-1)):=by unfold QB;rw[if_pos oF,hf]
   rw[eo];simp[Nat.add_assoc]
  ·have hne:¬DW x b=j:=fun e=>h (hd.2 e).symm;simp[hlt,h,e1];exact ih (j+1) oF oF
end
theorem vD(l:List Sp)(v:Nat)(hl:l.length<=10000000)(x:Int)(b:List Int)(hb:b.length<=1000000):SpecF Tryz.prog 181 (fun r=>[fdP r,iv x,Ge b]) (zg l v) (fun _=>.tup []) (zg (l++QB x b) (v+(QB x b).length)):=by
 refine Ao SY iS (Ab Aq (Ab Az (Ab Bc Ah))) (Ay Ah) fun w0 I0 M0 m0=>?_;unfold L5;simp;refine LoopC.le (Ar [(0,fdP 0),(1,iv x),(2,Ge b),(8,Ge b),(9,iv b.length),(10,iv (0:Nat))] iS) ?_;refine AcK (l:=l) (v:=v) hl hb (fun p=>iS) (fun hn st=>?_) (fun H' hf hH st=>?_) b.length 0 oF oF
 ·have A1:=HR l v oF 1 1;have l1:=Js 1 1;have A2:=HR (l++fl 1 1) (v+(fl 1 1).length) (by simp;omega) 2 b.length;simp;refine Ap 0 A1 (fun p=>iS) iS iS ?_;simp;refine Ap 0 A2 (fun p=>iS) iS iS ?_;simp;have eo:QB x b=fl 1 1++fl 2 b.length:=by unfold QB;rw[if_neg oF]
  rw[eo];refine AQ rfl rfl (fun p=>by simp[Nat.add_assoc])
 ·simp;exact An rfl rfl hH
theorem pU{P:Sp->Prop}{l m:List Sp}(h1:∀s,s∈l->P s)(h2:∀s,s∈m->P s):∀s,s∈l++m->P s:=fun s hs=>(List.mem_append.1 hs).elim (h1 s) (h2 s)
theorem uz:∀(n:Nat)(a b:List Int),a.length<=n->a.length<=1000000->b.length<=1000000->∃sts:List Sp,Bu sts=GO a b/\(∀s,s∈sts->s.ok)/\sts.length<=max 1 (3*a.length) /\
  ∀(l:List Sp)(v:Nat),l.length+3*a.length<=9000000->SpecF Tryz.prog 157 (fun r=>[fdP r,Ge a,Ge b]) (zg l v) (fun _=>.tup []) (zg (l++sts) (v+sts.length)):=by
 intro n;induction n with
 |zero=>
  intro a b hn ha hb;have:=List.eq_nil_of_length_eq_zero (by omega:a.length=0);subst this;refine⟨fl 2 b.length,by rw[eJ];simp,V6 oF oF,by have:=Js 2 b.length;simp;omega,fun l v hl=>?_⟩;have A1:=HR l v (by simp at hl;omega) 1 0;have A2:=HR (l++fl 1 0) (v+(fl 1 0).length) (by simp at hl;simp;omega) 2 b.length;refine Ao FF iS (Ab Aq (Ab Bc (Ab Bc Ah))) (Ay Ah) fun w0 I0 M0 m0=>?_;unfold Eg;simp;refine Ap 0 A1 (fun p=>iS) iS iS ?_;simp;refine Ap 0 A2 (fun p=>iS) iS iS ?_;simp;refine AQ rfl rfl (fun p=>iS)
 |succ n ih=>
  intro a b hn ha hb;by_cases hb0:b=[]
  ·subst hb0;refine⟨fl 1 a.length,by rw[pI];simp,V6 oF oF,by have:=Js 1 a.length;omega,fun l v hl=>?_⟩;have:=Js 1 a.length;have A1:=HR l v oF 1 a.length;have A2:=HR (l++fl 1 a.length) (v+(fl 1 a.length).length) (by simp;omega) 2 0;refine Ao FF iS (Ab Aq (Ab Bc (Ab Bc Ah))) (Ay Ah) fun w0 I0 M0 m0=>?_;unfold Eg;simp;refine Ap 0 A1 (fun p=>iS) iS iS ?_;simp;refine Ap 0 A2 (fun p=>iS) iS iS ?_;simp;refine AQ rfl rfl (fun p=>iS)
  have hbl:0<b.length:=List.length_pos_iff.2 hb0
  match a,hn,ha with
  |[],hn,ha=>
   obtain⟨sts,h⟩:=ih [] b iS ha hb;exact⟨sts,h⟩
  |[x],hn,ha=>
   refine⟨QB x b,jM x b,yI hb,by have:=rX x b;simp;omega,fun l v hl=>?_⟩;have A1:=vD l v (by simp at hl;omega) x b hb;refine Ao FF iS (Ab Aq (Ab Bc (Ab Bc Ah))) (Ay Ah) fun w0 I0 M0 m0=>?_;unfold Eg;simp[hb0];refine Ap 0 A1 (fun p=>iS) iS iS ?_;simp;refine AQ rfl rfl (fun p=>iS)
  |x::y::a',hn,ha=>
   have e0:∃a:List Int,a=x::y::a':=⟨_,rfl⟩;obtain⟨a,ea⟩:=e0;rw[<-ea]at hn ha ⊢;have hal:2<=a.length:=by rw[ea];simp
   clear ea;obtain⟨h,eh⟩:∃h,a.length / 2=h:=⟨_,rfl⟩;have hh:h<=a.length:=oF
   obtain⟨w1,w2,w3⟩:=Iq (a:=a) (b:=b) hh;obtain⟨s1,u1,o1,n1,F1⟩:=ih (a.take h) (b.take (C0 a b h)) (by simp;omega) (by simp;omega) (by simp;omega);obtain⟨s2,u2,o2,n2,F2⟩:=ih (a.drop h) (b.drop (C0 a b h)) (by simp;omega) (by simp;omega) (by simp;omega);simp at n1 n2;refine⟨s1++s2,by rw[JX,u1,u2,<-YO a b hh],pU o1 o2,by simp;omega,fun l v hl=>?_⟩;have G1:=F1 l v (by simp;omega);have G2:=F2 (l++s1) (v+s1.length) (by simp;omega);have hS:=ju (a:=a) (b:=b) hh ha hb;refine Ao FF iS (Ab Aq (Ab Bc (Ab Bc Ah))) (Ay Ah) fun w0 I0 M0 m0=>?_;have c1:¬a=[]:=fun e=>by rw[e]at hal;simp at hal
   have c2:¬a.length=1:=oF
   have c3:¬(a.length:Int)=1:=oF
   have c4:((a.length:Int)).tdiv 2=(h:Int):=by rw[Int.tdiv_eq_ediv_of_nonneg oF];omega
   have c5:i64.wrap (h:Int)=(h:Int):=Ga;unfold Eg;simp[hb0,c1,c2,c3,c4,c5];refine Ag hS iS ?_;simp[hh,w2];refine Ap 0 G1 (fun p=>iS) iS iS ?_;simp[hh,w2];refine Ap 0 G2 (fun p=>iS) (by simp[AO]) iS ?_;simp;refine AQ rfl rfl (fun p=>by simp[Nat.add_assoc])
def jA(g:Nat->Nat):List A:=[iv (g 0),iv (g 1),iv (g 2)]
def gpF(l:List Sp)(v:Nat)(g:Nat->Nat):Fam:=⟨fun r p=>if p=[]then ⟨1,.cells [.osl (r::[0]) v 2 0 l.length]⟩else if p=[0]then ⟨v,.arr 2 (l.map OY)⟩else if p=[1]then ⟨1,.cells (jA g)⟩else ⟨0,.none⟩,fun {γ δ r r'} hg hd p=>by
  by_cases h1:p=[]
  ·rw[if_pos h1,if_pos h1];refine Fam.cells_ren ?_;simp[A.renL,A.ren,hg,hd]
  ·rw[if_neg h1,if_neg h1];by_cases h2:p=[0]
   ·rw[if_pos h2];refine Fam.arr_ren ?_;have e:∀x:Sp,(OY x).ren γ δ=OY x:=fun x=>by simp[OY,Xs,A.ren,A.renL]
    simp only[Cu,List.map_map];refine List.map_congr_left fun x _=>?_;exact e x
   ·rw[if_neg h2];by_cases h3:p=[1]
    ·rw[if_pos h3];refine Fam.cells_ren ?_;simp[A.renL,A.ren,jA]
    ·rw[if_neg h3];rfl,fun {D r} hD p=>by
  by_cases h1:p=[]
  ·rw[if_pos h1];simp[Ob.refs,A.refsL,A.refs,hD]
  ·rw[if_neg h1];by_cases h2:p=[0]
   ·rw[if_pos h2];simp only[Ob.refs,refsL_iff];intro y hy;obtain⟨x,_,rfl⟩:=List.mem_map.1 hy;simp[A.refs,A.refsL,OY,Xs]
   ·rw[if_neg h2];by_cases h3:p=[1]
    ·rw[if_pos h3];simp[Ob.refs,A.refsL,A.refs,jA]
    ·rw[if_neg h3];trivial⟩
@[simp]theorem AlY{l:List Sp}{v r:Nat}{g:Nat->Nat}{p:Nm}:(gpF l v g).F r p=if p=[]then ⟨1,.cells [.osl (r::[0]) v 2 0 l.length]⟩else if p=[0]then ⟨v,.arr 2 (l.map OY)⟩else if p=[1]then ⟨1,.cells (jA g)⟩else ⟨0,.none⟩:=rfl
def TL:List Nat->(Nat->Nat)->List Sp
 |[],_=>[]
 |k::ks,g=>fl k (g k)++TL ks (fun q=>if q=k then 0 else g q)
def R5:List Nat->(Nat->Nat)->Nat->Nat
 |[],g=>g
 |k::ks,g=>R5 ks (fun q=>if q=k then 0 else g q)
abbrev nvs(ks:List Nat):A:=.sl true (ks.map fun k:Nat=>iv (k:Int))
theorem jZ(s:Sp):G.Spec Tryz.prog 159 [OY s] (bv (decide (s.k<=2/\1<=s.n/\s.n<=1048576))):=by
 refine Ak Pd iS fun w0 I0=>?_;unfold Jx;have m0:(0:Int)<=(s.k:Int):=oF
 by_cases h1:s.k<=2
 ·by_cases h2:1<=s.n
  ·by_cases h3:s.n<=1048576
   ·simp[OY,Xs,m0,h1,h2,h3,show(s.k:Int)<=2 by omega,show(1:Int)<=s.n by omega,show(s.n:Int)<=1048576 by omega];exact Ae rfl
   ·simp[OY,Xs,m0,h1,h2,h3,show(s.k:Int)<=2 by omega,show(1:Int)<=s.n by omega,show ¬(s.n:Int)<=1048576 by omega];exact Ae rfl
  ·simp[OY,Xs,m0,h1,h2,show(s.k:Int)<=2 by omega,show ¬(1:Int)<=s.n by omega];exact BA iS
 ·simp[OY,Xs,m0,h1,show ¬(s.k:Int)<=2 by omega];exact Ae rfl
section
variable {n0:Nat} {w0:World} {I0:Nat->Prop} {M0:Nm->Nat->Prop} {m0:Mu} {Q:Exit->Sta->Prop}
theorem wT{ks:List Nat}(hks:∀k,k∈ks->k<=2)(hkl:ks.length<=1000){l0:List Sp}{v0:Nat}{g0:Nat->Nat}(hq:∀H' st,(∀p,H' (0::p)=(gpF (l0++TL ks g0) (v0+(TL ks g0).length) (R5 ks g0)).F 0 p)->Q (.exit 0) ⟨lk st,H'⟩):∀(m j:Nat)(l:List Sp)(v:Nat)(g:Nat->Nat)(H:Hp),j+m=ks.length->l.length+m<=100000000->(∀p,H (0::p)=(gpF l v g).F 0 p)->l0++TL ks g0=l++TL (ks.drop j) g->v0+(TL ks g0).length=v+(TL (ks.drop j) g).length->R5 ks g0=R5 (ks.drop j) g ->
  LoopC (DC Tryz.prog w0 I0 M0 n0 m0) E9 Q ⟨lk [(1,.pob [0,1] 1 0),(2,.pob [0] 1 0),(6,nvs ks),(7,iv ks.length),(8,iv j)],H⟩:=by
 intro m;induction m with
 |zero=>
  intro j l v g H hm hl hH e1 e2 e3;refine Ad Ai E9.eq_1 ?_;have:j=ks.length:=oF
  subst this;rw[List.drop_length]at e1 e2 e3;simp;refine hq H _ fun p=>?_;rw[e1,e2,e3,hH];simp[TL,R5]
 |succ m ih=>
  intro j l v g H hm hl hH e1 e2 e3;have hlt:j<ks.length:=oF
  have ew:=AR j;have hd:ks.drop j=ks[j]::ks.drop (j+1):=(List.getElem_cons_drop hlt).symm;rw[hd]at e1 e2 e3;have hk:=hks _ (De hlt);generalize hkk:ks[j]=k at *;simp only[TL,R5]at e1 e2 e3;have hH0:=hH [];have hH1:=hH [0];have hH2:=hH [1];simp at hH0 hH1 hH2;refine Ad Ai E9.eq_1 ?_;have hk3:k=0\/k=1\/k=2:=oF
  by_cases h:0<g k
  ·rw[Vp h]at e1 e2;have next:=fun (H':Hp) hF=>ih (j+1) (l++[⟨k,g k⟩]) (v+1) (fun q=>if q=k then 0 else g q) H' oF (by simp;omega) hF (by rw[e1];simp) (by rw[e2];simp;omega) e3
   rcases hk3 with rfl|rfl|rfl;all_goals
    simp[hlt,hkk,hH0,hH1,hH2,jA,h,ew,Aa,m8];refine⟨oF,?_⟩;refine next _ (fun p=>?_)
    by_cases h1:p=[]
    ·subst h1;simp[Aa]
    ·by_cases h2:p=[0]
     ·subst h2;simp[Aa,OY,Xs,AO]
     ·by_cases h3:p=[1]
      ·subst h3;simp[Aa,jA]
      ·simp[h1,h2,h3,Aa,hH]
  ·have h0:g k=0:=oF
   rw[h0]at e1 e2;rcases hk3 with rfl|rfl|rfl;all_goals
    simp[hlt,hkk,hH0,hH1,hH2,jA,h0,ew,Aa];refine ih (j+1) l v _ _ oF oF (fun p=>?_) (by rw[e1];simp) (by rw[e2];simp) e3;by_cases h1:p=[]
    ·subst h1;simp[Aa,hH0]
    ·by_cases h2:p=[0]
     ·subst h2;simp[Aa,hH1]
     ·by_cases h3:p=[1]
      ·subst h3;simp[Aa,jA]
      ·simp[h1,h2,h3,Aa,hH]
end
theorem Mz{ks:List Nat}(hks:∀k,k∈ks->k<=2)(hkl:ks.length<=1000)(l:List Sp)(v:Nat)(g:Nat->Nat)(hl:l.length<=10000000):SpecF Tryz.prog 158 (fun r=>[nvs ks,.pob (r::[1]) 1 0,.pob [r] 1 0]) (gpF l v g) (fun _=>.tup []) (gpF (l++TL ks g) (v+(TL ks g).length) (R5 ks g)):=by
 refine Ao RA iS (Ab Bc (Ab Aq (Ab Aq Ah))) (Ay Ah) fun w0 I0 M0 m0=>?_;unfold Kx;simp;refine LoopC.le (Ar [(1,.pob [0,1] 1 0),(2,.pob [0] 1 0),(6,nvs ks),(7,iv ks.length),(8,iv (0:Nat))] iS) ?_;refine wT hks hkl (l0:=l) (v0:=v) (g0:=g) (fun H' st hH=>?_) ks.length 0 l v g _ oF oF (fun p=>iS) iS iS iS;simp;exact AQ rfl rfl hH
abbrev zL:A:=.fnc 158 [] [.pob [0,1] 1 0,.pob [0] 1 0]
abbrev fV(l:List Sp):A:=.sl false (l.map OY)
theorem x5(g:Nat->Nat):QA [] (g 0) (g 1) (g 2)=TL [0,1,2] g:=by simp[QA,TL]
theorem UK(ks:List Nat)(g:Nat->Nat):(TL ks g).length<=ks.length:=by
 induction ks generalizing g with
 |nil=>simp[TL]
 |cons k ks ih=>
  have:=ih (fun q=>if q=k then 0 else g q);have:=Js k (g k);simp[TL];omega
theorem cj:∀(ks:List Nat)(g:Nat->Nat)(B q:Nat),(∀q,g q<=B)->R5 ks g q<=B
 |[],g,B,q,h=>h q
 |k::ks,g,B,q,h=>cj ks _ B q fun q=>by
  show(if q=k then 0 else g q)<=B;split
  ·omega
  ·exact h q
theorem yi{n0:Nat}{w0:World}{I0:Nat->Prop}{Q:Exit->Sta->Prop}{all:List Sp}(hok:∀s,s∈all->s.may)(hal:all.length<=1000000){R:List Sp}
  (hq:∀(H':Hp)(out:List Sp)(v:Nat)(g:Nat->Nat) st,(∀p,H' (0::p)=(gpF out v g).F 0 p)->out++TL [0,1,2] g=R->out.length<=2000000->Q (.exit 0) ⟨lk ([(3,.pob [0] 1 0),(4,.pob [0,1] 1 0),(5,zL)]++st),H'⟩):∀(m i:Nat)(out:List Sp)(v:Nat)(g:Nat->Nat)(H:Hp),i+m=all.length->out.length<=2*i->(∀q,g q<=i*1048576)->(g 0=0\/(g 1=0/\g 2=0))->(∀p,H (0::p)=(gpF out v g).F 0 p)->out++QA (Bu (all.drop i)) (g 0) (g 1) (g 2)=R ->
  LoopC (cx Tryz.prog w0 I0 n0) ED Q ⟨lk [(3,.pob [0] 1 0),(4,.pob [0,1] 1 0),(5,zL),(9,fV all),(10,iv all.length),(11,iv i)],H⟩:=by
 intro m;induction m with
 |zero=>
  intro i out v g H hm hl hg h01 hH hR;refine Ad Ai ED.eq_1 ?_;have:i=all.length:=oF
  subst this;rw[List.drop_length,JY,x5]at hR;simp;exact hq H out v g [(9,fV all),(10,iv all.length),(11,iv all.length),(12,bv false)] hH hR oF
 |succ m ih=>
  intro i out v g H hm hl hg h01 hH hR;have hlt:i<all.length:=oF
  have ew:=AR i;have hd:all.drop i=all[i]::all.drop (i+1):=(List.getElem_cons_drop hlt).symm;have hs:=hok _ (De hlt);rw[hd,BF]at hR;generalize hss:all[i]=s at *;have hsr:=jZ s;have hg0:=hg 0;have hg1:=hg 1;have hg2:=hg 2;refine Ad Ai ED.eq_1 ?_;have hspC:Xs s=[iv s.k,iv s.n]:=rfl;simp[hlt,hss,hspC];refine Ag hsr (by simp[OY,Xs,Aa]) ?_;by_cases hn:1<=s.n
  ·have hdec:decide (s.k<=2/\1<=s.n/\s.n<=1048576)=true:=by have:=hs.1;have:=hs.2;simp;omega
   simp[hdec,Aa];have next:∀(o2:List Sp)(v2:Nat)(g2:Nat->Nat)(H2:Hp),o2.length<=out.length+2->(∀q,g2 q<=(i+1)*1048576)->(g2 0=0\/(g2 1=0/\g2 2=0))->(∀p,H2 (0::p)=(gpF o2 v2 g2).F 0 p)->o2++QA (Bu (all.drop (i+1))) (g2 0) (g2 1) (g2 2)=R->LoopC (cx Tryz.prog w0 I0 n0) ED Q ⟨lk [(3,.pob [0] 1 0),(4,.pob [0,1] 1 0),(5,zL),(9,fV all),(10,iv all.length),(11,iv (i+1:Nat))],H2⟩:=fun o2 v2 g2 H2 h1 h2 h3 h4 h5=>ih (i+1) o2 v2 g2 H2 oF oF h2 h3 h4 h5
   have hk3:s.k=0\/s.k=1\/s.k=2:=by have:=hs.1;omega
   rcases hk3 with hk|hk|hk
   ·have F1:=Mz (ks:=[1,2]) iS iS out v g oF;have hlen:=UK [1,2] g;rw[hk,gL s.n _ _ _ _ oF oF]at hR;have ev:i64.wrap ((g 0:Int)+s.n)=((g 0+s.n:Nat):Int):=by have:=hs.2;rw[Bq oF oF];omega
    simp[hk];refine U0 0 rfl F1 (fun p=>by simp[Aa,hH]) iS iS ?_;simp;rw[Gm.eq_1];simp[Aa,jA,R5,ew,ev,hk];refine next (out++TL [1,2] g) (v+(TL [1,2] g).length) (fun q=>if q=0 then g 0+s.n else R5 [1,2] g q) _ (by simp at hlen;simp;omega) (fun q=>?_) ?_ (fun p=>?_) ?_
    ·have hb:∀(ks:List Nat)(g:Nat->Nat)(B q:Nat),(∀q,g q<=B)->R5 ks g q<=B:=cj;show(if q=0 then g 0+s.n else R5 [1,2] g q)<=_;have h3:=hs.2;split
     ·omega
     ·exact Nat.le_trans (hb _ g _ q hg) (Nat.mul_le_mul_right _ oF)
    ·simp[R5]
    ·by_cases h1:p=[]
     ·subst h1;simp[Aa]
     ·by_cases h2:p=[0]
      ·subst h2;simp[Aa]
      ·by_cases h3:p=[1]
       ·subst h3;simp[Aa,jA,R5]
       ·simp[h1,h2,h3,Aa]
    ·simp only[R5,TL]at hR ⊢;simpa using hR
   ·have F1:=Mz (ks:=[0]) iS iS out v g oF;have hlen:=UK [0] g;rw[hk,aR s.n _ _ _ _ oF]at hR;have ev:i64.wrap ((g 1:Int)+s.n)=((g 1+s.n:Nat):Int):=by have:=hs.2;rw[Bq oF oF];omega
    simp[hk];refine U0 0 rfl F1 (fun p=>by simp[Aa,hH]) iS iS ?_;simp;rw[Gm.eq_1];simp[Aa,jA,R5,ew,ev,hk];refine next (out++TL [0] g) (v+(TL [0] g).length) (fun q=>if q=1 then g 1+s.n else R5 [0] g q) _ (by simp at hlen;simp;omega) (fun q=>?_) ?_ (fun p=>?_) ?_
    ·have hb:∀(ks:List Nat)(g:Nat->Nat)(B q:Nat),(∀q,g q<=B)->R5 ks g q<=B:=cj;show(if q=1 then g 1+s.n else R5 [0] g q)<=_;have h3:=hs.2;split
     ·omega
     ·exact Nat.le_trans (hb _ g _ q hg) (Nat.mul_le_mul_right _ oF)
    ·simp[R5]
    ·by_cases h1:p=[]
     ·subst h1;simp[Aa]
     ·by_cases h2:p=[0]
      ·subst h2;simp[Aa]
      ·by_cases h3:p=[1]
       ·subst h3;simp[Aa,jA,R5]
       ·simp[h1,h2,h3,Aa]
    ·simp only[R5,TL]at hR ⊢;simpa using hR
   ·have F1:=Mz (ks:=[0]) iS iS out v g oF;have hlen:=UK [0] g;rw[hk,UF s.n _ _ _ _ oF]at hR;have ev:i64.wrap ((g 2:Int)+s.n)=((g 2+s.n:Nat):Int):=by have:=hs.2;rw[Bq oF oF];omega
    simp[hk];refine U0 0 rfl F1 (fun p=>by simp[Aa,hH]) iS iS ?_;simp;rw[Gm.eq_1];simp[Aa,jA,R5,ew,ev,hk];refine next (out++TL [0] g) (v+(TL [0] g).length) (fun q=>if q=2 then g 2+s.n else R5 [0] g q) _ (by simp at hlen;simp;omega) (fun q=>?_) ?_ (fun p=>?_) ?_
    ·have hb:∀(ks:List Nat)(g:Nat->Nat)(B q:Nat),(∀q,g q<=B)->R5 ks g q<=B:=cj;show(if q=2 then g 2+s.n else R5 [0] g q)<=_;have h3:=hs.2;split
     ·omega
     ·exact Nat.le_trans (hb _ g _ q hg) (Nat.mul_le_mul_right _ oF)
    ·simp[R5]
    ·by_cases h1:p=[]
     ·subst h1;simp[Aa]
     ·by_cases h2:p=[0]
      ·subst h2;simp[Aa]
      ·by_cases h3:p=[1]
       ·subst h3;simp[Aa,jA,R5]
       ·simp[h1,h2,h3,Aa]
    ·simp only[R5,TL]at hR ⊢;simpa using hR
  ·have hdec:decide (s.k<=2/\1<=s.n/\s.n<=1048576)=false:=by simp;omega
   have h0:s.n=0:=oF
   simp[hdec,ew,Aa,Co];refine ih (i+1) out v g _ oF oF (fun q=>Nat.le_trans (hg q) (Nat.mul_le_mul_right _ oF)) h01 (fun p=>?_) ?_
   ·simp[Aa,hH]
   ·rw[h0]at hR;simpa using hR
theorem wP{H:Hp}{o:Nm}{u n:Nat}{l:List Sp}(h:H o=⟨u,.arr 2 (l.map OY)⟩)(hn:n=l.length):qy H (.osl o u 2 0 n) (fV l):=by
 subst hn;have:=QR (H:=H) (o:=o) (u:=u) (off:=0) (len:=l.length) (sz:=2) (xs:=l.map OY) (by simp[h]) iS (by
  simp only[List.drop_zero,List.all_eq_true];intro x hx;obtain⟨s,_,rfl⟩:=List.mem_map.1 (QD hx);rfl)
 rw[List.drop_zero,AO iS]at this;exact this
theorem WN{all:List Sp}(hok:∀s,s∈all->s.may)(hal:all.length<=1000000):SpecB Tryz.prog 122 [fV all] (fV (Lb (Bu all))):=by
 refine LW Uq iS fun w0 I0=>?_;unfold MV;simp;refine LoopC.le (BO (d:=[0]) (u:=1) (cs:=[.sl true []]) 0 [0,0] 2 rfl rfl iS) ?_;refine LoopC.le (Ar [(3,.pob [0] 1 0),(4,.pob [0,1] 1 0),(5,zL),(9,fV all),(10,iv all.length),(11,iv (0:Nat))] iS) ?_;refine yi hok hal (R:=Lb (Bu all)) (fun H' out v g st hH hR hl=>?_) all.length 0 [] 1 (fun _=>0) _ oF iS (fun q=>oF) (.inl rfl) (fun p=>?_) (by simp[Lb])
 ·have F1:=Mz (ks:=[0,1,2]) iS iS out v g oF;have hlen:=UK [0,1,2] g;simp;refine U0 0 rfl F1 hH iS iS ?_;simp;rw[<-hR];exact wP iS iS
 ·by_cases h1:p=[]
  ·subst h1;simp[Aa]
  ·by_cases h2:p=[0]
   ·subst h2;simp[Aa]
   ·by_cases h3:p=[1]
    ·subst h3;simp[Aa,jA]
    ·simp[h1,h2,h3,Ne.symm h1,Ne.symm h2,Ne.symm h3,Aa]
theorem qH{all:List Sp}(hok:∀s,s∈all->s.may)(hal:all.length<=1000000):G.Spec Tryz.prog 122 [fV all] (fV (Lb (Bu all))):=(WN hok hal).spec
theorem Acw{s:Sp}(h:s.ok):s.may:=⟨h.1,h.2.2⟩
theorem kC{a b:List Int}(ha:a.length<=300000)(hb:b.length<=1000000){M0:Int}(hM0:BD M0):G.Spec Tryz.prog 121 [Ge a,Ge b,iv M0] (if (Dr a b:Int)<=M0 then .tup [fV (Lb (GO a b)),bv true]else .tup [.sl false [],bv false]):=by
 obtain⟨d,hD⟩:=qI (a:=a) (b:=b) oF hb hM0;obtain⟨sts,h1,h2,h3,h4⟩:=uz a.length a b (CX _) oF hb;have hN:=WN (all:=sts) (fun s hs=>Acw (h2 s hs)) oF;rw[h1]at hN;refine Ak kK iS fun w0 I0=>?_;unfold Wp;simp;refine Ag hD iS ?_;by_cases h:(Dr a b:Int)<=M0
 ·have hF:=h4 [] 1 (by simp;omega);simp[h];refine GP (BO (d:=[0]) (u:=1) (cs:=[.sl true []]) 0 [0,0] 2 rfl rfl iS) (Gk ?_);simp;refine Ap 0 hF (fun p=>?_) iS iS ?_
  ·by_cases h1:p=[]
   ·subst h1;simp[Aa]
   ·by_cases h2:p=[0]
    ·subst h2;simp[Aa]
    ·simp[h1,h2,Ne.symm h1,Ne.symm h2,Aa]
  ·simp;refine im [fV sts] hN (by simp;exact CI (l:=sts) (f:=OY) iS rfl (fun x=>rfl)) iS ?_;simp;exact Ae rfl
 ·simp[h];exact EZ (by simp;exact⟨Am,Ae rfl⟩)
theorem Yg{α:Type}{f:α->A}(h:∀x,(f x).cells=[f x])(l:List α):(l.map f).flatMap A.cells=l.map f:=by
 induction l with
 |nil=>rfl
 |cons x l ih=>simp[ih,h]
end Go.Proofs.YtlaapfplenlfaaaGreat
namespace Go.PL
open Go
def Hb(list:Int)(e:E):Bool:=decide (e.kind=0)|| (decide (list=9)&&decide (e.kind=2)&&e.words.isEmpty&&e.kids.isEmpty)
def DX(g:List T):List OP:=if g=[]then []else [.mk 1 0 g E0]
def Cm(b:List T):List OP:=if b=[]then []else [.mk 2 0 b E0]
def Ji(out:List OP)(g b:List T):List OP:=out++(DX g++Cm b)
def Ni(out:List OP)(n:Int):List OP:=match out.getLast? with
 |some (.mk 0 m l e)=>out.dropLast++[.mk 0 (i64.wrap (m+n)) l e]
 |_=>out++[.mk 0 n [] E0]
def Dw(list:Int):List OP->List OP->List T->List T->List OP
 |[],out,g,b=>Ji out g b
 |o::os,out,g,b=>
  if o.kind=0 then Dw list os (Ni (Ji out g b) o.n) [] []
  else if o.kind=1 then Dw list os out (g++o.l.map Af) b
  else if o.kind=2 then Dw list os out g (b++o.l.map Af)
  else if Hb list o.e=true then Dw list os (Ni (Ji out g b) 1) [] []
  else Dw list os (Ji out g b++[.mk 3 0 [] o.e]) [] []
mutual
def Hn:E->E
 |.mk k o n ws ks l os=>if k=1 then .mk 1 (Af o) (Af n) [] [] 0 []else if k=2 then .mk 2 T0 T0 ws (sn ks) 0 []else if k=3 then .mk 3 T0 T0 [] [] l (Dw l (sK os) [] [] [])else E0
def sn:List KE->List KE
 |[]=>[]
 |.mk a e::l=>.mk a (Hn e)::sn l
def sK:List OP->List OP
 |[]=>[]
 |.mk k n t e::l=>.mk k n t (Hn e)::sK l
end
def Xf(x:KE):KE:=.mk x.at_ (Hn x.e)
def IY(x:OP):OP:=.mk x.kind x.n x.l (Hn x.e)
theorem cS:∀l,sn l=l.map Xf
 |[]=>by simp[sn]
 |.mk a e::l=>by rw[sn,cS l];rfl
theorem fK:∀l,sK l=l.map IY
 |[]=>by simp[sK]
 |.mk k n t e::l=>by rw[sK,fK l];rfl
theorem EA(k:Int)(o n:T)(ws:List WE)(ks:List KE)(l:Int)(os:List OP):Hn (.mk k o n ws ks l os)=if k=1 then .mk 1 (Af o) (Af n) [] [] 0 []else if k=2 then .mk 2 T0 T0 ws (ks.map Xf) 0 []else if k=3 then .mk 3 T0 T0 [] [] l (Dw l (os.map IY) [] [] [])else E0:=by
 rw[Hn,cS,fK]
end Go.PL
namespace Go.Proofs.YtlaapfplenlfaaaGreat
set_option maxRecDepth 20000
open Go Go.G Go.Proofs
@[simp]theorem AfM:BQ Tryz.prog 30=some (Value.agg #[Value.int i64 0,Value.int i64 0,Value.slice none 0 0,Value.slice none 0 0,Value.int i64 0,Value.slice none 0 0,Value.slice none 0 0,Value.slice none 0 0,Value.slice none 0 0,Value.int i64 0,Value.slice none 0 0]):=by kernel_rfl
@[simp]theorem ri:Aj Tryz.prog 148 0=some 0:=by kernel_rfl
@[simp]theorem qU:Aj Tryz.prog 148 1=some 1:=by kernel_rfl
@[simp]theorem qL:Aj Tryz.prog 148 2=some 2:=by kernel_rfl
@[simp]theorem rJ:Aj Tryz.prog 156 0=some 0:=by kernel_rfl
@[simp]theorem Adn(ps:List (Nat × A)):Cz Tryz.prog 30 ps=(Dm (fun i=>([(0,1),(1,3),(4,3),(7,1),(8,1),(9,1),(10,1)]:List (Nat × Nat))[i]?) [iv 0,iv 0,A.sl true [],A.sl true [],iv 0,A.sl true [],A.sl true [],A.sl true [],A.sl true [],iv 0,A.sl true []] ps).map A.agg:=by kernel_rfl
@[simp]theorem Adr(ps:List (Nat × A)):Cz Tryz.prog 85 ps=(Dm (fun i=>([(0,1),(1,1),(2,1),(3,1)]:List (Nat × Nat))[i]?) [iv 0,A.v (Value.int IntKind.u8 0),A.v (Value.int u64 0),A.v (Value.int u64 0)] ps).map A.agg:=by kernel_rfl
@[simp]theorem Aem(ps:List (Nat × A)):Cz Tryz.prog 88 ps=(Dm (fun i=>([(0,1),(1,11)]:List (Nat × Nat))[i]?) [iv 0,iv 0,iv 0,A.sl true [],A.sl true [],iv 0,A.sl true [],A.sl true [],A.sl true [],A.sl true [],iv 0,A.sl true []] ps).map A.agg:=by kernel_rfl
@[simp]theorem AdY(ps:List (Nat × A)):Cz Tryz.prog 91 ps=(Dm (fun i=>([(0,1),(1,1),(2,1),(3,11)]:List (Nat × Nat))[i]?) [iv 0,iv 0,A.sl true [],iv 0,iv 0,A.sl true [],A.sl true [],iv 0,A.sl true [],A.sl true [],A.sl true [],A.sl true [],iv 0,A.sl true []] ps).map A.agg:=by kernel_rfl
@[simp]theorem Ab0(ps:List (Nat × A)):Cz Tryz.prog 148 ps=(Dm (fun i=>([(0,1),(1,1),(2,1)]:List (Nat × Nat))[i]?) [A.sl true [],A.sl true [],A.sl true []] ps).map A.agg:=by kernel_rfl
@[simp]theorem AbM(ps:List (Nat × A)):Cz Tryz.prog 156 ps=(Dm (fun i=>([(0,1)]:List (Nat × Nat))[i]?) [A.sl true []] ps).map A.agg:=by kernel_rfl
def Iw:CC:=sR [bQ .lss 6 3 5 8 3] [0,2,3,5,6] (.seq (cD 6 (.skip) (.exit 0)) (.keep [0,2,3,5] (.seq (.block 1 (sR [mO 7 5,aO 4 7] [0,2,3,4,5] (.reg [mO 8 4,mO 9 0,mO 10 4,oO 11 (.binOp .mul 3 (nI 8) (xT 10) 3),bB .shr 12 61 9 11 3,oO 13 (.convert 61 5 (xT 12)),iO 14 170 3 8,sT 5 14 13] [0,2,3,5]))) (.reg [bQ .add 15 3 5 1 3,mO 5 15] [0,2,3,5])))) 
def RF:CC:=sR [aL 2 170 [0]] [0,2] (sR [aL 3 170 [1]] [0,2,3] (sQ [oO 5 (.move (nI 0))] [0,2,3,5] (.block 0 (.loop Iw)) [2,3] (sR [lO 16 170 3,sT 170 2 16] [2] (.ret))))
theorem bW:BT Tryz.prog 178 17 [(.cell 2 170)] RF:=AA Tryz.func178
def HL:CC:=sR [bQ .lss 13 3 12 8 3] [5,11,12,13] (.seq (cD 13 (.skip) (.exit 0)) (.keep [5,11,12] (.seq (.block 1 (sR [mO 14 12,oO 15 (.index 170 (xT 11) (xT 12)),aO 6 14,aO 7 15] [5,6,7,11,12] (sR [mO 16 7,oO 17 (.binOp .neq 5 (xT 16) (.const (.int .u8 0)) 5)] [5,6,11,12,17] (cD 17 (.reg [mO 18 5,mO 19 6,oO 20 (.binOp .shl 5 (.const (.int .u8 1)) (xT 19) 3),bB .or 21 5 18 20 5,aO 5 21] [5,11,12]) (.skip))))) (.keep [5,11,12] (.reg [bQ .add 22 3 12 1 3,mO 12 22] [5,11,12]))))) 
def PX:CC:=sR [oO 4 (.assign (.const (.int .u8 0)))] [0,1] (sR [oO 5 (.assign (.const (.int .u8 0)))] [0,1,5] (sQ [mO 8 0,mO 9 1,bB .xor 10 61 8 9 61,cA 11 178 10 61,oO 12 (.move (nI 0))] [5,11,12] (.block 0 (.loop HL)) [5] (sR [mO 23 5,aO 4 23] [4] (.ret))))
theorem XR:BT Tryz.prog 155 24 [(.tmp 4)] PX:=AA Tryz.func155
def PB:CC:=sR [bX 3 30 1 [0],aB 4 false] [0,3] (sR [fO 5 30 3 0,lO 6 3 5,bQ .eql 7 3 6 0 3,mO 8 7,mG 9 0 8 false,oG 10 (.binOp .eql 3 (xT 9) (nI 9) 3) 8 false,mG 11 10 8 false,fG 12 30 3 0 11 true,lG 13 3 12 11 true,oG 14 (.binOp .eql 3 (xT 13) (nI 2) 3) 11 true,oG 15 (.pick (xT 11) (xT 14) (nB false)) 8 false,mG 16 15 8 false,fG 17 30 3 3 16 true,lG 18 26 17 16 true,oG 19 (bL 18 26) 16 true,fG 20 30 3 4 16 true,lG 21 27 20 16 true,oG 22 (bL 21 27) 16 true,oG 23 (bO .add 3 19 22 3) 16 true,oG 24 (.binOp .eql 3 (xT 23) (nI 0) 3) 16 true,oG 25 (.pick (xT 16) (xT 24) (nB false)) 8 false,pT 26 8 25,aO 4 26] [4] (.ret))
theorem XM:BT Tryz.prog 117 27 [(.tmp 4)] PB:=AA Tryz.func117
def HI:CC:=sR [bB .lss 9 3 8 7 3] [0,6,7,8,9] (.seq (cD 9 (.skip) (.exit 0)) (.keep [0,6,7,8] (.seq (.block 1 (sR [iO 10 23 6 8,lO 11 25 10,aL 5 25 [1],sT 25 5 11] [0,5,6,7,8] (.reg [mO 12 0,nC 13 12,lS 14 23 13 2,lS 15 25 5 3,⟨some 16,(cL 35 #[(xT 15)] #[25]),none,[],4,[2],true⟩,bN 17 14 23,⟨some 18,(.buildSlice 23 1 #[(0,(.const (.agg #[(.int .i64 0),(.slice none 0 0),(.slice none 0 0)])))]),none,[],6,[2,3,4],false⟩,aP 19 14 18 23 23 [2],iO 20 23 19 17,⟨none,(.store 25 (xT 20) (xT 16)),none,[],9,[],true⟩,nC 21 12,⟨none,(.store 23 (xT 21) (xT 19)),none,[],11,[9],false⟩] [0,6,7,8]))) (.reg [bQ .add 22 3 8 1 3,mO 8 22] [0,6,7,8])))) 
def Lv:CC:=sR [mO 6 1,bN 7 6 23,oO 8 (.move (nI 0))] [0,6,7,8] (.block 0 (.loop HI))
theorem Pv:BT Tryz.prog 116 23 [] Lv:=AA Tryz.func116
def CE:CC:=sQ [mO 23 0,nC 24 23,fO 25 148 24 2,lO 26 23 25,bN 27 26 23,bQ .gtr 28 3 27 0 3] [0,28] (cD 28 (.reg [mO 29 0,nC 30 29,fO 31 148 30 0,lS 32 28 31 3,mO 33 0,nC 34 33,fO 35 148 34 2,lS 36 23 35 7,oO 37 (.build 91 #[(0,(nI 2)),(2,(xT 36))]),bN 38 32 28,⟨some 39,(.buildSlice 28 1 #[(0,(.const (.agg #[(.int .i64 0),(.int .i64 0),(.slice none 0 0),(.int .i64 0),(.int .i64 0),(.slice none 0 0),(.slice none 0 0),(.int .i64 0),(.slice none 0 0),(.slice none 0 0),(.slice none 0 0),(.slice none 0 0),(.int .i64 0),(.slice none 0 0)])))]),none,[],10,[3,7],false⟩,aP 40 32 39 28 28 [2],iO 41 28 40 38,⟨none,(.store 91 (xT 41) (xT 37)),none,[],13,[],true⟩,nC 42 29,fO 43 148 42 0,⟨none,(.store 28 (xT 43) (xT 40)),none,[],16,[13],false⟩] [0]) (.skip)) [0] (.reg [mO 44 0,mO 45 0,nC 46 44,fO 47 148 46 1,oS (.store 23 (xT 47) nS),nC 48 45,fO 49 148 48 2,oS (.store 23 (xT 49) nS)] []) 
def H6:CC:=sQ [mO 2 0,nC 3 2,fO 4 148 3 1,lO 5 23 4,bN 6 5 23,bQ .gtr 7 3 6 0 3] [0,7] (cD 7 (.reg [mO 8 0,nC 9 8,fO 10 148 9 0,lS 11 28 10 3,mO 12 0,nC 13 12,fO 14 148 13 1,lS 15 23 14 7,oO 16 (.build 91 #[(0,(nI 1)),(2,(xT 15))]),bN 17 11 28,⟨some 18,(.buildSlice 28 1 #[(0,(.const (.agg #[(.int .i64 0),(.int .i64 0),(.slice none 0 0),(.int .i64 0),(.int .i64 0),(.slice none 0 0),(.slice none 0 0),(.int .i64 0),(.slice none 0 0),(.slice none 0 0),(.slice none 0 0),(.slice none 0 0),(.int .i64 0),(.slice none 0 0)])))]),none,[],10,[3,7],false⟩,aP 19 11 18 28 28 [1],iO 20 28 19 17,⟨none,(.store 91 (xT 20) (xT 16)),none,[],13,[],true⟩,nC 21 8,fO 22 148 21 0,⟨none,(.store 28 (xT 22) (xT 19)),none,[],16,[13],false⟩] [0]) (.skip)) [0] CE
theorem Nk:BT Tryz.prog 118 50 [] H6:=AA Tryz.func118
def Gb:CC:=sR [mO 5 0,cA 6 118 5 146] [0,1] (sQ [mO 7 0,nC 8 7,fO 9 148 8 0,lO 10 28 9,bN 11 10 28,bQ .sub 12 3 11 1 3,aO 4 12] [0,1,4] (sR [mO 13 4,bQ .geq 14 3 13 0 3,mO 15 14,mG 16 0 15 true,oG 17 (.nilCheck (xT 16)) 15 true,fG 18 148 17 0 15 true,lG 19 28 18 15 true,mG 20 4 15 true,oG 21 (iA 28 19 20) 15 true,fG 22 91 21 0 15 true,lG 23 3 22 15 true,oG 24 (.binOp .eql 3 (xT 23) (nI 0) 3) 15 true,pF 25 15 24] [0,1,4,25] (cD 25 (sR [mO 26 0,nC 27 26,fO 28 148 27 0,lO 29 28 28,mO 30 4,iO 31 28 29 30,fO 32 91 31 1,lO 33 3 32,mO 34 1,bB .add 35 3 33 34 3,iO 36 28 29 30,fO 37 91 36 1,sT 3 37 35] [] (.ret)) (.skip))) [0,1] (.reg [mO 38 0,nC 39 38,fO 40 148 39 0,lS 41 28 40 3,mO 42 1,oO 43 (.build 91 #[(0,(nI 0)),(1,(xT 42))]),bN 44 41 28,⟨some 45,(.buildSlice 28 1 #[(0,(.const (.agg #[(.int .i64 0),(.int .i64 0),(.slice none 0 0),(.int .i64 0),(.int .i64 0),(.slice none 0 0),(.slice none 0 0),(.int .i64 0),(.slice none 0 0),(.slice none 0 0),(.slice none 0 0),(.slice none 0 0),(.int .i64 0),(.slice none 0 0)])))]),none,[],7,[3],false⟩,aP 46 41 45 28 28 [1],iO 47 28 46 44,⟨none,(.store 91 (xT 47) (xT 43)),none,[],10,[],true⟩,nC 48 38,fO 49 148 48 0,⟨none,(.store 28 (xT 49) (xT 46)),none,[],13,[10],false⟩] []))
theorem Jh:BT Tryz.prog 115 50 [] Gb:=AA Tryz.func115
def GA:CC:=sR [bB .lss 14 3 13 12 3] [0,5,11,12,13,14] (.seq (cD 14 (.skip) (.exit 0)) (.keep [0,5,11,12,13] (.seq (.block 1 (sR [iO 15 28 11 13,lO 16 91 15,aL 7 91 [1],sT 91 7 16] [0,5,7,11,12,13] (sR [fO 17 91 7 0,lO 18 3 17] [0,5,7,11,12,13,18] (.block 2 (sR [bQ .eql 20 3 18 0 3,aO 19 20] [0,5,7,11,12,13,18,19] (cD 19 (.reg [mO 21 5,fO 22 91 7 1,lO 23 3 22,cB 24 115 21 23 146 3] [0,5,11,12,13]) (sR [bQ .eql 26 3 18 1 3,aO 25 26] [0,5,7,11,12,13,18,25] (cD 25 (.reg [mO 27 5,nC 28 27,fO 29 148 28 1,fO 30 91 7 2,lO 31 23 30,cB 32 116 29 31 151 23] [0,5,11,12,13]) (sR [bQ .eql 34 3 18 2 3,aO 33 34] [0,5,7,11,12,13,18,33] (cD 33 (.reg [mO 35 5,nC 36 35,fO 37 148 36 2,fO 38 91 7 2,lO 39 23 38,cB 40 116 37 39 151 23] [0,5,11,12,13]) (sR [bQ .eql 42 3 18 3 3,aO 41 42] [0,5,7,11,12,13,41] (cD 41 (sR [fO 43 91 7 3,lO 44 30 43,cA 45 43 44 30,aL 8 30 [2],sT 30 8 45] [0,5,8,11,12,13] (sR [mO 46 0,lO 47 30 8,cB 48 117 46 47 3 30] [0,5,8,11,12,13,48] (cD 48 (.reg [mO 49 5,oO 50 (cL 115 #[(xT 49),(nI 1)] #[146,3])] [0,5,11,12,13]) (sR [mO 51 5,cA 52 118 51 146] [0,5,8,11,12,13] (.reg [mO 53 5,nC 54 53,fO 55 148 54 0,lS 56 28 55 3,lS 57 30 8 4,oO 58 (.build 91 #[(0,(nI 3)),(3,(xT 57))]),bN 59 56 28,⟨some 60,(.buildSlice 28 1 #[(0,(.const (.agg #[(.int .i64 0),(.int .i64 0),(.slice none 0 0),(.int .i64 0),(.int .i64 0),(.slice none 0 0),(.slice none 0 0),(.int .i64 0),(.slice none 0 0),(.slice none 0 0),(.slice none 0 0),(.slice none 0 0),(.int .i64 0),(.slice none 0 0)])))]),none,[],7,[3,4],false⟩,aP 61 56 60 28 28 [3],iO 62 28 61 59,⟨none,(.store 91 (xT 62) (xT 58)),none,[],10,[],true⟩,nC 63 53,fO 64 148 63 0,⟨none,(.store 28 (xT 64) (xT 61)),none,[],13,[10],false⟩] [0,5,11,12,13]))))) (.skip))))))))))))) (.keep [0,5,11,12,13] (.reg [bQ .add 65 3 13 1 3,mO 13 65] [0,5,11,12,13]))))) 
def R7:CC:=sR [aN 4] [0,1] (sR [oO 9 (.build 148 #[]),bX 10 148 9 [0],aO 5 10] [0,1,5] (sQ [mO 11 1,bN 12 11 28,oO 13 (.move (nI 0))] [0,5,11,12,13] (.block 0 (.loop GA)) [5] (sR [mO 66 5,cA 67 118 66 146] [5] (sR [mO 68 5,nC 69 68,fO 70 148 69 0,lO 71 28 70,aO 4 71] [4] (.ret)))))
theorem bM:BT Tryz.prog 72 72 [(.tmp 4)] R7:=AA Tryz.func72
def HK:CC:=sR [bB .lss 35 3 34 33 3] [2,3,32,33,34,35] (.seq (cD 35 (.skip) (.exit 1)) (.keep [2,3,32,33,34] (.seq (.block 2 (sR [iO 36 27 32 34,lO 37 88 36,aL 5 88 [4],sT 88 5 37] [2,3,5,32,33,34] (.reg [fO 38 30 3 4,lS 39 27 38 1,fO 40 88 5 0,lS 41 3 40 3,fO 42 88 5 1,lO 43 30 42,⟨some 44,(cL 43 #[(xT 43)] #[30]),none,[],6,[1,3],false⟩,oO 45 (.build 88 #[(0,(xT 41)),(1,(xT 44))]),⟨some 46,(.buildSlice 27 1 #[(0,(xT 45))]),none,[],8,[1],false⟩,aP 47 39 46 27 27 [5],fO 48 30 3 4,sT 27 48 47] [2,3,32,33,34]))) (.reg [bQ .add 49 3 34 1 3,mO 34 49] [2,3,32,33,34])))) 
def Px:CC:=sR [bX 1 30 0 [0],aL 2 30 [1]] [1,2] (sR [fO 6 30 1 0,lO 7 3 6,fO 8 30 1 5,lO 9 3 8,oO 10 (.build 30 #[(0,(xT 7)),(5,(xT 9))]),aL 3 30 [2],sT 30 3 10] [1,2,3] (sQ [fO 11 30 1 0,lO 12 3 11] [1,2,3,12] (.block 0 (sR [bQ .eql 14 3 12 1 3,aO 13 14] [1,2,3,12,13] (cD 13 (.reg [fO 15 30 1 1,lO 16 25 15,⟨some 17,(cL 35 #[(xT 16)] #[25]),none,[],2,[],true⟩,fO 18 30 1 2,⟨some 19,(lD 25 18),none,[],4,[2],false⟩,cA 20 35 19 25,fO 21 30 3 1,sT 25 21 17,fO 22 30 3 2,sT 25 22 20] [2,3]) (sR [bQ .eql 24 3 12 2 3,aO 23 24] [1,2,3,12,23] (cD 23 (sR [fO 25 30 3 3,lO 26 26 25,fO 27 30 1 3,lO 28 26 27,aP 29 26 28 26 26 [3],fO 30 30 3 3,sT 26 30 29] [1,2,3] (sR [fO 31 30 1 4,lO 32 27 31,bN 33 32 27,oO 34 (.move (nI 0))] [2,3,32,33,34] (.block 1 (.loop HK)))) (sR [bQ .eql 51 3 12 3 3,aO 50 51] [1,2,3,50] (cD 50 (.reg [fO 52 30 1 5,lO 53 3 52,fO 54 30 1 6,lO 55 28 54,cB 56 72 53 55 3 28,fO 57 30 3 6,sT 28 57 56] [2,3]) (.skip)))))))) [2,3] (sR [lO 58 30 3,sT 30 2 58] [2] (.ret))))
theorem XO:BT Tryz.prog 43 59 [(.cell 2 30)] Px:=AA Tryz.func43
def TZ:CC:=sR [aL 6 85 [0],aB 7 false] [0,1,2,6] (sR [mO 9 1,mO 10 2,cB 11 155 9 10 61 61,aO 8 11] [0,1,2,6,8] (sQ [mO 12 8,oO 13 (.binOp .eql 5 (xT 12) (.const (.int .u8 0)) 5)] [0,1,2,6,8,13] (cD 13 (sR [oO 14 (.build 85 #[]),sT 85 6 14,aB 7 false] [6,7] (.ret)) (.skip)) [0,1,2,6,8] (sR [mO 15 0,mO 16 8,mO 17 1,mO 18 8,oO 19 (cL 125 #[(.const (.int .u64 0)),(xT 17),(xT 18)] #[61,61,5]),mO 20 2,mO 21 8,oO 22 (cL 125 #[(.const (.int .u64 0)),(xT 20),(xT 21)] #[61,61,5]),oO 23 (.build 85 #[(0,(xT 15)),(1,(xT 16)),(2,(xT 19)),(3,(xT 22))]),sT 85 6 23,aB 7 true] [6,7] (.ret))))
theorem cW:BT Tryz.prog 119 24 [(.cell 6 85),(.tmp 7)] TZ:=AA Tryz.func119
def FE:CC:=sR [bB .lss 22 3 21 20 3] [2,3,4,6,7,20,21,22] (.seq (cD 22 (.skip) (.exit 0)) (.keep [2,3,4,6,7,20,21] (.seq (.block 1 (sR [mO 23 21,aO 8 23] [2,3,4,6,7,8,20,21] (sR [mO 25 8,lS 26 25 3 1,mO 27 8,⟨some 28,(cL 90 #[(xT 26),(xT 27)] #[25,3]),none,[],3,[],true⟩,⟨some 29,(lD 25 4),none,[],4,[3],true⟩,mO 30 8,⟨some 31,(cL 90 #[(xT 29),(xT 30)] #[25,3]),none,[],6,[],true⟩,⟨some 32,(cL 119 #[(xT 25),(xT 28),(xT 31)] #[3,61,61]),none,[],7,[],true⟩,mO 24 32,xO 33 24 0,xO 34 24 1,⟨some 9,(.alloc 85),none,[4],11,[1,3,4,6,7],false⟩,sT 85 9 33,aO 10 34] [2,3,4,6,7,9,10,20,21] (sR [mO 35 10] [2,3,4,6,7,9,20,21,35] (cD 35 (.reg [fO 36 30 7 3,lO 37 26 36,lO 38 85 9,oO 39 (.buildSlice 26 1 #[(0,(xT 38))]),aP 40 37 39 26 26 [5],fO 41 30 7 3,sT 26 41 40] [2,3,4,6,7,20,21]) (.skip)))))) (.keep [2,3,4,6,7,20,21] (.reg [bQ .add 42 3 21 1 3,mO 21 42] [2,3,4,6,7,20,21])))))
def FH:CC:=sR [bB .lss 51 3 50 49 3] [2,3,4,6,7,49,50,51] (.seq (cD 51 (.skip) (.exit 2)) (.keep [2,3,4,6,7,49,50] (.seq (.block 3 (sR [mO 52 50,aO 11 52] [2,3,4,6,7,11,49,50] (sR [lS 53 25 3 0,mO 54 11,⟨some 55,(cL 80 #[(xT 53),(xT 54)] #[25,3]),none,[],2,[],true⟩,⟨some 56,(lD 25 4),none,[],3,[2],true⟩,mO 57 11,⟨some 58,(cL 80 #[(xT 56),(xT 57)] #[25,3]),none,[],5,[],true⟩,mO 59 2,⟨some 60,(cL 44 #[(xT 55),(xT 58),(xT 59)] #[25,25,3]),none,[],7,[],true⟩,⟨some 12,(.alloc 30),none,[6],8,[0,2,3,5,7],false⟩,sT 30 12 60] [2,3,4,6,7,11,12,49,50] (sR [fO 61 30 12 0,lO 62 3 61,bQ .neq 63 3 62 0 3] [2,3,4,6,7,11,12,49,50,63] (cD 63 (.reg [fO 64 30 7 4,lO 65 27 64,mO 66 11,lO 67 30 12,oO 68 (.build 88 #[(0,(xT 66)),(1,(xT 67))]),oO 69 (.buildSlice 27 1 #[(0,(xT 68))]),aP 70 65 69 27 27 [7],fO 71 30 7 4,sT 27 71 70] [2,3,4,6,7,49,50]) (.skip)))))) (.keep [2,3,4,6,7,49,50] (.reg [bQ .add 72 3 50 1 3,mO 50 72] [2,3,4,6,7,49,50]))))) 
def Ma:CC:=sR [bX 3 25 0 [0],bX 4 25 1 [1],aL 6 30 [2]] [2,3,4,6] (sR [oO 13 (.build 30 #[(0,(nI 2))]),aL 7 30 [3],sT 30 7 13] [2,3,4,6,7] (sQ [fO 14 25 3 1,lO 15 22 14,bN 16 15 22,fO 17 25 4 1,lO 18 22 17,bN 19 18 22,oO 20 (bC .max #[(xT 16),(xT 19)] #[3,3]),oO 21 (.move (nI 0))] [2,3,4,6,7,20,21] (.block 0 (.loop FE)) [2,3,4,6,7] (sQ [fO 43 25 3 2,lO 44 23 43,bN 45 44 23,fO 46 25 4 2,lO 47 23 46,bN 48 47 23,oO 49 (bC .max #[(xT 45),(xT 48)] #[3,3]),oO 50 (.move (nI 0))] [2,3,4,6,7,49,50] (.block 2 (.loop FH)) [6,7] (sR [lO 73 30 7,sT 30 6 73] [6] (.ret)))))
theorem Tc:BT Tryz.prog 73 74 [(.cell 6 30)] Ma:=AA Tryz.func73
def EV:CC:=sR [bB .lss 22 3 21 20 3] [0,5,7,10,11,12,19,20,21,22] (.seq (cD 22 (.skip) (.exit 2)) (.keep [0,5,7,10,11,12,19,20,21] (.seq (.block 3 (sR [mO 23 21,iO 24 23 19 21,lO 25 25 24,aL 9 25 [2],aO 8 23,sT 25 9 25] [0,5,7,8,9,10,11,12,19,20,21] (sR [lO 26 25 9,lO 27 25 7,cB 28 57 26 27 25 25] [0,5,7,8,10,11,12,19,20,21,28] (cD 28 (sR [mO 29 5,mO 30 8,oO 31 (.buildSlice 157 1 #[(0,(xT 30))]),aP 32 29 31 157 157 [3],aO 5 32] [0,5,10,11,12] (.exit 1)) (.skip))))) (.keep [0,5,7,10,11,12,19,20,21] (.reg [bQ .add 33 3 21 1 3,mO 21 33] [0,5,7,10,11,12,19,20,21])))))
def E6:CC:=sR [bB .lss 13 3 12 11 3] [0,5,10,11,12,13] (.seq (cD 13 (.skip) (.exit 0)) (.keep [0,5,10,11,12] (.seq (.block 1 (sR [iO 14 23 10 12,lO 15 25 14,aL 7 25 [1],sT 25 7 15] [0,5,7,10,11,12] (sQ [mO 16 0,nC 17 16,fO 18 156 17 0,lO 19 23 18,bN 20 19 23,oO 21 (.move (nI 0))] [0,5,7,10,11,12,19,20,21] (.block 2 (.loop EV)) [0,5,7,10,11,12] (sR [mO 34 5,mO 35 0,nC 36 35,fO 37 156 36 0,lO 38 23 37,bN 39 38 23,oO 40 (.buildSlice 157 1 #[(0,(xT 39))]),aP 41 34 40 157 157 [3],aO 5 41] [0,5,7,10,11,12] (.reg [mO 42 0,nC 43 42,fO 44 156 43 0,lS 45 23 44 3,lS 46 25 7 4,bN 47 45 23,⟨some 48,(.buildSlice 23 1 #[(0,(.const (.agg #[(.int .i64 0),(.slice none 0 0),(.slice none 0 0)])))]),none,[],6,[3,4],false⟩,aP 49 45 48 23 23 [5],iO 50 23 49 47,⟨none,(.store 25 (xT 50) (xT 46)),none,[],9,[],true⟩,nC 51 42,fO 52 156 51 0,⟨none,(.store 23 (xT 52) (xT 49)),none,[],12,[9],false⟩] [0,5,10,11,12]))))) (.keep [0,5,10,11,12] (.reg [bQ .add 53 3 12 1 3,mO 12 53] [0,5,10,11,12]))))) 
def Kz:CC:=sR [aN 4] [0,1] (.scope (sR [aN 5] [0,1,5] (.seq (.skip) (sQ [mO 10 1,bN 11 10 23,oO 12 (.move (nI 0))] [0,5,10,11,12] (.block 0 (.loop E6)) [5] (.stop (sR [mO 54 5,aO 4 54] [4] (.ret)))))))
theorem Rx:BT Tryz.prog 120 55 [(.tmp 4)] Kz:=AA Tryz.func120
def Ud:CC:=sR [aN 4] [0,1] (sQ [mO 5 1,bN 6 5 23,bQ .eql 7 3 6 0 3] [0,1,7] (cD 7 (sR [aN 4] [4] (.ret)) (.skip)) [0,1] (sR [mO 8 0,mO 9 1,oO 10 (.build 91 #[(0,(xT 8)),(2,(xT 9))]),oO 11 (.buildSlice 28 1 #[(0,(xT 10))]),aO 4 11] [4] (.ret)))
theorem eQ:BT Tryz.prog 183 12 [(.tmp 4)] Ud:=AA Tryz.func183
def PC:CC:=sR [aN 2] [0] (sR [mO 3 0,oO 4 (cL 183 #[(nI 1),(xT 3)] #[3,23]),aO 2 4] [2] (.ret))
theorem XA:BT Tryz.prog 162 5 [(.tmp 2)] PC:=AA Tryz.func162
def PY:CC:=sR [aN 2] [0] (sR [mO 3 0,oO 4 (cL 183 #[(nI 2),(xT 3)] #[3,23]),aO 2 4] [2] (.ret))
theorem XF:BT Tryz.prog 160 5 [(.tmp 2)] PY:=AA Tryz.func160
def KU:CC:=sR [bB .lss 29 3 28 27 3] [1,2,3,9,11,12,20,21,22,26,27,28,29] (.seq (cD 29 (.skip) (.exit 2)) (.keep [1,2,3,9,11,12,20,21,22,26,27,28] (.seq (.block 3 (sR [iO 30 23 26 28,lO 31 25 30,aL 14 25 [1],sT 25 14 31] [1,2,3,9,11,12,14,20,21,22,26,27,28] (.reg [mO 32 12,lO 33 25 11,lO 34 25 14,cB 35 184 33 34 25 25,oO 36 (.buildSlice 157 1 #[(0,(xT 35))]),aP 37 32 36 157 157 [2],aO 12 37] [1,2,3,9,11,12,20,21,22,26,27,28]))) (.reg [bQ .add 38 3 28 1 3,mO 28 38] [1,2,3,9,11,12,20,21,22,26,27,28]))))
def KA:CC:=sR [bB .lss 23 3 22 21 3] [1,2,3,9,20,21,22,23] (.seq (cD 23 (.skip) (.exit 0)) (.keep [1,2,3,9,20,21,22] (.seq (.block 1 (sR [iO 24 23 20 22,lO 25 25 24,aL 11 25 [0],sT 25 11 25] [1,2,3,9,11,20,21,22] (sR [aN 12] [1,2,3,9,11,12,20,21,22] (sQ [mO 26 2,bN 27 26 23,oO 28 (.move (nI 0))] [1,2,3,9,11,12,20,21,22,26,27,28] (.block 2 (.loop KU)) [1,2,3,9,12,20,21,22] (.stop (.reg [mO 39 9,mO 40 12,oO 41 (.buildSlice 219 1 #[(0,(xT 40))]),aP 42 39 41 219 219 [3],aO 9 42] [1,2,3,9,20,21,22])))))) (.keep [1,2,3,9,20,21,22] (.reg [bQ .add 43 3 22 1 3,mO 22 43] [1,2,3,9,20,21,22])))))
def K4:CC:=sR [bB .lss 48 3 47 46 3] [1,2,3,15,16,17,45,46,47,48] (.seq (cD 48 (.skip) (.exit 4)) (.keep [1,2,3,15,16,17,45,46,47] (.seq (.block 5 (sR [iO 49 233 45 47,lO 50 235 49,aL 19 235 [4],sT 235 19 50] [1,2,3,15,16,17,19,45,46,47] (sR [mO 51 15,mO 52 1,mO 53 16,fO 54 235 19 0,lO 55 3 54,oO 56 (.slice 23 (xT 52) (some (xT 53)) (some (xT 55)) none),⟨some 57,(cL 162 #[(xT 56)] #[23]),none,[],6,[],true⟩,⟨some 58,(bC .append #[(xT 51),(xT 57)] #[28,28]),none,[5],7,[],true⟩,mO 59 2,mO 60 17,fO 61 235 19 1,⟨some 62,(lD 3 61),none,[],11,[6,7],false⟩,oO 63 (.slice 23 (xT 59) (some (xT 60)) (some (xT 62)) none),cA 64 160 63 23,aP 65 58 64 28 28 [6],aO 15 65] [1,2,3,15,19,45,46,47] (sR [mO 66 15,mO 67 1,fO 68 235 19 0,lO 69 3 68,iO 70 23 67 69,lO 71 25 70,mO 72 2,fO 73 235 19 1,lO 74 3 73,iO 75 23 72 74,lO 76 25 75,mO 77 3,cE 78 44 71 76 77 25 25 3,oO 79 (.build 91 #[(0,(nI 3)),(3,(xT 78))]),oO 80 (.buildSlice 28 1 #[(0,(xT 79))]),aP 81 66 80 28 28 [7],aO 15 81] [1,2,3,15,19,45,46,47] (.reg [fO 82 235 19 0,lO 83 3 82,bQ .add 84 3 83 1 3,fO 85 235 19 1,lO 86 3 85,bQ .add 87 3 86 1 3,aO 16 84,aO 17 87] [1,2,3,15,16,17,45,46,47]))))) (.reg [bQ .add 88 3 47 1 3,mO 47 88] [1,2,3,15,16,17,45,46,47])))) 
def WT:CC:=sR [aN 8] [1,2,3] (sR [aN 9] [1,2,3,9] (sQ [mO 20 1,bN 21 20 23,oO 22 (.move (nI 0))] [1,2,3,9,20,21,22] (.block 0 (.loop KA)) [1,2,3,9] (sR [aN 15] [1,2,3,9,15] (sR [aI 16 0,aI 17 0] [1,2,3,9,15,16,17] (.stop (sQ [mO 44 9,cA 45 185 44 219,bN 46 45 233,oO 47 (.move (nI 0))] [1,2,3,15,16,17,45,46,47] (.block 4 (.loop K4)) [1,2,15,16,17] (sR [mO 89 15,mO 90 1,mO 91 16,oO 92 (.slice 23 (xT 90) (some (xT 91)) none none),cA 93 162 92 23,aP 94 89 93 28 28 [8],mO 95 2,mO 96 17,oO 97 (.slice 23 (xT 95) (some (xT 96)) none none),cA 98 160 97 23,aP 99 94 98 28 28 [9],aO 8 99] [8] (.ret))))))))
theorem i7:BT Tryz.prog 161 100 [(.tmp 8)] WT:=AA Tryz.func161
def FY:CC:=sQ [mO 19 12,mO 20 0,bN 21 20 159,bB .lss 22 3 19 21 3] [0,3,5,9,10,11,12,22] (cD 22 (.skip) (.exit 0)) [0,3,5,9,10,11,12] (.seq (.block 1 (sR [mO 25 0,mO 26 12,iO 27 159 25 26,fO 28 164 27 1,lO 29 3 28,aO 13 29] [0,3,5,9,10,11,12,13] (.block 2 (sR [mO 40 0,mO 41 12,iO 42 159 40 41,fO 43 164 42 0,lO 44 3 43,bQ .eql 45 3 44 0 3,aO 39 45] [0,3,5,9,10,11,12,13,39] (cD 39 (.reg [mO 46 9,mO 47 13,oO 48 (.build 91 #[(1,(xT 47))]),oO 49 (.buildSlice 28 1 #[(0,(xT 48))]),aP 50 46 49 28 28 [2],mO 51 10,mO 52 13,oO 53 (.slice 23 (xT 51) (some (xT 52)) none none),mO 54 11,mO 55 13,oO 56 (.slice 23 (xT 54) (some (xT 55)) none none),aO 9 50,aO 10 53,aO 11 56] [0,3,5,9,10,11,12]) (sR [mO 58 0,mO 59 12,iO 60 159 58 59,fO 61 164 60 0,lO 62 3 61,bQ .eql 63 3 62 2 3,aO 57 63] [0,3,5,9,10,11,12,13,57] (cD 57 (.reg [mO 64 9,mO 65 11,mO 66 13,oO 67 (.slice 23 (xT 65) none (some (xT 66)) none),cA 68 160 67 23,aP 69 64 68 28 28 [3],mO 70 11,mO 71 13,oO 72 (.slice 23 (xT 70) (some (xT 71)) none none),aO 9 69,aO 11 72] [0,3,5,9,10,11,12]) (sR [mO 74 12,bQ .add 75 3 74 1 3,mO 76 0,bN 77 76 159,bB .lss 78 3 75 77 3,mO 79 78,mG 80 0 79 true,mG 81 12 79 true,oG 82 (.binOp .add 3 (xT 81) (nI 1) 3) 79 true,oG 83 (iA 159 80 82) 79 true,fG 84 164 83 0 79 true,lG 85 3 84 79 true,oG 86 (.binOp .eql 3 (xT 85) (nI 2) 3) 79 true,pF 87 79 86,aO 73 87] [0,3,5,9,10,11,12,13,73] (cD 73 (sR [mO 88 0,mO 89 12,bQ .add 90 3 89 1 3,iO 91 159 88 90,fO 92 164 91 1,lO 93 3 92,aO 14 93] [0,3,5,9,10,11,12,13,14] (sR [mO 94 9,fO 95 25 5 0,lO 96 3 95,mO 97 10,mO 98 13,oO 99 (.slice 23 (xT 97) none (some (xT 98)) none),mO 100 11,mO 101 14,oO 102 (.slice 23 (xT 100) none (some (xT 101)) none),mO 103 3,oO 104 (cL 161 #[(xT 96),(xT 99),(xT 102),(xT 103)] #[3,23,23,3]),aP 105 94 104 28 28 [4],aO 9 105] [0,3,5,9,10,11,12,13,14] (sR [mO 106 10,mO 107 13,oO 108 (.slice 23 (xT 106) (some (xT 107)) none none),mO 109 11,mO 110 14,oO 111 (.slice 23 (xT 109) (some (xT 110)) none none),aO 10 108,aO 11 111] [0,3,5,9,10,11,12] (.reg [mO 112 12,bQ .add 113 3 112 1 3,aO 12 113] [0,3,5,9,10,11,12])))) (.reg [mO 30 9,mO 31 10,mO 32 13,oO 33 (.slice 23 (xT 31) none (some (xT 32)) none),cA 34 162 33 23,aP 35 30 34 28 28 [5],mO 36 10,mO 37 13,oO 38 (.slice 23 (xT 36) (some (xT 37)) none none),aO 9 35,aO 10 38] [0,3,5,9,10,11,12])))))))))) (.keep [0,3,5,9,10,11,12] (.reg [mO 23 12,bQ .add 24 3 23 1 3,aO 12 24] [0,3,5,9,10,11,12]))) 
def WM:CC:=sR [bX 5 25 1 [0],bX 6 25 2 [1],aN 8] [0,3,5,6] (sR [aN 9] [0,3,5,6,9] (sR [fO 15 25 5 2,lO 16 23 15,fO 17 25 6 2,lO 18 23 17,aO 10 16,aO 11 18] [0,3,5,9,10,11] (sQ [aI 12 0] [0,3,5,9,10,11,12] (.block 0 (.loop FY)) [9] (sR [mO 114 9,aO 8 114] [8] (.ret)))))
theorem iU:BT Tryz.prog 123 115 [(.tmp 8)] WM:=AA Tryz.func123
def MM:CC:=sR [fO 39 25 3 0,lS 40 3 39 1,mO 41 9,lO 42 25 3,lO 43 25 4,mO 44 2,⟨some 45,(cL 123 #[(xT 41),(xT 42),(xT 43),(xT 44)] #[159,25,25,3]),none,[],6,[1],false⟩,oO 46 (.build 30 #[(0,(nI 3)),(5,(xT 40)),(6,(xT 45))]),sT 30 6 46] [6] (.ret) 
def TM:CC:=sR [bX 3 25 0 [0],bX 4 25 1 [1],aL 6 30 [2]] [2,3,4,6] (sR [oO 11 (.build 156 #[]),bX 12 156 11 [3],aO 7 12] [2,3,4,6,7] (.stop (sR [mO 13 7,fO 14 25 3 2,lO 15 23 14,cB 16 120 13 15 154 23,aO 8 16] [2,3,4,6,7,8] (sR [mO 18 8,mO 19 7,fO 20 25 4 2,lO 21 23 20,cB 22 120 19 21 154 23,mO 23 2,cE 24 121 18 22 23 157 157 3,mO 17 24,xO 25 17 0,xO 26 17 1,aO 9 25,aO 10 26] [2,3,4,6,9,10] (sQ [mO 27 10,oO 28 (.unOp .not 4 (xT 27))] [2,3,4,6,9,28] (cD 28 (.reg [fO 29 25 3 2,lO 30 23 29,bN 31 30 23,oO 32 (.build 164 #[(0,(nI 1)),(1,(xT 31))]),fO 33 25 4 2,lO 34 23 33,bN 35 34 23,oO 36 (.build 164 #[(0,(nI 2)),(1,(xT 35))]),oO 37 (.buildSlice 159 2 #[(0,(xT 32)),(1,(xT 36))]),cA 38 122 37 159,aO 9 38] [2,3,4,6,9]) (.skip)) [2,3,4,6,9] MM)))))
theorem iq:BT Tryz.prog 75 47 [(.cell 6 30)] TM:=AA Tryz.func75
def Ww:CC:=sR [bX 3 25 0 [0],bX 4 25 1 [1],aL 6 30 [2]] [2,3,4,6] (.seq (.block 0 (sR [lO 8 25 3,lO 9 25 4,cB 10 57 8 9 25 25,aO 7 10] [2,3,4,6,7] (cD 7 (sR [oO 11 (.build 30 #[]),sT 30 6 11] [6] (.ret)) (sR [fO 13 25 3 0,lO 14 3 13,bQ .eql 15 3 14 1 3,mO 16 15,fG 17 25 4 0 16 true,lG 18 3 17 16 true,oG 19 (.binOp .eql 3 (xT 18) (nI 1) 3) 16 true,pF 20 16 19,aO 12 20] [2,3,4,6,12] (cD 12 (sR [lO 21 25 3,lO 22 25 4,mO 23 2,cE 24 73 21 22 23 25 25 3,sT 30 6 24] [6] (.ret)) (sR [fO 26 25 3 0,lO 27 3 26,fO 28 25 4 0,lO 29 3 28,bB .eql 30 3 27 29 3,mO 31 30,fG 32 25 3 0 31 true,lG 33 3 32 31 true,oG 34 (cL 74 #[(xT 33)] #[3]) 31 true,pF 35 31 34,aO 25 35] [2,3,4,6,25] (cD 25 (sR [lO 36 25 3,lO 37 25 4,mO 38 2,cE 39 75 36 37 38 25 25 3,sT 30 6 39] [6] (.ret)) (.skip)))))))) (.keep [3,4,6] (sR [lO 40 25 3,lO 41 25 4,oO 42 (.build 30 #[(0,(nI 1)),(1,(xT 40)),(2,(xT 41))]),sT 30 6 42] [6] (.ret))))
theorem kN:BT Tryz.prog 44 43 [(.cell 6 30)] Ww:=AA Tryz.func44
def RG:CC:=sR [bX 3 25 0 [0],bX 4 25 1 [1],aL 6 30 [2]] [2,3,4,6] (sR [lO 7 25 3,⟨some 8,(cL 35 #[(xT 7)] #[25]),none,[],1,[],true⟩,⟨some 9,(lD 25 4),none,[],2,[1],false⟩,cA 10 35 9 25,mO 11 2,cE 12 44 8 10 11 25 25 3,cA 13 43 12 30,sT 30 6 13] [6] (.ret))
theorem bf:BT Tryz.prog 24 14 [(.cell 6 30)] RG:=AA Tryz.func24
def KS:CC:=sR [bX 1 25 0 [0],aB 2 false] [1] (sR [lO 3 25 1,oO 4 (cL 28 #[(xT 3),(nI 70),(nI 400)] #[25,3,3]),bQ .geq 5 3 4 0 3,mO 6 5,lG 7 25 1 6 true,oG 8 (cL 11 #[(xT 7),(nI 64)] #[25,3]) 6 true,pF 9 6 8,mO 10 9,fG 11 25 1 0 10 true,lG 12 3 11 10 true,oG 13 (.binOp .neq 3 (xT 12) (nI 10) 3) 10 true,pF 14 10 13,aO 2 14] [2] (.ret))
theorem RB:BT Tryz.prog 39 15 [(.tmp 2)] KS:=AA Tryz.func39
end Go.Proofs.YtlaapfplenlfaaaGreat
namespace Go.Proofs.YtlaapfplenlfaaaGreat
open Go Go.G Go.Proofs Go.PL
theorem uO:∀i:Fin 8,∀m:Fin 256,m.val<2 ^ i.val->bits .or .u8 (m.val:Int) ((2 ^ i.val:Nat):Int)=(m.val:Int)+((2 ^ i.val:Nat):Int):=by decide +kernel
def AP(x:Int)(i:Nat):Int:=x / 256 ^ i % 256
def HX(a b:Int):Nat->Nat
 |0=>0
 |k+1=>HX a b k+(if AP a k≠AP b k then 2 ^ k else 0)
def Eu(a b:Int):Int:=(HX a b 8:Nat)
theorem UQ(a b:Int):∀k,HX a b k<2 ^ k
 |0=>by simp[HX]
 |k+1=>by
  have:=UQ a b k;unfold HX;rw[Nat.pow_succ];split<;>omega
theorem Zp(a b:Int):0<=Eu a b/\Eu a b<256:=by
 have:=UQ a b 8;unfold Eu;omega
theorem ML:∀(n:Nat)(x:Int)(i:Nat),i<n->(DZ n x)[i]? = some (AP x i)
 |n+1,x,0,_=>by simp[DZ,AP]
 |n+1,x,i+1,h=>by
  have:=ML n (x / 256) i oF;simp only[DZ,List.getElem?_cons_succ];rw[this];unfold AP;rw[Int.ediv_ediv_of_nonneg oF,Int.pow_succ,Int.mul_comm]
theorem vW{a b:Int}(ha:Bs a)(hb:Bs b)(i:Nat):AP (bits .xor .u64 a b) i=0↔AP a i=AP b i:=by
 obtain⟨x,rfl⟩:∃x:Nat,a=x:=⟨a.toNat,by unfold Bs at ha;omega⟩;obtain⟨y,rfl⟩:∃y:Nat,b=y:=⟨b.toNat,by unfold Bs at hb;omega⟩;unfold Bs at ha hb;rw[bits_xor_u64_nat x y oF oF];unfold AP;have h:∀z:Nat,((z:Int) / 256 ^ i % 256)=(((z / 2 ^ (8*i)) % 2 ^ 8:Nat):Int):=fun z=>by
  have h1:((256:Int) ^ i)=((2 ^ (8*i):Nat):Int):=by
   rw[Nat.pow_mul,Int.natCast_pow];rfl
  rw[h1,Int.natCast_emod,Int.natCast_ediv];rfl
 rw[h,h,h];have e:((x ^^^ y) / 2 ^ (8*i)) % 2 ^ 8=((x / 2 ^ (8*i)) % 2 ^ 8) ^^^ ((y / 2 ^ (8*i)) % 2 ^ 8):=by
  rw[<-Nat.shiftRight_eq_div_pow,<-Nat.shiftRight_eq_div_pow,<-Nat.shiftRight_eq_div_pow,Nat.shiftRight_xor_distrib,Nat.xor_mod_two_pow]
 rw[e];constructor
 ·intro h;have h:((x / 2 ^ (8*i)) % 2 ^ 8) ^^^ ((y / 2 ^ (8*i)) % 2 ^ 8)=0:=oF
  generalize (x / 2 ^ (8*i)) % 2 ^ 8=p at h ⊢;generalize (y / 2 ^ (8*i)) % 2 ^ 8=q at h ⊢;have h2:p ^^^ q ^^^ q=q:=by rw[h,Nat.zero_xor]
  rw[Nat.xor_assoc,Nat.xor_self,Nat.xor_zero]at h2;rw[h2]
 ·intro h;have h:(x / 2 ^ (8*i)) % 2 ^ 8=(y / 2 ^ (8*i)) % 2 ^ 8:=oF
  rw[h,Nat.xor_self];rfl
variable {n0:Nat} {w0:World} {I0:Nat->Prop} {Q:Exit->Sta->Prop}
theorem Acp{a b:Int}(ha:Bs a)(hb:Bs b){H:Hp}(hq:∀st,Q (.exit 0) ⟨lk ([(5,u8 (Eu a b))]++st),H⟩):∀(m i:Nat),i+m=8 ->
  LoopC (cx Tryz.prog w0 I0 n0) HL Q ⟨lk [(5,u8 (HX a b i:Nat)),(11,.agg (iH (Bb (bits .xor .u64 a b)))),(12,iv i)],H⟩:=by
 intro m;induction m with
 |zero=>
  intro i hm;refine Ad Ai HL.eq_1 ?_;have:i=8:=oF
  subst this;simp;exact hq [(11,.agg (iH (Bb (bits .xor .u64 a b)))),(12,iv 8),(13,bv false)]
 |succ m ih=>
  intro i hm;have hi:i<8:=oF
  have hi':(i:Int)<8:=oF
  have ew:=AR i;have hb1:(Bb (bits .xor .u64 a b))[i]? = some (AP (bits .xor .u64 a b) i):=ML 8 _ i hi;have hx:=vW ha hb i;have hlt:=UQ a b i;have next:=ih (i+1) oF
  refine Ad Ai HL.eq_1 ?_;by_cases h:AP a i=AP b i
  ·have h0:=hx.2 h;have e:HX a b (i+1)=HX a b i:=by simp[HX,h]
   rw[e]at next
   simp[hi',hi,ew,iH,hb1,h0];simpa[iH]using next
  ·have h0:¬AP (bits .xor .u64 a b) i=0:=fun e=>h (hx.1 e);have e:HX a b (i+1)=HX a b i+2 ^ i:=by simp[HX,h]
   rw[e]at next
   have p8:2 ^ i<256:=by
    have:2 ^ i<=2 ^ 7:=Nat.pow_le_pow_right oF oF;omega
   have eb:IntKind.u8.wrap (2 ^ min i IntKind.u8.bits)=((2 ^ i:Nat):Int):=by
    have:min i IntKind.u8.bits=i:=Nat.min_eq_left (by show i<=8;omega);rw[this,IntKind.wrap_u8,Int.natCast_pow];have:((2:Int) ^ i)=((2 ^ i:Nat):Int):=by rw[Int.natCast_pow];rfl
    omega
   have eo:=uO ⟨i,hi⟩ ⟨HX a b i,oF⟩ hlt;simp only at eo;simp[hi',hi,ew,iH,hb1,h0];rw[eb,eo,<-Int.natCast_add];simpa[iH]using next
def WA(x:Int)(i:Nat):List Int:=(List.range 8).map fun j=>if j<i then AP x j else 0
theorem Md(x:Int)(i:Nat):(WA x i).length=8:=by simp[WA]
theorem pK(x:Int):WA x 0=List.replicate 8 0:=by simp[WA];rfl
theorem sH(x:Int):WA x 8=Bb x:=by
 apply List.ext_getElem?;intro j;by_cases h:j<8
 ·rw[show(Bb x)[j]? = _ from ML 8 x j h];simp[WA,h]
 ·rw[List.getElem?_eq_none (by rw[Md];omega),List.getElem?_eq_none (by simp[Bb];omega)]
theorem rR(x:Int){i:Nat}(h:i<8):(WA x i).set i (AP x i)=WA x (i+1):=by
 apply List.ext_getElem?;intro j;by_cases hj:j<8
 ·by_cases e:j=i
  ·subst e;rw[List.getElem?_set_self (by rw[Md];omega)];simp[WA,hj]
  ·rw[List.getElem?_set_ne oF];simp[WA,hj];have:(j<i+1)=(j<i):=by simp;omega
   simp[this]
 ·rw[List.getElem?_eq_none (by simp[Md];omega),List.getElem?_eq_none (by rw[Md];omega)]
theorem xJ{x:Int}(hx:Bs x)(hq:∀(st:List (Nat × A))(H:Hp),H [0]=⟨1,.cells (iH (List.replicate 8 0))⟩->H [1]=⟨1,.cells (iH (Bb x))⟩->Q (.exit 0) ⟨lk ([(0,uv x),(2,.pob [0] 1 0),(3,.pob [1] 1 0)]++st),H⟩):∀(m i:Nat)(H:Hp),i+m=8->H [0]=⟨1,.cells (iH (List.replicate 8 0))⟩->H [1]=⟨1,.cells (iH (WA x i))⟩ ->
  LoopC (cx Tryz.prog w0 I0 n0) Iw Q ⟨lk [(0,uv x),(2,.pob [0] 1 0),(3,.pob [1] 1 0),(5,iv i)],H⟩:=by
 intro m;induction m with
 |zero=>
  intro i H hm h0 h1;refine Ad Ai Iw.eq_1 ?_;have:i=8:=oF
  subst this;rw[sH]at h1;simp;exact hq [(5,iv 8),(6,bv false)] H h0 h1
 |succ m ih=>
  intro i H hm h0 h1;have hi:i<8:=oF
  have hi':(i:Int)<8:=oF
  have ew:=AR i;have e8:i64.wrap (8*(i:Int))=((8*i:Nat):Int):=(Bq oF oF).trans oF;have b64:u64.bits=64:=rfl;have e9:(8*(i:Int)).toNat=8*i:=oF
  have ev:IntKind.u8.wrap (x / 2 ^ min (8*i) 64)=AP x i:=by
   rw[IntKind.wrap_u8,Nat.min_eq_left oF];unfold AP;have h1:((256:Int) ^ i)=((2:Int) ^ (8*i)):=by rw[Int.pow_mul];rfl
   rw[h1]
   try rfl
  refine Ad Ai Iw.eq_1 ?_;simp[hi',hi,ew,e8,e9,b64,ev,h1,Md];refine⟨oF,oF,?_⟩;rw[kP (by rw[Md];omega),rR x hi];simpa using ih (i+1) _ oF (by simp[Aa,h0]) (by simp[Aa])
theorem gh{x:Int}(h:Bs x):G.Spec Tryz.prog 178 [uv x] (.agg (iH (Bb x))):=by
 refine Ak bW iS fun w0 I0=>?_;unfold RF;simp;refine LoopC.le (Ar [(0,uv x),(2,.pob [0] 1 0),(3,.pob [1] 1 0),(5,iv (0:Nat))] iS) ?_;refine xJ h (fun st H h0 h1=>?_) 8 0 _ rfl (by simp[Aa]) (by simp[Aa,pK]);have e:List.take 8 (iH (Bb x))=iH (Bb x):=AO (by simp[Bb]);have el:(Bb x).length=8:=by simp[Bb]
 simp[h1,h0,Aa,e,el];exact⟨by simp[A.ones],pN⟩
theorem ZV{a b:Int}(ha:Bs a)(hb:Bs b):G.Spec Tryz.prog 155 [uv a,uv b] (u8 (Eu a b)):=by
 have hu:Bs (bits .xor .u64 a b):=by
  obtain⟨x,rfl⟩:∃x:Nat,a=x:=⟨a.toNat,by unfold Bs at ha;omega⟩;obtain⟨y,rfl⟩:∃y:Nat,b=y:=⟨b.toNat,by unfold Bs at hb;omega⟩;unfold Bs at ha hb;rw[bits_xor_u64_nat x y oF oF];have:=@Nat.xor_lt_two_pow x y 64 oF oF;unfold Bs;omega
 refine Ak XR iS fun w0 I0=>?_;unfold PX;simp;refine Ag (gh hu) iS ?_;simp;refine LoopC.le (Ar [(5,u8 (HX a b 0:Nat)),(11,.agg (iH (Bb (bits .xor .u64 a b)))),(12,iv (0:Nat))] (by simp[HX])) ?_;refine Acp ha hb (fun st=>?_) 8 0 rfl;simp;exact Ae rfl
def Z4(at_:Int)(a b:Int):WE:=⟨at_,Eu a b,A5 0 a (Eu a b),A5 0 b (Eu a b)⟩
def WE0:WE:=⟨0,0,0,0⟩
theorem iW{i a b:Int}(ha:Bs a)(hb:Bs b):G.Spec Tryz.prog 119 [iv i,uv a,uv b] (.tup [wX (if Eu a b=0 then WE0 else Z4 i a b),bv (!decide (Eu a b=0))]):=by
 have hin:=Zp a b;have z:Bs 0:=by unfold Bs;omega
 refine Ak cW iS fun w0 I0=>?_;unfold TZ;simp;refine Ag (ZV ha hb) iS ?_;by_cases h:Eu a b=0
 ·simp[h];exact Ae rfl
 ·simp[h];refine Ag (C8 z ha hin.1 hin.2) iS ?_;simp;refine Ag (C8 z hb hin.1 hin.2) iS ?_;simp;exact Ae rfl
end Go.Proofs.YtlaapfplenlfaaaGreat
