/-
 Texts,merged,without what is not reached.
-/
import Derived.Test.YtebihdhapepejaaGreatDoorKCe
set_option linter.unusedSimpArgs false
set_option linter.unusedVariables false
open Go.IntKind (i64 u64)
namespace Go.Proofs.YtebihdhapepejaaGreatDoor
open Go Go.G Go.Proofs Go.PL
def dp:Int→List UInt8→Int
 |o,[]=>o
 |o,c::x=>dp (Jt o c) x
def free (c:UInt8):Int→List UInt8→Prop
 |_,[]=>True
 |o,y::x=>¬ (o=0∧y=c)∧free c (Jt o y) x
theorem Uu:∀ (x y:List UInt8) (o:Int),dp o (x++y)=dp (dp o x) y
 |[],y,o=>rfl
 |c::x,y,o=>by rw[List.cons_append,dp,dp,Uu x y]
theorem KV {c:UInt8}:∀ (x y:List UInt8) (o:Int),free c o (x++y) ↔ free c o x∧free c (dp o x) y
 |[],y,o=>by simp[free,dp]
 |z::x,y,o=>by rw[List.cons_append,free,free,dp,KV x y,and_assoc]
theorem FB {c:UInt8}:∀ {x:List UInt8} (o:Int),c ∉ x→free c o x
 |[],o,_=>trivial
 |y::x,o,h=>⟨fun e=>h (by rw[e.2];simp),FB _ (fun hx=>h (by simp[hx]))⟩
theorem QJ {c:UInt8}:∀ (x pre r:List UInt8) (o:Int),free c o x→GY c o pre (x++r)=GY c (dp o x) (pre++x) r
 |[],pre,r,o,_=>by simp[dp]
 |y::x,pre,r,o,h=>by
  rw[List.cons_append,HF,if_neg h.1,QJ x _ r _ h.2,dp];simp
theorem JS:∀ (x cur r:List UInt8) (o:Int),free 44 o x→AW o cur (x++r)=AW (dp o x) (cur++x) r
 |[],cur,r,o,_=>by simp[dp]
 |y::x,cur,r,o,h=>by
  rw[List.cons_append,EB,if_neg h.1,JS x _ r _ h.2,dp];simp
theorem TP {c:UInt8} {x r:List UInt8} (h:free c 0 x) (hd:dp 0 x=0):Bz c (x++c::r)=(x,r,true):=by
 unfold Bz;rw[QJ x [] (c::r) 0 h,hd,HF,if_pos ⟨rfl,rfl⟩];rfl
def FX (x:List UInt8):Prop:=free 44 0 x∧dp 0 x=0
theorem QK:∀ {l:List (List UInt8)},l ≠ []→(∀ x,x ∈ l→FX x)→AW 0 [] (Ag l)=l
 |[x],_,h=>by
  obtain⟨h1,h2⟩:=h x (by simp);have:=JS x [] [] 0 h1;rw[List.append_nil] at this;rw[N6,this,AW];rfl
 |x::y::l,_,h=>by
  obtain⟨h1,h2⟩:=h x (by simp);rw[Ag,JS x [] _ 0 h1,h2,EB,if_pos ⟨rfl,rfl⟩,QK (l:=y::l) (by simp) (fun z hz=>h z (by simp[hz]))];rfl
theorem N8 {l:List (List UInt8)} (h:∀ x,x ∈ l→FX x) (hne:∀ x,x ∈ l→x ≠ []):Bp (Ag l)=l:=by
 unfold Bp;cases l with
 |nil=>rfl
 |cons x l=>
  have hx:=hne x (by simp);rw[if_neg,QK (by simp) h];cases l with
  |nil=>simpa using hx
  |cons y l=>rw[Ag];simp[hx]
theorem ZM (o:Int) (c:UInt8):Jt (o+1) c=Jt o c+1:=by unfold Jt;split<;>(try split)<;>omega
theorem V2:∀ (x:List UInt8) (o:Int),dp (o+1) x=dp o x+1
 |[],o=>rfl
 |c::x,o=>by rw[dp,dp,ZM,V2 x]
def RT (x:List UInt8):Prop:=∀ o:Int,1≤o→dp o x=o∧∀ c,free c o x
theorem Us:RT []:=fun o _=>⟨rfl,fun _=>trivial⟩
theorem Fh {x y:List UInt8} (hx:RT x) (hy:RT y):RT (x++y):=fun o ho=>by
 obtain⟨a,b⟩:=hx o ho;obtain⟨a',b'⟩:=hy o ho;exact⟨by rw[Uu,a,a'],fun c=>(KV x y o).2 ⟨b c,by rw[a];exact b' c⟩⟩
theorem I7 {x:List UInt8} (h:RT x):dp 0 x=0:=by
 have:=(h 1 (by omega)).1;rw[show(1:Int)=0+1 by rfl,V2] at this;omega
def Q4 (c:UInt8):Prop:=¬ (c=123∨c=91∨c=40)∧¬ (c=125∨c=93∨c=41)
instance (c:UInt8):Decidable (Q4 c):=by unfold Q4;infer_instance
theorem NF {c:UInt8} (h:Q4 c) (o:Int):Jt o c=o:=by unfold Jt;rw[if_neg h.1,if_neg h.2]
theorem T4 {c:UInt8} (h:Q4 c):RT [c]:=fun o ho=>⟨by rw[dp,dp,NF h],fun d=>⟨fun e=>by omega,trivial⟩⟩
theorem Bk {c:UInt8} {x:List UInt8} (h:Q4 c) (hx:RT x):RT (c::x):=Fh (T4 h) hx
theorem Yi:∀ {x:List UInt8},(∀ c,c ∈ x→Q4 c)→RT x
 |[],_=>Us
 |c::x,h=>Bk (h c (by simp)) (Yi fun d hd=>h d (by simp[hd]))
theorem IV {a b:UInt8} (ha:a=123∨a=91∨a=40) (hb:b=125∨b=93∨b=41) {x:List UInt8} (h:RT x):RT (a::(x++[b])):=fun o ho=>by
 have e1:Jt o a=o+1:=by unfold Jt;rw[if_pos ha]
 have e2:∀ o:Int,Jt o b=o-1:=fun o=>by unfold Jt;rw[if_neg (by rcases hb with rfl | rfl | rfl<;>decide),if_pos hb]
 obtain⟨p,q⟩:=h (o+1) (by omega);refine⟨by rw[dp,e1,Uu,p,dp,dp,e2];omega,fun c=>⟨fun e=>by omega,?_⟩⟩;rw[e1];exact(KV x [b] (o+1)).2 ⟨q c,by rw[p];exact⟨fun e=>by omega,trivial⟩⟩
theorem Zf {a b c:UInt8} (ha:a=123∨a=91∨a=40) (hc:a ≠ c) {x:List UInt8} (h:RT x):free c 0 (a::(x++[b])):=by
 have e1:Jt 0 a=1:=by unfold Jt;rw[if_pos ha];rfl
 obtain⟨p,q⟩:=h 1 (by omega);refine⟨fun e=>hc e.2,?_⟩;rw[e1];exact(KV x [b] 1).2 ⟨q c,by rw[p];exact⟨fun e=>by omega,trivial⟩⟩
theorem Ex:∀ {l:List (List UInt8)},(∀ x,x ∈ l→RT x)→RT (Ag l)
 |[],_=>Us
 |[x],h=>by simpa using h x (by simp)
 |x::y::l,h=>by
  rw[Ag];exact Fh (h x (by simp)) (Bk (by decide) (Ex (l:=y::l) fun z hz=>h z (by simp[hz])))
end Go.Proofs.YtebihdhapepejaaGreatDoor
namespace Go.Proofs.YtebihdhapepejaaGreatDoor
set_option maxRecDepth 10000
open Go Go.G Go.Proofs Go.PL
def pZ (e:E):Prop:=∀ d,AQ d e=true→HT e→(Bb e).length≤1000000000→G.Spec Tryz.prog 8 [eX e] (S (Bb e))
theorem Kd:∀ {ws:List WE} {last:Int},Bq last ws=true→-1≤last→∀ w,w ∈ ws→0≤w.at_
 |x::ws,last,h,hl,w,hw=>by
  rw[Bq,Bool.and_eq_true] at h;have h0:last<x.at_:=by
   have:=h.1;unfold G2 at this;simp at this;omega
  rcases List.mem_cons.1 hw with rfl | hw
  ·omega
  ·exact Kd h.2 (by omega) w hw
theorem B8 {d:Nat}:∀ {ks:List KE} {last:Int},Cu d last ks=true→-1≤last→∀ x,x ∈ ks→0≤x.at_∧AQ d x.e=true
 |y::ks,last,h,hl,x,hx=>by
  rw[EA,Bool.and_eq_true,Bool.and_eq_true] at h;have h0:last<y.at_:=by
   have:=h.1.1;simp at this;omega
  rcases List.mem_cons.1 hx with rfl | hx
  ·exact⟨by omega,h.1.2⟩
  ·exact B8 h.2 (by omega) x hx
theorem Bx {d:Nat} {l:Int}:∀ {os:List OP},Ct d l os=true→∀ x,x ∈ os→D8 d l x=true
 |y::os,h,x,hx=>by
  rw[Jz,Bool.and_eq_true] at h;rcases List.mem_cons.1 hx with rfl | hx
  ·exact h.1
  ·exact Bx h.2 x hx
theorem GQ {d:Nat} {l:Int} {x:OP} (h:D8 d l x=true) (hk:x.kind=3):AQ d x.e=true:=by
 rw[FC,if_pos hk] at h;simp at h;exact h.2.1.2
theorem KY {d:Nat} {l:Int} {x:OP} (h:D8 d l x=true):0≤x.n∧x.n≤1048576:=by
 rw[FC,Bool.and_eq_true] at h;have h1:=h.1;unfold EW at h1;split at h1
 ·simp at h1;omega
 ·split at h1
  ·cases h1
  ·omega
theorem CB {d:Nat} {k:Int} {o n:T} {ws:List WE} {ks:List KE} {l:Int} {os:List OP} (h:AQ d (.mk k o n ws ks l os)=true):0≤k∧k≤3∧(k ≠ 1→Bq (-1) ws=true∧Cu (d-1) (-1) ks=true∧(k=3→2≤l∧l≤9)∧Ct (d-1) l os=true):=by
 rw[Gi] at h;split at h
 ·cases h
 ·rename_i hh;have hh:Ch d k o n ws.length ks.length l os.length=true:=by simpa using hh
  unfold Ch at hh;simp at hh;refine⟨by omega,by omega,fun hk=>?_⟩;rw[if_neg hk] at h;split at h
  ·cases h
  ·rename_i h1;split at h
   ·cases h
   ·rename_i h2;split at h
    ·cases h
    ·rename_i h3;split at h
     ·cases h
     ·rename_i h4;exact⟨by simpa using h1,by simpa using h2,fun e=>by omega,by simpa using h4⟩
theorem Mc {l:Int} {L:List T} (f g:Bool) (hT:Gc (.mk l [] L)) (hlen:(Ah (.mk l [] L)).length≤70368744177664):G.Spec Tryz.prog 19 [.agg [iv l,.sl f [],.sl g (L.map tA)]] (S (Ah (.mk l [] L))):=by
 refine(L4 hT hlen).soft ?_;have:L.map (A.soft ∘ tA)=L.map tA:=List.map_congr_left fun t _=>P2 t;simp[A.softL,A.soft,BM,this]
theorem cV {d:Nat} {l:Int} {x:OP} (hr:D8 d l x=true) (hl:AU l) (hw:Uv x) (he:pZ x.e) (hlen:(Au l x).length≤1000000000):G.Spec Tryz.prog 22 [iv l,oX x] (S (Au l x)):=by
 have hn:=KY hr;refine Aj Wl (by simp) fun w0 I0=>?_;unfold Qh;unfold Au at hlen ⊢;have hT:Gc (.mk l [] x.l):=⟨hl,by simp,by simp,hw.ll,wfTs_all.2 hw.l⟩;by_cases h1:x.kind=1
 ·rw[if_pos h1] at hlen ⊢;simp at hlen;have hp:=Mc true false hT (by omega);have ha:=Ar (l:=[45]) (m:=Ah (.mk l [] x.l)) (by simp;omega);simp[h1];refine Af hp rfl ?_;simp[ha];exact Ab rfl
 ·rw[if_neg h1] at hlen ⊢;by_cases h2:x.kind=2
  ·rw[if_pos h2] at hlen ⊢;simp at hlen;have hp:=Mc true false hT (by omega);have ha:=Ar (l:=[43]) (m:=Ah (.mk l [] x.l)) (by simp;omega);simp[h2];refine Af hp rfl ?_;simp[ha];exact Ab rfl
  ·rw[if_neg h2] at hlen ⊢;by_cases h3:x.kind=3
   ·rw[if_pos h3] at hlen ⊢;simp at hlen;have hp:=he d (GQ hr h3) hw.e (by omega);have ha:=Ar (l:=[42]) (m:=Bb x.e) (by simp;omega);simp[h3];refine Af hp rfl ?_;simp[ha];exact Ab rfl
   ·rw[if_neg h3] at hlen ⊢;simp at hlen;obtain⟨m,hm⟩:∃ m:Nat,x.n.toNat=m:=⟨_,rfl⟩;rw[hm] at hlen ⊢;have hh:=Ge m (by omega);have ha:=Ar (l:=[107]) (m:=Am m) (by simp;omega);have en:u64.wrap x.n=(m:Int):=by rw[AX (by omega) (by omega)];omega
    simp[h1,h2,h3,en];refine Af hh rfl ?_;simp[ha];exact Ab rfl
theorem Xf (w:WE):Aq w=Lib.join [Am w.at_.toNat,Am w.mask.toNat,Am w.old.toNat,Am w.new.toNat] [58]:=by
 simp[Aq,Lib.join,List.intercalate]
variable {n0:Nat} {w0:World} {I0:Nat→Prop} {Q:Exit→Sta→Prop}
set_option maxHeartbeats 2000000 in
theorem m9 {ws:List WE} {O0:VOb} (hwf:∀ w,w ∈ ws→WE.wf w∧0≤w.at_) (hl:ws.length≤1000000001) (hlen:∀ w,w ∈ ws→(Aq w).length≤1000000000)
  (hq:∀ (H:Hp) (v:Nat),H [0]=O0→H [2]=⟨v,.arr 1 (ws.map (S ∘ Aq))⟩→Q (.exit 1) ⟨lk [(1,.pob [0] 1 0),(3,.osl [2] v 1 0 ws.length),(4,.sl true []),(30,aV ws),(31,iv ws.length),(32,iv ws.length),(33,bv false)],H⟩):∀ (m i v:Nat) (H:Hp),i+m=ws.length→H [0]=O0→H [2]=⟨v,.arr 1 ((ws.take i).map (S ∘ Aq))⟩ →
  LoopC (cx Tryz.prog w0 I0 n0) F4 Q ⟨lk [(1,.pob [0] 1 0),(3,.osl [2] v 1 0 i),(4,.sl true []),(30,aV ws),(31,iv ws.length),(32,iv i)],H⟩:=by
 intro m;induction m with
 |zero=>
  intro i v H hm h0 hH;refine Ae mixed F4.eq_1 ?_;have:i=ws.length:=by omega
  subst this;rw[Fv (Fa _)] at hH;simp;exact hq H v h0 hH
 |succ m ih=>
  intro i v H hm h0 hH;have hi:i<ws.length:=by omega
  have ew:=A7 i;obtain⟨hw,hat⟩:=hwf _ (B0 hi);have htk:(ws.take (i+1)).map (S ∘ Aq)=(ws.take i).map (S ∘ Aq)++[S (Aq ws[i])]:=by rw[RY hi,List.map_append];rfl
  have next:=ih (i+1) (v+1)
  rw[htk] at next
  have hj:=Xf ws[i];have hll:=hlen _ (B0 hi);rw[hj] at next hll
  obtain⟨h1,⟨h2,h3⟩,h4,h5⟩:=hw;unfold AU at h1;unfold D5 at h4 h5;obtain⟨a,ha⟩:∃ a:Nat,(ws[i]).at_.toNat=a:=⟨_,rfl⟩;obtain⟨b,hb⟩:∃ a:Nat,(ws[i]).mask.toNat=a:=⟨_,rfl⟩;obtain⟨c,hc⟩:∃ a:Nat,(ws[i]).old.toNat=a:=⟨_,rfl⟩;obtain⟨d,hd⟩:∃ a:Nat,(ws[i]).new.toNat=a:=⟨_,rfl⟩;rw[ha,hb,hc,hd] at next hll
  have ea:u64.wrap (ws[i]).at_=(a:Int):=by rw[AX (by omega) (by omega)];omega
  have eb:u64.wrap (ws[i]).mask=(b:Int):=by rw[AX (by omega) (by omega)];omega
  have ec:(ws[i]).old=(c:Int):=by omega
  have ed:(ws[i]).new=(d:Int):=by omega
  have t1:=Ge a (by omega);have t2:=Ge b (by omega);have t3:=Ge c (by omega);have t4:=Ge d (by omega);have t5:=Ls true [Am a,Am b,Am c,Am d] [58] (by simp) (by omega);refine Ae mixed F4.eq_1 ?_;simp[hi,ea];refine Af t1 rfl ?_;simp[eb];refine Af t2 rfl ?_;simp[ec];refine Af t3 rfl ?_;simp[ed];refine Af t4 rfl ?_;simp;refine Af t5 rfl ?_;simp[hH,ew,Aa];refine⟨⟨by omega,by omega⟩,?_⟩;refine next _ (by omega) (by simp[Aa,h0]) ?_
  simp[Aa,List.take_take]
set_option maxHeartbeats 2000000 in
theorem mB {ks:List KE} {O2:VOb} {a3:A} {d:Nat} (hwf:∀ x,x ∈ ks→AU x.at_∧HT x.e∧0≤x.at_∧AQ d x.e=true∧pZ x.e) (hl:ks.length≤1000000001) (hlen:∀ x,x ∈ ks→(Av x).length≤1000000000)
  (hq:∀ (H:Hp) (v:Nat),H [2]=O2→H [4]=⟨v,.arr 1 (ks.map (S ∘ Av))⟩→Q (.exit 3) ⟨lk [(3,a3),(4,.osl [4] v 1 0 ks.length),(57,eM ks),(58,iv ks.length),(59,iv ks.length),(60,bv false)],H⟩):∀ (m i v:Nat) (H:Hp),i+m=ks.length→H [2]=O2→H [4]=⟨v,.arr 1 ((ks.take i).map (S ∘ Av))⟩ →
  LoopC (cx Tryz.prog w0 I0 n0) FQ Q ⟨lk [(3,a3),(4,.osl [4] v 1 0 i),(57,eM ks),(58,iv ks.length),(59,iv i)],H⟩:=by
 intro m;induction m with
 |zero=>
  intro i v H hm h0 hH;refine Ae mixed FQ.eq_1 ?_;have:i=ks.length:=by omega
  subst this;rw[Fv (Fa _)] at hH;simp;exact hq H v h0 hH
 |succ m ih=>
  intro i v H hm h0 hH;have hi:i<ks.length:=by omega
  have ew:=A7 i;obtain⟨h1,hwe,hat,hre,hpe⟩:=hwf _ (B0 hi);have htk:(ks.take (i+1)).map (S ∘ Av)=(ks.take i).map (S ∘ Av)++[S (Av ks[i])]:=by rw[RY hi,List.map_append];rfl
  have next:=ih (i+1) (v+1)
  rw[htk] at next
  have hll:=hlen _ (B0 hi);unfold Av at hll;rw[show Av ks[i]=Am (ks[i]).at_.toNat++58::Bb (ks[i]).e from rfl] at next
  unfold AU at h1;obtain⟨a,ha⟩:∃ a:Nat,(ks[i]).at_.toNat=a:=⟨_,rfl⟩;rw[ha] at next hll
  simp at hll;have ea:u64.wrap (ks[i]).at_=(a:Int):=by rw[AX (by omega) (by omega)];omega
  have t1:=Ge a (by omega);have t2:=hpe d hre hwe (by omega);have s1:=Ar (l:=Am a) (m:=[58]) (by simp;omega);have s2:=Ar (l:=Am a++[58]) (m:=Bb (ks[i]).e) (by simp;omega);refine Ae mixed FQ.eq_1 ?_;simp[hi,ea];refine Af t1 rfl ?_;simp[s1];refine Af t2 rfl ?_;simp[hH,ew,s2,Aa];refine⟨⟨by omega,by omega⟩,?_⟩;refine next _ (by omega) (by simp[Aa,h0]) ?_
  simp[Aa,List.take_take]
set_option maxHeartbeats 2000000 in
theorem nW {os:List OP} {l:Int} {cs:List A} (hcs:cs[9]? = some (iv l)) {d:Nat} (hli:AU l) (hwf:∀ x,x ∈ os→Uv x∧D8 d l x=true∧pZ x.e) (hl:os.length≤1000000001) (hlen:∀ x,x ∈ os→(Au l x).length≤1000000000)
  (hq:∀ (H:Hp) (v:Nat),H [0]=⟨1,.cells cs⟩→H [6]=⟨v,.arr 1 (os.map (S ∘ Au l))⟩→Q (.exit 5) ⟨lk [(1,.pob [0] 1 0),(9,.osl [6] v 1 0 os.length),(87,eg os),(88,iv os.length),(89,iv os.length),(90,bv false)],H⟩):∀ (m i v:Nat) (H:Hp),i+m=os.length→H [0]=⟨1,.cells cs⟩→H [6]=⟨v,.arr 1 ((os.take i).map (S ∘ Au l))⟩ →
  LoopC (cx Tryz.prog w0 I0 n0) FO Q ⟨lk [(1,.pob [0] 1 0),(9,.osl [6] v 1 0 i),(87,eg os),(88,iv os.length),(89,iv i)],H⟩:=by
 intro m;induction m with
 |zero=>
  intro i v H hm h0 hH;refine Ae mixed FO.eq_1 ?_;have:i=os.length:=by omega
  subst this;rw[Fv (Fa _)] at hH;simp;exact hq H v h0 hH
 |succ m ih=>
  intro i v H hm h0 hH;have hi:i<os.length:=by omega
  have ew:=A7 i;obtain⟨hw,hr,hpe⟩:=hwf _ (B0 hi);have htk:(os.take (i+1)).map (S ∘ Au l)=(os.take i).map (S ∘ Au l)++[S (Au l os[i])]:=by rw[RY hi,List.map_append];rfl
  have next:=ih (i+1) (v+1)
  rw[htk] at next
  have t1:=cV hr hli hw hpe (hlen _ (B0 hi));refine Ae mixed FO.eq_1 ?_;simp[hi,h0,hcs,Aa];refine Af t1 rfl ?_;simp[hH,ew,Aa];refine⟨⟨by omega,by omega⟩,?_⟩;refine next _ (by omega) (by simp[Aa,h0]) ?_
  simp[Aa,List.take_take]
theorem XI {H:Hp} {x:Value}:Jr H (.v x) (.v x):=Ab rfl
set_option maxHeartbeats 4000000 in
theorem Ie:∀ e:E,pZ e:=by
 refine E.ind fun k o nn ws ks l os ihk iho d hr hw hlen=>?_;have h:=wfE_iff.1 hw;have hwl:=h.wl;have hkl:=h.kl;have hol:=h.ol;simp at hwl hkl hol;obtain⟨k0,k3,hp⟩:=CB hr;refine Aj R7 (by simp) fun w0 I0=>?_;unfold LH;rw[C9] at hlen ⊢;by_cases h1:k=1
 ·subst h1;rw[if_pos rfl] at hlen ⊢;simp at hlen;have t1:=L4 (t:=o) h.o (by omega);have t2:=L4 (t:=nn) h.n (by omega);have s1:=Ar (l:=[40]) (m:=Ah o) (by simp;omega);have s2:=Ar (l:=[40]++Ah o) (m:=[62]) (by simp;omega);have s3:=Ar (l:=[40]++Ah o++[62]) (m:=Ah nn) (by simp;omega);have s4:=Ar (l:=[40]++Ah o++[62]++Ah nn) (m:=[41]) (by simp;omega);simp at s1 s2 s3 s4;simp;refine Af t1 rfl ?_;simp[s1,s2];refine Af t2 rfl ?_;simp[s3,s4];exact XI
 ·rw[if_neg h1] at hlen ⊢;obtain⟨hwo,hks,hli,hos⟩:=hp h1;by_cases h2:k=2
  ·subst h2;rw[if_pos rfl] at hlen ⊢;simp at hlen;have lw:∀ w,w ∈ ws→(Aq w).length≤1000000000:=fun w hw'=>by have:=Fu (List.mem_map_of_mem (f:=Aq) hw');omega
   have lk':∀ x,x ∈ ks→(Av x).length≤1000000000:=fun w hw'=>by have:=Fu (List.mem_map_of_mem (f:=Av) hw');omega
   have nw:=BG (l:=ws.map Aq);have nk:=BG (l:=ks.map Av);simp at nw nk;simp;refine LoopC.le (Es 3 [2] 1 (by simp)) ?_;refine LoopC.le (A4 [(1,.pob [0] 1 0),(3,.osl [2] 1 1 0 0),(4,.sl true []),(30,aV ws),(31,iv ws.length),(32,iv (0:Nat))] (by simp)) ?_;refine m9 (ws:=ws) (O0:=⟨1,.cells (eL (.mk 2 o nn ws ks l os))⟩) (fun w hw'=>⟨h.w w hw',Kd hwo (by omega) w hw'⟩) (by omega) lw (fun H v h0 hH=>?_) ws.length 0 1 _ (by omega) (by simp[Aa]) (by simp[Aa]);simp[h0];refine LoopC.le (Es 4 [4] 1 (by simp)) ?_;refine LoopC.le (A4 [(3,.osl [2] v 1 0 ws.length),(4,.osl [4] ((H [4]).u+1) 1 0 0),(57,eM ks),(58,iv ks.length),(59,iv (0:Nat))] (by simp)) ?_;refine mB (ks:=ks) (d:=d-1) (O2:=⟨v,.arr 1 (ws.map (S ∘ Aq))⟩) (fun x hx=>⟨(h.ks x hx).1,(h.ks x hx).2,(B8 hks (by omega) x hx).1,(B8 hks (by omega) x hx).2,ihk x hx⟩) (by omega) lk' (fun H2 v2 g2 g4=>?_) ks.length 0 ((H [4]).u+1) _ (by omega) (by simp[Aa,hH]) (by simp[Aa]);simp;have t1:=Ls false (ws.map Aq) [44] (by simp;omega) (by rw[Hi];omega);have t2:=Ls false (ks.map Av) [44] (by simp;omega) (by rw[Hi];omega);rw[Hi] at t1 t2;have s1:=Ar (l:=[115,123]) (m:=Ag (ws.map Aq)) (by simp;omega);have s2:=Ar (l:=[115,123]++Ag (ws.map Aq)) (m:=[124]) (by simp;omega);have s3:=Ar (l:=[115,123]++Ag (ws.map Aq)++[124]) (m:=Ag (ks.map Av)) (by simp;omega);have s4:=Ar (l:=[115,123]++Ag (ws.map Aq)++[124]++Ag (ks.map Av)) (m:=[125]) (by simp;omega);simp at s1 s2 s3 s4;refine Ku [.sl false ((ws.map Aq).map S),S [44]] (t1.toB rfl) ⟨?_,XI,trivial⟩ (by simp) ?_
   ·simp only[List.map_map];simp;exact Ed (f:=S ∘ Aq) (l:=ws) (by rw[g2];simp) rfl (by simp)
   simp[s1,s2];refine Ku [.sl false ((ks.map Av).map S),S [44]] (t2.toB rfl) ⟨?_,XI,trivial⟩ (by simp) ?_
   ·simp only[List.map_map];simp;exact Ed (f:=S ∘ Av) (l:=ks) (by rw[g4];simp) rfl (by simp)
   simp[s3,s4];exact XI
  ·rw[if_neg h2] at hlen ⊢;by_cases h3:k=3
   ·subst h3;rw[if_pos rfl] at hlen ⊢;simp at hlen;have lo:∀ x,x ∈ os→(Au l x).length≤1000000000:=fun w hw'=>by have:=Fu (List.mem_map_of_mem (f:=Au l) hw');omega
    have no:=BG (l:=os.map (Au l));simp at no;simp;refine LoopC.le (Es 9 [6] 1 (by simp)) ?_;refine LoopC.le (A4 [(1,.pob [0] 1 0),(9,.osl [6] 1 1 0 0),(87,eg os),(88,iv os.length),(89,iv (0:Nat))] (by simp)) ?_;refine nW (os:=os) (d:=d-1) (l:=l) (cs:=eL (.mk 3 o nn ws ks l os)) rfl h.l (fun x hx=>⟨h.os x hx,Bx hos x hx,iho x hx⟩) (by omega) lo (fun H v h0 hH=>?_) os.length 0 1 _ (by omega) (by simp[Aa]) (by simp[Aa]);simp[h0];obtain⟨l2,l9⟩:=hli rfl;have hT:Gc (.mk l [] []):=⟨h.l,by simp,by simp,by simp,wfTs_all.2 (by simp)⟩;have hsh:Ah (.mk l [] [])=[A9 l,91,93]:=by rw[AO,if_neg (fun e=>by simp at e),if_neg (by omega),if_pos ⟨l2,l9⟩];rfl
    have t1:=Mc true true hT (by rw[hsh];simp);rw[hsh] at t1;have t2:=Ls false (os.map (Au l)) [44] (by simp;omega) (by rw[Hi];omega);rw[Hi] at t2;have s1:=Ar (l:=[108]) (m:=[A9 l,91]) (by simp);have s2:=Ar (l:=[108,A9 l,91]) (m:=Ag (os.map (Au l))) (by simp;omega);have s3:=Ar (l:=[108,A9 l,91]++Ag (os.map (Au l))) (m:=[93]) (by simp;omega);simp at s1 s2 s3;refine Af t1 rfl ?_;simp[s1];refine Ku [.sl false ((os.map (Au l)).map S),S [44]] (t2.toB rfl) ⟨?_,XI,trivial⟩ (by simp) ?_
    ·simp only[List.map_map];simp;exact Ed (f:=S ∘ Au l) (l:=os) (by rw[hH];simp) rfl (by simp)
    simp[s2,s3];exact XI
   ·rw[if_neg h3] at hlen ⊢;have:k=0:=by omega
    subst this;simp;exact XI
theorem S4:∀ (l m:List (List UInt8)),(Ag l).length≤(Ag (l++m)).length
 |[],m=>by simp
 |[x],[]=>by simp
 |[x],y::m=>by simp[Ag]
 |x::y::l,m=>by
  have:=S4 (y::l) m;simp only[List.cons_append,Ag,List.length_append,List.length_cons] at this ⊢;omega
theorem ML (l:List (List UInt8)) (i:Nat):(Ag (l.take i)).length≤(Ag l).length:=by
 have:=S4 (l.take i) (l.drop i);rw[List.take_append_drop] at this;exact this
theorem Ml {α:Type} (f:α→List UInt8) {l:List α} {i:Nat} (hi:i<l.length):Ag ((l.take (i+1)).map f)=if i=0 then f l[i] else Ag ((l.take i).map f)++44::f l[i]:=by
 rw[RY hi,List.map_append,List.map_cons,List.map_nil,JK];by_cases h:i=0
 ·subst h;simp
 ·rw[if_neg h,if_neg];intro e;have:=congrArg List.length e;rw[List.length_map,List.length_take] at this;simp only[List.length_nil] at this;omega
theorem XS:∀ (os:List OP) (n m:Int),(∀ x,x ∈ os→0≤Bn x)→n≤1048576→m≤1048576→n≤(A2 n m os).1∧m≤(A2 n m os).2
 |[],n,m,_,_,_=>⟨by simp[A2],by simp[A2]⟩
 |x::os,n,m,h,hn,hm=>by
  rw[A2];have hx:=h x (by simp);have st:∀ b:Int,JF b≤1048576:=fun b=>by unfold JF;split<;>omega
  have sl:∀ a b:Int,a≤b→a≤1048576→a≤JF b:=fun a b h1 h2=>by unfold JF;split<;>omega
  obtain⟨a,b⟩:=XS os (JF (if x.kind ≠ 2 then n+Bn x else n)) (JF (if x.kind ≠ 1 then m+Bn x else m)) (fun y hy=>h y (by simp[hy])) (st _) (st _);exact⟨Int.le_trans (sl _ _ (by split<;>omega) hn) a,Int.le_trans (sl _ _ (by split<;>omega) hm) b⟩
theorem fw:∀ (os:List OP) (n m:Int),(∀ x,x ∈ os→0≤Bn x)→0≤n→0≤m→n≤1048576→m≤1048576→(A2 n m os).1<1048576→(A2 n m os).2<1048576→∀ x,x ∈ os→Bn x<1048576:=by
 intro os;induction os with
 |nil=>intro n m _ _ _ _ _ _ _ x hx;cases hx
 |cons y os ih=>
  intro n m h hn hm tn tm h1 h2 x hx;rw[A2] at h1 h2;have hy:=h y (by simp);have hr:∀ z,z ∈ os→0≤Bn z:=fun z hz=>h z (by simp[hz]);have st:∀ b:Int,JF b≤1048576:=fun b=>by unfold JF;split<;>omega
  have s0:∀ b:Int,0≤b→0≤JF b:=fun b hb=>by unfold JF;split<;>omega
  obtain⟨a,b⟩:=XS os (JF (if y.kind ≠ 2 then n+Bn y else n)) (JF (if y.kind ≠ 1 then m+Bn y else m)) hr (st _) (st _);rcases List.mem_cons.1 hx with rfl | hx
  ·have e1:=Int.lt_of_le_of_lt a h1;have e2:=Int.lt_of_le_of_lt b h2;by_cases k:x.kind=2
   ·rw[if_pos (by omega)] at e2;unfold JF at e2;split at e2<;>omega
   ·rw[if_pos k] at e1;unfold JF at e1;split at e1<;>omega
  ·exact ih _ _ hr (s0 _ (by split<;>omega)) (s0 _ (by split<;>omega)) (st _) (st _) h1 h2 x hx
theorem NM {l:Int} (h2:2≤l) (h9:l≤9) {L:List T} (h:∀ t,t ∈ L→Ax 64 (.mk l [] [t])=true) (hn:L.length<1048576):Ax 64 (.mk l [] L)=true:=by
 rw[C4,if_neg (by omega),if_neg (by omega),if_neg,rightL_all]
 ·intro t ht;have:=h t ht;rw[C4,if_neg (by omega),if_neg (by omega)] at this;split at this
  ·cases this
  ·exact rightL_all.1 this t (by simp)
 ·unfold Cf;simp;omega
theorem TE {d:Nat} {l:Int} {os:List OP} {o n:T} {ws:List WE} {ks:List KE} (h:AQ d (.mk 3 o n ws ks l os)=true) {x:OP} (hx:x ∈ os) (hk:x.kind=1∨x.kind=2):Ax 64 (.mk l [] x.l)=true:=by
 obtain⟨_,_,hp⟩:=CB h;obtain⟨_,_,hl,hos⟩:=hp (by omega);obtain⟨l2,l9⟩:=hl rfl;have hlen:(A2 0 0 os).1<1048576∧(A2 0 0 os).2<1048576:=by
  rw[Gi] at h;split at h
  ·cases h
  ·rw[if_neg (by omega)] at h
   repeat' (split at h;· cases h)
   simp at h;exact h
 have ho:=Bx hos x hx;have hnn:∀ y,y ∈ os→0≤Bn y:=fun y hy=>by
  have:=(KY (Bx hos y hy)).1;unfold Bn;split<;>omega
 have:=fw os 0 0 hnn (by omega) (by omega) (by omega) (by omega) hlen.1 hlen.2 x hx;have hn0:=(KY ho).1;refine NM l2 l9 (fun t ht=>?_) (by unfold Bn at this;rw[if_neg (by omega)] at this;omega);rw[FC,Bool.and_eq_true] at ho;have hf:=ho.1;unfold EW at hf;rw[if_neg (by omega)] at hf;split at hf
 ·cases hf
 ·rw[if_pos (by omega)] at hf;simp at hf;exact hf.1.1 t ht
def rr (e:E):Prop:=∀ d,AQ d e=true→HT e→(Bb e).length≤1000000000→G.Spec Tryz.prog 10 [eX e] (S (Bb e))
set_option maxHeartbeats 4000000 in
theorem jH {e:E} {pre:List UInt8} (hpre:pre.length≤10) (hwf:∀ w,w ∈ e.words→WE.wf w∧0≤w.at_) (hl:e.words.length≤1000000001) (hlen:(Ag (e.words.map Aq)).length≤1000000000)
  (hq:∀ (H:Hp),H [0]=⟨1,.cells (eL e)⟩→Q (.exit 1) ⟨lk [(1,.pob [0] 1 0),(3,S (pre++Ag (e.words.map Aq))),(4,iv e.words.length),(32,bv false)],H⟩):∀ (m i:Nat) (H:Hp),i+m=e.words.length→H [0]=⟨1,.cells (eL e)⟩ →
  LoopC (cx Tryz.prog w0 I0 n0) Bt Q ⟨lk [(1,.pob [0] 1 0),(3,S (pre++Ag ((e.words.take i).map Aq))),(4,iv i)],H⟩:=by
 intro m;induction m with
 |zero=>
  intro i H hm h0;refine Ae mixed Bt.eq_1 ?_;have:i=e.words.length:=by omega
  subst this;rw[Fv (Fa _)];simp[h0];exact hq H h0
 |succ m ih=>
  intro i H hm h0;have hi:i<e.words.length:=by omega
  have ew:=A7 i;obtain⟨hw,hat⟩:=hwf _ (B0 hi);have next:=ih (i+1)
  rw[Ml Aq hi] at next
  have hjl:(Ag ((e.words.take i).map Aq)).length≤1000000000:=by have:=ML (e.words.map Aq) i;rw[← List.map_take] at this;omega
  have hll:=Fu (List.mem_map_of_mem (f:=Aq) (B0 hi));have hll2:(Aq e.words[i]).length≤1000000000:=by omega
  have hJ0:i=0→Ag ((e.words.take i).map Aq)=[]:=fun h=>by subst h;rfl
  generalize Ag ((e.words.take i).map Aq)=J at *;obtain⟨h1,⟨h2,h3⟩,h4,h5⟩:=hw;unfold AU at h1;unfold D5 at h4 h5;rw[show Aq e.words[i]=Am (e.words[i]).at_.toNat++58::(Am (e.words[i]).mask.toNat++58::(Am (e.words[i]).old.toNat++58::Am (e.words[i]).new.toNat)) from rfl] at hll2 next
  obtain⟨a,ha⟩:∃ a:Nat,(e.words[i]).at_.toNat=a:=⟨_,rfl⟩;obtain⟨b,hb⟩:∃ a:Nat,(e.words[i]).mask.toNat=a:=⟨_,rfl⟩;obtain⟨c,hc⟩:∃ a:Nat,(e.words[i]).old.toNat=a:=⟨_,rfl⟩;obtain⟨d,hd⟩:∃ a:Nat,(e.words[i]).new.toNat=a:=⟨_,rfl⟩;rw[ha,hb,hc,hd] at next hll2
  have ea:u64.wrap (e.words[i]).at_=(a:Int):=by rw[AX (by omega) (by omega)];omega
  have eb:u64.wrap (e.words[i]).mask=(b:Int):=by rw[AX (by omega) (by omega)];omega
  have ec:(e.words[i]).old=(c:Int):=by omega
  have ed:(e.words[i]).new=(d:Int):=by omega
  have t1:=FA a (by omega);have t2:=FA b (by omega);have t3:=FA c (by omega);have t4:=FA d (by omega);simp only[List.length_append,List.length_cons] at hll2;have go:∀ (P:List UInt8),P.length≤2000000000→LoopC (cx Tryz.prog w0 I0 n0) Bt Q ⟨lk [(1,.pob [0] 1 0),(3,S (P++(Am a++58::(Am b++58::(Am c++58::Am d))))),(4,iv (i+1:Nat))],AR H [1] ⟨(H [1]).u+1,.cells [iv (e.words[i]).at_,u8 (e.words[i]).mask,uv c,uv d]⟩⟩→WPC (cx Tryz.prog w0 I0 n0) EU (Ci 2 (Dn (WPC (cx Tryz.prog w0 I0 n0) (.keep [1,3,4] (.reg [co (some 33) (.move (.tmp 4)) none,co (some 34) (.binOp .add 3 (.tmp 33) (.const (.int .i64 1)) 3) none,co (some 4) (.assign (.tmp 34)) none] [1,3,4])) (Dn (LoopC (cx Tryz.prog w0 I0 n0) Bt Q) Q)) (Dn (LoopC (cx Tryz.prog w0 I0 n0) Bt Q) Q))) ⟨lk [(1,.pob [0] 1 0),(3,S P),(4,iv i)],H⟩:=by
   intro P hP nx;have s1:=Ar (l:=P) (m:=Am a) (by omega);have s2:=Ar (l:=P++Am a) (m:=[58]) (by simp;omega);have s3:=Ar (l:=P++Am a++[58]) (m:=Am b) (by simp;omega);have s4:=Ar (l:=P++Am a++[58]++Am b) (m:=[58]) (by simp;omega);have s5:=Ar (l:=P++Am a++[58]++Am b++[58]) (m:=Am c) (by simp;omega);have s6:=Ar (l:=P++Am a++[58]++Am b++[58]++Am c) (m:=[58]) (by simp;omega);have s7:=Ar (l:=P++Am a++[58]++Am b++[58]++Am c++[58]) (m:=Am d) (by simp;omega);simp at s1 s2 s3 s4 s5 s6 s7;rw[EU.eq_1];simp[h0,hi,ea,Aa];refine Af t1 rfl ?_;simp[s1,s2,eb];refine Af t2 rfl ?_;simp[s3,s4,ec];refine Af t3 rfl ?_;simp[s5,s6,ed];refine Af t4 rfl ?_;simp[s7,ew];simp at nx;exact nx
  refine Ae mixed Bt.eq_1 ?_;by_cases hi0:i=0
  ·subst hi0;have nx:=next (AR H [1] ⟨(H [1]).u+1,.cells [iv (e.words[0]).at_,u8 (e.words[0]).mask,uv c,uv d]⟩) (by omega) (by simp[Aa,h0])
   rw[if_pos rfl] at nx;have hj0:=hJ0 rfl;subst hj0;have nx2:=go pre (by omega) (by simpa using nx);simp[h0,hi];simpa using nx2
  ·have nx:=next (AR H [1] ⟨(H [1]).u+1,.cells [iv (e.words[i]).at_,u8 (e.words[i]).mask,uv c,uv d]⟩) (by omega) (by simp[Aa,h0])
   rw[if_neg hi0] at nx;have s0:=Ar (l:=pre++J) (m:=[44]) (by simp;omega);simp at s0;simp[h0,hi,show(0:Int)<i by omega,show 0<i by omega,s0];have:=go (pre++(J++[44])) (by simp;omega) (by simpa using nx);simpa using this
set_option maxHeartbeats 4000000 in
theorem jt {e:E} {pre:List UInt8} (hpre:pre.length≤1000000010) {dd:Nat} (hwf:∀ x,x ∈ e.kids→AU x.at_∧HT x.e∧0≤x.at_∧AQ dd x.e=true∧rr x.e) (hl:e.kids.length≤1000000001) (hlen:(Ag (e.kids.map Av)).length≤1000000000)
  (hq:∀ (H:Hp),H [0]=⟨1,.cells (eL e)⟩→Q (.exit 3) ⟨lk [(1,.pob [0] 1 0),(3,S (pre++Ag (e.kids.map Av))),(6,iv e.kids.length),(72,bv false)],H⟩):∀ (m i:Nat) (H:Hp),i+m=e.kids.length→H [0]=⟨1,.cells (eL e)⟩ →
  LoopC (cx Tryz.prog w0 I0 n0) Bw Q ⟨lk [(1,.pob [0] 1 0),(3,S (pre++Ag ((e.kids.take i).map Av))),(6,iv i)],H⟩:=by
 intro m;induction m with
 |zero=>
  intro i H hm h0;refine Ae mixed Bw.eq_1 ?_;have:i=e.kids.length:=by omega
  subst this;rw[Fv (Fa _)];simp[h0];exact hq H h0
 |succ m ih=>
  intro i H hm h0;have hi:i<e.kids.length:=by omega
  have ew:=A7 i;obtain⟨h1,hwe,hat,hre,hpe⟩:=hwf _ (B0 hi);have next:=ih (i+1)
  rw[Ml Av hi] at next
  have hjl:(Ag ((e.kids.take i).map Av)).length≤1000000000:=by have:=ML (e.kids.map Av) i;rw[← List.map_take] at this;omega
  have hll:=Fu (List.mem_map_of_mem (f:=Av) (B0 hi));have hll2:(Av e.kids[i]).length≤1000000000:=by omega
  have hJ0:i=0→Ag ((e.kids.take i).map Av)=[]:=fun h=>by subst h;rfl
  generalize Ag ((e.kids.take i).map Av)=J at *;unfold AU at h1;rw[show Av e.kids[i]=Am (e.kids[i]).at_.toNat++58::Bb (e.kids[i]).e from rfl] at hll2 next
  obtain⟨a,ha⟩:∃ a:Nat,(e.kids[i]).at_.toNat=a:=⟨_,rfl⟩;rw[ha] at next hll2
  have ea:u64.wrap (e.kids[i]).at_=(a:Int):=by rw[AX (by omega) (by omega)];omega
  simp only[List.length_append,List.length_cons] at hll2;have t1:=FA a (by omega);have t2:=hpe dd hre hwe (by omega);have nx:=next H (by omega) h0
  have go:∀ (P:List UInt8),P.length≤3000000000→LoopC (cx Tryz.prog w0 I0 n0) Bw Q ⟨lk [(1,.pob [0] 1 0),(3,S (P++(Am a++58::Bb (e.kids[i]).e))),(6,iv (i+1:Nat))],H⟩→WPC (cx Tryz.prog w0 I0 n0) EV (Ci 4 (Dn (WPC (cx Tryz.prog w0 I0 n0) (.keep [1,3,6] (.reg [co (some 73) (.move (.tmp 6)) none,co (some 74) (.binOp .add 3 (.tmp 73) (.const (.int .i64 1)) 3) none,co (some 6) (.assign (.tmp 74)) none] [1,3,6])) (Dn (LoopC (cx Tryz.prog w0 I0 n0) Bw Q) Q)) (Dn (LoopC (cx Tryz.prog w0 I0 n0) Bw Q) Q))) ⟨lk [(1,.pob [0] 1 0),(3,S P),(6,iv i)],H⟩:=by
   intro P hP nx;have s1:=Ar (l:=P) (m:=Am a) (by omega);have s2:=Ar (l:=P++Am a) (m:=[58]) (by simp;omega);have s3:=Ar (l:=P++Am a++[58]) (m:=Bb (e.kids[i]).e) (by simp;omega);simp at s1 s2 s3;rw[EV.eq_1];simp[h0,hi,ea,Aa];refine Af t1 rfl ?_;simp[s1,s2,h0,hi];refine Af t2 rfl ?_;simp[s3,ew];simp at nx;exact nx
  refine Ae mixed Bw.eq_1 ?_;by_cases hi0:i=0
  ·subst hi0;rw[if_pos rfl] at nx;have hj0:=hJ0 rfl;subst hj0;have nx2:=go pre (by omega) (by simpa using nx);simp[h0,hi];simpa using nx2
  ·rw[if_neg hi0] at nx;have s0:=Ar (l:=pre++J) (m:=[44]) (by simp;omega);simp at s0;simp[h0,hi,show(0:Int)<i by omega,show 0<i by omega,s0];have:=go (pre++(J++[44])) (by simp;omega) (by simpa using nx);simpa using this
set_option maxHeartbeats 8000000 in
theorem jr {e:E} {pre:List UInt8} (hpre:pre.length≤10) {dd:Nat} (hli:AU e.list) (hwf:∀ x,x ∈ e.ops→Uv x∧D8 dd e.list x=true∧rr x.e∧(x.kind=1∨x.kind=2→Ax 64 (.mk e.list [] x.l)=true)∧0≤x.kind∧x.kind≤3) (hl:e.ops.length≤1000000001) (hlen:(Ag (e.ops.map (Au e.list))).length≤1000000000)
  (hq:∀ (H:Hp),H [0]=⟨1,.cells (eL e)⟩→Q (.exit 5) ⟨lk [(1,.pob [0] 1 0),(7,S (pre++Ag (e.ops.map (Au e.list)))),(8,iv e.ops.length),(112,bv false)],H⟩):∀ (m i:Nat) (H:Hp),i+m=e.ops.length→H [0]=⟨1,.cells (eL e)⟩ →
  LoopC (cx Tryz.prog w0 I0 n0) Bv Q ⟨lk [(1,.pob [0] 1 0),(7,S (pre++Ag ((e.ops.take i).map (Au e.list)))),(8,iv i)],H⟩:=by
 intro m;induction m with
 |zero=>
  intro i H hm h0;refine Ae mixed Bv.eq_1 ?_;have:i=e.ops.length:=by omega
  subst this;rw[Fv (Fa _)];simp[h0];exact hq H h0
 |succ m ih=>
  intro i H hm h0;have hi:i<e.ops.length:=by omega
  have ew:=A7 i;obtain⟨hw,hr,hpe,htr,hk0,hk3⟩:=hwf _ (B0 hi);have hn:=KY hr;have next:=ih (i+1)
  rw[Ml (Au e.list) hi] at next
  have hjl:(Ag ((e.ops.take i).map (Au e.list))).length≤1000000000:=by have:=ML (e.ops.map (Au e.list)) i;rw[← List.map_take] at this;omega
  have hll:=Fu (List.mem_map_of_mem (f:=Au e.list) (B0 hi));have hll2:(Au e.list e.ops[i]).length≤1000000000:=by omega
  have hJ0:i=0→Ag ((e.ops.take i).map (Au e.list))=[]:=fun h=>by subst h;rfl
  generalize Ag ((e.ops.take i).map (Au e.list))=J at *;have hT:Gc (.mk e.list [] (e.ops[i]).l):=⟨hli,by simp,by simp,hw.ll,wfTs_all.2 hw.l⟩;have hre:(e.ops[i]).kind=3→AQ dd (e.ops[i]).e=true:=fun h=>GQ hr h;have go:∀ (P:List UInt8),P.length≤2000000000→(∀ H':Hp,H' [0]=⟨1,.cells (eL e)⟩→LoopC (cx Tryz.prog w0 I0 n0) Bv Q ⟨lk [(1,.pob [0] 1 0),(7,S (P++Au e.list e.ops[i])),(8,iv (i+1:Nat))],H'⟩)→WPC (cx Tryz.prog w0 I0 n0) ET (Ci 6 (Dn (WPC (cx Tryz.prog w0 I0 n0) (.keep [1,7,8] (.reg [co (some 113) (.move (.tmp 8)) none,co (some 114) (.binOp .add 3 (.tmp 113) (.const (.int .i64 1)) 3) none,co (some 8) (.assign (.tmp 114)) none] [1,7,8])) (Dn (LoopC (cx Tryz.prog w0 I0 n0) Bv Q) Q)) (Dn (LoopC (cx Tryz.prog w0 I0 n0) Bv Q) Q))) ⟨lk [(1,.pob [0] 1 0),(7,S P),(8,iv i)],H⟩:=by
   intro P hP nx;rw[ET.eq_1];unfold Au at nx hll2;by_cases k1:(e.ops[i]).kind=1
   ·rw[if_pos k1] at nx hll2;simp only[List.length_cons] at hll2;have t1:G.Spec Tryz.prog 25 [.agg [iv e.list,.sl true [],.sl false ((e.ops[i]).l.map tA)]] (S (Ah (.mk e.list [] (e.ops[i]).l))):=by
     refine Spec.soft (Ig _ hT 64 (htr (.inl k1)) (by omega)) ?_;have:(e.ops[i]).l.map (A.soft ∘ tA)=(e.ops[i]).l.map tA:=List.map_congr_left fun t _=>P2 t;simp[A.softL,A.soft,BM,this]
    have s1:=Ar (l:=P) (m:=[45]) (by simp;omega);have s2:=Ar (l:=P++[45]) (m:=Ah (.mk e.list [] (e.ops[i]).l)) (by simp;omega);simp at s1 s2;simp[h0,hi,Aa,k1,s1];refine Af t1 rfl ?_;simp[s2,ew];have nx2:=nx (AR H [2] ⟨(H [2]).u+1,.cells (iv (e.ops[i]).kind::iv (e.ops[i]).n::Eg (e.ops[i]).l::eL (e.ops[i]).e)⟩) (by simp[Aa,h0]);simp[k1] at nx2;exact nx2
   ·rw[if_neg k1] at nx hll2;by_cases k2:(e.ops[i]).kind=2
    ·rw[if_pos k2] at nx hll2;simp only[List.length_cons] at hll2;have t1:G.Spec Tryz.prog 25 [.agg [iv e.list,.sl true [],.sl false ((e.ops[i]).l.map tA)]] (S (Ah (.mk e.list [] (e.ops[i]).l))):=by
      refine Spec.soft (Ig _ hT 64 (htr (.inr k2)) (by omega)) ?_;have:(e.ops[i]).l.map (A.soft ∘ tA)=(e.ops[i]).l.map tA:=List.map_congr_left fun t _=>P2 t;simp[A.softL,A.soft,BM,this]
     have s1:=Ar (l:=P) (m:=[43]) (by simp;omega);have s2:=Ar (l:=P++[43]) (m:=Ah (.mk e.list [] (e.ops[i]).l)) (by simp;omega);simp at s1 s2;simp[h0,hi,Aa,k2,s1];refine Af t1 rfl ?_;simp[s2,ew];have nx2:=nx (AR H [2] ⟨(H [2]).u+1,.cells (iv (e.ops[i]).kind::iv (e.ops[i]).n::Eg (e.ops[i]).l::eL (e.ops[i]).e)⟩) (by simp[Aa,h0]);simp[k2] at nx2;exact nx2
    ·rw[if_neg k2] at nx hll2;by_cases k3:(e.ops[i]).kind=3
     ·rw[if_pos k3] at nx hll2;simp only[List.length_cons] at hll2;have t1:=hpe dd (hre k3) hw.e (by omega);have s1:=Ar (l:=P) (m:=[42]) (by simp;omega);have s2:=Ar (l:=P++[42]) (m:=Bb (e.ops[i]).e) (by simp;omega);simp at s1 s2;simp[h0,hi,Aa,k3,s1];refine Af t1 rfl ?_;simp[s2,ew];have nx2:=nx (AR H [2] ⟨(H [2]).u+1,.cells (iv (e.ops[i]).kind::iv (e.ops[i]).n::Eg (e.ops[i]).l::eL (e.ops[i]).e)⟩) (by simp[Aa,h0]);simp[k3] at nx2;exact nx2
     ·rw[if_neg k3] at nx hll2;simp only[List.length_cons] at hll2;have k0:(e.ops[i]).kind=0:=by omega
      obtain⟨a,ha⟩:∃ a:Nat,(e.ops[i]).n.toNat=a:=⟨_,rfl⟩;rw[ha] at nx hll2;have ea:u64.wrap (e.ops[i]).n=(a:Int):=by rw[AX (by omega) (by omega)];omega
      have t1:=FA a (by omega);have s1:=Ar (l:=P) (m:=[107]) (by simp;omega);have s2:=Ar (l:=P++[107]) (m:=Am a) (by simp;omega);simp at s1 s2;simp[h0,hi,Aa,k0,s1,ea];refine Af t1 rfl ?_;simp[s2,ew];have nx2:=nx (AR H [2] ⟨(H [2]).u+1,.cells (iv (e.ops[i]).kind::iv (e.ops[i]).n::Eg (e.ops[i]).l::eL (e.ops[i]).e)⟩) (by simp[Aa,h0]);simp[k0] at nx2;exact nx2
  refine Ae mixed Bv.eq_1 ?_;by_cases hi0:i=0
  ·subst hi0;have hj0:=hJ0 rfl;subst hj0;have nx2:=go pre (by omega) (fun H' h'=>by have:=next H' (by omega) h';rw[if_pos rfl] at this;simpa using this);simp[h0,hi];simpa using nx2
  ·have s0:=Ar (l:=pre++J) (m:=[44]) (by simp;omega);simp at s0;simp[h0,hi,show(0:Int)<i by omega,show 0<i by omega,s0];have:=go (pre++(J++[44])) (by simp;omega) (fun H' h'=>by have:=next H' (by omega) h';rw[if_neg hi0] at this;simpa using this);simpa using this
theorem Pg {d:Nat} {l:Int} {x:OP} (h:D8 d l x=true):0≤x.kind∧x.kind≤3:=by
 rw[FC,Bool.and_eq_true] at h;have h1:=h.1;unfold EW at h1;split at h1
 ·omega
 ·split at h1
  ·cases h1
  ·omega
set_option maxHeartbeats 8000000 in
theorem Vu:∀ e:E,rr e:=by
 refine E.ind fun k o nn ws ks l os ihk iho d hr hw hlen=>?_;have h:=wfE_iff.1 hw;have hwl:=h.wl;have hkl:=h.kl;have hol:=h.ol;simp at hwl hkl hol;obtain⟨k0,k3,hp⟩:=CB hr;refine Aj MB (by simp) fun w0 I0=>?_;unfold Hw;rw[C9] at hlen ⊢;by_cases h0:k=0
 ·subst h0;rw[if_neg (by omega),if_neg (by omega),if_neg (by omega)];simp;exact Ab rfl
 by_cases h1:k=1
 ·subst h1;rw[if_pos rfl] at hlen ⊢;simp at hlen;have ht:Ax 64 o=true∧Ax 64 nn=true:=by
   rw[Gi] at hr;split at hr
   ·cases hr
   ·rw[if_pos rfl] at hr;simp at hr;exact⟨hr.1.1.1,hr.1.1.2⟩
  have t1:=Ig o h.o 64 ht.1 (by omega);have t2:=Ig nn h.n 64 ht.2 (by omega);unfold kV at t1 t2;have s1:=Ar (l:=[40]) (m:=Ah o) (by simp;omega);have s2:=Ar (l:=[40]++Ah o) (m:=[62]) (by simp;omega);have s3:=Ar (l:=[40]++Ah o++[62]) (m:=Ah nn) (by simp;omega);have s4:=Ar (l:=[40]++Ah o++[62]++Ah nn) (m:=[41]) (by simp;omega);simp at s1 s2 s3 s4;simp;refine Af t1 rfl ?_;simp[s1,s2];refine Af t2 rfl ?_;simp[s3,s4];exact Ab rfl
 ·rw[if_neg h1] at hlen ⊢;obtain⟨hwo,hks,hli,hos⟩:=hp h1;by_cases h2:k=2
  ·subst h2;rw[if_pos rfl] at hlen ⊢;simp at hlen;have nw:=BG (l:=ws.map Aq);have nk:=BG (l:=ks.map Av);simp at nw nk;simp;refine LoopC.le (A4 [(1,.pob [0] 1 0),(3,S ([115,123]++Ag (((E.mk 2 o nn ws ks l os).words.take 0).map Aq))),(4,iv (0:Nat))] (by simp)) ?_;refine jH (e:=.mk 2 o nn ws ks l os) (pre:=[115,123]) (by simp) (fun w hw'=>⟨h.w w hw',Kd hwo (by omega) w hw'⟩) (by show ws.length≤_;omega) (by show(Ag (ws.map Aq)).length≤_;omega) (fun H g0=>?_) ws.length 0 _ (by simp) (by simp);have s1:=Ar (l:=[115,123]++Ag (ws.map Aq)) (m:=[124]) (by simp;omega);simp at s1;simp[s1];refine LoopC.le (A4 [(1,.pob [0] 1 0),(3,S ((115::123::(Ag (ws.map Aq)++[124]))++Ag (((E.mk 2 o nn ws ks l os).kids.take 0).map Av))),(6,iv (0:Nat))] (by simp)) ?_;refine jt (e:=.mk 2 o nn ws ks l os) (pre:=115::123::(Ag (ws.map Aq)++[124])) (dd:=d-1) (by simp;omega) (fun x hx=>⟨(h.ks x hx).1,(h.ks x hx).2,(B8 hks (by omega) x hx).1,(B8 hks (by omega) x hx).2,ihk x hx⟩) (by show ks.length≤_;omega) (by show(Ag (ks.map Av)).length≤_;omega) (fun H2 g2=>?_) ks.length 0 H (by simp) g0;have s2:=Ar (l:=(115::123::(Ag (ws.map Aq)++[124]))++Ag (ks.map Av)) (m:=[125]) (by simp;omega);simp at s2;simp[s2];exact Ab rfl
  ·rw[if_neg h2] at hlen ⊢;have h3:k=3:=by omega
   subst h3;rw[if_pos rfl] at hlen ⊢;simp at hlen;obtain⟨l2,l9⟩:=hli rfl;have no:=BG (l:=os.map (Au l));simp at no;obtain⟨m,hm⟩:∃ m:Nat,l=m:=⟨l.toNat,by omega⟩;subst hm;have ew:=A7 m;have c1:(0≤(m:Int)+1∧(m:Int)+1≤10)=True:=eq_true (by omega);have hsl:=hU m (by omega) (by omega);have s1:=Ar (l:=[108]) (m:=[A9 m]) (by simp);have s2:=Ar (l:=[108,A9 m]) (m:=[91]) (by simp);simp at s1 s2;simp[h0,h1,h2,ew,c1,hsl,s1,s2,show(m:Int)≤(m:Int)+1 by omega];refine LoopC.le (A4 [(1,.pob [0] 1 0),(7,S ([108,A9 m,91]++Ag (((E.mk 3 o nn ws ks m os).ops.take 0).map (Au m)))),(8,iv (0:Nat))] (by simp)) ?_;refine jr (e:=.mk 3 o nn ws ks m os) (pre:=[108,A9 m,91]) (dd:=d-1) (by simp) h.l (fun x hx=>⟨h.os x hx,Bx hos x hx,iho x hx,fun hk=>TE hr hx hk,(Pg (Bx hos x hx)).1,(Pg (Bx hos x hx)).2⟩) (by show os.length≤_;omega) (by show(Ag (os.map (Au m))).length≤_;omega) (fun H g0=>?_) os.length 0 _ (by simp) (by simp);have s3:=Ar (l:=[108,A9 m,91]++Ag (os.map (Au m))) (m:=[93]) (by simp;omega);simp at s3;simp[s3];exact Ab rfl
end Go.Proofs.YtebihdhapepejaaGreatDoor
namespace Go.Proofs.YtebihdhapepejaaGreatDoor
open Go Go.G Go.Proofs Go.PL
theorem Hq (n:Nat):∀ c,c ∈ Am n→Q4 c∧c ≠ 44∧c ≠ 58∧c ≠ 124∧c ≠ 62:=fun c hc=>by
 obtain⟨d,hd⟩:=HO n c hc;unfold Bg at hd;have hn:(48≤c.toNat∧c.toNat≤57)∨(97≤c.toNat∧c.toNat≤102):=by
  split at hd
  ·rename_i h;exact .inl h
  ·split at hd
   ·rename_i h;exact .inr h
   ·cases hd
 have ne:∀ k:UInt8,¬ ((48≤k.toNat∧k.toNat≤57)∨(97≤k.toNat∧k.toNat≤102))→c ≠ k:=fun k hk e=>hk (by rw[← e];exact hn);refine⟨⟨?_,?_⟩,ne 44 (by decide),ne 58 (by decide),ne 124 (by decide),ne 62 (by decide)⟩
 ·rintro(h | h | h)
  ·exact ne 123 (by decide) h
  ·exact ne 91 (by decide) h
  ·exact ne 40 (by decide) h
 ·rintro(h | h | h)
  ·exact ne 125 (by decide) h
  ·exact ne 93 (by decide) h
  ·exact ne 41 (by decide) h
theorem Ff (n:Nat):RT (Am n):=Yi fun c hc=>(Hq n c hc).1
theorem Ho {k:Int} (h2:2≤k) (h9:k≤9):Q4 (A9 k)∧A9 k ≠ 44:=by
 have:∀ n:Nat,n<10→2≤n→Q4 (letters.getD n 0)∧letters.getD n 0 ≠ 44:=by
  intro n h1 h2
  match n,h1,h2 with
  |2,_,_=>exact(by decide) | 3,_,_=>exact(by decide) | 4,_,_=>exact(by decide) | 5,_,_=>exact(by decide)
  |6,_,_=>exact(by decide) | 7,_,_=>exact(by decide) | 8,_,_=>exact(by decide) | 9,_,_=>exact(by decide)
 exact this k.toNat (by omega) (by omega)
theorem Fb:∀ t:T,RT (Ah t):=by
 refine T.ind fun k w l ih=>?_;rw[AO];have p1:RT (Ag (w.map fun x=>Am x.toNat)):=Ex fun x hx=>by
  obtain⟨y,_,rfl⟩:=List.mem_map.1 hx;exact Ff _
 have p2:RT (Ag (l.map Ah)):=Ex fun x hx=>by
  obtain⟨y,hy,rfl⟩:=List.mem_map.1 hx;exact ih y hy
 split
 ·exact Ff _
 ·split
  ·rw[← List.append_assoc];refine IV (.inl rfl) (.inl rfl) (Fh p1 ?_);split
   ·exact Us
   ·exact Bk (by decide) p2
  ·split
   ·rename_i hk;exact Bk (Ho hk.1 hk.2).1 (IV (.inr (.inl rfl)) (.inr (.inl rfl)) p2)
   ·exact T4 (by decide)
theorem MQ (w:WE):RT (Aq w):=Fh (Ff _) (Bk (by decide) (Fh (Ff _) (Bk (by decide) (Fh (Ff _) (Bk (by decide) (Ff _))))))
theorem Qy:∀ e:E,(∀ d,AQ d e=true→RT (Bb e)):=by
 refine E.ind fun k o n ws ks l os ihk iho d hr=>?_;obtain⟨_,_,hp⟩:=CB hr;rw[C9];split
 ·have:40::(Ah o++62::(Ah n++[41]))=40::((Ah o++62::Ah n)++[41]):=by simp
  rw[this];exact IV (.inr (.inr rfl)) (.inr (.inr rfl)) (Fh (Fb o) (Bk (by decide) (Fb n)))
 ·rename_i c1;obtain⟨hwo,hks,hli,hos⟩:=hp c1;split
  ·rename_i c2;have:115::123::(Ag (ws.map Aq)++124::(Ag (ks.map Av)++[125]))=115::(123::((Ag (ws.map Aq)++124::Ag (ks.map Av))++[125])):=by simp
   rw[this];refine Bk (by decide) (IV (.inl rfl) (.inl rfl) (Fh (Ex fun x hx=>?_) (Bk (by decide) (Ex fun x hx=>?_))))
   ·obtain⟨w,_,rfl⟩:=List.mem_map.1 hx;exact MQ w
   ·obtain⟨w,hw,rfl⟩:=List.mem_map.1 hx;exact Fh (Ff _) (Bk (by decide) (ihk w hw _ (B8 hks (by omega) w hw).2))
  ·split
   ·rename_i c2 c3;obtain⟨l2,l9⟩:=hli c3;refine Bk (by decide) (Bk (Ho l2 l9).1 (IV (.inr (.inl rfl)) (.inr (.inl rfl)) (Ex fun x hx=>?_)));obtain⟨y,hy,rfl⟩:=List.mem_map.1 hx;unfold Au;split
    ·exact Bk (by decide) (Fb _)
    ·split
     ·exact Bk (by decide) (Fb _)
     ·split
      ·rename_i hk;exact Bk (by decide) (iho y hy _ (GQ (Bx hos y hy) hk))
      ·exact Bk (by decide) (Ff _)
   ·exact T4 (by decide)
theorem Vb:∀ (r:List UInt8) (n:Nat),(∀ c,c ∈ r→∃ d,Bg c=some d)→(AE n r).2=true
 |[],n,_=>rfl
 |c::r,n,h=>by
  obtain⟨d,hd⟩:=h c (by simp);rw[AE,hd];exact Vb r _ fun x hx=>h x (by simp[hx])
theorem OO {first x:List UInt8} {last:UInt8}:Bu first last (first++(x++[last]))=(x,true):=by
 unfold Bu;have hl:(first++(x++[last])).length-1=first.length+x.length:=by simp
 have h3:(first++(x++[last]))[(first++(x++[last])).length-1]? = some last:=by
  rw[hl,← List.append_assoc,← List.length_append];simp
 rw[if_pos ⟨by simp,by simp,h3⟩,hl,List.drop_left,show first.length+x.length-first.length=x.length by omega,List.take_left]
theorem aH {n m:Nat} (hn:n<18446744073709551616) (hm:m<18446744073709551616) (h:Am n=Am m):n=m:=by
 have h1:=Rb n hn;have h2:=Rb m hm;rw[h,h2] at h1;exact(Option.some.inj h1).symm
theorem PX {n:Nat} (hn:n<18446744073709551616):G1 (Am n)=(n,true):=by
 have hl:=Jb 16 n (by omega) (by omega);have hp:=Dc n;have h2:(G1 (Am n)).2=true:=by
  unfold G1;rw[if_neg]
  ·exact Vb _ _ (HO n)
  ·rintro(h | h | ⟨h,h'⟩)
   ·omega
   ·omega
   ·by_cases h0:n<16
    ·rw[Ce h0] at h;simp at h
    ·have:=OJ n (by omega);cases hx:Am n with
     |nil=>rw[hx] at hp;simp at hp
     |cons c r=>
      rw[hx] at this h';simp at this h';exact this h'
 have h1:=aH (Ll _) hn (KW h2);exact Prod.ext h1 h2
theorem OH {n:Nat} (hn:n≤1048576):Df (Am n)=n:=by
 unfold Df;rw[PX (by omega),if_pos ⟨rfl,hn⟩]
theorem TC {n:Nat} (r:List UInt8):Bz 58 (Am n++58::r)=(Am n,r,true):=
 TP (FB 0 fun h=>(Hq n 58 h).2.2.1 rfl) (I7 (Ff n))
theorem bg {w:WE} (h0:0≤w.at_) (h1:w.at_≤1048576) (hw:WE.wf w):F9 (Aq w)=(w,true):=by
 obtain⟨_,⟨m0,m1⟩,ho,hn⟩:=hw;unfold D5 at ho hn;have e1:Bz 58 (Aq w)=(Am w.at_.toNat,Am w.mask.toNat++58::(Am w.old.toNat++58::Am w.new.toNat),true):=TC _;unfold F9;simp only[e1,TC,PX (show w.mask.toNat<18446744073709551616 by omega),PX (show w.old.toNat<18446744073709551616 by omega),PX (show w.new.toNat<18446744073709551616 by omega),OH (show w.at_.toNat≤1048576 by omega)];rw[if_pos (by simp;omega)];obtain⟨a,m,o,n⟩:=w;simp only at h0 m0 ho hn ⊢;rw[Int.toNat_of_nonneg h0,Int.toNat_of_nonneg m0,Int.toNat_of_nonneg ho.1,Int.toNat_of_nonneg hn.1]
theorem Vn (n:Nat):FX (Am n):=⟨FB 0 fun h=>(Hq n 44 h).2.1 rfl,I7 (Ff n)⟩
theorem Zn (w:WE):FX (Aq w):=by
 have f:∀ n:Nat,(44:UInt8) ∉ Am n:=fun n h=>(Hq n 44 h).2.1 rfl;refine⟨FB 0 fun h=>?_,I7 (MQ w)⟩;unfold Aq at h;simp only[List.mem_append,List.mem_cons] at h;rcases h with h | h | h | h | h | h | h
 ·exact f _ h
 ·exact absurd h (by decide)
 ·exact f _ h
 ·exact absurd h (by decide)
 ·exact f _ h
 ·exact absurd h (by decide)
 ·exact f _ h
theorem P1 {α:Type} {f:List UInt8→α × Bool} {sh:α→List UInt8}:∀ (l acc:List α),(∀ x,x ∈ l→f (sh x)=(x,true))→Dk f acc (l.map sh)=(acc++l,true)
 |[],acc,_=>by simp[Dk]
 |x::l,acc,h=>by
  rw[List.map_cons,Dk,h x (by simp),if_pos rfl,P1 l _ fun y hy=>h y (by simp[hy])];simp
def UL (rest:List UInt8):Prop:=∀ c,rest.head? = some c→Bg c=none
theorem J2 {c:UInt8} (h:Bg c=none) (r:List UInt8):UL (c::r):=fun x hx=>by simp at hx;rw[← hx];exact h
theorem JR {c:UInt8} {r:List UInt8}:AY c (c::r)=some 1:=by unfold AY;rw[if_pos (by simp)]
theorem E6 {l r:List UInt8}:(l++r).drop l.length=r:=List.drop_left
theorem cR {w:WE} (h0:0≤w.at_) (h1:w.at_≤1048576) (hw:WE.wf w) {rest:List UInt8} (hr:UL rest):Jh (Aq w++rest)=some (w,(Aq w).length):=by
 obtain⟨_,⟨m0,m1⟩,ho,hn⟩:=hw;unfold D5 at ho hn;have d58:∀ r:List UInt8,UL (58::r):=fun r=>J2 (by decide) r;have e1:=Lh (most:=1048576) (n:=w.at_.toNat) (rest:=58::(Am w.mask.toNat++58::(Am w.old.toNat++58::(Am w.new.toNat++rest)))) (by omega) (by omega) (d58 _);have e2:=Lh (most:=255) (n:=w.mask.toNat) (rest:=58::(Am w.old.toNat++58::(Am w.new.toNat++rest))) (by omega) (by omega) (d58 _);have e3:=Lh (most:=18446744073709551615) (n:=w.old.toNat) (rest:=58::(Am w.new.toNat++rest)) (by omega) (by omega) (d58 _);have e4:=Lh (most:=18446744073709551615) (n:=w.new.toNat) (rest:=rest) (by omega) (by omega) hr;have hs:Aq w++rest=Am w.at_.toNat++58::(Am w.mask.toNat++58::(Am w.old.toNat++58::(Am w.new.toNat++rest))):=by simp[Aq]
 rw[hs];unfold Jh;rw[e1];simp only[E6,JR,← List.drop_drop,List.drop_succ_cons,List.drop_zero,e2,e3,e4];simp only[Option.some.injEq,Prod.mk.injEq];refine⟨?_,by simp[Aq];omega⟩;obtain⟨a,m,o,n⟩:=w;simp only at h0 m0 ho hn ⊢;rw[Int.toNat_of_nonneg h0,Int.toNat_of_nonneg m0,Int.toNat_of_nonneg ho.1,Int.toNat_of_nonneg hn.1]
theorem ZZ (n:Nat) (r:List UInt8) {c:UInt8} (hc:Bg c=none):Ey (Am n++r) ≠ c:=by
 have h:=HO n;have hp:=Dc n;cases hx:Am n with
 |nil=>rw[hx] at hp;simp at hp
 |cons x l=>
  rw[List.cons_append];intro e;have e:x=c:=e;obtain⟨d,hd⟩:=h x (by rw[hx];simp);rw[e,hc] at hd;cases hd
theorem Rz {n:Nat} {r:List UInt8}:Cg n ((if n=0 then [] else [44])++r)=some (if n=0 then 0 else 1):=by
 unfold Cg;split
 ·rfl
 ·exact JR
theorem Xj:∀ (l:List (List UInt8)) (r:List UInt8),DV l=[]∨∃ x,DV l=44::x
 |[],r=>.inl rfl
 |x::l,r=>.inr ⟨_,rfl⟩
theorem PC (l:List (List UInt8)) {c:UInt8} (hc:Bg c=none) (r:List UInt8):UL (DV l++c::r):=by
 rcases Xj l [] with h | ⟨x,h⟩
 ·rw[h];exact J2 hc r
 ·rw[h];exact J2 (by decide) _
theorem Hh {n:Nat} (l:List (List UInt8)):Fq (n+1) l=DV l:=by unfold Fq;rw[if_neg (by omega)]
theorem S6:∀ (ws:List WE) (f n:Nat) (rest:List UInt8),(∀ w,w ∈ ws→0≤w.at_∧w.at_≤1048576∧WE.wf w)→ws.length<f→B5 f n (Fq n (ws.map Aq)++124::rest)=some (ws,(Fq n (ws.map Aq)).length)
 |[],f+1,n,rest,_,_=>by
  have:Fq n (([]:List WE).map Aq)=[]:=by unfold Fq;split<;>rfl
  rw[this,B5,if_pos (by rfl)];rfl
 |w::ws,f+1,n,rest,h,hf=>by
  obtain⟨h0,h1,hw⟩:=h w (by simp);rw[List.map_cons,Hn,Hh,B5];have ih:=S6 ws f (n+1) rest (fun x hx=>h x (by simp[hx])) (by simp at hf;omega);rw[Hh] at ih;have e:((if n=0 then [] else [(44:UInt8)])++(Aq w++DV (ws.map Aq)))++124::rest=(if n=0 then [] else [44])++(Aq w++(DV (ws.map Aq)++124::rest)):=by simp
  rw[e,if_neg]
  ·rw[Rz];have hd:((if n=0 then [] else [(44:UInt8)])++(Aq w++(DV (ws.map Aq)++124::rest))).drop (if n=0 then 0 else 1)=Aq w++(DV (ws.map Aq)++124::rest):=by split<;>rfl
   simp only[hd,cR h0 h1 hw (PC (ws.map Aq) (c:=124) (by decide) rest),← List.drop_drop,E6,ih];by_cases hn:n=0
   ·simp[hn]
   ·simp[hn];omega
  ·by_cases hn:n=0
   ·rw[if_pos hn,List.nil_append];rw[show Aq w++(DV (ws.map Aq)++124::rest)=Am w.at_.toNat++(58::(Am w.mask.toNat++58::(Am w.old.toNat++58::Am w.new.toNat))++(DV (ws.map Aq)++124::rest)) by simp[Aq]];exact ZZ _ _ (by decide)
   ·rw[if_neg hn];show(44:UInt8) ≠ 124;decide
def oT (ed:List UInt8→Option (E × Nat)) (e:E):Prop:=∀ rest:List UInt8,ed (Bb e++rest)=some (e,(Bb e).length)
theorem fE {ed:List UInt8→Option (E × Nat)} {x:KE} (h:0≤x.at_∧x.at_≤1048576∧oT ed x.e) (rest:List UInt8):N9 ed (Av x++rest)=some (x,(Av x).length):=by
 obtain⟨h0,h1,hc⟩:=h;have e1:=Lh (most:=1048576) (n:=x.at_.toNat) (rest:=58::(Bb x.e++rest)) (by omega) (by omega) (J2 (by decide) _);have hs:Av x++rest=Am x.at_.toNat++58::(Bb x.e++rest):=by simp[Av]
 rw[hs];unfold N9;rw[e1];simp only[E6,JR,← List.drop_drop,List.drop_succ_cons,List.drop_zero];rw[hc rest];show some (KE.mk (x.at_.toNat:Int) x.e,(Am x.at_.toNat).length+1+(Bb x.e).length)=_;rw[Int.toNat_of_nonneg h0,show(Av x).length=(Am x.at_.toNat).length+1+(Bb x.e).length by simp[Av];omega];cases x;rfl
theorem U0 {ed:List UInt8→Option (E × Nat)}:∀ (ws:List KE) (f n:Nat) (rest:List UInt8),(∀ w,w ∈ ws→0≤w.at_∧w.at_≤1048576∧oT ed w.e)→ws.length<f→Dq ed f n (Fq n (ws.map Av)++125::rest)=some (ws,(Fq n (ws.map Av)).length)
 |[],f+1,n,rest,_,_=>by
  have:Fq n (([]:List KE).map Av)=[]:=by unfold Fq;split<;>rfl
  rw[this,Dq,if_pos (by rfl)];rfl
 |w::ws,f+1,n,rest,h,hf=>by
  have hw:=h w (by simp);rw[List.map_cons,Hn,Hh,Dq];have ih:=U0 ws f (n+1) rest (fun x hx=>h x (by simp[hx])) (by simp at hf;omega);rw[Hh] at ih;have e:((if n=0 then [] else [(44:UInt8)])++(Av w++DV (ws.map Av)))++125::rest=(if n=0 then [] else [44])++(Av w++(DV (ws.map Av)++125::rest)):=by simp
  rw[e,if_neg]
  ·rw[Rz];have hd:((if n=0 then [] else [(44:UInt8)])++(Av w++(DV (ws.map Av)++125::rest))).drop (if n=0 then 0 else 1)=Av w++(DV (ws.map Av)++125::rest):=by split<;>rfl
   simp only[hd,fE hw,← List.drop_drop,E6,ih];by_cases hn:n=0
   ·simp[hn]
   ·simp[hn];omega
  ·by_cases hn:n=0
   ·rw[if_pos hn,List.nil_append];rw[show Av w++(DV (ws.map Av)++125::rest)=Am w.at_.toNat++((58::Bb w.e)++(DV (ws.map Av)++125::rest)) by simp[Av]];exact ZZ _ _ (by decide)
   ·rw[if_neg hn];show(44:UInt8) ≠ 125;decide
theorem QE {e:E} (h:J6 e=true):e=E0:=by
 obtain⟨k,⟨ok,ow,ol⟩,⟨nk,nw,nl⟩,ws,ks,l,os⟩:=e;simp[J6,Cv] at h;obtain⟨⟨⟨⟨a,⟨b1,b2⟩,b3⟩,⟨c1,c2⟩,c3⟩,⟨d1,d2⟩,d3⟩,e5⟩:=h;have a':=of_decide_eq_true a;have b':=of_decide_eq_true b1;have c':=of_decide_eq_true c1;have e':=of_decide_eq_true e5;rw[a',b',b2,b3,c',c2,c3,d1,d2,d3,e']
def rA (ed:List UInt8→Option (E × Nat)) (l:Int) (x:OP):Prop:=
 (x.kind=0∧(0≤x.n∧x.n≤1048576)∧x.l=[]∧x.e=E0)∨((x.kind=1∨x.kind=2)∧x.n=0∧x.e=E0∧Cd 64 (.mk l [] x.l)∧Ax 64 (.mk l [] x.l)=true∧l ≠ 10)∨(x.kind=3∧x.n=0∧x.l=[]∧oT ed x.e)
theorem Ki {x:OP} {k n:Int} {l:List T} {e:E} (h1:x.kind=k) (h2:x.n=n) (h3:x.l=l) (h4:x.e=e):x = .mk k n l e:=by cases x;simp at h1 h2 h3 h4;rw[h1,h2,h3,h4]
theorem bV {ed:List UInt8→Option (E × Nat)} {l:Int} {x:OP} (h:rA ed l x) {rest:List UInt8} (hr:UL rest):CZ ed l (Au l x++rest)=some (x,(Au l x).length):=by
 rcases h with ⟨hk,⟨n0,n1⟩,hl,he⟩ | ⟨hk,hn,he,hp,hrt,h10⟩ | ⟨hk,hn,hl,hc⟩
 ·have e1:=Lh (most:=1048576) (n:=x.n.toNat) (rest:=rest) (by omega) (by omega) hr;have hs:Au l x=107::Am x.n.toNat:=by unfold Au;rw[if_neg (by omega),if_neg (by omega),if_neg (by omega)]
  rw[hs,List.cons_append];unfold CZ;rw[if_pos (by rfl)];simp only[List.drop_succ_cons,List.drop_zero,e1];simp only[Option.some.injEq,Prod.mk.injEq,List.length_cons];exact⟨(Ki hk (by omega) hl he).symm,by omega⟩
 ·have e1:=Rt hp hrt (fun h=>h10 h.1) rest;rcases hk with hk | hk
  ·have hs:Au l x=45::Ah (.mk l [] x.l):=by unfold Au;rw[if_pos hk]
   rw[hs,List.cons_append];unfold CZ;rw[if_neg (by show ¬ (45:UInt8)=107;decide),if_neg (by show ¬ (45:UInt8)=42;decide),if_pos (.inl rfl)];simp only[List.drop_succ_cons,List.drop_zero,e1];rw[if_pos (show(T.mk l [] x.l).kind=l from rfl),if_pos (by rfl)];simp only[Option.some.injEq,Prod.mk.injEq,List.length_cons];exact⟨(Ki hk hn rfl he).symm,by omega⟩
  ·have hs:Au l x=43::Ah (.mk l [] x.l):=by unfold Au;rw[if_neg (by omega),if_pos hk]
   rw[hs,List.cons_append];unfold CZ;rw[if_neg (by show ¬ (43:UInt8)=107;decide),if_neg (by show ¬ (43:UInt8)=42;decide),if_pos (.inr rfl)];simp only[List.drop_succ_cons,List.drop_zero,e1];rw[if_pos (show(T.mk l [] x.l).kind=l from rfl),if_neg (by show ¬ (43:UInt8)=45;decide)];simp only[Option.some.injEq,Prod.mk.injEq,List.length_cons];exact⟨(Ki hk hn rfl he).symm,by omega⟩
 ·have hs:Au l x=42::Bb x.e:=by unfold Au;rw[if_neg (by omega),if_neg (by omega),if_pos hk]
  rw[hs,List.cons_append];unfold CZ;rw[if_neg (by show ¬ (42:UInt8)=107;decide),if_pos (by rfl)];simp only[List.drop_succ_cons,List.drop_zero,hc rest];simp only[Option.some.injEq,Prod.mk.injEq,List.length_cons];exact⟨(Ki hk hn hl rfl).symm,by omega⟩
theorem Xv (l:Int) (x:OP) (r:List UInt8):Ey (Au l x++r) ≠ 93:=by
 unfold Au;split
 ·show(45:UInt8) ≠ 93;decide
 ·split
  ·show(43:UInt8) ≠ 93;decide
  ·split
   ·show(42:UInt8) ≠ 93;decide
   ·show(107:UInt8) ≠ 93;decide
theorem Sm {ed:List UInt8→Option (E × Nat)} {l:Int}:∀ (ws:List OP) (f n:Nat) (rest:List UInt8),(∀ w,w ∈ ws→rA ed l w)→ws.length<f→BT ed l f n (Fq n (ws.map (Au l))++93::rest)=some (ws,(Fq n (ws.map (Au l))).length)
 |[],f+1,n,rest,_,_=>by
  have:Fq n (([]:List OP).map (Au l))=[]:=by unfold Fq;split<;>rfl
  rw[this,BT,if_pos (by rfl)];rfl
 |w::ws,f+1,n,rest,h,hf=>by
  have hw:=h w (by simp);rw[List.map_cons,Hn,Hh,BT];have ih:=Sm ws f (n+1) rest (fun x hx=>h x (by simp[hx])) (by simp at hf;omega);rw[Hh] at ih;have e:((if n=0 then [] else [(44:UInt8)])++(Au l w++DV (ws.map (Au l))))++93::rest=(if n=0 then [] else [44])++(Au l w++(DV (ws.map (Au l))++93::rest)):=by simp
  rw[e,if_neg]
  ·rw[Rz];have hd:((if n=0 then [] else [(44:UInt8)])++(Au l w++(DV (ws.map (Au l))++93::rest))).drop (if n=0 then 0 else 1)=Au l w++(DV (ws.map (Au l))++93::rest):=by split<;>rfl
   simp only[hd,bV hw (PC (ws.map (Au l)) (c:=93) (by decide) rest),← List.drop_drop,E6,ih];by_cases hn:n=0
   ·simp[hn]
   ·simp[hn];omega
  ·by_cases hn:n=0
   ·rw[if_pos hn,List.nil_append];exact Xv l w _
   ·rw[if_neg hn];show(44:UInt8) ≠ 93;decide
theorem HH {t:T} (h:Cv t=true):t=T0:=by
 obtain⟨k,w,l⟩:=t;simp[Cv] at h;obtain⟨⟨a,b⟩,c⟩:=h;rw[of_decide_eq_true a,b,c]
theorem NU {d:Nat} {k:Int} {o n:T} {ws:List WE} {ks:List KE} {l:Int} {os:List OP} (h:AQ d (.mk k o n ws ks l os)=true):d ≠ 0∧(k ≠ 1→o=T0∧n=T0)∧(k ≠ 2→ws=[]∧ks=[])∧(k ≠ 3→l=0∧os=[])∧(k=1→Ax 64 o=true∧Ax 64 n=true∧o.kind ≠ 10∧n.kind ≠ 10):=by
 rw[Gi] at h;split at h
 ·cases h
 ·rename_i hh;have hh:Ch d k o n ws.length ks.length l os.length=true:=by simpa using hh
  have h0:=hh;rw[Ch] at hh;rw[Bool.and_eq_true] at hh;obtain⟨h1,h2⟩:=hh;simp only[Bool.not_eq_true',Bool.or_eq_false_iff,decide_eq_false_iff_not] at h1;simp only[Bool.not_eq_true',Bool.or_eq_false_iff] at h2;obtain⟨⟨a1,a2⟩,a3⟩:=h2;refine⟨h1.1.1,fun hk=>?_,fun hk=>?_,fun hk=>?_,fun hk=>?_⟩
  ·simp[hk] at a1;exact⟨HH a1.1,HH a1.2⟩
  ·rw[decide_eq_false hk] at a2;simp only[Bool.not_false,Bool.true_and,decide_eq_false_iff_not] at a2;exact⟨List.length_eq_zero_iff.1 (by omega),List.length_eq_zero_iff.1 (by omega)⟩
  ·rw[decide_eq_false hk] at a3;simp only[Bool.not_false,Bool.true_and,Bool.or_eq_false_iff,Bool.not_eq_false',decide_eq_true_eq,decide_eq_false_iff_not] at a3;exact⟨a3.1,List.length_eq_zero_iff.1 (by omega)⟩
  ·rw[if_pos hk] at h;simp at h;exact⟨h.1.1.1,h.1.1.2,h.1.2,h.2⟩
theorem Qr:∀ {ws:List WE} {last:Int},Bq last ws=true→∀ w,w ∈ ws→w.at_≤65534
 |x::ws,last,h,w,hw=>by
  rw[Bq,Bool.and_eq_true] at h;rcases List.mem_cons.1 hw with rfl | hw
  ·have:=h.1;unfold G2 at this;simp at this;omega
  ·exact Qr h.2 w hw
theorem L5 {d:Nat}:∀ {ks:List KE} {last:Int},Cu d last ks=true→∀ x,x ∈ ks→x.at_≤65534
 |y::ks,last,h,x,hx=>by
  rw[EA,Bool.and_eq_true,Bool.and_eq_true] at h;rcases List.mem_cons.1 hx with rfl | hx
  ·have:=h.1.1;simp at this;omega
  ·exact L5 h.2 x hx
theorem Sv {d:Nat} {l:Int} {os:List OP} {o n:T} {ws:List WE} {ks:List KE} (hr:AQ d (.mk 3 o n ws ks l os)=true) (hl:AU l) {x:OP} (hx:x ∈ os) (hw:Uv x) {ed:List UInt8→Option (E × Nat)} (he:x.kind=3→oT ed x.e) (htree:x.kind=1∨x.kind=2→Ax 64 (.mk l [] x.l)=true):rA ed l x:=by
 obtain⟨_,_,hp⟩:=CB hr;obtain⟨_,_,hli,hos⟩:=hp (by omega);obtain⟨l2,l9⟩:=hli rfl;have ho:=Bx hos x hx;have hn:=KY ho;rw[FC,Bool.and_eq_true] at ho;obtain⟨hf,hd⟩:=ho;unfold EW at hf;split at hf
 ·rename_i h0;simp at hf;exact .inl ⟨h0,hn,hf.1.2,QE hf.2⟩
 ·rename_i h0;split at hf
  ·cases hf
  ·rename_i h1;split at hf
   ·rename_i h3;simp at hf;have hk:x.kind=1∨x.kind=2:=by omega
    have hT:Gc (.mk l [] x.l):=wfT_iff.2 ⟨hl,by simp,by simp,hw.ll,hw.l⟩;exact .inr (.inl ⟨hk,by omega,QE hf.2,CF 64 _ hT (htree hk) (by show l ≠ 10;omega),htree hk,by omega⟩)
   ·rename_i h3;have hk:x.kind=3:=by omega
    rw[if_pos hk] at hd;simp[KR] at hd;exact .inr (.inr ⟨hk,by omega,hd.1.1.1.1,he hk⟩)
theorem dI {l:Int} (l2:2≤l) (l9:l≤9):Kb AG ([A9 l,91]++[93])=true∧A0 AG ([A9 l,91]++[93]) = .mk l [] []:=by
 have hsh:Ah (.mk l [] [])=[A9 l,91]++[93]:=by rw[AO,if_neg (fun e=>by simp at e),if_neg (by omega),if_pos ⟨l2,l9⟩];rfl
 have hw:Gc (.mk l [] []):=wfT_iff.2 ⟨by show AU l;unfold AU;omega,by simp,by simp,by simp,by simp⟩;have hr:Ax 64 (.mk l [] [])=true:=NM l2 l9 (by simp) (by simp);have hp:=CF 64 _ hw hr (by show l ≠ 10;omega);have:=Oi G0 hp hr;rw[hsh] at this;exact this
theorem N0 {c x:UInt8} (h:x ≠ c) (r:List UInt8):¬ A1 (x::r) c=true:=by rw[Cz];simpa using h
theorem VI:∀ e:E,∀ d,AQ d e=true→HT e→oT (Be d) e:=by
 refine E.ind fun k o nn ws ks l os ihk iho d hr hw rest=>?_;have h:=wfE_iff.1 hw;obtain⟨hd,hT,hW,hL,hP⟩:=NU hr;obtain⟨k0,k3,hp⟩:=CB hr;obtain⟨d,rfl⟩:∃ d',d=d'+1:=⟨d-1,by omega⟩;rw[Nat.add_sub_cancel] at hp;rw[C9];by_cases c1:k=1
 ·subst c1;obtain⟨r1,r2,n1,n2⟩:=hP rfl;obtain⟨rfl,rfl⟩:=hW (by omega);obtain⟨rfl,rfl⟩:=hL (by omega);rw[if_pos rfl];have p1:=CF 64 o h.o r1 n1;have p2:=CF 64 nn h.n r2 n2;have e1:=Rt p1 r1 (fun h=>n1 h.1) (62::(Ah nn++41::rest));have e2:=Rt p2 r2 (fun h=>n2 h.1) (41::rest);have hs:(40::(Ah o++62::(Ah nn++[41])))++rest=40::(Ah o++62::(Ah nn++41::rest)):=by simp
  rw[hs,Be,if_neg (N0 (by decide) _),if_pos (by rfl)];simp only[List.drop_succ_cons,List.drop_zero];unfold NK;rw[e1];simp only[E6,JR,← List.drop_drop,List.drop_succ_cons,List.drop_zero,e2,KX];simp;omega
 ·rw[if_neg c1];obtain⟨rfl,rfl⟩:=hT c1;obtain⟨hwo,hks,hli,hos⟩:=hp c1;by_cases c2:k=2
  ·subst c2;obtain⟨rfl,rfl⟩:=hL (by omega);rw[if_pos rfl];have hs:(115::123::(Ag (ws.map Aq)++124::(Ag (ks.map Av)++[125])))++rest=115::123::(Ag (ws.map Aq)++124::(Ag (ks.map Av)++125::rest)):=by simp
   rw[hs,Be,if_neg (N0 (by decide) _),if_neg (N0 (by decide) _),if_pos (by rfl)];simp only[List.drop_succ_cons,List.drop_zero];have nw:=BG (l:=ws.map Aq);have nk:=BG (l:=ks.map Av);simp only[List.length_map] at nw nk;unfold EM;rw[JR];simp only[List.drop_succ_cons,List.drop_zero];have j1:∀ L:List (List UInt8),Fq 0 L=Ag L:=fun L=>by unfold Fq;rw[if_pos rfl]
   have e1:=S6 ws ((123::(Ag (ws.map Aq)++124::(Ag (ks.map Av)++125::rest))).length+1) 0 (Ag (ks.map Av)++125::rest) (fun w hw'=>⟨Kd hwo (by omega) w hw',by have:=Qr hwo w hw';omega,h.w w hw'⟩) (by simp;omega);rw[j1] at e1;have e2:=U0 (ed:=Be d) ks ((123::(Ag (ws.map Aq)++124::(Ag (ks.map Av)++125::rest))).length+1) 0 rest (fun x hx=>⟨(B8 hks (by omega) x hx).1,by have:=L5 hks x hx;omega,ihk x hx d (B8 hks (by omega) x hx).2 (h.ks x hx).2⟩) (by simp;omega);rw[j1] at e2;rw[e1];have d1:(123::(Ag (ws.map Aq)++124::(Ag (ks.map Av)++125::rest))).drop (1+(Ag (ws.map Aq)).length)=124::(Ag (ks.map Av)++125::rest):=by rw[Nat.add_comm,List.drop_succ_cons,E6]
   have d2:(123::(Ag (ws.map Aq)++124::(Ag (ks.map Av)++125::rest))).drop (1+(Ag (ws.map Aq)).length+1)=Ag (ks.map Av)++125::rest:=by rw[← List.drop_drop,d1];rfl
   have d3:(123::(Ag (ws.map Aq)++124::(Ag (ks.map Av)++125::rest))).drop (1+(Ag (ws.map Aq)).length+1+(Ag (ks.map Av)).length)=125::rest:=by rw[← List.drop_drop,d2,E6]
   have d4:(Ag (ws.map Aq)++124::(Ag (ks.map Av)++125::rest)).drop (1+(Ag (ws.map Aq)).length)=Ag (ks.map Av)++125::rest:=by rw[Nat.add_comm,← List.drop_drop,E6];rfl
   simp only[d1,d2,d3,d4,JR,e2,KX];refine congrArg some (Prod.ext rfl ?_);simp only[List.length_cons,List.length_append,List.length_nil];omega
  ·rw[if_neg c2];obtain⟨rfl,rfl⟩:=hW c2;by_cases c3:k=3
   ·subst c3;rw[if_pos rfl];obtain⟨l2,l9⟩:=hli rfl;obtain⟨q1,q2⟩:=dI l2 l9;have hs:(108::A9 l::91::(Ag (os.map (Au l))++[93]))++rest=108::A9 l::91::(Ag (os.map (Au l))++93::rest):=by simp
    rw[hs,Be,if_neg (N0 (by decide) _),if_neg (N0 (by decide) _),if_neg (N0 (by decide) _),if_pos (by rfl)];simp only[List.drop_succ_cons,List.drop_zero];have no:=BG (l:=os.map (Au l));simp only[List.length_map] at no;have j1:∀ L:List (List UInt8),Fq 0 L=Ag L:=fun L=>by unfold Fq;rw[if_pos rfl]
    have e1:=Sm (ed:=Be d) (l:=l) os ((A9 l::91::(Ag (os.map (Au l))++93::rest)).length+1) 0 rest (fun x hx=>Sv hr h.l hx (h.os x hx) (fun hk=>iho x hx d (GQ (Bx hos x hx) hk) (h.os x hx).e) (fun hk=>TE hr hx hk)) (by simp;omega);rw[j1] at e1;have t2:(A9 l::91::(Ag (os.map (Au l))++93::rest)).take 2=[A9 l,91]:=rfl;unfold EP;rw[t2,q1,q2,if_pos ⟨by simp,rfl⟩];simp only[List.drop_succ_cons,List.drop_zero];rw[show(T.mk l [] []).kind=l from rfl,e1];have d1:(A9 l::91::(Ag (os.map (Au l))++93::rest)).drop (2+(Ag (os.map (Au l))).length)=93::rest:=by rw[← List.drop_drop];exact E6
    simp only[d1,JR,KX];simp;omega
   ·rw[if_neg c3];obtain⟨rfl,rfl⟩:=hL c3;have:k=0:=by omega
    subst this;rfl
def j4 (rd:List UInt8→E × Bool) (e:E):Prop:=rd (Bb e)=(e,true)
theorem eJ {rd:List UInt8→E × Bool} {x:KE} (h0:0≤x.at_) (h1:x.at_≤1048576) (hc:j4 rd x.e):HU rd (Av x)=(x,true):=by
 have e1:Bz 58 (Av x)=(Am x.at_.toNat,Bb x.e,true):=TC _;unfold HU;simp only[e1,OH (show x.at_.toNat≤1048576 by omega)];rw[show rd (Bb x.e)=(x.e,true) from hc,Int.toNat_of_nonneg h0];simp[h0];cases x;rfl
theorem Wy {t:T} (hp:Cd 64 t) (hr:Ax 64 t=true):Kb AI (Ah t)=true∧A0 AI (Ah t)=t:=by
 obtain⟨q1,q2⟩:=X6 (Ah t);rw[q1,q2];exact Oi G0 hp hr
def mH (rd:List UInt8→E × Bool) (l:Int) (x:OP):Prop:=
 (x.kind=0∧(0≤x.n∧x.n≤1048576)∧x.l=[]∧x.e=E0)∨((x.kind=1∨x.kind=2)∧x.n=0∧x.e=E0∧Cd 64 (.mk l [] x.l)∧Ax 64 (.mk l [] x.l)=true)∨(x.kind=3∧x.n=0∧x.l=[]∧j4 rd x.e)
theorem ja {rd:List UInt8→E × Bool} {l:Int} {x:OP} (h:mH rd l x):UB rd l (Au l x)=(x,true):=by
 rcases h with ⟨hk,⟨n0,n1⟩,hl,he⟩ | ⟨hk,hn,he,hp,hrt⟩ | ⟨hk,hn,hl,hc⟩
 ·have hs:Au l x=107::Am x.n.toNat:=by unfold Au;rw[if_neg (by omega),if_neg (by omega),if_neg (by omega)]
  rw[hs,IU,if_pos rfl,OH (show x.n.toNat≤1048576 by omega),Int.toNat_of_nonneg n0,Ki hk rfl hl he];simp[n0]
 ·obtain⟨q1,q2⟩:=Wy hp hrt;rcases hk with hk | hk
  ·have hs:Au l x=45::Ah (.mk l [] x.l):=by unfold Au;rw[if_pos hk]
   rw[hs,IU,if_neg (by decide),if_neg (by decide),if_pos (.inl rfl),q1,q2,if_neg (by decide)];refine Prod.ext (Ki hk hn rfl he).symm ?_;simp
  ·have hs:Au l x=43::Ah (.mk l [] x.l):=by unfold Au;rw[if_neg (by omega),if_pos hk]
   rw[hs,IU,if_neg (by decide),if_neg (by decide),if_pos (.inr rfl),q1,q2,if_pos rfl];refine Prod.ext (Ki hk hn rfl he).symm ?_;simp
 ·have hs:Au l x=42::Bb x.e:=by unfold Au;rw[if_neg (by omega),if_neg (by omega),if_pos hk]
  rw[hs,IU,if_neg (by decide),if_pos rfl,show rd (Bb x.e)=(x.e,true) from hc];exact Prod.ext (Ki hk hn hl rfl).symm rfl
theorem ZL {c y:UInt8} {x:List UInt8} (h:y ≠ c) (hy:Q4 y) (hx:free c 0 x):free c 0 (y::x):=⟨fun e=>h e.2,by rw[NF hy];exact hx⟩
theorem EE {y:UInt8} {x:List UInt8} (h:y ≠ 44) (hy:Q4 y) (hx:FX x):FX (y::x):=⟨ZL h hy hx.1,by rw[dp,NF hy];exact hx.2⟩
theorem cT {x y:List UInt8} (hx:FX x) (hy:FX y):FX (x++y):=⟨(KV x y 0).2 ⟨hx.1,by rw[hx.2];exact hy.1⟩,by rw[Uu,hx.2,hy.2]⟩
theorem K8 {a b:UInt8} (ha:a=123∨a=91∨a=40) (hb:b=125∨b=93∨b=41) {x:List UInt8} (h:RT x):FX (a::(x++[b])):=⟨Zf ha (by rcases ha with rfl | rfl | rfl<;>decide) h,I7 (IV ha hb h)⟩
theorem Sp {e:E} {d:Nat} (hr:AQ d e=true):FX (Bb e):=by
 obtain⟨k,o,n,ws,ks,l,os⟩:=e;obtain⟨_,_,hp⟩:=CB hr;have hb:=Qy _ d hr;rw[C9] at hb ⊢;split
 ·rw[show 40::(Ah o++62::(Ah n++[41]))=40::((Ah o++62::Ah n)++[41]) by simp];exact K8 (.inr (.inr rfl)) (.inr (.inr rfl)) (Fh (Fb o) (Bk (by decide) (Fb n)))
 ·rename_i c1;obtain⟨hwo,hks,hli,hos⟩:=hp c1;split
  ·rw[show 115::123::(Ag (ws.map Aq)++124::(Ag (ks.map Av)++[125]))=115::(123::((Ag (ws.map Aq)++124::Ag (ks.map Av))++[125])) by simp];refine EE (by decide) (by decide) (K8 (.inl rfl) (.inl rfl) (Fh (Ex fun x hx=>?_) (Bk (by decide) (Ex fun x hx=>?_))))
   ·obtain⟨w,_,rfl⟩:=List.mem_map.1 hx;exact MQ w
   ·obtain⟨w,hw,rfl⟩:=List.mem_map.1 hx;exact Fh (Ff _) (Bk (by decide) (Qy _ _ (B8 hks (by omega) w hw).2))
  ·split
   ·rename_i c2 c3;obtain⟨l2,l9⟩:=hli c3;refine EE (by decide) (by decide) (EE (Ho l2 l9).2 (Ho l2 l9).1 (K8 (.inr (.inl rfl)) (.inr (.inl rfl)) (Ex fun x hx=>?_)));obtain⟨y,hy,rfl⟩:=List.mem_map.1 hx;unfold Au;split
    ·exact Bk (by decide) (Fb _)
    ·split
     ·exact Bk (by decide) (Fb _)
     ·split
      ·rename_i hk;exact Bk (by decide) (Qy _ _ (GQ (Bx hos y hy) hk))
      ·exact Bk (by decide) (Ff _)
   ·exact⟨⟨fun e=>absurd e.2 (by decide),trivial⟩,by rw[dp,dp,NF (by decide)]⟩
theorem bJ {x:KE} {d:Nat} (hr:AQ d x.e=true):FX (Av x):=cT (Vn _) (EE (by decide) (by decide) (Sp hr))
theorem Ss {l:Int} (l2:2≤l) (l9:l≤9) (L:List T):FX (Ah (.mk l [] L)):=by
 rw[AO,if_neg (fun e=>by simp at e),if_neg (by omega),if_pos ⟨l2,l9⟩];refine EE (Ho l2 l9).2 (Ho l2 l9).1 (K8 (.inr (.inl rfl)) (.inr (.inl rfl)) (Ex fun x hx=>?_));obtain⟨y,_,rfl⟩:=List.mem_map.1 hx;exact Fb y
theorem dM {l:Int} (l2:2≤l) (l9:l≤9) {x:OP} {d:Nat} (hr:x.kind=3→AQ d x.e=true):FX (Au l x):=by
 unfold Au;split
 ·exact EE (by decide) (by decide) (Ss l2 l9 _)
 ·split
  ·exact EE (by decide) (by decide) (Ss l2 l9 _)
  ·split
   ·rename_i hk;exact EE (by decide) (by decide) (Sp (hr hk))
   ·exact EE (by decide) (by decide) (Vn _)
theorem K5 {c:UInt8} (hc:c ≠ 44):∀ {l:List (List UInt8)},c ∈ Ag l→∃ x,x ∈ l∧c ∈ x
 |[x],h=>⟨x,by simp,by simpa using h⟩
 |x::y::l,h=>by
  rw[Ag] at h;rcases List.mem_append.1 h with h | h
  ·exact⟨x,by simp,h⟩
  ·rcases List.mem_cons.1 h with h | h
   ·exact absurd h hc
   ·obtain⟨z,hz,hh⟩:=K5 hc (l:=y::l) h;exact⟨z,by simp[hz],hh⟩
theorem XC (w:WE):(124:UInt8) ∉ Aq w:=fun h=>by
 have f:∀ n:Nat,(124:UInt8) ∉ Am n:=fun n h=>(Hq n 124 h).2.2.2.1 rfl;unfold Aq at h;simp only[List.mem_append,List.mem_cons] at h;rcases h with h | h | h | h | h | h | h
 ·exact f _ h
 ·exact absurd h (by decide)
 ·exact f _ h
 ·exact absurd h (by decide)
 ·exact f _ h
 ·exact absurd h (by decide)
 ·exact f _ h
theorem Z3 (w:WE):Aq w ≠ []:=by unfold Aq;simp
theorem aM (x:KE):Av x ≠ []:=by unfold Av;simp
theorem bo (l:Int) (x:OP):Au l x ≠ []:=by unfold Au;split<;>(try split)<;>(try split)<;>simp
theorem VH {rd:List UInt8→E × Bool} {ws:List WE} {ks:List KE} {d:Nat} (hw:∀ w,w ∈ ws→0≤w.at_∧w.at_≤1048576∧WE.wf w) (hk:∀ x,x ∈ ks→0≤x.at_∧x.at_≤1048576∧j4 rd x.e∧AQ d x.e=true):E9 rd (Ag (ws.map Aq)++124::Ag (ks.map Av))=(.mk 2 T0 T0 ws ks 0 [],true):=by
 have hc:Bz 124 (Ag (ws.map Aq)++124::Ag (ks.map Av))=(Ag (ws.map Aq),Ag (ks.map Av),true):=TP (FB 0 fun h=>by
  obtain⟨x,hx,hm⟩:=K5 (by decide) h;obtain⟨w,_,rfl⟩:=List.mem_map.1 hx;exact XC w hm) (I7 (Ex fun x hx=>by
  obtain⟨w,_,rfl⟩:=List.mem_map.1 hx;exact MQ w))
 have p1:Bp (Ag (ws.map Aq))=ws.map Aq:=N8 (fun x hx=>by
  obtain⟨w,_,rfl⟩:=List.mem_map.1 hx;exact Zn w) fun x hx=>by
  obtain⟨w,_,rfl⟩:=List.mem_map.1 hx;exact Z3 w
 have p2:Bp (Ag (ks.map Av))=ks.map Av:=N8 (fun x hx=>by
  obtain⟨w,hw',rfl⟩:=List.mem_map.1 hx;exact bJ (hk w hw').2.2.2) fun x hx=>by
  obtain⟨w,_,rfl⟩:=List.mem_map.1 hx;exact aM w
 have g1:=P1 (f:=F9) (sh:=Aq) ws [] fun x hx=>bg (hw x hx).1 (hw x hx).2.1 (hw x hx).2.2;have g2:=P1 (f:=HU rd) (sh:=Av) ks [] fun x hx=>eJ (hk x hx).1 (hk x hx).2.1 (hk x hx).2.2.1;unfold E9;rw[hc];simp only[p1,p2,g1,g2];simp
theorem fy {a b:Nat} (ha:2≤a) (ha9:a≤9) (hb:2≤b) (hb9:b≤9) (h:a ≠ b):A9 a ≠ A9 b:=by
 have:∀ a b:Fin 10,2≤a.1→2≤b.1→a ≠ b→letters.getD a.1 0 ≠ letters.getD b.1 0:=by decide
 exact this ⟨a,by omega⟩ ⟨b,by omega⟩ ha hb (fun e=>h (by simpa using e))
theorem Nu {f g:List UInt8} {x:List UInt8} {last:UInt8} (hl:f.length=g.length) (h:f ≠ g):(Bu f last (g++x)).2=false:=by
 unfold Bu;rw[if_neg];rintro⟨_,h2,_⟩;rw[hl,List.take_left] at h2;exact h h2.symm
theorem Tl {rd:List UInt8→E × Bool} {l:Nat} (l2:2≤l) (l9:l≤9) {os:List OP} {d:Nat} (ho:∀ x,x ∈ os→mH rd l x∧(x.kind=3→AQ d x.e=true)):∀ (m i:Nat),2≤i→i≤l→i+m=10→Hy rd ([108,A9 l,91]++(Ag (os.map (Au l))++[93])) m i=(.mk 3 T0 T0 [] [] l os,true)
 |0,i,_,hi,hm=>by omega
 |m+1,i,hi2,hi,hm=>by
  rw[Hy];by_cases h:i=l
  ·subst h;have p1:Bp (Ag (os.map (Au i)))=os.map (Au i):=N8 (fun x hx=>by
    obtain⟨w,hw,rfl⟩:=List.mem_map.1 hx;exact dM (by omega) (by omega) (ho w hw).2) fun x hx=>by
    obtain⟨w,_,rfl⟩:=List.mem_map.1 hx;exact bo _ w
   have g1:=P1 (f:=UB rd i) (sh:=Au i) os [] fun x hx=>ja (ho x hx).1;rw[OO,if_pos rfl];simp only[p1,g1];simp
  ·have hno:(Bu [108,A9 i,91] 93 ([108,A9 l,91]++(Ag (os.map (Au l))++[93]))).2=false:=Nu (f:=[108,A9 i,91]) (g:=[108,A9 l,91]) rfl (fun e=>by
    simp at e;exact fy hi2 (by omega) l2 l9 h e)
   rw[hno,if_neg (by decide)];exact Tl l2 l9 ho m (i+1) (by omega) (by omega) (by omega)
theorem U1 (t:T):free 62 0 (Ah t):=FB 0 (by
 revert t;refine T.ind fun k w l ih=>?_;have f:∀ n:Nat,(62:UInt8) ∉ Am n:=fun n h=>(Hq n 62 h).2.2.2.2 rfl;have p1:(62:UInt8) ∉ Ag (w.map fun x=>Am x.toNat):=fun h=>by
  obtain⟨x,hx,hm⟩:=K5 (by decide) h;obtain⟨y,_,rfl⟩:=List.mem_map.1 hx;exact f _ hm
 have p2:(62:UInt8) ∉ Ag (l.map Ah):=fun h=>by
  obtain⟨x,hx,hm⟩:=K5 (by decide) h;obtain⟨y,hy,rfl⟩:=List.mem_map.1 hx;exact ih y hy hm
 rw[AO];split
 ·exact f _
 ·split
  ·intro h;simp only[List.mem_cons,List.mem_append] at h;rcases h with h | h | h | h
   ·exact absurd h (by decide)
   ·exact p1 h
   ·split at h
    ·cases h
    ·rcases List.mem_cons.1 h with h | h
     ·exact absurd h (by decide)
     ·exact p2 h
   ·simp at h
  ·split
   ·rename_i hk;intro h;simp only[List.mem_cons,List.mem_append] at h;rcases h with h | h | h | h
    ·have:∀ n:Nat,n<10→2≤n→(62:UInt8) ≠ letters.getD n 0:=by decide
     exact this k.toNat (by omega) (by omega) h
    ·exact absurd h (by decide)
    ·exact p2 h
    ·simp at h
   ·simp)
theorem cH:∀ e:E,∀ d,AQ d e=true→HT e→j4 (FI d) e:=by
 refine E.ind fun k o nn ws ks l os ihk iho d hr hw=>?_;have h:=wfE_iff.1 hw;obtain⟨hd,hT,hW,hL,hP⟩:=NU hr;obtain⟨k0,k3,hp⟩:=CB hr;obtain⟨d,rfl⟩:∃ d',d=d'+1:=⟨d-1,by omega⟩;rw[Nat.add_sub_cancel] at hp;unfold j4;rw[C9];by_cases c1:k=1
 ·subst c1;obtain⟨r1,r2,n1,n2⟩:=hP rfl;obtain⟨rfl,rfl⟩:=hW (by omega);obtain⟨rfl,rfl⟩:=hL (by omega);rw[if_pos rfl,FI,if_neg (by simp)];have hs:40::(Ah o++62::(Ah nn++[41]))=[40]++((Ah o++62::Ah nn)++[41]):=by simp
  obtain⟨q1,q2⟩:=Wy (CF 64 o h.o r1 n1) r1;obtain⟨q3,q4⟩:=Wy (CF 64 nn h.n r2 n2) r2;have hc:Bz 62 (Ah o++62::Ah nn)=(Ah o,Ah nn,true):=TP (U1 o) (I7 (Fb o));rw[hs,OO,if_pos rfl];simp only[hc,q1,q2,q3,q4];rfl
 ·rw[if_neg c1];obtain⟨rfl,rfl⟩:=hT c1;obtain⟨hwo,hks,hli,hos⟩:=hp c1;by_cases c2:k=2
  ·subst c2;obtain⟨rfl,rfl⟩:=hL (by omega);rw[if_pos rfl,FI,if_neg (by simp)];have hs:115::123::(Ag (ws.map Aq)++124::(Ag (ks.map Av)++[125]))=[115,123]++((Ag (ws.map Aq)++124::Ag (ks.map Av))++[125]):=by simp
   have hn:(Bu [40] 41 ([115,123]++((Ag (ws.map Aq)++124::Ag (ks.map Av))++[125]))).2=false:=Nu (g:=[115]) (x:=123::((Ag (ws.map Aq)++124::Ag (ks.map Av))++[125])) rfl (by decide);rw[hs,hn,if_neg (by decide),OO,if_pos rfl];exact VH (d:=d) (fun w hw'=>⟨Kd hwo (by omega) w hw',by have:=Qr hwo w hw';omega,h.w w hw'⟩) (fun x hx=>⟨(B8 hks (by omega) x hx).1,by have:=L5 hks x hx;omega,ihk x hx d (B8 hks (by omega) x hx).2 (h.ks x hx).2,(B8 hks (by omega) x hx).2⟩)
  ·rw[if_neg c2];obtain⟨rfl,rfl⟩:=hW c2;by_cases c3:k=3
   ·subst c3;rw[if_pos rfl];obtain⟨l2,l9⟩:=hli rfl;obtain⟨m,rfl⟩:∃ m:Nat,l=m:=⟨l.toNat,by omega⟩;rw[FI,if_neg (by simp)];have hs:108::A9 m::91::(Ag (os.map (Au m))++[93])=[108,A9 m,91]++(Ag (os.map (Au m))++[93]):=by simp
    have hn:(Bu [40] 41 ([108,A9 m,91]++(Ag (os.map (Au m))++[93]))).2=false:=Nu (g:=[108]) (x:=A9 m::91::(Ag (os.map (Au m))++[93])) rfl (by decide);have hn2:(Bu [115,123] 125 ([108,A9 m,91]++(Ag (os.map (Au m))++[93]))).2=false:=Nu (g:=[108,A9 m]) (x:=91::(Ag (os.map (Au m))++[93])) rfl (by simp);rw[hs,hn,if_neg (by decide),hn2,if_neg (by decide)];refine Tl (d:=d) (by omega) (by omega) (fun x hx=>⟨?_,fun hk=>GQ (Bx hos x hx) hk⟩) 8 2 (by omega) (by omega) rfl;have hk3:x.kind=3→j4 (FI d) x.e:=fun hk=>iho x hx d (GQ (Bx hos x hx) hk) (h.os x hx).e;have:=Sv hr h.l hx (h.os x hx) (ed:=Be d) (fun hk=>VI x.e d (GQ (Bx hos x hx) hk) (h.os x hx).e) (fun hk=>TE hr hx hk);rcases this with a | ⟨a,b,c,e,f,_⟩ | ⟨a,b,c,_⟩
    ·exact .inl a
    ·exact .inr (.inl ⟨a,b,c,e,f⟩)
    ·exact .inr (.inr ⟨a,b,c,hk3 a⟩)
   ·rw[if_neg c3];obtain⟨rfl,rfl⟩:=hL c3;have:k=0:=by omega
    subst this;rw[FI,if_pos rfl]
theorem Gk (ed:List UInt8→Option (E × Nat)) (s:List UInt8) (p:Nat):EM ed (s.drop p)=match AY 123 (s.drop p) with
 |none=>none
 |some _=>match B5 ((s.drop p).length+1) 0 (s.drop (p+1)) with
  |none=>none
  |some (ws,k1)=>match AY 124 (s.drop (p+1+k1)) with
   |none=>none
   |some _=>match Dq ed ((s.drop p).length+1) 0 (s.drop (p+1+k1+1)) with
    |none=>none
    |some (ks,k2)=>match AY 125 (s.drop (p+1+k1+1+k2)) with
     |none=>none
     |some _=>some (.mk 2 T0 T0 ws ks 0 [],1+k1+1+k2+1):=by
 unfold EM;simp only[List.drop_drop,Nat.add_assoc];rfl
def jh:List A:=[iv 0,iv 0,.sl true [],.sl true [],iv 0,.sl true [],.sl true [],.sl true [],.sl true [],iv 0,.sl true []]
theorem Hk {n:Nat} {φ:Prop} {w0:World} {I0:Nat→Prop} {M0:Nm→Nat→Prop} {m0:Mu} (hM:∀ r p b,1≤r→¬ M0 (r::p) b) (R:Nat→Prop) [DecidablePred R] (hR:∀ r,R r→2≤r) {H:Hp} {u k':Nat} {s:List UInt8} {cs:List A} {e:E} (h1:H [1]=⟨u,.cells cs⟩) (hf:∀ H1:Hp,(∀ r p,R r→H1 (r::p)=H (r::p))→Gv H1 cs (eL e)) (hH:∀ p,H (0::p)=(CW s k').F 0 p) :
  KN (PN NT φ Tryz.prog w0 I0 M0 n m0) [.cell 4 30] 1 (eX e) (ov 0 ((CW s k').F 0) (Dl [])) .ret ⟨lk [(4,.pob [1] u 0)],H⟩:=by
 obtain⟨H2,g1,g2⟩:=Mg (c:=PN NT φ Tryz.prog w0 I0 M0 n m0) (s:=lk [(4,.pob [1] u 0)]) (H:=H) R (fun r p b h=>hM r p b (by have:=hR r h;omega)) (r0:=1) (p0:=[]) (fun h=>by have:=hR 1 h;omega) h1 (cs':=eL e) (by simp[A.ones]) hf;refine Ia g1 (Bh (r0:=eX e) (by simp[J9,AR]) rfl fun p=>?_);exact(AM (f:=H2) (d:=[1]) (o:=0::p) (x:=(⟨u,.cells (eL e)⟩:VOb)) (by simp)).trans ((g2 0 p (fun h=>by have:=hR 0 h;omega)).trans (hH p))
set_option maxHeartbeats 4000000 in
theorem Ty {s:List UInt8} (hs:s.length≤1000000000) {d:Nat} (hd:d≤1000) (hT:kR d s) (k:Nat) (hk:k≤s.length):Ow NT Tryz.prog 64 (fun r=>[pp r,iv (d+1:Nat)]) (CW s k) (LF eX s k (EM (Be d) (s.drop k))):=by
 refine I8 Nc (by simp) (Ak A8 (Ak Bi Ay)) (GI P7) fun w0 I0 M0 m0 hM=>?_;have hdl:(s.drop k).length=s.length-k:=by simp
 have t0:=F3 (s:=s) (k:=k) (c:=123) hk hs (by decide);have hO:∀ x,EM (Be d) (s.drop k)=x→(LF eX s k (EM (Be d) (s.drop k))=none)=(x=none):=fun x h=>by rw[h];cases x<;>simp
 unfold It;simp;cases e0:AY 123 (s.drop k) with
 |none=>
  rw[e0] at t0;refine AL (.tup []) 0 t0 ⟨rfl,by rw[Gk,e0];rfl⟩ (fun p=>by simp[Aa]) (by simp) (by simp) ?_;simp;exact Aw (AK 0 (by simp[A5]))
 |some n0=>
  rw[e0] at t0;obtain⟨rfl,b0⟩:=BC e0;rw[hdl] at b0;refine Al 0 t0 (fun p=>by simp[Aa]) (by simp) (by simp) ?_;simp;refine AA ?_;simp;refine LoopC.le (Dg (d:=[2]) (u:=1) (cs:=sE (.sl true []) (.sl true [])) 7 [4] 4 (by simp[Aa,sE]) rfl (by simp)) ?_;refine ir (K:=.sl true []) (O1:=⟨1,.cells (jh)⟩) hs ((s.drop k).length+1) (k+1) 1 [] _ (by omega) (by omega) (by simp) (fun p=>by simp[Aa]) (by simp[Aa,jh]) (by simp[Aa,sE]) (by simp[Aa]) (fun hN=>?_) (fun ws k1 hW H' v' g0 g1 g2 g4=>?_)
  ·rw[Gk,e0];simp only;rw[show B5 ((s.drop k).length+1) 0 (s.drop (k+1))=none from hN];rfl
  ·have hW':B5 ((s.drop k).length+1) 0 (s.drop (k+1))=some (ws,k1):=hW;have b1:=Lo _ _ _ _ hW';simp only[List.length_drop] at b1;have t2:=F3 (s:=s) (k:=k+1+k1) (c:=124) (by omega) hs (by decide);simp;cases e2:AY 124 (s.drop (k+1+k1)) with
   |none=>
    rw[e2] at t2;refine AL (.tup []) 0 t2 ⟨rfl,by rw[Gk,e0];simp only;rw[hW'];simp only;rw[e2];rfl⟩ (fun p=>by simp[g0]) (by simp) (by simp) ?_;simp;exact Aw (AK 0 (by simp[A5]))
   |some n2=>
    rw[e2] at t2;obtain⟨rfl,b2⟩:=BC e2;simp only[List.length_drop] at b2;refine Al 0 t2 (fun p=>by simp[g0]) (by simp) (by simp) ?_;simp;refine AA ?_;simp;refine LoopC.le (Dg (d:=[2]) (u:=1) (cs:=sE (.osl [4] v' 4 0 ws.length) (.sl true [])) 8 [6] 12 (by simp[g2]) rfl (by simp)) ?_;refine LoopC.le (A4 [(0,pp 0),(1,iv (d+1:Nat)),(4,.pob [1] 1 0),(5,.pob [2] 1 0)] (by simp)) ?_;refine jx (W:=.osl [4] v' 4 0 ws.length) (O1:=⟨1,.cells (jh)⟩) (O4:=⟨v',.arr 4 (ws.map wX)⟩) hs hd hT ((s.drop k).length+1) (k+1+k1+1) ((H' [6]).u+1) [] _ (by omega) (by omega) (by simp) (fun p=>by simp[Aa]) (by simp[Aa,g1]) (by simp[Aa,sE]) (by simp[Aa,g4]) (by simp[Aa]) (fun hN=>?_) (fun ks k2 hK H2 v2 y0 y1 y2 y4 y6=>?_)
    ·rw[Gk,e0];simp only;rw[hW'];simp only;rw[e2];simp only;rw[show Dq (Be d) ((s.drop k).length+1) 0 (s.drop (k+1+k1+1))=none from hN];rfl
    ·have hK':Dq (Be d) ((s.drop k).length+1) 0 (s.drop (k+1+k1+1))=some (ks,k2):=hK;have b3:=Rl (KZ d) _ _ _ _ hK';simp only[List.length_drop] at b3;have t4:=F3 (s:=s) (k:=k+1+k1+1+k2) (c:=125) (by omega) hs (by decide);simp;cases e4:AY 125 (s.drop (k+1+k1+1+k2)) with
     |none=>
      rw[e4] at t4;refine AL (.tup []) 0 t4 ⟨rfl,by rw[Gk,e0];simp only;rw[hW'];simp only;rw[e2];simp only;rw[hK'];simp only;rw[e4];rfl⟩ (fun p=>by simp[y0]) (by simp) (by simp) ?_;simp;exact Aw (AK 0 (by simp[A5]))
     |some n4=>
      rw[e4] at t4;obtain⟨rfl,b4⟩:=BC e4;have hM2:EM (Be d) (s.drop k)=some (.mk 2 T0 T0 ws ks 0 [],1+k1+1+k2+1):=by rw[Gk,e0];simp only;rw[hW'];simp only;rw[e2];simp only;rw[hK'];simp only;rw[e4]
      rw[hM2];refine Al 0 t4 (fun p=>by simp[y0]) (by simp) (by simp) ?_;simp;refine AA ?_;simp[y1,y2,sE,jh,splice,Ix];rw[show k+(1+k1+1+k2+1)=k+1+k1+1+k2+1 by omega];refine Hk hM (fun r=>r=4∨r=6) (fun r h=>by omega) (e:=.mk 2 T0 T0 ws ks 0 []) (cs:=[iv 2,iv 0,.sl true [],.sl true [],iv 0,.sl true [],.sl true [],.osl [4] v' 4 0 ws.length,.osl [6] v2 12 0 ks.length,iv 0,.sl true []]) (by simp[Aa]) (fun H1 h1=>⟨Ab rfl,Ab rfl,Ad,Ad,Ab rfl,Ad,Ad,Ed (f:=wA) (l:=ws) (by rw[h1 4 [] (by simp)];simp[Aa,y4]) rfl (fun x=>by simp),Ed (f:=kA) (l:=ks) (by rw[h1 6 [] (by simp)];simp[Aa,y6]) rfl (fun x=>by simp),Ab rfl,Ad,trivial⟩) (fun p=>by simp)
abbrev dW (x:OP):List A:=iv x.kind::iv x.n::Eg x.l::eL x.e
theorem fj (x:OP):Gb (fun _=>oX x):=Jl (cs:=dW x) rfl fun y hy=>by simp at hy;rcases hy with rfl | rfl | rfl | rfl | rfl | rfl | rfl | rfl | rfl | rfl | rfl | rfl | rfl | rfl<;>rfl
theorem P8 {n:Nat} {φ:Prop} {w0:World} {I0:Nat→Prop} {M0:Nm→Nat→Prop} {m0:Mu} {H:Hp} {u k':Nat} {s:List UInt8} {cs:List A} {x:OP} (h1:H [1]=⟨u,.cells cs⟩) (hf:∀ H1:Hp,Gv H1 cs (dW x)) (hH:∀ p,H (0::p)=(CW s k').F 0 p) :
  KN (PN NT φ Tryz.prog w0 I0 M0 n m0) [.cell 6 53] 1 (oX x) (ov 0 ((CW s k').F 0) (Dl [])) .ret ⟨lk [(6,.pob [1] u 0)],H⟩:=by
 obtain⟨H2,g1,g2⟩:=Mg (c:=PN NT φ Tryz.prog w0 I0 M0 n m0) (s:=lk [(6,.pob [1] u 0)]) (H:=H) (fun _=>False) (fun _ _ _ h=>h.elim) (r0:=1) (p0:=[]) (fun h=>h.elim) h1 (cs':=dW x) (by simp[A.ones]) (fun H1 _=>hf H1);refine Ia g1 (Bh (r0:=oX x) (by simp[J9,AR]) rfl fun p=>?_);exact(AM (f:=H2) (d:=[1]) (o:=0::p) (x:=(⟨u,.cells (dW x)⟩:VOb)) (by simp)).trans ((g2 0 p (fun h=>h.elim)).trans (hH p))
theorem ot {s:List UInt8} {k:Nat} (hk:k≤s.length) (h:Ey (s.drop k) ≠ 0):k<s.length:=by
 rcases Nat.lt_or_ge k s.length with h1 | h1
 ·exact h1
 ·have:k=s.length:=by omega
  subst this;rw[M5] at h;exact(h rfl).elim
theorem aK {c:UInt8} (h1:c ≠ 107) (h2:c ≠ 45) (h3:c ≠ 43) (h4:c ≠ 42):GO [107,45,43,42] c = -1:=by
 simp[GO,Ne.symm h1,Ne.symm h2,Ne.symm h3,Ne.symm h4]
set_option maxHeartbeats 4000000 in
theorem Zj {s:List UInt8} (hs:s.length≤1000000000) {d:Nat} (hd:d≤1000) (hT:kR d s) (l:Int) (k:Nat) (hk:k≤s.length):Ow NT Tryz.prog 85 (fun r=>[pp r,iv l,iv (d+1:Nat)]) (CW s k) (LF oX s k (CZ (Be d) l (s.drop k))):=by
 refine I8 Vj (by simp) (Ak A8 (Ak Bi (Ak Bi Ay))) (GI fj) fun w0 I0 M0 m0 hM=>?_;have hn:=Dz s k hk;have ed1:i64.wrap ((d:Int)+1-1)=(d:Int):=DU;simp only[Int.add_sub_cancel] at ed1;have e1:=A7 k;unfold PB;simp;refine Al 0 hn (fun p=>by simp[Aa]) (by simp) (by simp) ?_;obtain⟨c,hc⟩:∃ c,c=Ey (s.drop k):=⟨_,rfl⟩;have hi:=Kz [107,45,43,42] c;unfold CZ;rw[← hc];have hlt:c ≠ 0→k<s.length:=fun h=>ot hk (by rw[← hc];exact h);have hdd:(s.drop k).drop 1=s.drop (k+1):=by rw[List.drop_drop]
 rw[hdd];by_cases c1:c=107
 ·subst c1;have hlt:=hlt (by decide);rw[show GO [107,45,43,42] 107=0 by decide] at hi;simp;refine Af hi rfl ?_;simp;refine AA ?_;rw[FJ.eq_1];simp[e1];have t1:=KA hs (k+1) (by omega);cases e2:DN 1048576 (s.drop (k+1)) with
  |none=>
   rw[e2] at t1;refine AL (iv 0) 0 t1 ⟨rfl,by simp⟩ (fun p=>by by_cases hp:p=[]<;>simp[hp,Aa]) (by simp) (by simp) ?_;simp[Aa];exact Aw (AK 0 (by simp[A5]))
  |some q=>
   obtain⟨n,k1⟩:=q;rw[e2] at t1;refine Al 0 t1 (fun p=>by by_cases hp:p=[]<;>simp[hp,Aa]) (by simp) (by simp) ?_;simp[Aa,splice];refine AA ?_;simp[Aa,Ix];rw[show k+(1+k1)=k+1+k1 by omega];refine P8 (x:=.mk 0 n [] E0) (cs:=[iv 0,iv n,.sl true [],iv 0,iv 0,.sl true [],.sl true [],iv 0,.sl true [],.sl true [],.sl true [],.sl true [],iv 0,.sl true []]) (by simp) (fun H1=>⟨Ab rfl,Ab rfl,Ad,Ab rfl,Ab rfl,Ad,Ad,Ab rfl,Ad,Ad,Ad,Ad,Ab rfl,Ad,trivial⟩) (fun p=>by simp)
 ·rw[if_neg c1];by_cases c2:c=42
  ·subst c2;have hlt:=hlt (by decide);rw[show GO [107,45,43,42] 42=3 by decide] at hi;simp;refine Af hi rfl ?_;simp;refine AA ?_;rw[FJ.eq_1];simp[e1,ed1];have t1:=hT (k+1) (by omega);cases e2:Be d (s.drop (k+1)) with
   |none=>
    rw[e2] at t1;refine AL (eX E0) 0 t1 ⟨rfl,by simp⟩ (fun p=>by by_cases hp:p=[]<;>simp[hp,Aa]) (by simp) (by simp) ?_;simp[Aa];exact Aw (AK 0 (by simp[A5]))
   |some q=>
    obtain⟨e,k1⟩:=q;rw[e2] at t1;refine Al 0 t1 (fun p=>by by_cases hp:p=[]<;>simp[hp,Aa]) (by simp) (by simp) ?_;simp[Aa,splice];refine AA ?_;simp[Aa,Ix];rw[show k+(1+k1)=k+1+k1 by omega];refine P8 (x:=.mk 3 0 [] e) (cs:=[iv 3,iv 0,.sl true []]++eL e) (by simp) (fun H1=>⟨Ab rfl,Ab rfl,Ad,Ab rfl,Ab rfl,Ad,Ad,Ab rfl,Ad,Ad,Ad,Ad,Ab rfl,Ad,trivial⟩) (fun p=>by simp)
  ·rw[if_neg c2];have tree:∀ (kd:Int) (H:Hp),(∀ p,H (0::p)=(CW s (k+1)).F 0 p)→True:=fun _ _ _=>trivial;by_cases c3:c=45
   ·subst c3;have hlt:=hlt (by decide);rw[show GO [107,45,43,42] 45=1 by decide] at hi;simp;refine Af hi rfl ?_;simp;refine AA ?_;rw[FJ.eq_1];simp[e1];have t1:=JD hs (k+1) (by omega);cases e2:CE (s.drop (k+1)) with
    |none=>
     rw[e2] at t1;refine AL (tX T0) 0 t1 ⟨rfl,by simp⟩ (fun p=>by by_cases hp:p=[]<;>simp[hp,Aa]) (by simp) (by simp) ?_;simp[Aa];exact Aw (AK 0 (by simp[A5]))
    |some q=>
     obtain⟨t,k1⟩:=q;rw[e2] at t1;refine Al 0 t1 (fun p=>by by_cases hp:p=[]<;>simp[hp,Aa]) (by simp) (by simp) ?_;simp[Aa,splice];refine AA ?_;simp[Aa];by_cases hk:t.kind=l
     ·simp[hk];refine AA ?_;simp[Aa,splice];refine AA ?_;simp[Aa,Ix];rw[show k+(1+k1)=k+1+k1 by omega];refine P8 (x:=.mk 1 0 t.kids E0) (cs:=[iv 1,iv 0,Eg t.kids,iv 0,iv 0,.sl true [],.sl true [],iv 0,.sl true [],.sl true [],.sl true [],.sl true [],iv 0,.sl true []]) (by simp) (fun H1=>⟨Ab rfl,Ab rfl,Ad,Ab rfl,Ab rfl,Ad,Ad,Ab rfl,Ad,Ad,Ad,Ad,Ab rfl,Ad,trivial⟩) (fun p=>by simp)
     ·simp[hk];refine AL (.tup []) 0 (C6 (CW s (k+1+k1))) ⟨rfl,by simp⟩ (fun p=>by by_cases hp:p=[]<;>simp[hp,Aa]) (by simp) (by simp) ?_;simp[Aa];exact Aw (AK 0 (by simp[A5]))
   ·by_cases c4:c=43
    ·subst c4;have hlt:=hlt (by decide);rw[show GO [107,45,43,42] 43=2 by decide] at hi;simp;refine Af hi rfl ?_;simp;refine AA ?_;rw[FJ.eq_1];simp[e1];have t1:=JD hs (k+1) (by omega);cases e2:CE (s.drop (k+1)) with
     |none=>
      rw[e2] at t1;refine AL (tX T0) 0 t1 ⟨rfl,by simp⟩ (fun p=>by by_cases hp:p=[]<;>simp[hp,Aa]) (by simp) (by simp) ?_;simp[Aa];exact Aw (AK 0 (by simp[A5]))
     |some q=>
      obtain⟨t,k1⟩:=q;rw[e2] at t1;refine Al 0 t1 (fun p=>by by_cases hp:p=[]<;>simp[hp,Aa]) (by simp) (by simp) ?_;simp[Aa,splice];refine AA ?_;simp[Aa];by_cases hk:t.kind=l
      ·simp[hk];refine AA ?_;simp[Aa,splice];refine AA ?_;simp[Aa,Ix];rw[show k+(1+k1)=k+1+k1 by omega];refine P8 (x:=.mk 2 0 t.kids E0) (cs:=[iv 2,iv 0,Eg t.kids,iv 0,iv 0,.sl true [],.sl true [],iv 0,.sl true [],.sl true [],.sl true [],.sl true [],iv 0,.sl true []]) (by simp) (fun H1=>⟨Ab rfl,Ab rfl,Ad,Ab rfl,Ab rfl,Ad,Ad,Ab rfl,Ad,Ad,Ad,Ad,Ab rfl,Ad,trivial⟩) (fun p=>by simp)
      ·simp[hk];refine AL (.tup []) 0 (C6 (CW s (k+1+k1))) ⟨rfl,by simp⟩ (fun p=>by by_cases hp:p=[]<;>simp[hp,Aa]) (by simp) (by simp) ?_;simp[Aa];exact Aw (AK 0 (by simp[A5]))
    ·have hx:=aK c1 c3 c4 c2;rw[hx] at hi;rw[if_neg (by simp[c3,c4])];generalize Ey (s.drop k)=y at *;subst hc;simp;refine Af hi rfl ?_;simp;refine AL (.tup []) 0 (C6 (CW s k)) ⟨rfl,by simp⟩ (fun p=>by by_cases hp:p=[]<;>simp[hp,Aa]) (by simp) (by simp) ?_;simp[Aa];exact Aw (AK 0 (by simp[A5]))
theorem K9 (ed:List UInt8→Option (E × Nat)) (l:Int) (s:List UInt8) (f n k:Nat):BT ed l (f+1) n (s.drop k)=if Ey (s.drop k)=93 then some ([],0) else match Cg n (s.drop k) with
  |none=>none
  |some k0=>match CZ ed l (s.drop (k+k0)) with
   |none=>none
   |some (w,k1)=>match BT ed l f (n+1) (s.drop (k+k0+k1)) with
    |none=>none
    |some (ws,k2)=>some (w::ws,k0+k1+k2):=by
 rw[BT];simp only[List.drop_drop,Nat.add_assoc];rfl
def lE (l:Int) (O:A):List A:=[iv 3,iv 0,.sl true [],.sl true [],iv 0,.sl true [],.sl true [],.sl true [],.sl true [],iv l,O]
variable {φ:Prop} {n0:Nat} {w0:World} {I0:Nat→Prop} {M0:Nm→Nat→Prop} {m0:Mu} {Q:Exit→Sta→Prop}
set_option maxHeartbeats 8000000 in
theorem jv {s:List UInt8} (hs:s.length≤1000000000) {d:Nat} (hd:d≤1000) (hT:kR d s) (l:Int) {u7:Nat} {O1:VOb}:∀ (f k v:Nat) (acc:List OP) (H:Hp),k≤s.length→s.length-k<f→acc.length≤k→(∀ p,H (0::p)=(CW s k).F 0 p)→H [1]=O1→H [3]=⟨u7,.cells (lE l (.osl [4] v 14 0 acc.length))⟩→H [4]=⟨v,.arr 14 (acc.map oX)⟩ →
  (BT (Be d) l f acc.length (s.drop k)=none→φ) →
  (∀ (ws:List OP) (n:Nat),BT (Be d) l f acc.length (s.drop k)=some (ws,n)→∀ (H':Hp) (v':Nat),(∀ p,H' (0::p)=(CW s (k+n)).F 0 p)→H' [1]=O1→H' [3]=⟨u7,.cells (lE l (.osl [4] v' 14 0 (acc++ws).length))⟩→H' [4]=⟨v',.arr 14 ((acc++ws).map oX)⟩ →
   Q (.exit 0) ⟨lk [(0,pp 0),(1,iv (d+1:Nat)),(4,.pob [1] 1 0),(7,.pob [3] u7 0),(54,bv false)],H'⟩) →
  LoopC (PN NT φ Tryz.prog w0 I0 M0 n0 m0) IC Q ⟨lk [(0,pp 0),(1,iv (d+1:Nat)),(4,.pob [1] 1 0),(7,.pob [3] u7 0)],H⟩:=by
 intro f;induction f with
 |zero=>intro k v acc H hk hf;omega
 |succ f ih=>
  intro k v acc H hk hf hac hH h1 h3 h4 hφ hq;have hn:=Dz s k hk;refine Ae mixed IC.eq_1 ?_;simp;refine Al 0 hn hH (by simp) (by simp) ?_;by_cases hx:Ey (s.drop k)=93
  ·rw[hx];simp;exact hq [] 0 (by unfold BT;rw[if_pos hx]) _ v (fun p=>by simp) (by simp[h1]) (by simp[h3]) (by simp[h4])
  ·have hx1:¬ ((Ey (s.drop k)).toNat:Int)=93:=fun e=>hx ((u8_inj (b:=93)).1 e);have hx2:¬ (Ey (s.drop k)).toNat=93:=fun e=>hx1 (by omega);simp[hx1,hx2,hx];have t0:=Ru (n:=acc.length) hk hs;have hdl:(s.drop k).length=s.length-k:=by simp
   simp[h3,lE];cases e0:Cg acc.length (s.drop k) with
   |none=>
    rw[e0] at t0;refine AL (.tup []) 0 t0 ⟨rfl,hφ (by rw[K9,if_neg hx,e0])⟩ (fun p=>by simp) (by simp) (by simp) ?_;simp;exact Aw (AK 0 (by simp[A5]))
   |some k0=>
    rw[e0] at t0;have b0:=Hl e0;rw[hdl] at b0;refine Al 0 t0 (fun p=>by simp) (by simp) (by simp) ?_;simp;refine AA ?_;simp[h3,lE];have t1:=Zj hs hd hT l (k+k0) (by omega);cases e1:CZ (Be d) l (s.drop (k+k0)) with
    |none=>
     rw[e1] at t1;refine AL (oX (.mk 0 0 [] E0)) 0 t1 ⟨rfl,hφ (by rw[K9,if_neg hx,e0];simp only;rw[e1])⟩ (fun p=>by simp) (by simp) (by simp[List.isPrefixOf]) ?_;simp[h3,h4,lE,Aa,splice];exact⟨by omega,LoopC.dead (AK 0 (by simp[A5]))⟩
    |some q1=>
     obtain⟨a,k1⟩:=q1;rw[e1] at t1;have b1:=U9 (KZ d) e1;simp only[List.length_drop] at b1;refine Al 0 t1 (fun p=>by simp) (by simp) (by simp[List.isPrefixOf]) ?_;simp[h3,h4,lE,Aa,splice];refine⟨by omega,?_⟩;have ew:∀ ws n,BT (Be d) l f (acc++[a]).length (s.drop (k+k0+k1))=some (ws,n)→BT (Be d) l (f+1) acc.length (s.drop k)=some (a::ws,k0+k1+n):=fun ws n h=>by
      rw[K9,if_neg hx,e0];simp only;rw[e1];simp only;rw[List.length_append,List.length_singleton] at h;rw[h]
     have ew2:BT (Be d) l f (acc++[a]).length (s.drop (k+k0+k1))=none→BT (Be d) l (f+1) acc.length (s.drop k)=none:=fun h=>by
      rw[K9,if_neg hx,e0];simp only;rw[e1];simp only;rw[List.length_append,List.length_singleton] at h;rw[h]
     refine ih (k+k0+k1) (v+1) (acc++[a]) _ (by omega) (by omega) (by simp;omega) (fun p=>by simp) (by simp[Aa,h1]) (by simp[Aa,lE]) (by simp[Aa,Fv]) (fun hN=>hφ (ew2 hN)) (fun ws n h H' v' g0 g1 g3 g4=>?_);refine hq (a::ws) _ (ew ws n h) H' v' (fun p=>?_) g1 ?_ ?_
     ·rw[g0];congr 2;omega
     ·rw[g3];simp
     ·rw[g4];simp
theorem Rr (ed:List UInt8→Option (E × Nat)) (s:List UInt8) (p:Nat):EP ed (s.drop p)=if 2≤(s.drop p).length∧Kb AG ((s.drop p).take 2++[93])=true then
  match BT ed (A0 AG ((s.drop p).take 2++[93])).kind ((s.drop p).length+1) 0 (s.drop (p+2)) with
  |none=>none
  |some (os,k1)=>match AY 93 (s.drop (p+2+k1)) with
   |none=>none
   |some _=>some (.mk 3 T0 T0 [] [] (A0 AG ((s.drop p).take 2++[93])).kind os,2+k1+1)
 else none:=by
 unfold EP;simp only[List.drop_drop,Nat.add_assoc];rfl
set_option maxHeartbeats 4000000 in
theorem WM {s:List UInt8} (hs:s.length≤1000000000) {d:Nat} (hd:d≤1000) (hT:kR d s) (k:Nat) (hk:k≤s.length):Ow NT Tryz.prog 65 (fun r=>[pp r,iv (d+1:Nat)]) (CW s k) (LF eX s k (EP (Be d) (s.drop k))):=by
 refine I8 Ue (by simp) (Ak A8 (Ak Bi Ay)) (GI P7) fun w0 I0 M0 m0 hM=>?_;have hdl:(s.drop k).length=s.length-k:=by simp
 have e2:i64.wrap ((k:Int)+2)=((k+2:Nat):Int):=DU;unfold NH;by_cases h2:2≤(s.drop k).length
 ·have hle:k+2≤s.length:=by omega
  simp[e2,show ¬ ((s.length:Int)<(k:Int)+2) by omega];refine AA ?_;rw[LW.eq_1];have hp:=Qb (s:=(s.drop k).take 2++[93]) (by simp;omega);have c1:(0≤(k:Int)+2∧(k:Int)+2≤s.length)=True:=eq_true (by omega);have c2:((k:Int)+2).toNat=k+2:=by omega
  have hadd:=Ar (l:=(s.drop k).take 2) (m:=[93]) (by simp;omega);simp[e2,c1,c2,show(k:Int)≤(k:Int)+2 by omega,hadd];refine Af hp rfl ?_;have hN:Kb AG ((s.drop k).take 2++[93])=false→EP (Be d) (s.drop k)=none:=fun h=>by rw[Rr,if_neg (fun h2=>by rw[h] at h2;cases h2.2)]
  have hY:Kb AG ((s.drop k).take 2++[93])=true→EP (Be d) (s.drop k)=(match BT (Be d) (A0 AG ((s.drop k).take 2++[93])).kind ((s.drop k).length+1) 0 (s.drop (k+2)) with
   |none=>none
   |some (os,k1)=>match AY 93 (s.drop (k+2+k1)) with
    |none=>none
    |some _=>some (.mk 3 T0 T0 [] [] (A0 AG ((s.drop k).take 2++[93])).kind os,2+k1+1)):=fun h=>by rw[Rr,if_pos ⟨h2,h⟩]
  generalize A0 AG ((s.drop k).take 2++[93])=T at *;cases hok:Kb AG ((s.drop k).take 2++[93]) with
  |false=>
   rw[hN hok];simp;refine AL (.tup []) 0 (C6 (CW s k)) ⟨rfl,by simp⟩ (fun p=>by by_cases hp:p=[]<;>simp[hp,Aa]) (by simp) (by simp) ?_;simp;exact Aw (AK 0 (by simp[A5]))
  |true=>
   have hY:=hY hok;simp;refine AA ?_;rw[LR.eq_1];simp[e2,Aa];refine LoopC.le (Dg (d:=[3]) (u:=1) (cs:=lE T.kind (.sl true [])) 10 [4] 14 (by simp[Aa,lE]) rfl (by simp)) ?_;refine LoopC.le (A4 [(0,pp 0),(1,iv (d+1:Nat)),(4,.pob [1] 1 0),(7,.pob [3] 1 0)] (by simp)) ?_;refine jv (O1:=⟨1,.cells (jh)⟩) hs hd hT T.kind ((s.drop k).length+1) (k+2) 1 [] _ (by omega) (by omega) (by simp) (fun p=>by by_cases hp:p=[]<;>simp[hp,Aa]) (by simp[Aa,jh]) (by simp[Aa,lE]) (by simp[Aa]) (fun hN2=>?_) (fun os k1 hW H' v' g0 g1 g3 g4=>?_)
   ·rw[hY,show BT (Be d) T.kind ((s.drop k).length+1) 0 (s.drop (k+2))=none from hN2];rfl
   ·have hW':BT (Be d) T.kind ((s.drop k).length+1) 0 (s.drop (k+2))=some (os,k1):=hW;have b1:=OG (KZ d) _ _ _ _ _ hW';simp only[List.length_drop] at b1;have t2:=F3 (s:=s) (k:=k+2+k1) (c:=93) (by omega) hs (by decide);simp;cases e3:AY 93 (s.drop (k+2+k1)) with
    |none=>
     rw[e3] at t2;refine AL (.tup []) 0 t2 ⟨rfl,by rw[hY,hW'];simp only;rw[e3];rfl⟩ (fun p=>by simp[g0]) (by simp) (by simp) ?_;simp;exact Aw (AK 0 (by simp[A5]))
    |some n2=>
     rw[e3] at t2;obtain⟨rfl,b2⟩:=BC e3;rw[hW'] at hY;simp only at hY;rw[e3] at hY;rw[hY];refine Al 0 t2 (fun p=>by simp[g0]) (by simp) (by simp) ?_;simp;refine AA ?_;simp[g1,g3,lE,jh,splice,Ix];rw[show k+(2+k1+1)=k+2+k1+1 by omega];refine Hk hM (fun r=>r=4) (fun r h=>by omega) (e:=.mk 3 T0 T0 [] [] T.kind os) (cs:=[iv 3,iv 0,.sl true [],.sl true [],iv 0,.sl true [],.sl true [],.sl true [],.sl true [],iv T.kind,.osl [4] v' 14 0 os.length]) (by simp[Aa]) (fun H1 h1=>⟨Ab rfl,Ab rfl,Ad,Ad,Ab rfl,Ad,Ad,Ad,Ad,Ab rfl,Ed (f:=oA) (l:=os) (by rw[h1 4 [] (by simp)];simp[Aa,g4]) rfl (fun x=>by simp),trivial⟩) (fun p=>by simp)
 ·have hN:EP (Be d) (s.drop k)=none:=by rw[Rr,if_neg (fun h=>h2 h.1)]
  rw[hN];simp[e2,show((s.length:Int)<(k:Int)+2) by omega];refine AL (.tup []) 0 (C6 (CW s k)) ⟨rfl,by simp⟩ (fun p=>by by_cases hp:p=[]<;>simp[hp,Aa]) (by simp) (by simp) ?_;simp;exact Aw (AK 0 (by simp[A5]))
theorem K2 (s:List UInt8) (p:Nat):NK (s.drop p)=match CE (s.drop p) with
 |none=>none
 |some (o,k1)=>match AY 62 (s.drop (p+k1)) with
  |none=>none
  |some _=>match CE (s.drop (p+k1+1)) with
   |none=>none
   |some (n,k2)=>match AY 41 (s.drop (p+k1+1+k2)) with
    |none=>none
    |some _=>some (.mk 1 o n [] [] 0 [],k1+1+k2+1):=by
 unfold NK;simp only[List.drop_drop,Nat.add_assoc];rfl
theorem T3 {s:List UInt8} {k:Nat} {c:UInt8} (h:A1 (s.drop k) c=true):k<s.length:=by
 rcases Nat.lt_or_ge k s.length with h1 | h1
 ·exact h1
 ·rw[List.drop_eq_nil_of_le h1] at h;simp[A1] at h
theorem Om {α:Type} {f:α→A} {s:List UInt8} {k:Nat} {o:Option (α × Nat)}:LF f s k (KX 1 o)=LF f s (k+1) o:=by
 rcases o with _ | ⟨x,n⟩
 ·rfl
 ·simp[KX,LF,Nat.add_assoc]
def zE:List A:=[iv 0,iv 0,.sl true [],.sl true [],iv 0,.sl true [],.sl true [],.sl true [],.sl true [],iv 0,.sl true []]
set_option maxHeartbeats 8000000 in
theorem QG {s:List UInt8} (hs:s.length≤1000000000):∀ d,d≤1000→kR d s:=by
 intro d;induction d with
 |zero=>
  intro _ k hk;refine I8 M8 (by simp) (Ak A8 (Ak Bi Ay)) (GI P7) fun w0 I0 M0 m0 hM=>?_;unfold J0;simp;refine AL (.tup []) 0 (C6 (CW s k)) ⟨rfl,by simp[Be]⟩ (fun p=>by simp[Aa]) (by simp) (by simp) ?_;simp;exact Aw (AK 0 (by simp[A5]))
 |succ d ih=>
  intro hd k hk;have hT:=ih (by omega);refine I8 M8 (by simp) (Ak A8 (Ak Bi Ay)) (GI P7) fun w0 I0 M0 m0 hM=>?_;unfold J0;simp[show ¬ ((d:Int)+1=0) by omega];have t0:=Lq s k 61 hk hs (by decide);rw[Be];cases e0:A1 (s.drop k) 61 with
  |true=>
   rw[e0] at t0;refine Al 0 t0 (fun p=>by simp[Aa]) (by simp) (by simp[List.isPrefixOf]) ?_;simp;refine AA ?_;simp[Aa,Ix];refine Hk hM (fun _=>False) (fun r h=>h.elim) (e:=E0) (cs:=zE) (by simp[Aa,zE]) (fun H1 h1=>⟨Ab rfl,Ab rfl,Ad,Ad,Ab rfl,Ad,Ad,Ad,Ad,Ab rfl,Ad,trivial⟩) (fun p=>by simp)
  |false=>
   rw[e0] at t0;refine Al 0 t0 (fun p=>by simp[Aa]) (by simp) (by simp[List.isPrefixOf]) ?_;simp;have t1:=Lq s k 40 hk hs (by decide);cases e1:A1 (s.drop k) 40 with
   |true=>
    have hlt:=T3 e1;rw[e1] at t1;refine Al 0 t1 (fun p=>by simp) (by simp) (by simp[List.isPrefixOf]) ?_;simp[Om,List.drop_drop];have t2:=JD hs (k+1) (by omega);cases e2:CE (s.drop (k+1)) with
    |none=>
     rw[e2] at t2;refine AL (tX T0) 0 t2 ⟨rfl,by rw[K2,e2];rfl⟩ (fun p=>by simp) (by simp) (by simp[List.isPrefixOf]) ?_;simp[Aa];exact Aw (AK 0 (by simp[A5]))
    |some q2=>
     obtain⟨o,k1⟩:=q2;rw[e2] at t2;have b2:=Kq e2;simp only[List.length_drop] at b2;refine Al 0 t2 (fun p=>by simp) (by simp) (by simp[List.isPrefixOf]) ?_;simp[Aa,splice];refine AA ?_;have t3:=F3 (s:=s) (k:=k+1+k1) (c:=62) (by omega) hs (by decide);simp;cases e3:AY 62 (s.drop (k+1+k1)) with
     |none=>
      rw[e3] at t3;refine AL (.tup []) 0 t3 ⟨rfl,by rw[K2,e2];simp only;rw[e3];rfl⟩ (fun p=>by simp) (by simp) (by simp[List.isPrefixOf]) ?_;simp;exact Aw (AK 0 (by simp[A5]))
     |some n3=>
      rw[e3] at t3;obtain⟨rfl,b3⟩:=BC e3;simp only[List.length_drop] at b3;refine Al 0 t3 (fun p=>by simp) (by simp) (by simp[List.isPrefixOf]) ?_;simp;refine AA ?_;have t4:=JD hs (k+1+k1+1) (by omega);simp;cases e4:CE (s.drop (k+1+k1+1)) with
      |none=>
       rw[e4] at t4;refine AL (tX T0) 0 t4 ⟨rfl,by rw[K2,e2];simp only;rw[e3];simp only;rw[e4];rfl⟩ (fun p=>by simp) (by simp) (by simp[List.isPrefixOf]) ?_;simp[Aa,splice];exact Aw (AK 0 (by simp[A5]))
      |some q4=>
       obtain⟨n,k2⟩:=q4;rw[e4] at t4;have b4:=Kq e4;simp only[List.length_drop] at b4;refine Al 0 t4 (fun p=>by simp) (by simp) (by simp[List.isPrefixOf]) ?_;simp[Aa,splice];refine AA ?_;have t5:=F3 (s:=s) (k:=k+1+k1+1+k2) (c:=41) (by omega) hs (by decide);simp;cases e5:AY 41 (s.drop (k+1+k1+1+k2)) with
       |none=>
        rw[e5] at t5;refine AL (.tup []) 0 t5 ⟨rfl,by rw[K2,e2];simp only;rw[e3];simp only;rw[e4];simp only;rw[e5];rfl⟩ (fun p=>by simp) (by simp) (by simp[List.isPrefixOf]) ?_;simp;exact Aw (AK 0 (by simp[A5]))
       |some n5=>
        rw[e5] at t5;obtain⟨rfl,b5⟩:=BC e5;have hE:NK (s.drop (k+1))=some (.mk 1 o n [] [] 0 [],k1+1+k2+1):=by rw[K2,e2];simp only;rw[e3];simp only;rw[e4];simp only;rw[e5]
        rw[hE];refine Al 0 t5 (fun p=>by simp) (by simp) (by simp[List.isPrefixOf]) ?_;simp;refine AA ?_;simp[Aa,Ix];rw[show k+1+(k1+1+k2+1)=k+1+k1+1+k2+1 by omega];refine Hk hM (fun _=>False) (fun r h=>h.elim) (e:=.mk 1 o n [] [] 0 []) (cs:=[iv 1,iv o.kind,IT o.words,Eg o.kids,iv n.kind,IT n.words,Eg n.kids,.sl true [],.sl true [],iv 0,.sl true []]) (by simp[Aa]) (fun H1 h1=>⟨Ab rfl,Ab rfl,Ad,Ad,Ab rfl,Ad,Ad,Ad,Ad,Ab rfl,Ad,trivial⟩) (fun p=>by simp)
   |false=>
    rw[e1] at t1;refine Al 0 t1 (fun p=>by simp) (by simp) (by simp[List.isPrefixOf]) ?_;simp;have t2:=Lq s k 115 hk hs (by decide);cases e2:A1 (s.drop k) 115 with
    |true=>
     have hlt:=T3 e2;rw[e2] at t2;refine Al 0 t2 (fun p=>by simp) (by simp) (by simp[List.isPrefixOf]) ?_;simp[Om,List.drop_drop];have t3:=Ty hs (by omega) hT (k+1) (by omega);cases e3:EM (Be d) (s.drop (k+1)) with
     |none=>
      rw[e3] at t3;refine AL (eX E0) 0 t3 ⟨rfl,rfl⟩ (fun p=>by simp) (by simp) (by simp[List.isPrefixOf]) ?_;simp[Aa];exact Aw (AK 0 (by simp[A5]))
     |some q3=>
      obtain⟨e,k1⟩:=q3;rw[e3] at t3;refine Al 0 t3 (fun p=>by simp) (by simp) (by simp[List.isPrefixOf]) ?_;simp[Aa,splice];refine AA ?_;simp[Aa,Ix];refine Hk hM (fun _=>False) (fun r h=>h.elim) (e:=e) (cs:=eL e) (by simp[Aa]) (fun H1 h1=>⟨Ab rfl,Ab rfl,Ad,Ad,Ab rfl,Ad,Ad,Ad,Ad,Ab rfl,Ad,trivial⟩) (fun p=>by simp)
    |false=>
     rw[e2] at t2;refine Al 0 t2 (fun p=>by simp) (by simp) (by simp[List.isPrefixOf]) ?_;simp;have t3:=F3 (s:=s) (k:=k) (c:=108) hk hs (by decide);cases e3:A1 (s.drop k) 108 with
     |false=>
      rw[show AY 108 (s.drop k)=none by unfold AY;rw[e3];rfl] at t3;refine AL (.tup []) 0 t3 ⟨rfl,rfl⟩ (fun p=>by simp) (by simp) (by simp[List.isPrefixOf]) ?_;simp;exact Aw (AK 0 (by simp[A5]))
     |true=>
      have hlt:=T3 e3;rw[show AY 108 (s.drop k)=some 1 by unfold AY;rw[e3];rfl] at t3;refine Al 0 t3 (fun p=>by simp) (by simp) (by simp[List.isPrefixOf]) ?_;simp[Om,List.drop_drop];refine AA ?_;have t4:=WM hs (by omega) hT (k+1) (by omega);simp;cases e4:EP (Be d) (s.drop (k+1)) with
      |none=>
       rw[e4] at t4;refine AL (eX E0) 0 t4 ⟨rfl,rfl⟩ (fun p=>by simp) (by simp) (by simp[List.isPrefixOf]) ?_;simp[Aa];exact Aw (AK 0 (by simp[A5]))
      |some q4=>
       obtain⟨e,k1⟩:=q4;rw[e4] at t4;refine Al 0 t4 (fun p=>by simp) (by simp) (by simp[List.isPrefixOf]) ?_;simp[Aa,splice];refine AA ?_;simp[Aa,Ix];refine Hk hM (fun _=>False) (fun r h=>h.elim) (e:=e) (cs:=eL e) (by simp[Aa]) (fun H1 h1=>⟨Ab rfl,Ab rfl,Ad,Ad,Ab rfl,Ad,Ad,Ad,Ad,Ab rfl,Ad,trivial⟩) (fun p=>by simp)
end Go.Proofs.YtebihdhapepejaaGreatDoor
namespace Go.Proofs.YtebihdhapepejaaGreatDoor
set_option maxRecDepth 20000
open Go Go.G Go.Proofs Go.PL Go.RowKit
theorem Rh {c:Cx} {nms:Nat→Nm} {need:Nat→Nat→Bool} {ops:Array Oper} {K:Sta→Prop} {Q:Exit→Act→List Frame→World→Prop} {cs:List Frame} (hd:KU c.n ops=true) (hdie:∀ t,¬ c.die t) (hQ:∀ st a w I μ,SR c st a w I μ→K st→Q .normal a cs w) :
  ∀ (l:List Oper) (k:Nat) (lg:Lg) (st:Sta) (a:Act) (w:World) (I:Nat→Prop) (μ:Mu),(∀ j,l[j]? = ops[k+j]?)→SR c st a w I μ→Zu c.P c.die nms need ops K l k lg st→wpOpsS c.P ops Q (List.range' k l.length) a cs w
 |[],k,lg,st,a,w,I,μ,_,h,hs=>hQ st a w I μ h hs
 |o::l,k,lg,st,a,w,I,μ,hl,h,hs=>by
  obtain⟨x,E,f,⟨q,x0,hg,h1,rfl,h2⟩,_,hs⟩:=hs;have h0:ops[k]? = some o:=by simpa using (hl 0).symm
  have hw:=JE h hd hg;have hdst:=JP hd h0;have next:∀ a' w' I' μ',SR c (st.put o.dst (gd q x0) (E.app st.H)) a' w' I' μ'→wpOpsS c.P ops Q (List.range' (k+1) l.length) a' cs w':=fun a' w' I' μ' h'=>
   Rh hd hdie hQ l (k+1) _ _ a' w' I' μ' (fun j=>by have:=hl (j+1);simpa[Nat.add_assoc,Nat.add_comm 1 j] using this) h' hs
  simp only[List.length_cons,List.range'_succ,wpOpsS,h0,hw];cases q with
  |true=>
   rw[if_pos rfl];have:=Mz (Q:=fun e a' w'=>Q e a' cs w') h hdst (h1 rfl) (fun t w' e k'=>(hdie t e).elim) next
   unfold Oper.wp at this;split
   ·rename_i w' hr;rw[hr] at this;exact this.elim
   ·exact this
  |false=>
   rw[if_neg (by simp)];obtain⟨rfl,_,_⟩:=h2 rfl;exact next _ _ I μ (Mv h hdst)
noncomputable def wR:Code:=Tryz.f39.body.getD .ret
def Ek:Code→Array Oper
 |.seq (.region _ ops _) _=>ops
 |_=>#[]
def Et:Code→Code
 |.seq _ y=>y
 |_=>.ret
def aW:List CO:=[
 co (some 4) (.move (.tmp 6)) none,
 co (some 7) (.extract (.tmp 4) 0) none,
 co (some 8) (.extract (.tmp 4) 1) none,
 cn (some 2) (.alloc 80) none [2],
 co none (.store 80 (.tmp 2) (.tmp 7)) none,
 co (some 3) (.assign (.tmp 8)) none]
def Tp:CC:=.seq (.reg [co (some 9) (.move (.tmp 3)) none] [0,1,9]) (.cond (.tmp 9)
 (.reg [co (some 10) (.build 30 #[]) none,co none (.store 30 (.tmp 0) (.tmp 10)) none,co none (.store 4 (.tmp 1) (.const (.bool false))) none] []) .skip)
theorem dR:Qz (Ek wR) false (Ub (Ek wR)) [(5,[2])] 2 ((Ek wR).toList.drop 2)=some aW:=by kernel_rfl
theorem au:GM 11 (Et wR) [([0,1,9],[]),([],[]),([],[])]=some (Tp,[]):=by kernel_rfl
theorem nq:wR = .seq (.region 0 (Ek wR) false) (Et wR):=by kernel_rfl
theorem Vx {P:Program} {ops:Array Oper} {Q:Exit→Act→List Frame→World→Prop} {i:Nat} {rest:List Nat} {a:Act} {cs cs':List Frame} {w:World} {o:Oper} {v:Value} (ho:ops[i]? = some o) (hw:Region.wanted o (yielded ops a.tmps)=true) (hr:(execOp a.eval o).run P w = .ok .recover w)
  (hv:recoverD cs=some (v,cs')∨(recoverD cs=none∧v = .nilIface∧cs'=cs)) (h:wpOpsS P ops Q rest (a.put o.dst v) cs' w):wpOpsS P ops Q (i::rest) a cs w:=by
 simp only[wpOpsS,ho,hw,if_true,hr];rcases hv with hv | ⟨hv,rfl,rfl⟩
 ·rw[hv];exact h
 ·rw[hv];exact h
theorem ZA {P:Program} {ops:Array Oper} {Q:Exit→Act→List Frame→World→Prop} {i:Nat} {rest:List Nat} {a:Act} {cs:List Frame} {w w':World} {o:Oper} {v:Value} (ho:ops[i]? = some o) (hw:Region.wanted o (yielded ops a.tmps)=true) (hr:(execOp a.eval o).run P w = .ok (.value v) w')
  (h:wpOpsS P ops Q rest (a.put o.dst v) cs w'):wpOpsS P ops Q (i::rest) a cs w:=by
 simp only[wpOpsS,ho,hw,if_true,hr];exact h
theorem Tc {w:World} {I:Nat→Prop} {μ:Mu} {H:Hp} {c:Cx} (hP:c.P=Tryz.prog) (hn:c.n=11) (hds:c.ds=[]) (hdie:∀ t,¬ c.die t) (hs:Sim c w I μ H) {p q:Value} {a0 a1 x6:A} (h0:Rel w I μ a0 p) (h1:Rel w I μ a1 q)
  {u u':FrameMode} {v5 v6:Value} (hrec:∀ (c₀:Frame) (cs:List Frame),c₀.mode=u→(recoverD (c₀::cs)=some (v5,{ c₀ with mode:=u' }::cs))∨(recoverD (c₀::cs)=none∧v5 = .nilIface∧u'=u))
  (h6:(Instr.typeAssert v5 20 80 true).run Tryz.prog w = .ok v6 w) (hr6:Rel w I μ x6 v6) {Q:Sta→Prop}
  (h:AD Tryz.prog ⟨c.die,fun st=>WPC c Tp (fun e st=>e = .normal∧Q st) (st.keep [0,1,3])⟩ aW [] ⟨lk [(0,a0),(1,a1),(6,x6)],H⟩) :
  CallsD Tryz.prog 39 #[p,q] u w fun e u2 w'=>e = .returned (.tuple #[])∧u2=u'∧∃ st' I' μ',Sim c w' I' μ' st'.H∧Q st':=by
 have hb:Tryz.f39.body=some wR:=by kernel_rfl
 refine callsD_of_wpS Tryz.func39 hb fun c₀ cs hu=>?_;rw[nq];apply wpS_seq;apply wpS_region;have hn2:Tryz.f39.ntmps=11:=by kernel_rfl
 have hsz:List.range (Ek wR).size=0::1::List.range' 2 ((Ek wR).toList.drop 2).length:=by kernel_rfl
 have ha:(⟨#[p,q]++Array.replicate (Tryz.f39.ntmps - #[p,q].size) undef,[]⟩:Act)=⟨#[p,q,undef,undef,undef,undef,undef,undef,undef,undef,undef],[]⟩:=by rw[hn2];rfl
 rw[hsz,ha];obtain⟨o0,q0⟩:∃ o,o=(Ek wR)[0]?.getD default:=⟨_,rfl⟩;have o00:(Ek wR)[0]? = some ⟨some 5,.call { callee:=.builtin .recover,args:=#[],argTypes:=#[] },20,"etext.go:233",#[],none⟩:=by kernel_rfl
 have o01:(Ek wR)[1]? = some ⟨some 6,.typeAssert (.tmp 5) 20 80 true,81,"etext.go:233",#[{ on:=0,ground:=.data }],none⟩:=by kernel_rfl
 refine Vx (v:=v5) (cs':={ c₀ with mode:=u' }::cs) o00 rfl rfl ((hrec c₀ cs hu).imp id fun ⟨k1,k2,k3⟩=>⟨k1,k2,by subst k3;subst hu;rfl⟩) ?_;refine ZA (v:=v6) (w':=w) o01 rfl ?_ ?_
 ·have e1:∀ ρ:Operand→Value,execOp ρ ⟨some 6,.typeAssert (.tmp 5) 20 80 true,81,"etext.go:233",#[{ on:=0,ground:=.data }],none⟩=(do pure (.value (← Instr.typeAssert (ρ (.tmp 5)) 20 80 true))):=fun _=>rfl;rw[e1];simp only[Sem.run_bind];rw[show ∀ a:Act,(a.put (some 5) v5).eval (.tmp 5)=(a.tmps.setIfInBounds 5 v5).getD 5 undef from fun _=>rfl];simp[h6]
 ·obtain⟨a2,ha2⟩:∃ a2,a2=((⟨#[p,q,undef,undef,undef,undef,undef,undef,undef,undef,undef],[]⟩:Act).put (some 5) v5).put (some 6) v6:=⟨_,rfl⟩;have ha3:a2=⟨#[p,q,undef,undef,undef,v5,v6,undef,undef,undef,undef],[]⟩:=by rw[ha2];rfl
  rw[← ha2];have sr:SR c ⟨lk [(0,a0),(1,a1),(6,x6)],H⟩ a2 w I μ:=by
   refine⟨hs,by rw[ha3,hn];rfl,by rw[ha3,hds],fun t=>?_⟩;rw[ha3];show Rel w I μ (lk [(0,a0),(1,a1),(6,x6)] t) _;simp only[Yu,cr];by_cases t0:0=t
   ·subst t0;exact h0
   by_cases t1:1=t
   ·subst t1;exact h1
   by_cases t6:6=t
   ·subst t6;exact hr6
   rw[if_neg t0,if_neg t1,if_neg t6];exact .any _ _
  have hd:KU 11 (Ek wR)=true:=by kernel_rfl
  have hl:=Q8 (P:=Tryz.prog) (ops:=Ek wR) (draw:=false) (K:=⟨c.die,fun st=>WPC c Tp (fun e st=>e = .normal∧Q st) (st.keep [0,1,3])⟩) ((Ek wR).toList.drop 2) 2 aW [] [] _ dR (by kernel_rfl) (fun p hp=>by simp at hp) h;have hh:=Rh (c:=c) (Q:=Exit.thenS ((Et wR).wpS Tryz.prog (bodyPostS Tryz.prog Tryz.f39 c₀ cs fun e u2 w'=>e = .returned (.tuple #[])∧u2=u'∧∃ st' I' μ',Sim c w' I' μ' st'.H∧Q st')) (bodyPostS Tryz.prog Tryz.f39 c₀ cs fun e u2 w'=>e = .returned (.tuple #[])∧u2=u'∧∃ st' I' μ',Sim c w' I' μ' st'.H∧Q st')) (cs:={ c₀ with mode:=u' }::cs) (ops:=Ek wR) (K:=fun st=>WPC c Tp (fun e st=>e = .normal∧Q st) (st.keep [0,1,3])) (by rw[hn];exact hd) hdie (fun st a w I μ hsr hK=>?_) ((Ek wR).toList.drop 2) 2 [] _ a2 w I μ (fun j=>by simp) sr (by rw[hP];exact hl)
  ·rw[hP] at hh;exact hh
  ·obtain⟨I2,μ2,h3⟩:=TQ [0,1,3] a w I μ hsr;have hw:=EH (c:=c) (by rw[hP];exact mixed) (by rw[hn];exact Ng au) hK a w I2 μ2 h3;rw[hP] at hw;refine wpS_of_wp (wp_mono hw fun e a' w' hu=>?_);rcases hu with ⟨st',I',μ',g1,rfl,g2⟩ | ⟨t,k,_⟩
   ·exact⟨g1.defers.trans hds,u',rfl,.tuple #[],by kernel_rfl,rfl,rfl,st',I',μ',g1.sim,g2⟩
   ·exact(hdie t k).elim
@[simp] theorem vJ:CL Tryz.prog 80=some (.agg #[]):=by kernel_rfl
@[simp] theorem xy:El Tryz.prog 80=some 0:=by kernel_rfl
@[simp] theorem xU:El Tryz.prog 4=some 1:=by kernel_rfl
@[simp] theorem wU:I9 Tryz.prog 4=some false:=by kernel_rfl
@[simp] theorem wh:CL Tryz.prog 4=some (.bool false):=by kernel_rfl
theorem Wk {w:World} {I:Nat→Prop} (hI:∀ b,I b→b<w.heap.size) (ht:Tabs Tryz.prog w I) (p q:Value):CallsD Tryz.prog 39 #[p,q] .returning w fun e u2 w'=>e = .returned (.tuple #[])∧u2 = .returning∧w.grownBy w' none:=by
 refine(Tc (c:=cx Tryz.prog w I 11) (w:=w) (I:=I) (μ:=Nf) (H:=H0) rfl rfl rfl (fun _ h=>h) (Ou hI ht) (a0:=.any) (a1:=.any) (x6:=.tup [.agg [],bv false]) (.any _ _) (.any _ _) (u':=.returning) (v5:=.nilIface) (v6:=.tuple #[.agg #[],.bool false]) (fun c₀ cs hu=>.inr ⟨by simp[recoverD,hu],rfl,rfl⟩) (by kernel_rfl) ?_ (Q:=fun _=>True) ?_).mono fun e u2 w' ⟨h1,h2,st',I',μ',h3,_⟩=>⟨h1,h2,?_⟩
 ·refine .tup _ _ _ rfl fun k y hk=>?_
  match k,hk with
  |0,hk=>simp at hk;subst hk;exact .agg _ _ _ rfl fun k y hk=>by simp at hk
  |1,hk=>simp at hk;subst hk;exact .v _ _
 ·unfold aW Tp;simp
 ·have k:=h3.kept;exact⟨k.os,k.tape,k.output,k.size,fun b hb _=>k.block b hb (fun ⟨_,h⟩=>h)⟩
theorem Vo {w:World} {I:Nat→Prop} {μ:Mu} {H:Hp} {c:Cx} (hP:c.P=Tryz.prog) (hn:c.n=11) (hds:c.ds=[]) (hdie:∀ t,¬ c.die t) (hs:Sim c w I μ H) {p q:Value} (h0:Rel w I μ (.pob [0] 1 0) p) (h1:Rel w I μ (.pob [1] 1 0) q) {x y:A} {cs:List A} (hc:cs.length=11) (g0:H [0]=⟨1,.cells cs⟩) (g1:H [1]=⟨1,.cells [y]⟩) :
  CallsD Tryz.prog 39 #[p,q] (.panicking [L1 NT]) w fun e u2 w'=>e = .returned (.tuple #[])∧u2 = .panicking [{ v:=.iface NT (.agg #[]),recovered:=true }]∧∃ H' I' μ',Sim c w' I' μ' H'∧H' [0]=⟨1,.cells zE⟩∧H' [1]=⟨1,.cells [bv false]⟩:=by
 refine(Tc (c:=c) (w:=w) (I:=I) (μ:=μ) (H:=H) hP hn hds hdie hs (a0:=.pob [0] 1 0) (a1:=.pob [1] 1 0) (x6:=.tup [.agg [],bv true]) h0 h1 (u':=.panicking [{ v:=.iface NT (.agg #[]),recovered:=true }]) (v5:=.iface NT (.agg #[])) (v6:=.tuple #[.agg #[],.bool true]) (fun c₀ cs hu=>.inl (by simp[recoverD,hu,L1])) (by kernel_rfl) ?_ (Q:=fun st=>st.H [0]=⟨1,.cells zE⟩∧st.H [1]=⟨1,.cells [bv false]⟩) ?_).mono fun e u2 w' ⟨h1,h2,st',I',μ',h3,h4⟩=>⟨h1,h2,st'.H,I',μ',h3,h4.1,h4.2⟩
 ·refine .tup _ _ _ rfl fun k y hk=>?_
  match k,hk with
  |0,hk=>simp at hk;subst hk;exact .agg _ _ _ rfl fun k y hk=>by simp at hk
  |1,hk=>simp at hk;subst hk;exact .v _ _
 ·unfold aW Tp;simp[hP,g0,g1,Aa,hc,zE]
noncomputable def wB:Code:=Tryz.f23.body.getD .ret
def X3:Code→Code
 |.seq x _=>x
 |_=>.ret
noncomputable def gQ:Code:=Et (Et (Et wB))
def ru:CC:=.reg [cn (some 2) (.alloc 30) none [0],cn (some 3) (.alloc 4) none [1]] [0,2,3]
def ra:CC:=.reg [co (some 6) (.move (.tmp 0)) none,co (some 7) (.build 84 #[(0,.tmp 6)]) none,cn (some 8) (.box 84 (.tmp 7)) none [2],co (some 4) (.assign (.tmp 8)) none] [0,2,3,4]
def q9:CC:=.seq (.reg [co (some 9) (.move (.tmp 4)) none,
  co (some 10) (.call { callee:=(.value (.func 40)),args:=#[(.tmp 9),(.const (.int .i64 64))],argTypes:=#[82,3] }) none,
  co none (.store 30 (.tmp 2) (.tmp 10)) none] [0,2,3,4])
 (.seq (.reg [co (some 11) (.load 30 (.tmp 2)) none,
  co (some 12) (.move (.tmp 4)) none,
  co (some 13) (.nilCheck (.tmp 12)) none,
  co (some 14) (.fieldAddr 84 (.tmp 13) 1) none,
  ⟨some 15,.load 3 (.tmp 14),none,[],4,[],true⟩,
  co (some 16) (.move (.tmp 0)) none,
  co (some 17) (.call { callee:=(.builtin .len),args:=#[(.tmp 16)],argTypes:=#[9] }) none,
  co (some 18) (.binOp .eql 3 (.tmp 15) (.tmp 17) 3) none,
  ⟨none,.store 30 (.tmp 2) (.tmp 11),none,[],8,[4],false⟩,
  co none (.store 4 (.tmp 3) (.tmp 18)) none] [2,3])
 .ret)
theorem jk:GM 19 (X3 wB) [([0,2,3],[(0,[0]),(1,[1])])]=some (ru,[]):=by kernel_rfl
theorem iG:GM 19 (X3 (Et (Et wB))) [([0,2,3,4],[(2,[2])])]=some (ra,[]):=by kernel_rfl
theorem ia:GM 19 gQ [([0,2,3,4],[]),([],[]),([2,3],[]),([],[])]=some (q9,[]):=by kernel_rfl
theorem nK:wB = .seq (X3 wB) (.seq (.region 1 (Ek (Et wB)) false) (.seq (X3 (Et (Et wB))) gQ)):=by kernel_rfl
def dz (p q:Value):Deferred:=⟨.fn (.func 39) #[p,q],#[]⟩
theorem mq {Q:Exit→Act→World→Prop} {a:Act} {w:World} (hs:a.tmps.size=19) (hd:a.defers=[]) (h:Q .normal ⟨a.tmps.setIfInBounds 5 (.func (.func 39) #[] #[a.eval (.tmp 2),a.eval (.tmp 3)]),[dz (a.eval (.tmp 2)) (a.eval (.tmp 3))]⟩ w):(Code.region 1 (Ek (Et wB)) false).wp Tryz.prog Q a w:=by
 apply wp_region;have o0:(Ek (Et wB))[0]? = some ⟨some 5,.makeFunc (.func 39) #[] #[.tmp 2,.tmp 3],1,"etext.go:232",#[],none⟩:=by kernel_rfl
 have o1:(Ek (Et wB))[1]? = some ⟨none,.defer { callee:=.value (.tmp 5),args:=#[],argTypes:=#[] },0,"etext.go:232",#[{ on:=0,ground:=.data }],none⟩:=by kernel_rfl
 have hsz:List.range (Ek (Et wB)).size=[0,1]:=by kernel_rfl
 rw[hsz];simp only[wpOps,o0,o1];rw[if_pos (by rfl)];refine .inl ?_;have e0:∀ ρ:Operand→Value,(execOp ρ ⟨some 5,.makeFunc (.func 39) #[] #[.tmp 2,.tmp 3],1,"etext.go:232",#[],none⟩).run Tryz.prog w = .ok (.value (.func (.func 39) #[] #[ρ (.tmp 2),ρ (.tmp 3)])) w:=fun ρ=>by
  have:execOp ρ ⟨some 5,.makeFunc (.func 39) #[] #[.tmp 2,.tmp 3],1,"etext.go:232",#[],none⟩=(do pure (.value (← Instr.makeFunc (.func 39) ((#[]:Array Operand).map ρ) (#[.tmp 2,.tmp 3].map ρ)))):=rfl;rw[this];simp only[List.map_toArray,List.map_cons,List.map_nil];rfl
 unfold Oper.wp;rw[e0,Oper.upon_value];rw[if_pos (by rfl)];refine .inl ?_;have e1:∀ (ρ:Operand→Value) (x y:Value),ρ (.tmp 5) = .func (.func 39) #[] #[x,y]→(execOp ρ ⟨none,.defer { callee:=.value (.tmp 5),args:=#[],argTypes:=#[] },0,"etext.go:232",#[{ on:=0,ground:=.data }],none⟩).run Tryz.prog w = .ok (.defer (dz x y)) w:=fun ρ x y hx=>by
  have:execOp ρ ⟨none,.defer { callee:=.value (.tmp 5),args:=#[],argTypes:=#[] },0,"etext.go:232",#[{ on:=0,ground:=.data }],none⟩=(do pure (.defer (← resolve ρ { callee:=.value (.tmp 5),args:=#[],argTypes:=#[] } 0))):=rfl;rw[this];simp only[resolve,hx,List.map_toArray,List.map_nil];rfl
 rw[e1 _ (a.eval (.tmp 2)) (a.eval (.tmp 3)) (by simp[Act.eval,Act.put,hs])];rw[Oper.upon_defer];simp only[Act.put,hd];exact h
theorem SW {w w5:World} {I I5:Nat→Prop} {μ5:Mu} {H5:Hp} {c:Cx} (hP:c.P=Tryz.prog) (hs:Sim c w5 I5 μ5 H5) (hN:∀ b,I5 b→I b∨(w.heap.size≤b∧b<w5.heap.size)) (hO:∀ o,BU (μ5 o) (H5 o).ob=true→w.heap.size≤(μ5 o).b) {tmps:Array Value} (hsz:tmps.size=19) (h2:Rel w5 I5 μ5 (.pob [0] 1 0) (tmps.getD 2 undef)) (h3:Rel w5 I5 μ5 (.pob [1] 1 0) (tmps.getD 3 undef)) {e:E} {b:Bool} {cs:List A}
  (g0:H5 [0]=⟨1,.cells cs⟩) (hcs:cs.length=11) (hcf:Gv H5 cs (eL e)) (g1:H5 [1]=⟨1,.cells [bv b]⟩):∃ v,(results Tryz.f23 tmps).run Tryz.prog w5 = .ok v w5∧Rel w5 (SM w I w5) Nf (.tup [eX e,bv b]) v:=by
 have hs2:Sim { c with n:=19,ds:=[] } w5 I5 μ5 H5:=⟨hs.kept,hs.lt,hs.old,hs.new,hs.ver,hs.ob,hs.apart,hs.own,hs.mle,hs.tag,hs.tab⟩;have sr:SR { c with n:=19,ds:=[] } ⟨lk [(2,.pob [0] 1 0),(3,.pob [1] 1 0)],H5⟩ ⟨tmps,[]⟩ w5 I5 μ5:=by
  refine⟨hs2,hsz,rfl,fun t=>?_⟩;show Rel w5 I5 μ5 (lk [(2,.pob [0] 1 0),(3,.pob [1] 1 0)] t) (tmps.getD t undef);simp only[Yu,cr];by_cases t0:2=t
  ·subst t0;exact h2
  by_cases t1:3=t
  ·subst t1;exact h3
  rw[if_neg t0,if_neg t1];exact .any _ _
 have hre:Tryz.f23.results.toList=[.cell 2 30,.cell 3 4]:=by kernel_rfl
 obtain⟨v,k1,k2⟩:=LP (fn:=Tryz.f23) sr (x:=.tup [.agg cs,bv b]) (by rw[hre];simp[hP,J9,g0,g1,hcs,Fv]);refine⟨v,by rw[← hP];exact k1,?_⟩;have hf:Jr H5 (.tup [.agg cs,bv b]) (.tup [eX e,bv b]):=AF ⟨Ee hcf,Ab rfl,trivial⟩;refine(hf _ w5 I5 μ5 v hs2 k2).mono0 (fun x hx=>?_) (fun _ _=>rfl);rcases hx with hx | ⟨o,g,rfl⟩
 ·exact hN x hx
 ·exact .inr ⟨hO o g,(hs.own o g).2.2⟩
def only (r:Nat) (H:Hp):Hp:=fun o=>match o with
 |j::p=>if j=r then H (j::p) else ⟨(H (j::p)).u,.none⟩
 |[]=>⟨(H []).u,.none⟩
theorem ZN {r:Nat} {H:Hp}:Part H (only r H):=fun o=>by
 cases o with
 |nil=>exact .inr rfl
 |cons j p=>
  unfold only;by_cases hj:j=r
  ·simp[hj]
  ·simp[hj]
theorem cu {dt:TypeId} {P:Program} {f:FuncId} {az:Nat→List A} {F:Fam} (hS:Ye dt P f az F) {c:Cx} (hP:c.P=P) {w:World} {I:Nat→Prop} {μ:Mu} {H:Hp} (r:Nat) (hs:Sim c w I μ H) (hF:∀ p,H (r::p)=F.F r p) {vs:Array Value} (hl:vs.size=(az r).length) (hr:∀ (k:Nat) (y:A),(az r)[k]? = some y→Rel w I μ y (vs.getD k undef)) :
  Calls P f vs w fun e w'=>e = .panicked [L1 dt]∧Kept (fun b=>∃ p,BU (μ (r::p)) (H (r::p)).ob=true∧b=(μ (r::p)).b) w w':=by
 have ho:∀ p,(only r H) (r::p)=H (r::p):=fun p=>by unfold only;simp
 have hF2:∀ p,(only r H) (r::p)=F.F r p:=fun p=>(ho p).trans (hF p);have hH:=Xl hF2;have hcl:=ME hF2;have e1:A.renL (Wg [r]) (fun _=>0) (az r)=az 0:=hS.fa.ren (fun q=>by simp[Wg]) (fun _=>rfl);have e2:A.refsL (XQ [r] 1) (az r):=hS.fa.refs (fun q=>by simp[XQ]);have hk:=VS (dt:=dt) (P:=P) (f:=f) (rs:=[r]) (m:=1) (args:=az r) (Hc:=ov 0 (F.F 0) (Dl [])) (H:=only r H) (by simp) (by simp) (by rw[e1];exact hS.h)
   (fun i p hi=>by
    have:i=0:=by omega
    subst this;rw[← hH];simp only[R1,if_pos hi])
   (fun i p hi=>by rw[← hH];simp only[R1];rw[if_neg (by omega)]) (by rw[← hH];rfl) e2
   (fun i p hi=>by
    have:i=0:=by omega
    subst this;exact hcl _ _ (by simp)) (x:=.any) (E:=Eff.fn [r] (ov r (Fam.dead.F r) (only r H)))
 have hs1:=hs.part (ZN (r:=r));have hs2:Sim ⟨P,w,I,fun o b=>∃ p,o=r::p∧BU (μ (r::p)) (H (r::p)).ob=true∧b=(μ (r::p)).b,0,μ,fun _=>False,[]⟩ w I μ (only r H):=by
  refine⟨⟨rfl,rfl,rfl,Fa _,fun _ _ _=>rfl⟩,hs1.lt,fun _ h=>h,fun b hb=>.inl hb,hs1.ver,hs1.ob,hs1.apart,fun o k=>?_,MuLe.refl _,hs1.tag,by subst hP;exact hs1.tab⟩;obtain⟨g1,_,g3⟩:=hs1.own o k;refine⟨g1,.inl ?_,g3⟩;cases o with
  |nil=>cases k
  |cons j p=>
   by_cases hj:j=r
   ·subst hj;rw[ho] at k;exact⟨p,rfl,k,rfl⟩
   ·unfold only at k;simp only[if_neg hj] at k;cases k
 refine(hk.2 _ w I μ vs rfl hs2 hl hr).mono fun e w' hh=>?_;rcases hh with ⟨v,_,I',μ',_,h2,_⟩ | ⟨t,rfl,h2,h3⟩
 ·have:=h2.ob [r];rw[show(Eff.fn [r] (ov r (Fam.dead.F r) (only r H))).app (only r H) [r]=⟨1,.cells [.any]⟩ by simp[Eff.app,A5]] at this;obtain⟨vs,_,_,h3⟩:=this;have:=(h3 0 .any rfl).1;cases this
 ·exact⟨h2,h3.os,h3.tape,h3.output,h3.size,fun b hb hn=>h3.block b hb fun ⟨o,p,_,k1,k2⟩=>hn ⟨p,k1,k2⟩⟩
def En (s:List UInt8):E × Bool:=match Be 64 s with
 |some (e,n)=>(e,decide (n=s.length))
 |none=>(E0,false)
def fH (P:Program) (w:World) (I:Nat→Prop) (d:Deferred) (m:Mu):Cx:=⟨P,w,I,fun _ _=>False,19,m,fun _=>False,[d]⟩
def mU:Hp:=Dl [([0],⟨1,.cells zE⟩),([1],⟨1,.cells [bv false]⟩)]
def ZX (s:List UInt8):Hp:=Dl [([0],⟨1,.cells zE⟩),([1],⟨1,.cells [bv false]⟩),([2],⟨1,.cells [S s,iv 0]⟩)]
@[simp] theorem vD (ps:List (Nat × A)):JV Tryz.prog 84 ps=(H7 (fun i=>([(0,1),(1,1)]:List (Nat × Nat))[i]?) [A.v (Value.string ByteArray.empty),iv 0] ps).map A.agg:=by kernel_rfl
theorem br {w:World} {I:Nat→Prop} (s:List UInt8):WPC (cx Tryz.prog w I 19) ru (fun e st=>e = .normal∧st=⟨lk [(0,S s),(2,.pob [0] 1 0),(3,.pob [1] 1 0)],mU⟩) ⟨JN [S s],H0⟩:=by
 unfold ru;simp[mU,H0,zE]
theorem b9 {w:World} {I:Nat→Prop} {d:Deferred} {m:Mu} (s:List UInt8):WPC (fH Tryz.prog w I d m) ra (fun e st=>e = .normal∧st=⟨lk [(0,S s),(2,.pob [0] 1 0),(3,.pob [1] 1 0),(4,.pob [2] 1 0)],ZX s⟩) ⟨lk [(0,S s),(2,.pob [0] 1 0),(3,.pob [1] 1 0)],mU⟩:=by
 unfold ra;simp[mU,ZX,fH]
theorem ZJ {w:World} {I:Nat→Prop} {d:Deferred} {m:Mu} {s:List UInt8} (hs:s.length≤1000000000) {e:E} {n:Nat} (he:Be 64 s=some (e,n)):WPC (fH Tryz.prog w I d m) q9 (fun ex st=>ex = .ret∧st.s 2 = .pob [0] 1 0∧st.s 3 = .pob [1] 1 0∧st.H [0]=⟨1,.cells (eL e)⟩∧st.H [1]=⟨1,.cells [bv (decide (n=s.length))]⟩) ⟨lk [(0,S s),(2,.pob [0] 1 0),(3,.pob [1] 1 0),(4,.pob [2] 1 0)],ZX s⟩:=by
 have t0:=QG hs 64 (by omega) 0 (by omega);rw[List.drop_zero,he] at t0;unfold q9;simp[fH];refine Al 2 t0 (fun p=>?_) (by simp) (by simp) ?_
 ·by_cases hp:p=[]<;>simp[hp,ZX]
 simp[ZX,zE];exact⟨fun h=>by omega,fun h=>by omega⟩
theorem iJ:gQ = .seq (.region 3 (Ek gQ) false) (Et gQ):=by kernel_rfl
theorem Zq {P:Program} {g:FuncId} (hk:LA P g=true) (vs:Array Value) (w:World):(callFunc g vs).run P w = .ok (.enter g vs) w:=by
 unfold LA at hk;cases hf:P.funcs[g]? with
 |none=>simp[hf] at hk
 |some fn=>
  simp only[hf,Bool.and_eq_true,Bool.not_eq_true'] at hk;have hb:fn.body.isNone=false:=by cases hq:fn.body<;>simp_all
  simp only[callFunc,Sem.run_bind,run_program,Result.andThen_ok,hf,hk.2,hb,Bool.false_eq_true,if_false,Sem.run_pure]
theorem YL {s:List UInt8} {w:World} {I:Nat→Prop} {vs:Array Value} (hI:∀ b,I b→b<w.heap.size) (htb:Tabs Tryz.prog w I) (hl:vs.size=[S s].length) (hr:∀ (k:Nat) (y:A),[S s][k]? = some y→Rel w I Nf y (vs.getD k undef)) :
  SR (cx Tryz.prog w I 19) ⟨JN [S s],H0⟩ ⟨vs++Array.replicate (Tryz.f23.ntmps-vs.size) undef,[]⟩ w I Nf:=by
 have hn2:Tryz.f23.ntmps=19:=by kernel_rfl
 rw[hn2];refine⟨Ou hI htb,?_,rfl,fun t=>?_⟩
 ·simp at hl ⊢;show _=19;omega
 ·show Rel w I Nf (JN [S s] t) _;unfold JN;cases hq:[S s][t]? with
  |none=>exact .any _ _
  |some y=>
   have hlt:=(List.getElem?_eq_some_iff.1 hq).1;have e:(vs++Array.replicate (19-vs.size) undef).getD t undef=vs.getD t undef:=by
    simp only[Array.getD_eq_getD_getElem?];rw[Array.getElem?_append_left (by omega)]
   rw[e];exact hr t y hq
theorem TZ {w w':World} {I I':Nat→Prop} {μ μ':Mu} {o:Nm} {u off:Nat} {v:Value} (h:Rel w I μ (.pob o u off) v) (hm:MuLe μ μ'):Rel w' I' μ' (.pob o u off) v:=by
 cases h with
 |pob _ _ _ _ b k h1 h2 h3=>
  have:=hm o;refine .pob _ _ _ _ _ _ h1 (by omega) fun e=>?_;have e2:(μ' o).u=(μ o).u:=by omega
  rw[this.2 e2];exact h3 (by omega)
theorem VP {s:List UInt8} (hs:s.length≤1000000000):G.Spec Tryz.prog 23 [S s] (.tup [eX (En s).1,bv (En s).2]):=by
 refine⟨by kernel_rfl,fun w I vs hI htb hl hr=>?_⟩;have hb:Tryz.f23.body=some wB:=by kernel_rfl
 refine calls_of_wp_defers Tryz.func23 hb ?_;have sr0:=YL hI htb hl hr;revert sr0;generalize (⟨vs++Array.replicate (Tryz.f23.ntmps-vs.size) undef,[]⟩:Act)=a0;intro sr0;rw[nK];have g0:=EH (c:=cx Tryz.prog w I 19) mixed (Ng jk) (br s) a0 w I Nf sr0;refine wp_seq (wp_mono g0 fun ex a1 w1 hu=>?_);rcases hu with ⟨_,I1,μ1,k1,rfl,rfl⟩ | ⟨_,k,_⟩
 case inr=>exact k.elim
 refine wp_seq (mq k1.size k1.defers ?_);obtain⟨p,hp⟩:∃ p,p=a1.eval (.tmp 2):=⟨_,rfl⟩;obtain⟨q,hq⟩:∃ q,q=a1.eval (.tmp 3):=⟨_,rfl⟩;rw[← hp,← hq];have sr1:SR (fH Tryz.prog w I (dz p q) μ1) ⟨lk [(0,S s),(2,.pob [0] 1 0),(3,.pob [1] 1 0)],mU⟩ ⟨a1.tmps.setIfInBounds 5 (.func (.func 39) #[] #[p,q]),[dz p q]⟩ w1 I1 μ1:=by
  refine⟨⟨k1.sim.kept,k1.sim.lt,k1.sim.old,k1.sim.new,k1.sim.ver,k1.sim.ob,k1.sim.apart,k1.sim.own,MuLe.refl _,k1.sim.tag,k1.sim.tab⟩,(Array.size_setIfInBounds ..).trans k1.size,rfl,fun t=>?_⟩;by_cases t5:t=5
  ·subst t5;simp;exact .any _ _
  ·have e:(a1.tmps.setIfInBounds 5 (.func (.func 39) #[] #[p,q])).getD t undef=a1.tmps.getD t undef:=by
    simp only[Array.getD_eq_getD_getElem?];rw[Array.getElem?_setIfInBounds_ne (Ne.symm t5)]
   rw[e];exact k1.rel t
 have hpp:Rel w1 I1 μ1 (.pob [0] 1 0) p:=by rw[hp];exact k1.rel 2
 have hqq:Rel w1 I1 μ1 (.pob [1] 1 0) q:=by rw[hq];exact k1.rel 3
 have g2:=EH (c:=fH Tryz.prog w I (dz p q) μ1) mixed (Ng iG) (b9 s) _ w1 I1 μ1 sr1;refine wp_seq (wp_mono g2 fun ex a2 w2 hu=>?_);rcases hu with ⟨_,I2,μ2,k2,rfl,rfl⟩ | ⟨_,k,_⟩
 case inr=>exact k.elim
 have hinv:∀ w',(invoke (dz p q).target #[]).run Tryz.prog w' = .ok (.enter 39 #[p,q]) w':=fun _=>by kernel_rfl
 cases hE:Be 64 s with
 |some r=>
  obtain⟨e,n⟩:=r;have hW:En s=(e,decide (n=s.length)):=by unfold En;rw[hE]
  rw[hW];have g3:=EH (c:=fH Tryz.prog w I (dz p q) μ1) mixed (Ng ia) (ZJ hs hE) _ w2 I2 μ2 k2;refine wp_mono g3 fun ex a3 w3 hu=>?_;rcases hu with ⟨st,I3,μ3,k3,rfl,j2,j3,j0,j1⟩ | ⟨_,k,_⟩
  case inr=>exact k.elim
  show Leaves Tryz.prog _ a3.tmps _ a3.defers .returning w3;rw[k3.defers];refine leaves_cons (by simp) (hinv w3) ((Wk k3.sim.lt k3.sim.tab p q).mono fun e2 u w' hh=>?_);obtain⟨rfl,rfl,hg⟩:=hh;obtain⟨hx,hs'⟩:=k3.sim.same hg (fun _ h=>h) (fun _ h=>.inl h);have r2:=k3.rel 2;have r3:=k3.rel 3;rw[j2] at r2;rw[j3] at r3;obtain⟨v,f1,f2⟩:=SW (w:=w) (I:=I) rfl hs' (fun b hb=>(hs'.new b hb).imp id fun h=>⟨h,hs'.lt b hb⟩) (fun o k=>(hs'.own o k).2.1.resolve_left id) k3.size (hx.rel r2) (hx.rel r3) j0 rfl ⟨Ab rfl,Ab rfl,Ad,Ad,Ab rfl,Ad,Ad,Ad,Ad,Ab rfl,Ad,trivial⟩ j1;have kp:=hs'.kept;exact⟨v,f1,v,rfl,⟨kp.os,kp.tape,kp.output,kp.size,fun b hb=>kp.block b hb (fun ⟨_,h⟩=>h)⟩,f2⟩
 |none=>
  have hW:En s=(E0,false):=by unfold En;rw[hE]
  rw[hW];rw[iJ];refine wp_seq (wp_region ?_);have o0:(Ek gQ)[0]? = some ⟨some 9,.move (.tmp 4),82,"etext.go:238",#[],none⟩:=by kernel_rfl
  have o1:(Ek gQ)[1]? = some ⟨some 10,.call { callee:=.value (.func 40),args:=#[.tmp 9,.const (.int .i64 64)],argTypes:=#[82,3] },30,"etext.go:238",#[{ on:=0,ground:=.data }],none⟩:=by kernel_rfl
  have hsz:List.range (Ek gQ).size=[0,1,2]:=by kernel_rfl
  rw[hsz];have x0:∀ ρ:Operand→Value,(execOp ρ ⟨some 9,.move (.tmp 4),82,"etext.go:238",#[],none⟩).run Tryz.prog w2 = .ok (.value (ρ (.tmp 4))) w2:=fun _=>rfl;have x1:∀ a:Act,(execOp a.eval ⟨some 10,.call { callee:=.value (.func 40),args:=#[.tmp 9,.const (.int .i64 64)],argTypes:=#[82,3] },30,"etext.go:238",#[{ on:=0,ground:=.data }],none⟩).run Tryz.prog w2 = .ok (.enter 40 #[a.eval (.tmp 9),.int .i64 64]) w2:=fun a=>by
   rw[show execOp a.eval ⟨some 10,.call { callee:=.value (.func 40),args:=#[.tmp 9,.const (.int .i64 64)],argTypes:=#[82,3] },30,"etext.go:238",#[{ on:=0,ground:=.data }],none⟩=callFunc 40 (#[] ++ #[Operand.tmp 9,.const (.int .i64 64)].map a.eval ++ #[]) from rfl];rw[show(#[] ++ #[Operand.tmp 9,.const (.int .i64 64)].map a.eval ++ #[]:Array Value) = #[a.eval (.tmp 9),.int .i64 64] by simp[Act.eval]];exact Zq (by kernel_rfl) _ _
  rw[wpOps,o0];simp only;rw[if_pos (by rfl)];refine .inl ?_;unfold Oper.wp;rw[x0,Oper.upon_value];rw[wpOps,o1];simp only;rw[if_pos (by rfl)];refine .inl ?_;unfold Oper.wp;rw[x1,Oper.upon_enter];obtain⟨a3,ha3⟩:∃ a3,a3=a2.put (some 9) (a2.eval (.tmp 4)):=⟨_,rfl⟩;rw[← ha3];have t0:=QG hs 64 (by omega) 0 (by omega);rw[List.drop_zero,hE] at t0;have hv:a3.eval (.tmp 9)=a2.tmps.getD 4 undef:=by
   rw[ha3];have:=k2.size;have:9<a2.tmps.size:=by rw[this];show 9<19;omega
   simp[Act.eval,Act.put,this]
  have e3:a3.tmps.size=19:=by
   rw[ha3];simp only[Act.put,Array.size_setIfInBounds];exact k2.size
  have e4:a3.defers=[dz p q]:=by rw[ha3];exact k2.defers
  have e5:∀ t,t ≠ 9→a3.tmps.getD t undef=a2.tmps.getD t undef:=fun t ht=>by
   rw[ha3];simp only[Act.put,Array.getD_eq_getD_getElem?];rw[Array.getElem?_setIfInBounds_ne (Ne.symm ht)]
  have r4:=k2.rel 4;refine(cu t0 (c:=fH Tryz.prog w I (dz p q) μ1) rfl 2 k2.sim (fun p=>by by_cases hp:p=[]<;>simp[hp,ZX]) (vs:=#[a3.eval (.tmp 9),.int .i64 64]) (by simp) (fun k y hk=>?_)).mono fun e2 w3 hh=>?_
  ·match k,hk with
   |0,hk=>simp at hk;subst hk;show Rel _ _ _ _ (a3.eval (.tmp 9));rw[hv];exact r4
   |1,hk=>simp at hk;subst hk;exact .v _ _
  ·obtain⟨rfl,hkp⟩:=hh;show Leaves Tryz.prog _ a3.tmps _ a3.defers (.panicking [L1 NT]) w3;rw[e4];have hg:w2.grownBy w3 (some (μ2 [2]).b):=⟨hkp.os,hkp.tape,hkp.output,hkp.size,fun b hb hne=>hkp.block b hb fun ⟨p,k,e⟩=>by
    by_cases hp:p=[]
    ·subst hp;exact hne (by rw[e])
    ·simp[ZX,hp] at k;cases k⟩
   have hB2:BU (μ2 [2]) (ZX s [2]).ob=true:=by simp[ZX];rfl
   obtain⟨_,hs3⟩:=k2.sim.upd hg [2] (μ2 [2]) .none (.inr ⟨rfl,hB2⟩) (.inr rfl) (fun h=>nomatch h) (fun h=>nomatch h) (fun _=>trivial);have eμ:AR μ2 [2] (μ2 [2])=μ2:=by funext o;unfold AR;split<;>simp_all
   rw[eμ] at hs3;obtain⟨H3,hH3⟩:∃ H3,H3=(AR (ZX s) [2] ⟨(μ2 [2]).u,.none⟩:Hp):=⟨_,rfl⟩;have g30:H3 [0]=⟨1,.cells zE⟩:=by rw[hH3];simp[ZX]
   have g31:H3 [1]=⟨1,.cells [bv false]⟩:=by rw[hH3];simp[ZX]
   have hs3:Sim (fH Tryz.prog w I (dz p q) μ1) w3 I2 μ2 H3:=by rw[hH3];exact hs3
   have hsC:Sim ⟨Tryz.prog,w3,I2,fun o b=>BU (μ2 o) (H3 o).ob=true∧b=(μ2 o).b,11,μ2,fun _=>False,[]⟩ w3 I2 μ2 H3:=
    ⟨⟨rfl,rfl,rfl,Fa _,fun _ _ _=>rfl⟩,hs3.lt,fun _ h=>h,fun b hb=>.inl hb,hs3.ver,hs3.ob,hs3.apart,fun o k=>⟨(hs3.own o k).1,.inl ⟨k,rfl⟩,(hs3.own o k).2.2⟩,MuLe.refl _,hs3.tag,hs3.tab⟩
   have hpe:Rel w3 I2 μ2 (.pob [0] 1 0) p:=TZ hpp k2.sim.mle;have hqe:Rel w3 I2 μ2 (.pob [1] 1 0) q:=TZ hqq k2.sim.mle;have r2:Rel w3 I2 μ2 (.pob [0] 1 0) (a3.tmps.getD 2 undef):=by rw[e5 2 (by omega)];exact TZ (k2.rel 2) (MuLe.refl _)
   have r3:Rel w3 I2 μ2 (.pob [1] 1 0) (a3.tmps.getD 3 undef):=by rw[e5 3 (by omega)];exact TZ (k2.rel 3) (MuLe.refl _)
   refine leaves_cons (by simp) (hinv w3) ((Vo rfl rfl rfl (fun _ h=>h) hsC hpe hqe (x:=.any) rfl g30 g31).mono fun e2 u w4 hh=>?_);obtain⟨rfl,rfl,H4,I4,μ4,hs4,g40,g41⟩:=hh;have kp:=hs4.kept;have ow:∀ o,BU (μ2 o) (H3 o).ob=true→w.heap.size≤(μ2 o).b:=fun o k=>(hs3.own o k).2.1.resolve_left id;have hsz3:w.heap.size≤w3.heap.size:=hs3.kept.size;have hx:Ext I2 μ2 w3 I4 μ4 w4:=⟨hs4.old,fun b hb=>kp.block b (hs3.lt b hb) fun ⟨o,k,e⟩=>(hs3.own o k).1 (by rw[← e];exact hb),hs4.mle⟩;obtain⟨v,f1,f2⟩:=SW (w:=w) (I:=I) (e:=E0) rfl hs4 (fun b hb=>by
    have hlt:=hs4.lt b hb;rcases hs4.new b hb with h | h
    ·exact(hs3.new b h).imp id fun h=>⟨h,hlt⟩
    ·exact .inr ⟨Nat.le_trans hsz3 h,hlt⟩) (fun o k=>by
    rcases (hs4.own o k).2.1 with ⟨h1,h2⟩ | h
    ·rw[h2];exact ow o h1
    ·exact Nat.le_trans hsz3 h) e3 (hx.rel r2) (hx.rel r3) g40 rfl ⟨Ab rfl,Ab rfl,Ad,Ad,Ab rfl,Ad,Ad,Ad,Ad,Ab rfl,Ad,trivial⟩ g41
   have kp0:=hs3.kept;exact⟨v,f1,v,rfl,⟨kp.os.trans kp0.os,kp.tape.trans kp0.tape,kp.output.trans kp0.output,Nat.le_trans kp0.size kp.size,fun b hb=>(kp.block b (Nat.lt_of_lt_of_le hb hsz3) fun ⟨o,k,e⟩=>by
    have:=ow o k;omega).trans (kp0.block b hb (fun ⟨_,h⟩=>h))⟩,f2⟩
end Go.Proofs.YtebihdhapepejaaGreatDoor
namespace Go.Proofs.YtebihdhapepejaaGreatDoor
open Go Go.G Go.Proofs Go.PL
abbrev z0:List A:=[iv 0,.sl true [],.sl true []]
theorem ZV (t:T) (hw:t.words.length*8≤140737488355328) (hk:t.kids.length*56≤140737488355328):G.Spec Tryz.prog 14 [tX t] (bv (Cv t)):=by
 refine Aj NN (by simp) fun w0 I0=>?_;unfold Ij;simp;have e:i64.wrap ((t.words.length:Int)+t.kids.length)=(t.words.length:Int)+t.kids.length:=EK;simp[e];refine Ai ?_;rw[Bool.eq_iff_iff];simp[Cv,List.isEmpty_iff,← List.length_eq_zero_iff];omega
theorem Gg {t:T} (h:Gc t):G.Spec Tryz.prog 14 [tX t] (bv (Cv t)):=ZV t (wfT_iff.1 h).wl (wfT_iff.1 h).kl
theorem JG:∀ (m:Nat) (x:Int) (i:Nat),i<m→(CI m x).getD i 0=x / 256 ^ i % 256
 |m+1,x,0,_=>by simp[CI]
 |m+1,x,i+1,h=>by
  have:=JG m (x / 256) i (by omega);simp only[CI,List.getD_cons_succ,this];rw[Int.ediv_ediv_of_nonneg (by decide),← Int.pow_succ']
theorem Vp:∀ (l:List Int),(∀ b,b ∈ l→0≤b∧b<256)→(TJ l=0 ↔ ∀ b,b ∈ l→b=0)
 |[],_=>by simp[TJ]
 |b::l,h=>by
  have h1:=h b (by simp);have h2:=K4 l fun x hx=>h x (by simp[hx]);have ih:=Vp l fun x hx=>h x (by simp[hx]);simp only[TJ,List.mem_cons,forall_eq_or_imp,← ih];omega
theorem Q5 (w mask:Int):decide (Ve w 0 mask=0)=DJ w mask:=by
 rw[Bool.eq_iff_iff];unfold Ve;rw[decide_eq_true_eq,Vp _ Qt];have e:JY (B3 w) (B3 0) mask 8=(List.range 8).map fun i=>if D3 mask i=true then (B3 0).getD i 0 else (B3 w).getD i 0:=by
  unfold JY;rw[List.drop_of_length_le (by rw[IA];omega),List.append_nil]
 rw[e];simp only[DJ,List.all_eq_true,List.mem_map,List.mem_range,Bool.or_eq_true,decide_eq_true_eq];have hz:∀ i,i<8→(B3 0).getD i 0=0:=fun i hi=>by
  unfold B3;rw[JG 8 0 i hi];simp
 constructor
 ·intro h i hi;by_cases hn:D3 mask i=true
  ·left;simpa[D3] using hn
  ·right;have:=h _ ⟨i,hi,rfl⟩;rw[if_neg hn] at this;unfold B3 at this
   rwa [JG 8 w i hi] at this
 ·rintro h b ⟨i,hi,rfl⟩;by_cases hn:D3 mask i=true
  ·rw[if_pos hn];exact hz i hi
  ·rw[if_neg hn];rcases h i hi with h | h
   ·exact absurd (by simpa[D3] using h) hn
   ·unfold B3;rw[JG 8 w i hi];exact h
theorem NQ {w mask:Int} (h:D5 w) (h0:0≤mask) (h1:mask<256):G.Spec Tryz.prog 16 [uv w,u8 mask] (bv (DJ w mask)):=by
 refine Aj LC (by simp) fun w0 I0=>?_;unfold G7;simp;refine Af (Zs h ⟨by omega,by omega⟩ h0 h1) rfl ?_;simp;exact Ai (Q5 w mask)
set_option maxRecDepth 8000 in
theorem Sr {e:E} (h:qC e):G.Spec Tryz.prog 33 [eX e] (bv (J6 e)):=by
 have hwl:=h.wl;have hkl:=h.kl;have hol:=h.ol;refine Aj Nw (by simp) fun w0 I0=>?_;unfold H8;simp;refine AH rfl (fun _=>Gg h.o) (fun e=>by simp[e]) rfl ?_;simp;refine AH rfl (fun _=>Gg h.n) (fun e=>by simp at e;simp[e]) rfl ?_;have e1:i64.wrap ((e.words.length:Int)+e.kids.length)=(e.words.length:Int)+e.kids.length:=EK;have e2:i64.wrap ((e.words.length:Int)+e.kids.length+e.ops.length)=(e.words.length:Int)+e.kids.length+e.ops.length:=EK;simp[e1,e2];refine Ai ?_;rw[Bool.eq_iff_iff];simp[J6,List.isEmpty_iff,← List.length_eq_zero_iff];omega
theorem Ln {n:Int} (h:0≤n):0≤JF n∧JF n≤1048576:=by unfold JF;split<;>omega
variable {n0:Nat} {w0:World} {I0:Nat→Prop} {Q:Exit→Sta→Prop}
theorem WL {Q':Exit→Sta→Prop} {p i:A} {x y:Int} {H:Hp} (h:∀ l,Q' .normal ⟨lk ((1,p)::(4,iv (JF x))::(5,iv (JF y))::(6,i)::l),H⟩):WPC (cx Tryz.prog w0 I0 n0) D4 Q' ⟨lk [(1,p),(4,iv x),(5,iv y),(6,i)],H⟩:=by
 rw[D4.eq_1];have h0:=h [];have h1:=h [(45,bv false)];by_cases hx:1048576<x<;>by_cases hy:1048576<y<;>simp[hx,hy]<;>first
  |(simpa[JF,hx,hy] using h0)
  |(simpa[JF,hx,hy] using h1)
theorem aj {Q':Exit→Sta→Prop} {p i:A} {a b z:Int} {H:Hp} {o:OP} {u:Nat} (hz:z=Bn o) (a0:0≤a) (a1:a≤1048576) (b0:0≤b) (b1:b≤1048576) (z0:0≤z) (z1:z<100000000000000) (hO:H [1]=⟨u,.cells (iv o.kind::iv o.n::Eg o.l::eL o.e)⟩)
  (h:∀ l,Q' .normal ⟨lk ((1,p)::(4,iv (JF (if o.kind ≠ 2 then a+Bn o else a)))::(5,iv (JF (if o.kind ≠ 1 then b+Bn o else b)))::(6,i)::l),H⟩):WPC (cx Tryz.prog w0 I0 n0) D9 Q' ⟨lk [(1,p),(4,iv a),(5,iv b),(6,i),(7,.pob [1] u 0),(8,iv z)],H⟩:=by
 subst hz;rw[D9.eq_1];have ea:i64.wrap (a+Bn o)=a+Bn o:=EK;have eb:i64.wrap (b+Bn o)=b+Bn o:=EK;by_cases h2:o.kind=2
 ·simp[hO,h2];rw[Cq.eq_1];simp[hO,h2,eb];refine WL fun l=>?_;simpa[h2] using h l
 ·by_cases h1:o.kind=1
  ·simp[hO,h1,ea];rw[Cq.eq_1];simp[hO,h1];refine WL fun l=>?_;simpa[h1] using h l
  ·simp[hO,h2,ea];rw[Cq.eq_1];simp[hO,h1,eb];refine WL fun l=>?_;simpa[h1,h2] using h l
theorem Xo {e:E} (hl:e.ops.length*240≤140737488355328) (ho:∀ x,x ∈ e.ops→0≤x.n∧x.n≤1048576∧x.l.length*56≤140737488355328):∀ (m i:Nat) (a b:Int) (H:Hp),i+m=e.ops.length→H [0]=⟨1,.cells (eL e)⟩→0≤a→a≤1048576→0≤b→b≤1048576 →
  (∀ i' q H',Q (.exit 0) ⟨lk [(1,.pob [0] 1 0),(4,iv (A2 a b (e.ops.drop i)).1),(5,iv (A2 a b (e.ops.drop i)).2),(6,iv i'),(13,bv q)],H'⟩) →
  LoopC (cx Tryz.prog w0 I0 n0) BS Q ⟨lk [(1,.pob [0] 1 0),(4,iv a),(5,iv b),(6,iv i)],H⟩:=by
 intro m;induction m with
 |zero=>
  intro i a b H hi hA a0 a1 b0 b1 hq;have:i=e.ops.length:=by omega
  subst this;refine Ae mixed BS.eq_1 ?_;simp[hA];simpa[A2] using hq e.ops.length false H
 |succ m ih=>
  intro i a b H hi hA a0 a1 b0 b1 hq;have hlt:i<e.ops.length:=by omega
  have ed:e.ops.drop i=e.ops[i]::e.ops.drop (i+1):=List.drop_eq_getElem_cons hlt;have ei:=A7 i;obtain⟨n1,n2,n3⟩:=ho _ (B0 hlt);rw[ed] at hq;generalize ho':e.ops[i]=o at *;have h0:0≤Bn o∧Bn o<100000000000000:=by unfold Bn;split<;>omega
  have next:∀ (a' b':Int) H',H' [0]=⟨1,.cells (eL e)⟩→a'=JF (if o.kind ≠ 2 then a+Bn o else a)→b'=JF (if o.kind ≠ 1 then b+Bn o else b)→LoopC (cx Tryz.prog w0 I0 n0) BS Q ⟨lk [(1,.pob [0] 1 0),(4,iv a'),(5,iv b'),(6,iv ((i+1:Nat):Int))],H'⟩:=fun a' b' H' hA' ha hb=>by
   have s1:=Ln (n:=if o.kind ≠ 2 then a+Bn o else a) (by split<;>omega);have s2:=Ln (n:=if o.kind ≠ 1 then b+Bn o else b) (by split<;>omega);refine ih (i+1) a' b' H' (by omega) hA' (by omega) (by omega) (by omega) (by omega) fun i' q H2=>?_;have:=hq i' q H2;rw[A2,← ha,← hb] at this;exact this
  refine Ae mixed BS.eq_1 ?_;have e1:i64.wrap (o.n+(o.l.length:Int))=o.n+o.l.length:=EK;simp[hlt,hA,ho',Aa,e1];refine⟨fun h3=>?_,fun h3=>?_⟩
  ·refine aj (o:=o) (u:=(H [1]).u+1) (z:=1) (by simp[Bn,h3]) (by omega) (by omega) (by omega) (by omega) (by omega) (by omega) (by simp[Aa]) fun l=>?_;simp[ei];exact next _ _ _ (by simp[Aa,hA]) (by simp) (by simp)
  ·refine aj (o:=o) (u:=(H [1]).u+1) (z:=o.n+o.l.length) (by simp[Bn,h3]) (by omega) (by omega) (by omega) (by omega) (by omega) (by omega) (by simp[Aa]) fun l=>?_;simp[ei];exact next _ _ _ (by simp[Aa,hA]) (by simp) (by simp)
theorem Iw {e:E} (hl:e.ops.length*240≤140737488355328) (ho:∀ x,x ∈ e.ops→0≤x.n∧x.n≤1048576∧x.l.length*56≤140737488355328):G.Spec Tryz.prog 18 [eX e] (.tup [iv (A2 0 0 e.ops).1,iv (A2 0 0 e.ops).2]):=by
 refine Aj KO (by simp) fun w0 I0=>?_;unfold GG;simp;refine Xo hl ho e.ops.length 0 0 0 _ (by omega) (by simp) (by omega) (by omega) (by omega) (by omega) fun i' q H'=>?_;simp;exact Ab rfl
abbrev ay (e:E):Prop:=∀ (d:Nat) (n:Int),d≤1000→0≤n→n≤1000000→G.Spec Tryz.prog 13 [eX e,iv d,iv n] (iv (GK d n e))
mutual
theorem Ip:∀ (e:E) (d:Nat) (n:Int),-1≤GK d n e∧(-1≤n→GK d n e≤n)
 |.mk k o nn ws ks l os,d,n=>by
  rw[QI];split
  ·omega
  ·rw[Ni];have h1:=CG o 80 (n-1-ws.length-os.length);have h2:=CG nn 80 (AV 80 (n-1-ws.length-os.length) o);have h3:-1≤(if AV 80 (n-1-ws.length-os.length) o<0 then AV 80 (n-1-ws.length-os.length) o else AV 80 (AV 80 (n-1-ws.length-os.length) o) nn)∧(if AV 80 (n-1-ws.length-os.length) o<0 then AV 80 (n-1-ws.length-os.length) o else AV 80 (AV 80 (n-1-ws.length-os.length) o) nn)≤n:=by split<;>omega
   generalize (if AV 80 (n-1-ws.length-os.length) o<0 then AV 80 (n-1-ws.length-os.length) o else AV 80 (AV 80 (n-1-ws.length-os.length) o) nn)=x at h3;have h4:=Ju ks (d-1) x h3.1;have h5:=NJ os (d-1) (Ew (d-1) x ks) h4.1;omega
theorem Ju:∀ (l:List KE) (d:Nat) (n:Int),-1≤n→-1≤Ew d n l∧Ew d n l≤n
 |[],d,n,h=>by simp;omega
 |.mk a e::l,d,n,h=>by
  rw[Kx];split
  ·omega
  ·have h1:=Ip e d n;have h2:=Ju l d (GK d n e) h1.1;simp only[KE.e_mk];omega
theorem NJ:∀ (l:List OP) (d:Nat) (n:Int),-1≤n→-1≤Fz d n l∧Fz d n l≤n
 |[],d,n,h=>by simp;omega
 |.mk k m t e::l,d,n,h=>by
  rw[Ik];split
  ·omega
  ·simp only[OP.e_mk,OP.l_mk];have h0:=FN t 80 n h;have h1:=Ip e d (AJ 80 n t);have h3:-1≤(if AJ 80 n t<0 then AJ 80 n t else GK d (AJ 80 n t) e)∧(if AJ 80 n t<0 then AJ 80 n t else GK d (AJ 80 n t) e)≤n:=by split<;>omega
   have h2:=NJ l d _ h3.1;exact⟨h2.1,Int.le_trans h2.2 h3.2⟩
end
theorem W5 (l:List KE) (d:Nat) {n:Int} (h:n<0):Ew d n l=n:=by cases l<;>simp[h]
theorem W3 (l:List OP) (d:Nat) {n:Int} (h:n<0):Fz d n l=n:=by cases l<;>simp[h]
theorem eu {e:E} {d:Nat} (hd:1≤d) (hd1:d≤1000) (hl:e.kids.length*208≤140737488355328) (ih:∀ c,c ∈ e.kids→ay c.e)
  {H:Hp} (hH:H [0]=⟨1,.cells (eL e)⟩):∀ (m i:Nat) (n:Int),i+m=e.kids.length→-1≤n→n≤1000000 →
  (∀ i' q,Q (.exit 0) ⟨lk [(1,iv d),(2,iv (Ew (d-1) n (e.kids.drop i))),(3,.pob [0] 1 0),(7,iv i'),(44,bv q)],H⟩) →
  LoopC (cx Tryz.prog w0 I0 n0) DI Q ⟨lk [(1,iv d),(2,iv n),(3,.pob [0] 1 0),(7,iv i)],H⟩:=by
 intro m;induction m with
 |zero=>
  intro i n hi h1 h2 hq;have:i=e.kids.length:=by omega
  subst this;refine Ae mixed DI.eq_1 ?_;simp[hH];simpa using hq _ false
 |succ m ihm=>
  intro i n hi h1 h2 hq;have hlt:i<e.kids.length:=by omega
  refine Ae mixed DI.eq_1 ?_;have ed:e.kids.drop i=e.kids[i]::e.kids.drop (i+1):=List.drop_eq_getElem_cons hlt;by_cases hn:n<0
  ·simp[hH,hlt,show ¬ (0:Int)≤n by omega];have:=hq i false
   rwa [W5 _ _ hn] at this
  ·have hn':0≤n:=by omega
   simp[hH,hlt,hn'];have edd:i64.wrap ((d:Int)-1)=((d-1:Nat):Int):=DU;rw[edd];refine Af (ih _ (B0 hlt) (d-1) n (by omega) hn' h2) rfl ?_;simp;have hr:=Ip e.kids[i].e (d-1) n;rw[Bs (by omega) (by omega)];refine ihm (i+1) _ (by omega) hr.1 (by omega) fun i' q=>?_;have:=hq i' q;rw[ed,Kx,if_neg (by omega)] at this;exact this
theorem fB {e:E} {d:Nat} {i:Nat} (hi:i<e.ops.length) (hl:e.ops[i].l.length*56≤140737488355328) (hw:∀ t,t ∈ e.ops[i].l→Gc t)
  {H:Hp} (hH:H [0]=⟨1,.cells (eL e)⟩):∀ (m j:Nat) (n:Int),j+m=e.ops[i].l.length→-1≤n→n≤1000000 →
  (∀ i' q,Q (.exit 4) ⟨lk [(1,iv d),(2,iv (AJ 80 n (e.ops[i].l.drop j))),(3,.pob [0] 1 0),(8,iv i),(9,iv i'),(80,bv q)],H⟩) →
  LoopC (cx Tryz.prog w0 I0 n0) DM Q ⟨lk [(1,iv d),(2,iv n),(3,.pob [0] 1 0),(8,iv i),(9,iv j)],H⟩:=by
 intro m;induction m with
 |zero=>
  intro j n hj h1 h2 hq;have:j=e.ops[i].l.length:=by omega
  subst this;refine Ae mixed DM.eq_1 ?_;simp[hH,hi];simpa using hq _ false
 |succ m ihm=>
  intro j n hj h1 h2 hq;have hlt:j<e.ops[i].l.length:=by omega
  refine Ae mixed DM.eq_1 ?_;have ed:e.ops[i].l.drop j=e.ops[i].l[j]::e.ops[i].l.drop (j+1):=List.drop_eq_getElem_cons hlt;by_cases hn:n<0
  ·simp[hH,hi,hlt,show ¬ (0:Int)≤n by omega];have:=hq j false
   rwa [NR _ _ hn] at this
  ·have hn':0≤n:=by omega
   simp[hH,hi,hlt,hn'];refine Af (JQ _ (hw _ (B0 hlt)) 80 n (by omega) hn' h2) rfl ?_;simp;have hr:=CG e.ops[i].l[j] 80 n;rw[Bs (by omega) (by omega)];refine ihm (j+1) _ (by omega) hr.1 (by omega) fun i' q=>?_;have:=hq i' q;rw[ed,D1,if_neg (by omega)] at this;exact this
theorem ey {e:E} {d:Nat} (hd:1≤d) (hd1:d≤1000) (hl:e.ops.length*240≤140737488355328) (hw:∀ x,x ∈ e.ops→Uv x) (ih:∀ c,c ∈ e.ops→ay c.e)
  {H:Hp} (hH:H [0]=⟨1,.cells (eL e)⟩):∀ (m i:Nat) (n:Int),i+m=e.ops.length→-1≤n→n≤1000000 →
  (∀ i' q,Q (.exit 2) ⟨lk [(1,iv d),(2,iv (Fz (d-1) n (e.ops.drop i))),(3,.pob [0] 1 0),(8,iv i'),(65,bv q)],H⟩) →
  LoopC (cx Tryz.prog w0 I0 n0) DP Q ⟨lk [(1,iv d),(2,iv n),(3,.pob [0] 1 0),(8,iv i)],H⟩:=by
 intro m;induction m with
 |zero=>
  intro i n hi h1 h2 hq;have:i=e.ops.length:=by omega
  subst this;refine Ae mixed DP.eq_1 ?_;simp[hH];simpa using hq _ false
 |succ m ihm=>
  intro i n hi h1 h2 hq;have hlt:i<e.ops.length:=by omega
  refine Ae mixed DP.eq_1 ?_;have ed:e.ops.drop i=e.ops[i]::e.ops.drop (i+1):=List.drop_eq_getElem_cons hlt;have hwo:=hw _ (B0 hlt);by_cases hn:n<0
  ·simp[hH,hlt,show ¬ (0:Int)≤n by omega];have:=hq i false
   rwa [W3 _ _ hn] at this
  ·have hn':0≤n:=by omega
   have hs:=FN e.ops[i].l 80 n h1;have ei:=A7 i;simp[hH,hlt,hn'];refine LoopC.le (A4 [(1,iv d),(2,iv n),(3,.pob [0] 1 0),(8,iv i),(9,iv (0:Nat))] (by simp)) ?_;refine fB hlt hwo.ll hwo.l hH e.ops[i].l.length 0 n (by omega) h1 h2 fun i' q=>?_;by_cases hsn:AJ 80 n e.ops[i].l<0
   ·simp[show ¬ (0:Int)≤AJ 80 n e.ops[i].l by omega,ei];refine ihm (i+1) _ (by omega) hs.1 (by omega) fun i' q=>?_;have:=hq i' q;rw[ed,Ik,if_neg (by omega),if_pos hsn] at this;exact this
   ·have hsn':0≤AJ 80 n e.ops[i].l:=by omega
    simp[hsn',hH,hlt];have edd:i64.wrap ((d:Int)-1)=((d-1:Nat):Int):=DU;rw[edd];refine Af (ih _ (B0 hlt) (d-1) _ (by omega) hsn' (by omega)) rfl ?_;have hr:=Ip e.ops[i].e (d-1) (AJ 80 n e.ops[i].l);simp[ei];refine ihm (i+1) _ (by omega) hr.1 (by omega) fun i' q=>?_;have:=hq i' q;rw[ed,Ik,if_neg (by omega),if_neg hsn] at this;exact this
theorem V0:∀ (e:E),HT e→ay e:=by
 refine E.ind fun k o nn ws ks l os ihk iho hw d n hd hn hn1=>?_;have h:=wfE_iff.1 hw;have hwl:=h.wl;have hkl:=h.kl;have hol:=h.ol;simp at hwl hkl hol;refine Aj Nr (by simp) fun w0 I0=>?_;unfold H6;have e1:i64.wrap (i64.wrap (i64.wrap (n-1)-(ws.length:Int))-(os.length:Int))=n-1-ws.length-os.length:=by
  rw[Bs (n:=n-1) (by omega) (by omega),Bs (n:=n-1-ws.length) (by omega) (by omega),Bs (by omega) (by omega)]
 rw[QI];by_cases hc:d=0∨n-1-(ws.length:Int)-(os.length:Int)<0
 ·have hd:(decide (d=0) || decide (n-1-(ws.length:Int)-(os.length:Int)<0))=true:=by simp;omega
  simp[e1,hd,hc];exact Ab rfl
 ·have hd:(decide (d=0) || decide (n-1-(ws.length:Int)-(os.length:Int)<0))=false:=by simp;omega
  simp[e1,hd,hc];refine Af (JQ o h.o 80 _ (by omega) (by omega) (by omega)) rfl ?_;have hr:=CG o 80 (n-1-ws.length-os.length);have go:∀ (x:Int),x=PM n ws.length os.length o nn→-1≤x→x≤1000000→WPC (cx Tryz.prog w0 I0 107) Fj (Ka Tryz.prog [.tmp 6] (iv (Fz (d-1) (Ew (d-1) (PM n ws.length os.length o nn) ks) os))) ⟨lk [(1,iv d),(2,iv x),(3,.pob [0] 1 0)],Dl [([0],⟨1,.cells (eL (.mk k o nn ws ks l os))⟩)]⟩:=fun x hx h1 h2=>by
   rw[Fj.eq_1,← hx];simp;refine LoopC.le (A4 [(1,iv d),(2,iv x),(3,.pob [0] 1 0),(7,iv (0:Nat))] (by simp)) ?_;refine eu (e:=.mk k o nn ws ks l os) (by omega) (by omega) (by simpa using hkl) (fun c hc=>ihk c hc (h.ks c hc).2) (by simp) ks.length 0 x (by simp) h1 h2 fun i' q=>?_;have hr2:=Ju ks (d-1) x h1;simp;refine LoopC.le (A4 [(1,iv d),(2,iv (Ew (d-1) x ks)),(3,.pob [0] 1 0),(8,iv (0:Nat))] (by simp)) ?_;refine ey (e:=.mk k o nn ws ks l os) (by omega) (by omega) (by simpa using hol) (fun c hc=>h.os c hc) (fun c hc=>iho c hc (h.os c hc).e) (by simp) os.length 0 _ (by simp) hr2.1 (by omega) fun i' q=>?_;simp;exact Ab rfl
  by_cases hs:AV 80 (n-1-ws.length-os.length) o<0
  ·simp[show ¬ (0:Int)≤AV 80 (n-1-ws.length-os.length) o by omega];exact go _ (by rw[Ni,if_pos hs]) hr.1 (by omega)
  ·simp[show(0:Int)≤AV 80 (n-1-ws.length-os.length) o by omega];refine Af (JQ nn h.n 80 _ (by omega) (by omega) (by omega)) rfl ?_;have hr2:=CG nn 80 (AV 80 (n-1-ws.length-os.length) o);simp;exact go _ (by rw[Ni,if_neg hs]) hr2.1 (by omega)
def fN (e:E):Bool:=decide (0≤GK 80 3000 e)
theorem ZQ {e:E} (h:HT e):G.Spec Tryz.prog 5 [eX e] (bv (fN e)):=by
 refine Aj Oj (by simp) fun w0 I0=>?_;unfold Jn;simp;refine Af (V0 e h 80 3000 (by omega) (by omega) (by omega)) rfl ?_;simp;exact Ab rfl
abbrev OB (e:E):Prop:=∀ d:Nat,d≤1000→G.Spec Tryz.prog 6 [eX e,iv d] (bv (AQ d e))
theorem lF {o:OP} {list:Int} (hk:AU list) (hl:o.l.length*56≤140737488355328) (hw:∀ t,t ∈ o.l→Gc t) {H:Hp} (hO:H [0]=⟨1,.cells (iv o.kind::iv o.n::Eg o.l::eL o.e)⟩):∀ (m i:Nat),i+m=o.l.length →
  (((o.l.drop i).all fun t=>Ax 64 (.mk list [] [t]))=true→∀ i' q,Q (.exit 0) ⟨lk [(0,iv list),(4,.pob [0] 1 0),(7,iv i'),(50,bv q)],H⟩)→(((o.l.drop i).all fun t=>Ax 64 (.mk list [] [t]))=false→Q .ret ⟨lk [(6,bv false)],H⟩) →
  LoopC (cx Tryz.prog w0 I0 n0) EC Q ⟨lk [(0,iv list),(4,.pob [0] 1 0),(7,iv i)],H⟩:=by
 intro m;induction m with
 |zero=>
  intro i hi h1 h2;have:i=o.l.length:=by omega
  subst this;refine Ae mixed EC.eq_1 ?_;simp[hO];exact h1 (by simp) _ _
 |succ m ihm=>
  intro i hi h1 h2;have hlt:i<o.l.length:=by omega
  have ed:o.l.drop i=o.l[i]::o.l.drop (i+1):=List.drop_eq_getElem_cons hlt;have ei:=A7 i;have et:List.take 1 (List.drop i (o.l.map tA))=[tX o.l[i]]:=by rw[← List.map_drop,ed,List.map_cons,List.take_succ_cons,List.take_zero,tA_eq]
  have hwt:Gc (.mk list [] [o.l[i]]):=wfT_iff.2 ⟨hk,by simp,by simp,by simp,fun x hx=>by simp at hx;rw[hx];exact hw _ (B0 hlt)⟩;have h01:(i:Int)≤(i:Int)+1:=by omega
  have h02:(i:Int)+1≤o.l.length:=by omega
  rw[ed] at h1 h2;refine Ae mixed EC.eq_1 ?_;have h03:(0:Int)≤(i:Int)+1:=by omega
  simp[hO,hlt,ei,h01,h02,h03,et];refine We rfl ((HZ (.mk list [] [o.l[i]]) hwt 64 (by omega)).soft (by simp[A.softL,A.soft,Jy,NG])) rfl ?_;cases hr:Ax 64 (.mk list [] [o.l[i]]) with
  |false=>
   simp;exact h2 (by simp only[List.all_cons,hr,Bool.false_and])
  |true=>
   simp[ei];exact ihm (i+1) (by omega) (fun hh=>h1 (by simp only[List.all_cons,hr,Bool.true_and];exact hh)) (fun hh=>h2 (by simp only[List.all_cons,hr,Bool.true_and];exact hh))
set_option maxRecDepth 8000 in
theorem dQ {list:Int} (hk:AU list) {o:OP} (h:Uv o) (ih:OB o.e) {d:Nat} (hd:d≤1000):G.Spec Tryz.prog 17 [iv list,oX o,iv d] (bv (D8 d list o)):=by
 have he:=wfE_iff.1 h.e;have hll:=h.ll;refine Aj PR (by simp) fun w0 I0=>?_;unfold J8;rw[FC];by_cases h0:o.kind=0
 ·have h3:¬ o.kind=3:=by omega
  simp[h0];refine AH rfl (fun _=>Sr he) (fun e=>by simp at e;simp[e]) rfl ?_;simp;refine Ai ?_;cases hl:o.l<;>simp[EW,h0,hl]
 ·have h3n:(o.kind<3→¬ o.kind=3):=fun h=>by omega
  simp[h0];refine⟨fun hc=>?_,fun n0 k0 k3=>⟨fun hlt=>?_,fun hge=>?_⟩⟩
  ·have:EW list o=false:=by
    unfold EW;rw[if_neg h0,if_pos (by omega)]
   exact Ai (by simp[this])
  ·have hk3:¬ o.kind=3:=by omega
   have hf:EW list o=((o.l.all fun t=>Ax 64 (.mk list [] [t]))&&!o.l.isEmpty&&J6 o.e):=by
    unfold EW;rw[if_neg h0,if_neg (by omega),if_pos hlt]
   refine lF (o:=o) hk hll h.l (by simp) o.l.length 0 (by omega) (fun hr i' q=>?_) (fun hr=>?_)
   ·simp at hr;simp;refine AH rfl (fun _=>Sr he) (fun e=>by simp at e;simp[e]) rfl ?_;simp;refine Ai ?_;have hr':(o.l.all fun t=>Ax 64 (.mk list [] [t]))=true:=by simpa using hr
    rw[hf,hr'];cases hl:o.l<;>simp[hk3]
   ·simp;refine Ai ?_;simp only[List.drop_zero] at hr;rw[hf,hr];simp
  ·have hk3:o.kind=3:=by omega
   have hf:EW list o=true:=by
    unfold EW;rw[if_neg h0,if_neg (by omega),if_neg (by omega)]
   refine Ao rfl (fun _=>ih d hd) (fun e=>by simp at e;have:=Int.not_le.2 e.2;simp[this,e.1.1,e.1.2]) rfl ?_;have hop:KR list o=(!decide (0<o.l.length)&&!decide (o.e.kind=0)&&!decide (list≤7)):=by
    cases hl:o.l<;>simp[KR,hl]
   simp;refine⟨fun hc=>?_,fun a b c hr=>?_⟩
   ·refine Ai ?_;rw[hop,hf];cases hr:AQ d o.e
    ·simp[hk3]
    ·simp only[hr,Bool.true_eq_false,or_false] at hc;rcases hc with (hc | hc) | hc<;>simp[hk3,hc]
   ·have hl0:¬ 0<o.l.length:=by simp[a]
    have hfit:Jr (Dl [([0],{ u:=1,ob:=Ob.cells (iv o.kind::iv o.n::Eg o.l::eL o.e) })]) (bv (KD list o)) (bv (EW list o&&(!decide (o.kind=3) || KR list o&&AQ d o.e&&KD list o))):=by
     refine Ai ?_;rw[hop,hf,hr];have c':=Int.not_le.2 c;simp[hk3,hl0,b,c']
    by_cases l8:list=8
    ·simp[l8];simpa[l8,KD] using hfit
    ·by_cases k2:o.e.kind=2
     ·simp[l8,k2];simpa[l8,k2,KD] using hfit
     ·by_cases k1:o.e.kind=1
      ·by_cases x1:o.e.old.kind=1
       ·simp[l8,k2,k1,x1];simpa[l8,k2,k1,x1,KD] using hfit
       ·simp[l8,k2,k1,x1];simpa[l8,k2,k1,x1,KD] using hfit
      ·simp[l8,k2,k1];simpa[l8,k2,k1,KD] using hfit
theorem YC {e:E} {d:Nat} (hl:e.words.length*32≤140737488355328) (hw:∀ x,x ∈ e.words→WE.wf x):∀ (m i:Nat) (last:Int) (H:Hp),i+m=e.words.length→H [0]=⟨1,.cells (eL e)⟩ →
  (Bq last (e.words.drop i)=true→∀ i' z q H',H' [0]=⟨1,.cells (eL e)⟩→Q (.exit 0) ⟨lk [(1,iv d),(2,.pob [0] 1 0),(5,iv z),(6,iv i'),(97,bv q)],H'⟩)→(Bq last (e.words.drop i)=false→∀ H',Q .ret ⟨lk [(4,bv false)],H'⟩) →
  LoopC (cx Tryz.prog w0 I0 n0) CV Q ⟨lk [(1,iv d),(2,.pob [0] 1 0),(5,iv last),(6,iv i)],H⟩:=by
 intro m;induction m with
 |zero=>
  intro i last H hi hA h1 h2;have:i=e.words.length:=by omega
  subst this;refine Ae mixed CV.eq_1 ?_;simp[hA];exact h1 (by simp[Bq]) _ _ _ _ hA
 |succ m ihm=>
  intro i last H hi hA h1 h2;have hlt:i<e.words.length:=by omega
  have ed:e.words.drop i=e.words[i]::e.words.drop (i+1):=List.drop_eq_getElem_cons hlt;have ei:=A7 i;obtain⟨w1,w2,w3,w4⟩:=hw _ (B0 hlt);rw[ed,Bq] at h1 h2;generalize hx:e.words[i]=x at *;refine Ae mixed CV.eq_1 ?_;simp[hA,hlt,hx,Aa];refine Ao rfl (fun _=>NQ w3 w2.1 w2.2) (fun e=>by simp only[Bool.or_eq_false_iff] at e;simp[e]) rfl ?_;simp;refine Ao rfl (fun _=>NQ w4 w2.1 w2.2) (fun e=>by simp only[Bool.or_eq_false_iff] at e;simp[e]) rfl ?_;simp;have hok:G2 last x = !(decide (x.at_≤last) || decide (65534<x.at_) || decide (x.mask=0) || !DJ x.old x.mask || !DJ x.new x.mask):=rfl;refine⟨fun hc=>h2 ?_ _,fun a b c d e=>?_⟩
  ·have:G2 last x=false:=by
    rw[hok];rcases hc with (((hc | hc) | hc) | hc) | hc<;>simp[hc]
   simp[this]
  ·have:G2 last x=true:=by
    rw[hok];simp[c,d,e];omega
   simp[this] at h1 h2;simp[ei,Aa];exact ihm (i+1) x.at_ _ (by omega) (by simp[Aa,hA]) (fun hh i' z q H' hh'=>by have:=h1 hh i' z;cases q;exact this.1 H' hh';exact this.2 H' hh') (fun hh=>h2 hh)
theorem Zk {e:E} {d:Nat} (hd:1≤d) (hd1:d≤1000) (hl:e.kids.length*208≤140737488355328) (ih:∀ x,x ∈ e.kids→OB x.e):∀ (m i:Nat) (last:Int) (H:Hp),i+m=e.kids.length→H [0]=⟨1,.cells (eL e)⟩ →
  (Cu (d-1) last (e.kids.drop i)=true→∀ i' z q H',H' [0]=⟨1,.cells (eL e)⟩→Q (.exit 2) ⟨lk [(1,iv d),(2,.pob [0] 1 0),(5,iv z),(8,iv i'),(141,bv q)],H'⟩)→(Cu (d-1) last (e.kids.drop i)=false→∀ H',Q .ret ⟨lk [(4,bv false)],H'⟩) →
  LoopC (cx Tryz.prog w0 I0 n0) CS Q ⟨lk [(1,iv d),(2,.pob [0] 1 0),(5,iv last),(8,iv i)],H⟩:=by
 intro m;induction m with
 |zero=>
  intro i last H hi hA h1 h2;have:i=e.kids.length:=by omega
  subst this;refine Ae mixed CS.eq_1 ?_;simp[hA];exact h1 (by simp) _ _ _ _ hA
 |succ m ihm=>
  intro i last H hi hA h1 h2;have hlt:i<e.kids.length:=by omega
  have ed:e.kids.drop i=e.kids[i]::e.kids.drop (i+1):=List.drop_eq_getElem_cons hlt;have ei:=A7 i;have edd:i64.wrap ((d:Int)-1)=((d-1:Nat):Int):=DU;have ihx:=ih _ (B0 hlt) (d-1) (by omega);rw[ed,EA] at h1 h2;generalize hx:e.kids[i]=x at *;refine Ae mixed CS.eq_1 ?_;simp[hA,hlt,hx,Aa,edd];refine Ao rfl (fun _=>ihx) (fun e=>by simp only[Bool.or_eq_false_iff] at e;simp[e]) rfl ?_;simp;refine⟨fun hc=>h2 ?_ _,fun a b c hr=>?_⟩
  ·rcases hc with ((hc | hc) | hc) | hc<;>simp[hc]
  ·have c':¬ x.e.kind=0:=c;have a':¬ x.at_≤last:=by omega
   have b':¬ 65534<x.at_:=by omega
   simp[a',b',c',hr] at h1 h2;simp[ei,Aa];exact ihm (i+1) x.at_ _ (by omega) (by simp[Aa,hA]) (fun hh i' z q H' hh'=>by have:=h1 hh i' z;cases q;exact this.1 H' hh';exact this.2 H' hh') (fun hh=>h2 hh)
theorem N4 {e:E} {d:Nat} (hd:1≤d) (hd1:d≤1000) (hl:e.ops.length*240≤140737488355328) (hk:AU e.list) (hw:∀ x,x ∈ e.ops→Uv x) (ih:∀ x,x ∈ e.ops→OB x.e) {H:Hp} (hA:H [0]=⟨1,.cells (eL e)⟩):∀ (m i:Nat),i+m=e.ops.length →
  (Ct (d-1) e.list (e.ops.drop i)=true→∀ i' q,Q (.exit 4) ⟨lk [(1,iv d),(2,.pob [0] 1 0),(10,iv i'),(191,bv q)],H⟩)→(Ct (d-1) e.list (e.ops.drop i)=false→Q .ret ⟨lk [(4,bv false)],H⟩) →
  LoopC (cx Tryz.prog w0 I0 n0) CU Q ⟨lk [(1,iv d),(2,.pob [0] 1 0),(10,iv i)],H⟩:=by
 intro m;induction m with
 |zero=>
  intro i hi h1 h2;have:i=e.ops.length:=by omega
  subst this;refine Ae mixed CU.eq_1 ?_;simp[hA];exact h1 (by simp) _ _
 |succ m ihm=>
  intro i hi h1 h2;have hlt:i<e.ops.length:=by omega
  have ed:e.ops.drop i=e.ops[i]::e.ops.drop (i+1):=List.drop_eq_getElem_cons hlt;have ei:=A7 i;have edd:i64.wrap ((d:Int)-1)=((d-1:Nat):Int):=DU;have hop:=dQ hk (hw _ (B0 hlt)) (ih _ (B0 hlt)) (d:=d-1) (by omega);rw[ed,Jz] at h1 h2;refine Ae mixed CU.eq_1 ?_;simp[hA,hlt,edd];refine Af hop rfl ?_;cases hr:D8 (d-1) e.list e.ops[i] with
  |false=>
   simp;exact h2 (by simp[hr])
  |true=>
   simp[ei];exact ihm (i+1) (by omega) (fun hh=>h1 (by simp[hr,hh])) (fun hh=>h2 (by simp[hh]))
theorem fC {d:Nat} {list:Int} {o:OP} (h:D8 d list o=true):0≤o.n∧o.n≤1048576:=by
 rw[FC,Bool.and_eq_true] at h;have h1:=h.1;unfold EW at h1;split at h1
 ·simp at h1;omega
 ·split at h1
  ·cases h1
  ·omega
theorem K6 {d:Nat} {k:Int} {o n:T} {nw nk:Nat} {l:Int} {no:Nat} (hd:¬ d=0) (k0:0≤k) (k3:k≤3) (c1:k ≠ 1→Cv o=true∧Cv n=true) (c2:k ≠ 2→nw+nk=0) (c3:k ≠ 3→l=0∧no=0):Ch d k o n nw nk l no=true:=by
 unfold Ch;have h1:decide (d=0)=false:=by simpa using hd
 have h2:decide (k<0)=false:=by simp;omega
 have h3:decide (k > 3)=false:=by simp;omega
 rw[h1,h2,h3];have a1:(!decide (k=1)&&!(Cv o&&Cv n))=false:=by
  by_cases e:k=1
  ·simp[e]
  ·simp[c1 e]
 have a2:(!decide (k=2)&&decide (nw+nk > 0))=false:=by
  by_cases e:k=2
  ·simp[e]
  ·simp[c2 e]
 have a3:(!decide (k=3)&&(!decide (l=0) || decide (no > 0)))=false:=by
  by_cases e:k=3
  ·simp[e]
  ·simp[c3 e]
 rw[a1,a2,a3];rfl
set_option maxRecDepth 10000 in
theorem Pu:∀ (e:E),HT e→OB e:=by
 refine E.ind fun k o nn ws ks l os ihk iho hw d hd=>?_;have h:=wfE_iff.1 hw;have hwl:=h.wl;have hkl:=h.kl;have hol:=h.ol;simp at hwl hkl hol;refine Aj My (by simp) fun w0 I0=>?_;unfold HP;rw[Gi];by_cases hd0:d=0∨k<0∨3<k
 ·have hb:(decide (d=0) || decide (k<0) || decide (3<k))=true:=by simp;omega
  simp[hb];refine Ai ?_;have:Ch d k o nn ws.length ks.length l os.length=false:=by simp only[Ch,hb,gt_iff_lt,Bool.not_true,Bool.false_and]
  simp[this]
 have hb:(decide (d=0) || decide (k<0) || decide (3<k))=false:=by simp;omega
 have e1:i64.wrap ((ws.length:Int)+ks.length)=(ws.length:Int)+ks.length:=EK;have hd00:¬ d=0:=by omega
 have wz:i64.wrap 0=0:=by decide
 have ihk':∀ x,x ∈ (E.mk k o nn ws ks l os).kids→OB x.e:=fun x hx=>ihk x hx (h.ks x hx).2;have iho':∀ x,x ∈ (E.mk k o nn ws ks l os).ops→OB x.e:=fun x hx=>iho x hx (h.os x hx).e;have fz:∀ (b:Bool) (H:Hp),b=false→Jr H (.v (.bool false)) (bv b):=fun b H hb=>Ai hb.symm;cases hh:Ch d k o nn ws.length ks.length l os.length with
 |false=>
  rw[if_pos rfl];by_cases h1:k=1
  ·subst h1;simp[e1,hd00];refine Ap rfl ?_;simp;refine Ap rfl ?_;by_cases a1:(0:Int)<(ws.length:Int)+ks.length
   ·simp[e1,a1];exact fz _ _ rfl
   ·by_cases a2:l=0
    ·by_cases a3:0<os.length
     ·simp[e1,a1,a2,a3];exact fz _ _ rfl
     ·have:Ch d 1 o nn ws.length ks.length l os.length=true:=K6 hd00 (by omega) (by omega) (fun h=>absurd rfl h) (fun _=>by omega) (fun _=>⟨a2,by omega⟩);rw[hh] at this;cases this
    ·simp[e1,a1,a2];exact fz _ _ rfl
  ·simp[hb,h1,e1];refine AH rfl (fun _=>Gg h.o) (fun _=>rfl) rfl ?_;simp[h1,e1];refine AH rfl (fun _=>Gg h.n) (fun e=>by simp[e]) rfl ?_;cases n1:Cv o with
   |false=>cases n2:Cv nn<;>(simp[n1,n2,e1];exact fz _ _ rfl)
   |true=>
    cases n2:Cv nn with
    |false=>simp[n1,n2,e1];exact fz _ _ rfl
    |true=>
     by_cases k2:k=2
     ·subst k2;by_cases a2:l=0
      ·by_cases a3:0<os.length
       ·simp[e1,a2,a3];exact fz _ _ rfl
       ·have:Ch d 2 o nn ws.length ks.length l os.length=true:=K6 hd00 (by omega) (by omega) (fun _=>⟨n1,n2⟩) (fun h=>absurd rfl h) (fun _=>⟨a2,by omega⟩);rw[hh] at this;cases this
      ·simp[e1,a2];exact fz _ _ rfl
     ·by_cases a1:(0:Int)<(ws.length:Int)+ks.length
      ·simp[e1,k2,a1];exact fz _ _ rfl
      ·by_cases k3:k=3
       ·have:Ch d k o nn ws.length ks.length l os.length=true:=K6 hd00 (by omega) (by omega) (fun _=>⟨n1,n2⟩) (fun _=>by omega) (fun h=>absurd k3 h);rw[hh] at this;cases this
       ·by_cases a2:l=0
        ·by_cases a3:0<os.length
         ·simp[e1,k2,k3,a1,a2,a3];exact fz _ _ rfl
         ·have:Ch d k o nn ws.length ks.length l os.length=true:=K6 hd00 (by omega) (by omega) (fun _=>⟨n1,n2⟩) (fun _=>by omega) (fun _=>⟨a2,by omega⟩);rw[hh] at this;cases this
        ·simp[e1,k2,k3,a1,a2];exact fz _ _ rfl
 |true=>
  rw[if_neg (by simp)];obtain⟨_,k0,k3,c1,c2,c3⟩:=V8 (by rw[hh];simp);by_cases h1:k=1
  ·subst h1;obtain⟨w0',s0⟩:=c2 (by omega);obtain⟨l0,o0⟩:=c3 (by omega);have hws:ws=[]:=List.eq_nil_of_length_eq_zero w0';have hks:ks=[]:=List.eq_nil_of_length_eq_zero s0;have hos:os=[]:=List.eq_nil_of_length_eq_zero o0;subst hws hks hos l0;simp[e1,hd00];refine Ap rfl ?_;simp;refine Ap rfl ?_;simp[wz];refine Af (HZ o h.o 64 (by omega)) rfl ?_;simp;refine AH rfl (fun _=>HZ nn h.n 64 (by omega)) (fun e=>by simp[e]) rfl ?_;simp;exact Ai (by simp[Bool.and_assoc])
  ·obtain⟨rfl,rfl⟩:=c1 h1;have nT:Cv T0=true:=rfl;have cases3:k=2∧l=0∧os=[]∨k=3∧ws=[]∧ks=[]∨k=0∧ws=[]∧ks=[]∧l=0∧os=[]:=by
    by_cases k2:k=2
    ·obtain⟨l0,o0⟩:=c3 (by omega);exact .inl ⟨k2,l0,List.eq_nil_of_length_eq_zero o0⟩
    ·obtain⟨w0',s0⟩:=c2 k2;by_cases k3:k=3
     ·exact .inr (.inl ⟨k3,List.eq_nil_of_length_eq_zero w0',List.eq_nil_of_length_eq_zero s0⟩)
     ·obtain⟨l0,o0⟩:=c3 k3;exact .inr (.inr ⟨by omega,List.eq_nil_of_length_eq_zero w0',List.eq_nil_of_length_eq_zero s0,l0,List.eq_nil_of_length_eq_zero o0⟩)
   rw[if_neg h1];clear c1 c2 c3 hh h1 k0 k3 ihk iho;rcases cases3 with ⟨rfl,rfl,rfl⟩ | ⟨rfl,rfl,rfl⟩ | ⟨rfl,rfl,rfl,rfl,rfl⟩;all_goals
    simp[hd00,e1];refine AH rfl (fun _=>Gg h.o) (fun _=>rfl) rfl ?_;simp[nT,e1];refine AH rfl (fun _=>Gg h.n) (fun e=>by simp[e]) rfl ?_;simp[nT,e1,wz];refine YC (hl:=h.wl) (hw:=h.w) _ 0 (-1) _ (by simp;rfl) (by simp) (fun hr i' z q H' hA=>?_) (fun hr H'=>?_);rotate_left
    ·first
      |(simp[Bq] at hr;done)
      |(simp at hr;simp;exact fz _ _ (by simp[hr]))
    simp at hr;simp;refine Zk (by omega) hd (hl:=h.kl) (ih:=ihk') _ 0 (-1) _ (by simp;rfl) hA (fun hr2 i' z q H' hA=>?_) (fun hr2 H'=>?_);rotate_left
    ·first
      |(simp at hr2;done)
      |(simp at hr2;simp;exact fz _ _ (by simp[hr2]))
    try simp at hr2
   ·simp[hA];refine N4 (by omega) hd (hl:=h.ol) h.l h.os iho' hA _ 0 (by simp;rfl) (fun hr3 i' q=>?_) (fun hr3=>?_);rotate_left
    ·simp at hr3
    simp[hA];refine Af (Iw (e:=.mk 2 T0 T0 ws ks 0 []) h.ol (fun x hx=>by simp at hx)) rfl ?_;simp;refine Ai ?_;simp[hr,hr2,A2]
   ·by_cases hl:l<2∨9<l
    ·have hl':(decide (l<2) || decide (9<l))=true:=by simpa using hl
     simp[hA,hl'];exact fz _ _ (by simp[hr];intro a b;omega)
    ·have hl':(decide (l<2) || decide (9<l))=false:=by simpa using hl
     simp[hA,hl'];refine N4 (by omega) hd (hl:=h.ol) h.l h.os iho' hA _ 0 (by simp;rfl) (fun hr3 i' q=>?_) (fun hr3=>?_);rotate_left
     ·simp at hr3;simp;exact fz _ _ (by simp[hr3])
     simp at hr3;simp[hA];refine Af (Iw (e:=.mk 3 T0 T0 [] [] l os) h.ol (fun x hx=>⟨(fC (rightOs_all.1 hr3 x hx)).1,(fC (rightOs_all.1 hr3 x hx)).2,(h.os x hx).ll⟩)) rfl ?_;simp;refine Ai ?_;have hl2:¬ (l<2∨l > 9):=hl;simp[hr,hr3,hl2];intro _ _;omega
   ·simp[hA];refine N4 (by omega) hd (hl:=h.ol) h.l h.os iho' hA _ 0 (by simp;rfl) (fun hr3 i' q=>?_) (fun hr3=>?_);rotate_left
    ·simp at hr3
    simp[hA];refine Af (Iw (e:=.mk 0 T0 T0 [] [] 0 []) h.ol (fun x hx=>by simp at hx)) rfl ?_;simp;refine Ai ?_;simp[Bq,A2]
def Uc:Nat→Nat→Nat→Nat→Nat
 |0,_,_,_=>0
 |k+1,a,b,m=>(if m % 2=1 then b % 256 else a % 256)+256*Uc k (a / 256) (b / 256) (m / 2)
def CN:Nat→Nat→Nat
 |0,_=>0
 |k+1,m=>(if m % 2=1 then 255 else 0)+256*CN k (m / 2)
theorem Qm:∀ k m,CN k m<256 ^ k
 |0,m=>by simp[CN]
 |k+1,m=>by
  have:=Qm k (m / 2);simp only[CN,Nat.pow_succ];split<;>omega
theorem SK:∀ k a b m,a<256 ^ k→b<256 ^ k→(a &&& (256 ^ k-1-CN k m)) ||| (b &&& CN k m)=Uc k a b m
 |0,a,b,m,ha,hb=>by
  simp at ha hb;subst ha hb;simp[Uc,CN]
 |k+1,a,b,m,ha,hb=>by
  have hw:=Qm k (m / 2);rw[Nat.pow_succ] at ha hb;have ih:=SK k (a / 256) (b / 256) (m / 2) (by omega) (by omega);have p0:0<256 ^ k:=Nat.pow_pos (by decide);generalize hx:(a &&& (256 ^ (k+1)-1-CN (k+1) m)) ||| (b &&& CN (k+1) m)=x;have d1:CN (k+1) m / 256=CN k (m / 2):=by simp only[CN];split<;>omega
  have d2:(256 ^ (k+1)-1-CN (k+1) m) / 256=256 ^ k-1-CN k (m / 2):=by simp only[CN,Nat.pow_succ];split<;>omega
  have m1:CN (k+1) m % 256=if m % 2=1 then 255 else 0:=by simp only[CN];split<;>omega
  have m2:(256 ^ (k+1)-1-CN (k+1) m) % 256=if m % 2=1 then 0 else 255:=by simp only[CN,Nat.pow_succ];split<;>omega
  have e1:x / 256=Uc k (a / 256) (b / 256) (m / 2):=by
   have q1:=@Nat.or_div_two_pow (a &&& (256 ^ (k+1)-1-CN (k+1) m)) (b &&& CN (k+1) m) 8;have q2:=@Nat.and_div_two_pow a (256 ^ (k+1)-1-CN (k+1) m) 8;have q3:=@Nat.and_div_two_pow b (CN (k+1) m) 8;have c:(2:Nat) ^ 8=256:=rfl;rw[q2,q3,c,d1,d2,hx] at q1;rw[q1,ih]
  have e2:x % 256=if m % 2=1 then b % 256 else a % 256:=by
   have h:x % 2 ^ 8=(a % 2 ^ 8 &&& (256 ^ (k+1)-1-CN (k+1) m) % 2 ^ 8) ||| (b % 2 ^ 8 &&& CN (k+1) m % 2 ^ 8):=by
    rw[← hx,Nat.or_mod_two_pow,Nat.and_mod_two_pow,Nat.and_mod_two_pow]
   have c:(2:Nat) ^ 8=256:=rfl;rw[c,m1,m2] at h;rw[h];have h255:(255:Nat)=2 ^ 8-1:=rfl;split
   ·rw[h255,Nat.and_two_pow_sub_one_eq_mod];simp
   ·rw[h255,Nat.and_two_pow_sub_one_eq_mod];simp
  simp only[Uc];omega
theorem U5:∀ (k:Nat) (a b mask:Int),0≤a→0≤b→0≤mask→TJ ((List.range k).map fun i=>if D3 mask i=true then (CI k b).getD i 0 else (CI k a).getD i 0)=(Uc k a.toNat b.toNat mask.toNat:Nat)
 |0,a,b,mask,_,_,_=>by simp[TJ,Uc]
 |k+1,a,b,mask,ha,hb,hm=>by
  have ih:=U5 k (a / 256) (b / 256) (mask / 2) (by omega) (by omega) (by omega);have e1:(a / 256).toNat=a.toNat / 256:=by omega
  have e2:(b / 256).toNat=b.toNat / 256:=by omega
  have e3:(mask / 2).toNat=mask.toNat / 2:=by omega
  rw[e1,e2,e3] at ih;rw[List.range_succ_eq_map,List.map_cons,List.map_map,TJ];have h:(List.range k).map ((fun i=>if D3 mask i=true then (CI (k+1) b).getD i 0 else (CI (k+1) a).getD i 0) ∘ Nat.succ)=(List.range k).map fun i=>if D3 (mask / 2) i=true then (CI k (b / 256)).getD i 0 else (CI k (a / 256)).getD i 0:=by
   refine List.map_congr_left fun i _=>?_;have hn:D3 mask (i+1)=D3 (mask / 2) i:=by
    unfold D3;have:mask / 2 ^ (i+1)=mask / 2 / 2 ^ i:=by
     rw[Int.ediv_ediv_of_nonneg (by decide),Int.pow_succ,Int.mul_comm]
    rw[this]
   simp[CI,hn]
  rw[h,ih];have h0:(D3 mask 0=true)=(mask.toNat % 2=1):=by
   simp[D3];omega
  simp only[h0,Uc,CI,List.getD_cons_zero];split<;>omega
theorem av {a b mask:Int} (ha:D5 a) (hb:D5 b) (h0:0≤mask):Ve a b mask=(Uc 8 a.toNat b.toNat mask.toNat:Nat):=by
 rw[← U5 8 a b mask ha.1 hb.1 h0];unfold Ve JY B3;rw[List.drop_eq_nil_of_le (by simp),List.append_nil]
def wS (mask:Int):Nat→Int
 |0=>0
 |i+1=>if bits .and .u8 (mask / 2 ^ min i 8) 1=1 then bits .or .u64 (wS mask i) (u64.wrap (255*2 ^ min (8*i) 64)) else wS mask i
theorem iQ:∀ m:Nat,m<256→wS m 8=(CN 8 m:Nat):=by decide +kernel
theorem Zy {mask:Int} (hq:∀ q,Q (.exit 0) ⟨lk [(0,u8 mask),(3,uv (wS mask 8)),(5,iv 8),(6,bv q)],Dl []⟩) :
  ∀ (j i:Nat),i+j=8→LoopC (cx Tryz.prog w0 I0 n0) Hg Q ⟨lk [(0,u8 mask),(3,uv (wS mask i)),(5,iv i)],Dl []⟩:=by
 intro j;induction j with
 |zero=>
  intro i hi;have:i=8:=by omega
  subst this;refine Ae mixed Hg.eq_1 ?_;simp;exact hq _
 |succ j ih=>
  intro i hi;refine Ae mixed Hg.eq_1 ?_;have hlt:i<8:=by omega
  have hlt2:(i:Int)<8:=by omega
  have e8:i64.wrap (8*(i:Int))=((8*i:Nat):Int):=(Bs (by omega) (by omega)).trans (by omega);have ei:=A7 i;have b8:IntKind.u8.bits=8:=rfl;have b64:u64.bits=64:=rfl;have hs:=ih (i+1) (by omega);rw[wS] at hs;have e9:(8*(i:Int)).toNat=8*i:=by omega
  simp[hlt,hlt2,e8,ei,b8,b64,e9];refine⟨fun hc=>⟨by omega,?_⟩,fun hc=>?_⟩
  ·rw[if_pos hc] at hs;exact hs
  ·rw[if_neg hc] at hs;exact hs
theorem Rp {mask:Int} (h0:0≤mask) (h1:mask<256):G.Spec Tryz.prog 104 [u8 mask] (uv (CN 8 mask.toNat:Nat)):=by
 refine Aj VR (by simp) fun w0 I0=>?_;unfold PF;simp;obtain⟨m,rfl⟩:=Int.eq_ofNat_of_zero_le h0;refine Zy (fun q=>?_) 8 0 rfl;simp;rw[iQ m (by omega)];exact Ab rfl
theorem OK {x:Nat} (h:x<2 ^ 64):(BitVec.ofInt 64 (x:Int)).toNat=x:=by
 rw[BitVec.toNat_ofInt];omega
theorem i6 {x y:Nat} (hx:x<2 ^ 64) (hy:y<2 ^ 64):bits .and .u64 x y=(x &&& y:Nat):=by
 have h:=Nat.lt_of_le_of_lt (Nat.and_le_left (n:=x) (m:=y)) hx;show u64.wrap ((BitVec.ofInt 64 x &&& BitVec.ofInt 64 y).toNat:Nat)=_;rw[BitVec.toNat_and,OK hx,OK hy];exact AX (by omega) (by omega)
theorem oJ {x y:Nat} (hx:x<2 ^ 64) (hy:y<2 ^ 64):bits .or .u64 x y=(x ||| y:Nat):=by
 have h:=Nat.or_lt_two_pow hx hy;show u64.wrap ((BitVec.ofInt 64 x ||| BitVec.ofInt 64 y).toNat:Nat)=_;rw[BitVec.toNat_or,OK hx,OK hy];exact AX (by omega) (by omega)
theorem fh {x y:Nat} (hx:x<2 ^ 64) (hy:y<2 ^ 64):bits .andNot .u64 x y=(x &&& (256 ^ 8-1-y):Nat):=by
 have h:=Nat.lt_of_le_of_lt (Nat.and_le_left (n:=x) (m:=256 ^ 8-1-y)) hx;show u64.wrap ((BitVec.ofInt 64 x &&& ~~~ BitVec.ofInt 64 y).toNat:Nat)=_;rw[BitVec.toNat_and,BitVec.toNat_not,OK hx,OK hy];have e:(2:Nat) ^ 64-1-y=256 ^ 8-1-y:=rfl;rw[e];exact AX (by omega) (by omega)
theorem SZ {a b mask:Int} (ha:D5 a) (hb:D5 b) (h0:0≤mask) (h1:mask<256):G.Spec Tryz.prog 88 [uv a,uv b,u8 mask] (uv (Ve a b mask)):=by
 refine Aj Xk (by simp) fun w0 I0=>?_;unfold QL;simp;refine Af (Rp h0 h1) (by simp) ?_;simp;refine Af (Rp h0 h1) (by simp) ?_;simp;refine Qa ?_;rw[av ha hb h0];obtain⟨x,rfl⟩:=Int.eq_ofNat_of_zero_le ha.1;obtain⟨y,rfl⟩:=Int.eq_ofNat_of_zero_le hb.1;have hx:x<2 ^ 64:=by have:=ha.2;omega
 have hy:y<2 ^ 64:=by have:=hb.2;omega
 have hw:CN 8 mask.toNat<2 ^ 64:=Qm 8 _;rw[fh hx hw,i6 hy hw,oJ (Nat.lt_of_le_of_lt Nat.and_le_left hx) (Nat.lt_of_le_of_lt Nat.and_le_left hy)];have:=SK 8 x y mask.toNat hx hy;simp only[Int.toNat_natCast];rw[← this]
theorem Qq {t:T} (h:Gc t):G.Spec Tryz.prog 86 [tX t] (bv (Cv t)):=by
 have hw:=(wfT_iff.1 h).wl;have hk:=(wfT_iff.1 h).kl;refine Aj R8 (by simp) fun w0 I0=>?_;unfold LL;simp;have e:i64.wrap ((t.words.length:Int)+t.kids.length)=(t.words.length:Int)+t.kids.length:=EK;simp[e];refine Ai ?_;rw[Bool.eq_iff_iff];simp[Cv,List.isEmpty_iff,← List.length_eq_zero_iff];omega
def MN (k:Int) (o n:T) (nw nk:Nat) (l:Int) (no:Nat):Bool:=!(!decide (k=1)&&!(Cv o&&Cv n))&&!(!decide (k=2)&&decide (0<nw+nk))&&(decide (k=3) || decide (l=0)&&decide (no=0))
def Ys (e:E):Bool:=MN e.kind e.old e.new e.words.length e.kids.length e.list e.ops.length
theorem OT {d:Nat} {k:Int} {o n:T} {nw nk:Nat} {l:Int} {no:Nat}:Ch d k o n nw nk l no=(!(decide (d=0) || decide (k<0) || decide (k > 3))&&MN k o n nw nk l no):=by
 rw[Bool.eq_iff_iff,headOk_iff];unfold MN;simp only[Bool.and_eq_true,Bool.not_eq_true',Bool.or_eq_false_iff,Bool.or_eq_true,Bool.and_eq_false_iff,decide_eq_false_iff_not,Bool.not_eq_false',decide_eq_true_eq];constructor
 ·rintro⟨h1,h2,h3,h4,h5,h6⟩;refine⟨⟨⟨h1,by omega⟩,by omega⟩,⟨?_,?_⟩,?_⟩
  ·by_cases hk:k=1
   ·exact .inl hk
   ·exact .inr (h4 hk)
  ·by_cases hk:k=2
   ·exact .inl hk
   ·exact .inr (by have:=h5 hk;omega)
  ·by_cases hk:k=3
   ·exact .inl hk
   ·exact .inr (h6 hk)
 ·rintro⟨⟨⟨h1,h2⟩,h3⟩,⟨h4,h5⟩,h6⟩;refine⟨h1,by omega,by omega,fun hk=>?_,fun hk=>?_,fun hk=>?_⟩
  ·rcases h4 with h4 | h4
   ·exact absurd h4 hk
   ·exact h4
  ·rcases h5 with h5 | h5
   ·exact absurd h5 hk
   ·omega
  ·rcases h6 with h6 | h6
   ·exact absurd h6 hk
   ·exact h6
set_option maxRecDepth 8000 in
theorem Wz {e:E} (h:qC e):G.Spec Tryz.prog 66 [eX e] (bv (Ys e)):=by
 have hwl:=h.wl;have hkl:=h.kl;have hol:=h.ol;have e1:i64.wrap ((e.words.length:Int)+e.kids.length)=(e.words.length:Int)+e.kids.length:=EK;obtain⟨R,hR⟩:∃ R,R=Ys e:=⟨_,rfl⟩;rw[← hR];have c2:(decide (0<(e.words.length:Int)+e.kids.length))=decide (0<e.words.length+e.kids.length):=by rw[Bool.eq_iff_iff];simp;omega
 refine Aj Wc (by simp) fun w0 I0=>?_;unfold Px;unfold Ys at hR;have cl:decide (e.ops.length=0)=decide (e.ops=[]):=by rw[Bool.eq_iff_iff];simp
 by_cases k1:e.kind=1
 ·have k2:¬ e.kind=2:=by omega
  have k3:¬ e.kind=3:=by omega
  have hR':R=(!decide (0<e.words.length+e.kids.length)&&(decide (e.list=0)&&decide (e.ops=[]))):=by
   rw[hR,← cl];simp[MN,k1]
  simp[k1];rw[FZ];simp;rw[FZ];simp;simp[e1,k2,k3];refine⟨fun hc=>?_,fun hc=>?_⟩
  ·have a1:0<e.words.length+e.kids.length:=by omega
   exact Ai (by rw[hR'];simp[a1])
  ·have a1:¬ 0<e.words.length+e.kids.length:=by omega
   exact Ai (by rw[hR'];simp[a1])
 ·simp[k1];rw[FZ];simp;refine Qv rfl (Qq h.o) rfl ?_;cases n1:Cv e.old with
  |false=>
   simp;rw[FZ];simp;exact Ai (by rw[hR];simp[MN,k1,n1])
  |true=>
   simp;rw[FZ];simp;refine Qv rfl (Qq h.n) rfl ?_;cases n2:Cv e.new with
   |false=>
    simp;exact Ai (by rw[hR];simp[MN,k1,n1,n2])
   |true=>
    simp;have hR':R=(!(!decide (e.kind=2)&&decide (0<e.words.length+e.kids.length))&&(decide (e.kind=3) || decide (e.list=0)&&decide (e.ops=[]))):=by
     rw[hR,← cl];simp[MN,k1,n1,n2]
    by_cases k2:e.kind=2
    ·have k3:¬ e.kind=3:=by omega
     simp[e1,k2];exact Ai (by rw[hR'];simp[k2])
    ·by_cases k3:e.kind=3
     ·simp[e1,k3];refine⟨fun hc=>?_,fun hc=>?_⟩
      ·have a1:0<e.words.length+e.kids.length:=by omega
       exact Ai (by rw[hR'];simp[a1,k2])
      ·have a1:¬ 0<e.words.length+e.kids.length:=by omega
       exact Ai (by rw[hR'];simp[a1,k3])
     ·simp[e1,k2,k3];refine⟨fun hc=>?_,fun hc=>?_⟩
      ·have a1:0<e.words.length+e.kids.length:=by omega
       exact Ai (by rw[hR'];simp[a1,k2])
      ·have a1:¬ 0<e.words.length+e.kids.length:=by omega
       exact Ai (by rw[hR'];simp[a1,k3,k2])
theorem PD {t:T} (h:Gc t):G.Spec Tryz.prog 67 [tX t] (bv (!decide (t.kind=10)&&Ax 64 t)):=by
 refine Aj TH (by simp) fun w0 I0=>?_;unfold Nq;by_cases k1:t.kind=10
 ·simp[k1];refine Ap rfl ?_;simp;exact Ab rfl
 ·simp[k1];refine AH rfl (fun _=>J1 h) (fun _=>rfl) rfl ?_;simp;exact Ab rfl
theorem Si {Q':Exit→Sta→Prop} {x:WE} (hw:WE.wf x) {a b c d:A} {u:Nat} {H:Hp} (hH:H [0]=⟨u,.cells [iv x.at_,u8 x.mask,uv x.old,uv x.new]⟩)
  (h1:(DJ x.old x.mask&&DJ x.new x.mask)=true→Q' .normal ⟨lk [(0,a),(5,b),(6,c),(7,d),(53,bv false)],H⟩) (h2:(DJ x.old x.mask&&DJ x.new x.mask)=false→Q' .ret ⟨lk [(2,bv false)],H⟩) :
  WPC (cx Tryz.prog w0 I0 n0) IG Q' ⟨lk [(0,a),(4,.pob [0] u 0),(5,b),(6,c),(7,d)],H⟩:=by
 obtain⟨w1,w2,w3,w4⟩:=hw;have z:=Q5 x.old x.mask;have z2:=Q5 x.new x.mask;have u0:D5 0:=⟨by omega,by omega⟩;rw[IG.eq_1];simp[hH];refine Af (SZ w3 u0 w2.1 w2.2) rfl ?_;by_cases m1:Ve x.old 0 x.mask=0
 ·rw[m1] at z ⊢;simp[hH];refine Ao rfl (fun _=>SZ w4 u0 w2.1 w2.2) (fun _=>rfl) rfl ?_;by_cases m2:Ve x.new 0 x.mask=0
  ·rw[m2] at z2 ⊢;simp;exact h1 (by rw[← z,← z2];simp)
  ·simp[m2];exact h2 (by rw[← z,← z2];simp[m2])
 ·simp[m1];refine Ap rfl ?_;simp;exact h2 (by rw[← z];simp[m1])
theorem Zc {ws:List WE} (hl:ws.length*32≤140737488355328) (hw:∀ x,x ∈ ws→WE.wf x):∀ (m i:Nat) (last:Int) (H:Hp),i+m=ws.length→-1≤last→(i=0→last = -1)→(∀ h:0<i∧i≤ws.length,ws[i-1].at_=last) →
  (Bq last (ws.drop i)=true→∀ q H',Q (.exit 0) ⟨lk [(0,aV ws),(5,aV ws),(6,iv ws.length),(7,iv ws.length),(8,bv q)],H'⟩)→(Bq last (ws.drop i)=false→∀ H',Q .ret ⟨lk [(2,bv false)],H'⟩) →
  LoopC (cx Tryz.prog w0 I0 n0) GC Q ⟨lk [(0,aV ws),(5,aV ws),(6,iv ws.length),(7,iv i)],H⟩:=by
 intro m;induction m with
 |zero=>
  intro i last H hi hm h0 hp h1 h2;have:i=ws.length:=by omega
  subst this;refine Ae mixed GC.eq_1 ?_;simp;exact h1 (by simp[Bq]) _ _
 |succ m ihm=>
  intro i last H hi hm h0 hp h1 h2;have hlt:i<ws.length:=by omega
  have ed:ws.drop i=ws[i]::ws.drop (i+1):=List.drop_eq_getElem_cons hlt;have ei:=A7 i;obtain⟨w1,w2,w3,w4⟩:=hw _ (B0 hlt);have next:=fun H' (hr:G2 last ws[i]=true)=>ihm (i+1) ws[i].at_ H' (by omega) (by
   simp[G2] at hr;omega) (fun h=>by omega) (fun h=>rfl) (fun hh=>h1 (by rw[ed,Bq,hr,hh];rfl)) (fun hh=>h2 (by rw[ed,Bq,hr,hh];rfl))
  have bad:G2 last ws[i]=false→∀ H',Q .ret ⟨lk [(2,bv false)],H'⟩:=fun hr=>h2 (by rw[ed,Bq,hr];rfl);clear h1 h2 ed ihm;generalize hx:ws[i]=x at *;have hok:G2 last x = !(decide (x.at_≤last) || decide (65534<x.at_) || decide (x.mask=0) || !DJ x.old x.mask || !DJ x.new x.mask):=rfl;refine Ae mixed GC.eq_1 ?_;by_cases hA:x.at_<0∨65535≤x.at_∨x.at_≤last∨x.mask=0
  ·have hb:G2 last x=false:=by
    rw[hok];rcases hA with h | h | h | h
    ·have:x.at_≤last:=by omega
     simp[this]
    ·have:65534<x.at_:=by omega
     simp[this]
    ·simp[h]
    ·simp[h]
   by_cases i0:i=0
   ·have hl1:=h0 i0;subst i0;have:(decide (x.at_<0) || decide (65535≤x.at_) || decide (x.mask=0))=true:=by simp;omega
    simp[hx,hlt,Aa,this];exact bad hb _
   ·have i1:0<i:=by omega
    have hpi:=hp ⟨i1,by omega⟩;have em:i64.wrap ((i:Int)-1)=((i-1:Nat):Int):=DU;have:(decide (x.at_<0) || decide (65535≤x.at_) || decide (x.at_≤last) || decide (x.mask=0))=true:=by simp;omega
    have hlt1:i-1<ws.length:=by omega
    simp[hx,hlt,i1,em,hlt1,hpi,Aa,this];exact bad hb _
  ·have c1:¬ x.at_<0:=by omega
   have c2:¬ 65535≤x.at_:=by omega
   have c3:¬ x.at_≤last:=by omega
   have c4:¬ x.mask=0:=by omega
   have c2':¬ 65534<x.at_:=by omega
   have hok':G2 last x=(DJ x.old x.mask&&DJ x.new x.mask):=by rw[hok];simp[c2',c3,c4]
   have wfx:WE.wf x:=⟨w1,w2,w3,w4⟩;by_cases i0:i=0
   ·subst i0;simp[hx,hlt,Aa,c1,c2,c4];refine AA (Si wfx (by simp[Aa]) (fun hr=>?_) (fun hr=>?_))
    ·simp at ei;simp[ei];exact next _ (by rw[hok',hr])
    ·simp;exact bad (by rw[hok',hr]) _
   ·have i1:0<i:=by omega
    have hpi:=hp ⟨i1,by omega⟩;have em:i64.wrap ((i:Int)-1)=((i-1:Nat):Int):=DU;have hlt1:i-1<ws.length:=by omega
    simp[hx,hlt,i1,em,hlt1,hpi,Aa,c1,c2,c3,c4];refine AA (Si wfx (by simp[Aa]) (fun hr=>?_) (fun hr=>?_))
    ·simp[ei];exact next _ (by rw[hok',hr])
    ·simp;exact bad (by rw[hok',hr]) _
theorem VM {ws:List WE} (hl:ws.length*32≤140737488355328) (hw:∀ x,x ∈ ws→WE.wf x):G.Spec Tryz.prog 68 [aV ws] (bv (Bq (-1) ws)):=by
 refine Aj Ts (by simp) fun w0 I0=>?_;unfold Nz;simp;refine Zc hl hw ws.length 0 (-1) _ (by simp) (by omega) (fun _=>rfl) (fun h=>by omega) (fun hr q H'=>?_) (fun hr H'=>?_)
 ·simp;exact Ai (by simpa using hr.symm)
 ·simp;exact Ai (by simpa using hr.symm)
abbrev JM (e:E):Prop:=∀ d:Nat,d≤1000→G.Spec Tryz.prog 41 [eX e,iv d] (bv (AQ d e))
theorem cz {ks:List KE} {d:Nat} (hd:d≤1000) (hl:ks.length*208≤140737488355328) (ih:∀ x,x ∈ ks→JM x.e):∀ (m i:Nat) (last:Int) (H:Hp),i+m=ks.length→-1≤last→(i=0→last = -1)→(∀ h:0<i∧i≤ks.length,ks[i-1].at_=last) →
  (Cu d last (ks.drop i)=true→∀ q H',Q (.exit 0) ⟨lk [(0,eM ks),(1,iv d),(7,eM ks),(8,iv ks.length),(9,iv ks.length),(10,bv q)],H'⟩)→(Cu d last (ks.drop i)=false→∀ H',Q .ret ⟨lk [(4,bv false)],H'⟩) →
  LoopC (cx Tryz.prog w0 I0 n0) Ha Q ⟨lk [(0,eM ks),(1,iv d),(7,eM ks),(8,iv ks.length),(9,iv i)],H⟩:=by
 intro m;induction m with
 |zero=>
  intro i last H hi hm h0 hp h1 h2;have:i=ks.length:=by omega
  subst this;refine Ae mixed Ha.eq_1 ?_;simp;exact h1 (by simp) _ _
 |succ m ihm=>
  intro i last H hi hm h0 hp h1 h2;have hlt:i<ks.length:=by omega
  have ed:ks.drop i=ks[i]::ks.drop (i+1):=List.drop_eq_getElem_cons hlt;have ei:=A7 i;have ihx:=ih _ (B0 hlt) d hd;have next:=fun H' (ha:last<ks[i].at_∧ks[i].at_≤65534) (hk:¬ ks[i].e.kind=0) (hr:AQ d ks[i].e=true)=>ihm (i+1) ks[i].at_ H' (by omega) (by omega) (fun h=>by omega) (fun h=>rfl)
   (fun hh=>h1 (by rw[ed,EA,hr,hh];simp[hk];omega)) (fun hh=>h2 (by rw[ed,EA,hr,hh];simp))
  have bad:(ks[i].at_≤last∨65534<ks[i].at_∨ks[i].e.kind=0∨AQ d ks[i].e=false)→∀ H',Q .ret ⟨lk [(4,bv false)],H'⟩:=fun hr=>h2 (by
   rw[ed,EA];rcases hr with h | h | h | h<;>simp[h])
  clear h1 h2 ed ihm;generalize hx:ks[i]=x at *;refine Ae mixed Ha.eq_1 ?_;by_cases hA:x.at_<0∨65535≤x.at_∨x.at_≤last∨x.e.kind=0
  ·have hb:=bad (by omega);by_cases i0:i=0
   ·have hl1:=h0 i0;subst i0;have:(decide (x.at_<0) || decide (65535≤x.at_) || decide (x.e.kind=0))=true:=by simp;omega
    simp[hx,hlt,Aa,this];refine Ap rfl ?_;simp[this];exact hb _
   ·have i1:0<i:=by omega
    have hpi:=hp ⟨i1,by omega⟩;have em:i64.wrap ((i:Int)-1)=((i-1:Nat):Int):=DU;have:(decide (x.at_<0) || decide (65535≤x.at_) || decide (x.at_≤last) || decide (x.e.kind=0))=true:=by simp;omega
    have hlt1:i-1<ks.length:=by omega
    simp[hx,hlt,i1,em,hlt1,hpi,Aa,this];refine Ap rfl ?_;simp[this];exact hb _
  ·have c1:¬ x.at_<0:=by omega
   have c2:¬ 65535≤x.at_:=by omega
   have c3:¬ x.at_≤last:=by omega
   have c4:¬ x.e.kind=0:=by omega
   by_cases i0:i=0
   ·subst i0;simp[hx,hlt,Aa,c1,c2,c4];refine Ao rfl (fun _=>ihx) (fun _=>rfl) rfl ?_;cases hr:AQ d x.e with
    |false=>simp;exact bad (.inr (.inr (.inr hr))) _
    |true=>
     simp at ei;simp[ei];exact next _ (by omega) c4 hr
   ·have i1:0<i:=by omega
    have hpi:=hp ⟨i1,by omega⟩;have em:i64.wrap ((i:Int)-1)=((i-1:Nat):Int):=DU;have hlt1:i-1<ks.length:=by omega
    simp[hx,hlt,i1,em,hlt1,hpi,Aa,c1,c2,c3,c4];refine Ao rfl (fun _=>ihx) (fun _=>rfl) rfl ?_;cases hr:AQ d x.e with
    |false=>simp;exact bad (.inr (.inr (.inr hr))) _
    |true=>simp[ei];exact next _ (by omega) c4 hr
theorem WH {ks:List KE} {d:Nat} (hd:d≤1000) (hl:ks.length*208≤140737488355328) (ih:∀ x,x ∈ ks→JM x.e):G.Spec Tryz.prog 69 [eM ks,iv d] (bv (Cu d (-1) ks)):=by
 refine Aj UX (by simp) fun w0 I0=>?_;unfold PA;simp;refine cz hd hl ih ks.length 0 (-1) _ (by simp) (by omega) (fun _=>rfl) (fun h=>by omega) (fun hr q H'=>?_) (fun hr H'=>?_)
 ·simp;exact Ai (by simpa using hr.symm)
 ·simp;exact Ai (by simpa using hr.symm)
theorem jw {list:Int} (hk:AU list) {t:T} (h:Gc t):Gc (.mk list [] [t]):=wfT_iff.2 ⟨hk,by simp,by simp,by simp,fun x hx=>by simp at hx;rw[hx];exact h⟩
theorem Ww {list:Int} (hk:AU list) {t:T} (h:Gc t):G.Spec Tryz.prog 107 [iv list,tX t] (bv (Ax 64 (.mk list [] [t]))):=by
 refine Aj XJ (by simp) fun w0 I0=>?_;unfold Qi;simp;refine We rfl ((J1 (jw hk h)).soft (by simp[A.softL,A.soft,Jy,NG])) rfl ?_;simp;exact Ab rfl
def JI (list:Int) (e:E):Bool:=!(Cc list || decide (e.kind=0))&&((decide (list=8) || decide (e.kind=2)) || (decide (e.kind=1)&&decide (e.old.kind=1)&&decide (e.new.kind=1)))
set_option maxRecDepth 8000 in
theorem Tv (list:Int) (e:E):G.Spec Tryz.prog 108 [iv list,eX e] (bv (JI list e)):=by
 obtain⟨R,hR⟩:∃ R,R=JI list e:=⟨_,rfl⟩;rw[← hR];unfold JI at hR;refine Aj RM (by simp) fun w0 I0=>?_;unfold LO;simp;refine Af (SY list) rfl ?_;cases hd:Cc list with
 |true=>simp;exact Ai (by rw[hR];simp[hd])
 |false=>
  by_cases k0:e.kind=0
  ·simp[k0];exact Ai (by rw[hR];simp[k0])
  ·by_cases l8:list=8
   ·simp[k0,l8];exact Ai (by rw[hR];simp[hd,k0,l8,Cc])
   ·by_cases k2:e.kind=2
    ·simp[l8,k2];exact Ai (by rw[hR];simp[hd,k2])
    ·by_cases k1:e.kind=1
     ·simp[l8,k1];exact Ai (by rw[hR];simp[hd,k1,l8])
     ·simp[k0,l8,k2,k1];exact Ai (by rw[hR];simp[hd,k0,k1,k2,l8])
abbrev aw (list:Int):A:=.pim [iv list]
theorem Wu {list:Int} (hk:AU list) {t:T} (h:Gc t):G.Spec Tryz.prog 106 [tX t,aw list] (bv (!Ax 64 (.mk list [] [t]))):=by
 refine Aj U2 (by simp) fun w0 I0=>?_;unfold Pw;simp;refine Af (Ww hk h) rfl ?_;simp;exact Ab rfl
def XB (p:T→Bool):Nat→List T→Int
 |_,[]=>-1
 |i,t::l=>if p t=true then i else XB p (i+1) l
theorem UI (p:T→Bool):∀ (l:List T) (i:Nat),decide (0≤XB p i l)=l.any p
 |[],i=>rfl
 |t::l,i=>by
  rw[XB,List.any_cons];cases h:p t with
  |true=>simp
  |false=>simp only[Bool.false_eq_true,if_false,Bool.false_or];exact UI p l (i+1)
abbrev pG (list:Int):A:=.fnc 106 [] [aw list]
theorem bm {list:Int} (hk:AU list) {l:List T} (hl:l.length*56≤140737488355328) (hw:∀ t,t ∈ l→Gc t) {R:Int} {H:Hp}:∀ (m i:Nat),i+m=l.length→R=XB (fun t=>!Ax 64 (.mk list [] [t])) i (l.drop i) →
  (R = -1→∀ q,Q (.exit 0) ⟨lk [(0,Eg l),(1,pG list),(7,iv l.length),(8,iv l.length),(9,bv q)],H⟩)→(Q .ret ⟨lk [(4,iv R)],H⟩) →
  LoopC (cx Tryz.prog w0 I0 n0) A6 Q ⟨lk [(0,Eg l),(1,pG list),(7,iv l.length),(8,iv i)],H⟩:=by
 intro m;induction m with
 |zero=>
  intro i hi hR h1 h2;have:i=l.length:=by omega
  subst this;refine Ae mixed A6.eq_1 ?_;simp;exact h1 (by rw[hR];simp[XB]) _
 |succ m ih=>
  intro i hi hR h1 h2;have hlt:i<l.length:=by omega
  have ed:l.drop i=l[i]::l.drop (i+1):=List.drop_eq_getElem_cons hlt;have ei:=A7 i;rw[ed,XB] at hR;refine Ae mixed A6.eq_1 ?_;simp[hlt];refine Qv rfl (Wu hk (hw _ (B0 hlt))) rfl ?_;cases hr:Ax 64 (.mk list [] [l[i]]) with
  |false=>
   rw[if_pos (by rw[hr];rfl)] at hR;simp;rw[← hR];exact h2
  |true=>
   rw[if_neg (by rw[hr];simp)] at hR;simp[ei];exact ih (i+1) (by omega) hR h1 h2
theorem UO {list:Int} (hk:AU list) {l:List T} (hl:l.length*56≤140737488355328) (hw:∀ t,t ∈ l→Gc t):G.Spec Tryz.prog 120 [Eg l,pG list] (iv (XB (fun t=>!Ax 64 (.mk list [] [t])) 0 l)):=by
 refine Aj EX (by simp) fun w0 I0=>?_;unfold Ca;simp;refine bm hk hl hw l.length 0 (by simp) rfl (fun hR q=>?_) ?_
 ·simp;exact Qa (by simpa using hR.symm)
 ·simp;exact Qa (by simp)
theorem Q9 {list:Int} (hk:AU list) {l:List T} (hl:l.length*56≤140737488355328) (hw:∀ t,t ∈ l→Gc t):G.Spec Tryz.prog 105 [Eg l,pG list] (bv (l.any fun t=>!Ax 64 (.mk list [] [t]))):=by
 refine Aj Eh (by simp) fun w0 I0=>?_;unfold BZ;simp;refine Af (UO hk hl hw) rfl ?_;simp;exact Ai (UI _ l 0)
theorem Rs {e:E}:(AQ 1 e&&decide (e.kind=0))=J6 e:=by
 rw[Bool.eq_iff_iff,Bool.and_eq_true,decide_eq_true_eq];constructor
 ·rintro⟨h,h0⟩;obtain⟨k,o,n,ws,ks,l,os⟩:=e;have R:=rightE_iff.1 h;have h0:k=0:=h0;subst h0;obtain⟨rfl,rfl⟩:=R.one (by omega);obtain⟨rfl,rfl⟩:=R.two (by omega);obtain⟨rfl,rfl⟩:=R.three (by omega);rfl
 ·intro h;rw[cY h];refine⟨rightE_iff.2 ⟨by omega,by omega,by omega,fun _=>⟨rfl,rfl⟩,fun _=>⟨rfl,rfl⟩,fun _=>⟨rfl,rfl⟩,fun h=>by omega,rfl,by simp,fun h=>by omega,by simp,by simp[A2]⟩,rfl⟩
end Go.Proofs.YtebihdhapepejaaGreatDoor
