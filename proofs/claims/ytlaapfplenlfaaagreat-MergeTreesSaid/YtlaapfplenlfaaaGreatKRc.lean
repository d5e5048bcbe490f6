/-
 Texts,merged,without what is not reached.
-/
import Derived.Test.YtlaapfplenlfaaaGreatKRb
set_option linter.unusedSimpArgs false
set_option linter.unusedVariables false
open Go.IntKind (i64 u64)
namespace Go.Proofs.YtlaapfplenlfaaaGreat
open Go Go.G Go.Proofs Go.PL
theorem kk(c:Int):G.Spec Tryz.prog 48 [iv c] (iv (Gr c)):=by
 refine Aj Si iS fun w0 I0=>?_;rw[Ao LR.eq_1];by_cases h0:c=0
 ·subst h0;simp;exact I8 rfl rfl
 by_cases h1:c=1
 ·subst h1;simp;exact I8 rfl rfl
 by_cases h2:c=2
 ·subst h2;simp;exact I8 rfl rfl
 by_cases h3:c=3
 ·subst h3;simp;exact I8 rfl rfl
 by_cases h4:c=4
 ·subst h4;simp;exact I8 rfl rfl
 by_cases h5:c=5
 ·subst h5;simp;exact I8 rfl rfl
 simp[h0,h1,h2,h3,h4,h5];exact I8 rfl (by simp[Gr,h0,h1,h2,h3,h4,h5])
theorem fO(c:Int):Gr c=-1\/Gr c=0\/Gr c=1\/Gr c=8\/Gr c=16\/Gr c=32\/Gr c=64:=by
 unfold Gr;repeat' split
 all_goals simp
variable {n0:Nat} {w0:World} {I0:Nat->Prop} {Q:Exit->Sta->Prop} {H:Hp}
theorem vM{w:Int}(hw:w<=64):∀(m:Nat)(x i:Int),0<=x->x<18446744073709551616->0<=i->i+m=w->(∀b,Q (.exit 0) ⟨lk [(1,uv (x / 2 ^ m)),(5,iv w),(6,iv w),(13,bv b)],H⟩) ->
  LoopC (cx Tryz.prog w0 I0 n0) FE Q ⟨lk [(1,uv x),(5,iv w),(6,iv i)],H⟩:=by
 intro m;induction m with
 |zero=>
  intro x i h0 h1 h2 h3 hq;have:i=w:=by simpa using h3
  subst this;refine Ab Ah (Ao FE.eq_1) ?_;simp;simpa using hq _
 |succ m ih=>
  intro x i h0 h1 h2 h3 hq;refine Ab Ah (Ao FE.eq_1) ?_;have hi:i<w:=oF
  simp[hi];rw[AJ oF oF,Int.tdiv_eq_ediv_of_nonneg h0,EZ oF oF];exact ih _ _ oF oF oF oF (by rw[kP];exact hq)
theorem ny{c n:Int}(h:Ba n):G.Spec Tryz.prog 29 [iv c,uv n] (bv (cO c n)):=by
 refine Aj Ul iS fun w0 I0=>?_;rw[BG MH.eq_1];simp;refine Ae (kk c) rfl ?_;simp;have hw:=fO c;refine⟨fun h0=>?_,fun h0=>?_⟩
 ·refine BJ ?_;simp[cO];omega
 ·refine vM (w:=Gr c) oF (Gr c).toNat n 0 h.1 h.2 oF oF (fun b=>?_);simp;refine BJ ?_;simp[cO,h0]
theorem vn{a b:List Int}(hl:a.length=b.length)(hb:a.length*8<=140737488355328):∀(m i:Nat),i+m=a.length->a.take i=b.take i->(a=b->∀i q,Q (.exit 0) ⟨lk [(0,C7 a),(1,C7 b),(5,iv i),(14,bv q)],H⟩)->(a≠b->Q .ret ⟨lk [(4,bv false)],H⟩) ->
  LoopC (cx Tryz.prog w0 I0 n0) FC Q ⟨lk [(0,C7 a),(1,C7 b),(5,iv i)],H⟩:=by
 intro m;induction m with
 |zero=>
  intro i hi ht h1 h2;have:i=a.length:=oF
  subst this;refine Ab Ah (Ao FC.eq_1) ?_;simp;refine h1 ?_ _ _;rw[Ax (Cq _),Ax oF]at ht;exact ht
 |succ m ih=>
  intro i hi ht h1 h2;have hlt:i<a.length:=oF
  have hlt':i<b.length:=oF
  refine Ab Ah (Ao FC.eq_1) ?_;simp[hlt,hlt'];refine⟨fun he=>?_,fun hne=>h2 fun e=>hne (by subst e;rfl)⟩;rw[AJ oF oF];refine ih (i+1) oF ?_ h1 h2;rw[HJ hlt,HJ hlt',ht,he]
theorem Sw(a b:List Int)(hb:a.length*8<=140737488355328):G.Spec Tryz.prog 38 [C7 a,C7 b] (bv (decide (a=b))):=by
 refine Aj TE iS fun w0 I0=>?_;rw[BG L8.eq_1];simp;refine⟨fun h=>?_,fun h=>?_⟩
 ·refine vn oF hb a.length 0 oF rfl (fun e i q=>?_) (fun e=>?_)
  ·simp;refine BJ ?_;simp[e]
  ·simp;refine BJ ?_;simp[e]
 ·refine BJ ?_;have:¬a=b:=fun e=>h (by rw[e]);simp[this]
theorem vS{w:List Int}(hb:w.length*8<=140737488355328)(hq:∀q,Q (.exit 0) ⟨lk [(0,C7 w),(3,iv (DV w).length),(16,bv q)],H⟩):∀(n:Nat),n<=w.length->DV (w.take n)=DV w ->
  LoopC (cx Tryz.prog w0 I0 n0) FP Q ⟨lk [(0,C7 w),(3,iv n)],H⟩:=by
 intro n;induction n with
 |zero=>
  intro hn ht;refine Ab Ah (Ao FP.eq_1) ?_;simp;have e:(DV w).length=0:=by rw[<-ht];rfl
  have:=hq false;rw[e]at this;exact this
 |succ n ih=>
  intro hn ht;have hlt:n<w.length:=oF
  have e:i64.wrap (n:Int)=n:=CX;refine Ab Ah (Ao FP.eq_1) ?_;by_cases h0:w[n]=0
  ·simp[e,hlt,h0];exact ih oF (by rw[<-XX hlt h0];exact ht)
  ·have e2:(DV w).length=n+1:=by rw[<-ht,Zm hlt h0];simp;omega
   have:=hq false;rw[e2]at this;simp[e,hlt,h0];simpa using this
theorem nu(w:List Int)(hb:w.length*8<=140737488355328):G.Spec Tryz.prog 41 [C7 w] (C7 (DV w)):=by
 refine Aj Ty iS fun w0 I0=>?_;rw[BG MB.eq_1];simp;refine vS hb (fun q=>?_) w.length (Cq _) (by rw[Ax (Cq _)]);have hl:=NC w;have hb':(DV w).length*8<=140737488355328:=oF
 simp[hl];refine⟨hb',?_⟩;rw[<-List.map_take,<-Yg];exact AQ iS rfl iS
abbrev PV(l:List Int):List A:=l.map u8
def C6:Nat->Int->List Int
 |0,_=>[]
 |m+1,x=>x % 256::C6 m (x / 256)
@[simp]theorem RC:∀(m:Nat)(x:Int),(C6 m x).length=m
 |0,_=>rfl
 |m+1,x=>by simp[C6,RC m]
theorem Y8{l:List Int}{i:Nat}{v:Int}(h:i<l.length):splice (l.map u8) i [u8 v]=(l.set i v).map u8:=by
 apply List.ext_getElem?;intro j;simp only[splice,List.length_singleton];rw[List.append_assoc,List.map_set];by_cases h1:j<i
 ·rw[List.getElem?_append_left (by simp;omega),List.getElem?_take,if_pos h1,List.getElem?_set_ne oF]
 ·rw[List.getElem?_append_right (by simp;omega)];have e:(List.take i (l.map u8)).length=i:=by simp;omega
  rw[e];by_cases h2:j=i
  ·subst h2;rw[List.getElem?_set_self (by simpa using h)];simp
  ·rw[List.getElem?_set_ne oF,List.getElem?_append_right (by simp;omega),List.getElem?_drop];congr 1;simp;omega
theorem s7(a:List A)(x v:A)(b:List A):splice (a++x::b) a.length [v]=a++v::b:=by simp[splice]
section
variable {n0:Nat} {w0:World} {I0:Nat->Prop} {Q:Exit->Sta->Prop}
theorem ri:∀(m:Nat)(i:Nat)(x:Int)(d:List Int)(H:Hp),0<=x->x<18446744073709551616->i+m=8->d.length=i->H [1]=⟨1,.cells (PV (d++List.replicate m 0))⟩->H [0]=⟨1,.cells (PV (List.replicate 8 0))⟩ ->
  (∀x' q H',H' [1]=⟨1,.cells (PV (d++C6 m x))⟩->H' [0]=⟨1,.cells (PV (List.replicate 8 0))⟩->Q (.exit 0) ⟨lk [(0,uv x'),(2,.pob [0] 1 0),(3,.pob [1] 1 0),(4,iv 8),(7,bv q)],H'⟩) ->
  LoopC (cx Tryz.prog w0 I0 n0) ER Q ⟨lk [(0,uv x),(2,.pob [0] 1 0),(3,.pob [1] 1 0),(4,iv i)],H⟩:=by
 intro m;induction m with
 |zero=>
  intro i x d H h0 h1 hi hd hH hH0 hq;have:i=8:=oF
  subst this;refine Ab Ah (Ao ER.eq_1) ?_;simp;exact hq _ _ _ (by simpa[C6]using hH) hH0
 |succ m ih=>
  intro i x d H h0 h1 hi hd hH hH0 hq;refine Ab Ah (Ao ER.eq_1) ?_;have hlt:(i:Int)<8:=oF
  simp[hlt,hH];refine⟨oF,?_⟩;have ht:x.tmod 256=x % 256:=Int.tmod_eq_emod_of_nonneg h0;have e8:IntKind.u8.wrap (x % 256)=x % 256:=by rw[IntKind.wrap_u8];omega
  rw[Int.tdiv_eq_ediv_of_nonneg h0,ht,EZ oF oF,e8,AJ oF oF];refine ih (i+1) (x / 256) (d++[x % 256]) _ oF oF oF (by simp[hd]) ?_ (by simp[Aa,hH0]) (fun x' q H' k1 k0=>hq x' q H' (by rw[k1];simp[C6]) k0);simp[Aa];rw[List.replicate_succ,<-hd];simpa using s7 (List.map u8 d) (u8 0) (u8 (x % 256)) (List.replicate m (u8 0))
end
def AI(x:Int):List Int:=C6 8 x
theorem bm{H:Hp}{l:List Int}:Iz H (.agg (PV l)) (.agg (PV l)):=Ad iS
theorem Ms{x:Int}(h:Ba x):G.Spec Tryz.prog 128 [uv x] (.agg (PV (AI x))):=by
 refine Aj Su iS fun w0 I0=>?_;rw[BG Li.eq_1];simp;refine ri 8 0 x [] _ h.1 h.2 rfl rfl iS iS (fun x' q H' h1 h0=>?_);have e:List.take 8 (PV (C6 8 x))=PV (C6 8 x):=Ax iS;simp[h1,h0,Aa,e];exact⟨by simp[A.ones],bm⟩
theorem sn{k:Int}(hk:k<=8):∀(m:Nat)(x i:Int),0<=x->x<256->0<=i->i+m=k->(∀q,Q (.exit 0) ⟨lk [(0,u8 (x / 2 ^ m)),(1,iv k),(5,iv k),(8,bv q)],H⟩) ->
  LoopC (cx Tryz.prog w0 I0 n0) EY Q ⟨lk [(0,u8 x),(1,iv k),(5,iv i)],H⟩:=by
 intro m;induction m with
 |zero=>
  intro x i h0 h1 h2 h3 hq;have:i=k:=by simpa using h3
  subst this;refine Ab Ah (Ao EY.eq_1) ?_;simp;simpa using hq _
 |succ m ih=>
  intro x i h0 h1 h2 h3 hq;refine Ab Ah (Ao EY.eq_1) ?_;have hi:i<k:=oF
  simp[hi];have e8:IntKind.u8.wrap (x / 2)=x / 2:=by rw[IntKind.wrap_u8];omega
  rw[AJ oF oF,Int.tdiv_eq_ediv_of_nonneg h0,e8];exact ih _ _ oF oF oF oF (by rw[kP];exact hq)
def Ff(x:Int)(i:Nat):Bool:=decide (x / 2 ^ i % 2=1)
theorem gY{x:Int}(h0:0<=x)(h1:x<256){i:Nat}(hi:i<=8):G.Spec Tryz.prog 129 [u8 x,iv i] (bv (Ff x i)):=by
 refine Aj SU iS fun w0 I0=>?_;rw[BG KZ.eq_1];simp;refine sn oF i x 0 h0 h1 oF oF (fun q=>?_);simp;refine BJ ?_;have:0<=x / 2 ^ i:=Int.ediv_nonneg h0 (Int.le_of_lt (Int.pow_pos dO));rw[Int.tmod_eq_emod_of_nonneg this];rfl
def XI:List Int->Int
 |[]=>0
 |b::l=>b+256*XI l
theorem QK:∀(l:List Int),(∀b,b∈l->0<=b/\b<256)->0<=XI l/\XI l<256 ^ l.length
 |[],_=>by simp[XI]
 |b::l,h=>by
  have h1:=h b iS;have h2:=QK l fun x hx=>h x (by simp[hx]);simp only[XI,List.length_cons,Int.pow_succ];omega
theorem AdI{f:Bool}{l:List Int}(hl:l.length=8)(hr:∀b,b∈l->0<=b/\b<256):∀(m:Nat)(x j:Int),m<=8->x=XI (l.drop m)->j=(m:Int)-1->(∀q,Q (.exit 0) ⟨lk [(0,.sl f (PV l)),(1,iv 0),(5,uv (XI l)),(6,iv (-1)),(8,bv q)],H⟩) ->
  LoopC (cx Tryz.prog w0 I0 n0) Ho Q ⟨lk [(0,.sl f (PV l)),(1,iv 0),(5,uv x),(6,iv j)],H⟩:=by
 intro m;induction m with
 |zero=>
  intro x j hm hx hj hq;subst hx hj;refine Ab Ah (Ao Ho.eq_1) ?_;simp;simpa using hq false
 |succ m ih=>
  intro x j hm hx hj hq;subst hx hj;have hlt:m<l.length:=oF
  have hd:=QK (l.drop m) fun b hb=>hr b (Qy hb);have hp:(256:Int) ^ (l.drop m).length<=18446744073709551616:=by
   have h2:=Int.ofNat_le.2 (Nat.pow_le_pow_right (n:=256) dO (by simp;omega:(l.drop m).length<=8));rw[Int.natCast_pow]at h2;exact h2
  have e1:l.drop m=l[m]::l.drop (m+1):=List.drop_eq_getElem_cons hlt;have hb:=hr l[m] (Bv hlt);have ez:XI (l.drop m)=l[m]+256*XI (l.drop (m+1)):=by rw[e1,XI]
  have hd1:=QK (l.drop (m+1)) fun b hb=>hr b (Qy hb);refine Ab Ah (Ao Ho.eq_1) ?_;have em:i64.wrap (m:Int)=m:=CX;have hm0:(0:Int)<=m:=oF
  have hm8:(m:Int)<8:=oF
  simp[em,hl,hm8,List.getElem?_eq_getElem hlt];have e64:u64.wrap l[m]=l[m]:=EZ oF oF;rw[e64,EZ (n:=XI (List.drop (m+1) l)*256) oF oF,EZ oF oF,AJ oF oF];exact ih _ _ oF (by rw[ez];omega) rfl hq
theorem xp{f:Bool}{l:List Int}(hl:l.length=8)(hr:∀b,b∈l->0<=b/\b<256):G.Spec Tryz.prog 130 [.sl f (PV l),iv 0] (uv (XI l)):=by
 refine Aj Xf iS fun w0 I0=>?_;rw[BG OX.eq_1];simp;refine AdI hl hr 8 0 7 (Cq _) ?_ rfl (fun q=>?_)
 ·rw[List.drop_of_length_le oF];rfl
 ·simp;exact Ad rfl
theorem Og:∀(m:Nat)(x:Int),∀b,b∈C6 m x->0<=b/\b<256
 |m+1,x,b,h=>by
  rcases List.mem_cons.1 h with rfl|h
  ·omega
  ·exact Og m _ b h
def J5(a b:List Int)(mask:Int)(k:Nat):List Int:=(List.range k).map (fun i=>if Ff mask i=true then b.getD i 0 else a.getD i 0)++a.drop k
theorem Iu{a b:List Int}{mask:Int}{k:Nat}(h:k<=a.length):(J5 a b mask k).length=a.length:=by simp[J5];omega
theorem sr{a b:List Int}{mask:Int}{k:Nat}(h:k<a.length):J5 a b mask (k+1)=if Ff mask k=true then (J5 a b mask k).set k (b.getD k 0)else J5 a b mask k:=by
 unfold J5;rw[List.range_succ];have e0:a.drop k=a[k]::a.drop (k+1):=List.drop_eq_getElem_cons h;have e:((List.range k).map (fun i=>if Ff mask i=true then b.getD i 0 else a.getD i 0)).length=k:=iS
 split
 ·rename_i hn;rw[List.set_append_right _ _ oF,e,e0,Nat.sub_self,List.set_cons_zero];simp[hn]
 ·rename_i hn;rw[e0];simp[hn,List.getElem?_eq_getElem h]
section
variable {n0:Nat} {w0:World} {I0:Nat->Prop} {Q:Exit->Sta->Prop}
theorem zy{a b:List Int}{mask:Int}(ha:a.length=8)(hb:b.length=8)(h0:0<=mask)(h1:mask<256)(hq:∀q H',H' [0]=⟨1,.cells (PV (J5 a b mask 8))⟩->Q (.exit 0) ⟨lk [(2,u8 mask),(7,.pob [0] 1 0),(8,.pob [1] 1 0),(9,iv 8),(15,bv q)],H'⟩):∀(m i:Nat)(H:Hp),i+m=8->H [0]=⟨1,.cells (PV (J5 a b mask i))⟩->H [1]=⟨1,.cells (PV b)⟩ ->
  LoopC (cx Tryz.prog w0 I0 n0) GA Q ⟨lk [(2,u8 mask),(7,.pob [0] 1 0),(8,.pob [1] 1 0),(9,iv i)],H⟩:=by
 intro m;induction m with
 |zero=>
  intro i H hi hA hB;have:i=8:=oF
  subst this;refine Ab Ah (Ao GA.eq_1) ?_;simp;exact hq _ _ hA
 |succ m ih=>
  intro i H hi hA hB;have hlt:(i:Int)<8:=oF
  have hml:=Iu (a:=a) (b:=b) (mask:=mask) (k:=i) oF;have hia:i<(J5 a b mask i).length:=oF
  have hib:i<b.length:=oF
  refine Ab Ah (Ao GA.eq_1) ?_;simp[hlt];refine Ae (gY h0 h1 oF) rfl ?_;have hs:=sr (a:=a) (b:=b) (mask:=mask) (k:=i) oF;cases hn:Ff mask i with
  |false=>
   simp[hn]at hs;simp;rw[AJ oF oF];exact ih (i+1) H oF (by rw[hs];exact hA) hB
  |true=>
   simp[hn]at hs;simp[hlt,hA,hB,List.getElem?_eq_getElem hib];refine⟨oF,?_⟩;rw[AJ oF oF];refine ih (i+1) _ oF ?_ (by simp[Aa,hB]);rw[hs];simp only[Aa,if_true];rw[Y8 hia];simp[List.getElem?_eq_getElem hib]
end
def BI(a b mask:Int):Int:=XI (J5 (AI a) (AI b) mask 8)
theorem SD{a b mask:Int}{k:Nat}:∀x,x∈J5 (AI a) (AI b) mask k->0<=x/\x<256:=by
 have hg:∀(y:Int)(i:Nat),0<=(AI y).getD i 0/\(AI y).getD i 0<256:=fun y i=>by
  rw[List.getD_eq_getElem?_getD];cases e:(AI y)[i]? with
  |none=>simp
  |some z=>exact Og 8 y z (List.mem_of_getElem? e)
 intro x hx;rcases List.mem_append.1 hx with hx|hx
 ·obtain⟨i,_,rfl⟩:=List.mem_map.1 hx;split
  ·exact hg b i
  ·exact hg a i
 ·exact Og 8 a x (Qy hx)
theorem BF(x:Int):(AI x).length=8:=RC 8 x
theorem Hs{a b mask:Int}(ha:Ba a)(hb:Ba b)(h0:0<=mask)(h1:mask<256):G.Spec Tryz.prog 81 [uv a,uv b,u8 mask] (uv (BI a b mask)):=by
 refine Aj V4 iS fun w0 I0=>?_;rw[BG NL.eq_1];simp;refine Ae (Ms ha) rfl ?_;simp;refine Ae (Ms hb) rfl ?_;have l8:=BF a;have m8:=BF b;have o1:∀l:List Int,A.ones (PV l)=true:=fun l=>by simp[A.ones]
 simp[l8,m8,o1];refine zy l8 m8 h0 h1 (fun q H' hH=>?_) 8 0 _ oF (by simp[J5]) iS;simp;have lm:(J5 (AI a) (AI b) mask 8).length=8:=by rw[Iu oF,l8]
 refine Dn (Jr (d:=[0]) (fun _ h=>h) 7 (.pim (PV (J5 (AI a) (AI b) mask 8))) (fun H1 h1=>?_)) (Dr ?_)
 ·rw[hH]at h1;exact Aay (by simp[X3,h1]) (NK iS) (o1 _)
 have e:List.take 8 (PV (J5 (AI a) (AI b) mask 8))=PV (J5 (AI a) (AI b) mask 8):=Ax (by simp[lm]);simp[lm,e];refine Ae (xp lm SD) rfl ?_;simp;exact Ad rfl
@[simp]theorem AfO{q:Bool}{n:Nat}{y:A}{K:A->Prop}:Nd q (A.shift n (gd q y)) K=Nd q (A.shift n y) K:=IY fun h=>by rw[h];rfl
theorem KL(l:List Int):A.softL (l.map uv)=l.map uv:=by
 rw[BK,List.map_map];rfl
theorem pF:∀t:T,(tA t).soft=tA t:=by
 refine T.ind fun k w l ih=>?_;rw[tA_eq];simp only[A.soft,A.softL,T.kind_mk,T.words_mk,T.kids_mk,KL];have e:l.map (A.soft ∘ tA)=l.map tA:=List.map_congr_left fun t ht=>ih t ht;rw[BK,List.map_map,e];rfl
theorem Hf(l:List T):A.softL (l.map tA)=l.map tA:=by
 rw[BK,List.map_map];exact List.map_congr_left fun t _=>pF t
theorem Q1(t:T):(tX t).soft=tX t:=by rw[<-tA_eq];exact pF t
theorem Us(l:List WE):A.softL (l.map wA)=l.map wA:=by
 rw[BK,List.map_map];rfl
theorem Ox:∀e:E,A.softL (eL e)=eL e:=by
 refine E.ind fun k o n w ks l os ihk iho=>?_;have h1:A.softL (ks.map kA)=ks.map kA:=by
  rw[BK,List.map_map];refine List.map_congr_left fun x hx=>?_;have:=ihk x hx;simp only[Function.comp,kA_eq];simp only[A.soft,A.softL]at this ⊢;simp_all
 have h2:A.softL (os.map oA)=os.map oA:=by
  rw[BK,List.map_map];refine List.map_congr_left fun x hx=>?_;have:=iho x hx;simp only[Function.comp,oA_eq];simp only[A.soft,A.softL,Hf]at this ⊢;simp_all
 simp only[A.soft,A.softL,E.kind_mk,E.old_mk,E.new_mk,E.words_mk,E.kids_mk,E.list_mk,E.ops_mk,KL,Hf,Us,h1,h2];rfl
theorem X2(l:List KE):A.softL (l.map kA)=l.map kA:=by
 rw[BK,List.map_map];refine List.map_congr_left fun x _=>?_;have:=Ox x.e;simp only[Function.comp,kA_eq];simp only[A.soft,A.softL]at this ⊢;simp_all
theorem Yt(l:List OP):A.softL (l.map oA)=l.map oA:=by
 rw[BK,List.map_map];refine List.map_congr_left fun x _=>?_;have:=Ox x.e;simp only[Function.comp,oA_eq];simp only[A.soft,A.softL,Hf]at this ⊢;simp_all
end Go.Proofs.YtlaapfplenlfaaaGreat
namespace Go.Proofs.YtlaapfplenlfaaaGreat
set_option maxRecDepth 20000
open Go Go.G Go.Proofs
@[simp]theorem AnL:Eg Tryz.prog 3=some 1:=by kernel_rfl
@[simp]theorem Amw:Eg Tryz.prog 22=some 1:=by kernel_rfl
@[simp]theorem Al5:Eg Tryz.prog 23=some 1:=by kernel_rfl
@[simp]theorem Am0:Eg Tryz.prog 25=some 3:=by kernel_rfl
@[simp]theorem Al1:EE Tryz.prog 3=some false:=by kernel_rfl
@[simp]theorem AkL:EE Tryz.prog 22=some false:=by kernel_rfl
@[simp]theorem Ake:EE Tryz.prog 23=some false:=by kernel_rfl
@[simp]theorem Ak7:EE Tryz.prog 25=some true:=by kernel_rfl
@[simp]theorem AiN:BW Tryz.prog 25=some (Value.agg #[Value.int i64 0,Value.slice none 0 0,Value.slice none 0 0]):=by kernel_rfl
@[simp]theorem Agr:Ce Tryz.prog 25=some 56:=by kernel_rfl
@[simp]theorem wJ:Am Tryz.prog 25 0=some 0:=by kernel_rfl
@[simp]theorem xt:Am Tryz.prog 25 1=some 1:=by kernel_rfl
@[simp]theorem xg:Am Tryz.prog 25 2=some 2:=by kernel_rfl
@[simp]theorem Afu(ps:List (Nat × A)):CY Tryz.prog 25 ps=(DI (fun i=>([(0,1),(1,1),(2,1)]:List (Nat × Nat))[i]?) [iv 0,A.sl true [],A.sl true []] ps).map A.agg:=by kernel_rfl
def CS:CC:=Bh (cG Tryz.f11 607 [[1,2,5,82],[995],[999,82],[6,6001],[94],[1,2,4,5,6,94],[995],[999,1,2,4,5,6],[7],[6,7,131],[1,2,4,5,131],[995],[999,1,2,4,5],[]])
def LS:CC:=CV (cG Tryz.f11 1 [[1,2,1000],[10],[1,2,4,10],[995],[999,1,2,4],[23],[1,2,4,23],[995],[999,1,2,4],[68],[1,2,4,68],[995],[999,1,2,4],[77],[1,2,4,77],[995],[999,1,2,4],[5],[996],[999,1,2,5],[4]]) CS
theorem S9:Bs Tryz.prog 11 132 [(.tmp 4)] LS:=Aq Tryz.func11
def FX:CC:=Bh (cG Tryz.f21 303 [[1,2,3,4,5,16],[995],[999,16],[6,7002],[4003],[6,31],[31],[999],[]])
def MG:CC:=CV (cG Tryz.f21 1 [[1,2,1000,2001],[10],[1,10],[995],[999,1],[3],[4],[5],[996],[999,5],[36],[1,3,4,36],[995],[999,1,3],[7],[4004],[1,3,7]]) FX
theorem UX:Bs Tryz.prog 21 53 [(.cell 2 25)] MG:=Aq Tryz.func21
def Ed:CC:=Bh (cG Tryz.f28 151 [[1,2,3,7,28],[995],[999,28],[],[]])
def Ka:CC:=CV (cG Tryz.f28 1 [[1,2,3,1000],[],[19],[1,2,3,6,19],[995],[999,1,2,3,6],[7],[996],[999,1,3,7],[2,6]]) Ed
theorem Qp:Bs Tryz.prog 28 41 [(.tmp 6)] Ka:=Aq Tryz.func28
def FK:CC:=Bh (cG Tryz.f16 75 [[2,3,5,32],[995],[999,32],[46],[2,3,4,5,46],[995],[999,2,3,4,5],[]])
def MM:CC:=CV (cG Tryz.f16 1 [[2,3,1000,2001],[27],[2,3,4,27],[995],[999,2,3,4],[5],[996],[999,2,3,5],[4]]) FK
theorem Tx:Bs Tryz.prog 16 47 [(.tmp 4)] MM:=Aq Tryz.func16
def K5:CC:=Bh (cG Tryz.f60 1 [[2,3,1000,2001],[2,3,4]])
theorem Sd:Bs Tryz.prog 60 10 [(.tmp 4)] K5:=Aq Tryz.func60
def KP:CC:=Bh (cG Tryz.f35 151 [[1,2,3,17,18,19,20],[995],[999,20],[5,3003],[5,6004],[]])
def KM:CC:=Bh (cG Tryz.f35 1071 [[2,3,48],[995],[999,48],[]])
def Kz:CC:=Bh (cG Tryz.f35 1199 [[2,3,72],[995],[999,72],[]])
def Wt:CC:=pk3 (cG Tryz.f35 1 [[1,2,1000,2001],[8],[1,8],[995],[999,1],[3,7002],[17,18,19],[996],[999,17,18,19],[1,33],[996],[999,33],[996],[999],[3]]) KP KM Kz
theorem jg:Bs Tryz.prog 35 82 [(.cell 2 25)] Wt:=Aq Tryz.func35
end Go.Proofs.YtlaapfplenlfaaaGreat
namespace Go.Proofs.YtlaapfplenlfaaaGreat
open Go Go.G Go.Proofs Go.PL
structure Sg(l:List (List Int)):Prop where
 b:∀x,x∈l->x.length*8<=140737488355328
 w:Wds l
def arO(l:List (List Int))(r:Rf):A:=if r.kind=0 then .v (.pointer none)else arn l
@[simp]theorem Ak1(l:List (List Int))(r:Rf):(arO l r).one=true:=by unfold arO;split<;>rfl
@[simp]theorem AfJ(l:List (List Int))(r:Rf):(arO l r).bare1=true:=by unfold arO;split<;>rfl
abbrev paL(l:List (List Int))(r:Rf):List A:=[arO l r,iv r.kind,iv r.s,iv r.at_,iv r.data,iv r.kids,iv r.count,uv r.n]
end Go.Proofs.YtlaapfplenlfaaaGreat
namespace Go.Proofs.YtlaapfplenlfaaaGreat
set_option maxRecDepth 20000
open Go Go.G Go.Proofs
@[simp]theorem Ak5:BW Tryz.prog 3=some (Value.int i64 0):=by kernel_rfl
@[simp]theorem AiH:Ce Tryz.prog 3=some 8:=by kernel_rfl
def EN:CC:=Bh (cG Tryz.f169 75 [[0,6,7,13],[995],[999,13],[21],[0,4,5,6,7,21],[995],[999,0,4,5,6,7],[]])
def LZ:CC:=CV (cG Tryz.f169 1 [[0,3,1001],[3,6,3002],[7],[996],[999,7],[0,4,5,6,4003]]) EN
theorem S6:Bs Tryz.prog 169 30 [(.tmp 4),(.tmp 5)] LZ:=Aq Tryz.func169
def Eb:CC:=Bh (cG Tryz.f141 75 [[0,1,6,7,13],[995],[999,13],[0,8,9],[0,8],[9,4002],[]])
def J0:CC:=CV (cG Tryz.f141 1 [[0,1],[6],[7],[996],[999,1,7],[0,4,5,6]]) Eb
theorem PE:Bs Tryz.prog 141 32 [(.tmp 4),(.tmp 5)] J0:=Aq Tryz.func141
@[simp]theorem Al7:Eg Tryz.prog 26=some 1:=by kernel_rfl
@[simp]theorem Amv:Eg Tryz.prog 27=some 1:=by kernel_rfl
@[simp]theorem AlZ:Eg Tryz.prog 28=some 1:=by kernel_rfl
@[simp]theorem AmT:Eg Tryz.prog 30=some 11:=by kernel_rfl
@[simp]theorem Amn:Eg Tryz.prog 85=some 4:=by kernel_rfl
@[simp]theorem AmS:Eg Tryz.prog 88=some 12:=by kernel_rfl
@[simp]theorem Amb:Eg Tryz.prog 91=some 14:=by kernel_rfl
@[simp]theorem Akh:EE Tryz.prog 26=some false:=by kernel_rfl
@[simp]theorem Alw:EE Tryz.prog 27=some false:=by kernel_rfl
@[simp]theorem Aj8:EE Tryz.prog 28=some false:=by kernel_rfl
@[simp]theorem AlR:EE Tryz.prog 30=some true:=by kernel_rfl
@[simp]theorem AkI:EE Tryz.prog 85=some true:=by kernel_rfl
@[simp]theorem Aku:EE Tryz.prog 88=some true:=by kernel_rfl
@[simp]theorem Ak6:EE Tryz.prog 91=some true:=by kernel_rfl
@[simp]theorem AiK:BW Tryz.prog 85=some (Value.agg #[Value.int i64 0,Value.int IntKind.u8 0,Value.int u64 0,Value.int u64 0]):=by kernel_rfl
@[simp]theorem AiV:BW Tryz.prog 88=some (Value.agg #[Value.int i64 0,Value.int i64 0,Value.int i64 0,Value.slice none 0 0,Value.slice none 0 0,Value.int i64 0,Value.slice none 0 0,Value.slice none 0 0,Value.slice none 0 0,Value.slice none 0 0,Value.int i64 0,Value.slice none 0 0]):=by kernel_rfl
@[simp]theorem AiL:BW Tryz.prog 91=some (Value.agg #[Value.int i64 0,Value.int i64 0,Value.slice none 0 0,Value.int i64 0,Value.int i64 0,Value.slice none 0 0,Value.slice none 0 0,Value.int i64 0,Value.slice none 0 0,Value.slice none 0 0,Value.slice none 0 0,Value.slice none 0 0,Value.int i64 0,Value.slice none 0 0]):=by kernel_rfl
@[simp]theorem Agz:Ce Tryz.prog 85=some 32:=by kernel_rfl
@[simp]theorem Agt:Ce Tryz.prog 88=some 208:=by kernel_rfl
@[simp]theorem Ae9:Ce Tryz.prog 91=some 240:=by kernel_rfl
@[simp]theorem yg:Am Tryz.prog 30 0=some 0:=by kernel_rfl
@[simp]theorem vi:Am Tryz.prog 30 1=some 1:=by kernel_rfl
@[simp]theorem uU:Am Tryz.prog 30 2=some 4:=by kernel_rfl
@[simp]theorem yA:Am Tryz.prog 30 3=some 7:=by kernel_rfl
@[simp]theorem vl:Am Tryz.prog 30 4=some 8:=by kernel_rfl
@[simp]theorem vG:Am Tryz.prog 30 5=some 9:=by kernel_rfl
@[simp]theorem uZ:Am Tryz.prog 30 6=some 10:=by kernel_rfl
@[simp]theorem yT:Am Tryz.prog 85 0=some 0:=by kernel_rfl
@[simp]theorem vk:Am Tryz.prog 85 1=some 1:=by kernel_rfl
@[simp]theorem wM:Am Tryz.prog 85 2=some 2:=by kernel_rfl
@[simp]theorem yb:Am Tryz.prog 85 3=some 3:=by kernel_rfl
@[simp]theorem xb:Am Tryz.prog 88 0=some 0:=by kernel_rfl
@[simp]theorem vV:Am Tryz.prog 88 1=some 1:=by kernel_rfl
@[simp]theorem wC:Am Tryz.prog 91 0=some 0:=by kernel_rfl
@[simp]theorem x6:Am Tryz.prog 91 1=some 1:=by kernel_rfl
@[simp]theorem xd:Am Tryz.prog 91 2=some 2:=by kernel_rfl
@[simp]theorem vA:Am Tryz.prog 91 3=some 3:=by kernel_rfl
def WY:CC:=Bh (cG Tryz.f90 1 [[1,2,1000],[13],[1,2,4,13],[995],[999,1,2,4],[1,2,4]])
theorem jV:Bs Tryz.prog 90 19 [(.tmp 4)] WY:=Aq Tryz.func90
def Zu:CC:=Bh (cG Tryz.f80 1 [[1,2,4,1000,2001],[13],[1,2,13],[995],[999,1,2],[1,2]])
theorem lS:Bs Tryz.prog 80 20 [(.cell 4 25)] Zu:=Aq Tryz.func80
def KG:CC:=Bh (cG Tryz.f163 75 [[0,3,5,6],[995],[999,6],[4],[12],[4,12],[999],[]])
def WA:CC:=CV (cG Tryz.f163 1 [[0],[3],[5],[996],[999,0,5],[2,3]]) KG
theorem j8:Bs Tryz.prog 163 20 [(.tmp 2)] WA:=Aq Tryz.func163
def Yy:CC:=Bh (cG Tryz.f125 1 [[0,1,2],[0,1,2,6]])
theorem mi:Bs Tryz.prog 125 16 [(.tmp 6)] Yy:=Aq Tryz.func125
def MA:CC:=Bh (cG Tryz.f92 1 [[1,2,1000],[9],[1,2,4,9],[995],[999,4],[4]])
theorem TG:Bs Tryz.prog 92 15 [(.tmp 4)] MA:=Aq Tryz.func92
def Nj:CC:=Bh (cG Tryz.f93 1 [[1,2,4,1000,2001],[9],[1,2,9],[995],[999],[]])
theorem VY:Bs Tryz.prog 93 16 [(.cell 4 25)] Nj:=Aq Tryz.func93
def Cy:CC:=Bh (cG Tryz.f61 2431 [[2,3,4,6,7,8,11,12,80],[995],[999,80],[13],[100],[14,100,6004],[112],[2,3,5,6,7,8,11,12,13,14,112],[995],[999,2,3,5,6,7,8,11,12,13,14],[14],[],[999],[13,5005],[999],[]])
def Cz:CC:=Bh (cG Tryz.f61 9727 [[2,3,4,6,8,11,15,130],[995],[999,130],[16,4006],[150],[17,18,150,12007],[18,163],[2,3,5,6,8,11,15,16,17,163],[995],[999,2,3,5,6,8,11,15,16,17],[17],[],[999],[16,5008],[999],[]])
def Dv:CC:=gR (cG Tryz.f61 127 [[2,3,4,6,7,8,11],[12],[996],[999,7,11,12],[11],[15],[996],[999,2,3,8,11,15],[5,6]]) Cy Cz
def Dw:CC:=CV (cG Tryz.f61 63 [[2,3,4,6,7,8,10],[69],[10,69],[999],[994]]) Dv
def FJ:CC:=CV (cG Tryz.f61 1 [[2,3,4,1000,2001,3002],[21],[2,3,5,21],[995],[999,2,3,5],[6,2003],[7,8],[998],[9],[45],[9,45],[999],[994]]) Dw
theorem Oi:Bs Tryz.prog 61 175 [(.cell 4 25),(.tmp 5)] FJ:=Aq Tryz.func61
def C5:CC:=Bh (cG Tryz.f62 76079 [[2,3,4,6,7,8,9,10,43],[995],[999,43],[50],[2,3,5,6,7,8,9,10,50],[995],[999,2,3,5,6,7,8,9,10],[9005],[998],[],[999],[]])
def BN:CC:=Bh (cG Tryz.f62 153903 [[2,3,4,6,7,8,9,11,68],[995],[999,68],[73],[73,9006],[995],[999],[102],[2,3,5,6,7,8,9,11,102],[995],[997,2,3,5,6,7,8,9,11],[],[999],[]])
def FF:CC:=gR (cG Tryz.f62 303 [[2,3,4,6,7,8,27],[995],[999,27],[9,6004],[10],[996],[999,10],[11],[996],[999,11],[108],[108,113],[2,3,5,6,7,8,9,113],[995],[999,2,3,5,6,7,8,9],[9,12,13,12007],[13,127],[2,3,5,6,7,8,12,127],[995],[999,2,3,5,6,7,8,12],[12,5008],[998],[],[999],[]]) C5 BN
def IK:CC:=CV (cG Tryz.f62 1 [[2,3,4,1000,2001,3002],[18],[2,3,5,18],[995],[999,2,3,5],[6,4003],[998],[7],[8],[996],[999,2,8],[3,5,6,7]]) FF
theorem TL:Bs Tryz.prog 62 143 [(.cell 4 25),(.tmp 5)] IK:=Aq Tryz.func62
def Ij:CC:=Bh (cG Tryz.f36 15 [[4,6,38],[5,6,38],[995],[999,5,6],[5,6]])
def Cm:CC:=CV (cG Tryz.f36 1 [[2,3,4,1000,2001,3002],[6,2003],[10],[11],[2,3,7,10,11],[2,3,7,10,13],[10,13],[2,3,7],[2,3,7,10,21],[2,3,7,10,21],[2,3,7,29],[2,3,7,29],[],[999],[994]]) Ij
theorem CI:Bs Tryz.prog 36 42 [(.cell 4 25),(.tmp 5)] Cm:=Aq Tryz.func36
end Go.Proofs.YtlaapfplenlfaaaGreat
namespace Go.Proofs.YtlaapfplenlfaaaGreat
open Go Go.G Go.Proofs Go.PL
theorem Gl(t:T)(i:Nat):G.Spec Tryz.prog 90 [tX t,iv i] (uv (t.words.getD i 0)):=by
 refine Aj jV iS fun w0 I0=>?_;rw[Ao WY.eq_1];have hn:¬(i:Int)<0:=oF
 by_cases h:i<t.words.length
 ·have h2:¬t.words.length<=i:=oF
  simp[h,hn,h2];exact I8 rfl (by simp[h])
 ·have h2:t.words.length<=i:=oF
  simp[h,hn,h2];exact I8 rfl (by simp[List.getElem?_eq_none (Nat.le_of_not_lt h)])
theorem Hm(t:T)(i:Nat):G.Spec Tryz.prog 80 [tX t,iv i] (tX (t.kids.getD i T0)):=by
 refine Aj lS iS fun w0 I0=>?_;rw[Ao Zu.eq_1];have hn:¬(i:Int)<0:=oF
 by_cases h:i<t.kids.length
 ·have h2:¬t.kids.length<=i:=oF
  simp[h,hn,h2];exact Ad iS
 ·have h2:t.kids.length<=i:=oF
  simp[h,hn,h2];exact Bb (by simp;exact⟨Ad rfl,Ai,Ai⟩)
theorem dn(t:T)(i:Nat):G.Spec Tryz.prog 92 [tX t,iv i] (uv (t.words.getD i 0)):=by
 refine Aj TG iS fun w0 I0=>?_;rw[Ao MA.eq_1];have hn:¬(i:Int)<0:=oF
 by_cases h:i<t.words.length
 ·have h2:¬t.words.length<=i:=oF
  simp[h,hn,h2];exact I8 rfl (by simp[h])
 ·have h2:t.words.length<=i:=oF
  simp[h,hn,h2];exact I8 rfl (by simp[List.getElem?_eq_none (Nat.le_of_not_lt h)])
variable {n0:Nat} {w0:World} {I0:Nat->Prop} {Q:Exit->Sta->Prop}
abbrev M3(x:T × Int × Int):A:=.tup [tX x.1,iv x.2.1,iv x.2.2]
abbrev s1:List (List Int):=[[4294967296,7]]
abbrev s2:List (List Int):=[[8589934592,7,0]]
abbrev s3:List (List Int):=[[4294967296,8]]
end Go.Proofs.YtlaapfplenlfaaaGreat
namespace Go.G
open Go.RowKit
theorem bo{P:Program}{K:Sta->Prop}{rest:List CO}{s:Nat->A}{H:Hp}{dd:Option Nat}{nm:Nm}{ix:Nat}{un:List Nat}{l:Bool}{lg:Lg}{g:FuncId}{fo:Operand}{fs caps L:List A}{as':Array Operand}{ts:Array TypeId}{x:A}(hv0:evs s fo=.fnc g fs caps)(hL:fs++(as'.toList.map (evs s)++caps)=L)(E:Eff)(R W:Fp)(hs:∀H2,Agree (R++W) H H2->Vw P H2 g L x E)(hw:R7 E W)(hc:Ck un lg ⟨R,W⟩)(h:AE P K rest (Cc l ix ⟨R,W⟩ lg) (Sta.put ⟨s,H⟩ dd x (E.app H))) :
  AE P K (⟨dd,.call { callee:=.value fo,args:=as',argTypes:=ts },none,nm,ix,un,l⟩::rest) lg ⟨s,H⟩:=by
 subst hL;exact⟨x,E,⟨R,W⟩,⟨g,fs,caps,hv0,.inr (.inr ⟨hs,hw⟩)⟩,hc,h⟩
theorem bJ{P:Program}{K:Sta->Prop}{rest:List CO}{s:Nat->A}{H:Hp}{dd:Option Nat}{nm:Nm}{ix:Nat}{un:List Nat}{l:Bool}{lg:Lg}{g:FuncId}{fo:Operand}{fs caps L:List A}{as':Array Operand}{ts:Array TypeId}
  (hv0:evs s fo=.fnc g fs caps) (hL:fs++(as'.toList.map (evs s)++caps)=L) (rs:List Nat) (m:Nat) {args:List A} {Hc Hr H':Hp} {r x:A} (hS:SpecH P g rs.length args Hc r Hr) (hnd:rs.Nodup) (hm:m<=rs.length)
  (ha:A.renL (Vh rs) (fun _=>0) L=args) (har:A.refsL (RH rs m) L) (hH:Ni rs m H=Hc) (hcl:XJ rs m H)
  (hr:r.refs (HG rs.length)) (ho:∀(i:Nat)(p:Nm),i<rs.length->(Hr (i::p)).ob.refs (HG rs.length)) (hv:∀(i:Nat)(p:Nm),m<=i->i<rs.length->(Hr (i::p)).ob=.none\/1<=(Hr (i::p)).u)
  (hx:r.ren (Q0 rs) (Pd rs m H)=x) (hH':NU rs (Pd rs m H) H Hr=H') (hck:Ck un lg ⟨[],rs.map fun r=>([r],true)⟩)
  (h:AE P K rest (Cc l ix ⟨[],rs.map fun r=>([r],true)⟩ lg) (Sta.put ⟨s,H⟩ dd x H')) :
  AE P K (⟨dd,.call { callee:=.value fo,args:=as',argTypes:=ts },none,nm,ix,un,l⟩::rest) lg ⟨s,H⟩:=by
 have hit_in:∀{j:Nat} {p:Nm},j∈rs->Ym (rs.map fun r=>([r],true)) (j::p)=true:=fun {j p} hj=>by
  simp only[Ym,List.any_map,List.any_eq_true];exact⟨j,hj,by simp[TT,List.isPrefixOf]⟩
 have hnil:(Eff.fn rs (Js rs m H Hr)).app H=H':=by rw[Yq];exact hH'
 subst hx;rw[<-hnil]at h;refine bo hv0 hL (Eff.fn rs (Js rs m H Hr)) [] (rs.map fun r=>([r],true)) (fun H2 hag=>?_) (fun o H2 ho'=>?_) hck h
 ·have ag:∀{j:Nat} {p:Nm},j∈rs->H2 (j::p)=H (j::p):=fun {j p} hj=>hag _ (by simpa using hit_in hj);have agi:∀{i:Nat} {p:Nm},i<rs.length->H2 (rs.getD i 0::p)=H (rs.getD i 0::p):=fun {i p} hi=>ag (by simp[List.getD,hi]);have hd:Pd rs m H2=Pd rs m H:=by
   funext o;cases o with
   |nil=>rfl
   |cons i p=>
    simp only[Pd];by_cases hi:i<rs.length
    ·rw[agi hi]
    ·rw[if_neg hi,if_neg hi]
  have hoH:Js rs m H2 Hr=Js rs m H Hr:=by
   funext o;cases o with
   |nil=>rfl
   |cons j p=>simp only[Js,hd]
  subst ha;have:=VM (P:=P) (f:=g) (rs:=rs) (m:=m) (args:=L) (Hc:=Hc) (Hr:=Hr) (r:=r) (H:=H2) hnd hm hS
   (fun i p hi=>by rw[<-hH,agi oF];simp only[Ni,if_pos hi]) (fun i p hi=>by rw[<-hH];simp only[Ni];rw[if_neg oF]) (by rw[<-hH];rfl) har
   (fun i p hi=>by rw[agi oF];exact hcl _ _ (by rw[NT hnd oF];exact hi)) hr ho hv
  rwa [hd,hoH]at this
 ·cases o with
  |nil=>rfl
  |cons j p=>
   have:¬j∈rs:=fun hj=>by rw[hit_in hj]at ho';cases ho'
   simp[Eff.app,this]
theorem pJ{P:Program}{H:Hp}{g:FuncId}{L:List A}(rs:List Nat)(m:Nat){args:List A}{Hc Hr H':Hp}{r:A}(hS:SpecH P g rs.length args Hc r Hr)(hnd:rs.Nodup)(hm:m<=rs.length)
  (ha:A.renL (Vh rs) (fun _=>0) L=args) (har:A.refsL (RH rs m) L) (hH:Ni rs m H=Hc) (hcl:XJ rs m H)
  (hr:r.refs (HG rs.length)) (ho:∀(i:Nat)(p:Nm),i<rs.length->(Hr (i::p)).ob.refs (HG rs.length)) (hv:∀(i:Nat)(p:Nm),m<=i->i<rs.length->(Hr (i::p)).ob=.none\/1<=(Hr (i::p)).u)
  (hH':NU rs (Pd rs m H) H Hr=H'):∃E,Zp P H g L (r.ren (Q0 rs) (Pd rs m H)) E [] (rs.map fun r=>([r],true))/\E.app H=H':=by
 have hit_in:∀{j:Nat} {p:Nm},j∈rs->Ym (rs.map fun r=>([r],true)) (j::p)=true:=fun {j p} hj=>by
  simp only[Ym,List.any_map,List.any_eq_true];exact⟨j,hj,by simp[TT,List.isPrefixOf]⟩
 have hnil:(Eff.fn rs (Js rs m H Hr)).app H=H':=by rw[Yq];exact hH'
 refine⟨Eff.fn rs (Js rs m H Hr),.inr (.inr ⟨fun H2 hag=>?_,fun o H2 ho'=>?_⟩),hnil⟩
 ·have ag:∀{j:Nat} {p:Nm},j∈rs->H2 (j::p)=H (j::p):=fun {j p} hj=>hag _ (by simpa using hit_in hj);have agi:∀{i:Nat} {p:Nm},i<rs.length->H2 (rs.getD i 0::p)=H (rs.getD i 0::p):=fun {i p} hi=>ag (by simp[List.getD,hi]);have hd:Pd rs m H2=Pd rs m H:=by
   funext o;cases o with
   |nil=>rfl
   |cons i p=>
    simp only[Pd];by_cases hi:i<rs.length
    ·rw[agi hi]
    ·rw[if_neg hi,if_neg hi]
  have hoH:Js rs m H2 Hr=Js rs m H Hr:=by
   funext o;cases o with
   |nil=>rfl
   |cons j p=>simp only[Js,hd]
  subst ha;have:=VM (P:=P) (f:=g) (rs:=rs) (m:=m) (args:=L) (Hc:=Hc) (Hr:=Hr) (r:=r) (H:=H2) hnd hm hS
   (fun i p hi=>by rw[<-hH,agi oF];simp only[Ni,if_pos hi]) (fun i p hi=>by rw[<-hH];simp only[Ni];rw[if_neg oF]) (by rw[<-hH];rfl) har
   (fun i p hi=>by rw[agi oF];exact hcl _ _ (by rw[NT hnd oF];exact hi)) hr ho hv
  rwa [hd,hoH]at this
 ·cases o with
  |nil=>rfl
  |cons j p=>
   have:¬j∈rs:=fun hj=>by rw[hit_in hj]at ho';cases ho'
   simp[Eff.app,this]
theorem AcS{P:Program}{K:Sta->Prop}{rest:List CO}{s:Nat->A}{H H':Hp}{dd:Option Nat}{nm:Nm}{ix:Nat}{un:List Nat}{l:Bool}{lg:Lg}{ro:Operand}{name:String}{t:TypeId}{a a':A}{g:FuncId}{d:Option TypeId}{L:List A}{as':Array Operand}{ts:Array TypeId}{x:A}{R W:Fp}
  (hr:evs s ro=.ifc t a) (hm:RN P t name=some (g,d)) (ha:bc P H d a=some a') (hL:a'::as'.toList.map (evs s)=L) (hc:∃E,Zp P H g L x E R W/\E.app H=H') (hck:Ck un lg ⟨refs a++R,W⟩)
  (h:AE P K rest (Cc l ix ⟨refs a++R,W⟩ lg) (Sta.put ⟨s,H⟩ dd x H')) :
  AE P K (⟨dd,.call { callee:=.invoke ro name,args:=as',argTypes:=ts },none,nm,ix,un,l⟩::rest) lg ⟨s,H⟩:=by
 obtain⟨E,h1,rfl⟩:=hc;subst hL;exact⟨x,E,⟨refs a++R,W⟩,⟨t,a,g,d,a',R,hr,hm,ha,h1,rfl⟩,hck,h⟩
end Go.G
namespace Go.Proofs.YtlaapfplenlfaaaGreat
open Go Go.G Go.Proofs Go.PL
def Ahl(h x:Int):Int:=u64.wrap (bits .xor .u64 h x*1099511628211)
def AbB(h x:Int):Int:=bits .xor .u64 (Ahl h x) (Ahl h x / 2 ^ min 29 u64.bits)
mutual
def Acp:T->Int
 |.mk k w l=>Acv (w.foldl AbB (AbB (AbB 14695981039346656037 (u64.wrap k)) (u64.wrap w.length))) l
def Acv:Int->List T->Int
 |h,[]=>h
 |h,t::l=>Acv (AbB h (Acp t)) l
end
mutual
theorem RG:∀(t:T)(d:Nat)(n:Int),-1<=EO d n t/\(-1<=n->EO d n t<=n)
 |.mk k w l,d,n=>by
  rw[Sy];split
  ·omega
  ·have:=Qm l (d-1) (n-1-w.length) oF;omega
theorem Qm:∀(l:List T)(d:Nat)(n:Int),-1<=n->-1<=Es d n l/\Es d n l<=n
 |[],d,n,h=>by simp;omega
 |t::l,d,n,h=>by
  rw[JQ];split
  ·omega
  ·have h1:=RG t d n;have h2:=Qm l d (EO d n t) h1.1;omega
end
theorem fX(l:List T)(d:Nat){n:Int}(h:n<0):Es d n l=n:=by
 cases l with
 |nil=>simp
 |cons t l=>simp[h]
variable {n0:Nat} {w0:World} {I0:Nat->Prop} {Q:Exit->Sta->Prop}
theorem l7{t:T}{d:Nat}(hd:1<=d)(hd1:d<=1000)(hl:t.kids.length*56<=140737488355328)(ih:∀c,c∈t.kids->∀(d:Nat)(n:Int),d<=1000->0<=n->n<=1000000->G.Spec Tryz.prog 28 [tX c,iv d,iv n] (iv (EO d n c)))
  {H:Hp} (hH:H [0]=⟨1,.cells [iv t.kind,C7 t.words,AV t.kids]⟩):∀(m i:Nat)(n:Int),i+m=t.kids.length->-1<=n->n<=1000000 ->
  (∀i' q,Q (.exit 0) ⟨lk [(1,iv d),(2,iv (Es (d-1) n (t.kids.drop i))),(3,.pob [0] 1 0),(7,iv i'),(28,bv q)],H⟩) ->
  LoopC (cx Tryz.prog w0 I0 n0) Ed Q ⟨lk [(1,iv d),(2,iv n),(3,.pob [0] 1 0),(7,iv i)],H⟩:=by
 intro m;induction m with
 |zero=>
  intro i n hi h1 h2 hq;have:i=t.kids.length:=oF
  subst this;refine Ab Ah (Ao Ed.eq_1) ?_;simp[hH];simpa using hq _ false
 |succ m ihm=>
  intro i n hi h1 h2 hq;have hlt:i<t.kids.length:=oF
  refine Ab Ah (Ao Ed.eq_1) ?_;have e:t.kids.drop i=t.kids[i]::t.kids.drop (i+1):=List.drop_eq_getElem_cons hlt;by_cases hn:n<0
  ·simp[hH,hlt,show ¬(0:Int)<=n by omega];have:=hq i false
   rwa [fX _ _ hn]at this
  ·have hn':0<=n:=oF
   simp[hH,hlt,hn'];have ed:i64.wrap ((d:Int)-1)=((d-1:Nat):Int):=AU;rw[ed];refine Ae (ih _ (Bv hlt) (d-1) n oF hn' h2) rfl ?_;simp;have hr:=RG t.kids[i] (d-1) n;rw[AJ oF oF];refine ihm (i+1) _ oF hr.1 oF fun i' q=>?_;have:=hq i' q;rw[e,JQ,if_neg oF]at this;exact this
theorem gD:∀(t:T),Ay t->∀(d:Nat)(n:Int),d<=1000->0<=n->n<=1000000->G.Spec Tryz.prog 28 [tX t,iv d,iv n] (iv (EO d n t)):=by
 refine T.ind fun k w l ih hw d n hd hn hn1=>?_;have hw':=wfT_iff.1 hw;have hwl:=hw'.wl;have hkl:=hw'.kl;simp at hwl hkl;have ihc:∀c,c∈(T.mk k w l).kids->∀(d:Nat)(n:Int),d<=1000->0<=n->n<=1000000->G.Spec Tryz.prog 28 [tX c,iv d,iv n] (iv (EO d n c)):=fun c hc=>ih c hc (hw'.ks c hc);refine Aj Qp iS fun w0 I0=>?_;rw[BG Ka.eq_1];have e1:i64.wrap (i64.wrap (n-1)-(w.length:Int))=n-1-w.length:=by rw[AJ (n:=n-1) oF oF,AJ oF oF]
 rw[Sy];by_cases hc:d=0\/n-1-(w.length:Int)<0
 ·have hd:(decide (d=0)|| decide (n-1-(w.length:Int)<0))=true:=by simp;omega
  simp[e1,hd,hc];exact Ad rfl
 ·have hd:(decide (d=0)|| decide (n-1-(w.length:Int)<0))=false:=by simp;omega
  simp[e1,hd,hc];refine l7 (t:=.mk k w l) oF oF hkl ihc iS l.length 0 _ iS oF oF fun i' q=>?_;simp;exact Ad rfl
abbrev tL(t:T):List A:=[iv t.kind,C7 t.words,AV t.kids]
theorem Abx{a b:T}(hl:a.kids.length*56<=140737488355328)(hn:a.kids.length=b.kids.length)(ih:∀c,c∈a.kids->∀u,G.Spec Tryz.prog 16 [tX c,tX u] (bv (Fs c u)))
  {H:Hp} (hA:H [0]=⟨1,.cells (tL a)⟩) (hB:H [1]=⟨1,.cells (tL b)⟩):∀(m i:Nat),i+m=a.kids.length->a.kids.take i=b.kids.take i->(a.kids=b.kids->∀i' q,Q (.exit 0) ⟨lk [(2,.pob [0] 1 0),(3,.pob [1] 1 0),(5,iv i'),(32,bv q)],H⟩)->(a.kids≠b.kids->Q .ret ⟨lk [(4,bv false)],H⟩) ->
  LoopC (cx Tryz.prog w0 I0 n0) FK Q ⟨lk [(2,.pob [0] 1 0),(3,.pob [1] 1 0),(5,iv i)],H⟩:=by
 intro m;induction m with
 |zero=>
  intro i hi ht h1 h2;have:i=a.kids.length:=oF
  subst this;refine Ab Ah (Ao FK.eq_1) ?_;simp[hA,hB];refine h1 ?_ _ _;rw[Ax (Cq _),Ax oF]at ht;exact ht
 |succ m ihm=>
  intro i hi ht h1 h2;have hlt:i<a.kids.length:=oF
  have hlt':i<b.kids.length:=oF
  refine Ab Ah (Ao FK.eq_1) ?_;simp[hA,hB,hlt,hlt'];refine Ae (ih _ (Bv hlt) b.kids[i]) rfl ?_;simp;cases hs:Fs a.kids[i] b.kids[i] with
  |false=>
   simp;refine h2 fun e=>?_;have:a.kids[i]=b.kids[i]:=by simp[e]
   rw[<-sameB_iff,hs]at this;cases this
  |true=>
   simp;rw[AJ oF oF];refine ihm (i+1) oF ?_ h1 h2;rw[HJ hlt,HJ hlt',ht,sameB_iff.1 hs]
set_option maxRecDepth 8000 in
theorem Hg:∀(a:T),Ay a->∀b:T,G.Spec Tryz.prog 16 [tX a,tX b] (bv (Fs a b)):=by
 refine T.ind fun k w l ih hw b=>?_;have hw':=wfT_iff.1 hw;have hwl:=hw'.wl;have hkl:=hw'.kl;simp at hwl hkl;refine Aj Tx iS fun w0 I0=>?_;rw[BG MM.eq_1];have no:(k≠b.kind\/w≠b.words\/l≠b.kids)->Fs (.mk k w l) b=false:=fun h=>by
  rw[Bool.eq_false_iff];intro e;have:=sameB_iff.1 e;subst this;simp at h
 by_cases h1:k=b.kind
 ·by_cases h2:w=b.words
  ·by_cases h3:l.length=b.kids.length
   ·simp[h1];refine DC rfl (fun _=>Sw w b.words hwl) (fun _=>rfl) rfl ?_;simp[h2,h3];refine Abx (a:=.mk k w l) (b:=b) hkl h3 (fun c hc u=>ih c hc (hw'.ks c hc) u) (by simp[h1,h2]) iS l.length 0 iS rfl (fun e i' q=>?_) (fun e=>?_)
    ·simp;have:Fs (.mk k w l) b=true:=sameB_iff.2 (T.ext' h1 h2 e);rw[<-h1,<-h2,this];exact Ad rfl
    ·simp;rw[<-h1,<-h2,no (.inr (.inr e))];exact Ad rfl
   ·simp[h1];refine DC rfl (fun _=>Sw w b.words hwl) (fun _=>rfl) rfl ?_;simp[h2,h3];refine⟨fun h=>absurd oF h3,fun _=>?_⟩;rw[<-h1,<-h2,no (.inr (.inr fun e=>h3 (by rw[e])))];exact Ad rfl
  ·simp[h1];refine DC rfl (fun _=>Sw w b.words hwl) (fun _=>rfl) rfl ?_;simp[h2];rw[<-h1,no (.inr (.inl h2))];exact Ad rfl
 ·simp[h1];refine Bx rfl ?_;simp;rw[no (.inl h1)];exact Ad rfl
theorem AaI{t:T}(hl:t.kids.length*56<=140737488355328)(ih:∀c,c∈t.kids->G.Spec Tryz.prog 21 [tX c] (tX (Ag c))){v:VOb}:∀(m i:Nat)(u:Nat)(H:Hp),i+m=t.kids.length->H [0]=⟨1,.cells (tL t)⟩->H [1]=v->H [3]=⟨u,.arr 3 (((t.kids.take i).map Ag).map tA)⟩ ->
  (∀i' q (u':Nat) (H':Hp),H' [0]=⟨1,.cells (tL t)⟩->H' [1]=v->H' [3]=⟨u',.arr 3 ((t.kids.map Ag).map tA)⟩->Q (.exit 0) ⟨lk [(1,.pob [0] 1 0),(2,.pob [1] 1 0),(3,.osl [3] u' 3 0 t.kids.length),(4,iv (Dl t.kids).length),(5,iv i'),(16,bv q)],H'⟩) ->
  LoopC (cx Tryz.prog w0 I0 n0) FX Q ⟨lk [(1,.pob [0] 1 0),(2,.pob [1] 1 0),(3,.osl [3] u 3 0 i),(4,iv (Dl (t.kids.take i)).length),(5,iv i)],H⟩:=by
 intro m;induction m with
 |zero=>
  intro i u H hi hA hR hB hq;have:i=t.kids.length:=oF
  subst this;refine Ab Ah (Ao FX.eq_1) ?_;simp[hA];have:=hq t.kids.length false u H hA hR (by rw[hB];simp);simpa using this
 |succ m ihm=>
  intro i u H hi hA hR hB hq;have hlt:i<t.kids.length:=oF
  refine Ab Ah (Ao FX.eq_1) ?_;simp[hA,hlt];refine Ae (ih _ (Bv hlt)) rfl ?_;simp[Aa,hB];have ei:=Ap i;have hrow:=i6 (f:=tA ∘ Ag) hlt (x:=A.agg [iv t.kids[i].kind,C7 (Ag t.kids[i]).words,AV (Ag t.kids[i]).kids]) iS;rw[hrow];refine⟨⟨oF,oF⟩,fun h=>?_,fun h=>?_⟩
  ·rw[ei,<-YW hlt h];exact ihm (i+1) (u+1) _ oF (by simp[Aa,hA]) (by simp[Aa,hR]) (by simp[Aa]) hq
  ·have ek:(Dl (t.kids.take (i+1))).length=i+1:=by rw[Yl hlt h];simp;omega
   rw[ei];have:=fun H h1 h2 h3=>ihm (i+1) (u+1) H oF h1 h2 h3 hq;rw[ek]at this;exact this _ (by simp[Aa,hA]) (by simp[Aa,hR]) (by simp[Aa])
theorem CP:∀(t:T),Ay t->G.Spec Tryz.prog 21 [tX t] (tX (Ag t)):=by
 refine T.ind fun k w l ih hw=>?_;have hw':=wfT_iff.1 hw;have hwl:=hw'.wl;have hkl:=hw'.kl;simp at hwl hkl;refine Aj UX iS fun w0 I0=>?_;rw[BG MG.eq_1];rw[DS];by_cases h0:k=0
 ·simp[h0];exact uS
 ·simp[h0];refine LoopC.le (BC 3 [3] 3 iS) ?_;simp;refine LoopC.le (Al [(1,.pob [0] 1 0),(2,.pob [1] 1 0),(3,.osl [3] 1 3 0 0),(4,iv 0),(5,iv 0)] (by simp[upd])) ?_;refine AaI (t:=.mk k w l) (by simpa using hkl) (fun c hc=>ih c hc (hw'.ks c hc)) l.length 0 1 _ iS iS rfl iS fun i' q u' H' hA hR hB=>?_;have hle:=Ny l;by_cases h1:k=1
  ·subst h1;simp at hA hR hB;simp[hA,hR,hB,hle,Aa];refine Ae (nu w hwl) rfl ?_;simp[hA,hR,hB,hle,Aa];refine Bb ?_;simp;rw[bV];refine⟨Ad rfl,Ad rfl,?_⟩;have:=Zq (H:=Ar H' [1] ⟨1,.cells [iv 1,A.sl false (List.map uv (DV w)),A.osl [3] u' 3 0 (Dl l).length]⟩) (o:=[3]) (u:=u') (sz:=3) (l:=l) (f:=tA ∘ Ag) (by simp[Aa,hB]) hle iS;rw[<-List.map_take];show Iz _ _ (A.sl false (((l.take (Dl l).length).map Ag).map tA));rw[List.map_map];exact this
  ·simp at hA hR hB;simp[hA,hR,hB,h1,Aa];refine⟨hwl,Bb ?_⟩;simp;refine⟨Ad rfl,AQ (by simp[Aa]) rfl iS,?_⟩;have:=AQ (H:=Ar (Ar H' [4] { u:=(H' [4]).u+1,ob:=Ob.arr 1 (List.map uv w) }) [1] ⟨1,.cells [A.v (Value.int i64 k),A.osl [4] ((H' [4]).u+1) 1 0 w.length,A.osl [3] u' 3 0 l.length]⟩) (o:=[3]) (u:=u') (sz:=3) (l:=l) (f:=tA ∘ Ag) (by simp[Aa,hB]) rfl iS;show Iz _ _ (A.sl false ((l.map Ag).map tA));rw[List.map_map];exact this
theorem It{a b:T}(ha:Ay a)(hb:Ay b)(hn:Ay (Ag a)):G.Spec Tryz.prog 60 [tX a,tX b] (bv (JE a b)):=by
 refine Aj Sd iS fun w0 I0=>?_;rw[Ao K5.eq_1];simp;refine Ae (CP a ha) rfl ?_;simp;refine Ae (CP b hb) rfl ?_;simp;refine Ae (Hg (Ag a) hn (Ag b)) rfl ?_;simp;exact Ad rfl
theorem BV:∀(t:T),Ay t->Ay (Ag t):=by
 refine T.ind fun k w l ih hw=>?_;have hw':=wfT_iff.1 hw;rw[DS];have h2:∀(l:List T),(∀t,t∈l->∃u,u∈l/\t=u)->True:=fun _ _=>trivial;have hm:∀t,t∈l.map Ag->Ay t:=fun t ht=>by
  obtain⟨u,hu,rfl⟩:=List.mem_map.1 ht;exact ih u hu (hw'.ks u hu)
 split
 ·exact wfT_iff.2 ⟨by simp[B6],iS,iS,iS,iS⟩
 ·split
  ·refine wfT_iff.2 ⟨by simp[B6],fun x hx=>?_,?_,?_,fun t ht=>?_⟩
   ·simp only[T.words_mk]at hx;rw[Yg]at hx;exact hw'.w x (O4 hx)
   ·have:=NC w;have:=hw'.wl;simp at this ⊢;omega
   ·have:=Ny (l.map Ag);have:=hw'.kl;simp at this ⊢;simp at *;omega
   ·simp only[T.kids_mk]at ht;rw[K6]at ht;exact hm t (O4 ht)
  ·exact wfT_iff.2 ⟨hw'.k,hw'.w,hw'.wl,by simpa using hw'.kl,by simpa using hm⟩
theorem sv{c:T}(h:Ay c)(hl:c.words.length=1):∃x,c.words=[x]/\Ba x:=by
 have:=(wfT_iff.1 h).w
 match hc:c.words,hl with
 |[x],_=>exact⟨x,rfl,this x (by simp[hc])⟩
theorem dP{d:Nat}{c:T}(h:AW d c=true)(h10:c.kind=10):c.words.length=1:=by
 obtain⟨k,w,l⟩:=c;simp at h10;subst h10;rw[Ds]at h;simp at h;exact h.1
theorem yK{t:T}(hl:t.kids.length*56<=140737488355328)(hk0:0<=t.kind)(hk1:t.kind<=10){d:Nat}(hd:1<=d)(hd1:d<=1000)(hw:∀c,c∈t.kids->Ay c)(ih:∀c,c∈t.kids->∀d:Nat,d<=1000->G.Spec Tryz.prog 11 [tX c,iv d] (bv (AW d c))):∀(m i:Nat)(H:Hp),i+m=t.kids.length->H [0]=⟨1,.cells (tL t)⟩ ->
  (Ih (d-1) t.kind (t.kids.drop i)=true->∀i' q H',Q (.exit 0) ⟨lk [(1,iv d),(2,.pob [0] 1 0),(5,iv i'),(82,bv q)],H'⟩)->(Ih (d-1) t.kind (t.kids.drop i)=false->∀H',Q .ret ⟨lk [(4,bv false)],H'⟩) ->
  LoopC (cx Tryz.prog w0 I0 n0) CS Q ⟨lk [(1,iv d),(2,.pob [0] 1 0),(5,iv i)],H⟩:=by
 intro m;induction m with
 |zero=>
  intro i H hi hA h1 h2;have:i=t.kids.length:=oF
  subst this;refine Ab Ah (Ao CS.eq_1) ?_;simp[hA];exact h1 iS _ _ _
 |succ m ihm=>
  intro i H hi hA h1 h2;have hlt:i<t.kids.length:=oF
  have e:t.kids.drop i=t.kids[i]::t.kids.drop (i+1):=List.drop_eq_getElem_cons hlt;have ei:=Ap i;have ed:i64.wrap ((d:Int)-1)=((d-1:Nat):Int):=AU;rw[e,i7]at h1 h2;have hwc:=hw _ (Bv hlt);have ihc:=ih _ (Bv hlt) (d-1) oF;generalize hc:t.kids[i]=c at *;refine Ab Ah (Ao CS.eq_1) ?_;simp[hA,hlt,hc,Aa,ed];refine Ae ihc rfl ?_;cases hr:AW (d-1) c with
  |false=>
   simp;exact h2 (by simp[hr]) _
  |true=>
   rw[hr]at h1 h2;have good:Fe t.kind c=true->∀H',H' [0]=⟨1,.cells (tL t)⟩->LoopC (cx Tryz.prog w0 I0 n0) CS Q ⟨lk [(1,iv d),(2,.pob [0] 1 0),(5,iv ((i:Int)+1))],H'⟩:=fun hg H' hA'=>
    ihm (i+1) H' oF hA' (fun hh=>h1 (by simp[hg,hh])) (fun hh=>h2 (by simp[hh]))
   have bad:Fe t.kind c=false->∀H',Q .ret ⟨lk [(4,bv false)],H'⟩:=fun hg=>h2 (by simp[hg]);rw[show((i+1:Nat):Int)=(i:Int)+1 from rfl]at ei;by_cases hD:2<=t.kind/\t.kind<=7
   ·obtain⟨d2,d7⟩:=hD;have d9:¬t.kind=9:=oF
    by_cases h10:c.kind=10
    ·obtain⟨x,hx,hx64⟩:=sv hwc (dP hr h10);have hk:Fe t.kind c=cO (t.kind-2) x:=by simp[Fe,Jt,d2,d7,d9,h10,hx]
     have e2:i64.wrap (t.kind-2)=t.kind-2:=CX;simp[Aa,hA,d2,d7,d9,h10,hx,e2];refine CE rfl (fun _=>ny hx64) (fun _=>rfl) rfl ?_;cases hf:cO (t.kind-2) x with
     |false=>simp;exact bad (by rw[hk,hf]) _
     |true=>simp[ei];exact good (by rw[hk,hf]) _ (by simp[Aa,hA])
    ·have hk:Fe t.kind c=false:=by simp[Fe,Jt,d2,d7,d9,h10]
     simp[Aa,hA,d2,d7,d9,h10];refine Bx rfl ?_;simp;exact bad hk _
   ·have hD':(decide (2<=t.kind)&&decide (t.kind<=7))=false:=by simp;omega
    by_cases h10:c.kind=10
    ·have hk:Fe t.kind c=false:=by simp[Fe,Jt,hD',h10]
     simp[Aa,hA,hD',h10];refine Bx rfl ?_;simp;exact bad hk _
    ·by_cases h9:t.kind=9
     ·by_cases h1':c.kind=1
      ·have hk:Fe t.kind c=true:=by simp[Fe,Jt,hD',h9,h1']
       rw[h9]at hD';simp[Aa,hA,hD',h10,h9,h1'];refine Bx rfl ?_;simp[ei];exact good hk _ (by simp[Aa,hA])
      ·have hk:Fe t.kind c=false:=by simp[Fe,Jt,hD',h9,h1',h10]
       rw[h9]at hD';simp[Aa,hA,hD',h10,h9,h1'];refine Bx rfl ?_;simp;exact bad hk _
     ·have hk:Fe t.kind c=true:=by simp[Fe,Jt,hD',h9,h10]
      simp[Aa,hA,hD',h10,h9];refine Bx rfl ?_;simp[ei];exact good hk _ (by simp[Aa,hA])
theorem jM:∀(t:T),Ay t->∀d:Nat,d<=1000->G.Spec Tryz.prog 11 [tX t,iv d] (bv (AW d t)):=by
 refine T.ind fun k w l ih hw d hd=>?_;have hw':=wfT_iff.1 hw;have hwl:=hw'.wl;have hkl:=hw'.kl;simp at hwl hkl;refine Aj S9 iS fun w0 I0=>?_;rw[BG LS.eq_1];rw[Ds];by_cases h0:k=0
 ·simp[h0];exact BJ (by cases w<;>cases l<;>simp<;>(rw[<-List.length_eq_zero_iff];omega))
 by_cases h10:k=10
 ·simp[h10];exact BJ (by cases w<;>cases l<;>simp<;>(rw[<-List.length_eq_zero_iff];omega))
 rw[if_neg h0,if_neg h10];have bad:Fg k d w.length l.length=true->∀H,Iz H (bv false) (bv (if Fg k d w.length l.length=true then false else Ih (d-1) k l)):=fun hb H=>BJ (by simp[hb]);by_cases ha:k<0\/10<k\/d=0\/65536<=w.length
 ·have ha':(decide (k<0)|| decide (10<k)|| decide (d=0)|| decide (65536<=(w.length:Int)))=true:=by simp;omega
  simp[h0,h10,ha'];have:=bad (by simp[Fg];omega) (HO [([0],{ u:=1,ob:=Ob.cells [iv k,C7 w,AV l] })]);simpa using this
 have ha':(decide (k<0)|| decide (10<k)|| decide (d=0)|| decide (65536<=(w.length:Int)))=false:=by simp;omega
 by_cases h1:k=1/\65536<=l.length
 ·have hl:(65536:Int)<=l.length:=oF
  simp[h0,h10,ha',h1.1,hl];have:=bad (by simp[Fg];omega) (HO [([0],{ u:=1,ob:=Ob.cells [iv k,C7 w,AV l] })]);simpa[h1.1]using this
 by_cases h2:1048576<=l.length
 ·have hl:(1048576:Int)<=l.length:=oF
  have hk1:¬k=1:=oF
  simp[h0,h10,ha',hk1,hl];have:=bad (by simp[Fg];omega) (HO [([0],{ u:=1,ob:=Ob.cells [iv k,C7 w,AV l] })]);simpa using this
 have hl2:¬(1048576:Int)<=l.length:=oF
 by_cases h3:1<k/\0<w.length
 ·have hk1:¬k=1:=oF
  have hw0:w≠[]:=fun e=>by simp[e]at h3
  simp[h0,h10,ha',hk1,hl2,h3.1,h3.2,hw0];have:=bad (by simp[Fg];omega) (HO [([0],{ u:=1,ob:=Ob.cells [iv k,C7 w,AV l] })]);simpa using this
 have hb:Fg k d w.length l.length=false:=by
  rw[Bool.eq_false_iff];unfold Fg;simp only[Bool.or_eq_true,Bool.and_eq_true,decide_eq_true_eq,ne_eq];omega
 have hw0:(1<k->w=[]):=fun h=>List.eq_nil_of_length_eq_zero oF;have fin:LoopC (cx Tryz.prog w0 I0 132) CS (BA 0 (Ej (WPC (cx Tryz.prog w0 I0 132) (.keep [] (.seq (.reg [co (some 4) (.assign (.const (.bool true))) none] [4]) .ret)) (Rn Tryz.prog [.tmp 4] (bv (Ih (d-1) k l)))) (Rn Tryz.prog [.tmp 4] (bv (Ih (d-1) k l))))) ⟨lk [(1,iv d),(2,.pob [0] 1 0),(5,iv 0)],HO [([0],⟨1,.cells [iv k,C7 w,AV l]⟩)]⟩:=by
  refine yK (t:=.mk k w l) (by simpa using hkl) (by simp;omega) (by simp;omega) oF hd (fun c hc=>hw'.ks c hc) (fun c hc=>ih c hc (hw'.ks c hc)) l.length 0 _ iS iS (fun hr i' q H'=>?_) (fun hr H'=>?_)
  ·simp;exact BJ (by simpa using hr.symm)
  ·simp;exact BJ (by simpa using hr.symm)
 rw[if_neg (by simp[hb])];by_cases k1:k=1
 ·have hl3:¬(65536:Int)<=l.length:=oF
  have ha1:(decide (d=0)|| decide (65536<=(w.length:Int)))=false:=by simp;omega
  simp[ha1,k1,hl2,hl3];simpa[k1]using fin
 ·simp[h0,h10,ha',k1,hl2];refine⟨fun a b=>absurd ⟨a,oF⟩ h3,fun _=>?_⟩;exact fin
end Go.Proofs.YtlaapfplenlfaaaGreat
namespace Go.G
open Go.RowKit
structure Fam where
 F:Nat->Nm->VOb
 ren:∀{g:Nm->Nm} {δ:Nm->Nat} {r r':Nat},(∀p,g (r::p)=r'::p)->(∀p,δ (r::p)=0)->∀p,(F r p).ren g δ 0=F r' p
 refs:∀{D:Nm->Prop} {r:Nat},(∀p,D (r::p))->∀p,(F r p).ob.refs D
def Fam.no:Fam:=⟨fun _ _=>⟨0,.none⟩,fun _ _ _=>rfl,fun _ _=>trivial⟩
@[simp]theorem Fam.no_F{r:Nat}{p:Nm}:Fam.no.F r p=⟨0,.none⟩:=rfl
structure F5(a:Nat->A):Prop where
 ren:∀{g:Nm->Nm} {δ:Nm->Nat} {r r':Nat},(∀p,g (r::p)=r'::p)->(∀p,δ (r::p)=0)->(a r).ren g δ=a r'
 refs:∀{D:Nm->Prop} {r:Nat},(∀p,D (r::p))->(a r).refs D
structure FamL(a:Nat->List A):Prop where
 ren:∀{g:Nm->Nm} {δ:Nm->Nat} {r r':Nat},(∀p,g (r::p)=r'::p)->(∀p,δ (r::p)=0)->A.renL g δ (a r)=a r'
 refs:∀{D:Nm->Prop} {r:Nat},(∀p,D (r::p))->A.refsL D (a r)
@[simp]theorem Ak:FamL (fun _=>[]):=⟨fun _ _=>by simp[A.renL],fun _=>by simp[A.refsL]⟩
theorem Af{a:Nat->A}{l:Nat->List A}(h:F5 a)(k:FamL l):FamL (fun r=>a r::l r):=⟨fun h1 h2=>by simp[A.renL,h.ren h1 h2,k.ren h1 h2],fun h1=>by simp only[A.refsL];exact⟨h.refs h1,k.refs h1⟩⟩
theorem FamL.all{l:List A}(h:∀x,x∈l->F5 (fun _=>x)):FamL (fun _=>l):=by
 induction l with
 |nil=>simp
 |cons x l ih=>exact Af (h x iS) (ih fun y hy=>h y (by simp[hy]))
@[simp]theorem Aix:F5 (fun _=>.any):=⟨fun _ _=>by simp[A.ren],fun _=>by simp[A.refs]⟩
@[simp]theorem AH{x:Value}:F5 (fun _=>.v x):=⟨fun _ _=>by simp[A.ren],fun _=>by simp[A.refs]⟩
@[simp]theorem Bp{f:Bool}{xs:List A}:F5 (fun _=>.sl f xs):=⟨fun _ _=>by simp[A.ren],fun _=>by simp[A.refs]⟩
@[simp]theorem AgI{xs:List A}:F5 (fun _=>.pim xs):=⟨fun _ _=>by simp[A.ren],fun _=>by simp[A.refs]⟩
@[simp]theorem AB{u off:Nat}{q:Nm}:F5 (fun r=>.pob (r::q) u off):=⟨fun h1 h2=>by simp[A.ren,h1,h2],fun h=>by simp[A.refs,h]⟩
@[simp]theorem BH{u sz off len:Nat}{q:Nm}:F5 (fun r=>.osl (r::q) u sz off len):=⟨fun h1 h2=>by simp[A.ren,h1,h2],fun h=>by simp[A.refs,h]⟩
@[simp]theorem xG{l:Nat->List A}(h:FamL l):F5 (fun r=>.agg (l r)):=⟨fun h1 h2=>by simp[A.ren,h.ren h1 h2],fun h1=>by simp only[A.refs];exact h.refs h1⟩
@[simp]theorem Bj{l:Nat->List A}(h:FamL l):F5 (fun r=>.tup (l r)):=⟨fun h1 h2=>by simp[A.ren,h.ren h1 h2],fun h1=>by simp only[A.refs];exact h.refs h1⟩
@[simp]theorem kg{f:FuncId}{l m:Nat->List A}(h:FamL l)(k:FamL m):F5 (fun r=>.fnc f (l r) (m r)):=⟨fun h1 h2=>by simp[A.ren,h.ren h1 h2,k.ren h1 h2],fun h1=>by simp only[A.refs];exact⟨h.refs h1,k.refs h1⟩⟩
@[simp]theorem Pm{t:TypeId}{a:Nat->A}(h:F5 a):F5 (fun r=>.ifc t (a r)):=⟨fun h1 h2=>by simp[A.ren,h.ren h1 h2],fun h1=>by simp only[A.refs];exact h.refs h1⟩
theorem m9{a:A}(h:a.bare1=true):F5 (fun _=>a):=by cases a<;>simp[A.bare1]at h ⊢
theorem Fb{a:A}{cs:List A}(ha:a=.agg cs)(h:∀x,x∈cs->x.bare1=true):F5 (fun _=>a):=by
 subst ha;exact xG (l:=fun _=>cs) (FamL.all fun x hx=>m9 (h x hx))
theorem Fam.cells_ren{g:Nm->Nm}{δ:Nm->Nat}{u:Nat}{l l':List A}(h:A.renL g δ l=l'):VOb.ren g δ 0 ⟨u,.cells l⟩=⟨u,.cells l'⟩:=by simp[VOb.ren,Ob.ren,h]
theorem Fam.arr_ren{g:Nm->Nm}{δ:Nm->Nat}{u sz:Nat}{l l':List A}(h:A.renL g δ l=l'):VOb.ren g δ 0 ⟨u,.arr sz l⟩=⟨u,.arr sz l'⟩:=by simp[VOb.ren,Ob.ren,h]
structure SpecF(P:Program)(f:FuncId)(as':Nat->List A)(F:Fam)(x:Nat->A)(F':Fam):Prop where
 fa:FamL as'
 fx:F5 x
 h:SpecH P f 1 (as' 0) (ov 0 (F.F 0) (HO [])) (x 0) (ov 0 (F'.F 0) (HO []))
section
variable {P:Program} {K:Sta->Prop} {rest:List CO} {s:Nat->A} {H:Hp} {dd:Option Nat} {nm:Nm} {ix:Nat} {un:List Nat} {l:Bool} {lg:Lg} {g:FuncId} {aa:Array Operand} {ts:Array TypeId}
theorem od{r:Nat}{F:Fam}(hF:∀p,H (r::p)=F.F r p):Ni [r] 1 H=ov 0 (F.F 0) (HO []):=by
 funext o;cases o with
 |nil=>rfl
 |cons i p=>
  by_cases hi:i<1
  ·have:i=0:=oF
   subst this;simp only[Ni,if_pos hi,A6,if_true];show(H (r::p)).ren _ _ 0=_;rw[hF];exact F.ren (fun q=>by simp[Vh]) (fun _=>rfl) p
  ·simp only[Ni,if_neg hi,A6];rw[if_neg oF];rfl
theorem fT{r:Nat}{F':Fam}:NU [r] (Pd [r] 1 H) H (ov 0 (F'.F 0) (HO []))=ov r (F'.F r) H:=by
 have hd:∀p,Pd [r] 1 H (0::p)=0:=fun p=>rfl;funext o;cases o with
 |nil=>rfl
 |cons j p=>
  by_cases hj:j=r
  ·subst hj;simp only[NU,A6,if_true];rw[if_pos iS];have:[j].idxOf j=0:=iS
   rw[this,if_pos rfl,hd];exact F'.ren (fun q=>by simp[Q0]) hd p
  ·have:¬[r].contains j=true:=by simpa using hj
   simp only[NU,if_neg this,A6,if_neg hj]
theorem Tc{r:Nat}{F:Fam}(hF:∀p,H (r::p)=F.F r p):XJ [r] 1 H:=by
 intro j p hj;have hjr:j=r:=by
  have:=(idx_mem (rs:=[r])).1 (by simpa using hj);simpa using this
 rw[hjr,hF];exact F.refs (fun q=>by simp[RH]) p
theorem Zx{F':Fam}(i:Nat)(p:Nm)(hi:i<1):((ov 0 (F'.F 0) (HO [])) (i::p)).ob.refs (HG 1):=by
 have:i=0:=oF
 subst this;simp only[A6,if_true];exact F'.refs (fun q=>by simp[HG]) p
theorem Au{as':Nat->List A}{F F':Fam}{x:Nat->A}(r:Nat)(hS:SpecF P g as' F x F')(hF:∀p,H (r::p)=F.F r p)(ha:aa.toList.map (evs s)=as' r)(hck:Ck un lg ⟨[],[([r],true)]⟩)
  (h:AE P K rest (Cc l ix ⟨[],[([r],true)]⟩ lg) (Sta.put ⟨s,H⟩ dd (x r) (ov r (F'.F r) H))) :
  AE P K (⟨dd,.call { callee:=.value (.func g),args:=aa,argTypes:=ts },none,nm,ix,un,l⟩::rest) lg ⟨s,H⟩:=by
 have hd:∀p,Pd [r] 1 H (0::p)=0:=fun p=>rfl;refine X4 [r] 1 hS.h iS iS ?_ ?_ (od hF) (Tc hF) (hS.fx.refs (fun p=>by simp[HG])) (fun i p hi=>Zx i p hi) (fun i p h1 h2=>by simp at h2;omega) (hS.fx.ren (fun q=>by simp[Q0]) hd) fT hck h
 ·rw[ha];exact hS.fa.ren (fun q=>by simp[Vh]) (fun _=>rfl)
 ·rw[ha];exact hS.fa.refs (fun q=>by simp[RH])
theorem XL{as':Nat->List A}{F F':Fam}{x:Nat->A}{fo:Operand}{fs caps:List A}(r:Nat)(hv0:evs s fo=.fnc g fs caps)(hS:SpecF P g as' F x F')(hF:∀p,H (r::p)=F.F r p)(ha:fs++(aa.toList.map (evs s)++caps)=as' r)(hck:Ck un lg ⟨[],[([r],true)]⟩)
  (h:AE P K rest (Cc l ix ⟨[],[([r],true)]⟩ lg) (Sta.put ⟨s,H⟩ dd (x r) (ov r (F'.F r) H))) :
  AE P K (⟨dd,.call { callee:=.value fo,args:=aa,argTypes:=ts },none,nm,ix,un,l⟩::rest) lg ⟨s,H⟩:=by
 have hd:∀p,Pd [r] 1 H (0::p)=0:=fun p=>rfl;refine bJ hv0 ha [r] 1 hS.h iS iS (hS.fa.ren (fun q=>by simp[Vh]) (fun _=>rfl)) (hS.fa.refs (fun q=>by simp[RH])) (od hF) (Tc hF) (hS.fx.refs (fun p=>by simp[HG])) (fun i p hi=>Zx i p hi) (fun i p h1 h2=>by simp at h2;omega) (hS.fx.ren (fun q=>by simp[Q0]) hd) fT hck h
end
section
variable {P:Program} {K:Sta->Prop} {rest:List CO} {s:Nat->A} {H:Hp} {dd:Option Nat} {nm:Nm} {ix:Nat} {un:List Nat} {l:Bool} {lg:Lg} {g:FuncId} {aa:Array Operand} {ts:Array TypeId}
theorem a8{as':Nat->List A}{F F':Fam}{x:Nat->A}(r:Nat)(hS:SpecF P g as' F x F')(hF:∀p,H (r::p)=F.F r p):∃E,Zp P H g (as' r) (x r) E [] [([r],true)]/\E.app H=ov r (F'.F r) H:=by
 have hd:∀p,Pd [r] 1 H (0::p)=0:=fun p=>rfl;have:=pJ (H:=H) (L:=as' r) [r] 1 hS.h iS iS (hS.fa.ren (fun q=>by simp[Vh]) (fun _=>rfl)) (hS.fa.refs (fun q=>by simp[RH])) (od hF) (Tc hF) (hS.fx.refs (fun p=>by simp[HG])) (fun i p hi=>Zx i p hi) (fun i p h1 h2=>by simp at h2;omega) fT;have e:A.ren (Q0 [r]) (Pd [r] 1 H) (x 0)=x r:=hS.fx.ren (fun q=>by simp[Q0]) hd;rw[e]at this;exact this
theorem JK{as':Nat->List A}{F F':Fam}{x:Nat->A}{ro:Operand}{name:String}{t:TypeId}{a a':A}{d:Option TypeId}(r:Nat)(hS:SpecF P g as' F x F')(hF:∀p,H (r::p)=F.F r p)(hr:evs s ro=.ifc t a)(hm:RN P t name=some (g,d))(ha:bc P H d a=some a')(hL:a'::aa.toList.map (evs s)=as' r)
  (hck:Ck un lg ⟨refs a++[],[([r],true)]⟩) (h:AE P K rest (Cc l ix ⟨refs a++[],[([r],true)]⟩ lg) (Sta.put ⟨s,H⟩ dd (x r) (ov r (F'.F r) H))) :
  AE P K (⟨dd,.call { callee:=.invoke ro name,args:=aa,argTypes:=ts },none,nm,ix,un,l⟩::rest) lg ⟨s,H⟩:=
 AcS hr hm ha hL (a8 r hS hF) hck h
end
theorem Ajf{r:Nat}{F F':Nm->VOb}{H:Hp}:ov r F (ov r F' H)=ov r F H:=by
 funext o;cases o with
 |nil=>rfl
 |cons j p=>by_cases hj:j=r<;>simp[hj]
@[simp]theorem Alj{r:Nat}{F F':Nm->VOb}{H:Hp}:ov r F (ov r F' H)=ov r F H:=Ajf
theorem Az{P:Program}{f:FuncId}{n:Nat}{rs:List ResultVar}{cc:CC}{as':Nat->List A}{F F':Fam}{x:Nat->A}(t:Bs P f n rs cc)(ha:(as' 0).length<=n)(h0:FamL as')(h1:F5 x)
  (h:∀w0 I0 M0 m0,WPC (En P w0 I0 M0 n m0) cc (Pf (En P w0 I0 M0 n m0) rs 1 (x 0) (ov 0 (F'.F 0) (HO []))) ⟨Rp (as' 0),ov 0 (F.F 0) (HO [])⟩):SpecF P f as' F x F':=
 ⟨h0,h1,YR t ha h⟩
theorem Av{c:Cx}{rs:List ResultVar}{x:A}{F':Nm->VOb}{r0:A}{st:Sta}(h:HX c.P st rs=some r0)(he:r0=x)(hh:∀p,st.H (0::p)=F' p):Pf c rs 1 x (ov 0 F' (HO [])) .ret st:=
 ZG h he fun i p hi=>by
  have:i=0:=oF
  subst this;rw[hh];simp
theorem Bg{c:Cx}{rs:List ResultVar}{x:A}{F':Nm->VOb}{r0:A}{st:Sta}(h:HX c.P st rs=some r0)(he:r0=x)(hh:∀p,st.H (0::p)=F' p):Pf c rs 1 x (ov 0 F' (HO [])) .normal st:=
 WD h he fun i p hi=>by
  have:i=0:=oF
  subst this;rw[hh];simp
structure Uo(a:Nat->Nat->A):Prop where
 ren:∀{g:Nm->Nm} {δ:Nm->Nat} {r r' q q':Nat},(∀p,g (r::p)=r'::p)->(∀p,δ (r::p)=0)->(∀p,g (q::p)=q'::p)->(∀p,δ (q::p)=0)->(a r q).ren g δ=a r' q'
 refs:∀{D:Nm->Prop} {r q:Nat},(∀p,D (r::p))->(∀p,D (q::p))->(a r q).refs D
structure Yo(a:Nat->Nat->List A):Prop where
 ren:∀{g:Nm->Nm} {δ:Nm->Nat} {r r' q q':Nat},(∀p,g (r::p)=r'::p)->(∀p,δ (r::p)=0)->(∀p,g (q::p)=q'::p)->(∀p,δ (q::p)=0)->A.renL g δ (a r q)=a r' q'
 refs:∀{D:Nm->Prop} {r q:Nat},(∀p,D (r::p))->(∀p,D (q::p))->A.refsL D (a r q)
@[simp]theorem E6:Yo (fun _ _=>[]):=⟨fun _ _ _ _=>by simp[A.renL],fun _ _=>by simp[A.refsL]⟩
theorem AF{a:Nat->Nat->A}{l:Nat->Nat->List A}(h:Uo a)(k:Yo l):Yo (fun r q=>a r q::l r q):=⟨fun h1 h2 h3 h4=>by simp[A.renL,h.ren h1 h2 h3 h4,k.ren h1 h2 h3 h4],fun h1 h2=>by simp only[A.refsL];exact⟨h.refs h1 h2,k.refs h1 h2⟩⟩
theorem BD{a:Nat->A}(h:F5 a):Uo (fun r _=>a r):=⟨fun h1 h2 _ _=>h.ren h1 h2,fun h1 _=>h.refs h1⟩
theorem JN{a:Nat->A}(h:F5 a):Uo (fun _ q=>a q):=⟨fun _ _ h1 h2=>h.ren h1 h2,fun _ h1=>h.refs h1⟩
theorem cY{l:Nat->Nat->List A}(h:Yo l):Uo (fun r q=>.tup (l r q)):=⟨fun h1 h2 h3 h4=>by simp[A.ren,h.ren h1 h2 h3 h4],fun h1 h2=>by simp only[A.refs];exact h.refs h1 h2⟩
structure pf(P:Program)(f:FuncId)(as':Nat->List A)(F:Fam)(x:Nat->Nat->A)(F' N:Fam):Prop where
 fa:FamL as'
 fx:Uo x
 n:∀p,(N.F 1 p).ob=.none\/1<=(N.F 1 p).u
 h:SpecH P f 2 (as' 0) (ov 0 (F.F 0) (HO [])) (x 0 1) (ov 0 (F'.F 0) (ov 1 (N.F 1) (HO [])))
section
variable {P:Program} {K:Sta->Prop} {rest:List CO} {s:Nat->A} {H:Hp} {dd:Option Nat} {nm:Nm} {ix:Nat} {un:List Nat} {l:Bool} {lg:Lg} {g:FuncId} {aa:Array Operand} {ts:Array TypeId}
theorem dF{as':Nat->List A}{F F' N:Fam}{x:Nat->Nat->A}(r q:Nat)(hrq:r≠q)(hS:pf P g as' F x F' N)(hF:∀p,H (r::p)=F.F r p)(hq:∀p,(H (q::p)).u=0)(ha:aa.toList.map (evs s)=as' r)(hck:Ck un lg ⟨[],[([r],true),([q],true)]⟩)
  (h:AE P K rest (Cc l ix ⟨[],[([r],true),([q],true)]⟩ lg) (Sta.put ⟨s,H⟩ dd (x r q) (ov r (F'.F r) (ov q (N.F q) H)))) :
  AE P K (⟨dd,.call { callee:=.value (.func g),args:=aa,argTypes:=ts },none,nm,ix,un,l⟩::rest) lg ⟨s,H⟩:=by
 have hd:∀p,Pd [r,q] 1 H (0::p)=0:=fun p=>rfl;have hd1:∀p,Pd [r,q] 1 H (1::p)=0:=fun p=>by
  simp only[Pd];rw[if_neg oF,if_pos iS];exact hq p
 have i0:[r,q].idxOf r=0:=iS
 have i1:[r,q].idxOf q=1:=by simp[List.idxOf_cons,beq_eq_false_iff_ne.2 hrq]
 refine X4 [r,q] 1 hS.h (by simp[hrq]) iS ?_ ?_ ?_ ?_ (hS.fx.refs (fun p=>by simp[HG]) (fun p=>by simp[HG])) ?_ ?_ (hS.fx.ren (fun p=>by simp[Q0]) hd (fun p=>by simp[Q0]) hd1) ?_ hck h
 ·rw[ha];exact hS.fa.ren (fun p=>by simp[Vh]) (fun _=>rfl)
 ·rw[ha];exact hS.fa.refs (fun p=>by simp[RH])
 ·funext o;cases o with
  |nil=>rfl
  |cons i p=>
   by_cases hi:i<1
   ·have:i=0:=oF
    subst this;simp only[Ni,if_pos hi,A6,if_true];show(H (r::p)).ren _ _ 0=_;rw[hF];exact F.ren (fun q=>by simp[Vh]) (fun _=>rfl) p
   ·simp only[Ni,if_neg hi,A6];rw[if_neg oF];rfl
 ·intro j p hj;have hjr:j=r:=by
   by_cases e:r=j
   ·exact e.symm
   ·simp only[List.idxOf_cons,beq_eq_false_iff_ne.2 e]at hj;simp at hj
  rw[hjr,hF];exact F.refs (fun q=>by simp[RH]) p
 ·intro i p hi;have hi:i<2:=hi;by_cases h0:i=0
  ·subst h0;simp only[A6,if_true];exact F'.refs (fun q=>by simp[HG]) p
  ·have:i=1:=oF
   subst this;simp only[A6,if_true];rw[if_neg oF];exact N.refs (fun q=>by simp[HG]) p
 ·intro i p hi hi2;have:i=1:=by simp at hi2;omega
  subst this;simp only[A6,if_true];rw[if_neg oF];exact hS.n p
 ·funext o;cases o with
  |nil=>rfl
  |cons j p=>
   by_cases hj:j=r
   ·subst hj;simp only[NU,A6,if_true];rw[if_pos iS,i0,if_pos rfl,hd];exact F'.ren (fun q=>by simp[Q0]) hd p
   ·by_cases hj2:j=q
    ·subst hj2;simp only[NU,A6,if_true,if_neg hj];rw[if_pos iS,i1,if_neg oF,if_pos rfl,hd1];exact N.ren (fun q=>by simp[Q0]) hd1 p
    ·have:¬[r,q].contains j=true:=by simp[hj,hj2]
     simp only[NU,if_neg this,A6,if_neg hj,if_neg hj2]
end
theorem kJ{P:Program}{f:FuncId}{n:Nat}{rs:List ResultVar}{cc:CC}{as':Nat->List A}{F F' N:Fam}{x:Nat->Nat->A}(t:Bs P f n rs cc)(ha:(as' 0).length<=n)(h0:FamL as')(h1:Uo x)(hn:∀p,(N.F 1 p).ob=.none\/1<=(N.F 1 p).u)
  (h:∀w0 I0 M0 m0,WPC (En P w0 I0 M0 n m0) cc (Pf (En P w0 I0 M0 n m0) rs 2 (x 0 1) (ov 0 (F'.F 0) (ov 1 (N.F 1) (HO [])))) ⟨Rp (as' 0),ov 0 (F.F 0) (HO [])⟩):pf P f as' F x F' N:=
 ⟨h0,h1,hn,YR t ha h⟩
theorem KU{c:Cx}{rs:List ResultVar}{x:A}{F' N:Nm->VOb}{r0:A}{st:Sta}(h:HX c.P st rs=some r0)(he:r0=x)(hh:∀p,st.H (0::p)=F' p)(hn:∀p,st.H (1::p)=N p):Pf c rs 2 x (ov 0 F' (ov 1 N (HO []))) .ret st:=
 ZG h he fun i p hi=>by
  by_cases h0:i=0
  ·subst h0;rw[hh];simp
  ·have:i=1:=oF
   subst this;rw[hn];simp
def sc(u sz:Nat)(xs:List A)(h:∀x,x∈xs->F5 (fun _=>x)):Fam:=⟨fun _ p=>if p=[]then ⟨u,.arr sz xs⟩else ⟨0,.none⟩,fun {g δ r r'} hg hd p=>by
  by_cases hp:p=[]
  ·rw[if_pos hp];exact Fam.arr_ren ((FamL.all h).ren hg hd)
  ·rw[if_neg hp];rfl,fun {D r} hD p=>by
  by_cases hp:p=[]
  ·rw[if_pos hp];exact(FamL.all h).refs hD
  ·rw[if_neg hp];trivial⟩
@[simp]theorem Amk{u sz:Nat}{xs:List A}{h:∀x,x∈xs->F5 (fun _=>x)}{r:Nat}{p:Nm}:(sc u sz xs h).F r p=if p=[]then ⟨u,.arr sz xs⟩else ⟨0,.none⟩:=rfl
structure Vi where
 B:Nat->Nat->Nm->VOb
 C:Nat->Nat->Nm->VOb
 ren:∀{g:Nm->Nm} {δ:Nm->Nat} {r r' q q':Nat},(∀p,g (r::p)=r'::p)->(∀p,δ (r::p)=0)->(∀p,g (q::p)=q'::p)->(∀p,δ (q::p)=0)->∀p,(B r q p).ren g δ 0=B r' q' p/\(C r q p).ren g δ 0=C r' q' p
 refs:∀{D:Nm->Prop} {r q:Nat},(∀p,D (r::p))->(∀p,D (q::p))->∀p,(B r q p).ob.refs D/\(C r q p).ob.refs D
def Fam.two(F G:Fam):Vi:=⟨fun r _=>F.F r,fun _ q=>G.F q,fun h1 h2 h3 h4 p=>⟨F.ren h1 h2 p,G.ren h3 h4 p⟩,fun h1 h2 p=>⟨F.refs h1 p,G.refs h2 p⟩⟩
@[simp]theorem Anp{F G:Fam}{r q:Nat}:(F.two G).B r q=F.F r:=rfl
@[simp]theorem AhQ{F G:Fam}{r q:Nat}:(F.two G).C r q=G.F q:=rfl
structure MR(P:Program)(f:FuncId)(as':Nat->Nat->List A)(F:Vi)(x:Nat->Nat->A)(F':Vi):Prop where
 fa:Yo as'
 fx:Uo x
 h:SpecH P f 2 (as' 0 1) (ov 0 (F.B 0 1) (ov 1 (F.C 0 1) (HO []))) (x 0 1) (ov 0 (F'.B 0 1) (ov 1 (F'.C 0 1) (HO [])))
section
variable {P:Program} {K:Sta->Prop} {rest:List CO} {s:Nat->A} {H:Hp} {dd:Option Nat} {nm:Nm} {ix:Nat} {un:List Nat} {l:Bool} {lg:Lg} {g:FuncId} {aa:Array Operand} {ts:Array TypeId}
theorem Mt{as':Nat->Nat->List A}{F F':Vi}{x:Nat->Nat->A}(r q:Nat)(hrq:r≠q)(hS:MR P g as' F x F')(hF:∀p,H (r::p)=F.B r q p)(hG:∀p,H (q::p)=F.C r q p)(ha:aa.toList.map (evs s)=as' r q)(hck:Ck un lg ⟨[],[([r],true),([q],true)]⟩)
  (h:AE P K rest (Cc l ix ⟨[],[([r],true),([q],true)]⟩ lg) (Sta.put ⟨s,H⟩ dd (x r q) (ov r (F'.B r q) (ov q (F'.C r q) H)))) :
  AE P K (⟨dd,.call { callee:=.value (.func g),args:=aa,argTypes:=ts },none,nm,ix,un,l⟩::rest) lg ⟨s,H⟩:=by
 have hd:∀p,Pd [r,q] 2 H (0::p)=0:=fun p=>rfl;have hd1:∀p,Pd [r,q] 2 H (1::p)=0:=fun p=>rfl;have i0:[r,q].idxOf r=0:=iS
 have i1:[r,q].idxOf q=1:=by simp[List.idxOf_cons,beq_eq_false_iff_ne.2 hrq]
 have d0:∀p,Vh [r,q] (r::p)=0::p:=fun p=>by simp[Vh]
 have d1:∀p,Vh [r,q] (q::p)=1::p:=fun p=>by simp[Vh,i1]
 have jin:∀{j:Nat},[r,q].idxOf j<2->j=r\/j=q:=fun {j} hj=>by
  have:=(idx_mem (rs:=[r,q])).1 (by simpa using hj);simpa using this
 refine X4 [r,q] 2 hS.h (by simp[hrq]) iS ?_ ?_ ?_ ?_ (hS.fx.refs (fun p=>by simp[HG]) (fun p=>by simp[HG])) ?_ (fun i p h1 h2=>by simp at h2;omega) (hS.fx.ren (fun p=>by simp[Q0]) hd (fun p=>by simp[Q0]) hd1) ?_ hck h
 ·rw[ha];exact hS.fa.ren d0 (fun _=>rfl) d1 (fun _=>rfl)
 ·rw[ha];exact hS.fa.refs (fun p=>by simp[RH]) (fun p=>by simp[RH,i1])
 ·funext o;cases o with
  |nil=>rfl
  |cons i p=>
   by_cases hi:i<2
   ·simp only[Ni,if_pos hi];have h01:i=0\/i=1:=oF
    rcases h01 with rfl|rfl
    ·show(H (r::p)).ren _ _ 0=_;rw[hF];simp only[A6,if_true];exact(F.ren d0 (fun _=>rfl) d1 (fun _=>rfl) p).1
    ·show(H (q::p)).ren _ _ 0=_;rw[hG];simp only[A6,if_true];rw[if_neg oF];exact(F.ren d0 (fun _=>rfl) d1 (fun _=>rfl) p).2
   ·simp only[Ni,if_neg hi,A6];rw[if_neg oF,if_neg oF];rfl
 ·intro j p hj;rcases jin hj with rfl|rfl
  ·rw[hF];exact(F.refs (fun p=>by simp[RH]) (fun p=>by simp[RH,i1]) p).1
  ·rw[hG];exact(F.refs (fun p=>by simp[RH]) (fun p=>by simp[RH,i1]) p).2
 ·intro i p hi;have hi:i<2:=hi;by_cases h0:i=0
  ·subst h0;simp only[A6,if_true];exact(F'.refs (fun q=>by simp[HG]) (fun q=>by simp[HG]) p).1
  ·have:i=1:=oF
   subst this;simp only[A6,if_true];rw[if_neg oF];exact(F'.refs (fun q=>by simp[HG]) (fun q=>by simp[HG]) p).2
 ·have u0:∀p,Q0 [r,q] (0::p)=r::p:=fun p=>by simp[Q0]
  have u1:∀p,Q0 [r,q] (1::p)=q::p:=fun p=>by simp[Q0]
  funext o;cases o with
  |nil=>rfl
  |cons j p=>
   by_cases hj:j=r
   ·subst hj;simp only[NU,A6,if_true];rw[if_pos iS,i0,if_pos rfl,hd];exact(F'.ren u0 hd u1 hd1 p).1
   ·by_cases hj2:j=q
    ·subst hj2;simp only[NU,A6,if_true,if_neg hj];rw[if_pos iS,i1,if_neg oF,if_pos rfl,hd1];exact(F'.ren u0 hd u1 hd1 p).2
    ·have:¬[r,q].contains j=true:=by simp[hj,hj2]
     simp only[NU,if_neg this,A6,if_neg hj,if_neg hj2]
theorem wY{as':Nat->Nat->List A}{F F':Vi}{x:Nat->Nat->A}{fo:Operand}{fs caps:List A}(r q:Nat)(hv0:evs s fo=.fnc g fs caps)(hrq:r≠q)(hS:MR P g as' F x F')(hF:∀p,H (r::p)=F.B r q p)(hG:∀p,H (q::p)=F.C r q p)(ha:fs++(aa.toList.map (evs s)++caps)=as' r q)(hck:Ck un lg ⟨[],[([r],true),([q],true)]⟩)
  (h:AE P K rest (Cc l ix ⟨[],[([r],true),([q],true)]⟩ lg) (Sta.put ⟨s,H⟩ dd (x r q) (ov r (F'.B r q) (ov q (F'.C r q) H)))) :
  AE P K (⟨dd,.call { callee:=.value fo,args:=aa,argTypes:=ts },none,nm,ix,un,l⟩::rest) lg ⟨s,H⟩:=by
 have hd:∀p,Pd [r,q] 2 H (0::p)=0:=fun p=>rfl;have hd1:∀p,Pd [r,q] 2 H (1::p)=0:=fun p=>rfl;have i0:[r,q].idxOf r=0:=iS
 have i1:[r,q].idxOf q=1:=by simp[List.idxOf_cons,beq_eq_false_iff_ne.2 hrq]
 have d0:∀p,Vh [r,q] (r::p)=0::p:=fun p=>by simp[Vh]
 have d1:∀p,Vh [r,q] (q::p)=1::p:=fun p=>by simp[Vh,i1]
 have jin:∀{j:Nat},[r,q].idxOf j<2->j=r\/j=q:=fun {j} hj=>by
  have:=(idx_mem (rs:=[r,q])).1 (by simpa using hj);simpa using this
 refine bJ hv0 ha [r,q] 2 hS.h (by simp[hrq]) iS ?_ ?_ ?_ ?_ (hS.fx.refs (fun p=>by simp[HG]) (fun p=>by simp[HG])) ?_ (fun i p h1 h2=>by simp at h2;omega) (hS.fx.ren (fun p=>by simp[Q0]) hd (fun p=>by simp[Q0]) hd1) ?_ hck h
 ·exact hS.fa.ren d0 (fun _=>rfl) d1 (fun _=>rfl)
 ·exact hS.fa.refs (fun p=>by simp[RH]) (fun p=>by simp[RH,i1])
 ·funext o;cases o with
  |nil=>rfl
  |cons i p=>
   by_cases hi:i<2
   ·simp only[Ni,if_pos hi];have h01:i=0\/i=1:=oF
    rcases h01 with rfl|rfl
    ·show(H (r::p)).ren _ _ 0=_;rw[hF];simp only[A6,if_true];exact(F.ren d0 (fun _=>rfl) d1 (fun _=>rfl) p).1
    ·show(H (q::p)).ren _ _ 0=_;rw[hG];simp only[A6,if_true];rw[if_neg oF];exact(F.ren d0 (fun _=>rfl) d1 (fun _=>rfl) p).2
   ·simp only[Ni,if_neg hi,A6];rw[if_neg oF,if_neg oF];rfl
 ·intro j p hj;rcases jin hj with rfl|rfl
  ·rw[hF];exact(F.refs (fun p=>by simp[RH]) (fun p=>by simp[RH,i1]) p).1
  ·rw[hG];exact(F.refs (fun p=>by simp[RH]) (fun p=>by simp[RH,i1]) p).2
 ·intro i p hi;have hi:i<2:=hi;by_cases h0:i=0
  ·subst h0;simp only[A6,if_true];exact(F'.refs (fun q=>by simp[HG]) (fun q=>by simp[HG]) p).1
  ·have:i=1:=oF
   subst this;simp only[A6,if_true];rw[if_neg oF];exact(F'.refs (fun q=>by simp[HG]) (fun q=>by simp[HG]) p).2
 ·have u0:∀p,Q0 [r,q] (0::p)=r::p:=fun p=>by simp[Q0]
  have u1:∀p,Q0 [r,q] (1::p)=q::p:=fun p=>by simp[Q0]
  funext o;cases o with
  |nil=>rfl
  |cons j p=>
   by_cases hj:j=r
   ·subst hj;simp only[NU,A6,if_true];rw[if_pos iS,i0,if_pos rfl,hd];exact(F'.ren u0 hd u1 hd1 p).1
   ·by_cases hj2:j=q
    ·subst hj2;simp only[NU,A6,if_true,if_neg hj];rw[if_pos iS,i1,if_neg oF,if_pos rfl,hd1];exact(F'.ren u0 hd u1 hd1 p).2
    ·have:¬[r,q].contains j=true:=by simp[hj,hj2]
     simp only[NU,if_neg this,A6,if_neg hj,if_neg hj2]
end
theorem Iq{P:Program}{f:FuncId}{n:Nat}{rs:List ResultVar}{cc:CC}{as':Nat->Nat->List A}{F F':Vi}{x:Nat->Nat->A}(t:Bs P f n rs cc)(ha:(as' 0 1).length<=n)(h0:Yo as')(h1:Uo x)
  (h:∀w0 I0 M0 m0,WPC (En P w0 I0 M0 n m0) cc (Pf (En P w0 I0 M0 n m0) rs 2 (x 0 1) (ov 0 (F'.B 0 1) (ov 1 (F'.C 0 1) (HO [])))) ⟨Rp (as' 0 1),ov 0 (F.B 0 1) (ov 1 (F.C 0 1) (HO []))⟩):MR P f as' F x F':=
 ⟨h0,h1,YR t ha h⟩
theorem GM{P:Program}{K:Sta->Prop}{rest:List CO}{s:Nat->A}{H:Hp}{dd:Option Nat}{nm:Nm}{ix:Nat}{un:List Nat}{l:Bool}{lg:Lg}{g:FuncId}{aa:Array Operand}{ts:Array TypeId}{ars:Nat->List A}{F:Fam}{x:Nat->A}(r:Nat)(hS:SpecF P g ars F x F)(hF:∀p,H (r::p)=F.F r p)(ha:aa.toList.map (evs s)=ars r)(hck:Ck un lg ⟨[([r],true)],[]⟩)
  (h:AE P K rest (Cc l ix ⟨[([r],true)],[]⟩ lg) (Sta.put ⟨s,H⟩ dd (x r) H)) :
  AE P K (⟨dd,.call { callee:=.value (.func g),args:=aa,argTypes:=ts },none,nm,ix,un,l⟩::rest) lg ⟨s,H⟩:=by
 refine gZ .nil [([r],true)] [] (fun H2 hag=>?_) (fun o H2 ho=>rfl) hck h;rw[ha];have hF2:∀p,H2 (r::p)=F.F r p:=fun p=>by rw[hag (r::p) (by simp[Ym,TT,List.isPrefixOf]),hF]
 obtain⟨E,hc,hE⟩:=a8 r hS hF2;have hc3:Vw P H2 g (ars r) (x r) E:=by
  rcases hc with ⟨_,_,_,_,h5⟩|⟨_,_,_,h4⟩|⟨h1,_⟩
  ·cases h5
  ·cases h4
  ·exact h1 H2 (fun o _=>rfl)
 have e2:ov r (F.F r) H2=H2:=by
  funext o;cases o with
  |nil=>rfl
  |cons j p=>
   by_cases hj:j=r
   ·subst hj;simp[hF2]
   ·simp[hj]
 rw[e2]at hE;refine⟨hc3.1,fun c w I μ vs a b d e=>?_⟩;have:=hc3.2 c w I μ vs a b d e;rw[hE]at this;exact this
end Go.G
namespace Go.PL
def Zn(stop:Nat->Bool)(pl:List Nat):Nat->Nat->Nat
 |0,a=>a
 |f+1,a=>if pl.getD a 0=0 then a else if stop (pl.getD a 0)=true then a else Zn stop pl f ((a+1) % pl.length)
theorem Zo(a d m:Nat):((a+1) % m+d) % m=(a+(d+1)) % m:=by
 rw[Nat.mod_add_mod];congr 1;omega
theorem sO{stop:Nat->Bool}{pl:List Nat}:∀(f a d:Nat),a<pl.length->d<f->pl.getD ((a+d) % pl.length) 0=0 ->
  Zn stop pl f a<pl.length/\(pl.getD (Zn stop pl f a) 0=0\/stop (pl.getD (Zn stop pl f a) 0)=true) /\
   ∃k,Zn stop pl f a=(a+k) % pl.length/\∀e,e<k->pl.getD ((a+e) % pl.length) 0≠0/\stop (pl.getD ((a+e) % pl.length) 0)=false:=by
 intro f;induction f with
 |zero=>intro a d _ h;omega
 |succ f ih=>
  intro a d ha hd hz;unfold Zn;have hself:∃k,a=(a+k) % pl.length/\∀e,e<k->pl.getD ((a+e) % pl.length) 0≠0/\stop (pl.getD ((a+e) % pl.length) 0)=false:=⟨0,by rw[Nat.add_zero,Nat.mod_eq_of_lt ha],fun e he=>oF⟩;split
  ·rename_i h0;exact⟨ha,.inl h0,hself⟩
  ·rename_i h0;split
   ·rename_i h1;exact⟨ha,.inr h1,hself⟩
   ·rename_i h1;cases d with
    |zero=>rw[Nat.add_zero,Nat.mod_eq_of_lt ha]at hz;exact absurd hz h0
    |succ d=>
     obtain⟨p1,p2,k,p3,p4⟩:=ih ((a+1) % pl.length) d (Nat.mod_lt _ oF) oF (by rw[Zo];exact hz);refine⟨p1,p2,k+1,by rw[p3,Zo],fun e he=>?_⟩;cases e with
     |zero=>rw[Nat.add_zero,Nat.mod_eq_of_lt ha];exact⟨h0,by simpa using h1⟩
     |succ e=>
      have:=p4 e oF
      rwa [Zo]at this
structure Pl(hs:List Nat)(pl:List Nat):Prop where
 cnt:pl.countP (fun v=>v != 0)=hs.length
 vals:∀v,v∈pl->v<=hs.length
 reach:∀(c:Nat)(hc:c<hs.length),∃d,pl[(hs[c]+d) % pl.length]? = some (c+1)/\∀e,e<d->pl.getD ((hs[c]+e) % pl.length) 0≠0
theorem Pl.free{hs pl:List Nat}(h:Pl hs pl)(hl:hs.length<pl.length)(a:Nat):∃d,d<pl.length/\pl.getD ((a+d) % pl.length) 0=0:=by
 have hm:∃v,v∈pl/\v=0:=by
  apply Classical.byContradiction;intro hn;have:pl.countP (fun v=>v != 0)=pl.length:=List.countP_eq_length.2 fun v hv=>by
   simp only[bne_iff_ne,ne_eq];exact fun e=>hn ⟨v,hv,e⟩
  have:=h.cnt;omega
 obtain⟨v,hv,rfl⟩:=hm;obtain⟨i,hi,e⟩:=List.mem_iff_getElem.1 hv;refine⟨(i+(pl.length-a % pl.length)) % pl.length,Nat.mod_lt _ oF,?_⟩;have:(a+(i+(pl.length-a % pl.length)) % pl.length) % pl.length=i:=by
  rw[Nat.add_mod_mod];have h1:=Nat.mod_lt a (show 0<pl.length from oF);have h2:=Nat.div_add_mod a pl.length;have h3:a+(i+(pl.length-a % pl.length))=i+pl.length*(a / pl.length+1):=by
   rw[Nat.mul_add,Nat.mul_one];omega
  rw[h3,Nat.add_mul_mod_self_left,Nat.mod_eq_of_lt hi]
 rw[this];simp[hi,e]
theorem m4{pl:List Nat}{a v:Nat}(ha:a<pl.length)(h0:pl.getD a 0=0)(hv:v≠0):(pl.set a v).countP (fun v=>v != 0)=pl.countP (fun v=>v != 0)+1:=by
 induction pl generalizing a with
 |nil=>simp at ha
 |cons x l ih=>
  cases a with
  |zero=>
   simp at h0;subst h0;simp[hv]
  |succ a=>
   simp only[List.set_cons_succ,List.countP_cons];rw[ih (by simpa using ha) (by simpa using h0)];omega
theorem Pl.ins{hs pl:List Nat}(h:Pl hs pl){x a k:Nat}(ha:a<pl.length)(h0:pl.getD a 0=0)(he:a=(x+k) % pl.length)(hk:∀e,e<k->pl.getD ((x+e) % pl.length) 0≠0):Pl (hs++[x]) (pl.set a (hs.length+1)):=by
 have hmod:∀y,y % pl.length<pl.length:=fun y=>Nat.mod_lt _ oF;have nz:∀y,pl.getD (y % pl.length) 0≠0->(pl.set a (hs.length+1)).getD (y % pl.length) 0≠0:=fun y hy=>by
  have hne:a≠y % pl.length:=fun e=>hy (by rw[<-e];exact h0);simpa[List.getD_eq_getElem?_getD,List.getElem?_set_ne hne]using hy
 refine⟨?_,fun v hv=>?_,fun c hc=>?_⟩
 ·rw[m4 ha h0 oF,h.cnt];simp
 ·rw[List.length_append,List.length_singleton];rcases List.mem_or_eq_of_mem_set hv with hv|rfl
  ·have:=h.vals v hv;omega
  ·omega
 ·simp only[List.length_set];by_cases hcl:c<hs.length
  ·obtain⟨d,h1,h2⟩:=h.reach c hcl;rw[List.getElem_append_left hcl];refine⟨d,?_,fun e he=>nz _ (h2 e he)⟩;have hne:a≠(hs[c]+d) % pl.length:=fun e=>by
    rw[<-e]at h1;rw[List.getD_eq_getElem?_getD,h1]at h0;simp at h0
   rw[List.getElem?_set_ne hne,h1]
  ·have:c=hs.length:=by simp at hc;omega
   subst this;rw[List.getElem_append_right (Cq _)];simp only[Nat.sub_self,List.getElem_cons_zero];refine⟨k,?_,fun e he=>nz _ (hk e he)⟩;rw[<-he,List.getElem?_set_self ha]
def insP(pl:List Nat)(x v:Nat):List Nat:=pl.set (Zn (fun _=>false) pl pl.length (x % pl.length)) v
def pN:List Nat->Nat->List Nat->List Nat
 |pl,_,[]=>pl
 |pl,i,x::hs=>pN (insP pl x (i+1)) (i+1) hs
@[simp]theorem Ab8{pl:List Nat}{x v:Nat}:(insP pl x v).length=pl.length:=by simp[insP]
theorem Pl.nil(m:Nat):Pl [] (List.replicate m 0):=by
 refine⟨?_,fun v hv=>?_,fun c hc=>?_⟩
 ·simp[List.countP_replicate]
 ·simp at hv;omega
 ·simp at hc
theorem xe{stop:Nat->Bool}{pl:List Nat}{x:Nat}{hs:List Nat}(h:Pl hs pl)(hl:hs.length<pl.length) :
  Zn stop pl pl.length (x % pl.length)<pl.length/\(pl.getD (Zn stop pl pl.length (x % pl.length)) 0=0\/stop (pl.getD (Zn stop pl pl.length (x % pl.length)) 0)=true) /\
   ∃k,Zn stop pl pl.length (x % pl.length)=(x+k) % pl.length/\∀e,e<k->pl.getD ((x+e) % pl.length) 0≠0/\stop (pl.getD ((x+e) % pl.length) 0)=false:=by
 obtain⟨d,h1,h2⟩:=h.free hl (x % pl.length);have:=sO (stop:=stop) pl.length (x % pl.length) d (Nat.mod_lt _ oF) h1 h2;simpa using this
theorem Pl.insP{hs pl:List Nat}(h:Pl hs pl)(hl:hs.length<pl.length)(x:Nat):Pl (hs++[x]) (insP pl x (hs.length+1)):=by
 obtain⟨h1,h2,k,h3,h4⟩:=xe (stop:=fun _=>false) (x:=x) h hl;refine h.ins h1 (h2.resolve_right iS) h3 fun e he=>(h4 e he).1
theorem Pl.grow:∀{hs2 hs pl:List Nat},Pl hs pl->hs.length+hs2.length<=pl.length->Pl (hs++hs2) (pN pl hs.length hs2)
 |[],hs,pl,h,_=>by simpa[pN]using h
 |x::hs2,hs,pl,h,hl=>by
  simp only[List.length_cons]at hl;have h1:=h.insP oF x;have:=Pl.grow (hs2:=hs2) h1 (by simp;omega);rw[List.append_assoc]at this;simpa[pN]using this
noncomputable def Fj(ks:List T)(n:T):Nat:=ks.findIdx (fun k=>Fs k n)
noncomputable def F8(ks:List T)(n:T):List T:=if Fj ks n<ks.length then ks else ks++[n]
theorem zv{ks:List T}{n:T}{i:Nat}(h:i<ks.length)(e:ks[i]=n)(hd:ks.Nodup):Fj ks n=i:=by
 have h1:Fj ks n<=i:=by
  apply Classical.byContradiction;intro hn;have:=List.not_of_lt_findIdx (p:=fun k=>Fs k n) (xs:=ks) (i:=i) (by unfold Fj at hn;omega);simp[sameB_iff.2 e]at this
 have h2:Fj ks n<ks.length:=oF
 have h3:ks[Fj ks n]=n:=sameB_iff.1 (List.findIdx_getElem (p:=fun k=>Fs k n) (w:=h2));apply Classical.byContradiction;intro hn;have h4:Fj ks n<i:=oF
 have:=List.pairwise_iff_getElem.1 hd _ _ h2 h h4;exact this (by rw[h3,e])
theorem cQ{ks:List T}{n:T}(h:n∉ks):Fj ks n=ks.length:=by
 unfold Fj;rw[List.findIdx_eq_length];intro x hx;rw[Bool.eq_false_iff];intro e;rw[sameB_iff]at e;subst e;exact h hx
theorem o3(ks:List T)(n:T):Fj ks n<=ks.length:=List.findIdx_le_length
theorem Aaj{ks:List T}{n:T}:Fj ks n<ks.length↔n∈ks:=by
 constructor
 ·intro h;have h3:ks[Fj ks n]=n:=sameB_iff.1 (List.findIdx_getElem (p:=fun k=>Fs k n) (w:=h));rw[<-h3];exact Bv _
 ·intro h;have:=o3 ks n;apply Classical.byContradiction;intro hn;have e:Fj ks n=ks.length:=oF
  have:=(List.findIdx_eq_length (p:=fun k=>Fs k n) (xs:=ks)).1 e n h;rw[Bool.eq_false_iff]at this;exact this (sameB_iff.2 rfl)
theorem mX{ks:List T}{n:T}(h:ks.Nodup):(F8 ks n).Nodup:=by
 unfold F8;split
 ·exact h
 ·rename_i hn;rw[Aaj]at hn;rw[List.nodup_append];exact⟨h,iS,fun a ha b hb=>by simp at hb;subst hb;exact fun e=>hn (e ▸ ha)⟩
noncomputable def BM:List T->List T->List T × List Nat
 |ks,[]=>(ks,[])
 |ks,t::l=>((BM (F8 ks (Ag t)) l).1,Fj ks (Ag t)::(BM (F8 ks (Ag t)) l).2)
end Go.PL
namespace Go.Proofs.YtlaapfplenlfaaaGreat
open Go Go.G Go.Proofs Go.PL
structure Cl where
 l:List (List Int)
 r:Rf
 t:T
noncomputable def Cl.h(c:Cl):Int:=Acp (Ag c.t)
noncomputable def Cl.hn(c:Cl):Nat:=c.h.toNat
abbrev clL(h:Int)(l:List (List Int))(r:Rf):List A:=uv h::paL l r
noncomputable def Cl.a(c:Cl):A:=.agg (clL c.h c.l c.r)
abbrev nv(n:Nat):A:=iv (n:Int)
structure Tb where
 u:Nat
 uc:Nat
 up:Nat
 cl:List Cl
 pl:List Nat
structure Tb.Ok(S:Tb):Prop where
 p8:8<=S.pl.length
 half:2*S.cl.length<=S.pl.length
 most:S.pl.length<=8+4*S.cl.length
 pl:Pl (S.cl.map Cl.hn) S.pl
 means:∀c,c∈S.cl->Sg c.l/\pg c.l c.r c.t
 nd:(S.cl.map fun c=>Ag c.t).Nodup
noncomputable def Tb.ks(S:Tb):List T:=S.cl.map fun c=>Ag c.t
@[simp]theorem Tb.ks_length(S:Tb):S.ks.length=S.cl.length:=by simp[Tb.ks]
theorem Tb.Ok.lt{S:Tb}(h:S.Ok):S.cl.length<S.pl.length:=by have:=h.p8;have:=h.half;omega
structure Tb.Ok1(S:Tb):Prop where
 p8:8<=S.pl.length
 half:2*S.cl.length<=S.pl.length+2
 most:S.pl.length<=8+4*S.cl.length
 pl:Pl (S.cl.map Cl.hn) S.pl
 means:∀c,c∈S.cl->Sg c.l/\pg c.l c.r c.t
 nd:(S.cl.map fun c=>Ag c.t).Nodup
theorem Tb.Ok1.ok{S:Tb}(h:S.Ok1)(hf:¬S.pl.length<2*S.cl.length):S.Ok:=⟨h.p8,oF,h.most,h.pl,h.means,h.nd⟩
variable {n0:Nat} {w0:World} {I0:Nat->Prop} {Q:Exit->Sta->Prop}
end Go.Proofs.YtlaapfplenlfaaaGreat
namespace Go.G
open Go.RowKit
theorem Sim.move{c:Cx}{w:World}{I:Nat->Prop}{μ:Mu}{H:Hp}(hs:Sim c w I μ H){d d':Nm}(hne:d≠d')(h0:(H d').u=0)(h1:1<=(H d).u)(hM:∀b,¬c.M0 d b)(htg:∀e,Fu d' e=true) :
  Ext I μ w I (Ar μ d' (μ d)) w/\Sim c w I (Ar μ d' (μ d)) (Ar (Ar H d' (H d)) d ⟨(H d).u,.none⟩):=by
 have hu0:(μ d').u=0:=by rw[hs.ver,h0]
 have hu1:1<=(μ d).u:=by rw[hs.ver];exact h1
 have hm:MuLe μ (Ar μ d' (μ d)):=fun o=>by
  by_cases e:o=d'
  ·subst e;rw[C4];exact⟨oF,fun e=>oF⟩
  ·rw[AD e];exact⟨Cq _,fun _=>rfl⟩
 have hx:Ext I μ w I (Ar μ d' (μ d)) w:=⟨fun b h=>h,fun b h=>rfl,hm⟩;have hd:(Ar (Ar H d' (H d)) d ⟨(H d).u,.none⟩:Hp) d=⟨(H d).u,.none⟩:=C4;have hd':(Ar (Ar H d' (H d)) d ⟨(H d).u,.none⟩:Hp) d'=H d:=by rw[AD (Ne.symm hne),C4]
 have hoth:∀o,o≠d->o≠d'->(Ar (Ar H d' (H d)) d ⟨(H d).u,.none⟩:Hp) o=H o:=fun o e1 e2=>by rw[AD e1,AD e2]
 -- who has a block has it in the old state,under an old name
 have old:∀o,EG (Ar μ d' (μ d) o) ((Ar (Ar H d' (H d)) d ⟨(H d).u,.none⟩:Hp) o).ob=true->∃p,EG (μ p) (H p).ob=true/\(Ar μ d' (μ d) o)=μ p/\(o=d'/\p=d\/o≠d'/\o≠d/\p=o):=fun o h=>by
  by_cases e1:o=d
  ·subst e1;rw[hd]at h;cases h
  ·by_cases e2:o=d'
   ·subst e2;rw[hd',C4]at h;exact⟨d,h,C4,.inl ⟨rfl,rfl⟩⟩
   ·rw[hoth o e1 e2,AD e2]at h;exact⟨o,h,AD e2,.inr ⟨e2,e1,rfl⟩⟩
 refine⟨hx,hs.kept,hs.lt,hs.old,hs.new,fun o=>?_,fun o=>?_,fun o o' k k' hoo=>?_,fun o k=>?_,hs.mle.trans hm,fun o k=>?_,hs.tab⟩
 ·by_cases e1:o=d
  ·subst e1;rw[hd,AD hne];exact hs.ver o
  ·by_cases e2:o=d'
   ·subst e2;rw[hd',C4];exact hs.ver d
   ·rw[hoth o e1 e2,AD e2];exact hs.ver o
 ·by_cases e1:o=d
  ·subst e1;rw[hd];trivial
  ·by_cases e2:o=d'
   ·subst e2;rw[hd',C4];exact OSim.keep hx (fun _=>rfl) (hs.ob d)
   ·rw[hoth o e1 e2,AD e2];exact OSim.keep hx (fun _=>rfl) (hs.ob o)
 ·obtain⟨p,k1,k2,k3⟩:=old o k;obtain⟨p',g1,g2,g3⟩:=old o' k';rw[k2,g2];refine hs.apart p p' k1 g1 fun e=>hoo ?_;rcases k3 with ⟨a1,a2⟩|⟨a1,a2,a3⟩<;>rcases g3 with ⟨b1,b2⟩|⟨b1,b2,b3⟩
  ·rw[a1,b1]
  ·exact absurd (by rw[<-b3,<-e,a2]) b2
  ·exact absurd (by rw[<-a3,e,b2]) a2
  ·rw[<-a3,<-b3,e]
 ·obtain⟨p,k1,k2,k3⟩:=old o k;rw[k2];obtain⟨q1,q2,q3⟩:=hs.own p k1;refine⟨q1,?_,q3⟩;rcases k3 with ⟨a1,a2⟩|⟨a1,a2,a3⟩
  ·subst a2;rcases q2 with h|h
   ·exact(hM _ h).elim
   ·exact .inr h
  ·subst a3;exact q2
 ·obtain⟨p,k1,k2,k3⟩:=old o k;rw[k2];rcases k3 with ⟨a1,a2⟩|⟨a1,a2,a3⟩
  ·rw[a1];exact htg _
  ·rw[<-a3];exact hs.tag p k1
theorem vj{w:World}{I:Nat->Prop}{μ:Mu}{d d':Nm}{u sz off len:Nat}{v:Value}(h:Rel w I μ (.osl d u sz off len) v)(e:μ d'=μ d):Rel w I μ (.osl d' u sz off len) v:=by
 cases h with
 |osl _ _ _ _ _ _ a cap g1 g2 g4 g5 g3=>exact .osl _ _ _ _ _ _ _ _ g1 (by rw[e];exact g2) g4 g5 (by rw[e];exact g3)
theorem ie{c:Cx}{s:Nat->A}{H:Hp}{d d' e:Nm}{u ue sz z off len:Nat}{xs:List A}(hM:∀b,¬c.M0 d b)(hne:d≠d')(he:e≠d)(he':e≠d')(h0:(H d').u=0)(h1:1<=(H d).u)(hz:sz=1)(hr:H e=⟨ue,.arr sz (xs++[.osl d u z off len])⟩)(htg:∀e,Fu d' e=true:=by intro e;simp) :
  Le c ⟨s,H⟩ ⟨s,Ar (Ar (Ar H d' (H d)) d ⟨(H d).u,.none⟩) e ⟨ue,.arr sz (xs++[.osl d' u z off len])⟩⟩:=fun a w I μ hs=>by
 obtain⟨hx,hs'⟩:=hs.sim.move hne h0 h1 hM htg;have hH:(Ar (Ar H d' (H d)) d ⟨(H d).u,.none⟩:Hp) e=⟨ue,.arr sz (xs++[.osl d u z off len])⟩:=by rw[AD he,AD he',hr]
 have hob:=hs'.ob e;rw[hH]at hob;obtain⟨g0,hob⟩:=hob;rcases hob with ⟨_,hn⟩|⟨k1,vs,k2,k3,k4,k5,k6⟩
 ·simp at hn
 have hB:EG (Ar μ d' (μ d) e) ((Ar (Ar H d' (H d)) d ⟨(H d).u,.none⟩:Hp) e).ob=true:=by rw[hH];exact k1
 have hmm:Ar μ d' (μ d) d'=Ar μ d' (μ d) d:=by rw[C4,AD hne]
 obtain⟨hx2,hs2⟩:=hs'.upd (FD w none) e (Ar μ d' (μ d) e) (.arr sz (xs++[.osl d' u z off len])) (.inl rfl) (.inr rfl) (fun _=>.inr ⟨hB,rfl⟩) (fun _=>hs'.tag _ hB) (fun hx2=>by
  refine⟨g0,.inr ⟨k1,vs,k2,k3,by simpa using k4,fun x hx=>?_,fun k y hk=>?_⟩⟩
  ·rcases List.mem_append.1 hx with h|h
   ·exact k5 x (List.mem_append_left _ h)
   ·rw[List.mem_singleton.1 h,hz];rfl
  ·rw[El];rw[List.flatMap_append]at hk;by_cases hlt:k<(xs.flatMap A.cells).length
   ·rw[List.getElem?_append_left hlt]at hk;exact k6 k y (by rw[List.flatMap_append,List.getElem?_append_left hlt];exact hk)
   ·rw[List.getElem?_append_right oF]at hk;have hc1:([A.osl d' u z off len].flatMap A.cells)=[.osl d' u z off len]:=rfl;rw[hc1]at hk;have hk0:k-(xs.flatMap A.cells).length=0:=by
     have:=(List.getElem?_eq_some_iff.1 hk).1;rw[List.length_singleton]at this;omega
    rw[hk0]at hk;have hy:y=.osl d' u z off len:=(Option.some.inj hk).symm;subst hy;obtain⟨q1,q2⟩:=k6 k (.osl d u z off len) (by rw[List.flatMap_append,List.getElem?_append_right oF,hk0];rfl);exact⟨rfl,vj q2 hmm⟩)
 have hu:(Ar μ d' (μ d) e).u=ue:=by rw[hs'.ver,hH]
 rw[hu]at hs2;exact⟨I,_,hs2,hs.size,hs.defers,fun t=>hx2.rel (hx.rel (hs.rel t))⟩
theorem OB{c:Cx}{s:Nat->A}{H:Hp}(R:Nat->Prop)[DecidablePred R](hM:∀r p b,R r->¬c.M0 (r::p) b)(t:Nat)(a:A)(hf:∀H1:Hp,(∀r p,R r->H1 (r::p)=H (r::p))->Iz H1 (s t) a) :
  ∃H2:Hp,Le c ⟨s,H⟩ ⟨upd s t a,H2⟩/\∀r p,¬R r->H2 (r::p)=H (r::p):=by
 refine⟨fun o=>match o with|r::p=>if R r then ⟨(H (r::p)).u,.none⟩else H (r::p)|[]=>H [],bn (H1:=fun o=>match o with|r::p=>if R r then H (r::p)else ⟨(H (r::p)).u,.none⟩|[]=>⟨(H []).u,.none⟩) (fun o b h=>?_) t a (fun o=>?_) (fun o=>?_) (fun o=>?_) (hf _ fun r p h=>if_pos h),fun r p h=>if_neg h⟩
 ·cases o with
  |nil=>exact absurd rfl h
  |cons r p=>
   by_cases hr:R r
   ·exact hM r p b hr
   ·exact absurd (by simp[hr]) h
 ·cases o with
  |nil=>exact .inr rfl
  |cons r p=>
   by_cases hr:R r
   ·exact .inl (by simp[hr])
   ·exact .inr (by simp[hr])
 ·cases o with
  |nil=>exact .inl rfl
  |cons r p=>
   by_cases hr:R r
   ·exact .inr (by simp[hr])
   ·exact .inl (by simp[hr])
 ·cases o with
  |nil=>exact .inl rfl
  |cons r p=>
   by_cases hr:R r
   ·exact .inr (by simp[hr])
   ·exact .inl (by simp[hr])
theorem K8{c:Cx}{s:Nat->A}{H:Hp}(R:Nat->Prop)[DecidablePred R](hM:∀r p b,R r->¬c.M0 (r::p) b){r0:Nat}{p0:Nm}(hr0:¬R r0){u:Nat}{cs cs':List A}(hd:H (r0::p0)=⟨u,.cells cs⟩)(h1:A.ones cs'=true)
  (hf:∀H1:Hp,(∀r p,R r->H1 (r::p)=H (r::p))->IV H1 cs cs') :
  ∃H2:Hp,Le c ⟨s,H⟩ ⟨s,Ar H2 (r0::p0) ⟨u,.cells cs'⟩⟩/\∀r p,¬R r->H2 (r::p)=H (r::p):=by
 refine⟨fun o=>match o with|r::p=>if R r then ⟨(H (r::p)).u,.none⟩else H (r::p)|[]=>H [],fun a w I μ hs=>?_,fun r p h=>if_neg h⟩;have part1:Part H (fun o=>match o with|r::p=>if R r then H (r::p)else ⟨(H (r::p)).u,.none⟩|[]=>⟨(H []).u,.none⟩):=fun o=>by
  cases o with
  |nil=>exact .inr rfl
  |cons r p=>
   by_cases hr:R r
   ·exact .inl (by simp[hr])
   ·exact .inr (by simp[hr])
 have part2:Part H (fun o=>match o with|r::p=>if R r then ⟨(H (r::p)).u,.none⟩else H (r::p)|[]=>H []):=fun o=>by
  cases o with
  |nil=>exact .inl rfl
  |cons r p=>
   by_cases hr:R r
   ·exact .inr (by simp[hr])
   ·exact .inl (by simp[hr])
 have h3:=hs.sim.freezeAll part1 part2 (fun o=>by
  cases o with
  |nil=>exact .inl rfl
  |cons r p=>
   by_cases hr:R r
   ·exact .inr (by simp[hr])
   ·exact .inl (by simp[hr])) (fun o b h=>by
  cases o with
  |nil=>exact absurd rfl h
  |cons r p=>
   by_cases hr:R r
   ·exact hM r p b hr
   ·exact absurd (by simp[hr]) h)
 have hd2:(fun o=>match o with|r::p=>if R r then (⟨(H (r::p)).u,.none⟩:VOb)else H (r::p)|[]=>H []:Hp) (r0::p0)=⟨u,.cells cs⟩:=by
  show(if R r0 then _ else _)=_;rw[if_neg hr0,hd]
 have hob:=hs.sim.ob (r0::p0);have hob:OSim w I μ (μ (r0::p0)) (.cells cs):=by
  have e:(⟨s,H⟩:Sta).H (r0::p0)=⟨u,.cells cs⟩:=hd;rw[e]at hob;exact hob
 obtain⟨vs,k1,k2,k3⟩:=hob;obtain⟨hl,hg⟩:=Lw (hf (fun o=>match o with|r::p=>if R r then H (r::p)else ⟨(H (r::p)).u,.none⟩|[]=>⟨(H []).u,.none⟩) fun r p h=>if_pos h);have hB:EG (μ (r0::p0)) ((fun o=>match o with|r::p=>if R r then (⟨(H (r::p)).u,.none⟩:VOb)else H (r::p)|[]=>H []:Hp) (r0::p0)).ob=true:=by rw[hd2];rfl
 obtain⟨hx2,hs2⟩:=h3.upd (FD w none) (r0::p0) (μ (r0::p0)) (.cells cs') (.inl rfl) (.inr rfl) (fun _=>.inr ⟨hB,rfl⟩) (fun _=>h3.tag _ hB) (fun hx2=>by
  refine⟨vs,k1,by rw[k2,hl],fun k y hk=>?_⟩;rw[El];obtain⟨x,hx,hfx⟩:=hg k y hk;simp only[A.ones,List.all_eq_true]at h1;exact⟨h1 y (List.mem_of_getElem? hk),(hfx c w I μ _ (hs.sim.part part1) (k3 k x hx).2).ofI⟩)
 have hu:(μ (r0::p0)).u=u:=by exact(h3.ver (r0::p0)).trans (congrArg VOb.u hd2)
 rw[hu]at hs2;exact⟨_,_,hs2,hs.size,hs.defers,fun t=>hx2.rel ((hs.rel t).mono0 (fun b h=>.inl h) (fun _ _=>rfl))⟩
theorem KV{P:Program}{f:FuncId}{n:Nat}{rs:List ResultVar}{cc:CC}{as':Nat->List A}{F F':Fam}{x:Nat->A}(t:Bs P f n rs cc)(ha:(as' 0).length<=n)(h0:FamL as')(h1:F5 x)
  (h:∀w0 I0 M0 m0,(∀r p b,1<=r->¬M0 (r::p) b)->WPC (En P w0 I0 M0 n m0) cc (Pf (En P w0 I0 M0 n m0) rs 1 (x 0) (ov 0 (F'.F 0) (HO []))) ⟨Rp (as' 0),ov 0 (F.F 0) (HO [])⟩):SpecF P f as' F x F':=
 ⟨h0,h1,Qv t ha fun w0 I0 M0 m0 hM=>h w0 I0 M0 m0 fun r p b hr=>hM (r::p) b (by
  simp only[A6];rw[if_neg oF];rfl)⟩
end Go.G
namespace Go.Proofs.YtlaapfplenlfaaaGreat
open Go Go.G Go.Proofs Go.PL
abbrev z0:List A:=[iv 0,.sl true [],.sl true []]
end Go.Proofs.YtlaapfplenlfaaaGreat
namespace Go.PL
def F7{α:Type}(p:α->Bool)(l:List α):List α:=(l.reverse.dropWhile p).reverse
theorem YD{α:Type}{p:α->Bool}(l:List α)(x:α):F7 p (l++[x])=if p x=true then F7 p l else l++[x]:=by
 unfold F7;rw[List.reverse_append,List.reverse_singleton,List.singleton_append,List.dropWhile_cons];split<;>simp
theorem pD{α:Type}{P:List α->Prop}(h0:P [])(h1:∀l x,P l->P (l++[x]))(l:List α):P l:=by
 have:∀m:List α,P m.reverse:=by
  intro m;induction m with
  |nil=>exact h0
  |cons x m ih=>rw[List.reverse_cons];exact h1 _ _ ih
 have:=this l.reverse
 rwa [List.reverse_reverse]at this
theorem Ju{α:Type}{p:α->Bool}{z:α}(l:List α):(∀x,x∈l->p x=true->x=z)->∀i,(F7 p l).getD i z=l.getD i z:=by
 refine pD (P:=fun l=>(∀x,x∈l->p x=true->x=z)->∀i,(F7 p l).getD i z=l.getD i z) (fun _ i=>rfl) (fun l x ih h i=>?_) l;rw[YD];split
 ·rename_i hx;rw[ih (fun y hy=>h y (by simp[hy])) i];have:=h x iS hx;subst this;simp only[List.getD_eq_getElem?_getD,List.getElem?_append];split
  ·rfl
  ·rw[List.getElem?_eq_none oF];by_cases e:i-l.length=0
   ·simp[e]
   ·rw[List.getElem?_eq_none (by simp;omega)]
 ·rfl
theorem nh{α:Type}{p:α->Bool}{z:α}(l:List α):F7 p l≠[]->p ((F7 p l).getD ((F7 p l).length-1) z)=false:=by
 refine pD (P:=fun l=>F7 p l≠[]->p ((F7 p l).getD ((F7 p l).length-1) z)=false) (fun h=>absurd rfl h) (fun l x ih h=>?_) l;rw[YD]at h ⊢;split
 ·rename_i hx;rw[if_pos hx]at h;exact ih h
 ·rename_i hx;simp at hx ⊢;exact hx
theorem jU{α:Type}{p:α->Bool}{z:α}(hz:p z=true){a b:List α}(ha:∀x,x∈a->p x=true->x=z)(hb:∀x,x∈b->p x=true->x=z):F7 p a=F7 p b↔∀i,a.getD i z=b.getD i z:=by
 constructor
 ·intro h i;rw[<-Ju a ha,h,Ju b hb]
 ·intro h;have h':∀i,(F7 p a).getD i z=(F7 p b).getD i z:=fun i=>by rw[Ju a ha,Ju b hb,h]
  have one:∀c d:List α,(∀i,(F7 p c).getD i z=(F7 p d).getD i z)->(F7 p c).length<=(F7 p d).length:=fun c d hcd=>by
   by_cases e:F7 p c=[]
   ·simp[e]
   ·have hl:=nh (z:=z) c e;have hpos:0<(F7 p c).length:=List.length_pos_iff.2 e;rw[hcd]at hl;refine Nat.le_of_not_lt fun hlt=>?_;rw[List.getD_eq_getElem?_getD,List.getElem?_eq_none oF]at hl;simp[hz]at hl
  have hlen:(F7 p a).length=(F7 p b).length:=Nat.le_antisymm (one a b h') (one b a fun i=>(h' i).symm);apply List.ext_getElem hlen;intro i h1 h2;have:=h' i;simpa[List.getD_eq_getElem?_getD,h1,h2]using this
theorem eW(l:List Int):DV l=F7 (fun x=>x == 0) l:=rfl
theorem dt(l:List T):Dl l=F7 (fun x=>x.kind == 0) l:=rfl
theorem uM{a b:List Int}:DV a=DV b↔∀i,a.getD i 0=b.getD i 0:=by
 rw[eW,eW];exact jU rfl (fun x _ h=>by simpa using h) (fun x _ h=>by simpa using h)
theorem Lp{t:T}(h:t.kind=0):Ag t=T0:=by cases t;simp at h;rw[DS,if_pos h]
theorem Vf:Ag T0=T0:=Lp rfl
theorem Hn(l:List T)(i:Nat):(l.map Ag).getD i T0=Ag (l.getD i T0):=by
 simp only[List.getD_eq_getElem?_getD,List.getElem?_map];cases l[i]? with
 |none=>simp[Vf]
 |some x=>rfl
theorem vt{a b:List T}:Dl (a.map Ag)=Dl (b.map Ag)↔∀i,Ag (a.getD i T0)=Ag (b.getD i T0):=by
 have hz:∀c:List T,∀x,x∈c.map Ag->(x.kind == 0)=true->x=T0:=fun c x hx h0=>by
  obtain⟨y,_,rfl⟩:=List.mem_map.1 hx;simp at h0;exact Lp h0
 rw[dt,dt,jU (z:=T0) rfl (hz a) (hz b)];constructor
 ·intro h i;rw[<-Hn,<-Hn];exact h i
 ·intro h i;rw[Hn,Hn];exact h i
theorem struct_eq{w w':List Int}{a b:List T}:Ag (.mk 1 w a)=Ag (.mk 1 w' b)↔(∀i,w.getD i 0=w'.getD i 0)/\∀i,Ag (a.getD i T0)=Ag (b.getD i T0):=by
 rw[DS,DS];simp only[if_neg (show ¬(1:Int)=0 by decide),if_true,T.mk.injEq,true_and];rw[uM,vt]
theorem P6{k:Int}{w w':List Int}{a b:List T}(h0:k≠0)(h1:k≠1):Ag (.mk k w a)=Ag (.mk k w' b)↔w=w'/\a.map Ag=b.map Ag:=by
 rw[DS,DS];simp[h0,h1]
theorem Dt:∀t,Ag (Ag t)=Ag t:=by
 refine T.ind fun k w ks ih=>?_;have hm:(ks.map Ag).map Ag=ks.map Ag:=by
  rw[List.map_map];exact List.map_congr_left fun x hx=>ih x hx
 rw[DS];split
 ·exact Vf
 ·rename_i h0;split
  ·rename_i h1;subst h1;rw[struct_eq (w':=w) (b:=ks)|>.2 ⟨fun i=>?_,fun i=>?_⟩,DS]
   ·simp
   ·rw[eW];exact Ju w (fun x _ h=>by simpa using h) i
   ·have hz:∀x,x∈ks.map Ag->(x.kind == 0)=true->x=T0:=fun x hx h0=>by
     obtain⟨y,_,rfl⟩:=List.mem_map.1 hx;simp at h0;exact Lp h0
    rw[dt,Ju _ hz i,<-Hn,hm,Hn]
  ·rename_i h1;rw[DS,if_neg h0,if_neg h1,hm]
end Go.PL
namespace Go.Proofs.YtlaapfplenlfaaaGreat
open Go Go.G Go.Proofs Go.PL
theorem dg{a b:List T}(hl:a.length=b.length):a.map Ag=b.map Ag↔∀i,Ag (a.getD i T0)=Ag (b.getD i T0):=by
 constructor
 ·intro h i;rw[<-Hn,h,Hn]
 ·intro h;apply List.ext_getElem (by simpa using hl);intro i h1 h2;have:=h i;simp at h1 h2;simpa[List.getD_eq_getElem?_getD,h1,h2]using this
variable {n0:Nat} {w0:World} {I0:Nat->Prop} {Q:Exit->Sta->Prop}
def fu:Nat->Nat->Nat->Nat->Nat
 |0,_,_,_=>0
 |k+1,a,b,m=>(if m % 2=1 then b % 256 else a % 256)+256*fu k (a / 256) (b / 256) (m / 2)
def EL:Nat->Nat->Nat
 |0,_=>0
 |k+1,m=>(if m % 2=1 then 255 else 0)+256*EL k (m / 2)
theorem YK:∀k m,EL k m<256 ^ k
 |0,m=>by simp[EL]
 |k+1,m=>by
  have:=YK k (m / 2);simp only[EL,Nat.pow_succ];split<;>omega
theorem a7:∀k a b m,a<256 ^ k->b<256 ^ k->(a &&& (256 ^ k-1-EL k m))||| (b &&& EL k m)=fu k a b m
 |0,a,b,m,ha,hb=>by
  simp at ha hb;subst ha hb;simp[fu,EL]
 |k+1,a,b,m,ha,hb=>by
  have hw:=YK k (m / 2);rw[Nat.pow_succ]at ha hb;have ih:=a7 k (a / 256) (b / 256) (m / 2) oF oF;have p0:0<256 ^ k:=Nat.pow_pos dO;generalize hx:(a &&& (256 ^ (k+1)-1-EL (k+1) m))||| (b &&& EL (k+1) m)=x;have d1:EL (k+1) m / 256=EL k (m / 2):=by simp only[EL];split<;>omega
  have d2:(256 ^ (k+1)-1-EL (k+1) m) / 256=256 ^ k-1-EL k (m / 2):=by simp only[EL,Nat.pow_succ];split<;>omega
  have m1:EL (k+1) m % 256=if m % 2=1 then 255 else 0:=by simp only[EL];split<;>omega
  have m2:(256 ^ (k+1)-1-EL (k+1) m) % 256=if m % 2=1 then 0 else 255:=by simp only[EL,Nat.pow_succ];split<;>omega
  have e1:x / 256=fu k (a / 256) (b / 256) (m / 2):=by
   have q1:=@Nat.or_div_two_pow (a &&& (256 ^ (k+1)-1-EL (k+1) m)) (b &&& EL (k+1) m) 8;have q2:=@Nat.and_div_two_pow a (256 ^ (k+1)-1-EL (k+1) m) 8;have q3:=@Nat.and_div_two_pow b (EL (k+1) m) 8;have c:(2:Nat) ^ 8=256:=rfl;rw[q2,q3,c,d1,d2,hx]at q1;rw[q1,ih]
  have e2:x % 256=if m % 2=1 then b % 256 else a % 256:=by
   have h:x % 2 ^ 8=(a % 2 ^ 8 &&& (256 ^ (k+1)-1-EL (k+1) m) % 2 ^ 8)||| (b % 2 ^ 8 &&& EL (k+1) m % 2 ^ 8):=by
    rw[<-hx,Nat.or_mod_two_pow,Nat.and_mod_two_pow,Nat.and_mod_two_pow]
   have c:(2:Nat) ^ 8=256:=rfl;rw[c,m1,m2]at h;rw[h];have h255:(255:Nat)=2 ^ 8-1:=rfl;split
   ·rw[h255,Nat.and_two_pow_sub_one_eq_mod];simp
   ·rw[h255,Nat.and_two_pow_sub_one_eq_mod];simp
  simp only[fu];omega
theorem j3:∀(k:Nat)(a b mask:Int),0<=a->0<=b->0<=mask->XI ((List.range k).map fun i=>if Ff mask i=true then (C6 k b).getD i 0 else (C6 k a).getD i 0)=(fu k a.toNat b.toNat mask.toNat:Nat)
 |0,a,b,mask,_,_,_=>by simp[XI,fu]
 |k+1,a,b,mask,ha,hb,hm=>by
  have ih:=j3 k (a / 256) (b / 256) (mask / 2) oF oF oF;have e1:(a / 256).toNat=a.toNat / 256:=oF
  have e2:(b / 256).toNat=b.toNat / 256:=oF
  have e3:(mask / 2).toNat=mask.toNat / 2:=oF
  rw[e1,e2,e3]at ih;rw[List.range_succ_eq_map,List.map_cons,List.map_map,XI];have h:(List.range k).map ((fun i=>if Ff mask i=true then (C6 (k+1) b).getD i 0 else (C6 (k+1) a).getD i 0) ∘ Nat.succ)=(List.range k).map fun i=>if Ff (mask / 2) i=true then (C6 k (b / 256)).getD i 0 else (C6 k (a / 256)).getD i 0:=by
   refine List.map_congr_left fun i _=>?_;have hn:Ff mask (i+1)=Ff (mask / 2) i:=by
    unfold Ff;have:mask / 2 ^ (i+1)=mask / 2 / 2 ^ i:=by
     rw[Int.ediv_ediv_of_nonneg dO,Int.pow_succ,Int.mul_comm]
    rw[this]
   simp[C6,hn]
  rw[h,ih];have h0:(Ff mask 0=true)=(mask.toNat % 2=1):=by
   simp[Ff];omega
  simp only[h0,fu,C6,List.getD_cons_zero];split<;>omega
theorem xj{a b mask:Int}(ha:Ba a)(hb:Ba b)(h0:0<=mask):BI a b mask=(fu 8 a.toNat b.toNat mask.toNat:Nat):=by
 rw[<-j3 8 a b mask ha.1 hb.1 h0];unfold BI J5 AI;rw[List.drop_eq_nil_of_le iS,List.append_nil]
def wS(mask:Int):Nat->Int
 |0=>0
 |i+1=>if bits .and .u8 (mask / 2 ^ min i 8) 1=1 then bits .or .u64 (wS mask i) (u64.wrap (255*2 ^ min (8*i) 64))else wS mask i
theorem Ady:∀m:Nat,m<256->wS m 8=(EL 8 m:Nat):=by decide +kernel
theorem rm{mask:Int}(hq:∀q,Q (.exit 0) ⟨lk [(0,u8 mask),(3,uv (wS mask 8)),(5,iv 8),(6,bv q)],HO []⟩) :
  ∀(j i:Nat),i+j=8->LoopC (cx Tryz.prog w0 I0 n0) KG Q ⟨lk [(0,u8 mask),(3,uv (wS mask i)),(5,iv i)],HO []⟩:=by
 intro j;induction j with
 |zero=>
  intro i hi;have:i=8:=oF
  subst this;refine Ab Ah (Ao KG.eq_1) ?_;simp;exact hq _
 |succ j ih=>
  intro i hi;refine Ab Ah (Ao KG.eq_1) ?_;have hlt:i<8:=oF
  have hlt2:(i:Int)<8:=oF
  have e8:i64.wrap (8*(i:Int))=((8*i:Nat):Int):=(AJ oF oF).trans oF;have ei:=Ap i;have b8:IntKind.u8.bits=8:=rfl;have b64:u64.bits=64:=rfl;have hs:=ih (i+1) oF;rw[wS]at hs;have e9:(8*(i:Int)).toNat=8*i:=oF
  simp[hlt,hlt2,e8,ei,b8,b64,e9];refine⟨fun hc=>⟨oF,?_⟩,fun hc=>?_⟩
  ·rw[if_pos hc]at hs;exact hs
  ·rw[if_neg hc]at hs;exact hs
theorem Yz{mask:Int}(h0:0<=mask)(h1:mask<256):G.Spec Tryz.prog 163 [u8 mask] (uv (EL 8 mask.toNat:Nat)):=by
 refine Aj j8 iS fun w0 I0=>?_;rw[BG WA.eq_1];simp;obtain⟨m,rfl⟩:=Int.eq_ofNat_of_zero_le h0;refine rm (fun q=>?_) 8 0 rfl;simp;rw[Ady m oF];exact Ad rfl
theorem VP{x:Nat}(h:x<2 ^ 64):(BitVec.ofInt 64 (x:Int)).toNat=x:=by
 rw[BitVec.toNat_ofInt];omega
theorem Aei{x y:Nat}(hx:x<2 ^ 64)(hy:y<2 ^ 64):bits .and .u64 x y=(x &&& y:Nat):=by
 have h:=Nat.lt_of_le_of_lt (Nat.and_le_left (n:=x) (m:=y)) hx;show u64.wrap ((BitVec.ofInt 64 x &&& BitVec.ofInt 64 y).toNat:Nat)=_;rw[BitVec.toNat_and,VP hx,VP hy];exact EZ oF oF
theorem Ahe{x y:Nat}(hx:x<2 ^ 64)(hy:y<2 ^ 64):bits .or .u64 x y=(x||| y:Nat):=by
 have h:=Nat.or_lt_two_pow hx hy;show u64.wrap ((BitVec.ofInt 64 x||| BitVec.ofInt 64 y).toNat:Nat)=_;rw[BitVec.toNat_or,VP hx,VP hy];exact EZ oF oF
theorem zM{x y:Nat}(hx:x<2 ^ 64)(hy:y<2 ^ 64):bits .andNot .u64 x y=(x &&& (256 ^ 8-1-y):Nat):=by
 have h:=Nat.lt_of_le_of_lt (Nat.and_le_left (n:=x) (m:=256 ^ 8-1-y)) hx;show u64.wrap ((BitVec.ofInt 64 x &&& ~~~ BitVec.ofInt 64 y).toNat:Nat)=_;rw[BitVec.toNat_and,BitVec.toNat_not,VP hx,VP hy];have e:(2:Nat) ^ 64-1-y=256 ^ 8-1-y:=rfl;rw[e];exact EZ oF oF
theorem Hy{a b mask:Int}(ha:Ba a)(hb:Ba b)(h0:0<=mask)(h1:mask<256):G.Spec Tryz.prog 125 [uv a,uv b,u8 mask] (uv (BI a b mask)):=by
 refine Aj mi iS fun w0 I0=>?_;rw[Ao Yy.eq_1];simp;refine Ae (Yz h0 h1) iS ?_;simp;refine Ae (Yz h0 h1) iS ?_;simp;refine GG ?_;rw[xj ha hb h0];obtain⟨x,rfl⟩:=Int.eq_ofNat_of_zero_le ha.1;obtain⟨y,rfl⟩:=Int.eq_ofNat_of_zero_le hb.1;have hx:x<2 ^ 64:=by have:=ha.2;omega
 have hy:y<2 ^ 64:=by have:=hb.2;omega
 have hw:EL 8 mask.toNat<2 ^ 64:=YK 8 _;rw[zM hx hw,Aei hy hw,Ahe (Nat.lt_of_le_of_lt Nat.and_le_left hx) (Nat.lt_of_le_of_lt Nat.and_le_left hy)];have:=a7 8 x y mask.toNat hx hy;simp only[Int.toNat_natCast];rw[<-this]
theorem vC{t:T}(hl:t.kids.length*56<=140737488355328)(ih:∀c,c∈t.kids->G.Spec Tryz.prog 35 [tX c] (tX (Ag c))){v v0:VOb}{k w:A}:∀(m i:Nat)(u:Nat)(H:Hp),i+m=t.kids.length->H [0]=v0->H [1]=v->H [2]=⟨1,.cells [k,w,.osl [4] u 3 0 i]⟩->H [4]=⟨u,.arr 3 ((t.kids.take i).map (tA ∘ Ag))⟩ ->
  (∀i' q (u':Nat) (H':Hp),H' [0]=v0->H' [1]=v->H' [2]=⟨1,.cells [k,w,.osl [4] u' 3 0 t.kids.length]⟩->H' [4]=⟨u',.arr 3 (t.kids.map (tA ∘ Ag))⟩->Q (.exit 0) ⟨lk [(1,.pob [0] 1 0),(2,.pob [1] 1 0),(3,.pob [2] 1 0),(17,AV t.kids),(18,iv t.kids.length),(19,iv i'),(20,bv q)],H'⟩) ->
  LoopC (cx Tryz.prog w0 I0 n0) KP Q ⟨lk [(1,.pob [0] 1 0),(2,.pob [1] 1 0),(3,.pob [2] 1 0),(17,AV t.kids),(18,iv t.kids.length),(19,iv i)],H⟩:=by
 intro m;induction m with
 |zero=>
  intro i u H hi hA hR hO hB hq;have:i=t.kids.length:=oF
  subst this;refine Ab Ah (Ao KP.eq_1) ?_;simp;exact hq _ _ u H hA hR hO (by rw[hB];simp)
 |succ m ihm=>
  intro i u H hi hA hR hO hB hq;have hlt:i<t.kids.length:=oF
  have ei:=Ap i;refine Ab Ah (Ao KP.eq_1) ?_;simp[hlt,Aa,hO];refine Ae (ih _ (Bv hlt)) rfl ?_;simp[Aa,hO,hB];have hrow:=i6 (f:=tA ∘ Ag) hlt (x:=tX (Ag t.kids[i])) iS;rw[hrow,ei];refine⟨⟨oF,oF⟩,?_⟩;exact ihm (i+1) (u+1) _ oF (by simp[Aa,hA]) (by simp[Aa,hR]) (by simp[Aa]) (by simp[Aa]) hq
theorem x5{w:List Int}(hl:w.length*8<=140737488355328){v v4:VOb}{K:A}:∀(n:Nat)(H:Hp),n<=w.length->DV (w.take n)=DV w->H [1]=v->H [2]=⟨1,.cells [iv 1,C7 (w.take n),K]⟩->H [4]=v4 ->
  (∀q (H':Hp),H' [1]=v->H' [2]=⟨1,.cells [iv 1,C7 (DV w),K]⟩->H' [4]=v4->Q (.exit 2) ⟨lk [(2,.pob [1] 1 0),(3,.pob [2] 1 0),(48,bv q)],H'⟩) ->
  LoopC (cx Tryz.prog w0 I0 n0) KM Q ⟨lk [(2,.pob [1] 1 0),(3,.pob [2] 1 0)],H⟩:=by
 intro n;induction n with
 |zero=>
  intro H hn ht hR hO hB hq;refine Ab Ah (Ao KM.eq_1) ?_;simp[hO];refine hq _ H hR ?_ hB;rw[<-ht];simpa using hO
 |succ n ihn=>
  intro H hn ht hR hO hB hq;have hlt:n<w.length:=oF
  have en:i64.wrap (n:Int)=n:=CX;have emin:min (n+1) w.length=n+1:=oF
  refine Ab Ah (Ao KM.eq_1) ?_;by_cases h0:w[n]=0
  ·have hnn:(n:Int)<n+1:=oF
   have hnn':(n:Int)<=n+1:=oF
   have hs:List.take n (List.take (n+1) (List.map uv w))=(w.take n).map uv:=by rw[List.take_take,Nat.min_eq_left oF,List.map_take]
   simp[hO,emin,en,hlt,h0,hnn,hnn',hs];exact ihn _ oF (by rw[<-XX hlt h0];exact ht) (by simp[Aa,hR]) (by simp[Aa]) (by simp[Aa,hB]) hq
  ·have hnn:(n:Int)<n+1:=oF
   simp[hO,emin,en,hlt,h0,hnn];refine hq _ H hR ?_ hB;rw[hO,<-ht,Zm hlt h0]
theorem yh{l:List T}(hl:l.length*56<=140737488355328){v:VOb}{W:A}{u:Nat}:∀(n:Nat)(H:Hp),n<=l.length->Dl (l.take n)=Dl l->H [1]=v->H [2]=⟨1,.cells [iv 1,W,.osl [4] u 3 0 n]⟩->H [4]=⟨u,.arr 3 (l.map (tA ∘ Ag))⟩ ->
  (∀q (H':Hp),H' [1]=v->H' [2]=⟨1,.cells [iv 1,W,.osl [4] u 3 0 (Dl l).length]⟩->H' [4]=⟨u,.arr 3 (l.map (tA ∘ Ag))⟩->Q (.exit 4) ⟨lk [(2,.pob [1] 1 0),(3,.pob [2] 1 0),(72,bv q)],H'⟩) ->
  LoopC (cx Tryz.prog w0 I0 n0) Kz Q ⟨lk [(2,.pob [1] 1 0),(3,.pob [2] 1 0)],H⟩:=by
 intro n;induction n with
 |zero=>
  intro H hn ht hR hO hB hq;refine Ab Ah (Ao Kz.eq_1) ?_;simp[hO];refine hq _ H hR ?_ hB;rw[<-ht];simpa using hO
 |succ n ihn=>
  intro H hn ht hR hO hB hq;have hlt:n<l.length:=oF
  have en:i64.wrap (n:Int)=n:=CX;have hnn:(n:Int)<n+1:=oF
  have hnn':(n:Int)<=n+1:=oF
  refine Ab Ah (Ao Kz.eq_1) ?_;by_cases h0:l[n].kind=0
  ·simp[hO,hB,en,hlt,h0,hnn,hnn'];exact ihn _ oF (by rw[<-YW hlt h0];exact ht) (by simp[Aa,hR]) (by simp[Aa]) (by simp[Aa,hB]) hq
  ·simp[hO,hB,en,hlt,h0,hnn];refine hq _ H hR ?_ hB;rw[hO,<-ht,Yl hlt h0];simp;omega
theorem D3:∀(t:T),Ay t->G.Spec Tryz.prog 35 [tX t] (tX (Ag t)):=by
 refine T.ind fun k w l ih hw=>?_;have hw':=wfT_iff.1 hw;have hwl:=hw'.wl;have hkl:=hw'.kl;simp at hwl hkl;refine Aj jg iS fun w0 I0=>?_;rw[pe3 Wt.eq_1];rw[DS];by_cases h0:k=0
 ·simp[h0];exact uS
 ·simp[h0];refine Ae (oE false w hwl).spec rfl ?_;simp;refine LoopC.le (Bi (d:=[2]) 2 [4] 3 rfl rfl iS) ?_;simp;refine vC (t:=.mk k w l) (k:=iv k) (w:=C7 w) (by simpa using hkl) (fun c hc=>ih c hc (hw'.ks c hc)) l.length 0 1 _ iS rfl rfl iS iS fun i' q u' H' hA hR hO hB=>?_;by_cases h1:k=1
  ·subst h1;simp at hA hR hO hB;simp[hA,hR,hO,hB];refine LoopC.le (Al [(2,.pob [1] 1 0),(3,.pob [2] 1 0)] iS) ?_;refine x5 hwl w.length _ (Cq _) (by rw[Ax (Cq _)]) hR (by rw[hO,Ax (Cq _)]) hB fun q H2 hR2 hO2 hB2=>?_;simp;refine yh hkl l.length _ (Cq _) (by rw[Ax (Cq _)]) hR2 hO2 hB2 fun q H3 hR3 hO3 hB3=>?_;simp[hO3,hR3,Aa];refine Bb ?_;simp;rw[bV];refine⟨Ad rfl,Ad rfl,?_⟩;have:=Zq (H:=Ar H3 [1] ⟨1,.cells [iv 1,C7 (DV w),A.osl [4] u' 3 0 (Dl l).length]⟩) (o:=[4]) (u:=u') (sz:=3) (l:=l) (f:=tA ∘ Ag) (by simp[Aa,hB3]) (Ny l) iS;rw[<-List.map_take];show Iz _ _ (A.sl false (((l.take (Dl l).length).map Ag).map tA));rw[List.map_map];exact this
  ·simp at hA hR hO hB;simp[hA,hR,hO,hB,h1,Aa];refine Bb ?_;simp;refine⟨Ad rfl,Ad rfl,?_⟩;have:=AQ (H:=Ar H' [1] ⟨1,.cells [iv k,C7 w,A.osl [4] u' 3 0 l.length]⟩) (o:=[4]) (u:=u') (sz:=3) (l:=l) (f:=tA ∘ Ag) (by simp[Aa,hB]) rfl iS;show Iz _ _ (A.sl false ((l.map Ag).map tA));rw[List.map_map];exact this
end Go.Proofs.YtlaapfplenlfaaaGreat
namespace Go.PL
def jC(ws:List WE):Prop:=∀w,w∈ws->0<=w.mask/\w.mask<256
end Go.PL
namespace Go.Proofs.YtlaapfplenlfaaaGreat
open Go Go.G Go.Proofs Go.PL
def WL(tw:List Int):Nat->Nat->List WE->Option (List Int)
 |0,_,_=>some []
 |m+1,i,[]=>(WL tw m (i+1) []).map (tw.getD i 0 :: ·)
 |m+1,i,x::xs=>if x.at_=(i:Int)then (if BI 0 (tw.getD i 0) x.mask=x.old then (WL tw m (i+1) xs).map (BI (tw.getD i 0) x.new x.mask :: ·)else none)else (WL tw m (i+1) (x::xs)).map (tw.getD i 0 :: ·)
def WM(tk:List T):Nat->Nat->List (Int × (T->Option T))->Option (List T)
 |0,_,_=>some []
 |m+1,i,[]=>(WM tk m (i+1) []).map (tk.getD i T0 :: ·)
 |m+1,i,x::xs=>if x.1=(i:Int)then (match x.2 (tk.getD i T0) with|none=>none|some u=>(WM tk m (i+1) xs).map (u :: ·))else (WM tk m (i+1) (x::xs)).map (tk.getD i T0 :: ·)
noncomputable def GY(tk:List T):Nat->List (Int × Int × List T × (T->Option T))->Option (List T × Nat)
 |a,[]=>some ([],a)
 |a,(k,n,l,f)::os=>
  if k=0 then (if a+n.toNat<=tk.length then (GY tk (a+n.toNat) os).map (fun r=>((tk.drop a).take n.toNat++r.1,r.2))else none)
  else if k=1 then (if a+l.length<=tk.length/\(((tk.drop a).take l.length).zip l).all (fun p=>JE p.1 p.2)=true then GY tk (a+l.length) os else none)
  else if k=2 then (GY tk a os).map (fun r=>(l++r.1,r.2))
  else match tk[a]? with
   |none=>none
   |some x=>match f x with
    |none=>none
    |some u=>(GY tk (a+1) os).map (fun r=>(u::r.1,r.2))
theorem Yn{tw:List Int}{m i:Nat}{rem:List WE}(h:∀x xs,rem=x::xs->x.at_≠(i:Int)):WL tw (m+1) i rem=(WL tw m (i+1) rem).map (tw.getD i 0 :: ·):=by
 cases rem with
 |nil=>rw[WL]
 |cons x xs=>rw[WL,if_neg (h x xs rfl)]
theorem zk{tw:List Int}{m i:Nat}{x:WE}{xs:List WE}(h:x.at_=(i:Int))(hb:¬BI 0 (tw.getD i 0) x.mask=x.old):WL tw (m+1) i (x::xs)=none:=by rw[WL,if_pos h,if_neg hb]
theorem qy{tw:List Int}{m i:Nat}{x:WE}{xs:List WE}(h:x.at_=(i:Int))(hb:BI 0 (tw.getD i 0) x.mask=x.old):WL tw (m+1) i (x::xs)=(WL tw m (i+1) xs).map (BI (tw.getD i 0) x.new x.mask :: ·):=by rw[WL,if_pos h,if_pos hb]
theorem YS{tk:List T}{m i:Nat}{rem:List (Int × (T->Option T))}(h:∀x xs,rem=x::xs->x.1≠(i:Int)):WM tk (m+1) i rem=(WM tk m (i+1) rem).map (tk.getD i T0 :: ·):=by
 cases rem with
 |nil=>rw[WM]
 |cons x xs=>rw[WM,if_neg (h x xs rfl)]
theorem zP{tk:List T}{m i:Nat}{x:Int × (T->Option T)}{xs:List (Int × (T->Option T))}(h:x.1=(i:Int))(hb:x.2 (tk.getD i T0)=none):WM tk (m+1) i (x::xs)=none:=by rw[WM,if_pos h,hb]
theorem qb{tk:List T}{m i:Nat}{x:Int × (T->Option T)}{xs:List (Int × (T->Option T))}{u:T}(h:x.1=(i:Int))(hb:x.2 (tk.getD i T0)=some u):WM tk (m+1) i (x::xs)=(WM tk m (i+1) xs).map (u :: ·):=by rw[WM,if_pos h,hb]
theorem gG{tw:List Int}(h:∀x,x∈tw->Ba x)(i:Nat):Ba (tw.getD i 0):=by
 by_cases hi:i<tw.length
 ·rw[List.getD_eq_getElem?_getD,List.getElem?_eq_getElem hi];exact h _ (Bv hi)
 ·rw[List.getD_eq_getElem?_getD,List.getElem?_eq_none oF];exact⟨dO,dO⟩
def Lb(ws:List WE)(n:Nat):Nat:=match ws.getLast? with|none=>n|some x=>max n (x.at_+1).toNat
def Jj{β:Type}(ks:List (Int × β))(n:Nat):Nat:=match ks.getLast? with|none=>n|some x=>max n (x.1+1).toNat
noncomputable def LI(k:Int)(o n:T)(ws:List WE)(ks:List (Int × (T->Option T)))(list:Int)(os:List (Int × Int × List T × (T->Option T)))(t:T):Option T:=
 if k=0 then some (Ag t)
 else if k=1 then (if JE o t=true then some (Ag n)else none)
 else if k=2 then (if t.kind=1 then (match WL t.words (Lb ws t.words.length) 0 ws,WM t.kids (Jj ks t.kids.length) 0 ks with
  |some w,some l=>some (Ag (.mk 1 w l))
  |_,_=>none)else none)
 else if k=3 then (if t.kind=list then (match GY t.kids 0 os with
  |some (l,a)=>if a=t.kids.length then some (Ag (.mk t.kind [] l))else none
  |none=>none)else none)
 else none
mutual
noncomputable def aH:E->T->Option T
 |.mk k o n ws ks l os,t=>LI k o n ws (EC ks) l (GR os) t
noncomputable def EC:List KE->List (Int × (T->Option T))
 |[]=>[]
 |.mk a e::r=>(a,aH e)::EC r
noncomputable def GR:List OP->List (Int × Int × List T × (T->Option T))
 |[]=>[]
 |.mk k n t e::r=>(k,n,t,aH e)::GR r
end
theorem XU(k:Int)(o n:T)(ws:List WE)(ks:List KE)(l:Int)(os:List OP)(t:T):aH (.mk k o n ws ks l os) t=LI k o n ws (EC ks) l (GR os) t:=by rw[aH]
theorem Lh:∀ks:List KE,EC ks=ks.map fun x=>(x.at_,aH x.e)
 |[]=>by rw[EC];rfl
 |.mk a e::r=>by rw[EC,Lh r];rfl
theorem Pu:∀os:List OP,GR os=os.map fun x=>(x.kind,x.n,x.l,aH x.e)
 |[]=>by rw[GR];rfl
 |.mk k n t e::r=>by rw[GR,Pu r];rfl
theorem iL(t:T)(i:Nat):G.Spec Tryz.prog 93 [tX t,iv i] (tX (t.kids.getD i T0)):=by
 refine Aj VY iS fun w0 I0=>?_;rw[Ao Nj.eq_1];by_cases h:i<t.kids.length
 ·simp[h];exact Ad iS
 ·simp[h];exact Bb (by simp;exact⟨Ad rfl,Ai,Ai⟩)
variable {n0:Nat} {w0:World} {I0:Nat->Prop} {Q:Exit->Sta->Prop}
theorem Abp{e:E}{t:T}(hwt:Ay t)(hwe:∀x,x∈e.words->WE.wf x)(hwl:e.words.length*32<=140737488355328){n m:Nat}(hn:n*8<=140737488355328){K:A}
  (hf:WL t.words n 0 e.words=none->∀H:Hp,H [2]=⟨1,.cells z0⟩->Q .ret ⟨lk [(4,.pob [2] 1 0),(5,bv false)],H⟩) :
  ∀(j i a:Nat)(acc:List Int)(H:Hp),i+j=n->acc.length=i->(∀R,WL t.words j i (e.words.drop a)=some R->WL t.words n 0 e.words=some (acc++R))->(WL t.words j i (e.words.drop a)=none->WL t.words n 0 e.words=none) ->
   (∀(q:Bool)(a':Int)(W:List Int)(H':Hp),WL t.words n 0 e.words=some W->W.length=n->H' [0]=⟨1,.cells (eL e)⟩->H' [1]=⟨1,.cells (tL t)⟩->H' [2]=⟨1,.cells z0⟩->H' [3]=⟨1,.cells [iv 1,.osl [5] (n+1) 1 0 n,K]⟩->H' [5]=⟨n+1,.arr 1 (W.map uv)⟩->H' [8]=H [8] ->
    Q (.exit 0) ⟨lk [(2,.pob [0] 1 0),(3,.pob [1] 1 0),(4,.pob [2] 1 0),(6,.pob [3] 1 0),(7,iv n),(8,iv m),(11,iv a'),(12,iv n),(80,bv q)],H'⟩) ->
   H [0]=⟨1,.cells (eL e)⟩->H [1]=⟨1,.cells (tL t)⟩->H [2]=⟨1,.cells z0⟩->H [3]=⟨1,.cells [iv 1,.osl [5] (i+1) 1 0 i,K]⟩->H [5]=⟨i+1,.arr 1 (acc.map uv)⟩ ->
  LoopC (cx Tryz.prog w0 I0 n0) Cy Q ⟨lk [(2,.pob [0] 1 0),(3,.pob [1] 1 0),(4,.pob [2] 1 0),(6,.pob [3] 1 0),(7,iv n),(8,iv m),(11,iv a),(12,iv i)],H⟩:=by
 intro j;induction j with
 |zero=>
  intro i a acc H hi hacc hs hn' hq g0 g1 g2 g3 g5;have:i=n:=oF
  subst this;refine Ab Ah (Ao Cy.eq_1) ?_;simp;have hW:=hs [] rfl;rw[List.append_nil]at hW;exact hq _ _ acc H hW hacc g0 g1 g2 g3 g5 rfl
 |succ j ih=>
  intro i a acc H hi hacc hs hn' hq g0 g1 g2 g3 g5;have hlt:i<n:=oF
  have ei:=Ap i;refine Ab Ah (Ao Cy.eq_1) ?_;simp[hlt,g1];refine Ae (dn t i) iS ?_;have hwu:=gG (wfT_iff.1 hwt).w i;have htk:∀x:Int,(acc++[x]).map uv=acc.map uv++[uv x]:=fun x=>iS
  have htake:List.take i (acc.map uv)=acc.map uv:=Ax (by simp;omega);have skip:(∀x xs,e.words.drop a=x::xs->x.at_≠(i:Int))->∀H',H' [0]=⟨1,.cells (eL e)⟩->H' [1]=⟨1,.cells (tL t)⟩->H' [2]=⟨1,.cells z0⟩->H' [3]=⟨1,.cells [iv 1,.osl [5] (i+1+1) 1 0 (i+1),K]⟩->H' [5]=⟨i+1+1,.arr 1 ((acc++[t.words.getD i 0]).map uv)⟩->H' [8]=H [8] ->
    LoopC (cx Tryz.prog w0 I0 n0) Cy Q ⟨lk [(2,.pob [0] 1 0),(3,.pob [1] 1 0),(4,.pob [2] 1 0),(6,.pob [3] 1 0),(7,iv n),(8,iv m),(11,iv a),(12,iv ((i+1:Nat):Int))],H'⟩:=fun hsk H' q0 q1 q2 q3 q5 q8=>by
   have hw:=Yn (tw:=t.words) (m:=j) hsk;refine ih (i+1) a (acc++[t.words.getD i 0]) H' oF (by simp[hacc]) (fun R hR=>?_) (fun hR=>?_) (fun q a' W H2 r1 r2 r3 r4 r5 r6 r7 r8=>hq q a' W H2 r1 r2 r3 r4 r5 r6 r7 (by rw[r8,q8])) q0 q1 q2 q3 q5
   ·have:=hs (t.words.getD i 0::R) (by rw[hw,hR];rfl);simpa using this
   ·exact hn' (by rw[hw,hR];rfl)
  generalize hw0:t.words.getD i 0=w at skip hwu;simp[g0,g1];by_cases ha:a<e.words.length;rotate_left
  ·simp[ha,g3,g5,Aa,ei];refine⟨⟨oF,oF⟩,?_⟩;refine skip (fun x xs hx=>?_) _ (by simp[Aa,g0]) (by simp[Aa,g1]) (by simp[Aa,g2]) (by simp[Aa]) ?_ (by simp[Aa])
   ·rw[List.drop_eq_nil_of_le oF]at hx;cases hx
   ·rw[htk,htake];simp[Aa]
  have hdr:e.words.drop a=e.words[a]::e.words.drop (a+1):=List.drop_eq_getElem_cons ha;obtain⟨wf1,wf2,wf3,wf4⟩:=hwe _ (Bv ha);by_cases hat:e.words[a].at_=(i:Int);rotate_left
  ·simp[ha,hat,g3,g5,Aa,ei];refine⟨⟨oF,oF⟩,?_⟩;refine skip (fun x xs hx=>?_) _ (by simp[Aa,g0]) (by simp[Aa,g1]) (by simp[Aa,g2]) (by simp[Aa]) ?_ (by simp[Aa])
   ·rw[hdr]at hx;cases hx;exact hat
   ·rw[htk,htake];simp[Aa]
  simp[ha,hat,g0,g1,Aa];refine Ae (Hs (a:=0) (b:=w) ⟨dO,dO⟩ hwu wf2.1 wf2.2) iS ?_;by_cases hmx:BI 0 w e.words[a].mask=e.words[a].old;rotate_left
  ·simp[hmx,g2,Aa];refine hf (hn' ?_) _ (by simp[Aa]);rw[hdr];exact zk hat (by rw[hw0];exact hmx)
  have ea:=Ap a;have hw:=qy (tw:=t.words) (m:=j) (xs:=e.words.drop (a+1)) hat (by rw[hw0];exact hmx);rw[hw0]at hw;simp[hmx,Aa];refine Ae (Hs (a:=w) (b:=e.words[a].new) hwu wf4 wf2.1 wf2.2) iS ?_;generalize hx:BI w e.words[a].new e.words[a].mask=x at hw;simp[g3,g5,Aa,ei,ea];refine⟨⟨oF,oF⟩,?_⟩;refine ih (i+1) (a+1) (acc++[x]) _ oF (by simp[hacc]) (fun R hR=>?_) (fun hR=>?_) (fun q a' W H2 r1 r2 r3 r4 r5 r6 r7 r8=>hq q a' W H2 r1 r2 r3 r4 r5 r6 r7 (by rw[r8];simp[Aa])) (by simp[Aa,g0]) (by simp[Aa,g1]) (by simp[Aa,g2]) (by simp[Aa]) ?_
  ·have:=hs (x::R) (by rw[hdr,hw,hR];rfl);simpa using this
  ·exact hn' (by rw[hdr,hw,hR];rfl)
  ·rw[htk,htake];simp[Aa]
abbrev aj(o:Option T):A:=match o with
 |some u=>.tup [tX u,bv true]
 |none=>.tup [tX T0,bv false]
def af(e:E):Prop:=∀t,Ay t->G.Spec Tryz.prog 36 [eX e,tX t] (aj (aH e t))/\∀v,aH e t=some v->Ay v
theorem Yr:Ay T0:=wfT_iff.2 ⟨by simp[B6],iS,iS,iS,iS⟩
theorem p5{t:T}(h:Ay t)(i:Nat):Ay (t.kids.getD i T0):=by
 by_cases hi:i<t.kids.length
 ·rw[List.getD_eq_getElem?_getD,List.getElem?_eq_getElem hi];exact(wfT_iff.1 h).ks _ (Bv hi)
 ·rw[List.getD_eq_getElem?_getD,List.getElem?_eq_none oF];exact Yr
theorem Aar{e:E}{t:T}(hwt:Ay t)(hwl:e.kids.length*208<=140737488355328)(hk:∀x,x∈e.kids->af x.e){m:Nat}(hn:m*56<=140737488355328){W1:A}{X:VOb}
  (hf:WM t.kids m 0 (EC e.kids)=none->∀H:Hp,H [2]=⟨1,.cells z0⟩->Q .ret ⟨lk [(4,.pob [2] 1 0),(5,bv false)],H⟩)
  (hq:∀(q:Bool)(a':Int)(K:List T)(H':Hp),WM t.kids m 0 (EC e.kids)=some K->K.length=m->(∀x,x∈K->Ay x)->H' [2]=⟨1,.cells z0⟩->H' [3]=⟨1,.cells [iv 1,W1,.osl [8] (m+1) 3 0 m]⟩->H' [8]=⟨m+1,.arr 3 (K.map tA)⟩->H' [5]=X ->
    Q (.exit 2) ⟨lk [(2,.pob [0] 1 0),(3,.pob [1] 1 0),(4,.pob [2] 1 0),(6,.pob [3] 1 0),(8,iv m),(11,iv a'),(15,iv m),(130,bv q)],H'⟩) :
  ∀(j i a:Nat)(acc:List T)(H:Hp),i+j=m->acc.length=i->(∀x,x∈acc->Ay x)->(∀R,WM t.kids j i (EC (e.kids.drop a))=some R->WM t.kids m 0 (EC e.kids)=some (acc++R))->(WM t.kids j i (EC (e.kids.drop a))=none->WM t.kids m 0 (EC e.kids)=none) ->
   H [0]=⟨1,.cells (eL e)⟩->H [1]=⟨1,.cells (tL t)⟩->H [2]=⟨1,.cells z0⟩->H [3]=⟨1,.cells [iv 1,W1,.osl [8] (i+1) 3 0 i]⟩->H [8]=⟨i+1,.arr 3 (acc.map tA)⟩->H [5]=X ->
  LoopC (cx Tryz.prog w0 I0 n0) Cz Q ⟨lk [(2,.pob [0] 1 0),(3,.pob [1] 1 0),(4,.pob [2] 1 0),(6,.pob [3] 1 0),(8,iv m),(11,iv a),(15,iv i)],H⟩:=by
 intro j;induction j with
 |zero=>
  intro i a acc H hi hacc hwf hs hn' g0 g1 g2 g3 g8 g5;have:i=m:=oF
  subst this;refine Ab Ah (Ao Cz.eq_1) ?_;simp;have hW:=hs [] rfl;rw[List.append_nil]at hW;exact hq _ _ acc H hW hacc hwf g2 g3 g8 g5
 |succ j ih=>
  intro i a acc H hi hacc hwf hs hn' g0 g1 g2 g3 g8 g5;have hlt:i<m:=oF
  have ei:=Ap i;have htk:∀x:T,(acc++[x]).map tA=acc.map tA++[tA x]:=fun x=>iS
  have htake:List.take i (acc.map tA)=acc.map tA:=Ax (by simp;omega);have hwk:=p5 hwt i;refine Ab Ah (Ao Cz.eq_1) ?_;simp[hlt,g1];refine Ae (iL t i) iS ?_;have skip:(∀x xs,EC (e.kids.drop a)=x::xs->x.1≠(i:Int))->∀H',H' [0]=⟨1,.cells (eL e)⟩->H' [1]=⟨1,.cells (tL t)⟩->H' [2]=⟨1,.cells z0⟩->H' [3]=⟨1,.cells [iv 1,W1,.osl [8] (i+1+1) 3 0 (i+1)]⟩->H' [8]=⟨i+1+1,.arr 3 ((acc++[t.kids.getD i T0]).map tA)⟩->H' [5]=X ->
    LoopC (cx Tryz.prog w0 I0 n0) Cz Q ⟨lk [(2,.pob [0] 1 0),(3,.pob [1] 1 0),(4,.pob [2] 1 0),(6,.pob [3] 1 0),(8,iv m),(11,iv a),(15,iv ((i+1:Nat):Int))],H'⟩:=fun hsk H' q0 q1 q2 q3 q8 q5=>by
   have hw:=YS (tk:=t.kids) (m:=j) hsk;refine ih (i+1) a (acc++[t.kids.getD i T0]) H' oF (by simp[hacc]) (fun x hx=>?_) (fun R hR=>?_) (fun hR=>?_) q0 q1 q2 q3 q8 q5
   ·rcases List.mem_append.1 hx with h|h
    ·exact hwf x h
    ·rw[List.mem_singleton.1 h];exact hwk
   ·have:=hs (t.kids.getD i T0::R) (by rw[hw,hR];rfl);simpa using this
   ·exact hn' (by rw[hw,hR];rfl)
  generalize hw0:t.kids.getD i T0=c at skip hwk;simp[g0,g1,Aa];by_cases ha:a<e.kids.length;rotate_left
  ·simp[ha,g3,g8,Aa,ei];refine⟨⟨oF,oF⟩,?_⟩;refine skip (fun x xs hx=>?_) _ (by simp[Aa,g0]) (by simp[Aa,g1]) (by simp[Aa,g2]) (by simp[Aa]) ?_ (by simp[Aa,g5])
   ·rw[List.drop_eq_nil_of_le oF]at hx;rw[EC]at hx;cases hx
   ·rw[htk,htake];simp[Aa]
  have hdr:e.kids.drop a=e.kids[a]::e.kids.drop (a+1):=List.drop_eq_getElem_cons ha;have hap:EC (e.kids.drop a)=(e.kids[a].at_,aH e.kids[a].e)::EC (e.kids.drop (a+1)):=by rw[hdr,Lh,List.map_cons,<-Lh]
  by_cases hat:e.kids[a].at_=(i:Int);rotate_left
  ·simp[ha,hat,g3,g8,Aa,ei];refine⟨⟨oF,oF⟩,?_⟩;refine skip (fun x xs hx=>?_) _ (by simp[Aa,g0]) (by simp[Aa,g1]) (by simp[Aa,g2]) (by simp[Aa]) ?_ (by simp[Aa,g5])
   ·rw[hap]at hx;cases hx;exact hat
   ·rw[htk,htake];simp[Aa]
  obtain⟨hsp,hwv⟩:=hk _ (Bv ha) c hwk;have ea:=Ap a;simp[ha,hat,g0,g1,Aa];refine Ae hsp iS ?_;cases hv:aH e.kids[a].e c with
  |none=>
   simp[Aa,g2];refine hf (hn' ?_) _ (by simp[Aa,g2]);rw[hap];exact zP hat (by rw[hw0];exact hv)
  |some v=>
   have hw:=qb (tk:=t.kids) (m:=j) (x:=(e.kids[a].at_,aH e.kids[a].e)) (xs:=EC (e.kids.drop (a+1))) hat (by rw[hw0];exact hv);simp[Aa,g3,g8,ei,ea];refine⟨⟨oF,oF⟩,?_⟩;refine ih (i+1) (a+1) (acc++[v]) _ oF (by simp[hacc]) (fun x hx=>?_) (fun R hR=>?_) (fun hR=>?_) (by simp[Aa,g0]) (by simp[Aa,g1]) (by simp[Aa,g2]) (by simp[Aa]) ?_ (by simp[Aa,g5])
   ·rcases List.mem_append.1 hx with h|h
    ·exact hwf x h
    ·rw[List.mem_singleton.1 h];exact hwv v hv
   ·have:=hs (v::R) (by rw[hap,hw,hR];rfl);simpa using this
   ·exact hn' (by rw[hap,hw,hR];rfl)
   ·rw[htk,htake];simp[Aa]
theorem DB(a b mask:Int):Ba (BI a b mask):=by
 have h:=QK (J5 (AI a) (AI b) mask 8) SD;rw[Iu (by rw[BF];exact Cq _),BF]at h;have e:(256:Int) ^ 8=18446744073709551616:=dO
 rw[e]at h;exact⟨h.1,h.2⟩
theorem QF{tw:List Int}(ht:∀x,x∈tw->Ba x):∀(m i:Nat)(rem:List WE)(R:List Int),WL tw m i rem=some R->R.length=m/\∀x,x∈R->Ba x
 |0,i,rem,R,h=>by
  rw[WL]at h;cases h;exact⟨rfl,fun x hx=>by cases hx⟩
 |m+1,i,rem,R,h=>by
  have key:∀(y:Int)(o:Option (List Int)),Ba y->o.map (y :: ·)=some R->(∀R',o=some R'->R'.length=m/\∀x,x∈R'->Ba x)->R.length=m+1/\∀x,x∈R->Ba x:=fun y o hy ho hr=>by
   cases o with
   |none=>cases ho
   |some R'=>
    cases ho;obtain⟨q1,q2⟩:=hr R' rfl;exact⟨by simp[q1],fun x hx=>by
     rcases List.mem_cons.1 hx with rfl|hx
     ·exact hy
     ·exact q2 x hx⟩
  cases rem with
  |nil=>
   rw[WL]at h;exact key _ _ (gG ht i) h fun R' hR'=>QF ht m (i+1) [] R' hR'
  |cons x xs=>
   rw[WL]at h;split at h
   ·split at h
    ·exact key _ _ (DB _ _ _) h fun R' hR'=>QF ht m (i+1) xs R' hR'
    ·cases h
   ·exact key _ _ (gG ht i) h fun R' hR'=>QF ht m (i+1) (x::xs) R' hR'
section
variable {n0:Nat} {w0:World} {I0:Nat->Prop}
noncomputable def TF(e:E)(t:T)(n m:Nat):Option T:=match WL t.words n 0 e.words,WM t.kids m 0 (EC e.kids) with
 |some w,some l=>some (.mk 1 w l)
 |_,_=>none
theorem zI{e:E}(hwe:Qz e)(hk:∀x,x∈e.kids->af x.e){t:T}(hwt:Ay t){n m:Nat}(hn:n*8<=140737488355328)(hm:m*56<=140737488355328){H:Hp}(g0:H [0]=⟨1,.cells (eL e)⟩)(g1:H [1]=⟨1,.cells (tL t)⟩)(g2:H [2]=⟨1,.cells z0⟩)(g3:H [3]=⟨1,.cells [iv 1,.osl [5] 1 1 0 0,.osl [8] 1 3 0 0]⟩)(g5:H [5]=⟨1,.arr 1 []⟩)(g8:H [8]=⟨1,.arr 3 []⟩) :
  WPC (cx Tryz.prog w0 I0 n0) Dv (Rn Tryz.prog [.cell 4 25,.tmp 5] (aj (TF e t n m))) ⟨lk [(2,.pob [0] 1 0),(3,.pob [1] 1 0),(4,.pob [2] 1 0),(6,.pob [3] 1 0),(7,iv n),(8,iv m)],H⟩:=by
 have he:=wfE_iff.1 hwe;have bad:TF e t n m=none->∀H:Hp,H [2]=⟨1,.cells z0⟩->Iz H (.tup [.agg z0,bv false]) (aj (TF e t n m)):=fun h H hH=>by
  rw[h];exact AM ⟨Bb ⟨Ad rfl,Ai,Ai,trivial⟩,Ad rfl,trivial⟩
 rw[gm Dv.eq_1];simp;refine Abp (e:=e) hwt he.w he.wl hn (m:=m) (K:=.osl [8] 1 3 0 0) (fun hnone H' h2=>?_) n 0 0 [] H oF rfl (fun R hR=>by simpa using hR) (fun hR=>by simpa using hR) (fun q a' W H' hW hWl r0 r1 r2 r3 r5 r8=>?_) g0 g1 g2 (by simpa using g3) (by simpa using g5)
 ·simp[h2];exact bad (by simp[TF,hnone]) _ h2
 ·simp;refine Aar (e:=e) hwt he.kl hk hm (W1:=.osl [5] (n+1) 1 0 n) (X:=⟨n+1,.arr 1 (W.map uv)⟩) (fun hnone H2 h2=>?_) (fun q2 a2 K H2 hK hKl hKw s2 s3 s8 s5=>?_) m 0 0 [] H' oF rfl (fun x hx=>by cases hx) (fun R hR=>by simpa using hR) (fun hR=>by simpa using hR) r0 r1 r2 (by simpa using r3) (by rw[r8,g8];rfl) r5
  ·simp[h2];exact bad (by simp[TF,hW,hnone]) _ h2
  ·simp[s3,s2,Aa];have:TF e t n m=some (.mk 1 W K):=by simp[TF,hW,hK]
   rw[this];exact AM ⟨Bb ⟨Ad rfl,AQ (f:=uv) (l:=W) (by simp[Aa,s5]) hWl.symm (fun x=>iS),AQ (f:=tA) (l:=K) (by simp[Aa,s8]) hKl.symm (fun x=>iS),trivial⟩,Ad rfl,trivial⟩
theorem kK{α:Type}(l:List α):l.getLast? = l[l.length-1]?:=List.getLast?_eq_getElem?
theorem AbE{e:E}(hwe:Qz e)(hk:∀x,x∈e.kids->af x.e){t:T}(hwt:Ay t)(hp2:∀x,x∈e.kids->0<=x.at_/\x.at_<=65534){n:Nat}(hn:n*8<=140737488355328){H:Hp}(g0:H [0]=⟨1,.cells (eL e)⟩)(g1:H [1]=⟨1,.cells (tL t)⟩)(g2:H [2]=⟨1,.cells z0⟩)(g3:H [3]=⟨1,.cells [iv 1,.osl [5] 1 1 0 0,.osl [8] 1 3 0 0]⟩)(g5:H [5]=⟨1,.arr 1 []⟩)(g8:H [8]=⟨1,.arr 3 []⟩) :
  WPC (cx Tryz.prog w0 I0 n0) Dw (Rn Tryz.prog [.cell 4 25,.tmp 5] (aj (TF e t n (Jj (EC e.kids) t.kids.length)))) ⟨lk [(2,.pob [0] 1 0),(3,.pob [1] 1 0),(4,.pob [2] 1 0),(6,.pob [3] 1 0),(7,iv n),(8,iv t.kids.length)],H⟩:=by
 have he:=wfE_iff.1 hwe;have hkl:=he.kl;have htl:=(wfT_iff.1 hwt).kl;have fin:∀m:Nat,m*56<=140737488355328->m=Jj (EC e.kids) t.kids.length->WPC (cx Tryz.prog w0 I0 n0) Dv (Rn Tryz.prog [.cell 4 25,.tmp 5] (aj (TF e t n (Jj (EC e.kids) t.kids.length)))) ⟨lk [(2,.pob [0] 1 0),(3,.pob [1] 1 0),(4,.pob [2] 1 0),(6,.pob [3] 1 0),(7,iv n),(8,iv m)],H⟩:=fun m hm e1=>by
  rw[<-e1];exact zI hwe hk hwt hn hm g0 g1 g2 g3 g5 g8
 generalize aj (TF e t n (Jj (EC e.kids) t.kids.length))=Y at fin ⊢;rw[BG Dw.eq_1];by_cases h0:e.kids.length=0
 ·have hl0:t.kids.length=Jj (EC e.kids) t.kids.length:=by
   rw[List.eq_nil_of_length_eq_zero h0,EC];rfl
  have fin0:=fin _ oF hl0;simp[g0,h0];exact fin0
 have hlt:e.kids.length-1<e.kids.length:=oF
 have e9:i64.wrap ((e.kids.length:Int)-1)=((e.kids.length-1:Nat):Int):=(AJ (n:=(e.kids.length:Int)-1) oF oF).trans oF;have hpos:0<e.kids.length:=oF
 have hlast:Jj (EC e.kids) t.kids.length=max t.kids.length (e.kids[e.kids.length-1].at_+1).toNat:=by
  have:(EC e.kids).getLast? = some (e.kids[e.kids.length-1].at_,aH e.kids[e.kids.length-1].e):=by
   rw[Lh,kK];simp[hlt]
  simp[Jj,this]
 obtain⟨p1,p2⟩:=hp2 _ (Bv hlt);generalize hz:e.kids[e.kids.length-1].at_=z at hlast p1 p2;have ez:i64.wrap (z+1)=z+1:=CX;by_cases hc:(t.kids.length:Int)<=z
 ·simp[g0,hpos,e9,hlt,hz,hc,ez];have:=fin (z+1).toNat oF oF
  rwa [show(((z+1).toNat:Nat):Int)=z+1 by omega]at this
 ·simp[g0,hpos,e9,hlt,hz,hc];exact fin t.kids.length oF oF
end
theorem Qt{tk:List T}(ht:∀i,Ay (tk.getD i T0)):∀(m i:Nat)(rem:List (Int × (T->Option T)))(R:List T),(∀x,x∈rem->∀u v,Ay u->x.2 u=some v->Ay v)->WM tk m i rem=some R->R.length=m/\∀x,x∈R->Ay x
 |0,i,rem,R,_,h=>by
  rw[WM]at h;cases h;exact⟨rfl,fun x hx=>by cases hx⟩
 |m+1,i,rem,R,hr,h=>by
  have key:∀(y:T)(o:Option (List T)),Ay y->o.map (y :: ·)=some R->(∀R',o=some R'->R'.length=m/\∀x,x∈R'->Ay x)->R.length=m+1/\∀x,x∈R->Ay x:=fun y o hy ho hr=>by
   cases o with
   |none=>cases ho
   |some R'=>
    cases ho;obtain⟨q1,q2⟩:=hr R' rfl;exact⟨by simp[q1],fun x hx=>by
     rcases List.mem_cons.1 hx with rfl|hx
     ·exact hy
     ·exact q2 x hx⟩
  cases rem with
  |nil=>
   rw[WM]at h;exact key _ _ (ht i) h fun R' hR'=>Qt ht m (i+1) [] R' (fun x hx=>by cases hx) hR'
  |cons x xs=>
   rw[WM]at h;split at h
   ·split at h
    ·cases h
    ·rename_i u hu;exact key _ _ (hr x iS _ _ (ht i) hu) h fun R' hR'=>Qt ht m (i+1) xs R' (fun y hy=>hr y (by simp[hy])) hR'
   ·exact key _ _ (ht i) h fun R' hR'=>Qt ht m (i+1) (x::xs) R' hr hR'
theorem xF{ws:List WE}(hp:∀x,x∈ws->0<=x.at_/\x.at_<=65534)(n:Nat):n<=Lb ws n/\Lb ws n<=max n 65535:=by
 unfold Lb;cases h:ws.getLast? with
 |none=>simp;omega
 |some x=>
  have:=hp x (List.mem_of_getLast? h);simp;omega
theorem y4{ks:List KE}(hp:∀x,x∈ks->0<=x.at_/\x.at_<=65534)(n:Nat):n<=Jj (EC ks) n/\Jj (EC ks) n<=max n 65535:=by
 unfold Jj;cases h:(EC ks).getLast? with
 |none=>simp;omega
 |some x=>
  have hx:=List.mem_of_getLast? h;rw[Lh]at hx;obtain⟨y,hy,rfl⟩:=List.mem_map.1 hx;have:=hp y hy;simp;omega
noncomputable def Vp(e:E)(t:T):Option T:=if t.kind=1 then TF e t (Lb e.words t.words.length) (Jj (EC e.kids) t.kids.length)else none
theorem Aah{e:E}(hk:∀x,x∈e.kids->af x.e){t:T}(hwt:Ay t)(hp:∀x,x∈e.words->0<=x.at_/\x.at_<=65534)(hp2:∀x,x∈e.kids->0<=x.at_/\x.at_<=65534):∀v,Vp e t=some v->Ay v:=fun v h=>by
 unfold Vp at h;split at h
 ·unfold TF at h;have ht:=wfT_iff.1 hwt;have hw:=QF ht.w (Lb e.words t.words.length) 0 e.words;have hk:=Qt (p5 hwt) (Jj (EC e.kids) t.kids.length) 0 (EC e.kids);have l1:=xF hp t.words.length;have l2:=y4 hp2 t.kids.length;split at h
  ·rename_i w l hw' hl';cases h;obtain⟨a1,a2⟩:=hw w hw';obtain⟨b1,b2⟩:=hk l (fun x hx u v hu hv=>by
    rw[Lh]at hx;obtain⟨y,hy,rfl⟩:=List.mem_map.1 hx;rename_i hkk _ _ _;exact(hkk y hy u hu).2 v hv) hl'
   have:=ht.wl;have:=ht.kl;exact wfT_iff.2 ⟨by simp[B6],a2,by simp;omega,by simp;omega,b2⟩
  ·cases h
 ·cases h
theorem q9{e:E}(hwe:Qz e)(hk:∀x,x∈e.kids->af x.e){t:T}(hwt:Ay t)(hp:∀x,x∈e.words->0<=x.at_/\x.at_<=65534)(hp2:∀x,x∈e.kids->0<=x.at_/\x.at_<=65534) :
  G.Spec Tryz.prog 61 [eX e,tX t] (aj (Vp e t)):=by
 have he:=wfE_iff.1 hwe;have hwl:=he.wl;have htl:=(wfT_iff.1 hwt).wl;refine Aj Oi iS fun w0 I0=>?_;by_cases h1:t.kind=1;rotate_left
 ·have:Vp e t=none:=if_neg h1;rw[this];rw[BG FJ.eq_1];simp[h1];exact AM ⟨Bb ⟨Ad rfl,Ai,Ai,trivial⟩,Ad rfl,trivial⟩
 have hA:Vp e t=TF e t (Lb e.words t.words.length) (Jj (EC e.kids) t.kids.length):=if_pos h1;have fin:∀n:Nat,n*8<=140737488355328->n=Lb e.words t.words.length->∀H:Hp,H [0]=⟨1,.cells (eL e)⟩->H [1]=⟨1,.cells (tL t)⟩->H [2]=⟨1,.cells z0⟩->H [3]=⟨1,.cells [iv 1,.osl [5] 1 1 0 0,.osl [8] 1 3 0 0]⟩->H [5]=⟨1,.arr 1 []⟩->H [8]=⟨1,.arr 3 []⟩ ->
   WPC (cx Tryz.prog w0 I0 175) Dw (Rn Tryz.prog [.cell 4 25,.tmp 5] (aj (Vp e t))) ⟨lk [(2,.pob [0] 1 0),(3,.pob [1] 1 0),(4,.pob [2] 1 0),(6,.pob [3] 1 0),(7,iv n),(8,iv t.kids.length)],H⟩:=fun n hn e1 H g0 g1 g2 g3 g5 g8=>by
  rw[hA,<-e1];exact AbE hwe hk hwt hp2 hn g0 g1 g2 g3 g5 g8
 generalize aj (Vp e t)=Y at fin ⊢;rw[BG FJ.eq_1];simp[h1];refine Dn (Bi (d:=[3]) (u:=1) (cs:=[iv 1,.sl true [],.sl true []]) 1 [5] 1 iS rfl iS) ?_;refine Dn (Bi (d:=[3]) (u:=1) (cs:=[iv 1,.osl [5] 1 1 0 0,.sl true []]) 2 [8] 3 (by simp[Aa]) rfl iS) (Dr ?_);by_cases h0:e.words.length=0
 ·have hl0:t.words.length=Lb e.words t.words.length:=by
   rw[List.eq_nil_of_length_eq_zero h0];rfl
  simp[h0,Aa];exact fin _ htl hl0 _ (by simp[Aa]) (by simp[Aa,h1]) (by simp[Aa]) (by simp[Aa]) (by simp[Aa]) (by simp[Aa])
 have hlt:e.words.length-1<e.words.length:=oF
 have e9:i64.wrap ((e.words.length:Int)-1)=((e.words.length-1:Nat):Int):=(AJ (n:=(e.words.length:Int)-1) oF oF).trans oF;have hpos:0<e.words.length:=oF
 have hlast:Lb e.words t.words.length=max t.words.length (e.words[e.words.length-1].at_+1).toNat:=by
  have:e.words.getLast? = some e.words[e.words.length-1]:=by
   rw[kK];simp[hlt]
  simp[Lb,this]
 obtain⟨p1,p2⟩:=hp _ (Bv hlt);generalize hz:e.words[e.words.length-1].at_=z at hlast p1 p2;have ez:i64.wrap (z+1)=z+1:=CX;by_cases hc:(t.words.length:Int)<=z
 ·simp[hpos,e9,hlt,hz,hc,ez,Aa];have:=fin (z+1).toNat oF oF;rw[show(((z+1).toNat:Nat):Int)=z+1 by omega]at this;exact this _ (by simp[Aa]) (by simp[Aa,h1]) (by simp[Aa]) (by simp[Aa]) (by simp[Aa]) (by simp[Aa])
 ·simp[hpos,e9,hlt,hz,hc,Aa];exact fin t.words.length htl oF _ (by simp[Aa]) (by simp[Aa,h1]) (by simp[Aa]) (by simp[Aa]) (by simp[Aa]) (by simp[Aa])
def Nr(x:OP):Prop:=(x.kind=0/\1<=x.n/\x.n<=1048576/\x.l=[])\/(x.kind=1/\x.n=0)\/(x.kind=2/\x.n=0)\/(x.kind=3/\x.n=0/\x.l=[])
structure LsH(e:E)(t:T)(k:Int)(acc:List T)(H:Hp):Prop where
 g0:H [0]=⟨1,.cells (eL e)⟩
 g1:H [1]=⟨1,.cells (tL t)⟩
 g2:H [2]=⟨1,.cells z0⟩
 g3:H [3]=⟨1,.cells [iv k,.sl true [],.osl [5] (acc.length+1) 3 0 acc.length]⟩
 g5:H [5]=⟨acc.length+1,.arr 3 (acc.map tA)⟩
theorem LsH.snoc{e:E}{t:T}{k:Int}{acc:List T}{H:Hp}(h:LsH e t k acc H)(x:T):LsH e t k (acc++[x]) (Ar (Ar H [5] ⟨acc.length+1+1,.arr 3 (List.take acc.length (acc.map tA)++[tX x])⟩) [3] ⟨1,.cells [iv k,.sl true [],.osl [5] (acc.length+1+1) 3 0 (acc.length+1)]⟩):=
 ⟨by simp[Aa,h.g0],by simp[Aa,h.g1],by simp[Aa,h.g2],by simp[Aa],by simp[Aa,Ax]⟩
theorem LsH.put{e:E}{t:T}{k:Int}{acc:List T}{H:Hp}(h:LsH e t k acc H){d:Nm}(x:VOb)(hd:d≠[0]/\d≠[1]/\d≠[2]/\d≠[3]/\d≠[5]):LsH e t k acc (Ar H d x):=
 ⟨by rw[AD (Ne.symm hd.1)];exact h.g0,by rw[AD (Ne.symm hd.2.1)];exact h.g1,by rw[AD (Ne.symm hd.2.2.1)];exact h.g2,by rw[AD (Ne.symm hd.2.2.2.1)];exact h.g3,by rw[AD (Ne.symm hd.2.2.2.2)];exact h.g5⟩
abbrev UC(x:OP):List A:=[iv x.kind,iv x.n,AV x.l]++eL x.e
theorem Aej{e:E}{t:T}{k:Int}{x:OP}{i v:Nat}(hx:x.kind=0){N:Nat}(hN:x.n=N)(hb:N<=1048576)(htk:t.kids.length*56<=140737488355328) :
  ∀(j m a:Nat)(acc:List T)(H:Hp),m+j=N->acc.length<=1000000000000+m->LsH e t k acc H->H [4]=⟨v,.cells (UC x)⟩ ->
   (a+j<=t.kids.length->∀(H':Hp)(q:Bool),LsH e t k (acc++(t.kids.drop a).take j) H'->H' [4]=⟨v,.cells (UC x)⟩->Q (.exit 2) ⟨lk [(2,.pob [0] 1 0),(3,.pob [1] 1 0),(4,.pob [2] 1 0),(6,.pob [3] 1 0),(7,iv ((a+j:Nat):Int)),(8,iv i),(9,.pob [4] v 0),(10,iv N),(43,bv q)],H'⟩) ->
   (¬a+j<=t.kids.length->∀H':Hp,H' [2]=⟨1,.cells z0⟩->Q .ret ⟨lk [(4,.pob [2] 1 0),(5,bv false)],H'⟩) ->
   a<=t.kids.length ->
  LoopC (cx Tryz.prog w0 I0 n0) C5 Q ⟨lk [(2,.pob [0] 1 0),(3,.pob [1] 1 0),(4,.pob [2] 1 0),(6,.pob [3] 1 0),(7,iv a),(8,iv i),(9,.pob [4] v 0),(10,iv m)],H⟩:=by
 intro j;induction j with
 |zero=>
  intro m a acc H hm hacc hH h4 hq hf ha;have:m=N:=oF
  subst this;refine Ab Ah (Ao C5.eq_1) ?_;simp[h4,hN];exact hq oF H _ (by simpa using hH) h4
 |succ j ih=>
  intro m a acc H hm hacc hH h4 hq hf ha;have hlt:m<N:=oF
  refine Ab Ah (Ao C5.eq_1) ?_;by_cases hla:a<t.kids.length;rotate_left
  ·have hla':t.kids.length<=a:=oF
   simp[h4,hN,hx,hlt,hH.g1,hH.g2,Aa,hla,hla'];exact hf oF _ (by simp[Aa])
  have hla':¬t.kids.length<=a:=oF
  have ei:=Ap a;have em:=Ap m;have hs:=hH.snoc t.kids[a];have hd:(t.kids.drop a).take (j+1)=t.kids[a]::(t.kids.drop (a+1)).take j:=by
   rw[List.drop_eq_getElem_cons hla,List.take_succ_cons]
  have hs4:∀X Y:VOb,(Ar (Ar H [5] X) [3] Y) [4]=⟨v,.cells (UC x)⟩:=fun X Y=>by simp[Aa,h4]
  simp[h4,hN,hx,hlt,hH.g1,hla,hla',hH.g3,hH.g5,Aa];refine⟨oF,Dr ?_⟩;simp[ei,em];refine ih (m+1) (a+1) (acc++[t.kids[a]]) _ oF (by simp;omega) hs (hs4 _ _) (fun hle H' q hL' q4=>?_) (fun hle H' h2=>hf oF H' h2) oF;have:=hq oF H' q (by rw[hd];simpa using hL') q4
  rwa [show a+(j+1)=a+1+j by omega]at this
def OY(x:OP):Nat:=if x.kind=0 then x.n.toNat else if x.kind=1 then 0 else if x.kind=2 then x.l.length else 1
def Ls:List OP->Nat
 |[]=>0
 |x::xs=>OY x+Ls xs
theorem zF{e:E}{t:T}{k:Int}{x:OP}{i v:Nat}{a:Int}(hx:x.kind=2)(hl:x.l.length<=1048576) :
  ∀(j m:Nat)(acc:List T)(H:Hp),m+j=x.l.length->acc.length<=1048576+m->LsH e t k acc H->H [4]=⟨v,.cells (UC x)⟩ ->
   (∀(H':Hp)(q:Bool),LsH e t k (acc++x.l.drop m) H'->H' [4]=⟨v,.cells (UC x)⟩->Q (.exit 4) ⟨lk [(2,.pob [0] 1 0),(3,.pob [1] 1 0),(4,.pob [2] 1 0),(6,.pob [3] 1 0),(7,iv a),(8,iv i),(9,.pob [4] v 0),(11,iv x.l.length),(68,bv q)],H'⟩) ->
  LoopC (cx Tryz.prog w0 I0 n0) BN Q ⟨lk [(2,.pob [0] 1 0),(3,.pob [1] 1 0),(4,.pob [2] 1 0),(6,.pob [3] 1 0),(7,iv a),(8,iv i),(9,.pob [4] v 0),(11,iv m)],H⟩:=by
 intro j;induction j with
 |zero=>
  intro m acc H hm hacc hH h4 hq;have:m=x.l.length:=oF
  subst this;refine Ab Ah (Ao BN.eq_1) ?_;simp[h4];exact hq H _ (by simpa using hH) h4
 |succ j ih=>
  intro m acc H hm hacc hH h4 hq;have hlt:m<x.l.length:=oF
  refine Ab Ah (Ao BN.eq_1) ?_;have em:=Ap m;have hs:=hH.snoc x.l[m];have hd:x.l.drop m=x.l[m]::x.l.drop (m+1):=List.drop_eq_getElem_cons hlt;have hs4:∀X Y:VOb,(Ar (Ar H [5] X) [3] Y) [4]=⟨v,.cells (UC x)⟩:=fun X Y=>by simp[Aa,h4]
  simp[h4,hx,hlt,hH.g3,hH.g5,Aa];refine⟨oF,?_⟩;simp[em];refine ih (m+1) (acc++[x.l[m]]) _ oF (by simp;omega) hs (hs4 _ _) (fun H' q hL' q4=>?_);exact hq H' q (by rw[hd];simpa using hL') q4
theorem Aaw{e:E}{t:T}{k:Int}{x:OP}{i v:Nat}{acc:List T}(hx:x.kind=1)(hl:x.l.length<=1048576)(hwt:Ay t)(hwx:∀y,y∈x.l->Ay y)(a0:Nat) :
  ∀(j m a:Nat)(H:Hp),m+j=x.l.length->a=a0+m->LsH e t k acc H->H [4]=⟨v,.cells (UC x)⟩ ->
   (a+j<=t.kids.length->((t.kids.drop a).zip (x.l.drop m)).all (fun p=>JE p.1 p.2)=true->∀(H':Hp)(q:Bool),LsH e t k acc H'->H' [4]=⟨v,.cells (UC x)⟩->Q (.exit 4) ⟨lk [(2,.pob [0] 1 0),(3,.pob [1] 1 0),(4,.pob [2] 1 0),(6,.pob [3] 1 0),(7,iv ((a+j:Nat):Int)),(8,iv i),(9,.pob [4] v 0),(11,iv x.l.length),(68,bv q)],H'⟩) ->
   (¬(a+j<=t.kids.length/\((t.kids.drop a).zip (x.l.drop m)).all (fun p=>JE p.1 p.2)=true)->∀H':Hp,H' [2]=⟨1,.cells z0⟩->Q .ret ⟨lk [(4,.pob [2] 1 0),(5,bv false)],H'⟩) ->
   a<=t.kids.length ->
  LoopC (cx Tryz.prog w0 I0 n0) BN Q ⟨lk [(2,.pob [0] 1 0),(3,.pob [1] 1 0),(4,.pob [2] 1 0),(6,.pob [3] 1 0),(7,iv a),(8,iv i),(9,.pob [4] v 0),(11,iv m)],H⟩:=by
 have htk:=(wfT_iff.1 hwt).kl;intro j;induction j with
 |zero=>
  intro m a H hm hma hH h4 hq hf ha;have:m=x.l.length:=oF
  subst this;refine Ab Ah (Ao BN.eq_1) ?_;simp[h4];exact hq oF iS H _ hH h4
 |succ j ih=>
  intro m a H hm hma hH h4 hq hf ha;have hlt:m<x.l.length:=oF
  refine Ab Ah (Ao BN.eq_1) ?_;have em:=Ap m;have ea:=Ap a;have hd:x.l.drop m=x.l[m]::x.l.drop (m+1):=List.drop_eq_getElem_cons hlt;by_cases hla:a<t.kids.length;rotate_left
  ·have hla':t.kids.length<=a:=oF
   simp[h4,hx,hlt,hH.g1,hH.g2,Aa,hla'];refine Bx rfl ?_;simp[hH.g2,Aa];exact hf (fun h=>oF) _ (by simp[Aa])
  have hla':¬t.kids.length<=a:=oF
  have hd2:t.kids.drop a=t.kids[a]::t.kids.drop (a+1):=List.drop_eq_getElem_cons hla;simp[h4,hx,hlt,hH.g1,hla',hla];refine DC rfl (fun _=>It ((wfT_iff.1 hwt).ks _ (Bv hla)) (hwx _ (Bv hlt)) (BV _ ((wfT_iff.1 hwt).ks _ (Bv hla)))) (fun _=>iS) iS ?_;have hz:((t.kids.drop a).zip (x.l.drop m)).all (fun p=>JE p.1 p.2)=(JE t.kids[a] x.l[m]&&((t.kids.drop (a+1)).zip (x.l.drop (m+1))).all (fun p=>JE p.1 p.2)):=by rw[hd,hd2];rfl
  rw[hz]at hq hf;simp only[Bool.and_eq_true]at hq hf;by_cases he:JE t.kids[a] x.l[m]=true
  ·simp[he];refine Dr ?_;simp[ea,em];refine ih (m+1) (a+1) H oF oF hH h4 (fun hle hal H' q hL' q4=>?_) (fun hle H' h2=>hf (fun h=>hle ⟨oF,h.2.2⟩) H' h2) oF;have:=hq oF ⟨he,hal⟩ H' q hL' q4
   rwa [show a+(j+1)=a+1+j by omega]at this
  ·simp[he,hH.g2,Aa];exact hf (fun h=>he h.2.1) _ (by simp[Aa])
theorem gg{x:OP}{i v:Nat}{a:Int}(hx:x.n=0){H:Hp}(h4:H [4]=⟨v,.cells (UC x)⟩)
  (hq:∀q:Bool,Q (.exit 2) ⟨lk [(2,.pob [0] 1 0),(3,.pob [1] 1 0),(4,.pob [2] 1 0),(6,.pob [3] 1 0),(7,iv a),(8,iv i),(9,.pob [4] v 0),(10,iv 0),(43,bv q)],H⟩) :
  LoopC (cx Tryz.prog w0 I0 n0) C5 Q ⟨lk [(2,.pob [0] 1 0),(3,.pob [1] 1 0),(4,.pob [2] 1 0),(6,.pob [3] 1 0),(7,iv a),(8,iv i),(9,.pob [4] v 0),(10,iv 0)],H⟩:=by
 refine Ab Ah (Ao C5.eq_1) ?_;simp[h4,hx];exact hq _
theorem qx{x:OP}{i v:Nat}{a:Int}(hx:x.l=[]){H:Hp}(h4:H [4]=⟨v,.cells (UC x)⟩)
  (hq:∀q:Bool,Q (.exit 4) ⟨lk [(2,.pob [0] 1 0),(3,.pob [1] 1 0),(4,.pob [2] 1 0),(6,.pob [3] 1 0),(7,iv a),(8,iv i),(9,.pob [4] v 0),(11,iv 0),(68,bv q)],H⟩) :
  LoopC (cx Tryz.prog w0 I0 n0) BN Q ⟨lk [(2,.pob [0] 1 0),(3,.pob [1] 1 0),(4,.pob [2] 1 0),(6,.pob [3] 1 0),(7,iv a),(8,iv i),(9,.pob [4] v 0),(11,iv 0)],H⟩:=by
 refine Ab Ah (Ao BN.eq_1) ?_;simp[h4,hx];exact hq _
theorem Yw(f:T × T->Bool):∀(l m:List T),((l.take m.length).zip m).all f=(l.zip m).all f
 |l,[]=>iS
 |[],m=>iS
 |x::l,y::m=>by
  have:=Yw f l m;simp only[List.length_cons,List.take_succ_cons,List.zip_cons_cons,List.all_cons,this]
theorem sZ{os:List OP}{i:Nat}(h:i<os.length):GR (os.drop i)=(os[i].kind,os[i].n,os[i].l,aH os[i].e)::GR (os.drop (i+1)):=by
 rw[List.drop_eq_getElem_cons h,Pu,List.map_cons,<-Pu]
theorem AeW{e:E}{t:T}{k:Int}(hwt:Ay t)(hol:e.ops.length*240<=140737488355328)(hok:∀x,x∈e.ops->Nr x/\x.l.length<=1048576/\(∀y,y∈x.l->Ay y))(hk:∀x,x∈e.ops->x.kind=3->af x.e)
  (hf:GY t.kids 0 (GR e.ops)=none->∀H':Hp,H' [2]=⟨1,.cells z0⟩->Q .ret ⟨lk [(4,.pob [2] 1 0),(5,bv false)],H'⟩)
  (hq:∀(q:Bool)(a:Nat)(acc:List T)(H':Hp),GY t.kids 0 (GR e.ops)=some (acc,a)->a<=t.kids.length->LsH e t k acc H'->Q (.exit 0) ⟨lk [(2,.pob [0] 1 0),(3,.pob [1] 1 0),(4,.pob [2] 1 0),(6,.pob [3] 1 0),(7,iv a),(8,iv e.ops.length),(27,bv q)],H'⟩) :
  ∀(j i a:Nat)(acc:List T)(H:Hp),i+j=e.ops.length->acc.length+Ls (e.ops.drop i)<=1048576->LsH e t k acc H ->
   (∀r,GY t.kids a (GR (e.ops.drop i))=some r->GY t.kids 0 (GR e.ops)=some (acc++r.1,r.2))->(GY t.kids a (GR (e.ops.drop i))=none->GY t.kids 0 (GR e.ops)=none) ->
   a<=t.kids.length ->
  LoopC (cx Tryz.prog w0 I0 n0) FF Q ⟨lk [(2,.pob [0] 1 0),(3,.pob [1] 1 0),(4,.pob [2] 1 0),(6,.pob [3] 1 0),(7,iv a),(8,iv i)],H⟩:=by
 have htk:=(wfT_iff.1 hwt).kl;intro j;induction j with
 |zero=>
  intro i a acc H hi hacc hH hs hn ha;have:i=e.ops.length:=oF
  subst this;refine Ab Ah (gm FF.eq_1) ?_;simp[hH.g0];rw[List.drop_length,GR]at hs;have:=hs ([],a) (by rw[GY]);rw[List.append_nil]at this;exact hq _ a acc H this ha hH
 |succ j ih=>
  intro i a acc H hi hacc hH hs hn ha;have hlt:i<e.ops.length:=oF
  obtain⟨hop,hxl,hxw⟩:=hok _ (Bv hlt);have hkx:=hk _ (Bv hlt);rw[sZ hlt]at hs hn;have hadd:Ls (e.ops.drop i)=OY e.ops[i]+Ls (e.ops.drop (i+1)):=by rw[List.drop_eq_getElem_cons hlt];rfl
  rw[hadd]at hacc;have ei:=Ap i;refine Ab Ah (gm FF.eq_1) ?_;simp[hlt,hH.g0,Aa];have hH4:=hH.put (d:=[4]) ⟨(H [4]).u+1,.cells (UC e.ops[i])⟩ iS;have h4:(Ar H [4] ⟨(H [4]).u+1,.cells (UC e.ops[i])⟩) [4]=⟨(H [4]).u+1,.cells (UC e.ops[i])⟩:=by simp[Aa]
  change LsH e t k acc (Ar H [4] { u:=(H [4]).u+1,ob:=.cells [iv e.ops[i].kind,iv e.ops[i].n,AV e.ops[i].l,iv e.ops[i].e.kind,iv e.ops[i].e.old.kind,C7 e.ops[i].e.old.words,AV e.ops[i].e.old.kids,iv e.ops[i].e.new.kind,C7 e.ops[i].e.new.words,AV e.ops[i].e.new.kids,QX e.ops[i].e.words,Ry e.ops[i].e.kids,iv e.ops[i].e.list,HQ e.ops[i].e.ops] })at hH4;change (Ar H [4] { u:=(H [4]).u+1,ob:=.cells [iv e.ops[i].kind,iv e.ops[i].n,AV e.ops[i].l,iv e.ops[i].e.kind,iv e.ops[i].e.old.kind,C7 e.ops[i].e.old.words,AV e.ops[i].e.old.kids,iv e.ops[i].e.new.kind,C7 e.ops[i].e.new.words,AV e.ops[i].e.new.kids,QX e.ops[i].e.words,Ry e.ops[i].e.kids,iv e.ops[i].e.list,HQ e.ops[i].e.ops] }) [4]=⟨(H [4]).u+1,.cells (UC e.ops[i])⟩at h4;generalize Ar H [4] { u:=(H [4]).u+1,ob:=.cells [iv e.ops[i].kind,iv e.ops[i].n,AV e.ops[i].l,iv e.ops[i].e.kind,iv e.ops[i].e.old.kind,C7 e.ops[i].e.old.words,AV e.ops[i].e.old.kids,iv e.ops[i].e.new.kind,C7 e.ops[i].e.new.words,AV e.ops[i].e.new.kids,QX e.ops[i].e.words,Ry e.ops[i].e.kids,iv e.ops[i].e.list,HQ e.ops[i].e.ops] }=H1 at hH4 h4 ⊢;generalize (H [4]).u+1=v at h4 ⊢;generalize hx:e.ops[i]=x at *;clear hH;rcases hop with ⟨k0,n1,n2,l0⟩|⟨k1,nz⟩|⟨k2,nz⟩|⟨k3,nz,l0⟩
  ·obtain⟨N,hN⟩:∃N:Nat,x.n=N:=⟨x.n.toNat,oF⟩;have hN2:x.n.toNat=N:=oF
   have hao:OY x=N:=by rw[OY,if_pos k0,hN2]
   rw[GY,if_pos k0,hN2]at hs hn;refine Aej k0 hN oF htk N 0 a acc H1 oF oF hH4 h4 (fun hle H2 q hL2 q4=>?_) (fun hle H2 h2=>?_) ha
   ·simp;refine qx l0 q4 (fun q2=>?_);rw[if_pos hle]at hs hn;simp[q4,k0,ei];refine ih (i+1) (a+N) _ H2 oF (by simp;omega) hL2 (fun r hr=>?_) (fun hr=>hn (by rw[hr];rfl)) hle;have:=hs (((t.kids.drop a).take N)++r.1,r.2) (by rw[hr];rfl);simpa using this
   ·simp;rw[if_neg hle]at hn;exact hf (hn rfl) H2 h2
  ·have hao:OY x=0:=by rw[OY,if_neg oF,if_pos k1]
   rw[GY,if_neg oF,if_pos k1]at hs hn;refine gg nz h4 (fun q=>?_);simp;refine Aaw k1 hxl hwt hxw a x.l.length 0 a H1 oF oF hH4 h4 (fun hle hal H2 q hL2 q4=>?_) (fun hbad H2 h2=>?_) ha
   ·rw[List.drop_zero]at hal;rw[if_pos ⟨hle,by rw[Yw];exact hal⟩]at hs hn;simp[q4,k1,ei];exact ih (i+1) (a+x.l.length) acc H2 oF oF hL2 hs hn hle
   ·simp;rw[if_neg (fun h=>hbad ⟨h.1,by rw[List.drop_zero,<-Yw];exact h.2⟩)]at hn;exact hf (hn rfl) H2 h2
  ·have hao:OY x=x.l.length:=by rw[OY,if_neg oF,if_neg oF,if_pos k2]
   rw[GY,if_neg oF,if_neg oF,if_pos k2]at hs hn;refine gg nz h4 (fun q=>?_);simp;refine zF k2 hxl x.l.length 0 acc H1 oF oF hH4 h4 (fun H2 q hL2 q4=>?_);simp[q4,k2,ei];refine ih (i+1) a _ H2 oF (by simp;omega) hL2 (fun r hr=>?_) (fun hr=>hn (by rw[hr];rfl)) ha;have:=hs (x.l++r.1,r.2) (by rw[hr];rfl);simpa using this
  ·have hao:OY x=1:=by rw[OY,if_neg oF,if_neg oF,if_neg oF]
   rw[GY,if_neg oF,if_neg oF,if_neg oF]at hs hn;refine gg nz h4 (fun q=>?_);simp;refine qx l0 h4 (fun q2=>?_);by_cases hla:a<t.kids.length;rotate_left
   ·have hla':t.kids.length<=a:=oF
    rw[List.getElem?_eq_none hla']at hn;simp[h4,k3,hH4.g1,hla',hH4.g2,Aa];exact hf (hn rfl) _ (by simp[Aa])
   have hla':¬t.kids.length<=a:=oF
   rw[List.getElem?_eq_getElem hla]at hs hn;dsimp only at hs hn;have ea:=Ap a;obtain⟨hsp,hwv⟩:=hkx k3 _ ((wfT_iff.1 hwt).ks _ (Bv hla));simp[h4,k3,hH4.g1,hla',hla];refine Ae hsp iS ?_;cases hu:aH x.e t.kids[a] with
   |none=>
    rw[hu]at hn;simp[Aa,hH4.g2];exact hf (hn rfl) _ (by simp[Aa])
   |some u=>
    rw[hu]at hs hn;have hH7:=hH4.put (d:=[7]) ⟨(H1 [7]).u+1,.cells (tL u)⟩ iS;have hS:=hH7.snoc u;simp[Aa,hH4.g3,hH4.g5];refine⟨oF,Dr ?_⟩;simp[ea,ei];refine ih (i+1) (a+1) (acc++[u]) _ oF (by simp;omega) hS (fun r hr=>?_) (fun hr=>hn (by rw[hr];rfl)) oF;have:=hs (u::r.1,r.2) (by rw[hr];rfl);simpa using this
noncomputable def x9(e:E)(t:T):A:=if t.kind=e.list then (match GY t.kids 0 (GR e.ops) with
 |some r=>.tup [tX (.mk t.kind [] r.1),bv (decide (r.2=t.kids.length))]
 |none=>.tup [tX T0,bv false])else .tup [tX T0,bv false]
theorem l9{e:E}(hwe:Qz e)(hok:∀x,x∈e.ops->Nr x/\x.l.length<=1048576)(hk:∀x,x∈e.ops->x.kind=3->af x.e)(hadd:Ls e.ops<=1048576){t:T}(hwt:Ay t) :
  G.Spec Tryz.prog 62 [eX e,tX t] (x9 e t):=by
 have he:=wfE_iff.1 hwe;refine Aj TL iS fun w0 I0=>?_;have bad:∀H:Hp,H [2]=⟨1,.cells z0⟩->Iz H (.tup [.agg z0,bv false]) (.tup [tX T0,bv false]):=fun H h=>
  AM ⟨Bb ⟨Ad rfl,Ai,Ai,trivial⟩,Ad rfl,trivial⟩
 by_cases h1:t.kind=e.list;rotate_left
 ·have:x9 e t=.tup [tX T0,bv false]:=if_neg h1;rw[this];rw[BG IK.eq_1];simp[h1];exact bad _ iS
 have hX:x9 e t=(match GY t.kids 0 (GR e.ops) with
  |some r=>.tup [tX (.mk t.kind [] r.1),bv (decide (r.2=t.kids.length))]
  |none=>.tup [tX T0,bv false]):=if_pos h1
 generalize x9 e t=X at hX ⊢;rw[BG IK.eq_1];simp[h1];refine Dn (Bi (d:=[3]) (u:=1) (cs:=[iv t.kind,.sl true [],.sl true []]) 2 [5] 3 (by simp[h1]) rfl iS) (Dr ?_);simp;refine AeW (e:=e) (k:=t.kind) hwt he.ol (fun x hx=>⟨(hok x hx).1,(hok x hx).2,?_⟩) hk (fun hnone H' h2=>?_) (fun q a acc H' hsome hle hL=>?_) e.ops.length 0 0 [] _ oF (by simpa using hadd) ?_ (fun r hr=>by simpa using hr) (fun hr=>by simpa using hr) oF
 ·exact(he.os x hx).l
 ·simp[h2];rw[hX,hnone];exact bad _ h2
 ·simp[hL.g1,hL.g2,hL.g3,Aa];rw[hX,hsome];exact AM ⟨Bb ⟨Ad rfl,Ai,AQ (f:=tA) (l:=acc) (by simp[Aa,hL.g5]) rfl (fun x=>iS),trivial⟩,BJ (by simp;omega),trivial⟩
 ·exact⟨iS,by simp[h1],iS,iS,iS⟩
theorem qW{list:Int}{x:OP}(h:Yf list x=true)(h3:x.kind=3->ZY list x=true):Nr x:=by
 unfold Yf at h;split at h
 ·rename_i h0;simp at h;exact .inl ⟨h0,h.1.1.1,h.1.1.2,h.1.2⟩
 ·split at h
  ·cases h
  ·rename_i h0 h1;by_cases k1:x.kind=1
   ·exact .inr (.inl ⟨k1,oF⟩)
   ·by_cases k2:x.kind=2
    ·exact .inr (.inr (.inl ⟨k2,oF⟩))
    ·have k3:x.kind=3:=oF
     have:=h3 k3;simp[ZY]at this;exact .inr (.inr (.inr ⟨k3,oF,this.1.1⟩))
def AaM(x:OP):Nat:=if x.kind=2 then 0 else (D4 x).toNat
def cj:List OP->Nat
 |[]=>0
 |x::xs=>AaM x+cj xs
theorem jZ{x:OP}(h:Nr x):0<=D4 x:=by
 unfold D4;rcases h with h|h|h|h<;>(split<;>omega)
theorem Zi{a b:Int}(h:a<=b)(ha:a<=1048576):a<=Pa b:=by unfold Pa;split<;>omega
theorem QV(b:Int):Pa b<=1048576:=by unfold Pa;split<;>omega
theorem vK{a b:Int}(h:Pa b<1048576):Pa b=b:=by unfold Pa at h ⊢; split<;>first|omega|rfl
theorem KR:∀(os:List OP)(n m:Int),(∀x,x∈os->Nr x)->n<=1048576->m<=1048576->n<=(BU n m os).1/\m<=(BU n m os).2
 |[],n,m,_,_,_=>⟨by simp[BU],by simp[BU]⟩
 |x::os,n,m,h,hn,hm=>by
  rw[BU];have hx:=jZ (h x iS);obtain⟨a,b⟩:=KR os (Pa (if x.kind≠2 then n+D4 x else n)) (Pa (if x.kind≠1 then m+D4 x else m)) (fun y hy=>h y (by simp[hy])) (QV _) (QV _);exact⟨Int.le_trans (Zi (by split<;>omega) hn) a,Int.le_trans (Zi (by split<;>omega) hm) b⟩
theorem Aad{x:OP}(h:Nr x):(OY x:Int)=if x.kind≠1 then D4 x else 0:=by
 unfold OY D4;rcases h with ⟨a,b,c,d⟩|⟨a,b⟩|⟨a,b⟩|⟨a,b,d⟩
 ·simp[a,d];omega
 ·simp[a]
 ·simp[a,b]
 ·simp[a]
theorem Wm:∀(os:List OP)(n m:Int),(∀x,x∈os->Nr x)->0<=n->0<=m->n<=1048576->m<=1048576->(BU n m os).1<1048576->(BU n m os).2<1048576->n+cj os<1048576/\m+Ls os<1048576
 |[],n,m,_,_,_,_,_,h1,h2=>by
  simp[BU]at h1 h2;exact⟨by simp[cj];omega,by simp[Ls];omega⟩
 |x::os,n,m,h,hn,hm,tn,tm,h1,h2=>by
  rw[BU]at h1 h2;have hok:=h x iS;have hx:=jZ hok;have hr:∀y,y∈os->Nr y:=fun y hy=>h y (by simp[hy]);obtain⟨a,b⟩:=KR os (Pa (if x.kind≠2 then n+D4 x else n)) (Pa (if x.kind≠1 then m+D4 x else m)) hr (QV _) (QV _);have e1:=vK (a:=0) (Int.lt_of_le_of_lt a h1);have e2:=vK (a:=0) (Int.lt_of_le_of_lt b h2);obtain⟨c,d⟩:=Wm os _ _ hr (by rw[e1];split<;>omega) (by rw[e2];split<;>omega) (QV _) (QV _) h1 h2;rw[e1]at c;rw[e2]at d;have q:=Aad hok;constructor
  ·simp only[cj,AaM];by_cases k2:x.kind=2
   ·simp[k2]at c ⊢; omega
   ·simp[k2]at c ⊢; omega
  ·simp only[Ls];by_cases k1:x.kind=1
   ·simp[k1]at d q;omega
   ·simp[k1]at d q;omega
theorem qo:∀{os:List OP} {x:OP},x∈os->AaM x<=cj os/\OY x<=Ls os
 |[],x,h=>nomatch h
 |y::os,x,h=>by
  simp only[cj,Ls];rcases List.mem_cons.1 h with rfl|h
  ·exact⟨oF,oF⟩
  ·have:=qo h;exact⟨oF,oF⟩
theorem ca{os:List OP}(h:∀x,x∈os->Nr x)(h1:(BU 0 0 os).1<1048576)(h2:(BU 0 0 os).2<1048576):Ls os<=1048576/\∀x,x∈os->Nr x/\x.l.length<=1048576:=by
 obtain⟨a,b⟩:=Wm os 0 0 h oF oF oF oF h1 h2;refine⟨oF,fun x hx=>⟨h x hx,?_⟩⟩;obtain⟨c,d⟩:=qo hx;rcases h x hx with ⟨k,_,_,e⟩|⟨k,e⟩|⟨k,e⟩|⟨k,_,e⟩
 ·rw[e];simp
 ·simp[AaM,D4,k]at c;omega
 ·simp[OY,k]at d;omega
 ·rw[e];simp
theorem Zz:∀{ws:List WE} {last:Int},-1<=last->KD last ws=true->∀x,x∈ws->0<=x.at_/\x.at_<=65534
 |[],_,_,_,x,hx=>nomatch hx
 |w::ws,last,hl,h,x,hx=>by
  simp[KD,gB]at h;obtain⟨⟨⟨⟨⟨h1,h2⟩,_⟩,_⟩,_⟩,h3⟩:=h;rcases List.mem_cons.1 hx with rfl|hx
  ·exact⟨oF,oF⟩
  ·exact Zz oF h3 x hx
theorem V6{d:Nat}:∀{ks:List KE} {last:Int},-1<=last->I3 d last ks=true->∀x,x∈ks->(0<=x.at_/\x.at_<=65534)/\DT d x.e=true
 |[],_,_,_,x,hx=>nomatch hx
 |w::ws,last,hl,h,x,hx=>by
  simp at h;obtain⟨⟨⟨⟨h1,h2⟩,_⟩,h4⟩,h3⟩:=h;rcases List.mem_cons.1 hx with rfl|hx
  ·exact⟨⟨oF,oF⟩,h4⟩
  ·exact V6 oF h3 x hx
theorem Ye{tk:List T}(ht:∀x,x∈tk->Ay x):∀(os:List OP)(a:Nat)(r:List T × Nat),(∀x,x∈os->Nr x/\(∀y,y∈x.l->Ay y)/\(x.kind=3->∀u v,Ay u->aH x.e u=some v->Ay v))->GY tk a (GR os)=some r->(∀x,x∈r.1->Ay x)/\r.1.length<=Ls os
 |[],a,r,_,h=>by
  rw[GR,GY]at h;cases h;exact⟨fun x hx=>(nomatch hx),iS⟩
 |x::os,a,r,ho,h=>by
  obtain⟨hok,hl,he⟩:=ho x iS;have ih:=fun a' r'=>Ye ht os a' r' (fun y hy=>ho y (by simp[hy]));rw[Pu,List.map_cons,<-Pu]at h;have key:∀(ys:List T)(a':Nat),(∀y,y∈ys->Ay y)->ys.length<=OY x->(GY tk a' (GR os)).map (fun r=>(ys++r.1,r.2))=some r->(∀x,x∈r.1->Ay x)/\r.1.length<=Ls (x::os):=fun ys a' hy hn h=>by
   cases h':GY tk a' (GR os) with
   |none=>rw[h']at h;cases h
   |some r'=>
    rw[h']at h;cases h;obtain⟨p,q⟩:=ih a' r' h';refine⟨fun z hz=>?_,by simp[Ls];omega⟩;rcases List.mem_append.1 hz with hz|hz
    ·exact hy z hz
    ·exact p z hz
  rcases hok with ⟨k,n1,n2,l0⟩|⟨k,n⟩|⟨k,n⟩|⟨k,n,l0⟩
  ·rw[GY,if_pos k]at h;split at h
   ·exact key _ _ (fun y hy=>ht y (Qy (O4 hy))) (by rw[OY,if_pos k];simp;omega) h
   ·cases h
  ·rw[GY,if_neg oF,if_pos k]at h;split at h
   ·obtain⟨p,q⟩:=ih _ _ h;exact⟨p,by simp only[Ls];omega⟩
   ·cases h
  ·rw[GY,if_neg oF,if_neg oF,if_pos k]at h;exact key _ _ hl (by rw[OY,if_neg oF,if_neg oF,if_pos k];omega) h
  ·rw[GY,if_neg oF,if_neg oF,if_neg oF]at h;cases hg:tk[a]? with
   |none=>rw[hg]at h;cases h
   |some u=>
    rw[hg]at h;dsimp only at h;cases hu:aH x.e u with
    |none=>rw[hu]at h;cases h
    |some v=>
     rw[hu]at h;exact key [v] _ (fun y hy=>by
      rw[List.mem_singleton.1 hy];exact he k u v (ht u (List.mem_of_getElem? hg)) hu) (by rw[OY,if_neg oF,if_neg oF,if_neg oF];simp) h
section
variable {n0:Nat} {w0:World} {I0:Nat->Prop}
theorem Ke{o:Option T}{u:T}{b:Bool}(hu:b=true->Ay u)(ho:o=if b then some (Ag u)else none){H:Hp}(h2:H [2]=⟨1,.cells z0⟩)(h3:H [3]=⟨1,.cells (tL u)⟩) :
  WPC (cx Tryz.prog w0 I0 n0) Ij (Rn Tryz.prog [.cell 4 25,.tmp 5] (aj o)) ⟨lk [(4,.pob [2] 1 0),(6,.pob [3] 1 0),(7,bv b)],H⟩:=by
 subst ho;rw[(Ao Ij.eq_1)];cases b with
 |false=>
  simp[h2,Aa];exact AM ⟨Bb ⟨Ad rfl,Ai,Ai,trivial⟩,Ad rfl,trivial⟩
 |true=>
  simp[h3,h2,Aa];refine Ae (CP u (hu rfl)) rfl ?_;simp[h3,h2,Aa];have e1:tX (Ag u)=.agg [iv u.kind,C7 (Ag u).words,AV (Ag u).kids]:=iS
  show Iz _ _ (.tup [tX (Ag u),bv true]);rw[e1];exact AM ⟨Bb ⟨Ad rfl,Ai,Ai,trivial⟩,Ad rfl,trivial⟩
end
theorem nV:∀(e:E),Qz e->∀d:Nat,DT d e=true->af e:=by
 refine E.ind fun k o n ws ks l os ihK ihO hwe d hd t hwt=>?_;have he:=wfE_iff.1 hwe;have heo:=he.o;have hen:=he.n;have heks:=he.ks;have heos:=he.os;simp only[E.old_mk,E.new_mk,E.kids_mk,E.ops_mk]at heo hen heks heos;rw[Vo]at hd;split at hd
 ·cases hd
 rename_i hhead;have hht:=wfT_iff.1 hwt;rw[XU];by_cases k0:k=0
 ·subst k0;have hst:LI 0 o n ws (EC ks) l (GR os) t=some (Ag t):=if_pos rfl;rw[hst];refine⟨?_,fun v hv=>by cases hv;exact BV t hwt⟩;refine Aj CI iS fun w0 I0=>?_;rw[BG Cm.eq_1];simp;exact Ke (u:=t) (b:=true) (fun _=>hwt) rfl iS iS
 by_cases k1:k=1
 ·subst k1;have hst:LI 1 o n ws (EC ks) l (GR os) t=if JE o t=true then some (Ag n)else none:=by
   rw[LI,if_neg dO,if_pos rfl]
  rw[hst];refine⟨?_,fun v hv=>by
   split at hv
   ·cases hv;exact BV n hen
   ·cases hv⟩
  refine Aj CI iS fun w0 I0=>?_;rw[BG Cm.eq_1];simp[Aa];refine Ae (It heo hwt (BV o heo)) iS ?_;simp[Aa];exact Ke (u:=n) (b:=JE o t) (fun _=>hen) rfl iS iS
 rw[if_neg k1]at hd;split at hd
 ·cases hd
 rename_i hw;split at hd
 ·cases hd
 rename_i hk;split at hd
 ·cases hd
 rename_i hl;split at hd
 ·cases hd
 rename_i ho;simp at hd hw hk ho;have hp:=Zz oF hw;have hp2:=V6 oF hk;have hro:=rightOs_all.1 ho;have hRK:∀x,x∈ks->af x.e:=fun x hx=>ihK x hx (heks x hx).2 (d-1) (hp2 x hx).2;have hop:∀x,x∈os->Nr x:=fun x hx=>by
  have:=hro x hx;rw[NX]at this;simp at this;exact qW this.1 (fun h3=>by
   rcases this.2 with h|h
   ·exact absurd h3 h
   ·exact h.1.1)
 have hRO:∀x,x∈os->x.kind=3->af x.e:=fun x hx h3=>by
  have:=hro x hx;rw[NX,if_pos h3]at this;simp at this;exact ihO x hx (heos x hx).e (d-1) this.2.1.2
 obtain⟨hadd,hox⟩:=ca hop hd.1 hd.2;by_cases k2:k=2
 ·subst k2;have hst:LI 2 o n ws (EC ks) l (GR os) t=(Vp (.mk 2 o n ws ks l os) t).map Ag:=by
   rw[LI,if_neg dO,if_neg dO,if_pos rfl,Vp,TF];simp only[E.words_mk,E.kids_mk];split
   ·split<;>rfl
   ·rfl
  have hs:=q9 hwe hRK hwt hp (fun x hx=>(hp2 x hx).1);have hsw:=Aah (e:=.mk 2 o n ws ks l os) hRK hwt hp (fun x hx=>(hp2 x hx).1);rw[hst];generalize Vp (.mk 2 o n ws ks l os) t=s at hs hsw ⊢;refine⟨?_,fun v hv=>by
   cases s with
   |none=>cases hv
   |some s=>cases hv;exact BV s (hsw s rfl)⟩
  refine Aj CI iS fun w0 I0=>?_;rw[BG Cm.eq_1];simp[Aa];refine Ae hs iS ?_;cases s with
  |none=>
   simp[Aa];exact Ke (u:=T0) (b:=false) (fun h=>nomatch h) rfl iS iS
  |some s=>
   simp[Aa];exact Ke (u:=s) (b:=true) (fun h=>hsw s rfl) rfl iS iS
 by_cases k3:k=3
 ·subst k3;have hs:=l9 hwe (fun x hx=>hox x hx) hRO hadd hwt;have hst:LI 3 o n ws (EC ks) l (GR os) t=if t.kind=l then (match GY t.kids 0 (GR os) with
   |some (l,a)=>if a=t.kids.length then some (Ag (.mk t.kind [] l))else none
   |none=>none)else none:=by
   rw[LI,if_neg dO,if_neg dO,if_neg dO,if_pos rfl];first|done|rfl
  have hof:=fun r=>Ye hht.ks os 0 r (fun x hx=>⟨hop x hx,(heos x hx).l,fun h3 u v hu hv=>(hRO x hx h3 u hu).2 v hv⟩);have hout:∀r,GY t.kids 0 (GR os)=some r->Ay (.mk t.kind [] r.1):=fun r hr=>by
   obtain⟨p,q⟩:=hof r hr;exact wfT_iff.2 ⟨hht.k,iS,iS,by simp;omega,p⟩
  rw[hst];have hX:x9 (.mk 3 o n ws ks l os) t=if t.kind=l then (match GY t.kids 0 (GR os) with
   |some r=>.tup [tX (.mk t.kind [] r.1),bv (decide (r.2=t.kids.length))]
   |none=>.tup [tX T0,bv false])else .tup [tX T0,bv false]:=rfl
  rw[hX]at hs;by_cases hkl:t.kind=l;rotate_left
  ·rw[if_neg hkl]at hs ⊢;refine⟨?_,fun v hv=>nomatch hv⟩;refine Aj CI iS fun w0 I0=>?_;rw[BG Cm.eq_1];simp[Aa];refine Ae hs iS ?_;simp[Aa];exact Ke (u:=T0) (b:=false) (fun h=>nomatch h) rfl iS iS
  rw[if_pos hkl]at hs ⊢;cases hr:GY t.kids 0 (GR os) with
  |none=>
   rw[hr]at hs;refine⟨?_,fun v hv=>nomatch hv⟩;refine Aj CI iS fun w0 I0=>?_;rw[BG Cm.eq_1];simp[Aa];refine Ae hs iS ?_;simp[Aa];exact Ke (u:=T0) (b:=false) (fun h=>nomatch h) rfl iS iS
  |some r=>
   rw[hr]at hs;have hu:=hout r hr;generalize hU:T.mk t.kind [] r.1=U at hs hu;obtain⟨r1,r2⟩:=r;dsimp only at hs hU ⊢;rw[hU];refine⟨?_,fun v hv=>by
    split at hv
    ·cases hv;exact BV U hu
    ·cases hv⟩
   refine Aj CI iS fun w0 I0=>?_;rw[BG Cm.eq_1];simp[Aa];refine Ae hs iS ?_;simp[Aa];exact Ke (u:=U) (b:=decide (r2=t.kids.length)) (fun _=>hu) iS iS (by simp[<-hU])
 have hst:LI k o n ws (EC ks) l (GR os) t=none:=by
  rw[LI,if_neg k0,if_neg k1,if_neg k2,if_neg k3]
 rw[hst];refine⟨?_,fun v hv=>nomatch hv⟩;refine Aj CI iS fun w0 I0=>?_;rw[BG Cm.eq_1];simp[Aa,k0,k1,k2,k3];exact Ke (u:=t) (b:=false) (fun h=>nomatch h) rfl iS iS
end Go.Proofs.YtlaapfplenlfaaaGreat
namespace Go.G
open Go.RowKit
abbrev S(l:List UInt8):A:=.v (.string ⟨l.toArray⟩)
@[simp]theorem Aiw(l:List UInt8):(ByteArray.mk l.toArray).size=l.length:=by simp[ByteArray.size]
@[simp]theorem Alz(l:List UInt8)(i:Nat):(ByteArray.mk l.toArray)[i]? = l[i]?:=by
 by_cases h:i<l.length
 ·have h':i<(ByteArray.mk l.toArray).size:=by simpa using h
  rw[getElem?_pos (ByteArray.mk l.toArray) i h',List.getElem?_eq_getElem h];rfl
 ·have h':¬i<(ByteArray.mk l.toArray).size:=by simpa using h
  rw[getElem?_neg (ByteArray.mk l.toArray) i h',List.getElem?_eq_none oF]
end Go.G
namespace Go.Proofs.YtlaapfplenlfaaaGreat
set_option maxRecDepth 20000
open Go Go.G Go.Proofs
def W5:CC:=Bh (cG Tryz.f74 1 [[0],[0,2]])
theorem iK:Bs Tryz.prog 74 9 [(.tmp 2)] W5:=Aq Tryz.func74
def Cj:CC:=Bh (cG Tryz.f89 75 [[0,1,12,13,14],[995],[999,14],[5],[5,24],[0,1,4,12,13,24],[995],[999,0,1,4,12,13],[]])
def Gd:CC:=CV (cG Tryz.f89 1 [[0,1],[10],[0,1,4,10],[995],[999,0,1,4],[12,13],[996],[999,0,1,12,13],[4]]) Cj
theorem Kj:Bs Tryz.prog 89 26 [(.tmp 4)] Gd:=Aq Tryz.func89
def JL:CC:=Bh (cG Tryz.f57 151 [[2,3,48,49,50],[995],[999,50],[5],[5,58],[2,3,4,48,49,58],[995],[999,2,3,4,48,49],[]])
def JV:CC:=Bh (cG Tryz.f57 303 [[2,3,66,67,68],[995],[999,68],[6],[6,77],[2,3,4,66,67,77],[995],[999,2,3,4,66,67],[]])
def M7:CC:=gR (cG Tryz.f57 15 [[2,3,48,49],[996],[999,48,49],[66,67],[996],[999,2,3,66,67],[4]]) JL JV
def Oj:CC:=CV (cG Tryz.f57 1 [[2,3,1000,2001],[16],[2,3,4,16],[995],[999,2,3,4],[41],[2,3,4,41],[995],[997,2,3,4],[994]]) M7
theorem UH:Bs Tryz.prog 57 79 [(.tmp 4)] Oj:=Aq Tryz.func57
@[simp]theorem AkR:Eg Tryz.prog 157=some 1:=by kernel_rfl
@[simp]theorem Alo:Eg Tryz.prog 224=some 2:=by kernel_rfl
@[simp]theorem AlM:Eg Tryz.prog 235=some 2:=by kernel_rfl
@[simp]theorem AlA:Eg Tryz.prog 244=some 1:=by kernel_rfl
@[simp]theorem Ak4:Eg Tryz.prog 247=some 3:=by kernel_rfl
@[simp]theorem AjO:EE Tryz.prog 157=some false:=by kernel_rfl
@[simp]theorem Ajb:EE Tryz.prog 224=some true:=by kernel_rfl
@[simp]theorem Aiq:EE Tryz.prog 235=some true:=by kernel_rfl
@[simp]theorem AhG:EE Tryz.prog 244=some false:=by kernel_rfl
@[simp]theorem Ahs:EE Tryz.prog 247=some true:=by kernel_rfl
@[simp]theorem AfK:BW Tryz.prog 157=some (Value.slice none 0 0):=by kernel_rfl
@[simp]theorem Agw:BW Tryz.prog 224=some (Value.agg #[Value.int i64 0,Value.int i64 0]):=by kernel_rfl
@[simp]theorem Afp:BW Tryz.prog 235=some (Value.agg #[Value.int i64 0,Value.int i64 0]):=by kernel_rfl
@[simp]theorem Ags:BW Tryz.prog 247=some (Value.agg #[Value.int i64 0,Value.int i64 0,Value.int i64 0]):=by kernel_rfl
@[simp]theorem Aez:Ce Tryz.prog 157=some 24:=by kernel_rfl
@[simp]theorem Adp:Ce Tryz.prog 224=some 16:=by kernel_rfl
@[simp]theorem Ac5:Ce Tryz.prog 235=some 16:=by kernel_rfl
@[simp]theorem Aed:Ce Tryz.prog 247=some 24:=by kernel_rfl
@[simp]theorem uD:Am Tryz.prog 224 0=some 0:=by kernel_rfl
@[simp]theorem tv:Am Tryz.prog 224 1=some 1:=by kernel_rfl
@[simp]theorem tE:Am Tryz.prog 235 0=some 0:=by kernel_rfl
@[simp]theorem tz:Am Tryz.prog 235 1=some 1:=by kernel_rfl
@[simp]theorem tU:Am Tryz.prog 247 0=some 0:=by kernel_rfl
@[simp]theorem tK:Am Tryz.prog 247 1=some 2:=by kernel_rfl
@[simp]theorem Adl(ps:List (Nat × A)):CY Tryz.prog 224 ps=(DI (fun i=>([(0,1),(1,1)]:List (Nat × Nat))[i]?) [iv 0,iv 0] ps).map A.agg:=by kernel_rfl
@[simp]theorem AdX(ps:List (Nat × A)):CY Tryz.prog 235 ps=(DI (fun i=>([(0,1),(1,1)]:List (Nat × Nat))[i]?) [iv 0,iv 0] ps).map A.agg:=by kernel_rfl
@[simp]theorem AdF(ps:List (Nat × A)):CY Tryz.prog 247 ps=(DI (fun i=>([(0,2),(2,1)]:List (Nat × Nat))[i]?) [iv 0,iv 0,iv 0] ps).map A.agg:=by kernel_rfl
def OJ:CC:=Bh (cG Tryz.f207 1 [[0],[0,2]])
theorem Xd:Bs Tryz.prog 207 6 [(.tmp 2)] OJ:=Aq Tryz.func207
def Mh:CC:=Bh (cG Tryz.f200 1 [[0,1],[5],[6],[5,11],[0,1,6,11,12],[4,12],[995],[999,4],[4],[995],[999,0,1,4,6],[6,13],[0,1,4,13],[995],[999,0,1,4],[16],[0,1,4,16],[995],[999,0,1,4],[0,1,19],[4,19],[995],[999,4],[4]])
theorem UF:Bs Tryz.prog 200 20 [(.tmp 4)] Mh:=Aq Tryz.func200
def H5:CC:=Bh (cG Tryz.f245 75 [[3,6,7,8,9],[995],[999,9],[5],[14],[2,3,5,6,7,8,14],[995],[999,2,3,6,7,8],[]])
def Uz:CC:=CV (cG Tryz.f245 1 [[0],[3],[0,6,7,8],[996],[999,6,7,8],[2,3]]) H5
theorem gn:Bs Tryz.prog 245 18 [(.tmp 2)] Uz:=Aq Tryz.func245
def Kr:CC:=Bh (cG Tryz.f244 1 [[2,3,1000,2001],[2,3,4]])
theorem Rj:Bs Tryz.prog 244 27 [(.tmp 4)] Kr:=Aq Tryz.func244
def OG:CC:=Bh (cG Tryz.f242 1 [[8001]])
theorem Xm:Bs Tryz.prog 242 13 [] OG:=Aq Tryz.func242
def Qn:CC:=Bh (cG Tryz.f241 1 [[0],[3],[4,7001],[0,3],[2,4]])
theorem Zr:Bs Tryz.prog 241 23 [(.tmp 2)] Qn:=Aq Tryz.func241
def PH:CC:=Bh (cG Tryz.f194 1 [[0],[0,2]])
theorem Zb:Bs Tryz.prog 194 5 [(.tmp 2)] PH:=Aq Tryz.func194
def OQ:CC:=Bh (cG Tryz.f240 1 [[0,1,2],[0,1,2,6]])
theorem Xi:Bs Tryz.prog 240 16 [(.tmp 6)] OQ:=Aq Tryz.func240
def OE:CC:=Bh (cG Tryz.f243 1 [[]])
theorem Xl:Bs Tryz.prog 243 20 [] OE:=Aq Tryz.func243
def G6:CC:=Bh (cG Tryz.f202 4 [[0,1,4],[17],[995],[999,17],[1],[1,4]])
def Kl:CC:=CV (cG Tryz.f202 1 [[996]]) G6
theorem Rv:Bs Tryz.prog 202 23 [] Kl:=Aq Tryz.func202
def DR:CC:=Bh (cG Tryz.f203 1987 [[0,1,2,7,9,39],[995],[999,39],[7],[7,9]])
def DM:CC:=CV (cG Tryz.f203 35 [[0,1,2,7,8],[21],[995],[999,21],[9],[10],[8,33],[10,33],[999],[994]]) DR
def Jh:CC:=CV (cG Tryz.f203 1 [[0,1,2],[7],[996],[999,0,2],[1,6,7]]) DM
theorem O6:Bs Tryz.prog 203 48 [(.tmp 6)] Jh:=Aq Tryz.func203
def Jo:CC:=Bh (cG Tryz.f193 1 [[0],[0]])
theorem OZ:Bs Tryz.prog 193 12 [] Jo:=Aq Tryz.func193
def J6:CC:=Bh (cG Tryz.f195 1 [[0],[3],[],[3],[0,2]])
theorem PX:Bs Tryz.prog 195 15 [(.tmp 2)] J6:=Aq Tryz.func195
def Ku:CC:=Bh (cG Tryz.f197 1 [[2,3,1000,2001],[2,3,4]])
theorem Rq:Bs Tryz.prog 197 32 [(.tmp 4)] Ku:=Aq Tryz.func197
def Bq:CC:=Bh (cG Tryz.f204 37 [[0,1,7,8,9],[995],[999,9],[5],[16],[0,1,4,5,7,8,16],[995],[999,0,1,4,7,8],[]])
def Dj:CC:=CV (cG Tryz.f204 1 [[0,1],[7,8],[996],[999,0,1,7,8],[4]]) Bq
theorem Hl:Bs Tryz.prog 204 19 [(.tmp 4)] Dj:=Aq Tryz.func204
def CT:CC:=Bh (cG Tryz.f196 1 [[0,1],[0,1,4]])
theorem F9:Bs Tryz.prog 196 9 [(.tmp 4)] CT:=Aq Tryz.func196
def RB:CC:=Bh (cG Tryz.f199 1 [[2,3,1000,2001],[2,3,4]])
theorem au:Bs Tryz.prog 199 10 [(.tmp 4)] RB:=Aq Tryz.func199
def I6:CC:=Bh (cG Tryz.f185 19659 [[3,4,12,13,14,19,20,21,22],[995],[999,22],[6,7],[35],[6,7,35],[999],[]])
def Kx:CC:=CV (cG Tryz.f185 75 [[3,12,13,14,15],[995],[999,15],[4,5],[5,19,20,21],[996],[999,4,19,20,21],[]]) I6
def I9:CC:=Bh (cG Tryz.f185 143 [[3,8,51],[995],[999,51],[9,5001],[61],[9,61,5002]])
def WK:CC:=gR (cG Tryz.f185 1 [[0],[3,2000],[0,12,13,14],[996],[999,12,13,14],[8],[996],[999,3],[],[2,8]]) Kx I9
theorem iX:Bs Tryz.prog 185 70 [(.tmp 2)] WK:=Aq Tryz.func185
def JP:CC:=Bh (cG Tryz.f184 151 [[2,3,5,29,30,31],[995],[999,31],[6],[6,43],[43],[999],[]])
def JI:CC:=Bh (cG Tryz.f184 303 [[2,3,5,53,54,55],[995],[999,55],[7],[7,67],[67],[999],[]])
def TB:CC:=gR (cG Tryz.f184 1 [[2,3,1000,2001],[22],[2,3,4,22],[995],[999,2,3,4],[5],[29,30],[996],[999,29,30],[53,54],[996],[999,2,3,53,54],[4,5]]) JP JI
theorem dH:Bs Tryz.prog 184 72 [(.tmp 4)] TB:=Aq Tryz.func184
def FH:CC:=Bh (cG Tryz.f201 37 [[0,1,2,7,11],[995],[999,11],[49],[0,1,2,6,7,49],[995],[999,0,1,2,6,7],[]])
def Mq:CC:=CV (cG Tryz.f201 1 [[0,1,2],[7],[996],[999,0,1,2,7],[6]]) FH
theorem UO:Bs Tryz.prog 201 50 [(.tmp 6)] Mq:=Aq Tryz.func201
def DX:CC:=Bh (cG Tryz.f190 4683 [[0,1,4,6,7,8,9,31],[995],[999,31],[48],[7,48],[7],[999],[]])
def FV:CC:=CV (cG Tryz.f190 75 [[0,1,4,6,7,8,18],[995],[999,18],[9],[996],[999,9],[]]) DX
def MI:CC:=CV (cG Tryz.f190 1 [[0,1,4,1000],[6,7,2001],[8],[996],[999,0,1,8],[5,6,7]]) FV
theorem Ut:Bs Tryz.prog 190 61 [(.cell 4 224),(.tmp 5)] MI:=Aq Tryz.func190
def FN:CC:=Bh (cG Tryz.f174 73291 [[0,3,4,5,7,8,35],[995],[999,35],[]])
def F0:CC:=CV (cG Tryz.f174 75 [[0,3,4,10],[995],[999,10],[5,6,7000],[6,20],[0,2,3,4,5,20],[995],[999,0,2,3,4,5],[7],[8],[996],[999],[5001],[5,4002],[7,8,5003],[999],[]]) FN
def MF:CC:=CV (cG Tryz.f174 1 [[0],[3],[4],[996],[999,0,4],[2,3]]) F0
theorem Tu:Bs Tryz.prog 174 53 [(.tmp 2)] MF:=Aq Tryz.func174
def EP:CC:=Bh (cG Tryz.f173 151 [[2,3,5,6,34],[995],[999,34],[47],[47],[999],[]])
def EM:CC:=Bh (cG Tryz.f173 303 [[2,3,5,7,61],[995],[999,61],[74],[74],[999],[]])
def K9:CC:=gR (cG Tryz.f173 1 [[2,3,1000,2001],[22],[2,3,4,22],[995],[999,2,3,4],[5],[6],[996],[999,6],[7],[996],[999,2,3,7],[4,5]]) EP EM
theorem R9:Bs Tryz.prog 173 78 [(.tmp 4)] K9:=Aq Tryz.func173
end Go.Proofs.YtlaapfplenlfaaaGreat
namespace Go.PL
structure Sc where
 i:Nat
 j:Nat
 n:Int
 deriving DecidableEq
def sc0:Sc:=⟨0,0,0⟩
def BB(a b:Sc):Bool:=decide (b.n<a.n)|| (decide (a.n=b.n)&&(decide (a.i<b.i)|| (decide (a.i=b.i)&&decide (a.j<b.j))))
def aY(l:List Sc)(i j:Nat):List Sc:=(l.set i (l.getD j sc0)).set j (l.getD i sc0)
@[simp]theorem dJ{l:List Sc}{i j:Nat}:(aY l i j).length=l.length:=by simp[aY]
def te:Nat->List Sc->Nat->List Sc
 |0,l,_=>l
 |f+1,l,j=>if (j-1) / 2=j\/BB (l.getD j sc0) (l.getD ((j-1) / 2) sc0)=false then l else te f (aY l ((j-1) / 2) j) ((j-1) / 2)
def NG(l:List Sc)(i n:Nat):Nat:=if 2*i+2<n/\BB (l.getD (2*i+2) sc0) (l.getD (2*i+1) sc0)=true then 2*i+2 else 2*i+1
def Jl:Nat->List Sc->Nat->Nat->List Sc × Nat
 |0,l,i,_=>(l,i)
 |f+1,l,i,n=>if n<=2*i+1 then (l,i)else if BB (l.getD (NG l i n) sc0) (l.getD i sc0)=true then Jl f (aY l i (NG l i n)) (NG l i n) n else (l,i)
theorem eR:∀(f:Nat)(l:List Sc)(j:Nat),(te f l j).length=l.length
 |0,l,j=>rfl
 |f+1,l,j=>by
  unfold te;split
  ·rfl
  ·rw[eR f];simp
theorem bB:∀(f:Nat)(l:List Sc)(i n:Nat),(Jl f l i n).1.length=l.length
 |0,l,i,n=>rfl
 |f+1,l,i,n=>by
  unfold Jl;split
  ·rfl
  ·split
   ·rw[bB f];simp
   ·rfl
end Go.PL
namespace Go.PL
open List
theorem bX{a b:Sc}:BB a b=true↔b.n<a.n\/(a.n=b.n/\(a.i<b.i\/(a.i=b.i/\a.j<b.j))):=by
 unfold BB;simp
theorem QS{a b:Sc}:BB a b=false↔a.n<b.n\/(a.n=b.n/\(b.i<a.i\/(a.i=b.i/\b.j<=a.j))):=by
 rw[Bool.eq_false_iff,ne_eq,bX];omega
theorem NA(a:Sc):BB a a=false:=by rw[QS];omega
theorem N5{a b:Sc}(h:BB a b=true):BB b a=false:=by
 rw[bX]at h;rw[QS];omega
theorem Tv{a b c:Sc}(h1:BB b a=false)(h2:BB c b=false):BB c a=false:=by
 rw[QS]at h1 h2 ⊢; omega
theorem sG{a b:Sc}(h1:BB a b=false)(h2:BB b a=false):a=b:=by
 rw[QS]at h1 h2;obtain⟨i,j,n⟩:=a;obtain⟨i',j',n'⟩:=b;simp at h1 h2 ⊢;omega
abbrev gt(l:List Sc)(k:Nat):Sc:=l.getD k sc0
theorem Hq{l:List Sc}{i j:Nat}(hi:i<l.length)(hj:j<l.length)(k:Nat):gt (aY l i j) k=if k=j then gt l i else if k=i then gt l j else gt l k:=by
 unfold gt aY;simp only[List.getD_eq_getElem?_getD,List.getElem?_set,List.length_set];by_cases h1:k=j
 ·subst h1;simp[hj]
 ·rw[if_neg (fun e=>h1 e.symm)];by_cases h2:k=i
  ·subst h2;simp[h1,hi]
  ·rw[if_neg (fun e=>h2 e.symm)];simp[h1,h2]
theorem Zt{l:List Sc}{i j:Nat}(hi:i<l.length)(hj:j<l.length):aY l i j ~ l:=by
 unfold aY;rw[List.getD_eq_getElem?_getD,List.getD_eq_getElem?_getD,List.getElem?_eq_getElem hi,List.getElem?_eq_getElem hj];exact List.set_set_perm hi hj
def OH(l:List Sc)(n:Nat):Prop:=∀k,0<k->k<n->BB (gt l k) (gt l ((k-1) / 2))=false
theorem yZ{l:List Sc}{n:Nat}(h:OH l n):∀k,k<n->BB (gt l k) (gt l 0)=false:=by
 intro k;induction k using Nat.strongRecOn with
 |_ k ih=>
  intro hk;by_cases h0:k=0
  ·subst h0;exact NA _
  ·exact Tv (ih ((k-1) / 2) oF oF) (h k oF hk)
def Aia(l:List Sc)(n j:Nat):Prop:=(∀k,0<k->k<n->k≠j->BB (gt l k) (gt l ((k-1) / 2))=false)/\(∀k,0<k->k<n->(k-1) / 2=j->0<j->BB (gt l k) (gt l ((j-1) / 2))=false)
theorem Ab5:∀(f:Nat)(l:List Sc)(j:Nat),j<f->j<l.length->Aia l l.length j->OH (te f l j) l.length/\te f l j ~ l
 |0,l,j,hf,_,_=>oF
 |f+1,l,j,hf,hj,⟨h1,h2⟩=>by
  unfold te;split
  ·rename_i hc;refine⟨fun k hk hk2=>?_,Perm.refl _⟩;by_cases e:k=j
   ·subst e;rcases hc with hc|hc
    ·omega
    ·exact hc
   ·exact h1 k hk hk2 e
  ·rename_i hc;have hij:¬(j-1) / 2=j:=fun e=>hc (.inl e);have hA:BB (gt l j) (gt l ((j-1) / 2))=true:=by
    cases hq:BB (gt l j) (gt l ((j-1) / 2)) with
    |true=>rfl
    |false=>exact(hc (.inr hq)).elim
   obtain⟨i,hi⟩:∃i,i=(j-1) / 2:=⟨_,rfl⟩;rw[<-hi]at hij hA h2 ⊢;have hil:i<l.length:=oF
   have hlt:i<j:=oF
   have ih:=Ab5 f (aY l i j) i oF (by simp;omega) ⟨fun k hk hk2 hne=>?_,fun k hk hk2 hp h0=>?_⟩
   ·simp only[dJ]at ih;exact⟨ih.1,ih.2.trans (Zt hil hj)⟩
   ·simp only[dJ]at hk2;rw[Hq hil hj,Hq hil hj];by_cases e1:k=j
    ·subst e1;rw[if_pos rfl,<-hi,if_neg oF,if_pos rfl];exact N5 hA
    ·rw[if_neg e1,if_neg hne];by_cases e2:(k-1) / 2=j
     ·rw[if_pos e2];exact h2 k hk hk2 e2 oF
     ·rw[if_neg e2];by_cases e3:(k-1) / 2=i
      ·rw[if_pos e3];have:=h1 k hk hk2 e1;rw[e3]at this;exact Tv (N5 hA) this
      ·rw[if_neg e3];exact h1 k hk hk2 e1
   ·simp only[dJ]at hk2;rw[Hq hil hj,Hq hil hj];have hpi:=h1 i h0 hil oF;rw[if_neg (by omega:¬(i-1) / 2=j),if_neg (by omega:¬(i-1) / 2=i)];by_cases e1:k=j
    ·rw[if_pos e1];exact hpi
    ·rw[if_neg e1,if_neg (by omega:¬k=i)];have:=h1 k hk hk2 e1;rw[hp]at this;exact Tv hpi this
theorem pX{l:List Sc}(h:OH l l.length)(x:Sc):OH (te (l.length+1) (l++[x]) l.length) (l.length+1)/\te (l.length+1) (l++[x]) l.length ~ x::l:=by
 have hg:∀k,k<l.length->gt (l++[x]) k=gt l k:=fun k hk=>by
  unfold gt;rw[List.getD_eq_getElem?_getD,List.getD_eq_getElem?_getD,List.getElem?_append_left hk]
 have:=Ab5 (l.length+1) (l++[x]) l.length oF iS ⟨fun k hk hk2 hne=>?_,fun k hk hk2 hp h0=>?_⟩
 ·simp only[List.length_append,List.length_singleton]at this;exact⟨this.1,this.2.trans (List.perm_append_singleton x l)⟩
 ·simp at hk2;rw[hg k oF,hg _ oF];exact h k hk oF
 ·simp at hk2;omega
def Aan(l:List Sc)(n i:Nat):Prop:=(∀k,0<k->k<n->(k-1) / 2≠i->BB (gt l k) (gt l ((k-1) / 2))=false)/\(∀k,0<k->k<n->(k-1) / 2=i->0<i->BB (gt l k) (gt l ((i-1) / 2))=false)
theorem re{l:List Sc}{i n:Nat}(h:2*i+1<n):NG l i n<n/\(NG l i n-1) / 2=i/\i<NG l i n/\∀k,0<k->k<n->(k-1) / 2=i->BB (gt l k) (gt l (NG l i n))=false:=by
 unfold NG;split
 ·rename_i hc;refine⟨hc.1,oF,oF,fun k hk hk2 hp=>?_⟩;have:k=2*i+1\/k=2*i+2:=oF
  rcases this with rfl|rfl
  ·exact N5 hc.2
  ·exact NA _
 ·rename_i hc;refine⟨h,oF,oF,fun k hk hk2 hp=>?_⟩;have:k=2*i+1\/k=2*i+2:=oF
  rcases this with rfl|rfl
  ·exact NA _
  ·cases hq:BB (gt l (2*i+2)) (gt l (2*i+1)) with
   |false=>rfl
   |true=>exact(hc ⟨hk2,hq⟩).elim
theorem qq:∀(f:Nat)(l:List Sc)(i n:Nat),n<=l.length->i<l.length->n<i+f->Aan l n i->OH (Jl f l i n).1 n/\(Jl f l i n).1 ~ l/\∀k,n<=k->gt (Jl f l i n).1 k=if k=i then gt (Jl f l i n).1 i else gt l k
 |0,l,i,n,hn,hil,hf,⟨h1,h2⟩=>by
  refine⟨fun k hk hk2=>h1 k hk hk2 oF,Perm.refl _,fun k hk=>?_⟩;show gt l k=if k=i then gt l i else gt l k
  split
  ·rename_i e;rw[e]
  ·rfl
 |f+1,l,i,n,hn,hil,hf,⟨h1,h2⟩=>by
  have same:∀k:Nat,gt l k=if k=i then gt l i else gt l k:=fun k=>by
   split
   ·rename_i e;rw[e]
   ·rfl
  unfold Jl;split
  ·refine⟨fun k hk hk2=>h1 k hk hk2 oF,Perm.refl _,fun k _=>same k⟩
  ·rename_i hlt;obtain⟨c1,c2,c3,c4⟩:=re (l:=l) (i:=i) (n:=n) oF;split
   ·rename_i hA;generalize NG l i n=c at *;have hcl:c<l.length:=oF
    have ih:=qq f (aY l i c) c n (by simp;omega) (by simp;omega) oF ⟨fun k hk hk2 hne=>?_,fun k hk hk2 hp h0=>?_⟩
    ·refine⟨ih.1,ih.2.1.trans (Zt hil hcl),fun k hk=>?_⟩;rw[ih.2.2 k hk,if_neg (by omega:¬k=c),Hq hil hcl,if_neg (by omega:¬k=c)];by_cases e:k=i
     ·subst e;omega
     ·rw[if_neg e,if_neg e]
    ·rw[Hq hil hcl,Hq hil hcl];by_cases e1:k=c
     ·subst e1;rw[if_pos rfl,c2,if_neg oF,if_pos rfl];exact N5 hA
     ·rw[if_neg e1];by_cases e2:k=i
      ·subst e2;rw[if_pos rfl,if_neg hne,if_neg (by omega:¬(k-1) / 2=k)];exact h2 c oF c1 c2 hk
      ·rw[if_neg e2,if_neg hne];by_cases e3:(k-1) / 2=i
       ·rw[if_pos e3];exact c4 k hk hk2 e3
       ·rw[if_neg e3];exact h1 k hk hk2 e3
    ·rw[Hq hil hcl,Hq hil hcl,c2,if_neg (by omega:¬i=c),if_pos rfl,if_neg (by omega:¬k=c),if_neg (by omega:¬k=i)];have:=h1 k hk hk2 oF
     rwa [hp]at this
   ·rename_i hA;have hA':BB (gt l (NG l i n)) (gt l i)=false:=by
     cases hq:BB (gt l (NG l i n)) (gt l i) with
     |false=>rfl
     |true=>exact(hA hq).elim
    refine⟨fun k hk hk2=>?_,Perm.refl _,fun k _=>same k⟩;by_cases e:(k-1) / 2=i
    ·rw[e];exact Tv hA' (c4 k hk hk2 e)
    ·exact h1 k hk hk2 e
def LU(l:List Sc):List Sc:=(Jl (l.length-1+1) (aY l 0 (l.length-1)) 0 (l.length-1)).1
theorem XV(l:List Sc):(LU l).length=l.length:=by unfold LU;rw[bB];simp
theorem Acx{l:List Sc}{i:Nat}(h:i<l.length):gt l i=l[i]:=by unfold gt;rw[List.getD_eq_getElem?_getD,List.getElem?_eq_getElem h];rfl
theorem pE{l:List Sc}{n k:Nat}(h:k<n):gt (l.take n) k=gt l k:=by
 unfold gt;rw[List.getD_eq_getElem?_getD,List.getD_eq_getElem?_getD,List.getElem?_take,if_pos h]
theorem Adr{l:List Sc}(h0:0<l.length)(h:OH l l.length):gt (LU l) (l.length-1)=gt l 0/\OH ((LU l).take (l.length-1)) (l.length-1)/\(gt l 0::(LU l).take (l.length-1)) ~ l:=by
 have hlen:=XV l;obtain⟨n,hn⟩:∃n,n=l.length-1:=⟨_,rfl⟩;unfold LU at hlen ⊢;rw[<-hn]at hlen ⊢;have hnl:n<l.length:=oF
 have hd:=qq (n+1) (aY l 0 n) 0 n (by simp;omega) (by simp;omega) oF ⟨fun k hk hk2 hne=>?_,fun k _ _ _ h0=>oF⟩
 ·generalize hl2:(Jl (n+1) (aY l 0 n) 0 n).1=l2 at hd hlen;have hg:gt l2 n=gt l 0:=by
   by_cases e:n=0
   ·subst e;have:l2=aY l 0 0:=by rw[<-hl2,Jl,if_pos oF]
    rw[this,Hq h0 h0,if_pos rfl]
   ·rw[hd.2.2 n (Cq _),if_neg e,Hq h0 hnl,if_pos rfl]
  refine⟨hg,fun k hk hk2=>?_,?_⟩
  ·rw[pE hk2,pE oF];exact hd.1 k hk hk2
  ·have hsplit:l2=l2.take n++[gt l2 n]:=by
    rw[Acx oF,List.take_append_getElem,Ax oF]
   refine Perm.trans ?_ (hd.2.1.trans (Zt h0 hnl))
   conv=>rhs;rw[hsplit]
   rw[hg];exact(List.perm_append_singleton _ _).symm
 ·rw[Hq h0 hnl,Hq h0 hnl,if_neg (by omega:¬k=n),if_neg (by omega:¬k=0),if_neg (by omega:¬(k-1) / 2=n),if_neg hne];exact h k hk oF
def Xp(p q:Sc):Bool:=(decide (p.i<q.i)&&decide (p.j<q.j))|| (decide (q.i<p.i)&&decide (q.j<p.j))
theorem jq{p q:Sc}:Xp p q=Xp q p:=by unfold Xp;rw[Bool.or_comm]
theorem AbK(p:Sc):Xp p p=false:=by simp[Xp]
def CD(o:List Sc)(x:Sc):Bool:=o.all fun p=>Xp p x
theorem cJ{o:List Sc}{x y:Sc}:CD (o++[x]) y=(CD o y&&Xp x y):=by simp[CD]
def oK(all o:List Sc)(x:Sc):Prop:=x∈all/\CD o x=true/\∀y,y∈all->CD o y=true->BB y x=false
inductive LD(all:List Sc):List Sc->List Sc->Prop
 |done {o}:(∀y,y∈all->CD o y=false)->LD all o o
 |step {o x o'}:oK all o x->LD all (o++[x]) o'->LD all o o'
theorem j1{all o:List Sc}{x y:Sc}(h:oK all o x)(k:oK all o y):x=y:=sG (k.2.2 x h.1 h.2.1) (h.2.2 y k.1 k.2.1)
theorem sK{all o a b:List Sc}(h:LD all o a):LD all o b->a=b:=by
 induction h with
 |done h=>
  intro k;cases k with
  |done=>rfl
  |step hb _=>
   have:=hb.2.1;rw[h _ hb.1]at this;cases this
 |step hb _ ih=>
  intro k;cases k with
  |done k=>
   have:=hb.2.1;rw[k _ hb.1]at this;cases this
  |step hb' k=>
   have:=j1 hb hb';subst this;exact ih k
def ES(o:List Sc):Prop:=o.Pairwise fun p q=>Xp p q=true
theorem Zy{o:List Sc}{x:Sc}(h:ES o)(hx:CD o x=true):ES (o++[x]):=by
 unfold ES at h ⊢;rw[List.pairwise_append];refine⟨h,iS,fun p hp q hq=>?_⟩;simp at hq;subst hq;simp[CD]at hx;exact hx p hp
theorem j7{all o o':List Sc}(h:LD all o o'):ES o->(∀x,x∈o->x∈all)->ES o'/\∀x,x∈o'->x∈all:=by
 induction h with
 |done=>exact fun h k=>⟨h,k⟩
 |step hb _ ih=>
  intro h k;refine ih (Zy h hb.2.1) fun x hx=>?_;rcases List.mem_append.1 hx with hx|hx
  ·exact k x hx
  ·simp at hx;subst hx;exact hb.1
theorem vI{all o:List Sc}{x:Sc}{l rest:List Sc}(hl:x::rest ~ l)(hmin:∀y,y∈l->BB y x=false)(hall:∀y,y∈all->y∈l\/CD o y=false)(hsub:∀y,y∈l->y∈all) :
  (CD o x=true->oK all o x/\(∀y,y∈all->y∈rest\/CD (o++[x]) y=false))/\(CD o x=false->∀y,y∈all->y∈rest\/CD o y=false):=by
 refine⟨fun hx=>⟨⟨hsub x (hl.subset iS),hx,fun y hy hf=>?_⟩,fun y hy=>?_⟩,fun hx y hy=>?_⟩
 ·rcases hall y hy with h|h
  ·exact hmin y h
  ·rw[h]at hf;cases hf
 ·rcases hall y hy with h|h
  ·rcases List.mem_cons.1 (hl.symm.subset h)with rfl|h
   ·right;rw[cJ,AbK];simp
   ·exact .inl h
  ·right;rw[cJ,h];rfl
 ·rcases hall y hy with h|h
  ·rcases List.mem_cons.1 (hl.symm.subset h)with rfl|h
   ·exact .inr hx
   ·exact .inl h
  ·exact .inr h
def Um(x:Sc):List Sc->List Sc
 |[]=>[x]
 |y::l=>if y.i<x.i then y::Um x l else x::y::l
def L0(l:List Sc):Prop:=l.Pairwise fun p q=>p.i<q.i
theorem V8(x:Sc):∀l,Um x l ~ x::l
 |[]=>Perm.refl _
 |y::l=>by
  unfold Um;split
  ·exact((V8 x l).cons y).trans (Perm.swap x y l)
  ·exact Perm.refl _
theorem XT{x:Sc}:∀{l:List Sc},L0 l->(∀y,y∈l->y.i≠x.i)->L0 (Um x l)
 |[],_,_=>by simp[Um,L0]
 |y::l,h,hne=>by
  unfold Um;unfold L0 at h ⊢;rw[List.pairwise_cons]at h;split
  ·rename_i hlt;rw[List.pairwise_cons];refine⟨fun z hz=>?_,XT h.2 fun z hz=>hne z (by simp[hz])⟩;rcases List.mem_cons.1 ((V8 x l).subset hz)with rfl|hz
   ·exact hlt
   ·exact h.1 z hz
  ·rename_i hlt;have:=hne y iS;rw[List.pairwise_cons,List.pairwise_cons];refine⟨fun z hz=>?_,h⟩;rcases List.mem_cons.1 hz with rfl|hz
   ·omega
   ·have:=h.1 z hz;omega
theorem cN:∀{l m:List Sc},L0 l->L0 m->l ~ m->l=m
 |[],m,_,_,h=>(List.nil_perm.1 h).symm
 |x::l,[],_,_,h=>by have:=h.length_eq;simp at this
 |x::l,y::m,hl,hm,h=>by
  unfold L0 at hl hm;rw[List.pairwise_cons]at hl hm;have e:x=y:=by
   rcases List.mem_cons.1 (h.subset (by simp:x∈x::l))with e|e
   ·exact e
   ·rcases List.mem_cons.1 (h.symm.subset (by simp:y∈y::m))with e2|e2
    ·exact e2.symm
    ·have h1:=hm.1 x e;have h2:=hl.1 y e2;omega
  subst e;rw[cN hl.2 hm.2 ((List.perm_cons x).1 h)]
def Dc(o:List Sc):List Sc:=o.foldl (fun l x=>Um x l) []
theorem Kk{o:List Sc}(h:ES o):L0 (Dc o)/\Dc o ~ o:=by
 have main:∀(o l p:List Sc),L0 l->l ~ p->(p++o).Pairwise (fun a b=>Xp a b=true)->L0 (o.foldl (fun l x=>Um x l) l)/\o.foldl (fun l x=>Um x l) l ~ p++o:=by
  intro o;induction o with
  |nil=>intro l p h1 h2 _;simpa using ⟨h1,h2⟩
  |cons x o ih=>
   intro l p h1 h2 h3;have hx:∀y,y∈p->Xp y x=true:=fun y hy=>by
    rw[List.pairwise_append]at h3;exact h3.2.2 y hy x iS
   have:=ih (Um x l) (p++[x]) (XT h1 fun y hy e=>by
    have:=hx y (h2.subset hy);simp[Xp]at this;omega) ((V8 x l).trans ((h2.cons x).trans (List.perm_append_singleton x p).symm)) (by simpa using h3)
   simpa using this
 have:=main o [] [] (by simp[L0]) (Perm.refl _) (by show ES ([]++o);exact h);simpa[Dc]using this
theorem cX:∀(l:List Sc)(a b:Nat),L0 l->(∀x,x∈l->a<=x.i/\x.i<b)->l.length<=b-a
 |[],a,b,_,_=>iS
 |x::l,a,b,h,hb=>by
  unfold L0 at h;rw[List.pairwise_cons]at h;have h1:=hb x iS;have:=cX l (x.i+1) b h.2 fun y hy=>⟨h.1 y hy,(hb y (by simp[hy])).2⟩;simp;omega
end Go.PL
