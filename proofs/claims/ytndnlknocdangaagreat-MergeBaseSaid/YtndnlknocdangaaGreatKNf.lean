/-
 Texts,merged,without what is not reached.
-/
import Derived.Test.YtndnlknocdangaaGreatKNe
set_option linter.unusedSimpArgs false
set_option linter.unusedVariables false
open Go.IntKind (i64 u64)
namespace Go.Proofs.YtndnlknocdangaaGreat
open Go Go.G Go.Proofs Go.PL
inductive Oc {α β:Type} (R:α→β→Prop):List Nat→List α→List β→Prop
 |nil:Oc R [] [] []
 |keep {us:List Nat} {a:List α} {b:List β} (x:α) (y:β) (h:R x y):Oc R us a b→Oc R (0::us) (x::a) (y::b)
 |del {us:List Nat} {a:List α} {b:List β} (x:α):Oc R us a b→Oc R (1::us) (x::a) b
 |ins {us:List Nat} {a:List α} {b:List β} (y:β):Oc R us a b→Oc R (2::us) a (y::b)
section
variable {α β:Type} {R:α→β→Prop}
theorem KD {us vs:List Nat} {a c:List α} {b d:List β} (h:Oc R us a b) (g:Oc R vs c d):Oc R (us++vs) (a++c) (b++d):=by
 induction h with
 |nil=>exact g
 |keep x y h _ ih=>exact .keep x y h ih
 |del x _ ih=>exact .del x ih
 |ins y _ ih=>exact .ins y ih
theorem Ep:∀ {us vs:List Nat} {a:List α} {b:List β},Oc R (us++vs) a b→∃ a1 a2 b1 b2,a=a1++a2∧b=b1++b2∧Oc R us a1 b1∧Oc R vs a2 b2
 |[],vs,a,b,h=>⟨[],a,[],b,rfl,rfl,.nil,h⟩
 |u::us,vs,a,b,h=>by
  cases h with
  |keep x y r h=>
   obtain⟨a1,a2,b1,b2,rfl,rfl,h1,h2⟩:=Ep h;exact⟨x::a1,a2,y::b1,b2,rfl,rfl,.keep x y r h1,h2⟩
  |del x h=>
   obtain⟨a1,a2,b1,b2,rfl,rfl,h1,h2⟩:=Ep h;exact⟨x::a1,a2,b1,b2,rfl,rfl,.del x h1,h2⟩
  |ins y h=>
   obtain⟨a1,a2,b1,b2,rfl,rfl,h1,h2⟩:=Ep h;exact⟨a1,a2,y::b1,b2,rfl,rfl,.ins y h1,h2⟩
theorem Ou:∀ (b:List β),Oc R (List.replicate b.length 2) [] b
 |[]=>.nil
 |y::b=>.ins y (Ou b)
theorem Zf:∀ (i:Nat) {us:List Nat} {a:List α} {b:List β},Oc R (List.replicate i 2++1::us) a b→Oc R (1::(List.replicate i 2++us)) a b
 |0,us,a,b,h=>h
 |i+1,us,a,b,h=>by
  cases h with
  |ins y h=>
   cases Zf i h with
   |del x h=>exact .del x (.ins y h)
theorem I5:∀ (n:Nat) {a:List α} {b:List β},Oc R (List.replicate n 2) a b→a=[]∧b.length=n
 |0,a,b,h=>by cases h;exact⟨rfl,rfl⟩
 |n+1,a,b,h=>by
  cases h with
  |ins y h=>
   obtain⟨h1,h2⟩:=I5 n h;exact⟨h1,by simp[h2]⟩
theorem Lz:∀ (n:Nat) {a:List α} {b:List β},Oc R (List.replicate n 1) a b→b=[]∧a.length=n
 |0,a,b,h=>by cases h;exact⟨rfl,rfl⟩
 |n+1,a,b,h=>by
  cases h with
  |del y h=>
   obtain⟨h1,h2⟩:=Lz n h;exact⟨h1,by simp[h2]⟩
theorem RJ:∀ (us:List Nat) (k d i:Nat) {a:List α} {b:List β},(k=0∨(d=0∧i=0))→Oc R (List.replicate k 0++(List.replicate d 1++(List.replicate i 2++us))) a b→Oc R (Bb (N9 us k d i)) a b
 |[],k,d,i,a,b,hc,h=>by
  simp only[N9,Il,LW];simpa using h
 |x::us,k,d,i,a,b,hc,h=>by
  rw[N9];by_cases h0:x=0
  ·subst h0;rw[if_pos rfl];simp only[Il,LW];have e:List.replicate k 0++(List.replicate d 1++(List.replicate i 2++0::us))=(List.replicate d 1++List.replicate i 2)++(List.replicate (k+1) 0++us):=by
    rcases hc with rfl | ⟨rfl,rfl⟩
    ·simp
    ·simp[List.replicate_succ']
   rw[e] at h;obtain⟨a1,a2,b1,b2,rfl,rfl,h1,h2⟩:=Ep h;rw[← List.append_assoc];exact KD h1 (RJ us (k+1) 0 0 (.inr ⟨rfl,rfl⟩) (by simpa using h2))
  ·rw[if_neg h0];simp only[Il,LW];obtain⟨a1,a2,b1,b2,rfl,rfl,h1,h2⟩:=Ep h;refine KD h1 ?_;by_cases h3:x=1
   ·subst h3;rw[if_pos rfl];refine RJ us 0 (d+1) i (.inl rfl) ?_;obtain⟨a3,a4,b3,b4,rfl,rfl,h4,h5⟩:=Ep h2;have:=KD h4 (Zf i h5);have e:List.replicate d 1++(1::(List.replicate i 2++us))=List.replicate (d+1) 1++(List.replicate i 2++us):=by simp[List.replicate_succ']
    rw[e] at this;simpa using this
   ·rw[if_neg h3];obtain⟨a3,a4,b3,b4,rfl,rfl,h4,h5⟩:=Ep h2;obtain⟨a5,a6,b5,b6,rfl,rfl,h6,h7⟩:=Ep h5;clear h h2 h5;cases h7 with
    |keep x y r w=>exact absurd rfl h0
    |del x w=>exact absurd rfl h3
    |ins y w=>
     refine RJ us 0 d (i+1) (.inl rfl) ?_;have:=KD h4 (KD h6 (.ins y w));have e:List.replicate d 1++(List.replicate i 2++2::us)=List.replicate d 1++(List.replicate (i+1) 2++us):=by simp[List.replicate_succ']
     rw[e] at this;simpa using this
theorem pU {us:List Nat} {a:List α} {b:List β} (h:Oc R us a b):Oc R (Bb (JD us)) a b:=RJ us 0 0 0 (.inl rfl) (by simpa using h)
end
theorem Mi {α β:Type} {f:α→β}:∀ {us:List Nat} {a b:List α},Oc (fun x y:β=>x=y) us (a.map f) (b.map f)→Oc (fun x y=>f x=f y) us a b
 |us,[],[],h=>by cases h;exact .nil
 |us,x::a,[],h=>by
  cases h with
  |del x h=>exact .del _ (Mi (b:=[]) h)
 |us,[],y::b,h=>by
  cases h with
  |ins x h=>exact .ins _ (Mi (a:=[]) h)
 |us,x::a,y::b,h=>by
  cases h with
  |keep x y r h=>exact .keep _ _ r (Mi h)
  |del x h=>exact .del _ (Mi (b:=y::b) h)
  |ins x h=>exact .ins _ (Mi (a:=x::a) h)
theorem pK {α β:Type} {R R':α→β→Prop} {us:List Nat} {a:List α} {b:List β} (h:∀ x,x ∈ a→∀ y,y ∈ b→R x y→R' x y) (w:Oc R us a b):Oc R' us a b:=by
 induction w with
 |nil=>exact .nil
 |keep x y r _ ih=>exact .keep x y (h x (by simp) y (by simp) r) (ih fun p hp q hq=>h p (List.mem_cons_of_mem _ hp) q (List.mem_cons_of_mem _ hq))
 |del x _ ih=>exact .del x (ih fun p hp q hq=>h p (List.mem_cons_of_mem _ hp) q hq)
 |ins y _ ih=>exact .ins y (ih fun p hp q hq=>h p hp q (List.mem_cons_of_mem _ hq))
def cK (us:List Nat):Nat:=us.countP fun x=>x == 0
theorem jX (a b:List Nat):cK (a++b)=cK a+cK b:=List.countP_append
theorem WX (n k:Nat):cK (List.replicate n k)=if k=0 then n else 0:=by unfold cK;rw[List.countP_replicate];by_cases h:k=0<;>simp[h]
theorem cZ (x:Nat) (us:List Nat):cK (x::us)=(if x=0 then 1 else 0)+cK us:=by
 unfold cK;rw[List.countP_cons];by_cases h:x=0<;>simp[h]
 omega
theorem mQ (x:Int):∀ b:List Int,De x b<b.length ↔ x ∈ b:=by
 intro b;constructor
 ·intro h;have:=OA x h;rw[← this];exact C5 h
 ·intro h;apply Classical.byContradiction;intro hn;have hle:=Ow x b;have he:De x b=b.length:=by omega
  have:=Pj x (b:=b) (j:=b.length) (by omega);rw[AX (Cj _)] at this;exact this h
theorem qi (x:Int) (b:List Int):Oc (fun x y:Int=>x=y) (FH [x] b) [x] b:=by
 rw[SE];split
 ·rename_i h;have e:b=b.take (De x b)++(b[De x b]::b.drop (De x b+1)):=by
   conv=>lhs;rw[← List.take_append_drop (De x b) b]
   rw[List.getElem_cons_drop]
  have h1:=Ou (R:=fun x y:Int=>x=y) (b.take (De x b));have h2:=Ou (R:=fun x y:Int=>x=y) (b.drop (De x b+1));rw[List.length_take,Nat.min_eq_left (by omega)] at h1;rw[List.length_drop,show b.length-(De x b+1)=b.length-De x b-1 by omega] at h2;have:=KD h1 (.keep x b[De x b] (OA x h).symm h2);rw[← e] at this;exact this
 ·exact .del x (Ou b)
theorem tM (x:Int) (b:List Int):cK (FH [x] b)=AE [x] b:=by
 rw[SE,Xn];have:=mQ x b;split
 ·rename_i h;rw[if_pos (this.1 h),jX,cZ,WX,WX];simp
 ·rename_i h;rw[if_neg (fun hx=>h (this.2 hx)),cZ,WX];simp
theorem eH:∀ (a b:List Int),Oc (fun x y:Int=>x=y) (FH a b) a b∧cK (FH a b)=AE a b
 |[],b=>by
  rw[ZU];exact⟨Ou b,by rw[WX];simp⟩
 |x::a,b=>by
  have hw:=G8 (a:=x::a) (b:=b) (i:=1) (by simp);rw[VN (x::a) b (h:=1) (by simp)];generalize Cp (x::a) b 1=w at *;have e1:(x::a).take 1=[x]:=by simp
  have e2:(x::a).drop 1=a:=by simp
  rw[e1,e2];obtain⟨g1,g2⟩:=eH a (b.drop w);constructor
  ·have:=KD (qi x (b.take w)) g1;rw[List.take_append_drop] at this;exact this
  ·rw[jX,tM,g2];have h:=hw.1;unfold PB at h;have h:=of_decide_eq_true h;unfold GH at h;rw[OM,OM,Wn,Wn,e1,e2] at h;exact h
theorem SW {ks:List T} {n:T} (h:n ∈ ks):FV ks n=ks∧ks[EL ks n]? = some n:=by
 have h1:EL ks n<ks.length:=by
  unfold EL;exact List.findIdx_lt_length_of_exists ⟨n,h,sameB_iff.2 rfl⟩
 have e:FV ks n=ks:=by unfold FV;rw[if_pos h1]
 have:=RR ks n;rw[e] at this;exact⟨e,this⟩
theorem Ta:∀ (l K:List T),(∀ t,t ∈ l→Ag t ∈ K)→Cs K l=(K,l.map fun t=>EL K (Ag t))
 |[],K,_=>rfl
 |t::l,K,h=>by
  rw[Cs,(SW (h t (by simp))).1,Ta l K fun x hx=>h x (List.mem_cons_of_mem _ hx)];rfl
theorem SK:∀ (l ks:List T),∀ t,t ∈ l→Ag t ∈ (Cs ks l).1
 |x::l,ks,t,h=>by
  rw[Cs];rcases List.mem_cons.1 h with rfl | h
  ·have h1:=HL l (FV ks (Ag t));have h2:=RR ks (Ag t);exact h1.subset (List.mem_of_getElem? h2)
  ·exact SK l _ t h
theorem oc {K:List T} {s t:T} (hs:Ag s ∈ K) (ht:Ag t ∈ K) (h:EL K (Ag s)=EL K (Ag t)):Ag s=Ag t:=by
 have h1:=(SW hs).2;have h2:=(SW ht).2;rw[h,h2] at h1;exact(Option.some.inj h1).symm
noncomputable def pf (a b:List T):List T:=(Cs (Cs [] a).1 b).1
noncomputable def yh (a b:List T) (t:T):Int:=(EL (pf a b) (Ag t):Nat)
theorem VE (a b:List T):(pf a b).Nodup:=N4 (N4 List.nodup_nil)
theorem tF (a b:List T):∀ t,t ∈ a→Ag t ∈ pf a b:=fun t ht=>(HL b (Cs [] a).1).subset (SK a [] t ht)
theorem tB (a b:List T):∀ t,t ∈ b→Ag t ∈ pf a b:=SK b _
theorem wK (a b:T):Ru a=a.kids.map (yh a.kids b.kids):=by
 have h1:=N0 (l:=a.kids) (ks:=[]) (ks':=pf a.kids b.kids) (HL b.kids _) (VE _ _);rw[Ta _ _ (tF a.kids b.kids)] at h1;have h2:(Cs [] a.kids).2=a.kids.map fun t=>EL (pf a.kids b.kids) (Ag t):=(Prod.mk.inj h1).2.symm;unfold Ru pj;rw[h2,List.map_map];rfl
theorem ur (a b:T):RP a b=b.kids.map (yh a.kids b.kids):=by
 have h1:=N0 (l:=b.kids) (ks:=(Cs [] a.kids).1) (ks':=pf a.kids b.kids) List.prefix_rfl (VE _ _);rw[Ta _ _ (tB a.kids b.kids)] at h1;have h2:(Cs (Cs [] a.kids).1 b.kids).2=b.kids.map fun t=>EL (pf a.kids b.kids) (Ag t):=(Prod.mk.inj h1).2.symm;unfold RP pj;rw[h2,List.map_map];rfl
theorem wE {a b:List T} {s t:T} (hs:Ag s ∈ pf a b) (ht:Ag t ∈ pf a b):yh a b s=yh a b t ↔ Ag s=Ag t:=by
 constructor
 ·intro h;unfold yh at h;exact oc hs ht (by omega)
 ·intro h;unfold yh;rw[h]
theorem kO (a b:T):Oc (fun x y=>Ag x=Ag y) (Bb (JD (FH (Ru a) (RP a b)))) a.kids b.kids:=by
 have h:=(eH (Ru a) (RP a b)).1;have h:=pU h;rw[wK a b,ur a b] at h ⊢;refine pK (fun x hx y hy e=>?_) (Mi h);exact(wE (tF _ _ x hx) (tB _ _ y hy)).1 e
theorem VS (a:Int):∀ k,GJ a a k=0
 |0=>rfl
 |k+1=>by
  unfold GJ;rw[VS a k];simp
theorem Vr {a b:Int}:∀ k,GJ a b k=0→∀ i,i<k→Bt a i=Bt b i
 |0,_,i,h=>by omega
 |k+1,h,i,hi=>by
  unfold GJ at h;have h1:GJ a b k=0:=by omega
  have h2:(if Bt a k ≠ Bt b k then 2 ^ k else 0)=0:=by omega
  by_cases e:i=k
  ·subst e;apply Classical.byContradiction;intro hne;rw[if_pos hne] at h2;have:=Nat.pow_pos (n:=i) (show 0<2 by omega);omega
  ·exact Vr k h1 i (by omega)
theorem Tl {a b:Int} (ha:Bo a) (hb:Bo b):DL a b=0 ↔ a=b:=by
 constructor
 ·intro h;have h':GJ a b 8=0:=by unfold DL at h;omega
  have g:=Vr 8 h';have g0:=g 0 (by omega);have g1:=g 1 (by omega);have g2:=g 2 (by omega);have g3:=g 3 (by omega);have g4:=g 4 (by omega);have g5:=g 5 (by omega);have g6:=g 6 (by omega);have g7:=g 7 (by omega);clear g h h';unfold Bt at g0 g1 g2 g3 g4 g5 g6 g7;simp only[show(256:Int) ^ 0=1 from rfl,show(256:Int) ^ 1=256 from rfl,show(256:Int) ^ 2=65536 from rfl,show(256:Int) ^ 3=16777216 from rfl,show(256:Int) ^ 4=4294967296 from rfl,show(256:Int) ^ 5=1099511627776 from rfl,show(256:Int) ^ 6=281474976710656 from rfl,show(256:Int) ^ 7=72057594037927936 from rfl] at g0 g1 g2 g3 g4 g5 g6 g7;unfold Bo at ha hb;omega
 ·rintro rfl;unfold DL;rw[VS];rfl
inductive LdO (R:E→T→T→Prop):List OP→List T→List T→Prop
 |nil:LdO R [] [] []
 |keep {os:List OP} {a b:List T} (l m:List T) (hne:l ≠ []) (h:l.map Ag=m.map Ag) (g:LdO R os a b):LdO R (.mk 0 (l.length:Nat) [] E0::os) (l++a) (m++b)
 |del {os:List OP} {a b:List T} (l m:List T) (hne:l ≠ []) (h:l.map Ag=m.map Ag) (g:LdO R os a b):LdO R (.mk 1 0 l E0::os) (m++a) b
 |ins {os:List OP} {a b:List T} (l m:List T) (hne:l ≠ []) (h:l.map Ag=m.map Ag) (g:LdO R os a b):LdO R (.mk 2 0 l E0::os) a (m++b)
 |desc {os:List OP} {a b:List T} (e:E) (x y:T) (h:R e x y) (g:LdO R os a b):LdO R (.mk 3 0 [] e::os) (x::a) (y::b)
inductive Uf (R:E→T→T→Prop) (a b:List T):Nat→List KE→Prop
 |nil (p:Nat) (h:∀ i,p≤i→Ag (a.getD i T0)=Ag (b.getD i T0)):Uf R a b p []
 |cons (p i:Nat) (e:E) (ks:List KE) (hp:p≤i) (h:∀ j,p≤j→j<i→Ag (a.getD j T0)=Ag (b.getD j T0)) (hi:i<max a.length b.length) (he:e.kind ≠ 0) (hr:R e (a.getD i T0) (b.getD i T0)) (g:Uf R a b (i+1) ks):Uf R a b p (.mk i e::ks)
inductive K9 (a b:List Int):Nat→List WE→Prop
 |nil (p:Nat) (h:∀ i,p≤i→a.getD i 0=b.getD i 0):K9 a b p []
 |cons (p i:Nat) (m o n:Int) (ws:List WE) (hp:p≤i) (h:∀ j,p≤j→j<i→a.getD j 0=b.getD j 0) (hi:i<max a.length b.length) (hm:0<m∧m<256) (ho:BV 0 (a.getD i 0) m=o) (hn:BV 0 (b.getD i 0) m=n) (h1:BV (a.getD i 0) n m=b.getD i 0) (h2:BV (b.getD i 0) o m=a.getD i 0) (g:K9 a b (i+1) ws):K9 a b p (⟨i,m,o,n⟩::ws)
def lx (e:E) (a b:T):Prop:=(e=E0∧Ag a=Ag b)∨∃ o n,e = .mk 1 o n [] [] 0 []∧Ag o=Ag a∧Ag n=Ag b
def Ld:Nat→E→T→T→Prop
 |0,e,a,b=>lx e a b
 |f+1,e,a,b=>lx e a b∨(∃ ws ks,e = .mk 2 T0 T0 ws ks 0 []∧a.kind=1∧b.kind=1∧K9 a.words b.words 0 ws∧Uf (Ld f) a.kids b.kids 0 ks)∨(∃ os,e = .mk 3 T0 T0 [] [] a.kind os∧b.kind=a.kind∧(2≤a.kind∧a.kind≤9)∧(a.words=[]∧b.words=[])∧LdO (Ld f) os a.kids b.kids)
theorem Ol {f:Nat} {e:E} {a b:T} (h:lx e a b):Ld f e a b:=by
 cases f with
 |zero=>exact h
 |succ f=>exact .inl h
theorem kf {f:Nat} {e:E} {a b:T} (h:Ld f e a b) (hk:e.kind=0):e=E0∧Ag a=Ag b:=by
 have base:lx e a b→e=E0∧Ag a=Ag b:=fun h=>by
  rcases h with h | ⟨o,n,rfl,_⟩
  ·exact h
  ·cases hk
 cases f with
 |zero=>exact base h
 |succ f=>
  rcases h with h | ⟨ws,ks,rfl,_⟩ | ⟨os,rfl,_⟩
  ·exact base h
  ·cases hk
  ·cases hk
section
variable {R:E→T→T→Prop}
theorem FL {os ps:List OP} {a b c d:List T} (h:LdO R os a b) (g:LdO R ps c d):LdO R (os++ps) (a++c) (b++d):=by
 induction h with
 |nil=>exact g
 |keep l m hne h _ ih=>rw[List.append_assoc,List.append_assoc];exact .keep l m hne h ih
 |del l m hne h _ ih=>rw[List.append_assoc];exact .del l m hne h ih
 |ins l m hne h _ ih=>rw[List.append_assoc];exact .ins l m hne h ih
 |desc e x y h _ ih=>exact .desc e x y h ih
theorem J8:∀ {os ps:List OP} {a b:List T},LdO R (os++ps) a b→∃ a1 a2 b1 b2,a=a1++a2∧b=b1++b2∧LdO R os a1 b1∧LdO R ps a2 b2
 |[],ps,a,b,h=>⟨[],a,[],b,rfl,rfl,.nil,h⟩
 |o::os,ps,a,b,h=>by
  cases h with
  |keep l m hne h g=>
   obtain⟨a1,a2,b1,b2,rfl,rfl,h1,h2⟩:=J8 g;exact⟨l++a1,a2,m++b1,b2,by simp,by simp,.keep l m hne h h1,h2⟩
  |del l m hne h g=>
   obtain⟨a1,a2,b1,b2,rfl,rfl,h1,h2⟩:=J8 g;exact⟨m++a1,a2,b1,b2,by simp,rfl,.del l m hne h h1,h2⟩
  |ins l m hne h g=>
   obtain⟨a1,a2,b1,b2,rfl,rfl,h1,h2⟩:=J8 g;exact⟨a1,a2,m++b1,b2,rfl,by simp,.ins l m hne h h1,h2⟩
  |desc e x y h g=>
   obtain⟨a1,a2,b1,b2,rfl,rfl,h1,h2⟩:=J8 g;exact⟨x::a1,a2,y::b1,b2,rfl,rfl,.desc e x y h h1,h2⟩
theorem OV {l m:List T} (h:l.map Ag=m.map Ag):LdO R (DE l) m []:=by
 unfold DE;split
 ·rename_i e;subst e;have:m=[]:=by simpa using h.symm
  subst this;exact .nil
 ·rename_i e;have:=LdO.del (R:=R) l m e h .nil
  rwa [List.append_nil] at this
theorem PF {l m:List T} (h:l.map Ag=m.map Ag):LdO R (B7 l) [] m:=by
 unfold B7;split
 ·rename_i e;subst e;have:m=[]:=by simpa using h.symm
  subst this;exact .nil
 ·rename_i e;have:=LdO.ins (R:=R) l m e h .nil
  rwa [List.append_nil] at this
end
theorem Tc (one:T→T→E) (a b:List T):∀ (P:List Sc) (i j:Nat) (out:List OP),GI one a b P i j out=out++GI one a b P i j []
 |[],i,j,out=>by simp[GI]
 |x::P,i,j,out=>by
  rw[GI,Tc one a b P,GI,Tc one a b P _ _ ([]++_++_++_)];simp
theorem X6 {R:E→T→T→Prop} {one:T→T→E} {a b:List T} (hone:∀ x,x ∈ a→∀ y,y ∈ b→R (one x y) x y):∀ (P:List Sc) (i j:Nat),Y7 a.length b.length i j P→LdO R (GI one a b P i j []) (a.drop i) (b.drop j)
 |[],i,j,_=>by
  rw[GI,List.nil_append];have:=FL (OV (R:=R) (l:=a.drop i) rfl) (PF (R:=R) (l:=b.drop j) rfl);simpa using this
 |x::P,i,j,h=>by
  obtain⟨k1,k2,k3,k4,k5⟩:=h;have ih:=X6 hone P _ _ k5;rw[GI,Tc];have e1:a.getD x.i T0=a[x.i]:=by simp[k3]
  have e2:b.getD x.j T0=b[x.j]:=by simp[k4]
  rw[e1,e2];have d1:a.drop i=(a.take x.i).drop i++(a[x.i]::a.drop (x.i+1)):=by
   rw[List.getElem_cons_drop,← List.drop_append_of_le_length (by simp;omega),List.take_append_drop]
  have d2:b.drop j=(b.take x.j).drop j++(b[x.j]::b.drop (x.j+1)):=by
   rw[List.getElem_cons_drop,← List.drop_append_of_le_length (by simp;omega),List.take_append_drop]
  rw[d1,d2];have:=FL (OV (R:=R) (l:=(a.take x.i).drop i) rfl) (FL (PF (R:=R) (l:=(b.take x.j).drop j) rfl) (.desc _ _ _ (hone _ (C5 k3) _ (C5 k4)) ih));simpa using this
theorem dN {R:E→T→T→Prop} {one:T→T→E} {a b:List T} (hone:∀ x,x ∈ a→∀ y,y ∈ b→R (one x y) x y):LdO R (FU one a b) a b:=by
 have:=X6 hone (YA (LC a b)) 0 0 (Qw a b);simpa[FU] using this
theorem Ei (gap:List T→List T→List OP):∀ (S:List Sp) (a b:List T) (out:List OP),Cv gap S a b out=out++Cv gap S a b []
 |[],a,b,out=>by simp[Cv]
 |[s],a,b,out=>by
  rw[Cv,Cv];split
  ·simp
  ·split<;>simp
 |s::s2::ss,a,b,out=>by
  rw[Cv,Cv];split
  ·rw[Ei gap (s2::ss),Ei gap (s2::ss) _ _ ([]++_)];simp
  ·split
   ·rw[Ei gap (s2::ss),Ei gap (s2::ss) _ _ ([]++_)];simp
   ·split
    ·rw[Ei gap ss,Ei gap ss _ _ ([]++_)];simp
    ·rw[Ei gap (s2::ss),Ei gap (s2::ss) _ _ ([]++_)];simp
abbrev Nq:T→T→Prop:=fun x y=>Ag x=Ag y
theorem KL:∀ (n:Nat) {a b:List T},Oc Nq (List.replicate n 0) a b→a.length=n∧b.length=n∧a.map Ag=b.map Ag
 |0,a,b,h=>by cases h;exact⟨rfl,rfl,rfl⟩
 |n+1,a,b,h=>by
  cases h with
  |keep x y r w=>
   obtain⟨h1,h2,h3⟩:=KL n w;exact⟨by simp[h1],by simp[h2],by simp[h3];exact r⟩
theorem OL {R:E→T→T→Prop} {one:T→T→E} {A B:List T} (hone:∀ x,x ∈ A→∀ y,y ∈ B→R (one x y) x y):∀ (S:List Sp) (a b:List T),(∀ s,s ∈ S→s.k≤2∧1≤s.n)→(∀ t,t ∈ a→t ∈ A)→(∀ t,t ∈ b→t ∈ B)→Oc Nq (Bb S) a b→LdO R (Cv (FU one) S a b []) a b
 |[],a,b,_,_,_,h=>by
  cases h;rw[Cv];exact .nil
 |[s],a,b,hS,hA,hB,h=>by
  have hs:=hS s (by simp);rw[Bl,Ip,List.append_nil] at h;have hk:s.k=0∨s.k=1∨s.k=2:=by omega
  rw[Cv];rcases hk with hk | hk | hk
  ·rw[if_pos hk];rw[hk] at h;obtain⟨h1,h2,h3⟩:=KL _ h;have:=LdO.keep (R:=R) a b (fun e=>by subst e;simp at h1;omega) h3 .nil;rw[h1] at this;simpa using this
  ·rw[if_neg (by omega),if_neg (by omega)];rw[hk] at h;obtain⟨rfl,h2⟩:=Lz _ h;rw[AX (by omega)];exact OV rfl
  ·rw[if_neg (by omega),if_pos hk];rw[hk] at h;obtain⟨rfl,h2⟩:=I5 _ h;rw[AX (by omega)];exact PF rfl
 |s::s2::ss,a,b,hS,hA,hB,h=>by
  have hs:=hS s (by simp);have hs2:=hS s2 (by simp);have hS1:∀ x,x ∈ s2::ss→x.k≤2∧1≤x.n:=fun x hx=>hS x (List.mem_cons_of_mem _ hx);have hS2:∀ x,x ∈ ss→x.k≤2∧1≤x.n:=fun x hx=>hS1 x (List.mem_cons_of_mem _ hx);rw[Bl] at h;obtain⟨a1,a2,b1,b2,rfl,rfl,h1,h2⟩:=Ep h;have hA2:∀ t,t ∈ a2→t ∈ A:=fun t ht=>hA t (List.mem_append_right _ ht);have hB2:∀ t,t ∈ b2→t ∈ B:=fun t ht=>hB t (List.mem_append_right _ ht);have dr:∀ {l m:List T} {n:Nat},l.length=n→(l++m).drop n=m∧(l++m).take n=l:=fun h=>by subst h;exact⟨List.drop_left ..,List.take_left ..⟩
  have hk:s.k=0∨s.k=1∨s.k=2:=by omega
  rw[Cv];rcases hk with hk | hk | hk
  ·rw[if_pos hk,Ei];rw[hk] at h1;obtain⟨g1,g2,g3⟩:=KL _ h1;rw[(dr g1).1,(dr g2).1];have:=LdO.keep (R:=R) a1 b1 (fun e=>by subst e;simp at g1;omega) g3 (OL hone (s2::ss) a2 b2 hS1 hA2 hB2 h2);rw[g1] at this;simpa using this
  ·rw[if_neg (by omega),if_neg (by omega)];rw[hk] at h1;obtain⟨rfl,g2⟩:=Lz _ h1;by_cases hk2:s2.k=2
   ·rw[if_pos hk2];rw[Bl,hk2] at h2;obtain⟨a3,a4,b3,b4,rfl,rfl,h3,h4⟩:=Ep h2;obtain⟨rfl,g4⟩:=I5 _ h3;rw[Ei,List.nil_append,List.nil_append,List.nil_append,(dr g2).1,(dr g2).2,(dr g4).1,(dr g4).2];exact FL (dN fun x hx y hy=>hone x (hA x (by simp[hx])) y (hB y (by simp[hy]))) (OL hone ss a4 b4 hS2 (fun t ht=>hA2 t (by simp[ht])) (fun t ht=>hB2 t (by simp[ht])) h4)
   ·rw[if_neg hk2,Ei,List.nil_append,(dr g2).1,(dr g2).2];have:=FL (OV (R:=R) (l:=a1) rfl) (OL hone (s2::ss) a2 b2 hS1 hA2 hB2 h2);simpa using this
  ·rw[if_neg (by omega),if_pos hk,Ei,List.nil_append];rw[hk] at h1;obtain⟨rfl,g2⟩:=I5 _ h1;rw[(dr g2).1,(dr g2).2];have:=FL (PF (R:=R) (l:=b1) rfl) (OL hone (s2::ss) a2 b2 hS1 hA2 hB2 h2);simpa using this
theorem dV {R:E→T→T→Prop} {one:T→T→E} {most:Int} {a b:T} (hone:∀ x,x ∈ a.kids→∀ y,y ∈ b.kids→R (one x y) x y):LdO R (OO one most a b) a.kids b.kids:=by
 unfold OO;split
 ·exact OL hone _ _ _ (fun s hs=>U3 (RU _ _) s hs) (fun t ht=>ht) (fun t ht=>ht) (kO a b)
 ·exact dN hone
theorem Lu (a b:Int):∀ (n i:Nat),i<n→(GJ a b n).testBit i=decide (Bt a i ≠ Bt b i)
 |0,i,h=>by omega
 |n+1,i,h=>by
  have hlt:=Ry a b n;unfold GJ;by_cases e:i=n
  ·subst e;by_cases c:Bt a i ≠ Bt b i
   ·rw[if_pos c,Nat.add_comm,Nat.testBit_two_pow_add_eq,Nat.testBit_lt_two_pow hlt];simp[c]
   ·rw[if_neg c,Nat.add_zero,Nat.testBit_lt_two_pow hlt];simp at c;simp[c]
  ·have hi:i<n:=by omega
   by_cases c:Bt a n ≠ Bt b n
   ·rw[if_pos c,Nat.add_comm,Nat.testBit_two_pow_add_gt hi];exact Lu a b n i hi
   ·rw[if_neg c,Nat.add_zero];exact Lu a b n i hi
theorem fN (a b:Int) {i:Nat} (h:i<8):Dz (DL a b) i=decide (Bt a i ≠ Bt b i):=by
 rw[← Lu a b 8 i h,Nat.testBit_eq_decide_div_mod_eq];unfold Dz DL;rw[Bool.eq_iff_iff,decide_eq_true_iff,decide_eq_true_iff];have:((GJ a b 8:Nat):Int) / 2 ^ i % 2=((GJ a b 8 / 2 ^ i % 2:Nat):Int):=by
  rw[Int.natCast_emod,Int.natCast_ediv,Int.natCast_pow];rfl
 rw[this];omega
theorem Qo {b:Int} (h:Bo b):Zj (AY b)=b:=by
 unfold Bo at h;simp only[AY,Dh,Zj];omega
theorem Tz:∀ (l:List Int),(∀ b,b ∈ l→0≤b∧b<256)→Dh l.length (Zj l)=l
 |[],_=>rfl
 |x::l,h=>by
  have hx:=h x (by simp);have ih:=Tz l fun b hb=>h b (List.mem_cons_of_mem _ hb);simp only[List.length_cons,Dh,Zj];have e1:(x+256*Zj l) % 256=x:=by omega
  have e2:(x+256*Zj l) / 256=Zj l:=by omega
  rw[e1,e2,ih]
theorem TK {xs ys:List Int} {m:Int} {i:Nat} (hx:xs.length=8) (h:i<8):(OG xs ys m 8).getD i 0=if Dz m i=true then ys.getD i 0 else xs.getD i 0:=by
 unfold OG;have e:xs.drop 8=[]:=List.drop_eq_nil_of_le (by omega);rw[e,List.append_nil,List.getD_eq_getElem?_getD,List.getElem?_map,List.getElem?_range h];rfl
theorem Ec (x:Int) {i:Nat} (h:i<8):(AY x).getD i 0=Bt x i:=by
 rw[List.getD_eq_getElem?_getD];unfold AY;rw[Kf 8 x i h];rfl
theorem PU (a b m:Int):AY (BV a b m)=OG (AY a) (AY b) m 8:=by
 have hl:(OG (AY a) (AY b) m 8).length=8:=by rw[Jo (by rw[BP];omega),BP]
 have:=Tz (OG (AY a) (AY b) m 8) SJ;rw[hl] at this;exact this
theorem eV {a b:Int} (hb:Bo b):BV a (BV 0 b (DL a b)) (DL a b)=b:=by
 have e:OG (AY a) (AY (BV 0 b (DL a b))) (DL a b) 8=AY b:=by
  have hl:(OG (AY a) (AY (BV 0 b (DL a b))) (DL a b) 8).length=8:=by rw[Jo (by rw[BP];omega),BP]
  refine List.ext_getElem (by rw[hl,BP]) fun i h1 h2=>?_;have hi:i<8:=by rw[hl] at h1;exact h1
  have g1:=TK (xs:=AY a) (ys:=AY (BV 0 b (DL a b))) (m:=DL a b) (BP a) hi;rw[PU 0 b,TK (BP 0) hi,Ec b hi,Ec a hi,fN a b hi] at g1;have g2:=Ec b hi;have k1:∀ (l:List Int) (h:i<l.length),l.getD i 0=l[i]:=fun l h=>by simp[h]
  rw[k1 _ (by rw[Jo (by rw[BP];omega),BP];exact hi)] at g1;rw[k1 _ h2] at g2;rw[g2];have g3:(OG (AY a) (AY (BV 0 b (DL a b))) (DL a b) 8)[i]=if decide (Bt a i ≠ Bt b i)=true then (if decide (Bt a i ≠ Bt b i)=true then Bt b i else Bt 0 i) else Bt a i:=by
   rw[← Ec 0 hi,← g1];congr 1;rw[PU 0 b]
  refine g3.trans ?_;by_cases c:Bt a i=Bt b i
  ·simp[c]
  ·simp[c]
 have:BV a (BV 0 b (DL a b)) (DL a b)=Zj (AY b):=by
  unfold BV at e ⊢;rw[e]
 rw[this,Qo hb]
theorem VG (a b:Int):∀ k,GJ a b k=GJ b a k
 |0=>rfl
 |k+1=>by
  unfold GJ;rw[VG a b k];by_cases c:Bt a k=Bt b k
  ·simp[c]
  ·simp[c,Ne.symm c]
theorem g9 (a b:Int):DL a b=DL b a:=by unfold DL;rw[VG]
theorem me {a b:List Int} {p:Nat} {ws:List WE} (h:K9 a b (p+1) ws) (e:a.getD p 0=b.getD p 0):K9 a b p ws:=by
 cases h with
 |nil _ h=>
  refine .nil p fun i hi=>?_;by_cases hp:i=p
  ·subst hp;exact e
  ·exact h i (by omega)
 |cons _ i m o n ws hp h hi hm ho hn h1 h2 g=>
  refine .cons p i m o n ws (by omega) (fun j h3 h4=>?_) hi hm ho hn h1 h2 g;by_cases hp:j=p
  ·subst hp;exact e
  ·exact h j (by omega) h4
theorem mC {R:E→T→T→Prop} {a b:List T} {p:Nat} {ks:List KE} (h:Uf R a b (p+1) ks) (e:Ag (a.getD p T0)=Ag (b.getD p T0)):Uf R a b p ks:=by
 cases h with
 |nil _ h=>
  refine .nil p fun i hi=>?_;by_cases hp:i=p
  ·subst hp;exact e
  ·exact h i (by omega)
 |cons _ i x ks hp h hi he hr g=>
  refine .cons p i x ks (by omega) (fun j h3 h4=>?_) hi he hr g;by_cases hp:j=p
  ·subst hp;exact e
  ·exact h j (by omega) h4
theorem Ej {l:List Int} (h:∀ x,x ∈ l→Bo x) (i:Nat):Bo (l.getD i 0):=by
 rw[List.getD_eq_getElem?_getD];cases e:l[i]? with
 |none=>exact⟨by simp,by simp⟩
 |some z=>exact h z (List.mem_of_getElem? e)
theorem ff {a b:T} (ha:∀ x,x ∈ a.words→Bo x) (hb:∀ x,x ∈ b.words→Bo x):∀ (n p:Nat),p+n=max a.words.length b.words.length→K9 a.words b.words p ((List.range' p n).filterMap fun i=>if DL (a.words.getD i 0) (b.words.getD i 0)=0 then none else some (Wa i (a.words.getD i 0) (b.words.getD i 0)))
 |0,p,h=>by
  refine .nil p fun i hi=>?_;rw[List.getD_eq_getElem?_getD,List.getD_eq_getElem?_getD,List.getElem?_eq_none (by omega),List.getElem?_eq_none (by omega)]
 |n+1,p,h=>by
  have ih:=ff ha hb n (p+1) (by omega);have ua:=Ej ha p;have ub:=Ej hb p;have ui:=Ws (a.words.getD p 0) (b.words.getD p 0);rw[List.range'_succ,List.filterMap_cons];by_cases c:DL (a.words.getD p 0) (b.words.getD p 0)=0
  ·rw[if_pos c];exact me ih ((Tl ua ub).1 c)
  ·rw[if_neg c];exact .cons p p _ _ _ _ (Cj _) (fun j h1 h2=>by omega) (by omega) ⟨by omega,ui.2⟩ rfl rfl (eV ub) (by rw[g9];exact eV ua) ih
theorem dL {f:Nat} {one:T→T→E} {a b:T} (hone:∀ i,Ld f (one (a.kids.getD i T0) (b.kids.getD i T0)) (a.kids.getD i T0) (b.kids.getD i T0)):∀ (n p:Nat),p+n=max a.kids.length b.kids.length→Uf (Ld f) a.kids b.kids p ((List.range' p n).filterMap fun i=>if (one (a.kids.getD i T0) (b.kids.getD i T0)).kind=0 then none else some (.mk i (one (a.kids.getD i T0) (b.kids.getD i T0))))
 |0,p,h=>by
  refine .nil p fun i hi=>?_;rw[List.getD_eq_getElem?_getD,List.getD_eq_getElem?_getD,List.getElem?_eq_none (by omega),List.getElem?_eq_none (by omega)]
 |n+1,p,h=>by
  have ih:=dL hone n (p+1) (by omega);rw[List.range'_succ,List.filterMap_cons];by_cases c:(one (a.kids.getD p T0) (b.kids.getD p T0)).kind=0
  ·rw[if_pos c];exact mC ih (kf (hone p) c).2
  ·rw[if_neg c];exact .cons p p _ _ (Cj _) (fun j h1 h2=>by omega) (by omega) c (hone p) ih
def NW:Nat→T→Prop
 |0,_=>True
 |f+1,t=>(2≤t.kind→t.kind≤9→t.words=[])∧∀ k,k ∈ t.kids→NW f k
theorem Ac4:∀ f,NW f T0
 |0=>trivial
 |f+1=>⟨fun _ _=>rfl,fun k hk=>by simp at hk⟩
theorem eO {f:Nat} {t:T} (h:NW (f+1) t) (i:Nat):NW f (t.kids.getD i T0):=by
 rw[List.getD_eq_getElem?_getD];cases e:t.kids[i]? with
 |none=>exact Ac4 f
 |some z=>exact h.2 z (List.mem_of_getElem? e)
theorem IE:∀ (f d:Nat) (t:T),Cr d t=true→NW f t
 |0,d,t,_=>trivial
 |f+1,d,t,h=>by
  obtain⟨k,w,l⟩:=t;refine⟨fun h2 h9=>?_,fun x hx=>IE f (d-1) x (M7 h x hx).1⟩;have h2:2≤k:=h2;have h9:k≤9:=h9;rw[Em,if_neg (by omega),if_neg (by omega)] at h;split at h
  ·cases h
  ·rename_i hb;unfold FT at hb;simp at hb;exact hb.2 (by omega)
theorem W4 (most:Int):∀ (f g:Nat) (a b:T),Rs f a→Rs g b→NW f a→NW f b→Ld f (DP most f a b) a b
 |0,g,a,b,ha,hb,na,nb=>by
  rw[DP];split
  ·rename_i h;exact .inl ⟨rfl,eqT_iff.1 h⟩
  ·exact .inr ⟨a,b,rfl,rfl,rfl⟩
 |f+1,g,a,b,ha,hb,na,nb=>by
  obtain⟨a1,a2,a3,a4⟩:=AV ha;obtain⟨b1,b2,b3,b4⟩:=AV hb;rw[DP];split
  ·rename_i h;exact .inl (.inl ⟨rfl,eqT_iff.1 h⟩)
  ·split
   ·rename_i h;refine .inr (.inl ⟨_,_,rfl,h.1,h.2,?_,?_⟩)
    ·have:=ff (a:=a) (b:=b) (wfT_iff.1 a1).w (wfT_iff.1 b1).w (max a.words.length b.words.length) 0 (by omega);rw[← List.range_eq_range'] at this;exact this
    ·have:=dL (a:=a) (b:=b) (fun i=>W4 most f (g-1) _ _ (JI ha i) (JI hb i) (eO na i) (eO nb i)) (max a.kids.length b.kids.length) 0 (by omega);rw[← List.range_eq_range'] at this;exact this
   ·split
    ·rename_i h;rw[Pd];exact .inr (.inr ⟨_,rfl,h.1.symm,h.2,⟨na.1 h.2.1 h.2.2,nb.1 (by omega) (by omega)⟩,dV fun x hx y hy=>W4 most f (g-1) x y (BI ha x hx) (BI hb y hy) (na.2 x hx) (nb.2 y hy)⟩)
    ·exact .inl (.inr ⟨a,b,rfl,rfl,rfl⟩)
theorem eP {f:Nat} {e:E} {x y:T} {l:Int} (h:Ld f e x y) (hi:HJ l e=true):Ag x=Ag y:=by
 have base:lx e x y→Ag x=Ag y:=fun h=>by
  rcases h with h | ⟨o,n,rfl,_⟩
  ·exact h.2
  ·unfold HJ at hi;simp at hi
 cases f with
 |zero=>exact base h
 |succ f=>
  rcases h with h | ⟨ws,ks,rfl,h1,h2,h3,h4⟩ | ⟨os,rfl,_⟩
  ·exact base h
  ·unfold HJ at hi;simp at hi;obtain⟨⟨_,rfl⟩,rfl⟩:=hi;cases h3 with
   |nil _ g3=>
    cases h4 with
    |nil _ g4=>
     obtain⟨k,w,c⟩:=x;obtain⟨k',w',c'⟩:=y;simp only[T.kind_mk] at h1 h2;subst h1;subst h2;exact struct_eq.2 ⟨fun i=>g3 i (by omega),fun i=>g4 i (by omega)⟩
  ·unfold HJ at hi;simp at hi
section
variable {R:E→T→T→Prop}
theorem Lv {out:List OP} {a b a2 b2 g d:List T} (h:LdO R out a b) (hg:g.map Ag=a2.map Ag) (hd:d.map Ag=b2.map Ag):LdO R (Rz out g d) (a++a2) (b++b2):=by
 unfold Rz;have:=FL h (FL (OV (R:=R) hg) (PF hd));simpa using this
theorem Xg {out:List OP} {a b l m:List T} (h:LdO R out a b) (hne:l ≠ []) (hl:l.map Ag=m.map Ag) (hb:a.length+l.length≤1000000000):LdO R (RH out (l.length:Nat)) (a++l) (b++m):=by
 rcases List.eq_nil_or_concat out with rfl | ⟨D,x,rfl⟩
 ·cases h;have:=LdO.keep (R:=R) l m hne hl .nil;rw[nX (by simp)];simpa using this
 ·rw[List.concat_eq_append] at h ⊢;have app:(∀ m l e,x ≠ .mk 0 m l e)→LdO R (RH (D++[x]) (l.length:Nat)) (a++l) (b++m):=fun hx=>by
   rw[nX (by simpa using hx)];have:=FL h (LdO.keep (R:=R) l m hne hl .nil);simpa using this
  obtain⟨a1,a2,b1,b2,rfl,rfl,h1,h2⟩:=J8 h;cases h2 with
  |keep l1 m1 hne1 hl1 g=>
   cases g;have e:RH (D++[OP.mk 0 ((l1.length:Nat):Int) [] E0]) (l.length:Nat)=D++[.mk 0 (((l1++l).length:Nat):Int) [] E0]:=by
    unfold RH;rw[List.getLast?_concat];simp only[List.dropLast_concat];have:i64.wrap (((l1.length:Nat):Int)+(l.length:Nat))=(((l1++l).length:Nat):Int):=by
     simp only[List.length_append] at hb ⊢;rw[Bf (by omega) (by omega)];omega
    rw[this]
   rw[e];have:=FL h1 (LdO.keep (R:=R) (l1++l) (m1++m) (by simp[hne1]) (by simp[hl1,hl]) .nil);simpa using this
  |del l1 m1 hne1 hl1 g=>exact app (by simp)
  |ins l1 m1 hne1 hl1 g=>exact app (by simp)
  |desc e x y r g=>exact app (by simp)
end
theorem AcB {f:Nat} {list:Int} {P:T→Prop} (hR:∀ e x y,P x→Ld f e x y→Ld f (JP e) x y) {os:List OP} {a3 b3:List T} (h:LdO (Ld f) os a3 b3):(∀ t,t ∈ a3→P t)→∀ (out:List OP) (g d a1 b1 a2 b2:List T),LdO (Ld f) out a1 b1→g.map Ag=a2.map Ag→d.map Ag=b2.map Ag→a1.length+a2.length+a3.length≤1000000000→LdO (Ld f) (FI list (os.map Mo) out g d) (a1++(a2++a3)) (b1++(b2++b3)):=by
 induction h with
 |nil=>
  intro hP out g d a1 b1 a2 b2 h1 hg hd hb;rw[List.map_nil,FI];simpa using Lv h1 hg hd
 |keep l m hne hl _ ih=>
  intro hP out g d a1 b1 a2 b2 h1 hg hd hb;rw[List.length_append] at hb;rw[List.map_cons,FI,if_pos (show(Mo (.mk 0 ((l.length:Nat):Int) [] E0)).kind=0 from rfl)];have:=ih (fun t ht=>hP t (List.mem_append_right _ ht)) (RH (Rz out g d) ((l.length:Nat):Int)) [] [] _ _ [] [] (Xg (Lv h1 hg hd) hne hl (by rw[List.length_append];omega)) rfl rfl (by simp only[List.length_append,List.length_nil];omega);simp at this ⊢;exact this
 |del l m hne hl _ ih=>
  intro hP out g d a1 b1 a2 b2 h1 hg hd hb;rw[List.length_append] at hb;rw[List.map_cons,FI,if_neg (show ¬ (Mo (.mk 1 0 l E0)).kind=0 by show ¬ (1:Int)=0;decide),if_pos (show(Mo (.mk 1 0 l E0)).kind=1 from rfl)];have:=ih (fun t ht=>hP t (List.mem_append_right _ ht)) out (g++l.map Ag) d a1 b1 (a2++m) b2 h1 (by rw[List.map_append,List.map_append,JW,hg,hl]) hd (by rw[List.length_append];omega);simp at this ⊢;exact this
 |ins l m hne hl _ ih=>
  intro hP out g d a1 b1 a2 b2 h1 hg hd hb;rw[List.map_cons,FI,if_neg (show ¬ (Mo (.mk 2 0 l E0)).kind=0 by show ¬ (2:Int)=0;decide),if_neg (show ¬ (Mo (.mk 2 0 l E0)).kind=1 by show ¬ (2:Int)=1;decide),if_pos (show(Mo (.mk 2 0 l E0)).kind=2 from rfl)];have:=ih hP out g (d++l.map Ag) a1 b1 a2 (b2++m) h1 hg (by rw[List.map_append,List.map_append,JW,hd,hl]) (by omega);simp at this ⊢;exact this
 |desc e x y r _ ih=>
  intro hP out g d a1 b1 a2 b2 h1 hg hd hb;rw[List.length_cons] at hb;rw[List.map_cons,FI,if_neg (show ¬ (Mo (.mk 3 0 [] e)).kind=0 by show ¬ (3:Int)=0;decide),if_neg (show ¬ (Mo (.mk 3 0 [] e)).kind=1 by show ¬ (3:Int)=1;decide),if_neg (show ¬ (Mo (.mk 3 0 [] e)).kind=2 by show ¬ (3:Int)=2;decide)];have r':=hR e x y (hP x (by simp)) r;split
  ·rename_i hi;have hn:=eP r' (show HJ list (JP e)=true from hi);have:=ih (fun t ht=>hP t (List.mem_cons_of_mem _ ht)) (RH (Rz out g d) (([x]:List T).length:Nat)) [] [] _ _ [] [] (Xg (l:=[x]) (m:=[y]) (Lv h1 hg hd) (by simp) (by simp[hn]) (by rw[List.length_append];simp;omega)) rfl rfl (by simp only[List.length_append,List.length_nil,List.length_cons];omega);simp at this ⊢;exact this
  ·have:=ih (fun t ht=>hP t (List.mem_cons_of_mem _ ht)) (Rz out g d++[.mk 3 0 [] (JP e)]) [] [] _ _ [] [] (FL (Lv h1 hg hd) (.desc (JP e) x y r' .nil)) rfl rfl (by simp only[List.length_append,List.length_nil,List.length_cons];omega);simp at this ⊢;exact this
def YO:Nat→T→Prop
 |0,_=>True
 |f+1,t=>t.kids.length≤1000000∧∀ k,k ∈ t.kids→YO f k
theorem pv:∀ f,YO f T0
 |0=>trivial
 |f+1=>⟨by simp,fun k hk=>by simp at hk⟩
theorem r6 {f:Nat} {t:T} (h:YO (f+1) t) (i:Nat):YO f (t.kids.getD i T0):=by
 rw[List.getD_eq_getElem?_getD];cases e:t.kids[i]? with
 |none=>exact pv f
 |some z=>exact h.2 z (List.mem_of_getElem? e)
theorem Zp {f:Nat} {e:E} {a b:T} (h:Ld f e a b):(JP e).kind=e.kind:=by
 have base:lx e a b→(JP e).kind=e.kind:=fun h=>by
  rcases h with ⟨rfl,_⟩ | ⟨o,n,rfl,_⟩
  ·rw[Qh]
  ·rw[GZ,if_pos rfl];rfl
 cases f with
 |zero=>exact base h
 |succ f=>
  rcases h with h | ⟨ws,ks,rfl,_⟩ | ⟨os,rfl,_⟩
  ·exact base h
  ·rw[GZ,if_neg (by decide),if_pos rfl];rfl
  ·rw[GZ,if_neg (by decide),if_neg (by decide),if_pos rfl];rfl
theorem pq {R R':E→T→T→Prop} {a b:List T} (hR:∀ e i,R e (a.getD i T0) (b.getD i T0)→R' (JP e) (a.getD i T0) (b.getD i T0)∧(JP e).kind=e.kind):∀ {ks:List KE} {p:Nat},Uf R a b p ks→Uf R' a b p (ks.map Ui):=by
 intro ks p h;induction h with
 |nil p h=>exact .nil p h
 |cons p i e ks hp h hi he hr _ ih=>
  have:=hR e i hr;exact .cons p i (JP e) _ hp h hi (by rw[this.2];exact he) this.1 ih
theorem j4:∀ (f:Nat) (e:E) (a b:T),YO f a→Ld f e a b→Ld f (JP e) a b:=by
 have base:∀ {e a b},lx e a b→lx (JP e) a b:=fun {e a b} h=>by
  rcases h with ⟨rfl,h⟩ | ⟨o,n,rfl,h1,h2⟩
  ·rw[Qh];exact .inl ⟨rfl,h⟩
  ·rw[GZ,if_pos rfl];exact .inr ⟨Ag o,Ag n,rfl,by rw[Es];exact h1,by rw[Es];exact h2⟩
 intro f;induction f with
 |zero=>exact fun e a b _ h=>base h
 |succ f ih=>
  intro e a b hF h;rcases h with h | ⟨ws,ks,rfl,h1,h2,h3,h4⟩ | ⟨os,rfl,h1,h2,hw,h3⟩
  ·exact .inl (base h)
  ·rw[GZ,if_neg (by decide),if_pos rfl];exact .inr (.inl ⟨ws,ks.map Ui,rfl,h1,h2,h3,pq (fun e i r=>⟨ih e _ _ (r6 hF i) r,Zp r⟩) h4⟩)
  ·rw[GZ,if_neg (by decide),if_neg (by decide),if_pos rfl];refine .inr (.inr ⟨_,rfl,h1,h2,hw,?_⟩);have:=AcB (list:=a.kind) (P:=YO f) (fun e x y hx r=>ih e x y hx r) h3 hF.2 [] [] [] [] [] [] [] .nil rfl rfl (by have:=hF.1;simp;omega);simpa using this
theorem s8 {a b:T} (ha:AK a) (hb:AK b) (pa:Bc a≤1000) (pb:Bc b≤1000) {da db:Nat} (ra:Cr da a=true) (rb:Cr db b=true) {most:Int}:Ld 1000 (VJ most a b) (Ag a) (Ag b):=by
 have oa:=Ee a ha pa 1000 pa;have ob:=Ee b hb pb 1000 pb;refine j4 1000 _ _ _ ?_ (W4 most 1000 1000 _ _ oa ob (IE 1000 da _ (GU a da ra)) (IE 1000 db _ (GU b db rb)));have key:∀ (f g:Nat) (t:T),Rs g t→YO f t:=fun f=>by
  induction f with
  |zero=>exact fun g t _=>trivial
  |succ f ih=>exact fun g t h=>⟨by have:=(AV h).2.2.2;omega,fun k hk=>ih (g-1) k (BI h k hk)⟩
 exact key 1000 1000 _ oa
end Go.Proofs.YtndnlknocdangaaGreat
namespace Go.Proofs.YtndnlknocdangaaGreat
set_option maxRecDepth 20000
open Go Go.G Go.Proofs
def BA:CC:=sR [aN 2] [0] (sQ [mO 3 0,oO 4 (.binOp .eql 23 (xT 3) nS 23)] [0,4] (cD 4 (sR [aN 2] [2] (.ret)) (.skip)) [0] (sR [oO 5 (.buildSlice 23 0 #[]),mO 6 0,aP 7 5 6 23 23 [0],aO 2 7] [2] (.ret)))
theorem Ca:BU Tryz.prog 125 8 [(.tmp 2)] BA:=AH Tryz.func125
def Ak:CC:=sR [bB .lss 18 3 17 16 3] [1,2,15,16,17,18] (.seq (cD 18 (.skip) (.exit 0)) (.keep [1,2,15,16,17] (.seq (.block 1 (sR [mO 19 17,iO 20 23 15 17,lO 21 25 20,aL 8 25 [0],aO 7 19,sT 25 8 21] [1,2,7,8,15,16,17] (sR [mO 22 1,mO 23 7,iO 24 23 22 23,lO 25 25 24,aL 9 25 [1],sT 25 9 25] [1,2,8,9,15,16,17] (sR [mO 26 2,lO 27 25 8,lO 28 25 9,oO 29 (.call { callee:=(.value (xT 26)),args:=#[(xT 27),(xT 28)],argTypes:=#[25,25] }),oO 30 (.unOp .not 4 (xT 29))] [1,2,15,16,17,30] (cD 30 (sR [aB 6 false] [6] (.ret)) (.skip)))))) (.keep [1,2,15,16,17] (.reg [bQ .add 31 3 17 1 3,mO 17 31] [1,2,15,16,17]))))) 
def AM:CC:=sR [aB 6 false] [0,1,2] (sQ [mO 10 0,bN 11 10 23,mO 12 1,bN 13 12 23,bB .neq 14 3 11 13 3] [0,1,2,14] (cD 14 (sR [aB 6 false] [6] (.ret)) (.skip)) [0,1,2] (sQ [mO 15 0,bN 16 15 23,oO 17 (.move (nI 0))] [1,2,15,16,17] (.block 0 (.loop Ak)) [] (sR [aB 6 true] [6] (.ret))))
theorem Bp:BU Tryz.prog 127 32 [(.tmp 6)] AM:=AH Tryz.func127
def HF:CC:=sR [bX 2 30 0 [0],bX 3 25 1 [1],aL 4 25 [2],aB 5 false] [2,3,4] (sQ [fO 6 30 2 0,lO 7 3 6] [2,3,4,7] (.block 0 (sR [bQ .eql 9 3 7 0 3,aO 8 9] [2,3,4,7,8] (cD 8 (sR [lO 10 25 3,sT 25 4 10,aB 5 true] [4,5] (.ret)) (sR [bQ .eql 12 3 7 1 3,aO 11 12] [2,3,4,7,11] (cD 11 (sR [fO 13 30 2 2,lS 14 25 13 1,fO 15 30 2 1,lO 16 25 15,lO 17 25 3,⟨some 18,(cL 57 #[(xT 16),(xT 17)] #[25,25]),none,[],5,[1],false⟩,sT 25 4 14,aO 5 18] [4,5] (.ret)) (sR [bQ .eql 20 3 7 2 3,aO 19 20] [2,3,4,7,19] (cD 19 (sR [lO 21 30 2,lO 22 25 3,cB 23 79 21 22 30 25,xO 24 23 0,xO 25 23 1,sT 25 4 24,aO 5 25] [4,5] (.ret)) (sR [bQ .eql 27 3 7 3 3,aO 26 27] [2,3,4,26] (cD 26 (sR [lO 28 30 2,lO 29 25 3,cB 30 80 28 29 30 25,xO 31 30 0,xO 32 30 1,sT 25 4 31,aO 5 32] [4,5] (.ret)) (.skip)))))))))) [4] (sR [oO 33 (.build 25 #[]),sT 25 4 33,aB 5 false] [4,5] (.ret)))
theorem Jq:BU Tryz.prog 47 34 [(.cell 4 25),(.tmp 5)] HF:=AH Tryz.func47
def D7:CC:=sQ [fO 44 25 6 1,lO 45 22 44,bN 46 45 22,fO 47 85 8 0,lO 48 3 47,bB .leq 49 3 46 48 3] [2,3,4,6,8,9,26,27,28,49] (cD 49 (.skip) (.exit 2)) [2,3,4,6,8,9,26,27,28] (.block 3 (.reg [fO 50 25 6 1,lO 51 22 50,oO 52 (.buildSlice 22 1 #[(0,(.const (.int .u64 0)))]),aP 53 51 52 22 22 [5],fO 54 25 6 1,sT 22 54 53] [2,3,4,6,8,9,26,27,28]))
def Ed:CC:=sR [bB .lss 29 3 28 27 3] [2,3,4,6,26,27,28,29] (.seq (cD 29 (.skip) (.exit 0)) (.keep [2,3,4,6,26,27,28] (.seq (.block 1 (sR [iO 30 26 26 28,lO 31 85 30,aL 8 85 [4],sT 85 8 31] [2,3,4,6,8,26,27,28] (sR [lO 32 25 3,fO 33 85 8 0,lO 34 3 33,cB 35 90 32 34 25 3,aO 9 35] [2,3,4,6,8,9,26,27,28] (sQ [mO 36 9,fO 37 85 8 1,lO 38 5 37,⟨some 39,(cL 126 #[(.const (.int .u64 0)),(xT 36),(xT 38)] #[61,61,5]),none,[],3,[],true⟩,fO 40 85 8 2,⟨some 41,(lD 61 40),none,[],5,[3],false⟩,bB .neq 42 61 39 41 61] [2,3,4,6,8,9,26,27,28,42] (cD 42 (sR [oO 43 (.build 25 #[]),sT 25 4 43,aB 5 false] [4,5] (.ret)) (.skip)) [2,3,4,6,8,9,26,27,28] (.seq (.block 2 (.loop D7)) (.keep [2,3,4,6,8,9,26,27,28] (.reg [fO 55 25 6 1,lS 56 22 55 1,fO 57 85 8 0,lS 58 3 57 3,mO 59 9,fO 60 85 8 3,lO 61 61 60,fO 62 85 8 1,lO 63 5 62,⟨some 64,(cL 126 #[(xT 59),(xT 61),(xT 63)] #[61,61,5]),none,[],9,[1,3],false⟩,iO 65 22 56 58,sT 61 65 64] [2,3,4,6,26,27,28]))))))) (.keep [2,3,4,6,26,27,28] (.reg [bQ .add 66 3 28 1 3,mO 28 66] [2,3,4,6,26,27,28])))))
def DX:CC:=sQ [fO 87 25 6 2,lO 88 23 87,bN 89 88 23,fO 90 88 11 0,lO 91 3 90,bB .leq 92 3 89 91 3] [3,4,6,11,12,68,69,70,92] (cD 92 (.skip) (.exit 6)) [3,4,6,11,12,68,69,70] (.block 7 (.reg [fO 93 25 6 2,lO 94 23 93,oO 95 (.build 25 #[]),oO 96 (.buildSlice 23 1 #[(0,(xT 95))]),aP 97 94 96 23 23 [8],fO 98 25 6 2,sT 23 98 97] [3,4,6,11,12,68,69,70]))
def D5:CC:=sR [bB .lss 71 3 70 69 3] [3,4,6,68,69,70,71] (.seq (cD 71 (.skip) (.exit 4)) (.keep [3,4,6,68,69,70] (.seq (.block 5 (sR [iO 72 27 68 70,lO 73 88 72,aL 11 88 [6],sT 88 11 73] [3,4,6,11,68,69,70] (sR [fO 75 88 11 1,lS 76 30 75 1,lS 77 25 3 2,fO 78 88 11 0,lS 79 3 78 4,⟨some 80,(cL 70 #[(xT 77),(xT 79)] #[25,3]),none,[],5,[1],true⟩,⟨some 81,(cL 47 #[(xT 76),(xT 80)] #[30,25]),none,[],6,[],true⟩,mO 74 81,xO 82 74 0,xO 83 74 1,⟨some 12,(.alloc 25),none,[7],10,[1,2,4,5,6],false⟩,sT 25 12 82,aO 13 83] [3,4,6,11,12,13,68,69,70] (sQ [mO 84 13,oO 85 (.unOp .not 4 (xT 84))] [3,4,6,11,12,68,69,70,85] (cD 85 (sR [oO 86 (.build 25 #[]),sT 25 4 86,aB 5 false] [4,5] (.ret)) (.skip)) [3,4,6,11,12,68,69,70] (.seq (.block 6 (.loop DX)) (.keep [3,4,6,11,12,68,69,70] (.reg [fO 99 25 6 2,lO 100 23 99,fO 101 88 11 0,lO 102 3 101,lO 103 25 12,iO 104 23 100 102,sT 25 104 103] [3,4,6,68,69,70]))))))) (.keep [3,4,6,68,69,70] (.reg [bQ .add 105 3 70 1 3,mO 70 105] [3,4,6,68,69,70]))))) 
def Jc:CC:=sR [bX 2 30 0 [0],bX 3 25 1 [1],aL 4 25 [2],aB 5 false] [2,3,4] (sQ [fO 14 25 3 0,lO 15 3 14,bQ .neq 16 3 15 1 3] [2,3,4,16] (cD 16 (sR [oO 17 (.build 25 #[]),sT 25 4 17,aB 5 false] [4,5] (.ret)) (.skip)) [2,3,4] (sR [fO 18 25 3 1,lS 19 22 18 1,⟨some 20,(cL 59 #[(xT 19)] #[22]),none,[],2,[],true⟩,fO 21 25 3 2,⟨some 22,(lD 23 21),none,[],4,[2],true⟩,⟨some 23,(cL 125 #[(xT 22)] #[23]),none,[],5,[],true⟩,oO 24 (.build 25 #[(0,(nI 1)),(1,(xT 20)),(2,(xT 23))]),⟨some 6,(.alloc 25),none,[3],7,[1,2,4,5],false⟩,sT 25 6 24] [2,3,4,6] (sQ [fO 25 30 2 3,lO 26 26 25,bN 27 26 26,oO 28 (.move (nI 0))] [2,3,4,6,26,27,28] (.block 0 (.loop Ed)) [2,3,4,6] (sQ [fO 67 30 2 4,lO 68 27 67,bN 69 68 27,oO 70 (.move (nI 0))] [3,4,6,68,69,70] (.block 4 (.loop D5)) [4,6] (sR [lO 106 25 6,sT 25 4 106,aB 5 true] [4,5] (.ret))))))
theorem Pr:BU Tryz.prog 79 107 [(.cell 4 25),(.tmp 5)] Jc:=AH Tryz.func79
def Hn:CC:=sQ [mO 51 10,mO 52 7,bN 53 52 23,bB .gtr 54 3 51 53 3] [4,6,7,9,10,26,27,28,54] (cD 54 (sR [oO 55 (.build 25 #[]),sT 25 4 55,aB 5 false] [4,5] (.ret)) (.skip)) [4,6,7,9,10,26,27,28] (sR [aN 11] [4,6,7,9,10,26,27,28] (sR [mO 56 7,mO 57 10,oO 58 (.slice 23 (xT 56) none (some (xT 57)) none),mO 59 7,mO 60 10,oO 61 (.slice 23 (xT 59) (some (xT 60)) none none),aO 11 58,aO 7 61] [4,6,7,9,11,26,27,28] (.block 3 (sR [fO 81 91 9 0,lO 82 3 81,bQ .eql 83 3 82 0 3,aO 80 83] [4,6,7,9,11,26,27,28,80] (cD 80 (.reg [fO 84 25 6 2,lO 85 23 84,mO 86 11,aP 87 85 86 23 23 [6],fO 88 25 6 2,sT 23 88 87] [4,6,7,26,27,28]) (sR [fO 90 91 9 0,lO 91 3 90,bQ .eql 92 3 91 1 3,aO 89 92] [4,6,7,9,11,26,27,28,89] (cD 89 (sR [fO 93 91 9 2,lO 94 23 93,mO 95 11,oO 96 (cL 127 #[(xT 94),(xT 95),(.func 57)] #[23,23,38]),oO 97 (.unOp .not 4 (xT 96))] [4,6,7,26,27,28,97] (cD 97 (sR [oO 98 (.build 25 #[]),sT 25 4 98,aB 5 false] [4,5] (.ret)) (.skip))) (sR [fO 63 91 9 3,lS 64 30 63 1,mO 65 11,oO 66 (.indexAddr 23 (xT 65) (nI 0)),lS 67 25 66 4,⟨some 68,(cL 47 #[(xT 64),(xT 67)] #[30,25]),none,[],5,[],true⟩,mO 62 68,xO 69 62 0,xO 70 62 1,⟨some 12,(.alloc 25),none,[7],9,[1,4,5],false⟩,sT 25 12 69,aO 13 70] [4,6,7,12,13,26,27,28] (sQ [mO 71 13,oO 72 (.unOp .not 4 (xT 71))] [4,6,7,12,26,27,28,72] (cD 72 (sR [oO 73 (.build 25 #[]),sT 25 4 73,aB 5 false] [4,5] (.ret)) (.skip)) [4,6,7,12,26,27,28] (.reg [fO 74 25 6 2,lO 75 23 74,lO 76 25 12,oO 77 (.buildSlice 23 1 #[(0,(xT 76))]),aP 78 75 77 23 23 [8],fO 79 25 6 2,sT 23 79 78] [4,6,7,26,27,28]))))))))))
def He:CC:=sR [bB .lss 29 3 28 27 3] [4,6,7,26,27,28,29] (.seq (cD 29 (.skip) (.exit 0)) (.keep [4,6,7,26,27,28] (.seq (.block 1 (sR [iO 30 28 26 28,lO 31 91 30,aL 9 91 [4],sT 91 9 31] [4,6,7,9,26,27,28] (sR [fO 32 91 9 1,lO 33 3 32,aO 10 33] [4,6,7,9,10,26,27,28] (sQ [fO 34 91 9 0,lO 35 3 34] [4,6,7,9,10,26,27,28,35] (.block 2 (sR [bQ .eql 37 3 35 2 3,aO 36 37] [4,6,7,9,10,26,27,28,35,36] (cD 36 (sR [fO 38 25 6 2,lO 39 23 38,fO 40 91 9 2,lO 41 23 40,aP 42 39 41 23 23 [5],fO 43 25 6 2,sT 23 43 42] [4,6,7,26,27,28] (.exit 1)) (sR [bQ .eql 45 3 35 1 3,aO 44 45] [4,6,7,9,10,26,27,28,35,44] (cD 44 (.reg [fO 46 91 9 2,lO 47 23 46,bN 48 47 23,aO 10 48] [4,6,7,9,10,26,27,28]) (sR [bQ .eql 50 3 35 3 3,aO 49 50] [4,6,7,9,10,26,27,28,49] (cD 49 (.reg [aI 10 1] [4,6,7,9,10,26,27,28]) (.skip)))))))) [4,6,7,9,10,26,27,28] Hn)))) (.keep [4,6,7,26,27,28] (.reg [bQ .add 99 3 28 1 3,mO 28 99] [4,6,7,26,27,28]))))) 
def OQ:CC:=sR [bX 2 30 0 [0],bX 3 25 1 [1],aL 4 25 [2],aB 5 false] [2,3,4] (sQ [fO 14 25 3 0,lO 15 3 14,fO 16 30 2 5,lO 17 3 16,bB .neq 18 3 15 17 3] [2,3,4,18] (cD 18 (sR [oO 19 (.build 25 #[]),sT 25 4 19,aB 5 false] [4,5] (.ret)) (.skip)) [2,3,4] (sR [fO 20 25 3 0,lO 21 3 20,oO 22 (.build 25 #[(0,(xT 21))]),aL 6 25 [3],sT 25 6 22] [2,3,4,6] (sR [fO 23 25 3 2,lO 24 23 23,aO 7 24] [2,4,6,7] (sQ [fO 25 30 2 6,lO 26 28 25,bN 27 26 28,oO 28 (.move (nI 0))] [4,6,7,26,27,28] (.block 0 (.loop He)) [4,6,7] (sR [lO 100 25 6,mO 101 7,bN 102 101 23,bQ .eql 103 3 102 0 3,sT 25 4 100,aO 5 103] [4,5] (.ret))))))
theorem XF:BU Tryz.prog 80 104 [(.cell 4 25),(.tmp 5)] OQ:=AH Tryz.func80
def PJ:CC:=sR [bX 2 30 0 [0],bX 3 25 1 [1],aL 4 25 [2],aB 5 false] [2,3,4] (sR [lO 9 30 2,lO 10 25 3,cB 11 47 9 10 30 25,mO 8 11,xO 12 8 0,xO 13 8 1,aL 6 25 [3],sT 25 6 12,aO 7 13] [4,6,7] (sQ [mO 14 7,oO 15 (.unOp .not 4 (xT 14))] [4,6,15] (cD 15 (sR [oO 16 (.build 25 #[]),sT 25 4 16,aB 5 false] [4,5] (.ret)) (.skip)) [4,6] (sR [lO 17 25 6,cA 18 35 17 25,sT 25 4 18,aB 5 true] [4,5] (.ret))))
theorem WN:BU Tryz.prog 27 19 [(.cell 4 25),(.tmp 5)] PJ:=AH Tryz.func27
end Go.Proofs.YtndnlknocdangaaGreat
namespace Go.Proofs.YtndnlknocdangaaGreat
open Go Go.G Go.Proofs Go.PL
theorem qc {l:List Int}:∀ x,x ∈ l.map uv→EH (fun _=>x):=fun x hx=>by
 obtain⟨n,_,rfl⟩:=List.mem_map.1 hx;exact AB
abbrev uvM (u:Nat) (l:List Int):Fam:=xb u 1 (l.map uv) qc
variable {n0:Nat} {w0:World} {I0:Nat→Prop} {M0:Nm→Nat→Prop} {m0:Mu} {Q:Exit→Sta→Prop}
end Go.Proofs.YtndnlknocdangaaGreat
namespace Go.G
open Go
theorem VZ {P:Program} {f:FuncId} {k:Nat} {fl:Bool} {r:A} {Hc Hr:Hp} (h1:∀ cap,SpecH P f k [.v (.slice none 0 cap)] Hc r Hr) (h2:∀ a cap,SpecH P f k [.v (.slice (some a) 0 cap)] Hc r Hr):SpecH P f k [.sl fl []] Hc r Hr:=by
 refine⟨(h1 0).1,fun w I M0 n μ vs hM hs hl hr=>?_⟩;have h:=hr 0 _ rfl;have go:∀ x,vs.getD 0 undef=x→∀ (k:Nat) (y:A),[A.v x][k]? = some y→Rel w I μ y (vs.getD k undef):=fun x hx k y hk=>by
  cases k with
  |zero=>cases hk;rw[hx];exact .v _ _
  |succ k=>simp at hk
 generalize hq:vs.getD 0 undef=x at h;cases h with
 |slN _ _ a cap _=>
  cases a with
  |none=>exact(h1 cap).2 w I M0 n μ vs hM hs hl (go _ hq)
  |some a=>exact(h2 a cap).2 w I M0 n μ vs hM hs hl (go _ hq)
 |sl _ _ b off n0 cap sz _ g k1 k2=>
  have:n0=0:=k2;subst this;exact(h2 _ cap).2 w I M0 n μ vs hM hs hl (go _ hq)
end Go.G
namespace Go.Proofs.YtndnlknocdangaaGreat
open Go Go.G Go.Proofs Go.PL
theorem QK (l:List Int) (h:l.length*8≤140737488355328):SpecF Tryz.prog 59 (fun _=>[DN l]) Fam.no (fun r=>.osl [r] 1 1 0 l.length) (uvM 1 l):=by
 cases l with
 |nil=>
  refine⟨Ae Ba Ah,C7,VZ (fun cap=>?_) (fun a cap=>?_)⟩
  ·refine @SpecF.h _ _ (fun _=>[.v (.slice none 0 cap)]) Fam.no (fun r=>.osl [r] 1 1 0 0) (uvM 1 []) (Aq A8 (by simp) (Ae AB Ah) C7 fun w0 I0 M0 m0=>?_);unfold AN;simp;refine H5 (FF 2 [0] 1 (by simp)) (Ax (r0:=.osl [0] 1 1 0 0) (by simp[upd]) rfl fun p=>?_);by_cases hp:p=[]
   ·subst hp;simp[Aa]
   ·simp[Aa,hp]
  ·refine @SpecF.h _ _ (fun _=>[.v (.slice (some a) 0 cap)]) Fam.no (fun r=>.osl [r] 1 1 0 0) (uvM 1 []) (Aq A8 (by simp) (Ae AB Ah) C7 fun w0 I0 M0 m0=>?_);unfold AN;simp;refine Ax rfl rfl fun p=>?_;by_cases hp:p=[]
   ·subst hp;simp[Aa]
   ·simp[Aa,hp,Ne.symm hp]
 |cons x l=>
  refine Aq A8 (by simp) (Ae Ba Ah) C7 fun w0 I0 M0 m0=>?_;unfold AN;rw[List.length_cons] at h;simp[h,DN];refine Ax rfl rfl fun p=>?_;by_cases hp:p=[]
  ·subst hp;simp[Aa]
  ·simp[Aa,hp,Ne.symm hp]
theorem Zg (l:List T) (h:l.length*56≤140737488355328):SpecF Tryz.prog 125 (fun _=>[BG l]) Fam.no (fun r=>.osl [r] 1 3 0 l.length) (trM 1 l):=by
 cases l with
 |nil=>
  refine⟨Ae Ba Ah,C7,VZ (fun cap=>?_) (fun a cap=>?_)⟩
  ·refine @SpecF.h _ _ (fun _=>[.v (.slice none 0 cap)]) Fam.no (fun r=>.osl [r] 1 3 0 0) (trM 1 []) (Aq Ca (by simp) (Ae AB Ah) C7 fun w0 I0 M0 m0=>?_);unfold BA;simp;refine H5 (FF 2 [0] 3 (by simp)) (Ax (r0:=.osl [0] 1 3 0 0) (by simp[upd]) rfl fun p=>?_);by_cases hp:p=[]
   ·subst hp;simp[Aa]
   ·simp[Aa,hp]
  ·refine @SpecF.h _ _ (fun _=>[.v (.slice (some a) 0 cap)]) Fam.no (fun r=>.osl [r] 1 3 0 0) (trM 1 []) (Aq Ca (by simp) (Ae AB Ah) C7 fun w0 I0 M0 m0=>?_);unfold BA;simp;refine Ax rfl rfl fun p=>?_;by_cases hp:p=[]
   ·subst hp;simp[Aa]
   ·simp[Aa,hp,Ne.symm hp]
 |cons x l=>
  refine Aq Ca (by simp) (Ae Ba Ah) C7 fun w0 I0 M0 m0=>?_;unfold BA;rw[List.length_cons] at h;simp[h,BG];refine Ax rfl rfl fun p=>?_;by_cases hp:p=[]
  ·subst hp;simp[Aa]
  ·simp[Aa,hp,Ne.symm hp]
variable {n0:Nat} {w0:World} {I0:Nat→Prop} {Q:Exit→Sta→Prop}
theorem xd {l m:List T} (hl:∀ t,t ∈ l→AK t) (hm:∀ t,t ∈ m→AK t) (h:l.map Ag=m.map Ag) (hb:l.length≤10000000000000) (hq:∀ st H,Q (.exit 0) ⟨lk ([(1,BG m),(2,.fnc 57 [] [])]++st),H⟩):∀ (j i:Nat) (H:Hp),i+j=l.length →
  LoopC (cx Tryz.prog w0 I0 n0) Ak Q ⟨lk [(1,BG m),(2,.fnc 57 [] []),(15,BG l),(16,iv l.length),(17,iv i)],H⟩:=by
 have hlen:l.length=m.length:=by simpa using congrArg List.length h
 intro j;induction j with
 |zero=>
  intro i H hj;have:i=l.length:=by omega
  subst this;refine Ab Ai Ak.eq_1 ?_;simp;have:=hq [(15,BG l),(16,iv l.length),(17,iv l.length),(18,bv false)] H;simpa using this
 |succ j ih=>
  intro i H hj;have h1:i<l.length:=by omega
  have h2:i<m.length:=by omega
  have ew:=AW i;have he:Kd l[i] m[i]=true:=by
   rw[eqT_iff];have:(l.map Ag)[i]? = (m.map Ag)[i]?:=by rw[h]
   simpa[h1,h2] using this
  have E:=Iw (hl _ (C5 h1)) (hm _ (C5 h2));rw[he] at E;refine Ab Ai Ak.eq_1 ?_;simp[h1,h2,Aa];refine LI rfl E (by simp) ?_;simp[ew];exact ih (i+1) _ (by omega)
theorem m5 {l m:List T} (hl:∀ t,t ∈ l→AK t) (hm:∀ t,t ∈ m→AK t) (h:l.map Ag=m.map Ag) (hb:l.length≤10000000000000):G.Spec Tryz.prog 127 [BG l,BG m,.fnc 57 [] []] (bv true):=by
 have hlen:l.length=m.length:=by simpa using congrArg List.length h
 refine Al Bp (by simp) fun w0 I0=>?_;unfold AM;simp[hlen];refine LoopC.le (Ao [(1,BG m),(2,.fnc 57 [] []),(15,BG l),(16,iv l.length),(17,iv (0:Nat))] (by simp[hlen])) ?_;refine xd hl hm h hb (fun st H=>?_) l.length 0 _ (by omega);simp;exact Ad rfl
inductive iG (P:E→T→T→Prop):List OP→List T→List T→Prop
 |nil:iG P [] [] []
 |keep {os:List OP} {a u:List T} (l:List T) (g:iG P os a u):iG P (.mk 0 (l.length:Nat) [] E0::os) (l++a) (l++u)
 |del {os:List OP} {a u:List T} (l m:List T) (h:l.map Ag=m.map Ag) (g:iG P os a u):iG P (.mk 1 0 l E0::os) (m++a) u
 |ins {os:List OP} {a u:List T} (l:List T) (g:iG P os a u):iG P (.mk 2 0 l E0::os) a (l++u)
 |desc {os:List OP} {a u:List T} (e:E) (x y:T) (h:P e x y) (g:iG P os a u):iG P (.mk 3 0 [] e::os) (x::a) (y::u)
theorem uU {R P:E→T→T→Prop} {os:List OP} {a b:List T} (h:LdO R os a b):(∀ o,o ∈ os→o.kind=3→∀ x,x ∈ a→∀ y,y ∈ b→R o.e x y→∃ u,P o.e x u∧Ag u=Ag y)→∃ u,iG P os a u∧u.map Ag=b.map Ag:=by
 induction h with
 |nil=>exact fun _=>⟨[],.nil,rfl⟩
 |keep l m hne hl _ ih=>
  intro hP;obtain⟨u,h1,h2⟩:=ih fun o ho hk x hx y hy=>hP o (List.mem_cons_of_mem _ ho) hk x (List.mem_append_right _ hx) y (List.mem_append_right _ hy);exact⟨l++u,.keep l h1,by rw[List.map_append,List.map_append,hl,h2]⟩
 |del l m hne hl _ ih=>
  intro hP;obtain⟨u,h1,h2⟩:=ih fun o ho hk x hx y hy=>hP o (List.mem_cons_of_mem _ ho) hk x (List.mem_append_right _ hx) y hy;exact⟨u,.del l m hl h1,h2⟩
 |ins l m hne hl _ ih=>
  intro hP;obtain⟨u,h1,h2⟩:=ih fun o ho hk x hx y hy=>hP o (List.mem_cons_of_mem _ ho) hk x hx y (List.mem_append_right _ hy);exact⟨l++u,.ins l h1,by rw[List.map_append,List.map_append,hl,h2]⟩
 |desc e x y r _ ih=>
  intro hP;obtain⟨u,h1,h2⟩:=ih fun o ho hk x hx y hy=>hP o (List.mem_cons_of_mem _ ho) hk x (List.mem_cons_of_mem _ hx) y (List.mem_cons_of_mem _ hy);obtain⟨v,k1,k2⟩:=hP (.mk 3 0 [] e) (by simp) rfl x (by simp) y (by simp) r;exact⟨v::u,.desc e x v k1 h1,by rw[List.map_cons,List.map_cons,k2,h2]⟩
abbrev SC (e:E) (x u:T):Prop:=AK u∧G.Spec Tryz.prog 47 [eX e,tX x] (.tup [tX u,bv true])
theorem wF {os:List OP} {a u:List T} (h:iG SC os a u):(∀ t,t ∈ a→AK t)→(∀ o,o ∈ os→∀ t,t ∈ o.l→AK t)→∀ t,t ∈ u→AK t:=by
 induction h with
 |nil=>intro _ _ t ht;simp at ht
 |keep l _ ih=>
  intro ha ho t ht;rcases List.mem_append.1 ht with ht | ht
  ·exact ha t (List.mem_append_left _ ht)
  ·exact ih (fun t ht=>ha t (List.mem_append_right _ ht)) (fun o h=>ho o (List.mem_cons_of_mem _ h)) t ht
 |del l m _ _ ih=>
  intro ha ho t ht;exact ih (fun t ht=>ha t (List.mem_append_right _ ht)) (fun o h=>ho o (List.mem_cons_of_mem _ h)) t ht
 |ins l _ ih=>
  intro ha ho t ht;rcases List.mem_append.1 ht with ht | ht
  ·exact ho (.mk 2 0 l E0) (by simp) t ht
  ·exact ih ha (fun o h=>ho o (List.mem_cons_of_mem _ h)) t ht
 |desc e x y r _ ih=>
  intro ha ho t ht;rcases List.mem_cons.1 ht with rfl | ht
  ·exact r.1
  ·exact ih (fun t ht=>ha t (List.mem_cons_of_mem _ ht)) (fun o h=>ho o (List.mem_cons_of_mem _ h)) t ht
theorem AaO {k0:Int} {os:List OP} {R:List T} (hR:R.length≤1000000) (hol:os.length≤1000000000000) (how:∀ o,o ∈ os→∀ t,t ∈ o.l→AK t) (hos:∀ o,o ∈ os→o.l.length≤10000000000000)
  (hq:∀ (H':Hp) (v:Nat) (st:List (Nat × A)),H' [2]=⟨1,.cells [iv 0,.sl true [],.sl true []]⟩→H' [3]=⟨1,.cells [iv k0,.sl true [],.osl [5] v 3 0 R.length]⟩→H' [5]=⟨v,.arr 3 (R.map tA)⟩→Q (.exit 0) ⟨lk ([(4,.pob [2] 1 0),(6,.pob [3] 1 0),(7,BG [])]++st),H'⟩) :
  ∀ (m k v:Nat) (a u X:List T) (H:Hp),k+m=os.length→iG SC (os.drop k) a u→(∀ t,t ∈ a→AK t)→a.length≤1000000→R=X++u→H [2]=⟨1,.cells [iv 0,.sl true [],.sl true []]⟩→H [3]=⟨1,.cells [iv k0,.sl true [],.osl [5] v 3 0 X.length]⟩→H [5]=⟨v,.arr 3 (X.map tA)⟩ →
  LoopC (cx Tryz.prog w0 I0 n0) He Q ⟨lk [(4,.pob [2] 1 0),(6,.pob [3] 1 0),(7,BG a),(26,LO os),(27,iv os.length),(28,iv k)],H⟩:=by
 intro m;induction m with
 |zero=>
  intro k v a u X H hm h ha hal hX h2 h3 h5;have:k=os.length:=by omega
  subst this;rw[List.drop_length] at h;cases h;rw[List.append_nil] at hX;subst hX;refine Ab Ai He.eq_1 ?_;simp;have:=hq H v [(26,LO os),(27,iv os.length),(28,iv os.length),(29,bv false)] h2 h3 h5;simpa using this
 |succ m ih=>
  intro k v a u X H hm h ha hal hX h2 h3 h5;have hlt:k<os.length:=by omega
  have ew:=AW k;have hd:os.drop k=os[k]::os.drop (k+1):=(List.getElem_cons_drop hlt).symm;have hol1:=hos _ (C5 hlt);have how1:=how _ (C5 hlt);rw[hd] at h;have next:=ih (k+1) (v+1)
  generalize hx:os[k]=o at *;refine Ab Ai He.eq_1 ?_;have eX:List.take X.length (X.map tA)=X.map tA:=AX (by simp);cases h with
  |keep l g=>
   rename_i a u;have nx:=next a u (X++l)
   rw[List.length_append] at nx hal;have c1:(l.length:Int)≤(l.length:Int)+a.length:=by omega
   have c2:¬ ((l.length:Int)+a.length<(l.length:Int)):=by omega
   have hR2:R.length=X.length+(l.length+u.length):=by rw[hX];simp
   have ea:List.take a.length (a.map tA)=a.map tA:=AX (by simp);simp[hlt,hx,Aa,h3,h5];rw[Hn.eq_1];simp[hlt,hx,Aa,h3,h5,ew,c1,c2,eX,ea];refine⟨by omega,?_⟩;exact nx _ (by omega) g (fun t ht=>ha t (List.mem_append_right _ ht)) (by omega) (by rw[hX];simp) (by simp[Aa,h2]) (by simp[Aa]) (by simp[Aa])
  |del l mm hn g=>
   rename_i a;have hlen:l.length=mm.length:=by simpa using congrArg List.length hn
   have nx:=ih (k+1) v a u X;rw[List.length_append] at hal;have c1:(l.length:Int)≤(mm.length:Int)+a.length:=by omega
   have c2:¬ ((mm.length:Int)+a.length<(l.length:Int)):=by omega
   have ea:List.take a.length (a.map tA)=a.map tA:=AX (by simp);have et:List.take l.length (mm.map tA++a.map tA)=mm.map tA:=by rw[hlen];exact List.take_left' (by simp)
   have ed:List.drop l.length (mm.map tA++a.map tA)=a.map tA:=by rw[hlen];exact List.drop_left' (by simp)
   have eL:mm.length+a.length-l.length=a.length:=by omega
   have E:=m5 (l:=l) (m:=mm) (fun t ht=>how1 t ht) (fun t ht=>ha t (List.mem_append_left _ ht)) hn (by have:=hol1;show l.length≤_;have h':l.length≤10000000000000:=hol1;omega);simp[hlt,hx,Aa,h3,h5];rw[Hn.eq_1];simp[hlt,hx,Aa,h3,h5,ew,c1,c2,eX,ea,et,ed,eL];refine Af E (by simp) ?_;simp[ew];exact nx _ (by omega) g (fun t ht=>ha t (List.mem_append_right _ ht)) (by omega) hX (by simp[Aa,h2]) (by simp[Aa,h3]) (by simp[Aa,h5])
  |ins l g=>
   rename_i u;have nx:=next a u (X++l)
   rw[List.length_append] at nx;have hR2:R.length=X.length+(l.length+u.length):=by rw[hX];simp
   simp[hlt,hx,Aa,h3,h5,ew,eX];refine⟨by omega,?_⟩;simp[BR,ew];exact nx _ (by omega) g ha (by omega) (by rw[hX];simp) (by simp[Aa,h2]) (by simp[Aa]) (by simp[Aa])
  |desc e x y r g=>
   rename_i a u;have nx:=next a u (X++[y])
   rw[List.length_append,List.length_singleton] at nx;rw[List.length_cons] at hal;have hR2:R.length=X.length+(1+u.length):=by rw[hX];simp;omega
   have c1:(1:Int)≤(a.length:Int)+1:=by omega
   have c2:¬ ((a.length:Int)+1<1):=by omega
   have ea:List.take a.length (a.map tA)=a.map tA:=AX (by simp);simp[hlt,hx,Aa,h3,h5];rw[Hn.eq_1];simp[hlt,hx,Aa,h3,h5,ew,c1,c2,eX,ea];refine Af r.2 (by simp) ?_;simp[hlt,hx,Aa,h3,h5,ew,c1,c2,eX,ea];refine⟨by omega,?_⟩;exact nx _ (by omega) g (fun t ht=>ha t (List.mem_cons_of_mem _ ht)) (by omega) (by rw[hX];simp) (by simp[Aa,h2]) (by simp[Aa]) (by simp[Aa])
theorem Z3 {l:Int} {os:List OP} {t:T} {u:List T} (hw:AK t) (hol:os.length≤1000000000000) (how:∀ o,o ∈ os→∀ t,t ∈ o.l→AK t) (hos:∀ o,o ∈ os→o.l.length≤10000000000000) (hu:u.length≤1000000) (ht:t.kids.length≤1000000) (hk:t.kind=l) (h:iG SC os t.kids u):G.Spec Tryz.prog 80 [eX (.mk 3 T0 T0 [] [] l os),tX t] (.tup [tX (.mk l [] u),bv true]):=by
 obtain⟨k,w,ks⟩:=t;have hk:k=l:=hk;subst hk;refine Al XF (by simp) fun w0 I0=>?_;unfold OQ;simp;refine LoopC.le (BX (d:=[3]) (u:=1) 2 [5] 3 (by simp[Aa];rfl) rfl (by simp)) ?_;refine LoopC.le (Ao [(4,.pob [2] 1 0),(6,.pob [3] 1 0),(7,BG ks),(26,LO os),(27,iv os.length),(28,iv (0:Nat))] (by simp)) ?_;refine AaO (k0:=k) (R:=u) hu hol how hos (fun H' v st h2 h3 h5=>?_) os.length 0 1 ks u [] _ (by omega) (by simpa using h) (fun t ht=>(wfT_iff.1 hw).ks t ht) ht rfl (by simp[Aa]) (by simp[Aa]) (by simp[Aa]);simp[h2,h3];refine CP ⟨BZ ⟨Ad rfl,Am,?_,trivial⟩,Ad rfl,trivial⟩;have:=B0 (H:=AJ H' [2] ⟨1,.cells [iv k,.sl true [],.osl [5] v 3 0 u.length]⟩) (o:=[5]) (u:=v) (n:=u.length) (sz:=3) (l:=u) (f:=tA) (by simp[Aa,h5]) rfl (fun x=>by simp);exact this
def Fw (X:List Int) (i:Nat):List Int:=X++List.replicate (i+1-X.length) 0
theorem Hz (X:List Int) (i:Nat):(Fw X i).length=max X.length (i+1):=by simp[Fw];omega
theorem TF {α:Type} (X:List α) (n:Nat) (z:α) (j:Nat):(X++List.replicate n z).getD j z=X.getD j z:=by
 rw[List.getD_eq_getElem?_getD,List.getD_eq_getElem?_getD];by_cases h:j<X.length
 ·rw[List.getElem?_append_left h]
 ·rw[List.getElem?_append_right (by omega),List.getElem?_eq_none (l:=X) (by omega)];by_cases h2:j-X.length<n
  ·rw[List.getElem?_replicate,if_pos h2];rfl
  ·rw[List.getElem?_replicate,if_neg h2]
theorem R9 {α:Type} (X:List α) (i:Nat) (u z:α) (hi:i<X.length) (j:Nat):(X.set i u).getD j z=if j=i then u else X.getD j z:=by
 rw[List.getD_eq_getElem?_getD,List.getD_eq_getElem?_getD,List.getElem?_set];by_cases h:i=j
 ·subst h;rw[if_pos rfl,if_pos hi,if_pos rfl];rfl
 ·rw[if_neg h,if_neg (Ne.symm h)]
def U6 (a:List Int):List WE→List Int→List Int
 |[],X=>X
 |w::ws,X=>U6 a ws ((Fw X w.at_.toNat).set w.at_.toNat (BV (a.getD w.at_.toNat 0) w.new w.mask))
theorem uQ {a b:List Int} {p:Nat} {ws:List WE} (h:K9 a b p ws):∀ X:List Int,(∀ j,j<p→X.getD j 0=b.getD j 0)→(∀ j,p≤j→X.getD j 0=a.getD j 0)→(∀ j,(U6 a ws X).getD j 0=b.getD j 0)∧(U6 a ws X).length≤max X.length (max a.length b.length):=by
 induction h with
 |nil p h=>
  intro X h1 h2;refine⟨fun j=>?_,by show X.length≤_;omega⟩;by_cases hj:j<p
  ·exact h1 j hj
  ·rw[show(U6 a [] X)=X from rfl,h2 j (by omega),h j (by omega)]
 |cons p i m o n ws hp h hi hm ho hn g1 g2 _ ih=>
  intro X h1 h2;have hl:i<(Fw X i).length:=by rw[Hz];omega
  have e:U6 a (⟨i,m,o,n⟩::ws) X=U6 a ws ((Fw X i).set i (b.getD i 0)):=by
   show U6 a ws ((Fw X ((i:Int)).toNat).set ((i:Int)).toNat (BV (a.getD ((i:Int)).toNat 0) n m))=_;rw[Int.toNat_natCast,g1]
  have gs:∀ j,((Fw X i).set i (b.getD i 0)).getD j 0=if j=i then b.getD i 0 else X.getD j 0:=fun j=>by
   rw[R9 _ _ _ _ hl];unfold Fw;rw[TF]
  obtain⟨k1,k2⟩:=ih ((Fw X i).set i (b.getD i 0)) (fun j hj=>by
   rw[gs];by_cases e:j=i
   ·rw[if_pos e,e]
   ·rw[if_neg e];by_cases hjp:j<p
    ·exact h1 j hjp
    ·rw[h2 j (by omega),h j (by omega) (by omega)]) (fun j hj=>by
   rw[gs,if_neg (by omega)];exact h2 j (by omega))
  rw[e];refine⟨k1,Nat.le_trans k2 ?_⟩;rw[List.length_set,Hz];omega
theorem eY {a:List Int}:∀ (ws:List WE) (X:List Int),(∀ x,x ∈ X→Bo x)→∀ x,x ∈ U6 a ws X→Bo x
 |[],X,h=>h
 |w::ws,X,h=>by
  refine eY ws _ fun x hx=>?_;rcases List.mem_or_eq_of_mem_set hx with hx | rfl
  ·unfold Fw at hx;rcases List.mem_append.1 hx with hx | hx
   ·exact h x hx
   ·rw[List.eq_of_mem_replicate hx];exact⟨by omega,by omega⟩
  ·exact Fk _ _ _
abbrev KI:=Bool × T
def XK (x:KI):T:=if x.1=true then T0 else x.2
def vA (x:KI):List A:=if x.1=true then [iv 0,.sl true [],.sl true []] else [iv x.2.kind,DN x.2.words,BG x.2.kids]
def o3 (x:KI):A:=.agg (vA x)
@[simp] theorem zp {x:KI}:(o3 x).cells=vA x:=rfl
@[simp] theorem Aej {x:KI}:(vA x).length=3:=by unfold vA;split<;>rfl
def Ks (Z:List KI) (i:Nat):List KI:=Z++List.replicate (i+1-Z.length) (true,T0)
theorem Ph (Z:List KI) (i:Nat):(Ks Z i).length=max Z.length (i+1):=by simp[Ks];omega
def U2:List KE→List T→List KI→List KI
 |x::ks,u::us,Z=>U2 ks us ((Ks Z x.at_.toNat).set x.at_.toNat (false,u))
 |_,_,Z=>Z
inductive tK (P:E→T→T→Prop) (a:List T):List KE→List T→Prop
 |nil:tK P a [] []
 |cons (i:Nat) (e:E) (u:T) (ks:List KE) (us:List T) (h:P e (a.getD i T0) u) (g:tK P a ks us):tK P a (.mk i e::ks) (u::us)
theorem uW {R P:E→T→T→Prop} {a b:List T} {p:Nat} {ks:List KE} (h:Uf R a b p ks):(∀ x,x ∈ ks→∀ i,R x.e (a.getD i T0) (b.getD i T0)→∃ u,P x.e (a.getD i T0) u∧Ag u=Ag (b.getD i T0))→∃ us,tK P a ks us∧∀ Z:List KI,(∀ j,j<p→Ag ((Z.map XK).getD j T0)=Ag (b.getD j T0))→(∀ j,p≤j→Ag ((Z.map XK).getD j T0)=Ag (a.getD j T0))→(∀ j,Ag (((U2 ks us Z).map XK).getD j T0)=Ag (b.getD j T0))∧(U2 ks us Z).length≤max Z.length (max a.length b.length):=by
 induction h with
 |nil p h=>
  intro _;refine⟨[],.nil,fun Z h1 h2=>⟨fun j=>?_,by show Z.length≤_;omega⟩⟩;by_cases hj:j<p
  ·exact h1 j hj
  ·rw[show U2 [] [] Z=Z from rfl,h2 j (by omega),h j (by omega)]
 |cons p i e ks hp h hi he hr _ ih=>
  intro hP;obtain⟨u,k1,k2⟩:=hP (.mk i e) (by simp) i hr;obtain⟨us,k3,k4⟩:=ih fun x hx=>hP x (List.mem_cons_of_mem _ hx);refine⟨u::us,.cons i e u ks us k1 k3,fun Z h1 h2=>?_⟩;have hl:i<(Ks Z i).length:=by rw[Ph];omega
  have ee:U2 (.mk i e::ks) (u::us) Z=U2 ks us ((Ks Z i).set i (false,u)):=by
   show U2 ks us ((Ks Z ((i:Int)).toNat).set ((i:Int)).toNat (false,u))=_;rw[Int.toNat_natCast]
  have gs:∀ j,(((Ks Z i).set i (false,u)).map XK).getD j T0=if j=i then u else (Z.map XK).getD j T0:=fun j=>by
   rw[List.map_set,R9 _ _ _ _ (by rw[List.length_map];exact hl)];have e1:(Ks Z i).map XK=Z.map XK++List.replicate (i+1-Z.length) T0:=by
    unfold Ks;rw[List.map_append,List.map_replicate];rfl
   rw[e1,TF];rfl
  obtain⟨g1,g2⟩:=k4 ((Ks Z i).set i (false,u)) (fun j hj=>by
   rw[gs];by_cases ej:j=i
   ·rw[if_pos ej,ej,k2]
   ·rw[if_neg ej];by_cases hjp:j<p
    ·exact h1 j hjp
    ·rw[h2 j (by omega),h j (by omega) (by omega)]) (fun j hj=>by
   rw[gs,if_neg (by omega)];exact h2 j (by omega))
  rw[ee];refine⟨g1,Nat.le_trans g2 ?_⟩;rw[List.length_set,Ph];omega
theorem dJ {Q:T→Prop} (h0:Q T0):∀ (ks:List KE) (us:List T) (Z:List KI),(∀ u,u ∈ us→Q u)→(∀ z,z ∈ Z→Q (XK z))→∀ z,z ∈ U2 ks us Z→Q (XK z)
 |[],_,Z,_,h=>by
  intro z hz;exact h z (by simpa[U2] using hz)
 |x::ks,[],Z,_,h=>by
  intro z hz;exact h z (by simpa[U2] using hz)
 |x::ks,u::us,Z,hu,h=>by
  refine dJ h0 ks us _ (fun v hv=>hu v (List.mem_cons_of_mem _ hv)) fun z hz=>?_;rcases List.mem_or_eq_of_mem_set hz with hz | rfl
  ·unfold Ks at hz;rcases List.mem_append.1 hz with hz | hz
   ·exact h z hz
   ·rw[List.eq_of_mem_replicate hz];exact h0
  ·exact hu u (by simp)
theorem Ab5 {X0:List Int} {i w:Nat} {c0 c1 c2:A} {K B L:A} {N k:Nat} (hX:X0.length≤1000000) (hi:i≤1000000) {H0:Hp} (h4:H0 [4]=⟨w,.cells [iv i,c0,c1,c2]⟩)
  (hq:∀ (H':Hp) (v:Nat),H' [3]=⟨1,.cells [iv 1,.osl [15] v 1 0 (Fw X0 i).length,K]⟩→H' [15]=⟨v,.arr 1 ((Fw X0 i).map uv)⟩→(∀ o,o ≠ [3]→o ≠ [15]→H' o=H0 o)→Q (.exit 2) ⟨lk [(2,.pob [0] 1 0),(3,.pob [1] 1 0),(4,.pob [2] 1 0),(6,.pob [3] 1 0),(8,.pob [4] w 0),(9,B),(26,L),(27,iv N),(28,iv k),(49,bv false)],H'⟩) :
  ∀ (j n v:Nat) (H:Hp),n+j=i+1-X0.length→H [3]=⟨1,.cells [iv 1,.osl [15] v 1 0 (X0.length+n),K]⟩→H [15]=⟨v,.arr 1 ((X0++List.replicate n 0).map uv)⟩→(∀ o,o ≠ [3]→o ≠ [15]→H o=H0 o) →
  LoopC (cx Tryz.prog w0 I0 n0) D7 Q ⟨lk [(2,.pob [0] 1 0),(3,.pob [1] 1 0),(4,.pob [2] 1 0),(6,.pob [3] 1 0),(8,.pob [4] w 0),(9,B),(26,L),(27,iv N),(28,iv k)],H⟩:=by
 intro j;induction j with
 |zero=>
  intro n v H hm h3 h15 hH;have g4:=hH [4] (by simp) (by simp);rw[h4] at g4;have hp:Fw X0 i=X0++List.replicate n 0:=by unfold Fw;rw[← hm];rfl
  have hc:¬ ((X0.length:Int)+n≤i):=by omega
  refine Ab Ai D7.eq_1 ?_;simp[h3,g4,hc];refine hq H v (by rw[hp];simpa using h3) (by rw[hp];exact h15) hH
 |succ j ih=>
  intro n v H hm h3 h15 hH;have g4:=hH [4] (by simp) (by simp);rw[h4] at g4;have hc:(X0.length:Int)+n≤i:=by omega
  refine Ab Ai D7.eq_1 ?_;simp[h3,g4,hc,h15,Aa];refine⟨by omega,?_⟩;refine ih (n+1) (v+1) _ (by omega) (by simp[Aa];omega) ?_ (fun o h1 h2=>by simp[Aa,h1,h2,hH]);simp[Aa,List.replicate_succ'];rw[AX (by simp)];simp
theorem AcP {t:T} (ht:AK t) {ws:List WE} (hwl:ws.length≤10000000000000) {b R:List Int} {K:A} {v0 v2 v16:VOb} (hb:max t.words.length b.length≤900000) (hws:∀ x,x ∈ ws→Bo x.old∧Bo x.new)
  (hq:∀ (H':Hp) (v:Nat) (st:List (Nat × A)),H' [0]=v0→H' [1]=⟨1,.cells (tL t)⟩→H' [2]=v2→H' [3]=⟨1,.cells [iv 1,.osl [15] v 1 0 R.length,K]⟩→H' [15]=⟨v,.arr 1 (R.map uv)⟩→H' [16]=v16→Q (.exit 0) ⟨lk ([(2,.pob [0] 1 0),(3,.pob [1] 1 0),(4,.pob [2] 1 0),(6,.pob [3] 1 0)]++st),H'⟩) :
  ∀ (m k p v:Nat) (X:List Int) (H:Hp),k+m=ws.length→K9 t.words b p (ws.drop k)→R=U6 t.words (ws.drop k) X→X.length≤900000→H [0]=v0→H [1]=⟨1,.cells (tL t)⟩→H [2]=v2→H [3]=⟨1,.cells [iv 1,.osl [15] v 1 0 X.length,K]⟩→H [15]=⟨v,.arr 1 (X.map uv)⟩→H [16]=v16 →
  LoopC (cx Tryz.prog w0 I0 n0) Ed Q ⟨lk [(2,.pob [0] 1 0),(3,.pob [1] 1 0),(4,.pob [2] 1 0),(6,.pob [3] 1 0),(26,Qn ws),(27,iv ws.length),(28,iv k)],H⟩:=by
 have z0:Bo 0:=⟨by decide,by decide⟩;intro m;induction m with
 |zero=>
  intro k p v X H hm hL hR hX h0 h1 h2 h3 h15 h16;have:k=ws.length:=by omega
  subst this;rw[List.drop_length] at hR;have hR:R=X:=hR;subst hR;refine Ab Ai Ed.eq_1 ?_;simp;have:=hq H v [(26,Qn ws),(27,iv ws.length),(28,iv ws.length),(29,bv false)] h0 h1 h2 h3 h15 h16;simpa using this
 |succ m ih=>
  intro k p v X H hm hL hR hX h0 h1 h2 h3 h15 h16;have hlt:k<ws.length:=by omega
  have ew:=AW k;have hd:ws.drop k=ws[k]::ws.drop (k+1):=(List.getElem_cons_drop hlt).symm;rw[hd] at hL hR;have hwo:=hws _ (C5 hlt);have next:=ih (k+1)
  generalize hx:ws[k]=x at *;cases hL with
  |cons _ i mk o n _ hp hh hi hmk ho hn g1 g2 g=>
   have hwa:=Ej (wfT_iff.1 ht).w i;have M1:=Fa (mask:=mk) z0 hwa (by omega) (by omega);have M2:=Fa (mask:=mk) hwa hwo.2 (by omega) (by omega);have W1:=Et t i;simp only at M2;rw[ho] at M1;rw[g1] at M2;have hl:i<(Fw X i).length:=by rw[Hz];omega
   have hR':R=U6 t.words (ws.drop (k+1)) ((Fw X i).set i (b.getD i 0)):=by
    rw[hR];show U6 t.words _ ((Fw X ((i:Int)).toNat).set ((i:Int)).toNat (BV (t.words.getD ((i:Int)).toNat 0) n mk))=_;rw[Int.toNat_natCast,g1]
   refine Ab Ai Ed.eq_1 ?_;simp[hlt,hx,Aa,h1];refine Af W1 (by simp) ?_;simp[Aa];refine Af M1 (by simp) ?_;simp[Aa];refine Ab5 (X0:=X) (i:=i) (w:=(H [4]).u+1) (c0:=u8 mk) (c1:=uv o) (c2:=uv n) (K:=K) (by omega) (by omega) (H0:=AJ H [4] ⟨(H [4]).u+1,.cells [iv i,u8 mk,uv o,uv n]⟩) (by simp[Aa]) (fun H' v' k3 k15 kH=>?_) (i+1-X.length) 0 v _ (by omega) (by simp[Aa,h3]) (by simp[Aa,h15]) (fun o _ _=>rfl);have k4:=kH [4] (by simp) (by simp);have k0:=kH [0] (by simp) (by simp);have k1:=kH [1] (by simp) (by simp);have k2:=kH [2] (by simp) (by simp);have k16:=kH [16] (by simp) (by simp);simp[Aa] at k4 k0 k1 k2 k16;simp[k3,k4];refine Af M2 (by simp) ?_;simp[k3,k15,k4,hl,ew];refine next (i+1) v' ((Fw X i).set i (b.getD i 0)) _ (by omega) g hR' (by rw[List.length_set,Hz];omega) (by simp[Aa,k0,h0]) (by simp[Aa,k1,h1]) (by simp[Aa,k2,h2]) (by simp[Aa,k3]) (by simp[Aa,List.map_set]) (by simp[Aa,k16,h16])
theorem Aat {Z0:List KI} {i w w7:Nat} {c4:List A} {K:A} {L:A} {N k:Nat} (hZ:Z0.length≤1000000) (hi:i≤1000000) {H0:Hp} (h6:H0 [6]=⟨w,.cells (iv i::c4)⟩)
  (hq:∀ (H':Hp) (v:Nat),H' [3]=⟨1,.cells [iv 1,K,.osl [16] v 3 0 (Ks Z0 i).length]⟩→H' [16]=⟨v,.arr 3 ((Ks Z0 i).map o3)⟩→(∀ o,o ≠ [3]→o ≠ [16]→H' o=H0 o)→Q (.exit 6) ⟨lk [(3,.pob [1] 1 0),(4,.pob [2] 1 0),(6,.pob [3] 1 0),(11,.pob [6] w 0),(12,.pob [7] w7 0),(68,L),(69,iv N),(70,iv k),(92,bv false)],H'⟩) :
  ∀ (j n v:Nat) (H:Hp),n+j=i+1-Z0.length→H [3]=⟨1,.cells [iv 1,K,.osl [16] v 3 0 (Z0.length+n)]⟩→H [16]=⟨v,.arr 3 ((Z0++List.replicate n (true,T0)).map o3)⟩→(∀ o,o ≠ [3]→o ≠ [16]→H o=H0 o) →
  LoopC (cx Tryz.prog w0 I0 n0) DX Q ⟨lk [(3,.pob [1] 1 0),(4,.pob [2] 1 0),(6,.pob [3] 1 0),(11,.pob [6] w 0),(12,.pob [7] w7 0),(68,L),(69,iv N),(70,iv k)],H⟩:=by
 intro j;induction j with
 |zero=>
  intro n v H hm h3 h16 hH;have g6:=hH [6] (by simp) (by simp);rw[h6] at g6;have hp:Ks Z0 i=Z0++List.replicate n (true,T0):=by unfold Ks;rw[← hm];rfl
  have hc:¬ ((Z0.length:Int)+n≤i):=by omega
  refine Ab Ai DX.eq_1 ?_;simp[h3,g6,hc];refine hq H v (by rw[hp];simpa using h3) (by rw[hp];exact h16) hH
 |succ j ih=>
  intro n v H hm h3 h16 hH;have g6:=hH [6] (by simp) (by simp);rw[h6] at g6;have hc:(Z0.length:Int)+n≤i:=by omega
  refine Ab Ai DX.eq_1 ?_;simp[h3,g6,hc,h16,Aa];refine⟨by omega,?_⟩;refine ih (n+1) (v+1) _ (by omega) (by simp[Aa];omega) ?_ (fun o h1 h2=>by simp[Aa,h1,h2,hH]);simp[Aa,List.replicate_succ'];rw[AX (by simp)];simp[o3,vA]
theorem AbW {t:T} {ks:List KE} (hkl:ks.length≤10000000000000) {Z1:List KI} {K:A} {v2 v15:VOb} (hat:∀ x,x ∈ ks→0≤x.at_∧x.at_≤900000)
  (hq:∀ (H':Hp) (v:Nat) (st:List (Nat × A)),H' [2]=v2→H' [3]=⟨1,.cells [iv 1,K,.osl [16] v 3 0 Z1.length]⟩→H' [16]=⟨v,.arr 3 (Z1.map o3)⟩→H' [15]=v15→Q (.exit 4) ⟨lk ([(3,.pob [1] 1 0),(4,.pob [2] 1 0),(6,.pob [3] 1 0)]++st),H'⟩) :
  ∀ (m k v:Nat) (us:List T) (Z:List KI) (H:Hp),k+m=ks.length→tK SC t.kids (ks.drop k) us→Z1=U2 (ks.drop k) us Z→Z.length≤900001→H [1]=⟨1,.cells (tL t)⟩→H [2]=v2→H [3]=⟨1,.cells [iv 1,K,.osl [16] v 3 0 Z.length]⟩→H [16]=⟨v,.arr 3 (Z.map o3)⟩→H [15]=v15 →
  LoopC (cx Tryz.prog w0 I0 n0) D5 Q ⟨lk [(3,.pob [1] 1 0),(4,.pob [2] 1 0),(6,.pob [3] 1 0),(68,QA ks),(69,iv ks.length),(70,iv k)],H⟩:=by
 intro m;induction m with
 |zero=>
  intro k v us Z H hm hA hR hZ h1 h2 h3 h16 h15;have:k=ks.length:=by omega
  subst this;rw[List.drop_length] at hR hA;cases hA;have hR:Z1=Z:=hR;subst hR;refine Ab Ai D5.eq_1 ?_;simp;have:=hq H v [(68,QA ks),(69,iv ks.length),(70,iv ks.length),(71,bv false)] h2 h3 h16 h15;simpa using this
 |succ m ih=>
  intro k v us Z H hm hA hR hZ h1 h2 h3 h16 h15;have hlt:k<ks.length:=by omega
  have ew:=AW k;have hd:ks.drop k=ks[k]::ks.drop (k+1):=(List.getElem_cons_drop hlt).symm;rw[hd] at hA hR;have ha:=hat _ (C5 hlt);have next:=ih (k+1)
  generalize hx:ks[k]=x at *;cases hA with
  |cons i e u _ us h g=>
   have ha:(0:Int)≤(i:Nat)∧((i:Nat):Int)≤900000:=ha;have K1:=Fl t i;have hl:i<(Ks Z i).length:=by rw[Ph];omega
   have hR':Z1=U2 (ks.drop (k+1)) us ((Ks Z i).set i (false,u)):=by
    rw[hR];show U2 _ us ((Ks Z ((i:Int)).toNat).set ((i:Int)).toNat (false,u))=_;rw[Int.toNat_natCast]
   refine Ab Ai D5.eq_1 ?_;simp[hlt,hx,Aa,h1];refine Af K1 (by simp) ?_;simp[Aa];refine Af h.2 (by simp) ?_;simp[Aa];refine Aat (Z0:=Z) (i:=i) (w:=(H [6]).u+1) (w7:=(H [7]).u+1) (c4:=eL e) (K:=K) (by omega) (by omega) (H0:=AJ (AJ H [6] ⟨(H [6]).u+1,.cells (iv i::eL e)⟩) [7] ⟨(H [7]).u+1,.cells (tL u)⟩) (by simp[Aa]) (fun H' v' k3 k16 kH=>?_) (i+1-Z.length) 0 v _ (by omega) (by simp[Aa,h3]) (by simp[Aa,h16]) (fun o _ _=>by rfl);have k6:=kH [6] (by simp) (by simp);have k7:=kH [7] (by simp) (by simp);have k1:=kH [1] (by simp) (by simp);have k2:=kH [2] (by simp) (by simp);have k15:=kH [15] (by simp) (by simp);simp[Aa] at k6 k7 k1 k2 k15;simp[k3,k6,k7,k16,hl,ew];refine next v' us ((Ks Z i).set i (false,u)) _ (by omega) g hR' (by rw[List.length_set,Ph];omega) (by simp[Aa,k1,h1]) (by simp[Aa,k2,h2]) (by simp[Aa,k3]) (by simp[Aa,List.map_set];rfl) (by simp[Aa,k15,h15])
theorem xf (l:List T):(l.map fun k=>((false,k):KI)).map o3=l.map tA:=by
 rw[List.map_map];exact List.map_congr_left fun k _=>by simp[o3,vA]
theorem qQ (l:List T):(l.map fun k=>((false,k):KI)).map XK=l:=by
 rw[List.map_map];exact List.map_id'' (fun k=>by simp[XK]) l
theorem bg {ws:List WE} {ks:List KE} {t:T} {b:List Int} {us:List T} (ht:AK t) (hk:t.kind=1) (hwl:ws.length≤10000000000000) (hkl:ks.length≤10000000000000) (hl:t.kids.length≤900000) (hb:max t.words.length b.length≤900000) (hws:∀ x,x ∈ ws→Bo x.old∧Bo x.new) (hat:∀ x,x ∈ ks→0≤x.at_∧x.at_≤900000) (hW:K9 t.words b 0 ws) (hK:tK SC t.kids ks us) :
  G.Spec Tryz.prog 79 [eX (.mk 2 T0 T0 ws ks 0 []),tX t] (.tup [tX (.mk 1 (U6 t.words ws t.words) ((U2 ks us (t.kids.map fun k=>(false,k))).map XK)),bv true]):=by
 have C1:=QK t.words (by omega);have C2:=Zg t.kids (by omega);have hkr:=xf t.kids;generalize hZ:(t.kids.map fun k=>((false,k):KI))=Z at *;have hZl:Z.length=t.kids.length:=by rw[← hZ];simp
 refine Al Pr (by simp) fun w0 I0=>?_;unfold Jc;simp[hk];refine Ar 15 C1 (fun p=>by simp) (by simp) (by simp) ?_;simp;refine⟨by decide,?_⟩;refine Ar 16 C2 (fun p=>by simp) (by simp) (by simp) ?_;simp;refine⟨⟨by decide,by decide⟩,?_⟩;refine LoopC.le (Ao [(2,.pob [0] 1 0),(3,.pob [1] 1 0),(4,.pob [2] 1 0),(6,.pob [3] 1 0),(26,Qn ws),(27,iv ws.length),(28,iv (0:Nat))] (by simp)) ?_;refine AcP (t:=t) (b:=b) (R:=U6 t.words ws t.words) (K:=.osl [16] 1 3 0 t.kids.length) (v0:=⟨1,.cells (eL (.mk 2 T0 T0 ws ks 0 []))⟩) (v2:=⟨1,.cells [iv 0,.sl true [],.sl true []]⟩) (v16:=⟨1,.arr 3 (Z.map o3)⟩) ht hwl hb hws (fun H' v st h0 h1 h2 h3 h15 h16=>?_) ws.length 0 0 1 t.words _ (by omega) (by simpa using hW) (by simp) (by omega) (by simp[Aa]) (by simp[Aa,hk]) (by simp[Aa]) (by simp[Aa]) (by simp[Aa]) (by simp[Aa,hkr]);simp[h0];refine LoopC.le (Ao [(3,.pob [1] 1 0),(4,.pob [2] 1 0),(6,.pob [3] 1 0),(68,QA ks),(69,iv ks.length),(70,iv (0:Nat))] (by simp)) ?_;rw[← hZl] at h3;refine AbW (t:=t) (Z1:=U2 ks us Z) (K:=.osl [15] v 1 0 (U6 t.words ws t.words).length) (v2:=⟨1,.cells [iv 0,.sl true [],.sl true []]⟩) (v15:=⟨v,.arr 1 ((U6 t.words ws t.words).map uv)⟩) hkl hat (fun H2 v2 st2 k2 k3 k16 k15=>?_) ks.length 0 1 us Z _ (by omega) (by simpa using hK) (by simp) (by omega) h1 h2 h3 h16 h15;simp[k2,k3];refine CP ⟨BZ ⟨Ad rfl,?_,?_,trivial⟩,Ad rfl,trivial⟩
 ·exact B0 (o:=[15]) (u:=v) (n:=(U6 t.words ws t.words).length) (sz:=1) (l:=U6 t.words ws t.words) (f:=uv) (by simp[Aa,k15]) rfl (fun x=>by simp)
 ·have:=R8 (H:=AJ H2 [2] ⟨1,.cells [iv 1,.osl [15] v 1 0 (U6 t.words ws t.words).length,.osl [16] v2 3 0 (U2 ks us Z).length]⟩) (o:=[16]) (u:=v2) (n:=(U2 ks us Z).length) (sz:=3) (l:=U2 ks us Z) (f:=o3) (g:=fun z=>tA (XK z)) (by simp[Aa,k16]) rfl (fun x _=>by
   obtain⟨c,t⟩:=x;cases c<;>simp[vA,XK,A.soft,A.softL,Ji,FB])
  show IZ _ _ (.sl false (((U2 ks us Z).map XK).map tA));rw[List.map_map];exact this
theorem TP {e:E} {a b:T} (hw:Pn e) (ha:AK a) (h:lx e a b):∃ u,SC e a u∧Ag u=Ag b:=by
 rcases h with ⟨rfl,h⟩ | ⟨o,n,rfl,h1,h2⟩
 ·refine⟨a,⟨ha,?_⟩,h⟩;refine Al Jq (by simp) fun w0 I0=>?_;unfold HF;simp;exact CP ⟨Ad (by simp),Ad rfl,trivial⟩
 ·have W:=wfE_iff.1 hw;have E1:=Iw (t:=o) (u:=a) W.o ha;rw[show Kd o a=true from eqT_iff.2 h1] at E1;refine⟨n,⟨W.n,?_⟩,h2⟩;refine Al Jq (by simp) fun w0 I0=>?_;unfold HF;simp;refine Af E1 (by simp) ?_;simp;exact CP ⟨Ad (by simp),Ad rfl,trivial⟩
theorem gN {e:E} {t u:T} (hk:e.kind=2) (h:G.Spec Tryz.prog 79 [eX e,tX t] (.tup [tX u,bv true])):G.Spec Tryz.prog 47 [eX e,tX t] (.tup [tX u,bv true]):=by
 obtain⟨k,o,n,ws,ks,l,os⟩:=e;have hk:k=2:=hk;subst hk;refine Al Jq (by simp) fun w0 I0=>?_;unfold HF;simp;refine Af h (by simp) ?_;simp;exact CP ⟨Ad (by simp),Ad rfl,trivial⟩
theorem bD {e:E} {t u:T} (hk:e.kind=3) (h:G.Spec Tryz.prog 80 [eX e,tX t] (.tup [tX u,bv true])):G.Spec Tryz.prog 47 [eX e,tX t] (.tup [tX u,bv true]):=by
 obtain⟨k,o,n,ws,ks,l,os⟩:=e;have hk:k=3:=hk;subst hk;refine Al Jq (by simp) fun w0 I0=>?_;unfold HF;simp;refine Af h (by simp) ?_;simp;exact CP ⟨Ad (by simp),Ad rfl,trivial⟩
theorem uu {R:E→T→T→Prop} {a b:List T} {p:Nat} {ks:List KE} (h:Uf R a b p ks):∀ x,x ∈ ks→0≤x.at_∧x.at_<max a.length b.length:=by
 induction h with
 |nil p h=>intro x hx;simp at hx
 |cons p i e ks hp h hi he hr _ ih=>
  intro x hx;rcases List.mem_cons.1 hx with rfl | hx
  ·show(0:Int)≤(i:Nat)∧((i:Nat):Int)<_;omega
  ·exact ih x hx
def Sz:Nat→T→Prop
 |0,_=>True
 |f+1,t=>t.words.length≤900000∧t.kids.length≤900000∧∀ k,k ∈ t.kids→Sz f k
theorem Abn:∀ f,Sz f T0
 |0=>trivial
 |f+1=>⟨by simp,by simp,fun k hk=>by simp at hk⟩
theorem sS {f:Nat} {t:T} (h:Sz (f+1) t) (i:Nat):Sz f (t.kids.getD i T0):=by
 rw[List.getD_eq_getElem?_getD];cases e:t.kids[i]? with
 |none=>exact Abn f
 |some z=>exact h.2.2 z (List.mem_of_getElem? e)
theorem Hb {t:T} (h:AK t) (i:Nat):AK (t.kids.getD i T0):=by
 rw[List.getD_eq_getElem?_getD];cases e:t.kids[i]? with
 |none=>exact E8
 |some z=>exact(wfT_iff.1 h).ks z (List.mem_of_getElem? e)
theorem vn {a:List T} {ks:List KE} {us:List T} (h:tK SC a ks us):∀ u,u ∈ us→AK u:=by
 induction h with
 |nil=>intro u hu;simp at hu
 |cons i e u ks us h _ ih=>
  intro v hv;rcases List.mem_cons.1 hv with rfl | hv
  ·exact h.1
  ·exact ih v hv
theorem lX:∀ (f:Nat) (e:E) (a b:T),Pn e→AK a→AK b→Sz f a→Sz f b→Ld f e a b→∃ u,SC e a u∧Ag u=Ag b:=by
 intro f;induction f with
 |zero=>exact fun e a b hw ha hb _ _ h=>TP hw ha h
 |succ f ih=>
  intro e a b hw ha hb sa sb h;have A:=wfT_iff.1 ha;have B:=wfT_iff.1 hb;rcases h with h | ⟨ws,ks,rfl,h1,h2,h3,h4⟩ | ⟨os,rfl,h1,h2,hv,h3⟩
  ·exact TP hw ha h
  ·have W:=wfE_iff.1 hw;have hwl:ws.length*32≤140737488355328:=W.wl;have hkl:ks.length*208≤140737488355328:=W.kl;obtain⟨us,k1,k2⟩:=uW (P:=SC) h4 fun x hx i r=>ih x.e _ _ (W.ks x hx).2 (Hb ha i) (Hb hb i) (sS sa i) (sS sb i) r;obtain⟨g1,g2⟩:=uQ h3 a.words (fun j hj=>by omega) (fun j _=>rfl);have e0:=qQ a.kids;obtain⟨g3,g4⟩:=k2 (a.kids.map fun k=>(false,k)) (fun j hj=>by omega) (fun j _=>by rw[e0]);rw[List.length_map] at g4;have l1:=sa.1;have l2:=sb.1;have l3:=sa.2.1;have l4:=sb.2.1;have hat:=uu h4;have S:=bg (ws:=ws) (ks:=ks) (us:=us) (b:=b.words) ha h1 (by omega) (by omega) l3 (by omega) (fun x hx=>⟨(W.w x hx).2.2.1,(W.w x hx).2.2.2⟩) (fun x hx=>by have:=hat x hx;omega) h3 k1;have hu:=dJ (Q:=AK) E8 ks us (a.kids.map fun k=>(false,k)) (vn k1) (fun z hz=>by
    obtain⟨k,hk,rfl⟩:=List.mem_map.1 hz;exact A.ks k hk)
   generalize hZ:U2 ks us (a.kids.map fun k=>((false,k):KI))=Z at *;refine⟨.mk 1 (U6 a.words ws a.words) (Z.map XK),⟨wfT_iff.2 ⟨by simp[BN],eY ws a.words A.w,by show(U6 a.words ws a.words).length*8≤_;omega,by show(Z.map XK).length*56≤_;rw[List.length_map];omega,fun x hx=>?_⟩,gN rfl S⟩,?_⟩
   ·obtain⟨z,hz,rfl⟩:=List.mem_map.1 (show x ∈ Z.map XK from hx);exact hu z hz
   ·obtain⟨kb,wb,lb⟩:=b;have h2:kb=1:=h2;subst h2;exact struct_eq.2 ⟨g1,g3⟩
  ·have W:=wfE_iff.1 hw;have hol:os.length*240≤140737488355328:=W.ol;obtain⟨U,k1,k2⟩:=uU (P:=SC) h3 fun o ho hk x hx y hy r=>ih o.e x y (W.os o ho).e (A.ks x hx) (B.ks y hy) (sa.2.2 x hx) (sb.2.2 y hy) r;have hUl:U.length=b.kids.length:=by simpa using congrArg List.length k2
   have l3:=sa.2.1;have l4:=sb.2.1;have hUw:=wF k1 A.ks (fun o ho=>(W.os o ho).l);have S:=Z3 (l:=a.kind) (os:=os) (u:=U) ha (by omega) (fun o ho=>(W.os o ho).l) (fun o ho=>by have:=(W.os o ho).ll;omega) (by omega) (by omega) rfl k1;refine⟨.mk a.kind [] U,⟨wfT_iff.2 ⟨A.k,by simp,by simp,by show U.length*56≤_;omega,hUw⟩,bD rfl S⟩,?_⟩;obtain⟨kb,wb,lb⟩:=b;have h1:kb=a.kind:=h1;have hv2:wb=[]:=hv.2;subst h1;subst hv2;exact(LR (k:=a.kind) (by omega) (by omega)).2 ⟨rfl,k2⟩
theorem LK (a b m:Int) {i:Nat} (h:i<8):Bt (BV a b m) i=if Dz m i=true then Bt b i else Bt a i:=by
 rw[← Ec _ h,PU,TK (by simp[AY,Dh]) h,Ec _ h,Ec _ h]
theorem dq {x y:Int} (hx:Bo x) (hy:Bo y) (h:∀ i,i<8→Bt x i=Bt y i):x=y:=by
 rw[← Qo hx,← Qo hy];congr 1;refine List.ext_getElem (by simp[AY,Dh]) fun i h1 h2=>?_;have h8:i<8:=by simpa[AY,Dh] using h1
 have:=h i h8;rw[← Ec _ h8,← Ec _ h8] at this;rw[List.getD_eq_getElem?_getD,List.getD_eq_getElem?_getD,List.getElem?_eq_getElem h1,List.getElem?_eq_getElem h2] at this;exact this
theorem Qc (m i:Nat):Dz (m:Int) i=m.testBit i:=by
 unfold Dz;rw[Nat.testBit_eq_decide_div_mod_eq];have:((m:Int) / 2 ^ i % 2=1) ↔ (m / 2 ^ i % 2=1):=by
  have e:(m:Int) / 2 ^ i % 2=((m / 2 ^ i % 2:Nat):Int):=by simp
  omega
 exact decide_eq_decide.2 this
def HV (m k:Int):Int:=bits .and .u8 m k
theorem MA {m k:Int} (hm:0≤m∧m<256) (hk:0≤k∧k<256):HV m k=((m.toNat &&& k.toNat:Nat):Int):=by
 obtain⟨a,rfl⟩:=Int.eq_ofNat_of_zero_le hm.1;obtain⟨b,rfl⟩:=Int.eq_ofNat_of_zero_le hk.1;have h1:a<256:=by omega
 have h2:b<256:=by omega
 have h3:a &&& b<256:=Nat.lt_of_le_of_lt Nat.and_le_left h1;have e8:∀ x:Nat,x<256→(BitVec.ofInt 8 (x:Int)).toNat=x:=fun x h=>by
  rw[BitVec.toNat_ofInt];omega
 show IntKind.u8.wrap ((BitVec.ofInt 8 (a:Int) &&& BitVec.ofInt 8 (b:Int)).toNat:Nat)=_;rw[BitVec.toNat_and,e8 a h1,e8 b h2];rw[IntKind.wrap_u8,Int.toNat_natCast,Int.toNat_natCast];omega
theorem ae {m k:Int} (hm:0≤m∧m<256) (hk:0≤k∧k<256) (i:Nat):Dz (HV m k) i=(Dz m i&&Dz k i):=by
 rw[MA hm hk,Qc,Nat.testBit_and,← Qc,← Qc];have e1:((m.toNat:Nat):Int)=m:=by omega
 have e2:((k.toNat:Nat):Int)=k:=by omega
 rw[e1,e2]
theorem bt {m k:Int} (hm:0≤m∧m<256) (hk:0≤k∧k<256):HV m k=HV k m:=by
 rw[MA hm hk,MA hk hm,Nat.and_comm]
theorem kZ {m k:Int} (hm:0≤m∧m<256) (hk:0≤k∧k<256):0≤HV m k∧HV m k<256:=by
 rw[MA hm hk];have h3:m.toNat &&& k.toNat≤m.toNat:=Nat.and_le_left;omega
theorem J5 {x:Int} (hx:Bo x) (n:Int):BV x n 0=x:=by
 refine dq (Fk _ _ _) hx fun i hi=>?_;rw[LK _ _ _ hi,if_neg (by simp[Dz])]
structure Cf where
 path:List (Int × Int)
 base:T
 ours:T
 theirs:T
abbrev CV:=List (Int × Int)
noncomputable def JC (e:E) (t:T):T:=(pg e t).getD T0
def GA (ws:List WE) (i:Nat):WE:=(ws.find? fun w=>decide (w.at_=(i:Int))).getD ⟨0,0,0,0⟩
def F3 (ks:List KE) (i:Nat):E:=((ks.find? fun k=>decide (k.at_=(i:Int))).map KE.e).getD E0
def Lj (a b:WE):Bool:=decide (BV 0 a.new (HV a.mask b.mask) ≠ BV 0 b.new (HV a.mask b.mask))
def B5 (w:Int):T:=.mk 1 [w] []
def NP (w:Int) (a b:WE):Int:=if Lj a b=true then w else BV (BV w a.new a.mask) b.new b.mask
def PD (at':CV) (i:Nat) (w:Int) (a b:WE):List Cf:=if Lj a b=true then [⟨at'++[(1,(i:Int))],Ag (B5 w),Ag (B5 (BV w a.new a.mask)),Ag (B5 (BV w b.new b.mask))⟩] else []
def DG (n:Nat) (ws:List WE):Nat:=ws.foldl (fun n w=>max n (w.at_+1).toNat) n
def CR (n:Nat) (ks:List KE):Nat:=ks.foldl (fun n k=>max n (k.at_+1).toNat) n
inductive U where
 |keep
 |del (t:T)
 |ins (t:T)
 |desc (e:E)
def NR (o:OP):List U:=if o.kind=0 then List.replicate o.n.toNat .keep else if o.kind=1 then o.l.map .del else if o.kind=2 then o.l.map .ins else [.desc o.e]
def Ku (os:List OP):List U:=os.flatMap NR
def G7:List U→List T
 |.ins t::us=>t::G7 us
 |_=>[]
def EG:List U→List U
 |.ins t::us=>EG us
 |us=>us
def eU:U→E
 |.desc e=>e
 |_=>E0
open Classical in
noncomputable def F9 (at':CV) (kind:Int) (n:Nat) (a b:List T):List T × List Cf:=
 if a=[]∨a.map Ag=b.map Ag then (b.map Ag,[]) else if b=[] then (a.map Ag,[]) else ([],[⟨at'++[(2,(n:Int))],Ag (.mk kind [] []),Ag (.mk kind [] a),Ag (.mk kind [] b)⟩])
noncomputable def CG (mg:CV→T→E→E→T × List Cf) (at':CV) (k:T):U→U→List T × List Cf
 |.del _,.desc q=>([Ag k],[⟨at',Ag k,T0,JC q k⟩])
 |.desc p,.del _=>([Ag k],[⟨at',Ag k,JC p k,T0⟩])
 |.del _,_=>([],[])
 |_,.del _=>([],[])
 |u,v=>([(mg at' k (eU u) (eU v)).1],(mg at' k (eU u) (eU v)).2)
def ZM:List U→U
 |u::_=>u
 |[]=>.keep
noncomputable def Mt (mg:CV→T→E→E→T × List Cf) (at':CV) (kind:Int):List T→List U→List U→Nat→List T × List Cf
 |[],us,vs,n=>F9 at' kind n (G7 us) (G7 vs)
 |k::ks,us,vs,n=>
  let g:=F9 at' kind n (G7 us) (G7 vs)
  let u:=CG mg (at'++[(0,(n:Int))]) k (ZM (EG us)) (ZM (EG vs))
  let r:=Mt mg at' kind ks (EG us).tail (EG vs).tail (n+1)
  (g.1++(u.1++r.1),g.2++(u.2++r.2))
open Classical in
noncomputable def ab (at':CV) (o:T) (p q:E):T × List Cf:=
 if p.kind=0 then (JC q o,[]) else if q.kind=0 then (JC p o,[]) else if JC p o=JC q o then (JC p o,[]) else (Ag o,[⟨at',Ag o,JC p o,JC q o⟩])
noncomputable def gM (mg:CV→T→E→E→T × List Cf) (at':CV) (o:T) (p q:E):T × List Cf:=
 (Ag (.mk 1 ((List.range (DG (DG o.words.length p.words) q.words)).map fun i:Nat=>NP (o.words.getD i 0) (GA p.words i) (GA q.words i))
  ((List.range (CR (CR o.kids.length p.kids) q.kids)).map fun i:Nat=>(mg (at'++[(0,(i:Int))]) (o.kids.getD i T0) (F3 p.kids i) (F3 q.kids i)).1)),
  (List.range (DG (DG o.words.length p.words) q.words)).flatMap (fun i:Nat=>PD at' i (o.words.getD i 0) (GA p.words i) (GA q.words i)) ++
  (List.range (CR (CR o.kids.length p.kids) q.kids)).flatMap fun i:Nat=>(mg (at'++[(0,(i:Int))]) (o.kids.getD i T0) (F3 p.kids i) (F3 q.kids i)).2)
noncomputable def mg:Nat→CV→T→E→E→T × List Cf
 |0,at',o,p,q=>ab at' o p q
 |f+1,at',o,p,q=>if p.kind=2∧q.kind=2 then gM (mg f) at' o p q
  else if p.kind=3∧q.kind=3 then (Ag (.mk o.kind [] (Mt (mg f) at' o.kind o.kids (Ku p.ops) (Ku q.ops) 0).1),(Mt (mg f) at' o.kind o.kids (Ku p.ops) (Ku q.ops) 0).2)
  else ab at' o p q
theorem JN {a b:List Int} {p:Nat} {ws:List WE} (h:K9 a b p ws):∀ w,w ∈ ws→∃ i:Nat,w.at_=i∧p≤i∧i<max a.length b.length∧0<w.mask∧w.mask<256:=by
 induction h with
 |nil p h=>intro w hw;simp at hw
 |cons p i m o n ws hp h hi hm ho hn h1 h2 _ ih=>
  intro w hw;rcases List.mem_cons.1 hw with rfl | hw
  ·exact⟨i,rfl,hp,hi,hm.1,hm.2⟩
  ·obtain⟨j,k1,k2,k3,k4⟩:=ih w hw;exact⟨j,k1,by omega,k3,k4⟩
theorem rI {a b:List Int} {p:Nat} {ws:List WE} (h:K9 a b p ws):∀ i:Nat,p≤i→(∀ w,w ∈ ws→w.at_<(i:Int))→a.getD i 0=b.getD i 0:=by
 induction h with
 |nil p h=>intro i hi _;exact h i hi
 |cons p i m o n ws hp h hi hm ho hn h1 h2 _ ih=>
  intro j hj hw;have:((i:Nat):Int)<(j:Int):=hw ⟨i,m,o,n⟩ (by simp);exact ih j (by omega) fun w h=>hw w (List.mem_cons_of_mem _ h)
theorem nL {a b:List Int} {p:Nat} {ws:List WE} (h:K9 a b p ws):∀ x,ws.getLast? = some x→∀ w,w ∈ ws→w.at_≤x.at_:=by
 induction h with
 |nil p h=>intro x hx;simp at hx
 |cons p i m o n ws hp h hi hm ho hn h1 h2 g ih=>
  intro x hx w hw;cases ws with
  |nil=>
   simp at hx hw;rw[← hx,hw];exact Int.le_refl _
  |cons y ys=>
   rw[List.getLast?_cons_cons] at hx;rcases List.mem_cons.1 hw with rfl | hw
   ·have k:=ih x hx y (by simp);obtain⟨j,k1,k2,_⟩:=JN g y (by simp);have:((i:Nat):Int)≤x.at_:=by omega
    exact this
   ·exact ih x hx w hw
theorem V3 {a b:List Int}:∀ (m p:Nat) (ws:List WE),K9 a b p ws→dX a m p ws=some ((List.range' p m).map fun j=>b.getD j 0)
 |0,p,ws,h=>by rw[dX];rfl
 |m+1,p,ws,h=>by
  rw[List.range'_succ,List.map_cons];cases h with
  |nil _ h=>
   rw[Yn (fun x xs e=>by cases e),V3 m (p+1) [] (.nil _ fun i hi=>h i (by omega)),h p (Cj _)];rfl
  |cons _ i mk o n ws hp h hi hm ho hn h1 h2 g=>
   by_cases e:p=i
   ·subst e;rw[qk rfl ho,V3 m (p+1) ws g];simp only[h1];rfl
   ·rw[Yn (fun x xs ex=>by cases ex;show((i:Nat):Int) ≠ (p:Int);omega),V3 m (p+1) _ (.cons (p+1) i mk o n ws (by omega) (fun j h1 h2=>h j (by omega) h2) hi hm ho hn h1 h2 g),h p (Cj _) (by omega)];rfl
theorem L9 {R:E→T→T→Prop} {a b:List T} {p:Nat} {ks:List KE} (h:Uf R a b p ks):∀ w,w ∈ ks→∃ i:Nat,w.at_=i∧p≤i∧i<max a.length b.length∧w.e.kind ≠ 0∧R w.e (a.getD i T0) (b.getD i T0):=by
 induction h with
 |nil p h=>intro w hw;simp at hw
 |cons p i e ks hp h hi he hr _ ih=>
  intro w hw;rcases List.mem_cons.1 hw with rfl | hw
  ·exact⟨i,rfl,hp,hi,he,hr⟩
  ·obtain⟨j,k1,k2,k3⟩:=ih w hw;exact⟨j,k1,by omega,k3⟩
theorem rX {R:E→T→T→Prop} {a b:List T} {p:Nat} {ks:List KE} (h:Uf R a b p ks):∀ i:Nat,p≤i→(∀ w,w ∈ ks→w.at_<(i:Int))→Ag (a.getD i T0)=Ag (b.getD i T0):=by
 induction h with
 |nil p h=>intro i hi _;exact h i hi
 |cons p i e ks hp h hi he hr _ ih=>
  intro j hj hw;have:((i:Nat):Int)<(j:Int):=hw (.mk i e) (by simp);exact ih j (by omega) fun w h=>hw w (List.mem_cons_of_mem _ h)
theorem SA {R:E→T→T→Prop} {a b:List T} {p:Nat} {ks:List KE} (h:Uf R a b p ks):∀ x,ks.getLast? = some x→∀ w,w ∈ ks→w.at_≤x.at_:=by
 induction h with
 |nil p h=>intro x hx;simp at hx
 |cons p i e ks hp h hi he hr g ih=>
  intro x hx w hw;cases ks with
  |nil=>
   simp at hx hw;rw[← hx,hw];exact Int.le_refl _
  |cons y ys=>
   rw[List.getLast?_cons_cons] at hx;rcases List.mem_cons.1 hw with rfl | hw
   ·have k:=ih x hx y (by simp);obtain⟨j,k1,k2,_⟩:=L9 g y (by simp);have:((i:Nat):Int)≤x.at_:=by omega
    exact this
   ·exact ih x hx w hw
theorem Wv {R:E→T→T→Prop} (hR:∀ e x y,R e x y→pg e x=some (Ag y)) {a b:List T}:∀ (m p:Nat) (ks:List KE),Uf R a b p ks→∃ L,dQ a m p (Ox ks)=some L∧L.length=m∧∀ j,j<m→Ag (L.getD j T0)=Ag (b.getD (p+j) T0)
 |0,p,ks,h=>⟨[],by rw[dQ],rfl,fun j hj=>by omega⟩
 |m+1,p,ks,h=>by
  have ext:∀ (u:T) (L:List T),Ag u=Ag (b.getD p T0)→L.length=m→(∀ j,j<m→Ag (L.getD j T0)=Ag (b.getD (p+1+j) T0))→(u::L).length=m+1∧∀ j,j<m+1→Ag ((u::L).getD j T0)=Ag (b.getD (p+j) T0):=fun u L h0 h1 h2=>by
   refine⟨by simp[h1],fun j hj=>?_⟩;cases j with
   |zero=>simpa using h0
   |succ j=>
    have:=h2 j (by omega);rw[show p+(j+1)=p+1+j from by omega];simpa using this
  cases h with
  |nil _ h=>
   obtain⟨L,k1,k2,k3⟩:=Wv hR m (p+1) [] (.nil _ fun i hi=>h i (by omega));rw[Ox] at k1 ⊢;refine⟨a.getD p T0::L,by rw[Yo (fun x xs e=>by cases e),k1];rfl,ext _ _ (h p (Cj _)) k2 k3⟩
  |cons _ i e ks hp h hi he hr g=>
   by_cases ep:p=i
   ·subst ep;obtain⟨L,k1,k2,k3⟩:=Wv hR m (p+1) ks g;refine⟨Ag (b.getD p T0)::L,?_,ext _ _ (Es _) k2 k3⟩;rw[Ox,pI rfl (hR _ _ _ hr),k1];rfl
   ·obtain⟨L,k1,k2,k3⟩:=Wv hR m (p+1) (.mk i e::ks) (.cons (p+1) i e ks (by omega) (fun j h1 h2=>h j (by omega) h2) hi he hr g);refine⟨a.getD p T0::L,?_,ext _ _ (h p (Cj _) (by omega)) k2 k3⟩;rw[Ox] at k1 ⊢;rw[Yo (fun x xs ex=>by cases ex;show((i:Nat):Int) ≠ (p:Int);omega),k1];rfl
theorem fF:∀ {l m:List T},l.map Ag=m.map Ag→(l.zip m).all (fun p=>Kd p.1 p.2)=true
 |[],[],_=>rfl
 |[],y::m,h=>by simp at h
 |x::l,[],h=>by simp at h
 |x::l,y::m,h=>by
  rw[List.map_cons,List.map_cons] at h;rw[List.zip_cons_cons,List.all_cons,Bool.and_eq_true];exact⟨eqT_iff.2 (List.cons.inj h).1,fF (List.cons.inj h).2⟩
theorem qb {R:E→T→T→Prop} (hR:∀ e x y,R e x y→pg e x=some (Ag y)) {os:List OP} {a b:List T} (h:LdO R os a b):∀ (tk:List T) (i:Nat),tk.drop i=a→i≤tk.length→∃ B,Tx tk i (WM os)=some (B,tk.length)∧B.map Ag=b.map Ag:=by
 induction h with
 |nil=>
  intro tk i hd hi;have:tk.length≤i:=by simpa using hd
  exact⟨[],by rw[WM,Tx,show i=tk.length from by omega],rfl⟩
 |@keep os a b l m hne hl _ ih=>
  intro tk i hd hi;have hlen:tk.length-i=l.length+a.length:=by rw[← List.length_drop,hd,List.length_append]
  have hd2:tk.drop (i+l.length)=a:=by rw[← List.drop_drop,hd,List.drop_left]
  obtain⟨B,k1,k2⟩:=ih tk (i+l.length) hd2 (by omega);refine⟨l++B,?_,by rw[List.map_append,List.map_append,hl,k2]⟩;rw[WM,Tx,if_pos rfl,Int.toNat_natCast,if_pos (by omega),k1,hd,List.take_left];rfl
 |@del os a b l m hne hl _ ih=>
  intro tk i hd hi;have hlen:tk.length-i=m.length+a.length:=by rw[← List.length_drop,hd,List.length_append]
  have hl2:l.length=m.length:=by simpa using congrArg List.length hl
  have hd2:tk.drop (i+l.length)=a:=by rw[← List.drop_drop,hd,hl2,List.drop_left]
  obtain⟨B,k1,k2⟩:=ih tk (i+l.length) hd2 (by omega);refine⟨B,?_,k2⟩;rw[WM,Tx,if_neg (by decide),if_pos rfl,if_pos ⟨by omega,by rw[hd,hl2,List.take_left];exact fF hl.symm⟩,k1]
 |@ins os a b l m hne hl _ ih=>
  intro tk i hd hi;obtain⟨B,k1,k2⟩:=ih tk i hd hi;refine⟨l++B,?_,by rw[List.map_append,List.map_append,hl,k2]⟩;rw[WM,Tx,if_neg (by decide),if_neg (by decide),if_pos rfl,k1];rfl
 |@desc os a b e x y hr _ ih=>
  intro tk i hd hi;have hlen:tk.length-i=a.length+1:=by rw[← List.length_drop,hd,List.length_cons]
  have hd2:tk.drop (i+1)=a:=by rw[← List.drop_drop,hd];rfl
  have hx:tk[i]? = some x:=by
   have:=congrArg (fun l:List T=>l[0]?) hd;simpa using this
  obtain⟨B,k1,k2⟩:=ih tk (i+1) hd2 (by omega);refine⟨Ag y::B,?_,by rw[List.map_cons,List.map_cons,k2,Es]⟩;rw[WM,Tx,if_neg (by decide),if_neg (by decide),if_neg (by decide),hx];dsimp only;rw[hR _ _ _ hr];dsimp only;rw[k1];rfl
theorem YT {e:E} {a b:T} (h:lx e a b):pg e a=some (Ag b):=by
 rcases h with ⟨rfl,h⟩ | ⟨o,n,rfl,h1,h2⟩
 ·rw[Ww,U5,if_pos rfl,h]
 ·rw[Ww,U5,if_neg (by decide),if_pos rfl,if_pos (eqT_iff.2 h1),h2]
theorem vW:∀ (f:Nat) (e:E) (a b:T),Ld f e a b→pg e a=some (Ag b):=by
 intro f;induction f with
 |zero=>exact fun e a b h=>YT h
 |succ f ih=>
  intro e a b h;rcases h with h | ⟨ws,ks,rfl,h1,h2,h3,h4⟩ | ⟨os,rfl,h1,h2,hv,h3⟩
  ·exact YT h
  ·obtain⟨L,k1,k2,k3⟩:=Wv ih (UU (Ox ks) a.kids.length) 0 ks h4;rw[Ww,U5,if_neg (by decide),if_neg (by decide),if_pos rfl,if_pos h1,V3 _ 0 ws h3,k1];dsimp only;obtain⟨kb,wb,lb⟩:=b;have h2:kb=1:=h2;subst h2;congr 1;refine struct_eq.2 ⟨fun i=>?_,fun i=>?_⟩
   ·by_cases hi:i<Vt ws a.words.length
    ·simp[List.getD_eq_getElem?_getD,hi,List.getElem?_range']
    ·have hl:∀ w,w ∈ ws→w.at_<(i:Int):=fun w hw=>by
      unfold Vt at hi;cases e:ws.getLast? with
      |none=>rw[List.getLast?_eq_none_iff.1 e] at hw;simp at hw
      |some x=>
       rw[e] at hi;have:=nL h3 x e w hw;simp only at hi;omega
     have hal:a.words.length≤i:=by
      unfold Vt at hi;split at hi<;>omega
     have:=rI h3 i (Nat.zero_le _) hl;have e1:a.words.getD i 0=0:=by rw[List.getD_eq_getElem?_getD,List.getElem?_eq_none hal];rfl
     have e2:((List.range' 0 (Vt ws a.words.length)).map fun j=>wb.getD j 0).getD i 0=0:=by rw[List.getD_eq_getElem?_getD,List.getElem?_eq_none (by simp;omega)];rfl
     have e3:wb.getD i 0=0:=this.symm.trans e1;exact e2.trans e3.symm
   ·by_cases hi:i<UU (Ox ks) a.kids.length
    ·have:=k3 i hi;rw[Nat.zero_add] at this;exact this
    ·have hl:∀ w,w ∈ ks→w.at_<(i:Int):=fun w hw=>by
      unfold UU at hi;rw[X5,List.getLast?_map] at hi;cases e:ks.getLast? with
      |none=>rw[List.getLast?_eq_none_iff.1 e] at hw;simp at hw
      |some x=>
       rw[e] at hi;have:=SA h4 x e w hw;simp only[Option.map_some] at hi;omega
     have hal:a.kids.length≤i:=by
      unfold UU at hi;split at hi<;>omega
     have:=rX h4 i (Nat.zero_le _) hl;have e1:a.kids.getD i T0=T0:=by rw[List.getD_eq_getElem?_getD,List.getElem?_eq_none hal];rfl
     have e2:L.getD i T0=T0:=by rw[List.getD_eq_getElem?_getD,List.getElem?_eq_none (by omega)];rfl
     have e3:Ag (lb.getD i T0)=Ag T0:=this.symm.trans (by rw[e1]);rw[e2,e3]
  ·obtain⟨B,k1,k2⟩:=qb ih h3 a.kids 0 rfl (Nat.zero_le _);have n1:a.kind ≠ 0:=by omega
   rw[Ww,U5,if_neg (by decide),if_neg (by decide),if_neg (by decide),if_pos rfl,if_pos rfl,k1];dsimp only;rw[if_pos rfl];congr 1;obtain⟨kb,wb,lb⟩:=b;have h1:kb=a.kind:=h1;have hv2:wb=[]:=hv.2;subst h1;subst hv2;exact(LR n1 (by omega)).2 ⟨rfl,k2⟩
theorem La {f:Nat} {e:E} {a b:T} (h:Ld f e a b):JC e a=Ag b:=by rw[JC,vW f e a b h];rfl
def Adf (c:Cf):Cf:=⟨c.path,c.base,c.theirs,c.ours⟩
def PM (m:Int):Prop:=0≤m∧m<256
theorem iL {a b:WE} (ha:PM a.mask) (hb:PM b.mask):Lj b a=Lj a b:=by
 unfold Lj;rw[bt hb ha];exact decide_eq_decide.2 ⟨Ne.symm,Ne.symm⟩
theorem jZ {a b:WE} (ha:PM a.mask) (hb:PM b.mask) (at':CV) (i:Nat) (w:Int):PD at' i w b a=(PD at' i w a b).map Adf:=by
 unfold PD;rw[iL ha hb];split<;>rfl
theorem vf {ws:List WE} (h:∀ w,w ∈ ws→PM w.mask) (i:Nat):PM (GA ws i).mask:=by
 unfold GA;cases e:ws.find? fun w=>decide (w.at_=(i:Int)) with
 |none=>exact⟨by decide,by decide⟩
 |some w=>exact h w (List.mem_of_find?_eq_some e)
theorem EV:∀ (ws:List WE) (n:Nat),DG n ws=max n (DG 0 ws)
 |[],n=>by simp[DG]
 |w::ws,n=>by
  have e:∀ n,DG n (w::ws)=DG (max n (w.at_+1).toNat) ws:=fun n=>rfl;rw[e,e,EV ws,EV ws (max 0 _)];omega
theorem IU:∀ (ws:List KE) (n:Nat),CR n ws=max n (CR 0 ws)
 |[],n=>by simp[CR]
 |w::ws,n=>by
  have e:∀ n,CR n (w::ws)=CR (max n (w.at_+1).toNat) ws:=fun n=>rfl;rw[e,e,IU ws,IU ws (max 0 _)];omega
section
variable {P:E→Prop} {M:CV→T→E→E→T × List Cf}
end
theorem dw {P:E→Prop} (h0:P E0) {ks:List KE} (h:∀ x,x ∈ ks→P x.e) (i:Nat):P (F3 ks i):=by
 unfold F3;cases e:ks.find? fun k=>decide (k.at_=(i:Int)) with
 |none=>exact h0
 |some w=>exact h w (List.mem_of_find?_eq_some e)
inductive LdU (R:E→T→T→Prop):List U→List T→List T→Prop
 |nil:LdU R [] [] []
 |keep {us:List U} {a b:List T} (x y:T) (h:Ag x=Ag y) (g:LdU R us a b):LdU R (.keep::us) (x::a) (y::b)
 |del {us:List U} {a b:List T} (t x:T) (h:Ag t=Ag x) (g:LdU R us a b):LdU R (.del t::us) (x::a) b
 |ins {us:List U} {a b:List T} (t y:T) (h:Ag t=Ag y) (g:LdU R us a b):LdU R (.ins t::us) a (y::b)
 |desc {us:List U} {a b:List T} (e:E) (x y:T) (h:R e x y) (g:LdU R us a b):LdU R (.desc e::us) (x::a) (y::b)
theorem Vb {R:E→T→T→Prop} {us:List U} {a b:List T} (g:LdU R us a b):∀ {l m:List T},l.map Ag=m.map Ag→LdU R (List.replicate l.length .keep++us) (l++a) (m++b)
 |[],[],_=>g
 |[],y::m,h=>by simp at h
 |x::l,[],h=>by simp at h
 |x::l,y::m,h=>by
  rw[List.map_cons,List.map_cons] at h;exact .keep x y (List.cons.inj h).1 (Vb g (List.cons.inj h).2)
theorem ZO {R:E→T→T→Prop} {us:List U} {a b:List T} (g:LdU R us a b):∀ {l m:List T},l.map Ag=m.map Ag→LdU R (l.map .del++us) (m++a) b
 |[],[],_=>g
 |[],y::m,h=>by simp at h
 |x::l,[],h=>by simp at h
 |x::l,y::m,h=>by
  rw[List.map_cons,List.map_cons] at h;exact .del x y (List.cons.inj h).1 (ZO g (List.cons.inj h).2)
theorem Y2 {R:E→T→T→Prop} {us:List U} {a b:List T} (g:LdU R us a b):∀ {l m:List T},l.map Ag=m.map Ag→LdU R (l.map .ins++us) a (m++b)
 |[],[],_=>g
 |[],y::m,h=>by simp at h
 |x::l,[],h=>by simp at h
 |x::l,y::m,h=>by
  rw[List.map_cons,List.map_cons] at h;exact .ins x y (List.cons.inj h).1 (Y2 g (List.cons.inj h).2)
theorem C6 (o:OP) (os:List OP):Ku (o::os)=NR o++Ku os:=rfl
theorem V8 {R:E→T→T→Prop} {os:List OP} {a b:List T} (h:LdO R os a b):LdU R (Ku os) a b:=by
 induction h with
 |nil=>exact .nil
 |keep l m hne hl _ ih=>
  rw[C6];have:=Vb ih hl;simpa[NR] using this
 |del l m hne hl _ ih=>
  rw[C6];have:=ZO ih hl;simpa[NR] using this
 |ins l m hne hl _ ih=>
  rw[C6];have:=Y2 ih hl;simpa[NR] using this
 |desc e x y r _ ih=>
  rw[C6];have:=LdU.desc e x y r ih;simpa[NR] using this
theorem V2 {R:E→T→T→Prop} {us:List U} {a b:List T} (h:LdU R us a b):∃ y1 y2,b=y1++y2∧(G7 us).map Ag=y1.map Ag∧LdU R (EG us) a y2∧∀ t vs,EG us ≠ .ins t::vs:=by
 induction h with
 |nil=>exact⟨[],[],rfl,rfl,.nil,fun t vs e=>by cases e⟩
 |keep x y h g _=>exact⟨[],_,rfl,rfl,.keep x y h g,fun t vs e=>by cases e⟩
 |del t x h g _=>exact⟨[],_,rfl,rfl,.del t x h g,fun t vs e=>by cases e⟩
 |desc e x y h g _=>exact⟨[],_,rfl,rfl,.desc e x y h g,fun t vs e=>by cases e⟩
 |ins t y h g ih=>
  obtain⟨y1,y2,rfl,h1,h2,h3⟩:=ih;exact⟨y::y1,y2,rfl,by rw[G7,List.map_cons,List.map_cons,h,h1],h2,h3⟩
theorem ml {a b:List Int} (ha:∀ x,x ∈ a→Bo x) {p:Nat} {ws:List WE} (h:K9 a b p ws):∀ i:Nat,p≤i→BV (a.getD i 0) (GA ws i).new (GA ws i).mask=b.getD i 0:=by
 induction h with
 |nil p h=>
  intro i hi;show BV _ 0 0=_;rw[J5 (Ej ha i)];exact h i hi
 |cons p i m o n ws hp h hi hm ho hn h1 h2 g ih=>
  intro j hj;unfold GA;rw[List.find?_cons];by_cases e:i=j
  ·subst e;simpa using h1
  ·rw[show decide (((⟨i,m,o,n⟩:WE)).at_=(j:Int))=false from decide_eq_false (by show ¬ ((i:Nat):Int)=(j:Int);omega)];by_cases c:i<j
   ·exact ih j (by omega)
   ·have hn:ws.find? (fun w=>decide (w.at_=(j:Int)))=none:=List.find?_eq_none.2 fun w hw=>by
     obtain⟨k,k1,k2,_⟩:=JN g w hw;simp;omega
    simp only[hn];show BV _ 0 0=_;rw[J5 (Ej ha j)];exact h j hj (by omega)
theorem WJ {R:E→T→T→Prop} (h0:∀ x y,Ag x=Ag y→R E0 x y) {a b:List T} {p:Nat} {ks:List KE} (h:Uf R a b p ks):∀ i:Nat,p≤i→R (F3 ks i) (a.getD i T0) (b.getD i T0):=by
 induction h with
 |nil p h=>exact fun i hi=>h0 _ _ (h i hi)
 |cons p i e ks hp h hi he hr g ih=>
  intro j hj;unfold F3;rw[List.find?_cons];by_cases ei:i=j
  ·subst ei;simpa using hr
  ·rw[show decide ((KE.mk (i:Nat) e).at_=(j:Int))=false from decide_eq_false (by show ¬ ((i:Nat):Int)=(j:Int);omega)];by_cases c:i<j
   ·exact ih j (by omega)
   ·have hn:ks.find? (fun w=>decide (w.at_=(j:Int)))=none:=List.find?_eq_none.2 fun w hw=>by
     obtain⟨k,k1,k2,_⟩:=L9 g w hw;simp;omega
    simp only[hn];exact h0 _ _ (h j hj (by omega))
theorem Ln:∀ {ws:List WE} {n:Nat} {w:WE},w ∈ ws→w.at_<DG n ws
 |x::ws,n,w,h=>by
  show w.at_<DG (max n (x.at_+1).toNat) ws;rcases List.mem_cons.1 h with rfl | h
  ·rw[EV];omega
  ·exact Ln h
theorem Zh:∀ {ws:List KE} {n:Nat} {w:KE},w ∈ ws→w.at_<CR n ws
 |x::ws,n,w,h=>by
  show w.at_<CR (max n (x.at_+1).toNat) ws;rcases List.mem_cons.1 h with rfl | h
  ·rw[IU];omega
  ·exact Zh h
theorem X8 {α:Type} (g:Nat→α) (z:α) (n i:Nat) (h:n≤i→g i=z):((List.range n).map g).getD i z=g i:=by
 by_cases c:i<n
 ·simp[List.getD_eq_getElem?_getD,c]
 ·rw[List.getD_eq_getElem?_getD,List.getElem?_eq_none (by simp;omega),h (by omega)];rfl
theorem qM {f:Nat} {at':CV} {o:T} {p q:E} (h:p.kind=0):mg f at' o p q=(JC q o,[]):=by
 cases f with
 |zero=>exact if_pos h
 |succ f=>rw[mg,if_neg (by omega),if_neg (by omega)];exact if_pos h
end Go.Proofs.YtndnlknocdangaaGreat
namespace Go.Proofs.YtndnlknocdangaaGreat
set_option maxRecDepth 20000
open Go Go.G Go.Proofs
@[simp] theorem AgA:Tryz.prog.underlying 35=some (.slice 51):=by kernel_rfl
@[simp] theorem AgW:Tryz.prog.underlying 49=some (.slice 65):=by kernel_rfl
@[simp] theorem Afn:Tryz.prog.underlying 107=some (.slice 27):=by kernel_rfl
@[simp] theorem AeP:Tryz.prog.underlying 113=some (.slice 117):=by kernel_rfl
@[simp] theorem AgS:CX Tryz.prog 35=some 1:=by kernel_rfl
@[simp] theorem Af4:CX Tryz.prog 49=some 1:=by kernel_rfl
@[simp] theorem Agr:CX Tryz.prog 51=some 10:=by kernel_rfl
@[simp] theorem Ahk:CX Tryz.prog 65=some 2:=by kernel_rfl
@[simp] theorem Ag6:CX Tryz.prog 66=some 1:=by kernel_rfl
@[simp] theorem AfC:CX Tryz.prog 110=some 1:=by kernel_rfl
@[simp] theorem AeH:CX Tryz.prog 117=some 29:=by kernel_rfl
@[simp] theorem AdD:Dj Tryz.prog 35=some false:=by kernel_rfl
@[simp] theorem Ad8:Dj Tryz.prog 49=some false:=by kernel_rfl
@[simp] theorem Aes:Dj Tryz.prog 66=some false:=by kernel_rfl
@[simp] theorem Adt:Dj Tryz.prog 110=some false:=by kernel_rfl
@[simp] theorem AbN:Dj Tryz.prog 117=some true:=by kernel_rfl
@[simp] theorem AbP:Bh Tryz.prog 22=some (Value.slice none 0 0):=by kernel_rfl
@[simp] theorem AaB:Bh Tryz.prog 27=some (Value.slice none 0 0):=by kernel_rfl
@[simp] theorem Ab8:Bh Tryz.prog 51=some (Value.agg #[Value.slice none 0 0,Value.int i64 0,Value.slice none 0 0,Value.slice none 0 0,Value.int i64 0,Value.slice none 0 0,Value.slice none 0 0,Value.int i64 0,Value.slice none 0 0,Value.slice none 0 0]):=by kernel_rfl
@[simp] theorem Adr:Bh Tryz.prog 65=some (Value.agg #[Value.int i64 0,Value.int i64 0]):=by kernel_rfl
@[simp] theorem zy:Bh Tryz.prog 117=some (Value.agg #[Value.int i64 0,Value.int i64 0,Value.int i64 0,Value.slice none 0 0,Value.int i64 0,Value.int i64 0,Value.slice none 0 0,Value.slice none 0 0,Value.int i64 0,Value.slice none 0 0,Value.slice none 0 0,Value.slice none 0 0,Value.slice none 0 0,Value.int i64 0,Value.slice none 0 0,Value.int i64 0,Value.int i64 0,Value.slice none 0 0,Value.int i64 0,Value.int i64 0,Value.slice none 0 0,Value.slice none 0 0,Value.int i64 0,Value.slice none 0 0,Value.slice none 0 0,Value.slice none 0 0,Value.slice none 0 0,Value.int i64 0,Value.slice none 0 0]):=by kernel_rfl
@[simp] theorem ya:Bs Tryz.prog 27=some 24:=by kernel_rfl
@[simp] theorem ze:Bs Tryz.prog 51=some 192:=by kernel_rfl
@[simp] theorem zA:Bs Tryz.prog 65=some 16:=by kernel_rfl
@[simp] theorem ux:Bs Tryz.prog 117=some 488:=by kernel_rfl
@[simp] theorem j0:Aj Tryz.prog 68 0=some 0:=by kernel_rfl
@[simp] theorem ja:Aj Tryz.prog 112 0=some 0:=by kernel_rfl
@[simp] theorem jJ:Aj Tryz.prog 112 1=some 1:=by kernel_rfl
@[simp] theorem ji:Aj Tryz.prog 112 2=some 2:=by kernel_rfl
@[simp] theorem jb:Aj Tryz.prog 112 3=some 5:=by kernel_rfl
@[simp] theorem jz:Aj Tryz.prog 112 4=some 6:=by kernel_rfl
@[simp] theorem jt:Aj Tryz.prog 112 5=some 7:=by kernel_rfl
@[simp] theorem jn:Aj Tryz.prog 112 6=some 8:=by kernel_rfl
@[simp] theorem js:Aj Tryz.prog 117 0=some 0:=by kernel_rfl
@[simp] theorem jd:Aj Tryz.prog 117 1=some 1:=by kernel_rfl
@[simp] theorem jD:Aj Tryz.prog 117 2=some 15:=by kernel_rfl
@[simp] theorem jF:Aj Tryz.prog 179 0=some 0:=by kernel_rfl
@[simp] theorem jA:Aj Tryz.prog 179 1=some 1:=by kernel_rfl
@[simp] theorem yO (ps:List (Nat × A)):Ch Tryz.prog 51 ps=(CT (fun i=>([(0,1),(1,3),(4,3),(7,3)]:List (Nat × Nat))[i]?) [A.sl true [],iv 0,A.sl true [],A.sl true [],iv 0,A.sl true [],A.sl true [],iv 0,A.sl true [],A.sl true []] ps).map A.agg:=by kernel_rfl
@[simp] theorem xI (ps:List (Nat × A)):Ch Tryz.prog 65 ps=(CT (fun i=>([(0,1),(1,1)]:List (Nat × Nat))[i]?) [iv 0,iv 0] ps).map A.agg:=by kernel_rfl
@[simp] theorem yF (ps:List (Nat × A)):Ch Tryz.prog 68 ps=(CT (fun i=>([(0,1)]:List (Nat × Nat))[i]?) [A.sl true []] ps).map A.agg:=by kernel_rfl
@[simp] theorem uG (ps:List (Nat × A)):Ch Tryz.prog 112 ps=(CT (fun i=>([(0,1),(1,1),(2,3),(5,1),(6,1),(7,1),(8,1)]:List (Nat × Nat))[i]?) [A.v (Value.pointer none),A.sl true [],iv 0,A.sl true [],A.sl true [],iv 0,A.sl true [],A.sl true [],A.sl true []] ps).map A.agg:=by kernel_rfl
@[simp] theorem wP (ps:List (Nat × A)):Ch Tryz.prog 117 ps=(CT (fun i=>([(0,1),(1,14),(15,14)]:List (Nat × Nat))[i]?) [iv 0,iv 0,iv 0,A.sl true [],iv 0,iv 0,A.sl true [],A.sl true [],iv 0,A.sl true [],A.sl true [],A.sl true [],A.sl true [],iv 0,A.sl true [],iv 0,iv 0,A.sl true [],iv 0,iv 0,A.sl true [],A.sl true [],iv 0,A.sl true [],A.sl true [],A.sl true [],A.sl true [],iv 0,A.sl true []] ps).map A.agg:=by kernel_rfl
@[simp] theorem vX (ps:List (Nat × A)):Ch Tryz.prog 179 ps=(CT (fun i=>([(0,1),(1,1)]:List (Nat × Nat))[i]?) [A.sl true [],iv 0] ps).map A.agg:=by kernel_rfl
def OZ:CC:=sR [bX 1 91 0 [0],aI 2 0] [1] (sQ [fO 3 91 1 0,lO 4 3 3,bQ .eql 5 3 4 3 3] [1,5] (cD 5 (sR [aI 2 1] [2] (.ret)) (.skip)) [1] (sR [fO 6 91 1 1,lO 7 3 6,fO 8 91 1 2,lO 9 23 8,bN 10 9 23,bB .add 11 3 7 10 3,aO 2 11] [2] (.ret)))
theorem Xh:BU Tryz.prog 166 12 [(.tmp 2)] OZ:=AH Tryz.func166
def HR:CC:=sR [aB 2 false] [0] (sR [mO 3 0,nC 4 3,fO 5 179 4 0,lO 6 28 5,bN 7 6 28,bQ .eql 8 3 7 0 3,aO 2 8] [2] (.ret))
theorem MG:BU Tryz.prog 167 9 [(.tmp 2)] HR:=AH Tryz.func167
def GP:CC:=sR [aB 2 false] [0] (sR [mO 3 0,cA 4 167 3 177,oO 5 (.unOp .not 4 (xT 4)),mO 6 5,mG 7 0 6 true,oG 8 (.nilCheck (xT 7)) 6 true,fG 9 179 8 0 6 true,lG 10 28 9 6 true,oG 11 (.indexAddr 28 (xT 10) (nI 0)) 6 true,fG 12 91 11 0 6 true,lG 13 3 12 6 true,mG 14 0 6 true,oG 15 (.nilCheck (xT 14)) 6 true,fG 16 179 15 1 6 true,lG 17 3 16 6 true,oG 18 (bO .eql 3 13 17 3) 6 true,pF 19 6 18,aO 2 19] [2] (.ret))
theorem K4:BU Tryz.prog 164 20 [(.tmp 2)] GP:=AH Tryz.func164
def ER:CC:=sR [mO 50 0,lO 51 91 7,⟨some 52,(.buildSlice 28 1 #[(0,(xT 51))]),none,[5],2,[],true⟩,mO 53 0,nC 54 53,fO 55 179 54 0,⟨some 56,(lD 28 55),none,[],6,[2],false⟩,oO 57 (.slice 28 (xT 56) (some (nI 1)) none none),aP 58 52 57 28 28 [5],nC 59 50,fO 60 179 59 0,sT 28 60 58] [4,6] (sR [lO 61 91 6,sT 91 4 61] [4] (.ret)) 
def HY:CC:=sR [aL 4 91 [1]] [0,1,4] (sR [mO 8 0,nC 9 8,fO 10 179 9 0,lO 11 28 10,oO 12 (.indexAddr 28 (xT 11) (nI 0)),lO 13 91 12,aL 5 91 [2],sT 91 5 13] [0,1,4,5] (sQ [mO 14 1,lO 15 91 5,cA 16 166 15 91,bB .geq 17 3 14 16 3] [0,1,4,5,17] (cD 17 (sR [mO 18 0,mO 19 0,nC 20 19,fO 21 179 20 0,lO 22 28 21,oO 23 (.slice 28 (xT 22) (some (nI 1)) none none),nC 24 18,fO 25 179 24 0,sT 28 25 23] [4,5] (sR [lO 26 91 5,sT 91 4 26] [4] (.ret))) (.skip)) [0,1,4,5] (sR [lS 27 91 5 0,lS 28 91 5 1,⟨some 6,(.alloc 91),none,[3],2,[0,1],true⟩,⟨some 7,(.alloc 91),none,[4],3,[0,1,2],false⟩,⟨none,(.store 91 (xT 6) (xT 27)),none,[],4,[1],false⟩,sT 91 7 28] [0,1,4,5,6,7] (sQ [fO 29 91 5 0,lO 30 3 29,bQ .eql 31 3 30 0 3] [0,1,4,5,6,7,31] (cD 31 (.reg [mO 32 1,fO 33 91 5 1,lS 34 3 33 2,mO 35 1,bB .sub 36 3 34 35 3,fO 37 91 6 1,⟨none,(.store 3 (xT 37) (xT 32)),none,[],6,[2],false⟩,fO 38 91 7 1,sT 3 38 36] [0,4,6,7]) (.reg [fO 39 91 5 2,lO 40 23 39,mO 41 1,mO 42 1,oO 43 (.slice 23 (xT 40) none (some (xT 41)) (some (xT 42))),fO 44 91 5 2,lS 45 23 44 6,mO 46 1,oO 47 (.slice 23 (xT 45) (some (xT 46)) none none),fO 48 91 6 2,⟨none,(.store 23 (xT 48) (xT 43)),none,[],10,[6],false⟩,fO 49 91 7 2,sT 23 49 47] [0,4,6,7])) [0,4,6,7] ER))))
theorem MR:BU Tryz.prog 165 62 [(.cell 4 91)] HY:=AH Tryz.func165
def Er:CC:=.block 1 (.block 2 (sR [mO 34 0,cA 35 164 34 177,aO 33 35] [0,1,6,33] (cD 33 (.reg [mO 36 6,mO 37 0,mO 38 0,nC 39 38,fO 40 179 39 0,lO 41 28 40,oO 42 (.indexAddr 28 (xT 41) (nI 0)),lO 43 91 42,cA 44 166 43 91,cB 45 165 37 44 177 3,oO 46 (.build 117 #[(0,(nI 1)),(1,(xT 45))]),oO 47 (.buildSlice 113 1 #[(0,(xT 46))]),aP 48 36 47 113 113 [2],aO 6 48] [0,1,6]) (sR [mO 50 1,cA 51 164 50 177,aO 49 51] [0,1,6,49] (cD 49 (.reg [mO 52 6,mO 53 1,mO 54 1,nC 55 54,fO 56 179 55 0,lO 57 28 56,oO 58 (.indexAddr 28 (xT 57) (nI 0)),lO 59 91 58,cA 60 166 59 91,cB 61 165 53 60 177 3,oO 62 (.build 117 #[(0,(nI 2)),(2,(xT 61))]),oO 63 (.buildSlice 113 1 #[(0,(xT 62))]),aP 64 52 63 113 113 [3],aO 6 64] [0,1,6]) (sR [mO 66 0,cA 67 167 66 177,mO 68 67,mG 69 1 68 false,oG 70 (cL 167 #[(xT 69)] #[177]) 68 false,pT 71 68 70,aO 65 71] [0,1,6,65] (cD 65 (sQ [mO 72 0,cA 73 167 72 177,mO 74 1,cA 75 167 74 177,bB .neq 76 4 73 75 4] [6,76] (cD 76 (sR [aN 4,aB 5 false] [4,5] (.ret)) (.skip)) [6] (sR [mO 77 6,aO 4 77,aB 5 true] [4,5] (.ret))) (sR [mO 8 0,nC 9 8,fO 10 179 9 0,lO 11 28 10,oO 12 (.indexAddr 28 (xT 11) (nI 0)),lO 13 91 12,⟨some 14,(cL 166 #[(xT 13)] #[91]),none,[],6,[],true⟩,mO 15 1,nC 16 15,fO 17 179 16 0,⟨some 18,(lD 28 17),none,[],10,[6],false⟩,oO 19 (.indexAddr 28 (xT 18) (nI 0)),⟨some 20,(lD 91 19),none,[],12,[6],false⟩,cA 21 166 20 91,oO 22 (bC .min #[(xT 14),(xT 21)] #[3,3]),aO 7 22] [0,1,6,7] (.reg [mO 23 6,mO 24 0,mO 25 7,cB 26 165 24 25 177 3,mO 27 1,mO 28 7,cB 29 165 27 28 177 3,oO 30 (.build 117 #[(1,(xT 26)),(2,(xT 29))]),oO 31 (.buildSlice 113 1 #[(0,(xT 30))]),aP 32 23 31 113 113 [4],aO 6 32] [0,1,6]))))))))) 
def Oj:CC:=sR [aN 4,aB 5 false] [0,1] (sR [aN 6] [0,1,6] (.block 0 (.loop Er)))
theorem Wz:BU Tryz.prog 133 78 [(.tmp 4),(.tmp 5)] Oj:=AH Tryz.func133
def K3:CC:=sR [aN 4,aB 5 false] [0,1] (sR [mO 6 0,oO 7 (.build 179 #[(0,(xT 6)),(1,(nI 2))]),bX 8 179 7 [0],mO 9 1,oO 10 (.build 179 #[(0,(xT 9)),(1,(nI 2))]),bX 11 179 10 [1],cB 12 133 8 11 177 177,xO 13 12 0,xO 14 12 1,aO 4 13,aO 5 14] [4,5] (.ret))
theorem Rh:BU Tryz.prog 86 15 [(.tmp 4),(.tmp 5)] K3:=AH Tryz.func86
def BB:CC:=sR [aN 2] [0] (sQ [mO 3 0,oO 4 (.binOp .eql 49 (xT 3) nS 49)] [0,4] (cD 4 (sR [aN 2] [2] (.ret)) (.skip)) [0] (sR [oO 5 (.buildSlice 49 0 #[]),mO 6 0,aP 7 5 6 49 49 [0],aO 2 7] [2] (.ret)))
theorem Cb:BU Tryz.prog 91 8 [(.tmp 2)] BB:=AH Tryz.func91
def HE:CC:=sR [bX 7 25 2 [1],bX 8 25 3 [2],bX 9 25 4 [3],aL 10 25 [4]] [0,1,7,8,9,10] (sR [mO 11 0,mO 12 0,nC 13 12,fO 14 68 13 0,lS 15 35 14 4,mO 16 1,⟨some 17,(cL 91 #[(xT 16)] #[49]),none,[],6,[4],true⟩,⟨some 18,(lD 25 7),none,[],7,[6],false⟩,⟨some 19,(cL 35 #[(xT 18)] #[25]),none,[],8,[4],true⟩,⟨some 20,(lD 25 8),none,[],9,[6,8],false⟩,⟨some 21,(cL 35 #[(xT 20)] #[25]),none,[],10,[4],true⟩,⟨some 22,(lD 25 9),none,[],11,[6,8,10],false⟩,⟨some 23,(cL 35 #[(xT 22)] #[25]),none,[],12,[4],false⟩,oO 24 (.build 51 #[(0,(xT 17)),(1,(xT 19)),(2,(xT 21)),(3,(xT 23))]),⟨some 25,(.buildSlice 35 1 #[(0,(xT 24))]),none,[],14,[4],false⟩,aP 26 15 25 35 35 [5],nC 27 11,fO 28 68 27 0,sT 35 28 26] [7,10] (sR [lO 29 25 7,sT 25 10 29] [10] (.ret)))
theorem LB:BU Tryz.prog 58 30 [(.cell 10 25)] HE:=AH Tryz.func58
def KU:CC:=sR [aN 6] [0,1,2] (sR [mO 7 0,mO 8 0,bN 9 8 49,mO 10 0,bN 11 10 49,oO 12 (.slice 49 (xT 7) none (some (xT 9)) (some (xT 11))),mO 13 1,mO 14 2,oO 15 (.build 65 #[(0,(xT 13)),(1,(xT 14))]),oO 16 (.buildSlice 49 1 #[(0,(xT 15))]),aP 17 12 16 49 49 [0],aO 6 17] [6] (.ret))
theorem Rt:BU Tryz.prog 84 18 [(.tmp 6)] KU:=AH Tryz.func84
def Pv:CC:=sR [bX 2 30 0 [0],bX 3 25 1 [1],aL 4 25 [2]] [2,3,4] (sR [lO 8 30 2,lO 9 25 3,cB 10 27 8 9 30 25,mO 7 10,xO 11 7 0,xO 12 7 1,aL 5 25 [3],sT 25 5 11,aO 6 12] [4,5] (sR [lO 13 25 5,sT 25 4 13] [4] (.ret)))
theorem Wh:BU Tryz.prog 54 14 [(.cell 4 25)] Pv:=AH Tryz.func54
def BJ:CC:=sR [bX 7 25 2 [1],bX 8 30 3 [2],bX 9 30 4 [3],aL 10 25 [4]] [0,1,7,8,9,10] (.seq (.block 0 (sR [fO 14 30 8 0,lO 15 3 14,bQ .eql 16 3 15 0 3,aO 13 16] [0,1,7,8,9,10,13] (cD 13 (sR [lO 17 30 9,lO 18 25 7,cB 19 54 17 18 30 25,sT 25 10 19] [10] (.ret)) (sR [fO 21 30 9 0,lO 22 3 21,bQ .eql 23 3 22 0 3,aO 20 23] [0,1,7,8,9,10,20] (cD 20 (sR [lO 24 30 8,lO 25 25 7,cB 26 54 24 25 30 25,sT 25 10 26] [10] (.ret)) (sR [fO 28 30 8 0,lO 29 3 28,bQ .eql 30 3 29 2 3,mO 31 30,fG 32 30 9 0 31 true,lG 33 3 32 31 true,oG 34 (.binOp .eql 3 (xT 33) (nI 2) 3) 31 true,pF 35 31 34,aO 27 35] [0,1,7,8,9,10,27] (cD 27 (sR [mO 36 0,mO 37 1,lO 38 25 7,lO 39 30 8,lO 40 30 9,oO 41 (cL 55 #[(xT 36),(xT 37),(xT 38),(xT 39),(xT 40)] #[66,49,25,30,30]),sT 25 10 41] [10] (.ret)) (sR [fO 43 30 8 0,lO 44 3 43,bQ .eql 45 3 44 3 3,mO 46 45,fG 47 30 9 0 46 true,lG 48 3 47 46 true,oG 49 (.binOp .eql 3 (xT 48) (nI 3) 3) 46 true,pF 50 46 49,aO 42 50] [0,1,7,8,9,10,42] (cD 42 (sR [mO 51 0,mO 52 1,lO 53 25 7,lO 54 30 8,lO 55 30 9,oO 56 (cL 56 #[(xT 51),(xT 52),(xT 53),(xT 54),(xT 55)] #[66,49,25,30,30]),sT 25 10 56] [10] (.ret)) (.skip)))))))))) (.keep [0,1,7,8,9,10] (sR [lS 57 30 8 0,lS 58 25 7 1,⟨some 59,(cL 54 #[(xT 57),(xT 58)] #[30,25]),none,[],2,[],true⟩,⟨some 60,(lD 30 9),none,[],3,[2],true⟩,⟨some 61,(lD 25 7),none,[],4,[2],true⟩,⟨some 62,(cL 54 #[(xT 60),(xT 61)] #[30,25]),none,[],5,[],true⟩,⟨some 11,(.alloc 25),none,[5],6,[0,1,2,3,4,5],true⟩,⟨some 12,(.alloc 25),none,[6],7,[0,1,2,3,4,5,6],false⟩,sT 25 11 59,sT 25 12 62] [0,1,7,10,11,12] (sQ [lO 63 25 11,lO 64 25 12,cB 65 57 63 64 25 25] [0,1,7,10,11,12,65] (cD 65 (sR [lO 66 25 11,sT 25 10 66] [10] (.ret)) (.skip)) [0,1,7,10,11,12] (sR [mO 67 0,mO 68 1,lO 69 25 7,lO 70 25 11,lO 71 25 12,oO 72 (cL 58 #[(xT 67),(xT 68),(xT 69),(xT 70),(xT 71)] #[66,49,25,25,25]),sT 25 10 72] [10] (.ret))))))
theorem Cc:BU Tryz.prog 34 73 [(.cell 10 25)] BJ:=AH Tryz.func34
def LF:CC:=sR [aL 2 25 [0]] [0,2] (sR [mO 3 0,oO 4 (.buildSlice 22 1 #[(0,(xT 3))]),oO 5 (.build 25 #[(0,(nI 1)),(1,(xT 4))]),sT 25 2 5] [2] (.ret))
theorem SF:BU Tryz.prog 132 6 [(.cell 2 25)] LF:=AH Tryz.func132
def CM:CC:=sQ [lO 5 22 2,bN 6 5 22,mO 7 0,bB .leq 8 3 6 7 3] [0,1,2,8] (cD 8 (.skip) (.exit 0)) [0,1,2] (.block 1 (.reg [lO 9 22 2,oO 10 (.buildSlice 22 1 #[(0,(.const (.int .u64 0)))]),aP 11 9 10 22 22 [2],sT 22 2 11] [0,1,2])) 
def Gh:CC:=.seq (.block 0 (.loop CM)) (.keep [0,1,2] (.reg [lO 12 22 2,mO 13 0,mO 14 1,iO 15 22 12 13,sT 61 15 14] []))
theorem KG:BU Tryz.prog 131 16 [] Gh:=AH Tryz.func131
def C9:CC:=sR [lO 99 25 7,mO 100 15,cB 101 90 99 100 25 3,aO 16 101] [0,1,3,4,7,11,12,13,14,15,16] (sR [mO 102 16,fO 103 85 13 3,lO 104 61 103,fO 105 85 13 1,lO 106 5 105,⟨some 107,(cL 126 #[(xT 102),(xT 104),(xT 106)] #[61,61,5]),none,[],5,[],true⟩,mO 108 16,fO 109 85 14 3,⟨some 110,(lD 61 109),none,[],8,[5],false⟩,fO 111 85 14 1,⟨some 112,(lD 5 111),none,[],10,[5],false⟩,cE 113 126 108 110 112 61 61 5,aO 17 107,aO 18 113] [0,1,3,4,7,11,12,13,14,15,16,17,18] (sQ [fO 114 85 13 1,lO 115 5 114,fO 116 85 14 1,lO 117 5 116,bB .and 118 5 115 117 5,aO 19 118] [0,1,3,4,7,11,12,13,14,15,16,17,18,19] (sR [fO 119 85 13 3,lO 120 61 119,mO 121 19,⟨some 122,(cL 126 #[(.const (.int .u64 0)),(xT 120),(xT 121)] #[61,61,5]),none,[],3,[],true⟩,fO 123 85 14 3,⟨some 124,(lD 61 123),none,[],5,[3],false⟩,mO 125 19,oO 126 (cL 126 #[(.const (.int .u64 0)),(xT 124),(xT 125)] #[61,61,5]),bB .neq 127 61 122 126 61] [0,1,3,4,7,11,12,14,15,16,17,18,127] (cD 127 (sR [mO 128 0,mO 129 1,mO 130 15,oO 131 (cL 84 #[(xT 129),(nI 1),(xT 130)] #[49,3,3]),mO 132 16,cA 133 132 132 61,mO 134 17,cA 135 132 134 61,mO 136 18,cA 137 132 136 61,oO 138 (cL 58 #[(xT 128),(xT 131),(xT 133),(xT 135),(xT 137)] #[66,49,25,25,25])] [0,1,3,4,7,11,12] (.exit 1)) (.skip))) [0,1,3,4,7,11,12,14,15,17] (.reg [mO 139 12,mO 140 15,mO 141 17,fO 142 85 14 3,lO 143 61 142,fO 144 85 14 1,lO 145 5 144,cE 146 126 141 143 145 61 61 5,oO 147 (.call { callee:=(.value (xT 139)),args:=#[(xT 140),(xT 146)],argTypes:=#[3,61] })] [0,1,3,4,7,11,12])))
def AL:CC:=sQ [mO 24 3,bN 25 24 26,bQ .gtr 26 3 25 0 3,mO 27 26,mG 28 4 27 false,oG 29 (bL 28 26) 27 false,oG 30 (.binOp .gtr 3 (xT 29) (nI 0) 3) 27 false,pT 31 27 30] [0,1,3,4,7,11,12,31] (cD 31 (.skip) (.exit 0)) [0,1,3,4,7,11,12] (.block 1 (sR [aL 13 85 [3],aL 14 85 [4]] [0,1,3,4,7,11,12,13,14] (sR [aI 15 0] [0,1,3,4,7,11,12,13,14] (.seq (.block 2 (sR [mO 47 4,bN 48 47 26,bQ .eql 49 3 48 0 3,mO 50 49,mG 51 3 50 false,oG 52 (bL 51 26) 50 false,oG 53 (.binOp .gtr 3 (xT 52) (nI 0) 3) 50 false,mG 54 53 50 false,mG 55 3 54 true,oG 56 (.indexAddr 26 (xT 55) (nI 0)) 54 true,fG 57 85 56 0 54 true,lG 58 3 57 54 true,mG 59 4 54 true,oG 60 (.indexAddr 26 (xT 59) (nI 0)) 54 true,fG 61 85 60 0 54 true,lG 62 3 61 54 true,oG 63 (bO .lss 3 58 62 3) 54 true,oG 64 (.pick (xT 54) (xT 63) (nB false)) 50 false,pT 65 50 64,aO 46 65] [0,1,3,4,7,11,12,13,14,46] (cD 46 (.reg [mO 66 3,oO 67 (.indexAddr 26 (xT 66) (nI 0)),lO 68 85 67,mO 69 3,oO 70 (.indexAddr 26 (xT 69) (nI 0)),fO 71 85 70 0,lS 72 3 71 6,mO 73 3,oO 74 (.slice 26 (xT 73) (some (nI 1)) none none),⟨none,(.store 85 (xT 13) (xT 68)),none,[],9,[6],false⟩,aO 15 72,aO 3 74] [0,1,3,4,7,11,12,13,14,15]) (sR [mO 76 3,bN 77 76 26,bQ .eql 78 3 77 0 3,mO 79 78,mG 80 4 79 false,oG 81 (.indexAddr 26 (xT 80) (nI 0)) 79 false,fG 82 85 81 0 79 false,lG 83 3 82 79 false,mG 84 3 79 false,oG 85 (.indexAddr 26 (xT 84) (nI 0)) 79 false,fG 86 85 85 0 79 false,lG 87 3 86 79 false,oG 88 (bO .lss 3 83 87 3) 79 false,pT 89 79 88,aO 75 89] [0,1,3,4,7,11,12,13,14,75] (cD 75 (.reg [mO 90 4,oO 91 (.indexAddr 26 (xT 90) (nI 0)),lO 92 85 91,mO 93 4,oO 94 (.indexAddr 26 (xT 93) (nI 0)),fO 95 85 94 0,lS 96 3 95 6,mO 97 4,oO 98 (.slice 26 (xT 97) (some (nI 1)) none none),⟨none,(.store 85 (xT 14) (xT 92)),none,[],9,[6],false⟩,aO 15 96,aO 4 98] [0,1,3,4,7,11,12,13,14,15]) (.reg [mO 32 3,oO 33 (.indexAddr 26 (xT 32) (nI 0)),lO 34 85 33,mO 35 4,oO 36 (.indexAddr 26 (xT 35) (nI 0)),lS 37 85 36 5,mO 38 3,oO 39 (.indexAddr 26 (xT 38) (nI 0)),fO 40 85 39 0,lS 41 3 40 9,mO 42 3,oO 43 (.slice 26 (xT 42) (some (nI 1)) none none),mO 44 4,oO 45 (.slice 26 (xT 44) (some (nI 1)) none none),⟨none,(.store 85 (xT 13) (xT 34)),none,[],14,[5,9],false⟩,⟨none,(.store 85 (xT 14) (xT 37)),none,[],15,[9],false⟩,aO 15 41,aO 3 43,aO 4 45] [0,1,3,4,7,11,12,13,14,15])))))) (.keep [0,1,3,4,7,11,12,13,14,15] C9))))) 
def HC:CC:=sR [bX 7 25 2 [1],aN 10] [0,1,3,4,7] (sR [fO 20 25 7 1,lO 21 22 20,cA 22 59 21 22,aL 11 22 [2],sT 22 11 22] [0,1,3,4,7,11] (sR [oO 23 (.makeFunc (.func 131) #[] #[(xT 11)]),aO 12 23] [0,1,3,4,7,11,12] (.seq (.block 0 (.loop AL)) (.keep [11] (sR [lO 148 22 11,aO 10 148] [10] (.ret))))))
theorem Md:BU Tryz.prog 83 149 [(.tmp 10)] HC:=AH Tryz.func83
def Ig:CC:=sR [bB .lss 10 3 9 8 3] [1,4,7,8,9,10] (.seq (cD 10 (.skip) (.exit 0)) (.keep [1,4,7,8,9] (.seq (.block 1 (sR [iO 11 27 7 9,lO 12 88 11,aL 6 88 [1],sT 88 6 12] [1,4,6,7,8,9] (sR [fO 13 88 6 0,lO 14 3 13,mO 15 1,bB .eql 16 3 14 15 3] [1,4,6,7,8,9,16] (cD 16 (sR [fO 17 88 6 1,lO 18 30 17,sT 30 4 18] [4] (.ret)) (.skip))))) (.keep [1,4,7,8,9] (.reg [bQ .add 19 3 9 1 3,mO 9 19] [1,4,7,8,9]))))) 
def Q1:CC:=sR [aL 4 30 [0]] [0,1,4] (sQ [mO 7 0,bN 8 7 27,oO 9 (.move (nI 0))] [1,4,7,8,9] (.block 0 (.loop Ig)) [4] (sR [oO 20 (.build 30 #[]),sT 30 4 20] [4] (.ret)))
theorem XT:BU Tryz.prog 85 21 [(.cell 4 30)] Q1:=AH Tryz.func85
def AZ:CC:=sR [bB .lss 36 3 35 34 3] [0,1,7,8,9,10,11,12,33,34,35,36] (.seq (cD 36 (.skip) (.exit 0)) (.keep [0,1,7,8,9,10,11,12,33,34,35] (.seq (.block 1 (sR [iO 37 107 33 35,lO 38 27 37,aO 14 38] [0,1,7,8,9,10,11,12,14,33,34,35] (sR [mO 39 14,bN 40 39 27,aO 15 40] [0,1,7,8,9,10,11,12,14,15,33,34,35] (sR [mO 41 15,bQ .gtr 42 3 41 0 3] [0,1,7,8,9,10,11,12,14,15,33,34,35,42] (cD 42 (.reg [mO 43 12,mO 44 14,mO 45 15,bQ .sub 46 3 45 1 3,iO 47 27 44 46,fO 48 88 47 0,lO 49 3 48,bQ .add 50 3 49 1 3,oO 51 (bC .max #[(xT 43),(xT 50)] #[3,3]),aO 12 51] [0,1,7,8,9,10,11,12,33,34,35]) (.skip)))))) (.keep [0,1,7,8,9,10,11,12,33,34,35] (.reg [bQ .add 52 3 35 1 3,mO 35 52] [0,1,7,8,9,10,11,12,33,34,35])))))
def B8:CC:=sR [bB .lss 55 3 54 53 3] [0,1,7,8,9,10,11,53,54,55] (.seq (cD 55 (.skip) (.exit 2)) (.keep [0,1,7,8,9,10,11,53,54] (.seq (.block 3 (sR [mO 56 54,aO 16 56] [0,1,7,8,9,10,11,16,53,54] (.reg [fO 57 25 11 2,lS 58 23 57 1,mO 59 0,mO 60 1,mO 61 16,⟨some 62,(cL 84 #[(xT 60),(nI 0),(xT 61)] #[49,3,3]),none,[],5,[1],true⟩,⟨some 63,(lD 25 7),none,[],6,[5],false⟩,mO 64 16,⟨some 65,(cL 70 #[(xT 63),(xT 64)] #[25,3]),none,[],8,[1],true⟩,fO 66 30 8 4,⟨some 67,(lD 27 66),none,[],10,[5,8],false⟩,mO 68 16,⟨some 69,(cL 85 #[(xT 67),(xT 68)] #[27,3]),none,[],12,[1],true⟩,fO 70 30 9 4,⟨some 71,(lD 27 70),none,[],14,[5,8,12],false⟩,mO 72 16,⟨some 73,(cL 85 #[(xT 71),(xT 72)] #[27,3]),none,[],16,[1],false⟩,⟨some 74,(cL 34 #[(xT 59),(xT 62),(xT 65),(xT 69),(xT 73)] #[66,49,25,30,30]),none,[],17,[1],false⟩,⟨some 75,(.buildSlice 23 1 #[(0,(xT 74))]),none,[],18,[1],false⟩,aP 76 58 75 23 23 [6],fO 77 25 11 2,sT 23 77 76] [0,1,7,8,9,10,11,53,54]))) (.reg [bQ .add 78 3 54 1 3,mO 54 78] [0,1,7,8,9,10,11,53,54])))) 
def Fv:CC:=sR [bX 7 25 2 [1],bX 8 30 3 [2],bX 9 30 4 [3],aL 10 25 [4]] [0,1,7,8,9,10] (sR [mO 17 0,mO 18 1,lO 19 25 7,fO 20 30 8 3,lO 21 26 20,fO 22 30 9 3,lO 23 26 22,oO 24 (cL 83 #[(xT 17),(xT 18),(xT 19),(xT 21),(xT 23)] #[66,49,25,26,26]),oO 25 (.build 25 #[(0,(nI 1)),(1,(xT 24))]),aL 11 25 [5],sT 25 11 25] [0,1,7,8,9,10,11] (sR [fO 26 25 7 2,lO 27 23 26,bN 28 27 23,aO 12 28] [0,1,7,8,9,10,11,12] (sQ [fO 29 30 8 4,lO 30 27 29,fO 31 30 9 4,lO 32 27 31,oO 33 (.buildSlice 107 2 #[(0,(xT 30)),(1,(xT 32))]),bN 34 33 107,oO 35 (.move (nI 0))] [0,1,7,8,9,10,11,12,33,34,35] (.block 0 (.loop AZ)) [0,1,7,8,9,10,11,12] (sQ [mO 53 12,oO 54 (.move (nI 0))] [0,1,7,8,9,10,11,53,54] (.block 2 (.loop B8)) [10,11] (sR [lO 79 25 11,sT 25 10 79] [10] (.ret))))))
theorem I4:BU Tryz.prog 55 80 [(.cell 10 25)] Fv:=AH Tryz.func55
def HU:CC:=sR [aL 3 25 [3]] [0,1,3] (sR [lO 4 110 1,nC 5 4,fO 6 112 5 2,fO 7 25 6 0,lO 8 3 7,mO 9 0,oO 10 (.build 25 #[(0,(xT 8)),(2,(xT 9))]),sT 25 3 10] [3] (.ret))
theorem MI:BU Tryz.prog 134 11 [(.cell 3 25)] HU:=AH Tryz.func134
def Jr:CC:=sR [bX 1 110 0 [2]] [1] (.seq (.block 0 (sR [lO 33 110 1,nC 34 33,fO 35 112 34 5,lO 36 23 35,bN 37 36 23,bQ .eql 38 3 37 0 3,mO 39 38,lG 40 110 1 39 false,oG 41 (.nilCheck (xT 40)) 39 false,fG 42 112 41 5 39 false,lG 43 23 42 39 false,lG 44 110 1 39 false,oG 45 (.nilCheck (xT 44)) 39 false,fG 46 112 45 6 39 false,lG 47 23 46 39 false,oG 48 (cL 127 #[(xT 43),(xT 47),(.func 57)] #[23,23,38]) 39 false,pT 49 39 48,aO 32 49] [1,32] (cD 32 (.reg [lS 50 110 1 0,lO 51 110 1,nC 52 51,fO 53 112 52 4,lO 54 23 53,lO 55 110 1,nC 56 55,fO 57 112 56 6,lO 58 23 57,⟨some 59,(bC .append #[(xT 54),(xT 58)] #[23,23]),none,[3],9,[0],false⟩,nC 60 50,fO 61 112 60 4,sT 23 61 59] [1]) (sR [lO 63 110 1,nC 64 63,fO 65 112 64 6,lO 66 23 65,bN 67 66 23,bQ .eql 68 3 67 0 3,aO 62 68] [1,62] (cD 62 (.reg [lS 69 110 1 0,lO 70 110 1,nC 71 70,fO 72 112 71 4,lO 73 23 72,lO 74 110 1,nC 75 74,fO 76 112 75 5,lO 77 23 76,⟨some 78,(bC .append #[(xT 73),(xT 77)] #[23,23]),none,[4],9,[0],false⟩,nC 79 69,fO 80 112 79 4,sT 23 80 78] [1]) (sR [oO 3 (.makeFunc (.func 134) #[] #[(xT 1)]),aO 2 3] [1,2] (.reg [lS 4 110 1 0,nC 5 4,fO 6 112 5 0,lS 7 66 6 3,lO 8 110 1,nC 9 8,fO 10 112 9 1,lO 11 49 10,lO 12 110 1,nC 13 12,fO 14 112 13 3,lO 15 3 14,⟨some 16,(cL 84 #[(xT 11),(nI 2),(xT 15)] #[49,3,3]),none,[],12,[0,3],true⟩,mO 17 2,⟨some 18,(.call { callee:=(.value (xT 17)),args:=#[nS],argTypes:=#[23] }),none,[],14,[0,3],true⟩,mO 19 2,⟨some 20,(lD 110 1),none,[],16,[12,14],false⟩,nC 21 20,fO 22 112 21 5,⟨some 23,(lD 23 22),none,[],19,[12,14],false⟩,⟨some 24,(.call { callee:=(.value (xT 19)),args:=#[(xT 23)],argTypes:=#[23] }),none,[],20,[0,3],true⟩,mO 25 2,⟨some 26,(lD 110 1),none,[],22,[12,14,20],false⟩,nC 27 26,fO 28 112 27 6,⟨some 29,(lD 23 28),none,[],25,[12,14,20],false⟩,⟨some 30,(.call { callee:=(.value (xT 25)),args:=#[(xT 29)],argTypes:=#[23] }),none,[],26,[0,3],false⟩,oO 31 (cL 58 #[(xT 7),(xT 16),(xT 18),(xT 24),(xT 30)] #[66,49,25,25,25])] [1]))))))) (.keep [1] (.reg [lO 81 110 1,lS 82 110 1 1,nC 83 81,fO 84 112 83 5,⟨none,(.store 23 (xT 84) nS),none,[],4,[1],false⟩,nC 85 82,fO 86 112 85 6,oS (.store 23 (xT 86) nS)] [])))
theorem Pq:BU Tryz.prog 87 87 [] Jr:=AH Tryz.func87
def Dl:CC:=sR [bX 4 91 1 [2],bX 5 91 2 [3]] [0,4,5] (sR [mO 8 0,nC 9 8,fO 10 112 9 2,fO 11 25 10 2,lS 12 23 11 4,mO 13 0,nC 14 13,fO 15 112 14 3,lS 16 3 15 8,iO 17 23 12 16,lS 18 25 17 10,⟨some 6,(.alloc 25),none,[4],11,[4,8,10],false⟩,sT 25 6 18] [0,4,5,6] (sR [mO 19 0,nC 20 19,fO 21 112 20 1,lO 22 49 21,mO 23 0,nC 24 23,fO 25 112 24 3,lO 26 3 25,oO 27 (cL 84 #[(xT 22),(nI 0),(xT 26)] #[49,3,3]),aO 7 27] [0,4,5,6,7] (sR [mO 28 0,nC 29 28,fO 30 112 29 3,lO 31 3 30,bQ .add 32 3 31 1 3,nC 33 28,fO 34 112 33 3,sT 3 34 32] [0,4,5,6,7] (.block 0 (sR [fO 57 91 4 0,lO 58 3 57,bQ .eql 59 3 58 1 3,mO 60 59,fG 61 91 5 0 60 true,lG 62 3 61 60 true,oG 63 (.binOp .eql 3 (xT 62) (nI 3) 3) 60 true,pF 64 60 63,aO 56 64] [0,4,5,6,7,56] (cD 56 (.reg [mO 65 0,nC 66 65,fO 67 112 66 4,lS 68 23 67 3,mO 69 0,nC 70 69,fO 71 112 70 0,lS 72 66 71 7,mO 73 7,lS 74 25 6 9,oO 75 (.build 25 #[]),fO 76 91 5 3,lS 77 30 76 12,lS 78 25 6 13,⟨some 79,(cL 54 #[(xT 77),(xT 78)] #[30,25]),none,[],14,[3,7,9],true⟩,⟨some 80,(cL 58 #[(xT 72),(xT 73),(xT 74),(xT 75),(xT 79)] #[66,49,25,25,25]),none,[],15,[3],true⟩,bN 81 68 23,⟨some 82,(.buildSlice 23 1 #[(0,(.const (.agg #[(.int .i64 0),(.slice none 0 0),(.slice none 0 0)])))]),none,[],17,[3,7,9,12,13,14,15],false⟩,aP 83 68 82 23 23 [5],iO 84 23 83 81,⟨none,(.store 25 (xT 84) (xT 80)),none,[],20,[],true⟩,nC 85 65,fO 86 112 85 4,⟨none,(.store 23 (xT 86) (xT 83)),none,[],23,[20],false⟩] []) (sR [fO 88 91 4 0,lO 89 3 88,bQ .eql 90 3 89 3 3,mO 91 90,fG 92 91 5 0 91 true,lG 93 3 92 91 true,oG 94 (.binOp .eql 3 (xT 93) (nI 1) 3) 91 true,pF 95 91 94,aO 87 95] [0,4,5,6,7,87] (cD 87 (.reg [mO 96 0,nC 97 96,fO 98 112 97 4,lS 99 23 98 3,mO 100 0,nC 101 100,fO 102 112 101 0,lS 103 66 102 7,mO 104 7,lS 105 25 6 9,fO 106 91 4 3,lS 107 30 106 11,lS 108 25 6 12,⟨some 109,(cL 54 #[(xT 107),(xT 108)] #[30,25]),none,[],13,[3,7,9],true⟩,oO 110 (.build 25 #[]),⟨some 111,(cL 58 #[(xT 103),(xT 104),(xT 105),(xT 109),(xT 110)] #[66,49,25,25,25]),none,[],15,[3],true⟩,bN 112 99 23,⟨some 113,(.buildSlice 23 1 #[(0,(.const (.agg #[(.int .i64 0),(.slice none 0 0),(.slice none 0 0)])))]),none,[],17,[3,7,9,11,12,13,15],false⟩,aP 114 99 113 23 23 [6],iO 115 23 114 112,⟨none,(.store 25 (xT 115) (xT 111)),none,[],20,[],true⟩,nC 116 96,fO 117 112 116 4,⟨none,(.store 23 (xT 117) (xT 114)),none,[],23,[20],false⟩] []) (sR [fO 119 91 4 0,lO 120 3 119,bQ .eql 121 3 120 1 3,mO 122 121,fG 123 91 5 0 122 false,lG 124 3 123 122 false,oG 125 (.binOp .eql 3 (xT 124) (nI 1) 3) 122 false,pT 126 122 125,aO 118 126] [0,4,5,6,7,118] (cD 118 (.skip) (.reg [mO 35 0,nC 36 35,fO 37 112 36 4,lS 38 23 37 3,mO 39 0,nC 40 39,fO 41 112 40 0,lS 42 66 41 7,mO 43 7,lS 44 25 6 9,fO 45 91 4 3,lS 46 30 45 11,fO 47 91 5 3,lS 48 30 47 13,⟨some 49,(cL 34 #[(xT 42),(xT 43),(xT 44),(xT 46),(xT 48)] #[66,49,25,30,30]),none,[],14,[3],true⟩,bN 50 38 23,⟨some 51,(.buildSlice 23 1 #[(0,(.const (.agg #[(.int .i64 0),(.slice none 0 0),(.slice none 0 0)])))]),none,[],16,[3,7,9,11,13,14],false⟩,aP 52 38 51 23 23 [7],iO 53 23 52 50,⟨none,(.store 25 (xT 53) (xT 49)),none,[],19,[],true⟩,nC 54 35,fO 55 112 54 4,⟨none,(.store 23 (xT 55) (xT 52)),none,[],22,[19],false⟩] [])))))))))))
theorem EF:BU Tryz.prog 88 127 [] Dl:=AH Tryz.func88
def Dc:CC:=sR [bB .lss 49 3 48 47 3] [7,10,11,15,29,30,31,47,48,49] (.seq (cD 49 (.skip) (.exit 3)) (.keep [7,10,11,15,29,30,31,47,48] (.seq (.block 4 (.reg [mO 50 11,fO 51 117 15 1,lO 52 91 51,fO 53 117 15 2,lO 54 91 53,cE 55 88 50 52 54 110 91 91] [7,10,11,15,29,30,31,47,48])) (.reg [bQ .add 56 3 48 1 3,mO 48 56] [7,10,11,15,29,30,31,47,48]))))
def BO:CC:=sR [bB .lss 32 3 31 30 3] [7,10,11,29,30,31,32] (.seq (cD 32 (.skip) (.exit 0)) (.keep [7,10,11,29,30,31] (.seq (.block 1 (sR [iO 33 113 29 31,lO 34 117 33,aL 15 117 [6],sT 117 15 34] [7,10,11,15,29,30,31] (sR [fO 35 117 15 0,lO 36 3 35] [7,10,11,15,29,30,31,36] (.block 2 (sR [bQ .eql 58 3 36 1 3,aO 57 58] [7,10,11,15,29,30,31,36,57] (cD 57 (.reg [mO 59 11,mO 60 11,nC 61 60,fO 62 112 61 5,lO 63 23 62,fO 64 117 15 1,fO 65 91 64 2,lO 66 23 65,aP 67 63 66 23 23 [7],nC 68 59,fO 69 112 68 5,sT 23 69 67] [7,10,11,29,30,31]) (sR [bQ .eql 71 3 36 2 3,aO 70 71] [7,10,11,15,29,30,31,70] (cD 70 (.reg [mO 72 11,mO 73 11,nC 74 73,fO 75 112 74 6,lO 76 23 75,fO 77 117 15 2,fO 78 91 77 2,lO 79 23 78,aP 80 76 79 23 23 [8],nC 81 72,fO 82 112 81 6,sT 23 82 80] [7,10,11,29,30,31]) (sR [mO 37 11,cA 38 87 37 110] [7,10,11,15,29,30,31] (sR [fO 39 117 15 1,fO 40 91 39 1,lO 41 3 40,fO 42 117 15 1,fO 43 91 42 2,lO 44 23 43,bN 45 44 23,bB .add 46 3 41 45 3,oO 47 (bC .max #[(xT 46),(nI 1)] #[3,3]),oO 48 (.move (nI 0))] [7,10,11,15,29,30,31,47,48] (.block 3 (.loop Dc)))))))))))) (.keep [7,10,11,29,30,31] (.reg [bQ .add 83 3 31 1 3,mO 31 83] [7,10,11,29,30,31]))))) 
def HK:CC:=sR [bX 7 25 2 [1],bX 8 30 3 [2],bX 9 30 4 [3],aL 10 25 [4]] [0,1,7,8,9,10] (sR [mO 16 0,mO 17 1,lO 18 25 7,oO 19 (.build 112 #[(0,(xT 16)),(1,(xT 17)),(2,(xT 18))]),bX 20 112 19 [5],aO 11 20] [7,8,9,10,11] (sR [fO 22 30 8 6,lO 23 28 22,fO 24 30 9 6,lO 25 28 24,cB 26 86 23 25 28 28,mO 21 26,xO 27 21 0,xO 28 21 1,aO 12 27,aO 13 28] [7,10,11,12] (sQ [mO 29 12,bN 30 29 113,oO 31 (.move (nI 0))] [7,10,11,29,30,31] (.block 0 (.loop BO)) [7,10,11] (.stop (sR [mO 84 11,cA 85 87 84 110] [7,10,11] (sR [fO 86 25 7 0,lO 87 3 86,mO 88 11,nC 89 88,fO 90 112 89 4,lO 91 23 90,oO 92 (.build 25 #[(0,(xT 87)),(2,(xT 91))]),sT 25 10 92] [10] (.ret)))))))
theorem LM:BU Tryz.prog 56 93 [(.cell 10 25)] HK:=AH Tryz.func56
def Ns:CC:=sR [bX 3 25 0 [0],bX 4 30 1 [1],bX 5 30 2 [2],aL 6 25 [3],aN 7,aB 8 false] [3,4,5,6] (sR [lO 16 30 4,lO 17 25 3,cB 18 27 16 17 30 25,mO 15 18,xO 19 15 0,xO 20 15 1,aL 9 25 [4],sT 25 9 19,aO 10 20] [3,4,5,6,10] (sR [lO 22 30 5,lO 23 25 3,cB 24 27 22 23 30 25,mO 21 24,xO 25 21 0,xO 26 21 1,aL 11 25 [5],sT 25 11 25,aO 12 26] [3,4,5,6,10,12] (sQ [mO 27 10,oO 28 (.unOp .not 4 (xT 27)),mO 29 28,mG 30 12 29 false,oG 31 (.unOp .not 4 (xT 30)) 29 false,pT 32 29 31] [3,4,5,6,32] (cD 32 (sR [oO 33 (.build 25 #[]),sT 25 6 33,aN 7,aB 8 false] [6,7,8] (.ret)) (.skip)) [3,4,5,6] (sR [oO 34 (.build 68 #[]),bX 35 68 34 [6],aO 13 35] [3,4,5,6,13] (.stop (sR [mO 36 13,lO 37 25 3,lO 38 30 4,lO 39 30 5,oO 40 (cL 34 #[(xT 36),nS,(xT 37),(xT 38),(xT 39)] #[66,49,25,30,30]),aL 14 25 [7],sT 25 14 40] [6,13,14] (sR [lO 41 25 14,⟨some 42,(cL 35 #[(xT 41)] #[25]),none,[],1,[],true⟩,mO 43 13,nC 44 43,fO 45 68 44 0,⟨some 46,(lD 35 45),none,[],5,[1],true⟩,⟨none,(.store 25 (xT 6) (xT 42)),none,[],6,[5],false⟩,aO 7 46,aB 8 true] [6,7,8] (.ret))))))))
theorem Uo:BU Tryz.prog 14 47 [(.cell 6 25),(.tmp 7),(.tmp 8)] Ns:=AH Tryz.func14
def M6:CC:=sR [bX 4 25 0 [0],bX 5 25 1 [1],bX 6 25 2 [2],aL 8 25 [3],aN 9] [3,4,5,6,8] (sR [lS 14 25 4 0,⟨some 15,(cL 35 #[(xT 14)] #[25]),none,[],1,[],true⟩,⟨some 16,(lD 25 4),none,[],2,[1],true⟩,⟨some 17,(lD 25 5),none,[],3,[1],true⟩,mO 18 3,⟨some 19,(cL 26 #[(xT 16),(xT 17),(xT 18)] #[25,25,3]),none,[],5,[],true⟩,⟨some 20,(lD 25 4),none,[],6,[1,5],true⟩,⟨some 21,(lD 25 6),none,[],7,[1,5],true⟩,mO 22 3,⟨some 23,(cL 26 #[(xT 20),(xT 21),(xT 22)] #[25,25,3]),none,[],9,[],true⟩,⟨some 24,(cL 14 #[(xT 15),(xT 19),(xT 23)] #[25,30,30]),none,[],10,[],true⟩,mO 13 24,xO 25 13 0,xO 26 13 1,xO 27 13 2,⟨some 10,(.alloc 25),none,[4],15,[0,1,2,3,5,6,7,9,10],false⟩,sT 25 10 25,aO 11 26,aO 12 27] [8,10,11] (sR [lO 28 25 10,mO 29 11,sT 25 8 28,aO 9 29] [8,9] (.ret)))
theorem UN:BU Tryz.prog 19 30 [(.cell 8 25),(.tmp 9)] M6:=AH Tryz.func19
end Go.Proofs.YtndnlknocdangaaGreat
namespace Go.G
open Go
theorem bA {P:Program} {f:FuncId} {n:Nat} {rs:List ResultVar} {cc:CC} {as':Nat→Nat→List A} {F F':Qm} {x:Nat→Nat→A} (t:BU P f n rs cc) (ha:(as' 0 1).length≤n) (h0:RX as') (h1:SG x)
  (h:∀ w0 I0 M0 m0,(∀ r p b,2≤r→¬ M0 (r::p) b)→WPC (DD P w0 I0 M0 n m0) cc (MJ (DD P w0 I0 M0 n m0) rs 2 (x 0 1) (ov 0 (F'.B 0 1) (ov 1 (F'.C 0 1) (FR [])))) ⟨NB (as' 0 1),ov 0 (F.B 0 1) (ov 1 (F.C 0 1) (FR []))⟩):JB P f as' F x F':=
 ⟨h0,h1,Mw t ha fun w0 I0 M0 m0 hM=>h w0 I0 M0 m0 fun r p b hr=>hM (r::p) b (by
  simp only[Be];rw[if_neg (by omega),if_neg (by omega)];rfl)⟩
end Go.G
namespace Go.Proofs.YtndnlknocdangaaGreat
open Go Go.G Go.Proofs Go.PL
def Af2 (u:Nat) (cs:List A) (h:∀ x,x ∈ cs→EH (fun _=>x)):Fam:=⟨fun _ p=>if p=[] then ⟨u,.cells cs⟩ else ⟨0,.none⟩,fun {g δ r r'} hg hd p=>by
  by_cases hp:p=[]
  ·rw[if_pos hp];exact Fam.cells_ren ((FamL.all h).ren hg hd)
  ·rw[if_neg hp];rfl,fun {D r} hD p=>by
  by_cases hp:p=[]
  ·rw[if_pos hp];exact(FamL.all h).refs hD
  ·rw[if_neg hp];trivial⟩
theorem GF (o:OP):EH (fun _=>oX o):=GV (cs:=iv o.kind::iv o.n::BG o.l::eL o.e) rfl fun x hx=>by simp at hx;rcases hx with rfl | rfl | rfl | rfl | rfl | rfl | rfl | rfl | rfl | rfl | rfl | rfl | rfl | rfl<;>rfl
def Uc (v:Nat) (l:List OP) (al:Int):Fam:=Af2 v [LO l,iv al] fun x hx=>by
 simp at hx;rcases hx with rfl | rfl
 ·exact Ba
 ·exact AB
@[simp] theorem Ah2 {v:Nat} {l:List OP} {al:Int} {r:Nat} {p:Nm}:(Uc v l al).F r p=if p=[] then ⟨v,.cells [LO l,iv al]⟩ else ⟨0,.none⟩:=rfl
def Rq (o:OP):Int:=if o.kind=3 then 1 else o.n+o.l.length
def zv (o:OP) (n:Nat):OP:=if o.kind=0 then .mk o.kind n o.l o.e else .mk o.kind o.n (o.l.take n) o.e
def mr (o:OP) (n:Nat):OP:=if o.kind=0 then .mk o.kind (o.n-n) o.l o.e else .mk o.kind o.n (o.l.drop n) o.e
def KW (o:OP) (n:Nat):OP:=if Rq o≤n then o else zv o n
def MN (o:OP) (n:Nat) (l:List OP):List OP:=if Rq o≤n then l else mr o n::l
def s7 (al:Int):List OP→Bool
 |[]=>false
 |o::_=>decide (o.kind=al)
def XI (x:OP):Prop:=Agj x∧(x.kind=1∨x.kind=2→x.l ≠ [])∧x.l.length≤1048576
theorem LG {x:OP} (h:XI x):1≤Rq x∧Rq x≤2097152:=by
 obtain⟨h1,h2,h3⟩:=h;unfold Rq;rcases h1 with ⟨k,a,b,c⟩ | ⟨k,a⟩ | ⟨k,a⟩ | ⟨k,a,b⟩
 ·rw[if_neg (by omega),c];simp;omega
 ·have:=List.length_pos_iff.2 (h2 (.inl k));rw[if_neg (by omega)];omega
 ·have:=List.length_pos_iff.2 (h2 (.inr k));rw[if_neg (by omega)];omega
 ·rw[if_pos k];omega
theorem IX {o:OP} (h:XI o):G.Spec Tryz.prog 166 [oX o] (iv (Rq o)):=by
 have hs:=LG h;refine Al Xh (by simp) fun w0 I0=>?_;unfold OZ;by_cases h3:o.kind=3
 ·have:Rq o=1:=if_pos h3;rw[this];simp[h3];exact Ad rfl
 ·have e:Rq o=o.n+o.l.length:=if_neg h3;rw[e] at hs ⊢;have ew:i64.wrap (o.n+o.l.length)=o.n+o.l.length:=EJ;simp[h3,ew];exact Ad rfl
theorem IL (v:Nat) (l:List OP) (al:Int):SpecF Tryz.prog 167 (fun q=>[.pob [q] v 0]) (Uc v l al) (fun _=>bv l.isEmpty) (Uc v l al):=by
 refine Aq MG (by simp) (Ae Au Ah) AB fun w0 I0 M0 m0=>?_;unfold HR;simp;refine Ax (r0:=bv l.isEmpty) ?_ rfl (fun p=>by simp);cases l<;>simp
theorem DY (v:Nat) (l:List OP) (al:Int):SpecF Tryz.prog 164 (fun q=>[.pob [q] v 0]) (Uc v l al) (fun _=>bv (s7 al l)) (Uc v l al):=by
 refine Aq K4 (by simp) (Ae Au Ah) AB fun w0 I0 M0 m0=>?_;unfold GP;have D:=IL v l al;cases l with
 |nil=>
  simp;refine EE 0 D (fun p=>by simp) (by simp) (by simp) ?_;simp;exact Ax (r0:=bv false) (by simp) rfl (fun p=>by simp)
 |cons o l=>
  simp;refine EE 0 D (fun p=>by simp) (by simp) (by simp) ?_;simp;exact Ax (r0:=bv (decide (o.kind=al))) (by simp) rfl (fun p=>by simp)
def zm (x:Bool × OP):A:=.agg (iv x.2.kind::iv x.2.n :: .sl x.1 (x.2.l.map tA)::eL x.2.e)
@[simp] theorem xK (x:Bool × OP):(zm x).cells=iv x.2.kind::iv x.2.n :: .sl x.1 (x.2.l.map tA)::eL x.2.e:=rfl
theorem qF (l:List OP):(l.map fun o=>((false,o):Bool × OP)).map zm=l.map oA:=by
 rw[List.map_map];exact List.map_congr_left fun o _=>by simp[zm]
theorem rh {H:Hp} {u n:Nat} {d:Nm} {l:List (Bool × OP)} (h:vr (H d) u=some (14,l.map zm)) (hn:n=l.length):IZ H (.osl d u 14 0 n) (LO (l.map Prod.snd)):=by
 have:=R8 (g:=fun x=>oA x.2) h hn (fun x _=>by
  obtain⟨b,o⟩:=x;simp[A.soft,A.softL,Ji,FB,OX,Su,Sb,A.ones,A.bare])
 rw[show LO (l.map Prod.snd) = .sl false (l.map fun x=>oA x.2) from by rw[LO,List.map_map];rfl];exact this
abbrev Ql (o:OP):List A:=iv o.kind::iv o.n::BG o.l::eL o.e
def UL:List A:=[iv 0,iv 0,.sl true [],iv 0,iv 0,.sl true [],.sl true [],iv 0,.sl true [],.sl true [],.sl true [],.sl true [],iv 0,.sl true []]
section
variable {v:Nat} {al:Int} {w0:World} {I0:Nat→Prop} {M0:Nm→Nat→Prop} {m0:Mu}
theorem j5 {l:List OP} (hM:∀ (r:Nat) (p:List Nat) (b:Nat),1≤r→¬M0 (r::p) b) {o1 o2:OP} {b1 b2:Bool} {H:Hp} (h0:∀ p,p ≠ []→H (0::p)=⟨0,.none⟩) (h00:H [0]=⟨v,.cells [.osl [5] 2 14 0 (1+l.length),iv al]⟩)
  (h1:H [1]=⟨1,.cells (iv o1.kind::iv o1.n :: .sl b1 (o1.l.map tA)::eL o1.e)⟩) (h5:H [5]=⟨2,.arr 14 (zm (b2,o2)::l.map oA)⟩) :
  MJ (DD Tryz.prog w0 I0 M0 62 m0) [ResultVar.cell 4 91] 1 (oX o1) (ov 0 ((Uc v (o2::l) al).F 0) (FR [])) .ret ⟨lk [(4,.pob [1] 1 0)],H⟩:=by
 obtain⟨H2,g1,g2⟩:=Iz (c:=DD Tryz.prog w0 I0 M0 62 m0) (s:=lk [(4,.pob [1] 1 0)]) (H:=H) (fun r=>r=5) (fun r p b h=>hM r p b (by omega)) (r0:=0) (p0:=[]) (by omega) (u:=v) (cs:=[.osl [5] 2 14 0 (1+l.length),iv al]) h00 (cs':=[LO (o2::l),iv al]) (by simp[A.ones]) (fun H1 h1=>⟨by
  have e5:=h1 5 [] rfl;have:=rh (H:=H1) (u:=2) (n:=1+l.length) (d:=[5]) (l:=(b2,o2)::l.map fun o=>(false,o)) (by
   rw[e5,List.map_cons,qF,h5];simp) (by simp;omega)
  rw[show((b2,o2)::l.map fun o=>((false,o):Bool × OP)).map Prod.snd=o2::l from by simp[Function.comp_def]] at this;exact this,Ad rfl,trivial⟩)
 refine H5 g1 ?_;have k1:=g2 1 [] (by omega);rw[h1] at k1;obtain⟨H3,g3,g4⟩:=Iz (c:=DD Tryz.prog w0 I0 M0 62 m0) (s:=lk [(4,.pob [1] 1 0)]) (H:=AJ H2 [0] ⟨v,.cells [LO (o2::l),iv al]⟩) (fun _=>False) (fun _ _ _ h=>h.elim) (r0:=1) (p0:=[]) (by simp) (u:=1) (cs:=iv o1.kind::iv o1.n :: .sl b1 (o1.l.map tA)::eL o1.e) (by simp[Aa,k1]) (cs':=Ql o1) (by simp[A.ones]) (fun H1 h1=>⟨Ad rfl,Ad rfl,Am,MC (by simp)⟩);refine H5 g3 (Ax (r0:=oX o1) (by simp[EU]) rfl fun p=>?_);have k2:=g4 0 p (by simp);by_cases hp:p=[]
 ·subst hp;simp[Aa,k2]
 ·have k3:=g2 0 p (by omega);rw[h0 p hp] at k3;simp[Aa,hp] at k2 ⊢;rw[k2,k3]
theorem Xk {o:OP} {l:List OP} (hl:l.length≤10000000) (hM:∀ (r:Nat) (p:List Nat) (b:Nat),1≤r→¬M0 (r::p) b) {o1 o2:OP} {b1 b2:Bool} {H:Hp} (h0:∀ p,H (0::p)=(Uc v (o::l) al).F 0 p) (h1:H [1]=⟨1,.cells UL⟩)
  (h3:H [3]=⟨1,.cells (iv o1.kind::iv o1.n :: .sl b1 (o1.l.map tA)::eL o1.e)⟩) (h4:H [4]=⟨1,.cells (iv o2.kind::iv o2.n :: .sl b2 (o2.l.map tA)::eL o2.e)⟩) (h5:H [5]=⟨0,.none⟩) :
  WPC (DD Tryz.prog w0 I0 M0 62 m0) ER (MJ (DD Tryz.prog w0 I0 M0 62 m0) [ResultVar.cell 4 91] 1 (oX o1) (ov 0 ((Uc v (o2::l) al).F 0) (FR []))) ⟨lk [(0,.pob [0] v 0),(4,.pob [1] 1 0),(6,.pob [3] 1 0),(7,.pob [4] 1 0)],H⟩:=by
 have c1':(1:Int)≤(l.length:Int)+1:=by omega
 have e00:H [0]=⟨v,.cells [LO (o::l),iv al]⟩:=by rw[h0];simp
 rw[ER.eq_1];simp[h1,h3,h4,h5,e00,c1',Aa,UL];refine⟨by omega,?_⟩;refine j5 hM (b1:=b1) (b2:=b2) (fun p hp=>?_) ?_ ?_ ?_
 ·have:=h0 p;simp[hp] at this;simp[Aa,hp,this]
 ·simp[Aa]
 ·simp[Aa]
 ·simp[Aa,zm,AX]
end
theorem KB {o:OP} {l:List OP} (h:XI o) (hl:l.length≤10000000) {n:Nat} (hn:1≤n) (v:Nat) (al:Int):SpecF Tryz.prog 165 (fun q=>[.pob [q] v 0,iv n]) (Uc v (o::l) al) (fun _=>oX (KW o n)) (Uc v (MN o n l) al):=by
 have S:=IX h;have hs:=LG h;refine Iq MR (by simp) (Ae Au (Ae AB Ah)) (GF _) fun w0 I0 M0 m0 hM=>?_;unfold HY;simp;refine Af S (by simp) ?_;by_cases c:Rq o≤n
 ·have e1:KW o n=o:=if_pos c;have e2:MN o n l=l:=if_pos c;rw[e1,e2];have c1':(1:Int)≤(l.length:Int)+1:=by omega
  simp[c,c1',AX];refine Ax (r0:=oX o) (by simp[EU]) rfl fun p=>?_;by_cases hp:p=[]
  ·subst hp;simp[Aa]
  ·simp[Aa,hp]
 ·have e1:KW o n=zv o n:=if_neg c;have e2:MN o n l=mr o n::l:=if_neg c;have c0:=c;rw[e1,e2];unfold Rq at c;rcases h.1 with ⟨k,a,b,d⟩ | ⟨k,a⟩ | ⟨k,a⟩ | ⟨k,a,b⟩
  ·have ew:i64.wrap (o.n-n)=o.n-n:=EJ;have e3:zv o n = .mk o.kind n o.l o.e:=if_pos k;have e4:mr o n = .mk o.kind (o.n-n) o.l o.e:=if_pos k;simp[c0,k,ew];rw[e3,e4];exact Xk (o:=o) hl hM (o1:=.mk o.kind n o.l o.e) (o2:=.mk o.kind (o.n-n) o.l o.e) (b1:=false) (b2:=false) (fun p=>by simp) (by simp[UL]) (by simp[k]) (by simp[k]) (by simp)
  ·have e3:zv o n = .mk o.kind o.n (o.l.take n) o.e:=if_neg (by omega);have e4:mr o n = .mk o.kind o.n (o.l.drop n) o.e:=if_neg (by omega);rw[if_neg (by omega),a] at c;have c5:n≤o.l.length:=by omega
   have c6:(n:Int)≤o.l.length:=by omega
   have c7:CJ o.l.length none (some (iv n)) (some (iv n))=some (0,n,some n):=by simp[CJ,EO,c5,c6]
   have c8:List.take (o.l.length-n) (List.drop n (o.l.map tA))=(o.l.drop n).map tA:=by rw[List.map_drop];exact AX (by simp)
   have c9:List.take n (o.l.map tA)=(o.l.take n).map tA:=by rw[List.map_take]
   simp[c0,k,c5,c6,c7,c8,Gk];rw[e3,e4,c9];exact Xk (o:=o) hl hM (o1:=.mk o.kind o.n (o.l.take n) o.e) (o2:=.mk o.kind o.n (o.l.drop n) o.e) (b1:=true) (b2:=false) (fun p=>by simp) (by simp[UL]) (by simp[k]) (by simp[k]) (by simp)
  ·have e3:zv o n = .mk o.kind o.n (o.l.take n) o.e:=if_neg (by omega);have e4:mr o n = .mk o.kind o.n (o.l.drop n) o.e:=if_neg (by omega);rw[if_neg (by omega),a] at c;have c5:n≤o.l.length:=by omega
   have c6:(n:Int)≤o.l.length:=by omega
   have c7:CJ o.l.length none (some (iv n)) (some (iv n))=some (0,n,some n):=by simp[CJ,EO,c5,c6]
   have c8:List.take (o.l.length-n) (List.drop n (o.l.map tA))=(o.l.drop n).map tA:=by rw[List.map_drop];exact AX (by simp)
   have c9:List.take n (o.l.map tA)=(o.l.take n).map tA:=by rw[List.map_take]
   simp[c0,k,c5,c6,c7,c8,Gk];rw[e3,e4,c9];exact Xk (o:=o) hl hM (o1:=.mk o.kind o.n (o.l.take n) o.e) (o2:=.mk o.kind o.n (o.l.drop n) o.e) (b1:=true) (b2:=false) (fun p=>by simp) (by simp[UL]) (by simp[k]) (by simp[k]) (by simp)
  ·rw[if_pos k] at c;omega
inductive Pc where
 |a (o:OP)
 |b (o:OP)
 |both (o o':OP)
inductive fC:List OP→List OP→List Pc→Prop
 |nil:fC [] [] []
 |fst (p:OP) (ps qs:List OP) (l:List Pc) (h:p.kind=2) (g:fC ps qs l):fC (p::ps) qs (.a p::l)
 |snd (ps:List OP) (q:OP) (qs:List OP) (l:List Pc) (hp:s7 2 ps=false) (h:q.kind=2) (g:fC ps qs l):fC ps (q::qs) (.b q::l)
 |both (p:OP) (ps:List OP) (q:OP) (qs:List OP) (n:Nat) (l:List Pc) (hp:p.kind ≠ 2) (hq:q.kind ≠ 2) (hn:(n:Int)=min (Rq p) (Rq q)) (g:fC (MN p n ps) (MN q n qs) l):fC (p::ps) (q::qs) (.both (KW p n) (KW q n)::l)
def UA (R:E→T→T→Prop) (o:OP) (t:T):Prop:=(o.kind=0∧o.e=E0)∨(o.kind=1∧o.e=E0)∨(o.kind=3∧∃ x,R o.e t x)
def ML (o:OP):Nat:=max (o.n.toNat+o.l.length) 1
def JE (o:OP):U:=if o.kind=0 then .keep else if o.kind=1 then .del T0 else .desc o.e
def KZ:U→U→Prop
 |.keep,.keep=>True
 |.del _,.del _=>True
 |.desc e,.desc e'=>e=e'
 |_,_=>False
inductive M8 (R:E→T→T→Prop):List Pc→List T→Prop
 |nil:M8 R [] []
 |a (o:OP) (l:List Pc) (a:List T) (h:o.kind=2) (g:M8 R l a):M8 R (.a o::l) a
 |b (o:OP) (l:List Pc) (a:List T) (h:o.kind=2) (g:M8 R l a):M8 R (.b o::l) a
 |both (o o':OP) (l:List Pc) (a1 a2:List T) (hn:a1.length=ML o) (hl:0≤o.n) (h:∀ t,t ∈ a1→UA R o t∧UA R o' t) (g:M8 R l a2):M8 R (.both o o'::l) (a1++a2)
noncomputable def Ka (mg:CV→T→E→E→T × List Cf) (at':CV) (o o':OP):List T→Nat→List T × List Cf
 |[],n=>([],[])
 |k::ks,n=>((CG mg (at'++[(0,(n:Int))]) k (JE o) (JE o')).1++(Ka mg at' o o' ks (n+1)).1,(CG mg (at'++[(0,(n:Int))]) k (JE o) (JE o')).2++(Ka mg at' o o' ks (n+1)).2)
noncomputable def run (mg:CV→T→E→E→T × List Cf) (at':CV) (kind:Int):List Pc→List T→List T→List T→Nat→List T × List Cf
 |[],mine,hers,ks,n=>F9 at' kind n mine hers
 |.a o::l,mine,hers,ks,n=>run mg at' kind l (mine++o.l) hers ks n
 |.b o::l,mine,hers,ks,n=>run mg at' kind l mine (hers++o.l) ks n
 |.both o o'::l,mine,hers,ks,n=>
  ((F9 at' kind n mine hers).1++((Ka mg at' o o' (ks.take (ML o)) n).1++(run mg at' kind l [] [] (ks.drop (ML o)) (n+ML o)).1),
   (F9 at' kind n mine hers).2++((Ka mg at' o o' (ks.take (ML o)) n).2++(run mg at' kind l [] [] (ks.drop (ML o)) (n+ML o)).2))
def Vg:List U→Prop
 |.ins _::_=>False
 |_=>True
theorem Ds {l:List T} {us:List U} (h:Vg us):G7 (l.map .ins++us)=l∧EG (l.map .ins++us)=us:=by
 induction l with
 |nil=>
  cases us with
  |nil=>exact⟨rfl,rfl⟩
  |cons u us=>cases u<;>first | exact⟨rfl,rfl⟩ | exact h.elim
 |cons x l ih=>exact⟨by rw[List.map_cons,List.cons_append,G7,ih.1],by rw[List.map_cons,List.cons_append,EG,ih.2]⟩
section
variable {mg:CV→T→E→E→T × List Cf} {at':CV} {kind:Int}
theorem S7 (n:Nat):F9 at' kind n [] []=([],[]):=by simp[F9]
theorem pE {us vs:List U} (hu:Vg us) (hv:Vg vs) (mine hers:List T):∀ (ks:List T) (n:Nat),Mt mg at' kind ks (mine.map .ins++us) (hers.map .ins++vs) n=((F9 at' kind n mine hers).1++(Mt mg at' kind ks us vs n).1,(F9 at' kind n mine hers).2++(Mt mg at' kind ks us vs n).2)
 |[],n=>by
  have e1:=Ds (l:=mine) hu;have e2:=Ds (l:=hers) hv;have e3:=Ds (l:=[]) hu;have e4:=Ds (l:=[]) hv;simp only[List.map_nil,List.nil_append] at e3 e4;simp only[Mt,e1,e2,e3,e4,S7,List.append_nil]
 |k::ks,n=>by
  have e1:=Ds (l:=mine) hu;have e2:=Ds (l:=hers) hv;have e3:=Ds (l:=[]) hu;have e4:=Ds (l:=[]) hv;simp only[List.map_nil,List.nil_append] at e3 e4;simp only[Mt,e1,e2,e3,e4,S7,List.nil_append]
theorem aw (k:T) (a:CV) {u u' v v':U} (h1:KZ u u') (h2:KZ v v'):CG mg a k u v=CG mg a k u' v':=by
 cases u<;>cases u'<;>first | exact h1.elim | skip
 all_goals cases v<;>cases v'<;>first | exact h2.elim | skip
 all_goals simp only[KZ] at h1 h2
 all_goals first | rfl | (subst h1;subst h2;rfl) | (subst h1;rfl) | (subst h2;rfl)
theorem Kq {u u':U} (h:KZ u u') (us:List U):Vg (u::us):=by
 cases u<;>first | trivial | (cases u'<;>exact h.elim)
theorem VQ {o o':OP} {us2 vs2:List U}:∀ (ks1 ks2:List T) (us1 vs1:List U) (n:Nat),us1.length=ks1.length→vs1.length=ks1.length→(∀ u,u ∈ us1→KZ u (JE o))→(∀ u,u ∈ vs1→KZ u (JE o')) →
  Mt mg at' kind (ks1++ks2) (us1++us2) (vs1++vs2) n=((Ka mg at' o o' ks1 n).1++(Mt mg at' kind ks2 us2 vs2 (n+ks1.length)).1,(Ka mg at' o o' ks1 n).2++(Mt mg at' kind ks2 us2 vs2 (n+ks1.length)).2)
 |[],ks2,us1,vs1,n,h1,h2,_,_=>by
  rw[List.eq_nil_of_length_eq_zero h1,List.eq_nil_of_length_eq_zero h2];simp[Ka]
 |k::ks1,ks2,[],vs1,n,h1,h2,_,_=>by simp at h1
 |k::ks1,ks2,u::us1,[],n,h1,h2,_,_=>by simp at h2
 |k::ks1,ks2,u::us1,v::vs1,n,h1,h2,h3,h4=>by
  have ih:=VQ (us2:=us2) (vs2:=vs2) (o:=o) (o':=o') ks1 ks2 us1 vs1 (n+1) (by simpa using h1) (by simpa using h2) (fun u hu=>h3 u (List.mem_cons_of_mem _ hu)) (fun u hu=>h4 u (List.mem_cons_of_mem _ hu));have e3:=Ds (l:=[]) (Kq (h3 u (by simp)) (us1++us2));have e4:=Ds (l:=[]) (Kq (h4 v (by simp)) (vs1++vs2));simp only[List.map_nil,List.nil_append] at e3 e4;have eu:CG mg (at'++[(0,(n:Int))]) k u v=CG mg (at'++[(0,(n:Int))]) k (JE o) (JE o'):=aw k _ (h3 u (by simp)) (h4 v (by simp));simp only[List.cons_append,Mt,e3,e4,S7,List.nil_append,ZM,List.tail_cons,ih,Ka,eu,List.length_cons,List.append_assoc];rw[show n+1+ks1.length=n+(ks1.length+1) from by omega]
end
theorem RD (l:List T):NR (.mk 1 0 l E0)=l.map .del:=by simp[NR]
theorem mN {R:E→T→T→Prop} {p:OP} {ps:List OP} {a x:List T} (h:LdO R (p::ps) a x) (hp:p.kind ≠ 2) {n:Nat} (h1:1≤n) (hn:(n:Int)≤Rq p) :
  ∃ a1 a2 x2,a=a1++a2∧a1.length=n∧LdO R (MN p n ps) a2 x2∧(∀ t,t ∈ a1→UA R (KW p n) t)∧ML (KW p n)=n∧0≤(KW p n).n∧Ku (p::ps)=NR (KW p n)++Ku (MN p n ps)∧(NR (KW p n)).length=n∧∀ u,u ∈ NR (KW p n)→KZ u (JE (KW p n)):=by
 cases h with
 |@keep _ a b l m hne hl g=>
  have hs:Rq (.mk 0 (l.length:Nat) [] E0)=(l.length:Int):=by simp[Rq]
  rw[hs] at hn;have hll:l.length=m.length:=by simpa using congrArg List.length hl
  by_cases c:(l.length:Int)≤n
  ·have e:n=l.length:=by omega
   have e1:KW (.mk 0 (l.length:Nat) [] E0) n = .mk 0 (l.length:Nat) [] E0:=by unfold KW;rw[if_pos (by rw[hs];exact c)]
   have e2:MN (.mk 0 (l.length:Nat) [] E0) n ps=ps:=by unfold MN;rw[if_pos (by rw[hs];exact c)]
   rw[e1,e2];refine⟨l,a,b,rfl,e.symm,g,fun t _=>.inl ⟨rfl,rfl⟩,by simp[ML];omega,by simp,by rw[C6],by simp[NR,e],fun u hu=>?_⟩;simp[NR] at hu;rw[hu.2];simp[JE,KZ]
  ·have e1:KW (.mk 0 (l.length:Nat) [] E0) n = .mk 0 n [] E0:=by unfold KW;rw[if_neg (by rw[hs];exact c)];rfl
   have e2:MN (.mk 0 (l.length:Nat) [] E0) n ps = .mk 0 ((l.drop n).length:Nat) [] E0::ps:=by
    unfold MN;rw[if_neg (by rw[hs];exact c)];simp[mr];omega
   rw[e1,e2];refine⟨l.take n,l.drop n++a,m.drop n++b,by rw[← List.append_assoc,List.take_append_drop],by simp;omega,.keep _ _ (fun h=>by have:=congrArg List.length h;simp at this;omega) (by rw[List.map_drop,List.map_drop,hl]) g,fun t _=>.inl ⟨rfl,rfl⟩,by simp[ML];omega,by simp,?_,by simp[NR],fun u hu=>?_⟩
   ·rw[C6,C6,← List.append_assoc];simp[NR];omega
   ·simp[NR] at hu;rw[hu.2];simp[JE,KZ]
 |@del _ a b l m hne hl g=>
  have hs:Rq (.mk 1 0 l E0)=(l.length:Int):=by simp[Rq]
  rw[hs] at hn;have hll:l.length=m.length:=by simpa using congrArg List.length hl
  by_cases c:(l.length:Int)≤n
  ·have e:n=l.length:=by omega
   have e1:KW (.mk 1 0 l E0) n = .mk 1 0 l E0:=by unfold KW;rw[if_pos (by rw[hs];exact c)]
   have e2:MN (.mk 1 0 l E0) n ps=ps:=by unfold MN;rw[if_pos (by rw[hs];exact c)]
   rw[e1,e2];refine⟨m,a,x,rfl,by omega,g,fun t _=>.inr (.inl ⟨rfl,rfl⟩),by simp[ML];omega,by simp,by rw[C6],by simp[NR,e],fun u hu=>?_⟩;simp[NR] at hu;obtain⟨t,_,rfl⟩:=hu;simp[JE,KZ]
  ·have e1:KW (.mk 1 0 l E0) n = .mk 1 0 (l.take n) E0:=by unfold KW;rw[if_neg (by rw[hs];exact c)];rfl
   have e2:MN (.mk 1 0 l E0) n ps = .mk 1 0 (l.drop n) E0::ps:=by unfold MN;rw[if_neg (by rw[hs];exact c)];rfl
   rw[e1,e2];refine⟨m.take n,m.drop n++a,x,by rw[← List.append_assoc,List.take_append_drop],by simp;omega,.del _ _ (fun h=>by have:=congrArg List.length h;simp at this;omega) (by rw[List.map_drop,List.map_drop,hl]) g,fun t _=>.inr (.inl ⟨rfl,rfl⟩),by simp[ML];omega,by simp,?_,by simp[NR];omega,fun u hu=>?_⟩
   ·rw[C6,C6,← List.append_assoc];rw[RD,RD,RD,← List.map_append,List.take_append_drop]
   ·rw[RD] at hu;obtain⟨t,_,rfl⟩:=List.mem_map.1 hu;simp[JE,KZ]
 |ins l m hne hl g=>exact absurd rfl hp
 |@desc _ a b e x y r g=>
  have hs:Rq (.mk 3 0 [] e)=1:=by simp[Rq]
  rw[hs] at hn;have en:n=1:=by omega
  subst en;have e1:KW (.mk 3 0 [] e) 1 = .mk 3 0 [] e:=by unfold KW;rw[if_pos (by rw[hs];decide)]
  have e2:MN (.mk 3 0 [] e) 1 ps=ps:=by unfold MN;rw[if_pos (by rw[hs];decide)]
  rw[e1,e2];refine⟨[x],a,b,rfl,rfl,g,fun t ht=>.inr (.inr ⟨rfl,y,?_⟩),by simp[ML],by simp,by rw[C6],by simp[NR],fun u hu=>?_⟩
  ·rw[List.mem_singleton.1 ht];exact r
  ·simp[NR] at hu;rw[hu];simp[JE,KZ]
theorem dk {R:E→T→T→Prop} {q:OP} {qs:List OP} {y:List T} (h:LdO R (q::qs) [] y):q.kind=2:=by
 generalize ha:([]:List T)=a at h;cases h with
 |keep l m hne hl g=>exact absurd (List.append_eq_nil_iff.1 ha.symm).1 hne
 |del l m hne hl g=>
  have:=(List.append_eq_nil_iff.1 ha.symm).1;subst this;exact absurd (by simpa using hl) hne
 |ins l m hne hl g=>rfl
 |desc e x y r g=>cases ha
theorem RN (p:OP) (n:Nat) (ps:List OP):(MN p n ps).length≤ps.length+1:=by unfold MN;split<;>simp
theorem vd {o:OP} (h:XI o) {n:Nat} (c:¬ Rq o≤n):XI (mr o n):=by
 obtain⟨h1,h2,h3⟩:=h;unfold Rq at c;unfold mr;rcases h1 with ⟨k,a,b,d⟩ | ⟨k,a⟩ | ⟨k,a⟩ | ⟨k,a,b⟩
 ·rw[if_neg (by omega),d] at c;simp at c;rw[if_pos k];exact⟨.inl ⟨k,by simp;omega,by simp;omega,d⟩,fun h=>by simp[k] at h,h3⟩
 ·rw[if_neg (by omega),a] at c;rw[if_neg (by omega)];exact⟨.inr (.inl ⟨k,a⟩),fun _ h=>by have:=congrArg List.length h;simp at this;omega,by simp;omega⟩
 ·rw[if_neg (by omega),a] at c;rw[if_neg (by omega)];exact⟨.inr (.inr (.inl ⟨k,a⟩)),fun _ h=>by have:=congrArg List.length h;simp at this;omega,by simp;omega⟩
 ·rw[if_pos k] at c;rw[if_neg (by omega)];exact⟨.inr (.inr (.inr ⟨k,a,by simp[b]⟩)),fun h=>by simp[k] at h,by simp;omega⟩
theorem XG {p:OP} {ps:List OP} (h:∀ o,o ∈ p::ps→XI o) (n:Nat):∀ o,o ∈ MN p n ps→XI o:=by
 intro o ho;unfold MN at ho;split at ho
 ·exact h o (List.mem_cons_of_mem _ ho)
 ·rename_i c;rcases List.mem_cons.1 ho with rfl | ho
  ·exact vd (h p (by simp)) c
  ·exact h o (List.mem_cons_of_mem _ ho)
theorem vu {R:E→T→T→Prop}:∀ (N:Nat) (ps qs:List OP) (a x y:List T),LdO R ps a x→LdO R qs a y→(∀ o,o ∈ ps→XI o)→(∀ o,o ∈ qs→XI o)→ps.length+qs.length+2*a.length≤N →
  ∃ l,fC ps qs l∧l.length≤N∧M8 R l a∧∀ (mg:CV→T→E→E→T × List Cf) (at':CV) (kind:Int) (mine hers:List T) (n:Nat),run mg at' kind l mine hers a n=Mt mg at' kind a (mine.map .ins++Ku ps) (hers.map .ins++Ku qs) n:=by
 intro N;induction N with
 |zero=>
  intro ps qs a x y hp hq _ _ hN;have e1:=List.eq_nil_of_length_eq_zero (show ps.length=0 by omega);have e2:=List.eq_nil_of_length_eq_zero (show qs.length=0 by omega);have e3:=List.eq_nil_of_length_eq_zero (show a.length=0 by omega);subst e1;subst e2;subst e3;refine⟨[],.nil,by simp,.nil,fun mg at' kind mine hers n=>?_⟩;have i1:=Ds (l:=mine) (us:=[]) trivial;have i2:=Ds (l:=hers) (us:=[]) trivial;simp only[List.append_nil] at i1 i2;simp[run,Mt,Ku,i1,i2]
 |succ N ih=>
  intro ps qs a x y hp hq gp gq hN;cases ps with
  |nil=>
   have ha:a=[]:=by cases hp;rfl
   cases qs with
   |nil=>
    subst ha;refine⟨[],.nil,by simp,.nil,fun mg at' kind mine hers n=>?_⟩;have i1:=Ds (l:=mine) (us:=[]) trivial;have i2:=Ds (l:=hers) (us:=[]) trivial;simp only[List.append_nil] at i1 i2;simp[run,Mt,Ku,i1,i2]
   |cons q qs=>
    have k:q.kind=2:=dk (by rw[ha] at hq;exact hq);cases hq with
    |keep l m hne hl g=>simp at k
    |del l m hne hl g=>simp at k
    |desc e x y r g=>simp at k
    |ins l m hne hl g=>
     obtain⟨r,k1,k2,k3,k4⟩:=ih [] qs a x _ hp g gp (fun o h=>gq o (List.mem_cons_of_mem _ h)) (by simp at hN ⊢; omega);refine⟨.b (.mk 2 0 l E0)::r,.snd _ _ _ _ rfl rfl k1,by simp;omega,.b _ _ _ rfl k3,fun mg at' kind mine hers n=>?_⟩;rw[run,k4,C6];simp[NR]
  |cons p ps=>
   by_cases c:p.kind=2
   ·cases hp with
    |keep l m hne hl g=>simp at c
    |del l m hne hl g=>simp at c
    |desc e x y r g=>simp at c
    |ins l m hne hl g=>
     obtain⟨r,k1,k2,k3,k4⟩:=ih ps qs a _ y g hq (fun o h=>gp o (List.mem_cons_of_mem _ h)) gq (by simp at hN ⊢; omega);refine⟨.a (.mk 2 0 l E0)::r,.fst _ _ _ _ rfl k1,by simp;omega,.a _ _ _ rfl k3,fun mg at' kind mine hers n=>?_⟩;rw[run,k4,C6];simp[NR]
   ·cases qs with
    |nil=>
     have ha:a=[]:=by cases hq;rfl
     subst ha;exact absurd (dk hp) c
    |cons q qs=>
     by_cases d:q.kind=2
     ·cases hq with
      |keep l m hne hl g=>simp at d
      |del l m hne hl g=>simp at d
      |desc e x y r g=>simp at d
      |ins l m hne hl g=>
       obtain⟨r,k1,k2,k3,k4⟩:=ih (p::ps) qs a x _ hp g gp (fun o h=>gq o (List.mem_cons_of_mem _ h)) (by simp at hN ⊢; omega);refine⟨.b (.mk 2 0 l E0)::r,.snd _ _ _ _ (decide_eq_false c) rfl k1,by simp;omega,.b _ _ _ rfl k3,fun mg at' kind mine hers n=>?_⟩;rw[run,k4,C6 (.mk 2 0 l E0)];simp[NR]
     ·have s1:=LG (gp p (by simp));have s2:=LG (gq q (by simp));obtain⟨n,hn⟩:=Int.eq_ofNat_of_zero_le (show 0≤min (Rq p) (Rq q) by omega);obtain⟨a1,a2,x2,rfl,u1,u2,u3,u4,u5,u6,u7,u8'⟩:=mN hp c (n:=n) (by omega) (by omega);obtain⟨b1,b2,y2,e,v1,v2,v3,v4,v5,v6,v7,v8⟩:=mN hq d (n:=n) (by omega) (by omega);obtain⟨rfl,rfl⟩:=List.append_inj e (by omega);have l1:=RN p n ps;have l2:=RN q n qs;obtain⟨r,k1,k2,k3,k4⟩:=ih (MN p n ps) (MN q n qs) a2 x2 y2 u2 v2 (XG gp n) (XG gq n) (by simp at hN ⊢; omega);refine⟨.both (KW p n) (KW q n)::r,.both _ _ _ _ n _ c d hn.symm k1,by simp at hN ⊢; omega,.both _ _ _ _ _ (by omega) u5 (fun t ht=>⟨u3 t ht,v3 t ht⟩) k3,fun mg at' kind mine hers m=>?_⟩;have eN1:Vg (NR (KW p n)++Ku (MN p n ps)):=by
       cases e1:NR (KW p n) with
       |nil=>rw[e1] at u7;simp at u7;omega
       |cons u us=>exact Kq (u8' u (by rw[e1];simp)) _
      have eN2:Vg (NR (KW q n)++Ku (MN q n qs)):=by
       cases e1:NR (KW q n) with
       |nil=>rw[e1] at v7;simp at v7;omega
       |cons u us=>exact Kq (v8 u (by rw[e1];simp)) _
      rw[u6,v6,pE eN1 eN2,VQ (o:=KW p n) (o':=KW q n) a1 a2 _ _ _ (by omega) (by omega) u8' v8];have k4':=k4 mg at' kind [] [] (m+n);simp only[List.map_nil,List.nil_append] at k4';rw[run,u4,List.take_left' u1,List.drop_left' u1,k4',u1]
def gz (one:T→T→E) (a b:List T) (o:OP):Prop:=o.kind=3→∃ x y,x ∈ a∧y ∈ b∧FW x y ≠ 0∧o.e=one x y
theorem WL (one:T→T→E) (a b l:List T):∀ o,o ∈ DE l→gz one a b o:=fun o ho hk=>by
 unfold DE at ho;split at ho
 ·simp at ho
 ·rw[List.mem_singleton] at ho;subst ho;cases hk
theorem We (one:T→T→E) (a b l:List T):∀ o,o ∈ B7 l→gz one a b o:=fun o ho hk=>by
 unfold B7 at ho;split at ho
 ·simp at ho
 ·rw[List.mem_singleton] at ho;subst ho;cases hk
theorem mW {one:T→T→E} {a b a' b':List T} (hA:∀ t,t ∈ a→t ∈ a') (hB:∀ t,t ∈ b→t ∈ b') {o:OP} (h:gz one a b o):gz one a' b' o:=fun hk=>by
 obtain⟨x,y,hx,hy,hs,e⟩:=h hk;exact⟨x,y,hA x hx,hB y hy,hs,e⟩
theorem dU (one:T→T→E) (a b:List T):∀ (P:List Sc) (i j:Nat) (out:List OP),Y7 a.length b.length i j P→(∀ x,x ∈ P→FW (a.getD x.i T0) (b.getD x.j T0) ≠ 0)→(∀ o,o ∈ out→gz one a b o)→∀ o,o ∈ GI one a b P i j out→gz one a b o
 |[],i,j,out,h,_,g=>by
  intro o ho;rw[GI] at ho;rcases List.mem_append.1 ho with ho | ho
  ·rcases List.mem_append.1 ho with ho | ho
   ·exact g o ho
   ·exact WL _ _ _ _ o ho
  ·exact We _ _ _ _ o ho
 |x::P,i,j,out,h,hs,g=>by
  obtain⟨k1,k2,k3,k4,k5⟩:=h;rw[GI];refine dU one a b P _ _ _ k5 (fun y hy=>hs y (List.mem_cons_of_mem _ hy)) fun o ho=>?_;rcases List.mem_append.1 ho with ho | ho
  ·rcases List.mem_append.1 ho with ho | ho
   ·rcases List.mem_append.1 ho with ho | ho
    ·exact g o ho
    ·exact WL _ _ _ _ o ho
   ·exact We _ _ _ _ o ho
  ·rw[List.mem_singleton] at ho;subst ho;intro _;refine⟨_,_,?_,?_,hs x (by simp),rfl⟩
   ·rw[List.getD_eq_getElem?_getD,List.getElem?_eq_getElem k3];exact C5 k3
   ·rw[List.getD_eq_getElem?_getD,List.getElem?_eq_getElem k4];exact C5 k4
theorem eW (one:T→T→E) (a b:List T):∀ o,o ∈ FU one a b→gz one a b o:=by
 refine dU one a b _ 0 0 [] (Qw a b) (fun x hx=>?_) (by simp);obtain⟨h,_⟩:=Wk (LC a b);obtain⟨h1,h2⟩:=F4 h;obtain⟨g1,g2⟩:=N5 h1;obtain⟨_,_,_,hn,r,k1,k2⟩:=Mn (h2 x (g2.subset hx));simp[LC] at k1;obtain⟨t,e1,e2⟩:=k1;rw[← e2] at k2;simp at k2;obtain⟨u,e3,e4⟩:=k2;rw[List.getD_eq_getElem?_getD,List.getD_eq_getElem?_getD,e1,e3];show FW t u ≠ 0;omega
theorem qD {one:T→T→E} (S:List Sp) (a b:List T):∀ o,o ∈ Cv (FU one) S a b []→gz one a b o:=by
 have app:∀ {out l:List OP},(∀ o,o ∈ out→gz one a b o)→(∀ o,o ∈ l→gz one a b o)→∀ o,o ∈ out++l→gz one a b o:=fun h1 h2 o ho=>by
  rcases List.mem_append.1 ho with ho | ho
  ·exact h1 o ho
  ·exact h2 o ho
 obtain⟨a',b',_,_,h⟩:=IH (gap:=FU one) (S0:=S) (I:=fun a' b' out=>(∀ t,t ∈ a'→t ∈ a)∧(∀ t,t ∈ b'→t ∈ b)∧∀ o,o ∈ out→gz one a b o) (fun s hs x y out h=>⟨fun t ht=>h.1 t (QL ht),fun t ht=>h.2.1 t (QL ht),app h.2.2 fun o ho hk=>by
   simp at ho;subst ho;cases hk⟩) (fun n x y out h=>⟨fun t ht=>h.1 t (QL ht),h.2.1,app h.2.2 (WL _ _ _ _)⟩) (fun n x y out h=>⟨h.1,fun t ht=>h.2.1 t (QL ht),app h.2.2 (We _ _ _ _)⟩) (fun n m x y out h=>⟨fun t ht=>h.1 t (QL ht),fun t ht=>h.2.1 t (QL ht),app h.2.2 fun o ho=>mW (fun t ht=>h.1 t (OB ht)) (fun t ht=>h.2.1 t (OB ht)) (eW one _ _ o ho)⟩) S a b [] (fun s hs=>hs) ⟨fun t ht=>ht,fun t ht=>ht,by simp⟩
 exact h
theorem pk (one:T→T→E) (most:Int) (a b:T):∀ o,o ∈ OO one most a b→gz one a.kids b.kids o:=by
 unfold OO;split
 ·exact qD _ _ _
 ·exact eW one _ _
theorem Lw {e:E} {a u:T} (h:SC e a u):G.Spec Tryz.prog 27 [eX e,tX a] (.tup [tX (Ag u),bv true]):=by
 refine Al WN (by simp) fun w0 I0=>?_;unfold PJ;simp;refine Af h.2 (by simp) ?_;simp;refine Af (C8 u h.1) (by simp) ?_;have e1:tX (Ag u) = .agg [iv u.kind,DN (Ag u).words,BG (Ag u).kids]:=by
  show A.agg [iv (Ag u).kind,DN (Ag u).words,BG (Ag u).kids]=_;rw[F5]
 simp;rw[e1];exact CP ⟨Ad (by simp),Ad rfl,trivial⟩
theorem XV (l:List T) (n:Nat):B4 (l.take n)≤B4 l:=by
 induction l generalizing n with
 |nil=>simp
 |cons x l ih=>
  cases n with
  |zero=>
   have h1:=GW x;have h2:=Ir l;rw[List.take_zero,Cz];simp;omega
  |succ n=>
   rw[List.take_succ_cons,Cz,Cz];have:=ih n;omega
theorem ct:∀ t:T,Bc (Ag t)≤Bc t:=by
 refine T.ind fun k w l ih=>?_;have hm:∀ m:List T,(∀ t,t ∈ m→Bc (Ag t)≤Bc t)→B4 (m.map Ag)≤B4 m:=fun m=>by
  induction m with
  |nil=>intro _;simp
  |cons x m ihm=>
   intro h;rw[List.map_cons,Cz,Cz];have h1:=h x (by simp);have h2:=ihm fun t ht=>h t (List.mem_cons_of_mem _ ht);omega
 have h1:=hm l ih;have h2:=Ir l;rw[Ci,Fb];split
 ·simp;omega
 ·split
  ·have h3:=J7 w;have h4:=XV (l.map Ag) (Cy (l.map Ag)).length;rw[← IQ] at h4;rw[Fb];omega
  ·rw[Fb];omega
abbrev AcN (s:Int × Int):List A:=[iv s.1,iv s.2]
def KC (s:Int × Int):A:=.agg (AcN s)
@[simp] theorem Sv (s:Int × Int):(KC s).cells=AcN s:=rfl
abbrev Ce (l:CV):A:=.sl false (l.map KC)
@[simp] theorem AeT (l:CV):Dd 2 (l.map KC)=true:=by
 rw[EX];intro x hx;obtain⟨y,_,rfl⟩:=List.mem_map.1 hx;rfl
abbrev Xu (t:T):List A:=[iv t.kind,DN t.words,BG t.kids]
abbrev cfC (c:Cf):List A:=[Ce c.path,iv c.base.kind,DN c.base.words,BG c.base.kids,iv c.ours.kind,DN c.ours.words,BG c.ours.kids,iv c.theirs.kind,DN c.theirs.words,BG c.theirs.kids]
def oY (c:Cf):A:=.agg (cfC c)
@[simp] theorem yJ (c:Cf):(oY c).cells=cfC c:=rfl
@[simp] theorem AdA (l:List Cf):Dd 10 (l.map oY)=true:=by rw[EX];simp
abbrev vZ (l:List Cf):A:=.sl false (l.map oY)
def Ni (v w:Nat) (C:List Cf):Fam:=⟨fun r p=>if p=[] then ⟨v,.cells [.osl [r,0] (w+C.length) 10 0 C.length]⟩ else if p=[0] then ⟨w+C.length,.arr 10 (C.map oY)⟩ else ⟨0,.none⟩,fun {γ δ r r'} hg hd p=>by
  by_cases h1:p=[]
  ·rw[if_pos h1,if_pos h1];refine Fam.cells_ren ?_;simp[A.renL,A.ren,hg,hd]
  ·rw[if_neg h1,if_neg h1];by_cases h2:p=[0]
   ·rw[if_pos h2];refine Fam.arr_ren ?_;simp only[Co,List.map_map];refine List.map_congr_left fun x _=>?_;simp[oY,A.ren,A.renL]
   ·rw[if_neg h2];rfl,fun {D r} hD p=>by
  by_cases h1:p=[]
  ·rw[if_pos h1];simp[Ob.refs,A.refsL,A.refs,hD]
  ·rw[if_neg h1];by_cases h2:p=[0]
   ·rw[if_pos h2];simp only[Ob.refs,refsL_iff];intro y hy;obtain⟨x,_,rfl⟩:=List.mem_map.1 hy;simp[oY,A.refs,A.refsL]
   ·rw[if_neg h2];trivial⟩
@[simp] theorem AhE {v w:Nat} {C:List Cf} {r:Nat} {p:Nm}:(Ni v w C).F r p=if p=[] then ⟨v,.cells [.osl [r,0] (w+C.length) 10 0 C.length]⟩ else if p=[0] then ⟨w+C.length,.arr 10 (C.map oY)⟩ else ⟨0,.none⟩:=rfl
theorem BD (t:T):EH (fun _=>tX t):=GV (cs:=Xu t) rfl fun x hx=>by simp at hx;rcases hx with rfl | rfl | rfl<;>rfl
theorem Cn (e:E):EH (fun _=>eX e):=GV (cs:=eL e) rfl fun x hx=>by simp at hx;rcases hx with rfl | rfl | rfl | rfl | rfl | rfl | rfl | rfl | rfl | rfl | rfl<;>rfl
theorem Ii (l:CV) (k n:Int) (h:l.length≤1000000):G.Spec Tryz.prog 84 [Ce l,iv k,iv n] (Ce (l++[(k,n)])):=by
 refine Al Rt (by simp) fun w0 I0=>?_;unfold KU;have c:CJ l.length none (some (iv l.length)) (some (iv l.length))=some (0,l.length,some l.length):=by simp[CJ,EO]
 simp[c,Gk,AX];refine⟨by omega,?_⟩;have:=B0 (H:=FR [([0],⟨1,.arr 2 ((l++[(k,n)]).map KC)⟩)]) (o:=[0]) (u:=1) (n:=l.length+1) (sz:=2) (l:=l++[(k,n)]) (f:=KC) (by simp) (by simp) (fun x=>by rw[Sv];rfl);simp[KC] at this;rw[show Ce (l++[(k,n)]) = .sl false (l.map KC++[.agg [iv k,iv n]]) from by rw[Ce,List.map_append];rfl];exact this
theorem Lb (w:Int):G.Spec Tryz.prog 132 [uv w] (tX (B5 w)):=by
 refine Al SF (by simp) fun w0 I0=>?_;unfold LF;simp;exact BZ ⟨Ad rfl,Am,Am,trivial⟩
theorem iB {e:E} {t v:T} {b:Bool} (h:G.Spec Tryz.prog 27 [eX e,tX t] (.tup [tX v,bv b])):G.Spec Tryz.prog 54 [eX e,tX t] (tX v):=by
 refine Al Wh (by simp) fun w0 I0=>?_;unfold Pv;simp;refine Af h (by simp) ?_;simp;exact Ad (by simp)
theorem ZY (l:CV) (h:l.length≤1000000):G.Spec Tryz.prog 91 [Ce l] (Ce l):=by
 cases l with
 |nil=>
  refine(Vl (fun cap=>?_) (fun a cap=>?_)).spec
  ·refine J9 Cb (by simp) fun w0 I0=>?_;unfold BB;simp;exact YQ
  ·refine J9 Cb (by simp) fun w0 I0=>?_;unfold BB;simp;exact PI (H:=FR [([0],⟨1,.arr 2 []⟩)]) (o:=[0]) (u:=1) (off:=0) (len:=0) (sz:=2) (xs:=[]) (by simp) (by simp) (by simp)
 |cons x l=>
  refine Al Cb (by simp) fun w0 I0=>?_;unfold BB;rw[List.length_cons] at h;simp[Ce];refine⟨by omega,?_⟩;exact B0 (o:=[0]) (u:=1) (n:=l.length+1) (sz:=2) (l:=x::l) (f:=KC) (by simp) (by simp) (fun x=>by rw[Sv];rfl)
abbrev tXb (f:Bool) (t:T):A:=.agg [iv t.kind,.sl f (t.words.map uv),.sl f (t.kids.map tA)]
theorem fH (f:Bool) (t:T):EH (fun _=>tXb f t):=GV (cs:=[iv t.kind,.sl f (t.words.map uv),.sl f (t.kids.map tA)]) rfl fun x hx=>by simp at hx;rcases hx with rfl | rfl | rfl<;>rfl
theorem Lh {l:CV} {b o t:T} (f1 f2:Bool) (hl:l.length≤1000000) (wb:AK b) (wo:AK o) (wt:AK t) (v w:Nat) {C:List Cf} (hC:C.length≤100000000000) :
  SpecF Tryz.prog 58 (fun r=>[.pob [r] v 0,Ce l,tX b,tXb f1 o,tXb f2 t]) (Ni v w C) (fun _=>tX b) (Ni v w (C++[⟨l,Ag b,Ag o,Ag t⟩])):=by
 have K:=ZY l hl;have N1:=C8 b wb;have N2:G.Spec Tryz.prog 35 [tXb f1 o] (tX (Ag o)):=(C8 o wo).soft (by simp[A.softL,A.soft,Ji,FB]);have N3:G.Spec Tryz.prog 35 [tXb f2 t] (tX (Ag t)):=(C8 t wt).soft (by simp[A.softL,A.soft,Ji,FB]);refine Iq LB (by simp) (Ae Au (Ae Ba (Ae (BD b) (Ae (fH f1 o) (Ae (fH f2 t) Ah))))) (BD b) fun w0 I0 M0 m0 hM=>?_;unfold HE;simp;refine Af K (by simp) ?_;simp;refine Af N1 (by simp) ?_;simp;refine Af N2 (by simp) ?_;simp;refine Af N3 (by simp) ?_;simp[Aa];refine⟨by omega,?_⟩;refine Ax (r0:=tX b) (by simp[EU]) rfl fun p=>?_;by_cases h1:p=[]
 ·subst h1;simp[Aa];omega
 ·by_cases h2:p=[0]
  ·subst h2;simp[Aa,oY,AX];omega
  ·simp[Aa,h1,h2]
theorem NZ {l:CV} {b o t:T} (hl:l.length≤1000000) (wb:AK b) (wo:AK o) (wt:AK t) (v w:Nat) {C:List Cf} (hC:C.length≤100000000000) :
  SpecF Tryz.prog 58 (fun r=>[.pob [r] v 0,Ce l,tX b,tX o,tX t]) (Ni v w C) (fun _=>tX b) (Ni v w (C++[⟨l,Ag b,Ag o,Ag t⟩])):=Lh false false hl wb wo wt v w hC
variable {n0:Nat} {w0:World} {I0:Nat→Prop} {Q:Exit→Sta→Prop}
theorem q9 {ks:List KE} (hl:ks.length≤10000000000000) {n:Nat}
  (hq:∀ (H':Hp) (st:List (Nat × A)),H' [0]=⟨1,.cells (DS)⟩→ks.find? (fun k=>decide (k.at_=(n:Int)))=none→Q (.exit 0) ⟨lk ([(1,iv n),(4,.pob [0] 1 0)]++st),H'⟩)
  (hr:∀ (H':Hp) (x:KE),ks.find? (fun k=>decide (k.at_=(n:Int)))=some x→H' [0]=⟨1,.cells (eL x.e)⟩→Q .ret ⟨lk [(4,.pob [0] 1 0)],H'⟩) :
  ∀ (j i:Nat) (H:Hp),i+j=ks.length→ks.find? (fun k=>decide (k.at_=(n:Int)))=(ks.drop i).find? (fun k=>decide (k.at_=(n:Int)))→H [0]=⟨1,.cells DS⟩ →
  LoopC (cx Tryz.prog w0 I0 n0) Ig Q ⟨lk [(1,iv n),(4,.pob [0] 1 0),(7,QA ks),(8,iv ks.length),(9,iv i)],H⟩:=by
 intro j;induction j with
 |zero=>
  intro i H hj hf h0;have:i=ks.length:=by omega
  subst this;rw[List.drop_length] at hf;refine Ab Ai Ig.eq_1 ?_;simp;have:=hq H [(7,QA ks),(8,iv ks.length),(9,iv ks.length),(10,bv false)] h0 hf;simpa using this
 |succ j ih=>
  intro i H hj hf h0;have hlt:i<ks.length:=by omega
  have ew:=AW i;have hd:ks.drop i=ks[i]::ks.drop (i+1):=(List.getElem_cons_drop hlt).symm;have next:=ih (i+1)
  rw[hd,List.find?_cons] at hf;generalize hx:ks[i]=x at *;refine Ab Ai Ig.eq_1 ?_;by_cases c:x.at_=(n:Int)
  ·rw[decide_eq_true c] at hf;simp[hlt,hx,Aa,c,h0,DS];exact hr _ x hf (by simp[Aa])
  ·rw[decide_eq_false c] at hf;simp[hlt,hx,Aa,c];rw[ew];exact next _ (by omega) hf (by simp[Aa,h0])
theorem bc (H1:Hp):Hy H1 DS (eL E0):=by
 have hE:eL E0=[iv 0,iv 0,.sl false [],.sl false [],iv 0,.sl false [],.sl false [],.sl false [],.sl false [],iv 0,.sl false []]:=by simp[E0]
 rw[hE];exact⟨Ad rfl,Ad rfl,Am,Am,Ad rfl,Am,Am,Am,Am,Ad rfl,Am,trivial⟩
theorem Vh (ks:List KE) (hl:ks.length≤10000000000000) (n:Nat):G.Spec Tryz.prog 85 [QA ks,iv n] (eX (F3 ks n)):=by
 refine Al XT (by simp) fun w0 I0=>?_;unfold Q1;simp;refine q9 (n:=n) hl (fun H' st h0 hf=>?_) (fun H' x hf h0=>?_) ks.length 0 _ (by omega) (by simp) (by simp[DS])
 ·have:F3 ks n=E0:=by unfold F3;rw[hf];rfl
  rw[this];simp[h0,DS];exact BZ (bc _)
 ·have:F3 ks n=x.e:=by unfold F3;rw[hf];rfl
  rw[this];simp[h0];exact Ad (by simp)
def jc:Pc→A
 |.a o=>.agg (iv 1::(Ql o++UL))
 |.b o=>.agg (iv 2::(UL++Ql o))
 |.both o o'=>.agg (iv 0::(Ql o++Ql o'))
abbrev O0:OP:=.mk 0 0 [] E0
def uy:Pc→List A
 |.a o=>iv 1::(Ql o++Ql O0)
 |.b o=>iv 2::(Ql O0++Ql o)
 |.both o o'=>iv 0::(Ql o++Ql o')
def pcA (x:Pc):A:=.agg (uy x)
@[simp] theorem yu (x:Pc):(pcA x).cells=uy x:=rfl
@[simp] theorem AfA (x:Pc):(jc x).cells.length=29:=by cases x<;>rfl
@[simp] theorem AdV (x:Pc):(uy x).length=29:=by cases x<;>rfl
@[simp] theorem Aax (l:List Pc):Dd 29 (l.map jc)=true:=by
 rw[EX];intro x hx;obtain⟨y,_,rfl⟩:=List.mem_map.1 hx;simp
@[simp] theorem Adz (l:List Pc):Dd 29 (l.map pcA)=true:=by
 rw[EX];intro x hx;obtain⟨y,_,rfl⟩:=List.mem_map.1 hx;simp
abbrev gg (l:List Pc):A:=.sl false (l.map pcA)
section
variable {n0:Nat} {w0:World} {I0:Nat→Prop} {M0:Nm→Nat→Prop} {m0:Mu} {Q:Exit→Sta→Prop}
theorem qu {v v':Nat} {R:List Pc} (hR:R.length≤100000000)
  (hq:∀ (H':Hp) (u:Nat),(∀ p,H' (0::p)=(Uc v [] 2).F 0 p)→(∀ p,H' (1::p)=(Uc v' [] 2).F 1 p)→H' [2]=⟨u,.arr 29 (R.map jc)⟩→Q .ret ⟨lk [(4,.osl [2] u 29 0 R.length),(5,bv true)],H'⟩)
  {ps qs:List OP} {l:List Pc} (hT:fC ps qs l):(∀ o,o ∈ ps→XI o)→(∀ o,o ∈ qs→XI o)→ps.length≤1000000→qs.length≤1000000→∀ (X:List Pc) (u:Nat) (H:Hp),R=X++l→(∀ p,H (0::p)=(Uc v ps 2).F 0 p)→(∀ p,H (1::p)=(Uc v' qs 2).F 1 p)→H [2]=⟨u,.arr 29 (X.map jc)⟩ →
  LoopC (DD Tryz.prog w0 I0 M0 n0 m0) Er Q ⟨lk [(0,.pob [0] v 0),(1,.pob [1] v' 0),(6,.osl [2] u 29 0 X.length)],H⟩:=by
 induction hT with
 |nil=>
  intro _ _ _ _ X u H hX h0 h1 h2;rw[List.append_nil] at hX;subst hX;have S1:=DY v [] 2;have S2:=DY v' [] 2;have D1:=IL v [] 2;have D2:=IL v' [] 2;refine Ab Ai Er.eq_1 ?_;simp;refine EE 0 S1 (fun p=>by simp[h0]) (by simp) (by simp) ?_;simp[s7];refine EE 1 S2 (fun p=>by simp[h1]) (by simp) (by simp) ?_;simp[s7];refine EE 0 D1 (fun p=>by simp[h0]) (by simp) (by simp) ?_;simp;refine Bv rfl ?_;simp;refine EE 0 D1 (fun p=>by simp[h0]) (by simp) (by simp) ?_;simp;refine EE 1 D2 (fun p=>by simp[h1]) (by simp) (by simp) ?_;simp;exact hq H u (fun p=>by simp[h0]) (fun p=>by simp[h1]) h2
 |fst p ps qs l h g ih=>
  intro hp hq' lp lq X u H hX h0 h1 h2;have S1:=DY v (p::ps) 2;have Z:=IX (hp p (by simp));have z1:=LG (hp p (by simp));obtain⟨n,hn⟩:=Int.eq_ofNat_of_zero_le (show 0≤Rq p by omega);have T:=KB (hp p (by simp)) (l:=ps) (by simp at lp;omega) (n:=n) (by omega) v 2;rw[show KW p n=p from if_pos (by omega),show MN p n ps=ps from if_pos (by omega)] at T;have h00:H [0]=⟨v,.cells [LO (p::ps),iv 2]⟩:=by rw[h0];simp
  have e1:s7 2 (p::ps)=true:=decide_eq_true h;have hl:R.length=X.length+1+l.length:=by rw[hX];simp;omega
  refine Ab Ai Er.eq_1 ?_;simp;refine EE 0 S1 (fun p=>by simp[h0]) (by simp) (by simp) ?_;simp[e1,h00];refine Af Z (by simp) ?_;rw[hn];simp;refine Ar 0 T (fun p=>by simp[h0]) (by simp) (by simp) ?_;simp[h2];refine⟨by omega,?_⟩;have:=ih (fun o ho=>hp o (List.mem_cons_of_mem _ ho)) hq' (by simp at lp;omega) lq (X++[.a p]) (u+1) (ov 0 ((Uc v ps 2).F 0) (AJ H [2] ⟨u+1,.arr 29 ((X++[Pc.a p]).map jc)⟩)) (by rw[hX];simp) (fun p=>by simp[Aa]) (fun p=>by simp[Aa,h1]) (by simp[Aa]);simpa[jc,UL,AX] using this
 |snd ps q qs l hp h g ih=>
  intro hp' hq' lp lq X u H hX h0 h1 h2;have S1:=DY v ps 2;have S2:=DY v' (q::qs) 2;have Z:=IX (hq' q (by simp));have z1:=LG (hq' q (by simp));obtain⟨n,hn⟩:=Int.eq_ofNat_of_zero_le (show 0≤Rq q by omega);have T:=KB (hq' q (by simp)) (l:=qs) (by simp at lq;omega) (n:=n) (by omega) v' 2;rw[show KW q n=q from if_pos (by omega),show MN q n qs=qs from if_pos (by omega)] at T;have h10:H [1]=⟨v',.cells [LO (q::qs),iv 2]⟩:=by rw[h1];simp
  have e1:s7 2 (q::qs)=true:=decide_eq_true h;have hl:R.length=X.length+1+l.length:=by rw[hX];simp;omega
  refine Ab Ai Er.eq_1 ?_;simp;refine EE 0 S1 (fun p=>by simp[h0]) (by simp) (by simp) ?_;simp[hp];refine EE 1 S2 (fun p=>by simp[h1]) (by simp) (by simp) ?_;simp[e1,h10];refine Af Z (by simp) ?_;rw[hn];simp;refine Ar 1 T (fun p=>by simp[h1]) (by simp) (by simp) ?_;simp[h2];refine⟨by omega,?_⟩;have:=ih hp' (fun o ho=>hq' o (List.mem_cons_of_mem _ ho)) lp (by simp at lq;omega) (X++[.b q]) (u+1) (ov 1 ((Uc v' qs 2).F 1) (AJ H [2] ⟨u+1,.arr 29 ((X++[Pc.b q]).map jc)⟩)) (by rw[hX];simp) (fun p=>by simp[Aa,h0]) (fun p=>by simp[Aa]) (by simp[Aa]);simpa[jc,UL,AX] using this
 |both p ps q qs n l hp hq hn g ih=>
  intro gp gq lp lq X u H hX h0 h1 h2;have S1:=DY v (p::ps) 2;have S2:=DY v' (q::qs) 2;have D1:=IL v (p::ps) 2;have D2:=IL v' (q::qs) 2;have Z1:=IX (gp p (by simp));have z1:=LG (gp p (by simp));have Z2:=IX (gq q (by simp));have z2:=LG (gq q (by simp));have T1:=KB (gp p (by simp)) (l:=ps) (by simp at lp;omega) (n:=n) (by omega) v 2;have T2:=KB (gq q (by simp)) (l:=qs) (by simp at lq;omega) (n:=n) (by omega) v' 2;have h00:H [0]=⟨v,.cells [LO (p::ps),iv 2]⟩:=by rw[h0];simp
  have h10:H [1]=⟨v',.cells [LO (q::qs),iv 2]⟩:=by rw[h1];simp
  refine Ab Ai Er.eq_1 ?_;simp;refine EE 0 S1 (fun p=>by simp[h0]) (by simp) (by simp) ?_;simp[s7,hp];refine EE 1 S2 (fun p=>by simp[h1]) (by simp) (by simp) ?_;simp[s7,hq];refine EE 0 D1 (fun p=>by simp[h0]) (by simp) (by simp) ?_;simp;rw[Ay];simp;refine EE 1 D2 (fun p=>by simp[h1]) (by simp) (by simp) ?_;simp[h00,h10];refine Af Z1 (by simp) ?_;simp[h00,h10];refine Af Z2 (by simp) ?_;simp[h00,h10,← hn];refine Ar 0 T1 (fun p=>by simp[h0]) (by simp) (by simp) ?_;simp;refine Ar 1 T2 (fun p=>by simp[h1]) (by simp) (by simp) ?_;simp[h2];have hl:R.length=X.length+1+l.length:=by rw[hX];simp;omega
  refine⟨by omega,?_⟩;have l1:=RN p n ps;have l2:=RN q n qs;have:=ih (XG gp n) (XG gq n) (by simp at lp;omega) (by simp at lq;omega) (X++[.both (KW p n) (KW q n)]) (u+1) (ov 1 ((Uc v' (MN q n qs) 2).F 1) (ov 0 ((Uc v (MN p n ps) 2).F 0) (AJ H [2] ⟨u+1,.arr 29 ((X++[Pc.both (KW p n) (KW q n)]).map jc)⟩))) (by rw[hX];simp) (fun p=>by simp) (fun p=>by simp) (by simp[Aa]);simpa[jc,AX] using this
end
theorem rC {H:Hp} {o:Nm} {u n:Nat} {l:List Pc} (h:vr (H o) u=some (29,l.map jc)) (hn:n=l.length):IZ H (.osl o u 29 0 n) (gg l):=
 R8 (g:=pcA) h hn fun x _=>by
  have hE:eL E0=[iv 0,iv 0,.sl false [],.sl false [],iv 0,.sl false [],.sl false [],.sl false [],.sl false [],iv 0,.sl false []]:=by simp[E0]
  cases x<;>simp[jc,uy,UL,A.soft,A.softL,Ji,FB,OX,Su,Sb,A.ones,A.bare]
theorem cV {v v':Nat} {ps qs:List OP} {l:List Pc} (hT:fC ps qs l) (gp:∀ o,o ∈ ps→XI o) (gq:∀ o,o ∈ qs→XI o) (lp:ps.length≤1000000) (lq:qs.length≤1000000) (hl:l.length≤100000000) :
  JB Tryz.prog 133 (fun r q=>[.pob [r] v 0,.pob [q] v' 0]) ((Uc v ps 2).two (Uc v' qs 2)) (fun _ _=>.tup [gg l,bv true]) ((Uc v [] 2).two (Uc v' [] 2)):=by
 refine bA Wz (by simp) (Az (Bj Au) (Az (Jj Au) Eo)) (Bj (A5 (Ae Ba (Ae AB Ah)))) fun w0 I0 M0 m0 hM=>?_;unfold Oj;simp;refine LoopC.le (FF 6 [2] 29 (by simp)) ?_;refine LoopC.le (Ao [(0,.pob [0] v 0),(1,.pob [1] v' 0),(6,.osl [2] 1 29 0 ([]:List Pc).length)] (by simp[upd])) ?_;refine qu hl (fun H' u k0 k1 k2=>?_) hT gp gq lp lq [] 1 _ rfl (fun p=>by simp[Aa]) (fun p=>by simp[Aa]) (by simp[Aa]);obtain⟨H2,g1,g2⟩:=N7 (c:=DD Tryz.prog w0 I0 M0 78 m0) (s:=lk [(4,.osl [2] u 29 0 l.length),(5,bv true)]) (H:=H') (fun r=>r=2) (fun r p b hr=>hM r p b (by omega)) 4 (gg l) (fun H1 e1=>by
  have e2:H1 [2]=H' [2]:=e1 2 [] rfl;simp;exact rC (by rw[e2,k2];simp) rfl)
 refine H5 g1 (MB (r0:=.tup [gg l,bv true]) (by simp[upd,EU]) rfl (fun p=>?_) (fun p=>?_))
 ·exact(g2 0 p (by omega)).trans (k0 p)
 ·exact(g2 1 p (by omega)).trans (k1 p)
theorem Ut {ps qs:List OP} {l:List Pc} (hT:fC ps qs l) (gp:∀ o,o ∈ ps→XI o) (gq:∀ o,o ∈ qs→XI o) (lp:ps.length≤1000000) (lq:qs.length≤1000000) (hl:l.length≤100000000) :
  G.Spec Tryz.prog 86 [LO ps,LO qs] (.tup [gg l,bv true]):=by
 have P:=cV (v:=1) (v':=1) hT gp gq lp lq hl;refine Al Rh (by simp) fun w0 I0=>?_;unfold K3;simp;refine Jn 0 1 (by decide) P (fun p=>?_) (fun p=>?_) (by simp) (by simp) ?_
 ·by_cases hp:p=[]
  ·subst hp;simp
  ·simp[hp,FR,Ne.symm hp]
 ·by_cases hp:p=[]
  ·subst hp;simp
  ·simp[hp,FR,Ne.symm hp]
 simp;exact CP ⟨Am,Ad rfl,trivial⟩
def o6 (v:Nat) (X:List Int):Qm:=⟨fun r q p=>if p=[] then ⟨1,.cells [.osl [q] v 1 0 X.length]⟩ else ⟨0,.none⟩,fun r q p=>if p=[] then ⟨v,.arr 1 (X.map uv)⟩ else ⟨0,.none⟩,fun {g δ r r' q q'} h1 h2 h3 h4 p=>by
  by_cases hp:p=[]
  ·subst hp;exact⟨Fam.cells_ren (by simp[A.renL,A.ren,h3,h4]),Fam.arr_ren (by simp only[Co,List.map_map];exact List.map_congr_left fun x _=>by simp[A.ren])⟩
  ·simp only[if_neg hp];exact⟨rfl,rfl⟩,fun {D r q} h1 h2 p=>by
  by_cases hp:p=[]
  ·subst hp;refine⟨by simp[Ob.refs,A.refsL,A.refs,h2],?_⟩;simp only[if_true,Ob.refs,refsL_iff];intro y hy;obtain⟨x,_,rfl⟩:=List.mem_map.1 hy;simp[A.refs]
  ·simp only[if_neg hp];exact⟨trivial,trivial⟩⟩
@[simp] theorem Aht {v:Nat} {X:List Int} {r q:Nat} {p:Nm}:(o6 v X).B r q p=if p=[] then ⟨1,.cells [.osl [q] v 1 0 X.length]⟩ else ⟨0,.none⟩:=rfl
@[simp] theorem AhB {v:Nat} {X:List Int} {r q:Nat} {p:Nm}:(o6 v X).C r q p=if p=[] then ⟨v,.arr 1 (X.map uv)⟩ else ⟨0,.none⟩:=rfl
theorem Dx {c:Cx} {rs:List ResultVar} {x:A} {F' N:Nm→VOb} {r0:A} {st:Sta} (h:EU c.P st rs=some r0) (he:r0=x) (hh:∀ p,st.H (0::p)=F' p) (hn:∀ p,st.H (1::p)=N p):MJ c rs 2 x (ov 0 F' (ov 1 N (FR []))) .normal st:=
 QT h he fun i p hi=>by
  by_cases h0:i=0
  ·subst h0;rw[hh];simp
  ·have:i=1:=by omega
   subst this;rw[hn];simp
section
variable {n0:Nat} {w0:World} {I0:Nat→Prop} {M0:Nm→Nat→Prop} {m0:Mu} {Q:Exit→Sta→Prop}
theorem vK {X0:List Int} {i:Nat} {w:Int} {v:Nat} (hX:X0.length≤1000000) (hi:i≤1000000)
  (hq:∀ H':Hp,(∀ p,H' (0::p)=(o6 (v+(i+1-X0.length)) (Fw X0 i)).B 0 1 p)→(∀ p,H' (1::p)=(o6 (v+(i+1-X0.length)) (Fw X0 i)).C 0 1 p)→Q (.exit 0) ⟨lk [(0,iv i),(1,uv w),(2,.pob [0] 1 0),(8,bv false)],H'⟩) :
  ∀ (j n:Nat) (H:Hp),n+j=i+1-X0.length→(∀ p,H (0::p)=(o6 (v+n) (X0++List.replicate n 0)).B 0 1 p)→(∀ p,H (1::p)=(o6 (v+n) (X0++List.replicate n 0)).C 0 1 p) →
  LoopC (DD Tryz.prog w0 I0 M0 n0 m0) CM Q ⟨lk [(0,iv i),(1,uv w),(2,.pob [0] 1 0)],H⟩:=by
 intro j;induction j with
 |zero=>
  intro n H hm h0 h1;have hp:Fw X0 i=X0++List.replicate n 0:=by unfold Fw;rw[← hm];rfl
  have hc:¬ ((X0.length:Int)+n≤i):=by omega
  have h00:H [0]=⟨1,.cells [.osl [1] (v+n) 1 0 (X0.length+n)]⟩:=by rw[h0];simp
  refine Ab Ai CM.eq_1 ?_;simp[h00,hc];rw[Nat.add_zero] at hm;rw[hp,← hm] at hq;exact hq H h0 h1
 |succ j ih=>
  intro n H hm h0 h1;have hc:(X0.length:Int)+n≤i:=by omega
  have h00:H [0]=⟨1,.cells [.osl [1] (v+n) 1 0 (X0.length+n)]⟩:=by rw[h0];simp
  have h10:H [1]=⟨v+n,.arr 1 ((X0++List.replicate n 0).map uv)⟩:=by rw[h1];simp
  refine Ab Ai CM.eq_1 ?_;simp[h00,h10,hc,Aa];refine⟨by omega,?_⟩;refine ih (n+1) _ (by omega) (fun p=>?_) (fun p=>?_)
  ·by_cases hp:p=[]
   ·subst hp;simp[Aa];omega
   ·simp[Aa,hp,h0]
  ·by_cases hp:p=[]
   ·subst hp;simp[Aa,List.replicate_succ'];rw[AX (by simp)];simp;omega
   ·simp[Aa,hp,h1]
end
theorem lM {X:List Int} {i:Nat} {w:Int} {v:Nat} (hX:X.length≤1000000) (hi:i≤1000000):JB Tryz.prog 131 (fun r q=>[iv i,uv w,.pob [r] 1 0]) (o6 v X) (fun _ _=>.tup []) (o6 (v+(i+1-X.length)) ((Fw X i).set i w)):=by
 have hl:i<(Fw X i).length:=by rw[Hz];omega
 have hl2:=Hz X i;refine F8 KG (by simp) (Az (Bj AB) (Az (Bj AB) (Az (Bj Au) Eo))) (Bj (A5 Ah)) fun w0 I0 M0 m0=>?_;unfold Gh;simp;refine LoopC.le (Ao [(0,iv i),(1,uv w),(2,.pob [0] 1 0)] (by simp)) ?_;refine vK (X0:=X) (i:=i) (v:=v) hX hi (fun H' h0 h1=>?_) (i+1-X.length) 0 _ (by omega) (fun p=>by simp) (fun p=>by simp);have h00:H' [0]=⟨1,.cells [.osl [1] (v+(i+1-X.length)) 1 0 (Fw X i).length]⟩:=by rw[h0];simp
 have h10:H' [1]=⟨v+(i+1-X.length),.arr 1 ((Fw X i).map uv)⟩:=by rw[h1];simp
 simp[h00,h10,hl];refine Dx rfl rfl (fun p=>?_) (fun p=>?_)
 ·simp[Aa,h0]
 ·by_cases hp:p=[]
  ·subst hp;simp[Aa,List.map_set]
  ·simp[Aa,hp,h1]
structure WdH (v w:Nat) (o:T) (C:List Cf) (u:Nat) (X:List Int) (H:Hp):Prop where
 f:∀ p,H (0::p)=(Ni v w C).F 0 p
 o:H [1]=⟨1,.cells (Xu o)⟩
 b:∀ p,H (2::p)=(o6 u X).B 2 15 p
 c:∀ p,H (15::p)=(o6 u X).C 2 15 p
theorem WdH.put {v w u:Nat} {o:T} {C:List Cf} {X:List Int} {H:Hp} (h:WdH v w o C u X H) {d:Nm} (x:VOb) (h0:∀ p,d ≠ 0::p) (h1:d ≠ [1]) (h2:∀ p,d ≠ 2::p) (h3:∀ p,d ≠ 15::p):WdH v w o C u X (AJ H d x):=
 ⟨fun p=>by rw[AD (Ne.symm (h0 p))];exact h.f p,by rw[AD (Ne.symm h1)];exact h.o,fun p=>by rw[AD (Ne.symm (h2 p))];exact h.b p,fun p=>by rw[AD (Ne.symm (h3 p))];exact h.c p⟩
theorem Iv {w:Int} (h:Bo w):AK (B5 w):=wfT_iff.2 ⟨by simp[BN,B5],fun x hx=>by simp[B5] at hx;subst hx;exact h,by simp[B5],by simp[B5],by simp[B5]⟩
abbrev rM (w:WE):List A:=[iv w.at_,u8 w.mask,uv w.old,uv w.new]
section
variable {n0:Nat} {w0:World} {I0:Nat→Prop} {M0:Nm→Nat→Prop} {m0:Mu} {K:Exit→Sta→Prop}
theorem jO {v w u u3 u4 i:Nat} {o:T} (wo:AK o) {C:List Cf} {X:List Int} {a b:WE} (ha:PM a.mask) (hb:PM b.mask) (na:Bo a.new) (nb:Bo b.new) {at':CV} (hat:at'.length≤999999) (hi:i≤900000) (hX:X.length≤1000000) (hC:C.length≤100000000000) {ps qs:List WE} {H:Hp} (hH:WdH v w o C u X H) (h3:H [3]=⟨u3,.cells (rM a)⟩) (h4:H [4]=⟨u4,.cells (rM b)⟩)
  (k1:Lj a b=true→∀ H',WdH v w o (C++[⟨at'++[(1,(i:Int))],Ag (B5 (o.words.getD i 0)),Ag (B5 (BV (o.words.getD i 0) a.new a.mask)),Ag (B5 (BV (o.words.getD i 0) b.new b.mask))⟩]) u X H'→K (.exit 1) ⟨lk [(0,.pob [0] v 0),(1,Ce at'),(3,Qn ps),(4,Qn qs),(7,.pob [1] 1 0),(11,.pob [2] 1 0),(12,.fnc 131 [] [.pob [2] 1 0])],H'⟩)
  (k2:¬ Lj a b=true→∀ H',WdH v w o C (u+(i+1-X.length)) ((Fw X i).set i (BV (BV (o.words.getD i 0) a.new a.mask) b.new b.mask)) H'→K .normal ⟨lk [(0,.pob [0] v 0),(1,Ce at'),(3,Qn ps),(4,Qn qs),(7,.pob [1] 1 0),(11,.pob [2] 1 0),(12,.fnc 131 [] [.pob [2] 1 0])],H'⟩) :
  WPC (DD Tryz.prog w0 I0 M0 n0 m0) C9 K ⟨lk [(0,.pob [0] v 0),(1,Ce at'),(3,Qn ps),(4,Qn qs),(7,.pob [1] 1 0),(11,.pob [2] 1 0),(12,.fnc 131 [] [.pob [2] 1 0]),(13,.pob [3] u3 0),(14,.pob [4] u4 0),(15,iv i)],H⟩:=by
 have z0:Bo 0:=⟨by decide,by decide⟩;have hwo:Bo (o.words.getD i 0):=Ej (wfT_iff.1 wo).w i;have W1:=Et o i;have M1:=Fa (mask:=a.mask) hwo na ha.1 ha.2;have M2:=Fa (mask:=b.mask) hwo nb hb.1 hb.2;have hc:=kZ ha hb;have M3:=Fa (mask:=HV a.mask b.mask) z0 na hc.1 hc.2;have M4:=Fa (mask:=HV a.mask b.mask) z0 nb hc.1 hc.2;have M5:=Fa (mask:=b.mask) (Fk (o.words.getD i 0) a.new a.mask) nb hb.1 hb.2;have ho:=hH.o;generalize o.words.getD i 0=z at *;rw[C9.eq_1];simp[ho];refine Af W1 (by simp) ?_;simp[h3,h4];refine Af M1 (by simp) ?_;simp[h3,h4];refine Af M2 (by simp) ?_;simp[h3,h4];rw[show bits .and .u8 a.mask b.mask=HV a.mask b.mask from rfl];refine Af M3 (by simp) ?_;simp[h3,h4];refine Af M4 (by simp) ?_;by_cases c:Lj a b=true
 ·have cc:¬ BV 0 a.new (HV a.mask b.mask)=BV 0 b.new (HV a.mask b.mask):=by simpa[Lj] using c
  have F:=Ii at' 1 i (by omega);have S1:=Lb z;have S2:=Lb (BV z a.new a.mask);have S3:=Lb (BV z b.new b.mask);have CL:=NZ (l:=at'++[(1,(i:Int))]) (b:=B5 z) (o:=B5 (BV z a.new a.mask)) (t:=B5 (BV z b.new b.mask)) (by simp;omega) (Iv hwo) (Iv (Fk _ _ _)) (Iv (Fk _ _ _)) v w hC;simp[cc];refine Af F (by simp) ?_;simp;refine Af S1 (by simp) ?_;simp;refine Af S2 (by simp) ?_;simp;refine Af S3 (by simp) ?_;simp;refine Ar 0 CL hH.f (by simp) (by simp) ?_;simp;exact k1 c _ ⟨fun p=>by simp,by simp[ho],fun p=>by simp[hH.b],fun p=>by simp[hH.c]⟩
 ·have cc:BV 0 a.new (HV a.mask b.mask)=BV 0 b.new (HV a.mask b.mask):=by simpa[Lj] using c
  have P:=lM (X:=X) (i:=i) (w:=BV (BV z a.new a.mask) b.new b.mask) (v:=u) hX (by omega);simp[cc,h4];refine Af M5 (by simp) ?_;simp;refine kQ 2 15 (fs:=[]) (caps:=[.pob [2] 1 0]) (by simp) (by decide) P hH.b hH.c (by simp) (by simp) ?_;simp;exact k2 c _ ⟨fun p=>by simp[hH.f],by simp[ho],fun p=>by simp,fun p=>by simp⟩
end
end Go.Proofs.YtndnlknocdangaaGreat
