/-
 Texts,merged,without what is not reached.
-/
import Derived.Test.YtbjmaoedheiigaaGreatKIg
set_option linter.unusedSimpArgs false
set_option linter.unusedVariables false
namespace Go.Proofs.YtbjmaoedheiigaaGreat
open Go Go.G Go.Proofs Go.PL
theorem GY (a b:List OP):Hh (a++b)=Hh a+Hh b:=by simp[Hh]
theorem Sl (l:List T):Hh (En l)=l.length:=by
 unfold En
 split
 ·rename_i h;subst h;rfl
 ·simp[Hh]
theorem Sf (l:List T):Hh (Ed l)=l.length:=by
 unfold Ed
 split
 ·rename_i h;subst h;rfl
 ·simp[Hh]
theorem aR (one:T→T→E) (a b:List T):∀ (P:List Sc) (i j:Nat) (out:List OP),j6 a.length b.length i j P→Hh (NP one a b P i j out)≤Hh out+(a.length-i)+(b.length-j)
 |[],i,j,out,h=>by
  rw[NP,GY,GY,Sl,Sf]
  simp
 |x::P,i,j,out,h=>by
  obtain⟨k1,k2,k3,k4,k5⟩:=h
  have:=aR one a b P _ _ (out++En ((a.take x.i).drop i)++Ed ((b.take x.j).drop j)++[.mk 3 0 [] (one (a.getD x.i T0) (b.getD x.j T0))]) k5
  rw[NP]
  rw[GY,GY,GY,Sl,Sf,show Hh [OP.mk 3 0 [] (one (a.getD x.i T0) (b.getD x.j T0))]=0 from rfl,List.length_drop,List.length_take,List.length_drop,List.length_take] at this
  omega
theorem br (one:T→T→E) (a b:List T):Hh (FK one a b)≤a.length+b.length:=by
 have:=aR one a b (cG (O3 a b)) 0 0 [] (Zq a b)
 rw[show Hh []=0 from rfl] at this
 unfold FK
 omega
inductive Zy (one:T→T→E) (A B:List T) (N:Nat):OP→Prop
 |keep (n:Nat) (h:n≤N):Zy one A B N (.mk 0 n [] E0)
 |del (l:List T) (h:l ≠ []) (g:∀ t,t ∈ l→t ∈ A) (k:l.length≤A.length):Zy one A B N (.mk 1 0 l E0)
 |ins (l:List T) (h:l ≠ []) (g:∀ t,t ∈ l→t ∈ B) (k:l.length≤B.length):Zy one A B N (.mk 2 0 l E0)
 |desc (x y:T) (hx:x ∈ A) (hy:y ∈ B):Zy one A B N (.mk 3 0 [] (one x y))
theorem mJ {one:T→T→E} {A B A' B':List T} {N:Nat} (hA:∀ t,t ∈ A→t ∈ A') (hB:∀ t,t ∈ B→t ∈ B') (lA:A.length≤A'.length) (lB:B.length≤B'.length) {o:OP} (h:Zy one A B N o):Zy one A' B' N o:=by
 cases h with
 |keep n h=>exact .keep n h
 |del l h g k=>exact .del l h (fun t ht=>hA t (g t ht)) (by omega)
 |ins l h g k=>exact .ins l h (fun t ht=>hB t (g t ht)) (by omega)
 |desc x y hx hy=>exact .desc x y (hA x hx) (hB y hy)
theorem Yq {one:T→T→E} {A B l:List T} {N:Nat} (h:∀ t,t ∈ l→t ∈ A) (hl:l.length≤A.length):∀ o,o ∈ En l→Zy one A B N o:=by
 intro o ho
 unfold En at ho
 split at ho
 ·simp at ho
 ·rename_i hne
  simp at ho
  subst ho
  exact .del l hne h hl
theorem YC {one:T→T→E} {A B l:List T} {N:Nat} (h:∀ t,t ∈ l→t ∈ B) (hl:l.length≤B.length):∀ o,o ∈ Ed l→Zy one A B N o:=by
 intro o ho
 unfold Ed at ho
 split at ho
 ·simp at ho
 ·rename_i hne
  simp at ho
  subst ho
  exact .ins l hne h hl
theorem ZR (one:T→T→E) (a b:List T) (N:Nat):∀ (P:List Sc) (i j:Nat) (out:List OP),j6 a.length b.length i j P→(∀ o,o ∈ out→Zy one a b N o)→∀ o,o ∈ NP one a b P i j out→Zy one a b N o
 |[],i,j,out,h,g=>by
  intro o ho
  rw[NP] at ho
  rcases List.mem_append.1 ho with ho | ho
  ·rcases List.mem_append.1 ho with ho | ho
   ·exact g o ho
   ·exact Yq (fun t ht=>V4 ht) (by simp) o ho
  ·exact YC (fun t ht=>V4 ht) (by simp) o ho
 |x::P,i,j,out,h,g=>by
  obtain⟨k1,k2,k3,k4,k5⟩:=h
  rw[NP]
  refine ZR one a b N P _ _ _ k5 fun o ho=>?_
  rcases List.mem_append.1 ho with ho | ho
  ·rcases List.mem_append.1 ho with ho | ho
   ·rcases List.mem_append.1 ho with ho | ho
    ·exact g o ho
    ·exact Yq (fun t ht=>Qo (V4 ht)) (by simp;omega) o ho
   ·exact YC (fun t ht=>Qo (V4 ht)) (by simp;omega) o ho
  ·rw[List.mem_singleton] at ho
   subst ho
   have e1:a.getD x.i T0=a[x.i]:=by simp[k3]
   have e2:b.getD x.j T0=b[x.j]:=by simp[k4]
   rw[e1,e2]
   exact .desc _ _ (BI k3) (BI k4)
theorem Z9 (one:T→T→E) (a b:List T) (N:Nat):∀ o,o ∈ FK one a b→Zy one a b N o:=ZR one a b N _ 0 0 [] (Zq a b) (by simp)
theorem K6 {gap:List T→List T→List OP} {I:List T→List T→List OP→Prop} {S0:List Sp} (h0:∀ s,s ∈ S0→∀ a b out,I a b out→I (a.drop s.n) (b.drop s.n) (out++[.mk 0 s.n [] E0])) (h1:∀ n a b out,I a b out→I (a.drop n) b (out++En (a.take n))) (h2:∀ n a b out,I a b out→I a (b.drop n) (out++Ed (b.take n))) (h3:∀ n m a b out,I a b out→I (a.drop n) (b.drop m) (out++gap (a.take n) (b.take m))):∀ (S:List Sp) (a b:List T) (out:List OP),(∀ s,s ∈ S→s ∈ S0)→I a b out→∃ a' b',I a' b' (Dg gap S a b out)
 |[],a,b,out,hS,h=>⟨a,b,by rw[Dg];exact h⟩
 |[s],a,b,out,hS,h=>by
  have hs:=hS s (by simp)
  rw[Dg]
  split
  ·exact⟨_,_,h0 s hs a b out h⟩
  ·split
   ·exact⟨_,_,h2 s.n a b out h⟩
   ·exact⟨_,_,h1 s.n a b out h⟩
 |s::s2::ss,a,b,out,hS,h=>by
  have hs:=hS s (by simp)
  have hS1:∀ x,x ∈ s2::ss→x ∈ S0:=fun x hx=>hS x (List.mem_cons_of_mem _ hx)
  have hS2:∀ x,x ∈ ss→x ∈ S0:=fun x hx=>hS1 x (List.mem_cons_of_mem _ hx)
  rw[Dg]
  split
  ·exact K6 h0 h1 h2 h3 (s2::ss) _ _ _ hS1 (h0 s hs a b out h)
  ·split
   ·exact K6 h0 h1 h2 h3 (s2::ss) _ _ _ hS1 (h2 s.n a b out h)
   ·split
    ·exact K6 h0 h1 h2 h3 ss _ _ _ hS2 (h3 s.n s2.n a b out h)
    ·exact K6 h0 h1 h2 h3 (s2::ss) _ _ _ hS1 (h1 s.n a b out h)
theorem mG {gap:List T→List T→List OP} (hg:∀ x y,Hh (gap x y)≤x.length+y.length) (S:List Sp) (a b:List T):Hh (Dg gap S a b [])≤a.length+b.length:=by
 obtain⟨a',b',h⟩:=K6 (gap:=gap) (S0:=S) (I:=fun a' b' out=>Hh out+a'.length+b'.length≤a.length+b.length) (fun s hs a b out h=>by
  rw[GY,show Hh [OP.mk 0 (s.n:Nat) [] E0]=0 from rfl,List.length_drop,List.length_drop];omega) (fun n a b out h=>by
  rw[GY,Sl,List.length_drop,List.length_take];omega) (fun n a b out h=>by
  rw[GY,Sf,List.length_drop,List.length_take];omega) (fun n m a b out h=>by
  have:=hg (a.take n) (b.take m)
  rw[List.length_take,List.length_take] at this
  rw[GY,List.length_drop,List.length_drop];omega) S a b [] (fun s hs=>hs) (by rw[show Hh []=0 from rfl];omega)
 omega
theorem oh {one:T→T→E} {gap:List T→List T→List OP} {N:Nat} (hg:∀ x y,∀ o,o ∈ gap x y→Zy one x y N o) (S:List Sp) (hS:∀ s,s ∈ S→s.n≤N) (a b:List T):∀ o,o ∈ Dg gap S a b []→Zy one a b N o:=by
 have app:∀ {out l:List OP},(∀ o,o ∈ out→Zy one a b N o)→(∀ o,o ∈ l→Zy one a b N o)→∀ o,o ∈ out++l→Zy one a b N o:=fun h1 h2 o ho=>by
  rcases List.mem_append.1 ho with ho | ho
  ·exact h1 o ho
  ·exact h2 o ho
 have dr:∀ {x y:List T} (n:Nat),((∀ t,t ∈ x→t ∈ y)∧x.length≤y.length)→(∀ t,t ∈ x.drop n→t ∈ y)∧(x.drop n).length≤y.length:=fun n h=>⟨fun t ht=>h.1 t (V4 ht),by rw[List.length_drop];omega⟩
 have tk:∀ {x y:List T} (n:Nat),((∀ t,t ∈ x→t ∈ y)∧x.length≤y.length)→(∀ t,t ∈ x.take n→t ∈ y)∧(x.take n).length≤y.length:=fun n h=>⟨fun t ht=>h.1 t (Qo ht),by rw[List.length_take];omega⟩
 obtain⟨a',b',_,_,h⟩:=K6 (gap:=gap) (S0:=S) (I:=fun a' b' out=>((∀ t,t ∈ a'→t ∈ a)∧a'.length≤a.length)∧((∀ t,t ∈ b'→t ∈ b)∧b'.length≤b.length)∧∀ o,o ∈ out→Zy one a b N o) (fun s hs x y out h=>⟨dr _ h.1,dr _ h.2.1,app h.2.2 fun o ho=>by
   simp at ho;subst ho;exact .keep s.n (hS s hs)⟩) (fun n x y out h=>⟨dr _ h.1,h.2.1,app h.2.2 (Yq (tk n h.1).1 (tk n h.1).2)⟩) (fun n x y out h=>⟨h.1,dr _ h.2.1,app h.2.2 (YC (tk n h.2.1).1 (tk n h.2.1).2)⟩) (fun n m x y out h=>⟨dr _ h.1,dr _ h.2.1,app h.2.2 fun o ho=>mJ (tk n h.1).1 (tk m h.2.1).1 (tk n h.1).2 (tk m h.2.1).2 (hg _ _ o ho)⟩) S a b [] (fun s hs=>hs) ⟨⟨fun t ht=>ht,Cc _⟩,⟨fun t ht=>ht,Cc _⟩,by simp⟩
 exact h
theorem M7 {gap:List T→List T→List OP} (hg:∀ x y,(gap x y).length≤50):∀ (S:List Sp) (a b:List T) (out:List OP),(Dg gap S a b out).length≤out.length+50*S.length
 |[],a,b,out=>by rw[Dg];omega
 |[s],a,b,out=>by
  have d1:(En (a.take s.n)).length≤1:=by unfold En;split<;>simp
  have d2:(Ed (b.take s.n)).length≤1:=by unfold Ed;split<;>simp
  rw[Dg]
  split
  ·simp
  ·split<;>(rw[List.length_append];simp only[List.length_cons,List.length_nil];omega)
 |s::s2::ss,a,b,out=>by
  have d1:(En (a.take s.n)).length≤1:=by unfold En;split<;>simp
  have d2:(Ed (b.take s.n)).length≤1:=by unfold Ed;split<;>simp
  rw[Dg]
  split
  ·have:=M7 hg (s2::ss) (a.drop s.n) (b.drop s.n) (out++[.mk 0 s.n [] E0])
   simp only[List.length_append,List.length_cons,List.length_nil] at this ⊢
   omega
  ·split
   ·have:=M7 hg (s2::ss) a (b.drop s.n) (out++Ed (b.take s.n))
    simp only[List.length_append,List.length_cons,List.length_nil] at this ⊢
    omega
   ·split
    ·have:=M7 hg ss (a.drop s.n) (b.drop s2.n) (out++gap (a.take s.n) (b.take s2.n))
     have:=hg (a.take s.n) (b.take s2.n)
     simp only[List.length_append,List.length_cons,List.length_nil] at this ⊢
     simp only[List.length_append] at *
     omega
    ·have:=M7 hg (s2::ss) (a.drop s.n) b (out++En (a.take s.n))
     simp only[List.length_append,List.length_cons,List.length_nil] at this ⊢
     omega
noncomputable def fJ (one:T→T→E) (most:Int) (a b:T):List OP:=if (CB (Ox a) (Oz a b):Int)≤most then Dg (FK one) (Kf (Hk (Ox a) (Oz a b))) a.kids b.kids [] else FK one a.kids b.kids
theorem pC (one:T→T→E) (most:Int) (a b:T):Mw one most a b = .mk 3 T0 T0 [] [] a.kind (fJ one most a b):=rfl
theorem YA (a:T):(Ox a).length=a.kids.length:=by simp[Ox,rE,Cq]
theorem Yk (a b:T):(Oz a b).length=b.kids.length:=by simp[Oz,rE,Cq]
theorem SF:∀ {l:List Sp} {s:Sp},s ∈ l→s.k ≠ 2→s.n≤dA (A6 l)
 |x::l,s,h,hk=>by
  rw[AP,Ez,EX]
  rcases List.mem_cons.1 h with rfl | h
  ·rw[if_neg hk];omega
  ·have:=SF h hk;omega
theorem QT:∀ {l:List Sp} {s:Sp},s ∈ l→s.k ≠ 1→s.n≤dB (A6 l)
 |x::l,s,h,hk=>by
  rw[AP,Ey,E5]
  rcases List.mem_cons.1 h with rfl | h
  ·rw[if_neg hk];omega
  ·have:=QT h hk;omega
theorem AdD (a b:T) {s:Sp} (h:s ∈ Kf (Hk (Ox a) (Oz a b))):s.n≤a.kids.length+b.kids.length:=by
 have wd:=Yl (Ox a) (Oz a b)
 have wi:=TZ (Ox a) (Oz a b)
 have wn:=RS _ wi
 rw[YA,Yk] at wd
 by_cases hk:s.k=2
 ·have:=QT h (by omega);omega
 ·have:=SF h hk;omega
theorem oY (one:T→T→E) (most:Int) (a b:T):∀ o,o ∈ fJ one most a b→Zy one a.kids b.kids (a.kids.length+b.kids.length) o:=by
 unfold fJ
 split
 ·exact oh (fun x y=>Z9 one x y _) _ (fun s hs=>AdD a b hs) _ _
 ·exact Z9 one _ _ _
theorem mR (one:T→T→E) (most:Int) (a b:T):Hh (fJ one most a b)≤a.kids.length+b.kids.length:=by
 unfold fJ
 split
 ·exact mG (fun x y=>br one x y) _ _ _
 ·exact br one _ _
theorem m7 (one:T→T→E) (most:Int) (a b:T):(fJ one most a b).length≤50*(a.kids.length+b.kids.length)+50:=by
 unfold fJ
 split
 ·have wd:=Yl (Ox a) (Oz a b)
  have wi:=TZ (Ox a) (Oz a b)
  have wn:=RS _ wi
  have:=JB _ (Rd wi)
  have h:=M7 (QR one) (Kf (Hk (Ox a) (Oz a b))) a.kids b.kids []
  rw[YA,Yk] at wd
  simp only[List.length_nil] at h
  omega
 ·have:=QR one a.kids b.kids
  omega
theorem iP:∀ {l:List KE},(∀ x,x ∈ l→WH x.e)→cN l
 |[],_=>by rw[cN];trivial
 |.mk a e::l,h=>by
  rw[cN]
  exact⟨h _ (List.mem_cons_self ..),iP fun x hx=>h x (List.mem_cons_of_mem _ hx)⟩
theorem iJ:∀ {l:List OP},(∀ x,x ∈ l→(x.kind=0∨x.kind=1∨x.kind=2∨x.kind=3)∧(∀ t,t ∈ x.l→DI t)∧(x.kind=3→WH x.e))→eD l
 |[],_=>by rw[eD];trivial
 |.mk k n t e::l,h=>by
  rw[eD]
  exact⟨h _ (List.mem_cons_self ..),iJ fun x hx=>h x (List.mem_cons_of_mem _ hx)⟩
theorem oI:WH E0:=by
 unfold E0
 rw[WH]
 exact⟨.inl rfl,fun _=>rfl,fun h=>absurd h (by decide),by simp,by simp,by simp,by simp[Hh],fun h=>absurd h (by decide),fun h=>absurd h (by decide)⟩
theorem iO {a b:T} (ha:DI a) (hb:DI b):WH (.mk 1 a b [] [] 0 []):=by
 rw[WH]
 exact⟨.inr (.inl rfl),fun _=>rfl,fun _=>⟨ha,hb⟩,by simp,by simp,by simp,by simp[Hh],fun h=>absurd h (by decide),fun h=>absurd h (by decide)⟩
theorem gg {one:T→T→E} {a b:T} {m:Nat} {x:KE} (h:x ∈ CS one a b m):∃ i:Nat,i<m∧x = .mk i (one (a.kids.getD i T0) (b.kids.getD i T0))∧(one (a.kids.getD i T0) (b.kids.getD i T0)).kind ≠ 0:=by
 unfold CS at h
 rw[List.mem_filterMap] at h
 obtain⟨i,hi,e⟩:=h
 split at e
 ·cases e
 ·rename_i hk
  simp only[Option.some.injEq] at e
  exact⟨i,by simpa using hi,e.symm,hk⟩
theorem si {one:T→T→E} {a b:T} (ha:a.words.length≤1000) (hb:b.words.length≤1000) (ha2:a.kids.length≤1000) (hb2:b.kids.length≤1000) (h:∀ i,WH (one (a.kids.getD i T0) (b.kids.getD i T0))):WH (Wl one a b):=by
 have h1:=Q2 a b (max a.words.length b.words.length)
 have h2:=LR one a b (max a.kids.length b.kids.length)
 unfold Wl
 rw[WH]
 refine⟨.inr (.inr (.inl rfl)),fun _=>rfl,fun h=>absurd h (by decide),by omega,by omega,by simp,by simp[Hh],fun _=>iP fun x hx=>?_,fun h=>absurd h (by decide)⟩
 obtain⟨i,_,e,_⟩:=gg hx
 subst e
 exact h i
theorem oL {one:T→T→E} {most:Int} {a b:T} (ha:a.kids.length≤1000) (hb:b.kids.length≤1000) (wa:∀ t,t ∈ a.kids→DI t) (wb:∀ t,t ∈ b.kids→DI t) (h:∀ x,x ∈ a.kids→∀ y,y ∈ b.kids→WH (one x y)):WH (Mw one most a b):=by
 have h1:=m7 one most a b
 have h2:=mR one most a b
 rw[pC,WH]
 refine⟨.inr (.inr (.inr rfl)),fun h=>absurd rfl h,fun h=>absurd h (by decide),by simp,by simp,by omega,by omega,fun h=>absurd h (by decide),fun _=>iJ fun x hx=>?_⟩
 cases oY one most a b x hx with
 |keep n h=>exact⟨.inl rfl,fun t (ht:t ∈ ([]:List T))=>by simp at ht,fun h=>absurd h (by show ¬ (0:Int)=3;decide)⟩
 |del l h g k=>exact⟨.inr (.inl rfl),fun t ht=>wa t (g t ht),fun h=>absurd h (by show ¬ (1:Int)=3;decide)⟩
 |ins l h g k=>exact⟨.inr (.inr (.inl rfl)),fun t ht=>wb t (g t ht),fun h=>absurd h (by show ¬ (2:Int)=3;decide)⟩
 |desc p q hp hq=>exact⟨.inr (.inr (.inr rfl)),fun t (ht:t ∈ ([]:List T))=>by simp at ht,fun _=>h p hp q hq⟩
theorem Ym (most:Int):∀ (f g:Nat) (a b:T),V6 f a→V6 g b→WH (NY most f a b)
 |0,g,a,b,ha,hb=>by
  rw[NY]
  split
  ·exact oI
  ·exact iO (CK ha).1 (CK hb).1
 |f+1,g,a,b,ha,hb=>by
  obtain⟨a1,a2,a3,a4⟩:=CK ha
  obtain⟨b1,b2,b3,b4⟩:=CK hb
  rw[NY]
  split
  ·exact oI
  ·split
   ·exact si a3 b3 a4 b4 fun i=>Ym most f (g-1) _ _ (St ha i) (St hb i)
   ·split
    ·exact oL a4 b4 (fun t ht=>(CK (E4 ha t ht)).1) (fun t ht=>(CK (E4 hb t ht)).1) fun x hx y hy=>Ym most f (g-1) x y (E4 ha x hx) (E4 hb y hy)
    ·exact iO a1 b1
theorem fD {l:List T} {t:T} (h:t ∈ l):IG t≤IA l:=by
 induction l with
 |nil=>simp at h
 |cons x l ih=>
  rw[ZU]
  have hp:=Uz x
  have hl:=Ut l
  rcases List.mem_cons.1 h with rfl | h
  ·omega
  ·have:=ih h;omega
theorem Mr:∀ (t:T),DI t→IG t≤1000→∀ f:Nat,IG t≤f→V6 f (Ai t):=by
 refine T.ind fun k w l ih hw hp f hf=>?_
 rw[kv] at hp hf
 have hl:=Ut l
 have hks:=(wfT_iff.1 hw).ks
 cases f with
 |zero=>omega
 |succ f=>
  have hk:∀ t,t ∈ l→V6 f (Ai t):=fun t ht=>by
   have:=fD ht
   exact ih t ht (hks t ht) (by omega) f (by omega)
  rw[V6]
  refine .inr ⟨L6 _ hw,JA _,?_,?_,?_⟩
  ·rw[BG]
   split
   ·simp
   ·split
    ·have:=JE w
     show(BX w).length≤1000
     omega
    ·show w.length≤1000
     omega
  ·rw[BG]
   split
   ·simp
   ·split
    ·have:=Iu (l.map Ai)
     rw[List.length_map] at this
     show(BA (l.map Ai)).length≤1000
     omega
    ·show(l.map Ai).length≤1000
     rw[List.length_map]
     omega
  ·intro x hx
   have hx':x ∈ l.map Ai:=by
    rw[BG] at hx
    split at hx
    ·simp at hx
    ·split at hx
     ·have hx2:x ∈ BA (l.map Ai):=hx
      rw[L3] at hx2
      exact Qo hx2
     ·exact hx
   obtain⟨t,ht,rfl⟩:=List.mem_map.1 hx'
   exact hk t ht
noncomputable def vJ (most:Int) (a b:T):E:=Zt (NY most 1000 (Ai a) (Ai b))
def K9 (u:Nat) (most:Int):Fam:=⟨fun _ p=>if p=[] then ⟨u,.cells [iv most,iv 0]⟩ else ⟨0,.none⟩,fun {g δ r r'} hg hd p=>by
  by_cases hp:p=[]
  ·rw[if_pos hp]
   exact Fam.cells_ren (by simp[A.renL,A.ren])
  ·rw[if_neg hp];rfl,fun {D r} hD p=>by
  by_cases hp:p=[]
  ·rw[if_pos hp]
   simp[Ob.refs,A.refsL,A.refs]
  ·rw[if_neg hp];trivial⟩
@[simp] theorem Aiv {u:Nat} {most:Int} {r:Nat} {p:Nm}:(K9 u most).F r p=if p=[] then ⟨u,.cells [iv most,iv 0]⟩ else ⟨0,.none⟩:=rfl
theorem Cz (l:List (List Int)) (r:Rf):ER (fun _=>Gx l r):=Va l r
theorem j9 (t:T):ER (fun _=>tX t):=HE (cs:=[iv t.kind,DP t.words,Co t.kids]) rfl fun x hx=>by simp at hx;rcases hx with rfl | rfl | rfl<;>rfl
theorem Hx (u:Nat) (most:Int):Bg Tryz.prog 148 (fun q=>[.pob [q] u 0,iv 0]) (K9 u most) (fun _=>.tup []) (K9 u most):=by
 refine AH Ns (by simp) (Ah AG (Ah Ax Am)) (Bu Am) fun w0 I0 M0 m0=>?_
 unfold HX
 simp
 refine AO rfl rfl (fun p=>?_)
 by_cases hp:p=[]
 ·subst hp;simp[Aa]
 ·simp[Aa,hp]
theorem P0 {l:List (List Int)} (hs:Sg l) {r:Rf} {t:T} (hm:Az l r t) (u:Nat) (most:Int):Bg Tryz.prog 98 (fun q=>[.pob [q] u 0,Gx l r]) (K9 u most) (fun _=>tX (Ai t)) (K9 u most):=by
 have hw:=It hs _ _ hm
 refine AH NQ (by simp) (Ah AG (Ah (Cz l r) Am)) (j9 _) fun w0 I0 M0 m0=>?_
 unfold HZ
 simp
 refine Ae (dK hs _ _ hm) (by simp) ?_
 simp
 refine AB 0 (Hx u most) (fun p=>by simp) (by simp) (by simp) ?_
 simp
 refine Ae (L5 t hw) (by simp) ?_
 simp
 exact AZ (r0:=tX (Ai t)) (by simp) rfl (fun p=>by simp)
theorem Sw {l:List (List Int)} (hs:Sg l) {r:Rf} (hr:Fj l r) (i:Int) (h0:(BT l r i).2=0) (u:Nat) (most:Int):Bg Tryz.prog 152 (fun q=>[.pob [q] u 0,Gx l r,iv i]) (K9 u most) (fun _=>Gx l (BT l r i).1) (K9 u most):=by
 refine AH OS (by simp) (Ah AG (Ah (Cz l r) (Ah Ax Am))) (Cz l _) fun w0 I0 M0 m0=>?_
 unfold IY
 simp
 refine Ae (Ka hs hr i) (by simp) ?_
 rw[h0]
 simp
 refine AB 0 (Hx u most) (fun p=>by simp) (by simp) (by simp) ?_
 simp
 exact AZ (r0:=Gx l (BT l r i).1) (by simp) rfl (fun p=>by simp)
theorem cV {l m:List (List Int)} (hl:Sg l) (hm:Sg m) {r s:Rf} {t u:T} (h1:Az l r t) (h2:Az m s u) (v:Nat) (most:Int):Bg Tryz.prog 94 (fun q=>[.pob [q] v 0,Gx l r,Gx m s]) (K9 v most) (fun _=>bv (Lz t u)) (K9 v most):=by
 refine AH NZ (by simp) (Ah AG (Ah (Cz l r) (Ah (Cz m s) Am))) Ax fun w0 I0 M0 m0=>?_
 unfold Iw
 simp
 refine Ae (Tc hl hm t u r s h1 h2) (by simp) ?_
 simp
 refine AB 0 (Hx v most) (fun p=>by simp) (by simp) (by simp) ?_
 simp
 exact AZ (r0:=bv (Lz t u)) (by simp) rfl (fun p=>by simp)
theorem fC {l:List (List Int)} (hs:Sg l) {r:Rf} {t:T} (hm:Az l r t) (u:Nat) (most:Int):Bg Tryz.prog 151 (fun q=>[.pob [q] u 0,Gx l r]) (K9 u most) (fun _=>iv (BA t.kids).length) (K9 u most):=by
 refine AH Nk (by simp) (Ah AG (Ah (Cz l r) Am)) Ax fun w0 I0 M0 m0=>?_
 unfold HY
 simp
 refine Ae (XE hs hm) (by simp) ?_
 simp
 refine AB 0 (Hx u most) (fun p=>by simp) (by simp) (by simp) ?_
 simp
 exact AZ (r0:=iv (BA t.kids).length) (by simp) rfl (fun p=>by simp)
def wds (tw:List Int):Nat→Nat→List WE→Option (List Int)
 |0,_,_=>some []
 |m+1,i,[]=>(wds tw m (i+1) []).map (tw.getD i 0 :: ·)
 |m+1,i,x::xs=>if x.at_=(i:Int) then (if eO 0 (tw.getD i 0) x.mask=x.old then (wds tw m (i+1) xs).map (eO (tw.getD i 0) x.new x.mask :: ·) else none) else (wds tw m (i+1) (x::xs)).map (tw.getD i 0 :: ·)
def kds (tk:List T):Nat→Nat→List (Int × (T→Option T))→Option (List T)
 |0,_,_=>some []
 |m+1,i,[]=>(kds tk m (i+1) []).map (tk.getD i T0 :: ·)
 |m+1,i,x::xs=>if x.1=(i:Int) then (match x.2 (tk.getD i T0) with | none=>none | some u=>(kds tk m (i+1) xs).map (u :: ·)) else (kds tk m (i+1) (x::xs)).map (tk.getD i T0 :: ·)
noncomputable def pL (tk:List T):Nat→List (Int × Int × List T × (T→Option T))→Option (List T × Nat)
 |a,[]=>some ([],a)
 |a,(k,n,l,f)::os=>
  if k=0 then (if a+n.toNat≤tk.length then (pL tk (a+n.toNat) os).map (fun r=>((tk.drop a).take n.toNat++r.1,r.2)) else none)
  else if k=1 then (if a+l.length≤tk.length∧(((tk.drop a).take l.length).zip l).all (fun p=>Lz p.1 p.2)=true then pL tk (a+l.length) os else none)
  else if k=2 then (pL tk a os).map (fun r=>(l++r.1,r.2))
  else match tk[a]? with
   |none=>none
   |some x=>match f x with
    |none=>none
    |some u=>(pL tk (a+1) os).map (fun r=>(u::r.1,r.2))
def vu (ws:List WE) (n:Nat):Nat:=match ws.getLast? with | none=>n | some x=>max n (x.at_+1).toNat
def uM {β:Type} (ks:List (Int × β)) (n:Nat):Nat:=match ks.getLast? with | none=>n | some x=>max n (x.1+1).toNat
noncomputable def Ad4 (k:Int) (o n:T) (ws:List WE) (ks:List (Int × (T→Option T))) (list:Int) (os:List (Int × Int × List T × (T→Option T))) (t:T):Option T:=
 if k=0 then some (Ai t)
 else if k=1 then (if Lz o t=true then some (Ai n) else none)
 else if k=2 then (if t.kind=1 then (match wds t.words (vu ws t.words.length) 0 ws,kds t.kids (uM ks t.kids.length) 0 ks with
  |some w,some l=>some (Ai (.mk 1 w l))
  |_,_=>none) else none)
 else if k=3 then (if t.kind=list then (match pL t.kids 0 os with
  |some (l,a)=>if a=t.kids.length then some (Ai (.mk t.kind [] l)) else none
  |none=>none) else none)
 else none
mutual
noncomputable def apE:E→T→Option T
 |.mk k o n ws ks l os,t=>Ad4 k o n ws (rP ks) l (AcR os) t
noncomputable def rP:List KE→List (Int × (T→Option T))
 |[]=>[]
 |.mk a e::r=>(a,apE e)::rP r
noncomputable def AcR:List OP→List (Int × Int × List T × (T→Option T))
 |[]=>[]
 |.mk k n t e::r=>(k,n,t,apE e)::AcR r
end
variable {n0:Nat} {w0:World} {I0:Nat→Prop} {Q:Exit→Sta→Prop}
section
variable {n0:Nat} {w0:World} {I0:Nat→Prop}
noncomputable def Aid (e:E) (t:T) (n m:Nat):Option T:=match wds t.words n 0 e.words,kds t.kids m 0 (rP e.kids) with
 |some w,some l=>some (.mk 1 w l)
 |_,_=>none
end
noncomputable def r5 (e:E) (t:T):Option T:=if t.kind=1 then Aid e t (vu e.words t.words.length) (uM (rP e.kids) t.kids.length) else none
theorem WY {t:T} (h0:t.kind ≠ 0) (h1:t.kind ≠ 1):(Ai t).kids=t.kids.map Ai:=by
 obtain⟨k,w,l⟩:=t
 have h0:k ≠ 0:=h0
 have h1:k ≠ 1:=h1
 rw[BG,if_neg h0,if_neg h1]
 rfl
theorem Oh:∀ (l ks:List T),Cd ks (l.map Ai)=Cd ks l
 |[],ks=>rfl
 |t::l,ks=>by rw[List.map_cons,Cd,Cd,JA,Oh l]
section
variable {n0:Nat} {w0:World} {I0:Nat→Prop} {M0:Nm→Nat→Prop} {m0:Mu} {Q:Exit→Sta→Prop}
theorem tW {l:List (List Int)} (hs:Sg l) {r:Rf} {t:T} (hm:Az l r t) {u:Nat} {most:Int} {fr n:Nat} (hb:fr+n≤t.kids.length) (hk:t.kids.length≤1000000000)
  (hq:∀ (H':Hp) (v:Nat) (st:List (Nat × A)),(∀ p,H' (0::p)=(K9 u most).F 0 p)→H' [2]=⟨v,.arr 3 ((((t.kids.map Ai).drop fr).take n).map tA)⟩→Q (.exit 0) ⟨lk ([(0,.pob [0] u 0),(2,iv fr),(5,.pob [1] 1 0),(9,.osl [2] v 3 0 n)]++st),H'⟩) :
  ∀ (m i v:Nat) (H:Hp),i+m=n→(∀ p,H (0::p)=(K9 u most).F 0 p)→H [1]=⟨1,.cells (V5 l r)⟩→H [2]=⟨v,.arr 3 ((((t.kids.map Ai).drop fr).take i).map tA)⟩ →
  LoopC (Ds Tryz.prog w0 I0 M0 n0 m0) Df Q ⟨lk [(0,.pob [0] u 0),(2,iv fr),(5,.pob [1] 1 0),(9,.osl [2] v 3 0 i),(11,iv n),(12,iv i)],H⟩:=by
 intro m
 induction m with
 |zero=>
  intro i v H hi hF h1 h2
  have:i=n:=by omega
  subst this
  refine Ad Ak Df.eq_1 ?_
  simp
  have:=hq H v [(11,iv i),(12,iv i),(13,bv false)] hF h2
  simpa using this
 |succ m ih=>
  intro i v H hi hF h1 h2
  have hlt:i<n:=by omega
  have hin:fr+i<t.kids.length:=by omega
  have ew:IntKind.i64.wrap ((i:Int)+1)=((i+1:Nat):Int):=Av
  have ef:IntKind.i64.wrap ((fr:Int)+i)=((fr+i:Nat):Int):=Av
  obtain⟨k1,k2⟩:=JT hm (fr+i)
  have F1:=Sw hs (Ce hm) ((fr+i:Nat):Int) k1 u most
  have F2:=P0 hs k2 u most
  have hg:Ai (t.kids.getD (fr+i) T0)=((t.kids.map Ai).drop fr)[i]'(by simp;omega):=by
   rw[List.getElem_drop,List.getElem_map]
   simp[hin]
  have htk:((t.kids.map Ai).drop fr).take (i+1)=((t.kids.map Ai).drop fr).take i++[Ai (t.kids.getD (fr+i) T0)]:=by
   rw[hg]
   exact Hj (by simp;omega)
  have hlen:(((t.kids.map Ai).drop fr).take i).length=i:=by simp;omega
  have next:=ih (i+1) (v+1)
  rw[htk,List.map_append] at next
  generalize ((t.kids.map Ai).drop fr).take i=B at *
  generalize Ai (t.kids.getD (fr+i) T0)=x at *
  refine Ad Ak Df.eq_1 ?_
  simp[hlt,h1,ef]
  rw[Int.natCast_add] at F1 F2
  refine AB 0 F1 (fun p=>by simp[hF]) (by simp) (by simp) ?_
  simp
  refine AB 0 F2 (fun p=>by simp) (by simp) (by simp) ?_
  simp[h2,ew,Aa]
  refine⟨by omega,?_⟩
  refine next _ (by omega) (fun p=>by simp[Aa]) (by simp[Aa,h1]) ?_
  rw[Bb (by simp;omega)]
  simp[Aa]
end
theorem Vv {l:List (List Int)} (hs:Sg l) {r:Rf} {t:T} (hm:Az l r t) (u:Nat) (most:Int) {fr n:Nat} (hb:fr+n≤t.kids.length) (hk:t.kids.length≤1000000000) :
  Bg Tryz.prog 155 (fun q=>[.pob [q] u 0,Gx l r,iv fr,iv n]) (K9 u most) (fun _=>Co (((t.kids.map Ai).drop fr).take n)) (K9 u most):=by
 refine Lw MU (by simp) (Ah AG (Ah (Cz l r) (Ah Ax (Ah Ax Am)))) Dw fun w0 I0 M0 m0 hM=>?_
 unfold Io
 simp
 refine LoopC.le (FP 9 [2] 3 (by simp)) ?_
 refine LoopC.le (AA [(0,.pob [0] u 0),(2,iv fr),(5,.pob [1] 1 0),(9,.osl [2] 1 3 0 0),(11,iv n),(12,iv (0:Nat))] (by simp[upd])) ?_
 refine tW hs hm (u:=u) (most:=most) hb hk (fun H' v st hF h2=>?_) n 0 1 _ (by omega) (fun p=>by simp[Aa]) (by simp[Aa]) (by simp[Aa])
 have hlen:(((t.kids.map Ai).drop fr).take n).length=n:=by simp;omega
 generalize ((t.kids.map Ai).drop fr).take n=B at *
 simp
 obtain⟨H2,k1,k2⟩:=Vp (c:=Ds Tryz.prog w0 I0 M0 28 m0) (s:=lk [(8,.osl [2] v 3 0 n)]) (H:=H') (fun r=>1≤r) (fun r p b hr=>hM r p b hr) 8 (Co B) (fun H1 e1=>by
  have e2:H1 [2]=H' [2]:=e1 2 [] (by omega)
  simp
  exact BQ (o:=[2]) (u:=v) (n:=n) (sz:=3) (l:=B) (f:=tA) (by rw[e2,h2];simp) hlen.symm (fun x=>by simp))
 refine Oc k1 (AZ (r0:=Co B) (by simp[upd]) rfl (fun p=>?_))
 exact(k2 0 p (by omega)).trans (hF p)
noncomputable def UO (most:Int) (t u:T):List Sp:=if (CB (Ox t) (Oz t u):Int)≤most then Kf (Hk (Ox t) (Oz t u)) else Kf (A6 [⟨1,t.kids.length⟩,⟨2,u.kids.length⟩])
theorem YJ {l m:List (List Int)} (hl:Sg l) (hm:Sg m) {r s:Rf} {t u:T} (mt:Az l r t) (mu:Az m s u) (v:Nat) {most:Int} (h0:Lm most) (hkt:t.kids.length≤100000) (hku:u.kids.length≤100000) :
  Bg Tryz.prog 153 (fun q=>[.pob [q] v 0,Gx l r,Gx m s]) (K9 v most) (fun _=>Um (UO most t u)) (K9 v most):=by
 have hn0:newTb.ks=[]:=by simp[newTb,Tb.ks]
 have hK:=VX aV hl mt (by simp[newTb];omega)
 have hok2:=ZO hl (r:=r) t.kids newTb 0 aV (fun j hj=>by
  have:=(Fq mt (i:=j) hj).2
  simpa using this)
 have hu2:=Zb (l:=l) (r:=r) t.kids newTb 0
 have hks2:=Ve (l:=l) (r:=r) t.kids newTb 0
 have hlen2:=R7 (l:=l) (r:=r) t.kids newTb 0
 generalize DT l r newTb 0 t.kids=S2 at hK hok2 hu2 hks2 hlen2
 have hK2:=VX hok2 hm mu (by simp[newTb] at hlen2 ⊢; omega)
 rw[hn0] at hks2 hK
 rw[hks2] at hK2
 have hu2':S2.u=1:=hu2
 rw[hu2'] at hK2
 have hK1:newTb.u=1:=rfl
 rw[hK1] at hK
 have e1:(Ox t).length=t.kids.length:=YA t
 have e2:(Oz t u).length=u.kids.length:=Yk t u
 have hD:=U8 (a:=Ox t) (b:=Oz t u) (by omega) (by omega) h0
 have z1:(Ox t).map iv=(Cd [] t.kids).2.map nv:=Yb _
 have z2:(Oz t u).map iv=(Cd (Cd [] t.kids).1 u.kids).2.map nv:=Yb _
 simp only[Fo,z1,z2] at hD
 have l1:=Cq t.kids []
 have l2:=Cq u.kids (Cd [] t.kids).1
 have N:=XF (all:=[⟨1,t.kids.length⟩,⟨2,u.kids.length⟩]) (fun s hs=>by
  simp at hs
  rcases hs with rfl | rfl
  ·exact⟨by simp,by simp;omega⟩
  ·exact⟨by simp,by simp;omega⟩) (by simp)
 have N2:G.Spec Tryz.prog 120 [.sl true [.agg [iv 1,iv t.kids.length],.agg [iv 2,iv u.kids.length]]] (Um (Kf (A6 [⟨1,t.kids.length⟩,⟨2,u.kids.length⟩]))):=N.soft (by simp[A.softL,A.soft,Jz,RC])
 clear N
 unfold UO
 generalize hx:Ox t=x at *
 generalize hy:Oz t u=y at *
 clear z1 z2
 generalize (Cd [] t.kids).2=X at *
 generalize (Cd (Cd [] t.kids).1 u.kids).2=Y at *
 generalize A6 [⟨1,t.kids.length⟩,⟨2,u.kids.length⟩]=us at *
 refine Lw LX (by simp) (Ah AG (Ah (Cz l r) (Ah (Cz m s) Am))) Dw fun w0 I0 M0 m0 hM=>?_
 unfold GO
 simp
 refine AB 5 kn (fun p=>by simp) rfl (by simp) ?_
 simp
 refine gM 5 6 (by decide) hK (fun p=>by simp) (fun p=>by simp) (by simp) (by simp) ?_
 simp
 refine AB 0 (Hx v most) (fun p=>by simp) (by simp) (by simp) ?_
 simp
 refine gM 5 7 (by decide) hK2 (fun p=>by simp) (fun p=>by simp) (by simp) (by simp) ?_
 simp
 refine AB 0 (Hx v most) (fun p=>by simp) (by simp) (by simp) ?_
 simp
 refine Dv (LV (d:=[6]) (fun b=>hM 6 [] b (by omega)) 8 (.sl false (X.map nv)) fun H1 g1=>?_) ?_
 ·simp
  exact qh (by rw[g1];simp) l1.symm
 refine Dv (LV (d:=[7]) (fun b=>hM 7 [] b (by omega)) 10 (.sl false (Y.map nv)) fun H1 g1=>?_) ?_
 ·simp[upd]
  exact qh (by rw[g1];simp[Aa]) l2.symm
 refine Dv (AA [(0,.pob [0] v 0),(4,.pob [1] 1 0),(5,.pob [2] 1 0),(8,.sl false (X.map nv)),(10,.sl false (Y.map nv))] (by simp[upd])) (Dn ?_)
 simp[Aa]
 refine Ae hD (by simp) ?_
 by_cases hd:(CB x y:Int)≤most
 ·simp[hd]
  exact AZ (by simp) rfl (fun p=>by simp[Aa])
 ·simp[hd]
  refine Ae (DM l r) (by simp) ?_
  rw[GI mt]
  simp
  refine Ae (DM m s) (by simp) ?_
  rw[GI mu]
  simp
  refine Ae N2 (by simp) ?_
  simp
  exact AZ (by simp) rfl (fun p=>by simp[Aa])
theorem Vn (e:E):ER (fun _=>eX e):=HE (cs:=eL e) rfl fun x hx=>by simp at hx;rcases hx with rfl | rfl | rfl | rfl | rfl | rfl | rfl | rfl | rfl | rfl | rfl<;>rfl
theorem Gm (t:T) (h:t.kind=1) (i:Nat):(Ai t).kids.getD i T0=Ai (t.kids.getD i T0)∧(Ai t).words.getD i 0=t.words.getD i 0:=by
 obtain⟨k,w,l⟩:=t
 have h:k=1:=h
 subst h
 rw[BG,if_neg (by decide),if_pos rfl]
 refine⟨?_,?_⟩
 ·show(BA (l.map Ai)).getD i T0=_
  rw[TY,Fg _ (fun x hx h0=>?_) i,FB]
  ·rfl
  ·obtain⟨y,_,rfl⟩:=List.mem_map.1 hx
   simp at h0
   exact Ge h0
 ·show(BX w).getD i 0=_
  rw[TT]
  exact Fg w (fun x _ h=>by simpa using h) i
def gn (u n:Nat) (k:A):List A:=[iv 2,iv 0,.sl true [],.sl true [],iv 0,.sl true [],.sl true [],.osl [6] u 4 0 n,k,iv 0,.sl true []]
structure tz (v:Nat) (most:Int) (l m:List (List Int)) (r s:Rf) (H:Hp):Prop where
 f:∀ p,H (0::p)=(K9 v most).F 0 p
 g1:H [1]=⟨1,.cells (V5 l r)⟩
 g2:H [2]=⟨1,.cells (V5 m s)⟩
 g3:H [3]=⟨1,.cells DG⟩
section
variable {n0:Nat} {w0:World} {I0:Nat→Prop} {M0:Nm→Nat→Prop} {m0:Mu} {Q:Exit→Sta→Prop}
theorem AdI {l m:List (List Int)} (hl:Sg l) (hm:Sg m) {r s:Rf} {t u:T} (mt:Az l r t) (mu:Az m s u) {a b:T} (ha:DI a) (hb:DI b) (ea:∀ i:Nat,t.words.getD i 0=a.words.getD i 0) (eb:∀ i:Nat,u.words.getD i 0=b.words.getD i 0) {v:Nat} {most:Int} {N:Nat} (hN:N≤1000000)
  (hq:∀ (H':Hp) (x:Nat),tz v most l m r s H'→H' [4]=⟨1,.cells (gn x (GD a b N).length (.sl true []))⟩→H' [6]=⟨x,.arr 4 ((GD a b N).map wA)⟩→H' [7]=⟨0,.none⟩→H' [8]=⟨0,.none⟩ →
   Q (.exit 0) ⟨lk [(0,.pob [0] v 0),(4,.pob [1] 1 0),(5,.pob [2] 1 0),(6,.pob [3] 1 0),(7,.pob [4] 1 0),(18,iv N),(19,iv N),(20,bv false)],H'⟩) :
  ∀ (d i:Nat) (x:Nat) (H:Hp),i+d=N→tz v most l m r s H→H [4]=⟨1,.cells (gn x (GD a b i).length (.sl true []))⟩→H [6]=⟨x,.arr 4 ((GD a b i).map wA)⟩→H [7]=⟨0,.none⟩→H [8]=⟨0,.none⟩ →
  LoopC (Ds Tryz.prog w0 I0 M0 n0 m0) Cg Q ⟨lk [(0,.pob [0] v 0),(4,.pob [1] 1 0),(5,.pob [2] 1 0),(6,.pob [3] 1 0),(7,.pob [4] 1 0),(18,iv N),(19,iv i)],H⟩:=by
 intro d
 induction d with
 |zero=>
  intro i x H hd hH h4 h6 h7 h8
  have:i=N:=by omega
  subst this
  refine Ad Ak Cg.eq_1 ?_
  simp
  exact hq H x hH h4 h6 h7 h8
 |succ d ih=>
  intro i x H hd hH h4 h6 h7 h8
  have hlt:i<N:=by omega
  have ew:IntKind.i64.wrap ((i:Int)+1)=((i+1:Nat):Int):=Av
  have hwa:BN (a.words.getD i 0):=iX ha i
  have hwb:BN (b.words.getD i 0):=iX hb i
  have hW:=VL (i:=i) hwa hwb
  have hwl:=Q2 a b i
  have next:=ih (i+1)
  rw[Oi] at next
  have W1:=Gi hl (Ce mt) (i:Int)
  rw[SQ mt i,ea i] at W1
  have W2:=Gi hm (Ce mu) (i:Int)
  rw[SQ mu i,eb i] at W2
  have h1:=hH.g1
  have h2:=hH.g2
  refine Ad Ak Cg.eq_1 ?_
  simp[hlt,h1,h2]
  refine Ae W1 (by simp) ?_
  simp[h1,h2]
  refine Ae W2 (by simp) ?_
  simp
  refine Ae hW (by simp) ?_
  generalize a.words.getD i 0=y at *
  generalize b.words.getD i 0=z at *
  by_cases hz:NI y z=0
  ·rw[if_pos hz] at next
   simp[hz,Aa]
   rw[ew]
   refine next x _ (by omega) ⟨fun p=>by simp[Aa,hH.f],by simp[Aa,h1],by simp[Aa,h2],by simp[Aa,hH.g3]⟩ (by simp[Aa,h4]) (by simp[Aa,h6]) (by simp[Aa,h7]) (by simp[Aa,h8])
  ·rw[if_neg hz] at next
   simp[hz,Aa,h4,h6,gn]
   refine⟨by omega,?_⟩
   rw[ew]
   refine next (x+1) _ (by omega) ⟨fun p=>by simp[Aa,hH.f],by simp[Aa,h1],by simp[Aa,h2],by simp[Aa,hH.g3]⟩ (by simp[Aa,gn]) (by simp[Aa,Bb]) (by simp[Aa,h7]) (by simp[Aa,h8])
theorem Adw {l m:List (List Int)} (hl:Sg l) (hm:Sg m) {r s:Rf} {t u:T} (mt:Az l r t) (mu:Az m s u) {one:T→T→E} {a b:T} {v:Nat} {most:Int} {N:Nat} (hN:N≤1000000)
  (hone:∀ i:Nat,Bg Tryz.prog 48 (fun q=>[.pob [q] v 0,Gx l (BT l r i).1,Gx m (BT m s i).1]) (K9 v most) (fun _=>eX (one (a.kids.getD i T0) (b.kids.getD i T0))) (K9 v most)) {x n:Nat} {ws:List WE}
  (hq:∀ (H':Hp) (y:Nat),tz v most l m r s H'→H' [4]=⟨1,.cells (gn x n (.osl [8] y 12 0 (CS one a b N).length))⟩→H' [6]=⟨x,.arr 4 (ws.map wA)⟩→H' [8]=⟨y,.arr 12 ((CS one a b N).map kA)⟩ →
   Q (.exit 2) ⟨lk [(0,.pob [0] v 0),(4,.pob [1] 1 0),(5,.pob [2] 1 0),(6,.pob [3] 1 0),(7,.pob [4] 1 0),(47,iv N),(48,iv N),(49,bv false)],H'⟩) :
  ∀ (d i:Nat) (y:Nat) (H:Hp),i+d=N→tz v most l m r s H→H [4]=⟨1,.cells (gn x n (.osl [8] y 12 0 (CS one a b i).length))⟩→H [6]=⟨x,.arr 4 (ws.map wA)⟩→H [8]=⟨y,.arr 12 ((CS one a b i).map kA)⟩ →
  LoopC (Ds Tryz.prog w0 I0 M0 n0 m0) Ci Q ⟨lk [(0,.pob [0] v 0),(4,.pob [1] 1 0),(5,.pob [2] 1 0),(6,.pob [3] 1 0),(7,.pob [4] 1 0),(47,iv N),(48,iv i)],H⟩:=by
 intro d
 induction d with
 |zero=>
  intro i y H hd hH h4 h6 h8
  have:i=N:=by omega
  subst this
  refine Ad Ak Ci.eq_1 ?_
  simp
  exact hq H y hH h4 h6 h8
 |succ d ih=>
  intro i y H hd hH h4 h6 h8
  have hlt:i<N:=by omega
  have ew:IntKind.i64.wrap ((i:Int)+1)=((i+1:Nat):Int):=Av
  have hO:=hone i
  have hkl:=LR one a b i
  have next:=ih (i+1)
  rw[MV] at next
  have F1:=Sw hl (Ce mt) (i:Int) (JT mt i).1 v most
  have F2:=Sw hm (Ce mu) (i:Int) (JT mu i).1 v most
  generalize a.kids.getD i T0=p at *
  generalize b.kids.getD i T0=q at *
  generalize one p q=e at *
  have h1:=hH.g1
  have h2:=hH.g2
  have hf:=hH.f
  refine Ad Ak Ci.eq_1 ?_
  simp[hlt,h1,h2]
  refine AB 0 F1 (fun p=>by simp[hf]) (by simp) (by simp) ?_
  simp[h1,h2]
  refine⟨rfl,?_⟩
  refine AB 0 F2 (fun p=>by simp) (by simp) (by simp) ?_
  simp
  refine AB 0 hO (fun p=>by simp) (by simp) (by simp) ?_
  by_cases hz:e.kind=0
  ·rw[if_pos hz] at next
   simp[hz,Aa]
   refine⟨rfl,?_⟩
   rw[ew]
   refine next y _ (by omega) ⟨fun p=>by simp[Aa],by simp[Aa,h1],by simp[Aa,h2],by simp[Aa,hH.g3]⟩ (by simp[Aa,h4]) (by simp[Aa,h6]) (by simp[Aa,h8])
  ·rw[if_neg hz] at next
   simp[hz,Aa,h4,h8,gn]
   refine⟨rfl,by omega,?_⟩
   rw[ew]
   refine next (y+1) _ (by omega) ⟨fun p=>by simp[Aa],by simp[Aa,h1],by simp[Aa,h2],by simp[Aa,hH.g3]⟩ (by simp[Aa,gn]) (by simp[Aa,h6]) (by simp[Aa,Bb])
end
theorem oC {l:List (List Int)} (hl:Sg l) {r:Rf} {t:T} (mt:Az l r t) (h1:t.kind=1):G.Spec Tryz.prog 149 [Gx l r] (iv (Ai t).words.length):=by
 have:=XP hl mt
 rw[Tp h1]
 exact this
theorem nA {l:List (List Int)} (hl:Sg l) {r:Rf} {t:T} (mt:Az l r t) (h1:t.kind=1) (u:Nat) (most:Int):Bg Tryz.prog 151 (fun q=>[.pob [q] u 0,Gx l r]) (K9 u most) (fun _=>iv (Ai t).kids.length) (K9 u most):=by
 have:=fC hl mt u most
 rw[Tp h1]
 simp only[T.kids_mk,Ph]
 exact this
theorem YY {l m:List (List Int)} (hl:Sg l) (hm:Sg m) {r s:Rf} {t u:T} (mt:Az l r t) (mu:Az m s u) (h1:t.kind=1) (h2:u.kind=1) {one:T→T→E} (b1:(Ai t).words.length≤1000000) (b2:(Ai u).words.length≤1000000) (b3:(Ai t).kids.length≤1000000) (b4:(Ai u).kids.length≤1000000) (v:Nat) (most:Int)
  (hone:∀ i:Nat,Bg Tryz.prog 48 (fun q=>[.pob [q] v 0,Gx l (BT l r i).1,Gx m (BT m s i).1]) (K9 v most) (fun _=>eX (one (Ai (t.kids.getD i T0)) (Ai (u.kids.getD i T0)))) (K9 v most)) :
  Bg Tryz.prog 96 (fun q=>[.pob [q] v 0,Gx l r,Gx m s]) (K9 v most) (fun _=>eX (Wl one (Ai t) (Ai u))) (K9 v most):=by
 have L1:=oC hl mt h1
 have L2:=oC hm mu h2
 have W1:=nA hl mt h1 v most
 have W2:=nA hm mu h2 v most
 have wa:=L6 _ (It hl _ _ mt)
 have wb:=L6 _ (It hm _ _ mu)
 have ea:∀ i:Nat,t.words.getD i 0=(Ai t).words.getD i 0:=fun i=>(Gm t h1 i).2.symm
 have eb:∀ i:Nat,u.words.getD i 0=(Ai u).words.getD i 0:=fun i=>(Gm u h2 i).2.symm
 have hone':∀ i:Nat,Bg Tryz.prog 48 (fun q=>[.pob [q] v 0,Gx l (BT l r i).1,Gx m (BT m s i).1]) (K9 v most) (fun _=>eX (one ((Ai t).kids.getD i T0) ((Ai u).kids.getD i T0))) (K9 v most):=fun i=>by
  rw[(Gm t h1 i).1,(Gm u h2 i).1]
  exact hone i
 clear hone
 generalize Ai t=a at *
 generalize Ai u=b at *
 refine Lw Kb (by simp) (Ah AG (Ah (Cz l r) (Ah (Cz m s) Am))) (Vn _) fun w0 I0 M0 m0 hM=>?_
 unfold FF
 simp
 refine Ae L1 (by simp) ?_
 simp
 refine Ae L2 (by simp) ?_
 simp
 refine LoopC.le (Bv (d:=[4]) (u:=1) (cs:=[iv 2,iv 0,.sl true [],.sl true [],iv 0,.sl true [],.sl true [],.sl true [],.sl true [],iv 0,.sl true []]) 7 [6] 4 (by simp[Aa]) rfl (by simp)) ?_
 refine LoopC.le (AA [(0,.pob [0] v 0),(4,.pob [1] 1 0),(5,.pob [2] 1 0),(6,.pob [3] 1 0),(7,.pob [4] 1 0),(18,iv (max a.words.length b.words.length:Nat)),(19,iv (0:Nat))] (by simp;omega)) ?_
 refine AdI hl hm mt mu wa wb ea eb (v:=v) (most:=most) (N:=max a.words.length b.words.length) (by omega) (fun H' x gH g4 g6 g7 g8=>?_) (max a.words.length b.words.length) 0 1 _ (by omega) ⟨fun p=>by simp[Aa],by simp[Aa],by simp[Aa],by simp[Aa,DG]⟩ (by simp[Aa,gn,GD]) (by simp[Aa,GD]) (by simp[Aa]) (by simp[Aa])
 simp[gH.g1,gH.g2]
 refine AB 0 W1 (fun p=>by simp[gH.f]) (by simp) (by simp) ?_
 simp[gH.g2]
 refine⟨rfl,?_⟩
 refine AB 0 W2 (fun p=>by simp) (by simp) (by simp) ?_
 simp
 refine LoopC.le (Bv (d:=[4]) (u:=1) (cs:=gn x (GD a b (max a.words.length b.words.length)).length (.sl true [])) 8 [8] 12 (by simp[g4]) rfl (by simp)) ?_
 refine LoopC.le (AA [(0,.pob [0] v 0),(4,.pob [1] 1 0),(5,.pob [2] 1 0),(6,.pob [3] 1 0),(7,.pob [4] 1 0),(47,iv (max a.kids.length b.kids.length:Nat)),(48,iv (0:Nat))] (by simp;omega)) ?_
 refine Adw hl hm mt mu (one:=one) (a:=a) (b:=b) (v:=v) (most:=most) (N:=max a.kids.length b.kids.length) (by omega) hone' (ws:=GD a b (max a.words.length b.words.length)) (x:=x) (n:=(GD a b (max a.words.length b.words.length)).length) (fun H2 y kH k4 k6 k8=>?_) (max a.kids.length b.kids.length) 0 1 _ (by omega) ⟨fun p=>by simp[Aa],by simp[Aa,gH.g1],by simp[Aa,gH.g2],by simp[Aa,gH.g3]⟩ (by simp[Aa,gn,CS,g8]) (by simp[Aa,g6]) (by simp[Aa,CS,g8])
 simp[k4,kH.g3,Aa,gn]
 refine⟨by simp[DG],?_⟩
 obtain⟨H4,y1,y2⟩:=Qh (c:=Ds Tryz.prog w0 I0 M0 74 m0) (s:=lk [(6,.pob [3] 1 0)]) (H:=AQ H2 [3] ⟨1,.cells (gn x (GD a b (max a.words.length b.words.length)).length (.osl [8] y 12 0 (CS one a b (max a.kids.length b.kids.length)).length))⟩) (fun r=>r=6∨r=8) (fun r p b h=>hM r p b (by omega)) (r0:=3) (p0:=[]) (by omega) (u:=1) (cs:=gn x (GD a b (max a.words.length b.words.length)).length (.osl [8] y 12 0 (CS one a b (max a.kids.length b.kids.length)).length)) (by simp[Aa]) (cs':=eL (Wl one a b)) (by simp[A.ones,Wl]) (fun H1 h1=>⟨Ab rfl,Ab rfl,An,An,Ab rfl,An,An,BQ (f:=wA) (l:=GD a b (max a.words.length b.words.length)) (by rw[h1 6 [] (by simp)];simp[Aa,k6]) rfl (fun x=>by simp),BQ (f:=kA) (l:=CS one a b (max a.kids.length b.kids.length)) (by rw[h1 8 [] (by simp)];simp[Aa,k8]) rfl (fun x=>by simp),Ab rfl,An,trivial⟩)
 refine Oc y1 (AZ (r0:=eX (Wl one a b)) (by simp[Ll]) rfl (fun p=>?_))
 have e1:=y2 0 p (by omega)
 rw[AM (by simp),kH.f] at e1
 dsimp only
 rw[AM (by simp),e1]
theorem GH {P:Program} {K:Sta→Prop} {rest:List CO} {s:Nat→A} {H:Hp} {dd:Option Nat} {nm:Nm} {ix:Nat} {un:List Nat} {l:Bool} {lg:Lg} {g:FuncId} {aa:Array Operand} {ts:Array TypeId} {ars:Nat→List A} {F:Fam} {x:Nat→A} (r:Nat) (hS:Bg P g ars F x F) (hF:∀ p,H (r::p)=F.F r p) (ha:aa.toList.map (evs s)=ars r) (hck:Ck un lg ⟨[([r],true)],[]⟩)
  (h:Ap P K rest (Bd l ix ⟨[([r],true)],[]⟩ lg) (Sta.put ⟨s,H⟩ dd (x r) H)) :
  Ap P K (⟨dd,.call { callee:=.value (.func g),args:=aa,argTypes:=ts },none,nm,ix,un,l⟩::rest) lg ⟨s,H⟩:=by
 refine cy .nil [([r],true)] [] (fun H2 hag=>?_) (fun o H2 ho=>rfl) hck h
 rw[ha]
 have hF2:∀ p,H2 (r::p)=F.F r p:=fun p=>by rw[hag (r::p) (by simp[Xe,VD,List.isPrefixOf]),hF]
 obtain⟨E,hc,hE⟩:=XK r hS hF2
 have hc3:Vw P H2 g (ars r) (x r) E:=by
  rcases hc with ⟨_,_,_,_,h5⟩ | ⟨_,_,_,h4⟩ | ⟨h1,_⟩
  ·cases h5
  ·cases h4
  ·exact h1 H2 (fun o _=>rfl)
 have e2:ov r (F.F r) H2=H2:=by
  funext o
  cases o with
  |nil=>rfl
  |cons j p=>
   by_cases hj:j=r
   ·subst hj;simp[hF2]
   ·simp[hj]
 rw[e2] at hE
 refine⟨hc3.1,fun c w I μ vs a b d e=>?_⟩
 have:=hc3.2 c w I μ vs a b d e
 rw[hE] at this
 exact this
theorem N5 (l:List Sp):DS 2 (l.map Jz)=true:=by rw[Ip];simp[Jz,RC]
def iL (k:Int) (u n:Nat):List A:=[iv 3,iv 0,.sl true [],.sl true [],iv 0,.sl true [],.sl true [],.sl true [],.sl true [],iv k,.osl [6] u 14 0 n]
section
variable {n0:Nat} {w0:World} {I0:Nat→Prop} {M0:Nm→Nat→Prop} {m0:Mu} {Q:Exit→Sta→Prop}
theorem oV {l m:List (List Int)} (hl:Sg l) (hm:Sg m) {r s:Rf} {t u:T} (mt:Az l r t) (mu:Az m s u) {v:Nat} {most:Int} (bt:t.kids.length≤100000) (bu:u.kids.length≤100000) {i g j w x:Nat} (b1:i+g≤t.kids.length) (b2:j+w≤u.kids.length) {I:List OP}
  (hG:G.Spec Tryz.prog 154 [iv t.kind,Co (((t.kids.map Ai).drop i).take g),Co (((u.kids.map Ai).drop j).take w),iv most] (V7 I)) {its:List IT} (hn:its.length+I.length≤1000000000) {Sv:A} {H:Hp} (hH:tz v most l m r s H) (h4:H [4]=⟨1,.cells (iL t.kind x its.length)⟩) (h6:H [6]=⟨x,.arr 14 (its.map Pw)⟩)
  (hq:∀ H':Hp,tz v most l m r s H'→H' [4]=⟨1,.cells (iL t.kind (x+1) (its++I.map IT.got).length)⟩→H' [6]=⟨x+1,.arr 14 ((its++I.map IT.got).map Pw)⟩ →
   Q .normal ⟨lk [(0,.pob [0] v 0),(4,.pob [1] 1 0),(5,.pob [2] 1 0),(6,.pob [3] 1 0),(7,.pob [4] 1 0),(8,iv (i+g:Nat)),(9,iv (j+w:Nat)),(10,Sv)],H'⟩) :
  WPC (Ds Tryz.prog w0 I0 M0 n0 m0) C9 Q ⟨lk [(0,.pob [0] v 0),(4,.pob [1] 1 0),(5,.pob [2] 1 0),(6,.pob [3] 1 0),(7,.pob [4] 1 0),(8,iv i),(9,iv j),(10,Sv),(12,iv g),(13,iv w)],H⟩:=by
 have K:=Ch l r
 rw[Cv mt] at K
 have S1:=Vv hl mt v most b1 (by omega)
 have S2:=Vv hm mu v most b2 (by omega)
 have e1:IntKind.i64.wrap ((i:Int)+g)=((i+g:Nat):Int):=Av
 have e2:IntKind.i64.wrap ((j:Int)+w)=((j+w:Nat):Int):=Av
 have g1:=hH.g1
 have g2:=hH.g2
 have gf:=hH.f
 have g0:H [0]=⟨v,.cells [iv most,iv 0]⟩:=by have:=hH.f [];simpa using this
 generalize ((t.kids.map Ai).drop i).take g=X at *
 generalize ((u.kids.map Ai).drop j).take w=Y at *
 rw[C9.eq_1]
 simp[h4,g1,g2,iL,List.isPrefixOf]
 refine Ae K (by simp) ?_
 simp[g1,List.isPrefixOf]
 refine GH 0 S1 gf (by simp) (by simp[List.isPrefixOf]) ?_
 simp[g2,List.isPrefixOf]
 refine GH 0 S2 gf (by simp) (by simp[List.isPrefixOf]) ?_
 simp[g0,List.isPrefixOf]
 refine Ae hG (by simp) ?_
 simp[h4,h6,iL,Aa,DW,e1,e2,List.isPrefixOf]
 refine⟨by omega,?_⟩
 rw[Int.natCast_add,Int.natCast_add] at hq
 refine hq _ ⟨fun p=>by simp[Aa,gf],by simp[Aa,g1],by simp[Aa,g2],by simp[Aa,hH.g3]⟩ (by simp[Aa,iL]) ?_
 rw[List.map_append,← VY]
 simp[Aa,Bb,List.isPrefixOf]
theorem Adg {l m:List (List Int)} (hl:Sg l) (hm:Sg m) {r s:Rf} {t u:T} (mt:Az l r t) (mu:Az m s u) {v:Nat} {most:Int} (bt:t.kids.length≤100000) (bu:u.kids.length≤100000) {one:T→T→E}
  (hG:∀ X Y:List T,(∀ z,z ∈ X→z ∈ t.kids.map Ai)→(∀ z,z ∈ Y→z ∈ u.kids.map Ai)→X.length≤1000000→Y.length≤1000000→G.Spec Tryz.prog 154 [iv t.kind,Co X,Co Y,iv most] (V7 (FK one X Y))) {R:List OP}
  (hq:∀ (H':Hp) (its:List IT) (x:Nat) (st:List (Nat × A)),its.map IT.op=R→tz v most l m r s H'→H' [4]=⟨1,.cells (iL t.kind x its.length)⟩→H' [6]=⟨x,.arr 14 (its.map Pw)⟩ →
   Q (.exit 0) ⟨lk ([(0,.pob [0] v 0),(4,.pob [1] 1 0),(5,.pob [2] 1 0),(6,.pob [3] 1 0),(7,.pob [4] 1 0)]++st),H'⟩) :
  ∀ (d:Nat) (S:List Sp) (i j x:Nat) (its:List IT) (H:Hp),S.length=d→(∀ z,z ∈ S→z.k≤2)→i+dA (A6 S)≤t.kids.length→j+dB (A6 S)≤u.kids.length→its.length+50*d≤1000000000→R=Dg (FK one) S ((t.kids.map Ai).drop i) ((u.kids.map Ai).drop j) (its.map IT.op)→tz v most l m r s H→H [4]=⟨1,.cells (iL t.kind x its.length)⟩→H [6]=⟨x,.arr 14 (its.map Pw)⟩ →
  LoopC (Ds Tryz.prog w0 I0 M0 n0 m0) A9 Q ⟨lk [(0,.pob [0] v 0),(4,.pob [1] 1 0),(5,.pob [2] 1 0),(6,.pob [3] 1 0),(7,.pob [4] 1 0),(8,iv i),(9,iv j),(10,Um S)],H⟩:=by
 have tm:∀ (i g:Nat),(∀ z,z ∈ ((t.kids.map Ai).drop i).take g→z ∈ t.kids.map Ai)∧(((t.kids.map Ai).drop i).take g).length≤1000000:=fun i g=>⟨fun z hz=>V4 (Qo hz),by simp;omega⟩
 have um:∀ (i g:Nat),(∀ z,z ∈ ((u.kids.map Ai).drop i).take g→z ∈ u.kids.map Ai)∧(((u.kids.map Ai).drop i).take g).length≤1000000:=fun i g=>⟨fun z hz=>V4 (Qo hz),by simp;omega⟩
 have hGG:∀ i g j w:Nat,G.Spec Tryz.prog 154 [iv t.kind,Co (((t.kids.map Ai).drop i).take g),Co (((u.kids.map Ai).drop j).take w),iv most] (V7 (FK one (((t.kids.map Ai).drop i).take g) (((u.kids.map Ai).drop j).take w))):=fun i g j w=>hG _ _ (tm i g).1 (um j w).1 (tm i g).2 (um j w).2
 have dr:∀ (L:List T) (i n:Nat),(L.drop i).drop n=L.drop (i+n):=fun L i n=>by rw[List.drop_drop]
 intro d
 induction d using Nat.strongRecOn with
 |_ d ih=>
 intro S i j x its H hd hS2 hA hB hn hR hH h4 h6
 have h0:H [0]=⟨v,.cells [iv most,iv 0]⟩:=by have:=hH.f [];simpa using this
 cases S with
 |nil=>
  refine Ad Ak A9.eq_1 ?_
  simp[List.isPrefixOf]
  refine hq H its x [(8,iv i),(9,iv j),(10,Um []),(30,bv false)] ?_ hH h4 h6
  rw[hR,Dg]
 |cons z S=>
  rw[List.length_cons] at hd
  have hk:=hS2 z (by simp)
  have hS3:∀ y,y ∈ S→y.k≤2:=fun y hy=>hS2 y (by simp[hy])
  rw[AP,Ez,EX] at hA
  rw[AP,Ey,E5] at hB
  have hpos:(0:Int)<(S.length:Int)+1:=by omega
  have hpos':0<S.length+1:=by omega
  have hl1:(1:Int)≤(S.length:Int)+1:=by omega
  have hl2:List.take S.length (S.map Jz)=S.map Jz:=Bb (by simp)
  have hk3:z.k=0∨z.k=1∨z.k=2:=by omega
  rcases hk3 with h | h | h
  ·rw[XB h,dr,dr] at hR
   rw[if_neg (by omega)] at hA hB
   have e1:IntKind.i64.wrap ((i:Int)+z.n)=((i+z.n:Nat):Int):=Av
   have e2:IntKind.i64.wrap ((j:Int)+z.n)=((j+z.n:Nat):Int):=Av
   refine Ad Ak A9.eq_1 ?_
   simp[h0,hpos,hpos',hl1,wC,hl2,N5,Jz,RC,h,h4,h6,iL,Aa,DW,e1,e2,List.isPrefixOf]
   refine⟨by omega,?_⟩
   have nx:=fun H'=>ih S.length (by omega) S (i+z.n) (j+z.n) (x+1) (its++[IT.r (RI.keep (z.n:Int))]) H' rfl hS3 (by omega) (by omega) (by simp;omega) (by rw[hR];simp[IT.op,RI.op])
   rw[Int.natCast_add,Int.natCast_add] at nx
   refine nx _ ⟨fun p=>by simp[Aa,hH.f],by simp[Aa,hH.g1],by simp[Aa,hH.g2],by simp[Aa,hH.g3]⟩ (by simp[Aa,iL]) ?_
   simp[Aa,Bb,Pw,l7,riC,DG,List.isPrefixOf]
  ·rw[h] at hA hB
   simp at hA hB
   by_cases hg2:∃ (z2:Sp) (S2:List Sp),S=z2::S2∧z2.k=2
   ·obtain⟨z2,S2,rfl,h2⟩:=hg2
    rw[ZS h h2,dr,dr] at hR
    rw[AP,Ez,EX] at hA
    rw[AP,Ey,E5] at hB
    rw[h2] at hA hB
    simp at hA hB
    have gl:=QR one (((t.kids.map Ai).drop i).take z.n) (((u.kids.map Ai).drop j).take z2.n)
    have p1:(0:Int)<(S2.length:Int)+1+1:=by omega
    have p2:(0:Int)<(S2.length:Int)+1:=by omega
    have p3:0<S2.length+1+1:=by omega
    have p4:0<S2.length+1:=by omega
    have p5:(1:Int)≤(S2.length:Int)+1+1:=by omega
    have p6:(1:Int)≤(S2.length:Int)+1:=by omega
    have p7:List.take S2.length (S2.map Jz)=S2.map Jz:=Bb (by simp)
    have G1:=hGG i z.n j z2.n
    refine Ad Ak A9.eq_1 ?_
    simp[h0,p1,p2,p3,p4,p5,p6,p7,wC,N5,Jz,RC,h,h2,Aa,List.isPrefixOf]
    simp only[List.length_cons] at hd hn
    refine oV hl hm mt mu bt bu (by omega) (by omega) G1 (by omega) (x:=x) (its:=its) ⟨fun p=>by simp[Aa,hH.f],by simp[Aa,hH.g1],by simp[Aa,hH.g2],by simp[Aa,hH.g3]⟩ (by simp[Aa,h4]) (by simp[Aa,h6]) (fun H' kH k4 k6=>?_)
    simp[List.isPrefixOf]
    exact ih S2.length (by omega) S2 (i+z.n) (j+z2.n) (x+1) _ H' rfl (fun y hy=>hS3 y (by simp[hy])) (by omega) (by omega) (by simp;omega) (by rw[hR,List.map_append,Vo]) kH k4 k6
   ·have hnd:∀ s2 r,S=s2::r→s2.k ≠ 2:=fun s2 r e h4=>hg2 ⟨s2,r,e,h4⟩
    rw[cB h hnd,dr] at hR
    have gd:FK one (((t.kids.map Ai).drop i).take z.n) (((u.kids.map Ai).drop j).take 0)=En (((t.kids.map Ai).drop i).take z.n):=by rw[List.take_zero,WZ]
    have G1:=hGG i z.n j 0
    rw[gd] at G1
    have dl:(En (((t.kids.map Ai).drop i).take z.n)).length≤1:=by unfold En;split<;>simp
    have fin:∀ (H1:Hp),tz v most l m r s H1→H1 [4]=⟨1,.cells (iL t.kind x its.length)⟩→H1 [6]=⟨x,.arr 14 (its.map Pw)⟩→∀ Q':Exit→Sta→Prop,(∀ st,LoopC (Ds Tryz.prog w0 I0 M0 n0 m0) A9 Q st→Q' .normal st)→WPC (Ds Tryz.prog w0 I0 M0 n0 m0) C9 Q' ⟨lk [(0,.pob [0] v 0),(4,.pob [1] 1 0),(5,.pob [2] 1 0),(6,.pob [3] 1 0),(7,.pob [4] 1 0),(8,iv i),(9,iv j),(10,Um S),(12,iv z.n),(13,iv (0:Nat))],H1⟩:=fun H1 a1 a4 a6 Q' hQ=>
     oV hl hm mt mu bt bu (by omega) (by omega) G1 (by omega) (x:=x) (its:=its) a1 a4 a6 (fun H' kH k4 k6=>hQ _ (ih S.length (by omega) S (i+z.n) (j+0) (x+1) _ H' rfl hS3 (by omega) (by omega) (by simp;omega) (by rw[hR,List.map_append,Vo];rfl) kH k4 k6))
    cases S with
    |nil=>
     refine Ad Ak A9.eq_1 ?_
     simp[h0,Jz,RC,h,Aa,List.isPrefixOf]
     refine fin _ ⟨fun p=>by simp[Aa,hH.f],by simp[Aa,hH.g1],by simp[Aa,hH.g2],by simp[Aa,hH.g3]⟩ (by simp[Aa,h4]) (by simp[Aa,h6]) _ fun st h=>?_
     simpa using h
    |cons z2 S2=>
     have p1:(0:Int)<(S2.length:Int)+1+1:=by omega
     have p2:(0:Int)<(S2.length:Int)+1:=by omega
     have p3:0<S2.length+1+1:=by omega
     have p4:0<S2.length+1:=by omega
     have p5:(1:Int)≤(S2.length:Int)+1+1:=by omega
     have p7:List.take S2.length (S2.map Jz)=S2.map Jz:=Bb (by simp)
     have q1:¬ z2.k=2:=hnd z2 S2 rfl
     have q2:¬ (z2.k:Int)=2:=by omega
     refine Ad Ak A9.eq_1 ?_
     simp[h0,p1,p2,p3,p4,p5,p7,wC,N5,Jz,RC,h,q1,q2,Aa,List.isPrefixOf]
     refine fin _ ⟨fun p=>by simp[Aa,hH.f],by simp[Aa,hH.g1],by simp[Aa,hH.g2],by simp[Aa,hH.g3]⟩ (by simp[Aa,h4]) (by simp[Aa,h6]) _ fun st h=>?_
     simpa using h
  ·rw[bI h,dr] at hR
   rw[h] at hA hB
   simp at hA hB
   have gd:FK one (((t.kids.map Ai).drop i).take 0) (((u.kids.map Ai).drop j).take z.n)=Ed (((u.kids.map Ai).drop j).take z.n):=by rw[List.take_zero,Vb]
   have G1:=hGG i 0 j z.n
   rw[gd] at G1
   have dl:(Ed (((u.kids.map Ai).drop j).take z.n)).length≤1:=by unfold Ed;split<;>simp
   refine Ad Ak A9.eq_1 ?_
   simp[h0,hpos,hpos',hl1,wC,hl2,N5,Jz,RC,h,Aa,List.isPrefixOf]
   refine oV (g:=0) hl hm mt mu bt bu (by omega) (by omega) G1 (by omega) (x:=x) (its:=its) ⟨fun p=>by simp[Aa,hH.f],by simp[Aa,hH.g1],by simp[Aa,hH.g2],by simp[Aa,hH.g3]⟩ (by simp[Aa,h4]) (by simp[Aa,h6]) (fun H' kH k4 k6=>?_)
   simp[List.isPrefixOf]
   exact ih S.length (by omega) S (i+0) (j+z.n) (x+1) _ H' rfl hS3 (by omega) (by omega) (by simp;omega) (by rw[hR,List.map_append,Vo];rfl) kH k4 k6
end
theorem ky (most:Int) (t u:T):(∀ s,s ∈ UO most t u→s.k≤2)∧dA (A6 (UO most t u))=t.kids.length∧dB (A6 (UO most t u))=u.kids.length∧(UO most t u).length≤t.kids.length+u.kids.length:=by
 have e1:(Ox t).length=t.kids.length:=by simp[Ox,rE,Cq]
 have e2:(Oz t u).length=u.kids.length:=by simp[Oz,rE,Cq]
 have wd:=Yl (Ox t) (Oz t u)
 have wi:=TZ (Ox t) (Oz t u)
 have wn:=RS _ wi
 have ui:∀ x,x ∈ A6 [⟨1,t.kids.length⟩,⟨2,u.kids.length⟩]→x≤2:=fun x hx=>by
  rw[AP,AP,Gp,List.append_nil] at hx
  rcases List.mem_append.1 hx with h | h<;>(have h':=List.eq_of_mem_replicate h;simp at h';omega)
 have ud:=RS _ ui
 have ua:dA (A6 [⟨1,t.kids.length⟩,⟨2,u.kids.length⟩])=t.kids.length:=by
  rw[AP,AP,Gp,Ez,Ez,EX,EX];simp[dA]
 have ub:dB (A6 [⟨1,t.kids.length⟩,⟨2,u.kids.length⟩])=u.kids.length:=by
  rw[AP,AP,Gp,Ey,Ey,E5,E5];simp[dB]
 unfold UO
 split
 ·have:=JB _ (Rd wi)
  exact⟨fun s hs=>(Rd wi s hs).1,by omega,by omega,by omega⟩
 ·have:=JB _ (Rd ui)
  exact⟨fun s hs=>(Rd ui s hs).1,by omega,by omega,by omega⟩
theorem kP {t u:T} (h0:t.kind ≠ 0) (h1:t.kind ≠ 1) (hk:u.kind=t.kind) (one:T→T→E) (most:Int):Mw one most (Ai t) (Ai u) = .mk 3 T0 T0 [] [] t.kind (Dg (FK one) (UO most t u) (t.kids.map Ai) (u.kids.map Ai) []):=by
 have nk:∀ y:T,y.kind ≠ 0→y.kind ≠ 1→(Ai y).kids=y.kids.map Ai∧(Ai y).kind=y.kind:=fun y a b=>by
  obtain⟨k,w,l⟩:=y
  simp only[T.kind_mk] at a b
  rw[BG,if_neg a,if_neg b]
  exact⟨rfl,rfl⟩
 obtain⟨t1,t2⟩:=nk t h0 h1
 obtain⟨u1,u2⟩:=nk u (by omega) (by omega)
 have c1:Ox (Ai t)=Ox t:=by unfold Ox;rw[t1,Oh]
 have c2:Oz (Ai t) (Ai u)=Oz t u:=by unfold Oz;rw[t1,u1,Oh,Oh]
 unfold Mw UO
 rw[c1,c2,t1,u1,t2]
 congr 1
 split
 ·rfl
 ·have:=aH one (t.kids.map Ai) (u.kids.map Ai)
  rw[List.length_map,List.length_map] at this
  exact this.symm
theorem fF {l m:List (List Int)} (hl:Sg l) (hm:Sg m) {r s:Rf} {t u:T} (mt:Az l r t) (mu:Az m s u) (h0:t.kind ≠ 0) (h1:t.kind ≠ 1) (hk:u.kind=t.kind) (bt:t.kids.length≤100000) (bu:u.kids.length≤100000) (v:Nat) {most:Int} (hmost:Lm most) {one:T→T→E}
  (hone:∀ x,x ∈ t.kids.map Ai→∀ y,y ∈ u.kids.map Ai→G.Spec Tryz.prog 30 [tX x,tX y,iv most] (eX (one x y))) :
  Bg Tryz.prog 97 (fun q=>[.pob [q] v 0,Gx l r,Gx m s]) (K9 v most) (fun _=>eX (Mw one most (Ai t) (Ai u))) (K9 v most):=by
 have wt:=(wfT_iff.1 (It hl _ _ mt)).ks
 have wu:=(wfT_iff.1 (It hm _ _ mu)).ks
 have nt:∀ z,z ∈ t.kids.map Ai→DI z:=fun z hz=>by
  obtain⟨y,hy,rfl⟩:=List.mem_map.1 hz
  exact L6 _ (wt y hy)
 have nu:∀ z,z ∈ u.kids.map Ai→DI z:=fun z hz=>by
  obtain⟨y,hy,rfl⟩:=List.mem_map.1 hz
  exact L6 _ (wu y hy)
 have hG:∀ X Y:List T,(∀ z,z ∈ X→z ∈ t.kids.map Ai)→(∀ z,z ∈ Y→z ∈ u.kids.map Ai)→X.length≤1000000→Y.length≤1000000→G.Spec Tryz.prog 154 [iv t.kind,Co X,Co Y,iv most] (V7 (FK one X Y)):=fun X Y hX hY lX lY=>XO (fun z hz=>nt z (hX z hz)) (fun z hz=>nu z (hY z hz)) lX lY fun x hx y hy=>hone x (hX x hx) y (hY y hy)
 obtain⟨q1,q2,q3,q4⟩:=ky most t u
 have K:=Ch l r
 rw[Cv mt] at K
 have SC:=YJ hl hm mt mu v hmost bt bu
 rw[kP h0 h1 hk]
 generalize hR:Dg (FK one) (UO most t u) (t.kids.map Ai) (u.kids.map Ai) []=R
 generalize UO most t u=S at *
 refine Lw Nn (by simp) (Ah AG (Ah (Cz l r) (Ah (Cz m s) Am))) (Vn _) fun w0 I0 M0 m0 hM=>?_
 unfold Iy
 simp
 refine Ae K (by simp) ?_
 simp
 refine AB 0 SC (fun p=>by simp[Aa]) (by simp) (by simp) ?_
 simp
 refine LoopC.le (Bv (d:=[4]) (u:=1) (cs:=[iv 3,iv 0,.sl true [],.sl true [],iv 0,.sl true [],.sl true [],.sl true [],.sl true [],iv t.kind,.sl true []]) 10 [6] 14 (by simp[Aa]) rfl (by simp)) ?_
 refine LoopC.le (AA [(0,.pob [0] v 0),(4,.pob [1] 1 0),(5,.pob [2] 1 0),(6,.pob [3] 1 0),(7,.pob [4] 1 0),(8,iv (0:Nat)),(9,iv (0:Nat)),(10,Um S)] (by simp)) ?_
 refine Adg hl hm mt mu (v:=v) (most:=most) bt bu hG (R:=R) (fun H' its x st hI kH k4 k6=>?_) S.length S 0 0 1 [] _ rfl q1 (by omega) (by omega) (by simp;omega) (by rw[← hR];simp) ⟨fun p=>by simp[Aa],by simp[Aa],by simp[Aa],by simp[Aa,DG]⟩ (by simp[Aa,iL]) (by simp[Aa])
 simp[k4,kH.g3,Aa,iL]
 refine⟨by simp[DG],?_⟩
 obtain⟨H4,y1,y2⟩:=Qh (c:=Ds Tryz.prog w0 I0 M0 106 m0) (s:=lk [(6,.pob [3] 1 0)]) (H:=AQ H' [3] ⟨1,.cells (iL t.kind x its.length)⟩) (fun r=>r=6) (fun r p b h=>hM r p b (by omega)) (r0:=3) (p0:=[]) (by omega) (u:=1) (cs:=iL t.kind x its.length) (by simp[Aa]) (cs':=eL (.mk 3 T0 T0 [] [] t.kind R)) (by simp[A.ones]) (fun H1 h1=>⟨Ab rfl,Ab rfl,An,An,Ab rfl,An,An,An,An,Ab rfl,by rw[← hI];exact XU (by rw[h1 6 [] rfl];simp[Aa,k6]) rfl,trivial⟩)
 refine Oc y1 (AZ (r0:=eX (.mk 3 T0 T0 [] [] t.kind R)) (by simp[Ll]) rfl (fun p=>?_))
 have e1:=y2 0 p (by omega)
 rw[AM (by simp),kH.f] at e1
 dsimp only
 rw[AM (by simp),e1]
theorem XM {n0:Nat} {w0:World} {I0:Nat→Prop} {M0:Nm→Nat→Prop} {m0:Mu} {v:Nat} {most:Int} {e:E} {cs:List A} {H:Hp} (h3:H [3]=⟨1,.cells cs⟩) (hf:∀ H1:Hp,GG H1 cs (eL e)) (hF:∀ p,H (0::p)=(K9 v most).F 0 p):Mc (Ds Tryz.prog w0 I0 M0 n0 m0) [.cell 6 33] 1 (eX e) (ov 0 ((K9 v most).F 0) (DH [])) .ret ⟨lk [(6,.pob [3] 1 0)],H⟩:=by
 obtain⟨H2,g1,g2⟩:=Qh (c:=Ds Tryz.prog w0 I0 M0 n0 m0) (s:=lk [(6,.pob [3] 1 0)]) (H:=H) (fun _=>False) (fun _ _ _ h=>h.elim) (r0:=3) (p0:=[]) (by simp) h3 (cs':=eL e) (by simp[A.ones]) (fun H1 _=>hf H1)
 refine Oc g1 (AZ (r0:=eX e) (by simp[Ll]) rfl (fun p=>?_))
 have e1:=g2 0 p (by simp)
 rw[hF] at e1
 dsimp only
 rw[AM (by simp),e1]
theorem fu (H1:Hp):GG H1 DG (eL E0):=by
 have hE:eL E0=[iv 0,iv 0,.sl false [],.sl false [],iv 0,.sl false [],.sl false [],.sl false [],.sl false [],iv 0,.sl false []]:=by simp[E0]
 rw[hE]
 exact⟨Ab rfl,Ab rfl,An,An,Ab rfl,An,An,An,An,Ab rfl,An,trivial⟩
theorem cd (H1:Hp) (e:E):GG H1 (eL e) (eL e):=Oe (by simp)
theorem W4 {l m:List (List Int)} (hl:Sg l) (hm:Sg m) {r s:Rf} {t u:T} (mt:Az l r t) (mu:Az m s u) {X Y:E} (v:Nat) (most:Int)
  (hs:t.kind=1→u.kind=1→Bg Tryz.prog 96 (fun q=>[.pob [q] v 0,Gx l r,Gx m s]) (K9 v most) (fun _=>eX X) (K9 v most))
  (hL:t.kind=u.kind→2≤t.kind→t.kind≤9→Bg Tryz.prog 97 (fun q=>[.pob [q] v 0,Gx l r,Gx m s]) (K9 v most) (fun _=>eX Y) (K9 v most)) :
  Bg Tryz.prog 48 (fun q=>[.pob [q] v 0,Gx l r,Gx m s]) (K9 v most) (fun _=>eX (if Lz t u=true then E0 else if t.kind=1∧u.kind=1 then X else if t.kind=u.kind∧2≤t.kind∧t.kind≤9 then Y else .mk 1 (Ai t) (Ai u) [] [] 0 [])) (K9 v most):=by
 have SA:=cV hl hm mt mu v most
 have T1:=P0 hl mt v most
 have T2:=P0 hm mu v most
 have K1:=Ch l r
 rw[Cv mt] at K1
 have K2:=Ch m s
 rw[Cv mu] at K2
 refine AH OG (by simp) (Ah AG (Ah (Cz l r) (Ah (Cz m s) Am))) (Vn _) fun w0 I0 M0 m0=>?_
 unfold Ja
 simp[List.isPrefixOf]
 rw[AF]
 simp[List.isPrefixOf]
 refine GH 0 SA (fun p=>by simp[Aa]) (by simp) (by simp[List.isPrefixOf]) ?_
 cases he:Lz t u with
 |true=>
  simp[List.isPrefixOf]
  refine XM (cs:=DG) (by simp[Aa,DG]) fu (fun p=>by simp[Aa])
 |false=>
  have raw:∀ (c:Cx) (H:Hp),H [1]=⟨1,.cells (V5 l r)⟩→H [2]=⟨1,.cells (V5 m s)⟩→H [3]=⟨1,.cells DG⟩→(∀ p,H (0::p)=(K9 v most).F 0 p)→True:=fun _ _ _ _ _ _=>trivial
  simp[List.isPrefixOf]
  refine Ae K1 (by simp) ?_
  by_cases h1:t.kind=1
  ·simp[h1]
   rw[AF]
   simp[List.isPrefixOf]
   refine Ae K2 (by simp) ?_
   by_cases h2:u.kind=1
   ·have S:=hs h1 h2
    simp[h2,List.isPrefixOf]
    refine GH 0 S (fun p=>by simp[Aa]) (by simp) (by simp[List.isPrefixOf]) ?_
    simp[List.isPrefixOf]
    refine XM (cs:=eL X) (by simp[Aa]) (fun H1=>cd H1 X) (fun p=>by simp[Aa])
   ·have hne:¬ (1:Int)=u.kind:=fun e=>h2 e.symm
    simp[h2,List.isPrefixOf]
    refine Ae K1 (by simp) ?_
    simp[h1,List.isPrefixOf]
    refine Ae K2 (by simp) ?_
    simp[h1,hne,List.isPrefixOf]
    refine A5 rfl ?_
    simp[List.isPrefixOf]
    refine A5 rfl ?_
    simp[List.isPrefixOf]
    refine GH 0 T1 (fun p=>by simp[Aa]) (by simp) (by simp[List.isPrefixOf]) ?_
    simp[List.isPrefixOf]
    refine GH 0 T2 (fun p=>by simp[Aa]) (by simp) (by simp[List.isPrefixOf]) ?_
    simp[List.isPrefixOf]
    refine XM (cs:=[iv 1,iv (Ai t).kind,DP (Ai t).words,Co (Ai t).kids,iv (Ai u).kind,DP (Ai u).words,Co (Ai u).kids,.sl true [],.sl true [],iv 0,.sl true []]) (by simp[Aa,h1]) (fun H1=>⟨Ab rfl,Ab rfl,Ab rfl,Ab rfl,Ab rfl,Ab rfl,Ab rfl,An,An,Ab rfl,An,trivial⟩) (fun p=>by simp[Aa])
  ·simp[h1]
   refine A5 rfl ?_
   simp[List.isPrefixOf]
   refine Ae K1 (by simp) ?_
   simp[List.isPrefixOf]
   refine Ae K2 (by simp) ?_
   by_cases h3:t.kind=u.kind
   ·simp[h3]
    rw[AF]
    simp[List.isPrefixOf]
    refine Ae K1 (by simp) ?_
    simp[List.isPrefixOf]
    rw[AF]
    simp[List.isPrefixOf]
    refine Ae (VI t.kind) (by simp) ?_
    by_cases h5:2≤t.kind∧t.kind≤9
    ·have S:=hL h3 h5.1 h5.2
     have h5':2≤u.kind∧u.kind≤9:=by omega
     have h1':¬ u.kind=1:=by omega
     simp[h5.1,h5.2,h5'.1,h5'.2,h1',List.isPrefixOf]
     refine GH 0 S (fun p=>by simp[Aa]) (by simp) (by simp[List.isPrefixOf]) ?_
     simp[List.isPrefixOf]
     refine XM (cs:=eL Y) (by simp[Aa]) (fun H1=>cd H1 Y) (fun p=>by simp[Aa])
    ·have h6:(decide (2≤t.kind)&&decide (t.kind≤9))=false:=by
      rw[Bool.eq_false_iff];simpa using h5
     have h1':¬ u.kind=1:=by omega
     have h5':¬ (2≤u.kind∧u.kind≤9):=by omega
     rw[h6]
     simp[h5',h1',List.isPrefixOf]
     refine GH 0 T1 (fun p=>by simp[Aa]) (by simp) (by simp[List.isPrefixOf]) ?_
     simp[List.isPrefixOf]
     refine GH 0 T2 (fun p=>by simp[Aa]) (by simp) (by simp[List.isPrefixOf]) ?_
     simp[List.isPrefixOf]
     refine XM (cs:=[iv 1,iv (Ai t).kind,DP (Ai t).words,Co (Ai t).kids,iv (Ai u).kind,DP (Ai u).words,Co (Ai u).kids,.sl true [],.sl true [],iv 0,.sl true []]) (by simp[Aa,h3]) (fun H1=>⟨Ab rfl,Ab rfl,Ab rfl,Ab rfl,Ab rfl,Ab rfl,Ab rfl,An,An,Ab rfl,An,trivial⟩) (fun p=>by simp[Aa])
   ·simp[h3]
    refine A5 rfl ?_
    simp[List.isPrefixOf]
    refine A5 rfl ?_
    simp[List.isPrefixOf]
    refine GH 0 T1 (fun p=>by simp[Aa]) (by simp) (by simp[List.isPrefixOf]) ?_
    simp[List.isPrefixOf]
    refine GH 0 T2 (fun p=>by simp[Aa]) (by simp) (by simp[List.isPrefixOf]) ?_
    simp[List.isPrefixOf]
    refine XM (cs:=[iv 1,iv (Ai t).kind,DP (Ai t).words,Co (Ai t).kids,iv (Ai u).kind,DP (Ai u).words,Co (Ai u).kids,.sl true [],.sl true [],iv 0,.sl true []]) (by simp[Aa]) (fun H1=>⟨Ab rfl,Ab rfl,Ab rfl,Ab rfl,Ab rfl,Ab rfl,Ab rfl,An,An,Ab rfl,An,trivial⟩) (fun p=>by simp[Aa])
theorem ny (t u:T):Lz (Ai t) (Ai u)=Lz t u:=by
 unfold Lz
 rw[JA,JA]
theorem jJ {f:Nat} {t:T} (h:V6 (f+1) (Ai t)) (h1:t.kind=1) (i:Nat):V6 f (Ai (t.kids.getD i T0)):=by
 rw[← (Gm t h1 i).1]
 exact St h i
theorem XQ {l m:List (List Int)} (hl:Sg l) (hm:Sg m) (v:Nat) {most:Int} (hmost:Lm most):∀ (f g:Nat) (t u:T) (r s:Rf),Az l r t→Az m s u→V6 f (Ai t)→V6 g (Ai u) →
  Bg Tryz.prog 48 (fun q=>[.pob [q] v 0,Gx l r,Gx m s]) (K9 v most) (fun _=>eX (NY most f (Ai t) (Ai u))) (K9 v most)
 |0,g,t,u,r,s,mt,mu,ha,hb=>by
  have hk:t.kind=0:=by
   have e:Ai t=T0:=ha
   have:=congrArg T.kind e
   simpa using this
  have:=W4 hl hm mt mu (X:=E0) (Y:=E0) v most (fun h=>by omega) (fun _ h=>by omega)
  rw[if_neg (show ¬ (t.kind=1∧u.kind=1) by omega),if_neg (show ¬ (t.kind=u.kind∧2≤t.kind∧t.kind≤9) by omega)] at this
  rw[NY,ny]
  exact this
 |f+1,g,t,u,r,s,mt,mu,ha,hb=>by
  obtain⟨a1,a2,a3,a4⟩:=CK ha
  obtain⟨b1,b2,b3,b4⟩:=CK hb
  have:=W4 hl hm mt mu (X:=Wl (NY most f) (Ai t) (Ai u)) (Y:=Mw (NY most f) most (Ai t) (Ai u)) v most (fun h1 h2=>?_) (fun h1 h2 h3=>?_)
  ·rw[NY,ny,CM,CM]
   exact this
  ·refine YY hl hm mt mu h1 h2 (by omega) (by omega) (by omega) (by omega) v most fun i=>?_
   refine XQ hl hm v hmost f (g-1) _ _ _ _ (JT mt i).2 (JT mu i).2 (jJ ha h1 i) ?_
   rw[← (Gm u h2 i).1]
   exact St hb i
  ·have t1:=WY (t:=t) (by omega) (by omega)
   have u1:=WY (t:=u) (by omega) (by omega)
   rw[t1,List.length_map] at a4
   rw[u1,List.length_map] at b4
   refine fF hl hm mt mu (by omega) (by omega) h1.symm (by omega) (by omega) v hmost fun x hx y hy=>?_
   rw[← t1] at hx
   rw[← u1] at hy
   exact R2 hmost f (g-1) _ _ (E4 ha x hx) (E4 hb y hy)
theorem PX {l m:List (List Int)} (hl:Sg l) (hm:Sg m) {r s:Rf} {t u:T} (mt:Az l r t) (mu:Az m s u) {most:Int} (hmost:Lm most) (oa:V6 1000 (Ai t)) (ob:V6 1000 (Ai u)) :
  G.Spec Tryz.prog 22 [Gx l r,Gx m s,iv most] (.tup [eX (vJ most t u),iv 0]):=by
 have F1:=XQ hl hm 1 hmost 1000 1000 t u r s mt mu oa ob
 have h2:=dj _ (Ym most 1000 1000 _ _ oa ob)
 unfold vJ
 generalize NY most 1000 (Ai t) (Ai u)=e at *
 refine Al TE (by simp) fun w0 I0=>?_
 unfold MD
 simp
 refine AB 3 F1 (fun p=>?_) (by simp) (by simp) ?_
 ·by_cases hp:p=[]
  ·subst hp;simp[Aa]
  ·simp[Aa,hp,Ne.symm hp]
 ·simp[Aa]
  refine Ae h2 (by simp) ?_
  simp[Aa]
  exact F5 ⟨Ab (by simp),Ab rfl,trivial⟩
theorem Yd {l m:List (List Int)} (hl:Sg l) (hm:Sg m) {r s:Rf} {t u:T} (mt:Az l r t) (mu:Az m s u) {most:Int} (hmost:Lm most) (pt:IG t≤1000) (pu:IG u≤1000) :
  G.Spec Tryz.prog 22 [Gx l r,Gx m s,iv most] (.tup [eX (vJ most t u),iv 0]):=
 PX hl hm mt mu hmost (Mr t (It hl _ _ mt) pt 1000 pt) (Mr u (It hm _ _ mu) pu 1000 pu)
theorem Gw {l:List (List Int)} (hs:Sg l) (hl:l.length*24≤140737488355328):G.Spec Tryz.prog 23 [RA l] (Gx l (LK l 0 0).1):=by
 refine Al QY (by simp) fun w0 I0=>?_
 unfold KF
 simp
 refine Ae (uf l hl hs.b) rfl ?_
 simp
 refine Ae (kE hs) rfl ?_
 simp
 exact Ab (by simp)
theorem YT {t:T} (h:DI t):G.Spec Tryz.prog 20 [tX t] (bv (decide (0≤DX 70 400 t))):=by
 refine Al Qf (by simp) fun w0 I0=>?_
 unfold J5
 simp
 refine Ae (Ze t h 70 400 (by omega) (by omega) (by omega)) (by simp) ?_
 simp
 exact Ab rfl
theorem Ade:vJ 9 (.mk 1 [7] []) (.mk 1 [8] []) = .mk 2 T0 T0 [⟨0,1,7,8⟩] [] 0 []:=by
 have n7:Ai (.mk 1 [7] []) = .mk 1 [7] []:=by simp[BG,BX,BA]
 have n8:Ai (.mk 1 [8] []) = .mk 1 [8] []:=by simp[BG,BX,BA]
 have he:Lz (.mk 1 [7] []) (.mk 1 [8] [])=false:=by
  rw[Bool.eq_false_iff]
  intro h
  have:=eqT_iff.1 h
  simp[BG,BX,BA] at this
 have u1:NI 7 8=1:=by kernel_rfl
 have u2:wdE 0 7 8=⟨0,1,7,8⟩:=by kernel_rfl
 have e:Wl (NY 9 999) (.mk 1 [7] []) (.mk 1 [8] []) = .mk 2 T0 T0 [⟨0,1,7,8⟩] [] 0 []:=by
  have w:GD (.mk 1 [7] []) (.mk 1 [8] []) 1=[⟨0,1,7,8⟩]:=by
   rw[show(1:Nat)=0+1 from rfl,Oi]
   have e1:(T.mk 1 [7] []).words.getD 0 0=7:=rfl
   have e2:(T.mk 1 [8] []).words.getD 0 0=8:=rfl
   rw[e1,e2,u1,if_neg (by decide)]
   rw[show((0:Nat):Int)=0 from rfl,u2]
   rfl
  show E.mk 2 T0 T0 (GD (.mk 1 [7] []) (.mk 1 [8] []) 1) (CS (NY 9 999) (.mk 1 [7] []) (.mk 1 [8] []) 0) 0 []=_
  rw[w]
  rfl
 unfold vJ
 rw[n7,n8,show(1000:Nat)=999+1 from rfl,NY,he,if_neg (by simp),if_pos (by simp),e,Y7]
 simp[lJ,Qi,rm,rh,m9,Ra]
theorem Jd:G.Spec Tryz.prog 21 [] (bv true):=by
 have m1:=LO sg1 (a:=64) (b:=3000) (by rw[Ac8])
 have m3:=LO sg3 (a:=64) (b:=3000) (by rw[AcF])
 rw[Ac8] at m1
 rw[AcF] at m3
 have V:=Yd sg1 sg3 m1 m3 (most:=9) (by simp[Lm]) (by simp) (by simp)
 rw[Ade] at V
 refine Al PU (by simp) fun w0 I0=>?_
 unfold JJ
 simp
 refine Ae ((Gw sg1 (by simp)).soft (by simp[A.softL,A.soft])) rfl ?_
 simp
 refine Ae ((Gw sg3 (by simp)).soft (by simp[A.softL,A.soft])) rfl ?_
 simp
 refine Ae V (by simp) ?_
 simp[Aa]
 exact Ao rfl (by simp)
theorem bA {most:Int} {t u:T} (h:Ai t=Ai u):vJ most t u=E0:=by
 unfold vJ
 have he:Lz (Ai t) (Ai u)=true:=eqT_iff.2 (by rw[h])
 rw[show(1000:Nat)=999+1 from rfl,NY,if_pos he]
 unfold E0
 rw[Y7]
 simp[lJ,Qi,rm,rh,m9,Ra]
theorem dC:V6 1000 (Ai T0):=Mr T0 iu (by decide) 1000 (by decide)
theorem TC {l:List (List Int)} (hl:Sg l) (kl:l.length*24≤140737488355328) (a b c d:Int) (hc:Lm c) {z:Int} (hz:z<9223372036854775808):G.Spec Tryz.prog 7 [RA l,ym a b c d,iv z] (bv true):=by
 refine Al Lx (by simp) fun w0 I0=>?_
 unfold Gy
 simp
 refine Ae (dY a b c d) rfl ?_
 simp[Aa]
 refine Ae (ax hl a (RY b) c d) rfl ?_
 have hl2:=LO hl (a:=a) (b:=RY b)
 generalize aJ l a (RY b)=x at hl2
 obtain⟨t,w,f⟩:=x
 simp only at hl2
 by_cases hf:f=0
 rotate_left
 ·simp[hf,Aa]
  refine A5 rfl ?_
  simp
  refine Ae Jd rfl ?_
  simp
  exact Bl rfl
 subst hf
 have mt:=hl2 rfl
 have hwt:DI t:=It hl _ _ mt
 simp[Aa]
 refine C6 rfl (fun _=>YT hwt) (fun _=>by simp) (by simp) ?_
 by_cases s1:0≤DX 70 400 t
 rotate_left
 ·simp[s1]
  refine Ae Jd rfl ?_
  simp
  exact Bl rfl
 have p1:=WD t 70 400 s1
 have oa:=Mr t hwt (by omega) 1000 (by omega)
 obtain⟨m,ok,⟨hm,lm,v,mv,v1,v2⟩,hB⟩:=X7 hwt z 131072 hz
 have ov:V6 1000 (Ai v):=by
  cases ok with
  |true=>rw[v1 rfl];exact oa
  |false=>rw[v2 rfl];exact dC
 have V1:=PX hl hl mt mt hc oa oa
 have V2:=PX hl hm mt mv hc oa ov
 rw[bA rfl] at V1
 simp[s1]
 refine Ae hB (by simp) ?_
 simp
 refine Ae (Gw hl kl) (by simp) ?_
 simp
 refine Ae (Gw hl kl) (by simp) ?_
 simp[Aa]
 refine Ae V1 (by simp) ?_
 simp[Aa]
 refine Ae (Gw hl kl) (by simp) ?_
 simp
 refine Ae (Gw hm (by omega)) (by simp) ?_
 simp[Aa]
 refine Ae V2 (by simp) ?_
 simp[Aa]
 cases ok with
 |true=>
  rw[bA (v1 rfl).symm]
  simp[Aa]
  refine Gk rfl (fun _=>Jd) (fun _=>rfl) rfl ?_
  simp
  exact Bl rfl
 |false=>
  simp[Aa]
  refine Gk rfl (fun _=>Jd) (fun _=>rfl) rfl ?_
  simp
  exact Bl rfl
end Go.Proofs.YtbjmaoedheiigaaGreat
namespace Go.Proofs.YtbjmaoedheiigaaGreat
open Go Go.G Go.Proofs Go.RowKit
theorem gm {m:Int} (h:(Lit.int .i64 m).wf=true):-9223372036854775808≤m∧m<9223372036854775808:=by
 simp[Lit.wf,IntKind.min,IntKind.max,IntKind.bits,IntKind.signed] at h
 omega
theorem tl {m:Int} (h:(Lit.int .u64 m).wf=true):0≤m∧m<18446744073709551616:=by
 simp[Lit.wf,IntKind.min,IntKind.max,IntKind.bits,IntKind.signed] at h
 omega
theorem YX:Tryz.prog.underlying 3=some (.int .i64):=by kernel_rfl
theorem gS:Tryz.prog.underlying 51=some (.int .u64):=by kernel_rfl
theorem gy:Tryz.prog.underlying 22=some (.slice 51):=by kernel_rfl
theorem iG:Tryz.prog.underlying 41=some (.slice 22):=by kernel_rfl
theorem sG:Tryz.prog.bytesOf 51=8:=by kernel_rfl
theorem rG:Tryz.prog.bytesOf 22=24:=by kernel_rfl
theorem jO {n:Nat} {b:List A} (h:Has Tryz.prog n 51 b):∃ m,0≤m∧m<18446744073709551616∧mk Tryz.prog 51 b=uv m:=by
 cases n with
 |zero=>exact h.elim
 |succ n=>
  simp only[Has,gS] at h
  obtain⟨m,hm,rfl⟩:=h
  obtain⟨h1,h2⟩:=tl hm
  exact⟨m,h1,h2,by simp[mk,gS]⟩
theorem UB {α:Type} {xs:List A} {g:α→A} {R:α→Prop} (h:∀ x,x ∈ xs→∃ y,R y∧x=g y):∃ l:List α,xs=l.map g∧∀ y,y ∈ l→R y:=by
 induction xs with
 |nil=>exact⟨[],rfl,fun y h=>nomatch h⟩
 |cons x xs ih=>
  obtain⟨y,hy,rfl⟩:=h x (by simp)
  obtain⟨l,rfl,hl⟩:=ih fun z hz=>h z (by simp[hz])
  refine⟨y::l,rfl,fun z hz=>?_⟩
  rcases List.mem_cons.1 hz with rfl | hz
  ·exact hy
  ·exact hl z hz
set_option maxRecDepth 100000 in
theorem aQ {n:Nat} {b:List A} (h:Has Tryz.prog n 22 b):∃ f,∃ l:List Int,mk Tryz.prog 22 b = .sl f (l.map uv)∧l.length*8≤140737488355328∧∀ y,y ∈ l→0≤y∧y<18446744073709551616:=by
 cases n with
 |zero=>exact h.elim
 |succ n=>
  simp only[Has,gy] at h
  obtain⟨f,xs,rfl,_,hz,hf,hx⟩:=h
  rw[sG] at hz
  obtain⟨l,rfl,hl⟩:=UB (g:=uv) (R:=fun y=>0≤y∧y<18446744073709551616) (xs:=xs) fun x hx'=>by
   obtain⟨b,hb,rfl⟩:=hx x hx'
   obtain⟨m,h0,h1,e⟩:=jO hb
   exact⟨m,⟨h0,h1⟩,e⟩
  exact⟨f,l,by simp[mk,gy],by simp[reachBytes] at hz;omega,hl⟩
set_option maxRecDepth 100000 in
theorem dR {n:Nat} {b:List A} (h:Has Tryz.prog n 41 b):∃ (f:Bool) (xs:List A) (l:List (List Int)),mk Tryz.prog 41 b = .sl f xs∧A.soft (.sl f xs)=RA l∧l.length*24≤140737488355328∧Sg l:=by
 cases n with
 |zero=>exact h.elim
 |succ n=>
  simp only[Has,iG] at h
  obtain⟨f,xs,rfl,_,hz,hf,hx⟩:=h
  rw[rG] at hz
  obtain⟨l,rfl,hl⟩:=UB (g:=fun p:Bool × List Int=>.sl p.1 (p.2.map uv)) (R:=fun p=>p.2.length*8≤140737488355328∧∀ y,y ∈ p.2→0≤y∧y<18446744073709551616) (xs:=xs) fun x hx'=>by
   obtain⟨b,hb,rfl⟩:=hx x hx'
   obtain⟨f,l,e,h0,h1⟩:=aQ hb
   exact⟨(f,l),⟨h0,h1⟩,e⟩
  have key:∀ x,x ∈ l.map Prod.snd→x.length*8≤140737488355328∧∀ y,y ∈ x→0≤y∧y<18446744073709551616:=fun x hx=>by
   obtain⟨p,hp,rfl⟩:=List.mem_map.1 hx
   exact hl p hp
  refine⟨f,l.map (fun p:Bool × List Int=>.sl p.1 (p.2.map uv)),l.map Prod.snd,by simp[mk,iG],?_,by simp[reachBytes] at hz;simpa using (by omega),⟨fun x hx=>(key x hx).1,fun x hx=>(key x hx).2⟩⟩
  simp[A.soft,Cu,Function.comp_def,RA,ws]
end Go.Proofs.YtbjmaoedheiigaaGreat
namespace Go.Proofs.YtbjmaoedheiigaaGreat
open Go Go.G Go.Proofs Go.PL Go.RowKit
theorem jC {n:Nat} {b:List A} (hb:Has Tryz.prog n 43 b):∃ p q r s:Int,Lm r∧mk Tryz.prog 43 b=ym p q r s:=by
 cases n with
 |zero=>exact hb.elim
 |succ n=>
  have u:Tryz.prog.underlying 43=some (.struct ((Tryz.prog.fieldsOf 43))):=by kernel_rfl
  unfold Has at hb
  rw[u] at hb
  have e:(Tryz.prog.fieldsOf 43).toList.map Field.type=[3,3,3,3]:=by kernel_rfl
  simp only at hb
  rw[Vc,e] at hb
  cases n with
  |zero=>obtain⟨a,b,rfl,h,_⟩:=hb;exact h.elim
  |succ n=>
   simp only[sA,Has,YX] at hb
   obtain⟨_,_,rfl,⟨k1,_,rfl⟩,_,_,rfl,⟨k2,_,rfl⟩,_,_,rfl,⟨k3,w3,rfl⟩,_,_,rfl,⟨k4,_,rfl⟩,rfl⟩:=hb
   exact⟨k1,k2,k3,k4,gm w3,by simp[mk,u]⟩
end Go.Proofs.YtbjmaoedheiigaaGreat
namespace Go.Proofs.YtbjmaoedheiigaaGreat
open Go Go.G Go.Proofs Go.RowKit
theorem kN {n:Nat} {b:List A} (h:Has Tryz.prog n 3 b):∃ m,-9223372036854775808≤m∧m<9223372036854775808∧mk Tryz.prog 3 b=iv m:=by
 cases n with
 |zero=>exact h.elim
 |succ n=>
  simp only[Has,YX] at h
  obtain⟨m,hm,rfl⟩:=h
  obtain⟨h1,h2⟩:=gm hm
  exact⟨m,h1,h2,by simp[mk,YX]⟩
end Go.Proofs.YtbjmaoedheiigaaGreat
namespace Go.Proofs.YtbjmaoedheiigaaGreat
open Go Go.G Go.Proofs Go.PL Go.RowKit
set_option maxRecDepth 100000 in
theorem said_indiffSame (xs:List A) (h:ArgsHas Tryz.prog Tryz.f7.params.toList xs):G.Spec Tryz.prog 7 xs (.v (.bool true)):=by
 have h:ArgsHas Tryz.prog [41,43,3] xs:=h
 match xs,h with
 |[a,a3,a4],⟨⟨n,b,h1,h2⟩,⟨n3,b3,h13,h23⟩,⟨n4,x4,h14,h24⟩,_⟩=>
  obtain⟨f,xs,l,e,e',k1,k2⟩:=dR h1
  obtain⟨p,q,r,s,hr,e3⟩:=jC h13
  obtain⟨z,_,hz,ez⟩:=kN h14
  rw[h2,h23,h24,e,e3,ez]
  exact(TC k2 k1 p q r s hr hz).soft (by simp only[A.softL,e'];rfl)
end Go.Proofs.YtbjmaoedheiigaaGreat
namespace Go.G
open Go.RowKit Go.ChangeShapes Go.WideShapes
section
variable {H:Type} {enc:TypeId × Value→H} {P:Program}
def M9 (P:Program) (ts:List TypeId):Bool:=ts.all fun t=>P.readableRec t&&decide (t<P.types.size)
theorem Pn (hl:laidOutB P=true) {W W':World} (hb:Below W.heap.size W W') (sp:Nat→Bool):∀ {ts:List TypeId} {vs:List Value} {ds:List (DataW H)} {ps:List MemPlace},M9 P ts=true →
  DataW.TrodAll enc P W 0 (fun _=>true) true ts vs ds ps→(∀ x ∈ ps,x.block<W.heap.size)→(∀ x ∈ ps,sp x.block=true)→DataW.TrodAll enc P W' 0 sp true ts vs ds ps
 |[],_,_,_,_,h,_,_=>by
  obtain⟨rfl,rfl,rfl⟩:=trodAll_nil h
  exact trodAll_mk0
 |t::ts,_,_,_,hr,h,hlt,hsp=>by
  obtain⟨v,vs,d,ds,p,q,rfl,rfl,rfl,h1,h2⟩:=trodAll_cons h
  simp only[M9,List.all_cons,Bool.and_eq_true,decide_eq_true_eq] at hr
  exact⟨p,q,WideElems.Trod_stays hl hr.1.1 hr.1.2 h1 (fun x hx=>hb.same (hlt x (by simp[hx]))) (fun x hx=>hsp x (by simp[hx])),
   Pn hl hb sp (by simpa[M9] using hr.2) h2 (fun x hx=>hlt x (by simp[hx])) (fun x hx=>hsp x (by simp[hx])),rfl⟩
theorem NK {w:World} {base:Nat} {spare:Nat→Bool} {held:Bool}:∀ {ts:List TypeId} {vs:List Value} {ds:List (DataW H)} {ps:List MemPlace},DataW.TrodAll enc P w base spare held ts vs ds ps→ds.length=ts.length∧vs.length=ts.length
 |[],_,_,_,h=>by
  obtain⟨rfl,rfl,rfl⟩:=trodAll_nil h
  exact⟨rfl,rfl⟩
 |t::ts,_,_,_,h=>by
  obtain⟨v,vs,d,ds,p,q,rfl,rfl,rfl,h1,h2⟩:=trodAll_cons h
  have:=NK h2
  simp[this]
theorem qq {f:Func} {s:ChangeSpec} {apart fresh handsOn again:Bool} {W W':World} {args:Array Value} {ds gs:List (DataW H)} {before:List MemPlace} {t:TypeId}
  (hl:laidOutB P=true) (hp:M9 P f.params.toList=true) (hsv:s.vars=[]) (hW:DataW.Whole enc P f.params.toList s.vars apart W args.toList ds gs before) (hB:Below W.heap.size W W')
  (hrt:f.resultTypes = #[t]) (ht:P.underlying t=some .bool) (hfn:∀ ds':List (DataW H),ds'.length=f.params.size→s.fn H ds'={ results:=[.lit (.bool true)],args:=ds' }) :
  s.post enc P f apart fresh handsOn again W args (.bool true) W':=by
 have hlt:=hW.lt
 have hW':=hW
 obtain⟨p,q,hA,hV,rfl,hz,hn⟩:=hW'
 rw[hsv] at hV
 obtain⟨rfl,rfl⟩:=trodVars_none hV
 have hfn:=hfn ds (by have:=(NK hA).1;simpa using this)
 simp only[List.append_nil] at hlt hz hn
 have hA':=fun sp=>Pn hl hB sp hp hA hlt
 have hr:∀ (b:Nat) (sp:Nat→Bool) (hd:Bool),DataW.TrodAll enc P W' b sp hd f.resultTypes.toList ((Value.bool true).resultList f.resultTypes.size) [.lit (.bool true)] []:=fun b sp hd=>by
  rw[hrt]
  exact trodAll_cons_mk (shut_bool ht _) trodAll_mk0
 refine⟨ds,[],p++[],[],p,[],hW,?_,?_,?_,Below.frame hB _,fun _=>?_⟩
 ·simp only[List.append_nil,hfn];exact hr _ _ _
 ·simp only[List.append_nil,hfn];exact hA' _ (fun x hx=>by simpa using hlt x hx)
 ·simp only[List.append_nil,hfn,hsv];exact rfl
 ·refine⟨ok_one hrt rfl (okWide_bool_mk ht _),_,[],([]++p)++[],⟨[]++p,[],trodAll_append (hA' (fun _=>true) (fun _ _=>rfl)) (hr _ _ _),by rw[hsv];rfl,rfl,?_,?_⟩,?_⟩
  ·intro b off hx
   have hx:MemPlace.cell b off ∈ p:=by simpa using hx
   rw[Below.frozen hB (hlt _ hx)]
   exact hz b off hx
  ·intro ha
   have:=hn ha
   simpa using this
  ·intro x hx _
   simpa using hx
theorem law_calls {f:Func} {fid:FuncId} {s:ChangeSpec} {apart fresh handsOn again:Bool} {W:World} {base:Nat} {args:Array Value} {ds gs:List (DataW H)} {before:List MemPlace} {t:TypeId} (S:List TypeId)
  (hl:laidOutB P=true) (hp:M9 P f.params.toList=true) (hS:NG P S=true) (hts:f.params.toList.all S.contains=true) (hsv:s.vars=[]) (hrt:f.resultTypes = #[t]) (ht:P.underlying t=some .bool)
  (hfn:∀ ds':List (DataW H),ds'.length=f.params.size→s.fn H ds'={ results:=[.lit (.bool true)],args:=ds' })
  (hspec:∀ as',ArgsHas P f.params.toList as'→Spec P fid as' (.v (.bool true))) (htb:Tabs P W (uG W))
  (hval:∀ (j:Nat) t v,f.params[j]? = some t→args[j]? = some v→Value.okWide P W .any base t v) (hW:DataW.Whole enc P f.params.toList s.vars apart W args.toList ds gs before)
  (hwt:(DataW.weightsEach P (f.params.toList++s.plain.varTypes P) (ds++gs)).all (·≤reachBytes)=true) :
  Calls P fid args W fun e W'=>∃ v,e = .returned v∧s.post enc P f apart fresh handsOn again W args v W':=by
 have hW':=hW
 obtain⟨p,q,hA,hV,rfl,hz,hn⟩:=hW
 have hV':=hV
 rw[hsv] at hV'
 obtain⟨rfl,_⟩:=trodVars_none hV'
 have hwt':∀ m,m ∈ DataW.weightsEach P f.params.toList ds→m≤reachBytes:=by
  have e:s.plain.varTypes P=[]:=by simp[ChangeSpec.plain,DataSpec.varTypes,hsv]
  rw[e,List.append_nil,List.append_nil,List.all_eq_true] at hwt
  exact fun m hm=>by simpa using hwt m hm
 obtain⟨as',h1,h2,h3⟩:=Q5 hS (fun t ht=>by rw[List.all_eq_true] at hts;simpa using hts t ht) hwt' hA (fun j u v hj hv=>hval j u v (by simpa using hj) (by simpa using hv))
 refine((hspec as' h2).2 W (uG W) args (fun _ h=>h) htb (by simpa using h1.symm) (fun k y hk=>?_)).mono fun e W' ⟨v,he,hB,hr⟩=>?_
 ·have:=h3 k y hk
  simpa[List.getD,Array.getD_eq_getD_getElem?] using this
 ·cases hr
  exact⟨_,he,qq hl hp hsv hW' hB hrt ht hfn⟩
end
end Go.G
