/-
 Texts,merged,without what is not reached.
-/
import Derived.Test.YtbjmaoedheiigaaGreatKBg
set_option linter.unusedSimpArgs false
set_option linter.unusedVariables false
open Go.IntKind (i64 u64)
namespace Go.Proofs.YtbjmaoedheiigaaGreat
open Go Go.G Go.Proofs Go.PL
abbrev AaT (l:Int) (v n:Nat):List A:=[iv 3,iv 0,.sl true [],.sl true [],iv 0,.sl true [],.sl true [],.sl true [],.sl true [],iv l,.osl [4] v 14 0 n]
variable {n0:Nat} {w0:World} {I0:Nat→Prop} {Q:Exit→Sta→Prop}
theorem su {one:T→T→E} {a b:T} (ha:∀ t,t ∈ a.kids→BH t) (hb:∀ t,t ∈ b.kids→BH t) (hal:a.kids.length≤1000000) (hbl:b.kids.length≤1000000) {most:Int} (hone:∀ x,x ∈ a.kids→∀ y,y ∈ b.kids→G.Spec Tryz.prog 53 [tX x,tX y,iv most] (eX (one x y))) {S:List Sp} (hS:S.length≤10000) (hS2:∀ s,s ∈ S→s.k≤2) {R:List OP}
  (hq:∀ (H':Hp) (its:List IT) (v:Nat) (st:List (Nat × A)),its.map IT.op=R→H' [2]=⟨1,.cells BB⟩→H' [3]=⟨1,.cells (AaT a.kind v its.length)⟩→H' [4]=⟨v,.arr 14 (its.map NF)⟩→Q (.exit 0) ⟨lk ([(2,iv most),(3,.pob [0] 1 0),(4,.pob [1] 1 0),(6,.pob [2] 1 0),(11,Od S),(13,.pob [3] 1 0)]++st),H'⟩) :
  ∀ (m k i j v:Nat) (its:List IT) (H:Hp),k+m=S.length→1≤v→i+dA (AO (S.drop k))≤a.kids.length→j+dB (AO (S.drop k))≤b.kids.length→its.length≤50*k→R=CX (D8 one) (S.drop k) (a.kids.drop i) (b.kids.drop j) (its.map IT.op)→H [0]=⟨1,.cells (tL a)⟩→H [1]=⟨1,.cells (tL b)⟩→H [2]=⟨1,.cells BB⟩→H [3]=⟨1,.cells (AaT a.kind v its.length)⟩→(∀ p,H (4::p)=(itM v its).F 4 p) →
  LoopC (cx Tryz.prog w0 I0 n0) Bi Q ⟨lk [(2,iv most),(3,.pob [0] 1 0),(4,.pob [1] 1 0),(6,.pob [2] 1 0),(11,Od S),(13,.pob [3] 1 0),(14,iv i),(15,iv j),(16,iv k)],H⟩:=by
 intro m;induction m using Nat.strongRecOn with
 |_ m ih=>
 intro k i j v its H hm hv hA hB hl hR h0 h1 h2 h3 h4;have h4':=h4 [];simp at h4';cases m with
 |zero=>
  have:k=S.length:=by omega
  subst this;rw[List.drop_length] at hR;refine Ab Ai Bi.eq_1 ?_;simp;have:=hq H its v [(14,iv i),(15,iv j),(16,iv S.length),(57,bv false)] hR.symm h2 h3 h4';simpa using this
 |succ m=>
  have hlt:k<S.length:=by omega
  have ew:=Av k;have hd:S.drop k=S[k]::S.drop (k+1):=(List.getElem_cons_drop hlt).symm;have hk:=hS2 _ (Bg hlt);rw[hd] at hR hA hB;rw[Az,DD,Eg] at hA;rw[Az,DF,D7] at hB;generalize hs:S[k]=s at *;have hk3:s.k=0∨s.k=1∨s.k=2:=by omega
  have ewi:i+s.n≤a.kids.length→i64.wrap ((i:Int)+s.n)=((i+s.n:Nat):Int):=fun h=>by rw[Al (by omega) (by omega)];omega
  have ewj:j+s.n≤b.kids.length→i64.wrap ((j:Int)+s.n)=((j+s.n:Nat):Int):=fun h=>by rw[Al (by omega) (by omega)];omega
  have sl:∀ {p n q:Nat},p+n≤q→(0:Int)≤(p:Int)+n∧(p:Int)+n≤(q:Int)∧((p:Int)+n).toNat=p+n∧(p:Int)≤(p:Int)+n:=fun h=>⟨by omega,by omega,by omega,by omega⟩;rcases hk3 with h | h | h
  ·rw[T5 h,List.drop_drop,List.drop_drop] at hR;rw[if_neg (by omega)] at hA hB;have wi:=ewi (by omega);have wj:=ewj (by omega);have nx:=ih m (by omega) (k+1) (i+s.n) (j+s.n) (v+1) (its++[IT.r (RI.keep (s.n:Int))]);simp only[List.length_append,List.length_cons,List.length_nil] at nx;refine Ab Ai Bi.eq_1 ?_;simp[hlt,hs,Dp,He,h,h3,h4',CG,ew,wi,wj,Aa];refine⟨by omega,?_⟩;refine nx _ (by omega) (by omega) (by omega) (by omega) (by omega) (by rw[hR];simp[IT.op,RI.op]) (by simp[Aa,h0]) (by simp[Aa,h1]) (by simp[Aa,h2,BB]) (by simp[Aa]) (fun p=>?_);by_cases hp:p=[]
   ·subst hp;rw[AL (by simp)];simp[Aa,NF,Zw,Ra,BB]
   ·simp[Aa,hp,h4]
  ·rw[h] at hA hB;simp at hA hB;have wi:=ewi (by omega);by_cases hg2:∃ h3:k+1<S.length,S[k+1].k=2
   ·obtain⟨h5,h6⟩:=hg2;have hd2:S.drop (k+1)=S[k+1]::S.drop (k+1+1):=(List.getElem_cons_drop h5).symm;rw[hd2] at hR hA hB;rw[Az,DD,Eg] at hA;rw[Az,DF,D7] at hB;generalize hs2:S[k+1]=s2 at *;rw[SN h h6,List.drop_drop,List.drop_drop] at hR;rw[h6] at hA hB;simp at hA hB;have ew2:i64.wrap ((k:Int)+1+1)=((k+1+1:Nat):Int):=AP;have wj2:i64.wrap ((j:Int)+s2.n)=((j+s2.n:Nat):Int):=AP;have G:=ZF (one:=one) (a:=(a.kids.drop i).take s.n) (b:=(b.kids.drop j).take s2.n) (fun t ht=>ha t (TK (Oh ht))) (fun t ht=>hb t (TK (Oh ht))) (by simp;omega) (by simp;omega) (most:=most) (fun p hp q hq=>hone p (TK (Oh hp)) q (TK (Oh hq)));have gl:=OE one ((a.kids.drop i).take s.n) ((b.kids.drop j).take s2.n);have i1:(k:Int)+1<S.length:=by omega
    have i2:(0:Int)≤(k:Int)+1:=by omega
    have i3:((k:Int)+1).toNat=k+1:=by omega
    have i4:i64.wrap ((k:Int)+1)=(k:Int)+1:=by rw[ew];omega
    have c1:i+s.n≤a.kids.length:=by omega
    have c2:j+s2.n≤b.kids.length:=by omega
    obtain⟨p1,p2,p3,p4⟩:=sl c1;obtain⟨q1,q2,q3,q4⟩:=sl c2;generalize D8 one ((a.kids.drop i).take s.n) ((b.kids.drop j).take s2.n)=I at *;have nx:=fun H'=>ih (m-1) (by omega) (k+1+1) (i+s.n) (j+s2.n) (v+1) (its++I.map IT.got) H' (by omega);simp only[List.length_append,List.length_map] at nx;refine Ab Ai Bi.eq_1 ?_;simp[hlt,hs,Dp,He,h,i4,h5,hs2,h6,i1,i2,i3];rw[Eu.eq_1];simp[h0,h1,h3,wi,wj2,c1,c2,p1,p2,p3,p4,q1,q2,q3,q4];simp only[← List.map_drop,← List.map_take];refine Ae G (by simp) ?_;simp[h3,h4',CG,wi,wj2,Aa,ew2];refine⟨by omega,?_⟩;refine nx _ (by omega) (by omega) (by omega) (by omega) (by rw[hR,List.map_append,Ts]) (by simp[Aa,h0]) (by simp[Aa,h1]) (by simp[Aa,h2,BB]) (by simp[Aa]) (fun p=>?_);by_cases hp:p=[]
    ·subst hp;rw[AL (by simp),QY];simp[Aa]
    ·simp[Aa,hp,h4]
   ·have hnd:∀ s2 r,S.drop (k+1)=s2::r→s2.k ≠ 2:=fun s2 r e h4=>by
     have h3:k+1<S.length:=by
      have:=congrArg List.length e;simp at this;omega
     refine hg2 ⟨h3,?_⟩;have:S.drop (k+1)=S[k+1]::S.drop (k+1+1):=(List.getElem_cons_drop h3).symm;rw[this] at e;cases e;exact h4
    rw[WH h hnd,List.drop_drop] at hR;have G:=ZF (one:=one) (a:=(a.kids.drop i).take s.n) (b:=[]) (fun t ht=>ha t (TK (Oh ht))) (fun t ht=>by simp at ht) (by simp;omega) (by simp) (most:=most) (fun p hp q hq=>by simp at hq);rw[Ul] at G;have c1:i+s.n≤a.kids.length:=by omega
    have c2:j≤b.kids.length:=by omega
    obtain⟨p1,p2,p3,p4⟩:=sl c1;have wj0:i64.wrap (j:Int)=j:=BJ;have gl:(De ((a.kids.drop i).take s.n)).length≤1:=by unfold De;split<;>simp
    generalize De ((a.kids.drop i).take s.n)=I at *;have nx:=fun H'=>ih m (by omega) (k+1) (i+s.n) j (v+1) (its++I.map IT.got) H' (by omega);simp only[List.length_append,List.length_map] at nx;have i4:i64.wrap ((k:Int)+1)=(k:Int)+1:=by rw[ew];omega
    have key:WPC (cx Tryz.prog w0 I0 n0) Eu (BD 2 (BD 1 (D4 (WPC (cx Tryz.prog w0 I0 n0) (.keep [2,3,4,6,11,13,14,15,16] (.reg [co (some 58) (.move (.tmp 16)) none,co (some 59) (.binOp .add 3 (.tmp 58) (.const (.int .i64 1)) 3) none,co (some 16) (.assign (.tmp 59)) none] [2,3,4,6,11,13,14,15,16]))
      (D4 (LoopC (cx Tryz.prog w0 I0 n0) Bi Q) Q)) (D4 (LoopC (cx Tryz.prog w0 I0 n0) Bi Q) Q)))) ⟨lk [(2,iv most),(3,.pob [0] 1 0),(4,.pob [1] 1 0),(6,.pob [2] 1 0),(11,Od S),(13,.pob [3] 1 0),(14,iv i),(15,iv j),(16,iv k),(17,iv s.n),(18,iv 0)],H⟩:=by
     rw[Eu.eq_1];simp[h0,h1,h3,wi,wj0,c1,c2,p1,p2,p3,p4];simp only[← List.map_drop,← List.map_take];refine Ae G (by simp) ?_;simp[h3,h4',CG,wi,wj0,Aa,ew];refine⟨by omega,?_⟩;refine nx _ (by omega) (by omega) (by omega) (by omega) (by rw[hR,List.map_append,Ts]) (by simp[Aa,h0]) (by simp[Aa,h1]) (by simp[Aa,h2,BB]) (by simp[Aa]) (fun p=>?_);by_cases hp:p=[]
     ·subst hp;rw[AL (by simp),QY];simp[Aa]
     ·simp[Aa,hp,h4]
    refine Ab Ai Bi.eq_1 ?_;by_cases h5:k+1<S.length
    ·have h6:¬ S[k+1].k=2:=fun e=>hg2 ⟨h5,e⟩;have i1:(k:Int)+1<S.length:=by omega
     have i2:(0:Int)≤(k:Int)+1:=by omega
     have i3:((k:Int)+1).toNat=k+1:=by omega
     have h6':¬ ((S[k+1].k:Nat):Int)=2:=by omega
     simp[hlt,hs,Dp,He,h,i4,h5,h6,h6',i1,i2,i3];simpa using key
    ·have i1:¬ (k:Int)+1<S.length:=by omega
     simp[hlt,hs,Dp,He,h,i4,h5,i1];simpa using key
  ·rw[WN h,List.drop_drop] at hR;rw[h] at hA hB;simp at hA hB;have wj:=ewj (by omega);have c2:j+s.n≤b.kids.length:=by omega
   obtain⟨q1,q2,q3,q4⟩:=sl c2;have F2:=KD its v hv (by omega) (k:=2) (.inr rfl) ((b.kids.drop j).take s.n);have d2:=R4 2 ((b.kids.drop j).take s.n);have o2:=aQ ((b.kids.drop j).take s.n);rw[← o2] at hR;clear o2;generalize Yu 2 ((b.kids.drop j).take s.n)=I at *;simp only[List.length_append] at F2;have nx:=fun H'=>ih m (by omega) (k+1) i (j+s.n) (v+I.length) (its++I) H' (by omega);simp only[List.length_append] at nx;refine Ab Ai Bi.eq_1 ?_;simp[hlt,hs,Dp,He,h,h1,h3,wj,c2,q1,q2,q3,q4];simp only[← List.map_drop,← List.map_take];refine Aw 4 F2 h4 (by simp) (by simp) ?_;simp[h1,h3,wj,ew,Aa];refine nx _ (by omega) (by omega) (by omega) (by omega) (by rw[hR];simp) (by simp[Aa,h0]) (by simp[Aa,h1]) (by simp[Aa,h2,BB]) (by simp[Aa]) (fun p=>?_);simp[Aa]
theorem au {one:T→T→E} {a b:T} (ha:BH a) (hb:BH b) (hal:a.kids.length≤1000) (hbl:b.kids.length≤1000) {most:Int} (hm:B9 most) (hone:∀ x,x ∈ a.kids→∀ y,y ∈ b.kids→G.Spec Tryz.prog 53 [tX x,tX y,iv most] (eX (one x y))) :
  G.Spec Tryz.prog 103 [tX a,tX b,iv most] (eX (JG one most a b)):=by
 have hka:=(wfT_iff.1 ha).ks;have hkb:=(wfT_iff.1 hb).ks;have C1:=Qu (ks:=[]) (ts:=a.kids) (by simp) hka (by simp;omega) 1;have hl1:=OS a.kids [];simp at hl1;have C2:=Qu (ks:=(Br [] a.kids).1) (ts:=b.kids) (R5 (l:=a.kids) (by simp) hka) hkb (by omega) (LY 1 [] a.kids);have e1:(Mo a).length=a.kids.length:=by simp[Mo,qE,BA]
 have e2:(Mp a b).length=b.kids.length:=by simp[Mp,qE,BA]
 have hD:=jd (a:=Mo a) (b:=Mp a b) (by omega) (by omega) hm;have z1:(Mo a).map iv=(Br [] a.kids).2.map nv:=Ur _;have z2:(Mp a b).map iv=(Br (Br [] a.kids).1 b.kids).2.map nv:=Ur _;simp only[Cq,z1,z2] at hD;have key:∀ (w0:World) (I0:Nat→Prop) (S:List Sp) (L:A) (H:Hp),(L=Od S∨A.soft L=Od S)→S.length≤10000→(∀ s,s ∈ S→s.k≤2)→dA (AO S)≤a.kids.length→dB (AO S)≤b.kids.length→H [0]=⟨1,.cells (tL a)⟩→H [1]=⟨1,.cells (tL b)⟩→H [2]=⟨1,.cells BB⟩→(H [3]).u=0→(∀ p,H (4::p)=⟨0,.none⟩) →
   WPC (cx Tryz.prog w0 I0 150) Gz (TS Tryz.prog [ResultVar.cell 6 33] (eX (.mk 3 T0 T0 [] [] a.kind (CX (D8 one) S a.kids b.kids [])))) ⟨lk [(2,iv most),(3,.pob [0] 1 0),(4,.pob [1] 1 0),(6,.pob [2] 1 0),(11,L)],H⟩:=by
  intro w0 I0 S L H hL s1 s2 s3 s4 h0 h1 h2 h3 h4;rw[Gz.eq_1];simp[h0,h1,h3,Aa];refine LoopC.le (Bu (d:=[3]) (u:=1) 10 [4] 14 (by simp[Aa,h3];rfl) rfl (by simp)) ?_;simp[Aa,h3,h4];have soft:LoopC (cx Tryz.prog w0 I0 150) Bi (BD 0 (D4 (WPC (cx Tryz.prog w0 I0 150) (CC.keep [6,13] ((CC.reg [co (some 149) (Op.load 33 (Operand.tmp 13)) none,co none (Op.store 33 (Operand.tmp 6) (Operand.tmp 149)) none] [6]).seq CC.ret)) (TS Tryz.prog [ResultVar.cell 6 33] (eX (E.mk 3 T0 T0 [] [] a.kind (CX (D8 one) S a.kids b.kids []))))) (TS Tryz.prog [ResultVar.cell 6 33] (eX (E.mk 3 T0 T0 [] [] a.kind (CX (D8 one) S a.kids b.kids [])))))) ⟨lk [(2,iv most),(3,.pob [0] 1 0),(4,.pob [1] 1 0),(6,.pob [2] 1 0),(11,Od S),(13,.pob [3] 1 0),(14,iv (0:Nat)),(15,iv (0:Nat)),(16,iv (0:Nat))],Ay (Ay (Ay H [3] ⟨1,.cells [iv 3,iv 0,.sl true [],.sl true [],iv 0,.sl true [],.sl true [],.sl true [],.sl true [],iv a.kind,.sl true []]⟩) [4] ⟨1,.arr 14 []⟩) [3] ⟨1,.cells (AaT a.kind 1 0)⟩⟩:=by
   refine su (one:=one) (a:=a) (b:=b) hka hkb (by omega) (by omega) hone s1 s2 (R:=CX (D8 one) S a.kids b.kids []) (fun H' its v st hR g2 g3 g4=>?_) S.length 0 0 0 1 [] _ (by omega) (BZ _) (by simpa using s3) (by simpa using s4) (by simp) rfl (by simp[Aa,h0]) (by simp[Aa,h1]) (by simp[Aa,h2,BB]) (by simp[Aa]) (fun p=>?_)
   ·rw[← hR];simp[g2,g3,g4,BB];refine Cn ⟨Ad rfl,Ad rfl,Ak,Ak,Ad rfl,Ak,Ak,Ak,Ak,Ad rfl,?_,trivial⟩;exact R7 (by simp[Aa,g4]) (by simp)
   ·by_cases hp:p=[]
    ·subst hp;simp[Aa]
    ·simp[Aa,hp,h4]
  rcases hL with rfl | hL
  ·simpa using soft
  ·refine LoopC.le (tf 11) ?_;refine LoopC.le (Ao [(2,iv most),(3,.pob [0] 1 0),(4,.pob [1] 1 0),(6,.pob [2] 1 0),(11,Od S),(13,.pob [3] 1 0),(14,iv (0:Nat)),(15,iv (0:Nat)),(16,iv (0:Nat))] (by simp[upd,hL])) ?_;simpa using soft
 have wd:=WL (Mo a) (Mp a b);have wi:=Sq (Mo a) (Mp a b);have wn:=Q7 _ wi;have l1:=BA a.kids [];have l2:=BA b.kids (Br [] a.kids).1;have hL1:JG one most a b = .mk 3 T0 T0 [] [] a.kind (CX (D8 one) (if (B7 (Mo a) (Mp a b):Int)≤most then Il (GG (Mo a) (Mp a b)) else [⟨1,a.kids.length⟩,⟨2,b.kids.length⟩]) a.kids b.kids []):=by
  unfold JG;split
  ·rfl
  ·rw[SN rfl rfl];simp[CX]
 rw[hL1];clear hL1;generalize hx:Mo a=x at *;generalize hy:Mp a b=y at *;clear z1 z2;generalize hX:(Br [] a.kids).2=X at *;generalize hY:(Br (Br [] a.kids).1 b.kids).2=Y at *;refine Aj QP (by simp) fun w0 I0=>?_;unfold Kg;simp;refine Cm (Cd 7 [5] 3 (by simp)) (CQ ?_);simp;refine Se 5 6 (by decide) C1 (fun p=>?_) (fun p=>by simp) (by simp) (by simp) ?_
 ·by_cases hp:p=[]
  ·subst hp;simp
  ·simp[hp,Ne.symm hp]
 simp;refine Se 5 7 (by decide) C2 (fun p=>by simp) (fun p=>by simp) (by simp) (by simp) ?_;simp;refine Cm (FW (d:=[6]) (fun _ h=>h) 8 (.sl false (X.map nv)) fun H1 g1=>?_) ?_
 ·simp;exact aE (by rw[g1];simp) l1.symm
 refine Cm (FW (d:=[7]) (fun _ h=>h) 10 (.sl false (Y.map nv)) fun H1 g1=>?_) ?_
 ·simp[upd];exact aE (by rw[g1];simp[Aa]) l2.symm
 refine Cm (Ao [(2,iv most),(3,.pob [0] 1 0),(4,.pob [1] 1 0),(6,.pob [2] 1 0),(8,.sl false (X.map nv)),(10,.sl false (Y.map nv))] (by simp[upd])) (CQ ?_);simp;refine Ae hD (by simp) ?_;by_cases hd:(B7 x y:Int)≤most
 ·simp[hd];refine key _ _ _ _ _ (.inl rfl) ?_ (fun s hs=>(O9 wi s hs).1) (by omega) (by omega) (by simp) (by simp) (by simp[BB]) (by simp) (by simp);have:=Ih _ (O9 wi);omega
 ·simp[hd];refine key _ _ _ _ _ (.inr (by simp[A.softL,A.soft,Dp,He])) (by simp) (fun s hs=>by
   simp at hs;rcases hs with rfl | rfl<;>simp) ?_ ?_ (by simp) (by simp) (by simp[BB]) (by simp) (by simp)
  ·rw[Az,Az,ED,DD,DD,Eg,Eg];simp[dA]
  ·rw[Az,Az,ED,DF,DF,D7,D7];simp[dB]
theorem ME (a b:T) (i:Nat):D6 a b (i+1)=D6 a b i++(if K5 (a.words.getD i 0) (b.words.getD i 0)=0 then [] else [wdE i (a.words.getD i 0) (b.words.getD i 0)]):=by
 unfold D6;rw[List.range_succ,List.filterMap_append];congr 1;by_cases h:K5 (a.words.getD i 0) (b.words.getD i 0)=0
 ·simp only[List.filterMap_cons,List.filterMap_nil,h,if_true]
 ·simp only[List.filterMap_cons,List.filterMap_nil,h,if_false]
theorem Mq (a b:T):∀ i,(D6 a b i).length≤i
 |0=>by simp[D6]
 |i+1=>by
  have:=Mq a b i;rw[ME];split<;>simp<;>omega
theorem LA (one:T→T→E) (a b:T) (i:Nat):BW one a b (i+1)=BW one a b i++(if (one (a.kids.getD i T0) (b.kids.getD i T0)).kind=0 then [] else [.mk i (one (a.kids.getD i T0) (b.kids.getD i T0))]):=by
 unfold BW;rw[List.range_succ,List.filterMap_append];congr 1;by_cases h:(one (a.kids.getD i T0) (b.kids.getD i T0)).kind=0
 ·simp only[List.filterMap_cons,List.filterMap_nil,h,if_true]
 ·simp only[List.filterMap_cons,List.filterMap_nil,h,if_false]
theorem It (one:T→T→E) (a b:T):∀ i,(BW one a b i).length≤i
 |0=>by simp[BW]
 |i+1=>by
  have:=It one a b i;rw[LA];split<;>simp<;>omega
def pU (u n:Nat) (k:A):List A:=[iv 2,iv 0,.sl true [],.sl true [],iv 0,.sl true [],.sl true [],.osl [5] u 4 0 n,k,iv 0,.sl true []]
theorem Ada {a b:T} (ha:BH a) (hb:BH b) {most:A} {N:Nat} (hN:N≤1000000)
  (hq:∀ (H':Hp) (u:Nat),H' [0]=⟨1,.cells (tL a)⟩→H' [1]=⟨1,.cells (tL b)⟩→H' [2]=⟨1,.cells BB⟩→H' [3]=⟨1,.cells (pU u (D6 a b N).length (.sl true []))⟩→H' [5]=⟨u,.arr 4 ((D6 a b N).map wA)⟩→H' [6]=⟨0,.none⟩→H' [7]=⟨0,.none⟩ →
   Q (.exit 0) ⟨lk [(2,most),(3,.pob [0] 1 0),(4,.pob [1] 1 0),(6,.pob [2] 1 0),(7,.pob [3] 1 0),(20,iv N),(21,iv N),(22,bv false)],H'⟩) :
  ∀ (m i:Nat) (u:Nat) (H:Hp),i+m=N→H [0]=⟨1,.cells (tL a)⟩→H [1]=⟨1,.cells (tL b)⟩→H [2]=⟨1,.cells BB⟩→H [3]=⟨1,.cells (pU u (D6 a b i).length (.sl true []))⟩→H [5]=⟨u,.arr 4 ((D6 a b i).map wA)⟩→H [6]=⟨0,.none⟩→H [7]=⟨0,.none⟩ →
  LoopC (cx Tryz.prog w0 I0 n0) FA Q ⟨lk [(2,most),(3,.pob [0] 1 0),(4,.pob [1] 1 0),(6,.pob [2] 1 0),(7,.pob [3] 1 0),(20,iv N),(21,iv i)],H⟩:=by
 intro m;induction m with
 |zero=>
  intro i u H hm h0 h1 h2 h3 h5 h6 h7;have:i=N:=by omega
  subst this;refine Ab Ai FA.eq_1 ?_;simp;exact hq H u h0 h1 h2 h3 h5 h6 h7
 |succ m ih=>
  intro i u H hm h0 h1 h2 h3 h5 h6 h7;have hlt:i<N:=by omega
  have ew:=Av i;have hwa:Bw (a.words.getD i 0):=ZI ha i;have hwb:Bw (b.words.getD i 0):=ZI hb i;have hW:=Xh (i:=i) hwa hwb;have hwl:=Mq a b i;have next:=ih (i+1)
  rw[ME] at next
  refine Ab Ai FA.eq_1 ?_;simp[hlt,h0,h1];refine Ae (IA a i) (by simp) ?_;simp[h0,h1];refine Ae (IA b i) (by simp) ?_;simp;refine Ae hW (by simp) ?_;generalize a.words.getD i 0=x at *;generalize b.words.getD i 0=y at *;by_cases hz:K5 x y=0
  ·rw[if_pos hz] at next
   simp[hz,Aa];rw[ew];refine next u _ (by omega) (by simp[Aa,h0]) (by simp[Aa,h1]) (by simp[Aa,h2]) (by simp[Aa,h3]) (by simp[Aa,h5]) (by simp[Aa,h6]) (by simp[Aa,h7])
  ·rw[if_neg hz] at next
   simp[hz,Aa,h3,h5,pU];refine⟨by omega,?_⟩;rw[ew];refine next (u+1) _ (by omega) (by simp[Aa,h0]) (by simp[Aa,h1]) (by simp[Aa,h2]) (by simp[Aa,pU]) (by simp[Aa,AL]) (by simp[Aa,h6]) (by simp[Aa,h7])
theorem Ae4 {one:T→T→E} {a b:T} {most:Int} {N:Nat} (hN:N≤1000000) (hone:∀ i:Nat,G.Spec Tryz.prog 30 [tX (a.kids.getD i T0),tX (b.kids.getD i T0),iv most] (eX (one (a.kids.getD i T0) (b.kids.getD i T0)))) {u n:Nat} {ws:List WE}
  (hq:∀ (H':Hp) (v:Nat),H' [3]=⟨1,.cells (pU u n (.osl [7] v 12 0 (BW one a b N).length))⟩→H' [5]=⟨u,.arr 4 (ws.map wA)⟩→H' [7]=⟨v,.arr 12 ((BW one a b N).map kA)⟩→H' [2]=⟨1,.cells BB⟩ →
   Q (.exit 2) ⟨lk [(2,iv most),(3,.pob [0] 1 0),(4,.pob [1] 1 0),(6,.pob [2] 1 0),(7,.pob [3] 1 0),(49,iv N),(50,iv N),(51,bv false)],H'⟩) :
  ∀ (m i:Nat) (v:Nat) (H:Hp),i+m=N→H [0]=⟨1,.cells (tL a)⟩→H [1]=⟨1,.cells (tL b)⟩→H [2]=⟨1,.cells BB⟩→H [3]=⟨1,.cells (pU u n (.osl [7] v 12 0 (BW one a b i).length))⟩→H [5]=⟨u,.arr 4 (ws.map wA)⟩→H [7]=⟨v,.arr 12 ((BW one a b i).map kA)⟩ →
  LoopC (cx Tryz.prog w0 I0 n0) Fv Q ⟨lk [(2,iv most),(3,.pob [0] 1 0),(4,.pob [1] 1 0),(6,.pob [2] 1 0),(7,.pob [3] 1 0),(49,iv N),(50,iv i)],H⟩:=by
 intro m;induction m with
 |zero=>
  intro i v H hm h0 h1 h2 h3 h5 h7;have:i=N:=by omega
  subst this;refine Ab Ai Fv.eq_1 ?_;simp;exact hq H v h3 h5 h7 h2
 |succ m ih=>
  intro i v H hm h0 h1 h2 h3 h5 h7;have hlt:i<N:=by omega
  have ew:=Av i;have hO:=hone i;have hkl:=It one a b i;have next:=ih (i+1)
  rw[LA] at next
  have K1:=JR a i;have K2:=JR b i;generalize a.kids.getD i T0=x at *;generalize b.kids.getD i T0=y at *;generalize one x y=e at *;refine Ab Ai Fv.eq_1 ?_;simp[hlt,h0,h1];refine Ae K1 (by simp) ?_;simp[h0,h1];refine Ae K2 (by simp) ?_;simp;refine Ae hO (by simp) ?_;by_cases hz:e.kind=0
  ·rw[if_pos hz] at next
   simp[hz,Aa];rw[ew];refine next v _ (by omega) (by simp[Aa,h0]) (by simp[Aa,h1]) (by simp[Aa,h2]) (by simp[Aa,h3]) (by simp[Aa,h5]) (by simp[Aa,h7])
  ·rw[if_neg hz] at next
   simp[hz,Aa,h3,h7,pU];refine⟨by omega,?_⟩;rw[ew];refine next (v+1) _ (by omega) (by simp[Aa,h0]) (by simp[Aa,h1]) (by simp[Aa,h2]) (by simp[Aa,pU]) (by simp[Aa,h5]) (by simp[Aa,AL])
theorem WV {one:T→T→E} {a b:T} (ha:BH a) (hb:BH b) (h1:a.words.length≤1000000) (h2:b.words.length≤1000000) (h3:a.kids.length≤1000000) (h4:b.kids.length≤1000000) {most:Int} (hone:∀ i:Nat,G.Spec Tryz.prog 30 [tX (a.kids.getD i T0),tX (b.kids.getD i T0),iv most] (eX (one (a.kids.getD i T0) (b.kids.getD i T0)))) :
  G.Spec Tryz.prog 60 [tX a,tX b,iv most] (eX (UG one a b)):=by
 refine Aj UC (by simp) fun w0 I0=>?_;unfold MG;simp;refine LoopC.le (Bu (d:=[3]) (u:=1) (cs:=[iv 2,iv 0,.sl true [],.sl true [],iv 0,.sl true [],.sl true [],.sl true [],.sl true [],iv 0,.sl true []]) 7 [5] 4 (by simp[Aa]) rfl (by simp)) ?_;refine LoopC.le (Ao [(2,iv most),(3,.pob [0] 1 0),(4,.pob [1] 1 0),(6,.pob [2] 1 0),(7,.pob [3] 1 0),(20,iv (max a.words.length b.words.length:Nat)),(21,iv (0:Nat))] (by simp;omega)) ?_;refine Ada ha hb (N:=max a.words.length b.words.length) (by omega) (fun H' u g0 g1 g2 g3 g5 g6 g7=>?_) (max a.words.length b.words.length) 0 1 _ (by omega) (by simp[Aa]) (by simp[Aa]) (by simp[Aa,BB]) (by simp[Aa,pU,D6]) (by simp[Aa,D6]) (by simp[Aa]) (by simp[Aa]);simp[g0,g1];refine LoopC.le (Bu (d:=[3]) (u:=1) (cs:=pU u (D6 a b (max a.words.length b.words.length)).length (.sl true [])) 8 [7] 12 g3 rfl (by simp)) ?_;refine LoopC.le (Ao [(2,iv most),(3,.pob [0] 1 0),(4,.pob [1] 1 0),(6,.pob [2] 1 0),(7,.pob [3] 1 0),(49,iv (max a.kids.length b.kids.length:Nat)),(50,iv (0:Nat))] (by simp;omega)) ?_;refine Ae4 (one:=one) (a:=a) (b:=b) (N:=max a.kids.length b.kids.length) (by omega) hone (ws:=D6 a b (max a.words.length b.words.length)) (u:=u) (n:=(D6 a b (max a.words.length b.words.length)).length) (fun H2 v k3 k5 k7 k2=>?_) (max a.kids.length b.kids.length) 0 1 _ (by omega) (by simp[Aa,g0]) (by simp[Aa,g1]) (by simp[Aa,g2]) (by simp[Aa,pU,BW,g7]) (by simp[Aa,g5]) (by simp[Aa,BW,g7]);simp[k3,k2,Aa,pU];refine⟨by simp[BB],?_⟩;refine Cn ⟨Ad rfl,Ad rfl,Ak,Ak,Ad rfl,Ak,Ak,?_,?_,Ad rfl,Ak,trivial⟩
 ·exact Bx (f:=wA) (l:=D6 a b (max a.words.length b.words.length)) (by rw[AH (by simp),k5];simp) rfl (fun x=>by simp)
 ·exact Bx (f:=kA) (l:=BW one a b (max a.kids.length b.kids.length)) (by rw[AH (by simp),k7];simp) rfl (fun x=>by simp)
def pv (u n:Nat) (k:A):List A:=[iv 2,iv 0,.sl true [],.sl true [],iv 0,.sl true [],.sl true [],.osl [4] u 4 0 n,k,iv 0,.sl true []]
theorem Aam {a b:T} (ha:BH a) (hb:BH b) {most:Int} {N:Nat} (hNN:N=max a.words.length b.words.length) (hN:N≤1000000)
  (hq:∀ (H':Hp) (u:Nat),H' [0]=⟨1,.cells (tL a)⟩→H' [1]=⟨1,.cells (tL b)⟩→H' [2]=⟨1,.cells BB⟩→H' [3]=⟨1,.cells (pv u (D6 a b N).length (.sl true []))⟩→H' [4]=⟨u,.arr 4 ((D6 a b N).map wA)⟩→H' [6]=⟨0,.none⟩ →
   Q (.exit 0) ⟨lk [(2,iv most),(3,.pob [0] 1 0),(4,.pob [1] 1 0),(6,.pob [2] 1 0),(7,.pob [3] 1 0),(8,iv N),(24,bv false)],H'⟩) :
  ∀ (m i:Nat) (u:Nat) (H:Hp),i+m=N→H [0]=⟨1,.cells (tL a)⟩→H [1]=⟨1,.cells (tL b)⟩→H [2]=⟨1,.cells BB⟩→H [3]=⟨1,.cells (pv u (D6 a b i).length (.sl true []))⟩→H [4]=⟨u,.arr 4 ((D6 a b i).map wA)⟩→H [6]=⟨0,.none⟩ →
  LoopC (cx Tryz.prog w0 I0 n0) Dy Q ⟨lk [(2,iv most),(3,.pob [0] 1 0),(4,.pob [1] 1 0),(6,.pob [2] 1 0),(7,.pob [3] 1 0),(8,iv i)],H⟩:=by
 intro m;induction m with
 |zero=>
  intro i u H hm h0 h1 h2 h3 h4 h6;have:i=N:=by omega
  subst this;have g1:¬ i<a.words.length:=by omega
  have g2:¬ i<b.words.length:=by omega
  refine Ab Ai Dy.eq_1 ?_;simp[h0,h1,g1,g2];exact hq H u h0 h1 h2 h3 h4 h6
 |succ m ih=>
  intro i u H hm h0 h1 h2 h3 h4 h6;have hlt:i<N:=by omega
  have ew:=Av i;have hwa:Bw (a.words.getD i 0):=ZI ha i;have hwb:Bw (b.words.getD i 0):=ZI hb i;have hU:=b6 hwa hwb;have hin:=We (a.words.getD i 0) (b.words.getD i 0);have z:Bw 0:=by unfold Bw;omega
  have M1:=Zp z hwa hin.1 hin.2;have M2:=Zp z hwb hin.1 hin.2;have W1:=Ti a i;have W2:=Ti b i;have hwl:=Mq a b i;have next:=ih (i+1)
  rw[ME] at next
  generalize a.words.getD i 0=x at *;generalize b.words.getD i 0=y at *;refine Ab Ai Dy.eq_1 ?_;have go:(i<a.words.length∧True)∨(¬ i<a.words.length∧i<b.words.length):=by
   by_cases g:i<a.words.length
   ·exact .inl ⟨g,trivial⟩
   ·exact .inr ⟨g,by omega⟩
  rcases go with ⟨g,g'⟩ | ⟨g,g'⟩;all_goals
   simp[h0,h1,g,g'];refine Ae W1 (by simp) ?_;simp[h0,h1];refine Ae W2 (by simp) ?_;simp;refine Ae hU (by simp) ?_;by_cases hz:K5 x y=0
   ·rw[if_pos hz,List.append_nil] at next
    simp[hz,ew];refine next u _ (by omega) h0 h1 h2 h3 h4 h6
   ·rw[if_neg hz] at next
    simp[hz,Aa,h0,h1,h3,h4,pv];refine Ae W1 (by simp) ?_;simp;refine Ae M1 (by simp) ?_;simp[h1];refine Ae W2 (by simp) ?_;simp;refine Ae M2 (by simp) ?_;simp[h3,h4,pv,Aa];refine⟨by omega,?_⟩;rw[ew];refine next (u+1) _ (by omega) (by simp[Aa,h0]) (by simp[Aa,h1]) (by simp[Aa,h2]) (by simp[Aa,pv]) (by simp[Aa,AL,wdE]) (by simp[Aa,h6])
theorem zd {one:T→T→E} {a b:T} {most:Int} {N:Nat} (hNN:N=max a.kids.length b.kids.length) (hN:N≤1000000) (hone:∀ i:Nat,G.Spec Tryz.prog 53 [tX (a.kids.getD i T0),tX (b.kids.getD i T0),iv most] (eX (one (a.kids.getD i T0) (b.kids.getD i T0)))) {u n:Nat} {ws:List WE}
  (hq:∀ (H':Hp) (v:Nat),H' [3]=⟨1,.cells (pv u n (.osl [6] v 12 0 (BW one a b N).length))⟩→H' [4]=⟨u,.arr 4 (ws.map wA)⟩→H' [6]=⟨v,.arr 12 ((BW one a b N).map kA)⟩→H' [2]=⟨1,.cells BB⟩ →
   Q (.exit 2) ⟨lk [(2,iv most),(3,.pob [0] 1 0),(4,.pob [1] 1 0),(6,.pob [2] 1 0),(7,.pob [3] 1 0),(10,iv N),(65,bv false)],H'⟩) :
  ∀ (m i:Nat) (v:Nat) (H:Hp),i+m=N→H [0]=⟨1,.cells (tL a)⟩→H [1]=⟨1,.cells (tL b)⟩→H [2]=⟨1,.cells BB⟩→H [3]=⟨1,.cells (pv u n (.osl [6] v 12 0 (BW one a b i).length))⟩→H [4]=⟨u,.arr 4 (ws.map wA)⟩→H [6]=⟨v,.arr 12 ((BW one a b i).map kA)⟩ →
  LoopC (cx Tryz.prog w0 I0 n0) Dt Q ⟨lk [(2,iv most),(3,.pob [0] 1 0),(4,.pob [1] 1 0),(6,.pob [2] 1 0),(7,.pob [3] 1 0),(10,iv i)],H⟩:=by
 intro m;induction m with
 |zero=>
  intro i v H hm h0 h1 h2 h3 h4 h6;have:i=N:=by omega
  subst this;have g1:¬ i<a.kids.length:=by omega
  have g2:¬ i<b.kids.length:=by omega
  refine Ab Ai Dt.eq_1 ?_;simp[h0,h1,g1,g2];exact hq H v h3 h4 h6 h2
 |succ m ih=>
  intro i v H hm h0 h1 h2 h3 h4 h6;have hlt:i<N:=by omega
  have ew:=Av i;have hO:=hone i;have hkl:=It one a b i;have next:=ih (i+1)
  rw[LA] at next
  have K1:=US a i;have K2:=US b i;generalize a.kids.getD i T0=x at *;generalize b.kids.getD i T0=y at *;generalize one x y=e at *;have go:(i<a.kids.length∧True)∨(¬ i<a.kids.length∧i<b.kids.length):=by
   by_cases g:i<a.kids.length
   ·exact .inl ⟨g,trivial⟩
   ·exact .inr ⟨g,by omega⟩
  refine Ab Ai Dt.eq_1 ?_;rcases go with ⟨g,g'⟩ | ⟨g,g'⟩;all_goals
   simp[h0,h1,g,g'];refine Ae K1 (by simp) ?_;simp[h0,h1];refine Ae K2 (by simp) ?_;simp;refine Ae hO (by simp) ?_;by_cases hz:e.kind=0
   ·rw[if_pos hz,List.append_nil] at next
    simp[hz,Aa];rw[ew];refine next v _ (by omega) (by simp[Aa,h0]) (by simp[Aa,h1]) (by simp[Aa,h2]) (by simp[Aa,h3]) (by simp[Aa,h4]) (by simp[Aa,h6])
   ·rw[if_neg hz] at next
    simp[hz,Aa,h3,h6,pv];refine⟨by omega,?_⟩;rw[ew];refine next (v+1) _ (by omega) (by simp[Aa,h0]) (by simp[Aa,h1]) (by simp[Aa,h2]) (by simp[Aa,pv]) (by simp[Aa,h4]) (by simp[Aa,AL])
theorem VX {one:T→T→E} {a b:T} (ha:BH a) (hb:BH b) (h1:a.words.length≤1000000) (h2:b.words.length≤1000000) (h3:a.kids.length≤1000000) (h4:b.kids.length≤1000000) {most:Int} (hone:∀ i:Nat,G.Spec Tryz.prog 53 [tX (a.kids.getD i T0),tX (b.kids.getD i T0),iv most] (eX (one (a.kids.getD i T0) (b.kids.getD i T0)))) :
  G.Spec Tryz.prog 102 [tX a,tX b,iv most] (eX (UG one a b)):=by
 refine Aj OD (by simp) fun w0 I0=>?_;unfold Jl;simp;refine LoopC.le (Bu (d:=[3]) (u:=1) (cs:=[iv 2,iv 0,.sl true [],.sl true [],iv 0,.sl true [],.sl true [],.sl true [],.sl true [],iv 0,.sl true []]) 7 [4] 4 (by simp[Aa]) rfl (by simp)) ?_;refine LoopC.le (Ao [(2,iv most),(3,.pob [0] 1 0),(4,.pob [1] 1 0),(6,.pob [2] 1 0),(7,.pob [3] 1 0),(8,iv (0:Nat))] (by simp)) ?_;refine Aam ha hb (N:=max a.words.length b.words.length) rfl (by omega) (fun H' u g0 g1 g2 g3 g5 g6=>?_) (max a.words.length b.words.length) 0 1 _ (by omega) (by simp[Aa]) (by simp[Aa]) (by simp[Aa,BB]) (by simp[Aa,pv,D6]) (by simp[Aa,D6]) (by simp[Aa]);simp[g0,g1];refine LoopC.le (Bu (d:=[3]) (u:=1) (cs:=pv u (D6 a b (max a.words.length b.words.length)).length (.sl true [])) 8 [6] 12 g3 rfl (by simp)) ?_;refine LoopC.le (Ao [(2,iv most),(3,.pob [0] 1 0),(4,.pob [1] 1 0),(6,.pob [2] 1 0),(7,.pob [3] 1 0),(10,iv (0:Nat))] (by simp)) ?_;refine zd (one:=one) (a:=a) (b:=b) (N:=max a.kids.length b.kids.length) rfl (by omega) hone (ws:=D6 a b (max a.words.length b.words.length)) (u:=u) (n:=(D6 a b (max a.words.length b.words.length)).length) (fun H2 v k3 k5 k7 k2=>?_) (max a.kids.length b.kids.length) 0 1 _ (by omega) (by simp[Aa,g0]) (by simp[Aa,g1]) (by simp[Aa,g2]) (by simp[Aa,pv,BW,g6]) (by simp[Aa,g5]) (by simp[Aa,BW,g6]);simp[k3,k2,Aa,pv];refine⟨by simp[BB],?_⟩;refine Cn ⟨Ad rfl,Ad rfl,Ak,Ak,Ad rfl,Ak,Ak,?_,?_,Ad rfl,Ak,trivial⟩
 ·exact Bx (f:=wA) (l:=D6 a b (max a.words.length b.words.length)) (by rw[AH (by simp),k5];simp) rfl (fun x=>by simp)
 ·exact Bx (f:=kA) (l:=BW one a b (max a.kids.length b.kids.length)) (by rw[AH (by simp),k7];simp) rfl (fun x=>by simp)
theorem eO {a b:T} (ha:BH a) (hb:BH b) {X Y:E} {most:Int} (hs:a.kind=1→b.kind=1→G.Spec Tryz.prog 60 [tX a,tX b,iv most] (eX X)) (hl:a.kind=b.kind→2≤a.kind→a.kind≤9→G.Spec Tryz.prog 62 [tX a,tX b,iv most] (eX Y)) :
  G.Spec Tryz.prog 30 [tX a,tX b,iv most] (eX (if LK a b=true then E0 else if a.kind=1∧b.kind=1 then X else if a.kind=b.kind∧2≤a.kind∧a.kind≤9 then Y else .mk 1 a b [] [] 0 [])):=by
 have hE:=Xi ha hb;have hraw:∀ H:Hp,J3 H (.agg BB) (eX E0):=fun H=>Cn ⟨Ad rfl,Ad rfl,Ak,Ak,Ad rfl,Ak,Ak,Ak,Ak,Ad rfl,Ak,trivial⟩;have hfr:∀ (H:Hp) (k:Int),k=a.kind→J3 H (.agg [iv 1,iv k,Dz a.words,Bm a.kids,iv b.kind,Dz b.words,Bm b.kids,.sl true [],.sl true [],iv 0,.sl true []]) (eX (.mk 1 a b [] [] 0 [])):=fun H k hk=>by
  subst hk;exact Cn ⟨Ad rfl,Ad rfl,Ad rfl,Ad rfl,Ad rfl,Ad rfl,Ad rfl,Ak,Ak,Ad rfl,Ak,trivial⟩
 refine Aj jF (by simp) fun w0 I0=>?_;unfold Xj;simp;refine Ae hE (by simp) ?_;cases he:LK a b with
 |true=>
  simp;exact hraw _
 |false=>
  by_cases h1:a.kind=1
  ·by_cases h2:b.kind=1
   ·have S:=hs h1 h2;have S':G.Spec Tryz.prog 60 [.agg [iv 1,Dz a.words,Bm a.kids],.agg [iv 1,Dz b.words,Bm b.kids],iv most] (eX X):=by
     rw[← h1];have e:([A.agg [iv a.kind,Dz a.words,Bm a.kids],.agg [iv a.kind,Dz b.words,Bm b.kids],iv most]:List A)=[tX a,tX b,iv most]:=by
      show [A.agg [iv a.kind,Dz a.words,Bm a.kids],.agg [iv a.kind,Dz b.words,Bm b.kids],iv most]=[A.agg [iv a.kind,Dz a.words,Bm a.kids],.agg [iv b.kind,Dz b.words,Bm b.kids],iv most];rw[h1,h2]
     rw[e];exact S
    simp[h1,h2];refine Ae S' (by simp) ?_;simp;exact Ad (by simp)
   ·have hne:¬ (1:Int)=b.kind:=fun e=>h2 e.symm;simp[h1,h2,hne];refine AY rfl ?_;simp;exact hfr _ 1 h1.symm
  ·by_cases h3:a.kind=b.kind
   ·have h2:¬ b.kind=1:=fun e=>h1 (h3.trans e);simp[h1,h3,h2];rw[AU];simp;refine Ae (Yn b.kind) (by simp) ?_;by_cases h5:2≤b.kind∧b.kind≤9
    ·have S:=hl h3 (by omega) (by omega);have S':G.Spec Tryz.prog 62 [.agg [iv b.kind,Dz a.words,Bm a.kids],.agg [iv b.kind,Dz b.words,Bm b.kids],iv most] (eX Y):=by
      rw[← h3];have e:([A.agg [iv a.kind,Dz a.words,Bm a.kids],.agg [iv a.kind,Dz b.words,Bm b.kids],iv most]:List A)=[tX a,tX b,iv most]:=by
       show [A.agg [iv a.kind,Dz a.words,Bm a.kids],.agg [iv a.kind,Dz b.words,Bm b.kids],iv most]=[A.agg [iv a.kind,Dz a.words,Bm a.kids],.agg [iv b.kind,Dz b.words,Bm b.kids],iv most];rw[h3]
      rw[e];exact S
     simp[h5.1,h5.2];refine Ae S' (by simp) ?_;simp;exact Ad (by simp)
    ·have h6:(decide (2≤b.kind)&&decide (b.kind≤9))=false:=by
      rw[Bool.eq_false_iff];simpa using h5
     rw[h6];simp[h5];exact hfr _ _ h3.symm
   ·simp[h1,h3];refine AY rfl ?_;simp;exact hfr _ _ rfl
def Wr:Nat→T→Prop
 |0,t=>t=T0
 |f+1,t=>t=T0∨(BH t∧Ah t=t∧t.words.length≤1000∧t.kids.length≤1000∧∀ k,k ∈ t.kids→Wr f k)
theorem AaH (f:Nat):Wr f T0:=by cases f with
 |zero=>rfl
 |succ f=>exact .inl rfl
theorem HB:BH T0:=wfT_iff.2 ⟨by simp[B9],by simp,by simp,by simp,by simp⟩
theorem pP:Ah T0=T0:=by simp[Ah,T0,Cf,BO]
theorem Bn {f:Nat} {t:T} (h:Wr f t):BH t∧Ah t=t∧t.words.length≤1000∧t.kids.length≤1000:=by
 have z:BH T0∧Ah T0=T0∧T0.words.length≤1000∧T0.kids.length≤1000:=⟨HB,pP,by decide,by decide⟩;cases f with
 |zero=>cases h;exact z
 |succ f=>
  rcases h with rfl | h
  ·exact z
  ·exact⟨h.1,h.2.1,h.2.2.1,h.2.2.2.1⟩
theorem CW {f:Nat} {t:T} (h:Wr f t):∀ k,k ∈ t.kids→Wr (f-1) k:=by
 cases f with
 |zero=>cases h;intro k hk;simp[T0] at hk
 |succ f=>
  rcases h with rfl | h
  ·intro k hk;simp[T0] at hk
  ·exact h.2.2.2.2
theorem L9 {f:Nat} {t:T} (h:Wr f t) (i:Nat):Wr (f-1) (t.kids.getD i T0):=by
 by_cases hi:i<t.kids.length
 ·have e:t.kids.getD i T0=t.kids[i]:=by simp[hi]
  rw[e];exact CW h _ (Bg hi)
 ·have e:t.kids.getD i T0=T0:=by simp[List.getElem?_eq_none (Nat.le_of_not_lt hi)]
  rw[e];exact AaH _
theorem UD {most:Int} (hm:B9 most):∀ (f g:Nat) (a b:T),Wr f a→Wr g b→G.Spec Tryz.prog 30 [tX a,tX b,iv most] (eX (MR most f a b))
 |0,g,a,b,ha,hb=>by
  obtain⟨a1,a2,a3,a4⟩:=Bn ha;obtain⟨b1,b2,b3,b4⟩:=Bn hb;have hk:a.kind=0:=by cases ha;rfl
  have:=eO a1 b1 (X:=E0) (Y:=E0) (most:=most) (fun h=>by omega) (fun _ h=>by omega);rw[if_neg (show ¬ (a.kind=1∧b.kind=1) by omega),if_neg (show ¬ (a.kind=b.kind∧2≤a.kind∧a.kind≤9) by omega)] at this;exact this
 |f+1,g,a,b,ha,hb=>by
  obtain⟨a1,a2,a3,a4⟩:=Bn ha;obtain⟨b1,b2,b3,b4⟩:=Bn hb;refine eO a1 b1 (fun h1 h2=>?_) (fun h1 h2 h3=>?_)
  ·exact WV a1 b1 (by omega) (by omega) (by omega) (by omega) fun i=>UD hm f (g-1) _ _ (L9 ha i) (L9 hb i)
  ·exact b9 a1 b1 (fun t ht=>(Bn (CW ha t ht)).2.1) (fun t ht=>(Bn (CW hb t ht)).2.1) (by omega) (by omega) hm fun x hx y hy=>UD hm f (g-1) _ _ (CW ha x hx) (CW hb y hy)
theorem ZM {a b:T} (ha:BH a) (hb:BH b) {X Y:E} {most:Int} (hs:a.kind=1→b.kind=1→G.Spec Tryz.prog 102 [tX a,tX b,iv most] (eX X)) (hl:a.kind=b.kind→2≤a.kind→a.kind≤9→G.Spec Tryz.prog 103 [tX a,tX b,iv most] (eX Y)) :
  G.Spec Tryz.prog 53 [tX a,tX b,iv most] (eX (if LK a b=true then E0 else if a.kind=1∧b.kind=1 then X else if a.kind=b.kind∧2≤a.kind∧a.kind≤9 then Y else .mk 1 a b [] [] 0 [])):=by
 have hE:=Vu ha hb (GU _ ha);have hraw:∀ H:Hp,J3 H (.agg BB) (eX E0):=fun H=>Cn ⟨Ad rfl,Ad rfl,Ak,Ak,Ad rfl,Ak,Ak,Ak,Ak,Ad rfl,Ak,trivial⟩;have hfr:∀ (H:Hp) (k:Int),k=a.kind→J3 H (.agg [iv 1,iv k,Dz a.words,Bm a.kids,iv b.kind,Dz b.words,Bm b.kids,.sl true [],.sl true [],iv 0,.sl true []]) (eX (.mk 1 a b [] [] 0 [])):=fun H k hk=>by
  subst hk;exact Cn ⟨Ad rfl,Ad rfl,Ad rfl,Ad rfl,Ad rfl,Ad rfl,Ad rfl,Ak,Ak,Ad rfl,Ak,trivial⟩
 refine Aj QN (by simp) fun w0 I0=>?_;unfold Ky;simp;refine Ae hE (by simp) ?_;cases he:LK a b with
 |true=>
  simp;exact hraw _
 |false=>
  by_cases h1:a.kind=1
  ·by_cases h2:b.kind=1
   ·have S:=hs h1 h2;have S':G.Spec Tryz.prog 102 [.agg [iv 1,Dz a.words,Bm a.kids],.agg [iv 1,Dz b.words,Bm b.kids],iv most] (eX X):=by
     rw[← h1];have e:([A.agg [iv a.kind,Dz a.words,Bm a.kids],.agg [iv a.kind,Dz b.words,Bm b.kids],iv most]:List A)=[tX a,tX b,iv most]:=by
      show [A.agg [iv a.kind,Dz a.words,Bm a.kids],.agg [iv a.kind,Dz b.words,Bm b.kids],iv most]=[A.agg [iv a.kind,Dz a.words,Bm a.kids],.agg [iv b.kind,Dz b.words,Bm b.kids],iv most];rw[h1,h2]
     rw[e];exact S
    simp[h1,h2];refine Ae S' (by simp) ?_;simp;exact Ad (by simp)
   ·have hne:¬ (1:Int)=b.kind:=fun e=>h2 e.symm;simp[h1,h2,hne];exact hfr _ 1 h1.symm
  ·by_cases h3:a.kind=b.kind
   ·have h2:¬ b.kind=1:=fun e=>h1 (h3.trans e);by_cases h5:2≤b.kind∧b.kind≤9
    ·have S:=hl h3 (by omega) (by omega);have S':G.Spec Tryz.prog 103 [.agg [iv b.kind,Dz a.words,Bm a.kids],.agg [iv b.kind,Dz b.words,Bm b.kids],iv most] (eX Y):=by
      rw[← h3];have e:([A.agg [iv a.kind,Dz a.words,Bm a.kids],.agg [iv a.kind,Dz b.words,Bm b.kids],iv most]:List A)=[tX a,tX b,iv most]:=by
       show [A.agg [iv a.kind,Dz a.words,Bm a.kids],.agg [iv a.kind,Dz b.words,Bm b.kids],iv most]=[A.agg [iv a.kind,Dz a.words,Bm a.kids],.agg [iv b.kind,Dz b.words,Bm b.kids],iv most];rw[h3]
      rw[e];exact S
     simp[h1,h3,h2,h5.1,h5.2];refine Ae S' (by simp) ?_;simp;exact Ad (by simp)
    ·by_cases h6:2≤b.kind
     ·have h7:¬ b.kind≤9:=fun h=>h5 ⟨h6,h⟩;simp[h1,h3,h2,h6,h7];exact hfr _ _ h3.symm
     ·simp[h1,h3,h2,h6];exact hfr _ _ h3.symm
   ·simp[h1,h3];exact hfr _ _ rfl
end Go.Proofs.YtbjmaoedheiigaaGreat
namespace Go.PL
mutual
def Gu:T→Int
 |.mk _ w l=>1+w.length+Jp l
def Jp:List T→Int
 |[]=>0
 |t::l=>Gu t+Jp l
end
@[simp] theorem pf (k:Int) (w:List Int) (l:List T):Gu (.mk k w l)=1+w.length+Jp l:=by rw[Gu]
@[simp] theorem zX:Jp []=0:=by rw[Jp]
@[simp] theorem dC (t:T) (l:List T):Jp (t::l)=Gu t+Jp l:=by rw[Jp]
theorem X4 {l:List T} (h:∀ t,t ∈ l→1≤Gu t):(l.length:Int)≤Jp l:=by
 induction l with
 |nil=>simp
 |cons t l ih=>
  have:=h t (by simp);have:=ih fun u hu=>h u (by simp[hu]);simp;omega
theorem Yc:∀ t:T,1≤Gu t:=by
 refine T.ind fun k w l ih=>?_;have:=X4 ih;simp;omega
theorem XP (l:List T):(l.length:Int)≤Jp l:=X4 fun t _=>Yc t
theorem Qp:∀ (t:T) (d:Nat) (n:Int),0≤DJ d n t→Gu t≤n-DJ d n t:=by
 refine T.ind fun k w l ih d n h=>?_;have hl:∀ (m:List T) (d:Nat) (n:Int),(∀ t,t ∈ m→t ∈ l)→0≤DW d n m→Jp m≤n-DW d n m:=by
  intro m;induction m with
  |nil=>intro d n _ _;simp
  |cons t m ihm=>
   intro d n hin h;rw[IH] at h ⊢;split at h
   ·omega
   ·rename_i hc;rw[if_neg hc];have h1:=ihm d (DJ d n t) (fun u hu=>hin u (by simp[hu])) h;have h3:0≤DJ d n t:=by
     cases m with
     |nil=>simpa using h
     |cons u m=>
      rw[IH] at h;split at h<;>omega
    have:=ih t (hin t (by simp)) d n h3;simp;omega
 rw[QQ] at h ⊢;split at h
 ·omega
 rename_i hc;rw[if_neg hc];have:=hl l (d-1) _ (fun t ht=>ht) h;simp;omega
end Go.PL
namespace Go.Proofs.YtbjmaoedheiigaaGreat
open Go Go.G Go.Proofs Go.PL
theorem Hq (a b:List OP):DP (a++b)=DP a+DP b:=by simp[DP]
theorem Un (l:List T):DP (De l)=l.length:=by
 unfold De;split
 ·rename_i h;subst h;rfl
 ·simp[DP]
theorem Ub (l:List T):DP (Dn l)=l.length:=by
 unfold Dn;split
 ·rename_i h;subst h;rfl
 ·simp[DP]
theorem dL (one:T→T→E) (a b:List T):∀ (P:List Sc) (i j:Nat) (out:List OP),jn a.length b.length i j P→DP (KY one a b P i j out)≤DP out+(a.length-i)+(b.length-j)
 |[],i,j,out,h=>by
  rw[KY,Hq,Hq,Un,Ub];simp
 |x::P,i,j,out,h=>by
  obtain⟨k1,k2,k3,k4,k5⟩:=h;have:=dL one a b P _ _ (out++De ((a.take x.i).drop i)++Dn ((b.take x.j).drop j)++[.mk 3 0 [] (one (a.getD x.i T0) (b.getD x.j T0))]) k5;rw[KY];rw[Hq,Hq,Hq,Un,Ub,show DP [OP.mk 3 0 [] (one (a.getD x.i T0) (b.getD x.j T0))]=0 from rfl,List.length_drop,List.length_take,List.length_drop,List.length_take] at this;omega
theorem gV (one:T→T→E) (a b:List T):DP (D8 one a b)≤a.length+b.length:=by
 have:=dL one a b (YL (KX a b)) 0 0 [] (W7 a b);rw[show DP []=0 from rfl] at this;unfold D8;omega
inductive aV (one:T→T→E) (A B:List T) (N:Nat):OP→Prop
 |keep (n:Nat) (h:n≤N):aV one A B N (.mk 0 n [] E0)
 |del (l:List T) (h:l ≠ []) (g:∀ t,t ∈ l→t ∈ A) (k:l.length≤A.length):aV one A B N (.mk 1 0 l E0)
 |ins (l:List T) (h:l ≠ []) (g:∀ t,t ∈ l→t ∈ B) (k:l.length≤B.length):aV one A B N (.mk 2 0 l E0)
 |desc (x y:T) (hx:x ∈ A) (hy:y ∈ B):aV one A B N (.mk 3 0 [] (one x y))
theorem sm {one:T→T→E} {A B A' B':List T} {N:Nat} (hA:∀ t,t ∈ A→t ∈ A') (hB:∀ t,t ∈ B→t ∈ B') (lA:A.length≤A'.length) (lB:B.length≤B'.length) {o:OP} (h:aV one A B N o):aV one A' B' N o:=by
 cases h with
 |keep n h=>exact .keep n h
 |del l h g k=>exact .del l h (fun t ht=>hA t (g t ht)) (by omega)
 |ins l h g k=>exact .ins l h (fun t ht=>hB t (g t ht)) (by omega)
 |desc x y hx hy=>exact .desc x y (hA x hx) (hB y hy)
theorem aU {one:T→T→E} {A B l:List T} {N:Nat} (h:∀ t,t ∈ l→t ∈ A) (hl:l.length≤A.length):∀ o,o ∈ De l→aV one A B N o:=by
 intro o ho;unfold De at ho;split at ho
 ·simp at ho
 ·rename_i hne;simp at ho;subst ho;exact .del l hne h hl
theorem bH {one:T→T→E} {A B l:List T} {N:Nat} (h:∀ t,t ∈ l→t ∈ B) (hl:l.length≤B.length):∀ o,o ∈ Dn l→aV one A B N o:=by
 intro o ho;unfold Dn at ho;split at ho
 ·simp at ho
 ·rename_i hne;simp at ho;subst ho;exact .ins l hne h hl
theorem fz (one:T→T→E) (a b:List T) (N:Nat):∀ (P:List Sc) (i j:Nat) (out:List OP),jn a.length b.length i j P→(∀ o,o ∈ out→aV one a b N o)→∀ o,o ∈ KY one a b P i j out→aV one a b N o
 |[],i,j,out,h,g=>by
  intro o ho;rw[KY] at ho;rcases List.mem_append.1 ho with ho | ho
  ·rcases List.mem_append.1 ho with ho | ho
   ·exact g o ho
   ·exact aU (fun t ht=>TK ht) (by simp) o ho
  ·exact bH (fun t ht=>TK ht) (by simp) o ho
 |x::P,i,j,out,h,g=>by
  obtain⟨k1,k2,k3,k4,k5⟩:=h;rw[KY];refine fz one a b N P _ _ _ k5 fun o ho=>?_;rcases List.mem_append.1 ho with ho | ho
  ·rcases List.mem_append.1 ho with ho | ho
   ·rcases List.mem_append.1 ho with ho | ho
    ·exact g o ho
    ·exact aU (fun t ht=>Oh (TK ht)) (by simp;omega) o ho
   ·exact bH (fun t ht=>Oh (TK ht)) (by simp;omega) o ho
  ·rw[List.mem_singleton] at ho;subst ho;have e1:a.getD x.i T0=a[x.i]:=by simp[k3]
   have e2:b.getD x.j T0=b[x.j]:=by simp[k4]
   rw[e1,e2];exact .desc _ _ (Bg k3) (Bg k4)
theorem fC (one:T→T→E) (a b:List T) (N:Nat):∀ o,o ∈ D8 one a b→aV one a b N o:=fz one a b N _ 0 0 [] (W7 a b) (by simp)
theorem MN {gap:List T→List T→List OP} {I:List T→List T→List OP→Prop} {S0:List Sp} (h0:∀ s,s ∈ S0→∀ a b out,I a b out→I (a.drop s.n) (b.drop s.n) (out++[.mk 0 s.n [] E0])) (h1:∀ n a b out,I a b out→I (a.drop n) b (out++De (a.take n))) (h2:∀ n a b out,I a b out→I a (b.drop n) (out++Dn (b.take n))) (h3:∀ n m a b out,I a b out→I (a.drop n) (b.drop m) (out++gap (a.take n) (b.take m))):∀ (S:List Sp) (a b:List T) (out:List OP),(∀ s,s ∈ S→s ∈ S0)→I a b out→∃ a' b',I a' b' (CX gap S a b out)
 |[],a,b,out,hS,h=>⟨a,b,by rw[CX];exact h⟩
 |[s],a,b,out,hS,h=>by
  have hs:=hS s (by simp);rw[CX];split
  ·exact⟨_,_,h0 s hs a b out h⟩
  ·split
   ·exact⟨_,_,h2 s.n a b out h⟩
   ·exact⟨_,_,h1 s.n a b out h⟩
 |s::s2::ss,a,b,out,hS,h=>by
  have hs:=hS s (by simp);have hS1:∀ x,x ∈ s2::ss→x ∈ S0:=fun x hx=>hS x (List.mem_cons_of_mem _ hx);have hS2:∀ x,x ∈ ss→x ∈ S0:=fun x hx=>hS1 x (List.mem_cons_of_mem _ hx);rw[CX];split
  ·exact MN h0 h1 h2 h3 (s2::ss) _ _ _ hS1 (h0 s hs a b out h)
  ·split
   ·exact MN h0 h1 h2 h3 (s2::ss) _ _ _ hS1 (h2 s.n a b out h)
   ·split
    ·exact MN h0 h1 h2 h3 ss _ _ _ hS2 (h3 s.n s2.n a b out h)
    ·exact MN h0 h1 h2 h3 (s2::ss) _ _ _ hS1 (h1 s.n a b out h)
theorem s6 {gap:List T→List T→List OP} (hg:∀ x y,DP (gap x y)≤x.length+y.length) (S:List Sp) (a b:List T):DP (CX gap S a b [])≤a.length+b.length:=by
 obtain⟨a',b',h⟩:=MN (gap:=gap) (S0:=S) (I:=fun a' b' out=>DP out+a'.length+b'.length≤a.length+b.length) (fun s hs a b out h=>by
  rw[Hq,show DP [OP.mk 0 (s.n:Nat) [] E0]=0 from rfl,List.length_drop,List.length_drop];omega) (fun n a b out h=>by
  rw[Hq,Un,List.length_drop,List.length_take];omega) (fun n a b out h=>by
  rw[Hq,Ub,List.length_drop,List.length_take];omega) (fun n m a b out h=>by
  have:=hg (a.take n) (b.take m);rw[List.length_take,List.length_take] at this;rw[Hq,List.length_drop,List.length_drop];omega) S a b [] (fun s hs=>hs) (by rw[show DP []=0 from rfl];omega)
 omega
theorem sw {one:T→T→E} {gap:List T→List T→List OP} {N:Nat} (hg:∀ x y,∀ o,o ∈ gap x y→aV one x y N o) (S:List Sp) (hS:∀ s,s ∈ S→s.n≤N) (a b:List T):∀ o,o ∈ CX gap S a b []→aV one a b N o:=by
 have app:∀ {out l:List OP},(∀ o,o ∈ out→aV one a b N o)→(∀ o,o ∈ l→aV one a b N o)→∀ o,o ∈ out++l→aV one a b N o:=fun h1 h2 o ho=>by
  rcases List.mem_append.1 ho with ho | ho
  ·exact h1 o ho
  ·exact h2 o ho
 have dr:∀ {x y:List T} (n:Nat),((∀ t,t ∈ x→t ∈ y)∧x.length≤y.length)→(∀ t,t ∈ x.drop n→t ∈ y)∧(x.drop n).length≤y.length:=fun n h=>⟨fun t ht=>h.1 t (TK ht),by rw[List.length_drop];omega⟩;have tk:∀ {x y:List T} (n:Nat),((∀ t,t ∈ x→t ∈ y)∧x.length≤y.length)→(∀ t,t ∈ x.take n→t ∈ y)∧(x.take n).length≤y.length:=fun n h=>⟨fun t ht=>h.1 t (Oh ht),by rw[List.length_take];omega⟩;obtain⟨a',b',_,_,h⟩:=MN (gap:=gap) (S0:=S) (I:=fun a' b' out=>((∀ t,t ∈ a'→t ∈ a)∧a'.length≤a.length)∧((∀ t,t ∈ b'→t ∈ b)∧b'.length≤b.length)∧∀ o,o ∈ out→aV one a b N o) (fun s hs x y out h=>⟨dr _ h.1,dr _ h.2.1,app h.2.2 fun o ho=>by
   simp at ho;subst ho;exact .keep s.n (hS s hs)⟩) (fun n x y out h=>⟨dr _ h.1,h.2.1,app h.2.2 (aU (tk n h.1).1 (tk n h.1).2)⟩) (fun n x y out h=>⟨h.1,dr _ h.2.1,app h.2.2 (bH (tk n h.2.1).1 (tk n h.2.1).2)⟩) (fun n m x y out h=>⟨dr _ h.1,dr _ h.2.1,app h.2.2 fun o ho=>sm (tk n h.1).1 (tk m h.2.1).1 (tk n h.1).2 (tk m h.2.1).2 (hg _ _ o ho)⟩) S a b [] (fun s hs=>hs) ⟨⟨fun t ht=>ht,BZ _⟩,⟨fun t ht=>ht,BZ _⟩,by simp⟩
 exact h
theorem O4 {gap:List T→List T→List OP} (hg:∀ x y,(gap x y).length≤50):∀ (S:List Sp) (a b:List T) (out:List OP),(CX gap S a b out).length≤out.length+50*S.length
 |[],a,b,out=>by rw[CX];omega
 |[s],a,b,out=>by
  have d1:(De (a.take s.n)).length≤1:=by unfold De;split<;>simp
  have d2:(Dn (b.take s.n)).length≤1:=by unfold Dn;split<;>simp
  rw[CX];split
  ·simp
  ·split<;>(rw[List.length_append];simp only[List.length_cons,List.length_nil];omega)
 |s::s2::ss,a,b,out=>by
  have d1:(De (a.take s.n)).length≤1:=by unfold De;split<;>simp
  have d2:(Dn (b.take s.n)).length≤1:=by unfold Dn;split<;>simp
  rw[CX];split
  ·have:=O4 hg (s2::ss) (a.drop s.n) (b.drop s.n) (out++[.mk 0 s.n [] E0]);simp only[List.length_append,List.length_cons,List.length_nil] at this ⊢;omega
  ·split
   ·have:=O4 hg (s2::ss) a (b.drop s.n) (out++Dn (b.take s.n));simp only[List.length_append,List.length_cons,List.length_nil] at this ⊢;omega
   ·split
    ·have:=O4 hg ss (a.drop s.n) (b.drop s2.n) (out++gap (a.take s.n) (b.take s2.n));have:=hg (a.take s.n) (b.take s2.n);simp only[List.length_append,List.length_cons,List.length_nil] at this ⊢;simp only[List.length_append] at *;omega
    ·have:=O4 hg (s2::ss) (a.drop s.n) b (out++De (a.take s.n));simp only[List.length_append,List.length_cons,List.length_nil] at this ⊢;omega
noncomputable def eQ (one:T→T→E) (most:Int) (a b:T):List OP:=if (B7 (Mo a) (Mp a b):Int)≤most then CX (D8 one) (Il (GG (Mo a) (Mp a b))) a.kids b.kids [] else D8 one a.kids b.kids
theorem eF (one:T→T→E) (most:Int) (a b:T):JG one most a b = .mk 3 T0 T0 [] [] a.kind (eQ one most a b):=rfl
theorem cG (a:T):(Mo a).length=a.kids.length:=by simp[Mo,qE,BA]
theorem bf (a b:T):(Mp a b).length=b.kids.length:=by simp[Mp,qE,BA]
theorem UT:∀ {l:List Sp} {s:Sp},s ∈ l→s.k ≠ 2→s.n≤dA (AO l)
 |x::l,s,h,hk=>by
  rw[Az,DD,Eg];rcases List.mem_cons.1 h with rfl | h
  ·rw[if_neg hk];omega
  ·have:=UT h hk;omega
theorem Tp:∀ {l:List Sp} {s:Sp},s ∈ l→s.k ≠ 1→s.n≤dB (AO l)
 |x::l,s,h,hk=>by
  rw[Az,DF,D7];rcases List.mem_cons.1 h with rfl | h
  ·rw[if_neg hk];omega
  ·have:=Tp h hk;omega
theorem Afz (a b:T) {s:Sp} (h:s ∈ Il (GG (Mo a) (Mp a b))):s.n≤a.kids.length+b.kids.length:=by
 have wd:=WL (Mo a) (Mp a b);have wi:=Sq (Mo a) (Mp a b);have wn:=Q7 _ wi;rw[cG,bf] at wd;by_cases hk:s.k=2
 ·have:=Tp h (by omega);omega
 ·have:=UT h hk;omega
theorem gM (one:T→T→E) (most:Int) (a b:T):∀ o,o ∈ eQ one most a b→aV one a.kids b.kids (a.kids.length+b.kids.length) o:=by
 unfold eQ;split
 ·exact sw (fun x y=>fC one x y _) _ (fun s hs=>Afz a b hs) _ _
 ·exact fC one _ _ _
theorem s9 (one:T→T→E) (most:Int) (a b:T):DP (eQ one most a b)≤a.kids.length+b.kids.length:=by
 unfold eQ;split
 ·exact s6 (fun x y=>gV one x y) _ _ _
 ·exact gV one _ _
theorem fS (one:T→T→E) (most:Int) (a b:T):(eQ one most a b).length≤50*(a.kids.length+b.kids.length)+50:=by
 unfold eQ;split
 ·have wd:=WL (Mo a) (Mp a b);have wi:=Sq (Mo a) (Mp a b);have wn:=Q7 _ wi;have:=Ih _ (O9 wi);have h:=O4 (OE one) (Il (GG (Mo a) (Mp a b))) a.kids b.kids [];rw[cG,bf] at wd;simp only[List.length_nil] at h;omega
 ·have:=OE one a.kids b.kids;omega
theorem lF:∀ {l:List KE},(∀ x,x ∈ l→VG x.e)→iI l
 |[],_=>by rw[iI];trivial
 |.mk a e::l,h=>by
  rw[iI];exact⟨h _ (List.mem_cons_self ..),lF fun x hx=>h x (List.mem_cons_of_mem _ hx)⟩
theorem lH:∀ {l:List OP},(∀ x,x ∈ l→(x.kind=0∨x.kind=1∨x.kind=2∨x.kind=3)∧(∀ t,t ∈ x.l→BH t)∧(x.kind=3→VG x.e))→j7 l
 |[],_=>by rw[j7];trivial
 |.mk k n t e::l,h=>by
  rw[j7];exact⟨h _ (List.mem_cons_self ..),lH fun x hx=>h x (List.mem_cons_of_mem _ hx)⟩
theorem rE:VG E0:=by
 unfold E0;rw[VG];exact⟨.inl rfl,fun _=>rfl,fun h=>absurd h (by decide),by simp,by simp,by simp,by simp[DP],fun h=>absurd h (by decide),fun h=>absurd h (by decide)⟩
theorem ml {a b:T} (ha:BH a) (hb:BH b):VG (.mk 1 a b [] [] 0 []):=by
 rw[VG];exact⟨.inr (.inl rfl),fun _=>rfl,fun _=>⟨ha,hb⟩,by simp,by simp,by simp,by simp[DP],fun h=>absurd h (by decide),fun h=>absurd h (by decide)⟩
theorem WC {one:T→T→E} {a b:T} {m:Nat} {x:KE} (h:x ∈ BW one a b m):∃ i:Nat,i<m∧x = .mk i (one (a.kids.getD i T0) (b.kids.getD i T0))∧(one (a.kids.getD i T0) (b.kids.getD i T0)).kind ≠ 0:=by
 unfold BW at h;rw[List.mem_filterMap] at h;obtain⟨i,hi,e⟩:=h;split at e
 ·cases e
 ·rename_i hk;simp only[Option.some.injEq] at e;exact⟨i,by simpa using hi,e.symm,hk⟩
theorem wZ {one:T→T→E} {a b:T} (ha:a.words.length≤1000) (hb:b.words.length≤1000) (ha2:a.kids.length≤1000) (hb2:b.kids.length≤1000) (h:∀ i,VG (one (a.kids.getD i T0) (b.kids.getD i T0))):VG (UG one a b):=by
 have h1:=Mq a b (max a.words.length b.words.length);have h2:=It one a b (max a.kids.length b.kids.length);unfold UG;rw[VG];refine⟨.inr (.inr (.inl rfl)),fun _=>rfl,fun h=>absurd h (by decide),by omega,by omega,by simp,by simp[DP],fun _=>lF fun x hx=>?_,fun h=>absurd h (by decide)⟩;obtain⟨i,_,e,_⟩:=WC hx;subst e;exact h i
theorem rH {one:T→T→E} {most:Int} {a b:T} (ha:a.kids.length≤1000) (hb:b.kids.length≤1000) (wa:∀ t,t ∈ a.kids→BH t) (wb:∀ t,t ∈ b.kids→BH t) (h:∀ x,x ∈ a.kids→∀ y,y ∈ b.kids→VG (one x y)):VG (JG one most a b):=by
 have h1:=fS one most a b;have h2:=s9 one most a b;rw[eF,VG];refine⟨.inr (.inr (.inr rfl)),fun h=>absurd rfl h,fun h=>absurd h (by decide),by simp,by simp,by omega,by omega,fun h=>absurd h (by decide),fun _=>lH fun x hx=>?_⟩;cases gM one most a b x hx with
 |keep n h=>exact⟨.inl rfl,fun t (ht:t ∈ ([]:List T))=>by simp at ht,fun h=>absurd h (by show ¬ (0:Int)=3;decide)⟩
 |del l h g k=>exact⟨.inr (.inl rfl),fun t ht=>wa t (g t ht),fun h=>absurd h (by show ¬ (1:Int)=3;decide)⟩
 |ins l h g k=>exact⟨.inr (.inr (.inl rfl)),fun t ht=>wb t (g t ht),fun h=>absurd h (by show ¬ (2:Int)=3;decide)⟩
 |desc p q hp hq=>exact⟨.inr (.inr (.inr rfl)),fun t (ht:t ∈ ([]:List T))=>by simp at ht,fun _=>h p hp q hq⟩
theorem Tj (most:Int):∀ (f g:Nat) (a b:T),Wr f a→Wr g b→VG (MR most f a b)
 |0,g,a,b,ha,hb=>by
  rw[MR];split
  ·exact rE
  ·exact ml (Bn ha).1 (Bn hb).1
 |f+1,g,a,b,ha,hb=>by
  obtain⟨a1,a2,a3,a4⟩:=Bn ha;obtain⟨b1,b2,b3,b4⟩:=Bn hb;rw[MR];split
  ·exact rE
  ·split
   ·exact wZ a3 b3 a4 b4 fun i=>Tj most f (g-1) _ _ (L9 ha i) (L9 hb i)
   ·split
    ·exact rH a4 b4 (fun t ht=>(Bn (CW ha t ht)).1) (fun t ht=>(Bn (CW hb t ht)).1) fun x hx y hy=>Tj most f (g-1) x y (CW ha x hx) (CW hb y hy)
    ·exact ml a1 b1
theorem iy {l:List T} {t:T} (h:t ∈ l):Gu t≤Jp l:=by
 induction l with
 |nil=>simp at h
 |cons x l ih=>
  rw[dC];have hp:=Yc x;have hl:=XP l;rcases List.mem_cons.1 h with rfl | h
  ·omega
  ·have:=ih h;omega
theorem F5:∀ (t:T),BH t→Gu t≤1000→∀ f:Nat,Gu t≤f→Wr f (Ah t):=by
 refine T.ind fun k w l ih hw hp f hf=>?_;rw[pf] at hp hf;have hl:=XP l;have hks:=(wfT_iff.1 hw).ks;cases f with
 |zero=>omega
 |succ f=>
  have hk:∀ t,t ∈ l→Wr f (Ah t):=fun t ht=>by
   have:=iy ht;exact ih t ht (hks t ht) (by omega) f (by omega)
  rw[Wr];refine .inr ⟨GU _ hw,Ka _,?_,?_,?_⟩
  ·rw[BS];split
   ·simp
   ·split
    ·have:=KL w;show(Cf w).length≤1000;omega
    ·show w.length≤1000;omega
  ·rw[BS];split
   ·simp
   ·split
    ·have:=Ji (l.map Ah);rw[List.length_map] at this;show(BO (l.map Ah)).length≤1000;omega
    ·show(l.map Ah).length≤1000;rw[List.length_map];omega
  ·intro x hx;have hx':x ∈ l.map Ah:=by
    rw[BS] at hx;split at hx
    ·simp at hx
    ·split at hx
     ·have hx2:x ∈ BO (l.map Ah):=hx;rw[NQ] at hx2;exact Oh hx2
     ·exact hx
   obtain⟨t,ht,rfl⟩:=List.mem_map.1 hx';exact hk t ht
structure yP (o:OP):Prop where
 k:o.kind=0∨o.kind=1∨o.kind=2∨o.kind=3
 l:∀ t,t ∈ o.l→BH t
 e:o.kind=3→G.Spec Tryz.prog 52 [eX o.e] (eX (RO o.e))
variable {n0:Nat} {w0:World} {I0:Nat→Prop} {Q:Exit→Sta→Prop}
theorem jq {i0:List RI} {x:RI} {n:Int} (h:x.op.kind ≠ 0):(i0++[x,RI.keep n]).map RI.op=br ((i0++[x]).map RI.op) n:=by
 have:=fm (i0.map RI.op) x.op n h;simp only[List.map_append,List.map_cons,List.map_nil];rw[this];simp[RI.op]
theorem ba {list:Int} {os:List OP} {J:List RI} {u w p:Nat} {H:Hp} {x:RI} (hx:(∃ n,x=RI.keep n)∨∃ e,x=RI.desc e) (hJ:J.length≤1000000) (h0:H [0]=⟨u,.arr 14 (J.map Nd)⟩) (h2:H [2]=⟨w,.cells (Ra x)⟩)
  (hgo:∀ (J2:List RI) (u2:Nat) (H2:Hp),H2 [0]=⟨u2,.arr 14 (J2.map Nd)⟩→J2.length≤J.length+1→J2.map RI.op=(if x.op.kind=0 then br (J.map RI.op) x.op.n else J.map RI.op++[x.op])→Q .normal ⟨lk [(0,iv list),(1,MV os),(5,.osl [0] u2 14 0 J2.length),(6,iv p)],H2⟩) :
  WPC (cx Tryz.prog w0 I0 n0) Hs Q ⟨lk [(0,iv list),(1,MV os),(5,.osl [0] u 14 0 J.length),(6,iv p),(11,.pob [2] w 0)],H⟩:=by
 rw[Hs.eq_1];rcases hx with ⟨n,rfl⟩ | ⟨e,rfl⟩
 ·rcases xj J with ⟨i0,m,rfl⟩ | rfl | ⟨i0,x,rfl,hx⟩
  ·simp at hJ;have e1:i64.wrap (i0.length:Int)=i0.length:=BJ;simp[Ra,h0,h2,e1,lj,Nd];refine⟨by omega,rfl,?_⟩;have:=hgo (i0++[RI.keep (i64.wrap (m+n))]) u (Ay H [0] ⟨u,.arr 14 ((i0++[RI.keep (i64.wrap (m+n))]).map Nd)⟩) (by simp[Aa]) (by simp) (by simp[RI.op,dh]);simpa[Nd,Ra,A.remake] using this
  ·simp[Ra,h0,h2,BB];have:=hgo [RI.keep n] (u+1) (Ay H [0] ⟨u+1,.arr 14 ([RI.keep n].map Nd)⟩) (by simp[Aa]) (by simp) (by simp[RI.op,lL]);simpa[Nd,Ra,BB] using this
  ·simp at hJ;have e1:i64.wrap (i0.length:Int)=i0.length:=BJ;cases x with
   |keep m=>exact absurd rfl hx
   |del l=>
    simp[Ra,h0,h2,e1,lj,Nd,BB];refine⟨by omega,by omega,?_⟩;have:=hgo (i0++[RI.del l,RI.keep n]) (u+1) (Ay H [0] ⟨u+1,.arr 14 ((i0++[RI.del l,RI.keep n]).map Nd)⟩) (by simp[Aa]) (by simp) (by
     rw[if_pos (show(RI.keep n).op.kind=0 from rfl)];exact jq hx)
    simpa[Nd,Ra,BB,SD] using this
   |ins l=>
    simp[Ra,h0,h2,e1,lj,Nd,BB];refine⟨by omega,by omega,?_⟩;have:=hgo (i0++[RI.ins l,RI.keep n]) (u+1) (Ay H [0] ⟨u+1,.arr 14 ((i0++[RI.ins l,RI.keep n]).map Nd)⟩) (by simp[Aa]) (by simp) (by
     rw[if_pos (show(RI.keep n).op.kind=0 from rfl)];exact jq hx)
    simpa[Nd,Ra,BB,SD] using this
   |desc e=>
    simp[Ra,h0,h2,e1,lj,Nd,BB];refine⟨by omega,by omega,?_⟩;have:=hgo (i0++[RI.desc e,RI.keep n]) (u+1) (Ay H [0] ⟨u+1,.arr 14 ((i0++[RI.desc e,RI.keep n]).map Nd)⟩) (by simp[Aa]) (by simp) (by
     rw[if_pos (show(RI.keep n).op.kind=0 from rfl)];exact jq hx)
    simpa[Nd,Ra,BB,SD] using this
 ·simp[Ra,h0,h2];refine⟨by omega,?_⟩;have:=hgo (J++[RI.desc e]) (u+1) (Ay H [0] ⟨u+1,.arr 14 ((J++[RI.desc e]).map Nd)⟩) (by simp[Aa]) (by simp) (by simp[RI.op]);simpa[Nd,Ra,Wg] using this
def uO (list:Int) (o:OP) (l:List OP):List OP:=if o.kind=3 then (if I9 list (RO o.e)=true then br l 1 else l++[.mk 3 0 [] (RO o.e)]) else br l o.n
theorem wE {list:Int} {os:List OP} (hol:os.length≤300000) {J:List RI} {u p:Nat} {H:Hp} (hJ:J.length≤1000000) (hp:p≤os.length) (h0:H [0]=⟨u,.arr 14 (J.map Nd)⟩) (hO:∀ h:p<os.length,(os[p].kind=0∨os[p].kind=3)∧(os[p].kind=3→G.Spec Tryz.prog 52 [eX os[p].e] (eX (RO os[p].e))))
  (hret:p=os.length→∀ H2:Hp,H2 [0]=H [0]→Q .ret ⟨lk [(4,.osl [0] u 14 0 J.length)],H2⟩)
  (hgo:∀ (h:p<os.length) (J2:List RI) (u2:Nat) (H2:Hp),H2 [0]=⟨u2,.arr 14 (J2.map Nd)⟩→J2.length≤J.length+1→J2.map RI.op=uO list os[p] (J.map RI.op)→Q .normal ⟨lk [(0,iv list),(1,MV os),(5,.osl [0] u2 14 0 J2.length),(6,iv p)],H2⟩) :
  WPC (cx Tryz.prog w0 I0 n0) Fu Q ⟨lk [(0,iv list),(1,MV os),(5,.osl [0] u 14 0 J.length),(8,iv p)],H⟩:=by
 rw[Fu.eq_1];by_cases h:p<os.length
 ·obtain⟨hk,hE⟩:=hO h;have hg:=hgo h;unfold uO at hg;generalize ho:os[p]=o at *;have hle:¬ os.length≤p:=by omega
  rcases hk with hk | hk
  ·simp[h,hle,ho,hk];refine ba (x:=RI.keep o.n) (.inl ⟨_,rfl⟩) hJ (by simp[Aa,h0]) (by simp[Aa,Ra,BB]) fun J2 u2 H2 a1 a2 a3=>hg J2 u2 H2 a1 a2 ?_;rw[a3,if_pos (show(RI.keep o.n).op.kind=0 from rfl),if_neg (by omega)];rfl
  ·have hI:=cX list (RO o.e);simp[h,hle,ho,hk];refine Ae (hE hk) (by simp) ?_;simp[Aa];refine Ae hI (by simp) ?_;cases hid:I9 list (RO o.e) with
   |true=>
    simp[Aa];refine ba (x:=RI.keep 1) (.inl ⟨_,rfl⟩) hJ (by simp[Aa,h0]) (by simp[Aa,Ra,BB]) fun J2 u2 H2 a1 a2 a3=>hg J2 u2 H2 a1 a2 ?_;rw[a3,if_pos (show(RI.keep 1).op.kind=0 from rfl),if_pos hk,if_pos hid];rfl
   |false=>
    simp[Aa];refine ba (x:=RI.desc (RO o.e)) (.inr ⟨_,rfl⟩) hJ (by simp[Aa,h0]) (by simp[Aa,Ra,BB]) fun J2 u2 H2 a1 a2 a3=>hg J2 u2 H2 a1 a2 ?_;rw[a3,if_neg (show ¬ (RI.desc (RO o.e)).op.kind=0 by simp[RI.op]),if_pos hk,if_neg (by rw[hid];decide)];rfl
 ·have:p=os.length:=by omega
  simp[this];exact hret this H rfl
theorem xi {list:Int} {os:List OP} (hos:∀ o,o ∈ os→yP o) (hol:os.length≤300000) (hsum:DP os≤1000000) {res:List OP}
  (hq:∀ (H:Hp) (its:List RI) (u:Nat) st,H [0]=⟨u,.arr 14 (its.map Nd)⟩→its.map RI.op=res→Q (.exit 0) ⟨lk ([(0,iv list),(1,MV os),(5,.osl [0] u 14 0 its.length)]++st),H⟩)
  (hq2:∀ (H:Hp) (its:List RI) (u:Nat),H [0]=⟨u,.arr 14 (its.map Nd)⟩→its.map RI.op=res→Q .ret ⟨lk [(4,.osl [0] u 14 0 its.length)],H⟩):∀ (m i u:Nat) (its:List RI) (H:Hp),os.length≤i+m→i≤os.length→its.length≤3*i→H [0]=⟨u,.arr 14 (its.map Nd)⟩→GK list ((os.drop i).map VE) (its.map RI.op) [] []=res →
  LoopC (cx Tryz.prog w0 I0 n0) Cw Q ⟨lk [(0,iv list),(1,MV os),(5,.osl [0] u 14 0 its.length),(6,iv i)],H⟩:=by
 intro m;induction m with
 |zero=>
  intro i u its H hm hile hil hH hres;have:i=os.length:=by omega
  subst this;rw[List.drop_length,List.map_nil,GK] at hres;refine Ab Ai Cw.eq_1 ?_;simp;exact hq H its u [(6,iv os.length),(16,bv false)] hH (by rw[← hres];simp[YB,De,Dn])
 |succ m ih=>
  intro i u its H hm hile hil hH hres;by_cases hi:i<os.length;rotate_left
  ·have:i=os.length:=by omega
   subst this;rw[List.drop_length,List.map_nil,GK] at hres;refine Ab Ai Cw.eq_1 ?_;simp;exact hq H its u [(6,iv os.length),(16,bv false)] hH (by rw[← hres];simp[YB,De,Dn])
  have g1:=ff (os:=os) (k:=1) (.inl rfl) (fun o ho=>(hos o ho).l) (by omega) hsum (i:=i) (by omega);have g2:=ff (os:=os) (k:=2) (.inr rfl) (fun o ho=>(hos o ho).l) (by omega) hsum (i:=i) (by omega);have hgn:=mn (os.drop i);simp at hgn;rw[XA,List.drop_drop,List.nil_append,List.nil_append] at hres;have hnx:∀ h:i+Kj (os.drop i)<os.length,os[i+Kj (os.drop i)].kind ≠ 1∧os[i+Kj (os.drop i)].kind ≠ 2:=fun h=>by
   have:=Y0 (os.drop i) (by simp;omega);simpa using this
  refine Ab Ai Cw.eq_1 ?_;simp[hi];refine Ae g1 (by simp) ?_;simp;refine Ae g2 (by simp) ?_;generalize OJ 1 (os.drop i)=g at *;generalize OJ 2 (os.drop i)=b at *;generalize Kj (os.drop i)=n at *;have hgl:True:=trivial;have ew:i64.wrap ((i:Int)+n+1)=(i:Int)+n+1:=BJ
  -- behind what is deleted,and inserted
  have fin:∀ (u2:Nat) (H2:Hp),H2 [0]=⟨u2,.arr 14 ((its++(QV g++RC b)).map Nd)⟩→WPC (cx Tryz.prog w0 I0 n0) Fu (BD 1 (D4 (WPC (cx Tryz.prog w0 I0 n0) (CC.keep [0,1,5,6] (CC.reg [co (some 17) (Op.move (Operand.tmp 6)) none,co (some 18) (Op.binOp BinOp.add 3 (Operand.tmp 17) (Operand.const (Value.int i64 1)) 3) none,co (some 6) (Op.assign (Operand.tmp 18)) none] [0,1,5,6])) (D4 (LoopC (cx Tryz.prog w0 I0 n0) Cw Q) Q)) (D4 (LoopC (cx Tryz.prog w0 I0 n0) Cw Q) Q))) ⟨lk [(0,iv list),(1,MV os),(5,.osl [0] u2 14 0 (its++(QV g++RC b)).length),(8,iv (i+n:Nat))],H2⟩:=fun u2 H2 h2=>by
   have hJl:(its++(QV g++RC b)).length≤its.length+2:=by
    by_cases h1:g=[]<;>by_cases h2:b=[]<;>simp[QV,RC,h1,h2]
   have hm2:=AaM its g b;generalize its++(QV g++RC b)=J at *;refine wE hol (by omega) (by omega) h2 (fun h=>?_) (fun he H3 h3=>?_) (fun h J2 u3 H3 h3 hl3 ho3=>?_)
   ·have hO:=hos _ (Bg h);obtain⟨x1,x2⟩:=hnx h;refine⟨?_,fun hk=>hO.e hk⟩;have:=hO.k;omega
   ·simp;rw[he,List.drop_length,List.map_nil,GK,← hm2] at hres;exact hq2 H3 J u2 (by rw[h3,h2]) hres
   ·simp[ew];have hdr:os.drop (i+n)=os[i+n]::os.drop (i+n+1):=(List.getElem_cons_drop h).symm;have hnx':=hnx h;have hO:=(hos _ (Bg h)).k;rw[hdr,List.map_cons,GK,← hm2] at hres;have:=ih (i+n+1) u3 J2 H3 (by omega) (by omega) (by omega) h3 (by
     rw[ho3,← hres];unfold uO;have hk:(VE os[i+n]).kind=os[i+n].kind:=rfl;have he:(VE os[i+n]).e=RO os[i+n].e:=rfl;have hn:(VE os[i+n]).n=os[i+n].n:=rfl;rw[hk,he,hn];by_cases h30:os[i+n].kind=0
     ·rw[if_neg (by omega),if_pos h30]
     ·rw[if_pos (by omega),if_neg h30,if_neg hnx'.1,if_neg hnx'.2];split<;>rfl)
    simpa using this
  by_cases hg:g=[]
  ·simp[hg];rw[HJ.eq_1];by_cases hb:b=[]
   ·simp[hb];have:=fin u H (by simp[hg,hb,QV,RC,hH]);simpa[hg,hb,QV,RC] using this
   ·have hbl:0<b.length:=List.length_pos_iff.2 hb;simp[hb,hbl,hH];refine⟨by omega,?_⟩;have:=fin (u+1) (Ay H [0] ⟨u+1,.arr 14 ((its++[RI.ins b]).map Nd)⟩) (by simp[Aa,hg,hb,QV,RC]);simpa[hg,hb,QV,RC,Nd,Ra,BB,Wg] using this
  ·have hgl:0<g.length:=List.length_pos_iff.2 hg;simp[hg,hgl,hH];refine⟨by omega,?_⟩;rw[HJ.eq_1];by_cases hb:b=[]
   ·simp[hb];have:=fin (u+1) (Ay H [0] ⟨u+1,.arr 14 ((its++[RI.del g]).map Nd)⟩) (by simp[Aa,hg,hb,QV,RC]);simpa[hg,hb,QV,RC,Nd,Ra,BB,Wg] using this
   ·have hbl:0<b.length:=List.length_pos_iff.2 hb;simp[hb,hbl];refine⟨by omega,?_⟩;have:=fin (u+1+1) (Ay H [0] ⟨u+1+1,.arr 14 ((its++[RI.del g,RI.ins b]).map Nd)⟩) (by simp[Aa,hg,hb,QV,RC]);have ht:=SD its (Nd (RI.del g));simp[Nd,Ra,BB] at ht;simpa[hg,hb,QV,RC,Nd,Ra,BB,Wg,ht] using this
theorem pe {list:Int} {os:List OP} (hos:∀ o,o ∈ os→yP o) (hol:os.length≤300000) (hsum:DP os≤1000000):G.Spec Tryz.prog 100 [iv list,MV os] (MV (GK list (os.map VE) [] [] [])):=by
 refine Aj TW (by simp) fun w0 I0=>?_;unfold MC;simp;refine LoopC.le (Cd 5 [0] 14 (by simp)) ?_;refine LoopC.le (Ao [(0,iv list),(1,MV os),(5,.osl [0] 1 14 0 ([]:List RI).length),(6,iv (0:Nat))] (by simp)) ?_;refine xi hos hol hsum (res:=GK list (os.map VE) [] [] []) (fun H its u st h he=>?_) (fun H its u h he=>?_) os.length 0 1 [] _ (by omega) (by omega) (by simp) (by simp[Aa]) (by simp)
 ·simp;rw[← he];exact lR h rfl
 ·simp;rw[← he];exact lR h rfl
theorem uK {e:E} (hl:e.kids.length≤1000000) (hk:∀ x,x ∈ e.kids→G.Spec Tryz.prog 52 [eX x.e] (eX (RO x.e))) {v1 v3:VOb} {W:A}
  (hq:∀ H u st,H [1]=v1→H [3]=v3→H [2]=⟨1,.cells [iv 2,iv 0,.sl true [],.sl true [],iv 0,.sl true [],.sl true [],W,.osl [4] u 12 0 e.kids.length,iv 0,.sl true []]⟩→H [4]=⟨u,.arr 12 (e.kids.map (kA ∘ aZ))⟩→Q (.exit 1) ⟨lk ([(1,.pob [0] 1 0),(2,.pob [1] 1 0),(3,.pob [2] 1 0)]++st),H⟩):∀ (m i u:Nat) (H:Hp),i+m=e.kids.length→H [0]=⟨1,.cells (eL e)⟩→H [1]=v1→H [3]=v3→H [2]=⟨1,.cells [iv 2,iv 0,.sl true [],.sl true [],iv 0,.sl true [],.sl true [],W,.osl [4] u 12 0 i,iv 0,.sl true []]⟩→H [4]=⟨u,.arr 12 ((e.kids.take i).map (kA ∘ aZ))⟩ →
  LoopC (cx Tryz.prog w0 I0 n0) ET Q ⟨lk [(1,.pob [0] 1 0),(2,.pob [1] 1 0),(3,.pob [2] 1 0),(4,iv i)],H⟩:=by
 intro m;induction m with
 |zero=>
  intro i u H hm h0 h1 h3 h2 h4;refine Ab Ai ET.eq_1 ?_;have:i=e.kids.length:=by omega
  subst this;rw[AL (BZ _)] at h4;simp[h0];exact hq H u [(4,iv e.kids.length),(29,bv false)] h1 h3 h2 h4
 |succ m ih=>
  intro i u H hm h0 h1 h3 h2 h4;have hi:i<e.kids.length:=by omega
  have ew:=Av i;have hE:=hk _ (Bg hi);have htk:(e.kids.take (i+1)).map (kA ∘ aZ)=(e.kids.take i).map (kA ∘ aZ)++[kA (aZ e.kids[i])]:=by rw[Fm hi,List.map_append];rfl
  have next:=ih (i+1) (u+1)
  rw[htk] at next
  generalize hx:e.kids[i]=x at *;refine Ab Ai ET.eq_1 ?_;simp[hi,hx,Aa,h0,h2];refine Ae hE (by simp[Aa]) ?_;simp[Aa,h2,h4,ew,h0,hi,hx];refine⟨⟨by omega,by omega⟩,?_⟩;refine next _ (by omega) (by simp[Aa,h0]) (by simp[Aa,h1]) (by simp[Aa,h3]) (by simp[Aa]) ?_
  simp[Aa,List.take_take,aZ]
theorem aK:∀ e:E,VG e→G.Spec Tryz.prog 52 [eX e] (eX (RO e)):=by
 refine E.ind fun k o n ws ks l os ihk iho h=>?_;rw[VG] at h;obtain⟨hk,hl,hon,hwl,hkl,hol,hsum,hks,hos⟩:=h;refine Aj S6 (by simp) fun w0 I0=>?_;unfold Lu;rw[Yr];rcases hk with rfl | rfl | rfl | rfl
 ·simp;exact Cn ⟨Ad rfl,Ad rfl,Ak,Ak,Ad rfl,Ak,Ak,Ak,Ak,Ad rfl,Ak,trivial⟩
 ·obtain⟨ho,hn⟩:=hon rfl;simp;refine Ae (EN o ho) (by simp) ?_;simp[Aa];refine Ae (EN n hn) (by simp) ?_;simp[Aa];exact Cn ⟨Ad rfl,CE (CB o).symm,Ad rfl,Ad rfl,CE (CB n).symm,Ad rfl,Ad rfl,Ak,Ak,Ad rfl,Ak,trivial⟩
 ·simp;refine⟨by omega,?_⟩;refine LoopC.le (Bu (d:=[2]) (u:=1) (cs:=[iv 2,iv 0,.sl true [],.sl true [],iv 0,.sl true [],.sl true [],.osl [3] 1 4 0 ws.length,.sl true [],iv 0,.sl true []]) 8 [4] 12 rfl rfl (by simp)) ?_;refine LoopC.le (Ao [(1,.pob [0] 1 0),(2,.pob [1] 1 0),(3,.pob [2] 1 0),(4,iv (0:Nat))] (by simp)) ?_;refine uK (e:=.mk 2 o n ws ks l os) hkl (fun x hx=>ihk x hx (SI (hks rfl) x hx)) (W:=.osl [3] 1 4 0 ws.length) (fun H u st h1 h3 h2 h5=>?_) ks.length 0 1 _ (by simp) (by simp[Aa]) rfl rfl (by simp[Aa]) (by simp[Aa]);have h3':H [3]=⟨1,.arr 4 (ws.map wA)⟩:=by rw[h3];simp[Aa]
  simp only[E.kids_mk] at h2 h5;simp[h2,h1,Aa];have fw:=Bx (H:=Ay H [1] ⟨1,.cells [iv 2,iv 0,.sl true [],.sl true [],iv 0,.sl true [],.sl true [],.osl [3] 1 4 0 ws.length,.osl [4] u 12 0 ks.length,iv 0,.sl true []]⟩) (o:=[3]) (u:=1) (sz:=4) (l:=ws) (f:=wA) (n:=ws.length) (by simp[Aa,h3']) rfl (fun x=>rfl);have fk:=Bx (H:=Ay H [1] ⟨1,.cells [iv 2,iv 0,.sl true [],.sl true [],iv 0,.sl true [],.sl true [],.osl [3] 1 4 0 ws.length,.osl [4] u 12 0 ks.length,iv 0,.sl true []]⟩) (o:=[4]) (u:=u) (sz:=12) (l:=ks) (f:=kA ∘ aZ) (n:=ks.length) (by simp[Aa,h5]) rfl (fun x=>by simp);rw[← List.map_map] at fk;exact Cn ⟨Ad rfl,Ad rfl,Ak,Ak,Ad rfl,Ak,Ak,fw,fk,Ad rfl,Ak,trivial⟩
 ·have hO:=pe (list:=l) (os:=os) (fun x hx=>by
   obtain⟨a,b,c⟩:=Tq (hos rfl) x hx;exact⟨a,b,fun h=>iho x hx (c h)⟩) hol hsum
  simp;refine Ae hO (by simp[Aa]) ?_;simp[Aa];exact Cn ⟨Ad rfl,Ad rfl,Ak,Ak,Ad rfl,Ak,Ak,Ak,Ak,Ad rfl,Ad rfl,trivial⟩
theorem T4 {most:Int} (hm:B9 most):∀ (f g:Nat) (a b:T),Wr f a→Wr g b→G.Spec Tryz.prog 53 [tX a,tX b,iv most] (eX (MR most f a b))
 |0,g,a,b,ha,hb=>by
  obtain⟨a1,a2,a3,a4⟩:=Bn ha;obtain⟨b1,b2,b3,b4⟩:=Bn hb;have hk:a.kind=0:=by cases ha;rfl
  have:=ZM a1 b1 (X:=E0) (Y:=E0) (most:=most) (fun h=>by omega) (fun _ h=>by omega);rw[if_neg (show ¬ (a.kind=1∧b.kind=1) by omega),if_neg (show ¬ (a.kind=b.kind∧2≤a.kind∧a.kind≤9) by omega)] at this;exact this
 |f+1,g,a,b,ha,hb=>by
  obtain⟨a1,a2,a3,a4⟩:=Bn ha;obtain⟨b1,b2,b3,b4⟩:=Bn hb;refine ZM a1 b1 (fun h1 h2=>?_) (fun h1 h2 h3=>?_)
  ·exact VX a1 b1 (by omega) (by omega) (by omega) (by omega) fun i=>T4 hm f (g-1) _ _ (L9 ha i) (L9 hb i)
  ·exact au a1 b1 a4 b4 hm fun x hx y hy=>T4 hm f (g-1) _ _ (CW ha x hx) (CW hb y hy)
noncomputable def uW (most:Int) (a b:T):E:=RO (MR most 1000 (Ah a) (Ah b))
theorem db {a b:T} (ha:BH a) (hb:BH b) (pa:Gu a≤1000) (pb:Gu b≤1000) {most:Int} (hm:B9 most):G.Spec Tryz.prog 25 [tX a,tX b,iv most] (eX (uW most a b)):=by
 have oa:=F5 a ha pa 1000 pa;have ob:=F5 b hb pb 1000 pb;have h1:=T4 hm 1000 1000 _ _ oa ob;have h2:=aK _ (Tj most 1000 1000 _ _ oa ob);refine Aj Re (by simp) fun w0 I0=>?_;unfold Ke;simp;refine Ae (EN a ha) (by simp) ?_;simp;refine Ae (EN b hb) (by simp) ?_;simp;refine Ae h1 (by simp) ?_;simp;refine Ae h2 (by simp) ?_;simp;exact Ad (by simp)
def Na (u:Nat) (most:Int):Fam:=⟨fun _ p=>if p=[] then ⟨u,.cells [iv most,iv 0]⟩ else ⟨0,.none⟩,fun {g δ r r'} hg hd p=>by
  by_cases hp:p=[]
  ·rw[if_pos hp];exact Fam.cells_ren (by simp[A.renL,A.ren])
  ·rw[if_neg hp];rfl,fun {D r} hD p=>by
  by_cases hp:p=[]
  ·rw[if_pos hp];simp[Ob.refs,A.refsL,A.refs]
  ·rw[if_neg hp];trivial⟩
@[simp] theorem AiS {u:Nat} {most:Int} {r:Nat} {p:Nm}:(Na u most).F r p=if p=[] then ⟨u,.cells [iv most,iv 0]⟩ else ⟨0,.none⟩:=rfl
theorem CJ (l:List (List Int)) (r:Rf):EU (fun _=>Hi l r):=Xx l r
theorem pH (t:T):EU (fun _=>tX t):=Ez (cs:=[iv t.kind,Dz t.words,Bm t.kids]) rfl fun x hx=>by simp at hx;rcases hx with rfl | rfl | rfl<;>rfl
theorem Ij (u:Nat) (most:Int):Bh Tryz.prog 148 (fun q=>[.pob [q] u 0,iv 0]) (Na u most) (fun _=>.tup []) (Na u most):=by
 refine AE Ot (by simp) (Af AJ (Af Au Am)) (Bz Am) fun w0 I0 M0 m0=>?_;unfold Jn;simp;refine AX rfl rfl (fun p=>?_);by_cases hp:p=[]
 ·subst hp;simp[Aa]
 ·simp[Aa,hp]
theorem Rr {l:List (List Int)} (hs:Sg l) {r:Rf} {t:T} (hm:AA l r t) (u:Nat) (most:Int):Bh Tryz.prog 98 (fun q=>[.pob [q] u 0,Hi l r]) (Na u most) (fun _=>tX (Ah t)) (Na u most):=by
 have hw:=KI hs _ _ hm;refine AE O3 (by simp) (Af AJ (Af (CJ l r) Am)) (pH _) fun w0 I0 M0 m0=>?_;unfold I4;simp;refine Ae (iM hs _ _ hm) (by simp) ?_;simp;refine Aw 0 (Ij u most) (fun p=>by simp) (by simp) (by simp) ?_;simp;refine Ae (Ns t hw) (by simp) ?_;simp;exact AM (r0:=tX (Ah t)) (by simp) rfl (fun p=>by simp)
theorem Ua {l:List (List Int)} (hs:Sg l) {r:Rf} (hr:J4 l r) (i:Int) (h0:(CZ l r i).2=0) (u:Nat) (most:Int):Bh Tryz.prog 152 (fun q=>[.pob [q] u 0,Hi l r,iv i]) (Na u most) (fun _=>Hi l (CZ l r i).1) (Na u most):=by
 refine AE P5 (by simp) (Af AJ (Af (CJ l r) (Af Au Am))) (CJ l _) fun w0 I0 M0 m0=>?_;unfold Jt;simp;refine Ae (Kx hs hr i) (by simp) ?_;rw[h0];simp;refine Aw 0 (Ij u most) (fun p=>by simp) (by simp) (by simp) ?_;simp;exact AM (r0:=Hi l (CZ l r i).1) (by simp) rfl (fun p=>by simp)
theorem kj {l m:List (List Int)} (hl:Sg l) (hm:Sg m) {r s:Rf} {t u:T} (h1:AA l r t) (h2:AA m s u) (v:Nat) (most:Int):Bh Tryz.prog 94 (fun q=>[.pob [q] v 0,Hi l r,Hi m s]) (Na v most) (fun _=>bv (LK t u)) (Na v most):=by
 refine AE OX (by simp) (Af AJ (Af (CJ l r) (Af (CJ m s) Am))) Au fun w0 I0 M0 m0=>?_;unfold Jg;simp;refine Ae (Vz hl hm t u r s h1 h2) (by simp) ?_;simp;refine Aw 0 (Ij v most) (fun p=>by simp) (by simp) (by simp) ?_;simp;exact AM (r0:=bv (LK t u)) (by simp) rfl (fun p=>by simp)
theorem iY {l:List (List Int)} (hs:Sg l) {r:Rf} {t:T} (hm:AA l r t) (u:Nat) (most:Int):Bh Tryz.prog 151 (fun q=>[.pob [q] u 0,Hi l r]) (Na u most) (fun _=>iv (BO t.kids).length) (Na u most):=by
 refine AE Pr (by simp) (Af AJ (Af (CJ l r) Am)) Au fun w0 I0 M0 m0=>?_;unfold I5;simp;refine Ae (Zh hs hm) (by simp) ?_;simp;refine Aw 0 (Ij u most) (fun p=>by simp) (by simp) (by simp) ?_;simp;exact AM (r0:=iv (BO t.kids).length) (by simp) rfl (fun p=>by simp)
def wds (tw:List Int):Nat→Nat→List WE→Option (List Int)
 |0,_,_=>some []
 |m+1,i,[]=>(wds tw m (i+1) []).map (tw.getD i 0 :: ·)
 |m+1,i,x::xs=>if x.at_=(i:Int) then (if aM 0 (tw.getD i 0) x.mask=x.old then (wds tw m (i+1) xs).map (aM (tw.getD i 0) x.new x.mask :: ·) else none) else (wds tw m (i+1) (x::xs)).map (tw.getD i 0 :: ·)
def kds (tk:List T):Nat→Nat→List (Int × (T→Option T))→Option (List T)
 |0,_,_=>some []
 |m+1,i,[]=>(kds tk m (i+1) []).map (tk.getD i T0 :: ·)
 |m+1,i,x::xs=>if x.1=(i:Int) then (match x.2 (tk.getD i T0) with | none=>none | some u=>(kds tk m (i+1) xs).map (u :: ·)) else (kds tk m (i+1) (x::xs)).map (tk.getD i T0 :: ·)
noncomputable def tK (tk:List T):Nat→List (Int × Int × List T × (T→Option T))→Option (List T × Nat)
 |a,[]=>some ([],a)
 |a,(k,n,l,f)::os=>
  if k=0 then (if a+n.toNat≤tk.length then (tK tk (a+n.toNat) os).map (fun r=>((tk.drop a).take n.toNat++r.1,r.2)) else none)
  else if k=1 then (if a+l.length≤tk.length∧(((tk.drop a).take l.length).zip l).all (fun p=>LK p.1 p.2)=true then tK tk (a+l.length) os else none)
  else if k=2 then (tK tk a os).map (fun r=>(l++r.1,r.2))
  else match tk[a]? with
   |none=>none
   |some x=>match f x with
    |none=>none
    |some u=>(tK tk (a+1) os).map (fun r=>(u::r.1,r.2))
def yu (ws:List WE) (n:Nat):Nat:=match ws.getLast? with | none=>n | some x=>max n (x.at_+1).toNat
def yG {β:Type} (ks:List (Int × β)) (n:Nat):Nat:=match ks.getLast? with | none=>n | some x=>max n (x.1+1).toNat
noncomputable def Ads (k:Int) (o n:T) (ws:List WE) (ks:List (Int × (T→Option T))) (list:Int) (os:List (Int × Int × List T × (T→Option T))) (t:T):Option T:=
 if k=0 then some (Ah t)
 else if k=1 then (if LK o t=true then some (Ah n) else none)
 else if k=2 then (if t.kind=1 then (match wds t.words (yu ws t.words.length) 0 ws,kds t.kids (yG ks t.kids.length) 0 ks with
  |some w,some l=>some (Ah (.mk 1 w l))
  |_,_=>none) else none)
 else if k=3 then (if t.kind=list then (match tK t.kids 0 os with
  |some (l,a)=>if a=t.kids.length then some (Ah (.mk t.kind [] l)) else none
  |none=>none) else none)
 else none
mutual
noncomputable def apE:E→T→Option T
 |.mk k o n ws ks l os,t=>Ads k o n ws (v5 ks) l (Ac8 os) t
noncomputable def v5:List KE→List (Int × (T→Option T))
 |[]=>[]
 |.mk a e::r=>(a,apE e)::v5 r
noncomputable def Ac8:List OP→List (Int × Int × List T × (T→Option T))
 |[]=>[]
 |.mk k n t e::r=>(k,n,t,apE e)::Ac8 r
end
theorem me (a b mask:Int):Bw (aM a b mask):=by
 have h:=Pv (Oc (Bo a) (Bo b) mask 8) Ye;rw[Ov (by rw[IQ];exact BZ _),IQ] at h;have e:(256:Int) ^ 8=18446744073709551616:=by decide
 rw[e] at h;exact⟨h.1,h.2⟩
section
variable {n0:Nat} {w0:World} {I0:Nat→Prop}
noncomputable def Aij (e:E) (t:T) (n m:Nat):Option T:=match wds t.words n 0 e.words,kds t.kids m 0 (v5 e.kids) with
 |some w,some l=>some (.mk 1 w l)
 |_,_=>none
end
noncomputable def AaN (e:E) (t:T):Option T:=if t.kind=1 then Aij e t (yu e.words t.words.length) (yG (v5 e.kids) t.kids.length) else none
theorem JX:Yt E0:=wfE_iff.2 ⟨by simp[B9],by simp[B9],HB,HB,by simp,by simp,by simp,by simp,by simp,by simp⟩
theorem Rm {n:Int} (h1:-1000000000≤n) (h2:n≤1000000000):B9 n:=⟨by omega,by omega⟩
theorem vH {i:Nat} (hi:i≤1000000) (a b:Int):WE.wf (wdE i a b):=
 ⟨Rm (by show(-1000000000:Int)≤i;omega) (by show(i:Int)≤1000000000;omega),We a b,me _ _ _,me _ _ _⟩
theorem sq {one:T→T→E} {a b:T} (ha:a.words.length≤1000) (hb:b.words.length≤1000) (ha2:a.kids.length≤1000) (hb2:b.kids.length≤1000) (h:∀ i,Yt (one (a.kids.getD i T0) (b.kids.getD i T0))):Yt (UG one a b):=by
 have h1:=Mq a b (max a.words.length b.words.length);have h2:=It one a b (max a.kids.length b.kids.length);unfold UG;refine wfE_iff.2 ⟨by simp[B9],by simp[B9],HB,HB,fun x hx=>?_,by show(D6 a b _).length*32≤_;omega,by show(BW one a b _).length*208≤_;omega,by simp,fun x hx=>?_,by simp⟩
 ·have hx':x ∈ D6 a b (max a.words.length b.words.length):=hx;unfold D6 at hx';rw[List.mem_filterMap] at hx';obtain⟨i,hi,e⟩:=hx';split at e
  ·cases e
  ·simp only[Option.some.injEq] at e;subst e;have:i<max a.words.length b.words.length:=by simpa using hi
   exact vH (by omega) _ _
 ·obtain⟨i,hi,e,_⟩:=WC (show x ∈ BW one a b _ from hx);subst e;exact⟨Rm (by show(-1000000000:Int)≤i;omega) (by show(i:Int)≤1000000000;omega),h i⟩
theorem wB {one:T→T→E} {A B:List T} {N:Nat} (hN:N≤1000000) (lA:A.length≤1000000) (lB:B.length≤1000000) (hA:∀ t,t ∈ A→BH t) (hB:∀ t,t ∈ B→BH t) (h1:∀ x,x ∈ A→∀ y,y ∈ B→Yt (one x y)) {o:OP} (h:aV one A B N o):xv o:=by
 cases h with
 |keep n h=>exact⟨by simp[B9],Rm (by show(-1000000000:Int)≤n;omega) (by show(n:Int)≤1000000000;omega),by simp,by simp,JX⟩
 |del l h g k=>exact⟨by simp[B9],by simp[B9],fun t ht=>hA t (g t ht),by show l.length*56≤_;omega,JX⟩
 |ins l h g k=>exact⟨by simp[B9],by simp[B9],fun t ht=>hB t (g t ht),by show l.length*56≤_;omega,JX⟩
 |desc x y hx hy=>exact⟨by simp[B9],by simp[B9],by simp,by simp,h1 x hx y hy⟩
theorem WY {a b:T} (ha:BH a) (hb:BH b):Yt (.mk 1 a b [] [] 0 []):=wfE_iff.2 ⟨by simp[B9],by simp[B9],ha,hb,by simp,by simp,by simp,by simp,by simp,by simp⟩
theorem o6 {one:T→T→E} {most:Int} {a b:T} (wfa:BH a) (ha:a.kids.length≤1000) (hb:b.kids.length≤1000) (wa:∀ t,t ∈ a.kids→BH t) (wb:∀ t,t ∈ b.kids→BH t) (h:∀ x,x ∈ a.kids→∀ y,y ∈ b.kids→Yt (one x y)):Yt (JG one most a b):=by
 have h1:=fS one most a b;rw[eF];exact wfE_iff.2 ⟨by simp[B9],(wfT_iff.1 wfa).k,HB,HB,by simp,by simp,by simp,by show(eQ one most a b).length*240≤_;omega,by simp,fun x hx=>wB (by omega) (by omega) (by omega) wa wb h (gM one most a b x hx)⟩
theorem Xt (most:Int):∀ (f g:Nat) (a b:T),Wr f a→Wr g b→Yt (MR most f a b)
 |0,g,a,b,ha,hb=>by
  rw[MR];split
  ·exact JX
  ·exact WY (Bn ha).1 (Bn hb).1
 |f+1,g,a,b,ha,hb=>by
  obtain⟨a1,a2,a3,a4⟩:=Bn ha;obtain⟨b1,b2,b3,b4⟩:=Bn hb;rw[MR];split
  ·exact JX
  ·split
   ·exact sq a3 b3 a4 b4 fun i=>Xt most f (g-1) _ _ (L9 ha i) (L9 hb i)
   ·split
    ·exact o6 a1 a4 b4 (fun t ht=>(Bn (CW ha t ht)).1) (fun t ht=>(Bn (CW hb t ht)).1) fun x hx y hy=>Xt most f (g-1) x y (CW ha x hx) (CW hb y hy)
    ·exact WY a1 b1
theorem o7 (n:Int):B9 (i64.wrap n):=by
 rw[IntKind.wrap_i64];exact⟨by omega,by omega⟩
theorem tr {out:List OP} {n:Int} (h:∀ o,o ∈ out→xv o) (hn:B9 n):∀ o,o ∈ br out n→xv o:=by
 unfold br;split
 ·rename_i m l e he;intro o ho;have hm:=List.mem_of_getLast? he;rcases List.mem_append.1 ho with ho | ho
  ·exact h o (List.dropLast_subset _ ho)
  ·rw[List.mem_singleton] at ho;subst ho;have:=h _ hm;exact⟨this.k,o7 _,this.l,this.ll,this.e⟩
 ·intro o ho;rcases List.mem_append.1 ho with ho | ho
  ·exact h o ho
  ·rw[List.mem_singleton] at ho;subst ho;exact⟨by simp[B9],hn,by simp,by simp,JX⟩
theorem tG {out:List OP} {g b:List T} (h:∀ o,o ∈ out→xv o) (hg:∀ t,t ∈ g→BH t) (hb:∀ t,t ∈ b→BH t) (lg:g.length≤1000000) (lb:b.length≤1000000):∀ o,o ∈ YB out g b→xv o:=by
 intro o ho;unfold YB De Dn at ho;rcases List.mem_append.1 ho with ho | ho
 ·exact h o ho
 ·rcases List.mem_append.1 ho with ho | ho
  ·split at ho
   ·simp at ho
   ·rw[List.mem_singleton] at ho;subst ho;exact⟨by simp[B9],by simp[B9],hg,by show g.length*56≤_;omega,JX⟩
  ·split at ho
   ·simp at ho
   ·rw[List.mem_singleton] at ho;subst ho;exact⟨by simp[B9],by simp[B9],hb,by show b.length*56≤_;omega,JX⟩
def WfS (o:OP):Prop:=B9 o.n∧(∀ t,t ∈ o.l→BH t)∧(o.kind=0∨o.kind=1∨o.kind=2∨o.kind=3)∧(o.kind=3→Yt o.e)
theorem PA (list:Int):∀ (os out:List OP) (g b:List T),(∀ o,o ∈ os→WfS o)→(∀ o,o ∈ out→xv o)→(∀ t,t ∈ g→BH t)→(∀ t,t ∈ b→BH t)→g.length+b.length+DP os≤1000000→∀ o,o ∈ GK list os out g b→xv o
 |[],out,g,b,h1,h2,h3,h4,h5=>by
  rw[GK];exact tG h2 h3 h4 (by omega) (by omega)
 |x::os,out,g,b,h1,h2,h3,h4,h5=>by
  rw[PF] at h5;have hx:=h1 x (by simp);have hos:∀ o,o ∈ os→WfS o:=fun o ho=>h1 o (List.mem_cons_of_mem _ ho);have fl:=tG h2 h3 h4 (by omega) (by omega);have nn:∀ (l:List T),(∀ t,t ∈ l→BH t)→∀ t,t ∈ l++x.l.map Ah→BH t:=fun l hl t ht=>by
   rcases List.mem_append.1 ht with ht | ht
   ·exact hl t ht
   ·obtain⟨u,hu,rfl⟩:=List.mem_map.1 ht;exact GU _ (hx.2.1 u hu)
  have z:∀ t:T,t ∈ ([]:List T)→BH t:=by simp
  rw[GK];split
  ·exact PA list os _ _ _ hos (tr fl hx.1) z z (by simp;omega)
  ·split
   ·exact PA list os _ _ _ hos h2 (nn g h3) h4 (by simp;omega)
   ·split
    ·exact PA list os _ _ _ hos h2 h3 (nn b h4) (by simp;omega)
    ·split
     ·exact PA list os _ _ _ hos (tr fl (by simp[B9])) z z (by simp;omega)
     ·refine PA list os _ _ _ hos (fun o ho=>?_) z z (by simp;omega);rcases List.mem_append.1 ho with ho | ho
      ·exact fl o ho
      ·rw[List.mem_singleton] at ho;subst ho;exact⟨by simp[B9],by simp[B9],by simp,by simp,hx.2.2.2 (by have:=hx.2.2.1;omega)⟩
theorem vR (out:List OP) (n:Int):(br out n).length≤out.length+1:=by
 unfold br;split
 ·simp
  try omega
 ·simp
theorem lV (out:List OP) (g b:List T):(YB out g b).length≤out.length+2:=by
 unfold YB De Dn;split<;>split<;>simp
theorem MD (list:Int):∀ (os out:List OP) (g b:List T),(GK list os out g b).length≤out.length+3*os.length+2
 |[],out,g,b=>by
  rw[GK];have:=lV out g b;simp;omega
 |x::os,out,g,b=>by
  have h1:=lV out g b;have h2:=vR (YB out g b);rw[GK,List.length_cons];split
  ·have:=MD list os (br (YB out g b) x.n) [] [];have:=h2 x.n;omega
  ·split
   ·have:=MD list os out (g++x.l.map Ah) b;omega
   ·split
    ·have:=MD list os out g (b++x.l.map Ah);omega
    ·split
     ·have:=MD list os (br (YB out g b) 1) [] [];have:=h2 1;omega
     ·have:=MD list os (YB out g b++[.mk 3 0 [] x.e]) [] [];simp at this;omega
theorem si (os:List OP):DP (os.map VE)=DP os:=by
 unfold DP;rw[List.map_map];rfl
theorem yV:∀ e:E,Yt e→VG e→Yt (RO e):=by
 refine E.ind fun k o n ws ks l os ihk iho hw h=>?_;rw[VG] at h;obtain⟨hk,hl,hon,hwl,hkl,hol,hsum,hks,hos⟩:=h;have w:=wfE_iff.1 hw;rw[Yr];split
 ·exact WY (GU _ w.o) (GU _ w.n)
 ·split
  ·rename_i h1 h2;refine wfE_iff.2 ⟨by simp[B9],by simp[B9],HB,HB,w.w,w.wl,by show(ks.map aZ).length*208≤_;simp;omega,by simp,fun x hx=>?_,by simp⟩;obtain⟨y,hy,rfl⟩:=List.mem_map.1 (show x ∈ ks.map aZ from hx);have:=w.ks y hy;exact⟨this.1,ihk y hy this.2 (SI (hks h2) y hy)⟩
  ·split
   ·rename_i h1 h2 h3;have hO:∀ o,o ∈ os.map VE→WfS o:=fun o ho=>by
     obtain⟨y,hy,rfl⟩:=List.mem_map.1 ho;have g1:=w.os y hy;obtain⟨g2,g3,g4⟩:=Tq (hos h3) y hy;exact⟨g1.n,g3,g2,fun e=>iho y hy g1.e (g4 e)⟩
    have hlen:=MD l (os.map VE) [] [] [];simp at hlen;refine wfE_iff.2 ⟨by simp[B9],w.l,HB,HB,by simp,by simp,by simp,by show(GK l (os.map VE) [] [] []).length*240≤_;omega,by simp,fun x hx=>PA l _ _ _ _ hO (by simp) (by simp) (by simp) (by rw[si];simpa using hsum) x hx⟩
   ·exact JX
theorem AdU {a b:T} (ha:BH a) (hb:BH b) (pa:Gu a≤1000) (pb:Gu b≤1000) {most:Int}:Yt (uW most a b):=by
 have oa:=F5 a ha pa 1000 pa;have ob:=F5 b hb pb 1000 pb;exact yV _ (Xt most 1000 1000 _ _ oa ob) (Tj most 1000 1000 _ _ oa ob)
inductive Lk (R:T→T→Prop):E→E→Prop
 |mk (k:Int) (o n o' n':T) (ws:List WE) (ks ks':List KE) (l:Int) (os os':List OP):R o o'→R n n'→ks.length=ks'.length →
  (∀ (i:Nat) (h:i<ks.length) (h':i<ks'.length),ks[i].at_=ks'[i].at_)→(∀ (i:Nat) (h:i<ks.length) (h':i<ks'.length),Lk R ks[i].e ks'[i].e)→os.length=os'.length →
  (∀ (i:Nat) (h:i<os.length) (h':i<os'.length),os[i].kind=os'[i].kind∧os[i].n=os'[i].n∧(os[i].l.length=os'[i].l.length∧∀ (j:Nat) (g:j<os[i].l.length) (g':j<os'[i].l.length),R (os[i].l[j]) (os'[i].l[j]))) →
  (∀ (i:Nat) (h:i<os.length) (h':i<os'.length),Lk R os[i].e os'[i].e) →
  Lk R (.mk k o n ws ks l os) (.mk k o' n' ws ks' l os')
theorem vf {R:T→T→Prop} (h:∀ t,R t t):∀ e,Lk R e e:=by
 refine E.ind fun k o n ws ks l os ihk iho=>?_;exact .mk _ _ _ _ _ _ _ _ _ _ _ (h o) (h n) rfl (fun i h1 _=>rfl) (fun i h1 _=>ihk _ (Bg h1)) rfl (fun i h1 _=>⟨rfl,rfl,⟨rfl,fun j _ _=>h _⟩⟩) (fun i h1 _=>iho _ (Bg h1))
theorem wy {a b:List T} {H:Hp} (hl:a.length=b.length) (hb:a.length*56≤140737488355328) (h:∀ (i:Nat) (h1:i<a.length) (h2:i<b.length),G.Spec Tryz.prog 50 [tX a[i],tX b[i]] (bv true)) (hq:∀ i q,Q (.exit 0) ⟨lk [(0,Bm a),(1,Bm b),(5,iv i),(14,bv q)],H⟩):∀ (m i:Nat),i+m=a.length →
  LoopC (cx Tryz.prog w0 I0 n0) C6 Q ⟨lk [(0,Bm a),(1,Bm b),(5,nv i)],H⟩:=by
 intro m;induction m with
 |zero=>
  intro i hi;have:i=a.length:=by omega
  subst this;refine Ab Ai C6.eq_1 ?_;simp;exact hq _ _
 |succ m ih=>
  intro i hi;have hlt:i<a.length:=by omega
  have hlt2:i<b.length:=by omega
  have ei:=Av i;refine Ab Ai C6.eq_1 ?_;simp[hlt,hlt2];refine Ae (h i hlt hlt2) (by simp) ?_;simp[ei];exact ih (i+1) (by omega)
theorem i7 {a b:List T} (hl:a.length=b.length) (hb:a.length*56≤140737488355328) (h:∀ (i:Nat) (h1:i<a.length) (h2:i<b.length),G.Spec Tryz.prog 50 [tX a[i],tX b[i]] (bv true)):G.Spec Tryz.prog 51 [Bm a,Bm b] (bv true):=by
 refine Aj Nr (by simp) fun w0 I0=>?_;unfold Hu;simp[hl];refine wy hl hb h (fun i q=>?_) a.length 0 (by omega);simp;exact Ad rfl
theorem w8 {e f:E} {H:Hp} (h0:H [0]=⟨1,.cells (eL e)⟩) (h1:H [1]=⟨1,.cells (eL f)⟩) (hw:e.words=f.words) (hb:e.words.length*32≤140737488355328) (hq:∀ i q,Q (.exit 0) ⟨lk [(2,.pob [0] 1 0),(3,.pob [1] 1 0),(5,iv i),(69,bv q)],H⟩):∀ (m i:Nat),i+m=e.words.length →
  LoopC (cx Tryz.prog w0 I0 n0) EO Q ⟨lk [(2,.pob [0] 1 0),(3,.pob [1] 1 0),(5,nv i)],H⟩:=by
 intro m;induction m with
 |zero=>
  intro i hi;have:i=e.words.length:=by omega
  subst this;refine Ab Ai EO.eq_1 ?_;simp[h0,h1];exact hq _ _
 |succ m ih=>
  intro i hi;have hlt:i<e.words.length:=by omega
  have hlt2:i<f.words.length:=by rw[← hw];omega
  have ei:=Av i;have hx:e.words[i]=f.words[i]:=by simp only[hw]
  refine Ab Ai EO.eq_1 ?_;simp[hlt,hlt2,h0,h1,hx];simp[ei];exact ih (i+1) (by omega)
theorem wK {e f:E} {H:Hp} (h0:H [0]=⟨1,.cells (eL e)⟩) (h1:H [1]=⟨1,.cells (eL f)⟩) (hl:e.kids.length=f.kids.length) (hb:e.kids.length*208≤140737488355328) (hk:∀ (i:Nat) (g:i<e.kids.length) (g':i<f.kids.length),e.kids[i].at_=f.kids[i].at_∧G.Spec Tryz.prog 24 [eX e.kids[i].e,eX f.kids[i].e] (bv true)) (hq:∀ i q,Q (.exit 2) ⟨lk [(2,.pob [0] 1 0),(3,.pob [1] 1 0),(6,iv i),(87,bv q)],H⟩):∀ (m i:Nat),i+m=e.kids.length →
  LoopC (cx Tryz.prog w0 I0 n0) EV Q ⟨lk [(2,.pob [0] 1 0),(3,.pob [1] 1 0),(6,nv i)],H⟩:=by
 intro m;induction m with
 |zero=>
  intro i hi;have:i=e.kids.length:=by omega
  subst this;refine Ab Ai EV.eq_1 ?_;simp[h0,h1];exact hq _ _
 |succ m ih=>
  intro i hi;have hlt:i<e.kids.length:=by omega
  have hlt2:i<f.kids.length:=by omega
  have ei:=Av i;obtain⟨ha,hs⟩:=hk i hlt hlt2;refine Ab Ai EV.eq_1 ?_;simp[hlt,hlt2,h0,h1,ha];refine B0 rfl (fun _=>hs) (fun _=>rfl) (by simp) ?_;simp[ei];exact ih (i+1) (by omega)
theorem wW {e f:E} (hl:e.ops.length=f.ops.length) (hb:e.ops.length*240≤140737488355328) (hk:∀ (i:Nat) (g:i<e.ops.length) (g':i<f.ops.length),e.ops[i].kind=f.ops[i].kind∧e.ops[i].n=f.ops[i].n∧G.Spec Tryz.prog 51 [Bm e.ops[i].l,Bm f.ops[i].l] (bv true)∧G.Spec Tryz.prog 24 [eX e.ops[i].e,eX f.ops[i].e] (bv true)) (hq:∀ H' i q,Q (.exit 4) ⟨lk [(2,.pob [0] 1 0),(3,.pob [1] 1 0),(7,iv i),(123,bv q)],H'⟩):∀ (m i:Nat) (H:Hp),i+m=e.ops.length→H [0]=⟨1,.cells (eL e)⟩→H [1]=⟨1,.cells (eL f)⟩ →
  LoopC (cx Tryz.prog w0 I0 n0) E6 Q ⟨lk [(2,.pob [0] 1 0),(3,.pob [1] 1 0),(7,nv i)],H⟩:=by
 intro m;induction m with
 |zero=>
  intro i H hi h0 h1;have:i=e.ops.length:=by omega
  subst this;refine Ab Ai E6.eq_1 ?_;simp[h0,h1];exact hq _ _ _
 |succ m ih=>
  intro i H hi h0 h1;have hlt:i<e.ops.length:=by omega
  have hlt2:i<f.ops.length:=by omega
  have ei:=Av i;obtain⟨ha,hn,ht,hs⟩:=hk i hlt hlt2;refine Ab Ai E6.eq_1 ?_;simp[hlt,hlt2,h0,h1,Aa,ha,hn];refine B0 rfl (fun _=>ht) (fun _=>rfl) (by simp) ?_;simp[Aa];refine B0 rfl (fun _=>hs) (fun _=>rfl) (by simp) ?_;simp[ei];exact ih (i+1) _ (by omega) (by simp[Aa,h0]) (by simp[Aa,h1])
set_option maxRecDepth 10000 in
theorem pn {R:T→T→Prop} (hR:∀ a b,BH a→BH b→R a b→G.Spec Tryz.prog 50 [tX a,tX b] (bv true)):∀ (e f:E),Yt e→Yt f→Lk R e f→G.Spec Tryz.prog 24 [eX e,eX f] (bv true):=by
 refine E.ind fun k o nn ws ks l os ihk iho f hw hwf hl=>?_;cases hl with
 |mk _ _ _ o' n' _ _ ks' _ _ os' r1 r2 r3 r4 r4b r5 r6 r6b=>
  have h:=wfE_iff.1 hw;have g:=wfE_iff.1 hwf;have h1:=hR _ _ h.o g.o r1;have h2:=hR _ _ h.n g.n r2;simp only[E.old_mk,E.new_mk] at h1 h2;refine Aj Si (by simp) fun w0 I0=>?_;unfold K8;simp;refine B0 rfl (fun _=>h1) (fun _=>rfl) (by simp) ?_;simp;refine B0 rfl (fun _=>h2) (fun _=>rfl) (by simp) ?_;simp[r3,r5];refine w8 (e:=.mk k o nn ws ks l os) (f:=.mk k o' n' ws ks' l os') (by simp) (by simp) rfl h.wl (fun i q=>?_) ws.length 0 (by simp);simp;refine wK (e:=.mk k o nn ws ks l os) (f:=.mk k o' n' ws ks' l os') (by simp) (by simp) r3 h.kl (fun i a b=>⟨r4 i a b,ihk _ (Bg a) _ (h.ks _ (Bg a)).2 (g.ks _ (Bg b)).2 (r4b i a b)⟩) (fun i q=>?_) ks.length 0 (by simp);simp;refine wW (e:=.mk k o nn ws ks l os) (f:=.mk k o' n' ws ks' l os') r5 h.ol (fun i a b=>?_) (fun H' i q=>?_) os.length 0 _ (by simp) (by simp) (by simp)
  ·obtain⟨q1,q2,q3,q4⟩:=r6 i a b;have q5:=r6b i a b;have ha:=h.os _ (Bg a);have hb:=g.os _ (Bg b);exact⟨q1,q2,i7 q3 ha.ll (fun j g1 g2=>hR _ _ (ha.l _ (Bg g1)) (hb.l _ (Bg g2)) (q4 j g1 g2)),iho _ (Bg a) _ ha.e hb.e q5⟩
  ·simp;exact Ad rfl
theorem cQ {e:E} (h:Yt e):G.Spec Tryz.prog 24 [eX e,eX e] (bv true):=by
 refine pn (R:=fun a b=>a=b) (fun a b ha hb e=>?_) e e h h (vf (fun _=>rfl) e);subst e;have:=Oq a ha a
 rwa [show HA a a=true from sameB_iff.2 rfl] at this
theorem ZT {t:T} (h0:t.kind ≠ 0) (h1:t.kind ≠ 1):(Ah t).kids=t.kids.map Ah:=by
 obtain⟨k,w,l⟩:=t;have h0:k ≠ 0:=h0;have h1:k ≠ 1:=h1;rw[BS,if_neg h0,if_neg h1];rfl
theorem PM:∀ (l ks:List T),Br ks (l.map Ah)=Br ks l
 |[],ks=>rfl
 |t::l,ks=>by rw[List.map_cons,Br,Br,Ka,PM l]
section
variable {n0:Nat} {w0:World} {I0:Nat→Prop} {M0:Nm→Nat→Prop} {m0:Mu} {Q:Exit→Sta→Prop}
theorem xD {l:List (List Int)} (hs:Sg l) {r:Rf} {t:T} (hm:AA l r t) {u:Nat} {most:Int} {fr n:Nat} (hb:fr+n≤t.kids.length) (hk:t.kids.length≤1000000000)
  (hq:∀ (H':Hp) (v:Nat) (st:List (Nat × A)),(∀ p,H' (0::p)=(Na u most).F 0 p)→H' [2]=⟨v,.arr 3 ((((t.kids.map Ah).drop fr).take n).map tA)⟩→Q (.exit 0) ⟨lk ([(0,.pob [0] u 0),(2,iv fr),(5,.pob [1] 1 0),(9,.osl [2] v 3 0 n)]++st),H'⟩) :
  ∀ (m i v:Nat) (H:Hp),i+m=n→(∀ p,H (0::p)=(Na u most).F 0 p)→H [1]=⟨1,.cells (Yw l r)⟩→H [2]=⟨v,.arr 3 ((((t.kids.map Ah).drop fr).take i).map tA)⟩ →
  LoopC (DG Tryz.prog w0 I0 M0 n0 m0) Du Q ⟨lk [(0,.pob [0] u 0),(2,iv fr),(5,.pob [1] 1 0),(9,.osl [2] v 3 0 i),(11,iv n),(12,iv i)],H⟩:=by
 intro m;induction m with
 |zero=>
  intro i v H hi hF h1 h2;have:i=n:=by omega
  subst this;refine Ab Ai Du.eq_1 ?_;simp;have:=hq H v [(11,iv i),(12,iv i),(13,bv false)] hF h2;simpa using this
 |succ m ih=>
  intro i v H hi hF h1 h2;have hlt:i<n:=by omega
  have hin:fr+i<t.kids.length:=by omega
  have ew:=Av i;have ef:i64.wrap ((fr:Int)+i)=((fr+i:Nat):Int):=AP;obtain⟨k1,k2⟩:=Ku hm (fr+i);have F1:=Ua hs (Cy hm) ((fr+i:Nat):Int) k1 u most;have F2:=Rr hs k2 u most;have hg:Ah (t.kids.getD (fr+i) T0)=((t.kids.map Ah).drop fr)[i]'(by simp;omega):=by
   rw[List.getElem_drop,List.getElem_map];simp[hin]
  have htk:((t.kids.map Ah).drop fr).take (i+1)=((t.kids.map Ah).drop fr).take i++[Ah (t.kids.getD (fr+i) T0)]:=by
   rw[hg];exact Fm (by simp;omega)
  have hlen:(((t.kids.map Ah).drop fr).take i).length=i:=by simp;omega
  have next:=ih (i+1) (v+1)
  rw[htk,List.map_append] at next
  generalize ((t.kids.map Ah).drop fr).take i=B at *;generalize Ah (t.kids.getD (fr+i) T0)=x at *;refine Ab Ai Du.eq_1 ?_;simp[hlt,h1,ef];rw[Int.natCast_add] at F1 F2;refine Aw 0 F1 (fun p=>by simp[hF]) (by simp) (by simp) ?_;simp;refine Aw 0 F2 (fun p=>by simp) (by simp) (by simp) ?_;simp[h2,ew,Aa];refine⟨by omega,?_⟩;refine next _ (by omega) (fun p=>by simp[Aa]) (by simp[Aa,h1]) ?_
  rw[AL (by simp;omega)];simp[Aa]
end
theorem XM {l:List (List Int)} (hs:Sg l) {r:Rf} {t:T} (hm:AA l r t) (u:Nat) (most:Int) {fr n:Nat} (hb:fr+n≤t.kids.length) (hk:t.kids.length≤1000000000) :
  Bh Tryz.prog 155 (fun q=>[.pob [q] u 0,Hi l r,iv fr,iv n]) (Na u most) (fun _=>Bm (((t.kids.map Ah).drop fr).take n)) (Na u most):=by
 refine MS OK (by simp) (Af AJ (Af (CJ l r) (Af Au (Af Au Am)))) Dl fun w0 I0 M0 m0 hM=>?_;unfold Ja;simp;refine LoopC.le (Cd 9 [2] 3 (by simp)) ?_;refine LoopC.le (Ao [(0,.pob [0] u 0),(2,iv fr),(5,.pob [1] 1 0),(9,.osl [2] 1 3 0 0),(11,iv n),(12,iv (0:Nat))] (by simp[upd])) ?_;refine xD hs hm (u:=u) (most:=most) hb hk (fun H' v st hF h2=>?_) n 0 1 _ (by omega) (fun p=>by simp[Aa]) (by simp[Aa]) (by simp[Aa]);have hlen:(((t.kids.map Ah).drop fr).take n).length=n:=by simp;omega
 generalize ((t.kids.map Ah).drop fr).take n=B at *;simp;obtain⟨H2,k1,k2⟩:=QS (c:=DG Tryz.prog w0 I0 M0 28 m0) (s:=lk [(8,.osl [2] v 3 0 n)]) (H:=H') (fun r=>1≤r) (fun r p b hr=>hM r p b hr) 8 (Bm B) (fun H1 e1=>by
  have e2:H1 [2]=H' [2]:=e1 2 [] (by omega);simp;exact Bx (o:=[2]) (u:=v) (n:=n) (sz:=3) (l:=B) (f:=tA) (by rw[e2,h2];simp) hlen.symm (fun x=>by simp))
 refine PT k1 (AM (r0:=Bm B) (by simp[upd]) rfl (fun p=>?_));exact(k2 0 p (by omega)).trans (hF p)
noncomputable def Xo (most:Int) (t u:T):List Sp:=if (B7 (Mo t) (Mp t u):Int)≤most then Il (GG (Mo t) (Mp t u)) else Il (AO [⟨1,t.kids.length⟩,⟨2,u.kids.length⟩])
theorem cp {l m:List (List Int)} (hl:Sg l) (hm:Sg m) {r s:Rf} {t u:T} (mt:AA l r t) (mu:AA m s u) (v:Nat) {most:Int} (h0:B9 most) (hkt:t.kids.length≤100000) (hku:u.kids.length≤100000) :
  Bh Tryz.prog 153 (fun q=>[.pob [q] v 0,Hi l r,Hi m s]) (Na v most) (fun _=>Od (Xo most t u)) (Na v most):=by
 have hn0:newTb.ks=[]:=by simp[newTb,Tb.ks]
 have hK:=X3 cZ hl mt (by simp[newTb];omega);have hok2:=gu hl (r:=r) t.kids newTb 0 cZ (fun j hj=>by
  have:=(F9 mt (i:=j) hj).2;simpa using this)
 have hu2:=bE (l:=l) (r:=r) t.kids newTb 0;have hks2:=X2 (l:=l) (r:=r) t.kids newTb 0;have hlen2:=TL (l:=l) (r:=r) t.kids newTb 0;generalize Ei l r newTb 0 t.kids=S2 at hK hok2 hu2 hks2 hlen2;have hK2:=X3 hok2 hm mu (by simp[newTb] at hlen2 ⊢; omega);rw[hn0] at hks2 hK;rw[hks2] at hK2;have hu2':S2.u=1:=hu2;rw[hu2'] at hK2;have hK1:newTb.u=1:=rfl;rw[hK1] at hK;have e1:(Mo t).length=t.kids.length:=cG t;have e2:(Mp t u).length=u.kids.length:=bf t u;have hD:=W8 (a:=Mo t) (b:=Mp t u) (by omega) (by omega) h0;have z1:(Mo t).map iv=(Br [] t.kids).2.map nv:=Ur _;have z2:(Mp t u).map iv=(Br (Br [] t.kids).1 u.kids).2.map nv:=Ur _;simp only[Cq,z1,z2] at hD;have l1:=BA t.kids [];have l2:=BA u.kids (Br [] t.kids).1;have N:=Z3 (all:=[⟨1,t.kids.length⟩,⟨2,u.kids.length⟩]) (fun s hs=>by
  simp at hs;rcases hs with rfl | rfl
  ·exact⟨by simp,by simp;omega⟩
  ·exact⟨by simp,by simp;omega⟩) (by simp)
 have N2:G.Spec Tryz.prog 120 [.sl true [.agg [iv 1,iv t.kids.length],.agg [iv 2,iv u.kids.length]]] (Od (Il (AO [⟨1,t.kids.length⟩,⟨2,u.kids.length⟩]))):=N.soft (by simp[A.softL,A.soft,Dp,He]);clear N;unfold Xo;generalize hx:Mo t=x at *;generalize hy:Mp t u=y at *;clear z1 z2;generalize (Br [] t.kids).2=X at *;generalize (Br (Br [] t.kids).1 u.kids).2=Y at *;generalize AO [⟨1,t.kids.length⟩,⟨2,u.kids.length⟩]=us at *;refine MS NG (by simp) (Af AJ (Af (CJ l r) (Af (CJ m s) Am))) Dl fun w0 I0 M0 m0 hM=>?_;unfold Hv;simp;refine Aw 5 nY (fun p=>by simp) rfl (by simp) ?_;simp;refine Se 5 6 (by decide) hK (fun p=>by simp) (fun p=>by simp) (by simp) (by simp) ?_;simp;refine Aw 0 (Ij v most) (fun p=>by simp) (by simp) (by simp) ?_;simp;refine Se 5 7 (by decide) hK2 (fun p=>by simp) (fun p=>by simp) (by simp) (by simp) ?_;simp;refine Aw 0 (Ij v most) (fun p=>by simp) (by simp) (by simp) ?_;simp;refine Cm (FW (d:=[6]) (fun b=>hM 6 [] b (by omega)) 8 (.sl false (X.map nv)) fun H1 g1=>?_) ?_
 ·simp;exact aE (by rw[g1];simp) l1.symm
 refine Cm (FW (d:=[7]) (fun b=>hM 7 [] b (by omega)) 10 (.sl false (Y.map nv)) fun H1 g1=>?_) ?_
 ·simp[upd];exact aE (by rw[g1];simp[Aa]) l2.symm
 refine Cm (Ao [(0,.pob [0] v 0),(4,.pob [1] 1 0),(5,.pob [2] 1 0),(8,.sl false (X.map nv)),(10,.sl false (Y.map nv))] (by simp[upd])) (CQ ?_);simp[Aa];refine Ae hD (by simp) ?_;by_cases hd:(B7 x y:Int)≤most
 ·simp[hd];exact AM (by simp) rfl (fun p=>by simp[Aa])
 ·simp[hd];refine Ae (Ea l r) (by simp) ?_;rw[Ht mt];simp;refine Ae (Ea m s) (by simp) ?_;rw[Ht mu];simp;refine Ae N2 (by simp) ?_;simp;exact AM (by simp) rfl (fun p=>by simp[Aa])
theorem XJ (e:E):EU (fun _=>eX e):=Ez (cs:=eL e) rfl fun x hx=>by simp at hx;rcases hx with rfl | rfl | rfl | rfl | rfl | rfl | rfl | rfl | rfl | rfl | rfl<;>rfl
theorem Hh (t:T) (h:t.kind=1) (i:Nat):(Ah t).kids.getD i T0=Ah (t.kids.getD i T0)∧(Ah t).words.getD i 0=t.words.getD i 0:=by
 obtain⟨k,w,l⟩:=t;have h:k=1:=h;subst h;rw[BS,if_neg (by decide),if_pos rfl];refine⟨?_,?_⟩
 ·show(BO (l.map Ah)).getD i T0=_;rw[Wm,FK _ (fun x hx h0=>?_) i,Gl]
  ·rfl
  ·obtain⟨y,_,rfl⟩:=List.mem_map.1 hx;simp at h0;exact G6 h0
 ·show(Cf w).getD i 0=_;rw[Wo];exact FK w (fun x _ h=>by simpa using h) i
def mE (u n:Nat) (k:A):List A:=[iv 2,iv 0,.sl true [],.sl true [],iv 0,.sl true [],.sl true [],.osl [6] u 4 0 n,k,iv 0,.sl true []]
structure wg (v:Nat) (most:Int) (l m:List (List Int)) (r s:Rf) (H:Hp):Prop where
 f:∀ p,H (0::p)=(Na v most).F 0 p
 g1:H [1]=⟨1,.cells (Yw l r)⟩
 g2:H [2]=⟨1,.cells (Yw m s)⟩
 g3:H [3]=⟨1,.cells BB⟩
section
variable {n0:Nat} {w0:World} {I0:Nat→Prop} {M0:Nm→Nat→Prop} {m0:Mu} {Q:Exit→Sta→Prop}
theorem Ae9 {l m:List (List Int)} (hl:Sg l) (hm:Sg m) {r s:Rf} {t u:T} (mt:AA l r t) (mu:AA m s u) {a b:T} (ha:BH a) (hb:BH b) (ea:∀ i:Nat,t.words.getD i 0=a.words.getD i 0) (eb:∀ i:Nat,u.words.getD i 0=b.words.getD i 0) {v:Nat} {most:Int} {N:Nat} (hN:N≤1000000)
  (hq:∀ (H':Hp) (x:Nat),wg v most l m r s H'→H' [4]=⟨1,.cells (mE x (D6 a b N).length (.sl true []))⟩→H' [6]=⟨x,.arr 4 ((D6 a b N).map wA)⟩→H' [7]=⟨0,.none⟩→H' [8]=⟨0,.none⟩ →
   Q (.exit 0) ⟨lk [(0,.pob [0] v 0),(4,.pob [1] 1 0),(5,.pob [2] 1 0),(6,.pob [3] 1 0),(7,.pob [4] 1 0),(18,iv N),(19,iv N),(20,bv false)],H'⟩) :
  ∀ (d i:Nat) (x:Nat) (H:Hp),i+d=N→wg v most l m r s H→H [4]=⟨1,.cells (mE x (D6 a b i).length (.sl true []))⟩→H [6]=⟨x,.arr 4 ((D6 a b i).map wA)⟩→H [7]=⟨0,.none⟩→H [8]=⟨0,.none⟩ →
  LoopC (DG Tryz.prog w0 I0 M0 n0 m0) Cr Q ⟨lk [(0,.pob [0] v 0),(4,.pob [1] 1 0),(5,.pob [2] 1 0),(6,.pob [3] 1 0),(7,.pob [4] 1 0),(18,iv N),(19,iv i)],H⟩:=by
 intro d;induction d with
 |zero=>
  intro i x H hd hH h4 h6 h7 h8;have:i=N:=by omega
  subst this;refine Ab Ai Cr.eq_1 ?_;simp;exact hq H x hH h4 h6 h7 h8
 |succ d ih=>
  intro i x H hd hH h4 h6 h7 h8;have hlt:i<N:=by omega
  have ew:=Av i;have hwa:Bw (a.words.getD i 0):=ZI ha i;have hwb:Bw (b.words.getD i 0):=ZI hb i;have hW:=Xh (i:=i) hwa hwb;have hwl:=Mq a b i;have next:=ih (i+1)
  rw[ME] at next
  have W1:=G3 hl (Cy mt) (i:Int);rw[Vt mt i,ea i] at W1;have W2:=G3 hm (Cy mu) (i:Int);rw[Vt mu i,eb i] at W2;have h1:=hH.g1;have h2:=hH.g2;refine Ab Ai Cr.eq_1 ?_;simp[hlt,h1,h2];refine Ae W1 (by simp) ?_;simp[h1,h2];refine Ae W2 (by simp) ?_;simp;refine Ae hW (by simp) ?_;generalize a.words.getD i 0=y at *;generalize b.words.getD i 0=z at *;by_cases hz:K5 y z=0
  ·rw[if_pos hz] at next
   simp[hz,Aa];rw[ew];refine next x _ (by omega) ⟨fun p=>by simp[Aa,hH.f],by simp[Aa,h1],by simp[Aa,h2],by simp[Aa,hH.g3]⟩ (by simp[Aa,h4]) (by simp[Aa,h6]) (by simp[Aa,h7]) (by simp[Aa,h8])
  ·rw[if_neg hz] at next
   simp[hz,Aa,h4,h6,mE];refine⟨by omega,?_⟩;rw[ew];refine next (x+1) _ (by omega) ⟨fun p=>by simp[Aa,hH.f],by simp[Aa,h1],by simp[Aa,h2],by simp[Aa,hH.g3]⟩ (by simp[Aa,mE]) (by simp[Aa,AL]) (by simp[Aa,h7]) (by simp[Aa,h8])
theorem Aem {l m:List (List Int)} (hl:Sg l) (hm:Sg m) {r s:Rf} {t u:T} (mt:AA l r t) (mu:AA m s u) {one:T→T→E} {a b:T} {v:Nat} {most:Int} {N:Nat} (hN:N≤1000000)
  (hone:∀ i:Nat,Bh Tryz.prog 48 (fun q=>[.pob [q] v 0,Hi l (CZ l r i).1,Hi m (CZ m s i).1]) (Na v most) (fun _=>eX (one (a.kids.getD i T0) (b.kids.getD i T0))) (Na v most)) {x n:Nat} {ws:List WE}
  (hq:∀ (H':Hp) (y:Nat),wg v most l m r s H'→H' [4]=⟨1,.cells (mE x n (.osl [8] y 12 0 (BW one a b N).length))⟩→H' [6]=⟨x,.arr 4 (ws.map wA)⟩→H' [8]=⟨y,.arr 12 ((BW one a b N).map kA)⟩ →
   Q (.exit 2) ⟨lk [(0,.pob [0] v 0),(4,.pob [1] 1 0),(5,.pob [2] 1 0),(6,.pob [3] 1 0),(7,.pob [4] 1 0),(47,iv N),(48,iv N),(49,bv false)],H'⟩) :
  ∀ (d i:Nat) (y:Nat) (H:Hp),i+d=N→wg v most l m r s H→H [4]=⟨1,.cells (mE x n (.osl [8] y 12 0 (BW one a b i).length))⟩→H [6]=⟨x,.arr 4 (ws.map wA)⟩→H [8]=⟨y,.arr 12 ((BW one a b i).map kA)⟩ →
  LoopC (DG Tryz.prog w0 I0 M0 n0 m0) Cz Q ⟨lk [(0,.pob [0] v 0),(4,.pob [1] 1 0),(5,.pob [2] 1 0),(6,.pob [3] 1 0),(7,.pob [4] 1 0),(47,iv N),(48,iv i)],H⟩:=by
 intro d;induction d with
 |zero=>
  intro i y H hd hH h4 h6 h8;have:i=N:=by omega
  subst this;refine Ab Ai Cz.eq_1 ?_;simp;exact hq H y hH h4 h6 h8
 |succ d ih=>
  intro i y H hd hH h4 h6 h8;have hlt:i<N:=by omega
  have ew:=Av i;have hO:=hone i;have hkl:=It one a b i;have next:=ih (i+1)
  rw[LA] at next
  have F1:=Ua hl (Cy mt) (i:Int) (Ku mt i).1 v most;have F2:=Ua hm (Cy mu) (i:Int) (Ku mu i).1 v most;generalize a.kids.getD i T0=p at *;generalize b.kids.getD i T0=q at *;generalize one p q=e at *;have h1:=hH.g1;have h2:=hH.g2;have hf:=hH.f;refine Ab Ai Cz.eq_1 ?_;simp[hlt,h1,h2];refine Aw 0 F1 (fun p=>by simp[hf]) (by simp) (by simp) ?_;simp[h1,h2];refine⟨rfl,?_⟩;refine Aw 0 F2 (fun p=>by simp) (by simp) (by simp) ?_;simp;refine Aw 0 hO (fun p=>by simp) (by simp) (by simp) ?_;by_cases hz:e.kind=0
  ·rw[if_pos hz] at next
   simp[hz,Aa];refine⟨rfl,?_⟩;rw[ew];refine next y _ (by omega) ⟨fun p=>by simp[Aa],by simp[Aa,h1],by simp[Aa,h2],by simp[Aa,hH.g3]⟩ (by simp[Aa,h4]) (by simp[Aa,h6]) (by simp[Aa,h8])
  ·rw[if_neg hz] at next
   simp[hz,Aa,h4,h8,mE];refine⟨rfl,by omega,?_⟩;rw[ew];refine next (y+1) _ (by omega) ⟨fun p=>by simp[Aa],by simp[Aa,h1],by simp[Aa,h2],by simp[Aa,hH.g3]⟩ (by simp[Aa,mE]) (by simp[Aa,h6]) (by simp[Aa,AL])
end
theorem sU {l:List (List Int)} (hl:Sg l) {r:Rf} {t:T} (mt:AA l r t) (h1:t.kind=1):G.Spec Tryz.prog 149 [Hi l r] (iv (Ah t).words.length):=by
 have:=Zi hl mt;rw[UK h1];exact this
theorem s7 {l:List (List Int)} (hl:Sg l) {r:Rf} {t:T} (mt:AA l r t) (h1:t.kind=1) (u:Nat) (most:Int):Bh Tryz.prog 151 (fun q=>[.pob [q] u 0,Hi l r]) (Na u most) (fun _=>iv (Ah t).kids.length) (Na u most):=by
 have:=iY hl mt u most;rw[UK h1];simp only[T.kids_mk,QB];exact this
theorem bP {l m:List (List Int)} (hl:Sg l) (hm:Sg m) {r s:Rf} {t u:T} (mt:AA l r t) (mu:AA m s u) (h1:t.kind=1) (h2:u.kind=1) {one:T→T→E} (b1:(Ah t).words.length≤1000000) (b2:(Ah u).words.length≤1000000) (b3:(Ah t).kids.length≤1000000) (b4:(Ah u).kids.length≤1000000) (v:Nat) (most:Int)
  (hone:∀ i:Nat,Bh Tryz.prog 48 (fun q=>[.pob [q] v 0,Hi l (CZ l r i).1,Hi m (CZ m s i).1]) (Na v most) (fun _=>eX (one (Ah (t.kids.getD i T0)) (Ah (u.kids.getD i T0)))) (Na v most)) :
  Bh Tryz.prog 96 (fun q=>[.pob [q] v 0,Hi l r,Hi m s]) (Na v most) (fun _=>eX (UG one (Ah t) (Ah u))) (Na v most):=by
 have L1:=sU hl mt h1;have L2:=sU hm mu h2;have W1:=s7 hl mt h1 v most;have W2:=s7 hm mu h2 v most;have wa:=GU _ (KI hl _ _ mt);have wb:=GU _ (KI hm _ _ mu);have ea:∀ i:Nat,t.words.getD i 0=(Ah t).words.getD i 0:=fun i=>(Hh t h1 i).2.symm;have eb:∀ i:Nat,u.words.getD i 0=(Ah u).words.getD i 0:=fun i=>(Hh u h2 i).2.symm;have hone':∀ i:Nat,Bh Tryz.prog 48 (fun q=>[.pob [q] v 0,Hi l (CZ l r i).1,Hi m (CZ m s i).1]) (Na v most) (fun _=>eX (one ((Ah t).kids.getD i T0) ((Ah u).kids.getD i T0))) (Na v most):=fun i=>by
  rw[(Hh t h1 i).1,(Hh u h2 i).1];exact hone i
 clear hone;generalize Ah t=a at *;generalize Ah u=b at *;refine MS KZ (by simp) (Af AJ (Af (CJ l r) (Af (CJ m s) Am))) (XJ _) fun w0 I0 M0 m0 hM=>?_;unfold Gq;simp;refine Ae L1 (by simp) ?_;simp;refine Ae L2 (by simp) ?_;simp;refine LoopC.le (Bu (d:=[4]) (u:=1) (cs:=[iv 2,iv 0,.sl true [],.sl true [],iv 0,.sl true [],.sl true [],.sl true [],.sl true [],iv 0,.sl true []]) 7 [6] 4 (by simp[Aa]) rfl (by simp)) ?_;refine LoopC.le (Ao [(0,.pob [0] v 0),(4,.pob [1] 1 0),(5,.pob [2] 1 0),(6,.pob [3] 1 0),(7,.pob [4] 1 0),(18,iv (max a.words.length b.words.length:Nat)),(19,iv (0:Nat))] (by simp;omega)) ?_;refine Ae9 hl hm mt mu wa wb ea eb (v:=v) (most:=most) (N:=max a.words.length b.words.length) (by omega) (fun H' x gH g4 g6 g7 g8=>?_) (max a.words.length b.words.length) 0 1 _ (by omega) ⟨fun p=>by simp[Aa],by simp[Aa],by simp[Aa],by simp[Aa,BB]⟩ (by simp[Aa,mE,D6]) (by simp[Aa,D6]) (by simp[Aa]) (by simp[Aa]);simp[gH.g1,gH.g2];refine Aw 0 W1 (fun p=>by simp[gH.f]) (by simp) (by simp) ?_;simp[gH.g2];refine⟨rfl,?_⟩;refine Aw 0 W2 (fun p=>by simp) (by simp) (by simp) ?_;simp;refine LoopC.le (Bu (d:=[4]) (u:=1) (cs:=mE x (D6 a b (max a.words.length b.words.length)).length (.sl true [])) 8 [8] 12 (by simp[g4]) rfl (by simp)) ?_;refine LoopC.le (Ao [(0,.pob [0] v 0),(4,.pob [1] 1 0),(5,.pob [2] 1 0),(6,.pob [3] 1 0),(7,.pob [4] 1 0),(47,iv (max a.kids.length b.kids.length:Nat)),(48,iv (0:Nat))] (by simp;omega)) ?_;refine Aem hl hm mt mu (one:=one) (a:=a) (b:=b) (v:=v) (most:=most) (N:=max a.kids.length b.kids.length) (by omega) hone' (ws:=D6 a b (max a.words.length b.words.length)) (x:=x) (n:=(D6 a b (max a.words.length b.words.length)).length) (fun H2 y kH k4 k6 k8=>?_) (max a.kids.length b.kids.length) 0 1 _ (by omega) ⟨fun p=>by simp[Aa],by simp[Aa,gH.g1],by simp[Aa,gH.g2],by simp[Aa,gH.g3]⟩ (by simp[Aa,mE,BW,g8]) (by simp[Aa,g6]) (by simp[Aa,BW,g8]);simp[k4,kH.g3,Aa,mE];refine⟨by simp[BB],?_⟩;obtain⟨H4,y1,y2⟩:=QU (c:=DG Tryz.prog w0 I0 M0 74 m0) (s:=lk [(6,.pob [3] 1 0)]) (H:=Ay H2 [3] ⟨1,.cells (mE x (D6 a b (max a.words.length b.words.length)).length (.osl [8] y 12 0 (BW one a b (max a.kids.length b.kids.length)).length))⟩) (fun r=>r=6∨r=8) (fun r p b h=>hM r p b (by omega)) (r0:=3) (p0:=[]) (by omega) (u:=1) (cs:=mE x (D6 a b (max a.words.length b.words.length)).length (.osl [8] y 12 0 (BW one a b (max a.kids.length b.kids.length)).length)) (by simp[Aa]) (cs':=eL (UG one a b)) (by simp[A.ones,UG]) (fun H1 h1=>⟨Ad rfl,Ad rfl,Ak,Ak,Ad rfl,Ak,Ak,Bx (f:=wA) (l:=D6 a b (max a.words.length b.words.length)) (by rw[h1 6 [] (by simp)];simp[Aa,k6]) rfl (fun x=>by simp),Bx (f:=kA) (l:=BW one a b (max a.kids.length b.kids.length)) (by rw[h1 8 [] (by simp)];simp[Aa,k8]) rfl (fun x=>by simp),Ad rfl,Ak,trivial⟩);refine PT y1 (AM (r0:=eX (UG one a b)) (by simp[O7]) rfl (fun p=>?_));have e1:=y2 0 p (by omega);rw[AH (by simp),kH.f] at e1;dsimp only;rw[AH (by simp),e1]
theorem HW {P:Program} {K:Sta→Prop} {rest:List CO} {s:Nat→A} {H:Hp} {dd:Option Nat} {nm:Nm} {ix:Nat} {un:List Nat} {l:Bool} {lg:Lg} {g:FuncId} {aa:Array Operand} {ts:Array TypeId} {ars:Nat→List A} {F:Fam} {x:Nat→A} (r:Nat) (hS:Bh P g ars F x F) (hF:∀ p,H (r::p)=F.F r p) (ha:aa.toList.map (evs s)=ars r) (hck:Ck un lg ⟨[([r],true)],[]⟩)
  (h:AB P K rest (BV l ix ⟨[([r],true)],[]⟩ lg) (Sta.put ⟨s,H⟩ dd (x r) H)) :
  AB P K (⟨dd,.call { callee:=.value (.func g),args:=aa,argTypes:=ts },none,nm,ix,un,l⟩::rest) lg ⟨s,H⟩:=by
 refine dW .nil [([r],true)] [] (fun H2 hag=>?_) (fun o H2 ho=>rfl) hck h;rw[ha];have hF2:∀ p,H2 (r::p)=F.F r p:=fun p=>by rw[hag (r::p) (by simp[Y8,W6,List.isPrefixOf]),hF]
 obtain⟨E,hc,hE⟩:=Y5 r hS hF2;have hc3:Yg P H2 g (ars r) (x r) E:=by
  rcases hc with ⟨_,_,_,_,h5⟩ | ⟨_,_,_,h4⟩ | ⟨h1,_⟩
  ·cases h5
  ·cases h4
  ·exact h1 H2 (fun o _=>rfl)
 have e2:ov r (F.F r) H2=H2:=by
  funext o;cases o with
  |nil=>rfl
  |cons j p=>
   by_cases hj:j=r
   ·subst hj;simp[hF2]
   ·simp[hj]
 rw[e2] at hE;refine⟨hc3.1,fun c w I μ vs a b d e=>?_⟩;have:=hc3.2 c w I μ vs a b d e;rw[hE] at this;exact this
theorem Px (l:List Sp):Gh 2 (l.map Dp)=true:=by rw[I7];simp[Dp,He]
def mj (k:Int) (u n:Nat):List A:=[iv 3,iv 0,.sl true [],.sl true [],iv 0,.sl true [],.sl true [],.sl true [],.sl true [],iv k,.osl [6] u 14 0 n]
section
variable {n0:Nat} {w0:World} {I0:Nat→Prop} {M0:Nm→Nat→Prop} {m0:Mu} {Q:Exit→Sta→Prop}
theorem uj {l m:List (List Int)} (hl:Sg l) (hm:Sg m) {r s:Rf} {t u:T} (mt:AA l r t) (mu:AA m s u) {v:Nat} {most:Int} (bt:t.kids.length≤100000) (bu:u.kids.length≤100000) {i g j w x:Nat} (b1:i+g≤t.kids.length) (b2:j+w≤u.kids.length) {I:List OP}
  (hG:G.Spec Tryz.prog 154 [iv t.kind,Bm (((t.kids.map Ah).drop i).take g),Bm (((u.kids.map Ah).drop j).take w),iv most] (MV I)) {its:List IT} (hn:its.length+I.length≤1000000000) {Sv:A} {H:Hp} (hH:wg v most l m r s H) (h4:H [4]=⟨1,.cells (mj t.kind x its.length)⟩) (h6:H [6]=⟨x,.arr 14 (its.map NF)⟩)
  (hq:∀ H':Hp,wg v most l m r s H'→H' [4]=⟨1,.cells (mj t.kind (x+1) (its++I.map IT.got).length)⟩→H' [6]=⟨x+1,.arr 14 ((its++I.map IT.got).map NF)⟩ →
   Q .normal ⟨lk [(0,.pob [0] v 0),(4,.pob [1] 1 0),(5,.pob [2] 1 0),(6,.pob [3] 1 0),(7,.pob [4] 1 0),(8,iv (i+g:Nat)),(9,iv (j+w:Nat)),(10,Sv)],H'⟩) :
  WPC (DG Tryz.prog w0 I0 M0 n0 m0) Dw Q ⟨lk [(0,.pob [0] v 0),(4,.pob [1] 1 0),(5,.pob [2] 1 0),(6,.pob [3] 1 0),(7,.pob [4] 1 0),(8,iv i),(9,iv j),(10,Sv),(12,iv g),(13,iv w)],H⟩:=by
 have K:=Ct l r;rw[CK mt] at K;have S1:=XM hl mt v most b1 (by omega);have S2:=XM hm mu v most b2 (by omega);have e1:i64.wrap ((i:Int)+g)=((i+g:Nat):Int):=AP;have e2:i64.wrap ((j:Int)+w)=((j+w:Nat):Int):=AP;have g1:=hH.g1;have g2:=hH.g2;have gf:=hH.f;have g0:H [0]=⟨v,.cells [iv most,iv 0]⟩:=by have:=hH.f [];simpa using this
 generalize ((t.kids.map Ah).drop i).take g=X at *;generalize ((u.kids.map Ah).drop j).take w=Y at *;rw[Dw.eq_1];simp[h4,g1,g2,mj,List.isPrefixOf];refine Ae K (by simp) ?_;simp[g1,List.isPrefixOf];refine HW 0 S1 gf (by simp) (by simp[List.isPrefixOf]) ?_;simp[g2,List.isPrefixOf];refine HW 0 S2 gf (by simp) (by simp[List.isPrefixOf]) ?_;simp[g0,List.isPrefixOf];refine Ae hG (by simp) ?_;simp[h4,h6,mj,Aa,CG,e1,e2,List.isPrefixOf];refine⟨by omega,?_⟩;rw[Int.natCast_add,Int.natCast_add] at hq;refine hq _ ⟨fun p=>by simp[Aa,gf],by simp[Aa,g1],by simp[Aa,g2],by simp[Aa,hH.g3]⟩ (by simp[Aa,mj]) ?_;rw[List.map_append,← QY];simp[Aa,AL,List.isPrefixOf]
theorem Adg {l m:List (List Int)} (hl:Sg l) (hm:Sg m) {r s:Rf} {t u:T} (mt:AA l r t) (mu:AA m s u) {v:Nat} {most:Int} (bt:t.kids.length≤100000) (bu:u.kids.length≤100000) {one:T→T→E}
  (hG:∀ X Y:List T,(∀ z,z ∈ X→z ∈ t.kids.map Ah)→(∀ z,z ∈ Y→z ∈ u.kids.map Ah)→X.length≤1000000→Y.length≤1000000→G.Spec Tryz.prog 154 [iv t.kind,Bm X,Bm Y,iv most] (MV (D8 one X Y))) {R:List OP}
  (hq:∀ (H':Hp) (its:List IT) (x:Nat) (st:List (Nat × A)),its.map IT.op=R→wg v most l m r s H'→H' [4]=⟨1,.cells (mj t.kind x its.length)⟩→H' [6]=⟨x,.arr 14 (its.map NF)⟩ →
   Q (.exit 0) ⟨lk ([(0,.pob [0] v 0),(4,.pob [1] 1 0),(5,.pob [2] 1 0),(6,.pob [3] 1 0),(7,.pob [4] 1 0)]++st),H'⟩) :
  ∀ (d:Nat) (S:List Sp) (i j x:Nat) (its:List IT) (H:Hp),S.length=d→(∀ z,z ∈ S→z.k≤2)→i+dA (AO S)≤t.kids.length→j+dB (AO S)≤u.kids.length→its.length+50*d≤1000000000→R=CX (D8 one) S ((t.kids.map Ah).drop i) ((u.kids.map Ah).drop j) (its.map IT.op)→wg v most l m r s H→H [4]=⟨1,.cells (mj t.kind x its.length)⟩→H [6]=⟨x,.arr 14 (its.map NF)⟩ →
  LoopC (DG Tryz.prog w0 I0 M0 n0 m0) Be Q ⟨lk [(0,.pob [0] v 0),(4,.pob [1] 1 0),(5,.pob [2] 1 0),(6,.pob [3] 1 0),(7,.pob [4] 1 0),(8,iv i),(9,iv j),(10,Od S)],H⟩:=by
 have tm:∀ (i g:Nat),(∀ z,z ∈ ((t.kids.map Ah).drop i).take g→z ∈ t.kids.map Ah)∧(((t.kids.map Ah).drop i).take g).length≤1000000:=fun i g=>⟨fun z hz=>TK (Oh hz),by simp;omega⟩;have um:∀ (i g:Nat),(∀ z,z ∈ ((u.kids.map Ah).drop i).take g→z ∈ u.kids.map Ah)∧(((u.kids.map Ah).drop i).take g).length≤1000000:=fun i g=>⟨fun z hz=>TK (Oh hz),by simp;omega⟩;have hGG:∀ i g j w:Nat,G.Spec Tryz.prog 154 [iv t.kind,Bm (((t.kids.map Ah).drop i).take g),Bm (((u.kids.map Ah).drop j).take w),iv most] (MV (D8 one (((t.kids.map Ah).drop i).take g) (((u.kids.map Ah).drop j).take w))):=fun i g j w=>hG _ _ (tm i g).1 (um j w).1 (tm i g).2 (um j w).2;have dr:∀ (L:List T) (i n:Nat),(L.drop i).drop n=L.drop (i+n):=fun L i n=>by rw[List.drop_drop]
 intro d;induction d using Nat.strongRecOn with
 |_ d ih=>
 intro S i j x its H hd hS2 hA hB hn hR hH h4 h6;have h0:H [0]=⟨v,.cells [iv most,iv 0]⟩:=by have:=hH.f [];simpa using this
 cases S with
 |nil=>
  refine Ab Ai Be.eq_1 ?_;simp[List.isPrefixOf];refine hq H its x [(8,iv i),(9,iv j),(10,Od []),(30,bv false)] ?_ hH h4 h6;rw[hR,CX]
 |cons z S=>
  rw[List.length_cons] at hd;have hk:=hS2 z (by simp);have hS3:∀ y,y ∈ S→y.k≤2:=fun y hy=>hS2 y (by simp[hy]);rw[Az,DD,Eg] at hA;rw[Az,DF,D7] at hB;have hpos:(0:Int)<(S.length:Int)+1:=by omega
  have hpos':0<S.length+1:=by omega
  have hl1:(1:Int)≤(S.length:Int)+1:=by omega
  have hl2:List.take S.length (S.map Dp)=S.map Dp:=AL (by simp);have hk3:z.k=0∨z.k=1∨z.k=2:=by omega
  rcases hk3 with h | h | h
  ·rw[T5 h,dr,dr] at hR;rw[if_neg (by omega)] at hA hB;have e1:i64.wrap ((i:Int)+z.n)=((i+z.n:Nat):Int):=AP;have e2:i64.wrap ((j:Int)+z.n)=((j+z.n:Nat):Int):=AP;refine Ab Ai Be.eq_1 ?_;simp[h0,hpos,hpos',hl1,slS,hl2,Px,Dp,He,h,h4,h6,mj,Aa,CG,e1,e2,List.isPrefixOf];refine⟨by omega,?_⟩;have nx:=fun H'=>ih S.length (by omega) S (i+z.n) (j+z.n) (x+1) (its++[IT.r (RI.keep (z.n:Int))]) H' rfl hS3 (by omega) (by omega) (by simp;omega) (by rw[hR];simp[IT.op,RI.op]);rw[Int.natCast_add,Int.natCast_add] at nx;refine nx _ ⟨fun p=>by simp[Aa,hH.f],by simp[Aa,hH.g1],by simp[Aa,hH.g2],by simp[Aa,hH.g3]⟩ (by simp[Aa,mj]) ?_;simp[Aa,AL,NF,Zw,Ra,BB,List.isPrefixOf]
  ·rw[h] at hA hB;simp at hA hB;by_cases hg2:∃ (z2:Sp) (S2:List Sp),S=z2::S2∧z2.k=2
   ·obtain⟨z2,S2,rfl,h2⟩:=hg2;rw[SN h h2,dr,dr] at hR;rw[Az,DD,Eg] at hA;rw[Az,DF,D7] at hB;rw[h2] at hA hB;simp at hA hB;have gl:=OE one (((t.kids.map Ah).drop i).take z.n) (((u.kids.map Ah).drop j).take z2.n);have p1:(0:Int)<(S2.length:Int)+1+1:=by omega
    have p2:(0:Int)<(S2.length:Int)+1:=by omega
    have p3:0<S2.length+1+1:=by omega
    have p4:0<S2.length+1:=by omega
    have p5:(1:Int)≤(S2.length:Int)+1+1:=by omega
    have p6:(1:Int)≤(S2.length:Int)+1:=by omega
    have p7:List.take S2.length (S2.map Dp)=S2.map Dp:=AL (by simp);have G1:=hGG i z.n j z2.n;refine Ab Ai Be.eq_1 ?_;simp[h0,p1,p2,p3,p4,p5,p6,p7,slS,Px,Dp,He,h,h2,Aa,List.isPrefixOf];simp only[List.length_cons] at hd hn;refine uj hl hm mt mu bt bu (by omega) (by omega) G1 (by omega) (x:=x) (its:=its) ⟨fun p=>by simp[Aa,hH.f],by simp[Aa,hH.g1],by simp[Aa,hH.g2],by simp[Aa,hH.g3]⟩ (by simp[Aa,h4]) (by simp[Aa,h6]) (fun H' kH k4 k6=>?_);simp[List.isPrefixOf];exact ih S2.length (by omega) S2 (i+z.n) (j+z2.n) (x+1) _ H' rfl (fun y hy=>hS3 y (by simp[hy])) (by omega) (by omega) (by simp;omega) (by rw[hR,List.map_append,Ts]) kH k4 k6
   ·have hnd:∀ s2 r,S=s2::r→s2.k ≠ 2:=fun s2 r e h4=>hg2 ⟨s2,r,e,h4⟩;rw[WH h hnd,dr] at hR;have gd:D8 one (((t.kids.map Ah).drop i).take z.n) (((u.kids.map Ah).drop j).take 0)=De (((t.kids.map Ah).drop i).take z.n):=by rw[List.take_zero,Ul]
    have G1:=hGG i z.n j 0;rw[gd] at G1;have dl:(De (((t.kids.map Ah).drop i).take z.n)).length≤1:=by unfold De;split<;>simp
    have fin:∀ (H1:Hp),wg v most l m r s H1→H1 [4]=⟨1,.cells (mj t.kind x its.length)⟩→H1 [6]=⟨x,.arr 14 (its.map NF)⟩→∀ Q':Exit→Sta→Prop,(∀ st,LoopC (DG Tryz.prog w0 I0 M0 n0 m0) Be Q st→Q' .normal st)→WPC (DG Tryz.prog w0 I0 M0 n0 m0) Dw Q' ⟨lk [(0,.pob [0] v 0),(4,.pob [1] 1 0),(5,.pob [2] 1 0),(6,.pob [3] 1 0),(7,.pob [4] 1 0),(8,iv i),(9,iv j),(10,Od S),(12,iv z.n),(13,iv (0:Nat))],H1⟩:=fun H1 a1 a4 a6 Q' hQ=>
     uj hl hm mt mu bt bu (by omega) (by omega) G1 (by omega) (x:=x) (its:=its) a1 a4 a6 (fun H' kH k4 k6=>hQ _ (ih S.length (by omega) S (i+z.n) (j+0) (x+1) _ H' rfl hS3 (by omega) (by omega) (by simp;omega) (by rw[hR,List.map_append,Ts];rfl) kH k4 k6))
    cases S with
    |nil=>
     refine Ab Ai Be.eq_1 ?_;simp[h0,Dp,He,h,Aa,List.isPrefixOf];refine fin _ ⟨fun p=>by simp[Aa,hH.f],by simp[Aa,hH.g1],by simp[Aa,hH.g2],by simp[Aa,hH.g3]⟩ (by simp[Aa,h4]) (by simp[Aa,h6]) _ fun st h=>?_;simpa using h
    |cons z2 S2=>
     have p1:(0:Int)<(S2.length:Int)+1+1:=by omega
     have p2:(0:Int)<(S2.length:Int)+1:=by omega
     have p3:0<S2.length+1+1:=by omega
     have p4:0<S2.length+1:=by omega
     have p5:(1:Int)≤(S2.length:Int)+1+1:=by omega
     have p7:List.take S2.length (S2.map Dp)=S2.map Dp:=AL (by simp);have q1:¬ z2.k=2:=hnd z2 S2 rfl;have q2:¬ (z2.k:Int)=2:=by omega
     refine Ab Ai Be.eq_1 ?_;simp[h0,p1,p2,p3,p4,p5,p7,slS,Px,Dp,He,h,q1,q2,Aa,List.isPrefixOf];refine fin _ ⟨fun p=>by simp[Aa,hH.f],by simp[Aa,hH.g1],by simp[Aa,hH.g2],by simp[Aa,hH.g3]⟩ (by simp[Aa,h4]) (by simp[Aa,h6]) _ fun st h=>?_;simpa using h
  ·rw[WN h,dr] at hR;rw[h] at hA hB;simp at hA hB;have gd:D8 one (((t.kids.map Ah).drop i).take 0) (((u.kids.map Ah).drop j).take z.n)=Dn (((u.kids.map Ah).drop j).take z.n):=by rw[List.take_zero,XK]
   have G1:=hGG i 0 j z.n;rw[gd] at G1;have dl:(Dn (((u.kids.map Ah).drop j).take z.n)).length≤1:=by unfold Dn;split<;>simp
   refine Ab Ai Be.eq_1 ?_;simp[h0,hpos,hpos',hl1,slS,hl2,Px,Dp,He,h,Aa,List.isPrefixOf];refine uj (g:=0) hl hm mt mu bt bu (by omega) (by omega) G1 (by omega) (x:=x) (its:=its) ⟨fun p=>by simp[Aa,hH.f],by simp[Aa,hH.g1],by simp[Aa,hH.g2],by simp[Aa,hH.g3]⟩ (by simp[Aa,h4]) (by simp[Aa,h6]) (fun H' kH k4 k6=>?_);simp[List.isPrefixOf];exact ih S.length (by omega) S (i+0) (j+z.n) (x+1) _ H' rfl hS3 (by omega) (by omega) (by simp;omega) (by rw[hR,List.map_append,Ts];rfl) kH k4 k6
end
theorem nZ (most:Int) (t u:T):(∀ s,s ∈ Xo most t u→s.k≤2)∧dA (AO (Xo most t u))=t.kids.length∧dB (AO (Xo most t u))=u.kids.length∧(Xo most t u).length≤t.kids.length+u.kids.length:=by
 have e1:(Mo t).length=t.kids.length:=by simp[Mo,qE,BA]
 have e2:(Mp t u).length=u.kids.length:=by simp[Mp,qE,BA]
 have wd:=WL (Mo t) (Mp t u);have wi:=Sq (Mo t) (Mp t u);have wn:=Q7 _ wi;have ui:∀ x,x ∈ AO [⟨1,t.kids.length⟩,⟨2,u.kids.length⟩]→x≤2:=fun x hx=>by
  rw[Az,Az,ED,List.append_nil] at hx;rcases List.mem_append.1 hx with h | h<;>(have h':=List.eq_of_mem_replicate h;simp at h';omega)
 have ud:=Q7 _ ui;have ua:dA (AO [⟨1,t.kids.length⟩,⟨2,u.kids.length⟩])=t.kids.length:=by
  rw[Az,Az,ED,DD,DD,Eg,Eg];simp[dA]
 have ub:dB (AO [⟨1,t.kids.length⟩,⟨2,u.kids.length⟩])=u.kids.length:=by
  rw[Az,Az,ED,DF,DF,D7,D7];simp[dB]
 unfold Xo;split
 ·have:=Ih _ (O9 wi);exact⟨fun s hs=>(O9 wi s hs).1,by omega,by omega,by omega⟩
 ·have:=Ih _ (O9 ui);exact⟨fun s hs=>(O9 ui s hs).1,by omega,by omega,by omega⟩
theorem ph {t u:T} (h0:t.kind ≠ 0) (h1:t.kind ≠ 1) (hk:u.kind=t.kind) (one:T→T→E) (most:Int):JG one most (Ah t) (Ah u) = .mk 3 T0 T0 [] [] t.kind (CX (D8 one) (Xo most t u) (t.kids.map Ah) (u.kids.map Ah) []):=by
 have nk:∀ y:T,y.kind ≠ 0→y.kind ≠ 1→(Ah y).kids=y.kids.map Ah∧(Ah y).kind=y.kind:=fun y a b=>by
  obtain⟨k,w,l⟩:=y;simp only[T.kind_mk] at a b;rw[BS,if_neg a,if_neg b];exact⟨rfl,rfl⟩
 obtain⟨t1,t2⟩:=nk t h0 h1;obtain⟨u1,u2⟩:=nk u (by omega) (by omega);have c1:Mo (Ah t)=Mo t:=by unfold Mo;rw[t1,PM]
 have c2:Mp (Ah t) (Ah u)=Mp t u:=by unfold Mp;rw[t1,u1,PM,PM]
 unfold JG Xo;rw[c1,c2,t1,u1,t2];congr 1;split
 ·rfl
 ·have:=fR one (t.kids.map Ah) (u.kids.map Ah);rw[List.length_map,List.length_map] at this;exact this.symm
theorem ir {l m:List (List Int)} (hl:Sg l) (hm:Sg m) {r s:Rf} {t u:T} (mt:AA l r t) (mu:AA m s u) (h0:t.kind ≠ 0) (h1:t.kind ≠ 1) (hk:u.kind=t.kind) (bt:t.kids.length≤100000) (bu:u.kids.length≤100000) (v:Nat) {most:Int} (hmost:B9 most) {one:T→T→E}
  (hone:∀ x,x ∈ t.kids.map Ah→∀ y,y ∈ u.kids.map Ah→G.Spec Tryz.prog 30 [tX x,tX y,iv most] (eX (one x y))) :
  Bh Tryz.prog 97 (fun q=>[.pob [q] v 0,Hi l r,Hi m s]) (Na v most) (fun _=>eX (JG one most (Ah t) (Ah u))) (Na v most):=by
 have wt:=(wfT_iff.1 (KI hl _ _ mt)).ks;have wu:=(wfT_iff.1 (KI hm _ _ mu)).ks;have nt:∀ z,z ∈ t.kids.map Ah→BH z:=fun z hz=>by
  obtain⟨y,hy,rfl⟩:=List.mem_map.1 hz;exact GU _ (wt y hy)
 have nu:∀ z,z ∈ u.kids.map Ah→BH z:=fun z hz=>by
  obtain⟨y,hy,rfl⟩:=List.mem_map.1 hz;exact GU _ (wu y hy)
 have hG:∀ X Y:List T,(∀ z,z ∈ X→z ∈ t.kids.map Ah)→(∀ z,z ∈ Y→z ∈ u.kids.map Ah)→X.length≤1000000→Y.length≤1000000→G.Spec Tryz.prog 154 [iv t.kind,Bm X,Bm Y,iv most] (MV (D8 one X Y)):=fun X Y hX hY lX lY=>Zj (fun z hz=>nt z (hX z hz)) (fun z hz=>nu z (hY z hz)) lX lY fun x hx y hy=>hone x (hX x hx) y (hY y hy);obtain⟨q1,q2,q3,q4⟩:=nZ most t u;have K:=Ct l r;rw[CK mt] at K;have SC:=cp hl hm mt mu v hmost bt bu;rw[ph h0 h1 hk];generalize hR:CX (D8 one) (Xo most t u) (t.kids.map Ah) (u.kids.map Ah) []=R;generalize Xo most t u=S at *;refine MS Pe (by simp) (Af AJ (Af (CJ l r) (Af (CJ m s) Am))) (XJ _) fun w0 I0 M0 m0 hM=>?_;unfold IX;simp;refine Ae K (by simp) ?_;simp;refine Aw 0 SC (fun p=>by simp[Aa]) (by simp) (by simp) ?_;simp;refine LoopC.le (Bu (d:=[4]) (u:=1) (cs:=[iv 3,iv 0,.sl true [],.sl true [],iv 0,.sl true [],.sl true [],.sl true [],.sl true [],iv t.kind,.sl true []]) 10 [6] 14 (by simp[Aa]) rfl (by simp)) ?_;refine LoopC.le (Ao [(0,.pob [0] v 0),(4,.pob [1] 1 0),(5,.pob [2] 1 0),(6,.pob [3] 1 0),(7,.pob [4] 1 0),(8,iv (0:Nat)),(9,iv (0:Nat)),(10,Od S)] (by simp)) ?_;refine Adg hl hm mt mu (v:=v) (most:=most) bt bu hG (R:=R) (fun H' its x st hI kH k4 k6=>?_) S.length S 0 0 1 [] _ rfl q1 (by omega) (by omega) (by simp;omega) (by rw[← hR];simp) ⟨fun p=>by simp[Aa],by simp[Aa],by simp[Aa],by simp[Aa,BB]⟩ (by simp[Aa,mj]) (by simp[Aa]);simp[k4,kH.g3,Aa,mj];refine⟨by simp[BB],?_⟩;obtain⟨H4,y1,y2⟩:=QU (c:=DG Tryz.prog w0 I0 M0 106 m0) (s:=lk [(6,.pob [3] 1 0)]) (H:=Ay H' [3] ⟨1,.cells (mj t.kind x its.length)⟩) (fun r=>r=6) (fun r p b h=>hM r p b (by omega)) (r0:=3) (p0:=[]) (by omega) (u:=1) (cs:=mj t.kind x its.length) (by simp[Aa]) (cs':=eL (.mk 3 T0 T0 [] [] t.kind R)) (by simp[A.ones]) (fun H1 h1=>⟨Ad rfl,Ad rfl,Ak,Ak,Ad rfl,Ak,Ak,Ak,Ak,Ad rfl,by rw[← hI];exact R7 (by rw[h1 6 [] rfl];simp[Aa,k6]) rfl,trivial⟩);refine PT y1 (AM (r0:=eX (.mk 3 T0 T0 [] [] t.kind R)) (by simp[O7]) rfl (fun p=>?_));have e1:=y2 0 p (by omega);rw[AH (by simp),kH.f] at e1;dsimp only;rw[AH (by simp),e1]
theorem Y7 {n0:Nat} {w0:World} {I0:Nat→Prop} {M0:Nm→Nat→Prop} {m0:Mu} {v:Nat} {most:Int} {e:E} {cs:List A} {H:Hp} (h3:H [3]=⟨1,.cells cs⟩) (hf:∀ H1:Hp,G9 H1 cs (eL e)) (hF:∀ p,H (0::p)=(Na v most).F 0 p):Nt (DG Tryz.prog w0 I0 M0 n0 m0) [.cell 6 33] 1 (eX e) (ov 0 ((Na v most).F 0) (EH [])) .ret ⟨lk [(6,.pob [3] 1 0)],H⟩:=by
 obtain⟨H2,g1,g2⟩:=QU (c:=DG Tryz.prog w0 I0 M0 n0 m0) (s:=lk [(6,.pob [3] 1 0)]) (H:=H) (fun _=>False) (fun _ _ _ h=>h.elim) (r0:=3) (p0:=[]) (by simp) h3 (cs':=eL e) (by simp[A.ones]) (fun H1 _=>hf H1);refine PT g1 (AM (r0:=eX e) (by simp[O7]) rfl (fun p=>?_));have e1:=g2 0 p (by simp);rw[hF] at e1;dsimp only;rw[AH (by simp),e1]
theorem j6 (H1:Hp):G9 H1 BB (eL E0):=by
 have hE:eL E0=[iv 0,iv 0,.sl false [],.sl false [],iv 0,.sl false [],.sl false [],.sl false [],.sl false [],iv 0,.sl false []]:=by simp[E0]
 rw[hE];exact⟨Ad rfl,Ad rfl,Ak,Ak,Ad rfl,Ak,Ak,Ak,Ak,Ad rfl,Ak,trivial⟩
theorem eE (H1:Hp) (e:E):G9 H1 (eL e) (eL e):=M8 (by simp)
theorem Zk {l m:List (List Int)} (hl:Sg l) (hm:Sg m) {r s:Rf} {t u:T} (mt:AA l r t) (mu:AA m s u) {X Y:E} (v:Nat) (most:Int)
  (hs:t.kind=1→u.kind=1→Bh Tryz.prog 96 (fun q=>[.pob [q] v 0,Hi l r,Hi m s]) (Na v most) (fun _=>eX X) (Na v most))
  (hL:t.kind=u.kind→2≤t.kind→t.kind≤9→Bh Tryz.prog 97 (fun q=>[.pob [q] v 0,Hi l r,Hi m s]) (Na v most) (fun _=>eX Y) (Na v most)) :
  Bh Tryz.prog 48 (fun q=>[.pob [q] v 0,Hi l r,Hi m s]) (Na v most) (fun _=>eX (if LK t u=true then E0 else if t.kind=1∧u.kind=1 then X else if t.kind=u.kind∧2≤t.kind∧t.kind≤9 then Y else .mk 1 (Ah t) (Ah u) [] [] 0 [])) (Na v most):=by
 have SA:=kj hl hm mt mu v most;have T1:=Rr hl mt v most;have T2:=Rr hm mu v most;have K1:=Ct l r;rw[CK mt] at K1;have K2:=Ct m s;rw[CK mu] at K2;refine AE P6 (by simp) (Af AJ (Af (CJ l r) (Af (CJ m s) Am))) (XJ _) fun w0 I0 M0 m0=>?_;unfold Ju;simp[List.isPrefixOf];rw[AU];simp[List.isPrefixOf];refine HW 0 SA (fun p=>by simp[Aa]) (by simp) (by simp[List.isPrefixOf]) ?_;cases he:LK t u with
 |true=>
  simp[List.isPrefixOf];refine Y7 (cs:=BB) (by simp[Aa,BB]) j6 (fun p=>by simp[Aa])
 |false=>
  have raw:∀ (c:Cx) (H:Hp),H [1]=⟨1,.cells (Yw l r)⟩→H [2]=⟨1,.cells (Yw m s)⟩→H [3]=⟨1,.cells BB⟩→(∀ p,H (0::p)=(Na v most).F 0 p)→True:=fun _ _ _ _ _ _=>trivial;simp[List.isPrefixOf];refine Ae K1 (by simp) ?_;by_cases h1:t.kind=1
  ·simp[h1];rw[AU];simp[List.isPrefixOf];refine Ae K2 (by simp) ?_;by_cases h2:u.kind=1
   ·have S:=hs h1 h2;simp[h2,List.isPrefixOf];refine HW 0 S (fun p=>by simp[Aa]) (by simp) (by simp[List.isPrefixOf]) ?_;simp[List.isPrefixOf];refine Y7 (cs:=eL X) (by simp[Aa]) (fun H1=>eE H1 X) (fun p=>by simp[Aa])
   ·have hne:¬ (1:Int)=u.kind:=fun e=>h2 e.symm;simp[h2,List.isPrefixOf];refine Ae K1 (by simp) ?_;simp[h1,List.isPrefixOf];refine Ae K2 (by simp) ?_;simp[h1,hne,List.isPrefixOf];refine AY rfl ?_;simp[List.isPrefixOf];refine AY rfl ?_;simp[List.isPrefixOf];refine HW 0 T1 (fun p=>by simp[Aa]) (by simp) (by simp[List.isPrefixOf]) ?_;simp[List.isPrefixOf];refine HW 0 T2 (fun p=>by simp[Aa]) (by simp) (by simp[List.isPrefixOf]) ?_;simp[List.isPrefixOf];refine Y7 (cs:=[iv 1,iv (Ah t).kind,Dz (Ah t).words,Bm (Ah t).kids,iv (Ah u).kind,Dz (Ah u).words,Bm (Ah u).kids,.sl true [],.sl true [],iv 0,.sl true []]) (by simp[Aa,h1]) (fun H1=>⟨Ad rfl,Ad rfl,Ad rfl,Ad rfl,Ad rfl,Ad rfl,Ad rfl,Ak,Ak,Ad rfl,Ak,trivial⟩) (fun p=>by simp[Aa])
  ·simp[h1];refine AY rfl ?_;simp[List.isPrefixOf];refine Ae K1 (by simp) ?_;simp[List.isPrefixOf];refine Ae K2 (by simp) ?_;by_cases h3:t.kind=u.kind
   ·simp[h3];rw[AU];simp[List.isPrefixOf];refine Ae K1 (by simp) ?_;simp[List.isPrefixOf];rw[AU];simp[List.isPrefixOf];refine Ae (Yn t.kind) (by simp) ?_;by_cases h5:2≤t.kind∧t.kind≤9
    ·have S:=hL h3 h5.1 h5.2;have h5':2≤u.kind∧u.kind≤9:=by omega
     have h1':¬ u.kind=1:=by omega
     simp[h5.1,h5.2,h5'.1,h5'.2,h1',List.isPrefixOf];refine HW 0 S (fun p=>by simp[Aa]) (by simp) (by simp[List.isPrefixOf]) ?_;simp[List.isPrefixOf];refine Y7 (cs:=eL Y) (by simp[Aa]) (fun H1=>eE H1 Y) (fun p=>by simp[Aa])
    ·have h6:(decide (2≤t.kind)&&decide (t.kind≤9))=false:=by
      rw[Bool.eq_false_iff];simpa using h5
     have h1':¬ u.kind=1:=by omega
     have h5':¬ (2≤u.kind∧u.kind≤9):=by omega
     rw[h6];simp[h5',h1',List.isPrefixOf];refine HW 0 T1 (fun p=>by simp[Aa]) (by simp) (by simp[List.isPrefixOf]) ?_;simp[List.isPrefixOf];refine HW 0 T2 (fun p=>by simp[Aa]) (by simp) (by simp[List.isPrefixOf]) ?_;simp[List.isPrefixOf];refine Y7 (cs:=[iv 1,iv (Ah t).kind,Dz (Ah t).words,Bm (Ah t).kids,iv (Ah u).kind,Dz (Ah u).words,Bm (Ah u).kids,.sl true [],.sl true [],iv 0,.sl true []]) (by simp[Aa,h3]) (fun H1=>⟨Ad rfl,Ad rfl,Ad rfl,Ad rfl,Ad rfl,Ad rfl,Ad rfl,Ak,Ak,Ad rfl,Ak,trivial⟩) (fun p=>by simp[Aa])
   ·simp[h3];refine AY rfl ?_;simp[List.isPrefixOf];refine AY rfl ?_;simp[List.isPrefixOf];refine HW 0 T1 (fun p=>by simp[Aa]) (by simp) (by simp[List.isPrefixOf]) ?_;simp[List.isPrefixOf];refine HW 0 T2 (fun p=>by simp[Aa]) (by simp) (by simp[List.isPrefixOf]) ?_;simp[List.isPrefixOf];refine Y7 (cs:=[iv 1,iv (Ah t).kind,Dz (Ah t).words,Bm (Ah t).kids,iv (Ah u).kind,Dz (Ah u).words,Bm (Ah u).kids,.sl true [],.sl true [],iv 0,.sl true []]) (by simp[Aa]) (fun H1=>⟨Ad rfl,Ad rfl,Ad rfl,Ad rfl,Ad rfl,Ad rfl,Ad rfl,Ak,Ak,Ad rfl,Ak,trivial⟩) (fun p=>by simp[Aa])
theorem tu (t u:T):LK (Ah t) (Ah u)=LK t u:=by
 unfold LK;rw[Ka,Ka]
theorem nR {f:Nat} {t:T} (h:Wr (f+1) (Ah t)) (h1:t.kind=1) (i:Nat):Wr f (Ah (t.kids.getD i T0)):=by
 rw[← (Hh t h1 i).1];exact L9 h i
theorem Zm {l m:List (List Int)} (hl:Sg l) (hm:Sg m) (v:Nat) {most:Int} (hmost:B9 most):∀ (f g:Nat) (t u:T) (r s:Rf),AA l r t→AA m s u→Wr f (Ah t)→Wr g (Ah u) →
  Bh Tryz.prog 48 (fun q=>[.pob [q] v 0,Hi l r,Hi m s]) (Na v most) (fun _=>eX (MR most f (Ah t) (Ah u))) (Na v most)
 |0,g,t,u,r,s,mt,mu,ha,hb=>by
  have hk:t.kind=0:=by
   have e:Ah t=T0:=ha;have:=congrArg T.kind e;simpa using this
  have:=Zk hl hm mt mu (X:=E0) (Y:=E0) v most (fun h=>by omega) (fun _ h=>by omega);rw[if_neg (show ¬ (t.kind=1∧u.kind=1) by omega),if_neg (show ¬ (t.kind=u.kind∧2≤t.kind∧t.kind≤9) by omega)] at this;rw[MR,tu];exact this
 |f+1,g,t,u,r,s,mt,mu,ha,hb=>by
  obtain⟨a1,a2,a3,a4⟩:=Bn ha;obtain⟨b1,b2,b3,b4⟩:=Bn hb;have:=Zk hl hm mt mu (X:=UG (MR most f) (Ah t) (Ah u)) (Y:=JG (MR most f) most (Ah t) (Ah u)) v most (fun h1 h2=>?_) (fun h1 h2 h3=>?_)
  ·rw[MR,tu,CB,CB];exact this
  ·refine bP hl hm mt mu h1 h2 (by omega) (by omega) (by omega) (by omega) v most fun i=>?_;refine Zm hl hm v hmost f (g-1) _ _ _ _ (Ku mt i).2 (Ku mu i).2 (nR ha h1 i) ?_;rw[← (Hh u h2 i).1];exact L9 hb i
  ·have t1:=ZT (t:=t) (by omega) (by omega);have u1:=ZT (t:=u) (by omega) (by omega);rw[t1,List.length_map] at a4;rw[u1,List.length_map] at b4;refine ir hl hm mt mu (by omega) (by omega) h1.symm (by omega) (by omega) v hmost fun x hx y hy=>?_;rw[← t1] at hx;rw[← u1] at hy;exact UD hmost f (g-1) _ _ (CW ha x hx) (CW hb y hy)
theorem X6 {l m:List (List Int)} (hl:Sg l) (hm:Sg m) {r s:Rf} {t u:T} (mt:AA l r t) (mu:AA m s u) {most:Int} (hmost:B9 most) (oa:Wr 1000 (Ah t)) (ob:Wr 1000 (Ah u)) :
  G.Spec Tryz.prog 22 [Hi l r,Hi m s,iv most] (.tup [eX (uW most t u),iv 0]):=by
 have F1:=Zm hl hm 1 hmost 1000 1000 t u r s mt mu oa ob;have h2:=kF _ (Tj most 1000 1000 _ _ oa ob);unfold uW;generalize MR most 1000 (Ah t) (Ah u)=e at *;refine Aj VS (by simp) fun w0 I0=>?_;unfold NR;simp;refine Aw 3 F1 (fun p=>?_) (by simp) (by simp) ?_
 ·by_cases hp:p=[]
  ·subst hp;simp[Aa]
  ·simp[Aa,hp,Ne.symm hp]
 ·simp[Aa];refine Ae h2 (by simp) ?_;simp[Aa];exact J1 ⟨Ad (by simp),Ad rfl,trivial⟩
theorem bd {l m:List (List Int)} (hl:Sg l) (hm:Sg m) {r s:Rf} {t u:T} (mt:AA l r t) (mu:AA m s u) {most:Int} (hmost:B9 most) (pt:Gu t≤1000) (pu:Gu u≤1000) :
  G.Spec Tryz.prog 22 [Hi l r,Hi m s,iv most] (.tup [eX (uW most t u),iv 0]):=
 X6 hl hm mt mu hmost (F5 t (KI hl _ _ mt) pt 1000 pt) (F5 u (KI hm _ _ mu) pu 1000 pu)
theorem Lo {l:List (List Int)} (hs:Sg l) (hl:l.length*24≤140737488355328):G.Spec Tryz.prog 23 [vK l] (Hi l (Oi l 0 0).1):=by
 refine Aj S9 (by simp) fun w0 I0=>?_;unfold LH;simp;refine Ae (xp l hl hs.b) rfl ?_;simp;refine Ae (nM hs) rfl ?_;simp;exact Ad (by simp)
theorem Ss {t:T} (h:BH t):G.Spec Tryz.prog 20 [tX t] (bv (decide (0≤DJ 70 400 t))):=by
 refine Aj Rn (by simp) fun w0 I0=>?_;unfold Kd;simp;refine Ae (cC t h 70 400 (by omega) (by omega) (by omega)) (by simp) ?_;simp;exact Ad rfl
theorem AeP:uW 9 (.mk 1 [7] []) (.mk 1 [8] []) = .mk 2 T0 T0 [⟨0,1,7,8⟩] [] 0 []:=by
 have n7:Ah (.mk 1 [7] []) = .mk 1 [7] []:=by simp[BS,Cf,BO]
 have n8:Ah (.mk 1 [8] []) = .mk 1 [8] []:=by simp[BS,Cf,BO]
 have he:LK (.mk 1 [7] []) (.mk 1 [8] [])=false:=by
  rw[Bool.eq_false_iff];intro h;have:=eqT_iff.1 h;simp[BS,Cf,BO] at this
 have u1:K5 7 8=1:=by kernel_rfl
 have u2:wdE 0 7 8=⟨0,1,7,8⟩:=by kernel_rfl
 have e:UG (MR 9 999) (.mk 1 [7] []) (.mk 1 [8] []) = .mk 2 T0 T0 [⟨0,1,7,8⟩] [] 0 []:=by
  have w:D6 (.mk 1 [7] []) (.mk 1 [8] []) 1=[⟨0,1,7,8⟩]:=by
   rw[show(1:Nat)=0+1 from rfl,ME];have e1:(T.mk 1 [7] []).words.getD 0 0=7:=rfl;have e2:(T.mk 1 [8] []).words.getD 0 0=8:=rfl;rw[e1,e2,u1,if_neg (by decide)];rw[show((0:Nat):Int)=0 from rfl,u2];rfl
  show E.mk 2 T0 T0 (D6 (.mk 1 [7] []) (.mk 1 [8] []) 1) (BW (MR 9 999) (.mk 1 [7] []) (.mk 1 [8] []) 0) 0 []=_;rw[w];rfl
 unfold uW;rw[n7,n8,show(1000:Nat)=999+1 from rfl,MR,he,if_neg (by simp),if_pos (by simp),e,Yr];simp[VE,GK,br,YB,aZ,I9]
theorem HR:G.Spec Tryz.prog 21 [] (bv true):=by
 have m1:=Tt sg1 (a:=64) (b:=3000) (by rw[AdT]);have m3:=Tt sg3 (a:=64) (b:=3000) (by rw[Adl]);rw[AdT] at m1;rw[Adl] at m3;have V:=bd sg1 sg3 m1 m3 (most:=9) (by simp[B9]) (by simp) (by simp);rw[AeP] at V;refine Aj QM (by simp) fun w0 I0=>?_;unfold KC;simp;refine Ae ((Lo sg1 (by simp)).soft (by simp[A.softL,A.soft])) rfl ?_;simp;refine Ae ((Lo sg3 (by simp)).soft (by simp[A.softL,A.soft])) rfl ?_;simp;refine Ae V (by simp) ?_;simp[Aa];exact AN rfl (by simp)
theorem tH {most:Int} {t t' u u':T} (h:Ah t=Ah t') (h2:Ah u=Ah u'):uW most t u=uW most t' u':=by
 unfold uW;rw[h,h2]
theorem TV {a b:T} (ha:BH a) (hb:BH b) {x y c:Int} (hx:x<9223372036854775808) (hy:y<9223372036854775808) (hc:B9 c):G.Spec Tryz.prog 6 [tX a,tX b,iv x,iv y,iv c] (bv true):=by
 refine Aj L7 (by simp) fun w0 I0=>?_;unfold GJ;simp;refine Ae (Ss ha) (by simp) ?_;by_cases s1:0≤DJ 70 400 a;rotate_left
 ·simp[s1];refine AY rfl ?_;simp;refine Ae HR rfl ?_;simp;exact Bc rfl
 simp[s1];refine B0 rfl (fun _=>Ss hb) (fun _=>by simp) (by simp) ?_;by_cases s2:0≤DJ 70 400 b;rotate_left
 ·simp[s2];refine Ae HR rfl ?_;simp;exact Bc rfl
 have p1:=Qp a 70 400 s1;have p2:=Qp b 70 400 s2;have oa:=F5 a ha (by omega) 1000 (by omega);have ob:=F5 b hb (by omega) 1000 (by omega);obtain⟨l,ok,⟨hl,ll,t,mt,t1,t2⟩,hA⟩:=RT ha x 131072 hx;obtain⟨m,is,⟨hm,lm,v,mv,v1,v2⟩,hB⟩:=RT hb y 131072 hy;simp[s2];refine Ae hA (by simp) ?_;simp;refine Ae hB (by simp) ?_;simp;cases ok with
 |false=>
  simp;refine Ae HR rfl ?_;simp;exact Bc rfl
 |true=>
 cases is with
 |false=>
  simp;refine Ae HR rfl ?_;simp;exact Bc rfl
 |true=>
 have V:=X6 hl hm mt mv hc (by rw[t1 rfl];exact oa) (by rw[v1 rfl];exact ob);rw[tH (t1 rfl) (v1 rfl)] at V;simp;refine Ae (Lo hl (by omega)) (by simp) ?_;simp;refine Ae (Lo hm (by omega)) (by simp) ?_;simp[Aa];refine Ae V (by simp) ?_;simp[Aa];refine Ee rfl (fun _=>db ha hb (by omega) (by omega) hc) (fun _=>by simp) (by simp) ?_;simp;refine Ee rfl (fun _=>cQ (AdU ha hb (by omega) (by omega) (most:=c))) (fun _=>by simp) (by simp) ?_;simp;refine Ee rfl (fun _=>HR) (fun _=>rfl) rfl ?_;simp;exact Bc rfl
end Go.Proofs.YtbjmaoedheiigaaGreat
namespace Go.Proofs.YtbjmaoedheiigaaGreat
open Go Go.G Go.Proofs Go.RowKit
theorem w7 {m:Int} (h:(Lit.int .i64 m).wf=true):-9223372036854775808≤m∧m<9223372036854775808:=by
 simp[Lit.wf,IntKind.min,IntKind.max,IntKind.bits,IntKind.signed] at h;omega
theorem mS:Tryz.prog.underlying 3=some (.int .i64):=by kernel_rfl
theorem UB {n:Nat} {b:List A} (h:Has Tryz.prog n 3 b):∃ m,-9223372036854775808≤m∧m<9223372036854775808∧mk Tryz.prog 3 b=iv m:=by
 cases n with
 |zero=>exact h.elim
 |succ n=>
  simp only[Has,mS] at h;obtain⟨m,hm,rfl⟩:=h;obtain⟨h1,h2⟩:=w7 hm;exact⟨m,h1,h2,by simp[mk,mS]⟩
end Go.Proofs.YtbjmaoedheiigaaGreat
namespace Go.Proofs.YtbjmaoedheiigaaGreat
open Go Go.G Go.Proofs Go.PL Go.RowKit
theorem xy {m:Int} (h:(Lit.int .i64 m).wf=true):B9 m:=by
 simp[Lit.wf,IntKind.min,IntKind.max,IntKind.bits,IntKind.signed] at h;unfold B9;omega
theorem xL {m:Int} (h:(Lit.int .u64 m).wf=true):Bw m:=by
 simp[Lit.wf,IntKind.min,IntKind.max,IntKind.bits,IntKind.signed] at h;unfold Bw;omega
theorem sr:Tryz.prog.underlying 3=some (.int .i64):=by kernel_rfl
theorem dq:Tryz.prog.underlying 51=some (.int .u64):=by kernel_rfl
theorem AhT {n:Nat} {b:List A} (h:Has Tryz.prog n 3 b):∃ m,B9 m∧b=[iv m]:=by
 cases n with
 |zero=>exact h.elim
 |succ n=>
  unfold Has at h;rw[sr] at h;obtain⟨m,hm,rfl⟩:=h;exact⟨m,xy hm,rfl⟩
theorem AhO {n:Nat} {b:List A} (h:Has Tryz.prog n 51 b):∃ m,Bw m∧b=[uv m]:=by
 cases n with
 |zero=>exact h.elim
 |succ n=>
  unfold Has at h;rw[dq] at h;obtain⟨m,hm,rfl⟩:=h;exact⟨m,xL hm,rfl⟩
theorem Adn {α:Type} {xs:List A} {g:α→A} {R:α→Prop} (h:∀ x,x ∈ xs→∃ y,R y∧x.soft=g y):∃ l:List α,A.softL xs=l.map g∧l.length=xs.length∧∀ y,y ∈ l→R y:=by
 induction xs with
 |nil=>exact⟨[],rfl,rfl,fun y h=>nomatch h⟩
 |cons x xs ih=>
  obtain⟨y,hy,e⟩:=h x (by simp);obtain⟨l,e2,e3,hl⟩:=ih fun z hz=>h z (by simp[hz]);refine⟨y::l,by simp[A.softL,e,e2],by simp[e3],fun z hz=>?_⟩;rcases List.mem_cons.1 hz with rfl | hz
  ·exact hy
  ·exact hl z hz
theorem x6 {P:Program} {t e:TypeId} {m:Nat} (u:P.underlying t=some (.slice e)) (hb:P.bytesOf e=m) {n:Nat} {b:List A} (h:Has P n t b) {α:Type} {g:α→A} {R:α→Prop} (hx:∀ k b,k<n→Has P k e b→∃ y,R y∧(mk P e b).soft=g y) :
  ∃ (f:Bool) (xs:List A) (l:List α),b=[.sl f xs]∧A.softL xs=l.map g∧l.length*m≤140737488355328∧∀ y,y ∈ l→R y:=by
 cases n with
 |zero=>exact h.elim
 |succ n=>
  unfold Has at h;rw[u] at h;obtain⟨f,xs,rfl,_,hz,hf,hx'⟩:=h;rw[hb] at hz;obtain⟨l,e1,e2,hl⟩:=Adn (g:=g) (R:=R) (xs:=xs) fun x hxx=>by
   obtain⟨b,hb',rfl⟩:=hx' x hxx;exact hx n b (by omega) hb'
  exact⟨f,xs,l,rfl,e1,by rw[e2];exact Nat.le_trans hz (by decide),hl⟩
theorem zL (b:List A):mk Tryz.prog 51 b=b.headD .any:=by unfold mk;rw[dq]
theorem AeI {n:Nat} {b:List A} (h:Has Tryz.prog n 22 b):∃ (f:Bool) (xs:List A) (l:List Int),b=[.sl f xs]∧A.softL xs=l.map uv∧l.length*8≤140737488355328∧∀ y,y ∈ l→Bw y:=
 x6 (e:=51) (by kernel_rfl) (by kernel_rfl) h fun k b _ hb=>by
  obtain⟨m,h1,rfl⟩:=AhO hb;exact⟨m,h1,by rw[zL];rfl⟩
theorem fB:Tryz.prog.underlying 25=some (.struct (Tryz.prog.fieldsOf 25)):=by kernel_rfl
theorem qY:(Tryz.prog.fieldsOf 25).toList.map Field.type=[3,22,23]:=by kernel_rfl
theorem cj (b:List A):mk Tryz.prog 25 b = .agg b:=by unfold mk;rw[fB]
theorem ma:∀ (n:Nat) (b:List A),Has Tryz.prog n 25 b→∃ t,BH t∧A.softL b=[iv t.kind,Dz t.words,Bm t.kids]:=by
 intro n;induction n using Nat.strongRecOn with
 |ind n ih=>
  intro b h;cases n with
  |zero=>exact h.elim
  |succ n=>
   unfold Has at h;rw[fB] at h;simp only at h;rw[Xv,qY] at h;obtain⟨_,_,rfl,h1,_,_,rfl,h2,_,_,rfl,h3,rfl⟩:=h;obtain⟨k,hk,rfl⟩:=AhT h1;obtain⟨f,xs,w,rfl,e2,l2,r2⟩:=AeI h2;obtain⟨f3,ys,l,rfl,e3,l3,r3⟩:=x6 (m:=56) (e:=25) (g:=tA) (R:=BH) (by kernel_rfl) (by kernel_rfl) h3 fun j b hj hb=>by
    obtain⟨t,ht,e⟩:=ih j (by omega) b hb;exact⟨t,ht,by rw[cj];simp only[A.soft,e];rw[tA_eq]⟩
   refine⟨.mk k w l,wfT_iff.2 ⟨hk,r2,l2,l3,r3⟩,?_⟩;simp only[List.cons_append,List.nil_append,List.append_nil,A.softL,A.soft,e2,e3];rfl
end Go.Proofs.YtbjmaoedheiigaaGreat
namespace Go.Proofs.YtbjmaoedheiigaaGreat
open Go Go.G Go.Proofs Go.PL Go.RowKit
set_option maxRecDepth 100000 in
theorem said_indiffBuilt (xs:List A) (h:ArgsHas Tryz.prog Tryz.f6.params.toList xs):G.Spec Tryz.prog 6 xs (.v (.bool true)):=by
 have h:ArgsHas Tryz.prog [25,25,3,3,3] xs:=h
 match xs,h with
 |[a,b,c,d,e],⟨⟨n,x,h1,h2⟩,⟨n2,x2,h12,h22⟩,⟨n3,x3,h13,h23⟩,⟨n4,x4,h14,h24⟩,⟨n5,x5,h15,h25⟩,_⟩=>
  obtain⟨t,ht,et⟩:=ma _ _ h1;obtain⟨v,hv,ev⟩:=ma _ _ h12;obtain⟨z,_,hz,ez⟩:=UB h13;obtain⟨y,_,hy,ey⟩:=UB h14;obtain⟨m,m0,hm,em⟩:=UB h15;rw[h2,h22,h23,h24,h25,cj,cj,ez,ey,em];exact(TV ht hv hz hy ⟨m0,hm⟩).soft (by simp only[A.softL,A.soft,et,ev])
end Go.Proofs.YtbjmaoedheiigaaGreat
namespace Go.G
open Go.RowKit Go.ChangeShapes Go.WideShapes
section
variable {H:Type} {enc:TypeId × Value→H} {P:Program}
def OO (P:Program) (ts:List TypeId):Bool:=ts.all fun t=>P.readableRec t&&decide (t<P.types.size)
theorem Qm (hl:laidOutB P=true) {W W':World} (hb:Below W.heap.size W W') (sp:Nat→Bool):∀ {ts:List TypeId} {vs:List Value} {ds:List (DataW H)} {ps:List MemPlace},OO P ts=true →
  DataW.TrodAll enc P W 0 (fun _=>true) true ts vs ds ps→(∀ x ∈ ps,x.block<W.heap.size)→(∀ x ∈ ps,sp x.block=true)→DataW.TrodAll enc P W' 0 sp true ts vs ds ps
 |[],_,_,_,_,h,_,_=>by
  obtain⟨rfl,rfl,rfl⟩:=trodAll_nil h;exact trodAll_mk0
 |t::ts,_,_,_,hr,h,hlt,hsp=>by
  obtain⟨v,vs,d,ds,p,q,rfl,rfl,rfl,h1,h2⟩:=trodAll_cons h;simp only[OO,List.all_cons,Bool.and_eq_true,decide_eq_true_eq] at hr;exact⟨p,q,WideElems.Trod_stays hl hr.1.1 hr.1.2 h1 (fun x hx=>hb.same (hlt x (by simp[hx]))) (fun x hx=>hsp x (by simp[hx])),
   Qm hl hb sp (by simpa[OO] using hr.2) h2 (fun x hx=>hlt x (by simp[hx])) (fun x hx=>hsp x (by simp[hx])),rfl⟩
theorem Pb {w:World} {base:Nat} {spare:Nat→Bool} {held:Bool}:∀ {ts:List TypeId} {vs:List Value} {ds:List (DataW H)} {ps:List MemPlace},DataW.TrodAll enc P w base spare held ts vs ds ps→ds.length=ts.length∧vs.length=ts.length
 |[],_,_,_,h=>by
  obtain⟨rfl,rfl,rfl⟩:=trodAll_nil h;exact⟨rfl,rfl⟩
 |t::ts,_,_,_,h=>by
  obtain⟨v,vs,d,ds,p,q,rfl,rfl,rfl,h1,h2⟩:=trodAll_cons h;have:=Pb h2;simp[this]
theorem rV {f:Func} {s:ChangeSpec} {apart fresh handsOn again:Bool} {W W':World} {args:Array Value} {ds gs:List (DataW H)} {before:List MemPlace} {t:TypeId}
  (hl:laidOutB P=true) (hp:OO P f.params.toList=true) (hsv:s.vars=[]) (hW:DataW.Whole enc P f.params.toList s.vars apart W args.toList ds gs before) (hB:Below W.heap.size W W')
  (hrt:f.resultTypes = #[t]) (ht:P.underlying t=some .bool) (hfn:∀ ds':List (DataW H),ds'.length=f.params.size→s.fn H ds'={ results:=[.lit (.bool true)],args:=ds' }) :
  s.post enc P f apart fresh handsOn again W args (.bool true) W':=by
 have hlt:=hW.lt;have hW':=hW;obtain⟨p,q,hA,hV,rfl,hz,hn⟩:=hW';rw[hsv] at hV;obtain⟨rfl,rfl⟩:=trodVars_none hV;have hfn:=hfn ds (by have:=(Pb hA).1;simpa using this);simp only[List.append_nil] at hlt hz hn;have hA':=fun sp=>Qm hl hB sp hp hA hlt;have hr:∀ (b:Nat) (sp:Nat→Bool) (hd:Bool),DataW.TrodAll enc P W' b sp hd f.resultTypes.toList ((Value.bool true).resultList f.resultTypes.size) [.lit (.bool true)] []:=fun b sp hd=>by
  rw[hrt];exact trodAll_cons_mk (shut_bool ht _) trodAll_mk0
 refine⟨ds,[],p++[],[],p,[],hW,?_,?_,?_,Below.frame hB _,fun _=>?_⟩
 ·simp only[List.append_nil,hfn];exact hr _ _ _
 ·simp only[List.append_nil,hfn];exact hA' _ (fun x hx=>by simpa using hlt x hx)
 ·simp only[List.append_nil,hfn,hsv];exact rfl
 ·refine⟨ok_one hrt rfl (okWide_bool_mk ht _),_,[],([]++p)++[],⟨[]++p,[],trodAll_append (hA' (fun _=>true) (fun _ _=>rfl)) (hr _ _ _),by rw[hsv];rfl,rfl,?_,?_⟩,?_⟩
  ·intro b off hx;have hx:MemPlace.cell b off ∈ p:=by simpa using hx
   rw[Below.frozen hB (hlt _ hx)];exact hz b off hx
  ·intro ha;have:=hn ha;simpa using this
  ·intro x hx _;simpa using hx
theorem law_calls {f:Func} {fid:FuncId} {s:ChangeSpec} {apart fresh handsOn again:Bool} {W:World} {base:Nat} {args:Array Value} {ds gs:List (DataW H)} {before:List MemPlace} {t:TypeId} (S:List TypeId)
  (hl:laidOutB P=true) (hp:OO P f.params.toList=true) (hS:Oo P S=true) (hts:f.params.toList.all S.contains=true) (hsv:s.vars=[]) (hrt:f.resultTypes = #[t]) (ht:P.underlying t=some .bool)
  (hfn:∀ ds':List (DataW H),ds'.length=f.params.size→s.fn H ds'={ results:=[.lit (.bool true)],args:=ds' })
  (hspec:∀ as',ArgsHas P f.params.toList as'→Spec P fid as' (.v (.bool true))) (htb:Tabs P W (yh W))
  (hval:∀ (j:Nat) t v,f.params[j]? = some t→args[j]? = some v→Value.okWide P W .any base t v) (hW:DataW.Whole enc P f.params.toList s.vars apart W args.toList ds gs before)
  (hwt:(DataW.weightsEach P (f.params.toList++s.plain.varTypes P) (ds++gs)).all (·≤reachBytes)=true) :
  Calls P fid args W fun e W'=>∃ v,e = .returned v∧s.post enc P f apart fresh handsOn again W args v W':=by
 have hW':=hW;obtain⟨p,q,hA,hV,rfl,hz,hn⟩:=hW;have hV':=hV;rw[hsv] at hV';obtain⟨rfl,_⟩:=trodVars_none hV';have hwt':∀ m,m ∈ DataW.weightsEach P f.params.toList ds→m≤reachBytes:=by
  have e:s.plain.varTypes P=[]:=by simp[ChangeSpec.plain,DataSpec.varTypes,hsv]
  rw[e,List.append_nil,List.append_nil,List.all_eq_true] at hwt;exact fun m hm=>by simpa using hwt m hm
 obtain⟨as',h1,h2,h3⟩:=TF hS (fun t ht=>by rw[List.all_eq_true] at hts;simpa using hts t ht) hwt' hA (fun j u v hj hv=>hval j u v (by simpa using hj) (by simpa using hv));refine((hspec as' h2).2 W (yh W) args (fun _ h=>h) htb (by simpa using h1.symm) (fun k y hk=>?_)).mono fun e W' ⟨v,he,hB,hr⟩=>?_
 ·have:=h3 k y hk;simpa[List.getD,Array.getD_eq_getD_getElem?] using this
 ·cases hr;exact⟨_,he,rV hl hp hsv hW' hB hrt ht hfn⟩
end
end Go.G
