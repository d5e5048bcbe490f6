/-
 Texts,merged,without what is not reached.
-/
import Derived.Test.YtbjmaoedheiigaaGreatKPf
set_option linter.unusedSimpArgs false
set_option linter.unusedVariables false
open Go.IntKind (i64 u64)
namespace Go.Proofs.YtbjmaoedheiigaaGreat
open Go Go.G Go.Proofs Go.PL
def WI.row:WI→Option (Nat × Nat × List T)
 |.del k v l=>some (k,v,l)
 |.ins k v l=>some (k,v,l)
 |_=>none
def ItR (R:Wp) (its:List WI):Prop:=∀ x,x ∈ its→∀ k v l,x.row=some (k,v,l)→R k=some (v,l)∧1≤k
theorem AbI {c:Cx} {s:Nat→A} {H:Hp} {its:List WI} {v K:Nat} {R:Wp} (hH:∀ p,H (0::p)=(Xz its v none none R).F 0 p) (hK:∀ q,K≤q→R q=none) (hK1:1≤K):∃ H',Le c ⟨s,H⟩ ⟨s,H'⟩∧(∀ p,H' (0::p)=(Xz its v (some (K,1,[])) (some (K+1,1,[])) (Gu (Gu R K 1 []) (K+1) 1 [])).F 0 p):=by
 have h0:=hH [];simp[Po] at h0;have hK0:H [0,K]=⟨0,.none⟩:=by rw[hH];simp[show ¬ K=0 by omega,hK K (Cb _),qq]
 have hK2:H [0,K+1]=⟨0,.none⟩:=by rw[hH];simp[hK (K+1) (by omega),qq]
 have l1:=B9 (c:=c) (s:=s) (H:=H) (d:=[0]) (u:=1) (cs:=[.osl [0,0] v 14 0 its.length,.sl true [],.sl true []]) 1 [0,K] 3 h0 rfl (by simp);refine⟨_,l1.trans (B9 (d:=[0]) (u:=1) (cs:=[.osl [0,0] v 14 0 its.length,.osl [0,K] 1 3 0 0,.sl true []]) 2 [0,K+1] 3 (by simp[Aa,hK0]) rfl (by simp)),fun p=>?_⟩;by_cases p1:p=[]
 ·subst p1;simp[Aa,Po,hK0,hK2]
 ·by_cases p2:p=[0]
  ·subst p2;simp[Aa,hH,show ¬ 0=K by omega]
  ·match p,p1,p2 with
   |[q],p1,p2=>
    have hq0:¬ q=0:=fun e=>p2 (by rw[e]);by_cases e1:q=K
    ·subst e1;simp[Aa,Gu,qq,hK0,hq0]
    ·by_cases e2:q=K+1
     ·subst e2;simp[Aa,Gu,qq,hK2]
     ·simp[Aa,Gu,hH,e1,e2,hq0]
   |_::_::_,p1,p2=>simp[Aa,hH,UQ]
theorem Adw {H:Hp} {R:Wp} {its:List WI} {v:Nat} {g b:Option (Nat × Nat × List T)} (hH:∀ p,H (0::p)=(Xz its v g b R).F 0 p) (x:WI) (hx:∀ k v l,x.row=some (k,v,l)→R k=some (v,l)∧1≤k):Ky H (Zb 0 x) (oA x.op).cells:=by
 have key:∀ k v' l,x.row=some (k,v',l)→K6 H (.osl [0,k] v' 3 0 l.length) (BV l):=fun k v' l h=>by
  obtain⟨h1,h2⟩:=hx k v' l h;have:=hH [k];simp[show ¬ k=0 by omega,h1,qq] at this;exact Cu (f:=tA) (by rw[this];simp) rfl (by simp)
 have hraw:Ky H Gb (eL E0):=⟨Ab rfl,Ab rfl,Au,Au,Ab rfl,Au,Au,Au,Au,Ab rfl,Au,trivial⟩;rw[oA_eq];cases x with
 |keep n=>exact⟨Ab rfl,Ab rfl,Au,hraw⟩
 |del k v' l=>exact⟨Ab rfl,Ab rfl,key k v' l rfl,hraw⟩
 |ins k v' l=>exact⟨Ab rfl,Ab rfl,key k v' l rfl,hraw⟩
 |desc e=>exact⟨Ab rfl,Ab rfl,Au,Ab rfl,Ab rfl,Ab rfl,Ab rfl,Ab rfl,Ab rfl,Ab rfl,Ab rfl,Ab rfl,Ab rfl,Ab rfl,trivial⟩
theorem WD {H:Hp}:∀ {a b a' b':List A},Ky H a a'→Ky H b b'→a.length=a'.length→Ky H (a++b) (a'++b')
 |[],b,[],b',_,h,_=>h
 |x::a,b,y::a',b',h1,h,hl=>⟨h1.1,WD h1.2 h (by simpa using hl)⟩
 |[],b,y::a',b',_,_,hl=>by simp at hl
 |x::a,b,[],b',_,_,hl=>by simp at hl
theorem Aai {H:Hp} {R:Wp} {its:List WI} {v:Nat} {g b:Option (Nat × Nat × List T)} (hH:∀ p,H (0::p)=(Xz its v g b R).F 0 p) (hx:ItR R its):K6 H (.osl [0,0] v 14 0 its.length) (Ur (its.map WI.op)):=by
 have h1:=hH [0];simp at h1;refine Xj (o:=[0,0]) (u:=v) (off:=0) (len:=its.length) (sz:=14) (xs:=its.map (VD 0)) (ys:=(its.map WI.op).map oA) (by rw[Rj,h1];simp) (by simp) (by simp) (fun y hy=>by
  obtain⟨x,_,rfl⟩:=List.mem_map.1 hy;simp) ?_ ?_
 ·have:∀ l:List OP,A.ones ((l.map oA).flatMap A.cells)=true:=fun l=>by
   induction l with
   |nil=>rfl
   |cons x l ih=>simp[A.ones] at ih ⊢
  exact this _
 ·rw[List.drop_zero,BO (by simp),List.map_map];have:∀ l:List WI,(∀ x,x ∈ l→x ∈ its)→Ky H ((l.map (VD 0)).flatMap A.cells) ((l.map (oA ∘ WI.op)).flatMap A.cells):=fun l hl=>by
   induction l with
   |nil=>trivial
   |cons x l ih=>
    simp only[List.map_cons,List.flatMap_cons];exact WD (Adw hH x fun k v l h=>hx x (hl x (by simp)) k v l h) (ih fun y hy=>hl y (by simp[hy])) (by simp)
  exact this its fun x h=>h
theorem rN (list:Int) (e:E) (h1:e.words.length≤100000000000000) (h2:e.kids.length≤100000000000000):G.Spec Tryz.prog 112 [iv list,eX e] (bv (Ju list e)):=by
 have e1:i64.wrap ((e.words.length:Int)+e.kids.length)=((e.words.length+e.kids.length:Nat):Int):=Bl;refine Ah ZH (by simp) fun w0 I0=>?_;unfold PS;by_cases k0:e.kind=0
 ·simp[k0,Ju];exact Ab rfl
 ·by_cases k9:list=9
  ·by_cases k2:e.kind=2
   ·simp[k0,k9,k2,Ju,e1];refine Ak ?_;rw[Bool.eq_iff_iff];simp only[decide_eq_true_eq,Bool.and_eq_true,List.isEmpty_iff];constructor
    ·intro h;exact⟨List.eq_nil_of_length_eq_zero (by omega),List.eq_nil_of_length_eq_zero (by omega)⟩
    ·rintro⟨h1,h2⟩;rw[h1,h2];rfl
   ·simp[k0,k9,k2,Ju];exact Ab rfl
  ·simp[k0,k9,Ju];exact Ab rfl
theorem Wc (its:List WI) (g b:Nat × Nat × List T):(its++(Fx g++BM b)).map WI.op=Nc (its.map WI.op) g.2.2 b.2.2:=by
 obtain⟨a,c,l⟩:=g;obtain⟨a',c',l'⟩:=b;by_cases h1:l=[]<;>by_cases h2:l'=[]<;>simp[Fx,BM,Nc,DE,Dx,h1,h2,WI.op]
theorem Aao (J:List WI):(∃ i0 m,J=i0++[.keep m])∨(J=[]∨∃ i0 x,J=i0++[x]∧x.op.kind ≠ 0):=by
 rcases List.eq_nil_or_concat J with h | ⟨i0,x,h⟩
 ·exact .inr (.inl h)
 ·rw[List.concat_eq_append] at h;cases x with
  |keep m=>exact .inl ⟨i0,m,h⟩
  |del a b c=>exact .inr (.inr ⟨i0,.del a b c,h,by simp[WI.op]⟩)
  |ins a b c=>exact .inr (.inr ⟨i0,.ins a b c,h,by simp[WI.op]⟩)
  |desc e=>exact .inr (.inr ⟨i0,.desc e,h,by simp[WI.op]⟩)
theorem xZ (l:List OP) (m n:Int) (t:List T) (e:E):RG (l++[.mk 0 m t e]) n=l++[.mk 0 (i64.wrap (m+n)) t e]:=by simp[RG]
theorem Aaw (n:Int):RG [] n=[.mk 0 n [] E0]:=rfl
theorem uG (l:List OP) (x:OP) (n:Int) (h:x.kind ≠ 0):RG (l++[x]) n=l++[x]++[.mk 0 n [] E0]:=by
 obtain⟨k,m,t,e⟩:=x;unfold RG;rw[List.getLast?_append];simp only[List.getLast?_singleton,Option.some_or];split
 ·rename_i h2;injection h2 with h2;injection h2 with h2;exact absurd h2 h
 ·rfl
structure WrI (its:List WI) (g b:Nat × Nat × List T) (R:Wp) (K:Nat):Prop where
 g1:1≤g.1
 b1:1≤b.1
 gb:g.1 ≠ b.1
 gK:g.1<K
 bK:b.1<K
 Rg:R g.1=some (g.2.1,g.2.2)
 Rb:R b.1=some (b.2.1,b.2.2)
 rK:∀ q,K≤q→R q=none
 it:ItR R its
 ng:∀ x,x ∈ its→∀ k v l,x.row=some (k,v,l)→k ≠ g.1∧k ≠ b.1
theorem WrI.flushed {its:List WI} {g b:Nat × Nat × List T} {R:Wp} {K:Nat} (h:WrI its g b R K):ItR R (its++(Fx g++BM b)):=by
 intro x hx k v l hr;rcases List.mem_append.1 hx with hx | hx
 ·exact h.it x hx k v l hr
 ·rcases List.mem_append.1 hx with hx | hx
  ·obtain⟨a,c,d⟩:=g;by_cases e:d=[]<;>simp[Fx,e] at hx
   subst hx;simp[WI.row] at hr;obtain⟨rfl,rfl,rfl⟩:=hr;exact⟨h.Rg,h.g1⟩
  ·obtain⟨a,c,d⟩:=b;by_cases e:d=[]<;>simp[BM,e] at hx
   subst hx;simp[WI.row] at hr;obtain⟨rfl,rfl,rfl⟩:=hr;exact⟨h.Rb,h.b1⟩
theorem gJ {its:List WI} {g b:Nat × Nat × List T} {R:Wp} {K:Nat} (h:WrI its g b R K) (hl:its.length≤1000000) (vo:Nat) (n:Int):∃ its2 v2,BR Tryz.prog 110 (fun r=>[wrP r,iv n]) (Xz its vo (some g) (some b) R) (fun _=>.tup []) (Xz its2 v2 none none R)∧its2.map WI.op=RG (Nc (its.map WI.op) g.2.2 b.2.2) n∧its2.length≤its.length+3∧ItR R its2:=by
 have hF:=h.flushed;have d1:=R3 g;have d2:=M3 b;rcases Aao (its++(Fx g++BM b)) with ⟨i0,m,hi⟩ | hi
 ·have hlen:=congrArg List.length hi;simp at hlen;refine⟨_,_,lJ its i0 vo m n g b R hl h.Rg h.Rb h.g1 h.b1 hi,?_,?_,?_⟩
  ·rw[← Wc,hi];simp[WI.op,xZ]
  ·simp;omega
  ·rw[hi] at hF;intro x hx k v l hr;rcases List.mem_append.1 hx with hx | hx
   ·exact hF x (by simp[hx]) k v l hr
   ·simp at hx;subst hx;simp[WI.row] at hr
 ·refine⟨_,_,nu its vo n g b R hl h.Rg h.Rb h.g1 h.b1 hi,?_,?_,?_⟩
  ·rw[← Wc];rcases hi with hi | ⟨i0,x,hi,hx⟩
   ·rw[hi];simp[Aaw,WI.op]
   ·rw[hi];simp only[List.map_append,List.map_cons,List.map_nil];rw[uG _ _ _ hx];simp[WI.op]
  ·simp;omega
  ·intro x hx k v l hr;rcases List.mem_append.1 hx with hx | hx
   ·exact hF x hx k v l hr
   ·simp at hx;subst hx;simp[WI.row] at hr
structure OpG (o:OP):Prop where
 k:o.kind=0∨o.kind=1∨o.kind=2∨o.kind=3
 l:∀ t,t ∈ o.l→Bx t
 e:o.kind=3→G.Spec Tryz.prog 29 [eX o.e] (eX (Jl o.e))∧(Jl o.e).words.length≤100000000000000∧(Jl o.e).kids.length≤100000000000000
def Gy (os:List OP):Nat:=(os.map fun o=>o.l.length).sum
theorem az (o:OP) (os:List OP):Gy (o::os)=o.l.length+Gy os:=by simp[Gy]
variable {n0:Nat} {w0:World} {I0:Nat→Prop} {Q:Exit→Sta→Prop}
theorem Adx {list:Int} {os:List OP} (hos:∀ o,o ∈ os→OpG o) (hol:os.length≤300000) {res:List OP}
  (hq:∀ (H:Hp) (its:List WI) (v:Nat) (g b:Nat × Nat × List T) (R:Wp) (K:Nat) st,(∀ p,H (0::p)=(Xz its v (some g) (some b) R).F 0 p)→WrI its g b R K→Nc (its.map WI.op) g.2.2 b.2.2=res→its.length≤1000000→Q (.exit 0) ⟨lk ([(0,iv list),(5,wrP 0)]++st),H⟩):∀ (m i:Nat) (its:List WI) (v:Nat) (g b:Nat × Nat × List T) (R:Wp) (K:Nat) (H:Hp),i+m=os.length→its.length≤3*i→g.2.2.length+b.2.2.length+Gy (os.drop i)≤1000000→WrI its g b R K→(∀ p,H (0::p)=(Xz its v (some g) (some b) R).F 0 p)→ED list ((os.drop i).map LP) (its.map WI.op) g.2.2 b.2.2=res →
  LoopC (cx Tryz.prog w0 I0 n0) GC Q ⟨lk [(0,iv list),(5,wrP 0),(11,Ur os),(12,iv os.length),(13,iv i)],H⟩:=by
 intro m;induction m with
 |zero=>
  intro i its v g b R K H hm hil hsum hW hH hres;refine Ad Ai GC.eq_1 ?_;have:i=os.length:=by omega
  subst this;rw[List.drop_length,List.map_nil,ED] at hres;simp;exact hq H its v g b R K [(11,Ur os),(12,iv os.length),(13,iv os.length),(14,bv false)] hH hW hres (by omega)
 |succ m ih=>
  intro i its v g b R K H hm hil hsum hW hH hres;have hi:i<os.length:=by omega
  have ew:=AM i;have hd:os.drop i=os[i]::os.drop (i+1):=(List.getElem_cons_drop hi).symm;have hO:=hos _ (A5 hi);rw[hd,List.map_cons,ED] at hres;rw[hd,az] at hsum;have hoi:(os.map oA)[i]? = some (oX os[i]):=by simp[hi]
  generalize ho:os[i]=o at *;have hnk:(LP o).kind=o.kind:=rfl;have hnn:(LP o).n=o.n:=rfl;have hnl:(LP o).l=o.l:=rfl;have hne:(LP o).e=Jl o.e:=rfl;rw[hnk,hnn,hnl,hne] at hres
  -- what goes on when all is laid
  have next:∀ (its2:List WI) (v2:Nat) (H2:Hp),its2.length≤its.length+3→(∀ p,H2 (0::p)=(Xz its2 v2 none none R).F 0 p)→ItR R its2→ED list ((os.drop (i+1)).map LP) (its2.map WI.op) [] []=res→LoopC (cx Tryz.prog w0 I0 n0) GC Q ⟨lk [(0,iv list),(5,wrP 0),(11,Ur os),(12,iv os.length),(13,iv (i+1:Nat))],H2⟩:=fun its2 v2 H2 h1 h2 h3 h4=>by
   obtain⟨H3,hle,hF⟩:=AbI (c:=cx Tryz.prog w0 I0 n0) (s:=lk [(0,iv list),(5,wrP 0),(11,Ur os),(12,iv os.length),(13,iv (i+1:Nat))]) h2 hW.rK (by have:=hW.gK;omega);refine LoopC.le hle ?_;refine ih (i+1) its2 v2 (K,1,[]) (K+1,1,[]) _ (K+2) H3 (by omega) (by omega) (by simp;omega) ?_ hF h4;have hg:=hW.g1;have hgK:=hW.gK;refine⟨by simp;omega,by simp,by simp,by simp,by simp,by simp[Gu],by simp[Gu],fun q hq=>?_,fun x hx k v' l hr=>?_,fun x hx k v' l hr=>?_⟩
   ·simp[Gu,show ¬ q=K+1 by omega,show ¬ q=K by omega];exact hW.rK q (by omega)
   ·obtain⟨a1,a2⟩:=h3 x hx k v' l hr;have hkK:k<K:=by
     by_cases e:K≤k
     ·rw[hW.rK k e] at a1;cases a1
     ·omega
    exact⟨by simp[Gu,show ¬ k=K+1 by omega,show ¬ k=K by omega,a1],a2⟩
   ·obtain⟨a1,a2⟩:=h3 x hx k v' l hr;have hkK:k<K:=by
     by_cases e:K≤k
     ·rw[hW.rK k e] at a1;cases a1
     ·omega
    exact⟨by simp;omega,by simp;omega⟩
  refine Ad Ai GC.eq_1 ?_;rcases hO.k with h0 | h0 | h0 | h0
  ·rw[if_pos h0] at hres;obtain⟨its2,v2,S1,S2,S3,S4⟩:=gJ hW (by omega) v o.n;rw[← S2] at hres;simp[hi,ho,h0,Aa];refine AA 0 S1 (fun p=>by simp[Aa,hH]) (by simp) (by simp) ?_;simp[ew];exact next its2 v2 _ S3 (fun p=>by simp) S4 hres
  ·rw[if_neg (by omega),if_pos h0] at hres;have hF:=mb its v g.1 g.2.1 g.2.2 (some b) R hW.Rg hW.g1 (fun x hx=>by cases hx;exact Ne.symm hW.gb) hO.l (by omega);simp[hi,ho,h0,Aa];refine AA 0 hF (fun p=>by simp[Aa,hH]) (by simp) (by simp) ?_;simp[ew];refine ih (i+1) its v (g.1,g.2.1+o.l.length,g.2.2++o.l.map Af) b (Gu R g.1 (g.2.1+o.l.length) (g.2.2++o.l.map Af)) K _ (by omega) (by omega) (by simp;omega) ?_ (fun p=>by simp) hres;have w1:=hW.g1;have w2:=hW.gK;refine⟨hW.g1,hW.b1,hW.gb,hW.gK,hW.bK,by simp[Gu],?_,fun q hq=>?_,fun x hx k v' l hr=>?_,fun x hx k v' l hr=>hW.ng x hx k v' l hr⟩
   ·simp only[Gu,if_neg (Ne.symm hW.gb)];exact hW.Rb
   ·simp only[Gu,if_neg (show ¬ q=g.1 by omega)];exact hW.rK q hq
   ·obtain⟨a1,a2⟩:=hW.it x hx k v' l hr;exact⟨by simp only[Gu,if_neg (hW.ng x hx k v' l hr).1];exact a1,a2⟩
  ·rw[if_neg (by omega),if_neg (by omega),if_pos h0] at hres;have hF:=mI its v b.1 b.2.1 b.2.2 (some g) R hW.Rb hW.b1 hO.l (by omega);simp[hi,ho,h0,Aa];refine AA 0 hF (fun p=>by simp[Aa,hH]) (by simp) (by simp) ?_;simp[ew];refine ih (i+1) its v g (b.1,b.2.1+o.l.length,b.2.2++o.l.map Af) (Gu R b.1 (b.2.1+o.l.length) (b.2.2++o.l.map Af)) K _ (by omega) (by omega) (by simp;omega) ?_ (fun p=>by simp) hres;have w2:=hW.bK;refine⟨hW.g1,hW.b1,hW.gb,hW.gK,hW.bK,?_,by simp[Gu],fun q hq=>?_,fun x hx k v' l hr=>?_,fun x hx k v' l hr=>hW.ng x hx k v' l hr⟩
   ·simp only[Gu,if_neg hW.gb];exact hW.Rg
   ·simp only[Gu,if_neg (show ¬ q=b.1 by omega)];exact hW.rK q hq
   ·obtain⟨a1,a2⟩:=hW.it x hx k v' l hr;exact⟨by simp only[Gu,if_neg (hW.ng x hx k v' l hr).2];exact a1,a2⟩
  ·rw[if_neg (by omega),if_neg (by omega),if_neg (by omega)] at hres;obtain⟨E1,E2,E3⟩:=hO.e h0;have hI:=rN list (Jl o.e) E2 E3;simp[hi,ho,h0,Aa];refine Ae E1 (by simp) ?_;simp[Aa];refine Ae hI (by simp) ?_;cases hid:Ju list (Jl o.e) with
   |true=>
    rw[if_pos hid] at hres;obtain⟨its2,v2,S1,S2,S3,S4⟩:=gJ hW (by omega) v 1;rw[← S2] at hres;simp;refine AA 0 S1 (fun p=>by simp[Aa,hH]) (by simp) (by simp) ?_;simp[ew];exact next its2 v2 _ S3 (fun p=>by simp) S4 hres
   |false=>
    rw[if_neg (by rw[hid];decide),← Wc] at hres;have F1:=Jy its v g b R (by omega) hW.Rg hW.Rb hW.g1 hW.b1;have d1:=R3 g;have d2:=M3 b;simp;refine AA 0 F1 (fun p=>by simp[Aa,hH]) (by simp) (by simp) ?_;have hJl:(its++(Fx g++BM b)).length≤its.length+2:=by simp;omega
    have hJr:=hW.flushed;have next':=next (its++(Fx g++BM b)++[.desc (Jl o.e)]) (v+(Fx g++BM b).length+1)
    generalize its++(Fx g++BM b)=J at *;generalize v+(Fx g++BM b).length=v1 at *;simp[Aa,VZ,z7,j3,ew];refine⟨by omega,by omega,?_⟩;refine next' _ (by simp;omega) (fun p=>?_) (fun x hx k v' l hr=>?_) ?_
    ·by_cases p1:p=[]
     ·subst p1;simp[Aa,Po]
     ·by_cases p2:p=[0]
      ·subst p2;simp[Aa,VD,Zb]
      ·simp[p1,p2,Aa]
    ·rcases List.mem_append.1 hx with hx | hx
     ·exact hJr x hx k v' l hr
     ·simp at hx;subst hx;simp[WI.row] at hr
    ·simpa[WI.op] using hres
theorem gY {list:Int} {os:List OP} (hos:∀ o,o ∈ os→OpG o) (hol:os.length≤300000) (hsum:Gy os≤1000000):G.Spec Tryz.prog 58 [iv list,Ur os] (Ur (ED list (os.map LP) [] [] [])):=by
 refine Ah dG (by simp) fun w0 I0=>?_;unfold Ro;simp;refine LoopC.le (B9 (d:=[0]) (u:=1) (cs:=[.sl true [],.sl true [],.sl true []]) 0 [0,0] 14 rfl rfl (by simp)) ?_;obtain⟨H3,hle,hF⟩:=AbI (c:=cx Tryz.prog w0 I0 72) (s:=lk [(0,iv list),(5,wrP 0),(11,Ur os),(12,iv os.length),(13,iv (0:Nat))]) (H:=Bh (Bh (FA [([0],⟨1,.cells [.sl true [],.sl true [],.sl true []]⟩)]) [0,0] ⟨1,.arr 14 []⟩) [0] ⟨1,.cells [.osl [0,0] 1 14 0 0,.sl true [],.sl true []]⟩) (its:=[]) (v:=1) (K:=1) (R:=fun _=>none) (fun p=>by
  by_cases p1:p=[]
  ·subst p1;simp[Aa,Po]
  ·by_cases p2:p=[0]
   ·subst p2;simp[Aa]
   ·match p,p1,p2 with
    |[q],p1,p2=>
     have hq0:¬ q=0:=fun e=>p2 (by rw[e]);simp[Aa,qq,hq0,Ne.symm hq0]
    |_::_::_,p1,p2=>simp[Aa,UQ]) (fun q _=>rfl) (by omega)
 refine LoopC.le hle ?_;refine Adx hos hol (res:=ED list (os.map LP) [] [] []) (fun H its v g b R K st hH hW hres hil=>?_) os.length 0 [] 1 (1,1,[]) (1+1,1,[]) _ 3 H3 (by omega) (by simp) (by simpa using hsum) ?_ hF (by simp)
 ·have F1:=Jy its v g b R hil hW.Rg hW.Rb hW.g1 hW.b1;have hJr:=hW.flushed;have hm:=Wc its g b;rw[hres] at hm;simp;refine AA 0 F1 hH (by simp) (by simp) ?_;simp;rw[← hm];have:=Aai (H:=ov 0 ((Xz (its++(Fx g++BM b)) (v+(Fx g++BM b).length) none none R).F 0) H) (its:=its++(Fx g++BM b)) (v:=v+(Fx g++BM b).length) (g:=none) (b:=none) (R:=R) (fun p=>by simp) hJr;simpa using this
 ·refine⟨by simp,by simp,by simp,by simp,by simp,by simp[Gu],by simp[Gu],fun q hq=>?_,fun x hx=>by simp at hx,fun x hx=>by simp at hx⟩;simp[Gu,show ¬ q=1 by omega,show ¬ q=2 by omega]
mutual
def VK:E→Prop
 |.mk k o n ws ks l os=>(k=0∨k=1∨k=2∨k=3)∧(k ≠ 3→l=0)∧(k=1→Bx o∧Bx n)∧ws.length≤1000000∧ks.length≤1000000∧os.length≤300000∧Gy os≤1000000∧(k=2→lV ks)∧(k=3→mN os)
def lV:List KE→Prop
 |[]=>True
 |.mk a e::l=>VK e∧lV l
def mN:List OP→Prop
 |[]=>True
 |.mk k n t e::l=>((k=0∨k=1∨k=2∨k=3)∧(∀ x,x ∈ t→Bx x)∧(k=3→VK e))∧mN l
end
theorem SS:∀ {l:List KE},lV l→∀ x,x ∈ l→VK x.e
 |[],_,x,hx=>by simp at hx
 |.mk a e::l,h,x,hx=>by
  rw[lV] at h;rcases List.mem_cons.1 hx with rfl | hx
  ·exact h.1
  ·exact SS h.2 x hx
theorem RT:∀ {l:List OP},mN l→∀ x,x ∈ l→(x.kind=0∨x.kind=1∨x.kind=2∨x.kind=3)∧(∀ t,t ∈ x.l→Bx t)∧(x.kind=3→VK x.e)
 |[],_,x,hx=>by simp at hx
 |.mk k n t e::l,h,x,hx=>by
  rw[mN] at h;rcases List.mem_cons.1 hx with rfl | hx
  ·exact h.1
  ·exact RT h.2 x hx
theorem w7 (e:E) (h:VK e):(Jl e).words.length≤100000000000000∧(Jl e).kids.length≤100000000000000:=by
 obtain⟨k,o,n,ws,ks,l,os⟩:=e;rw[VK] at h;rw[FP];split
 ·simp
 ·split
  ·simp;omega
  ·split<;>simp
theorem uE {ks:List KE} (hl:ks.length≤1000000) (hk:∀ x,x ∈ ks→G.Spec Tryz.prog 29 [eX x.e] (eX (Jl x.e))) {v1 v3:VOb} {W:A}
  (hq:∀ H u st,H [1]=v1→H [3]=v3→H [2]=⟨1,.cells [iv 2,iv 0,.sl true [],.sl true [],iv 0,.sl true [],.sl true [],W,.osl [5] u 12 0 ks.length,iv 0,.sl true []]⟩→H [5]=⟨u,.arr 12 (ks.map (kA ∘ iR))⟩→Q (.exit 1) ⟨lk ([(2,.pob [1] 1 0),(3,.pob [2] 1 0)]++st),H⟩):∀ (m i u:Nat) (H:Hp),i+m=ks.length→H [1]=v1→H [3]=v3→H [2]=⟨1,.cells [iv 2,iv 0,.sl true [],.sl true [],iv 0,.sl true [],.sl true [],W,.osl [5] u 12 0 i,iv 0,.sl true []]⟩→H [5]=⟨u,.arr 12 ((ks.take i).map (kA ∘ iR))⟩ →
  LoopC (cx Tryz.prog w0 I0 n0) Hq Q ⟨lk [(2,.pob [1] 1 0),(3,.pob [2] 1 0),(32,so ks),(33,iv ks.length),(34,iv i)],H⟩:=by
 intro m;induction m with
 |zero=>
  intro i u H hm h1 h3 h2 h5;refine Ad Ai Hq.eq_1 ?_;have:i=ks.length:=by omega
  subst this;rw[BO (Cb _)] at h5;simp;exact hq H u [(32,so ks),(33,iv ks.length),(34,iv ks.length),(35,bv false)] h1 h3 h2 h5
 |succ m ih=>
  intro i u H hm h1 h3 h2 h5;have hi:i<ks.length:=by omega
  have ew:=AM i;have hE:=hk _ (A5 hi);have htk:(ks.take (i+1)).map (kA ∘ iR)=(ks.take i).map (kA ∘ iR)++[kA (iR ks[i])]:=by rw[Ij hi,List.map_append];rfl
  have next:=ih (i+1) (u+1)
  rw[htk] at next
  generalize hx:ks[i]=x at *;refine Ad Ai Hq.eq_1 ?_;simp[hi,hx,Aa,h2];refine Ae hE (by simp[Aa]) ?_;simp[Aa,h2,h5,ew];refine⟨⟨by omega,by omega⟩,?_⟩;refine next _ (by omega) (by simp[Aa,h1]) (by simp[Aa,h3]) (by simp[Aa]) ?_
  simp[Aa,List.take_take,iR]
theorem nT:∀ e:E,VK e→G.Spec Tryz.prog 29 [eX e] (eX (Jl e)):=by
 refine E.ind fun k o n ws ks l os ihk iho h=>?_;rw[VK] at h;obtain⟨hk,hl,hon,hwl,hkl,hol,hsum,hks,hos⟩:=h;refine Ah Zs (by simp) fun w0 I0=>?_;unfold PQ;rw[FP];rcases hk with rfl | rfl | rfl | rfl
 ·simp[hl (by decide)];exact BT ⟨Ab rfl,Ab rfl,Au,Au,Ab rfl,Au,Au,Au,Au,Ab rfl,Au,trivial⟩
 ·obtain⟨ho,hn⟩:=hon rfl;simp[hl (by decide)];refine Ae (FI o ho) (by simp) ?_;simp[Aa];refine Ae (FI n hn) (by simp) ?_;simp[Aa];exact BT ⟨Ab rfl,DY (Bp o).symm,Ab rfl,Ab rfl,DY (Bp n).symm,Ab rfl,Ab rfl,Au,Au,Ab rfl,Au,trivial⟩
 ·simp[hl (by decide)];refine⟨by omega,?_⟩;refine LoopC.le (B9 (d:=[2]) (u:=1) (cs:=[iv 2,iv 0,.sl true [],.sl true [],iv 0,.sl true [],.sl true [],.osl [3] 1 4 0 ws.length,.sl true [],iv 0,.sl true []]) 8 [5] 12 rfl rfl (by simp)) ?_;refine LoopC.le (AE [(2,.pob [1] 1 0),(3,.pob [2] 1 0),(32,so ks),(33,iv ks.length),(34,iv (0:Nat))] (by simp)) ?_;refine uE hkl (fun x hx=>ihk x hx (SS (hks rfl) x hx)) (W:=.osl [3] 1 4 0 ws.length) (fun H u st h1 h3 h2 h5=>?_) ks.length 0 1 _ (by omega) rfl rfl (by simp[Aa]) (by simp[Aa]);have h3':H [3]=⟨1,.arr 4 (ws.map wA)⟩:=by rw[h3];simp[Aa]
  simp[h2,h1,Aa];have fw:=Cu (H:=Bh H [1] ⟨1,.cells [iv 2,iv 0,.sl true [],.sl true [],iv 0,.sl true [],.sl true [],.osl [3] 1 4 0 ws.length,.osl [5] u 12 0 ks.length,iv 0,.sl true []]⟩) (o:=[3]) (u:=1) (sz:=4) (l:=ws) (f:=wA) (n:=ws.length) (by simp[Aa,h3']) rfl (fun x=>rfl);have fk:=Cu (H:=Bh H [1] ⟨1,.cells [iv 2,iv 0,.sl true [],.sl true [],iv 0,.sl true [],.sl true [],.osl [3] 1 4 0 ws.length,.osl [5] u 12 0 ks.length,iv 0,.sl true []]⟩) (o:=[5]) (u:=u) (sz:=12) (l:=ks) (f:=kA ∘ iR) (n:=ks.length) (by simp[Aa,h5]) rfl (fun x=>by simp);rw[← List.map_map] at fk;exact BT ⟨Ab rfl,Ab rfl,Au,Au,Ab rfl,Au,Au,fw,fk,Ab rfl,Au,trivial⟩
 ·have hO:=gY (list:=l) (os:=os) (fun x hx=>by
   obtain⟨a,b,c⟩:=RT (hos rfl) x hx;exact⟨a,b,fun h=>⟨iho x hx (c h),w7 _ (c h)⟩⟩) hol hsum
  simp;refine Ae hO (by simp[Aa]) ?_;simp[Aa];exact BT ⟨Ab rfl,Ab rfl,Au,Au,Ab rfl,Au,Au,Au,Au,Ab rfl,Au,trivial⟩
inductive RI where
 |keep (n:Int)
 |del (l:List T)
 |ins (l:List T)
 |desc (e:E)
def RI.op:RI→OP
 |.keep n=>.mk 0 n [] E0
 |.del l=>.mk 1 0 l E0
 |.ins l=>.mk 2 0 l E0
 |.desc e=>.mk 3 0 [] e
def riC:RI→List A
 |.keep n=>iv 0::iv n :: .sl true []::Gb
 |.del l=>iv 1::iv 0::BV l::Gb
 |.ins l=>iv 2::iv 0::BV l::Gb
 |.desc e=>iv 3::iv 0 :: .sl true []::eL e
@[simp] theorem Aja {x:RI}:(riC x).length=14:=by cases x<;>rfl
theorem AcE {H:Hp} (x:RI):Ky H (riC x) (oA x.op).cells:=by
 have hraw:Ky H Gb (eL E0):=⟨Ab rfl,Ab rfl,Au,Au,Ab rfl,Au,Au,Au,Au,Ab rfl,Au,trivial⟩;rw[oA_eq];cases x with
 |keep n=>exact⟨Ab rfl,Ab rfl,Au,hraw⟩
 |del l=>exact⟨Ab rfl,Ab rfl,Ab rfl,hraw⟩
 |ins l=>exact⟨Ab rfl,Ab rfl,Ab rfl,hraw⟩
 |desc e=>exact⟨Ab rfl,Ab rfl,Au,Ab rfl,Ab rfl,Ab rfl,Ab rfl,Ab rfl,Ab rfl,Ab rfl,Ab rfl,Ab rfl,Ab rfl,Ab rfl,trivial⟩
inductive IT where
 |r (x:RI)
 |got (o:OP)
def IT.op:IT→OP
 |.r x=>x.op
 |.got o=>o
def vu:IT→List A
 |.r x=>riC x
 |.got o=>(oA o).cells
def VG (x:IT):A:=.agg (vu x)
@[simp] theorem AeN {x:IT}:(VG x).cells=vu x:=rfl
@[simp] theorem Ai6 {x:IT}:(vu x).length=14:=by
 cases x with
 |r x=>simp[vu]
 |got o=>simp[vu]
theorem Fi {l:List IT}:Ge 14 (l.map VG)=true:=by rw[Ml];simp
theorem Adu {H:Hp} (x:IT):Ky H (vu x) (oA x.op).cells:=by
 cases x with
 |r x=>exact AcE x
 |got o=>exact Tm (by simp[vu])
theorem ow {H:Hp} {o:Nm} {u n:Nat} {its:List IT} (h1:H o=⟨u,.arr 14 (its.map VG)⟩) (hn:n=its.length):K6 H (.osl o u 14 0 n) (Ur (its.map IT.op)):=by
 subst hn;refine Xj (o:=o) (u:=u) (off:=0) (len:=its.length) (sz:=14) (xs:=its.map VG) (ys:=(its.map IT.op).map oA) (by rw[Rj,h1];simp) (by simp) (by simp) (fun y hy=>by
  obtain⟨x,_,rfl⟩:=List.mem_map.1 hy;simp) ?_ ?_
 ·have:∀ l:List OP,A.ones ((l.map oA).flatMap A.cells)=true:=fun l=>by
   induction l with
   |nil=>rfl
   |cons x l ih=>simp[A.ones] at ih ⊢
  exact this _
 ·rw[List.drop_zero,BO (by simp),List.map_map];have:∀ l:List IT,Ky H ((l.map VG).flatMap A.cells) ((l.map (oA ∘ IT.op)).flatMap A.cells):=fun l=>by
   induction l with
   |nil=>trivial
   |cons x l ih=>
    simp only[List.map_cons,List.flatMap_cons];exact WD (Adu x) ih (by simp)
  exact this its
theorem uh {H:Hp} (k:Int) (l:List T):K6 H (.sl true [.agg (iv k::iv 0::BV l::Gb)]) (Ur [OP.mk k 0 l E0]):=by
 have h:=ux (H:=H) (a:=.sl true [.agg (iv k::iv 0::BV l::Gb)]) (by simp[Gb]);have e:(A.sl true [.agg (iv k::iv 0::BV l::Gb)]).soft=Ur [OP.mk k 0 l E0]:=by simp[A.soft,A.softL,Gb,Gq]
 rw[e] at h;exact h
theorem YW (k:Int) (l:List T):G.Spec Tryz.prog 223 [iv k,BV l] (Ur (if l=[] then [] else [.mk k 0 l E0])):=by
 refine Ah gO (by simp) fun w0 I0=>?_;unfold Vo;by_cases h:l=[]
 ·simp[h];exact Au
 ·have:¬ l.length=0:=by simpa using h
  simp[h,this];exact uh k l
theorem MR (l:List T):G.Spec Tryz.prog 180 [BV l] (Ur (DE l)):=by
 refine Ah ZF (by simp) fun w0 I0=>?_;unfold P5;simp;refine Ae (YW 1 l) (by simp) ?_;simp;exact Ab (by simp)
theorem MX (l:List T):G.Spec Tryz.prog 179 [BV l] (Ur (Dx l)):=by
 refine Ah Zu (by simp) fun w0 I0=>?_;unfold Qc;simp;refine Ae (YW 2 l) (by simp) ?_;simp;exact Ab (by simp)
theorem Af8 {a b:List T} (hb:∀ t,t ∈ b→Bx t) (hbl:b.length≤1000000) {most:Int} {x:T} (hx:Bx x) {R:A} {N i w:Nat} {H0:Hp}
  (hq:∀ (H':Hp) (v:Nat),H' [2]=⟨v,.arr 1 ((b.map fun y=>(Gg x y:Int)).map iv)⟩→(∀ o,o ≠ [1]→o ≠ [2]→H' o=H0 o)→Q (.exit 2) ⟨lk [(1,BV a),(2,BV b),(3,iv most),(9,R),(11,.pob [0] w 0),(12,.osl [2] v 1 0 b.length),(20,BV a),(21,iv N),(22,iv i),(26,BV b),(27,iv b.length),(28,iv b.length),(29,bv false)],H'⟩) :
  ∀ (m j:Nat) (v:Nat) (H:Hp),j+m=b.length→H [0]=⟨w,.cells (tL x)⟩→H [2]=⟨v,.arr 1 (((b.take j).map fun y=>(Gg x y:Int)).map iv)⟩→(∀ o,o ≠ [1]→o ≠ [2]→H o=H0 o) →
  LoopC (cx Tryz.prog w0 I0 n0) KP Q ⟨lk [(1,BV a),(2,BV b),(3,iv most),(9,R),(11,.pob [0] w 0),(12,.osl [2] v 1 0 j),(20,BV a),(21,iv N),(22,iv i),(26,BV b),(27,iv b.length),(28,iv j)],H⟩:=by
 intro m;induction m with
 |zero=>
  intro j v H hm h0 h2 hH;have:j=b.length:=by omega
  subst this;rw[BO (Cb _)] at h2;refine Ad Ai KP.eq_1 ?_;simp;exact hq H v h2 hH
 |succ m ih=>
  intro j v H hm h0 h2 hH;have hlt:j<b.length:=by omega
  have ew:=AM j;have htk:b.take (j+1)=b.take j++[b[j]]:=Ij hlt;have next:=ih (j+1)
  rw[htk] at next
  refine Ad Ai KP.eq_1 ?_;simp[hlt,h0,Aa];refine Ae (jd hx (hb _ (A5 hlt))) (by simp) ?_;simp[h2,Aa,Nat.min_eq_left (Nat.le_of_lt hlt)];refine⟨by omega,?_⟩;rw[ew];refine next (v+1) _ (by omega) (by simp[Aa,h0]) ?_ (fun o h1 h2'=>by simp[Aa,h1,h2',hH])
  simp[Aa];rw[Ij (by simpa using hlt)];simp[List.take_take]
abbrev kN (r:List Int):A:=.sl false (r.map iv)
theorem AhP {a b:List T} (ha:∀ t,t ∈ a→Bx t) (hb:∀ t,t ∈ b→Bx t) (hal:a.length≤1000000) (hbl:b.length≤1000000) {most:Int}
  (hq:∀ (H':Hp),H' [3]=⟨a.length+1,.arr 1 ((Oh a b).map kN)⟩→H' [5]=⟨0,.none⟩→Q (.exit 0) ⟨lk [(1,BV a),(2,BV b),(3,iv most),(9,.osl [3] (a.length+1) 1 0 a.length),(20,BV a),(21,iv a.length),(22,iv a.length),(23,bv false)],H'⟩) :
  ∀ (m i:Nat) (H:Hp),i+m=a.length→H [3]=⟨i+1,.arr 1 ((Oh (a.take i) b).map kN)⟩→H [5]=⟨0,.none⟩ →
  LoopC (cx Tryz.prog w0 I0 n0) KI Q ⟨lk [(1,BV a),(2,BV b),(3,iv most),(9,.osl [3] (i+1) 1 0 i),(20,BV a),(21,iv a.length),(22,iv i)],H⟩:=by
 intro m;induction m with
 |zero=>
  intro i H hm h3 h5;have:i=a.length:=by omega
  subst this;rw[BO (Cb _)] at h3;refine Ad Ai KI.eq_1 ?_;simp;exact hq H h3 h5
 |succ m ih=>
  intro i H hm h3 h5;have hlt:i<a.length:=by omega
  have ew:=AM i;have htk:a.take (i+1)=a.take i++[a[i]]:=Ij hlt;have next:=ih (i+1)
  rw[htk] at next
  have hrl:(Oh (a.take i) b).length=i:=by simp[Oh];omega
  refine Ad Ai KI.eq_1 ?_;simp[hlt];refine LoopC.le (FC 12 [2] 1 (by simp)) ?_;refine LoopC.le (AE [(1,BV a),(2,BV b),(3,iv most),(9,.osl [3] (i+1) 1 0 i),(11,.pob [0] ((H [0]).u+1) 0),(12,.osl [2] ((H [2]).u+1) 1 0 0),(20,BV a),(21,iv a.length),(22,iv i),(26,BV b),(27,iv b.length),(28,iv (0:Nat))] (by simp[upd,Aa])) ?_;refine Af8 (a:=a) hb hbl (ha _ (A5 hlt)) (H0:=Bh H [0] ⟨(H [0]).u+1,.cells (tL a[i])⟩) (fun H' v g2 gH=>?_) b.length 0 ((H [2]).u+1) _ (by omega) (by simp[Aa]) (by simp[Aa]) (fun o h1 h2=>by simp[Aa,h1,h2]);simp;refine Ef (H5 (d:=[2]) (fun _ h=>h) 12 (kN (b.map fun y=>(Gg a[i] y:Int))) fun H1 e1=>?_) ?_
  ·simp;exact Cu (f:=iv) (l:=b.map fun y=>(Gg a[i] y:Int)) (by rw[e1,g2];simp) (by simp) (fun x=>by simp)
  ·refine Ef (AE [(1,BV a),(2,BV b),(3,iv most),(9,.osl [3] (i+1) 1 0 i),(12,kN (b.map fun y=>(Gg a[i] y:Int))),(20,BV a),(21,iv a.length),(22,iv i)] (by simp[upd])) (Di ?_);have g3:H' [3]=H [3]:=by rw[gH _ (by simp) (by simp)];simp[Aa]
   have g5:H' [5]=H [5]:=by rw[gH _ (by simp) (by simp)];simp[Aa]
   simp[Aa,g3,h3,hrl];refine⟨by omega,?_⟩;rw[ew];refine next _ (by omega) ?_ (by simp[Aa,g5,h5])
   have e1:List.take i (List.map kN (Oh (List.take i a) b))=List.map kN (Oh (List.take i a) b):=BO (by simp[Oh];omega);simp[Aa,e1,Oh];rw[Ij (by simpa using hlt)];simp[List.take_take]
def ir (la lb:Nat):Nat→Nat→List Sc→Prop
 |i,j,[]=>i≤la∧j≤lb
 |i,j,x::P=>i≤x.i∧j≤x.j∧x.i<la∧x.j<lb∧ir la lb (x.i+1) (x.j+1) P
theorem kc {la lb:Nat}:∀ (P:List Sc) (i j:Nat),i≤la→j≤lb→(∀ x,x ∈ P→i≤x.i∧j≤x.j∧x.i<la∧x.j<lb)→(P.Pairwise fun p q=>p.i<q.i∧p.j<q.j)→ir la lb i j P
 |[],i,j,h1,h2,_,_=>⟨h1,h2⟩
 |x::P,i,j,h1,h2,h3,h4=>by
  obtain⟨g1,g2,g3,g4⟩:=h3 x (by simp);rw[List.pairwise_cons] at h4;refine⟨g1,g2,g3,g4,kc P _ _ (by omega) (by omega) (fun y hy=>?_) h4.2⟩;have:=h4.1 y hy;obtain⟨k1,k2,k3,k4⟩:=h3 y (by simp[hy]);omega
theorem TI (a b:List T):ir a.length b.length 0 0 (fN (Oh a b)):=by
 obtain⟨h,_⟩:=dD (Oh a b);obtain⟨h1,h2⟩:=G9 h;obtain⟨g1,g2⟩:=Q1 h1;refine kc _ 0 0 (by omega) (by omega) (fun x hx=>?_) ?_
 ·obtain⟨_,_,_,_,r,k1,k2⟩:=Pm (h2 x (g2.subset hx));have l1:=(List.getElem?_eq_some_iff.1 k1).1;have e1:=(List.getElem?_eq_some_iff.1 k1).2;have l2:=(List.getElem?_eq_some_iff.1 k2).1;rw[← e1] at l2;simp[Oh] at l1 l2;omega
 ·have hp:(fN (Oh a b)).Pairwise fun p q=>Zh p q=true:=by
   refine(List.Perm.pairwise_iff (fun {p q} h=>?_) g2).2 h1;unfold Zh at h ⊢;simp at h ⊢;omega
  have hr:(fN (Oh a b)).Pairwise fun p q=>p.i<q.i:=g1;refine(hp.and hr).imp fun {p q} h=>?_;obtain⟨h1,h2⟩:=h;unfold Zh at h1;simp at h1;omega
theorem Ah5 {one:T→T→E} {a b:List T} (hal:a.length≤1000000) (hbl:b.length≤1000000) {most:Int} (hone:∀ x,x ∈ a→∀ y,y ∈ b→G.Spec Tryz.prog 30 [tX x,tX y,iv most] (eX (one x y))) {P:List Sc} (hP:P.length≤1000) {R:List OP}
  (hq:∀ (H':Hp) (its:List IT) (v i j:Nat),i≤a.length→j≤b.length→its.length≤3*P.length→R=HO one a b [] i j (its.map IT.op)→H' [5]=⟨v,.arr 14 (its.map VG)⟩→Q (.exit 4) ⟨lk [(1,BV a),(2,BV b),(3,iv most),(15,.osl [5] v 14 0 its.length),(16,iv i),(17,iv j),(45,prs P),(46,iv P.length),(47,iv P.length),(48,bv false)],H'⟩) :
  ∀ (m k i j v:Nat) (its:List IT) (H:Hp),k+m=P.length→ir a.length b.length i j (P.drop k)→its.length≤3*k→R=HO one a b (P.drop k) i j (its.map IT.op)→H [5]=⟨v,.arr 14 (its.map VG)⟩ →
  LoopC (cx Tryz.prog w0 I0 n0) K7 Q ⟨lk [(1,BV a),(2,BV b),(3,iv most),(15,.osl [5] v 14 0 its.length),(16,iv i),(17,iv j),(45,prs P),(46,iv P.length),(47,iv k)],H⟩:=by
 intro m;induction m with
 |zero=>
  intro k i j v its H hm hk hl hR h5;have:k=P.length:=by omega
  subst this;rw[List.drop_length] at hk hR;refine Ad Ai K7.eq_1 ?_;simp;exact hq H its v i j hk.1 hk.2 hl hR h5
 |succ m ih=>
  intro k i j v its H hm hk hl hR h5;have hlt:k<P.length:=by omega
  have ew:=AM k;have hd:P.drop k=P[k]::P.drop (k+1):=(List.getElem_cons_drop hlt).symm;rw[hd] at hk hR;have next:=ih (k+1)
  generalize hx:P[k]=x at *;obtain⟨k1,k2,k3,k4,k5⟩:=hk;rw[HO] at hR;have ei:i64.wrap ((x.i:Int)+1)=((x.i+1:Nat):Int):=Bl;have ej:i64.wrap ((x.j:Int)+1)=((x.j+1:Nat):Int):=Bl;have hO:=hone _ (A5 k3) _ (A5 k4);have D1:=MR ((a.take x.i).drop i);have D2:=MX ((b.take x.j).drop j);refine Ad Ai K7.eq_1 ?_;have f1:x.i≤a.length:=by omega
  have f2:x.j≤b.length:=by omega
  have dl:∀ l,(DE l).length≤1:=fun l=>by unfold DE;split<;>simp
  have il:∀ l,(Dx l).length≤1:=fun l=>by unfold Dx;split<;>simp
  have d1:=dl ((a.take x.i).drop i);have d2:=il ((b.take x.j).drop j);simp[hlt,hx,KH,kE,Aa,k1,k2,f1,f2,h5];simp only[← List.map_drop,← List.map_take];simp only[List.drop_take] at D1 D2 hR d1 d2;refine Ae D1 (by simp) ?_;generalize DE ((a.drop i).take (x.i-i))=D at *;generalize hI:Dx ((b.drop j).take (x.j-j))=I at *;simp[k1,k2,f1,f2,h5,Aa,Fi];have hgot:∀ D:List OP,D.map oA=(D.map IT.got).map VG:=fun D=>by
   rw[List.map_map];refine List.map_congr_left fun o _=>?_;simp[VG,vu]
  refine⟨by omega,?_⟩;simp only[← List.map_drop,← List.map_take];refine Ae D2 (by simp) ?_;simp[k3,k4,Aa,Fi];refine⟨by omega,?_⟩;refine Ae hO (by simp) ?_;simp[ei,ej,ew,Aa,Fi];refine⟨by omega,?_⟩;have e1:a.getD x.i T0=a[x.i]:=by simp[k3]
  have e2:b.getD x.j T0=b[x.j]:=by simp[k4]
  rw[e1,e2] at hR;have hop:∀ D:List OP,(D.map IT.got).map IT.op=D:=fun D=>by
   rw[List.map_map];exact List.map_id' _
  have hrow:List.take (its.length+D.length+I.length) (List.take (its.length+D.length) (List.map VG its++List.map oA D)++List.map oA I)++[A.agg (A.v (Value.int i64 3)::A.v (Value.int i64 0)::A.sl true []::eL (one a[x.i] b[x.j]))]=(its++D.map IT.got++I.map IT.got++[IT.r (.desc (one a[x.i] b[x.j]))]).map VG:=by
   rw[BO (by simp),BO (by simp),hgot D,hgot I];simp[VG,vu,riC]
  rw[hrow];have nx:=next (x.i+1) (x.j+1) (v+1+1+1) (its++D.map IT.got++I.map IT.got++[IT.r (.desc (one a[x.i] b[x.j]))]) (Bh (Bh H [4] ⟨(H [4]).u+1,.cells [iv x.i,iv x.j]⟩) [5] ⟨v+1+1+1,.arr 14 ((its++D.map IT.got++I.map IT.got++[IT.r (.desc (one a[x.i] b[x.j]))]).map VG)⟩) (by omega) k5 (by simp;omega) (by rw[hR];congr 1;simp[hop,IT.op,RI.op]) (by simp[Aa])
  have hlen:(its++D.map IT.got++I.map IT.got++[IT.r (.desc (one a[x.i] b[x.j]))]).length=its.length+D.length+I.length+1:=by simp;omega
  rw[hlen] at nx;simpa using nx
theorem sk {one:T→T→E} {a b:List T} (ha:∀ t,t ∈ a→Bx t) (hb:∀ t,t ∈ b→Bx t) (hal:a.length≤1000000) (hbl:b.length≤1000000) {most q:Int} (hone:∀ x,x ∈ a→∀ y,y ∈ b→G.Spec Tryz.prog 30 [tX x,tX y,iv most] (eX (one x y))) :
  G.Spec Tryz.prog 154 [iv q,BV a,BV b,iv most] (Ur (GU one a b)):=by
 obtain⟨hpk,hp16⟩:=dD (Oh a b);have hPl:(fN (Oh a b)).length≤16:=by
  have:=(Q1 (G9 hpk).1).2.length_eq;unfold fN;omega
 have hPick:=rD (Oh a b) (by simp[Oh];omega) (fun r hr=>by
  obtain⟨x,_,rfl⟩:=List.mem_map.1 hr;simp;omega) hpk hp16
 refine Ah lC (by simp) fun w0 I0=>?_;unfold WT;simp;refine LoopC.le (FC 9 [3] 1 (by simp)) ?_;refine LoopC.le (AE [(1,BV a),(2,BV b),(3,iv most),(9,.osl [3] (0+1) 1 0 0),(20,BV a),(21,iv a.length),(22,iv (0:Nat))] (by simp[upd])) ?_;refine AhP ha hb hal hbl (fun H' h3 h5=>?_) a.length 0 _ (by omega) (by simp[Oh]) (by simp[Aa]);simp;refine Ef (H5 (d:=[3]) (fun _ h=>h) 9 (mU (Oh a b)) fun H1 e1=>?_) ?_
 ·simp;exact Cu (f:=kN) (l:=Oh a b) (by rw[e1,h3];simp) (by simp[Oh]) (fun x=>by simp)
 ·refine Ef (AE [(1,BV a),(2,BV b),(3,iv most),(9,mU (Oh a b)),(15,.sl true []),(16,iv 0),(17,iv 0)] (by simp[upd])) (Di ?_);simp;refine Ae hPick (by simp) ?_;simp;refine LoopC.le (FC 15 [5] 14 (by simp)) ?_;refine LoopC.le (AE [(1,BV a),(2,BV b),(3,iv most),(15,.osl [5] 1 14 0 ([]:List IT).length),(16,iv (0:Nat)),(17,iv (0:Nat)),(45,prs (fN (Oh a b))),(46,iv (fN (Oh a b)).length),(47,iv (0:Nat))] (by simp[upd,Aa,h5,fN])) ?_;refine Ah5 (one:=one) (a:=a) (b:=b) hal hbl hone (P:=fN (Oh a b)) (by omega) (R:=GU one a b) (fun H2 its v i j hi hj hl hR k5=>?_) _ 0 0 0 1 [] _ (Nat.zero_add _) (TI a b) (by simp) rfl (by simp[Aa,h5]);have D1:=MR ((a.drop i).take (a.length-i));have D2:=MX ((b.drop j).take (b.length-j));have dl:∀ l,(DE l).length≤1:=fun l=>by unfold DE;split<;>simp
  have il:∀ l,(Dx l).length≤1:=fun l=>by unfold Dx;split<;>simp
  have d1:=dl ((a.drop i).take (a.length-i));have d2:=il ((b.drop j).take (b.length-j));have ea:(a.drop i).take (a.length-i)=a.drop i:=BO (by simp);have eb:(b.drop j).take (b.length-j)=b.drop j:=BO (by simp);have hR2:GU one a b=its.map IT.op++DE ((a.drop i).take (a.length-i))++Dx ((b.drop j).take (b.length-j)):=by rw[ea,eb,hR,HO]
  clear ea eb;rw[hR2];have hgot:∀ D:List OP,D.map oA=(D.map IT.got).map VG:=fun D=>by
   rw[List.map_map];refine List.map_congr_left fun o _=>?_;simp[VG,vu]
  have hop:∀ D:List OP,(D.map IT.got).map IT.op=D:=fun D=>by
   rw[List.map_map];exact List.map_id' _
  clear hR2;generalize DE ((a.drop i).take (a.length-i))=D at *;generalize Dx ((b.drop j).take (b.length-j))=I at *;simp[hi,hj];simp only[← List.map_drop,← List.map_take];refine Ae D1 (by simp) ?_;simp[hj,k5,Aa,Fi];refine⟨by omega,?_⟩;simp only[← List.map_drop,← List.map_take];refine Ae D2 (by simp) ?_;simp[Aa,Fi];refine⟨by omega,?_⟩;have hf:∀ H:Hp,H [5]=⟨v+1+1,.arr 14 ((its++D.map IT.got++I.map IT.got).map VG)⟩→K6 H (.osl [5] (v+1+1) 14 0 (its.length+D.length+I.length)) (Ur (its.map IT.op++(D++I))):=fun H hH=>by
   have:=ow hH (n:=its.length+D.length+I.length) (by simp;omega);simpa[hop] using this
  refine hf _ ?_;rw[hgot D,hgot I,BO (by simp)];simp[Aa]
theorem qU {gap:List T→List T→List OP} {s:Sp} (h:s.k=0) (ss:List Sp) (a b:List T) (out:List OP):CP gap (s::ss) a b out=CP gap ss (a.drop s.n) (b.drop s.n) (out++[.mk 0 s.n [] E0]):=by
 cases ss with
 |nil=>simp[CP,h]
 |cons s2 ss=>simp[CP,h]
theorem vq {gap:List T→List T→List OP} {s:Sp} (h:s.k=2) (ss:List Sp) (a b:List T) (out:List OP):CP gap (s::ss) a b out=CP gap ss a (b.drop s.n) (out++Dx (b.take s.n)):=by
 cases ss with
 |nil=>simp[CP,h]
 |cons s2 ss=>simp[CP,h]
theorem uN {gap:List T→List T→List OP} {s s2:Sp} (h:s.k=1) (h2:s2.k=2) (ss:List Sp) (a b:List T) (out:List OP):CP gap (s::s2::ss) a b out=CP gap ss (a.drop s.n) (b.drop s2.n) (out++gap (a.take s.n) (b.take s2.n)):=by
 simp[CP,h,h2]
theorem xV {gap:List T→List T→List OP} {s:Sp} (h:s.k=1) {ss:List Sp} (h2:∀ s2 r,ss=s2::r→s2.k ≠ 2) (a b:List T) (out:List OP):CP gap (s::ss) a b out=CP gap ss (a.drop s.n) b (out++DE (a.take s.n)):=by
 cases ss with
 |nil=>simp[CP,h]
 |cons s2 ss=>simp[CP,h,h2 s2 ss rfl]
theorem gS (one:T→T→E) (a b:List T):∀ (P:List Sc) (i j:Nat) (out:List OP),(HO one a b P i j out).length≤out.length+3*P.length+2
 |[],i,j,out=>by
  have d1:(DE (a.drop i)).length≤1:=by unfold DE;split<;>simp
  have d2:(Dx (b.drop j)).length≤1:=by unfold Dx;split<;>simp
  simp[HO];omega
 |x::P,i,j,out=>by
  have d1:(DE ((a.take x.i).drop i)).length≤1:=by unfold DE;split<;>simp
  have d2:(Dx ((b.take x.j).drop j)).length≤1:=by unfold Dx;split<;>simp
  have:=gS one a b P (x.i+1) (x.j+1) (out++DE ((a.take x.i).drop i)++Dx ((b.take x.j).drop j)++[.mk 3 0 [] (one (a.getD x.i T0) (b.getD x.j T0))]);rw[HO];simp only[List.length_append,List.length_singleton] at this;simp only[List.length_cons];omega
theorem Wu (one:T→T→E) (a b:List T):(GU one a b).length≤50:=by
 obtain⟨hpk,hp16⟩:=dD (Oh a b);have hPl:(fN (Oh a b)).length≤16:=by
  have:=(Q1 (G9 hpk).1).2.length_eq;unfold fN;omega
 have:=gS one a b (fN (Oh a b)) 0 0 [];simp at this;unfold GU;omega
theorem dN (D:List OP):D.map oA=(D.map IT.got).map VG:=by
 rw[List.map_map];refine List.map_congr_left fun o _=>?_;simp[VG,vu]
theorem p9 (D:List OP):(D.map IT.got).map IT.op=D:=by
 rw[List.map_map];exact List.map_id' _
theorem yJ {one:T→T→E} {a b:T} (ha:∀ t,t ∈ a.kids→Bx t) (hb:∀ t,t ∈ b.kids→Bx t) (hal:a.kids.length≤1000000) (hbl:b.kids.length≤1000000) {most:Int} (hone:∀ x,x ∈ a.kids→∀ y,y ∈ b.kids→G.Spec Tryz.prog 30 [tX x,tX y,iv most] (eX (one x y))) {S:List Sp} (hS:S.length≤10000000) (hS2:∀ s,s ∈ S→s.k≤2) {R:List OP}
  (hq:∀ (H':Hp) (its:List IT) (v:Nat) (st:List (Nat × A)),its.map IT.op=R→H' [2]=⟨v,.arr 14 (its.map VG)⟩→Q (.exit 0) ⟨lk ([(0,fQ S),(3,iv most),(5,.pob [0] 1 0),(9,.osl [2] v 14 0 its.length)]++st),H'⟩) :
  ∀ (m k v:Nat) (x y:List T) (its:List IT) (H:Hp),k+m=S.length→(∀ t,t ∈ x→t ∈ a.kids)→(∀ t,t ∈ y→t ∈ b.kids)→x.length≤1000000→y.length≤1000000→dA (Bs (S.drop k))≤x.length→dB (Bs (S.drop k))≤y.length→its.length≤50*k→R=CP (GU one) (S.drop k) x y (its.map IT.op)→H [0]=⟨1,.cells (tL a)⟩→H [2]=⟨v,.arr 14 (its.map VG)⟩ →
  LoopC (cx Tryz.prog w0 I0 n0) FO Q ⟨lk [(0,fQ S),(3,iv most),(5,.pob [0] 1 0),(9,.osl [2] v 14 0 its.length),(10,BV x),(11,BV y),(12,iv k)],H⟩:=by
 have tk:∀ (l:List T) (n:Nat),(l.drop n).take (l.length-n)=l.drop n:=fun l n=>BO (by simp);intro m;induction m using Nat.strongRecOn with
 |_ m ih=>
 intro k v x y its H hm hx hy hxl hyl hA hB hl hR h0 h2;cases m with
 |zero=>
  have:k=S.length:=by omega
  subst this;rw[List.drop_length] at hR;refine Ad Ai FO.eq_1 ?_;simp;exact hq H its v [(10,BV x),(11,BV y),(12,iv S.length),(22,bv false)] hR.symm h2
 |succ m=>
  have hlt:k<S.length:=by omega
  have ew:=AM k;have hd:S.drop k=S[k]::S.drop (k+1):=(List.getElem_cons_drop hlt).symm;have hk:=hS2 _ (A5 hlt);rw[hd] at hR hA hB;rw[BE,Hn,Ih] at hA;rw[BE,HD,H9] at hB;have hg:(S.map Pe)[k]? = some (Pe S[k]):=by simp[hlt]
  generalize hs:S[k]=s at *;have hk3:s.k=0∨s.k=1∨s.k=2:=by omega
  rcases hk3 with h | h | h
  ·rw[qU h] at hR;rw[if_neg (by omega)] at hA hB;have f1:s.n≤x.length:=by omega
   have f2:s.n≤y.length:=by omega
   refine Ad Ai FO.eq_1 ?_;simp[hlt,hs,Pe,Zr,h,f1,f2,h2,Fi,ew];refine⟨by omega,?_⟩;simp only[← List.map_drop,← List.map_take,tk];have nx:=ih m (by omega) (k+1) (v+1) (x.drop s.n) (y.drop s.n) (its++[IT.r (RI.keep (s.n:Int))]) (Bh H [2] ⟨v+1,.arr 14 ((its++[IT.r (RI.keep (s.n:Int))]).map VG)⟩) (by omega) (fun t ht=>hx t (QB ht)) (fun t ht=>hy t (QB ht)) (by simp;omega) (by simp;omega) (by simp;omega) (by simp;omega) (by simp;omega) (by rw[hR];simp[IT.op,RI.op]) (by simp[Aa,h0]) (by simp[Aa]);rw[BO (by simp)];rw[Int.natCast_add] at nx;simp only[List.length_append,List.length_map,List.length_singleton,List.length_cons,List.length_nil,List.map_append,List.map_cons,List.map_nil] at nx ⊢;exact nx
  ·rw[h] at hA hB;simp at hA hB;have f1:s.n≤x.length:=by omega
   by_cases hg2:∃ h3:k+1<S.length,S[k+1].k=2
   ·obtain⟨h3,h4⟩:=hg2;have hd2:S.drop (k+1)=S[k+1]::S.drop (k+1+1):=(List.getElem_cons_drop h3).symm;rw[hd2] at hR hA hB;rw[BE,Hn,Ih] at hA;rw[BE,HD,H9] at hB;generalize hs2:S[k+1]=s2 at *;rw[uN h h4] at hR;rw[h4] at hA hB;simp at hA hB;have f2:s2.n≤y.length:=by omega
    have ew2:i64.wrap ((k:Int)+1+1)=((k+1+1:Nat):Int):=Bl;have G:=sk (one:=one) (a:=x.take s.n) (b:=y.take s2.n) (q:=a.kind) (fun t ht=>ha t (hx t (PD ht))) (fun t ht=>hb t (hy t (PD ht))) (by simp;omega) (by simp;omega) (most:=most) (fun p hp q hq=>hone p (hx p (PD hp)) q (hy q (PD hq)));have gl:=Wu one (x.take s.n) (y.take s2.n);have i1:(k:Int)+1<S.length:=by omega
    have i2:(0:Int)≤(k:Int)+1:=by omega
    have i3:((k:Int)+1).toNat=k+1:=by omega
    have i4:i64.wrap ((k:Int)+1)=(k:Int)+1:=by rw[ew];omega
    refine Ad Ai FO.eq_1 ?_;generalize GU one (x.take s.n) (y.take s2.n)=I at *;simp[hlt,hs,Pe,Zr,h,f1,f2,h2,Fi,i4,h3,hs2,h4,h0,i1,i2,i3];simp only[← List.map_drop,← List.map_take,tk];refine Ae G (by simp) ?_;simp[f1,f2,h2,Fi,i4,h0,ew2];refine⟨by omega,?_⟩;simp only[← List.map_drop,← List.map_take,tk];cases m with
    |zero=>omega
    |succ m=>
     have nx:=ih m (by omega) (k+1+1) (v+1) (x.drop s.n) (y.drop s2.n) (its++I.map IT.got) (Bh H [2] ⟨v+1,.arr 14 ((its++I.map IT.got).map VG)⟩) (by omega) (fun t ht=>hx t (QB ht)) (fun t ht=>hy t (QB ht)) (by simp;omega) (by simp;omega) (by simp;omega) (by simp;omega) (by simp;omega) (by rw[hR,List.map_append,p9]) (by simp[Aa,h0]) (by simp[Aa]);rw[BO (by simp),dN,← List.map_append];rw[Int.natCast_add,Int.natCast_add] at nx;simp only[List.length_append,List.length_map,List.length_singleton,List.length_cons,List.length_nil,List.map_append,List.map_cons,List.map_nil] at nx ⊢;exact nx
   ·have hnd:∀ s2 r,S.drop (k+1)=s2::r→s2.k ≠ 2:=fun s2 r e h4=>by
     have h3:k+1<S.length:=by
      have:=congrArg List.length e;simp at this;omega
     have hd2:S.drop (k+1)=S[k+1]::S.drop (k+1+1):=(List.getElem_cons_drop h3).symm;rw[hd2] at e;injection e with e1 _;exact hg2 ⟨h3,by rw[e1];exact h4⟩
    rw[xV h hnd] at hR;have D:=MR (x.take s.n);have dl:(DE (x.take s.n)).length≤1:=by unfold DE;split<;>simp
    generalize DE (x.take s.n)=I at *;refine Ad Ai FO.eq_1 ?_;by_cases h3:k+1<S.length
    ·have h4:¬ (S[k+1].k:Int)=2:=fun e=>hg2 ⟨h3,by omega⟩;have h4':¬ S[k+1].k=2:=fun e=>hg2 ⟨h3,e⟩;have i1:(k:Int)+1<S.length:=by omega
     have i2:(0:Int)≤(k:Int)+1:=by omega
     have i3:((k:Int)+1).toNat=k+1:=by omega
     have i4:i64.wrap ((k:Int)+1)=(k:Int)+1:=by rw[ew];omega
     simp[hlt,hs,Pe,Zr,h,f1,h2,Fi,i4,h3,h4,h4',i1,i2,i3];simp only[← List.map_drop,← List.map_take,tk];refine Ae D (by simp) ?_;simp[f1,h2,Fi,i4];refine⟨by omega,?_⟩;simp only[← List.map_drop,← List.map_take,tk];have nx:=ih m (by omega) (k+1) (v+1) (x.drop s.n) y (its++I.map IT.got) (Bh H [2] ⟨v+1,.arr 14 ((its++I.map IT.got).map VG)⟩) (by omega) (fun t ht=>hx t (QB ht)) hy (by simp;omega) (by omega) (by simp;omega) (by omega) (by simp;omega) (by rw[hR,List.map_append,p9]) (by simp[Aa,h0]) (by simp[Aa]);rw[BO (by simp),dN,← List.map_append];rw[Int.natCast_add] at nx;simp only[List.length_append,List.length_map,List.length_singleton,List.length_cons,List.length_nil,List.map_append,List.map_cons,List.map_nil] at nx ⊢;exact nx
    ·have i1:¬ (k:Int)+1<S.length:=by omega
     have i4:i64.wrap ((k:Int)+1)=(k:Int)+1:=by rw[ew];omega
     simp[hlt,hs,Pe,Zr,h,f1,h2,Fi,i4,i1];simp only[← List.map_drop,← List.map_take,tk];refine Ae D (by simp) ?_;simp[f1,h2,Fi,i4];refine⟨by omega,?_⟩;simp only[← List.map_drop,← List.map_take,tk];have nx:=ih m (by omega) (k+1) (v+1) (x.drop s.n) y (its++I.map IT.got) (Bh H [2] ⟨v+1,.arr 14 ((its++I.map IT.got).map VG)⟩) (by omega) (fun t ht=>hx t (QB ht)) hy (by simp;omega) (by omega) (by simp;omega) (by omega) (by simp;omega) (by rw[hR,List.map_append,p9]) (by simp[Aa,h0]) (by simp[Aa]);rw[BO (by simp),dN,← List.map_append];rw[Int.natCast_add] at nx;simp only[List.length_append,List.length_map,List.length_singleton,List.length_cons,List.length_nil,List.map_append,List.map_cons,List.map_nil] at nx ⊢;exact nx
  ·rw[vq h] at hR;rw[h] at hA hB;simp at hA hB;have f2:s.n≤y.length:=by omega
   have D:=MX (y.take s.n);have dl:(Dx (y.take s.n)).length≤1:=by unfold Dx;split<;>simp
   generalize Dx (y.take s.n)=I at *;refine Ad Ai FO.eq_1 ?_;simp[hlt,hs,Pe,Zr,h,f2,h2,Fi,ew];simp only[← List.map_drop,← List.map_take,tk];refine Ae D (by simp) ?_;simp[f2,h2,Fi,ew];refine⟨by omega,?_⟩;simp only[← List.map_drop,← List.map_take,tk];have nx:=ih m (by omega) (k+1) (v+1) x (y.drop s.n) (its++I.map IT.got) (Bh H [2] ⟨v+1,.arr 14 ((its++I.map IT.got).map VG)⟩) (by omega) hx (fun t ht=>hy t (QB ht)) (by omega) (by simp;omega) (by omega) (by simp;omega) (by simp;omega) (by rw[hR,List.map_append,p9]) (by simp[Aa,h0]) (by simp[Aa]);rw[BO (by simp),dN,← List.map_append];rw[Int.natCast_add] at nx;simp only[List.length_append,List.length_map,List.length_singleton,List.length_cons,List.length_nil,List.map_append,List.map_cons,List.map_nil] at nx ⊢;exact nx
theorem jD {one:T→T→E} {a b:T} (ha:∀ t,t ∈ a.kids→Bx t) (hb:∀ t,t ∈ b.kids→Bx t) (hal:a.kids.length≤1000000) (hbl:b.kids.length≤1000000) {most:Int} (hone:∀ x,x ∈ a.kids→∀ y,y ∈ b.kids→G.Spec Tryz.prog 30 [tX x,tX y,iv most] (eX (one x y))) {S:List Sp} (hS:S.length≤10000000) (hS2:∀ s,s ∈ S→s.k≤2) (hA:dA (Bs S)≤a.kids.length) (hB:dB (Bs S)≤b.kids.length) :
  G.Spec Tryz.prog 121 [fQ S,tX a,tX b,iv most] (Ur (CP (GU one) S a.kids b.kids [])):=by
 refine Ah nF (by simp) fun w0 I0=>?_;unfold WZ;simp;refine LoopC.le (FC 9 [2] 14 (by simp)) ?_;refine LoopC.le (AE [(0,fQ S),(3,iv most),(5,.pob [0] 1 0),(9,.osl [2] 1 14 0 ([]:List IT).length),(10,BV a.kids),(11,BV b.kids),(12,iv (0:Nat))] (by simp[upd])) ?_;refine yJ (a:=a) (b:=b) ha hb hal hbl hone hS hS2 (R:=CP (GU one) S a.kids b.kids []) (fun H' its v st hR k2=>?_) S.length 0 1 a.kids b.kids [] _ (Nat.zero_add _) (fun t h=>h) (fun t h=>h) hal hbl (by simpa using hA) (by simpa using hB) (by simp) (by simp) (by simp[Aa]) (by simp[Aa]);simp;rw[← hR];exact ow k2 rfl
theorem vQ (l:List Nat):(yC l).map iv=l.map nv:=by
 simp[yC]
theorem aZ {us:List Nat} (h:∀ x,x ∈ us→x≤2):∀ s,s ∈ Lu us→s.k≤2∧1≤s.n:=dx us 0 0 0 h
theorem Ps:∀ (l:List Sp),(∀ s,s ∈ l→s.k≤2∧1≤s.n)→l.length≤dA (Bs l)+dB (Bs l)
 |[],_=>by simp
 |s::l,h=>by
  have ih:=Ps l fun x hx=>h x (by simp[hx]);have hs:=h s (by simp);rw[BE,Hn,HD,Ih,H9,List.length_cons];split<;>split<;>omega
theorem qh (a b:List T) (h:a=[]∨b=[]):fN (Oh a b)=[]:=by
 have hP:=TI a b;cases hp:fN (Oh a b) with
 |nil=>rfl
 |cons x P=>
  rw[hp] at hP;have h1:=hP.2.2.1;have h2:=hP.2.2.2.1;rcases h with rfl | rfl<;>simp at h1 h2
theorem gW (one:T→T→E) (b:List T):GU one [] b=Dx b:=by
 unfold GU;rw[qh _ _ (.inl rfl),HO];simp[DE]
theorem sr (one:T→T→E) (a:List T):GU one a []=DE a:=by
 unfold GU;rw[qh _ _ (.inr rfl),HO];simp[Dx]
theorem xG (one:T→T→E) (a b:List T):CP (GU one) (Lu (Bs [⟨1,a.length⟩,⟨2,b.length⟩])) a b []=GU one a b:=by
 have e:Lu (Bs [⟨1,a.length⟩,⟨2,b.length⟩])=fl 1 a.length++fl 2 b.length:=by
  unfold Lu;rw[BE,BE,JZ];by_cases h1:a.length=0
  ·by_cases h2:b.length=0
   ·simp[h1,h2,Qu]
   ·rw[h1];simp only[List.replicate_zero,List.nil_append];rw[Wm b.length [] 0 0 0 (by omega)];simp[Qu]
  ·rw[bP a.length _ 0 0 0 (by omega)];by_cases h2:b.length=0
   ·simp[h2,Qu]
   ·rw[Wm b.length [] 0 _ 0 (by omega)];simp[Qu]
 rw[e];by_cases h1:a.length=0
 ·have h1':a=[]:=by simpa using h1
  subst h1';by_cases h2:b.length=0
  ·have h2':b=[]:=by simpa using h2
   subst h2';simp[CP,gW,Dx]
  ·rw[YT (k:=2) (n:=b.length) (by omega)];simp[CP,gW]
 ·rw[YT (k:=1) (n:=a.length) (by omega)];by_cases h2:b.length=0
  ·have h2':b=[]:=by simpa using h2
   subst h2';simp[CP,sr]
  ·rw[YT (k:=2) (n:=b.length) (by omega)];simp[CP]
theorem dH {one:T→T→E} {a b:T} (ha:Bx a) (hb:Bx b) (hna:∀ t,t ∈ a.kids→Af t=t) (hnb:∀ t,t ∈ b.kids→Af t=t) (hal:a.kids.length≤30000) (hbl:b.kids.length≤30000) {most:Int} (hm:Bn most) (hone:∀ x,x ∈ a.kids→∀ y,y ∈ b.kids→G.Spec Tryz.prog 30 [tX x,tX y,iv most] (eX (one x y))) :
  G.Spec Tryz.prog 62 [tX a,tX b,iv most] (eX (Sf one most a b)):=by
 have hka:=(wfT_iff.1 ha).ks;have hkb:=(wfT_iff.1 hb).ks;have C1:=X4 (ks:=[]) (ts:=a.kids) (by simp) (by simp) hka hna (by simp;omega) 1;have hl1:=Xn a.kids [];simp at hl1;have C2:=X4 (ks:=(CI [] a.kids).1) (ts:=b.kids) (cQ (l:=a.kids) (by simp) hka) (WQ (l:=a.kids) (by simp)) hkb hnb (by omega) (WY 1 [] a.kids);have e1:(Wa a).length=a.kids.length:=by simp[Wa,yC,FK]
 have e2:(VY a b).length=b.kids.length:=by simp[VY,yC,FK]
 have hD:=kR (a:=Wa a) (b:=VY a b) (by omega) (by omega) hm;have z1:(Wa a).map iv=(CI [] a.kids).2.map nv:=vQ _;have z2:(VY a b).map iv=(CI (CI [] a.kids).1 b.kids).2.map nv:=vQ _;simp only[Gc,z1,z2] at hD;have key:∀ (w0:World) (I0:Nat→Prop) (S:List Sp) (H:Hp),S.length≤10000000→(∀ s,s ∈ S→s.k≤2)→dA (Bs S)≤a.kids.length→dB (Bs S)≤b.kids.length→H [0]=⟨1,.cells (tL a)⟩→H [1]=⟨1,.cells (tL b)⟩→H [2]=⟨1,.cells Gb⟩ →
   WPC (cx Tryz.prog w0 I0 47) ML (QU Tryz.prog [ResultVar.cell 6 33] (eX (.mk 3 T0 T0 [] [] a.kind (CP (GU one) S a.kids b.kids [])))) ⟨lk [(2,iv most),(3,.pob [0] 1 0),(4,.pob [1] 1 0),(6,.pob [2] 1 0),(9,fQ S)],H⟩:=by
  intro w0 I0 S H s1 s2 s3 s4 h0 h1 h2;have O:=jD hka hkb (by omega) (by omega) hone s1 s2 s3 s4;rw[ML.eq_1];simp[h0,h1];refine Ae O (by simp) ?_;simp[h0,h2,Aa,Gb];exact BT ⟨Ab rfl,Ab rfl,Au,Au,Ab rfl,Au,Au,Au,Au,Ab rfl,Au,trivial⟩
 have wd:=nG (Wa a) (VY a b);have wi:=We (Wa a) (VY a b);have wn:=bM _ wi;refine Ah jF (by simp) fun w0 I0=>?_;unfold Vj;simp;refine Ef (B9 (d:=[3]) (u:=1) (cs:=[.sl true []]) 0 [3,0] 3 (by simp[Aa]) rfl (by simp)) (Di ?_);simp;refine AA 3 C1 (fun p=>?_) (by simp) (by simp) ?_
 ·by_cases h1:p=[]
  ·subst h1;simp[Aa]
  ·by_cases h2:p=[0]
   ·subst h2;simp[Aa]
   ·simp[h1,h2,Ne.symm h1,Ne.symm h2,Aa]
 ·simp;refine AA 3 C2 (fun p=>by simp) (by simp) (by simp) ?_;simp;refine Ae hD (by simp) ?_;by_cases hd:(C5 (Wa a) (VY a b):Int)≤most
  ·have hL:Sf one most a b = .mk 3 T0 T0 [] [] a.kind (CP (GU one) (Lu (Gj (Wa a) (VY a b))) a.kids b.kids []):=by unfold Sf;rw[if_pos hd]
   rw[hL];simp[hd];refine key _ _ _ _ ?_ (fun s hs=>(aZ wi s hs).1) (by omega) (by omega) (by simp) (by simp) (by simp[Gb]);have:=Ps _ (aZ wi);omega
  ·have hL:Sf one most a b = .mk 3 T0 T0 [] [] a.kind (CP (GU one) (Lu (Bs [⟨1,a.kids.length⟩,⟨2,b.kids.length⟩])) a.kids b.kids []):=by unfold Sf;rw[if_neg hd,xG]
   have N:=rG (all:=[⟨1,a.kids.length⟩,⟨2,b.kids.length⟩]) (fun s hs=>by
    simp at hs;rcases hs with rfl | rfl
    ·exact⟨by simp,by simp;omega⟩
    ·exact⟨by simp,by simp;omega⟩) (by simp)
   have ui:∀ x,x ∈ Bs [⟨1,a.kids.length⟩,⟨2,b.kids.length⟩]→x≤2:=fun x hx=>by
    rw[BE,BE,JZ,List.append_nil] at hx;rcases List.mem_append.1 hx with h | h<;>(have h':=List.eq_of_mem_replicate h;simp at h';omega)
   have ud:=bM _ ui;have ua:dA (Bs [⟨1,a.kids.length⟩,⟨2,b.kids.length⟩])=a.kids.length:=by
    rw[BE,BE,JZ,Hn,Hn,Ih,Ih];simp[dA]
   have ub:dB (Bs [⟨1,a.kids.length⟩,⟨2,b.kids.length⟩])=b.kids.length:=by
    rw[BE,BE,JZ,HD,HD,H9,H9];simp[dB]
   have ul:=Ps _ (aZ ui);have N2:G.Spec Tryz.prog 120 [.sl true [.agg [iv 1,iv a.kids.length],.agg [iv 2,iv b.kids.length]]] (fQ (Lu (Bs [⟨1,a.kids.length⟩,⟨2,b.kids.length⟩]))):=N.soft (by simp[A.softL,A.soft,Pe,Zr]);clear N;rw[hL];clear hL;generalize Bs [⟨1,a.kids.length⟩,⟨2,b.kids.length⟩]=us at *;simp[hd];refine Ae N2 (by simp) ?_;simp;refine key _ _ _ _ (by omega) (fun s hs=>(aZ ui s hs).1) (by omega) (by omega) (by simp) (by simp) (by simp[Gb])
theorem iw (ks:List T) (n:T):ks <+: GY ks n:=by
 unfold GY;split
 ·exact List.prefix_rfl
 ·exact List.prefix_append _ _
theorem IZ:∀ (l ks:List T),ks <+: (CI ks l).1
 |[],ks=>List.prefix_rfl
 |t::l,ks=>(iw ks (Af t)).trans (IZ l _)
theorem Qv:∀ {l ks:List T},ks.Nodup→(CI ks l).1.Nodup
 |[],ks,h=>h
 |t::l,ks,h=>Qv (l:=l) (nq h)
theorem V9 (ks:List T) (n:T):(GY ks n)[Fy ks n]? = some n:=by
 unfold GY;have hle:=oQ ks n;split
 ·rename_i h;rw[List.getElem?_eq_getElem h];congr 1;exact sameB_iff.1 (List.findIdx_getElem (p:=fun k=>Np k n) (w:=h))
 ·rename_i h;have:Fy ks n=ks.length:=by omega
  rw[this];simp
theorem XO {ks ks':List T} {n:T} (h:GY ks n <+: ks') (hd:ks'.Nodup):Fy ks' n=Fy ks n:=by
 have h1:=V9 ks n;obtain⟨hl,e⟩:=List.getElem?_eq_some_iff.1 h1;have hl2:Fy ks n<ks'.length:=Nat.lt_of_lt_of_le hl h.length_le;refine AaO hl2 ?_ hd;obtain⟨m,rfl⟩:=h;rw[List.getElem_append_left hl];exact e
theorem m7 {ks ks':List T} {n:T} (h:GY ks n <+: ks') (hd:ks'.Nodup):GY ks' n=ks':=by
 have h1:=XO h hd;have h2:=V9 ks n;obtain⟨hl,e⟩:=List.getElem?_eq_some_iff.1 h2;have hl2:Fy ks n<ks'.length:=Nat.lt_of_lt_of_le hl h.length_le;unfold GY;rw[if_pos (by omega)]
theorem QJ:∀ {l ks ks':List T},(CI ks l).1 <+: ks'→ks'.Nodup→CI ks' l=(ks',(CI ks l).2)
 |[],ks,ks',_,_=>rfl
 |t::l,ks,ks',h,hd=>by
  have h1:GY ks (Af t) <+: ks':=(IZ l _).trans h;simp only[CI];rw[XO h1 hd,m7 h1 hd,QJ (l:=l) (ks:=GY ks (Af t)) h hd]
section
variable {n0:Nat} {w0:World} {I0:Nat→Prop}
end
theorem br (a b:T) (i:Nat):MQ a b (i+1)=MQ a b i++(if EC (a.words.getD i 0) (b.words.getD i 0)=0 then [] else [zx i (a.words.getD i 0) (b.words.getD i 0)]):=by
 unfold MQ;rw[List.range_succ,List.filterMap_append];congr 1;by_cases h:EC (a.words.getD i 0) (b.words.getD i 0)=0
 ·simp only[List.filterMap_cons,List.filterMap_nil,h,if_true]
 ·simp only[List.filterMap_cons,List.filterMap_nil,h,if_false]
theorem Rq (a b:T):∀ i,(MQ a b i).length≤i
 |0=>by simp[MQ]
 |i+1=>by
  have:=Rq a b i;rw[br];split<;>simp<;>omega
theorem U0 (one:T→T→E) (a b:T) (i:Nat):FM one a b (i+1)=FM one a b i++(if (one (a.kids.getD i T0) (b.kids.getD i T0)).kind=0 then [] else [.mk i (one (a.kids.getD i T0) (b.kids.getD i T0))]):=by
 unfold FM;rw[List.range_succ,List.filterMap_append];congr 1;by_cases h:(one (a.kids.getD i T0) (b.kids.getD i T0)).kind=0
 ·simp only[List.filterMap_cons,List.filterMap_nil,h,if_true]
 ·simp only[List.filterMap_cons,List.filterMap_nil,h,if_false]
theorem MP (one:T→T→E) (a b:T):∀ i,(FM one a b i).length≤i
 |0=>by simp[FM]
 |i+1=>by
  have:=MP one a b i;rw[U0];split<;>simp<;>omega
def sK (u n:Nat) (k:A):List A:=[iv 2,iv 0,.sl true [],.sl true [],iv 0,.sl true [],.sl true [],.osl [5] u 4 0 n,k,iv 0,.sl true []]
theorem Ahq {a b:T} (ha:Bx a) (hb:Bx b) {most:A} {N:Nat} (hN:N≤1000000)
  (hq:∀ (H':Hp) (u:Nat),H' [0]=⟨1,.cells (tL a)⟩→H' [1]=⟨1,.cells (tL b)⟩→H' [2]=⟨1,.cells Gb⟩→H' [3]=⟨1,.cells (sK u (MQ a b N).length (.sl true []))⟩→H' [5]=⟨u,.arr 4 ((MQ a b N).map wA)⟩→H' [6]=⟨0,.none⟩→H' [7]=⟨0,.none⟩ →
   Q (.exit 0) ⟨lk [(2,most),(3,.pob [0] 1 0),(4,.pob [1] 1 0),(6,.pob [2] 1 0),(7,.pob [3] 1 0),(20,iv N),(21,iv N),(22,bv false)],H'⟩) :
  ∀ (m i:Nat) (u:Nat) (H:Hp),i+m=N→H [0]=⟨1,.cells (tL a)⟩→H [1]=⟨1,.cells (tL b)⟩→H [2]=⟨1,.cells Gb⟩→H [3]=⟨1,.cells (sK u (MQ a b i).length (.sl true []))⟩→H [5]=⟨u,.arr 4 ((MQ a b i).map wA)⟩→H [6]=⟨0,.none⟩→H [7]=⟨0,.none⟩ →
  LoopC (cx Tryz.prog w0 I0 n0) Fc Q ⟨lk [(2,most),(3,.pob [0] 1 0),(4,.pob [1] 1 0),(6,.pob [2] 1 0),(7,.pob [3] 1 0),(20,iv N),(21,iv i)],H⟩:=by
 intro m;induction m with
 |zero=>
  intro i u H hm h0 h1 h2 h3 h5 h6 h7;have:i=N:=by omega
  subst this;refine Ad Ai Fc.eq_1 ?_;simp;exact hq H u h0 h1 h2 h3 h5 h6 h7
 |succ m ih=>
  intro i u H hm h0 h1 h2 h3 h5 h6 h7;have hlt:i<N:=by omega
  have ew:=AM i;have hwa:BI (a.words.getD i 0):=Mx ha i;have hwb:BI (b.words.getD i 0):=Mx hb i;have hW:=nA (i:=i) hwa hwb;have hwl:=Rq a b i;have next:=ih (i+1)
  rw[br] at next
  refine Ad Ai Fc.eq_1 ?_;simp[hlt,h0,h1];refine Ae (Gz a i) (by simp) ?_;simp[h0,h1];refine Ae (Gz b i) (by simp) ?_;simp;refine Ae hW (by simp) ?_;generalize a.words.getD i 0=x at *;generalize b.words.getD i 0=y at *;by_cases hz:EC x y=0
  ·rw[if_pos hz] at next
   simp[hz,Aa];rw[ew];refine next u _ (by omega) (by simp[Aa,h0]) (by simp[Aa,h1]) (by simp[Aa,h2]) (by simp[Aa,h3]) (by simp[Aa,h5]) (by simp[Aa,h6]) (by simp[Aa,h7])
  ·rw[if_neg hz] at next
   simp[hz,Aa,h3,h5,sK];refine⟨by omega,?_⟩;rw[ew];refine next (u+1) _ (by omega) (by simp[Aa,h0]) (by simp[Aa,h1]) (by simp[Aa,h2]) (by simp[Aa,sK]) (by simp[Aa,BO]) (by simp[Aa,h6]) (by simp[Aa,h7])
theorem AhY {one:T→T→E} {a b:T} {most:Int} {N:Nat} (hN:N≤1000000) (hone:∀ i:Nat,G.Spec Tryz.prog 30 [tX (a.kids.getD i T0),tX (b.kids.getD i T0),iv most] (eX (one (a.kids.getD i T0) (b.kids.getD i T0)))) {u n:Nat} {ws:List WE}
  (hq:∀ (H':Hp) (v:Nat),H' [3]=⟨1,.cells (sK u n (.osl [7] v 12 0 (FM one a b N).length))⟩→H' [5]=⟨u,.arr 4 (ws.map wA)⟩→H' [7]=⟨v,.arr 12 ((FM one a b N).map kA)⟩→H' [2]=⟨1,.cells Gb⟩ →
   Q (.exit 2) ⟨lk [(2,iv most),(3,.pob [0] 1 0),(4,.pob [1] 1 0),(6,.pob [2] 1 0),(7,.pob [3] 1 0),(49,iv N),(50,iv N),(51,bv false)],H'⟩) :
  ∀ (m i:Nat) (v:Nat) (H:Hp),i+m=N→H [0]=⟨1,.cells (tL a)⟩→H [1]=⟨1,.cells (tL b)⟩→H [2]=⟨1,.cells Gb⟩→H [3]=⟨1,.cells (sK u n (.osl [7] v 12 0 (FM one a b i).length))⟩→H [5]=⟨u,.arr 4 (ws.map wA)⟩→H [7]=⟨v,.arr 12 ((FM one a b i).map kA)⟩ →
  LoopC (cx Tryz.prog w0 I0 n0) Fj Q ⟨lk [(2,iv most),(3,.pob [0] 1 0),(4,.pob [1] 1 0),(6,.pob [2] 1 0),(7,.pob [3] 1 0),(49,iv N),(50,iv i)],H⟩:=by
 intro m;induction m with
 |zero=>
  intro i v H hm h0 h1 h2 h3 h5 h7;have:i=N:=by omega
  subst this;refine Ad Ai Fj.eq_1 ?_;simp;exact hq H v h3 h5 h7 h2
 |succ m ih=>
  intro i v H hm h0 h1 h2 h3 h5 h7;have hlt:i<N:=by omega
  have ew:=AM i;have hO:=hone i;have hkl:=MP one a b i;have next:=ih (i+1)
  rw[U0] at next
  have K1:=Eu a i;have K2:=Eu b i;generalize a.kids.getD i T0=x at *;generalize b.kids.getD i T0=y at *;generalize one x y=e at *;refine Ad Ai Fj.eq_1 ?_;simp[hlt,h0,h1];refine Ae K1 (by simp) ?_;simp[h0,h1];refine Ae K2 (by simp) ?_;simp;refine Ae hO (by simp) ?_;by_cases hz:e.kind=0
  ·rw[if_pos hz] at next
   simp[hz,Aa];rw[ew];refine next v _ (by omega) (by simp[Aa,h0]) (by simp[Aa,h1]) (by simp[Aa,h2]) (by simp[Aa,h3]) (by simp[Aa,h5]) (by simp[Aa,h7])
  ·rw[if_neg hz] at next
   simp[hz,Aa,h3,h7,sK];refine⟨by omega,?_⟩;rw[ew];refine next (v+1) _ (by omega) (by simp[Aa,h0]) (by simp[Aa,h1]) (by simp[Aa,h2]) (by simp[Aa,sK]) (by simp[Aa,h5]) (by simp[Aa,BO])
theorem YU {one:T→T→E} {a b:T} (ha:Bx a) (hb:Bx b) (h1:a.words.length≤1000000) (h2:b.words.length≤1000000) (h3:a.kids.length≤1000000) (h4:b.kids.length≤1000000) {most:Int} (hone:∀ i:Nat,G.Spec Tryz.prog 30 [tX (a.kids.getD i T0),tX (b.kids.getD i T0),iv most] (eX (one (a.kids.getD i T0) (b.kids.getD i T0)))) :
  G.Spec Tryz.prog 60 [tX a,tX b,iv most] (eX (kV one a b)):=by
 refine Ah Ub (by simp) fun w0 I0=>?_;unfold Mg;simp;refine LoopC.le (B9 (d:=[3]) (u:=1) (cs:=[iv 2,iv 0,.sl true [],.sl true [],iv 0,.sl true [],.sl true [],.sl true [],.sl true [],iv 0,.sl true []]) 7 [5] 4 (by simp[Aa]) rfl (by simp)) ?_;refine LoopC.le (AE [(2,iv most),(3,.pob [0] 1 0),(4,.pob [1] 1 0),(6,.pob [2] 1 0),(7,.pob [3] 1 0),(20,iv (max a.words.length b.words.length:Nat)),(21,iv (0:Nat))] (by simp;omega)) ?_;refine Ahq ha hb (N:=max a.words.length b.words.length) (by omega) (fun H' u g0 g1 g2 g3 g5 g6 g7=>?_) (max a.words.length b.words.length) 0 1 _ (by omega) (by simp[Aa]) (by simp[Aa]) (by simp[Aa,Gb]) (by simp[Aa,sK,MQ]) (by simp[Aa,MQ]) (by simp[Aa]) (by simp[Aa]);simp[g0,g1];refine LoopC.le (B9 (d:=[3]) (u:=1) (cs:=sK u (MQ a b (max a.words.length b.words.length)).length (.sl true [])) 8 [7] 12 g3 rfl (by simp)) ?_;refine LoopC.le (AE [(2,iv most),(3,.pob [0] 1 0),(4,.pob [1] 1 0),(6,.pob [2] 1 0),(7,.pob [3] 1 0),(49,iv (max a.kids.length b.kids.length:Nat)),(50,iv (0:Nat))] (by simp;omega)) ?_;refine AhY (one:=one) (a:=a) (b:=b) (N:=max a.kids.length b.kids.length) (by omega) hone (ws:=MQ a b (max a.words.length b.words.length)) (u:=u) (n:=(MQ a b (max a.words.length b.words.length)).length) (fun H2 v k3 k5 k7 k2=>?_) (max a.kids.length b.kids.length) 0 1 _ (by omega) (by simp[Aa,g0]) (by simp[Aa,g1]) (by simp[Aa,g2]) (by simp[Aa,sK,FM,g7]) (by simp[Aa,g5]) (by simp[Aa,FM,g7]);simp[k3,k2,Aa,sK];refine⟨by simp[Gb],?_⟩;refine BT ⟨Ab rfl,Ab rfl,Au,Au,Ab rfl,Au,Au,?_,?_,Ab rfl,Au,trivial⟩
 ·exact Cu (f:=wA) (l:=MQ a b (max a.words.length b.words.length)) (by rw[Bq (by simp),k5];simp) rfl (fun x=>by simp)
 ·exact Cu (f:=kA) (l:=FM one a b (max a.kids.length b.kids.length)) (by rw[Bq (by simp),k7];simp) rfl (fun x=>by simp)
theorem jn {a b:T} (ha:Bx a) (hb:Bx b) {X Y:E} {most:Int} (hs:a.kind=1→b.kind=1→G.Spec Tryz.prog 60 [tX a,tX b,iv most] (eX X)) (hl:a.kind=b.kind→2≤a.kind→a.kind≤9→G.Spec Tryz.prog 62 [tX a,tX b,iv most] (eX Y)) :
  G.Spec Tryz.prog 30 [tX a,tX b,iv most] (eX (if QL a b=true then E0 else if a.kind=1∧b.kind=1 then X else if a.kind=b.kind∧2≤a.kind∧a.kind≤9 then Y else .mk 1 a b [] [] 0 [])):=by
 have hE:=YZ ha hb;have hraw:∀ H:Hp,K6 H (.agg Gb) (eX E0):=fun H=>BT ⟨Ab rfl,Ab rfl,Au,Au,Ab rfl,Au,Au,Au,Au,Ab rfl,Au,trivial⟩;have hfr:∀ (H:Hp) (k:Int),k=a.kind→K6 H (.agg [iv 1,iv k,Ff a.words,BV a.kids,iv b.kind,Ff b.words,BV b.kids,.sl true [],.sl true [],iv 0,.sl true []]) (eX (.mk 1 a b [] [] 0 [])):=fun H k hk=>by
  subst hk;exact BT ⟨Ab rfl,Ab rfl,Ab rfl,Ab rfl,Ab rfl,Ab rfl,Ab rfl,Au,Au,Ab rfl,Au,trivial⟩
 refine Ah n7 (by simp) fun w0 I0=>?_;unfold Xb;simp;refine Ae hE (by simp) ?_;cases he:QL a b with
 |true=>
  simp;exact hraw _
 |false=>
  by_cases h1:a.kind=1
  ·by_cases h2:b.kind=1
   ·have S:=hs h1 h2;have S':G.Spec Tryz.prog 60 [.agg [iv 1,Ff a.words,BV a.kids],.agg [iv 1,Ff b.words,BV b.kids],iv most] (eX X):=by
     rw[← h1];have e:([A.agg [iv a.kind,Ff a.words,BV a.kids],.agg [iv a.kind,Ff b.words,BV b.kids],iv most]:List A)=[tX a,tX b,iv most]:=by
      show [A.agg [iv a.kind,Ff a.words,BV a.kids],.agg [iv a.kind,Ff b.words,BV b.kids],iv most]=[A.agg [iv a.kind,Ff a.words,BV a.kids],.agg [iv b.kind,Ff b.words,BV b.kids],iv most];rw[h1,h2]
     rw[e];exact S
    simp[h1,h2];refine Ae S' (by simp) ?_;simp;exact Ab (by simp)
   ·have hne:¬ (1:Int)=b.kind:=fun e=>h2 e.symm;simp[h1,h2,hne];refine Ao rfl ?_;simp;exact hfr _ 1 h1.symm
  ·by_cases h3:a.kind=b.kind
   ·have h2:¬ b.kind=1:=fun e=>h1 (h3.trans e);simp[h1,h3,h2];rw[AB];simp;refine Ae (Qo b.kind) (by simp) ?_;by_cases h5:2≤b.kind∧b.kind≤9
    ·have S:=hl h3 (by omega) (by omega);have S':G.Spec Tryz.prog 62 [.agg [iv b.kind,Ff a.words,BV a.kids],.agg [iv b.kind,Ff b.words,BV b.kids],iv most] (eX Y):=by
      rw[← h3];have e:([A.agg [iv a.kind,Ff a.words,BV a.kids],.agg [iv a.kind,Ff b.words,BV b.kids],iv most]:List A)=[tX a,tX b,iv most]:=by
       show [A.agg [iv a.kind,Ff a.words,BV a.kids],.agg [iv a.kind,Ff b.words,BV b.kids],iv most]=[A.agg [iv a.kind,Ff a.words,BV a.kids],.agg [iv b.kind,Ff b.words,BV b.kids],iv most];rw[h3]
      rw[e];exact S
     simp[h5.1,h5.2];refine Ae S' (by simp) ?_;simp;exact Ab (by simp)
    ·have h6:(decide (2≤b.kind)&&decide (b.kind≤9))=false:=by
      rw[Bool.eq_false_iff];simpa using h5
     rw[h6];simp[h5];exact hfr _ _ h3.symm
   ·simp[h1,h3];refine Ao rfl ?_;simp;exact hfr _ _ rfl
def Tj:Nat→T→Prop
 |0,t=>t=T0
 |f+1,t=>t=T0∨(Bx t∧Af t=t∧t.words.length≤1000∧t.kids.length≤1000∧∀ k,k ∈ t.kids→Tj f k)
theorem AcL (f:Nat):Tj f T0:=by cases f with
 |zero=>rfl
 |succ f=>exact .inl rfl
theorem Hw:Bx T0:=wfT_iff.2 ⟨by simp[Bn],by simp,by simp,by simp,by simp⟩
theorem qy:Af T0=T0:=by simp[Af,T0,CM,BZ]
theorem AF {f:Nat} {t:T} (h:Tj f t):Bx t∧Af t=t∧t.words.length≤1000∧t.kids.length≤1000:=by
 have z:Bx T0∧Af T0=T0∧T0.words.length≤1000∧T0.kids.length≤1000:=⟨Hw,qy,by decide,by decide⟩;cases f with
 |zero=>cases h;exact z
 |succ f=>
  rcases h with rfl | h
  ·exact z
  ·exact⟨h.1,h.2.1,h.2.2.1,h.2.2.2.1⟩
theorem AX {f:Nat} {t:T} (h:Tj f t):∀ k,k ∈ t.kids→Tj (f-1) k:=by
 cases f with
 |zero=>cases h;intro k hk;simp[T0] at hk
 |succ f=>
  rcases h with rfl | h
  ·intro k hk;simp[T0] at hk
  ·exact h.2.2.2.2
theorem Gi {f:Nat} {t:T} (h:Tj f t) (i:Nat):Tj (f-1) (t.kids.getD i T0):=by
 by_cases hi:i<t.kids.length
 ·have e:t.kids.getD i T0=t.kids[i]:=by simp[hi]
  rw[e];exact AX h _ (A5 hi)
 ·have e:t.kids.getD i T0=T0:=by simp[List.getElem?_eq_none (Nat.le_of_not_lt hi)]
  rw[e];exact AcL _
theorem TM {most:Int} (hm:Bn most):∀ (f g:Nat) (a b:T),Tj f a→Tj g b→G.Spec Tryz.prog 30 [tX a,tX b,iv most] (eX (Gp most f a b))
 |0,g,a,b,ha,hb=>by
  obtain⟨a1,a2,a3,a4⟩:=AF ha;obtain⟨b1,b2,b3,b4⟩:=AF hb;have hk:a.kind=0:=by cases ha;rfl
  have:=jn a1 b1 (X:=E0) (Y:=E0) (most:=most) (fun h=>by omega) (fun _ h=>by omega);rw[if_neg (show ¬ (a.kind=1∧b.kind=1) by omega),if_neg (show ¬ (a.kind=b.kind∧2≤a.kind∧a.kind≤9) by omega)] at this;exact this
 |f+1,g,a,b,ha,hb=>by
  obtain⟨a1,a2,a3,a4⟩:=AF ha;obtain⟨b1,b2,b3,b4⟩:=AF hb;refine jn a1 b1 (fun h1 h2=>?_) (fun h1 h2 h3=>?_)
  ·exact YU a1 b1 (by omega) (by omega) (by omega) (by omega) fun i=>TM hm f (g-1) _ _ (Gi ha i) (Gi hb i)
  ·exact dH a1 b1 (fun t ht=>(AF (AX ha t ht)).2.1) (fun t ht=>(AF (AX hb t ht)).2.1) (by omega) (by omega) hm fun x hx y hy=>TM hm f (g-1) _ _ (AX ha x hx) (AX hb y hy)
end Go.Proofs.YtbjmaoedheiigaaGreat
namespace Go.PL
theorem HZ (d:Nat):Aj d T0=true:=by rw[AI];simp
theorem Ou {d:Nat} {k:Int} {w:List Int} {l:List T} (h0:k ≠ 0) (h10:k ≠ 10) (hb:A4 k d w.length l.length=false) (h:∀ t,t ∈ l→Aj (d-1) t=true∧B6 k t=true):Aj d (.mk k w l)=true:=by
 rw[AI,if_neg h0,if_neg h10,if_neg (by rw[hb];simp)];exact rightL_all.2 h
theorem Yv {l:List T} (h:∀ t,t ∈ l→∃ D,Aj D t=true):∃ D,∀ t,t ∈ l→Aj D t=true:=by
 induction l with
 |nil=>exact⟨0,fun t ht=>by cases ht⟩
 |cons u l ih=>
  obtain⟨D,hD⟩:=h u (by simp);obtain⟨D',hD'⟩:=ih fun t ht=>h t (by simp[ht]);refine⟨D+D',fun t ht=>?_⟩;rcases List.mem_cons.1 ht with rfl | ht
  ·exact IV _ _ _ (by omega) hD
  ·exact IV _ _ _ (by omega) (hD' t ht)
theorem JY {w:List Int} {l:List T} (hw:w.length<65536) (hl:l.length<65536) (h:∀ t,t ∈ l→(∃ D,Aj D t=true)∧t.kind ≠ 10):∃ D,Aj D (.mk 1 w l)=true:=by
 obtain⟨D,hD⟩:=Yv fun t ht=>(h t ht).1;refine⟨D+1,Ou (by decide) (by decide) ?_ fun t ht=>⟨by simpa using hD t ht,?_⟩⟩
 ·simp[A4];omega
 ·have:=(h t ht).2;simp[B6,Bb,this]
theorem TA {l:List T} (hl:l.length<1048576) (h:∀ t,t ∈ l→(∃ D,Aj D t=true)∧t.kind=1):(∃ D,Aj D (Es l)=true)∧(Es l).kind ≠ 10:=by
 cases l with
 |nil=>exact⟨⟨0,HZ 0⟩,by decide⟩
 |cons u l=>
  refine⟨?_,by show(9:Int) ≠ 10;decide⟩;obtain⟨D,hD⟩:=Yv fun t ht=>(h t ht).1;refine⟨D+1,?_⟩;show Aj (D+1) (.mk 9 [] (u::l))=true;refine Ou (by decide) (by decide) ?_ fun t ht=>⟨by simpa using hD t ht,?_⟩
  ·simp[A4] at hl ⊢; omega
  ·have:=(h t ht).2;simp[B6,Bb,this]
mutual
def BH:T→Int
 |.mk _ w l=>1+w.length+C7 l
def C7:List T→Int
 |[]=>0
 |t::l=>BH t+C7 l
end
@[simp] theorem EZ (k:Int) (w:List Int) (l:List T):BH (.mk k w l)=1+w.length+C7 l:=by rw[BH]
@[simp] theorem AcA:C7 []=0:=by rw[C7]
@[simp] theorem Dm (t:T) (l:List T):C7 (t::l)=BH t+C7 l:=by rw[C7]
theorem Xe {l:List T} (h:∀ t,t ∈ l→1≤BH t):(l.length:Int)≤C7 l:=by
 induction l with
 |nil=>simp
 |cons t l ih=>
  have:=h t (by simp);have:=ih fun u hu=>h u (by simp[hu]);simp;omega
theorem Kw:∀ t:T,1≤BH t:=by
 refine T.ind fun k w l ih=>?_;have:=Xe ih;simp;omega
theorem D7 (l:List T):(l.length:Int)≤C7 l:=Xe fun t _=>Kw t
theorem al {l:List T} {B:Nat} (h:∀ t,t ∈ l→t.words.length≤B∧t.kids.length≤B):An l≤B∧Aq l≤B:=by
 induction l with
 |nil=>simp[An,Aq]
 |cons t l ih=>
  have:=h t (by simp);have:=ih fun u hu=>h u (by simp[hu]);simp only[An,Aq];omega
theorem Zq:∀ (t:T) (d:Nat) (n:Int),0≤Eh d n t→BH t≤n-Eh d n t:=by
 refine T.ind fun k w l ih d n h=>?_;have hl:∀ (m:List T) (d:Nat) (n:Int),(∀ t,t ∈ m→t ∈ l)→0≤DP d n m→C7 m≤n-DP d n m:=by
  intro m;induction m with
  |nil=>intro d n _ _;simp
  |cons t m ihm=>
   intro d n hin h;rw[Iz] at h ⊢;split at h
   ·omega
   ·rename_i hc;rw[if_neg hc];have h1:=ihm d (Eh d n t) (fun u hu=>hin u (by simp[hu])) h;have h3:0≤Eh d n t:=by
     cases m with
     |nil=>simpa using h
     |cons u m=>
      rw[Iz] at h;split at h<;>omega
    have:=ih t (hin t (by simp)) d n h3;simp;omega
 rw[QS] at h ⊢;split at h
 ·omega
 rename_i hc;rw[if_neg hc];have:=hl l (d-1) _ (fun t ht=>ht) h;simp;omega
end Go.PL
namespace Go.Proofs.YtbjmaoedheiigaaGreat
open Go Go.G Go.Proofs Go.PL
theorem Ho (a b:List OP):Gy (a++b)=Gy a+Gy b:=by simp[Gy]
theorem T9 (l:List T):Gy (DE l)=l.length:=by
 unfold DE;split
 ·rename_i h;subst h;rfl
 ·simp[Gy]
theorem Ue (l:List T):Gy (Dx l)=l.length:=by
 unfold Dx;split
 ·rename_i h;subst h;rfl
 ·simp[Gy]
theorem jq (one:T→T→E) (a b:List T):∀ (P:List Sc) (i j:Nat) (out:List OP),ir a.length b.length i j P→Gy (HO one a b P i j out)≤Gy out+(a.length-i)+(b.length-j)
 |[],i,j,out,h=>by
  rw[HO,Ho,Ho,T9,Ue];simp
 |x::P,i,j,out,h=>by
  obtain⟨k1,k2,k3,k4,k5⟩:=h;have:=jq one a b P _ _ (out++DE ((a.take x.i).drop i)++Dx ((b.take x.j).drop j)++[.mk 3 0 [] (one (a.getD x.i T0) (b.getD x.j T0))]) k5;rw[HO];rw[Ho,Ho,Ho,T9,Ue,show Gy [OP.mk 3 0 [] (one (a.getD x.i T0) (b.getD x.j T0))]=0 from rfl,List.length_drop,List.length_take,List.length_drop,List.length_take] at this;omega
theorem jY (one:T→T→E) (a b:List T):Gy (GU one a b)≤a.length+b.length:=by
 have:=jq one a b (fN (Oh a b)) 0 0 [] (TI a b);rw[show Gy []=0 from rfl] at this;unfold GU;omega
inductive cg (one:T→T→E) (A B:List T) (N:Nat):OP→Prop
 |keep (n:Nat) (h:n≤N):cg one A B N (.mk 0 n [] E0)
 |del (l:List T) (h:l ≠ []) (g:∀ t,t ∈ l→t ∈ A) (k:l.length≤A.length):cg one A B N (.mk 1 0 l E0)
 |ins (l:List T) (h:l ≠ []) (g:∀ t,t ∈ l→t ∈ B) (k:l.length≤B.length):cg one A B N (.mk 2 0 l E0)
 |desc (x y:T) (hx:x ∈ A) (hy:y ∈ B):cg one A B N (.mk 3 0 [] (one x y))
theorem wD {one:T→T→E} {A B A' B':List T} {N:Nat} (hA:∀ t,t ∈ A→t ∈ A') (hB:∀ t,t ∈ B→t ∈ B') (lA:A.length≤A'.length) (lB:B.length≤B'.length) {o:OP} (h:cg one A B N o):cg one A' B' N o:=by
 cases h with
 |keep n h=>exact .keep n h
 |del l h g k=>exact .del l h (fun t ht=>hA t (g t ht)) (by omega)
 |ins l h g k=>exact .ins l h (fun t ht=>hB t (g t ht)) (by omega)
 |desc x y hx hy=>exact .desc x y (hA x hx) (hB y hy)
theorem cG {one:T→T→E} {A B l:List T} {N:Nat} (h:∀ t,t ∈ l→t ∈ A) (hl:l.length≤A.length):∀ o,o ∈ DE l→cg one A B N o:=by
 intro o ho;unfold DE at ho;split at ho
 ·simp at ho
 ·rename_i hne;simp at ho;subst ho;exact .del l hne h hl
theorem eR {one:T→T→E} {A B l:List T} {N:Nat} (h:∀ t,t ∈ l→t ∈ B) (hl:l.length≤B.length):∀ o,o ∈ Dx l→cg one A B N o:=by
 intro o ho;unfold Dx at ho;split at ho
 ·simp at ho
 ·rename_i hne;simp at ho;subst ho;exact .ins l hne h hl
theorem i6 (one:T→T→E) (a b:List T) (N:Nat):∀ (P:List Sc) (i j:Nat) (out:List OP),ir a.length b.length i j P→(∀ o,o ∈ out→cg one a b N o)→∀ o,o ∈ HO one a b P i j out→cg one a b N o
 |[],i,j,out,h,g=>by
  intro o ho;rw[HO] at ho;rcases List.mem_append.1 ho with ho | ho
  ·rcases List.mem_append.1 ho with ho | ho
   ·exact g o ho
   ·exact cG (fun t ht=>QB ht) (by simp) o ho
  ·exact eR (fun t ht=>QB ht) (by simp) o ho
 |x::P,i,j,out,h,g=>by
  obtain⟨k1,k2,k3,k4,k5⟩:=h;rw[HO];refine i6 one a b N P _ _ _ k5 fun o ho=>?_;rcases List.mem_append.1 ho with ho | ho
  ·rcases List.mem_append.1 ho with ho | ho
   ·rcases List.mem_append.1 ho with ho | ho
    ·exact g o ho
    ·exact cG (fun t ht=>PD (QB ht)) (by simp;omega) o ho
   ·exact eR (fun t ht=>PD (QB ht)) (by simp;omega) o ho
  ·rw[List.mem_singleton] at ho;subst ho;have e1:a.getD x.i T0=a[x.i]:=by simp[k3]
   have e2:b.getD x.j T0=b[x.j]:=by simp[k4]
   rw[e1,e2];exact .desc _ _ (A5 k3) (A5 k4)
theorem je (one:T→T→E) (a b:List T) (N:Nat):∀ o,o ∈ GU one a b→cg one a b N o:=i6 one a b N _ 0 0 [] (TI a b) (by simp)
theorem Ka {gap:List T→List T→List OP} {I:List T→List T→List OP→Prop} {S0:List Sp} (h0:∀ s,s ∈ S0→∀ a b out,I a b out→I (a.drop s.n) (b.drop s.n) (out++[.mk 0 s.n [] E0])) (h1:∀ n a b out,I a b out→I (a.drop n) b (out++DE (a.take n))) (h2:∀ n a b out,I a b out→I a (b.drop n) (out++Dx (b.take n))) (h3:∀ n m a b out,I a b out→I (a.drop n) (b.drop m) (out++gap (a.take n) (b.take m))):∀ (S:List Sp) (a b:List T) (out:List OP),(∀ s,s ∈ S→s ∈ S0)→I a b out→∃ a' b',I a' b' (CP gap S a b out)
 |[],a,b,out,hS,h=>⟨a,b,by rw[CP];exact h⟩
 |[s],a,b,out,hS,h=>by
  have hs:=hS s (by simp);rw[CP];split
  ·exact⟨_,_,h0 s hs a b out h⟩
  ·split
   ·exact⟨_,_,h2 s.n a b out h⟩
   ·exact⟨_,_,h1 s.n a b out h⟩
 |s::s2::ss,a,b,out,hS,h=>by
  have hs:=hS s (by simp);have hS1:∀ x,x ∈ s2::ss→x ∈ S0:=fun x hx=>hS x (List.mem_cons_of_mem _ hx);have hS2:∀ x,x ∈ ss→x ∈ S0:=fun x hx=>hS1 x (List.mem_cons_of_mem _ hx);rw[CP];split
  ·exact Ka h0 h1 h2 h3 (s2::ss) _ _ _ hS1 (h0 s hs a b out h)
  ·split
   ·exact Ka h0 h1 h2 h3 (s2::ss) _ _ _ hS1 (h2 s.n a b out h)
   ·split
    ·exact Ka h0 h1 h2 h3 ss _ _ _ hS2 (h3 s.n s2.n a b out h)
    ·exact Ka h0 h1 h2 h3 (s2::ss) _ _ _ hS1 (h1 s.n a b out h)
theorem vv {gap:List T→List T→List OP} (hg:∀ x y,Gy (gap x y)≤x.length+y.length) (S:List Sp) (a b:List T):Gy (CP gap S a b [])≤a.length+b.length:=by
 obtain⟨a',b',h⟩:=Ka (gap:=gap) (S0:=S) (I:=fun a' b' out=>Gy out+a'.length+b'.length≤a.length+b.length) (fun s hs a b out h=>by
  rw[Ho,show Gy [OP.mk 0 (s.n:Nat) [] E0]=0 from rfl,List.length_drop,List.length_drop];omega) (fun n a b out h=>by
  rw[Ho,T9,List.length_drop,List.length_take];omega) (fun n a b out h=>by
  rw[Ho,Ue,List.length_drop,List.length_take];omega) (fun n m a b out h=>by
  have:=hg (a.take n) (b.take m);rw[List.length_take,List.length_take] at this;rw[Ho,List.length_drop,List.length_drop];omega) S a b [] (fun s hs=>hs) (by rw[show Gy []=0 from rfl];omega)
 omega
theorem vL {one:T→T→E} {gap:List T→List T→List OP} {N:Nat} (hg:∀ x y,∀ o,o ∈ gap x y→cg one x y N o) (S:List Sp) (hS:∀ s,s ∈ S→s.n≤N) (a b:List T):∀ o,o ∈ CP gap S a b []→cg one a b N o:=by
 have app:∀ {out l:List OP},(∀ o,o ∈ out→cg one a b N o)→(∀ o,o ∈ l→cg one a b N o)→∀ o,o ∈ out++l→cg one a b N o:=fun h1 h2 o ho=>by
  rcases List.mem_append.1 ho with ho | ho
  ·exact h1 o ho
  ·exact h2 o ho
 have dr:∀ {x y:List T} (n:Nat),((∀ t,t ∈ x→t ∈ y)∧x.length≤y.length)→(∀ t,t ∈ x.drop n→t ∈ y)∧(x.drop n).length≤y.length:=fun n h=>⟨fun t ht=>h.1 t (QB ht),by rw[List.length_drop];omega⟩;have tk:∀ {x y:List T} (n:Nat),((∀ t,t ∈ x→t ∈ y)∧x.length≤y.length)→(∀ t,t ∈ x.take n→t ∈ y)∧(x.take n).length≤y.length:=fun n h=>⟨fun t ht=>h.1 t (PD ht),by rw[List.length_take];omega⟩;obtain⟨a',b',_,_,h⟩:=Ka (gap:=gap) (S0:=S) (I:=fun a' b' out=>((∀ t,t ∈ a'→t ∈ a)∧a'.length≤a.length)∧((∀ t,t ∈ b'→t ∈ b)∧b'.length≤b.length)∧∀ o,o ∈ out→cg one a b N o) (fun s hs x y out h=>⟨dr _ h.1,dr _ h.2.1,app h.2.2 fun o ho=>by
   simp at ho;subst ho;exact .keep s.n (hS s hs)⟩) (fun n x y out h=>⟨dr _ h.1,h.2.1,app h.2.2 (cG (tk n h.1).1 (tk n h.1).2)⟩) (fun n x y out h=>⟨h.1,dr _ h.2.1,app h.2.2 (eR (tk n h.2.1).1 (tk n h.2.1).2)⟩) (fun n m x y out h=>⟨dr _ h.1,dr _ h.2.1,app h.2.2 fun o ho=>wD (tk n h.1).1 (tk m h.2.1).1 (tk n h.1).2 (tk m h.2.1).2 (hg _ _ o ho)⟩) S a b [] (fun s hs=>hs) ⟨⟨fun t ht=>ht,Cb _⟩,⟨fun t ht=>ht,Cb _⟩,by simp⟩
 exact h
theorem OC {gap:List T→List T→List OP} (hg:∀ x y,(gap x y).length≤50):∀ (S:List Sp) (a b:List T) (out:List OP),(CP gap S a b out).length≤out.length+50*S.length
 |[],a,b,out=>by rw[CP];omega
 |[s],a,b,out=>by
  have d1:(DE (a.take s.n)).length≤1:=by unfold DE;split<;>simp
  have d2:(Dx (b.take s.n)).length≤1:=by unfold Dx;split<;>simp
  rw[CP];split
  ·simp
  ·split<;>(rw[List.length_append];simp only[List.length_cons,List.length_nil];omega)
 |s::s2::ss,a,b,out=>by
  have d1:(DE (a.take s.n)).length≤1:=by unfold DE;split<;>simp
  have d2:(Dx (b.take s.n)).length≤1:=by unfold Dx;split<;>simp
  rw[CP];split
  ·have:=OC hg (s2::ss) (a.drop s.n) (b.drop s.n) (out++[.mk 0 s.n [] E0]);simp only[List.length_append,List.length_cons,List.length_nil] at this ⊢;omega
  ·split
   ·have:=OC hg (s2::ss) a (b.drop s.n) (out++Dx (b.take s.n));simp only[List.length_append,List.length_cons,List.length_nil] at this ⊢;omega
   ·split
    ·have:=OC hg ss (a.drop s.n) (b.drop s2.n) (out++gap (a.take s.n) (b.take s2.n));have:=hg (a.take s.n) (b.take s2.n);simp only[List.length_append,List.length_cons,List.length_nil] at this ⊢;simp only[List.length_append] at *;omega
    ·have:=OC hg (s2::ss) (a.drop s.n) b (out++DE (a.take s.n));simp only[List.length_append,List.length_cons,List.length_nil] at this ⊢;omega
noncomputable def Tf (one:T→T→E) (most:Int) (a b:T):List OP:=if (C5 (Wa a) (VY a b):Int)≤most then CP (GU one) (Lu (Gj (Wa a) (VY a b))) a.kids b.kids [] else GU one a.kids b.kids
theorem SN (one:T→T→E) (most:Int) (a b:T):Sf one most a b = .mk 3 T0 T0 [] [] a.kind (Tf one most a b):=rfl
theorem pB (a:T):(Wa a).length=a.kids.length:=by simp[Wa,yC,FK]
theorem pU (a b:T):(VY a b).length=b.kids.length:=by simp[VY,yC,FK]
theorem Vt:∀ {l:List Sp} {s:Sp},s ∈ l→s.k ≠ 2→s.n≤dA (Bs l)
 |x::l,s,h,hk=>by
  rw[BE,Hn,Ih];rcases List.mem_cons.1 h with rfl | h
  ·rw[if_neg hk];omega
  ·have:=Vt h hk;omega
theorem SL:∀ {l:List Sp} {s:Sp},s ∈ l→s.k ≠ 1→s.n≤dB (Bs l)
 |x::l,s,h,hk=>by
  rw[BE,HD,H9];rcases List.mem_cons.1 h with rfl | h
  ·rw[if_neg hk];omega
  ·have:=SL h hk;omega
theorem AfI (a b:T) {s:Sp} (h:s ∈ Lu (Gj (Wa a) (VY a b))):s.n≤a.kids.length+b.kids.length:=by
 have wd:=nG (Wa a) (VY a b);have wi:=We (Wa a) (VY a b);have wn:=bM _ wi;rw[pB,pU] at wd;by_cases hk:s.k=2
 ·have:=SL h (by omega);omega
 ·have:=Vt h hk;omega
theorem R6 (one:T→T→E) (most:Int) (a b:T):∀ o,o ∈ Tf one most a b→cg one a.kids b.kids (a.kids.length+b.kids.length) o:=by
 unfold Tf;split
 ·exact vL (fun x y=>je one x y _) _ (fun s hs=>AfI a b hs) _ _
 ·exact je one _ _ _
theorem uF (one:T→T→E) (most:Int) (a b:T):Gy (Tf one most a b)≤a.kids.length+b.kids.length:=by
 unfold Tf;split
 ·exact vv (fun x y=>jY one x y) _ _ _
 ·exact jY one _ _
theorem j6 (one:T→T→E) (most:Int) (a b:T):(Tf one most a b).length≤50*(a.kids.length+b.kids.length)+50:=by
 unfold Tf;split
 ·have wd:=nG (Wa a) (VY a b);have wi:=We (Wa a) (VY a b);have wn:=bM _ wi;have:=Ps _ (aZ wi);have h:=OC (Wu one) (Lu (Gj (Wa a) (VY a b))) a.kids b.kids [];rw[pB,pU] at wd;simp only[List.length_nil] at h;omega
 ·have:=Wu one a.kids b.kids;omega
theorem oI:∀ {l:List KE},(∀ x,x ∈ l→VK x.e)→lV l
 |[],_=>by rw[lV];trivial
 |.mk a e::l,h=>by
  rw[lV];exact⟨h _ (List.mem_cons_self ..),oI fun x hx=>h x (List.mem_cons_of_mem _ hx)⟩
theorem pC:∀ {l:List OP},(∀ x,x ∈ l→(x.kind=0∨x.kind=1∨x.kind=2∨x.kind=3)∧(∀ t,t ∈ x.l→Bx t)∧(x.kind=3→VK x.e))→mN l
 |[],_=>by rw[mN];trivial
 |.mk k n t e::l,h=>by
  rw[mN];exact⟨h _ (List.mem_cons_self ..),pC fun x hx=>h x (List.mem_cons_of_mem _ hx)⟩
theorem vx:VK E0:=by
 unfold E0;rw[VK];exact⟨.inl rfl,fun _=>rfl,fun h=>absurd h (by decide),by simp,by simp,by simp,by simp[Gy],fun h=>absurd h (by decide),fun h=>absurd h (by decide)⟩
theorem oY {a b:T} (ha:Bx a) (hb:Bx b):VK (.mk 1 a b [] [] 0 []):=by
 rw[VK];exact⟨.inr (.inl rfl),fun _=>rfl,fun _=>⟨ha,hb⟩,by simp,by simp,by simp,by simp[Gy],fun h=>absurd h (by decide),fun h=>absurd h (by decide)⟩
theorem XG {one:T→T→E} {a b:T} {m:Nat} {x:KE} (h:x ∈ FM one a b m):∃ i:Nat,i<m∧x = .mk i (one (a.kids.getD i T0) (b.kids.getD i T0))∧(one (a.kids.getD i T0) (b.kids.getD i T0)).kind ≠ 0:=by
 unfold FM at h;rw[List.mem_filterMap] at h;obtain⟨i,hi,e⟩:=h;split at e
 ·cases e
 ·rename_i hk;simp only[Option.some.injEq] at e;exact⟨i,by simpa using hi,e.symm,hk⟩
theorem yR {one:T→T→E} {a b:T} (ha:a.words.length≤1000) (hb:b.words.length≤1000) (ha2:a.kids.length≤1000) (hb2:b.kids.length≤1000) (h:∀ i,VK (one (a.kids.getD i T0) (b.kids.getD i T0))):VK (kV one a b):=by
 have h1:=Rq a b (max a.words.length b.words.length);have h2:=MP one a b (max a.kids.length b.kids.length);unfold kV;rw[VK];refine⟨.inr (.inr (.inl rfl)),fun _=>rfl,fun h=>absurd h (by decide),by omega,by omega,by simp,by simp[Gy],fun _=>oI fun x hx=>?_,fun h=>absurd h (by decide)⟩;obtain⟨i,_,e,_⟩:=XG hx;subst e;exact h i
theorem xo {one:T→T→E} {most:Int} {a b:T} (ha:a.kids.length≤1000) (hb:b.kids.length≤1000) (wa:∀ t,t ∈ a.kids→Bx t) (wb:∀ t,t ∈ b.kids→Bx t) (h:∀ x,x ∈ a.kids→∀ y,y ∈ b.kids→VK (one x y)):VK (Sf one most a b):=by
 have h1:=j6 one most a b;have h2:=uF one most a b;rw[SN,VK];refine⟨.inr (.inr (.inr rfl)),fun h=>absurd rfl h,fun h=>absurd h (by decide),by simp,by simp,by omega,by omega,fun h=>absurd h (by decide),fun _=>pC fun x hx=>?_⟩;cases R6 one most a b x hx with
 |keep n h=>exact⟨.inl rfl,fun t (ht:t ∈ ([]:List T))=>by simp at ht,fun h=>absurd h (by show ¬ (0:Int)=3;decide)⟩
 |del l h g k=>exact⟨.inr (.inl rfl),fun t ht=>wa t (g t ht),fun h=>absurd h (by show ¬ (1:Int)=3;decide)⟩
 |ins l h g k=>exact⟨.inr (.inr (.inl rfl)),fun t ht=>wb t (g t ht),fun h=>absurd h (by show ¬ (2:Int)=3;decide)⟩
 |desc p q hp hq=>exact⟨.inr (.inr (.inr rfl)),fun t (ht:t ∈ ([]:List T))=>by simp at ht,fun _=>h p hp q hq⟩
theorem RO (most:Int):∀ (f g:Nat) (a b:T),Tj f a→Tj g b→VK (Gp most f a b)
 |0,g,a,b,ha,hb=>by
  rw[Gp];split
  ·exact vx
  ·exact oY (AF ha).1 (AF hb).1
 |f+1,g,a,b,ha,hb=>by
  obtain⟨a1,a2,a3,a4⟩:=AF ha;obtain⟨b1,b2,b3,b4⟩:=AF hb;rw[Gp];split
  ·exact vx
  ·split
   ·exact yR a3 b3 a4 b4 fun i=>RO most f (g-1) _ _ (Gi ha i) (Gi hb i)
   ·split
    ·exact xo a4 b4 (fun t ht=>(AF (AX ha t ht)).1) (fun t ht=>(AF (AX hb t ht)).1) fun x hx y hy=>RO most f (g-1) x y (AX ha x hx) (AX hb y hy)
    ·exact oY a1 b1
theorem Qy {l:List T} {t:T} (h:t ∈ l):BH t≤C7 l:=by
 induction l with
 |nil=>simp at h
 |cons x l ih=>
  rw[Dm];have hp:=Kw x;have hl:=D7 l;rcases List.mem_cons.1 h with rfl | h
  ·omega
  ·have:=ih h;omega
theorem CH:∀ (t:T),Bx t→BH t≤1000→∀ f:Nat,BH t≤f→Tj f (Af t):=by
 refine T.ind fun k w l ih hw hp f hf=>?_;rw[EZ] at hp hf;have hl:=D7 l;have hks:=(wfT_iff.1 hw).ks;cases f with
 |zero=>omega
 |succ f=>
  have hk:∀ t,t ∈ l→Tj f (Af t):=fun t ht=>by
   have:=Qy ht;exact ih t ht (hks t ht) (by omega) f (by omega)
  rw[Tj];refine .inr ⟨IH _ hw,Cz _,?_,?_,?_⟩
  ·rw[AL];split
   ·simp
   ·split
    ·have:=ET w;show(CM w).length≤1000;omega
    ·show w.length≤1000;omega
  ·rw[AL];split
   ·simp
   ·split
    ·have:=EN (l.map Af);rw[List.length_map] at this;show(BZ (l.map Af)).length≤1000;omega
    ·show(l.map Af).length≤1000;rw[List.length_map];omega
  ·intro x hx;have hx':x ∈ l.map Af:=by
    rw[AL] at hx;split at hx
    ·simp at hx
    ·split at hx
     ·have hx2:x ∈ BZ (l.map Af):=hx;rw[EB] at hx2;exact PD hx2
     ·exact hx
   obtain⟨t,ht,rfl⟩:=List.mem_map.1 hx';exact hk t ht
noncomputable def qj (most:Int) (a b:T):E:=Jl (Gp most 1000 (Af a) (Af b))
theorem fL {a b:T} (ha:Bx a) (hb:Bx b) (pa:BH a≤1000) (pb:BH b≤1000) {most:Int} (hm:Bn most):G.Spec Tryz.prog 11 [tX a,tX b,iv most] (eX (qj most a b)):=by
 have oa:=CH a ha pa 1000 pa;have ob:=CH b hb pb 1000 pb;have h1:=TM hm 1000 1000 _ _ oa ob;have h2:=nT _ (RO most 1000 1000 _ _ oa ob);refine Ah cH (by simp) fun w0 I0=>?_;unfold St;simp;refine Ae (FI a ha) (by simp) ?_;simp;refine Ae (FI b hb) (by simp) ?_;simp;refine Ae h1 (by simp) ?_;simp;refine Ae h2 (by simp) ?_;simp;exact Ab (by simp)
def Ts (t:T):Bool:=decide (0≤Eh 70 400 t)&&Aj 64 t&&decide (t.kind ≠ 10)
theorem UC {t:T} (h:Bx t):G.Spec Tryz.prog 8 [tX t] (bv (Ts t)):=by
 refine Ah Ri (by simp) fun w0 I0=>?_;unfold KK;simp;refine Ae (bV t h 70 400 (by omega) (by omega) (by omega)) (by simp) ?_;unfold Ts;by_cases hs:0≤Eh 70 400 t
 ·simp[hs];refine Bc rfl (fun _=>iL t h 64 (by omega)) (fun _=>by simp) (by simp) ?_;cases hr:Aj 64 t with
  |true=>
   simp;exact AW rfl (by simp)
  |false=>
   simp;exact AW rfl (by simp)
 ·simp[hs];refine Ao rfl ?_;simp;exact AW rfl (by simp)
theorem Ss {t:T} (h:Ts t=true):BH t≤400∧Aj 64 t=true∧t.kind ≠ 10:=by
 unfold Ts at h;simp only[Bool.and_eq_true,decide_eq_true_eq] at h;obtain⟨⟨h1,h2⟩,h3⟩:=h;have:=Zq t 70 400 h1;exact⟨by omega,h2,h3⟩
def wds (tw:List Int):Nat→Nat→List WE→Option (List Int)
 |0,_,_=>some []
 |m+1,i,[]=>(wds tw m (i+1) []).map (tw.getD i 0 :: ·)
 |m+1,i,x::xs=>if x.at_=(i:Int) then (if HN 0 (tw.getD i 0) x.mask=x.old then (wds tw m (i+1) xs).map (HN (tw.getD i 0) x.new x.mask :: ·) else none) else (wds tw m (i+1) (x::xs)).map (tw.getD i 0 :: ·)
def kds (tk:List T):Nat→Nat→List (Int × (T→Option T))→Option (List T)
 |0,_,_=>some []
 |m+1,i,[]=>(kds tk m (i+1) []).map (tk.getD i T0 :: ·)
 |m+1,i,x::xs=>if x.1=(i:Int) then (match x.2 (tk.getD i T0) with | none=>none | some u=>(kds tk m (i+1) xs).map (u :: ·)) else (kds tk m (i+1) (x::xs)).map (tk.getD i T0 :: ·)
noncomputable def tY (tk:List T):Nat→List (Int × Int × List T × (T→Option T))→Option (List T × Nat)
 |a,[]=>some ([],a)
 |a,(k,n,l,f)::os=>
  if k=0 then (if a+n.toNat≤tk.length then (tY tk (a+n.toNat) os).map (fun r=>((tk.drop a).take n.toNat++r.1,r.2)) else none)
  else if k=1 then (if a+l.length≤tk.length∧(((tk.drop a).take l.length).zip l).all (fun p=>QL p.1 p.2)=true then tY tk (a+l.length) os else none)
  else if k=2 then (tY tk a os).map (fun r=>(l++r.1,r.2))
  else match tk[a]? with
   |none=>none
   |some x=>match f x with
    |none=>none
    |some u=>(tY tk (a+1) os).map (fun r=>(u::r.1,r.2))
def Aa4 (ws:List WE) (n:Nat):Nat:=match ws.getLast? with | none=>n | some x=>max n (x.at_+1).toNat
def Abz {β:Type} (ks:List (Int × β)) (n:Nat):Nat:=match ks.getLast? with | none=>n | some x=>max n (x.1+1).toNat
noncomputable def AhB (k:Int) (o n:T) (ws:List WE) (ks:List (Int × (T→Option T))) (list:Int) (os:List (Int × Int × List T × (T→Option T))) (t:T):Option T:=
 if k=0 then some (Af t)
 else if k=1 then (if QL o t=true then some (Af n) else none)
 else if k=2 then (if t.kind=1 then (match wds t.words (Aa4 ws t.words.length) 0 ws,kds t.kids (Abz ks t.kids.length) 0 ks with
  |some w,some l=>some (Af (.mk 1 w l))
  |_,_=>none) else none)
 else if k=3 then (if t.kind=list then (match tY t.kids 0 os with
  |some (l,a)=>if a=t.kids.length then some (Af (.mk t.kind [] l)) else none
  |none=>none) else none)
 else none
mutual
noncomputable def apE:E→T→Option T
 |.mk k o n ws ks l os,t=>AhB k o n ws (AaT ks) l (Afy os) t
noncomputable def AaT:List KE→List (Int × (T→Option T))
 |[]=>[]
 |.mk a e::r=>(a,apE e)::AaT r
noncomputable def Afy:List OP→List (Int × Int × List T × (T→Option T))
 |[]=>[]
 |.mk k n t e::r=>(k,n,t,apE e)::Afy r
end
variable {n0:Nat} {w0:World} {I0:Nat→Prop} {Q:Exit→Sta→Prop}
theorem o8 (a b mask:Int):BI (HN a b mask):=by
 have h:=Tu (PI (AZ a) (AZ b) mask 8) QT;rw[K4 (by rw[BJ];exact Cb _),BJ] at h;have e:(256:Int) ^ 8=18446744073709551616:=by decide
 rw[e] at h;exact⟨h.1,h.2⟩
section
variable {n0:Nat} {w0:World} {I0:Nat→Prop}
noncomputable def Akk (e:E) (t:T) (n m:Nat):Option T:=match wds t.words n 0 e.words,kds t.kids m 0 (AaT e.kids) with
 |some w,some l=>some (.mk 1 w l)
 |_,_=>none
end
noncomputable def Acf (e:E) (t:T):Option T:=if t.kind=1 then Akk e t (Aa4 e.words t.words.length) (Abz (AaT e.kids) t.kids.length) else none
theorem JC:PA E0:=wfE_iff.2 ⟨by simp[Bn],by simp[Bn],Hw,Hw,by simp,by simp,by simp,by simp,by simp,by simp⟩
theorem Q7 {n:Int} (h1:-1000000000≤n) (h2:n≤1000000000):Bn n:=⟨by omega,by omega⟩
theorem zX {i:Nat} (hi:i≤1000000) (a b:Int):WE.wf (zx i a b):=
 ⟨Q7 (by show(-1000000000:Int)≤i;omega) (by show(i:Int)≤1000000000;omega),eg a b,o8 _ _ _,o8 _ _ _⟩
theorem v7 {one:T→T→E} {a b:T} (ha:a.words.length≤1000) (hb:b.words.length≤1000) (ha2:a.kids.length≤1000) (hb2:b.kids.length≤1000) (h:∀ i,PA (one (a.kids.getD i T0) (b.kids.getD i T0))):PA (kV one a b):=by
 have h1:=Rq a b (max a.words.length b.words.length);have h2:=MP one a b (max a.kids.length b.kids.length);unfold kV;refine wfE_iff.2 ⟨by simp[Bn],by simp[Bn],Hw,Hw,fun x hx=>?_,by show(MQ a b _).length*32≤_;omega,by show(FM one a b _).length*208≤_;omega,by simp,fun x hx=>?_,by simp⟩
 ·have hx':x ∈ MQ a b (max a.words.length b.words.length):=hx;unfold MQ at hx';rw[List.mem_filterMap] at hx';obtain⟨i,hi,e⟩:=hx';split at e
  ·cases e
  ·simp only[Option.some.injEq] at e;subst e;have:i<max a.words.length b.words.length:=by simpa using hi
   exact zX (by omega) _ _
 ·obtain⟨i,hi,e,_⟩:=XG (show x ∈ FM one a b _ from hx);subst e;exact⟨Q7 (by show(-1000000000:Int)≤i;omega) (by show(i:Int)≤1000000000;omega),h i⟩
theorem AaF {one:T→T→E} {A B:List T} {N:Nat} (hN:N≤1000000) (lA:A.length≤1000000) (lB:B.length≤1000000) (hA:∀ t,t ∈ A→Bx t) (hB:∀ t,t ∈ B→Bx t) (h1:∀ x,x ∈ A→∀ y,y ∈ B→PA (one x y)) {o:OP} (h:cg one A B N o):ti o:=by
 cases h with
 |keep n h=>exact⟨by simp[Bn],Q7 (by show(-1000000000:Int)≤n;omega) (by show(n:Int)≤1000000000;omega),by simp,by simp,JC⟩
 |del l h g k=>exact⟨by simp[Bn],by simp[Bn],fun t ht=>hA t (g t ht),by show l.length*56≤_;omega,JC⟩
 |ins l h g k=>exact⟨by simp[Bn],by simp[Bn],fun t ht=>hB t (g t ht),by show l.length*56≤_;omega,JC⟩
 |desc x y hx hy=>exact⟨by simp[Bn],by simp[Bn],by simp,by simp,h1 x hx y hy⟩
theorem Yd {a b:T} (ha:Bx a) (hb:Bx b):PA (.mk 1 a b [] [] 0 []):=wfE_iff.2 ⟨by simp[Bn],by simp[Bn],ha,hb,by simp,by simp,by simp,by simp,by simp,by simp⟩
theorem su {one:T→T→E} {most:Int} {a b:T} (wfa:Bx a) (ha:a.kids.length≤1000) (hb:b.kids.length≤1000) (wa:∀ t,t ∈ a.kids→Bx t) (wb:∀ t,t ∈ b.kids→Bx t) (h:∀ x,x ∈ a.kids→∀ y,y ∈ b.kids→PA (one x y)):PA (Sf one most a b):=by
 have h1:=j6 one most a b;rw[SN];exact wfE_iff.2 ⟨by simp[Bn],(wfT_iff.1 wfa).k,Hw,Hw,by simp,by simp,by simp,by show(Tf one most a b).length*240≤_;omega,by simp,fun x hx=>AaF (by omega) (by omega) (by omega) wa wb h (R6 one most a b x hx)⟩
theorem XU (most:Int):∀ (f g:Nat) (a b:T),Tj f a→Tj g b→PA (Gp most f a b)
 |0,g,a,b,ha,hb=>by
  rw[Gp];split
  ·exact JC
  ·exact Yd (AF ha).1 (AF hb).1
 |f+1,g,a,b,ha,hb=>by
  obtain⟨a1,a2,a3,a4⟩:=AF ha;obtain⟨b1,b2,b3,b4⟩:=AF hb;rw[Gp];split
  ·exact JC
  ·split
   ·exact v7 a3 b3 a4 b4 fun i=>XU most f (g-1) _ _ (Gi ha i) (Gi hb i)
   ·split
    ·exact su a1 a4 b4 (fun t ht=>(AF (AX ha t ht)).1) (fun t ht=>(AF (AX hb t ht)).1) fun x hx y hy=>XU most f (g-1) x y (AX ha x hx) (AX hb y hy)
    ·exact Yd a1 b1
theorem rY (n:Int):Bn (i64.wrap n):=by
 rw[IntKind.wrap_i64];exact⟨by omega,by omega⟩
theorem ye {out:List OP} {n:Int} (h:∀ o,o ∈ out→ti o) (hn:Bn n):∀ o,o ∈ RG out n→ti o:=by
 unfold RG;split
 ·rename_i m l e he;intro o ho;have hm:=List.mem_of_getLast? he;rcases List.mem_append.1 ho with ho | ho
  ·exact h o (List.dropLast_subset _ ho)
  ·rw[List.mem_singleton] at ho;subst ho;have:=h _ hm;exact⟨this.k,rY _,this.l,this.ll,this.e⟩
 ·intro o ho;rcases List.mem_append.1 ho with ho | ho
  ·exact h o ho
  ·rw[List.mem_singleton] at ho;subst ho;exact⟨by simp[Bn],hn,by simp,by simp,JC⟩
theorem yl {out:List OP} {g b:List T} (h:∀ o,o ∈ out→ti o) (hg:∀ t,t ∈ g→Bx t) (hb:∀ t,t ∈ b→Bx t) (lg:g.length≤1000000) (lb:b.length≤1000000):∀ o,o ∈ Nc out g b→ti o:=by
 intro o ho;unfold Nc DE Dx at ho;rcases List.mem_append.1 ho with ho | ho
 ·exact h o ho
 ·rcases List.mem_append.1 ho with ho | ho
  ·split at ho
   ·simp at ho
   ·rw[List.mem_singleton] at ho;subst ho;exact⟨by simp[Bn],by simp[Bn],hg,by show g.length*56≤_;omega,JC⟩
  ·split at ho
   ·simp at ho
   ·rw[List.mem_singleton] at ho;subst ho;exact⟨by simp[Bn],by simp[Bn],hb,by show b.length*56≤_;omega,JC⟩
def WfS (o:OP):Prop:=Bn o.n∧(∀ t,t ∈ o.l→Bx t)∧(o.kind=0∨o.kind=1∨o.kind=2∨o.kind=3)∧(o.kind=3→PA o.e)
theorem OV (list:Int):∀ (os out:List OP) (g b:List T),(∀ o,o ∈ os→WfS o)→(∀ o,o ∈ out→ti o)→(∀ t,t ∈ g→Bx t)→(∀ t,t ∈ b→Bx t)→g.length+b.length+Gy os≤1000000→∀ o,o ∈ ED list os out g b→ti o
 |[],out,g,b,h1,h2,h3,h4,h5=>by
  rw[ED];exact yl h2 h3 h4 (by omega) (by omega)
 |x::os,out,g,b,h1,h2,h3,h4,h5=>by
  rw[az] at h5;have hx:=h1 x (by simp);have hos:∀ o,o ∈ os→WfS o:=fun o ho=>h1 o (List.mem_cons_of_mem _ ho);have fl:=yl h2 h3 h4 (by omega) (by omega);have nn:∀ (l:List T),(∀ t,t ∈ l→Bx t)→∀ t,t ∈ l++x.l.map Af→Bx t:=fun l hl t ht=>by
   rcases List.mem_append.1 ht with ht | ht
   ·exact hl t ht
   ·obtain⟨u,hu,rfl⟩:=List.mem_map.1 ht;exact IH _ (hx.2.1 u hu)
  have z:∀ t:T,t ∈ ([]:List T)→Bx t:=by simp
  rw[ED];split
  ·exact OV list os _ _ _ hos (ye fl hx.1) z z (by simp;omega)
  ·split
   ·exact OV list os _ _ _ hos h2 (nn g h3) h4 (by simp;omega)
   ·split
    ·exact OV list os _ _ _ hos h2 h3 (nn b h4) (by simp;omega)
    ·split
     ·exact OV list os _ _ _ hos (ye fl (by simp[Bn])) z z (by simp;omega)
     ·refine OV list os _ _ _ hos (fun o ho=>?_) z z (by simp;omega);rcases List.mem_append.1 ho with ho | ho
      ·exact fl o ho
      ·rw[List.mem_singleton] at ho;subst ho;exact⟨by simp[Bn],by simp[Bn],by simp,by simp,hx.2.2.2 (by have:=hx.2.2.1;omega)⟩
theorem AaP (out:List OP) (n:Int):(RG out n).length≤out.length+1:=by
 unfold RG;split
 ·simp
  try omega
 ·simp
theorem pQ (out:List OP) (g b:List T):(Nc out g b).length≤out.length+2:=by
 unfold Nc DE Dx;split<;>split<;>simp
theorem L0 (list:Int):∀ (os out:List OP) (g b:List T),(ED list os out g b).length≤out.length+3*os.length+2
 |[],out,g,b=>by
  rw[ED];have:=pQ out g b;simp;omega
 |x::os,out,g,b=>by
  have h1:=pQ out g b;have h2:=AaP (Nc out g b);rw[ED,List.length_cons];split
  ·have:=L0 list os (RG (Nc out g b) x.n) [] [];have:=h2 x.n;omega
  ·split
   ·have:=L0 list os out (g++x.l.map Af) b;omega
   ·split
    ·have:=L0 list os out g (b++x.l.map Af);omega
    ·split
     ·have:=L0 list os (RG (Nc out g b) 1) [] [];have:=h2 1;omega
     ·have:=L0 list os (Nc out g b++[.mk 3 0 [] x.e]) [] [];simp at this;omega
theorem yn (os:List OP):Gy (os.map LP)=Gy os:=by
 unfold Gy;rw[List.map_map];rfl
theorem Adi:∀ e:E,PA e→VK e→PA (Jl e):=by
 refine E.ind fun k o n ws ks l os ihk iho hw h=>?_;rw[VK] at h;obtain⟨hk,hl,hon,hwl,hkl,hol,hsum,hks,hos⟩:=h;have w:=wfE_iff.1 hw;rw[FP];split
 ·exact Yd (IH _ w.o) (IH _ w.n)
 ·split
  ·rename_i h1 h2;refine wfE_iff.2 ⟨by simp[Bn],by simp[Bn],Hw,Hw,w.w,w.wl,by show(ks.map iR).length*208≤_;simp;omega,by simp,fun x hx=>?_,by simp⟩;obtain⟨y,hy,rfl⟩:=List.mem_map.1 (show x ∈ ks.map iR from hx);have:=w.ks y hy;exact⟨this.1,ihk y hy this.2 (SS (hks h2) y hy)⟩
  ·split
   ·rename_i h1 h2 h3;have hO:∀ o,o ∈ os.map LP→WfS o:=fun o ho=>by
     obtain⟨y,hy,rfl⟩:=List.mem_map.1 ho;have g1:=w.os y hy;obtain⟨g2,g3,g4⟩:=RT (hos h3) y hy;exact⟨g1.n,g3,g2,fun e=>iho y hy g1.e (g4 e)⟩
    have hlen:=L0 l (os.map LP) [] [] [];simp at hlen;refine wfE_iff.2 ⟨by simp[Bn],w.l,Hw,Hw,by simp,by simp,by simp,by show(ED l (os.map LP) [] [] []).length*240≤_;omega,by simp,fun x hx=>OV l _ _ _ _ hO (by simp) (by simp) (by simp) (by rw[yn];simpa using hsum) x hx⟩
   ·exact JC
theorem AgH {a b:T} (ha:Bx a) (hb:Bx b) (pa:BH a≤1000) (pb:BH b≤1000) {most:Int}:PA (qj most a b):=by
 have oa:=CH a ha pa 1000 pa;have ob:=CH b hb pb 1000 pb;exact Adi _ (XU most 1000 1000 _ _ oa ob) (RO most 1000 1000 _ _ oa ob)
section
variable {n0:Nat} {w0:World} {I0:Nat→Prop}
end
theorem KO:Bx T0:=wfT_iff.2 ⟨by simp[Bn],by simp,by simp,by simp,by simp⟩
theorem Akq (k:Int) (h:Bn k):PA (.mk k T0 T0 [] [] 0 []):=wfE_iff.2 ⟨h,by simp[Bn],KO,KO,by simp,by simp,by simp,by simp,by simp,by simp⟩
theorem O4:∀ (e:E),PA e→T7 1048575 e→Bu 64 e=true∨True→Bx (AU e):=by
 refine E.ind fun k o n ws ks l os ihk iho hw hs _=>?_;have h:=wfE_iff.1 hw;rw[T7,smKs_all,smOs_all] at hs;obtain⟨s1,s2,s3,s4,s5⟩:=hs;have u:∀ x,BI (Jh x):=fun x=>by unfold BI Jh;omega
 have row:∀ (m:List T),m.length≤1048575→(∀ t,t ∈ m→Bx t)→Bx (Es m):=fun m hm hmt=>by
  cases m with
  |nil=>rw[Z6];exact KO
  |cons t m=>rw[Ke];exact wfT_iff.2 ⟨by simp[Bn],by simp,by simp,by simp at hm ⊢; omega,hmt⟩
 have tk:∀ w:OP,(Fg l w).kids.length*56≤140737488355328:=fun w=>by
  simp only[Fg,T.kids_mk]
  repeat' split
  all_goals simp
 rw[Dh];split
 ·exact KO
 ·split
  ·refine wfT_iff.2 ⟨by simp[Bn],?_,by simp,by simp,?_⟩
   ·intro x hx;simp at hx;rw[hx];exact u _
   ·intro x hx;simp at hx;rcases hx with rfl | rfl;exact h.o;exact h.n
  ·split
   ·refine wfT_iff.2 ⟨by simp[Bn],?_,by simp,by simp,?_⟩
    ·intro x hx;simp at hx;rw[hx];exact u _
    ·intro x hx;simp at hx;rcases hx with rfl | rfl
     ·refine row _ (by simp;omega) fun t ht=>?_;obtain⟨w,hw',rfl⟩:=List.mem_map.1 ht;obtain⟨w1,w2,w3,w4⟩:=h.w w hw';exact wfT_iff.2 ⟨by simp[G8,Bn],by intro x hx;simp[G8] at hx;rcases hx with rfl | rfl | rfl;exact u _;exact w3;exact w4,by simp[G8],by simp[G8],by simp[G8]⟩
     ·rw[FE];refine row _ (by simp;omega) fun t ht=>?_;obtain⟨w,hw',rfl⟩:=List.mem_map.1 ht;exact wfT_iff.2 ⟨by simp[Ja,Bn],by intro x hx;simp[Ja] at hx;rw[hx];exact u _,by simp[Ja],by simp[Ja],by intro x hx;simp[Ja] at hx;rw[hx];exact ihk w hw' (h.ks w hw').2 (s4 w hw') (.inr trivial)⟩
   ·refine wfT_iff.2 ⟨by simp[Bn],?_,by simp,by simp,?_⟩
    ·intro x hx;simp at hx;rw[hx];exact u _
    ·intro x hx;simp at hx;subst hx;rw[FH];refine row _ (by simp;omega) fun t ht=>?_;obtain⟨w,hw',rfl⟩:=List.mem_map.1 ht;have hwo:=h.os w hw';refine wfT_iff.2 ⟨by simp[Fg,Bn],by intro x hx;simp[Fg] at hx;rw[hx];exact u _,by simp[Fg],tk w,?_⟩;intro x hx;simp only[Fg,T.kids_mk] at hx;split at hx
     ·simp at hx;rw[hx];exact iho w hw' hwo.e (s5 w hw') (.inr trivial)
     ·split at hx
      ·simp at hx;rw[hx];exact wfT_iff.2 ⟨h.l,by simp,by simp,hwo.ll,hwo.l⟩
      ·simp at hx
end Go.Proofs.YtbjmaoedheiigaaGreat
namespace Go.Proofs.YtbjmaoedheiigaaGreat
open Go Go.G Go.Proofs
structure Ar where
 l:List (Nat × List Int)
 u:Nat
 ur:Nat
 size:Int
 most:Int
 used:Int
def Ar.w (S:Ar):List (List Int):=S.l.map Prod.snd
abbrev Ar.a (S:Ar):A:=arX S.w S.size S.most S.used
structure Ar.Ok (S:Ar):Prop where
 used0:0≤S.used
 used1:S.used≤S.most
 most1:S.most≤131072
 size0:1≤S.size
 size1:S.size<9223372036854775808
 len:S.l.length≤16
 seg:∀ e,e ∈ S.l→(e.2.length:Int)≤S.used
theorem Ar.Ok.szAt {S:Ar} (h:S.Ok) (s:Int):0≤(Go.Proofs.YtbjmaoedheiigaaGreat.szAt S.w s:Int)∧(Go.Proofs.YtbjmaoedheiigaaGreat.szAt S.w s:Int)≤S.used:=by
 refine⟨by omega,?_⟩;unfold Go.Proofs.YtbjmaoedheiigaaGreat.szAt;cases e:Go.Proofs.YtbjmaoedheiigaaGreat.seg S.w s with
 |none=>exact h.used0
 |some g=>
  obtain⟨_,_,h2,rfl⟩:=L3 e;simp only[Option.map_some,Option.getD_some];simp only[Ar.w,List.getElem_map];exact h.seg _ (A5 _)
def wl (S:Ar) (k:Nat):Nat:=((S.l[k]?).map fun e=>e.2.length).getD 0
def Wd (S:Ar):Prop:=∀ e,e ∈ S.l→∀ x,x ∈ e.2→BI x
structure Gr (S S':Ar):Prop where
 ok:S'.Ok
 wd:Wd S'
 wl:∀ k,Go.Proofs.YtbjmaoedheiigaaGreat.wl S k≤Go.Proofs.YtbjmaoedheiigaaGreat.wl S' k
theorem Gr.refl {S:Ar} (h:S.Ok) (w:Wd S):Gr S S:=⟨h,w,fun _=>Cb _⟩
theorem Gr.trans {S S' S2:Ar} (h:Gr S S') (k:Gr S' S2):Gr S S2:=⟨k.ok,k.wd,fun i=>Nat.le_trans (h.wl i) (k.wl i)⟩
end Go.Proofs.YtbjmaoedheiigaaGreat
namespace Go.Proofs.YtbjmaoedheiigaaGreat
open Go Go.G Go.Proofs Go.PL
theorem Kd:∀ (t:T) (d:Nat),Aj d t=true→Bx t→t.kind ≠ 10→Cr (Af t):=by
 refine T.ind fun k w ks ih d hr hw h10=>?_;have hst:=AV hr;have hwk:=(wfT_iff.1 hw).ks;simp at h10;rw[AI] at hr;rw[AL];by_cases h0:k=0
 ·rw[if_pos h0];exact .null _
 rw[if_neg h0] at hr ⊢;rw[if_neg h10] at hr;have htb:A4 k d w.length ks.length=false:=by
  cases e:A4 k d w.length ks.length with
  |false=>rfl
  |true=>rw[e] at hr;simp at hr
 simp[A4] at htb;by_cases h1:k=1
 ·rw[if_pos h1];have hb2:=ET w;have hb3:=EN (ks.map Af);rw[List.length_map] at hb3;refine .str _ _ (by omega) (by omega) fun t ht=>?_;rw[L5] at ht;obtain⟨u,hu,rfl⟩:=List.mem_map.1 (PD ht);obtain⟨g1,g2⟩:=hst u hu;refine ih u hu _ g1 (hwk u hu) fun e=>?_;subst h1;simp[B6,Bb,e] at g2
 rw[if_neg h1];by_cases h8:k=8
 ·subst h8;refine .ptrs _ _ (by simp;omega) fun t ht=>?_;obtain⟨u,hu,rfl⟩:=List.mem_map.1 ht;obtain⟨g1,g2⟩:=hst u hu;refine ih u hu _ g1 (hwk u hu) fun e=>?_;simp[B6,Bb,e] at g2
 by_cases h9:k=9
 ·subst h9;have kk:∀ u,u ∈ ks→u.kind=1∧Cr (Af u):=fun u hu=>by
   obtain⟨g1,g2⟩:=hst u hu;have hk1:u.kind=1:=by
    simp[B6,Bb] at g2;exact g2.2
   exact⟨hk1,ih u hu _ g1 (hwk u hu) (by omega)⟩
  have two:∀ u,u ∈ ks→(Af u).words.length<65536∧(Af u).kids.length<65536∧∀ c,c ∈ (Af u).kids→Cr c:=fun u hu=>by
   obtain⟨e1,hL⟩:=kk u hu;have hkn2:(Af u).kind=1:=by rw[Bp];exact e1
   generalize Af u=x at hL hkn2;cases hL with
   |str w ks b1 b2 h=>exact⟨b1,b2,h⟩
   |_=>simp at hkn2<;>omega
  refine .comp _ _ (by simp;omega) (fun t ht=>?_) fun t ht c hc=>?_
  ·obtain⟨u,hu,rfl⟩:=List.mem_map.1 ht;exact⟨(two u hu).1,(two u hu).2.1⟩
  ·obtain⟨u,hu,rfl⟩:=List.mem_map.1 ht;exact(two u hu).2.2 c hc
 refine .data _ _ _ (by omega) (by omega) (by simp;omega) fun c hc=>?_;obtain⟨u,hu,rfl⟩:=List.mem_map.1 hc;obtain⟨g1,g2⟩:=hst u hu;have hd:Bb k=true:=by simp[Bb];omega
 have hwu:=hwk u hu;obtain⟨k2,w2,l2⟩:=u;simp[B6,hd] at g2;obtain⟨⟨e1,e2⟩,e3⟩:=g2;have e1:k2=10:=of_decide_eq_true e1;subst e1;rw[AI,if_neg (by decide),if_pos rfl] at g1;simp at g1;obtain⟨x,hx⟩:=List.length_eq_one_iff.1 g1.1;subst hx;have hr:=(wfT_iff.1 hwu).w x (by simp);refine⟨x,by rw[AL];simp,hr.1,hr.2,by simpa using e3⟩
end Go.Proofs.YtbjmaoedheiigaaGreat
namespace Go.Proofs.YtbjmaoedheiigaaGreat
open Go Go.G Go.Proofs
def right (p:Pt):Bool:=
 if p.kind=0 then decide (p=⟨0,0,0,0,0,0,0,false⟩)
 else if p.kind=1 then decide (-536870912≤p.off∧p.off<536870912∧0≤p.data∧p.data<65536∧0≤p.ptrs∧p.ptrs<65536∧p=⟨1,p.off,p.data,p.ptrs,0,0,0,false⟩∧(p.off ≠ 0∨p.data ≠ 0∨p.ptrs ≠ 0))
 else if p.kind=2 then decide (-536870912≤p.off∧p.off<536870912∧0≤p.code∧p.code<8∧0≤p.count∧p.count<536870912∧p=⟨2,p.off,0,0,p.code,p.count,0,false⟩)
 else if p.kind=3 then decide (0≤p.off∧p.off<536870912∧0≤p.seg∧p.seg<4294967296∧p=⟨3,p.off,0,0,0,0,p.seg,p.dbl⟩)
 else false
theorem pA {o r:Int} (h1:-536870912≤o) (h2:o<536870912) (h3:0≤r) (k:Int) (hk:0≤k) (hk4:k<4):PJ (o*4 % 4294967296+k+r*4294967296)=o:=by
 unfold PJ;split<;>omega
theorem Us (p:Pt):Qp p=right p:=by
 obtain⟨k,o,d,q,co,n,s,b⟩:=p;by_cases h1:k=1
 ·subst h1;by_cases hr:-536870912≤o∧o<536870912∧0≤d∧d≤65535∧0≤q∧q≤65535
  ·have e:EU ⟨1,o,d,q,co,n,s,b⟩=o*4 % 4294967296+d*4294967296+q*281474976710656:=by rw[EU,if_pos rfl,if_pos hr]
   obtain⟨a1,a2,a3,a4,a5,a6⟩:=hr;refine Bool.eq_iff_iff.2 ?_;simp only[Qp,e];by_cases hz:o=0∧d=0∧q=0
   ·obtain⟨rfl,rfl,rfl⟩:=hz;simp[Ed,right]
   ·have e2:Ed (o*4 % 4294967296+d*4294967296+q*281474976710656)=⟨1,o,d,q,0,0,0,false⟩:=by
     have eo:=pA (r:=d+q*65536) a1 a2 (by omega) 0 (by omega) (by omega);rw[show o*4 % 4294967296+0+(d+q*65536)*4294967296=o*4 % 4294967296+d*4294967296+q*281474976710656 from by omega] at eo;rw[Ed,if_neg (by omega),if_pos (by omega),eo];congr 1<;>omega
    rw[e2];cases b<;>simp[right]<;>omega
  ·have e:EU ⟨1,o,d,q,co,n,s,b⟩=0:=by rw[EU,if_pos rfl,if_neg hr]
   refine Bool.eq_iff_iff.2 ?_;simp[Qp,e,Ed,right];omega
 by_cases h2:k=2
 ·subst h2;by_cases hr:-536870912≤o∧o<536870912∧0≤co∧co≤7∧0≤n∧n≤536870911
  ·have e:EU ⟨2,o,d,q,co,n,s,b⟩=o*4 % 4294967296+1+co*4294967296+n*34359738368:=by rw[EU,if_neg (by simp),if_pos rfl,if_pos hr]
   obtain⟨a1,a2,a3,a4,a5,a6⟩:=hr;refine Bool.eq_iff_iff.2 ?_;simp only[Qp,e];have e2:Ed (o*4 % 4294967296+1+co*4294967296+n*34359738368)=⟨2,o,0,0,co,n,0,false⟩:=by
    have eo:=pA (r:=co+n*8) a1 a2 (by omega) 1 (by omega) (by omega);rw[show o*4 % 4294967296+1+(co+n*8)*4294967296=o*4 % 4294967296+1+co*4294967296+n*34359738368 from by omega] at eo;rw[Ed,if_neg (by omega),if_neg (by omega),if_pos (by omega),eo];congr 1<;>omega
   rw[e2];cases b<;>simp[right]<;>omega
  ·have e:EU ⟨2,o,d,q,co,n,s,b⟩=0:=by rw[EU,if_neg (by simp),if_pos rfl,if_neg hr]
   refine Bool.eq_iff_iff.2 ?_;simp[Qp,e,Ed,right];omega
 by_cases h3:k=3
 ·subst h3;by_cases hr:0≤o∧o≤536870911∧0≤s∧s≤4294967295
  ·have e:EU ⟨3,o,d,q,co,n,s,b⟩=o*8+2+s*4294967296+(if b=true then 4 else 0):=by rw[EU,if_neg (by simp),if_neg (by simp),if_pos rfl,if_pos hr]
   obtain⟨a1,a2,a3,a4⟩:=hr;refine Bool.eq_iff_iff.2 ?_;simp only[Qp,e];have e2:Ed (o*8+2+s*4294967296+(if b=true then 4 else 0))=⟨3,o,0,0,0,0,s,b⟩:=by
    cases b with
    |true=>
     rw[if_pos rfl,Ed,if_neg (by omega),if_neg (by omega),if_neg (by omega),if_pos (by omega)];congr 1<;>first | omega | (simp;omega)
    |false=>
     rw[if_neg (by simp),Ed,if_neg (by omega),if_neg (by omega),if_neg (by omega),if_pos (by omega)];congr 1<;>first | omega | (simp;omega)
   rw[e2];simp[right];omega
  ·have e:EU ⟨3,o,d,q,co,n,s,b⟩=0:=by rw[EU,if_neg (by simp),if_neg (by simp),if_pos rfl,if_neg hr]
   refine Bool.eq_iff_iff.2 ?_;simp[Qp,e,Ed,right];omega
 have e:EU ⟨k,o,d,q,co,n,s,b⟩=0:=by rw[EU,if_neg h1,if_neg h2,if_neg h3]
 refine Bool.eq_iff_iff.2 ?_;simp[Qp,e,Ed,right,h1,h2,h3];by_cases h0:k=0
 ·cases b<;>simp[h0]<;>omega
 ·simp[h0];intro hk;omega
end Go.Proofs.YtbjmaoedheiigaaGreat
namespace Go.Proofs.YtbjmaoedheiigaaGreat
open Go Go.G Go.Proofs Go.PL
variable {n0:Nat} {w0:World} {I0:Nat→Prop} {Q:Exit→Sta→Prop}
theorem zH {c:Int} {ns:List Int} (hn:ns.length≤1000000000) {w:Nat} (hw:w=0∨w=1∨w=8∨w=16∨w=32∨w=64) (hwc:AD c=w) (hfit:∀ x,x ∈ ns→BI x∧GA c x=true) {m:Nat} (hm:w ≠ 0→m=(ns.length*w+63) / 64)
  (hq:∀ (q:Bool) (H':Hp) (out:List Int),out=Lx w ns 0 (List.replicate m 0)→H' [0]=⟨1,.arr 1 (out.map uv)⟩→Q (.exit 0) ⟨lk [(0,iv c),(6,nv w),(8,.osl [0] 1 1 0 m),(23,Ff ns),(24,nv ns.length),(25,nv ns.length),(26,bv q)],H'⟩) :
  ∀ (j i:Nat) (out:List Int) (H:Hp),i+j=ns.length→out.length=m→(w ≠ 0→PutI w i out)→Lx w (ns.drop i) i out=Lx w ns 0 (List.replicate m 0)→H [0]=⟨1,.arr 1 (out.map uv)⟩ →
  LoopC (cx Tryz.prog w0 I0 n0) Lm Q ⟨lk [(0,iv c),(6,nv w),(8,.osl [0] 1 1 0 m),(23,Ff ns),(24,nv ns.length),(25,nv i)],H⟩:=by
 have hw64:w≤64:=by omega
 intro j;induction j with
 |zero=>
  intro i out H hi hl hI hp hH;have:i=ns.length:=by omega
  subst this;rw[List.drop_eq_nil_of_le (Cb _),Lx] at hp;refine Ad Ai Lm.eq_1 ?_;simp;exact hq _ H out hp hH
 |succ j ih=>
  intro i out H hi hl hI hp hH;have hlt:i<ns.length:=by omega
  have ei:=AM i;obtain⟨f1,f2⟩:=hfit _ (A5 hlt);have f1':=f1;unfold BI at f1';have hx2:=Wl hwc f1'.1 f2;obtain⟨e1,e2,e3⟩:=xw (i:=i) hw64 (by omega);rw[List.drop_eq_getElem_cons hlt,Lx] at hp;refine Ad Ai Lm.eq_1 ?_;simp[hlt];refine Ae (Xk f1) (by simp) ?_;simp[f2];by_cases h0:w=0
  ·subst h0;rw[if_pos rfl] at hp;simp[ei];exact ih (i+1) out H (by omega) hl (fun h=>absurd rfl h) hp hH
  ·rw[if_neg h0] at hp;have hat:i*w / 64<out.length:=by rw[hl,hm h0];exact ct (by omega) hlt
   obtain⟨p1,p2,p3,p4,p5⟩:=Uc (hI h0) (by omega) f1'.1 hx2 hat;have hw0:(0:Int)<w:=by omega
   have hw0':0<w:=by omega
   have hg:out.getD (i*w / 64) 0=out[i*w / 64]:=by simp[hat]
   have hatm:i*w / 64<m:=by omega
   rw[hg] at p1 p2 p3 p5 hp;have hnn:=Int.mul_nonneg f1'.1 (show(0:Int)≤2 ^ (i*w % 64) from Int.le_of_lt (Int.pow_pos (by decide)));have hs64:i*w % 64<64:=Nat.mod_lt _ (by decide);have esh:u64.wrap (ns[i]*2 ^ min (i*w % 64) u64.bits)=ns[i]*2 ^ (i*w % 64):=by
    rw[show min (i*w % 64) u64.bits=i*w % 64 from by simp[IntKind.bits];omega];exact Bw hnn p4
   have hor:bits .or .u64 out[i*w / 64] (ns[i]*2 ^ (i*w % 64))=out[i*w / 64]+ns[i]*2 ^ (i*w % 64):=
    K5 (i*w % 64) p2 p3 (by omega) hnn (Int.mul_emod_left _ _) p4
   have him:i*w≤1000000000*64:=Nat.mul_le_mul (by omega) hw64;have eP:i64.wrap ((i*w / 64:Nat):Int)=((i*w / 64:Nat):Int):=Bv;have eS:i64.wrap ((i*w % 64:Nat):Int)=((i*w % 64:Nat):Int):=Bv;generalize i*w % 64=s at *;generalize i*w / 64=P at *;simp[hw0',e1,e2,e3,hH,hat,hatm,eP,eS,esh,hor,ei];refine⟨?_,fun h=>absurd h h0⟩;refine ih (i+1) (out.set P (out[P]+ns[i]*2 ^ s)) _ (by omega) (by simpa using hl) (fun _=>p1) hp ?_;simp[List.map_set]
theorem qT {c:Int} (c0:0≤c) (c6:c<6) {ns:List Int} (hn:ns.length≤1000000000) (hfit:∀ x,x ∈ ns→BI x∧GA c x=true):G.Spec Tryz.prog 129 [iv c,Ff ns] (.tup [Ff (MS c ns),bv true]):=by
 obtain⟨w,w1,w2,w3⟩:=IU c0 c6;have hroom:Dw c ns.length=(((ns.length*w+63) / 64:Nat):Int):=by
  unfold Dw;rw[if_neg (by omega),w2];have e:(ns.length:Int)*w=((ns.length*w:Nat):Int):=by rw[Int.natCast_mul]
  rw[e];omega
 have hm:(Dw c ns.length).toNat=(ns.length*w+63) / 64:=by rw[hroom];omega
 have hb:(ns.length*w+63) / 64≤1000000001:=by
  have:ns.length*w≤1000000000*64:=Nat.mul_le_mul hn (by omega);omega
 refine Ah lj (by simp) fun w0 I0=>?_;unfold WN;simp;refine Ae (J5 c) rfl ?_;rw[w1];have hnn:¬ (w:Int)<0:=by omega
 simp[hnn];refine Ae (Wy c ns.length) (by simp) ?_;rw[hroom];generalize hM:(ns.length*w+63) / 64=m at *;have hm8:(m:Int)*8≤140737488355328:=by omega
 have hz:MS c ns=Lx w ns 0 (List.replicate m 0):=by
  unfold MS;rw[w1,hm];simp
 rw[hz];simp[hm8];refine⟨by omega,?_⟩;refine zH hn w3 w1 hfit (m:=m) (fun _=>hM.symm) (fun q H' out ho hH=>?_) ns.length 0 (List.replicate m 0) _ (by omega) (by simp) (fun _=>PutI.start w m) (by simp) ?_;rotate_left
 ·simp
 subst ho;simp;refine CY ?_;simp;exact⟨Cu (f:=uv) (by rw[hH];simp) (by simp[NZ]) (fun x=>by simp),Ab rfl⟩
def gg (r:Nat) (S:Cp):Nm→VOb
 |[]=>⟨1,.cells [.osl [r,0] S.v 1 0 S.W.length]⟩
 |[0]=>⟨S.v,.arr 1 (S.W.map uv)⟩
 |_=>⟨0,.none⟩
@[simp] theorem Ajq {r:Nat} {S:Cp}:gg r S []=⟨1,.cells [.osl [r,0] S.v 1 0 S.W.length]⟩:=rfl
@[simp] theorem Alf {r:Nat} {S:Cp}:gg r S [0]=⟨S.v,.arr 1 (S.W.map uv)⟩:=rfl
theorem Sj {r:Nat} {S S':Cp} {p:Nm} (h0:p ≠ []) (h1:p ≠ [0]):gg r S p=gg r S' p:=by
 match p,h0,h1 with
 |[],h,_=>exact absurd rfl h
 |[0],_,h=>exact absurd rfl h
 |0::a::q,_,_=>rfl
 |(a+1)::q,_,_=>rfl
def pf (S:Cp):Fam:=⟨fun r=>gg r S,fun {g δ r r'} hg hd p=>by
  match p with
  |[]=>simp[VOb.ren,Ob.ren,A.renL,A.ren,hg,hd]
  |[0]=>exact Fam.arr_ren (AaY _)
  |0::a::q=>rfl
  |(a+1)::q=>rfl,fun {D r} hD p=>by
  match p with
  |[]=>simp[Ob.refs,A.refsL,A.refs,hD]
  |[0]=>
   refine refsL_iff.2 fun x hx=>?_;obtain⟨c,_,rfl⟩:=List.mem_map.1 hx;trivial
  |0::a::q=>trivial
  |(a+1)::q=>trivial⟩
@[simp] theorem tJ {S:Cp} {r:Nat}:(pf S).F r=gg r S:=rfl
theorem J8 (S:Cp) (hS:S.W.length≤131072) (n:Nat) (hn:n≤1000000):BR Tryz.prog 77 (fun r=>[.pob [r] 1 0,nv n]) (pf S) (fun _=>nv S.W.length) (pf ⟨S.v+1,S.W++List.replicate n 0⟩):=by
 refine Ay PK (by simp) (Ag Bi (Ag Ax Ap)) Ax fun w0 I0 M0 m0=>?_;unfold Jv;have hle:(S.W.length+n)*8≤140737488355328:=by omega
 have hn1:(n:Int)*8≤140737488355328:=by omega
 simp[Aa,hle,hn1];refine AJ rfl rfl fun p=>?_;refine SC ?_ (fun h1=>SC ?_ (fun h2=>Sj h1 h2))
 ·simp
 ·simp[BO]
theorem T8 {n:Nat} {w0:World} {I0:Nat→Prop} {M0:Nm→Nat→Prop} {m0:Mu} {S:Cp} {q:Pt} {a:Nat} {t:A} (ha:a<S.W.length) {H:Hp} (hH:∀ p,H (0::p)=gg 0 S p) (hP:H [1]=⟨1,.cells (ptL q)⟩) :
  WPC (FW Tryz.prog w0 I0 M0 n m0) E4 (R4 (FW Tryz.prog w0 I0 M0 n m0) [.tmp 8] 1 (bv (Qp q)) (ov 0 (gg 0 ⟨S.v,S.W.set a (EU q)⟩) (FA []))) ⟨lk [(0,.pob [0] 1 0),(1,nv a),(7,.pob [1] 1 0)],H⟩:=by
 unfold E4;have ha':(a:Int)<S.W.length:=by omega
 simp[hP,hH];refine Ae (UW q) (by simp) ?_;simp[hH,ha];refine A0 rfl rfl fun p=>?_;by_cases h0:p=[0]
 ·subst h0;simp[Aa,List.map_set]
 ·by_cases h1:p=[]
  ·subst h1;simp[Aa,hH]
  ·simp only[Aa];rw[if_neg (by simpa using h0),hH];exact Sj h1 h0
theorem KU (S:Cp) {a:Nat} (ha:a<S.W.length) (ha2:a≤200000) {to:Int} (t0:0≤to) (t1:to≤200000) (p:Pt) (d0:0≤p.data) (d1:p.data≤200000) (k0:0≤p.ptrs) (k1:p.ptrs≤200000) :
  BR Tryz.prog 125 (fun r=>[.pob [r] 1 0,nv a,iv to,p.a]) (pf S) (fun _=>bv (Qp (VW p a to))) (pf ⟨S.v,S.W.set a (EU (VW p a to))⟩):=by
 refine Ay NU (by simp) (Ag Bi (Ag Ax (Ag Ax (Ag (gR (FamL.all fun x hx=>?_)) Ap)))) Ax fun w0 I0 M0 m0=>?_
 ·simp at hx;rcases hx with rfl | rfl | rfl | rfl | rfl | rfl | rfl | rfl<;>simp
 unfold IL;have e1:i64.wrap (to-(a:Int))=to-a:=Bv;have e2:i64.wrap (to-(a:Int)-1)=to-a-1:=Bv;have e3:i64.wrap (p.data+p.ptrs)=p.data+p.ptrs:=Bv;obtain⟨kind,off,data,ptrs,code,count,sg,dbl⟩:=p;simp only at d0 d1 k0 k1 e3;by_cases h1:kind=1
 ·subst h1;by_cases h2:data+ptrs=0
  ·have hq:VW ⟨1,off,data,ptrs,code,count,sg,dbl⟩ a to=⟨1,-1,data,ptrs,code,count,sg,dbl⟩:=by simp[VW,h2]
   rw[h2] at e3;simp[e1,e2,e3,h2,Aa,Pt.a];rw[hq];exact T8 (t:=.any) ha (fun p=>by simp) (by simp)
  ·have hq:VW ⟨1,off,data,ptrs,code,count,sg,dbl⟩ a to=⟨1,to-a-1,data,ptrs,code,count,sg,dbl⟩:=by simp[VW,h2]
   simp[e1,e2,e3,h2,Aa,Pt.a];rw[hq];exact T8 (t:=.any) ha (fun p=>by simp) (by simp)
 ·have hq:VW ⟨kind,off,data,ptrs,code,count,sg,dbl⟩ a to=⟨kind,to-a-1,data,ptrs,code,count,sg,dbl⟩:=by simp[VW,h1]
  simp[e1,e2,e3,h1,Aa,Pt.a];rw[hq];exact T8 (t:=.any) ha (fun p=>by simp) (by simp)
theorem tE {at_ to w k:Int} (h0:0≤at_) (h1:at_≤200000) (h2:0≤to) (h3:to≤200000) (hlt:at_<to) (w0:0≤w) (w1:w<65536) (k0:0≤k) (k1:k<65536):Qp (VW ⟨1,0,w,k,0,0,0,false⟩ at_ to)=true:=by
 rw[Us];by_cases hz:w+k=0
 ·have e:VW ⟨1,0,w,k,0,0,0,false⟩ at_ to=⟨1,-1,w,k,0,0,0,false⟩:=by simp[VW,hz]
  rw[e];simp[right];omega
 ·have e:VW ⟨1,0,w,k,0,0,0,false⟩ at_ to=⟨1,to-at_-1,w,k,0,0,0,false⟩:=by simp[VW,hz]
  rw[e];simp[right];omega
theorem TY {at_ to c n:Int} (h0:0≤at_) (h1:at_≤200000) (h2:0≤to) (h3:to≤200000) (c0:0≤c) (c1:c≤7) (n0:0≤n) (n1:n<536870912):Qp (VW ⟨2,0,0,0,c,n,0,false⟩ at_ to)=true:=by
 rw[Us];have e:VW ⟨2,0,0,0,c,n,0,false⟩ at_ to=⟨2,to-at_-1,0,0,c,n,0,false⟩:=by simp[VW]
 rw[e];simp[right];omega
@[simp] theorem Agf {H:Hp} {s:Nat} {f:Bool} {xs:List A}:Hi H s (.sl f xs)=if Ge s xs=true then some xs else none:=rfl
theorem oB:∀ (ws:List Int) (b:Nat) (l:List Int),b+ws.length≤l.length→Mr b ws l=l.take b++ws++l.drop (b+ws.length)
 |[],b,l,h=>by simp[Mr]
 |x::ws,b,l,h=>by
  simp only[List.length_cons] at h;rw[Mr,oB ws (b+1) _ (by simp;omega)];have e1:(l.set b x).take (b+1)=l.take b++[x]:=by
   rw[Ij (by simp;omega),List.getElem_set_self,List.take_set_of_le (Cb _)]
  have e2:(l.set b x).drop (b+1+ws.length)=l.drop (b+(ws.length+1)):=by
   rw[List.drop_set_of_lt (by omega)];congr 1;omega
  rw[e1,e2];simp
theorem gT (t:T):Hm (fun _=>tX t):=Mn rfl fun y hy=>by
 simp at hy;rcases hy with rfl | rfl | rfl<;>rfl
theorem faW (t:T) (a:Nat):FamL (fun r=>[.pob [r] 1 0,nv a,tX t]):=Ag Bi (Ag Ax (Ag (gT t) Ap))
theorem AkD (t:T) (a w:Nat):FamL (fun r=>[.pob [r] 1 0,nv a,nv w,tX t]):=Ag Bi (Ag Ax (Ag Ax (Ag (gT t) Ap)))
def WVS (t:T):Prop:=Cr t→∀ (S:Cp) (a:Nat),a<S.W.length→(S.W.length:Int)+Co t≤131072 →
 ∃ v':Nat,BR Tryz.prog 76 (fun q=>[.pob [q] 1 0,nv a,tX t]) (pf S) (fun _=>bv true) (pf ⟨v',Dr t a S.W⟩)
def WKS (t:T):Prop:=(∀ u,u ∈ t.kids→Cr u)→∀ (S:Cp) (a:Nat),a+t.kids.length≤S.W.length→(S.W.length:Int)+Cm t.kids≤131072 →
 ∃ v':Nat,BR Tryz.prog 128 (fun q=>[.pob [q] 1 0,nv a,tX t]) (pf S) (fun _=>bv true) (pf ⟨v',CU t.kids a S.W⟩)
def WFS (t:T):Prop:=(∀ u,u ∈ t.kids→Cr u)→∀ (S:Cp) (a w:Nat),t.words.length≤w→w≤131072→a+w+t.kids.length≤S.W.length→(S.W.length:Int)+Cm t.kids≤131072 →
 ∃ v':Nat,BR Tryz.prog 126 (fun q=>[.pob [q] 1 0,nv a,nv w,tX t]) (pf S) (fun _=>bv true) (pf ⟨v',CU t.kids (a+w) (Mr a t.words S.W)⟩)
theorem p7 (t:T) (a:Nat) (l:List Int):l.length≤(Dr t a l).length:=(MI t).1.2 a l
theorem ym {t:T} {a:Nat} (hk:t.kids.length≤200000) (ih:∀ c,c ∈ t.kids→WVS c) (hlay:∀ u,u ∈ t.kids→Cr u):∀ (j i:Nat) (S:Cp),i+j=t.kids.length→a+t.kids.length≤S.W.length→(S.W.length:Int)+Cm (t.kids.drop i)≤131072 →
  ∃ v':Nat,∀ {n0:Nat} {w0:World} {I0:Nat→Prop} {M0:Nm→Nat→Prop} {m0:Mu} {Q:Exit→Sta→Prop} (H:Hp),(∀ p,H (0::p)=gg 0 S p) →
   (∀ q H',(∀ p,H' (0::p)=gg 0 ⟨v',CU (t.kids.drop i) (a+i) S.W⟩ p)→Q (.exit 0) ⟨lk [(0,.pob [0] 1 0),(1,nv a),(10,BV t.kids),(11,nv t.kids.length),(12,nv t.kids.length),(13,bv q)],H'⟩) →
   LoopC (FW Tryz.prog w0 I0 M0 n0 m0) DL Q ⟨lk [(0,.pob [0] 1 0),(1,nv a),(10,BV t.kids),(11,nv t.kids.length),(12,nv i)],H⟩:=by
 intro j;induction j with
 |zero=>
  intro i S hi ha hS;have:i=t.kids.length:=by omega
  subst this;have hd:t.kids.drop t.kids.length=[]:=List.drop_eq_nil_of_le (Cb _);refine⟨S.v,fun H hH hq=>?_⟩;rw[hd] at hq;refine Ad Ai DL.eq_1 ?_;simp;exact hq _ H (by simpa using hH)
 |succ j ihj=>
  intro i S hi ha hS;have hlt:i<t.kids.length:=by omega
  have hdr:t.kids.drop i=t.kids[i]::t.kids.drop (i+1):=List.drop_eq_getElem_cons hlt;have hm:=A5 hlt;have hle:=p7 t.kids[i] (a+i) S.W;have hlen:=(Pg _).1 (hlay _ hm) (a+i) S.W;have hrest:=DZ (ts:=t.kids.drop (i+1)) fun u hu=>hlay u (QB hu);rw[hdr] at hS ⊢;simp only[XY,Hb] at hS ⊢;obtain⟨v1,q4⟩:=ih _ hm (hlay _ hm) S (a+i) (by omega) (by omega);obtain⟨v2,p4⟩:=ihj (i+1) ⟨v1,Dr t.kids[i] (a+i) S.W⟩ (by omega) (by simp only;omega) (by simp only;omega);have hn0:=(OQ t.kids[i]).1 (hlay _ hm);have ei:=AM i;have ea:i64.wrap ((a:Int)+i)=((a+i:Nat):Int):=Bv;refine⟨v2,fun H hH hq=>?_⟩;refine Ad Ai DL.eq_1 ?_;simp[hlt,ea,Aa];refine AA 0 q4 (fun p=>by simp[Aa,hH]) (by simp) (by simp) ?_;simp[ei];exact p4 _ (fun p=>by simp) hq
theorem YH {t:T} (ih:∀ c,c ∈ t.kids→WVS c):WKS t:=fun hlay S a ha hS=>by
 have hn:=DZ hlay;obtain⟨v',q4⟩:=ym (t:=t) (a:=a) (by omega) ih hlay t.kids.length 0 S (by omega) ha (by simpa using hS);refine⟨v',Ay PM (by simp) (faW t a) Ax fun w0 I0 M0 m0=>?_⟩;unfold Jq;simp;refine q4 _ (fun p=>by simp) (fun q H' hH=>?_);simp;exact AJ rfl rfl (by simpa using hH)
theorem bH {t:T} (ih:∀ c,c ∈ t.kids→WVS c):WFS t:=fun hlay S a w hw hw2 ha hS=>by
 obtain⟨v',q4⟩:=YH ih hlay ⟨S.v,Mr a t.words S.W⟩ (a+w) (by simpa using ha) (by simpa using hS);have hn:=DZ hlay;refine⟨v',Ay LF (by simp) (AkD t a w) Ax fun w0 I0 M0 m0=>?_⟩;have ew:i64.wrap ((a:Int)+w)=((a+w:Nat):Int):=Bv;have ha1:a≤S.W.length:=by omega
 have ha2:(a:Int)≤S.W.length:=by omega
 have hmin:min t.words.length (S.W.length-a)=t.words.length:=by omega
 have hfit:a+(S.W.length-a)≤S.W.length:=by omega
 unfold Gs;simp[ha1,ha2,hmin,hfit,ew];refine AA 0 q4 (fun p=>?_) (by simp) (by simp) ?_
 ·simp only[DT,if_true,tJ];refine SC ?_ (fun h1=>?_)
  ·have e:List.take t.words.length (t.words.map uv)=t.words.map uv:=BO (by simp);simp[oB _ _ _ (show a+t.words.length≤S.W.length by omega),List.map_take,List.map_drop,e]
  ·by_cases h0:p=[]
   ·subst h0;simp
   ·exact Sj h0 h1
 simp;exact AJ rfl rfl (by simp)
theorem Acx (n w k:Nat) (hn:n<536870912) (hw:w<65536) (hk:k<65536):Qp ⟨1,n,w,k,0,0,0,false⟩ = !decide ((n:Int)+((w:Int)+k)=0):=by
 rw[Us];by_cases hz:n+(w+k)=0
 ·obtain rfl:n=0:=by omega
  obtain rfl:w=0:=by omega
  obtain rfl:k=0:=by omega
  simp[right]
 ·have h1:¬ ((n:Int)+((w:Int)+k)=0):=by omega
  have h2:(n:Int) ≠ 0∨(w:Int) ≠ 0∨(k:Int) ≠ 0:=by omega
  unfold right;rw[if_neg (by simp),if_pos rfl];simp only[h1,decide_false,Bool.not_false];exact decide_eq_true ⟨by omega,by omega,by omega,by omega,by omega,by omega,trivial,h2⟩
theorem yq {t:T} (hk:t.kids.length≤536870912) (ih:∀ c,c ∈ t.kids→WFS c) (hlay:∀ c,c ∈ t.kids→∀ u,u ∈ c.kids→Cr u) {w long to:Nat} {x:A} {v1:VOb} (hw:∀ c,c ∈ t.kids→c.words.length≤w∧w+c.kids.length≤long) (hw2:w≤65536):∀ (j i:Nat) (S:Cp),i+j=t.kids.length→to+1+t.kids.length*long≤S.W.length→(S.W.length:Int)+E9 (t.kids.drop i)≤131072 →
  ∃ v':Nat,∀ {n0:Nat} {w0:World} {I0:Nat→Prop} {M0:Nm→Nat→Prop} {m0:Mu} {Q:Exit→Sta→Prop} (H:Hp),(∀ p,H (0::p)=gg 0 S p)→H [1]=v1 →
   (∀ q H',(∀ p,H' (0::p)=gg 0 ⟨v',cpC w long (t.kids.drop i) (to+1+i*long) S.W⟩ p)→H' [1]=v1→Q (.exit 0) ⟨lk [(0,.pob [0] 1 0),(5,.pob [1] 1 0),(7,nv w),(9,nv long),(11,x),(12,nv to),(62,BV t.kids),(63,nv t.kids.length),(64,nv t.kids.length),(65,bv q)],H'⟩) →
   LoopC (FW Tryz.prog w0 I0 M0 n0 m0) CD Q ⟨lk [(0,.pob [0] 1 0),(5,.pob [1] 1 0),(7,nv w),(9,nv long),(11,x),(12,nv to),(62,BV t.kids),(63,nv t.kids.length),(64,nv i)],H⟩:=by
 intro j;induction j with
 |zero=>
  intro i S hi ha hS;have:i=t.kids.length:=by omega
  subst this;have hd:t.kids.drop t.kids.length=[]:=List.drop_eq_nil_of_le (Cb _);refine⟨S.v,fun H hH h1 hq=>?_⟩;rw[hd] at hq;refine Ad Ai CD.eq_1 ?_;simp;exact hq _ H (by simpa[cpC] using hH) h1
 |succ j ihj=>
  intro i S hi ha hS;have hlt:i<t.kids.length:=by omega
  have hdr:t.kids.drop i=t.kids[i]::t.kids.drop (i+1):=List.drop_eq_getElem_cons hlt;have hm:=A5 hlt;have hil:(i+1)*long≤t.kids.length*long:=Nat.mul_le_mul_right _ (by omega);rw[Nat.add_mul,Nat.one_mul] at hil;obtain⟨w1,w2⟩:=hw _ hm;have hlen:=j8 (hlay _ hm) (to+1+i*long+w) (Mr (to+1+i*long) t.kids[i].words S.W);rw[OL] at hlen;have hrest:0≤E9 (t.kids.drop (i+1)):=Qa fun u hu=>hlay u (QB hu);have hk0:=DZ (hlay _ hm);rw[hdr] at hS ⊢;simp only[Oe,cpC] at hS ⊢;obtain⟨v1',q4⟩:=ih _ hm (hlay _ hm) S (to+1+i*long) w w1 (by omega) (by omega) (by omega);obtain⟨v2,p4⟩:=ihj (i+1) ⟨v1',CU t.kids[i].kids (to+1+i*long+w) (Mr (to+1+i*long) t.kids[i].words S.W)⟩ (by omega) (by simp only;omega) (by simp only;omega);rw[show to+1+(i+1)*long=to+1+i*long+long from by rw[Nat.add_mul,Nat.one_mul];omega] at p4;have ei:=AM i;have em:i64.wrap ((i:Int)*long)=((i*long:Nat):Int):=by
   rw[Int.natCast_mul];have:(i:Int)*long=((i*long:Nat):Int):=by rw[Int.natCast_mul]
   exact Av (by omega) (by omega)
  have et:=AM to;have ea:i64.wrap ((to:Int)+1+(i:Int)*long)=(to:Int)+1+(i:Int)*long:=by
   have:(i:Int)*long=((i*long:Nat):Int):=by rw[Int.natCast_mul]
   exact Av (by omega) (by omega)
  refine⟨v2,fun H hH h1 hq=>?_⟩;refine Ad Ai CD.eq_1 ?_;simp[hlt,em,et,ea,Aa];refine AA 0 q4 (fun p=>by simp[Aa,hH]) (by simp) (by simp) ?_;simp[ei];exact p4 _ (fun p=>by simp) (by simp[Aa,h1]) hq
theorem mE {t:T} (hk:t.kind=9) (hok:Cr t) (ih:∀ c,c ∈ t.kids→WFS c) (S:Cp) (a:Nat) (ha:a<S.W.length) (hS:(S.W.length:Int)+Co t≤131072) :
  ∃ v':Nat,BR Tryz.prog 127 (fun q=>[.pob [q] 1 0,nv a,tX t]) (pf S) (fun _=>bv true) (pf ⟨v',Dr t a S.W⟩):=by
 obtain⟨k,ws,ks⟩:=t;simp at hk;subst hk;simp only[T.kids_mk] at ih;cases hok with
 |data k w ks h1 h2=>exact absurd h2 (by decide)
 |comp w ks hn hsz hlay=>
  have hbound:=I8 (ts:=ks) (w:=65535) (k:=65535) fun u hu=>by have:=hsz u hu;omega
  have hcond:∀ c,c ∈ ks→c.words.length≤An ks∧An ks+c.kids.length≤An ks+Aq ks:=fun c hc=>by
   have h1:=DI hc;have h2:=Ek hc;omega
  have hcond2:∀ c,c ∈ ks→c.words.length≤An ks∧c.kids.length≤Aq ks:=fun c hc=>⟨DI hc,Ek hc⟩;have hLL:0≤E9 ks:=Qa hlay;have hfr:=U1 (.mk 9 ws ks) (by simp;omega);simp only[T.kids_mk] at hfr;have eT:Co (.mk 9 ws ks)=1+ks.length*((An ks:Int)+Aq ks)+E9 ks:=by
   rw[Cj];simp
  have hlay9:∀ W,Dr (.mk 9 ws ks) a W=IP (An ks) (Aq ks) ks (W.length+1) (W.set a (DH a W.length 1 (7+8*(ks.length*(An ks+Aq ks):Nat)))++[4*(ks.length:Int)+4294967296*((An ks:Int)+65536*Aq ks)]++Ha (An ks) (Aq ks) ks):=fun W=>by
   rw[B8,if_neg (by decide),if_neg (by decide),if_neg (by decide),if_pos rfl]
  have hl1:=fun x v1=>yq (t:=.mk 9 ws ks) (by simp;omega) ih hlay (w:=An ks) (long:=An ks+Aq ks) (to:=S.W.length) (x:=x) (v1:=v1) hcond (by omega) ks.length 0;have hc2:=wN (w:=An ks) (k:=Aq ks) ks;have hf2:=ad (w:=An ks) (k:=Aq ks) ks;rw[eT] at hS;simp only[hlay9];clear hlay9 eT hcond;generalize An ks=w at *;generalize Aq ks=k at *;have hnl:ks.length*(w+k)≤536870912*131070:=Nat.mul_le_mul (by omega) (by omega);have hcast:(ks.length:Int)*((w:Int)+k)=((ks.length*(w+k):Nat):Int):=by rw[Int.natCast_mul,Int.natCast_add]
  rw[hcast] at hS;have hzero:ks.length+(w+k)=0→ks.length*(w+k)=0:=fun h=>by rw[show ks.length=0 from by omega];simp
  generalize hL:ks.length*(w+k)=L at *;have e1:i64.wrap ((w:Int)+k)=(w:Int)+k:=Bv;have e2:i64.wrap ((ks.length:Int)*((w:Int)+k))=(L:Int):=by rw[hcast];exact Av (by omega) (by omega)
  have e3:i64.wrap (1+(L:Int))=((1+L:Nat):Int):=(Av (by omega) (by omega)).trans (by omega);have e4:i64.wrap ((ks.length:Int)+((w:Int)+k))=(ks.length:Int)+((w:Int)+k):=Bv;have hG:=J8 S (by omega) (1+L) (by omega);have hE:=UW ⟨1,ks.length,w,k,0,0,0,false⟩;have htag:EU ⟨1,ks.length,w,k,0,0,0,false⟩=4*(ks.length:Int)+4294967296*((w:Int)+65536*k):=by
   unfold EU;simp only;rw[if_pos trivial,if_pos (by omega)];omega
  have hB:=Acx ks.length w k hn (by omega) (by omega);rw[htag,hB] at hE;have hP:=KU ⟨S.v+1,(S.W++List.replicate (1+L) 0).set S.W.length (4*(ks.length:Int)+4294967296*((w:Int)+65536*k))⟩ (a:=a) (by simp;omega) (by omega) (to:=(S.W.length:Int)) (by omega) (by omega) ⟨2,0,0,0,7,L,0,false⟩ (by simp) (by simp) (by simp) (by simp);rw[WO (by omega) (by omega) (by omega) (by omega) (by omega) (by omega) (by omega) (by omega),TY (by omega) (by omega) (by omega) (by omega) (by omega) (by omega) (by omega) (by omega)] at hP;have hW3:((S.W++List.replicate (1+L) 0).set S.W.length (4*(ks.length:Int)+4294967296*((w:Int)+65536*k))).set a (DH a S.W.length 1 (7+8*(L:Int)))=(S.W.set a (DH a S.W.length 1 (7+8*(L:Int)))++[4*(ks.length:Int)+4294967296*((w:Int)+65536*k)])++List.replicate L 0:=by
   rw[List.set_append_right _ _ (Cb _),Nat.sub_self,Nat.add_comm 1 L,List.replicate_succ,List.set_cons_zero,List.set_append_left _ _ ha];simp
  simp only at hP;rw[hW3] at hP;generalize hTg:4*(ks.length:Int)+4294967296*((w:Int)+65536*k)=Tg at *;have hTz:(ks.length:Int)+((w:Int)+k)=0→Tg=0:=fun h=>by omega
  obtain⟨v',q4⟩:=hl1 (bv (!decide ((ks.length:Int)+((w:Int)+k)=0))) ⟨1,.cells (tL (.mk 9 ws ks))⟩ ⟨S.v+1,(S.W.set a (DH a S.W.length 1 (7+8*(L:Int)))++[Tg])++List.replicate L 0⟩ (by simp) (by simp;omega) (by simp;omega);simp only[List.drop_zero,Nat.zero_mul,Nat.add_zero,T.kids_mk] at q4;refine⟨v',?_⟩;have hWe:cpC w (w+k) ks (S.W.length+1) ((S.W.set a (DH a S.W.length 1 (7+8*(L:Int)))++[Tg])++List.replicate L 0)=IP w k ks (S.W.length+1) (S.W.set a (DH a S.W.length 1 (7+8*(L:Int)))++[Tg]++Ha w k ks):=by
   rw[hc2 _ _ hcond2 (by simp[hL];omega)];have:=hf2 (S.W.set a (DH a S.W.length 1 (7+8*(L:Int)))++[Tg]) (fun u hu=>by have:=(hcond2 u hu).1;omega);simp only[List.length_append,List.length_set,List.length_singleton,hL] at this;rw[this]
  rw[hWe] at q4;refine Ay LL (by simp) (faW _ a) Ax fun w0 I0 M0 m0=>?_;unfold GI;simp;refine Ae hfr (by simp) ?_;simp[e1];refine Ae hE (by simp) ?_;have fin:∀ H:Hp,(∀ p,H (0::p)=gg 0 S p)→H [1]=⟨1,.cells (tL (.mk 9 ws ks))⟩→WPC (FW Tryz.prog w0 I0 M0 90 m0) DG (R4 (FW Tryz.prog w0 I0 M0 90 m0) [.tmp 6] 1 (bv true) (ov 0 (gg 0 ⟨v',IP w k ks (S.W.length+1) (S.W.set a (DH a S.W.length 1 (7+8*(L:Int)))++[Tg]++Ha w k ks)⟩) (FA [])))
    ⟨lk [(0,.pob [0] 1 0),(1,nv a),(5,.pob [1] 1 0),(7,nv w),(9,nv (w+k)),(10,uv Tg),(11,bv (!decide ((ks.length:Int)+((w:Int)+k)=0)))],H⟩:=fun H hH h1=>by
   unfold DG;have hlt1:(S.W.length:Int)<S.W.length+(1+(L:Int)):=by omega
   have hget:(List.map uv S.W++List.replicate (1+L) (uv 0))[S.W.length]? = some (uv 0):=by
    rw[List.getElem?_append_right (by simp),Nat.add_comm 1 L,List.replicate_succ];simp
   simp[h1,e2,e3];refine AA 0 hG (fun p=>by simp[hH]) (by simp) (by simp) ?_;simp[Aa,hlt1,hget,h1,e2];refine AA 0 hP (fun p=>?_) (by simp) (by simp) ?_
   ·simp only[DT,if_true,tJ];refine SC ?_ (fun h1=>?_)
    ·simp[List.map_set]
    ·by_cases h0:p=[]
     ·subst h0;simp
     ·exact Sj h0 h1
   simp[h1,Aa];refine q4 _ (fun p=>by simp) (by simp[Aa,h1]) (fun q H' hH' h1'=>?_);simp[h1',e4];exact AJ rfl rfl (by simpa using hH')
  by_cases hz:(ks.length:Int)+((w:Int)+k)=0
  ·have hT0:=hTz hz;subst hT0;simp[hz];have:=fin (ov 0 (gg 0 S) (FA [([1],⟨1,.cells (tL (.mk 9 ws ks))⟩)])) (fun p=>by simp) (by simp);simp[hz] at this;exact this
  ·simp[hz];have:=fin (ov 0 (gg 0 S) (FA [([1],⟨1,.cells (tL (.mk 9 ws ks))⟩)])) (fun p=>by simp) (by simp);simp[hz] at this;exact this
section
variable {n0:Nat} {w0:World} {I0:Nat→Prop} {M0:Nm→Nat→Prop} {m0:Mu} {Q:Exit→Sta→Prop}
theorem xd {t:T} {a:Nat} {c:A} {v0:Nm→VOb} {v1:VOb} (hl:t.kids.length≤536870912) (hw:∀ c,c ∈ t.kids→∃ x,c.words=[x]):∀ (m i u:Nat) (H:Hp),i+m=t.kids.length→(∀ p,H (0::p)=v0 p)→H [1]=v1→H [3]=⟨u,.arr 1 ((t.kids.take i).map (uv ∘ hd))⟩ →
  (∀ q u' H',(∀ p,H' (0::p)=v0 p)→H' [1]=v1→H' [3]=⟨u',.arr 1 (t.kids.map (uv ∘ hd))⟩→Q (.exit 1) ⟨lk [(0,.pob [0] 1 0),(1,nv a),(5,.pob [1] 1 0),(9,c),(10,.osl [3] u' 1 0 t.kids.length),(88,BV t.kids),(89,nv t.kids.length),(90,nv t.kids.length),(91,bv q)],H'⟩) →
  LoopC (FW Tryz.prog w0 I0 M0 n0 m0) DX Q ⟨lk [(0,.pob [0] 1 0),(1,nv a),(5,.pob [1] 1 0),(9,c),(10,.osl [3] u 1 0 i),(88,BV t.kids),(89,nv t.kids.length),(90,nv i)],H⟩:=by
 intro m;induction m with
 |zero=>
  intro i u H hi h0 h1 h3 hq;have:i=t.kids.length:=by omega
  subst this;refine Ad Ai DX.eq_1 ?_;simp;exact hq _ u H h0 h1 (by rw[h3];simp)
 |succ m ihm=>
  intro i u H hi h0 h1 h3 hq;have hlt:i<t.kids.length:=by omega
  have ei:=AM i;obtain⟨x,hx⟩:=hw _ (A5 hlt);have hwd:Gk t.kids[i] 0=hd t.kids[i]:=by simp[Gk,hd,hx]
  have hrow:=Hz (f:=uv ∘ hd) hlt rfl;simp only[Function.comp] at hrow;refine Ad Ai DX.eq_1 ?_;simp[hlt,Aa];refine Ae (I6 t.kids[i] 0) rfl ?_;rw[hwd];have hn1:((i:Int)+1)*8≤140737488355328:=by omega
  have hn2:(i+1)*8≤140737488355328:=by omega
  simp[Aa,h3,hn1,hn2,ei];rw[hrow];refine⟨by omega,?_⟩;exact ihm (i+1) (u+1) _ (by omega) (fun p=>by simp[Aa,h0]) (by simp[Aa,h1]) (by simp[Aa]) hq
end
theorem oe:∀ t:T,WVS t∧WFS t:=by
 refine T.ind fun k w ks ih=>?_;have hF:WFS (.mk k w ks):=bH fun c hc=>(ih c hc).1;have hK:WKS (.mk k w ks):=YH fun c hc=>(ih c hc).1;refine⟨fun hok S a ha hS=>?_,hF⟩;have h0:=(OQ (.mk k w ks)).1 hok;by_cases k9:k=9
 ·subst k9;obtain⟨v',q4⟩:=mE rfl hok (fun c hc=>(ih c hc).2) S a ha hS;refine⟨v',Ay Dc (by simp) (faW _ a) Ax fun w0 I0 M0 m0=>?_⟩;unfold Cw;simp;refine AA 0 q4 (fun p=>by simp) (by simp) (by simp) ?_;simp;exact AJ rfl rfl (by simp)
 cases hok with
 |null=>
  refine⟨S.v,Ay Dc (by simp) (faW _ a) Ax fun w0 I0 M0 m0=>?_⟩;unfold Cw;simp;rw[B8,if_pos rfl];exact AJ rfl rfl (by simp)
 |comp=>exact absurd rfl k9
 |str w ks b1 b2 hl=>
  have hn:=DZ hl;rw[Cj,if_pos rfl] at hS;have hG:=J8 S (by omega) (w.length+ks.length) (by omega);have hP:=KU ⟨S.v+1,S.W++List.replicate (w.length+ks.length) 0⟩ (a:=a) (by simp;omega) (by omega) (to:=(S.W.length:Int)) (by omega) (by omega) ⟨1,0,w.length,ks.length,0,0,0,false⟩ (by simp) (by simp;omega) (by simp) (by simp;omega);rw[Aak (by omega) (by omega) (by omega) (by omega) (by omega) (by omega) (by omega) (by omega),tE (by omega) (by omega) (by omega) (by omega) (by omega) (by omega) (by omega) (by omega) (by omega)] at hP;simp only at hP;rw[List.set_append_left _ _ ha] at hP;generalize hX:S.W.set a (DH a (if (w.length:Int)+ks.length=0 then (a:Int) else S.W.length) 0 (w.length+65536*ks.length))=X at hP;have hXl:X.length=S.W.length:=by rw[← hX];simp
  have hsw:=Xo w X (List.replicate (w.length+ks.length) 0) (by simp);have hdrop:List.drop w.length (List.replicate (w.length+ks.length) (0:Int))=List.replicate ks.length 0:=by simp
  rw[hXl,hdrop] at hsw;obtain⟨v',q4⟩:=hF hl ⟨S.v+1,X++List.replicate (w.length+ks.length) 0⟩ S.W.length w.length (by simp) (by omega) (by simp;omega) (by simp;omega);simp only[T.words_mk,T.kids_mk] at q4;rw[hsw] at q4;have hlay:Dr (.mk 1 w ks) a S.W=CU ks (S.W.length+w.length) (X++w++List.replicate ks.length 0):=by
   rw[B8,if_neg (by decide),if_pos rfl,← hX];have hz:((w.length:Int)+ks.length=0)=(w.length+ks.length=0):=by
    rw[eq_iff_iff];omega
   simp only[hz]
  rw[hlay];have ew:i64.wrap ((w.length:Int)+ks.length)=((w.length+ks.length:Nat):Int):=Bv;refine⟨v',Ay Dc (by simp) (faW _ a) Ax fun w0 I0 M0 m0=>?_⟩;unfold Cw;simp[ew];refine AA 0 hG (fun p=>by simp) (by simp) (by simp) ?_;simp;refine AA 0 hP (fun p=>by simp) (by simp) (by simp) ?_;simp;rw[AB];simp;refine AA 0 q4 (fun p=>by simp) (by simp) (by simp) ?_;simp;exact AJ rfl rfl (by simp)
 |ptrs w ks b1 hl=>
  have hn:=DZ hl;rw[Cj,if_neg (by decide),if_pos rfl] at hS;have hG:=J8 S (by omega) ks.length (by omega);have hP:=KU ⟨S.v+1,S.W++List.replicate ks.length 0⟩ (a:=a) (by simp;omega) (by omega) (to:=(S.W.length:Int)) (by omega) (by omega) ⟨2,0,0,0,6,ks.length,0,false⟩ (by simp) (by simp) (by simp) (by simp);rw[WO (by omega) (by omega) (by omega) (by omega) (by omega) (by omega) (by omega) (by omega),TY (by omega) (by omega) (by omega) (by omega) (by omega) (by omega) (by omega) (by omega)] at hP;simp only at hP;rw[List.set_append_left _ _ ha] at hP;obtain⟨v',q4⟩:=hK hl ⟨S.v+1,S.W.set a (DH a S.W.length 1 (6+8*ks.length))++List.replicate ks.length 0⟩ S.W.length (by simp) (by simp;omega);simp only[T.kids_mk] at q4;have hlay:Dr (.mk 8 w ks) a S.W=CU ks S.W.length (S.W.set a (DH a S.W.length 1 (6+8*ks.length))++List.replicate ks.length 0):=by
   rw[B8,if_neg (by decide),if_neg (by decide),if_pos rfl]
  rw[hlay];refine⟨v',Ay Dc (by simp) (faW _ a) Ax fun w0 I0 M0 m0=>?_⟩;unfold Cw;simp;refine AA 0 hG (fun p=>by simp) (by simp) (by simp) ?_;simp;refine AA 0 hP (fun p=>by simp) (by simp) (by simp) ?_;simp;rw[AB];simp;refine AA 0 q4 (fun p=>by simp) (by simp) (by simp) ?_;simp;exact AJ rfl rfl (by simp)
 |data k w ks h1 h2 hn hc=>
  have hsz:Co (.mk k w ks)=Dw (k-2) ks.length:=by
   rw[Cj,if_neg (by omega),if_neg (by omega),if_pos ⟨h1,h2⟩]
  have hlay:Dr (.mk k w ks) a S.W=S.W.set a (DH a S.W.length 1 (k-2+8*ks.length))++MS (k-2) (ks.map hd):=by
   rw[B8,if_neg (by omega),if_neg (by omega),if_neg (by omega),if_neg (by omega)]
  have hpl:=K8 (k-2) (ks.map hd);have hr0:=SE (k-2) ks.length;rw[List.length_map] at hpl;rw[hsz] at hS h0;have hfit:∀ x,x ∈ ks.map hd→BI x∧GA (k-2) x=true:=fun x hx=>by
   obtain⟨c,hc',rfl⟩:=List.mem_map.1 hx;obtain⟨y,y1,y2,y3,y4⟩:=hc c hc';have:hd c=y:=by simp[hd,y1]
   rw[this];exact⟨⟨y2,y3⟩,y4⟩
  have hPut:=qT (c:=k-2) (by omega) (by omega) (ns:=ks.map hd) (by simp;omega) hfit;rw[hlay];generalize hZ:MS (k-2) (ks.map hd)=Z at *;have hZl:(Z.length:Int)=Dw (k-2) ks.length:=by omega
  have hG:=J8 S (by omega) Z.length (by omega);have hP:=KU ⟨S.v+1,S.W++Z⟩ (a:=a) (by simp;omega) (by omega) (to:=(S.W.length:Int)) (by omega) (by omega) ⟨2,0,0,0,k-2,ks.length,0,false⟩ (by simp) (by simp) (by simp) (by simp);rw[WO (by omega) (by omega) (by omega) (by omega) (by omega) (by omega) (by omega) (by omega),TY (by omega) (by omega) (by omega) (by omega) (by omega) (by omega) (by omega) (by omega)] at hP;simp only at hP;rw[List.set_append_left _ _ ha] at hP;have ek:i64.wrap (k-2)=k-2:=Bv;refine⟨S.v+1,ZN Dc (by simp) (faW _ a) Ax fun w0 I0 M0 m0 hM=>?_⟩;unfold Cw;have n0:¬ k=0:=by omega
  have n1:¬ k=1:=by omega
  have n8:¬ k=8:=by omega
  simp[n0,n1,n8,k9,ek];refine LoopC.le (FC 10 [3] 1 (by simp)) ?_;refine LoopC.le (AE [(0,.pob [0] 1 0),(1,nv a),(5,.pob [1] 1 0),(9,iv (k-2)),(10,.osl [3] 1 1 0 0),(88,BV ks),(89,nv ks.length),(90,nv 0)] (by simp[upd])) ?_;refine xd (t:=.mk k w ks) (v0:=gg 0 S) (v1:=⟨1,.cells (tL (.mk k w ks))⟩) (by simp;omega) (fun c hc'=>(hc c hc').imp fun x hx=>hx.1) ks.length 0 1 _ (by simp) (fun p=>by simp[Aa]) (by simp[Aa]) (by simp[Aa]) (fun q u' H' g0 g1 g3=>?_);simp;refine Ef (H5 (d:=[3]) (fun b=>hM 3 [] b (by omega)) 10 (Ff (ks.map hd)) (fun H1 hH=>?_)) (Di ?_)
  ·have:=Cu (H:=H1) (o:=[3]) (u:=u') (n:=ks.length) (sz:=1) (l:=ks) (f:=uv ∘ hd) (by rw[hH,g3];simp) rfl (fun x=>by simp);rw[← List.map_map] at this;exact this
  simp;refine Ae hPut rfl ?_;simp;refine AA 0 hG (fun p=>by simp[Aa,g0]) (by simp) (by simp) ?_;have hle1:(S.W.length:Int)≤S.W.length+Z.length:=by omega
  have hmin:min Z.length (S.W.length+Z.length-S.W.length)=Z.length:=by omega
  have hadd:S.W.length+(S.W.length+Z.length-S.W.length)≤S.W.length+Z.length:=by omega
  have htk:List.take Z.length (Z.map uv)=Z.map uv:=BO (by simp);have hdr:List.drop (S.W.length+Z.length) (S.W.map uv++List.replicate Z.length (uv 0))=[]:=List.drop_eq_nil_of_le (by simp);simp[Aa,hle1,hmin,hadd,g1];rw[AB];simp;refine AA 0 hP (fun p=>?_) (by simp) (by simp) ?_
  ·simp only[DT,if_true,tJ];refine SC ?_ (fun h1=>?_)
   ·rw[htk,hdr];simp
   ·by_cases h0:p=[]
    ·subst h0;simp
    ·exact Sj h0 h1
  simp;exact AJ rfl rfl (by simp)
def He (most:Int) (t:T):Bool:=Aj 64 t&&!decide (t.kind=10)&&decide (Co (Af t)<most)&&decide (Co (Af t)<131072)
def Pd (most:Int) (t:T):List Int:=if He most t=true then Dr (Af t) 0 [0] else []
theorem X3 {t:T} (hw:Bx t) (most:Int) (hsz:Aj 64 t=true→t.kind ≠ 10→Co (Af t)<9223372036854775808) :
  G.Spec Tryz.prog 36 [tX t,iv most] (.tup [Ff (Pd most t),bv (He most t)]):=by
 refine Ah XX (by simp) fun w0 I0=>?_;unfold OS;have no:He most t=false→Pd most t=[]:=fun h=>by simp[Pd,h]
 simp;refine Ae (M5 hw) rfl ?_;by_cases hr:Aj 64 t=true
 ·by_cases h10:t.kind=10
  ·have hf:He most t=false:=by simp[He,h10]
   rw[no hf,hf];simp[hr,h10];exact CY (by simp;exact⟨Au,Ab rfl⟩)
  ·have hlay:=Kd t 64 hr hw h10;have h0:=(OQ (Af t)).1 hlay;have h1:=hsz hr h10;have hS:=m9 (Af t) (IH t hw);rw[Cz,sE t 64 hr] at hS;have hsame:Kz (Co (Af t))=Co (Af t):=Bv;rw[hsame] at hS;simp[hr,h10];refine Ae (FI t hw) rfl ?_;simp;refine CT (L:=[tX (Af t)]) (by simp) hS rfl ?_;generalize hN:Af t=N at *;have hNk:N.kind=t.kind:=by rw[← hN];simp
   by_cases hm:He most t=true
   ·have hW:Pd most t=Dr N 0 [0]:=by simp[Pd,hm,hN]
    rw[hW,hm];simp[He,hN] at hm;obtain⟨⟨_,m1⟩,m2⟩:=hm;have n1:¬ most≤Co N:=by omega
    have n2:¬ 131072≤Co N:=by omega
    simp[n1,n2];refine Ef (B9 (d:=[1]) 0 [1,0] 1 rfl rfl (by simp)) (Di ?_);have hG:=J8 ⟨1,[]⟩ (by simp) 1 (by omega);obtain⟨v',q4⟩:=(oe N).1 hlay ⟨2,[0]⟩ 0 (by simp) (by simp;omega);have hF:∀ H:Hp,H [1]=⟨1,.cells [.osl [1,0] 1 1 0 0]⟩→H [1,0]=⟨1,.arr 1 []⟩→(∀ p,p ≠ []→p ≠ [0]→H (1::p)=⟨0,.none⟩)→∀ p,H (1::p)=(pf ⟨1,[]⟩).F 1 p:=fun H h1 h2 h3 p=>by
     by_cases p0:p=[]
     ·subst p0;rw[h1];simp
     ·by_cases p1:p=[0]
      ·subst p1;rw[h2];simp
      ·rw[h3 p p0 p1]
       match p,p0,p1 with
       |[],h,_=>exact absurd rfl h
       |[0],_,h=>exact absurd rfl h
       |0::a::q,_,_=>rfl
       |(a+1)::q,_,_=>rfl
    simp[Aa];refine AA 1 hG (hF _ (by simp[Aa]) (by simp[Aa]) (fun p h1 h2=>by simp[Aa,Ne.symm h1,h1,h2,Ne.symm h2])) (by simp) (by simp) ?_;simp[Aa];refine⟨by decide,?_⟩;refine AA 1 q4 (fun p=>by simp[Aa]) (by simp[hNk]) (by simp) ?_;simp;refine CY ?_;simp;exact⟨Cu (f:=uv) (by simp) rfl (fun x=>by simp),Ab rfl⟩
   ·have hf:He most t=false:=by simpa using hm
    rw[no hf,hf];simp[He,hN,hr,h10] at hm;by_cases n1:most≤Co N
    ·simp[n1];exact CY (by simp;exact⟨Au,Ab rfl⟩)
    ·have n2:131072≤Co N:=by omega
     simp[n1,n2];exact CY (by simp;exact⟨Au,Ab rfl⟩)
 ·have hf:He most t=false:=by simp[He,hr]
  rw[no hf,hf];simp at hr;simp[hr];exact CY (by simp;exact⟨Au,Ab rfl⟩)
theorem WR {l:List (List Int)} {r:Rf} (hr:Em l r) (hd:Bb r.kind=true):∀ (m i:Nat) (acc:List T) (left:Int),((i+m:Nat):Int)=nk r→(BX (Da l (Eb l) r) m i acc left).2=(left,0)
 |0,i,acc,left,h=>rfl
 |m+1,i,acc,left,h=>by
  have hk:(BQ l r i).2=0:=by
   cases hr with
   |dat c s a n c0 c6 n0 n1 hh=>
    have hn:nk ⟨2+c,s,a,0,0,n,0⟩=n:=by simp only[nk];rw[if_neg (by omega)]
    rw[hn] at h;rw[Ug (by omega) (by omega) (by omega) (by omega) (by omega)]
   |_=>simp[Bb,Rf.zero] at hd
  have hst:Da l (Eb l) r i left=Eb l (BQ l r i).1 left:=by simp[Da,hk]
  rw[BX,hst,if_neg (by simp[Eb])];exact WR hr hd m (i+1) _ _ (by omega)
def fF (u B:Int):Fam:=⟨fun _ p=>if p=[] then ⟨1,.cells [iv u,iv B]⟩ else ⟨0,.none⟩,fun {g δ r r'} hg hd p=>by
  by_cases hp:p=[]
  ·rw[if_pos hp];exact Fam.cells_ren (by simp[A.renL,A.ren])
  ·rw[if_neg hp];rfl,fun {D r} hD p=>by
  by_cases hp:p=[]
  ·rw[if_pos hp];simp[Ob.refs,A.refsL,A.refs]
  ·rw[if_neg hp];trivial⟩
@[simp] theorem Ald {u B:Int} {r:Nat} {p:Nm}:(fF u B).F r p=if p=[] then ⟨1,.cells [iv u,iv B]⟩ else ⟨0,.none⟩:=rfl
theorem Vf {u B n:Int} (u0:0≤u) (u1:u≤B) (B1:B≤1000000) (n0:0≤n) (n1:n≤100000000000000):BR Tryz.prog 138 (fun q=>[.pob [q] 1 0,iv n]) (fF u B) (fun _=>bv (decide (n≤B-u))) (fF (if n≤B-u then u+n else u) B):=by
 refine Ay PC (by simp) (Ag Bi (Ag Ax Ap)) Ax fun w0 I0 M0 m0=>?_;unfold Jp;have e1:i64.wrap (B-u)=B-u:=Bv;by_cases h:n≤B-u
 ·have h':¬ B-u<n:=by omega
  have e2:i64.wrap (u+n)=u+n:=Bv;simp[e1,h',h,e2];refine AJ rfl rfl (fun p=>?_);by_cases hp:p=[]
  ·subst hp;simp[Aa]
  ·simp[Aa,hp]
 ·have h':B-u<n:=by omega
  simp[e1,h',h];exact AJ rfl rfl (fun p=>by simp)
theorem iZ (l:List (List Int)) (r:Rf):G.Spec Tryz.prog 193 [UK l r] (.tup [iv (if r.kind=9 then r.data else 0),iv (if r.kind=9 then r.kids else 0)]):=by
 refine Ah Q6 (by simp) fun w0 I0=>?_;unfold Kx;by_cases h:r.kind=9
 ·simp[h];exact Ab rfl
 ·simp[h];exact Ab rfl
theorem Ut {l:List (List Int)} {r:Rf} (hr:Em l r):G.Spec Tryz.prog 139 [UK l r] (iv (Bd r)):=by
 have hc:=TG hr;refine Ah fP (by simp) fun w0 I0=>?_;unfold Vi;simp;refine Ae (CQ l r) (by simp) ?_;by_cases h1:r.kind=1
 ·have hd:0≤r.data∧r.data<65536∧0≤r.kids∧r.kids<65536:=by cases hr<;>simp[Rf.zero] at h1 ⊢<;>omega
  have e1:i64.wrap (1+r.data)=1+r.data:=Bv;have e2:i64.wrap (1+r.data+r.kids)=1+r.data+r.kids:=Bv;have hw:Py r=r.data:=by simp[Py,h1]
  have hn:nk r=r.kids:=by simp[nk,h1]
  have hcc:Bd r=1+r.data+r.kids:=by simp[Bd,h1]
  rw[hcc];simp[h1];refine CT (L:=[UK l r]) (by simp[h1]) (Kn l r) (by simp) ?_;rw[hw];simp[e1];refine CT (L:=[UK l r]) (by simp[h1]) (Dp l r) (by simp) ?_;rw[hn];simp[e1,e2];exact Ab rfl
 ·simp[h1];refine Ae (CQ l r) (by simp) ?_;by_cases h9:r.kind=9
  ·have hd:0≤r.data∧r.data<65536∧0≤r.kids∧r.kids<65536∧0≤r.count∧r.count<536870912:=by
    cases hr<;>simp[Rf.zero] at h9 ⊢<;>omega
   have hn:nk r=r.count:=by simp[nk,h1]
   have hcc:Bd r=1+r.count*(1+r.data+r.kids):=by simp[Bd,h9]
   rw[hcc] at hc ⊢;have e1:i64.wrap (1+r.data)=1+r.data:=Bv;have e2:i64.wrap (1+r.data+r.kids)=1+r.data+r.kids:=Bv;have e3:i64.wrap (r.count*(1+r.data+r.kids))=r.count*(1+r.data+r.kids):=Bv;have e4:i64.wrap (1+r.count*(1+r.data+r.kids))=1+r.count*(1+r.data+r.kids):=Bv;simp[h9];refine CT (L:=[UK l r]) (by simp[h9]) (iZ l r) (by simp) ?_;simp[h9];refine CT (L:=[UK l r]) (by simp[h9]) (Dp l r) (by simp) ?_;rw[hn];simp[e1,e2,e3,e4];exact Ab rfl
  ·have hcc:Bd r=1+nk r:=by simp[Bd,h9,h1]
   rw[hcc] at hc ⊢;have e1:i64.wrap (1+nk r)=1+nk r:=Bv;simp[h9];refine Ae (Dp l r) (by simp) ?_;simp[e1];exact Ab rfl
def UV (B:Int) (x:T × Int × Int) (u:Int):Prop:=x.2.2=0→u=B-x.2.1
theorem faP (l:List (List Int)) (r:Rf) (d:Int):FamL (fun q=>[.pob [q] 1 0,UK l r,iv d]):=Ag Bi (Ag (oT l r) (Ag Ax Ap))
theorem Aaq (l:List (List Int)) (r:Rf) (i d:Int):FamL (fun q=>[.pob [q] 1 0,UK l r,iv i,iv d]):=Ag Bi (Ag (oT l r) (Ag Ax (Ag Ax Ap)))
def RV (l:List (List Int)) (B:Int) (d:Int) (rec:Rf→Int→T × Int × Int):Prop:=∀ r,Em l r→∀ left:Int,0≤left→left≤B →
 ∃ u:Int,UV B (rec r left) u∧BR Tryz.prog 86 (fun q=>[.pob [q] 1 0,UK l r,iv d]) (fF (B-left) B) (fun _=>iv (rec r left).2.2) (fF u B)
def KV (l:List (List Int)) (B:Int) (d:Int) (r:Rf) (i:Nat) (f:Nat→Int→T × Int × Int):Prop:=∀ left:Int,0≤left→left≤B →
 ∃ u:Int,UV B (f i left) u∧BR Tryz.prog 141 (fun q=>[.pob [q] 1 0,UK l r,nv i,iv d]) (fF (B-left) B) (fun _=>iv (f i left).2.2) (fF u B)
theorem Z0 {l:List (List Int)} (hs:Sg l) {B d:Int} {rec:Rf→Int→T × Int × Int} (hrec:RV l B d rec) {r:Rf} (hr:Em l r) (h9:r.kind ≠ 9) (i:Nat):KV l B d r i (Da l rec r):=fun left l0 l1=>by
 unfold Da;by_cases he:(BQ l r i).2=0
 ·obtain⟨u,hu,hw⟩:=hrec _ (Nf hs.w hr i) left l0 l1;rw[if_neg (by simpa using he)];refine⟨u,hu,?_⟩;refine Ay Fk (by simp) (Aaq l r i d) Ax fun w0 I0 M0 m0=>?_;unfold DV;simp;refine Ae (N0 hs hr i) (by simp) ?_;simp[he];refine Ae (CQ l r) (by simp) ?_;simp[h9];refine AA 0 hw (fun p=>by simp[Aa]) (by simp) (by simp) ?_;simp;exact AJ rfl rfl (fun p=>by simp)
 ·rw[if_pos he];refine⟨B-left,fun h=>absurd h he,?_⟩;refine Ay Fk (by simp) (Aaq l r i d) Ax fun w0 I0 M0 m0=>?_;unfold DV;simp;refine Ae (N0 hs hr i) (by simp) ?_;simp[he];exact AJ rfl rfl (fun p=>by simp)
theorem Wt {f:Nat→Int→T × Int × Int} {m i:Nat} {acc:List T} {left:Int}:BX f (m+1) i acc left=if (f i left).2.2 ≠ 0 then (acc,(f i left).2.1,(f i left).2.2) else BX f m (i+1) (acc++[(f i left).1]) (f i left).2.1:=by rw[BX]
theorem Aaj {l:List (List Int)} {B d:Int} {k:Rf} {n:Nat} (hn:n≤1000000000) {f:Nat→Int→T × Int × Int} (hf:∀ i,i<n→KV l B d k i f) (hlb:∀ i left,0≤left→left≤B→0≤(f i left).2.1∧(f i left).2.1≤B):∀ (m i:Nat) (acc:List T) (left:Int),i+m=n→0≤left→left≤B →
  ∃ u:Int,((BX f m i acc left).2.2=0→u=B-(BX f m i acc left).2.1) ∧
   ∀ {n0:Nat} {w0:World} {I0:Nat→Prop} {M0:Nm→Nat→Prop} {m0:Mu} {Q:Exit→Sta→Prop} (H:Hp),(∀ p,H (0::p)=(fF (B-left) B).F 0 p)→H [2]=⟨1,.cells (paL l k)⟩ →
   ((BX f m i acc left).2.2=0→∀ q H',(∀ p,H' (0::p)=(fF u B).F 0 p)→Q (.exit 0) ⟨lk [(0,.pob [0] 1 0),(3,iv d),(9,.pob [2] 1 0),(30,nv n),(31,nv n),(32,bv q)],H'⟩) →
   ((BX f m i acc left).2.2 ≠ 0→∀ H',(∀ p,H' (0::p)=(fF u B).F 0 p)→Q .ret ⟨lk [(8,iv (BX f m i acc left).2.2)],H'⟩) →
   LoopC (FW Tryz.prog w0 I0 M0 n0 m0) Dq Q ⟨lk [(0,.pob [0] 1 0),(3,iv d),(9,.pob [2] 1 0),(30,nv n),(31,nv i)],H⟩:=by
 intro m;induction m with
 |zero=>
  intro i acc left hi l0 l1;have:i=n:=by omega
  subst this;refine⟨B-left,fun _=>rfl,fun H hH h2 hq _=>?_⟩;refine Ad Ai Dq.eq_1 ?_;simp;exact hq rfl _ H hH
 |succ m ihm=>
  intro i acc left hi l0 l1;have hlt:i<n:=by omega
  have ei:=AM i;obtain⟨u1,hu1,hk⟩:=hf i hlt left l0 l1;obtain⟨b0,b1⟩:=hlb i left l0 l1;unfold UV at hu1;rw[Wt];generalize hx:f i left=x at *;obtain⟨t,lf,e⟩:=x;simp only at hu1 hk b0 b1 ⊢;by_cases he:e=0
  ·subst he;have:=hu1 rfl;subst this;obtain⟨u2,hu2,hw⟩:=ihm (i+1) (acc++[t]) lf (by omega) b0 b1;rw[if_neg (by simp)];refine⟨u2,hu2,fun H hH h2 hq hq2=>?_⟩;refine Ad Ai Dq.eq_1 ?_;simp[hlt,h2];refine AA 0 hk (fun p=>by simp[hH]) (by simp) (by simp) ?_;simp[ei];exact hw _ (fun p=>by simp) (by simp[h2]) hq hq2
  ·rw[if_pos (by simpa using he)];refine⟨u1,fun h=>absurd h he,fun H hH h2 hq hq2=>?_⟩;refine Ad Ai Dq.eq_1 ?_;simp[hlt,h2];refine AA 0 hk (fun p=>by simp[hH]) (by simp) (by simp) ?_;simp[he];exact hq2 he _ (fun p=>by simp)
theorem xK {l:List (List Int)} {B d:Int} {k:Rf} {n:Nat} (hn:n≤1000000000) {f:Nat→Int→T × Int × Int} (hf:∀ i,i<n→KV l B d k i f) (hlb:∀ i left,0≤left→left≤B→0≤(f i left).2.1∧(f i left).2.1≤B):∀ (m i:Nat) (acc:List T) (left:Int),i+m=n→0≤left→left≤B →
  ∃ u:Int,((BX f m i acc left).2.2=0→u=B-(BX f m i acc left).2.1) ∧
   ∀ {n0:Nat} {w0:World} {I0:Nat→Prop} {M0:Nm→Nat→Prop} {m0:Mu} {Q:Exit→Sta→Prop} (H:Hp),(∀ p,H (0::p)=(fF (B-left) B).F 0 p)→H [1]=⟨1,.cells (paL l k)⟩ →
   ((BX f m i acc left).2.2=0→∀ q H',(∀ p,H' (0::p)=(fF u B).F 0 p)→Q (.exit 0) ⟨lk [(0,.pob [0] 1 0),(4,.pob [1] 1 0),(7,iv d),(42,nv n),(43,nv n),(44,bv q)],H'⟩) →
   ((BX f m i acc left).2.2 ≠ 0→∀ H',(∀ p,H' (0::p)=(fF u B).F 0 p)→Q .ret ⟨lk [(6,iv (BX f m i acc left).2.2)],H'⟩) →
   LoopC (FW Tryz.prog w0 I0 M0 n0 m0) De Q ⟨lk [(0,.pob [0] 1 0),(4,.pob [1] 1 0),(7,iv d),(42,nv n),(43,nv i)],H⟩:=by
 intro m;induction m with
 |zero=>
  intro i acc left hi l0 l1;have:i=n:=by omega
  subst this;refine⟨B-left,fun _=>rfl,fun H hH h2 hq _=>?_⟩;refine Ad Ai De.eq_1 ?_;simp;exact hq rfl _ H hH
 |succ m ihm=>
  intro i acc left hi l0 l1;have hlt:i<n:=by omega
  have ei:=AM i;obtain⟨u1,hu1,hk⟩:=hf i hlt left l0 l1;obtain⟨b0,b1⟩:=hlb i left l0 l1;unfold UV at hu1;rw[Wt];generalize hx:f i left=x at *;obtain⟨t,lf,e⟩:=x;simp only at hu1 hk b0 b1 ⊢;by_cases he:e=0
  ·subst he;have:=hu1 rfl;subst this;obtain⟨u2,hu2,hw⟩:=ihm (i+1) (acc++[t]) lf (by omega) b0 b1;rw[if_neg (by simp)];refine⟨u2,hu2,fun H hH h2 hq hq2=>?_⟩;refine Ad Ai De.eq_1 ?_;simp[hlt,h2];refine AA 0 hk (fun p=>by simp[hH]) (by simp) (by simp) ?_;simp[ei];exact hw _ (fun p=>by simp) (by simp[h2]) hq hq2
  ·rw[if_pos (by simpa using he)];refine⟨u1,fun h=>absurd h he,fun H hH h2 hq hq2=>?_⟩;refine Ad Ai De.eq_1 ?_;simp[hlt,h2];refine AA 0 hk (fun p=>by simp[hH]) (by simp) (by simp) ?_;simp[he];exact hq2 he _ (fun p=>by simp)
theorem kK {l:List (List Int)} (hs:Sg l) {B d:Int} {rec:Rf→Int→T × Int × Int} (hrec:RV l B d rec) (hlb:LB l B rec) {r:Rf} (hr:Em l r) (h9:r.kind=9) (i:Nat) (hi:(i:Int)<nk r):KV l B d r i (Da l (Jf l rec) r):=fun left l0 l1=>by
 unfold Da;by_cases he:(BQ l r i).2=0
 ·rw[if_neg (by simpa using he)];have hk1:(BQ l r i).1.kind=1:=Xv h9 (by omega) hi;have hok:=Nf hs.w hr i;have hkin:=AaI hok;have hsp:=N0 hs hr i;have hnk:nk (BQ l r i).1=(BQ l r i).1.kids:=by simp[nk,hk1]
  generalize (BQ l r i).2=e at *;subst he;generalize (BQ l r i).1=k at *;obtain⟨n,hn⟩:∃ n:Nat,k.kids=n:=⟨k.kids.toNat,by omega⟩;have ht:k.kids.toNat=n:=by omega
  unfold Jf;rw[ht];obtain⟨u,hu,hw⟩:=Aaj (n:=n) (by omega) (fun i _=>Z0 hs hrec hok (by omega) i) (fun i left a b=>I3 hs.w hlb hok i left a b) n 0 [] left (by omega) l0 l1;generalize BX (Da l rec k) n 0 [] left=y at hu hw;obtain⟨ts,lf,e⟩:=y;simp only at hu hw ⊢;refine⟨u,hu,?_⟩;refine Ay Fk (by simp) (Aaq l r i d) Ax fun w0 I0 M0 m0=>?_;unfold DV;simp;refine Ae hsp (by simp) ?_;simp;refine Ae (CQ l r) (by simp) ?_;simp[h9];refine Ae (Dp l k) (by simp) ?_;rw[hnk,hn];simp;refine hw _ (fun p=>by simp[Aa]) (by simp[Aa]) (fun h0 q H' hH=>?_) (fun h0 H' hH=>?_)
  ·rw[h0];simp;exact AJ rfl rfl hH
  ·exact AJ rfl rfl hH
 ·rw[if_pos he];refine⟨B-left,fun h=>absurd h he,?_⟩;refine Ay Fk (by simp) (Aaq l r i d) Ax fun w0 I0 M0 m0=>?_;unfold DV;simp;refine Ae (N0 hs hr i) (by simp) ?_;simp[he];exact AJ rfl rfl (fun p=>by simp)
def UH (l:List (List Int)) (d:Nat) (r:Rf) (rec1 rec2:Rf→Int→T × Int × Int) (left:Int):T × Int × Int:=
 if r.kind=0 then Eb l r left else if d=0∨r.kind=9∧0<r.count∧d=1 then EM l r left else if left<Bd r then EM l r left else Fe l r rec1 rec2 left
theorem qK {l:List (List Int)} {r:Rf} {left:Int} {rec1 rec2:Rf→Int→T × Int × Int}:AP l 0 r left=UH l 0 r rec1 rec2 left:=by
 rw[AP,UH];simp
theorem rp {l:List (List Int)} {r:Rf} {left:Int}:AP l 1 r left=UH l 1 r (AP l 0) (fun r left=>EM l r left) left:=by
 rw[AP,UH];simp
theorem qN {l:List (List Int)} {d:Nat} {r:Rf} {left:Int}:AP l (d+2) r left=UH l (d+2) r (AP l (d+1)) (AP l d) left:=by
 rw[AP,UH];simp
theorem Qm {l:List (List Int)} (hs:Sg l) {B:Int} (hB:B≤1000000) {d:Nat} (hd:d≤1000) {rec1 rec2:Rf→Int→T × Int × Int} (h1:1≤d→RV l B ((d:Int)-1) rec1) (h2:2≤d→RV l B ((d:Int)-2) rec2) (b1:LB l B rec1) (b2:LB l B rec2) :
  RV l B d (fun r left=>UH l d r rec1 rec2 left):=fun r hr left l0 l1=>by
 have hn:=Mt hr;dsimp only;have hc:=TG hr;unfold UH;by_cases k0:r.kind=0
 ·simp only[k0,if_true];refine⟨B-left,fun _=>rfl,Ay CJ (by simp) (faP l r d) Ax fun w0 I0 M0 m0=>?_⟩;unfold EA;simp;refine Ae (CQ l r) (by simp) ?_;simp[k0];exact AJ rfl rfl (fun p=>by simp)
 have e1:i64.wrap ((d:Int)-1)=(d:Int)-1:=Bv;have e2:i64.wrap ((d:Int)-1-1)=(d:Int)-2:=(Av (by omega) (by omega)).trans (by omega);simp only[if_neg k0]
 -- what is written below
 obtain⟨b,hb,hbd⟩:∃ b:Int,(b=if r.kind=9∧0<nk r then (d:Int)-2 else (d:Int)-1)∧-2≤b:=⟨_,rfl,by split<;>omega⟩;have hn9:r.kind=9→nk r=r.count:=fun h=>by simp[nk,h]
 have front:∀ {w0 I0 M0 m0} {res:Int} {u:Int},WPC (FW Tryz.prog w0 I0 M0 55 m0) B2 (R4 (FW Tryz.prog w0 I0 M0 55 m0) [.tmp 6] 1 (iv res) (ov 0 ((fF u B).F 0) (FA []))) ⟨lk [(0,.pob [0] 1 0),(2,iv d),(4,.pob [1] 1 0),(7,iv b)],ov 0 ((fF (B-left) B).F 0) (FA [([1],⟨1,.cells (paL l r)⟩)])⟩ →
   WPC (FW Tryz.prog w0 I0 M0 55 m0) EA (R4 (FW Tryz.prog w0 I0 M0 55 m0) [.tmp 6] 1 (iv res) (ov 0 ((fF u B).F 0) (FA []))) ⟨QG [.pob [0] 1 0,UK l r,iv d],ov 0 ((fF (B-left) B).F 0) (FA [])⟩:=fun {w0 I0 M0 m0 res u} h=>by
  unfold EA;simp;refine Ae (CQ l r) (by simp) ?_;simp[k0,e1];refine Ae (CQ l r) (by simp) ?_;by_cases h9:r.kind=9
  ·simp[h9];rw[AB];simp;refine CT (L:=[UK l r]) (by simp[h9]) (Dp l r) (by simp) ?_;by_cases hp:0<nk r
   ·have hb':b=(d:Int)-2:=by rw[hb,if_pos ⟨h9,hp⟩]
    subst hb';simp[hp,e2];simpa[h9] using h
   ·have hb':b=(d:Int)-1:=by rw[hb,if_neg (by omega)]
    subst hb';simp[hp];simpa[h9] using h
  ·have hb':b=(d:Int)-1:=by rw[hb,if_neg (by omega)]
   subst hb';simp[h9];refine Ao rfl ?_;simp;simpa using h
 have args:=faP l r d;by_cases hd0:d=0
 ·subst hd0;rw[if_pos (.inl rfl)];refine⟨B-left,fun h=>by simp[EM] at h,Ay CJ (by simp) args Ax fun w0 I0 M0 m0=>front ?_⟩;unfold B2;simp;refine Ao rfl ?_;simp;refine Ao rfl ?_;simp[EM];exact AJ rfl rfl (fun p=>by simp)
 have hd1:¬ (d:Int)<1:=by omega
 by_cases hlim:r.kind=9∧0<r.count∧d=1
 ·rw[if_pos (.inr hlim)];have hb':b<0:=by rw[hb,if_pos ⟨hlim.1,by rw[hn9 hlim.1];exact hlim.2.1⟩];omega
  refine⟨B-left,fun h=>by simp[EM] at h,Ay CJ (by simp) args Ax fun w0 I0 M0 m0=>front ?_⟩;unfold B2;simp[hd1,hb'];refine Ao rfl ?_;simp;refine Ao rfl ?_;simp[EM];exact AJ rfl rfl (fun p=>by simp)
 rw[if_neg (by omega)];have hb0:¬ b<0:=by
  rw[hb];split
  ·rename_i hx;have:=hn9 hx.1;omega
  ·omega
 by_cases hw:left<Bd r
 ·rw[if_pos hw];have hsp:=Vf (u:=B-left) (B:=B) (n:=Bd r) (by omega) (by omega) hB (by omega) (by omega);have hno:¬ Bd r≤B-(B-left):=by omega
  rw[if_neg hno] at hsp;simp only[hno,decide_false] at hsp;refine⟨B-left,fun h=>by simp[EM] at h,Ay CJ (by simp) args Ax fun w0 I0 M0 m0=>front ?_⟩;unfold B2;simp[hd1,hb0];rw[AB];simp;refine Ae (Ut hr) (by simp) ?_;simp;rw[AB];simp;refine AA 0 hsp (fun p=>by simp) (by simp) (by simp) ?_;simp[EM];exact AJ rfl rfl (fun p=>by simp)
 rw[if_neg hw];have hsp:=Vf (u:=B-left) (B:=B) (n:=Bd r) (by omega) (by omega) hB (by omega) (by omega);have hyes:Bd r≤B-(B-left):=by omega
 rw[if_pos hyes,show B-left+Bd r=B-(left-Bd r) from by omega] at hsp;simp only[hyes,decide_true] at hsp;obtain⟨n,hnn⟩:∃ n:Nat,nk r=n:=⟨(nk r).toNat,by omega⟩;have hR:∀ f,f=Da l (Xs l r rec1 rec2) r→(Fe l r rec1 rec2 left).2=(BX f n 0 [] (left-Bd r)).2:=fun f hf=>by
  subst hf;unfold Fe;rw[hnn];rfl
 by_cases hdt:Bb r.kind=true
 ·have hk9:¬ r.kind=9∧¬ r.kind=1∧¬ r.kind=8:=by simp[Bb] at hdt;omega
  have hre:Xs l r rec1 rec2=Eb l:=by rw[Xs,if_neg hk9.1,if_neg (by omega)]
  have h2':=hR _ rfl;rw[hre,WR hr hdt n 0 [] (left-Bd r) (by omega)] at h2';generalize Fe l r rec1 rec2 left=X at h2';obtain⟨t,lf,e⟩:=X;simp only[Prod.mk.injEq] at h2';obtain⟨rfl,rfl⟩:=h2';refine⟨B-(left-Bd r),fun _=>rfl,Ay CJ (by simp) args Ax fun w0 I0 M0 m0=>front ?_⟩;unfold B2;simp[hd1,hb0];rw[AB];simp;refine Ae (Ut hr) (by simp) ?_;simp;rw[AB];simp;refine AA 0 hsp (fun p=>by simp) (by simp) (by simp) ?_;simp;refine Ae (CQ l r) (by simp) ?_;simp;refine Ae (J0 r.kind) (by simp) ?_;simp[hdt];exact AJ rfl rfl (fun p=>by simp)
 have hdt':Bb r.kind=false:=by simpa using hdt
 have hlbR:LB l B (Xs l r rec1 rec2):=by
  unfold Xs;split
  ·exact WH hs.w b2
  ·split
   ·exact b1
   ·exact N3
 have hf:∀ i,i<n→KV l B b r i (Da l (Xs l r rec1 rec2) r):=fun i hi=>by
  by_cases h9:r.kind=9
  ·have hcnt:=hn9 h9;have hbe:b=(d:Int)-2:=by rw[hb,if_pos ⟨h9,by omega⟩]
   have hre:Xs l r rec1 rec2=Jf l rec2:=by rw[Xs,if_pos h9]
   rw[hre,hbe];exact kK hs (h2 (by omega)) b2 hr h9 i (by omega)
  ·have hbe:b=(d:Int)-1:=by rw[hb,if_neg (by omega)]
   have h18:r.kind=1∨r.kind=8:=by
    simp[Bb] at hdt';cases hr<;>simp[Rf.zero,nk] at k0 h9 hdt' hnn ⊢<;>omega
   have hre:Xs l r rec1 rec2=rec1:=by rw[Xs,if_neg h9,if_pos h18]
   rw[hre,hbe];exact Z0 hs (h1 (by omega)) hr h9 i
 have h2':=hR _ rfl;generalize hfe:Da l (Xs l r rec1 rec2) r=f at h2' hf hR;have hlb:∀ i left,0≤left→left≤B→0≤(f i left).2.1∧(f i left).2.1≤B:=fun i left a b=>by
  rw[← hfe];exact I3 hs.w hlbR hr i left a b
 obtain⟨u,hu,hloop⟩:=xK (k:=r) (n:=n) (by omega) hf hlb n 0 [] (left-Bd r) (by omega) (by omega) (by omega);generalize BX f n 0 [] (left-Bd r)=Y at h2' hu hloop;generalize Fe l r rec1 rec2 left=X at h2';obtain⟨t,lf,e⟩:=X;obtain⟨t',lf',e'⟩:=Y;simp only[Prod.mk.injEq] at h2' hu hloop;obtain⟨rfl,rfl⟩:=h2';refine⟨u,hu,Ay CJ (by simp) args Ax fun w0 I0 M0 m0=>front ?_⟩;unfold B2;simp[hd1,hb0];rw[AB];simp;refine Ae (Ut hr) (by simp) ?_;simp;rw[AB];simp;refine AA 0 hsp (fun p=>by simp) (by simp) (by simp) ?_;simp;refine Ae (CQ l r) (by simp) ?_;simp;refine Ae (J0 r.kind) (by simp) ?_;simp[hdt'];refine Ae (Dp l r) (by simp) ?_;rw[hnn];simp;refine hloop _ (fun p=>by simp) (by simp) (fun h0 q H' hH=>?_) (fun h0 H' hH=>?_)
 ·rw[h0];simp;exact AJ rfl rfl hH
 ·exact AJ rfl rfl hH
theorem MC {l:List (List Int)} (hs:Sg l) {B:Int} (hB:B≤1000000):∀ d:Nat,d≤1000→RV l B d (AP l d)
 |0,hd=>fun r hr left l0 l1=>by
  have:=Qm hs hB (d:=0) (by omega) (rec1:=Eb l) (rec2:=Eb l) (fun h=>absurd h (by omega)) (fun h=>absurd h (by omega)) N3 N3 r hr left l0 l1;dsimp only at this
  rwa [← qK] at this
 |1,hd=>fun r hr left l0 l1=>by
  have:=Qm hs hB (d:=1) (by omega) (rec1:=AP l 0) (rec2:=fun r left=>EM l r left) (fun _=>by simpa using MC hs hB 0 (by omega)) (fun h=>absurd h (by omega)) (D8 hs.w 0) (fun r hr left h0 h1=>⟨h0,h1⟩) r hr left l0 l1;dsimp only at this
  rwa [← rp] at this
 |d+2,hd=>fun r hr left l0 l1=>by
  have:=Qm hs hB (d:=d+2) (by omega) (rec1:=AP l (d+1)) (rec2:=AP l d) (fun _=>by
   have:=MC hs hB (d+1) (by omega)
   rwa [show((d+1:Nat):Int)=((d+2:Nat):Int)-1 from by omega] at this) (fun _=>by
   have:=MC hs hB d (by omega)
   rwa [show(d:Int)=((d+2:Nat):Int)-2 from by omega] at this) (D8 hs.w (d+1)) (D8 hs.w d) r hr left l0 l1
  dsimp only at this
  rwa [← qN] at this
theorem Pf {x m:Int} (h:0≤m):min (max x 0) m=Cd x m:=by
 unfold Cd;split
 ·omega
 ·split<;>omega
theorem ee (a b c d:Int):G.Spec Tryz.prog 85 [liX a b c d] (liX (Cd a 64) (Cd b 65536) (Cd c 4096) (Cd d 131072)):=by
 refine Ah Yl (by simp) fun w0 I0=>?_;unfold Oq;simp;rw[Pf (by decide),Pf (by decide),Pf (by decide),Pf (by decide)];exact Ab rfl
theorem U3 {l:List (List Int)} (hs:Sg l) (a b c d:Int):G.Spec Tryz.prog 42 [tt l,liX a b c d] (.tup [iv (GX l a b).2.1,iv (GX l a b).2.2]):=by
 have ha:=Rl a 64 (by decide);have hb:=Rl b 65536 (by decide);refine Ah Zp (by simp) fun w0 I0=>?_;unfold PR;simp;refine Ae (ee a b c d) rfl ?_;simp;refine Ae (aV hs) rfl ?_;simp;unfold GX;have hok:=ay hs.w 0 0;generalize hx:JL l 0 0=x at hok;obtain⟨r,e⟩:=x;simp only;by_cases he:e=0
 ·rw[if_neg (by simp[he])];obtain⟨D,hD⟩:∃ D:Nat,Cd a 64=(D:Int):=⟨(Cd a 64).toNat,by omega⟩;obtain⟨u,hu,hw⟩:=MC hs (B:=Cd b 65536) (by omega) D (by omega) r hok (Cd b 65536) hb.1 (Int.le_refl _);simp[he,hD,Aa];rw[Int.sub_self] at hw;generalize AP l D r (Cd b 65536)=y at hu hw;obtain⟨t,lf,e2⟩:=y;unfold UV at hu;simp only at hu hw ⊢;have hF:∀ H:Hp,H [2]=⟨1,.cells [iv 0,iv (Cd b 65536)]⟩→(∀ p,p ≠ []→H (2::p)=⟨0,.none⟩)→∀ p,H (2::p)=(fF 0 (Cd b 65536)).F 2 p:=fun H h1 h2 p=>by
   by_cases p0:p=[]
   ·subst p0;rw[h1];simp
   ·rw[h2 p p0];simp[p0]
  refine AA 2 hw (hF _ (by simp[Aa]) (fun p hp=>by simp[Aa,hp,Ne.symm hp])) (by simp) (by simp) ?_;by_cases he2:e2=0
  ·have:=hu he2;subst this;simp[he2];exact Ab rfl
  ·simp[he2];exact Ab rfl
 ·rw[if_pos he];simp[he];exact Ab rfl
theorem Zf {l:List (List Int)} (hs:Sg l) (a b c d:Int):G.Spec Tryz.prog 130 [tt l,liX a b c d] (.tup [tX (Af (GX l a b).1),iv (GX l a b).2.2]):=by
 refine Ah TU (by simp) fun w0 I0=>?_;unfold Mq;simp;refine Ae (U3 hs a b c d) rfl ?_;by_cases he:(GX l a b).2.2=0
 ·have hm:=JS hs he;have hw:=XS hs _ _ hm;have h0:(JL l 0 0).2=0:=by
   unfold GX at he;split at he
   ·rename_i h0;exact absurd he h0
   ·rename_i h0;omega
  generalize (GX l a b).1=t at hm hw;rw[he];simp;refine Ae (aV hs) rfl ?_;rw[h0];simp;refine Ae (mw hs _ _ hm) (by simp) ?_;simp;refine Ae (FI t hw) rfl ?_;simp;have e:A.agg [iv t.kind,Ff (Af t).words,BV (Af t).kids]=tX (Af t):=by simp
  rw[e];exact Ab (CW (by simp))
 ·have hT:(GX l a b).1=T0:=by
   unfold GX at he ⊢;split
   ·rfl
   ·split
    ·rfl
    ·rename_i h1 h2;rw[if_neg h1,if_neg h2] at he;exact absurd rfl he
  have hN:Af T0=T0:=by simp[T0,AL]
  rw[hT,hN];simp[he];exact CY (by simp;exact⟨ND,Ab rfl⟩)
theorem fc {d:Nat} {list:Int} {x:OP} (O:XE d list x):0≤Bo x:=by
 unfold Bo;split
 ·omega
 ·have:=O.keep;have:=O.nn;have:=O.k0;omega
theorem XK:∀ (e:E) (d:Nat),T7 1048575 e→Bu d e=true→∃ D,Aj D (AU e)=true:=by
 refine E.ind fun k o nn ws ks l os ihk iho d hs hr=>?_;have R:=rightE_iff.1 hr;rw[T7,smKs_all,smOs_all] at hs;obtain⟨s1,s2,s3,s4,s5⟩:=hs;have hks:=fun x hx=>JE (by omega) R.kok x hx;have hos:=fun x hx=>Pa (rightOs_all.1 R.ook x hx);rw[Dh];by_cases k0:k=0
 ·rw[if_pos k0];exact⟨0,HZ 0⟩
 rw[if_neg k0];by_cases k1:k=1
 ·rw[if_pos k1];obtain⟨a,b,c,e⟩:=R.rep k1;refine JY (by simp) (by simp) fun t ht=>?_;simp at ht;rcases ht with rfl | rfl
  ·exact⟨⟨64,a⟩,c⟩
  ·exact⟨⟨64,b⟩,e⟩
 rw[if_neg k1];by_cases k2:k=2
 ·rw[if_pos k2,FE];refine JY (by simp) (by simp) fun t ht=>?_;simp only[List.mem_cons,List.not_mem_nil,or_false] at ht;rcases ht with rfl | rfl
  ·refine TA (by simp;omega) fun t ht=>?_;obtain⟨w,hw,rfl⟩:=List.mem_map.1 ht;exact⟨JY (by simp) (by simp) (fun t ht=>nomatch ht),rfl⟩
  ·refine TA (by simp;omega) fun t ht=>?_;obtain⟨x,hx,rfl⟩:=List.mem_map.1 ht;refine⟨JY (by simp) (by simp) fun t ht=>?_,rfl⟩;simp only[List.mem_cons,List.not_mem_nil,or_false] at ht;subst ht;refine⟨ihk x hx _ (s4 x hx) (hks x hx).2.2.2,?_⟩;rw[Q2];split<;>decide
 ·rw[if_neg k2,FH];have hl:=R.lst (by have:=R.k0;have:=R.k3;omega);refine JY (by simp) (by simp) fun t ht=>?_;simp only[List.mem_cons,List.not_mem_nil,or_false] at ht;subst ht;refine TA (by simp;omega) fun t ht=>?_;obtain⟨x,hx,rfl⟩:=List.mem_map.1 ht;have O:=hos x hx;have hlen:=eZ os 0 0 (fun y hy=>fc (hos y hy)) (by omega) (by omega) (by omega) (by omega) R.len.1 R.len.2 x hx;refine⟨?_,rfl⟩;unfold Fg;have hkl:(if x.kind=3 then [AU x.e] else if x.kind > 0 then [T.mk l [] x.l] else []).length<65536:=by
   split
   ·simp
   ·split<;>simp
  refine JY (by simp) hkl fun t ht=>?_;by_cases h3:x.kind=3
  ·rw[if_pos h3] at ht;simp only[List.mem_cons,List.not_mem_nil,or_false] at ht;subst ht;obtain⟨_,_,_,he,_⟩:=O.down h3;refine⟨iho x hx _ (s5 x hx) he,?_⟩;rw[Q2];split<;>decide
  ·rw[if_neg h3] at ht;split at ht
   ·rename_i hpos;simp only[List.mem_cons,List.not_mem_nil,or_false] at ht;subst ht;obtain⟨_,hel⟩:=O.some (by have:=O.k3;omega);refine⟨⟨64,Ou (by omega) (by omega) ?_ fun t ht=>?_⟩,by show l ≠ 10;omega⟩
    ·have:x.l.length<1048576:=by
      unfold Bo at hlen;rw[if_neg h3] at hlen;have:=O.nn (by omega);omega
     simp[A4];omega
    ·have:=hel t ht;rw[AI,if_neg (by omega),if_neg (by omega)] at this;split at this
     ·cases this
     ·exact rightL_all.1 this t (by simp)
   ·cases ht
theorem rA {l:List T} {x:T} (hx:x ∈ l) (h:x.kind ≠ 0):x ∈ BZ l:=by
 induction l using Sq with
 |h0=>cases hx
 |h1 l y ih=>
  rw[GZ];split
  ·rename_i hy;rcases List.mem_append.1 hx with hx | hx
   ·exact ih hx
   ·simp only[List.mem_singleton] at hx;subst hx;exact absurd hy h
  ·exact hx
theorem Ze:∀ (t:T) (D d:Nat),Aj D t=true→Aj d (Af t)=true→Aj d t=true:=by
 refine T.ind fun k w l ih D d hD hd=>?_;have hst:=AV hD;rw[AI] at hD ⊢;rw[AL] at hd;by_cases k0:k=0
 ·rw[if_pos k0] at hD ⊢; exact hD
 rw[if_neg k0] at hD ⊢ hd;by_cases k10:k=10
 ·rw[if_pos k10] at hD ⊢; exact hD
 rw[if_neg k10] at hD ⊢;have hb:A4 k D w.length l.length=false:=by
  cases e:A4 k D w.length l.length with
  |false=>rfl
  |true=>rw[e] at hD;simp at hD
 have key:∀ (w':List Int) (l':List T),(∀ t,t ∈ l→t.kind ≠ 0→Af t ∈ l')→Aj d (.mk k w' l')=true→(if A4 k d w.length l.length=true then false else Et (d-1) k l)=true:=fun w' l' hin hq=>by
  rw[AI,if_neg k0,if_neg k10] at hq;split at hq
  ·cases hq
  rename_i hb2;have hd0:d ≠ 0:=by simp[A4] at hb2;omega
  have hb3:A4 k d w.length l.length=false:=by
   unfold A4 at hb ⊢;simp only[Bool.or_eq_false_iff] at hb ⊢;obtain⟨⟨⟨⟨⟨⟨a1,a2⟩,a3⟩,a4⟩,a5⟩,a6⟩,a7⟩:=hb;exact⟨⟨⟨⟨⟨⟨a1,a2⟩,by simpa using hd0⟩,a4⟩,a5⟩,a6⟩,a7⟩
  rw[if_neg (by rw[hb3];simp)];refine rightL_all.2 fun t ht=>?_;obtain⟨a,b⟩:=hst t ht;refine⟨?_,b⟩;by_cases t0:t.kind=0
  ·cases t;simp at t0;subst t0;rw[AI] at a ⊢;simpa using a
  ·exact ih t ht _ _ a (rightL_all.1 hq _ (hin t ht t0)).1
 split at hd
 ·rename_i h1;subst h1;refine key _ _ (fun t ht t0=>?_) hd;exact rA (List.mem_map.2 ⟨t,ht,rfl⟩) (by simpa using t0)
 ·exact key _ _ (fun t ht t0=>List.mem_map.2 ⟨t,ht,rfl⟩) hd
theorem Mi {d:Nat} {t:T} (h:Aj d t=true):t.kids.length≤1048575:=by
 obtain⟨k,w,l⟩:=t;rw[AI] at h;by_cases h0:k=0
 ·rw[if_pos h0] at h;simp at h;rw[T.kids_mk,h.2];exact Nat.zero_le _
 rw[if_neg h0] at h;by_cases h10:k=10
 ·rw[if_pos h10] at h;simp at h;rw[T.kids_mk,h.2];exact Nat.zero_le _
 rw[if_neg h10] at h;split at h
 ·cases h
 ·rename_i hb;simp[A4] at hb;rw[T.kids_mk];omega
theorem Hv {d:Nat} {t:T} (h:Aj d t=true) (i:Nat):∃ d,Aj d (HL t i)=true:=by
 unfold HL;rw[List.getD_eq_getElem?_getD];cases e:t.kids[i]? with
 |none=>exact⟨0,HZ 0⟩
 |some x=>exact⟨_,(Ik h x (List.mem_of_getElem? e)).1⟩
theorem iY:T7 1048575 E0:=by rw[T7];simp[jG,gG]
theorem xp:∀ (n:Nat) (t:T),SizeOf.sizeOf t≤n→(∃ d,Aj d t=true)→T7 1048575 (Er t):=by
 intro n;induction n with
 |zero=>intro t ht;exfalso;cases t;simp at ht
 |succ n ih=>
  intro t ht hd;obtain⟨d,hd⟩:=hd;rw[Mp];split
  ·exact iY
  ·obtain⟨da,ha⟩:=Hv hd 0;obtain⟨db,hb⟩:=Hv hd 1;have la:=Mi ha;have lb:=Mi hb;rw[T7,smKs_all,smOs_all];have deep:∀ (i:Nat) x,x ∈ (HL t i).kids→T7 1048575 (Er (HL x 0)):=fun i x hx=>by
    obtain⟨di,hi⟩:=Hv hd i;have hlt:=xS hx 0;exact ih _ (by omega) (Hv (Ik hi x hx).1 0)
   refine⟨?_,?_,?_,fun x hx=>?_,fun x hx=>?_⟩
   ·split
    ·simp;omega
    ·simp
   ·split
    ·simp;omega
    ·simp
   ·split
    ·simp;omega
    ·simp
   ·split at hx
    ·obtain⟨y,hy,rfl⟩:=List.mem_map.1 hx;exact deep 1 y hy
    ·cases hx
   ·split at hx
    ·obtain⟨y,hy,rfl⟩:=List.mem_map.1 hx;unfold MT;simp only[OP.e_mk];split
     ·exact deep 0 y hy
     ·exact iY
    ·cases hx
theorem uT:PA E0:=wfE_iff.2 ⟨by simp[Bn,E.kind],by simp[Bn,E.list],KO,KO,by simp[E.words],by simp[E.words],by simp[E.kids],by simp[E.ops],by simp[E.kids],by simp[E.ops]⟩
theorem yf {x:T} (h:Bx x):WE.wf (HU x):=by
 have h0:=Mx h 0;have h1:=Mx h 1;have h2:=Mx h 2;unfold BI at h0;refine⟨?_,?_,h1,h2⟩
 ·unfold Bn HU;simp only;omega
 ·unfold HU;simp only;omega
theorem xc:∀ (n:Nat) (t:T),SizeOf.sizeOf t≤n→Bx t→(∃ d,Aj d t=true)→PA (Er t):=by
 intro n;induction n with
 |zero=>intro t ht;exfalso;cases t;simp at ht
 |succ n ih=>
  intro t ht hw hd;obtain⟨d,hd⟩:=hd;rw[Mp];split
  ·exact uT
  ·obtain⟨da,ha⟩:=Hv hd 0;obtain⟨db,hb⟩:=Hv hd 1;have la:=Mi ha;have lb:=Mi hb;have wa:=Yg hw 0;have wb:=Yg hw 1;have w0:=Mx hw 0;unfold BI at w0;have deep:∀ (i:Nat) x,x ∈ (HL t i).kids→PA (Er (HL x 0)):=fun i x hx=>by
    obtain⟨di,hi⟩:=Hv hd i;have hlt:=xS hx 0;exact ih _ (by omega) (Yg ((wfT_iff.1 (Yg hw i)).ks x hx) 0) (Hv (Ik hi x hx).1 0)
   refine wfE_iff.2 ⟨?_,?_,?_,?_,fun x hx=>?_,?_,?_,?_,fun x hx=>?_,fun x hx=>?_⟩
   ·simp only[E.kind_mk];unfold Bn;omega
   ·simp only[E.list_mk];unfold Bn;omega
   ·show Bx (if _ then _ else _);split
    ·exact wa
    ·exact KO
   ·show Bx (if _ then _ else _);split
    ·exact wb
    ·exact KO
   ·simp only[E.words_mk] at hx;split at hx
    ·obtain⟨y,hy,rfl⟩:=List.mem_map.1 hx;exact yf ((wfT_iff.1 wa).ks y hy)
    ·cases hx
   ·simp only[E.words_mk];split
    ·simp;omega
    ·simp
   ·simp only[E.kids_mk];split
    ·simp;omega
    ·simp
   ·simp only[E.ops_mk];split
    ·simp;omega
    ·simp
   ·simp only[E.kids_mk] at hx;split at hx
    ·obtain⟨y,hy,rfl⟩:=List.mem_map.1 hx;have h0:=Mx ((wfT_iff.1 wb).ks y hy) 0;unfold BI at h0;exact⟨by simp only[Ul,KE.at_mk];unfold Bn;omega,deep 1 y hy⟩
    ·cases hx
   ·simp only[E.ops_mk] at hx;split at hx
    ·obtain⟨y,hy,rfl⟩:=List.mem_map.1 hx;have wy:=(wfT_iff.1 wa).ks y hy;have h0:=Mx wy 0;unfold BI at h0;obtain⟨dy,hy2⟩:=Hv (Ik ha y hy).1 0;have ly:=Mi hy2;refine⟨by simp only[MT,OP.kind_mk];unfold Bn;omega,by simp only[MT,OP.n_mk];unfold Bn;omega,fun t ht=>?_,?_,?_⟩
     ·simp only[MT,OP.l_mk] at ht;split at ht
      ·exact(wfT_iff.1 (Yg wy 0)).ks t ht
      ·cases ht
     ·simp only[MT,OP.l_mk];split
      ·omega
      ·simp
     ·simp only[MT,OP.e_mk];split
      ·exact deep 0 y hy
      ·exact uT
    ·cases hx
def QD (l:List Int):Prop:=∀ y,y ∈ l→BI y
theorem allW_app {a b:List Int}:QD (a++b) ↔ QD a∧QD b:=by
 unfold QD;simp only[List.mem_append];exact⟨fun h=>⟨fun y hy=>h y (.inl hy),fun y hy=>h y (.inr hy)⟩,fun h y hy=>hy.elim (h.1 y) (h.2 y)⟩
theorem RF {l:List Int} {p:Nat} {x:Int} (h:QD l) (hx:BI x):QD (l.set p x):=fun y hy=>by
 rcases List.mem_or_eq_of_mem_set hy with hy | rfl
 ·exact h y hy
 ·exact hx
theorem Ox (n:Nat):QD (List.replicate n 0):=fun y hy=>by rw[List.eq_of_mem_replicate hy];exact⟨by decide,by decide⟩
theorem Ry {a to k u:Int} (h0:0≤a) (h1:a≤200000) (t0:0≤to) (t1:to≤200000) (k0:0≤k) (k1:k<4) (u0:0≤u) (u1:u<4294967296):BI (DH a to k u):=by
 unfold DH BI;split<;>omega
theorem qe {w:Nat} (hw:w=1∨w=8∨w=16∨w=32∨w=64):∀ (ns:List Int) (i:Nat) (out:List Int),PutI w i out→(∀ x,x ∈ ns→0≤x∧x<2 ^ w)→(∀ j,j<i+ns.length→j*w / 64<out.length)→QD (Lx w ns i out)
 |[],i,out,hI,_,_=>fun y hy=>by
  rw[Lx] at hy;obtain⟨j,hj,rfl⟩:=List.mem_iff_getElem.1 hy;exact hI.rng j hj
 |n::ns,i,out,hI,hn,hl=>by
  obtain⟨h0,h1⟩:=hn n (by simp);rw[Lx,if_neg (by omega)];have:=Uc hI hw h0 h1 (hl i (by simp));exact qe hw ns (i+1) _ this.1 (fun x hx=>hn x (by simp[hx])) (fun j hj=>by rw[List.length_set];exact hl j (by simp at hj ⊢; omega))
theorem yd {c:Int} (c0:0≤c) (c6:c<6) {ns:List Int} (hnl:ns.length≤1000000000) (hfit:∀ x,x ∈ ns→BI x∧GA c x=true):QD (MS c ns):=by
 obtain⟨w,w1,w2,w3⟩:=IU c0 c6;unfold MS;rw[w1];simp only[Int.toNat_natCast];by_cases h0:w=0
 ·subst h0;have:∀ (ns:List Int) (i:Nat) (o:List Int),Lx 0 ns i o=o:=fun ns=>by
   induction ns with
   |nil=>intro i o;rfl
   |cons n ns ih=>intro i o;rw[Lx,if_pos rfl,ih]
  rw[this];exact Ox _
 ·refine qe (by omega) ns 0 _ (PutI.start w _) (fun x hx=>?_) (fun j hj=>?_)
  ·obtain⟨a,b⟩:=hfit x hx;exact⟨a.1,Wl w1 a.1 b⟩
  ·rw[List.length_replicate];have hroom:Dw c ns.length=(((ns.length*w+63) / 64:Nat):Int):=by
    unfold Dw;rw[if_neg (by omega),w2];have e:(ns.length:Int)*w=((ns.length*w:Nat):Int):=by rw[Int.natCast_mul]
    rw[e];omega
   rw[hroom,Int.toNat_natCast];exact ct (by omega) (by omega)
def LW (f:Nat→List Int→List Int) (n:Nat):Prop:=∀ (a:Nat) (l:List Int),a+n≤l.length→(f a l).length≤200000→QD l→QD (f a l)
theorem oD:∀ {ts:List T},(∀ t,t ∈ ts→LW (Dr t) 1)→LW (CU ts) ts.length
 |[],_=>fun a l _ _ h=>by simpa using h
 |t::ts,h=>fun a l ha hl hw=>by
  simp only[List.length_cons] at ha;rw[Hb] at hl ⊢;have h1:=Fh ts (a+1) (Dr t a l);have h2:=p7 t a l;exact oD (fun u hu=>h u (by simp[hu])) (a+1) _ (by omega) hl (h t (by simp) a l (by omega) (by omega) hw)
theorem oV {w k:Nat}:∀ {ts:List T},(∀ t,t ∈ ts→LW (CU t.kids) t.kids.length∧t.kids.length≤k)→∀ (a:Nat) (l:List Int),a+ts.length*(w+k)≤l.length→(IP w k ts a l).length≤200000→QD l→QD (IP w k ts a l)
 |[],_=>fun a l _ _ h=>by simpa using h
 |t::ts,h=>fun a l ha hl hw=>by
  obtain⟨g1,g2⟩:=h t (by simp);simp only[List.length_cons,Nat.add_mul,Nat.one_mul] at ha;rw[FZ] at hl ⊢;have h1:=O2 w k ts (a+(w+k)) (CU t.kids (a+w) l);have h2:=Fh t.kids (a+w) l;exact oV (fun u hu=>h u (by simp[hu])) (a+(w+k)) _ (by omega) hl (g1 (a+w) l (by omega) (by omega) hw)
theorem gm {w k:Nat}:∀ {ts:List T},(∀ t,t ∈ ts→QD t.words)→QD (Ha w k ts)
 |[],_=>fun y hy=>by simp[Ha] at hy
 |t::ts,h=>by
  rw[Ha];exact allW_app.2 ⟨allW_app.2 ⟨h t (by simp),Ox _⟩,gm fun u hu=>h u (by simp[hu])⟩
theorem AcH:∀ t:T,Bx t→(Cr t→LW (Dr t) 1)∧((∀ u,u ∈ t.kids→Cr u)→LW (CU t.kids) t.kids.length):=by
 refine T.ind fun k w ks ih hw=>?_;have hwt:=wfT_iff.1 hw;have hK:(∀ u,u ∈ ks→Cr u)→LW (CU ks) ks.length:=fun h=>oD fun t ht=>(ih t ht (hwt.ks t ht)).1 (h t ht);refine⟨fun hok a l ha hl hA=>?_,hK⟩;cases hok with
 |null=>rw[B8,if_pos rfl];exact hA
 |str w ks b1 b2 h=>
  rw[B8,if_neg (by decide),if_pos rfl] at hl ⊢;have hm:=Nat.le_trans (Fh ks _ _) hl;simp only[List.length_append,List.length_set,List.length_replicate] at hm;refine hK h _ _ (by simp;omega) hl (allW_app.2 ⟨allW_app.2 ⟨RF hA (Ry (by omega) (by omega) (by omega) (by split<;>omega) (by omega) (by omega) (by omega) (by omega)),hwt.w⟩,Ox _⟩)
 |ptrs w ks b1 h=>
  rw[B8,if_neg (by decide),if_neg (by decide),if_pos rfl] at hl ⊢;have hm:=Fh ks l.length (l.set a (DH a l.length 1 (6+8*ks.length))++List.replicate ks.length 0);simp only[List.length_append,List.length_set,List.length_replicate] at hm;exact hK h _ _ (by simp) hl (allW_app.2 ⟨RF hA (Ry (by omega) (by omega) (by omega) (by omega) (by omega) (by omega) (by omega) (by omega)),Ox _⟩)
 |comp w ks b1 b2 h=>
  rw[B8,if_neg (by decide),if_neg (by decide),if_neg (by decide),if_pos rfl] at hl ⊢;have hbound:=I8 (ts:=ks) (w:=65535) (k:=65535) fun u hu=>by have:=b2 u hu;omega
  have hr:=Hf (w:=An ks) (k:=Aq ks) ks fun t ht=>by have:=DI ht;omega
  have hm:=O2 (An ks) (Aq ks) ks (l.length+1) (l.set a (DH a l.length 1 (7+8*(ks.length*(An ks+Aq ks):Nat)))++[4*(ks.length:Int)+4294967296*((An ks:Int)+65536*Aq ks)]++Ha (An ks) (Aq ks) ks);simp only[List.length_append,List.length_set,List.length_singleton,hr] at hm;have hkf:∀ t,t ∈ ks→t.kids.length≤Aq ks:=fun t ht=>Ek ht;generalize An ks=W at *;generalize Aq ks=K at *;generalize hL:ks.length*(W+K)=L at *;refine oV (fun t ht=>⟨(ih t ht (hwt.ks t ht)).2 (h t ht),hkf t ht⟩) _ _ (by simp only[List.length_append,List.length_set,List.length_singleton,hr];omega) hl (allW_app.2 ⟨allW_app.2 ⟨RF hA (Ry (by omega) (by omega) (by omega) (by omega) (by omega) (by omega) (by omega) (by omega)),fun y hy=>?_⟩,gm fun t ht=>(wfT_iff.1 (hwt.ks t ht)).w⟩);simp only[List.mem_singleton] at hy;subst hy;unfold BI;omega
 |data k w ks h1 h2 b1 hc=>
  rw[B8,if_neg (by omega),if_neg (by omega),if_neg (by omega),if_neg (by omega)] at hl ⊢;rw[List.length_append,List.length_set] at hl;refine allW_app.2 ⟨RF hA (Ry (by omega) (by omega) (by omega) (by omega) (by omega) (by omega) (by omega) (by omega)),yd (by omega) (by omega) (by simp;omega) fun x hx=>?_⟩;obtain⟨c,hc',rfl⟩:=List.mem_map.1 hx;obtain⟨y,y1,y2,y3,y4⟩:=hc c hc';have:hd c=y:=by simp[hd,y1]
  rw[this];exact⟨⟨y2,y3⟩,y4⟩
theorem xJ {most:Int} {t:T} (hw:Bx t):Sg [Pd most t]:=by
 by_cases h:He most t=true
 ·have hW:Pd most t=Dr (Af t) 0 [0]:=by simp[Pd,h]
  simp[He] at h;obtain⟨⟨⟨hr,h10⟩,_⟩,hs⟩:=h;have hok:=Kd t 64 hr hw h10;have hlen:=(Pg (Af t)).1 hok 0 [0];simp only[List.length_singleton] at hlen;have hwd:=(AcH (Af t) (IH t hw)).1 hok 0 [0] (by simp) (by omega) (Ox 1);rw[hW];exact⟨fun x hx=>by simp at hx;subst hx;omega,fun x hx y hy=>by simp at hx;subst hx;exact hwd y hy⟩
 ·have hW:Pd most t=[]:=by simp[Pd,h]
  rw[hW];exact⟨fun x hx=>by simp at hx;subst hx;simp,fun x hx y hy=>by simp at hx;subst hx;cases hy⟩
def tb (g:T→Int):List T→Int
 |[]=>0
 |t::l=>g t+tb g l
theorem Yi:∀ l:List T,tb (fun t=>Co (Af t)) l=Cm (l.map Af)
 |[]=>by simp[tb]
 |t::l=>by simp[tb,Yi l]
theorem gD:∀ l:List T,tb (fun t=>Cm (Af t).kids) l=E9 (l.map Af)
 |[]=>by simp[tb]
 |t::l=>by simp[tb,gD l]
theorem Mo {f:Nat→Int→T × Int × Int} {B:Int} {g:T→Int} (hf:∀ (i:Nat) lf,0≤lf→lf≤B→0≤(f i lf).2.1∧(f i lf).2.1≤B):∀ {m i:Nat} {acc:List T} {left:Int},(∀ (j:Nat) lf,j<i+m→0≤lf→lf≤B→(f j lf).2.2=0→g (f j lf).1+(f j lf).2.1≤lf)→0≤left→left≤B→(BX f m i acc left).2.2=0 →
  ∃ ks:List T,(BX f m i acc left).1=acc++ks∧tb g ks+(BX f m i acc left).2.1≤left
 |0,i,acc,left,_,_,_,h=>⟨[],by simp[BX],by simp[BX,tb]⟩
 |m+1,i,acc,left,hg,l0,l1,h=>by
  rw[BX] at h ⊢;by_cases h0:(f i left).2.2 ≠ 0
  ·rw[if_pos h0] at h;exact absurd h h0
  ·rw[if_neg h0] at h ⊢;obtain⟨b0,b1⟩:=hf i left l0 l1;have h1:=hg i left (by omega) l0 l1 (by simpa using h0);obtain⟨ks,e1,e2⟩:=Mo (g:=g) hf (fun j lf hj=>hg j lf (by omega)) b0 b1 h;refine⟨(f i left).1::ks,by rw[e1];simp,?_⟩;simp only[tb];omega
def SZ (l:List (List Int)) (rec:Rf→Int→T × Int × Int):Prop:=∀ x left,Em l x→x.kind ≠ 10→0≤left→left≤65536→(rec x left).2.2=0→Co (Af (rec x left).1)+(rec x left).2.1≤left
theorem SX {l:List (List Int)} {rec:Rf→Int→T × Int × Int} {r:Rf} {i:Nat} {lf:Int} (h:(Da l rec r i lf).2.2=0):Da l rec r i lf=rec (BQ l r i).1 lf:=by
 unfold Da at h ⊢;by_cases h0:(BQ l r i).2 ≠ 0
 ·rw[if_pos h0] at h;exact absurd h h0
 ·rw[if_neg h0]
theorem WJ {ts:List T} (h:∀ u,u ∈ ts→Cr u) (n:Nat):Cm (ts.take n)≤Cm ts:=by
 have e:Cm ts=Cm (ts.take n)+Cm (ts.drop n):=by rw[← eQ,List.take_append_drop]
 have:=DZ (ts:=ts.drop n) fun u hu=>h u (QB hu);omega
theorem UB {l:List (List Int)} (hs:Sg l) {r:Rf} {t:T} (hm:A7 l r t) (hk:t.kind=1∨t.kind=8):∀ u,u ∈ t.kids.map Af→Cr u:=by
 have:=tZ hs hm hk t.kids.length 0;simpa using this
theorem lY {l:List (List Int)} (hs:Sg l) {s a d k:Int} (hr:Em l ⟨1,s,a,d,k,0,0⟩) {rec2:Rf→Int→T × Int × Int} (b2:LB l 65536 rec2) (h2:SZ l rec2) (hM:∀ x left,Em l x→(rec2 x left).2.2=0→A7 l x (rec2 x left).1) {lf:Int} (q0:0≤lf) (q1:lf≤65536) (h:(Jf l rec2 ⟨1,s,a,d,k,0,0⟩ lf).2.2=0) :
  Cm (Af (Jf l rec2 ⟨1,s,a,d,k,0,0⟩ lf).1).kids+(Jf l rec2 ⟨1,s,a,d,k,0,0⟩ lf).2.1≤lf:=by
 have hw:=hs.w;unfold Jf at h ⊢;have hm:=Ql hw hr (k:=1) (fun j lf' hj hq'=>hM _ _ (Nf hw hr _) hq') rfl h;obtain⟨ks,e1,e2⟩:=Mo (B:=65536) (g:=fun t=>Co (Af t)) (fun i lf=>I3 hw b2 hr i lf) (fun j lf' hj p0 p1 hq=>by
  have hst:=SX hq;rw[hst] at hq ⊢;exact h2 _ _ (Nf hw hr j) (Ms (.inl rfl) j) p0 p1 hq) q0 q1 h
 change A7 l _ (.mk 1 _ (BX (Da l rec2 _) k.toNat 0 [] lf).1) at hm;simp only at e1 e2 ⊢;rw[e1] at hm ⊢;simp only[List.nil_append] at hm ⊢;have hk:=UB hs hm (.inl rfl);simp only[T.kids_mk] at hk;rw[Vw rfl,T.kids_mk,T.kids_mk,EB];have:=WJ hk (BZ (ks.map Af)).length;rw[Yi] at e2;omega
theorem bm {l:List (List Int)} (hs:Sg l) {r:Rf} (hr:Em l r) (h0:r.kind ≠ 0) (h10:r.kind ≠ 10) {rec1 rec2:Rf→Int→T × Int × Int} (b1:LB l 65536 rec1) (b2:LB l 65536 rec2) (h1:SZ l rec1)
  (h2:r.kind=9→0<r.count→SZ l rec2∧∀ x left,Em l x→(rec2 x left).2.2=0→A7 l x (rec2 x left).1) {left:Int} (hl:left≤65536) (hc:¬ left<Bd r) (hm:A7 l r (Fe l r rec1 rec2 left).1) (h:(Fe l r rec1 rec2 left).2.2=0):Co (Af (Fe l r rec1 rec2 left).1)+(Fe l r rec1 rec2 left).2.1≤left:=by
 have hw:=hs.w;have hnn:=Mt hr;have hb:=cf hr;have hcost:=fh hr;have hwl:=oh hr h10;have hnk:=Ds hm;unfold Fe at h hm hnk ⊢;by_cases h9:r.kind=9
 ·simp only[if_pos h9] at h hm hnk ⊢;have hkc:nk r=r.count:=by simp[nk,h9]
  obtain⟨ks,e1,e2⟩:=Mo (B:=65536) (g:=fun t=>Cm (Af t).kids) (fun i lf=>I3 hw (WH hw b2) hr i lf) (fun j lf hj q0 q1 hq=>by
   have hst:=SX hq;rw[hst] at hq ⊢;have hj':(j:Int)<nk r:=by omega
   have hok:=Nf hw hr (j:Int);have hkid:BQ l r j=(⟨1,r.s,r.at_+j*(r.data+r.kids),r.data,r.kids,0,0⟩,0):=by
    rw[BQ,if_neg (by omega),if_neg (by omega),if_neg (by omega),if_pos h9]
   rw[hkid] at hq hok ⊢;obtain⟨z1,z2⟩:=h2 h9 (by omega);exact lY hs hok b2 z1 z2 q0 q1 hq) (by omega) (by omega) h
  rw[e1] at hm hnk ⊢;simp only[List.nil_append,T.kids_mk] at hm hnk ⊢;rw[h9] at hm ⊢;rw[AL,if_neg (by decide),if_neg (by decide),Cj,if_neg (by decide),if_neg (by decide),if_neg (by decide),if_pos rfl,List.length_map];rw[gD] at e2;have hd:0≤r.data∧0≤r.kids:=by cases hr<;>simp[Rf.zero] at h9 ⊢<;>omega
  obtain⟨f1,f2⟩:=I8 (ts:=ks.map Af) (w:=r.data.toNat) (k:=r.kids.toNat) fun u hu=>by
   obtain⟨v,hv,rfl⟩:=List.mem_map.1 hu;obtain⟨i,hi,rfl⟩:=List.mem_iff_getElem.1 hv;have kk:=(BN hm (i:=i) (by simpa using hi)).2;simp only[T.kids_mk] at kk;have hkid:BQ l r i=(⟨1,r.s,r.at_+i*(r.data+r.kids),r.data,r.kids,0,0⟩,0):=by
    rw[BQ,if_neg (by omega),if_neg (by omega),if_neg (by omega),if_pos h9]
   rw[hkid] at kk;obtain⟨l1,l2⟩:=oc kk;have g1:=(Dv kk).1;have g2:=Ds kk;simp[Py,nk] at g1 g2;have:=Aa2 ks[i];have:=Abb ks[i];omega
  have hcm:Bd r=1+r.count*(1+r.data+r.kids):=by simp[Bd,h9]
  have hmul:(ks.length:Int)*((An (ks.map Af):Int)+Aq (ks.map Af))≤r.count*(1+r.data+r.kids):=by
   rw[← hnk,hkc];exact Int.mul_le_mul_of_nonneg_left (by omega) (by omega)
  omega
 ·by_cases h18:r.kind=1∨r.kind=8
  ·simp only[if_neg h9,if_pos h18] at h hm hnk ⊢;obtain⟨ks,e1,e2⟩:=Mo (B:=65536) (g:=fun t=>Co (Af t)) (fun i lf=>I3 hw b1 hr i lf) (fun j lf hj q0 q1 hq=>by
    have hst:=SX hq;rw[hst] at hq ⊢;exact h1 _ _ (Nf hw hr j) (Ms h18 j) q0 q1 hq) (by omega) (by omega) h
   rw[e1] at hm hnk ⊢;simp only[List.nil_append,T.kids_mk] at hm hnk ⊢;have hkL:=UB hs hm (by simpa using h18);simp only[T.kids_mk] at hkL;rw[Yi] at e2;rcases h18 with h18 | h18
   ·rw[h18] at hm ⊢;rw[if_pos h18] at hwl;have hcm:Bd r=1+r.data+r.kids:=by simp[Bd,h18]
    have hkk:nk r=r.kids:=by simp[nk,h18]
    have hd0:0≤r.data:=by cases hr<;>simp[Rf.zero] at h18 ⊢<;>omega
    rw[Vw rfl,T.kids_mk,T.words_mk,Cj,if_pos rfl];have t1:=ET (C9 l r);have t2:=EN (ks.map Af);rw[List.length_map] at t2;have t3:=WJ hkL (BZ (ks.map Af)).length;rw[← EB] at t3;omega
   ·rw[h18] at hm ⊢;have hcm:Bd r=1+nk r:=by simp[Bd,h18]
    rw[AL,if_neg (by decide),if_neg (by decide),Cj,if_neg (by decide),if_pos rfl,List.length_map];omega
  ·simp only[if_neg h9,if_neg h18] at h hm hnk ⊢;obtain⟨ks,e1,e2⟩:=Mo (B:=65536) (g:=fun _=>0) (fun i lf=>I3 hw N3 hr i lf) (fun j lf hj q0 q1 hq=>by
    rw[SX hq];simp[Eb]) (by omega) (by omega) h
   rw[e1] at hm hnk ⊢;simp only[List.nil_append,T.kids_mk] at hm hnk ⊢;have hz:∀ L:List T,tb (fun _=>0) L=0:=fun L=>by
    induction L with
    |nil=>rfl
    |cons t L ih=>simp[tb,ih]
   rw[hz] at e2;have hcm:Bd r=1+nk r:=by rw[Bd,if_neg (by omega),if_neg (by omega)]
   have hk2:2≤r.kind∧r.kind≤7:=by
    clear h hm hnk e1;omega
   rw[AL,if_neg (by omega),if_neg (by omega),Cj,if_neg (by omega),if_neg (by omega),if_pos hk2,List.length_map];have hroom:Dw (r.kind-2) ks.length≤ks.length:=by
    unfold Dw;split
    ·omega
    ·obtain⟨w,_,w2,w3⟩:∃ w:Nat,AD (r.kind-2)=w∧Ux (r.kind-2)=w∧w≤64:=by
      have:r.kind-2=0∨r.kind-2=1∨r.kind-2=2∨r.kind-2=3∨r.kind-2=4∨r.kind-2=5:=by omega
      rcases this with e | e | e | e | e | e<;>rw[e]
      ·exact⟨0,rfl,rfl,by simp⟩
      ·exact⟨1,rfl,rfl,by simp⟩
      ·exact⟨8,rfl,rfl,by simp⟩
      ·exact⟨16,rfl,rfl,by simp⟩
      ·exact⟨32,rfl,rfl,by simp⟩
      ·exact⟨64,rfl,rfl,by simp⟩
     rw[w2];have:(ks.length:Int)*w≤ks.length*64:=Int.mul_le_mul_of_nonneg_left (by omega) (by omega);omega
   omega
theorem TS {l:List (List Int)} {r:Rf} (h:r.kind=0) (left:Int):Co (Af (Eb l r left).1)+(Eb l r left).2.1≤left:=by
 simp[Eb,AL,h]
theorem Jz {l:List (List Int)} (hs:Sg l):∀ (d:Nat),SZ l (AP l d)
 |0=>fun r left hr h10 l0 hl h=>by
  rw[AP] at h ⊢;split at h
  ·rename_i h0;rw[if_pos h0];exact TS h0 _
  ·exact absurd h (by simp[EM])
 |1=>fun r left hr h10 l0 hl h=>by
  have hm:=D6 hs.w 1 r left hr h;rw[AP] at h hm ⊢;split at h
  ·rename_i h0;rw[if_pos h0];exact TS h0 _
  ·rename_i h0;split at h
   ·exact absurd h (by simp[EM])
   ·rename_i h9;split at h
    ·exact absurd h (by simp[EM])
    ·rename_i hc;rw[if_neg h0,if_neg h9,if_neg hc] at hm ⊢;exact bm hs hr h0 h10 (D8 hs.w 0) (zq l _) (Jz hs 0) (fun e c=>absurd ⟨e,c⟩ h9) hl hc hm h
 |d+2=>fun r left hr h10 l0 hl h=>by
  have hm:=D6 hs.w (d+2) r left hr h;rw[AP] at h hm ⊢;split at h
  ·rename_i h0;rw[if_pos h0];exact TS h0 _
  ·rename_i h0;split at h
   ·exact absurd h (by simp[EM])
   ·rename_i hc;rw[if_neg h0,if_neg hc] at hm ⊢;exact bm hs hr h0 h10 (D8 hs.w (d+1)) (D8 hs.w d) (Jz hs (d+1)) (fun e c=>⟨Jz hs d,fun x left hx hq=>D6 hs.w d x left hx hq⟩) hl hc hm h
theorem vS {l:List (List Int)} (hs:Sg l) {a b:Int} (h:(GX l a b).2.2=0):Co (Af (GX l a b).1)≤65536:=by
 have ha:=Rl a 64 (by decide);have hb:=Rl b 65536 (by decide);unfold GX at h ⊢;split at h
 ·rename_i h0;exact absurd h h0
 ·rename_i h0;rw[if_neg h0];split at h
  ·rename_i h1;exact absurd h h1
  ·rename_i h1;rw[if_neg h1];have q1:=Jz hs (Cd a 64).toNat (JL l 0 0).1 (Cd b 65536) (ay hs.w 0 0) (bW l 0 0) hb.1 hb.2 (by omega);have q2:=D8 hs.w (B:=65536) (Cd a 64).toNat (JL l 0 0).1 (ay hs.w 0 0) (Cd b 65536) hb.1 hb.2;simp only;omega
def Mz (most:Int) (e:E):Bool:=Bu 64 e&&He most (AU e)&&decide ((GX [Pd most (AU e)] 64 65536).2.2=0)
def sJ (most:Int) (e:E):List Int:=if Mz most e=true then Pd most (AU e) else []
theorem RM:G.Spec Tryz.prog 44 [] (liX 64 65536 0 0):=by
 refine Ah Ys (by simp) fun w0 I0=>?_;unfold Ow;simp;exact Ab rfl
theorem QK {e:E} (hw:PA e) (hs:T7 1048575 e) (most:Int) (hsz:Bu 64 e=true→Aj 64 (AU e)=true→Co (Af (AU e))<9223372036854775808) :
  G.Spec Tryz.prog 17 [eX e,iv most] (.tup [Ff (sJ most e),bv (Mz most e)]):=by
 have no:Mz most e=false→sJ most e=[]:=fun h=>by simp[sJ,h]
 have hwt:=O4 e hw hs (.inr trivial);have sg:=xJ (most:=most) hwt;refine Ah Xx (by simp) fun w0 I0=>?_;unfold OG;simp;refine Ae (Sa hw) (by simp) ?_;by_cases hr:Bu 64 e=true
 ·simp[hr];refine Ae (Z3 e hw hs ⟨64,hr⟩) (by simp) ?_;simp;refine Ae (X3 hwt most (fun h1 _=>hsz hr h1)) (by simp) ?_;by_cases hc:He most (AU e)=true
  ·simp[hc];refine Ae ((oJ [Pd most (AU e)] (by simp) sg.b).soft (by simp[A.softL,A.soft,Hu])) (by simp) ?_;simp;refine Ae RM (by simp) ?_;simp;refine Ae (U3 sg 64 65536 0 0) (by simp) ?_;by_cases hu:(GX [Pd most (AU e)] 64 65536).2.2=0
   ·have hf:Mz most e=true:=by simp[Mz,hr,hc,hu]
    have hW:sJ most e=Pd most (AU e):=by simp[sJ,hf]
    rw[hW,hf];simp[hu];exact Ab rfl
   ·have hf:Mz most e=false:=by simp[Mz,hu]
    rw[no hf,hf];simp[hu];exact CY (by simp;exact⟨Au,Ab rfl⟩)
  ·have hf:Mz most e=false:=by simp[Mz,hc]
   rw[no hf,hf];simp at hc;simp[hc];exact CY (by simp;exact⟨Au,Ab rfl⟩)
 ·have hf:Mz most e=false:=by simp[Mz,hr]
  rw[no hf,hf];simp at hr;simp[hr];exact CY (by simp;exact⟨Au,Ab rfl⟩)
end Go.Proofs.YtbjmaoedheiigaaGreat
namespace Go.Proofs.YtbjmaoedheiigaaGreat
set_option maxRecDepth 20000
open Go Go.G Go.Proofs
def Ee:CC:=sQ [mO 14 4,fO 15 25 1 2,lO 16 23 15,bN 17 16 23,bB .lss 18 3 14 17 3] [1,3,4,18] (cD 18 (.skip) (.exit 0)) [1,3,4] (.seq (.block 1 (sR [fO 21 25 1 2,lO 22 23 21,mO 23 4,iO 24 23 22 23,lO 25 25 24,cA 26 9 25 25,aO 5 26] [1,3,4,5] (sR [mO 27 5,bQ .add 28 3 27 1 3,mO 29 3,bB .gtr 30 3 28 29 3] [1,3,4,5,30] (cD 30 (.reg [mO 31 5,bQ .add 32 3 31 1 3,aO 3 32] [1,3,4]) (.skip))))) (.keep [1,3,4] (.reg [mO 19 4,bQ .add 20 3 19 1 3,aO 4 20] [1,3,4]))) 
def J4:CC:=sR [bX 1 25 0 [0],aI 2 0] [1] (sQ [fO 6 25 1 0,lO 7 3 6,bQ .eql 8 3 7 0 3,mO 9 8,fG 10 25 1 0 9 false,lG 11 3 10 9 false,oG 12 (.binOp .eql 3 (xT 11) (nI 10) 3) 9 false,pT 13 9 12] [1,13] (cD 13 (sR [aI 2 0] [2] (.ret)) (.skip)) [1] (sR [aI 3 1] [1,3] (sQ [aI 4 0] [1,3,4] (.block 0 (.loop Ee)) [3] (sR [mO 33 3,aO 2 33] [2] (.ret)))))
theorem QF:Bm Tryz.prog 9 34 [(.tmp 2)] J4:=Aw Tryz.func9
end Go.Proofs.YtbjmaoedheiigaaGreat
