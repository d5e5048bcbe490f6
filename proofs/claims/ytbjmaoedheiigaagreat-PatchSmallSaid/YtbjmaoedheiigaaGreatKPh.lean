/-
 Texts,merged,without what is not reached.
-/
import Derived.Test.YtbjmaoedheiigaaGreatKPg
set_option linter.unusedSimpArgs false
set_option linter.unusedVariables false
open Go.IntKind (i64 u64)
namespace Go.Proofs.YtbjmaoedheiigaaGreat
open Go Go.G Go.Proofs Go.PL
mutual
def Am:T→Nat
 |.mk k w l=>if k=0∨k=10 then 0 else Du 1 l
def Du:Nat→List T→Nat
 |n,[]=>n
 |n,t::l=>Du (max n (Am t+1)) l
end
theorem Cy (k:Int) (w:List Int) (l:List T):Am (.mk k w l)=if k=0∨k=10 then 0 else Du 1 l:=by rw[Am]
mutual
theorem Vy:∀ t:T,(Am t:Int)≤BH t
 |.mk k w l=>by
  have h:=Sn l 1;have hp:=D7 l;rw[Cy,EZ];split
  ·omega
  ·omega
theorem Sn:∀ (l:List T) (n:Nat),(Du n l:Int)≤max (n:Int) (1+C7 l)
 |[],n=>by
  rw[Du];omega
 |t::l,n=>by
  have h1:=Vy t;have h2:=Sn l (max n (Am t+1));have hp:=D7 l;have hq:=Kw t;rw[Du,Dm];omega
end
variable {n0:Nat} {w0:World} {I0:Nat→Prop} {Q:Exit→Sta→Prop}
theorem yh {t:T} (hl:t.kids.length≤1000) (hp:∀ c,c ∈ t.kids→BH c≤1000) (ih:∀ c,c ∈ t.kids→G.Spec Tryz.prog 9 [tX c] (iv (Am c:Nat))) {H:Hp} (hH:H [0]=⟨1,.cells (tL t)⟩) {R:Nat}
  (hq:∀ st,Q (.exit 0) ⟨lk ([(1,.pob [0] 1 0),(3,iv (R:Nat))]++st),H⟩):∀ (m i n:Nat),i+m=t.kids.length→R=Du n (t.kids.drop i) →
  LoopC (cx Tryz.prog w0 I0 n0) Ee Q ⟨lk [(1,.pob [0] 1 0),(3,iv n),(4,iv i)],H⟩:=by
 intro m;induction m with
 |zero=>
  intro i n hm hR;have:i=t.kids.length:=by omega
  subst this;rw[List.drop_length,Du] at hR;subst hR;refine Ad Ai Ee.eq_1 ?_;simp[hH];have:=hq [(4,iv t.kids.length),(18,bv false)];simpa using this
 |succ m ihm=>
  intro i n hm hR;have hlt:i<t.kids.length:=by omega
  have ew:=AM i;have hd:t.kids.drop i=t.kids[i]::t.kids.drop (i+1):=(List.getElem_cons_drop hlt).symm;have hS:=ih _ (A5 hlt);have hpc:=hp _ (A5 hlt);have hdp:=Vy t.kids[i];rw[hd,Du] at hR;have next:=ihm (i+1)
  generalize hx:t.kids[i]=x at *;have ed:i64.wrap ((Am x:Int)+1)=((Am x+1:Nat):Int):=Bl;refine Ad Ai Ee.eq_1 ?_;simp[hlt,hH,hx];refine Ae hS (by simp) ?_;by_cases hc:(n:Int)<(Am x:Int)+1
  ·have hmx:max n (Am x+1)=Am x+1:=by omega
   rw[hmx] at hR;simp[ed,ew,hc];exact next (Am x+1) (by omega) hR
  ·have hmx:max n (Am x+1)=n:=by omega
   rw[hmx] at hR;simp[ed,ew,hc];exact next n (by omega) hR
theorem YK:∀ t:T,Bx t→BH t≤1000→G.Spec Tryz.prog 9 [tX t] (iv (Am t:Nat)):=by
 refine T.ind fun k w l ih hw hp=>?_;have hks:=(wfT_iff.1 hw).ks;rw[EZ] at hp;have hl:=D7 l;refine Ah QF (by simp) fun w0 I0=>?_;unfold J4;by_cases h0:k=0
 ·simp[h0,Cy];exact AW rfl (by simp[Cy])
 ·by_cases h10:k=10
  ·simp[h10];exact AW rfl (by simp[Cy])
  ·simp[h0,h10];refine LoopC.le (AE [(1,.pob [0] 1 0),(3,iv (1:Nat)),(4,iv (0:Nat))] (by simp)) ?_;refine yh (t:=.mk k w l) (R:=Du 1 l) (by show l.length≤1000;omega) (fun c hc=>by have:=Qy (show c ∈ l from hc);omega) (fun c hc=>ih c hc (hks c hc) (by have:=Qy (show c ∈ l from hc);omega)) (by simp) (fun st=>?_) l.length 0 1 (by simp) rfl;simp;exact AW rfl (by simp[Cy,h0,h10])
inductive gF (list:Int):OP→Prop
 |keep (n:Int):gF list (.mk 0 n [] E0)
 |del (l:List T) (h:l ≠ []) (g:l.map Af=l):gF list (.mk 1 0 l E0)
 |ins (l:List T) (h:l ≠ []) (g:l.map Af=l):gF list (.mk 2 0 l E0)
 |desc (e:E) (h:Ju list e=false) (g:Jl e=e):gF list (.mk 3 0 [] e)
def AaH (s t:Int):Prop:=¬ (s=0∧t=0)∧(t=1→s ≠ 1∧s ≠ 2)∧(t=2→s ≠ 2)
def Wr (list:Int):Int→List OP→Prop
 |_,[]=>True
 |s,o::os=>gF list o∧AaH s o.kind∧Wr list o.kind os
def W7:Int→List OP→Int
 |s,[]=>s
 |_,o::os=>W7 o.kind os
theorem EX:∀ (W:List OP) (s:Int) (o:OP),W7 s (W++[o])=o.kind
 |[],s,o=>rfl
 |x::W,s,o=>EX W x.kind o
theorem KD {list:Int}:∀ {W:List OP} {s:Int} {o:OP},Wr list s W→gF list o→AaH (W7 s W) o.kind→Wr list s (W++[o])
 |[],s,o,_,h2,h3=>⟨h2,h3,trivial⟩
 |x::W,s,o,h1,h2,h3=>⟨h1.1,h1.2.1,KD h1.2.2 h2 h3⟩
theorem jI {list:Int}:∀ {W:List OP} {s:Int} {o:OP},Wr list s (W++[o])→Wr list s W∧gF list o∧AaH (W7 s W) o.kind
 |[],s,o,h=>⟨trivial,h.1,h.2.1⟩
 |x::W,s,o,h=>by
  obtain⟨h1,h2,h3⟩:=h;obtain⟨g1,g2,g3⟩:=jI h3;exact⟨⟨h1,h2,g1⟩,g2,g3⟩
theorem TR {out:List OP} {n:Int} (h:∀ m l e,out.getLast? ≠ some (.mk 0 m l e)):RG out n=out++[.mk 0 n [] E0]:=by
 unfold RG;split
 ·rename_i m l e he;exact absurd he (h m l e)
 ·rfl
theorem O0 (out:List OP):Nc out [] []=out:=by simp[Nc,DE,Dx]
theorem cJ {out:List OP} {l:List T} (h:l ≠ []):Nc out l []=out++[.mk 1 0 l E0]:=by simp[Nc,DE,Dx,h]
theorem dZ {out:List OP} (g:List T) {l:List T} (h:l ≠ []):Nc out g l=Nc out g []++[.mk 2 0 l E0]:=by simp[Nc,Dx,h]
theorem ku {out:List OP} {g b:List T} (h:g ≠ []∨b ≠ []):∀ m l e,(Nc out g b).getLast? ≠ some (.mk 0 m l e):=by
 intro m l e;by_cases hb:b=[]
 ·subst hb;have hg:g ≠ []:=by rcases h with h | h;exact h;exact absurd rfl h
  rw[cJ hg];simp
 ·rw[dZ g hb];simp
theorem XM {list:Int}:∀ (W:List OP) (s:Int) (out:List OP) (g b:List T),Wr list s W→(s=1→g ≠ []∧b=[])→(s=2→b ≠ [])→(s ≠ 1→s ≠ 2→g=[]∧b=[])→(s ≠ 0→s ≠ 1→s ≠ 2→∀ m l e,out.getLast? ≠ some (.mk 0 m l e))→ED list (W.map LP) out g b=Nc out g b++W
 |[],s,out,g,b,_,_,_,_,_=>by simp[ED]
 |o::W,s,out,g,b,h,c1,c2,c3,c4=>by
  obtain⟨h1,h2,h3⟩:=h;rw[List.map_cons,ED];cases h1 with
  |keep n=>
   have hl:∀ m l e,(Nc out g b).getLast? ≠ some (.mk 0 m l e):=by
    have hs:s ≠ 0:=fun e=>h2.1 ⟨e,rfl⟩;by_cases e1:s=1
    ·exact ku (.inl (c1 e1).1)
    ·by_cases e2:s=2
     ·exact ku (.inr (c2 e2))
     ·obtain⟨rfl,rfl⟩:=c3 e1 e2;rw[O0];exact c4 hs e1 e2
   rw[if_pos (show(LP (.mk 0 n [] E0)).kind=0 from rfl)];show ED list (W.map LP) (RG (Nc out g b) n) [] []=_;rw[TR hl,XM W 0 _ [] [] h3 (fun h=>absurd h (by decide)) (fun h=>absurd h (by decide)) (fun _ _=>⟨rfl,rfl⟩) (fun h=>absurd rfl h),O0];simp
  |del l hne hn=>
   obtain⟨s1,s2⟩:=h2.2.1 rfl;obtain⟨rfl,rfl⟩:=c3 s1 s2;rw[if_neg (show ¬ (LP (.mk 1 0 l E0)).kind=0 by show ¬ (1:Int)=0;decide),if_pos (show(LP (.mk 1 0 l E0)).kind=1 from rfl)];show ED list (W.map LP) out ([]++l.map Af) []=_;rw[List.nil_append,hn,XM W 1 _ l [] h3 (fun _=>⟨hne,rfl⟩) (fun h=>absurd h (by decide)) (fun h=>absurd rfl h) (fun _ h=>absurd rfl h),cJ hne,O0];simp
  |ins l hne hn=>
   have s2:=h2.2.2 rfl;have hb:b=[]:=by
    by_cases e1:s=1
    ·exact(c1 e1).2
    ·exact(c3 e1 s2).2
   subst hb;rw[if_neg (show ¬ (LP (.mk 2 0 l E0)).kind=0 by show ¬ (2:Int)=0;decide),if_neg (show ¬ (LP (.mk 2 0 l E0)).kind=1 by show ¬ (2:Int)=1;decide),if_pos (show(LP (.mk 2 0 l E0)).kind=2 from rfl)];show ED list (W.map LP) out g ([]++l.map Af)=_;rw[List.nil_append,hn,XM W 2 _ g l h3 (fun h=>absurd h (by decide)) (fun _=>hne) (fun _ h=>absurd rfl h) (fun _ _ h=>absurd rfl h),dZ g hne];simp
  |desc e hi hn=>
   have hi':Ju list (LP (.mk 3 0 [] e)).e=false:=by show Ju list (Jl e)=false;rw[hn];exact hi
   rw[if_neg (show ¬ (LP (.mk 3 0 [] e)).kind=0 by show ¬ (3:Int)=0;decide),if_neg (show ¬ (LP (.mk 3 0 [] e)).kind=1 by show ¬ (3:Int)=1;decide),if_neg (show ¬ (LP (.mk 3 0 [] e)).kind=2 by show ¬ (3:Int)=2;decide),if_neg (by rw[hi'];decide)];show ED list (W.map LP) (Nc out g b++[.mk 3 0 [] (Jl e)]) [] []=_;rw[hn,XM W 3 _ [] [] h3 (fun h=>absurd h (by decide)) (fun h=>absurd h (by decide)) (fun _ _=>⟨rfl,rfl⟩) (fun _ _ _ m l e=>by simp),O0];simp
theorem AbT {list:Int} {out:List OP} {g b:List T} (h:Wr list 4 out) (he:W7 4 out ≠ 1∧W7 4 out ≠ 2) (hg:g.map Af=g) (hb:b.map Af=b):Wr list 4 (Nc out g b):=by
 have h1:Wr list 4 (Nc out g [])∧W7 4 (Nc out g []) ≠ 2:=by
  by_cases e:g=[]
  ·subst e;rw[O0];exact⟨h,he.2⟩
  ·rw[cJ e];refine⟨KD h (.del g e hg) ⟨fun h=>absurd h.2 (by show ¬ (1:Int)=0;decide),fun _=>he,fun h=>absurd h (by show ¬ (1:Int)=2;decide)⟩,?_⟩;rw[EX];show ¬ (1:Int)=2;decide
 by_cases e:b=[]
 ·subst e;exact h1.1
 ·rw[dZ g e];exact KD h1.1 (.ins b e hb) ⟨fun h=>absurd h.2 (by show ¬ (2:Int)=0;decide),fun h=>absurd h (by show ¬ (2:Int)=1;decide),fun _=>h1.2⟩
theorem Ag3 {list:Int} {F:List OP} (n:Int) (h:Wr list 4 F):Wr list 4 (RG F n)∧W7 4 (RG F n)=0:=by
 rcases List.eq_nil_or_concat F with rfl | ⟨D,x,rfl⟩
 ·exact⟨⟨.keep n,⟨fun h=>absurd h.1 (by decide),fun h=>absurd h (by show ¬ (0:Int)=1;decide),fun h=>absurd h (by show ¬ (0:Int)=2;decide)⟩,trivial⟩,rfl⟩
 ·rw[List.concat_eq_append] at h ⊢;obtain⟨g1,g2,g3⟩:=jI h;cases g2 with
  |keep m=>
   have e:RG (D++[OP.mk 0 m [] E0]) n=D++[.mk 0 (i64.wrap (m+n)) [] E0]:=by
    unfold RG;rw[List.getLast?_concat];simp
   rw[e];exact⟨KD g1 (.keep _) g3,EX _ _ _⟩
  |del l hne hn=>
   rw[TR (by simp)];refine⟨KD h (.keep n) ?_,EX _ _ _⟩;rw[EX];exact⟨fun h=>absurd h.1 (by show ¬ (1:Int)=0;decide),fun h=>absurd h (by show ¬ (0:Int)=1;decide),fun h=>absurd h (by show ¬ (0:Int)=2;decide)⟩
  |ins l hne hn=>
   rw[TR (by simp)];refine⟨KD h (.keep n) ?_,EX _ _ _⟩;rw[EX];exact⟨fun h=>absurd h.1 (by show ¬ (2:Int)=0;decide),fun h=>absurd h (by show ¬ (0:Int)=1;decide),fun h=>absurd h (by show ¬ (0:Int)=2;decide)⟩
  |desc e hi hn=>
   rw[TR (by simp)];refine⟨KD h (.keep n) ?_,EX _ _ _⟩;rw[EX];exact⟨fun h=>absurd h.1 (by show ¬ (3:Int)=0;decide),fun h=>absurd h (by show ¬ (0:Int)=1;decide),fun h=>absurd h (by show ¬ (0:Int)=2;decide)⟩
theorem Pb (l:List T):(l.map Af).map Af=l.map Af:=by
 rw[List.map_map];exact List.map_congr_left fun x _=>Cz x
theorem QV {list:Int}:∀ (os out:List OP) (g b:List T),(∀ o,o ∈ os→o.kind ≠ 0→o.kind ≠ 1→o.kind ≠ 2→Jl o.e=o.e)→Wr list 4 out→(W7 4 out ≠ 1∧W7 4 out ≠ 2)→g.map Af=g→b.map Af=b→Wr list 4 (ED list os out g b)
 |[],out,g,b,_,h,he,hg,hb=>by
  rw[ED];exact AbT h he hg hb
 |o::os,out,g,b,ho,h,he,hg,hb=>by
  have ho':∀ o,o ∈ os→o.kind ≠ 0→o.kind ≠ 1→o.kind ≠ 2→Jl o.e=o.e:=fun x hx=>ho x (List.mem_cons_of_mem _ hx);have hf:=AbT h he hg hb;have k:=fun n=>Ag3 n hf;rw[ED];split
  ·exact QV os _ [] [] ho' (k o.n).1 (by rw[(k o.n).2];decide) rfl rfl
  ·split
   ·exact QV os _ _ _ ho' h he (by rw[List.map_append,hg,Pb]) hb
   ·split
    ·exact QV os _ _ _ ho' h he hg (by rw[List.map_append,hb,Pb])
    ·split
     ·exact QV os _ [] [] ho' (k 1).1 (by rw[(k 1).2];decide) rfl rfl
     ·rename_i h0 h1 h2 hi;have hlast:AaH (W7 4 (Nc out g b)) (OP.mk 3 0 [] o.e).kind:=⟨fun h=>absurd h.2 (by show ¬ (3:Int)=0;decide),fun h=>absurd h (by show ¬ (3:Int)=1;decide),fun h=>absurd h (by show ¬ (3:Int)=2;decide)⟩;refine QV os _ [] [] ho' (KD hf (.desc o.e (by simpa using hi) (ho o (by simp) h0 h1 h2)) hlast) ?_ rfl rfl;rw[EX];show(3:Int) ≠ 1∧(3:Int) ≠ 2;decide
theorem YY:Jl E0=E0:=by unfold E0;rw[FP];simp
theorem Aav:∀ e:E,VK e→Jl (Jl e)=Jl e:=by
 refine E.ind fun k o n ws ks l os ihk iho h=>?_;rw[VK] at h;obtain⟨hk,hl,hon,hwl,hkl,hol,hsum,hks,hos⟩:=h;rw[FP];split
 ·rw[FP,if_pos rfl,Cz,Cz]
 ·split
  ·rename_i h1 h2;rw[FP,if_neg (by decide),if_pos rfl,List.map_map];congr 1;refine List.map_congr_left fun x hx=>?_;show KE.mk x.at_ (Jl (Jl x.e))=iR x;rw[ihk x hx (SS (hks h2) x hx)];rfl
  ·split
   ·rename_i h1 h2 h3;rw[FP,if_neg (by decide),if_neg (by decide),if_pos rfl];have hw:=QV (list:=l) (os.map LP) [] [] [] (fun x hx e0 e1 e2=>by
     obtain⟨y,hy,rfl⟩:=List.mem_map.1 hx;obtain⟨g1,g2,g3⟩:=RT (hos h3) y hy;have:y.kind=3:=by
      have e0':y.kind ≠ 0:=e0;have e1':y.kind ≠ 1:=e1;have e2':y.kind ≠ 2:=e2;omega
     exact iho y hy (g3 this)) trivial (by show(4:Int) ≠ 1∧(4:Int) ≠ 2;decide) rfl rfl
    have:=XM _ 4 [] [] [] hw (fun h=>absurd h (by decide)) (fun h=>absurd h (by decide)) (fun _ _=>⟨rfl,rfl⟩) (fun _ _ _ m l e=>by simp);rw[this,O0,List.nil_append]
   ·exact YY
inductive Qj {α β:Type} (R:α→β→Prop):List Nat→List α→List β→Prop
 |nil:Qj R [] [] []
 |keep {us:List Nat} {a:List α} {b:List β} (x:α) (y:β) (h:R x y):Qj R us a b→Qj R (0::us) (x::a) (y::b)
 |del {us:List Nat} {a:List α} {b:List β} (x:α):Qj R us a b→Qj R (1::us) (x::a) b
 |ins {us:List Nat} {a:List α} {b:List β} (y:β):Qj R us a b→Qj R (2::us) a (y::b)
section
variable {α β:Type} {R:α→β→Prop}
theorem M6 {us vs:List Nat} {a c:List α} {b d:List β} (h:Qj R us a b) (g:Qj R vs c d):Qj R (us++vs) (a++c) (b++d):=by
 induction h with
 |nil=>exact g
 |keep x y h _ ih=>exact .keep x y h ih
 |del x _ ih=>exact .del x ih
 |ins y _ ih=>exact .ins y ih
theorem EY:∀ {us vs:List Nat} {a:List α} {b:List β},Qj R (us++vs) a b→∃ a1 a2 b1 b2,a=a1++a2∧b=b1++b2∧Qj R us a1 b1∧Qj R vs a2 b2
 |[],vs,a,b,h=>⟨[],a,[],b,rfl,rfl,.nil,h⟩
 |u::us,vs,a,b,h=>by
  cases h with
  |keep x y r h=>
   obtain⟨a1,a2,b1,b2,rfl,rfl,h1,h2⟩:=EY h;exact⟨x::a1,a2,y::b1,b2,rfl,rfl,.keep x y r h1,h2⟩
  |del x h=>
   obtain⟨a1,a2,b1,b2,rfl,rfl,h1,h2⟩:=EY h;exact⟨x::a1,a2,b1,b2,rfl,rfl,.del x h1,h2⟩
  |ins y h=>
   obtain⟨a1,a2,b1,b2,rfl,rfl,h1,h2⟩:=EY h;exact⟨a1,a2,y::b1,b2,rfl,rfl,.ins y h1,h2⟩
theorem RL:∀ (b:List β),Qj R (List.replicate b.length 2) [] b
 |[]=>.nil
 |y::b=>.ins y (RL b)
theorem kh:∀ (i:Nat) {us:List Nat} {a:List α} {b:List β},Qj R (List.replicate i 2++1::us) a b→Qj R (1::(List.replicate i 2++us)) a b
 |0,us,a,b,h=>h
 |i+1,us,a,b,h=>by
  cases h with
  |ins y h=>
   cases kh i h with
   |del x h=>exact .del x (.ins y h)
theorem La:∀ (n:Nat) {a:List α} {b:List β},Qj R (List.replicate n 2) a b→a=[]∧b.length=n
 |0,a,b,h=>by cases h;exact⟨rfl,rfl⟩
 |n+1,a,b,h=>by
  cases h with
  |ins y h=>
   obtain⟨h1,h2⟩:=La n h;exact⟨h1,by simp[h2]⟩
theorem NH:∀ (n:Nat) {a:List α} {b:List β},Qj R (List.replicate n 1) a b→b=[]∧a.length=n
 |0,a,b,h=>by cases h;exact⟨rfl,rfl⟩
 |n+1,a,b,h=>by
  cases h with
  |del y h=>
   obtain⟨h1,h2⟩:=NH n h;exact⟨h1,by simp[h2]⟩
theorem V8:∀ (us:List Nat) (k d i:Nat) {a:List α} {b:List β},(k=0∨(d=0∧i=0))→Qj R (List.replicate k 0++(List.replicate d 1++(List.replicate i 2++us))) a b→Qj R (Bs (Qu us k d i)) a b
 |[],k,d,i,a,b,hc,h=>by
  simp only[Qu,J2,Oc];simpa using h
 |x::us,k,d,i,a,b,hc,h=>by
  rw[Qu];by_cases h0:x=0
  ·subst h0;rw[if_pos rfl];simp only[J2,Oc];have e:List.replicate k 0++(List.replicate d 1++(List.replicate i 2++0::us))=(List.replicate d 1++List.replicate i 2)++(List.replicate (k+1) 0++us):=by
    rcases hc with rfl | ⟨rfl,rfl⟩
    ·simp
    ·simp[List.replicate_succ']
   rw[e] at h;obtain⟨a1,a2,b1,b2,rfl,rfl,h1,h2⟩:=EY h;rw[← List.append_assoc];exact M6 h1 (V8 us (k+1) 0 0 (.inr ⟨rfl,rfl⟩) (by simpa using h2))
  ·rw[if_neg h0];simp only[J2,Oc];obtain⟨a1,a2,b1,b2,rfl,rfl,h1,h2⟩:=EY h;refine M6 h1 ?_;by_cases h3:x=1
   ·subst h3;rw[if_pos rfl];refine V8 us 0 (d+1) i (.inl rfl) ?_;obtain⟨a3,a4,b3,b4,rfl,rfl,h4,h5⟩:=EY h2;have:=M6 h4 (kh i h5);have e:List.replicate d 1++(1::(List.replicate i 2++us))=List.replicate (d+1) 1++(List.replicate i 2++us):=by simp[List.replicate_succ']
    rw[e] at this;simpa using this
   ·rw[if_neg h3];obtain⟨a3,a4,b3,b4,rfl,rfl,h4,h5⟩:=EY h2;obtain⟨a5,a6,b5,b6,rfl,rfl,h6,h7⟩:=EY h5;clear h h2 h5;cases h7 with
    |keep x y r w=>exact absurd rfl h0
    |del x w=>exact absurd rfl h3
    |ins y w=>
     refine V8 us 0 d (i+1) (.inl rfl) ?_;have:=M6 h4 (M6 h6 (.ins y w));have e:List.replicate d 1++(List.replicate i 2++2::us)=List.replicate d 1++(List.replicate (i+1) 2++us):=by simp[List.replicate_succ']
     rw[e] at this;simpa using this
theorem zL {us:List Nat} {a:List α} {b:List β} (h:Qj R us a b):Qj R (Bs (Lu us)) a b:=V8 us 0 0 0 (.inl rfl) (by simpa using h)
end
theorem Pj {α β:Type} {f:α→β}:∀ {us:List Nat} {a b:List α},Qj (fun x y:β=>x=y) us (a.map f) (b.map f)→Qj (fun x y=>f x=f y) us a b
 |us,[],[],h=>by cases h;exact .nil
 |us,x::a,[],h=>by
  cases h with
  |del x h=>exact .del _ (Pj (b:=[]) h)
 |us,[],y::b,h=>by
  cases h with
  |ins x h=>exact .ins _ (Pj (a:=[]) h)
 |us,x::a,y::b,h=>by
  cases h with
  |keep x y r h=>exact .keep _ _ r (Pj h)
  |del x h=>exact .del _ (Pj (b:=y::b) h)
  |ins x h=>exact .ins _ (Pj (a:=x::a) h)
theorem yN {α β:Type} {R R':α→β→Prop} {us:List Nat} {a:List α} {b:List β} (h:∀ x,x ∈ a→∀ y,y ∈ b→R x y→R' x y) (w:Qj R us a b):Qj R' us a b:=by
 induction w with
 |nil=>exact .nil
 |keep x y r _ ih=>exact .keep x y (h x (by simp) y (by simp) r) (ih fun p hp q hq=>h p (List.mem_cons_of_mem _ hp) q (List.mem_cons_of_mem _ hq))
 |del x _ ih=>exact .del x (ih fun p hp q hq=>h p (List.mem_cons_of_mem _ hp) q hq)
 |ins y _ ih=>exact .ins y (ih fun p hp q hq=>h p hp q (List.mem_cons_of_mem _ hq))
def cK (us:List Nat):Nat:=us.countP fun x=>x == 0
theorem vI (a b:List Nat):cK (a++b)=cK a+cK b:=List.countP_append
theorem dq (n k:Nat):cK (List.replicate n k)=if k=0 then n else 0:=by unfold cK;rw[List.countP_replicate];by_cases h:k=0<;>simp[h]
theorem oP (x:Nat) (us:List Nat):cK (x::us)=(if x=0 then 1 else 0)+cK us:=by
 unfold cK;rw[List.countP_cons];by_cases h:x=0<;>simp[h]
 omega
theorem wG (x:Int):∀ b:List Int,DC x b<b.length ↔ x ∈ b:=by
 intro b;constructor
 ·intro h;have:=SO x h;rw[← this];exact A5 h
 ·intro h;apply Classical.byContradiction;intro hn;have hle:=S5 x b;have he:DC x b=b.length:=by omega
  have:=R8 x (b:=b) (j:=b.length) (by omega);rw[BO (Cb _)] at this;exact this h
theorem zp (x:Int) (b:List Int):Qj (fun x y:Int=>x=y) (Gj [x] b) [x] b:=by
 rw[XP];split
 ·rename_i h;have e:b=b.take (DC x b)++(b[DC x b]::b.drop (DC x b+1)):=by
   conv=>lhs;rw[← List.take_append_drop (DC x b) b]
   rw[List.getElem_cons_drop]
  have h1:=RL (R:=fun x y:Int=>x=y) (b.take (DC x b));have h2:=RL (R:=fun x y:Int=>x=y) (b.drop (DC x b+1));rw[List.length_take,Nat.min_eq_left (by omega)] at h1;rw[List.length_drop,show b.length-(DC x b+1)=b.length-DC x b-1 by omega] at h2;have:=M6 h1 (.keep x b[DC x b] (SO x h).symm h2);rw[← e] at this;exact this
 ·exact .del x (RL b)
theorem Acp (x:Int) (b:List Int):cK (Gj [x] b)=AO [x] b:=by
 rw[XP,cq];have:=wG x b;split
 ·rename_i h;rw[if_pos (this.1 h),vI,oP,dq,dq];simp
 ·rename_i h;rw[if_neg (fun hx=>h (this.2 hx)),oP,dq];simp
theorem pK:∀ (a b:List Int),Qj (fun x y:Int=>x=y) (Gj a b) a b∧cK (Gj a b)=AO a b
 |[],b=>by
  rw[iu];exact⟨RL b,by rw[dq];simp⟩
 |x::a,b=>by
  have hw:=H8 (a:=x::a) (b:=b) (i:=1) (by simp);rw[aJ (x::a) b (h:=1) (by simp)];generalize CF (x::a) b 1=w at *;have e1:(x::a).take 1=[x]:=by simp
  have e2:(x::a).drop 1=a:=by simp
  rw[e1,e2];obtain⟨g1,g2⟩:=pK a (b.drop w);constructor
  ·have:=M6 (zp x (b.take w)) g1;rw[List.take_append_drop] at this;exact this
  ·rw[vI,Acp,g2];have h:=hw.1;unfold Rt at h;have h:=of_decide_eq_true h;unfold HM at h;rw[SJ,SJ,cV,cV,e1,e2] at h;exact h
theorem XJ {ks:List T} {n:T} (h:n ∈ ks):GY ks n=ks∧ks[Fy ks n]? = some n:=by
 have h1:Fy ks n<ks.length:=by
  unfold Fy;exact List.findIdx_lt_length_of_exists ⟨n,h,sameB_iff.2 rfl⟩
 have e:GY ks n=ks:=by unfold GY;rw[if_pos h1]
 have:=V9 ks n;rw[e] at this;exact⟨e,this⟩
theorem Yz:∀ (l K:List T),(∀ t,t ∈ l→Af t ∈ K)→CI K l=(K,l.map fun t=>Fy K (Af t))
 |[],K,_=>rfl
 |t::l,K,h=>by
  rw[CI,(XJ (h t (by simp))).1,Yz l K fun x hx=>h x (List.mem_cons_of_mem _ hx)];rfl
theorem Xd:∀ (l ks:List T),∀ t,t ∈ l→Af t ∈ (CI ks l).1
 |x::l,ks,t,h=>by
  rw[CI];rcases List.mem_cons.1 h with rfl | h
  ·have h1:=IZ l (GY ks (Af t));have h2:=V9 ks (Af t);exact h1.subset (List.mem_of_getElem? h2)
  ·exact Xd l _ t h
theorem vh {K:List T} {s t:T} (hs:Af s ∈ K) (ht:Af t ∈ K) (h:Fy K (Af s)=Fy K (Af t)):Af s=Af t:=by
 have h1:=(XJ hs).2;have h2:=(XJ ht).2;rw[h,h2] at h1;exact(Option.some.inj h1).symm
noncomputable def yH (a b:List T):List T:=(CI (CI [] a).1 b).1
noncomputable def clZ (a b:List T) (t:T):Int:=(Fy (yH a b) (Af t):Nat)
theorem ak (a b:List T):(yH a b).Nodup:=Qv (Qv List.nodup_nil)
theorem Abu (a b:List T):∀ t,t ∈ a→Af t ∈ yH a b:=fun t ht=>(IZ b (CI [] a).1).subset (Xd a [] t ht)
theorem Abt (a b:List T):∀ t,t ∈ b→Af t ∈ yH a b:=Xd b _
theorem Acy (a b:T):Wa a=a.kids.map (clZ a.kids b.kids):=by
 have h1:=QJ (l:=a.kids) (ks:=[]) (ks':=yH a.kids b.kids) (IZ b.kids _) (ak _ _);rw[Yz _ _ (Abu a.kids b.kids)] at h1;have h2:(CI [] a.kids).2=a.kids.map fun t=>Fy (yH a.kids b.kids) (Af t):=(Prod.mk.inj h1).2.symm;unfold Wa yC;rw[h2,List.map_map];rfl
theorem AcC (a b:T):VY a b=b.kids.map (clZ a.kids b.kids):=by
 have h1:=QJ (l:=b.kids) (ks:=(CI [] a.kids).1) (ks':=yH a.kids b.kids) List.prefix_rfl (ak _ _);rw[Yz _ _ (Abt a.kids b.kids)] at h1;have h2:(CI (CI [] a.kids).1 b.kids).2=b.kids.map fun t=>Fy (yH a.kids b.kids) (Af t):=(Prod.mk.inj h1).2.symm;unfold VY yC;rw[h2,List.map_map];rfl
theorem Ady {a b:List T} {s t:T} (hs:Af s ∈ yH a b) (ht:Af t ∈ yH a b):clZ a b s=clZ a b t ↔ Af s=Af t:=by
 constructor
 ·intro h;unfold clZ at h;exact vh hs ht (by omega)
 ·intro h;unfold clZ;rw[h]
theorem wB (a b:T):Qj (fun x y=>Af x=Af y) (Bs (Lu (Gj (Wa a) (VY a b)))) a.kids b.kids:=by
 have h:=(pK (Wa a) (VY a b)).1;have h:=zL h;rw[Acy a b,AcC a b] at h ⊢;refine yN (fun x hx y hy e=>?_) (Pj h);exact(Ady (Abu _ _ x hx) (Abt _ _ y hy)).1 e
theorem ZR (a:Int):∀ k,HP a a k=0
 |0=>rfl
 |k+1=>by
  unfold HP;rw[ZR a k];simp
theorem ZV {a b:Int}:∀ k,HP a b k=0→∀ i,i<k→B5 a i=B5 b i
 |0,_,i,h=>by omega
 |k+1,h,i,hi=>by
  unfold HP at h;have h1:HP a b k=0:=by omega
  have h2:(if B5 a k ≠ B5 b k then 2 ^ k else 0)=0:=by omega
  by_cases e:i=k
  ·subst e;apply Classical.byContradiction;intro hne;rw[if_pos hne] at h2;have:=Nat.pow_pos (n:=i) (show 0<2 by omega);omega
  ·exact ZV k h1 i (by omega)
theorem vY {a b:Int} (ha:BI a) (hb:BI b):EC a b=0 ↔ a=b:=by
 constructor
 ·intro h;have h':HP a b 8=0:=by unfold EC at h;omega
  have g:=ZV 8 h';have g0:=g 0 (by omega);have g1:=g 1 (by omega);have g2:=g 2 (by omega);have g3:=g 3 (by omega);have g4:=g 4 (by omega);have g5:=g 5 (by omega);have g6:=g 6 (by omega);have g7:=g 7 (by omega);clear g h h';unfold B5 at g0 g1 g2 g3 g4 g5 g6 g7;simp only[show(256:Int) ^ 0=1 from rfl,show(256:Int) ^ 1=256 from rfl,show(256:Int) ^ 2=65536 from rfl,show(256:Int) ^ 3=16777216 from rfl,show(256:Int) ^ 4=4294967296 from rfl,show(256:Int) ^ 5=1099511627776 from rfl,show(256:Int) ^ 6=281474976710656 from rfl,show(256:Int) ^ 7=72057594037927936 from rfl] at g0 g1 g2 g3 g4 g5 g6 g7;unfold BI at ha hb;omega
 ·rintro rfl;unfold EC;rw[ZR];rfl
inductive LdO (R:E→T→T→Prop):List OP→List T→List T→Prop
 |nil:LdO R [] [] []
 |keep {os:List OP} {a b:List T} (l m:List T) (hne:l ≠ []) (h:l.map Af=m.map Af) (g:LdO R os a b):LdO R (.mk 0 (l.length:Nat) [] E0::os) (l++a) (m++b)
 |del {os:List OP} {a b:List T} (l m:List T) (hne:l ≠ []) (h:l.map Af=m.map Af) (g:LdO R os a b):LdO R (.mk 1 0 l E0::os) (m++a) b
 |ins {os:List OP} {a b:List T} (l m:List T) (hne:l ≠ []) (h:l.map Af=m.map Af) (g:LdO R os a b):LdO R (.mk 2 0 l E0::os) a (m++b)
 |desc {os:List OP} {a b:List T} (e:E) (x y:T) (h:R e x y) (g:LdO R os a b):LdO R (.mk 3 0 [] e::os) (x::a) (y::b)
inductive tc (R:E→T→T→Prop) (a b:List T):Nat→List KE→Prop
 |nil (p:Nat) (h:∀ i,p≤i→Af (a.getD i T0)=Af (b.getD i T0)):tc R a b p []
 |cons (p i:Nat) (e:E) (ks:List KE) (hp:p≤i) (h:∀ j,p≤j→j<i→Af (a.getD j T0)=Af (b.getD j T0)) (hi:i<max a.length b.length) (he:e.kind ≠ 0) (hr:R e (a.getD i T0) (b.getD i T0)) (g:tc R a b (i+1) ks):tc R a b p (.mk i e::ks)
inductive LdW (a b:List Int):Nat→List WE→Prop
 |nil (p:Nat) (h:∀ i,p≤i→a.getD i 0=b.getD i 0):LdW a b p []
 |cons (p i:Nat) (m o n:Int) (ws:List WE) (hp:p≤i) (h:∀ j,p≤j→j<i→a.getD j 0=b.getD j 0) (hi:i<max a.length b.length) (hm:0<m∧m<256) (ho:HN 0 (a.getD i 0) m=o) (hn:HN 0 (b.getD i 0) m=n) (h1:HN (a.getD i 0) n m=b.getD i 0) (h2:HN (b.getD i 0) o m=a.getD i 0) (g:LdW a b (i+1) ws):LdW a b p (⟨i,m,o,n⟩::ws)
def yA (e:E) (a b:T):Prop:=(e=E0∧Af a=Af b)∨∃ o n,e = .mk 1 o n [] [] 0 []∧Af o=Af a∧Af n=Af b
def Ld:Nat→E→T→T→Prop
 |0,e,a,b=>yA e a b
 |f+1,e,a,b=>yA e a b∨(∃ ws ks,e = .mk 2 T0 T0 ws ks 0 []∧a.kind=1∧b.kind=1∧LdW a.words b.words 0 ws∧tc (Ld f) a.kids b.kids 0 ks)∨(∃ os,e = .mk 3 T0 T0 [] [] a.kind os∧b.kind=a.kind∧(2≤a.kind∧a.kind≤9)∧(a.words=[]∧b.words=[])∧LdO (Ld f) os a.kids b.kids)
theorem wh {f:Nat} {e:E} {a b:T} (h:Ld f e a b) (hk:e.kind=0):e=E0∧Af a=Af b:=by
 have base:yA e a b→e=E0∧Af a=Af b:=fun h=>by
  rcases h with h | ⟨o,n,rfl,_⟩
  ·exact h
  ·cases hk
 cases f with
 |zero=>exact base h
 |succ f=>
  rcases h with h | ⟨ws,ks,rfl,_⟩ | ⟨os,rfl,_⟩
  ·exact base h
  ·cases hk
  ·cases hk
section
variable {R:E→T→T→Prop}
theorem Hy {os ps:List OP} {a b c d:List T} (h:LdO R os a b) (g:LdO R ps c d):LdO R (os++ps) (a++c) (b++d):=by
 induction h with
 |nil=>exact g
 |keep l m hne h _ ih=>rw[List.append_assoc,List.append_assoc];exact .keep l m hne h ih
 |del l m hne h _ ih=>rw[List.append_assoc];exact .del l m hne h ih
 |ins l m hne h _ ih=>rw[List.append_assoc];exact .ins l m hne h ih
 |desc e x y h _ ih=>exact .desc e x y h ih
theorem Mj:∀ {os ps:List OP} {a b:List T},LdO R (os++ps) a b→∃ a1 a2 b1 b2,a=a1++a2∧b=b1++b2∧LdO R os a1 b1∧LdO R ps a2 b2
 |[],ps,a,b,h=>⟨[],a,[],b,rfl,rfl,.nil,h⟩
 |o::os,ps,a,b,h=>by
  cases h with
  |keep l m hne h g=>
   obtain⟨a1,a2,b1,b2,rfl,rfl,h1,h2⟩:=Mj g;exact⟨l++a1,a2,m++b1,b2,by simp,by simp,.keep l m hne h h1,h2⟩
  |del l m hne h g=>
   obtain⟨a1,a2,b1,b2,rfl,rfl,h1,h2⟩:=Mj g;exact⟨m++a1,a2,b1,b2,by simp,rfl,.del l m hne h h1,h2⟩
  |ins l m hne h g=>
   obtain⟨a1,a2,b1,b2,rfl,rfl,h1,h2⟩:=Mj g;exact⟨a1,a2,m++b1,b2,rfl,by simp,.ins l m hne h h1,h2⟩
  |desc e x y h g=>
   obtain⟨a1,a2,b1,b2,rfl,rfl,h1,h2⟩:=Mj g;exact⟨x::a1,a2,y::b1,b2,rfl,rfl,.desc e x y h h1,h2⟩
theorem RN {l m:List T} (h:l.map Af=m.map Af):LdO R (DE l) m []:=by
 unfold DE;split
 ·rename_i e;subst e;have:m=[]:=by simpa using h.symm
  subst this;exact .nil
 ·rename_i e;have:=LdO.del (R:=R) l m e h .nil
  rwa [List.append_nil] at this
theorem SA {l m:List T} (h:l.map Af=m.map Af):LdO R (Dx l) [] m:=by
 unfold Dx;split
 ·rename_i e;subst e;have:m=[]:=by simpa using h.symm
  subst this;exact .nil
 ·rename_i e;have:=LdO.ins (R:=R) l m e h .nil
  rwa [List.append_nil] at this
end
theorem Xg (one:T→T→E) (a b:List T):∀ (P:List Sc) (i j:Nat) (out:List OP),HO one a b P i j out=out++HO one a b P i j []
 |[],i,j,out=>by simp[HO]
 |x::P,i,j,out=>by
  rw[HO,Xg one a b P,HO,Xg one a b P _ _ ([]++_++_++_)];simp
theorem fK {R:E→T→T→Prop} {one:T→T→E} {a b:List T} (hone:∀ x,x ∈ a→∀ y,y ∈ b→R (one x y) x y):∀ (P:List Sc) (i j:Nat),ir a.length b.length i j P→LdO R (HO one a b P i j []) (a.drop i) (b.drop j)
 |[],i,j,_=>by
  rw[HO,List.nil_append];have:=Hy (RN (R:=R) (l:=a.drop i) rfl) (SA (R:=R) (l:=b.drop j) rfl);simpa using this
 |x::P,i,j,h=>by
  obtain⟨k1,k2,k3,k4,k5⟩:=h;have ih:=fK hone P _ _ k5;rw[HO,Xg];have e1:a.getD x.i T0=a[x.i]:=by simp[k3]
  have e2:b.getD x.j T0=b[x.j]:=by simp[k4]
  rw[e1,e2];have d1:a.drop i=(a.take x.i).drop i++(a[x.i]::a.drop (x.i+1)):=by
   rw[List.getElem_cons_drop,← List.drop_append_of_le_length (by simp;omega),List.take_append_drop]
  have d2:b.drop j=(b.take x.j).drop j++(b[x.j]::b.drop (x.j+1)):=by
   rw[List.getElem_cons_drop,← List.drop_append_of_le_length (by simp;omega),List.take_append_drop]
  rw[d1,d2];have:=Hy (RN (R:=R) (l:=(a.take x.i).drop i) rfl) (Hy (SA (R:=R) (l:=(b.take x.j).drop j) rfl) (.desc _ _ _ (hone _ (A5 k3) _ (A5 k4)) ih));simpa using this
theorem qi {R:E→T→T→Prop} {one:T→T→E} {a b:List T} (hone:∀ x,x ∈ a→∀ y,y ∈ b→R (one x y) x y):LdO R (GU one a b) a b:=by
 have:=fK hone (fN (Oh a b)) 0 0 (TI a b);simpa[GU] using this
theorem EK (gap:List T→List T→List OP):∀ (S:List Sp) (a b:List T) (out:List OP),CP gap S a b out=out++CP gap S a b []
 |[],a,b,out=>by simp[CP]
 |[s],a,b,out=>by
  rw[CP,CP];split
  ·simp
  ·split<;>simp
 |s::s2::ss,a,b,out=>by
  rw[CP,CP];split
  ·rw[EK gap (s2::ss),EK gap (s2::ss) _ _ ([]++_)];simp
  ·split
   ·rw[EK gap (s2::ss),EK gap (s2::ss) _ _ ([]++_)];simp
   ·split
    ·rw[EK gap ss,EK gap ss _ _ ([]++_)];simp
    ·rw[EK gap (s2::ss),EK gap (s2::ss) _ _ ([]++_)];simp
abbrev Nq:T→T→Prop:=fun x y=>Af x=Af y
theorem MD:∀ (n:Nat) {a b:List T},Qj Nq (List.replicate n 0) a b→a.length=n∧b.length=n∧a.map Af=b.map Af
 |0,a,b,h=>by cases h;exact⟨rfl,rfl,rfl⟩
 |n+1,a,b,h=>by
  cases h with
  |keep x y r w=>
   obtain⟨h1,h2,h3⟩:=MD n w;exact⟨by simp[h1],by simp[h2],by simp[h3];exact r⟩
theorem SW {R:E→T→T→Prop} {one:T→T→E} {A B:List T} (hone:∀ x,x ∈ A→∀ y,y ∈ B→R (one x y) x y):∀ (S:List Sp) (a b:List T),(∀ s,s ∈ S→s.k≤2∧1≤s.n)→(∀ t,t ∈ a→t ∈ A)→(∀ t,t ∈ b→t ∈ B)→Qj Nq (Bs S) a b→LdO R (CP (GU one) S a b []) a b
 |[],a,b,_,_,_,h=>by
  cases h;rw[CP];exact .nil
 |[s],a,b,hS,hA,hB,h=>by
  have hs:=hS s (by simp);rw[BE,JZ,List.append_nil] at h;have hk:s.k=0∨s.k=1∨s.k=2:=by omega
  rw[CP];rcases hk with hk | hk | hk
  ·rw[if_pos hk];rw[hk] at h;obtain⟨h1,h2,h3⟩:=MD _ h;have:=LdO.keep (R:=R) a b (fun e=>by subst e;simp at h1;omega) h3 .nil;rw[h1] at this;simpa using this
  ·rw[if_neg (by omega),if_neg (by omega)];rw[hk] at h;obtain⟨rfl,h2⟩:=NH _ h;rw[BO (by omega)];exact RN rfl
  ·rw[if_neg (by omega),if_pos hk];rw[hk] at h;obtain⟨rfl,h2⟩:=La _ h;rw[BO (by omega)];exact SA rfl
 |s::s2::ss,a,b,hS,hA,hB,h=>by
  have hs:=hS s (by simp);have hs2:=hS s2 (by simp);have hS1:∀ x,x ∈ s2::ss→x.k≤2∧1≤x.n:=fun x hx=>hS x (List.mem_cons_of_mem _ hx);have hS2:∀ x,x ∈ ss→x.k≤2∧1≤x.n:=fun x hx=>hS1 x (List.mem_cons_of_mem _ hx);rw[BE] at h;obtain⟨a1,a2,b1,b2,rfl,rfl,h1,h2⟩:=EY h;have hA2:∀ t,t ∈ a2→t ∈ A:=fun t ht=>hA t (List.mem_append_right _ ht);have hB2:∀ t,t ∈ b2→t ∈ B:=fun t ht=>hB t (List.mem_append_right _ ht);have dr:∀ {l m:List T} {n:Nat},l.length=n→(l++m).drop n=m∧(l++m).take n=l:=fun h=>by subst h;exact⟨List.drop_left ..,List.take_left ..⟩
  have hk:s.k=0∨s.k=1∨s.k=2:=by omega
  rw[CP];rcases hk with hk | hk | hk
  ·rw[if_pos hk,EK];rw[hk] at h1;obtain⟨g1,g2,g3⟩:=MD _ h1;rw[(dr g1).1,(dr g2).1];have:=LdO.keep (R:=R) a1 b1 (fun e=>by subst e;simp at g1;omega) g3 (SW hone (s2::ss) a2 b2 hS1 hA2 hB2 h2);rw[g1] at this;simpa using this
  ·rw[if_neg (by omega),if_neg (by omega)];rw[hk] at h1;obtain⟨rfl,g2⟩:=NH _ h1;by_cases hk2:s2.k=2
   ·rw[if_pos hk2];rw[BE,hk2] at h2;obtain⟨a3,a4,b3,b4,rfl,rfl,h3,h4⟩:=EY h2;obtain⟨rfl,g4⟩:=La _ h3;rw[EK,List.nil_append,List.nil_append,List.nil_append,(dr g2).1,(dr g2).2,(dr g4).1,(dr g4).2];exact Hy (qi fun x hx y hy=>hone x (hA x (by simp[hx])) y (hB y (by simp[hy]))) (SW hone ss a4 b4 hS2 (fun t ht=>hA2 t (by simp[ht])) (fun t ht=>hB2 t (by simp[ht])) h4)
   ·rw[if_neg hk2,EK,List.nil_append,(dr g2).1,(dr g2).2];have:=Hy (RN (R:=R) (l:=a1) rfl) (SW hone (s2::ss) a2 b2 hS1 hA2 hB2 h2);simpa using this
  ·rw[if_neg (by omega),if_pos hk,EK,List.nil_append];rw[hk] at h1;obtain⟨rfl,g2⟩:=La _ h1;rw[(dr g2).1,(dr g2).2];have:=Hy (SA (R:=R) (l:=b1) rfl) (SW hone (s2::ss) a2 b2 hS1 hA2 hB2 h2);simpa using this
theorem pt {R:E→T→T→Prop} {one:T→T→E} {most:Int} {a b:T} (hone:∀ x,x ∈ a.kids→∀ y,y ∈ b.kids→R (one x y) x y):LdO R (Tf one most a b) a.kids b.kids:=by
 unfold Tf;split
 ·exact SW hone _ _ _ (fun s hs=>aZ (We _ _) s hs) (fun t ht=>ht) (fun t ht=>ht) (wB a b)
 ·exact qi hone
theorem NN (a b:Int):∀ (n i:Nat),i<n→(HP a b n).testBit i=decide (B5 a i ≠ B5 b i)
 |0,i,h=>by omega
 |n+1,i,h=>by
  have hlt:=V4 a b n;unfold HP;by_cases e:i=n
  ·subst e;by_cases c:B5 a i ≠ B5 b i
   ·rw[if_pos c,Nat.add_comm,Nat.testBit_two_pow_add_eq,Nat.testBit_lt_two_pow hlt];simp[c]
   ·rw[if_neg c,Nat.add_zero,Nat.testBit_lt_two_pow hlt];simp at c;simp[c]
  ·have hi:i<n:=by omega
   by_cases c:B5 a n ≠ B5 b n
   ·rw[if_pos c,Nat.add_comm,Nat.testBit_two_pow_add_gt hi];exact NN a b n i hi
   ·rw[if_neg c,Nat.add_zero];exact NN a b n i hi
theorem r5 (a b:Int) {i:Nat} (h:i<8):Ev (EC a b) i=decide (B5 a i ≠ B5 b i):=by
 rw[← NN a b 8 i h,Nat.testBit_eq_decide_div_mod_eq];unfold Ev EC;rw[Bool.eq_iff_iff,decide_eq_true_iff,decide_eq_true_iff];have:((HP a b 8:Nat):Int) / 2 ^ i % 2=((HP a b 8 / 2 ^ i % 2:Nat):Int):=by
  rw[Int.natCast_emod,Int.natCast_ediv,Int.natCast_pow];rfl
 rw[this];omega
theorem rR {b:Int} (h:BI b):aG (AZ b)=b:=by
 unfold BI at h;simp only[AZ,DF,aG];omega
theorem YV:∀ (l:List Int),(∀ b,b ∈ l→0≤b∧b<256)→DF l.length (aG l)=l
 |[],_=>rfl
 |x::l,h=>by
  have hx:=h x (by simp);have ih:=YV l fun b hb=>h b (List.mem_cons_of_mem _ hb);simp only[List.length_cons,DF,aG];have e1:(x+256*aG l) % 256=x:=by omega
  have e2:(x+256*aG l) / 256=aG l:=by omega
  rw[e1,e2,ih]
theorem YN {xs ys:List Int} {m:Int} {i:Nat} (hx:xs.length=8) (h:i<8):(PI xs ys m 8).getD i 0=if Ev m i=true then ys.getD i 0 else xs.getD i 0:=by
 unfold PI;have e:xs.drop 8=[]:=List.drop_eq_nil_of_le (by omega);rw[e,List.append_nil,List.getD_eq_getElem?_getD,List.getElem?_map,List.getElem?_range h];rfl
theorem Ia (x:Int) {i:Nat} (h:i<8):(AZ x).getD i 0=B5 x i:=by
 rw[List.getD_eq_getElem?_getD];unfold AZ;rw[M4 8 x i h];rfl
theorem TE (a b m:Int):AZ (HN a b m)=PI (AZ a) (AZ b) m 8:=by
 have hl:(PI (AZ a) (AZ b) m 8).length=8:=by rw[K4 (by rw[BJ];omega),BJ]
 have:=YV (PI (AZ a) (AZ b) m 8) QT;rw[hl] at this;exact this
theorem pD {a b:Int} (hb:BI b):HN a (HN 0 b (EC a b)) (EC a b)=b:=by
 have e:PI (AZ a) (AZ (HN 0 b (EC a b))) (EC a b) 8=AZ b:=by
  have hl:(PI (AZ a) (AZ (HN 0 b (EC a b))) (EC a b) 8).length=8:=by rw[K4 (by rw[BJ];omega),BJ]
  refine List.ext_getElem (by rw[hl,BJ]) fun i h1 h2=>?_;have hi:i<8:=by rw[hl] at h1;exact h1
  have g1:=YN (xs:=AZ a) (ys:=AZ (HN 0 b (EC a b))) (m:=EC a b) (BJ a) hi;rw[TE 0 b,YN (BJ 0) hi,Ia b hi,Ia a hi,r5 a b hi] at g1;have g2:=Ia b hi;have k1:∀ (l:List Int) (h:i<l.length),l.getD i 0=l[i]:=fun l h=>by simp[h]
  rw[k1 _ (by rw[K4 (by rw[BJ];omega),BJ];exact hi)] at g1;rw[k1 _ h2] at g2;rw[g2];have g3:(PI (AZ a) (AZ (HN 0 b (EC a b))) (EC a b) 8)[i]=if decide (B5 a i ≠ B5 b i)=true then (if decide (B5 a i ≠ B5 b i)=true then B5 b i else B5 0 i) else B5 a i:=by
   rw[← Ia 0 hi,← g1];congr 1;rw[TE 0 b]
  refine g3.trans ?_;by_cases c:B5 a i=B5 b i
  ·simp[c]
  ·simp[c]
 have:HN a (HN 0 b (EC a b)) (EC a b)=aG (AZ b):=by
  unfold HN at e ⊢;rw[e]
 rw[this,rR hb]
theorem bA (a b:Int):∀ k,HP a b k=HP b a k
 |0=>rfl
 |k+1=>by
  unfold HP;rw[bA a b k];by_cases c:B5 a k=B5 b k
  ·simp[c]
  ·simp[c,Ne.symm c]
theorem qF (a b:Int):EC a b=EC b a:=by unfold EC;rw[bA]
theorem tU {a b:List Int} {p:Nat} {ws:List WE} (h:LdW a b (p+1) ws) (e:a.getD p 0=b.getD p 0):LdW a b p ws:=by
 cases h with
 |nil _ h=>
  refine .nil p fun i hi=>?_;by_cases hp:i=p
  ·subst hp;exact e
  ·exact h i (by omega)
 |cons _ i m o n ws hp h hi hm ho hn h1 h2 g=>
  refine .cons p i m o n ws (by omega) (fun j h3 h4=>?_) hi hm ho hn h1 h2 g;by_cases hp:j=p
  ·subst hp;exact e
  ·exact h j (by omega) h4
theorem yr {R:E→T→T→Prop} {a b:List T} {p:Nat} {ks:List KE} (h:tc R a b (p+1) ks) (e:Af (a.getD p T0)=Af (b.getD p T0)):tc R a b p ks:=by
 cases h with
 |nil _ h=>
  refine .nil p fun i hi=>?_;by_cases hp:i=p
  ·subst hp;exact e
  ·exact h i (by omega)
 |cons _ i x ks hp h hi he hr g=>
  refine .cons p i x ks (by omega) (fun j h3 h4=>?_) hi he hr g;by_cases hp:j=p
  ·subst hp;exact e
  ·exact h j (by omega) h4
theorem iU {l:List Int} (h:∀ x,x ∈ l→BI x) (i:Nat):BI (l.getD i 0):=by
 rw[List.getD_eq_getElem?_getD];cases e:l[i]? with
 |none=>exact⟨by simp,by simp⟩
 |some z=>exact h z (List.mem_of_getElem? e)
theorem pH {a b:T} (ha:∀ x,x ∈ a.words→BI x) (hb:∀ x,x ∈ b.words→BI x):∀ (n p:Nat),p+n=max a.words.length b.words.length→LdW a.words b.words p ((List.range' p n).filterMap fun i=>if EC (a.words.getD i 0) (b.words.getD i 0)=0 then none else some (zx i (a.words.getD i 0) (b.words.getD i 0)))
 |0,p,h=>by
  refine .nil p fun i hi=>?_;rw[List.getD_eq_getElem?_getD,List.getD_eq_getElem?_getD,List.getElem?_eq_none (by omega),List.getElem?_eq_none (by omega)]
 |n+1,p,h=>by
  have ih:=pH ha hb n (p+1) (by omega);have ua:=iU ha p;have ub:=iU hb p;have ui:=eg (a.words.getD p 0) (b.words.getD p 0);rw[List.range'_succ,List.filterMap_cons];by_cases c:EC (a.words.getD p 0) (b.words.getD p 0)=0
  ·rw[if_pos c];exact tU ih ((vY ua ub).1 c)
  ·rw[if_neg c];exact .cons p p _ _ _ _ (Cb _) (fun j h1 h2=>by omega) (by omega) ⟨by omega,ui.2⟩ rfl rfl (pD ub) (by rw[qF];exact pD ua) ih
theorem pv {f:Nat} {one:T→T→E} {a b:T} (hone:∀ i,Ld f (one (a.kids.getD i T0) (b.kids.getD i T0)) (a.kids.getD i T0) (b.kids.getD i T0)):∀ (n p:Nat),p+n=max a.kids.length b.kids.length→tc (Ld f) a.kids b.kids p ((List.range' p n).filterMap fun i=>if (one (a.kids.getD i T0) (b.kids.getD i T0)).kind=0 then none else some (.mk i (one (a.kids.getD i T0) (b.kids.getD i T0))))
 |0,p,h=>by
  refine .nil p fun i hi=>?_;rw[List.getD_eq_getElem?_getD,List.getD_eq_getElem?_getD,List.getElem?_eq_none (by omega),List.getElem?_eq_none (by omega)]
 |n+1,p,h=>by
  have ih:=pv hone n (p+1) (by omega);rw[List.range'_succ,List.filterMap_cons];by_cases c:(one (a.kids.getD p T0) (b.kids.getD p T0)).kind=0
  ·rw[if_pos c];exact yr ih (wh (hone p) c).2
  ·rw[if_neg c];exact .cons p p _ _ (Cb _) (fun j h1 h2=>by omega) (by omega) c (hone p) ih
def NW:Nat→T→Prop
 |0,_=>True
 |f+1,t=>(2≤t.kind→t.kind≤9→t.words=[])∧∀ k,k ∈ t.kids→NW f k
theorem Af7:∀ f,NW f T0
 |0=>trivial
 |f+1=>⟨fun _ _=>rfl,fun k hk=>by simp at hk⟩
theorem pc {f:Nat} {t:T} (h:NW (f+1) t) (i:Nat):NW f (t.kids.getD i T0):=by
 rw[List.getD_eq_getElem?_getD];cases e:t.kids[i]? with
 |none=>exact Af7 f
 |some z=>exact h.2 z (List.mem_of_getElem? e)
theorem OA:∀ (f d:Nat) (t:T),Aj d t=true→NW f t
 |0,d,t,_=>trivial
 |f+1,d,t,h=>by
  obtain⟨k,w,l⟩:=t;refine⟨fun h2 h9=>?_,fun x hx=>OA f (d-1) x (AV h x hx).1⟩;have h2:2≤k:=h2;have h9:k≤9:=h9;rw[AI,if_neg (by omega),if_neg (by omega)] at h;split at h
  ·cases h
  ·rename_i hb;unfold A4 at hb;simp at hb;exact hb.2 (by omega)
theorem WA (most:Int):∀ (f g:Nat) (a b:T),Tj f a→Tj g b→NW f a→NW f b→Ld f (Gp most f a b) a b
 |0,g,a,b,ha,hb,na,nb=>by
  rw[Gp];split
  ·rename_i h;exact .inl ⟨rfl,eqT_iff.1 h⟩
  ·exact .inr ⟨a,b,rfl,rfl,rfl⟩
 |f+1,g,a,b,ha,hb,na,nb=>by
  obtain⟨a1,a2,a3,a4⟩:=AF ha;obtain⟨b1,b2,b3,b4⟩:=AF hb;rw[Gp];split
  ·rename_i h;exact .inl (.inl ⟨rfl,eqT_iff.1 h⟩)
  ·split
   ·rename_i h;refine .inr (.inl ⟨_,_,rfl,h.1,h.2,?_,?_⟩)
    ·have:=pH (a:=a) (b:=b) (wfT_iff.1 a1).w (wfT_iff.1 b1).w (max a.words.length b.words.length) 0 (by omega);rw[← List.range_eq_range'] at this;exact this
    ·have:=pv (a:=a) (b:=b) (fun i=>WA most f (g-1) _ _ (Gi ha i) (Gi hb i) (pc na i) (pc nb i)) (max a.kids.length b.kids.length) 0 (by omega);rw[← List.range_eq_range'] at this;exact this
   ·split
    ·rename_i h;rw[SN];exact .inr (.inr ⟨_,rfl,h.1.symm,h.2,⟨na.1 h.2.1 h.2.2,nb.1 (by omega) (by omega)⟩,pt fun x hx y hy=>WA most f (g-1) x y (AX ha x hx) (AX hb y hy) (na.2 x hx) (nb.2 y hy)⟩)
    ·exact .inl (.inr ⟨a,b,rfl,rfl,rfl⟩)
theorem Aas {f:Nat} {e:E} {x y:T} {l:Int} (h:Ld f e x y) (hi:Ju l e=true):Af x=Af y:=by
 have base:yA e x y→Af x=Af y:=fun h=>by
  rcases h with h | ⟨o,n,rfl,_⟩
  ·exact h.2
  ·unfold Ju at hi;simp at hi
 cases f with
 |zero=>exact base h
 |succ f=>
  rcases h with h | ⟨ws,ks,rfl,h1,h2,h3,h4⟩ | ⟨os,rfl,_⟩
  ·exact base h
  ·unfold Ju at hi;simp at hi;obtain⟨⟨_,rfl⟩,rfl⟩:=hi;cases h3 with
   |nil _ g3=>
    cases h4 with
    |nil _ g4=>
     obtain⟨k,w,c⟩:=x;obtain⟨k',w',c'⟩:=y;simp only[T.kind_mk] at h1 h2;subst h1;subst h2;exact struct_eq.2 ⟨fun i=>g3 i (by omega),fun i=>g4 i (by omega)⟩
  ·unfold Ju at hi;simp at hi
section
variable {R:E→T→T→Prop}
theorem dC {out:List OP} {a b a2 b2 g d:List T} (h:LdO R out a b) (hg:g.map Af=a2.map Af) (hd:d.map Af=b2.map Af):LdO R (Nc out g d) (a++a2) (b++b2):=by
 unfold Nc;have:=Hy h (Hy (RN (R:=R) hg) (SA hd));simpa using this
theorem uM {out:List OP} {a b l m:List T} (h:LdO R out a b) (hne:l ≠ []) (hl:l.map Af=m.map Af) (hb:a.length+l.length≤1000000000):LdO R (RG out (l.length:Nat)) (a++l) (b++m):=by
 rcases List.eq_nil_or_concat out with rfl | ⟨D,x,rfl⟩
 ·cases h;have:=LdO.keep (R:=R) l m hne hl .nil;rw[TR (by simp)];simpa using this
 ·rw[List.concat_eq_append] at h ⊢;have app:(∀ m l e,x ≠ .mk 0 m l e)→LdO R (RG (D++[x]) (l.length:Nat)) (a++l) (b++m):=fun hx=>by
   rw[TR (by simpa using hx)];have:=Hy h (LdO.keep (R:=R) l m hne hl .nil);simpa using this
  obtain⟨a1,a2,b1,b2,rfl,rfl,h1,h2⟩:=Mj h;cases h2 with
  |keep l1 m1 hne1 hl1 g=>
   cases g;have e:RG (D++[OP.mk 0 ((l1.length:Nat):Int) [] E0]) (l.length:Nat)=D++[.mk 0 (((l1++l).length:Nat):Int) [] E0]:=by
    unfold RG;rw[List.getLast?_concat];simp only[List.dropLast_concat];have:i64.wrap (((l1.length:Nat):Int)+(l.length:Nat))=(((l1++l).length:Nat):Int):=by
     simp only[List.length_append] at hb ⊢;rw[Av (by omega) (by omega)];omega
    rw[this]
   rw[e];have:=Hy h1 (LdO.keep (R:=R) (l1++l) (m1++m) (by simp[hne1]) (by simp[hl1,hl]) .nil);simpa using this
  |del l1 m1 hne1 hl1 g=>exact app (by simp)
  |ins l1 m1 hne1 hl1 g=>exact app (by simp)
  |desc e x y r g=>exact app (by simp)
end
theorem Abq {f:Nat} {list:Int} {P:T→Prop} (hR:∀ e x y,P x→Ld f e x y→Ld f (Jl e) x y) {os:List OP} {a3 b3:List T} (h:LdO (Ld f) os a3 b3):(∀ t,t ∈ a3→P t)→∀ (out:List OP) (g d a1 b1 a2 b2:List T),LdO (Ld f) out a1 b1→g.map Af=a2.map Af→d.map Af=b2.map Af→a1.length+a2.length+a3.length≤1000000000→LdO (Ld f) (ED list (os.map LP) out g d) (a1++(a2++a3)) (b1++(b2++b3)):=by
 induction h with
 |nil=>
  intro hP out g d a1 b1 a2 b2 h1 hg hd hb;rw[List.map_nil,ED];simpa using dC h1 hg hd
 |keep l m hne hl _ ih=>
  intro hP out g d a1 b1 a2 b2 h1 hg hd hb;rw[List.length_append] at hb;rw[List.map_cons,ED,if_pos (show(LP (.mk 0 ((l.length:Nat):Int) [] E0)).kind=0 from rfl)];have:=ih (fun t ht=>hP t (List.mem_append_right _ ht)) (RG (Nc out g d) ((l.length:Nat):Int)) [] [] _ _ [] [] (uM (dC h1 hg hd) hne hl (by rw[List.length_append];omega)) rfl rfl (by simp only[List.length_append,List.length_nil];omega);simp at this ⊢;exact this
 |del l m hne hl _ ih=>
  intro hP out g d a1 b1 a2 b2 h1 hg hd hb;rw[List.length_append] at hb;rw[List.map_cons,ED,if_neg (show ¬ (LP (.mk 1 0 l E0)).kind=0 by show ¬ (1:Int)=0;decide),if_pos (show(LP (.mk 1 0 l E0)).kind=1 from rfl)];have:=ih (fun t ht=>hP t (List.mem_append_right _ ht)) out (g++l.map Af) d a1 b1 (a2++m) b2 h1 (by rw[List.map_append,List.map_append,Pb,hg,hl]) hd (by rw[List.length_append];omega);simp at this ⊢;exact this
 |ins l m hne hl _ ih=>
  intro hP out g d a1 b1 a2 b2 h1 hg hd hb;rw[List.map_cons,ED,if_neg (show ¬ (LP (.mk 2 0 l E0)).kind=0 by show ¬ (2:Int)=0;decide),if_neg (show ¬ (LP (.mk 2 0 l E0)).kind=1 by show ¬ (2:Int)=1;decide),if_pos (show(LP (.mk 2 0 l E0)).kind=2 from rfl)];have:=ih hP out g (d++l.map Af) a1 b1 a2 (b2++m) h1 hg (by rw[List.map_append,List.map_append,Pb,hd,hl]) (by omega);simp at this ⊢;exact this
 |desc e x y r _ ih=>
  intro hP out g d a1 b1 a2 b2 h1 hg hd hb;rw[List.length_cons] at hb;rw[List.map_cons,ED,if_neg (show ¬ (LP (.mk 3 0 [] e)).kind=0 by show ¬ (3:Int)=0;decide),if_neg (show ¬ (LP (.mk 3 0 [] e)).kind=1 by show ¬ (3:Int)=1;decide),if_neg (show ¬ (LP (.mk 3 0 [] e)).kind=2 by show ¬ (3:Int)=2;decide)];have r':=hR e x y (hP x (by simp)) r;split
  ·rename_i hi;have hn:=Aas r' (show Ju list (Jl e)=true from hi);have:=ih (fun t ht=>hP t (List.mem_cons_of_mem _ ht)) (RG (Nc out g d) (([x]:List T).length:Nat)) [] [] _ _ [] [] (uM (l:=[x]) (m:=[y]) (dC h1 hg hd) (by simp) (by simp[hn]) (by rw[List.length_append];simp;omega)) rfl rfl (by simp only[List.length_append,List.length_nil,List.length_cons];omega);simp at this ⊢;exact this
  ·have:=ih (fun t ht=>hP t (List.mem_cons_of_mem _ ht)) (Nc out g d++[.mk 3 0 [] (Jl e)]) [] [] _ _ [] [] (Hy (dC h1 hg hd) (.desc (Jl e) x y r' .nil)) rfl rfl (by simp only[List.length_append,List.length_nil,List.length_cons];omega);simp at this ⊢;exact this
def ZB:Nat→T→Prop
 |0,_=>True
 |f+1,t=>t.kids.length≤1000000∧∀ k,k ∈ t.kids→ZB f k
theorem AaN:∀ f,ZB f T0
 |0=>trivial
 |f+1=>⟨by simp,fun k hk=>by simp at hk⟩
theorem Aal {f:Nat} {t:T} (h:ZB (f+1) t) (i:Nat):ZB f (t.kids.getD i T0):=by
 rw[List.getD_eq_getElem?_getD];cases e:t.kids[i]? with
 |none=>exact AaN f
 |some z=>exact h.2 z (List.mem_of_getElem? e)
theorem kq {f:Nat} {e:E} {a b:T} (h:Ld f e a b):(Jl e).kind=e.kind:=by
 have base:yA e a b→(Jl e).kind=e.kind:=fun h=>by
  rcases h with ⟨rfl,_⟩ | ⟨o,n,rfl,_⟩
  ·rw[YY]
  ·rw[FP,if_pos rfl];rfl
 cases f with
 |zero=>exact base h
 |succ f=>
  rcases h with h | ⟨ws,ks,rfl,_⟩ | ⟨os,rfl,_⟩
  ·exact base h
  ·rw[FP,if_neg (by decide),if_pos rfl];rfl
  ·rw[FP,if_neg (by decide),if_neg (by decide),if_pos rfl];rfl
theorem y9 {R R':E→T→T→Prop} {a b:List T} (hR:∀ e i,R e (a.getD i T0) (b.getD i T0)→R' (Jl e) (a.getD i T0) (b.getD i T0)∧(Jl e).kind=e.kind):∀ {ks:List KE} {p:Nat},tc R a b p ks→tc R' a b p (ks.map iR):=by
 intro ks p h;induction h with
 |nil p h=>exact .nil p h
 |cons p i e ks hp h hi he hr _ ih=>
  have:=hR e i hr;exact .cons p i (Jl e) _ hp h hi (by rw[this.2];exact he) this.1 ih
theorem mj:∀ (f:Nat) (e:E) (a b:T),ZB f a→Ld f e a b→Ld f (Jl e) a b:=by
 have base:∀ {e a b},yA e a b→yA (Jl e) a b:=fun {e a b} h=>by
  rcases h with ⟨rfl,h⟩ | ⟨o,n,rfl,h1,h2⟩
  ·rw[YY];exact .inl ⟨rfl,h⟩
  ·rw[FP,if_pos rfl];exact .inr ⟨Af o,Af n,rfl,by rw[Cz];exact h1,by rw[Cz];exact h2⟩
 intro f;induction f with
 |zero=>exact fun e a b _ h=>base h
 |succ f ih=>
  intro e a b hF h;rcases h with h | ⟨ws,ks,rfl,h1,h2,h3,h4⟩ | ⟨os,rfl,h1,h2,hw,h3⟩
  ·exact .inl (base h)
  ·rw[FP,if_neg (by decide),if_pos rfl];exact .inr (.inl ⟨ws,ks.map iR,rfl,h1,h2,h3,y9 (fun e i r=>⟨ih e _ _ (Aal hF i) r,kq r⟩) h4⟩)
  ·rw[FP,if_neg (by decide),if_neg (by decide),if_pos rfl];refine .inr (.inr ⟨_,rfl,h1,h2,hw,?_⟩);have:=Abq (list:=a.kind) (P:=ZB f) (fun e x y hx r=>ih e x y hx r) h3 hF.2 [] [] [] [] [] [] [] .nil rfl rfl (by have:=hF.1;simp;omega);simpa using this
theorem Aa3 {a b:T} (ha:Bx a) (hb:Bx b) (pa:BH a≤1000) (pb:BH b≤1000) {da db:Nat} (ra:Aj da a=true) (rb:Aj db b=true) {most:Int}:Ld 1000 (qj most a b) (Af a) (Af b):=by
 have oa:=CH a ha pa 1000 pa;have ob:=CH b hb pb 1000 pb;refine mj 1000 _ _ _ ?_ (WA most 1000 1000 _ _ oa ob (OA 1000 da _ (Ch a da ra)) (OA 1000 db _ (Ch b db rb)));have key:∀ (f g:Nat) (t:T),Tj g t→ZB f t:=fun f=>by
  induction f with
  |zero=>exact fun g t _=>trivial
  |succ f ih=>exact fun g t h=>⟨by have:=(AF h).2.2.2;omega,fun k hk=>ih (g-1) k (AX h k hk)⟩
 exact key 1000 1000 _ oa
mutual
def AN:T→Int
 |.mk k w l=>if k=0 then 0 else if k=1 then 1+w.length+l.length+BA l else if k=8 then 1+l.length+BA l else if k=9 then 1+l.length*(1+(An l+Aq l))+I4 l else 1+l.length
def Ab5:T→Int
 |.mk _ _ l=>BA l
def BA:List T→Int
 |[]=>0
 |t::l=>AN t+BA l
def I4:List T→Int
 |[]=>0
 |t::l=>Ab5 t+I4 l
end
theorem Cn (k:Int) (w:List Int) (l:List T):AN (.mk k w l)=if k=0 then 0 else if k=1 then 1+w.length+l.length+BA l else if k=8 then 1+l.length+BA l else if k=9 then 1+l.length*(1+(An l+Aq l))+I4 l else 1+l.length:=by rw[AN]
theorem yL (t:T):Ab5 t=BA t.kids:=by cases t;rw[Ab5];rfl
@[simp] theorem xF:BA []=0:=by rw[BA]
@[simp] theorem LZ (t:T) (l:List T):BA (t::l)=AN t+BA l:=by rw[BA]
@[simp] theorem Ae1:I4 []=0:=by rw[I4]
@[simp] theorem Kk (t:T) (l:List T):I4 (t::l)=BA t.kids+I4 l:=by rw[I4,yL]
theorem gy (a b:List T):BA (a++b)=BA a+BA b:=by
 induction a with
 |nil=>simp
 |cons t a ih=>simp[ih];omega
theorem Eo {l:List T} (h:∀ t,t ∈ l→0≤AN t):0≤BA l:=by
 induction l with
 |nil=>simp
 |cons t l ih=>
  have:=h t (by simp);have:=ih fun u hu=>h u (by simp[hu]);rw[LZ];omega
theorem M8 {l:List T} (h:∀ t,t ∈ l→0≤BA t.kids):0≤I4 l:=by
 induction l with
 |nil=>simp
 |cons t l ih=>
  have:=h t (by simp);have:=ih fun u hu=>h u (by simp[hu]);rw[Kk];omega
theorem Dt:∀ t:T,0≤AN t∧0≤BA t.kids:=by
 refine T.ind fun k w l ih=>?_;have h1:=Eo fun t ht=>(ih t ht).1;have h2:=M8 fun t ht=>(ih t ht).2;have h3:0≤(l.length:Int)*(1+((An l:Int)+Aq l)):=Int.mul_nonneg (by omega) (by omega);refine⟨?_,h1⟩;rw[Cn]
 repeat' split
 all_goals omega
theorem qp {t:T} (h:t.kind ≠ 0):1≤AN t:=by
 obtain⟨k,w,l⟩:=t;have h:k ≠ 0:=h;have h1:=(Dt (.mk k w l)).2;have h1:0≤BA l:=h1;have h2:=M8 fun t (ht:t ∈ l)=>(Dt t).2;have h3:0≤(l.length:Int)*(1+((An l:Int)+Aq l)):=Int.mul_nonneg (by omega) (by omega);rw[Cn,if_neg h]
 repeat' split
 all_goals omega
theorem GD {t:T} (h:t.kind=0):AN t=0:=by
 obtain⟨k,w,l⟩:=t;have h:k=0:=h;rw[Cn,if_pos h]
theorem ae (l:List T):BA (BZ l)=BA l:=by
 induction l using Sq with
 |h0=>rfl
 |h1 l x ih=>
  rw[GZ];split
  ·rename_i hx;rw[ih,gy];simp[GD hx]
  ·rfl
theorem bf (l:List T) (p i:Nat) (h:p≤i):AN (l.getD i T0)+BA (l.drop (i+1))≤BA (l.drop p):=by
 have hn:∀ m:List T,0≤BA m:=fun m=>Eo fun t _=>(Dt t).1;have e:l.drop p=(l.drop p).take (i-p)++l.drop i:=by
  have:=(List.take_append_drop (i-p) (l.drop p)).symm
  rwa [List.drop_drop,show p+(i-p)=i by omega] at this
 rw[e,gy];have h1:=hn ((l.drop p).take (i-p));by_cases hi:i<l.length
 ·rw[List.drop_eq_getElem_cons hi,LZ,List.getD_eq_getElem?_getD,List.getElem?_eq_getElem hi];simp only[Option.getD_some];omega
 ·rw[List.drop_eq_nil_of_le (by omega:l.length≤i+1),List.drop_eq_nil_of_le (by omega:l.length≤i),List.getD_eq_getElem?_getD,List.getElem?_eq_none (by omega)];simp only[Option.getD_none,xF];rw[GD (t:=T0) rfl];omega
theorem Tq {l:List T} {n m:Nat} (h0:n≤m) (h:∀ t,t ∈ l→Am t+1≤m):Du n l≤m:=by
 induction l generalizing n with
 |nil=>rw[Du];exact h0
 |cons t l ih=>
  rw[Du];have:=h t (by simp);exact ih (by omega) fun u hu=>h u (by simp[hu])
theorem JW (l:List T) (n:Nat):n≤Du n l∧∀ t,t ∈ l→Am t+1≤Du n l:=by
 induction l generalizing n with
 |nil=>rw[Du];exact⟨Cb _,fun t h=>nomatch h⟩
 |cons t l ih=>
  rw[Du];obtain⟨h1,h2⟩:=ih (max n (Am t+1));refine⟨by omega,fun u hu=>?_⟩;rcases List.mem_cons.1 hu with rfl | hu
  ·omega
  ·exact h2 u hu
theorem F4 {t c:T} (h0:t.kind ≠ 0) (h10:t.kind ≠ 10) (h:c ∈ t.kids):Am c+1≤Am t:=by
 obtain⟨k,w,l⟩:=t;have h0:k ≠ 0:=h0;have h10:k ≠ 10:=h10;rw[Cy,if_neg (by omega)];exact(JW l 1).2 c h
theorem EV {t:T} (h0:t.kind ≠ 0) (h10:t.kind ≠ 10):1≤Am t:=by
 obtain⟨k,w,l⟩:=t;have h0:k ≠ 0:=h0;have h10:k ≠ 10:=h10;rw[Cy,if_neg (by omega)];exact(JW l 1).1
theorem MH {t:T} (h:t.kind=0):Am t=0:=by
 obtain⟨k,w,l⟩:=t;have h:k=0:=h;rw[Cy,if_pos (.inl h)]
theorem I7 {k:Int} {w:List Int} {l:List T} {m:Nat} (h0:1≤m) (h:∀ t,t ∈ l→Am t+1≤m):Am (.mk k w l)≤m:=by
 rw[Cy];split
 ·omega
 ·exact Tq h0 h
theorem TW {l:List T} {t:T} (h:t ∈ BZ l):t ∈ l:=by
 rw[EB] at h;exact PD h
def Sz (t:T) (c:Int) (d:Nat):Prop:=AN (Af t)≤c∧Am (Af t)≤d
theorem Sz.mono {t:T} {c c':Int} {d d':Nat} (h:Sz t c d) (hc:c≤c') (hd:d≤d'):Sz t c' d':=⟨Int.le_trans h.1 hc,Nat.le_trans h.2 hd⟩
theorem sz_T0:Sz T0 0 0:=by
 refine⟨?_,?_⟩
 ·rw[FY,GD rfl];exact Int.le_refl _
 ·rw[FY,MH rfl];exact Cb _
theorem vA {w:List Int} {l:List T} {c:Int} {d:Nat} (hc:BA (l.map Af)≤c) (hd:∀ t,t ∈ l→Am (Af t)≤d):Sz (.mk 1 w l) (1+w.length+l.length+c) (d+1):=by
 have e:Af (.mk 1 w l) = .mk 1 (CM w) (BZ (l.map Af)):=by rw[AL];simp
 have h1:=ET w;have h2:=EN (l.map Af);rw[List.length_map] at h2;refine⟨?_,?_⟩
 ·rw[e,Cn,if_neg (by decide),if_pos rfl,ae];omega
 ·rw[e];refine I7 (by omega) fun t ht=>?_;obtain⟨u,hu,rfl⟩:=List.mem_map.1 (TW ht);have:=hd u hu;omega
theorem AkI {w:Int} {x:T} {c:Int} {d:Nat} (h:Sz x c d):Sz (.mk 1 [w] [x]) (3+c) (d+1):=by
 have:=vA (w:=[w]) (l:=[x]) (c:=c) (d:=d) (by simpa using h.1) (fun t ht=>by simp at ht;subst ht;exact h.2);exact this.mono (by simp) (Cb _)
theorem Aga {w:Int} {x y:T} {c c':Int} {d:Nat} (h:Sz x c d) (g:Sz y c' d):Sz (.mk 1 [w] [x,y]) (4+c+c') (d+1):=by
 have:=vA (w:=[w]) (l:=[x,y]) (c:=c+c') (d:=d) (by
  have:=h.1;have:=g.1;simp;omega) (fun t ht=>by
  simp at ht;rcases ht with rfl | rfl
  ·exact h.2
  ·exact g.2)
 exact this.mono (by simp;omega) (Cb _)
def Dz {α:Type} (c:α→Int):List α→Int
 |[]=>0
 |x::l=>c x+Dz c l
theorem cO {α:Type} {c:α→Int} {k:Int}:∀ l:List α,Dz (fun x=>k+c x) l=k*l.length+Dz c l
 |[]=>by simp[Dz]
 |x::l=>by
  rw[Dz,Dz,cO l,List.length_cons];have:k*((l.length+1:Nat):Int)=k*l.length+k:=by rw[Int.natCast_add,Int.mul_add];simp
  rw[this];omega
theorem Rs {α:Type} {c:α→Int}:∀ a b:List α,Dz c (a++b)=Dz c a+Dz c b
 |[],b=>by simp[Dz]
 |x::a,b=>by rw[List.cons_append,Dz,Dz,Rs a b];omega
theorem YF {α:Type} {c:α→Int}:∀ {l:List α},(∀ x,x ∈ l→1≤c x)→(l.length:Int)≤Dz c l
 |[],_=>by simp[Dz]
 |x::l,h=>by
  have h1:=h x (by simp);have h2:=YF (l:=l) fun y hy=>h y (by simp[hy]);rw[Dz,List.length_cons];omega
theorem ma {α:Type} {f:α→T} {l:List α} {c:α→Int} {W K d:Nat} (h:∀ x,x ∈ l→∃ w ks,f x = .mk 1 w ks∧w.length≤W∧ks.length≤K∧BA (ks.map Af)≤c x∧∀ t,t ∈ ks→Am (Af t)≤d) :
  Sz (Es (l.map f)) (1+(l.length:Int)*(1+((W:Int)+K))+Dz c l) (d+2):=by
 have hnorm:∀ x,x ∈ l→∃ w ks,Af (f x) = .mk 1 w ks∧w.length≤W∧ks.length≤K∧BA ks≤c x∧∀ t,t ∈ ks→Am t≤d:=fun x hx=>by
  obtain⟨w,ks,e,h1,h2,h3,h4⟩:=h x hx;have h5:=ET w;have h6:=EN (ks.map Af);rw[List.length_map] at h6;refine⟨CM w,BZ (ks.map Af),by rw[e,AL];simp,by omega,by omega,by rw[ae];exact h3,fun t ht=>?_⟩;obtain⟨u,hu,rfl⟩:=List.mem_map.1 (TW ht);exact h4 u hu
 have hc0:∀ x,x ∈ l→0≤c x:=fun x hx=>by
  obtain⟨w,ks,e,_,_,h3,_⟩:=hnorm x hx;have:=Eo fun t (_:t ∈ ks)=>(Dt t).1;omega
 have hs0:0≤Dz c l:=by
  clear h hnorm;induction l with
  |nil=>simp[Dz]
  |cons x l ih=>
   have:=hc0 x (by simp);have:=ih fun y hy=>hc0 y (by simp[hy]);rw[Dz];omega
 by_cases hl:l=[]
 ·subst hl;simp only[List.map_nil,Z6];exact sz_T0.mono (by simp[Dz]) (by omega)
 have hne:l.map f ≠ []:=by simpa using hl
 have hfr:∀ m:List α,(∀ x,x ∈ m→x ∈ l)→An ((m.map f).map Af)≤W∧Aq ((m.map f).map Af)≤K∧I4 ((m.map f).map Af)≤Dz c m:=fun m=>by
  induction m with
  |nil=>intro _;simp[An,Aq,Dz]
  |cons x m ih=>
   intro hm;obtain⟨w,ks,e,h1,h2,h3,_⟩:=hnorm x (hm x (by simp));obtain⟨i1,i2,i3⟩:=ih fun y hy=>hm y (by simp[hy]);simp only[List.map_cons,An,Aq,Kk,Dz,e,T.words_mk,T.kids_mk];omega
 obtain⟨f1,f2,f3⟩:=hfr l fun x hx=>hx;refine⟨?_,?_⟩
 ·rw[jM _ hne,Cn,if_neg (by decide),if_neg (by decide),if_neg (by decide),if_pos rfl];simp only[List.length_map];have:(l.length:Int)*(1+((An ((l.map f).map Af):Int)+Aq ((l.map f).map Af)))≤(l.length:Int)*(1+((W:Int)+K)):=Int.mul_le_mul_of_nonneg_left (by omega) (by omega);omega
 ·rw[jM _ hne];refine I7 (by omega) fun t ht=>?_;obtain⟨u,hu,rfl⟩:=List.mem_map.1 ht;obtain⟨x,hx,rfl⟩:=List.mem_map.1 hu;obtain⟨w,ks,e,_,_,_,h4⟩:=hnorm x hx;rw[e];have:=I7 (k:=1) (w:=w) (l:=ks) (m:=d+1) (by omega) fun t ht=>by have:=h4 t ht;omega
  omega
theorem nr (x m:Int):Fm (HN 0 x m) m=true:=by
 unfold Fm;rw[List.all_eq_true];intro i hi;have h8:i<8:=by simpa using hi
 have g:=Ia (HN 0 x m) h8;rw[TE,YN (BJ 0) h8] at g;by_cases c:m / 2 ^ i % 2=1
 ·simp[c]
 ·have hn:Ev m i=false:=by simp[Ev,c]
  rw[hn,if_neg (by simp),Ia 0 h8] at g;have z:B5 0 i=0:=by simp[B5]
  rw[z] at g;simp only[Bool.or_eq_true,decide_eq_true_eq];exact .inr g.symm
theorem N5 {a b:T}:∀ (n p:Nat) (last:Int),p+n≤60000→last<p→CZ last ((List.range' p n).filterMap fun i=>if EC (a.words.getD i 0) (b.words.getD i 0)=0 then none else some (zx i (a.words.getD i 0) (b.words.getD i 0)))=true
 |0,p,last,_,_=>rfl
 |n+1,p,last,h,hl=>by
  rw[List.range'_succ,List.filterMap_cons];by_cases c:EC (a.words.getD p 0) (b.words.getD p 0)=0
  ·rw[if_pos c];exact N5 n (p+1) last (by omega) (by omega)
  ·rw[if_neg c];have ih:=N5 (a:=a) (b:=b) n (p+1) p (by omega) (by omega);show(LI last (zx p _ _)&&CZ (zx p _ _).at_ _)=true;rw[Bool.and_eq_true];refine⟨?_,ih⟩;unfold LI zx;simp only[nr,Bool.not_true,Bool.or_false,Bool.not_eq_true',Bool.or_eq_false_iff,decide_eq_false_iff_not];exact⟨⟨by omega,by omega⟩,c⟩
theorem OJ {one:T→T→E} {a b:T} {d:Nat} (hk:∀ i,(Jl (one (a.kids.getD i T0) (b.kids.getD i T0))).kind=(one (a.kids.getD i T0) (b.kids.getD i T0)).kind) (hone:∀ i,i<max a.kids.length b.kids.length→(one (a.kids.getD i T0) (b.kids.getD i T0)).kind ≠ 0→Bu d (Jl (one (a.kids.getD i T0) (b.kids.getD i T0)))=true):∀ (n p:Nat) (last:Int),p+n≤max a.kids.length b.kids.length→p+n≤60000→last<p→DM d last (((List.range' p n).filterMap fun i=>if (one (a.kids.getD i T0) (b.kids.getD i T0)).kind=0 then none else some (.mk i (one (a.kids.getD i T0) (b.kids.getD i T0)))).map iR)=true
 |0,p,last,_,_,_=>by simp
 |n+1,p,last,h,h2,hl=>by
  rw[List.range'_succ,List.filterMap_cons];by_cases c:(one (a.kids.getD p T0) (b.kids.getD p T0)).kind=0
  ·rw[if_pos c];exact OJ hk hone n (p+1) last (by omega) (by omega) (by omega)
  ·rw[if_neg c];have ih:=OJ hk hone n (p+1) p (by omega) (by omega) (by omega);simp only[List.map_cons];rw[Ex];have e1:(iR (.mk p (one (a.kids.getD p T0) (b.kids.getD p T0)))).at_=p:=rfl;have e2:(iR (.mk p (one (a.kids.getD p T0) (b.kids.getD p T0)))).e=Jl (one (a.kids.getD p T0) (b.kids.getD p T0)):=rfl;rw[e1,e2,hone p (by omega) c,hk p,ih];simp;exact⟨⟨by omega,by omega⟩,c⟩
theorem wK {R:E→T→T→Prop} {os:List OP} {a b:List T} (h:LdO R os a b):∀ (n m:Nat),n+a.length≤1048576→m+b.length≤1048576→Be n m os=(((n+a.length:Nat):Int),((m+b.length:Nat):Int)):=by
 induction h with
 |nil=>intro n m _ _;rfl
 |keep l mm hne hl _ ih=>
  intro n m h1 h2;have hlen:l.length=mm.length:=by simpa using congrArg List.length hl
  rw[List.length_append] at h1 h2;have:=ih (n+l.length) (m+mm.length) (by omega) (by omega);rw[Be];have e1:Ii (if (OP.mk 0 ((l.length:Nat):Int) [] E0).kind ≠ 2 then (n:Int)+Bo (OP.mk 0 ((l.length:Nat):Int) [] E0) else (n:Int))=((n+l.length:Nat):Int):=by
   simp[Bo,Ii];omega
  have e2:Ii (if (OP.mk 0 ((l.length:Nat):Int) [] E0).kind ≠ 1 then (m:Int)+Bo (OP.mk 0 ((l.length:Nat):Int) [] E0) else (m:Int))=((m+mm.length:Nat):Int):=by
   simp[Bo,Ii];omega
  rw[e1,e2,this];simp;omega
 |del l mm hne hl _ ih=>
  intro n m h1 h2;have hlen:l.length=mm.length:=by simpa using congrArg List.length hl
  rw[List.length_append] at h1;have:=ih (n+mm.length) m (by omega) (by omega);rw[Be];have e1:Ii (if (OP.mk 1 0 l E0).kind ≠ 2 then (n:Int)+Bo (OP.mk 1 0 l E0) else (n:Int))=((n+mm.length:Nat):Int):=by
   simp[Bo,Ii];omega
  have e2:Ii (if (OP.mk 1 0 l E0).kind ≠ 1 then (m:Int)+Bo (OP.mk 1 0 l E0) else (m:Int))=((m:Nat):Int):=by
   simp[Ii];omega
  rw[e1,e2,this];simp;omega
 |ins l mm hne hl _ ih=>
  intro n m h1 h2;have hlen:l.length=mm.length:=by simpa using congrArg List.length hl
  rw[List.length_append] at h2;have:=ih n (m+mm.length) (by omega) (by omega);rw[Be];have e1:Ii (if (OP.mk 2 0 l E0).kind ≠ 2 then (n:Int)+Bo (OP.mk 2 0 l E0) else (n:Int))=((n:Nat):Int):=by
   simp[Ii];omega
  have e2:Ii (if (OP.mk 2 0 l E0).kind ≠ 1 then (m:Int)+Bo (OP.mk 2 0 l E0) else (m:Int))=((m+mm.length:Nat):Int):=by
   simp[Bo,Ii];omega
  rw[e1,e2,this];simp;omega
 |desc e x y r _ ih=>
  intro n m h1 h2;rw[List.length_cons] at h1 h2;have:=ih (n+1) (m+1) (by omega) (by omega);rw[Be];have e1:Ii (if (OP.mk 3 0 [] e).kind ≠ 2 then (n:Int)+Bo (OP.mk 3 0 [] e) else (n:Int))=((n+1:Nat):Int):=by
   simp[Bo,Ii];omega
  have e2:Ii (if (OP.mk 3 0 [] e).kind ≠ 1 then (m:Int)+Bo (OP.mk 3 0 [] e) else (m:Int))=((m+1:Nat):Int):=by
   simp[Bo,Ii];omega
  rw[e1,e2,this];simp;omega
theorem xX {R:E→T→T→Prop} {os:List OP} {a b:List T} (h:LdO R os a b):∀ o,o ∈ os→o.kind=0→1≤o.n∧o.n≤a.length:=by
 induction h with
 |nil=>intro o ho;simp at ho
 |keep l m hne hl _ ih=>
  intro o ho hk;rw[List.length_append];rcases List.mem_cons.1 ho with rfl | ho
  ·have:=List.length_pos_iff.2 hne;show(1:Int)≤(l.length:Nat)∧((l.length:Nat):Int)≤_;omega
  ·have:=ih o ho hk;omega
 |del l m hne hl _ ih=>
  intro o ho hk;rw[List.length_append];rcases List.mem_cons.1 ho with rfl | ho
  ·cases hk
  ·have:=ih o ho hk;omega
 |ins l m hne hl _ ih=>
  intro o ho hk;rcases List.mem_cons.1 ho with rfl | ho
  ·cases hk
  ·exact ih o ho hk
 |desc e x y r _ ih=>
  intro o ho hk;rw[List.length_cons];rcases List.mem_cons.1 ho with rfl | ho
  ·cases hk
  ·have:=ih o ho hk;omega
theorem v9 {list:Int}:∀ {W:List OP} {s:Int},Wr list s W→∀ o,o ∈ W→gF list o
 |[],_,_,o,h=>by simp at h
 |x::W,s,h,o,ho=>by
  rcases List.mem_cons.1 ho with rfl | ho
  ·exact h.1
  ·exact v9 h.2.2 o ho
theorem sq {list:Int} {G:T→Prop} {P:OP→Prop} (hG:∀ t,G t→G (Af t)) (hk:∀ n l e,P (.mk 0 n l e)) (hd:∀ l,(∀ t,t ∈ l→G t)→P (.mk 1 0 l E0)) (hi:∀ l,(∀ t,t ∈ l→G t)→P (.mk 2 0 l E0)):∀ (os out:List OP) (g b:List T),(∀ o,o ∈ os→(o.kind=1∨o.kind=2→∀ t,t ∈ o.l→G t)∧(o.kind ≠ 0→o.kind ≠ 1→o.kind ≠ 2→P (.mk 3 0 [] o.e)))→(∀ o,o ∈ out→P o)→(∀ t,t ∈ g→G t)→(∀ t,t ∈ b→G t)→∀ o,o ∈ ED list os out g b→P o:=by
 have kp:∀ {out:List OP} (n:Int),(∀ o,o ∈ out→P o)→∀ o,o ∈ RG out n→P o:=fun {out} n h o ho=>by
  unfold RG at ho;split at ho
  ·rename_i m l e he;rcases List.mem_append.1 ho with ho | ho
   ·exact h o (List.dropLast_subset _ ho)
   ·rw[List.mem_singleton] at ho;subst ho;exact hk _ l e
  ·rcases List.mem_append.1 ho with ho | ho
   ·exact h o ho
   ·rw[List.mem_singleton] at ho;subst ho;exact hk n [] E0
 have fl:∀ {out:List OP} {g b:List T},(∀ o,o ∈ out→P o)→(∀ t,t ∈ g→G t)→(∀ t,t ∈ b→G t)→∀ o,o ∈ Nc out g b→P o:=fun {out g b} h hg hb o ho=>by
  unfold Nc DE Dx at ho;rcases List.mem_append.1 ho with ho | ho
  ·exact h o ho
  ·rcases List.mem_append.1 ho with ho | ho
   ·split at ho
    ·simp at ho
    ·rw[List.mem_singleton] at ho;subst ho;exact hd g hg
   ·split at ho
    ·simp at ho
    ·rw[List.mem_singleton] at ho;subst ho;exact hi b hb
 have z:∀ t:T,t ∈ ([]:List T)→G t:=by simp
 intro os;induction os with
 |nil=>
  intro out g b _ ho hg hb;rw[ED];exact fl ho hg hb
 |cons x os ih=>
  intro out g b hos ho hg hb;have hos':=fun o (h:o ∈ os)=>hos o (List.mem_cons_of_mem _ h);have hx:=hos x (by simp);have nn:(x.kind=1∨x.kind=2)→∀ (l:List T),(∀ t,t ∈ l→G t)→∀ t,t ∈ l++x.l.map Af→G t:=fun hk l hl t ht=>by
   rcases List.mem_append.1 ht with ht | ht
   ·exact hl t ht
   ·obtain⟨u,hu,rfl⟩:=List.mem_map.1 ht;exact hG _ (hx.1 hk u hu)
  rw[ED];split
  ·exact ih _ _ _ hos' (kp _ (fl ho hg hb)) z z
  ·split
   ·rename_i h1;exact ih _ _ _ hos' ho (nn (.inl h1) g hg) hb
   ·split
    ·rename_i h2;exact ih _ _ _ hos' ho hg (nn (.inr h2) b hb)
    ·split
     ·exact ih _ _ _ hos' (kp _ (fl ho hg hb)) z z
     ·rename_i h0 h1 h2 _;refine ih _ _ _ hos' (fun o h=>?_) z z;rcases List.mem_append.1 h with h | h
      ·exact fl ho hg hb o h
      ·rw[List.mem_singleton] at h;subst h;exact hx.2 h0 h1 h2
def r7 (one:T→T→E) (a b:List T) (o:OP):Prop:=o.kind=3→∃ x y,x ∈ a∧y ∈ b∧Gg x y ≠ 0∧o.e=one x y
theorem ff (one:T→T→E) (a b l:List T):∀ o,o ∈ DE l→r7 one a b o:=fun o ho hk=>by
 unfold DE at ho;split at ho
 ·simp at ho
 ·rw[List.mem_singleton] at ho;subst ho;cases hk
theorem dF (one:T→T→E) (a b l:List T):∀ o,o ∈ Dx l→r7 one a b o:=fun o ho hk=>by
 unfold Dx at ho;split at ho
 ·simp at ho
 ·rw[List.mem_singleton] at ho;subst ho;cases hk
theorem vj {one:T→T→E} {a b a' b':List T} (hA:∀ t,t ∈ a→t ∈ a') (hB:∀ t,t ∈ b→t ∈ b') {o:OP} (h:r7 one a b o):r7 one a' b' o:=fun hk=>by
 obtain⟨x,y,hx,hy,hs,e⟩:=h hk;exact⟨x,y,hA x hx,hB y hy,hs,e⟩
theorem pL (one:T→T→E) (a b:List T):∀ (P:List Sc) (i j:Nat) (out:List OP),ir a.length b.length i j P→(∀ x,x ∈ P→Gg (a.getD x.i T0) (b.getD x.j T0) ≠ 0)→(∀ o,o ∈ out→r7 one a b o)→∀ o,o ∈ HO one a b P i j out→r7 one a b o
 |[],i,j,out,h,_,g=>by
  intro o ho;rw[HO] at ho;rcases List.mem_append.1 ho with ho | ho
  ·rcases List.mem_append.1 ho with ho | ho
   ·exact g o ho
   ·exact ff _ _ _ _ o ho
  ·exact dF _ _ _ _ o ho
 |x::P,i,j,out,h,hs,g=>by
  obtain⟨k1,k2,k3,k4,k5⟩:=h;rw[HO];refine pL one a b P _ _ _ k5 (fun y hy=>hs y (List.mem_cons_of_mem _ hy)) fun o ho=>?_;rcases List.mem_append.1 ho with ho | ho
  ·rcases List.mem_append.1 ho with ho | ho
   ·rcases List.mem_append.1 ho with ho | ho
    ·exact g o ho
    ·exact ff _ _ _ _ o ho
   ·exact dF _ _ _ _ o ho
  ·rw[List.mem_singleton] at ho;subst ho;intro _;refine⟨_,_,?_,?_,hs x (by simp),rfl⟩
   ·rw[List.getD_eq_getElem?_getD,List.getElem?_eq_getElem k3];exact A5 k3
   ·rw[List.getD_eq_getElem?_getD,List.getElem?_eq_getElem k4];exact A5 k4
theorem qm (one:T→T→E) (a b:List T):∀ o,o ∈ GU one a b→r7 one a b o:=by
 refine pL one a b _ 0 0 [] (TI a b) (fun x hx=>?_) (by simp);obtain⟨h,_⟩:=dD (Oh a b);obtain⟨h1,h2⟩:=G9 h;obtain⟨g1,g2⟩:=Q1 h1;obtain⟨_,_,_,hn,r,k1,k2⟩:=Pm (h2 x (g2.subset hx));simp[Oh] at k1;obtain⟨t,e1,e2⟩:=k1;rw[← e2] at k2;simp at k2;obtain⟨u,e3,e4⟩:=k2;rw[List.getD_eq_getElem?_getD,List.getD_eq_getElem?_getD,e1,e3];show Gg t u ≠ 0;omega
theorem AaJ {one:T→T→E} (S:List Sp) (a b:List T):∀ o,o ∈ CP (GU one) S a b []→r7 one a b o:=by
 have app:∀ {out l:List OP},(∀ o,o ∈ out→r7 one a b o)→(∀ o,o ∈ l→r7 one a b o)→∀ o,o ∈ out++l→r7 one a b o:=fun h1 h2 o ho=>by
  rcases List.mem_append.1 ho with ho | ho
  ·exact h1 o ho
  ·exact h2 o ho
 obtain⟨a',b',_,_,h⟩:=Ka (gap:=GU one) (S0:=S) (I:=fun a' b' out=>(∀ t,t ∈ a'→t ∈ a)∧(∀ t,t ∈ b'→t ∈ b)∧∀ o,o ∈ out→r7 one a b o) (fun s hs x y out h=>⟨fun t ht=>h.1 t (QB ht),fun t ht=>h.2.1 t (QB ht),app h.2.2 fun o ho hk=>by
   simp at ho;subst ho;cases hk⟩) (fun n x y out h=>⟨fun t ht=>h.1 t (QB ht),h.2.1,app h.2.2 (ff _ _ _ _)⟩) (fun n x y out h=>⟨h.1,fun t ht=>h.2.1 t (QB ht),app h.2.2 (dF _ _ _ _)⟩) (fun n m x y out h=>⟨fun t ht=>h.1 t (QB ht),fun t ht=>h.2.1 t (QB ht),app h.2.2 fun o ho=>vj (fun t ht=>h.1 t (PD ht)) (fun t ht=>h.2.1 t (PD ht)) (qm one _ _ o ho)⟩) S a b [] (fun s hs=>hs) ⟨fun t ht=>ht,fun t ht=>ht,by simp⟩
 exact h
theorem zh (one:T→T→E) (most:Int) (a b:T):∀ o,o ∈ Tf one most a b→r7 one a.kids b.kids o:=by
 unfold Tf;split
 ·exact AaJ _ _ _
 ·exact qm one _ _
theorem Xl {d:Nat} (h:d ≠ 0):Bu d E0=true:=by
 unfold E0;exact rightE_iff.2 ⟨h,by omega,by omega,fun _=>⟨rfl,rfl⟩,fun _=>⟨rfl,rfl⟩,fun _=>⟨rfl,rfl⟩,fun h=>absurd h (by decide),rfl,by simp,fun h=>absurd h (by decide),by simp,by simp[Be]⟩
theorem sd {d:Nat} (h:d ≠ 0) {a b:T} (ha:Aj 64 a=true) (hb:Aj 64 b=true) (ka:a.kind ≠ 10) (kb:b.kind ≠ 10):Bu d (.mk 1 a b [] [] 0 [])=true:=
 rightE_iff.2 ⟨h,by omega,by omega,fun h=>absurd rfl h,fun _=>⟨rfl,rfl⟩,fun _=>⟨rfl,rfl⟩,fun _=>⟨ha,hb,ka,kb⟩,rfl,by simp,fun h=>absurd h (by decide),by simp,by simp[Be]⟩
theorem QY {c:T} (h:Aj 0 c=true) (hk:c.kind ≠ 10):c=T0:=by
 obtain⟨k,w,l⟩:=c;have hk:k ≠ 10:=hk;rw[AI] at h;by_cases h0:k=0
 ·rw[if_pos h0] at h;simp at h;rw[h0,h.1,h.2]
 ·rw[if_neg h0,if_neg hk,if_pos (by simp[A4])] at h;cases h
theorem xA {k:Int} {c:T} (h:B6 k c=true) (h2:¬ (2≤k∧k≤7)):c.kind ≠ 10:=by
 intro e;unfold B6 at h;have:Bb k=false:=by unfold Bb;simp;omega
 rw[this] at h;simp[e] at h
theorem cj {k:Int} {c:T} (h:B6 k c=true) (h2:2≤k∧k≤7):c.kind=10:=by
 unfold B6 at h;have:Bb k=true:=by unfold Bb;simp;omega
 rw[this] at h;simp at h;exact h.1.1
theorem ic {c:T} (h:B6 9 c=true):c.kind=1:=by
 unfold B6 at h;simp at h;exact h.1.2
theorem Vg {d:Nat} {t:T} (h:Aj d t=true) (hk:t.kind=1) (i:Nat):Aj (d-1) (t.kids.getD i T0)=true∧(t.kids.getD i T0).kind ≠ 10:=by
 rw[List.getD_eq_getElem?_getD];cases e:t.kids[i]? with
 |none=>exact⟨HZ _,by simp⟩
 |some z=>
  obtain⟨k,w,l⟩:=t;have hk:k=1:=hk;subst hk;have:=AV h z (List.mem_of_getElem? e);exact⟨this.1,xA this.2 (by omega)⟩
theorem jO (most:Int):∀ (f g d:Nat) (a b:T),Tj f a→Tj g b→Aj d a=true→Aj d b=true→d≤64→d ≠ 0→a.kind ≠ 10→b.kind ≠ 10→Bu d (Jl (Gp most f a b))=true:=by
 intro f;have rep:∀ {d:Nat} {a b:T},Aj d a=true→Aj d b=true→d≤64→d ≠ 0→a.kind ≠ 10→b.kind ≠ 10→Bu d (Jl (.mk 1 a b [] [] 0 []))=true:=fun {d a b} ra rb hd h0 ka kb=>by
  rw[FP,if_pos rfl];exact sd h0 (Ch a 64 (IV a d 64 hd ra)) (Ch b 64 (IV b d 64 hd rb)) (by rw[Bp];exact ka) (by rw[Bp];exact kb)
 induction f with
 |zero=>
  intro g d a b oa ob ra rb hd h0 ka kb;rw[Gp];split
  ·rw[YY];exact Xl h0
  ·exact rep ra rb hd h0 ka kb
 |succ f ih=>
  intro g d a b oa ob ra rb hd h0 ka kb;obtain⟨a1,a2,a3,a4⟩:=AF oa;obtain⟨b1,b2,b3,b4⟩:=AF ob;have na:=OA (f+1) d a ra;have nb:=OA (f+1) d b rb;rw[Gp];split
  ·rw[YY];exact Xl h0
  ·split
   ·rename_i hne hk;unfold kV;rw[FP,if_neg (by decide),if_pos rfl];have hkind:∀ i,(Jl (Gp most f (a.kids.getD i T0) (b.kids.getD i T0))).kind=(Gp most f (a.kids.getD i T0) (b.kids.getD i T0)).kind:=fun i=>kq (WA most f (g-1) _ _ (Gi oa i) (Gi ob i) (pc na i) (pc nb i));have W:=N5 (a:=a) (b:=b) (max a.words.length b.words.length) 0 (-1) (by omega) (by omega);rw[← List.range_eq_range'] at W;have K:=OJ (one:=Gp most f) (a:=a) (b:=b) (d:=d-1) hkind (fun i hi hc=>by
     obtain⟨q1,q2⟩:=Vg ra hk.1 i;obtain⟨q3,q4⟩:=Vg rb hk.2 i;refine ih (g-1) (d-1) _ _ (Gi oa i) (Gi ob i) q1 q3 (by omega) (fun hz=>hc ?_) q2 q4;rw[hz] at q1 q3;rw[QY q1 q2,QY q3 q4];have:QL T0 T0=true:=eqT_iff.2 rfl;cases f with
     |zero=>rw[Gp,if_pos this];rfl
     |succ f=>rw[Gp,if_pos this];rfl) (max a.kids.length b.kids.length) 0 (-1) (by omega) (by omega) (by omega)
    rw[← List.range_eq_range'] at K;exact rightE_iff.2 ⟨h0,by omega,by omega,fun _=>⟨rfl,rfl⟩,fun h=>absurd rfl h,fun _=>⟨rfl,rfl⟩,fun h=>absurd h (by decide),W,K,fun h=>absurd h (by decide),by simp,by simp[Be]⟩
   ·split
    ·rename_i hne hns hk;rw[SN,FP,if_neg (by decide),if_neg (by decide),if_pos rfl];have hl2:=hk.2.1;have hl9:=hk.2.2;obtain⟨kd,wa,la⟩:=a;obtain⟨kd2,wb,lb⟩:=b;have hkk:kd=kd2:=hk.1;subst hkk;have hl2:2≤kd:=hl2;have hl9:kd≤9:=hl9;have Ra:=AV ra;have Rb:=AV rb;have hFew:∀ t,t ∈ la→ZB f t:=fun t ht=>by
      have key:∀ (f g:Nat) (t:T),Tj g t→ZB f t:=fun f=>by
       induction f with
       |zero=>exact fun g t _=>trivial
       |succ f ih=>exact fun g t h=>⟨by have:=(AF h).2.2.2;omega,fun k hk=>ih (g-1) k (AX h k hk)⟩
      exact key f f t (AX oa t ht)
     have hone:=fun x (hx:x ∈ la) y (hy:y ∈ lb)=>WA most f (g-1) x y (AX oa x hx) (AX ob y hy) (na.2 x hx) (nb.2 y hy);have a4':la.length≤1000:=a4;have b4':lb.length≤1000:=b4;have L:=Abq (list:=kd) (P:=ZB f) (fun e x y hx r=>mj f e x y hx r) (pt (R:=Ld f) (one:=Gp most f) (most:=most) (a:=.mk kd wa la) (b:=.mk kd wb lb) hone) hFew [] [] [] [] [] [] [] .nil rfl rfl (by show 0+0+la.length≤_;omega);simp only[List.nil_append] at L;have hWr:=QV (list:=kd) ((Tf (Gp most f) most (.mk kd wa la) (.mk kd wb lb)).map LP) [] [] [] (fun x hx e0 e1 e2=>by
      obtain⟨y,hy,rfl⟩:=List.mem_map.1 hx;cases R6 (Gp most f) most _ _ y hy with
      |keep n h=>exact absurd rfl e0
      |del l h g k=>exact absurd rfl e1
      |ins l h g k=>exact absurd rfl e2
      |desc p q hp hq=>exact Aav _ (RO most f (g-1) p q (AX oa p hp) (AX ob q hq))) trivial (by show(4:Int) ≠ 1∧(4:Int) ≠ 2;decide) rfl rfl
     have hGt:∀ t,(t ∈ la∨t ∈ lb)→Af t=t∧Aj 64 (.mk kd [] [t])=true:=fun t ht=>by
      have h1:Af t=t:=by
       rcases ht with ht | ht
       ·exact(AF (AX oa t ht)).2.1
       ·exact(AF (AX ob t ht)).2.1
      have h2:Aj (d-1) t=true∧B6 kd t=true:=by
       rcases ht with ht | ht
       ·exact Ra t ht
       ·exact Rb t ht
      refine⟨h1,Ou (by omega) (by omega) (by simp[A4];omega) fun x hx=>?_⟩;rw[List.mem_singleton] at hx;subst hx;exact⟨IV x (d-1) 63 (by omega) h2.1,h2.2⟩
     have hAll:=sq (list:=kd) (G:=fun t=>Af t=t∧Aj 64 (.mk kd [] [t])=true) (P:=fun o=>(o.kind=1∨o.kind=2→∀ t,t ∈ o.l→Aj 64 (.mk kd [] [t])=true)∧(o.kind=3→∃ x y,x ∈ la∧y ∈ lb∧Gg x y ≠ 0∧o.e=Jl (Gp most f x y))) (fun t ht=>by rw[ht.1];exact ht) (fun n l e=>⟨fun h=>absurd h (by show ¬ ((0:Int)=1∨(0:Int)=2);decide),fun h=>absurd h (by show ¬ (0:Int)=3;decide)⟩) (fun l h=>⟨fun _ t ht=>(h t ht).2,fun h=>absurd h (by show ¬ (1:Int)=3;decide)⟩) (fun l h=>⟨fun _ t ht=>(h t ht).2,fun h=>absurd h (by show ¬ (2:Int)=3;decide)⟩) ((Tf (Gp most f) most (.mk kd wa la) (.mk kd wb lb)).map LP) [] [] [] (fun o ho=>by
      obtain⟨y,hy,rfl⟩:=List.mem_map.1 ho;have hsc:=zh (Gp most f) most _ _ y hy;cases R6 (Gp most f) most _ _ y hy with
      |keep n h=>exact⟨fun h=>absurd h (by show ¬ ((0:Int)=1∨(0:Int)=2);decide),fun h=>absurd rfl h⟩
      |del l h g k=>exact⟨fun _ t ht=>hGt t (.inl (g t ht)),fun _ h=>absurd rfl h⟩
      |ins l h g k=>exact⟨fun _ t ht=>hGt t (.inr (g t ht)),fun _ _ h=>absurd rfl h⟩
      |desc p q hp hq=>
       obtain⟨x,y,hx,hy2,hs,e⟩:=hsc rfl;refine⟨fun h=>absurd h (by show ¬ ((3:Int)=1∨(3:Int)=2);decide),fun _ _ _=>⟨fun h=>absurd h (by show ¬ ((3:Int)=1∨(3:Int)=2);decide),fun _=>⟨x,y,hx,hy2,hs,?_⟩⟩⟩;show Jl (Gp most f p q)=_;have e':Gp most f p q=Gp most f x y:=e;rw[e']) (by simp) (by simp) (by simp)
     have hlen:=wK L 0 0 (by show 0+la.length≤_;omega) (by show 0+lb.length≤_;omega);refine rightE_iff.2 ⟨h0,by omega,by omega,fun _=>⟨rfl,rfl⟩,fun _=>⟨rfl,rfl⟩,fun h=>absurd rfl h,fun h=>absurd h (by decide),rfl,by simp,fun _=>⟨hl2,hl9⟩,?_,?_⟩
     ·rw[rightOs_all];intro o ho;refine bz ?_;have hkeep:=xX L o ho;obtain⟨p1,p2⟩:=hAll o ho;cases v9 hWr o ho with
      |keep n=>
       obtain⟨n1,n2⟩:=hkeep rfl;have n1:1≤n:=n1;have n2:n≤(la.length:Nat):=n2;exact⟨by show(0:Int)≤0;omega,by show(0:Int)≤3;omega,fun _=>⟨n1,by show n≤1048576;omega,rfl⟩,fun h=>absurd rfl h,fun _=>rfl,fun h=>absurd h (by show ¬ ((0:Int)=1∨(0:Int)=2);decide),fun h=>absurd h (by show ¬ (0:Int)=3;decide)⟩
      |del l h g=>exact⟨by show(0:Int)≤1;omega,by show(1:Int)≤3;omega,fun h=>absurd h (by show ¬ (1:Int)=0;decide),fun _=>rfl,fun _=>rfl,fun h'=>⟨h,p1 h'⟩,fun h=>absurd h (by show ¬ (1:Int)=3;decide)⟩
      |ins l h g=>exact⟨by show(0:Int)≤2;omega,by show(2:Int)≤3;omega,fun h=>absurd h (by show ¬ (2:Int)=0;decide),fun _=>rfl,fun _=>rfl,fun h'=>⟨h,p1 h'⟩,fun h=>absurd h (by show ¬ (2:Int)=3;decide)⟩
      |desc e hi hn=>
       obtain⟨x,y,hx,hy,hs,he⟩:=p2 rfl;have he:e=Jl (Gp most f x y):=he;have r1:=Ra x hx;have r2:=Rb y hy;have hek:e.kind ≠ 0:=fun h=>by unfold Ju at hi;simp[h] at hi
       have hxk:x.kind=y.kind∧x.kind ≠ 0∧x.kind ≠ 10:=by
        unfold Gg at hs;split at hs
        ·exact absurd rfl hs
        ·rename_i hc;simp only[not_or] at hc;exact⟨by omega,hc.2.1,hc.2.2⟩
       have h8:8≤kd:=by
        apply Classical.byContradiction;intro hc;exact hxk.2.2 (cj r1.2 ⟨hl2,by omega⟩)
       have hd1:d-1 ≠ 0:=fun hz=>by
        have q1:=r1.1;rw[hz] at q1;have:=QY q1 hxk.2.2;exact hxk.2.1 (by rw[this];rfl)
       have R1:=ih (g-1) (d-1) x y (AX oa x hx) (AX ob y hy) r1.1 r2.1 (by omega) hd1 hxk.2.2 (by rw[← hxk.1];exact hxk.2.2);refine⟨by show(0:Int)≤3;omega,by show(3:Int)≤3;omega,fun h=>absurd h (by show ¬ (3:Int)=0;decide),fun _=>rfl,fun h=>absurd rfl h,fun h=>absurd h (by show ¬ ((3:Int)=1∨(3:Int)=2);decide),fun _=>⟨rfl,hek,h8,by rw[he] at *; exact R1,?_⟩⟩;unfold RK;by_cases e8:kd=8
       ·simp[e8]
       ·have e9:kd=9:=by omega
        subst e9;have x1:=ic r1.2;have y1:=ic r2.2;have Lf:=mj f _ _ _ (hFew x hx) (hone x hx y hy);rw[← he] at Lf;have base:yA e x y→(e.kind=1∧e.old.kind=1∧e.new.kind=1):=fun h=>by
         rcases h with ⟨h,_⟩ | ⟨o,n,h,h1,h2⟩
         ·rw[h] at hek;exact absurd rfl hek
         ·rw[h];have k1:=congrArg T.kind h1;have k2:=congrArg T.kind h2;rw[Bp,Bp] at k1 k2;exact⟨rfl,by show o.kind=1;omega,by show n.kind=1;omega⟩
        have:(e.kind=1∧e.old.kind=1∧e.new.kind=1)∨e.kind=2:=by
         cases f with
         |zero=>exact .inl (base Lf)
         |succ f=>
          rcases Lf with h | ⟨ws,ks,h,_⟩ | ⟨os,h,_,h2,_⟩
          ·exact .inl (base h)
          ·exact .inr (by rw[h];rfl)
          ·omega
        rcases this with ⟨t1,t2,t3⟩ | t1
        ·simp[t1,t2,t3]
        ·simp[t1]
     ·have e1:=congrArg Prod.fst hlen;have e2:=congrArg Prod.snd hlen;exact⟨Int.lt_of_le_of_lt (Int.le_of_eq e1) (by show((0+la.length:Nat):Int)<1048576;omega),Int.lt_of_le_of_lt (Int.le_of_eq e2) (by show((0+lb.length:Nat):Int)<1048576;omega)⟩
    ·exact rep ra rb hd h0 ka kb
theorem vV {a b:T} (ha:Bx a) (hb:Bx b) (pa:BH a≤1000) (pb:BH b≤1000) (ra:Aj 64 a=true) (rb:Aj 64 b=true) (ka:a.kind ≠ 10) (kb:b.kind ≠ 10) {most:Int}:Bu 64 (qj most a b)=true:=
 jO most 1000 1000 64 _ _ (CH a ha pa 1000 pa) (CH b hb pb 1000 pb) (Ch a 64 ra) (Ch b 64 rb) (by omega) (by omega) (by rw[Bp];exact ka) (by rw[Bp];exact kb)
def LA (k:Int) (W K:Nat) (t:T):Int:=if k=8 then 1+AN t else if k=9 then 1+W+K+BA t.kids else 1
theorem pJ:∀ l:List T,Dz (fun t=>1+AN t) l=l.length+BA l
 |[]=>by simp[Dz]
 |t::l=>by
  rw[Dz,pJ l,LZ,List.length_cons];omega
theorem vZ (W K:Nat):∀ l:List T,Dz (fun t=>1+(W:Int)+K+BA t.kids) l=l.length*(1+((W:Int)+K))+I4 l
 |[]=>by simp[Dz]
 |t::l=>by
  rw[Dz,vZ W K l,Kk,List.length_cons];have:((l.length+1:Nat):Int)*(1+((W:Int)+K))=l.length*(1+((W:Int)+K))+(1+((W:Int)+K)):=by rw[Int.natCast_add,Int.add_mul];simp
  rw[this];omega
theorem uy {α:Type}:∀ l:List α,Dz (fun _=>(1:Int)) l=l.length
 |[]=>by simp[Dz]
 |t::l=>by
  rw[Dz,uy l,List.length_cons];omega
theorem OK {α:Type} {c c':α→Int}:∀ {l:List α},(∀ x,x ∈ l→c x≤c' x)→Dz c l≤Dz c' l
 |[],_=>by simp[Dz]
 |x::l,h=>by
  have h1:=h x (by simp);have h2:=OK (l:=l) fun y hy=>h y (by simp[hy]);rw[Dz,Dz];omega
theorem YP {k:Int} {w:List Int} {l:List T} (h2:2≤k) (h9:k≤9):AN (.mk k w l)=1+Dz (LA k (An l) (Aq l)) l:=by
 rw[Cn,if_neg (by omega),if_neg (by omega)];by_cases h8:k=8
 ·have e:LA k (An l) (Aq l)=fun t=>1+AN t:=by funext t;unfold LA;rw[if_pos h8]
  rw[if_pos h8,e,pJ];omega
 ·by_cases h9':k=9
  ·have e:LA k (An l) (Aq l)=fun t=>1+(An l:Int)+Aq l+BA t.kids:=by funext t;unfold LA;rw[if_neg h8,if_pos h9']
   rw[if_neg h8,if_pos h9',e,vZ];omega
  ·have e:LA k (An l) (Aq l)=fun _=>1:=by funext t;unfold LA;rw[if_neg h8,if_neg h9']
   rw[if_neg h8,if_neg h9',e,uy]
theorem qc {k:Int} {W K:Nat} {t:T}:1≤LA k W K t:=by
 obtain⟨h1,h2⟩:=Dt t;unfold LA
 repeat' split
 all_goals omega
theorem ZP:∀ {m ks:List T},(∀ x,x ∈ m→x ∈ ks)→An m≤An ks∧Aq m≤Aq ks
 |[],ks,_=>by simp[An,Aq]
 |x::m,ks,h=>by
  obtain⟨h1,h2⟩:=ZP (m:=m) fun y hy=>h y (by simp[hy]);have h3:=DI (h x (by simp));have h4:=Ek (h x (by simp));rw[An,Aq];omega
theorem mL {m:List T} (h:∀ x,x ∈ m→Af x=x):m.map Af=m:=by
 have:m.map Af=m.map id:=List.map_congr_left fun x hx=>h x hx;rw[this,List.map_id]
theorem Ym {k:Int} {l m:List T} (h2:2≤k) (hl:l.map Af=m.map Af) (hm:∀ x,x ∈ m→Af x=x):Af (.mk k [] l) = .mk k [] m:=by
 rw[AL,if_neg (by omega),if_neg (by omega),hl,mL hm]
theorem uW {k:Int} {l m ks:List T} (h2:2≤k) (h9:k≤9) (hl:l.map Af=m.map Af) (hm:∀ x,x ∈ m→x ∈ ks∧Af x=x):AN (Af (.mk k [] l))≤1+Dz (LA k (An ks) (Aq ks)) m:=by
 rw[Ym h2 hl fun x hx=>(hm x hx).2,YP h2 h9];obtain⟨h1,h2⟩:=ZP fun x hx=>(hm x hx).1;have:Dz (LA k (An m) (Aq m)) m≤Dz (LA k (An ks) (Aq ks)) m:=OK fun x hx=>by
  unfold LA
  repeat' split
  all_goals omega
 omega
def sV (k:Int) (o:OP):List T:=if o.kind=3 then [AU o.e] else if o.kind > 0 then [.mk k [] o.l] else []
theorem zw {R:E→T→T→Prop} {k:Int} {P Q:T→Prop} {ca cb:T→Int} (hR:∀ e x y,R e x y→P x→Q y→3+AN (Af (AU e))≤8*(ca x+cb y)) (h1:∀ x,P x→1≤ca x) (h2:∀ y,Q y→1≤cb y)
  (pa:∀ l m:List T,l.map Af=m.map Af→(∀ x,x ∈ m→P x)→AN (Af (.mk k [] l))≤1+Dz ca m) (pb:∀ l m:List T,l.map Af=m.map Af→(∀ x,x ∈ m→Q x)→AN (Af (.mk k [] l))≤1+Dz cb m) {os:List OP} {la lb:List T} (h:LdO R os la lb) :
  (∀ x,x ∈ la→P x)→(∀ y,y ∈ lb→Q y)→Dz (fun o=>3+BA ((sV k o).map Af)) os≤8*(Dz ca la+Dz cb lb):=by
 induction h with
 |nil=>intro _ _;simp[Dz]
 |keep l m hne h g ih=>
  intro ha hb;have i:=ih (fun x hx=>ha x (by simp[hx])) fun x hx=>hb x (by simp[hx]);have s1:=YF (c:=ca) (l:=l) fun x hx=>h1 x (ha x (by simp[hx]));have s2:=YF (c:=cb) (l:=m) fun x hx=>h2 x (hb x (by simp[hx]));have hl:1≤l.length:=List.length_pos_iff.2 hne;rw[Dz,Rs,Rs];have e:BA ((sV k (.mk 0 (l.length:Nat) [] E0)).map Af)=0:=by
   show BA ((([]:List T)).map Af)=0;simp
  rw[e];omega
 |del l m hne h g ih=>
  intro ha hb;have i:=ih (fun x hx=>ha x (by simp[hx])) hb;have s1:=YF (c:=ca) (l:=m) fun x hx=>h1 x (ha x (by simp[hx]));have hl:1≤l.length:=List.length_pos_iff.2 hne;have hlm:l.length=m.length:=by simpa using congrArg List.length h
  have p:=pa l m h fun x hx=>ha x (by simp[hx]);rw[Dz,Rs];have e:BA ((sV k (.mk 1 0 l E0)).map Af)=AN (Af (.mk k [] l)):=by
   show BA (([T.mk k [] l]).map Af)=_;simp
  rw[e];omega
 |ins l m hne h g ih=>
  intro ha hb;have i:=ih ha fun x hx=>hb x (by simp[hx]);have s1:=YF (c:=cb) (l:=m) fun x hx=>h2 x (hb x (by simp[hx]));have hl:1≤l.length:=List.length_pos_iff.2 hne;have hlm:l.length=m.length:=by simpa using congrArg List.length h
  have p:=pb l m h fun x hx=>hb x (by simp[hx]);rw[Dz,Rs];have e:BA ((sV k (.mk 2 0 l E0)).map Af)=AN (Af (.mk k [] l)):=by
   show BA (([T.mk k [] l]).map Af)=_;simp
  rw[e];omega
 |desc e x y h g ih=>
  intro ha hb;have i:=ih (fun x hx=>ha x (by simp[hx])) fun x hx=>hb x (by simp[hx]);have p:=hR e x y h (ha x (by simp)) (hb y (by simp));rw[Dz,Dz,Dz];have e':BA ((sV k (.mk 3 0 [] e)).map Af)=AN (Af (AU e)):=by
   show BA (([AU e]).map Af)=_;simp
  rw[e'];omega
theorem zJ {R:E→T→T→Prop} {k:Int} {P Q:T→Prop} {D:Nat} (hR:∀ e x y,R e x y→P x→Q y→Am (Af (AU e))≤D)
  (pa:∀ l m:List T,l.map Af=m.map Af→(∀ x,x ∈ m→P x)→Am (Af (.mk k [] l))≤D) (pb:∀ l m:List T,l.map Af=m.map Af→(∀ x,x ∈ m→Q x)→Am (Af (.mk k [] l))≤D) {os:List OP} {la lb:List T} (h:LdO R os la lb) :
  (∀ x,x ∈ la→P x)→(∀ y,y ∈ lb→Q y)→∀ o,o ∈ os→∀ t,t ∈ sV k o→Am (Af t)≤D:=by
 induction h with
 |nil=>intro _ _ o ho;cases ho
 |keep l m hne h g ih=>
  intro ha hb o ho t ht;rcases List.mem_cons.1 ho with rfl | ho
  ·have:t ∈ ([]:List T):=ht;cases this
  ·exact ih (fun x hx=>ha x (by simp[hx])) (fun x hx=>hb x (by simp[hx])) o ho t ht
 |del l m hne h g ih=>
  intro ha hb o ho t ht;rcases List.mem_cons.1 ho with rfl | ho
  ·have:t ∈ [T.mk k [] l]:=ht;rw[List.mem_singleton] at this;subst this;exact pa l m h fun x hx=>ha x (by simp[hx])
  ·exact ih (fun x hx=>ha x (by simp[hx])) hb o ho t ht
 |ins l m hne h g ih=>
  intro ha hb o ho t ht;rcases List.mem_cons.1 ho with rfl | ho
  ·have:t ∈ [T.mk k [] l]:=ht;rw[List.mem_singleton] at this;subst this;exact pb l m h fun x hx=>hb x (by simp[hx])
  ·exact ih ha (fun x hx=>hb x (by simp[hx])) o ho t ht
 |desc e x y h g ih=>
  intro ha hb o ho t ht;rcases List.mem_cons.1 ho with rfl | ho
  ·have:t ∈ [AU e]:=ht;rw[List.mem_singleton] at this;subst this;exact hR e x y h (ha x (by simp)) (hb y (by simp))
  ·exact ih (fun x hx=>ha x (by simp[hx])) (fun x hx=>hb x (by simp[hx])) o ho t ht
theorem ph {a b:List Int} {p:Nat} {ws:List WE} (h:LdW a b p ws):p≤max a.length b.length→p+ws.length≤max a.length b.length:=by
 induction h with
 |nil p h=>intro hp;simpa using hp
 |cons p i m o n ws hp h hi hm ho hn h1 h2 g ih=>
  intro _;have:=ih (by omega);simp only[List.length_cons];omega
theorem zi {R:E→T→T→Prop} {a b:List T} (hR:∀ e i,R e (a.getD i T0) (b.getD i T0)→AN (Af (AU e))≤8*(AN (a.getD i T0)+AN (b.getD i T0))+4) {p:Nat} {ks:List KE} (h:tc R a b p ks) :
  p≤max a.length b.length→Dz (fun x:KE=>3+AN (Af (AU x.e))) ks≤7*(((max a.length b.length:Nat):Int)-p)+8*(BA (a.drop p)+BA (b.drop p)):=by
 induction h with
 |nil p h=>
  intro hp;have h1:=Eo fun t (_:t ∈ a.drop p)=>(Dt t).1;have h2:=Eo fun t (_:t ∈ b.drop p)=>(Dt t).1;rw[Dz];omega
 |cons p i e ks hp h hi he hr g ih=>
  intro _;have i1:=ih (by omega);have i2:=hR e i hr;have d1:=bf a p i hp;have d2:=bf b p i hp;rw[Dz];have e1:(KE.mk (i:Int) e).e=e:=rfl;rw[e1];omega
theorem zk {R:E→T→T→Prop} {a b:List T} {D:Nat} (hR:∀ e i,i<max a.length b.length→R e (a.getD i T0) (b.getD i T0)→Am (Af (AU e))≤D) {p:Nat} {ks:List KE} (h:tc R a b p ks):∀ x,x ∈ ks→Am (Af (AU x.e))≤D:=by
 induction h with
 |nil p h=>intro x hx;cases hx
 |cons p i e ks hp h hi he hr g ih=>
  intro x hx;rcases List.mem_cons.1 hx with rfl | hx
  ·exact hR e i hi hr
  ·exact ih x hx
def PO (a b:T):Int:=if a.kind=0∧b.kind=0 then 4 else 8*(AN a+AN b)-3
theorem cR (a b:T):0≤PO a b∧PO a b≤8*(AN a+AN b)+4∧4+AN a+AN b≤PO a b:=by
 have h1:=(Dt a).1;have h2:=(Dt b).1;unfold PO;split
 ·rename_i h;rw[GD h.1,GD h.2];omega
 ·rename_i h;have:1≤AN a∨1≤AN b:=by
   by_cases ha:a.kind=0
   ·exact .inr (qp fun hb=>h ⟨ha,hb⟩)
   ·exact .inl (qp ha)
  omega
theorem o6 {e:E} {a b:T} (na:Af a=a) (nb:Af b=b) (h:yA e a b):Sz (AU e) (PO a b) (3*max (Am a) (Am b)+1):=by
 obtain⟨b1,b2,b3⟩:=cR a b;rcases h with ⟨rfl,_⟩ | ⟨o,n,rfl,h1,h2⟩
 ·rw[Xa rfl];exact sz_T0.mono b1 (by omega)
 ·rw[Dh,if_neg (by decide),if_pos rfl];have s1:Sz o (AN a) (max (Am a) (Am b)):=⟨by rw[h1,na];exact Int.le_refl _,by rw[h1,na];omega⟩;have s2:Sz n (AN b) (max (Am a) (Am b)):=⟨by rw[h2,nb];exact Int.le_refl _,by rw[h2,nb];omega⟩;exact(Aga s1 s2).mono (by omega) (by omega)
theorem WU {t:T} (h1:t.kind=1) (i:Nat):Am (t.kids.getD i T0)+1≤Am t:=by
 rw[List.getD_eq_getElem?_getD];cases e:t.kids[i]? with
 |none=>
  have:=EV (t:=t) (by omega) (by omega);have h0:Am T0=0:=MH rfl;simp only[Option.getD_none];omega
 |some c=>exact F4 (by omega) (by omega) (List.mem_of_getElem? e)
theorem gn {t:T} (h:∃ d,Aj d t=true) (h1:t.kind=1) (i:Nat):∃ d,Aj d (t.kids.getD i T0)=true:=by
 obtain⟨d,h⟩:=h;rw[List.getD_eq_getElem?_getD];cases e:t.kids[i]? with
 |none=>exact⟨0,HZ _⟩
 |some z=>
  obtain⟨k,w,l⟩:=t;have hk:k=1:=h1;subst hk;exact⟨_,(AV h z (List.mem_of_getElem? e)).1⟩
theorem XQ {c:T} {d:Nat} (h:Aj d c=true) (hk:c.kind=10):AN c=1:=by
 obtain⟨k,w,l⟩:=c;have hk:k=10:=hk;subst hk;rw[AI,if_neg (by decide),if_pos rfl] at h;simp at h;rw[Cn,if_neg (by decide),if_neg (by decide),if_neg (by decide),if_neg (by decide),h.2];simp
theorem qo {t:T} {W K:Nat} (h1:t.kind=1) (hW:t.words.length≤W) (hK:t.kids.length≤K):AN t≤LA 9 W K t:=by
 obtain⟨k,w,l⟩:=t;have h1:k=1:=h1;subst h1;have hW:w.length≤W:=hW;have hK:l.length≤K:=hK;rw[Cn,if_neg (by decide),if_pos rfl];unfold LA;rw[if_neg (by decide),if_pos rfl];show _≤1+(W:Int)+K+BA l;omega
theorem AfZ:∀ (f g:Nat) (e:E) (a b:T),Ld f e a b→Tj f a→Tj g b→(∃ d,Aj d a=true)→(∃ d,Aj d b=true)→Sz (AU e) (PO a b) (3*max (Am a) (Am b)+1):=by
 intro f;induction f with
 |zero=>exact fun g e a b h oa ob _ _=>o6 (AF oa).2.1 (AF ob).2.1 h
 |succ f ih=>
  intro g e a b h oa ob ra rb;have na:=(AF oa).2.1;have nb:=(AF ob).2.1;rcases h with h | ⟨ws,ks,rfl,a1,b1,hW,hK⟩ | ⟨os,rfl,hk,⟨h2,h9⟩,⟨wa,wb⟩,hO⟩
  ·exact o6 na nb h
  ·-- structs
   have kid:=fun (e:E) (i:Nat) (h:Ld f e (a.kids.getD i T0) (b.kids.getD i T0))=>ih (g-1) e _ _ h (Gi oa i) (Gi ob i) (gn ra a1 i) (gn rb b1 i);have hw:=ph hW (by omega);have hs:=zi (fun e i h=>Int.le_trans (kid e i h).1 (cR _ _).2.1) hK (by omega);have hd:=zk (D:=3*max (Am a) (Am b)-2) (fun e i _ h=>by
    have:=(kid e i h).2;have:=WU a1 i;have:=WU b1 i;omega) hK
   have da:=EV (t:=a) (by omega) (by omega);have s1:Sz (Es (ws.map G8)) (1+(ws.length:Int)*(1+((3:Nat)+(0:Nat):Int))+Dz (fun _=>0) ws) (0+2):=ma fun w _=>⟨_,[],rfl,by simp,by simp,by simp,fun t ht=>by cases ht⟩;have s2:Sz (Es (ks.map Ja)) (1+(ks.length:Int)*(1+((1:Nat)+(1:Nat):Int))+Dz (fun x:KE=>AN (Af (AU x.e))) ks) (3*max (Am a) (Am b)-2+2):=ma fun x hx=>⟨_,[AU x.e],rfl,by simp,by simp,by simp,fun t ht=>by
    rw[List.mem_singleton] at ht;subst ht;exact hd x hx⟩
   have z0:∀ l:List WE,Dz (fun _=>(0:Int)) l=0:=fun l=>by
    induction l with
    |nil=>rfl
    |cons x l ih=>rw[Dz,ih];rfl
   rw[z0] at s1;have hsum:=cO (c:=fun x:KE=>AN (Af (AU x.e))) (k:=3) ks;have hsum:Dz (fun x:KE=>3+AN (Af (AU x.e))) ks=3*ks.length+Dz (fun x:KE=>AN (Af (AU x.e))) ks:=hsum;rw[Dh,if_neg (by decide),if_neg (by decide),if_pos rfl,FE];have s:=Aga (w:=Jh (2+256*0)) (s1.mono (Int.le_refl _) (show _≤3*max (Am a) (Am b) by omega)) (s2.mono (Int.le_refl _) (show _≤3*max (Am a) (Am b) by omega));refine s.mono ?_ (Cb _);have ea:AN a=1+a.words.length+a.kids.length+BA a.kids:=by
    obtain⟨k,w,l⟩:=a;have a1:k=1:=a1;subst a1;rw[Cn,if_neg (by decide),if_pos rfl];rfl
   have eb:AN b=1+b.words.length+b.kids.length+BA b.kids:=by
    obtain⟨k,w,l⟩:=b;have b1:k=1:=b1;subst b1;rw[Cn,if_neg (by decide),if_pos rfl];rfl
   unfold PO;rw[if_neg (by omega),ea,eb];simp only[List.drop_zero] at hs;omega
  ·-- lists
   have hb2:2≤b.kind:=by omega
   obtain⟨da,ra⟩:=ra;obtain⟨db,rb⟩:=rb;have mem:=fun (x:T) (hx:x ∈ a.kids)=>(AF (AX oa x hx)).2.1;have memb:=fun (x:T) (hx:x ∈ b.kids)=>(AF (AX ob x hx)).2.1;have Ra:∀ x,x ∈ a.kids→Aj (da-1) x=true∧B6 a.kind x=true:=by
    obtain⟨k,w,l⟩:=a;exact AV ra
   have Rb:∀ x,x ∈ b.kids→Aj (db-1) x=true∧B6 a.kind x=true:=by
    rw[← hk];obtain⟨k,w,l⟩:=b;exact AV rb
   have kid:=fun (e:E) (x y:T) (h:Ld f e x y) (hx:x ∈ a.kids) (hy:y ∈ b.kids)=>ih (g-1) e x y h (AX oa x hx) (AX ob y hy) ⟨_,(Ra x hx).1⟩ ⟨_,(Rb y hy).1⟩;have ea:AN a=1+Dz (LA a.kind (An a.kids) (Aq a.kids)) a.kids:=by
    obtain⟨k,w,l⟩:=a;exact YP h2 h9
   have eb:AN b=1+Dz (LA a.kind (An b.kids) (Aq b.kids)) b.kids:=by
    rw[← hk];have h9:b.kind≤9:=by omega
    obtain⟨k,w,l⟩:=b;exact YP hb2 h9
   have hs:=zw (k:=a.kind) (P:=fun x=>x ∈ a.kids) (Q:=fun x=>x ∈ b.kids) (ca:=LA a.kind (An a.kids) (Aq a.kids)) (cb:=LA a.kind (An b.kids) (Aq b.kids)) (fun e x y h hx hy=>by
    have s:=(kid e x y h hx hy).1;obtain⟨q1,q2,q3⟩:=cR x y;by_cases h8:a.kind=8
    ·unfold LA;rw[if_pos h8,if_pos h8];omega
    ·by_cases h9':a.kind=9
     ·have kx:=ic (h9' ▸ (Ra x hx).2);have ky:=ic (h9' ▸ (Rb y hy).2);have c1:=qo kx (DI hx) (Ek hx);have c2:=qo ky (DI hy) (Ek hy);rw[h9'];unfold PO at s;rw[if_neg (by omega)] at s;omega
     ·have kx:=cj (Ra x hx).2 ⟨h2,by omega⟩;have ky:=cj (Rb y hy).2 ⟨h2,by omega⟩;have c1:=XQ (Ra x hx).1 kx;have c2:=XQ (Rb y hy).1 ky;unfold PO at s;rw[if_neg (by omega),c1,c2] at s;unfold LA;rw[if_neg h8,if_neg h9',if_neg h8,if_neg h9'];omega) (fun x _=>qc) (fun x _=>qc)
    (fun l m hl hm=>uW h2 h9 hl fun x hx=>⟨hm x hx,mem x (hm x hx)⟩) (fun l m hl hm=>uW h2 h9 hl fun x hx=>⟨hm x hx,memb x (hm x hx)⟩) hO (fun x hx=>hx) (fun x hx=>hx)
   have dpa:1≤Am a:=EV (by omega) (by omega);have hd:=zJ (k:=a.kind) (P:=fun x=>x ∈ a.kids) (Q:=fun x=>x ∈ b.kids) (D:=3*max (Am a) (Am b)-2) (fun e x y h hx hy=>by
    have:=(kid e x y h hx hy).2;have:=F4 (t:=a) (by omega) (by omega) hx;have:=F4 (t:=b) (by omega) (by omega) hy;omega) (fun l m hl hm=>by
    rw[Ym h2 hl fun x hx=>mem x (hm x hx)];have:=I7 (k:=a.kind) (w:=[]) (l:=m) (m:=Am a) dpa fun t ht=>F4 (by omega) (by omega) (hm t ht);omega) (fun l m hl hm=>by
    rw[Ym h2 hl fun x hx=>memb x (hm x hx)];have dpb:1≤Am b:=EV (by omega) (by omega);have:=I7 (k:=a.kind) (w:=[]) (l:=m) (m:=Am b) dpb fun t ht=>F4 (by omega) (by omega) (hm t ht);omega) hO (fun x hx=>hx) (fun x hx=>hx)
   have s1:Sz (Es (os.map (Fg a.kind))) (1+(os.length:Int)*(1+((1:Nat)+(1:Nat):Int))+Dz (fun o=>BA ((sV a.kind o).map Af)) os) (3*max (Am a) (Am b)-2+2):=ma fun o ho=>⟨_,sV a.kind o,rfl,by simp,by
    unfold sV
    repeat' split
    all_goals simp,Int.le_refl _,hd o ho⟩
   have hsum:=cO (c:=fun o:OP=>BA ((sV a.kind o).map Af)) (k:=3) os;have hsum:Dz (fun o:OP=>3+BA ((sV a.kind o).map Af)) os=3*os.length+Dz (fun o:OP=>BA ((sV a.kind o).map Af)) os:=hsum;rw[Dh,if_neg (by decide),if_neg (by decide),if_neg (by decide),FH];have s:=AkI (w:=Jh (3+256*a.kind)) (s1.mono (Int.le_refl _) (show _≤3*max (Am a) (Am b) by omega));refine s.mono ?_ (Cb _);unfold PO;rw[if_neg (by omega),ea,eb];omega
theorem Ah0 {a b:T} (ha:Bx a) (hb:Bx b) (pa:BH a≤1000) (pb:BH b≤1000) (ra:Aj 64 a=true) (rb:Aj 64 b=true) {most:Int}:Sz (AU (qj most a b)) (8*(AN (Af a)+AN (Af b))+4) (3*max (Am (Af a)) (Am (Af b))+1):=
 (AfZ 1000 1000 _ _ _ (Aa3 ha hb pa pb ra rb) (CH a ha pa 1000 pa) (CH b hb pb 1000 pb) ⟨_,Ch a 64 ra⟩ ⟨_,Ch b 64 rb⟩).mono (cR _ _).2.1 (Cb _)
theorem Mc {f:Nat→Int→T × Int × Int} {g:T→Int} (hg:∀ t,0≤g t):∀ (ts:List T) (i:Nat) (acc:List T) (left:Int),(∀ (j:Nat) (h:j<ts.length) lf,g ts[j]≤lf→(f (i+j) lf).2.2=0∧(f (i+j) lf).2.1=lf-g ts[j])→Dz g ts≤left →
  (BX f ts.length i acc left).2.2=0∧(BX f ts.length i acc left).2.1=left-Dz g ts
 |[],i,acc,left,_,_=>by simp[BX,Dz]
 |t::ts,i,acc,left,h,hl=>by
  have hs:0≤Dz g ts:=by
   clear h hl;induction ts with
   |nil=>simp[Dz]
   |cons x l ih=>rw[Dz];have:=hg x;omega
  rw[Dz] at hl ⊢;have h0:=h 0 (by simp) left (by simp;omega);simp only[Nat.add_zero,List.getElem_cons_zero] at h0;rw[List.length_cons,BX,if_neg (by rw[h0.1];simp)];have:=Mc hg ts (i+1) (acc++[(f i left).1]) (f i left).2.1 (fun j hj lf hlf=>by
   have:=h (j+1) (by simpa using hj) lf (by simpa using hlf);rw[show i+1+j=i+(j+1) by omega];simpa using this) (by rw[h0.2];omega)
  refine⟨this.1,?_⟩;rw[this.2,h0.2];omega
theorem O6:∀ l:List T,Dz AN l=BA l
 |[]=>by simp[Dz]
 |t::l=>by rw[Dz,O6 l,LZ]
theorem Y6:∀ l:List T,Dz (fun t=>BA t.kids) l=I4 l
 |[]=>by simp[Dz]
 |t::l=>by rw[Dz,Y6 l,Kk]
theorem pS {α:Type}:∀ l:List α,Dz (fun _=>(0:Int)) l=0
 |[]=>rfl
 |t::l=>by rw[Dz,pS l];rfl
def Rd (l:List (List Int)) (rec:Rf→Int→T × Int × Int) (r:Rf) (t:T):Prop:=∀ lf,AN t≤lf→(rec r lf).2.2=0∧(rec r lf).2.1=lf-AN t
theorem RX {l:List (List Int)} {rec:Rf→Int→T × Int × Int} {r:Rf} {i:Nat} {lf:Int} (h:(BQ l r i).2=0):Da l rec r i lf=rec (BQ l r i).1 lf:=by
 unfold Da;rw[if_neg (by rw[h];simp)]
theorem zY {l:List (List Int)} {r:Rf} {u:T} (hm:A7 l r u) (h1:r.kind=1) {rec:Rf→Int→T × Int × Int} (H:∀ (i:Nat) (hi:i<u.kids.length),Rd l rec (BQ l r i).1 u.kids[i]) {lf:Int} (hl:BA u.kids≤lf) :
  (Jf l rec r lf).2.2=0∧(Jf l rec r lf).2.1=lf-BA u.kids:=by
 have hn:=Ds hm;have e:r.kids.toNat=u.kids.length:=by
  unfold nk at hn;rw[if_pos h1] at hn;omega
 unfold Jf;simp only[e];rw[← O6] at hl ⊢;refine Mc (fun t=>(Dt t).1) u.kids 0 [] lf (fun j hj lf hlf=>?_) hl;rw[Nat.zero_add,RX (BN hm hj).1];exact H j hj lf hlf
theorem py {l:List (List Int)} {r:Rf} {u:T} (hm:A7 l r u) (h0:u.kind ≠ 0) (h10:u.kind ≠ 10) {rec1 rec2:Rf→Int→T × Int × Int} {left:Int} (hc:AN u≤left)
  (H1:u.kind=1∨u.kind=8→∀ (i:Nat) (hi:i<u.kids.length),Rd l rec1 (BQ l r i).1 u.kids[i])
  (H2:u.kind=9→∀ (i:Nat) (hi:i<u.kids.length) (j:Nat) (hj:j<u.kids[i].kids.length),Rd l rec2 (BQ l (BQ l r i).1 j).1 u.kids[i].kids[j]) :
  Bd r≤left∧(Fe l r rec1 rec2 left).2.2=0∧(Fe l r rec1 rec2 left).2.1=left-AN u:=by
 have hk:=BD hm;have hn:=Ds hm;have hw:=(Dv hm).1;have hr:=Ku hm;have hkb:=cf hr;have hnat:(nk r).toNat=u.kids.length:=by omega
 by_cases h1:u.kind=1
 ·have ec:AN u=1+u.words.length+u.kids.length+BA u.kids:=by
   obtain⟨k,w,ks⟩:=u;have h1:k=1:=h1;subst h1;rw[Cn,if_neg (by decide),if_pos rfl];rfl
  have em:Bd r=1+u.words.length+u.kids.length:=by
   unfold nk at hn;unfold Py at hw;rw[if_pos (by omega)] at hn hw;unfold Bd;rw[if_pos (by omega)];omega
  have hp:=Eo fun t (_:t ∈ u.kids)=>(Dt t).1;refine⟨by omega,?_⟩;unfold Fe;simp only[if_neg (show ¬ r.kind=9 by omega),if_pos (show r.kind=1∨r.kind=8 by omega),hnat];have:=Mc (f:=Da l rec1 r) (fun t=>(Dt t).1) u.kids 0 [] (left-Bd r) (fun j hj lf hlf=>by
   rw[Nat.zero_add,RX (BN hm hj).1];exact H1 (.inl h1) j hj lf hlf) (by rw[O6];omega)
  rw[O6] at this;exact⟨this.1,by rw[this.2];omega⟩
 ·by_cases h8:u.kind=8
  ·have ec:AN u=1+u.kids.length+BA u.kids:=by
    obtain⟨k,w,ks⟩:=u;have h8:k=8:=h8;subst h8;rw[Cn,if_neg (by decide),if_neg (by decide),if_pos rfl];rfl
   have em:Bd r=1+u.kids.length:=by
    unfold Bd;rw[if_neg (by omega),if_neg (by omega)];omega
   have hp:=Eo fun t (_:t ∈ u.kids)=>(Dt t).1;refine⟨by omega,?_⟩;unfold Fe;simp only[if_neg (show ¬ r.kind=9 by omega),if_pos (show r.kind=1∨r.kind=8 by omega),hnat];have:=Mc (f:=Da l rec1 r) (fun t=>(Dt t).1) u.kids 0 [] (left-Bd r) (fun j hj lf hlf=>by
    rw[Nat.zero_add,RX (BN hm hj).1];exact H1 (.inr h8) j hj lf hlf) (by rw[O6];omega)
   rw[O6] at this;exact⟨this.1,by rw[this.2];omega⟩
  ·by_cases h9:u.kind=9
   ·have r9:r.kind=9:=by omega
    have ec:AN u=1+u.kids.length*(1+((An u.kids:Int)+Aq u.kids))+I4 u.kids:=by
     obtain⟨k,w,ks⟩:=u;have h9:k=9:=h9;subst h9;rw[Cn,if_neg (by decide),if_neg (by decide),if_neg (by decide),if_pos rfl];rfl
    have hcnt:r.count=u.kids.length:=by
     unfold nk at hn;rw[if_neg (by omega)] at hn;exact hn
    have hkid:∀ (i:Nat),i<u.kids.length→BQ l r i=(⟨1,r.s,r.at_+i*(r.data+r.kids),r.data,r.kids,0,0⟩,0):=fun i hi=>by
     rw[BQ,if_neg (by omega),if_neg (by omega),if_neg (by omega),if_pos r9]
    have hrow:∀ (i:Nat) (hi:i<u.kids.length),(u.kids[i].words.length:Int)=r.data∧(u.kids[i].kids.length:Int)=r.kids:=fun i hi=>by
     have kk:=(BN hm hi).2;rw[hkid i hi] at kk;have g1:=(Dv kk).1;have g2:=Ds kk;simp[Py,nk] at g1 g2;omega
    have em:Bd r=1+u.kids.length*(1+((An u.kids:Int)+Aq u.kids)):=by
     unfold Bd;rw[if_neg (by omega),if_pos r9,hcnt];by_cases hz:u.kids.length=0
     ·rw[hz];simp
     ·have f0:=hrow 0 (by omega);have fw:=DI (A5 (show 0<u.kids.length by omega));have fk:=Ek (A5 (show 0<u.kids.length by omega));obtain⟨q1,q2⟩:=I8 (ts:=u.kids) (w:=r.data.toNat) (k:=r.kids.toNat) fun t ht=>by
       obtain⟨i,hi,rfl⟩:=List.mem_iff_getElem.1 ht;have:=hrow i hi;omega
      have a1:r.data=(An u.kids:Int):=by omega
      have a2:r.kids=(Aq u.kids:Int):=by omega
      rw[a1,a2,Int.add_assoc]
    have hp:=M8 fun t (_:t ∈ u.kids)=>(Dt t).2;refine⟨by omega,?_⟩;unfold Fe;simp only[if_pos r9,hnat];have:=Mc (f:=Da l (Jf l rec2) r) (g:=fun t=>BA t.kids) (fun t=>(Dt t).2) u.kids 0 [] (left-Bd r) (fun j hj lf hlf=>by
     rw[Nat.zero_add,RX (BN hm hj).1];exact zY (BN hm hj).2 (by rw[hkid j hj]) (fun i hi=>H2 h9 j hj i hi) hlf) (by rw[Y6];omega)
    rw[Y6] at this;exact⟨this.1,by rw[this.2];omega⟩
   ·have ec:AN u=1+u.kids.length:=by
     obtain⟨k,w,ks⟩:=u;have h0:k ≠ 0:=h0;have h1:k ≠ 1:=h1;have h8:k ≠ 8:=h8;have h9:k ≠ 9:=h9;rw[Cn,if_neg h0,if_neg h1,if_neg h8,if_neg h9];rfl
    have em:Bd r=1+u.kids.length:=by
     unfold Bd;rw[if_neg (by omega),if_neg (by omega)];omega
    refine⟨by omega,?_⟩;unfold Fe;simp only[if_neg (show ¬ r.kind=9 by omega),if_neg (show ¬ (r.kind=1∨r.kind=8) by omega),hnat];have:=Mc (f:=Da l (Eb l) r) (g:=fun _=>0) (fun t=>Int.le_refl _) u.kids 0 [] (left-Bd r) (fun j hj lf hlf=>by
     rw[Nat.zero_add,RX (BN hm hj).1];exact⟨rfl,by simp[Eb]⟩) (by rw[pS];omega)
    rw[pS] at this;exact⟨this.1,by rw[this.2];omega⟩
theorem nL {l:List (List Int)} {r:Rf} {u:T} (hm:A7 l r u) (h:u.kind=1∨u.kind=8) {i:Nat} (hi:i<u.kids.length):u.kids[i].kind ≠ 10:=by
 have hk:=BD hm;have:=Ms (l:=l) (r:=r) (by omega) i;rw[BD (BN hm hi).2] at this;exact this
theorem zW {l:List (List Int)} {r:Rf} {u:T} (hm:A7 l r u) (h0:u.kind=0) (d:Nat):Rd l (AP l d) r u:=fun lf hl=>by
 have hk:r.kind=0:=by rw[BD hm];exact h0
 have e:AP l d r lf=Eb l r lf:=by
  match d with
  |0=>rw[AP,if_pos hk]
  |1=>rw[AP,if_pos hk]
  |d+2=>rw[AP,if_pos hk]
 rw[e,GD h0];exact⟨rfl,by simp[Eb]⟩
theorem zn {l:List (List Int)}:∀ u:T,(∀ (d:Nat) (r:Rf),A7 l r u→u.kind ≠ 10→Am u≤d→Rd l (AP l d) r u)∧∀ c,c ∈ u.kids→∀ (d:Nat) (r:Rf),A7 l r c→c.kind ≠ 10→Am c≤d→Rd l (AP l d) r c:=by
 refine T.ind fun k w ks ih=>⟨fun d r hm h10 hd=>?_,fun c hc=>(ih c hc).1⟩;by_cases h0:k=0
 ·exact zW hm h0 d
 have h10:k ≠ 10:=h10;intro lf hl;have hk:r.kind=k:=BD hm;have hd1:=EV (t:=.mk k w ks) h0 h10;have kd:∀ (i:Nat) (hi:i<ks.length),Am ks[i]+1≤d:=fun i hi=>by
  have:=F4 (t:=.mk k w ks) (c:=ks[i]) h0 h10 (A5 hi);omega
 have row:k=9→∀ (i:Nat) (hi:i<ks.length),ks[i].kind=1:=fun h9 i hi=>by
  have r9:r.kind=9:=by omega
  have hn:nk r=ks.length:=Ds hm;have kk:=(BN hm (i:=i) hi).2;have hkid:BQ l r i=(⟨1,r.s,r.at_+i*(r.data+r.kids),r.data,r.kids,0,0⟩,0):=by
   rw[BQ,if_neg (by omega),if_neg (by omega),if_neg (by omega),if_pos r9]
  rw[hkid] at kk;exact(BD kk).symm
 match d,hd with
 |0,hd=>omega
 |1,hd=>
  have hnr:¬ (r.kind=9∧0<r.count):=fun ⟨r9,hc⟩=>by
   have hn:nk r=ks.length:=Ds hm;unfold nk at hn;rw[if_neg (by omega)] at hn;have hl0:0<ks.length:=by omega
   have h1:=row (by omega) 0 hl0;have h2:=EV (t:=ks[0]) (by omega) (by omega);have h3:=kd 0 hl0;omega
  obtain⟨g1,g2,g3⟩:=py hm h0 h10 (rec1:=AP l 0) (rec2:=fun r left=>EM l r left) hl (fun h i hi=>(ih _ (A5 hi)).1 0 _ (BN hm hi).2 (nL hm h hi) (by have:=kd i hi;show Am ks[i]≤0;omega)) (fun h9 i hi j hj=>by
   have h1:=row h9 i hi;have h2:=EV (t:=ks[i]) (by omega) (by omega);have h3:=kd i hi;omega)
  rw[AP,if_neg (by omega),if_neg hnr,if_neg (by omega)];exact⟨g2,g3⟩
 |d+2,hd=>
  obtain⟨g1,g2,g3⟩:=py hm h0 h10 (rec1:=AP l (d+1)) (rec2:=AP l d) hl (fun h i hi=>(ih _ (A5 hi)).1 (d+1) _ (BN hm hi).2 (nL hm h hi) (by have:=kd i hi;show Am ks[i]≤d+1;omega)) (fun h9 i hi j hj=>by
   have h1:ks[i].kind=1:=row h9 i hi;have h3:=kd i hi;have hj':j<ks[i].kids.length:=hj;have h4:=F4 (t:=ks[i]) (c:=ks[i].kids[j]) (by omega) (by omega) (A5 hj');have mi:=(BN hm (i:=i) hi).2;exact(ih _ (A5 hi)).2 _ (A5 hj') d _ (BN mi (i:=j) hj').2 (nL mi (.inl h1) hj') (by omega))
  rw[AP,if_neg (by omega),if_neg (by omega)];exact⟨g2,g3⟩
theorem Adj {l:List (List Int)} {r:Rf} {u:T} (ha:JL l 0 0=(r,0)) (hm:A7 l r u) (h10:u.kind ≠ 10) (hd:Am u≤64) (hc:AN u≤65536):(GX l 64 65536).2.2=0:=by
 have e1:(Cd 64 64).toNat=64:=by decide
 have e2:Cd 65536 65536=65536:=by decide
 have:=(zn u).1 64 r hm h10 hd 65536 hc;unfold GX;rw[ha,if_neg (by simp),e1,e2];simp only;rw[if_neg (by rw[this.1];simp)]
theorem O7:∀ {us ks:List T},(∀ (j:Nat) (h:j<us.length),AN us[j]≤AN (ks.getD j T0))→BA us≤BA ks
 |[],ks,_=>by
  have:=Eo fun t (_:t ∈ ks)=>(Dt t).1;simpa using this
 |u::us,[],h=>by
  have h0:=h 0 (by simp);have h1:=O7 (us:=us) (ks:=[]) fun j hj=>by
   have:=h (j+1) (by simpa using hj);simpa using this
  have e:AN T0=0:=GD rfl;simp at h0 h1 ⊢;omega
 |u::us,k::ks,h=>by
  have h0:=h 0 (by simp);have h1:=O7 (us:=us) (ks:=ks) fun j hj=>by
   have:=h (j+1) (by simpa using hj);simpa using this
  simp at h0 ⊢;omega
theorem bg {us ks:List T} (hl:us.length=ks.length) (h:∀ (i:Nat) (h1:i<us.length) (h2:i<ks.length),AN us[i]≤AN ks[i]∧Am us[i]≤Am ks[i]):us.length=ks.length∧BA us≤BA ks∧Du 1 us≤Du 1 ks:=by
 refine⟨hl,O7 fun j hj=>?_,Tq (JW ks 1).1 fun t ht=>?_⟩
 ·have:=(h j hj (by omega)).1;rw[List.getD_eq_getElem?_getD,List.getElem?_eq_getElem (by omega)];exact this
 ·obtain⟨j,hj,rfl⟩:=List.mem_iff_getElem.1 ht;have:=(h j hj (by omega)).2;have:=(JW ks 1).2 _ (A5 (show j<ks.length by omega));omega
theorem xq {w:List Int} {us ks:List T} (h:us.length=ks.length∧BA us≤BA ks∧Du 1 us≤Du 1 ks):AN (.mk 1 w us)≤AN (.mk 1 w ks)∧Am (.mk 1 w us)≤Am (.mk 1 w ks):=by
 obtain⟨h1,h2,h3⟩:=h;rw[Cn,Cn,if_neg (by decide),if_pos rfl,if_neg (by decide),if_pos rfl,Cy,Cy,if_neg (by decide),if_neg (by decide)];exact⟨by omega,h3⟩
theorem yc {us ks:List T} (h:us.length=ks.length∧BA us≤BA ks∧Du 1 us≤Du 1 ks):AN (.mk 8 [] us)≤AN (.mk 8 [] ks)∧Am (.mk 8 [] us)≤Am (.mk 8 [] ks):=by
 obtain⟨h1,h2,h3⟩:=h;rw[Cn,Cn,if_neg (by decide),if_neg (by decide),if_pos rfl,if_neg (by decide),if_neg (by decide),if_pos rfl,Cy,Cy,if_neg (by decide),if_neg (by decide)];exact⟨by omega,h3⟩
theorem Yq:∀ {us ks:List T},us.length=ks.length→(∀ (i:Nat) (h1:i<us.length) (h2:i<ks.length),BA us[i].kids≤BA ks[i].kids)→I4 us≤I4 ks
 |[],[],_,_=>Int.le_refl _
 |[],k::ks,hl,_=>by simp at hl
 |u::us,[],hl,_=>by simp at hl
 |u::us,k::ks,hl,h=>by
  have h0:=h 0 (by simp) (by simp);have h1:=Yq (us:=us) (ks:=ks) (by simpa using hl) fun i h1 h2=>by
   have:=h (i+1) (by simpa using h1) (by simpa using h2);simpa using this
  simp at h0 ⊢;omega
theorem re {us ks:List T} {W K:Nat} (hW:An ks=W) (hK:Aq ks=K) (hl:us.length=ks.length) (h:∀ (i:Nat) (h1:i<us.length) (h2:i<ks.length),us[i].words.length≤W∧us[i].kids.length≤K∧BA us[i].kids≤BA ks[i].kids∧Am us[i]≤Am ks[i]) :
  AN (.mk 9 [] us)≤AN (.mk 9 [] ks)∧Am (.mk 9 [] us)≤Am (.mk 9 [] ks):=by
 obtain⟨f1,f2⟩:=I8 (ts:=us) (w:=W) (k:=K) fun t ht=>by
  obtain⟨j,hj,rfl⟩:=List.mem_iff_getElem.1 ht;have:=h j hj (by omega);exact⟨this.1,this.2.1⟩
 have h2:=Yq hl fun i h1 h2=>(h i h1 h2).2.2.1;rw[Cn,Cn,if_neg (by decide),if_neg (by decide),if_neg (by decide),if_pos rfl,if_neg (by decide),if_neg (by decide),if_neg (by decide),if_pos rfl,Cy,Cy,if_neg (by decide),if_neg (by decide),hW,hK,hl];refine⟨?_,Tq (JW ks 1).1 fun t ht=>?_⟩
 ·have:(ks.length:Int)*(1+((An us:Int)+Aq us))≤(ks.length:Int)*(1+((W:Int)+K)):=Int.mul_le_mul_of_nonneg_left (by omega) (by omega);omega
 ·obtain⟨j,hj,rfl⟩:=List.mem_iff_getElem.1 ht;have:=(h j hj (by omega)).2.2.2;have:=(JW ks 1).2 _ (A5 (show j<ks.length by omega));omega
def Wo (t:T):Prop:=∀ (a:Nat) (l L:List Int),a<l.length→l[a]? = some 0→(Dr t a l).length≤L.length→L.length≤200000→(∀ p,(p=a∨l.length≤p)→p<(Dr t a l).length→L[p]? = (Dr t a l)[p]?) →
 ∃ r u,JL [L] 0 a=(r,0)∧A7 [L] r u∧Af u=Af t∧(AN u≤AN t∧Am u≤Am t)
theorem Rm:∀ {ts:List T},(∀ t,t ∈ ts→Wo t)→∀ (b:Nat) (l L:List Int),b+ts.length≤l.length→(∀ i,i<ts.length→l[b+i]? = some 0)→(CU ts b l).length≤L.length→L.length≤200000 →
  (∀ p,((b≤p∧p<b+ts.length)∨l.length≤p)→p<(CU ts b l).length→L[p]? = (CU ts b l)[p]?)→∀ (i:Nat) (hi:i<ts.length),∃ r u,JL [L] 0 ((b+i:Nat):Int)=(r,0)∧A7 [L] r u∧Af u=Af ts[i]∧(AN u≤AN ts[i]∧Am u≤Am ts[i])
 |t::ts,h,b,l,L,hb,hz,hl,hL,hag,i,hi=>by
  have hm1:=(MI t).1.2 b l;have hm2:=Fh ts (b+1) (Dr t b l);rw[Hb] at hl hag;simp only[List.length_cons] at hb hz hag hi;cases i with
  |zero=>
   refine h t (by simp) b l L (by omega) (hz 0 (by omega)) (by omega) hL fun p hp hlt=>?_;rw[hag p (by omega) (by omega),LV hlt (by omega)]
  |succ i=>
   have:=Rm (ts:=ts) (fun u hu=>h u (by simp[hu])) (b+1) (Dr t b l) L (by omega) (fun j hj=>?_) hl hL (fun p hp hlt=>hag p (by omega) hlt) i (by omega)
   ·rw[show b+1+i=b+(i+1) by omega] at this;simpa using this
   ·rw[Aba (by omega) (by omega),show b+1+j=b+(j+1) by omega];exact hz (j+1) (by omega)
theorem jU {w k:Nat}:∀ {ts:List T},(∀ t,t ∈ ts→t.kids.length≤k∧∀ c,c ∈ t.kids→Wo c)→∀ (b:Nat) (l L:List Int),b+ts.length*(w+k)≤l.length→(∀ i,i<ts.length→∀ j,j<k→l[b+i*(w+k)+w+j]? = some 0)→(IP w k ts b l).length≤L.length→L.length≤200000 →
  (∀ p,((∃ i,i<ts.length∧b+i*(w+k)+w≤p∧p<b+i*(w+k)+w+k)∨l.length≤p)→p<(IP w k ts b l).length→L[p]? = (IP w k ts b l)[p]?) →
  ∀ (i:Nat) (hi:i<ts.length) (j:Nat),j<k→∃ r u,JL [L] 0 ((b+i*(w+k)+w+j:Nat):Int)=(r,0)∧A7 [L] r u∧Af u=Af (ts[i].kids.getD j T0)∧(AN u≤AN (ts[i].kids.getD j T0)∧Am u≤Am (ts[i].kids.getD j T0))
 |t::ts,h,b,l,L,hb,hz,hl,hL,hag,i,hi,j,hj=>by
  obtain⟨hk,hc⟩:=h t (by simp);have hm1:=Fh t.kids (b+w) l;have hm2:=O2 w k ts (b+(w+k)) (CU t.kids (b+w) l);have hks:∀ u,u ∈ ts→u.kids.length≤k:=fun u hu=>(h u (by simp[hu])).1;rw[FZ] at hl hag;simp only[List.length_cons] at hb hz hag hi;rw[BU] at hb;have hout:∀ p,p<b+(w+k)∨l.length≤p→∀ i,i<ts.length→¬ (b+(w+k)+i*(w+k)+w≤p∧p<b+(w+k)+i*(w+k)+w+k):=fun p hp i hi=>by
   have h1:(i+1)*(w+k)≤ts.length*(w+k):=Nat.mul_le_mul_right _ hi;rw[BU] at h1;omega
  cases i with
  |zero=>
   rw[Nat.zero_mul,Nat.add_zero];by_cases hjk:j<t.kids.length
   ·have:=Rm hc (b+w) l L (by omega) (fun i hi=>?_) (by omega) hL (fun p hp hlt=>?_) j hjk
    ·simpa[List.getD_eq_getElem?_getD,hjk] using this
    ·have:=hz 0 (by omega) i (by omega)
     rwa [Nat.zero_mul,Nat.add_zero] at this
    ·rw[hag p ?_ (by omega),NV hks hlt (hout p (by omega))];rcases hp with hp | hp
     ·exact .inl ⟨0,by omega,by omega,by omega⟩
     ·exact .inr hp
   ·have e:L[b+w+j]? = some 0:=by
     have h0:=hz 0 (by omega) j hj;rw[Nat.zero_mul,Nat.add_zero] at h0;have hlt:b+w+j<l.length:=by omega
     rw[hag (b+w+j) (.inl ⟨0,by omega,by omega,by omega⟩) (by omega),NV hks (by omega) (hout _ (by omega)),LV hlt (by omega),h0]
    refine⟨Rf.zero,T0,Wb e,Nb _,?_⟩;simp[List.getD_eq_getElem?_getD,List.getElem?_eq_none (by omega:t.kids.length≤j)]
  |succ i=>
   have:=jU (ts:=ts) (fun u hu=>h u (by simp[hu])) (b+(w+k)) (CU t.kids (b+w) l) L (by omega) (fun x hx y hy=>?_) hl hL (fun p hp hlt=>hag p ?_ hlt) i (by omega) j hj
   ·rw[BU,show b+(w+k+i*(w+k))+w+j=b+(w+k)+i*(w+k)+w+j by omega];simpa using this
   ·have h1:(x+1)*(w+k)≤ts.length*(w+k):=Nat.mul_le_mul_right _ hx;have h2:=hz (x+1) (by omega) y hy;rw[BU] at h1 h2;rw[LV (by omega) (by omega),show b+(w+k)+x*(w+k)+w+y=b+(w+k+x*(w+k))+w+y by omega];exact h2
   ·rcases hp with ⟨x,hx,hp1,hp2⟩ | hp
    ·refine .inl ⟨x+1,by omega,?_,?_⟩<;>rw[BU]<;>omega
    ·exact .inr (by omega)
theorem jX:∀ t:T,(Cr t→(∃ d,Aj d t=true)→Wo t)∧∀ c,c ∈ t.kids→Cr c→(∃ d,Aj d c=true)→Wo c:=by
 refine T.ind fun k w ks ih=>?_;refine⟨fun hok hr=>?_,fun c hc=>(ih c hc).1⟩;obtain⟨d,hr⟩:=hr;have hkr:=AV hr;intro a l L ha h0 hl hL hag;have hw0:2≤k→w=[]:=fun hk2=>by
  rw[AI,if_neg (by omega)] at hr;split at hr
  ·rename_i h10;cases hok<;>omega
  ·split at hr
   ·cases hr
   ·rename_i hb;simp[A4] at hb;have:=hb.2 (by omega);exact this
 cases hok with
 |null=>
  rw[B8,if_pos rfl] at hag hl;exact⟨Rf.zero,T0,Wb (by rw[hag a (.inl rfl) ha,h0]),Nb _,by rw[FY,FN rfl],by rw[GD rfl,GD rfl,MH rfl];exact⟨Int.le_refl _,Nat.zero_le _⟩⟩
 |str w ks b1 b2 hk=>
  rw[B8,if_neg (by decide),if_pos rfl] at hag hl;obtain⟨to,hto⟩:∃ to:Nat,to=if w.length+ks.length=0 then a else l.length:=⟨_,rfl⟩
  rw[show(if w.length+ks.length=0 then (a:Int) else (l.length:Int))=(to:Int) by rw[hto];split<;>rfl] at hag hl;obtain⟨P,hP⟩:∃ P:Int,P=DH a to 0 ((w.length:Int)+65536*ks.length):=⟨_,rfl⟩;rw[← hP] at hag hl;obtain⟨l2,hl2⟩:∃ l2,l2=l.set a P++w++List.replicate ks.length (0:Int):=⟨_,rfl⟩;rw[← hl2] at hag hl;have hlen:l2.length=l.length+w.length+ks.length:=by rw[hl2];simp;omega
  have hm:=Fh ks (l.length+w.length) l2;have ga:L[a]? = some P:=by
   rw[hag a (.inl rfl) (by omega),LV (by omega) (by omega),hl2,List.append_assoc,List.getElem?_append_left (by simpa using ha),List.getElem?_set_self ha]
  have gw:(L.drop to).take w.length=w:=by
   by_cases hz:w.length+ks.length=0
   ·have:w=[]:=List.length_eq_zero_iff.1 (by omega);subst this;simp
   ·rw[if_neg hz] at hto;subst hto;apply List.ext_getElem?;intro i;rw[List.getElem?_take];split
    ·rename_i hi;rw[List.getElem?_drop,hag _ (.inr (by omega)) (by omega),LV (by omega) (by omega),hl2,List.getElem?_append_left (by simp;omega),List.getElem?_append_right (by simp)];simp
    ·rename_i hi;rw[List.getElem?_eq_none (by omega)]
  have hkm:=Rm (fun t ht=>(ih t ht).1 (hk t ht) ⟨_,(hkr t ht).1⟩) (l.length+w.length) l2 L (by omega) (fun i hi=>by
   rw[hl2,List.getElem?_append_right (by simp),List.getElem?_replicate];simp;omega) hl hL (fun p hp hlt=>hag p (.inr (by omega)) hlt)
  obtain⟨us,u1,u2⟩:=NT (P:=fun i u=>∃ r,JL [L] 0 ((l.length+w.length+i:Nat):Int)=(r,0)∧A7 [L] r u∧∀ hi:i<ks.length,Af u=Af ks[i]∧(AN u≤AN ks[i]∧Am u≤Am ks[i])) (n:=ks.length) fun i hi=>by
   obtain⟨r,u,e1,e2,e3⟩:=hkm i hi;exact⟨u,r,e1,e2,fun _=>e3⟩
  refine⟨⟨1,0,to,w.length,ks.length,0,0⟩,.mk 1 w us,aX hL (by rw[ga,hP]) (by omega) b1 b2 (fun e=>by rw[hto,if_pos e]) (by rw[hto];split<;>omega),?_,?_,?_⟩
  ·refine JO b1 b2 (by rw[hto];split<;>omega) gw u1 fun i hi=>?_;obtain⟨r,e1,e2,_⟩:=u2 i hi;have:to=l.length:=by rw[hto,if_neg (by omega)]
   rw[this];exact⟨r,e1,e2⟩
  ·refine struct_eq.2 ⟨fun i=>rfl,fun i=>?_⟩;by_cases hi:i<ks.length
   ·obtain⟨_,_,_,e3⟩:=u2 i (by omega);simpa[List.getD_eq_getElem?_getD,hi,u1] using (e3 hi).1
   ·simp[List.getD_eq_getElem?_getD,List.getElem?_eq_none (by omega:ks.length≤i),List.getElem?_eq_none (by omega:us.length≤i)]
  ·exact xq (bg u1 fun i h1 h2=>by
    obtain⟨_,_,_,e3⟩:=u2 i h1;exact(e3 h2).2)
 |ptrs w ks b1 hk=>
  obtain rfl:=hw0 (by omega);rw[B8,if_neg (by decide),if_neg (by decide),if_pos rfl] at hag hl;obtain⟨P,hP⟩:∃ P:Int,P=DH a l.length 1 (6+8*(ks.length:Int)):=⟨_,rfl⟩;rw[← hP] at hag hl;obtain⟨l2,hl2⟩:∃ l2,l2=l.set a P++List.replicate ks.length (0:Int):=⟨_,rfl⟩;rw[← hl2] at hag hl;have hlen:l2.length=l.length+ks.length:=by rw[hl2];simp
  have hm:=Fh ks l.length l2;have ga:L[a]? = some P:=by
   rw[hag a (.inl rfl) (by omega),LV (by omega) (by omega),hl2,List.getElem?_append_left (by simpa using ha),List.getElem?_set_self ha]
  have hkm:=Rm (fun t ht=>(ih t ht).1 (hk t ht) ⟨_,(hkr t ht).1⟩) l.length l2 L (by omega) (fun i hi=>by
   rw[hl2,List.getElem?_append_right (by simp),List.getElem?_replicate];simp;omega) hl hL (fun p hp hlt=>hag p (.inr (by omega)) hlt)
  obtain⟨us,u1,u2⟩:=NT (P:=fun i u=>∃ r,JL [L] 0 ((l.length+i:Nat):Int)=(r,0)∧A7 [L] r u∧∀ hi:i<ks.length,Af u=Af ks[i]∧(AN u≤AN ks[i]∧Am u≤Am ks[i])) (n:=ks.length) fun i hi=>by
   obtain⟨r,u,e1,e2,e3⟩:=hkm i hi;exact⟨u,r,e1,e2,fun _=>e3⟩
  have hb:Jg 6=64:=by decide
  have hin:l.length+ks.length≤L.length:=by omega
  have hat:=Wf (L:=L) (a:=a) (to:=l.length) (c:=6) (n:=ks.length) (m:=ks.length) hL (by rw[ga,hP]) (by omega) (by omega) (by omega) b1 (by rw[hb];omega) hin;have hkid:∀ (i:Nat),i<us.length→BQ [L] ⟨8,0,(l.length:Int),0,0,ks.length,0⟩ i=JL [L] 0 ((l.length+i:Nat):Int):=fun i hi=>by
   unfold BQ;rw[if_neg (by simp[nk];omega),if_neg (by simp),if_pos rfl];simp
  refine⟨⟨8,0,l.length,0,0,ks.length,0⟩,.mk 8 [] us,hat,?_,?_,?_⟩
  ·refine .mk _ _ (.ptrs _ _ _ (by omega) (by omega) (LC hin)) rfl (by simp[C9]) (by simp[nk,u1]) (fun i hi=>?_) (fun i hi=>?_)
   ·obtain⟨r,e,_⟩:=u2 i hi;rw[hkid i hi,e]
   ·obtain⟨r,e,h,_⟩:=u2 i hi;rw[hkid i hi,e];exact h
  ·refine(Me (by decide) (by decide)).2 ⟨rfl,Lp u1 fun i h1 h2=>?_⟩;obtain⟨_,_,_,e⟩:=u2 i h1;exact(e h2).1
  ·exact yc (bg u1 fun i h1 h2=>by
    obtain⟨_,_,_,e3⟩:=u2 i h1;exact(e3 h2).2)
 |comp w ks b1 b2 hk=>
  obtain rfl:=hw0 (by omega);have hF1:An ks<65536:=TT (by decide) fun t ht=>(b2 t ht).1;have hF2:Aq ks<65536:=Tr (by decide) fun t ht=>(b2 t ht).2;have hfw:∀ t,t ∈ ks→t.words.length≤An ks:=fun t ht=>DI ht;have hfk:∀ t,t ∈ ks→t.kids.length≤Aq ks:=fun t ht=>Ek ht;rw[B8,if_neg (by decide),if_neg (by decide),if_neg (by decide),if_pos rfl] at hag hl;generalize hW:An ks=W at *;generalize hK:Aq ks=K at *;obtain⟨P,hP⟩:∃ P:Int,P=DH a l.length 1 (7+8*(ks.length*(W+K):Nat)):=⟨_,rfl⟩;rw[← hP] at hag hl;obtain⟨l2,hl2⟩:∃ l2,l2=l.set a P++[4*(ks.length:Int)+4294967296*((W:Int)+65536*K)]++Ha W K ks:=⟨_,rfl⟩;rw[← hl2] at hag hl;have hrl:=Hf (w:=W) (k:=K) ks fun t ht=>by have:=hfw t ht;omega
  have hlen:l2.length=l.length+1+ks.length*(W+K):=by rw[hl2];simp[hrl];omega
  have hm:=O2 W K ks (l.length+1) l2;have ga:L[a]? = some P:=by
   rw[hag a (.inl rfl) (by omega),NV hfk (by omega) (fun i hi=>by omega),hl2,List.append_assoc,List.getElem?_append_left (by simpa using ha),List.getElem?_set_self ha]
  have gt:L[l.length]? = some (4*(ks.length:Int)+4294967296*((W:Int)+65536*K)):=by
   rw[hag _ (.inr (by omega)) (by omega),NV hfk (by omega) (fun i hi=>by omega),hl2,List.getElem?_append_left (by simp),List.getElem?_append_right (by simp)];simp
  have hrow:∀ (i:Nat) (hi:i<ks.length) (j:Nat),j<W+K→l2[l.length+1+i*(W+K)+j]? = some (ks[i].words.getD j 0):=fun i hi j hj=>by
   rw[hl2,List.getElem?_append_right (by simp;omega)];simp only[List.length_append,List.length_set,List.length_singleton];rw[show l.length+1+i*(W+K)+j-(l.length+1)=i*(W+K)+j by omega];exact Ty hfw i hi j hj
  have hin1:∀ i,i<ks.length→i*(W+K)+(W+K)≤ks.length*(W+K):=fun i hi=>by
   have h1:(i+1)*(W+K)≤ks.length*(W+K):=Nat.mul_le_mul_right _ hi;rw[BU] at h1;omega
  have hz:∀ i,i<ks.length→∀ j,j<K→l2[l.length+1+i*(W+K)+W+j]? = some 0:=fun i hi j hj=>by
   rw[show l.length+1+i*(W+K)+W+j=l.length+1+i*(W+K)+(W+j) by omega,hrow i hi (W+j) (by omega)];have:=hfw _ (A5 hi);simp[List.getD_eq_getElem?_getD,List.getElem?_eq_none (by omega:ks[i].words.length≤W+j)]
  have hkm:=jU (w:=W) (k:=K) (ts:=ks) (fun t ht=>⟨hfk t ht,fun c hc=>(ih t ht).2 c hc (hk t ht c hc) ⟨_,(Ik (hkr t ht).1 c hc).1⟩⟩) (l.length+1) l2 L (by omega) hz hl hL (fun p hp hlt=>hag p (.inr (by
   rcases hp with ⟨i,_,hp,_⟩ | hp<;>omega)) hlt)
  have hin:l.length+(ks.length*(W+K)+1)≤L.length:=by omega
  have hst:∀ i,i<ks.length→∃ u,A7 [L] ⟨1,0,((l.length+1+i*(W+K):Nat):Int),W,K,0,0⟩ u∧∀ hi:i<ks.length,Af u=Af ks[i]∧(u.words.length≤W∧u.kids.length≤K∧BA u.kids≤BA ks[i].kids∧Am u≤Am ks[i]):=fun i hi=>by
   have hc1:ks[i].kind=1:=c9 (hkr _ (A5 hi)).2;have h5:=hin1 i hi;obtain⟨us,u1,u2⟩:=NT (P:=fun j u=>∃ r,JL [L] 0 ((l.length+1+i*(W+K)+W+j:Nat):Int)=(r,0)∧A7 [L] r u∧Af u=Af (ks[i].kids.getD j T0)∧(AN u≤AN (ks[i].kids.getD j T0)∧Am u≤Am (ks[i].kids.getD j T0))) (n:=K) fun j hj=>by
    obtain⟨r,u,e1,e2,e3⟩:=hkm i hi j hj;exact⟨u,r,e1,e2,e3⟩
   refine⟨.mk 1 ((L.drop (l.length+1+i*(W+K))).take W) us,JO hF1 hF2 (by omega) rfl u1 fun j hj=>?_,fun _=>⟨?_,by simp;omega,by simp[u1],O7 fun j hj=>by
    obtain⟨_,_,_,_,e3⟩:=u2 j hj;exact e3.1,I7 (EV (by omega) (by omega)) fun t ht=>by
    obtain⟨j,hj,rfl⟩:=List.mem_iff_getElem.1 ht;obtain⟨_,_,_,_,e3⟩:=u2 j hj;have:=WU hc1 j;omega⟩⟩
   ·obtain⟨r,e1,e2,_⟩:=u2 j hj;exact⟨r,e1,e2⟩
   ·have e:ks[i] = .mk 1 ks[i].words ks[i].kids:=by rw[← hc1];exact T.eta _
    rw[e];refine struct_eq.2 ⟨fun j=>?_,fun j=>?_⟩
    ·by_cases hj:j<W
     ·have:∀ x,x<ks.length→¬ (l.length+1+x*(W+K)+W≤l.length+1+i*(W+K)+j∧l.length+1+i*(W+K)+j<l.length+1+x*(W+K)+W+K):=fun x hx=>by
       rcases Nat.lt_trichotomy x i with c | c | c
       ·have h1:(x+1)*(W+K)≤i*(W+K):=Nat.mul_le_mul_right _ c;rw[BU] at h1;omega
       ·subst c;omega
       ·have h1:(i+1)*(W+K)≤x*(W+K):=Nat.mul_le_mul_right _ c;rw[BU] at h1;omega
      rw[List.getD_eq_getElem?_getD,List.getElem?_take,if_pos hj,List.getElem?_drop,hag _ (.inr (by omega)) (by omega),NV hfk (by omega) this,hrow i hi j (by omega)];rfl
     ·have:=hfw _ (A5 hi);simp[List.getD_eq_getElem?_getD,List.getElem?_take,hj,List.getElem?_eq_none (by omega:ks[i].words.length≤j)]
    ·by_cases hj:j<K
     ·obtain⟨_,_,_,e3,_⟩:=u2 j (by omega);rw[← e3];simp[List.getD_eq_getElem?_getD,u1,hj]
     ·have:=hfk _ (A5 hi);simp[List.getD_eq_getElem?_getD,List.getElem?_eq_none (by omega:ks[i].kids.length≤j),List.getElem?_eq_none (by omega:us.length≤j)]
  obtain⟨us,u1,u2⟩:=NT hst;have hat:=pY (L:=L) (a:=a) (to:=l.length) (n:=ks.length) (w:=W) (k:=K) hL (by rw[ga,hP]) (by omega) gt b1 hF1 hF2 hin;have hkid:∀ (i:Nat),i<us.length→BQ [L] ⟨9,0,(l.length:Int)+1,W,K,ks.length,0⟩ i=(⟨1,0,((l.length+1+i*(W+K):Nat):Int),W,K,0,0⟩,0):=fun i hi=>by
   unfold BQ;rw[if_neg (by simp[nk];omega),if_neg (by simp),if_neg (by simp),if_pos rfl];simp
  refine⟨⟨9,0,(l.length:Int)+1,W,K,ks.length,0⟩,.mk 9 [] us,hat,?_,?_,?_⟩
  ·have hh:=LC (L:=L) (a:=l.length+1) (n:=ks.length*(W+K)) (by omega);refine .mk _ _ (.comp _ _ _ _ _ (by omega) (by omega) (by omega) (by omega) (by omega) (by omega) (by simpa using hh)) rfl (by simp[C9]) (by simp[nk,u1]) (fun i hi=>?_) (fun i hi=>?_)
   ·rw[hkid i hi]
   ·rw[hkid i hi];exact(u2 i hi).1
  ·refine(Me (by decide) (by decide)).2 ⟨rfl,Lp u1 fun i h1 h2=>?_⟩;exact((u2 i h1).2 h2).1
  ·exact re hW hK u1 fun i h1 h2=>((u2 i h1).2 h2).2
 |data k w ks h1 h2 b1 b2=>
  obtain rfl:=hw0 h1;rw[B8,if_neg (by omega),if_neg (by omega),if_neg (by omega),if_neg (by omega)] at hag hl;obtain⟨P,hP⟩:∃ P:Int,P=DH a l.length 1 (k-2+8*(ks.length:Int)):=⟨_,rfl⟩;rw[← hP] at hag hl;obtain⟨wd,w1,w2,w3⟩:=IU (c:=k-2) (by omega) (by omega);have hroom:Dw (k-2) (ks.map hd).length=(((ks.length*wd+63) / 64:Nat):Int):=by
   unfold Dw;rw[List.length_map,if_neg (by omega),w2];have e:(ks.length:Int)*wd=((ks.length*wd:Nat):Int):=by rw[Int.natCast_mul]
   rw[e];omega
  have hpl:(MS (k-2) (ks.map hd)).length=(ks.length*wd+63) / 64:=by rw[K8,hroom];omega
  simp only[List.length_append,List.length_set,hpl] at hl hag;have ga:L[a]? = some P:=by
   rw[hag a (.inl rfl) (by omega),List.getElem?_append_left (by simpa using ha),List.getElem?_set_self ha]
  have hm:((ks.length:Int)*Jg (k-2)+63) / 64=(((ks.length*wd+63) / 64:Nat):Int):=by
   rw[WB (by omega) (by omega),w2];have e:(ks.length:Int)*wd=((ks.length*wd:Nat):Int):=by rw[Int.natCast_mul]
   rw[e];omega
  have hat:=Wf (L:=L) (a:=a) (to:=l.length) (c:=k-2) (n:=ks.length) (m:=(ks.length*wd+63) / 64) hL (by rw[ga,hP]) (by omega) (by omega) (by omega) b1 hm (by omega);have hk2:2+(k-2)=k:=by omega
  have hq:∀ q,q<(ks.length*wd+63) / 64→(L.drop l.length)[q]? = (MS (k-2) (ks.map hd))[q]?:=fun q hq=>by
   rw[List.getElem?_drop,hag _ (.inr (by omega)) (by omega),List.getElem?_append_right (by simp)];simp
  have hkid:∀ (i:Nat) (hi:i<ks.length),BQ [L] ⟨2+(k-2),0,l.length,0,0,ks.length,0⟩ i=(⟨10,0,0,0,0,0,hd ks[i]⟩,0):=fun i hi=>by
   rw[Ug (by omega) (by omega) (by omega) (by omega) (by omega)];have:Nl [L] ⟨2+(k-2),0,l.length,0,0,ks.length,0⟩ i=hd ks[i]:=by
    unfold Nl Pw;have e0:((seg [L] 0).getD []).drop (l.length:Int).toNat=L.drop l.length:=by simp[seg]
    simp only[e0,show 2+(k-2)-2=k-2 by omega,w1];obtain⟨x,hx1,hx2,hx3,hx4⟩:=b2 _ (A5 hi);have hhd:hd ks[i]=x:=by unfold hd;rw[hx1];rfl
    by_cases hw0:wd=0
    ·subst hw0;rw[if_pos (by omega),hhd];unfold GA at hx4;rw[w1] at hx4;simp at hx4;omega
    ·rw[if_neg (by omega)];have e1:((i:Int)*wd / 64).toNat=i*wd / 64:=by
      have:(i:Int)*wd=((i*wd:Nat):Int):=by rw[Int.natCast_mul]
      rw[this];omega
     have e2:((i:Int)*wd % 64).toNat=i*wd % 64:=by
      have:(i:Int)*wd=((i*wd:Nat):Int):=by rw[Int.natCast_mul]
      rw[this];omega
     rw[e1,e2,Int.toNat_natCast];have hat2:∀ j,j<ks.length→j*wd / 64<(ks.length*wd+63) / 64:=fun j hj=>ct (by omega) hj;rw[hq _ (hat2 i hi)];have hput:MS (k-2) (ks.map hd)=Lx wd (ks.map hd) 0 (List.replicate ((ks.length*wd+63) / 64) 0):=by
      unfold MS;rw[w1,hroom];simp only[Int.toNat_natCast]
     have hf:=(Qk (w:=wd) (by omega) (ks.map hd) 0 _ (PutI.start wd ((ks.length*wd+63) / 64)) (fun y hy=>by
      obtain⟨c,hc,rfl⟩:=List.mem_map.1 hy;obtain⟨z,z1,z2,z3,z4⟩:=b2 c hc;have:hd c=z:=by unfold hd;rw[z1];rfl
      rw[this];exact⟨z2,Wl w1 z2 z4⟩) (fun j hj=>by
      rw[List.length_replicate];exact hat2 j (by simpa using hj))).2 i (by simpa using hi)
     rw[Nat.zero_add,← hput] at hf;unfold Q4 at hf;rw[List.getD_eq_getElem?_getD] at hf;rw[hf];simp
   rw[this]
  refine⟨⟨2+(k-2),0,l.length,0,0,ks.length,0⟩,.mk k [] ks,hat,?_,rfl,Int.le_refl _,Cb _⟩;have hh:=LC (L:=L) (a:=l.length) (n:=(ks.length*wd+63) / 64) (by omega);rw[← hm] at hh;refine .mk _ _ (.dat _ _ _ _ (by omega) (by omega) (by omega) (by omega) hh) hk2 ?_ ?_ (fun i hi=>?_) (fun i hi=>?_)
  ·unfold C9;rw[if_neg (by simp only;omega),if_pos (by simp only;omega)];rfl
  ·unfold nk;rw[if_neg (by simp only;omega)];rfl
  ·change i<ks.length at hi;rw[hkid i hi]
  ·change i<ks.length at hi;rw[hkid i hi];obtain⟨x,hx1,hx2,hx3,hx4⟩:=b2 _ (A5 hi);obtain⟨g1,g2⟩:=hkr _ (A5 hi);have hhd:hd ks[i]=x:=by unfold hd;rw[hx1];rfl
   have hkd:ks[i].kind=10:=by
    have hd:Bb k=true:=by simp[Bb];omega
    unfold B6 at g2;rw[hd] at g2;simp at g2;first | exact g2.1.1 | exact of_decide_eq_true g2.1.1
   have hks:ks[i].kids=[]:=by
    rw[T.eta ks[i],AI,hkd] at g1;simp at g1;exact g1.2
   have e:ks[i] = .mk 10 [x] []:=by rw[T.eta ks[i],hkd,hx1,hks]
   show A7 [L] _ ks[i];rw[hhd,e];exact .mk _ _ (.atom _ hx2 hx3) rfl (by simp[C9]) (by simp[nk]) (fun i hi=>by simp at hi) (fun i hi=>by simp at hi)
theorem ln {t:T} (hok:Cr t) {d:Nat} (hr:Aj d t=true) (hL:(Dr t 0 [0]).length≤200000):∃ r u,JL [Dr t 0 [0]] 0 0=(r,0)∧A7 [Dr t 0 [0]] r u∧Af u=Af t∧(AN u≤AN t∧Am u≤Am t):=by
 have:=(jX t).1 hok ⟨d,hr⟩ 0 [0] (Dr t 0 [0]) (by simp) rfl (Cb _) hL (fun p _ _=>rfl);simpa using this
theorem fp {most:Int} {t:T} (hw:Bx t) (h:He most t=true):((Pd most t).length:Int)=1+Co (Af t):=by
 have hW:Pd most t=Dr (Af t) 0 [0]:=by simp[Pd,h]
 simp[He] at h;obtain⟨⟨⟨hr,h10⟩,_⟩,hs⟩:=h;have hok:=Kd t 64 hr hw h10;have hlen:=(Pg (Af t)).1 hok 0 [0];rw[hW];simpa using hlen
theorem cnOk_iff {most:Int} {t:T}:He most t=true ↔ Aj 64 t=true∧t.kind ≠ 10∧Co (Af t)<most∧Co (Af t)<131072:=by
 unfold He;simp only[Bool.and_eq_true,Bool.not_eq_true',decide_eq_true_eq,decide_eq_false_iff_not,and_assoc]
theorem Xy:∀ t:T,Am (Af t)≤Am t:=by
 refine T.ind fun k w l ih=>?_;rw[AL];by_cases h0:k=0
 ·rw[if_pos h0,MH rfl];omega
 rw[if_neg h0];by_cases h10:k=10
 ·subst h10;rw[if_neg (by decide),Cy,if_pos (.inr rfl)];omega
 have h1:=EV (t:=.mk k w l) h0 h10;have hk:∀ t,t ∈ l.map Af→Am t+1≤Am (.mk k w l):=fun t ht=>by
  obtain⟨u,hu,rfl⟩:=List.mem_map.1 ht;have:=ih u hu;have:=F4 (t:=.mk k w l) (c:=u) h0 h10 hu;omega
 split
 ·exact I7 h1 fun t ht=>hk t (TW ht)
 ·exact I7 h1 hk
theorem sh:∀ (t:T) (D d:Nat),Aj D t=true→Am t≤d→Aj d t=true:=by
 refine T.ind fun k w l ih D d h hd=>?_;have hk:=AV h;by_cases h0:k=0
 ·subst h0;rw[AI] at h ⊢;exact h
 by_cases h10:k=10
 ·subst h10;rw[AI] at h ⊢;exact h
 have h1:=EV (t:=.mk k w l) h0 h10;rw[AI,if_neg h0,if_neg h10] at h;have htb:A4 k D w.length l.length=false:=by
  cases e:A4 k D w.length l.length with
  |false=>rfl
  |true=>rw[e] at h;simp at h
 refine Ou h0 h10 ?_ fun t ht=>⟨ih t ht _ _ (hk t ht).1 ?_,(hk t ht).2⟩
 ·clear h hk ih;generalize w.length=nw at *;generalize l.length=nl at *;unfold A4 at htb ⊢;simp at htb ⊢;omega
 ·have:=F4 (t:=.mk k w l) (c:=t) h0 h10 ht;omega
theorem kW {l:List T} (h:∀ t,t ∈ l→Co t≤AN t):Cm l≤BA l:=by
 induction l with
 |nil=>simp
 |cons t l ih=>
  have:=h t (by simp);have:=ih fun u hu=>h u (by simp[hu]);simp;omega
theorem jS {l:List T} (h:∀ t,t ∈ l→Cm t.kids≤BA t.kids):E9 l≤I4 l:=by
 induction l with
 |nil=>simp
 |cons t l ih=>
  have:=h t (by simp);have:=ih fun u hu=>h u (by simp[hu]);simp;omega
theorem wF:∀ (t:T) (d:Nat),Aj d t=true→Co t≤AN t∧Cm t.kids≤BA t.kids:=by
 refine T.ind fun k w l ih d h=>?_;have hk:=AV h;have h1:=kW fun t ht=>(ih t ht _ (hk t ht).1).1;have h2:=jS fun t ht=>(ih t ht _ (hk t ht).1).2;refine⟨?_,h1⟩;rw[Cj,Cn];by_cases k0:k=0
 ·subst k0;rw[AI,if_pos rfl] at h;simp at h;rw[h.2];simp
 by_cases k1:k=1
 ·rw[if_pos k1,if_neg k0,if_pos k1];omega
 by_cases k8:k=8
 ·rw[if_neg k1,if_pos k8,if_neg k0,if_neg k1,if_pos k8];omega
 by_cases kd:2≤k∧k≤7
 ·rw[if_neg k1,if_neg k8,if_pos kd,if_neg k0,if_neg k1,if_neg k8,if_neg (by omega)];obtain⟨wd,w1,w2,w3⟩:=IU (c:=k-2) (by omega) (by omega);have hb:wd≤64:=by omega
  unfold Dw;split
  ·omega
  ·rw[w2];have:(l.length:Int)*wd≤l.length*64:=Int.mul_le_mul_of_nonneg_left (by omega) (by omega);omega
 by_cases k9:k=9
 ·rw[if_neg k1,if_neg k8,if_neg kd,if_pos k9,if_neg k0,if_neg k1,if_neg k8,if_pos k9];have:(l.length:Int)*(1+((An l:Int)+Aq l))=l.length+l.length*((An l:Int)+Aq l):=by rw[Int.mul_add,Int.mul_one]
  omega
 ·have e10:l=[]:=by
   rw[AI,if_neg k0] at h;by_cases k10:k=10
   ·rw[if_pos k10] at h;simp at h;exact h.2
   ·rw[if_neg k10] at h;split at h
    ·cases h
    ·rename_i hb;simp[A4] at hb;omega
  rw[if_neg k1,if_neg k8,if_neg kd,if_neg k9,if_neg k0,if_neg k1,if_neg k8,if_neg k9,e10];simp
theorem AaA {R:E→T→T→Prop} {P:E→Prop} (h0:P E0) {C:T→Prop} {D:T→Prop} (hR:∀ e x y,R e x y→C x→D y→P e) {os:List OP} {a b:List T} (h:LdO R os a b):(∀ x,x ∈ a→C x)→(∀ y,y ∈ b→D y)→os.length≤a.length+b.length∧∀ o,o ∈ os→P o.e:=by
 induction h with
 |nil=>intro _ _;exact⟨by simp,fun o ho=>by cases ho⟩
 |keep l m hne h g ih=>
  intro ca cb;obtain⟨i1,i2⟩:=ih (fun x hx=>ca x (by simp[hx])) fun y hy=>cb y (by simp[hy]);have hl:1≤l.length:=List.length_pos_iff.2 hne;refine⟨by simp;omega,fun o ho=>?_⟩;rcases List.mem_cons.1 ho with rfl | ho
  ·exact h0
  ·exact i2 o ho
 |del l m hne h g ih=>
  intro ca cb;obtain⟨i1,i2⟩:=ih (fun x hx=>ca x (by simp[hx])) cb;have hl:1≤l.length:=List.length_pos_iff.2 hne;have hlm:l.length=m.length:=by simpa using congrArg List.length h
  refine⟨by simp;omega,fun o ho=>?_⟩;rcases List.mem_cons.1 ho with rfl | ho
  ·exact h0
  ·exact i2 o ho
 |ins l m hne h g ih=>
  intro ca cb;obtain⟨i1,i2⟩:=ih ca fun y hy=>cb y (by simp[hy]);have hl:1≤l.length:=List.length_pos_iff.2 hne;have hlm:l.length=m.length:=by simpa using congrArg List.length h
  refine⟨by simp;omega,fun o ho=>?_⟩;rcases List.mem_cons.1 ho with rfl | ho
  ·exact h0
  ·exact i2 o ho
 |desc e x y h g ih=>
  intro ca cb;obtain⟨i1,i2⟩:=ih (fun x hx=>ca x (by simp[hx])) fun y hy=>cb y (by simp[hy]);refine⟨by simp;omega,fun o ho=>?_⟩;rcases List.mem_cons.1 ho with rfl | ho
  ·exact hR _ _ _ h (ca x (by simp)) (cb y (by simp))
  ·exact i2 o ho
theorem Aac {R:E→T→T→Prop} {P:E→Prop} {a b:List T} (hR:∀ e i,R e (a.getD i T0) (b.getD i T0)→P e) {p:Nat} {ks:List KE} (h:tc R a b p ks):p≤max a.length b.length→p+ks.length≤max a.length b.length∧∀ x,x ∈ ks→P x.e:=by
 induction h with
 |nil p h=>intro hp;exact⟨by simpa using hp,fun x hx=>by cases hx⟩
 |cons p i e ks hp h hi he hr g ih=>
  intro _;obtain⟨i1,i2⟩:=ih (by omega);refine⟨by simp only[List.length_cons];omega,fun x hx=>?_⟩;rcases List.mem_cons.1 hx with rfl | hx
  ·exact hR _ _ hr
  ·exact i2 x hx
theorem Ah6:∀ (f g:Nat) (e:E) (a b:T),Ld f e a b→Tj f a→Tj g b→T7 1048575 e:=by
 have base:∀ {e:E} {a b:T},yA e a b→T7 1048575 e:=fun {e a b} h=>by
  rcases h with ⟨rfl,_⟩ | ⟨o,n,rfl,_,_⟩
  ·exact iY
  ·rw[T7];simp[jG,gG]
 intro f;induction f with
 |zero=>exact fun g e a b h _ _=>base h
 |succ f ih=>
  intro g e a b h oa ob;obtain⟨_,_,a3,a4⟩:=AF oa;obtain⟨_,_,b3,b4⟩:=AF ob;rcases h with h | ⟨ws,ks,rfl,a1,b1,hW,hK⟩ | ⟨os,rfl,hk,_,_,hO⟩
  ·exact base h
  ·have hw:=ph hW (by omega);obtain⟨k1,k2⟩:=Aac (P:=T7 1048575) (fun e i h=>ih (g-1) e _ _ h (Gi oa i) (Gi ob i)) hK (by omega);rw[T7];exact⟨by omega,by omega,by simp,smKs_all.2 k2,smOs_all.2 (fun x hx=>by cases hx)⟩
  ·obtain⟨k1,k2⟩:=AaA (P:=T7 1048575) (C:=fun x=>x ∈ a.kids) (D:=fun x=>x ∈ b.kids) iY (fun e x y h hx hy=>ih (g-1) e _ _ h (AX oa x hx) (AX ob y hy)) hO (fun x hx=>hx) (fun x hx=>hx);rw[T7];exact⟨by simp,by simp,by omega,smKs_all.2 (fun x hx=>by cases hx),smOs_all.2 k2⟩
theorem AgV {a b:T} (ha:Bx a) (hb:Bx b) (pa:BH a≤1000) (pb:BH b≤1000) (ra:Aj 64 a=true) (rb:Aj 64 b=true) (ka:a.kind ≠ 10) (kb:b.kind ≠ 10) (da:Am a≤20) (db:Am b≤20) (xa:AN (Af a)≤2000) (xb:AN (Af b)≤2000) {most:Int} :
  PA (qj most a b)∧T7 1048575 (qj most a b)∧Co (Af (AU (qj most a b)))≤8*(AN (Af a)+AN (Af b))+4∧Mz 131072 (qj most a b)=true:=by
 have W:=AgH ha hb pa pb (most:=most);have S:=Ah6 1000 1000 _ _ _ (Aa3 ha hb pa pb ra rb (most:=most)) (CH a ha pa 1000 pa) (CH b hb pb 1000 pb);have R:=vV ha hb pa pb ra rb ka kb (most:=most);obtain⟨Z1,Z2⟩:=Ah0 ha hb pa pb ra rb (most:=most);generalize qj most a b=D at *;have n1:=Xy a;have n2:=Xy b;obtain⟨d0,r0⟩:=XK D 64 S R;have r1:=sh _ _ 64 (Ch _ _ r0) (Nat.le_trans Z2 (by omega));have r2:=Ze _ _ _ r0 r1;have hk:(AU D).kind ≠ 10:=by
  rw[Q2];split<;>omega
 have hz:=(wF _ _ r1).1;have wt:=O4 D W S (.inl R);have hc:He 131072 (AU D)=true:=cnOk_iff.2 ⟨r2,hk,by omega,by omega⟩;refine⟨W,S,by omega,?_⟩;have hlen:=fp wt hc;have hok:=Kd _ 64 r2 wt hk;unfold Mz;rw[R,hc];simp only[Bool.and_self,Bool.true_and,decide_eq_true_eq];have e:Pd 131072 (AU D)=Dr (Af (AU D)) 0 [0]:=by simp[Pd,hc]
 rw[e] at hlen ⊢;obtain⟨r,u,u1,u2,u3,u4,u5⟩:=ln hok r1 (by omega);have hku:u.kind ≠ 10:=by
  have:=congrArg T.kind u3;rw[Bp,Bp,Bp] at this;omega
 exact Adj u1 u2 hku (by omega) (by omega)
noncomputable def sC (t:T):Bool:=Bu 64 (Er t)&&QL (AU (Er t)) t
noncomputable def yw (t:T):E:=if sC t=true then Er t else E0
theorem cT {H:Hp}:K6 H (.agg [iv 0,iv 0,.sl true [],.sl true [],iv 0,.sl true [],.sl true [],.sl true [],.sl true [],iv 0,.sl true []]) (eX E0):=BT (by
 simp
 repeat' (first | exact Au | exact Ab rfl | apply And.intro))
theorem fI {t:T} (hw:Bx t) (hr:∃ d,Aj d t=true):G.Spec Tryz.prog 79 [tX t] (.tup [eX (yw t),bv (sC t)]):=by
 have hwg:=xc _ t (Cb _) hw hr;have hsg:=xp _ t (Cb _) hr;have hwt:=O4 (Er t) hwg hsg (.inr trivial);have hsm:SmT t:=by obtain⟨d,hd⟩:=hr;exact wm t d hd
 have hR:=(vF t hw hsm).1;unfold H6 at hR;refine Ah bZ (by simp) fun w0 I0=>?_;unfold S7;simp;refine Ae hR rfl ?_;simp;refine Ae (Sa hwg) (by simp) ?_;by_cases hr1:Bu 64 (Er t)=true
 ·have hT:=Z3 (Er t) hwg hsg ⟨64,hr1⟩;unfold Nd at hT;simp[hr1];refine Cf rfl (fun _=>hT) (fun _=>rfl) (by simp) ?_;simp[Aa];refine Cf rfl (fun _=>fy hwt (XK (Er t) 64 hsg hr1) hw hr) (fun _=>rfl) (by simp) ?_;by_cases he:QL (AU (Er t)) t=true
  ·have hB:sC t=true:=by simp[sC,hr1,he]
   have hE:yw t=Er t:=by simp[yw,hB]
   rw[hE,hB];simp[he];exact Ab (CW (by simp))
  ·have hB:sC t=false:=by simp[sC,he]
   have hE:yw t=E0:=by simp[yw,hB]
   rw[hE,hB];simp[he];exact CY (by simp;exact⟨cT,Ab rfl⟩)
 ·have hB:sC t=false:=by simp[sC,hr1]
  have hE:yw t=E0:=by simp[yw,hB]
  rw[hE,hB];simp at hr1;simp[hr1];refine Ao rfl ?_;simp;refine Ao rfl ?_;simp;exact CY (by simp;exact⟨cT,Ab rfl⟩)
def pg (l:List Int) (a b:Int):T × Int:=
 if (GX [l] a b).2.2 ≠ 0 then (T0,(GX [l] a b).2.2)
 else if He 131072 (Af (GX [l] a b).1)=true∧l=Pd 131072 (Af (GX [l] a b).1) then (Af (GX [l] a b).1,0) else (T0,5)
theorem eF {l:List Int} (hs:Sg [l]) (a b c d:Int):G.Spec Tryz.prog 78 [Ff l,liX a b c d] (.tup [tX (pg l a b).1,iv (pg l a b).2]):=by
 have hlen:=hs.b l (by simp);have hM:=Zf hs a b c d;have hmean:=JS hs (a:=a) (b:=b);have hsz:=vS hs (a:=a) (b:=b);unfold pg;generalize GX [l] a b=x at hM hmean hsz;obtain⟨t,wt,e⟩:=x;simp only at hM hmean hsz ⊢;refine Ah YR (by simp) fun w0 I0=>?_;unfold NR;simp;refine Ae ((oJ [l] (by simp) hs.b).soft (by simp[A.softL,A.soft,Hu])) (by simp) ?_;simp;refine Ae hM (by simp) ?_;by_cases he:e=0
 ·subst he;have hw:=XS hs _ _ (hmean rfl);have hz:=hsz rfl;have hE:=X3 (IH _ hw) 131072 (fun _ _=>by rw[Cz];omega);have e1:A.agg [iv t.kind,Ff (Af t).words,BV (Af t).kids]=tX (Af t):=by simp
  simp[Aa];refine CT (L:=[tX (Af t),iv 131072]) (by simp) hE (by simp) ?_;by_cases hc:He 131072 (Af t)=true
  ·simp[hc];refine Cf rfl (fun _=>NI l _ hlen) (fun _=>rfl) (by simp) ?_;by_cases hq:l=Pd 131072 (Af t)
   ·rw[← hq];simp;rw[e1];exact Ab (CW (by simp))
   ·simp[hq];exact CY (by simp;exact⟨ND,Ab rfl⟩)
  ·simp at hc;simp[hc];refine Ao rfl ?_;simp;exact CY (by simp;exact⟨ND,Ab rfl⟩)
 ·simp[he];exact CY (by simp;exact⟨ND,Ab rfl⟩)
theorem qL {l:List Int} (hs:Sg [l]) {a b:Int} (h:(pg l a b).2=0):Bx (pg l a b).1∧Aj 64 (pg l a b).1=true:=by
 unfold pg at h ⊢;split at h
 ·rename_i h0;exact absurd h h0
 ·rename_i h0;rw[if_neg h0];split at h
  ·rename_i h1;rw[if_pos h1];exact⟨IH _ (XS hs _ _ (JS hs (by simpa using h0))),(cnOk_iff.1 h1.1).1⟩
  ·cases h
noncomputable def dcE (l:List Int):E × Int:=if (pg l 64 65536).2 ≠ 0 then (E0,(pg l 64 65536).2) else if sC (pg l 64 65536).1=true then (yw (pg l 64 65536).1,0) else (E0,12)
theorem cr {l:List Int} (hs:Sg [l]):G.Spec Tryz.prog 37 [Ff l] (.tup [eX (dcE l).1,iv (dcE l).2]):=by
 have hD:=eF hs 64 65536 0 0;have hr:=qL hs (a:=64) (b:=65536);unfold dcE;generalize pg l 64 65536=x at hD hr;obtain⟨t,e⟩:=x;simp only at hD hr ⊢;refine Ah Y3 (by simp) fun w0 I0=>?_;unfold OH;simp;refine Ae RM (by simp) ?_;simp;refine Ae hD (by simp) ?_;by_cases he:e=0
 ·subst he;obtain⟨hw,hr64⟩:=hr rfl;simp[Aa];refine Ae (fI hw ⟨64,hr64⟩) (by simp) ?_;by_cases hB:sC t=true
  ·simp[hB];exact Ab (CW (by simp))
  ·simp at hB;simp[hB];exact CY (by simp;exact⟨cT,Ab rfl⟩)
 ·simp[he];exact CY (by simp;exact⟨cT,Ab rfl⟩)
theorem zD:∀ e:E,PA e→VE e:=by
 refine E.ind fun k o nn ws ks l os ihk iho h=>?_;have h:=wfE_iff.1 h;rw[fS,maskKs_all,maskOs_all];exact⟨fun w hw=>(h.w w hw).2.1,fun x hx=>ihk x hx (h.ks x hx).2,fun x hx=>iho x hx (h.os x hx).e⟩
theorem pkOk_iff {most:Int} {e:E}:Mz most e=true ↔ Bu 64 e=true∧He most (AU e)=true∧(GX [Pd most (AU e)] 64 65536).2.2=0:=by
 unfold Mz;simp only[Bool.and_eq_true,decide_eq_true_eq,and_assoc]
theorem V3 {most:Int} {t:T} (h:He most t=true):Pd most t=Dr (Af t) 0 [0]:=by simp[Pd,h]
theorem mz {t:T}:(Af t).kind=t.kind:=by simp
theorem AcX {most:Int} {t:T} (hw:Bx t) (hc:He most t=true) (hu:(GX [Pd most t] 64 65536).2.2=0):pg (Pd most t) 64 65536=(Af t,0):=by
 obtain⟨hr,h10,hm,hs⟩:=cnOk_iff.1 hc;have hW:=V3 hc;have hlen:=fp hw hc;have hok:=Kd t 64 hr hw h10;obtain⟨r,u,g1,g2,g3⟩:=wY (t:=Af t) hok (Ch t 64 hr) (by rw[← hW];omega);rw[← hW] at g1 g2;have sg:=xJ (most:=most) hw;have hme:=JS sg hu;rw[g1] at hme;have hsame:=od _ _ _ hme g2;have hn:Af (GX [Pd most t] 64 65536).1=Af t:=by rw[hsame,g3,Cz]
 have hc2:He 131072 (Af t)=true:=cnOk_iff.2 ⟨Ch t 64 hr,by rw[mz];exact h10,by rw[Cz];omega,by rw[Cz];omega⟩;unfold pg;have hq:Pd most t=Pd 131072 (Af t):=by rw[hW,V3 hc2,Cz]
 rw[if_neg (by simpa using hu),hn,if_pos ⟨hc2,hq⟩]
theorem z8 {e:E} (hw:PA e) (hr:Bu 64 e=true):sC (Af (AU e))=true∧yw (Af (AU e))=E8 e:=by
 have hg:=nP e 64 (zD e hw) hr;have hB:sC (Af (AU e))=true:=by
  unfold sC;rw[hg,jg e 64 hr,Bool.true_and,eqT_iff,gN,Cz]
 exact⟨hB,by rw[yw,if_pos hB,hg]⟩
theorem AcQ {most:Int} {e:E} (hw:PA e) (hs:T7 1048575 e) (h:Mz most e=true):dcE (Pd most (AU e))=(E8 e,0):=by
 obtain⟨hr,hc,hu⟩:=pkOk_iff.1 h;have hwt:=O4 e hw hs (.inr trivial);obtain⟨hB,hE⟩:=z8 hw hr;unfold dcE;rw[AcX hwt hc hu];rw[if_neg (by simp),if_pos hB,hE]
abbrev E2:E:=.mk 2 T0 T0 [] [] 0 []
theorem eG:AU E2 = .mk 1 [2] [T0,T0]:=by rw[Dh];simp[Ng,Jh]
theorem VS:Af (AU E2) = .mk 1 [2] []:=by rw[eG,AL];simp[CM,BZ,T0]
theorem Adt:Dr (.mk 1 [2] []) 0 [0]=[4294967296,2]:=by rw[B8];simp[DH]
theorem Acj:(GX [[4294967296,2]] 64 65536).2.2=0:=by kernel_rfl
theorem AdG:(GX [[0]] 64 65536).2.2=0:=by kernel_rfl
theorem uQ:Bu 64 E2=true:=by kernel_rfl
theorem wI:Bu 64 E0=true:=by kernel_rfl
theorem cn_E2:He 2 (AU E2)=true∧Pd 2 (AU E2)=[4294967296,2]:=by
 have h:He 2 (AU E2)=true:=cnOk_iff.2 ⟨by rw[eG];kernel_rfl,by rw[eG];simp,by rw[VS,Cj];simp,by rw[VS,Cj];simp⟩;exact⟨h,by rw[V3 h,VS,Adt]⟩
theorem cn_E0:He 1 (AU E0)=true∧Pd 1 (AU E0)=[0]:=by
 have ht:AU E0=T0:=by rw[Dh];simp
 have hn:Af T0=T0:=by simp[T0,AL]
 have h:He 1 (AU E0)=true:=cnOk_iff.2 ⟨by rw[ht];exact HZ 64,by rw[ht];decide,by rw[ht,hn,Cj];simp,by rw[ht,hn,Cj];simp⟩;exact⟨h,by rw[V3 h,ht,hn,B8];simp⟩
theorem wo:T7 1048575 E2:=by rw[T7];simp[jG,gG]
theorem xI:PA E2:=Akq 2 (by simp[Bn])
theorem pk_E2:Mz 2 E2=true∧sJ 2 E2=[4294967296,2]:=by
 have h:Mz 2 E2=true:=pkOk_iff.2 ⟨uQ,cn_E2.1,by rw[cn_E2.2];exact Acj⟩;exact⟨h,by rw[sJ,if_pos h,cn_E2.2]⟩
theorem pk_E0:Mz 1 E0=true∧sJ 1 E0=[0]:=by
 have h:Mz 1 E0=true:=pkOk_iff.2 ⟨wI,cn_E0.1,by rw[cn_E0.2];exact AdG⟩;exact⟨h,by rw[sJ,if_pos h,cn_E0.2]⟩
theorem EJ:G.Spec Tryz.prog 15 [] (bv true):=by
 have h0:=QK uT iY 1 (fun _ _=>by rw[show AU E0=T0 from by rw[Dh];simp,show Af T0=T0 from by simp[T0,AL],Cj];simp);have h2:=QK xI wo 2 (fun _ _=>by rw[VS,Cj];simp);rw[pk_E0.1,pk_E0.2] at h0;rw[pk_E2.1,pk_E2.2] at h2;have hd:=AcQ xI wo pk_E2.1;rw[cn_E2.2] at hd;have sg:=xJ (most:=2) (O4 E2 xI wo (.inr trivial));rw[cn_E2.2] at sg;have hD:=cr sg;rw[hd] at hD;refine Ah Qn (by simp) fun w0 I0=>?_;unfold Kf;simp;refine Ae (h0.soft (by simp[A.softL,A.soft])) rfl ?_;simp;refine Ae (h2.soft (by simp[A.softL,A.soft])) rfl ?_;simp;refine Ae (hD.soft (by simp[A.softL,A.soft])) rfl ?_;simp;refine Bc rfl (fun _=>(Ye [0] [0] (by simp)).soft (by simp[A.softL,A.soft])) (fun _=>rfl) rfl ?_;simp;refine Bc rfl (fun _=>(Ye [4294967296,2] [4294967296,2] (by simp)).soft (by simp[A.softL,A.soft])) (fun _=>rfl) rfl ?_;simp[H4];exact Ab rfl
end Go.Proofs.YtbjmaoedheiigaaGreat
namespace Go.Proofs.YtbjmaoedheiigaaGreat
set_option maxRecDepth 20000
open Go Go.G Go.Proofs
def FU:CC:=sR [fO 50 25 1 0,lO 51 3 50,bQ .eql 52 3 51 9 3] [1,3,4,5,6,7,52] (cD 52 (.reg [mO 53 3,mO 54 4,bB .add 55 3 53 54 3,fO 56 25 7 1,lO 57 22 56,bN 58 57 22,bB .sub 59 3 55 58 3,mO 60 5,bB .add 61 3 59 60 3,fO 62 25 7 2,lO 63 23 62,bN 64 63 23,bB .sub 65 3 61 64 3,aO 3 65] [1,3,4,5,6]) (.skip))
def DN:CC:=sQ [mO 24 6,fO 25 25 1 2,lO 26 23 25,bN 27 26 23,bB .lss 28 3 24 27 3] [1,3,4,5,6,28] (cD 28 (.skip) (.exit 0)) [1,3,4,5,6] (.seq (.block 1 (sR [fO 31 25 1 2,lO 32 23 31,mO 33 6,iO 34 23 32 33,lO 35 25 34,aL 7 25 [1],sT 25 7 35] [1,3,4,5,6,7] (sR [mO 36 3,lO 37 25 7,cA 38 39 37 25,bB .add 39 3 36 38 3,aO 3 39] [1,3,4,5,6,7] (sQ [fO 40 25 1 0,lO 41 3 40,bQ .eql 42 3 41 1 3,mO 43 42,fG 44 25 1 0 43 false,lG 45 3 44 43 false,oG 46 (.binOp .eql 3 (xT 45) (nI 8) 3) 43 false,pT 47 43 46] [1,3,4,5,6,7,47] (cD 47 (.reg [mO 48 3,bQ .add 49 3 48 1 3,aO 3 49] [1,3,4,5,6,7]) (.skip)) [1,3,4,5,6,7] FU)))) (.keep [1,3,4,5,6] (.reg [mO 29 6,bQ .add 30 3 29 1 3,aO 6 30] [1,3,4,5,6])))
def FV:CC:=sR [lO 20 25 1,cA 21 66 20 25,mO 19 21,xO 22 19 0,xO 23 19 1,aO 4 22,aO 5 23] [1,3,4,5] (sQ [aI 6 0] [1,3,4,5,6] (.block 0 (.loop DN)) [3] (sR [mO 66 3,aO 2 66] [2] (.ret))) 
def Jo:CC:=sR [bX 1 25 0 [0],aI 2 0] [1] (sQ [fO 8 25 1 0,lO 9 3 8,bQ .eql 10 3 9 0 3] [1,10] (cD 10 (sR [aI 2 0] [2] (.ret)) (.skip)) [1] (sR [aI 3 1] [1,3] (sQ [fO 11 25 1 0,lO 12 3 11,bQ .eql 13 3 12 1 3] [1,3,13] (cD 13 (.reg [mO 14 3,fO 15 25 1 1,lO 16 22 15,bN 17 16 22,bB .add 18 3 14 17 3,aO 3 18] [1,3]) (.skip)) [1,3] FV)))
theorem PH:Bm Tryz.prog 39 67 [(.tmp 2)] Jo:=Aw Tryz.func39
def Js:CC:=sR [bX 1 25 0 [0],aI 2 0] [1] (sR [lO 3 25 1,cA 4 32 3 25,cA 5 39 4 25,aO 2 5] [2] (.ret))
theorem PG:Bm Tryz.prog 16 6 [(.tmp 2)] Js:=Aw Tryz.func16
def G3:CC:=sR [bX 3 25 0 [0],bX 4 25 1 [1],aB 6 false] [2,3,4] (sQ [lO 11 25 3,cA 12 8 11 25,oO 13 (.unOp .not 4 (xT 12)),mO 14 13,lG 15 25 4 14 false,oG 16 (cL 8 #[(xT 15)] #[25]) 14 false,oG 17 (.unOp .not 4 (xT 16)) 14 false,pT 18 14 17,mO 19 18,lG 20 25 3 19 false,oG 21 (cL 9 #[(xT 20)] #[25]) 19 false,oG 22 (.binOp .gtr 3 (xT 21) (nI 20) 3) 19 false,pT 23 19 22,mO 24 23,lG 25 25 4 24 false,oG 26 (cL 9 #[(xT 25)] #[25]) 24 false,oG 27 (.binOp .gtr 3 (xT 26) (nI 20) 3) 24 false,pT 28 24 27] [2,3,4,28] (cD 28 (sR [oO 29 (cL 15 #[] #[]),aO 6 29] [6] (.ret)) (.skip)) [2,3,4] (sR [lO 30 25 3,⟨some 31,(cL 16 #[(xT 30)] #[25]),none,[],1,[],true⟩,⟨some 32,(lD 25 4),none,[],2,[1],false⟩,cA 33 16 32 25,aO 7 31,aO 8 33] [2,3,4,7,8] (sQ [mO 34 7,bQ .gtr 35 3 34 2000 3,mO 36 35,mG 37 8 36 false,oG 38 (.binOp .gtr 3 (xT 37) (nI 2000) 3) 36 false,pT 39 36 38] [2,3,4,7,8,39] (cD 39 (sR [oO 40 (cL 15 #[] #[]),aO 6 40] [6] (.ret)) (.skip)) [2,3,4,7,8] (sR [lO 42 25 3,lO 43 25 4,mO 44 2,cE 45 11 42 43 44 25 25 3,oO 46 (cL 17 #[(xT 45),(nI 131072)] #[33,3]),mO 41 46,xO 47 41 0,xO 48 41 1,aO 9 47,aO 10 48] [7,8,9,10] (sR [mO 49 10,mO 50 49,mG 51 9 50 true,oG 52 (bL 51 22) 50 true,mG 53 7 50 true,mG 54 8 50 true,oG 55 (bO .add 3 53 54 3) 50 true,oG 56 (.binOp .mul 3 (nI 16) (xT 55) 3) 50 true,oG 57 (.binOp .add 3 (xT 56) (nI 16) 3) 50 true,oG 58 (bO .leq 3 52 57 3) 50 true,pF 59 50 58,mO 60 59,oG 61 (cL 15 #[] #[]) 60 true,pF 62 60 61,aO 6 62] [6] (.ret))))))
theorem L2:Bm Tryz.prog 4 63 [(.tmp 6)] G3:=Aw Tryz.func4
end Go.Proofs.YtbjmaoedheiigaaGreat
namespace Go.Proofs.YtbjmaoedheiigaaGreat
open Go Go.G Go.Proofs Go.PL
theorem ZG (l:List T) (n:Nat):C7 (l.take n)≤C7 l:=by
 induction l generalizing n with
 |nil=>simp
 |cons x l ih=>
  cases n with
  |zero=>
   have h1:=Kw x;have h2:=D7 l;rw[List.take_zero,Dm];simp;omega
  |succ n=>
   rw[List.take_succ_cons,Dm,Dm];have:=ih n;omega
theorem dh:∀ t:T,BH (Af t)≤BH t:=by
 refine T.ind fun k w l ih=>?_;have hm:∀ m:List T,(∀ t,t ∈ m→BH (Af t)≤BH t)→C7 (m.map Af)≤C7 m:=fun m=>by
  induction m with
  |nil=>intro _;simp
  |cons x m ihm=>
   intro h;rw[List.map_cons,Dm,Dm];have h1:=h x (by simp);have h2:=ihm fun t ht=>h t (List.mem_cons_of_mem _ ht);omega
 have h1:=hm l ih;have h2:=D7 l;rw[AL,EZ];split
 ·simp;omega
 ·split
  ·have h3:=ET w;have h4:=ZG (l.map Af) (BZ (l.map Af)).length;rw[← EB] at h4;rw[EZ];omega
  ·rw[EZ];omega
theorem xh {l:List T} (h:∀ t,t ∈ l→AN t≤3000000*BH t):BA l≤3000000*C7 l:=by
 induction l with
 |nil=>simp
 |cons t l ihl=>
  have:=h t (by simp);have:=ihl fun u hu=>h u (by simp[hu]);rw[LZ,Dm];omega
theorem r4 {l:List T} (h:∀ t,t ∈ l→BA t.kids≤3000000*C7 t.kids):I4 l≤3000000*C7 l:=by
 induction l with
 |nil=>simp
 |cons t l ihl=>
  have h0:=h t (by simp);have:=ihl fun u hu=>h u (by simp[hu]);have hp:C7 t.kids≤BH t:=by
   obtain⟨k,w,m⟩:=t;rw[EZ];show C7 m≤_;omega
  rw[Kk,Dm];omega
theorem pj:∀ (t:T) (f:Nat),Tj f t→AN t≤3000000*BH t∧BA t.kids≤3000000*C7 t.kids:=by
 refine T.ind fun k w l ih f h=>?_;obtain⟨_,_,h1,h2⟩:=AF h;have h1:w.length≤1000:=h1;have h2:l.length≤1000:=h2;have hk:∀ t,t ∈ l→AN t≤3000000*BH t∧BA t.kids≤3000000*C7 t.kids:=fun t ht=>ih t ht _ (AX h t ht);have hf:=al (l:=l) (B:=1000) fun t ht=>by
  have:=AF (AX h t ht);exact⟨this.2.2.1,this.2.2.2⟩
 have hL:=xh fun t ht=>(hk t ht).1;have hLL:=r4 fun t ht=>(hk t ht).2;refine⟨?_,hL⟩;have hp:=D7 l;have hm:(l.length:Int)*(1+((An l:Int)+Aq l))≤1000*2001:=by
  have a1:(l.length:Int)*(1+((An l:Int)+Aq l))≤l.length*2001:=Int.mul_le_mul_of_nonneg_left (by omega) (by omega);omega
 rw[Cn,EZ]
 repeat' split
 all_goals omega
def cW (k:Int) (W K:Nat) (u:T):Int:=AN u+(if k=1∨k=8 then 1 else 0)+(if k=9 then (W:Int)-u.words.length+(K-u.kids.length) else 0)
theorem Pn {α:Type} {c c':α→Int} {l:List α} (h:∀ x,x ∈ l→c x=c' x):Dz c l=Dz c' l:=
 Int.le_antisymm (OK fun x hx=>Int.le_of_eq (h x hx)) (OK fun x hx=>Int.le_of_eq (h x hx).symm)
theorem ni {k:Int} {w:List Int} {l:List T} {d:Nat} (h:Aj d (.mk k w l)=true) (h0:k ≠ 0):AN (.mk k w l)=1+(if k=1 then (w.length:Int) else 0)+Dz (cW k (An l) (Aq l)) l:=by
 have hk:=AV h;rw[Cn,if_neg h0];by_cases k1:k=1
 ·rw[if_pos k1,if_pos k1,Pn (c':=fun t=>1+AN t) fun x hx=>by unfold cW;rw[if_pos (.inl k1),if_neg (by omega)];omega,pJ];omega
 by_cases k8:k=8
 ·rw[if_neg k1,if_pos k8,if_neg k1,Pn (c':=fun t=>1+AN t) fun x hx=>by unfold cW;rw[if_pos (.inr k8),if_neg (by omega)];omega,pJ];omega
 by_cases k9:k=9
 ·subst k9;rw[if_neg k1,if_neg k8,if_pos rfl,if_neg k1,Pn (c':=fun t=>1+(An l:Int)+Aq l+BA t.kids) fun x hx=>by
   have kx:=ic (hk x hx).2;unfold cW;rw[if_neg (by decide),if_pos rfl];obtain⟨a,b,c⟩:=x;have kx:a=1:=kx;subst kx;rw[Cn,if_neg (by decide),if_pos rfl];show 1+(b.length:Int)+c.length+BA c+0+((An l:Int)-b.length+(Aq l-c.length))=1+An l+Aq l+BA c;omega,vZ]
  omega
 ·rw[if_neg k1,if_neg k8,if_neg k9,if_neg k1];by_cases kd:2≤k∧k≤7
  ·rw[Pn (c':=fun _=>1) fun x hx=>by
    have kx:=cj (hk x hx).2 kd;unfold cW;rw[if_neg (by omega),if_neg k9,XQ (hk x hx).1 kx];rfl,uy]
   omega
  ·have e10:l=[]:=by
    rw[AI,if_neg h0] at h;by_cases k10:k=10
    ·rw[if_pos k10] at h;simp at h;exact h.2
    ·rw[if_neg k10] at h;split at h
     ·cases h
     ·rename_i hb;simp[A4] at hb;omega
   rw[e10];simp[Dz]
variable {n0:Nat} {w0:World} {I0:Nat→Prop} {Q:Exit→Sta→Prop}
set_option pp.deepTerms true in
set_option pp.maxSteps 1000000 in
theorem rf {t:T} {W K:Nat} (hW:W≤1000) (hK:K≤1000) (hl:t.kids.length≤1000) (hb:∀ c,c ∈ t.kids→AN c≤3000000000∧c.words.length≤W∧c.kids.length≤K) (ih:∀ c,c ∈ t.kids→G.Spec Tryz.prog 39 [tX c] (iv (AN c))) {R:Int} (hR:R≤4000000000000)
  (hq:∀ st H',Q (.exit 0) ⟨lk ([(1,.pob [0] 1 0),(3,iv R)]++st),H'⟩):∀ (m i:Nat) (n:Int) (H:Hp),i+m=t.kids.length→H [0]=⟨1,.cells (tL t)⟩→0≤n→R=n+Dz (cW t.kind W K) (t.kids.drop i) →
   LoopC (cx Tryz.prog w0 I0 n0) DN Q ⟨lk [(1,.pob [0] 1 0),(3,iv n),(4,iv (W:Nat)),(5,iv (K:Nat)),(6,iv i)],H⟩:=by
 intro m;induction m with
 |zero=>
  intro i n H hm hH hn hR;have:i=t.kids.length:=by omega
  subst this;rw[List.drop_length,Dz] at hR;refine Ad Ai DN.eq_1 ?_;simp[hH];have:=hq [(4,iv (W:Nat)),(5,iv (K:Nat)),(6,iv t.kids.length),(28,bv false)] H;rw[show R=n by omega] at this;simpa using this
 |succ m ihm=>
  intro i n H hm hH hn hR;have hlt:i<t.kids.length:=by omega
  have ew:=AM i;have hd:t.kids.drop i=t.kids[i]::t.kids.drop (i+1):=(List.getElem_cons_drop hlt).symm;have hS:=ih _ (A5 hlt);obtain⟨c1,c2,c3⟩:=hb _ (A5 hlt);have c0:=(Dt t.kids[i]).1;have hrest:0≤Dz (cW t.kind W K) (t.kids.drop (i+1)):=by
   have:Dz (fun _:T=>(0:Int)) (t.kids.drop (i+1))≤Dz (cW t.kind W K) (t.kids.drop (i+1)):=OK fun x hx=>by
    obtain⟨_,b2,b3⟩:=hb x (QB hx);have:=(Dt x).1;unfold cW;split<;>split<;>omega
   rw[pS] at this;exact this
  rw[hd,Dz] at hR;have next:=ihm (i+1)
  generalize hx:t.kids[i]=x at *;generalize hs:Dz (cW t.kind W K) (t.kids.drop (i+1))=s at *;unfold cW at hR;have e1:i64.wrap (n+AN x)=n+AN x:=Av (by split at hR<;>split at hR<;>omega) (by split at hR<;>split at hR<;>omega);refine Ad Ai DN.eq_1 ?_;simp[hlt,hH,hx];refine Ae hS (by simp) ?_;simp[hH,e1,Aa];refine⟨fun h18=>?_,fun k1 k8=>?_⟩
  ·have k9:¬ t.kind=9:=by omega
   rw[if_pos h18,if_neg k9] at hR;have e2:i64.wrap (n+AN x+1)=n+AN x+1:=Bv;rw[FU.eq_1];simp[hH,e2,k9,ew,Aa];exact next (n+AN x+1) _ (by omega) (by simp[Aa,hH]) (by omega) (by omega)
  ·have k18:¬ (t.kind=1∨t.kind=8):=by omega
   rw[if_neg k18] at hR;rw[FU.eq_1];by_cases k9:t.kind=9
   ·rw[if_pos k9] at hR;have e2:i64.wrap (n+AN x+W)=n+AN x+W:=Bv;have e3:i64.wrap (n+AN x+W-x.words.length)=n+AN x+W-x.words.length:=Bv;have e4:i64.wrap (n+AN x+W-x.words.length+K)=n+AN x+W-x.words.length+K:=Bv;have e5:i64.wrap (n+AN x+W-x.words.length+K-x.kids.length)=n+AN x+W-x.words.length+K-x.kids.length:=Bv;simp[hH,e2,e3,e4,e5,k9,ew,Aa];exact next (n+AN x+W-x.words.length+K-x.kids.length) _ (by omega) (by simp[Aa,hH]) (by omega) (by omega)
   ·rw[if_neg k9] at hR;simp[hH,k9,ew,Aa];exact next (n+AN x) _ (by omega) (by simp[Aa,hH]) (by omega) (by omega)
theorem kt:∀ (t:T) (f d:Nat),Tj f t→Aj d t=true→BH t≤1000→G.Spec Tryz.prog 39 [tX t] (iv (AN t)):=by
 refine T.ind fun k w l ih f d ho hr hp=>?_;obtain⟨_,_,h1,h2⟩:=AF ho;have h1:w.length≤1000:=h1;have h2:l.length≤1000:=h2;have hc:=(pj _ f ho).1;have hkr:=AV hr;rw[EZ] at hp;have hpl:=D7 l;have hkp:∀ c,c ∈ l→BH c≤1000:=fun c hc=>by
  have:∀ m:List T,c ∈ m→BH c≤C7 m:=fun m=>by
   induction m with
   |nil=>intro h;cases h
   |cons x m ihm=>
    intro h;have q1:=Kw x;have q2:=D7 m;rw[Dm];rcases List.mem_cons.1 h with rfl | h
    ·omega
    ·have:=ihm h;omega
  have:=this l hc;omega
 have hfr:=al (l:=l) (B:=1000) fun t ht=>by
  have:=AF (AX ho t ht);exact⟨this.2.2.1,this.2.2.2⟩
 have hF:=jf (.mk k w l) (by simp;omega);simp only[T.kids_mk] at hF;refine Ah PH (by simp) fun w0 I0=>?_;unfold Jo;by_cases k0:k=0
 ·rw[GD (t:=.mk k w l) k0];simp[k0];exact Ab rfl
 have hs:=ni hr k0;have hcb:AN (.mk k w l)≤4000000000000:=by rw[EZ] at hc;omega
 have fin:∀ n:Int,0≤n→AN (.mk k w l)=n+Dz (cW k (An l) (Aq l)) l→∀ H:Hp,H [0]=⟨1,.cells (tL (.mk k w l))⟩→WPC (cx Tryz.prog w0 I0 67) FV (QU Tryz.prog [.tmp 2] (iv (AN (.mk k w l)))) ⟨lk [(1,.pob [0] 1 0),(3,iv n)],H⟩:=fun n hn hR H hH=>by
  rw[FV.eq_1];simp[hH];refine Ae hF (by simp) ?_;simp[hH];refine rf (t:=.mk k w l) hfr.1 hfr.2 h2 (fun c hc=>⟨?_,DI hc,Ek hc⟩) (fun c hc=>ih c hc _ _ (AX ho c hc) (hkr c hc).1 (hkp c hc)) hcb (fun st H'=>?_) l.length 0 n H (by simp) hH hn hR
  ·have:=(pj c _ (AX ho c hc)).1;have:=hkp c hc;omega
  ·simp;exact Ab rfl
 simp[k0];by_cases k1:k=1
 ·rw[if_pos k1] at hs;have e1:i64.wrap (1+(w.length:Int))=1+(w.length:Int):=Bv;simp[k1,e1];subst k1;exact fin _ (by omega) hs _ (by simp)
 ·rw[if_neg k1,Int.add_zero] at hs;simp[k1];exact fin _ (by omega) hs _ (by simp)
theorem Vq {a:T} (ha:Bx a) (pa:BH a≤400) (ra:Aj 64 a=true):G.Spec Tryz.prog 16 [tX a] (iv (AN (Af a))):=by
 have pn:=dh a;refine Ah PG (by simp) fun w0 I0=>?_;unfold Js;simp;refine Ae (nM a ha) (by simp) ?_;simp;refine Ae (kt (Af a) 1000 64 (CH a ha (by omega) 1000 (by omega)) (Ch a 64 ra) (by omega)) (by simp) ?_;simp;exact Ab rfl
theorem VM {a b:T} (ha:Bx a) (hb:Bx b) {most:Int} (hm:Bn most):G.Spec Tryz.prog 4 [tX a,tX b,iv most] (bv true):=by
 refine Ah L2 (by simp) fun w0 I0=>?_;unfold G3;simp;refine Ae (UC ha) (by simp) ?_;cases h1:Ts a with
 |false=>
  simp;refine Ao rfl ?_;simp;refine Ao rfl ?_;simp;refine Ao rfl ?_;simp;refine Ae EJ (by simp) ?_;simp;exact Ab rfl
 |true=>
  obtain⟨pa,ra,ka⟩:=Ss h1;simp;refine Cf rfl (fun _=>UC hb) (fun _=>by simp) (by simp) ?_;cases h2:Ts b with
  |false=>
   simp;refine Ao rfl ?_;simp;refine Ao rfl ?_;simp;refine Ae EJ (by simp) ?_;simp;exact Ab rfl
  |true=>
   obtain⟨pb,rb,kb⟩:=Ss h2;simp;refine Cf rfl (fun _=>YK a ha (by omega)) (fun _=>by simp) (by simp) ?_;by_cases d1:(20:Int)<(Am a:Int)
   ·simp[d1];refine Ao rfl ?_;simp;refine Ae EJ (by simp) ?_;simp;exact Ab rfl
   ·simp[d1];refine Cf rfl (fun _=>YK b hb (by omega)) (fun _=>by simp) (by simp) ?_;by_cases d2:(20:Int)<(Am b:Int)
    ·simp[d2];refine Ae EJ (by simp) ?_;simp;exact Ab rfl
    ·simp[d2];refine Ae (Vq ha pa ra) (by simp) ?_;simp;refine Ae (Vq hb pb rb) (by simp) ?_;by_cases x1:2000<AN (Af a)
     ·simp[x1];refine Ae EJ (by simp) ?_;simp;exact Ab rfl
     by_cases x2:2000<AN (Af b)
     ·simp[x1,x2];refine Ae EJ (by simp) ?_;simp;exact Ab rfl
     obtain⟨W,S,Z,P⟩:=AgV ha hb (by omega) (by omega) ra rb ka kb (by omega) (by omega) (by omega) (by omega) (most:=most);have T1:=fL ha hb (by omega) (by omega) hm;have E1:=QK W S 131072 (fun _ _=>by have:=Dt (Af a);have:=Dt (Af b);omega);have a0:=(Dt (Af a)).1;have b0:=(Dt (Af b)).1;have hlen:=fp (O4 _ W S (.inr trivial)) (pkOk_iff.1 P).2.1;have hW:sJ 131072 (qj most a b)=Pd 131072 (AU (qj most a b)):=by simp[sJ,P]
     rw[P] at E1;rw[← hW] at hlen;generalize sJ 131072 (qj most a b)=L at *;generalize qj most a b=D at *;generalize AN (Af a)=x at *;generalize AN (Af b)=y at *;have e1:i64.wrap (x+y)=x+y:=Bv;have e2:i64.wrap (16*(x+y))=16*(x+y):=Bv;have e3:i64.wrap (16*(x+y)+16)=16*(x+y)+16:=Bv;have hle:(L.length:Int)≤16*(x+y)+16:=by omega
     simp[x1,x2];refine Ae T1 (by simp) ?_;simp;refine Ae E1 (by simp) ?_;simp[e1,e2,e3,hle];refine Bc rfl (fun _=>EJ) (fun _=>rfl) rfl ?_;simp;exact Ab rfl
end Go.Proofs.YtbjmaoedheiigaaGreat
namespace Go.Proofs.YtbjmaoedheiigaaGreat
open Go Go.G Go.Proofs Go.PL Go.RowKit
theorem z5 {m:Int} (h:(Lit.int .i64 m).wf=true):Bn m:=by
 simp[Lit.wf,IntKind.min,IntKind.max,IntKind.bits,IntKind.signed] at h;unfold Bn;omega
theorem zV {m:Int} (h:(Lit.int .u64 m).wf=true):BI m:=by
 simp[Lit.wf,IntKind.min,IntKind.max,IntKind.bits,IntKind.signed] at h;unfold BI;omega
theorem gX:Tryz.prog.underlying 3=some (.int .i64):=by kernel_rfl
theorem iJ:Tryz.prog.underlying 51=some (.int .u64):=by kernel_rfl
theorem Ahx {n:Nat} {b:List A} (h:Has Tryz.prog n 3 b):∃ m,Bn m∧b=[iv m]:=by
 cases n with
 |zero=>exact h.elim
 |succ n=>
  unfold Has at h;rw[gX] at h;obtain⟨m,hm,rfl⟩:=h;exact⟨m,z5 hm,rfl⟩
theorem Akw {n:Nat} {b:List A} (h:Has Tryz.prog n 51 b):∃ m,BI m∧b=[uv m]:=by
 cases n with
 |zero=>exact h.elim
 |succ n=>
  unfold Has at h;rw[iJ] at h;obtain⟨m,hm,rfl⟩:=h;exact⟨m,zV hm,rfl⟩
theorem Agy {α:Type} {xs:List A} {g:α→A} {R:α→Prop} (h:∀ x,x ∈ xs→∃ y,R y∧x.soft=g y):∃ l:List α,A.softL xs=l.map g∧l.length=xs.length∧∀ y,y ∈ l→R y:=by
 induction xs with
 |nil=>exact⟨[],rfl,rfl,fun y h=>nomatch h⟩
 |cons x xs ih=>
  obtain⟨y,hy,e⟩:=h x (by simp);obtain⟨l,e2,e3,hl⟩:=ih fun z hz=>h z (by simp[hz]);refine⟨y::l,by simp[A.softL,e,e2],by simp[e3],fun z hz=>?_⟩;rcases List.mem_cons.1 hz with rfl | hz
  ·exact hy
  ·exact hl z hz
theorem Abr {P:Program} {t e:TypeId} {m:Nat} (u:P.underlying t=some (.slice e)) (hb:P.bytesOf e=m) {n:Nat} {b:List A} (h:Has P n t b) {α:Type} {g:α→A} {R:α→Prop} (hx:∀ k b,k<n→Has P k e b→∃ y,R y∧(mk P e b).soft=g y) :
  ∃ (f:Bool) (xs:List A) (l:List α),b=[.sl f xs]∧A.softL xs=l.map g∧l.length*m≤140737488355328∧∀ y,y ∈ l→R y:=by
 cases n with
 |zero=>exact h.elim
 |succ n=>
  unfold Has at h;rw[u] at h;obtain⟨f,xs,rfl,_,hz,hf,hx'⟩:=h;rw[hb] at hz;obtain⟨l,e1,e2,hl⟩:=Agy (g:=g) (R:=R) (xs:=xs) fun x hxx=>by
   obtain⟨b,hb',rfl⟩:=hx' x hxx;exact hx n b (by omega) hb'
  exact⟨f,xs,l,rfl,e1,by rw[e2];exact Nat.le_trans hz (by decide),hl⟩
theorem Aca (b:List A):mk Tryz.prog 3 b=b.headD .any:=by unfold mk;rw[gX]
theorem Adq (b:List A):mk Tryz.prog 51 b=b.headD .any:=by unfold mk;rw[iJ]
theorem Ahf {n:Nat} {b:List A} (h:Has Tryz.prog n 22 b):∃ (f:Bool) (xs:List A) (l:List Int),b=[.sl f xs]∧A.softL xs=l.map uv∧l.length*8≤140737488355328∧∀ y,y ∈ l→BI y:=
 Abr (e:=51) (by kernel_rfl) (by kernel_rfl) h fun k b _ hb=>by
  obtain⟨m,h1,rfl⟩:=Akw hb;exact⟨m,h1,by rw[Adq];rfl⟩
theorem jm:Tryz.prog.underlying 25=some (.struct (Tryz.prog.fieldsOf 25)):=by kernel_rfl
theorem x9:(Tryz.prog.fieldsOf 25).toList.map Field.type=[3,22,23]:=by kernel_rfl
theorem dn (b:List A):mk Tryz.prog 25 b = .agg b:=by unfold mk;rw[jm]
theorem pN:∀ (n:Nat) (b:List A),Has Tryz.prog n 25 b→∃ t,Bx t∧A.softL b=[iv t.kind,Ff t.words,BV t.kids]:=by
 intro n;induction n using Nat.strongRecOn with
 |ind n ih=>
  intro b h;cases n with
  |zero=>exact h.elim
  |succ n=>
   unfold Has at h;rw[jm] at h;simp only at h;rw[Za,x9] at h;obtain⟨_,_,rfl,h1,_,_,rfl,h2,_,_,rfl,h3,rfl⟩:=h;obtain⟨k,hk,rfl⟩:=Ahx h1;obtain⟨f,xs,w,rfl,e2,l2,r2⟩:=Ahf h2;obtain⟨f3,ys,l,rfl,e3,l3,r3⟩:=Abr (m:=56) (e:=25) (g:=tA) (R:=Bx) (by kernel_rfl) (by kernel_rfl) h3 fun j b hj hb=>by
    obtain⟨t,ht,e⟩:=ih j (by omega) b hb;exact⟨t,ht,by rw[dn];simp only[A.soft,e];rw[tA_eq]⟩
   refine⟨.mk k w l,wfT_iff.2 ⟨hk,r2,l2,l3,r3⟩,?_⟩;simp only[List.cons_append,List.nil_append,List.append_nil,A.softL,A.soft,e2,e3];rfl
end Go.Proofs.YtbjmaoedheiigaaGreat
namespace Go.Proofs.YtbjmaoedheiigaaGreat
open Go Go.G Go.Proofs Go.PL Go.RowKit
set_option maxRecDepth 100000 in
theorem said_patchSmall (xs:List A) (h:ArgsHas Tryz.prog Tryz.f4.params.toList xs):G.Spec Tryz.prog 4 xs (.v (.bool true)):=by
 have h:ArgsHas Tryz.prog [25,25,3] xs:=h
 match xs,h with
 |[a,a2,a3],⟨⟨n,b,h1,h2⟩,⟨n2,b2,h12,h22⟩,⟨n3,b3,h13,h23⟩,_⟩=>
  obtain⟨t,ht,et⟩:=pN _ _ h1;obtain⟨t2,ht2,et2⟩:=pN _ _ h12;obtain⟨m,hm,rfl⟩:=Ahx h13;rw[h2,dn,h22,dn,h23,Aca];exact(VM ht ht2 hm).soft (by simp only[A.softL,A.soft,et,et2];rfl)
end Go.Proofs.YtbjmaoedheiigaaGreat
namespace Go.G
open Go.RowKit Go.ChangeShapes Go.WideShapes
section
variable {H:Type} {enc:TypeId × Value→H} {P:Program}
def NJ (P:Program) (ts:List TypeId):Bool:=ts.all fun t=>P.readableRec t&&decide (t<P.types.size)
theorem PW (hl:laidOutB P=true) {W W':World} (hb:Below W.heap.size W W') (sp:Nat→Bool):∀ {ts:List TypeId} {vs:List Value} {ds:List (DataW H)} {ps:List MemPlace},NJ P ts=true →
  DataW.TrodAll enc P W 0 (fun _=>true) true ts vs ds ps→(∀ x ∈ ps,x.block<W.heap.size)→(∀ x ∈ ps,sp x.block=true)→DataW.TrodAll enc P W' 0 sp true ts vs ds ps
 |[],_,_,_,_,h,_,_=>by
  obtain⟨rfl,rfl,rfl⟩:=trodAll_nil h;exact trodAll_mk0
 |t::ts,_,_,_,hr,h,hlt,hsp=>by
  obtain⟨v,vs,d,ds,p,q,rfl,rfl,rfl,h1,h2⟩:=trodAll_cons h;simp only[NJ,List.all_cons,Bool.and_eq_true,decide_eq_true_eq] at hr;exact⟨p,q,WideElems.Trod_stays hl hr.1.1 hr.1.2 h1 (fun x hx=>hb.same (hlt x (by simp[hx]))) (fun x hx=>hsp x (by simp[hx])),
   PW hl hb sp (by simpa[NJ] using hr.2) h2 (fun x hx=>hlt x (by simp[hx])) (fun x hx=>hsp x (by simp[hx])),rfl⟩
theorem NP {w:World} {base:Nat} {spare:Nat→Bool} {held:Bool}:∀ {ts:List TypeId} {vs:List Value} {ds:List (DataW H)} {ps:List MemPlace},DataW.TrodAll enc P w base spare held ts vs ds ps→ds.length=ts.length∧vs.length=ts.length
 |[],_,_,_,h=>by
  obtain⟨rfl,rfl,rfl⟩:=trodAll_nil h;exact⟨rfl,rfl⟩
 |t::ts,_,_,_,h=>by
  obtain⟨v,vs,d,ds,p,q,rfl,rfl,rfl,h1,h2⟩:=trodAll_cons h;have:=NP h2;simp[this]
theorem wL {f:Func} {s:ChangeSpec} {apart fresh handsOn again:Bool} {W W':World} {args:Array Value} {ds gs:List (DataW H)} {before:List MemPlace} {t:TypeId}
  (hl:laidOutB P=true) (hp:NJ P f.params.toList=true) (hsv:s.vars=[]) (hW:DataW.Whole enc P f.params.toList s.vars apart W args.toList ds gs before) (hB:Below W.heap.size W W')
  (hrt:f.resultTypes = #[t]) (ht:P.underlying t=some .bool) (hfn:∀ ds':List (DataW H),ds'.length=f.params.size→s.fn H ds'={ results:=[.lit (.bool true)],args:=ds' }) :
  s.post enc P f apart fresh handsOn again W args (.bool true) W':=by
 have hlt:=hW.lt;have hW':=hW;obtain⟨p,q,hA,hV,rfl,hz,hn⟩:=hW';rw[hsv] at hV;obtain⟨rfl,rfl⟩:=trodVars_none hV;have hfn:=hfn ds (by have:=(NP hA).1;simpa using this);simp only[List.append_nil] at hlt hz hn;have hA':=fun sp=>PW hl hB sp hp hA hlt;have hr:∀ (b:Nat) (sp:Nat→Bool) (hd:Bool),DataW.TrodAll enc P W' b sp hd f.resultTypes.toList ((Value.bool true).resultList f.resultTypes.size) [.lit (.bool true)] []:=fun b sp hd=>by
  rw[hrt];exact trodAll_cons_mk (shut_bool ht _) trodAll_mk0
 refine⟨ds,[],p++[],[],p,[],hW,?_,?_,?_,Below.frame hB _,fun _=>?_⟩
 ·simp only[List.append_nil,hfn];exact hr _ _ _
 ·simp only[List.append_nil,hfn];exact hA' _ (fun x hx=>by simpa using hlt x hx)
 ·simp only[List.append_nil,hfn,hsv];exact rfl
 ·refine⟨ok_one hrt rfl (okWide_bool_mk ht _),_,[],([]++p)++[],⟨[]++p,[],trodAll_append (hA' (fun _=>true) (fun _ _=>rfl)) (hr _ _ _),by rw[hsv];rfl,rfl,?_,?_⟩,?_⟩
  ·intro b off hx;have hx:MemPlace.cell b off ∈ p:=by simpa using hx
   rw[Below.frozen hB (hlt _ hx)];exact hz b off hx
  ·intro ha;have:=hn ha;simpa using this
  ·intro x hx _;simpa using hx
theorem law_calls {f:Func} {fid:FuncId} {s:ChangeSpec} {apart fresh handsOn again:Bool} {W:World} {base:Nat} {args:Array Value} {ds gs:List (DataW H)} {before:List MemPlace} {t:TypeId} (S:List TypeId)
  (hl:laidOutB P=true) (hp:NJ P f.params.toList=true) (hS:NY P S=true) (hts:f.params.toList.all S.contains=true) (hsv:s.vars=[]) (hrt:f.resultTypes = #[t]) (ht:P.underlying t=some .bool)
  (hfn:∀ ds':List (DataW H),ds'.length=f.params.size→s.fn H ds'={ results:=[.lit (.bool true)],args:=ds' })
  (hspec:∀ as',ArgsHas P f.params.toList as'→Spec P fid as' (.v (.bool true))) (htb:Tabs P W (Old W))
  (hval:∀ (j:Nat) t v,f.params[j]? = some t→args[j]? = some v→Value.okWide P W .any base t v) (hW:DataW.Whole enc P f.params.toList s.vars apart W args.toList ds gs before)
  (hwt:(DataW.weightsEach P (f.params.toList++s.plain.varTypes P) (ds++gs)).all (·≤reachBytes)=true) :
  Calls P fid args W fun e W'=>∃ v,e = .returned v∧s.post enc P f apart fresh handsOn again W args v W':=by
 have hW':=hW;obtain⟨p,q,hA,hV,rfl,hz,hn⟩:=hW;have hV':=hV;rw[hsv] at hV';obtain⟨rfl,_⟩:=trodVars_none hV';have hwt':∀ m,m ∈ DataW.weightsEach P f.params.toList ds→m≤reachBytes:=by
  have e:s.plain.varTypes P=[]:=by simp[ChangeSpec.plain,DataSpec.varTypes,hsv]
  rw[e,List.append_nil,List.append_nil,List.all_eq_true] at hwt;exact fun m hm=>by simpa using hwt m hm
 obtain⟨as',h1,h2,h3⟩:=SM hS (fun t ht=>by rw[List.all_eq_true] at hts;simpa using hts t ht) hwt' hA (fun j u v hj hv=>hval j u v (by simpa using hj) (by simpa using hv));refine((hspec as' h2).2 W (Old W) args (fun _ h=>h) htb (by simpa using h1.symm) (fun k y hk=>?_)).mono fun e W' ⟨v,he,hB,hr⟩=>?_
 ·have:=h3 k y hk;simpa[List.getD,Array.getD_eq_getD_getElem?] using this
 ·cases hr;exact⟨_,he,wL hl hp hsv hW' hB hrt ht hfn⟩
end
end Go.G
