/-
 Texts,merged,without what is not reached.
-/
import Derived.Test.YtlaapfplenlfaaaGreatKEe
set_option linter.unusedSimpArgs false
set_option linter.unusedVariables false
open Go.IntKind (i64 u64)
namespace Go.Proofs.YtlaapfplenlfaaaGreat
open Go Go.G Go.Proofs Go.PL
def Rv:List Pc→Nat
 |[]=>0
 |.a o::l=>o.l.length+Rv l
 |.b o::l=>o.l.length+Rv l
 |.both _ _::l=>Rv l
theorem cd {f:Nat} {at':Cw} (hat:at'.length≤900000) {o:T} (wo:AD o) (hko:o.kids.length≤1000000) {R:E→T→T→Prop} {l:List Pc} (hl:l.length≤100000000)
  (hW:∀ o,(.a o ∈ l∨.b o ∈ l)→∀ t,t ∈ o.l→AD t)
  (hR:∀ (i:Nat) (h:i<o.kids.length) (o1 o2:OP),.both o1 o2 ∈ l→RG R o1 o.kids[i]→RG R o2 o.kids[i]→((o1.kind=0∧o1.e=E0)∨(o1.kind=1∧o1.e=E0)∨(o1.kind=3∧Wn o1.e o.kids[i]))∧((o2.kind=0∧o2.e=E0)∨(o2.kind=1∧o2.e=E0)∨(o2.kind=3∧Wn o2.e o.kids[i]))∧∃ u,de f (at'++[(0,(i:Int))]) o.kids[i] o1.e o2.e u) :
  ∀ (j k:Nat) (mine hers:List T) (n:Nat),k+j=l.length→n≤o.kids.length→LI R (l.drop k) (o.kids.drop n)→(∀ t,t ∈ mine→AD t)→(∀ t,t ∈ hers→AD t)→mine.length+hers.length+Rv (l.drop k)≤1000000 →
  ∃ (us mF hF:List T) (nF:Nat) (cs:List Cf),(∀ t,t ∈ us→AD t)∧(∀ t,t ∈ mF→AD t)∧(∀ t,t ∈ hF→AD t)∧mF.length+hF.length≤1000000∧us.length+mF.length+hF.length≤mine.length+hers.length+Rv (l.drop k)+(o.kids.length-n) ∧
   (run (mg f) at' o.kind (l.drop k) mine hers (o.kids.drop n) n).1=us.map Af++(Eb at' o.kind nF mF hF).1∧(run (mg f) at' o.kind (l.drop k) mine hers (o.kids.drop n) n).2=cs++(Eb at' o.kind nF mF hF).2 ∧
   ∀ {n0:Nat} {w0:World} {I0:Nat→Prop} {M0:Nm→Nat→Prop} {m0:Mu} {Q:Exit→Sta→Prop} (hM:∀ r p b,1≤r→¬ M0 (r::p) b) (v w:Nat) (C:List Cf) (vo vm vh:Nat) (out:List T) (H:Hp),C.length+cs.length≤100000000000→out.length+mine.length+hers.length+Rv (l.drop k)+(o.kids.length-n)≤1000000000→rZ v w C at' o n vo out vm vh mine hers H →
    (∀ (H':Hp) (vo' vm' vh':Nat),rZ v w (C++cs) at' o nF vo' (out++us) vm' vh' mF hF H'→Q (.exit 0) ⟨lk [(7,.pob [1] 1 0),(10,.pob [4] 1 0),(11,.pob [5] 1 0),(29,ZP l),(30,iv l.length),(31,iv l.length),(32,bv false)],H'⟩) →
    LoopC (HY Tryz.prog w0 I0 M0 n0 m0) Bv Q ⟨lk [(7,.pob [1] 1 0),(10,.pob [4] 1 0),(11,.pob [5] 1 0),(29,ZP l),(30,iv l.length),(31,iv k)],H⟩:=by
 intro j;induction j with
 |zero=>
  intro k mine hers n hk hn hP wm wh hs;have:k=l.length:=by omega
  subst this;rw[List.drop_length] at hP ⊢;refine⟨[],mine,hers,n,[],(fun t ht=>by simp at ht),wm,wh,by omega,by simp;omega,by simp[run],by simp[run],fun {n0 w0 I0 M0 m0 Q} hM v w C vo vm vh out H hC ho hH hq=>?_⟩;refine Ab Aj Bv.eq_1 ?_;simp;exact hq H vo vm vh (by simpa using hH)
 |succ j ih=>
  intro k mine hers n hk hn hP wm wh hs;have hlt:k<l.length:=by omega
  have hd:l.drop k=l[k]::l.drop (k+1):=(List.getElem_cons_drop hlt).symm;have hmem:l[k] ∈ l:=BD hlt;have ew:=AI k;rw[hd] at hP hs ⊢;generalize hx:l[k]=x at *;generalize ha:o.kids.drop n=ks at hP;cases hP with
  |a oo _ _ hk2 g=>
   subst ha;simp only[Rv] at hs;obtain⟨us,mF,hF,nF,cs,f1,f2,f3,f4,f5,f6,f7,f8⟩:=ih (k+1) (mine++oo.l) hers n (by omega) hn g (fun t ht=>by
    rcases List.mem_append.1 ht with ht | ht
    ·exact wm t ht
    ·exact hW oo (.inl hmem) t ht) wh (by rw[List.length_append];omega)
   rw[List.length_append] at f5;refine⟨us,mF,hF,nF,cs,f1,f2,f3,f4,by simp only[Rv];omega,f6,f7,fun {n0 w0 I0 M0 m0 Q} hM v w C vo vm vh out H hC ho hH hq=>?_⟩;simp only[Rv] at ho;have h5:=hH.s;have h7:=hH.m;refine Ab Aj Bv.eq_1 ?_;simp[hlt,hx,mc,h5,h7,Aa];refine⟨by omega,?_⟩;rw[ew];refine f8 hM v w C vo (vm+1) vh out _ hC (by rw[List.length_append];omega) ⟨fun p=>?_,by simp[Aa],by simp[Aa,hH.so],fun p p1 p2=>?_,by simp[Aa,AN],by simp[Aa,hH.h],by simp[Aa,hH.o],by simp[Aa,hH.z]⟩ hq
   ·simp[Aa,hH.f]
   ·simp[Aa,p1,hH.s0 p p1 p2]
  |b oo _ _ hk2 g=>
   subst ha;simp only[Rv] at hs;obtain⟨us,mF,hF,nF,cs,f1,f2,f3,f4,f5,f6,f7,f8⟩:=ih (k+1) mine (hers++oo.l) n (by omega) hn g wm (fun t ht=>by
    rcases List.mem_append.1 ht with ht | ht
    ·exact wh t ht
    ·exact hW oo (.inr hmem) t ht) (by rw[List.length_append];omega)
   rw[List.length_append] at f5;refine⟨us,mF,hF,nF,cs,f1,f2,f3,f4,by simp only[Rv];omega,f6,f7,fun {n0 w0 I0 M0 m0 Q} hM v w C vo vm vh out H hC ho hH hq=>?_⟩;simp only[Rv] at ho;have h5:=hH.s;have h8:=hH.h;refine Ab Aj Bv.eq_1 ?_;simp[hlt,hx,mc,h5,h8,Aa];refine⟨by omega,?_⟩;rw[ew];refine f8 hM v w C vo vm (vh+1) out _ hC (by rw[List.length_append];omega) ⟨fun p=>?_,by simp[Aa],by simp[Aa,hH.so],fun p p1 p2=>?_,by simp[Aa,hH.m],by simp[Aa,AN],by simp[Aa,hH.o],by simp[Aa,hH.z]⟩ hq
   ·simp[Aa,hH.f]
   ·simp[Aa,p1,hH.s0 p p1 p2]
  |both o1 o2 _ a1 a2 hn1 hl1 h g=>
   simp only[Rv] at hs;have hal:a1.length+a2.length=o.kids.length-n:=by rw[← List.length_append,← ha,List.length_drop]
   have ha1:(o.kids.drop n).take a1.length=a1:=by rw[ha,List.take_left]
   have ha2:o.kids.drop (n+a1.length)=a2:=by rw[← List.drop_drop,ha,List.drop_left]
   obtain⟨us1,b1,b2,b3,b4⟩:=db (f:=f) hat wo hko (o1:=o1) (o2:=o2) (l:=l) (k:=k) (m:=a1.length) (by omega) a1 0 n (by omega) ha1.symm (by omega) fun i hi hm=>by
    obtain⟨h1,h2⟩:=h _ hm;exact hR i hi o1 o2 hmem h1 h2
   rw[← ha2] at g;obtain⟨us,mF,hF,nF,cs,f1,f2,f3,f4,f5,f6,f7,f8⟩:=ih (k+1) [] [] (n+a1.length) (by omega) (by omega) g (fun t ht=>by simp at ht) (fun t ht=>by simp at ht) (by simp;omega);have hgap:=Wt at' o.kind n mine hers;have hgl:((F9 mine hers).getD []).length≤mine.length+hers.length:=by
    unfold F9;split
    ·simp
    ·split
     ·simp
     ·split<;>simp
   have hgw:∀ t,t ∈ (F9 mine hers).getD []→AD t:=by
    unfold F9;intro t ht;split at ht
    ·exact wh t ht
    ·split at ht
     ·exact wh t ht
     ·split at ht
      ·exact wm t ht
      ·simp at ht
   have hgn:((F9 mine hers).getD []).map Af=(Eb at' o.kind n mine hers).1:=by
    cases e:F9 mine hers with
    |none=>rw[hgap.2 e];rfl
    |some z=>rw[hgap.1 z e];rfl
   have er:run (mg f) at' o.kind (.both o1 o2::l.drop (k+1)) mine hers (a1++a2) n=((Eb at' o.kind n mine hers).1++((Je (mg f) at' o1 o2 a1 n).1++(run (mg f) at' o.kind (l.drop (k+1)) [] [] (o.kids.drop (n+a1.length)) (n+a1.length)).1),(Eb at' o.kind n mine hers).2++((Je (mg f) at' o1 o2 a1 n).2++(run (mg f) at' o.kind (l.drop (k+1)) [] [] (o.kids.drop (n+a1.length)) (n+a1.length)).2)):=by
    rw[run,← hn1,List.take_left,List.drop_left,ha2]
   rw[er];refine⟨(F9 mine hers).getD []++(us1++us),mF,hF,nF,(Eb at' o.kind n mine hers).2++((Je (mg f) at' o1 o2 a1 n).2++cs),fun t ht=>?_,f2,f3,f4,by simp only[Rv,List.length_append];simp at f5;omega,?_,?_,fun {n0 w0 I0 M0 m0 Q} hM v w C vo vm vh out H hC ho hH hq=>?_⟩
   ·rcases List.mem_append.1 ht with ht | ht
    ·exact hgw t ht
    ·rcases List.mem_append.1 ht with ht | ht
     ·exact b1 t ht
     ·exact f1 t ht
   ·simp only[List.map_append,hgn,b3,f6,List.append_assoc]
   ·simp only[f7,List.append_assoc]
   simp only[Rv] at ho;rw[List.length_append,List.length_append] at hC;have G:=Sm (v:=v) (w:=w) (C:=C) (at':=at') (o:=o) (n:=n) (vo:=vo) (out:=out) (mine:=mine) (hers:=hers) (vs:=1) wm wh (wfT_iff.1 wo).k (by omega) (by omega) (by omega) hat (by omega);generalize (Eb at' o.kind n mine hers).2=cg at *;generalize (F9 mine hers).getD []=gl at *;generalize (Je (mg f) at' o1 o2 a1 n).2=cr at *;have hn64:(0:Int)≤o1.n∧o1.n≤10000000:=by
    unfold Lq at hn1;omega
   have hl64:o1.l.length≤10000000:=by
    unfold Lq at hn1;omega
   have ea:i64.wrap (o1.n+o1.l.length)=o1.n+o1.l.length:=Hl;have em:max (o1.n+(o1.l.length:Int)) 1=((a1.length:Nat):Int):=by
    rw[hn1];unfold Lq;omega
   obtain⟨H2,g1,g2,g3,g4,g5,g6⟩:=SA (c:=HY Tryz.prog w0 I0 M0 n0 m0) (s:=lk [(7,.pob [1] 1 0),(10,.pob [4] 1 0),(11,.pob [5] 1 0),(29,ZP l),(30,iv l.length),(31,iv k)]) hM hH;rw[hH.o] at g4;rw[hH.z] at g5;refine LoopC.le g1 ?_;refine Ab Aj Bv.eq_1 ?_;simp[hlt,hx,mc,Aa];refine PO 0 5 (by decide) G (fun p=>by simp[Aa,g2]) (fun p=>by simp[Aa,g3]) (by simp) (by simp) ?_;simp[ea,em,Aa];refine LoopC.le (Ay [(7,.pob [1] 1 0),(10,.pob [4] 1 0),(11,.pob [5] 1 0),(15,.pob [6] ((H2 [6]).u+1) 0),(29,ZP l),(30,iv l.length),(31,iv k),(47,iv a1.length),(48,iv (0:Nat))] (by simp)) ?_;refine b4 v w (C++cg) (vo+QI mine hers) ((H2 [6]).u+1) (out++gl) _ (by rw[List.length_append];omega) (by rw[List.length_append];omega) ⟨fun p=>by simp,fun p=>by simp,by simp[Aa,g4],by simp[Aa,g5]⟩ (by simp[Aa]) fun H' vo' hH'=>?_;simp;rw[ew];obtain⟨H3,vm',vh',y1,y2⟩:=Vd (c:=HY Tryz.prog w0 I0 M0 n0 m0) (s:=lk [(7,.pob [1] 1 0),(10,.pob [4] 1 0),(11,.pob [5] 1 0),(29,ZP l),(30,iv l.length),(31,iv (k+1:Nat))]) hH';refine LoopC.le y1 ?_;refine f8 hM v w _ vo' vm' vh' _ H3 (by rw[List.length_append,List.length_append];omega) (by simp only[List.length_append,List.length_nil];simp at f5;omega) y2 fun H4 vo2 vm2 vh2 z=>?_;refine hq H4 vo2 vm2 vh2 ?_;simp only[List.append_assoc] at z;exact z
theorem eV {c:Cx} {x:CC} {Q:Exit→Sta→Prop} {s:Nat→A} {v w:Nat} {C:List Cf} {at':Cw} {o:T} {H:Hp} (h0:∀ p,H (0::p)=(LY v w C).F 0 p) (h1:H [1]=⟨1,.cells (Uj o)⟩) (h4:H [4]=⟨1,.cells [iv 0,.sl true [],.sl true []]⟩) (h5:H [5]=⟨1,.cells [.pob [0] v 0,A8 at',iv o.kind,CQ o.words,Bx o.kids,iv 0,.sl true [],.sl true [],.sl true []]⟩) (h6:∀ p,p ≠ []→H (5::p)=⟨0,.none⟩)
  (k:∀ (H2:Hp) (vm vh:Nat),rZ v w C at' o 0 1 [] vm vh [] [] H2→LoopC c x Q ⟨s,H2⟩):LoopC c x Q ⟨s,H⟩:=by
 have e5:=h6 [0] (by simp);refine LoopC.le (Bc (d:=[5]) (u:=1) 6 [5,0] 3 h5 rfl (by simp)) ?_;have hK:zC v w C at' o 0 1 [] (Az (Az H [5,0] ⟨(H [5,0]).u+1,.arr 3 []⟩) [5] ⟨1,.cells ([.pob [0] v 0,A8 at',iv o.kind,CQ o.words,Bx o.kids,iv 0,.sl true [],.sl true [],.sl true []].set 6 (.osl [5,0] ((H [5,0]).u+1) 3 0 0))⟩):=by
  refine⟨fun p=>?_,fun p=>?_,?_,?_⟩
  ·simp[Aa,h0]
  ·by_cases p1:p=[]
   ·subst p1;simp[Aa,e5]
   ·by_cases p2:p=[0]
    ·subst p2;simp[Aa,e5]
    ·simp[Aa,p1,p2,h6]
  ·simp[Aa,h1]
  ·simp[Aa,h4]
 obtain⟨H3,vm',vh',y1,y2⟩:=Vd (c:=c) (s:=s) hK;exact LoopC.le y1 (k H3 vm' vh' y2)
theorem Wh {f:Nat} {at':Cw} (hat:at'.length≤900000) {o:T} (wo:AD o) (hko:o.kids.length≤1000000) {R:E→T→T→Prop} {p q:E} {l:List Pc} (hT:YB p.ops q.ops l) (gp:∀ o,o ∈ p.ops→Uo o) (gq:∀ o,o ∈ q.ops→Uo o) (lp:p.ops.length≤1000000) (lq:q.ops.length≤1000000) (hl:l.length≤100000000) (hP:LI R l o.kids) (hI:Rv l≤1000000)
  (hrun:run (mg f) at' o.kind l [] [] o.kids 0=Hj (mg f) at' o.kind o.kids (En p.ops) (En q.ops) 0)
  (hW:∀ o,(.a o ∈ l∨.b o ∈ l)→∀ t,t ∈ o.l→AD t)
  (hR:∀ (i:Nat) (h:i<o.kids.length) (o1 o2:OP),.both o1 o2 ∈ l→RG R o1 o.kids[i]→RG R o2 o.kids[i]→((o1.kind=0∧o1.e=E0)∨(o1.kind=1∧o1.e=E0)∨(o1.kind=3∧Wn o1.e o.kids[i]))∧((o2.kind=0∧o2.e=E0)∨(o2.kind=1∧o2.e=E0)∨(o2.kind=3∧Wn o2.e o.kids[i]))∧∃ u,de f (at'++[(0,(i:Int))]) o.kids[i] o1.e o2.e u) :
  ∃ us:List T,(∀ t,t ∈ us→AD t)∧us.length≤10000000∧us.map Af=(Hj (mg f) at' o.kind o.kids (En p.ops) (En q.ops) 0).1∧∀ (v w:Nat) (C:List Cf),C.length+(Hj (mg f) at' o.kind o.kids (En p.ops) (En q.ops) 0).2.length≤100000000000 →
   SpecF Tryz.prog 56 (fun r=>[.pob [r] v 0,A8 at',tX o,eX p,eX q]) (LY v w C) (fun _=>tX (.mk o.kind [] us)) (LY v w (C++(Hj (mg f) at' o.kind o.kids (En p.ops) (En q.ops) 0).2)):=by
 have TH:=RE hT gp gq lp lq hl;obtain⟨us,mF,hF,nF,cs,f1,f2,f3,f4,f5,f6,f7,f8⟩:=cd (f:=f) hat wo hko hl hW hR l.length 0 [] [] 0 (by omega) (by omega) (by simpa using hP) (fun t ht=>by simp at ht) (fun t ht=>by simp at ht) (by simpa using hI);rw[List.drop_zero,List.drop_zero,hrun] at f6 f7;rw[List.drop_zero] at f5;simp only[List.length_nil,Nat.zero_add,Nat.sub_zero] at f5;have hgap:=Wt at' o.kind nF mF hF;have hgl:((F9 mF hF).getD []).length≤mF.length+hF.length:=by
  unfold F9;split
  ·simp
  ·split
   ·simp
   ·split<;>simp
 have hgw:∀ t,t ∈ (F9 mF hF).getD []→AD t:=by
  unfold F9;intro t ht;split at ht
  ·exact f3 t ht
  ·split at ht
   ·exact f3 t ht
   ·split at ht
    ·exact f2 t ht
    ·simp at ht
 have hgn:((F9 mF hF).getD []).map Af=(Eb at' o.kind nF mF hF).1:=by
  cases e:F9 mF hF with
  |none=>rw[hgap.2 e];rfl
  |some z=>rw[hgap.1 z e];rfl
 refine⟨us++(F9 mF hF).getD [],fun t ht=>?_,by rw[List.length_append];omega,by rw[f6,List.map_append,hgn],fun v w C hC=>?_⟩
 ·rcases List.mem_append.1 ht with ht | ht
  ·exact f1 t ht
  ·exact hgw t ht
 rw[f7] at hC ⊢;rw[List.length_append] at hC;refine I4 KK (by simp) (Ai AX (Ai BZ (Ai (Bl o) (Ai (B6 p) (Ai (B6 q) Av))))) (Bl _) fun w0 I0 M0 m0 hM=>?_;unfold GV;simp;refine Ae TH (by simp) ?_;simp;refine LoopC.le (Ay [(7,.pob [1] 1 0),(10,.pob [4] 1 0),(11,.pob [5] 1 0),(29,ZP l),(30,iv l.length),(31,iv (0:Nat))] (by simp)) ?_;refine eV (v:=v) (w:=w) (C:=C) (at':=at') (o:=o) (fun p=>by simp) (by simp) (by simp) (by simp) (fun p hp=>by simp[hp,Ga,Ne.symm hp]) fun H2 vm vh hH2=>?_;refine f8 hM v w C 1 vm vh [] H2 (by omega) (by simp;omega) hH2 fun H' vo' vm' vh' hH'=>?_;have G:=Sm (v:=v) (w:=w) (C:=C++cs) (at':=at') (o:=o) (n:=nF) (vo:=vo') (out:=us) (mine:=mF) (hers:=hF) (vs:=1) f2 f3 (wfT_iff.1 wo).k (by omega) (by omega) (by omega) hat (by rw[List.length_append];omega);rw[List.nil_append] at hH';generalize (Eb at' o.kind nF mF hF).2=cg at *;generalize (F9 mF hF).getD []=gl at *;obtain⟨H3,g1,g2,g3,g4,g5,g6⟩:=SA (c:=HY Tryz.prog w0 I0 M0 93 m0) (s:=lk [(7,.pob [1] 1 0),(10,.pob [4] 1 0),(11,.pob [5] 1 0)]) hM hH';rw[hH'.o] at g4;rw[hH'.z] at g5;simp;refine JB g1 (Ff ?_);simp;refine PO 0 5 (by decide) G (fun p=>by simp[g2]) (fun p=>by simp[g3]) (by simp) (by simp) ?_;simp[g4,g5,Aa];have hlen:us.length+gl.length=(us++gl).length:=by simp
 rw[hlen];generalize us++gl=L at *;generalize hHH:ov 0 ((Oh v w (C++(cs++cg)) at' o nF (vo'+QI mF hF) L (true,[]) (true,[]) 1).B 0 5) (ov 5 ((Oh v w (C++(cs++cg)) at' o nF (vo'+QI mF hF) L (true,[]) (true,[]) 1).C 0 5) (Az H3 [4] ⟨1,.cells [iv o.kind,.sl true [],.osl [5,0] (vo'+QI mF hF) 3 0 L.length]⟩))=HH;have z0:∀ p,HH (0::p)=(LY v w (C++(cs++cg))).F 0 p:=fun p=>by rw[← hHH];simp
 have z4:HH [4]=⟨1,.cells [iv o.kind,.sl true [],.osl [5,0] (vo'+QI mF hF) 3 0 L.length]⟩:=by rw[← hHH];simp[Aa]
 have z5:HH [5,0]=⟨vo'+QI mF hF,.arr 3 (L.map tA)⟩:=by rw[← hHH];simp[Aa]
 obtain⟨H4,y1,y2⟩:=HZ (c:=HY Tryz.prog w0 I0 M0 93 m0) (s:=lk [(10,.pob [4] 1 0)]) (H:=HH) (fun r=>r=5) (fun r p b h=>hM r p b (by omega)) (r0:=4) (p0:=[]) (by omega) z4 (cs':=Uj (.mk o.kind [] L)) (by simp[A.ones]) (fun H1 h1=>⟨Ad rfl,Ah,A3 (f:=tA) (l:=L) (by rw[h1 5 [0] rfl,z5];simp) rfl (fun x=>by simp),trivial⟩);refine Hi y1 (A6 (r0:=tX (.mk o.kind [] L)) (by simp[EC]) rfl fun r=>?_);have e1:=y2 0 r (by omega);dsimp only;rw[Ax (by simp),e1,z0]
theorem Uw {R R':E→T→T→Prop} {os:List OP} {a b:List T} (h:LdO R os a b):(∀ e x y,x ∈ a→y ∈ b→R e x y→R' e x y)→LdO R' os a b:=by
 induction h with
 |nil=>exact fun _=>.nil
 |keep l m hne hl _ ih=>exact fun hR=>.keep l m hne hl (ih fun e x y hx hy=>hR e x y (List.mem_append_right _ hx) (List.mem_append_right _ hy))
 |del l m hne hl _ ih=>exact fun hR=>.del l m hne hl (ih fun e x y hx hy=>hR e x y (List.mem_append_right _ hx) hy)
 |ins l m hne hl _ ih=>exact fun hR=>.ins l m hne hl (ih fun e x y hx hy=>hR e x y hx (List.mem_append_right _ hy))
 |desc e x y r _ ih=>exact fun hR=>.desc e x y (hR e x y (by simp) (by simp) r) (ih fun e x y hx hy=>hR e x y (List.mem_cons_of_mem _ hx) (List.mem_cons_of_mem _ hy))
def JU:List OP→Nat
 |[]=>0
 |o::os=>(if o.kind=2 then o.l.length else 0)+JU os
theorem K7 {R:E→T→T→Prop} {os:List OP} {a b:List T} (h:LdO R os a b):os.length≤a.length+b.length∧JU os≤b.length∧(a.length≤1000000→b.length≤1000000→∀ o,o ∈ os→Uo o):=by
 induction h with
 |nil=>exact⟨by simp,by simp[JU],fun _ _ o ho=>by simp at ho⟩
 |keep l m hne hl _ ih=>
  have h1:=List.length_pos_iff.2 hne;have h2:l.length=m.length:=by simpa using congrArg List.length hl
  refine⟨by simp;omega,by simp[JU];omega,fun ha hb o ho=>?_⟩;rw[List.length_append] at ha hb;rcases List.mem_cons.1 ho with rfl | ho
  ·exact⟨.inl ⟨rfl,by simp;omega,by simp;omega,rfl⟩,fun h=>by simp at h,by simp⟩
  ·exact ih.2.2 (by omega) (by omega) o ho
 |del l m hne hl _ ih=>
  have h1:=List.length_pos_iff.2 hne;have h2:l.length=m.length:=by simpa using congrArg List.length hl
  refine⟨by simp;omega,by simp[JU];omega,fun ha hb o ho=>?_⟩;rw[List.length_append] at ha;rcases List.mem_cons.1 ho with rfl | ho
  ·exact⟨.inr (.inl ⟨rfl,rfl⟩),fun _=>hne,by simp;omega⟩
  ·exact ih.2.2 (by omega) (by omega) o ho
 |ins l m hne hl _ ih=>
  have h1:=List.length_pos_iff.2 hne;have h2:l.length=m.length:=by simpa using congrArg List.length hl
  refine⟨by simp;omega,by simp[JU];omega,fun ha hb o ho=>?_⟩;rw[List.length_append] at hb;rcases List.mem_cons.1 ho with rfl | ho
  ·exact⟨.inr (.inr (.inl ⟨rfl,rfl⟩)),fun _=>hne,by simp;omega⟩
  ·exact ih.2.2 (by omega) (by omega) o ho
 |desc e x y r _ ih=>
  refine⟨by simp;omega,by simp[JU];omega,fun ha hb o ho=>?_⟩;rw[List.length_cons] at ha hb;rcases List.mem_cons.1 ho with rfl | ho
  ·exact⟨.inr (.inr (.inr ⟨rfl,rfl,rfl⟩)),fun h=>by simp at h,by simp⟩
  ·exact ih.2.2 (by omega) (by omega) o ho
theorem ck (o:OP) (n:Nat):(dz o n).kind=o.kind:=by unfold dz;split<;>rfl
theorem Yf {p:OP} (hp:p.kind ≠ 2) (n:Nat) (ps:List OP):JU (Ly p n ps)=JU ps:=by
 unfold Ly;split
 ·rfl
 ·rw[JU,ck,if_neg hp,Nat.zero_add]
theorem jr {ps qs:List OP} {l:List Pc} (h:YB ps qs l):Rv l≤JU ps+JU qs:=by
 induction h with
 |nil=>simp[Rv]
 |fst p ps qs l h g ih=>rw[Rv,JU,if_pos h];omega
 |snd ps q qs l hp h g ih=>rw[Rv,JU,if_pos h];omega
 |both p ps q qs n l hp hq hn g ih=>
  rw[Yf hp,Yf hq] at ih;rw[Rv,JU,if_neg hp,JU,if_neg hq];omega
def dS (o:OP):Prop:=(∀ t,t ∈ o.l→AD t)∧J2 o.e
theorem cT {o:OP} (h:dS o) (n:Nat):dS (JZ o n):=by
 unfold JZ;split
 ·exact h
 ·unfold rr;split
  ·exact h
  ·exact⟨fun t ht=>h.1 t (St ht),h.2⟩
theorem dI {p:OP} {ps:List OP} (h:∀ o,o ∈ p::ps→dS o) (n:Nat):∀ o,o ∈ Ly p n ps→dS o:=by
 intro o ho;unfold Ly at ho;split at ho
 ·exact h o (List.mem_cons_of_mem _ ho)
 ·rcases List.mem_cons.1 ho with rfl | ho
  ·have:=h p (by simp);unfold dz;split
   ·exact this
   ·exact⟨fun t ht=>this.1 t (Zd ht),this.2⟩
  ·exact h o (List.mem_cons_of_mem _ ho)
theorem w9 {ps qs:List OP} {l:List Pc} (h:YB ps qs l):(∀ o,o ∈ ps→dS o)→(∀ o,o ∈ qs→dS o)→∀ c,c ∈ l→dS (kT c).1∧dS (kT c).2:=by
 have w0:dS O0:=⟨fun t ht=>by simp at ht,IH⟩;induction h with
 |nil=>intro _ _ c hc;simp at hc
 |fst p ps qs l h g ih=>
  intro hp hq c hc;rcases List.mem_cons.1 hc with rfl | hc
  ·exact⟨hp p (by simp),w0⟩
  ·exact ih (fun o ho=>hp o (List.mem_cons_of_mem _ ho)) hq c hc
 |snd ps q qs l _ h g ih=>
  intro hp hq c hc;rcases List.mem_cons.1 hc with rfl | hc
  ·exact⟨w0,hq q (by simp)⟩
  ·exact ih hp (fun o ho=>hq o (List.mem_cons_of_mem _ ho)) c hc
 |both p ps q qs n l hpk hqk hn g ih=>
  intro hp hq c hc;rcases List.mem_cons.1 hc with rfl | hc
  ·exact⟨cT (hp p (by simp)) n,cT (hq q (by simp)) n⟩
  ·exact ih (dI hp n) (dI hq n) c hc
def Sq:Nat→T→Prop
 |0,_=>True
 |f+1,t=>t.words.length≤400000∧t.kids.length≤400000∧∀ k,k ∈ t.kids→Sq f k
theorem sx:∀ f,Sq f T0
 |0=>trivial
 |f+1=>⟨by simp,by simp,fun k hk=>by simp at hk⟩
theorem Jc {f:Nat} {t:T} (h:Sq (f+1) t) (i:Nat):Sq f (t.kids.getD i T0):=by
 rw[List.getD_eq_getElem?_getD];cases e:t.kids[i]? with
 |none=>exact sx f
 |some z=>exact h.2.2 z (List.mem_of_getElem? e)
theorem MM:∀ (f:Nat) (t:T),Sq f t→Sz f t
 |0,_,_=>trivial
 |f+1,t,h=>⟨by have:=h.1;omega,by have:=h.2.1;omega,fun k hk=>MM f k (h.2.2 k hk)⟩
theorem VI:∀ (f:Nat) (t:T),DG t≤100000→Sq f t
 |0,t,_=>trivial
 |f+1,t,h=>by
  obtain⟨k,w,l⟩:=t;rw[Z7] at h;have hl:=Re l;exact⟨by show w.length≤400000;omega,by show l.length≤400000;omega,fun x hx=>VI f x (by have:=XN (show x ∈ l from hx);omega)⟩
theorem Rq {f:Nat} {e:E} {a b:T} (hw:J2 e) (ha:AD a) (hb:AD b) (sa:Sq f a) (sb:Sq f b) (h:Ld f e a b):Wn e a∧Ea e a=Af b:=by
 obtain⟨u,h1,h2⟩:=YP f e a b hw ha hb (MM f a sa) (MM f b sb) h;have e1:Ea e a=Af u:=by rw[Oq h,h2]
 refine⟨⟨?_,?_,?_⟩,Oq h⟩
 ·rw[e1];exact ZZ (II h1)
 ·rw[e1];exact B9 u h1.1
 ·rw[e1,Dr]
theorem S9 {f:Nat} {at':Cw} {o:T} {p q:E} (hp:Wn p o) (hq:Wn q o) (wo:AD o) (hat:at'.length≤900000) (h2:¬ (p.kind=2∧q.kind=2)) (h3:¬ (p.kind=3∧q.kind=3)) (hm:mg f at' o p q=Su at' o p q):∃ u,de f at' o p q u:=by
 have D1:=hp.1;have D2:=hq.1;by_cases k0:p.kind=0
 ·have e:mg f at' o p q=(Ea q o,[]):=by rw[hm,Su,if_pos k0]
  refine⟨Ea q o,hq.2.1,by rw[e,hq.2.2],fun v w C hC=>?_⟩;rw[e];refine BL BU (by simp) (Ai AX (Ai BZ (Ai (Bl o) (Ai (B6 p) (Ai (B6 q) Av))))) (Bl _) fun w0 I0 M0 m0=>?_;unfold Br;simp[k0];refine Ae D2 (by simp) ?_;simp[Aa];exact A6 (r0:=tX (Ea q o)) (by simp[EC]) rfl (fun p=>by simp[Aa])
 by_cases q0:q.kind=0
 ·have e:mg f at' o p q=(Ea p o,[]):=by rw[hm,Su,if_neg k0,if_pos q0]
  refine⟨Ea p o,hp.2.1,by rw[e,hp.2.2],fun v w C hC=>?_⟩;rw[e];refine BL BU (by simp) (Ai AX (Ai BZ (Ai (Bl o) (Ai (B6 p) (Ai (B6 q) Av))))) (Bl _) fun w0 I0 M0 m0=>?_;unfold Br;simp[k0,q0];refine Ae D1 (by simp) ?_;simp[Aa];exact A6 (r0:=tX (Ea p o)) (by simp[EC]) rfl (fun p=>by simp[Aa])
 have E:=I3 hp.2.1 hq.2.1;by_cases c:Ea p o=Ea q o
 ·have e:mg f at' o p q=(Ea p o,[]):=by rw[hm,Su,if_neg k0,if_neg q0,if_pos c]
  rw[eqT_iff.2 (by rw[c])] at E;refine⟨Ea p o,hp.2.1,by rw[e,hp.2.2],fun v w C hC=>?_⟩;rw[e];refine BL BU (by simp) (Ai AX (Ai BZ (Ai (Bl o) (Ai (B6 p) (Ai (B6 q) Av))))) (Bl _) fun w0 I0 M0 m0=>?_;unfold Br;by_cases p2:p.kind=2
  ·have q2:¬ q.kind=2:=fun h=>h2 ⟨p2,h⟩;obtain⟨kp,op,np,wp,ksp,lp,osp⟩:=p;have p2:kp=2:=p2;subst p2;simp[q0,q2];refine Ae D1 (by simp) ?_;simp[Aa];refine Ae D2 (by simp) ?_;simp[Aa];refine Ae E (by simp) ?_;simp[Aa];exact A6 (r0:=tX (Ea (.mk 2 op np wp ksp lp osp) o)) (by simp[EC]) rfl (fun p=>by simp[Aa])
  ·by_cases p3:p.kind=3
   ·have q3:¬ q.kind=3:=fun h=>h3 ⟨p3,h⟩;obtain⟨kp,op,np,wp,ksp,lp,osp⟩:=p;have p3:kp=3:=p3;subst p3;simp[q0,q3];refine Ae D1 (by simp) ?_;simp[Aa];refine Ae D2 (by simp) ?_;simp[Aa];refine Ae E (by simp) ?_;simp[Aa];exact A6 (r0:=tX (Ea (.mk 3 op np wp ksp lp osp) o)) (by simp[EC]) rfl (fun p=>by simp[Aa])
   ·simp[k0,p2,p3,q0];refine Ae D1 (by simp) ?_;simp[Aa];refine Ae D2 (by simp) ?_;simp[Aa];refine Ae E (by simp) ?_;simp[Aa];exact A6 (r0:=tX (Ea p o)) (by simp[EC]) rfl (fun p=>by simp[Aa])
 ·have e:mg f at' o p q=(Af o,[⟨at',Af o,Ea p o,Ea q o⟩]):=by rw[hm,Su,if_neg k0,if_neg q0,if_neg c]
  have ef:G9 (Ea p o) (Ea q o)=false:=by
   cases h:G9 (Ea p o) (Ea q o) with
   |false=>rfl
   |true=>
    have:=eqT_iff.1 h;rw[hp.2.2,hq.2.2] at this;exact absurd this c
  rw[ef] at E;refine⟨o,wo,by rw[e],fun v w C hC=>?_⟩;rw[e] at hC ⊢;have CL:=Mg (l:=at') (b:=o) (o:=Ea p o) (t:=Ea q o) (by omega) wo hp.2.1 hq.2.1 v w (C:=C) (by simp at hC;omega);rw[hp.2.2,hq.2.2] at CL;refine BL BU (by simp) (Ai AX (Ai BZ (Ai (Bl o) (Ai (B6 p) (Ai (B6 q) Av))))) (Bl _) fun w0 I0 M0 m0=>?_;unfold Br;by_cases p2:p.kind=2
  ·have q2:¬ q.kind=2:=fun h=>h2 ⟨p2,h⟩;obtain⟨kp,op,np,wp,ksp,lp,osp⟩:=p;have p2:kp=2:=p2;subst p2;simp[q0,q2];refine Ae D1 (by simp) ?_;simp[Aa];refine Ae D2 (by simp) ?_;simp[Aa];refine Ae E (by simp) ?_;simp[Aa];refine Bp 0 CL (fun p=>by simp[Aa]) (by simp) (by simp) ?_;simp[Aa];exact A6 (r0:=tX o) (by simp[EC]) rfl (fun p=>by simp[Aa])
  ·by_cases p3:p.kind=3
   ·have q3:¬ q.kind=3:=fun h=>h3 ⟨p3,h⟩;obtain⟨kp,op,np,wp,ksp,lp,osp⟩:=p;have p3:kp=3:=p3;subst p3;simp[q0,q3];refine Ae D1 (by simp) ?_;simp[Aa];refine Ae D2 (by simp) ?_;simp[Aa];refine Ae E (by simp) ?_;simp[Aa];refine Bp 0 CL (fun p=>by simp[Aa]) (by simp) (by simp) ?_;simp[Aa];exact A6 (r0:=tX o) (by simp[EC]) rfl (fun p=>by simp[Aa])
   ·simp[k0,p2,p3,q0];refine Ae D1 (by simp) ?_;simp[Aa];refine Ae D2 (by simp) ?_;simp[Aa];refine Ae E (by simp) ?_;simp[Aa];refine Bp 0 CL (fun p=>by simp[Aa]) (by simp) (by simp) ?_;simp[Aa];exact A6 (r0:=tX o) (by simp[EC]) rfl (fun p=>by simp[Aa])
theorem cK {at':Cw} {o:T} {p q:E} {u:T} (hp:p.kind=2) (hq:q.kind=2) {v w:Nat} {C C':List Cf} (S:SpecF Tryz.prog 55 (fun r=>[.pob [r] v 0,A8 at',tX o,eX p,eX q]) (LY v w C) (fun _=>tX u) (LY v w C')) :
  SpecF Tryz.prog 34 (fun r=>[.pob [r] v 0,A8 at',tX o,eX p,eX q]) (LY v w C) (fun _=>tX u) (LY v w C'):=by
 refine BL BU (by simp) (Ai AX (Ai BZ (Ai (Bl o) (Ai (B6 p) (Ai (B6 q) Av))))) (Bl _) fun w0 I0 M0 m0=>?_;obtain⟨kp,op,np,wp,ksp,lp,osp⟩:=p;obtain⟨kq,oq,nq,wq,ksq,lq,osq⟩:=q;have hp:kp=2:=hp;have hq:kq=2:=hq;subst hp;subst hq;unfold Br;simp;refine Bp 0 S (fun p=>by simp[Aa]) (by simp) (by simp) ?_;simp[Aa];exact A6 (r0:=tX u) (by simp[EC]) rfl (fun p=>by simp[Aa])
theorem ZC {at':Cw} {o:T} {p q:E} {u:T} (hp:p.kind=3) (hq:q.kind=3) {v w:Nat} {C C':List Cf} (S:SpecF Tryz.prog 56 (fun r=>[.pob [r] v 0,A8 at',tX o,eX p,eX q]) (LY v w C) (fun _=>tX u) (LY v w C')) :
  SpecF Tryz.prog 34 (fun r=>[.pob [r] v 0,A8 at',tX o,eX p,eX q]) (LY v w C) (fun _=>tX u) (LY v w C'):=by
 refine BL BU (by simp) (Ai AX (Ai BZ (Ai (Bl o) (Ai (B6 p) (Ai (B6 q) Av))))) (Bl _) fun w0 I0 M0 m0=>?_;obtain⟨kp,op,np,wp,ksp,lp,osp⟩:=p;obtain⟨kq,oq,nq,wq,ksq,lq,osq⟩:=q;have hp:kp=3:=hp;have hq:kq=3:=hq;subst hp;subst hq;unfold Br;simp;refine Bp 0 S (fun p=>by simp[Aa]) (by simp) (by simp) ?_;simp[Aa];exact A6 (r0:=tX u) (by simp[EC]) rfl (fun p=>by simp[Aa])
def Wi (f:Nat) (e:E) (x y:T):Prop:=Ld f e x y∧J2 e∧AD x∧AD y∧Sq f x∧Sq f y
theorem Ub {f:Nat} {k:T} (w:AD k) (s:Sq f k):Wi f E0 k k:=⟨Hn (.inl ⟨rfl,rfl⟩),IH,w,w,s,s⟩
def rB (f:Nat) (e:E) (x y:T):Prop:=∃ z,Ld f e x z∧AD z∧Sq f z
theorem P1 {a b:List Int} {p:Nat} {ws:List WE} (h:Kb a b p ws):ws.length+p≤max p (max a.length b.length):=by
 induction h with
 |nil p h=>simp;omega
 |cons p i m o n ws hp h hi hm ho hn h1 h2 _ ih=>
  rw[List.length_cons];omega
theorem eO:∀ (f:Nat) (p q:E) (o x y:T),Wi f p o x→Wi f q o y→∀ at':Cw,at'.length+f≤800000→∃ u,de f at' o p q u:=by
 intro f;induction f with
 |zero=>
  intro p q o x y hp hq at' hat;have D1:=(Rq hp.2.1 hp.2.2.1 hp.2.2.2.1 hp.2.2.2.2.1 hp.2.2.2.2.2 hp.1).1;have D2:=(Rq hq.2.1 hq.2.2.1 hq.2.2.2.1 hq.2.2.2.2.1 hq.2.2.2.2.2 hq.1).1;have k1:p.kind=0∨p.kind=1:=by
   rcases hp.1 with ⟨rfl,_⟩ | ⟨_,_,rfl,_⟩
   ·exact .inl rfl
   ·exact .inr rfl
  exact S9 D1 D2 hp.2.2.1 (by omega) (fun h=>by omega) (fun h=>by omega) rfl
 |succ f ih=>
  intro p q o x y hp hq at' hat;have D1:=(Rq hp.2.1 hp.2.2.1 hp.2.2.2.1 hp.2.2.2.2.1 hp.2.2.2.2.2 hp.1).1;have D2:=(Rq hq.2.1 hq.2.2.1 hq.2.2.2.1 hq.2.2.2.2.1 hq.2.2.2.2.2 hq.1).1;by_cases k2:p.kind=2∧q.kind=2
  ·obtain⟨hp1,hp2,hp3,hp4,hp5,hp6⟩:=hp;obtain⟨hq1,hq2,hq3,hq4,hq5,hq6⟩:=hq;rcases hp1 with h | ⟨ws,ks,rfl,h1,h2,h3,h4⟩ | ⟨os,rfl,h1,h2,hv,h3⟩
   ·rcases h with ⟨rfl,_⟩ | ⟨_,_,rfl,_⟩<;>exact absurd k2.1 (by simp)
   rotate_left
   ·exact absurd k2.1 (by simp)
   rcases hq1 with g | ⟨ws',ks',rfl,g1,g2,g3,g4⟩ | ⟨os',rfl,g1,g2,gv,g3⟩
   ·rcases g with ⟨rfl,_⟩ | ⟨_,_,rfl,_⟩<;>exact absurd k2.2 (by simp)
   rotate_left
   ·exact absurd k2.2 (by simp)
   have P:=wfE_iff.1 hp2;have Q:=wfE_iff.1 hq2;have pwl:ws.length*32≤140737488355328:=P.wl;have pkl:ks.length*208≤140737488355328:=P.kl;have qwl:ws'.length*32≤140737488355328:=Q.wl;have qkl:ks'.length*208≤140737488355328:=Q.kl;have lw:=P1 h3;have lw':=P1 g3;have s1:=hp5.1;have s2:=hp5.2.1;have s3:=hp6.1;have s4:=hp6.2.1;have s5:=hq6.1;have s6:=hq6.2.1;have hk:∀ i:Nat,∃ u,de f (at'++[(0,(i:Int))]) (o.kids.getD i T0) (CR ks i) (CR ks' i) u:=fun i=>by
    have a1:Ld f (CR ks i) (o.kids.getD i T0) (x.kids.getD i T0):=OB (fun x y h=>Hn (.inl ⟨rfl,h⟩)) h4 i (Nat.zero_le _);have a2:Ld f (CR ks' i) (o.kids.getD i T0) (y.kids.getD i T0):=OB (fun x y h=>Hn (.inl ⟨rfl,h⟩)) g4 i (Nat.zero_le _);exact ih _ _ _ _ _ ⟨a1,OM IH (fun x h=>(P.ks x h).2) i,DE hp3 i,DE hp4 i,Jc hp5 i,Jc hp6 i⟩ ⟨a2,OM IH (fun x h=>(Q.ks x h).2) i,DE hp3 i,DE hq4 i,Jc hp5 i,Jc hq6 i⟩ _ (by rw[List.length_append];simp;omega)
   obtain⟨u,u1,u2,u3⟩:=Y8 (f:=f) (at':=at') (by omega) hp3 (p:=.mk 2 T0 T0 ws ks 0 []) (q:=.mk 2 T0 T0 ws' ks' 0 []) h3 g3 h4 g4 (by omega) (by omega) (by omega) ⟨by show ws.length≤_;omega,by show ks.length≤_;omega⟩ ⟨by show ws'.length≤_;omega,by show ks'.length≤_;omega⟩ hk;have em:mg (f+1) at' o (.mk 2 T0 T0 ws ks 0 []) (.mk 2 T0 T0 ws' ks' 0 [])=Uq (mg f) at' o (.mk 2 T0 T0 ws ks 0 []) (.mk 2 T0 T0 ws' ks' 0 []):=by rw[mg,if_pos ⟨rfl,rfl⟩]
   refine⟨u,u1,by rw[em];exact u2,fun v w C hC=>?_⟩;rw[em] at hC ⊢;exact cK rfl rfl (u3 v w C hC)
  ·by_cases k3:p.kind=3∧q.kind=3
   ·obtain⟨hp1,hp2,hp3,hp4,hp5,hp6⟩:=hp;obtain⟨hq1,hq2,hq3,hq4,hq5,hq6⟩:=hq;rcases hp1 with h | ⟨ws,ks,rfl,h1,h2,h3,h4⟩ | ⟨os,rfl,h1,h2,hv,h3⟩
    ·rcases h with ⟨rfl,_⟩ | ⟨_,_,rfl,_⟩<;>exact absurd k3.1 (by simp)
    ·exact absurd k3.1 (by simp)
    rcases hq1 with g | ⟨ws',ks',rfl,g1,g2,g3,g4⟩ | ⟨os',rfl,g1,g2,gv,g3⟩
    ·rcases g with ⟨rfl,_⟩ | ⟨_,_,rfl,_⟩<;>exact absurd k3.2 (by simp)
    ·exact absurd k3.2 (by simp)
    have P:=wfE_iff.1 hp2;have Q:=wfE_iff.1 hq2;have O:=wfT_iff.1 hp3;have X:=wfT_iff.1 hp4;have Y:=wfT_iff.1 hq4;have s2:=hp5.2.1;have s4:=hp6.2.1;have s6:=hq6.2.1;have h3':LdO (rB f) os o.kids x.kids:=Uw h3 fun e a b ha hb r=>⟨b,r,X.ks b hb,hp6.2.2 b hb⟩;have g3':LdO (rB f) os' o.kids y.kids:=Uw g3 fun e a b ha hb r=>⟨b,r,Y.ks b hb,hq6.2.2 b hb⟩;obtain⟨f1,f2,f3⟩:=K7 h3;obtain⟨e1,e2,e3⟩:=K7 g3;obtain⟨l,t1,t2,t3,t4⟩:=lM (os.length+os'.length+2*o.kids.length) os os' o.kids x.kids y.kids h3' g3' (f3 (by omega) (by omega)) (e3 (by omega) (by omega)) (Ei _);have hW:=w9 t1 (fun o ho=>⟨(P.os o ho).l,(P.os o ho).e⟩) (fun o ho=>⟨(Q.os o ho).l,(Q.os o ho).e⟩);have hI:=jr t1;have hR:∀ (i:Nat) (h:i<o.kids.length) (o1 o2:OP),.both o1 o2 ∈ l→RG (rB f) o1 o.kids[i]→RG (rB f) o2 o.kids[i]→((o1.kind=0∧o1.e=E0)∨(o1.kind=1∧o1.e=E0)∨(o1.kind=3∧Wn o1.e o.kids[i]))∧((o2.kind=0∧o2.e=E0)∨(o2.kind=1∧o2.e=E0)∨(o2.kind=3∧Wn o2.e o.kids[i]))∧∃ u,de f (at'++[(0,(i:Int))]) o.kids[i] o1.e o2.e u:=fun i hi o1 o2 hm a1 a2=>by
     have wk:AD o.kids[i]:=O.ks _ (BD hi);have sk:Sq f o.kids[i]:=hp5.2.2 _ (BD hi);have W:=hW _ hm;have one:∀ oo:OP,dS oo→RG (rB f) oo o.kids[i]→((oo.kind=0∧oo.e=E0)∨(oo.kind=1∧oo.e=E0)∨(oo.kind=3∧Wn oo.e o.kids[i]))∧∃ z,Wi f oo.e o.kids[i] z:=fun oo w a=>by
      rcases a with ⟨k0,e0⟩ | ⟨k0,e0⟩ | ⟨k0,x',z,hz1,hz2,hz3⟩
      ·exact⟨.inl ⟨k0,e0⟩,o.kids[i],by rw[e0];exact Ub wk sk⟩
      ·exact⟨.inr (.inl ⟨k0,e0⟩),o.kids[i],by rw[e0];exact Ub wk sk⟩
      ·exact⟨.inr (.inr ⟨k0,(Rq w.2 wk hz2 sk hz3 hz1).1⟩),z,hz1,w.2,wk,hz2,sk,hz3⟩
     obtain⟨r1,z1,q1⟩:=one o1 W.1 a1;obtain⟨r2,z2,q2⟩:=one o2 W.2 a2;exact⟨r1,r2,ih _ _ _ _ _ q1 q2 _ (by rw[List.length_append];simp;omega)⟩
    have t4':=t4 (mg f) at' o.kind [] [] 0;simp only[List.map_nil,List.nil_append] at t4';obtain⟨us,u1,u2,u3,u4⟩:=Wh (f:=f) (at':=at') (by omega) hp3 (by omega) (R:=rB f) (p:=.mk 3 T0 T0 [] [] o.kind os) (q:=.mk 3 T0 T0 [] [] o.kind os') t1 (f3 (by omega) (by omega)) (e3 (by omega) (by omega)) (by show os.length≤_;omega) (by show os'.length≤_;omega) (by omega) t3 (by omega) t4' (fun oo h=>by
     rcases h with h | h
     ·exact(hW _ h).1.1
     ·exact(hW _ h).2.1) hR
    have em:mg (f+1) at' o (.mk 3 T0 T0 [] [] o.kind os) (.mk 3 T0 T0 [] [] o.kind os')=(Af (.mk o.kind [] (Hj (mg f) at' o.kind o.kids (En os) (En os') 0).1),(Hj (mg f) at' o.kind o.kids (En os) (En os') 0).2):=by rw[mg,if_neg (by simp),if_pos ⟨rfl,rfl⟩];rfl
    refine⟨.mk o.kind [] us,wfT_iff.2 ⟨O.k,by simp,by simp,by show us.length*56≤_;omega,u1⟩,?_,fun v w C hC=>?_⟩
    ·rw[em];refine(Jb (by omega) (by omega)).2 ⟨rfl,?_⟩;have u3':us.map Af=(Hj (mg f) at' o.kind o.kids (En os) (En os') 0).1:=u3;rw[← u3',Sw]
    ·rw[em] at hC ⊢;exact ZC rfl rfl (u4 v w C hC)
   ·have hm:mg (f+1) at' o p q=Su at' o p q:=by rw[mg,if_neg k2,if_neg k3]
    exact S9 D1 D2 hp.2.2.1 (by omega) k2 k3 hm
end Go.Proofs.YtlaapfplenlfaaaGreat
namespace Go.G
open Go
theorem SpecH.soft {P:Program} {f:FuncId} {k:Nat} {as' as2:List A} {Hc Hr:Hp} {r:A} (h:SpecH P f k as2 Hc r Hr) (e:A.softL as'=as2):SpecH P f k as' Hc r Hr:=by
 subst e;refine⟨h.1,fun w I M0 n μ vs hM hs hl ha=>h.2 w I M0 n μ vs hM hs (by simpa[Bd] using hl) fun k y hk=>?_⟩;rw[Bd,List.getElem?_map,Option.map_eq_some_iff] at hk;obtain⟨y',hy,rfl⟩:=hk;exact(ha k y' hy).soft
theorem SpecF.soft {P:Program} {f:FuncId} {as' as2:Nat→List A} {F F':Fam} {x:Nat→A} (h:SpecF P f as2 F x F') (fa:FamL as') (e:A.softL (as' 0)=as2 0):SpecF P f as' F x F':=
 ⟨fa,h.fx,h.h.soft e⟩
end Go.G
namespace Go.Proofs.YtlaapfplenlfaaaGreat
open Go Go.G Go.Proofs Go.PL
theorem Tt {H:Hp} {o:Nm} {u n:Nat} {l:List Cf} (h:vr (H o) u=some (10,l.map RV)) (hn:n=l.length):Gy H (.osl o u 10 0 n) (G5 l):=
 A3 h hn fun x=>by simp[RV]
theorem OK {f:Nat} {p q:E} {o x y:T} (hp:Wi f p o x) (hq:Wi f q o y) (hf:f≤800000) (hc:(mg f [] o p q).2.length≤100000000000):G.Spec Tryz.prog 14 [tX o,eX p,eX q] (.tup [tX (mg f [] o p q).1,G5 (mg f [] o p q).2,bv true]):=by
 obtain⟨u,u1,u2,u3⟩:=eO f p q o x y hp hq [] (by simpa using hf);obtain⟨x',x1,x2⟩:=YP f p o x hp.2.1 hp.2.2.1 hp.2.2.2.1 (MM f o hp.2.2.2.2.1) (MM f x hp.2.2.2.2.2) hp.1;obtain⟨y',y1,y2⟩:=YP f q o y hq.2.1 hq.2.2.1 hq.2.2.2.1 (MM f o hq.2.2.2.2.1) (MM f y hq.2.2.2.2.2) hq.1;have A1:=II x1;have A2:=II y1;have S:=u3 1 1 [] (by simpa using hc);have S':SpecF Tryz.prog 34 (fun r=>[.pob [r] 1 0,.sl true [],tX o,eX p,eX q]) (LY 1 1 []) (fun _=>tX u) (LY 1 1 (mg f [] o p q).2):=S.soft (Ai AX (Ai BZ (Ai (Bl o) (Ai (B6 p) (Ai (B6 q) Av))))) (by simp[A.softL,A.soft,FK,D3,MD,QC,Rj]);have N:=CB u u1;rw[u2] at N;generalize mg f [] o p q=M at *;refine Ag LK (by simp) fun w0 I0=>?_;unfold IQ;simp;refine Ae A1 (by simp) ?_;simp[Aa];refine Ae A2 (by simp) ?_;simp[Aa];refine JB (Bc (d:=[6]) (u:=1) (cs:=[.sl true []]) 0 [6,0] 10 (by simp) rfl (by simp)) (Ff ?_);simp[Aa];refine Bp 6 S' (fun p=>?_) (by simp) (by simp) ?_
 ·by_cases p1:p=[]
  ·subst p1;simp[Aa]
  ·by_cases p2:p=[0]
   ·subst p2;simp[Aa]
   ·simp[Aa,p1,p2,Ga,Ne.symm p1,Ne.symm p2]
 simp[Aa];refine Ae N (by simp) ?_;simp[Aa];refine An ⟨Ad (by simp),Tt ?_ rfl,Ad rfl,trivial⟩;simp[Aa]
mutual
def E7:E→Nat
 |.mk _ _ _ ws ks _ os=>1+ws.length+bZ ks+gm os
def bZ:List KE→Nat
 |[]=>0
 |.mk _ e::l=>E7 e+bZ l
def gm:List OP→Nat
 |[]=>0
 |.mk k _ t e::l=>(if k=0 then 0 else if k=1∨k=2 then t.length else E7 e)+gm l
end
theorem Yw (k:Int) (o n:T) (ws:List WE) (ks:List KE) (l:Int) (os:List OP):E7 (.mk k o n ws ks l os)=1+ws.length+bZ ks+gm os:=by rw[E7]
@[simp] theorem x6:bZ []=0:=by rw[bZ]
theorem Vf (x:KE) (l:List KE):bZ (x::l)=E7 x.e+bZ l:=by cases x;rw[bZ];rfl
@[simp] theorem yK:gm []=0:=by rw[gm]
theorem Vy (x:OP) (l:List OP):gm (x::l)=(if x.kind=0 then 0 else if x.kind=1∨x.kind=2 then x.l.length else E7 x.e)+gm l:=by cases x;rw[gm];rfl
theorem bx (e:E):1≤E7 e:=by
 cases e;rw[Yw];omega
theorem XZ {α:Type} (at_:α→Int) (G:α→Nat) (k:α):∀ m:Nat,((List.range m).map fun i:Nat=>if at_ k=(i:Int) then G k else 0).sum≤G k
 |0=>by simp
 |m+1=>by
  have ih:=XZ at_ G k m;rw[List.range_succ,List.map_append,List.sum_append];by_cases h:at_ k=(m:Int)
  ·have z:((List.range m).map fun i:Nat=>if at_ k=(i:Int) then G k else 0).sum=0:=by
    refine List.sum_eq_zero_iff_forall_eq_nat.2 fun x hx=>?_;obtain⟨i,hi,rfl⟩:=List.mem_map.1 hx;have:=List.mem_range.1 hi;rw[if_neg (by omega)]
   rw[z];simp[h]
  ·simp[h];exact ih
def gF {α:Type} (at_:α→Int) (G:α→Nat) (ks:List α) (i:Nat):Nat:=match ks.find? (fun k=>decide (at_ k=(i:Int))) with
 |some k=>G k
 |none=>0
theorem gT {α:Type} (at_:α→Int) (G:α→Nat) (k:α) (ks:List α) (i:Nat):gF at_ G (k::ks) i≤(if at_ k=(i:Int) then G k else 0)+gF at_ G ks i:=by
 by_cases c:at_ k=(i:Int)
 ·have:gF at_ G (k::ks) i=G k:=by unfold gF;rw[List.find?_cons,decide_eq_true c]
  rw[this,if_pos c];omega
 ·have:gF at_ G (k::ks) i=gF at_ G ks i:=by unfold gF;rw[List.find?_cons,decide_eq_false c]
  rw[this,if_neg c];omega
theorem Q3 {α:Type} (at_:α→Int) (G:α→Nat) (m:Nat):∀ ks:List α,((List.range m).map (gF at_ G ks)).sum≤(ks.map G).sum
 |[]=>by
  refine Nat.le_of_eq (List.sum_eq_zero_iff_forall_eq_nat.2 fun x hx=>?_);obtain⟨i,_,rfl⟩:=List.mem_map.1 hx;rfl
 |k::ks=>by
  have ih:=Q3 at_ G m ks;have h1:=XZ at_ G k m;have key:∀ l:List Nat,(l.map (gF at_ G (k::ks))).sum≤(l.map fun i:Nat=>if at_ k=(i:Int) then G k else 0).sum+(l.map (gF at_ G ks)).sum:=by
   intro l;induction l with
   |nil=>simp
   |cons i l ihl=>
    have:=gT at_ G k ks i;simp only[List.map_cons,List.sum_cons];omega
  have:=key (List.range m);rw[List.map_cons,List.sum_cons];omega
theorem Mp {α:Type} (L:Nat→List α) (g:Nat→Nat) (h:∀ i,(L i).length≤g i):∀ l:List Nat,(l.flatMap L).length≤(l.map g).sum
 |[]=>by simp
 |i::l=>by
  have:=Mp L g h l;have:=h i;rw[List.flatMap_cons,List.length_append,List.map_cons,List.sum_cons];omega
theorem W2 (k:Int):Fu 0 k=0:=by
 show IntKind.u8.wrap ((BitVec.ofInt 8 0 &&& BitVec.ofInt 8 k).toNat:Nat)=0;simp;rfl
theorem bT (at':Cw) (i:Nat) (w:Int) (b:WE):IX at' i w dW b=[]:=by
 unfold IX;rw[if_neg];unfold Ln;rw[W2,Nl ⟨by decide,by decide⟩,Nl ⟨by decide,by decide⟩];simp
theorem l9 (at':Cw) (i:Nat) (w:Int) (a b:WE):(IX at' i w a b).length≤1:=by
 unfold IX;split<;>simp
theorem UU (ws:List WE):(ws.map fun _=>1).sum=ws.length:=by induction ws<;>simp_all [Nat.add_comm]
theorem cw (at':Cw) (o:List Int) (ps qs:List WE) (n:Nat):((List.range n).flatMap fun i:Nat=>IX at' i (o.getD i 0) (B8 ps i) (B8 qs i)).length≤ps.length:=by
 have h1:=Mp (fun i:Nat=>IX at' i (o.getD i 0) (B8 ps i) (B8 qs i)) (gF (fun k:WE=>k.at_) (fun _=>1) ps) (fun i=>by
  unfold gF;cases e:ps.find? (fun k=>decide (k.at_=(i:Int))) with
  |none=>
   have:B8 ps i=dW:=by unfold B8;rw[e];rfl
   simp only[this,bT];simp
  |some k=>exact l9 _ _ _ _ _) (List.range n)
 have h2:=Q3 (fun k:WE=>k.at_) (fun _=>1) n ps;rw[UU] at h2;exact Nat.le_trans h1 h2
theorem Yy:∀ ks:List KE,(ks.map fun k=>E7 k.e).sum=bZ ks
 |[]=>by simp
 |k::ks=>by rw[List.map_cons,List.sum_cons,Yy ks,Vf]
theorem il {M:Cw→T→E→E→T × List Cf} (hM:∀ at' o p q,(M at' o p q).2.length≤E7 p) (h0:∀ at' o q,(M at' o E0 q).2=[]) (at':Nat→Cw) (o:Nat→T) (ps:List KE) (q:Nat→E) (n:Nat):((List.range n).flatMap fun i:Nat=>(M (at' i) (o i) (CR ps i) (q i)).2).length≤bZ ps:=by
 have h1:=Mp (fun i:Nat=>(M (at' i) (o i) (CR ps i) (q i)).2) (gF (fun k:KE=>k.at_) (fun k=>E7 k.e) ps) (fun i=>by
  unfold gF;cases e:ps.find? (fun k=>decide (k.at_=(i:Int))) with
  |none=>
   have:CR ps i=E0:=by unfold CR;rw[e];rfl
   simp only[this,h0];simp
  |some k=>
   have:CR ps i=k.e:=by unfold CR;rw[e];rfl
   simp only[this];exact hM _ _ _ _) (List.range n)
 have h2:=Q3 (fun k:KE=>k.at_) (fun k=>E7 k.e) n ps;rw[Yy] at h2;exact Nat.le_trans h1 h2
def cU:U→Nat
 |.keep=>0
 |.del _=>1
 |.ins _=>1
 |.desc e=>E7 e
def QA (us:List U):Nat:=(us.map cU).sum
theorem Nr (u:U) (us:List U):QA (u::us)=cU u+QA us:=by simp[QA]
theorem TG:∀ us:List U,QA us=(Ey us).length+QA (Dy us)
 |[]=>rfl
 |.ins t::us=>by rw[Nr,Ey,Dy,TG us,List.length_cons,cU];omega
 |.keep::us=>by simp[Ey,Dy]
 |.del t::us=>by simp[Ey,Dy]
 |.desc e::us=>by simp[Ey,Dy]
theorem X8 (at':Cw) (kind:Int) (n:Nat) (a b:List T):(Eb at' kind n a b).2.length≤a.length:=by
 unfold Eb;split
 ·simp
 ·rename_i h;have:0<a.length:=List.length_pos_iff.2 fun e=>h (.inl e);split<;>simp<;>omega
theorem ct {M:Cw→T→E→E→T × List Cf} (hM:∀ at' o p q,(M at' o p q).2.length≤E7 p) (h0:∀ at' o q,(M at' o E0 q).2=[]) (at':Cw) (k:T) (u v:U):(Bz M at' k u v).2.length≤cU u:=by
 cases u<;>cases v<;>simp[Bz,cU,eU,h0,hM,bx]
theorem uX (us:List U):cU (Wm us)+QA us.tail≤QA us:=by
 cases us with
 |nil=>simp[Wm,cU,QA]
 |cons u us=>rw[Nr];simp[Wm]
theorem bE {M:Cw→T→E→E→T × List Cf} (hM:∀ at' o p q,(M at' o p q).2.length≤E7 p) (h0:∀ at' o q,(M at' o E0 q).2=[]) (at':Cw) (kind:Int):∀ (ks:List T) (us vs:List U) (n:Nat),(Hj M at' kind ks us vs n).2.length≤QA us
 |[],us,vs,n=>by
  have:=X8 at' kind n (Ey us) (Ey vs);have:=TG us;rw[Hj];omega
 |k::ks,us,vs,n=>by
  have h1:=X8 at' kind n (Ey us) (Ey vs);have h2:=TG us;have h3:=ct hM h0 (at'++[(0,(n:Int))]) k (Wm (Dy us)) (Wm (Dy vs));have h4:=bE hM h0 at' kind ks (Dy us).tail (Dy vs).tail (n+1);have h5:=uX (Dy us);simp only[Hj,List.length_append];omega
theorem iG (a b:List U):QA (a++b)=QA a+QA b:=by simp[QA]
theorem XX:∀ os:List OP,QA (En os)≤gm os
 |[]=>by simp[En,QA]
 |o::os=>by
  have ih:=XX os;have rep:∀ n,QA (List.replicate n U.keep)=0:=fun n=>by simp[QA,cU]
  have m1:∀ l:List T,QA (l.map .del)=l.length:=fun l=>by
   induction l with
   |nil=>simp[QA]
   |cons x l ih=>rw[List.map_cons,Nr,ih,cU,List.length_cons];omega
  have m2:∀ l:List T,QA (l.map .ins)=l.length:=fun l=>by
   induction l with
   |nil=>simp[QA]
   |cons x l ih=>rw[List.map_cons,Nr,ih,cU,List.length_cons];omega
  rw[CA,iG,Vy];unfold Ja;split
  ·rw[rep];omega
  ·split
   ·rename_i h;rw[m1,if_pos (.inl h)];omega
   ·split
    ·rename_i h;rw[m2,if_pos (.inr h)];omega
    ·rename_i h1 h2;have:QA [.desc o.e]=E7 o.e:=by simp[QA,cU]
     rw[this,if_neg (by omega)];omega
theorem sc:∀ (f:Nat) (at':Cw) (o:T) (p q:E),(mg f at' o p q).2.length≤E7 p:=by
 have base:∀ (at':Cw) (o:T) (p q:E),(Su at' o p q).2.length≤E7 p:=fun at' o p q=>by
  have:=bx p;unfold Su;split
  ·simp
  ·split
   ·simp
   ·split
    ·simp
    ·simpa using this
 intro f;induction f with
 |zero=>exact base
 |succ f ih=>
  intro at' o p q;have h0:∀ at' o q,(mg f at' o E0 q).2=[]:=fun at' o q=>by rw[jG rfl]
  obtain⟨k,oo,nn,ws,ks,l,os⟩:=p;rw[mg];split
  ·rw[Yw];have h1:=cw at' o.words ws q.words (Bu (Bu o.words.length ws) q.words);have h2:=il ih h0 (fun i=>at'++[(0,(i:Int))]) (fun i=>o.kids.getD i T0) ks (fun i=>CR q.kids i) (Bf (Bf o.kids.length ks) q.kids);unfold Uq;simp only[E.words_mk,E.kids_mk,List.length_append];omega
  ·split
   ·rw[Yw];have h1:=bE ih h0 at' o.kind o.kids (En os) (En q.ops) 0;have h2:=XX os;simp only[E.ops_mk];omega
   ·exact base _ _ _ _
end Go.Proofs.YtlaapfplenlfaaaGreat
namespace Go.Proofs.YtlaapfplenlfaaaGreat
set_option maxRecDepth 20000
open Go Go.G Go.Proofs
@[simp] theorem yL:C0 Tryz.prog 51=some true:=by kernel_rfl
@[simp] theorem yC:C0 Tryz.prog 65=some true:=by kernel_rfl
@[simp] theorem fP:Ak Tryz.prog 51 0=some 0:=by kernel_rfl
@[simp] theorem cI:Ak Tryz.prog 51 1=some 1:=by kernel_rfl
@[simp] theorem cS:Ak Tryz.prog 51 2=some 4:=by kernel_rfl
@[simp] theorem di:Ak Tryz.prog 51 3=some 7:=by kernel_rfl
@[simp] theorem Aaj (x0 y0:Int) (x1 y1:Int):Jt Tryz.prog 100 65 (.agg [A.v (.int .i64 x0),A.v (.int .i64 x1)]) (.agg [A.v (.int .i64 y0),A.v (.int .i64 y1)])=some (((x0 == y0)&&((x1 == y1)&&(true)))):=by kernel_rfl
@[simp] theorem AaM:Tryz.prog.eqGuardType Tryz.prog.depth 65=false:=by kernel_rfl
def DI:CC:=sQ [mO 70 11,fO 71 51 8 0,lO 72 49 71,bN 73 72 49,bB .lss 74 3 70 73 3] [0,1,2,7,8,9,11,74] (cD 74 (.skip) (.exit 2)) [0,1,2,7,8,9,11] (.seq (.block 3 (sR [fO 77 51 8 0,lO 78 49 77,mO 79 11,iO 80 49 78 79,lO 81 65 80,fO 82 51 9 0,lO 83 49 82,mO 84 11,iO 85 49 83 84,lO 86 65 85,bB .neq 87 65 81 86 65] [0,1,2,7,8,9,11,87] (cD 87 (sR [aB 6 false] [6] (.ret)) (.skip)))) (.keep [0,1,2,7,8,9,11] (.reg [mO 75 11,bQ .add 76 3 75 1 3,aO 11 76] [0,1,2,7,8,9,11])))
def Fi:CC:=sQ [fO 39 51 8 0,lO 40 49 39,bN 41 40 49,fO 42 51 9 0,lO 43 49 42,bN 44 43 49,bB .neq 45 3 41 44 3,mO 46 45,fG 47 51 8 1 46 false,lG 48 25 47 46 false,fG 49 51 9 1 46 false,lG 50 25 49 46 false,oG 51 (cL 16 #[(xT 48),(xT 50)] #[25,25]) 46 false,oG 52 (.unOp .not 4 (xT 51)) 46 false,pT 53 46 52,mO 54 53,fG 55 51 8 2 54 false,lG 56 25 55 54 false,fG 57 51 9 2 54 false,lG 58 25 57 54 false,oG 59 (cL 16 #[(xT 56),(xT 58)] #[25,25]) 54 false,oG 60 (.unOp .not 4 (xT 59)) 54 false,pT 61 54 60,mO 62 61,fG 63 51 8 3 62 false,lG 64 25 63 62 false,fG 65 51 9 3 62 false,lG 66 25 65 62 false,oG 67 (cL 16 #[(xT 64),(xT 66)] #[25,25]) 62 false,oG 68 (.unOp .not 4 (xT 67)) 62 false,pT 69 62 68] [0,1,2,7,8,9,69] (cD 69 (sR [aB 6 false] [6] (.ret)) (.skip)) [0,1,2,7,8,9] (sR [aI 11 0] [0,1,2,7,8,9,11] (.block 2 (.loop DI)))
def DJ:CC:=sQ [mO 17 7,mO 18 0,bN 19 18 35,bB .lss 20 3 17 19 3] [0,1,2,7,20] (cD 20 (.skip) (.exit 0)) [0,1,2,7] (.seq (.block 1 (sR [mO 23 0,mO 24 7,iO 25 35 23 24,lS 26 51 25 3,mO 27 1,mO 28 7,iO 29 35 27 28,lS 30 51 29 7,⟨some 8,(.alloc 51),none,[0],8,[3,7],true⟩,⟨some 9,(.alloc 51),none,[1],9,[3,7,8],false⟩,⟨none,(.store 51 (xT 8) (xT 26)),none,[],10,[7],false⟩,sT 51 9 30] [0,1,2,7,8,9] (sQ [mO 31 2] [0,1,2,7,8,9,31] (cD 31 (sR [fO 32 51 9 2,lO 33 25 32,aL 10 25 [2],sT 25 10 33] [0,1,2,7,8,9,10] (sR [fO 34 51 9 3,lO 35 25 34,fO 36 51 9 2,sT 25 36 35] [0,1,2,7,8,9,10] (.reg [lO 37 25 10,fO 38 51 9 3,sT 25 38 37] [0,1,2,7,8,9]))) (.skip)) [0,1,2,7,8,9] Fi))) (.keep [0,1,2,7] (.reg [mO 21 7,bQ .add 22 3 21 1 3,aO 7 22] [0,1,2,7]))) 
def Ih:CC:=sR [aB 6 false] [0,1,2] (sQ [mO 12 0,bN 13 12 35,mO 14 1,bN 15 14 35,bB .neq 16 3 13 15 3] [0,1,2,16] (cD 16 (sR [aB 6 false] [6] (.ret)) (.skip)) [0,1,2] (sQ [aI 7 0] [0,1,2,7] (.block 0 (.loop DJ)) [] (sR [aB 6 true] [6] (.ret))))
theorem Na:Ca Tryz.prog 17 88 [(.tmp 6)] Ih:=AJ Tryz.func17
def I5:CC:=sR [aL 2 25 [0]] [0,2] (sR [mO 3 0,oO 4 (.buildSlice 22 1 #[(0,(xT 3))]),oO 5 (.build 25 #[(0,(nI 1)),(1,(xT 4))]),sT 25 2 5] [2] (.ret))
theorem N5:Ca Tryz.prog 33 6 [(.cell 2 25)] I5:=AJ Tryz.func33
def HQ:CC:=sR [aB 0 false] [] (sR [oO 4 (cL 33 #[(.const (.int .u64 1))] #[61]),oO 5 (cL 33 #[(.const (.int .u64 2))] #[61]),oO 6 (cL 33 #[(.const (.int .u64 3))] #[61]),oO 7 (cL 19 #[(xT 4),(xT 5),(xT 6),(nI 9)] #[25,25,25,3]),mO 3 7,xO 8 3 0,xO 9 3 1,aL 1 25 [0],sT 25 1 8,aO 2 9] [1,2] (sR [lS 10 25 1 0,⟨some 11,(cL 33 #[(.const (.int .u64 1))] #[61]),none,[],1,[0],false⟩,cB 12 16 10 11 25 25,mO 13 12,mG 14 2 13 true,oG 15 (bL 14 35) 13 true,oG 16 (.binOp .eql 3 (xT 15) (nI 1) 3) 13 true,pF 17 13 16,mO 18 17,mG 19 2 18 true,oG 20 (.indexAddr 35 (xT 19) (nI 0)) 18 true,fG 21 51 20 0 18 true,lG 22 49 21 18 true,oG 23 (bL 22 49) 18 true,oG 24 (.binOp .eql 3 (xT 23) (nI 1) 3) 18 true,pF 25 18 24,mO 26 25,mG 27 2 26 true,oG 28 (.indexAddr 35 (xT 27) (nI 0)) 26 true,fG 29 51 28 0 26 true,lG 30 49 29 26 true,oG 31 (.indexAddr 49 (xT 30) (nI 0)) 26 true,lG 32 65 31 26 true,oG 33 (.build 65 #[(0,(nI 1))]) 26 true,oG 34 (bO .eql 65 32 33 65) 26 true,pF 35 26 34,mO 36 35,mG 37 2 36 true,oG 38 (.indexAddr 35 (xT 37) (nI 0)) 36 true,fG 39 51 38 2 36 true,⟨some 40,(lD 25 39),(some (36,true)),[],30,[],true⟩,⟨some 41,(cL 33 #[(.const (.int .u64 2))] #[61]),(some (36,true)),[],31,[30],false⟩,oG 42 (cL 16 #[(xT 40),(xT 41)] #[25,25]) 36 true,pF 43 36 42,mO 44 43,mG 45 2 44 true,oG 46 (.indexAddr 35 (xT 45) (nI 0)) 44 true,fG 47 51 46 3 44 true,⟨some 48,(lD 25 47),(some (44,true)),[],38,[],true⟩,⟨some 49,(cL 33 #[(.const (.int .u64 3))] #[61]),(some (44,true)),[],39,[38],false⟩,oG 50 (cL 16 #[(xT 48),(xT 49)] #[25,25]) 44 true,pF 51 44 50,mO 52 51,mG 53 2 52 true,oG 54 (.indexAddr 35 (xT 53) (nI 0)) 52 true,fG 55 51 54 1 52 true,⟨some 56,(lD 25 55),(some (52,true)),[],46,[],true⟩,⟨some 57,(cL 33 #[(.const (.int .u64 1))] #[61]),(some (52,true)),[],47,[46],false⟩,oG 58 (cL 16 #[(xT 56),(xT 57)] #[25,25]) 52 true,pF 59 52 58,aO 0 59] [0] (.ret)))
theorem Ma:Ca Tryz.prog 13 60 [(.tmp 0)] HQ:=AJ Tryz.func13
end Go.Proofs.YtlaapfplenlfaaaGreat
namespace Go.Proofs.YtlaapfplenlfaaaGreat
open Go Go.G Go.Proofs Go.PL
def du (c:Cf):Prop:=AD c.base∧AD c.ours∧AD c.theirs
def Zc (t:Bool) (c:Cf):Cf:=if t=true then kM c else c
variable {n0:Nat} {w0:World} {I0:Nat→Prop} {Q:Exit→Sta→Prop}
theorem bP {l m:List Cf} {t:Bool} {k u0 u1:Nat} {c:Cf} (hp:c.path.length≤10000000000000) {H:Hp} (h0:H [0]=⟨u0,.cells (qW c)⟩) (h1:H [1]=⟨u1,.cells (qW c)⟩)
  (hq:Q (.exit 2) ⟨lk [(0,G5 l),(1,G5 m),(2,bv t),(7,iv k),(8,.pob [0] u0 0),(9,.pob [1] u1 0),(11,iv c.path.length),(74,bv false)],H⟩):∀ (j i:Nat),i+j=c.path.length →
  LoopC (cx Tryz.prog w0 I0 n0) DI Q ⟨lk [(0,G5 l),(1,G5 m),(2,bv t),(7,iv k),(8,.pob [0] u0 0),(9,.pob [1] u1 0),(11,iv i)],H⟩:=by
 intro j;induction j with
 |zero=>
  intro i hj;have:i=c.path.length:=by omega
  subst this;refine Ab Aj DI.eq_1 ?_;simp[h0,h1];exact hq
 |succ j ih=>
  intro i hj;have hlt:i<c.path.length:=by omega
  have ew:=AI i;refine Ab Aj DI.eq_1 ?_;simp[h0,h1,hlt];rw[ew];exact ih (i+1) (by omega)
theorem UT {l m:List Cf} {t:Bool} {k u0 u1:Nat} {c:Cf} (hc:du c) (hp:c.path.length≤10000000000000) {H:Hp} (h0:H [0]=⟨u0,.cells (qW c)⟩) (h1:H [1]=⟨u1,.cells (qW c)⟩)
  (hq:∀ st,Q .normal ⟨lk ([(0,G5 l),(1,G5 m),(2,bv t),(7,iv k)]++st),H⟩) :
  WPC (cx Tryz.prog w0 I0 n0) Fi Q ⟨lk [(0,G5 l),(1,G5 m),(2,bv t),(7,iv k),(8,.pob [0] u0 0),(9,.pob [1] u1 0)],H⟩:=by
 obtain⟨w1,w2,w3⟩:=hc;have S1:=Fv c.base w1 c.base;have S2:=Fv c.ours w2 c.ours;have S3:=Fv c.theirs w3 c.theirs;rw[show HR c.base c.base=true from sameB_iff.2 rfl] at S1;rw[show HR c.ours c.ours=true from sameB_iff.2 rfl] at S2;rw[show HR c.theirs c.theirs=true from sameB_iff.2 rfl] at S3;rw[Fi.eq_1];simp[h0,h1];refine Ao rfl (fun _=>S1) (fun _=>by simp) (by simp) ?_;simp[h0,h1];refine Ao rfl (fun _=>S2) (fun _=>by simp) (by simp) ?_;simp[h0,h1];refine Ao rfl (fun _=>S3) (fun _=>by simp) (by simp) ?_;simp;refine LoopC.le (Ay [(0,G5 l),(1,G5 m),(2,bv t),(7,iv k),(8,.pob [0] u0 0),(9,.pob [1] u1 0),(11,iv (0:Nat))] (by simp)) ?_;refine bP (c:=c) hp h0 h1 ?_ c.path.length 0 (by omega);simp;have:=hq [(8,.pob [0] u0 0),(9,.pob [1] u1 0),(11,iv c.path.length),(74,bv false)];simpa using this
theorem eT {l m:List Cf} {t:Bool} (hm:m=l.map (Zc t)) (hl:l.length≤10000000000000) (hw:∀ c,c ∈ l→du c) (hp:∀ c,c ∈ l→c.path.length≤10000000000000)
  (hq:∀ H,Q (.exit 0) ⟨lk [(0,G5 l),(1,G5 m),(2,bv t),(7,iv l.length),(20,bv false)],H⟩):∀ (j i:Nat) (H:Hp),i+j=l.length →
  LoopC (cx Tryz.prog w0 I0 n0) DJ Q ⟨lk [(0,G5 l),(1,G5 m),(2,bv t),(7,iv i)],H⟩:=by
 intro j;induction j with
 |zero=>
  intro i H hj;have:i=l.length:=by omega
  subst this;refine Ab Aj DJ.eq_1 ?_;simp;exact hq H
 |succ j ih=>
  intro i H hj;have hlt:i<l.length:=by omega
  have hlt2:i<m.length:=by rw[hm,List.length_map];exact hlt
  have ew:=AI i;have hmi:m[i]=Zc t l[i]:=by simp[hm]
  have hc:=hw _ (BD hlt);have hpp:=hp _ (BD hlt);generalize hx:l[i]=c at *;refine Ab Aj DJ.eq_1 ?_;cases t with
  |true=>
   simp[hlt,hlt2,hx,hmi,Aa,Zc,kM];refine UT hc hpp (by simp[Aa]) (by simp[Aa]) fun st=>?_;simp[ew];exact ih (i+1) _ (by omega)
  |false=>
   simp[hlt,hlt2,hx,hmi,Aa,Zc];refine UT hc hpp (by simp[Aa]) (by simp[Aa]) fun st=>?_;simp[ew];exact ih (i+1) _ (by omega)
theorem V3 {l m:List Cf} {t:Bool} (hm:m=l.map (Zc t)) (hl:l.length≤10000000000000) (hw:∀ c,c ∈ l→du c) (hp:∀ c,c ∈ l→c.path.length≤10000000000000):G.Spec Tryz.prog 17 [G5 l,G5 m,bv t] (bv true):=by
 have hlen:m.length=l.length:=by rw[hm,List.length_map]
 refine Ag Na (by simp) fun w0 I0=>?_;unfold Ih;simp[hlen];refine LoopC.le (Ay [(0,G5 l),(1,G5 m),(2,bv t),(7,iv (0:Nat))] (by simp)) ?_;refine eT hm hl hw hp (fun H=>?_) l.length 0 _ (by omega);simp;exact Ad rfl
def UW (u:U):Prop:=match u with
 |.ins t=>AD t
 |.desc e=>J2 e
 |_=>True
theorem YN {os:List OP} (h:∀ o,o ∈ os→dS o):∀ u,u ∈ En os→UW u:=by
 intro u hu;obtain⟨o,ho,hu⟩:=List.mem_flatMap.1 hu;have:=h o ho;unfold Ja at hu;split at hu
 ·rw[List.eq_of_mem_replicate hu];trivial
 ·split at hu
  ·obtain⟨t,_,rfl⟩:=List.mem_map.1 hu;trivial
  ·split at hu
   ·obtain⟨t,ht,rfl⟩:=List.mem_map.1 hu;exact this.1 t ht
   ·rw[List.mem_singleton.1 hu];exact this.2
theorem Gp:∀ {us:List U},(∀ u,u ∈ us→UW u)→(∀ t,t ∈ Ey us→AD t)∧∀ u,u ∈ Dy us→UW u
 |[],_=>⟨fun t ht=>by simp[Ey] at ht,fun u hu=>by simp[Dy] at hu⟩
 |.ins t::us,h=>by
  obtain⟨h1,h2⟩:=Gp fun u hu=>h u (List.mem_cons_of_mem _ hu);refine⟨fun x hx=>?_,h2⟩;rcases List.mem_cons.1 hx with rfl | hx
  ·exact h (.ins x) (by simp)
  ·exact h1 x hx
 |.keep::us,h=>⟨fun t ht=>by simp[Ey] at ht,h⟩
 |.del t::us,h=>⟨fun t ht=>by simp[Ey] at ht,h⟩
 |.desc e::us,h=>⟨fun t ht=>by simp[Ey] at ht,h⟩
theorem cm {at':Cw} {kind:Int} (hk:Db kind) {n:Nat} {a b:List T} (ha:∀ t,t ∈ a→AD t) (hb:∀ t,t ∈ b→AD t) (la:a.length≤1000000) (lb:b.length≤1000000):∀ c,c ∈ (Eb at' kind n a b).2→du c:=by
 intro c hc;unfold Eb at hc;have w:∀ l:List T,(∀ t,t ∈ l→AD t)→l.length≤1000000→AD (Af (.mk kind [] l)):=fun l h1 h2=>B9 _ (wfT_iff.2 ⟨hk,by simp,by simp,by show l.length*56≤_;omega,h1⟩);split at hc
 ·simp at hc
 ·split at hc
  ·simp at hc
  ·rw[List.mem_singleton.1 hc];exact⟨w [] (fun t ht=>by simp at ht) (by simp),w a ha la,w b hb lb⟩
def zV (e:E) (x:T):Prop:=AD (Ea e x)
theorem iM {M:Cw→T→E→E→T × List Cf} {R:E→T→T→Prop} {W:T→Prop} (hW:∀ k,W k→AD k) (hM:∀ at' k p q x y,W k→R p k x→R q k y→∀ c,c ∈ (M at' k p q).2→du c) (h0:∀ k,W k→R E0 k k) (hD:∀ e k x,W k→R e k x→zV e k) {at':Cw} {k:T} (wk:W k) {u v:U} (hu:∃ x,R (eU u) k x) (hv:∃ x,R (eU v) k x):∀ c,c ∈ (Bz M at' k u v).2→du c:=by
 obtain⟨x,hx⟩:=hu;obtain⟨y,hy⟩:=hv;intro c hc;cases u<;>cases v<;>simp only[Bz] at hc<;>first | exact hM _ _ _ _ _ _ wk hx hy c hc | (rw[List.mem_singleton.1 hc];exact⟨B9 k (hW k wk),QY,hD _ _ _ wk hy⟩) | (rw[List.mem_singleton.1 hc];exact⟨B9 k (hW k wk),hD _ _ _ wk hx,QY⟩) | (simp at hc)
theorem Oc {R:E→T→T→Prop} {us:List U} {k:T} {ks ys:List T} (h:LdU R us (k::ks) ys):∃ y2,LdU R (Dy us).tail ks y2∧(Wm (Dy us) = .keep∨(∃ t,Wm (Dy us) = .del t)∨∃ e x,Wm (Dy us) = .desc e∧R e k x)∧y2.length≤ys.length∧(Ey us).length≤ys.length:=by
 obtain⟨y1,y2,rfl,h1,h2,h3⟩:=JF h;have hl:(Ey us).length=y1.length:=by simpa using congrArg List.length h1
 cases e:Dy us with
 |nil=>rw[e] at h2;cases h2
 |cons u vs=>
  rw[e] at h2;cases h2 with
  |keep x y hh g=>exact⟨_,g,.inl rfl,by simp;omega,by simp;omega⟩
  |del t x hh g=>exact⟨_,g,.inr (.inl ⟨t,rfl⟩),by simp,by simp;omega⟩
  |ins t y hh g=>exact absurd e (h3 _ _)
  |desc ee x y hh g=>exact⟨_,g,.inr (.inr ⟨ee,y,rfl,hh⟩),by simp;omega,by simp;omega⟩
theorem ki {M:Cw→T→E→E→T × List Cf} {R:E→T→T→Prop} {W:T→Prop} (hW:∀ k,W k→AD k) (hM:∀ at' k p q x y,W k→R p k x→R q k y→∀ c,c ∈ (M at' k p q).2→du c) (h0:∀ k,W k→R E0 k k) (hD:∀ e k x,W k→R e k x→zV e k) {at':Cw} {kind:Int} (hk:Db kind):∀ (ks:List T) (us vs:List U) (ys zs:List T) (n:Nat),(∀ k,k ∈ ks→W k)→LdU R us ks ys→LdU R vs ks zs→(∀ u,u ∈ us→UW u)→(∀ u,u ∈ vs→UW u)→ys.length≤1000000→zs.length≤1000000→∀ c,c ∈ (Hj M at' kind ks us vs n).2→du c
 |[],us,vs,ys,zs,n,_,hu,hv,wu,wv,ly,lz=>by
  obtain⟨y1,y2,rfl,h1,_,_⟩:=JF hu;obtain⟨z1,z2,rfl,g1,_,_⟩:=JF hv;have hl:(Ey us).length=y1.length:=by simpa using congrArg List.length h1
  have gl:(Ey vs).length=z1.length:=by simpa using congrArg List.length g1
  rw[List.length_append] at ly lz;rw[Hj];exact cm hk (Gp wu).1 (Gp wv).1 (by omega) (by omega)
 |k::ks,us,vs,ys,zs,n,wk,hu,hv,wu,wv,ly,lz=>by
  obtain⟨y2,a1,a2,a3,a4⟩:=Oc hu;obtain⟨z2,b1,b2,b3,b4⟩:=Oc hv;have ih:=ki hW hM h0 hD (at':=at') hk ks (Dy us).tail (Dy vs).tail y2 z2 (n+1) (fun x hx=>wk x (List.mem_cons_of_mem _ hx)) a1 b1 (fun u hu=>(Gp wu).2 u (List.mem_of_mem_tail hu)) (fun u hu=>(Gp wv).2 u (List.mem_of_mem_tail hu)) (by omega) (by omega);have wkk:=wk k (by simp);have ex:∀ u:U,(u = .keep∨(∃ t,u = .del t)∨∃ e x,u = .desc e∧R e k x)→∃ x,R (eU u) k x:=fun u h=>by
   rcases h with rfl | ⟨t,rfl⟩ | ⟨e,x,rfl,h⟩
   ·exact⟨k,h0 k wkk⟩
   ·exact⟨k,h0 k wkk⟩
   ·exact⟨x,h⟩
  have hU:=iM hW hM h0 hD (at':=at'++[(0,(n:Int))]) wkk (ex _ a2) (ex _ b2);intro c hc;simp only[Hj,List.mem_append] at hc;rcases hc with hc | hc | hc
  ·exact cm hk (Gp wu).1 (Gp wv).1 (by omega) (by omega) c hc
  ·exact hU c hc
  ·exact ih c hc
theorem X7 {R R':E→T→T→Prop} {us:List U} {a b:List T} (h:LdU R us a b):(∀ e,U.desc e ∈ us→J2 e)→(∀ e x y,x ∈ a→y ∈ b→J2 e→R e x y→R' e x y)→LdU R' us a b:=by
 induction h with
 |nil=>exact fun _ _=>.nil
 |keep x y h g ih=>exact fun hw hR=>.keep x y h (ih (fun e he=>hw e (List.mem_cons_of_mem _ he)) fun e x y hx hy=>hR e x y (List.mem_cons_of_mem _ hx) (List.mem_cons_of_mem _ hy))
 |del t x h g ih=>exact fun hw hR=>.del t x h (ih (fun e he=>hw e (List.mem_cons_of_mem _ he)) fun e x y hx hy=>hR e x y (List.mem_cons_of_mem _ hx) hy)
 |ins t y h g ih=>exact fun hw hR=>.ins t y h (ih (fun e he=>hw e (List.mem_cons_of_mem _ he)) fun e x y hx hy=>hR e x y hx (List.mem_cons_of_mem _ hy))
 |desc e x y h g ih=>exact fun hw hR=>.desc e x y (hR e x y (by simp) (by simp) (hw e (by simp)) h) (ih (fun e he=>hw e (List.mem_cons_of_mem _ he)) fun e x y hx hy=>hR e x y (List.mem_cons_of_mem _ hx) (List.mem_cons_of_mem _ hy))
theorem eh {R:E→T→T→Prop} {os:List OP} {a b:List T} (h:LdO R os a b) (hw:∀ o,o ∈ os→J2 o.e):∀ e,U.desc e ∈ En os→J2 e:=by
 intro e he;obtain⟨o,ho,he⟩:=List.mem_flatMap.1 he;unfold Ja at he;split at he
 ·exact absurd (List.eq_of_mem_replicate he) (by simp)
 ·split at he
  ·obtain⟨t,_,h⟩:=List.mem_map.1 he;cases h
  ·split at he
   ·obtain⟨t,_,h⟩:=List.mem_map.1 he;cases h
   ·have:=List.mem_singleton.1 he;cases this;exact hw o ho
theorem AaC:∀ (f:Nat) (at':Cw) (o:T) (p q:E) (x y:T),Wi f p o x→Wi f q o y→∀ c,c ∈ (mg f at' o p q).2→du c:=by
 have base:∀ (f:Nat) (at':Cw) (o:T) (p q:E) (x y:T),Wi f p o x→Wi f q o y→∀ c,c ∈ (Su at' o p q).2→du c:=fun f at' o p q x y hp hq c hc=>by
  unfold Su at hc;split at hc
  ·simp at hc
  ·split at hc
   ·simp at hc
   ·split at hc
    ·simp at hc
    ·rw[List.mem_singleton.1 hc,Oq hp.1,Oq hq.1];exact⟨B9 o hp.2.2.1,B9 x hp.2.2.2.1,B9 y hq.2.2.2.1⟩
 intro f;induction f with
 |zero=>exact base 0
 |succ f ih=>
  intro at' o p q x y hp hq c hc;rw[mg] at hc;split at hc
  ·rename_i k2;obtain⟨hp1,hp2,hp3,hp4,hp5,hp6⟩:=hp;obtain⟨hq1,hq2,hq3,hq4,hq5,hq6⟩:=hq;rcases hp1 with h | ⟨ws,ks,rfl,h1,h2,h3,h4⟩ | ⟨os,rfl,h1,h2,hv,h3⟩
   ·rcases h with ⟨rfl,_⟩ | ⟨_,_,rfl,_⟩<;>exact absurd k2.1 (by simp)
   rotate_left
   ·exact absurd k2.1 (by simp)
   rcases hq1 with g | ⟨ws',ks',rfl,g1,g2,g3,g4⟩ | ⟨os',rfl,g1,g2,gv,g3⟩
   ·rcases g with ⟨rfl,_⟩ | ⟨_,_,rfl,_⟩<;>exact absurd k2.2 (by simp)
   rotate_left
   ·exact absurd k2.2 (by simp)
   have P:=wfE_iff.1 hp2;have Q:=wfE_iff.1 hq2;unfold Uq at hc;rcases List.mem_append.1 hc with hc | hc
   ·obtain⟨i,_,hc⟩:=List.mem_flatMap.1 hc;unfold IX at hc;split at hc
    ·rw[List.mem_singleton.1 hc];exact⟨B9 _ (Cb (Fa (wfT_iff.1 hp3).w i)),B9 _ (Cb (BX _ _ _)),B9 _ (Cb (BX _ _ _))⟩
    ·simp at hc
   ·obtain⟨i,_,hc⟩:=List.mem_flatMap.1 hc;have a1:Ld f (CR ks i) (o.kids.getD i T0) (x.kids.getD i T0):=OB (fun x y h=>Hn (.inl ⟨rfl,h⟩)) h4 i (Nat.zero_le _);have a2:Ld f (CR ks' i) (o.kids.getD i T0) (y.kids.getD i T0):=OB (fun x y h=>Hn (.inl ⟨rfl,h⟩)) g4 i (Nat.zero_le _);exact ih _ _ _ _ _ _ ⟨a1,OM IH (fun x h=>(P.ks x h).2) i,DE hp3 i,DE hp4 i,Jc hp5 i,Jc hp6 i⟩ ⟨a2,OM IH (fun x h=>(Q.ks x h).2) i,DE hp3 i,DE hq4 i,Jc hp5 i,Jc hq6 i⟩ c hc
  ·split at hc
   ·rename_i k2 k3;obtain⟨hp1,hp2,hp3,hp4,hp5,hp6⟩:=hp;obtain⟨hq1,hq2,hq3,hq4,hq5,hq6⟩:=hq;rcases hp1 with h | ⟨ws,ks,rfl,h1,h2,h3,h4⟩ | ⟨os,rfl,h1,h2,hv,h3⟩
    ·rcases h with ⟨rfl,_⟩ | ⟨_,_,rfl,_⟩<;>exact absurd k3.1 (by simp)
    ·exact absurd k3.1 (by simp)
    rcases hq1 with g | ⟨ws',ks',rfl,g1,g2,g3,g4⟩ | ⟨os',rfl,g1,g2,gv,g3⟩
    ·rcases g with ⟨rfl,_⟩ | ⟨_,_,rfl,_⟩<;>exact absurd k3.2 (by simp)
    ·exact absurd k3.2 (by simp)
    have P:=wfE_iff.1 hp2;have Q:=wfE_iff.1 hq2;have O:=wfT_iff.1 hp3;have X:=wfT_iff.1 hp4;have Y:=wfT_iff.1 hq4;have s4:=hp6.2.1;have s6:=hq6.2.1;have p1:=eh h3 (fun o ho=>(P.os o ho).e);have q1:=eh g3 (fun o ho=>(Q.os o ho).e);have u1:LdU (Wi f) (En os) o.kids x.kids:=X7 (TN h3) p1 fun e a b ha hb he r=>⟨r,he,O.ks a ha,X.ks b hb,hp5.2.2 a ha,hp6.2.2 b hb⟩;have u2:LdU (Wi f) (En os') o.kids y.kids:=X7 (TN g3) q1 fun e a b ha hb he r=>⟨r,he,O.ks a ha,Y.ks b hb,hp5.2.2 a ha,hq6.2.2 b hb⟩;exact ki (W:=fun k=>AD k∧Sq f k) (fun k h=>h.1) (fun at' k p q x y _ h1 h2=>ih at' k p q x y h1 h2) (fun k h=>Ub h.1 h.2) (fun e k x _ h=>by
     unfold zV;rw[Oq h.1];exact B9 x h.2.2.2.1) O.k o.kids (En os) (En os') x.kids y.kids 0 (fun k hk=>⟨O.ks k hk,hp5.2.2 k hk⟩) u1 u2 (YN fun o ho=>⟨(P.os o ho).l,(P.os o ho).e⟩) (YN fun o ho=>⟨(Q.os o ho).l,(Q.os o ho).e⟩) (by omega) (by omega) c hc
   ·exact base (f+1) at' o p q x y hp hq c hc
theorem iV:∀ (f:Nat) (at':Cw) (o:T) (p q:E),∀ c,c ∈ (mg f at' o p q).2→c.path.length≤at'.length+f+1:=by
 have base:∀ (at':Cw) (o:T) (p q:E),∀ c,c ∈ (Su at' o p q).2→c.path.length≤at'.length:=fun at' o p q c hc=>by
  unfold Su at hc;split at hc
  ·simp at hc
  ·split at hc
   ·simp at hc
   ·split at hc
    ·simp at hc
    ·rw[List.mem_singleton.1 hc];exact Ei _
 have gap:∀ (at':Cw) (kind:Int) (n:Nat) (a b:List T),∀ c,c ∈ (Eb at' kind n a b).2→c.path.length≤at'.length+1:=fun at' kind n a b c hc=>by
  unfold Eb at hc;split at hc
  ·simp at hc
  ·split at hc
   ·simp at hc
   ·rw[List.mem_singleton.1 hc];simp
 have lst:∀ (f:Nat),(∀ (at':Cw) (o:T) (p q:E),∀ c,c ∈ (mg f at' o p q).2→c.path.length≤at'.length+f+1)→∀ (at':Cw) (kind:Int) (ks:List T) (us vs:List U) (n:Nat),∀ c,c ∈ (Hj (mg f) at' kind ks us vs n).2→c.path.length≤at'.length+f+2:=fun f ih at' kind ks=>by
  induction ks with
  |nil=>
   intro us vs n c hc;rw[Hj] at hc;have:=gap _ _ _ _ _ c hc;omega
  |cons k ks ihk=>
   intro us vs n c hc;simp only[Hj,List.mem_append] at hc;rcases hc with hc | hc | hc
   ·have:=gap _ _ _ _ _ c hc;omega
   ·generalize Wm (Dy us)=u at hc;generalize Wm (Dy vs)=v at hc;cases u<;>cases v<;>simp only[Bz] at hc<;>first | (have:=ih _ _ _ _ c hc;simp at this;omega) | (rw[List.mem_singleton.1 hc];simp;omega) | (simp at hc)
   ·exact ihk _ _ _ c hc
 intro f;induction f with
 |zero=>
  intro at' o p q c hc;have:=base _ _ _ _ c hc;omega
 |succ f ih=>
  intro at' o p q c hc;rw[mg] at hc;split at hc
  ·unfold Uq at hc;rcases List.mem_append.1 hc with hc | hc
   ·obtain⟨i,_,hc⟩:=List.mem_flatMap.1 hc;unfold IX at hc;split at hc
    ·rw[List.mem_singleton.1 hc];simp
    ·simp at hc
   ·obtain⟨i,_,hc⟩:=List.mem_flatMap.1 hc;have:=ih _ _ _ _ c hc;simp at this;omega
  ·split at hc
   ·have:=lst f ih _ _ _ _ _ _ c hc;omega
   ·have:=base _ _ _ _ c hc;omega
section
variable {o x y:T} {most:Int}
end
theorem L7 (w:Int):G.Spec Tryz.prog 33 [uv w] (tX (AL w)):=by
 refine Ag N5 (by simp) fun w0 I0=>?_;unfold I5;simp;exact AE ⟨Ad rfl,Ah,Ah,trivial⟩
theorem EI {w:Int} (h:w ≠ 0):Af (AL w)=AL w:=by
 unfold AL;rw[ER,if_neg (by decide),if_pos rfl];simp[CS,h]
end Go.Proofs.YtlaapfplenlfaaaGreat
namespace Go.Proofs.YtlaapfplenlfaaaGreat
set_option maxRecDepth 20000
open Go Go.G Go.Proofs
@[simp] theorem yr:Tryz.prog.underlying 123=some (.slice 136):=by kernel_rfl
@[simp] theorem yX:Tryz.prog.underlying 126=some (.slice 134):=by kernel_rfl
@[simp] theorem AbU:Cv Tryz.prog 4=some 1:=by kernel_rfl
@[simp] theorem zv:Cv Tryz.prog 134=some 17:=by kernel_rfl
@[simp] theorem zu:Cv Tryz.prog 136=some 35:=by kernel_rfl
@[simp] theorem Abf:C0 Tryz.prog 4=some false:=by kernel_rfl
@[simp] theorem wB:C0 Tryz.prog 134=some true:=by kernel_rfl
@[simp] theorem wO:C0 Tryz.prog 136=some true:=by kernel_rfl
@[simp] theorem p9:A5 Tryz.prog 134=some (Value.agg #[Value.int i64 0,Value.int i64 0,Value.int i64 0,Value.slice none 0 0,Value.slice none 0 0,Value.int i64 0,Value.int i64 0,Value.slice none 0 0,Value.slice none 0 0,Value.int i64 0,Value.slice none 0 0,Value.slice none 0 0,Value.slice none 0 0,Value.slice none 0 0,Value.int i64 0,Value.slice none 0 0,Value.bool false]):=by kernel_rfl
@[simp] theorem qC:A5 Tryz.prog 136=some (Value.agg #[Value.int i64 0,Value.int i64 0,Value.int i64 0,Value.int i64 0,Value.slice none 0 0,Value.slice none 0 0,Value.int i64 0,Value.int i64 0,Value.slice none 0 0,Value.slice none 0 0,Value.int i64 0,Value.slice none 0 0,Value.slice none 0 0,Value.slice none 0 0,Value.slice none 0 0,Value.int i64 0,Value.slice none 0 0,Value.bool false,Value.int i64 0,Value.int i64 0,Value.int i64 0,Value.slice none 0 0,Value.slice none 0 0,Value.int i64 0,Value.int i64 0,Value.slice none 0 0,Value.slice none 0 0,Value.int i64 0,Value.slice none 0 0,Value.slice none 0 0,Value.slice none 0 0,Value.slice none 0 0,Value.int i64 0,Value.slice none 0 0,Value.bool false]):=by kernel_rfl
@[simp] theorem mS:Bb Tryz.prog 134=some 280:=by kernel_rfl
@[simp] theorem nf:Bb Tryz.prog 136=some 568:=by kernel_rfl
@[simp] theorem aG:Ak Tryz.prog 134 1=some 1:=by kernel_rfl
@[simp] theorem av:Ak Tryz.prog 134 2=some 2:=by kernel_rfl
@[simp] theorem aE:Ak Tryz.prog 134 3=some 5:=by kernel_rfl
@[simp] theorem az:Ak Tryz.prog 134 4=some 16:=by kernel_rfl
@[simp] theorem aJ:Ak Tryz.prog 136 0=some 0:=by kernel_rfl
@[simp] theorem bg:Ak Tryz.prog 136 1=some 1:=by kernel_rfl
@[simp] theorem bb:Ak Tryz.prog 136 2=some 18:=by kernel_rfl
@[simp] theorem nH (ps:List (Nat × A)):BW Tryz.prog 134 ps=(Cu (fun i=>([(0,1),(1,1),(2,3),(5,11),(16,1)]:List (Nat × Nat))[i]?) [iv 0,iv 0,iv 0,A.sl true [],A.sl true [],iv 0,iv 0,A.sl true [],A.sl true [],iv 0,A.sl true [],A.sl true [],A.sl true [],A.sl true [],iv 0,A.sl true [],A.v (Value.bool false)] ps).map A.agg:=by kernel_rfl
@[simp] theorem om (ps:List (Nat × A)):BW Tryz.prog 136 ps=(Cu (fun i=>([(0,1),(1,17),(18,17)]:List (Nat × Nat))[i]?) [iv 0,iv 0,iv 0,iv 0,A.sl true [],A.sl true [],iv 0,iv 0,A.sl true [],A.sl true [],iv 0,A.sl true [],A.sl true [],A.sl true [],A.sl true [],iv 0,A.sl true [],A.v (Value.bool false),iv 0,iv 0,iv 0,A.sl true [],A.sl true [],iv 0,iv 0,A.sl true [],A.sl true [],iv 0,A.sl true [],A.sl true [],A.sl true [],A.sl true [],iv 0,A.sl true [],A.v (Value.bool false)] ps).map A.agg:=by kernel_rfl
def Dj:CC:=sQ [mO 20 8,fO 21 91 7 1,lO 22 3 21,bB .lss 23 3 20 22 3,mO 24 23,fG 25 91 7 0 24 true,lG 26 3 25 24 true,oG 27 (.binOp .eql 3 (xT 26) (nI 0) 3) 24 true,pF 28 24 27] [0,1,5,6,7,8,28] (cD 28 (.skip) (.exit 2)) [0,1,5,6,7,8] (.seq (.block 3 (.reg [mO 31 5,mO 32 6,oO 33 (.build 134 #[(0,(xT 32))]),oO 34 (.buildSlice 126 1 #[(0,(xT 33))]),aP 35 31 34 126 126 [1],aO 5 35] [0,1,5,6,7,8])) (.reg [mO 29 8,bQ .add 30 3 29 1 3,aO 8 30] [0,1,5,6,7,8]))
def Dn:CC:=sQ [mO 36 9,fO 37 91 7 2,lO 38 23 37,bN 39 38 23,bB .lss 40 3 36 39 3] [0,1,5,6,7,9,40] (cD 40 (.skip) (.exit 4)) [0,1,5,6,7,9] (.seq (.block 5 (.reg [mO 43 5,mO 44 6,fO 45 91 7 0,lO 46 3 45,fO 47 91 7 2,lO 48 23 47,mO 49 9,iO 50 23 48 49,lO 51 25 50,fO 52 91 7 0,lO 53 3 52,mO 54 1,bB .eql 55 3 53 54 3,oO 56 (.build 134 #[(0,(xT 44)),(1,(xT 46)),(2,(xT 51)),(4,(xT 55))]),oO 57 (.buildSlice 126 1 #[(0,(xT 56))]),aP 58 43 57 126 126 [2],aO 5 58] [0,1,5,6,7,9])) (.reg [mO 41 9,bQ .add 42 3 41 1 3,aO 9 42] [0,1,5,6,7,9]))
def Dh:CC:=sQ [mO 10 6,mO 11 0,bN 12 11 28,bB .lss 13 3 10 12 3] [0,1,5,6,13] (cD 13 (.skip) (.exit 0)) [0,1,5,6] (.seq (.block 1 (sR [mO 16 0,mO 17 6,iO 18 28 16 17,lO 19 91 18,aL 7 91 [0],sT 91 7 19] [0,1,5,6,7] (sQ [aI 8 0] [0,1,5,6,7,8] (.block 2 (.loop Dj)) [0,1,5,6,7] (sQ [aI 9 0] [0,1,5,6,7,9] (.block 4 (.loop Dn)) [0,1,5,6,7] (sR [fO 59 91 7 0,lO 60 3 59,bQ .eql 61 3 60 3 3] [0,1,5,6,7,61] (cD 61 (.reg [mO 62 5,mO 63 6,fO 64 91 7 3,lO 65 30 64,oO 66 (.build 134 #[(0,(xT 63)),(1,(nI 3)),(3,(xT 65))]),oO 67 (.buildSlice 126 1 #[(0,(xT 66))]),aP 68 62 67 126 126 [3],aO 5 68] [0,1,5,6]) (.skip))))))) (.keep [0,1,5,6] (.reg [mO 14 6,bQ .add 15 3 14 1 3,aO 6 15] [0,1,5,6]))) 
def HN:CC:=sR [aN 4] [0,1] (sR [aN 5] [0,1,5] (sQ [aI 6 0] [0,1,5,6] (.block 0 (.loop Dh)) [5] (sR [mO 69 5,aO 4 69] [4] (.ret))))
theorem Mm:Ca Tryz.prog 100 70 [(.tmp 4)] HN:=AJ Tryz.func100
def Bq:CC:=sQ [mO 9 7,mO 10 0,bN 11 10 126,bB .lss 12 3 9 11 3,mO 13 12,mG 14 8 13 false,mG 15 1 13 false,oG 16 (bL 15 126) 13 false,oG 17 (bO .lss 3 14 16 3) 13 false,pT 18 13 17] [0,1,6,7,8,18] (cD 18 (.skip) (.exit 0)) [0,1,6,7,8] (.block 1 (sQ [mO 19 7,mO 20 0,bN 21 20 126,bB .lss 22 3 19 21 3,mO 23 22,mG 24 0 23 true,mG 25 7 23 true,oG 26 (iA 126 24 25) 23 true,fG 27 134 26 4 23 true,lG 28 4 27 23 true,pF 29 23 28] [0,1,6,7,8,29] (cD 29 (sR [mO 30 6,mO 31 0,mO 32 7,iO 33 126 31 32,lO 34 134 33,oO 35 (.build 136 #[(0,(nI 1)),(1,(xT 34))]),oO 36 (.buildSlice 123 1 #[(0,(xT 35))]),aP 37 30 36 123 123 [0],aO 6 37] [0,1,6,7,8] (sR [mO 38 7,bQ .add 39 3 38 1 3,aO 7 39] [0,1,6,7,8] (.exit 1))) (.skip)) [0,1,6,7,8] (sQ [mO 40 8,mO 41 1,bN 42 41 126,bB .lss 43 3 40 42 3,mO 44 43,mG 45 1 44 true,mG 46 8 44 true,oG 47 (iA 126 45 46) 44 true,fG 48 134 47 4 44 true,lG 49 4 48 44 true,pF 50 44 49] [0,1,6,7,8,50] (cD 50 (sR [mO 51 6,mO 52 1,mO 53 8,iO 54 126 52 53,lO 55 134 54,oO 56 (.build 136 #[(0,(nI 2)),(2,(xT 55))]),oO 57 (.buildSlice 123 1 #[(0,(xT 56))]),aP 58 51 57 123 123 [1],aO 6 58] [0,1,6,7,8] (sR [mO 59 8,bQ .add 60 3 59 1 3,aO 8 60] [0,1,6,7,8] (.exit 1))) (.skip)) [0,1,6,7,8] (sQ [mO 61 7,mO 62 0,bN 63 62 126,bB .geq 64 3 61 63 3,mO 65 64,mG 66 8 65 false,mG 67 1 65 false,oG 68 (bL 67 126) 65 false,oG 69 (bO .geq 3 66 68 3) 65 false,pT 70 65 69] [0,1,6,7,8,70] (cD 70 (sR [aN 4,aB 5 false] [4,5] (.ret)) (.skip)) [0,1,6,7,8] (sR [mO 71 6,mO 72 0,mO 73 7,iO 74 126 72 73,lO 75 134 74,mO 76 1,mO 77 8,iO 78 126 76 77,lO 79 134 78,oO 80 (.build 136 #[(1,(xT 75)),(2,(xT 79))]),oO 81 (.buildSlice 123 1 #[(0,(xT 80))]),aP 82 71 81 123 123 [2],aO 6 82] [0,1,6,7,8] (sR [mO 83 7,bQ .add 84 3 83 1 3,aO 7 84] [0,1,6,7,8] (.reg [mO 85 8,bQ .add 86 3 85 1 3,aO 8 86] [0,1,6,7,8]))))))) 
def HI:CC:=sR [aN 4,aB 5 false] [0,1] (sR [aN 6] [0,1,6] (sR [aI 7 0,aI 8 0] [0,1,6,7,8] (.seq (.block 0 (.loop Bq)) (.keep [6] (sR [mO 87 6,aO 4 87,aB 5 true] [4,5] (.ret))))))
theorem Mj:Ca Tryz.prog 99 88 [(.tmp 4),(.tmp 5)] HI:=AJ Tryz.func99
def Cc:CC:=sQ [mO 11 9,mO 12 0,bN 13 12 123,bB .lss 14 3 11 13 3,mO 15 14,mG 16 0 15 true,mG 17 9 15 true,oG 18 (iA 123 16 17) 15 true,fG 19 136 18 0 15 true,lG 20 3 19 15 true,oG 21 (.binOp .neq 3 (xT 20) (nI 0) 3) 15 true,pF 22 15 21] [0,7,8,9,22] (cD 22 (.skip) (.exit 0)) [0,7,8,9] (.block 1 (sQ [mO 23 0,mO 24 9,iO 25 123 23 24,fO 26 136 25 0,lO 27 3 26,bQ .eql 28 3 27 1 3] [0,7,8,9,28] (cD 28 (.reg [mO 29 7,mO 30 0,mO 31 9,iO 32 123 30 31,fO 33 136 32 1,fO 34 134 33 2,lO 35 25 34,oO 36 (.buildSlice 23 1 #[(0,(xT 35))]),aP 37 29 36 23 23 [0],aO 7 37] [0,7,8,9]) (.reg [mO 38 8,mO 39 0,mO 40 9,iO 41 123 39 40,fO 42 136 41 2,fO 43 134 42 2,lO 44 25 43,oO 45 (.buildSlice 23 1 #[(0,(xT 44))]),aP 46 38 45 23 23 [1],aO 8 46] [0,7,8,9])) [0,7,8,9] (.reg [mO 47 9,bQ .add 48 3 47 1 3,aO 9 48] [0,7,8,9]))) 
def I8:CC:=sR [aN 4,aN 5,aI 6 0] [0,1] (sR [aN 7,aN 8] [0,1,7,8] (sR [mO 10 1,aO 9 10] [0,7,8,9] (.seq (.block 0 (.loop Cc)) (.keep [7,8,9] (sR [mO 49 7,mO 50 8,mO 51 9,aO 4 49,aO 5 50,aO 6 51] [4,5,6] (.ret))))))
theorem Ox:Ca Tryz.prog 101 52 [(.tmp 4),(.tmp 5),(.tmp 6)] I8:=AJ Tryz.func101
def Cj:CC:=sQ [mO 11 5,mO 12 0,bN 13 12 23,bB .lss 14 3 11 13 3] [0,1,5,14] (cD 14 (.skip) (.exit 0)) [0,1,5] (.seq (.block 1 (sR [mO 17 0,mO 18 5,iO 19 23 17 18,lO 20 25 19,mO 21 1,mO 22 5,iO 23 23 21 22,lO 24 25 23,cB 25 60 20 24 25 25,oO 26 (.unOp .not 4 (xT 25))] [0,1,5,26] (cD 26 (sR [aB 4 false] [4] (.ret)) (.skip)))) (.keep [0,1,5] (.reg [mO 15 5,bQ .add 16 3 15 1 3,aO 5 16] [0,1,5]))) 
def FT:CC:=sR [aB 4 false] [0,1] (sQ [mO 6 0,bN 7 6 23,mO 8 1,bN 9 8 23,bB .neq 10 3 7 9 3] [0,1,10] (cD 10 (sR [aB 4 false] [4] (.ret)) (.skip)) [0,1] (sQ [aI 5 0] [0,1,5] (.block 0 (.loop Cj)) [] (sR [aB 4 true] [4] (.ret))))
theorem JT:Ca Tryz.prog 135 27 [(.tmp 4)] FT:=AJ Tryz.func135
def J5:CC:=sR [aN 6] [0,1,2] (sR [aN 7] [0,1,2,7] (sR [mO 8 7,mO 9 0,aP 10 8 9 49 49 [0],aO 7 10] [1,2,7] (sR [mO 11 7,mO 12 1,mO 13 2,oO 14 (.build 65 #[(0,(xT 12)),(1,(xT 13))]),oO 15 (.buildSlice 49 1 #[(0,(xT 14))]),aP 16 11 15 49 49 [1],aO 6 16] [6] (.ret))))
theorem PA:Ca Tryz.prog 96 17 [(.tmp 6)] J5:=AJ Tryz.func96
def H7:CC:=sR [bX 5 25 1 [0],bX 6 25 2 [1],bX 7 25 3 [2],aN 8] [0,5,6,7] (sR [mO 9 0,lO 10 25 5,⟨some 11,(cL 21 #[(xT 10)] #[25]),none,[],2,[],true⟩,⟨some 12,(lD 25 6),none,[],3,[2],false⟩,⟨some 13,(cL 21 #[(xT 12)] #[25]),none,[],4,[],true⟩,⟨some 14,(lD 25 7),none,[],5,[2,4],false⟩,cA 15 21 14 25,oO 16 (.build 51 #[(0,(xT 9)),(1,(xT 11)),(2,(xT 13)),(3,(xT 15))]),oO 17 (.buildSlice 35 1 #[(0,(xT 16))]),aO 8 17] [8] (.ret))
theorem L0:Ca Tryz.prog 65 18 [(.tmp 8)] H7:=AJ Tryz.func65
def Du:CC:=sR [aN 10,aN 11] [0,1,2,3,4] (sQ [mO 12 3,bN 13 12 23,bQ .eql 14 3 13 0 3,mO 15 14,mG 16 3 15 false,mG 17 4 15 false,oG 18 (cL 135 #[(xT 16),(xT 17)] #[23,23]) 15 false,pT 19 15 18] [0,1,2,3,4,19] (cD 19 (sR [mO 20 4,aO 10 20,aN 11] [10,11] (.ret)) (.skip)) [0,1,2,3,4] (sQ [mO 21 4,bN 22 21 23,bQ .eql 23 3 22 0 3] [0,1,2,3,4,23] (cD 23 (sR [mO 24 3,aO 10 24,aN 11] [10,11] (.ret)) (.skip)) [0,1,2,3,4] (sR [mO 25 0,mO 26 2,oO 27 (cL 96 #[(xT 25),(nI 2),(xT 26)] #[49,3,3]),mO 28 1,oO 29 (.build 25 #[(0,(xT 28))]),mO 30 1,mO 31 3,oO 32 (.build 25 #[(0,(xT 30)),(2,(xT 31))]),mO 33 1,mO 34 4,oO 35 (.build 25 #[(0,(xT 33)),(2,(xT 34))]),oO 36 (cL 65 #[(xT 27),(xT 29),(xT 32),(xT 35)] #[49,25,25,25]),aN 10,aO 11 36] [10,11] (.ret))))
theorem EM:Ca Tryz.prog 102 37 [(.tmp 10),(.tmp 11)] Du:=AJ Tryz.func102
def I7:CC:=sR [aL 2 25 [0]] [0,2] (sR [mO 3 0,oO 4 (.buildSlice 22 1 #[(0,(xT 3))]),oO 5 (.build 25 #[(0,(nI 1)),(1,(xT 4))]),sT 25 2 5] [2] (.ret))
theorem N9:Ca Tryz.prog 97 6 [(.cell 2 25)] I7:=AJ Tryz.func97
def Cz:CC:=sQ [mO 6 5,mO 7 0,bN 8 7 26,bB .lss 9 3 6 8 3] [0,1,4,5,9] (cD 9 (.skip) (.exit 0)) [0,1,4,5] (.seq (.block 1 (sR [mO 12 0,mO 13 5,iO 14 26 12 13,fO 15 85 14 0,lO 16 3 15,mO 17 1,bB .eql 18 3 16 17 3] [0,1,4,5,18] (cD 18 (sR [mO 19 0,mO 20 5,iO 21 26 19 20,lO 22 85 21,sT 85 4 22] [4] (.ret)) (.skip)))) (.keep [0,1,4,5] (.reg [mO 10 5,bQ .add 11 3 10 1 3,aO 5 11] [0,1,4,5]))) 
def Ge:CC:=sR [aL 4 85 [0]] [0,1,4] (sQ [aI 5 0] [0,1,4,5] (.block 0 (.loop Cz)) [4] (sR [oO 23 (.build 85 #[]),sT 85 4 23] [4] (.ret)))
theorem J8:Ca Tryz.prog 95 24 [(.cell 4 85)] Ge:=AJ Tryz.func95
def CJ:CC:=sQ [mO 6 5,mO 7 0,bN 8 7 27,bB .lss 9 3 6 8 3] [0,1,4,5,9] (cD 9 (.skip) (.exit 0)) [0,1,4,5] (.seq (.block 1 (sR [mO 12 0,mO 13 5,iO 14 27 12 13,fO 15 88 14 0,lO 16 3 15,mO 17 1,bB .eql 18 3 16 17 3] [0,1,4,5,18] (cD 18 (sR [mO 19 0,mO 20 5,iO 21 27 19 20,fO 22 88 21 1,lO 23 30 22,sT 30 4 23] [4] (.ret)) (.skip)))) (.keep [0,1,4,5] (.reg [mO 10 5,bQ .add 11 3 10 1 3,aO 5 11] [0,1,4,5]))) 
def GO:CC:=sR [aL 4 30 [0]] [0,1,4] (sQ [aI 5 0] [0,1,4,5] (.block 0 (.loop CJ)) [4] (sR [oO 24 (.build 30 #[]),sT 30 4 24] [4] (.ret)))
theorem Kr:Ca Tryz.prog 98 25 [(.cell 4 30)] GO:=AJ Tryz.func98
def DD:CC:=sQ [mO 20 10,fO 21 30 4 3,lO 22 26 21,bN 23 22 26,fO 24 30 5 3,lO 25 26 24,bN 26 25 26,bB .add 27 3 23 26 3,bB .lss 28 3 20 27 3] [4,5,8,9,10,28] (cD 28 (.skip) (.exit 0)) [4,5,8,9,10] (.seq (.block 1 (sR [aI 11 0] [4,5,8,9,10] (sQ [mO 31 10,fO 32 30 4 3,lO 33 26 32,bN 34 33 26,bB .lss 35 3 31 34 3] [4,5,8,9,10,35] (cD 35 (.reg [fO 36 30 4 3,lO 37 26 36,mO 38 10,iO 39 26 37 38,fO 40 85 39 0,lO 41 3 40,aO 11 41] [4,5,8,9,10,11]) (.reg [fO 42 30 5 3,lO 43 26 42,mO 44 10,fO 45 30 4 3,lO 46 26 45,bN 47 46 26,bB .sub 48 3 44 47 3,iO 49 26 43 48,fO 50 85 49 0,lO 51 3 50,aO 11 51] [4,5,8,9,10,11])) [4,5,8,9,10,11] (sR [mO 52 11,mO 53 8,bB .geq 54 3 52 53 3] [4,5,8,9,10,11,54] (cD 54 (.reg [mO 55 11,bQ .add 56 3 55 1 3,aO 8 56] [4,5,8,9,10]) (.skip)))))) (.keep [4,5,8,9,10] (.reg [mO 29 10,bQ .add 30 3 29 1 3,aO 10 30] [4,5,8,9,10])))
def DN:CC:=sQ [mO 57 12,fO 58 30 4 4,lO 59 27 58,bN 60 59 27,fO 61 30 5 4,lO 62 27 61,bN 63 62 27,bB .add 64 3 60 63 3,bB .lss 65 3 57 64 3] [4,5,8,9,12,65] (cD 65 (.skip) (.exit 2)) [4,5,8,9,12] (.seq (.block 3 (sR [aI 13 0] [4,5,8,9,12] (sQ [mO 68 12,fO 69 30 4 4,lO 70 27 69,bN 71 70 27,bB .lss 72 3 68 71 3] [4,5,8,9,12,72] (cD 72 (.reg [fO 73 30 4 4,lO 74 27 73,mO 75 12,iO 76 27 74 75,fO 77 88 76 0,lO 78 3 77,aO 13 78] [4,5,8,9,12,13]) (.reg [fO 79 30 5 4,lO 80 27 79,mO 81 12,fO 82 30 4 4,lO 83 27 82,bN 84 83 27,bB .sub 85 3 81 84 3,iO 86 27 80 85,fO 87 88 86 0,lO 88 3 87,aO 13 88] [4,5,8,9,12,13])) [4,5,8,9,12,13] (sR [mO 89 13,mO 90 9,bB .geq 91 3 89 90 3] [4,5,8,9,12,13,91] (cD 91 (.reg [mO 92 13,bQ .add 93 3 92 1 3,aO 9 93] [4,5,8,9,12]) (.skip)))))) (.keep [4,5,8,9,12] (.reg [mO 66 12,bQ .add 67 3 66 1 3,aO 12 67] [4,5,8,9,12]))) 
def Ik:CC:=sR [bX 3 25 0 [0],bX 4 30 1 [1],bX 5 30 2 [2],aI 6 0,aI 7 0] [3,4,5] (sR [fO 14 25 3 1,lO 15 22 14,bN 16 15 22,fO 17 25 3 2,lO 18 23 17,bN 19 18 23,aO 8 16,aO 9 19] [4,5,8,9] (sQ [aI 10 0] [4,5,8,9,10] (.block 0 (.loop DD)) [4,5,8,9] (sQ [aI 12 0] [4,5,8,9,12] (.block 2 (.loop DN)) [8,9] (sR [mO 94 8,mO 95 9,aO 6 94,aO 7 95] [6,7] (.ret)))))
theorem Nv:Ca Tryz.prog 94 96 [(.tmp 6),(.tmp 7)] Ik:=AJ Tryz.func94
def AY:CC:=sR [bX 5 25 1 [0],bX 6 134 2 [1],bX 7 134 3 [2],aN 8,aN 9] [0,5,6,7] (sQ [fO 16 134 6 1,lO 17 3 16,bQ .neq 18 3 17 1 3,mO 19 18,fG 20 134 7 1 19 true,lG 21 3 20 19 true,oG 22 (.binOp .neq 3 (xT 21) (nI 1) 3) 19 true,pF 23 19 22] [0,5,6,7,23] (cD 23 (sR [mO 25 0,lO 26 25 5,fO 27 134 6 3,lO 28 30 27,fO 29 134 7 3,lO 30 30 29,oO 31 (cL 37 #[(xT 25),(xT 26),(xT 28),(xT 30)] #[49,25,30,30]),mO 24 31,xO 32 24 0,xO 33 24 1,aL 10 25 [3],sT 25 10 32,aO 11 33] [10,11] (sR [lO 34 25 10,oO 35 (.buildSlice 23 1 #[(0,(xT 34))]),mO 36 11,aO 8 35,aO 9 36] [8,9] (.ret))) (.skip)) [0,5,6,7] (sQ [fO 37 134 6 1,lO 38 3 37,bQ .eql 39 3 38 3 3] [0,5,6,7,39] (cD 39 (sR [fO 41 134 6 3,lO 42 30 41,lO 43 25 5,cB 44 36 42 43 30 25,mO 40 44,xO 45 40 0,xO 46 40 1,aL 12 25 [4],sT 25 12 45,aO 13 46] [0,5,12] (sR [lS 47 25 5 0,⟨some 48,(.buildSlice 23 1 #[(0,(xT 47))]),none,[],1,[],true⟩,mO 49 0,⟨some 50,(lD 25 5),none,[],3,[1],false⟩,⟨some 51,(lD 25 12),none,[],4,[1],false⟩,oO 52 (.build 25 #[]),⟨some 53,(cL 65 #[(xT 49),(xT 50),(xT 51),(xT 52)] #[49,25,25,25]),none,[],6,[0,1],false⟩,aO 8 48,aO 9 53] [8,9] (.ret))) (.skip)) [0,5,7] (sQ [fO 54 134 7 1,lO 55 3 54,bQ .eql 56 3 55 3 3] [0,5,7,56] (cD 56 (sR [fO 58 134 7 3,lO 59 30 58,lO 60 25 5,cB 61 36 59 60 30 25,mO 57 61,xO 62 57 0,xO 63 57 1,aL 14 25 [5],sT 25 14 62,aO 15 63] [0,5,14] (sR [lS 64 25 5 0,⟨some 65,(.buildSlice 23 1 #[(0,(xT 64))]),none,[],1,[],true⟩,mO 66 0,⟨some 67,(lD 25 5),none,[],3,[1],false⟩,oO 68 (.build 25 #[]),⟨some 69,(lD 25 14),none,[],5,[1],false⟩,⟨some 70,(cL 65 #[(xT 66),(xT 67),(xT 68),(xT 69)] #[49,25,25,25]),none,[],6,[0,1],false⟩,aO 8 65,aO 9 70] [8,9] (.ret))) (.skip)) [] (sR [aN 8,aN 9] [8,9] (.ret)))))
theorem Bj:Ca Tryz.prog 103 71 [(.tmp 8),(.tmp 9)] AY:=AJ Tryz.func103
def Eh:CC:=sR [fO 48 30 6 3,lS 49 26 48 1,mO 50 14,⟨some 51,(cL 95 #[(xT 49),(xT 50)] #[26,3]),none,[],3,[],true⟩,fO 52 30 7 3,⟨some 53,(lD 26 52),none,[],5,[3],true⟩,mO 54 14,⟨some 55,(cL 95 #[(xT 53),(xT 54)] #[26,3]),none,[],7,[],true⟩,⟨some 16,(.alloc 85),none,[5],8,[1,3,5,7],true⟩,⟨some 17,(.alloc 85),none,[6],9,[1,3,5,7,8],false⟩,sT 85 16 51,sT 85 17 55] [0,5,6,7,8,10,11,12,13,14,15,16,17] (sR [mO 56 15,fO 57 85 16 3,lO 58 61 57,fO 59 85 16 1,lO 60 5 59,⟨some 61,(cL 81 #[(xT 56),(xT 58),(xT 60)] #[61,61,5]),none,[],5,[],true⟩,mO 62 15,fO 63 85 17 3,⟨some 64,(lD 61 63),none,[],8,[5],false⟩,fO 65 85 17 1,⟨some 66,(lD 5 65),none,[],10,[5],false⟩,cE 67 81 62 64 66 61 61 5,aO 18 61,aO 19 67] [0,5,6,7,8,10,11,12,13,14,15,16,17,18,19] (sR [fO 68 85 16 1,lO 69 5 68,fO 70 85 17 1,lO 71 5 70,bB .and 72 5 69 71 5,aO 20 72] [0,5,6,7,8,10,11,12,13,14,15,16,17,18,19,20] (sQ [fO 73 85 16 3,lO 74 61 73,mO 75 20,⟨some 76,(cL 81 #[(.const (.int .u64 0)),(xT 74),(xT 75)] #[61,61,5]),none,[],3,[],true⟩,fO 77 85 17 3,⟨some 78,(lD 61 77),none,[],5,[3],false⟩,mO 79 20,oO 80 (cL 81 #[(.const (.int .u64 0)),(xT 78),(xT 79)] #[61,61,5]),bB .neq 81 61 76 80 61] [0,5,6,7,8,10,11,12,13,14,15,17,18,19,81] (cD 81 (.reg [mO 82 11,mO 83 0,mO 84 14,oO 85 (cL 96 #[(xT 83),(nI 1),(xT 84)] #[49,3,3]),mO 86 15,cA 87 97 86 61,mO 88 18,cA 89 97 88 61,mO 90 19,cA 91 97 90 61,oO 92 (cL 65 #[(xT 85),(xT 87),(xT 89),(xT 91)] #[49,25,25,25]),aP 93 82 92 35 35 [7],aO 11 93] [0,5,6,7,8,10,11,12,13,14,15]) (.reg [mO 94 18,mO 95 19,fO 96 85 17 1,lO 97 5 96,cE 98 81 94 95 97 61 61 5,aO 15 98] [0,5,6,7,8,10,11,12,13,14,15])) [0,5,6,7,8,10,11,12,13,14,15] (.reg [fO 99 25 10 1,lO 100 22 99,mO 101 15,oO 102 (.buildSlice 22 1 #[(0,(xT 101))]),aP 103 100 102 22 22 [8],fO 104 25 10 1,sT 22 104 103] [0,5,6,7,8,10,11,12,13,14]))))
def CP:CC:=sQ [mO 33 14,mO 34 12,bB .lss 35 3 33 34 3] [0,5,6,7,8,10,11,12,13,14,35] (cD 35 (.skip) (.exit 0)) [0,5,6,7,8,10,11,12,13,14] (.seq (.block 1 (sR [oO 15 (.assign (.const (.int .u64 0)))] [0,5,6,7,8,10,11,12,13,14,15] (sQ [mO 38 14,fO 39 25 5 1,lO 40 22 39,bN 41 40 22,bB .lss 42 3 38 41 3] [0,5,6,7,8,10,11,12,13,14,15,42] (cD 42 (.reg [fO 43 25 5 1,lO 44 22 43,mO 45 14,iO 46 22 44 45,lO 47 61 46,aO 15 47] [0,5,6,7,8,10,11,12,13,14,15]) (.skip)) [0,5,6,7,8,10,11,12,13,14,15] Eh))) (.keep [0,5,6,7,8,10,11,12,13,14] (.reg [mO 36 14,bQ .add 37 3 36 1 3,aO 14 37] [0,5,6,7,8,10,11,12,13,14])))
def Ek:CC:=sR [mO 122 0,mO 123 21,⟨some 124,(cL 96 #[(xT 122),(nI 0),(xT 123)] #[49,3,3]),none,[],2,[],true⟩,⟨some 125,(lD 25 22),none,[],3,[2],true⟩,fO 126 30 6 4,⟨some 127,(lD 27 126),none,[],5,[2],true⟩,mO 128 21,⟨some 129,(cL 98 #[(xT 127),(xT 128)] #[27,3]),none,[],7,[3],true⟩,fO 130 30 7 4,⟨some 131,(lD 27 130),none,[],9,[2,7],true⟩,mO 132 21,⟨some 133,(cL 98 #[(xT 131),(xT 132)] #[27,3]),none,[],11,[3],true⟩,⟨some 134,(cL 37 #[(xT 124),(xT 125),(xT 129),(xT 133)] #[49,25,30,30]),none,[],12,[],true⟩,mO 121 134,xO 135 121 0,xO 136 121 1,⟨some 23,(.alloc 25),none,[10],16,[2,3,5,7,9,11,12],false⟩,sT 25 23 135,aO 24 136] [0,5,6,7,8,10,11,13,21,23,24] (sR [fO 137 25 10 2,lO 138 23 137,lO 139 25 23,oO 140 (.buildSlice 23 1 #[(0,(xT 139))]),aP 141 138 140 23 23 [11],fO 142 25 10 2,sT 23 142 141] [0,5,6,7,8,10,11,13,21,24] (.reg [mO 143 11,mO 144 24,aP 145 143 144 35 35 [12],aO 11 145] [0,5,6,7,8,10,11,13,21]))
def CI:CC:=sQ [mO 105 21,mO 106 13,bB .lss 107 3 105 106 3] [0,5,6,7,8,10,11,13,21,107] (cD 107 (.skip) (.exit 2)) [0,5,6,7,8,10,11,13,21] (.seq (.block 3 (sR [oO 110 (.build 25 #[]),aL 22 25 [9],sT 25 22 110] [0,5,6,7,8,10,11,13,21,22] (sQ [mO 111 21,fO 112 25 5 2,lO 113 23 112,bN 114 113 23,bB .lss 115 3 111 114 3] [0,5,6,7,8,10,11,13,21,22,115] (cD 115 (.reg [fO 116 25 5 2,lO 117 23 116,mO 118 21,iO 119 23 117 118,lO 120 25 119,sT 25 22 120] [0,5,6,7,8,10,11,13,21,22]) (.skip)) [0,5,6,7,8,10,11,13,21,22] Ek))) (.keep [0,5,6,7,8,10,11,13,21] (.reg [mO 108 21,bQ .add 109 3 108 1 3,aO 21 109] [0,5,6,7,8,10,11,13,21]))) 
def GN:CC:=sR [bX 5 25 1 [0],bX 6 30 2 [1],bX 7 30 3 [2],aL 8 25 [3],aN 9] [0,5,6,7,8] (sR [oO 25 (.build 25 #[(0,(nI 1))]),aL 10 25 [4],sT 25 10 25] [0,5,6,7,8,10] (sR [aN 11] [0,5,6,7,8,10,11] (sR [lO 27 25 5,lO 28 30 6,lO 29 30 7,cE 30 94 27 28 29 25 30 30,mO 26 30,xO 31 26 0,xO 32 26 1,aO 12 31,aO 13 32] [0,5,6,7,8,10,11,12,13] (sQ [aI 14 0] [0,5,6,7,8,10,11,12,13,14] (.block 0 (.loop CP)) [0,5,6,7,8,10,11,13] (sQ [aI 21 0] [0,5,6,7,8,10,11,13,21] (.block 2 (.loop CI)) [8,10,11] (sR [lO 146 25 10,mO 147 11,sT 25 8 146,aO 9 147] [8,9] (.ret)))))))
theorem KB:Ca Tryz.prog 63 148 [(.cell 8 25),(.tmp 9)] GN:=AJ Tryz.func63
def Ct:CC:=sQ [mO 36 15,mO 37 10,bN 38 37 123,bB .leq 39 3 36 38 3] [0,5,8,10,12,13,14,15,39] (cD 39 (.skip) (.exit 0)) [0,5,8,10,12,13,14,15] (.seq (.block 1 (sR [mO 43 10,mO 44 15,cB 45 101 43 44 123 3,mO 42 45,xO 46 42 0,xO 47 42 1,xO 48 42 2,aO 16 46,aO 17 47,aO 18 48] [0,5,8,10,12,13,14,16,17,18] (sR [mO 50 0,fO 51 25 5 0,lO 52 3 51,mO 53 14,mO 54 16,mO 55 17,oO 56 (cL 102 #[(xT 50),(xT 52),(xT 53),(xT 54),(xT 55)] #[49,3,3,23,23]),mO 49 56,xO 57 49 0,xO 58 49 1,aO 19 57,aO 20 58] [0,5,8,10,12,13,14,18,19,20] (sR [fO 59 25 12 2,lO 60 23 59,mO 61 19,aP 62 60 61 23 23 [5],fO 63 25 12 2,sT 23 63 62] [0,5,8,10,12,13,14,18,20] (sR [mO 64 13,mO 65 20,aP 66 64 65 35 35 [6],aO 13 66] [0,5,8,10,12,13,14,18] (sR [mO 67 18,aO 15 67] [0,5,8,10,12,13,14,15] (sR [mO 68 15,mO 69 10,bN 70 69 123,bB .lss 71 3 68 70 3] [0,5,8,10,12,13,14,15,71] (cD 71 (sR [mO 73 0,mO 74 14,⟨some 75,(cL 96 #[(xT 73),(nI 0),(xT 74)] #[49,3,3]),none,[],2,[],true⟩,fO 76 25 5 2,⟨some 77,(lD 23 76),none,[],4,[2],false⟩,mO 78 14,iO 79 23 77 78,⟨some 80,(lD 25 79),none,[],7,[2],false⟩,mO 81 10,mO 82 15,iO 83 123 81 82,fO 84 136 83 1,⟨some 85,(lD 134 84),none,[],12,[2],false⟩,mO 86 10,mO 87 15,iO 88 123 86 87,fO 89 136 88 2,⟨some 90,(lD 134 89),none,[],17,[2],false⟩,oO 91 (cL 103 #[(xT 75),(xT 80),(xT 85),(xT 90)] #[49,25,134,134]),mO 72 91,xO 92 72 0,xO 93 72 1,aO 21 92,aO 22 93] [0,5,8,10,12,13,14,15,21,22] (sR [fO 94 25 12 2,lO 95 23 94,mO 96 21,aP 97 95 96 23 23 [7],fO 98 25 12 2,sT 23 98 97] [0,5,8,10,12,13,14,15,22] (sR [mO 99 13,mO 100 22,aP 101 99 100 35 35 [8],aO 13 101] [0,5,8,10,12,13,14,15] (.reg [mO 102 14,bQ .add 103 3 102 1 3,aO 14 103] [0,5,8,10,12,13,14,15])))) (.skip))))))))) (.keep [0,5,8,10,12,13,14,15] (.reg [mO 40 15,bQ .add 41 3 40 1 3,aO 15 41] [0,5,8,10,12,13,14,15]))) 
def H8:CC:=sR [bX 5 25 1 [0],bX 6 30 2 [1],bX 7 30 3 [2],aL 8 25 [3],aN 9] [0,5,6,7,8] (sR [fO 24 30 6 6,lO 25 28 24,⟨some 26,(cL 100 #[(xT 25),(nI 2)] #[28,3]),none,[],2,[],true⟩,fO 27 30 7 6,⟨some 28,(lD 28 27),none,[],4,[2],false⟩,oO 29 (cL 100 #[(xT 28),(nI 2)] #[28,3]),cB 30 99 26 29 126 126,mO 23 30,xO 31 23 0,xO 32 23 1,aO 10 31,aO 11 32] [0,5,8,10] (sR [fO 33 25 5 0,lO 34 3 33,oO 35 (.build 25 #[(0,(xT 34))]),aL 12 25 [4],sT 25 12 35] [0,5,8,10,12] (sR [aN 13] [0,5,8,10,12,13] (sR [aI 14 0] [0,5,8,10,12,13,14] (sQ [aI 15 0] [0,5,8,10,12,13,14,15] (.block 0 (.loop Ct)) [8,12,13] (sR [lO 104 25 12,mO 105 13,sT 25 8 104,aO 9 105] [8,9] (.ret)))))))
theorem L3:Ca Tryz.prog 64 106 [(.cell 8 25),(.tmp 9)] H8:=AJ Tryz.func64
def BM:CC:=sR [bX 5 25 1 [0],bX 6 30 2 [1],bX 7 30 3 [2],aL 8 25 [3],aN 9] [0,5,6,7,8] (sR [lO 15 30 6,lO 16 25 5,cB 17 36 15 16 30 25,mO 14 17,xO 18 14 0,xO 19 14 1,aL 10 25 [4],sT 25 10 18,aO 11 19] [0,5,6,7,8,10] (sR [lO 21 30 7,lO 22 25 5,cB 23 36 21 22 30 25,mO 20 23,xO 24 20 0,xO 25 20 1,aL 12 25 [5],sT 25 12 24,aO 13 25] [0,5,6,7,8,10,12] (.seq (.block 0 (sR [fO 27 30 6 0,lO 28 3 27,bQ .eql 29 3 28 0 3,aO 26 29] [0,5,6,7,8,10,12,26] (cD 26 (sR [lO 30 25 12,sT 25 8 30,aN 9] [8,9] (.ret)) (sR [fO 32 30 7 0,lO 33 3 32,bQ .eql 34 3 33 0 3,aO 31 34] [0,5,6,7,8,10,12,31] (cD 31 (sR [lO 35 25 10,sT 25 8 35,aN 9] [8,9] (.ret)) (sR [fO 37 30 6 0,lO 38 3 37,bQ .eql 39 3 38 2 3,mO 40 39,fG 41 30 7 0 40 true,lG 42 3 41 40 true,oG 43 (.binOp .eql 3 (xT 42) (nI 2) 3) 40 true,pF 44 40 43,aO 36 44] [0,5,6,7,8,10,12,36] (cD 36 (sR [mO 45 0,lO 46 25 5,lO 47 30 6,lO 48 30 7,oO 49 (cL 63 #[(xT 45),(xT 46),(xT 47),(xT 48)] #[49,25,30,30]),xO 50 49 0,xO 51 49 1,sT 25 8 50,aO 9 51] [8,9] (.ret)) (sR [fO 53 30 6 0,lO 54 3 53,bQ .eql 55 3 54 3 3,mO 56 55,fG 57 30 7 0 56 true,lG 58 3 57 56 true,oG 59 (.binOp .eql 3 (xT 58) (nI 3) 3) 56 true,pF 60 56 59,aO 52 60] [0,5,6,7,8,10,12,52] (cD 52 (sR [mO 61 0,lO 62 25 5,lO 63 30 6,lO 64 30 7,oO 65 (cL 64 #[(xT 61),(xT 62),(xT 63),(xT 64)] #[49,25,30,30]),xO 66 65 0,xO 67 65 1,sT 25 8 66,aO 9 67] [8,9] (.ret)) (sR [lO 69 25 10,lO 70 25 12,cB 71 60 69 70 25 25,aO 68 71] [0,5,8,10,12,68] (cD 68 (sR [lO 72 25 10,sT 25 8 72,aN 9] [8,9] (.ret)) (.skip)))))))))))) (.keep [0,5,8,10,12] (sR [lS 73 25 5 0,mO 74 0,lO 75 25 5,lO 76 25 10,lO 77 25 12,⟨some 78,(cL 65 #[(xT 74),(xT 75),(xT 76),(xT 77)] #[49,25,25,25]),none,[],5,[0],false⟩,sT 25 8 73,aO 9 78] [8,9] (.ret))))))
theorem Cn:Ca Tryz.prog 37 79 [(.cell 8 25),(.tmp 9)] BM:=AJ Tryz.func37
def Fm:CC:=sR [bX 3 25 0 [0],bX 4 30 1 [1],bX 5 30 2 [2],aL 6 25 [3],aN 7,aB 8 false] [3,4,5,6] (sR [lO 16 30 4,lO 17 25 3,cB 18 36 16 17 30 25,mO 15 18,xO 19 15 0,xO 20 15 1,aL 9 25 [4],sT 25 9 19,aO 10 20] [3,4,5,6,10] (sR [lO 22 30 5,lO 23 25 3,cB 24 36 22 23 30 25,mO 21 24,xO 25 21 0,xO 26 21 1,aL 11 25 [5],sT 25 11 25,aO 12 26] [3,4,5,6,10,12] (sQ [mO 27 10,oO 28 (.unOp .not 4 (xT 27)),mO 29 28,mG 30 12 29 false,oG 31 (.unOp .not 4 (xT 30)) 29 false,pT 32 29 31] [3,4,5,6,32] (cD 32 (sR [oO 33 (.build 25 #[]),sT 25 6 33,aN 7,aB 8 false] [6,7,8] (.ret)) (.skip)) [3,4,5,6] (sR [lO 35 25 3,lO 36 30 4,lO 37 30 5,oO 38 (cL 37 #[nS,(xT 35),(xT 36),(xT 37)] #[49,25,30,30]),mO 34 38,xO 39 34 0,xO 40 34 1,aL 13 25 [6],sT 25 13 39,aO 14 40] [6,13,14] (sR [lO 41 25 13,cA 42 21 41 25,mO 43 14,sT 25 6 42,aO 7 43,aB 8 true] [6,7,8] (.ret))))))
theorem Hz:Ca Tryz.prog 15 44 [(.cell 6 25),(.tmp 7),(.tmp 8)] Fm:=AJ Tryz.func15
end Go.Proofs.YtlaapfplenlfaaaGreat
namespace Go.Proofs.YtlaapfplenlfaaaGreat
open Go Go.G Go.Proofs Go.PL
theorem MF (l:Cw) (k n:Int) (h:l.length≤1000000):G.Spec Tryz.prog 96 [A8 l,iv k,iv n] (A8 (l++[(k,n)])):=by
 refine Ag PA (by simp) fun w0 I0=>?_;unfold J5;simp;refine⟨by omega,by omega,?_⟩;rw[AN (by simp)];exact A3 (f:=Lo) (l:=l++[(k,n)]) (by simp[Lo]) (by simp) (fun x=>by rw[Mv];rfl)
theorem Kp (w:Int):G.Spec Tryz.prog 97 [uv w] (tX (AL w)):=by
 refine Ag N9 (by simp) fun w0 I0=>?_;unfold I7;simp;exact AE ⟨Ad rfl,Ah,Ah,trivial⟩
theorem GG {l:Cw} {b o t:T} (wb:AD b) (wo:AD o) (wt:AD t):G.Spec Tryz.prog 65 [A8 l,tX b,tX o,tX t] (G5 [⟨l,Af b,Af o,Af t⟩]):=by
 refine Ag L0 (by simp) fun w0 I0=>?_;unfold H7;simp;refine Ae (Fj b wb) rfl ?_;simp;refine Ae (Fj o wo) rfl ?_;simp;refine Ae (Fj t wt) rfl ?_;simp;have e:G5 [⟨l,Af b,Af o,Af t⟩] = .sl false [.agg [A8 l,iv b.kind,CQ (Af b).words,Bx (Af b).kids,iv o.kind,CQ (Af o).words,Bx (Af o).kids,iv t.kind,CQ (Af t).words,Bx (Af t).kids]]:=by simp[RV]
 rw[e];exact Ah
variable {n0:Nat} {w0:World} {I0:Nat→Prop} {Q:Exit→Sta→Prop}
theorem iq {ks:List KE} (hl:ks.length≤10000000000000) {n:Nat}
  (hq:∀ (H':Hp) (st:List (Nat × A)),H' [0]=⟨1,.cells (BI)⟩→ks.find? (fun k=>decide (k.at_=(n:Int)))=none→Q (.exit 0) ⟨lk ([(0,Ka ks),(1,iv n),(4,.pob [0] 1 0)]++st),H'⟩)
  (hr:∀ (H':Hp) (x:KE),ks.find? (fun k=>decide (k.at_=(n:Int)))=some x→H' [0]=⟨1,.cells (eL x.e)⟩→Q .ret ⟨lk [(4,.pob [0] 1 0)],H'⟩) :
  ∀ (j i:Nat) (H:Hp),i+j=ks.length→ks.find? (fun k=>decide (k.at_=(n:Int)))=(ks.drop i).find? (fun k=>decide (k.at_=(n:Int)))→H [0]=⟨1,.cells BI⟩ →
  LoopC (cx Tryz.prog w0 I0 n0) CJ Q ⟨lk [(0,Ka ks),(1,iv n),(4,.pob [0] 1 0),(5,iv i)],H⟩:=by
 intro j;induction j with
 |zero=>
  intro i H hj hf h0;have:i=ks.length:=by omega
  subst this;rw[List.drop_length] at hf;refine Ab Aj CJ.eq_1 ?_;simp;have:=hq H [(5,iv ks.length),(9,bv false)] h0 hf;simpa using this
 |succ j ih=>
  intro i H hj hf h0;have hlt:i<ks.length:=by omega
  have ew:=AI i;have hd:ks.drop i=ks[i]::ks.drop (i+1):=(List.getElem_cons_drop hlt).symm;have next:=ih (i+1)
  rw[hd,List.find?_cons] at hf;generalize hx:ks[i]=x at *;refine Ab Aj CJ.eq_1 ?_;by_cases c:x.at_=(n:Int)
  ·rw[decide_eq_true c] at hf;simp[hlt,hx,Aa,c,h0,BI];exact hr _ x hf (by simp[Aa])
  ·rw[decide_eq_false c] at hf;simp[hlt,hx,Aa,c];rw[ew];exact next _ (by omega) hf (by simp[Aa,h0])
theorem dk {ks:List WE} (hl:ks.length≤10000000000000) {n:Nat}
  (hq:∀ (H':Hp) (st:List (Nat × A)),H' [0]=⟨1,.cells [iv 0,u8 0,uv 0,uv 0]⟩→ks.find? (fun k=>decide (k.at_=(n:Int)))=none→Q (.exit 0) ⟨lk ([(0,JJ ks),(1,iv n),(4,.pob [0] 1 0)]++st),H'⟩)
  (hr:∀ (H':Hp) (x:WE),ks.find? (fun k=>decide (k.at_=(n:Int)))=some x→H' [0]=⟨1,.cells [iv x.at_,u8 x.mask,uv x.old,uv x.new]⟩→Q .ret ⟨lk [(4,.pob [0] 1 0)],H'⟩) :
  ∀ (j i:Nat) (H:Hp),i+j=ks.length→ks.find? (fun k=>decide (k.at_=(n:Int)))=(ks.drop i).find? (fun k=>decide (k.at_=(n:Int)))→H [0]=⟨1,.cells [iv 0,u8 0,uv 0,uv 0]⟩ →
  LoopC (cx Tryz.prog w0 I0 n0) Cz Q ⟨lk [(0,JJ ks),(1,iv n),(4,.pob [0] 1 0),(5,iv i)],H⟩:=by
 intro j;induction j with
 |zero=>
  intro i H hj hf h0;have:i=ks.length:=by omega
  subst this;rw[List.drop_length] at hf;refine Ab Aj Cz.eq_1 ?_;simp;have:=hq H [(5,iv ks.length),(9,bv false)] h0 hf;simpa using this
 |succ j ih=>
  intro i H hj hf h0;have hlt:i<ks.length:=by omega
  have ew:=AI i;have hd:ks.drop i=ks[i]::ks.drop (i+1):=(List.getElem_cons_drop hlt).symm;have next:=ih (i+1)
  rw[hd,List.find?_cons] at hf;generalize hx:ks[i]=x at *;refine Ab Aj Cz.eq_1 ?_;by_cases c:x.at_=(n:Int)
  ·rw[decide_eq_true c] at hf;simp[hlt,hx,Aa,c,h0];exact hr _ x hf (by simp[Aa,c])
  ·rw[decide_eq_false c] at hf;simp[hlt,hx,Aa,c];rw[ew];exact next _ (by omega) hf (by simp[Aa,h0])
theorem QN (ks:List KE) (hl:ks.length≤10000000000000) (n:Nat):G.Spec Tryz.prog 98 [Ka ks,iv n] (eX (CR ks n)):=by
 refine Ag Kr (by simp) fun w0 I0=>?_;unfold GO;simp;refine LoopC.le (Ay [(0,Ka ks),(1,iv n),(4,.pob [0] 1 0),(5,iv (0:Nat))] (by simp)) ?_;refine iq (n:=n) hl (fun H' st h0 hf=>?_) (fun H' x hf h0=>?_) ks.length 0 _ (by omega) (by simp) (by simp[BI])
 ·have:CR ks n=E0:=by unfold CR;rw[hf];rfl
  rw[this];simp[h0,BI,Aa];exact AE (Ra _)
 ·have:CR ks n=x.e:=by unfold CR;rw[hf];rfl
  rw[this];simp[h0];exact Ad (by simp)
theorem OU (ks:List WE) (hl:ks.length≤10000000000000) (n:Nat):G.Spec Tryz.prog 95 [JJ ks,iv n] (wX (B8 ks n)):=by
 refine Ag J8 (by simp) fun w0 I0=>?_;unfold Ge;simp;refine LoopC.le (Ay [(0,JJ ks),(1,iv n),(4,.pob [0] 1 0),(5,iv (0:Nat))] (by simp)) ?_;refine dk (n:=n) hl (fun H' st h0 hf=>?_) (fun H' x hf h0=>?_) ks.length 0 _ (by omega) (by simp) (by simp)
 ·have:B8 ks n=⟨0,0,0,0⟩:=by unfold B8;rw[hf];rfl
  rw[this];simp[h0,Aa];exact Ad (by simp)
 ·have:B8 ks n=x:=by unfold B8;rw[hf];rfl
  rw[this];simp[h0];exact Ad (by simp)
theorem We (n:Nat) (a b:List WE):Bu n (a++b)=Bu (Bu n a) b:=by simp[Bu,List.foldl_append]
theorem cb (n:Nat) (x:WE):Bu n [x]=max n (x.at_+1).toNat:=rfl
theorem UF (n:Nat) (a b:List KE):Bf n (a++b)=Bf (Bf n a) b:=by simp[Bf,List.foldl_append]
theorem bu (n:Nat) (x:KE):Bf n [x]=max n (x.at_+1).toNat:=rfl
theorem iw {p q:E} {n:Nat} {m:Int} (la:p.words.length≤1000000) (lb:q.words.length≤1000000) (ap:∀ k,k ∈ p.words++q.words→0≤k.at_∧k.at_≤900000) {H:Hp} (h1:H [1]=⟨1,.cells (eL p)⟩) (h2:H [2]=⟨1,.cells (eL q)⟩)
  (hq:∀ st,Q (.exit 0) ⟨lk ([(4,.pob [1] 1 0),(5,.pob [2] 1 0),(8,iv (Bu n (p.words++q.words))),(9,iv m)]++st),H⟩):∀ (j i:Nat),i+j=(p.words++q.words).length →
  LoopC (cx Tryz.prog w0 I0 n0) DD Q ⟨lk [(4,.pob [1] 1 0),(5,.pob [2] 1 0),(8,iv (Bu n ((p.words++q.words).take i))),(9,iv m),(10,iv i)],H⟩:=by
 have ea:i64.wrap ((p.words.length:Int)+q.words.length)=((p.words++q.words).length:Nat):=by rw[A4 (by omega) (by omega)];simp
 have hll:(p.words++q.words).length=p.words.length+q.words.length:=by simp
 intro j;induction j with
 |zero=>
  intro i hj;have:i=(p.words++q.words).length:=by omega
  subst this;rw[AN (Ei _)];have:=hq [(10,iv (p.words++q.words).length),(28,bv false)];refine Ab Aj DD.eq_1 ?_;simp[h1,h2,ea];simpa using this
 |succ j ih=>
  intro i hj;have hlt:i<(p.words++q.words).length:=by omega
  have ew:=AI i;have next:=ih (i+1) (by omega)
  have hat:=ap _ (BD hlt);rw[Kj hlt,We,cb] at next
  refine Ab Aj DD.eq_1 ?_;generalize Bu n ((p.words++q.words).take i)=t at *;by_cases hi:i<p.words.length
  ·rw[List.getElem_append_left hi] at next hat
   generalize hx:p.words[i]=x at *;have ex:i64.wrap (x.at_+1)=x.at_+1:=Hl;simp only[List.length_append] at hlt ea;have hlz:(i:Int)<p.words.length+q.words.length:=by omega
   by_cases hc:(t:Int)≤x.at_
   ·have em:max t (x.at_+1).toNat=(x.at_+1).toNat:=by omega
    rw[em,show(((x.at_+1).toNat:Nat):Int)=x.at_+1 from by omega] at next
    simp[h1,h2,ea,hlz,hi,hx,hc,ex,ew];exact next
   ·have em:max t (x.at_+1).toNat=t:=by omega
    rw[em] at next
    simp[h1,h2,ea,hlz,hi,hx,hc,ew];exact next
  ·rw[List.getElem_append_right (by omega)] at next hat
   have h9:i-p.words.length<q.words.length:=by omega
   have e9:i64.wrap ((i:Int)-p.words.length)=((i-p.words.length:Nat):Int):=LR;generalize hx:q.words[i-p.words.length]=x at *;have ex:i64.wrap (x.at_+1)=x.at_+1:=Hl;simp only[List.length_append] at hlt ea;have hlz:(i:Int)<p.words.length+q.words.length:=by omega
   by_cases hc:(t:Int)≤x.at_
   ·have em:max t (x.at_+1).toNat=(x.at_+1).toNat:=by omega
    rw[em,show(((x.at_+1).toNat:Nat):Int)=x.at_+1 from by omega] at next
    simp[h1,h2,ea,hlz,hi,h9,e9,hx,hc,ex,ew];exact next
   ·have em:max t (x.at_+1).toNat=t:=by omega
    rw[em] at next
    simp[h1,h2,ea,hlz,hi,h9,e9,hx,hc,ew];exact next
theorem i5 {p q:E} {n m:Nat} (la:p.kids.length≤1000000) (lb:q.kids.length≤1000000) (ap:∀ k,k ∈ p.kids++q.kids→0≤k.at_∧k.at_≤900000) {H:Hp} (h1:H [1]=⟨1,.cells (eL p)⟩) (h2:H [2]=⟨1,.cells (eL q)⟩)
  (hq:∀ st,Q (.exit 2) ⟨lk ([(4,.pob [1] 1 0),(5,.pob [2] 1 0),(8,iv m),(9,iv (Bf n (p.kids++q.kids)))]++st),H⟩):∀ (j i:Nat),i+j=(p.kids++q.kids).length →
  LoopC (cx Tryz.prog w0 I0 n0) DN Q ⟨lk [(4,.pob [1] 1 0),(5,.pob [2] 1 0),(8,iv m),(9,iv (Bf n ((p.kids++q.kids).take i))),(12,iv i)],H⟩:=by
 have ea:i64.wrap ((p.kids.length:Int)+q.kids.length)=((p.kids++q.kids).length:Nat):=by rw[A4 (by omega) (by omega)];simp
 have hll:(p.kids++q.kids).length=p.kids.length+q.kids.length:=by simp
 intro j;induction j with
 |zero=>
  intro i hj;have:i=(p.kids++q.kids).length:=by omega
  subst this;rw[AN (Ei _)];have:=hq [(12,iv (p.kids++q.kids).length),(65,bv false)];refine Ab Aj DN.eq_1 ?_;simp[h1,h2,ea];simpa using this
 |succ j ih=>
  intro i hj;have hlt:i<(p.kids++q.kids).length:=by omega
  have ew:=AI i;have next:=ih (i+1) (by omega)
  have hat:=ap _ (BD hlt);rw[Kj hlt,UF,bu] at next
  refine Ab Aj DN.eq_1 ?_;generalize Bf n ((p.kids++q.kids).take i)=t at *;by_cases hi:i<p.kids.length
  ·rw[List.getElem_append_left hi] at next hat
   generalize hx:p.kids[i]=x at *;have ex:i64.wrap (x.at_+1)=x.at_+1:=Hl;simp only[List.length_append] at hlt ea;have hlz:(i:Int)<p.kids.length+q.kids.length:=by omega
   by_cases hc:(t:Int)≤x.at_
   ·have em:max t (x.at_+1).toNat=(x.at_+1).toNat:=by omega
    rw[em,show(((x.at_+1).toNat:Nat):Int)=x.at_+1 from by omega] at next
    simp[h1,h2,ea,hlz,hi,hx,hc,ex,ew];exact next
   ·have em:max t (x.at_+1).toNat=t:=by omega
    rw[em] at next
    simp[h1,h2,ea,hlz,hi,hx,hc,ew];exact next
  ·rw[List.getElem_append_right (by omega)] at next hat
   have h9:i-p.kids.length<q.kids.length:=by omega
   have e9:i64.wrap ((i:Int)-p.kids.length)=((i-p.kids.length:Nat):Int):=LR;generalize hx:q.kids[i-p.kids.length]=x at *;have ex:i64.wrap (x.at_+1)=x.at_+1:=Hl;simp only[List.length_append] at hlt ea;have hlz:(i:Int)<p.kids.length+q.kids.length:=by omega
   by_cases hc:(t:Int)≤x.at_
   ·have em:max t (x.at_+1).toNat=(x.at_+1).toNat:=by omega
    rw[em,show(((x.at_+1).toNat:Nat):Int)=x.at_+1 from by omega] at next
    simp[h1,h2,ea,hlz,hi,h9,e9,hx,hc,ex,ew];exact next
   ·have em:max t (x.at_+1).toNat=t:=by omega
    rw[em] at next
    simp[h1,h2,ea,hlz,hi,h9,e9,hx,hc,ew];exact next
theorem XH {o:T} {p q:E} (lo:o.words.length*8≤140737488355328) (lp:p.words.length≤1000000) (lq:q.words.length≤1000000) (kp:p.kids.length≤1000000) (kq:q.kids.length≤1000000) (aw:∀ k,k ∈ p.words++q.words→0≤k.at_∧k.at_≤900000) (ak:∀ k,k ∈ p.kids++q.kids→0≤k.at_∧k.at_≤900000) :
  G.Spec Tryz.prog 94 [tX o,eX p,eX q] (.tup [iv (Bu (Bu o.words.length p.words) q.words),iv (Bf (Bf o.kids.length p.kids) q.kids)]):=by
 refine Ag Nv (by simp) fun w0 I0=>?_;unfold Ik;simp;refine LoopC.le (Ay [(4,.pob [1] 1 0),(5,.pob [2] 1 0),(8,iv (Bu o.words.length ((p.words++q.words).take 0))),(9,iv o.kids.length),(10,iv (0:Nat))] (by simp[Bu])) ?_;refine iw (n:=o.words.length) lp lq aw (by simp) (by simp) (fun st=>?_) _ 0 (Nat.zero_add _);simp;refine LoopC.le (Ay [(4,.pob [1] 1 0),(5,.pob [2] 1 0),(8,iv (Bu o.words.length (p.words++q.words))),(9,iv (Bf o.kids.length ((p.kids++q.kids).take 0))),(12,iv (0:Nat))] (by simp[Bf])) ?_;refine i5 (n:=o.kids.length) kp kq ak (by simp) (by simp) (fun st=>?_) _ 0 (Nat.zero_add _);simp[We,UF];exact An ⟨Ad rfl,Ad rfl,trivial⟩
theorem MI (l:Cw):A.softL (l.map Lo)=l.map Lo:=by
 rw[Bd,List.map_map];rfl
theorem fM {a b:List T} (ha:∀ t,t ∈ a→AD t) (hb:∀ t,t ∈ b→AD t) (hl:a.length=b.length) (hle:a.length≤10000000000000)
  (hq:(a.zip b).all (fun p=>G9 p.1 p.2)=true→∀ st,Q (.exit 0) ⟨lk ([(0,Bx a),(1,Bx b)]++st),fun _=>⟨0,.none⟩⟩) (hr:(a.zip b).all (fun p=>G9 p.1 p.2)=false→Q .ret ⟨lk [(4,bv false)],fun _=>⟨0,.none⟩⟩) :
  ∀ (j i:Nat),i+j=a.length→(a.zip b).all (fun p=>G9 p.1 p.2)=((a.drop i).zip (b.drop i)).all (fun p=>G9 p.1 p.2) →
  LoopC (cx Tryz.prog w0 I0 n0) Cj Q ⟨lk [(0,Bx a),(1,Bx b),(5,iv i)],fun _=>⟨0,.none⟩⟩:=by
 intro j;induction j with
 |zero=>
  intro i hj he;have:i=a.length:=by omega
  subst this;rw[List.drop_length] at he;have:=hq (by rw[he];rfl) [(5,iv a.length),(14,bv false)];refine Ab Aj Cj.eq_1 ?_;simp;simpa using this
 |succ j ih=>
  intro i hj he;have hlt:i<a.length:=by omega
  have hlt2:i<b.length:=by omega
  have ew:=AI i;rw[← List.getElem_cons_drop hlt,← List.getElem_cons_drop hlt2,List.zip_cons_cons,List.all_cons] at he;have E:=Iu (ha _ (BD hlt)) (hb _ (BD hlt2)) (B9 _ (ha _ (BD hlt)));have next:=ih (i+1) (by omega)
  generalize hx:a[i]=x at *;generalize hy:b[i]=y at *;refine Ab Aj Cj.eq_1 ?_;simp[hlt,hlt2,hx,hy];refine Ae E (by simp) ?_;cases c:G9 x y with
  |false=>
   simp only[c,Bool.false_and] at he;simp;exact hr he
  |true=>
   simp only[c,Bool.true_and] at he;simp[ew];exact next he
theorem QS {a b:List T} (ha:∀ t,t ∈ a→AD t) (hb:∀ t,t ∈ b→AD t) (hle:a.length≤10000000000000):G.Spec Tryz.prog 135 [Bx a,Bx b] (bv (Ig a b)):=by
 refine Ag JT (by simp) fun w0 I0=>?_;unfold FT;by_cases hl:a.length=b.length
 ·have e:Ig a b=(a.zip b).all fun p=>G9 p.1 p.2:=by unfold Ig;rw[decide_eq_true hl];rfl
  rw[e];simp[hl];refine LoopC.le (Ay [(0,Bx a),(1,Bx b),(5,iv (0:Nat))] (by simp)) ?_;refine fM ha hb hl hle (fun h st=>?_) (fun h=>?_) a.length 0 (by omega) (by simp)
  ·rw[h];simp;exact Ad rfl
  ·rw[h];simp;exact Ad rfl
 ·have e:Ig a b=false:=by unfold Ig;rw[decide_eq_false hl];rfl
  rw[e];have hz:¬ ((a.length:Int)=b.length):=by omega
  simp[hz];exact Ad rfl
theorem SO {at':Cw} (hat:at'.length≤1000000) {kind:Int} (hk:Db kind) {n:Nat} {a b:List T} (ha:∀ t,t ∈ a→AD t) (hb:∀ t,t ∈ b→AD t) (la:a.length≤1000000) (lb:b.length≤1000000) :
  ∃ l:List T,l.map Af=(Eb at' kind n a b).1∧(∀ t,t ∈ l→AD t)∧l.length≤1000000∧G.Spec Tryz.prog 102 [A8 at',iv kind,iv n,Bx a,Bx b] (.tup [Bx l,G5 (Eb at' kind n a b).2]):=by
 have S:=QS ha hb (by omega);by_cases a0:a=[]
 ·subst a0;have e:Eb at' kind n [] b=(b.map Af,[]):=if_pos (.inl rfl);refine⟨b,by rw[e],hb,lb,?_⟩;rw[e];refine Ag EM (by simp) fun w0 I0=>?_;unfold Du;simp;refine Ao (q:=true) rfl (fun h=>by cases h) (fun h=>by cases h) (L:=[]) (x:=.any) rfl ?_;simp;exact An ⟨Ah,Ah,trivial⟩
 have la0:0<a.length:=List.length_pos_iff.2 a0;by_cases sm:a.map Af=b.map Af
 ·have e:Eb at' kind n a b=(b.map Af,[]):=if_pos (.inr sm);rw[eqLs_iff.2 sm] at S;refine⟨b,by rw[e],hb,lb,?_⟩;rw[e];refine Ag EM (by simp) fun w0 I0=>?_;unfold Du;simp[a0];refine Ao rfl (fun _=>S) (fun _=>by simp) (by simp) ?_;simp;exact An ⟨Ah,Ah,trivial⟩
 have sf:Ig a b=false:=by
  cases h:Ig a b with
  |false=>rfl
  |true=>exact absurd (eqLs_iff.1 h) sm
 rw[sf] at S;by_cases b0:b=[]
 ·subst b0;have e:Eb at' kind n a []=(a.map Af,[]):=by unfold Eb;rw[if_neg (by simp[a0]),if_pos rfl]
  refine⟨a,by rw[e],ha,la,?_⟩;rw[e];refine Ag EM (by simp) fun w0 I0=>?_;unfold Du;simp[a0];refine Ao rfl (fun _=>S) (fun _=>by simp) (by simp) ?_;simp[a0];exact An ⟨Ah,Ah,trivial⟩
 have e:Eb at' kind n a b=([],[⟨at'++[(2,(n:Int))],Af (.mk kind [] []),Af (.mk kind [] a),Af (.mk kind [] b)⟩]):=by unfold Eb;rw[if_neg (by simp[a0,sm]),if_neg b0]
 refine⟨[],by rw[e];rfl,fun t ht=>by simp at ht,by simp,?_⟩;rw[e];have w:∀ l:List T,(∀ t,t ∈ l→AD t)→l.length≤1000000→AD (.mk kind [] l):=fun l h1 h2=>wfT_iff.2 ⟨hk,by simp,by simp,by show l.length*56≤_;omega,h1⟩;have AT:=MF at' 2 n hat;have C:G.Spec Tryz.prog 65 [A8 (at'++[(2,(n:Int))]),.agg [iv kind,.sl true [],.sl true []],.agg [iv kind,.sl true [],Bx a],.agg [iv kind,.sl true [],Bx b]] (G5 [⟨at'++[(2,(n:Int))],Af (.mk kind [] []),Af (.mk kind [] a),Af (.mk kind [] b)⟩]):=
  (GG (l:=at'++[(2,(n:Int))]) (w [] (fun t ht=>by simp at ht) (by simp)) (w a ha la) (w b hb lb)).soft (by rw[A8];simp only[A.softL,A.soft,FK,D3,MI,List.map_nil];rfl)
 refine Ag EM (by simp) fun w0 I0=>?_;unfold Du;simp[a0];refine Ao rfl (fun _=>S) (fun _=>by simp) (by simp) ?_;simp[b0];refine Ae AT (by simp) ?_;simp;refine Ae C (by simp) ?_;simp;exact An ⟨Ah,Ah,trivial⟩
abbrev UI:=Nat × U
def kU:U→Int
 |.keep=>0
 |.del _=>1
 |.ins _=>2
 |.desc _=>3
def uT:U→List A
 |.del t=>[iv t.kind,CQ t.words,Bx t.kids]
 |.ins t=>[iv t.kind,CQ t.words,Bx t.kids]
 |_=>[iv 0,.sl true [],.sl true []]
def uE:U→List A
 |.desc e=>eL e
 |_=>BI
def Lu:U→Bool
 |.ins _=>true
 |_=>false
def uC (x:UI):List A:=iv x.1::iv (kU x.2)::(uT x.2++(uE x.2++[bv (Lu x.2)]))
def uA (x:UI):A:=.agg (uC x)
@[simp] theorem w6 (x:UI):(uA x).cells=uC x:=rfl
@[simp] theorem nh (x:UI):(uC x).length=17:=by obtain⟨i,u⟩:=x;cases u<;>simp[uC,uT,uE,BI]
@[simp] theorem z8 (l:List UI):CX 17 (l.map uA)=true:=by
 rw[FH];intro x hx;obtain⟨y,_,rfl⟩:=List.mem_map.1 hx;simp
abbrev gX (l:List UI):A:=.sl false (l.map uA)
theorem PW (x:UI):((uA x).cells.length == 17&&(uA x).cells.all fun y=>A.bare1 y&&y.one)=true:=by obtain⟨i,u⟩:=x;cases u<;>simp[uC,uT,uE,BI]
def KY:Nat→List OP→List UI
 |_,[]=>[]
 |i,o::os=>(Ja o).map (fun u=>(i,u))++KY (i+1) os
theorem KZ:∀ (os:List OP) (i:Nat),(KY i os).map Prod.snd=En os
 |[],_=>rfl
 |o::os,i=>by
  rw[KY,List.map_append,KZ os,List.map_map];show(Ja o).map (Prod.snd ∘ fun u=>(i,u))++En os=Ja o++En os;congr 1;exact List.map_id'' (fun u=>rfl) _
theorem M6 (os:List OP) (i:Nat):(KY i os).length=(En os).length:=by rw[← KZ os i,List.length_map]
theorem T8:∀ (a b:List OP) (i:Nat),KY i (a++b)=KY i a++KY (i+a.length) b
 |[],b,i=>by simp[KY]
 |o::a,b,i=>by
  rw[List.cons_append,KY,KY,T8 a b,List.append_assoc,List.length_cons,show i+1+a.length=i+(a.length+1) from by omega]
theorem wI {os:List OP} {o:OP} {i w:Nat} (hn:0≤o.n∧o.n≤1048576) {A0:List UI} (hA:A0.length≤10000000) {H0:Hp}
  (hq:∀ (H':Hp) (v':Nat) (st:List (Nat × A)),(∀ p,p ≠ [1]→H' p=H0 p)→H' [1]=⟨v',.arr 17 ((A0++List.replicate (if o.kind=0 then o.n.toNat else 0) (i,U.keep)).map uA)⟩→Q (.exit 2) ⟨lk ([(0,IW os),(1,iv 2),(5,.osl [1] v' 17 0 (A0++List.replicate (if o.kind=0 then o.n.toNat else 0) (i,U.keep)).length),(6,iv i),(7,.pob [0] w 0)]++st),H'⟩) :
  ∀ (j k v:Nat) (H:Hp),k+j=(if o.kind=0 then o.n.toNat else 0)→H [0]=⟨w,.cells (Lw o)⟩→(∀ p,p ≠ [1]→H p=H0 p)→H [1]=⟨v,.arr 17 ((A0++List.replicate k (i,U.keep)).map uA)⟩ →
  LoopC (cx Tryz.prog w0 I0 n0) Dj Q ⟨lk [(0,IW os),(1,iv 2),(5,.osl [1] v 17 0 (A0.length+k)),(6,iv i),(7,.pob [0] w 0),(8,iv k)],H⟩:=by
 intro j;induction j with
 |zero=>
  intro k v H hj h0 hH h1;have hk:k=(if o.kind=0 then o.n.toNat else 0):=by omega
  have:=hq H v [(8,iv k),(28,bv false)] hH (by rw[← hk];exact h1);rw[← hk,List.length_append,List.length_replicate] at this;refine Ab Aj Dj.eq_1 ?_;have hc:(k:Int)<o.n→o.kind ≠ 0:=fun h e=>by rw[if_pos e] at hk;omega
  by_cases c:(k:Int)<o.n
  ·have c2:=hc c;simp[h0,c,c2];simpa using this
  ·simp[h0,c];simpa using this
 |succ j ih=>
  intro k v H hj h0 hH h1;have k0:o.kind=0:=by
   apply Classical.byContradiction;intro h;rw[if_neg h] at hj;omega
  have hlt:(k:Int)<o.n:=by rw[if_pos k0] at hj;omega
  have ew:=AI k;have next:=ih (k+1) (v+1)
  refine Ab Aj Dj.eq_1 ?_;simp[h0,h1,hlt,k0,Aa];refine⟨by omega,?_⟩;rw[ew];refine next _ (by omega) (by simp[Aa,h0]) (fun p hp=>by simp[Aa,hp,hH]) ?_
  simp[Aa,uA,uC,uT,uE,kU,Lu,BI,List.replicate_succ'];rw[AN (by simp),List.append_assoc]
def Yp (k:Int) (t:T):U:=if k=2 then .ins t else .del t
theorem sh {os:List OP} {o:OP} {i w:Nat} (hl:o.l.length≤1048576) (hk:o.l ≠ []→o.kind=1∨o.kind=2) {A0:List UI} (hA:A0.length≤10000000) {H0:Hp}
  (hq:∀ (H':Hp) (v':Nat) (st:List (Nat × A)),(∀ p,p ≠ [1]→H' p=H0 p)→H' [1]=⟨v',.arr 17 ((A0++o.l.map fun t=>(i,Yp o.kind t)).map uA)⟩→Q (.exit 4) ⟨lk ([(0,IW os),(1,iv 2),(5,.osl [1] v' 17 0 (A0++o.l.map fun t=>(i,Yp o.kind t)).length),(6,iv i),(7,.pob [0] w 0)]++st),H'⟩) :
  ∀ (j k v:Nat) (H:Hp),k+j=o.l.length→H [0]=⟨w,.cells (Lw o)⟩→(∀ p,p ≠ [1]→H p=H0 p)→H [1]=⟨v,.arr 17 ((A0++(o.l.take k).map fun t=>(i,Yp o.kind t)).map uA)⟩ →
  LoopC (cx Tryz.prog w0 I0 n0) Dn Q ⟨lk [(0,IW os),(1,iv 2),(5,.osl [1] v 17 0 (A0.length+k)),(6,iv i),(7,.pob [0] w 0),(9,iv k)],H⟩:=by
 intro j;induction j with
 |zero=>
  intro k v H hj h0 hH h1;have hk:k=o.l.length:=by omega
  subst hk;rw[List.take_length] at h1;have:=hq H v [(9,iv o.l.length),(40,bv false)] hH h1;refine Ab Aj Dn.eq_1 ?_;simp[h0];simpa using this
 |succ j ih=>
  intro k v H hj h0 hH h1;have hlt:k<o.l.length:=by omega
  have hkk:=hk (fun e=>by rw[e] at hlt;simp at hlt);have ew:=AI k;have next:=ih (k+1) (v+1)
  have e9:(A0++(o.l.take (k+1)).map fun t=>(i,Yp o.kind t))=(A0++(o.l.take k).map fun t=>(i,Yp o.kind t))++[(i,Yp o.kind o.l[k])]:=by rw[Kj hlt,List.map_append,← List.append_assoc];rfl
  rw[e9] at next
  have hlen:(A0++(o.l.take k).map fun t=>(i,Yp o.kind t)).length=A0.length+k:=by simp;omega
  generalize hB:(A0++(o.l.take k).map fun t=>(i,Yp o.kind t))=B at *;generalize hx:o.l[k]=x at *;refine Ab Aj Dn.eq_1 ?_;rcases hkk with h | h
  ·have hc:¬ (o.kind=2):=by omega
   simp[h0,h1,hlt,hx,hc,Aa];refine⟨by omega,?_⟩;rw[ew];refine next _ (by omega) (by simp[Aa,h0]) (fun p hp=>by simp[Aa,hp,hH]) ?_
   simp[Aa,uA,uC,uT,uE,kU,Lu,BI,Yp,h];rw[AN (by simp[hlen])]
  ·simp[h0,h1,hlt,hx,h,Aa];refine⟨by omega,?_⟩;rw[ew];refine next _ (by omega) (by simp[Aa,h0]) (fun p hp=>by simp[Aa,hp,hH]) ?_
   simp[Aa,uA,uC,uT,uE,kU,Lu,BI,Yp,h];rw[AN (by simp[hlen])]
theorem uY {os:List OP} (hol:os.length≤10000000) (hok:∀ x,x ∈ os→Ht x∧x.l.length≤1048576) (hu:(En os).length≤10000000)
  (hq:∀ (H':Hp) (v':Nat) (st:List (Nat × A)),H' [1]=⟨v',.arr 17 ((KY 0 os).map uA)⟩→Q (.exit 0) ⟨lk ([(0,IW os),(1,iv 2),(5,.osl [1] v' 17 0 (KY 0 os).length)]++st),H'⟩) :
  ∀ (j i v:Nat) (H:Hp),i+j=os.length→H [1]=⟨v,.arr 17 ((KY 0 (os.take i)).map uA)⟩ →
  LoopC (cx Tryz.prog w0 I0 n0) Dh Q ⟨lk [(0,IW os),(1,iv 2),(5,.osl [1] v 17 0 (KY 0 (os.take i)).length),(6,iv i)],H⟩:=by
 intro j;induction j with
 |zero=>
  intro i v H hj h1;have:i=os.length:=by omega
  subst this;rw[List.take_length] at h1 ⊢;have:=hq H v [(6,iv os.length),(13,bv false)] h1;refine Ab Aj Dh.eq_1 ?_;simp;simpa using this
 |succ j ih=>
  intro i v H hj h1;have hlt:i<os.length:=by omega
  have ew:=AI i;have next:=ih (i+1)
  obtain⟨hoo,hll⟩:=hok _ (BD hlt);have e9:KY 0 (os.take (i+1))=KY 0 (os.take i)++(Ja os[i]).map fun u=>(i,u):=by
   rw[Kj hlt,T8,List.length_take];simp[KY];omega
  have hlen:(KY 0 (os.take (i+1))).length≤10000000:=by
   have:KY 0 os=KY 0 (os.take (i+1))++KY (0+(os.take (i+1)).length) (os.drop (i+1)):=by rw[← T8,List.take_append_drop]
   have:=congrArg List.length this;rw[M6,List.length_append] at this;omega
  rw[e9] at next hlen
  rw[List.length_append,List.length_map] at hlen;generalize KY 0 (os.take i)=B at *;generalize hx:os[i]=o at *;refine Ab Aj Dh.eq_1 ?_;simp[hlt,hx,Aa];have hn:0≤o.n∧o.n≤1048576:=by unfold Ht at hoo;omega
  have hkl:o.l ≠ []→o.kind=1∨o.kind=2:=fun h=>by
   rcases hoo with ⟨_,_,_,e⟩ | ⟨e,_⟩ | ⟨e,_⟩ | ⟨_,_,e⟩
   ·exact absurd e h
   ·exact .inl e
   ·exact .inr e
   ·exact absurd e h
  have hB:B.length≤10000000:=by omega
  have hR:(B++List.replicate (if o.kind=0 then o.n.toNat else 0) (i,U.keep)).length≤10000000:=by
   rw[List.length_append,List.length_replicate];by_cases k0:o.kind=0
   ·have:(Ja o).length=o.n.toNat:=by unfold Ja;rw[if_pos k0,List.length_replicate]
    rw[if_pos k0];omega
   ·rw[if_neg k0];omega
  refine LoopC.le (Ay [(0,IW os),(1,iv 2),(5,.osl [1] v 17 0 (B.length+0)),(6,iv i),(7,.pob [0] ((H [0]).u+1) 0),(8,iv (0:Nat))] (by simp)) ?_;refine wI (o:=o) hn hB (H0:=Az H [0] ⟨(H [0]).u+1,.cells (Lw o)⟩) (fun H' v' st kH k1=>?_) _ 0 v _ (Nat.zero_add _) (by simp[Aa]) (fun _ _=>rfl) (by simp[Aa,h1]);have k0:=kH [0] (by simp);simp[Aa] at k0;simp;refine LoopC.le (Ay [(0,IW os),(1,iv 2),(5,.osl [1] v' 17 0 ((B++List.replicate (if o.kind=0 then o.n.toNat else 0) (i,U.keep)).length+0)),(6,iv i),(7,.pob [0] ((H [0]).u+1) 0),(9,iv (0:Nat))] (by simp)) ?_;refine sh (o:=o) hll hkl hR (H0:=H') (fun H2 v2 st2 k2 k21=>?_) _ 0 v' _ (Nat.zero_add _) k0 (fun _ _=>rfl) (by simpa using k1);have k20:=k2 [0] (by simp);rw[k0] at k20;by_cases k3:o.kind=3
  ·have hl0:o.l=[]:=Classical.byContradiction fun h=>by have:=hkl h;omega
   have eu:(B++List.replicate (if o.kind=0 then o.n.toNat else 0) (i,U.keep))++o.l.map (fun t=>(i,Yp o.kind t))=B:=by rw[if_neg (by omega),hl0];simp
   have eo:Ja o=[.desc o.e]:=by unfold Ja;rw[if_neg (by omega),if_neg (by omega),if_neg (by omega)]
   rw[eu] at k21 ⊢;rw[eo,List.map_cons,List.map_nil,List.length_append] at next
   simp[k20,k21,k3,Aa];refine⟨by omega,?_⟩;rw[ew];refine next _ _ (by omega) ?_
   simp[Aa,uA,uC,uT,uE,kU,Lu];rw[AN (by simp)]
  ·have eu:(B++List.replicate (if o.kind=0 then o.n.toNat else 0) (i,U.keep))++o.l.map (fun t=>(i,Yp o.kind t))=B++(Ja o).map fun u=>(i,u):=by
    unfold Ja;rcases hoo with ⟨e,_,_,e2⟩ | ⟨e,_⟩ | ⟨e,_⟩ | ⟨e,_⟩
    ·rw[if_pos e,if_pos e,e2];simp
    ·rw[if_neg (by omega),if_neg (by omega),if_pos e,e,List.map_map];simp[Yp,Function.comp_def]
    ·rw[if_neg (by omega),if_neg (by omega),if_neg (by omega),if_pos e,e,List.map_map];simp[Yp,Function.comp_def]
    ·exact absurd e k3
   rw[eu] at k21 ⊢;simp[k20,k3];rw[ew];have:=next _ H2 (by omega) k21
   simpa using this
theorem Qt {os:List OP} (hol:os.length≤10000000) (hok:∀ x,x ∈ os→Ht x∧x.l.length≤1048576) (hu:(En os).length≤10000000):G.Spec Tryz.prog 100 [IW os,iv 2] (gX (KY 0 os)):=by
 refine Ag Mm (by simp) fun w0 I0=>?_;unfold HN;simp;refine LoopC.le (E6 5 [1] 17 (by simp)) ?_;refine LoopC.le (Ay [(0,IW os),(1,iv 2),(5,.osl [1] 1 17 0 (KY 0 (os.take 0)).length),(6,iv (0:Nat))] (by simp[upd,KY])) ?_;refine uY hol hok hu (fun H' v st h1=>?_) os.length 0 1 _ (by omega) (by simp[Aa,KY]);simp;exact A3 (by rw[h1];simp) rfl PW
@[simp] theorem Abj (x:UI) (h:16<(uC x).length):(uC x)[16]=bv (Lu x.2):=by obtain⟨i,u⟩:=x;cases u<;>simp[uC,uT,uE,BI,Lu]
@[simp] theorem Yz (x:UI):(uC x).take 17=uC x:=AN (by simp)
@[simp] theorem xA (x:UI):A.ones (uC x)=true:=by obtain⟨i,u⟩:=x;cases u<;>simp[uC,uT,uE,BI,Lu]
theorem X5 (x:UI):∀ y,y ∈ uC x→y.bare1=true:=fun y hy=>by
 have h1:=PW x;rw[Bool.and_eq_true] at h1;have:=List.all_eq_true.1 h1.2 y hy;rw[Bool.and_eq_true] at this;exact this.1
abbrev Wj:UI:=(0,.keep)
abbrev PI:=Int × UI × UI
def pC (x:PI):List A:=iv x.1::(uC x.2.1++uC x.2.2)
def pA (x:PI):A:=.agg (pC x)
@[simp] theorem tu (x:PI):(pA x).cells=pC x:=rfl
@[simp] theorem Aaw (x:PI):(pC x).length=35:=by simp[pC]
@[simp] theorem AaX (l:List PI):CX 35 (l.map pA)=true:=by
 rw[FH];intro x hx;obtain⟨y,_,rfl⟩:=List.mem_map.1 hx;simp
abbrev jQ (l:List PI):A:=.sl false (l.map pA)
theorem iJ (x:PI):((pA x).cells.length == 35&&(pA x).cells.all fun y=>A.bare1 y&&y.one)=true:=by
 have h1:=PW x.2.1;have h2:=PW x.2.2;rw[Bool.and_eq_true] at h1 h2 ⊢;refine⟨by simp,?_⟩;show(iv x.1::(uC x.2.1++uC x.2.2)).all _=true;rw[List.all_cons,List.all_append];have e1:(uC x.2.1).all (fun y=>A.bare1 y&&y.one)=true:=h1.2;have e2:(uC x.2.2).all (fun y=>A.bare1 y&&y.one)=true:=h2.2;rw[e1,e2];rfl
inductive WY:List UI→List UI→List PI→Prop
 |nil:WY [] [] []
 |fst (a:UI) (us vs:List UI) (l:List PI) (h:Lu a.2=true) (g:WY us vs l):WY (a::us) vs ((1,a,Wj)::l)
 |snd (us:List UI) (b:UI) (vs:List UI) (l:List PI) (h:∀ a,us.head? = some a→Lu a.2=false) (h2:Lu b.2=true) (g:WY us vs l):WY us (b::vs) ((2,Wj,b)::l)
 |both (a:UI) (us:List UI) (b:UI) (vs:List UI) (l:List PI) (h:Lu a.2=false) (h2:Lu b.2=false) (g:WY us vs l):WY (a::us) (b::vs) ((0,a,b)::l)
theorem NS (a b:List A):A.ones (a++b)=(A.ones a&&A.ones b):=by simp[A.ones]
theorem dC (x y:UI) (r:List A) (hr:r.length=17):splice (uC x++r) 17 (uC y)=uC x++uC y:=by
 unfold splice;have hx:=nh x;rw[List.take_append_of_le_length (by omega),Yz,List.drop_of_length_le (by simp[hr])];simp
theorem oz {us vs:List UI} (hus:us.length≤10000000) (hvs:vs.length≤10000000)
  {L:List PI} (hL:L.length≤100000000)
  (hq:∀ (H':Hp) (v':Nat) (st:List (Nat × A)),H' [0]=⟨v',.arr 35 (L.map pA)⟩→Q (.exit 0) ⟨lk ([(0,gX us),(1,gX vs),(6,.osl [0] v' 35 0 L.length)]++st),H'⟩) :
  ∀ {us' vs':List UI} {l:List PI},WY us' vs' l→∀ (i j v:Nat) (B:List PI) (H:Hp),us.drop i=us'→vs.drop j=vs'→i≤us.length→j≤vs.length→L=B++l→H [0]=⟨v,.arr 35 (B.map pA)⟩ →
  LoopC (cx Tryz.prog w0 I0 n0) Bq Q ⟨lk [(0,gX us),(1,gX vs),(6,.osl [0] v 35 0 B.length),(7,iv i),(8,iv j)],H⟩:=by
 intro us' vs' l h;induction h with
 |nil=>
  intro i j v B H h1 h2 hi hj hLe h0;have e1:i=us.length:=by have:=List.drop_eq_nil_iff.1 h1;omega
  have e2:j=vs.length:=by have:=List.drop_eq_nil_iff.1 h2;omega
  rw[List.append_nil] at hLe;subst hLe;subst e1;subst e2;have:=hq H v [(7,iv us.length),(8,iv vs.length),(18,bv false)] h0;refine Ab Aj Bq.eq_1 ?_;simp;simpa using this
 |fst a us' vs' l ha _ ih=>
  intro i j v B H h1 h2 hi hj hLe h0;have hlt:i<us.length:=by
   apply Classical.byContradiction;intro h;rw[List.drop_eq_nil_of_le (by omega)] at h1;cases h1
  have hd:=List.getElem_cons_drop hlt;rw[h1] at hd;obtain⟨ea,ed⟩:=List.cons.inj hd;have ew:=AI i;have next:=ih (i+1) j (v+1) (B++[(1,a,Wj)])
  have hb1:=X5 a;refine Ab Aj Bq.eq_1 ?_;simp[hlt,ea,ha,NS];refine⟨fun y hy=>by rcases hy with h | rfl | rfl | rfl | rfl | rfl | rfl | rfl | rfl | rfl<;>first | exact hb1 _ h | rfl,?_⟩;simp[h0,Aa];refine⟨by rw[hLe,List.length_append] at hL;omega,?_⟩;rw[ew];rw[List.length_append] at next
  refine next _ ed h2 (by omega) hj (by rw[hLe];simp) ?_
  simp[Aa,pA,pC,AN];simp[uC,uT,uE,BI,kU,Lu]
 |snd us' b vs' l ha hb _ ih=>
  intro i j v B H h1 h2 hi hj hLe h0;have hlt:j<vs.length:=by
   apply Classical.byContradiction;intro h;rw[List.drop_eq_nil_of_le (by omega)] at h2;cases h2
  have hd:=List.getElem_cons_drop hlt;rw[h2] at hd;obtain⟨ea,ed⟩:=List.cons.inj hd;have ew:=AI j;have next:=ih i (j+1) (v+1) (B++[(2,Wj,b)])
  have hb1:=X5 b;by_cases hil:i<us.length
  ·have hax:Lu us[i].2=false:=ha _ (by rw[← h1,← List.getElem_cons_drop hil];rfl);refine Ab Aj Bq.eq_1 ?_;simp[hil,hlt,ea,hb,hax,NS];refine⟨hb1,?_⟩;simp[h0,Aa];refine⟨by rw[hLe,List.length_append] at hL;omega,?_⟩;rw[ew];rw[List.length_append] at next
   refine next _ h1 ed hi (by omega) (by rw[hLe];simp) ?_
   simp[Aa,pA,pC,AN];simp[uC,uT,uE,BI,kU,Lu]
  ·refine Ab Aj Bq.eq_1 ?_;simp[hil,hlt,ea,hb,NS];refine⟨hb1,?_⟩;simp[h0,Aa];refine⟨by rw[hLe,List.length_append] at hL;omega,?_⟩;rw[ew];rw[List.length_append] at next
   refine next _ h1 ed hi (by omega) (by rw[hLe];simp) ?_
   simp[Aa,pA,pC,AN];simp[uC,uT,uE,BI,kU,Lu]
 |both a us' b vs' l ha hb _ ih=>
  intro i j v B H h1 h2 hi hj hLe h0;have hlt:i<us.length:=by
   apply Classical.byContradiction;intro h;rw[List.drop_eq_nil_of_le (by omega)] at h1;cases h1
  have hlt2:j<vs.length:=by
   apply Classical.byContradiction;intro h;rw[List.drop_eq_nil_of_le (by omega)] at h2;cases h2
  have hd:=List.getElem_cons_drop hlt;rw[h1] at hd;obtain⟨ea,ed⟩:=List.cons.inj hd;have hd2:=List.getElem_cons_drop hlt2;rw[h2] at hd2;obtain⟨ea2,ed2⟩:=List.cons.inj hd2;have ew:=AI i;have ew2:=AI j;have next:=ih (i+1) (j+1) (v+1) (B++[(0,a,b)])
  have hb1:=X5 a;have hb2:=X5 b;have g1:¬ (us.length≤i):=by omega
  have g2:¬ (vs.length≤j):=by omega
  refine Ab Aj Bq.eq_1 ?_;simp[hlt,hlt2,ea,ea2,ha,hb,NS,g1,g2,dC];refine⟨fun y hy=>by rcases hy with h | h;exact hb1 _ h;exact hb2 _ h,?_⟩;simp[h0,Aa];refine⟨by rw[hLe,List.length_append] at hL;omega,?_⟩;rw[ew,ew2];rw[List.length_append] at next
  refine next _ ed ed2 (by omega) (by omega) (by rw[hLe];simp) ?_
  simp[Aa,pA,pC,AN]
theorem Xo {us vs:List UI} (hus:us.length≤10000000) (hvs:vs.length≤10000000) {L:List PI} (hL:L.length≤100000000) (h:WY us vs L):G.Spec Tryz.prog 99 [gX us,gX vs] (.tup [jQ L,bv true]):=by
 refine Ag Mj (by simp) fun w0 I0=>?_;unfold HI;simp;refine LoopC.le (E6 6 [0] 35 (by simp)) ?_;refine LoopC.le (Ay [(0,gX us),(1,gX vs),(6,.osl [0] 1 35 0 ([]:List PI).length),(7,iv (0:Nat)),(8,iv (0:Nat))] (by simp[upd])) ?_;refine oz hus hvs hL (fun H' v st h0=>?_) h 0 0 1 [] _ rfl rfl (Nat.zero_le _) (Nat.zero_le _) rfl (by simp[Aa]);simp;exact An ⟨A3 (by rw[h0];simp) rfl iJ,Ad rfl,trivial⟩
def Ns:List UI→List (Nat × T)
 |(i,.ins t)::us=>(i,t)::Ns us
 |_=>[]
def FD:List UI→List UI
 |(i,.ins t)::us=>FD us
 |us=>us
theorem DZ:∀ us:List UI,(Ns us).map Prod.snd=Ey (us.map Prod.snd)∧(FD us).map Prod.snd=Dy (us.map Prod.snd)∧(∀ a,(FD us).head? = some a→Lu a.2=false)
 |[]=>⟨rfl,rfl,fun a h=>(by cases h)⟩
 |(i,.ins t)::us=>⟨by rw[Ns,List.map_cons,(DZ us).1];rfl,by rw[FD,(DZ us).2.1];rfl,fun a h=>(DZ us).2.2 a (by rw[FD] at h;exact h)⟩
 |(i,.keep)::us=>⟨rfl,rfl,fun a h=>(by cases h;rfl)⟩
 |(i,.del t)::us=>⟨rfl,rfl,fun a h=>(by cases h;rfl)⟩
 |(i,.desc e)::us=>⟨rfl,rfl,fun a h=>(by cases h;rfl)⟩
abbrev bA (p:Nat × T):PI:=(1,(p.1,.ins p.2),Wj)
abbrev Zk (p:Nat × T):PI:=(2,Wj,(p.1,.ins p.2))
def Z5:List T→List UI→List UI→List PI
 |[],us,vs=>(Ns us).map bA++((Ns vs).map Zk++[])
 |_::ks,us,vs=>(Ns us).map bA++((Ns vs).map Zk++((0,(FD us).headD Wj,(FD vs).headD Wj)::Z5 ks (FD us).tail (FD vs).tail))
theorem YW:∀ (us vs:List UI) (l:List PI),WY (FD us) (FD vs) l→WY us vs ((Ns us).map bA++((Ns vs).map Zk++l)):=by
 have h2:∀ (us:List UI) (h:∀ a,us.head? = some a→Lu a.2=false) (vs:List UI) (l:List PI),WY us (FD vs) l→WY us vs ((Ns vs).map Zk++l):=fun us h vs=>by
  induction vs with
  |nil=>exact fun l g=>g
  |cons x vs ih=>
   obtain⟨i,u⟩:=x;cases u with
   |ins t=>exact fun l g=>.snd us _ vs _ h rfl (ih l g)
   |keep=>exact fun l g=>g
   |del t=>exact fun l g=>g
   |desc t=>exact fun l g=>g
 intro us;induction us with
 |nil=>exact fun vs l g=>h2 [] (fun a h=>by cases h) vs l g
 |cons x us ih=>
  obtain⟨i,u⟩:=x;cases u with
  |ins t=>exact fun vs l g=>.fst _ us vs _ rfl (ih vs l g)
  |keep=>exact fun vs l g=>h2 _ (fun a h=>by cases h;rfl) vs l g
  |del t=>exact fun vs l g=>h2 _ (fun a h=>by cases h;rfl) vs l g
  |desc t=>exact fun vs l g=>h2 _ (fun a h=>by cases h;rfl) vs l g
theorem YV {R:E→T→T→Prop} {us:List U} {ys:List T} (h:LdU R us [] ys):Dy us=[]:=by
 obtain⟨y1,y2,_,_,g,hn⟩:=JF h;generalize Dy us=r at *;cases g with
 |nil=>rfl
 |ins t y g=>exact absurd rfl (hn _ _)
theorem eR {R:E→T→T→Prop} {us:List U} {k:T} {ks ys:List T} (h:LdU R us (k::ks) ys):Dy us ≠ []:=by
 obtain⟨y1,y2,_,_,g,hn⟩:=JF h;generalize Dy us=r at *;cases g<;>simp
theorem YA {R:E→T→T→Prop}:∀ (ks:List T) (us vs:List UI) (ys zs:List T),LdU R (us.map Prod.snd) ks ys→LdU R (vs.map Prod.snd) ks zs→WY us vs (Z5 ks us vs)
 |[],us,vs,ys,zs,h1,h2=>by
  have e1:=YV h1;have e2:=YV h2;rw[← (DZ us).2.1] at e1;rw[← (DZ vs).2.1] at e2;have e1:=List.map_eq_nil_iff.1 e1;have e2:=List.map_eq_nil_iff.1 e2;rw[Z5];exact YW us vs [] (by rw[e1,e2];exact .nil)
 |k::ks,us,vs,ys,zs,h1,h2=>by
  have n1:=eR h1;have n2:=eR h2;obtain⟨y2,q1,_⟩:=Oc h1;obtain⟨z2,q2,_⟩:=Oc h2;have f1:=(DZ us).2.2;have f2:=(DZ vs).2.2;rw[← (DZ us).2.1] at n1 q1;rw[← (DZ vs).2.1] at n2 q2;rw[Z5];refine YW us vs _ ?_;rw[← List.map_tail] at q1 q2;generalize FD us=ru at *;generalize FD vs=rv at *;cases ru with
  |nil=>exact absurd rfl n1
  |cons a ru=>
   cases rv with
   |nil=>exact absurd rfl n2
   |cons b rv=>exact .both a ru b rv _ (f1 a rfl) (f2 b rfl) (YA ks ru rv _ _ q1 q2)
abbrev GI:=Bool × Nat × T
def oc (x:GI):PI:=if x.1=true then bA x.2 else Zk x.2
def Ji:List GI→List T
 |(true,_,t)::l=>t::Ji l
 |(false,_,_)::l=>Ji l
 |[]=>[]
def Jd:List GI→List T
 |(false,_,t)::l=>t::Jd l
 |(true,_,_)::l=>Jd l
 |[]=>[]
theorem ic {L:List PI} (hL:L.length≤100000000) {rest:List PI} (hr:∀ x,rest.head? = some x→x.1=0) {FA FB:List T} {N:Nat}
  (hq:∀ (H':Hp) (v w:Nat) (st:List (Nat × A)),H' [0]=⟨v,.arr 3 (FA.map tA)⟩→H' [1]=⟨w,.arr 3 (FB.map tA)⟩→Q (.exit 0) ⟨lk ([(0,jQ L),(7,.osl [0] v 3 0 FA.length),(8,.osl [1] w 3 0 FB.length),(9,iv N)]++st),H'⟩) :
  ∀ (G:List GI) (i v w:Nat) (A B:List T) (H:Hp),L.drop i=G.map oc++rest→i≤L.length→i+G.length=N→A.length≤i→B.length≤i→FA=A++Ji G→FB=B++Jd G→H [0]=⟨v,.arr 3 (A.map tA)⟩→H [1]=⟨w,.arr 3 (B.map tA)⟩ →
  LoopC (cx Tryz.prog w0 I0 n0) Cc Q ⟨lk [(0,jQ L),(7,.osl [0] v 3 0 A.length),(8,.osl [1] w 3 0 B.length),(9,iv i)],H⟩:=by
 intro G;induction G with
 |nil=>
  intro i v w A B H hd hi hN ha hb eA eB h0 h1;have hN:i=N:=by simpa using hN
  subst hN;rw[show Ji []=[] from rfl,List.append_nil] at eA;rw[show Jd []=[] from rfl,List.append_nil] at eB;subst eA;subst eB;have:=hq H v w [(22,bv false)] h0 h1;rw[List.map_nil,List.nil_append] at hd;by_cases hlt:i<L.length
  ·have hz:L[i].1=0:=hr _ (by rw[← hd,← List.getElem_cons_drop hlt];rfl);generalize hx:L[i]=x at *;refine Ab Aj Cc.eq_1 ?_;simp[hlt,hx,pC,hz];simpa using this
  ·refine Ab Aj Cc.eq_1 ?_;simp[hlt];simpa using this
 |cons g G ih=>
  intro i v w A B H hd hi hN ha hb eA eB h0 h1;have hlt:i<L.length:=by
   apply Classical.byContradiction;intro h;rw[List.drop_eq_nil_of_le (by omega)] at hd;cases hd
  have hd2:=List.getElem_cons_drop hlt;rw[hd,List.map_cons,List.cons_append] at hd2;obtain⟨ea,ed⟩:=List.cons.inj hd2;have ew:=AI i;obtain⟨b,n,t⟩:=g;cases b with
  |true=>
   have e:oc (true,n,t)=(1,(n,.ins t),Wj):=rfl;have next:=ih (i+1) (v+1) w (A++[t]) B
   refine Ab Aj Cc.eq_1 ?_;simp[hlt,ea,e,pC,uC,uT,uE,BI,kU,Lu,h0,h1,Aa];refine⟨by omega,?_⟩;rw[ew];rw[List.length_append] at next
   refine next _ ed (by omega) (by rw[← hN,List.length_cons];omega) (by simp;omega) (by omega) (by rw[eA];simp[Ji]) (by rw[eB];simp[Jd]) ?_ (by simp[Aa,h1])
   simp[Aa,AN,tA_eq]
  |false=>
   have e:oc (false,n,t)=(2,Wj,(n,.ins t)):=rfl;have next:=ih (i+1) v (w+1) A (B++[t])
   refine Ab Aj Cc.eq_1 ?_;simp[hlt,ea,e,pC,uC,uT,uE,BI,kU,Lu,h0,h1,Aa];refine⟨by omega,?_⟩;rw[ew];rw[List.length_append] at next
   refine next _ ed (by omega) (by rw[← hN,List.length_cons];omega) (by omega) (by simp;omega) (by rw[eA];simp[Ji]) (by rw[eB];simp[Jd]) (by simp[Aa,h0]) ?_
   simp[Aa,AN,tA_eq]
theorem Tk {L:List PI} (hL:L.length≤100000000) {rest:List PI} (hr:∀ x,rest.head? = some x→x.1=0) {W:List GI} {i:Nat} (hd:L.drop i=W.map oc++rest) (hi:i≤L.length):G.Spec Tryz.prog 101 [jQ L,iv i] (.tup [Bx (Ji W),Bx (Jd W),iv (i+W.length:Nat)]):=by
 refine Ag Ox (by simp) fun w0 I0=>?_;unfold I8;simp;refine LoopC.le (E6 7 [0] 3 (by simp)) ?_;refine LoopC.le (E6 8 [1] 3 (by simp[upd])) ?_;refine LoopC.le (Ay [(0,jQ L),(7,.osl [0] 1 3 0 ([]:List T).length),(8,.osl [1] 1 3 0 ([]:List T).length),(9,iv i)] (by simp[upd])) ?_;refine ic hL hr (FA:=Ji W) (FB:=Jd W) (N:=i+W.length) (fun H' v w st h0 h1=>?_) W i 1 1 [] [] _ hd hi rfl (Nat.zero_le _) (Nat.zero_le _) rfl rfl (by simp[Aa]) (by simp[Aa]);simp;exact An ⟨A3 (f:=tA) (by rw[h0];simp) rfl (fun x=>by simp),A3 (f:=tA) (by rw[h1];simp) rfl (fun x=>by simp),Ad rfl,trivial⟩
def XI (us vs:List UI):List GI:=(Ns us).map (fun p=>(true,p))++(Ns vs).map fun p=>(false,p)
theorem X4 (us vs:List UI):(XI us vs).map oc=(Ns us).map bA++(Ns vs).map Zk:=by
 unfold XI;rw[List.map_append,List.map_map,List.map_map];rfl
theorem WZ:∀ a b:List GI,Ji (a++b)=Ji a++Ji b
 |[],b=>rfl
 |(true,n,t)::a,b=>by rw[List.cons_append,Ji,Ji,WZ a b];rfl
 |(false,n,t)::a,b=>by rw[List.cons_append,Ji,Ji,WZ a b]
theorem XK:∀ a b:List GI,Jd (a++b)=Jd a++Jd b
 |[],b=>rfl
 |(false,n,t)::a,b=>by rw[List.cons_append,Jd,Jd,XK a b];rfl
 |(true,n,t)::a,b=>by rw[List.cons_append,Jd,Jd,XK a b]
theorem fF:∀ l:List (Nat × T),Ji (l.map fun p=>(true,p))=l.map Prod.snd∧Jd (l.map fun p=>(true,p))=[]∧Ji (l.map fun p=>(false,p))=[]∧Jd (l.map fun p=>(false,p))=l.map Prod.snd
 |[]=>⟨rfl,rfl,rfl,rfl⟩
 |(n,t)::l=>by
  obtain⟨h1,h2,h3,h4⟩:=fF l;refine⟨?_,?_,?_,?_⟩
  ·rw[List.map_cons,Ji,h1];rfl
  ·rw[List.map_cons,Jd,h2]
  ·rw[List.map_cons,Ji,h3]
  ·rw[List.map_cons,Jd,h4];rfl
theorem ud (us vs:List UI):Ji (XI us vs)=Ey (us.map Prod.snd):=by
 unfold XI;rw[WZ,(fF _).1,(fF _).2.2.1,List.append_nil,(DZ us).1]
theorem uz (us vs:List UI):Jd (XI us vs)=Ey (vs.map Prod.snd):=by
 unfold XI;rw[XK,(fF _).2.1,(fF _).2.2.2,List.nil_append,(DZ vs).1]
def kF (f:Nat) (at':Cw) (o:T) (p q:E) (u:T):Prop:=AD u∧Af u=(mg f at' o p q).1∧((mg f at' o p q).2.length≤100000000000 →
 G.Spec Tryz.prog 37 [A8 at',tX o,eX p,eX q] (.tup [tX u,G5 (mg f at' o p q).2]))
def ZY (e:E) (k:T):Prop:=AD (Ea e k)∧Af (Ea e k)=Ea e k∧G.Spec Tryz.prog 36 [eX e,tX k] (.tup [tX (Ea e k),bv true])
theorem Yn (u:U):A.softL (uE u)=eL (eU u):=by
 cases u with
 |desc e=>exact JV e
 |_=>show A.softL BI=eL E0;simp[BI,A.softL,A.soft,E0]
theorem Xb {f:Nat} {at':Cw} {k:T} (wk:AD k) {a b:UI} (ha:Lu a.2=false) (hb:Lu b.2=false) (ea:∀ e,a.2 = .desc e→ZY e k) (eb:∀ e,b.2 = .desc e→ZY e k) {u:T} (hS:kF f at' k (eU a.2) (eU b.2) u) (hl:(Bz (mg f) at' k a.2 b.2).2.length≤100000000000) :
  ∃ l:List T,l.map Af=(Bz (mg f) at' k a.2 b.2).1∧(∀ t,t ∈ l→AD t)∧l.length≤1∧G.Spec Tryz.prog 103 [A8 at',tX k,.agg (uC a),.agg (uC b)] (.tup [Bx l,G5 (Bz (mg f) at' k a.2 b.2).2]):=by
 obtain⟨i,ua⟩:=a;obtain⟨j,ub⟩:=b;obtain⟨s1,s2,s3⟩:=hS;simp only at *;have both1:(mg f at' k (eU ua) (eU ub)).2.length≤100000000000→G.Spec Tryz.prog 37 [A8 at',tX k,.agg (uE ua),.agg (uE ub)] (.tup [tX u,G5 (mg f at' k (eU ua) (eU ub)).2]):=fun h=>
  (s3 h).soft (by
   show [A.soft (A8 at'),A.soft (tX k),.agg (A.softL (uE ua)),.agg (A.softL (uE ub))]=_;rw[Yn,Yn,Ll];show [A.sl false (A.softL (at'.map Lo)),_,_,_]=_;rw[MI])
 have one1:[u].map Af=[(mg f at' k (eU ua) (eU ub)).1]:=by rw[← s2];rfl
 have hw1:∀ t,t ∈ [u]→AD t:=fun t ht=>by rw[List.mem_singleton.1 ht];exact s1
 have hwk:∀ t,t ∈ [k]→AD t:=fun t ht=>by rw[List.mem_singleton.1 ht];exact wk
 have cl1:∀ e,ZY e k→G.Spec Tryz.prog 65 [A8 at',tX k,tX (Ea e k),.agg [iv 0,.sl true [],.sl true []]] (G5 [⟨at',Af k,Ea e k,T0⟩]):=fun e h=>by
  have:=GG (l:=at') wk h.1 QY;rw[h.2.1,SD] at this;refine this.soft ?_;show [A.soft (A8 at'),A.soft (tX k),A.soft (tX (Ea e k)),tX T0]=_;rw[Ll,Ll];show [A.sl false (A.softL (at'.map Lo)),_,_,_]=_;rw[MI]
 have cl2:∀ e,ZY e k→G.Spec Tryz.prog 65 [A8 at',tX k,.agg [iv 0,.sl true [],.sl true []],tX (Ea e k)] (G5 [⟨at',Af k,T0,Ea e k⟩]):=fun e h=>by
  have:=GG (l:=at') wk QY h.1;rw[h.2.1,SD] at this;refine this.soft ?_;show [A.soft (A8 at'),A.soft (tX k),tX T0,A.soft (tX (Ea e k))]=_;rw[Ll,Ll];show [A.sl false (A.softL (at'.map Lo)),_,_,_]=_;rw[MI]
 cases ua with
 |ins t=>cases ha
 |keep=>
  cases ub with
  |ins t=>cases hb
  |keep=>
   refine⟨[u],one1,hw1,by simp,?_⟩;have S:=both1 hl;simp only[Bz];generalize (mg f at' k (eU (.keep)) (eU (.keep))).2=M at *;refine Ag Bj (by simp) fun w0 I0=>?_;unfold AY;simp[uC,uT,uE,kU,Lu,BI];refine Ae S (by simp[uE,BI]) ?_;simp[Aa];show Gy _ _ (.tup [.sl false [tA u],G5 M]);rw[tA_eq];exact An ⟨Ah,Ah,trivial⟩
  |del t=>
   refine⟨[],rfl,fun t ht=>by simp at ht,by simp,?_⟩;simp only[Bz];refine Ag Bj (by simp) fun w0 I0=>?_;unfold AY;simp[uC,uT,uE,kU,Lu,BI];exact An ⟨Ah,Ah,trivial⟩
  |desc e=>
   refine⟨[u],one1,hw1,by simp,?_⟩;have S:=both1 hl;simp only[Bz];generalize (mg f at' k (eU (.keep)) (eU (.desc e))).2=M at *;refine Ag Bj (by simp) fun w0 I0=>?_;unfold AY;simp[uC,uT,uE,kU,Lu,BI];refine Ae S (by simp[uE,BI]) ?_;simp[Aa];show Gy _ _ (.tup [.sl false [tA u],G5 M]);rw[tA_eq];exact An ⟨Ah,Ah,trivial⟩
 |del t=>
  cases ub with
  |ins t=>cases hb
  |keep=>
   refine⟨[],rfl,fun t ht=>by simp at ht,by simp,?_⟩;simp only[Bz];refine Ag Bj (by simp) fun w0 I0=>?_;unfold AY;simp[uC,uT,uE,kU,Lu,BI];exact An ⟨Ah,Ah,trivial⟩
  |del t2=>
   refine⟨[],rfl,fun t ht=>by simp at ht,by simp,?_⟩;simp only[Bz];refine Ag Bj (by simp) fun w0 I0=>?_;unfold AY;simp[uC,uT,uE,kU,Lu,BI];exact An ⟨Ah,Ah,trivial⟩
  |desc e=>
   have D:=eb e rfl;refine⟨[k],rfl,hwk,by simp,?_⟩;have C:=cl2 e D;simp only[Bz];refine Ag Bj (by simp) fun w0 I0=>?_;unfold AY;simp[uC,uT,uE,kU,Lu,BI];refine Ae D.2.2 (by simp) ?_;simp[Aa];refine Ae C (by simp) ?_;simp[Aa];show Gy _ _ (.tup [.sl false [tA k],G5 _]);rw[tA_eq];exact An ⟨Ah,Ah,trivial⟩
 |desc e=>
  cases ub with
  |ins t=>cases hb
  |keep=>
   refine⟨[u],one1,hw1,by simp,?_⟩;have S:=both1 hl;simp only[Bz];generalize (mg f at' k (eU (.desc e)) (eU (.keep))).2=M at *;refine Ag Bj (by simp) fun w0 I0=>?_;unfold AY;simp[uC,uT,uE,kU,Lu,BI];refine Ae S (by simp[uE,BI]) ?_;simp[Aa];show Gy _ _ (.tup [.sl false [tA u],G5 M]);rw[tA_eq];exact An ⟨Ah,Ah,trivial⟩
  |del t=>
   have D:=ea e rfl;refine⟨[k],rfl,hwk,by simp,?_⟩;have C:=cl1 e D;simp only[Bz];refine Ag Bj (by simp) fun w0 I0=>?_;unfold AY;simp[uC,uT,uE,kU,Lu,BI];refine Ae D.2.2 (by simp) ?_;simp[Aa];refine Ae C (by simp) ?_;simp[Aa];show Gy _ _ (.tup [.sl false [tA k],G5 _]);rw[tA_eq];exact An ⟨Ah,Ah,trivial⟩
  |desc e2=>
   refine⟨[u],one1,hw1,by simp,?_⟩;have S:=both1 hl;simp only[Bz];generalize (mg f at' k (eU (.desc e)) (eU (.desc e2))).2=M at *;refine Ag Bj (by simp) fun w0 I0=>?_;unfold AY;simp[uC,uT,uE,kU,Lu,BI];refine Ae S (by simp[uE,BI]) ?_;simp[Aa];show Gy _ _ (.tup [.sl false [tA u],G5 M]);rw[tA_eq];exact An ⟨Ah,Ah,trivial⟩
@[simp] theorem kB (x:UI) (r:List A):(uC x++r).take 17=uC x:=by rw[List.take_append_of_le_length (by simp),Yz]
@[simp] theorem kk (x:UI) (r:List A):(uC x++r).drop 17=r:=by rw[show(17:Nat)=(uC x).length from by simp,List.drop_left]
theorem ky (x:UI):∀ y,y ∈ uC x→y.bare2=true:=by obtain⟨i,u⟩:=x;cases u<;>simp[uC,uT,uE,BI]
theorem Ta (us:List UI):((FD us).headD Wj).2=Wm (Dy (us.map Prod.snd)):=by
 rw[← (DZ us).2.1];cases FD us<;>rfl
theorem SQ (us:List UI):Lu ((FD us).headD Wj).2=false:=by
 have:=(DZ us).2.2;cases h:FD us with
 |nil=>rfl
 |cons a l=>exact this a (by rw[h];rfl)
theorem cy {f:Nat} {at':Cw} (hat:at'.length≤900000) {o:T} (wo:AD o) (lo:o.kids.length≤400000) {R:E→T→T→Prop} (h0:∀ k,k ∈ o.kids→R E0 k k) (hE:∀ e k x,R e k x→ZY e k) (hR:∀ (n:Nat) (k:T) (p q:E) (x y:T),R p k x→R q k y→∃ u,kF f (at'++[(0,(n:Int))]) k p q u) :
  ∀ (ks:List T) (n:Nat) (us vs:List UI) (ys zs:List T),o.kids.drop n=ks→n≤o.kids.length→LdU R (us.map Prod.snd) ks ys→LdU R (vs.map Prod.snd) ks zs→(∀ u,u ∈ us.map Prod.snd→UW u)→(∀ u,u ∈ vs.map Prod.snd→UW u)→ys.length≤1000000→zs.length≤1000000→(Hj (mg f) at' o.kind ks (us.map Prod.snd) (vs.map Prod.snd) n).2.length≤100000000000 →
  ∃ FL:List T,FL.map Af=(Hj (mg f) at' o.kind ks (us.map Prod.snd) (vs.map Prod.snd) n).1∧(∀ t,t ∈ FL→AD t)∧FL.length≤1000001*(ks.length+1) ∧
   ∀ (n0:Nat) (w0:World) (I0:Nat→Prop) (Q:Exit→Sta→Prop) (L:List PI) (i v w:Nat) (acc:List T) (C:List Cf) (H:Hp),L.length≤100000000→L.drop i=Z5 ks us vs→i≤L.length→C.length+(Hj (mg f) at' o.kind ks (us.map Prod.snd) (vs.map Prod.snd) n).2.length≤100000000000→acc.length≤1000001*n →
    H [0]=⟨1,.cells (tL o)⟩→H [3]=⟨1,.cells z0⟩→H [4]=⟨1,.cells [iv o.kind,.sl true [],.osl [5] v 3 0 acc.length]⟩→H [5]=⟨v,.arr 3 (acc.map tA)⟩→H [6]=⟨w,.arr 10 (C.map RV)⟩ →
    (∀ (H':Hp) (v w:Nat) (st:List (Nat × A)),H' [3]=⟨1,.cells z0⟩→H' [4]=⟨1,.cells [iv o.kind,.sl true [],.osl [5] v 3 0 (acc++FL).length]⟩→H' [5]=⟨v,.arr 3 ((acc++FL).map tA)⟩→H' [6]=⟨w,.arr 10 ((C++(Hj (mg f) at' o.kind ks (us.map Prod.snd) (vs.map Prod.snd) n).2).map RV)⟩ →
     Q (.exit 0) ⟨lk ([(0,A8 at'),(5,.pob [0] 1 0),(8,.pob [3] 1 0),(10,jQ L),(12,.pob [4] 1 0),(13,.osl [6] w 10 0 (C++(Hj (mg f) at' o.kind ks (us.map Prod.snd) (vs.map Prod.snd) n).2).length)]++st),H'⟩) →
    LoopC (cx Tryz.prog w0 I0 n0) Ct Q ⟨lk [(0,A8 at'),(5,.pob [0] 1 0),(8,.pob [3] 1 0),(10,jQ L),(12,.pob [4] 1 0),(13,.osl [6] w 10 0 C.length),(14,iv n),(15,iv i)],H⟩:=by
 have O:=wfT_iff.1 wo;intro ks;induction ks with
 |nil=>
  intro n us vs ys zs hn hnl hu hv wu wv ly lz hT;obtain⟨y1,y2,rfl,a1,_,_⟩:=JF hu;obtain⟨z1,z2,rfl,b1,_,_⟩:=JF hv;have hl1:(Ey (us.map Prod.snd)).length=y1.length:=by simpa using congrArg List.length a1
  have hl2:(Ey (vs.map Prod.snd)).length=z1.length:=by simpa using congrArg List.length b1
  rw[List.length_append] at ly lz;obtain⟨l1,q1,q2,q3,G1⟩:=SO (at':=at') (by omega) O.k (n:=n) (Gp wu).1 (Gp wv).1 (by omega) (by omega);rw[Hj] at *;refine⟨l1,q1,q2,by simp;omega,fun n0 w0 I0 Q L i v w acc C H hL hd hi hC lacc g0 g3 g4 g5 g6 hq=>?_⟩;rw[Z5,List.append_nil,← X4] at hd;have hlen:i+(XI us vs).length=L.length:=by
   have:=congrArg List.length hd;rw[List.length_drop,List.length_map] at this;omega
  have GP:=Tk hL (rest:=[]) (fun x h=>by cases h) (W:=XI us vs) (by rw[List.append_nil];exact hd) hi;rw[ud,uz] at GP;generalize Eb at' o.kind n (Ey (us.map Prod.snd)) (Ey (vs.map Prod.snd))=g at *;have hi2:(i:Int)≤L.length:=by omega
  rw[hlen] at GP;refine Ab Aj Ct.eq_1 ?_;simp[hi2];refine Ae GP (by simp) ?_;simp[g0];refine Ae G1 (by simp) ?_;simp[g4,g5,g6,Aa];refine⟨by omega,by omega,?_⟩;have ew:i64.wrap ((L.length:Int)+1)=((L.length+1:Nat):Int):=LR;rw[ew];have hc:¬ ((L.length:Int)+1≤L.length):=by omega
  refine Ab Aj Ct.eq_1 ?_;simp[hc];have:=hq (Az (Az (Az H [5] ⟨v+1,.arr 3 (List.take acc.length (acc.map tA)++l1.map tA)⟩) [4] ⟨1,.cells [iv o.kind,.sl true [],.osl [5] (v+1) 3 0 (acc.length+l1.length)]⟩) [6] ⟨w+1,.arr 10 (List.take C.length (C.map RV)++g.2.map RV)⟩) (v+1) (w+1) [(14,iv n),(15,iv (L.length+1:Nat)),(39,bv false)] (by simp[Aa,g3]) (by simp[Aa]) (by simp[Aa,AN]) (by simp[Aa,AN]);rw[List.length_append] at this;simpa using this
 |cons k ks ih=>
  intro n us vs ys zs hn hnl hu hv wu wv ly lz hT;have hnlt:n<o.kids.length:=by
   apply Classical.byContradiction;intro h;rw[List.drop_eq_nil_of_le (by omega)] at hn;cases hn
  have hk2:=List.getElem_cons_drop hnlt;rw[hn] at hk2;obtain⟨ek,ekd⟩:=List.cons.inj hk2;have hkm:k ∈ o.kids:=by rw[← ek];exact BD hnlt
  have wk:=O.ks k hkm;obtain⟨y2,a1,a2,a3,a4⟩:=Oc hu;obtain⟨z2,b1,b2,b3,b4⟩:=Oc hv;have wu':=(Gp wu).2;have wv':=(Gp wv).2;obtain⟨l1,q1,q2,q3,G1⟩:=SO (at':=at') (by omega) O.k (n:=n) (Gp wu).1 (Gp wv).1 (by omega) (by omega);have hda:=Ta us;have hdb:=Ta vs;have hia:=SQ us;have hib:=SQ vs;have ra:∃ x,R (eU (Wm (Dy (us.map Prod.snd)))) k x:=by
   rcases a2 with h | ⟨t,h⟩ | ⟨e,x,h,hx⟩
   ·rw[h];exact⟨k,h0 k hkm⟩
   ·rw[h];exact⟨k,h0 k hkm⟩
   ·rw[h];exact⟨x,hx⟩
  have rb:∃ x,R (eU (Wm (Dy (vs.map Prod.snd)))) k x:=by
   rcases b2 with h | ⟨t,h⟩ | ⟨e,x,h,hx⟩
   ·rw[h];exact⟨k,h0 k hkm⟩
   ·rw[h];exact⟨k,h0 k hkm⟩
   ·rw[h];exact⟨x,hx⟩
  rw[Hj] at *;simp only at *;rw[List.length_append,List.length_append] at hT;have step:=ih (n+1) (FD us).tail (FD vs).tail y2 z2 ekd (by omega) (by rw[List.map_tail,(DZ us).2.1];exact a1) (by rw[List.map_tail,(DZ vs).2.1];exact b1) (fun u hu=>wu' u (by rw[List.map_tail,(DZ us).2.1] at hu;exact List.mem_of_mem_tail hu)) (fun u hu=>wv' u (by rw[List.map_tail,(DZ vs).2.1] at hu;exact List.mem_of_mem_tail hu)) (by omega) (by omega);rw[List.map_tail,List.map_tail,(DZ us).2.1,(DZ vs).2.1] at step;obtain⟨FL,t1,t2,t3,stp⟩:=step (by omega);clear step;obtain⟨x1,hx1⟩:=ra;obtain⟨x2,hx2⟩:=rb;rw[← hda] at hx1 a2 hT;rw[← hdb] at hx2 b2 hT;obtain⟨u,hu3⟩:=hR n k _ _ _ _ hx1 hx2;obtain⟨l2,p1,p2,p3,U1⟩:=Xb wk hia hib (fun e h=>hE e k x1 (by rw[h] at hx1;exact hx1)) (fun e h=>hE e k x2 (by rw[h] at hx2;exact hx2)) hu3 (by omega);rw[← hda,← hdb];have AT:=MF at' 0 n (by omega);generalize Hj (mg f) at' o.kind ks (Dy (us.map Prod.snd)).tail (Dy (vs.map Prod.snd)).tail (n+1)=r at *;have hdp:∀ (L:List PI) (i:Nat),L.drop i=Z5 (k::ks) us vs→L.drop i=(XI us vs).map oc++((0,(FD us).headD Wj,(FD vs).headD Wj)::Z5 ks (FD us).tail (FD vs).tail):=fun L i h=>by rw[h,Z5,← List.append_assoc,← X4]
  generalize (FD us).headD Wj=ha at *;generalize (FD vs).headD Wj=hb at *;generalize Bz (mg f) (at'++[(0,(n:Int))]) k ha.2 hb.2=um at *;refine⟨l1++(l2++FL),by rw[List.map_append,List.map_append,q1,p1,t1],fun t ht=>?_,by rw[List.length_append,List.length_append,List.length_cons];omega,fun n0 w0 I0 Q L i v w acc C H hL hd hi hC lacc g0 g3 g4 g5 g6 hq=>?_⟩
  ·rcases List.mem_append.1 ht with h | h
   ·exact q2 t h
   ·rcases List.mem_append.1 h with h | h
    ·exact p2 t h
    ·exact t2 t h
  have hd:=hdp L i hd;have GP:=Tk hL (rest:=(0,ha,hb)::Z5 ks (FD us).tail (FD vs).tail) (fun x h=>by cases h;rfl) (W:=XI us vs) hd hi;rw[ud,uz] at GP;have hlen:i+(XI us vs).length<L.length:=by
   have:=congrArg List.length hd;rw[List.length_drop,List.length_append,List.length_map,List.length_cons] at this;omega
  have hdj:L.drop (i+(XI us vs).length)=(0,ha,hb)::Z5 ks (FD us).tail (FD vs).tail:=by
   rw[← List.drop_drop,hd,show(XI us vs).length=((XI us vs).map oc).length from by simp,List.drop_left]
  generalize hj:i+(XI us vs).length=j at *;have hj2:=List.getElem_cons_drop hlen;rw[hdj] at hj2;obtain⟨ej,ejd⟩:=List.cons.inj hj2;generalize Eb at' o.kind n (Ey (us.map Prod.snd)) (Ey (vs.map Prod.snd))=g at *;rw[List.length_append,List.length_append] at hC;have hi2:(i:Int)≤L.length:=by omega
  have hj3:(j:Int)<L.length:=by omega
  have ew:=AI n;have ew2:=AI j;refine Ab Aj Ct.eq_1 ?_;simp[hi2];refine Ae GP (by simp) ?_;simp[g0];refine Ae G1 (by simp) ?_;simp[g0,g4,g5,g6,Aa,hj3,hlen,hnlt,ek];refine⟨by omega,by omega,?_⟩;refine Ae AT (by simp) ?_;simp[g0,Aa,hlen,hnlt,ek,ej,pC];refine Ae U1 (by simp;exact⟨ky ha,ky hb⟩) ?_;simp[g0,Aa,hlen,hnlt,AN];refine⟨by omega,by omega,?_⟩;rw[ew,ew2];have hlA:(acc++(l1++l2)).length=acc.length+l1.length+l2.length:=by simp[Nat.add_assoc]
  have hlC:(C++(g.2++um.2)).length=C.length+g.2.length+um.2.length:=by simp[Nat.add_assoc]
  have nx:=fun H=>stp n0 w0 I0 Q L (j+1) (v+1+1) (w+1+1) (acc++(l1++l2)) (C++(g.2++um.2)) H hL ejd (by omega) (by rw[hlC];omega) (by rw[hlA];omega);rw[hlA,hlC] at nx;have e1:acc++(l1++l2)++FL=acc++(l1++(l2++FL)):=by simp
  have e2:C++(g.2++um.2)++r.2=C++(g.2++(um.2++r.2)):=by simp
  rw[e1,e2] at nx;refine nx _ (by simp[Aa,g0]) (by simp[Aa,g3]) (by simp[Aa]) (by simp[Aa]) (by simp[Aa]) hq
theorem RK {f:Nat} {at':Cw} (hat:at'.length≤900000) {o:T} (wo:AD o) (lo:o.kids.length≤400000) {R:E→T→T→Prop} (h0:∀ k,k ∈ o.kids→R E0 k k) (hE:∀ e k x,R e k x→ZY e k) (hR:∀ (n:Nat) (k:T) (p q:E) (x y:T),R p k x→R q k y→∃ u,kF f (at'++[(0,(n:Int))]) k p q u)
  {p q:E} {ys zs:List T} (hu:LdU R (En p.ops) o.kids ys) (hv:LdU R (En q.ops) o.kids zs) (ly:ys.length≤1000000) (lz:zs.length≤1000000) (wu:∀ u,u ∈ En p.ops→UW u) (wv:∀ u,u ∈ En q.ops→UW u) (op:p.ops.length≤10000000) (oq:q.ops.length≤10000000) (okp:∀ x,x ∈ p.ops→Ht x∧x.l.length≤1048576) (okq:∀ x,x ∈ q.ops→Ht x∧x.l.length≤1048576) (lu:(En p.ops).length≤10000000) (lv:(En q.ops).length≤10000000)
  (hl:(Hj (mg f) at' o.kind o.kids (En p.ops) (En q.ops) 0).2.length≤100000000000) :
  ∃ l:List T,l.map Af=(Hj (mg f) at' o.kind o.kids (En p.ops) (En q.ops) 0).1∧(∀ t,t ∈ l→AD t)∧l.length≤1000000000000∧G.Spec Tryz.prog 64 [A8 at',tX o,eX p,eX q] (.tup [tX (.mk o.kind [] l),G5 (Hj (mg f) at' o.kind o.kids (En p.ops) (En q.ops) 0).2]):=by
 have U1:=Qt op okp lu;have U2:=Qt oq okq lv;have hPr:=YA (R:=R) o.kids (KY 0 p.ops) (KY 0 q.ops) ys zs (by rw[KZ];exact hu) (by rw[KZ];exact hv);have hLen:(Z5 o.kids (KY 0 p.ops) (KY 0 q.ops)).length≤100000000:=by
  have key:∀ {us vs:List UI} {l:List PI},WY us vs l→l.length≤us.length+vs.length:=fun h=>by
   induction h<;>simp<;>omega
  have:=key hPr;rw[M6,M6] at this;omega
 have PS:=Xo (by rw[M6];exact lu) (by rw[M6];exact lv) hLen hPr;have hn:=KZ p.ops 0;have hm:=KZ q.ops 0;obtain⟨FL,f1,f2,f3,stp⟩:=cy hat wo lo h0 hE hR o.kids 0 (KY 0 p.ops) (KY 0 q.ops) ys zs rfl (Nat.zero_le _) (by rw[hn];exact hu) (by rw[hm];exact hv) (by rw[hn];exact wu) (by rw[hm];exact wv) ly lz (by rw[hn,hm];exact hl);rw[hn,hm] at f1 stp;refine⟨FL,f1,f2,by omega,?_⟩;generalize Hj (mg f) at' o.kind o.kids (En p.ops) (En q.ops) 0=M at *;generalize hL:Z5 o.kids (KY 0 p.ops) (KY 0 q.ops)=L at *;refine Ag L3 (by simp) fun w0 I0=>?_;unfold H8;simp;refine Ae U1 (by simp) ?_;simp;refine Ae U2 (by simp) ?_;simp;refine Ae PS (by simp) ?_;simp[Aa];refine LoopC.le (Bc (d:=[4]) (u:=1) (cs:=[iv o.kind,.sl true [],.sl true []]) 2 [5] 3 (by simp[Aa]) rfl (by simp)) ?_;refine LoopC.le (E6 13 [6] 10 (by simp)) ?_;refine LoopC.le (Ay [(0,A8 at'),(5,.pob [0] 1 0),(8,.pob [3] 1 0),(10,jQ L),(12,.pob [4] 1 0),(13,.osl [6] 1 10 0 ([]:List Cf).length),(14,iv (0:Nat)),(15,iv (0:Nat))] (by simp[upd,Aa])) ?_;refine stp _ _ _ _ L 0 1 1 [] [] _ hLen rfl (Nat.zero_le _) (by simpa using hl) (Nat.zero_le _) (by simp[Aa]) (by simp[Aa]) (by simp[Aa]) (by simp[Aa]) (by simp[Aa]) fun H' v w st g3 g4 g5 g6=>?_;rw[List.nil_append] at g4 g5 g6;rw[List.nil_append];simp[g3,g4,Aa];exact An ⟨AE ⟨Ad rfl,Ah,A3 (f:=tA) (l:=FL) (by simp[Aa,g5]) rfl (fun x=>by simp),trivial⟩,Tt (by simp[Aa,g6]) rfl,trivial⟩
theorem S5 {m i:Nat} (h:i<m) {α:Type} (g:Nat→List α):((List.range i).flatMap g).length+(g i).length≤((List.range m).flatMap g).length:=by
 have e:List.range m=List.range (i+1)++List.range' (i+1) (m-(i+1)):=by
  rw[List.range_eq_range',List.range_eq_range',show m=(i+1)+(m-(i+1)) from by omega,← List.range'_append_1];simp
 rw[e,List.range_succ,List.flatMap_append,List.flatMap_append,List.flatMap_singleton,List.length_append,List.length_append];omega
theorem Se {at':Cw} (hat:at'.length≤900000) {p q:E} (lp:p.words.length≤10000000000000) (lq:q.words.length≤10000000000000) {i:Nat} (ma:Rd (B8 p.words i).mask) (na:AA (B8 p.words i).new) (mb:Rd (B8 q.words i).mask) (nb:AA (B8 q.words i).new) {z:Int} (hwo:AA z) {N M w:Nat} (hi:i≤1000000) {D:List Cf} {K:A} {B:List A} (hB:B.length=i) (hD:D.length+(IX at' i z (B8 p.words i) (B8 q.words i)).length≤100000000000)
  {H:Hp} (g1:H [1]=⟨1,.cells (eL p)⟩) (g2:H [2]=⟨1,.cells (eL q)⟩) (g4:H [4]=⟨1,.cells [iv 1,.osl [8] (i+1) 1 0 i,K]⟩) (g8:H [8]=⟨i+1,.arr 1 B⟩) (g7:H [7]=⟨w,.arr 10 (D.map RV)⟩)
  (hq:∀ (H':Hp) (w':Nat),(∀ d,d ≠ [4]→d ≠ [5]→d ≠ [6]→d ≠ [7]→d ≠ [8]→H' d=H d)→H' [4]=⟨1,.cells [iv 1,.osl [8] (i+1+1) 1 0 (i+1),K]⟩→H' [8]=⟨i+1+1,.arr 1 (B++[uv (Gb z (B8 p.words i) (B8 q.words i))])⟩→H' [7]=⟨w',.arr 10 ((D++IX at' i z (B8 p.words i) (B8 q.words i)).map RV)⟩ →
   Q .normal ⟨lk [(0,A8 at'),(5,.pob [0] 1 0),(6,.pob [1] 1 0),(7,.pob [2] 1 0),(8,.pob [3] 1 0),(10,.pob [4] 1 0),(11,.osl [7] w' 10 0 (D++IX at' i z (B8 p.words i) (B8 q.words i)).length),(12,iv N),(13,iv M),(14,iv i)],H'⟩) :
  WPC (cx Tryz.prog w0 I0 n0) Eh Q ⟨lk [(0,A8 at'),(5,.pob [0] 1 0),(6,.pob [1] 1 0),(7,.pob [2] 1 0),(8,.pob [3] 1 0),(10,.pob [4] 1 0),(11,.osl [7] w 10 0 D.length),(12,iv N),(13,iv M),(14,iv i),(15,uv z)],H⟩:=by
 have u0:AA 0:=⟨by decide,by decide⟩;have E1:=OU p.words lp i;have E2:=OU q.words lq i;generalize B8 p.words i=a at *;generalize B8 q.words i=b at *;have M1:=Fs (mask:=a.mask) hwo na ma.1 ma.2;have M2:=Fs (mask:=b.mask) hwo nb mb.1 mb.2;have hc:=VO ma mb;have M3:=Fs (mask:=Fu a.mask b.mask) u0 na hc.1 hc.2;have M4:=Fs (mask:=Fu a.mask b.mask) u0 nb hc.1 hc.2;have M5:=Fs (mask:=b.mask) (BX z a.new a.mask) (BX z b.new b.mask) mb.1 mb.2;rw[YC] at M5;rw[Eh.eq_1];simp[g1,g2];refine Ae E1 (by simp) ?_;simp[g1,g2];refine Ae E2 (by simp) ?_;simp[Aa];refine Ae M1 (by simp) ?_;simp[Aa];refine Ae M2 (by simp) ?_;simp[Aa];rw[show bits .and .u8 a.mask b.mask=Fu a.mask b.mask from rfl];refine Ae M3 (by simp) ?_;simp[Aa];refine Ae M4 (by simp) ?_;by_cases c:Ln a b=true
 ·have cc:¬ AM 0 a.new (Fu a.mask b.mask)=AM 0 b.new (Fu a.mask b.mask):=by simpa[Ln] using c
  have em:Gb z a b=z:=by unfold Gb;rw[if_pos c]
  have ec:IX at' i z a b=[⟨at'++[(1,(i:Int))],Af (AL z),Af (AL (AM z a.new a.mask)),Af (AL (AM z b.new b.mask))⟩]:=by unfold IX;rw[if_pos c]
  rw[em,ec] at hq;rw[ec] at hD;have AT:=MF at' 1 i (by omega);have S1:=Kp z;have S2:=Kp (AM z a.new a.mask);have S3:=Kp (AM z b.new b.mask);have CL:=GG (l:=at'++[(1,(i:Int))]) (b:=AL z) (o:=AL (AM z a.new a.mask)) (t:=AL (AM z b.new b.mask)) (Cb hwo) (Cb (BX _ _ _)) (Cb (BX _ _ _));simp only[List.length_singleton,List.length_append] at hD hq;generalize (⟨at'++[(1,(i:Int))],Af (AL z),Af (AL (AM z a.new a.mask)),Af (AL (AM z b.new b.mask))⟩:Cf)=cf at *;simp[cc];refine Ae AT (by simp) ?_;simp;refine Ae S1 (by simp) ?_;simp;refine Ae S2 (by simp) ?_;simp;refine Ae S3 (by simp) ?_;simp;refine Ae CL (by simp) ?_;simp[g7,g4,g8,Aa];refine⟨by omega,⟨by omega,by omega⟩,?_⟩;refine hq _ _ (fun d h4 h5 h6 h7 h8=>by simp[Aa,h4,h5,h6,h7,h8]) (by simp[Aa]) (by simp[Aa,AN,hB]) (by simp[Aa,AN])
 ·have cc:AM 0 a.new (Fu a.mask b.mask)=AM 0 b.new (Fu a.mask b.mask):=by simpa[Ln] using c
  have em:Gb z a b=AM (AM z a.new a.mask) b.new b.mask:=by unfold Gb;rw[if_neg c]
  have ec:IX at' i z a b=[]:=by unfold IX;rw[if_neg c]
  rw[em,ec] at hq;rw[List.append_nil] at hq;simp[cc,Aa];refine Ae M5 (by simp) ?_;simp[g4,g8,Aa];refine⟨⟨by omega,by omega⟩,?_⟩;refine hq _ _ (fun d h4 h5 h6 h7 h8=>by simp[Aa,h4,h5,h6,h7,h8]) (by simp[Aa]) (by simp[Aa,AN,hB]) (by simp[Aa,g7])
theorem Ze {at':Cw} (hat:at'.length≤900000) {o:T} (wo:AD o) {p q:E} (lp:p.words.length≤10000000000000) (lq:q.words.length≤10000000000000) (hp:∀ i,Rd (B8 p.words i).mask∧AA (B8 p.words i).new) (hq':∀ i,Rd (B8 q.words i).mask∧AA (B8 q.words i).new) {N M:Nat} (hN:N≤1000000) {C:List Cf} {K:A} {X:VOb} (hC:C.length+((List.range N).flatMap fun i:Nat=>IX at' i (o.words.getD i 0) (B8 p.words i) (B8 q.words i)).length≤100000000000)
  (hq:∀ (H':Hp) (w:Nat) (st:List (Nat × A)),H' [0]=⟨1,.cells (tL o)⟩→H' [1]=⟨1,.cells (eL p)⟩→H' [2]=⟨1,.cells (eL q)⟩→H' [3]=⟨1,.cells z0⟩→H' [4]=⟨1,.cells [iv 1,.osl [8] (N+1) 1 0 N,K]⟩→H' [8]=⟨N+1,.arr 1 (((List.range N).map fun i:Nat=>Gb (o.words.getD i 0) (B8 p.words i) (B8 q.words i)).map uv)⟩→H' [7]=⟨w,.arr 10 ((C++(List.range N).flatMap fun i:Nat=>IX at' i (o.words.getD i 0) (B8 p.words i) (B8 q.words i)).map RV)⟩→H' [11]=X →
   Q (.exit 0) ⟨lk ([(0,A8 at'),(5,.pob [0] 1 0),(6,.pob [1] 1 0),(7,.pob [2] 1 0),(8,.pob [3] 1 0),(10,.pob [4] 1 0),(11,.osl [7] w 10 0 (C++(List.range N).flatMap fun i:Nat=>IX at' i (o.words.getD i 0) (B8 p.words i) (B8 q.words i)).length),(12,iv N),(13,iv M),(14,iv N)]++st),H'⟩) :
  ∀ (j i w:Nat) (H:Hp),i+j=N→H [0]=⟨1,.cells (tL o)⟩→H [1]=⟨1,.cells (eL p)⟩→H [2]=⟨1,.cells (eL q)⟩→H [3]=⟨1,.cells z0⟩→H [4]=⟨1,.cells [iv 1,.osl [8] (i+1) 1 0 i,K]⟩→H [8]=⟨i+1,.arr 1 (((List.range i).map fun i:Nat=>Gb (o.words.getD i 0) (B8 p.words i) (B8 q.words i)).map uv)⟩→H [7]=⟨w,.arr 10 ((C++(List.range i).flatMap fun i:Nat=>IX at' i (o.words.getD i 0) (B8 p.words i) (B8 q.words i)).map RV)⟩→H [11]=X →
  LoopC (cx Tryz.prog w0 I0 n0) CP Q ⟨lk [(0,A8 at'),(5,.pob [0] 1 0),(6,.pob [1] 1 0),(7,.pob [2] 1 0),(8,.pob [3] 1 0),(10,.pob [4] 1 0),(11,.osl [7] w 10 0 (C++(List.range i).flatMap fun i:Nat=>IX at' i (o.words.getD i 0) (B8 p.words i) (B8 q.words i)).length),(12,iv N),(13,iv M),(14,iv i)],H⟩:=by
 have u0:AA 0:=⟨by decide,by decide⟩;intro j;induction j with
 |zero=>
  intro i w H hj g0 g1 g2 g3 g4 g8 g7 g11;have:i=N:=by omega
  subst this;have:=hq H w [(35,bv false)] g0 g1 g2 g3 g4 g8 g7 g11;refine Ab Aj CP.eq_1 ?_;simp;simpa using this
 |succ j ih=>
  intro i w H hj g0 g1 g2 g3 g4 g8 g7 g11;have hlt:i<N:=by omega
  have ew:=AI i;have hcut:=S5 hlt fun i:Nat=>IX at' i (o.words.getD i 0) (B8 p.words i) (B8 q.words i);have next:=ih (i+1)
  simp only[List.range_succ,List.flatMap_append,List.flatMap_singleton,List.map_append,List.map_cons,List.map_nil,← List.append_assoc] at next
  generalize hD:C++(List.range i).flatMap (fun i:Nat=>IX at' i (o.words.getD i 0) (B8 p.words i) (B8 q.words i))=D at *;have hDl:D.length=C.length+((List.range i).flatMap (fun i:Nat=>IX at' i (o.words.getD i 0) (B8 p.words i) (B8 q.words i))).length:=by rw[← hD,List.length_append]
  have e8:(((List.range i).map fun i:Nat=>Gb (o.words.getD i 0) (B8 p.words i) (B8 q.words i)).map uv).length=i:=by simp
  generalize ((List.range i).map fun i:Nat=>Gb (o.words.getD i 0) (B8 p.words i) (B8 q.words i)).map uv=B at *;obtain⟨ma,na⟩:=hp i;obtain⟨mb,nb⟩:=hq' i;have hwo:AA (o.words.getD i 0):=Fa (wfT_iff.1 wo).w i;have hge:∀ h:i<o.words.length,o.words[i]=o.words.getD i 0:=fun h=>by rw[List.getD_eq_getElem?_getD,List.getElem?_eq_getElem h];rfl
  have hge0:¬ i<o.words.length→o.words.getD i 0=0:=fun h=>by rw[List.getD_eq_getElem?_getD,List.getElem?_eq_none (by omega)];rfl
  generalize o.words.getD i 0=z at *;refine Ab Aj CP.eq_1 ?_;by_cases hil:i<o.words.length
  ·have hg:=hge hil;simp[hlt,g0,hil,hg];refine Se hat lp lq ma na mb nb hwo (by omega) e8 (by omega) g1 g2 g4 g8 g7 fun H' w' kH k4 k8 k7=>?_;simp;rw[ew];have e0:=kH [0] (by simp) (by simp) (by simp) (by simp) (by simp);have e1:=kH [1] (by simp) (by simp) (by simp) (by simp) (by simp);have e2:=kH [2] (by simp) (by simp) (by simp) (by simp) (by simp);have e3:=kH [3] (by simp) (by simp) (by simp) (by simp) (by simp);have e11:=kH [11] (by simp) (by simp) (by simp) (by simp) (by simp);have:=next w' H' (by omega) (by rw[e0,g0]) (by rw[e1,g1]) (by rw[e2,g2]) (by rw[e3,g3]) k4 k8 (by rw[k7,← hD];simp) (by rw[e11,g11])
   simpa using this
  ·have hz:=hge0 hil;subst hz;simp[hlt,g0,hil];refine Se hat lp lq ma na mb nb hwo (by omega) e8 (by omega) g1 g2 g4 g8 g7 fun H' w' kH k4 k8 k7=>?_;simp;rw[ew];have e0:=kH [0] (by simp) (by simp) (by simp) (by simp) (by simp);have e1:=kH [1] (by simp) (by simp) (by simp) (by simp) (by simp);have e2:=kH [2] (by simp) (by simp) (by simp) (by simp) (by simp);have e3:=kH [3] (by simp) (by simp) (by simp) (by simp) (by simp);have e11:=kH [11] (by simp) (by simp) (by simp) (by simp) (by simp);have:=next w' H' (by omega) (by rw[e0,g0]) (by rw[e1,g1]) (by rw[e2,g2]) (by rw[e3,g3]) k4 k8 (by rw[k7,← hD];simp) (by rw[e11,g11])
   simpa using this
theorem ZT {f:Nat} {at':Cw} (hat:at'.length≤900000) {o:T} {p q:E} (lp:p.kids.length≤10000000000000) (lq:q.kids.length≤10000000000000) {U:Nat→T} (hU:∀ i:Nat,kF f (at'++[(0,(i:Int))]) (o.kids.getD i T0) (CR p.kids i) (CR q.kids i) (U i)) {M:Nat} (hM:M≤1000000) {C:List Cf} {W:A} {X:VOb} (hC:C.length+((List.range M).flatMap fun i:Nat=>(mg f (at'++[(0,(i:Int))]) (o.kids.getD i T0) (CR p.kids i) (CR q.kids i)).2).length≤100000000000)
  (hq:∀ (H':Hp) (w:Nat) (st:List (Nat × A)),H' [3]=⟨1,.cells z0⟩→H' [4]=⟨1,.cells [iv 1,W,.osl [11] (M+1) 3 0 M]⟩→H' [11]=⟨M+1,.arr 3 (((List.range M).map U).map tA)⟩→H' [7]=⟨w,.arr 10 ((C++(List.range M).flatMap fun i:Nat=>(mg f (at'++[(0,(i:Int))]) (o.kids.getD i T0) (CR p.kids i) (CR q.kids i)).2).map RV)⟩→H' [8]=X →
   Q (.exit 2) ⟨lk ([(0,A8 at'),(5,.pob [0] 1 0),(6,.pob [1] 1 0),(7,.pob [2] 1 0),(8,.pob [3] 1 0),(10,.pob [4] 1 0),(11,.osl [7] w 10 0 (C++(List.range M).flatMap fun i:Nat=>(mg f (at'++[(0,(i:Int))]) (o.kids.getD i T0) (CR p.kids i) (CR q.kids i)).2).length),(13,iv M),(21,iv M)]++st),H'⟩) :
  ∀ (j i w:Nat) (H:Hp),i+j=M→H [0]=⟨1,.cells (tL o)⟩→H [1]=⟨1,.cells (eL p)⟩→H [2]=⟨1,.cells (eL q)⟩→H [3]=⟨1,.cells z0⟩→H [4]=⟨1,.cells [iv 1,W,.osl [11] (i+1) 3 0 i]⟩→H [11]=⟨i+1,.arr 3 (((List.range i).map U).map tA)⟩→H [7]=⟨w,.arr 10 ((C++(List.range i).flatMap fun i:Nat=>(mg f (at'++[(0,(i:Int))]) (o.kids.getD i T0) (CR p.kids i) (CR q.kids i)).2).map RV)⟩→H [8]=X →
  LoopC (cx Tryz.prog w0 I0 n0) CI Q ⟨lk [(0,A8 at'),(5,.pob [0] 1 0),(6,.pob [1] 1 0),(7,.pob [2] 1 0),(8,.pob [3] 1 0),(10,.pob [4] 1 0),(11,.osl [7] w 10 0 (C++(List.range i).flatMap fun i:Nat=>(mg f (at'++[(0,(i:Int))]) (o.kids.getD i T0) (CR p.kids i) (CR q.kids i)).2).length),(13,iv M),(21,iv i)],H⟩:=by
 intro j;induction j with
 |zero=>
  intro i w H hj g0 g1 g2 g3 g4 g11 g7 g8;have:i=M:=by omega
  subst this;have:=hq H w [(107,bv false)] g3 g4 g11 g7 g8;refine Ab Aj CI.eq_1 ?_;simp;simpa using this
 |succ j ih=>
  intro i w H hj g0 g1 g2 g3 g4 g11 g7 g8;have hlt:i<M:=by omega
  have ew:=AI i;have hcut:=S5 hlt fun i:Nat=>(mg f (at'++[(0,(i:Int))]) (o.kids.getD i T0) (CR p.kids i) (CR q.kids i)).2;have next:=ih (i+1)
  simp only[List.range_succ,List.flatMap_append,List.flatMap_singleton,List.map_append,List.map_cons,List.map_nil,← List.append_assoc] at next
  generalize hD:C++(List.range i).flatMap (fun i:Nat=>(mg f (at'++[(0,(i:Int))]) (o.kids.getD i T0) (CR p.kids i) (CR q.kids i)).2)=D at *;have hDl:D.length=C.length+((List.range i).flatMap (fun i:Nat=>(mg f (at'++[(0,(i:Int))]) (o.kids.getD i T0) (CR p.kids i) (CR q.kids i)).2)).length:=by rw[← hD,List.length_append]
  have e8:(((List.range i).map U).map tA).length=i:=by simp
  generalize ((List.range i).map U).map tA=B at *;obtain⟨u1,u2,u3⟩:=hU i;have S:=u3 (by omega);have AT:=MF at' 0 i (by omega);have K1:=QN p.kids lp i;have K2:=QN q.kids lq i;have hge:∀ h:i<o.kids.length,o.kids[i]=o.kids.getD i T0:=fun h=>by rw[List.getD_eq_getElem?_getD,List.getElem?_eq_getElem h];rfl
  have hge0:¬ i<o.kids.length→o.kids.getD i T0=T0:=fun h=>by rw[List.getD_eq_getElem?_getD,List.getElem?_eq_none (by omega)];rfl
  generalize hc:(mg f (at'++[(0,(i:Int))]) (o.kids.getD i T0) (CR p.kids i) (CR q.kids i)).2=c at *;have S0:¬ i<o.kids.length→G.Spec Tryz.prog 37 [A8 (at'++[(0,(i:Int))]),.agg [iv 0,.sl true [],.sl true []],eX (CR p.kids i),eX (CR q.kids i)] (.tup [tX (U i),G5 c]):=fun h=>by
   have e:=hge0 h;rw[e] at S;refine S.soft ?_;show [A.sl false (A.softL ((at'++[(0,(i:Int))]).map Lo)),tX T0,.agg (A.softL (eL (CR p.kids i))),.agg (A.softL (eL (CR q.kids i)))]=_;rw[MI,JV,JV]
  generalize o.kids.getD i T0=t at *;refine Ab Aj CI.eq_1 ?_;by_cases hil:i<o.kids.length
  ·have hg:=hge hil;simp[hlt,g0,hil,hg,Aa];rw[Ek.eq_1];simp[g1,g2,Aa];refine Ae AT (by simp) ?_;simp[g1,g2,Aa];refine Ae K1 (by simp) ?_;simp[g1,g2,Aa];refine Ae K2 (by simp) ?_;simp[g1,g2,Aa];refine Ae S (by simp) ?_;simp[g4,g11,g7,Aa];refine⟨⟨by omega,by omega⟩,by omega,?_⟩;rw[ew];rw[List.length_append] at next
   refine next _ _ (by omega) (by simp[Aa,g0]) (by simp[Aa,g1]) (by simp[Aa,g2]) (by simp[Aa,g3]) (by simp[Aa]) (by simp[Aa,AN,e8]) ?_ (by simp[Aa,g8])
   simp[Aa,AN,← hD]
  ·have h0:=S0 hil;simp[hlt,g0,hil,Aa];rw[Ek.eq_1];simp[g1,g2,Aa];refine Ae AT (by simp) ?_;simp[g1,g2,Aa];refine Ae K1 (by simp) ?_;simp[g1,g2,Aa];refine Ae K2 (by simp) ?_;simp[g1,g2,Aa];refine Ae h0 (by simp) ?_;simp[g4,g11,g7,Aa];refine⟨⟨by omega,by omega⟩,by omega,?_⟩;rw[ew];rw[List.length_append] at next
   refine next _ _ (by omega) (by simp[Aa,g0]) (by simp[Aa,g1]) (by simp[Aa,g2]) (by simp[Aa,g3]) (by simp[Aa]) (by simp[Aa,AN,e8]) ?_ (by simp[Aa,g8])
   simp[Aa,AN,← hD]
theorem Hw {d:Nat} {e:E} (hd:BG d e=true) (hk1:e.kind ≠ 1):(∀ x,x ∈ e.kids→BG (d-1) x.e=true)∧∀ x,x ∈ e.ops→(Ht x∧x.l.length≤1048576)∧(x.kind=3→BG (d-1) x.e=true):=by
 obtain⟨k,o,n,ws,ks,l,os⟩:=e;have k1:k ≠ 1:=hk1;rw[Jm] at hd;split at hd
 ·cases hd
 rename_i hhead;split at hd
 ·cases hd
 rename_i hw;split at hd
 ·cases hd
 rename_i hk;split at hd
 ·cases hd
 rename_i hl;split at hd
 ·cases hd
 rename_i ho;simp at hd hw hk ho;have hp2:=Hu (by omega) hk;have hro:=rightOs_all.1 ho;have hop:∀ x,x ∈ os→Ht x:=fun x hx=>by
  have:=hro x hx;rw[ET] at this;simp at this;exact YD this.1 (fun h3=>by
   rcases this.2 with h | h
   ·exact absurd h3 h
   ·exact h.1.1)
 refine⟨fun x hx=>(hp2 x hx).2,fun x hx=>⟨(SH hop hd.1 hd.2).2 x hx,fun h3=>?_⟩⟩;have:=hro x hx;rw[ET,if_pos h3] at this;simp at this;exact this.2.1.2
theorem S6 {R R':E→T→T→Prop} {os:List OP} {a b:List T} (h:LdO R os a b):(∀ o x y,o ∈ os→o.kind=3→x ∈ a→y ∈ b→R o.e x y→R' o.e x y)→LdO R' os a b:=by
 induction h with
 |nil=>exact fun _=>.nil
 |keep l m hne hl _ ih=>exact fun hR=>.keep l m hne hl (ih fun e x y ho hk hx hy=>hR e x y (List.mem_cons_of_mem _ ho) hk (List.mem_append_right _ hx) (List.mem_append_right _ hy))
 |del l m hne hl _ ih=>exact fun hR=>.del l m hne hl (ih fun e x y ho hk hx hy=>hR e x y (List.mem_cons_of_mem _ ho) hk (List.mem_append_right _ hx) hy)
 |ins l m hne hl _ ih=>exact fun hR=>.ins l m hne hl (ih fun e x y ho hk hx hy=>hR e x y (List.mem_cons_of_mem _ ho) hk hx (List.mem_append_right _ hy))
 |desc e x y r _ ih=>exact fun hR=>.desc e x y (hR (.mk 3 0 [] e) x y (by simp) rfl (by simp) (by simp) r) (ih fun e x y ho hk hx hy=>hR e x y (List.mem_cons_of_mem _ ho) hk (List.mem_cons_of_mem _ hx) (List.mem_cons_of_mem _ hy))
theorem bS {a b:List Int} {ws:List WE} (h:Kb a b 0 ws) (i:Nat):Rd (B8 ws i).mask∧AA (B8 ws i).new:=by
 have key:∀ {p:Nat} {ws:List WE},Kb a b p ws→∀ w,w ∈ ws→Rd w.mask∧AA w.new:=fun {p ws} h=>by
  induction h with
  |nil=>intro w hw;simp at hw
  |cons p i m o n ws hp h hi hm ho hn h1 h2 _ ih=>
   intro w hw;rcases List.mem_cons.1 hw with rfl | hw
   ·exact⟨⟨Int.le_of_lt hm.1,hm.2⟩,by show AA n;rw[← hn];exact BX _ _ _⟩
   ·exact ih w hw
 unfold B8;cases e:ws.find? (fun w=>decide (w.at_=(i:Int))) with
 |none=>exact⟨⟨Int.le_refl _,by decide⟩,⟨by decide,by decide⟩⟩
 |some w=>exact key h w (List.mem_of_find?_eq_some e)
theorem Vg {f:Nat} {at':Cw} (hat:at'.length≤900000) {o:T} (wo:AD o) {p q:E} {x y:T} (hp:Kb o.words x.words 0 p.words) (hq:Kb o.words y.words 0 q.words) {R:E→T→T→Prop} (kp:U7 R o.kids x.kids 0 p.kids) (kq:U7 R o.kids y.kids 0 q.kids) (b1:o.words.length≤700000∧o.kids.length≤700000) (b2:x.words.length≤700000∧x.kids.length≤700000) (b3:y.words.length≤700000∧y.kids.length≤700000) (wp:p.words.length≤1000000∧p.kids.length≤1000000) (wq:q.words.length≤1000000∧q.kids.length≤1000000)
  (hU:∀ i:Nat,∃ u,kF f (at'++[(0,(i:Int))]) (o.kids.getD i T0) (CR p.kids i) (CR q.kids i) u) :
  ∃ u,AD u∧Af u=(Uq (mg f) at' o p q).1∧((Uq (mg f) at' o p q).2.length≤100000000000 →
   G.Spec Tryz.prog 63 [A8 at',tX o,eX p,eX q] (.tup [tX u,G5 (Uq (mg f) at' o p q).2])):=by
 obtain⟨U,hU⟩:=Classical.axiomOfChoice hU;have tw:Bu (Bu o.words.length p.words) q.words≤700000:=Np (Np b1.1 fun w hw=>by
  obtain⟨i,k1,k2,k3,_⟩:=IL hp w hw;omega) fun w hw=>by
  obtain⟨i,k1,k2,k3,_⟩:=IL hq w hw;omega
 have tk:Bf (Bf o.kids.length p.kids) q.kids≤700000:=MO (MO b1.2 fun w hw=>by
  obtain⟨i,k1,k2,k3,_⟩:=IV kp w hw;omega) fun w hw=>by
  obtain⟨i,k1,k2,k3,_⟩:=IV kq w hw;omega
 have O:=wfT_iff.1 wo;have aw:∀ k,k ∈ p.words++q.words→0≤k.at_∧k.at_≤900000:=fun w hw=>by
  rcases List.mem_append.1 hw with hw | hw
  ·obtain⟨i,k1,k2,k3,_⟩:=IL hp w hw;omega
  ·obtain⟨i,k1,k2,k3,_⟩:=IL hq w hw;omega
 have ak:∀ k,k ∈ p.kids++q.kids→0≤k.at_∧k.at_≤900000:=fun w hw=>by
  rcases List.mem_append.1 hw with hw | hw
  ·obtain⟨i,k1,k2,k3,_⟩:=IV kp w hw;omega
  ·obtain⟨i,k1,k2,k3,_⟩:=IV kq w hw;omega
 have MS:=XH (o:=o) (p:=p) (q:=q) (by omega) wp.1 wq.1 wp.2 wq.2 aw ak;have hc2:(Uq (mg f) at' o p q).2=((List.range (Bu (Bu o.words.length p.words) q.words)).flatMap (fun i:Nat=>IX at' i (o.words.getD i 0) (B8 p.words i) (B8 q.words i)))++((List.range (Bf (Bf o.kids.length p.kids) q.kids)).flatMap fun i:Nat=>(mg f (at'++[(0,(i:Int))]) (o.kids.getD i T0) (CR p.kids i) (CR q.kids i)).2):=rfl;have mw:∀ z,z ∈ ((List.range (Bu (Bu o.words.length p.words) q.words)).map fun i:Nat=>Gb (o.words.getD i 0) (B8 p.words i) (B8 q.words i))→AA z:=fun z hz=>by
  obtain⟨i,_,rfl⟩:=List.mem_map.1 hz;unfold Gb;split
  ·exact Fa O.w i
  ·exact BX _ _ _
 refine⟨.mk 1 ((List.range (Bu (Bu o.words.length p.words) q.words)).map fun i:Nat=>Gb (o.words.getD i 0) (B8 p.words i) (B8 q.words i)) ((List.range (Bf (Bf o.kids.length p.kids) q.kids)).map U),wfT_iff.2 ⟨by simp[Db],mw,by simp;omega,by simp;omega,fun t ht=>?_⟩,?_,fun hC=>?_⟩
 ·obtain⟨i,_,rfl⟩:=List.mem_map.1 (show t ∈ (List.range _).map U from ht);exact(hU i).1
 ·unfold Uq;refine struct_eq.2 ⟨fun j=>rfl,fun j=>?_⟩;by_cases c:j<Bf (Bf o.kids.length p.kids) q.kids
  ·have:=(hU j).2.1;simp only[List.getD_eq_getElem?_getD,List.getElem?_map,List.getElem?_range c,Option.map_some,Option.getD_some];rw[List.getD_eq_getElem?_getD] at this;rw[← this,Dr]
  ·rw[List.getD_eq_getElem?_getD,List.getD_eq_getElem?_getD,List.getElem?_eq_none (by simp;omega),List.getElem?_eq_none (by simp;omega)]
 rw[hc2] at hC ⊢;rw[List.length_append] at hC;have hN:Bu (Bu o.words.length p.words) q.words≤1000000:=by omega
 have hM:Bf (Bf o.kids.length p.kids) q.kids≤1000000:=by omega
 refine Ag KB (by simp) fun w0 I0=>?_;have L1:=fun {n0:Nat} {Q:Exit→Sta→Prop}=>Ze (n0:=n0) (w0:=w0) (I0:=I0) (Q:=Q) hat wo (p:=p) (q:=q) (by omega) (by omega) (bS hp) (bS hq) hN (M:=Bf (Bf o.kids.length p.kids) q.kids) (C:=[]) (K:=.osl [11] 1 3 0 0) (X:=⟨1,.arr 3 []⟩) (by simpa using Nat.le_trans (Nat.le_add_right _ _) hC);have L2:=fun {n0:Nat} {Q:Exit→Sta→Prop} {W:A} {X:VOb}=>ZT (n0:=n0) (w0:=w0) (I0:=I0) (Q:=Q) hat (o:=o) (p:=p) (q:=q) (by omega) (by omega) hU hM (C:=(List.range (Bu (Bu o.words.length p.words) q.words)).flatMap (fun i:Nat=>IX at' i (o.words.getD i 0) (B8 p.words i) (B8 q.words i))) (W:=W) (X:=X) hC;unfold GN;generalize hgw:(fun i:Nat=>Gb (o.words.getD i 0) (B8 p.words i) (B8 q.words i))=gw at *;generalize hgc:(fun i:Nat=>IX at' i (o.words.getD i 0) (B8 p.words i) (B8 q.words i))=gc at *;generalize hgk:(fun i:Nat=>(mg f (at'++[(0,(i:Int))]) (o.kids.getD i T0) (CR p.kids i) (CR q.kids i)).2)=gk at *;simp;refine Ae MS (by simp) ?_;generalize Bu (Bu o.words.length p.words) q.words=N at *;generalize Bf (Bf o.kids.length p.kids) q.kids=M at *;simp[Aa];refine LoopC.le (Bc (d:=[4]) (u:=1) (cs:=[iv 1,.sl true [],.sl true []]) 1 [8] 1 (by simp[Aa]) rfl (by simp)) ?_;refine LoopC.le (Bc (d:=[4]) (u:=1) (cs:=[iv 1,.osl [8] 1 1 0 0,.sl true []]) 2 [11] 3 (by simp[Aa]) rfl (by simp)) ?_;refine LoopC.le (E6 11 [7] 10 (by simp)) ?_;refine LoopC.le (Ay [(0,A8 at'),(5,.pob [0] 1 0),(6,.pob [1] 1 0),(7,.pob [2] 1 0),(8,.pob [3] 1 0),(10,.pob [4] 1 0),(11,.osl [7] 1 10 0 ([]++(List.range 0).flatMap gc).length),(12,iv N),(13,iv M),(14,iv (0:Nat))] (by simp[upd,Aa])) ?_;refine L1 (fun H' w st g0 g1 g2 g3 g4 g8 g7 g11=>?_) N 0 1 _ (Nat.zero_add _) (by simp[Aa]) (by simp[Aa]) (by simp[Aa]) (by simp[Aa]) (by simp[Aa]) (by simp[Aa]) (by simp[Aa]) (by simp[Aa]);rw[List.nil_append] at g7;rw[List.nil_append];simp;refine LoopC.le (Ay [(0,A8 at'),(5,.pob [0] 1 0),(6,.pob [1] 1 0),(7,.pob [2] 1 0),(8,.pob [3] 1 0),(10,.pob [4] 1 0),(11,.osl [7] w 10 0 ((List.range N).flatMap gc++(List.range 0).flatMap gk).length),(13,iv M),(21,iv (0:Nat))] (by simp)) ?_;refine L2 (W:=.osl [8] (N+1) 1 0 N) (X:=⟨N+1,.arr 1 (((List.range N).map gw).map uv)⟩) (fun H2 w2 st2 k3 k4 k11 k7 k8=>?_) M 0 w _ (Nat.zero_add _) g0 g1 g2 g3 g4 g11 (by simpa using g7) g8;simp[k3,k4,Aa];exact An ⟨AE ⟨Ad rfl,A3 (f:=uv) (l:=(List.range N).map gw) (by simp[Aa,k8]) (by simp) (fun x=>by simp),A3 (f:=tA) (l:=(List.range M).map U) (by simp[Aa,k11]) (by simp) (fun x=>by simp),trivial⟩,Tt (by simp[Aa,k7]) (by simp),trivial⟩
theorem KU {t:T} (h:ED t=true):t=T0:=by
 obtain⟨k,w,l⟩:=t;unfold ED at h;simp[List.isEmpty_iff] at h;obtain⟨⟨h1,h2⟩,h3⟩:=h;rw[of_decide_eq_true h1,h2,h3]
theorem Qw {e:E} (h:Kt e=true):e=E0:=by
 obtain⟨k,o,n,ws,ks,l,os⟩:=e;unfold Kt at h;simp[List.isEmpty_iff] at h;obtain⟨⟨⟨⟨h1,h2⟩,h3⟩,⟨h4,h5⟩,h6⟩,h7⟩:=h;rw[of_decide_eq_true h1,KU h2,KU h3,h4,h5,h6,of_decide_eq_true h7]
theorem Q8:∀ {l m:List T},l.length=m.length→(l.zip m).all (fun p=>G9 p.1 p.2)=true→l.map Af=m.map Af
 |[],[],_,_=>rfl
 |[],y::m,h,_=>by simp at h
 |x::l,[],h,_=>by simp at h
 |x::l,y::m,h,g=>by
  rw[List.zip_cons_cons,List.all_cons,Bool.and_eq_true] at g;rw[List.map_cons,List.map_cons,eqT_iff.1 g.1,Q8 (by simpa using h) g.2]
theorem Tr {d:Nat} {list:Int} {o:OP} (h:Gn d list o=true):(∃ n:Nat,1≤n∧o = .mk 0 (n:Int) [] E0)∨(∃ l:List T,l ≠ []∧o = .mk 1 0 l E0)∨(∃ l:List T,l ≠ []∧o = .mk 2 0 l E0)∨(∃ e,BG d e=true∧o = .mk 3 0 [] e):=by
 obtain⟨k,n,l,e⟩:=o;rw[ET,Bool.and_eq_true] at h;obtain⟨h1,h2⟩:=h;unfold E4 at h1;by_cases k0:k=0
 ·subst k0;rw[if_pos (show(OP.mk 0 n l e).kind=0 from rfl)] at h1;simp[List.isEmpty_iff] at h1;obtain⟨⟨⟨a,b⟩,c⟩,g⟩:=h1;have a:=of_decide_eq_true a;have b:=of_decide_eq_true b;refine .inl ⟨n.toNat,by omega,?_⟩;rw[c,Qw g,show((n.toNat:Nat):Int)=n from by omega]
 rw[if_neg (show ¬ (OP.mk k n l e).kind=0 from k0)] at h1;by_cases kb:n ≠ 0∨k<0∨k > 3
 ·rw[if_pos (show(OP.mk k n l e).n ≠ 0∨(OP.mk k n l e).kind<0∨(OP.mk k n l e).kind > 3 from kb)] at h1;cases h1
 rw[if_neg (show ¬ ((OP.mk k n l e).n ≠ 0∨(OP.mk k n l e).kind<0∨(OP.mk k n l e).kind > 3) from kb)] at h1;have n0:n=0:=by apply Classical.byContradiction;intro h;exact kb (.inl h)
 subst n0;by_cases k3:k<3
 ·rw[if_pos (show(OP.mk k 0 l e).kind<3 from k3)] at h1;simp[List.isEmpty_iff] at h1;obtain⟨⟨_,a⟩,b⟩:=h1;have eb:=Qw b;have:k=1∨k=2:=by omega
  rcases this with rfl | rfl
  ·exact .inr (.inl ⟨l,a,by rw[eb]⟩)
  ·exact .inr (.inr (.inl ⟨l,a,by rw[eb]⟩))
 ·have:k=3:=by omega
  subst this;rw[if_pos (show(OP.mk 3 0 l e).kind=3 from rfl)] at h2;simp[JR,List.isEmpty_iff] at h2;obtain⟨⟨⟨⟨a,_⟩,_⟩,b⟩,_⟩:=h2;exact .inr (.inr (.inr ⟨e,b,by rw[a]⟩))
theorem Ko {R:E→T→T→Prop} {P P':T→Prop} (hPP:∀ t,P t→P' t) {tk:List T} (hP:∀ t,t ∈ tk→P t) {d:Nat} {list:Int}:∀ (os:List OP) (a:Nat) (B:List T),(∀ o,o ∈ os→Gn d list o=true)→Cp tk a (CE os)=some (B,tk.length)→a≤tk.length→(∀ o,o ∈ os→∀ t,t ∈ o.l→P' t)→(∀ o,o ∈ os→o.kind=3→∀ t v,P t→GY o.e t=some v→∃ y,R o.e t y∧Af y=Af v∧P' y) →
  ∃ Y:List T,Y.map Af=B.map Af∧(∀ y,y ∈ Y→P' y)∧LdO R os (tk.drop a) Y
 |[],a,B,hr,h,ha,hl,hI=>by
  rw[CE,Cp] at h;injection h with h;obtain⟨rfl,h2⟩:=Prod.mk.inj h;exact⟨[],rfl,fun y hy=>by simp at hy,by rw[h2,List.drop_length];exact .nil⟩
 |o::os,a,B,hr,h,ha,hl,hI=>by
  have hap:CE (o::os)=(o.kind,o.n,o.l,GY o.e)::CE os:=by rw[FO,List.map_cons,← FO]
  rw[hap] at h;have hr':=fun x hx=>hr x (List.mem_cons_of_mem _ hx);have hl':=fun x hx=>hl x (List.mem_cons_of_mem o hx);have hI':=fun x hx=>hI x (List.mem_cons_of_mem o hx);rcases Tr (hr o (by simp)) with ⟨n,hn,rfl⟩ | ⟨l,hne,rfl⟩ | ⟨l,hne,rfl⟩ | ⟨e,he,rfl⟩
  ·rw[show(OP.mk 0 (n:Int) [] E0).kind=0 from rfl,show(OP.mk 0 (n:Int) [] E0).n=n from rfl,Cp,if_pos rfl,Int.toNat_natCast] at h;by_cases c:a+n≤tk.length;rotate_left
   ·rw[if_neg c] at h;cases h
   rw[if_pos c] at h;obtain⟨r,h1,h2⟩:=Option.map_eq_some_iff.1 h;obtain⟨rfl,h3⟩:=Prod.mk.inj h2;obtain⟨Y,y1,y2,y3⟩:=Ko hPP hP os (a+n) r.1 hr' (by rw[h1,← h3]) c hl' hI';have hlen:((tk.drop a).take n).length=n:=by simp;omega
   refine⟨(tk.drop a).take n++Y,by rw[List.map_append,List.map_append,y1],fun y hy=>?_,?_⟩
   ·rcases List.mem_append.1 hy with hy | hy
    ·exact hPP y (hP y (Zd (St hy)))
    ·exact y2 y hy
   ·have:=LdO.keep (R:=R) ((tk.drop a).take n) ((tk.drop a).take n) (fun e=>by rw[e] at hlen;simp at hlen;omega) rfl y3;rw[hlen] at this;rw[← List.drop_drop,List.take_append_drop] at this;exact this
  ·rw[show(OP.mk 1 0 l E0).kind=1 from rfl,show(OP.mk 1 0 l E0).l=l from rfl,Cp,if_neg (by decide),if_pos rfl] at h;by_cases c:a+l.length≤tk.length∧(((tk.drop a).take l.length).zip l).all (fun p=>G9 p.1 p.2)=true;rotate_left
   ·rw[if_neg c] at h;cases h
   rw[if_pos c] at h;obtain⟨Y,y1,y2,y3⟩:=Ko hPP hP os (a+l.length) B hr' h c.1 hl' hI';have hlen:((tk.drop a).take l.length).length=l.length:=by simp;omega
   have hz:=Q8 hlen c.2;refine⟨Y,y1,y2,?_⟩;have:=LdO.del (R:=R) l ((tk.drop a).take l.length) hne hz.symm y3;rw[← List.drop_drop,List.take_append_drop] at this;exact this
  ·rw[show(OP.mk 2 0 l E0).kind=2 from rfl,show(OP.mk 2 0 l E0).l=l from rfl,Cp,if_neg (by decide),if_neg (by decide),if_pos rfl] at h;obtain⟨r,h1,h2⟩:=Option.map_eq_some_iff.1 h;obtain⟨rfl,h3⟩:=Prod.mk.inj h2;obtain⟨Y,y1,y2,y3⟩:=Ko hPP hP os a r.1 hr' (by rw[h1,← h3]) ha hl' hI';refine⟨l++Y,by rw[List.map_append,List.map_append,y1],fun y hy=>?_,.ins l l hne rfl y3⟩;rcases List.mem_append.1 hy with hy | hy
   ·exact hl (.mk 2 0 l E0) (by simp) y hy
   ·exact y2 y hy
  ·rw[show(OP.mk 3 0 [] e).kind=3 from rfl,show(OP.mk 3 0 [] e).e=e from rfl,Cp,if_neg (by decide),if_neg (by decide),if_neg (by decide)] at h;cases hx:tk[a]? with
   |none=>rw[hx] at h;cases h
   |some x=>
    rw[hx] at h;simp only at h;cases hv:GY e x with
    |none=>rw[hv] at h;cases h
    |some v=>
     rw[hv] at h;simp only at h;obtain⟨r,h1,h2⟩:=Option.map_eq_some_iff.1 h;obtain⟨rfl,h3⟩:=Prod.mk.inj h2;have halt:a<tk.length:=by
      apply Classical.byContradiction;intro hn;rw[List.getElem?_eq_none (by omega)] at hx;cases hx
     have hxe:tk[a]=x:=by rw[List.getElem?_eq_getElem halt] at hx;exact Option.some.inj hx
     obtain⟨Y,y1,y2,y3⟩:=Ko hPP hP os (a+1) r.1 hr' (by rw[h1,← h3]) halt hl' hI';obtain⟨y0,r1,r2,r3⟩:=hI (.mk 3 0 [] e) (by simp) rfl x v (hP x (List.mem_of_getElem? hx)) hv;refine⟨y0::Y,by rw[List.map_cons,List.map_cons,y1,r2],fun y hy=>?_,?_⟩
     ·rcases List.mem_cons.1 hy with rfl | hy
      ·exact r3
      ·exact y2 y hy
     ·rw[← List.getElem_cons_drop halt,hxe];exact .desc e x y0 r1 y3
def dJ (e:E) (x:T):Prop:=∃ u,AD u∧G.Spec Tryz.prog 45 [eX e,tX x] (.tup [tX u,bv (GY e x).isSome])
theorem lA {k0:Int} {os:List OP} (hol:os.length≤2200000) (how:∀ o,o ∈ os→∀ t,t ∈ o.l→AD t) (hos:∀ o,o ∈ os→o.l.length≤1048576) {d:Nat} {list:Int} (hr:∀ o,o ∈ os→Gn d list o=true) {tk:List T} (htk:∀ t,t ∈ tk→AD t) (hlt:tk.length≤1000000) (hone:∀ o,o ∈ os→o.kind=3→∀ x,x ∈ tk→dJ o.e x) :
  ∀ (m k i:Nat) (X:List T),k+m=os.length→i≤tk.length→(∀ t,t ∈ X→AD t)→X.length≤1048576*k →
  ∃ R:Option (List T × Nat),(R=none→Cp tk i (CE (os.drop k))=none)∧(∀ X' i',R=some (X',i')→(∀ t,t ∈ X'→AD t)∧X'.length≤1048576*os.length∧i'≤tk.length∧∃ B,Cp tk i (CE (os.drop k))=some (B,i')) ∧
   ∀ (n0:Nat) (w0:World) (I0:Nat→Prop) (Q:Exit→Sta→Prop) (v:Nat) (H:Hp),H [2]=⟨1,.cells [iv 0,.sl true [],.sl true []]⟩→H [3]=⟨1,.cells [iv k0,.sl true [],.osl [5] v 3 0 X.length]⟩→H [5]=⟨v,.arr 3 (X.map tA)⟩ →
    (R=none→∀ H':Hp,H' [2]=⟨1,.cells [iv 0,.sl true [],.sl true []]⟩→Q .ret ⟨lk [(4,.pob [2] 1 0),(5,bv false)],H'⟩) →
    (∀ X' i',R=some (X',i')→∀ (H':Hp) (v:Nat) (st:List (Nat × A)),H' [2]=⟨1,.cells [iv 0,.sl true [],.sl true []]⟩→H' [3]=⟨1,.cells [iv k0,.sl true [],.osl [5] v 3 0 X'.length]⟩→H' [5]=⟨v,.arr 3 (X'.map tA)⟩→Q (.exit 0) ⟨lk ([(4,.pob [2] 1 0),(6,.pob [3] 1 0),(7,Bx (tk.drop i'))]++st),H'⟩) →
    LoopC (cx Tryz.prog w0 I0 n0) AQ Q ⟨lk [(4,.pob [2] 1 0),(6,.pob [3] 1 0),(7,Bx (tk.drop i)),(26,IW os),(27,iv os.length),(28,iv k)],H⟩:=by
 intro m;induction m with
 |zero=>
  intro k i X hm hi hX lX;have:k=os.length:=by omega
  subst this;refine⟨some (X,i),fun h=>(by cases h),fun X' i' h=>?_,fun n0 w0 I0 Q v H h2 h3 h5 hn hq=>?_⟩
  ·cases h;exact⟨hX,lX,hi,[],by rw[List.drop_length,CE,Cp]⟩
  ·have:=hq X i rfl H v [(26,IW os),(27,iv os.length),(28,iv os.length),(29,bv false)] h2 h3 h5;refine Ab Aj AQ.eq_1 ?_;simp;simpa using this
 |succ m ih=>
  intro k i X hm hi hX lX;have hlt2:k<os.length:=by omega
  have ew:=AI k;have hd:os.drop k=os[k]::os.drop (k+1):=(List.getElem_cons_drop hlt2).symm;have ho:=BD hlt2;have eXt:List.take X.length (X.map tA)=X.map tA:=AN (by simp);have hap:CE (os.drop k)=(os[k].kind,os[k].n,os[k].l,GY os[k].e)::CE (os.drop (k+1)):=by rw[hd,FO,List.map_cons,← FO]
  have hol1:=hos _ ho;have how1:=how _ ho;have hone1:=hone _ ho;have hlen:(tk.drop i).length=tk.length-i:=by simp
  have hDn:∀ n,tk.drop (i+n)=(tk.drop i).drop n:=fun n=>by rw[List.drop_drop]
  have hDw:∀ t,t ∈ tk.drop i→AD t:=fun t ht=>htk t (Zd ht);have hzip:(tk.drop i)=(tk.drop i):=rfl;rw[hap];rcases Tr (hr _ ho) with ⟨n,hn,e⟩ | ⟨l,hne,e⟩ | ⟨l,hne,e⟩ | ⟨ee,he,e⟩
  ·-- keep
   rw[e] at hol1 how1 hone1 ⊢;rw[show(OP.mk 0 (n:Int) [] E0).kind=0 from rfl,show(OP.mk 0 (n:Int) [] E0).n=n from rfl,Cp,if_pos rfl,Int.toNat_natCast];by_cases c:i+n≤tk.length
   ·rw[if_pos c];obtain⟨R,r1,r2,r3⟩:=ih (k+1) (i+n) (X++(tk.drop i).take n) (by omega) c (fun t ht=>by
     rcases List.mem_append.1 ht with h | h
     ·exact hX t h
     ·exact hDw t (St h)) (by simp;omega)
    refine⟨R,fun h=>by rw[r1 h];rfl,fun X' i' h=>?_,fun n0 w0 I0 Q v H h2 h3 h5 hn' hq=>?_⟩
    ·obtain⟨q1,q2,q3,B,q4⟩:=r2 X' i' h;exact⟨q1,q2,q3,_,by rw[q4];rfl⟩
    ·have nx:=fun H=>r3 n0 w0 I0 Q (v+1) H;rw[hDn] at nx;have hnD:n≤(tk.drop i).length:=by omega
     generalize tk.drop i=D at *;have c1:(n:Int)≤(D.length:Int):=by omega
     have c2:¬ ((D.length:Int)<(n:Int)):=by omega
     have ea:List.take (D.length-n) (List.drop n (D.map tA))=List.drop n (D.map tA):=AN (by simp);have hmin:min n D.length=n:=by omega
     rw[List.length_append,List.length_take,hmin] at nx;rw[show Bx (D.drop n) = .sl false (List.drop n (D.map tA)) from by rw[← List.map_drop]] at nx;refine Ab Aj AQ.eq_1 ?_;simp[hlt2,e,Aa,h3,h5];rw[Bn.eq_1];simp[hlt2,e,Aa,h3,h5,ew,c1,c2,eXt,ea,hmin];refine⟨by omega,?_⟩;refine nx _ (by simp[Aa,h2]) (by simp[Aa]) (by simp[Aa]) hn' hq
   ·rw[if_neg c];refine⟨none,fun _=>rfl,fun X' i' h=>(by cases h),fun n0 w0 I0 Q v H h2 h3 h5 hn' hq=>?_⟩;have c2:((tk.length-i:Nat):Int)<(n:Int):=by omega
    refine Ab Aj AQ.eq_1 ?_;simp[hlt2,e,Aa,h3,h5];rw[Bn.eq_1];simp[hlt2,e,Aa,h2,h3,h5,ew,c2];exact hn' rfl _ (by simp[Aa])
  ·-- delete
   rw[e] at hol1 how1 hone1 ⊢;rw[show(OP.mk 1 0 l E0).kind=1 from rfl,show(OP.mk 1 0 l E0).l=l from rfl,Cp,if_neg (by decide),if_pos rfl];have how2:∀ t,t ∈ l→AD t:=fun t ht=>how1 t ht;have hol2:l.length≤1048576:=hol1;by_cases c:i+l.length≤tk.length
   ·have E:=Uv (l:=l) (m:=(tk.drop i).take l.length) how2 (fun t ht=>hDw t (St ht)) (by omega);have hlenD:((tk.drop i).take l.length).length=l.length:=by simp;omega
    have hzz:(((tk.drop i).take l.length).zip l).all (fun p=>G9 p.1 p.2)=Ig l ((tk.drop i).take l.length):=by
     rw[Bool.eq_iff_iff,eqLs_iff];constructor
     ·intro h;exact(Q8 hlenD h).symm
     ·intro h;exact Tq h.symm
    rw[hzz];cases hE:Ig l ((tk.drop i).take l.length) with
    |true=>
     rw[hE] at E;rw[if_pos ⟨c,rfl⟩];obtain⟨R,r1,r2,r3⟩:=ih (k+1) (i+l.length) X (by omega) c hX (by omega);refine⟨R,r1,r2,fun n0 w0 I0 Q v H h2 h3 h5 hn' hq=>?_⟩;have nx:=fun H=>r3 n0 w0 I0 Q v H;rw[hDn] at nx;have hnD:l.length≤(tk.drop i).length:=by omega
     generalize tk.drop i=D at *;have c1:(l.length:Int)≤(D.length:Int):=by omega
     have c2:¬ ((D.length:Int)<(l.length:Int)):=by omega
     have ea:List.take (D.length-l.length) (List.drop l.length (D.map tA))=List.drop l.length (D.map tA):=AN (by simp);rw[show Bx (D.drop l.length) = .sl false (List.drop l.length (D.map tA)) from by rw[← List.map_drop]] at nx;rw[show Bx (D.take l.length) = .sl false (List.take l.length (D.map tA)) from by rw[← List.map_take]] at E;have et:List.take l.length (D.map tA)=(D.take l.length).map tA:=by rw[List.map_take]
     refine Ab Aj AQ.eq_1 ?_;simp[hlt2,e,Aa,h3,h5];rw[Bn.eq_1];simp[hlt2,e,Aa,h3,h5,ew,c1,c2,ea];refine Ae E (by simp) ?_;simp[ew];exact nx _ (by simp[Aa,h2]) (by simp[Aa,h3]) (by simp[Aa,h5]) hn' hq
    |false=>
     rw[hE] at E;rw[if_neg (fun h=>by cases h.2)];refine⟨none,fun _=>rfl,fun X' i' h=>(by cases h),fun n0 w0 I0 Q v H h2 h3 h5 hn' hq=>?_⟩;have hnD:l.length≤(tk.drop i).length:=by omega
     generalize tk.drop i=D at *;have c1:(l.length:Int)≤(D.length:Int):=by omega
     have c2:¬ ((D.length:Int)<(l.length:Int)):=by omega
     rw[show Bx (D.take l.length) = .sl false (List.take l.length (D.map tA)) from by rw[← List.map_take]] at E;refine Ab Aj AQ.eq_1 ?_;simp[hlt2,e,Aa,h3,h5];rw[Bn.eq_1];simp[hlt2,e,Aa,h2,h3,h5,ew,c1,c2];refine Ae E (by simp) ?_;simp[h2,Aa];exact hn' rfl _ (by simp[Aa])
   ·rw[if_neg (fun h=>c h.1)];refine⟨none,fun _=>rfl,fun X' i' h=>(by cases h),fun n0 w0 I0 Q v H h2 h3 h5 hn' hq=>?_⟩;have c2:((tk.length-i:Nat):Int)<(l.length:Int):=by omega
    refine Ab Aj AQ.eq_1 ?_;simp[hlt2,e,Aa,h3,h5];rw[Bn.eq_1];simp[hlt2,e,Aa,h2,h3,h5,ew,c2];exact hn' rfl _ (by simp[Aa])
  ·-- insert
   rw[e] at hol1 how1 hone1 ⊢;rw[show(OP.mk 2 0 l E0).kind=2 from rfl,show(OP.mk 2 0 l E0).l=l from rfl,Cp,if_neg (by decide),if_neg (by decide),if_pos rfl];have hol2:l.length≤1048576:=hol1;obtain⟨R,r1,r2,r3⟩:=ih (k+1) i (X++l) (by omega) hi (fun t ht=>by
    rcases List.mem_append.1 ht with h | h
    ·exact hX t h
    ·exact how1 t h) (by simp;omega)
   refine⟨R,fun h=>by rw[r1 h];rfl,fun X' i' h=>?_,fun n0 w0 I0 Q v H h2 h3 h5 hn' hq=>?_⟩
   ·obtain⟨q1,q2,q3,B,q4⟩:=r2 X' i' h;exact⟨q1,q2,q3,_,by rw[q4];rfl⟩
   ·have nx:=fun H=>r3 n0 w0 I0 Q (v+1) H;rw[List.length_append] at nx;refine Ab Aj AQ.eq_1 ?_;simp[hlt2,e,Aa,h3,h5,ew,eXt];refine⟨by omega,?_⟩;simp[Dg,ew];exact nx _ (by simp[Aa,h2]) (by simp[Aa]) (by simp[Aa]) hn' hq
  ·-- descend
   rw[e] at hol1 how1 hone1 ⊢;rw[show(OP.mk 3 0 [] ee).kind=3 from rfl,show(OP.mk 3 0 [] ee).e=ee from rfl,Cp,if_neg (by decide),if_neg (by decide),if_neg (by decide)];by_cases c:i<tk.length
   ·obtain⟨u,wu,S⟩:dJ ee tk[i]:=hone1 rfl tk[i] (BD c);rw[List.getElem?_eq_getElem c];simp only;have hcons:tk.drop i=tk[i]::tk.drop (i+1):=(List.getElem_cons_drop c).symm;generalize hx:tk[i]=x at *;cases hv:GY ee x with
    |none=>
     rw[hv] at S;refine⟨none,fun _=>rfl,fun X' i' h=>(by cases h),fun n0 w0 I0 Q v H h2 h3 h5 hn' hq=>?_⟩;rw[hcons];generalize tk.drop (i+1)=D at *;have c1:(1:Int)≤(D.length:Int)+1:=by omega
     have c2:¬ ((D.length:Int)+1<1):=by omega
     refine Ab Aj AQ.eq_1 ?_;simp[hlt2,e,Aa,h3,h5];rw[Bn.eq_1];simp[hlt2,e,Aa,h2,h3,h5,ew,c1,c2];refine Ae S (by simp) ?_;simp[h2,Aa];exact hn' rfl _ (by simp[Aa])
    |some w=>
     rw[hv] at S;simp only;obtain⟨R,r1,r2,r3⟩:=ih (k+1) (i+1) (X++[u]) (by omega) c (fun t ht=>by
      rcases List.mem_append.1 ht with h | h
      ·exact hX t h
      ·rw[List.mem_singleton.1 h];exact wu) (by simp;omega)
     refine⟨R,fun h=>by rw[r1 h];rfl,fun X' i' h=>?_,fun n0 w0 I0 Q v H h2 h3 h5 hn' hq=>?_⟩
     ·obtain⟨q1,q2,q3,B,q4⟩:=r2 X' i' h;exact⟨q1,q2,q3,_,by rw[q4];rfl⟩
     ·rw[hcons];have nx:=fun H=>r3 n0 w0 I0 Q (v+1) H;rw[List.length_append,List.length_singleton] at nx;have hlD:(tk.drop (i+1)).length≤1000000:=by simp;omega
      generalize tk.drop (i+1)=D at *;have c1:(1:Int)≤(D.length:Int)+1:=by omega
      have c2:¬ ((D.length:Int)+1<1):=by omega
      have ea:List.take D.length (D.map tA)=D.map tA:=AN (by simp);refine Ab Aj AQ.eq_1 ?_;simp[hlt2,e,Aa,h3,h5];rw[Bn.eq_1];simp[hlt2,e,Aa,h3,h5,ew,c1,c2,eXt,ea];refine Ae S (by simp) ?_;simp[hlt2,e,Aa,h3,h5,ew,c1,c2,eXt,ea];refine⟨by omega,?_⟩;exact nx _ (by simp[Aa,h2]) (by simp[Aa]) (by simp[Aa]) hn' hq
   ·rw[List.getElem?_eq_none (by omega)];refine⟨none,fun _=>rfl,fun X' i' h=>(by cases h),fun n0 w0 I0 Q v H h2 h3 h5 hn' hq=>?_⟩;have hz:tk.drop i=[]:=List.drop_eq_nil_of_le (by omega);rw[hz];refine Ab Aj AQ.eq_1 ?_;simp[hlt2,e,Aa,h3,h5];rw[Bn.eq_1];simp[hlt2,e,Aa,h2,h3,h5,ew];exact hn' rfl _ (by simp[Aa])
theorem W9 {l:Int} {os:List OP} {t:T} (hw:AD t) (hol:os.length≤2200000) (how:∀ o,o ∈ os→∀ t,t ∈ o.l→AD t) (hos:∀ o,o ∈ os→o.l.length≤1048576) {d:Nat} (hr:∀ o,o ∈ os→Gn d l o=true) (hlt:t.kids.length≤1000000) (hone:∀ o,o ∈ os→o.kind=3→∀ x,x ∈ t.kids→dJ o.e x) :
  ∃ u,AD u∧G.Spec Tryz.prog 77 [eX (.mk 3 T0 T0 [] [] l os),tX t] (.tup [tX u,bv (GY (.mk 3 T0 T0 [] [] l os) t).isSome]):=by
 obtain⟨k,w,ks⟩:=t;have hlt:ks.length≤1000000:=hlt;have ap:GY (.mk 3 T0 T0 [] [] l os) (.mk k w ks)=if k=l then (match Cp ks 0 (CE os) with
   |some (b,a)=>if a=ks.length then some (Af (.mk k [] b)) else none
   |none=>none) else none:=by rw[HF,Ep,if_neg (by decide),if_neg (by decide),if_neg (by decide),if_pos rfl];rfl
 rw[ap];by_cases c:k=l;rotate_left
 ·rw[if_neg c];refine⟨T0,Dd,?_⟩;refine Ag Hf (by simp) fun w0 I0=>?_;unfold FY;simp[c];exact An ⟨AE ⟨Ad rfl,Ah,Ah,trivial⟩,Ad rfl,trivial⟩
 subst c;rw[if_pos rfl];obtain⟨R,r1,r2,r3⟩:=lA (k0:=k) hol how hos hr (tk:=ks) (fun t ht=>(wfT_iff.1 hw).ks t ht) hlt hone os.length 0 0 [] (Nat.zero_add _) (Nat.zero_le _) (fun t ht=>by simp at ht) (Nat.zero_le _);rw[List.drop_zero] at r1 r2;cases R with
 |none=>
  rw[r1 rfl];refine⟨T0,Dd,?_⟩;refine Ag Hf (by simp) fun w0 I0=>?_;unfold FY;simp;refine LoopC.le (Bc (d:=[3]) (u:=1) 2 [5] 3 (by simp[Aa];rfl) rfl (by simp)) ?_;refine LoopC.le (Ay [(4,.pob [2] 1 0),(6,.pob [3] 1 0),(7,Bx (ks.drop 0)),(26,IW os),(27,iv os.length),(28,iv (0:Nat))] (by simp)) ?_;refine r3 _ _ _ _ 1 _ (by simp[Aa]) (by simp[Aa]) (by simp[Aa]) (fun _ H' h2=>?_) (fun X' i' h=>by cases h);simp[h2];exact An ⟨AE ⟨Ad rfl,Ah,Ah,trivial⟩,Ad rfl,trivial⟩
 |some r=>
  obtain⟨X,i⟩:=r;obtain⟨q1,q2,q3,B,q4⟩:=r2 X i rfl;rw[q4];simp only;have hk:=(wfT_iff.1 hw).k;refine⟨.mk k [] X,wfT_iff.2 ⟨hk,by simp,by simp,by show X.length*56≤_;omega,q1⟩,?_⟩;have hb:(if i=ks.length then some (Af (.mk k [] B)) else none:Option T).isSome=decide ((ks.length-i:Nat)=0):=by
   by_cases c:i=ks.length
   ·rw[if_pos c];simp[c]
   ·rw[if_neg c];simp;omega
  rw[hb];refine Ag Hf (by simp) fun w0 I0=>?_;unfold FY;simp;refine LoopC.le (Bc (d:=[3]) (u:=1) 2 [5] 3 (by simp[Aa];rfl) rfl (by simp)) ?_;refine LoopC.le (Ay [(4,.pob [2] 1 0),(6,.pob [3] 1 0),(7,Bx (ks.drop 0)),(26,IW os),(27,iv os.length),(28,iv (0:Nat))] (by simp)) ?_;refine r3 _ _ _ _ 1 _ (by simp[Aa]) (by simp[Aa]) (by simp[Aa]) (fun h=>by cases h) (fun X' i' h H' v st h2 h3 h5=>?_);cases h;simp[h2,h3];exact An ⟨AE ⟨Ad rfl,Ah,A3 (f:=tA) (l:=X) (by simp[Aa,h5]) rfl (fun x=>by simp),trivial⟩,Ad rfl,trivial⟩
end Go.Proofs.YtlaapfplenlfaaaGreat
