/-
 Texts,merged,without what is not reached.
-/
import Derived.Test.YtebihdhapepejaaGreatDoorKCc
set_option linter.unusedSimpArgs false
set_option linter.unusedVariables false
open Go.IntKind (i64 u64)
namespace Go.Proofs.YtebihdhapepejaaGreatDoor
open Go Go.G Go.Proofs Go.PL
mutual
theorem CG:∀ (t:T) (d:Nat) (n:Int),-1≤AV d n t∧(-1≤n→AV d n t≤n)
 |.mk k w l,d,n=>by
  rw[Mr];split
  ·omega
  ·have:=FN l (d-1) (n-1-w.length) (by omega);omega
theorem FN:∀ (l:List T) (d:Nat) (n:Int),-1≤n→-1≤AJ d n l∧AJ d n l≤n
 |[],d,n,h=>by simp;omega
 |t::l,d,n,h=>by
  rw[D1];split
  ·omega
  ·have h1:=CG t d n;have h2:=FN l d (AV d n t) h1.1;omega
end
theorem NR (l:List T) (d:Nat) {n:Int} (h:n<0):AJ d n l=n:=by
 cases l with
 |nil=>simp
 |cons t l=>simp[h]
variable {n0:Nat} {w0:World} {I0:Nat→Prop} {Q:Exit→Sta→Prop}
theorem WB {t:T} {d:Nat} (hd:1≤d) (hd1:d≤1000) (hl:t.kids.length*56≤140737488355328) (ih:∀ c,c ∈ t.kids→∀ (d:Nat) (n:Int),d≤1000→0≤n→n≤1000000→G.Spec Tryz.prog 30 [tX c,iv d,iv n] (iv (AV d n c)))
  {H:Hp} (hH:H [0]=⟨1,.cells [iv t.kind,IT t.words,Eg t.kids]⟩):∀ (m i:Nat) (n:Int),i+m=t.kids.length→-1≤n→n≤1000000 →
  (∀ i' q,Q (.exit 0) ⟨lk [(1,iv d),(2,iv (AJ (d-1) n (t.kids.drop i))),(3,.pob [0] 1 0),(7,iv i'),(28,bv q)],H⟩) →
  LoopC (cx Tryz.prog w0 I0 n0) Cs Q ⟨lk [(1,iv d),(2,iv n),(3,.pob [0] 1 0),(7,iv i)],H⟩:=by
 intro m;induction m with
 |zero=>
  intro i n hi h1 h2 hq;have:i=t.kids.length:=by omega
  subst this;refine Ae mixed Cs.eq_1 ?_;simp[hH];simpa using hq _ false
 |succ m ihm=>
  intro i n hi h1 h2 hq;have hlt:i<t.kids.length:=by omega
  refine Ae mixed Cs.eq_1 ?_;have e:t.kids.drop i=t.kids[i]::t.kids.drop (i+1):=List.drop_eq_getElem_cons hlt;by_cases hn:n<0
  ·simp[hH,hlt,show ¬ (0:Int)≤n by omega];have:=hq i false
   rwa [NR _ _ hn] at this
  ·have hn':0≤n:=by omega
   simp[hH,hlt,hn'];have ed:i64.wrap ((d:Int)-1)=((d-1:Nat):Int):=DU;rw[ed];refine Af (ih _ (B0 hlt) (d-1) n (by omega) hn' h2) rfl ?_;simp;have hr:=CG t.kids[i] (d-1) n;rw[Bs (by omega) (by omega)];refine ihm (i+1) _ (by omega) hr.1 (by omega) fun i' q=>?_;have:=hq i' q;rw[e,D1,if_neg (by omega)] at this;exact this
theorem JQ:∀ (t:T),Gc t→∀ (d:Nat) (n:Int),d≤1000→0≤n→n≤1000000→G.Spec Tryz.prog 30 [tX t,iv d,iv n] (iv (AV d n t)):=by
 refine T.ind fun k w l ih hw d n hd hn hn1=>?_;have hw':=wfT_iff.1 hw;have hwl:=hw'.wl;have hkl:=hw'.kl;simp at hwl hkl;have ihc:∀ c,c ∈ (T.mk k w l).kids→∀ (d:Nat) (n:Int),d≤1000→0≤n→n≤1000000→G.Spec Tryz.prog 30 [tX c,iv d,iv n] (iv (AV d n c)):=fun c hc=>ih c hc (hw'.ks c hc);refine Aj Ky (by simp) fun w0 I0=>?_;unfold GJ;have e1:i64.wrap (i64.wrap (n-1)-(w.length:Int))=n-1-w.length:=by rw[Bs (n:=n-1) (by omega) (by omega),Bs (by omega) (by omega)]
 rw[Mr];by_cases hc:d=0∨n-1-(w.length:Int)<0
 ·have hd:(decide (d=0) || decide (n-1-(w.length:Int)<0))=true:=by simp;omega
  simp[e1,hd,hc];exact Ab rfl
 ·have hd:(decide (d=0) || decide (n-1-(w.length:Int)<0))=false:=by simp;omega
  simp[e1,hd,hc];refine WB (t:=.mk k w l) (by omega) (by omega) hkl ihc (by simp) l.length 0 _ (by simp) (by omega) (by omega) fun i' q=>?_;simp;exact Ab rfl
abbrev tL (t:T):List A:=[iv t.kind,IT t.words,Eg t.kids]
theorem eo {a b:T} (hl:a.kids.length*56≤140737488355328) (hn:a.kids.length=b.kids.length) (ih:∀ c,c ∈ a.kids→∀ u,G.Spec Tryz.prog 27 [tX c,tX u] (bv (Pb c u)))
  {H:Hp} (hA:H [0]=⟨1,.cells (tL a)⟩) (hB:H [1]=⟨1,.cells (tL b)⟩):∀ (m i:Nat),i+m=a.kids.length→a.kids.take i=b.kids.take i→(a.kids=b.kids→∀ i' q,Q (.exit 0) ⟨lk [(2,.pob [0] 1 0),(3,.pob [1] 1 0),(5,iv i'),(32,bv q)],H⟩)→(a.kids ≠ b.kids→Q .ret ⟨lk [(4,bv false)],H⟩) →
  LoopC (cx Tryz.prog w0 I0 n0) DC Q ⟨lk [(2,.pob [0] 1 0),(3,.pob [1] 1 0),(5,iv i)],H⟩:=by
 intro m;induction m with
 |zero=>
  intro i hi ht h1 h2;have:i=a.kids.length:=by omega
  subst this;refine Ae mixed DC.eq_1 ?_;simp[hA,hB];refine h1 ?_ _ _;rw[Fv (Fa _),Fv (by omega)] at ht;exact ht
 |succ m ihm=>
  intro i hi ht h1 h2;have hlt:i<a.kids.length:=by omega
  have hlt':i<b.kids.length:=by omega
  refine Ae mixed DC.eq_1 ?_;simp[hA,hB,hlt,hlt'];refine Af (ih _ (B0 hlt) b.kids[i]) rfl ?_;simp;cases hs:Pb a.kids[i] b.kids[i] with
  |false=>
   simp;refine h2 fun e=>?_;have:a.kids[i]=b.kids[i]:=by simp[e]
   rw[← sameB_iff,hs] at this;cases this
  |true=>
   simp;rw[Bs (by omega) (by omega)];refine ihm (i+1) (by omega) ?_ h1 h2;rw[RY hlt,RY hlt',ht,sameB_iff.1 hs]
set_option maxRecDepth 8000 in
theorem UQ:∀ (a:T),Gc a→∀ b:T,G.Spec Tryz.prog 27 [tX a,tX b] (bv (Pb a b)):=by
 refine T.ind fun k w l ih hw b=>?_;have hw':=wfT_iff.1 hw;have hwl:=hw'.wl;have hkl:=hw'.kl;simp at hwl hkl;refine Aj MT (by simp) fun w0 I0=>?_;unfold Iq;have no:(k ≠ b.kind∨w ≠ b.words∨l ≠ b.kids)→Pb (.mk k w l) b=false:=fun h=>by
  rw[Bool.eq_false_iff];intro e;have:=sameB_iff.1 e;subst this;simp at h
 by_cases h1:k=b.kind
 ·by_cases h2:w=b.words
  ·by_cases h3:l.length=b.kids.length
   ·simp[h1];refine Ao rfl (fun _=>Ms w b.words hwl) (fun _=>rfl) rfl ?_;simp[h2,h3];refine eo (a:=.mk k w l) (b:=b) hkl h3 (fun c hc u=>ih c hc (hw'.ks c hc) u) (by simp[h1,h2]) (by simp) l.length 0 (by simp) rfl (fun e i' q=>?_) (fun e=>?_)
    ·simp;have:Pb (.mk k w l) b=true:=sameB_iff.2 (T.ext' h1 h2 e);rw[← h1,← h2,this];exact Ab rfl
    ·simp;rw[← h1,← h2,no (.inr (.inr e))];exact Ab rfl
   ·simp[h1];refine Ao rfl (fun _=>Ms w b.words hwl) (fun _=>rfl) rfl ?_;simp[h2,h3];refine⟨fun h=>absurd (by omega) h3,fun _=>?_⟩;rw[← h1,← h2,no (.inr (.inr fun e=>h3 (by rw[e])))];exact Ab rfl
  ·simp[h1];refine Ao rfl (fun _=>Ms w b.words hwl) (fun _=>rfl) rfl ?_;simp[h2];rw[← h1,no (.inr (.inl h2))];exact Ab rfl
 ·simp[h1];refine Ap rfl ?_;simp;rw[no (.inl h1)];exact Ab rfl
end Go.Proofs.YtebihdhapepejaaGreatDoor
namespace Go.PL
def hd (t:T):Int:=t.words.headD 0
structure PutI (w i:Nat) (out:List Int):Prop where
 rng:∀ (j:Nat) (h:j<out.length),0≤out[j]∧out[j]<18446744073709551616
 here:∀ (h:i*w / 64<out.length),out[i*w / 64]<2 ^ (i*w % 64)
 zero:∀ (j:Nat) (h:j<out.length),i*w / 64<j→out[j]=0
theorem PutI.start (w m:Nat):PutI w 0 (List.replicate m 0):=⟨fun j h=>by simp,fun h=>by simp,fun j h _=>by simp⟩
end Go.PL
namespace Go.Proofs.YtebihdhapepejaaGreatDoor
open Go Go.G Go.Proofs Go.PL
abbrev s1:List (List Int):=[[4294967296,7]]
abbrev s2:List (List Int):=[[8589934592,7,0]]
abbrev s3:List (List Int):=[[4294967296,8]]
def nJ (h x:Int):Int:=u64.wrap (bits .xor .u64 h x*1099511628211)
def dL (h x:Int):Int:=bits .xor .u64 (nJ h x) (nJ h x / 2 ^ min 29 u64.bits)
mutual
def gx:T→Int
 |.mk k w l=>gq (w.foldl dL (dL (dL 14695981039346656037 (u64.wrap k)) (u64.wrap w.length))) l
def gq:Int→List T→Int
 |h,[]=>h
 |h,t::l=>gq (dL h (gx t)) l
end
variable {n0:Nat} {w0:World} {I0:Nat→Prop} {Q:Exit→Sta→Prop}
theorem Zp {c:T} (h:Gc c) (hl:c.words.length=1):∃ x,c.words=[x]∧D5 x:=by
 have:=(wfT_iff.1 h).w
 match hc:c.words,hl with
 |[x],_=>exact⟨x,rfl,this x (by simp[hc])⟩
theorem TY {d:Nat} {c:T} (h:Ax d c=true) (h10:c.kind=10):c.words.length=1:=by
 obtain⟨k,w,l⟩:=c;simp at h10;subst h10;rw[C4] at h;simp at h;exact h.1
theorem aQ {t:T} (hl:t.kids.length*56≤140737488355328) (hk0:0≤t.kind) (hk1:t.kind≤10) {d:Nat} (hd:1≤d) (hd1:d≤1000) (hw:∀ c,c ∈ t.kids→Gc c) (ih:∀ c,c ∈ t.kids→∀ d:Nat,d≤1000→G.Spec Tryz.prog 15 [tX c,iv d] (bv (Ax d c))):∀ (m i:Nat) (H:Hp),i+m=t.kids.length→H [0]=⟨1,.cells (tL t)⟩ →
  (Eu (d-1) t.kind (t.kids.drop i)=true→∀ i' q H',Q (.exit 0) ⟨lk [(1,iv d),(2,.pob [0] 1 0),(5,iv i'),(82,bv q)],H'⟩)→(Eu (d-1) t.kind (t.kids.drop i)=false→∀ H',Q .ret ⟨lk [(4,bv false)],H'⟩) →
  LoopC (cx Tryz.prog w0 I0 n0) BO Q ⟨lk [(1,iv d),(2,.pob [0] 1 0),(5,iv i)],H⟩:=by
 intro m;induction m with
 |zero=>
  intro i H hi hA h1 h2;have:i=t.kids.length:=by omega
  subst this;refine Ae mixed BO.eq_1 ?_;simp[hA];exact h1 (by simp) _ _ _
 |succ m ihm=>
  intro i H hi hA h1 h2;have hlt:i<t.kids.length:=by omega
  have e:t.kids.drop i=t.kids[i]::t.kids.drop (i+1):=List.drop_eq_getElem_cons hlt;have ei:=A7 i;have ed:i64.wrap ((d:Int)-1)=((d-1:Nat):Int):=DU;rw[e,Pj] at h1 h2;have hwc:=hw _ (B0 hlt);have ihc:=ih _ (B0 hlt) (d-1) (by omega);generalize hc:t.kids[i]=c at *;refine Ae mixed BO.eq_1 ?_;simp[hA,hlt,hc,Aa,ed];refine Af ihc rfl ?_;cases hr:Ax (d-1) c with
  |false=>
   simp;exact h2 (by simp[hr]) _
  |true=>
   rw[hr] at h1 h2;have good:DW t.kind c=true→∀ H',H' [0]=⟨1,.cells (tL t)⟩→LoopC (cx Tryz.prog w0 I0 n0) BO Q ⟨lk [(1,iv d),(2,.pob [0] 1 0),(5,iv ((i:Int)+1))],H'⟩:=fun hg H' hA'=>
    ihm (i+1) H' (by omega) hA' (fun hh=>h1 (by simp[hg,hh])) (fun hh=>h2 (by simp[hh]))
   have bad:DW t.kind c=false→∀ H',Q .ret ⟨lk [(4,bv false)],H'⟩:=fun hg=>h2 (by simp[hg]);rw[show((i+1:Nat):Int)=(i:Int)+1 from rfl] at ei;by_cases hD:2≤t.kind∧t.kind≤7
   ·obtain⟨d2,d7⟩:=hD;have d9:¬ t.kind=9:=by omega
    by_cases h10:c.kind=10
    ·obtain⟨x,hx,hx64⟩:=Zp hwc (TY hr h10);have hk:DW t.kind c=NP (t.kind-2) x:=by simp[DW,Cc,d2,d7,d9,h10,hx]
     have e2:i64.wrap (t.kind-2)=t.kind-2:=EK;simp[Aa,hA,d2,d7,d9,h10,hx,e2];refine AH rfl (fun _=>WV hx64) (fun _=>rfl) rfl ?_;cases hf:NP (t.kind-2) x with
     |false=>simp;exact bad (by rw[hk,hf]) _
     |true=>simp[ei];exact good (by rw[hk,hf]) _ (by simp[Aa,hA])
    ·have hk:DW t.kind c=false:=by simp[DW,Cc,d2,d7,d9,h10]
     simp[Aa,hA,d2,d7,d9,h10];refine Ap rfl ?_;simp;exact bad hk _
   ·have hD':(decide (2≤t.kind)&&decide (t.kind≤7))=false:=by simp;omega
    by_cases h10:c.kind=10
    ·have hk:DW t.kind c=false:=by simp[DW,Cc,hD',h10]
     simp[Aa,hA,hD',h10];refine Ap rfl ?_;simp;exact bad hk _
    ·by_cases h9:t.kind=9
     ·by_cases h1':c.kind=1
      ·have hk:DW t.kind c=true:=by simp[DW,Cc,hD',h9,h1']
       rw[h9] at hD';simp[Aa,hA,hD',h10,h9,h1'];refine Ap rfl ?_;simp[ei];exact good hk _ (by simp[Aa,hA])
      ·have hk:DW t.kind c=false:=by simp[DW,Cc,hD',h9,h1',h10]
       rw[h9] at hD';simp[Aa,hA,hD',h10,h9,h1'];refine Ap rfl ?_;simp;exact bad hk _
     ·have hk:DW t.kind c=true:=by simp[DW,Cc,hD',h9,h10]
      simp[Aa,hA,hD',h10,h9];refine Ap rfl ?_;simp[ei];exact good hk _ (by simp[Aa,hA])
theorem HZ:∀ (t:T),Gc t→∀ d:Nat,d≤1000→G.Spec Tryz.prog 15 [tX t,iv d] (bv (Ax d t)):=by
 refine T.ind fun k w l ih hw d hd=>?_;have hw':=wfT_iff.1 hw;have hwl:=hw'.wl;have hkl:=hw'.kl;simp at hwl hkl;refine Aj MH (by simp) fun w0 I0=>?_;unfold Hx;rw[C4];by_cases h0:k=0
 ·simp[h0];exact Ai (by cases w<;>cases l<;>simp<;>(rw[← List.length_eq_zero_iff];omega))
 by_cases h10:k=10
 ·simp[h10];exact Ai (by cases w<;>cases l<;>simp<;>(rw[← List.length_eq_zero_iff];omega))
 rw[if_neg h0,if_neg h10];have bad:Cf k d w.length l.length=true→∀ H,Jr H (bv false) (bv (if Cf k d w.length l.length=true then false else Eu (d-1) k l)):=fun hb H=>Ai (by simp[hb]);by_cases ha:k<0∨10<k∨d=0∨65536≤w.length
 ·have ha':(decide (k<0) || decide (10<k) || decide (d=0) || decide (65536≤(w.length:Int)))=true:=by simp;omega
  simp[h0,h10,ha'];have:=bad (by simp[Cf];omega) (Dl [([0],{ u:=1,ob:=Ob.cells [iv k,IT w,Eg l] })]);simpa using this
 have ha':(decide (k<0) || decide (10<k) || decide (d=0) || decide (65536≤(w.length:Int)))=false:=by simp;omega
 by_cases h1:k=1∧65536≤l.length
 ·have hl:(65536:Int)≤l.length:=by omega
  simp[h0,h10,ha',h1.1,hl];have:=bad (by simp[Cf];omega) (Dl [([0],{ u:=1,ob:=Ob.cells [iv k,IT w,Eg l] })]);simpa[h1.1] using this
 by_cases h2:1048576≤l.length
 ·have hl:(1048576:Int)≤l.length:=by omega
  have hk1:¬ k=1:=by omega
  simp[h0,h10,ha',hk1,hl];have:=bad (by simp[Cf];omega) (Dl [([0],{ u:=1,ob:=Ob.cells [iv k,IT w,Eg l] })]);simpa using this
 have hl2:¬ (1048576:Int)≤l.length:=by omega
 by_cases h3:1<k∧0<w.length
 ·have hk1:¬ k=1:=by omega
  have hw0:w ≠ []:=fun e=>by simp[e] at h3
  simp[h0,h10,ha',hk1,hl2,h3.1,h3.2,hw0];have:=bad (by simp[Cf];omega) (Dl [([0],{ u:=1,ob:=Ob.cells [iv k,IT w,Eg l] })]);simpa using this
 have hb:Cf k d w.length l.length=false:=by
  rw[Bool.eq_false_iff];unfold Cf;simp only[Bool.or_eq_true,Bool.and_eq_true,decide_eq_true_eq,ne_eq];omega
 have hw0:(1<k→w=[]):=fun h=>List.eq_nil_of_length_eq_zero (by omega);have fin:LoopC (cx Tryz.prog w0 I0 132) BO (Ci 0 (Dn (WPC (cx Tryz.prog w0 I0 132) (.keep [] (.seq (.reg [co (some 4) (.assign (.const (.bool true))) none] [4]) .ret)) (Ka Tryz.prog [.tmp 4] (bv (Eu (d-1) k l)))) (Ka Tryz.prog [.tmp 4] (bv (Eu (d-1) k l))))) ⟨lk [(1,iv d),(2,.pob [0] 1 0),(5,iv 0)],Dl [([0],⟨1,.cells [iv k,IT w,Eg l]⟩)]⟩:=by
  refine aQ (t:=.mk k w l) (by simpa using hkl) (by simp;omega) (by simp;omega) (by omega) hd (fun c hc=>hw'.ks c hc) (fun c hc=>ih c hc (hw'.ks c hc)) l.length 0 _ (by simp) (by simp) (fun hr i' q H'=>?_) (fun hr H'=>?_)
  ·simp;exact Ai (by simpa using hr.symm)
  ·simp;exact Ai (by simpa using hr.symm)
 rw[if_neg (by simp[hb])];by_cases k1:k=1
 ·have hl3:¬ (65536:Int)≤l.length:=by omega
  have ha1:(decide (d=0) || decide (65536≤(w.length:Int)))=false:=by simp;omega
  simp[ha1,k1,hl2,hl3];simpa[k1] using fin
 ·simp[h0,h10,ha',k1,hl2];refine⟨fun a b=>absurd ⟨a,by omega⟩ h3,fun _=>?_⟩;exact fin
end Go.Proofs.YtebihdhapepejaaGreatDoor
namespace Go.PL
def Q6 (stop:Nat→Bool) (pl:List Nat):Nat→Nat→Nat
 |0,a=>a
 |f+1,a=>if pl.getD a 0=0 then a else if stop (pl.getD a 0)=true then a else Q6 stop pl f ((a+1) % pl.length)
theorem Qe (a d m:Nat):((a+1) % m+d) % m=(a+(d+1)) % m:=by
 rw[Nat.mod_add_mod];congr 1;omega
theorem YW {stop:Nat→Bool} {pl:List Nat}:∀ (f a d:Nat),a<pl.length→d<f→pl.getD ((a+d) % pl.length) 0=0 →
  Q6 stop pl f a<pl.length∧(pl.getD (Q6 stop pl f a) 0=0∨stop (pl.getD (Q6 stop pl f a) 0)=true) ∧
   ∃ k,Q6 stop pl f a=(a+k) % pl.length∧∀ e,e<k→pl.getD ((a+e) % pl.length) 0 ≠ 0∧stop (pl.getD ((a+e) % pl.length) 0)=false:=by
 intro f;induction f with
 |zero=>intro a d _ h;omega
 |succ f ih=>
  intro a d ha hd hz;unfold Q6;have hself:∃ k,a=(a+k) % pl.length∧∀ e,e<k→pl.getD ((a+e) % pl.length) 0 ≠ 0∧stop (pl.getD ((a+e) % pl.length) 0)=false:=⟨0,by rw[Nat.add_zero,Nat.mod_eq_of_lt ha],fun e he=>by omega⟩;split
  ·rename_i h0;exact⟨ha,.inl h0,hself⟩
  ·rename_i h0;split
   ·rename_i h1;exact⟨ha,.inr h1,hself⟩
   ·rename_i h1;cases d with
    |zero=>rw[Nat.add_zero,Nat.mod_eq_of_lt ha] at hz;exact absurd hz h0
    |succ d=>
     obtain⟨p1,p2,k,p3,p4⟩:=ih ((a+1) % pl.length) d (Nat.mod_lt _ (by omega)) (by omega) (by rw[Qe];exact hz);refine⟨p1,p2,k+1,by rw[p3,Qe],fun e he=>?_⟩;cases e with
     |zero=>rw[Nat.add_zero,Nat.mod_eq_of_lt ha];exact⟨h0,by simpa using h1⟩
     |succ e=>
      have:=p4 e (by omega)
      rwa [Qe] at this
structure Pl (hs:List Nat) (pl:List Nat):Prop where
 cnt:pl.countP (fun v=>v != 0)=hs.length
 vals:∀ v,v ∈ pl→v≤hs.length
 reach:∀ (c:Nat) (hc:c<hs.length),∃ d,pl[(hs[c]+d) % pl.length]? = some (c+1)∧∀ e,e<d→pl.getD ((hs[c]+e) % pl.length) 0 ≠ 0
theorem Pl.free {hs pl:List Nat} (h:Pl hs pl) (hl:hs.length<pl.length) (a:Nat):∃ d,d<pl.length∧pl.getD ((a+d) % pl.length) 0=0:=by
 have hm:∃ v,v ∈ pl∧v=0:=by
  apply Classical.byContradiction;intro hn;have:pl.countP (fun v=>v != 0)=pl.length:=List.countP_eq_length.2 fun v hv=>by
   simp only[bne_iff_ne,ne_eq];exact fun e=>hn ⟨v,hv,e⟩
  have:=h.cnt;omega
 obtain⟨v,hv,rfl⟩:=hm;obtain⟨i,hi,e⟩:=List.mem_iff_getElem.1 hv;refine⟨(i+(pl.length-a % pl.length)) % pl.length,Nat.mod_lt _ (by omega),?_⟩;have:(a+(i+(pl.length-a % pl.length)) % pl.length) % pl.length=i:=by
  rw[Nat.add_mod_mod];have h1:=Nat.mod_lt a (show 0<pl.length by omega);have h2:=Nat.div_add_mod a pl.length;have h3:a+(i+(pl.length-a % pl.length))=i+pl.length*(a / pl.length+1):=by
   rw[Nat.mul_add,Nat.mul_one];omega
  rw[h3,Nat.add_mul_mod_self_left,Nat.mod_eq_of_lt hi]
 rw[this];simp[hi,e]
theorem W8 {pl:List Nat} {a v:Nat} (ha:a<pl.length) (h0:pl.getD a 0=0) (hv:v ≠ 0):(pl.set a v).countP (fun v=>v != 0)=pl.countP (fun v=>v != 0)+1:=by
 induction pl generalizing a with
 |nil=>simp at ha
 |cons x l ih=>
  cases a with
  |zero=>
   simp at h0;subst h0;simp[hv]
  |succ a=>
   simp only[List.set_cons_succ,List.countP_cons];rw[ih (by simpa using ha) (by simpa using h0)];omega
theorem Pl.ins {hs pl:List Nat} (h:Pl hs pl) {x a k:Nat} (ha:a<pl.length) (h0:pl.getD a 0=0) (he:a=(x+k) % pl.length) (hk:∀ e,e<k→pl.getD ((x+e) % pl.length) 0 ≠ 0):Pl (hs++[x]) (pl.set a (hs.length+1)):=by
 have hmod:∀ y,y % pl.length<pl.length:=fun y=>Nat.mod_lt _ (by omega);have nz:∀ y,pl.getD (y % pl.length) 0 ≠ 0→(pl.set a (hs.length+1)).getD (y % pl.length) 0 ≠ 0:=fun y hy=>by
  have hne:a ≠ y % pl.length:=fun e=>hy (by rw[← e];exact h0);simpa[List.getD_eq_getElem?_getD,List.getElem?_set_ne hne] using hy
 refine⟨?_,fun v hv=>?_,fun c hc=>?_⟩
 ·rw[W8 ha h0 (by omega),h.cnt];simp
 ·rw[List.length_append,List.length_singleton];rcases List.mem_or_eq_of_mem_set hv with hv | rfl
  ·have:=h.vals v hv;omega
  ·omega
 ·simp only[List.length_set];by_cases hcl:c<hs.length
  ·obtain⟨d,h1,h2⟩:=h.reach c hcl;rw[List.getElem_append_left hcl];refine⟨d,?_,fun e he=>nz _ (h2 e he)⟩;have hne:a ≠ (hs[c]+d) % pl.length:=fun e=>by
    rw[← e] at h1;rw[List.getD_eq_getElem?_getD,h1] at h0;simp at h0
   rw[List.getElem?_set_ne hne,h1]
  ·have:c=hs.length:=by simp at hc;omega
   subst this;rw[List.getElem_append_right (Fa _)];simp only[Nat.sub_self,List.getElem_cons_zero];refine⟨k,?_,fun e he=>nz _ (hk e he)⟩;rw[← he,List.getElem?_set_self ha]
def insP (pl:List Nat) (x v:Nat):List Nat:=pl.set (Q6 (fun _=>false) pl pl.length (x % pl.length)) v
def Yp:List Nat→Nat→List Nat→List Nat
 |pl,_,[]=>pl
 |pl,i,x::hs=>Yp (insP pl x (i+1)) (i+1) hs
@[simp] theorem gj {pl:List Nat} {x v:Nat}:(insP pl x v).length=pl.length:=by simp[insP]
theorem Pl.nil (m:Nat):Pl [] (List.replicate m 0):=by
 refine⟨?_,fun v hv=>?_,fun c hc=>?_⟩
 ·simp[List.countP_replicate]
 ·simp at hv;omega
 ·simp at hc
theorem db {stop:Nat→Bool} {pl:List Nat} {x:Nat} {hs:List Nat} (h:Pl hs pl) (hl:hs.length<pl.length) :
  Q6 stop pl pl.length (x % pl.length)<pl.length∧(pl.getD (Q6 stop pl pl.length (x % pl.length)) 0=0∨stop (pl.getD (Q6 stop pl pl.length (x % pl.length)) 0)=true) ∧
   ∃ k,Q6 stop pl pl.length (x % pl.length)=(x+k) % pl.length∧∀ e,e<k→pl.getD ((x+e) % pl.length) 0 ≠ 0∧stop (pl.getD ((x+e) % pl.length) 0)=false:=by
 obtain⟨d,h1,h2⟩:=h.free hl (x % pl.length);have:=YW (stop:=stop) pl.length (x % pl.length) d (Nat.mod_lt _ (by omega)) h1 h2;simpa using this
theorem Pl.insP {hs pl:List Nat} (h:Pl hs pl) (hl:hs.length<pl.length) (x:Nat):Pl (hs++[x]) (insP pl x (hs.length+1)):=by
 obtain⟨h1,h2,k,h3,h4⟩:=db (stop:=fun _=>false) (x:=x) h hl;refine h.ins h1 (h2.resolve_right (by simp)) h3 fun e he=>(h4 e he).1
theorem Pl.grow:∀ {hs2 hs pl:List Nat},Pl hs pl→hs.length+hs2.length≤pl.length→Pl (hs++hs2) (Yp pl hs.length hs2)
 |[],hs,pl,h,_=>by simpa[Yp] using h
 |x::hs2,hs,pl,h,hl=>by
  simp only[List.length_cons] at hl;have h1:=h.insP (by omega) x;have:=Pl.grow (hs2:=hs2) h1 (by simp;omega);rw[List.append_assoc] at this;simpa[Yp] using this
end Go.PL
namespace Go.Proofs.YtebihdhapepejaaGreatDoor
open Go Go.G Go.Proofs Go.PL
structure Cl where
 l:List (List Int)
 r:Rf
 t:T
noncomputable def Cl.h (c:Cl):Int:=gx (QQ c.t)
noncomputable def Cl.hn (c:Cl):Nat:=c.h.toNat
abbrev sF (h:Int) (l:List (List Int)) (r:Rf):List A:=uv h::sB l r
noncomputable def Cl.a (c:Cl):A:=.agg (sF c.h c.l c.r)
abbrev nv (n:Nat):A:=iv (n:Int)
structure Tb where
 u:Nat
 uc:Nat
 up:Nat
 cl:List Cl
 pl:List Nat
structure Tb.Ok (S:Tb):Prop where
 p8:8≤S.pl.length
 half:2*S.cl.length≤S.pl.length
 most:S.pl.length≤8+4*S.cl.length
 pl:Pl (S.cl.map Cl.hn) S.pl
 means:∀ c,c ∈ S.cl→Sg c.l∧X1 c.l c.r c.t
 nd:(S.cl.map fun c=>QQ c.t).Nodup
noncomputable def Tb.ks (S:Tb):List T:=S.cl.map fun c=>QQ c.t
@[simp] theorem Tb.ks_length (S:Tb):S.ks.length=S.cl.length:=by simp[Tb.ks]
theorem Tb.Ok.lt {S:Tb} (h:S.Ok):S.cl.length<S.pl.length:=by have:=h.p8;have:=h.half;omega
structure Tb.Ok1 (S:Tb):Prop where
 p8:8≤S.pl.length
 half:2*S.cl.length≤S.pl.length+2
 most:S.pl.length≤8+4*S.cl.length
 pl:Pl (S.cl.map Cl.hn) S.pl
 means:∀ c,c ∈ S.cl→Sg c.l∧X1 c.l c.r c.t
 nd:(S.cl.map fun c=>QQ c.t).Nodup
theorem Tb.Ok1.ok {S:Tb} (h:S.Ok1) (hf:¬ S.pl.length<2*S.cl.length):S.Ok:=⟨h.p8,by omega,h.most,h.pl,h.means,h.nd⟩
variable {n0:Nat} {w0:World} {I0:Nat→Prop} {Q:Exit→Sta→Prop}
end Go.Proofs.YtebihdhapepejaaGreatDoor
namespace Go.PL
def rV (t:T) (i:Nat):T:=t.kids.getD i T0
@[simp] theorem iI (l:List T):(Py l).kids=l:=by cases l<;>simp
theorem HH {t:T} (h:Cv t=true):t=T0:=by
 obtain⟨k,w,l⟩:=t;simp only[Cv,Bool.and_eq_true,decide_eq_true_eq,List.isEmpty_iff,T.kind_mk,T.words_mk,T.kids_mk] at h;obtain⟨⟨h0,rfl⟩,rfl⟩:=h;obtain rfl:=of_decide_eq_true h0;rfl
theorem cY {e:E} (h:J6 e=true):e=E0:=by
 obtain⟨k,o,n,ws,ks,l,os⟩:=e;simp only[J6,Bool.and_eq_true,decide_eq_true_eq,List.isEmpty_iff,E.kind_mk,E.old_mk,E.new_mk,E.words_mk,E.kids_mk,E.list_mk,E.ops_mk] at h;obtain⟨⟨⟨⟨h0,h1⟩,h2⟩,⟨rfl,rfl⟩,rfl⟩,h3⟩:=h;obtain rfl:=of_decide_eq_true h0;obtain rfl:=of_decide_eq_true h3;rw[HH h1,HH h2]
theorem headOk_iff {d:Nat} {k:Int} {o n:T} {nw nk:Nat} {l:Int} {no:Nat}:Ch d k o n nw nk l no=true ↔ d ≠ 0∧0≤k∧k≤3∧(k ≠ 1→Cv o=true∧Cv n=true)∧(k ≠ 2→nw=0∧nk=0)∧(k ≠ 3→l=0∧no=0):=by
 unfold Ch;simp only[Bool.and_eq_true,Bool.not_eq_true',Bool.or_eq_false_iff,Bool.and_eq_false_iff,decide_eq_false_iff_not,Bool.not_eq_false',decide_eq_true_eq];constructor
 ·rintro⟨⟨⟨h1,h2⟩,h3⟩,⟨h4,h5⟩,h6⟩;refine⟨h1,by omega,by omega,fun hk=>?_,fun hk=>?_,fun hk=>?_⟩
  ·rcases h4 with h4 | h4
   ·exact absurd h4 hk
   ·exact h4
  ·rcases h5 with h5 | h5
   ·exact absurd h5 hk
   ·omega
  ·rcases h6 with h6 | h6
   ·exact absurd h6 hk
   ·exact⟨h6.1,by omega⟩
 ·rintro⟨h1,h2,h3,h4,h5,h6⟩;refine⟨⟨⟨h1,by omega⟩,by omega⟩,⟨?_,?_⟩,?_⟩
  ·by_cases hk:k=1
   ·exact .inl hk
   ·exact .inr (h4 hk)
  ·by_cases hk:k=2
   ·exact .inl hk
   ·exact .inr (by have:=h5 hk;omega)
  ·by_cases hk:k=3
   ·exact .inl hk
   ·exact .inr ⟨(h6 hk).1,by have:=h6 hk;omega⟩
structure jo (d:Nat) (k:Int) (o n:T) (ws:List WE) (ks:List KE) (l:Int) (os:List OP):Prop where
 d0:d ≠ 0
 k0:0≤k
 k3:k≤3
 one:k ≠ 1→o=T0∧n=T0
 two:k ≠ 2→ws=[]∧ks=[]
 three:k ≠ 3→l=0∧os=[]
 rep:k=1→Ax 64 o=true∧Ax 64 n=true∧o.kind ≠ 10∧n.kind ≠ 10
 wok:Bq (-1) ws=true
 kok:Cu (d-1) (-1) ks=true
 lst:k=3→2≤l∧l≤9
 ook:Ct (d-1) l os=true
 len:(A2 0 0 os).1<1048576∧(A2 0 0 os).2<1048576
theorem rightE_iff {d:Nat} {k:Int} {o n:T} {ws:List WE} {ks:List KE} {l:Int} {os:List OP}:AQ d (.mk k o n ws ks l os)=true ↔ jo d k o n ws ks l os:=by
 rw[Gi];constructor
 ·intro h;by_cases hh:Ch d k o n ws.length ks.length l os.length=true
  ·rw[if_neg (by rw[hh];simp)] at h;obtain⟨h1,h2,h3,h4,h5,h6⟩:=headOk_iff.1 hh;have g1:k ≠ 1→o=T0∧n=T0:=fun hk=>⟨HH (h4 hk).1,HH (h4 hk).2⟩;have g2:k ≠ 2→ws=[]∧ks=[]:=fun hk=>⟨List.length_eq_zero_iff.1 (h5 hk).1,List.length_eq_zero_iff.1 (h5 hk).2⟩;have g3:k ≠ 3→l=0∧os=[]:=fun hk=>⟨(h6 hk).1,List.length_eq_zero_iff.1 (h6 hk).2⟩;by_cases hk:k=1
   ·rw[if_pos hk] at h;simp at h;obtain⟨rfl,rfl⟩:=g2 (by omega);obtain⟨rfl,rfl⟩:=g3 (by omega);exact⟨h1,h2,h3,g1,g2,g3,fun _=>⟨h.1.1.1,h.1.1.2,h.1.2,h.2⟩,by simp[Bq],by simp,fun e=>by omega,by simp,by simp[A2]⟩
   ·rw[if_neg hk] at h;split at h
    ·cases h
    ·rename_i hw;split at h
     ·cases h
     ·rename_i hks;split at h
      ·cases h
      ·rename_i hl;split at h
       ·cases h
       ·rename_i ho;simp at h hw hks ho;exact⟨h1,h2,h3,g1,g2,g3,fun e=>absurd e hk,hw,hks,fun e=>by omega,ho,h⟩
  ·rw[if_pos (by simpa using hh)] at h;cases h
 ·intro h;have hh:Ch d k o n ws.length ks.length l os.length=true:=headOk_iff.2 ⟨h.d0,h.k0,h.k3,fun hk=>by rw[(h.one hk).1,(h.one hk).2];exact⟨rfl,rfl⟩,fun hk=>by rw[(h.two hk).1,(h.two hk).2];exact⟨rfl,rfl⟩,fun hk=>by rw[(h.three hk).1,(h.three hk).2];exact⟨rfl,rfl⟩⟩;rw[if_neg (by rw[hh];simp)];by_cases hk:k=1
  ·rw[if_pos hk];obtain⟨a,b,c,e⟩:=h.rep hk;simp[a,b,c,e]
  ·rw[if_neg hk,if_neg (by rw[h.wok];simp),if_neg (by rw[h.kok];simp),if_neg (by have:=h.lst;omega),if_neg (by rw[h.ook];simp)];simp[h.len]
theorem QE:J6 E0=true:=rfl
inductive SmT:T→Prop
 |mk (k:Int) (w:List Int) (l:List T):l.length≤1048576→(∀ t,t ∈ l→SmT t)→SmT (.mk k w l)
theorem SmT.len {t:T} (h:SmT t):t.kids.length≤1048576:=by cases h;assumption
theorem SmT.kid {t:T} (h:SmT t):∀ c,c ∈ t.kids→SmT c:=by cases h;assumption
theorem lN:SmT T0:=.mk _ _ _ (Nat.zero_le _) (fun t h=>by cases h)
theorem SmT.kd {t:T} (h:SmT t) (i:Nat):SmT (rV t i):=by
 unfold rV;rw[List.getD_eq_getElem?_getD];cases e:t.kids[i]? with
 |none=>exact lN
 |some x=>exact h.kid x (List.mem_of_getElem? e)
end Go.PL
namespace Go.Proofs.YtebihdhapepejaaGreatDoor
open Go Go.G Go.Proofs Go.PL
theorem Xp {c n:Int} (h:D5 n):G.Spec Tryz.prog 131 [iv c,uv n] (bv (NP c n)):=by
 refine Aj Vd (by simp) fun w0 I0=>?_;unfold Pe;simp;refine Af (W7 c) rfl ?_;have hw:=NW c;unfold NP;rcases hw with h1 | h1 | h1 | h1 | h1 | h1 | h1;all_goals
  rw[h1];simp;refine Ai ?_
 all_goals try rfl
 all_goals
  obtain⟨n0,n1⟩:=h;have hb:u64.bits=64:=rfl;simp[hb]
 all_goals omega
theorem JW (k:Int):G.Spec Tryz.prog 56 [iv k] (bv (decide (2≤k)&&decide (k≤9))):=by
 refine Aj Vk (by simp) fun w0 I0=>?_;unfold OW;simp;exact Ab rfl
def VT (list:Int) (t:T):Bool:=if Cc list=true then decide (t.kind=10)&&t.kids.isEmpty&&decide (t.words.length=1)&&NP (list-2) (t.words.headD 0) else if list=9 then decide (t.kind=1) else !decide (t.kind=10)
theorem eU {list:Int} {t:T} {d:Nat} (h1:list ≠ 1):(VT list t&&Ax d t)=(Ax d t&&DW list t):=by
 unfold VT DW;cases hd:Cc list with
 |true=>
  simp only[if_true];by_cases h10:t.kind=10
  ·have e:Ax d t=(decide (t.words.length=1)&&t.kids.isEmpty):=by
    obtain⟨k,w,l⟩:=t;simp at h10;subst h10;rw[C4];rfl
   have n9:list ≠ 9:=fun e=>by subst e;simp[Cc] at hd
   rw[e];simp[h10,n9];cases decide (t.words.length=1)<;>cases t.kids.isEmpty<;>simp
  ·simp[h10]
 |false=>
  simp;by_cases h9:list=9
  ·subst h9;simp;cases h:Ax d t<;>simp
   by_cases h1:t.kind=1<;>simp[h1]
  ·simp[h9];cases h:Ax d t<;>simp
theorem YQ (list:Int) (hl:AU list) {t:T} (h:Gc t):G.Spec Tryz.prog 119 [iv list,tX t] (bv (VT list t)):=by
 have hw:=wfT_iff.1 h;refine Aj WC (by simp) fun w0 I0=>?_;unfold QY;simp;refine Af (SY list) rfl ?_;cases hd:Cc list with
 |false=>
  simp;by_cases h9:list=9
  ·simp[h9];refine Ai ?_;simp[VT,Cc]
  ·simp[h9];refine Ai ?_;simp[VT,hd,h9]
 |true=>
  have hd':=hd;simp[Cc] at hd';by_cases hc:t.kind=10∧t.kids=[]∧t.words.length=1
  ·obtain⟨c1,c2,c3⟩:=hc;obtain⟨x,hx⟩:∃ x,t.words=[x]:=List.length_eq_one_iff.1 c3;have hxr:D5 x:=hw.w x (by rw[hx];simp);have e2:i64.wrap (list-2)=list-2:=EK;simp[c1,c2,hx,e2];refine AH rfl (fun _=>Xp hxr) (fun _=>rfl) rfl ?_;simp;refine Ai ?_;simp[VT,hd,c1,c2,hx]
  ·have hp:VT list t=false:=by
    unfold VT;rw[if_pos hd];rw[Bool.eq_false_iff];intro e;simp at e;exact hc ⟨e.1.1.1,e.1.1.2,e.1.2⟩
   by_cases c1:t.kind=10
   ·by_cases c2:t.kids=[]
    ·have c3:¬ t.words.length=1:=fun e=>hc ⟨c1,c2,e⟩;have c3':¬ (t.words.length:Int)=1:=by omega
     simp[c1,c2,c3,c3'];refine Ap rfl ?_;simp;rw[hp];exact Ab rfl
    ·have c2':¬ (t.kids.length:Int)=0:=fun e=>c2 (List.length_eq_zero_iff.1 (by omega));simp[c1,c2,c2'];refine Ap rfl ?_;simp;rw[hp];exact Ab rfl
   ·simp[c1];refine Ap rfl ?_;simp;rw[hp];exact Ab rfl
variable {n0:Nat} {w0:World} {I0:Nat→Prop} {Q:Exit→Sta→Prop}
theorem SB {Q':Exit→Sta→Prop} {c:T} {d:Nat} {b:Bool} {u:Nat} {p x y z:A} {H:Hp} (hd:1≤d) (hd1:d≤1000) (ihc:G.Spec Tryz.prog 103 [tX c,iv (d-1:Nat)] (bv (Ax (d-1) c))) (hB:H [1]=⟨u,.cells (tL c)⟩)
  (h1:(b&&Ax (d-1) c)=true→Q' .normal ⟨lk [(1,iv d),(2,p),(71,x),(72,y),(73,z),(95,bv false)],H⟩) (h2:(b&&Ax (d-1) c)=false→Q' .ret ⟨lk [(4,bv false)],H⟩) :
  WPC (cx Tryz.prog w0 I0 n0) Iy Q' ⟨lk [(1,iv d),(2,p),(6,.pob [1] u 0),(7,bv b),(71,x),(72,y),(73,z)],H⟩:=by
 rw[Iy.eq_1];have ed:i64.wrap ((d:Int)-1)=((d-1:Nat):Int):=DU;cases b with
 |false=>
  simp;refine Ap rfl ?_;simp;exact h2 rfl
 |true=>
  simp[hB,ed];refine Ao rfl (fun _=>ihc) (fun _=>rfl) rfl ?_;cases hr:Ax (d-1) c with
  |false=>simp;exact h2 (by simp[hr])
  |true=>simp;exact h1 (by simp[hr])
theorem ZE {t:T} (hk:AU t.kind) (hl:t.kids.length*56≤140737488355328) {d:Nat} (hd:1≤d) (hd1:d≤1000) (hw:∀ c,c ∈ t.kids→Gc c) (ih:∀ c,c ∈ t.kids→∀ d:Nat,d≤1000→G.Spec Tryz.prog 103 [tX c,iv d] (bv (Ax d c))):∀ (m i:Nat) (H:Hp),i+m=t.kids.length→H [0]=⟨1,.cells (tL t)⟩ →
  (Eu (d-1) t.kind (t.kids.drop i)=true→∀ i' q H',Q (.exit 1) ⟨lk [(1,iv d),(2,.pob [0] 1 0),(71,Eg t.kids),(72,iv t.kids.length),(73,iv i'),(74,bv q)],H'⟩)→(Eu (d-1) t.kind (t.kids.drop i)=false→∀ H',Q .ret ⟨lk [(4,bv false)],H'⟩) →
  LoopC (cx Tryz.prog w0 I0 n0) GA Q ⟨lk [(1,iv d),(2,.pob [0] 1 0),(71,Eg t.kids),(72,iv t.kids.length),(73,iv i)],H⟩:=by
 intro m;induction m with
 |zero=>
  intro i H hi hA h1 h2;have:i=t.kids.length:=by omega
  subst this;refine Ae mixed GA.eq_1 ?_;simp;exact h1 (by simp) _ _ _
 |succ m ihm=>
  intro i H hi hA h1 h2;have hlt:i<t.kids.length:=by omega
  have e:t.kids.drop i=t.kids[i]::t.kids.drop (i+1):=List.drop_eq_getElem_cons hlt;have ei:=A7 i;rw[e,Pj] at h1 h2;have hwc:=hw _ (B0 hlt);have ihc:=ih _ (B0 hlt) (d-1) (by omega);generalize hc:t.kids[i]=c at *;refine Ae mixed GA.eq_1 ?_;simp[hA,hlt,hc,Aa];refine⟨fun h10=>?_,fun h10=>?_⟩
  ·have ek:DW t.kind c = !decide (c.kind=10):=by
    unfold DW;rw[h10];by_cases e:c.kind=10<;>simp[Cc,e]
   try simp[hA,Aa,h10]
   refine SB (c:=c) hd hd1 ihc (by simp[Aa]) (fun hr=>?_) (fun hr=>?_)
   ·simp[ei];refine ihm (i+1) _ (by omega) (by simp[Aa,hA]) (fun hh=>h1 ?_) (fun hh=>h2 ?_)
    ·rw[ek,hh];simpa using And.comm.1 (by simpa using hr)
    ·rw[hh];simp
   ·simp;refine h2 ?_ _;rw[ek];have:(Ax (d-1) c&&!decide (c.kind=10))=false:=by rw[Bool.and_comm];simpa using hr
    rw[this];rfl
  ·have ek:=eU (t:=c) (d:=d-1) h10;simp[hA,Aa,h10];refine Af (YQ t.kind hk hwc) rfl ?_;simp;refine SB (c:=c) hd hd1 ihc (by simp[Aa]) (fun hr=>?_) (fun hr=>?_)
   ·simp[ei];rw[ek] at hr;refine ihm (i+1) _ (by omega) (by simp[Aa,hA]) (fun hh=>h1 ?_) (fun hh=>h2 ?_)
    ·rw[hr,hh];rfl
    ·rw[hh];simp
   ·simp;refine h2 ?_ _;rw[ek] at hr;rw[hr];rfl
theorem U6:∀ (t:T),Gc t→∀ d:Nat,d≤1000→G.Spec Tryz.prog 103 [tX t,iv d] (bv (Ax d t)):=by
 refine T.ind fun k w l ih hw d hd=>?_;have hw':=wfT_iff.1 hw;have hwl:=hw'.wl;have hkl:=hw'.kl;have hk:=hw'.k;simp at hwl hkl hk;refine Aj T2 (by simp) fun w0 I0=>?_;unfold MS;rw[C4];by_cases h0:k=0
 ·simp[h0];exact Ai (by cases w<;>cases l<;>simp<;>(rw[← List.length_eq_zero_iff];omega))
 by_cases h10:k=10
 ·simp[h10];exact Ai (by cases w<;>cases l<;>simp<;>(rw[← List.length_eq_zero_iff];omega))
 rw[if_neg h0,if_neg h10];obtain⟨R,hR⟩:∃ R,R=(if Cf k d w.length l.length=true then false else Eu (d-1) k l):=⟨_,rfl⟩;rw[← hR];have bad:Cf k d w.length l.length=true→R=false:=fun h=>by rw[hR,if_pos h]
 by_cases hd0:d=0
 ·subst hd0;simp[h0,h10];exact Ai (bad (by simp[Cf])).symm
 have fin:Cf k d w.length l.length=false→WPC (cx Tryz.prog w0 I0 97) IB (Ka Tryz.prog [.tmp 4] (bv R)) ⟨lk [(1,iv d),(2,.pob [0] 1 0)],Dl [([0],⟨1,.cells [iv k,IT w,Eg l]⟩)]⟩:=fun hb=>by
  rw[if_neg (by rw[hb];simp)] at hR;subst hR;rw[IB.eq_1];simp;refine ZE (t:=.mk k w l) (by simpa using hk) (by simpa using hkl) (by omega) hd (fun c hc=>hw'.ks c hc) (fun c hc=>ih c hc (hw'.ks c hc)) l.length 0 _ (by simp) (by simp) (fun hr i' q H'=>?_) (fun hr H'=>?_)
  ·simp;exact Ai (by simpa using hr.symm)
  ·simp;exact Ai (by simpa using hr.symm)
 by_cases h1:k=1
 ·subst h1;by_cases hb:65536≤w.length∨65536≤l.length
  ·have hb':(decide (65536≤(w.length:Int)) || decide (65536≤(l.length:Int)))=true:=by simp;omega
   simp[hd0,hb'];exact Ai (bad (by simp[Cf];omega)).symm
  ·have hb':(decide (65536≤(w.length:Int)) || decide (65536≤(l.length:Int)))=false:=by simp;omega
   simp[hd0,hb'];exact fin (by simp[Cf];omega)
 ·simp[h0,h10,h1,hd0];refine Af (JW k) rfl ?_;simp;refine⟨fun hc=>?_,fun a b c e=>?_⟩
  ·exact Ai (bad (by simp[Cf];omega)).symm
  ·refine fin ?_;rw[Bool.eq_false_iff];unfold Cf;simp only[Bool.or_eq_true,Bool.and_eq_true,decide_eq_true_eq,ne_eq];have hl0:w.length=0:=by first | omega | simp[c]
   omega
theorem J1 {t:T} (h:Gc t):G.Spec Tryz.prog 87 [tX t] (bv (Ax 64 t)):=by
 refine Aj TW (by simp) fun w0 I0=>?_;unfold NV;simp;refine Af (U6 t h 64 (by omega)) (by simp) ?_;simp;exact Ab rfl
def px (t:T):Prop:=∀ (a:Bool) (l:List UInt8) (v:Nat),l.length+(Ah t).length≤70368744177664→∃ v',FK Tryz.prog 34 (fun r=>[bp r,tX t]) (Ro a l v) (fun _=>.tup []) (Ro true (l++Ah t) v')
theorem RQ (l:List (List UInt8)) (x:List UInt8):(Ag l).length≤(Ag (l++[x])).length:=by
 rw[JK];split
 ·rename_i h;subst h;simp
 ·simp
theorem FU {α:Type} (f:α→List UInt8) (l:List α):∀ (m i:Nat),i+m=l.length→(Ag ((l.take i).map f)).length≤(Ag (l.map f)).length
 |0,i,h=>by rw[Fv (by omega)];exact Fa _
 |m+1,i,h=>by
  have:=FU f l m (i+1) (by omega);refine Nat.le_trans ?_ this;rw[RY (by omega),List.map_append];exact RQ _ _
theorem La {α:Type} (f:α→List UInt8) (l:List α) (i:Nat) (hi:i<l.length):Ag ((l.take (i+1)).map f)=if i=0 then f l[i] else Ag ((l.take i).map f)++44::f l[i]:=by
 rw[RY hi,List.map_append,List.map_singleton,JK];by_cases h:i=0
 ·subst h;simp
 ·rw[if_neg h,if_neg];intro e;have:=congrArg List.length e;simp at this;rcases this with h1 | h1
  ·exact h h1
  ·subst h1;simp at hi
theorem ju {ks:List T} (hks:ks.length*56≤140737488355328) (ih:∀ c,c ∈ ks→px c) {l:List UInt8} (hl:l.length+(Ag (ks.map Ah)).length≤70368744177664):∀ (m i v:Nat),i+m=ks.length→∃ v',∀ {n0:Nat} {w0:World} {I0:Nat→Prop} {M0:Nm→Nat→Prop} {m0:Mu} {Q:Exit→Sta→Prop} (H:Hp),(∀ p,H (0::p)=(Ro true (l++Ag ((ks.take i).map Ah)) v).F 0 p) →
  (∀ (H':Hp),(∀ p,H' (0::p)=(Ro true (l++Ag (ks.map Ah)) v').F 0 p)→Q (.exit 0) ⟨lk [(0,bp 0),(6,Eg ks),(7,iv ks.length),(8,iv ks.length),(9,bv false)],H'⟩) →
  LoopC (J4 Tryz.prog w0 I0 M0 n0 m0) GF Q ⟨lk [(0,bp 0),(6,Eg ks),(7,iv ks.length),(8,iv i)],H⟩:=by
 intro m;induction m with
 |zero=>
  intro i v hi;have:i=ks.length:=by omega
  subst this;refine⟨v,fun {n0 w0 I0 M0 m0 Q} H hH hq=>?_⟩;refine Ae mixed GF.eq_1 ?_;simp;rw[List.take_length] at hH;exact hq H hH
 |succ m ihm=>
  intro i v hi;have hlt:i<ks.length:=by omega
  have hw:=La Ah ks i hlt;have hle:=FU Ah ks m (i+1) (by omega);have e1:=A7 i;by_cases h0:i=0
  ·subst h0;rw[if_pos rfl] at hw;obtain⟨v1,hS⟩:=ih _ (B0 hlt) true l v (by rw[hw] at hle;omega);obtain⟨v',hL⟩:=ihm 1 v1 (by omega);refine⟨v',fun {n0 w0 I0 M0 m0 Q} H hH hq=>?_⟩;simp only[List.take_zero,List.map_nil,Og,List.append_nil] at hH;refine Ae mixed GF.eq_1 ?_;simp[hlt];refine Al 0 hS (fun p=>by simp[Aa,hH]) (by simp) (by simp) ?_;simp at e1;simp[e1];refine hL _ (fun p=>?_) hq;rw[hw];simp
  ·rw[if_neg h0] at hw;have hb:=CH true (l++Ag ((ks.take i).map Ah)) v 44 (by rw[hw] at hle;simp at hle ⊢; omega);obtain⟨v1,hS⟩:=ih _ (B0 hlt) true (l++Ag ((ks.take i).map Ah)++[44]) (v+1) (by rw[hw] at hle;simp at hle ⊢; omega);obtain⟨v',hL⟩:=ihm (i+1) v1 (by omega);refine⟨v',fun {n0 w0 I0 M0 m0 Q} H hH hq=>?_⟩;refine Ae mixed GF.eq_1 ?_;simp[hlt,show 0<i by omega];refine Al 0 hb (fun p=>by simp[Aa,hH]) (by simp) (by simp) ?_;simp[Aa];refine Al 0 hS (fun p=>by simp[Aa]) (by simp) (by simp) ?_;simp[e1];refine hL _ (fun p=>?_) hq;rw[hw];simp
theorem Rc {ks:List T} (hks:ks.length*56≤140737488355328) (ih:∀ c,c ∈ ks→px c) {l:List UInt8} (hl:l.length+(Ag (ks.map Ah)).length≤70368744177664) (v:Nat) :
  ∃ v',FK Tryz.prog 55 (fun r=>[bp r,Eg ks]) (Ro true l v) (fun _=>.tup []) (Ro true (l++Ag (ks.map Ah)) v'):=by
 obtain⟨v',hL⟩:=ju hks ih hl ks.length 0 v (by omega);refine⟨v',C5 WD (by simp) (Ak A8 (Ak Lv Ay)) (Cb Ay) fun w0 I0 M0 m0=>?_⟩;unfold Qu;simp;refine hL _ (fun p=>by simp) fun H' hH'=>?_;simp;exact D0 rfl rfl hH'
theorem Z6 {ws:List Int} {t:T} (htw:t.words=ws) (hws:ws.length*8≤140737488355328) (hwf:∀ x,x ∈ ws→D5 x) {l:List UInt8} (hl:l.length+(Ag (ws.map fun x=>Am x.toNat)).length≤70368744177664):∀ (m i v:Nat),i+m=ws.length→∃ v',∀ {n0:Nat} {w0:World} {I0:Nat→Prop} {M0:Nm→Nat→Prop} {m0:Mu} {Q:Exit→Sta→Prop} (H:Hp),(∀ p,H (0::p)=(Ro true (l++Ag ((ws.take i).map fun x=>Am x.toNat)) v).F 0 p)→H [1]=⟨1,.cells [iv t.kind,IT t.words,Eg t.kids]⟩ →
  (∀ (H':Hp),(∀ p,H' (0::p)=(Ro true (l++Ag (ws.map fun x=>Am x.toNat)) v').F 0 p)→H' [1]=⟨1,.cells [iv t.kind,IT t.words,Eg t.kids]⟩→Q (.exit 1) ⟨lk [(0,bp 0),(3,.pob [1] 1 0),(32,IT ws),(33,iv ws.length),(34,iv ws.length),(35,bv false)],H'⟩) →
  LoopC (J4 Tryz.prog w0 I0 M0 n0 m0) FP Q ⟨lk [(0,bp 0),(3,.pob [1] 1 0),(32,IT ws),(33,iv ws.length),(34,iv i)],H⟩:=by
 intro m;induction m with
 |zero=>
  intro i v hi;have:i=ws.length:=by omega
  subst this;refine⟨v,fun {n0 w0 I0 M0 m0 Q} H hH hH1 hq=>?_⟩;refine Ae mixed FP.eq_1 ?_;simp;rw[List.take_length] at hH;exact hq H hH hH1
 |succ m ihm=>
  intro i v hi;have hlt:i<ws.length:=by omega
  have hw:=La (fun x:Int=>Am x.toNat) ws i hlt;have hle:=FU (fun x:Int=>Am x.toNat) ws m (i+1) (by omega);have e1:=A7 i;have hx:=hwf _ (B0 hlt);unfold D5 at hx;have hfmt:=JX ws[i].toNat (by omega);rw[Int.toNat_of_nonneg hx.1] at hfmt;by_cases h0:i=0
  ·subst h0;rw[if_pos rfl] at hw;have hb:=Od true l v (Am ws[0].toNat) (by rw[hw] at hle;omega);obtain⟨v',hL⟩:=ihm 1 (v+1) (by omega);refine⟨v',fun {n0 w0 I0 M0 m0 Q} H hH hH1 hq=>?_⟩;simp only[List.take_zero,List.map_nil,Og,List.append_nil] at hH;refine Ae mixed FP.eq_1 ?_;simp[hlt];refine Af hfmt rfl ?_;simp;refine Al 0 hb (fun p=>by simp[Aa,hH]) (by simp) (by simp) ?_;simp at e1;simp[e1];refine hL _ (fun p=>?_) (by simp[hH1]) hq;rw[hw];simp
  ·rw[if_neg h0] at hw;have hb:=CH true (l++Ag ((ws.take i).map fun x=>Am x.toNat)) v 44 (by rw[hw] at hle;simp at hle ⊢; omega);have hb2:=Od true (l++Ag ((ws.take i).map fun x=>Am x.toNat)++[44]) (v+1) (Am ws[i].toNat) (by rw[hw] at hle;simp at hle ⊢; omega);obtain⟨v',hL⟩:=ihm (i+1) (v+1+1) (by omega);refine⟨v',fun {n0 w0 I0 M0 m0 Q} H hH hH1 hq=>?_⟩;refine Ae mixed FP.eq_1 ?_;simp[hlt,show 0<i by omega];refine Al 0 hb (fun p=>by simp[Aa,hH]) (by simp) (by simp) ?_;simp[Aa];refine Af hfmt rfl ?_;simp;refine Al 0 hb2 (fun p=>by simp[Aa]) (by simp) (by simp) ?_;simp[e1];refine hL _ (fun p=>?_) (by simp[hH1]) hq;rw[hw];simp
theorem PH (k:Int) (h1:2≤k) (h2:k≤9):([46,46,118,98,121,116,102,101,112,99]:List UInt8)[k.toNat]? = some (A9 k):=by
 have:∀ n:Nat,n<10→([46,46,118,98,121,116,102,101,112,99]:List UInt8)[n]? = some (([46,46,118,98,121,116,102,101,112,99]:List UInt8).getD n 0):=by decide
 exact this k.toNat (by omega)
theorem eZ:∀ t:T,Gc t→px t:=by
 refine T.ind fun k w ks ih hwf a l v hl=>?_;have hW:=wfT_iff.1 hwf;have hk:=hW.k;have hww:=hW.w;have hwl:=hW.wl;have hkl:=hW.kl;simp at hk hww hwl hkl;have ihk:∀ c,c ∈ ks→px c:=fun c hc=>ih c hc (hW.ks c hc);have fam:FamL (fun r=>[bp r,tX (.mk k w ks)]):=Ak A8 (Ak (Jl (cs:=[iv k,IT w,Eg ks]) rfl fun x hx=>by simp at hx;rcases hx with rfl | rfl | rfl<;>rfl) Ay);rw[AO] at hl ⊢;by_cases hA:k=10∧w.length=1
 ·rw[if_pos hA] at hl ⊢;obtain⟨rfl,hw1⟩:=hA;obtain⟨x,rfl⟩:∃ x,w=[x]:=List.length_eq_one_iff.1 hw1;have hx:=hww x (by simp);unfold D5 at hx;have hfmt:=JX x.toNat (by omega);rw[Int.toNat_of_nonneg hx.1] at hfmt;simp only[List.headD_cons] at hl ⊢;refine⟨v+1,C5 GU (by simp) fam (Cb Ay) fun w0 I0 M0 m0=>?_⟩;unfold FF;simp;refine Af hfmt rfl ?_;simp;refine Al 0 (Od a l v (Am x.toNat) (by omega)) (fun p=>by simp[Aa]) (by simp) (by simp) ?_;simp;exact D0 rfl rfl (fun p=>by simp)
 ·rw[if_neg hA] at hl ⊢;have hd:(decide (k=10)&&decide (w.length=1))=false:=by simpa using hA
  by_cases h1:k=1
  ·rw[if_pos h1] at hl ⊢;subst h1;have hb0:=CH a l v 123 (by simp at hl;omega);obtain⟨v1,hL⟩:=Z6 (t:=.mk 1 w ks) (ws:=w) rfl hwl hww (l:=l++[123]) (by simp at hl ⊢; omega) w.length 0 (v+1) (by omega);by_cases hks:ks=[]
   ·subst hks;obtain⟨v2,hA⟩:=Rc (ks:=[]) (by simp) (by simp) (l:=l++[123]++Ag (w.map fun x=>Am x.toNat)) (by simp at hl ⊢; omega) v1;have hb1:=CH true (l++[123]++Ag (w.map fun x=>Am x.toNat)++Ag (([]:List T).map Ah)) v2 125 (by simp at hl ⊢; omega);refine⟨v2+1,C5 GU (by simp) fam (Cb Ay) fun w0 I0 M0 m0=>?_⟩;unfold FF;simp;refine Al 0 hb0 (fun p=>by simp[Aa]) (by simp) (by simp) ?_;simp;refine hL _ (fun p=>by simp) (by simp) fun H' g1 g2=>?_;simp[g2];refine Al 0 hA g1 (by simp) (by simp) ?_;simp;refine Al 0 hb1 (fun p=>by simp) (by simp) (by simp) ?_;simp;refine D0 rfl rfl (fun p=>?_);simp
   ·have hb1:=CH true (l++[123]++Ag (w.map fun x=>Am x.toNat)) v1 124 (by simp[hks] at hl ⊢; omega);obtain⟨v2,hA⟩:=Rc hkl ihk (l:=l++[123]++Ag (w.map fun x=>Am x.toNat)++[124]) (by simp[hks] at hl ⊢; omega) (v1+1);have hb2:=CH true (l++[123]++Ag (w.map fun x=>Am x.toNat)++[124]++Ag (ks.map Ah)) v2 125 (by simp[hks] at hl ⊢; omega);have hpos:0<ks.length:=by
     cases ks with
     |nil=>exact(hks rfl).elim
     |cons x y=>simp
    refine⟨v2+1,C5 GU (by simp) fam (Cb Ay) fun w0 I0 M0 m0=>?_⟩;unfold FF;simp;refine Al 0 hb0 (fun p=>by simp[Aa]) (by simp) (by simp) ?_;simp;refine hL _ (fun p=>by simp) (by simp) fun H' g1 g2=>?_;simp[g2,hpos];refine Al 0 hb1 g1 (by simp) (by simp) ?_;simp[g2];refine Al 0 hA (fun p=>by simp) (by simp) (by simp) ?_;simp;refine Al 0 hb2 (fun p=>by simp) (by simp) (by simp) ?_;simp;refine D0 rfl rfl (fun p=>?_);simp[hks]
  ·rw[if_neg h1] at hl ⊢;by_cases h2:2≤k∧k≤9
   ·rw[if_pos h2] at hl ⊢;have hg:=PH k h2.1 h2.2;have hb0:=CH a l v (A9 k) (by simp at hl;omega);have hb1:=CH true (l++[A9 k]) (v+1) 91 (by simp at hl ⊢; omega);obtain⟨v2,hA⟩:=Rc hkl ihk (l:=l++[A9 k]++[91]) (by simp at hl ⊢; omega) (v+1+1);have hb2:=CH true (l++[A9 k]++[91]++Ag (ks.map Ah)) v2 93 (by simp at hl ⊢; omega);have hL:=JW k;rw[show(decide (2≤k)&&decide (k≤9))=true by simp[h2.1,h2.2]] at hL;refine⟨v2+1,C5 GU (by simp) fam (Cb Ay) fun w0 I0 M0 m0=>?_⟩;unfold FF;simp[h1,show ¬ k=10 by omega];refine Af hL rfl ?_;simp[hg,show 0≤k by omega];refine Al 0 hb0 (fun p=>by simp[Aa]) (by simp) (by simp) ?_;simp;refine Al 0 hb1 (fun p=>by simp) (by simp) (by simp) ?_;simp;refine Al 0 hA (fun p=>by simp) (by simp) (by simp) ?_;simp;refine Al 0 hb2 (fun p=>by simp) (by simp) (by simp) ?_;simp;exact D0 rfl rfl (fun p=>by simp)
   ·rw[if_neg h2] at hl ⊢;have hb0:=CH a l v 95 (by simp at hl;omega);have hL:=JW k;rw[show(decide (2≤k)&&decide (k≤9))=false by simp;omega] at hL;refine⟨v+1,C5 GU (by simp) fam (Cb Ay) fun w0 I0 M0 m0=>?_⟩;unfold FF;have go:∀ {H:Hp},(∀ p,H (0::p)=(Ro a l v).F 0 p)→∀ {K:Sta→Prop} {s:Nat→A},True:=fun _ _ _=>trivial;by_cases h10:k=10
    ·subst h10;have hw1:¬ w.length=1:=fun e=>hA ⟨rfl,e⟩;have hw2:¬ (w.length:Int)=1:=by omega
     simp[hw2];refine Af hL rfl ?_;simp;refine Al 0 hb0 (fun p=>by simp[Aa]) (by simp) (by simp) ?_;simp;exact D0 rfl rfl (fun p=>by simp)
    ·simp[h1,h10];refine Af hL rfl ?_;simp;refine Al 0 hb0 (fun p=>by simp[Aa]) (by simp) (by simp) ?_;simp;exact D0 rfl rfl (fun p=>by simp)
theorem Js (t:T):Ah t ≠ []:=by
 obtain⟨k,w,l⟩:=t;rw[AO];split
 ·intro e;have:=Dc (w.headD 0).toNat;rw[e] at this;simp at this
 ·split
  ·simp
  ·split<;>simp
theorem L4 {t:T} (h:Gc t) (hl:(Ah t).length≤70368744177664):G.Spec Tryz.prog 19 [tX t] (S (Ah t)):=by
 obtain⟨v',hS⟩:=eZ t h false [] 1 (by simpa using hl);simp only[List.nil_append] at hS;refine Aj Tx (by simp) fun w0 I0=>?_;unfold M9;simp;refine Lj (Dg (d:=[1,777777,70]) 1 [1,777777,70,777777,5] 1 rfl rfl (by simp)) (AA ?_);simp;refine Al 1 hS (fun p=>?_) (by simp) (by simp) ?_
 ·rw[gz];by_cases h1:p=[777777,70]
  ·subst h1;simp[Aa,Dl]
  ·by_cases h2:p=[777777,70,777777,5]
   ·subst h2;simp[Aa,Dl]
   ·simp[Aa,Dl,h1,h2,Ne.symm h1,Ne.symm h2]
 ·simp;refine Al 1 (Ug (Ah t) v' (Js t) (by omega)) (fun p=>by simp) (by simp) (by simp) ?_;simp;exact Ab rfl
end Go.Proofs.YtebihdhapepejaaGreatDoor
namespace Go.PL
def bM (p:List UInt8→T × Bool × Nat) (Q:T→Prop):Prop:=∀ t rest,Q t→(∀ c,rest.head? = some c→Bg c=none)→p (Ah t++rest)=(t,true,(Ah t).length)
def XT (Q:T→Prop) (e:UInt8):Prop:=∀ t,Q t→∃ c r,Ah t=c::r∧c ≠ e
theorem Z1:Bg 44=none:=by decide
theorem cU:Bg 93=none:=by decide
theorem T1:Bg 125=none:=by decide
theorem XZ:Bg 124=none:=by decide
section
variable {num:List UInt8→Nat × Bool × Nat}
theorem Vy (h:MW num):∀ (ws:List Int) (f:Nat) (c:UInt8) (rest:List UInt8),ws ≠ []→(∀ x,x ∈ ws→0≤x∧x<18446744073709551616)→ws.length≤f→Bg c=none→c ≠ 44 →
  Bl num f (Ag (ws.map fun x=>Am x.toNat)++c::rest)=(ws,true,(Ag (ws.map fun x=>Am x.toNat)).length)
 |[],f,c,rest,hne,_,_,_,_=>(hne rfl).elim
 |[x],f,c,rest,_,hx,hf,hc,hc4=>by
  obtain⟨f,rfl⟩:∃ g,f=g+1:=⟨f-1,by simp at hf;omega⟩;have hx:=hx x (by simp);have hn:=h.of x.toNat (c::rest) (by omega) (fun y hy=>by simp at hy;rw[← hy];exact hc);simp only[List.map_cons,List.map_nil,N6];unfold Bl;rw[hn];simp[hc4];omega
 |x::y::ws,f,c,rest,_,hx,hf,hc,hc4=>by
  obtain⟨f,rfl⟩:∃ g,f=g+1:=⟨f-1,by simp at hf;omega⟩;have hx0:=hx x (by simp);have ih:=Vy h (y::ws) f c rest (by simp) (fun z hz=>hx z (by simp[hz])) (by simp at hf ⊢; omega) hc hc4;have e:Ag ((x::y::ws).map fun x=>Am x.toNat)=Am x.toNat++44::Ag ((y::ws).map fun x=>Am x.toNat):=by
   rw[List.map_cons,DL (by simp)]
  rw[e];generalize Ag ((y::ws).map fun x=>Am x.toNat)=J at ih;have hn:=h.of x.toNat (44::(J++c::rest)) (by omega) (fun y hy=>by simp at hy;rw[← hy];exact Z1);rw[List.append_assoc,List.cons_append];unfold Bl;rw[hn];have hd:List.drop ((Am x.toNat).length+1) (Am x.toNat++44::(J++c::rest))=J++c::rest:=by rw[List.drop_length_add_append];rfl
  simp only[if_true,List.drop_left,Cz,hd,ih];simp;omega
theorem fF (h:MW num):bM (I6 num) IE:=fun t rest ht hr=>by
 obtain⟨n,h1,h2,h3⟩:=OE ht;rw[h3];unfold I6;rw[h.of n rest h2 hr,h1]
theorem Tj {p:List UInt8→T × Bool × Nat} {Q:T→Prop} (h:bM p Q) {e:UInt8} (he:Bg e=none) (he4:e ≠ 44):∀ (l:List T) (f:Nat) (rest:List UInt8),l ≠ []→(∀ x,x ∈ l→Q x)→l.length≤f →
  BB p e f (Ag (l.map Ah)++e::rest)=(l,true,(Ag (l.map Ah)).length+1)
 |[],f,rest,hne,_,_=>(hne rfl).elim
 |[x],f,rest,_,hx,hf=>by
  obtain⟨f,rfl⟩:∃ g,f=g+1:=⟨f-1,by simp at hf;omega⟩;have hn:=h x (e::rest) (hx x (by simp)) (fun y hy=>by simp at hy;rw[← hy];exact he);simp only[List.map_cons,List.map_nil,N6];unfold BB;rw[hn];simp
 |x::y::l,f,rest,_,hx,hf=>by
  obtain⟨f,rfl⟩:∃ g,f=g+1:=⟨f-1,by simp at hf;omega⟩;have ih:=Tj h he he4 (y::l) f rest (by simp) (fun z hz=>hx z (by simp[hz])) (by simp at hf ⊢; omega);have e1:Ag ((x::y::l).map Ah)=Ah x++44::Ag ((y::l).map Ah):=by
   rw[List.map_cons,DL (by simp)]
  rw[e1];generalize Ag ((y::l).map Ah)=J at ih;have hn:=h x (44::(J++e::rest)) (hx x (by simp)) (fun y hy=>by simp at hy;rw[← hy];exact Z1);rw[List.append_assoc,List.cons_append];unfold BB;rw[hn];have hd:List.drop ((Ah x).length+1) (Ah x++44::(J++e::rest))=J++e::rest:=by rw[List.drop_length_add_append];rfl
  have h4:((44:UInt8) == e)=false:=by simp;exact fun h=>he4 h.symm
  simp only[if_true,List.drop_left,Cz,hd,ih,h4];simp;omega
theorem Jk {α:Type} (f:α→List UInt8):∀ (l:List α),(∀ x,x ∈ l→1≤(f x).length)→l.length≤(Ag (l.map f)).length
 |[],_=>by simp
 |[x],h=>by simpa using h x (by simp)
 |x::y::l,h=>by
  have:=Jk f (y::l) (fun z hz=>h z (by simp[hz]));rw[List.map_cons,DL (by simp)];simp at this ⊢;omega
theorem OD {α:Type} (f:α→List UInt8) {P:UInt8→Prop} {l:List α} (hne:l ≠ []) (h:∀ x,x ∈ l→∃ c r,f x=c::r∧P c):∃ c r,Ag (l.map f)=c::r∧P c:=by
 cases l with
 |nil=>exact(hne rfl).elim
 |cons x l=>
  obtain⟨c,r,h1,h2⟩:=h x (by simp);cases l with
  |nil=>exact⟨c,r,by simpa using h1,h2⟩
  |cons y l=>
   refine⟨c,r++44::Ag ((y::l).map f),?_,h2⟩;rw[List.map_cons,DL (by simp),h1];rfl
theorem SX {p:List UInt8→T × Bool × Nat} {Q:T→Prop} (h:bM p Q) {e:UInt8} (he:Bg e=none) (he4:e ≠ 44) (hQ:XT Q e) (l:List T) (rest:List UInt8) (hl:∀ x,x ∈ l→Q x) :
  AB p e (Ag (l.map Ah)++e::rest)=(l,true,(Ag (l.map Ah)).length+1):=by
 unfold AB;by_cases hne:l=[]
 ·subst hne;simp
 ·obtain⟨c,r,h1,h2⟩:=OD Ah (P:=fun c=>c ≠ e) hne (fun x hx=>hQ x (hl x hx));have h3:A1 (Ag (l.map Ah)++e::rest) e=false:=by rw[h1];simp[h2]
  rw[h3];simp only[Bool.false_eq_true,if_false];have:=Jk Ah l (fun x hx=>by obtain⟨c,r,h1,_⟩:=hQ x (hl x hx);rw[h1];simp);exact Tj h he he4 l _ rest hne hl (by simp;omega)
theorem Wn:XT IE 93:=fun t ht=>by
 obtain⟨n,_,_,h⟩:=OE ht;have:=Dc n;cases hq:Am n with
 |nil=>rw[hq] at this;simp at this
 |cons c r=>
  refine⟨c,r,by rw[h,hq],fun e=>?_⟩;obtain⟨d,hd⟩:=HO n c (by rw[hq];simp);rw[e,cU] at hd;cases hd
theorem MA:∀ (d:Nat) (e:UInt8),e=93∨e=125→XT (Cd d) e:=fun d e he t ht=>by
 have key:t=T0∨t.kind=1∨(2≤t.kind∧t.kind≤9):=by
  cases d with
  |zero=>exact .inl ht
  |succ d=>
   rcases ht with h | h | h
   ·exact .inl h
   ·exact .inr (.inl h.1)
   ·exact .inr (.inr ⟨h.1,h.2.1⟩)
 rcases key with rfl | h | ⟨h1,h2⟩
 ·refine⟨95,[],by rw[AO];simp,?_⟩;rcases he with rfl | rfl<;>decide
 ·obtain⟨k,w,l⟩:=t;simp at h;subst h;refine⟨123,_,by rw[AO,if_neg (by omega),if_pos rfl],?_⟩;rcases he with rfl | rfl<;>decide
 ·obtain⟨k,w,l⟩:=t;simp at h1 h2;have:=Sx h1 h2;refine⟨A9 k,_,by rw[AO,if_neg (by omega),if_neg (by omega),if_pos ⟨h1,h2⟩],?_⟩;rcases he with rfl | rfl
  ·exact this.2.2.2.2
  ·exact this.2.2.2.1
theorem V5 (d:Nat) (rest:List UInt8):Az num d (Ah T0++rest)=(T0,true,(Ah T0).length):=by
 have e:Ah T0=[95]:=by rw[AO];simp
 rw[e];cases d with
 |zero=>rw[JA];simp
 |succ d=>rw[Fx];simp
theorem QZ (h:MW num):∀ d (t:T) (rest:List UInt8),Cd d t→Az num d (Ah t++rest)=(t,true,(Ah t).length)
 |0,t,rest,ht=>by
  have ht:t=T0:=ht;subst ht;exact V5 0 rest
 |d+1,t,rest,ht=>by
  have ih:bM (Az num d) (Cd d):=fun t rest ht _=>QZ h d t rest ht;rcases ht with rfl | ⟨h1,h2,h3⟩ | ⟨h1,h2,h3,h4⟩
  ·exact V5 _ rest
  ·obtain⟨k,w,l⟩:=t;simp at h1 h2 h3;subst h1;have eS:Ah (.mk 1 w l)=123::(Ag (w.map fun x:Int=>Am x.toNat)++((if l=[] then [] else 124::Ag (l.map Ah))++[125])):=by rw[AO,if_neg (by omega),if_pos rfl]
   rw[eS,Fx];have tail:∀ (ws:List Int),GX (AB (Az num d) 125) ws ((if l=[] then [] else 124::Ag (l.map Ah))++125::rest)=(.mk 1 ws l,true,((if l=[] then [] else 124::Ag (l.map Ah))++[125]).length):=fun ws=>by
    unfold GX;by_cases hl:l=[]
    ·subst hl;simp
    ·obtain⟨c,r,c1,c2⟩:=OD Ah (P:=fun c=>c ≠ 125) hl (fun x hx=>MA d 125 (.inr rfl) x (h3 x hx));have hk:=SX ih T1 (by decide) (MA d 125 (.inr rfl)) l rest h3;have h6:(Ag (l.map Ah)++125::rest).headD 0 ≠ 125:=by rw[c1];simpa using c2
     have a1:((124:UInt8) == 125)=false:=by decide
     simp only[hl,if_false,List.cons_append,Cz,a1,Bool.false_eq_true,List.drop_succ_cons,List.drop_zero,if_neg h6,hk];simp;omega
   have hst:B1 num (AB (Az num d) 125) (Ag (w.map fun x:Int=>Am x.toNat)++((if l=[] then [] else 124::Ag (l.map Ah))++125::rest)) =
     (.mk 1 w l,true,(Ag (w.map fun x:Int=>Am x.toNat)++((if l=[] then [] else 124::Ag (l.map Ah))++[125])).length):=by
    unfold B1;by_cases hw:w=[]
    ·subst hw;simp only[List.map_nil,Og,List.nil_append];by_cases hl:l=[]
     ·subst hl;simp
     ·have a1:((124:UInt8) == 125)=false:=by decide
      have b1:A1 ((if l=[] then [] else 124::Ag (l.map Ah))++125::rest) 125=false:=by simp[hl]
      have b2:PS num ((if l=[] then [] else 124::Ag (l.map Ah))++125::rest)=([],true,0):=by
       unfold PS;simp[hl]
      rw[b1,b2];simp only[Bool.false_eq_true,if_false,if_true,List.drop_zero,tail];simp
    ·obtain⟨c,r,c1,x,c2⟩:=OD (fun x:Int=>Am x.toNat) (P:=fun c=>∃ d,Bg c=some d) hw (fun x hx=>by
      have:=Dc x.toNat;cases hq:Am x.toNat with
      |nil=>rw[hq] at this;simp at this
      |cons c r=>exact⟨c,r,rfl,HO x.toNat c (by rw[hq];simp)⟩)
     have n1:c ≠ 125:=fun e=>by rw[e,T1] at c2;cases c2
     have n2:c ≠ 124:=fun e=>by rw[e,XZ] at c2;cases c2
     generalize hT:(if l=[] then [] else 124::Ag (l.map Ah))=TL at tail;have hTL:∃ y r,TL++125::rest=y::r∧Bg y=none∧y ≠ 44:=by
      by_cases hl:l=[]
      ·rw[if_pos hl] at hT;subst hT;exact⟨125,rest,rfl,T1,by decide⟩
      ·rw[if_neg hl] at hT;subst hT;exact⟨124,_,rfl,XZ,by decide⟩
     obtain⟨y,r',d1,d2,d3⟩:=hTL;have b1:A1 (Ag (w.map fun x:Int=>Am x.toNat)++(TL++125::rest)) 125=false:=by rw[c1];simp[n1]
     have b2:PS num (Ag (w.map fun x:Int=>Am x.toNat)++(TL++125::rest))=(w,true,(Ag (w.map fun x:Int=>Am x.toNat)).length):=by
      unfold PS;rw[if_pos (by rw[c1];simpa using n2),d1];have hlen:=Jk (fun x:Int=>Am x.toNat) w (fun x _=>Dc _);exact Vy h w _ y r' hw h2 (by simp;omega) d2 d3
     rw[b1,b2];simp only[Bool.false_eq_true,if_false,if_true,List.drop_left,tail];simp
   have a1:((123:UInt8) == 95)=false:=by decide
   have e2:(Ag (w.map fun x:Int=>Am x.toNat)++((if l=[] then [] else 124::Ag (l.map Ah))++[125]))++rest=Ag (w.map fun x:Int=>Am x.toNat)++((if l=[] then [] else 124::Ag (l.map Ah))++125::rest):=by simp
   simp only[List.cons_append,Cz,a1,Bool.false_eq_true,if_false,beq_self_eq_true,if_true,List.drop_succ_cons,List.drop_zero,e2,hst];simp;omega
  ·obtain⟨k,w,l⟩:=t;simp at h1 h2 h3 h4;subst h3;obtain⟨l1,l2,l3,l4,l5⟩:=Sx h1 h2;have eS:Ah (.mk k [] l)=A9 k::91::(Ag (l.map Ah)++[93]):=by rw[AO,if_neg (by omega),if_neg (by omega),if_pos ⟨h1,h2⟩]
   have of:bM (if EZ k=true then I6 num else Az num d) (fun c=>if EZ k=true then IE c else Cd d c):=by
    by_cases hD:EZ k=true
    ·simp only[hD,if_true];exact fF h
    ·simp only[hD,if_false];exact ih
   have hh:XT (fun c=>if EZ k=true then IE c else Cd d c) 93:=by
    by_cases hD:EZ k=true
    ·simp only[hD,if_true];exact Wn
    ·simp only[hD,if_false];exact MA d 93 (.inl rfl)
   have hk:=SX of cU (by decide) hh l rest h4;have e2:(Ag (l.map Ah)++[93])++rest=Ag (l.map Ah)++93::rest:=by simp
   have a1:(A9 k == 95)=false:=by simpa using l2
   have a2:(A9 k == 123)=false:=by simpa using l3
   rw[eS,Fx];simp only[List.cons_append,Cz,a1,a2,Bool.false_eq_true,if_false,List.headD_cons,l1,if_neg (show ¬ k<2 by omega),List.drop_succ_cons,List.drop_zero,beq_self_eq_true,if_true,e2,hk];simp;omega
theorem RC {num num':List UInt8→Nat × Bool × Nat} (h:MW num) (h':MW num') {d:Nat} {s:List UInt8} {t:T} (q:Az num d s=(t,true,s.length)):Az num' d s=(t,true,s.length)∧Ah t=s∧Cd d t:=by
 obtain⟨h1,h2,h3⟩:=Jq h d s t s.length q;have h4:Ah t=s:=by rw[← h1];simp
 have:=QZ h' d t [] h3;rw[List.append_nil,h4] at this;exact⟨this,h4,h3⟩
end
end Go.PL
namespace Go.Proofs.YtebihdhapepejaaGreatDoor
open Go Go.G Go.Proofs Go.PL
def CW (s:List UInt8) (at':Nat):Fam:=⟨fun _ p=>if p=[] then ⟨1,.cells [S s,iv at']⟩ else ⟨0,.none⟩,fun {g δ r r'} hg hd p=>by
  by_cases hp:p=[]
  ·rw[if_pos hp];exact Fam.cells_ren (by simp[A.renL,A.ren])
  ·rw[if_neg hp];rfl,fun {D r} hD p=>by
  by_cases hp:p=[]
  ·rw[if_pos hp];simp[Ob.refs,A.refsL,A.refs]
  ·rw[if_neg hp];trivial⟩
@[simp] theorem x9 {s:List UInt8} {k r:Nat} {p:Nm}:(CW s k).F r p=if p=[] then ⟨1,.cells [S s,iv k]⟩ else ⟨0,.none⟩:=rfl
abbrev pp (r:Nat):A:=.pob [r] 1 0
theorem BR {s:List UInt8} {k:Nat} (h:k<s.length):s.drop k=s[k]::s.drop (k+1):=List.drop_eq_getElem_cons h
def Ey (r:List UInt8):UInt8:=r.headD 0
theorem Gp {s:List UInt8} {k:Nat} (h:k<s.length):Ey (s.drop k)=s[k]:=by rw[BR h];rfl
theorem M5 {s:List UInt8}:Ey (s.drop s.length)=0:=by rw[List.drop_length];rfl
theorem Li (s:List UInt8) (k:Nat) (hk:k≤s.length):FK Tryz.prog 114 (fun r=>[pp r]) (CW s k) (fun _=>Gy (Ey (s.drop k))) (CW s k):=by
 refine C5 MJ (by simp) (Ak A8 Ay) Bi fun w0 I0 M0 m0=>?_;unfold HJ;by_cases h:k=s.length
 ·subst h;rw[M5];simp;exact Bh rfl rfl (fun p=>by simp)
 ·have hlt:k<s.length:=by omega
  rw[Gp hlt];simp[show ¬ (k:Int)=s.length by omega,hlt];exact Bh rfl rfl (fun p=>by simp)
def one (b:Bool):Nat:=if b=true then 1 else 0
@[simp] theorem vL:one true=1:=rfl
@[simp] theorem vd:one false=0:=rfl
theorem Cj (s:List UInt8) (k:Nat) (c:UInt8) (hk:k≤s.length):(A1 (s.drop k) c=true∧k<s.length∧Ey (s.drop k)=c)∨(A1 (s.drop k) c=false∧(k=s.length∨Ey (s.drop k) ≠ c)):=by
 by_cases h:k=s.length
 ·right;subst h;rw[List.drop_length];exact⟨rfl,.inl rfl⟩
 ·have hlt:k<s.length:=by omega
  rw[BR hlt,Cz];by_cases e:s[k]=c
  ·left;exact⟨by simpa using e,hlt,e⟩
  ·right;exact⟨by simpa using e,.inr e⟩
theorem u8_inj {a b:UInt8}:((a.toNat:Int)=b.toNat) ↔ a=b:=by
 rw[Int.natCast_inj];exact UInt8.toNat_inj
theorem Ez (s:List UInt8) (k:Nat) (c:UInt8) (hk:k≤s.length) (hs:s.length≤1000000000):FK Tryz.prog 112 (fun r=>[pp r,Gy c]) (CW s k) (fun _=>bv (A1 (s.drop k) c)) (CW s (k+one (A1 (s.drop k) c))):=by
 refine C5 M4 (by simp) (Ak A8 (Ak Bi Ay)) Bi fun w0 I0 M0 m0=>?_;unfold Ih;have hn:=Li s k hk;rcases Cj s k c hk with ⟨h1,h2,h3⟩ | ⟨h1,h2⟩
 ·rw[h1];rw[h3] at hn;have e1:=A7 k;simp;refine Al 0 hn (fun p=>by simp) (by simp) (by simp) ?_;simp[e1,show ¬ (k:Int)=s.length by omega];exact Bh rfl rfl (fun p=>by by_cases hp:p=[]<;>simp[hp,Aa])
 ·rw[h1];by_cases h3:Ey (s.drop k)=c
  ·have h4:k=s.length:=by
    rcases h2 with h2 | h2
    ·exact h2
    ·exact(h2 h3).elim
   rw[h3] at hn;simp;refine Al 0 hn (fun p=>by simp) (by simp) (by simp) ?_;simp[h4];exact Bh rfl rfl (fun p=>by simp)
  ·have h4:¬ ((Ey (s.drop k)).toNat:Int)=c.toNat:=fun e=>h3 (u8_inj.1 e);generalize Ey (s.drop k)=x at hn h4;simp;refine Al 0 hn (fun p=>by simp) (by simp) (by simp) ?_;simp[h4];exact Bh rfl rfl (fun p=>by simp)
set_option maxRecDepth 100000 in
theorem QP (c:UInt8):GO [48,49,50,51,52,53,54,55,56,57,97,98,99,100,101,102] c=match Bg c with | some d=>(d:Int) | none=>-1:=by
 have:∀ n:Fin 256,GO [48,49,50,51,52,53,54,55,56,57,97,98,99,100,101,102] (UInt8.ofNat n.val)=match Bg (UInt8.ofNat n.val) with | some d=>(d:Int) | none=>-1:=by decide +kernel
 have h:=this ⟨c.toNat,c.toNat_lt⟩;simpa using h
theorem aR (c:UInt8):G.Spec Tryz.prog 132 [Gy c] (.tup [uv ((Bg c).getD 0:Nat),bv (Bg c).isSome]):=by
 refine Aj WI (by simp) fun w0 I0=>?_;unfold QS;simp;refine Af (Kz _ c) rfl ?_;rw[QP];cases h:Bg c with
 |none=>simp;exact Ab rfl
 |some d=>
  have hd:=(Gl h).1;have e:u64.wrap (d:Int)=d:=AX (by omega) (by omega);simp[e];exact Ab rfl
theorem qM (n d:Nat) (hn:n<1152921504606846976) (hd:d<16):bits .or .u64 (u64.wrap ((n:Int)*2 ^ min (Int.toNat 4) u64.bits)) (d:Int)=((n*16+d:Nat):Int):=by
 have e:u64.wrap ((n:Int)*2 ^ min (Int.toNat 4) u64.bits)=((n*16:Nat):Int):=by
  rw[show min (Int.toNat 4) u64.bits=4 from rfl,AX (by omega) (by omega)];omega
 rw[e,bits_or_u64_nat _ _ (by omega) (by omega)];have:=Nat.two_pow_add_eq_or_of_lt (i:=4) (b:=d) (by omega) n;rw[show(2:Nat) ^ 4*n=n*16 by omega] at this;rw[← this]
variable {n0:Nat} {w0:World} {I0:Nat→Prop} {M0:Nm→Nat→Prop} {m0:Mu} {Q:Exit→Sta→Prop}
theorem iR {s:List UInt8} (hs:s.length≤1000000000) {k0:Nat}:∀ (r:List UInt8) (k n:Nat) (H:Hp),s.drop k=r→k≤s.length→n<18446744073709551616→(∀ p,H (0::p)=(CW s k).F 0 p) →
  (∀ (H':Hp) (s6 s7 s22:A),(∀ p,H' (0::p)=(CW s (k+(AE n r).2)).F 0 p)→Q (.exit 0) ⟨lk [(0,pp 0),(4,iv k0),(5,uv (AE n r).1),(22,s22)],H'⟩) →
  (∀ (H':Hp) (s6 s7 s22:A),(∀ p,H' (0::p)=(CW s (k+(AE n r).2)).F 0 p)→Q (.exit 0) ⟨lk [(0,pp 0),(4,iv k0),(5,uv (AE n r).1),(6,s6),(42,s22)],H'⟩) →
  LoopC (J4 Tryz.prog w0 I0 M0 n0 m0) Cp Q ⟨lk [(0,pp 0),(4,iv k0),(5,uv n)],H⟩:=by
 intro r;induction r with
 |nil=>
  intro k n H hr hk hn hH hq hq2;have hke:k=s.length:=by
   have:=congrArg List.length hr;simp at this;omega
  refine Ae mixed Cp.eq_1 ?_;simp[hH,hke];exact hq H .any .any _ (fun p=>by rw[hH];simp[AE,hke])
 |cons x r ih=>
  intro k n H hr hk hn hH hq hq2;have hlt:k<s.length:=by
   have:=congrArg List.length hr;simp at this;omega
  refine Ae mixed Cp.eq_1 ?_;have hx:s[k]=x:=by
   rw[BR hlt] at hr;exact(List.cons.inj hr).1
  have hr':s.drop (k+1)=r:=by
   rw[BR hlt] at hr;exact(List.cons.inj hr).2
  have hcall:=aR x;have stop:AE n (x::r)=(n,0)→∀ (H:Hp) (s6 s42:A),(∀ p,H (0::p)=(CW s k).F 0 p)→Q (.exit 0) ⟨lk [(0,pp 0),(4,iv k0),(5,uv n),(6,s6),(42,s42)],H⟩:=fun e H s6 s42 hH=>by
   have:=hq2 H s6 .any s42 (fun p=>by rw[hH,e];rfl)
   rwa [e] at this
  simp[hH,hlt,hx];refine Af hcall rfl ?_;cases hv:Bg x with
  |none=>
   simp;exact stop (by rw[AE,hv]) _ _ _ hH
  |some d=>
   have hd:=(Gl hv).1;by_cases hbig:n<1152921504606846976
   ·have hsh:(n:Int) / 2 ^ min 60 u64.bits=0:=by
     rw[show min 60 u64.bits=60 from rfl];omega
    have hor:=qM n d hbig hd;have e1:=A7 k;have en:AE n (x::r)=((AE (n*16+d) r).1,(AE (n*16+d) r).2+1):=by rw[AE,hv];simp[hbig]
    rw[en] at hq hq2;obtain⟨q,hqq⟩:∃ q,q=n*16+d:=⟨_,rfl⟩;rw[← hqq] at hor hq hq2;rw[show min (Int.toNat 4) u64.bits=min 4 u64.bits from rfl] at hor;simp[hsh,hor,hH,e1];refine ih (k+1) q _ hr' (by omega) (by omega) (fun p=>?_) (fun H' s6 s7 s22 h=>hq H' s6 s7 s22 (fun p=>by rw[h,show k+1+(AE q r).2=k+((AE q r).2+1) by omega])) (fun H' s6 s7 s22 h=>hq2 H' s6 s7 s22 (fun p=>by rw[h,show k+1+(AE q r).2=k+((AE q r).2+1) by omega]));by_cases hp:p=[]<;>simp[hp,Aa,hH]
   ·have hsh:¬ (n:Int) / 2 ^ min 60 u64.bits=0:=by
     rw[show min 60 u64.bits=60 from rfl];omega
    simp[hsh];exact stop (by rw[AE,hv];simp[hbig]) _ _ _ hH
theorem Pp {s:List UInt8} (hs:s.length≤1000000000) (k:Nat) (hk:k≤s.length):FK Tryz.prog 123 (fun r=>[pp r]) (CW s k) (fun _=>.tup [uv ((AG (s.drop k)).1:Nat),bv (AG (s.drop k)).2.1]) (CW s (k+(AG (s.drop k)).2.2)):=by
 refine C5 K0 (by simp) (Ak A8 Ay) (Cb (Ak Bi (Ak Bi Ay))) fun w0 I0 M0 m0=>?_;unfold GR;simp;have hle:=(NX (s.drop k) 0 (by omega)).2;rw[List.length_drop] at hle;have fin:∀ (H':Hp),(∀ p,H' (0::p)=(CW s (k+(AE 0 (s.drop k)).2)).F 0 p)→WPC (J4 Tryz.prog w0 I0 M0 77 m0) D6 (KN (J4 Tryz.prog w0 I0 M0 77 m0) [.tmp 2,.tmp 3] 1 (.tup [uv ((AG (s.drop k)).1:Nat),bv (AG (s.drop k)).2.1]) (ov 0 ((CW s (k+(AG (s.drop k)).2.2)).F 0) (Dl []))) ⟨lk [(0,pp 0),(4,iv k),(5,uv ((AE 0 (s.drop k)).1:Nat))],H'⟩:=fun H' h=>by
  have e1:i64.wrap ((k:Int)+((AE 0 (s.drop k)).2:Int)-k)=((AE 0 (s.drop k)).2:Int):=DU;have en:AG (s.drop k)=((AE 0 (s.drop k)).1,decide (0<(AE 0 (s.drop k)).2)&&(decide ((AE 0 (s.drop k)).2=1) || decide (Ey (s.drop k) ≠ 48)),(AE 0 (s.drop k)).2):=rfl;rw[en];have hnx:0<(AE 0 (s.drop k)).2→Ey (s.drop k)=s.getD k 0:=fun h0=>by rw[Gp (by omega)];simp[List.getD,show k<s.length by omega]
  generalize Ey (s.drop k)=nx at hnx;generalize (AE 0 (s.drop k)).1=n at *;generalize (AE 0 (s.drop k)).2=j at *;rw[D6.eq_1];by_cases h0:j=0
  ·subst h0;simp at e1;simp[h,e1];exact Bh rfl rfl (fun p=>h p)
  ·by_cases h1:j=1
   ·subst h1;simp at e1;simp[h,e1];exact Bh rfl rfl (fun p=>h p)
   ·have hlt:k<s.length:=by omega
    have hx:=hnx (by omega);have hg:s.getD k 0=s[k]:=by simp[List.getD,hlt]
    rw[hg] at hx;subst hx;simp[h,e1,show 0<j by omega,show ¬ (j:Int)=1 by omega,hlt];refine Bh rfl ?_ (fun p=>h p);have h48:((s[k].toNat:Int)=48) ↔ s[k]=48:=u8_inj (b:=48);simp[h1,h48]
 refine iR hs (s.drop k) k 0 _ rfl hk (by omega) (fun p=>by simp) (fun H' s6 s7 s22 h=>?_) (fun H' s6 s7 s22 h=>?_)
 ·simp;exact fin H' h
 ·simp;exact fin H' h
theorem Qf {c:Cx} {s:Nat→A} {H:Hp} (t:Nat):Le c ⟨s,H⟩ ⟨upd s t (A.soft (s t)),H⟩:=fun a w I μ hs=>
 ⟨I,μ,hs.sim,hs.size,hs.defers,fun k=>by
  show Rel w I μ (upd s t (A.soft (s t)) k) _;unfold upd;split
  ·rename_i e;subst e;exact(hs.rel _).soft
  ·exact hs.rel k⟩
section
variable {n0:Nat} {w0:World} {I0:Nat→Prop} {Q:Exit→Sta→Prop}
end
theorem VL {α:Type} {H:Hp} {o:Nm} {u n sz:Nat} {l:List α} {f g:α→A} (h:vr (H o) u=some (sz,l.map f)) (hn:n=l.length)
  (hf:∀ x,x ∈ l→(f x).cells.all A.bare=true∧(f x).cells.map A.soft=(g x).cells∧(g x).cells.length=sz∧A.ones (g x).cells=true):Jr H (.osl o u sz 0 n) (.sl false (l.map g)):=by
 subst hn;refine UY (xs:=l.map f) (by simpa using h) (by simp) (by simp) (fun y hy=>?_) ?_ ?_
 ·obtain⟨x,hx,rfl⟩:=List.mem_map.1 hy;exact(hf x hx).2.2.1
 ·simp only[A.ones,List.all_eq_true,List.mem_flatMap];rintro y ⟨z,hz,hy⟩;obtain⟨x,hx,rfl⟩:=List.mem_map.1 hz;have:=(hf x hx).2.2.2;simp only[A.ones,List.all_eq_true] at this;exact this y hy
 ·rw[List.drop_zero,Fv (by simp)];have:∀ (m:List α),(∀ x,x ∈ m→x ∈ l)→Gv H ((m.map f).flatMap A.cells) ((m.map g).flatMap A.cells):=by
   intro m;induction m with
   |nil=>intro _;simp
   |cons x m ih=>
    intro hm;obtain⟨h1,h2,_,_⟩:=hf x (hm x (by simp));simp only[List.map_cons,List.flatMap_cons];rw[← h2];have hr:=ih fun y hy=>hm y (by simp[hy]);have:∀ (c:List A) (p q:List A),c.all A.bare=true→Gv H p q→Gv H (c++p) (c.map A.soft++q):=by
     intro c;induction c with
     |nil=>intro p q _ hpq;exact hpq
     |cons y c ihc=>
      intro p q hc hpq;simp only[List.all_cons,Bool.and_eq_true] at hc;exact⟨dy hc.1,ihc p q hc.2 hpq⟩
    exact this _ _ _ h1 hr
  exact this l fun x h=>h
section
variable {n0:Nat} {w0:World} {I0:Nat→Prop}
end
theorem PZ (r:List UInt8):(AG r).2.2≤r.length:=(NX r 0 (by omega)).2
theorem XR {n0:Nat} {w0:World} {I0:Nat→Prop} {M0:Nm→Nat→Prop} {m0:Mu} {Q:Exit→Sta→Prop} {s:List UInt8} (hs:s.length≤1000000000):∀ (f k:Nat) (acc:List Int) (v:Nat) (H:Hp),s.length-k<f→k≤s.length→acc.length≤k→(∀ p,H (0::p)=(CW s k).F 0 p)→H [1]=⟨v,.arr 1 (acc.map uv)⟩ →
  ((Bl AG f (s.drop k)).2.1=false→∀ H':Hp,(∀ p,H' (0::p)=(CW s (k+(Bl AG f (s.drop k)).2.2)).F 0 p)→Q .ret ⟨lk [(2,.sl true []),(3,bv false)],H'⟩) →
  ((Bl AG f (s.drop k)).2.1=true→∀ (H':Hp) (v':Nat),(∀ p,H' (0::p)=(CW s (k+(Bl AG f (s.drop k)).2.2)).F 0 p)→H' [1]=⟨v',.arr 1 ((acc++(Bl AG f (s.drop k)).1).map uv)⟩→Q .ret ⟨lk [(2,.osl [1] v' 1 0 (acc++(Bl AG f (s.drop k)).1).length),(3,bv true)],H'⟩) →
  LoopC (J4 Tryz.prog w0 I0 M0 n0 m0) DB Q ⟨lk [(0,pp 0),(4,.osl [1] v 1 0 acc.length)],H⟩:=by
 intro f;induction f with
 |zero=>intro k acc v H hf;omega
 |succ f ih=>
  intro k acc v H hf hk hacc hH hH1 hq0 hq1;have hn:=Pp hs k hk;have hle:=PZ (s.drop k);rw[List.length_drop] at hle;refine Ae mixed DB.eq_1 ?_;simp;refine Al 0 hn hH (by simp) (by simp) ?_;rw[Bl] at hq0 hq1;by_cases ho:(AG (s.drop k)).2.1=true
  ·rw[if_pos ho] at hq0 hq1;have hpos:0<(AG (s.drop k)).2.2:=by
    have:(AG (s.drop k)).2.1=true:=ho;unfold AG at this;simp only[Bool.and_eq_true,decide_eq_true_eq] at this;exact this.1
   generalize hN:AG (s.drop k)=N at *;have hk1:k+N.2.2≤s.length:=by omega
   have he:=Ez s (k+N.2.2) 44 hk1 hs;rw[List.drop_drop] at hq0 hq1;simp[ho,hH1,IX];refine⟨by omega,?_⟩;refine Al 0 he (fun p=>by simp[Aa]) (by simp) (by simp) ?_;by_cases hc:A1 (s.drop (k+N.2.2)) 44=true
   ·rw[if_pos hc] at hq0 hq1;rw[List.drop_drop] at hq0 hq1;have hlt:k+N.2.2<s.length:=by
     rcases Cj s (k+N.2.2) 44 hk1 with h | h
     ·exact h.2.1
     ·rw[h.1] at hc;cases hc
    rw[hc];simp;refine LoopC.le (A4 [(0,pp 0),(4,.osl [1] (v+1) 1 0 (acc++[(N.1:Int)]).length)] (by simp)) ?_;rw[show k+N.2.2+1=k+(N.2.2+1) by omega];refine ih (k+(N.2.2+1)) (acc++[(N.1:Int)]) (v+1) _ (by omega) (by omega) (by simp;omega) (fun p=>by simp) (by simp) (fun h H' h1=>?_) (fun h H' v' h1 h2=>?_)
    ·exact hq0 h H' (fun p=>(h1 p).trans (by rw[Nat.add_assoc]))
    ·have:=hq1 h H' v' (fun p=>(h1 p).trans (by rw[Nat.add_assoc])) (by simp[h];simpa using h2);simpa[h] using this
   ·rw[if_neg hc] at hq0 hq1;simp only[Bool.not_eq_true] at hc;rw[hc];simp;have:=hq1 rfl (ov 0 ((CW s (k+N.2.2)).F 0) (AR H [1] ⟨v+1,.arr 1 (acc.map uv++[uv N.1])⟩)) (v+1) (fun p=>by simp) (by simp);simpa using this
  ·rw[if_neg ho] at hq0 hq1;simp only[Bool.not_eq_true] at ho;simp[ho];exact hq0 rfl _ (fun p=>by simp)
theorem Zt {s:List UInt8} (hs:s.length≤1000000000) (k:Nat) (hk:k≤s.length) (f:Nat) (hf:s.length-k<f):∃ x,FK Tryz.prog 122 (fun r=>[pp r]) (CW s k) (fun _=>.tup [x,bv (Bl AG f (s.drop k)).2.1]) (CW s (k+(Bl AG f (s.drop k)).2.2)) ∧
  ((Bl AG f (s.drop k)).2.1=true→x=IT (Bl AG f (s.drop k)).1)∧((Bl AG f (s.drop k)).2.1=false→x = .sl false []):=by
 cases hb:(Bl AG f (s.drop k)).2.1 with
 |false=>
  refine⟨.sl false [],EO Gd (by simp) (Ak A8 Ay) (Cb (Ak Lv (Ak Bi Ay))) fun w0 I0 M0 m0 hM=>?_,(fun h=>by cases h),fun _=>rfl⟩;unfold D7;simp;refine LoopC.le (Es 4 [1] 1 (by simp)) ?_;refine LoopC.le (A4 [(0,pp 0),(4,.osl [1] 1 1 0 ([]:List Int).length)] (by simp[upd])) ?_;refine XR hs f k [] 1 _ hf hk (by simp) (fun p=>by simp) (by simp) (fun h H' h1=>?_) (fun h=>by rw[hb] at h;cases h);simp;refine Ia (Qf 2) (Bh (r0:=.tup [.sl false [],bv false]) (by simp[upd,A.soft,A.softL]) rfl h1)
 |true=>
  refine⟨IT (Bl AG f (s.drop k)).1,EO Gd (by simp) (Ak A8 Ay) (Cb (Ak Lv (Ak Bi Ay))) fun w0 I0 M0 m0 hM=>?_,fun _=>rfl,(fun h=>by cases h)⟩;unfold D7;simp;refine LoopC.le (Es 4 [1] 1 (by simp)) ?_;refine LoopC.le (A4 [(0,pp 0),(4,.osl [1] 1 1 0 ([]:List Int).length)] (by simp[upd])) ?_;refine XR hs f k [] 1 _ hf hk (by simp) (fun p=>by simp) (by simp) (fun h=>by rw[hb] at h;cases h) (fun h H' v' h1 h2=>?_);simp at h2;simp;obtain⟨H2,g1,g2⟩:=QN (c:=J4 Tryz.prog w0 I0 M0 22 m0) (s:=lk [(2,.osl [1] v' 1 0 (Bl AG f (s.drop k)).1.length),(3,bv true)]) (H:=H') (fun r=>1≤r) (fun r p b hr=>hM r p b hr) 2 (IT (Bl AG f (s.drop k)).1) (fun H1 e1=>by
   have e2:H1 [1]=H' [1]:=e1 1 [] (Fa _);simp;exact Ed (l:=(Bl AG f (s.drop k)).1) (f:=uv) (by rw[e2,h2];simp) rfl (fun x=>by simp))
  refine Ia g1 (Bh (r0:=.tup [IT (Bl AG f (s.drop k)).1,bv true]) (by simp[upd]) rfl (fun p=>?_));exact(g2 0 p (by omega)).trans (h1 p)
def Ux (D:Bool) (t:T):List A:=if D=true then [iv t.kind,.sl true (t.words.map uv),.sl true []] else [iv t.kind,IT t.words,Eg t.kids]
def el (D:Bool) (t:T):A:=.agg (Ux D t)
@[simp] theorem vW {D:Bool} {t:T}:(el D t).cells=Ux D t:=rfl
@[simp] theorem wZ {D:Bool} {t:T}:(Ux D t).length=3:=by cases D<;>rfl
theorem Vt {D:Bool} {t:T}:A.ones (Ux D t)=true:=by cases D<;>rfl
@[simp] theorem wy {D:Bool} {t:T}:(Ux D t).take 3=Ux D t:=by cases D<;>rfl
theorem VE {D:Bool} {t:T}:∀ y,y ∈ Ux D t→y.bare1=true:=by
 intro y hy;cases D<;>simp[Ux] at hy<;>rcases hy with rfl | rfl | rfl<;>rfl
theorem Yc {D:Bool} {l:List T}:EJ 3 (l.map (el D))=true:=by rw[Vw];simp
theorem Zx {n0:Nat} {w0:World} {I0:Nat→Prop} {M0:Nm→Nat→Prop} {m0:Mu} {Q':Exit→Sta→Prop} {s:List UInt8} (hs:s.length≤1000000000) {k:Nat} (hk:k≤s.length) {ki:Int} {e:UInt8} {d:Int} {D b:Bool} {x:T} {acc:List T} {u v:Nat} {H:Hp} (hacc:acc.length≤k)
  (hH:∀ p,H (0::p)=(CW s k).F 0 p) (h1:H [1]=⟨u,.cells (Ux D x)⟩) (h2:H [2]=⟨v,.arr 3 (acc.map (el D))⟩)
  (hbad:(b=true→A1 (s.drop k) e=false∧A1 (s.drop k) 44=false)→∀ H':Hp,(∀ p,H' (0::p)=(CW s k).F 0 p)→Q' .ret ⟨lk [(8,.sl true []),(9,bv false)],H'⟩)
  (hend:b=true→A1 (s.drop k) e=true→∀ H':Hp,(∀ p,H' (0::p)=(CW s (k+1)).F 0 p)→H' [2]=⟨v+1,.arr 3 ((acc++[x]).map (el D))⟩→Q' .ret ⟨lk [(8,.osl [2] (v+1) 3 0 (acc.length+1)),(9,bv true)],H'⟩)
  (hgo:b=true→A1 (s.drop k) e=false→A1 (s.drop k) 44=true→∀ H':Hp,(∀ p,H' (0::p)=(CW s (k+1)).F 0 p)→H' [2]=⟨v+1,.arr 3 ((acc++[x]).map (el D))⟩→Q' .normal ⟨lk [(0,pp 0),(1,iv ki),(2,Gy e),(3,iv d),(10,.osl [2] (v+1) 3 0 (acc.length+1)),(44,bv false)],H'⟩) :
  WPC (J4 Tryz.prog w0 I0 M0 n0 m0) CQ Q' ⟨lk [(0,pp 0),(1,iv ki),(2,Gy e),(3,iv d),(10,.osl [2] v 3 0 acc.length),(11,.pob [1] u 0),(12,bv b)],H⟩:=by
 rw[CQ.eq_1];cases b with
 |false=>
  simp;exact hbad (fun h=>by cases h) H hH
 |true=>
  have he:=Ez s k e hk hs;have hc:=Ez s k 44 hk hs;have hag:A.agg (Ux D x)=el D x:=rfl;simp[h1,h2,Yc,Vt,IX,hag];refine⟨VE,by omega,?_⟩;refine Al 0 he (fun p=>by simp[Aa,hH]) (by simp) (by simp) ?_;cases hE:A1 (s.drop k) e with
  |true=>
   simp;exact hend rfl hE _ (fun p=>by simp) (by simp)
  |false=>
   simp;refine Al 0 hc (fun p=>by simp) (by simp) (by simp) ?_;cases hC:A1 (s.drop k) 44 with
   |true=>
    simp;exact hgo rfl hE hC _ (fun p=>by simp) (by simp)
   |false=>
    simp;exact hbad (fun _=>⟨hE,hC⟩) _ (fun p=>by simp)
def LX (D:Bool) (d:Nat):List UInt8→T × Bool × Nat:=if D=true then I6 AG else Az AG d
def Ya (d:Nat):Prop:=∀ {s:List UInt8},s.length≤1000000000→∀ k,k≤s.length→(Az AG d (s.drop k)).2.2≤s.length-k∧((Az AG d (s.drop k)).2.1=true→0<(Az AG d (s.drop k)).2.2) ∧
 FK Tryz.prog 100 (fun r=>[pp r,iv d]) (CW s k) (fun _=>.tup [tX (Az AG d (s.drop k)).1,bv (Az AG d (s.drop k)).2.1]) (CW s (k+(Az AG d (s.drop k)).2.2))
theorem Wj (k:Int):G.Spec Tryz.prog 121 [iv k] (bv (EZ k)):=by
 refine Aj Pm (by simp) fun w0 I0=>?_;unfold Kv;by_cases h:2≤k
 ·simp[h];exact Ai (by simp[EZ,h])
 ·simp[h];exact Ai (by simp[EZ,h])
theorem S0 {n0:Nat} {w0:World} {I0:Nat→Prop} {M0:Nm→Nat→Prop} {m0:Mu} {Q:Exit→Sta→Prop} {s:List UInt8} (hs:s.length≤1000000000) {ki:Int} {e:UInt8} {d:Nat} (hT:EZ ki=false→Ya d):∀ (f k:Nat) (acc:List T) (v:Nat) (H:Hp),s.length-k<f→k≤s.length→acc.length≤k→(∀ p,H (0::p)=(CW s k).F 0 p)→H [2]=⟨v,.arr 3 (acc.map (el (EZ ki)))⟩ →
  ((BB (LX (EZ ki) d) e f (s.drop k)).2.1=false→∀ H':Hp,(∀ p,H' (0::p)=(CW s (k+(BB (LX (EZ ki) d) e f (s.drop k)).2.2)).F 0 p)→Q .ret ⟨lk [(8,.sl true []),(9,bv false)],H'⟩) →
  ((BB (LX (EZ ki) d) e f (s.drop k)).2.1=true→∀ (H':Hp) (v':Nat),(∀ p,H' (0::p)=(CW s (k+(BB (LX (EZ ki) d) e f (s.drop k)).2.2)).F 0 p)→H' [2]=⟨v',.arr 3 ((acc++(BB (LX (EZ ki) d) e f (s.drop k)).1).map (el (EZ ki)))⟩→Q .ret ⟨lk [(8,.osl [2] v' 3 0 (acc++(BB (LX (EZ ki) d) e f (s.drop k)).1).length),(9,bv true)],H'⟩) →
  LoopC (J4 Tryz.prog w0 I0 M0 n0 m0) CR Q ⟨lk [(0,pp 0),(1,iv ki),(2,Gy e),(3,iv d),(10,.osl [2] v 3 0 acc.length)],H⟩:=by
 intro f;induction f with
 |zero=>intro k acc v H hf;omega
 |succ f ih=>
  intro k acc v H hf hk hacc hH hH2 hq0 hq1;rw[BB] at hq0 hq1;have hle:(LX (EZ ki) d (s.drop k)).2.2≤s.length-k∧((LX (EZ ki) d (s.drop k)).2.1=true→0<(LX (EZ ki) d (s.drop k)).2.2):=by
   unfold LX;by_cases hD:EZ ki=true
   ·rw[if_pos hD];have:=PZ (s.drop k);rw[List.length_drop] at this;refine⟨this,fun h=>?_⟩;unfold I6 AG at h;simp only[Bool.and_eq_true,decide_eq_true_eq] at h;exact h.1
   ·rw[if_neg hD];have:=hT (by simpa using hD) hs k hk;exact⟨this.1,this.2.1⟩
  -- Et a kid
  have tail:∀ (H':Hp) (u:Nat),(∀ p,H' (0::p)=(CW s (k+(LX (EZ ki) d (s.drop k)).2.2)).F 0 p)→H' [1]=⟨u,.cells (Ux (EZ ki) (LX (EZ ki) d (s.drop k)).1)⟩→H' [2]=⟨v,.arr 3 (acc.map (el (EZ ki)))⟩ →
    WPC (J4 Tryz.prog w0 I0 M0 n0 m0) CQ (Ci 1 (Dn (LoopC (J4 Tryz.prog w0 I0 M0 n0 m0) CR Q) Q)) ⟨lk [(0,pp 0),(1,iv ki),(2,Gy e),(3,iv d),(10,.osl [2] v 3 0 acc.length),(11,.pob [1] u 0),(12,bv (LX (EZ ki) d (s.drop k)).2.1)],H'⟩:=fun H' u g0 g1 g2=>by
   generalize LX (EZ ki) d (s.drop k)=N at *;obtain⟨hle1,hpos⟩:=hle;have hk1:k+N.2.2≤s.length:=by omega
   refine Zx hs hk1 (by omega) g0 g1 g2 (fun hb H2 f0=>?_) (fun hb hE H2 f0 f2=>?_) (fun hb hE hC H2 f0 f2=>?_)
   ·rw[List.drop_drop] at hq0;by_cases hb':N.2.1=true
    ·obtain⟨b1,b2⟩:=hb hb';have b1':¬ A1 (s.drop (k+N.2.2)) e=true:=by rw[b1];simp
     have b2':¬ A1 (s.drop (k+N.2.2)) 44=true:=by rw[b2];simp
     rw[if_pos hb',if_neg b1',if_neg b2'] at hq0;exact hq0 rfl H2 f0
    ·rw[if_neg hb'] at hq0;exact hq0 rfl H2 f0
   ·rw[List.drop_drop] at hq1;rw[if_pos hb,if_pos hE] at hq1;have:=hq1 rfl H2 (v+1) f0 f2;simpa using this
   ·have hlt:k+N.2.2<s.length:=by
     rcases Cj s (k+N.2.2) 44 hk1 with h | h
     ·exact h.2.1
     ·rw[h.1] at hC;cases hC
    rw[List.drop_drop] at hq0 hq1;have hE':¬ A1 (s.drop (k+N.2.2)) e=true:=by rw[hE];simp
    rw[if_pos hb,if_neg hE',if_pos hC,List.drop_drop] at hq0 hq1;simp;refine LoopC.le (A4 [(0,pp 0),(1,iv ki),(2,Gy e),(3,iv d),(10,.osl [2] (v+1) 3 0 (acc++[N.1]).length)] (by simp)) ?_;rw[show k+N.2.2+1=k+(N.2.2+1) by omega] at f0;refine ih (k+(N.2.2+1)) (acc++[N.1]) (v+1) _ (by omega) (by omega) (by simp;omega) f0 f2 (fun h H' h1=>?_) (fun h H' v' h1 h2=>?_)
    ·exact hq0 h H' (fun p=>(h1 p).trans (by rw[Nat.add_assoc]))
    ·have:=hq1 h H' v' (fun p=>(h1 p).trans (by rw[Nat.add_assoc])) (by simp[h];simpa using h2);simpa[h] using this
  refine Ae mixed CR.eq_1 ?_;simp;refine Af (Wj ki) rfl ?_;cases hD:EZ ki with
  |true=>
   simp;have hn:=Pp hs k hk;refine Al 0 hn (fun p=>by simp[Aa,hH]) (by simp) (by simp) ?_;have eR:LX true d (s.drop k)=(.mk 10 [((AG (s.drop k)).1:Int)] [],(AG (s.drop k)).2.1,(AG (s.drop k)).2.2):=rfl;rw[hD,eR] at tail;simp;refine tail _ _ (fun p=>?_) ?_ ?_
   ·simp[Aa]
   ·simp[Ux]
   ·simp[Aa,hH2,hD]
  |false=>
   simp;obtain⟨_,_,ht⟩:=hT hD hs k hk;refine Al 0 ht (fun p=>by simp[Aa,hH]) (by simp) (by simp) ?_;have eR:LX false d (s.drop k)=Az AG d (s.drop k):=rfl;rw[hD,eR] at tail;simp;refine tail _ _ (fun p=>?_) ?_ ?_
   ·simp[Aa]
   ·simp[Ux]
   ·simp[Aa,hH2,hD]
theorem iL {d:Nat} {D:Bool} (hT:D=false→Ya d) {s:List UInt8} (hs:s.length≤1000000000) {k:Nat} (hk:k≤s.length):(LX D d (s.drop k)).2.2≤s.length-k:=by
 unfold LX;by_cases hD:D=true
 ·rw[if_pos hD];have:=PZ (s.drop k)
  rwa [List.length_drop] at this
 ·rw[if_neg hD];exact(hT (by simpa using hD) hs k hk).1
theorem Sj {d:Nat} {D:Bool} (hT:D=false→Ya d) {s:List UInt8} (hs:s.length≤1000000000) (e:UInt8):∀ (f k:Nat),k≤s.length→(BB (LX D d) e f (s.drop k)).2.2≤s.length-k
 |0,k,hk=>by simp[BB]
 |f+1,k,hk=>by
  have h1:=iL hT hs hk;unfold BB;split
  ·split
   ·rename_i hc;obtain⟨c1,_⟩:=BF hc;simp at c1 ⊢;omega
   ·split
    ·rename_i hc;obtain⟨c1,_⟩:=BF hc;rw[List.drop_drop];have:=Sj hT hs e f (k+((LX D d (s.drop k)).2.2+1)) (by simp at c1;omega);simp at c1 ⊢;omega
    ·simpa using h1
  ·simpa using h1
theorem S3 {d:Nat} {D:Bool} (hT:D=false→Ya d) {s:List UInt8} (hs:s.length≤1000000000) (e:UInt8) {k:Nat} (hk:k≤s.length):(AB (LX D d) e (s.drop k)).2.2≤s.length-k:=by
 unfold AB;split
 ·rename_i hc;rcases Cj s k e hk with h | h
  ·simp;omega
  ·rw[h.1] at hc;cases hc
 ·exact Sj hT hs e _ k hk
theorem Ph {d:Nat} {ki:Int} (hT:EZ ki=false→Ya d) {s:List UInt8} (hs:s.length≤1000000000) {e:UInt8} {k:Nat} (hk:k≤s.length):∃ x,FK Tryz.prog 115 (fun r=>[pp r,iv ki,Gy e,iv d]) (CW s k) (fun _=>.tup [x,bv (AB (LX (EZ ki) d) e (s.drop k)).2.1]) (CW s (k+(AB (LX (EZ ki) d) e (s.drop k)).2.2)) ∧
  x=if (AB (LX (EZ ki) d) e (s.drop k)).2.1=true then Eg (AB (LX (EZ ki) d) e (s.drop k)).1 else .sl false []:=by
 have he:=Ez s k e hk hs;have fa:FamL (fun r=>[pp r,iv ki,Gy e,iv d]):=Ak A8 (Ak Bi (Ak Bi (Ak Bi Ay)));unfold AB;by_cases hE:A1 (s.drop k) e=true
 ·rw[if_pos hE];rw[hE] at he;refine⟨.sl false [],EO Fw (by simp) fa (Cb (Ak Lv (Ak Bi Ay))) fun w0 I0 M0 m0 hM=>?_,rfl⟩;unfold Dw;simp;refine Al 0 he (fun p=>by simp) (by simp) (by simp) ?_;simp;exact Ia (Qf 8) (Bh (r0:=.tup [.sl false [],bv true]) (by simp[upd,A.soft,A.softL]) rfl (fun p=>by simp))
 ·rw[if_neg hE];simp only[Bool.not_eq_true] at hE;rw[hE] at he;cases hb:(BB (LX (EZ ki) d) e ((s.drop k).length+1) (s.drop k)).2.1 with
  |false=>
   refine⟨.sl false [],EO Fw (by simp) fa (Cb (Ak Lv (Ak Bi Ay))) fun w0 I0 M0 m0 hM=>?_,rfl⟩;unfold Dw;simp;refine Al 0 he (fun p=>by simp) (by simp) (by simp) ?_;simp;refine LoopC.le (Es 10 [2] 3 (by simp)) ?_;refine LoopC.le (A4 [(0,pp 0),(1,iv ki),(2,Gy e),(3,iv d),(10,.osl [2] 1 3 0 ([]:List T).length)] (by simp[upd])) ?_;refine S0 hs hT ((s.drop k).length+1) k [] 1 _ (by simp) hk (by simp) (fun p=>by simp) (by simp) (fun h H' h1=>?_) (fun h=>by rw[hb] at h;cases h);simp only[List.length_drop] at h1;simp;exact Ia (Qf 8) (Bh (r0:=.tup [.sl false [],bv false]) (by simp[upd,A.soft,A.softL]) rfl h1)
  |true=>
   obtain⟨G,hG⟩:∃ G,G=(BB (LX (EZ ki) d) e ((s.drop k).length+1) (s.drop k)).1:=⟨_,rfl⟩;have hat:EZ ki=true→∀ c,c ∈ G→c.kids=[]:=fun hD c hc=>by
    have eR:LX (EZ ki) d=I6 AG:=by rw[hD];rfl
    rw[eR] at hb hG;have:=(Lm (Uj G0) e _ _ _ _ (DE hb)).2.2.2 c (by rw[← hG];exact hc);exact this.2.1
   refine⟨Eg G,EO Fw (by simp) fa (Cb (Ak Lv (Ak Bi Ay))) fun w0 I0 M0 m0 hM=>?_,by rw[hG];rfl⟩;unfold Dw;simp;refine Al 0 he (fun p=>by simp) (by simp) (by simp) ?_;simp;refine LoopC.le (Es 10 [2] 3 (by simp)) ?_;refine LoopC.le (A4 [(0,pp 0),(1,iv ki),(2,Gy e),(3,iv d),(10,.osl [2] 1 3 0 ([]:List T).length)] (by simp[upd])) ?_;refine S0 hs hT ((s.drop k).length+1) k [] 1 _ (by simp) hk (by simp) (fun p=>by simp) (by simp) (fun h=>by rw[hb] at h;cases h) (fun h H' v' h1 h2=>?_);rw[← hG] at h2 ⊢;simp only[List.length_drop] at h1;simp only[List.nil_append] at h2 ⊢;simp;obtain⟨H2,g1,g2⟩:=QN (c:=J4 Tryz.prog w0 I0 M0 48 m0) (s:=lk [(8,.osl [2] v' 3 0 G.length),(9,bv true)]) (H:=H') (fun r=>1≤r) (fun r p b hr=>hM r p b hr) 8 (Eg G) (fun H1 e1=>by
    have e2:H1 [2]=H' [2]:=e1 2 [] (by omega);simp;refine VL (l:=G) (f:=el (EZ ki)) (g:=tA) (by rw[e2,h2];simp) rfl (fun x hx=>?_);cases hD:EZ ki with
    |true=>
     have hk0:=hat hD x hx;simp[Ux,A.soft,A.softL,hk0,A.bare,A.ones,Jy]
    |false=>simp[Ux,A.soft,A.softL,A.bare,A.ones,Jy,NG])
   refine Ia g1 (Bh (r0:=.tup [Eg G,bv true]) (by simp[upd]) rfl (fun p=>?_));exact(g2 0 p (by omega)).trans (h1 p)
theorem ax (t:T):Gb (fun _=>tX t):=Jl (cs:=[iv t.kind,IT t.words,Eg t.kids]) rfl fun x hx=>by simp at hx;rcases hx with rfl | rfl | rfl<;>rfl
theorem NB (t:T) (b:Bool):Gb (fun _=>.tup [tX t,bv b]):=Cb (Ak (ax t) (Ak Bi Ay))
theorem C2 {n:Nat} {w0:World} {I0:Nat→Prop} {M0:Nm→Nat→Prop} {m0:Mu} {H:Hp} {u k':Nat} {s:List UInt8} {cs:List A} {t:T} {b:Bool} (h1:H [1]=⟨u,.cells cs⟩) (hf:∀ H1:Hp,Gv H1 cs [iv t.kind,IT t.words,Eg t.kids]) (hH:∀ p,H (0::p)=(CW s k').F 0 p) :
  KN (J4 Tryz.prog w0 I0 M0 n m0) [.cell 4 25,.tmp 5] 1 (.tup [tX t,bv b]) (ov 0 ((CW s k').F 0) (Dl [])) .ret ⟨lk [(4,.pob [1] u 0),(5,bv b)],H⟩:=by
 obtain⟨H2,g1,g2⟩:=Mg (c:=J4 Tryz.prog w0 I0 M0 n m0) (s:=lk [(4,.pob [1] u 0),(5,bv b)]) (H:=H) (fun _=>False) (fun _ _ _ h=>h.elim) (r0:=1) (p0:=[]) (by simp) h1 (cs':=[iv t.kind,IT t.words,Eg t.kids]) (by simp[A.ones]) (fun H1 _=>hf H1);refine Ia g1 (Bh (r0:=.tup [tX t,bv b]) (by simp[J9,AR]) rfl fun p=>?_);exact(AM (f:=H2) (d:=[1]) (o:=0::p) (x:=(⟨u,.cells [iv t.kind,IT t.words,Eg t.kids]⟩:VOb)) (by simp)).trans ((g2 0 p (fun h=>h)).trans (hH p))
theorem VW (p:List UInt8→T × Bool × Nat) (e:UInt8):∀ (f:Nat) (r:List UInt8),(BB p e f r).2.1=false→(BB p e f r).1=[]
 |0,r,_=>rfl
 |f+1,r,h=>by
  unfold BB at h ⊢;split
  ·rename_i h1;rw[if_pos h1] at h;split
   ·rename_i h2;rw[if_pos h2] at h;cases h
   ·rename_i h2;rw[if_neg h2] at h;split
    ·rename_i h3;rw[if_pos h3] at h;simp only at h ⊢;rw[if_neg (by rw[h];simp)]
    ·rfl
  ·rfl
theorem KK {p:List UInt8→T × Bool × Nat} {e:UInt8} {r:List UInt8} (h:(AB p e r).2.1=false):(AB p e r).1=[]:=by
 unfold AB at h ⊢;split
 ·rfl
 ·rename_i h1;rw[if_neg h1] at h;exact VW p e _ _ h
theorem VZ {G:List T × Bool × Nat} (hG:G.2.1=false→G.1=[]) {x:A} (hx:x=if G.2.1=true then Eg G.1 else .sl false []):∃ b l,x = .sl b l∧∀ H1:Hp,Jr H1 x (Eg G.1):=by
 by_cases hg:G.2.1=true
 ·rw[if_pos hg] at hx;exact⟨_,_,hx,fun H1=>by rw[hx];exact Ad⟩
 ·rw[if_neg hg] at hx;exact⟨_,_,hx,fun H1=>by rw[hx,hG (by simpa using hg)];exact Ad⟩
theorem gh {n:Nat} {w0:World} {I0:Nat→Prop} {M0:Nm→Nat→Prop} {m0:Mu} {d:Nat} (hd:d≤1000) (hT:Ya d) {s:List UInt8} (hs:s.length≤1000000000) {k:Nat} (hk:k≤s.length) {ws:List Int} {fX:Bool} {H:Hp} {cs:List A} (hcs:cs.length=3) (hH:∀ p,H (0::p)=(CW s k).F 0 p) (h1:H [1]=⟨1,.cells cs⟩) (h2:H [2]=⟨1,.cells [iv 1,.sl fX (ws.map uv),.sl true []]⟩)
  {M:T × Bool × Nat} (hM:GX (AB (Az AG d) 125) ws (s.drop k)=M) {k':Nat} (hk':k'=k+M.2.2) :
  WPC (J4 Tryz.prog w0 I0 M0 n m0) CK (KN (J4 Tryz.prog w0 I0 M0 n m0) [.cell 4 25,.tmp 5] 1 (.tup [tX M.1,bv M.2.1]) (ov 0 ((CW s k').F 0) (Dl []))) ⟨lk [(0,pp 0),(1,iv (d+1:Nat)),(4,.pob [1] 1 0),(6,.pob [2] 1 0)],H⟩:=by
 have he:=Ez s k 125 hk hs;have hc:=Ez s k 124 hk hs;obtain⟨a,b,c,rfl⟩:∃ a b c,cs=[a,b,c]:=by
  match cs,hcs with
  |[a,b,c],_=>exact⟨a,b,c,rfl⟩
 have fz:∀ (H1:Hp),Gv H1 [iv 1,.sl fX (ws.map uv),.sl true []] [iv (T.mk 1 ws []).kind,IT (T.mk 1 ws []).words,Eg (T.mk 1 ws []).kids]:=fun H1=>⟨Ab rfl,Ad,Ad,trivial⟩;rw[CK.eq_1];simp;refine Al 0 he hH (by simp) (by simp) ?_;unfold GX at hM;cases hE:A1 (s.drop k) 125 with
 |true=>
  rw[if_pos hE] at hM;subst hM hk';simp[h1,h2,splice];exact C2 (t:=.mk 1 ws []) (by simp) fz (fun p=>by simp[Aa])
 |false=>
  have hE':¬ A1 (s.drop k) 125=true:=by rw[hE];simp
  rw[if_neg hE'] at hM;simp;refine Al 0 hc (fun p=>by simp) (by simp) (by simp) ?_;cases hC:A1 (s.drop k) 124 with
  |false=>
   have hC':¬ A1 (s.drop k) 124=true:=by rw[hC];simp
   rw[if_neg hC'] at hM;subst hM hk';simp;refine Ap rfl ?_;simp[h1,h2,splice];exact C2 (t:=.mk 1 ws []) (by simp) fz (fun p=>by simp[Aa])
  |true=>
   rw[if_pos hC] at hM;have hlt:k+1≤s.length:=by
    rcases Cj s k 124 hk with h | h
    ·exact h.2.1
    ·rw[h.1] at hC;cases hC
   have hn:=Li s (k+1) hlt;rw[List.drop_drop] at hM;have hnx:(s.drop (k+1)).headD 0=Ey (s.drop (k+1)):=rfl;rw[hnx] at hM;simp;rw[FZ];simp;refine Al 0 hn (fun p=>by simp) (by simp) (by simp) ?_;by_cases h5:Ey (s.drop (k+1))=125
   ·rw[if_pos h5] at hM;subst hM hk';rw[h5];simp[h1,h2,splice];exact C2 (t:=.mk 1 ws []) (by simp) fz (fun p=>by simp[Aa])
   ·rw[if_neg h5] at hM;have h5':¬ ((Ey (s.drop (k+1))).toNat:Int)=125:=fun e=>h5 ((u8_inj (b:=125)).1 e);have hD:EZ 1=false:=by decide
    obtain⟨x,hx1,hx2⟩:=Ph (d:=d) (ki:=1) (fun _=>hT) hs (e:=125) hlt;have eR:LX (EZ 1) d=Az AG d:=rfl;rw[eR] at hx1 hx2;have e1:i64.wrap ((d:Int)+1-1)=(d:Int):=DU;simp only[Int.add_sub_cancel] at e1;obtain⟨xb,xl,rfl,hxf⟩:=VZ (fun h=>KK h) hx2;generalize AB (Az AG d) 125 (s.drop (k+1))=G at hM hx1 hxf;subst hM hk';generalize Ey (s.drop (k+1))=nx at h5';simp[h5',e1];refine Al 0 hx1 (fun p=>by simp) (by simp) (by simp) ?_;simp[h1,h2,splice,Aa];exact C2 (t:=.mk 1 ws G.1) (cs:=[iv 1,.sl fX (ws.map uv),.sl xb xl]) (by simp[Aa]) (fun H1=>⟨Ab rfl,Ad,hxf H1,trivial⟩) (fun p=>by simp[Aa,Nat.add_assoc])
theorem VF {d:Nat} (hd:d≤1000) (hT:Ya d) {s:List UInt8} (hs:s.length≤1000000000) {k:Nat} (hk:k≤s.length):FK Tryz.prog 113 (fun r=>[pp r,iv (d+1:Nat)]) (CW s k) (fun _=>.tup [tX (B1 AG (AB (Az AG d) 125) (s.drop k)).1,bv (B1 AG (AB (Az AG d) 125) (s.drop k)).2.1]) (CW s (k+(B1 AG (AB (Az AG d) 125) (s.drop k)).2.2)):=by
 refine EO IW (by simp) (Ak A8 (Ak Bi Ay)) (NB _ _) fun w0 I0 M0 m0 hM=>?_;have he:=Ez s k 125 hk hs;have hn:=Li s k hk;obtain⟨M,hMM⟩:∃ M,M=B1 AG (AB (Az AG d) 125) (s.drop k):=⟨_,rfl⟩;rw[← hMM];unfold B1 at hMM;unfold FG;simp;refine Al 0 he (fun p=>by simp[Aa]) (by simp) (by simp) ?_;cases hE:A1 (s.drop k) 125 with
 |true=>
  rw[if_pos hE] at hMM;subst hMM;simp[splice,Aa];exact C2 (t:=.mk 1 [] []) (cs:=[iv 1,.sl true [],.sl true []]) (by simp[Aa]) (fun H1=>⟨Ab rfl,Ad,Ad,trivial⟩) (fun p=>by simp[Aa])
 |false=>
  have hE':¬ A1 (s.drop k) 125=true:=by rw[hE];simp
  rw[if_neg hE'] at hMM;simp;refine Al 0 hn (fun p=>by simp[Aa]) (by simp) (by simp) ?_;unfold PS at hMM;have hnx:(s.drop k).headD 0=Ey (s.drop k):=rfl;rw[hnx] at hMM;by_cases h4:Ey (s.drop k)=124
  ·have h4n:¬ Ey (s.drop k) ≠ 124:=fun h=>h h4;rw[if_neg h4n] at hMM;rw[h4];simp only[if_true,List.drop_zero,Nat.zero_add] at hMM;simp;refine gh hd hT hs hk (cs:=[iv 0,.sl true [],.sl true []]) (ws:=[]) (fX:=true) rfl (fun p=>by simp[Aa]) (by simp[Aa]) (by simp[Aa]) (M:=M) hMM.symm rfl
  ·rw[if_pos h4] at hMM;have h4':¬ ((Ey (s.drop k)).toNat:Int)=124:=fun e=>h4 ((u8_inj (b:=124)).1 e);obtain⟨x,hx1,hx2,hx3⟩:=Zt hs k hk ((s.drop k).length+1) (by simp);generalize Ey (s.drop k)=nx at h4';simp[h4'];refine Al 0 hx1 (fun p=>by simp) (by simp) (by simp) ?_;generalize hW:Bl AG ((s.drop k).length+1) (s.drop k)=W at hMM hx1 hx2 hx3;cases hb:W.2.1 with
   |false=>
    rw[hb,if_neg (by simp)] at hMM;subst hMM;rw[hx3 hb];simp[splice,Aa];exact C2 (t:=.mk 1 [] []) (cs:=[iv 1,.sl false [],.sl true []]) (by simp[Aa]) (fun H1=>⟨Ab rfl,Ab rfl,Ad,trivial⟩) (fun p=>by simp[Aa])
   |true=>
    rw[if_pos hb] at hMM;have hle:=(NA G0 _ _ _ _ (hW.trans (DE hb))).2.1;rw[List.length_drop] at hle;rw[hx2 hb];rw[List.drop_drop] at hMM;obtain⟨M',hM'⟩:∃ M',GX (AB (Az AG d) 125) W.1 (s.drop (k+W.2.2))=M':=⟨_,rfl⟩;rw[hM'] at hMM;subst hMM;simp[splice,Aa];exact gh hd hT hs (k:=k+W.2.2) (by omega) (cs:=[iv 0,.sl true [],.sl true []]) (ws:=W.1) (fX:=false) rfl (fun p=>by simp[Aa]) (by simp[Aa]) (by simp[Aa]) hM' (by omega)
theorem Vr:∀ (f k:Nat) {s:List UInt8},k≤s.length→(Bl AG f (s.drop k)).2.2≤s.length-k
 |0,k,s,hk=>by simp[Bl]
 |f+1,k,s,hk=>by
  have h1:=PZ (s.drop k);rw[List.length_drop] at h1;unfold Bl;split
  ·split
   ·rename_i hc;obtain⟨c1,_⟩:=BF hc;rw[List.drop_drop];have:=Vr f (k+((AG (s.drop k)).2.2+1)) (s:=s) (by simp at c1;omega);simp at c1 ⊢;omega
   ·simpa using h1
  ·simpa using h1
theorem aZ {d:Nat} (hT:Ya d) {s:List UInt8} (hs:s.length≤1000000000) (ws:List Int) {k:Nat} (hk:k≤s.length):(GX (AB (Az AG d) 125) ws (s.drop k)).2.2≤s.length-k:=by
 unfold GX;split
 ·rename_i hc;obtain⟨c1,_⟩:=BF (k:=0) (by simpa using hc);simp at c1 ⊢; omega
 ·split
  ·rename_i hc;obtain⟨c1,_⟩:=BF (k:=0) (by simpa using hc);split
   ·simp at c1 ⊢; omega
   ·have:=S3 (d:=d) (D:=false) (fun _=>hT) hs 125 (k:=k+1) (by simp at c1;omega);rw[List.drop_drop];have eR:LX false d=Az AG d:=rfl;rw[eR] at this;simp at c1 ⊢;omega
  ·simp
theorem WK {d:Nat} (hT:Ya d) {s:List UInt8} (hs:s.length≤1000000000) {k:Nat} (hk:k≤s.length):(B1 AG (AB (Az AG d) 125) (s.drop k)).2.2≤s.length-k:=by
 have hw:(PS AG (s.drop k)).2.2≤s.length-k:=by
  unfold PS;split
  ·exact Vr _ k hk
  ·simp
 unfold B1;split
 ·rename_i hc;obtain⟨c1,_⟩:=BF (k:=0) (by simpa using hc);simp at c1 ⊢; omega
 ·split
  ·rw[List.drop_drop];have:=aZ hT hs (PS AG (s.drop k)).1 (k:=k+(PS AG (s.drop k)).2.2) (by omega);simp;omega
  ·exact hw
theorem bc {d:Nat} (hT:Ya d) {s:List UInt8} (hs:s.length≤1000000000) {k:Nat} (hk:k≤s.length):(Az AG (d+1) (s.drop k)).2.2≤s.length-k:=by
 rw[Fx];split
 ·rename_i hc;obtain⟨c1,_⟩:=BF (k:=0) (by simpa using hc);simp at c1 ⊢; omega
 ·split
  ·rename_i hc;obtain⟨c1,_⟩:=BF (k:=0) (by simpa using hc);rw[List.drop_drop];have:=WK hT hs (k:=k+1) (by simp at c1;omega);simp at c1 ⊢;omega
  ·split
   ·simp
   ·rename_i hl;have hlt:k<s.length:=by
     apply Nat.lt_of_not_le;intro h;rw[List.drop_of_length_le h] at hl;exact hl (by decide)
    split
    ·rename_i hc;obtain⟨c1,_⟩:=BF hc;have:=S3 (d:=d) (D:=EZ (FH ((s.drop k).headD 0))) (fun _=>hT) hs 93 (k:=k+2) (by simp at c1;omega);rw[List.drop_drop];unfold LX at this;simp only[List.length_drop] at c1;show 2+_≤_;omega
    ·simp;omega
theorem ZS {d:Nat} {r:List UInt8} (h:(Az AG d r).2.1=true):0<(Az AG d r).2.2:=by
 obtain⟨h1,h2,_⟩:=Jq G0 d _ _ _ (DE h);apply Nat.pos_of_ne_zero;intro e;rw[e] at h1;exact Js _ (by rw[← h1];simp)
theorem dc:Ya 0:=fun {s} hs k hk=>by
 have he:=Ez s k 95 hk hs;rw[JA];cases hE:A1 (s.drop k) 95 with
 |true=>
  have hlt:k<s.length:=by
   rcases Cj s k 95 hk with h | h
   ·exact h.2.1
   ·rw[h.1] at hE;cases hE
  rw[hE] at he;simp only[if_true];refine⟨by omega,fun _=>by omega,EO Fo (by simp) (Ak A8 (Ak Bi Ay)) (NB _ _) fun w0 I0 M0 m0 hM=>?_⟩;unfold DD;simp;refine Al 0 he (fun p=>by simp[Aa]) (by simp) (by simp) ?_;simp[splice,Aa];exact C2 (t:=T0) (cs:=[iv 0,.sl true [],.sl true []]) (by simp[Aa]) (fun H1=>⟨Ab rfl,Ad,Ad,trivial⟩) (fun p=>by simp[Aa])
 |false=>
  rw[hE] at he;simp only[Bool.false_eq_true,if_false];refine⟨by omega,(fun h=>by cases h),EO Fo (by simp) (Ak A8 (Ak Bi Ay)) (NB _ _) fun w0 I0 M0 m0 hM=>?_⟩;unfold DD;simp;refine Al 0 he (fun p=>by simp[Aa]) (by simp) (by simp) ?_;simp[splice,Aa];exact C2 (t:=T0) (cs:=[iv 0,.sl true [],.sl true []]) (by simp[Aa]) (fun H1=>⟨Ab rfl,Ad,Ad,trivial⟩) (fun p=>by simp[Aa])
theorem dN {K:Int} (h1:2≤K) (h2:K≤9):A9 K ≠ 46:=by
 have:∀ k:Nat,k<10→2≤k→A9 (k:Int) ≠ 46:=by decide
 have:=this K.toNat (by omega) (by omega)
 rwa [Int.toNat_of_nonneg (by omega)] at this
theorem aX {d:Nat} (hd:d≤1000) (hT:Ya d):Ya (d+1):=fun {s} hs k hk=>by
 refine⟨bc hT hs hk,ZS,?_⟩;have he:=Ez s k 95 hk hs;have hst:=Ez s k 123 hk hs;have hn:=Li s k hk;refine EO Fo (by simp) (Ak A8 (Ak Bi Ay)) (NB _ _) fun w0 I0 M0 m0 hM=>?_;obtain⟨M,hMM⟩:∃ M,M=Az AG (d+1) (s.drop k):=⟨_,rfl⟩;rw[← hMM];rw[Fx] at hMM;unfold DD;simp;refine Al 0 he (fun p=>by simp[Aa]) (by simp) (by simp) ?_;cases hE:A1 (s.drop k) 95 with
 |true=>
  rw[if_pos hE] at hMM;subst hMM;simp[splice,Aa];exact C2 (t:=T0) (cs:=[iv 0,.sl true [],.sl true []]) (by simp[Aa]) (fun H1=>⟨Ab rfl,Ad,Ad,trivial⟩) (fun p=>by simp[Aa])
 |false=>
  rw[if_neg (by rw[hE];simp)] at hMM;simp[show ¬ (d:Int)+1=0 by omega];refine Al 0 hst (fun p=>by simp[Aa]) (by simp) (by simp) ?_;cases hS:A1 (s.drop k) 123 with
  |true=>
   rw[if_pos hS,List.drop_drop] at hMM;have hlt:k+1≤s.length:=by
    rcases Cj s k 123 hk with h | h
    ·exact h.2.1
    ·rw[h.1] at hS;cases hS
   have hstr:=VF hd hT hs hlt;generalize B1 AG (AB (Az AG d) 125) (s.drop (k+1))=G at hMM hstr;subst hMM;simp;refine Al 0 hstr (fun p=>by simp[Aa]) (by simp) (by simp) ?_;simp[splice,Aa];exact C2 (t:=G.1) (cs:=[iv G.1.kind,IT G.1.words,Eg G.1.kids]) (by simp[Aa]) (fun H1=>⟨Ab rfl,Ab rfl,Ab rfl,trivial⟩) (fun p=>by simp[Aa,Nat.add_assoc])
  |false=>
   rw[if_neg (by rw[hS];simp)] at hMM;have hnx:(s.drop k).headD 0=Ey (s.drop k):=rfl;rw[hnx] at hMM;have hidx:=Kz letters (Ey (s.drop k));have hlV:GO letters (Ey (s.drop k))=FH (Ey (s.drop k)):=rfl;rw[hlV] at hidx;simp;refine Al 0 hn (fun p=>by simp[Aa]) (by simp) (by simp) ?_;simp;refine Af hidx rfl ?_;by_cases hl:FH (Ey (s.drop k))<2
   ·rw[if_pos hl] at hMM;subst hMM;generalize FH (Ey (s.drop k))=K at hl;simp[hl];refine Ap rfl ?_;simp[splice,Aa];exact C2 (t:=T0) (cs:=[iv 0,.sl true [],.sl true []]) (by simp[Aa]) (fun H1=>⟨Ab rfl,Ad,Ad,trivial⟩) (fun p=>by simp[Aa])
   ·rw[if_neg hl] at hMM;obtain⟨l1,l2,l3⟩:=Xn hl;have hlt:k+1≤s.length:=by
     apply Nat.lt_of_not_le;intro h;rw[List.drop_of_length_le h] at hl;exact hl (by decide)
    have h46:¬ ((Ey (s.drop k)).toNat:Int)=46:=fun e=>dN l1 l2 (by rw[l3];exact(u8_inj (b:=46)).1 e);have hb:=Ez s (k+1) 91 hlt hs;have e1:=A7 k;rw[List.drop_drop] at hMM;generalize hK:FH (Ey (s.drop k))=K at hMM hl l1 l2 l3;simp[hl];rw[FZ];simp;refine Al 0 hn (fun p=>by simp[Aa]) (by simp) (by simp) ?_;simp[h46,e1];refine Al 0 hb (fun p=>by by_cases hp:p=[]<;>simp[Aa,hp]) (by simp) (by simp) ?_;cases hB:A1 (s.drop (k+1)) 91 with
    |false=>
     rw[if_neg (by rw[hB];simp)] at hMM;subst hMM;simp[splice,Aa];exact C2 (t:=T0) (cs:=[iv 0,.sl true [],.sl true []]) (by simp[Aa]) (fun H1=>⟨Ab rfl,Ad,Ad,trivial⟩) (fun p=>by simp[Aa])
    |true=>
     rw[if_pos hB,List.drop_drop] at hMM;have hlt2:k+1+1≤s.length:=by
      rcases Cj s (k+1) 91 hlt with h | h
      ·exact h.2.1
      ·rw[h.1] at hB;cases hB
     obtain⟨x,hx1,hx2⟩:=Ph (d:=d) (ki:=K) (fun _=>hT) hs (e:=93) hlt2;have eR:LX (EZ K) d=if EZ K=true then I6 AG else Az AG d:=rfl
     rw[eR] at hx1 hx2;rw[show k+2=k+1+1 by omega] at hMM;obtain⟨xb,xl,rfl,hxf⟩:=VZ (fun h=>KK h) hx2;generalize AB (if EZ K=true then I6 AG else Az AG d) 93 (s.drop (k+1+1))=G at hMM hx1 hxf;subst hMM;have e2:i64.wrap (d:Int)=(d:Int):=EK;simp[e2];refine Al 0 hx1 (fun p=>by simp[Aa]) (by simp) (by simp) ?_;simp[splice,Aa];exact C2 (t:=.mk K [] G.1) (cs:=[iv K,.sl true [],.sl xb xl]) (by simp[Aa]) (fun H1=>⟨Ab rfl,Ad,hxf H1,trivial⟩) (fun p=>by rw[show k+(2+G.2.2)=k+1+1+G.2.2 by omega];simp[Aa])
theorem XY:∀ d:Nat,d≤1000→Ya d
 |0,_=>dc
 |d+1,h=>aX (by omega) (XY d (by omega))
theorem Ii {α:Type} (f:α→List UInt8):∀ (l:List α) (x:α),x ∈ l→(f x).length≤(Ag (l.map f)).length
 |[],x,h=>by simp at h
 |[y],x,h=>by simp at h;rw[h];simp
 |y::z::l,x,h=>by
  rw[List.map_cons,DL (by simp)];rcases List.mem_cons.1 h with rfl | h
  ·simp
  ·have:=Ii f (z::l) x h;simp at this ⊢;omega
theorem Hm:∀ (d:Nat) (t:T),Cd d t→(Ah t).length≤1000000000→Gc t
 |0,t,h,_=>by
  have h:t=T0:=h;subst h;rw[wfT_iff];exact⟨by simp[AU],by simp,by simp,by simp,by simp⟩
 |d+1,t,h,hl=>by
  rcases h with rfl | ⟨h1,h2,h3⟩ | ⟨h1,h2,h3,h4⟩
  ·rw[wfT_iff];exact⟨by simp[AU],by simp,by simp,by simp,by simp⟩
  ·obtain⟨k,w,l⟩:=t;simp at h1 h2 h3;subst h1;rw[AO,if_neg (by omega),if_pos rfl] at hl;have hw:=Jk (fun x:Int=>Am x.toNat) w (fun x _=>Dc _);have hk:l.length≤1000000000∧∀ c,c ∈ l→(Ah c).length≤1000000000:=by
    by_cases hne:l=[]
    ·subst hne;simp
    ·rw[if_neg hne] at hl;have:=Jk Ah l (fun x hx=>by have:=Js x;cases hq:Ah x with | nil=>exact(this hq).elim | cons a b=>simp);simp at hl;refine⟨by omega,fun c hc=>?_⟩;have:=Ii Ah l c hc;omega
   simp at hl;rw[wfT_iff];exact⟨by simp[AU],fun x hx=>h2 x hx,by simp;omega,by simp;omega,fun c hc=>Hm d c (h3 c hc) (hk.2 c hc)⟩
  ·obtain⟨k,w,l⟩:=t;simp at h1 h2 h3 h4;subst h3;rw[AO,if_neg (by omega),if_neg (by omega),if_pos ⟨h1,h2⟩] at hl;simp at hl;have:=Jk Ah l (fun x hx=>by have:=Js x;cases hq:Ah x with | nil=>exact(this hq).elim | cons a b=>simp);rw[wfT_iff];refine⟨by simp[AU];omega,by simp,by simp,by simp;omega,fun c hc=>?_⟩;have hc':if EZ k=true then IE c else Cd d c:=h4 c hc
   have hcl:=Ii Ah l c hc;by_cases hD:EZ k=true
   ·rw[if_pos hD] at hc';obtain⟨n,rfl,hn,_⟩:=OE hc';rw[wfT_iff];exact⟨by simp[AU],by simp[D5];omega,by simp,by simp,by simp⟩
   ·rw[if_neg hD] at hc';exact Hm d c hc' (by omega)
theorem CF:∀ (d:Nat) (t:T),Gc t→Ax d t=true→t.kind ≠ 10→Cd d t
 |0,t,hw,h,hk=>by
  obtain⟨k,w,l⟩:=t;simp at hk;rw[C4] at h;split at h
  ·rename_i h0;simp at h;rw[h0,h.1,h.2];rfl
  ·simp[hk,Cf] at h
 |d+1,t,hw,h,hk=>by
  have hW:=wfT_iff.1 hw;obtain⟨k,w,l⟩:=t;simp at hk;have hs:=LQ h;rw[C4] at h;split at h
  ·rename_i h0;simp at h;rw[h0,h.1,h.2];exact .inl rfl
  ·rename_i h0;split at h
   ·cases h
   ·rename_i hb;simp[Cf] at hb;by_cases h1:k=1
    ·subst h1;refine .inr (.inl ⟨rfl,fun x hx=>hW.w x hx,fun c hc=>CF d c (hW.ks c hc) (hs c hc).1 ?_⟩);have:=(hs c hc).2;simp[DW,Cc] at this;exact this
    ·refine .inr (.inr ⟨by simp;omega,by simp;omega,?_,fun c hc=>?_⟩)
     ·simp;rcases Nat.eq_zero_or_pos w.length with e | e
      ·exact List.eq_nil_of_length_eq_zero e
      ·have:=hb.2 (by omega);simp[this] at e
     ·have hc2:=hs c hc;have hD:Cc k=EZ k:=rfl;by_cases hDk:EZ k=true
      ·simp only[T.kind_mk,hDk,if_true];have h10:c.kind=10:=by
        have:=hc2.2;simp[DW,hD,hDk] at this;exact this.1.1
       have hcW:=wfT_iff.1 (hW.ks c hc);obtain⟨ck,cw,cl⟩:=c;simp at h10;subst h10;have:=hc2.1;rw[C4] at this;simp at this;obtain⟨x,rfl⟩:∃ x,cw=[x]:=List.length_eq_one_iff.1 this.1;have hx:=hcW.w x (by simp);unfold D5 at hx;exact⟨rfl,this.2,x.toNat,by simp;omega,by omega⟩
      ·show(if EZ k=true then IE c else Cd d c);rw[if_neg hDk];refine CF d c (hW.ks c hc) hc2.1 ?_;have:=hc2.2;simp[DW,hD,hDk] at this;exact this.1
def Kb (num:List UInt8→Nat × Bool × Nat) (s:List UInt8):Bool:=(Az num 64 s).2.1&&decide ((Az num 64 s).2.2=s.length)&&Ax 64 (Az num 64 s).1
def A0 (num:List UInt8→Nat × Bool × Nat) (s:List UInt8):T:=if Kb num s=true then (Az num 64 s).1 else T0
theorem Qb {s:List UInt8} (hs:s.length≤1000000000):G.Spec Tryz.prog 81 [S s] (.tup [tX (A0 AG s),iv (if Kb AG s=true then 0 else 11)]):=by
 obtain⟨hle,_,hT⟩:=XY 64 (by omega) hs 0 (by omega);rw[List.drop_zero,Nat.zero_add] at hT;rw[List.drop_zero] at hle;refine Aj Tr (by simp) fun w0 I0=>?_;have hwf:(Az AG 64 s).2.1=true→Gc (Az AG 64 s).1:=fun h=>by
  obtain⟨h1,h2,h3⟩:=Jq G0 64 s _ _ (DE h);refine Hm 64 _ h3 ?_;rw[← h1];simp;omega
 unfold A0 Kb;generalize Az AG 64 s=M at hT hle hwf;unfold Np;simp;refine Al 1 hT (fun p=>?_) (by simp) (by simp) ?_
 ·by_cases hp:p=[]
  ·subst hp;simp[Dl]
  ·simp[Dl,hp,Ne.symm hp]
 cases hb:M.2.1 with
 |false=>
  simp;refine Ap rfl ?_;simp[splice,Aa];exact AF ⟨FT,Ab rfl,trivial⟩
 |true=>
  by_cases hl:M.2.2=s.length
  ·have hR:=J1 (hwf hb);simp[hl];rw[FZ];simp;refine Af hR rfl ?_;cases hr:Ax 64 M.1 with
   |true=>
    simp[splice,Aa];exact AF ⟨Ab rfl,Ab rfl,trivial⟩
   |false=>
    simp[splice,Aa];exact AF ⟨FT,Ab rfl,trivial⟩
  ·have hl2:M.2.2<s.length:=by omega
   simp[hl,hl2];refine Ap rfl ?_;simp[splice,Aa];exact AF ⟨FT,Ab rfl,trivial⟩
theorem oV (m:Nat) (h:m<16):(([48,49,50,51,52,53,54,55,56,57,97,98,99,100,101,102]:List UInt8).drop m).take 1=[Ji m]:=by
 have:∀ m:Nat,m<16→(([48,49,50,51,52,53,54,55,56,57,97,98,99,100,101,102]:List UInt8).drop m).take 1=[Ji m]:=by decide
 exact this m h
theorem Ar {l m:List UInt8} (h:l.length+m.length≤9223372036854775807):TX .add ⟨l.toArray⟩ ⟨m.toArray⟩=some (S (l++m)):=by
 unfold TX;simp[h]
theorem Xe {n:Nat} (h:n<18446744073709551616):(Am n).length≤16:=Jb 16 n (by omega) (by omega)
theorem FA:∀ n:Nat,n<18446744073709551616→G.Spec Tryz.prog 26 [uv n] (S (Am n)):=by
 intro n;induction n using Nat.strongRecOn with
 |_ n ih=>
  intro hn;refine Aj OQ (by simp) fun w0 I0=>?_;unfold Je;obtain⟨m,hm⟩:∃ m,m=n % 16:=⟨_,rfl⟩;have hm16:m<16:=by omega
  have e0:(n:Int).tmod 16=(m:Int):=by rw[Int.tmod_eq_emod_of_nonneg (by omega)];omega
  have e1:u64.wrap ((m:Int)+1)=((m+1:Nat):Int):=by rw[AX (by omega) (by omega)];omega
  have hd:=oV m hm16;by_cases h16:n<16
  ·have:m=n:=by omega
   subst this;have g1:(0:Int)≤(m:Int)+1:=by omega
   have g2:(m:Int)+1≤16:=by omega
   simp[e0,e1,show(m:Int)<16 by omega,g1,g2,hd,show(m:Int)≤m+1 by omega];rw[Ce h16];exact Ab rfl
  ·obtain⟨q,hq⟩:∃ q,q=n / 16:=⟨_,rfl⟩;have e2:u64.wrap ((n:Int).tdiv 16)=(q:Int):=by
    rw[Int.tdiv_eq_ediv_of_nonneg (by omega),AX (by omega) (by omega)];omega
   have g1:(0:Int)≤(m:Int)+1:=by omega
   have g2:(m:Int)+1≤16:=by omega
   have g3:u64.wrap ((n:Int) / 16)=(q:Int):=by rw[AX (by omega) (by omega)];omega
   have hcall:=ih q (by omega) (by omega);have hl:=Xe (n:=q) (by omega);simp[e0,e1,show ¬ (n:Int)<16 by omega,g3,g1,g2,hd,show(m:Int)≤m+1 by omega];refine Af hcall rfl ?_;rw[Gw (n:=n) (by omega),← hq,← hm];simp[Ar (l:=Am q) (m:=[Ji m]) (by simp;omega)];exact Ab rfl
def kV (t:T):Prop:=G.Spec Tryz.prog 25 [tX t] (S (Ah t))
theorem hU (m:Nat) (h:m<10) (h2:2≤m):(([46,46,118,98,121,116,102,101,112,99]:List UInt8).drop m).take 1=[A9 m]:=by
 have:∀ m:Nat,m<10→2≤m→(([46,46,118,98,121,116,102,101,112,99]:List UInt8).drop m).take 1=[A9 m]:=by decide
 exact this m h h2
theorem bH {w0:World} {I0:Nat→Prop} {n0:Nat} {Q:Exit→Sta→Prop} {ks:List T} {H:Hp} (hks:ks.length*56≤140737488355328) (ih:∀ c,c ∈ ks→kV c) (hl:(Ag (ks.map Ah)).length≤70368744177664) (hq:Q (.exit 0) ⟨lk [(0,Eg ks),(3,S (Ag (ks.map Ah))),(4,iv ks.length),(8,bv false)],H⟩):∀ (m i:Nat),i+m=ks.length →
  LoopC (cx Tryz.prog w0 I0 n0) DA Q ⟨lk [(0,Eg ks),(3,S (Ag ((ks.take i).map Ah))),(4,iv i)],H⟩:=by
 intro m;induction m with
 |zero=>
  intro i hi;have:i=ks.length:=by omega
  subst this;refine Ae mixed DA.eq_1 ?_;simp;exact hq
 |succ m ihm=>
  intro i hi;have hlt:i<ks.length:=by omega
  have hw:=La Ah ks i hlt;have hle:=FU Ah ks m (i+1) (by omega);have e1:=A7 i;have hP:=ih _ (B0 hlt);have hgo:=ihm (i+1) (by omega);rw[hw] at hle hgo;refine Ae mixed DA.eq_1 ?_;by_cases h0:i=0
  ·subst h0;simp only[if_true] at hle hgo;simp at e1;simp[hlt];refine Af hP rfl ?_;simp[Ar (l:=[]) (m:=Ah ks[0]) (by simp;omega),e1];exact hgo
  ·rw[if_neg h0] at hle hgo;have hpos:0<i:=by omega
   generalize Ag ((ks.take i).map Ah)=J at hle hgo ⊢;simp only[List.length_append,List.length_cons] at hle;simp[hlt,hpos,Ar (l:=J) (m:=[44]) (by simp;omega)];refine Af hP rfl ?_;simp[Ar (l:=J++[44]) (m:=Ah ks[i]) (by simp;omega),e1];exact hgo
theorem RD {ks:List T} (hks:ks.length*56≤140737488355328) (ih:∀ c,c ∈ ks→kV c) (hl:(Ag (ks.map Ah)).length≤70368744177664):G.Spec Tryz.prog 42 [Eg ks] (S (Ag (ks.map Ah))):=by
 refine Aj M6 (by simp) fun w0 I0=>?_;unfold HW;simp;refine bH hks ih hl ?_ ks.length 0 (by omega);simp;exact Ab rfl
theorem Y5 {w0:World} {I0:Nat→Prop} {n0:Nat} {Q:Exit→Sta→Prop} {t:T} (hW:sq t) (hl:(Ag (t.words.map fun x=>Am x.toNat)).length≤70368744177664) {H:Hp} (hH:H [0]=⟨1,.cells [iv t.kind,IT t.words,Eg t.kids]⟩)
  (hq:Q (.exit 0) ⟨lk [(1,.pob [0] 1 0),(3,S (123::Ag (t.words.map fun x=>Am x.toNat))),(4,iv t.words.length),(35,bv false)],H⟩):∀ (m i:Nat),i+m=t.words.length →
  LoopC (cx Tryz.prog w0 I0 n0) CT Q ⟨lk [(1,.pob [0] 1 0),(3,S (123::Ag ((t.words.take i).map fun x=>Am x.toNat))),(4,iv i)],H⟩:=by
 intro m;induction m with
 |zero=>
  intro i hi;have:i=t.words.length:=by omega
  subst this;refine Ae mixed CT.eq_1 ?_;simp[hH];exact hq
 |succ m ihm=>
  intro i hi;have hlt:i<t.words.length:=by omega
  have hw:=La (fun x:Int=>Am x.toNat) t.words i hlt;have hle:=FU (fun x:Int=>Am x.toNat) t.words m (i+1) (by omega);have hwl:=hW.wl;have e1:=A7 i;have hx:=hW.w _ (B0 hlt);unfold D5 at hx;have hP:=FA t.words[i].toNat (by omega);rw[Int.toNat_of_nonneg hx.1] at hP;have hgo:=ihm (i+1) (by omega);rw[hw] at hle hgo;refine Ae mixed CT.eq_1 ?_;by_cases h0:i=0
  ·subst h0;simp only[if_true] at hle hgo;simp at e1;simp[hlt,hH];rw[EY.eq_1];simp[hlt,hH];refine Af hP rfl ?_;simp[Ar (l:=[123]) (m:=Am t.words[0].toNat) (by simp;omega),e1];exact hgo
  ·rw[if_neg h0] at hle hgo;have hpos:0<i:=by omega
   generalize Ag ((t.words.take i).map fun x=>Am x.toNat)=J at hle hgo ⊢;simp only[List.length_append,List.length_cons] at hle;simp[hlt,hH,hpos,Ar (l:=123::J) (m:=[44]) (by simp;omega)];rw[EY.eq_1];simp[hlt,hH];refine Af hP rfl ?_;simp[Ar (l:=123::(J++[44])) (m:=Am t.words[i].toNat) (by simp;omega),e1];simp at hgo;exact hgo
theorem Ig:∀ t:T,Gc t→∀ d,Ax d t=true→(Ah t).length≤70368744177664→kV t:=by
 refine T.ind fun k w ks ih hwf d hr hl=>?_;have hW:=wfT_iff.1 hwf;have hkl:=hW.kl;simp at hkl;have hkr:=LQ hr;rw[C4] at hr;unfold kV;rw[AO] at hl ⊢;refine Aj L3 (by simp) fun w0 I0=>?_;unfold HN;by_cases h0:k=0
 ·subst h0;simp;exact Ab rfl
 ·rw[if_neg h0] at hr;by_cases h10:k=10
  ·subst h10;simp at hr;obtain⟨x,rfl⟩:∃ x,w=[x]:=List.length_eq_one_iff.1 hr.1;have hx:=hW.w x (by simp);unfold D5 at hx;have hP:=FA x.toNat (by omega);rw[Int.toNat_of_nonneg hx.1] at hP;simp;refine Af hP rfl ?_;simp;exact Ab rfl
  ·rw[if_neg h10] at hr;have hb:Cf k d w.length ks.length=false:=by
    by_cases e:Cf k d w.length ks.length=true
    ·rw[if_pos e] at hr;cases hr
    ·simpa using e
   simp[Cf] at hb;rw[if_neg (fun e=>h10 e.1)] at hl ⊢;have mem:∀ c,c ∈ ks→(Ag (ks.map Ah)).length≤70368744177664→kV c:=fun c hc hj=>ih c hc (hW.ks c hc) _ (hkr c hc).1 (Nat.le_trans (Ii Ah ks c hc) hj);by_cases h1:k=1
   ·rw[if_pos h1] at hl ⊢;subst h1;simp only[List.length_cons,List.length_append] at hl;simp;refine Y5 hW (by simp;omega) (by simp) ?_ w.length 0 (by simp);simp only[T.words_mk];by_cases hks:ks=[]
    ·subst hks;generalize Ag (w.map fun x=>Am x.toNat)=W at hl ⊢;simp[Ar (l:=123::W) (m:=[125]) (by simp;omega)];exact Ab rfl
    ·have hpos:0<ks.length:=List.length_pos_iff.2 hks;rw[if_neg hks] at hl ⊢;simp only[List.length_cons] at hl;have hJ:=RD hkl (fun c hc=>mem c hc (by omega)) (by omega);generalize Ag (w.map fun x=>Am x.toNat)=W at hl ⊢;generalize Ag (ks.map Ah)=J at hl hJ ⊢;simp[hpos,Ar (l:=123::W) (m:=[124]) (by simp;omega)];refine Af hJ rfl ?_;simp[Ar (l:=123::(W++[124])) (m:=J) (by simp;omega),Ar (l:=123::(W++124::J)) (m:=[125]) (by simp;omega)];exact Ab rfl
   ·rw[if_neg h1] at hl ⊢;have h2:2≤k∧k≤9:=by omega
    rw[if_pos h2] at hl ⊢;simp only[List.length_cons,List.length_append] at hl;have hJ:=RD hkl (fun c hc=>mem c hc (by omega)) (by omega);have hg:=PH k h2.1 h2.2;obtain⟨m,rfl⟩:∃ m:Nat,k=(m:Int):=⟨k.toNat,by omega⟩;have hd:=hU m (by omega) (by omega);have e1:=A7 m;have g1:(0:Int)≤(m:Int)+1:=by omega
    have g2:(m:Int)+1≤10:=by omega
    have g3:¬ m=0:=by omega
    have g4:¬ (m:Int)=10:=by omega
    have g5:1<(m:Int):=by omega
    have g6:(m:Int)≤m+1:=by omega
    have g7:1<m:=by omega
    generalize hjj:Ag (ks.map Ah)=J at hJ hl ⊢;simp[g3,g4,g5,g7,e1,g1,g2,g6,hd,Ar (l:=[A9 m]) (m:=[91]) (by simp)];refine Af hJ rfl ?_;simp[Ar (l:=[A9 m,91]) (m:=J) (by simp;omega),Ar (l:=A9 m::91::J) (m:=[93]) (by simp;omega)];exact Ab rfl
theorem Lu {n:Int} (h0:0≤n) (h1:n<256):IntKind.u8.wrap n=n:=by rw[IntKind.wrap_u8];omega
theorem fD {w0:World} {I0:Nat→Prop} {n0:Nat} {Q:Exit→Sta→Prop} {H:Hp} {s:List UInt8} (hs:s.length≤1000000000) {at':Nat}:∀ (c i n:Nat),i+c=at'+17→at'≤i→i≤s.length→n<18446744073709551616 →
  (Q (.exit 0) ⟨lk [(0,S s),(1,iv at'),(7,uv (Bo c n (s.drop i)).1),(8,iv (i+(Bo c n (s.drop i)).2:Nat)),(20,bv false)],H⟩) →
  (Q (.exit 0) ⟨lk [(0,S s),(1,iv at'),(7,uv (Bo c n (s.drop i)).1),(8,iv (i+(Bo c n (s.drop i)).2:Nat)),(45,bv false)],H⟩) →
  LoopC (cx Tryz.prog w0 I0 n0) BE Q ⟨lk [(0,S s),(1,iv at'),(7,uv n),(8,iv i)],H⟩:=by
 intro c;induction c with
 |zero=>
  intro i n hi hai hle hn hq hq2;have hsub:i64.wrap ((i:Int)-at')=17:=DU;refine Ae mixed BE.eq_1 ?_;by_cases h:i<s.length
  ·simp[h,hsub];exact hq
  ·simp[h];exact hq
 |succ c ih=>
  intro i n hi hai hle hn hq hq2;have hsub:i64.wrap ((i:Int)-at')=(i:Int)-at':=EK;by_cases h:i<s.length
  ·rw[BR h] at hq hq2;rw[Bo] at hq hq2;have hi1:(i:Int)-at'<17:=by omega
   have e8:=A7 i;have hgx:s[i]? = some s[i]:=List.getElem?_eq_getElem h;have hxl:=(s[i]).toNat_lt;refine Ae mixed BE.eq_1 ?_;generalize hx:s[i]=x at hq hq2 hxl hgx;have step:∀ d:Nat,Bg x=some d→WPC (cx Tryz.prog w0 I0 n0) Eo (Ci 1 (Dn (LoopC (cx Tryz.prog w0 I0 n0) BE Q) Q)) ⟨lk [(0,S s),(1,iv at'),(7,uv n),(8,iv i),(9,iv d)],H⟩:=fun d hd=>by
    have hd16:=(Gl hd).1;simp only[hd] at hq hq2;have e7:u64.wrap (u64.wrap ((n:Int)*16)+d)=(((n*16+d) % 18446744073709551616:Nat):Int):=by
     rw[IntKind.wrap_u64,IntKind.wrap_u64];omega
    have e9:u64.wrap (d:Int)=d:=AX (by omega) (by omega);have hgo:=ih (i+1) ((n*16+d) % 18446744073709551616) (by omega) (by omega) (by omega) (by omega) (by rw[Nat.add_assoc,Nat.add_comm 1];exact hq) (by rw[Nat.add_assoc,Nat.add_comm 1];exact hq2);rw[Eo.eq_1];simp[e9,e7,e8];exact hgo
   by_cases c1:48≤x.toNat∧x.toNat≤57
   ·have hv:Bg x=some (x.toNat-48):=by unfold Bg;rw[if_pos c1]
    have w1:IntKind.u8.wrap ((x.toNat:Int)-48)=((x.toNat-48:Nat):Int):=by rw[Lu (by omega) (by omega)];omega
    have w2:i64.wrap ((x.toNat-48:Nat):Int)=((x.toNat-48:Nat):Int):=EK;have hst:=step _ hv;simp[h,hsub,hi1,hx,show 48≤(x.toNat:Int) by omega,show(x.toNat:Int)≤57 by omega,w1,w2];exact hst
   ·by_cases c2:97≤x.toNat∧x.toNat≤102
    ·have hv:Bg x=some (x.toNat-87):=by unfold Bg;rw[if_neg c1,if_pos c2]
     have w1:IntKind.u8.wrap ((x.toNat:Int)-97)=((x.toNat-97:Nat):Int):=by rw[Lu (by omega) (by omega)];omega
     have w2:i64.wrap ((x.toNat-97:Nat):Int)=((x.toNat-97:Nat):Int):=EK;have w3:i64.wrap (((x.toNat-97:Nat):Int)+10)=((x.toNat-87:Nat):Int):=DU;have hst:=step _ hv;simp[h,hsub,hi1,hx,show 48≤(x.toNat:Int) by omega,show ¬ (x.toNat:Int)≤57 by omega,show 97≤(x.toNat:Int) by omega,show(x.toNat:Int)≤102 by omega,w1,w2,w3];exact hst
    ·have hv:Bg x=none:=by unfold Bg;rw[if_neg c1,if_neg c2]
     simp only[hv] at hq hq2;simp only[Nat.add_zero] at hq hq2;by_cases d1:48≤x.toNat
     ·have d2:¬ x.toNat≤57:=fun e=>c1 ⟨d1,e⟩;by_cases d3:97≤x.toNat
      ·have d4:¬ x.toNat≤102:=fun e=>c2 ⟨d3,e⟩;simp[h,hsub,hi1,hx,show 48≤(x.toNat:Int) by omega,show ¬ (x.toNat:Int)≤57 by omega,show 97≤(x.toNat:Int) by omega,show ¬ (x.toNat:Int)≤102 by omega];exact hq2
      ·simp[h,hsub,hi1,hx,show 48≤(x.toNat:Int) by omega,show ¬ (x.toNat:Int)≤57 by omega,show ¬ 97≤(x.toNat:Int) by omega];exact hq2
     ·have d3:¬ 97≤x.toNat:=by omega
      simp[h,hsub,hi1,hx,show ¬ 48≤(x.toNat:Int) by omega,show ¬ 97≤(x.toNat:Int) by omega];exact hq2
  ·have he:s.drop i=[]:=List.drop_of_length_le (by omega);rw[he] at hq;refine Ae mixed BE.eq_1 ?_;simp[h];exact hq
theorem SL {s:List UInt8} (hs:s.length≤1000000000) (k:Nat) (hk:k≤s.length):G.Spec Tryz.prog 109 [S s,iv k] (.tup [uv (AI (s.drop k)).1,iv (k+(AI (s.drop k)).2.2:Nat),bv (AI (s.drop k)).2.1]):=by
 refine Aj Ly (by simp) fun w0 I0=>?_;have hle:=MX 17 (s.drop k) 0;have hhd:(s.drop k).headD 0=Ey (s.drop k):=rfl;unfold AI;rw[hhd];have hnx:k<s.length→s[k]? = some (Ey (s.drop k)):=fun h=>by rw[Gp h];exact List.getElem?_eq_getElem h
 have hng:∀ h:k<s.length,s[k]=(Ey (s.drop k)):=fun h=>(Gp h).symm;simp only[List.length_drop] at hle;unfold G6;simp;refine fD hs (at':=k) 17 k 0 (by omega) (Fa _) hk (by omega) ?_ ?_;all_goals
  generalize Bo 17 0 (s.drop k)=G at hle;obtain⟨n,g⟩:=G;generalize Ey (s.drop k)=x at hnx hng;have e2:i64.wrap ((k:Int)+(g:Int)-(k:Int))=(g:Int):=DU;have e3:i64.wrap ((k:Int)+1)=(k:Int)+1:=EK;simp;rw[GL.eq_1];rcases (by omega:g=0∨g=1∨(2≤g∧g<17)∨g=17) with rfl | rfl | h | rfl
  ·simp;exact Ab rfl
  ·simp at e2;simp[e2,e3,show(k:Int)<k+1 by omega];exact Ab rfl
  ·have e4:¬ (k:Int)+g=k+1:=by omega
   have hlt:k<s.length:=by omega
   have hgx:=hnx hlt;have hge:=hng hlt;simp[e2,e3,e4,show(k:Int)<k+g by omega,show(g:Int)<17 by omega,hlt,hge,h.2,show 0<g by omega,show ¬ g=1 by omega];by_cases h48:x=48
   ·subst h48;simp;exact Ab rfl
   ·have h48':¬ (x.toNat:Int)=48:=fun e=>h48 ((u8_inj (b:=48)).1 e);simp[h48,h48'];exact Ab rfl
  ·simp at e2;simp[e2,e3];exact Ab rfl
def ZK:Nat→Nat→UInt8→Int
 |0,_,_=>0
 |m+1,i,c=>if letters.getD i 0=c then (i:Int) else ZK m (i+1) c
set_option maxRecDepth 100000 in
theorem il (c:UInt8):ZK 8 2 c=if FH c<2 then 0 else FH c:=by
 have:∀ n:Fin 256,ZK 8 2 (UInt8.ofNat n.val)=if FH (UInt8.ofNat n.val)<2 then 0 else FH (UInt8.ofNat n.val):=by decide +kernel
 have h:=this ⟨c.toNat,c.toNat_lt⟩;simpa using h
theorem Ze (c:UInt8):G.Spec Tryz.prog 92 [Gy c] (iv (if FH c<2 then 0 else FH c)):=by
 refine Aj LB (by simp) fun w0 I0=>?_;rw[← il];have loop:∀ (m i:Nat),i+m=10→2≤i→∀ {Q:Exit→Sta→Prop} {n0:Nat},(∀ y:Int,y=ZK m i c→∀ s':List (Nat × A),y ≠ 0→Q .ret ⟨lk [(2,iv y)],Dl []⟩)→(ZK m i c=0→Q (.exit 0) ⟨lk [(0,Gy c),(3,iv 10),(5,bv false)],Dl []⟩) →
   LoopC (cx Tryz.prog w0 I0 n0) CD Q ⟨lk [(0,Gy c),(3,iv i)],Dl []⟩:=by
  intro m;induction m with
  |zero=>
   intro i hi h2 Q n0 hq hq2;have:i=10:=by omega
   subst this;refine Ae mixed CD.eq_1 ?_;simp;exact hq2 rfl
  |succ m ih=>
   intro i hi h2 Q n0 hq hq2;have hg:([46,46,118,98,121,116,102,101,112,99]:List UInt8)[i]? = some (letters.getD i 0):=by
    have:∀ n:Nat,n<10→([46,46,118,98,121,116,102,101,112,99]:List UInt8)[n]? = some (letters.getD n 0):=by decide
    exact this i (by omega)
   have hgE:∀ h:i<([46,46,118,98,121,116,102,101,112,99]:List UInt8).length,([46,46,118,98,121,116,102,101,112,99]:List UInt8)[i]'h=letters.getD i 0:=fun h=>by
    rw[List.getElem?_eq_getElem h] at hg;exact Option.some.inj hg
   have e8:=A7 i;rw[ZK] at hq hq2;refine Ae mixed CD.eq_1 ?_;generalize letters.getD i 0=x at hg hgE hq hq2;by_cases hx:x=c
   ·rw[if_pos hx] at hq;simp[hg,hgE,show i<10 by omega,show(i:Int)<10 by omega,hx];exact hq _ rfl [] (by omega)
   ·rw[if_neg hx] at hq hq2;have hx':¬ (x.toNat:Int)=c.toNat:=fun e=>hx (u8_inj.1 e);simp[hg,hgE,show i<10 by omega,show(i:Int)<10 by omega,hx',e8];exact ih (i+1) (by omega) (by omega) hq hq2
 unfold G8;simp;refine loop 8 2 (by omega) (by omega) (fun y hy _ _=>?_) (fun h=>?_)
 ·simp;exact Qa hy
 ·rw[h];simp;exact Ab rfl
def Pv (D:Bool) (d:Nat):List UInt8→T × Bool × Nat:=if D=true then I6 AI else Az AI d
def re (M:T × Bool × Nat) (k:Nat) (t:T) (n:Int):Prop:=M.2.1=true→t=M.1∧n=(k+M.2.2:Nat)
def gZ (d:Nat):Prop:=∀ {s:List UInt8},s.length≤1000000000→∀ k,k≤s.length→∃ (t:T) (n:Int),re (Az AI d (s.drop k)) k t n ∧
 G.Spec Tryz.prog 71 [S s,iv k,iv d] (.tup [tX t,iv n,bv (Az AI d (s.drop k)).2.1])
theorem VA {r:List UInt8} (h:(AI r).2.1=true):0<(AI r).2.2:=by
 unfold AI at h;simp only[Bool.and_eq_true,decide_eq_true_eq] at h;exact h.1.1
theorem X4 (r:List UInt8):(AI r).2.2≤r.length:=(MX 17 r 0).1
theorem bF {d:Nat} {r:List UInt8} (h:(Az AI d r).2.1=true):0<(Az AI d r).2.2∧(Az AI d r).2.2≤r.length:=by
 obtain⟨h1,h2,_⟩:=Jq Oa d _ _ _ (DE h);refine⟨?_,h2⟩;apply Nat.pos_of_ne_zero;intro e;rw[e] at h1;exact Js _ (by rw[← h1];simp)
theorem aG {D:Bool} {d:Nat} {r:List UInt8} (h:(Pv D d r).2.1=true):0<(Pv D d r).2.2∧(Pv D d r).2.2≤r.length:=by
 unfold Pv at h ⊢;by_cases hD:D=true
 ·rw[if_pos hD] at h ⊢;exact⟨VA h,X4 r⟩
 ·rw[if_neg hD] at h ⊢;exact bF h
theorem iB {n0:Nat} {w0:World} {I0:Nat→Prop} {Q':Exit→Sta→Prop} {s:List UInt8} (hs:s.length≤1000000000) {k:Nat} {n:Int} {e:UInt8} {d:Int} {D b:Bool} (hk:b=true→n=k∧k≤s.length) {x:T} {acc:List T} {u v j:Nat} {H:Hp} (hacc:acc.length≤s.length)
  (h1:H [0]=⟨u,.cells (Ux D x)⟩) (h2:H [1]=⟨v,.arr 3 (acc.map (el D))⟩)
  (hbad:(b=true→A1 (s.drop k) e=false∧A1 (s.drop k) 44=false)→∀ H':Hp,Q' .ret ⟨lk [(10,.sl true []),(11,iv 0),(12,bv false)],H'⟩)
  (hend:b=true→A1 (s.drop k) e=true→∀ H':Hp,H' [1]=⟨v+1,.arr 3 ((acc++[x]).map (el D))⟩→Q' .ret ⟨lk [(10,.osl [1] (v+1) 3 0 (acc.length+1)),(11,iv (k+1:Nat)),(12,bv true)],H'⟩)
  (hgo:b=true→A1 (s.drop k) e=false→A1 (s.drop k) 44=true→∀ H':Hp,H' [1]=⟨v+1,.arr 3 ((acc++[x]).map (el D))⟩→Q' .normal ⟨lk [(0,S s),(1,iv (k+1:Nat)),(2,bv D),(3,Gy e),(4,iv d),(13,.osl [1] (v+1) 3 0 (acc.length+1)),(14,iv j),(88,bv false)],H'⟩) :
  WPC (cx Tryz.prog w0 I0 n0) DG Q' ⟨lk [(0,S s),(2,bv D),(3,Gy e),(4,iv d),(13,.osl [1] v 3 0 acc.length),(14,iv j),(15,.pob [0] u 0),(16,iv n),(17,bv b)],H⟩:=by
 rw[DG.eq_1];cases b with
 |false=>
  simp;exact hbad (fun h=>by cases h) H
 |true=>
  obtain⟨rfl,hk⟩:=hk rfl;have hag:A.agg (Ux D x)=el D x:=rfl;have e1:=A7 k;by_cases hlt:k<s.length
  ·have hx:s[k]? = some s[k]:=List.getElem?_eq_getElem hlt;have hE:A1 (s.drop k) e=(s[k] == e):=by rw[BR hlt];rfl
   have hC:A1 (s.drop k) 44=(s[k] == 44):=by rw[BR hlt];rfl
   rw[hE] at hbad hend hgo;rw[hC] at hbad hgo;generalize hy:s[k]=y at *;have hroom:(acc.length+1)*56≤140737488355328:=by omega
   simp[hlt,show ¬ s.length≤k by omega,h1,h2,Yc,Vt,IX,hag,e1,hy,hroom];refine⟨VE,?_⟩;by_cases c1:y=e
   ·subst c1;simp;exact hend rfl (by simp) _ (by simp)
   ·have c1':¬ (y.toNat:Int)=e.toNat:=fun h=>c1 (u8_inj.1 h);by_cases c2:y=44
    ·subst c2;have c3:¬ (44:Int)=e.toNat:=c1';simp[c3];exact hgo rfl (by simpa using c1) (by simp) _ (by simp)
    ·have c2':¬ (y.toNat:Int)=44:=fun h=>c2 ((u8_inj (b:=44)).1 h);simp[c1',c2'];exact hbad (fun _=>⟨by simpa using c1,by simpa using c2⟩) _
  ·have he:s.drop k=[]:=List.drop_of_length_le (by omega);have hke:k=s.length:=by omega
   rw[he] at hbad;simp[hlt,show s.length≤k by omega];exact hbad (fun _=>⟨rfl,rfl⟩) H
theorem XO {n0:Nat} {w0:World} {I0:Nat→Prop} {Q:Exit→Sta→Prop} {s:List UInt8} (hs:s.length≤1000000000) {D:Bool} {e:UInt8} {d:Nat} (hT:D=false→gZ d):∀ (f k j:Nat) (acc:List T) (v:Nat) (H:Hp),s.length-k<f→k≤s.length→j≤k→acc.length≤k→H [1]=⟨v,.arr 3 (acc.map (el D))⟩ →
  ((BB (Pv D d) e f (s.drop k)).2.1=false→∀ H':Hp,Q .ret ⟨lk [(10,.sl true []),(11,iv 0),(12,bv false)],H'⟩) →
  ((BB (Pv D d) e f (s.drop k)).2.1=true→∀ (H':Hp) (v':Nat),H' [1]=⟨v',.arr 3 ((acc++(BB (Pv D d) e f (s.drop k)).1).map (el D))⟩→Q .ret ⟨lk [(10,.osl [1] v' 3 0 (acc++(BB (Pv D d) e f (s.drop k)).1).length),(11,iv (k+(BB (Pv D d) e f (s.drop k)).2.2:Nat)),(12,bv true)],H'⟩) →
  LoopC (cx Tryz.prog w0 I0 n0) DK Q ⟨lk [(0,S s),(1,iv k),(2,bv D),(3,Gy e),(4,iv d),(13,.osl [1] v 3 0 acc.length),(14,iv j)],H⟩:=by
 intro f;induction f with
 |zero=>intro k j acc v H hf;omega
 |succ f ih=>
  intro k j acc v H hf hk hj hacc hH2 hq0 hq1;rw[BB] at hq0 hq1;have hle:=aG (D:=D) (d:=d) (r:=s.drop k);rw[List.length_drop] at hle;have ej:=A7 j;have tail:∀ (Q':Exit→Sta→Prop),(∀ st,Q .ret st→Q' .ret st)→(∀ (k':Nat) (l:Nat) (v':Nat) (H':Hp),LoopC (cx Tryz.prog w0 I0 n0) DK Q ⟨lk [(0,S s),(1,iv k'),(2,bv D),(3,Gy e),(4,iv d),(13,.osl [1] v' 3 0 l),(14,iv (j+1:Nat))],H'⟩→Q' .normal ⟨lk [(0,S s),(1,iv k'),(2,bv D),(3,Gy e),(4,iv d),(13,.osl [1] v' 3 0 l),(14,iv j),(88,bv false)],H'⟩) →
    ∀ (H':Hp) (u:Nat) (x:T) (n:Int),re (Pv D d (s.drop k)) k x n→H' [0]=⟨u,.cells (Ux D x)⟩→H' [1]=⟨v,.arr 3 (acc.map (el D))⟩ →
    WPC (cx Tryz.prog w0 I0 n0) DG Q' ⟨lk [(0,S s),(2,bv D),(3,Gy e),(4,iv d),(13,.osl [1] v 3 0 acc.length),(14,iv j),(15,.pob [0] u 0),(16,iv n),(17,bv (Pv D d (s.drop k)).2.1)],H'⟩:=fun Q' hr hn H' u x n hF g1 g2=>by
   generalize Pv D d (s.drop k)=N at *;refine iB hs (k:=k+N.2.2) (fun hb=>⟨(hF hb).2,by have:=(hle hb).2;omega⟩) (by omega) g1 g2 (fun hb H2=>?_) (fun hb hE H2 f2=>?_) (fun hb hE hC H2 f2=>?_)
   ·refine hr _ ?_;rw[List.drop_drop] at hq0;by_cases hb':N.2.1=true
    ·obtain⟨b1,b2⟩:=hb hb';have b1':¬ A1 (s.drop (k+N.2.2)) e=true:=by rw[b1];simp
     have b2':¬ A1 (s.drop (k+N.2.2)) 44=true:=by rw[b2];simp
     rw[if_pos hb',if_neg b1',if_neg b2'] at hq0;exact hq0 rfl H2
    ·rw[if_neg hb'] at hq0;exact hq0 rfl H2
   ·refine hr _ ?_;have hx:=(hF hb).1;subst hx;rw[List.drop_drop] at hq1;rw[if_pos hb,if_pos hE] at hq1;have:=hq1 rfl H2 (v+1) f2;simpa[Int.add_assoc] using this
   ·have hlt:k+N.2.2<s.length:=by
     rcases Cj s (k+N.2.2) 44 (by have:=(hle hb).2;omega) with h | h
     ·exact h.2.1
     ·rw[h.1] at hC;cases hC
    have hpos:=(hle hb).1;have hx:=(hF hb).1;subst hx;rw[List.drop_drop] at hq0 hq1;have hE':¬ A1 (s.drop (k+N.2.2)) e=true:=by rw[hE];simp
    rw[if_pos hb,if_neg hE',if_pos hC,List.drop_drop] at hq0 hq1;refine hn (k+N.2.2+1) (acc.length+1) (v+1) H2 ?_;refine LoopC.le (A4 [(0,S s),(1,iv (k+(N.2.2+1):Nat)),(2,bv D),(3,Gy e),(4,iv d),(13,.osl [1] (v+1) 3 0 (acc++[N.1]).length),(14,iv (j+1:Nat))] (by simp[Int.add_assoc])) ?_;refine ih (k+(N.2.2+1)) (j+1) (acc++[N.1]) (v+1) _ (by omega) (by omega) (by omega) (by simp;omega) f2 (fun h H'=>?_) (fun h H' v' h2=>?_)
    ·exact hq0 h H'
    ·have:=hq1 h H' v' (by simp[h];simpa using h2);simpa[h,Int.add_assoc] using this
  clear hq0 hq1;refine Ae mixed DK.eq_1 ?_;simp[show j≤s.length by omega];cases D with
  |true=>
   simp;have hn:=SL hs k hk;refine Af hn rfl ?_;have eR:Pv true d (s.drop k)=(.mk 10 [((AI (s.drop k)).1:Int)] [],(AI (s.drop k)).2.1,(AI (s.drop k)).2.2):=rfl;rw[eR] at tail;simp;refine tail _ (fun st h=>by simpa using h) (fun k' l v' H' h=>by simp[ej];exact h) _ _ (.mk 10 [((AI (s.drop k)).1:Int)] []) _ (fun _=>⟨rfl,by simp⟩) ?_ ?_
   ·simp[Ux]
   ·simp[Aa,hH2]
  |false=>
   obtain⟨t0,m,hF,ht⟩:=hT rfl hs k hk;simp;refine Af ht rfl ?_;have eR:Pv false d (s.drop k)=Az AI d (s.drop k):=rfl;rw[eR] at tail;simp;refine tail _ (fun st h=>by simpa using h) (fun k' l v' H' h=>by simp[ej];exact h) _ _ t0 m hF ?_ ?_
   ·simp[Ux]
   ·simp[Aa,hH2]
theorem OY {D:Bool} {d:Nat} (hT:D=false→gZ d) {s:List UInt8} (hs:s.length≤1000000000) {e:UInt8} {k:Nat} (hk:k≤s.length):∃ n:Int,
  G.Spec Tryz.prog 93 [S s,iv k,bv D,Gy e,iv d] (.tup [Eg (AB (Pv D d) e (s.drop k)).1,iv n,bv (AB (Pv D d) e (s.drop k)).2.1])∧((AB (Pv D d) e (s.drop k)).2.1=true→n=(k+(AB (Pv D d) e (s.drop k)).2.2:Nat)):=by
 have hnone:(AB (Pv D d) e (s.drop k)).2.1=false→(AB (Pv D d) e (s.drop k)).1=[]:=fun h=>KK h;have e1:=A7 k;unfold AB at hnone ⊢;by_cases hE:A1 (s.drop k) e=true
 ·rw[if_pos hE] at hnone ⊢;obtain⟨hlt,hx⟩:∃ h:k<s.length,s[k]=e:=by
   rcases Cj s k e hk with h | h
   ·exact⟨h.2.1,by rw[← Gp h.2.1];exact h.2.2⟩
   ·rw[h.1] at hE;cases hE
  have hxx:s[k]? = some e:=by rw[List.getElem?_eq_getElem hlt,hx]
  refine⟨(k+1:Nat),Aj F5 (by simp) fun w0 I0=>?_,fun _=>rfl⟩;unfold Ef;simp[hlt,hx,hxx,e1];exact AF ⟨Ad,Ab rfl,Ab rfl,trivial⟩
 ·rw[if_neg hE] at hnone ⊢;have hne:∀ h:k<s.length,¬ ((s[k]).toNat:Int)=e.toNat:=fun h q=>by
   rw[BR h,Cz] at hE;exact hE (by simpa using u8_inj.1 q)
  cases hb:(BB (Pv D d) e ((s.drop k).length+1) (s.drop k)).2.1 with
  |false=>
   rw[hnone hb];refine⟨0,Aj F5 (by simp) fun w0 I0=>?_,(fun h=>by cases h)⟩;unfold Ef;by_cases hlt:k<s.length
   ·have hne:=hne hlt;simp[hlt,hne];refine LoopC.le (Es 13 [1] 3 (by simp)) ?_;refine LoopC.le (A4 [(0,S s),(1,iv k),(2,bv D),(3,Gy e),(4,iv d),(13,.osl [1] 1 3 0 ([]:List T).length),(14,iv (0:Nat))] (by simp[upd])) ?_;refine XO hs hT ((s.drop k).length+1) k 0 [] 1 _ (by simp) hk (by simp) (by simp) (by simp) (fun h H'=>?_) (fun h=>by rw[hb] at h;cases h);simp;exact AF ⟨Ad,Ab rfl,Ab rfl,trivial⟩
   ·simp[hlt];refine LoopC.le (Es 13 [1] 3 (by simp)) ?_;refine LoopC.le (A4 [(0,S s),(1,iv k),(2,bv D),(3,Gy e),(4,iv d),(13,.osl [1] 1 3 0 ([]:List T).length),(14,iv (0:Nat))] (by simp[upd])) ?_;refine XO hs hT ((s.drop k).length+1) k 0 [] 1 _ (by simp) hk (by simp) (by simp) (by simp) (fun h H'=>?_) (fun h=>by rw[hb] at h;cases h);simp;exact AF ⟨Ad,Ab rfl,Ab rfl,trivial⟩
  |true=>
   obtain⟨G,hG⟩:∃ G,G=(BB (Pv D d) e ((s.drop k).length+1) (s.drop k)).1:=⟨_,rfl⟩;have hat:D=true→∀ c,c ∈ G→c.kids=[]:=fun hD c hc=>by
    have eR:Pv D d=I6 AI:=by rw[hD];rfl
    rw[eR] at hb hG;have:=(Lm (Uj Oa) e _ _ _ _ (DE hb)).2.2.2 c (by rw[← hG];exact hc);exact this.2.1
   have hlt:k<s.length:=by
    apply Nat.lt_of_not_le;intro h;rw[List.drop_of_length_le h,BB] at hb;have:=aG (D:=D) (d:=d) (r:=[]);simp only[List.length_nil] at this;by_cases hq:(Pv D d []).2.1=true
    ·have:=this hq;omega
    ·rw[if_neg hq] at hb;cases hb
   have hne:=hne hlt;refine⟨_,Aj F5 (by simp) fun w0 I0=>?_,fun _=>rfl⟩;unfold Ef;simp[hlt,hne];refine LoopC.le (Es 13 [1] 3 (by simp)) ?_;refine LoopC.le (A4 [(0,S s),(1,iv k),(2,bv D),(3,Gy e),(4,iv d),(13,.osl [1] 1 3 0 ([]:List T).length),(14,iv (0:Nat))] (by simp[upd])) ?_;refine XO hs hT ((s.drop k).length+1) k 0 [] 1 _ (by simp) hk (by simp) (by simp) (by simp) (fun h=>by rw[hb] at h;cases h) (fun h H' v' h2=>?_);simp only[List.length_drop] at h2 hG ⊢;rw[← hG] at h2 ⊢;simp only[List.nil_append] at h2 ⊢;simp;refine AF ⟨?_,Ab rfl,Ab rfl,trivial⟩;refine VL (l:=G) (f:=el D) (g:=tA) (by rw[h2];simp) rfl (fun x hx=>?_);cases hD:D with
   |true=>
    have hk0:=hat hD x hx;simp[Ux,A.soft,A.softL,hk0,A.bare,A.ones,Jy]
   |false=>simp[Ux,A.soft,A.softL,A.bare,A.ones,Jy,NG]
def rX (H:Hp) (u v:Nat) (ws:List Int):Prop:=H [1]=⟨u,.cells [iv 1,.osl [2] v 1 0 ws.length,.sl true []]⟩∧H [2]=⟨v,.arr 1 (ws.map uv)⟩
theorem JL {H:Hp} {v:Nat} {ws:List Int} (h:H [2]=⟨v,.arr 1 (ws.map uv)⟩) {x:A} {l:List T} (hx:Jr H x (Eg l)):Jr H (.agg [iv 1,.osl [2] v 1 0 ws.length,x]) (tX (.mk 1 ws l)):=by
 refine Ee ⟨Ab rfl,?_,hx,trivial⟩;exact Ed (l:=ws) (f:=uv) (by rw[h];simp) rfl (fun x=>by simp)
theorem TN {ws:List Int} {H:Hp} {v a:Nat} {n:Int} {b:Bool} (h0:H [0]=⟨a,.cells [iv 1,.osl [2] v 1 0 ws.length,.sl true []]⟩) (h2:H [2]=⟨v,.arr 1 (ws.map uv)⟩) :
  Ka Tryz.prog [.cell 6 25,.tmp 7,.tmp 8] (.tup [tX (.mk 1 ws []),iv n,bv b]) .ret ⟨lk [(6,.pob [0] a 0),(7,iv n),(8,bv b)],H⟩:=by
 simp[h0,J9];exact AF ⟨JL h2 Ad,Ab rfl,Ab rfl,trivial⟩
theorem dx {f:Nat} {r:List UInt8} (h:(AI r).2.1=false):(Bl AI f r).2.1=false:=by
 cases f with
 |zero=>rfl
 |succ f=>rw[Bl,if_neg (by rw[h];simp)]
theorem ZH {c:UInt8} {r:List UInt8} (h:Bg c=none):(AI (c::r)).2.1=false:=by
 unfold AI;rw[QO (fun x hx=>by simp at hx;rw[← hx];exact h)];simp
def QC:Nat→List UInt8→List Int
 |0,_=>[]
 |f+1,r=>if (AI r).2.1=true∧r.drop (AI r).2.2 ≠ [] then
   if A1 (r.drop (AI r).2.2) 44=true∧r.drop ((AI r).2.2+1) ≠ []∧(r.drop ((AI r).2.2+1)).headD 0 ≠ 124 then ((AI r).1:Int)::QC f (r.drop ((AI r).2.2+1)) else [((AI r).1:Int)]
  else []
theorem ah {n0:Nat} {w0:World} {I0:Nat→Prop} {Q:Exit→Sta→Prop} {s:List UInt8} (hs:s.length≤1000000000) {d:Int}:∀ (f k j:Nat) (acc:List Int) (v u a:Nat) (H:Hp),s.length-k<f→(h:k<s.length)→s[k] ≠ 124→j≤k→acc.length≤k→rX H u v acc→(∃ x,H [0]=⟨a,.cells x⟩∧x.length=3) →
  -- it fails
  (((Bl AI f (s.drop k)).2.1=true→A1 (s.drop (k+(Bl AI f (s.drop k)).2.2)) 125=false∧A1 (s.drop (k+(Bl AI f (s.drop k)).2.2)) 124=false)→∀ (H':Hp) (v' a':Nat),H' [0]=⟨a',.cells [iv 1,.osl [2] v' 1 0 (acc++QC f (s.drop k)).length,.sl true []]⟩→H' [2]=⟨v',.arr 1 ((acc++QC f (s.drop k)).map uv)⟩→Q .ret ⟨lk [(6,.pob [0] a' 0),(7,iv 0),(8,bv false)],H'⟩) →
  -- a brace
  ((Bl AI f (s.drop k)).2.1=true→A1 (s.drop (k+(Bl AI f (s.drop k)).2.2)) 125=true→∀ (H':Hp) (v' a':Nat),H' [0]=⟨a',.cells [iv 1,.osl [2] v' 1 0 (acc++(Bl AI f (s.drop k)).1).length,.sl true []]⟩→H' [2]=⟨v',.arr 1 ((acc++(Bl AI f (s.drop k)).1).map uv)⟩→Q .ret ⟨lk [(6,.pob [0] a' 0),(7,iv (k+(Bl AI f (s.drop k)).2.2+1:Nat)),(8,bv true)],H'⟩) →
  -- a bar
  ((Bl AI f (s.drop k)).2.1=true→A1 (s.drop (k+(Bl AI f (s.drop k)).2.2)) 124=true→∀ (H':Hp) (u' v' j':Nat),rX H' u' v' (acc++(Bl AI f (s.drop k)).1)→(∃ x,H' [0]=⟨a,.cells x⟩∧x.length=3)→Q (.exit 0) ⟨lk [(0,S s),(1,iv (k+(Bl AI f (s.drop k)).2.2:Nat)),(2,iv d),(6,.pob [0] a 0),(9,.pob [1] u' 0),(10,iv j'),(82,bv true)],H'⟩) →
  LoopC (cx Tryz.prog w0 I0 n0) BH Q ⟨lk [(0,S s),(1,iv k),(2,iv d),(6,.pob [0] a 0),(9,.pob [1] u 0),(10,iv j)],H⟩:=by
 intro f;induction f with
 |zero=>intro k j acc v u a H hf;omega
 |succ f ih=>
  intro k j acc v u a H hf hk h124 hj hacc hW hX hq0 hq1 hq2;have hn:=SL hs k (by omega);have ej:=A7 j;have hle:=X4 (s.drop k);rw[List.length_drop] at hle;have hy':¬ (s[k].toNat:Int)=124:=fun h=>h124 ((u8_inj (b:=124)).1 h);obtain⟨g1,g2⟩:=hW;obtain⟨x,g0,hx3⟩:=hX;obtain⟨xa,xb,xc,rfl⟩:∃ a b c,x=[a,b,c]:=by
   match x,hx3 with
   |[a,b,c],_=>exact⟨a,b,c,rfl⟩
  rw[Bl] at hq0 hq1 hq2;rw[QC] at hq0;have hpos:=VA (r:=s.drop k);generalize AI (s.drop k)=N at *;have hnl:s.length-k<f+1:=hf;refine Ae mixed BH.eq_1 ?_;simp[show j≤s.length by omega,hk,hy'];refine Af hn rfl ?_;by_cases hb:N.2.1=true
  ·rw[if_pos hb] at hq0 hq1 hq2;rw[List.drop_drop] at hq0 hq1 hq2;rw[List.drop_drop] at hq0;have hp:=hpos hb;rw[hb];obtain⟨k1,hk1⟩:∃ k1,k1=k+N.2.2:=⟨_,rfl⟩;have hk1':(k:Int)+(N.2.2:Int)=(k1:Int):=by omega
   by_cases hlt:k1<s.length
   ·have hxe:s[k1]? = some s[k1]:=List.getElem?_eq_getElem hlt;have hdr:=BR hlt;have eE:∀ c,A1 (s.drop (k+N.2.2)) c=(s[k1] == c):=fun c=>by rw[← hk1,hdr];rfl
    rw[eE] at hq0 hq1 hq2;have e1:=A7 k1;have hroom:(acc.length+1)*8≤140737488355328:=by omega
    generalize hy:s[k1]=y at *;simp[hk1',show ¬ (s.length:Int)≤k1 by omega,g0,g1,g2,Aa,IX,hlt,hy,hroom,splice];by_cases c125:y=125
    ·subst c125;rw[if_neg (by decide)] at hq1;simp[e1];simp only[← hk1] at hq1;exact hq1 trivial (by rw[hdr];rfl) _ (v+1) a (by simp[Aa]) (by simp[Aa])
    ·have c125':¬ (y.toNat:Int)=125:=fun h=>c125 ((u8_inj (b:=125)).1 h);by_cases c124:y=124
     ·subst c124;rw[if_neg (by decide)] at hq2;simp;simp only[← hk1] at hq2;exact hq2 trivial (by rw[hdr];rfl) _ u (v+1) j ⟨by simp[Aa],by simp[Aa]⟩ ⟨_,by simp[Aa,g0];rfl,rfl⟩
     ·have c124':¬ (y.toNat:Int)=124:=fun h=>c124 ((u8_inj (b:=124)).1 h);by_cases c44:y=44
      ·subst c44;rw[if_pos (by decide)] at hq0 hq1 hq2;rw[List.drop_drop,← Nat.add_assoc,← hk1] at hq1 hq2;rw[← Nat.add_assoc,← hk1] at hq0;rw[hdr] at hq0;simp only[hb,Cz,ne_eq,not_false_eq_true,reduceCtorEq,beq_self_eq_true,true_and,and_self,if_true] at hq0;have bad:(AI (s.drop (k1+1))).2.1=false→s.drop (k1+1)=[]∨(s.drop (k1+1)).headD 0=124→∀ (H':Hp) (v' a':Nat),H' [0]=⟨a',.cells [iv 1,.osl [2] v' 1 0 (acc++[(N.1:Int)]).length,.sl true []]⟩→H' [2]=⟨v',.arr 1 ((acc++[(N.1:Int)]).map uv)⟩→Q .ret ⟨lk [(6,.pob [0] a' 0),(7,iv 0),(8,bv false)],H'⟩:=fun hno hor=>by
        have hc:¬ (¬ s.drop (k1+1)=[]∧¬ (s.drop (k1+1)).headD 0=124):=fun h=>by
         rcases hor with e | e
         ·exact h.1 e
         ·exact h.2 e
        rw[if_neg hc] at hq0;exact hq0 (fun h=>by
         have:(Bl AI f (s.drop (k1+1))).2.1=true:=h;rw[dx hno] at this;cases this)
       by_cases hl2:k1+1<s.length
       ·have hx2:s[k1+1]? = some s[k1+1]:=List.getElem?_eq_getElem hl2;have hdr2:=BR hl2;generalize hz:s[k1+1]=z at *;by_cases z124:z=124
        ·subst z124;simp[e1,show ¬ (s.length:Int)≤(k1:Int)+1 by omega,show(0:Int)≤(k1:Int)+1 by omega,hl2,hz];exact bad (by rw[hdr2];exact ZH (by decide)) (.inr (by rw[hdr2];rfl)) _ (v+1) a (by simp[Aa]) (by simp[Aa])
        ·have z124':¬ (z.toNat:Int)=124:=fun h=>z124 ((u8_inj (b:=124)).1 h);simp[e1,show ¬ (s.length:Int)≤(k1:Int)+1 by omega,show(0:Int)≤(k1:Int)+1 by omega,hl2,hz,z124',ej];refine LoopC.le (A4 [(0,S s),(1,iv (k1+1:Nat)),(2,iv d),(6,.pob [0] a 0),(9,.pob [1] u 0),(10,iv (j+1:Nat))] (by simp)) ?_;have hgo:¬ s.drop (k1+1)=[]∧¬ (s.drop (k1+1)).headD 0=124:=⟨by rw[hdr2];simp,by rw[hdr2];exact z124⟩;rw[if_pos hgo] at hq0;have eA:∀ m,k+(N.2.2+(1+m))=k1+(1+m):=fun m=>by omega
         simp only[Nat.add_assoc,eA] at hq0 hq1 hq2;refine ih (k1+1) (j+1) (acc++[(N.1:Int)]) (v+1) u a _ (by omega) hl2 (by rw[hz];exact z124) (by omega) (by simp;omega) ⟨by simp[Aa],by simp[Aa]⟩ ⟨_,by simp[Aa,g0];rfl,rfl⟩ (fun hf H' v' a' f0 f2=>?_) (fun hf hE H' v' a' f0 f2=>?_) (fun hf hE H' u' v' j' f0 f2=>?_)
         ·simp only[Nat.add_assoc] at hf;exact hq0 hf H' v' a' (by simpa using f0) (by simpa using f2)
         ·simp only[if_pos hf] at hq1;simp only[Nat.add_assoc] at hE ⊢;exact hq1 hf hE H' v' a' (by simpa using f0) (by simpa using f2)
         ·simp only[if_pos hf] at hq2;simp only[Nat.add_assoc] at hE ⊢;exact hq2 hf hE H' u' v' j' (by simpa using f0) f2
       ·simp[e1,show(s.length:Int)≤(k1:Int)+1 by omega];refine bad (by rw[List.drop_of_length_le (by omega)];rfl) (.inl (List.drop_of_length_le (by omega))) _ (v+1) a (by simp[Aa]) (by simp[Aa])
      ·have c44':¬ (y.toNat:Int)=44:=fun h=>c44 ((u8_inj (b:=44)).1 h);rw[if_neg (by simpa using c44)] at hq0;rw[← hk1,hdr] at hq0;simp only[hb,Cz,ne_eq,not_false_eq_true,reduceCtorEq,true_and,and_self,if_true,show(y == 44)=false by simpa using c44,Bool.false_eq_true,false_and,if_false] at hq0;simp[c125',c124',c44'];refine hq0 (fun _=>?_) _ (v+1) a (by simp[Aa]) (by simp[Aa]);exact⟨by simpa using c125,by simpa using c124⟩
   ·simp[hk1',show(s.length:Int)≤k1 by omega,g0,g1,g2,Aa,splice];have hnil:s.drop (k+N.2.2)=[]:=List.drop_of_length_le (by omega);rw[hnil,if_neg (by simp)] at hq0;simp only[ne_eq,not_true_eq_false,and_false,if_false,List.append_nil,hnil] at hq0;exact hq0 (fun _=>⟨rfl,rfl⟩) _ v a (by simp) (by simp[Aa,g2])
  ·rw[if_neg hb] at hq0;simp only[Bool.not_eq_true] at hb;rw[hb] at hq0 ⊢;simp only[Bool.false_eq_true,false_and,if_false,List.append_nil] at hq0;simp[g0,g1,splice];exact hq0 (fun h=>h.elim) _ v a (by simp) (by simp[Aa,g2])
def sw (d:Nat):Prop:=∀ {s:List UInt8},s.length≤1000000000→∀ k,k≤s.length→∃ (t:T) (n:Int),re (B1 AI (AB (Az AI d) 125) (s.drop k)) k t n ∧
 G.Spec Tryz.prog 91 [S s,iv k,iv (d+1:Nat)] (.tup [tX t,iv n,bv (B1 AI (AB (Az AI d) 125) (s.drop k)).2.1])
theorem a6 {d:Nat} (hd:d≤1000) (hT:gZ d) {s:List UInt8} (hs:s.length≤1000000000) {k:Nat} (hk:k≤s.length) (h125:A1 (s.drop k) 125=false) (ws:List Int)
  {M:T × Bool × Nat} (hM:GX (AB (Az AI d) 125) ws (s.drop k)=M):∃ n:Int,(M.2.1=true→n=(k+M.2.2:Nat))∧∀ {n0:Nat} {w0:World} {I0:Nat→Prop} {u v a:Nat} {H:Hp} {x:List A} (hx3:x.length=3) (hX:H [0]=⟨a,.cells x⟩) (hW:H [1]=⟨u,.cells [iv 1,.osl [2] v 1 0 ws.length,.sl true []]⟩) (hW2:H [2]=⟨v,.arr 1 (ws.map uv)⟩),
  WPC (cx Tryz.prog w0 I0 n0) AN (Ka Tryz.prog [.cell 6 25,.tmp 7,.tmp 8] (.tup [tX M.1,iv n,bv M.2.1])) ⟨lk [(0,S s),(1,iv k),(2,iv (d+1:Nat)),(6,.pob [0] a 0),(9,.pob [1] u 0)],H⟩:=by
 have e1:=A7 k;have e2:i64.wrap ((d:Int)+1-1)=(d:Int):=DU;simp only[Int.add_sub_cancel] at e2;unfold GX at hM;rw[if_neg (by rw[h125];simp)] at hM;by_cases hlt:k<s.length
 ·have hxe:s[k]? = some s[k]:=List.getElem?_eq_getElem hlt;have hdr:=BR hlt;have eE:A1 (s.drop k) 124=(s[k] == 124):=by rw[hdr];rfl
  rw[eE] at hM;generalize hy:s[k]=y at *;by_cases c124:y=124
  ·subst c124;rw[if_pos (by decide),List.drop_drop] at hM
   -- the kids
   have kids:M=(.mk 1 ws (AB (Az AI d) 125 (s.drop (k+1))).1,(AB (Az AI d) 125 (s.drop (k+1))).2.1,1+(AB (Az AI d) 125 (s.drop (k+1))).2.2)→(∀ h:k+1<s.length,¬ ((s[k+1]).toNat:Int)=125)→∃ n:Int,(M.2.1=true→n=(k+M.2.2:Nat))∧∀ {n0:Nat} {w0:World} {I0:Nat→Prop} {u v a:Nat} {H:Hp} {x:List A} (hx3:x.length=3) (hX:H [0]=⟨a,.cells x⟩) (hW:H [1]=⟨u,.cells [iv 1,.osl [2] v 1 0 ws.length,.sl true []]⟩) (hW2:H [2]=⟨v,.arr 1 (ws.map uv)⟩),
     WPC (cx Tryz.prog w0 I0 n0) AN (Ka Tryz.prog [.cell 6 25,.tmp 7,.tmp 8] (.tup [tX M.1,iv n,bv M.2.1])) ⟨lk [(0,S s),(1,iv k),(2,iv (d+1:Nat)),(6,.pob [0] a 0),(9,.pob [1] u 0)],H⟩:=fun hM hz=>by
    obtain⟨n,hn1,hn2⟩:=OY (D:=false) (d:=d) (fun _=>hT) hs (e:=125) (k:=k+1) (by omega);have eR:Pv false d=Az AI d:=rfl;rw[eR] at hn1 hn2;generalize AB (Az AI d) 125 (s.drop (k+1))=G at hM hn1 hn2;subst hM;refine⟨n,fun h=>by rw[hn2 h];show((k+1+G.2.2:Nat):Int)=((k+(1+G.2.2):Nat):Int);rw[Nat.add_assoc],fun {n0 w0 I0 u v a H x} hx3 hX hW hW2=>?_⟩;obtain⟨xa,xb,xc,rfl⟩:∃ a b c,x=[a,b,c]:=by
     match x,hx3 with
     |[a,b,c],_=>exact⟨a,b,c,rfl⟩
    rw[AN.eq_1];by_cases hl2:k+1<s.length
    ·have hz:=hz hl2;have hl2':(k:Int)+1<s.length:=by omega
     simp[e1,e2,hlt,hy,hl2,hl2',hz,show ¬ s.length≤k by omega,show(0:Int)≤(k:Int)+1 by omega];refine Af hn1 rfl ?_;simp[hX,hW,Aa,splice];exact AF ⟨JL (by simp[Aa,hW2]) (Ab rfl),Ab rfl,Ab rfl,trivial⟩
    ·have hl2':¬ (k:Int)+1<s.length:=by omega
     simp[e1,e2,hlt,hy,hl2,hl2',show ¬ s.length≤k by omega];refine Af hn1 rfl ?_;simp[hX,hW,Aa,splice];exact AF ⟨JL (by simp[Aa,hW2]) (Ab rfl),Ab rfl,Ab rfl,trivial⟩
   by_cases hl2:k+1<s.length
   ·have hx2:s[k+1]? = some s[k+1]:=List.getElem?_eq_getElem hl2;have hhd:(s.drop (k+1)).headD 0=s[k+1]:=Gp hl2;rw[hhd] at hM;by_cases z125:s[k+1]=125
    ·rw[if_pos z125] at hM;subst hM;refine⟨0,(fun h=>by cases h),fun {n0 w0 I0 u v a H x} hx3 hX hW hW2=>?_⟩;obtain⟨xa,xb,xc,rfl⟩:∃ a b c,x=[a,b,c]:=by
      match x,hx3 with
      |[a,b,c],_=>exact⟨a,b,c,rfl⟩
     rw[AN.eq_1];simp[e1,hlt,hy,hl2,z125,hX,hW,hW2,show ¬ s.length≤k by omega,show(0:Int)≤(k:Int)+1 by omega,show(k:Int)+1<s.length by omega];exact AF ⟨JL (by simp[Aa,hW2]) Ad,Ab rfl,Ab rfl,trivial⟩
    ·rw[if_neg z125] at hM;exact kids hM.symm (fun h e=>z125 ((u8_inj (b:=125)).1 e))
   ·have hhd:(s.drop (k+1)).headD 0=0:=by rw[List.drop_of_length_le (by omega)];rfl
    rw[hhd,if_neg (by decide)] at hM;exact kids hM.symm (fun h=>absurd h hl2)
  ·have c124':¬ (y.toNat:Int)=124:=fun h=>c124 ((u8_inj (b:=124)).1 h);rw[if_neg (by simpa using c124)] at hM;subst hM;refine⟨0,(fun h=>by cases h),fun {n0 w0 I0 u v a H x} hx3 hX hW hW2=>?_⟩;obtain⟨xa,xb,xc,rfl⟩:∃ a b c,x=[a,b,c]:=by
    match x,hx3 with
    |[a,b,c],_=>exact⟨a,b,c,rfl⟩
   rw[AN.eq_1];simp[e1,hlt,hy,c124',hX,hW,hW2,show ¬ s.length≤k by omega];exact AF ⟨JL (by simp[Aa,hW2]) Ad,Ab rfl,Ab rfl,trivial⟩
 ·have hnil:s.drop k=[]:=List.drop_of_length_le (by omega);rw[hnil,if_neg (by simp)] at hM;subst hM;refine⟨0,(fun h=>by cases h),fun {n0 w0 I0 u v a H x} hx3 hX hW hW2=>?_⟩;obtain⟨xa,xb,xc,rfl⟩:∃ a b c,x=[a,b,c]:=by
   match x,hx3 with
   |[a,b,c],_=>exact⟨a,b,c,rfl⟩
  rw[AN.eq_1];simp[e1,hlt,hX,hW,hW2,show s.length≤k by omega];exact AF ⟨JL (by simp[Aa,hW2]) Ad,Ab rfl,Ab rfl,trivial⟩
theorem jB {d:Nat} (hd:d≤1000) (hT:gZ d):sw d:=fun {s} hs k hk=>by
 have e1:=A7 k;obtain⟨M,hM⟩:∃ M,M=B1 AI (AB (Az AI d) 125) (s.drop k):=⟨_,rfl⟩;rw[← hM];unfold B1 at hM;by_cases h125:A1 (s.drop k) 125=true
 ·rw[if_pos h125] at hM;subst hM;obtain⟨hlt,hx⟩:∃ h:k<s.length,s[k]=125:=by
   rcases Cj s k 125 hk with h | h
   ·exact⟨h.2.1,by rw[← Gp h.2.1];exact h.2.2⟩
   ·rw[h.1] at h125;cases h125
  refine⟨.mk 1 [] [],(k+1:Nat),fun _=>⟨rfl,rfl⟩,Aj BL (by simp) fun w0 I0=>?_⟩;unfold Br;simp[hlt,hx,e1,Aa,splice];exact AF ⟨Ee ⟨Ab rfl,Ad,Ad,trivial⟩,Ab rfl,Ab rfl,trivial⟩
 ·rw[if_neg h125] at hM;have hne:∀ h:k<s.length,¬ ((s[k]).toNat:Int)=125:=fun h q=>by
   rw[BR h,Cz] at h125;exact h125 (by simpa using (u8_inj (b:=125)).1 q)
  simp only[Bool.not_eq_true] at h125;by_cases hlt:k<s.length
  ·have hxe:s[k]? = some s[k]:=List.getElem?_eq_getElem hlt;have hne:=hne hlt;have hhd:(s.drop k).headD 0=s[k]:=Gp hlt;by_cases c124:s[k]=124
   ·have c124':(s[k].toNat:Int)=124:=by rw[c124];rfl
    have hws:PS AI (s.drop k)=([],true,0):=by
     unfold PS;rw[hhd,if_neg (by rw[c124];simp)]
    rw[hws] at hM;simp only[if_true,List.drop_zero,Nat.zero_add] at hM;obtain⟨n,hn1,hn2⟩:=a6 hd hT hs hk h125 [] rfl;generalize GX (AB (Az AI d) 125) [] (s.drop k)=G at hM hn1 hn2;subst hM;refine⟨G.1,n,fun h=>⟨rfl,hn1 h⟩,Aj BL (by simp) fun w0 I0=>?_⟩;unfold Br;simp[hlt,hne,Aa,splice];refine LoopC.le (Dg (d:=[1]) (u:=1) (cs:=[iv 1,.sl true [],.sl true []]) 1 [2] 1 (by simp) rfl (by simp)) ?_;refine Ae mixed BH.eq_1 ?_;simp[hlt,c124',c124];refine hn2 (v:=1) (x:=[iv 0,.sl true [],.sl true []]) rfl ?_ ?_ ?_
    ·simp[Aa]
    ·simp[Aa]
    ·simp[Aa]
   ·have c124':¬ (s[k].toNat:Int)=124:=fun h=>c124 ((u8_inj (b:=124)).1 h);have hws:PS AI (s.drop k)=Bl AI ((s.drop k).length+1) (s.drop k):=by
     unfold PS;rw[hhd,if_pos c124]
    rw[hws] at hM;have hf:s.length-k<(s.drop k).length+1:=by simp
    generalize (s.drop k).length+1=f at hM hf;by_cases hok:(Bl AI f (s.drop k)).2.1=true
    ·rw[if_pos hok] at hM;simp only[List.drop_drop] at hM;have hto:=(NA Oa f _ _ _ (DE hok)).2.1;rw[List.length_drop] at hto;generalize hW:Bl AI f (s.drop k)=W at hM hok hto;have hk':k+W.2.2≤s.length:=by omega
     -- the walk,from how it ends
     have walk:∀ {t:T} {n:Int} {b:Bool},
       (A1 (s.drop (k+W.2.2)) 125=false∧A1 (s.drop (k+W.2.2)) 124=false→t = .mk 1 (QC f (s.drop k)) []∧n=0∧b=false) →
       (A1 (s.drop (k+W.2.2)) 125=true→t = .mk 1 W.1 []∧n=(k+W.2.2+1:Nat)∧b=true) →
       (A1 (s.drop (k+W.2.2)) 124=true→∀ {n0:Nat} {w0:World} {I0:Nat→Prop} {u v a:Nat} {H:Hp} {x:List A} (hx3:x.length=3) (hX:H [0]=⟨a,.cells x⟩) (hW:H [1]=⟨u,.cells [iv 1,.osl [2] v 1 0 W.1.length,.sl true []]⟩) (hW2:H [2]=⟨v,.arr 1 (W.1.map uv)⟩),
        WPC (cx Tryz.prog w0 I0 n0) AN (Ka Tryz.prog [.cell 6 25,.tmp 7,.tmp 8] (.tup [tX t,iv n,bv b])) ⟨lk [(0,S s),(1,iv (k+W.2.2:Nat)),(2,iv (d+1:Nat)),(6,.pob [0] a 0),(9,.pob [1] u 0)],H⟩) →
       G.Spec Tryz.prog 91 [S s,iv k,iv (d+1:Nat)] (.tup [tX t,iv n,bv b]):=fun {t n b} h0 h1 h2=>by
      refine Aj BL (by simp) fun w0 I0=>?_;unfold Br;simp[hlt,hne,Aa,splice];refine LoopC.le (Dg (d:=[1]) (u:=1) (cs:=[iv 1,.sl true [],.sl true []]) 1 [2] 1 (by simp) rfl (by simp)) ?_;refine LoopC.le (A4 [(0,S s),(1,iv k),(2,iv (d+1:Nat)),(6,.pob [0] 1 0),(9,.pob [1] 1 0),(10,iv (0:Nat))] (by simp)) ?_;refine ah hs f k 0 [] 1 1 1 _ hf hlt c124 (by omega) (by simp) ⟨?_,?_⟩ ⟨[iv 0,.sl true [],.sl true []],?_,rfl⟩ (fun h H' v' a' f0 f2=>?_) (fun h hE H' v' a' f0 f2=>?_) (fun h hE H' u' v' j' f0 f2=>?_)
      ·simp[Aa]
      ·simp[Aa]
      ·simp[Aa]
      ·rw[hW] at h;obtain⟨rfl,rfl,rfl⟩:=h0 (h hok);exact TN f0 f2
      ·rw[hW] at hE f0 f2 ⊢;obtain⟨rfl,rfl,rfl⟩:=h1 hE;exact TN f0 f2
      ·rw[hW] at hE f0 ⊢;obtain⟨x,f2,f3⟩:=f2;simp;have:=h2 hE (n0:=144) (w0:=w0) (I0:=I0) f3 f2 f0.1 f0.2;simpa using this
     by_cases hE:A1 (s.drop (k+W.2.2)) 125=true
     ·have hq:GX (AB (Az AI d) 125) W.1 (s.drop (k+W.2.2))=(.mk 1 W.1 [],true,1):=by
       unfold GX;rw[if_pos hE]
      rw[hq] at hM;subst hM;refine⟨.mk 1 W.1 [],(k+W.2.2+1:Nat),fun _=>⟨rfl,by rw[Nat.add_assoc]⟩,walk (fun h=>by rw[h.1] at hE;cases hE) (fun _=>⟨rfl,rfl,rfl⟩) (fun h=>?_)⟩;have e1:=QA hE;rw[QA h] at e1;cases e1
     ·simp only[Bool.not_eq_true] at hE;obtain⟨n,hn1,hn2⟩:=a6 hd hT hs hk' hE W.1 rfl;by_cases hE4:A1 (s.drop (k+W.2.2)) 124=true
      ·generalize GX (AB (Az AI d) 125) W.1 (s.drop (k+W.2.2))=G at hM hn1 hn2;subst hM;exact⟨G.1,n,fun h=>⟨rfl,by rw[hn1 h,Nat.add_assoc]⟩,walk (fun h=>by rw[h.2] at hE4;cases hE4) (fun h=>by rw[h] at hE;cases hE) (fun _=>hn2)⟩
      ·have hq:GX (AB (Az AI d) 125) W.1 (s.drop (k+W.2.2))=(.mk 1 W.1 [],false,0):=by
        unfold GX;rw[if_neg (by rw[hE];simp),if_neg hE4]
       rw[hq] at hM;subst hM;refine⟨.mk 1 (QC f (s.drop k)) [],0,(fun h=>by cases h),walk (fun _=>⟨rfl,rfl,rfl⟩) (fun h=>by rw[h] at hE;cases hE) (fun h=>absurd h hE4)⟩
    ·rw[if_neg hok] at hM;subst hM;refine⟨.mk 1 (QC f (s.drop k)) [],0,(fun h=>by cases h),Aj BL (by simp) fun w0 I0=>?_⟩;unfold Br;simp[hlt,hne,Aa,splice];refine LoopC.le (Dg (d:=[1]) (u:=1) (cs:=[iv 1,.sl true [],.sl true []]) 1 [2] 1 (by simp) rfl (by simp)) ?_;refine LoopC.le (A4 [(0,S s),(1,iv k),(2,iv (d+1:Nat)),(6,.pob [0] 1 0),(9,.pob [1] 1 0),(10,iv (0:Nat))] (by simp)) ?_;refine ah hs f k 0 [] 1 1 1 _ hf hlt c124 (by omega) (by simp) ⟨?_,?_⟩ ⟨[iv 0,.sl true [],.sl true []],?_,rfl⟩ (fun h H' v' a' f0 f2=>?_) (fun h=>absurd h hok) (fun h=>absurd h hok)
     ·simp[Aa]
     ·simp[Aa]
     ·simp[Aa]
     ·exact TN f0 f2
  ·have hnil:s.drop k=[]:=List.drop_of_length_le (by omega);rw[hnil] at hM;have hM2:M=(.mk 1 [] [],false,(PS AI []).2.2):=hM;clear hM;subst hM2;refine⟨.mk 1 [] [],0,(fun h=>by cases h),Aj BL (by simp) fun w0 I0=>?_⟩;unfold Br;simp[hlt,Aa,splice];refine LoopC.le (Dg (d:=[1]) (u:=1) (cs:=[iv 1,.sl true [],.sl true []]) 1 [2] 1 (by simp) rfl (by simp)) ?_;refine Ae mixed BH.eq_1 ?_;simp[hlt];rw[AN.eq_1];simp[hlt,show s.length≤k by omega,Aa];exact AF ⟨JL (ws:=[]) (by simp[Aa]) Ad,Ab rfl,Ab rfl,trivial⟩
theorem ab:gZ 0:=fun {s} hs k hk=>by
 have e1:=A7 k;rw[JA];by_cases hE:A1 (s.drop k) 95=true
 ·rw[if_pos hE];obtain⟨hlt,hx⟩:∃ h:k<s.length,s[k]=95:=by
   rcases Cj s k 95 hk with h | h
   ·exact⟨h.2.1,by rw[← Gp h.2.1];exact h.2.2⟩
   ·rw[h.1] at hE;cases hE
  refine⟨T0,(k+1:Nat),fun _=>⟨rfl,rfl⟩,Aj Bm (by simp) fun w0 I0=>?_⟩;unfold Bc;simp[hlt,hx,e1,show ¬ s.length≤k by omega,Aa,splice];exact AF ⟨FT,Ab rfl,Ab rfl,trivial⟩
 ·rw[if_neg hE];have hne:∀ h:k<s.length,¬ ((s[k]).toNat:Int)=95:=fun h q=>by
   rw[BR h,Cz] at hE;exact hE (by simpa using (u8_inj (b:=95)).1 q)
  refine⟨T0,0,(fun h=>by cases h),Aj Bm (by simp) fun w0 I0=>?_⟩;unfold Bc;by_cases hlt:k<s.length
  ·have hne:=hne hlt;simp[hlt,hne,show ¬ s.length≤k by omega,Aa,splice];exact AF ⟨FT,Ab rfl,Ab rfl,trivial⟩
  ·simp[hlt,show s.length≤k by omega,Aa,splice];exact AF ⟨FT,Ab rfl,Ab rfl,trivial⟩
theorem ca {d:Nat} (hd:d≤1000) (hT:gZ d):gZ (d+1):=fun {s} hs k hk=>by
 have e1:=A7 k;have e2:i64.wrap ((k:Int)+2)=((k+2:Nat):Int):=DU;have e3:i64.wrap ((d:Int)+1-1)=(d:Int):=DU;simp only[Int.add_sub_cancel] at e3;obtain⟨M,hM⟩:∃ M,M=Az AI (d+1) (s.drop k):=⟨_,rfl⟩;rw[← hM];rw[Fx] at hM;by_cases hlt:k<s.length
 ·have hxe:s[k]? = some s[k]:=List.getElem?_eq_getElem hlt;have hdr:=BR hlt;have eE:∀ c,A1 (s.drop k) c=(s[k] == c):=fun c=>by rw[hdr];rfl
  have hhd:(s.drop k).headD 0=s[k]:=Gp hlt;rw[eE,eE,hhd] at hM;have hlet:=Ze s[k];generalize hy:s[k]=y at *;by_cases c95:y=95
  ·subst c95;rw[if_pos (by decide)] at hM;subst hM;refine⟨T0,(k+1:Nat),fun _=>⟨rfl,rfl⟩,Aj Bm (by simp) fun w0 I0=>?_⟩;unfold Bc;simp[hlt,hy,e1,show ¬ s.length≤k by omega,Aa,splice];exact AF ⟨FT,Ab rfl,Ab rfl,trivial⟩
  ·have c95':¬ (y.toNat:Int)=95:=fun h=>c95 ((u8_inj (b:=95)).1 h);rw[if_neg (by simpa using c95)] at hM;by_cases c123:y=123
   ·subst c123;rw[if_pos (by decide),List.drop_drop] at hM;obtain⟨t,n,hF,hS⟩:=jB hd hT hs (k+1) (by omega);generalize B1 AI (AB (Az AI d) 125) (s.drop (k+1))=G at hM hF hS;subst hM;refine⟨t,n,fun h=>⟨(hF h).1,by rw[(hF h).2,Nat.add_assoc]⟩,Aj Bm (by simp) fun w0 I0=>?_⟩;unfold Bc;simp[hlt,hy,e1,show ¬ s.length≤k by omega,show ¬ (d:Int)+1=0 by omega,Aa,splice];refine Af hS rfl ?_;simp[Aa,splice];exact AF ⟨Ab rfl,Ab rfl,Ab rfl,trivial⟩
   ·have c123':¬ (y.toNat:Int)=123:=fun h=>c123 ((u8_inj (b:=123)).1 h);rw[if_neg (by simpa using c123)] at hM;by_cases hl:FH y<2
    ·rw[if_pos hl] at hM hlet;subst hM;refine⟨T0,0,(fun h=>by cases h),Aj Bm (by simp) fun w0 I0=>?_⟩;unfold Bc;simp[hlt,hy,c95',c123',show ¬ s.length≤k by omega,show ¬ (d:Int)+1=0 by omega,Aa,splice];refine Af hlet rfl ?_;simp[Aa,splice];exact AF ⟨FT,Ab rfl,Ab rfl,trivial⟩
    ·rw[if_neg hl] at hM hlet;obtain⟨l1,l2,l3⟩:=Xn hl;generalize hK:FH y=K at hM hlet hl l1 l2 l3;by_cases hl2:k+1<s.length
     ·have hx2:s[k+1]? = some s[k+1]:=List.getElem?_eq_getElem hl2;have hdr2:=BR hl2;rw[List.drop_drop,List.drop_drop] at hM;have eB:A1 (s.drop (k+1)) 91=(s[k+1] == 91):=by rw[hdr2];rfl
      rw[eB] at hM;generalize hz:s[k+1]=z at *;by_cases c91:z=91
      ·subst c91;rw[if_pos (by decide)] at hM;obtain⟨n,hn1,hn2⟩:=OY (D:=EZ K) (d:=d) (fun _=>hT) hs (e:=93) (k:=k+2) (by omega);have eR:Pv (EZ K) d=if EZ K=true then I6 AI else Az AI d:=rfl
       rw[eR] at hn1 hn2;have eD:EZ K=decide (K≤7):=by
        unfold EZ;simp[l1]
       generalize AB (if EZ K=true then I6 AI else Az AI d) 93 (s.drop (k+2))=G at hM hn1 hn2;rw[eD] at hn1;subst hM;refine⟨.mk K [] G.1,n,fun h=>⟨rfl,by rw[hn2 h,Nat.add_assoc]⟩,Aj Bm (by simp) fun w0 I0=>?_⟩;unfold Bc;simp[hlt,hy,c95',c123',show ¬ s.length≤k by omega,show ¬ (d:Int)+1=0 by omega,Aa,splice];refine Af hlet rfl ?_;simp[hlt,hl2,hz,e1,e2,e3,show ¬ K=0 by omega,show ¬ (s.length:Int)≤(k:Int)+1 by omega,show(0:Int)≤(k:Int)+1 by omega,Aa,splice];refine Af hn1 rfl ?_;simp[Aa,splice];exact AF ⟨Ee ⟨Ab rfl,Ad,Ab rfl,trivial⟩,Ab rfl,Ab rfl,trivial⟩
      ·have c91':¬ (z.toNat:Int)=91:=fun h=>c91 ((u8_inj (b:=91)).1 h);rw[if_neg (by simpa using c91)] at hM;subst hM;refine⟨T0,0,(fun h=>by cases h),Aj Bm (by simp) fun w0 I0=>?_⟩;unfold Bc;simp[hlt,hy,c95',c123',show ¬ s.length≤k by omega,show ¬ (d:Int)+1=0 by omega,Aa,splice];refine Af hlet rfl ?_;simp[hlt,hl2,hz,c91',e1,e2,e3,show ¬ K=0 by omega,show ¬ (s.length:Int)≤(k:Int)+1 by omega,show(0:Int)≤(k:Int)+1 by omega,Aa,splice];exact AF ⟨FT,Ab rfl,Ab rfl,trivial⟩
     ·rw[List.drop_drop,List.drop_of_length_le (i:=k+1) (by omega),if_neg (by simp)] at hM;subst hM;refine⟨T0,0,(fun h=>by cases h),Aj Bm (by simp) fun w0 I0=>?_⟩;unfold Bc;simp[hlt,hy,c95',c123',show ¬ s.length≤k by omega,show ¬ (d:Int)+1=0 by omega,Aa,splice];refine Af hlet rfl ?_;simp[e1,show ¬ K=0 by omega,show(s.length:Int)≤(k:Int)+1 by omega,Aa,splice];exact AF ⟨FT,Ab rfl,Ab rfl,trivial⟩
 ·have hnil:s.drop k=[]:=List.drop_of_length_le (by omega);rw[hnil] at hM;have hM2:M=(T0,false,0):=hM;clear hM;subst hM2;refine⟨T0,0,(fun h=>by cases h),Aj Bm (by simp) fun w0 I0=>?_⟩;unfold Bc;simp[hlt,show s.length≤k by omega,Aa,splice];exact AF ⟨FT,Ab rfl,Ab rfl,trivial⟩
theorem Yn:∀ d:Nat,d≤1000→gZ d
 |0,_=>ab
 |d+1,h=>ca (by omega) (Yn d (by omega))
theorem KC {s:List UInt8} (hs:s.length≤1000000000):G.Spec Tryz.prog 46 [S s] (.tup [tX (A0 AI s),bv (Kb AI s)]):=by
 obtain⟨t,n,hF,hT⟩:=Yn 64 (by omega) hs 0 (by omega);rw[List.drop_zero] at hF hT;refine Aj MI (by simp) fun w0 I0=>?_;have hwf:(Az AI 64 s).2.1=true→Gc (Az AI 64 s).1:=fun h=>by
  obtain⟨h1,h2,h3⟩:=Jq Oa 64 s _ _ (DE h);refine Hm 64 _ h3 ?_;rw[← h1];simp;omega
 unfold A0 Kb;generalize Az AI 64 s=M at hT hF hwf;unfold HK;simp;refine Af hT rfl ?_;cases hb:M.2.1 with
 |false=>
  simp;refine Ap rfl ?_;simp[splice,Aa];exact AF ⟨FT,Ab rfl,trivial⟩
 |true=>
  obtain⟨rfl,rfl⟩:=hF hb;by_cases hl:M.2.2=s.length
  ·have hR:=HZ _ (hwf hb) 64 (by omega);simp[hl];rw[FZ];simp;refine Af hR rfl ?_;cases hr:Ax 64 M.1 with
   |true=>
    simp[splice,Aa];exact AF ⟨Ab rfl,Ab rfl,trivial⟩
   |false=>
    simp[splice,Aa];exact AF ⟨FT,Ab rfl,trivial⟩
  ·have hl2:¬ (M.2.2:Int)=s.length:=by omega
   simp[hl,hl2];refine Ap rfl ?_;simp[splice,Aa];exact AF ⟨FT,Ab rfl,trivial⟩
theorem X6 (s:List UInt8):Kb AI s=Kb AG s∧A0 AI s=A0 AG s:=by
 have key:∀ {num num':List UInt8→Nat × Bool × Nat},MW num→MW num'→Kb num s=true→Kb num' s=true∧A0 num s=A0 num' s:=fun {num num'} h h' ho=>by
  unfold Kb at ho;simp only[Bool.and_eq_true,decide_eq_true_eq] at ho;obtain⟨⟨h1,h2⟩,h3⟩:=ho;have e:=DE h1;rw[h2] at e;have e':=(RC h h' e).1;unfold A0 Kb;rw[e',e];simp[h3]
 cases hP:Kb AG s with
 |true => 
  obtain⟨h1,h2⟩:=key G0 Oa hP;exact⟨h1,h2.symm⟩
 |false=>
  cases hQ:Kb AI s with
  |true=>
   have:=(key Oa G0 hQ).1;rw[hP] at this;cases this
  |false=>
   refine⟨rfl,?_⟩;unfold A0;rw[if_neg (by rw[hQ];simp),if_neg (by rw[hP];simp)]
theorem K1 {num:List UInt8→Nat × Bool × Nat} (h:MW num) {s:List UInt8} (ho:Kb num s=true):Ah (A0 num s)=s∧Cd 64 (A0 num s)∧Ax 64 (A0 num s)=true:=by
 have hp:A0 num s=(Az num 64 s).1:=by unfold A0;rw[if_pos ho]
 unfold Kb at ho;simp only[Bool.and_eq_true,decide_eq_true_eq] at ho;obtain⟨⟨h1,h2⟩,h3⟩:=ho;have e:=DE h1;rw[h2] at e;obtain⟨_,e2,e3⟩:=RC h h e;rw[hp];exact⟨e2,e3,h3⟩
theorem Oi {num:List UInt8→Nat × Bool × Nat} (h:MW num) {t:T} (hp:Cd 64 t) (hr:Ax 64 t=true):Kb num (Ah t)=true∧A0 num (Ah t)=t:=by
 have e:=QZ h 64 t [] hp;rw[List.append_nil] at e;have:Kb num (Ah t)=true:=by
  unfold Kb;rw[e];simp[hr]
 refine⟨this,?_⟩;unfold A0;rw[if_pos this,e]
def Jo:Nat→List UInt8→Option Nat
 |n,[]=>some n
 |n,c::r=>match Bg c with
  |some d=>if n<1152921504606846976 then Jo (n*16+d) r else none
  |none=>none
theorem Tz:∀ (r:List UInt8) (n m:Nat),n<18446744073709551616→Jo n r=some m→m<18446744073709551616
 |[],n,m,hn,h=>by cases h;exact hn
 |c::r,n,m,hn,h=>by
  unfold Jo at h;split at h
  ·rename_i d hd;have:=(Gl hd).1;split at h
   ·exact Tz r _ m (by omega) h
   ·cases h
  ·cases h
theorem U7:∀ (l m:List UInt8) (n:Nat),Jo n (l++m)=(Jo n l).bind fun k=>Jo k m
 |[],m,n=>rfl
 |c::l,m,n=>by
  simp only[List.cons_append,Jo];split
  ·split
   ·exact U7 l m _
   ·rfl
  ·rfl
theorem Rb:∀ q:Nat,q<18446744073709551616→Jo 0 (Am q)=some q:=by
 intro q;induction q using Nat.strongRecOn with
 |_ q ih=>
  intro hq;by_cases h:q<16
  ·rw[Ce h];simp only[Jo,KI h];rw[if_pos (by omega)];simp
  ·rw[Gw (by omega),U7,ih (q / 16) (by omega) (by omega)];simp only[Option.bind_some,Jo,KI (show q % 16<16 by omega)];rw[if_pos (by omega)];congr 1;omega
def R6 (r:List UInt8):List UInt8:=r.takeWhile fun c=>(Bg c).isSome
theorem Yh:∀ {r:List UInt8},∀ c,c ∈ R6 r→∃ d,Bg c=some d
 |[],c,hc=>by cases hc
 |x::r,c,hc=>by
  unfold R6 at hc;by_cases h:(Bg x).isSome=true
  ·rw[List.takeWhile_cons_of_pos (p:=fun c=>(Bg c).isSome) h] at hc;rcases List.mem_cons.1 hc with rfl | hc
   ·exact Option.isSome_iff_exists.1 h
   ·exact Yh (r:=r) c hc
  ·rw[List.takeWhile_cons_of_neg (p:=fun c=>(Bg c).isSome) h] at hc;cases hc
theorem Z5 (r:List UInt8):(R6 r).length≤r.length:=by
 unfold R6;exact(List.takeWhile_prefix _).length_le
theorem Vl (r:List UInt8):r.take (R6 r).length=R6 r:=by
 unfold R6;exact(List.prefix_iff_eq_take.1 (List.takeWhile_prefix _)).symm
theorem eO {l rest:List UInt8} (hl:∀ c,c ∈ l→∃ d,Bg c=some d) (hr:∀ c,rest.head? = some c→Bg c=none):R6 (l++rest)=l:=by
 unfold R6;rw[List.takeWhile_append_of_pos (fun c hc=>Option.isSome_iff_exists.2 (hl c hc))];cases rest with
 |nil=>simp
 |cons c r=>rw[List.takeWhile_cons_of_neg (p:=fun c=>(Bg c).isSome) (by rw[hr c rfl];simp),List.append_nil]
def DN (most:Nat) (r:List UInt8):Option (Nat × Nat):=
 if R6 r=[] then none else match Jo 0 (R6 r) with
  |some n=>if Am n=R6 r∧n≤most then some (n,(R6 r).length) else none
  |none=>none
theorem Lh {most n:Nat} {rest:List UInt8} (hn:n<18446744073709551616) (hm:n≤most) (hr:∀ c,rest.head? = some c→Bg c=none):DN most (Am n++rest)=some (n,(Am n).length):=by
 have e:=eO (HO n) hr;unfold DN;rw[e,Rb n hn];have:=Dc n;rw[if_neg (fun h=>by rw[h] at this;simp at this)];simp[hm]
theorem Io {most:Nat} {r:List UInt8} {n k:Nat} (h:DN most r=some (n,k)):n≤most∧n<18446744073709551616∧r.take k=Am n∧k≤r.length∧1≤k:=by
 unfold DN at h;split at h
 ·cases h
 ·rename_i hne;split at h
  ·rename_i m hm;split at h
   ·rename_i hh;cases h;refine⟨hh.2,Tz _ _ _ (by omega) hm,by rw[Vl,hh.1],Z5 r,?_⟩;cases hq:R6 r with
    |nil=>exact(hne hq).elim
    |cons c l=>simp
   ·cases h
  ·cases h
def Bf:Nat→List UInt8→Nat
 |_,[]=>0
 |o,c::r=>if c=0 then 0 else if c=123∨c=91 then 1+Bf (o+1) r else if c=125∨c=93 then (if o≤1 then 1 else 1+Bf (o-1) r) else if c=95 then (if o=0 then 1 else 1+Bf o r) else 1+Bf o r
theorem RE:∀ (r:List UInt8) (o:Nat),Bf o r≤r.length
 |[],o=>by simp[Bf]
 |c::r,o=>by
  have h:=RE r;have h1:=h (o+1);have h2:=h (o-1);have h3:=h o;unfold Bf;simp only[List.length_cons]
  repeat' split
  all_goals omega
def CE (r:List UInt8):Option (T × Nat):=if Kb AG (r.take (Bf 0 r))=true then some (A0 AG (r.take (Bf 0 r)),Bf 0 r) else none
def AY (c:UInt8) (r:List UInt8):Option Nat:=if A1 r c=true then some 1 else none
def Cg (n:Nat) (r:List UInt8):Option Nat:=if n=0 then some 0 else AY 44 r
def Jh (r:List UInt8):Option (WE × Nat):=
 match DN 1048576 r with
 |none=>none
 |some (a,k1)=>match AY 58 (r.drop k1) with
  |none=>none
  |some _=>match DN 255 (r.drop (k1+1)) with
   |none=>none
   |some (m,k2)=>match AY 58 (r.drop (k1+1+k2)) with
    |none=>none
    |some _=>match DN 18446744073709551615 (r.drop (k1+1+k2+1)) with
     |none=>none
     |some (o,k3)=>match AY 58 (r.drop (k1+1+k2+1+k3)) with
      |none=>none
      |some _=>match DN 18446744073709551615 (r.drop (k1+1+k2+1+k3+1)) with
       |none=>none
       |some (w,k4)=>some (⟨a,m,o,w⟩,k1+1+k2+1+k3+1+k4)
def B5:Nat→Nat→List UInt8→Option (List WE × Nat)
 |0,_,_=>none
 |f+1,n,r=>if Ey r=124 then some ([],0) else match Cg n r with
  |none=>none
  |some k0=>match Jh (r.drop k0) with
   |none=>none
   |some (w,k1)=>match B5 f (n+1) (r.drop (k0+k1)) with
    |none=>none
    |some (ws,k2)=>some (w::ws,k0+k1+k2)
section
variable (ed:List UInt8→Option (E × Nat))
def N9 (r:List UInt8):Option (KE × Nat):=
 match DN 1048576 r with
 |none=>none
 |some (a,k1)=>match AY 58 (r.drop k1) with
  |none=>none
  |some _=>match ed (r.drop (k1+1)) with
   |none=>none
   |some (e,k2)=>some (.mk a e,k1+1+k2)
def Dq:Nat→Nat→List UInt8→Option (List KE × Nat)
 |0,_,_=>none
 |f+1,n,r=>if Ey r=125 then some ([],0) else match Cg n r with
  |none=>none
  |some k0=>match N9 ed (r.drop k0) with
   |none=>none
   |some (w,k1)=>match Dq f (n+1) (r.drop (k0+k1)) with
    |none=>none
    |some (ws,k2)=>some (w::ws,k0+k1+k2)
def EM (r:List UInt8):Option (E × Nat):=
 match AY 123 r with
 |none=>none
 |some _=>match B5 (r.length+1) 0 (r.drop 1) with
  |none=>none
  |some (ws,k1)=>match AY 124 (r.drop (1+k1)) with
   |none=>none
   |some _=>match Dq ed (r.length+1) 0 (r.drop (1+k1+1)) with
    |none=>none
    |some (ks,k2)=>match AY 125 (r.drop (1+k1+1+k2)) with
     |none=>none
     |some _=>some (.mk 2 T0 T0 ws ks 0 [],1+k1+1+k2+1)
def CZ (l:Int) (r:List UInt8):Option (OP × Nat):=
 if Ey r=107 then (match DN 1048576 (r.drop 1) with
  |none=>none
  |some (n,k)=>some (.mk 0 n [] E0,1+k))
 else if Ey r=42 then (match ed (r.drop 1) with
  |none=>none
  |some (e,k)=>some (.mk 3 0 [] e,1+k))
 else if Ey r=45∨Ey r=43 then (match CE (r.drop 1) with
  |none=>none
  |some (t,k)=>if t.kind=l then some (.mk (if Ey r=45 then 1 else 2) 0 t.kids E0,1+k) else none)
 else none
def BT (l:Int):Nat→Nat→List UInt8→Option (List OP × Nat)
 |0,_,_=>none
 |f+1,n,r=>if Ey r=93 then some ([],0) else match Cg n r with
  |none=>none
  |some k0=>match CZ ed l (r.drop k0) with
   |none=>none
   |some (w,k1)=>match BT l f (n+1) (r.drop (k0+k1)) with
    |none=>none
    |some (ws,k2)=>some (w::ws,k0+k1+k2)
def EP (r:List UInt8):Option (E × Nat):=
 if 2≤r.length∧Kb AG (r.take 2++[93])=true then
  match BT ed (A0 AG (r.take 2++[93])).kind (r.length+1) 0 (r.drop 2) with
  |none=>none
  |some (os,k1)=>match AY 93 (r.drop (2+k1)) with
   |none=>none
   |some _=>some (.mk 3 T0 T0 [] [] (A0 AG (r.take 2++[93])).kind os,2+k1+1)
 else none
end
def NK (r:List UInt8):Option (E × Nat):=
 match CE r with
 |none=>none
 |some (o,k1)=>match AY 62 (r.drop k1) with
  |none=>none
  |some _=>match CE (r.drop (k1+1)) with
   |none=>none
   |some (n,k2)=>match AY 41 (r.drop (k1+1+k2)) with
    |none=>none
    |some _=>some (.mk 1 o n [] [] 0 [],k1+1+k2+1)
def KX {α:Type} (k:Nat):Option (α × Nat)→Option (α × Nat)
 |some (x,n)=>some (x,k+n)
 |none=>none
def Be:Nat→List UInt8→Option (E × Nat)
 |0,_=>none
 |d+1,r=>if A1 r 61=true then some (E0,1)
  else if A1 r 40=true then KX 1 (NK (r.drop 1))
  else if A1 r 115=true then KX 1 (EM (Be d) (r.drop 1))
  else if A1 r 108=true then KX 1 (EP (Be d) (r.drop 1))
  else none
theorem Hi:∀ l:List (List UInt8),Lib.join l [44]=Ag l
 |[]=>rfl
 |[x]=>by simp[Lib.join,List.intercalate]
 |x::y::l=>by
  have:=Hi (y::l);rw[Ag,← this];simp[Lib.join,List.intercalate]
def Aq (w:WE):List UInt8:=Am w.at_.toNat++58::(Am w.mask.toNat++58::(Am w.old.toNat++58::Am w.new.toNat))
mutual
def Bb:E→List UInt8
 |.mk k o n ws ks l os=>if k=1 then 40::(Ah o++62::(Ah n++[41]))
  else if k=2 then 115::123::(Ag (ws.map Aq)++124::(Ag (JT ks)++[125]))
  else if k=3 then 108::A9 l::91::(Ag (JC l os)++[93]) else [61]
def JT:List KE→List (List UInt8)
 |[]=>[]
 |.mk a e::l=>(Am a.toNat++58::Bb e)::JT l
def JC:Int→List OP→List (List UInt8)
 |_,[]=>[]
 |l,.mk k n t e::r=>(if k=1 then 45::Ah (.mk l [] t) else if k=2 then 43::Ah (.mk l [] t) else if k=3 then 42::Bb e else 107::Am n.toNat)::JC l r
end
def Av (x:KE):List UInt8:=Am x.at_.toNat++58::Bb x.e
def Au (l:Int) (x:OP):List UInt8:=if x.kind=1 then 45::Ah (.mk l [] x.l) else if x.kind=2 then 43::Ah (.mk l [] x.l) else if x.kind=3 then 42::Bb x.e else 107::Am x.n.toNat
theorem Q0:∀ l,JT l=l.map Av
 |[]=>by rw[JT];rfl
 |.mk a e::l=>by rw[JT,Q0 l];rfl
theorem QH (k:Int):∀ l,JC k l=l.map (Au k)
 |[]=>by rw[JC];rfl
 |.mk a n t e::l=>by rw[JC,QH k l];rfl
theorem C9 (k:Int) (o n:T) (ws:List WE) (ks:List KE) (l:Int) (os:List OP):Bb (.mk k o n ws ks l os)=if k=1 then 40::(Ah o++62::(Ah n++[41]))
  else if k=2 then 115::123::(Ag (ws.map Aq)++124::(Ag (ks.map Av)++[125]))
  else if k=3 then 108::A9 l::91::(Ag (os.map (Au l))++[93]) else [61]:=by rw[Bb,Q0,QH]
theorem Fu:∀ {l:List (List UInt8)} {x:List UInt8},x ∈ l→x.length≤(Ag l).length
 |[y],x,h=>by simp at h;subst h;simp
 |y::z::l,x,h=>by
  rcases List.mem_cons.1 h with rfl | h
  ·simp[Ag]
  ·have:=Fu h;simp[Ag];omega
theorem BG:∀ {l:List (List UInt8)},l.length≤(Ag l).length+1
 |[]=>by simp
 |[x]=>by simp
 |x::y::l=>by
  have:=BG (l:=y::l);simp[Ag] at this ⊢;omega
theorem KF {r:List UInt8} {c:UInt8} (h:A1 r c=true):1≤r.length:=by
 cases r with
 |nil=>cases h
 |cons x r=>simp
theorem BC {c:UInt8} {r:List UInt8} {n:Nat} (h:AY c r=some n):n=1∧1≤r.length:=by
 unfold AY at h;split at h
 ·rename_i h1;cases h;exact⟨rfl,KF h1⟩
 ·cases h
theorem Hl {m n:Nat} {r:List UInt8} (h:Cg m r=some n):n≤r.length:=by
 unfold Cg at h;split at h
 ·cases h;omega
 ·obtain⟨rfl,h2⟩:=BC h;exact h2
theorem F8 {most:Nat} {r:List UInt8} {q:Nat × Nat} (h:DN most r=some q):q.1≤most∧q.1<18446744073709551616∧q.2≤r.length∧1≤q.2:=by
 obtain⟨n,k⟩:=q;obtain⟨h1,h2,_,h3,h4⟩:=Io h;exact⟨h1,h2,h3,h4⟩
theorem Kq {r:List UInt8} {q:T × Nat} (h:CE r=some q):q.2≤r.length:=by
 unfold CE at h;split at h
 ·cases h;exact RE r 0
 ·cases h
def rf (w:WE):Prop:=0≤w.at_∧w.at_≤1048576∧0≤w.mask∧w.mask≤255∧0≤w.old∧w.old<18446744073709551616∧0≤w.new∧w.new<18446744073709551616
theorem UA {r:List UInt8} {q:WE × Nat} (h:Jh r=some q):1≤q.2∧q.2≤r.length∧rf q.1:=by
 unfold Jh at h;cases e1:DN 1048576 r with
 |none=>rw[e1] at h;cases h
 |some q1=>
  obtain⟨a,k1⟩:=q1;rw[e1] at h;simp only at h;have f1:=F8 e1;cases e2:AY 58 (r.drop k1) with
  |none=>rw[e2] at h;cases h
  |some u2=>
   rw[e2] at h;simp only at h;have f2:=BC e2;cases e3:DN 255 (r.drop (k1+1)) with
   |none=>rw[e3] at h;cases h
   |some q3=>
    obtain⟨m,k2⟩:=q3;rw[e3] at h;simp only at h;have f3:=F8 e3;cases e4:AY 58 (r.drop (k1+1+k2)) with
    |none=>rw[e4] at h;cases h
    |some u4=>
     rw[e4] at h;simp only at h;have f4:=BC e4;cases e5:DN 18446744073709551615 (r.drop (k1+1+k2+1)) with
     |none=>rw[e5] at h;cases h
     |some q5=>
      obtain⟨o,k3⟩:=q5;rw[e5] at h;simp only at h;have f5:=F8 e5;cases e6:AY 58 (r.drop (k1+1+k2+1+k3)) with
      |none=>rw[e6] at h;cases h
      |some u6=>
       rw[e6] at h;simp only at h;have f6:=BC e6;cases e7:DN 18446744073709551615 (r.drop (k1+1+k2+1+k3+1)) with
       |none=>rw[e7] at h;cases h
       |some q7=>
        obtain⟨w,k4⟩:=q7;rw[e7] at h;simp only at h;have f7:=F8 e7;cases h;simp only[List.length_drop] at f2 f3 f4 f5 f6 f7;simp only at f1 f3 f5 f7;refine⟨by simp only;omega,by simp only;omega,?_⟩;unfold rf;simp only;omega
theorem Lo:∀ (f n:Nat) (r:List UInt8) (q:List WE × Nat),B5 f n r=some q→q.2≤r.length∧q.1.length≤r.length∧∀ w,w ∈ q.1→rf w
 |0,n,r,q,h=>by cases h
 |f+1,n,r,q,h=>by
  unfold B5 at h;split at h
  ·cases h;simp
  ·cases e0:Cg n r with
   |none=>rw[e0] at h;cases h
   |some k0=>
    rw[e0] at h;simp only at h;have f0:=Hl e0;cases e1:Jh (r.drop k0) with
    |none=>rw[e1] at h;cases h
    |some q1=>
     obtain⟨w,k1⟩:=q1;rw[e1] at h;simp only at h;obtain⟨f1,f2,f3⟩:=UA e1;cases e2:B5 f (n+1) (r.drop (k0+k1)) with
     |none=>rw[e2] at h;cases h
     |some q2=>
      obtain⟨ws,k2⟩:=q2;rw[e2] at h;simp only at h;obtain⟨g1,g2,g3⟩:=Lo f (n+1) _ _ e2;cases h;simp only[List.length_drop] at f2 g1 g2;simp only at f1 f2 g1 g2 g3;refine⟨by simp only;omega,by simp only[List.length_cons];omega,fun x hx=>?_⟩;rcases List.mem_cons.1 hx with rfl | hx
      ·exact f3
      ·exact g3 x hx
section
variable {ed:List UInt8→Option (E × Nat)} (hed:∀ r q,ed r=some q→q.2≤r.length)
include hed
theorem eG {r:List UInt8} {q:KE × Nat} (h:N9 ed r=some q):1≤q.2∧q.2≤r.length∧0≤q.1.at_∧q.1.at_≤1048576∧∃ r' k,ed r'=some (q.1.e,k)∧r'.length≤r.length:=by
 unfold N9 at h;cases e1:DN 1048576 r with
 |none=>rw[e1] at h;cases h
 |some q1=>
  obtain⟨a,k1⟩:=q1;rw[e1] at h;simp only at h;have f1:=F8 e1;cases e2:AY 58 (r.drop k1) with
  |none=>rw[e2] at h;cases h
  |some u2=>
   rw[e2] at h;simp only at h;have f2:=BC e2;cases e3:ed (r.drop (k1+1)) with
   |none=>rw[e3] at h;cases h
   |some q3=>
    obtain⟨e,k2⟩:=q3;rw[e3] at h;simp only at h;have f3:=hed _ _ e3;cases h;simp only[List.length_drop] at f2 f3;simp only at f1 f3;refine⟨by simp only;omega,by simp only;omega,by simp only[KE.at_mk];omega,by simp only[KE.at_mk];omega,_,_,e3,by simp⟩
theorem Rl:∀ (f n:Nat) (r:List UInt8) (q:List KE × Nat),Dq ed f n r=some q→q.2≤r.length∧q.1.length≤r.length∧∀ x,x ∈ q.1→0≤x.at_∧x.at_≤1048576∧∃ r' k,ed r'=some (x.e,k)∧r'.length≤r.length
 |0,n,r,q,h=>by cases h
 |f+1,n,r,q,h=>by
  unfold Dq at h;split at h
  ·cases h;simp
  ·cases e0:Cg n r with
   |none=>rw[e0] at h;cases h
   |some k0=>
    rw[e0] at h;simp only at h;have f0:=Hl e0;cases e1:N9 ed (r.drop k0) with
    |none=>rw[e1] at h;cases h
    |some q1=>
     obtain⟨w,k1⟩:=q1;rw[e1] at h;simp only at h;obtain⟨f1,f2,f3,f4,r',k',f5,f6⟩:=eG hed e1;cases e2:Dq ed f (n+1) (r.drop (k0+k1)) with
     |none=>rw[e2] at h;cases h
     |some q2=>
      obtain⟨ws,k2⟩:=q2;rw[e2] at h;simp only at h;obtain⟨g1,g2,g3⟩:=Rl f (n+1) _ _ e2;cases h;simp only[List.length_drop] at f2 f6 g1 g2 g3;simp only at f1 f2 g1 g2 g3;refine⟨by simp only;omega,by simp only[List.length_cons];omega,fun x hx=>?_⟩;rcases List.mem_cons.1 hx with rfl | hx
      ·exact⟨f3,f4,r',k',f5,by omega⟩
      ·obtain⟨a1,a2,r2,k3,a3,a4⟩:=g3 x hx;exact⟨a1,a2,r2,k3,a3,by omega⟩
theorem W4 {r:List UInt8} {q:E × Nat} (h:EM ed r=some q):q.2≤r.length:=by
 unfold EM at h;cases e0:AY 123 r with
 |none=>rw[e0] at h;cases h
 |some u0=>
  rw[e0] at h;simp only at h;have f0:=BC e0;cases e1:B5 (r.length+1) 0 (r.drop 1) with
  |none=>rw[e1] at h;cases h
  |some q1=>
   obtain⟨ws,k1⟩:=q1;rw[e1] at h;simp only at h;have f1:=Lo _ _ _ _ e1;cases e2:AY 124 (r.drop (1+k1)) with
   |none=>rw[e2] at h;cases h
   |some u2=>
    rw[e2] at h;simp only at h;have f2:=BC e2;cases e3:Dq ed (r.length+1) 0 (r.drop (1+k1+1)) with
    |none=>rw[e3] at h;cases h
    |some q3=>
     obtain⟨ks,k2⟩:=q3;rw[e3] at h;simp only at h;have f3:=Rl hed _ _ _ _ e3;cases e4:AY 125 (r.drop (1+k1+1+k2)) with
     |none=>rw[e4] at h;cases h
     |some u4=>
      rw[e4] at h;simp only at h;have f4:=BC e4;cases h;simp only[List.length_drop] at f2 f4;simp only;omega
theorem U9 {l:Int} {r:List UInt8} {q:OP × Nat} (h:CZ ed l r=some q):1≤q.2∧q.2≤r.length:=by
 have hr:Ey r ≠ 0→1≤r.length:=fun hn=>by
  cases r with
  |nil=>exact(hn rfl).elim
  |cons c r=>simp
 unfold CZ at h;split at h
 ·rename_i h1;have hr:=hr (by rw[h1];decide);cases e1:DN 1048576 (r.drop 1) with
  |none=>rw[e1] at h;cases h
  |some q1=>
   rw[e1] at h;simp only at h;have f1:=F8 e1;cases h;simp only[List.length_drop] at f1;simp only;omega
 ·split at h
  ·rename_i h1;have hr:=hr (by rw[h1];decide);cases e1:ed (r.drop 1) with
   |none=>rw[e1] at h;cases h
   |some q1=>
    rw[e1] at h;simp only at h;have f1:=hed _ _ e1;cases h;simp only[List.length_drop] at f1;simp only;omega
  ·split at h
   ·rename_i h1;have hr:=hr (by rcases h1 with h1 | h1<;>rw[h1]<;>decide);cases e1:CE (r.drop 1) with
    |none=>rw[e1] at h;cases h
    |some q1=>
     rw[e1] at h;simp only at h;have f1:=Kq e1;split at h
     ·cases h;simp only[List.length_drop] at f1;simp only;omega
     ·cases h
   ·cases h
theorem OG (l:Int):∀ (f n:Nat) (r:List UInt8) (q:List OP × Nat),BT ed l f n r=some q→q.2≤r.length∧q.1.length≤r.length
 |0,n,r,q,h=>by cases h
 |f+1,n,r,q,h=>by
  unfold BT at h;split at h
  ·cases h;simp
  ·cases e0:Cg n r with
   |none=>rw[e0] at h;cases h
   |some k0=>
    rw[e0] at h;simp only at h;have f0:=Hl e0;cases e1:CZ ed l (r.drop k0) with
    |none=>rw[e1] at h;cases h
    |some q1=>
     obtain⟨w,k1⟩:=q1;rw[e1] at h;simp only at h;obtain⟨f1,f2⟩:=U9 hed e1;cases e2:BT ed l f (n+1) (r.drop (k0+k1)) with
     |none=>rw[e2] at h;cases h
     |some q2=>
      obtain⟨ws,k2⟩:=q2;rw[e2] at h;simp only at h;obtain⟨g1,g2⟩:=OG l f (n+1) _ _ e2;cases h;simp only[List.length_drop] at f2 g1 g2;simp only at f1 f2 g1 g2;exact⟨by simp only;omega,by simp only[List.length_cons];omega⟩
theorem cp {r:List UInt8} {q:E × Nat} (h:EP ed r=some q):q.2≤r.length:=by
 unfold EP at h;split at h
 ·rename_i hh;generalize (A0 AG (r.take 2++[93])).kind=l at h;cases e1:BT ed l (r.length+1) 0 (r.drop 2) with
  |none=>rw[e1] at h;cases h
  |some q1=>
   obtain⟨os,k1⟩:=q1;rw[e1] at h;simp only at h;have f1:=OG hed l _ _ _ _ e1;cases e2:AY 93 (r.drop (2+k1)) with
   |none=>rw[e2] at h;cases h
   |some u2=>
    rw[e2] at h;simp only at h;have f2:=BC e2;cases h;simp only[List.length_drop] at f1 f2;simp only;omega
 ·cases h
end
theorem cm {r:List UInt8} {q:E × Nat} (h:NK r=some q):q.2≤r.length:=by
 unfold NK at h;cases e0:CE r with
 |none=>rw[e0] at h;cases h
 |some q0=>
  obtain⟨o,k1⟩:=q0;rw[e0] at h;simp only at h;have f0:=Kq e0;cases e1:AY 62 (r.drop k1) with
  |none=>rw[e1] at h;cases h
  |some u1=>
   rw[e1] at h;simp only at h;have f1:=BC e1;cases e2:CE (r.drop (k1+1)) with
   |none=>rw[e2] at h;cases h
   |some q2=>
    obtain⟨n,k2⟩:=q2;rw[e2] at h;simp only at h;have f2:=Kq e2;cases e3:AY 41 (r.drop (k1+1+k2)) with
    |none=>rw[e3] at h;cases h
    |some u3=>
     rw[e3] at h;simp only at h;have f3:=BC e3;cases h;simp only[List.length_drop] at f1 f2 f3;simp only;omega
theorem Ry {α:Type} {k:Nat} {o:Option (α × Nat)} {q:α × Nat} (h:KX k o=some q):∃ n,o=some (q.1,n)∧q.2=k+n:=by
 unfold KX at h;split at h
 ·cases h;exact⟨_,rfl,rfl⟩
 ·cases h
theorem KZ:∀ (d:Nat) (r:List UInt8) (q:E × Nat),Be d r=some q→q.2≤r.length
 |0,r,q,h=>by cases h
 |d+1,r,q,h=>by
  have ih:=KZ d;unfold Be at h;split at h
  ·rename_i h1;have:=KF h1;cases h;exact this
  ·split at h
   ·rename_i h1;have:=KF h1;obtain⟨n,e1,e2⟩:=Ry h;have f:=cm e1;simp only[List.length_drop] at f;omega
   ·split at h
    ·rename_i h1;have:=KF h1;obtain⟨n,e1,e2⟩:=Ry h;have f:=W4 ih e1;simp only[List.length_drop] at f;omega
    ·split at h
     ·rename_i h1;have:=KF h1;obtain⟨n,e1,e2⟩:=Ry h;have f:=cp ih e1;simp only[List.length_drop] at f;omega
     ·cases h
end Go.Proofs.YtebihdhapepejaaGreatDoor
