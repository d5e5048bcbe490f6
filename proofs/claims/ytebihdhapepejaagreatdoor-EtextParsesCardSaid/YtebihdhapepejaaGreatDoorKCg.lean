/-
 Texts,merged,without what is not reached.
-/
import Derived.Test.YtebihdhapepejaaGreatDoorKCf
set_option linter.unusedSimpArgs false
set_option linter.unusedVariables false
open Go.IntKind (i64 u64)
namespace Go.Proofs.YtebihdhapepejaaGreatDoor
open Go Go.G Go.Proofs Go.PL
abbrev oL (o:OP):List A:=iv o.kind::iv o.n::Eg o.l::eL o.e
variable {n0:Nat} {w0:World} {I0:Nat→Prop} {Q:Exit→Sta→Prop}
theorem iZ {list:Int} (hk:AU list) {o:OP} (h:Uv o) (ih:JM o.e) {H:Hp} (hH:H [1]=⟨1,.cells (oL o)⟩) {R:Bool} (hR:R=(decide (o.n=0)&&!o.l.isEmpty&&J6 o.e&&(o.l.all fun t=>Ax 64 (.mk list [] [t])))) :
  WPC (cx Tryz.prog w0 I0 n0) Jw (Ka Tryz.prog [.tmp 6] (bv R)) ⟨lk [(3,aw list),(4,.pob [1] 1 0)],H⟩:=by
 have hll:=h.ll;rw[Jw.eq_1];have ih1:=ih 1 (by omega);rw[← Rs] at hR;by_cases c1:o.n=0;rotate_left
 ·simp[hH,c1];refine Ap rfl ?_;simp[hH];refine Ap rfl ?_;simp;exact Ai (by rw[hR];simp[c1])
 by_cases c2:o.l=[]
 ·simp[hH,c1,c2];refine Ap rfl ?_;simp[hH,c2];refine Ap rfl ?_;simp;exact Ai (by rw[hR];simp[c2])
 have c2':0<o.l.length:=List.length_pos_iff.2 c2;have c2e:o.l.isEmpty=false:=by cases hh:o.l<;>simp_all
 simp[hH,c1,c2'];refine AH rfl (fun _=>ih1) (fun _=>rfl) rfl ?_;cases hr:AQ 1 o.e with
 |false=>
  simp[hH,c1,c2'];refine Ap rfl ?_;simp;exact Ai (by rw[hR,hr];simp)
 |true=>
  by_cases c4:o.e.kind=0
  ·simp[hH,c4];refine AH rfl (fun _=>Q9 hk hll h.l) (fun _=>rfl) rfl ?_;simp;refine Ai ?_;rw[hR,hr,c1,c4,c2e];simp[List.all_eq_not_any_not]
  ·simp[hH,c4];refine Ap rfl ?_;simp;exact Ai (by rw[hR];simp[c4])
set_option maxRecDepth 8000 in
theorem de {list:Int} (hk:2≤list∧list≤9) {o:OP} (h:Uv o) (ih:JM o.e) {d:Nat} (hd:d≤1000):G.Spec Tryz.prog 89 [iv list,oX o,iv d] (bv (D8 d list o)):=by
 have he:=wfE_iff.1 h.e;have hll:=h.ll;have hk64:AU list:=⟨by omega,by omega⟩;obtain⟨R,hR⟩:∃ R,R=D8 d list o:=⟨_,rfl⟩;rw[← hR];rw[FC] at hR;unfold EW at hR;refine Aj YF (by simp) fun w0 I0=>?_;unfold Td;have stopper:(o.kind=1∨o.kind=2)→LU (cx Tryz.prog w0 I0 90) (WPC (cx Tryz.prog w0 I0 90) Jw (Ka Tryz.prog [.tmp 6] (bv R))) ⟨lk [(3,.pob [0] 1 0),(4,.pob [1] 1 0)],Dl [([0],⟨1,.cells [iv list]⟩),([1],⟨1,.cells (oL o)⟩)]⟩:=fun hkk=>by
  refine Lj (Xy (c:=cx Tryz.prog w0 I0 90) [[0]] 3 (aw list) (fun _ _ h=>h) ?_) (Lj (A4 [(3,aw list),(4,.pob [1] 1 0)] (by simp[upd])) (AA ?_))
  ·exact Tt (cs:=[iv list]) (by simp[SP]) ⟨Ab rfl,trivial⟩ rfl
  ·simp[UR];refine iZ hk64 h ih ?_ ?_
   ·first | rfl | simp
   rw[hR,if_neg (by omega)];by_cases c1:o.n=0
   ·rw[if_neg (by omega),if_pos (by omega),if_neg (by omega)];simp[c1];cases o.l.isEmpty<;>simp[Bool.and_comm]
   ·rw[if_pos (by omega)];simp[c1]
 by_cases k0:o.kind=0
 ·rw[if_pos k0,if_neg (by omega),Bool.and_true,← Rs] at hR;simp[k0];by_cases c:1≤o.n∧o.n≤1048576∧o.l=[]
  ·obtain⟨a,b,c⟩:=c;simp[a,b,c];refine AH rfl (fun _=>ih 1 (by omega)) (fun _=>rfl) rfl ?_;simp;refine Ai ?_;rw[hR];simp[a,b,c]
  ·have hc:(decide (1≤o.n)&&decide (o.n≤1048576)&&decide (o.l=[]))=false:=by
    rw[Bool.eq_false_iff];intro e;simp at e;exact c ⟨e.1.1,e.1.2,e.2⟩
   simp[hc];refine Ap rfl ?_;simp[hc];refine Ai ?_;rw[hR];have:(decide (1≤o.n)&&decide (o.n≤1048576)&&o.l.isEmpty)=false:=by
    rw[← hc];cases o.l<;>simp
   rw[this];rfl
 by_cases k1:o.kind=1
 ·simp[k1]
  repeat rw[Bd (by decide)]
  try simp
  repeat rw[Bd (by decide)]
  try simp
  repeat rw[Bd (by decide)]
  try simp
  have:=stopper (.inl k1);unfold oL at this;rw[k1] at this;exact this
 by_cases k2:o.kind=2
 ·simp[k2]
  repeat rw[Bd (by decide)]
  try simp
  repeat rw[Bd (by decide)]
  try simp
  repeat rw[Bd (by decide)]
  try simp
  have:=stopper (.inr k2);unfold oL at this;rw[k2] at this;exact this
 by_cases k3:o.kind=3
 ·rw[if_neg k0,if_pos k3] at hR;simp[k3]
  repeat rw[Bd (by decide)]
  try simp
  repeat rw[Bd (by decide)]
  try simp
  repeat rw[Bd (by decide)]
  try simp
  have hfit:JI list o.e=(!decide (o.e.kind=0)&&!decide (list≤7)&&KD list o):=by
   have hd7:Cc list=decide (list≤7):=by rw[Bool.eq_iff_iff];simp[Cc];omega
   unfold JI KD;rw[hd7];cases decide (list≤7)<;>cases decide (o.e.kind=0)<;>simp[Bool.or_assoc]
  by_cases c:o.n=0∧o.l=[]
  ·obtain⟨c1,c2⟩:=c;have hR':R=(JI list o.e&&AQ d o.e):=by
    rw[hR,if_neg (by omega),if_neg (by omega),hfit];unfold KR;rw[c2];cases AQ d o.e<;>simp
   simp[c1,c2];refine AH rfl (fun _=>Tv list o.e) (fun _=>rfl) rfl ?_;cases hw:JI list o.e with
   |false=>
    simp;refine Ap rfl ?_;simp;exact Ai (by rw[hR',hw];rfl)
   |true=>
    simp;refine AH rfl (fun _=>ih d hd) (fun _=>rfl) rfl ?_;simp;exact Ai (by rw[hR',hw];simp)
  ·have hc:(decide (o.n=0)&&decide (o.l=[]))=false:=by
    rw[Bool.eq_false_iff];intro e;simp at e;exact c e
   simp[hc];refine Ap rfl ?_;simp[hc];refine Ap rfl ?_;simp[hc];refine Ai ?_;rw[hR];by_cases c1:o.n=0
   ·have c2:o.l.isEmpty=false:=by
     cases hh:o.l with
     |nil=>exact absurd ⟨c1,hh⟩ c
     |cons x l=>rfl
    unfold KR;rw[c2];simp
   ·rw[if_pos (by omega)];rfl
 ·simp[k0,k1,k2,k3]
  repeat rw[Bd (by decide)]
  try simp
  repeat rw[Bd (by decide)]
  try simp
  repeat rw[Bd (by decide)]
  try simp
  refine Ai ?_;rw[hR,if_neg k0,if_pos (by omega)];rfl
theorem P3 (n:Int):min n 1048576=JF n:=by unfold JF;split<;>omega
theorem Yk {Q':Exit→Sta→Prop} {o:OP} {a b z:Int} {x y i:A} {u:Nat} {H:Hp} (hH:H [1]=⟨u,.cells (oL o)⟩) (a0:0≤a) (a1:a≤1048576) (b0:0≤b) (b1:b≤1048576) (z0:0≤z) (z1:z<100000000000000)
  (h:Q' .normal ⟨lk [(4,iv (JF (if o.kind=2 then a else a+z))),(5,iv (JF (if o.kind=1 then b else b+z))),(10,x),(11,y),(12,i)],H⟩)
  (h':Q' .normal ⟨lk [(4,iv (JF (if o.kind=2 then a else a+z))),(5,iv (JF (if o.kind=1 then b else b+z))),(8,iv z),(10,x),(11,y),(12,i),(34,bv false)],H⟩) :
  WPC (cx Tryz.prog w0 I0 n0) GZ Q' ⟨lk [(4,iv a),(5,iv b),(7,.pob [1] u 0),(8,iv z),(10,x),(11,y),(12,i)],H⟩:=by
 have ea:i64.wrap (a+z)=a+z:=EK;have eb:i64.wrap (b+z)=b+z:=EK;have sa:JF a=a:=by unfold JF;rw[if_neg (by omega)]
 have sb:JF b=b:=by unfold JF;rw[if_neg (by omega)]
 rw[GZ.eq_1];by_cases h2:o.kind=2
 ·have h1:¬ o.kind=1:=by omega
  simp[hH,h2];rw[Fi.eq_1];simp[hH,h2,eb,P3];simpa[h2,sa] using h
 ·by_cases h1:o.kind=1
  ·simp[hH,h1,ea,P3];rw[Fi.eq_1];simp[hH,h1];simpa[h1,sb] using h'
  ·simp[hH,h2,ea,P3];rw[Fi.eq_1];simp[hH,h1,eb,P3];simpa[h1,h2] using h
theorem fU {os:List OP} (hl:os.length*240≤140737488355328) (ho:∀ x,x ∈ os→0≤x.n∧x.n≤1048576∧x.l.length*56≤140737488355328):∀ (m i:Nat) (a b:Int) (H:Hp),i+m=os.length→0≤a→a≤1048576→0≤b→b≤1048576 →
  (∀ q H',Q (.exit 0) ⟨lk [(4,iv (A2 a b (os.drop i)).1),(5,iv (A2 a b (os.drop i)).2),(10,eg os),(11,iv os.length),(12,iv os.length),(13,bv q)],H'⟩) →
  LoopC (cx Tryz.prog w0 I0 n0) DT Q ⟨lk [(4,iv a),(5,iv b),(10,eg os),(11,iv os.length),(12,iv i)],H⟩:=by
 intro m;induction m with
 |zero=>
  intro i a b H hi a0 a1 b0 b1 hq;have:i=os.length:=by omega
  subst this;refine Ae mixed DT.eq_1 ?_;simp;simpa[A2] using hq false H
 |succ m ih=>
  intro i a b H hi a0 a1 b0 b1 hq;have hlt:i<os.length:=by omega
  have ed:os.drop i=os[i]::os.drop (i+1):=List.drop_eq_getElem_cons hlt;have ei:=A7 i;obtain⟨n1,n2,n3⟩:=ho _ (B0 hlt);rw[ed] at hq;generalize ho':os[i]=o at *;have next:∀ (a' b':Int) H',a'=JF (if o.kind=2 then a else a+Bn o)→b'=JF (if o.kind=1 then b else b+Bn o)→LoopC (cx Tryz.prog w0 I0 n0) DT Q ⟨lk [(4,iv a'),(5,iv b'),(10,eg os),(11,iv os.length),(12,iv ((i+1:Nat):Int))],H'⟩:=fun a' b' H' ha hb=>by
   have h0:0≤Bn o∧Bn o<100000000000000:=by unfold Bn;split<;>omega
   have s1:=Ln (n:=if o.kind=2 then a else a+Bn o) (by split<;>omega);have s2:=Ln (n:=if o.kind=1 then b else b+Bn o) (by split<;>omega);refine ih (i+1) a' b' H' (by omega) (by omega) (by omega) (by omega) (by omega) fun q H2=>?_;have:=hq q H2;have f1:(if o.kind ≠ 2 then a+Bn o else a)=if o.kind=2 then a else a+Bn o:=by by_cases e:o.kind=2<;>simp[e]
   have f2:(if o.kind ≠ 1 then b+Bn o else b)=if o.kind=1 then b else b+Bn o:=by by_cases e:o.kind=1<;>simp[e]
   rw[A2,f1,f2,← ha,← hb] at this;exact this
  have h0:0≤Bn o∧Bn o<100000000000000:=by unfold Bn;split<;>omega
  refine Ae mixed DT.eq_1 ?_;have e1:i64.wrap (o.n+(o.l.length:Int))=o.n+o.l.length:=EK;simp[hlt,ho',Aa,e1];refine⟨fun h3=>?_,fun h3=>?_⟩
  ·have ez:Bn o=1:=by simp[Bn,h3]
   refine Yk (o:=o) (u:=(H [1]).u+1) (z:=1) (by simp[Aa]) (by omega) (by omega) (by omega) (by omega) (by omega) (by omega) ?_ ?_;all_goals
    simp[ei];rw[ez] at next
    exact next _ _ _ rfl rfl
  ·have ez:Bn o=o.n+o.l.length:=by simp[Bn,h3]
   rw[← ez];refine Yk (o:=o) (u:=(H [1]).u+1) (z:=Bn o) (by simp[Aa]) (by omega) (by omega) (by omega) (by omega) (by omega) (by omega) ?_ ?_;all_goals
    simp[ei];exact next _ _ _ rfl rfl
theorem RZ {e:E} (hl:e.ops.length*240≤140737488355328) (ho:∀ x,x ∈ e.ops→0≤x.n∧x.n≤1048576∧x.l.length*56≤140737488355328):G.Spec Tryz.prog 90 [eX e] (.tup [iv (A2 0 0 e.ops).1,iv (A2 0 0 e.ops).2]):=by
 refine Aj QD (by simp) fun w0 I0=>?_;unfold KQ;simp;refine fU (os:=e.ops) hl ho e.ops.length 0 0 0 _ (by omega) (by omega) (by omega) (by omega) (by omega) fun q H'=>?_;simp;exact Ab rfl
theorem eY {e:E} {d:Nat} (hd:d≤1000) (hk:2≤e.list∧e.list≤9) (hl:e.ops.length*240≤140737488355328) (hw:∀ x,x ∈ e.ops→Uv x) (ih:∀ x,x ∈ e.ops→JM x.e):∀ (m i:Nat) (H:Hp),i+m=e.ops.length→H [0]=⟨1,.cells (eL e)⟩ →
  (Ct d e.list (e.ops.drop i)=true→∀ q H',H' [0]=⟨1,.cells (eL e)⟩→Q (.exit 0) ⟨lk [(1,iv d),(2,.pob [0] 1 0),(10,eg e.ops),(11,iv e.ops.length),(12,iv e.ops.length),(13,bv q)],H'⟩)→(Ct d e.list (e.ops.drop i)=false→∀ H',Q .ret ⟨lk [(4,bv false)],H'⟩) →
  LoopC (cx Tryz.prog w0 I0 n0) Ic Q ⟨lk [(1,iv d),(2,.pob [0] 1 0),(10,eg e.ops),(11,iv e.ops.length),(12,iv i)],H⟩:=by
 intro m;induction m with
 |zero=>
  intro i H hi hA h1 h2;have:i=e.ops.length:=by omega
  subst this;refine Ae mixed Ic.eq_1 ?_;simp;exact h1 (by simp) _ _ hA
 |succ m ihm=>
  intro i H hi hA h1 h2;have hlt:i<e.ops.length:=by omega
  have ed:e.ops.drop i=e.ops[i]::e.ops.drop (i+1):=List.drop_eq_getElem_cons hlt;have ei:=A7 i;have hop:=de hk (hw _ (B0 hlt)) (ih _ (B0 hlt)) hd;rw[ed,Jz] at h1 h2;refine Ae mixed Ic.eq_1 ?_;simp[hA,hlt,Aa];refine Af hop rfl ?_;cases hr:D8 d e.list e.ops[i] with
  |false=>
   simp;exact h2 (by simp[hr]) _
  |true=>
   simp[ei];exact ihm (i+1) _ (by omega) (by simp[Aa,hA]) (fun hh=>h1 (by simp[hr,hh])) (fun hh=>h2 (by simp[hh]))
theorem Zb {e:E} (hw:qC e) {d:Nat} (hd:d≤1000) (hk:2≤e.list∧e.list≤9) (ih:∀ x,x ∈ e.ops→JM x.e):G.Spec Tryz.prog 70 [eX e,iv d] (bv (Ct d e.list e.ops&&(decide ((A2 0 0 e.ops).1<1048576)&&decide ((A2 0 0 e.ops).2<1048576)))):=by
 refine Aj WA (by simp) fun w0 I0=>?_;unfold Qw;simp;refine eY hd hk hw.ol hw.os ih e.ops.length 0 _ (by omega) (by simp) (fun hr q H' hA=>?_) (fun hr H'=>?_)
 ·simp only[List.drop_zero] at hr;simp[hA];refine Af (RZ hw.ol (fun x hx=>⟨(fC (rightOs_all.1 hr x hx)).1,(fC (rightOs_all.1 hr x hx)).2,(hw.os x hx).ll⟩)) rfl ?_;simp;refine Ai ?_;rw[hr];simp
 ·simp only[List.drop_zero] at hr;simp;exact Ai (by rw[hr];rfl)
set_option maxRecDepth 10000 in
theorem Wt:∀ (e:E),HT e→JM e:=by
 refine E.ind fun k o nn ws ks l os ihk iho hw d hd=>?_;have h:=wfE_iff.1 hw;have hb:=Wz h;obtain⟨R,hR⟩:∃ R,R=AQ d (.mk k o nn ws ks l os):=⟨_,rfl⟩;rw[← hR];rw[Gi,OT] at hR;have eb:Ys (.mk k o nn ws ks l os)=MN k o nn ws.length ks.length l os.length:=rfl;rw[eb] at hb;have ed:1≤d→i64.wrap ((d:Int)-1)=((d-1:Nat):Int):=fun h=>by rw[Bs (by omega) (by omega)];omega
 refine Aj TM (by simp) fun w0 I0=>?_;unfold Nk;simp;refine Af hb rfl ?_;generalize hB:MN k o nn ws.length ks.length l os.length=B at hR;cases B with
 |false=>
  simp;refine Ai ?_;rw[hR];simp
 |true=>
  by_cases hd0:d=0
  ·subst hd0;simp;refine Ai ?_;rw[hR];simp
  have ed':=ed (by omega);have hh:=OT (d:=d) (k:=k) (o:=o) (n:=nn) (nw:=ws.length) (nk:=ks.length) (l:=l) (no:=os.length);rw[hB] at hh;simp only[Bool.and_true] at hR hh;by_cases kr:k<0∨3<k
  ·have k0:¬ k=0:=by omega
   have k1:¬ k=1:=by omega
   have k2:¬ k=2:=by omega
   have k3:¬ k=3:=by omega
   simp[hd0,k0,k1,k2,k3];refine Ai ?_;rw[hR,if_pos];simp;omega
  have hh1:Ch d k o nn ws.length ks.length l os.length=true:=by
   rw[hh];simp;omega
  obtain⟨_,k0,k3,c1,c2,c3⟩:=headOk_iff.1 hh1;rw[← hh,if_neg (by rw[hh1];simp)] at hR;have hk:k=0∨k=1∨k=2∨k=3:=by omega
  rcases hk with rfl | rfl | rfl | rfl
  ·obtain⟨w0',s0⟩:=c2 (by omega);obtain⟨l0,o0⟩:=c3 (by omega);obtain rfl:=List.eq_nil_of_length_eq_zero w0';obtain rfl:=List.eq_nil_of_length_eq_zero s0;obtain rfl:=List.eq_nil_of_length_eq_zero o0;simp[hd0];refine Ai ?_;rw[hR];simp[Bq,A2]
  ·simp[hd0];refine Af (PD h.o) rfl ?_;simp;refine AH rfl (fun _=>PD h.n) (fun e=>by simp[e]) rfl ?_;simp;refine Ai ?_;rw[hR];simp;cases Ax 64 o<;>cases Ax 64 nn<;>simp<;>rfl
  ·obtain⟨l0,o0⟩:=c3 (by omega);obtain rfl:=List.eq_nil_of_length_eq_zero o0;simp[hd0];refine Af (VM h.wl h.w) rfl ?_;simp[ed'];refine AH rfl (fun _=>WH (d:=d-1) (by omega) h.kl (fun x hx=>ihk x hx (h.ks x hx).2)) (fun e=>by simp[e]) rfl ?_;simp;refine Ai ?_;rw[hR];cases Bq (-1) ws<;>cases Cu (d-1) (-1) ks<;>simp[A2]
  ·obtain⟨w0',s0⟩:=c2 (by omega);obtain rfl:=List.eq_nil_of_length_eq_zero w0';obtain rfl:=List.eq_nil_of_length_eq_zero s0;simp[hd0];refine Af (JW l) rfl ?_;by_cases hl:2≤l∧l≤9
   ·have hl':¬ (l<2∨l > 9):=by omega
    simp[hl.1,hl.2,ed'];refine AH rfl (fun _=>Zb (e:=.mk 3 o nn [] [] l os) (d:=d-1) h (by omega) hl (fun x hx=>iho x hx (h.os x hx).e)) (fun e=>rfl) rfl ?_;simp;refine Ai ?_;rw[hR];simp[Bq,hl'];cases Ct (d-1) l os<;>simp<;>rfl
   ·have hl':l<2∨l > 9:=by omega
    have hf:(decide (2≤l)&&decide (l≤9))=false:=by rw[Bool.eq_false_iff];intro e;simp at e;omega
    simp[hf];refine Ap rfl ?_;simp;refine Ai ?_;rw[hR];simp[Bq,hl']
theorem Ud {e:E} (h:HT e):G.Spec Tryz.prog 24 [eX e] (bv (AQ 64 e)):=by
 refine Aj Ua (by simp) fun w0 I0=>?_;unfold NC;simp;refine Af (Wt e h 64 (by omega)) rfl ?_;simp;exact Ab rfl
end Go.Proofs.YtebihdhapepejaaGreatDoor
namespace Go.Proofs.YtebihdhapepejaaGreatDoor
set_option maxRecDepth 10000
open Go Go.G Go.Proofs Go.PL
def Em (s:List UInt8):E × Bool:=if (En s).2=true∧AQ 64 (En s).1=true then ((En s).1,true) else (E0,false)
theorem Qj {s:List UInt8} (h:(En s).2=true):Bb (En s).1=s∧(s.length≤1000000000→HT (En s).1):=by
 unfold En at h ⊢;cases e:Be 64 s with
 |none=>rw[e] at h;cases h
 |some q=>
  obtain⟨x,n⟩:=q;rw[e] at h;simp at h;subst h;obtain⟨g1,g2⟩:=SN 64 _ _ _ e;exact⟨by rw[g1,List.take_length],g2⟩
set_option maxHeartbeats 1000000 in
theorem Kr {s:List UInt8} (hs:s.length≤1000000000):G.Spec Tryz.prog 9 [S s] (.tup [eX (Em s).1,iv (if (Em s).2=true then 0 else 11)]):=by
 have t1:=VP hs;have hW:=@Qj s;refine Aj RK (by simp) fun w0 I0=>?_;unfold LY Em;generalize (En s).1=e at *;generalize (En s).2=ok at *;cases ok with
 |false=>
  simp;refine Af t1 rfl ?_;simp[Aa,splice];refine Ao (L:=[]) (x:=bv false) (q:=true) rfl (fun h=>by cases h) (fun h=>by cases h) rfl ?_;simp;refine Ao (L:=[]) (x:=S []) (q:=true) rfl (fun h=>by cases h) (fun h=>by cases h) rfl ?_;simp[Aa,splice];refine AF ⟨Ee ⟨Ab rfl,Ab rfl,Ad,Ad,Ab rfl,Ad,Ad,Ad,Ad,Ab rfl,Ad,trivial⟩,Ab rfl,trivial⟩
 |true=>
  obtain⟨hsh,hwf⟩:=hW rfl;have hwf:=hwf hs;have t2:=Ud hwf;simp;refine Af t1 rfl ?_;simp[Aa,splice];refine Ao (q:=false) rfl (fun _=>t2) (fun _=>rfl) rfl ?_;cases hr:AQ 64 e with
  |false=>
   simp;refine Ao (L:=[]) (x:=S []) (q:=true) rfl (fun h=>by cases h) (fun h=>by cases h) rfl ?_;simp[Aa,splice];refine AF ⟨Ee ⟨Ab rfl,Ab rfl,Ad,Ad,Ab rfl,Ad,Ad,Ad,Ad,Ab rfl,Ad,trivial⟩,Ab rfl,trivial⟩
  |true=>
   have t3:=Ie e 64 hr hwf (by rw[hsh];exact hs);rw[hsh] at t3;simp;refine Ao (q:=false) rfl (fun _=>t3) (fun _=>rfl) rfl ?_;simp[Aa,splice,DY];refine AF ⟨Ee ⟨Ab rfl,Ab rfl,Ad,Ad,Ab rfl,Ad,Ad,Ad,Ad,Ab rfl,Ad,trivial⟩,Ab rfl,trivial⟩
end Go.Proofs.YtebihdhapepejaaGreatDoor
namespace Go.Proofs.YtebihdhapepejaaGreatDoor
open Go Go.G Go.Proofs Go.PL
theorem N3 {e:E} (hr:AQ 64 e=true) (hw:HT e):Em (Bb e)=(e,true):=by
 have h:=VI e 64 hr hw [];rw[List.append_nil] at h;have hW:En (Bb e)=(e,true):=by unfold En;rw[h];simp
 unfold Em;rw[hW,if_pos ⟨rfl,hr⟩]
theorem SC {s:List UInt8} (h:(Em s).2=true) (hs:s.length≤1000000000):Bb (Em s).1=s∧AQ 64 (Em s).1=true∧HT (Em s).1:=by
 unfold Em at h ⊢;split
 ·rename_i hh;obtain⟨h1,h2⟩:=Qj hh.1;exact⟨h1,hh.2,h2 hs⟩
 ·rename_i hh;rw[if_neg hh] at h;cases h
theorem SU {s:List UInt8} (h:(Em s).2=false):Em s=(E0,false):=by
 unfold Em at h ⊢;split
 ·rename_i hh;rw[if_pos hh] at h;cases h
 ·rfl
end Go.Proofs.YtebihdhapepejaaGreatDoor
namespace Go.Proofs.YtebihdhapepejaaGreatDoor
set_option maxRecDepth 10000
open Go Go.G Go.Proofs Go.PL
def Fk (s:List UInt8):E × Bool:=if (FI 64 s).2=true∧AQ 64 (FI 64 s).1=true then ((FI 64 s).1,true) else (E0,false)
set_option maxHeartbeats 1000000 in
theorem RN {s:List UInt8} (hs:s.length≤1000000000):G.Spec Tryz.prog 12 [S s] (.tup [eX (Fk s).1,bv (Fk s).2]):=by
 have t1:=bd 64 (by omega) s hs;have hW:=L9 (L0:=1000000000) (by omega) 64 s hs;refine Aj MF (by simp) fun w0 I0=>?_;unfold HM Fk;generalize FI 64 s=q at *;obtain⟨e,ok⟩:=q;simp only at *;cases ok with
 |false=>
  simp;refine Af t1 rfl ?_;simp[Aa,splice];refine Ao (L:=[]) (x:=bv false) (q:=true) rfl (fun h=>by cases h) (fun h=>by cases h) rfl ?_;simp;refine Ao (L:=[]) (x:=S []) (q:=true) rfl (fun h=>by cases h) (fun h=>by cases h) rfl ?_;simp[Aa,splice];refine AF ⟨Ee ⟨Ab rfl,Ab rfl,Ad,Ad,Ab rfl,Ad,Ad,Ad,Ad,Ab rfl,Ad,trivial⟩,Ab rfl,trivial⟩
 |true=>
  obtain⟨hsh,hwf⟩:=hW rfl;have t2:=Pu e hwf 64 (by omega);simp;refine Af t1 rfl ?_;simp[Aa,splice];refine Ao (q:=false) rfl (fun _=>t2) (fun _=>rfl) rfl ?_;cases hr:AQ 64 e with
  |false=>
   simp;refine Ao (L:=[]) (x:=S []) (q:=true) rfl (fun h=>by cases h) (fun h=>by cases h) rfl ?_;simp[Aa,splice];refine AF ⟨Ee ⟨Ab rfl,Ab rfl,Ad,Ad,Ab rfl,Ad,Ad,Ad,Ad,Ab rfl,Ad,trivial⟩,Ab rfl,trivial⟩
  |true=>
   have t3:=Vu e 64 hr hwf (by rw[hsh];exact hs);rw[hsh] at t3;simp;refine Ao (q:=false) rfl (fun _=>t3) (fun _=>rfl) rfl ?_;simp[Aa,splice,DY];refine AF ⟨Ee ⟨Ab rfl,Ab rfl,Ad,Ad,Ab rfl,Ad,Ad,Ad,Ad,Ab rfl,Ad,trivial⟩,Ab rfl,trivial⟩
end Go.Proofs.YtebihdhapepejaaGreatDoor
namespace Go.Proofs.YtebihdhapepejaaGreatDoor
open Go Go.G Go.Proofs Go.PL
theorem YM {e:E} (hr:AQ 64 e=true) (hw:HT e):Fk (Bb e)=(e,true):=by
 have h:FI 64 (Bb e)=(e,true):=cH e 64 hr hw;unfold Fk;rw[h,if_pos ⟨rfl,hr⟩]
theorem YN {s:List UInt8} (h:(Fk s).2=true) (hs:s.length≤1000000000):Bb (Fk s).1=s∧AQ 64 (Fk s).1=true∧HT (Fk s).1:=by
 unfold Fk at h ⊢;split
 ·rename_i hh;obtain⟨h1,h2⟩:=L9 (L0:=1000000000) (by omega) 64 s hs hh.1;exact⟨h1,hh.2,h2⟩
 ·rename_i hh;rw[if_neg hh] at h;cases h
theorem Zz {s:List UInt8} (h:(Fk s).2=false):Fk s=(E0,false):=by
 unfold Fk at h ⊢;split
 ·rename_i hh;rw[if_pos hh] at h;cases h
 ·rfl
theorem W1 {s:List UInt8} (hs:s.length≤1000000000):Em s=Fk s:=by
 cases h:(Em s).2 with
 |true=>
  obtain⟨h1,h2,h3⟩:=SC h hs;have:=YM h2 h3;rw[h1] at this;rw[this];exact Prod.ext rfl h
 |false=>
  rw[SU h];cases h':(Fk s).2 with
  |false=>rw[Zz h']
  |true=>
   obtain⟨h1,h2,h3⟩:=YN h' hs;have:=N3 h2 h3;rw[h1] at this;rw[this] at h;cases h
end Go.Proofs.YtebihdhapepejaaGreatDoor
namespace Go.Proofs.YtebihdhapepejaaGreatDoor
set_option maxRecDepth 10000
open Go Go.G Go.Proofs Go.PL
def bf (n:Int):T:=.mk 10 [n] []
def eK:E:=.mk 3 T0 T0 [] [] 4 [.mk 0 2 [] E0,.mk 1 0 [bf 5] E0,.mk 2 0 [bf 6,bf 7] E0]
def mT:List UInt8:=[108,121,91,107,50,44,45,121,91,53,93,44,43,121,91,54,44,55,93,93]
theorem Rx:Bb eK=mT:=by
 have h:∀ n:Nat,n<16→Am n=[Ji n]:=fun n h=>Ce h;simp[eK,bf,C9,Au,AO,Ag,h,mT,A9,letters];decide
theorem Sq:AQ 64 eK=true:=by decide +kernel
theorem dv:HT eK:=by simp[eK,bf,HT,Y4,ZP,Gc,Xb,AU,D5]
theorem fQ:Em mT=(eK,true):=by rw[← Rx];exact N3 Sq dv
set_option maxHeartbeats 2000000 in
theorem FV:G.Spec Tryz.prog 7 [] (bv true):=by
 have t1:=Kr (s:=mT) (by decide);rw[fQ] at t1;have t2:=Ie eK 64 Sq dv (by rw[Rx];decide);rw[Rx] at t2;refine Aj L6 (by simp) fun w0 I0=>?_;unfold HC;simp[mT] at t1 t2;simp;refine Af t1 rfl ?_;simp[eK,Aa,splice];refine AH rfl (fun _=>t2) (fun _=>by simp[eK]) rfl ?_;simp[Dh];exact Ab rfl
end Go.Proofs.YtebihdhapepejaaGreatDoor
namespace Go.Proofs.YtebihdhapepejaaGreatDoor
open Go Go.G Go.Proofs Go.PL
inductive Lk (R:T→T→Prop):E→E→Prop
 |mk (k:Int) (o n o' n':T) (ws:List WE) (ks ks':List KE) (l:Int) (os os':List OP):R o o'→R n n'→ks.length=ks'.length →
  (∀ (i:Nat) (h:i<ks.length) (h':i<ks'.length),ks[i].at_=ks'[i].at_)→(∀ (i:Nat) (h:i<ks.length) (h':i<ks'.length),Lk R ks[i].e ks'[i].e)→os.length=os'.length →
  (∀ (i:Nat) (h:i<os.length) (h':i<os'.length),os[i].kind=os'[i].kind∧os[i].n=os'[i].n∧(os[i].l.length=os'[i].l.length∧∀ (j:Nat) (g:j<os[i].l.length) (g':j<os'[i].l.length),R (os[i].l[j]) (os'[i].l[j]))) →
  (∀ (i:Nat) (h:i<os.length) (h':i<os'.length),Lk R os[i].e os'[i].e) →
  Lk R (.mk k o n ws ks l os) (.mk k o' n' ws ks' l os')
theorem eh {R:T→T→Prop} (h:∀ t,R t t):∀ e,Lk R e e:=by
 refine E.ind fun k o n ws ks l os ihk iho=>?_;exact .mk _ _ _ _ _ _ _ _ _ _ _ (h o) (h n) rfl (fun i h1 _=>rfl) (fun i h1 _=>ihk _ (B0 h1)) rfl (fun i h1 _=>⟨rfl,rfl,⟨rfl,fun j _ _=>h _⟩⟩) (fun i h1 _=>iho _ (B0 h1))
variable {n0:Nat} {w0:World} {I0:Nat→Prop} {Q:Exit→Sta→Prop}
theorem fu {a b:List T} {H:Hp} (hl:a.length=b.length) (hb:a.length*56≤140737488355328) (h:∀ (i:Nat) (h1:i<a.length) (h2:i<b.length),G.Spec Tryz.prog 27 [tX a[i],tX b[i]] (bv true)) (hq:∀ i q,Q (.exit 0) ⟨lk [(0,Eg a),(1,Eg b),(5,iv i),(14,bv q)],H⟩):∀ (m i:Nat),i+m=a.length →
  LoopC (cx Tryz.prog w0 I0 n0) B7 Q ⟨lk [(0,Eg a),(1,Eg b),(5,nv i)],H⟩:=by
 intro m;induction m with
 |zero=>
  intro i hi;have:i=a.length:=by omega
  subst this;refine Ae mixed B7.eq_1 ?_;simp;exact hq _ _
 |succ m ih=>
  intro i hi;have hlt:i<a.length:=by omega
  have hlt2:i<b.length:=by omega
  have ei:=A7 i;refine Ae mixed B7.eq_1 ?_;simp[hlt,hlt2];refine Af (h i hlt hlt2) (by simp) ?_;simp[ei];exact ih (i+1) (by omega)
theorem Xr {a b:List T} (hl:a.length=b.length) (hb:a.length*56≤140737488355328) (h:∀ (i:Nat) (h1:i<a.length) (h2:i<b.length),G.Spec Tryz.prog 27 [tX a[i],tX b[i]] (bv true)):G.Spec Tryz.prog 28 [Eg a,Eg b] (bv true):=by
 refine Aj JZ (by simp) fun w0 I0=>?_;unfold F1;simp[hl];refine fu hl hb h (fun i q=>?_) a.length 0 (by omega);simp;exact Ab rfl
theorem s8 {e f:E} {H:Hp} (h0:H [0]=⟨1,.cells (eL e)⟩) (h1:H [1]=⟨1,.cells (eL f)⟩) (hw:e.words=f.words) (hb:e.words.length*32≤140737488355328) (hq:∀ i q,Q (.exit 0) ⟨lk [(2,.pob [0] 1 0),(3,.pob [1] 1 0),(5,iv i),(69,bv q)],H⟩):∀ (m i:Nat),i+m=e.words.length →
  LoopC (cx Tryz.prog w0 I0 n0) DQ Q ⟨lk [(2,.pob [0] 1 0),(3,.pob [1] 1 0),(5,nv i)],H⟩:=by
 intro m;induction m with
 |zero=>
  intro i hi;have:i=e.words.length:=by omega
  subst this;refine Ae mixed DQ.eq_1 ?_;simp[h0,h1];exact hq _ _
 |succ m ih=>
  intro i hi;have hlt:i<e.words.length:=by omega
  have hlt2:i<f.words.length:=by rw[← hw];omega
  have ei:=A7 i;have hx:e.words[i]=f.words[i]:=by simp only[hw]
  refine Ae mixed DQ.eq_1 ?_;simp[hlt,hlt2,h0,h1,hx];simp[ei];exact ih (i+1) (by omega)
theorem fS {e f:E} {H:Hp} (h0:H [0]=⟨1,.cells (eL e)⟩) (h1:H [1]=⟨1,.cells (eL f)⟩) (hl:e.kids.length=f.kids.length) (hb:e.kids.length*208≤140737488355328) (hk:∀ (i:Nat) (g:i<e.kids.length) (g':i<f.kids.length),e.kids[i].at_=f.kids[i].at_∧G.Spec Tryz.prog 11 [eX e.kids[i].e,eX f.kids[i].e] (bv true)) (hq:∀ i q,Q (.exit 2) ⟨lk [(2,.pob [0] 1 0),(3,.pob [1] 1 0),(6,iv i),(87,bv q)],H⟩):∀ (m i:Nat),i+m=e.kids.length →
  LoopC (cx Tryz.prog w0 I0 n0) DF Q ⟨lk [(2,.pob [0] 1 0),(3,.pob [1] 1 0),(6,nv i)],H⟩:=by
 intro m;induction m with
 |zero=>
  intro i hi;have:i=e.kids.length:=by omega
  subst this;refine Ae mixed DF.eq_1 ?_;simp[h0,h1];exact hq _ _
 |succ m ih=>
  intro i hi;have hlt:i<e.kids.length:=by omega
  have hlt2:i<f.kids.length:=by omega
  have ei:=A7 i;obtain⟨ha,hs⟩:=hk i hlt hlt2;refine Ae mixed DF.eq_1 ?_;simp[hlt,hlt2,h0,h1,ha];refine Ao rfl (fun _=>hs) (fun _=>rfl) (by simp) ?_;simp[ei];exact ih (i+1) (by omega)
theorem dY {e f:E} (hl:e.ops.length=f.ops.length) (hb:e.ops.length*240≤140737488355328) (hk:∀ (i:Nat) (g:i<e.ops.length) (g':i<f.ops.length),e.ops[i].kind=f.ops[i].kind∧e.ops[i].n=f.ops[i].n∧G.Spec Tryz.prog 28 [Eg e.ops[i].l,Eg f.ops[i].l] (bv true)∧G.Spec Tryz.prog 11 [eX e.ops[i].e,eX f.ops[i].e] (bv true)) (hq:∀ H' i q,Q (.exit 4) ⟨lk [(2,.pob [0] 1 0),(3,.pob [1] 1 0),(7,iv i),(123,bv q)],H'⟩):∀ (m i:Nat) (H:Hp),i+m=e.ops.length→H [0]=⟨1,.cells (eL e)⟩→H [1]=⟨1,.cells (eL f)⟩ →
  LoopC (cx Tryz.prog w0 I0 n0) Dx Q ⟨lk [(2,.pob [0] 1 0),(3,.pob [1] 1 0),(7,nv i)],H⟩:=by
 intro m;induction m with
 |zero=>
  intro i H hi h0 h1;have:i=e.ops.length:=by omega
  subst this;refine Ae mixed Dx.eq_1 ?_;simp[h0,h1];exact hq _ _ _
 |succ m ih=>
  intro i H hi h0 h1;have hlt:i<e.ops.length:=by omega
  have hlt2:i<f.ops.length:=by omega
  have ei:=A7 i;obtain⟨ha,hn,ht,hs⟩:=hk i hlt hlt2;refine Ae mixed Dx.eq_1 ?_;simp[hlt,hlt2,h0,h1,Aa,ha,hn];refine Ao rfl (fun _=>ht) (fun _=>rfl) (by simp) ?_;simp[Aa];refine Ao rfl (fun _=>hs) (fun _=>rfl) (by simp) ?_;simp[ei];exact ih (i+1) _ (by omega) (by simp[Aa,h0]) (by simp[Aa,h1])
set_option maxRecDepth 10000 in
theorem ZD {R:T→T→Prop} (hR:∀ a b,Gc a→Gc b→R a b→G.Spec Tryz.prog 27 [tX a,tX b] (bv true)):∀ (e f:E),HT e→HT f→Lk R e f→G.Spec Tryz.prog 11 [eX e,eX f] (bv true):=by
 refine E.ind fun k o nn ws ks l os ihk iho f hw hwf hl=>?_;cases hl with
 |mk _ _ _ o' n' _ _ ks' _ _ os' r1 r2 r3 r4 r4b r5 r6 r6b=>
  have h:=wfE_iff.1 hw;have g:=wfE_iff.1 hwf;have h1:=hR _ _ h.o g.o r1;have h2:=hR _ _ h.n g.n r2;simp only[E.old_mk,E.new_mk] at h1 h2;refine Aj Nv (by simp) fun w0 I0=>?_;unfold HY;simp;refine Ao rfl (fun _=>h1) (fun _=>rfl) (by simp) ?_;simp;refine Ao rfl (fun _=>h2) (fun _=>rfl) (by simp) ?_;simp[r3,r5];refine s8 (e:=.mk k o nn ws ks l os) (f:=.mk k o' n' ws ks' l os') (by simp) (by simp) rfl h.wl (fun i q=>?_) ws.length 0 (by simp);simp;refine fS (e:=.mk k o nn ws ks l os) (f:=.mk k o' n' ws ks' l os') (by simp) (by simp) r3 h.kl (fun i a b=>⟨r4 i a b,ihk _ (B0 a) _ (h.ks _ (B0 a)).2 (g.ks _ (B0 b)).2 (r4b i a b)⟩) (fun i q=>?_) ks.length 0 (by simp);simp;refine dY (e:=.mk k o nn ws ks l os) (f:=.mk k o' n' ws ks' l os') r5 h.ol (fun i a b=>?_) (fun H' i q=>?_) os.length 0 _ (by simp) (by simp) (by simp)
  ·obtain⟨q1,q2,q3,q4⟩:=r6 i a b;have q5:=r6b i a b;have ha:=h.os _ (B0 a);have hb:=g.os _ (B0 b);exact⟨q1,q2,Xr q3 ha.ll (fun j g1 g2=>hR _ _ (ha.l _ (B0 g1)) (hb.l _ (B0 g2)) (q4 j g1 g2)),iho _ (B0 a) _ ha.e hb.e q5⟩
  ·simp;exact Ab rfl
end Go.Proofs.YtebihdhapepejaaGreatDoor
namespace Go.Proofs.YtebihdhapepejaaGreatDoor
set_option maxRecDepth 10000
open Go Go.G Go.Proofs Go.PL
theorem KJ {e:E} (h:HT e):G.Spec Tryz.prog 11 [eX e,eX e] (bv true):=by
 refine ZD (R:=fun a b=>a=b) (fun a b ha hb e=>?_) e e h h (eh (fun _=>rfl) e);subst e;have:=UQ a ha a
 rwa [show Pb a a=true from sameB_iff.2 rfl] at this
set_option maxHeartbeats 4000000 in
theorem Kk {s:List UInt8} (hs:s.length≤800) {w0:World} {I0:Nat→Prop} {n0:Nat} :
  WPC (cx Tryz.prog w0 I0 n0) Cw (Ka Tryz.prog [.tmp 2] (bv true)) ⟨lk [(0,S s)],Dl []⟩:=by
 have t1:=Kr (s:=s) (by omega);have t2:=RN (s:=s) (by omega);rw[← W1 (by omega)] at t2;have hno:=@SU s;have hto:=fun h=>@SC s h (by omega);rw[Cw.eq_1];generalize Em s=q at *;obtain⟨e,ok⟩:=q;simp only at *;cases ok with
 |false=>
  have:=hno rfl;have he:e=E0:=congrArg Prod.fst this;subst he;have t3:=KJ Xh;simp at t1;simp;refine Af t1 rfl ?_;simp[Aa];refine Af t2 rfl ?_;simp[Aa];refine Ao (q:=false) rfl (fun _=>t3) (fun _=>rfl) rfl ?_;simp[Aa];refine Ao (L:=[]) (x:=S []) (q:=true) rfl (fun h=>by cases h) (fun h=>by cases h) rfl ?_;simp;refine AH rfl (fun _=>FV) (fun _=>rfl) rfl ?_;simp;exact Ab rfl
 |true=>
  obtain⟨h1,h2,h3⟩:=hto rfl;have t3:=KJ h3;have t4:=Ie e 64 h2 h3 (by rw[h1];omega);rw[h1] at t4;simp at t1;simp;refine Af t1 rfl ?_;simp[Aa];refine Af t2 rfl ?_;simp[Aa];refine Ao (q:=false) rfl (fun _=>t3) (fun _=>rfl) rfl ?_;simp[Aa];refine Ao (q:=false) rfl (fun _=>t4) (fun _=>rfl) rfl ?_;simp[Dh];refine AH rfl (fun _=>FV) (fun _=>rfl) rfl ?_;simp;exact Ab rfl
theorem OC (s:List UInt8):G.Spec Tryz.prog 4 [S s] (bv true):=by
 refine Aj IL (by simp) fun w0 I0=>?_;unfold E3;by_cases h:800<s.length
 ·have h':(800:Int)<s.length:=by omega
  have hle:800≤s.length:=by omega
  have hle':(800:Int)≤s.length:=by omega
  simp[h,h',hle,hle'];exact Kk (s:=s.take 800) (by simp;omega)
 ·have h':¬ (800:Int)<s.length:=by omega
  simp[h,h'];exact Kk (by omega)
end Go.Proofs.YtebihdhapepejaaGreatDoor
namespace Go.Proofs.YtebihdhapepejaaGreatDoor
open Go Go.G Go.Proofs Go.PL
theorem MG {t:T} (h:Gc t):((Ah t).length:Int)+1≤20*Gf t:=Zd t Gc (fun k w l h=>⟨fun x hx=>((wfT_iff.1 h).w x hx).2,fun c hc=>(wfT_iff.1 h).ks c hc⟩) h
theorem Jg {n:Int} (h:n<18446744073709551616):(Am n.toNat).length≤16:=Jb 16 _ (by omega) (by omega)
theorem WG {w:WE} (h:WE.wf w):(Aq w).length≤67:=by
 obtain⟨⟨_,h1⟩,⟨_,h2⟩,⟨_,h3⟩,⟨_,h4⟩⟩:=h;have a1:=Jg (n:=w.at_) (by omega);have a2:=Jg (n:=w.mask) (by omega);have a3:=Jg (n:=w.old) (by omega);have a4:=Jg (n:=w.new) (by omega);unfold Aq;simp only[List.length_append,List.length_cons];omega
theorem L8 (x:List UInt8) (l:List (List UInt8)):(Ag (x::l)).length≤x.length+1+(Ag l).length:=by
 cases l with
 |nil=>simp
 |cons y l=>simp[Ag];omega
theorem QF:∀ {ws:List WE},(∀ w,w ∈ ws→WE.wf w)→((Ag (ws.map Aq)).length:Int)≤68*ws.length
 |[],_=>by simp
 |w::ws,h=>by
  have h1:=WG (h w (by simp));have h2:=QF (ws:=ws) fun x hx=>h x (by simp[hx]);have h3:=L8 (Aq w) (ws.map Aq);rw[List.map_cons,List.length_cons];omega
theorem WQ {n:Int} {a b:Nat} {o nn:T} (h:0≤PM n a b o nn):Gf o+Gf nn≤n-1-a-b-PM n a b o nn∧0≤n-1-a-b:=by
 rw[Ni] at h ⊢;split at h
 ·omega
 rename_i hc;rw[if_neg hc];have h1:=IM o 80 (n-1-a-b) (by omega);have h2:=IM nn 80 _ h;have h3:=HA o;have h4:=HA nn;omega
mutual
theorem L7:∀ (e:E) (d:Nat) (n:Int),HT e→0≤GK d n e→((Bb e).length:Int)+50≤100*(n-GK d n e)
 |.mk k o nn ws ks l os,d,n,hw,h=>by
  have hW:=wfE_iff.1 hw;rw[QI] at h ⊢;split at h
  ·omega
  rename_i hc;rw[if_neg hc];obtain⟨a1,a2⟩:=PJ os l (d-1) _ hW.l hW.os h;obtain⟨b1,b2⟩:=OU ks (d-1) _ hW.ks a2;obtain⟨c1,c2⟩:=WQ b2;have hj:=QF hW.w;have ho:=MG hW.o;have hn:=MG hW.n;simp only[E.words_mk,E.old_mk,E.new_mk] at hj ho hn;have p1:=HA o;have p2:=HA nn;rw[Bb];split
  ·simp only[List.length_append,List.length_cons,List.length_nil];omega
  ·split
   ·simp only[List.length_append,List.length_cons,List.length_nil];omega
   ·split
    ·simp only[List.length_append,List.length_cons,List.length_nil];omega
    ·simp;omega
theorem OU:∀ (l:List KE) (d:Nat) (n:Int),(∀ x,x ∈ l→AU x.at_∧HT x.e)→0≤Ew d n l→((Ag (JT l)).length:Int)≤100*(n-Ew d n l)∧0≤n
 |[],d,n,_,h=>by
  rw[JT];simp at h ⊢;exact h
 |.mk a e::l,d,n,hw,h=>by
  rw[Kx] at h ⊢;split at h
  ·omega
  rename_i hc;rw[if_neg hc];simp only[KE.e_mk] at h ⊢;obtain⟨b1,b2⟩:=OU l d _ (fun x hx=>hw x (by simp[hx])) h;obtain⟨⟨_,w1⟩,w2⟩:=hw (.mk a e) (by simp);have c1:=L7 e d n w2 b2;have c2:=Jg (n:=a) (by simp only[KE.at_mk] at w1;omega);rw[JT];have c3:=L8 (Am a.toNat++58::Bb e) (JT l);simp only[List.length_append,List.length_cons] at c3;omega
theorem PJ:∀ (l:List OP) (k:Int) (d:Nat) (n:Int),AU k→(∀ x,x ∈ l→Uv x)→0≤Fz d n l→((Ag (JC k l)).length:Int)≤100*(n-Fz d n l)∧0≤n
 |[],k,d,n,_,_,h=>by
  rw[JC];simp at h ⊢;exact h
 |.mk q m t e::l,k,d,n,hk,hw,h=>by
  rw[Ik] at h ⊢;split at h
  ·omega
  rename_i hc;rw[if_neg hc];simp only[OP.e_mk,OP.l_mk] at h ⊢;obtain⟨b1,b2⟩:=PJ l k d _ hk (fun x hx=>hw x (by simp[hx])) h;have hx:=hw (.mk q m t e) (by simp);by_cases hs:AJ 80 n t<0
  ·simp only[hs,if_true] at b2;omega
  ·simp only[hs,if_false] at b1 b2 ⊢;have c1:=L7 e d _ hx.e b2;obtain⟨h2,h3⟩:=KH t 80 n (by omega);have hwt:Gc (.mk k [] t):=wfT_iff.2 ⟨hk,by simp,by simp,hx.ll,hx.l⟩;have c2:=MG hwt;have c3:=Jg (n:=m) (by have:=hx.n.2;simp only[OP.n_mk] at this;omega);have c4:=L8 (if q=1 then 45::Ah (.mk k [] t) else if q=2 then 43::Ah (.mk k [] t) else if q=3 then 42::Bb e else 107::Am m.toNat) (JC k l);have c5:(if q=1 then 45::Ah (.mk k [] t) else if q=2 then 43::Ah (.mk k [] t) else if q=3 then 42::Bb e else 107::Am m.toNat).length+10≤100*(n-GK d (AJ 80 n t) e):=by
    simp at c2;split
    ·simp;omega
    ·split
     ·simp;omega
     ·split
      ·simp;omega
      ·simp;omega
   rw[JC];omega
end
theorem ZF {e:E} (hw:HT e) (hf:fN e=true):(Bb e).length≤300000:=by
 have h:0≤GK 80 3000 e:=by simpa[fN] using hf
 have:=L7 e 80 3000 hw h;omega
end Go.Proofs.YtebihdhapepejaaGreatDoor
namespace Go.Proofs.YtebihdhapepejaaGreatDoor
set_option maxRecDepth 10000
open Go Go.G Go.Proofs Go.PL
set_option maxHeartbeats 4000000 in
theorem Ot {e:E} (h:HT e):G.Spec Tryz.prog 3 [eX e] (bv true):=by
 refine Aj IP (by simp) fun w0 I0=>?_;unfold Fc;simp;refine Af (ZQ h) rfl ?_;cases hf:fN e with
 |false=>
  simp;refine Ap rfl ?_;simp;refine Af FV rfl ?_;simp;exact Ab rfl
 |true=>
  simp;refine Ao rfl (fun _=>Pu e h 64 (by omega)) (fun _=>rfl) (by simp) ?_;cases hr:AQ 64 e with
  |false=>
   simp;refine Af FV rfl ?_;simp;exact Ab rfl
  |true=>
   have hl:=ZF h hf;have t1:=Ie e 64 hr h (by omega);have t2:=Kr (s:=Bb e) (by omega);rw[N3 hr h] at t2;have t3:=Vu e 64 hr h (by omega);have t4:=KJ h;simp at t2;simp;refine Af t1 (by simp) ?_;simp[Aa];refine Af t2 rfl ?_;simp[Aa];refine Af t3 (by simp) ?_;simp[Aa,Dh];refine AH rfl (fun _=>t4) (fun _=>rfl) (by simp) ?_;simp;refine AH rfl (fun _=>FV) (fun _=>rfl) rfl ?_;simp;exact Ab rfl
end Go.Proofs.YtebihdhapepejaaGreatDoor
namespace Go.Proofs.YtebihdhapepejaaGreatDoor
open Go Go.G Go.Proofs Go.PL Go.RowKit
theorem eH {m:Int} (h:(Lit.int .i64 m).wf=true):AU m:=by
 simp[Lit.wf,IntKind.min,IntKind.max,IntKind.bits,IntKind.signed] at h;unfold AU;omega
theorem eI {m:Int} (h:(Lit.int .u64 m).wf=true):D5 m:=by
 simp[Lit.wf,IntKind.min,IntKind.max,IntKind.bits,IntKind.signed] at h;unfold D5;omega
theorem jL {m:Int} (h:(Lit.int .u8 m).wf=true):0≤m∧m<256:=by
 simp[Lit.wf,IntKind.min,IntKind.max,IntKind.bits,IntKind.signed] at h;omega
theorem bZ:Tryz.prog.underlying 3=some (.int .i64):=by kernel_rfl
theorem Vg:Tryz.prog.underlying 45=some (.int .u64):=by kernel_rfl
theorem W9 {n:Nat} {b:List A} (h:Has Tryz.prog n 3 b):∃ m,AU m∧b=[iv m]:=by
 cases n with
 |zero=>exact h.elim
 |succ n=>
  unfold Has at h;rw[bZ] at h;obtain⟨m,hm,rfl⟩:=h;exact⟨m,eH hm,rfl⟩
theorem jJ {n:Nat} {b:List A} (h:Has Tryz.prog n 45 b):∃ m,D5 m∧b=[uv m]:=by
 cases n with
 |zero=>exact h.elim
 |succ n=>
  unfold Has at h;rw[Vg] at h;obtain⟨m,hm,rfl⟩:=h;exact⟨m,eI hm,rfl⟩
theorem mh {α:Type} {xs:List A} {g:α→A} {R:α→Prop} (h:∀ x,x ∈ xs→∃ y,R y∧x.soft=g y):∃ l:List α,A.softL xs=l.map g∧l.length=xs.length∧∀ y,y ∈ l→R y:=by
 induction xs with
 |nil=>exact⟨[],rfl,rfl,fun y h=>nomatch h⟩
 |cons x xs ih=>
  obtain⟨y,hy,e⟩:=h x (by simp);obtain⟨l,e2,e3,hl⟩:=ih fun z hz=>h z (by simp[hz]);refine⟨y::l,by simp[A.softL,e,e2],by simp[e3],fun z hz=>?_⟩;rcases List.mem_cons.1 hz with rfl | hz
  ·exact hy
  ·exact hl z hz
theorem Sf {P:Program} {t e:TypeId} {m:Nat} (u:P.underlying t=some (.slice e)) (hb:P.bytesOf e=m) {n:Nat} {b:List A} (h:Has P n t b) {α:Type} {g:α→A} {R:α→Prop} (hx:∀ k b,k<n→Has P k e b→∃ y,R y∧(mk P e b).soft=g y) :
  ∃ (f:Bool) (xs:List A) (l:List α),b=[.sl f xs]∧A.softL xs=l.map g∧l.length*m≤140737488355328∧∀ y,y ∈ l→R y:=by
 cases n with
 |zero=>exact h.elim
 |succ n=>
  unfold Has at h;rw[u] at h;obtain⟨f,xs,rfl,_,hz,hf,hx'⟩:=h;rw[hb] at hz;obtain⟨l,e1,e2,hl⟩:=mh (g:=g) (R:=R) (xs:=xs) fun x hxx=>by
   obtain⟨b,hb',rfl⟩:=hx' x hxx;exact hx n b (by omega) hb'
  exact⟨f,xs,l,rfl,e1,by rw[e2];exact Nat.le_trans hz (by decide),hl⟩
theorem iy (b:List A):mk Tryz.prog 45 b=b.headD .any:=by unfold mk;rw[Vg]
theorem nP {n:Nat} {b:List A} (h:Has Tryz.prog n 22 b):∃ (f:Bool) (xs:List A) (l:List Int),b=[.sl f xs]∧A.softL xs=l.map uv∧l.length*8≤140737488355328∧∀ y,y ∈ l→D5 y:=
 Sf (e:=45) (by kernel_rfl) (by kernel_rfl) h fun k b _ hb=>by
  obtain⟨m,h1,rfl⟩:=jJ hb;exact⟨m,h1,by rw[iy];rfl⟩
theorem UK:Tryz.prog.underlying 25=some (.struct (Tryz.prog.fieldsOf 25)):=by kernel_rfl
theorem aq:(Tryz.prog.fieldsOf 25).toList.map Field.type=[3,22,23]:=by kernel_rfl
theorem XW (b:List A):mk Tryz.prog 25 b = .agg b:=by unfold mk;rw[UK]
theorem TD:∀ (n:Nat) (b:List A),Has Tryz.prog n 25 b→∃ t,Gc t∧A.softL b=[iv t.kind,IT t.words,Eg t.kids]:=by
 intro n;induction n using Nat.strongRecOn with
 |ind n ih=>
  intro b h;cases n with
  |zero=>exact h.elim
  |succ n=>
   unfold Has at h;rw[UK] at h;simp only at h;rw[Gu,aq] at h;obtain⟨_,_,rfl,h1,_,_,rfl,h2,_,_,rfl,h3,rfl⟩:=h;obtain⟨k,hk,rfl⟩:=W9 h1;obtain⟨f,xs,w,rfl,e2,l2,r2⟩:=nP h2;obtain⟨f3,ys,l,rfl,e3,l3,r3⟩:=Sf (m:=56) (e:=25) (g:=tA) (R:=Gc) (by kernel_rfl) (by kernel_rfl) h3 fun j b hj hb=>by
    obtain⟨t,ht,e⟩:=ih j (by omega) b hb;exact⟨t,ht,by rw[XW];simp only[A.soft,e];rw[tA_eq]⟩
   refine⟨.mk k w l,wfT_iff.2 ⟨hk,r2,l2,l3,r3⟩,?_⟩;simp only[List.cons_append,List.nil_append,List.append_nil,A.softL,A.soft,e2,e3];rfl
theorem Z8 {n:Nat} {b:List A} (h:Has Tryz.prog n 23 b):∃ (f:Bool) (xs:List A) (l:List T),b=[.sl f xs]∧A.softL xs=l.map tA∧l.length*56≤140737488355328∧∀ y,y ∈ l→Gc y:=
 Sf (e:=25) (by kernel_rfl) (by kernel_rfl) h fun k b _ hb=>by
  obtain⟨t,h1,e⟩:=TD k b hb;exact⟨t,h1,by rw[XW];simp only[A.soft,e];rw[tA_eq]⟩
theorem Tn:∀ (a b:List A),A.softL (a++b)=A.softL a++A.softL b
 |[],b=>by simp[A.softL]
 |x::a,b=>by simp[A.softL,Tn a b]
theorem c6:Tryz.prog.underlying 47=some (.struct (Tryz.prog.fieldsOf 47)):=by kernel_rfl
theorem jf:(Tryz.prog.fieldsOf 47).toList.map Field.type=[3,5,45,45]:=by kernel_rfl
theorem mz (b:List A):mk Tryz.prog 47 b = .agg b:=by unfold mk;rw[c6]
theorem lj {n:Nat} {b:List A} (h:Has Tryz.prog n 5 b):∃ m,(0≤m∧m<256)∧b=[u8 m]:=by
 cases n with
 |zero=>exact h.elim
 |succ n=>
  have u:Tryz.prog.underlying 5=some (.int .u8):=by kernel_rfl
  unfold Has at h;rw[u] at h;obtain⟨m,hm,rfl⟩:=h;exact⟨m,jL hm,rfl⟩
theorem ny {n:Nat} {b:List A} (h:Has Tryz.prog n 47 b):∃ w:WE,WE.wf w∧(mk Tryz.prog 47 b).soft=wA w:=by
 cases n with
 |zero=>exact h.elim
 |succ n=>
  unfold Has at h;rw[c6] at h;simp only at h;rw[Gu,jf] at h;obtain⟨_,_,rfl,h1,_,_,rfl,h2,_,_,rfl,h3,_,_,rfl,h4,rfl⟩:=h;obtain⟨a,ha,rfl⟩:=W9 h1;obtain⟨m,hm,rfl⟩:=lj h2;obtain⟨o,ho,rfl⟩:=jJ h3;obtain⟨w,hw,rfl⟩:=jJ h4;exact⟨⟨a,m,o,w⟩,⟨ha,hm,ho,hw⟩,by rw[mz];rfl⟩
theorem gU:Tryz.prog.underlying 30=some (.struct (Tryz.prog.fieldsOf 30)):=by kernel_rfl
theorem mW:(Tryz.prog.fieldsOf 30).toList.map Field.type=[3,25,25,26,27,3,28]:=by kernel_rfl
theorem qL (b:List A):mk Tryz.prog 30 b = .agg b:=by unfold mk;rw[gU]
theorem aJ:Tryz.prog.underlying 50=some (.struct (Tryz.prog.fieldsOf 50)):=by kernel_rfl
theorem iw:(Tryz.prog.fieldsOf 50).toList.map Field.type=[3,30]:=by kernel_rfl
theorem oW (b:List A):mk Tryz.prog 50 b = .agg b:=by unfold mk;rw[aJ]
theorem bj:Tryz.prog.underlying 53=some (.struct (Tryz.prog.fieldsOf 53)):=by kernel_rfl
theorem i7:(Tryz.prog.fieldsOf 53).toList.map Field.type=[3,3,23,30]:=by kernel_rfl
theorem mR (b:List A):mk Tryz.prog 53 b = .agg b:=by unfold mk;rw[bj]
theorem dT:∀ (n:Nat) (b:List A),Has Tryz.prog n 30 b→∃ e,HT e∧A.softL b=eL e:=by
 intro n;induction n using Nat.strongRecOn with
 |ind n ih=>
  intro b h;cases n with
  |zero=>exact h.elim
  |succ n=>
   unfold Has at h;rw[gU] at h;simp only at h;rw[Gu,mW] at h;obtain⟨_,_,rfl,h1,_,_,rfl,h2,_,_,rfl,h3,_,_,rfl,h4,_,_,rfl,h5,_,_,rfl,h6,_,_,rfl,h7,rfl⟩:=h;obtain⟨k,hk,rfl⟩:=W9 h1;obtain⟨o,ho,e2⟩:=TD _ _ h2;obtain⟨nn,hn,e3⟩:=TD _ _ h3;obtain⟨f4,x4,ws,rfl,e4,l4,r4⟩:=Sf (m:=32) (e:=47) (g:=wA) (R:=WE.wf) (by kernel_rfl) (by kernel_rfl) h4 fun j b hj hb=>ny hb;obtain⟨f5,x5,ks,rfl,e5,l5,r5⟩:=Sf (m:=208) (e:=50) (g:=kA) (R:=fun x=>AU x.at_∧HT x.e) (by kernel_rfl) (by kernel_rfl) h5 fun j b hj hb=>by
    cases j with
    |zero=>exact hb.elim
    |succ j=>
     unfold Has at hb;rw[aJ] at hb;simp only at hb;rw[Gu,iw] at hb;obtain⟨_,_,rfl,g1,_,_,rfl,g2,rfl⟩:=hb;obtain⟨a,ha,rfl⟩:=W9 g1;obtain⟨e,he,ee⟩:=ih j (by omega) _ g2;refine⟨.mk a e,⟨ha,he⟩,?_⟩;rw[oW,kA_eq];simp only[A.soft,List.cons_append,List.nil_append,List.append_nil,A.softL,ee];rfl
   obtain⟨l,hl,rfl⟩:=W9 h6;obtain⟨f7,x7,os,rfl,e7,l7,r7⟩:=Sf (m:=240) (e:=53) (g:=oA) (R:=Uv) (by kernel_rfl) (by kernel_rfl) h7 fun j b hj hb=>by
    cases j with
    |zero=>exact hb.elim
    |succ j=>
     unfold Has at hb;rw[bj] at hb;simp only at hb;rw[Gu,i7] at hb;obtain⟨_,_,rfl,g1,_,_,rfl,g2,_,_,rfl,g3,_,_,rfl,g4,rfl⟩:=hb;obtain⟨k,hk,rfl⟩:=W9 g1;obtain⟨m,hm,rfl⟩:=W9 g2;obtain⟨f,xs,tl,rfl,et,lt,rt⟩:=Z8 g3;obtain⟨e,he,ee⟩:=ih j (by omega) _ g4;refine⟨.mk k m tl e,⟨hk,hm,rt,lt,he⟩,?_⟩;rw[mR,oA_eq];simp only[A.soft,List.cons_append,List.nil_append,List.append_nil,A.softL,ee,et];rfl
   refine⟨.mk k o nn ws ks l os,wfE_iff.2 ⟨hk,hl,ho,hn,r4,l4,l5,l7,r5,r7⟩,?_⟩;simp only[List.cons_append,List.nil_append,List.append_nil,A.softL,A.soft,Tn,e2,e3,e4,e5,e7];rfl
end Go.Proofs.YtebihdhapepejaaGreatDoor
namespace Go.G
open Go.RowKit Go.ChangeShapes Go.WideShapes
section
variable {H:Type} {enc:TypeId × Value→H} {P:Program}
def KG (P:Program) (ts:List TypeId):Bool:=ts.all fun t=>P.readableRec t&&decide (t<P.types.size)
theorem LK (hl:laidOutB P=true) {W W':World} (hb:Below W.heap.size W W') (sp:Nat→Bool):∀ {ts:List TypeId} {vs:List Value} {ds:List (DataW H)} {ps:List MemPlace},KG P ts=true →
  DataW.TrodAll enc P W 0 (fun _=>true) true ts vs ds ps→(∀ x ∈ ps,x.block<W.heap.size)→(∀ x ∈ ps,sp x.block=true)→DataW.TrodAll enc P W' 0 sp true ts vs ds ps
 |[],_,_,_,_,h,_,_=>by
  obtain⟨rfl,rfl,rfl⟩:=trodAll_nil h;exact trodAll_mk0
 |t::ts,_,_,_,hr,h,hlt,hsp=>by
  obtain⟨v,vs,d,ds,p,q,rfl,rfl,rfl,h1,h2⟩:=trodAll_cons h;simp only[KG,List.all_cons,Bool.and_eq_true,decide_eq_true_eq] at hr;exact⟨p,q,WideElems.Trod_stays hl hr.1.1 hr.1.2 h1 (fun x hx=>hb.same (hlt x (by simp[hx]))) (fun x hx=>hsp x (by simp[hx])),
   LK hl hb sp (by simpa[KG] using hr.2) h2 (fun x hx=>hlt x (by simp[hx])) (fun x hx=>hsp x (by simp[hx])),rfl⟩
theorem Kl {w:World} {base:Nat} {spare:Nat→Bool} {held:Bool}:∀ {ts:List TypeId} {vs:List Value} {ds:List (DataW H)} {ps:List MemPlace},DataW.TrodAll enc P w base spare held ts vs ds ps→ds.length=ts.length∧vs.length=ts.length
 |[],_,_,_,h=>by
  obtain⟨rfl,rfl,rfl⟩:=trodAll_nil h;exact⟨rfl,rfl⟩
 |t::ts,_,_,_,h=>by
  obtain⟨v,vs,d,ds,p,q,rfl,rfl,rfl,h1,h2⟩:=trodAll_cons h;have:=Kl h2;simp[this]
theorem du {f:Func} {s:ChangeSpec} {apart fresh handsOn again:Bool} {W W':World} {args:Array Value} {ds gs:List (DataW H)} {before:List MemPlace} {t:TypeId}
  (hl:laidOutB P=true) (hp:KG P f.params.toList=true) (hsv:s.vars=[]) (hW:DataW.Whole enc P f.params.toList s.vars apart W args.toList ds gs before) (hB:Below W.heap.size W W')
  (hrt:f.resultTypes = #[t]) (ht:P.underlying t=some .bool) (hfn:∀ ds':List (DataW H),ds'.length=f.params.size→s.fn H ds'={ results:=[.lit (.bool true)],args:=ds' }) :
  s.post enc P f apart fresh handsOn again W args (.bool true) W':=by
 have hlt:=hW.lt;have hW':=hW;obtain⟨p,q,hA,hV,rfl,hz,hn⟩:=hW';rw[hsv] at hV;obtain⟨rfl,rfl⟩:=trodVars_none hV;have hfn:=hfn ds (by have:=(Kl hA).1;simpa using this);simp only[List.append_nil] at hlt hz hn;have hA':=fun sp=>LK hl hB sp hp hA hlt;have hr:∀ (b:Nat) (sp:Nat→Bool) (hd:Bool),DataW.TrodAll enc P W' b sp hd f.resultTypes.toList ((Value.bool true).resultList f.resultTypes.size) [.lit (.bool true)] []:=fun b sp hd=>by
  rw[hrt];exact trodAll_cons_mk (shut_bool ht _) trodAll_mk0
 refine⟨ds,[],p++[],[],p,[],hW,?_,?_,?_,Below.frame hB _,fun _=>?_⟩
 ·simp only[List.append_nil,hfn];exact hr _ _ _
 ·simp only[List.append_nil,hfn];exact hA' _ (fun x hx=>by simpa using hlt x hx)
 ·simp only[List.append_nil,hfn,hsv];exact rfl
 ·refine⟨ok_one hrt rfl (okWide_bool_mk ht _),_,[],([]++p)++[],⟨[]++p,[],trodAll_append (hA' (fun _=>true) (fun _ _=>rfl)) (hr _ _ _),by rw[hsv];rfl,rfl,?_,?_⟩,?_⟩
  ·intro b off hx;have hx:MemPlace.cell b off ∈ p:=by simpa using hx
   rw[Below.frozen hB (hlt _ hx)];exact hz b off hx
  ·intro ha;have:=hn ha;simpa using this
  ·intro x hx _;simpa using hx
theorem law_calls {f:Func} {fid:FuncId} {s:ChangeSpec} {apart fresh handsOn again:Bool} {W:World} {base:Nat} {args:Array Value} {ds gs:List (DataW H)} {before:List MemPlace} {t:TypeId} (S:List TypeId)
  (hl:laidOutB P=true) (hp:KG P f.params.toList=true) (hS:Kc P S=true) (hts:f.params.toList.all S.contains=true) (hsv:s.vars=[]) (hrt:f.resultTypes = #[t]) (ht:P.underlying t=some .bool)
  (hfn:∀ ds':List (DataW H),ds'.length=f.params.size→s.fn H ds'={ results:=[.lit (.bool true)],args:=ds' })
  (hspec:∀ as',ArgsHas P f.params.toList as'→Spec P fid as' (.v (.bool true))) (htb:Tabs P W (Old W))
  (hval:∀ (j:Nat) t v,f.params[j]? = some t→args[j]? = some v→Value.okWide P W .any base t v) (hW:DataW.Whole enc P f.params.toList s.vars apart W args.toList ds gs before)
  (hwt:(DataW.weightsEach P (f.params.toList++s.plain.varTypes P) (ds++gs)).all (·≤reachBytes)=true) :
  Calls P fid args W fun e W'=>∃ v,e = .returned v∧s.post enc P f apart fresh handsOn again W args v W':=by
 have hW':=hW;obtain⟨p,q,hA,hV,rfl,hz,hn⟩:=hW;have hV':=hV;rw[hsv] at hV';obtain⟨rfl,_⟩:=trodVars_none hV';have hwt':∀ m,m ∈ DataW.weightsEach P f.params.toList ds→m≤reachBytes:=by
  have e:s.plain.varTypes P=[]:=by simp[ChangeSpec.plain,DataSpec.varTypes,hsv]
  rw[e,List.append_nil,List.append_nil,List.all_eq_true] at hwt;exact fun m hm=>by simpa using hwt m hm
 obtain⟨as',h1,h2,h3⟩:=Nd hS (fun t ht=>by rw[List.all_eq_true] at hts;simpa using hts t ht) hwt' hA (fun j u v hj hv=>hval j u v (by simpa using hj) (by simpa using hv));refine((hspec as' h2).2 W (Old W) args (fun _ h=>h) htb (by simpa using h1.symm) (fun k y hk=>?_)).mono fun e W' ⟨v,he,hB,hr⟩=>?_
 ·have:=h3 k y hk;simpa[List.getD,Array.getD_eq_getD_getElem?] using this
 ·cases hr;exact⟨_,he,du hl hp hsv hW' hB hrt ht hfn⟩
end
end Go.G
namespace Go.G
open Go
theorem OZ {W:World} {p:Addr} {v:Value} (h:W.cell? p=some v):Old W p.block:=by
 unfold Old;unfold World.cell? at h;cases hb:W.heap[p.block]? with
 |none=>rw[hb] at h;cases h
 |some b=>exact(Array.getElem?_eq_some_iff.1 hb).1
theorem tabs_of {P:Program} {W:World} (l:List (String × Nat × IntKind × List Int)) (es:List (String × Nat))
  (h1:((List.range P.globals.size).all fun g=>match gtab P g with | none=>true | some q=>l.any fun x=>x.2.1 == g&&(x.2.2.1 == q.1&&x.2.2.2 == q.2))=true)
  (e1:((List.range P.globals.size).all fun g=>!im P g || es.any fun x=>x.2 == g)=true)
  (h2:∀ x,x ∈ l→P.globalNamed x.1=some x.2.1∧0<x.2.2.2.length∧Lib.TabIs P W x.1 x.2.2.1 x.2.2.2)
  (e2:∀ x,x ∈ es→∃ te pe,W.cell? ⟨x.2,0,none⟩=some (.iface te pe)):Tabs P W (Old W) where
 row g q hq:=by
  have hg:g<P.globals.size:=by
   unfold gtab at hq;cases hx:P.globals[g]? with
   |none=>rw[hx] at hq;cases hq
   |some x=>exact(Array.getElem?_eq_some_iff.1 hx).1
  have:=List.all_eq_true.1 h1 g (List.mem_range.2 hg);rw[hq] at this;obtain⟨x,hx,hx2⟩:=List.any_eq_true.1 this;obtain⟨nm,g',k,zs⟩:=x;simp only[Bool.and_eq_true,beq_iff_eq] at hx2;obtain⟨rfl,rfl,rfl⟩:=hx2;obtain⟨g1,g2,g3⟩:=h2 _ hx;refine⟨OZ (g3.cell g1 0 g2),?_⟩;unfold Lib.TabIs World.var? at g3;rw[g1] at g3;simp only[Option.bind_some] at g3;split at g3
  ·rename_i cs e z hh;cases g3;exact⟨e,z,hh⟩
  ·cases g3
 err g hg:=by
  have hlt:g<P.globals.size:=by
   unfold im at hg;cases hx:P.globals[g]? with
   |none=>rw[hx] at hg;cases hg
   |some x=>exact(Array.getElem?_eq_some_iff.1 hx).1
  have:=List.all_eq_true.1 e1 g (List.mem_range.2 hlt);rw[hg] at this;simp only[Bool.not_true,Bool.false_or] at this;obtain⟨x,hx,hx2⟩:=List.any_eq_true.1 this;have hx2:x.2=g:=eq_of_beq hx2;obtain⟨te,pe,h⟩:=e2 x hx;rw[hx2] at h;exact⟨OZ h,te,pe,h⟩
theorem iface_of_var {P:Program} {W:World} {n:String} {g:Nat} {te:TypeId} {pe:Value} (hg:P.globalNamed n=some g) (h:W.var? P n=some #[.iface te pe]):∃ te pe,W.cell? ⟨g,0,none⟩=some (.iface te pe):=
 ⟨te,pe,by simpa using World.var?_cell hg h 0⟩
end Go.G
namespace Go.Proofs.YtebihdhapepejaaGreatDoor
open Go Go.G Go.Proofs Go.PL Go.RowKit
theorem SH:Tryz.prog.underlying 9=some .string:=by kernel_rfl
theorem fM {n:Nat} {b:List A} (h:Has Tryz.prog n 9 b):∃ l,b=[S l]:=by
 cases n with
 |zero=>exact h.elim
 |succ n=>
  unfold Has at h;rw[SH] at h;obtain⟨s,_,_,rfl⟩:=h;exact⟨s.data.toList,by unfold S;rw[eT]⟩
set_option maxRecDepth 100000 in
theorem said_etextParses (xs:List A) (h:ArgsHas Tryz.prog Tryz.f4.params.toList xs):G.Spec Tryz.prog 4 xs (.v (.bool true)):=by
 have h:ArgsHas Tryz.prog [9] xs:=h
 match xs,h with
 |[a],⟨⟨n,b,h1,h2⟩,_⟩=>
  obtain⟨l,rfl⟩:=fM h1;have e:mk Tryz.prog 9 [S l]=S l:=by unfold mk;rw[SH];rfl
  rw[h2,e];exact OC l
set_option maxRecDepth 100000 in
theorem said_etextPrints (xs:List A) (h:ArgsHas Tryz.prog Tryz.f3.params.toList xs):G.Spec Tryz.prog 3 xs (.v (.bool true)):=by
 have h:ArgsHas Tryz.prog [30] xs:=h
 match xs,h with
 |[a],⟨⟨n,b,h1,h2⟩,_⟩=>
  obtain⟨e,he,ee⟩:=dT _ _ h1;rw[h2,qL];exact(Ot he).soft (by simp only[A.softL,A.soft,ee])
end Go.Proofs.YtebihdhapepejaaGreatDoor
