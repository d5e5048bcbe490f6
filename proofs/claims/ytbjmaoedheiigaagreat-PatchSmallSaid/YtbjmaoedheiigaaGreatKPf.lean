/-
 Texts,merged,without what is not reached.
-/
import Derived.Test.YtbjmaoedheiigaaGreatKPe
set_option linter.unusedSimpArgs false
set_option linter.unusedVariables false
open Go.IntKind (i64 u64)
namespace Go.Proofs.YtbjmaoedheiigaaGreat
open Go Go.G Go.Proofs Go.PL
theorem lx {L:List Int} {a:Nat} {x:Int} (h:L[a]? = some x):Df [L] 0 a=some x:=by
 unfold Df seg;simp[h]
theorem LC {L:List Int} {a n:Nat} (h:a+n≤L.length):Ie [L] 0 a n=true:=by
 simp only[Ie,decide_eq_true_eq,szAt,seg];simp;omega
theorem Ac4 {L:List Int} {a n:Nat}:part [L] 0 a n=(L.drop a).take n:=by
 unfold part seg;simp
theorem kL {a to w k:Nat} (ha:a<200000) (ht:to≤200000) (hw:w<65536) (hk:k<65536) (hz:w+k=0→to=a) :
  Ed (DH a to 0 ((w:Int)+65536*k))=⟨1,(to:Int)-a-1,w,k,0,0,0,false⟩:=by
 unfold DH;split
 ·rename_i h;generalize hv:4*((to:Int)-a-1+1073741824)+0+((w:Int)+65536*k)*4294967296=v;unfold Ed PJ;rw[if_neg (by omega),if_pos (by omega)];simp only[Pt.mk.injEq,true_and,and_true];refine⟨?_,by omega,by omega⟩;split<;>omega
 ·rename_i h;generalize hv:4*((to:Int)-a-1)+0+((w:Int)+65536*k)*4294967296=v;unfold Ed PJ;rw[if_neg (by omega),if_pos (by omega)];simp only[Pt.mk.injEq,true_and,and_true];refine⟨?_,by omega,by omega⟩;split<;>omega
theorem jc {a to:Nat} {c n:Int} (ha:a<200000) (ht:to≤200000) (c0:0≤c) (c8:c<8) (n0:0≤n) (hn:n<536870912) :
  Ed (DH a to 1 (c+8*n))=⟨2,(to:Int)-a-1,0,0,c,n,0,false⟩:=by
 unfold DH;split
 ·rename_i h;generalize hv:4*((to:Int)-a-1+1073741824)+1+(c+8*n)*4294967296=v;unfold Ed PJ;rw[if_neg (by omega),if_neg (by omega),if_pos (by omega)];simp only[Pt.mk.injEq,true_and,and_true];refine⟨?_,by omega,by omega⟩;split<;>omega
 ·rename_i h;generalize hv:4*((to:Int)-a-1)+1+(c+8*n)*4294967296=v;unfold Ed PJ;rw[if_neg (by omega),if_neg (by omega),if_pos (by omega)];simp only[Pt.mk.injEq,true_and,and_true];refine⟨?_,by omega,by omega⟩;split<;>omega
theorem Wb {L:List Int} {a:Nat} (h:L[a]? = some 0):JL [L] 0 a=(Rf.zero,0):=by
 have e:Eg [L] 0 a=(Lc.zero,0):=by
  unfold Eg;rw[lx h];rfl
 unfold JL;rw[e];rfl
theorem N7 {L:List Int} {a to:Nat} {v n:Int} {p:Pt} (h:L[a]? = some v) (hd:Ed v=p) (hk:p.kind=1∨p.kind=2) (ho:p.off=(to:Int)-a-1) (hp:E7 p=some n) (hn:Ie [L] 0 to n=true) :
  Eg [L] 0 a=(⟨{ p with off:=0 },0,to⟩,0):=by
 unfold Eg;rw[lx h];simp only[hd];rw[if_neg (by omega),if_pos (by omega)];unfold L9;rw[if_pos hk];unfold Hx;have e:(a:Int)+1+p.off=to:=by omega
 simp only[e,hp,Option.getD_some];rw[if_pos hn]
theorem aX {L:List Int} {a to w k:Nat} (hL:L.length≤200000) (h:L[a]? = some (DH a to 0 ((w:Int)+65536*k))) (ha:a<L.length) (hw:w<65536) (hk:k<65536) (hz:w+k=0→to=a) (hin:to+(w+k)≤L.length) :
  JL [L] 0 a=(⟨1,0,to,w,k,0,0⟩,0):=by
 have hd:=kL (a:=a) (to:=to) (by omega) (by omega) hw hk hz;have e:=N7 (n:=(w:Int)+k) h hd (.inl rfl) rfl (by simp[E7]) (by have:=LC (L:=L) (a:=to) (n:=w+k) hin;simpa using this);unfold JL;rw[e];simp[iE]
theorem Wf {L:List Int} {a to:Nat} {c:Int} {n m:Nat} (hL:L.length≤200000) (h:L[a]? = some (DH a to 1 (c+8*n))) (ha:a<L.length) (c0:0≤c) (c7:c<7) (hn:n<536870912) (hm:((n:Int)*Jg c+63) / 64=m) (hin:to+m≤L.length) :
  JL [L] 0 a=(⟨2+c,0,to,0,0,n,0⟩,0):=by
 have hd:=jc (a:=a) (to:=to) (c:=c) (n:=n) (by omega) (by omega) c0 (by omega) (by omega) (by omega);have e:=N7 (n:=(m:Int)) h hd (.inr rfl) rfl (by rw[Xq rfl ⟨by simp,by simp;omega,by simp⟩ c7];simp[hm]) (LC hin);unfold JL;rw[e];simp[iE,c7]
theorem pY {L:List Int} {a to n w k:Nat} (hL:L.length≤200000) (h:L[a]? = some (DH a to 1 (7+8*(n*(w+k):Nat)))) (ha:a<L.length) (ht:L[to]? = some (4*(n:Int)+4294967296*((w:Int)+65536*k))) (hn:n<536870912) (hw:w<65536) (hk:k<65536) (hin:to+(n*(w+k)+1)≤L.length) :
  JL [L] 0 a=(⟨9,0,(to:Int)+1,w,k,n,0⟩,0):=by
 have hd:=jc (a:=a) (to:=to) (c:=7) (n:=((n*(w+k):Nat):Int)) (by omega) (by omega) (by omega) (by omega) (by omega) (by omega);have e:=N7 (n:=((n*(w+k)+1:Nat):Int)) h hd (.inr rfl) rfl (by rw[UF rfl rfl];simp) (LC hin);unfold JL;rw[e];have hm:((n*(w+k):Nat):Int)=(n:Int)*((w:Int)+k):=by rw[Int.natCast_mul,Int.natCast_add]
 have hdt:(4*(n:Int)+4294967296*((w:Int)+65536*k)=0∧n=0∧w=0∧k=0)∨Ed (4*(n:Int)+4294967296*((w:Int)+65536*k))=⟨1,n,w,k,0,0,0,false⟩:=by
  by_cases h0:4*(n:Int)+4294967296*((w:Int)+65536*k)=0
  ·exact .inl ⟨h0,by omega,by omega,by omega⟩
  ·right;unfold Ed PJ;rw[if_neg h0,if_pos (by omega)];simp only[Pt.mk.injEq,true_and,and_true];refine⟨?_,by omega,by omega⟩;split<;>omega
 simp only[iE,if_neg (show ¬ (2:Int)=1 by decide),if_neg (show ¬ (7:Int)<7 by decide)];rw[if_neg (by simp)];unfold U9;rw[lx ht];simp only[Option.getD_some];rcases hdt with ⟨h0,rfl,rfl,rfl⟩ | hdt
 ·rw[h0];simp[Ed]
 ·rw[hdt];simp only;rw[if_neg];rw[← hm];simp
def po (t:T):Prop:=∀ (a:Nat) (l L:List Int),a<l.length→l[a]? = some 0→(Dr t a l).length≤L.length→L.length≤200000→(∀ p,(p=a∨l.length≤p)→p<(Dr t a l).length→L[p]? = (Dr t a l)[p]?) →
 ∃ r u,JL [L] 0 a=(r,0)∧A7 [L] r u∧Af u=Af t
theorem du:∀ {ts:List T},(∀ t,t ∈ ts→po t)→∀ (b:Nat) (l L:List Int),b+ts.length≤l.length→(∀ i,i<ts.length→l[b+i]? = some 0)→(CU ts b l).length≤L.length→L.length≤200000 →
  (∀ p,((b≤p∧p<b+ts.length)∨l.length≤p)→p<(CU ts b l).length→L[p]? = (CU ts b l)[p]?)→∀ (i:Nat) (hi:i<ts.length),∃ r u,JL [L] 0 ((b+i:Nat):Int)=(r,0)∧A7 [L] r u∧Af u=Af ts[i]
 |t::ts,h,b,l,L,hb,hz,hl,hL,hag,i,hi=>by
  have hm1:=(MI t).1.2 b l;have hm2:=Fh ts (b+1) (Dr t b l);rw[Hb] at hl hag;simp only[List.length_cons] at hb hz hag hi;cases i with
  |zero=>
   refine h t (by simp) b l L (by omega) (hz 0 (by omega)) (by omega) hL fun p hp hlt=>?_;rw[hag p (by omega) (by omega),LV hlt (by omega)]
  |succ i=>
   have:=du (ts:=ts) (fun u hu=>h u (by simp[hu])) (b+1) (Dr t b l) L (by omega) (fun j hj=>?_) hl hL (fun p hp hlt=>hag p (by omega) hlt) i (by omega)
   ·rw[show b+1+i=b+(i+1) by omega] at this;simpa using this
   ·rw[Aba (by omega) (by omega),show b+1+j=b+(j+1) by omega];exact hz (j+1) (by omega)
theorem Nb (l:List (List Int)):A7 l Rf.zero T0:=.mk _ _ .zero rfl (by simp[C9,Rf.zero]) (by simp[nk,Rf.zero]) (fun i h=>by simp at h) (fun i h=>by simp at h)
theorem tK {w k:Nat}:∀ {ts:List T},(∀ t,t ∈ ts→t.kids.length≤k∧∀ c,c ∈ t.kids→po c)→∀ (b:Nat) (l L:List Int),b+ts.length*(w+k)≤l.length→(∀ i,i<ts.length→∀ j,j<k→l[b+i*(w+k)+w+j]? = some 0)→(IP w k ts b l).length≤L.length→L.length≤200000 →
  (∀ p,((∃ i,i<ts.length∧b+i*(w+k)+w≤p∧p<b+i*(w+k)+w+k)∨l.length≤p)→p<(IP w k ts b l).length→L[p]? = (IP w k ts b l)[p]?) →
  ∀ (i:Nat) (hi:i<ts.length) (j:Nat),j<k→∃ r u,JL [L] 0 ((b+i*(w+k)+w+j:Nat):Int)=(r,0)∧A7 [L] r u∧Af u=Af (ts[i].kids.getD j T0)
 |t::ts,h,b,l,L,hb,hz,hl,hL,hag,i,hi,j,hj=>by
  obtain⟨hk,hc⟩:=h t (by simp);have hm1:=Fh t.kids (b+w) l;have hm2:=O2 w k ts (b+(w+k)) (CU t.kids (b+w) l);have hks:∀ u,u ∈ ts→u.kids.length≤k:=fun u hu=>(h u (by simp[hu])).1;rw[FZ] at hl hag;simp only[List.length_cons] at hb hz hag hi;rw[BU] at hb;have hout:∀ p,p<b+(w+k)∨l.length≤p→∀ i,i<ts.length→¬ (b+(w+k)+i*(w+k)+w≤p∧p<b+(w+k)+i*(w+k)+w+k):=fun p hp i hi=>by
   have h1:(i+1)*(w+k)≤ts.length*(w+k):=Nat.mul_le_mul_right _ hi;rw[BU] at h1;omega
  cases i with
  |zero=>
   rw[Nat.zero_mul,Nat.add_zero];by_cases hjk:j<t.kids.length
   ·have:=du hc (b+w) l L (by omega) (fun i hi=>?_) (by omega) hL (fun p hp hlt=>?_) j hjk
    ·simpa[List.getD_eq_getElem?_getD,hjk] using this
    ·have:=hz 0 (by omega) i (by omega)
     rwa [Nat.zero_mul,Nat.add_zero] at this
    ·rw[hag p ?_ (by omega),NV hks hlt (hout p (by omega))];rcases hp with hp | hp
     ·exact .inl ⟨0,by omega,by omega,by omega⟩
     ·exact .inr hp
   ·have e:L[b+w+j]? = some 0:=by
     have h0:=hz 0 (by omega) j hj;rw[Nat.zero_mul,Nat.add_zero] at h0;have hlt:b+w+j<l.length:=by omega
     rw[hag (b+w+j) (.inl ⟨0,by omega,by omega,by omega⟩) (by omega),NV hks (by omega) (hout _ (by omega)),LV hlt (by omega),h0]
    refine⟨Rf.zero,T0,Wb e,Nb _,?_⟩;simp[List.getD_eq_getElem?_getD,List.getElem?_eq_none (by omega:t.kids.length≤j)]
  |succ i=>
   have:=tK (ts:=ts) (fun u hu=>h u (by simp[hu])) (b+(w+k)) (CU t.kids (b+w) l) L (by omega) (fun x hx y hy=>?_) hl hL (fun p hp hlt=>hag p ?_ hlt) i (by omega) j hj
   ·rw[BU,show b+(w+k+i*(w+k))+w+j=b+(w+k)+i*(w+k)+w+j by omega];simpa using this
   ·have h1:(x+1)*(w+k)≤ts.length*(w+k):=Nat.mul_le_mul_right _ hx;have h2:=hz (x+1) (by omega) y hy;rw[BU] at h1 h2;rw[LV (by omega) (by omega),show b+(w+k)+x*(w+k)+w+y=b+(w+k+x*(w+k))+w+y by omega];exact h2
   ·rcases hp with ⟨x,hx,hp1,hp2⟩ | hp
    ·refine .inl ⟨x+1,by omega,?_,?_⟩<;>rw[BU]<;>omega
    ·exact .inr (by omega)
theorem JO {L:List Int} {to w k:Nat} {W:List Int} {us:List T} (hw:w<65536) (hk:k<65536) (hin:to+(w+k)≤L.length) (hW:(L.drop to).take w=W) (hu:us.length=k) (hm:∀ (i:Nat) (hi:i<us.length),∃ r,JL [L] 0 ((to+w+i:Nat):Int)=(r,0)∧A7 [L] r us[i]) :
  A7 [L] ⟨1,0,to,w,k,0,0⟩ (.mk 1 W us):=by
 have hkid:∀ (i:Nat),i<us.length→BQ [L] ⟨1,0,to,w,k,0,0⟩ i=JL [L] 0 ((to+w+i:Nat):Int):=fun i hi=>by
  unfold BQ;rw[if_neg (by simp[nk];omega),if_pos rfl];simp
 refine .mk _ _ (.str _ _ _ _ (by omega) (by omega) (by omega) (by omega) (by have:=LC (L:=L) (a:=to) (n:=w+k) hin;simpa using this)) rfl ?_ (by simp[nk,hu]) (fun i hi=>?_) (fun i hi=>?_)
 ·simp[C9,Ac4,hW]
 ·obtain⟨r,e,_⟩:=hm i hi;rw[hkid i hi,e]
 ·obtain⟨r,e,h⟩:=hm i hi;rw[hkid i hi,e];exact h
theorem Ik {d:Nat} {t:T} (h:Aj d t=true):∀ c,c ∈ t.kids→Aj (d-1) c=true∧B6 t.kind c=true:=by
 cases t;exact AV h
theorem Ug {l:List (List Int)} {kd s a n i:Int} (h1:kd ≠ 1) (h8:kd ≠ 8) (h9:kd ≠ 9) (h0:0≤i) (hn:i<n):BQ l ⟨kd,s,a,0,0,n,0⟩ i=(⟨10,0,0,0,0,0,Nl l ⟨kd,s,a,0,0,n,0⟩ i⟩,0):=by
 unfold BQ nk;simp only[if_neg h1,if_neg h8,if_neg h9];rw[if_neg (by omega)]
theorem WB {c:Int} (c0:0≤c) (c6:c<6):Jg c=Ux c:=by
 have:c=0∨c=1∨c=2∨c=3∨c=4∨c=5:=by omega
 rcases this with rfl | rfl | rfl | rfl | rfl | rfl<;>rfl
theorem rM:∀ t:T,(Cr t→(∃ d,Aj d t=true)→po t)∧∀ c,c ∈ t.kids→Cr c→(∃ d,Aj d c=true)→po c:=by
 refine T.ind fun k w ks ih=>?_;refine⟨fun hok hr=>?_,fun c hc=>(ih c hc).1⟩;obtain⟨d,hr⟩:=hr;have hkr:=AV hr;intro a l L ha h0 hl hL hag;have hw0:2≤k→w=[]:=fun hk2=>by
  rw[AI,if_neg (by omega)] at hr;split at hr
  ·rename_i h10;cases hok<;>omega
  ·split at hr
   ·cases hr
   ·rename_i hb;simp[A4] at hb;have:=hb.2 (by omega);exact this
 cases hok with
 |null=>
  rw[B8,if_pos rfl] at hag hl;exact⟨Rf.zero,T0,Wb (by rw[hag a (.inl rfl) ha,h0]),Nb _,by rw[FY,FN rfl]⟩
 |str w ks b1 b2 hk=>
  rw[B8,if_neg (by decide),if_pos rfl] at hag hl;obtain⟨to,hto⟩:∃ to:Nat,to=if w.length+ks.length=0 then a else l.length:=⟨_,rfl⟩
  rw[show(if w.length+ks.length=0 then (a:Int) else (l.length:Int))=(to:Int) by rw[hto];split<;>rfl] at hag hl;obtain⟨P,hP⟩:∃ P:Int,P=DH a to 0 ((w.length:Int)+65536*ks.length):=⟨_,rfl⟩;rw[← hP] at hag hl;obtain⟨l2,hl2⟩:∃ l2,l2=l.set a P++w++List.replicate ks.length (0:Int):=⟨_,rfl⟩;rw[← hl2] at hag hl;have hlen:l2.length=l.length+w.length+ks.length:=by rw[hl2];simp;omega
  have hm:=Fh ks (l.length+w.length) l2;have ga:L[a]? = some P:=by
   rw[hag a (.inl rfl) (by omega),LV (by omega) (by omega),hl2,List.append_assoc,List.getElem?_append_left (by simpa using ha),List.getElem?_set_self ha]
  have gw:(L.drop to).take w.length=w:=by
   by_cases hz:w.length+ks.length=0
   ·have:w=[]:=List.length_eq_zero_iff.1 (by omega);subst this;simp
   ·rw[if_neg hz] at hto;subst hto;apply List.ext_getElem?;intro i;rw[List.getElem?_take];split
    ·rename_i hi;rw[List.getElem?_drop,hag _ (.inr (by omega)) (by omega),LV (by omega) (by omega),hl2,List.getElem?_append_left (by simp;omega),List.getElem?_append_right (by simp)];simp
    ·rename_i hi;rw[List.getElem?_eq_none (by omega)]
  have hkm:=du (fun t ht=>(ih t ht).1 (hk t ht) ⟨_,(hkr t ht).1⟩) (l.length+w.length) l2 L (by omega) (fun i hi=>by
   rw[hl2,List.getElem?_append_right (by simp),List.getElem?_replicate];simp;omega) hl hL (fun p hp hlt=>hag p (.inr (by omega)) hlt)
  obtain⟨us,u1,u2⟩:=NT (P:=fun i u=>∃ r,JL [L] 0 ((l.length+w.length+i:Nat):Int)=(r,0)∧A7 [L] r u∧∀ hi:i<ks.length,Af u=Af ks[i]) (n:=ks.length) fun i hi=>by
   obtain⟨r,u,e1,e2,e3⟩:=hkm i hi;exact⟨u,r,e1,e2,fun _=>e3⟩
  refine⟨⟨1,0,to,w.length,ks.length,0,0⟩,.mk 1 w us,aX hL (by rw[ga,hP]) (by omega) b1 b2 (fun e=>by rw[hto,if_pos e]) (by rw[hto];split<;>omega),?_,?_⟩
  ·refine JO b1 b2 (by rw[hto];split<;>omega) gw u1 fun i hi=>?_;obtain⟨r,e1,e2,_⟩:=u2 i hi;have:to=l.length:=by rw[hto,if_neg (by omega)]
   rw[this];exact⟨r,e1,e2⟩
  ·refine struct_eq.2 ⟨fun i=>rfl,fun i=>?_⟩;by_cases hi:i<ks.length
   ·obtain⟨_,_,_,e3⟩:=u2 i (by omega);simpa[List.getD_eq_getElem?_getD,hi,u1] using e3 hi
   ·simp[List.getD_eq_getElem?_getD,List.getElem?_eq_none (by omega:ks.length≤i),List.getElem?_eq_none (by omega:us.length≤i)]
 |ptrs w ks b1 hk=>
  obtain rfl:=hw0 (by omega);rw[B8,if_neg (by decide),if_neg (by decide),if_pos rfl] at hag hl;obtain⟨P,hP⟩:∃ P:Int,P=DH a l.length 1 (6+8*(ks.length:Int)):=⟨_,rfl⟩;rw[← hP] at hag hl;obtain⟨l2,hl2⟩:∃ l2,l2=l.set a P++List.replicate ks.length (0:Int):=⟨_,rfl⟩;rw[← hl2] at hag hl;have hlen:l2.length=l.length+ks.length:=by rw[hl2];simp
  have hm:=Fh ks l.length l2;have ga:L[a]? = some P:=by
   rw[hag a (.inl rfl) (by omega),LV (by omega) (by omega),hl2,List.getElem?_append_left (by simpa using ha),List.getElem?_set_self ha]
  have hkm:=du (fun t ht=>(ih t ht).1 (hk t ht) ⟨_,(hkr t ht).1⟩) l.length l2 L (by omega) (fun i hi=>by
   rw[hl2,List.getElem?_append_right (by simp),List.getElem?_replicate];simp;omega) hl hL (fun p hp hlt=>hag p (.inr (by omega)) hlt)
  obtain⟨us,u1,u2⟩:=NT (P:=fun i u=>∃ r,JL [L] 0 ((l.length+i:Nat):Int)=(r,0)∧A7 [L] r u∧∀ hi:i<ks.length,Af u=Af ks[i]) (n:=ks.length) fun i hi=>by
   obtain⟨r,u,e1,e2,e3⟩:=hkm i hi;exact⟨u,r,e1,e2,fun _=>e3⟩
  have hb:Jg 6=64:=by decide
  have hin:l.length+ks.length≤L.length:=by omega
  have hat:=Wf (L:=L) (a:=a) (to:=l.length) (c:=6) (n:=ks.length) (m:=ks.length) hL (by rw[ga,hP]) (by omega) (by omega) (by omega) b1 (by rw[hb];omega) hin;have hkid:∀ (i:Nat),i<us.length→BQ [L] ⟨8,0,(l.length:Int),0,0,ks.length,0⟩ i=JL [L] 0 ((l.length+i:Nat):Int):=fun i hi=>by
   unfold BQ;rw[if_neg (by simp[nk];omega),if_neg (by simp),if_pos rfl];simp
  refine⟨⟨8,0,l.length,0,0,ks.length,0⟩,.mk 8 [] us,hat,?_,?_⟩
  ·refine .mk _ _ (.ptrs _ _ _ (by omega) (by omega) (LC hin)) rfl (by simp[C9]) (by simp[nk,u1]) (fun i hi=>?_) (fun i hi=>?_)
   ·obtain⟨r,e,_⟩:=u2 i hi;rw[hkid i hi,e]
   ·obtain⟨r,e,h,_⟩:=u2 i hi;rw[hkid i hi,e];exact h
  ·refine(Me (by decide) (by decide)).2 ⟨rfl,Lp u1 fun i h1 h2=>?_⟩;obtain⟨_,_,_,e⟩:=u2 i h1;exact e h2
 |comp w ks b1 b2 hk=>
  obtain rfl:=hw0 (by omega);have hF1:An ks<65536:=TT (by decide) fun t ht=>(b2 t ht).1;have hF2:Aq ks<65536:=Tr (by decide) fun t ht=>(b2 t ht).2;have hfw:∀ t,t ∈ ks→t.words.length≤An ks:=fun t ht=>DI ht;have hfk:∀ t,t ∈ ks→t.kids.length≤Aq ks:=fun t ht=>Ek ht;rw[B8,if_neg (by decide),if_neg (by decide),if_neg (by decide),if_pos rfl] at hag hl;generalize hW:An ks=W at *;generalize hK:Aq ks=K at *;obtain⟨P,hP⟩:∃ P:Int,P=DH a l.length 1 (7+8*(ks.length*(W+K):Nat)):=⟨_,rfl⟩;rw[← hP] at hag hl;obtain⟨l2,hl2⟩:∃ l2,l2=l.set a P++[4*(ks.length:Int)+4294967296*((W:Int)+65536*K)]++Ha W K ks:=⟨_,rfl⟩;rw[← hl2] at hag hl;have hrl:=Hf (w:=W) (k:=K) ks fun t ht=>by have:=hfw t ht;omega
  have hlen:l2.length=l.length+1+ks.length*(W+K):=by rw[hl2];simp[hrl];omega
  have hm:=O2 W K ks (l.length+1) l2;have ga:L[a]? = some P:=by
   rw[hag a (.inl rfl) (by omega),NV hfk (by omega) (fun i hi=>by omega),hl2,List.append_assoc,List.getElem?_append_left (by simpa using ha),List.getElem?_set_self ha]
  have gt:L[l.length]? = some (4*(ks.length:Int)+4294967296*((W:Int)+65536*K)):=by
   rw[hag _ (.inr (by omega)) (by omega),NV hfk (by omega) (fun i hi=>by omega),hl2,List.getElem?_append_left (by simp),List.getElem?_append_right (by simp)];simp
  have hrow:∀ (i:Nat) (hi:i<ks.length) (j:Nat),j<W+K→l2[l.length+1+i*(W+K)+j]? = some (ks[i].words.getD j 0):=fun i hi j hj=>by
   rw[hl2,List.getElem?_append_right (by simp;omega)];simp only[List.length_append,List.length_set,List.length_singleton];rw[show l.length+1+i*(W+K)+j-(l.length+1)=i*(W+K)+j by omega];exact Ty hfw i hi j hj
  have hin1:∀ i,i<ks.length→i*(W+K)+(W+K)≤ks.length*(W+K):=fun i hi=>by
   have h1:(i+1)*(W+K)≤ks.length*(W+K):=Nat.mul_le_mul_right _ hi;rw[BU] at h1;omega
  have hz:∀ i,i<ks.length→∀ j,j<K→l2[l.length+1+i*(W+K)+W+j]? = some 0:=fun i hi j hj=>by
   rw[show l.length+1+i*(W+K)+W+j=l.length+1+i*(W+K)+(W+j) by omega,hrow i hi (W+j) (by omega)];have:=hfw _ (A5 hi);simp[List.getD_eq_getElem?_getD,List.getElem?_eq_none (by omega:ks[i].words.length≤W+j)]
  have hkm:=tK (w:=W) (k:=K) (ts:=ks) (fun t ht=>⟨hfk t ht,fun c hc=>(ih t ht).2 c hc (hk t ht c hc) ⟨_,(Ik (hkr t ht).1 c hc).1⟩⟩) (l.length+1) l2 L (by omega) hz hl hL (fun p hp hlt=>hag p (.inr (by
   rcases hp with ⟨i,_,hp,_⟩ | hp<;>omega)) hlt)
  have hin:l.length+(ks.length*(W+K)+1)≤L.length:=by omega
  have hst:∀ i,i<ks.length→∃ u,A7 [L] ⟨1,0,((l.length+1+i*(W+K):Nat):Int),W,K,0,0⟩ u∧∀ hi:i<ks.length,Af u=Af ks[i]:=fun i hi=>by
   have hc1:ks[i].kind=1:=c9 (hkr _ (A5 hi)).2;have h5:=hin1 i hi;obtain⟨us,u1,u2⟩:=NT (P:=fun j u=>∃ r,JL [L] 0 ((l.length+1+i*(W+K)+W+j:Nat):Int)=(r,0)∧A7 [L] r u∧Af u=Af (ks[i].kids.getD j T0)) (n:=K) fun j hj=>by
    obtain⟨r,u,e1,e2,e3⟩:=hkm i hi j hj;exact⟨u,r,e1,e2,e3⟩
   refine⟨.mk 1 ((L.drop (l.length+1+i*(W+K))).take W) us,JO hF1 hF2 (by omega) rfl u1 fun j hj=>?_,fun _=>?_⟩
   ·obtain⟨r,e1,e2,_⟩:=u2 j hj;exact⟨r,e1,e2⟩
   ·have e:ks[i] = .mk 1 ks[i].words ks[i].kids:=by rw[← hc1];exact T.eta _
    rw[e];refine struct_eq.2 ⟨fun j=>?_,fun j=>?_⟩
    ·by_cases hj:j<W
     ·have:∀ x,x<ks.length→¬ (l.length+1+x*(W+K)+W≤l.length+1+i*(W+K)+j∧l.length+1+i*(W+K)+j<l.length+1+x*(W+K)+W+K):=fun x hx=>by
       rcases Nat.lt_trichotomy x i with c | c | c
       ·have h1:(x+1)*(W+K)≤i*(W+K):=Nat.mul_le_mul_right _ c;rw[BU] at h1;omega
       ·subst c;omega
       ·have h1:(i+1)*(W+K)≤x*(W+K):=Nat.mul_le_mul_right _ c;rw[BU] at h1;omega
      rw[List.getD_eq_getElem?_getD,List.getElem?_take,if_pos hj,List.getElem?_drop,hag _ (.inr (by omega)) (by omega),NV hfk (by omega) this,hrow i hi j (by omega)];rfl
     ·have:=hfw _ (A5 hi);simp[List.getD_eq_getElem?_getD,List.getElem?_take,hj,List.getElem?_eq_none (by omega:ks[i].words.length≤j)]
    ·by_cases hj:j<K
     ·obtain⟨_,_,_,e3⟩:=u2 j (by omega);rw[← e3];simp[List.getD_eq_getElem?_getD,u1,hj]
     ·have:=hfk _ (A5 hi);simp[List.getD_eq_getElem?_getD,List.getElem?_eq_none (by omega:ks[i].kids.length≤j),List.getElem?_eq_none (by omega:us.length≤j)]
  obtain⟨us,u1,u2⟩:=NT hst;have hat:=pY (L:=L) (a:=a) (to:=l.length) (n:=ks.length) (w:=W) (k:=K) hL (by rw[ga,hP]) (by omega) gt b1 hF1 hF2 hin;have hkid:∀ (i:Nat),i<us.length→BQ [L] ⟨9,0,(l.length:Int)+1,W,K,ks.length,0⟩ i=(⟨1,0,((l.length+1+i*(W+K):Nat):Int),W,K,0,0⟩,0):=fun i hi=>by
   unfold BQ;rw[if_neg (by simp[nk];omega),if_neg (by simp),if_neg (by simp),if_pos rfl];simp
  refine⟨⟨9,0,(l.length:Int)+1,W,K,ks.length,0⟩,.mk 9 [] us,hat,?_,?_⟩
  ·have hh:=LC (L:=L) (a:=l.length+1) (n:=ks.length*(W+K)) (by omega);refine .mk _ _ (.comp _ _ _ _ _ (by omega) (by omega) (by omega) (by omega) (by omega) (by omega) (by simpa using hh)) rfl (by simp[C9]) (by simp[nk,u1]) (fun i hi=>?_) (fun i hi=>?_)
   ·rw[hkid i hi]
   ·rw[hkid i hi];exact(u2 i hi).1
  ·refine(Me (by decide) (by decide)).2 ⟨rfl,Lp u1 fun i h1 h2=>?_⟩;exact(u2 i h1).2 h2
 |data k w ks h1 h2 b1 b2=>
  obtain rfl:=hw0 h1;rw[B8,if_neg (by omega),if_neg (by omega),if_neg (by omega),if_neg (by omega)] at hag hl;obtain⟨P,hP⟩:∃ P:Int,P=DH a l.length 1 (k-2+8*(ks.length:Int)):=⟨_,rfl⟩;rw[← hP] at hag hl;obtain⟨wd,w1,w2,w3⟩:=IU (c:=k-2) (by omega) (by omega);have hroom:Dw (k-2) (ks.map hd).length=(((ks.length*wd+63) / 64:Nat):Int):=by
   unfold Dw;rw[List.length_map,if_neg (by omega),w2];have e:(ks.length:Int)*wd=((ks.length*wd:Nat):Int):=by rw[Int.natCast_mul]
   rw[e];omega
  have hpl:(MS (k-2) (ks.map hd)).length=(ks.length*wd+63) / 64:=by rw[K8,hroom];omega
  simp only[List.length_append,List.length_set,hpl] at hl hag;have ga:L[a]? = some P:=by
   rw[hag a (.inl rfl) (by omega),List.getElem?_append_left (by simpa using ha),List.getElem?_set_self ha]
  have hm:((ks.length:Int)*Jg (k-2)+63) / 64=(((ks.length*wd+63) / 64:Nat):Int):=by
   rw[WB (by omega) (by omega),w2];have e:(ks.length:Int)*wd=((ks.length*wd:Nat):Int):=by rw[Int.natCast_mul]
   rw[e];omega
  have hat:=Wf (L:=L) (a:=a) (to:=l.length) (c:=k-2) (n:=ks.length) (m:=(ks.length*wd+63) / 64) hL (by rw[ga,hP]) (by omega) (by omega) (by omega) b1 hm (by omega);have hk2:2+(k-2)=k:=by omega
  have hq:∀ q,q<(ks.length*wd+63) / 64→(L.drop l.length)[q]? = (MS (k-2) (ks.map hd))[q]?:=fun q hq=>by
   rw[List.getElem?_drop,hag _ (.inr (by omega)) (by omega),List.getElem?_append_right (by simp)];simp
  have hkid:∀ (i:Nat) (hi:i<ks.length),BQ [L] ⟨2+(k-2),0,l.length,0,0,ks.length,0⟩ i=(⟨10,0,0,0,0,0,hd ks[i]⟩,0):=fun i hi=>by
   rw[Ug (by omega) (by omega) (by omega) (by omega) (by omega)];have:Nl [L] ⟨2+(k-2),0,l.length,0,0,ks.length,0⟩ i=hd ks[i]:=by
    unfold Nl Pw;have e0:((seg [L] 0).getD []).drop (l.length:Int).toNat=L.drop l.length:=by simp[seg]
    simp only[e0,show 2+(k-2)-2=k-2 by omega,w1];obtain⟨x,hx1,hx2,hx3,hx4⟩:=b2 _ (A5 hi);have hhd:hd ks[i]=x:=by unfold hd;rw[hx1];rfl
    by_cases hw0:wd=0
    ·subst hw0;rw[if_pos (by omega),hhd];unfold GA at hx4;rw[w1] at hx4;simp at hx4;omega
    ·rw[if_neg (by omega)];have e1:((i:Int)*wd / 64).toNat=i*wd / 64:=by
      have:(i:Int)*wd=((i*wd:Nat):Int):=by rw[Int.natCast_mul]
      rw[this];omega
     have e2:((i:Int)*wd % 64).toNat=i*wd % 64:=by
      have:(i:Int)*wd=((i*wd:Nat):Int):=by rw[Int.natCast_mul]
      rw[this];omega
     rw[e1,e2,Int.toNat_natCast];have hat2:∀ j,j<ks.length→j*wd / 64<(ks.length*wd+63) / 64:=fun j hj=>ct (by omega) hj;rw[hq _ (hat2 i hi)];have hput:MS (k-2) (ks.map hd)=Lx wd (ks.map hd) 0 (List.replicate ((ks.length*wd+63) / 64) 0):=by
      unfold MS;rw[w1,hroom];simp only[Int.toNat_natCast]
     have hf:=(Qk (w:=wd) (by omega) (ks.map hd) 0 _ (PutI.start wd ((ks.length*wd+63) / 64)) (fun y hy=>by
      obtain⟨c,hc,rfl⟩:=List.mem_map.1 hy;obtain⟨z,z1,z2,z3,z4⟩:=b2 c hc;have:hd c=z:=by unfold hd;rw[z1];rfl
      rw[this];exact⟨z2,Wl w1 z2 z4⟩) (fun j hj=>by
      rw[List.length_replicate];exact hat2 j (by simpa using hj))).2 i (by simpa using hi)
     rw[Nat.zero_add,← hput] at hf;unfold Q4 at hf;rw[List.getD_eq_getElem?_getD] at hf;rw[hf];simp
   rw[this]
  refine⟨⟨2+(k-2),0,l.length,0,0,ks.length,0⟩,.mk k [] ks,hat,?_,rfl⟩;have hh:=LC (L:=L) (a:=l.length) (n:=(ks.length*wd+63) / 64) (by omega);rw[← hm] at hh;refine .mk _ _ (.dat _ _ _ _ (by omega) (by omega) (by omega) (by omega) hh) hk2 ?_ ?_ (fun i hi=>?_) (fun i hi=>?_)
  ·unfold C9;rw[if_neg (by simp only;omega),if_pos (by simp only;omega)];rfl
  ·unfold nk;rw[if_neg (by simp only;omega)];rfl
  ·change i<ks.length at hi;rw[hkid i hi]
  ·change i<ks.length at hi;rw[hkid i hi];obtain⟨x,hx1,hx2,hx3,hx4⟩:=b2 _ (A5 hi);obtain⟨g1,g2⟩:=hkr _ (A5 hi);have hhd:hd ks[i]=x:=by unfold hd;rw[hx1];rfl
   have hkd:ks[i].kind=10:=by
    have hd:Bb k=true:=by simp[Bb];omega
    unfold B6 at g2;rw[hd] at g2;simp at g2;first | exact g2.1.1 | exact of_decide_eq_true g2.1.1
   have hks:ks[i].kids=[]:=by
    rw[T.eta ks[i],AI,hkd] at g1;simp at g1;exact g1.2
   have e:ks[i] = .mk 10 [x] []:=by rw[T.eta ks[i],hkd,hx1,hks]
   show A7 [L] _ ks[i];rw[hhd,e];exact .mk _ _ (.atom _ hx2 hx3) rfl (by simp[C9]) (by simp[nk]) (fun i hi=>by simp at hi) (fun i hi=>by simp at hi)
theorem wY {t:T} (hok:Cr t) {d:Nat} (hr:Aj d t=true) (hL:(Dr t 0 [0]).length≤200000):∃ r u,JL [Dr t 0 [0]] 0 0=(r,0)∧A7 [Dr t 0 [0]] r u∧Af u=Af t:=by
 have:=(rM t).1 hok ⟨d,hr⟩ 0 [0] (Dr t 0 [0]) (by simp) rfl (Cb _) hL (fun p _ _=>rfl);simpa using this
theorem od {l:List (List Int)}:∀ (t u:T) (r:Rf),A7 l r t→A7 l r u→t=u:=by
 refine T.ind fun k w ks ih u r h1 h2=>?_;obtain⟨_,_,_,a1,a2,a3,a4,a5⟩:=h1;obtain⟨_,_,_,b1,b2,b3,b4,b5⟩:=h2;obtain⟨k',w',ks'⟩:=u;simp only[T.kind_mk,T.words_mk,T.kids_mk] at *;have hl:ks.length=ks'.length:=by omega
 have e:ks=ks':=by
  apply List.ext_getElem hl;intro i h1 h2;exact ih _ (A5 h1) _ _ (a5 i h1) (b5 i h2)
 rw[← a1,← a2,b1,b2,e]
end Go.Proofs.YtbjmaoedheiigaaGreat
namespace Go.PL
def Gk (t:T) (i:Nat):Int:=t.words.getD i 0
def HL (t:T) (i:Nat):T:=t.kids.getD i T0
theorem rX (t:T):SizeOf.sizeOf T0≤SizeOf.sizeOf t:=by
 obtain⟨k,w,l⟩:=t;have h1:1≤SizeOf.sizeOf k:=by
  cases k with
  |ofNat n=>rw[Int.ofNat.sizeOf_spec];omega
  |negSucc n=>rw[Int.negSucc.sizeOf_spec];omega
 have h2:1≤SizeOf.sizeOf w:=by cases w<;>simp<;>omega
 have h3:1≤SizeOf.sizeOf l:=by cases l<;>simp<;>omega
 simp only[T.mk.sizeOf_spec];have e1:SizeOf.sizeOf (0:Int)=1:=rfl;have e2:SizeOf.sizeOf ([]:List Int)=1:=rfl;have e3:SizeOf.sizeOf ([]:List T)=1:=rfl;omega
theorem uD {t:T} {i:Nat} {x:T} (hx:x ∈ (HL t i).kids):HL t i ∈ t.kids:=by
 unfold HL at hx ⊢;rw[List.getD_eq_getElem?_getD] at hx ⊢;cases h:t.kids[i]? with
 |none=>rw[h] at hx;simp at hx
 |some y=>exact List.mem_of_getElem? (by rw[h];rfl)
theorem dt {t c:T} (h:c ∈ t.kids):SizeOf.sizeOf c<SizeOf.sizeOf t:=by
 obtain⟨k,w,l⟩:=t;have:=List.sizeOf_lt_of_mem h;simp only[T.kids_mk] at this;simp only[T.mk.sizeOf_spec];omega
theorem xS {t x:T} {i:Nat} (hx:x ∈ (HL t i).kids) (j:Nat):SizeOf.sizeOf (HL x j)<SizeOf.sizeOf t:=by
 have h1:=dt (uD hx);have h2:=dt hx;have h3:SizeOf.sizeOf (HL x j)≤SizeOf.sizeOf x:=by
  have e:HL x j=T0∨HL x j ∈ x.kids:=by
   unfold HL;rw[List.getD_eq_getElem?_getD];cases h:x.kids[j]? with
   |none=>exact .inl rfl
   |some y=>exact .inr (List.mem_of_getElem? (by rw[h];rfl))
  rcases e with e | e
  ·rw[e];exact rX x
  ·exact Nat.le_of_lt (dt e)
 omega
def HU (x:T):WE:=⟨Gk x 0 % 4294967296,Gk x 0 / 4294967296 % 256,Gk x 1,Gk x 2⟩
def Er (t:T):E:=
 if t.kind ≠ 1 then E0 else
 .mk (Gk t 0 % 256) (if Gk t 0 % 256=1 then HL t 0 else T0) (if Gk t 0 % 256=1 then HL t 1 else T0)
  (if Gk t 0 % 256=2 then (HL t 0).kids.map HU else [])
  (if Gk t 0 % 256=2 then (HL t 1).kids.attach.map (fun x=>KE.mk (Gk x.1 0 % 4294967296) (Er (HL x.1 0))) else [])
  (Gk t 0 / 256 % 256)
  (if Gk t 0 % 256=3 then (HL t 0).kids.attach.map (fun x=>OP.mk (Gk x.1 0 % 256) (Gk x.1 0 / 256 % 1099511627776) (if Gk x.1 0 % 256=1∨Gk x.1 0 % 256=2 then (HL x.1 0).kids else []) (if Gk x.1 0 % 256=3 then Er (HL x.1 0) else E0)) else [])
termination_by SizeOf.sizeOf t
decreasing_by all_goals exact xS x.2 0
def Ul (x:T):KE:=KE.mk (Gk x 0 % 4294967296) (Er (HL x 0))
def MT (x:T):OP:=OP.mk (Gk x 0 % 256) (Gk x 0 / 256 % 1099511627776) (if Gk x 0 % 256=1∨Gk x 0 % 256=2 then (HL x 0).kids else []) (if Gk x 0 % 256=3 then Er (HL x 0) else E0)
theorem Mp (t:T):Er t=if t.kind ≠ 1 then E0 else
  .mk (Gk t 0 % 256) (if Gk t 0 % 256=1 then HL t 0 else T0) (if Gk t 0 % 256=1 then HL t 1 else T0) (if Gk t 0 % 256=2 then (HL t 0).kids.map HU else [])
   (if Gk t 0 % 256=2 then (HL t 1).kids.map Ul else []) (Gk t 0 / 256 % 256) (if Gk t 0 % 256=3 then (HL t 0).kids.map MT else []):=by
 rw[Er];have h1:∀ l:List T,l.attach.map (fun x=>KE.mk (Gk x.1 0 % 4294967296) (Er (HL x.1 0)))=l.map Ul:=fun l=>by
  rw[show(fun x:{ x // x ∈ l }=>KE.mk (Gk x.1 0 % 4294967296) (Er (HL x.1 0)))=Ul ∘ Subtype.val from rfl,← List.map_map,List.attach_map_subtype_val]
 have h2:∀ l:List T,l.attach.map (fun x=>OP.mk (Gk x.1 0 % 256) (Gk x.1 0 / 256 % 1099511627776) (if Gk x.1 0 % 256=1∨Gk x.1 0 % 256=2 then (HL x.1 0).kids else []) (if Gk x.1 0 % 256=3 then Er (HL x.1 0) else E0))=l.map MT:=fun l=>by
  rw[show(fun x:{ x // x ∈ l }=>OP.mk (Gk x.1 0 % 256) (Gk x.1 0 / 256 % 1099511627776) (if Gk x.1 0 % 256=1∨Gk x.1 0 % 256=2 then (HL x.1 0).kids else []) (if Gk x.1 0 % 256=3 then Er (HL x.1 0) else E0))=MT ∘ Subtype.val from rfl,← List.map_map,List.attach_map_subtype_val]
 rw[h1,h2]
@[simp] theorem Acn (l:List T):(Es l).kids=l:=by cases l<;>simp
theorem RE {t:T} (h:KL t=true):t=T0:=by
 obtain⟨k,w,l⟩:=t;simp only[KL,Bool.and_eq_true,decide_eq_true_eq,List.isEmpty_iff,T.kind_mk,T.words_mk,T.kids_mk] at h;obtain⟨⟨h0,rfl⟩,rfl⟩:=h;obtain rfl:=of_decide_eq_true h0;rfl
theorem YC {e:E} (h:XZ e=true):e=E0:=by
 obtain⟨k,o,n,ws,ks,l,os⟩:=e;simp only[XZ,Bool.and_eq_true,decide_eq_true_eq,List.isEmpty_iff,E.kind_mk,E.old_mk,E.new_mk,E.words_mk,E.kids_mk,E.list_mk,E.ops_mk] at h;obtain⟨⟨⟨⟨h0,h1⟩,h2⟩,⟨rfl,rfl⟩,rfl⟩,h3⟩:=h;obtain rfl:=of_decide_eq_true h0;obtain rfl:=of_decide_eq_true h3;rw[RE h1,RE h2]
theorem headOk_iff {d:Nat} {k:Int} {o n:T} {nw nk:Nat} {l:Int} {no:Nat}:NG d k o n nw nk l no=true ↔ d ≠ 0∧0≤k∧k≤3∧(k ≠ 1→KL o=true∧KL n=true)∧(k ≠ 2→nw=0∧nk=0)∧(k ≠ 3→l=0∧no=0):=by
 unfold NG;simp only[Bool.and_eq_true,Bool.not_eq_true',Bool.or_eq_false_iff,Bool.and_eq_false_iff,decide_eq_false_iff_not,Bool.not_eq_false',decide_eq_true_eq];constructor
 ·rintro⟨⟨⟨h1,h2⟩,h3⟩,⟨h4,h5⟩,h6⟩;refine⟨h1,by omega,by omega,fun hk=>?_,fun hk=>?_,fun hk=>?_⟩
  ·rcases h4 with h4 | h4
   ·exact absurd h4 hk
   ·exact h4
  ·rcases h5 with h5 | h5
   ·exact absurd h5 hk
   ·omega
  ·rcases h6 with h6 | h6
   ·exact absurd h6 hk
   ·exact⟨h6.1,by omega⟩
 ·rintro⟨h1,h2,h3,h4,h5,h6⟩;refine⟨⟨⟨h1,by omega⟩,by omega⟩,⟨?_,?_⟩,?_⟩
  ·by_cases hk:k=1
   ·exact .inl hk
   ·exact .inr (h4 hk)
  ·by_cases hk:k=2
   ·exact .inl hk
   ·exact .inr (by have:=h5 hk;omega)
  ·by_cases hk:k=3
   ·exact .inl hk
   ·exact .inr ⟨(h6 hk).1,by have:=h6 hk;omega⟩
structure AdF (d:Nat) (k:Int) (o n:T) (ws:List WE) (ks:List KE) (l:Int) (os:List OP):Prop where
 d0:d ≠ 0
 k0:0≤k
 k3:k≤3
 one:k ≠ 1→o=T0∧n=T0
 two:k ≠ 2→ws=[]∧ks=[]
 three:k ≠ 3→l=0∧os=[]
 rep:k=1→Aj 64 o=true∧Aj 64 n=true∧o.kind ≠ 10∧n.kind ≠ 10
 wok:CZ (-1) ws=true
 kok:DM (d-1) (-1) ks=true
 lst:k=3→2≤l∧l≤9
 ook:Fa (d-1) l os=true
 len:(Be 0 0 os).1<1048576∧(Be 0 0 os).2<1048576
theorem rightE_iff {d:Nat} {k:Int} {o n:T} {ws:List WE} {ks:List KE} {l:Int} {os:List OP}:Bu d (.mk k o n ws ks l os)=true ↔ AdF d k o n ws ks l os:=by
 rw[ZM];constructor
 ·intro h;by_cases hh:NG d k o n ws.length ks.length l os.length=true
  ·rw[if_neg (by rw[hh];simp)] at h;obtain⟨h1,h2,h3,h4,h5,h6⟩:=headOk_iff.1 hh;have g1:k ≠ 1→o=T0∧n=T0:=fun hk=>⟨RE (h4 hk).1,RE (h4 hk).2⟩;have g2:k ≠ 2→ws=[]∧ks=[]:=fun hk=>⟨List.length_eq_zero_iff.1 (h5 hk).1,List.length_eq_zero_iff.1 (h5 hk).2⟩;have g3:k ≠ 3→l=0∧os=[]:=fun hk=>⟨(h6 hk).1,List.length_eq_zero_iff.1 (h6 hk).2⟩;by_cases hk:k=1
   ·rw[if_pos hk] at h;simp at h;obtain⟨rfl,rfl⟩:=g2 (by omega);obtain⟨rfl,rfl⟩:=g3 (by omega);exact⟨h1,h2,h3,g1,g2,g3,fun _=>⟨h.1.1.1,h.1.1.2,h.1.2,h.2⟩,by simp[CZ],by simp,fun e=>by omega,by simp,by simp[Be]⟩
   ·rw[if_neg hk] at h;split at h
    ·cases h
    ·rename_i hw;split at h
     ·cases h
     ·rename_i hks;split at h
      ·cases h
      ·rename_i hl;split at h
       ·cases h
       ·rename_i ho;simp at h hw hks ho;exact⟨h1,h2,h3,g1,g2,g3,fun e=>absurd e hk,hw,hks,fun e=>by omega,ho,h⟩
  ·rw[if_pos (by simpa using hh)] at h;cases h
 ·intro h;have hh:NG d k o n ws.length ks.length l os.length=true:=headOk_iff.2 ⟨h.d0,h.k0,h.k3,fun hk=>by rw[(h.one hk).1,(h.one hk).2];exact⟨rfl,rfl⟩,fun hk=>by rw[(h.two hk).1,(h.two hk).2];exact⟨rfl,rfl⟩,fun hk=>by rw[(h.three hk).1,(h.three hk).2];exact⟨rfl,rfl⟩⟩;rw[if_neg (by rw[hh];simp)];by_cases hk:k=1
  ·rw[if_pos hk];obtain⟨a,b,c,e⟩:=h.rep hk;simp[a,b,c,e]
  ·rw[if_neg hk,if_neg (by rw[h.wok];simp),if_neg (by rw[h.kok];simp),if_neg (by have:=h.lst;omega),if_neg (by rw[h.ook];simp)];simp[h.len]
theorem QP:∀ {l:List WE} {last:Int},-1≤last→CZ last l=true→∀ w,w ∈ l→0≤w.at_∧w.at_≤65534∧w.mask ≠ 0
 |[],_,_,_,w,hw=>nomatch hw
 |x::l,last,hl,h,w,hw=>by
  rw[CZ,Bool.and_eq_true] at h;have h1:=h.1;simp[LI] at h1;rcases List.mem_cons.1 hw with rfl | hw
  ·exact⟨by omega,by omega,h1.1.1.2⟩
  ·exact QP (by omega) h.2 w hw
theorem JE:∀ {l:List KE} {d:Nat} {last:Int},-1≤last→DM d last l=true→∀ x,x ∈ l→0≤x.at_∧x.at_≤65534∧x.e.kind ≠ 0∧Bu d x.e=true
 |[],_,_,_,_,x,hx=>nomatch hx
 |y::l,d,last,hl,h,x,hx=>by
  rw[Ex] at h;simp at h;rcases List.mem_cons.1 hx with rfl | hx
  ·exact⟨by omega,by omega,h.1.1.2,h.1.2⟩
  ·exact JE (by omega) h.2 x hx
structure XE (d:Nat) (list:Int) (x:OP):Prop where
 k0:0≤x.kind
 k3:x.kind≤3
 keep:x.kind=0→1≤x.n∧x.n≤1048576∧x.l=[]
 nn:x.kind ≠ 0→x.n=0
 same:x.kind ≠ 3→x.e=E0
 some:x.kind=1∨x.kind=2→x.l ≠ []∧∀ t,t ∈ x.l→Aj 64 (.mk list [] [t])=true
 down:x.kind=3→x.l=[]∧x.e.kind ≠ 0∧8≤list∧Bu d x.e=true∧RK list x=true
theorem Pa {d:Nat} {list:Int} {x:OP} (h:Ki d list x=true):XE d list x:=by
 rw[Ph,Bool.and_eq_true] at h;obtain⟨h1,h2⟩:=h;unfold TV at h1;by_cases k0:x.kind=0
 ·rw[if_pos k0] at h1;simp at h1;exact⟨by omega,by omega,fun _=>⟨h1.1.1.1,h1.1.1.2,h1.1.2⟩,fun e=>absurd k0 e,fun _=>YC h1.2,fun e=>by omega,fun e=>by omega⟩
 ·rw[if_neg k0] at h1;split at h1
  ·cases h1
  ·rename_i hn;by_cases k3:x.kind<3
   ·rw[if_pos k3] at h1;simp at h1;exact⟨by omega,by omega,fun e=>absurd e k0,fun _=>by omega,fun _=>YC h1.2,fun _=>⟨by simpa using h1.1.2,h1.1.1⟩,fun e=>by omega⟩
   ·have k3':x.kind=3:=by omega
    rw[if_pos k3'] at h2;simp[Uh] at h2;exact⟨by omega,by omega,fun e=>absurd e k0,fun _=>by omega,fun e=>absurd k3' e,fun e=>by omega,fun _=>⟨h2.1.1.1.1,h2.1.1.1.2,by omega,h2.1.2,h2.2⟩⟩
theorem fZ:XZ E0=true:=rfl
theorem bz {d:Nat} {list:Int} {x:OP} (O:XE d list x):Ki d list x=true:=by
 rw[Ph,Bool.and_eq_true];unfold TV;by_cases k0:x.kind=0
 ·obtain⟨a,b,c⟩:=O.keep k0;rw[if_pos k0,if_neg (by omega),O.same (by omega),c];exact⟨by simp[a,b,fZ],rfl⟩
 ·have hn:=O.nn k0;have h0:=O.k0;have h3:=O.k3;rw[if_neg k0,if_neg (by omega)];by_cases k3:x.kind=3
  ·obtain⟨a,b,c,e,f⟩:=O.down k3;rw[if_neg (by omega),if_pos k3];refine⟨rfl,?_⟩;rw[e,f];simp[Uh,a,b];omega
  ·obtain⟨a,b⟩:=O.some (by omega);rw[if_pos (by omega),if_neg k3,O.same k3];refine⟨?_,rfl⟩;simp[fZ,a];exact b
theorem Lj {n:Int} (h:0≤n) (h1:n<18446744073709551616):Jh n=n:=Int.emod_eq_of_lt h h1
theorem mD {w:WE} (h:0≤w.at_∧w.at_≤65534) (hm:0≤w.mask∧w.mask<256):HU (G8 w)=w:=by
 obtain⟨a,m,o,n⟩:=w;simp only at h hm;unfold HU G8 Gk;simp only[T.words_mk];rw[Lj (by omega) (by omega)];simp;omega
mutual
def VE:E→Prop
 |.mk _ _ _ ws ks _ os=>(∀ w,w ∈ ws→0≤w.mask∧w.mask<256)∧TB ks∧Uf os
def TB:List KE→Prop
 |[]=>True
 |.mk _ e::l=>VE e∧TB l
def Uf:List OP→Prop
 |[]=>True
 |.mk _ _ _ e::l=>VE e∧Uf l
end
theorem fS (k:Int) (o n:T) (ws:List WE) (ks:List KE) (l:Int) (os:List OP):VE (.mk k o n ws ks l os) ↔ (∀ w,w ∈ ws→0≤w.mask∧w.mask<256)∧TB ks∧Uf os:=by rw[VE]
theorem maskKs_all:∀ {l:List KE},TB l ↔ ∀ x,x ∈ l→VE x.e
 |[]=>by rw[TB];simp
 |.mk a e::l=>by rw[TB,maskKs_all];simp
theorem maskOs_all:∀ {l:List OP},Uf l ↔ ∀ x,x ∈ l→VE x.e
 |[]=>by rw[Uf];simp
 |.mk k n t e::l=>by rw[Uf,maskOs_all];simp
theorem uR:Er T0=E0:=by rw[Mp];simp
theorem u6 {α β:Type} {f:α→β} {g:β→α} {l:List α} (h:∀ x,x ∈ l→g (f x)=x):(l.map f).map g=l:=by
 rw[List.map_map];have:l.map (g ∘ f)=l.map id:=List.map_congr_left fun x hx=>h x hx;rw[this,List.map_id]
mutual
def E8:E→E
 |.mk k o n ws ks l os=>.mk k (Af o) (Af n) ws (Xt ks) l (XA os)
def Xt:List KE→List KE
 |[]=>[]
 |.mk a e::l=>.mk a (E8 e)::Xt l
def XA:List OP→List OP
 |[]=>[]
 |.mk k n t e::l=>.mk k n (t.map Af) (E8 e)::XA l
end
def LH (x:KE):KE:=.mk x.at_ (E8 x.e)
def Kl (x:OP):OP:=.mk x.kind x.n (x.l.map Af) (E8 x.e)
theorem Yn:∀ l,Xt l=l.map LH
 |[]=>by rw[Xt];rfl
 |.mk a e::l=>by rw[Xt,Yn l];rfl
theorem Yx:∀ l,XA l=l.map Kl
 |[]=>by rw[XA];rfl
 |.mk k n t e::l=>by rw[XA,Yx l];rfl
theorem H4 (k:Int) (o n:T) (ws:List WE) (ks:List KE) (l:Int) (os:List OP):E8 (.mk k o n ws ks l os) = .mk k (Af o) (Af n) ws (ks.map LH) l (os.map Kl):=by rw[E8,Yn,Yx]
theorem Mw:E8 E0=E0:=by rw[H4];simp[FY]
@[simp] theorem VC (e:E):(E8 e).kind=e.kind:=by cases e;rw[H4];rfl
theorem OT {t:T} (h:t.kind=1) (i:Nat):Gk (Af t) i=Gk t i:=by
 obtain⟨k,w,l⟩:=t;simp at h;subst h;unfold Gk;rw[AL];simp only[if_neg (show ¬ (1:Int)=0 by decide),if_true,T.words_mk];rw[V0];exact FB w (fun x _ h=>by simpa using h) i
theorem dV {t:T} (h:t.kind=1) (i:Nat):HL (Af t) i=Af (HL t i):=by
 obtain⟨k,w,l⟩:=t;simp at h;subst h;unfold HL;rw[AL];simp only[if_neg (show ¬ (1:Int)=0 by decide),if_true,T.kids_mk];have hz:∀ x,x ∈ l.map Af→(x.kind == 0)=true→x=T0:=fun x hx h0=>by
  obtain⟨y,_,rfl⟩:=List.mem_map.1 hx;simp at h0;exact FN h0
 rw[V5,FB _ hz i,F3]
theorem Yp (l:List T):(Af (Es l)).kids=l.map Af:=by
 cases l with
 |nil=>simp[FY]
 |cons t l=>rw[Ke,AL];simp
theorem UE {k:Int} (h:2≤k) (w:List Int) (l:List T):(Af (.mk k w l)).kids=l.map Af:=by
 rw[AL,if_neg (by omega),if_neg (by omega)];rfl
theorem Yc {α β γ:Type} {f:α→β} {g:β→γ} {h:α→γ} {l:List α} (e:∀ x,x ∈ l→g (f x)=h x):(l.map f).map g=l.map h:=by
 rw[List.map_map];exact List.map_congr_left e
theorem n6 {w:WE} (h:0≤w.at_∧w.at_≤65534) (hm:0≤w.mask∧w.mask<256):HU (Af (G8 w))=w:=by
 have hk:(G8 w).kind=1:=rfl;have:=mD h hm;unfold HU at this ⊢;rw[OT hk,OT hk,OT hk];exact this
theorem TC {e:E} (h:e.kind ≠ 0):(AU e).kind=1:=by
 cases e;rw[Dh];simp at h;rw[if_neg h]
 repeat' split
 all_goals rfl
theorem Xa {e:E} (h:e.kind=0):AU e=T0:=by
 cases e;rw[Dh];simp at h;rw[if_pos h]
theorem vM {k:Int} {o n:T} {ws:List WE} {ks:List KE} {l:Int} {os:List OP} (k0:1≤k) (k3:k≤3) (hl:0≤l∧l≤9):Gk (AU (.mk k o n ws ks l os)) 0=k+256*l:=by
 have e:Jh (k+256*l)=k+256*l:=Lj (by omega) (by omega);unfold Gk;rw[Dh,if_neg (by omega),e]
 repeat' split
 all_goals rfl
theorem ou (k:Int) (w:List Int) (a:T) (l:List T):HL (.mk k w (a::l)) 0=a:=rfl
theorem Abf (k:Int) (w:List Int) (a b:T) (l:List T):HL (.mk k w (a::b::l)) 1=b:=rfl
theorem nP:∀ (e:E) (d:Nat),VE e→Bu d e=true→Er (Af (AU e))=E8 e:=by
 refine E.ind fun k o n ws ks l os ihk iho d hm h=>?_;have R:=rightE_iff.1 h;rw[fS] at hm;obtain⟨m1,m2,m3⟩:=hm;have hk:k=0∨k=1∨k=2∨k=3:=by have:=R.k0;have:=R.k3;omega
 have hl:0≤l∧l≤9:=by
  by_cases q:k=3
  ·have:=R.lst q;omega
  ·have:=(R.three q).1;omega
 by_cases k0:k=0
 ·subst k0;obtain⟨rfl,rfl⟩:=R.one (by omega);obtain⟨rfl,rfl⟩:=R.two (by omega);obtain⟨rfl,rfl⟩:=R.three (by omega);rw[Xa rfl,FY,uR,Mw]
 have hw:Gk (Af (AU (.mk k o n ws ks l os))) 0=k+256*l:=by rw[OT (TC (by simpa using k0)),vM (by omega) (by omega) hl]
 have hkd:∀ i,HL (Af (AU (.mk k o n ws ks l os))) i=Af (HL (AU (.mk k o n ws ks l os)) i):=dV (TC (by simpa using k0));have a1:(k+256*l) % 256=k:=by omega
 have a2:(k+256*l) / 256 % 256=l:=by omega
 rw[Mp,if_neg (by rw[Bp,TC (by simpa using k0)];simp)];simp only[hw,hkd,a1,a2];rw[H4,Dh,if_neg k0];rcases hk with rfl | rfl | rfl | rfl
 ·exact absurd rfl k0
 ·obtain⟨rfl,rfl⟩:=R.two (by omega);obtain⟨rfl,rfl⟩:=R.three (by omega);simp[ou,Abf]
 ·obtain⟨rfl,rfl⟩:=R.one (by omega);obtain⟨rfl,rfl⟩:=R.three (by omega);have e1:(ws.map G8).map (fun x=>HU (Af x))=ws:=u6 (g:=fun x=>HU (Af x)) fun w hw=>n6 (by have:=QP (by omega) R.wok w hw;omega) (m1 w hw);have e2:(ks.map Ja).map (fun x=>Ul (Af x))=ks.map LH:=Yc fun x hx=>by
   obtain⟨g1,g2,g3,g4⟩:=JE (by omega) R.kok x hx;have:=ihk x hx _ (maskKs_all.1 m2 x hx) g4;have hk:(Ja x).kind=1:=rfl;unfold Ul LH;rw[OT hk,dV hk];unfold Ja Gk;simp only[T.words_mk,ou];rw[Lj g1 (by omega),this];have:x.at_ % 4294967296=x.at_:=by omega
   simp[this]
  simp only[if_neg (show ¬ (2:Int)=1 by decide),if_true,ou,Abf,Yp,FE,List.map_map];have e1':ws.map (HU ∘ Af ∘ G8)=ws:=by rw[List.map_map] at e1;exact e1
  have e2':ks.map (Ul ∘ Af ∘ Ja)=ks.map LH:=by rw[List.map_map] at e2;exact e2
  rw[e1',e2'];simp[FY]
 ·obtain⟨rfl,rfl⟩:=R.one (by omega);obtain⟨rfl,rfl⟩:=R.two (by omega);obtain⟨l2,l9⟩:=R.lst rfl;have e3:(os.map (Fg l)).map (fun x=>MT (Af x))=os.map Kl:=Yc fun x hx=>by
   have O:=Pa (rightOs_all.1 R.ook x hx);have ih:=fun q=>iho x hx _ (maskOs_all.1 m3 x hx) (O.down q).2.2.2.1;have hk:(Fg l x).kind=1:=rfl;obtain⟨xk,xn,xl,xe⟩:=x;obtain⟨k0,k3,keep,nn,same,some,down⟩:=O;simp only[OP.kind_mk,OP.n_mk,OP.l_mk,OP.e_mk] at *;have hn:0≤xn∧xn≤1048576:=by
    by_cases q:xk=0
    ·have:=keep q;omega
    ·have:=nn q;omega
   have hw:Gk (Af (Fg l (OP.mk xk xn xl xe))) 0=xk+256*xn:=by
    rw[OT hk];unfold Fg Gk;simp only[T.words_mk,OP.kind_mk,OP.n_mk];rw[Lj (by omega) (by omega)];rfl
   have a1:(xk+256*xn) % 256=xk:=by omega
   have a2:(xk+256*xn) / 256 % 1099511627776=xn:=by omega
   unfold MT Kl;simp only[hw,a1,a2,dV hk];unfold Fg HL;simp only[T.kids_mk,OP.kind_mk,OP.n_mk,OP.l_mk,OP.e_mk];have hk:xk=0∨xk=1∨xk=2∨xk=3:=by omega
   rcases hk with rfl | rfl | rfl | rfl
   ·simp[same (by omega),(keep rfl).2.2,Mw]
   ·simp[same (by omega),Mw,UE l2]
   ·simp[same (by omega),Mw,UE l2]
   ·simp[(down rfl).1,ih rfl]
  simp only[if_neg (show ¬ (3:Int)=1 by decide),if_neg (show ¬ (3:Int)=2 by decide),if_true,ou,Yp,FH,List.map_map];have e3':os.map (MT ∘ Af ∘ Fg l)=os.map Kl:=by rw[List.map_map] at e3;exact e3
  rw[e3'];simp[FY]
theorem Ch:∀ (t:T) (d:Nat),Aj d t=true→Aj d (Af t)=true:=by
 refine T.ind fun k w l ih d h=>?_;have hk:=AV h;rw[AI] at h;rw[AL];by_cases h0:k=0
 ·rw[if_pos h0,AI];rfl
 rw[if_neg h0] at h ⊢;by_cases h10:k=10
 ·subst h10;rw[if_pos rfl] at h;simp at h;obtain⟨hw,rfl⟩:=h;rw[if_neg (by decide),AI];simp[hw]
 rw[if_neg h10] at h;by_cases hb:A4 k d w.length l.length=true
 ·rw[if_pos hb] at h;cases h
 have hm:∀ (m:List T),(∀ t,t ∈ m→∃ u,u ∈ l∧t=Af u)→Et (d-1) k m=true:=fun m hm=>rightL_all.2 fun t ht=>by
  obtain⟨u,hu,rfl⟩:=hm t ht;obtain⟨g1,g2⟩:=hk u hu;refine⟨ih u hu _ g1,?_⟩;unfold B6 at g2 ⊢;rw[Bp];cases hd:Bb k with
  |false=>rw[hd] at g2;simpa using g2
  |true=>
   rw[hd] at g2;simp at g2;obtain⟨⟨g3,g4⟩,g5⟩:=g2;obtain⟨uk,uw,ul⟩:=u;simp at g3;subst g3;rw[AL];simp at g4 g5 ⊢;exact⟨g4,g5⟩
 by_cases h1:k=1
 ·subst h1;have hw:=ET w;have hl:=EN (l.map Af);rw[List.length_map] at hl;have hb':¬ A4 1 d (CM w).length (BZ (l.map Af)).length=true:=by
   simp[A4] at hb ⊢;omega
  rw[if_pos rfl,AI,if_neg (by decide),if_neg (by decide),if_neg hb'];refine hm _ fun t ht=>?_;rw[EB] at ht;obtain⟨u,hu,rfl⟩:=List.mem_map.1 (PD ht);exact⟨u,hu,rfl⟩
 ·rw[if_neg h1,AI,if_neg h0,if_neg h10,if_neg (by rw[List.length_map];exact hb)];refine hm _ fun t ht=>?_;obtain⟨u,hu,rfl⟩:=List.mem_map.1 ht;exact⟨u,hu,rfl⟩
theorem SV:∀ (os:List OP) (n m:Int),Be n m (os.map Kl)=Be n m os
 |[],n,m=>rfl
 |x::os,n,m=>by
  have e:Bo (Kl x)=Bo x:=by simp[Bo,Kl]
  have e2:(Kl x).kind=x.kind:=rfl;rw[List.map_cons,Be,Be,e,e2,SV os]
theorem jg:∀ (e:E) (d:Nat),Bu d e=true→Bu d (E8 e)=true:=by
 refine E.ind fun k o n ws ks l os ihk iho d h=>?_;have R:=rightE_iff.1 h;rw[H4,rightE_iff];refine⟨R.d0,R.k0,R.k3,fun q=>?_,fun q=>?_,fun q=>?_,fun q=>?_,R.wok,?_,R.lst,?_,by rw[SV];exact R.len⟩
 ·obtain⟨rfl,rfl⟩:=R.one q;exact⟨FY,FY⟩
 ·obtain⟨rfl,rfl⟩:=R.two q;exact⟨rfl,rfl⟩
 ·obtain⟨rfl,rfl⟩:=R.three q;exact⟨rfl,rfl⟩
 ·obtain⟨a,b,c,f⟩:=R.rep q;exact⟨Ch _ _ a,Ch _ _ b,by rw[Bp];exact c,by rw[Bp];exact f⟩
 ·have:∀ (m:List KE) (last:Int),(∀ x,x ∈ m→x ∈ ks)→DM (d-1) last m=true→DM (d-1) last (m.map LH)=true:=by
   intro m;induction m with
   |nil=>intros;simp
   |cons x m ih=>
    intro last hs hr;rw[Ex,Bool.and_eq_true,Bool.and_eq_true] at hr;rw[List.map_cons,Ex,Bool.and_eq_true,Bool.and_eq_true];have e1:(LH x).at_=x.at_:=rfl;have e2:(LH x).e=E8 x.e:=rfl;rw[e1,e2,VC];exact⟨⟨hr.1.1,ihk x (hs x (by simp)) _ hr.1.2⟩,ih _ (fun y hy=>hs y (by simp[hy])) hr.2⟩
  exact this ks _ (fun x hx=>hx) R.kok
 ·refine rightOs_all.2 fun y hy=>?_;obtain⟨x,hx,rfl⟩:=List.mem_map.1 hy;have O:=Pa (rightOs_all.1 R.ook x hx);have hl:2≤l∧l≤9:=R.lst (by
   by_cases q:k=3
   ·exact q
   ·rw[(R.three q).2] at hx;cases hx)
  refine bz ⟨O.k0,O.k3,fun q=>?_,O.nn,fun q=>?_,fun q=>?_,fun q=>?_⟩
  ·obtain⟨a,b,c⟩:=O.keep q;exact⟨a,b,by show x.l.map Af=[];rw[c];rfl⟩
  ·show E8 x.e=E0;rw[O.same q,Mw]
  ·obtain⟨a,b⟩:=O.some q;refine⟨fun e=>a (List.map_eq_nil_iff.1 e),fun t ht=>?_⟩;obtain⟨u,hu,rfl⟩:=List.mem_map.1 ht;have:=Ch _ _ (b u hu);rw[AL,if_neg (by omega),if_neg (by omega)] at this;exact this
  ·obtain⟨a,b,c,e,f⟩:=O.down q;refine⟨by show x.l.map Af=[];rw[a];rfl,by show(E8 x.e).kind ≠ 0;rw[VC];exact b,c,iho x hx _ e,?_⟩;have g:∀ y:E,RK l (.mk x.kind x.n x.l y)=(decide (l=8) || decide (y.kind=2) || decide (y.kind=1)&&decide (y.old.kind=1)&&decide (y.new.kind=1)):=fun y=>rfl;have f':RK l (.mk x.kind x.n x.l x.e)=true:=f;have e':RK l (.mk x.kind x.n x.l (E8 x.e))=true:=by
    rw[g] at f' ⊢;generalize x.e=y at f';obtain⟨ek,eo,en,ew,eks,el,eos⟩:=y;rw[H4];show(decide (l=8) || decide (ek=2) || decide (ek=1)&&decide ((Af eo).kind=1)&&decide ((Af en).kind=1))=true;rw[Bp,Bp];exact f'
   exact e'
theorem SF {a b:List T} (h:a.map Af=b.map Af):Af (Es a)=Af (Es b):=by
 cases a with
 |nil=>
  cases b with
  |nil=>rfl
  |cons y b=>simp at h
 |cons x a=>
  cases b with
  |nil=>simp at h
  |cons y b=>
   rw[Ke,Ke,AL,AL];simp only[if_neg (show ¬ (9:Int)=0 by decide),if_neg (show ¬ (9:Int)=1 by decide)];rw[h]
theorem IW {w:List Int} {a b:List T} (h:a.map Af=b.map Af):Af (.mk 1 w a)=Af (.mk 1 w b):=by
 rw[AL,AL,h]
theorem gN:∀ (e:E),Af (AU (E8 e))=Af (AU e):=by
 refine E.ind fun k o n ws ks l os ihk iho=>?_;rw[H4,Dh,Dh];split
 ·rfl
 split
 ·exact IW (by simp[Cz])
 split
 ·refine IW ?_;simp only[List.map_cons,List.map_nil];rw[SF (a:=Ng (ks.map LH)) (b:=Ng ks)];rw[FE,FE,List.map_map,List.map_map,List.map_map];refine List.map_congr_left fun x hx=>?_;exact IW (by simpa[LH] using ihk x hx)
 ·refine IW ?_;simp only[List.map_cons,List.map_nil];rw[SF (a:=Ot l (os.map Kl)) (b:=Ot l os)];rw[FH,FH,List.map_map,List.map_map,List.map_map];refine List.map_congr_left fun x hx=>?_;have:=iho x hx;obtain⟨xk,xn,xl,xe⟩:=x;have e1:((Af ∘ Fg l) ∘ Kl) (OP.mk xk xn xl xe)=Af (.mk 1 [Jh (xk+256*xn)] (if xk=3 then [AU (E8 xe)] else if xk > 0 then [.mk l [] (xl.map Af)] else [])):=rfl;have e2:(Af ∘ Fg l) (OP.mk xk xn xl xe)=Af (.mk 1 [Jh (xk+256*xn)] (if xk=3 then [AU xe] else if xk > 0 then [.mk l [] xl] else [])):=rfl;rw[e1,e2];refine IW ?_;by_cases q:xk=3
  ·rw[if_pos q,if_pos q];simpa using this
  ·rw[if_neg q,if_neg q];split
   ·simp only[List.map_cons,List.map_nil];rw[AL,AL,List.map_map,show(Af ∘ Af)=Af from funext Cz]
   ·rfl
inductive SmT:T→Prop
 |mk (k:Int) (w:List Int) (l:List T):l.length≤1048576→(∀ t,t ∈ l→SmT t)→SmT (.mk k w l)
theorem SmT.len {t:T} (h:SmT t):t.kids.length≤1048576:=by cases h;assumption
theorem SmT.kid {t:T} (h:SmT t):∀ c,c ∈ t.kids→SmT c:=by cases h;assumption
theorem AhM:SmT T0:=.mk _ _ _ (Nat.zero_le _) (fun t h=>by cases h)
theorem SmT.kd {t:T} (h:SmT t) (i:Nat):SmT (HL t i):=by
 unfold HL;rw[List.getD_eq_getElem?_getD];cases e:t.kids[i]? with
 |none=>exact AhM
 |some x=>exact h.kid x (List.mem_of_getElem? e)
theorem wm:∀ (t:T) (d:Nat),Aj d t=true→SmT t:=by
 refine T.ind fun k w l ih d h=>?_;have hk:=AV h;rw[AI] at h;refine .mk _ _ _ ?_ fun t ht=>ih t ht _ (hk t ht).1;by_cases h0:k=0
 ·rw[if_pos h0] at h;simp at h;rw[h.2];exact Nat.zero_le _
 rw[if_neg h0] at h;by_cases h10:k=10
 ·rw[if_pos h10] at h;simp at h;rw[h.2];exact Nat.zero_le _
 rw[if_neg h10] at h;split at h
 ·cases h
 ·rename_i hb;simp[A4] at hb;omega
theorem TH {n:Int}:Ii n≤1048576:=by unfold Ii;split<;>omega
theorem Sr:∀ (os:List OP) (n m:Int),(∀ x,x ∈ os→0≤Bo x)→n≤1048576→m≤1048576→n≤(Be n m os).1∧m≤(Be n m os).2
 |[],n,m,_,_,_=>⟨Int.le_refl _,Int.le_refl _⟩
 |x::os,n,m,h,hn,hm=>by
  have h0:=h x (by simp);rw[Be];have:=Sr os (Ii (if x.kind ≠ 2 then n+Bo x else n)) (Ii (if x.kind ≠ 1 then m+Bo x else m)) (fun y hy=>h y (by simp[hy])) TH TH;have a:n≤Ii (if x.kind ≠ 2 then n+Bo x else n):=by unfold Ii;split<;>split<;>omega
  have b:m≤Ii (if x.kind ≠ 1 then m+Bo x else m):=by unfold Ii;split<;>split<;>omega
  omega
theorem eZ (os:List OP):∀ (n m:Int),(∀ x,x ∈ os→0≤Bo x)→0≤n→n≤1048576→0≤m→m≤1048576→(Be n m os).1<1048576→(Be n m os).2<1048576→∀ x,x ∈ os→Bo x<1048576:=by
 induction os with
 |nil=>intro n m _ _ _ _ _ _ _ x hx;cases hx
 |cons y os ih=>
  intro n m h n0 n1 m0 m1 g1 g2 x hx;have h0:=h y (by simp);rw[Be] at g1 g2;have mono:=Sr os (Ii (if y.kind ≠ 2 then n+Bo y else n)) (Ii (if y.kind ≠ 1 then m+Bo y else m)) (fun z hz=>h z (by simp[hz])) TH TH;have a:0≤Ii (if y.kind ≠ 2 then n+Bo y else n):=by unfold Ii;split<;>split<;>omega
  have b:0≤Ii (if y.kind ≠ 1 then m+Bo y else m):=by unfold Ii;split<;>split<;>omega
  rcases List.mem_cons.1 hx with rfl | hx
  ·by_cases k2:x.kind=2
   ·have e:Ii (if x.kind ≠ 1 then m+Bo x else m)=Ii (m+Bo x):=by rw[if_pos (by omega)]
    have:Ii (m+Bo x)<1048576:=by rw[← e];omega
    unfold Ii at this;split at this<;>omega
   ·have e:Ii (if x.kind ≠ 2 then n+Bo x else n)=Ii (n+Bo x):=by rw[if_pos k2]
    have:Ii (n+Bo x)<1048576:=by rw[← e];omega
    unfold Ii at this;split at this<;>omega
  ·exact ih _ _ (fun z hz=>h z (by simp[hz])) a TH b TH g1 g2 x hx
end Go.PL
namespace Go.Proofs.YtbjmaoedheiigaaGreat
open Go Go.G Go.Proofs Go.PL
theorem Xk {c n:Int} (h:BI n):G.Spec Tryz.prog 186 [iv c,uv n] (bv (GA c n)):=by
 refine Ah jv (by simp) fun w0 I0=>?_;unfold UL;simp;refine Ae (J5 c) rfl ?_;have hw:=JP c;unfold GA;rcases hw with h1 | h1 | h1 | h1 | h1 | h1 | h1;all_goals
  rw[h1];simp;refine Ak ?_
 all_goals try rfl
 all_goals
  obtain⟨n0,n1⟩:=h;have hb:u64.bits=64:=rfl;simp[hb]
 all_goals omega
theorem Qo (k:Int):G.Spec Tryz.prog 61 [iv k] (bv (decide (2≤k)&&decide (k≤9))):=by
 refine Ah ji (by simp) fun w0 I0=>?_;unfold UJ;simp;exact Ab rfl
def fY (list:Int) (t:T):Bool:=if Bb list=true then decide (t.kind=10)&&t.kids.isEmpty&&decide (t.words.length=1)&&GA (list-2) (t.words.headD 0) else if list=9 then decide (t.kind=1) else !decide (t.kind=10)
theorem yW {list:Int} {t:T} {d:Nat} (h1:list ≠ 1):(fY list t&&Aj d t)=(Aj d t&&B6 list t):=by
 unfold fY B6;cases hd:Bb list with
 |true=>
  simp only[if_true];by_cases h10:t.kind=10
  ·have e:Aj d t=(decide (t.words.length=1)&&t.kids.isEmpty):=by
    obtain⟨k,w,l⟩:=t;simp at h10;subst h10;rw[AI];rfl
   have n9:list ≠ 9:=fun e=>by subst e;simp[Bb] at hd
   rw[e];simp[h10,n9];cases decide (t.words.length=1)<;>cases t.kids.isEmpty<;>simp
  ·simp[h10]
 |false=>
  simp;by_cases h9:list=9
  ·subst h9;simp;cases h:Aj d t<;>simp
   by_cases h1:t.kind=1<;>simp[h1]
  ·simp[h9];cases h:Aj d t<;>simp
theorem sG (list:Int) (hl:Bn list) {t:T} (h:Bx t):G.Spec Tryz.prog 181 [iv list,tX t] (bv (fY list t)):=by
 have hw:=wfT_iff.1 h;refine Ah m4 (by simp) fun w0 I0=>?_;unfold Yj;simp;refine Ae (J0 list) rfl ?_;cases hd:Bb list with
 |false=>
  simp;by_cases h9:list=9
  ·simp[h9];refine Ak ?_;simp[fY,Bb]
  ·simp[h9];refine Ak ?_;simp[fY,hd,h9]
 |true=>
  have hd':=hd;simp[Bb] at hd';by_cases hc:t.kind=10∧t.kids=[]∧t.words.length=1
  ·obtain⟨c1,c2,c3⟩:=hc;obtain⟨x,hx⟩:∃ x,t.words=[x]:=List.length_eq_one_iff.1 c3;have hxr:BI x:=hw.w x (by rw[hx];simp);have e2:i64.wrap (list-2)=list-2:=Bv;simp[c1,c2,hx,e2];refine Bc rfl (fun _=>Xk hxr) (fun _=>rfl) rfl ?_;simp;refine Ak ?_;simp[fY,hd,c1,c2,hx]
  ·have hp:fY list t=false:=by
    unfold fY;rw[if_pos hd];rw[Bool.eq_false_iff];intro e;simp at e;exact hc ⟨e.1.1.1,e.1.1.2,e.1.2⟩
   by_cases c1:t.kind=10
   ·by_cases c2:t.kids=[]
    ·have c3:¬ t.words.length=1:=fun e=>hc ⟨c1,c2,e⟩;have c3':¬ (t.words.length:Int)=1:=by omega
     simp[c1,c2,c3,c3'];refine Ao rfl ?_;simp;rw[hp];exact Ab rfl
    ·have c2':¬ (t.kids.length:Int)=0:=fun e=>c2 (List.length_eq_zero_iff.1 (by omega));simp[c1,c2,c2'];refine Ao rfl ?_;simp;rw[hp];exact Ab rfl
   ·simp[c1];refine Ao rfl ?_;simp;rw[hp];exact Ab rfl
variable {n0:Nat} {w0:World} {I0:Nat→Prop} {Q:Exit→Sta→Prop}
theorem ZO {Q':Exit→Sta→Prop} {c:T} {d:Nat} {b:Bool} {u:Nat} {p x y z:A} {H:Hp} (hd:1≤d) (hd1:d≤1000) (ihc:G.Spec Tryz.prog 123 [tX c,iv (d-1:Nat)] (bv (Aj (d-1) c))) (hB:H [1]=⟨u,.cells (tL c)⟩)
  (h1:(b&&Aj (d-1) c)=true→Q' .normal ⟨lk [(1,iv d),(2,p),(71,x),(72,y),(73,z),(95,bv false)],H⟩) (h2:(b&&Aj (d-1) c)=false→Q' .ret ⟨lk [(4,bv false)],H⟩) :
  WPC (cx Tryz.prog w0 I0 n0) LG Q' ⟨lk [(1,iv d),(2,p),(6,.pob [1] u 0),(7,bv b),(71,x),(72,y),(73,z)],H⟩:=by
 rw[LG.eq_1];have ed:i64.wrap ((d:Int)-1)=((d-1:Nat):Int):=Bl;cases b with
 |false=>
  simp;refine Ao rfl ?_;simp;exact h2 rfl
 |true=>
  simp[hB,ed];refine Cf rfl (fun _=>ihc) (fun _=>rfl) rfl ?_;cases hr:Aj (d-1) c with
  |false=>simp;exact h2 (by simp[hr])
  |true=>simp;exact h1 (by simp[hr])
theorem qB {t:T} (hk:Bn t.kind) (hl:t.kids.length*56≤140737488355328) {d:Nat} (hd:1≤d) (hd1:d≤1000) (hw:∀ c,c ∈ t.kids→Bx c) (ih:∀ c,c ∈ t.kids→∀ d:Nat,d≤1000→G.Spec Tryz.prog 123 [tX c,iv d] (bv (Aj d c))):∀ (m i:Nat) (H:Hp),i+m=t.kids.length→H [0]=⟨1,.cells (tL t)⟩ →
  (Et (d-1) t.kind (t.kids.drop i)=true→∀ i' q H',Q (.exit 1) ⟨lk [(1,iv d),(2,.pob [0] 1 0),(71,BV t.kids),(72,iv t.kids.length),(73,iv i'),(74,bv q)],H'⟩)→(Et (d-1) t.kind (t.kids.drop i)=false→∀ H',Q .ret ⟨lk [(4,bv false)],H'⟩) →
  LoopC (cx Tryz.prog w0 I0 n0) IA Q ⟨lk [(1,iv d),(2,.pob [0] 1 0),(71,BV t.kids),(72,iv t.kids.length),(73,iv i)],H⟩:=by
 intro m;induction m with
 |zero=>
  intro i H hi hA h1 h2;have:i=t.kids.length:=by omega
  subst this;refine Ad Ai IA.eq_1 ?_;simp;exact h1 (by simp) _ _ _
 |succ m ihm=>
  intro i H hi hA h1 h2;have hlt:i<t.kids.length:=by omega
  have e:t.kids.drop i=t.kids[i]::t.kids.drop (i+1):=List.drop_eq_getElem_cons hlt;have ei:=AM i;rw[e,Vk] at h1 h2;have hwc:=hw _ (A5 hlt);have ihc:=ih _ (A5 hlt) (d-1) (by omega);generalize hc:t.kids[i]=c at *;refine Ad Ai IA.eq_1 ?_;simp[hA,hlt,hc,Aa];refine⟨fun h10=>?_,fun h10=>?_⟩
  ·have ek:B6 t.kind c = !decide (c.kind=10):=by
    unfold B6;rw[h10];by_cases e:c.kind=10<;>simp[Bb,e]
   try simp[hA,Aa,h10]
   refine ZO (c:=c) hd hd1 ihc (by simp[Aa]) (fun hr=>?_) (fun hr=>?_)
   ·simp[ei];refine ihm (i+1) _ (by omega) (by simp[Aa,hA]) (fun hh=>h1 ?_) (fun hh=>h2 ?_)
    ·rw[ek,hh];simpa using And.comm.1 (by simpa using hr)
    ·rw[hh];simp
   ·simp;refine h2 ?_ _;rw[ek];have:(Aj (d-1) c&&!decide (c.kind=10))=false:=by rw[Bool.and_comm];simpa using hr
    rw[this];rfl
  ·have ek:=yW (t:=c) (d:=d-1) h10;simp[hA,Aa,h10];refine Ae (sG t.kind hk hwc) rfl ?_;simp;refine ZO (c:=c) hd hd1 ihc (by simp[Aa]) (fun hr=>?_) (fun hr=>?_)
   ·simp[ei];rw[ek] at hr;refine ihm (i+1) _ (by omega) (by simp[Aa,hA]) (fun hh=>h1 ?_) (fun hh=>h2 ?_)
    ·rw[hr,hh];rfl
    ·rw[hh];simp
   ·simp;refine h2 ?_ _;rw[ek] at hr;rw[hr];rfl
theorem js:∀ (t:T),Bx t→∀ d:Nat,d≤1000→G.Spec Tryz.prog 123 [tX t,iv d] (bv (Aj d t)):=by
 refine T.ind fun k w l ih hw d hd=>?_;have hw':=wfT_iff.1 hw;have hwl:=hw'.wl;have hkl:=hw'.kl;have hk:=hw'.k;simp at hwl hkl hk;refine Ah eI (by simp) fun w0 I0=>?_;unfold S9;rw[AI];by_cases h0:k=0
 ·simp[h0];exact Ak (by cases w<;>cases l<;>simp<;>(rw[← List.length_eq_zero_iff];omega))
 by_cases h10:k=10
 ·simp[h10];exact Ak (by cases w<;>cases l<;>simp<;>(rw[← List.length_eq_zero_iff];omega))
 rw[if_neg h0,if_neg h10];obtain⟨R,hR⟩:∃ R,R=(if A4 k d w.length l.length=true then false else Et (d-1) k l):=⟨_,rfl⟩;rw[← hR];have bad:A4 k d w.length l.length=true→R=false:=fun h=>by rw[hR,if_pos h]
 by_cases hd0:d=0
 ·subst hd0;simp[h0,h10];exact Ak (bad (by simp[A4])).symm
 have fin:A4 k d w.length l.length=false→WPC (cx Tryz.prog w0 I0 97) Lw (QU Tryz.prog [.tmp 4] (bv R)) ⟨lk [(1,iv d),(2,.pob [0] 1 0)],FA [([0],⟨1,.cells [iv k,Ff w,BV l]⟩)]⟩:=fun hb=>by
  rw[if_neg (by rw[hb];simp)] at hR;subst hR;rw[Lw.eq_1];simp;refine qB (t:=.mk k w l) (by simpa using hk) (by simpa using hkl) (by omega) hd (fun c hc=>hw'.ks c hc) (fun c hc=>ih c hc (hw'.ks c hc)) l.length 0 _ (by simp) (by simp) (fun hr i' q H'=>?_) (fun hr H'=>?_)
  ·simp;exact Ak (by simpa using hr.symm)
  ·simp;exact Ak (by simpa using hr.symm)
 by_cases h1:k=1
 ·subst h1;by_cases hb:65536≤w.length∨65536≤l.length
  ·have hb':(decide (65536≤(w.length:Int)) || decide (65536≤(l.length:Int)))=true:=by simp;omega
   simp[hd0,hb'];exact Ak (bad (by simp[A4];omega)).symm
  ·have hb':(decide (65536≤(w.length:Int)) || decide (65536≤(l.length:Int)))=false:=by simp;omega
   simp[hd0,hb'];exact fin (by simp[A4];omega)
 ·simp[h0,h10,h1,hd0];refine Ae (Qo k) rfl ?_;simp;refine⟨fun hc=>?_,fun a b c e=>?_⟩
  ·exact Ak (bad (by simp[A4];omega)).symm
  ·refine fin ?_;rw[Bool.eq_false_iff];unfold A4;simp only[Bool.or_eq_true,Bool.and_eq_true,decide_eq_true_eq,ne_eq];have hl0:w.length=0:=by first | omega | simp[c]
   omega
theorem M5 {t:T} (h:Bx t):G.Spec Tryz.prog 74 [tX t] (bv (Aj 64 t)):=by
 refine Ah b9 (by simp) fun w0 I0=>?_;unfold RU;simp;refine Ae (js t h 64 (by omega)) (by simp) ?_;simp;exact Ab rfl
abbrev z0:List A:=[iv 0,.sl true [],.sl true []]
theorem oT (l:List (List Int)) (r:Rf):Hm (fun _=>UK l r):=wZ l r
structure ShT (t:T):Prop where
 z:t.kind=0→t.words=[]∧t.kids=[]
 a:t.kind=10→t.words.length=1∧t.kids=[]
 o:t.kind ≠ 0→t.kind ≠ 1→t.kind ≠ 10→t.words=[]
theorem O3 {d:Nat} {t:T} (h:Aj d t=true):ShT t:=by
 obtain⟨k,w,ks⟩:=t;rw[AI] at h;by_cases h0:k=0
 ·subst h0;simp at h;exact⟨fun _=>h,fun h=>by simp at h,fun h=>absurd rfl h⟩
 rw[if_neg h0] at h;by_cases h1:k=10
 ·subst h1;simp at h;exact⟨fun h=>by simp at h,fun _=>h,fun _ _ h=>absurd rfl h⟩
 rw[if_neg h1] at h;refine⟨fun h=>absurd h h0,fun h=>absurd h h1,fun _ h2 _=>?_⟩;have htb:A4 k d w.length ks.length=false:=by
  cases e:A4 k d w.length ks.length with
  |false=>rfl
  |true=>rw[e] at h;simp at h
 simp[A4] at htb;have h3:¬ k=1:=h2;by_cases h4:1<k
 ·have:=htb.2;simp only[T.words_mk];first | exact this h4 | exact List.eq_nil_of_length_eq_zero (this h4) | exact List.eq_nil_of_length_eq_zero (by omega)
 ·exfalso;omega
theorem Pr {a b:List T} (hl:a.length=b.length):a.map Af=b.map Af ↔ ∀ i,Af (a.getD i T0)=Af (b.getD i T0):=by
 constructor
 ·intro h i;rw[← F3,h,F3]
 ·intro h;apply List.ext_getElem (by simpa using hl);intro i h1 h2;have:=h i;simp at h1 h2;simpa[List.getD_eq_getElem?_getD,h1,h2] using this
theorem WW {a b:List Int} (hl:a.length=b.length):a=b ↔ ∀ i,a.getD i 0=b.getD i 0:=by
 constructor
 ·intro h i;rw[h]
 ·intro h;apply List.ext_getElem hl;intro i h1 h2;have:=h i;simpa[List.getD_eq_getElem?_getD,h1,h2] using this
theorem yX {t u:T} (ht:ShT t) (hu:ShT u):QL t u=true ↔ t.kind=u.kind∧(t.kind=1∨t.kids.length=u.kids.length)∧(∀ i,t.words.getD i 0=u.words.getD i 0)∧∀ i,Af (t.kids.getD i T0)=Af (u.kids.getD i T0):=by
 rw[eqT_iff];obtain⟨k,w,a⟩:=t;obtain⟨k',w',b⟩:=u;by_cases hk:k=k';rotate_left
 ·constructor
  ·intro h;have:=congrArg T.kind h;simp at this;exact absurd this hk
  ·intro h;exact absurd h.1 hk
 subst hk;by_cases h0:k=0
 ·subst h0;obtain⟨e1,e2⟩:=ht.z rfl;obtain⟨e3,e4⟩:=hu.z rfl;simp at e1 e2 e3 e4;subst e1 e2 e3 e4;simp
 by_cases h1:k=1
 ·subst h1;rw[struct_eq];simp
 rw[Me h0 h1];have hwl:w.length=w'.length:=by
  by_cases h10:k=10
  ·subst h10;have:=(ht.a rfl).1;have:=(hu.a rfl).1;simp at *;omega
  ·have e1:=ht.o h0 h1 h10;have e2:=hu.o h0 h1 h10;simp at e1 e2;rw[e1,e2]
 rw[WW hwl];constructor
 ·rintro⟨g1,g2⟩;have hl:a.length=b.length:=by have:=congrArg List.length g2;simpa using this
  exact⟨rfl,.inr hl,g1,(Pr hl).1 g2⟩
 ·rintro⟨_,g0,g1,g2⟩;rcases g0 with g0 | g0
  ·exact absurd g0 h1
  ·exact⟨g1,(Pr g0).2 g2⟩
theorem Ack {a b:List Int} (hl:a.length=b.length) (hb:a.length*8≤140737488355328) {H:Hp}:∀ (m i:Nat),i+m=a.length→a.take i=b.take i→(a=b→∀ q,Q (.exit 0) ⟨lk [(0,Ff a),(1,Ff b),(12,iv a.length),(13,iv a.length),(14,bv q)],H⟩)→(a ≠ b→Q .ret ⟨lk [(4,bv false)],H⟩) →
  LoopC (cx Tryz.prog w0 I0 n0) B4 Q ⟨lk [(0,Ff a),(1,Ff b),(12,iv a.length),(13,iv i)],H⟩:=by
 intro m;induction m with
 |zero=>
  intro i hi ht h1 h2;have:i=a.length:=by omega
  subst this;rw[BO (Cb _),BO (by omega)] at ht;refine Ad Ai B4.eq_1 ?_;simp;exact h1 ht _
 |succ m ih=>
  intro i hi ht h1 h2;have hlt:i<a.length:=by omega
  have hlt':i<b.length:=by omega
  have ei:=AM i;refine Ad Ai B4.eq_1 ?_;by_cases e:a[i]=b[i]
  ·simp[hlt,hlt',e,ei];refine ih (i+1) (by omega) ?_ h1 h2;rw[Ij hlt,Ij hlt',ht,e]
  ·simp[hlt,hlt',e];exact h2 fun q=>e (by simp[q])
theorem NI (a b:List Int) (hb:a.length*8≤140737488355328):G.Spec Tryz.prog 114 [Ff a,Ff b] (bv (decide (a=b))):=by
 refine Ah Jj (by simp) fun w0 I0=>?_;unfold EP;by_cases hl:a.length=b.length
 ·simp[hl];have:=Ack (n0:=26) (w0:=w0) (I0:=I0) (a:=a) (b:=b) (H:=FA []) (Q:=Cq 0 (Ht (WPC (cx Tryz.prog w0 I0 26) (.keep [] (.seq (.reg [co (some 4) (.assign (.const (.bool true))) none] [4]) .ret)) (QU Tryz.prog [.tmp 4] (bv (decide (a=b))))) (QU Tryz.prog [.tmp 4] (bv (decide (a=b)))))) hl hb a.length 0 (by simp) rfl (fun e q=>?_) (fun e=>?_)
  ·rw[hl] at this;simpa using this
  ·simp;exact Ak (by simp[e])
  ·simp;exact Ak (by simp[e])
 ·have hl':¬ (a.length:Int)=b.length:=by omega
  simp[hl,hl'];exact Ak (by simp;intro e;exact absurd (by rw[e]) hl)
theorem XL {u:T} (hr:∃ d,Aj d u=true) (hw:Bx u) (i:Nat):(∃ d,Aj d (u.kids.getD i T0)=true)∧Bx (u.kids.getD i T0):=by
 obtain⟨d,hd⟩:=hr;obtain⟨k,w,ks⟩:=u;by_cases hi':i<ks.length
 ·have e:(T.mk k w ks).kids.getD i T0=ks[i]:=by simp[List.getD_eq_getElem?_getD,hi']
  rw[e];exact⟨⟨_,(AV hd _ (A5 hi')).1⟩,(wfT_iff.1 hw).ks _ (A5 hi')⟩
 ·have e:(T.mk k w ks).kids.getD i T0=T0:=by rw[List.getD_eq_getElem?_getD,List.getElem?_eq_none (by simpa using hi')];rfl
  rw[e];exact⟨⟨0,by rw[AI];rfl⟩,wfT_iff.2 ⟨by simp[Bn],by simp,by simp,by simp,by simp⟩⟩
def EqS (t:T):Prop:=∀ u:T,Bx t→(∃ d,Aj d t=true)→Bx u→(∃ d,Aj d u=true)→G.Spec Tryz.prog 59 [tX t,tX u] (bv (QL t u))
theorem u7 {t u:T} (h:t.kind ≠ u.kind∨t.kind=0):QL t u=decide (t.kind=u.kind):=by
 rw[Bool.eq_iff_iff,eqT_iff,decide_eq_true_eq];constructor
 ·intro e;rw[← Bp t,e,Bp]
 ·intro e;rcases h with h | h
  ·exact absurd e h
  ·rw[FN h,FN (by omega)]
theorem KQ {t u:T} (h:t.kind ≠ u.kind∨t.kind=0):G.Spec Tryz.prog 59 [tX t,tX u] (bv (QL t u)):=by
 refine Ah MZ (by simp) fun w0 I0=>?_;unfold JH;rw[u7 h];by_cases e:t.kind=u.kind
 ·have h0:u.kind=0:=by omega
  simp[e,h0];exact Ab rfl
 ·simp[e];exact Ak (by simp[e])
theorem aF {t u:T} {n:Nat} (hN:n≤100000000000000) {H:Hp} (h0:H [0]=⟨1,.cells (tL t)⟩) (h1:H [1]=⟨1,.cells (tL u)⟩)
  (hq:(∀ i,i<n→t.words.getD i 0=u.words.getD i 0)→∀ (q:Bool),Q (.exit 0) ⟨lk [(2,.pob [0] 1 0),(3,.pob [1] 1 0),(48,iv n),(49,iv n),(50,bv q)],H⟩)
  (hf:(∃ i,t.words.getD i 0 ≠ u.words.getD i 0)→Q .ret ⟨lk [(4,bv false)],H⟩) :
  ∀ (j i:Nat),i+j=n→(∀ i',i'<i→t.words.getD i' 0=u.words.getD i' 0) →
  LoopC (cx Tryz.prog w0 I0 n0) IG Q ⟨lk [(2,.pob [0] 1 0),(3,.pob [1] 1 0),(48,iv n),(49,iv i)],H⟩:=by
 intro j;induction j with
 |zero=>
  intro i hi he;have:i=n:=by omega
  subst this;refine Ad Ai IG.eq_1 ?_;simp;exact hq he _
 |succ j ih=>
  intro i hi he;have hlt:i<n:=by omega
  have ei:=AM i;refine Ad Ai IG.eq_1 ?_;simp[hlt,h0,h1];refine Ae (Gz t i) (by simp) ?_;simp[h0,h1];refine Ae (Gz u i) (by simp) ?_;by_cases hw:t.words.getD i 0=u.words.getD i 0
  ·have hw':=hw;simp only[List.getD_eq_getElem?_getD] at hw';simp[hw',ei];refine ih (i+1) (by omega) (fun i' hi'=>?_);by_cases e:i'=i
   ·rw[e];exact hw
   ·exact he i' (by omega)
  ·have hw':=hw;simp only[List.getD_eq_getElem?_getD] at hw';simp[hw'];exact hf ⟨i,hw⟩
theorem sy {t u:T} {n:Nat} (hn:n≤100000000000000) (hw:Bx t) (hr:∃ d,Aj d t=true) (hwu:Bx u) (hru:∃ d,Aj d u=true) (hk:∀ i,i<n→EqS (t.kids.getD i T0)) {H:Hp} (h0:H [0]=⟨1,.cells (tL t)⟩) (h1:H [1]=⟨1,.cells (tL u)⟩)
  (hq:(∀ i,i<n→Af (t.kids.getD i T0)=Af (u.kids.getD i T0))→∀ (q:Bool),Q (.exit 2) ⟨lk [(2,.pob [0] 1 0),(3,.pob [1] 1 0),(66,iv n),(67,iv n),(68,bv q)],H⟩)
  (hf:(∃ i,Af (t.kids.getD i T0) ≠ Af (u.kids.getD i T0))→Q .ret ⟨lk [(4,bv false)],H⟩) :
  ∀ (j i:Nat),i+j=n→(∀ i',i'<i→Af (t.kids.getD i' T0)=Af (u.kids.getD i' T0)) →
  LoopC (cx Tryz.prog w0 I0 n0) D5 Q ⟨lk [(2,.pob [0] 1 0),(3,.pob [1] 1 0),(66,iv n),(67,iv i)],H⟩:=by
 intro j;induction j with
 |zero=>
  intro i hi he;have:i=n:=by omega
  subst this;refine Ad Ai D5.eq_1 ?_;simp;exact hq he _
 |succ j ih=>
  intro i hi he;have hlt:i<n:=by omega
  have ei:=AM i;have g1:=XL hr hw i;have g2:=XL hru hwu i;have hrec:=hk i hlt (u.kids.getD i T0) g1.2 g1.1 g2.2 g2.1;refine Ad Ai D5.eq_1 ?_;simp[hlt,h0,h1];refine Ae (Eu t i) (by simp) ?_;simp[h0,h1];refine Ae (Eu u i) (by simp) ?_;simp[h0,h1];refine Ae hrec (by simp) ?_;cases hb:QL (t.kids.getD i T0) (u.kids.getD i T0) with
  |true=>
   simp[ei];refine ih (i+1) (by omega) (fun i' hi'=>?_);by_cases e:i'=i
   ·rw[e];exact eqT_iff.1 hb
   ·exact he i' (by omega)
  |false=>
   simp;exact hf ⟨i,fun e=>by rw[eqT_iff.2 e] at hb;cases hb⟩
theorem getD_none {α:Type} {l:List α} {i:Nat} {z:α} (h:l.length≤i):l.getD i z=z:=by rw[List.getD_eq_getElem?_getD,List.getElem?_eq_none h];rfl
set_option maxRecDepth 8000 in
theorem n5:∀ t:T,EqS t:=by
 refine T.ind fun k w ks ih u hw hr hwu hru=>?_;have hw':=wfT_iff.1 hw;have hu':=wfT_iff.1 hwu;have hwl:=hw'.wl;have hkl:=hw'.kl;have hul:=hu'.wl;have huk:=hu'.kl;simp only[T.words_mk,T.kids_mk] at hwl hkl;have hk0:∀ i,EqS ((T.mk k w ks).kids.getD i T0):=fun i=>by
  by_cases hi:i<ks.length
  ·have e:(T.mk k w ks).kids.getD i T0=ks[i]:=by simp[List.getD_eq_getElem?_getD,hi]
   rw[e];exact ih _ (A5 hi)
  ·have e:(T.mk k w ks).kids.getD i T0=T0:=getD_none (by simpa using hi);rw[e];intro u _ _ _ _;exact KQ (.inr rfl)
 by_cases hkk:k ≠ u.kind∨k=0
 ·exact KQ hkk
 have h1:k=u.kind:=by omega
 have h0:¬ u.kind=0:=by omega
 have hb:=yX (t:=.mk k w ks) (u:=u) (by obtain⟨d,hd⟩:=hr;exact O3 hd) (by obtain⟨d,hd⟩:=hru;exact O3 hd);simp only[T.kind_mk,T.words_mk,T.kids_mk] at hb hk0;have yes:(k=1∨ks.length=u.kids.length)→(∀ i,w.getD i 0=u.words.getD i 0)→(∀ i,Af (ks.getD i T0)=Af (u.kids.getD i T0))→QL (.mk k w ks) u=true:=fun a b c=>hb.2 ⟨h1,a,b,c⟩;have no:¬ ((k=1∨ks.length=u.kids.length)∧(∀ i,w.getD i 0=u.words.getD i 0)∧(∀ i,Af (ks.getD i T0)=Af (u.kids.getD i T0)))→QL (.mk k w ks) u=false:=fun h=>by
  rw[Bool.eq_false_iff];intro e;exact h (hb.1 e).2
 obtain⟨N,hN⟩:∃ N:Nat,N=max w.length u.words.length:=⟨_,rfl⟩;obtain⟨M,hM⟩:∃ M:Nat,M=max ks.length u.kids.length:=⟨_,rfl⟩;have eN:max (w.length:Int) (u.words.length:Int)=(N:Int):=by omega
 have eM:max (ks.length:Int) (u.kids.length:Int)=(M:Int):=by omega
 refine Ah MZ (by simp) fun w0 I0=>?_;have main:(k=1∨ks.length=u.kids.length)→WPC (cx Tryz.prog w0 I0 79) GG (QU Tryz.prog [.tmp 4] (bv (QL (.mk k w ks) u))) ⟨lk [(2,.pob [0] 1 0),(3,.pob [1] 1 0)],FA [([0],⟨1,.cells [iv k,Ff w,BV ks]⟩),([1],⟨1,.cells [iv u.kind,Ff u.words,BV u.kids]⟩)]⟩:=fun hc=>by
  rw[GG.eq_1];simp[eN];refine aF (t:=.mk k w ks) (u:=u) (by omega) (by simp) (by simp) (fun he q=>?_) (fun hf=>?_) N 0 (by omega) (fun i hi=>by omega)
  ·have heq:∀ i,w.getD i 0=u.words.getD i 0:=fun i=>by
    by_cases hi:i<N
    ·exact he i hi
    ·rw[getD_none (by omega),getD_none (by omega)]
   simp[eM];refine sy (t:=.mk k w ks) (u:=u) (by omega) hw hr hwu hru (fun i _=>hk0 i) (by simp) (by simp) (fun he2 q=>?_) (fun hf=>?_) M 0 (by omega) (fun i hi=>by omega)
   ·simp;refine Ak (yes hc heq fun i=>?_).symm;by_cases hi:i<M
    ·exact he2 i hi
    ·rw[getD_none (by omega),getD_none (by omega)]
   ·simp;refine Ak (no fun h=>?_).symm;obtain⟨i,hi⟩:=hf;exact hi (h.2.2 i)
  ·simp;refine Ak (no fun h=>?_).symm;obtain⟨i,hi⟩:=hf;exact hi (h.2.1 i)
 unfold JH;by_cases k1:k=1
 ·have u1:u.kind=1:=by omega
  have hm:=main (.inl k1);rw[u1] at hm;subst k1;simp[u1];refine Ao rfl ?_;simp;exact Di hm
 ·have u1:¬ u.kind=1:=by omega
  by_cases hl:ks.length=u.kids.length
  ·have hl':(ks.length:Int)=u.kids.length:=by omega
   simp[h1,h0,u1,hl'];refine Cf rfl (fun _=>NI w u.words (by omega)) (fun _=>rfl) rfl ?_;by_cases hww:w=u.words
   ·simp[hww];have:=main (.inr hl);rw[h1,hww] at this;exact Di this
   ·simp[hww];refine Ak ?_;rw[← h1];refine(no fun h=>hww ?_).symm;have hlen:w.length=u.words.length:=by
     have a1:=(O3 (Classical.choose_spec hr));have a2:=(O3 (Classical.choose_spec hru));by_cases k10:k=10
     ·have c1:w.length=1:=(a1.a k10).1;rw[c1,(a2.a (by omega)).1]
     ·have c1:w=[]:=a1.o (show k ≠ 0 by omega) k1 k10;rw[c1,a2.o h0 u1 (by omega)]
    exact(WW hlen).2 h.2.1
  ·have hl':¬ (ks.length:Int)=u.kids.length:=by omega
   simp[h1,h0,u1,hl,hl'];refine Ao rfl ?_;simp;refine Ak ?_;rw[← h1];exact(no fun h=>by
    rcases h.1 with h | h
    ·exact k1 h
    ·exact hl h).symm
theorem fy {t u:T} (hw:Bx t) (hr:∃ d,Aj d t=true) (hwu:Bx u) (hru:∃ d,Aj d u=true):G.Spec Tryz.prog 59 [tX t,tX u] (bv (QL t u)):=n5 t u hw hr hwu hru
theorem fV {u:T} (hw:Bx u) (i:Nat):Bx (u.kids.getD i T0):=by
 by_cases hi':i<u.kids.length
 ·have e:u.kids.getD i T0=u.kids[i]:=by simp[List.getD_eq_getElem?_getD,hi']
  rw[e];exact(wfT_iff.1 hw).ks _ (A5 hi')
 ·have e:u.kids.getD i T0=T0:=by rw[List.getD_eq_getElem?_getD,List.getElem?_eq_none (by simpa using hi')];rfl
  rw[e];exact wfT_iff.2 ⟨by simp[Bn],by simp,by simp,by simp,by simp⟩
def EqG (t:T):Prop:=∀ u:T,Bx t→Bx u→G.Spec Tryz.prog 59 [tX t,tX u] (bv (QL t u))
theorem qg {k:Int} {w:List Int} {a:List T} {u:T} (h0:k ≠ 0):QL (.mk k w a) u=true ↔ k=u.kind∧(k=1∨(a.length=u.kids.length∧w=u.words))∧(∀ i,w.getD i 0=u.words.getD i 0)∧∀ i,Af (a.getD i T0)=Af (u.kids.getD i T0):=by
 rw[eqT_iff];obtain⟨k',w',b⟩:=u;by_cases hk:k=k';rotate_left
 ·constructor
  ·intro h;have:=congrArg T.kind h;simp at this;exact absurd this hk
  ·intro h;exact absurd h.1 hk
 subst hk;by_cases h1:k=1
 ·subst h1;rw[struct_eq];simp
 rw[Me h0 h1];constructor
 ·rintro⟨rfl,h⟩;have hl:a.length=b.length:=by simpa using congrArg List.length h
  exact⟨rfl,.inr ⟨hl,rfl⟩,fun i=>rfl,(Pr hl).1 h⟩
 ·rintro⟨_,h,_,h3⟩;rcases h with h | ⟨hl,rfl⟩
  ·exact absurd h h1
  ·exact⟨rfl,(Pr hl).2 h3⟩
theorem Adm {t u:T} {n:Nat} (hn:n≤100000000000000) (hw:Bx t) (hwu:Bx u) (hk:∀ i,i<n→EqG (t.kids.getD i T0)) {H:Hp} (h0:H [0]=⟨1,.cells (tL t)⟩) (h1:H [1]=⟨1,.cells (tL u)⟩)
  (hq:(∀ i,i<n→Af (t.kids.getD i T0)=Af (u.kids.getD i T0))→∀ (q:Bool),Q (.exit 2) ⟨lk [(2,.pob [0] 1 0),(3,.pob [1] 1 0),(66,iv n),(67,iv n),(68,bv q)],H⟩)
  (hf:(∃ i,Af (t.kids.getD i T0) ≠ Af (u.kids.getD i T0))→Q .ret ⟨lk [(4,bv false)],H⟩) :
  ∀ (j i:Nat),i+j=n→(∀ i',i'<i→Af (t.kids.getD i' T0)=Af (u.kids.getD i' T0)) →
  LoopC (cx Tryz.prog w0 I0 n0) D5 Q ⟨lk [(2,.pob [0] 1 0),(3,.pob [1] 1 0),(66,iv n),(67,iv i)],H⟩:=by
 intro j;induction j with
 |zero=>
  intro i hi he;have:i=n:=by omega
  subst this;refine Ad Ai D5.eq_1 ?_;simp;exact hq he _
 |succ j ih=>
  intro i hi he;have hlt:i<n:=by omega
  have ei:=AM i;have hrec:=hk i hlt (u.kids.getD i T0) (fV hw i) (fV hwu i);refine Ad Ai D5.eq_1 ?_;simp[hlt,h0,h1];refine Ae (Eu t i) (by simp) ?_;simp[h0,h1];refine Ae (Eu u i) (by simp) ?_;simp[h0,h1];refine Ae hrec (by simp) ?_;cases hb:QL (t.kids.getD i T0) (u.kids.getD i T0) with
  |true=>
   simp[ei];refine ih (i+1) (by omega) (fun i' hi'=>?_);by_cases e:i'=i
   ·rw[e];exact eqT_iff.1 hb
   ·exact he i' (by omega)
  |false=>
   simp;exact hf ⟨i,fun e=>by rw[eqT_iff.2 e] at hb;cases hb⟩
set_option maxRecDepth 8000 in
theorem Aar:∀ t:T,EqG t:=by
 refine T.ind fun k w ks ih u hw hwu=>?_;have hw':=wfT_iff.1 hw;have hu':=wfT_iff.1 hwu;have hwl:=hw'.wl;have hkl:=hw'.kl;have hul:=hu'.wl;have huk:=hu'.kl;simp only[T.words_mk,T.kids_mk] at hwl hkl;have hk0:∀ i,EqG ((T.mk k w ks).kids.getD i T0):=fun i=>by
  by_cases hi:i<ks.length
  ·have e:(T.mk k w ks).kids.getD i T0=ks[i]:=by simp[List.getD_eq_getElem?_getD,hi]
   rw[e];exact ih _ (A5 hi)
  ·have e:(T.mk k w ks).kids.getD i T0=T0:=getD_none (by simpa using hi);rw[e];intro u _ _;exact KQ (.inr rfl)
 by_cases hkk:k ≠ u.kind∨k=0
 ·exact KQ hkk
 have h1:k=u.kind:=by omega
 have h0:¬ u.kind=0:=by omega
 simp only[T.kids_mk] at hk0;have yes:(k=1∨(ks.length=u.kids.length∧w=u.words))→(∀ i,w.getD i 0=u.words.getD i 0)→(∀ i,Af (ks.getD i T0)=Af (u.kids.getD i T0))→QL (.mk k w ks) u=true:=fun a b c=>(qg (by omega)).2 ⟨h1,a,b,c⟩;have no:¬ ((k=1∨(ks.length=u.kids.length∧w=u.words))∧(∀ i,w.getD i 0=u.words.getD i 0)∧(∀ i,Af (ks.getD i T0)=Af (u.kids.getD i T0)))→QL (.mk k w ks) u=false:=fun h=>by
  rw[Bool.eq_false_iff];intro e;exact h ((qg (by omega)).1 e).2
 obtain⟨N,hN⟩:∃ N:Nat,N=max w.length u.words.length:=⟨_,rfl⟩;obtain⟨M,hM⟩:∃ M:Nat,M=max ks.length u.kids.length:=⟨_,rfl⟩;have eN:max (w.length:Int) (u.words.length:Int)=(N:Int):=by omega
 have eM:max (ks.length:Int) (u.kids.length:Int)=(M:Int):=by omega
 refine Ah MZ (by simp) fun w0 I0=>?_;have main:(k=1∨(ks.length=u.kids.length∧w=u.words))→WPC (cx Tryz.prog w0 I0 79) GG (QU Tryz.prog [.tmp 4] (bv (QL (.mk k w ks) u))) ⟨lk [(2,.pob [0] 1 0),(3,.pob [1] 1 0)],FA [([0],⟨1,.cells [iv k,Ff w,BV ks]⟩),([1],⟨1,.cells [iv u.kind,Ff u.words,BV u.kids]⟩)]⟩:=fun hc=>by
  rw[GG.eq_1];simp[eN];refine aF (t:=.mk k w ks) (u:=u) (by omega) (by simp) (by simp) (fun he q=>?_) (fun hf=>?_) N 0 (by omega) (fun i hi=>by omega)
  ·have heq:∀ i,w.getD i 0=u.words.getD i 0:=fun i=>by
    by_cases hi:i<N
    ·exact he i hi
    ·rw[getD_none (by omega),getD_none (by omega)]
   simp[eM];refine Adm (t:=.mk k w ks) (u:=u) (by omega) hw hwu (fun i _=>hk0 i) (by simp) (by simp) (fun he2 q=>?_) (fun hf=>?_) M 0 (by omega) (fun i hi=>by omega)
   ·simp;refine Ak (yes hc heq fun i=>?_).symm;by_cases hi:i<M
    ·exact he2 i hi
    ·rw[getD_none (by omega),getD_none (by omega)]
   ·simp;refine Ak (no fun h=>?_).symm;obtain⟨i,hi⟩:=hf;exact hi (h.2.2 i)
  ·simp;refine Ak (no fun h=>?_).symm;obtain⟨i,hi⟩:=hf;exact hi (h.2.1 i)
 unfold JH;by_cases k1:k=1
 ·have u1:u.kind=1:=by omega
  have hm:=main (.inl k1);rw[u1] at hm;subst k1;simp[u1];refine Ao rfl ?_;simp;exact Di hm
 ·have u1:¬ u.kind=1:=by omega
  by_cases hl:ks.length=u.kids.length
  ·have hl':(ks.length:Int)=u.kids.length:=by omega
   simp[h1,h0,u1,hl'];refine Cf rfl (fun _=>NI w u.words (by omega)) (fun _=>rfl) rfl ?_;by_cases hww:w=u.words
   ·simp[hww];have:=main (.inr ⟨hl,hww⟩);rw[h1,hww] at this;exact Di this
   ·simp[hww];refine Ak ?_;rw[← h1];refine(no fun h=>?_).symm;rcases h.1 with h | h
    ·exact k1 h
    ·exact hww h.2
  ·have hl':¬ (ks.length:Int)=u.kids.length:=by omega
   simp[h1,h0,u1,hl,hl'];refine Ao rfl ?_;simp;refine Ak ?_;rw[← h1];exact(no fun h=>by
    rcases h.1 with h | h
    ·exact k1 h
    ·exact hl h.1).symm
theorem YZ {t u:T} (hw:Bx t) (hwu:Bx u):G.Spec Tryz.prog 59 [tX t,tX u] (bv (QL t u)):=Aar t u hw hwu
def kmF (v:Nat) (l:List T):Fam:=⟨fun r p=>if p=[] then ⟨1,.cells [.osl (r::[0]) v 3 0 l.length]⟩ else if p=[0] then ⟨v,.arr 3 (l.map tA)⟩ else ⟨0,.none⟩,fun {γ δ r r'} hg hd p=>by
  by_cases h1:p=[]
  ·rw[if_pos h1,if_pos h1];refine Fam.cells_ren ?_;simp[A.renL,A.ren,hg,hd]
  ·rw[if_neg h1,if_neg h1];by_cases h2:p=[0]
   ·rw[if_pos h2];exact Fam.arr_ren ((FamL.all pM).ren hg hd)
   ·rw[if_neg h2];rfl,fun {D r} hD p=>by
  by_cases h1:p=[]
  ·rw[if_pos h1];simp[Ob.refs,A.refsL,A.refs,hD]
  ·rw[if_neg h1];by_cases h2:p=[0]
   ·rw[if_pos h2];exact(FamL.all pM).refs hD
   ·rw[if_neg h2];trivial⟩
@[simp] theorem Alh {v:Nat} {l:List T} {r:Nat} {p:Nm}:(kmF v l).F r p=if p=[] then ⟨1,.cells [.osl (r::[0]) v 3 0 l.length]⟩ else if p=[0] then ⟨v,.arr 3 (l.map tA)⟩ else ⟨0,.none⟩:=rfl
noncomputable def ofU (v:Nat) (ks:List T) (t:T):Nat:=if Fy ks t<ks.length then v else v+1
noncomputable def WY:Nat→List T→List T→Nat
 |v,_,[]=>v
 |v,ks,t::l=>WY (ofU v ks (Af t)) (GY ks (Af t)) l
theorem Vh:∀ (l:List T) (u:Nat) (ks:List T) (t:T),WY u ks (l++[t])=ofU (WY u ks l) (CI ks l).1 (Af t)
 |[],u,ks,t=>by simp[WY,CI]
 |a::l,u,ks,t=>by simp[WY,CI,Vh l]
theorem vU {ks:List T} {n:T} (h:∀ k,k ∈ ks→Af k=k) (hn:Af n=n):∀ k,k ∈ GY ks n→Af k=k:=by
 unfold GY;split
 ·exact h
 ·intro k hk;rcases List.mem_append.1 hk with hk | hk
  ·exact h k hk
  ·simp at hk;subst hk;exact hn
theorem WQ:∀ {l ks:List T},(∀ k,k ∈ ks→Af k=k)→∀ k,k ∈ (CI ks l).1→Af k=k
 |[],ks,h=>h
 |t::l,ks,h=>WQ (l:=l) (vU h (Cz t))
section
variable {n0:Nat} {w0:World} {I0:Nat→Prop} {M0:Nm→Nat→Prop} {m0:Mu} {Q:Exit→Sta→Prop}
theorem Ahw {ks:List T} (hw:∀ k,k ∈ ks→Bx k) (hn:∀ k,k ∈ ks→Af k=k) (hl:ks.length≤1000000) {t:T} (wt:Bx t) (nt:Af t=t) {v w i N y:Nat} {na:Nat} {acc:List Nat} (hna:na=acc.length) (hacc:acc.length≤1000000) {X:A}
  (hq:Fy ks t=ks.length→∀ (st:List (Nat × A)) (H':Hp),(∀ p,H' (0::p)=(kmF v ks).F 0 p)→H' [1]=⟨y,.cells (tL t)⟩→H' [3]=⟨w,.arr 1 (acc.map nv)⟩→Q (.exit 2) ⟨lk ([(0,.pob [0] 1 0),(5,.osl [3] w 1 0 na),(7,.pob [1] y 0),(10,X),(11,iv N),(12,iv i)]++st),H'⟩)
  (hq2:Fy ks t<ks.length→∀ (H':Hp),(∀ p,H' (0::p)=(kmF v ks).F 0 p)→H' [3]=⟨w+1,.arr 1 ((acc++[Fy ks t]).map nv)⟩→Q (.exit 1) ⟨lk [(0,.pob [0] 1 0),(5,.osl [3] (w+1) 1 0 (na+1)),(10,X),(11,iv N),(12,iv i)],H'⟩) :
  ∀ (m j:Nat) (H:Hp),j+m=ks.length→(∀ (x:Nat) (hx:x<j) (h:x<ks.length),ks[x] ≠ t)→(∀ p,H (0::p)=(kmF v ks).F 0 p)→H [1]=⟨y,.cells (tL t)⟩→H [3]=⟨w,.arr 1 (acc.map nv)⟩ →
  LoopC (FW Tryz.prog w0 I0 M0 n0 m0) EI Q ⟨lk [(0,.pob [0] 1 0),(5,.osl [3] w 1 0 na),(7,.pob [1] y 0),(10,X),(11,iv N),(12,iv i),(19,.osl [0,0] v 3 0 ks.length),(20,iv ks.length),(21,iv j)],H⟩:=by
 subst hna;intro m;induction m with
 |zero=>
  intro j H hj hb hF h1 h3;have:j=ks.length:=by omega
  subst this;refine Ad Ai EI.eq_1 ?_;simp;exact hq (qG fun hm=>by
   obtain⟨x,hx,e⟩:=List.mem_iff_getElem.1 hm;exact hb x hx hx e) [(19,.osl [0,0] v 3 0 ks.length),(20,iv ks.length),(21,iv ks.length),(22,bv false)] H hF h1 h3
 |succ m ih=>
  intro j H hj hb hF h1 h3;have hlt:j<ks.length:=by omega
  have ew:=AM j;have hF1:=hF [0];simp at hF1;have hk:=A5 hlt;refine Ad Ai EI.eq_1 ?_;simp[hlt,hF1,h1,Aa];refine Ae (YZ (hw _ hk) wt) (by simp) ?_;have hE:QL ks[j] t=Np ks[j] t:=by unfold QL;rw[hn _ hk,nt]
  rw[hE];by_cases he:ks[j]=t
  ·have hc:=np hlt he fun x hx=>hb x hx (by omega);have hs:Np ks[j] t=true:=sameB_iff.2 he;rw[hc] at hq2;simp[hs,Aa,h3];refine⟨by omega,?_⟩;simp[Cq];exact hq2 hlt _ (fun p=>by simp[Aa,hF]) (by simp[Aa,BO])
  ·have hs:Np ks[j] t=false:=by rw[Bool.eq_false_iff];exact fun h=>he (sameB_iff.1 h)
   simp[hs,ew];refine ih (j+1) _ (by omega) (fun x hx h=>?_) (fun p=>by simp[Aa,hF]) (by simp[Aa,h1]) (by simp[Aa,h3]);by_cases e:x=j
   ·subst e;exact he
   ·exact hb x (by omega) h
theorem Af3 {ks0 ts:List T} (hw:∀ k,k ∈ ks0→Bx k) (hn:∀ k,k ∈ ks0→Af k=k) (ht:∀ k,k ∈ ts→Bx k) (htn:∀ k,k ∈ ts→Af k=k) (hl:ks0.length+ts.length≤1000000) {v0:Nat}
  (hq:∀ (st:List (Nat × A)) (H':Hp),(∀ p,H' (0::p)=(kmF (WY v0 ks0 ts) (CI ks0 ts).1).F 0 p)→H' [3]=⟨ts.length+1,.arr 1 ((CI ks0 ts).2.map nv)⟩→Q (.exit 0) ⟨lk ([(0,.pob [0] 1 0),(5,.osl [3] (ts.length+1) 1 0 ts.length)]++st),H'⟩) :
  ∀ (m i:Nat) (H:Hp),i+m=ts.length→(∀ p,H (0::p)=(kmF (WY v0 ks0 (ts.take i)) (CI ks0 (ts.take i)).1).F 0 p)→H [3]=⟨i+1,.arr 1 ((CI ks0 (ts.take i)).2.map nv)⟩ →
  LoopC (FW Tryz.prog w0 I0 M0 n0 m0) EF Q ⟨lk [(0,.pob [0] 1 0),(5,.osl [3] (i+1) 1 0 i),(10,BV ts),(11,iv ts.length),(12,iv i)],H⟩:=by
 intro m;induction m with
 |zero=>
  intro i H hi hF h3;have:i=ts.length:=by omega
  subst this;rw[BO (Cb _)] at hF h3;refine Ad Ai EF.eq_1 ?_;simp;exact hq [(10,BV ts),(11,iv ts.length),(12,iv ts.length),(13,bv false)] H hF h3
 |succ m ih=>
  intro i H hi hF h3;have hlt:i<ts.length:=by omega
  have ew:=AM i;have htk:ts.take (i+1)=ts.take i++[ts[i]]:=Ij hlt;have hti:=A5 hlt;have nt:=htn _ hti;have hlen:=Xn (ts.take i) ks0;rw[List.length_take,Nat.min_eq_left (by omega)] at hlen;have hkw:=cQ hw (l:=ts.take i) fun k hk=>ht k (PD hk);have hkn:=WQ hn (l:=ts.take i) ;have hlL:(CI ks0 (ts.take i)).2.length=i:=by rw[FK,List.length_take,Nat.min_eq_left (by omega)]
  have ihn:=ih (i+1);rw[htk,Vh,UO,nt] at ihn;simp only at ihn;have hF0:=hF [];have hF1:=hF [0];simp at hF0 hF1;generalize hv:WY v0 ks0 (ts.take i)=v at *;generalize hL:(CI ks0 (ts.take i)).2=L at *;generalize hK:(CI ks0 (ts.take i)).1=K at *;refine Ad Ai EF.eq_1 ?_;simp[hlt,hF0,Aa];refine LoopC.le (AE [(0,.pob [0] 1 0),(5,.osl [3] (i+1) 1 0 i),(7,.pob [1] ((H [1]).u+1) 0),(10,BV ts),(11,iv ts.length),(12,iv i),(19,.osl [0,0] v 3 0 K.length),(20,iv K.length),(21,iv (0:Nat))] (by simp)) ?_;refine Ahw hkw hkn (by omega) (ht _ hti) nt (v:=v) (w:=i+1) (i:=i) (N:=ts.length) (acc:=L) hlL.symm (by omega) (X:=BV ts) (y:=(H [1]).u+1) (fun hc st H' g0 g1 g3=>?_) (fun hc H' g0 g3=>?_) K.length 0 _ (by omega) (fun x hx=>by omega) (fun p=>by simp[hF,Aa]) (by simp[Aa]) (by simp[Aa,h3])
  ·have g00:=g0 [];have g01:=g0 [0];simp at g00 g01;rw[hc] at ihn;have hcK:GY K ts[i]=K++[ts[i]]:=by unfold GY;rw[if_neg (by omega)]
   have hcU:ofU v K ts[i]=v+1:=by unfold ofU;rw[if_neg (by omega)]
   rw[hcK,hcU] at ihn;simp[Cq,g00,g01,g1,g3,hlL,Aa];refine⟨by omega,by omega,by omega,?_⟩;rw[ew];refine ihn _ (by omega) (fun p=>?_) (by simp[Aa,hlL,BO]);by_cases h1:p=[]
   ·subst h1;simp[Aa]
   ·by_cases h2:p=[0]
    ·subst h2;simp[Aa,BO]
    ·simp[h1,h2,Aa,g0]
  ·have hcK:GY K ts[i]=K:=by unfold GY;rw[if_pos hc]
   have hcU:ofU v K ts[i]=v:=by unfold ofU;rw[if_pos hc]
   rw[hcK,hcU] at ihn;simp[Cq,ew];exact ihn _ (by omega) g0 g3
end
theorem X4 {ks ts:List T} (hw:∀ k,k ∈ ks→Bx k) (hn:∀ k,k ∈ ks→Af k=k) (ht:∀ k,k ∈ ts→Bx k) (htn:∀ k,k ∈ ts→Af k=k) (hl:ks.length+ts.length≤1000000) (v:Nat) :
  BR Tryz.prog 118 (fun r=>[.pob [r] 1 0,BV ts]) (kmF v ks) (fun r=>.sl false ((CI ks ts).2.map nv)) (kmF (WY v ks ts) (CI ks ts).1):=by
 refine ZN Sb (by simp) (Ag Bi (Ag Fu Ap)) Fu fun w0 I0 M0 m0 hM=>?_;unfold KC;simp;refine LoopC.le (FC 5 [3] 1 (by simp)) ?_;refine LoopC.le (AE [(0,.pob [0] 1 0),(5,.osl [3] (0+1) 1 0 0),(10,BV ts),(11,iv ts.length),(12,iv (0:Nat))] (by simp[upd])) ?_;refine Af3 hw hn ht htn hl (v0:=v) (fun st H' g0 g3=>?_) ts.length 0 _ (by omega) (fun p=>?_) ?_
 ·simp;obtain⟨H2,k1,k2⟩:=lN (c:=FW Tryz.prog w0 I0 M0 55 m0) (s:=lk [(5,.osl [3] (ts.length+1) 1 0 ts.length)]) (H:=H') (fun r=>1≤r) (fun r p b hr=>hM r p b hr) 5 (.sl false ((CI ks ts).2.map nv)) (fun H1 e1=>by
   have e2:H1 [3]=H' [3]:=e1 3 [] (by omega);simp;exact Cu (o:=[3]) (u:=ts.length+1) (n:=ts.length) (sz:=1) (l:=(CI ks ts).2) (f:=nv) (by rw[e2,g3];simp) (FK ts ks).symm (fun x=>rfl))
  refine Ef k1 (Di ?_);simp[upd];exact AJ rfl rfl fun p=>(k2 0 p (by omega)).trans (g0 p)
 ·simp[CI,WY]
 ·simp[CI]
end Go.Proofs.YtbjmaoedheiigaaGreat
namespace Go.PL
def SQ:List Int→List Int→Nat
 |a::l,b::m=>(if a=b then 1 else 0)+SQ l m
 |_,_=>0
noncomputable def bU:List T→List T→Nat
 |a::l,b::m=>(if QL a b=true then 1 else 0)+bU l m
 |_,_=>0
noncomputable def Gg (a b:T):Nat:=if a.kind ≠ b.kind∨a.kind=0∨a.kind=10 then 0 else 1+SQ a.words b.words+bU a.kids b.kids
theorem AaE {l m:List Int} {i:Nat} (h1:i<l.length) (h2:i<m.length):SQ (l.drop i) (m.drop i)=(if l[i]=m[i] then 1 else 0)+SQ (l.drop (i+1)) (m.drop (i+1)):=by
 rw[(List.getElem_cons_drop h1).symm,(List.getElem_cons_drop h2).symm,SQ]
theorem Aat {l m:List T} {i:Nat} (h1:i<l.length) (h2:i<m.length):bU (l.drop i) (m.drop i)=(if QL l[i] m[i]=true then 1 else 0)+bU (l.drop (i+1)) (m.drop (i+1)):=by
 rw[(List.getElem_cons_drop h1).symm,(List.getElem_cons_drop h2).symm,bU]
theorem wq {l m:List Int} {i:Nat} (h:i=min l.length m.length):SQ (l.drop i) (m.drop i)=0:=by
 by_cases h1:i=l.length
 ·rw[List.drop_eq_nil_of_le (by omega:l.length≤i)];cases m.drop i<;>rfl
 ·rw[List.drop_eq_nil_of_le (by omega:m.length≤i)];cases l.drop i<;>rfl
theorem vJ {l m:List T} {i:Nat} (h:i=min l.length m.length):bU (l.drop i) (m.drop i)=0:=by
 by_cases h1:i=l.length
 ·rw[List.drop_eq_nil_of_le (by omega:l.length≤i)];cases m.drop i<;>rfl
 ·rw[List.drop_eq_nil_of_le (by omega:m.length≤i)];cases l.drop i<;>rfl
theorem jy:∀ l m,SQ l m≤l.length
 |[],_=>by simp[SQ]
 |_::_,[]=>by simp[SQ]
 |a::l,b::m=>by
  have:=jy l m;unfold SQ;simp;split<;>omega
end Go.PL
namespace Go.PL
open List
theorem Pm:∀ {rs:List (List Int)} {i:Nat} {x:Sc},x ∈ HW i rs→i≤x.i∧x.i<16∧x.j<16∧0<x.n∧∃ r,rs[x.i-i]? = some r∧r[x.j]? = some x.n
 |[],i,x,h=>by simp[HW] at h
 |r::rs,i,x,h=>by
  unfold HW at h;rcases List.mem_append.1 h with h | h
  ·obtain⟨h1,h2,h3,h4,h5,h6,h7⟩:=gf h;exact⟨by omega,by omega,h3,h7,r,by rw[h1];simp,by simpa using h6⟩
  ·obtain⟨h1,h2,h3,h4,r',h5,h6⟩:=Pm h;refine⟨by omega,h2,h3,h4,r',?_,h6⟩;rw[show x.i-i=(x.i-(i+1))+1 by omega];simpa using h5
end Go.PL
namespace Go.Proofs.YtbjmaoedheiigaaGreat
open Go Go.G Go.Proofs Go.PL
theorem UN (rs:List (List Int)):∃ o',Nr (HW 0 rs) [] o'∧o'.length≤16:=by
 obtain⟨o',h⟩:=rJ (all:=HW 0 rs) (by have:=Uq (rs:=rs) (i:=0);omega);obtain⟨h1,h2⟩:=G9 h;refine⟨o',h,?_⟩;have hs:=Q1 h1;rw[← hs.2.length_eq];have:=bh (TD o') 0 16 hs.1 fun x hx=>⟨by omega,(Pm (h2 x (hs.2.subset hx))).2.1⟩;omega
noncomputable def Oh (a b:List T):List (List Int):=a.map fun x=>b.map fun y=>(Gg x y:Int)
noncomputable def pkO (rs:List (List Int)):List Sc:=(UN rs).choose
noncomputable def fN (rs:List (List Int)):List Sc:=TD (pkO rs)
theorem dD (rs:List (List Int)):Nr (HW 0 rs) [] (pkO rs)∧(pkO rs).length≤16:=(UN rs).choose_spec
def HO (one:T→T→E) (a b:List T):List Sc→Nat→Nat→List OP→List OP
 |[],i,j,out=>out++DE (a.drop i)++Dx (b.drop j)
 |x::xs,i,j,out=>HO one a b xs (x.i+1) (x.j+1) (out++DE ((a.take x.i).drop i)++Dx ((b.take x.j).drop j)++[.mk 3 0 [] (one (a.getD x.i T0) (b.getD x.j T0))])
noncomputable def GU (one:T→T→E) (a b:List T):List OP:=HO one a b (fN (Oh a b)) 0 0 []
def CP (gap:List T→List T→List OP):List Sp→List T→List T→List OP→List OP
 |[],_,_,out=>out
 |[s],a,b,out=>if s.k=0 then out++[.mk 0 s.n [] E0] else if s.k=2 then out++Dx (b.take s.n) else out++DE (a.take s.n)
 |s::s2::ss,a,b,out=>
  if s.k=0 then CP gap (s2::ss) (a.drop s.n) (b.drop s.n) (out++[.mk 0 s.n [] E0])
  else if s.k=2 then CP gap (s2::ss) a (b.drop s.n) (out++Dx (b.take s.n))
  else if s2.k=2 then CP gap ss (a.drop s.n) (b.drop s2.n) (out++gap (a.take s.n) (b.take s2.n))
  else CP gap (s2::ss) (a.drop s.n) b (out++DE (a.take s.n))
abbrev yC (l:List Nat):List Int:=l.map fun n:Nat=>(n:Int)
noncomputable def Wa (a:T):List Int:=yC (CI [] a.kids).2
noncomputable def VY (a b:T):List Int:=yC (CI (CI [] a.kids).1 b.kids).2
noncomputable def Sf (one:T→T→E) (most:Int) (a b:T):E:=
 .mk 3 T0 T0 [] [] a.kind (if (C5 (Wa a) (VY a b):Int)≤most then CP (GU one) (Lu (Gj (Wa a) (VY a b))) a.kids b.kids [] else GU one a.kids b.kids)
def MQ (a b:T) (m:Nat):List WE:=(List.range m).filterMap fun i=>if EC (a.words.getD i 0) (b.words.getD i 0)=0 then none else some (zx i (a.words.getD i 0) (b.words.getD i 0))
def FM (one:T→T→E) (a b:T) (m:Nat):List KE:=(List.range m).filterMap fun i=>if (one (a.kids.getD i T0) (b.kids.getD i T0)).kind=0 then none else some (.mk i (one (a.kids.getD i T0) (b.kids.getD i T0)))
def kV (one:T→T→E) (a b:T):E:=.mk 2 T0 T0 (MQ a b (max a.words.length b.words.length)) (FM one a b (max a.kids.length b.kids.length)) 0 []
noncomputable def Gp (most:Int):Nat→T→T→E
 |0,a,b=>if QL a b=true then E0 else .mk 1 a b [] [] 0 []
 |f+1,a,b=>if QL a b=true then E0 else if a.kind=1∧b.kind=1 then kV (Gp most f) a b else if a.kind=b.kind∧2≤a.kind∧a.kind≤9 then Sf (Gp most f) most a b else .mk 1 a b [] [] 0 []
def dA (us:List Nat):Nat:=us.countP fun x=>x != 2
def dB (us:List Nat):Nat:=us.countP fun x=>x != 1
theorem Ih (n k:Nat):dA (List.replicate n k)=if k=2 then 0 else n:=by unfold dA;rw[List.countP_replicate];by_cases h:k=2<;>simp[h]
theorem H9 (n k:Nat):dB (List.replicate n k)=if k=1 then 0 else n:=by unfold dB;rw[List.countP_replicate];by_cases h:k=1<;>simp[h]
theorem Hn (a b:List Nat):dA (a++b)=dA a+dA b:=List.countP_append
theorem HD (a b:List Nat):dB (a++b)=dB a+dB b:=List.countP_append
theorem dj:∀ (us:List Nat) (k d i:Nat),(∀ x,x ∈ us→x≤2)→dA (Bs (Qu us k d i))=k+d+dA us∧dB (Bs (Qu us k d i))=k+i+dB us
 |[],k,d,i,_=>by
  simp only[Qu,J2,Oc,Hn,HD,Ih,H9];simp[dA,dB]
 |x::us,k,d,i,h=>by
  have hx:=h x (by simp);have hu:∀ y,y ∈ us→y≤2:=fun y hy=>h y (by simp[hy]);have e1:dA (x::us)=(if x=2 then 0 else 1)+dA us:=by
   have:=Hn [x] us;rw[show [x]=List.replicate 1 x from rfl,Ih] at this;simpa using this
  have e2:dB (x::us)=(if x=1 then 0 else 1)+dB us:=by
   have:=HD [x] us;rw[show [x]=List.replicate 1 x from rfl,H9] at this;simpa using this
  rw[e1,e2,Qu];have hx3:x=0∨x=1∨x=2:=by omega
  rcases hx3 with rfl | rfl | rfl
  ·obtain⟨h1,h2⟩:=dj us (k+1) 0 0 hu;simp only[if_true,J2,Oc,Hn,HD,Ih,H9,h1,h2];simp;omega
  ·obtain⟨h1,h2⟩:=dj us 0 (d+1) i hu;simp[Hn,HD,Ih,H9,h1,h2];omega
  ·obtain⟨h1,h2⟩:=dj us 0 d (i+1) hu;simp[Hn,HD,Ih,H9,h1,h2];omega
theorem bM (us:List Nat) (h:∀ x,x ∈ us→x≤2):dA (Bs (Lu us))=dA us∧dB (Bs (Lu us))=dB us:=by
 have:=dj us 0 0 0 h;unfold Lu;omega
theorem dx:∀ (us:List Nat) (k d i:Nat),(∀ x,x ∈ us→x≤2)→∀ s,s ∈ Qu us k d i→s.k≤2∧1≤s.n
 |[],k,d,i,_,s,hs=>by
  simp only[Qu,List.mem_append] at hs;rcases hs with hs | hs | hs<;>(unfold fl at hs;split at hs<;>simp at hs;subst hs;simp;omega)
 |x::us,k,d,i,h,s,hs=>by
  have hu:∀ y,y ∈ us→y≤2:=fun y hy=>h y (by simp[hy]);rw[Qu] at hs;have fin:∀ q n,q≤2→s ∈ fl q n→s.k≤2∧1≤s.n:=fun q n hq hs=>by
   unfold fl at hs;split at hs<;>simp at hs;subst hs;simp;omega
  split at hs
  ·simp only[List.mem_append] at hs;rcases hs with hs | hs | hs
   ·exact fin 1 _ (by omega) hs
   ·exact fin 2 _ (by omega) hs
   ·exact dx us _ _ _ hu s hs
  ·rw[List.mem_append] at hs;rcases hs with hs | hs
   ·exact fin 0 _ (by omega) hs
   ·split at hs
    ·exact dx us _ _ _ hu s hs
    ·exact dx us _ _ _ hu s hs
theorem AaZ (p q:Nat):∀ x,x ∈ Pz p q→x≤2:=by
 intro x hx;unfold Pz at hx;split at hx
 ·rcases List.mem_append.1 hx with h | h
  ·have:=List.eq_of_mem_replicate h;omega
  ·simp at h;omega
 ·simp at hx;omega
theorem Adk {p q:Nat} (h:p≤q):dA (Pz p q)=1∧dB (Pz p q)=q-p:=by
 unfold Pz;split
 ·rw[Hn,HD,Ih,H9];simp[dA,dB];omega
 ·simp[dA,dB];omega
theorem We (a b:List Int):∀ x,x ∈ Gj a b→x≤2:=by
 intro x hx;unfold Gj at hx;rcases List.mem_append.1 hx with h | h
 ·obtain⟨i,_,hi⟩:=List.mem_flatMap.1 h;exact AaZ _ _ x hi
 ·have:=List.eq_of_mem_replicate h;omega
theorem pW (a b:List Int):∀ n,n≤a.length→dA ((List.range n).flatMap (fun i=>Pz (CF a b i) (CF a b (i+1))))=n∧dB ((List.range n).flatMap (fun i=>Pz (CF a b i) (CF a b (i+1))))=CF a b n
 |0,_=>by simp[dA,dB,Y9]
 |n+1,h=>by
  obtain⟨h1,h2⟩:=pW a b n (by omega);have hm:=Xp (a:=a) (b:=b) (i:=n) (h:=n+1) (by omega) h;obtain⟨g1,g2⟩:=Adk hm;rw[List.range_succ,List.flatMap_append,Hn,HD,h1,h2];simp[g1,g2];omega
theorem nG (a b:List Int):dA (Gj a b)=a.length∧dB (Gj a b)=b.length:=by
 obtain⟨h1,h2⟩:=pW a b a.length (Cb _);have hl:=(H8 (a:=a) (b:=b) (i:=a.length) (Cb _)).2.1;unfold Gj;rw[Hn,HD,h1,h2,Ih,H9];simp;omega
abbrev prs (l:List Sc):A:=.sl false (l.map KH)
variable {n0:Nat} {w0:World} {I0:Nat→Prop} {Q:Exit→Sta→Prop}
theorem Ab6 {a b:T} {H:Hp} (ha:Bx a) (hb:Bx b) (h0:H [0]=⟨1,.cells (tL a)⟩) (h1:H [1]=⟨1,.cells (tL b)⟩):∀ (m i n:Nat),i+m=min a.words.length b.words.length→n≤1+i →
  (∀ st,Q (.exit 0) ⟨lk ([(2,.pob [0] 1 0),(3,.pob [1] 1 0),(5,nv (n+SQ (a.words.drop i) (b.words.drop i)))]++st),H⟩) →
  LoopC (cx Tryz.prog w0 I0 n0) IK Q ⟨lk [(2,.pob [0] 1 0),(3,.pob [1] 1 0),(5,nv n),(29,iv (min a.words.length b.words.length:Nat)),(30,iv i)],H⟩:=by
 have hal:=(wfT_iff.1 ha).wl;intro m;induction m with
 |zero=>
  intro i n hm hn hq;refine Ad Ai IK.eq_1 ?_;rw[wq (by omega)] at hq;generalize min a.words.length b.words.length=N at *;simp[show ¬ i<N by omega];exact hq [(29,iv N),(30,iv i),(31,bv false)]
 |succ m ih=>
  intro i n hm hn hq;have hi:i<a.words.length:=by omega
  have hj:i<b.words.length:=by omega
  have e1:=AM i;have e2:=AM n;rw[AaE hi hj] at hq;generalize min a.words.length b.words.length=N at *;have hN:i<N:=by omega
  refine Ad Ai IK.eq_1 ?_;by_cases h:a.words[i]=b.words[i]
  ·simp[h0,h1,hi,hj,hN,h,e1,e2];refine ih (i+1) (n+1) (by omega) (by omega) fun st=>?_;have:=hq st;rw[if_pos h] at this;rw[show n+1+SQ (a.words.drop (i+1)) (b.words.drop (i+1))=n+(1+SQ (a.words.drop (i+1)) (b.words.drop (i+1))) by omega];exact this
  ·simp[h0,h1,hi,hj,hN,h,e1];refine ih (i+1) n (by omega) (by omega) fun st=>?_;have:=hq st;rw[if_neg h,Nat.zero_add] at this;exact this
theorem Adh {a b:T} {H:Hp} (ha:Bx a) (hb:Bx b) (h0:H [0]=⟨1,.cells (tL a)⟩) (h1:H [1]=⟨1,.cells (tL b)⟩):∀ (m i n:Nat),i+m=min a.kids.length b.kids.length→n≤100000000000000+i →
  (∀ st,Q (.exit 2) ⟨lk ([(2,.pob [0] 1 0),(3,.pob [1] 1 0),(5,nv (n+bU (a.kids.drop i) (b.kids.drop i)))]++st),H⟩) →
  LoopC (cx Tryz.prog w0 I0 n0) IE Q ⟨lk [(2,.pob [0] 1 0),(3,.pob [1] 1 0),(5,nv n),(53,iv (min a.kids.length b.kids.length:Nat)),(54,iv i)],H⟩:=by
 have hal:=(wfT_iff.1 ha).kl;intro m;induction m with
 |zero=>
  intro i n hm hn hq;refine Ad Ai IE.eq_1 ?_;rw[vJ (by omega)] at hq;generalize min a.kids.length b.kids.length=N at *;simp[show ¬ i<N by omega];exact hq [(53,iv N),(54,iv i),(55,bv false)]
 |succ m ih=>
  intro i n hm hn hq;have hi:i<a.kids.length:=by omega
  have hj:i<b.kids.length:=by omega
  have e1:=AM i;have e2:=AM n;have hE:=YZ ((wfT_iff.1 ha).ks _ (A5 hi)) ((wfT_iff.1 hb).ks _ (A5 hj));rw[Aat hi hj] at hq;generalize min a.kids.length b.kids.length=N at *;have hN:i<N:=by omega
  refine Ad Ai IE.eq_1 ?_;simp[h0,h1,hi,hj,hN];refine Ae hE (by simp) ?_;cases h:QL a.kids[i] b.kids[i] with
  |true=>
   simp[e1,e2];refine ih (i+1) (n+1) (by omega) (by omega) fun st=>?_;have:=hq st;rw[if_pos h] at this;rw[show n+1+bU (a.kids.drop (i+1)) (b.kids.drop (i+1))=n+(1+bU (a.kids.drop (i+1)) (b.kids.drop (i+1))) by omega];exact this
  |false=>
   simp[e1];refine ih (i+1) n (by omega) (by omega) fun st=>?_;have:=hq st;rw[if_neg (by rw[h];decide),Nat.zero_add] at this;exact this
theorem jd {a b:T} (ha:Bx a) (hb:Bx b):G.Spec Tryz.prog 202 [tX a,tX b] (nv (Gg a b)):=by
 have hal:=(wfT_iff.1 ha).wl;refine Ah dT (by simp) fun w0 I0=>?_;unfold So;by_cases hk:a.kind=b.kind
 ·by_cases h0:b.kind=0
  ·simp[hk,h0];exact DY (by simp[Gg,hk,h0])
  ·by_cases h10:b.kind=10
   ·simp[hk,h0,h10];exact DY (by simp[Gg,hk,h10])
   ·simp[hk,h0,h10];refine LoopC.le (AE [(2,.pob [0] 1 0),(3,.pob [1] 1 0),(5,nv 1),(29,iv (min a.words.length b.words.length:Nat)),(30,iv (0:Nat))] (by simp;omega)) ?_;refine Ab6 ha hb (by simp[Aa,hk]) (by simp[Aa]) _ 0 1 (Nat.zero_add _) (by omega) fun st=>?_;simp;refine LoopC.le (AE [(2,.pob [0] 1 0),(3,.pob [1] 1 0),(5,nv (1+SQ a.words b.words)),(53,iv (min a.kids.length b.kids.length:Nat)),(54,iv (0:Nat))] (by simp;omega)) ?_;have:=jy a.words b.words;refine Adh ha hb (by simp[Aa,hk]) (by simp[Aa]) _ 0 _ (Nat.zero_add _) (by omega) fun st=>?_;simp;refine DY ?_;simp[Gg,hk,h0,h10]
 ·simp[hk];exact DY (by simp[Gg,hk])
theorem qW {l:List T} (hl:l.length*56≤140737488355328):∀ (m i a b:Nat) (H:Hp),i+m=l.length →
  (∀ i' q (x y:Nat) H',x=max a (An (l.drop i))→y=max b (Aq (l.drop i))→Q (.exit 0) ⟨lk [(4,iv x),(5,iv y),(9,BV l),(10,iv l.length),(11,iv i'),(12,bv q)],H'⟩) →
  LoopC (cx Tryz.prog w0 I0 n0) Iu Q ⟨lk [(4,iv a),(5,iv b),(9,BV l),(10,iv l.length),(11,iv i)],H⟩:=by
 intro m;induction m with
 |zero=>
  intro i a b H hi hq;have:i=l.length:=by omega
  subst this;refine Ad Ai Iu.eq_1 ?_;simp;exact hq _ false _ _ _ (by simp[An]) (by simp[Aq])
 |succ m ih=>
  intro i a b H hi hq;have hlt:i<l.length:=by omega
  have e:l.drop i=l[i]::l.drop (i+1):=List.drop_eq_getElem_cons hlt;have ei:=AM i;refine Ad Ai Iu.eq_1 ?_;simp[hlt,ei];have em:∀ (x y:Nat),max (x:Int) (y:Int)=((max x y:Nat):Int):=fun x y=>by omega
  rw[em,em];exact ih (i+1) _ _ _ (by omega) fun i' q x y H' hx hy=>hq i' q x y H' (by rw[hx,e,An];omega) (by rw[hy,e,Aq];omega)
theorem U1 (t:T) (hl:t.kids.length*56≤140737488355328):G.Spec Tryz.prog 183 [tX t] (.tup [iv (An t.kids),iv (Aq t.kids)]):=by
 refine Ah eH (by simp) fun w0 I0=>?_;unfold Th;simp;refine qW hl t.kids.length 0 0 0 _ (by omega) fun i' q x y H' hx hy=>?_;simp;refine AW rfl ?_;simp[hx,hy]
theorem tW {t:T} (hl:t.kids.length*56≤140737488355328) (ih:∀ c,c ∈ t.kids→G.Spec Tryz.prog 31 [tX c] (tX (Af c))) {v v0:VOb} {k w:A}:∀ (m i:Nat) (u:Nat) (H:Hp),i+m=t.kids.length→H [0]=v0→H [1]=v→H [2]=⟨1,.cells [k,w,.osl [4] u 3 0 i]⟩→H [4]=⟨u,.arr 3 ((t.kids.take i).map (tA ∘ Af))⟩ →
  (∀ i' q (u':Nat) (H':Hp),H' [0]=v0→H' [1]=v→H' [2]=⟨1,.cells [k,w,.osl [4] u' 3 0 t.kids.length]⟩→H' [4]=⟨u',.arr 3 (t.kids.map (tA ∘ Af))⟩→Q (.exit 0) ⟨lk [(1,.pob [0] 1 0),(2,.pob [1] 1 0),(3,.pob [2] 1 0),(17,BV t.kids),(18,iv t.kids.length),(19,iv i'),(20,bv q)],H'⟩) →
  LoopC (cx Tryz.prog w0 I0 n0) JR Q ⟨lk [(1,.pob [0] 1 0),(2,.pob [1] 1 0),(3,.pob [2] 1 0),(17,BV t.kids),(18,iv t.kids.length),(19,iv i)],H⟩:=by
 intro m;induction m with
 |zero=>
  intro i u H hi hA hR hO hB hq;have:i=t.kids.length:=by omega
  subst this;refine Ad Ai JR.eq_1 ?_;simp;exact hq _ _ u H hA hR hO (by rw[hB];simp)
 |succ m ihm=>
  intro i u H hi hA hR hO hB hq;have hlt:i<t.kids.length:=by omega
  have ei:=AM i;refine Ad Ai JR.eq_1 ?_;simp[hlt,Aa,hO];refine Ae (ih _ (A5 hlt)) rfl ?_;simp[Aa,hO,hB];have hrow:=Hz (f:=tA ∘ Af) hlt (x:=tX (Af t.kids[i])) (by simp);rw[hrow,ei];refine⟨⟨by omega,by omega⟩,?_⟩;exact ihm (i+1) (u+1) _ (by omega) (by simp[Aa,hA]) (by simp[Aa,hR]) (by simp[Aa]) (by simp[Aa]) hq
theorem xY {w:List Int} (hl:w.length*8≤140737488355328) {v v4:VOb} {K:A}:∀ (n:Nat) (H:Hp),n≤w.length→CM (w.take n)=CM w→H [1]=v→H [2]=⟨1,.cells [iv 1,Ff (w.take n),K]⟩→H [4]=v4 →
  (∀ q (H':Hp),H' [1]=v→H' [2]=⟨1,.cells [iv 1,Ff (CM w),K]⟩→H' [4]=v4→Q (.exit 2) ⟨lk [(2,.pob [1] 1 0),(3,.pob [2] 1 0),(48,bv q)],H'⟩) →
  LoopC (cx Tryz.prog w0 I0 n0) JD Q ⟨lk [(2,.pob [1] 1 0),(3,.pob [2] 1 0)],H⟩:=by
 intro n;induction n with
 |zero=>
  intro H hn ht hR hO hB hq;refine Ad Ai JD.eq_1 ?_;simp[hO];refine hq _ H hR ?_ hB;rw[← ht];simpa using hO
 |succ n ihn=>
  intro H hn ht hR hO hB hq;have hlt:n<w.length:=by omega
  have en:i64.wrap (n:Int)=n:=Bv;have emin:min (n+1) w.length=n+1:=by omega
  refine Ad Ai JD.eq_1 ?_;by_cases h0:w[n]=0
  ·have hnn:(n:Int)<n+1:=by omega
   have hnn':(n:Int)≤n+1:=by omega
   have hs:List.take n (List.take (n+1) (List.map uv w))=(w.take n).map uv:=by rw[List.take_take,Nat.min_eq_left (by omega),List.map_take]
   simp[hO,emin,en,hlt,h0,hnn,hnn',hs];exact ihn _ (by omega) (by rw[← Y4 hlt h0];exact ht) (by simp[Aa,hR]) (by simp[Aa]) (by simp[Aa,hB]) hq
  ·have hnn:(n:Int)<n+1:=by omega
   simp[hO,emin,en,hlt,h0,hnn];refine hq _ H hR ?_ hB;rw[hO,← ht,XB hlt h0]
theorem vb {l:List T} (hl:l.length*56≤140737488355328) {v:VOb} {W:A} {u:Nat}:∀ (n:Nat) (H:Hp),n≤l.length→BZ (l.take n)=BZ l→H [1]=v→H [2]=⟨1,.cells [iv 1,W,.osl [4] u 3 0 n]⟩→H [4]=⟨u,.arr 3 (l.map (tA ∘ Af))⟩ →
  (∀ q (H':Hp),H' [1]=v→H' [2]=⟨1,.cells [iv 1,W,.osl [4] u 3 0 (BZ l).length]⟩→H' [4]=⟨u,.arr 3 (l.map (tA ∘ Af))⟩→Q (.exit 4) ⟨lk [(2,.pob [1] 1 0),(3,.pob [2] 1 0),(72,bv q)],H'⟩) →
  LoopC (cx Tryz.prog w0 I0 n0) JF Q ⟨lk [(2,.pob [1] 1 0),(3,.pob [2] 1 0)],H⟩:=by
 intro n;induction n with
 |zero=>
  intro H hn ht hR hO hB hq;refine Ad Ai JF.eq_1 ?_;simp[hO];refine hq _ H hR ?_ hB;rw[← ht];simpa using hO
 |succ n ihn=>
  intro H hn ht hR hO hB hq;have hlt:n<l.length:=by omega
  have en:i64.wrap (n:Int)=n:=Bv;have hnn:(n:Int)<n+1:=by omega
  have hnn':(n:Int)≤n+1:=by omega
  refine Ad Ai JF.eq_1 ?_;by_cases h0:l[n].kind=0
  ·simp[hO,hB,en,hlt,h0,hnn,hnn'];exact ihn _ (by omega) (by rw[← YM hlt h0];exact ht) (by simp[Aa,hR]) (by simp[Aa]) (by simp[Aa,hB]) hq
  ·simp[hO,hB,en,hlt,h0,hnn];refine hq _ H hR ?_ hB;rw[hO,← ht,X0 hlt h0];simp;omega
theorem FI:∀ (t:T),Bx t→G.Spec Tryz.prog 31 [tX t] (tX (Af t)):=by
 refine T.ind fun k w l ih hw=>?_;have hw':=wfT_iff.1 hw;have hwl:=hw'.wl;have hkl:=hw'.kl;simp at hwl hkl;refine Ah jJ (by simp) fun w0 I0=>?_;unfold UI;rw[AL];by_cases h0:k=0
 ·simp[h0];exact ND
 ·simp[h0];refine Ae (Qq false w hwl).spec rfl ?_;simp;refine LoopC.le (B9 (d:=[2]) 2 [4] 3 rfl rfl (by simp)) ?_;simp;refine tW (t:=.mk k w l) (k:=iv k) (w:=Ff w) (by simpa using hkl) (fun c hc=>ih c hc (hw'.ks c hc)) l.length 0 1 _ (by simp) rfl rfl (by simp) (by simp) fun i' q u' H' hA hR hO hB=>?_;by_cases h1:k=1
  ·subst h1;simp at hA hR hO hB;simp[hA,hR,hO,hB];refine LoopC.le (AE [(2,.pob [1] 1 0),(3,.pob [2] 1 0)] (by simp)) ?_;refine xY hwl w.length _ (Cb _) (by rw[BO (Cb _)]) hR (by rw[hO,BO (Cb _)]) hB fun q H2 hR2 hO2 hB2=>?_;simp;refine vb hkl l.length _ (Cb _) (by rw[BO (Cb _)]) hR2 hO2 hB2 fun q H3 hR3 hO3 hB3=>?_;simp[hO3,hR3,Aa];refine BT ?_;simp;rw[L5];refine⟨Ab rfl,Ab rfl,?_⟩;have:=YS (H:=Bh H3 [1] ⟨1,.cells [iv 1,Ff (CM w),A.osl [4] u' 3 0 (BZ l).length]⟩) (o:=[4]) (u:=u') (sz:=3) (l:=l) (f:=tA ∘ Af) (by simp[Aa,hB3]) (EN l) (by simp);rw[← List.map_take];show K6 _ _ (A.sl false (((l.take (BZ l).length).map Af).map tA));rw[List.map_map];exact this
  ·simp at hA hR hO hB;simp[hA,hR,hO,hB,h1,Aa];refine BT ?_;simp;refine⟨Ab rfl,Ab rfl,?_⟩;have:=Cu (H:=Bh H' [1] ⟨1,.cells [iv k,Ff w,A.osl [4] u' 3 0 l.length]⟩) (o:=[4]) (u:=u') (sz:=3) (l:=l) (f:=tA ∘ Af) (by simp[Aa,hB]) rfl (by simp);show K6 _ _ (A.sl false ((l.map Af).map tA));rw[List.map_map];exact this
theorem tN {l:List T} (hl:l.length*56≤140737488355328) (ih:∀ c,c ∈ l→G.Spec Tryz.prog 124 [tX c] (iv (Kz (Je c)))):∀ (m i:Nat) (x y:Int) (H:Hp),i+m=l.length→y=Kz x →
  (∀ i' q H',Q (.exit 1) ⟨lk [(3,iv (Kz (x+Kv (l.drop i)))),(57,BV l),(58,iv l.length),(59,iv i'),(60,bv q)],H'⟩) →
  LoopC (cx Tryz.prog w0 I0 n0) JA Q ⟨lk [(3,iv y),(57,BV l),(58,iv l.length),(59,iv i)],H⟩:=by
 intro m;induction m with
 |zero=>
  intro i x y H hi hy hq;have:i=l.length:=by omega
  subst this hy;refine Ad Ai JA.eq_1 ?_;simp;simpa using hq l.length false H
 |succ m ihm=>
  intro i x y H hi hy hq;subst hy;have hlt:i<l.length:=by omega
  have e:l.drop i=l[i]::l.drop (i+1):=List.drop_eq_getElem_cons hlt;have ei:=AM i;refine Ad Ai JA.eq_1 ?_;simp[hlt,Aa];refine Ae (ih _ (A5 hlt)) rfl ?_;simp[ei,Aa,ab,T5,ry];refine ihm (i+1) (x+(Je l[i]-l[i].words.length-l[i].kids.length)) _ _ (by omega) rfl fun i' q H'=>?_;have:=hq i' q H';rw[e,im,← Int.add_assoc] at this;exact this
theorem vN {l:List T} (hl:l.length*56≤140737488355328) (ih:∀ c,c ∈ l→G.Spec Tryz.prog 124 [tX c] (iv (Kz (Je c)))):∀ (m i:Nat) (x y:Int) (H:Hp),i+m=l.length→y=Kz x →
  (∀ i' q H',Q (.exit 3) ⟨lk [(3,iv (Kz (x+GW (l.drop i)))),(78,BV l),(79,iv l.length),(80,iv i'),(81,bv q)],H'⟩) →
  LoopC (cx Tryz.prog w0 I0 n0) JK Q ⟨lk [(3,iv y),(78,BV l),(79,iv l.length),(80,iv i)],H⟩:=by
 intro m;induction m with
 |zero=>
  intro i x y H hi hy hq;have:i=l.length:=by omega
  subst this hy;refine Ad Ai JK.eq_1 ?_;simp;simpa using hq l.length false H
 |succ m ihm=>
  intro i x y H hi hy hq;subst hy;have hlt:i<l.length:=by omega
  have e:l.drop i=l[i]::l.drop (i+1):=List.drop_eq_getElem_cons hlt;have ei:=AM i;refine Ad Ai JK.eq_1 ?_;simp[hlt,Aa];refine Ae (ih _ (A5 hlt)) rfl ?_;simp[ei,ab,T5];refine ihm (i+1) (x+Je l[i]) _ _ (by omega) rfl fun i' q H'=>?_;have:=hq i' q H';rw[e,gM,← Int.add_assoc] at this;exact this
set_option maxRecDepth 8000 in
theorem om:∀ (t:T),Bx t→G.Spec Tryz.prog 124 [tX t] (iv (Kz (Je t))):=by
 refine T.ind fun k w l ih hw=>?_;have hw':=wfT_iff.1 hw;have hwl:=hw'.wl;have hkl:=hw'.kl;simp at hwl hkl;have ih1:∀ c,c ∈ l→G.Spec Tryz.prog 124 [tX c] (iv (Kz (Je c))):=fun c hc=>ih c hc (hw'.ks c hc);refine Ah iI (by simp) fun w0 I0=>?_;unfold UM;rw[Yu];have fin:∀ (x y:Int) (H:Hp) (r:Int),y=Kz x→H [0]=⟨1,.cells [iv k,Ff w,BV l]⟩→r=x+GW l→WPC (cx Tryz.prog w0 I0 90) M9 (QU Tryz.prog [.tmp 2] (iv (Kz r))) ⟨lk [(1,.pob [0] 1 0),(3,iv y)],H⟩:=fun x y H r hy hH hr=>by
  subst hy;rw[M9.eq_1];simp[hH];refine vN hkl ih1 l.length 0 x _ _ (by simp) rfl fun i' q H'=>?_;simp[hr];exact Ab rfl
 have room:2≤k∧k≤7→Kz (Dw (k-2) l.length)=Dw (k-2) l.length:=fun hk=>by
  have:0≤Dw (k-2) l.length∧Dw (k-2) l.length≤1099511627776:=by
   unfold Dw Ux
   repeat' split
   all_goals omega
  exact Av (by omega) (by omega)
 by_cases h1:k=1
 ·simp[h1];exact fin _ _ _ _ rfl (by simp[h1]) rfl
 by_cases h8:k=8
 ·simp[h8];exact fin _ _ _ _ (Av (by omega) (by omega)).symm (by simp[h8]) rfl
 rw[if_neg h1,if_neg h8];by_cases h27:2≤k∧k≤7
 ·have hd:Bb k=true:=by simp[Bb,h27]
  have e2:i64.wrap (k-2)=k-2:=Bv;simp[h1,h8];refine Ae (J0 k) rfl ?_;simp[hd,e2];refine Ae (Wy _ _) rfl ?_;simp;rw[if_pos h27,room h27];exact Ab rfl
 ·have hd:Bb k=false:=by simp[Bb];omega
  simp[h1,h8];refine Ae (J0 k) rfl ?_;rw[if_neg h27];by_cases h9:k=9
  ·subst h9;simp[hd];refine Ae (U1 (.mk 9 w l) (by simpa using hkl)) rfl ?_;simp[T5,r6];refine tN hkl ih1 l.length 0 _ _ _ (by simp) rfl fun i' q H'=>?_;simp;exact Ab rfl
  ·simp[hd,h9];exact fin 0 _ _ _ (by decide) (by simp) (by simp)
theorem m9 (t:T) (h:Bx t):G.Spec Tryz.prog 75 [tX t] (iv (Kz (Je (Af t)))):=by
 refine Ah fU (by simp) fun w0 I0=>?_;unfold Vv;simp;refine Ae (FI t h) rfl ?_;simp;refine Ae (om (Af t) (IH t h)) rfl ?_;simp;exact Ab rfl
theorem MB:∀ (m:Nat) (x:Int) (i:Nat),i<m→(DF m x).getD i 0=x / 256 ^ i % 256
 |m+1,x,0,_=>by simp[DF]
 |m+1,x,i+1,h=>by
  have:=MB m (x / 256) i (by omega);simp only[DF,List.getD_cons_succ,this];rw[Int.ediv_ediv_of_nonneg (by decide),← Int.pow_succ']
theorem jl:∀ (l:List Int),(∀ b,b ∈ l→0≤b∧b<256)→(aG l=0 ↔ ∀ b,b ∈ l→b=0)
 |[],_=>by simp[aG]
 |b::l,h=>by
  have h1:=h b (by simp);have h2:=Tu l fun x hx=>h x (by simp[hx]);have ih:=jl l fun x hx=>h x (by simp[hx]);simp only[aG,List.mem_cons,forall_eq_or_imp,← ih];omega
theorem gz (w mask:Int):decide (HN w 0 mask=0)=Fm w mask:=by
 rw[Bool.eq_iff_iff];unfold HN;rw[decide_eq_true_eq,jl _ QT];have e:PI (AZ w) (AZ 0) mask 8=(List.range 8).map fun i=>if Ev mask i=true then (AZ 0).getD i 0 else (AZ w).getD i 0:=by
  unfold PI;rw[List.drop_of_length_le (by rw[BJ];omega),List.append_nil]
 rw[e];simp only[Fm,List.all_eq_true,List.mem_map,List.mem_range,Bool.or_eq_true,decide_eq_true_eq];have hz:∀ i,i<8→(AZ 0).getD i 0=0:=fun i hi=>by
  unfold AZ;rw[MB 8 0 i hi];simp
 constructor
 ·intro h i hi;by_cases hn:Ev mask i=true
  ·left;simpa[Ev] using hn
  ·right;have:=h _ ⟨i,hi,rfl⟩;rw[if_neg hn] at this;unfold AZ at this
   rwa [MB 8 w i hi] at this
 ·rintro h b ⟨i,hi,rfl⟩;by_cases hn:Ev mask i=true
  ·rw[if_pos hn];exact hz i hi
  ·rw[if_neg hn];rcases h i hi with h | h
   ·exact absurd (by simpa[Ev] using h) hn
   ·unfold AZ;rw[MB 8 w i hi];exact h
theorem ZS {n:Int} (h:0≤n):0≤Ii n∧Ii n≤1048576:=by unfold Ii;split<;>omega
end Go.Proofs.YtbjmaoedheiigaaGreat
namespace Go.PL
theorem jM (l:List T) (h:l ≠ []):Af (Es l) = .mk 9 [] (l.map Af):=by
 cases l with
 |nil=>exact absurd rfl h
 |cons t l=>rw[Ke,AL];simp
theorem Q2 (e:E):(AU e).kind=if e.kind=0 then 0 else 1:=by
 cases e;rw[Dh]
 repeat' split
 all_goals simp_all
def iK (ws:List WE):Prop:=∀ w,w ∈ ws→0≤w.mask∧w.mask<256
end Go.PL
namespace Go.Proofs.YtbjmaoedheiigaaGreat
open Go Go.G Go.Proofs Go.PL
variable {n0:Nat} {w0:World} {I0:Nat→Prop} {Q:Exit→Sta→Prop}
theorem Agk {d:Nat} {list:Int} {o:OP} (h:Ki d list o=true):0≤o.n∧o.n≤1048576:=by
 rw[Ph,Bool.and_eq_true] at h;have h1:=h.1;unfold TV at h1;split at h1
 ·simp at h1;omega
 ·split at h1
  ·cases h1
  ·omega
theorem X8 {t:T} (h:Bx t):G.Spec Tryz.prog 189 [tX t] (bv (KL t)):=by
 have hw:=(wfT_iff.1 h).wl;have hk:=(wfT_iff.1 h).kl;refine Ah ZJ (by simp) fun w0 I0=>?_;unfold Qb;simp;have e:i64.wrap ((t.words.length:Int)+t.kids.length)=(t.words.length:Int)+t.kids.length:=Bv;simp[e];refine Ak ?_;rw[Bool.eq_iff_iff];simp[KL,List.isEmpty_iff,← List.length_eq_zero_iff];omega
def Sl (k:Int) (o n:T) (nw nk:Nat) (l:Int) (no:Nat):Bool:=!(!decide (k=1)&&!(KL o&&KL n))&&!(!decide (k=2)&&decide (0<nw+nk))&&(decide (k=3) || decide (l=0)&&decide (no=0))
def pw (e:E):Bool:=Sl e.kind e.old e.new e.words.length e.kids.length e.list e.ops.length
theorem Va {d:Nat} {k:Int} {o n:T} {nw nk:Nat} {l:Int} {no:Nat}:NG d k o n nw nk l no=(!(decide (d=0) || decide (k<0) || decide (k > 3))&&Sl k o n nw nk l no):=by
 rw[Bool.eq_iff_iff,headOk_iff];unfold Sl;simp only[Bool.and_eq_true,Bool.not_eq_true',Bool.or_eq_false_iff,Bool.or_eq_true,Bool.and_eq_false_iff,decide_eq_false_iff_not,Bool.not_eq_false',decide_eq_true_eq];constructor
 ·rintro⟨h1,h2,h3,h4,h5,h6⟩;refine⟨⟨⟨h1,by omega⟩,by omega⟩,⟨?_,?_⟩,?_⟩
  ·by_cases hk:k=1
   ·exact .inl hk
   ·exact .inr (h4 hk)
  ·by_cases hk:k=2
   ·exact .inl hk
   ·exact .inr (by have:=h5 hk;omega)
  ·by_cases hk:k=3
   ·exact .inl hk
   ·exact .inr (h6 hk)
 ·rintro⟨⟨⟨h1,h2⟩,h3⟩,⟨h4,h5⟩,h6⟩;refine⟨h1,by omega,by omega,fun hk=>?_,fun hk=>?_,fun hk=>?_⟩
  ·rcases h4 with h4 | h4
   ·exact absurd h4 hk
   ·exact h4
  ·rcases h5 with h5 | h5
   ·exact absurd h5 hk
   ·omega
  ·rcases h6 with h6 | h6
   ·exact absurd h6 hk
   ·exact h6
set_option maxRecDepth 8000 in
theorem kY {e:E} (h:WfE e):G.Spec Tryz.prog 132 [eX e] (bv (pw e)):=by
 have hwl:=h.wl;have hkl:=h.kl;have hol:=h.ol;have e1:i64.wrap ((e.words.length:Int)+e.kids.length)=(e.words.length:Int)+e.kids.length:=Bv;obtain⟨R,hR⟩:∃ R,R=pw e:=⟨_,rfl⟩;rw[← hR];have c2:(decide (0<(e.words.length:Int)+e.kids.length))=decide (0<e.words.length+e.kids.length):=by rw[Bool.eq_iff_iff];simp;omega
 refine Ah gU (by simp) fun w0 I0=>?_;unfold Vp;unfold pw at hR;have cl:decide (e.ops.length=0)=decide (e.ops=[]):=by rw[Bool.eq_iff_iff];simp
 by_cases k1:e.kind=1
 ·have k2:¬ e.kind=2:=by omega
  have k3:¬ e.kind=3:=by omega
  have hR':R=(!decide (0<e.words.length+e.kids.length)&&(decide (e.list=0)&&decide (e.ops=[]))):=by
   rw[hR,← cl];simp[Sl,k1]
  simp[k1];rw[AB];simp;rw[AB];simp;simp[e1,k2,k3];refine⟨fun hc=>?_,fun hc=>?_⟩
  ·have a1:0<e.words.length+e.kids.length:=by omega
   exact Ak (by rw[hR'];simp[a1])
  ·have a1:¬ 0<e.words.length+e.kids.length:=by omega
   exact Ak (by rw[hR'];simp[a1])
 ·simp[k1];rw[AB];simp;refine Om rfl (X8 h.o) rfl ?_;cases n1:KL e.old with
  |false=>
   simp;rw[AB];simp;exact Ak (by rw[hR];simp[Sl,k1,n1])
  |true=>
   simp;rw[AB];simp;refine Om rfl (X8 h.n) rfl ?_;cases n2:KL e.new with
   |false=>
    simp;exact Ak (by rw[hR];simp[Sl,k1,n1,n2])
   |true=>
    simp;have hR':R=(!(!decide (e.kind=2)&&decide (0<e.words.length+e.kids.length))&&(decide (e.kind=3) || decide (e.list=0)&&decide (e.ops=[]))):=by
     rw[hR,← cl];simp[Sl,k1,n1,n2]
    by_cases k2:e.kind=2
    ·have k3:¬ e.kind=3:=by omega
     simp[e1,k2];exact Ak (by rw[hR'];simp[k2])
    ·by_cases k3:e.kind=3
     ·simp[e1,k3];refine⟨fun hc=>?_,fun hc=>?_⟩
      ·have a1:0<e.words.length+e.kids.length:=by omega
       exact Ak (by rw[hR'];simp[a1,k2])
      ·have a1:¬ 0<e.words.length+e.kids.length:=by omega
       exact Ak (by rw[hR'];simp[a1,k3])
     ·simp[e1,k2,k3];refine⟨fun hc=>?_,fun hc=>?_⟩
      ·have a1:0<e.words.length+e.kids.length:=by omega
       exact Ak (by rw[hR'];simp[a1,k2])
      ·have a1:¬ 0<e.words.length+e.kids.length:=by omega
       exact Ak (by rw[hR'];simp[a1,k3,k2])
theorem Uz {t:T} (h:Bx t):G.Spec Tryz.prog 133 [tX t] (bv (!decide (t.kind=10)&&Aj 64 t)):=by
 refine Ah dp (by simp) fun w0 I0=>?_;unfold RZ;by_cases k1:t.kind=10
 ·simp[k1];refine Ao rfl ?_;simp;exact Ab rfl
 ·simp[k1];refine Bc rfl (fun _=>M5 h) (fun _=>rfl) rfl ?_;simp;exact Ab rfl
theorem ao {Q':Exit→Sta→Prop} {x:WE} (hw:WE.wf x) {a b c d:A} {u:Nat} {H:Hp} (hH:H [0]=⟨u,.cells [iv x.at_,u8 x.mask,uv x.old,uv x.new]⟩)
  (h1:(Fm x.old x.mask&&Fm x.new x.mask)=true→Q' .normal ⟨lk [(0,a),(5,b),(6,c),(7,d),(53,bv false)],H⟩) (h2:(Fm x.old x.mask&&Fm x.new x.mask)=false→Q' .ret ⟨lk [(2,bv false)],H⟩) :
  WPC (cx Tryz.prog w0 I0 n0) LO Q' ⟨lk [(0,a),(4,.pob [0] u 0),(5,b),(6,c),(7,d)],H⟩:=by
 obtain⟨w1,w2,w3,w4⟩:=hw;have z:=gz x.old x.mask;have z2:=gz x.new x.mask;have u0:BI 0:=⟨by omega,by omega⟩;rw[LO.eq_1];simp[hH];refine Ae (OZ w3 u0 w2.1 w2.2) rfl ?_;by_cases m1:HN x.old 0 x.mask=0
 ·rw[m1] at z ⊢;simp[hH];refine Cf rfl (fun _=>OZ w4 u0 w2.1 w2.2) (fun _=>rfl) rfl ?_;by_cases m2:HN x.new 0 x.mask=0
  ·rw[m2] at z2 ⊢;simp;exact h1 (by rw[← z,← z2];simp)
  ·simp[m2];exact h2 (by rw[← z,← z2];simp[m2])
 ·simp[m1];refine Ao rfl ?_;simp;exact h2 (by rw[← z];simp[m1])
theorem r8 {ws:List WE} (hl:ws.length*32≤140737488355328) (hw:∀ x,x ∈ ws→WE.wf x):∀ (m i:Nat) (last:Int) (H:Hp),i+m=ws.length→-1≤last→(i=0→last = -1)→(∀ h:0<i∧i≤ws.length,ws[i-1].at_=last) →
  (CZ last (ws.drop i)=true→∀ q H',Q (.exit 0) ⟨lk [(0,vE ws),(5,vE ws),(6,iv ws.length),(7,iv ws.length),(8,bv q)],H'⟩)→(CZ last (ws.drop i)=false→∀ H',Q .ret ⟨lk [(2,bv false)],H'⟩) →
  LoopC (cx Tryz.prog w0 I0 n0) Iq Q ⟨lk [(0,vE ws),(5,vE ws),(6,iv ws.length),(7,iv i)],H⟩:=by
 intro m;induction m with
 |zero=>
  intro i last H hi hm h0 hp h1 h2;have:i=ws.length:=by omega
  subst this;refine Ad Ai Iq.eq_1 ?_;simp;exact h1 (by simp[CZ]) _ _
 |succ m ihm=>
  intro i last H hi hm h0 hp h1 h2;have hlt:i<ws.length:=by omega
  have ed:ws.drop i=ws[i]::ws.drop (i+1):=List.drop_eq_getElem_cons hlt;have ei:=AM i;obtain⟨w1,w2,w3,w4⟩:=hw _ (A5 hlt);have next:=fun H' (hr:LI last ws[i]=true)=>ihm (i+1) ws[i].at_ H' (by omega) (by
   simp[LI] at hr;omega) (fun h=>by omega) (fun h=>rfl) (fun hh=>h1 (by rw[ed,CZ,hr,hh];rfl)) (fun hh=>h2 (by rw[ed,CZ,hr,hh];rfl))
  have bad:LI last ws[i]=false→∀ H',Q .ret ⟨lk [(2,bv false)],H'⟩:=fun hr=>h2 (by rw[ed,CZ,hr];rfl);clear h1 h2 ed ihm;generalize hx:ws[i]=x at *;have hok:LI last x = !(decide (x.at_≤last) || decide (65534<x.at_) || decide (x.mask=0) || !Fm x.old x.mask || !Fm x.new x.mask):=rfl;refine Ad Ai Iq.eq_1 ?_;by_cases hA:x.at_<0∨65535≤x.at_∨x.at_≤last∨x.mask=0
  ·have hb:LI last x=false:=by
    rw[hok];rcases hA with h | h | h | h
    ·have:x.at_≤last:=by omega
     simp[this]
    ·have:65534<x.at_:=by omega
     simp[this]
    ·simp[h]
    ·simp[h]
   by_cases i0:i=0
   ·have hl1:=h0 i0;subst i0;have:(decide (x.at_<0) || decide (65535≤x.at_) || decide (x.mask=0))=true:=by simp;omega
    simp[hx,hlt,Aa,this];exact bad hb _
   ·have i1:0<i:=by omega
    have hpi:=hp ⟨i1,by omega⟩;have em:i64.wrap ((i:Int)-1)=((i-1:Nat):Int):=Bl;have:(decide (x.at_<0) || decide (65535≤x.at_) || decide (x.at_≤last) || decide (x.mask=0))=true:=by simp;omega
    have hlt1:i-1<ws.length:=by omega
    simp[hx,hlt,i1,em,hlt1,hpi,Aa,this];exact bad hb _
  ·have c1:¬ x.at_<0:=by omega
   have c2:¬ 65535≤x.at_:=by omega
   have c3:¬ x.at_≤last:=by omega
   have c4:¬ x.mask=0:=by omega
   have c2':¬ 65534<x.at_:=by omega
   have hok':LI last x=(Fm x.old x.mask&&Fm x.new x.mask):=by rw[hok];simp[c2',c3,c4]
   have wfx:WE.wf x:=⟨w1,w2,w3,w4⟩;by_cases i0:i=0
   ·subst i0;simp[hx,hlt,Aa,c1,c2,c4];refine Di (ao wfx (by simp[Aa]) (fun hr=>?_) (fun hr=>?_))
    ·simp at ei;simp[ei];exact next _ (by rw[hok',hr])
    ·simp;exact bad (by rw[hok',hr]) _
   ·have i1:0<i:=by omega
    have hpi:=hp ⟨i1,by omega⟩;have em:i64.wrap ((i:Int)-1)=((i-1:Nat):Int):=Bl;have hlt1:i-1<ws.length:=by omega
    simp[hx,hlt,i1,em,hlt1,hpi,Aa,c1,c2,c3,c4];refine Di (ao wfx (by simp[Aa]) (fun hr=>?_) (fun hr=>?_))
    ·simp[ei];exact next _ (by rw[hok',hr])
    ·simp;exact bad (by rw[hok',hr]) _
theorem fT {ws:List WE} (hl:ws.length*32≤140737488355328) (hw:∀ x,x ∈ ws→WE.wf x):G.Spec Tryz.prog 134 [vE ws] (bv (CZ (-1) ws)):=by
 refine Ah dP (by simp) fun w0 I0=>?_;unfold RS;simp;refine r8 hl hw ws.length 0 (-1) _ (by simp) (by omega) (fun _=>rfl) (fun h=>by omega) (fun hr q H'=>?_) (fun hr H'=>?_)
 ·simp;exact Ak (by simpa using hr.symm)
 ·simp;exact Ak (by simpa using hr.symm)
abbrev Nh (e:E):Prop:=∀ d:Nat,d≤1000→G.Spec Tryz.prog 80 [eX e,iv d] (bv (Bu d e))
theorem tx {ks:List KE} {d:Nat} (hd:d≤1000) (hl:ks.length*208≤140737488355328) (ih:∀ x,x ∈ ks→Nh x.e):∀ (m i:Nat) (last:Int) (H:Hp),i+m=ks.length→-1≤last→(i=0→last = -1)→(∀ h:0<i∧i≤ks.length,ks[i-1].at_=last) →
  (DM d last (ks.drop i)=true→∀ q H',Q (.exit 0) ⟨lk [(0,so ks),(1,iv d),(7,so ks),(8,iv ks.length),(9,iv ks.length),(10,bv q)],H'⟩)→(DM d last (ks.drop i)=false→∀ H',Q .ret ⟨lk [(4,bv false)],H'⟩) →
  LoopC (cx Tryz.prog w0 I0 n0) JT Q ⟨lk [(0,so ks),(1,iv d),(7,so ks),(8,iv ks.length),(9,iv i)],H⟩:=by
 intro m;induction m with
 |zero=>
  intro i last H hi hm h0 hp h1 h2;have:i=ks.length:=by omega
  subst this;refine Ad Ai JT.eq_1 ?_;simp;exact h1 (by simp) _ _
 |succ m ihm=>
  intro i last H hi hm h0 hp h1 h2;have hlt:i<ks.length:=by omega
  have ed:ks.drop i=ks[i]::ks.drop (i+1):=List.drop_eq_getElem_cons hlt;have ei:=AM i;have ihx:=ih _ (A5 hlt) d hd;have next:=fun H' (ha:last<ks[i].at_∧ks[i].at_≤65534) (hk:¬ ks[i].e.kind=0) (hr:Bu d ks[i].e=true)=>ihm (i+1) ks[i].at_ H' (by omega) (by omega) (fun h=>by omega) (fun h=>rfl)
   (fun hh=>h1 (by rw[ed,Ex,hr,hh];simp[hk];omega)) (fun hh=>h2 (by rw[ed,Ex,hr,hh];simp))
  have bad:(ks[i].at_≤last∨65534<ks[i].at_∨ks[i].e.kind=0∨Bu d ks[i].e=false)→∀ H',Q .ret ⟨lk [(4,bv false)],H'⟩:=fun hr=>h2 (by
   rw[ed,Ex];rcases hr with h | h | h | h<;>simp[h])
  clear h1 h2 ed ihm;generalize hx:ks[i]=x at *;refine Ad Ai JT.eq_1 ?_;by_cases hA:x.at_<0∨65535≤x.at_∨x.at_≤last∨x.e.kind=0
  ·have hb:=bad (by omega);by_cases i0:i=0
   ·have hl1:=h0 i0;subst i0;have:(decide (x.at_<0) || decide (65535≤x.at_) || decide (x.e.kind=0))=true:=by simp;omega
    simp[hx,hlt,Aa,this];refine Ao rfl ?_;simp[this];exact hb _
   ·have i1:0<i:=by omega
    have hpi:=hp ⟨i1,by omega⟩;have em:i64.wrap ((i:Int)-1)=((i-1:Nat):Int):=Bl;have:(decide (x.at_<0) || decide (65535≤x.at_) || decide (x.at_≤last) || decide (x.e.kind=0))=true:=by simp;omega
    have hlt1:i-1<ks.length:=by omega
    simp[hx,hlt,i1,em,hlt1,hpi,Aa,this];refine Ao rfl ?_;simp[this];exact hb _
  ·have c1:¬ x.at_<0:=by omega
   have c2:¬ 65535≤x.at_:=by omega
   have c3:¬ x.at_≤last:=by omega
   have c4:¬ x.e.kind=0:=by omega
   by_cases i0:i=0
   ·subst i0;simp[hx,hlt,Aa,c1,c2,c4];refine Cf rfl (fun _=>ihx) (fun _=>rfl) rfl ?_;cases hr:Bu d x.e with
    |false=>simp;exact bad (.inr (.inr (.inr hr))) _
    |true=>
     simp at ei;simp[ei];exact next _ (by omega) c4 hr
   ·have i1:0<i:=by omega
    have hpi:=hp ⟨i1,by omega⟩;have em:i64.wrap ((i:Int)-1)=((i-1:Nat):Int):=Bl;have hlt1:i-1<ks.length:=by omega
    simp[hx,hlt,i1,em,hlt1,hpi,Aa,c1,c2,c3,c4];refine Cf rfl (fun _=>ihx) (fun _=>rfl) rfl ?_;cases hr:Bu d x.e with
    |false=>simp;exact bad (.inr (.inr (.inr hr))) _
    |true=>simp[ei];exact next _ (by omega) c4 hr
theorem nY {ks:List KE} {d:Nat} (hd:d≤1000) (hl:ks.length*208≤140737488355328) (ih:∀ x,x ∈ ks→Nh x.e):G.Spec Tryz.prog 135 [so ks,iv d] (bv (DM d (-1) ks)):=by
 refine Ah iQ (by simp) fun w0 I0=>?_;unfold VB;simp;refine tx hd hl ih ks.length 0 (-1) _ (by simp) (by omega) (fun _=>rfl) (fun h=>by omega) (fun hr q H'=>?_) (fun hr H'=>?_)
 ·simp;exact Ak (by simpa using hr.symm)
 ·simp;exact Ak (by simpa using hr.symm)
theorem AcR {list:Int} (hk:Bn list) {t:T} (h:Bx t):Bx (.mk list [] [t]):=wfT_iff.2 ⟨hk,by simp,by simp,by simp,fun x hx=>by simp at hx;rw[hx];exact h⟩
theorem nR {list:Int} (hk:Bn list) {t:T} (h:Bx t):G.Spec Tryz.prog 229 [iv list,tX t] (bv (Aj 64 (.mk list [] [t]))):=by
 refine Ah m5 (by simp) fun w0 I0=>?_;unfold Xu;simp;refine CT rfl ((M5 (AcR hk h)).soft (by simp[A.softL,A.soft,Hu,Gq])) rfl ?_;simp;exact Ab rfl
def MJ (list:Int) (e:E):Bool:=!(Bb list || decide (e.kind=0))&&((decide (list=8) || decide (e.kind=2)) || (decide (e.kind=1)&&decide (e.old.kind=1)&&decide (e.new.kind=1)))
set_option maxRecDepth 8000 in
theorem dv (list:Int) (e:E):G.Spec Tryz.prog 230 [iv list,eX e] (bv (MJ list e)):=by
 obtain⟨R,hR⟩:∃ R,R=MJ list e:=⟨_,rfl⟩;rw[← hR];unfold MJ at hR;refine Ah ZD (by simp) fun w0 I0=>?_;unfold P0;simp;refine Ae (J0 list) rfl ?_;cases hd:Bb list with
 |true=>simp;exact Ak (by rw[hR];simp[hd])
 |false=>
  by_cases k0:e.kind=0
  ·simp[k0];exact Ak (by rw[hR];simp[k0])
  ·by_cases l8:list=8
   ·simp[k0,l8];exact Ak (by rw[hR];simp[hd,k0,l8,Bb])
   ·by_cases k2:e.kind=2
    ·simp[l8,k2];exact Ak (by rw[hR];simp[hd,k2])
    ·by_cases k1:e.kind=1
     ·simp[l8,k1];exact Ak (by rw[hR];simp[hd,k1,l8])
     ·simp[k0,l8,k2,k1];exact Ak (by rw[hR];simp[hd,k0,k1,k2,l8])
abbrev vP (list:Int):A:=.pim [iv list]
theorem mn {list:Int} (hk:Bn list) {t:T} (h:Bx t):G.Spec Tryz.prog 228 [tX t,vP list] (bv (!Aj 64 (.mk list [] [t]))):=by
 refine Ah jN (by simp) fun w0 I0=>?_;unfold UA;simp;refine Ae (nR hk h) rfl ?_;simp;exact Ab rfl
def lH (p:T→Bool):Nat→List T→Int
 |_,[]=>-1
 |i,t::l=>if p t=true then i else lH p (i+1) l
theorem iB (p:T→Bool):∀ (l:List T) (i:Nat),decide (0≤lH p i l)=l.any p
 |[],i=>rfl
 |t::l,i=>by
  rw[lH,List.any_cons];cases h:p t with
  |true=>simp
  |false=>simp only[Bool.false_eq_true,if_false,Bool.false_or];exact iB p l (i+1)
abbrev clo (list:Int):A:=.fnc 228 [] [vP list]
theorem wW {list:Int} (hk:Bn list) {l:List T} (hl:l.length*56≤140737488355328) (hw:∀ t,t ∈ l→Bx t) {R:Int} {H:Hp}:∀ (m i:Nat),i+m=l.length→R=lH (fun t=>!Aj 64 (.mk list [] [t])) i (l.drop i) →
  (R = -1→∀ q,Q (.exit 0) ⟨lk [(0,BV l),(1,clo list),(7,iv l.length),(8,iv l.length),(9,bv q)],H⟩)→(Q .ret ⟨lk [(4,iv R)],H⟩) →
  LoopC (cx Tryz.prog w0 I0 n0) Br Q ⟨lk [(0,BV l),(1,clo list),(7,iv l.length),(8,iv i)],H⟩:=by
 intro m;induction m with
 |zero=>
  intro i hi hR h1 h2;have:i=l.length:=by omega
  subst this;refine Ad Ai Br.eq_1 ?_;simp;exact h1 (by rw[hR];simp[lH]) _
 |succ m ih=>
  intro i hi hR h1 h2;have hlt:i<l.length:=by omega
  have ed:l.drop i=l[i]::l.drop (i+1):=List.drop_eq_getElem_cons hlt;have ei:=AM i;rw[ed,lH] at hR;refine Ad Ai Br.eq_1 ?_;simp[hlt];refine Om rfl (mn hk (hw _ (A5 hlt))) rfl ?_;cases hr:Aj 64 (.mk list [] [l[i]]) with
  |false=>
   rw[if_pos (by rw[hr];rfl)] at hR;simp;rw[← hR];exact h2
  |true=>
   rw[if_neg (by rw[hr];simp)] at hR;simp[ei];exact ih (i+1) (by omega) hR h1 h2
theorem ia {list:Int} (hk:Bn list) {l:List T} (hl:l.length*56≤140737488355328) (hw:∀ t,t ∈ l→Bx t):G.Spec Tryz.prog 253 [BV l,clo list] (iv (lH (fun t=>!Aj 64 (.mk list [] [t])) 0 l)):=by
 refine Ah Gf (by simp) fun w0 I0=>?_;unfold Db;simp;refine wW hk hl hw l.length 0 (by simp) rfl (fun hR q=>?_) ?_
 ·simp;exact DY (by simpa using hR.symm)
 ·simp;exact DY (by simp)
theorem Yt {list:Int} (hk:Bn list) {l:List T} (hl:l.length*56≤140737488355328) (hw:∀ t,t ∈ l→Bx t):G.Spec Tryz.prog 227 [BV l,clo list] (bv (l.any fun t=>!Aj 64 (.mk list [] [t]))):=by
 refine Ah Fv (by simp) fun w0 I0=>?_;unfold CL;simp;refine Ae (ia hk hl hw) rfl ?_;simp;exact Ak (iB _ l 0)
theorem XW {e:E}:(Bu 1 e&&decide (e.kind=0))=XZ e:=by
 rw[Bool.eq_iff_iff,Bool.and_eq_true,decide_eq_true_eq];constructor
 ·rintro⟨h,h0⟩;obtain⟨k,o,n,ws,ks,l,os⟩:=e;have R:=rightE_iff.1 h;have h0:k=0:=h0;subst h0;obtain⟨rfl,rfl⟩:=R.one (by omega);obtain⟨rfl,rfl⟩:=R.two (by omega);obtain⟨rfl,rfl⟩:=R.three (by omega);rfl
 ·intro h;rw[YC h];refine⟨rightE_iff.2 ⟨by omega,by omega,by omega,fun _=>⟨rfl,rfl⟩,fun _=>⟨rfl,rfl⟩,fun _=>⟨rfl,rfl⟩,fun h=>by omega,rfl,by simp,fun h=>by omega,by simp,by simp[Be]⟩,rfl⟩
abbrev oL (o:OP):List A:=iv o.kind::iv o.n::BV o.l::eL o.e
theorem AdH {list:Int} (hk:Bn list) {o:OP} (h:ti o) (ih:Nh o.e) {H:Hp} (hH:H [1]=⟨1,.cells (oL o)⟩) {R:Bool} (hR:R=(decide (o.n=0)&&!o.l.isEmpty&&XZ o.e&&(o.l.all fun t=>Aj 64 (.mk list [] [t])))) :
  WPC (cx Tryz.prog w0 I0 n0) Ni (QU Tryz.prog [.tmp 6] (bv R)) ⟨lk [(3,vP list),(4,.pob [1] 1 0)],H⟩:=by
 have hll:=h.ll;rw[Ni.eq_1];have ih1:=ih 1 (by omega);rw[← XW] at hR;by_cases c1:o.n=0;rotate_left
 ·simp[hH,c1];refine Ao rfl ?_;simp[hH];refine Ao rfl ?_;simp;exact Ak (by rw[hR];simp[c1])
 by_cases c2:o.l=[]
 ·simp[hH,c1,c2];refine Ao rfl ?_;simp[hH,c2];refine Ao rfl ?_;simp;exact Ak (by rw[hR];simp[c2])
 have c2':0<o.l.length:=List.length_pos_iff.2 c2;have c2e:o.l.isEmpty=false:=by cases hh:o.l<;>simp_all
 simp[hH,c1,c2'];refine Bc rfl (fun _=>ih1) (fun _=>rfl) rfl ?_;cases hr:Bu 1 o.e with
 |false=>
  simp[hH,c1,c2'];refine Ao rfl ?_;simp;exact Ak (by rw[hR,hr];simp)
 |true=>
  by_cases c4:o.e.kind=0
  ·simp[hH,c4];refine Bc rfl (fun _=>Yt hk hll h.l) (fun _=>rfl) rfl ?_;simp;refine Ak ?_;rw[hR,hr,c1,c4,c2e];simp[List.all_eq_not_any_not]
  ·simp[hH,c4];refine Ao rfl ?_;simp;exact Ak (by rw[hR];simp[c4])
set_option maxRecDepth 8000 in
theorem vB {list:Int} (hk:2≤list∧list≤9) {o:OP} (h:ti o) (ih:Nh o.e) {d:Nat} (hd:d≤1000):G.Spec Tryz.prog 190 [iv list,oX o,iv d] (bv (Ki d list o)):=by
 have he:=wfE_iff.1 h.e;have hll:=h.ll;have hk64:Bn list:=⟨by omega,by omega⟩;obtain⟨R,hR⟩:∃ R,R=Ki d list o:=⟨_,rfl⟩;rw[← hR];rw[Ph] at hR;unfold TV at hR;refine Ah qI (by simp) fun w0 I0=>?_;unfold ZW;have stopper:(o.kind=1∨o.kind=2)→Rn (cx Tryz.prog w0 I0 90) (WPC (cx Tryz.prog w0 I0 90) Ni (QU Tryz.prog [.tmp 6] (bv R))) ⟨lk [(3,.pob [0] 1 0),(4,.pob [1] 1 0)],FA [([0],⟨1,.cells [iv list]⟩),([1],⟨1,.cells (oL o)⟩)]⟩:=fun hkk=>by
  refine Ef (nV (c:=cx Tryz.prog w0 I0 90) [[0]] 3 (vP list) (fun _ _ h=>h) ?_) (Ef (AE [(3,vP list),(4,.pob [1] 1 0)] (by simp[upd])) (Di ?_))
  ·exact o7 (cs:=[iv list]) (by simp[aw]) ⟨Ab rfl,trivial⟩ rfl
  ·simp[iW];refine AdH hk64 h ih ?_ ?_
   ·first | rfl | simp
   rw[hR,if_neg (by omega)];by_cases c1:o.n=0
   ·rw[if_neg (by omega),if_pos (by omega),if_neg (by omega)];simp[c1];cases o.l.isEmpty<;>simp[Bool.and_comm]
   ·rw[if_pos (by omega)];simp[c1]
 by_cases k0:o.kind=0
 ·rw[if_pos k0,if_neg (by omega),Bool.and_true,← XW] at hR;simp[k0];by_cases c:1≤o.n∧o.n≤1048576∧o.l=[]
  ·obtain⟨a,b,c⟩:=c;simp[a,b,c];refine Bc rfl (fun _=>ih 1 (by omega)) (fun _=>rfl) rfl ?_;simp;refine Ak ?_;rw[hR];simp[a,b,c]
  ·have hc:(decide (1≤o.n)&&decide (o.n≤1048576)&&decide (o.l=[]))=false:=by
    rw[Bool.eq_false_iff];intro e;simp at e;exact c ⟨e.1.1,e.1.2,e.2⟩
   simp[hc];refine Ao rfl ?_;simp[hc];refine Ak ?_;rw[hR];have:(decide (1≤o.n)&&decide (o.n≤1048576)&&o.l.isEmpty)=false:=by
    rw[← hc];cases o.l<;>simp
   rw[this];rfl
 by_cases k1:o.kind=1
 ·simp[k1]
  repeat rw[Bz (by decide)]
  try simp
  repeat rw[Bz (by decide)]
  try simp
  repeat rw[Bz (by decide)]
  try simp
  have:=stopper (.inl k1);unfold oL at this;rw[k1] at this;exact this
 by_cases k2:o.kind=2
 ·simp[k2]
  repeat rw[Bz (by decide)]
  try simp
  repeat rw[Bz (by decide)]
  try simp
  repeat rw[Bz (by decide)]
  try simp
  have:=stopper (.inr k2);unfold oL at this;rw[k2] at this;exact this
 by_cases k3:o.kind=3
 ·rw[if_neg k0,if_pos k3] at hR;simp[k3]
  repeat rw[Bz (by decide)]
  try simp
  repeat rw[Bz (by decide)]
  try simp
  repeat rw[Bz (by decide)]
  try simp
  have hfit:MJ list o.e=(!decide (o.e.kind=0)&&!decide (list≤7)&&RK list o):=by
   have hd7:Bb list=decide (list≤7):=by rw[Bool.eq_iff_iff];simp[Bb];omega
   unfold MJ RK;rw[hd7];cases decide (list≤7)<;>cases decide (o.e.kind=0)<;>simp[Bool.or_assoc]
  by_cases c:o.n=0∧o.l=[]
  ·obtain⟨c1,c2⟩:=c;have hR':R=(MJ list o.e&&Bu d o.e):=by
    rw[hR,if_neg (by omega),if_neg (by omega),hfit];unfold Uh;rw[c2];cases Bu d o.e<;>simp
   simp[c1,c2];refine Bc rfl (fun _=>dv list o.e) (fun _=>rfl) rfl ?_;cases hw:MJ list o.e with
   |false=>
    simp;refine Ao rfl ?_;simp;exact Ak (by rw[hR',hw];rfl)
   |true=>
    simp;refine Bc rfl (fun _=>ih d hd) (fun _=>rfl) rfl ?_;simp;exact Ak (by rw[hR',hw];simp)
  ·have hc:(decide (o.n=0)&&decide (o.l=[]))=false:=by
    rw[Bool.eq_false_iff];intro e;simp at e;exact c e
   simp[hc];refine Ao rfl ?_;simp[hc];refine Ao rfl ?_;simp[hc];refine Ak ?_;rw[hR];by_cases c1:o.n=0
   ·have c2:o.l.isEmpty=false:=by
     cases hh:o.l with
     |nil=>exact absurd ⟨c1,hh⟩ c
     |cons x l=>rfl
    unfold Uh;rw[c2];simp
   ·rw[if_pos (by omega)];rfl
 ·simp[k0,k1,k2,k3]
  repeat rw[Bz (by decide)]
  try simp
  repeat rw[Bz (by decide)]
  try simp
  repeat rw[Bz (by decide)]
  try simp
  refine Ak ?_;rw[hR,if_neg k0,if_pos (by omega)];rfl
theorem V1 (n:Int):min n 1048576=Ii n:=by unfold Ii;split<;>omega
theorem pe {Q':Exit→Sta→Prop} {o:OP} {a b z:Int} {x y i:A} {u:Nat} {H:Hp} (hH:H [1]=⟨u,.cells (oL o)⟩) (a0:0≤a) (a1:a≤1048576) (b0:0≤b) (b1:b≤1048576) (z0:0≤z) (z1:z<100000000000000)
  (h:Q' .normal ⟨lk [(4,iv (Ii (if o.kind=2 then a else a+z))),(5,iv (Ii (if o.kind=1 then b else b+z))),(10,x),(11,y),(12,i)],H⟩)
  (h':Q' .normal ⟨lk [(4,iv (Ii (if o.kind=2 then a else a+z))),(5,iv (Ii (if o.kind=1 then b else b+z))),(8,iv z),(10,x),(11,y),(12,i),(34,bv false)],H⟩) :
  WPC (cx Tryz.prog w0 I0 n0) Jk Q' ⟨lk [(4,iv a),(5,iv b),(7,.pob [1] u 0),(8,iv z),(10,x),(11,y),(12,i)],H⟩:=by
 have ea:i64.wrap (a+z)=a+z:=Bv;have eb:i64.wrap (b+z)=b+z:=Bv;have sa:Ii a=a:=by unfold Ii;rw[if_neg (by omega)]
 have sb:Ii b=b:=by unfold Ii;rw[if_neg (by omega)]
 rw[Jk.eq_1];by_cases h2:o.kind=2
 ·have h1:¬ o.kind=1:=by omega
  simp[hH,h2];rw[GM.eq_1];simp[hH,h2,eb,V1];simpa[h2,sa] using h
 ·by_cases h1:o.kind=1
  ·simp[hH,h1,ea,V1];rw[GM.eq_1];simp[hH,h1];simpa[h1,sb] using h'
  ·simp[hH,h2,ea,V1];rw[GM.eq_1];simp[hH,h1,eb,V1];simpa[h1,h2] using h
theorem Aax {os:List OP} (hl:os.length*240≤140737488355328) (ho:∀ x,x ∈ os→0≤x.n∧x.n≤1048576∧x.l.length*56≤140737488355328):∀ (m i:Nat) (a b:Int) (H:Hp),i+m=os.length→0≤a→a≤1048576→0≤b→b≤1048576 →
  (∀ q H',Q (.exit 0) ⟨lk [(4,iv (Be a b (os.drop i)).1),(5,iv (Be a b (os.drop i)).2),(10,Ur os),(11,iv os.length),(12,iv os.length),(13,bv q)],H'⟩) →
  LoopC (cx Tryz.prog w0 I0 n0) ES Q ⟨lk [(4,iv a),(5,iv b),(10,Ur os),(11,iv os.length),(12,iv i)],H⟩:=by
 intro m;induction m with
 |zero=>
  intro i a b H hi a0 a1 b0 b1 hq;have:i=os.length:=by omega
  subst this;refine Ad Ai ES.eq_1 ?_;simp;simpa[Be] using hq false H
 |succ m ih=>
  intro i a b H hi a0 a1 b0 b1 hq;have hlt:i<os.length:=by omega
  have ed:os.drop i=os[i]::os.drop (i+1):=List.drop_eq_getElem_cons hlt;have ei:=AM i;obtain⟨n1,n2,n3⟩:=ho _ (A5 hlt);rw[ed] at hq;generalize ho':os[i]=o at *;have next:∀ (a' b':Int) H',a'=Ii (if o.kind=2 then a else a+Bo o)→b'=Ii (if o.kind=1 then b else b+Bo o)→LoopC (cx Tryz.prog w0 I0 n0) ES Q ⟨lk [(4,iv a'),(5,iv b'),(10,Ur os),(11,iv os.length),(12,iv ((i+1:Nat):Int))],H'⟩:=fun a' b' H' ha hb=>by
   have h0:0≤Bo o∧Bo o<100000000000000:=by unfold Bo;split<;>omega
   have s1:=ZS (n:=if o.kind=2 then a else a+Bo o) (by split<;>omega);have s2:=ZS (n:=if o.kind=1 then b else b+Bo o) (by split<;>omega);refine ih (i+1) a' b' H' (by omega) (by omega) (by omega) (by omega) (by omega) fun q H2=>?_;have:=hq q H2;have f1:(if o.kind ≠ 2 then a+Bo o else a)=if o.kind=2 then a else a+Bo o:=by by_cases e:o.kind=2<;>simp[e]
   have f2:(if o.kind ≠ 1 then b+Bo o else b)=if o.kind=1 then b else b+Bo o:=by by_cases e:o.kind=1<;>simp[e]
   rw[Be,f1,f2,← ha,← hb] at this;exact this
  have h0:0≤Bo o∧Bo o<100000000000000:=by unfold Bo;split<;>omega
  refine Ad Ai ES.eq_1 ?_;have e1:i64.wrap (o.n+(o.l.length:Int))=o.n+o.l.length:=Bv;simp[hlt,ho',Aa,e1];refine⟨fun h3=>?_,fun h3=>?_⟩
  ·have ez:Bo o=1:=by simp[Bo,h3]
   refine pe (o:=o) (u:=(H [1]).u+1) (z:=1) (by simp[Aa]) (by omega) (by omega) (by omega) (by omega) (by omega) (by omega) ?_ ?_;all_goals
    simp[ei];rw[ez] at next
    exact next _ _ _ rfl rfl
  ·have ez:Bo o=o.n+o.l.length:=by simp[Bo,h3]
   rw[← ez];refine pe (o:=o) (u:=(H [1]).u+1) (z:=Bo o) (by simp[Aa]) (by omega) (by omega) (by omega) (by omega) (by omega) (by omega) ?_ ?_;all_goals
    simp[ei];exact next _ _ _ rfl rfl
theorem Zg {e:E} (hl:e.ops.length*240≤140737488355328) (ho:∀ x,x ∈ e.ops→0≤x.n∧x.n≤1048576∧x.l.length*56≤140737488355328):G.Spec Tryz.prog 191 [eX e] (.tup [iv (Be 0 0 e.ops).1,iv (Be 0 0 e.ops).2]):=by
 refine Ah W8 (by simp) fun w0 I0=>?_;unfold NQ;simp;refine Aax (os:=e.ops) hl ho e.ops.length 0 0 0 _ (by omega) (by omega) (by omega) (by omega) (by omega) fun q H'=>?_;simp;exact Ab rfl
theorem AaD {e:E} {d:Nat} (hd:d≤1000) (hk:2≤e.list∧e.list≤9) (hl:e.ops.length*240≤140737488355328) (hw:∀ x,x ∈ e.ops→ti x) (ih:∀ x,x ∈ e.ops→Nh x.e):∀ (m i:Nat) (H:Hp),i+m=e.ops.length→H [0]=⟨1,.cells (eL e)⟩ →
  (Fa d e.list (e.ops.drop i)=true→∀ q H',H' [0]=⟨1,.cells (eL e)⟩→Q (.exit 0) ⟨lk [(1,iv d),(2,.pob [0] 1 0),(10,Ur e.ops),(11,iv e.ops.length),(12,iv e.ops.length),(13,bv q)],H'⟩)→(Fa d e.list (e.ops.drop i)=false→∀ H',Q .ret ⟨lk [(4,bv false)],H'⟩) →
  LoopC (cx Tryz.prog w0 I0 n0) KR Q ⟨lk [(1,iv d),(2,.pob [0] 1 0),(10,Ur e.ops),(11,iv e.ops.length),(12,iv i)],H⟩:=by
 intro m;induction m with
 |zero=>
  intro i H hi hA h1 h2;have:i=e.ops.length:=by omega
  subst this;refine Ad Ai KR.eq_1 ?_;simp;exact h1 (by simp) _ _ hA
 |succ m ihm=>
  intro i H hi hA h1 h2;have hlt:i<e.ops.length:=by omega
  have ed:e.ops.drop i=e.ops[i]::e.ops.drop (i+1):=List.drop_eq_getElem_cons hlt;have ei:=AM i;have hop:=vB hk (hw _ (A5 hlt)) (ih _ (A5 hlt)) hd;rw[ed,dk] at h1 h2;refine Ad Ai KR.eq_1 ?_;simp[hA,hlt,Aa];refine Ae hop rfl ?_;cases hr:Ki d e.list e.ops[i] with
  |false=>
   simp;exact h2 (by simp[hr]) _
  |true=>
   simp[ei];exact ihm (i+1) _ (by omega) (by simp[Aa,hA]) (fun hh=>h1 (by simp[hr,hh])) (fun hh=>h2 (by simp[hh]))
theorem qQ {e:E} (hw:WfE e) {d:Nat} (hd:d≤1000) (hk:2≤e.list∧e.list≤9) (ih:∀ x,x ∈ e.ops→Nh x.e):G.Spec Tryz.prog 136 [eX e,iv d] (bv (Fa d e.list e.ops&&(decide ((Be 0 0 e.ops).1<1048576)&&decide ((Be 0 0 e.ops).2<1048576)))):=by
 refine Ah kF (by simp) fun w0 I0=>?_;unfold WC;simp;refine AaD hd hk hw.ol hw.os ih e.ops.length 0 _ (by omega) (by simp) (fun hr q H' hA=>?_) (fun hr H'=>?_)
 ·simp only[List.drop_zero] at hr;simp[hA];refine Ae (Zg hw.ol (fun x hx=>⟨(Agk (rightOs_all.1 hr x hx)).1,(Agk (rightOs_all.1 hr x hx)).2,(hw.os x hx).ll⟩)) rfl ?_;simp;refine Ak ?_;rw[hr];simp
 ·simp only[List.drop_zero] at hr;simp;exact Ak (by rw[hr];rfl)
set_option maxRecDepth 10000 in
theorem lX:∀ (e:E),PA e→Nh e:=by
 refine E.ind fun k o nn ws ks l os ihk iho hw d hd=>?_;have h:=wfE_iff.1 hw;have hb:=kY h;obtain⟨R,hR⟩:∃ R,R=Bu d (.mk k o nn ws ks l os):=⟨_,rfl⟩;rw[← hR];rw[ZM,Va] at hR;have eb:pw (.mk k o nn ws ks l os)=Sl k o nn ws.length ks.length l os.length:=rfl;rw[eb] at hb;have ed:1≤d→i64.wrap ((d:Int)-1)=((d-1:Nat):Int):=fun h=>by rw[Av (by omega) (by omega)];omega
 refine Ah cw (by simp) fun w0 I0=>?_;unfold SB;simp;refine Ae hb rfl ?_;generalize hB:Sl k o nn ws.length ks.length l os.length=B at hR;cases B with
 |false=>
  simp;refine Ak ?_;rw[hR];simp
 |true=>
  by_cases hd0:d=0
  ·subst hd0;simp;refine Ak ?_;rw[hR];simp
  have ed':=ed (by omega);have hh:=Va (d:=d) (k:=k) (o:=o) (n:=nn) (nw:=ws.length) (nk:=ks.length) (l:=l) (no:=os.length);rw[hB] at hh;simp only[Bool.and_true] at hR hh;by_cases kr:k<0∨3<k
  ·have k0:¬ k=0:=by omega
   have k1:¬ k=1:=by omega
   have k2:¬ k=2:=by omega
   have k3:¬ k=3:=by omega
   simp[hd0,k0,k1,k2,k3];refine Ak ?_;rw[hR,if_pos];simp;omega
  have hh1:NG d k o nn ws.length ks.length l os.length=true:=by
   rw[hh];simp;omega
  obtain⟨_,k0,k3,c1,c2,c3⟩:=headOk_iff.1 hh1;rw[← hh,if_neg (by rw[hh1];simp)] at hR;have hk:k=0∨k=1∨k=2∨k=3:=by omega
  rcases hk with rfl | rfl | rfl | rfl
  ·obtain⟨w0',s0⟩:=c2 (by omega);obtain⟨l0,o0⟩:=c3 (by omega);obtain rfl:=List.eq_nil_of_length_eq_zero w0';obtain rfl:=List.eq_nil_of_length_eq_zero s0;obtain rfl:=List.eq_nil_of_length_eq_zero o0;simp[hd0];refine Ak ?_;rw[hR];simp[CZ,Be]
  ·simp[hd0];refine Ae (Uz h.o) rfl ?_;simp;refine Bc rfl (fun _=>Uz h.n) (fun e=>by simp[e]) rfl ?_;simp;refine Ak ?_;rw[hR];simp;cases Aj 64 o<;>cases Aj 64 nn<;>simp<;>rfl
  ·obtain⟨l0,o0⟩:=c3 (by omega);obtain rfl:=List.eq_nil_of_length_eq_zero o0;simp[hd0];refine Ae (fT h.wl h.w) rfl ?_;simp[ed'];refine Bc rfl (fun _=>nY (d:=d-1) (by omega) h.kl (fun x hx=>ihk x hx (h.ks x hx).2)) (fun e=>by simp[e]) rfl ?_;simp;refine Ak ?_;rw[hR];cases CZ (-1) ws<;>cases DM (d-1) (-1) ks<;>simp[Be]
  ·obtain⟨w0',s0⟩:=c2 (by omega);obtain rfl:=List.eq_nil_of_length_eq_zero w0';obtain rfl:=List.eq_nil_of_length_eq_zero s0;simp[hd0];refine Ae (Qo l) rfl ?_;by_cases hl:2≤l∧l≤9
   ·have hl':¬ (l<2∨l > 9):=by omega
    simp[hl.1,hl.2,ed'];refine Bc rfl (fun _=>qQ (e:=.mk 3 o nn [] [] l os) (d:=d-1) h (by omega) hl (fun x hx=>iho x hx (h.os x hx).e)) (fun e=>rfl) rfl ?_;simp;refine Ak ?_;rw[hR];simp[CZ,hl'];cases Fa (d-1) l os<;>simp<;>rfl
   ·have hl':l<2∨l > 9:=by omega
    have hf:(decide (2≤l)&&decide (l≤9))=false:=by rw[Bool.eq_false_iff];intro e;simp at e;omega
    simp[hf];refine Ao rfl ?_;simp;refine Ak ?_;rw[hR];simp[CZ,hl']
theorem Sa {e:E} (h:PA e):G.Spec Tryz.prog 40 [eX e] (bv (Bu 64 e)):=by
 refine Ah df (by simp) fun w0 I0=>?_;unfold Sy;simp;refine Ae (lX e h 64 (by omega)) rfl ?_;simp;exact Ab rfl
mutual
def T7:Int→E→Prop
 |N,.mk _ _ _ ws ks _ os=>ws.length≤N∧ks.length≤N∧os.length≤N∧jG N ks∧gG N os
def jG:Int→List KE→Prop
 |_,[]=>True
 |N,.mk _ e::l=>T7 N e∧jG N l
def gG:Int→List OP→Prop
 |_,[]=>True
 |N,.mk _ _ _ e::l=>T7 N e∧gG N l
end
theorem smKs_all {N:Int}:∀ {l:List KE},jG N l ↔ ∀ x,x ∈ l→T7 N x.e
 |[]=>by simp[jG]
 |.mk a e::l=>by simp[jG,smKs_all (l:=l)]
theorem smOs_all {N:Int}:∀ {l:List OP},gG N l ↔ ∀ x,x ∈ l→T7 N x.e
 |[]=>by simp[gG]
 |.mk k n t e::l=>by simp[gG,smOs_all (l:=l)]
theorem N8 {a b:Int} {k:Nat} (a0:0≤a) (a1:a<2 ^ k) (hk:k=8∨k=32) (b0:0≤b) (b1:b<4294967296):G.Spec Tryz.prog 82 [iv a,iv b,iv k] (uv (a+2 ^ k*b)):=by
 refine Ah XR (by simp) fun w0 I0=>?_;unfold NF;have hb64:u64.bits=64:=rfl;rcases hk with rfl | rfl
 ·have e1:u64.wrap a=a:=Bw (by omega) (by omega);have e2:u64.wrap b=b:=Bw (by omega) (by omega);have e3:u64.wrap (b*256)=b*256:=Bw (by omega) (by omega);have e4:bits .or .u64 a (b*256)=a+b*256:=K5 8 a0 a1 (by omega) (by omega) (by omega) (by omega);have e5:u64.wrap (a+b*256)=a+b*256:=Bw (by omega) (by omega);simp[e1,e2,hb64,e3,e4,e5];exact DY (by omega)
 ·have e1:u64.wrap a=a:=Bw (by omega) (by omega);have e2:u64.wrap b=b:=Bw (by omega) (by omega);have e3:u64.wrap (b*4294967296)=b*4294967296:=Bw (by omega) (by omega);have e4:bits .or .u64 a (b*4294967296)=a+b*4294967296:=K5 32 a0 a1 (by omega) (by omega) (by omega) (by omega);have e5:u64.wrap (a+b*4294967296)=a+b*4294967296:=Bw (by omega) (by omega);simp[e1,e2,hb64,e3,e4,e5];exact DY (by omega)
theorem Cs (W:List Int) (l:List T):G.Spec Tryz.prog 81 [Ff W,BV l] (tX (.mk 1 W l)):=by
 refine Ah R7 (by simp) fun w0 I0=>?_;unfold KZ;simp;exact BT (by simp;exact⟨Ab rfl,Ab rfl,Ab rfl⟩)
theorem Un (l:List T):G.Spec Tryz.prog 83 [BV l] (tX (Es l)):=by
 refine Ah gI (by simp) fun w0 I0=>?_;unfold UT;cases l with
 |nil=>simp;exact ND
 |cons t l=>
  simp;refine⟨fun h=>absurd h (by omega),fun _=>?_⟩;exact BT (by simp;exact⟨Ab rfl,Au,AW rfl (by simp)⟩)
theorem Kb {w:Int} (h:BI w) {f b:Nat} (hb:b=8∨b=32∨b=40) (hf:f=0∨f=8∨f=32):G.Spec Tryz.prog 187 [uv w,iv f,iv b] (iv (w / 2 ^ f % 2 ^ b)):=by
 refine Ah cz (by simp) fun w0 I0=>?_;unfold Rh;obtain⟨h0,h1⟩:=h;have hb64:u64.bits=64:=rfl;have d0:0≤w / 2 ^ f∧w / 2 ^ f<18446744073709551616:=by
  have hp:(0:Int)<2 ^ f:=Int.pow_pos (by decide);exact⟨Int.ediv_nonneg h0 (by omega),Int.lt_of_le_of_lt (Int.ediv_le_self _ h0) h1⟩
 have em:u64.wrap (u64.wrap (2 ^ b)-1)=2 ^ b-1:=by rcases hb with rfl | rfl | rfl<;>decide
 have ef:min f 64=f:=by omega
 have eb:min b 64=b:=by omega
 have e1:bits .and .u64 (w / 2 ^ f) (2 ^ b-1)=w / 2 ^ f % 2 ^ b:=by
  have:=Mf b (by omega) d0.1 d0.2;rw[this]
 have hp:(0:Int)<2 ^ b:=Int.pow_pos (by decide);have m0:=Int.emod_nonneg (w / 2 ^ f) (by omega:(2:Int) ^ b ≠ 0);have m1:=Int.emod_lt_of_pos (w / 2 ^ f) hp;have hle:(2:Int) ^ b≤1099511627776:=by rcases hb with rfl | rfl | rfl<;>decide
 have e2:u64.wrap (w / 2 ^ f % 2 ^ b)=w / 2 ^ f % 2 ^ b:=Bw m0 (by omega);have e3:i64.wrap (w / 2 ^ f % 2 ^ b)=w / 2 ^ f % 2 ^ b:=Bv;simp[hb64,ef,eb,em,e1,e2,e3];exact Ab rfl
def Nd (e:E):Prop:=G.Spec Tryz.prog 41 [eX e] (tX (AU e))
theorem qz {list:Int} {d:Nat} {o:OP} (O:XE d list o) (ih:o.kind=3→Nd o.e):G.Spec Tryz.prog 84 [iv list,oX o] (tX (Fg list o)):=by
 have hn:0≤o.n∧o.n≤1048576:=by
  by_cases q:o.kind=0
  ·have:=O.keep q;omega
  ·have:=O.nn q;omega
 have k0:=O.k0;have k3:=O.k3;have hnum:=N8 (a:=o.kind) (b:=o.n) (k:=8) (by omega) (by show o.kind<256;omega) (.inl rfl) hn.1 (by omega);have hu:Jh (o.kind+256*o.n)=o.kind+2 ^ 8*o.n:=Lj (by omega) (by omega);have ht:Fg list o = .mk 1 [o.kind+2 ^ 8*o.n] (if o.kind=3 then [AU o.e] else if o.kind > 0 then [.mk list [] o.l] else []):=by rw[← hu];rfl
 rw[ht];generalize hN:o.kind+2 ^ 8*o.n=N at hnum ⊢;refine Ah kT (by simp) fun w0 I0=>?_;unfold XC;simp;refine Ae hnum rfl ?_;have hk:o.kind=0∨o.kind=1∨o.kind=2∨o.kind=3:=by omega
 rcases hk with h | h | h | h
 ·simp[h];rw[IX.eq_1];simp;refine CT rfl ((Cs [N] []).soft (by simp[A.softL,A.soft,Hu])) rfl ?_;simp;exact Ab rfl
 ·simp[h];rw[IX.eq_1];simp;refine CT rfl ((Cs [N] [.mk list [] o.l]).soft (by simp[A.softL,A.soft,Gq])) rfl ?_;simp;exact Ab rfl
 ·simp[h];rw[IX.eq_1];simp;refine CT rfl ((Cs [N] [.mk list [] o.l]).soft (by simp[A.softL,A.soft,Gq])) rfl ?_;simp;exact Ab rfl
 ·simp[h];rw[IX.eq_1];simp;refine Ae (ih h) rfl ?_;simp;refine CT rfl ((Cs [N] [AU o.e]).soft (by simp[A.softL,A.soft,Hu,Gq])) rfl ?_;simp;exact Ab rfl
theorem xm {ws:List WE} (hl:ws.length≤1048575) (hw:∀ x,x ∈ ws→0≤x.at_∧x.at_≤65534∧0≤x.mask∧x.mask<256) {v0 v1 v5:VOb}:∀ (m i u:Nat) (H:Hp),i+m=ws.length→H [0]=v0→H [1]=v1→H [5]=v5→H [3]=⟨u,.arr 3 ((ws.take i).map (tA ∘ G8))⟩ →
  (∀ q u' H',H' [0]=v0→H' [1]=v1→H' [5]=v5→H' [3]=⟨u',.arr 3 (ws.map (tA ∘ G8))⟩→Q (.exit 1) ⟨lk [(1,.pob [0] 1 0),(2,.pob [1] 1 0),(3,.osl [3] u' 3 0 ws.length),(4,.sl true []),(26,vE ws),(27,iv ws.length),(28,iv ws.length),(29,bv q)],H'⟩) →
  LoopC (cx Tryz.prog w0 I0 n0) Iy Q ⟨lk [(1,.pob [0] 1 0),(2,.pob [1] 1 0),(3,.osl [3] u 3 0 i),(4,.sl true []),(26,vE ws),(27,iv ws.length),(28,iv i)],H⟩:=by
 intro m;induction m with
 |zero=>
  intro i u H hi h0 h1 h5 h3 hq;have:i=ws.length:=by omega
  subst this;refine Ad Ai Iy.eq_1 ?_;simp;exact hq _ u H h0 h1 h5 (by rw[h3];simp)
 |succ m ihm=>
  intro i u H hi h0 h1 h5 h3 hq;have hlt:i<ws.length:=by omega
  have ei:=AM i;obtain⟨a0,a1,m0,m1⟩:=hw _ (A5 hlt);have hrow:=Hz (f:=tA ∘ G8) hlt rfl;simp only[Function.comp,G8] at hrow;generalize hx:ws[i]=x at *;have hnum:=N8 (a:=x.at_) (b:=x.mask) (k:=32) (by omega) (by show x.at_<4294967296;omega) (.inr rfl) m0 (by omega);have em:i64.wrap x.mask=x.mask:=Bv;have hu:Jh (x.at_+4294967296*x.mask)=x.at_+2 ^ 32*x.mask:=Lj (by omega) (by omega);rw[hu] at hrow;generalize hN:x.at_+2 ^ 32*x.mask=N at hnum hrow;refine Ad Ai Iy.eq_1 ?_;simp[hlt,hx,Aa,em];refine Ae hnum rfl ?_;simp[Aa];refine CT rfl ((Cs [N,x.old,x.new] []).soft (by simp[A.softL,A.soft,Hu])) rfl ?_;simp[Aa,h3];refine⟨⟨by omega,by omega⟩,?_⟩;rw[ei];refine ihm (i+1) (u+1) _ (by omega) (by simp[Aa,h0]) (by simp[Aa,h1]) (by simp[Aa,h5]) ?_ hq;simp only[Aa,if_true];refine congrArg (fun r=>(⟨u+1,.arr 3 r⟩:VOb)) ?_;rw[← hrow];simp
theorem tH {ks:List KE} (hl:ks.length≤1048575) (hw:∀ x,x ∈ ks→0≤x.at_∧x.at_≤65534) (ih:∀ x,x ∈ ks→Nd x.e) {v1 v3:VOb} {a3:A}:∀ (m i u:Nat) (H:Hp),i+m=ks.length→H [1]=v1→H [3]=v3→H [5]=⟨u,.arr 3 ((ks.take i).map (tA ∘ Ja))⟩ →
  (∀ q u' H',H' [1]=v1→H' [3]=v3→H' [5]=⟨u',.arr 3 (ks.map (tA ∘ Ja))⟩→Q (.exit 3) ⟨lk [(2,.pob [1] 1 0),(3,a3),(4,.osl [5] u' 3 0 ks.length),(49,so ks),(50,iv ks.length),(51,iv ks.length),(52,bv q)],H'⟩) →
  LoopC (cx Tryz.prog w0 I0 n0) Ir Q ⟨lk [(2,.pob [1] 1 0),(3,a3),(4,.osl [5] u 3 0 i),(49,so ks),(50,iv ks.length),(51,iv i)],H⟩:=by
 intro m;induction m with
 |zero=>
  intro i u H hi h1 h3 h5 hq;have:i=ks.length:=by omega
  subst this;refine Ad Ai Ir.eq_1 ?_;simp;exact hq _ u H h1 h3 (by rw[h5];simp)
 |succ m ihm=>
  intro i u H hi h1 h3 h5 hq;have hlt:i<ks.length:=by omega
  have ei:=AM i;obtain⟨a0,a1⟩:=hw _ (A5 hlt);have ihx:=ih _ (A5 hlt);unfold Nd at ihx;have hrow:=Hz (f:=tA ∘ Ja) hlt rfl;simp only[Function.comp,Ja] at hrow;generalize hx:ks[i]=x at *;have eu:u64.wrap x.at_=x.at_:=Bw (by omega) (by omega);rw[Lj a0 (by omega)] at hrow;refine Ad Ai Ir.eq_1 ?_;simp[hlt,hx,Aa,eu];refine Ae ihx rfl ?_;simp[Aa];refine CT rfl ((Cs [x.at_] [AU x.e]).soft (by simp[A.softL,A.soft,Hu,Gq])) rfl ?_;simp[Aa,h5];refine⟨⟨by omega,by omega⟩,?_⟩;rw[ei];refine ihm (i+1) (u+1) _ (by omega) (by simp[Aa,h1]) (by simp[Aa,h3]) ?_ hq;simp only[Aa,if_true];refine congrArg (fun r=>(⟨u+1,.arr 3 r⟩:VOb)) ?_;rw[← hrow];simp
theorem um {e:E} {d:Nat} (hl:e.ops.length≤1048575) (hw:∀ x,x ∈ e.ops→XE d e.list x) (ih:∀ x,x ∈ e.ops→x.kind=3→Nd x.e) {v1:VOb}:∀ (m i u:Nat) (H:Hp),i+m=e.ops.length→H [0]=⟨1,.cells (eL e)⟩→H [1]=v1→H [7]=⟨u,.arr 3 ((e.ops.take i).map (tA ∘ Fg e.list))⟩ →
  (∀ q u' H',H' [0]=⟨1,.cells (eL e)⟩→H' [1]=v1→H' [7]=⟨u',.arr 3 (e.ops.map (tA ∘ Fg e.list))⟩→Q (.exit 5) ⟨lk [(1,.pob [0] 1 0),(2,.pob [1] 1 0),(9,.osl [7] u' 3 0 e.ops.length),(78,Ur e.ops),(79,iv e.ops.length),(80,iv e.ops.length),(81,bv q)],H'⟩) →
  LoopC (cx Tryz.prog w0 I0 n0) Ip Q ⟨lk [(1,.pob [0] 1 0),(2,.pob [1] 1 0),(9,.osl [7] u 3 0 i),(78,Ur e.ops),(79,iv e.ops.length),(80,iv i)],H⟩:=by
 intro m;induction m with
 |zero=>
  intro i u H hi h0 h1 h7 hq;have:i=e.ops.length:=by omega
  subst this;refine Ad Ai Ip.eq_1 ?_;simp;exact hq _ u H h0 h1 (by rw[h7];simp)
 |succ m ihm=>
  intro i u H hi h0 h1 h7 hq;have hlt:i<e.ops.length:=by omega
  have ei:=AM i;have hop:=qz (hw _ (A5 hlt)) (ih _ (A5 hlt));have hrow:=Hz (f:=tA ∘ Fg e.list) hlt rfl;simp only[Function.comp] at hrow;refine Ad Ai Ip.eq_1 ?_;simp[hlt,h0,Aa];refine Ae hop rfl ?_;simp[Aa,h7];refine⟨⟨by omega,by omega⟩,?_⟩;rw[ei];refine ihm (i+1) (u+1) _ (by omega) (by simp[Aa,h0]) (by simp[Aa,h1]) ?_ hq;simp only[Aa,if_true];refine congrArg (fun r=>(⟨u+1,.arr 3 r⟩:VOb)) ?_;rw[← hrow];simp
theorem Uk {H:Hp} {o:Nm} {u n:Nat} {α:Type} {l:List α} {f:α→T} (h:H o=⟨u,.arr 3 (l.map (tA ∘ f))⟩) (hn:n=l.length):K6 H (.osl o u 3 0 n) (BV (l.map f)):=by
 have:=Cu (H:=H) (o:=o) (u:=u) (n:=n) (sz:=3) (l:=l) (f:=tA ∘ f) (by simp[h]) hn (fun x=>by simp);rw[← List.map_map] at this;exact this
theorem iP {α:Type} (f:α→T) (l:List α):A.softL (l.map (tA ∘ f))=l.map (tA ∘ f):=by rw[← List.map_map];exact Gq _
set_option maxRecDepth 10000 in
theorem Z3:∀ (e:E),PA e→T7 1048575 e→(∃ d,Bu d e=true)→Nd e:=by
 refine E.ind fun k o nn ws ks l os ihk iho hwf hs hr=>?_;obtain⟨d,hr⟩:=hr;have hw:=wfE_iff.1 hwf;have R:=rightE_iff.1 hr;rw[T7,smKs_all,smOs_all] at hs;obtain⟨s1,s2,s3,s4,s5⟩:=hs;have hks:=fun x hx=>JE (by omega) R.kok x hx;have hos:=fun x hx=>Pa (rightOs_all.1 R.ook x hx);have ihk':∀ x,x ∈ ks→Nd x.e:=fun x hx=>ihk x hx (hw.ks x hx).2 (s4 x hx) ⟨_,(hks x hx).2.2.2⟩;have iho':∀ x,x ∈ os→x.kind=3→Nd x.e:=fun x hx h3=>iho x hx (hw.os x hx).e (s5 x hx) ⟨_,((hos x hx).down h3).2.2.2.1⟩;have hww:∀ x,x ∈ ws→0≤x.at_∧x.at_≤65534∧0≤x.mask∧x.mask<256:=fun x hx=>by
  have h1:=QP (by omega) R.wok x hx;have h2:=(hw.w x hx).2.1;omega
 unfold Nd;have hk:k=0∨k=1∨k=2∨k=3:=by have:=R.k0;have:=R.k3;omega
 refine Ah eD (by simp) fun w0 I0=>?_;unfold Sk;rw[Dh];rcases hk with rfl | rfl | rfl | rfl
 ·simp;exact ND
 ·obtain⟨rfl,rfl⟩:=R.three (by omega);simp;refine CT rfl ((Cs [1] [o,nn]).soft (by simp[A.softL,A.soft,Hu,Gq])) rfl ?_;simp;refine AW rfl ?_;simp[Jh]
 ·obtain⟨rfl,rfl⟩:=R.three (by omega);simp;refine LoopC.le (FC 3 [3] 3 (by simp)) ?_;refine LoopC.le (AE [(1,.pob [0] 1 0),(2,.pob [1] 1 0),(3,.osl [3] 1 3 0 0),(4,.sl true []),(26,vE ws),(27,iv ws.length),(28,iv 0)] (by simp[upd])) ?_;refine xm (by omega) hww ws.length 0 1 _ (by simp) (by simp;rfl) (by simp;rfl) (by simp;rfl) (by simp) fun q u' H' a0 a1 a5 a3=>?_;simp[a0];refine LoopC.le (FC 4 [5] 3 (by simp)) ?_;refine LoopC.le (AE [(2,.pob [1] 1 0),(3,.osl [3] u' 3 0 ws.length),(4,.osl [5] 1 3 0 0),(49,so ks),(50,iv ks.length),(51,iv 0)] (by simp[upd,a5])) ?_;refine tH (by omega) (fun x hx=>by have:=hks x hx;omega) ihk' ks.length 0 _ _ (by simp) (by simp[Aa,a1];rfl) (by simp[Aa,a3];rfl) (by simp[Aa,a5]) fun q2 u2 H2 b1 b3 b5=>?_;simp;refine Ef (H5 (d:=[3]) (fun _ h=>h) 3 (BV (ws.map G8)) (fun H1 hH=>Uk (by rw[hH,b3]) rfl)) ?_;refine Ef (H5 (d:=[5]) (fun _ h=>h) 4 (BV (ks.map Ja)) (fun H1 hH=>Uk (by rw[hH];simp[Aa,b5]) rfl)) (Di ?_);simp;refine Ae (Un _) rfl ?_;simp;refine Ae (Un _) rfl ?_;simp;refine CT rfl ((Cs [2] [Es (ws.map G8),Es (ks.map Ja)]).soft (by simp[A.softL,A.soft,Hu,Gq,iP])) rfl ?_;simp[Aa,b1];refine AW rfl ?_;simp[Jh,FE]
 ·obtain⟨l2,l9⟩:=R.lst rfl;have hnum:=N8 (a:=3) (b:=l) (k:=8) (by omega) (by decide) (.inl rfl) (by omega) (by omega);have hu:Jh (3+256*l)=3+2 ^ 8*l:=Lj (by omega) (by omega);rw[hu];generalize hN:3+2 ^ 8*l=N at hnum ⊢;simp;refine LoopC.le (FC 9 [7] 3 (by simp)) ?_;refine LoopC.le (AE [(1,.pob [0] 1 0),(2,.pob [1] 1 0),(9,.osl [7] 1 3 0 0),(78,Ur os),(79,iv os.length),(80,iv 0)] (by simp[upd])) ?_;refine um (e:=.mk 3 o nn ws ks l os) (d:=d-1) (by simp;omega) hos iho' os.length 0 1 _ (by simp) (by simp) (by simp;rfl) (by simp) fun q u' H' a0 a1 a7=>?_;simp;refine Ef (H5 (d:=[7]) (fun _ h=>h) 9 (BV (os.map (Fg l))) (fun H1 hH=>Uk (by rw[hH,a7];rfl) rfl)) (Di ?_);simp[Aa,a0];refine Ae hnum rfl ?_;simp;refine Ae (Un _) rfl ?_;simp;refine CT rfl ((Cs [N] [Es (os.map (Fg l))]).soft (by simp[A.softL,A.soft,Hu,Gq,iP])) rfl ?_;simp[Aa,a1];refine AW rfl ?_;simp[FH]
theorem Mx {t:T} (h:Bx t) (i:Nat):BI (Gk t i):=by
 unfold Gk;rw[List.getD_eq_getElem?_getD];cases e:t.words[i]? with
 |none=>exact⟨by simp,by simp⟩
 |some x=>exact(wfT_iff.1 h).w x (List.mem_of_getElem? e)
theorem Yg {t:T} (h:Bx t) (i:Nat):Bx (HL t i):=by
 unfold HL;rw[List.getD_eq_getElem?_getD];cases e:t.kids[i]? with
 |none=>exact wfT_iff.2 ⟨by simp[Bn],by simp,by simp,by simp,by simp⟩
 |some x=>exact(wfT_iff.1 h).ks x (List.mem_of_getElem? e)
abbrev te (k list:Int) (W K O:A):List A:=[iv k,iv 0,.sl true [],.sl true [],iv 0,.sl true [],.sl true [],W,K,iv list,O]
theorem lR {w:Int} (h:BI w):G.Spec Tryz.prog 187 [uv w,iv 0,iv 8] (iv (w % 256)):=by
 have:=Kb h (f:=0) (b:=8) (by omega) (by omega);simpa using this
theorem vz {w:Int} (h:BI w):G.Spec Tryz.prog 187 [uv w,iv 8,iv 8] (iv (w / 256 % 256)):=by
 have:=Kb h (f:=8) (b:=8) (by omega) (by omega);simpa using this
theorem pI {w:Int} (h:BI w):G.Spec Tryz.prog 187 [uv w,iv 0,iv 32] (iv (w % 4294967296)):=by
 have:=Kb h (f:=0) (b:=32) (by omega) (by omega);simpa using this
theorem zc {w:Int} (h:BI w):G.Spec Tryz.prog 187 [uv w,iv 32,iv 8] (iv (w / 4294967296 % 256)):=by
 have:=Kb h (f:=32) (b:=8) (by omega) (by omega);simpa using this
theorem za {w:Int} (h:BI w):G.Spec Tryz.prog 187 [uv w,iv 8,iv 40] (iv (w / 256 % 1099511627776)):=by
 have:=Kb h (f:=8) (b:=40) (by omega) (by omega);simpa using this
def H6 (t:T):Prop:=G.Spec Tryz.prog 131 [tX t] (eX (Er t))
theorem I6 (t:T) (i:Nat):G.Spec Tryz.prog 115 [tX t,iv i] (uv (Gk t i)):=Gz t i
theorem Mv (t:T) (i:Nat):G.Spec Tryz.prog 116 [tX t,iv i] (tX (HL t i)):=Eu t i
theorem mc {x:T} (hw:Bx x) (ih:H6 (HL x 0)):G.Spec Tryz.prog 188 [tX x] (oX (MT x)):=by
 have hd0:=Mx hw 0;unfold H6 at ih;refine Ah cu (by simp) fun w0 I0=>?_;unfold RR MT;simp;refine Ae (I6 x 0) rfl ?_;simp;refine Ae (lR hd0) rfl ?_;simp;refine Ae (za hd0) rfl ?_;by_cases k3:Gk x 0 % 256=3
 ·have n12:¬ (Gk x 0 % 256=1∨Gk x 0 % 256=2):=by omega
  simp[k3];rw[Gl.eq_1];simp;refine Ae (Mv x 0) rfl ?_;simp;refine Ae ih rfl ?_;simp;refine BT ?_;simp
  repeat' (first | exact Au | exact Ab rfl | apply And.intro)
 ·by_cases k1:Gk x 0 % 256=1
  ·simp[k1];rw[Gl.eq_1];simp;refine Ae (Mv x 0) rfl ?_;simp;refine BT ?_;simp
   repeat' (first | exact Au | exact Ab rfl | apply And.intro)
  ·by_cases k2:Gk x 0 % 256=2
   ·simp[k2];rw[Gl.eq_1];simp;refine Ae (Mv x 0) rfl ?_;simp;refine BT ?_;simp
    repeat' (first | exact Au | exact Ab rfl | apply And.intro)
   ·simp[k1,k2,k3];rw[Gl.eq_1];simp[k3];refine BT ?_;simp
    repeat' (first | exact Au | exact Ab rfl | apply And.intro)
theorem AaR {a:T} (hl:a.kids.length*56≤140737488355328) (hw:∀ x,x ∈ a.kids→Bx x) {list:Int} {v1 v4 v8:VOb}:∀ (m i:Nat) (H:Hp),i+m=a.kids.length→H [8]=v8→H [1]=v1→H [2]=⟨1,.cells (te 2 list (.osl [6] (i+1) 4 0 i) (.sl true []) (.sl true []))⟩→H [4]=v4→H [6]=⟨i+1,.arr 4 ((a.kids.take i).map (wA ∘ HU))⟩ →
  (∀ q H',H' [8]=v8→H' [1]=v1→H' [2]=⟨1,.cells (te 2 list (.osl [6] (a.kids.length+1) 4 0 a.kids.length) (.sl true []) (.sl true []))⟩→H' [4]=v4→H' [6]=⟨a.kids.length+1,.arr 4 (a.kids.map (wA ∘ HU))⟩ →
   Q (.exit 1) ⟨lk [(2,.pob [1] 1 0),(4,.pob [2] 1 0),(6,.pob [4] 1 0),(40,BV a.kids),(41,iv a.kids.length),(42,iv a.kids.length),(43,bv q)],H'⟩) →
  LoopC (cx Tryz.prog w0 I0 n0) IC Q ⟨lk [(2,.pob [1] 1 0),(4,.pob [2] 1 0),(6,.pob [4] 1 0),(40,BV a.kids),(41,iv a.kids.length),(42,iv i)],H⟩:=by
 intro m;induction m with
 |zero=>
  intro i H hi h8 h1 h2 h4 h6 hq;have:i=a.kids.length:=by omega
  subst this;refine Ad Ai IC.eq_1 ?_;simp;exact hq _ H h8 h1 h2 h4 (by rw[h6];simp)
 |succ m ih=>
  intro i H hi h8 h1 h2 h4 h6 hq;have hlt:i<a.kids.length:=by omega
  have ei:=AM i;have hrow:=Hz (f:=wA ∘ HU) hlt rfl;simp only[Function.comp,wA,HU] at hrow;have hwx:=hw _ (A5 hlt);generalize hx:a.kids[i]=x at *;have hd0:=Mx hwx 0;have e8:IntKind.u8.wrap (Gk x 0 / 4294967296 % 256)=Gk x 0 / 4294967296 % 256:=by rw[IntKind.wrap_u8];omega
  refine Ad Ai IC.eq_1 ?_;simp[hlt,hx,Aa,h2];refine Ae (I6 x 0) rfl ?_;simp[Aa,h2];refine Ae (pI hd0) rfl ?_;simp[Aa,h2];refine Ae (zc hd0) rfl ?_;simp[Aa,h2];refine Ae (I6 x 1) rfl ?_;simp[Aa,h2];refine Ae (I6 x 2) rfl ?_;simp[Aa,h2,h6,ei,e8];refine⟨⟨by omega,by omega⟩,?_⟩;refine ih (i+1) _ (by omega) (by simp[Aa,h8]) (by simp[Aa,h1]) (by simp[Aa]) (by simp[Aa,h4]) ?_ hq;simp only[Aa];refine congrArg (fun r=>(⟨i+1+1,.arr 4 r⟩:VOb)) ?_;exact hrow
theorem zK {b:T} (hl:b.kids.length*208≤140737488355328) (hw:∀ x,x ∈ b.kids→Bx x) (ihg:∀ x,x ∈ b.kids→H6 (HL x 0)) {list:Int} {W:A} {v1 v6:VOb}:∀ (m i:Nat) (H:Hp),i+m=b.kids.length→H [1]=v1→H [2]=⟨1,.cells (te 2 list W (.osl [8] (i+1) 12 0 i) (.sl true []))⟩→H [6]=v6→H [8]=⟨i+1,.arr 12 ((b.kids.take i).map (kA ∘ Ul))⟩ →
  (∀ q H',H' [1]=v1→H' [2]=⟨1,.cells (te 2 list W (.osl [8] (b.kids.length+1) 12 0 b.kids.length) (.sl true []))⟩→H' [6]=v6→H' [8]=⟨b.kids.length+1,.arr 12 (b.kids.map (kA ∘ Ul))⟩ →
   Q (.exit 3) ⟨lk [(2,.pob [1] 1 0),(4,.pob [2] 1 0),(65,BV b.kids),(66,iv b.kids.length),(67,iv b.kids.length),(68,bv q)],H'⟩) →
  LoopC (cx Tryz.prog w0 I0 n0) Io Q ⟨lk [(2,.pob [1] 1 0),(4,.pob [2] 1 0),(65,BV b.kids),(66,iv b.kids.length),(67,iv i)],H⟩:=by
 intro m;induction m with
 |zero=>
  intro i H hi h1 h2 h6 h8 hq;have:i=b.kids.length:=by omega
  subst this;refine Ad Ai Io.eq_1 ?_;simp;exact hq _ H h1 h2 h6 (by rw[h8];simp)
 |succ m ih=>
  intro i H hi h1 h2 h6 h8 hq;have hlt:i<b.kids.length:=by omega
  have ei:=AM i;have hrow:=Hz (f:=kA ∘ Ul) hlt rfl;simp only[Function.comp,kA_eq,Ul] at hrow;have hwx:=hw _ (A5 hlt);have ihx:=ihg _ (A5 hlt);unfold H6 at ihx;generalize hx:b.kids[i]=x at *;have hd0:=Mx hwx 0;refine Ad Ai Io.eq_1 ?_;simp[hlt,hx,Aa,h2];refine Ae (I6 x 0) rfl ?_;simp[Aa,h2];refine Ae (pI hd0) rfl ?_;simp[Aa,h2];refine Ae (Mv x 0) rfl ?_;simp[Aa,h2];refine Ae ihx rfl ?_;simp[Aa,h2,h8,ei];refine⟨⟨by omega,by omega⟩,?_⟩;refine ih (i+1) _ (by omega) (by simp[Aa,h1]) (by simp[Aa]) (by simp[Aa,h6]) ?_ hq;simp only[Aa];refine congrArg (fun r=>(⟨i+1+1,.arr 12 r⟩:VOb)) ?_;exact hrow
theorem AaK {a:T} (hl:a.kids.length*240≤140737488355328) (hw:∀ x,x ∈ a.kids→Bx x) (ihg:∀ x,x ∈ a.kids→H6 (HL x 0)) {list:Int} {v1:VOb}:∀ (m i:Nat) (H:Hp),i+m=a.kids.length→H [1]=v1→H [2]=⟨1,.cells (te 3 list (.sl true []) (.sl true []) (.osl [10] (i+1) 14 0 i))⟩→H [10]=⟨i+1,.arr 14 ((a.kids.take i).map (oA ∘ MT))⟩ →
  (∀ q H',H' [1]=v1→H' [2]=⟨1,.cells (te 3 list (.sl true []) (.sl true []) (.osl [10] (a.kids.length+1) 14 0 a.kids.length))⟩→H' [10]=⟨a.kids.length+1,.arr 14 (a.kids.map (oA ∘ MT))⟩ →
   Q (.exit 5) ⟨lk [(2,.pob [1] 1 0),(4,.pob [2] 1 0),(87,BV a.kids),(88,iv a.kids.length),(89,iv a.kids.length),(90,bv q)],H'⟩) →
  LoopC (cx Tryz.prog w0 I0 n0) Il Q ⟨lk [(2,.pob [1] 1 0),(4,.pob [2] 1 0),(87,BV a.kids),(88,iv a.kids.length),(89,iv i)],H⟩:=by
 intro m;induction m with
 |zero=>
  intro i H hi h1 h2 h11 hq;have:i=a.kids.length:=by omega
  subst this;refine Ad Ai Il.eq_1 ?_;simp;exact hq _ H h1 h2 (by rw[h11];simp)
 |succ m ih=>
  intro i H hi h1 h2 h11 hq;have hlt:i<a.kids.length:=by omega
  have ei:=AM i;have hrow:=Hz (f:=oA ∘ MT) hlt rfl;simp only[Function.comp,oA_eq] at hrow;have hst:=mc (hw _ (A5 hlt)) (ihg _ (A5 hlt));refine Ad Ai Il.eq_1 ?_;simp[hlt,Aa,h2];refine Ae hst rfl ?_;simp[Aa,h2,h11,ei];refine⟨⟨by omega,by omega⟩,?_⟩;refine ih (i+1) _ (by omega) (by simp[Aa,h1]) (by simp[Aa]) ?_ hq;simp only[Aa];refine congrArg (fun r=>(⟨i+1+1,.arr 14 r⟩:VOb)) ?_;exact hrow
def AhU (t:T):Prop:=Bx t→SmT t→H6 t∧∀ x,x ∈ t.kids→H6 x∧∀ y,y ∈ x.kids→H6 y
theorem Ws {t:T} (hw:Bx t) (h:t.kind ≠ 1):H6 t:=by
 unfold H6;rw[Mp,if_pos h];have d0:=Mx hw 0;refine Ah RB (by simp) fun w0 I0=>?_;unfold MU;simp;refine Ae (I6 t 0) rfl ?_;simp;refine Ae (lR d0) rfl ?_;simp;refine Ae (vz d0) rfl ?_;simp[h];refine BT ?_;simp
 repeat' (first | exact Au | exact Ab rfl | apply And.intro)
set_option maxRecDepth 10000 in
theorem vF:∀ t:T,AhU t:=by
 refine T.ind fun k w l ih hw hsm=>?_;have hwk:=(wfT_iff.1 hw).ks;have hdeep:∀ (i:Nat) x,x ∈ (HL (.mk k w l) i).kids→H6 (HL x 0):=fun i x hx=>by
  have hm:=uD hx;have hP:=ih _ hm (hwk _ hm) (hsm.kid _ hm);have hwx:=(wfT_iff.1 (hwk _ hm)).ks x hx;unfold HL;rw[List.getD_eq_getElem?_getD];cases e:x.kids[0]? with
  |none=>exact Ws (wfT_iff.2 ⟨by simp[Bn],by simp,by simp,by simp,by simp⟩) (by decide)
  |some y=>exact(hP.2 x hx).2 y (List.mem_of_getElem? e)
 refine⟨?_,fun x hx=>?_⟩;rotate_left
 ·have hP:=ih x hx (hwk x hx) (hsm.kid x hx);exact⟨hP.1,fun y hy=>(hP.2 y hy).1⟩
 by_cases h1:k=1;rotate_left
 ·exact Ws hw h1
 subst h1;have d0:=Mx hw 0;have wfa:=Yg hw 0;have wfb:=Yg hw 1;have sma:=(hsm.kd 0).len;have smb:=(hsm.kd 1).len;unfold H6;rw[Mp,if_neg (by simp)];have ga:=hdeep 0;have gb:=hdeep 1;have sA:=Mv (.mk 1 w l) 0;have sB:=Mv (.mk 1 w l) 1;have sW:=I6 (.mk 1 w l) 0;generalize hA:HL (.mk 1 w l) 0=a at *;generalize hB:HL (.mk 1 w l) 1=b at *;generalize hW:Gk (.mk 1 w l) 0=W at *;refine Ah RB (by simp) fun w0 I0=>?_;unfold MU;simp;refine Ae sW rfl ?_;simp;refine Ae (lR d0) rfl ?_;simp;refine Ae (vz d0) rfl ?_;simp;refine Ae sA rfl ?_;simp;refine Ae sB rfl ?_;have k256:W % 256=1∨W % 256=2∨W % 256=3∨(W % 256 ≠ 1∧W % 256 ≠ 2∧W % 256 ≠ 3):=by omega
 rcases k256 with k | k | k | ⟨k1,k2,k3⟩
 ·simp[k];refine BT ?_;simp
  repeat' (first | exact Au | exact Ab rfl | apply And.intro)
 ·simp[k];refine LoopC.le (B9 (d:=[2]) (u:=1) (cs:=te 2 (W / 256 % 256) (.sl true []) (.sl true []) (.sl true [])) 7 [6] 4 (by simp) rfl (by simp)) ?_;refine AaR (a:=a) (by omega) (fun x hx=>(wfT_iff.1 wfa).ks x hx) (list:=W / 256 % 256) a.kids.length 0 _ (by omega) (by simp[Aa];rfl) (by simp[Aa];rfl) (by simp[Aa]) (by simp[Aa];rfl) (by simp[Aa]) fun q H1 b8 b1 b2 b4 b6=>?_;simp[b4];refine LoopC.le (B9 (d:=[2]) (u:=1) (cs:=te 2 (W / 256 % 256) (.osl [6] (a.kids.length+1) 4 0 a.kids.length) (.sl true []) (.sl true [])) 8 [8] 12 b2 rfl (by simp)) ?_;refine zK (b:=b) (by omega) (fun x hx=>(wfT_iff.1 wfb).ks x hx) gb (list:=W / 256 % 256) b.kids.length 0 _ (by omega) (by simp[Aa,b1];rfl) (by simp[Aa,b8];rfl) (by simp[Aa,b6];rfl) (by simp[Aa,b8]) fun q2 H2 c1 c2 c6 c8=>?_;simp[c1,c2];have fw:∀ H3:Hp,H3 [6]=H2 [6]→K6 H3 (.osl [6] (a.kids.length+1) 4 0 a.kids.length) (vE (a.kids.map HU)):=fun H3 hH=>by
   have:=Cu (H:=H3) (o:=[6]) (u:=a.kids.length+1) (n:=a.kids.length) (sz:=4) (l:=a.kids) (f:=wA ∘ HU) (by simp[hH,c6]) rfl (fun x=>by simp);rw[← List.map_map] at this;exact this
  have fk:∀ H3:Hp,H3 [8]=H2 [8]→K6 H3 (.osl [8] (b.kids.length+1) 12 0 b.kids.length) (so (b.kids.map Ul)):=fun H3 hH=>by
   have:=Cu (H:=H3) (o:=[8]) (u:=b.kids.length+1) (n:=b.kids.length) (sz:=12) (l:=b.kids) (f:=kA ∘ Ul) (by simp[hH,c8]) rfl (fun x=>by simp);rw[← List.map_map] at this;exact this
  have fw':=fw (Bh H2 [1] ⟨1,.cells (te 2 (W / 256 % 256) (.osl [6] (a.kids.length+1) 4 0 a.kids.length) (.osl [8] (b.kids.length+1) 12 0 b.kids.length) (.sl true []))⟩) (by simp[Aa]);have fk':=fk (Bh H2 [1] ⟨1,.cells (te 2 (W / 256 % 256) (.osl [6] (a.kids.length+1) 4 0 a.kids.length) (.osl [8] (b.kids.length+1) 12 0 b.kids.length) (.sl true []))⟩) (by simp[Aa]);refine BT ?_;simp
  repeat' (first | exact fw' | exact fk' | exact Au | exact Ab rfl | apply And.intro)
 ·simp[k];refine LoopC.le (B9 (d:=[2]) (u:=1) (cs:=te 3 (W / 256 % 256) (.sl true []) (.sl true []) (.sl true [])) 10 [10] 14 (by simp) rfl (by simp)) ?_;refine AaK (a:=a) (by omega) (fun x hx=>(wfT_iff.1 wfa).ks x hx) ga (list:=W / 256 % 256) a.kids.length 0 _ (by omega) (by simp[Aa];rfl) (by simp[Aa]) (by simp[Aa]) fun q H2 c1 c2 c11=>?_;simp[c1,c2];have fo:∀ H3:Hp,H3 [10]=H2 [10]→K6 H3 (.osl [10] (a.kids.length+1) 14 0 a.kids.length) (Ur (a.kids.map MT)):=fun H3 hH=>by
   have:=Cu (H:=H3) (o:=[10]) (u:=a.kids.length+1) (n:=a.kids.length) (sz:=14) (l:=a.kids) (f:=oA ∘ MT) (by simp[hH,c11]) rfl (fun x=>by simp);rw[← List.map_map] at this;exact this
  have fo':=fo (Bh H2 [1] ⟨1,.cells (te 3 (W / 256 % 256) (.sl true []) (.sl true []) (.osl [10] (a.kids.length+1) 14 0 a.kids.length))⟩) (by simp[Aa]);refine BT ?_;simp
  repeat' (first | exact fo' | exact Au | exact Ab rfl | apply And.intro)
 ·simp[k1,k2,k3];refine BT ?_;simp
  repeat' (first | exact Au | exact Ab rfl | apply And.intro)
inductive WI where
 |keep (n:Int)
 |del (k v:Nat) (l:List T)
 |ins (k v:Nat) (l:List T)
 |desc (e:E)
def WI.op:WI→OP
 |.keep n=>.mk 0 n [] E0
 |.del _ _ l=>.mk 1 0 l E0
 |.ins _ _ l=>.mk 2 0 l E0
 |.desc e=>.mk 3 0 [] e
def Gb:List A:=[iv 0,iv 0,.sl true [],.sl true [],iv 0,.sl true [],.sl true [],.sl true [],.sl true [],iv 0,.sl true []]
def Zb (r:Nat):WI→List A
 |.keep n=>iv 0::iv n :: .sl true []::Gb
 |.del k v l=>iv 1::iv 0 :: .osl (r::[k]) v 3 0 l.length::Gb
 |.ins k v l=>iv 2::iv 0 :: .osl (r::[k]) v 3 0 l.length::Gb
 |.desc e=>iv 3::iv 0 :: .sl true []::eL e
def VD (r:Nat) (x:WI):A:=.agg (Zb r x)
@[simp] theorem Ae4 {r:Nat} {x:WI}:(VD r x).cells=Zb r x:=rfl
@[simp] theorem AiK {r:Nat} {x:WI}:(Zb r x).length=14:=by cases x<;>rfl
theorem AaS {g:Nm→Nm} {δ:Nm→Nat} {r r':Nat} (hg:∀ p,g (r::p)=r'::p) (hd:∀ p,δ (r::p)=0) (x:WI):A.renL g δ (Zb r x)=Zb r' x:=by
 cases x<;>simp[Zb,Gb,A.renL,A.ren,hg,hd]
theorem tQ {D:Nm→Prop} {r:Nat} (hD:∀ p,D (r::p)) (x:WI):A.refsL D (Zb r x):=by
 cases x<;>simp[Zb,Gb,A.refsL,A.refs,hD]
def Po (r:Nat):Option (Nat × Nat × List T)→A
 |some (k,v,l)=>.osl (r::[k]) v 3 0 l.length
 |none=>.sl true []
abbrev Wp:=Nat→Option (Nat × List T)
def qq:Option (Nat × List T)→VOb
 |some (v,l)=>⟨v,.arr 3 (l.map tA)⟩
 |none=>⟨0,.none⟩
theorem zS {g:Nm→Nm} {δ:Nm→Nat} {r r':Nat} (hg:∀ p,g (r::p)=r'::p) (hd:∀ p,δ (r::p)=0) (o:Option (Nat × Nat × List T)):(Po r o).ren g δ=Po r' o:=by
 rcases o with _ | ⟨k,v,l⟩
 ·simp[Po,A.ren]
 ·simp[Po,A.ren,hg,hd]
def UQ (R:Wp):Nm→VOb
 |[k]=>qq (R k)
 |_=>⟨0,.none⟩
@[simp] theorem AdS {R:Wp} {k:Nat}:UQ R [k]=qq (R k):=rfl
theorem zt {g:Nm→Nm} {δ:Nm→Nat} (o:Option (Nat × List T)):VOb.ren g δ 0 (qq o)=qq o:=by
 rcases o with _ | ⟨v,l⟩
 ·rfl
 ·refine Fam.arr_ren ?_;simp only[Dd,List.map_map];refine List.map_congr_left fun x _=>?_;simp[A.ren,A.renL]
theorem rl {g:Nm→Nm} {δ:Nm→Nat} (R:Wp):∀ p,VOb.ren g δ 0 (UQ R p)=UQ R p
 |[]=>rfl
 |[k]=>zt _
 |_::_::_=>rfl
theorem xf {D:Nm→Prop} (o:Option (Nat × List T)):(qq o).ob.refs D:=by
 rcases o with _ | ⟨v,l⟩
 ·trivial
 ·simp only[qq,Ob.refs,refsL_iff];intro y hy;obtain⟨x,_,rfl⟩:=List.mem_map.1 hy;simp[A.refs,A.refsL]
theorem kU {D:Nm→Prop} (R:Wp):∀ p,(UQ R p).ob.refs D
 |[]=>trivial
 |[k]=>xf _
 |_::_::_=>trivial
def Xz (its:List WI) (vo:Nat) (g b:Option (Nat × Nat × List T)) (R:Wp):Fam:=⟨fun r p=>if p=[] then ⟨1,.cells [.osl (r::[0]) vo 14 0 its.length,Po r g,Po r b]⟩ else if p=[0] then ⟨vo,.arr 14 (its.map (VD r))⟩ else UQ R p,fun {γ δ r r'} hg hd p=>by
  by_cases h1:p=[]
  ·rw[if_pos h1,if_pos h1];refine Fam.cells_ren ?_;simp[A.renL,A.ren,hg,hd,zS hg hd]
  ·rw[if_neg h1,if_neg h1];by_cases h2:p=[0]
   ·rw[if_pos h2,if_pos h2];refine Fam.arr_ren ?_;simp only[Dd,List.map_map];refine List.map_congr_left fun x _=>?_;simp[VD,A.ren,AaS hg hd]
   ·rw[if_neg h2,if_neg h2];exact rl R p,fun {D r} hD p=>by
  by_cases h1:p=[]
  ·rw[if_pos h1];rcases g with _ | ⟨k,v,l⟩<;>rcases b with _ | ⟨k',v',l'⟩<;>simp[Ob.refs,A.refsL,A.refs,hD,Po]
  ·rw[if_neg h1];by_cases h2:p=[0]
   ·rw[if_pos h2];simp only[Ob.refs,refsL_iff];intro y hy;obtain⟨x,_,rfl⟩:=List.mem_map.1 hy;simp only[A.refs,VD];exact tQ hD x
   ·rw[if_neg h2];exact kU R p⟩
@[simp] theorem qb {its:List WI} {vo:Nat} {g b:Option (Nat × Nat × List T)} {R:Wp} {r:Nat} {p:Nm}:(Xz its vo g b R).F r p=if p=[] then ⟨1,.cells [.osl (r::[0]) vo 14 0 its.length,Po r g,Po r b]⟩ else if p=[0] then ⟨vo,.arr 14 (its.map (VD r))⟩ else UQ R p:=rfl
abbrev wrP (r:Nat):A:=.pob [r] 1 0
theorem VZ {r:Nat} {l:List WI}:Ge 14 (l.map (VD r))=true:=by rw[Ml];simp
def Fx:Nat × Nat × List T→List WI
 |(k,v,l)=>if l=[] then [] else [.del k v l]
def BM:Nat × Nat × List T→List WI
 |(k,v,l)=>if l=[] then [] else [.ins k v l]
theorem Jy (its:List WI) (vo:Nat) (g b:Nat × Nat × List T) (R:Wp) (hl:its.length≤1000000) (hg:R g.1=some (g.2.1,g.2.2)) (hb:R b.1=some (b.2.1,b.2.2)) (hg0:1≤g.1) (hb0:1≤b.1):BR Tryz.prog 113 (fun r=>[wrP r]) (Xz its vo (some g) (some b) R) (fun _=>.tup []) (Xz (its++(Fx g++BM b)) (vo+(Fx g++BM b).length) none none R):=by
 obtain⟨gk,gv,gl⟩:=g;obtain⟨bk,bv',bl⟩:=b;refine Ay Nz (by simp) (Ag Bi Ap) (BP Ap) fun w0 I0 M0 m0=>?_;unfold HS;by_cases h1:gl=[]
 ·by_cases h2:bl=[]
  ·simp[h1,h2,Po];rw[Ct.eq_1];simp[h1,h2,Po,Aa];refine A0 rfl rfl (fun p=>?_);by_cases p1:p=[]
   ·subst p1;simp[Aa,Fx,BM,Po]
   ·by_cases p2:p=[0]
    ·subst p2;simp[Aa,Fx,BM]
    ·simp[p1,p2,Aa]
  ·have h2':(0:Int)<bl.length:=by have:=List.length_pos_iff.2 h2;omega
   have h2n:=List.length_pos_iff.2 h2;simp[h1,h2,Po];rw[Ct.eq_1];simp[h1,h2,h2',h2n,Po,Aa,VZ];refine⟨by omega,by omega,?_⟩;refine A0 rfl rfl (fun p=>?_);by_cases p1:p=[]
   ·subst p1;simp[Aa,Fx,BM,Po,h1,h2]
   ·by_cases p2:p=[0]
    ·subst p2;simp[Aa,Fx,BM,h1,h2,VD,Zb,Gb,BO]
    ·simp[p1,p2,Aa]
 ·have h1':(0:Int)<gl.length:=by have:=List.length_pos_iff.2 h1;omega
  have h1n:=List.length_pos_iff.2 h1;by_cases h2:bl=[]
  ·simp[h1,h1',h1n,h2,Po,Aa,VZ];refine⟨by omega,by omega,?_⟩;rw[Ct.eq_1];simp[h1,h2,Po,Aa];refine A0 rfl rfl (fun p=>?_);by_cases p1:p=[]
   ·subst p1;simp[Aa,Fx,BM,Po,h1,h2]
   ·by_cases p2:p=[0]
    ·subst p2;simp[Aa,Fx,BM,h1,h2,VD,Zb,Gb,BO]
    ·simp[p1,p2,Aa]
  ·have h2':(0:Int)<bl.length:=by have:=List.length_pos_iff.2 h2;omega
   have h2n:=List.length_pos_iff.2 h2;simp[h1,h1',h1n,h2,Po,Aa,VZ];refine⟨by omega,by omega,?_⟩;rw[Ct.eq_1];simp[h1,h2,h2',h2n,Po,Aa];refine⟨by omega,⟨by omega,by omega⟩,?_⟩;refine A0 rfl rfl (fun p=>?_);by_cases p1:p=[]
   ·subst p1;simp[Aa,Fx,BM,Po,h1,h2]
   ·by_cases p2:p=[0]
    ·subst p2;simp[Aa,Fx,BM,h1,h2,VD,Zb,Gb,BO]
    ·simp[p1,p2,Aa]
theorem AfA (l:List T) (x:A):(l.map tA++[x])[l.length]? = some x:=by rw[List.getElem?_append_right (by simp)];simp
theorem zC (l:List T):List.take l.length (l.map tA)=l.map tA:=BO (by simp)
theorem ot {n0:Nat} {w0:World} {I0:Nat→Prop} {M0:Nm→Nat→Prop} {m0:Mu} {Q:Exit→Sta→Prop} {its:List WI} {vo off k:Nat} {g b:Option (Nat × Nat × List T)} {R:Wp} {ts l0:List T} {v0:Nat} (hts:∀ t,t ∈ ts→Bx t) (hl:l0.length+ts.length≤1000000) (hk:1≤k)
  (F:Nat→List T→Fam) (hF0:∀ v l,(F v l).F 0 []=⟨1,.cells [.osl [0,0] vo 14 0 its.length,if off=1 then .osl [0,k] v 3 0 l.length else Po 0 g,if off=1 then Po 0 b else .osl [0,k] v 3 0 l.length]⟩) (hoff:off=1∨off=2) (hFk:∀ v l,(F v l).F 0 [k]=⟨v,.arr 3 (l.map tA)⟩) (hFo:∀ v l v' l' p,p ≠ []→p ≠ [k]→(F v l).F 0 p=(F v' l').F 0 p)
  (hq:∀ H st,(∀ p,H (0::p)=(F (v0+ts.length) (l0++ts.map Af)).F 0 p)→Q (.exit 0) ⟨lk st,H⟩):∀ (m i:Nat) (H:Hp),i+m=ts.length→(∀ p,H (0::p)=(F (v0+i) (l0++(ts.take i).map Af)).F 0 p) →
  LoopC (FW Tryz.prog w0 I0 M0 n0 m0) HK Q ⟨lk [(0,.pob [0] 1 off),(6,BV ts),(7,iv ts.length),(8,iv i)],H⟩:=by
 intro m;induction m with
 |zero=>
  intro i H hm hH;refine Ad Ai HK.eq_1 ?_;have:i=ts.length:=by omega
  subst this;rw[BO (Cb _)] at hH;simp;exact hq H _ hH
 |succ m ih=>
  intro i H hm hH;have hi:i<ts.length:=by omega
  have ew:=AM i;have h0:=hH [];rw[hF0] at h0;have h1:=hH [k];rw[hFk] at h1;have hN:=FI ts[i] (hts _ (A5 hi));have hLs:l0++(ts.take (i+1)).map Af=l0++(ts.take i).map Af++[Af ts[i]]:=by rw[Ij hi,List.map_append,← List.append_assoc];rfl
  have hLl:(l0++(ts.take i).map Af).length≤1000000:=by simp;omega
  have next:=ih (i+1)
  rw[hLs,← Nat.add_assoc] at next
  generalize l0++(ts.take i).map Af=L at *;generalize v0+i=v at *;have hH':∀ (p:Nm) (H2:Hp),p ≠ []→p ≠ [k]→H2 (0::p)=H (0::p)→H2 (0::p)=(F (v+1) (L++[Af ts[i]])).F 0 p:=fun p H2 p1 p2 he=>by rw[he,hH,hFo _ _ _ _ p p1 p2]
  refine Ad Ai HK.eq_1 ?_;rcases hoff with rfl | rfl;all_goals
   simp at h0 h1;simp[hi,Aa,h0];refine Ae hN (by simp[Aa]) ?_;simp[Aa,h0,h1,show ¬ k=0 by omega,show ¬ 0=k by omega,AfA,zC,ew];refine⟨by omega,by omega,?_⟩;refine next _ (by omega) (fun p=>?_)
   by_cases p1:p=[]
   ·subst p1;rw[hF0];simp[Aa,show ¬ k=0 by omega,show ¬ 0=k by omega]
   ·by_cases p2:p=[k]
    ·subst p2;rw[hFk];simp[Aa,show ¬ k=0 by omega,show ¬ 0=k by omega]
    ·exact hH' p _ p1 p2 (by simp[Aa,p1,p2,Ne.symm p1,Ne.symm p2])
def Gu (R:Wp) (k:Nat) (v:Nat) (l:List T):Wp:=fun q=>if q=k then some (v,l) else R q
theorem bo {R:Wp} {k v:Nat} {l:List T} (h:R k=some (v,l)):Gu R k v l=R:=by
 funext q;unfold Gu;split
 ·rename_i e;rw[e,h]
 ·rfl
theorem mb (its:List WI) (vo k v:Nat) (l:List T) (b:Option (Nat × Nat × List T)) (R:Wp) (hR:R k=some (v,l)) (hk:1≤k) (hb:∀ x,b=some x→x.1 ≠ k) {ts:List T} (hts:∀ t,t ∈ ts→Bx t) (hl:l.length+ts.length≤1000000) :
  BR Tryz.prog 111 (fun r=>[.pob [r] 1 1,BV ts]) (Xz its vo (some (k,v,l)) b R) (fun _=>.tup []) (Xz its vo (some (k,v+ts.length,l++ts.map Af)) b (Gu R k (v+ts.length) (l++ts.map Af))):=by
 refine Ay Qg (by simp) (Ag Bi (Ag Fu Ap)) (BP Ap) fun w0 I0 M0 m0=>?_;unfold Lr;simp;refine LoopC.le (AE [(0,.pob [0] 1 1),(6,BV ts),(7,iv ts.length),(8,iv (0:Nat))] (by simp)) ?_;refine ot (its:=its) (vo:=vo) (off:=1) (k:=k) (g:=none) (b:=b) (R:=R) (ts:=ts) (l0:=l) (v0:=v) hts hl hk (fun v l=>Xz its vo (some (k,v,l)) b (Gu R k v l)) (fun v l=>by simp[Po]) (.inl rfl) (fun v l=>by simp[qq,Gu,show ¬ k=0 by omega]) (fun v l v' l' p p1 p2=>?_) (fun H st hH=>?_) ts.length 0 _ (by omega) (fun p=>?_)
 ·rw[qb,qb,if_neg p1,if_neg p1];split
  ·rfl
  ·match p with
   |[]=>rfl
   |[q]=>simp[Gu,show ¬ q=k from fun e=>p2 (by rw[e])]
   |_::_::_=>rfl
 ·simp;exact A0 rfl rfl hH
 ·simp only[List.take_zero,List.map_nil,List.append_nil,Nat.add_zero];rw[bo hR];simp
theorem mI (its:List WI) (vo k v:Nat) (l:List T) (g:Option (Nat × Nat × List T)) (R:Wp) (hR:R k=some (v,l)) (hk:1≤k) {ts:List T} (hts:∀ t,t ∈ ts→Bx t) (hl:l.length+ts.length≤1000000) :
  BR Tryz.prog 111 (fun r=>[.pob [r] 1 2,BV ts]) (Xz its vo g (some (k,v,l)) R) (fun _=>.tup []) (Xz its vo g (some (k,v+ts.length,l++ts.map Af)) (Gu R k (v+ts.length) (l++ts.map Af))):=by
 refine Ay Qg (by simp) (Ag Bi (Ag Fu Ap)) (BP Ap) fun w0 I0 M0 m0=>?_;unfold Lr;simp;refine LoopC.le (AE [(0,.pob [0] 1 2),(6,BV ts),(7,iv ts.length),(8,iv (0:Nat))] (by simp)) ?_;refine ot (its:=its) (vo:=vo) (off:=2) (k:=k) (g:=g) (b:=none) (R:=R) (ts:=ts) (l0:=l) (v0:=v) hts hl hk (fun v l=>Xz its vo g (some (k,v,l)) (Gu R k v l)) (fun v l=>by simp[Po]) (.inr rfl) (fun v l=>by simp[qq,Gu,show ¬ k=0 by omega]) (fun v l v' l' p p1 p2=>?_) (fun H st hH=>?_) ts.length 0 _ (by omega) (fun p=>?_)
 ·rw[qb,qb,if_neg p1,if_neg p1];split
  ·rfl
  ·match p with
   |[]=>rfl
   |[q]=>simp[Gu,show ¬ q=k from fun e=>p2 (by rw[e])]
   |_::_::_=>rfl
 ·simp;exact A0 rfl rfl hH
 ·simp only[List.take_zero,List.map_nil,List.append_nil,Nat.add_zero];rw[bo hR];simp
theorem j3 (l:List WI) (r:Nat) (x:A):(l.map (VD r)++[x])[l.length]? = some x:=by rw[List.getElem?_append_right (by simp)];simp
theorem z7 (l:List WI) (r:Nat):List.take l.length (l.map (VD r))=l.map (VD r):=BO (by simp)
theorem Oj (l:List WI) (r:Nat) (x:A):List.take (l.length+1) (l.map (VD r)++[x])=l.map (VD r)++[x]:=BO (by simp)
theorem R3:∀ g,(Fx g).length≤1
 |(a,b,c)=>by
  by_cases h:c=[]<;>simp[Fx,h]
theorem M3:∀ g,(BM g).length≤1
 |(a,b,c)=>by
  by_cases h:c=[]<;>simp[BM,h]
theorem lJ (its i0:List WI) (vo:Nat) (m n:Int) (g b:Nat × Nat × List T) (R:Wp) (hl:its.length≤1000000) (hg:R g.1=some (g.2.1,g.2.2)) (hb:R b.1=some (b.2.1,b.2.2)) (hg0:1≤g.1) (hb0:1≤b.1) (hi:its++(Fx g++BM b)=i0++[.keep m]):BR Tryz.prog 110 (fun r=>[wrP r,iv n]) (Xz its vo (some g) (some b) R) (fun _=>.tup []) (Xz (i0++[.keep (i64.wrap (m+n))]) (vo+(Fx g++BM b).length) none none R):=by
 have F1:=Jy its vo g b R hl hg hb hg0 hb0;rw[hi] at F1;have hlen:i0.length≤1000002:=by
  have e:=congrArg List.length hi;have:=R3 g;have:=M3 b;simp at e;omega
 generalize vo+(Fx g++BM b).length=v at *;have e1:i64.wrap (i0.length:Int)=i0.length:=Bv;refine Ay Jc (by simp) (Ag Bi (Ag Ax Ap)) (BP Ap) fun w0 I0 M0 m0=>?_;unfold FQ;simp;refine AA 0 F1 (fun p=>by simp) (by simp) (by simp) ?_;simp[e1,j3,VD,Zb];refine⟨by omega,rfl,?_⟩;refine AJ rfl rfl (fun p=>?_);by_cases p1:p=[]
 ·subst p1;simp[Aa,Po]
 ·by_cases p2:p=[0]
  ·subst p2;simp[Aa,VD,Zb,Gb,A.remake,Oj]
  ·simp[p1,p2,Aa]
theorem nu (its:List WI) (vo:Nat) (n:Int) (g b:Nat × Nat × List T) (R:Wp) (hl:its.length≤1000000) (hg:R g.1=some (g.2.1,g.2.2)) (hb:R b.1=some (b.2.1,b.2.2)) (hg0:1≤g.1) (hb0:1≤b.1) (hi:its++(Fx g++BM b)=[]∨∃ i0 x,its++(Fx g++BM b)=i0++[x]∧x.op.kind ≠ 0):BR Tryz.prog 110 (fun r=>[wrP r,iv n]) (Xz its vo (some g) (some b) R) (fun _=>.tup []) (Xz (its++(Fx g++BM b)++[.keep n]) (vo+(Fx g++BM b).length+1) none none R):=by
 have F1:=Jy its vo g b R hl hg hb hg0 hb0;have hlen:(its++(Fx g++BM b)).length≤1000002:=by
  have:=R3 g;have:=M3 b;simp;omega
 generalize vo+(Fx g++BM b).length=v at *;generalize its++(Fx g++BM b)=J at *;refine Ay Jc (by simp) (Ag Bi (Ag Ax Ap)) (BP Ap) fun w0 I0 M0 m0=>?_;unfold FQ;simp;refine AA 0 F1 (fun p=>by simp) (by simp) (by simp) ?_;rcases hi with rfl | ⟨i0,x,rfl,hx⟩
 ·simp[Aa,show i64.wrap (-1) = -1 from rfl];refine A0 rfl rfl (fun p=>?_);by_cases p1:p=[]
  ·subst p1;simp[Aa,Po]
  ·by_cases p2:p=[0]
   ·subst p2;simp[Aa,VD,Zb,Gb,A.remake,Oj]
   ·simp[p1,p2,Aa]
 ·simp at hlen;have e1:i64.wrap (i0.length:Int)=i0.length:=Bv;cases x with
  |keep m=>exact absurd rfl hx
  |del a b c=>
   simp[e1,j3,VD,Zb,Aa];refine⟨by omega,by omega,⟨by omega,by omega⟩,?_⟩;refine A0 rfl rfl (fun p=>?_);by_cases p1:p=[]
   ·subst p1;simp[Aa,Po]
   ·by_cases p2:p=[0]
    ·subst p2;simp[Aa,VD,Zb,Gb,A.remake,Oj]
    ·simp[p1,p2,Aa]
  |ins a b c=>
   simp[e1,j3,VD,Zb,Aa];refine⟨by omega,by omega,⟨by omega,by omega⟩,?_⟩;refine A0 rfl rfl (fun p=>?_);by_cases p1:p=[]
   ·subst p1;simp[Aa,Po]
   ·by_cases p2:p=[0]
    ·subst p2;simp[Aa,VD,Zb,Gb,A.remake,Oj]
    ·simp[p1,p2,Aa]
  |desc e=>
   simp[e1,j3,VD,Zb,Aa];refine⟨by omega,by omega,⟨by omega,by omega⟩,?_⟩;refine A0 rfl rfl (fun p=>?_);by_cases p1:p=[]
   ·subst p1;simp[Aa,Po]
   ·by_cases p2:p=[0]
    ·subst p2;simp[Aa,VD,Zb,Gb,A.remake,Oj]
    ·simp[p1,p2,Aa]
end Go.Proofs.YtbjmaoedheiigaaGreat
