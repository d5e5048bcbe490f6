/-
 Texts,merged,without what is not reached.
-/
import Derived.Test.YtgkdikddjfgajaaGreatDoorKMf
set_option linter.unusedSimpArgs false
set_option linter.unusedVariables false
open Go.IntKind (i64 u64)
namespace Go.Proofs.YtgkdikddjfgajaaGreatDoor
open Go Go.G Go.Proofs Go.PL
theorem Kx (ed:List UInt8→Option (E × Nat)) (l:Int) (s:List UInt8) (f n k:Nat):BP ed l (f+1) n (s.drop k)=if Ej (s.drop k)=93 then some ([],0) else match B9 n (s.drop k) with
  |none=>none
  |some k0=>match CI ed l (s.drop (k+k0)) with
   |none=>none
   |some (w,k1)=>match BP ed l f (n+1) (s.drop (k+k0+k1)) with
    |none=>none
    |some (ws,k2)=>some (w::ws,k0+k1+k2):=by
 rw[BP];simp only[List.drop_drop,Nat.add_assoc]<;>rfl
def lE (l:Int) (O:A):List A:=[iv 3,iv 0,.sl true [],.sl true [],iv 0,.sl true [],.sl true [],.sl true [],.sl true [],iv l,O]
variable {φ:Prop} {n0:Nat} {w0:World} {I0:Nat→Prop} {M0:Nm→Nat→Prop} {m0:Mu} {Q:Exit→Sta→Prop}
set_option maxHeartbeats 8000000 in
theorem qp {s:List UInt8} (hs:s.length≤1000000000) {d:Nat} (hd:d≤1000) (hT:s9 d s) (l:Int) {u7:Nat} {O1:VOb}:∀ (f k v:Nat) (acc:List OP) (H:Hp),k≤s.length→s.length-k<f→acc.length≤k→(∀ p,H (0::p)=(CF s k).F 0 p)→H [1]=O1→H [3]=⟨u7,.cells (lE l (.osl [4] v 14 0 acc.length))⟩→H [4]=⟨v,.arr 14 (acc.map oX)⟩ →
  (BP (Bd d) l f acc.length (s.drop k)=none→φ) →
  (∀ (ws:List OP) (n:Nat),BP (Bd d) l f acc.length (s.drop k)=some (ws,n)→∀ (H':Hp) (v':Nat),(∀ p,H' (0::p)=(CF s (k+n)).F 0 p)→H' [1]=O1→H' [3]=⟨u7,.cells (lE l (.osl [4] v' 14 0 (acc++ws).length))⟩→H' [4]=⟨v',.arr 14 ((acc++ws).map oX)⟩ →
   Q (.exit 0) ⟨lk [(0,pp 0),(1,iv (d+1:Nat)),(4,.pob [1] 1 0),(7,.pob [3] u7 0),(54,bv false)],H'⟩) →
  LoopC (OM Mx φ Tryz.prog w0 I0 M0 n0 m0) HQ Q ⟨lk [(0,pp 0),(1,iv (d+1:Nat)),(4,.pob [1] 1 0),(7,.pob [3] u7 0)],H⟩:=by
 intro f;induction f with
 |zero=>intro k v acc H hk hf;omega
 |succ f ih=>
  intro k v acc H hk hf hac hH h1 h3 h4 hφ hq;have hn:=Di s k hk;refine Ad mixed HQ.eq_1 ?_;simp;refine Ai 0 hn hH (by simp) (by simp) ?_;by_cases hx:Ej (s.drop k)=93
  ·rw[hx];simp;exact hq [] 0 (by unfold BP;rw[if_pos hx]) _ v (fun p=>by simp) (by simp[h1]) (by simp[h3]) (by simp[h4])
  ·have hx1:¬ ((Ej (s.drop k)).toNat:Int)=93:=fun e=>hx ((u8_inj (b:=93)).1 e);have hx2:¬ (Ej (s.drop k)).toNat=93:=fun e=>hx1 (by omega);simp[hx1,hx2,hx];have t0:=P4 (n:=acc.length) hk hs;have hdl:(s.drop k).length=s.length-k:=by simp
   simp[h3,lE];cases e0:B9 acc.length (s.drop k) with
   |none=>
    rw[e0] at t0;refine AE (.tup []) 0 t0 ⟨rfl,hφ (by rw[Kx,if_neg hx,e0])⟩ (fun p=>by simp) (by simp) (by simp) ?_;simp;exact Au (AF 0 (by simp[AV]))
   |some k0=>
    rw[e0] at t0;have b0:=GJ e0;rw[hdl] at b0;refine Ai 0 t0 (fun p=>by simp) (by simp) (by simp) ?_;simp;refine Ax ?_;simp[h3,lE];have t1:=af hs hd hT l (k+k0) (by omega);cases e1:CI (Bd d) l (s.drop (k+k0)) with
    |none=>
     rw[e1] at t1;refine AE (oX (.mk 0 0 [] E0)) 0 t1 ⟨rfl,hφ (by rw[Kx,if_neg hx,e0];simp only;rw[e1])⟩ (fun p=>by simp) (by simp) (by simp[List.isPrefixOf]) ?_;simp[h3,h4,lE,Aa,splice];exact⟨by omega,LoopC.dead (AF 0 (by simp[AV]))⟩
    |some q1=>
     obtain⟨a,k1⟩:=q1;rw[e1] at t1;have b1:=VD (Kh d) e1;simp only[List.length_drop] at b1;refine Ai 0 t1 (fun p=>by simp) (by simp) (by simp[List.isPrefixOf]) ?_;simp[h3,h4,lE,Aa,splice];refine⟨by omega,?_⟩;have ew:∀ ws n,BP (Bd d) l f (acc++[a]).length (s.drop (k+k0+k1))=some (ws,n)→BP (Bd d) l (f+1) acc.length (s.drop k)=some (a::ws,k0+k1+n):=fun ws n h=>by
      rw[Kx,if_neg hx,e0];simp only;rw[e1];simp only;rw[List.length_append,List.length_singleton] at h;rw[h]
     have ew2:BP (Bd d) l f (acc++[a]).length (s.drop (k+k0+k1))=none→BP (Bd d) l (f+1) acc.length (s.drop k)=none:=fun h=>by
      rw[Kx,if_neg hx,e0];simp only;rw[e1];simp only;rw[List.length_append,List.length_singleton] at h;rw[h]
     refine ih (k+k0+k1) (v+1) (acc++[a]) _ (by omega) (by omega) (by simp;omega) (fun p=>by simp) (by simp[Aa,h1]) (by simp[Aa,lE]) (by simp[Aa,DE]) (fun hN=>hφ (ew2 hN)) (fun ws n h H' v' g0 g1 g3 g4=>?_);refine hq (a::ws) _ (ew ws n h) H' v' (fun p=>?_) g1 ?_ ?_
     ·rw[g0];congr 2;omega
     ·rw[g3];simp
     ·rw[g4];simp
theorem Qg (ed:List UInt8→Option (E × Nat)) (s:List UInt8) (p:Nat):Ec ed (s.drop p)=if 2≤(s.drop p).length∧Un AB ((s.drop p).take 2++[93])=true then
  match BP ed (BX AB ((s.drop p).take 2++[93])).kind ((s.drop p).length+1) 0 (s.drop (p+2)) with
  |none=>none
  |some (os,k1)=>match AL 93 (s.drop (p+2+k1)) with
   |none=>none
   |some _=>some (.mk 3 T0 T0 [] [] (BX AB ((s.drop p).take 2++[93])).kind os,2+k1+1)
 else none:=by
 unfold Ec;simp only[List.drop_drop,Nat.add_assoc]<;>rfl
set_option maxHeartbeats 4000000 in
theorem WU {s:List UInt8} (hs:s.length≤1000000000) {d:Nat} (hd:d≤1000) (hT:s9 d s) (k:Nat) (hk:k≤s.length):NL Mx Tryz.prog 126 (fun r=>[pp r,iv (d+1:Nat)]) (CF s k) (Jv eX s k (Ec (Bd d) (s.drop k))):=by
 refine Ie T4 (by simp) (Ag AJ (Ag AO Al)) (FV Pd) fun w0 I0 M0 m0 hM=>?_;have hdl:(s.drop k).length=s.length-k:=by simp
 have e2:i64.wrap ((k:Int)+2)=((k+2:Nat):Int):=H9;unfold MO;by_cases h2:2≤(s.drop k).length
 ·have hle:k+2≤s.length:=by omega
  simp[e2,show ¬ ((s.length:Int)<(k:Int)+2) by omega];refine Ax ?_;rw[KR.eq_1];have hp:=Lk (s:=(s.drop k).take 2++[93]) (by simp;omega);have c1:(0≤(k:Int)+2∧(k:Int)+2≤s.length)=True:=eq_true (by omega);have c2:((k:Int)+2).toNat=k+2:=by omega
  have hadd:=BE (l:=(s.drop k).take 2) (m:=[93]) (by simp;omega);simp[e2,c1,c2,show(k:Int)≤(k:Int)+2 by omega,hadd];refine Af hp rfl ?_;have hN:Un AB ((s.drop k).take 2++[93])=false→Ec (Bd d) (s.drop k)=none:=fun h=>by rw[Qg,if_neg (fun h2=>by rw[h] at h2;cases h2.2)]
  have hY:Un AB ((s.drop k).take 2++[93])=true→Ec (Bd d) (s.drop k)=(match BP (Bd d) (BX AB ((s.drop k).take 2++[93])).kind ((s.drop k).length+1) 0 (s.drop (k+2)) with
   |none=>none
   |some (os,k1)=>match AL 93 (s.drop (k+2+k1)) with
    |none=>none
    |some _=>some (.mk 3 T0 T0 [] [] (BX AB ((s.drop k).take 2++[93])).kind os,2+k1+1)):=fun h=>by rw[Qg,if_pos ⟨h2,h⟩]
  generalize BX AB ((s.drop k).take 2++[93])=T at *;cases hok:Un AB ((s.drop k).take 2++[93]) with
  |false=>
   rw[hN hok];simp;refine AE (.tup []) 0 (C0 (CF s k)) ⟨rfl,by simp⟩ (fun p=>by by_cases hp:p=[]<;>simp[hp,Aa]) (by simp) (by simp) ?_;simp;exact Au (AF 0 (by simp[AV]))
  |true=>
   have hY:=hY hok;simp;refine Ax ?_;rw[Lh.eq_1];simp[e2,Aa];refine LoopC.le (CZ (d:=[3]) (u:=1) (cs:=lE T.kind (.sl true [])) 10 [4] 14 (by simp[Aa,lE]) rfl (by simp)) ?_;refine LoopC.le (Be [(0,pp 0),(1,iv (d+1:Nat)),(4,.pob [1] 1 0),(7,.pob [3] 1 0)] (by simp)) ?_;refine qp (O1:=⟨1,.cells (nK)⟩) hs hd hT T.kind ((s.drop k).length+1) (k+2) 1 [] _ (by omega) (by omega) (by simp) (fun p=>by by_cases hp:p=[]<;>simp[hp,Aa]) (by simp[Aa,nK]) (by simp[Aa,lE]) (by simp[Aa]) (fun hN2=>?_) (fun os k1 hW H' v' g0 g1 g3 g4=>?_)
   ·rw[hY,show BP (Bd d) T.kind ((s.drop k).length+1) 0 (s.drop (k+2))=none from hN2];rfl
   ·have hW':BP (Bd d) T.kind ((s.drop k).length+1) 0 (s.drop (k+2))=some (os,k1):=hW;have b1:=Ns (Kh d) _ _ _ _ _ hW';simp only[List.length_drop] at b1;have t2:=Ff (s:=s) (k:=k+2+k1) (c:=93) (by omega) hs (by decide);simp;cases e3:AL 93 (s.drop (k+2+k1)) with
    |none=>
     rw[e3] at t2;refine AE (.tup []) 0 t2 ⟨rfl,by rw[hY,hW'];simp only;rw[e3];rfl⟩ (fun p=>by simp[g0]) (by simp) (by simp) ?_;simp;exact Au (AF 0 (by simp[AV]))
    |some n2=>
     rw[e3] at t2;obtain⟨rfl,b2⟩:=Bv e3;rw[hW'] at hY;simp only at hY;rw[e3] at hY;rw[hY];refine Ai 0 t2 (fun p=>by simp[g0]) (by simp) (by simp) ?_;simp;refine Ax ?_;simp[g1,g3,lE,nK,splice,HF];rw[show k+(2+k1+1)=k+2+k1+1 by omega];refine GU hM (fun r=>r=4) (fun r h=>by omega) (e:=.mk 3 T0 T0 [] [] T.kind os) (cs:=[iv 3,iv 0,.sl true [],.sl true [],iv 0,.sl true [],.sl true [],.sl true [],.sl true [],iv T.kind,.osl [4] v' 14 0 os.length]) (by simp[Aa]) (fun H1 h1=>⟨Ab rfl,Ab rfl,Ae,Ae,Ab rfl,Ae,Ae,Ae,Ae,Ab rfl,DT (f:=oA) (l:=os) (by rw[h1 4 [] (by simp)];simp[Aa,g4]) rfl (fun x=>by simp),trivial⟩) (fun p=>by simp)
 ·have hN:Ec (Bd d) (s.drop k)=none:=by rw[Qg,if_neg (fun h=>h2 h.1)]
  rw[hN];simp[e2,show((s.length:Int)<(k:Int)+2) by omega];refine AE (.tup []) 0 (C0 (CF s k)) ⟨rfl,by simp⟩ (fun p=>by by_cases hp:p=[]<;>simp[hp,Aa]) (by simp) (by simp) ?_;simp;exact Au (AF 0 (by simp[AV]))
theorem J6 (s:List UInt8) (p:Nat):Mj (s.drop p)=match Cs (s.drop p) with
 |none=>none
 |some (o,k1)=>match AL 62 (s.drop (p+k1)) with
  |none=>none
  |some _=>match Cs (s.drop (p+k1+1)) with
   |none=>none
   |some (n,k2)=>match AL 41 (s.drop (p+k1+1+k2)) with
    |none=>none
    |some _=>some (.mk 1 o n [] [] 0 [],k1+1+k2+1):=by
 unfold Mj;simp only[List.drop_drop,Nat.add_assoc]<;>rfl
theorem TC {s:List UInt8} {k:Nat} {c:UInt8} (h:Bt (s.drop k) c=true):k<s.length:=by
 rcases Nat.lt_or_ge k s.length with h1 | h1
 ·exact h1
 ·rw[List.drop_eq_nil_of_le h1] at h;simp[Bt] at h
theorem NW {α:Type} {f:α→A} {s:List UInt8} {k:Nat} {o:Option (α × Nat)}:Jv f s k (JR 1 o)=Jv f s (k+1) o:=by
 rcases o with _ | ⟨x,n⟩
 ·rfl
 ·simp[JR,Jv,Nat.add_assoc]
def zE:List A:=[iv 0,iv 0,.sl true [],.sl true [],iv 0,.sl true [],.sl true [],.sl true [],.sl true [],iv 0,.sl true []]
set_option maxHeartbeats 8000000 in
theorem Q7 {s:List UInt8} (hs:s.length≤1000000000):∀ d,d≤1000→s9 d s:=by
 intro d;induction d with
 |zero=>
  intro _ k hk;refine Ie M5 (by simp) (Ag AJ (Ag AO Al)) (FV Pd) fun w0 I0 M0 m0 hM=>?_;unfold IK;simp;refine AE (.tup []) 0 (C0 (CF s k)) ⟨rfl,by simp[Bd]⟩ (fun p=>by simp[Aa]) (by simp) (by simp) ?_;simp;exact Au (AF 0 (by simp[AV]))
 |succ d ih=>
  intro hd k hk;have hT:=ih (by omega);refine Ie M5 (by simp) (Ag AJ (Ag AO Al)) (FV Pd) fun w0 I0 M0 m0 hM=>?_;unfold IK;simp[show ¬ ((d:Int)+1=0) by omega];have t0:=Ks s k 61 hk hs (by decide);rw[Bd];cases e0:Bt (s.drop k) 61 with
  |true=>
   rw[e0] at t0;refine Ai 0 t0 (fun p=>by simp[Aa]) (by simp) (by simp[List.isPrefixOf]) ?_;simp;refine Ax ?_;simp[Aa,HF];refine GU hM (fun _=>False) (fun r h=>h.elim) (e:=E0) (cs:=zE) (by simp[Aa,zE]) (fun H1 h1=>⟨Ab rfl,Ab rfl,Ae,Ae,Ab rfl,Ae,Ae,Ae,Ae,Ab rfl,Ae,trivial⟩) (fun p=>by simp)
  |false=>
   rw[e0] at t0;refine Ai 0 t0 (fun p=>by simp[Aa]) (by simp) (by simp[List.isPrefixOf]) ?_;simp;have t1:=Ks s k 40 hk hs (by decide);cases e1:Bt (s.drop k) 40 with
   |true=>
    have hlt:=TC e1;rw[e1] at t1;refine Ai 0 t1 (fun p=>by simp) (by simp) (by simp[List.isPrefixOf]) ?_;simp[NW,List.drop_drop];have t2:=Jb hs (k+1) (by omega);cases e2:Cs (s.drop (k+1)) with
    |none=>
     rw[e2] at t2;refine AE (tX T0) 0 t2 ⟨rfl,by rw[J6,e2];rfl⟩ (fun p=>by simp) (by simp) (by simp[List.isPrefixOf]) ?_;simp[Aa];exact Au (AF 0 (by simp[AV]))
    |some q2=>
     obtain⟨o,k1⟩:=q2;rw[e2] at t2;have b2:=Jz e2;simp only[List.length_drop] at b2;refine Ai 0 t2 (fun p=>by simp) (by simp) (by simp[List.isPrefixOf]) ?_;simp[Aa,splice];refine Ax ?_;have t3:=Ff (s:=s) (k:=k+1+k1) (c:=62) (by omega) hs (by decide);simp;cases e3:AL 62 (s.drop (k+1+k1)) with
     |none=>
      rw[e3] at t3;refine AE (.tup []) 0 t3 ⟨rfl,by rw[J6,e2];simp only;rw[e3];rfl⟩ (fun p=>by simp) (by simp) (by simp[List.isPrefixOf]) ?_;simp;exact Au (AF 0 (by simp[AV]))
     |some n3=>
      rw[e3] at t3;obtain⟨rfl,b3⟩:=Bv e3;simp only[List.length_drop] at b3;refine Ai 0 t3 (fun p=>by simp) (by simp) (by simp[List.isPrefixOf]) ?_;simp;refine Ax ?_;have t4:=Jb hs (k+1+k1+1) (by omega);simp;cases e4:Cs (s.drop (k+1+k1+1)) with
      |none=>
       rw[e4] at t4;refine AE (tX T0) 0 t4 ⟨rfl,by rw[J6,e2];simp only;rw[e3];simp only;rw[e4];rfl⟩ (fun p=>by simp) (by simp) (by simp[List.isPrefixOf]) ?_;simp[Aa,splice];exact Au (AF 0 (by simp[AV]))
      |some q4=>
       obtain⟨n,k2⟩:=q4;rw[e4] at t4;have b4:=Jz e4;simp only[List.length_drop] at b4;refine Ai 0 t4 (fun p=>by simp) (by simp) (by simp[List.isPrefixOf]) ?_;simp[Aa,splice];refine Ax ?_;have t5:=Ff (s:=s) (k:=k+1+k1+1+k2) (c:=41) (by omega) hs (by decide);simp;cases e5:AL 41 (s.drop (k+1+k1+1+k2)) with
       |none=>
        rw[e5] at t5;refine AE (.tup []) 0 t5 ⟨rfl,by rw[J6,e2];simp only;rw[e3];simp only;rw[e4];simp only;rw[e5];rfl⟩ (fun p=>by simp) (by simp) (by simp[List.isPrefixOf]) ?_;simp;exact Au (AF 0 (by simp[AV]))
       |some n5=>
        rw[e5] at t5;obtain⟨rfl,b5⟩:=Bv e5;have hE:Mj (s.drop (k+1))=some (.mk 1 o n [] [] 0 [],k1+1+k2+1):=by rw[J6,e2];simp only;rw[e3];simp only;rw[e4];simp only;rw[e5]
        rw[hE];refine Ai 0 t5 (fun p=>by simp) (by simp) (by simp[List.isPrefixOf]) ?_;simp;refine Ax ?_;simp[Aa,HF];rw[show k+1+(k1+1+k2+1)=k+1+k1+1+k2+1 by omega];refine GU hM (fun _=>False) (fun r h=>h.elim) (e:=.mk 1 o n [] [] 0 []) (cs:=[iv 1,iv o.kind,Gn o.words,DY o.kids,iv n.kind,Gn n.words,DY n.kids,.sl true [],.sl true [],iv 0,.sl true []]) (by simp[Aa]) (fun H1 h1=>⟨Ab rfl,Ab rfl,Ae,Ae,Ab rfl,Ae,Ae,Ae,Ae,Ab rfl,Ae,trivial⟩) (fun p=>by simp)
   |false=>
    rw[e1] at t1;refine Ai 0 t1 (fun p=>by simp) (by simp) (by simp[List.isPrefixOf]) ?_;simp;have t2:=Ks s k 115 hk hs (by decide);cases e2:Bt (s.drop k) 115 with
    |true=>
     have hlt:=TC e2;rw[e2] at t2;refine Ai 0 t2 (fun p=>by simp) (by simp) (by simp[List.isPrefixOf]) ?_;simp[NW,List.drop_drop];have t3:=Tu hs (by omega) hT (k+1) (by omega);cases e3:Ei (Bd d) (s.drop (k+1)) with
     |none=>
      rw[e3] at t3;refine AE (eX E0) 0 t3 ⟨rfl,rfl⟩ (fun p=>by simp) (by simp) (by simp[List.isPrefixOf]) ?_;simp[Aa];exact Au (AF 0 (by simp[AV]))
     |some q3=>
      obtain⟨e,k1⟩:=q3;rw[e3] at t3;refine Ai 0 t3 (fun p=>by simp) (by simp) (by simp[List.isPrefixOf]) ?_;simp[Aa,splice];refine Ax ?_;simp[Aa,HF];refine GU hM (fun _=>False) (fun r h=>h.elim) (e:=e) (cs:=eL e) (by simp[Aa]) (fun H1 h1=>⟨Ab rfl,Ab rfl,Ae,Ae,Ab rfl,Ae,Ae,Ae,Ae,Ab rfl,Ae,trivial⟩) (fun p=>by simp)
    |false=>
     rw[e2] at t2;refine Ai 0 t2 (fun p=>by simp) (by simp) (by simp[List.isPrefixOf]) ?_;simp;have t3:=Ff (s:=s) (k:=k) (c:=108) hk hs (by decide);cases e3:Bt (s.drop k) 108 with
     |false=>
      rw[show AL 108 (s.drop k)=none by unfold AL;rw[e3];rfl] at t3;refine AE (.tup []) 0 t3 ⟨rfl,rfl⟩ (fun p=>by simp) (by simp) (by simp[List.isPrefixOf]) ?_;simp;exact Au (AF 0 (by simp[AV]))
     |true=>
      have hlt:=TC e3;rw[show AL 108 (s.drop k)=some 1 by unfold AL;rw[e3];rfl] at t3;refine Ai 0 t3 (fun p=>by simp) (by simp) (by simp[List.isPrefixOf]) ?_;simp[NW,List.drop_drop];refine Ax ?_;have t4:=WU hs (by omega) hT (k+1) (by omega);simp;cases e4:Ec (Bd d) (s.drop (k+1)) with
      |none=>
       rw[e4] at t4;refine AE (eX E0) 0 t4 ⟨rfl,rfl⟩ (fun p=>by simp) (by simp) (by simp[List.isPrefixOf]) ?_;simp[Aa];exact Au (AF 0 (by simp[AV]))
      |some q4=>
       obtain⟨e,k1⟩:=q4;rw[e4] at t4;refine Ai 0 t4 (fun p=>by simp) (by simp) (by simp[List.isPrefixOf]) ?_;simp[Aa,splice];refine Ax ?_;simp[Aa,HF];refine GU hM (fun _=>False) (fun r h=>h.elim) (e:=e) (cs:=eL e) (by simp[Aa]) (fun H1 h1=>⟨Ab rfl,Ab rfl,Ae,Ae,Ab rfl,Ae,Ae,Ae,Ae,Ab rfl,Ae,trivial⟩) (fun p=>by simp)
end Go.Proofs.YtgkdikddjfgajaaGreatDoor
namespace Go.Proofs.YtgkdikddjfgajaaGreatDoor
set_option maxRecDepth 20000
open Go Go.G Go.Proofs Go.PL Go.RowKit
theorem Qa {c:Cx} {nms:Nat→Nm} {need:Nat→Nat→Bool} {ops:Array Oper} {K:Sta→Prop} {Q:Exit→Act→List Frame→World→Prop} {cs:List Frame} (hd:Fy c.n ops=true) (hdie:∀ t,¬ c.die t) (hQ:∀ st a w I μ,SR c st a w I μ→K st→Q .normal a cs w) :
  ∀ (l:List Oper) (k:Nat) (lg:Lg) (st:Sta) (a:Act) (w:World) (I:Nat→Prop) (μ:Mu),(∀ j,l[j]? = ops[k+j]?)→SR c st a w I μ→UW c.P c.die nms need ops K l k lg st→wpOpsS c.P ops Q (List.range' k l.length) a cs w
 |[],k,lg,st,a,w,I,μ,_,h,hs=>hQ st a w I μ h hs
 |o::l,k,lg,st,a,w,I,μ,hl,h,hs=>by
  obtain⟨x,E,f,⟨q,x0,hg,h1,rfl,h2⟩,_,hs⟩:=hs;have h0:ops[k]? = some o:=by simpa using (hl 0).symm
  have hw:=Gw h hd hg;have hdst:=G8 hd h0;have next:∀ a' w' I' μ',SR c (st.put o.dst (gd q x0) (E.app st.H)) a' w' I' μ'→wpOpsS c.P ops Q (List.range' (k+1) l.length) a' cs w':=fun a' w' I' μ' h'=>
   Qa hd hdie hQ l (k+1) _ _ a' w' I' μ' (fun j=>by have:=hl (j+1);simpa[Nat.add_assoc,Nat.add_comm 1 j] using this) h' hs
  simp only[List.length_cons,List.range'_succ,wpOpsS,h0,hw];cases q with
  |true=>
   rw[if_pos rfl];have:=LV (Q:=fun e a' w'=>Q e a' cs w') h hdst (h1 rfl) (fun t w' e k'=>(hdie t e).elim) next
   unfold Oper.wp at this;split
   ·rename_i w' hr;rw[hr] at this;exact this.elim
   ·exact this
  |false=>
   rw[if_neg (by simp)];obtain⟨rfl,_,_⟩:=h2 rfl;exact next _ _ I μ (Jh h hdst)
noncomputable def wR:Code:=Tryz.f89.body.getD .ret
def D4:Code→Array Oper
 |.seq (.region _ ops _) _=>ops
 |_=>#[]
def D2:Code→Code
 |.seq _ y=>y
 |_=>.ret
def dI:List CO:=[
 co (some 4) (.move (.tmp 6)) none,
 co (some 7) (.extract (.tmp 4) 0) none,
 co (some 8) (.extract (.tmp 4) 1) none,
 cn (some 2) (.alloc 159) none [2],
 co none (.store 159 (.tmp 2) (.tmp 7)) none,
 co (some 3) (.assign (.tmp 8)) none]
def Su:CC:=.seq (.reg [co (some 9) (.move (.tmp 3)) none] [0,1,9]) (.cond (.tmp 9)
 (.reg [co (some 10) (.build 73 #[]) none,co none (.store 73 (.tmp 0) (.tmp 10)) none,co none (.store 4 (.tmp 1) (.const (.bool false))) none] []) .skip)
theorem lj:Jp (D4 wR) false (OX (D4 wR)) [(5,[2])] 2 ((D4 wR).toList.drop 2)=some dI:=by kernel_rfl
theorem ji:C8 11 (D2 wR) [([0,1,9],[]),([],[]),([],[])]=some (Su,[]):=by kernel_rfl
theorem xP:wR = .seq (.region 0 (D4 wR) false) (D2 wR):=by kernel_rfl
theorem Vs {P:Program} {ops:Array Oper} {Q:Exit→Act→List Frame→World→Prop} {i:Nat} {rest:List Nat} {a:Act} {cs cs':List Frame} {w:World} {o:Oper} {v:Value} (ho:ops[i]? = some o) (hw:Region.wanted o (yielded ops a.tmps)=true) (hr:(execOp a.eval o).run P w = .ok .recover w)
  (hv:recoverD cs=some (v,cs')∨(recoverD cs=none∧v = .nilIface∧cs'=cs)) (h:wpOpsS P ops Q rest (a.put o.dst v) cs' w):wpOpsS P ops Q (i::rest) a cs w:=by
 simp only[wpOpsS,ho,hw,if_true,hr];rcases hv with hv | ⟨hv,rfl,rfl⟩
 ·rw[hv];exact h
 ·rw[hv];exact h
theorem aF {P:Program} {ops:Array Oper} {Q:Exit→Act→List Frame→World→Prop} {i:Nat} {rest:List Nat} {a:Act} {cs:List Frame} {w w':World} {o:Oper} {v:Value} (ho:ops[i]? = some o) (hw:Region.wanted o (yielded ops a.tmps)=true) (hr:(execOp a.eval o).run P w = .ok (.value v) w')
  (h:wpOpsS P ops Q rest (a.put o.dst v) cs w'):wpOpsS P ops Q (i::rest) a cs w:=by
 simp only[wpOpsS,ho,hw,if_true,hr];exact h
theorem Ta {w:World} {I:Nat→Prop} {μ:Mu} {H:Hp} {c:Cx} (hP:c.P=Tryz.prog) (hn:c.n=11) (hds:c.ds=[]) (hdie:∀ t,¬ c.die t) (hs:Sim c w I μ H) {p q:Value} {a0 a1 x6:A} (h0:Rel w I μ a0 p) (h1:Rel w I μ a1 q)
  {u u':FrameMode} {v5 v6:Value} (hrec:∀ (c₀:Frame) (cs:List Frame),c₀.mode=u→(recoverD (c₀::cs)=some (v5,{ c₀ with mode:=u' }::cs))∨(recoverD (c₀::cs)=none∧v5 = .nilIface∧u'=u))
  (h6:(Instr.typeAssert v5 20 159 true).run Tryz.prog w = .ok v6 w) (hr6:Rel w I μ x6 v6) {Q:Sta→Prop}
  (h:An Tryz.prog ⟨c.die,fun st=>WPC c Su (fun e st=>e = .normal∧Q st) (st.keep [0,1,3])⟩ dI [] ⟨lk [(0,a0),(1,a1),(6,x6)],H⟩) :
  CallsD Tryz.prog 89 #[p,q] u w fun e u2 w'=>e = .returned (.tuple #[])∧u2=u'∧∃ st' I' μ',Sim c w' I' μ' st'.H∧Q st':=by
 have hb:Tryz.f89.body=some wR:=by kernel_rfl
 refine callsD_of_wpS Tryz.func89 hb fun c₀ cs hu=>?_;rw[xP];apply wpS_seq;apply wpS_region;have hn2:Tryz.f89.ntmps=11:=by kernel_rfl
 have hsz:List.range (D4 wR).size=0::1::List.range' 2 ((D4 wR).toList.drop 2).length:=by kernel_rfl
 have ha:(⟨#[p,q]++Array.replicate (Tryz.f89.ntmps - #[p,q].size) undef,[]⟩:Act)=⟨#[p,q,undef,undef,undef,undef,undef,undef,undef,undef,undef],[]⟩:=by rw[hn2];rfl
 rw[hsz,ha];obtain⟨o0,q0⟩:∃ o,o=(D4 wR)[0]?.getD default:=⟨_,rfl⟩;have o00:(D4 wR)[0]? = some ⟨some 5,.call { callee:=.builtin .recover,args:=#[],argTypes:=#[] },20,"etext.go:233",#[],none⟩:=by kernel_rfl
 have o01:(D4 wR)[1]? = some ⟨some 6,.typeAssert (.tmp 5) 20 159 true,160,"etext.go:233",#[{ on:=0,ground:=.data }],none⟩:=by kernel_rfl
 refine Vs (v:=v5) (cs':={ c₀ with mode:=u' }::cs) o00 rfl rfl ((hrec c₀ cs hu).imp id fun ⟨k1,k2,k3⟩=>⟨k1,k2,by subst k3;subst hu;rfl⟩) ?_;refine aF (v:=v6) (w':=w) o01 rfl ?_ ?_
 ·have e1:∀ ρ:Operand→Value,execOp ρ ⟨some 6,.typeAssert (.tmp 5) 20 159 true,160,"etext.go:233",#[{ on:=0,ground:=.data }],none⟩=(do pure (.value (← Instr.typeAssert (ρ (.tmp 5)) 20 159 true))):=fun _=>rfl;rw[e1];simp only[Sem.run_bind];rw[show ∀ a:Act,(a.put (some 5) v5).eval (.tmp 5)=(a.tmps.setIfInBounds 5 v5).getD 5 undef from fun _=>rfl];simp[h6]
 ·obtain⟨a2,ha2⟩:∃ a2,a2=((⟨#[p,q,undef,undef,undef,undef,undef,undef,undef,undef,undef],[]⟩:Act).put (some 5) v5).put (some 6) v6:=⟨_,rfl⟩;have ha3:a2=⟨#[p,q,undef,undef,undef,v5,v6,undef,undef,undef,undef],[]⟩:=by rw[ha2];rfl
  rw[← ha2];have sr:SR c ⟨lk [(0,a0),(1,a1),(6,x6)],H⟩ a2 w I μ:=by
   refine⟨hs,by rw[ha3,hn];rfl,by rw[ha3,hds],fun t=>?_⟩;rw[ha3];show Rel w I μ (lk [(0,a0),(1,a1),(6,x6)] t) _;simp only[Pf,X7];by_cases t0:0=t
   ·subst t0;exact h0
   by_cases t1:1=t
   ·subst t1;exact h1
   by_cases t6:6=t
   ·subst t6;exact hr6
   rw[if_neg t0,if_neg t1,if_neg t6];exact .any _ _
  have hd:Fy 11 (D4 wR)=true:=by kernel_rfl
  have hl:=Ls (P:=Tryz.prog) (ops:=D4 wR) (draw:=false) (K:=⟨c.die,fun st=>WPC c Su (fun e st=>e = .normal∧Q st) (st.keep [0,1,3])⟩) ((D4 wR).toList.drop 2) 2 dI [] [] _ lj (by kernel_rfl) (fun p hp=>by simp at hp) h;have hh:=Qa (c:=c) (Q:=Exit.thenS ((D2 wR).wpS Tryz.prog (bodyPostS Tryz.prog Tryz.f89 c₀ cs fun e u2 w'=>e = .returned (.tuple #[])∧u2=u'∧∃ st' I' μ',Sim c w' I' μ' st'.H∧Q st')) (bodyPostS Tryz.prog Tryz.f89 c₀ cs fun e u2 w'=>e = .returned (.tuple #[])∧u2=u'∧∃ st' I' μ',Sim c w' I' μ' st'.H∧Q st')) (cs:={ c₀ with mode:=u' }::cs) (ops:=D4 wR) (K:=fun st=>WPC c Su (fun e st=>e = .normal∧Q st) (st.keep [0,1,3])) (by rw[hn];exact hd) hdie (fun st a w I μ hsr hK=>?_) ((D4 wR).toList.drop 2) 2 [] _ a2 w I μ (fun j=>by simp) sr (by rw[hP];exact hl)
  ·rw[hP] at hh;exact hh
  ·obtain⟨I2,μ2,h3⟩:=M9 [0,1,3] a w I μ hsr;have hw:=DH (c:=c) (by rw[hP];exact mixed) (by rw[hn];exact B8 ji) hK a w I2 μ2 h3;rw[hP] at hw;refine wpS_of_wp (wp_mono hw fun e a' w' hu=>?_);rcases hu with ⟨st',I',μ',g1,rfl,g2⟩ | ⟨t,k,_⟩
   ·exact⟨g1.defers.trans hds,u',rfl,.tuple #[],by kernel_rfl,rfl,rfl,st',I',μ',g1.sim,g2⟩
   ·exact(hdie t k).elim
@[simp] theorem vP:A1 Tryz.prog 159=some (.agg #[]):=by kernel_rfl
@[simp] theorem AcB:B2 Tryz.prog 159=some 0:=by kernel_rfl
@[simp] theorem AbB:B2 Tryz.prog 4=some 1:=by kernel_rfl
@[simp] theorem AaV:Cu Tryz.prog 4=some false:=by kernel_rfl
@[simp] theorem wi:A1 Tryz.prog 4=some (.bool false):=by kernel_rfl
theorem Xb {w:World} {I:Nat→Prop} (hI:∀ b,I b→b<w.heap.size) (ht:Tabs Tryz.prog w I) (p q:Value):CallsD Tryz.prog 89 #[p,q] .returning w fun e u2 w'=>e = .returned (.tuple #[])∧u2 = .returning∧w.grownBy w' none:=by
 refine(Ta (c:=cx Tryz.prog w I 11) (w:=w) (I:=I) (μ:=Jq) (H:=H0) rfl rfl rfl (fun _ h=>h) (HW hI ht) (a0:=.any) (a1:=.any) (x6:=.tup [.agg [],bv false]) (.any _ _) (.any _ _) (u':=.returning) (v5:=.nilIface) (v6:=.tuple #[.agg #[],.bool false]) (fun c₀ cs hu=>.inr ⟨by simp[recoverD,hu],rfl,rfl⟩) (by kernel_rfl) ?_ (Q:=fun _=>True) ?_).mono fun e u2 w' ⟨h1,h2,st',I',μ',h3,_⟩=>⟨h1,h2,?_⟩
 ·refine .tup _ _ _ rfl fun k y hk=>?_
  match k,hk with
  |0,hk=>simp at hk;subst hk;exact .agg _ _ _ rfl fun k y hk=>by simp at hk
  |1,hk=>simp at hk;subst hk;exact .v _ _
 ·unfold dI Su;simp
 ·have k:=h3.kept;exact⟨k.os,k.tape,k.output,k.size,fun b hb _=>k.block b hb (fun ⟨_,h⟩=>h)⟩
theorem Wz {w:World} {I:Nat→Prop} {μ:Mu} {H:Hp} {c:Cx} (hP:c.P=Tryz.prog) (hn:c.n=11) (hds:c.ds=[]) (hdie:∀ t,¬ c.die t) (hs:Sim c w I μ H) {p q:Value} (h0:Rel w I μ (.pob [0] 1 0) p) (h1:Rel w I μ (.pob [1] 1 0) q) {x y:A} {cs:List A} (hc:cs.length=11) (g0:H [0]=⟨1,.cells cs⟩) (g1:H [1]=⟨1,.cells [y]⟩) :
  CallsD Tryz.prog 89 #[p,q] (.panicking [LH Mx]) w fun e u2 w'=>e = .returned (.tuple #[])∧u2 = .panicking [{ v:=.iface Mx (.agg #[]),recovered:=true }]∧∃ H' I' μ',Sim c w' I' μ' H'∧H' [0]=⟨1,.cells zE⟩∧H' [1]=⟨1,.cells [bv false]⟩:=by
 refine(Ta (c:=c) (w:=w) (I:=I) (μ:=μ) (H:=H) hP hn hds hdie hs (a0:=.pob [0] 1 0) (a1:=.pob [1] 1 0) (x6:=.tup [.agg [],bv true]) h0 h1 (u':=.panicking [{ v:=.iface Mx (.agg #[]),recovered:=true }]) (v5:=.iface Mx (.agg #[])) (v6:=.tuple #[.agg #[],.bool true]) (fun c₀ cs hu=>.inl (by simp[recoverD,hu,LH])) (by kernel_rfl) ?_ (Q:=fun st=>st.H [0]=⟨1,.cells zE⟩∧st.H [1]=⟨1,.cells [bv false]⟩) ?_).mono fun e u2 w' ⟨h1,h2,st',I',μ',h3,h4⟩=>⟨h1,h2,st'.H,I',μ',h3,h4.1,h4.2⟩
 ·refine .tup _ _ _ rfl fun k y hk=>?_
  match k,hk with
  |0,hk=>simp at hk;subst hk;exact .agg _ _ _ rfl fun k y hk=>by simp at hk
  |1,hk=>simp at hk;subst hk;exact .v _ _
 ·unfold dI Su;simp[hP,g0,g1,Aa,hc,zE]
noncomputable def wB:Code:=Tryz.f54.body.getD .ret
def YK:Code→Code
 |.seq x _=>x
 |_=>.ret
noncomputable def m7:Code:=D2 (D2 (D2 wB))
def cR0:CC:=.reg [cn (some 2) (.alloc 73) none [0],cn (some 3) (.alloc 4) none [1]] [0,2,3]
def cR2:CC:=.reg [co (some 6) (.move (.tmp 0)) none,co (some 7) (.build 163 #[(0,.tmp 6)]) none,cn (some 8) (.box 163 (.tmp 7)) none [2],co (some 4) (.assign (.tmp 8)) none] [0,2,3,4]
def c34:CC:=.seq (.reg [co (some 9) (.move (.tmp 4)) none,
  co (some 10) (.call { callee:=(.value (.func 90)),args:=#[(.tmp 9),(.const (.int .i64 64))],argTypes:=#[161,3] }) none,
  co none (.store 73 (.tmp 2) (.tmp 10)) none] [0,2,3,4])
 (.seq (.reg [co (some 11) (.load 73 (.tmp 2)) none,
  co (some 12) (.move (.tmp 4)) none,
  co (some 13) (.nilCheck (.tmp 12)) none,
  co (some 14) (.fieldAddr 163 (.tmp 13) 1) none,
  ⟨some 15,.load 3 (.tmp 14),none,[],4,[],true⟩,
  co (some 16) (.move (.tmp 0)) none,
  co (some 17) (.call { callee:=(.builtin .len),args:=#[(.tmp 16)],argTypes:=#[9] }) none,
  co (some 18) (.binOp .eql 3 (.tmp 15) (.tmp 17) 3) none,
  ⟨none,.store 73 (.tmp 2) (.tmp 11),none,[],8,[4],false⟩,
  co none (.store 4 (.tmp 3) (.tmp 18)) none] [2,3])
 .ret)
theorem qP:C8 19 (YK wB) [([0,2,3],[(0,[0]),(1,[1])])]=some (cR0,[]):=by kernel_rfl
theorem oP:C8 19 (YK (D2 (D2 wB))) [([0,2,3,4],[(2,[2])])]=some (cR2,[]):=by kernel_rfl
theorem pq:C8 19 m7 [([0,2,3,4],[]),([],[]),([2,3],[]),([],[])]=some (c34,[]):=by kernel_rfl
theorem vY:wB = .seq (YK wB) (.seq (.region 1 (D4 (D2 wB)) false) (.seq (YK (D2 (D2 wB))) m7)):=by kernel_rfl
def ju (p q:Value):Deferred:=⟨.fn (.func 89) #[p,q],#[]⟩
theorem wD {Q:Exit→Act→World→Prop} {a:Act} {w:World} (hs:a.tmps.size=19) (hd:a.defers=[]) (h:Q .normal ⟨a.tmps.setIfInBounds 5 (.func (.func 89) #[] #[a.eval (.tmp 2),a.eval (.tmp 3)]),[ju (a.eval (.tmp 2)) (a.eval (.tmp 3))]⟩ w):(Code.region 1 (D4 (D2 wB)) false).wp Tryz.prog Q a w:=by
 apply wp_region;have o0:(D4 (D2 wB))[0]? = some ⟨some 5,.makeFunc (.func 89) #[] #[.tmp 2,.tmp 3],1,"etext.go:232",#[],none⟩:=by kernel_rfl
 have o1:(D4 (D2 wB))[1]? = some ⟨none,.defer { callee:=.value (.tmp 5),args:=#[],argTypes:=#[] },0,"etext.go:232",#[{ on:=0,ground:=.data }],none⟩:=by kernel_rfl
 have hsz:List.range (D4 (D2 wB)).size=[0,1]:=by kernel_rfl
 rw[hsz];simp only[wpOps,o0,o1];rw[if_pos (by rfl)];refine .inl ?_;have e0:∀ ρ:Operand→Value,(execOp ρ ⟨some 5,.makeFunc (.func 89) #[] #[.tmp 2,.tmp 3],1,"etext.go:232",#[],none⟩).run Tryz.prog w = .ok (.value (.func (.func 89) #[] #[ρ (.tmp 2),ρ (.tmp 3)])) w:=fun ρ=>by
  have:execOp ρ ⟨some 5,.makeFunc (.func 89) #[] #[.tmp 2,.tmp 3],1,"etext.go:232",#[],none⟩=(do pure (.value (← Instr.makeFunc (.func 89) ((#[]:Array Operand).map ρ) (#[.tmp 2,.tmp 3].map ρ)))):=rfl;rw[this];simp only[List.map_toArray,List.map_cons,List.map_nil];rfl
 unfold Oper.wp;rw[e0,Oper.upon_value];rw[if_pos (by rfl)];refine .inl ?_;have e1:∀ (ρ:Operand→Value) (x y:Value),ρ (.tmp 5) = .func (.func 89) #[] #[x,y]→(execOp ρ ⟨none,.defer { callee:=.value (.tmp 5),args:=#[],argTypes:=#[] },0,"etext.go:232",#[{ on:=0,ground:=.data }],none⟩).run Tryz.prog w = .ok (.defer (ju x y)) w:=fun ρ x y hx=>by
  have:execOp ρ ⟨none,.defer { callee:=.value (.tmp 5),args:=#[],argTypes:=#[] },0,"etext.go:232",#[{ on:=0,ground:=.data }],none⟩=(do pure (.defer (← resolve ρ { callee:=.value (.tmp 5),args:=#[],argTypes:=#[] } 0))):=rfl;rw[this];simp only[resolve,hx,List.map_toArray,List.map_nil];rfl
 rw[e1 _ (a.eval (.tmp 2)) (a.eval (.tmp 3)) (by simp[Act.eval,Act.put,hs])];rw[Oper.upon_defer];simp only[Act.put,hd];exact h
theorem S7 {w w5:World} {I I5:Nat→Prop} {μ5:Mu} {H5:Hp} {c:Cx} (hP:c.P=Tryz.prog) (hs:Sim c w5 I5 μ5 H5) (hN:∀ b,I5 b→I b∨(w.heap.size≤b∧b<w5.heap.size)) (hO:∀ o,BJ (μ5 o) (H5 o).ob=true→w.heap.size≤(μ5 o).b) {tmps:Array Value} (hsz:tmps.size=19) (h2:Rel w5 I5 μ5 (.pob [0] 1 0) (tmps.getD 2 undef)) (h3:Rel w5 I5 μ5 (.pob [1] 1 0) (tmps.getD 3 undef)) {e:E} {b:Bool} {cs:List A}
  (g0:H5 [0]=⟨1,.cells cs⟩) (hcs:cs.length=11) (hcf:FF H5 cs (eL e)) (g1:H5 [1]=⟨1,.cells [bv b]⟩):∃ v,(results Tryz.f54 tmps).run Tryz.prog w5 = .ok v w5∧Rel w5 (MA w I w5) Jq (.tup [eX e,bv b]) v:=by
 have hs2:Sim { c with n:=19,ds:=[] } w5 I5 μ5 H5:=⟨hs.kept,hs.lt,hs.old,hs.new,hs.ver,hs.ob,hs.apart,hs.own,hs.mle,hs.tag,hs.tab⟩;have sr:SR { c with n:=19,ds:=[] } ⟨lk [(2,.pob [0] 1 0),(3,.pob [1] 1 0)],H5⟩ ⟨tmps,[]⟩ w5 I5 μ5:=by
  refine⟨hs2,hsz,rfl,fun t=>?_⟩;show Rel w5 I5 μ5 (lk [(2,.pob [0] 1 0),(3,.pob [1] 1 0)] t) (tmps.getD t undef);simp only[Pf,X7];by_cases t0:2=t
  ·subst t0;exact h2
  by_cases t1:3=t
  ·subst t1;exact h3
  rw[if_neg t0,if_neg t1];exact .any _ _
 have hre:Tryz.f54.results.toList=[.cell 2 73,.cell 3 4]:=by kernel_rfl
 obtain⟨v,k1,k2⟩:=HN (fn:=Tryz.f54) sr (x:=.tup [.agg cs,bv b]) (by rw[hre];simp[hP,FW,g0,g1,hcs,DE]);refine⟨v,by rw[← hP];exact k1,?_⟩;have hf:Jw H5 (.tup [.agg cs,bv b]) (.tup [eX e,bv b]):=BL ⟨CK hcf,Ab rfl,trivial⟩;refine(hf _ w5 I5 μ5 v hs2 k2).mono0 (fun x hx=>?_) (fun _ _=>rfl);rcases hx with hx | ⟨o,g,rfl⟩
 ·exact hN x hx
 ·exact .inr ⟨hO o g,(hs.own o g).2.2⟩
def only (r:Nat) (H:Hp):Hp:=fun o=>match o with
 |j::p=>if j=r then H (j::p) else ⟨(H (j::p)).u,.none⟩
 |[]=>⟨(H []).u,.none⟩
theorem ZA {r:Nat} {H:Hp}:Part H (only r H):=fun o=>by
 cases o with
 |nil=>exact .inr rfl
 |cons j p=>
  unfold only;by_cases hj:j=r
  ·simp[hj]
  ·simp[hj]
theorem dU {dt:TypeId} {P:Program} {f:FuncId} {az:Nat→List A} {F:Fam} (hS:YZ dt P f az F) {c:Cx} (hP:c.P=P) {w:World} {I:Nat→Prop} {μ:Mu} {H:Hp} (r:Nat) (hs:Sim c w I μ H) (hF:∀ p,H (r::p)=F.F r p) {vs:Array Value} (hl:vs.size=(az r).length) (hr:∀ (k:Nat) (y:A),(az r)[k]? = some y→Rel w I μ y (vs.getD k undef)) :
  Calls P f vs w fun e w'=>e = .panicked [LH dt]∧Kept (fun b=>∃ p,BJ (μ (r::p)) (H (r::p)).ob=true∧b=(μ (r::p)).b) w w':=by
 have ho:∀ p,(only r H) (r::p)=H (r::p):=fun p=>by unfold only;simp
 have hF2:∀ p,(only r H) (r::p)=F.F r p:=fun p=>(ho p).trans (hF p);have hH:=XV hF2;have hcl:=LL hF2;have e1:A.renL (Uw [r]) (fun _=>0) (az r)=az 0:=hS.fa.ren (fun q=>by simp[Uw]) (fun _=>rfl);have e2:A.refsL (Zn [r] 1) (az r):=hS.fa.refs (fun q=>by simp[Zn]);have hk:=Wp (dt:=dt) (P:=P) (f:=f) (rs:=[r]) (m:=1) (args:=az r) (Hc:=ov 0 (F.F 0) (Dj [])) (H:=only r H) (by simp) (by simp) (by rw[e1];exact hS.h)
   (fun i p hi=>by
    have:i=0:=by omega
    subst this;rw[← hH];simp only[NG,if_pos hi])
   (fun i p hi=>by rw[← hH];simp only[NG];rw[if_neg (by omega)]) (by rw[← hH];rfl) e2
   (fun i p hi=>by
    have:i=0:=by omega
    subst this;exact hcl _ _ (by simp)) (x:=.any) (E:=Eff.fn [r] (ov r (Fam.dead.F r) (only r H)))
 have hs1:=hs.part (ZA (r:=r));have hs2:Sim ⟨P,w,I,fun o b=>∃ p,o=r::p∧BJ (μ (r::p)) (H (r::p)).ob=true∧b=(μ (r::p)).b,0,μ,fun _=>False,[]⟩ w I μ (only r H):=by
  refine⟨⟨rfl,rfl,rfl,CE _,fun _ _ _=>rfl⟩,hs1.lt,fun _ h=>h,fun b hb=>.inl hb,hs1.ver,hs1.ob,hs1.apart,fun o k=>?_,MuLe.refl _,hs1.tag,by subst hP;exact hs1.tab⟩;obtain⟨g1,_,g3⟩:=hs1.own o k;refine⟨g1,.inl ?_,g3⟩;cases o with
  |nil=>cases k
  |cons j p=>
   by_cases hj:j=r
   ·subst hj;rw[ho] at k;exact⟨p,rfl,k,rfl⟩
   ·unfold only at k;simp only[if_neg hj] at k;cases k
 refine(hk.2 _ w I μ vs rfl hs2 hl hr).mono fun e w' hh=>?_;rcases hh with ⟨v,_,I',μ',_,h2,_⟩ | ⟨t,rfl,h2,h3⟩
 ·have:=h2.ob [r];rw[show(Eff.fn [r] (ov r (Fam.dead.F r) (only r H))).app (only r H) [r]=⟨1,.cells [.any]⟩ by simp[Eff.app,AV]] at this;obtain⟨vs,_,_,h3⟩:=this;have:=(h3 0 .any rfl).1;cases this
 ·exact⟨h2,h3.os,h3.tape,h3.output,h3.size,fun b hb hn=>h3.block b hb fun ⟨o,p,_,k1,k2⟩=>hn ⟨p,k1,k2⟩⟩
def D3 (s:List UInt8):E × Bool:=match Bd 64 s with
 |some (e,n)=>(e,decide (n=s.length))
 |none=>(E0,false)
def kS (P:Program) (w:World) (I:Nat→Prop) (d:Deferred) (m:Mu):Cx:=⟨P,w,I,fun _ _=>False,19,m,fun _=>False,[d]⟩
def yl:Hp:=Dj [([0],⟨1,.cells zE⟩),([1],⟨1,.cells [bv false]⟩)]
def cp (s:List UInt8):Hp:=Dj [([0],⟨1,.cells zE⟩),([1],⟨1,.cells [bv false]⟩),([2],⟨1,.cells [S s,iv 0]⟩)]
@[simp] theorem rJ (ps:List (Nat × A)):Bw Tryz.prog 163 ps=(BU (fun i=>([(0,1),(1,1)]:List (Nat × Nat))[i]?) [A.v (Value.string ByteArray.empty),iv 0] ps).map A.agg:=by kernel_rfl
theorem gy {w:World} {I:Nat→Prop} (s:List UInt8):WPC (cx Tryz.prog w I 19) cR0 (fun e st=>e = .normal∧st=⟨lk [(0,S s),(2,.pob [0] 1 0),(3,.pob [1] 1 0)],yl⟩) ⟨Fk [S s],H0⟩:=by
 unfold cR0;simp[yl,H0,zE]
theorem eZ {w:World} {I:Nat→Prop} {d:Deferred} {m:Mu} (s:List UInt8):WPC (kS Tryz.prog w I d m) cR2 (fun e st=>e = .normal∧st=⟨lk [(0,S s),(2,.pob [0] 1 0),(3,.pob [1] 1 0),(4,.pob [2] 1 0)],cp s⟩) ⟨lk [(0,S s),(2,.pob [0] 1 0),(3,.pob [1] 1 0)],yl⟩:=by
 unfold cR2;simp[yl,cp,kS]
theorem ZY {w:World} {I:Nat→Prop} {d:Deferred} {m:Mu} {s:List UInt8} (hs:s.length≤1000000000) {e:E} {n:Nat} (he:Bd 64 s=some (e,n)):WPC (kS Tryz.prog w I d m) c34 (fun ex st=>ex = .ret∧st.s 2 = .pob [0] 1 0∧st.s 3 = .pob [1] 1 0∧st.H [0]=⟨1,.cells (eL e)⟩∧st.H [1]=⟨1,.cells [bv (decide (n=s.length))]⟩) ⟨lk [(0,S s),(2,.pob [0] 1 0),(3,.pob [1] 1 0),(4,.pob [2] 1 0)],cp s⟩:=by
 have t0:=Q7 hs 64 (by omega) 0 (by omega);rw[List.drop_zero,he] at t0;unfold c34;simp[kS];refine Ai 2 t0 (fun p=>?_) (by simp) (by simp) ?_
 ·by_cases hp:p=[]<;>simp[hp,cp]
 simp[cp,zE];exact⟨fun h=>by omega,fun h=>by omega⟩
theorem oV:m7 = .seq (.region 3 (D4 m7) false) (D2 m7):=by kernel_rfl
theorem ZI {P:Program} {g:FuncId} (hk:Ji P g=true) (vs:Array Value) (w:World):(callFunc g vs).run P w = .ok (.enter g vs) w:=by
 unfold Ji at hk;cases hf:P.funcs[g]? with
 |none=>simp[hf] at hk
 |some fn=>
  simp only[hf,Bool.and_eq_true,Bool.not_eq_true'] at hk;have hb:fn.body.isNone=false:=by cases hq:fn.body<;>simp_all
  simp only[callFunc,Sem.run_bind,run_program,Result.andThen_ok,hf,hk.2,hb,Bool.false_eq_true,if_false,Sem.run_pure]
theorem bM {s:List UInt8} {w:World} {I:Nat→Prop} {vs:Array Value} (hI:∀ b,I b→b<w.heap.size) (htb:Tabs Tryz.prog w I) (hl:vs.size=[S s].length) (hr:∀ (k:Nat) (y:A),[S s][k]? = some y→Rel w I Jq y (vs.getD k undef)) :
  SR (cx Tryz.prog w I 19) ⟨Fk [S s],H0⟩ ⟨vs++Array.replicate (Tryz.f54.ntmps-vs.size) undef,[]⟩ w I Jq:=by
 have hn2:Tryz.f54.ntmps=19:=by kernel_rfl
 rw[hn2];refine⟨HW hI htb,?_,rfl,fun t=>?_⟩
 ·simp at hl ⊢;show _=19;omega
 ·show Rel w I Jq (Fk [S s] t) _;unfold Fk;cases hq:[S s][t]? with
  |none=>exact .any _ _
  |some y=>
   have hlt:=(List.getElem?_eq_some_iff.1 hq).1;have e:(vs++Array.replicate (19-vs.size) undef).getD t undef=vs.getD t undef:=by
    simp only[Array.getD_eq_getD_getElem?];rw[Array.getElem?_append_left (by omega)]
   rw[e];exact hr t y hq
theorem TX {w w':World} {I I':Nat→Prop} {μ μ':Mu} {o:Nm} {u off:Nat} {v:Value} (h:Rel w I μ (.pob o u off) v) (hm:MuLe μ μ'):Rel w' I' μ' (.pob o u off) v:=by
 cases h with
 |pob _ _ _ _ b k h1 h2 h3=>
  have:=hm o;refine .pob _ _ _ _ _ _ h1 (by omega) fun e=>?_;have e2:(μ' o).u=(μ o).u:=by omega
  rw[this.2 e2];exact h3 (by omega)
theorem Vp {s:List UInt8} (hs:s.length≤1000000000):G.Spec Tryz.prog 54 [S s] (.tup [eX (D3 s).1,bv (D3 s).2]):=by
 refine⟨by kernel_rfl,fun w I vs hI htb hl hr=>?_⟩;have hb:Tryz.f54.body=some wB:=by kernel_rfl
 refine calls_of_wp_defers Tryz.func54 hb ?_;have sr0:=bM hI htb hl hr;revert sr0;generalize (⟨vs++Array.replicate (Tryz.f54.ntmps-vs.size) undef,[]⟩:Act)=a0;intro sr0;rw[vY];have g0:=DH (c:=cx Tryz.prog w I 19) mixed (B8 qP) (gy s) a0 w I Jq sr0;refine wp_seq (wp_mono g0 fun ex a1 w1 hu=>?_);rcases hu with ⟨_,I1,μ1,k1,rfl,rfl⟩ | ⟨_,k,_⟩
 case inr=>exact k.elim
 refine wp_seq (wD k1.size k1.defers ?_);obtain⟨p,hp⟩:∃ p,p=a1.eval (.tmp 2):=⟨_,rfl⟩;obtain⟨q,hq⟩:∃ q,q=a1.eval (.tmp 3):=⟨_,rfl⟩;rw[← hp,← hq];have sr1:SR (kS Tryz.prog w I (ju p q) μ1) ⟨lk [(0,S s),(2,.pob [0] 1 0),(3,.pob [1] 1 0)],yl⟩ ⟨a1.tmps.setIfInBounds 5 (.func (.func 89) #[] #[p,q]),[ju p q]⟩ w1 I1 μ1:=by
  refine⟨⟨k1.sim.kept,k1.sim.lt,k1.sim.old,k1.sim.new,k1.sim.ver,k1.sim.ob,k1.sim.apart,k1.sim.own,MuLe.refl _,k1.sim.tag,k1.sim.tab⟩,(Array.size_setIfInBounds ..).trans k1.size,rfl,fun t=>?_⟩;by_cases t5:t=5
  ·subst t5;simp;exact .any _ _
  ·have e:(a1.tmps.setIfInBounds 5 (.func (.func 89) #[] #[p,q])).getD t undef=a1.tmps.getD t undef:=by
    simp only[Array.getD_eq_getD_getElem?];rw[Array.getElem?_setIfInBounds_ne (Ne.symm t5)]
   rw[e];exact k1.rel t
 have hpp:Rel w1 I1 μ1 (.pob [0] 1 0) p:=by rw[hp];exact k1.rel 2
 have hqq:Rel w1 I1 μ1 (.pob [1] 1 0) q:=by rw[hq];exact k1.rel 3
 have g2:=DH (c:=kS Tryz.prog w I (ju p q) μ1) mixed (B8 oP) (eZ s) _ w1 I1 μ1 sr1;refine wp_seq (wp_mono g2 fun ex a2 w2 hu=>?_);rcases hu with ⟨_,I2,μ2,k2,rfl,rfl⟩ | ⟨_,k,_⟩
 case inr=>exact k.elim
 have hinv:∀ w',(invoke (ju p q).target #[]).run Tryz.prog w' = .ok (.enter 89 #[p,q]) w':=fun _=>by kernel_rfl
 cases hE:Bd 64 s with
 |some r=>
  obtain⟨e,n⟩:=r;have hW:D3 s=(e,decide (n=s.length)):=by unfold D3;rw[hE]
  rw[hW];have g3:=DH (c:=kS Tryz.prog w I (ju p q) μ1) mixed (B8 pq) (ZY hs hE) _ w2 I2 μ2 k2;refine wp_mono g3 fun ex a3 w3 hu=>?_;rcases hu with ⟨st,I3,μ3,k3,rfl,j2,j3,j0,j1⟩ | ⟨_,k,_⟩
  case inr=>exact k.elim
  show Leaves Tryz.prog _ a3.tmps _ a3.defers .returning w3;rw[k3.defers];refine leaves_cons (by simp) (hinv w3) ((Xb k3.sim.lt k3.sim.tab p q).mono fun e2 u w' hh=>?_);obtain⟨rfl,rfl,hg⟩:=hh;obtain⟨hx,hs'⟩:=k3.sim.same hg (fun _ h=>h) (fun _ h=>.inl h);have r2:=k3.rel 2;have r3:=k3.rel 3;rw[j2] at r2;rw[j3] at r3;obtain⟨v,f1,f2⟩:=S7 (w:=w) (I:=I) rfl hs' (fun b hb=>(hs'.new b hb).imp id fun h=>⟨h,hs'.lt b hb⟩) (fun o k=>(hs'.own o k).2.1.resolve_left id) k3.size (hx.rel r2) (hx.rel r3) j0 rfl ⟨Ab rfl,Ab rfl,Ae,Ae,Ab rfl,Ae,Ae,Ae,Ae,Ab rfl,Ae,trivial⟩ j1;have kp:=hs'.kept;exact⟨v,f1,v,rfl,⟨kp.os,kp.tape,kp.output,kp.size,fun b hb=>kp.block b hb (fun ⟨_,h⟩=>h)⟩,f2⟩
 |none=>
  have hW:D3 s=(E0,false):=by unfold D3;rw[hE]
  rw[hW];rw[oV];refine wp_seq (wp_region ?_);have o0:(D4 m7)[0]? = some ⟨some 9,.move (.tmp 4),161,"etext.go:238",#[],none⟩:=by kernel_rfl
  have o1:(D4 m7)[1]? = some ⟨some 10,.call { callee:=.value (.func 90),args:=#[.tmp 9,.const (.int .i64 64)],argTypes:=#[161,3] },73,"etext.go:238",#[{ on:=0,ground:=.data }],none⟩:=by kernel_rfl
  have hsz:List.range (D4 m7).size=[0,1,2]:=by kernel_rfl
  rw[hsz];have x0:∀ ρ:Operand→Value,(execOp ρ ⟨some 9,.move (.tmp 4),161,"etext.go:238",#[],none⟩).run Tryz.prog w2 = .ok (.value (ρ (.tmp 4))) w2:=fun _=>rfl;have x1:∀ a:Act,(execOp a.eval ⟨some 10,.call { callee:=.value (.func 90),args:=#[.tmp 9,.const (.int .i64 64)],argTypes:=#[161,3] },73,"etext.go:238",#[{ on:=0,ground:=.data }],none⟩).run Tryz.prog w2 = .ok (.enter 90 #[a.eval (.tmp 9),.int .i64 64]) w2:=fun a=>by
   rw[show execOp a.eval ⟨some 10,.call { callee:=.value (.func 90),args:=#[.tmp 9,.const (.int .i64 64)],argTypes:=#[161,3] },73,"etext.go:238",#[{ on:=0,ground:=.data }],none⟩=callFunc 90 (#[] ++ #[Operand.tmp 9,.const (.int .i64 64)].map a.eval ++ #[]) from rfl];rw[show(#[] ++ #[Operand.tmp 9,.const (.int .i64 64)].map a.eval ++ #[]:Array Value) = #[a.eval (.tmp 9),.int .i64 64] by simp[Act.eval]];exact ZI (by kernel_rfl) _ _
  rw[wpOps,o0];simp only;rw[if_pos (by rfl)];refine .inl ?_;unfold Oper.wp;rw[x0,Oper.upon_value];rw[wpOps,o1];simp only;rw[if_pos (by rfl)];refine .inl ?_;unfold Oper.wp;rw[x1,Oper.upon_enter];obtain⟨a3,ha3⟩:∃ a3,a3=a2.put (some 9) (a2.eval (.tmp 4)):=⟨_,rfl⟩;rw[← ha3];have t0:=Q7 hs 64 (by omega) 0 (by omega);rw[List.drop_zero,hE] at t0;have hv:a3.eval (.tmp 9)=a2.tmps.getD 4 undef:=by
   rw[ha3];have:=k2.size;have:9<a2.tmps.size:=by rw[this];show 9<19;omega
   simp[Act.eval,Act.put,this]
  have e3:a3.tmps.size=19:=by
   rw[ha3];simp only[Act.put,Array.size_setIfInBounds];exact k2.size
  have e4:a3.defers=[ju p q]:=by rw[ha3];exact k2.defers
  have e5:∀ t,t ≠ 9→a3.tmps.getD t undef=a2.tmps.getD t undef:=fun t ht=>by
   rw[ha3];simp only[Act.put,Array.getD_eq_getD_getElem?];rw[Array.getElem?_setIfInBounds_ne (Ne.symm ht)]
  have r4:=k2.rel 4;refine(dU t0 (c:=kS Tryz.prog w I (ju p q) μ1) rfl 2 k2.sim (fun p=>by by_cases hp:p=[]<;>simp[hp,cp]) (vs:=#[a3.eval (.tmp 9),.int .i64 64]) (by simp) (fun k y hk=>?_)).mono fun e2 w3 hh=>?_
  ·match k,hk with
   |0,hk=>simp at hk;subst hk;show Rel _ _ _ _ (a3.eval (.tmp 9));rw[hv];exact r4
   |1,hk=>simp at hk;subst hk;exact .v _ _
  ·obtain⟨rfl,hkp⟩:=hh;show Leaves Tryz.prog _ a3.tmps _ a3.defers (.panicking [LH Mx]) w3;rw[e4];have hg:w2.grownBy w3 (some (μ2 [2]).b):=⟨hkp.os,hkp.tape,hkp.output,hkp.size,fun b hb hne=>hkp.block b hb fun ⟨p,k,e⟩=>by
    by_cases hp:p=[]
    ·subst hp;exact hne (by rw[e])
    ·simp[cp,hp] at k;cases k⟩
   have hB2:BJ (μ2 [2]) (cp s [2]).ob=true:=by simp[cp];rfl
   obtain⟨_,hs3⟩:=k2.sim.upd hg [2] (μ2 [2]) .none (.inr ⟨rfl,hB2⟩) (.inr rfl) (fun h=>nomatch h) (fun h=>nomatch h) (fun _=>trivial);have eμ:Ar μ2 [2] (μ2 [2])=μ2:=by funext o;unfold Ar;split<;>simp_all
   rw[eμ] at hs3;obtain⟨H3,hH3⟩:∃ H3,H3=(Ar (cp s) [2] ⟨(μ2 [2]).u,.none⟩:Hp):=⟨_,rfl⟩;have g30:H3 [0]=⟨1,.cells zE⟩:=by rw[hH3];simp[cp]
   have g31:H3 [1]=⟨1,.cells [bv false]⟩:=by rw[hH3];simp[cp]
   have hs3:Sim (kS Tryz.prog w I (ju p q) μ1) w3 I2 μ2 H3:=by rw[hH3];exact hs3
   have hsC:Sim ⟨Tryz.prog,w3,I2,fun o b=>BJ (μ2 o) (H3 o).ob=true∧b=(μ2 o).b,11,μ2,fun _=>False,[]⟩ w3 I2 μ2 H3:=
    ⟨⟨rfl,rfl,rfl,CE _,fun _ _ _=>rfl⟩,hs3.lt,fun _ h=>h,fun b hb=>.inl hb,hs3.ver,hs3.ob,hs3.apart,fun o k=>⟨(hs3.own o k).1,.inl ⟨k,rfl⟩,(hs3.own o k).2.2⟩,MuLe.refl _,hs3.tag,hs3.tab⟩
   have hpe:Rel w3 I2 μ2 (.pob [0] 1 0) p:=TX hpp k2.sim.mle;have hqe:Rel w3 I2 μ2 (.pob [1] 1 0) q:=TX hqq k2.sim.mle;have r2:Rel w3 I2 μ2 (.pob [0] 1 0) (a3.tmps.getD 2 undef):=by rw[e5 2 (by omega)];exact TX (k2.rel 2) (MuLe.refl _)
   have r3:Rel w3 I2 μ2 (.pob [1] 1 0) (a3.tmps.getD 3 undef):=by rw[e5 3 (by omega)];exact TX (k2.rel 3) (MuLe.refl _)
   refine leaves_cons (by simp) (hinv w3) ((Wz rfl rfl rfl (fun _ h=>h) hsC hpe hqe (x:=.any) rfl g30 g31).mono fun e2 u w4 hh=>?_);obtain⟨rfl,rfl,H4,I4,μ4,hs4,g40,g41⟩:=hh;have kp:=hs4.kept;have ow:∀ o,BJ (μ2 o) (H3 o).ob=true→w.heap.size≤(μ2 o).b:=fun o k=>(hs3.own o k).2.1.resolve_left id;have hsz3:w.heap.size≤w3.heap.size:=hs3.kept.size;have hx:Ext I2 μ2 w3 I4 μ4 w4:=⟨hs4.old,fun b hb=>kp.block b (hs3.lt b hb) fun ⟨o,k,e⟩=>(hs3.own o k).1 (by rw[← e];exact hb),hs4.mle⟩;obtain⟨v,f1,f2⟩:=S7 (w:=w) (I:=I) (e:=E0) rfl hs4 (fun b hb=>by
    have hlt:=hs4.lt b hb;rcases hs4.new b hb with h | h
    ·exact(hs3.new b h).imp id fun h=>⟨h,hlt⟩
    ·exact .inr ⟨Nat.le_trans hsz3 h,hlt⟩) (fun o k=>by
    rcases (hs4.own o k).2.1 with ⟨h1,h2⟩ | h
    ·rw[h2];exact ow o h1
    ·exact Nat.le_trans hsz3 h) e3 (hx.rel r2) (hx.rel r3) g40 rfl ⟨Ab rfl,Ab rfl,Ae,Ae,Ab rfl,Ae,Ae,Ae,Ae,Ab rfl,Ae,trivial⟩ g41
   have kp0:=hs3.kept;exact⟨v,f1,v,rfl,⟨kp.os.trans kp0.os,kp.tape.trans kp0.tape,kp.output.trans kp0.output,Nat.le_trans kp0.size kp.size,fun b hb=>(kp.block b (Nat.lt_of_lt_of_le hb hsz3) fun ⟨o,k,e⟩=>by
    have:=ow o k;omega).trans (kp0.block b hb (fun ⟨_,h⟩=>h))⟩,f2⟩
end Go.Proofs.YtgkdikddjfgajaaGreatDoor
namespace Go.Proofs.YtgkdikddjfgajaaGreatDoor
set_option maxRecDepth 10000
open Go Go.G Go.Proofs Go.PL
def Q8 (s:List UInt8):E × Bool:=if (D3 s).2=true∧Bp 64 (D3 s).1=true then ((D3 s).1,true) else (E0,false)
theorem Yw {s:List UInt8} (h:(D3 s).2=true):CP (D3 s).1=s∧(s.length≤1000000000→Nf (D3 s).1):=by
 unfold D3 at h ⊢;cases e:Bd 64 s with
 |none=>rw[e] at h;cases h
 |some q=>
  obtain⟨x,n⟩:=q;rw[e] at h;simp at h;subst h;obtain⟨g1,g2⟩:=SE 64 _ _ _ e;exact⟨by rw[g1,List.take_length],g2⟩
set_option maxHeartbeats 1000000 in
theorem Wk {s:List UInt8} (hs:s.length≤1000000000):G.Spec Tryz.prog 33 [S s] (.tup [eX (Q8 s).1,iv (if (Q8 s).2=true then 0 else 11)]):=by
 have t1:=Vp hs;have hW:=@Yw s;refine Ap RL (by simp) fun w0 I0=>?_;unfold KZ Q8;generalize (D3 s).1=e at *;generalize (D3 s).2=ok at *;cases ok with
 |false=>
  simp;refine Af t1 rfl ?_;simp[Aa,splice];refine Bz (L:=[]) (x:=bv false) (q:=true) rfl (fun h=>by cases h) (fun h=>by cases h) rfl ?_;simp;refine Bz (L:=[]) (x:=S []) (q:=true) rfl (fun h=>by cases h) (fun h=>by cases h) rfl ?_;simp[Aa,splice];refine BL ⟨CK ⟨Ab rfl,Ab rfl,Ae,Ae,Ab rfl,Ae,Ae,Ae,Ae,Ab rfl,Ae,trivial⟩,Ab rfl,trivial⟩
 |true=>
  obtain⟨hsh,hwf⟩:=hW rfl;have hwf:=hwf hs;have t2:=Gy hwf;simp;refine Af t1 rfl ?_;simp[Aa,splice];refine Bz (q:=false) rfl (fun _=>t2) (fun _=>rfl) rfl ?_;cases hr:Bp 64 e with
  |false=>
   simp;refine Bz (L:=[]) (x:=S []) (q:=true) rfl (fun h=>by cases h) (fun h=>by cases h) rfl ?_;simp[Aa,splice];refine BL ⟨CK ⟨Ab rfl,Ab rfl,Ae,Ae,Ab rfl,Ae,Ae,Ae,Ae,Ab rfl,Ae,trivial⟩,Ab rfl,trivial⟩
  |true=>
   have t3:=VY e 64 hr hwf (by rw[hsh];exact hs);rw[hsh] at t3;simp;refine Bz (q:=false) rfl (fun _=>t3) (fun _=>rfl) rfl ?_;simp[Aa,splice,Vo];refine BL ⟨CK ⟨Ab rfl,Ab rfl,Ae,Ae,Ab rfl,Ae,Ae,Ae,Ae,Ab rfl,Ae,trivial⟩,Ab rfl,trivial⟩
end Go.Proofs.YtgkdikddjfgajaaGreatDoor
namespace Go.Proofs.YtgkdikddjfgajaaGreatDoor
open Go Go.G Go.Proofs Go.PL
theorem aD {e:E} (hr:Bp 64 e=true) (hw:Nf e):Q8 (CP e)=(e,true):=by
 have h:=eD e 64 hr hw [];rw[List.append_nil] at h;have hW:D3 (CP e)=(e,true):=by unfold D3;rw[h];simp
 unfold Q8;rw[hW,if_pos ⟨rfl,hr⟩]
end Go.Proofs.YtgkdikddjfgajaaGreatDoor
namespace Go.Proofs.YtgkdikddjfgajaaGreatDoor
set_option maxRecDepth 20000
open Go Go.G Go.Proofs Go.PL Go.RowKit
def Nn:E:=.mk 2 T0 T0 [⟨0,1,1,2⟩] [] 0 []
def GO:T:=.mk 1 [1] []
def KT:T:=.mk 1 [2] []
theorem jl:CG GO:=wfT_iff.2 ⟨by simp[GO,Bm],fun x hx=>by simp[GO] at hx;subst hx;exact⟨by omega,by omega⟩,by simp[GO],by simp[GO],by simp[GO]⟩
theorem TA:CG KT:=wfT_iff.2 ⟨by simp[KT,Bm],fun x hx=>by simp[KT] at hx;subst hx;exact⟨by omega,by omega⟩,by simp[KT],by simp[KT],by simp[KT]⟩
theorem fe:Aq GO=GO:=by kernel_rfl
theorem ic:Aq KT=KT:=by kernel_rfl
theorem aE:Ay 64 GO=true:=by decide +kernel
theorem R1:Ay 64 KT=true:=by decide +kernel
theorem GH:Km Nn=Nn:=by kernel_rfl
theorem Kw:Bp 64 Nn=true:=by decide +kernel
theorem QT:Nf Nn:=by
 unfold Nn;refine wfE_iff.2 ⟨by simp[E.kind,Bm],by simp[E.list,Bm],gS,gS,fun x hx=>?_,by simp[E.words],by simp[E.kids],by simp[E.ops],fun x hx=>by simp[E.kids] at hx,fun x hx=>by simp[E.ops] at hx⟩;simp[E.words] at hx;subst hx;exact⟨⟨by simp,by simp⟩,⟨by simp,by simp⟩,⟨by simp,by simp⟩,⟨by simp,by simp⟩⟩
theorem kV:jq Nn:=by
 unfold Nn;rw[jq];simp[iE,iQ,XF]
theorem UG:G.Spec Tryz.prog 94 [eX Nn] (eX Nn):=by
 have:=XK Nn kV
 rwa [GH] at this
theorem iT:G.Spec Tryz.prog 92 [eX Nn,tX GO] (.tup [tX KT,bv true]):=by
 obtain⟨u,U1,U2⟩:=vb 1 Nn GO KT QT jl TA (by simp[Sz,GO]) (by simp[Sz,KT]) (.inr (.inl ⟨[⟨0,1,1,2⟩],[],rfl,rfl,rfl,by
  refine .cons 0 0 1 1 2 [] (by omega) (fun j _ h=>by omega) (by decide) (by decide) (by decide +kernel) (by decide +kernel) (by decide +kernel) (by decide +kernel) (.nil 1 fun i hi=>?_)
  match i,hi with
  |i+1,_=>simp[GO,KT],.nil 0 fun i _=>by simp[GO,KT]⟩))
 have:=VZ U1
 rwa [U2,ic] at this
theorem VT:CP Nn=[115,123,48,58,49,58,49,58,50,124,125]:=by decide +kernel
theorem aj:G.Spec Tryz.prog 33 [S [115,123,48,58,49,58,49,58,50,124,125]] (.tup [eX Nn,iv 0]):=by
 have h:=Wk (s:=[115,123,48,58,49,58,49,58,50,124,125]) (by simp);rw[← VT,aD Kw QT,VT] at h;exact h
theorem bD:G.Spec Tryz.prog 18 [S [123,49,125]] (.tup [tX GO,iv 0]):=by
 have h:=Lk (s:=[123,49,125]) (by simp);have e1:BX AB [123,49,125]=GO:=by kernel_rfl
 have e2:Un AB [123,49,125]=true:=by decide +kernel
 rw[e1,e2] at h;exact h
theorem Z9:G.Spec Tryz.prog 30 [tX KT] (S [123,50,125]):=by
 have e:Am KT=[123,50,125]:=by decide +kernel
 have h:=Iw TA (by rw[e];simp)
 rwa [e] at h
theorem VX {e:E}:G.Spec Tryz.prog 93 [eX E0,eX e] (.tup [eX e,bv true]):=by
 refine Ap Ps (by simp) fun w0 I0=>?_;unfold JC;simp;exact Ab rfl
theorem Vd {e:E} (hn:G.Spec Tryz.prog 94 [eX e] (eX (Km e))):G.Spec Tryz.prog 57 [eX E0,eX e] (.tup [eX (Km e),bv true]):=by
 refine Ap QK (by simp) fun w0 I0=>?_;unfold Kc;simp;refine Af VX (by simp) ?_;simp[Aa];refine Af hn (by simp) ?_;simp[Aa];exact Ab rfl
end Go.Proofs.YtgkdikddjfgajaaGreatDoor
namespace Go.Proofs.YtgkdikddjfgajaaGreatDoor
set_option maxRecDepth 20000
open Go Go.G Go.Proofs Go.PL Go.RowKit
set_option maxHeartbeats 4000000 in
theorem ij {t u:T} {n:Int} {e:E} (hw:Nf e) (hr:Bp 64 e=true) (hn:G.Spec Tryz.prog 94 [eX e] (eX (Km e))) (hw2:Nf (Km e)) (hr2:Bp 64 (Km e)=true)
  (ha:G.Spec Tryz.prog 92 [eX e,tX t] (.tup [tX u,bv true])) (hu:CG u) (hru:Ay 64 u=true) :
  SpecK Tryz.prog 34 1 1 (fun ρ=>[.pob [ρ 0] 1 0,eX e]) (K2 t n E0) (fun _=>iv 0) (K2 u n (Km e)):=by
 have hd:=Px ha (fun _=>hu);have e1:MZ u true=(u,0):=by simp[MZ,hru]
 rw[e1] at hd;have hE:eL E0=[iv 0,iv 0,.sl false [],.sl false [],iv 0,.sl false [],.sl false [],.sl false [],.sl false [],iv 0,.sl false []]:=rfl;have hc:G.Spec Tryz.prog 57 [eX E0,eX e] (.tup [eX (Km e),bv true]):=Vd hn;refine Bq Rp (by simp) (by omega) (A3 (B4 (i:=0) (by omega)) (A3 (DR (H8 fun x hx=>?_)) EH)) LI (fun i h1 h2 p=>by omega) fun w0 I0 M0 m0 hM=>?_
 ·simp only[List.mem_cons,List.not_mem_nil,or_false] at hx;rcases hx with rfl | rfl | rfl | rfl | rfl | rfl | rfl | rfl | rfl | rfl | rfl<;>simp
 ·unfold KP;simp[EM];refine Af (Gy hw) (by simp) ?_;simp[hr,EM];refine Af hd (by simp) ?_;simp[Aa,EM];refine Af hc (by simp) ?_;simp[Aa,EM];refine Bz rfl (fun _=>Gy hw2) (fun _=>rfl) (by simp) ?_;simp[hr2,Aa,EM];refine Bf (r0:=iv 0) (by simp) rfl fun i hi p=>?_;have:i=0:=by omega
  subst this;by_cases p0:p=[]
  ·subst p0;simp[EM]
  ·simp[p0,Aa]
end Go.Proofs.YtgkdikddjfgajaaGreatDoor
namespace Go.Proofs.YtgkdikddjfgajaaGreatDoor
set_option maxRecDepth 20000
open Go Go.G Go.Proofs Go.PL Go.RowKit
def qH:Nat→Dk:=fun _=>(GO,0,E0)
def cV:Nat→Dk:=fun i=>if i=0 then (KT,0,Nn) else (GO,0,E0)
def jD:Nat→Dk:=fun i=>if i=0 then (KT,1,E0) else (GO,0,E0)
def Wn:List UInt8:=[116,114,101,101,32,123,49,125]
def ur:List UInt8:=[100,111,32,48,32,115,123,48,58,49,58,49,58,50,124,125]
def VV:List UInt8:=[115,121,110,99,32,48]
def Tl:List UInt8:=[104,117,98]
theorem XZ:G.Spec Tryz.prog 15 [S Wn,S [32]] (.sl true [S [116,114,101,101],S [123,49,125]]):=by
 have h:=G0 Wn (by decide);have e:Br Wn=[[116,114,101,101],[123,49,125]]:=by decide +kernel
 rwa [e] at h
theorem iW:G.Spec Tryz.prog 15 [S ur,S [32]] (.sl true [S [100,111],S [48],S [115,123,48,58,49,58,49,58,50,124,125]]):=by
 have h:=G0 ur (by decide);have e:Br ur=[[100,111],[48],[115,123,48,58,49,58,49,58,50,124,125]]:=by decide +kernel
 rwa [e] at h
theorem W8:G.Spec Tryz.prog 15 [S VV,S [32]] (.sl true [S [115,121,110,99],S [48]]):=by
 have h:=G0 VV (by decide);have e:Br VV=[[115,121,110,99],[48]]:=by decide +kernel
 rwa [e] at h
theorem bh:G.Spec Tryz.prog 15 [S Tl,S [32]] (.sl true [S Tl]):=by
 have h:=G0 Tl (by decide);have e:Br Tl=[Tl]:=by decide +kernel
 rwa [e] at h
theorem ZV {f t:T} {l:List E} {d:Nat→Dk}:gz (Cc f t l d) Wn [111,107] (Cc GO GO [] qH):=by
 have hb:=Xg (f:=f) (t':=t) (l:=l) (d:=d) jl aE (by decide);rw[fe] at hb;refine Bq Cg (by simp) (by omega) IV LI hb.n fun w0 I0 M0 m0 hM=>?_;unfold BR;simp;refine Af XZ (by simp) ?_;simp[Ct];refine Af bD (by simp) ?_;simp[Aa];refine Kf hb (fun i hi p=>?_) (fun i h1 h2 p=>?_) (by simp) (by simp) ?_
 ·rw[Ao (fun e=>by simp at e;omega),AG,if_pos hi]
 ·rw[Ao (fun e=>by simp at e;omega),AG,if_neg (by omega)];rfl
 simp;refine Af Lp (by simp) ?_;simp;exact Bf (r0:=S [111,107]) (by simp) rfl fun i hi p=>by
  show It (List.range 11) _ _ (i::p)=_;rw[AG,if_pos hi];rfl
theorem Ms {f t:T} {l:List E} {d:Nat→Dk} {H:Hp}:It (List.range 6) ((Cc f t l d).F id) H [0]=⟨1,.cells (J5 f id)⟩:=by
 rw[AG,if_pos (by omega),Kq,if_pos rfl]
theorem Qt {f t:T} {l:List E} {d d':Nat→Dk} {j:Nat} {H:Hp} {x:Nm→VOb} (hH:∀ i,i<6→∀ p,H (i::p)=(Cc f t l d).F id i p) (hd:∀ i,i ≠ j→d' i=d i) (hx:∀ p,x p=if p=[] then ⟨1,.cells (UY (d' j))⟩ else ⟨0,.none⟩) (i:Nat) (hi:i<6) (p:Nm):ov (j+2) x H (i::p)=(Cc f t l d').F id i p:=by
 rw[Bo];by_cases e:i=j+2
 ·subst e;rw[if_pos rfl,hx,Dx]
 ·rw[if_neg e,hH i hi p]
  match i,e with
  |0,_=>rw[Kq,Kq]
  |1,_=>rw[tellM_1,tellM_1]
  |i+2,e=>rw[Dx,Dx,hd i (by omega)]
theorem Zg {f t t':T} {l l':List E} {d:Nat→Dk} {H:Hp} {x:Nm→VOb} (hH:∀ i,i<6→∀ p,H (i::p)=(Cc f t l d).F id i p) (hx:∀ p,x p=if p=[] then ⟨1,.cells (Ip t' l')⟩ else ⟨0,.none⟩) (i:Nat) (hi:i<6) (p:Nm):ov 1 x H (i::p)=(Cc f t' l' d).F id i p:=by
 rw[Bo];by_cases e:i=1
 ·subst e;rw[if_pos rfl,hx,tellM_1]
 ·rw[if_neg e,hH i hi p]
  match i,e with
  |0,_=>rw[Kq,Kq]
  |i+2,e=>rw[Dx,Dx]
theorem kD:SpecK Tryz.prog 17 6 6 (fun ρ=>[.pob [ρ 0] 1 0,.sl true [S [100,111],S [48],S [115,123,48,58,49,58,49,58,50,124,125]]]) (Cc GO GO [] qH) (fun _=>S [111,107]) (Cc GO GO [] cV):=by
 have hd:=ij (t:=GO) (u:=KT) (n:=0) QT Kw (by rw[GH];exact UG) (by rw[GH];exact QT) (by rw[GH];exact Kw) iT TA R1;rw[GH] at hd;refine Bq LK (by simp) (by omega) (A3 (B4 (i:=0) (by omega)) (A3 yk EH)) LI (fun i h1 h2 p=>by omega) fun w0 I0 M0 m0 hM=>?_;unfold G1;simp;refine Af aj (by simp) ?_;simp[Aa,Ct];refine Af M3 (by simp) ?_;simp[Aa,Ms,J5];refine BD [2] hd (by simp) (fun i hi p=>?_) (fun i h1 h2=>by simp at h2;omega) (by simp) (by simp[List.isPrefixOf]) ?_
 ·have:i=0:=by omega
  subst this;rw[Ao (by simp),Zp,AG,if_pos (by omega)];exact(Dx (i:=0)).trans (by simp[qH,UY])
 simp[Aa];refine Af Lp (by simp) ?_;simp;refine Bf (k:=6) (r0:=S [111,107]) (by simp) rfl (Qt (j:=0) (d:=qH) (fun i hi p=>?_) (fun i hi=>by simp[qH,cV,hi]) (fun p=>by simp[cV,UY]));rw[Ao (fun e=>by simp at e;omega),AG,if_pos hi]
theorem lr:Se (Cc GO GO [] qH) ur [111,107] (Cc GO GO [] cV):=by
 refine Bq Cg (by simp) (by omega) IV LI (fun i h1 h2 p=>by omega) fun w0 I0 M0 m0 hM=>?_;unfold BR;simp;refine Af iW (by simp) ?_;simp;refine Kf kD (fun i hi p=>by rw[AG,if_pos hi]) (fun i h1 h2=>by omega) (by simp) (by simp) ?_;simp;exact Bf (r0:=S [111,107]) (by simp) rfl fun i hi p=>Mr hi
theorem bE:SpecK Tryz.prog 21 6 6 (fun ρ=>[.pob [ρ 0] 1 0,S [115,121,110,99],.pob [ρ 2] 1 0]) (Cc GO GO [] cV) (fun _=>S [111,107]) (Cc GO KT [Nn] jD):=by
 have hd:=W2 (t:=GO) (d:=KT) (u:=KT) (e:=Nn) QT Kw (by rw[GH];decide) (by rw[GH];exact UG) (by rw[GH];exact iT) TA R1;rw[GH] at hd;have hn:=TB (t:=KT) (n:=0) (e:=Nn);refine Bq LG (by simp) (by omega) (A3 (B4 (i:=0) (by omega)) (A3 LI (A3 (B4 (i:=2) (by omega)) EH))) LI (fun i h1 h2 p=>by omega) fun w0 I0 M0 m0 hM=>?_;unfold G4;simp;refine BD [2] hn (by simp) (fun i hi p=>?_) (fun i h1 h2=>by simp at h2;omega) (by simp) (by simp[List.isPrefixOf]) ?_
 ·have:i=0:=by omega
  subst this;rw[Zp,AG,if_pos (by omega)];exact(Dx (i:=0)).trans (by simp[cV,UY])
 simp[Aa,Ct,Ms,J5];refine BD [2,1] hd (by simp) (fun i hi p=>?_) (fun i h1 h2=>by simp at h2;omega) (by simp) (by simp[List.isPrefixOf]) ?_
 ·have:i=0∨i=1:=by omega
  rcases this with rfl | rfl
  ·rw[Bg (by omega)];simp
  ·rw[A9 (by omega),uC,Zp,Bo,if_neg (by omega),Ao (by simp),Ao (by simp),Ao (by simp),Ao (by simp),AG,if_pos (by omega),tellM_1];simp
 simp[Aa];refine Af Lp (by simp) ?_;simp;refine Bf (k:=6) (r0:=S [111,107]) (by simp) rfl (Qt (j:=0) (d:=cV) (fun i hi p=>Zg (t:=GO) (l:=[]) (fun i hi p=>?_) (fun p=>?_) i hi p) (fun i hi=>by simp[jD,cV,hi]) (fun p=>?_))
 ·refine Qt (j:=0) (d:=cV) (fun i hi p=>?_) (fun _ _=>rfl) (fun p=>by simp[cV,UY]) i hi p;rw[Ao (fun e=>by simp at e;omega),Ao (fun e=>by simp at e;omega),Ao (fun e=>by simp at e;omega),Ao (fun e=>by simp at e;omega),AG,if_pos hi]
 ·rw[A9 (by omega)];simp
 ·rw[Bg (by omega)];simp[jD,UY]
theorem Z6:Se (Cc GO GO [] cV) VV [111,107] (Cc GO KT [Nn] jD):=by
 refine Bq Cg (by simp) (by omega) IV LI (fun i h1 h2 p=>by omega) fun w0 I0 M0 m0 hM=>?_;unfold BR;simp;refine Af W8 (by simp) ?_;simp[Ct];refine Af M3 (by simp) ?_;simp[Ms,J5];refine Kf bE (fun i hi p=>by rw[AG,if_pos hi]) (fun i h1 h2=>by omega) (by simp) (by simp) ?_;simp;exact Bf (r0:=S [111,107]) (by simp) rfl fun i hi p=>Mr hi
theorem jU:SpecK Tryz.prog 16 6 6 (fun ρ=>[.pob [ρ 0] 1 0,S Tl]) (Cc GO KT [Nn] jD) (fun _=>S [123,50,125,32,49]) (Cc GO KT [Nn] jD):=by
 have hn:=Oz (t:=KT) (l:=[Nn]);have h1:=NP 1 (by omega) (by omega);have e1:Lib.itoa 1=[49]:=by decide +kernel
 rw[e1] at h1;refine Bq Hy (by simp) (by omega) IV LI (fun i h1 h2 p=>by omega) fun w0 I0 M0 m0 hM=>?_;unfold EZ;simp[Ct,Tl,Ms,J5];refine BD [1] hn (by simp) (fun i hi p=>?_) (fun i h1 h2=>by simp at h2;omega) (by simp) (by simp[List.isPrefixOf]) ?_
 ·have:i=0:=by omega
  subst this;rw[Zp,AG,if_pos (by omega)];exact tellM_1.trans (by simp)
 simp[Aa];refine Af Z9 (by simp) ?_;simp[Aa,BE (l:=[123,50,125]) (m:=[32]) (by simp)];refine Af h1 (by simp) ?_;simp[BE (l:=[123,50,125,32]) (m:=[49]) (by simp)];refine Bf (k:=6) (r0:=S [123,50,125,32,49]) (by simp) rfl (Zg (t:=KT) (l:=[Nn]) (fun i hi p=>?_) (fun p=>by simp));rw[Ao (fun e=>by simp at e;omega),AG,if_pos hi]
theorem iY:Se (Cc GO KT [Nn] jD) Tl [123,50,125,32,49] (Cc GO KT [Nn] jD):=by
 refine Bq Cg (by simp) (by omega) IV LI (fun i h1 h2 p=>by omega) fun w0 I0 M0 m0 hM=>?_;unfold BR;simp;refine Af bh (by simp) ?_;simp;refine Kf jU (fun i hi p=>by rw[AG,if_pos hi]) (fun i h1 h2=>by omega) (by simp) (by simp) ?_;simp;exact Bf (r0:=S [123,50,125,32,49]) (by simp) rfl fun i hi p=>Mr hi
noncomputable def rB:Code:=Tryz.f4.body.getD .ret
def rfA:Code→Code
 |.rangeFunc _ _ a _=>a
 |_=>.ret
def rfB:Code→Code
 |.rangeFunc _ _ _ b=>b
 |_=>.ret
noncomputable def rR0:Code:=WC rB
noncomputable def rR1:Code:=WC (LP rB)
noncomputable def rR2:Code:=WC (LP (LP rB))
noncomputable def rR3:Code:=WC (LP (LP (LP rB)))
noncomputable def rR4:Code:=WC (LP (LP (LP (LP rB))))
noncomputable def rX:Code:=LP (LP (LP (LP (LP rB))))
noncomputable def rR5:Code:=WC (WC rX)
noncomputable def rRf:Code:=bk1 (LP (WC rX))
noncomputable def uo:Code:=rfA rRf
noncomputable def yz:Code:=rfB rRf
noncomputable def rEnd:Code:=LP rX
theorem x9:rB = .seq rR0 (.seq rR1 (.seq rR2 (.seq rR3 (.seq rR4 (.seq (.seq rR5 (.block 0 (.rangeFunc (.tmp 13) #[14] uo yz))) rEnd))))):=by kernel_rfl
def rc6:CC:=.reg [co (some 6) (.assign (.tmp 14)) none] [3,4,5,6]
def dL:CC:=.block 1 (.seq (.seq (.reg [co (some 15) (.move (.tmp 6)) none,
   co (some 16) (.binOp .eql 9 (.tmp 15) (.const (.string ⟨#[]⟩)) 9) none] [3,4,5,6,16]) (.cond (.tmp 16) (.exit 1) .skip))
  (.seq (.seq (.reg [co (some 17) (.load 3 (.tmp 5)) none,
    co (some 18) (.binOp .add 3 (.tmp 17) (.const (.int .i64 1)) 3) none,
    co none (.store 3 (.tmp 5) (.tmp 18)) none] [3,4,5,6])
   (.seq (.reg [co (some 19) (.load 3 (.tmp 5)) none,
    co (some 20) (.binOp .gtr 3 (.tmp 19) (.const (.int .i64 200)) 3) none] [3,4,6,20])
    (.cond (.tmp 20) (.exit 0) .skip)))
  (.reg [co (some 21) (.load 25 (.tmp 3)) none,
   co (some 22) (.move (.tmp 6)) none,
   co (some 23) (.call { callee:=(.value (.func 9)),args:=#[.tmp 21,.tmp 22],argTypes:=#[25,9] }) none,
   co (some 24) (.binOp .add 9 (.tmp 23) (.const (.string ⟨#[10]⟩)) 9) none,
   co (some 25) (.call { callee:=(.value (.func 8)),args:=#[.tmp 4,.tmp 24],argTypes:=#[39,9] }) none] [])))
theorem o9:C8 27 uo [([3,4,5,6],[])]=some (rc6,[]):=by kernel_rfl
theorem pQ:C8 27 yz [([3,4,5,6,16],[]),([],[]),([],[]),([3,4,5,6],[]),([],[]),([3,4,6,20],[]),([],[]),([],[]),([],[])]=some (dL,[]):=by kernel_rfl
@[simp] theorem Ab5:B2 Tryz.prog 25=some 1:=by kernel_rfl
@[simp] theorem zo:Cu Tryz.prog 25=some false:=by kernel_rfl
abbrev rS (v:A):List (Nat × A):=[(3,.pob [5000] 1 0),(4,bp 5001),(5,.pob [5002] 1 0),(13,v)]
abbrev tp (l:List UInt8):List (Nat × A):=[(3,.pob [5000] 1 0),(4,bp 5001),(5,.pob [5002] 1 0),(6,S l)]
section
variable {c:Cx} (hP:c.P=Tryz.prog)
include hP
theorem nH {v:A} {l:List UInt8} {H:Hp}:WPC c rc6 (fun e st=>e = .normal∧st=⟨lk (tp l),H⟩) ⟨upd (lk (rS v)) 14 (S l),H⟩:=by
 unfold rc6;simp[hP]
theorem iP {H:Hp}:WPC c dL (fun e st=>st.H=H∧e = .normal) ⟨lk (tp []),H⟩:=by
 unfold dL;simp[hP,Ct]
theorem g8 {t:Tst} (h:Tinv t) (hn:200≤t.n) {l:List UInt8} (hl:l ≠ []) (r:List UInt8):WPC c dL (fun e st=>st.H=t.over.G r∧e = .exit 0) ⟨lk (tp l),t.G r⟩:=by
 have h1:=h.nn r;have h2:=h.nl;have e1:i64.wrap ((t.n:Int)+1)=(t.n:Int)+1:=Ih;have e2:(200:Int)<(t.n:Int)+1:=by omega
 unfold dL;simp[hP,hl,h1,e1,e2,Aa,h.tv r,Ct];show _∧_;refine⟨?_,rfl⟩;unfold Tst.over;simp
theorem fm {t:Tst} (h:Tinv t) (hn:t.n<200) {l o:List UInt8} (hl:l ≠ []) (ho:o.length<1000000000) {F':FamK 6} (hK:Se t.F l o F') (r:List UInt8):WPC c dL (fun e st=>st.H=(t.same o F').G r∧e = .normal) ⟨lk (tp l),t.G r⟩:=by
 have h1:=h.nn r;have h2:=h.nl;have h3:=h.ol;have hj:t.j≤201:=by have:=h.jn;omega
 have h4:t.n*1000000000≤201*1000000000:=Nat.mul_le_mul_right _ h2;have e1:i64.wrap ((t.n:Int)+1)=(t.n:Int)+1:=Ih;have e2:¬ (200:Int)<(t.n:Int)+1:=by omega
 unfold dL;simp[hP,hl,h1,e1,e2,Aa,h.tv r,Ct];refine BD (Jl t.j) hK (ir _) (fun i hi p=>?_) (fun i a b=>by have:i<6:=b;omega) (by simp[Jl]) (by simp) ?_
 ·have:=PG hj (Jj (l:=Jl t.j) hi);rw[Ao (fun e=>by simp at e;omega)];exact h.ro r i hi p
 simp[BE (l:=o) (m:=[10]) (by simp;omega)];refine Ai 5001 (Ij t.a t.out t.v (o++[10]) (by simp;omega)) (fun p=>?_) (by simp) (by simp) ?_
 ·rw[Gd,if_neg (fun hm=>by have:=PG hj hm;omega),Ao (fun e=>by simp at e)];exact h.bd r p
 simp;unfold Tst.same;simp
theorem fh {t:Tst} (h:Tinv t) (hn:t.n<200) {l o:List UInt8} (hl:l ≠ []) (ho:o.length<1000000000) {F':FamK 6} (hK:gz t.F l o F') (r:List UInt8):WPC c dL (fun e st=>st.H=(t.anew o F').G r∧e = .normal) ⟨lk (tp l),t.G r⟩:=by
 have h1:=h.nn r;have h2:=h.nl;have h3:=h.ol;have hj:t.j≤201:=by have:=h.jn;omega
 have h4:t.n*1000000000≤201*1000000000:=Nat.mul_le_mul_right _ h2;have e1:i64.wrap ((t.n:Int)+1)=(t.n:Int)+1:=Ih;have e2:¬ (200:Int)<(t.n:Int)+1:=by omega
 unfold dL;simp[hP,hl,h1,e1,e2,Aa,h.tv r,Ct];refine BD (ER t.j) hK (TR _) (fun i hi p=>?_) (fun i a b p=>?_) (by simp[ER]) (by simp) ?_
 ·have:=Tn hj (Jj (l:=ER t.j) (i:=i) (by simp[ER];omega));rw[Ao (fun e=>by simp at e;omega),MJ t.F (ρ:=DX (ER t.j)) (ρ':=DX (Jl t.j)) (fun i hi=>dA hi) hi,dA hi];exact h.ro r i hi p
 ·have hb:i<11:=b;have:i=6∨i=7∨i=8∨i=9∨i=10:=by omega
  have e:DX (ER t.j) i=5*t.j+i:=by rcases this with rfl | rfl | rfl | rfl | rfl<;>rfl
  rw[e,Ao (fun e=>by simp at e;omega)];exact h.fr r _ p (by omega) (by omega)
 simp[BE (l:=o) (m:=[10]) (by simp;omega)];refine Ai 5001 (Ij t.a t.out t.v (o++[10]) (by simp;omega)) (fun p=>?_) (by simp) (by simp) ?_
 ·rw[Gd,if_neg (fun hm=>by have:=Tn hj hm;omega),Ao (fun e=>by simp at e)];exact h.bd r p
 simp;unfold Tst.anew;simp
end
def TStep (a:Tst) (l:List UInt8) (b:Tst) (go:Bool):Prop:=
 (l=[]∧b=a∧go=true)∨(l ≠ []∧a.n=200∧b=a.over∧go=false) ∨
 (l ≠ []∧a.n<200∧go=true∧∃ o F',o.length<1000000000∧((Se a.F l o F'∧b=a.same o F')∨(gz a.F l o F'∧b=a.anew o F')))
theorem HY {c:Cx} {x:CC} {Q Q':Exit→Sta→Prop} {st:Sta} (h:WPC c x Q st) (hq:∀ e st,Q e st→Q' e st):WPC c x Q' st:=WPC.mono hq h
theorem TStep.inv {a b:Tst} {l:List UInt8} {go:Bool} (h:TStep a l b go) (ha:Tinv a):Tinv b:=by
 rcases h with ⟨_,rfl,_⟩ | ⟨_,h2,rfl,_⟩ | ⟨_,h2,_,o,F',h3,⟨_,rfl⟩ | ⟨_,rfl⟩⟩
 ·exact ha
 ·exact ha.over (by omega)
 ·exact ha.same h2 h3
 ·exact ha.anew h2 h3
theorem TStep.run {a b:Tst} {l:List UInt8} {go:Bool} (h:TStep a l b go) (ha:Tinv a) {c:Cx} (hP:c.P=Tryz.prog) (r:List UInt8):WPC c dL (fun e st=>st.H=b.G r∧((go=true∧e = .normal)∨(go=false∧e = .exit 0))) ⟨lk (tp l),a.G r⟩:=by
 rcases h with ⟨rfl,rfl,rfl⟩ | ⟨h1,h2,rfl,rfl⟩ | ⟨h1,h2,rfl,o,F',h3,⟨h4,rfl⟩ | ⟨h4,rfl⟩⟩
 ·have:=iP hP (H:=b.G r);refine HY this fun e st hh=>⟨hh.1,.inl ⟨rfl,hh.2⟩⟩
 ·have:=g8 hP ha (by omega) h1 r;refine HY this fun e st hh=>⟨hh.1,.inr ⟨rfl,hh.2⟩⟩
 ·have:=fm hP ha h2 h1 h3 h4 r;refine HY this fun e st hh=>⟨hh.1,.inl ⟨rfl,hh.2⟩⟩
 ·have:=fh hP ha h2 h1 h3 h4 r;refine HY this fun e st hh=>⟨hh.1,.inl ⟨rfl,hh.2⟩⟩
structure Trace (X:List UInt8) (e:Nat) (br:Bool) (sq:Nat→Tst):Prop where
 inv:Tinv (sq 0)
 len:X.length≤1000000000
 e1:1≤e
 more:∀ i,i+1<e→A6 (Av X i) 10 ≠ -1
 last:br=false→A6 (Av X (e-1)) 10 = -1
 st:∀ i,i<e→TStep (sq i) (F0 X i) (sq (i+1)) (decide (i+1<e) || !br)
theorem Trace.all {X:List UInt8} {e:Nat} {br:Bool} {sq:Nat→Tst} (h:Trace X e br sq):∀ i,i≤e→Tinv (sq i)
 |0,_=>h.inv
 |i+1,hi=>(h.st i (by omega)).inv (h.all i (by omega))
def jB (e:Nat) (sq:Nat→Tst) (i:Nat):List UInt8→Hp:=(sq (min i e)).G
theorem Trace.rounds {X:List UInt8} {e:Nat} {br:Bool} {sq:Nat→Tst} (h:Trace X e br sq) {c:Cx} (hP:c.P=Tryz.prog) (hds:c.ds=[]) (hn:c.n=27) {T:Array Value} (hT:T.size=c.n) {v:A} {l D fn:Nat} :
  Pz c T (lk (rS v)) l D fn 14 uo yz 0 5003 (jB e sq) X e br:=by
 have hall:∀ i,Tinv (sq (min i e)):=fun i=>h.all _ (by omega);refine⟨fun i r=>(hall i).bx r,fun i r r'=>(hall i).up r r',h.e1,h.len,h.more,h.last,fun i hi w I μ hs y hy=>?_⟩;have hm:c.P.follows .mixedOrders=true:=by rw[hP];exact mixed
 have e1:min i e=i:=by omega
 have e2:min (i+1) e=i+1:=by omega
 have hst:=h.st i hi;have hiv:=h.all i (by omega);have key:=Zz hm hds hT (p:=14) (by omega) (ax:=rc6) (bx:=dL) (assign:=uo) (body:=yz) (by rw[hn];exact B8 o9) (by rw[hn];exact B8 pQ) (by kernel_rfl) (by kernel_rfl) hs hy (b:=decide (i+1<e) || !br) (j:=0) (H':=jB e sq (i+1) (Av X i)) (fun c' h1 h2 h3=>by
  refine HY (nH (c:=c') (h1.trans hP) (v:=v) (l:=F0 X i) (H:=jB e sq i (Av X i))) fun e0 st0 hh=>⟨hh.1,fun c'' g1 g2 g3=>?_⟩;rw[hh.2];unfold jB;rw[e1,e2];refine HY (hst.run hiv (c:=c'') (g1.trans hP) (Av X i)) fun e3 st3 hh=>⟨hh.1,?_⟩;rcases hh.2 with k | k
  ·exact .inl k
  ·exact .inr k)
 rw[hP] at key;exact key
def fc0:CC:=.reg [co (some 2) (.assign (.const (.string ⟨#[]⟩))) none] [0]
def fc1:CC:=.reg [co (some 7) (.build 34 #[]) none,cn (some 8) (.box 34 (.tmp 7)) none [0],cn (some 3) (.alloc 25) none [5000],co none (.store 25 (.tmp 3) (.tmp 8)) none] [0,3]
def fc2:CC:=.reg [co (some 9) (.load 25 (.tmp 3)) none,co (some 10) (.build 29 #[]) none,
 co (some 11) (.call { callee:=(.value (.func 6)),args:=#[.tmp 9,.tmp 10],argTypes:=#[25,29] }) none] [0,3]
def fc3:CC:=.reg [cn (some 4) (.alloc 39) none [5001,777777,39]] [0,3,4]
def fc4:CC:=.reg [cn (some 5) (.alloc 3) none [5002],co none (.store 3 (.tmp 5) (.const (.int .i64 0))) none] [0,3,4,5]
def fc5:CC:=.reg [co (some 12) (.move (.tmp 0)) none,co (some 13) (.call { callee:=(.value (.func 7)),args:=#[.tmp 12,.const (.string ⟨#[10]⟩)],argTypes:=#[9,9] }) none] [3,4,5,13]
def fcE:CC:=.seq (.reg [co (some 26) (.call { callee:=(.value (.func 10)),args:=#[.tmp 4],argTypes:=#[39] }) none,co (some 2) (.assign (.tmp 26)) none] [2]) .ret
theorem py:C8 27 rR0 [([0],[])]=some (fc0,[]):=by kernel_rfl
theorem ql:C8 27 rR1 [([0,3],[(1,[0]),(2,[5000])])]=some (fc1,[]):=by kernel_rfl
theorem qN:C8 27 rR2 [([0,3],[])]=some (fc2,[]):=by kernel_rfl
theorem qY:C8 27 rR3 [([0,3,4],[(0,[5001,777777,39])])]=some (fc3,[]):=by kernel_rfl
theorem pj:C8 27 rR4 [([0,3,4,5],[(0,[5002])])]=some (fc4,[]):=by kernel_rfl
theorem pk:C8 27 rR5 [([3,4,5,13],[])]=some (fc5,[]):=by kernel_rfl
theorem nU:C8 27 rEnd [([2],[]),([],[])]=some (fcE,[]):=by kernel_rfl
@[simp] theorem tI:A1 Tryz.prog 25=some (.pointer none):=by kernel_rfl
@[simp] theorem uS:A1 Tryz.prog 34=some (.agg #[.int .i64 0,.slice none 0 0,.slice none 0 0,.pointer none,.pointer none,.pointer none,.pointer none,.pointer none]):=by kernel_rfl
@[simp] theorem Ack:B2 Tryz.prog 34=some 8:=by kernel_rfl
def U8:List A:=[iv 0,.sl true [],.sl true [],.v (.pointer none),.v (.pointer none),.v (.pointer none),.v (.pointer none),.v (.pointer none)]
theorem WR:∀ x,x ∈ U8→Eo x:=by simp[U8]
@[simp] theorem xe:Bw Tryz.prog 34 []=some (.agg U8):=by kernel_rfl
@[simp] theorem wF:A1 Tryz.prog 3=some (.int .i64 0):=by kernel_rfl
def fcX:CC:=.seq fc0 (.seq fc1 (.seq fc2 (.seq fc3 (.seq fc4 fc5))))
def F00:FamK 6:=Cc T0 (Aq T0) [] fun _=>(Aq T0,0,E0)
structure zH (H:Hp) (X:List UInt8):Prop where
 ro:∀ i,i<6→∀ p,H (DX (Jl 0) i::p)=F00.F (DX (Jl 0)) i p
 fr:∀ m p,5<m→m<5000→(H (m::p)).u=0
 tv:H [5000]=⟨1,.cells [.pob [0] 1 0]⟩
 bd:∀ p,H (5001::p)=if p=[777777,39] then ⟨1,.cells [.v (.pointer none),.sl true []]⟩ else ⟨0,.none⟩
 nn:H [5002]=⟨1,.cells [iv 0]⟩
 bx:Bx 5003 H X
theorem bH {c:Cx} (hP:c.P=Tryz.prog) {X:List UInt8}:WPC c fcX (fun e st=>e = .normal∧st.s=lk (rS (fD (DX [5003])))∧zH st.H X) ⟨Fk [S X],H0⟩:=by
 have hb:=(Vh (t:=T0) gS (by decide +kernel) (by decide) (cs:=U8) (hf:=WR) rfl).soft (xs:=fun ρ=>[.pob [ρ 0] 1 0,.agg [iv 0,.sl true [],.sl true []]]) (A3 (B4 (by omega)) (Hz fun x hx=>by simp at hx;subst hx;exact H8 fun y hy=>by simp at hy;rcases hy with rfl | rfl<;>simp)) (by simp[BC,A.soft]);unfold fcX fc0 fc1 fc2 fc3 fc4 fc5;simp[hP];refine⟨by simp[U8,A.ones,A.one,Value.oneCell'],?_⟩;refine BD [0,1,2,3,4,5] hb (by simp) (fun i hi p=>?_) (fun i h1 h2 p=>?_) (by simp) (by simp) ?_
 ·have:i=0:=by omega
  subst this;by_cases p0:p=[]
  ·subst p0;rw[eE,if_pos rfl];simp
  ·rw[eE,if_neg p0];simp[p0]
 ·have:i=1∨i=2∨i=3∨i=4∨i=5:=by simp at h2;omega
  rcases this with rfl | rfl | rfl | rfl | rfl<;>simp
 simp[hP];refine BD [5003] (Rz X [10]) (by simp) (fun i hi=>by omega) (fun i h1 h2 p=>?_) (by simp) (by simp) ?_
 ·have:i=0:=by simp at h2;omega
  subst this;simp
 simp;refine⟨fun i hi p=>?_,fun m p h1 h2=>?_,?_,fun p=>?_,?_,?_⟩
 ·have:i=0∨i=1∨i=2∨i=3∨i=4∨i=5:=by omega
  rcases this with rfl | rfl | rfl | rfl | rfl | rfl<;>simp[Jl,F00]<;>rfl
 ·have:m ≠ 0∧m ≠ 1∧m ≠ 2∧m ≠ 3∧m ≠ 4∧m ≠ 5∧m ≠ 5003∧m ≠ 5000∧m ≠ 5001∧m ≠ 5002:=by omega
  obtain⟨n0,n1,n2,n3,n4,n5,n6,n7,n8,n9⟩:=this;simp[Bo,n0,n1,n2,n3,n4,n5,n6,n7,n8,n9,Ne.symm n0,Ne.symm n7,Ne.symm n8,Ne.symm n9]
 ·simp
 ·by_cases p0:p=[777777,39]
  ·subst p0;simp
  ·simp[p0,Ne.symm p0]
 ·simp
 ·exact⟨by simp,by simp,by simp⟩
theorem Im {c:Cx} {x y:CC} {a b:Code} {Q:Exit→Sta→Prop} {K:Exit→Act→World→Prop} {st:Sta} (hm:c.P.follows .mixedOrders=true) (hdie:∀ t,¬ c.die t) (hi:Is c.n x a) (hs:BW a=true) (hq:∀ e st,Q e st→e = .normal) (h:WPC c (.seq x y) Q st)
  {act:Act} {w:World} {I:Nat→Prop} {μ:Mu} (hsr:SR c st act w I μ) (next:∀ st' a' w' I' μ',SR c st' a' w' I' μ'→WPC c y Q st'→b.wpIn Fence.wide 0 c.P K a' w'):(Code.seq a b).wpIn Fence.wide 0 c.P K act w:=by
 have h':WPC c x (Hk (WPC c y Q) Q) st:=h;refine wpIn_seq (wpIn_mono (Ly CT (m:=0) hdie hm hi hs h' act w I μ hsr) fun e a' w' hh=>?_);obtain⟨st',I',μ',g1,g2⟩:=hh;cases e<;>first | exact next st' a' w' I' μ' g1 g2 | exact absurd (hq _ _ g2) (by simp)
def Yf:Nm:=[5001,777777,39]
def Jm:Nm:=[5001,777777,39,777777,5]
def T2 (H:Hp):Hp:=Ar (Ar H Jm ⟨1,.arr 1 []⟩) Yf ⟨1,.cells [.v (.pointer none),.osl Jm 1 1 0 0]⟩
def vt (G:List UInt8→Hp):Tst:=⟨F00,0,[],0,1,false,G⟩
def KK (H:Hp) (r:List UInt8):Hp:=Ar (T2 H) [5003,0] ⟨1,.cells [S r]⟩
theorem Zh {H:Hp} {m:Nat} {p:Nm} (h:m ≠ 5001):T2 H (m::p)=H (m::p):=by
 unfold T2 Yf Jm;rw[Ao (fun e=>by simp at e;omega),Ao (fun e=>by simp at e;omega)]
theorem aV {H:Hp} {X:List UInt8} (h:zH H X):KK H X=T2 H:=by
 funext o;unfold KK Ar;by_cases e:o=[5003,0]
 ·subst e;rw[if_pos rfl,Zh (by omega)];exact h.bx.s.symm
 ·rw[if_neg e]
theorem Kv {H:Hp} {r:List UInt8} {m:Nat} {p:Nm} (h:m ≠ 5001) (h2:m::p ≠ [5003,0]):KK H r (m::p)=H (m::p):=by
 unfold KK;rw[Ao h2,Zh h]
theorem Ade {H:Hp} {X:List UInt8} (h:zH H X):Tinv (vt (KK H)):=by
 refine⟨fun r=>⟨?_,?_,?_⟩,fun r r'=>?_,fun r i hi p=>?_,fun r m p h1 h2=>?_,fun r=>?_,fun r p=>?_,fun r=>?_,?_,?_,?_⟩
 ·show KK H r [5003,0]=_;unfold KK;rw[A5]
 ·show KK H r [5003,1]=_;rw[Kv (by omega) (by simp)];exact h.bx.p
 ·show KK H r [5003,2]=_;rw[Kv (by omega) (by simp)];exact h.bx.z
 ·show Ar (Ar (T2 H) [5003,0] _) [5003,0] _=Ar (T2 H) [5003,0] _;funext o;unfold Ar;split<;>rfl
 ·have hlt:=PG (j:=0) (by omega) (Jj (l:=Jl 0) hi);show KK H r (DX (Jl 0) i::p)=_;rw[Kv (by omega) (fun e=>by simp at e;omega)];exact h.ro i hi p
 ·have h1':5*0+5<m:=h1;show(KK H r (m::p)).u=0;rw[Kv (by omega) (fun e=>by simp at e;omega)];exact h.fr m p (by omega) h2
 ·show KK H r [5000]=_;rw[Kv (by omega) (by simp)];exact h.tv
 ·show KK H r (5001::p)=(ND false [] 1).F 5001 p;unfold KK T2 Yf Jm;rw[Ao (by simp),dS];by_cases p0:p=[777777,39]
  ·subst p0;simp
  ·rw[if_neg p0,Ao (by simp[p0])];by_cases p1:p=[777777,39,777777,5]
   ·subst p1;simp
   ·rw[if_neg p1,Ao (by simp[p1]),h.bd p,if_neg p0]
 ·show KK H r [5002]=_;rw[Kv (by omega) (by simp)];exact h.nn
 ·exact CE 0
 ·exact Nat.zero_le _
 ·exact Nat.zero_le _
theorem j4 {c:Cx} (hP:c.P=Tryz.prog) {t:Tst} (h:Tinv t) (ha:t.a=true) (ho:t.out ≠ []) (r:List UInt8) {v:A}:WPC c fcE (fun e st=>e = .ret∧st.s 2=S t.out) ⟨lk (rS v),t.G r⟩:=by
 have h2:=h.nl;have h3:=h.ol;have h4:t.n*1000000000≤201*1000000000:=Nat.mul_le_mul_right _ h2;have hbd:=h.bd r;rw[ha] at hbd;unfold fcE;simp[hP];refine Ai 5001 (M8 t.out t.v ho (by omega)) hbd (by simp) (by simp) ?_;simp
theorem kf {X:List UInt8} {w:World} {I:Nat→Prop} {vs:Array Value} (hI:∀ b,I b→b<w.heap.size) (htb:Tabs Tryz.prog w I) (hl:vs.size=[S X].length) (hr:∀ (k:Nat) (y:A),[S X][k]? = some y→Rel w I Jq y (vs.getD k undef)) :
  SR (cx Tryz.prog w I 27) ⟨Fk [S X],H0⟩ ⟨vs++Array.replicate (Tryz.f4.ntmps-vs.size) undef,[]⟩ w I Jq:=by
 have hn2:Tryz.f4.ntmps=27:=by kernel_rfl
 rw[hn2];refine⟨HW hI htb,?_,rfl,fun t=>?_⟩
 ·simp at hl ⊢;show _=27;omega
 ·show Rel w I Jq (Fk [S X] t) _;unfold Fk;cases hq:[S X][t]? with
  |none=>exact .any _ _
  |some y=>
   have hlt:=(List.getElem?_eq_some_iff.1 hq).1;have e:(vs++Array.replicate (27-vs.size) undef).getD t undef=vs.getD t undef:=by
    simp only[Array.getD_eq_getD_getElem?];rw[Array.getElem?_append_left (by simp at hl hlt;omega)]
   show Rel w I Jq y ((vs++Array.replicate (27-vs.size) undef).getD t undef);rw[e];exact hr t y hq
theorem VU {X out:List UInt8} (ho:out ≠ []) (hT:∀ G,Tinv (vt G)→∃ e br sq,sq 0=vt G∧Trace X e br sq∧(sq e).out=out∧(sq e).a=true):G.Spec Tryz.prog 4 [S X] (S out):=by
 refine⟨by kernel_rfl,fun w I vs hI htb hl hr=>?_⟩;have hb:Tryz.f4.body=some rB:=by kernel_rfl
 refine(callsIn_wide (n:=0)).1 ?_;refine callsIn_of_wp_marks Tryz.func4 hb trivial ?_;have sr0:=kf hI htb hl hr;revert sr0;generalize (⟨vs++Array.replicate (Tryz.f4.ntmps-vs.size) undef,[]⟩:Act)=a0;intro sr0;obtain⟨c,hc⟩:∃ c,c=cx Tryz.prog w I 27:=⟨_,rfl⟩;have hcP:c.P=Tryz.prog:=by rw[hc];rfl
 have hcn:c.n=27:=by rw[hc];rfl
 have hcd:c.ds=[]:=by rw[hc];rfl
 have hdie:∀ t,¬ c.die t:=by rw[hc];exact fun t h=>h
 have hm:c.P.follows .mixedOrders=true:=by rw[hcP];exact mixed
 have hq:∀ (e:Exit) (st:Sta),(e = .normal∧st.s=lk (rS (fD (DX [5003])))∧zH st.H X)→e = .normal:=fun e st h=>h.1;rw[← hc] at sr0;rw[x9];have hf:=bH hcP (X:=X);unfold fcX at hf;rw[← hcP];refine Im hm hdie (by rw[hcn];exact B8 py) (by kernel_rfl) hq hf sr0 fun s1 a1 w1 I1 μ1 sr1 hf1=>?_;refine Im hm hdie (by rw[hcn];exact B8 ql) (by kernel_rfl) hq hf1 sr1 fun s2 a2 w2 I2 μ2 sr2 hf2=>?_;refine Im hm hdie (by rw[hcn];exact B8 qN) (by kernel_rfl) hq hf2 sr2 fun s3 a3 w3 I3 μ3 sr3 hf3=>?_;refine Im hm hdie (by rw[hcn];exact B8 qY) (by kernel_rfl) hq hf3 sr3 fun s4 a4 w4 I4 μ4 sr4 hf4=>?_;refine Im hm hdie (by rw[hcn];exact B8 pj) (by kernel_rfl) hq hf4 sr4 fun s5 a5 w5 I5 μ5 sr5 hf5=>?_;refine wpIn_seq (wpIn_seq (wpIn_mono (Ly CT (m:=0) hdie hm (by rw[hcn];exact B8 pk) (by kernel_rfl) hf5 a5 w5 I5 μ5 sr5) fun e a6 w6 hh=>?_));obtain⟨⟨s6,H6⟩,I6,μ6,sr6,rfl,hs6,hF0⟩:=hh;simp only at hs6 hF0;subst hs6;have hbd:=hF0.bd;obtain⟨I7,μ7,sr7⟩:=CZ (c:=c) (s:=lk (rS (fD (DX [5003])))) (H:=H6) (d:=Yf) (u:=1) (cs:=[.v (.pointer none),.sl true []]) 1 Jm 1 (by unfold Yf;rw[hbd];simp) rfl (by simp[Yf,Jm]) a6 w6 I6 μ6 sr6;have eb:(H6 Jm).u=0:=by unfold Jm;rw[hbd];simp
 have eH:Ar (Ar H6 Jm ⟨(H6 Jm).u+1,.arr 1 []⟩) Yf ⟨1,.cells (List.set [.v (.pointer none),.sl true []] 1 (.osl Jm ((H6 Jm).u+1) 1 0 0))⟩=T2 H6:=by rw[eb];rfl
 rw[eH] at sr7;obtain⟨e,br,sq,q0,tr,q1,q2⟩:=hT (KK H6) (Ade hF0);have eX:T2 H6=jB e sq 0 X:=by
  unfold jB;rw[show min 0 e=0 by omega,q0];exact(aV hF0).symm
 have ee:jB e sq e (Av X (e-1))=(sq e).G (Av X (e-1)):=by unfold jB;rw[Nat.min_self]
 rw[eX] at sr7;show(Code.block 0 (.rangeFunc (.tmp 13) #[14] uo yz)).wpIn Fence.wide 0 c.P _ a6 w6;refine wpIn_block ?_;refine gj hcd (g:=.tmp 13) (p:=14) (gf:=25) (caps:=[.pob [5003,1] 1 0,.pob [5003,0] 1 0,.pob [5003,2] 1 0]) (by simp[evs]) (by rw[hcP];kernel_rfl) (br:=br) (j:=0) (He:=jB e sq e (Av X (e-1))) (fun l D fn T lb w8 I8 μ8 hT8 hLS hlb hrel=>?_) (fun D a8 w8 I8 μ8 sr8 hFo hD=>?_) sr7
 ·have R:=tr.rounds hcP hcd hcn hT8 (v:=fD (DX [5003])) (l:=l) (D:=D) (fn:=fn);have key:=iH hcP R hLS (by simpa using hlb) hrel;rw[hcP];exact key
 ·have key:rEnd.wpIn Fence.wide 0 c.P (bodyPostM Fence.wide 0 c.P Tryz.f4 fun x w2=>∃ v,x = .returned v∧Below w.heap.size w w2∧Rel w2 (MA w I w2) Jq (S out) v) a8 w8:=by
   have hinv:=tr.all e (CE e);have srf:SRF { c with ds:=[{ target:=.collected D,args:=#[] }] } [(D,.deferred (some []))] ⟨lk (rS (fD (DX [5003]))),jB e sq e (Av X (e-1))⟩ a8 w8 I8 μ8:=⟨sr8,fun p hp=>by
    simp only[List.mem_cons,List.not_mem_nil,or_false] at hp;subst hp;exact⟨⟨hFo.i,hFo.o,hFo.lt,hFo.ge⟩,hD⟩⟩
   have k9:=D6 CT (m:=0) (c:={ c with ds:=[{ target:=.collected D,args:=#[] }] }) hm (x:=fcE) (a:=rEnd) (Q:=fun e st=>e = .ret∧st.s 2=S out) (by show Is c.n _ _;rw[hcn];exact B8 nU) (by kernel_rfl) (fun c' h1 h2 h3=>by
    have:=j4 (c:=c') (h1.trans hcP) hinv q2 (by rw[q1];exact ho) (Av X (e-1)) (v:=fD (DX [5003]));rw[q1] at this;rw[ee];exact this) srf
   refine wpIn_mono k9 fun e9 a9 w9 hh=>?_;obtain⟨st9,I9,μ9,g1,g2,rfl,g3⟩:=hh;show LeavesInM Fence.wide 0 c.P Tryz.f4 a9.tmps _ a9.defers .returning w9;rw[g1.sr.defers];obtain⟨f1,f2⟩:=g1.f (D,.deferred (some [])) (by simp);refine⟨by simp,.inl ⟨D,w9.putObj D (.deferred none),rfl,run_takeDeferred f2,?_⟩⟩;obtain⟨x1,x2⟩:=g1.sr.sim.other f1 (grownBy_putObj' w9 D (.deferred none));have sr10:SR { c with ds:=[{ target:=.collected D,args:=#[] }] } st9 a9 (w9.putObj D (.deferred none)) I9 μ9:=⟨x2,g1.sr.size,g1.sr.defers,fun t=>x1.rel (g1.sr.rel t)⟩;have hre:Tryz.f4.results.toList=[.tmp 2]:=by kernel_rfl
   obtain⟨v,k1,k2⟩:=HN (fn:=Tryz.f4) sr10 (x:=S out) (by rw[hre];simp[FW,g3]);have kp:=sr10.sim.kept;refine⟨v,k1,v,rfl,?_,?_⟩
   ·rw[hc] at kp;exact⟨kp.os,kp.tape,kp.output,kp.size,fun b hb=>kp.block b hb (fun ⟨_,h⟩=>h)⟩
   ·rw[VK k2];exact .v _ _
  cases br<;>exact key
def uB:List UInt8:=[116,114,101,101,32,123,49,125,10,100,111,32,48,32,115,123,48,58,49,58,49,58,50,124,125,10,115,121,110,99,32,48,10,104,117,98]
def oAw:List UInt8:=[111,107,10,111,107,10,111,107,10,123,50,125,32,49,10]
theorem nP:G.Spec Tryz.prog 4 [S uB] (S oAw):=by
 refine VU (by decide) fun G hG=>?_
 let t0:=vt G
 let t1:=t0.anew [111,107] (Cc GO GO [] qH)
 let t2:=t1.same [111,107] (Cc GO GO [] cV)
 let t3:=t2.same [111,107] (Cc GO KT [Nn] jD)
 let t4:=t3.same [123,50,125,32,49] (Cc GO KT [Nn] jD)
 have l0:F0 uB 0=Wn:=by decide +kernel
 have l1:F0 uB 1=ur:=by decide +kernel
 have l2:F0 uB 2=VV:=by decide +kernel
 have l3:F0 uB 3=Tl:=by decide +kernel
 refine⟨4,false,fun i=>match i with | 0=>t0 | 1=>t1 | 2=>t2 | 3=>t3 | _=>t4,rfl,⟨hG,by decide,by omega,fun i hi=>?_,fun _=>by decide +kernel,fun i hi=>?_⟩,rfl,rfl⟩
 ·have:i=0∨i=1∨i=2:=by omega
  rcases this with rfl | rfl | rfl<;>decide +kernel
 ·have:i=0∨i=1∨i=2∨i=3:=by omega
  rcases this with rfl | rfl | rfl | rfl
  ·rw[l0];exact .inr (.inr ⟨by decide,by show 0<200;omega,rfl,_,_,by decide,.inr ⟨ZV,rfl⟩⟩)
  ·rw[l1];exact .inr (.inr ⟨by decide,by show 0+1<200;omega,rfl,_,_,by decide,.inl ⟨lr,rfl⟩⟩)
  ·rw[l2];exact .inr (.inr ⟨by decide,by show 0+1+1<200;omega,rfl,_,_,by decide,.inl ⟨Z6,rfl⟩⟩)
  ·rw[l3];exact .inr (.inr ⟨by decide,by show 0+1+1+1<200;omega,rfl,_,_,by decide,.inl ⟨iY,rfl⟩⟩)
theorem TZ:G.Spec Tryz.prog 5 [] (bv true):=by
 have hr:G.Spec Tryz.prog 4 [S [116,114,101,101,32,123,49,125,10,100,111,32,48,32,115,123,48,58,49,58,49,58,50,124,125,10,115,121,110,99,32,48,10,104,117,98]] (S [111,107,10,111,107,10,111,107,10,123,50,125,32,49,10]):=nP;refine Ap LF (by simp) fun w0 I0=>?_;unfold G2;simp;refine Af hr (by simp) ?_;simp[Ct];exact Ab rfl
def xB:Nat→List UInt8
 |0=>[]
 |m+1=>[120,10]++xB m
theorem Y3:∀ m,xB m++[120,10]=xB (m+1)
 |0=>rfl
 |m+1=>by
  show [120,10]++xB m++[120,10]=[120,10]++xB (m+1);rw[List.append_assoc,Y3 m]
theorem W6:∀ m,(xB m).length=2*m
 |0=>rfl
 |m+1=>by
  show([120,10]++xB m).length=_;rw[List.length_append,W6 m];simp;omega
theorem Xc (m:Nat):A6 (xB (m+1)) 10=1:=by
 show A6 (120::10::xB m) 10=1;simp[A6]
theorem TE (m:Nat):∀ i,i≤m→Av (xB m) i=xB (m-i)
 |0,_=>rfl
 |i+1,h=>by
  rw[Av,TE m i (by omega)];obtain⟨k,hk⟩:∃ k,m-i=k+1:=⟨m-i-1,by omega⟩;rw[hk,Xc,show m-(i+1)=k by omega];rfl
theorem Pj {m i:Nat} (h:i<m):F0 (xB m) i=[120]∧A6 (Av (xB m) i) 10 ≠ -1:=by
 obtain⟨k,hk⟩:∃ k,m-i=k+1:=⟨m-i-1,by omega⟩;have e:Av (xB m) i=xB (k+1):=by rw[TE m i (by omega),hk]
 have h1:A6 (Av (xB m) i) 10 ≠ -1:=by rw[e,Xc];decide
 refine⟨?_,h1⟩;unfold F0;rw[if_neg h1,e,Xc];rfl
theorem YR (m:Nat):F0 (xB m) m=[]∧A6 (Av (xB m) m) 10 = -1:=by
 have e:Av (xB m) m=[]:=by rw[TE m m (CE m),Nat.sub_self];rfl
 have h1:A6 (Av (xB m) m) 10 = -1:=by rw[e];rfl
 refine⟨?_,h1⟩;unfold F0;rw[if_pos h1,e]
def Rk:Nat→List UInt8
 |0=>[]
 |k+1=>Rk k++(O7++[10])
theorem Qy:∀ k,(Rk k).length=9*k
 |0=>rfl
 |k+1=>by
  rw[Rk,List.length_append,Qy k];simp[O7];omega
def TY (G:List UInt8→Hp):Nat→Tst
 |0=>vt G
 |k+1=>(TY G k).same O7 F00
theorem xc (G:List UInt8→Hp):∀ k,(TY G k).F=F00
 |0=>rfl
 |k+1=>rfl
theorem gX (G:List UInt8→Hp):∀ k,(TY G k).n=k
 |0=>rfl
 |k+1=>by show(TY G k).n+1=k+1;rw[gX G k]
theorem fB (G:List UInt8→Hp):∀ k,(TY G k).out=Rk k
 |0=>rfl
 |k+1=>by show(TY G k).out++(O7++[10])=Rk k++(O7++[10]);rw[fB G k]
theorem VB (G:List UInt8→Hp) {k:Nat} (h:k<200):TStep (TY G k) [120] (TY G (k+1)) true:=by
 refine .inr (.inr ⟨by decide,by rw[gX];exact h,rfl,O7,F00,by decide,.inl ⟨?_,rfl⟩⟩);rw[xc];exact qh
theorem yI {m:Nat} (h1:1≤m) (h2:m≤300):G.Spec Tryz.prog 4 [S (xB m)] (S (Rk (min m 200))):=by
 have hl:=W6 m;have ho:=Qy (min m 200);refine VU (fun e=>by rw[e] at ho;simp at ho;omega) fun G hG=>?_;by_cases hm:m≤200
 ·have e0:min m 200=m:=by omega
  rw[e0];refine⟨m+1,false,fun i=>TY G (min i m),by simp[TY],⟨by simpa[TY] using hG,by omega,by omega,fun i hi=>(Pj (by omega)).2,fun _=>(YR m).2,fun i hi=>?_⟩,?_,?_⟩
  ·by_cases hi2:i<m
   ·rw[(Pj hi2).1,show min i m=i by omega,show min (i+1) m=i+1 by omega];have:(decide (i+1<m+1) || !false)=true:=by simp
    rw[this];exact VB G (by omega)
   ·have:i=m:=by omega
    subst this;rw[(YR i).1];refine .inl ⟨rfl,?_,by simp⟩;rw[show min (i+1) i=min i i by omega]
  ·show(TY G (min (m+1) m)).out=Rk m;rw[fB,show min (m+1) m=m by omega]
  ·show(TY G (min (m+1) m)).a=true;obtain⟨k,hk⟩:∃ k,min (m+1) m=k+1:=⟨m-1,by omega⟩;rw[hk];rfl
 ·have e0:min m 200=200:=by omega
  rw[e0];refine⟨201,true,fun i=>if i≤200 then TY G i else (TY G 200).over,by simp[TY],⟨by simpa[TY] using hG,by omega,by omega,fun i hi=>(Pj (by omega)).2,(fun h=>nomatch h),fun i hi=>?_⟩,?_,?_⟩
  ·rw[(Pj (by omega)).1];by_cases hi2:i<200
   ·have:(decide (i+1<201) || !true)=true:=by simp;omega
    rw[this];simp only[show i≤200 by omega,show i+1≤200 by omega,if_true];exact VB G hi2
   ·have:i=200:=by omega
    subst this;refine .inr (.inl ⟨by decide,?_,?_,by simp⟩)
    ·simp only[show 200≤200 by omega,if_true];exact gX G 200
    ·simp
  ·show(TY G 200).out=Rk 200;exact fB G 200
  ·show(TY G 200).a=true;rfl
theorem gR (n:Int):bits .and .i64 n 7=n % 8:=by
 have h7:(BitVec.ofInt 64 7).toNat=2 ^ 3-1:=by decide
 have key:(BitVec.ofInt 64 n &&& BitVec.ofInt 64 7).toNat=(n % ((2 ^ 64:Nat):Int)).toNat % 2 ^ 3:=by
  rw[BitVec.toNat_and,BitVec.toNat_ofInt,h7,Nat.and_two_pow_sub_one_eq_mod]
 show i64.wrap ((BitVec.ofInt 64 n &&& BitVec.ofInt 64 7).toNat:Nat)=n % 8;rw[key,IntKind.wrap_i64];omega
theorem kK {w0:World} {I0:Nat→Prop} {n0:Nat} {Q:Exit→Sta→Prop} {m:Nat} (hm:m≤300) (hq:Q (.exit 0) ⟨lk [(0,iv m),(3,S (xB m)),(4,iv m),(10,bv false)],Dj []⟩):∀ (j i:Nat),i+j=m →
  LoopC (cx Tryz.prog w0 I0 n0) Ca Q ⟨lk [(0,iv m),(3,S (xB i)),(4,iv i)],Dj []⟩:=by
 intro j;induction j with
 |zero=>
  intro i hi;have:i=m:=by omega
  subst this;refine Ad mixed Ca.eq_1 ?_;simp;exact hq
 |succ j ih=>
  intro i hi;have e1:=B0 i;have hl:=W6 i;have hgo:=ih (i+1) (by omega);rw[← Y3] at hgo;refine Ad mixed Ca.eq_1 ?_;simp[show i<m by omega,show(i:Int)<m by omega,BE (l:=xB i) (m:=[120,10]) (by simp;omega),e1];simpa using hgo
theorem Ri (n:Int):G.Spec Tryz.prog 3 [iv n] (bv true):=by
 refine Ap Jt (by simp) fun w0 I0=>?_;unfold Fs;obtain⟨k,hk⟩:∃ k:Nat,(k:Int)=n % 8:=⟨(n % 8).toNat,by omega⟩;obtain⟨m,hm⟩:∃ m:Nat,m=197+k:=⟨_,rfl⟩;have e1:i64.wrap (197+(k:Int))=m:=H9;have hr:=yI (m:=m) (by omega) (by omega);have ho:=Qy (min m 200);have hol:(S (Rk (min m 200)))=S (Rk (min m 200)):=rfl;simp[gR,← hk,e1];refine kK (by omega) ?_ m 0 (by omega);have key:WPC (cx Tryz.prog w0 I0 26) Dq (Rx Tryz.prog [ResultVar.tmp 2] (bv true)) ⟨lk [(0,iv (min m 200:Nat)),(3,S (xB m))],Dj []⟩:=by
  have e2:i64.wrap (9*((min m 200:Nat):Int))=((9*min m 200:Nat):Int):=H9;generalize min m 200=q at *;unfold Dq;simp;refine Af hr (by simp) ?_;simp[e2,ho];refine BK rfl (fun _=>TZ) (fun _=>rfl) rfl ?_;simp;exact Ak rfl
 simp;refine⟨fun h=>?_,fun h=>?_⟩
 ·have:min m 200=200:=by omega
  rw[this] at key;exact key
 ·have:min m 200=m:=by omega
  rw[this] at key;exact key
end Go.Proofs.YtgkdikddjfgajaaGreatDoor
namespace Go.Proofs.YtgkdikddjfgajaaGreatDoor
open Go Go.G Go.Proofs Go.PL Go.RowKit
theorem jR {m:Int} (h:(Lit.int .i64 m).wf=true):Bm m:=by
 simp[Lit.wf,IntKind.min,IntKind.max,IntKind.bits,IntKind.signed] at h;unfold Bm;omega
theorem Ww:Tryz.prog.underlying 3=some (.int .i64):=by kernel_rfl
theorem Adq {n:Nat} {b:List A} (h:Has Tryz.prog n 3 b):∃ m,Bm m∧b=[iv m]:=by
 cases n with
 |zero=>exact h.elim
 |succ n=>
  unfold Has at h;rw[Ww] at h;obtain⟨m,hm,rfl⟩:=h;exact⟨m,jR hm,rfl⟩
theorem oc (b:List A):mk Tryz.prog 3 b=b.headD .any:=by unfold mk;rw[Ww]
end Go.Proofs.YtgkdikddjfgajaaGreatDoor
namespace Go.Proofs.YtgkdikddjfgajaaGreatDoor
open Go Go.G Go.Proofs Go.PL Go.RowKit
set_option maxRecDepth 100000 in
theorem said_taleMost (xs:List A) (h:ArgsHas Tryz.prog Tryz.f3.params.toList xs):G.Spec Tryz.prog 3 xs (.v (.bool true)):=by
 have h:ArgsHas Tryz.prog [3] xs:=h
 match xs,h with
 |[a],⟨⟨n,b,h1,h2⟩,_⟩=>
  obtain⟨m,hm,rfl⟩:=Adq h1;rw[h2,oc];exact Ri m
end Go.Proofs.YtgkdikddjfgajaaGreatDoor
